/- What the laws below rest on: a framework for Go programs, and contracts of the functions that they reach. -/
import Derived.Test.YtagglahlkknacaaGreatDoorDjC
import Derived.Lib.DecodeN
set_option maxRecDepth 20000
set_option linter.unusedVariables false
set_option linter.unusedSimpArgs false
section
namespace Go.TVF
open Go.IntKind(i64 u8)
open Go
theorem or_i64 (x y:Nat) (hx:x<2^63) (hy:y<2^63):Ai .or .i64 (x:Int) (y:Int)=((x ||| y:Nat):Int):=by
 have h:x ||| y<2^63:=Nat.or_lt_two_pow hx hy
 show IntKind.wrap .i64 ((BitVec.ofInt 64 (x:Int) ||| BitVec.ofInt 64 (y:Int)).toNat:Int)=_
 simp only[BitVec.ofInt_natCast,BitVec.toNat_or,BitVec.toNat_ofNat]
 rw[Nat.mod_eq_of_lt (by omega),Nat.mod_eq_of_lt (by omega),Ae _ (by omega) (by omega)]
theorem and_i64 (x y:Nat) (hx:x<2^63) (hy:y<2^63):Ai .and .i64 (x:Int) (y:Int)=((x&&&y:Nat):Int):=by
 have h:x&&&y<2^63:=Nat.and_lt_two_pow _ hy
 show IntKind.wrap .i64 ((BitVec.ofInt 64 (x:Int)&&&BitVec.ofInt 64 (y:Int)).toNat:Int)=_
 simp only[BitVec.ofInt_natCast,BitVec.toNat_and,BitVec.toNat_ofNat]
 rw[Nat.mod_eq_of_lt (by omega),Nat.mod_eq_of_lt (by omega),Ae _ (by omega) (by omega)]
theorem R0 (x y:Nat) (hx:x<2^8) (hy:y<2^8):Ai .and .u8 (x:Int) (y:Int)=((x&&&y:Nat):Int):=by
 have h:x&&&y<2^8:=Nat.and_lt_two_pow _ hy
 show IntKind.wrap .u8 ((BitVec.ofInt 8 (x:Int)&&&BitVec.ofInt 8 (y:Int)).toNat:Int)=_
 simp only[BitVec.ofInt_natCast,BitVec.toNat_and,BitVec.toNat_ofNat]
 rw[Nat.mod_eq_of_lt (by omega),Nat.mod_eq_of_lt (by omega),H7 _ (by omega) (by omega)]
theorem QX (a b m:Nat) (hb:b<2^m) (h:a*2^m+b<2^63):Ai .or .i64 ((a*2^m:Nat):Int) (b:Int)=((a*2^m+b:Nat):Int):=by
 have hb':b<2^63:=by omega
 rw[or_i64 _ _ (by omega) hb',Nat.mul_comm a,Nat.two_pow_add_eq_or_of_lt hb]
theorem Ga (a m:Nat) (ha:a<2^63) (hm:m<63):Ai .and .i64 (a:Int) ((2^m-1:Nat):Int)=((a%2^m:Nat):Int):=by
 have:2^m<2^63:=Nat.pow_lt_pow_right (by decide) hm
 rw[and_i64 _ _ ha (by omega),Nat.and_two_pow_sub_one_eq_mod]
theorem Qm (n:Nat) (h:n<=255):IntKind.wrap .i64 (n:Int)=n:=Ae _ (by omega) (by omega)
theorem C7 {α:Type} (l:List α) (i:Nat) (d:α) (h:i<l.length):l.take (i+1)=l.take i++[l.getD i d]:=by
 rw[List.take_add_one,List.getElem?_eq_getElem h,List.getD,List.getElem?_eq_getElem h];rfl
theorem Pn (a c:UInt8):((a.toNat:Int)=(c.toNat:Int))↔a=c:=by
 constructor
 ·intro h;exact UInt8.toNat_inj.1 (by omega)
 ·intro h;rw[h]
theorem shr_i64 (x m:Nat) (h:m<=64):Int.fdiv (x:Int) (2^(min m (IntKind.bits .i64)))=((x/2^m:Nat):Int):=by
 rw[show min m (IntKind.bits .i64)=m from Nat.min_eq_left h,show(2:Int)^m=((2^m:Nat):Int) by simp,Int.fdiv_eq_ediv_of_nonneg _ (Int.natCast_nonneg _)]
 rfl
theorem PY {α:Type} (l:List α) (i j:Nat) (d:α):(l.drop i).getD j d=l.getD (i+j) d:=by
 simp[List.getD,List.getElem?_drop]
theorem Gk {α:Type} (l:List α) (i:Nat) (d:α) (h:i<l.length):l.drop i=l.getD i d::l.drop (i+1):=by
 rw[List.drop_eq_getElem_cons h,List.getD,List.getElem?_eq_getElem h];rfl
theorem Dd {α:Type} (l:List α) (i j:Nat):(l.take j).drop i=(l.drop i).take (j-i):=by
 rw[List.drop_take]
def bt (l:B8) (i:Nat):Nat:=(l.getD i 0).toNat
theorem Ll (l:B8) (i:Nat):bt l i<256:=(l.getD i 0).toNat_lt
theorem Df (l:B8) (i j:Nat):bt (l.drop i) j=bt l (i+j):=by simp[bt,PY]
def dN (l:B8):Nat×Nat:=Lib.decodeN l.length (bt l 0) (bt l 1) (bt l 2) (bt l 3)
def ul (l:B8):Nat:=if l=[]∨dN l=(65533,1)then 0 else(dN l).2
def ur (l:B8):Nat:=(dN l).1
def AE (r:Nat):Prop:=r<=1114111/\(r<55296∨57343<r)
instance (r:Nat):Decidable (AE r):=by unfold AE;infer_instance
def CR (r:Nat):B8:=
 if r<128 then [UInt8.ofNat r]else if r<2048 then [UInt8.ofNat (192+r/64),UInt8.ofNat (128+r%64)]
 else if r<65536 then [UInt8.ofNat (224+r/4096),UInt8.ofNat (128+r/64%64),UInt8.ofNat (128+r%64)]
 else [UInt8.ofNat (240+r/262144),UInt8.ofNat (128+r/4096%64),UInt8.ofNat (128+r/64%64),UInt8.ofNat (128+r%64)]
theorem HN (n:Nat) (c:UInt8):UInt8.ofNat n=c↔n%256=c.toNat:=by
 rw[<-UInt8.toNat_inj];simp
theorem Mu (l:B8) (h:1<=l.length):l.take 1=[l.getD 0 0]:=by
 rw[C7 l 0 0 (by omega)];rfl
theorem Mt (l:B8) (h:2<=l.length):l.take 2=[l.getD 0 0,l.getD 1 0]:=by
 rw[C7 l 1 0 (by omega),Mu l (by omega)];rfl
theorem JG (l:B8) (h:3<=l.length):l.take 3=[l.getD 0 0,l.getD 1 0,l.getD 2 0]:=by
 rw[C7 l 2 0 (by omega),Mt l (by omega)];rfl
theorem PC (l:B8) (h:4<=l.length):l.take 4=[l.getD 0 0,l.getD 1 0,l.getD 2 0,l.getD 3 0]:=by
 rw[C7 l 3 0 (by omega),JG l (by omega)];rfl
def rsz (b0:Nat):Nat:=if 240<=b0 then 4 else if 224<=b0 then 3 else if 192<=b0 then 2 else 1
def rb0 (b0:Nat):Nat:=if 240<=b0 then b0%8 else if 224<=b0 then b0%16 else if 192<=b0 then b0%32 else b0
def FY (l:B8) (r0:Nat):Nat->Nat
 | 0=>r0
 | j+1=>FY l r0 j*64+bt l (j+1)%64
theorem OU (l:B8) (r0:Nat) (h:r0<256):∀j,FY l r0 j<256*64^j
 | 0=>by simpa [FY]using h
 | j+1=>by
  have:=OU l r0 h j
  have h2:=Nat.mod_lt (bt l (j+1)) (show 0<64 by omega)
  simp only[FY,Nat.pow_succ]
  omega
theorem rb0_lt (b0:Nat) (h:b0<256):rb0 b0<256:=by
 unfold rb0
 repeat' split
 all_goals omega
theorem LE (b0:Nat):1<=rsz b0/\rsz b0<=4:=by
 unfold rsz
 repeat' split
 all_goals omega
def ML (l:B8):Nat×Nat:=
 let size:=rsz (bt l 0)
 let r:=FY l (rb0 (bt l 0)) (size-1)
 if l.length<size then(0,0)else if AE r/\CR r=l.take size then(r,size)else(0,0)
theorem H2 {a b:UInt8} {x y:B8}:(a::x=b::y)↔a=b/\x=y:=by simp
set_option maxHeartbeats 4000000 in
theorem Gg (l:B8) (h:l≠ []):ML l=if ul l=0 then(0,0)else(ur l,ul l):=by
 have hl:1<=l.length:=by cases l with | nil=>exact absurd rfl h | cons a r=>simp
 have h0:=Ll l 0
 have h1:=Ll l 1
 have h2:=Ll l 2
 have h3:=Ll l 3
 have e0:(l.getD 0 0).toNat=bt l 0:=rfl
 have e1:(l.getD 1 0).toNat=bt l 1:=rfl
 have e2:(l.getD 2 0).toNat=bt l 2:=rfl
 have e3:(l.getD 3 0).toNat=bt l 3:=rfl
 have hul:ul l=if dN l=(65533,1)then 0 else(dN l).2:=by simp[ul,h]
 rw[hul,ur]
 unfold dN
 generalize hb0:bt l 0=b0 at*
 generalize hb1:bt l 1=b1 at*
 generalize hb2:bt l 2=b2 at*
 generalize hb3:bt l 3=b3 at*
 unfold ML
 simp only[hb0]
 by_cases c4:240<=b0
 ·have r4:rsz b0=4:=by unfold rsz;rw[if_pos c4]
  have rb:rb0 b0=b0%8:=by unfold rb0;rw[if_pos c4]
  rw[r4,rb]
  simp only[Nat.reduceSub,FY,hb1,hb2,hb3,Nat.zero_add,Nat.reduceAdd]
  by_cases hn:l.length<4
  ·rw[if_pos hn]
   have:Lib.decodeN l.length b0 b1 b2 b3=(65533,1):=by
    unfold Lib.decodeN
    rw[if_neg (by omega),if_neg (by omega),if_neg (by omega),if_neg (by omega)]
   rw[this];simp
  ·rw[if_neg hn]
   have hEnc:(AE (((b0%8*64+b1%64)*64+b2%64)*64+b3%64)/\CR (((b0%8*64+b1%64)*64+b2%64)*64+b3%64)=l.take 4)↔(b0/8=30/\b1/64=2/\b2/64=2/\b3/64=2/\65536<=((b0%8*64+b1%64)*64+b2%64)*64+b3%64/\((b0%8*64+b1%64)*64+b2%64)*64+b3%64<=1114111):=by
    rw[PC l (by omega)]
    generalize hr:((b0%8*64+b1%64)*64+b2%64)*64+b3%64=r
    unfold AE CR
    by_cases k1:r<128
    ·rw[if_pos k1];simp;omega
    ·rw[if_neg k1]
     by_cases k2:r<2048
     ·rw[if_pos k2];simp;omega
     ·rw[if_neg k2]
      by_cases k3:r<65536
      ·rw[if_pos k3];simp;omega
      ·rw[if_neg k3]
       simp only[H2,HN,e0,e1,e2,e3,and_true]
       omega
   by_cases hE:b0/8=30/\b1/64=2/\b2/64=2/\b3/64=2/\65536<=((b0%8*64+b1%64)*64+b2%64)*64+b3%64/\((b0%8*64+b1%64)*64+b2%64)*64+b3%64<=1114111
   ·rw[if_pos (hEnc.2 hE)]
    have:Lib.decodeN l.length b0 b1 b2 b3=(((b0%8*64+b1%64)*64+b2%64)*64+b3%64,4):=by
     unfold Lib.decodeN
     rw[if_neg (by omega),if_neg (by omega),if_neg (by omega),if_pos (by omega),if_pos (by omega)]
     simp only[Prod.mk.injEq,and_true];omega
    rw[this];simp
   ·rw[if_neg (fun hh=>hE (hEnc.1 hh))]
    have:Lib.decodeN l.length b0 b1 b2 b3=(65533,1):=by
     unfold Lib.decodeN
     rw[if_neg (by omega),if_neg (by omega),if_neg (by omega)]
     split
     ·rw[if_neg (by omega)]
     ·rfl
    rw[this];simp
 ·by_cases c3:224<=b0
  ·have r4:rsz b0=3:=by unfold rsz;rw[if_neg c4,if_pos c3]
   have rb:rb0 b0=b0%16:=by unfold rb0;rw[if_neg c4,if_pos c3]
   rw[r4,rb]
   simp only[Nat.reduceSub,FY,hb1,hb2,Nat.zero_add,Nat.reduceAdd]
   by_cases hn:l.length<3
   ·rw[if_pos hn]
    have:Lib.decodeN l.length b0 b1 b2 b3=(65533,1):=by
     unfold Lib.decodeN
     rw[if_neg (by omega),if_neg (by omega),if_neg (by omega),if_neg (by omega)]
    rw[this];simp
   ·rw[if_neg hn]
    have hEnc:(AE ((b0%16*64+b1%64)*64+b2%64)/\CR ((b0%16*64+b1%64)*64+b2%64)=l.take 3)↔(b1/64=2/\b2/64=2/\2048<=(b0%16*64+b1%64)*64+b2%64/\AE ((b0%16*64+b1%64)*64+b2%64)):=by
     rw[JG l (by omega)]
     generalize hr:(b0%16*64+b1%64)*64+b2%64=r
     unfold AE CR
     by_cases k1:r<128
     ·rw[if_pos k1];simp;omega
     ·rw[if_neg k1]
      by_cases k2:r<2048
      ·rw[if_pos k2];simp;omega
      ·rw[if_neg k2]
       by_cases k3:r<65536
       ·rw[if_pos k3]
        simp only[H2,HN,e0,e1,e2,and_true]
        omega
       ·omega
    by_cases hE:b1/64=2/\b2/64=2/\2048<=(b0%16*64+b1%64)*64+b2%64/\AE ((b0%16*64+b1%64)*64+b2%64)
    ·rw[if_pos (hEnc.2 hE)]
     have:Lib.decodeN l.length b0 b1 b2 b3=((b0%16*64+b1%64)*64+b2%64,3):=by
      unfold AE at hE
      unfold Lib.decodeN
      rw[if_neg (by omega),if_neg (by omega),if_pos (by omega),if_pos (by omega)]
      simp only[Prod.mk.injEq,and_true];omega
     rw[this];simp
    ·rw[if_neg (fun hh=>hE (hEnc.1 hh))]
     have:Lib.decodeN l.length b0 b1 b2 b3=(65533,1):=by
      unfold AE at hE
      unfold Lib.decodeN
      rw[if_neg (by omega),if_neg (by omega)]
      split
      ·rw[if_neg (by omega)]
      ·rw[if_neg (by omega)]
     rw[this];simp
  ·by_cases c2:192<=b0
   ·have r4:rsz b0=2:=by unfold rsz;rw[if_neg c4,if_neg c3,if_pos c2]
    have rb:rb0 b0=b0%32:=by unfold rb0;rw[if_neg c4,if_neg c3,if_pos c2]
    rw[r4,rb]
    simp only[Nat.reduceSub,FY,hb1,Nat.zero_add,Nat.reduceAdd]
    by_cases hn:l.length<2
    ·rw[if_pos hn]
     have:Lib.decodeN l.length b0 b1 b2 b3=(65533,1):=by
      unfold Lib.decodeN
      rw[if_neg (by omega),if_neg (by omega),if_neg (by omega),if_neg (by omega)]
     rw[this];simp
    ·rw[if_neg hn]
     have hEnc:(AE (b0%32*64+b1%64)/\CR (b0%32*64+b1%64)=l.take 2)↔(b1/64=2/\128<=b0%32*64+b1%64):=by
      rw[Mt l (by omega)]
      generalize hr:b0%32*64+b1%64=r
      unfold AE CR
      by_cases k1:r<128
      ·rw[if_pos k1];simp;omega
      ·rw[if_neg k1,if_pos (by omega)]
       simp only[H2,HN,e0,e1,and_true]
       omega
     by_cases hE:b1/64=2/\128<=b0%32*64+b1%64
     ·rw[if_pos (hEnc.2 hE)]
      have:Lib.decodeN l.length b0 b1 b2 b3=(b0%32*64+b1%64,2):=by
       unfold Lib.decodeN
       rw[if_neg (by omega),if_pos (by omega),if_pos (by omega)]
      rw[this];simp
     ·rw[if_neg (fun hh=>hE (hEnc.1 hh))]
      have:Lib.decodeN l.length b0 b1 b2 b3=(65533,1):=by
       unfold Lib.decodeN
       rw[if_neg (by omega)]
       split
       ·rw[if_neg (by omega)]
       ·rw[if_neg (by omega),if_neg (by omega)]
      rw[this];simp
   ·have r4:rsz b0=1:=by unfold rsz;rw[if_neg c4,if_neg c3,if_neg c2]
    have rb:rb0 b0=b0:=by unfold rb0;rw[if_neg c4,if_neg c3,if_neg c2]
    rw[r4,rb]
    simp only[Nat.reduceSub,FY]
    rw[if_neg (by omega),Mu l hl]
    have hEnc:(AE b0/\CR b0=[l.getD 0 0])↔b0<128:=by
     unfold AE CR
     by_cases k1:b0<128
     ·rw[if_pos k1];simp only[H2,HN,e0,and_true];omega
     ·rw[if_neg k1,if_pos (by omega)];simp;omega
    by_cases hE:b0<128
    ·rw[if_pos (hEnc.2 hE)]
     have:Lib.decodeN l.length b0 b1 b2 b3=(b0,1):=by unfold Lib.decodeN;rw[if_pos hE]
     rw[this,if_neg (by simp;omega)]
     simp only[Prod.mk.injEq]
     rw[if_neg (by omega)]
     simp
    ·rw[if_neg (fun hh=>hE (hEnc.1 hh))]
     have:Lib.decodeN l.length b0 b1 b2 b3=(65533,1):=by
      unfold Lib.decodeN
      rw[if_neg (by omega),if_neg (by omega),if_neg (by omega),if_neg (by omega)]
     rw[this];simp
theorem Lu (l:B8) (h:ul l≠0):AE (ur l)/\CR (ur l)=l.take (ul l)/\ul l<=l.length/\ul l<=4:=by
 have hne:l≠ []:=fun h0=>h (by simp[ul,h0])
 have e:=Gg l hne
 rw[if_neg h]at e
 unfold ML at e
 simp only at e
 split at e
 ·simp only[Prod.mk.injEq]at e;omega
 ·split at e
  ·rename_i hn hc
   simp only[Prod.mk.injEq]at e
   rw[<-e.1,<-e.2]
   exact⟨hc.1,hc.2,by omega,(LE _).2⟩
  ·simp only[Prod.mk.injEq]at e;omega
theorem IQ (l:B8):ul l<=l.length:=by
 by_cases h:ul l=0
 ·omega
 ·exact(Lu l h).2.2.1
theorem FJ (l:B8) (h:l≠ []) (hb:bt l 0<128):ul l=1/\ur l=bt l 0:=by
 have:dN l=(bt l 0,1):=by unfold dN Lib.decodeN;rw[if_pos hb]
 unfold ul ur
 rw[this,if_neg (by simp[h];omega)]
 exact⟨rfl,rfl⟩
theorem Js (l:B8) (h:l≠ []):ul l=0↔dN l=(65533,1):=by
 have hul:ul l=if dN l=(65533,1)then 0 else(dN l).2:=by simp[ul,h]
 rw[hul]
 constructor
 ·intro h0
  by_cases hd:dN l=(65533,1)
  ·exact hd
  ·rw[if_neg hd]at h0
   exfalso
   unfold dN Lib.decodeN at h0
   repeat' split at h0
   all_goals simp at h0
 ·intro h0;rw[if_pos h0]
theorem Ok (l:B8) (h:ul l≠0):dN l=(ur l,ul l):=by
 have hne:l≠ []:=fun h0=>h (by simp[ul,h0])
 have hul:ul l=if dN l=(65533,1)then 0 else(dN l).2:=by simp[ul,hne]
 have hd:dN l≠(65533,1):=fun hd=>h ((Js l hne).2 hd)
 rw[if_neg hd]at hul
 rw[hul];rfl
theorem Qu (l:B8) (h:ul l≠0):¬(ur l=65533/\ul l=1):=by
 intro hh
 have hne:l≠ []:=fun h0=>h (by simp[ul,h0])
 have:=Ok l h
 rw[hh.1,hh.2]at this
 exact h ((Js l hne).2 this)
def vlen (l:B8):Nat:=if h:ul l=0 then 0 else ul l+vlen (l.drop (ul l))
termination_by l.length
decreasing_by
 have:=IQ l
 simp only[List.length_drop];omega
theorem Cy (l:B8) (h:ul l=0):vlen l=0:=by rw[vlen,dif_pos h]
theorem Cz (l:B8) (h:ul l≠0):vlen l=ul l+vlen (l.drop (ul l)):=by rw[vlen,dif_neg h]
theorem OM:∀(n:Nat) (l:B8),l.length<=n->vlen l<=l.length
 | 0,l,h=>by
  have:l=[]:=List.eq_nil_of_length_eq_zero (by omega)
  subst this
  rw[Cy _ (by simp[ul])];simp
 | n+1,l,h=>by
  by_cases h0:ul l=0
  ·rw[Cy l h0];omega
  ·have h1:=IQ l
   have h2:=OM n (l.drop (ul l)) (by simp only[List.length_drop];omega)
   rw[Cz l h0]
   simp only[List.length_drop]at h2;omega
end Go.TVF
end
namespace Go.TVF
open Go.IntKind(i64 u8)
open Go Go.Proofs
section
def G3 (n:Nat):B8:=if h:n=0 then []else G3 (n/10)++[(48+n%10).toUInt8]
termination_by n
decreasing_by omega
theorem EF:G3 0=[]:=by unfold G3;rw[dif_pos rfl]
theorem EG {n:Nat} (h:0<n):G3 n=G3 (n/10)++[(48+n%10).toUInt8]:=by
 rw[G3.eq_def,dif_neg (by omega)]
theorem J0:∀(k n:Nat),n<10^k->(G3 n).length<=k
 | 0,n,h=>by rw[show n=0 by simpa using h,EF];simp
 | k+1,n,h=>by
  by_cases h0:n=0
  ·rw[h0,EF];simp
  ·rw[EG (by omega),List.length_append]
   have:=J0 k (n/10) (by rw[Nat.div_lt_iff_lt_mul (by omega)];rw[Nat.pow_succ]at h;exact h)
   simp only[List.length_cons,List.length_nil];omega
def whN (n:Nat):B8:=if n=0 then [48]else G3 n
def Kf (p:Int):B8:=101::(if p<1 then 45::whN (1-p).toNat else whN (p-1).toNat)
def dcT (neg:Bool) (dg:B8) (ex:Int):B8:=
 if dg=[]then [48]else(if neg then [45]else [])++
  (if 0<=ex/\dg.length+ex<=21 then dg++List.replicate ex.toNat 48
  else if ex<0/\1<=dg.length+ex/\dg.length+ex<=21 then dg.take (dg.length+ex).toNat++46::dg.drop (dg.length+ex).toNat
  else if-5<=dg.length+ex/\dg.length+ex<=0 then 48::46::(List.replicate (-(dg.length+ex)).toNat 48++dg)
  else dg.take 1++((if 1<dg.length then 46::dg.drop 1 else [])++Kf (dg.length+ex)))
def AS:Nat->Nat->B8
 | 0,_=>[]
 | w+1,n=>AS w (n/10)++[(48+n%10).toUInt8]
theorem AR:∀w n,(AS w n).length=w
 | 0,_=>rfl
 | w+1,n=>by simp[AS,AR w]
def Av (c:UInt8):Prop:=48<=c.toNat/\c.toNat<=57
instance (c:UInt8):Decidable (Av c):=inferInstanceAs (Decidable (_/\_))
def AT (l:B8):Nat:=(l.reverse.takeWhile (·==48)).length
def Ce (neg:Bool) (dg:B8) (ex:Int):Prop:=
 (dg=[]->neg=false/\ex=0)/\(dg≠ []->dg.length<=120/\(∀c,c∈dg->Av c)/\dg.getD 0 0≠48/\AT dg=0/\ -400<=ex/\ex<=400)
instance (neg:Bool) (dg:B8) (ex:Int):Decidable (Ce neg dg ex):=inferInstanceAs (Decidable ((_->_)/\(_->_)))
def BD (k d n z:Int):Prop:=
 1<=k/\k<=4/\0<=d/\d<=3652058/\0<=n/\n<=86399999999999/\ -1439<=z/\z<=1439/\(k=2->d=0)/\(k=1->n=0)/\(k≠4->z=0)
instance (k d n z:Int):Decidable (BD k d n z):=inferInstanceAs (Decidable (_/\_/\_/\_/\_/\_/\_/\_/\(_->_)/\(_->_)/\(_->_)))
theorem Cu (k:Nat) (h:k<10):(48+k).toUInt8.toNat=48+k:=by simp;omega
theorem Cq:∀w n c,c∈AS w n->Av c
 | 0,_,c,h=>by cases h
 | w+1,n,c,h=>by
  unfold AS at h
  rcases List.mem_append.1 h with h | h
  ·exact Cq w _ c h
  ·rw[List.mem_singleton.1 h];unfold Av;rw[Cu _ (by omega)];omega
theorem natD_dg:∀(n:Nat) c,c∈G3 n->Av c:=by
 intro n
 induction n using Nat.strongRecOn with
 | _ n ih=>
  intro c h
  by_cases h0:n=0
  ·rw[h0,EF]at h;cases h
  ·rw[EG (by omega)]at h
   rcases List.mem_append.1 h with h | h
   ·exact ih (n/10) (by omega) c h
   ·rw[List.mem_singleton.1 h];unfold Av;rw[Cu _ (by omega)];omega
def E6 (l:B8):B8:=(l.reverse.dropWhile (·==48)).reverse
theorem Li (l:B8) (c:UInt8):E6 (l++[c])=if c=48 then E6 l else l++[c]:=by
 unfold E6
 rw[List.reverse_append,List.reverse_singleton,List.singleton_append,List.dropWhile_cons]
 by_cases h:c=48
 ·rw[if_pos h,if_pos (by simp[h])]
 ·rw[if_neg h,if_neg (by simp[h])];simp
theorem RM {l:B8} {c:UInt8} (h:c∈E6 l):c∈l:=by
 unfold E6 at h
 exact List.mem_reverse.1 ((List.dropWhile_sublist _).mem (List.mem_reverse.1 h))
theorem Nk (l:B8):(E6 l).length<=l.length:=by
 unfold E6
 rw[List.length_reverse]
 have:=(List.dropWhile_sublist (l:=l.reverse) (fun x:UInt8=>x==48)).length_le
 rw[List.length_reverse]at this;exact this
def Ha (n:Nat):B8:=AS 2 (n/1000000000/3600)++58::(AS 2 (n/1000000000/60%60)++58::(AS 2 (n/1000000000%60)++(if n%1000000000=0 then []else 46::E6 (AS 9 (n%1000000000)))))
def F0 (z:Int):B8:=if z=0 then [90]else(if z<0 then 45 else 43)::(AS 2 (z.natAbs/60)++58::AS 2 (z.natAbs%60))
def K8 (y:Nat):Prop:=y%4=0/\(y%100≠0∨y%400=0)
instance (y:Nat):Decidable (K8 y):=inferInstanceAs (Decidable (_/\_))
def HR (y m:Nat):Nat:=if m=2 then(if K8 y then 29 else 28)else if m=4∨m=6∨m=9∨m=11 then 30 else 31
def Do (y:Nat):Nat->Nat
 | 0=>0
 | 1=>0
 | m+2=>Do y (m+1)+HR y (m+1)
def yrS (y:Nat):Nat:=365*(y-1)+(y-1)/4-(y-1)/100+(y-1)/400
def D3 (n y m d:Nat):Prop:=1<=y/\y<=9999/\1<=m/\m<=12/\1<=d/\d<=HR y m/\n=yrS y+Do y m+(d-1)
theorem Mg {a b:Nat} (h1:1<=a) (h:a<=b):yrS a<=yrS b:=by
 rcases Nat.eq_or_lt_of_le h with rfl | h
 ·exact Nat.le_refl _
 ·unfold yrS;omega
theorem monS_12 (y:Nat):Do y 12+HR y 12=if K8 y then 366 else 365:=by
 simp only[Do,HR]
 by_cases h:K8 y<;>simp[h]
theorem Oi (k q:Nat) (h:0<q):(k+1)/q=k/q+(if (k+1)%q=0 then 1 else 0):=by
 rw[Nat.succ_div]
 congr 1
 simp only[Nat.dvd_iff_mod_eq_zero]
theorem Hg {y:Nat} (h:1<=y):yrS (y+1)=yrS y+(Do y 12+HR y 12):=by
 rw[monS_12]
 obtain⟨k,rfl⟩:∃k,y=k+1:=⟨y-1,by omega⟩
 unfold yrS
 simp only[Nat.add_sub_cancel]
 rw[Oi k 4 (by omega),Oi k 100 (by omega),Oi k 400 (by omega)]
 have m1:(k+1)%400=0->(k+1)%100=0:=fun h=>by omega
 have m2:(k+1)%100=0->(k+1)%4=0:=fun h=>by omega
 have m3:k/100<=k/4:=by omega
 by_cases a4:(k+1)%4=0
 ·rw[if_pos a4]
  by_cases a100:(k+1)%100=0
  ·rw[if_pos a100]
   by_cases a400:(k+1)%400=0
   ·rw[if_pos a400,if_pos ⟨a4,.inr a400⟩];omega
   ·rw[if_neg a400,if_neg (fun h=>h.2.elim (fun h=>h a100) a400)];omega
  ·rw[if_neg a100,if_neg (fun h=>a100 (m1 h)),if_pos ⟨a4,.inl a100⟩];omega
 ·rw[if_neg a4,if_neg (fun h=>a4 (m2 h)),if_neg (fun h=>a4 (m2 (m1 h))),if_neg (fun h=>a4 h.1)];omega
theorem IF (y:Nat):∀{a b:Nat},a<=b->Do y a<=Do y b:=by
 intro a b h
 induction b with
 | zero=>rw[show a=0 by omega];exact Nat.le_refl _
 | succ b ih=>
  by_cases hab:a=b+1
  ·rw[hab];exact Nat.le_refl _
  ·refine Nat.le_trans (ih (by omega)) ?_
   cases b with
   | zero=>exact Nat.le_refl _
   | succ b=>simp only[Do];omega
theorem CZ (y:Nat) {m:Nat} (h:1<=m):Do y (m+1)=Do y m+HR y m:=by
 cases m with
 | zero=>omega
 | succ m=>rfl
theorem D3.uniq {n y m d y' m' d':Nat} (h:D3 n y m d) (h':D3 n y' m' d'):y=y'/\m=m'/\d=d':=by
 obtain⟨a1,a2,a3,a4,a5,a6,a7⟩:=h
 obtain⟨b1,b2,b3,b4,b5,b6,b7⟩:=h'
 have within:∀{y m d:Nat},1<=y->1<=m->m<=12->1<=d->d<=HR y m->Do y m+(d-1)<Do y 12+HR y 12:=by
  intro y m d h1 h2 h3 h4 h5
  by_cases hm:m=12
  ·subst hm;omega
  ·have:=IF y (a:=m+1) (b:=12) (by omega)
   rw[CZ y h2]at this;omega
 have w1:=within a1 a3 a4 a5 a6
 have w2:=within b1 b3 b4 b5 b6
 have hy:y=y':=by
  rcases Nat.lt_trichotomy y y' with h | h | h
  ·have:=Mg (a:=y+1) (b:=y') (by omega) (by omega)
   rw[Hg a1]at this;omega
  ·exact h
  ·have:=Mg (a:=y'+1) (b:=y) (by omega) (by omega)
   rw[Hg b1]at this;omega
 subst hy
 have hm:m=m':=by
  rcases Nat.lt_trichotomy m m' with h | h | h
  ·have:=IF y (a:=m+1) (b:=m') (by omega)
   rw[CZ y a3]at this;omega
  ·exact h
  ·have:=IF y (a:=m'+1) (b:=m) (by omega)
   rw[CZ y b3]at this;omega
 subst hm
 exact⟨rfl,rfl,by omega⟩
open Classical in
noncomputable def F6 (n:Nat):Nat×Nat×Nat:=if h:∃p:Nat×Nat×Nat,D3 n p.1 p.2.1 p.2.2 then h.choose else(0,0,0)
theorem Qb {n y m d:Nat} (h:D3 n y m d):F6 n=(y,m,d):=by
 have hex:∃p:Nat×Nat×Nat,D3 n p.1 p.2.1 p.2.2:=⟨(y,m,d),h⟩
 unfold F6
 rw[dif_pos hex]
 obtain⟨h1,h2,h3⟩:=hex.choose_spec.uniq h
 exact Prod.ext h1 (Prod.ext h2 h3)
noncomputable def G9 (n:Nat):B8:=AS 4 (F6 n).1++45::(AS 2 (F6 n).2.1++45::AS 2 (F6 n).2.2)
noncomputable def FL (k td tn tz:Int):B8:=
 if k=1 then G9 td.toNat else if k=2 then Ha tn.toNat else if k=3 then G9 td.toNat++84::Ha tn.toNat else G9 td.toNat++84::(Ha tn.toNat++F0 tz)
end
section
structure GM (s:Sc) (l:List Vl) (f:List Fd):Prop where
 k0:0<=s.kind
 k7:s.kind<=7
 bo:s.kind≠1->s.b=false
 nu:s.kind≠2->s.neg=false/\s.dg=[]/\s.ex=0
 ti:s.kind≠3->s.tk=0/\s.td=0/\s.tn=0/\s.tz=0
 tx:s.kind≠4->s.text=[]
 by_:s.kind≠5->s.bytes=[]
 ls:s.kind≠6->l=[]
 fs:s.kind≠7->f=[]
noncomputable instance (s:Sc) (l:List Vl) (f:List Fd):Decidable (GM s l f):=Classical.propDecidable _
def U8 (s:B8):Prop:=vlen s=s.length
instance (s:B8):Decidable (U8 s):=inferInstanceAs (Decidable (_=_))
def Fg (seen:List B8):List Fd->Nat
 | []=>0
 | d::r=>if U8 d.key then(if 1024<d.key.length then 10 else if d.key∈seen then 8 else Fg (d.key::seen) r)else 5
noncomputable def CQ (s:Sc) (l:List Vl) (f:List Fd):Nat:=
 if GM s l f then(if Ce s.neg s.dg s.ex then(if s.kind=3->BD s.tk s.td s.tn s.tz then(if U8 s.text then(if 65536<s.text.length then 10 else if 65536<s.bytes.length then 10 else Fg [] f)else 5)else 2)else 2)else 6
noncomputable def Dz (x:Nat×Nat) (f:Nat->Nat×Nat):Nat×Nat:=if x.2=0 then f x.1 else x
mutual
noncomputable def Es (d n:Nat):Vl->Nat×Nat
 | .mk s l f=>if 48<d then(n,9)else if 65536<=n then(n,10)else if CQ s l f≠0 then(n,CQ s l f)else Dz (Cp (d+1) (n+1) l) fun m=>DC (d+1) m f
noncomputable def Cp (d n:Nat):List Vl->Nat×Nat
 | []=>(n,0)
 | v::r=>Dz (Es d n v) fun m=>Cp d m r
noncomputable def RP (d n:Nat):Fd->Nat×Nat
 | .mk _ v=>Es d n v
noncomputable def DC (d n:Nat):List Fd->Nat×Nat
 | []=>(n,0)
 | x::r=>Dz (RP d n x) fun m=>DC d m r
end
noncomputable def Ot (v:Vl):Nat:=(Es 1 0 v).2
theorem GW {x:Nat×Nat} {f:Nat->Nat×Nat} (h:(Dz x f).2=0):x.2=0/\(f x.1).2=0:=by
 unfold Dz at h
 split at h
 ·rename_i h0;exact⟨h0,h⟩
 ·rename_i h0;exact absurd h h0
theorem FM {x:Nat×Nat} {f:Nat->Nat×Nat} (h:x.2=0):Dz x f=f x.1:=by unfold Dz;rw[if_pos h]
theorem PA {x:Nat×Nat} {f:Nat->Nat×Nat} (h:x.2≠0):Dz x f=x:=by unfold Dz;rw[if_neg h]
structure OneOk (s:Sc) (l:List Vl) (f:List Fd):Prop where
 own:GM s l f
 dec:Ce s.neg s.dg s.ex
 time:s.kind=3->BD s.tk s.td s.tn s.tz
 text:U8 s.text
 tlen:s.text.length<=65536
 blen:s.bytes.length<=65536
 keys:Fg [] f=0
theorem ED {s:Sc} {l:List Vl} {f:List Fd}:CQ s l f=0↔OneOk s l f:=by
 unfold CQ
 constructor
 ·intro h
  split at h
  ·rename_i h1
   split at h
   ·rename_i h2
    split at h
    ·rename_i h3
     split at h
     ·rename_i h4
      split at h
      ·cases h
      ·rename_i h5
       split at h
       ·cases h
       ·rename_i h6
        exact⟨h1,h2,h3,h4,by omega,by omega,h⟩
     ·cases h
    ·cases h
   ·cases h
  ·cases h
 ·intro h
  rw[if_pos h.own,if_pos h.dec,if_pos h.time,if_pos h.text,if_neg (by have:=h.tlen;omega),if_neg (by have:=h.blen;omega)]
  exact h.keys
end
theorem SlR.isPtr {st:St} {sz n i:Nat} {u:TV} {xs:List TV} (h:SlR st sz u n xs) (hi:i<n):TVF.isPtr (ixT sz u i)=true:=by
 rcases h with(⟨rfl,rfl,rfl⟩ | ⟨tip,rfl⟩) | ⟨b,off,cap,l,rfl,_⟩
 ·omega
 ·rfl
 ·rfl
theorem SlR.ldcf {st:St} {sz n i f m:Nat} {u:TV} {xs:List TV} (h:SlR st sz u n xs) (hl:xs.length=n*sz) (hi:i<n) (hf:f+m<=sz):Am st [] (.t (AX (ixT sz u i) f)) 0 m=some ((xs.drop (i*sz+f)).take m):=by
 have hm:(i+1)*sz<=n*sz:=Nat.mul_le_mul_right _ hi
 rw[Nat.add_mul,Nat.one_mul]at hm
 rcases h with(⟨rfl,rfl,rfl⟩ | ⟨tip,rfl⟩) | ⟨b,off,cap,l,rfl,h2,h3,h4,h5,rfl⟩
 ·omega
 ·show Am st [] (.t (.rptr ((xs.drop (i*sz)).drop f))) 0 m=_
  rw[List.drop_drop,J5 m 0 (by rw[List.length_drop];omega),List.drop_zero]
 ·have hc:n*sz<=cap*sz:=Nat.mul_le_mul_right _ h5
  have e1:(((l.drop off).take (n*sz)).drop (i*sz+f)).take m=(l.drop (off+i*sz+f)).take m:=by
   rw[List.drop_take,List.drop_drop,List.take_take,Nat.min_eq_left (by omega),Nat.add_assoc]
  rw[e1]
  have e:=Jv (B:=l.drop (off+i*sz+f+m)) (st:=st) (b:=b) ((l.drop (off+i*sz+f)).take m) l 0 (off+i*sz+f) h3 (by
   have:=List.take_append_drop m (l.drop (off+i*sz+f))
   rw[List.drop_drop]at this
   rw[Nat.add_zero];exact this.symm)
  rw[show((l.drop (off+i*sz+f)).take m).length=m by simp;omega]at e
  exact e
theorem SlR.ldf {st:St} {sz n i f:Nat} {u x:TV} {xs:List TV} (h:SlR st sz u n xs) (hl:xs.length=n*sz) (hi:i<n) (hf:f<sz) (hx:xs[i*sz+f]? =some x):Af st [] (.t (AX (ixT sz u i) f)) 0=some x:=by
 have:=h.ldcf (f:=f) (m:=1) hl hi (by omega)
 have hlt:i*sz+f<xs.length:=by
  obtain⟨q,_⟩:=List.getElem?_eq_some_iff.1 hx
  exact q
 rw[List.drop_eq_getElem_cons hlt]at this
 rw[List.getElem?_eq_getElem hlt]at hx
 simp only[Am,List.take_succ_cons,List.take_zero]at this
 cases hq:Af st [] (.t (AX (ixT sz u i) f)) 0 with
 | none=>rw[hq]at this;cases this
 | some y=>
  rw[hq]at this
  simp only[Option.map_some,Option.some.injEq,List.cons.injEq,and_true]at this
  rw[this];exact hx
theorem SlR.toBytes {st:St} {u:TV} {l:B8} (h:SlR st 1 u l.length (Aq l)):TVF.toBytes st u=some l:=by
 have hl:(Aq l).length=l.length:=Cn l
 rcases h with(⟨rfl,h1,_⟩ | ⟨tip,rfl⟩) | ⟨b,off,cap,m,rfl,h2,h3,h4,h5,h6⟩
 ·rw[List.eq_nil_of_length_eq_zero h1];rfl
 ·simp[TVF.toBytes,B2]
 ·have e:=Jv (B:=m.drop (off+l.length)) (st:=st) (b:=b) (Aq l) m 0 off h3 (by
   rw[h6,Nat.add_zero,Nat.mul_one,<-List.drop_drop,List.take_append_drop])
  rw[hl]at e
  simp only[TVF.toBytes,Nat.beq_refl,e,B2]
theorem La {st0 st:St} {uf:TV} {xf:List TV} {l:List Fd} (hke:Bw st0 st) (h2:SlR st0 14 uf l.length xf) (h3:FsR st0 l xf) {i:Int} {k:Nat} (hi:i=k) {d:Fd} (hd:l[k]? =some d) {f:B8->Prop} (hf:f d.key):
  (0<=i/\i<(lenZ 14 uf:Int))/\need (TVF.isPtr (ixT 14 uf (Int.toNat i))) (Ao (Af st [] (.t (AX (ixT 14 uf (Int.toNat i)) 0)) 0) fun x=>Ar .str x f):=by
 subst hi
 obtain⟨hk,_⟩:=List.getElem?_eq_some_iff.1 hd
 obtain⟨cw,hw,hcw,hcl⟩:=h3.get hd
 rw[h2.lenZ,Int.toNat_natCast]
 have hx:xf[k*14+0]? =some (.str d.key):=by
  cases d with
  | mk key w=>
   unfold FdR at hw
   obtain⟨cs,rfl,_⟩:=hw
   have:=congrArg (fun z=>z[0]?) hcw
   simpa [Fd.key]using this
 exact⟨⟨by omega,by omega⟩,Ac (h2.isPtr hk) (Ab ((h2.keep hke).ldf h3.len hk (by omega) hx) hf)⟩
theorem Qt {st0 st:St} {uf:TV} {xf:List TV} {l:List Fd} (hke:Bw st0 st) (h2:SlR st0 14 uf l.length xf) (h3:FsR st0 l xf) {i:Int} {k:Nat} (hi:i=k) (hk:k<l.length) {f:Fun [.int .i64,.bool,.bool,.str,.int .i64,.int .i64,.int .i64,.int .i64,.int .i64,.str,.tv,.tv,.tv] Prop}
  (hf:∀key s' l' f' ub1 ul1 uf1,l[k]? =some (.mk key (.mk s' l' f'))->VlR st0 (.mk s' l' f') (A1 s' ub1 ul1 uf1)->List.all (A1 s' ub1 ul1 uf1) BQ=true->f s'.kind s'.b s'.neg s'.dg s'.ex s'.tk s'.td s'.tn s'.tz s'.text ub1 ul1 uf1):
  (0<=i/\i<(lenZ 14 uf:Int))/\need (TVF.isPtr (ixT 14 uf (Int.toNat i))) (Ao ((Am st [] (.t (AX (ixT 14 uf (Int.toNat i)) 1)) 0 13).map TV.agg) fun x=>LV [.int .i64,.bool,.bool,.str,.int .i64,.int .i64,.int .i64,.int .i64,.int .i64,.str,.tv,.tv,.tv] x f):=by
 subst hi
 have gw:l[k]? =some l[k]:=List.getElem?_eq_getElem hk
 obtain⟨cw,hw,hcw,hcl⟩:=h3.get gw
 rw[h2.lenZ,Int.toNat_natCast]
 refine⟨⟨by omega,by omega⟩,Ac (h2.isPtr hk) ?_⟩
 rw[(h2.keep hke).ldcf (f:=1) (m:=13) h3.len hk (by omega)]
 generalize l[k]=w at*
 cases w with
 | mk key w=>
 cases w with
 | mk s' l' f'=>
 unfold FdR at hw
 obtain⟨cw2,rfl,hw1⟩:=hw
 have hw2:=hw1
 unfold VlR at hw2
 obtain⟨ub',ul',uf',xl',xf',rfl,w1,w2,w3,w4,w5⟩:=hw2
 have e:(xf.drop (k*14+1)).take 13=A1 s' ub' ul' uf':=by
  rw[<-List.drop_drop]
  have:=congrArg (fun z=>z.drop 1) hcw
  simp only[List.drop_take]at this
  simpa [A1]using this
 rw[e]
 exact Ab rfl (RF (hf key s' l' f' ub' ul' uf' gw hw1 (QY w1.one w2.one w4.one)))
theorem Bw.trans {a b c:St} (h:Bw a b) (k:Bw b c):Bw a c:=⟨Nat.le_trans h.1 k.1,fun i hi=>(k.2 i (Nat.lt_of_lt_of_le hi h.1)).trans (h.2 i hi)⟩
theorem Bw.refl (a:St):Bw a a:=⟨Nat.le_refl _,fun _ _=>rfl⟩
theorem Ay {s:B8} {f:B8->Prop} (h:f s):Ar .str (.str s) f:=h
theorem At {k:IntKind} {n:Int} {f:Int->Prop} (h:f n):Ar (.int k) (.int k n) f:=by
 simp only[Ar];exact h
theorem P9 {b:Bool} {f:Bool->Prop} (h:f b):Ar .bool (.bool b) f:=h
theorem Cb {α:Type} {K:α->St->Prop} {a b:α} {st:St} (h:a=b) (hk:K b st):K a st:=h▸hk
theorem KJ {r:Int} {st:St} {K:Bool->St->Prop} (h0:0<=r) (hk:K (decide (AE r.toNat)) st):CallT PR Bk [.int .i64 r] [.one (.bool)] st K:=by
 refine D6 _ st K (Aa (fun _=>Aa (fun h2=>Aa (fun h3=>?_) fun h3=>?_) fun h2=>?_) fun h1=>absurd h0 h1)
 ·have:AE r.toNat:=by unfold AE;omega
  simpa [this]using hk
 ·have:decide ((57343:Int)<r)=decide (AE r.toNat):=by
   rw[Bool.eq_iff_iff];simp only[decide_eq_true_eq];unfold AE;omega
  rw[this];exact hk
 ·have:¬AE r.toNat:=by unfold AE;omega
  simpa [this]using hk
theorem DE (st:St) (n:Nat) (l:B8) (xs:List TV) (h:xs=Aq l):(toBytes st (.list 1 .full n xs)).map TV.str=some (.str l):=by
 subst h;simp[toBytes,B2]
theorem Dn (n:Nat):IntKind.wrap .u8 (n:Int)=((UInt8.ofNat n).toNat:Int):=by
 unfold IntKind.wrap
 simp only[IntKind.signed,IntKind.bits]
 simp
 try omega
theorem orN (a b m:Nat) (hb:b<2^m) (h:a*2^m+b<2^63) (x y:Int) (hx:x=((a*2^m:Nat):Int)) (hy:y=(b:Int)):Ai .or .i64 x y=((a*2^m+b:Nat):Int):=by
 rw[hx,hy];exact QX a b m hb h
theorem Oh {R:Int} {r:Nat} {st:St} {K:B8->Int->St->Prop} (hR:R=(r:Int)) (hr:r<2^40) (hk:K (if AE r then CR r else []) (if AE r then 0 else 2) st):CallT PR A9 [.int .i64 R] [.one (.str),.one (.int .i64)] st K:=by
 have shr:∀m,m<=64->Int.fdiv R (2^(min m (IntKind.bits .i64)))=((r/2^m:Nat):Int):=fun m hm=>by rw[hR];exact shr_i64 r m hm
 have s6:=shr 6 (by decide)
 have s12:=shr 12 (by decide)
 have s18:=shr 18 (by decide)
 have m63:∀x:Nat,x<2^63->Ai .and .i64 (x:Int) (63:Int)=((x%64:Nat):Int):=fun x hx=>Ga x 6 hx (by decide)
 have mR:Ai .and .i64 R (63:Int)=((r%64:Nat):Int):=by rw[hR];exact m63 r (by omega)
 have o128:∀x:Nat,x<64->Ai .or .i64 (128:Int) (x:Int)=((128+x:Nat):Int):=fun x hx=>orN 2 x 6 (by omega) (by omega) _ _ rfl rfl
 have hR0:0<=R:=by omega
 have hRn:R.toNat=r:=by omega
 refine EO _ st K (KJ hR0 (Al (fun h0=>?_) fun h0=>?_))
 ·have hc:¬AE r:=by rw[hRn]at h0;simpa using h0
  rw[if_neg hc,if_neg hc]at hk
  exact hk
 ·have hc:AE r:=by rw[hRn]at h0;simpa using h0
  rw[if_pos hc,if_pos hc]at hk
  unfold CR at hk
  refine Aa (fun h1=>?_) fun h1=>Aa (fun h2=>?_) fun h2=>Aa (fun h3=>?_) fun h3=>?_
  ·rw[if_pos (by omega)]at hk
   exact Ab (DE _ _ _ _ (by simp only[Aq,List.map,CO];rw[hR,Dn])) hk
  ·rw[if_neg (by omega),if_pos (by omega)]at hk
   have o192:Ai .or .i64 (192:Int) ((r/2^6:Nat):Int)=((192+r/64:Nat):Int):=orN 6 _ 5 (by omega) (by omega) _ _ rfl rfl
   refine Ab (DE _ _ _ _ ?_) hk
   simp only[Aq,List.map,CO]
   rw[show Int.toNat (6:Int)=6 from rfl,s6,o192,mR,o128 _ (by omega),Dn,Dn]
  ·rw[if_neg (by omega),if_neg (by omega),if_pos (by omega)]at hk
   have o224:Ai .or .i64 (224:Int) ((r/2^12:Nat):Int)=((224+r/4096:Nat):Int):=orN 14 _ 4 (by omega) (by omega) _ _ rfl rfl
   refine Ab (DE _ _ _ _ ?_) hk
   simp only[Aq,List.map,CO]
   rw[show Int.toNat (6:Int)=6 from rfl,show Int.toNat (12:Int)=12 from rfl,s6,s12,o224,mR,m63 (r/2^6) (by omega),o128 _ (by omega),o128 _ (by omega),Dn,Dn,Dn]
  ·rw[if_neg (by omega),if_neg (by omega),if_neg (by omega)]at hk
   have hr2:r<=1114111:=hc.1
   have o240:Ai .or .i64 (240:Int) ((r/2^18:Nat):Int)=((240+r/262144:Nat):Int):=orN 30 _ 3 (by omega) (by omega) _ _ rfl rfl
   refine Ab (DE _ _ _ _ ?_) hk
   simp only[Aq,List.map,CO]
   rw[show Int.toNat (6:Int)=6 from rfl,show Int.toNat (12:Int)=12 from rfl,show Int.toNat (18:Int)=18 from rfl,s6,s12,s18,o240,mR,m63 (r/2^6) (by omega),m63 (r/2^12) (by omega),o128 _ (by omega),o128 _ (by omega),o128 _ (by omega),Dn,Dn,Dn,Dn]
theorem P4 {r:Nat} {st:St} {K:B8->Int->St->Prop} (hr:r<2^40) (hk:K (if AE r then CR r else []) (if AE r then 0 else 2) st):CallT PR A9 [.int .i64 (r:Int)] [.one (.str),.one (.int .i64)] st K:=
 Oh rfl hr hk
def rD (l:B8):Nat×Nat:=if ul l=0 then(0,0)else(ur l,ul l)
theorem MM {s:B8} {I:Int} {i:Nat} {st:St} {K:Int->Int->St->Prop} (hI:I=(i:Int)) (hl:s.length<=2000000) (hi:i<=s.length) (hk:K ((rD (s.drop i)).1:Nat) ((rD (s.drop i)).2:Nat) st):CallT PR Ba [.str s,.int .i64 I] [.one (.int .i64),.one (.int .i64)] st K:=by
 refine EP s I st K (Aa (fun h=>by omega) fun _=>Aa (fun h=>?_) fun h=>⟨⟨by omega,by omega⟩,?_⟩)
 ·have:s.drop i=[]:=List.drop_of_length_le (by omega)
  have h0:rD (s.drop i)=(0,0):=by rw[this];simp[rD,ul]
  rw[h0]at hk;exact hk
 ·have hne:s.drop i≠ []:=by
   intro h0
   have:=congrArg List.length h0
   simp at this;omega
  have href:=Gg (s.drop i) hne
  have hb0:(List.getD s (Int.toNat I) 0).toNat=bt (s.drop i) 0:=by rw[Df,hI];rfl
  have hlt:=Ll (s.drop i) 0
  have hlen:(s.drop i).length=s.length-i:=by simp
  rw[hb0,Qm _ (by omega)]
  have m15:Ai .and .i64 ((bt (s.drop i) 0:Nat):Int) (15:Int)=((bt (s.drop i) 0%16:Nat):Int):=Ga _ 4 (by omega) (by decide)
  have m7:Ai .and .i64 ((bt (s.drop i) 0:Nat):Int) (7:Int)=((bt (s.drop i) 0%8:Nat):Int):=Ga _ 3 (by omega) (by decide)
  have m31:Ai .and .i64 ((bt (s.drop i) 0:Nat):Int) (31:Int)=((bt (s.drop i) 0%32:Nat):Int):=Ga _ 5 (by omega) (by decide)
  rw[m15,m7,m31]
  refine⟨fun size r s' at' st1=>s=s'/\I=at'/\st=st1/\((rsz (bt (s.drop i) 0):Nat):Int)=size/\((rb0 (bt (s.drop i) 0):Nat):Int)=r,?_,?_⟩
  ·refine Aa (fun h1=>⟨rfl,rfl,rfl,?_,?_⟩) fun h1=>Aa (fun h2=>⟨rfl,rfl,rfl,?_,?_⟩) fun h2=>Aa (fun h3=>⟨rfl,rfl,rfl,?_,?_⟩) fun h3=>⟨rfl,rfl,rfl,?_,?_⟩
   ·unfold rsz;rw[if_pos (by omega)];rfl
   ·unfold rb0;rw[if_pos (by omega)]
   ·unfold rsz;rw[if_neg (by omega),if_pos (by omega)];rfl
   ·unfold rb0;rw[if_neg (by omega),if_pos (by omega)]
   ·unfold rsz;rw[if_neg (by omega),if_neg (by omega),if_pos (by omega)];rfl
   ·unfold rb0;rw[if_neg (by omega),if_neg (by omega),if_pos (by omega)]
   ·unfold rsz;rw[if_neg (by omega),if_neg (by omega),if_neg (by omega)];rfl
   ·unfold rb0;rw[if_neg (by omega),if_neg (by omega),if_neg (by omega)]
  ·rintro _ _ _ _ _ ⟨rfl,rfl,rfl,rfl,rfl⟩
   have hs:=LE (bt (s.drop i) 0)
   have hr0:=rb0_lt _ hlt
   generalize hsz:rsz (bt (s.drop i) 0)=size at*
   generalize hrr:rb0 (bt (s.drop i) 0)=r0 at*
   have hra:=OU (s.drop i) r0 hr0
   unfold ML at href
   simp only[hsz,hrr]at href
   rw[Ae _ (by omega) (by omega)]
   refine Aa (fun h1=>?_) fun h1=>?_
   ·rw[if_pos (by omega)]at href
    have:rD (s.drop i)=(0,0):=by unfold rD;rw[<-href]
    rw[this]at hk;exact hk
   ·rw[if_neg (by omega)]at href
    refine⟨fun r j s' at' sz st2=>s=s'/\I=at'/\st=st2/\((size:Nat):Int)=sz/\∃k:Nat,j=((k+1:Nat):Int)/\k+1<=size/\r=((FY (s.drop i) r0 k:Nat):Int),fun _ j _ _ sz _=>(sz-j).toNat,⟨rfl,rfl,rfl,rfl,0,rfl,hs.1,rfl⟩,?_⟩
    rintro _ _ _ _ _ _ ⟨rfl,rfl,rfl,rfl,k,rfl,hk1,rfl⟩
    have hrk:=hra k
    have h64:64^k<=64^3:=Nat.pow_le_pow_right (by decide) (by omega)
    refine Aa (fun h2=>?_) fun h2=>?_
    ·rw[Ae _ (by omega) (by omega)]
     have hbk:(List.getD s (Int.toNat (I+((k+1:Nat):Int))) 0).toNat=bt (s.drop i) (k+1):=by
      rw[Df,show Int.toNat (I+((k+1:Nat):Int))=i+(k+1) by omega];rfl
     have hbl:=Ll (s.drop i) (k+1)
     have hand:Ai .and .i64 (i64.wrap ((bt (s.drop i) (k+1):Nat):Int)) (63:Int)=((bt (s.drop i) (k+1)%64:Nat):Int):=by
      rw[Qm _ (by omega)];exact Ga _ 6 (by omega) (by decide)
     have hmul:i64.wrap (((FY (s.drop i) r0 k:Nat):Int)*2^(min (Int.toNat (6:Int)) (IntKind.bits .i64)))=((FY (s.drop i) r0 k*2^6:Nat):Int):=by
      rw[show(2:Int)^(min (Int.toNat (6:Int)) (IntKind.bits .i64))=64 by decide,Ae _ (by omega) (by omega)];omega
     refine⟨⟨by omega,by omega⟩,?_⟩
     rw[hbk,hand,hmul,QX _ _ 6 (by omega) (by omega),Ae _ (by omega) (by omega)]
     exact⟨⟨rfl,rfl,rfl,rfl,k+1,by omega,by omega,by simp only[FY]⟩,by dsimp only;omega⟩
    ·have hks:k=size-1:=by omega
     subst hks
     refine P4 (by omega) ?_
     generalize hR:FY (s.drop i) r0 (size-1)=R at*
     refine Aa (fun h3=>?_) fun h3=>?_
     ·have hc:¬AE R:=by intro hc;rw[if_pos hc]at h3;exact h3 rfl
      rw[if_neg (fun h=>hc h.1)]at href
      have:rD (s.drop i)=(0,0):=by unfold rD;rw[<-href]
      rw[this]at hk;exact hk
     ·have hc:AE R:=by
       apply Decidable.byContradiction
       intro hc;rw[if_neg hc]at h3;exact h3 (by decide)
      rw[if_pos hc,Ae _ (by omega) (by omega)]
      refine⟨⟨by omega,by omega,by omega⟩,?_⟩
      rw[Dd,show Int.toNat (I+(size:Int))-Int.toNat I=size by omega,show Int.toNat I=i by omega]
      refine Aa (fun h4=>?_) fun h4=>?_
      ·rw[if_neg (fun h=>h4 h.2)]at href
       have:rD (s.drop i)=(0,0):=by unfold rD;rw[<-href]
       rw[this]at hk;exact hk
      ·rw[if_pos ⟨hc,Decidable.not_not.1 h4⟩]at href
       have:rD (s.drop i)=(R,size):=by unfold rD;rw[<-href]
       rw[this]at hk;exact hk
theorem NP {s:B8} {i:Nat} {st:St} {K:Int->Int->St->Prop} (hl:s.length<=2000000) (hi:i<=s.length) (hk:K ((rD (s.drop i)).1:Nat) ((rD (s.drop i)).2:Nat) st):CallT PR Ba [.str s,.int .i64 (i:Int)] [.one (.int .i64),.one (.int .i64)] st K:=
 MM rfl hl hi hk
theorem Jx (l:B8):vlen l<=l.length:=OM _ l (Nat.le_refl _)
theorem Ml:vlen []=0:=Cy _ (by simp[ul])
theorem Rd.ldfx {sz:Nat} {v:TV} {n:Nat} {xs:List TV} (h:Rd sz v n xs) (st:St) (i j:Nat) {x:TV} (hx:xs[i*sz+j]? =some x):Af st [] (.t (AX (ixT sz v i) j)) 0=some x:=by
 obtain⟨hlt,hx⟩:=List.getElem?_eq_some_iff.1 hx
 rw[h.ldf st i j hlt,hx]
theorem KK {s:B8} {st:St} {K:TV->Bool->St->Prop} (hl:s.length<=2000000)
  (hk:∀v xs st',Ah st st'->Rd 1 v (xs.length+1) (xs++[.int .i64 ((vlen s:Nat):Int)])->xs.length<=s.length->K v (decide (vlen s=s.length)) st'):CallT PR Bd [.str s] [.one (.tv),.one (.bool)] st K:=by
 have hv:=Jx s
 refine DS s st K ⟨fun v i s' st'=>s=s'/\Ah st st'/\∃(k:Nat) (xs:List TV),i=(k:Int)/\k<=s.length/\k+vlen (s.drop k)=vlen s/\xs.length<=k/\Own st.nt 1 st' v (xs.length+1) (xs++[.int .i64 (k:Int)]),fun _ i _ _=>(s.length-i).toNat,⟨rfl,Ah.refl _,0,[],rfl,by omega,by simp,by simp,Own.full _ _ _ _ _⟩,?_⟩
 rintro v _ _ st1 ⟨rfl,e,k,xs,rfl,h1,h2,h3,h4⟩
 refine Aa (fun g1=>?_) fun g1=>?_
 ·have hle:=IQ (s.drop k)
  rw[List.length_drop]at hle
  refine NP hl h1 ?_
  unfold rD
  by_cases h0:ul (s.drop k)=0
  ·rw[if_pos h0]
   rw[Cy _ h0]at h2
   refine Aa (fun _=>?_) fun h=>absurd rfl h
   have:=hk v xs st1 e (by rw[<-h2];exact h4.rd) (by omega)
   rw[decide_eq_false (by omega)]at this
   exact this
  ·rw[if_neg h0]
   rw[Cz _ h0,List.drop_drop]at h2
   have w:i64.wrap ((k:Int)+(ul (s.drop k):Nat))=((k+ul (s.drop k):Nat):Int):=by rw[Ae _ (by omega) (by omega)];omega
   refine Aa (fun h=>by simp only at h;omega) fun _=>?_
   dsimp only
   rw[w]
   refine H4 e rfl h4 (by omega) (fun h=>by cases h) fun v' st' e' _ ho=>⟨⟨rfl,e',k+ul (s.drop k),xs++[.int .i64 (k:Int)],rfl,by omega,by omega,by rw[List.length_append];simp;omega,?_⟩,by omega⟩
   rw[List.length_append];exact ho
 ·rw[show s.drop k=[]from List.drop_of_length_le (by omega),Ml]at h2
  have hks:k=vlen s:=by omega
  have:=hk v xs st1 e (by rw[<-hks];exact h4.rd) (by omega)
  rw[decide_eq_true (by omega)]at this
  exact this
theorem Iu {s:B8} {st:St} {K:Bool->St->Prop} (hl:s.length<=2000000) (hk:∀st',Ah st st'->K (decide (vlen s=s.length)) st'):CallT PR AC [.str s] [.one (.bool)] st K:=
 Fs s st K (KK hl fun v xs st1 e hr hx=>hk st1 e)
def hdS (b:Nat):Nat:=if b<128 then 1 else if 192<=b/\b<224 then 2 else if 224<=b/\b<240 then 3 else if 240<=b/\b<248 then 4 else 0
theorem Hx {l:B8} {c:UInt8} (hc:c.toNat<128) (hl:l.length<=9223372036854775807) {st:St} {K:B8->St->Prop} (hk:K (Lib.trimRightB l c) st):CallT PR BV [.str l,.str [c]] [.one .str] st K:=by
 refine B5 (fun _ _=>by kernel_rfl) fun g w vargs s hr=>?_
 obtain⟨v,u,rfl,hv,hu⟩:=HK hr
 rw[BR hv,BR hu]
 refine Calls.mono (Tryz.strings_TrimRight_one ⟨l.toArray⟩ c hc w (by simpa [ByteArray.size]using hl)) ?_
 rintro e w' ⟨rfl,rfl⟩
 exact⟨_,rfl,.str _,st,g,hk,s,Rel.str _,Ext.refl _ _⟩
theorem FK (l:B8):(Lib.trimRightB l 48).length+AT l=l.length:=by
 unfold Lib.trimRightB AT
 have:=congrArg List.length (List.takeWhile_append_dropWhile (p:=fun x:UInt8=>x==48) (l:=l.reverse))
 rw[List.length_append,List.length_reverse]at this
 rw[List.length_reverse];omega
theorem Qk {l:B8} (hl:l.length<=2000000) {st:St} {K:Int->St->Prop} (hk:K (AT l:Nat) st):CallT PR Ds [.str l] [.one (.int .i64)] st K:=by
 refine Jh _ st K (Hx (by decide) (by omega) ?_)
 have:=FK l
 rw[Ae _ (by omega) (by omega),show((l.length:Nat):Int)-((Lib.trimRightB l 48).length:Int)=(AT l:Nat) by omega]
 exact hk
theorem NC {p:UInt8->Bool}:∀(r:B8) (n:Nat),n<=r.length->(∀j x,j<n->r[j]? =some x->p x=true)->(∀x,r[n]? =some x->p x=false)->(r.takeWhile p).length=n
 | [],n,h,_,_=>by simp at h;simp[h]
 | a::r,0,_,_,h=>by simp[List.takeWhile_cons,h a rfl]
 | a::r,n+1,h,h1,h2=>by
  rw[List.takeWhile_cons,if_pos (h1 0 a (by omega) rfl),List.length_cons,NC r n (by simpa using h) (fun j x hj hx=>h1 (j+1) x (by omega) (by simpa using hx)) (fun x hx=>h2 x (by simpa using hx))]
theorem QM (l:B8) (n:Nat) (h:n<l.length):l.reverse[n]? =some (List.getD l (l.length-1-n) 0):=by
 rw[List.getElem?_reverse h,List.getD_eq_getElem?_getD,List.getElem?_eq_getElem (by omega),Option.getD_some]
theorem KV {l:B8} (hl:l.length<=2000000) {st:St} {K:Int->St->Prop} (hk:K (AT l:Nat) st):CallT PR BL [.str l] [.one (.int .i64)] st K:=by
 refine Ft l st K ⟨fun i s st'=>l=s/\st=st'/\∃n:Nat,i=n/\n<=l.length/\∀j x,j<n->l.reverse[j]? =some x->(x==48)=true,fun i _ _=>(l.length-i).toNat,⟨rfl,rfl,0,rfl,Nat.zero_le _,fun j x hj=>absurd hj (Nat.not_lt_zero _)⟩,?_⟩
 rintro _ _ _ ⟨rfl,rfl,n,rfl,hn,hall⟩
 refine Aa (fun g=>?_) fun g=>?_
 ·have hr:=QM l n (by omega)
  rw[Ae ((l.length:Int)-1) (by omega) (by omega),Ae _ (by omega) (by omega),show Int.toNat ((l.length:Int)-1-(n:Int))=l.length-1-n by omega]
  refine⟨⟨by omega,by omega⟩,?_⟩
  generalize List.getD l (l.length-1-n) 0=c at hr⊢
  refine Aa (fun g2=>?_) fun g2=>?_
  ·rw[Ae _ (by omega) (by omega)]
   refine⟨⟨rfl,rfl,n+1,by omega,by omega,fun j x hj hx=>?_⟩,by dsimp only;omega⟩
   by_cases hjn:j=n
   ·subst hjn
    rw[hr]at hx
    rw[<-Option.some.inj hx]
    simpa [<-UInt8.toNat_inj]using (by omega:c.toNat=48)
   ·exact hall j x (by omega) hx
  ·have:AT l=n:=NC _ n (by simpa using hn) hall fun x hx=>by
    rw[hr]at hx
    rw[<-Option.some.inj hx]
    have:c≠48:=fun e=>g2 (by rw[e];rfl)
    simpa using this
   rw[<-this];exact hk
 ·have:AT l=n:=NC _ n (by simpa using hn) hall fun x hx=>by
   rw[List.getElem?_eq_none (by simp;omega)]at hx;cases hx
  rw[<-this];exact hk
theorem F3 {l:B8} {n:Nat} (h:n<l.length):List.getD l n 0∈l:=by
 rw[List.getD_eq_getElem?_getD,List.getElem?_eq_getElem h,Option.getD_some]
 exact List.getElem_mem h
theorem Nu {P:UInt8->Prop} {l:B8} {n:Nat} (h:n<l.length) (h1:∀c,c∈l.take n->P c) (h2:P (List.getD l n 0)):∀c,c∈l.take (n+1)->P c:=by
 intro c hc
 rw[C7 _ _ 0 h]at hc
 rcases List.mem_append.1 hc with hc | hc
 ·exact h1 c hc
 ·rw[List.mem_singleton.1 hc];exact h2
theorem all_ok {l:B8} (hl:l.length<=2000000) {st:St} {K:Bool->St->Prop} (hk:K (decide (∀c,c∈l->Av c)) st):CallT PR En [.str l] [.one .bool] st K:=by
 refine Kw l st K ⟨fun i s m st'=>l=s/\(l.length:Int)=m/\st=st'/\∃n:Nat,i=n/\n<=l.length/\∀c,c∈l.take n->Av c,fun i _ _ _=>(l.length-i).toNat,⟨rfl,rfl,rfl,0,rfl,Nat.zero_le _,fun c hc=>by simp at hc⟩,?_⟩
 rintro _ _ _ _ ⟨rfl,rfl,rfl,n,rfl,hn,hall⟩
 refine Aa (fun g=>?_) fun g=>?_
 ·have hm:=F3 (l:=l) (n:=n) (by omega)
  have bad:¬Av (List.getD l n 0)->K false st:=fun hb=>by
   rw[decide_eq_false fun h=>hb (h _ hm)]at hk;exact hk
  rw[Int.toNat_natCast]
  refine⟨⟨by omega,by omega⟩,Aa (fun g2=>bad (by unfold Av;omega)) fun g2=>⟨⟨by omega,by omega⟩,Aa (fun g3=>bad (by unfold Av;omega)) fun g3=>?_⟩⟩
  rw[Ae _ (by omega) (by omega)]
  exact⟨⟨rfl,rfl,rfl,n+1,by omega,by omega,Nu (by omega) hall (by unfold Av;omega)⟩,by dsimp only;omega⟩
 ·have:n=l.length:=by omega
  subst this
  rw[List.take_length]at hall
  rw[decide_eq_true hall]at hk;exact hk
theorem NQ {l:B8} (hl:l.length<=2000000) {st:St} {K:Bool->St->Prop} (hk:K (decide (∀c,c∈l->Av c)) st):CallT PR BC [.str l] [.one .bool] st K:=by
 refine EQ l st K ⟨fun i s st'=>l=s/\st=st'/\∃n:Nat,i=n/\n<=l.length/\∀c,c∈l.take n->Av c,fun i _ _=>(l.length-i).toNat,⟨rfl,rfl,0,rfl,Nat.zero_le _,fun c hc=>by simp at hc⟩,?_⟩
 rintro _ _ _ ⟨rfl,rfl,n,rfl,hn,hall⟩
 refine Aa (fun g=>?_) fun g=>?_
 ·have hm:=F3 (l:=l) (n:=n) (by omega)
  have bad:¬Av (List.getD l n 0)->K false st:=fun hb=>by
   rw[decide_eq_false fun h=>hb (h _ hm)]at hk;exact hk
  rw[Int.toNat_natCast]
  refine⟨⟨by omega,by omega⟩,Aa (fun g2=>bad (by unfold Av;omega)) fun g2=>⟨⟨by omega,by omega⟩,Aa (fun g3=>bad (by unfold Av;omega)) fun g3=>?_⟩⟩
  rw[Ae _ (by omega) (by omega)]
  exact⟨⟨rfl,rfl,n+1,by omega,by omega,Nu (by omega) hall (by unfold Av;omega)⟩,by dsimp only;omega⟩
 ·have:n=l.length:=by omega
  subst this
  rw[List.take_length]at hall
  rw[decide_eq_true hall]at hk;exact hk
def GN (l:B8):Prop:=l.length<=600/\(∀c,c∈l->Av c)/\(l≠ []->l.getD 0 0≠48)
instance (l:B8):Decidable (GN l):=inferInstanceAs (Decidable (_/\_/\(_->_)))
theorem ne48 (c:UInt8):decide ((c.toNat:Int)≠48)=decide (c≠48):=by
 have:((c.toNat:Int)≠48)↔c≠48:=by rw[ne_eq,ne_eq,<-UInt8.toNat_inj];exact not_congr ⟨fun h=>Int.ofNat.inj h,fun h=>by rw[h];rfl⟩
 exact decide_eq_decide.2 this
theorem Lh {l:B8} (hl:l.length<=2000000) {st:St} {K:Bool->St->Prop} (hk:K (decide (GN l)) st):CallT PR Ct [.str l] [.one .bool] st K:=by
 have no:¬GN l->K false st:=fun h=>by rw[decide_eq_false h]at hk;exact hk
 refine Ji l st K (Aa (fun g=>all_ok hl (Aa (fun g2=>Aa (fun g3=>?_) fun g3=>⟨⟨by omega,by have:=List.length_pos_iff.2 g3;omega⟩,?_⟩) fun g2=>no fun h=>g2 h.2.1)) fun g=>no fun h=>g (by have:=h.1;omega))
 ·rw[decide_eq_true (show GN l from⟨by omega,g2,fun h=>absurd g3 h⟩)]at hk;exact hk
 ·rw[ne48]
  refine Cb (decide_eq_decide.2 ?_) hk
  exact⟨fun h=>⟨by omega,g2,fun _=>h⟩,fun h=>h.2.2 g3⟩
theorem OV {l:B8} (hl:l.length<=2000000) {st:St} {K:Bool->St->Prop} (hk:K (decide (GN l)) st):CallT PR BM [.str l] [.one .bool] st K:=by
 have no:¬GN l->K false st:=fun h=>by rw[decide_eq_false h]at hk;exact hk
 refine Fu l st K (Aa (fun g=>NQ hl (Aa (fun g2=>Aa (fun g3=>?_) fun g3=>⟨⟨by omega,by omega⟩,?_⟩) fun g2=>no fun h=>g2 h.2.1)) fun g=>no fun h=>g (by have:=h.1;omega))
 ·rw[decide_eq_true (show GN l from⟨by omega,g2,fun h=>absurd (List.eq_nil_of_length_eq_zero (by omega)) h⟩)]at hk;exact hk
 ·rw[ne48]
  refine Cb (decide_eq_decide.2 ?_) hk
  exact⟨fun h=>⟨by omega,g2,fun _=>h⟩,fun h=>h.2.2 fun e=>g3 (by rw[e];rfl)⟩
theorem AL {neg:Bool} {l:B8} {ex:Int} (h:l≠ []):Ce neg l ex↔GN l/\l.length<=120/\AT l=0/\ -400<=ex/\ex<=400:=by
 unfold Ce GN
 constructor
 ·intro g
  obtain⟨g1,g2,g3,g4,g5,g6⟩:=g.2 h
  exact⟨⟨by omega,g2,fun _=>g3⟩,g1,g4,g5,g6⟩
 ·rintro⟨⟨g1,g2,g3⟩,g4,g5,g6,g7⟩
  exact⟨fun e=>absurd e h,fun _=>⟨g4,g2,g3 h,g5,g6,g7⟩⟩
theorem EJ {neg:Bool} {ex:Int}:Ce neg [] ex↔neg=false/\ex=0:=by
 unfold Ce
 exact⟨fun g=>g.1 rfl,fun g=>⟨fun _=>g,fun h=>absurd rfl h⟩⟩
theorem Nf {neg:Bool} {l:B8} {ex:Int} (hl:l.length<=2000000) {st:St} {K:Bool->St->Prop} (hk:K (decide (Ce neg l ex)) st):CallT PR Da [.agg [.bool neg,.str l,.int .i64 ex]] [.one .bool] st K:=by
 have no:¬Ce neg l ex->K false st:=fun h=>by rw[decide_eq_false h]at hk;exact hk
 refine If _ _ _ st K (Aa (fun g=>?_) fun g=>?_)
 ·subst g
  refine Cb ?_ hk
  rw[Bool.eq_iff_iff]
  simp[EJ]
 ·refine Lh hl (Aa (fun g2=>Aa (fun g3=>Qk hl (Aa (fun g4=>Aa (fun g5=>?_) fun g5=>?_) fun g4=>?_)) fun g3=>?_) fun g2=>?_)
  ·exact Cb (decide_eq_decide.2 (by rw[AL g];exact⟨fun h=>⟨g2,by omega,by omega,g5,h⟩,fun h=>h.2.2.2.2⟩)) hk
  ·exact no fun h=>g5 ((AL g).1 h).2.2.2.1
  ·exact no fun h=>g4 (by have:=((AL g).1 h).2.2.1;omega)
  ·exact no fun h=>g3 (by have:=((AL g).1 h).2.1;omega)
  ·exact no fun h=>g2 ((AL g).1 h).1
theorem rDec_ok {neg:Bool} {l:B8} {ex:Int} (hl:l.length<=2000000) {st:St} {K:Bool->St->Prop} (hk:K (decide (Ce neg l ex)) st):CallT PR Bi [.agg [.bool neg,.str l,.int .i64 ex]] [.one .bool] st K:=by
 have no:¬Ce neg l ex->K false st:=fun h=>by rw[decide_eq_false h]at hk;exact hk
 refine CT _ _ _ st K (Aa (fun g=>?_) fun g=>?_)
 ·subst g
  cases neg
  ·exact Cb (by rw[Bool.eq_iff_iff];simp[EJ]) hk
  ·exact Cb (by rw[Bool.eq_iff_iff];simp[EJ]) hk
 ·refine Aa (fun g3=>OV hl (Aa (fun g2=>KV hl (Aa (fun g4=>Aa (fun g5=>?_) fun g5=>?_) fun g4=>?_)) fun g2=>?_)) fun g3=>?_
  ·exact Cb (decide_eq_decide.2 (by rw[AL g];exact⟨fun h=>⟨g2,by omega,by omega,g5,h⟩,fun h=>h.2.2.2.2⟩)) hk
  ·exact no fun h=>g5 ((AL g).1 h).2.2.2.1
  ·exact no fun h=>g4 (by have:=((AL g).1 h).2.2.1;omega)
  ·exact no fun h=>g2 ((AL g).1 h).1
  ·exact no fun h=>g3 (by have:=((AL g).1 h).2.1;omega)
theorem Lx {k d n z:Int} {st:St} {K:Bool->St->Prop} (hk:K (decide (BD k d n z)) st):CallT PR Dr [.agg [.int .i64 k,.int .i64 d,.int .i64 n,.int .i64 z]] [.one .bool] st K:=by
 refine Jf _ _ _ _ st K ?_
 repeat' first
  | exact Cb (Eq.symm (decide_eq_false (by unfold BD;omega))) hk
  | exact Cb (Eq.symm (decide_eq_true (by unfold BD;omega))) hk
  | exact Cb (decide_eq_decide.2 (by unfold BD;omega)) hk
  | refine Aa (fun _=>?_) fun _=>?_
theorem RJ {k:Int} {st:St} {K:Bool->St->Prop} (hk:K (decide (k=1∨k=3∨k=4)) st):CallT PR BJ [.int .i64 k] [.one .bool] st K:=by
 refine Fp _ st K ?_
 repeat' first
  | exact Cb (Eq.symm (decide_eq_true (by omega))) hk
  | exact Cb (decide_eq_decide.2 (by omega)) hk
  | refine Aa (fun _=>?_) fun _=>?_
theorem Oo {k:Int} {st:St} {K:Bool->St->Prop} (hk:K (decide (k=2∨k=3∨k=4)) st):CallT PR A3 [.int .i64 k] [.one .bool] st K:=by
 refine Ez _ st K ?_
 repeat' first
  | exact Cb (Eq.symm (decide_eq_true (by omega))) hk
  | exact Cb (decide_eq_decide.2 (by omega)) hk
  | refine Aa (fun _=>?_) fun _=>?_
theorem MO {k d n z:Int} {st:St} {K:Bool->St->Prop} (hk:K (decide (BD k d n z)) st):CallT PR BK [.agg [.int .i64 k,.int .i64 d,.int .i64 n,.int .i64 z]] [.one .bool] st K:=by
 refine Fq _ _ _ _ st K ?_
 repeat' first
  | exact Cb (Eq.symm (decide_eq_false (by unfold BD;omega))) hk
  | exact Cb (Eq.symm (decide_eq_true (by unfold BD;omega))) hk
  | exact Cb (decide_eq_decide.2 (by unfold BD;omega)) hk
  | refine Aa (fun _=>?_) fun _=>?_
  | refine RJ ?_
  | refine Oo ?_
theorem oac {c p r:Bool} {K:Bool->Prop} {R1 R2:Prop} (h1:K r->R1) (h2:K r->R2) (hk:K (!(c&&p)&&r)):BIf c (BIf p (K false) R1) R2:=by
 cases c<;>cases p<;>simp only[Bool.true_and,Bool.false_and,Bool.not_true,Bool.not_false]at hk<;>first | exact h1 hk | exact h2 hk | exact hk
theorem oaf {c r:Bool} {K:Bool->Prop} {R:Prop} (h:K r->R) (hk:K (!c&&r)):BIf c (K false) R:=by
 cases c<;>simp only[Bool.true_and,Bool.false_and,Bool.not_true,Bool.not_false]at hk<;>first | exact h hk | exact hk
theorem oab {c p r:Bool} {K:Bool->Prop} {R1 R2:Prop} (h1:K r->R1) (h2:K r->R2) (hk:K ((c || p)&&r)):BIf c R1 (BIf p R2 (K false)):=by
 cases c<;>cases p<;>simp only[Bool.true_and,Bool.false_and,Bool.or_true,Bool.or_false,Bool.true_or,Bool.false_or]at hk<;>first | exact h1 hk | exact h2 hk | exact hk
theorem oan {c p r s:Bool} {K:Bool->Prop} {R1 R2:Prop} (hs:s=true) (h1:K r->R1) (h2:K r->R2) (hk:K ((c || p)&&r)):BIf c R1 (need s (BIf p R2 (K false))):=by
 subst hs;exact oab h1 h2 hk
theorem oae {c p s:Bool} {K:Bool->Prop} (hs:s=true) (hk:K (c || p)):BIf c (K true) (need s (K p)):=by
 subst hs;cases c<;>exact hk
def owB (s:Sc) (l:List Vl) (f:List Fd):Bool:=
 !decide (s.kind<0)&&(!decide (7<s.kind)&&(!(decide (s.kind≠1)&&s.b)&&(!(decide (s.kind≠2)&& !((s.neg==false)&&(decide (s.dg=[])&&(decide (s.ex=0)&&true))))&&(!(decide (s.kind≠3)&& !(decide (s.tk=0)&&(decide (s.td=0)&&(decide (s.tn=0)&&(decide (s.tz=0)&&true)))))&&
  ((decide (s.kind=4) || decide (s.text=[]))&&((decide (s.kind=5) || decide ((s.bytes.length:Int)=0))&&((decide (s.kind=6) || decide ((l.length:Int)=0))&&(decide (s.kind=7) || decide ((f.length:Int)=0)))))))))
theorem PV {α:Type} {l:List α}:(l.length:Int)=0↔l=[]:=by
 rw[<-List.length_eq_zero_iff];omega
theorem QW {s:Sc} {l:List Vl} {f:List Fd}:owB s l f=true↔GM s l f:=by
 unfold owB
 simp only[Bool.and_eq_true,Bool.not_eq_true',Bool.or_eq_true,Bool.and_eq_false_imp,decide_eq_true_eq,Bool.not_eq_false',beq_iff_eq,decide_eq_false_iff_not,PV,ne_eq,and_true,Int.not_lt]
 constructor
 ·rintro⟨h0,h7,a,b,c,d,e,f,g⟩
  exact⟨h0,h7,a,b,c,fun h=>d.resolve_left h,fun h=>e.resolve_left h,fun h=>f.resolve_left h,fun h=>g.resolve_left h⟩
 ·rintro⟨h0,h7,a,b,c,d,e,f,g⟩
  exact⟨h0,h7,a,b,c,Decidable.or_iff_not_imp_left.2 d,Decidable.or_iff_not_imp_left.2 e,Decidable.or_iff_not_imp_left.2 f,Decidable.or_iff_not_imp_left.2 g⟩
theorem owB_eq {s:Sc} {l:List Vl} {f:List Fd}:owB s l f=decide (GM s l f):=by
 rw[Bool.eq_iff_iff,decide_eq_true_eq];exact QW
theorem QV {s:Sc} {l:List Vl} {f:List Fd} {ub ul uf:TV} {st:St} {K:Bool->St->Prop} (h1:isSl ub=true) (h2:isSl ul=true) (h3:isSl uf=true) (l1:lenS ub=s.bytes.length) (l2:lenS ul=l.length) (l3:lenS uf=f.length) (hk:K (decide (GM s l f)) st):
  CallT PR Ch [.agg (A1 s ub ul uf)] [.one .bool] st K:=by
 rw[<-owB_eq]at hk
 unfold owB at hk
 refine Gs _ _ _ _ _ _ _ _ _ _ _ _ _ st K ?_
 rw[l1,l2,l3]
 revert hk
 repeat' first
  | (refine fun hk=>oae (K:=fun b=>K b st) h3 hk)
  | (refine fun hk=>oan (K:=fun b=>K b st) h1 ?_ ?_ hk)
  | (refine fun hk=>oan (K:=fun b=>K b st) h2 ?_ ?_ hk)
  | (refine fun hk=>oab (K:=fun b=>K b st) ?_ ?_ hk)
  | (refine fun hk=>oac (K:=fun b=>K b st) ?_ ?_ hk)
  | (refine fun hk=>oaf (K:=fun b=>K b st) ?_ hk)
theorem G6 (seen:List B8) (d:Fd) (r:List Fd):Fg seen (d::r)=if U8 d.key then(if 1024<d.key.length then 10 else if d.key∈seen then 8 else Fg (d.key::seen) r)else 5:=rfl
theorem IZ:∀(f:List Fd) (s s':List B8),(∀x,x∈s↔x∈s')->Fg s f=Fg s' f
 | [],s,s',_=>rfl
 | d::r,s,s',h=>by
  rw[G6,G6,IZ r (d.key::s) (d.key::s') (fun x=>by simp[h x])]
  by_cases hd:d.key∈s
  ·rw[if_pos hd,if_pos ((h _).1 hd)]
  ·rw[if_neg hd,if_neg fun g=>hd ((h _).2 g)]
theorem Nd {α:Type} {l:List α} {k:Nat} {x:α} (h:l[k]? =some x):l.drop k=x::l.drop (k+1):=by
 obtain⟨q1,q2⟩:=List.getElem?_eq_some_iff.1 h
 rw[List.drop_eq_getElem_cons q1,q2]
theorem key_len {f:List Fd} {d:Fd} (h:d∈f):d.key.length<=D7 f:=by
 have:=Rt h
 cases d;unfold Fd.sz at this;simp only[Fd.key];omega
theorem Pq {st0 st:St} {uf:TV} {xf:List TV} {f:List Fd} (hke:Bw st0 st) (h4:SlR st0 14 uf f.length xf) (h5:FsR st0 f xf) (hN:D7 f<=2000000) {K:Int->St->Prop} (hk:∀st',Ah st st'->K (Fg [] f:Nat) st'):
  CallT PR AK [uf] [.one (.int .i64)] st K:=by
 have hfl:=EH f
 refine FI _ st K ⟨fun i u st'=>uf=u/\∃k:Nat,i=k/\k<=f.length/\Ah st st'/\Fg [] f=Fg ((f.take k).map Fd.key) (f.drop k),fun i _ _=>(f.length-i).toNat,⟨rfl,0,rfl,Nat.zero_le _,Ah.refl _,rfl⟩,?_⟩
 rintro _ _ st1 ⟨rfl,k,rfl,hkf,e1,hE⟩
 refine Ac h4.isSl (Aa (fun g=>?_) fun g=>?_)
 ·rw[h4.lenS]at g
  have gd:f[k]? =some f[k]:=List.getElem?_eq_getElem (by omega)
  generalize f[k]=d at gd
  have hkl:=key_len (J2 gd)
  rw[Nd gd,G6]at hE
  refine La (hke.trans e1.keeps) h4 h5 rfl gd (Iu (by omega) fun st2 e2=>?_)
  have e12:=e1.trans e2
  by_cases g1:U8 d.key
  case neg=>
   rw[if_neg g1]at hE
   refine Al (fun _=>?_) fun h=>absurd (by unfold U8;simpa using h) g1
   have:=hk st2 e12
   rw[hE]at this;exact this
  rw[if_pos g1]at hE
  refine Al (fun h=>absurd g1 (by unfold U8;simpa using h)) fun _=>La (hke.trans e12.keeps) h4 h5 rfl gd ?_
  by_cases g2:1024<d.key.length
  ·rw[if_pos g2]at hE
   refine Aa (fun _=>?_) fun h=>absurd (by omega) h
   have:=hk st2 e12
   rw[hE]at this;exact this
  rw[if_neg g2]at hE
  refine Aa (fun h=>absurd (by omega) g2) fun _=>?_
  refine⟨fun i u j st'=>uf=u/\j=(k:Int)/\st2=st'/\∃q:Nat,i=q/\q<=k/\∀(j:Nat) (x:Fd),j<q->f[j]? =some x->x.key≠d.key,fun i _ _ _=>(k-i).toNat,⟨rfl,rfl,rfl,0,rfl,Nat.zero_le _,fun j x hj=>absurd hj (Nat.not_lt_zero _)⟩,?_⟩
  rintro _ _ _ _ ⟨rfl,rfl,rfl,q,rfl,hq,hne⟩
  refine Aa (fun g3=>?_) fun g3=>?_
  ·have gx:f[q]? =some f[q]:=List.getElem?_eq_getElem (by omega)
   generalize f[q]=x at gx
   refine La (hke.trans e12.keeps) h4 h5 rfl gx (La (hke.trans e12.keeps) h4 h5 rfl gd (Aa (fun g4=>?_) fun g4=>?_))
   ·rw[if_pos]at hE
    ·have:=hk st2 e12
     rw[hE]at this;exact this
    ·rw[<-g4]
     refine List.mem_map_of_mem ?_
     have:(f.take k)[q]? =some x:=by rw[List.getElem?_take,if_pos (by omega)];exact gx
     exact J2 this
   ·rw[Ae _ (by omega) (by omega)]
    refine⟨⟨rfl,rfl,rfl,q+1,by omega,by omega,fun j y hj hy=>?_⟩,by dsimp only;omega⟩
    by_cases hjq:j=q
    ·subst hjq
     rw[gx]at hy
     rw[<-Option.some.inj hy];exact g4
    ·exact hne j y (by omega) hy
  ·have hqk:q=k:=by omega
   subst hqk
   rw[if_neg]at hE
   ·rw[Ae _ (by omega) (by omega)]
    refine⟨⟨rfl,q+1,by omega,by omega,e12,?_⟩,by dsimp only;omega⟩
    rw[hE]
    refine IZ _ _ _ fun x=>?_
    rw[Gd gd]
    simp[or_comm]
   ·intro hm
    obtain⟨x,hx,he⟩:=List.mem_map.1 hm
    obtain⟨j,hj⟩:=List.getElem?_of_mem hx
    rw[List.getElem?_take]at hj
    split at hj
    ·rename_i hlt
     exact hne j x hlt hj he
    ·cases hj
 ·rw[h4.lenS]at g
  have:k=f.length:=by omega
  subst this
  rw[List.drop_length]at hE
  have:=hk st1 e1
  rw[hE]at this;exact this
theorem chkV_eq {d n:Nat} {s:Sc} {l:List Vl} {f:List Fd} (h1:¬48<d) (h2:¬65536<=n) (h3:CQ s l f=0):Es d n (.mk s l f)=Dz (Cp (d+1) (n+1) l) fun m=>DC (d+1) m f:=by
 unfold Es;rw[if_neg h1,if_neg h2,if_neg (fun h=>h h3)]
theorem RO {d n:Nat} {s:Sc} {l:List Vl} {f:List Fd} (h1:¬48<d) (h2:¬65536<=n) (h3:CQ s l f≠0):Es d n (.mk s l f)=(n,CQ s l f):=by
 unfold Es;rw[if_neg h1,if_neg h2,if_pos h3]
theorem Kr (d n:Nat) (v:Vl) (r:List Vl):Cp d n (v::r)=Dz (Es d n v) fun m=>Cp d m r:=by rw[Cp]
theorem Os (d n:Nat) (k:B8) (v:Vl) (r:List Fd):DC d n (.mk k v::r)=Dz (Es d n v) fun m=>DC d m r:=by rw[DC,RP]
section
theorem one_ok {s:Sc} {l:List Vl} {f:List Fd} (hN:(Vl.mk s l f).sz<=2000000) {st0 st:St} {ub ul uf:TV} {K:Int->St->Prop} (h:VlR st0 (.mk s l f) (A1 s ub ul uf)) (hke:Bw st0 st) (hk:∀st',Ah st st'->K (CQ s l f:Nat) st'):
  CallT PR Br [.agg (A1 s ub ul uf)] [.one (.int .i64)] st K:=by
 have hsz:(Vl.mk s l f).sz=1+s.bytes.length+s.text.length+s.dg.length+FC l+D7 f:=by unfold Vl.sz;rfl
 unfold VlR at h
 obtain⟨ub',ul',uf',xl,xf,hcs,h1,h2,h3,h4,h5⟩:=h
 simp only[A1,List.cons.injEq,and_true,true_and]at hcs
 obtain⟨rfl,rfl,rfl⟩:=hcs
 refine Dy _ _ _ _ _ _ _ _ _ _ _ _ _ st K (QV h1.isSl h2.isSl h4.isSl h1.lenS h2.lenS h4.lenS ?_)
 have kk:∀(c:Nat) (st':St),CQ s l f=c->Ah st st'->K (c:Int) st':=fun c st' hc e=>by rw[<-hc];exact hk st' e
 by_cases ho:GM s l f
 case neg=>exact Al (fun _=>kk 6 st (by unfold CQ;rw[if_neg ho]) (Ah.refl _)) fun h=>by rw[decide_eq_false ho]at h;cases h
 refine Al (fun h=>by rw[decide_eq_true ho]at h;cases h) fun _=>rDec_ok (by omega) ?_
 by_cases hq:Ce s.neg s.dg s.ex
 case neg=>exact Al (fun _=>kk 2 st (by unfold CQ;rw[if_pos ho,if_neg hq]) (Ah.refl _)) fun h=>by rw[decide_eq_false hq]at h;cases h
 refine Al (fun h=>by rw[decide_eq_true hq]at h;cases h) fun _=>?_
 have rest:(s.kind=3->BD s.tk s.td s.tn s.tz)->CallT PR AC [.str s.text] [.one (.bool)] st (fun (b4:Bool) (st4:St)=>BIf (!b4) (K 5 st4) (BIf (decide (65536<(s.text.length:Int))) (K 10 st4) (need (isSl ub) (BIf (decide (65536<(lenS ub:Int))) (K 10 st4) (
   CallT PR AK [uf] [.one (.int .i64)] st4 fun (n1:Int) (st5:St)=>K n1 st5))))):=by
  intro hq2
  refine Iu (by omega) fun st1 e1=>?_
  by_cases hu:U8 s.text
  case neg=>exact Al (fun _=>kk 5 st1 (by unfold CQ;rw[if_pos ho,if_pos hq,if_pos hq2,if_neg hu]) e1) fun h=>absurd (by unfold U8;simpa using h) hu
  have h6:CQ s l f=if 65536<s.text.length then 10 else if 65536<s.bytes.length then 10 else Fg [] f:=by unfold CQ;rw[if_pos ho,if_pos hq,if_pos hq2,if_pos hu]
  refine Al (fun h=>absurd hu (by unfold U8;simpa using h)) fun _=>Aa (fun g5=>?_) fun g5=>Ac h1.isSl (Aa (fun g6=>?_) fun g6=>?_)
  ·exact kk 10 st1 (by rw[h6,if_pos (by omega)]) e1
  ·rw[h1.lenS]at g6
   exact kk 10 st1 (by rw[h6,if_neg (by omega),if_pos (by omega)]) e1
  ·rw[h1.lenS]at g6
   exact Pq (hke.trans e1.keeps) h4 h5 (by omega) fun st2 e2=>kk _ st2 (by rw[h6,if_neg (by omega),if_neg (by omega)]) (e1.trans e2)
 refine Aa (fun g3=>MO ?_) fun g3=>rest fun h=>absurd h g3
 by_cases hq2:BD s.tk s.td s.tn s.tz
 ·exact Al (fun h=>by rw[decide_eq_true hq2]at h;cases h) fun _=>rest fun _=>hq2
 ·exact Al (fun _=>kk 2 st (by unfold CQ;rw[if_pos ho,if_pos hq,if_neg fun h=>hq2 (h g3)]) (Ah.refl _)) fun h=>by rw[decide_eq_false hq2]at h;cases h
def CV (s:Sc) (l:List Vl) (f:List Fd):List Vl:=if s.kind=7 then f.map Fd.val else l
theorem Lk (d:Nat):∀(f:List Fd) (n:Nat),DC d n f=Cp d n (f.map Fd.val)
 | [],n=>by simp[DC,Cp]
 | .mk k v::r,n=>by
  rw[Os,List.map_cons,Kr]
  have:(fun m=>DC d m r)=fun m=>Cp d m (r.map Fd.val):=funext fun m=>Lk d r m
  rw[this];rfl
theorem Qx (x:Nat×Nat):Dz x (fun m=>(m,0))=x:=by
 unfold Dz;split
 ·rename_i h;exact Prod.ext rfl h.symm
 ·rfl
theorem Qe {d n:Nat} {s:Sc} {l:List Vl} {f:List Fd} (ho:GM s l f):(Dz (Cp (d+1) (n+1) l) fun m=>DC (d+1) m f)=Cp (d+1) (n+1) (CV s l f):=by
 unfold CV
 by_cases h7:s.kind=7
 ·rw[if_pos h7,ho.ls (by omega),Cp,FM rfl,Lk]
 ·rw[if_neg h7,ho.fs h7]
  simp only[DC]
  exact Qx _
mutual
theorem L3:∀(v:Vl) (d n:Nat),n<=65536->(Es d n v).2=0->(Es d n v).1<=65536
 | .mk s l f,d,n,hn,h=>by
  unfold Es at h⊢
  split at h
  ·cases h
  ·rename_i g1
   rw[if_neg g1]
   split at h
   ·cases h
   ·rename_i g2
    rw[if_neg g2]
    split at h
    ·rename_i h1;exact absurd h h1
    ·rename_i g3
     rw[if_neg g3]
     obtain⟨h2,h3⟩:=GW h
     rw[FM h2]
     exact Nq f _ _ (Np l _ _ (by omega) h2) h3
theorem Np:∀(l:List Vl) (d n:Nat),n<=65536->(Cp d n l).2=0->(Cp d n l).1<=65536
 | [],d,n,hn,_=>by unfold Cp;exact hn
 | v::r,d,n,hn,h=>by
  unfold Cp at h⊢
  obtain⟨h2,h3⟩:=GW h
  rw[FM h2]
  exact Np r _ _ (L3 v _ _ hn h2) h3
theorem chkD_le:∀(x:Fd) (d n:Nat),n<=65536->(RP d n x).2=0->(RP d n x).1<=65536
 | .mk k v,d,n,hn,h=>by unfold RP at h⊢;exact L3 v _ _ hn h
theorem Nq:∀(l:List Fd) (d n:Nat),n<=65536->(DC d n l).2=0->(DC d n l).1<=65536
 | [],d,n,hn,_=>by unfold DC;exact hn
 | x::r,d,n,hn,h=>by
  unfold DC at h⊢
  obtain⟨h2,h3⟩:=GW h
  rw[FM h2]
  exact Nq r _ _ (chkD_le x _ _ hn h2) h3
end
theorem VsR.snoc {st:St} {v:Vl} {cv:List TV}:∀{l:List Vl} {xs:List TV},VsR st l xs->VlR st v cv->VsR st (l++[v]) (xs++cv)
 | [],xs,h,hv=>by
  unfold VsR at h
  subst h
  show VsR st [v] _
  unfold VsR
  exact⟨cv,[],by simp,hv,by unfold VsR;rfl⟩
 | w::r,xs,h,hv=>by
  unfold VsR at h
  obtain⟨a,b,rfl,h1,h2⟩:=h
  show VsR st (w::(r++[v])) _
  unfold VsR
  exact⟨a,b++cv,by simp,h1,VsR.snoc h2 hv⟩
theorem kids_ok {s:Sc} {l:List Vl} {f:List Fd} (hN:(Vl.mk s l f).sz<=2000000) {st0 st:St} {ub ul uf:TV} {K:TV->St->Prop} (h:VlR st0 (.mk s l f) (A1 s ub ul uf)) (hke:Bw st0 st)
  (hk:∀u xl st',Ah st st'->SlR st' 13 u (CV s l f).length xl->VsR st' (CV s l f) xl->K u st'):CallT PR BY [.agg (A1 s ub ul uf)] [.one .tv] st K:=by
 have hsz:(Vl.mk s l f).sz=1+s.bytes.length+s.text.length+s.dg.length+FC l+D7 f:=by unfold Vl.sz;rfl
 have hfl:=EH f
 unfold VlR at h
 obtain⟨ub',ul',uf',xl,xf,hcs,h1,h2,h3,h4,h5⟩:=h
 simp only[A1,List.cons.injEq,and_true,true_and]at hcs
 obtain⟨rfl,rfl,rfl⟩:=hcs
 refine FH _ _ _ _ _ _ _ _ _ _ _ _ _ st K (Aa (fun g=>?_) fun g=>?_)
 ·have e:CV s l f=l:=by unfold CV;rw[if_neg g]
  rw[e]at hk
  exact hk ul xl st (Ah.refl _) (h2.keep hke) (VsR.keep hke h3)
 ·have e:CV s l f=f.map Fd.val:=by unfold CV;rw[if_pos (by omega)]
  rw[e,List.length_map]at hk
  refine⟨fun o i kd bo ng dg ex tk td tn tz tx u1 u2 u3 st'=>uf=u3/\∃(k:Nat) (xs:List TV),i=k/\k<=f.length/\Ah st st'/\Own st.nt 13 st' o k xs/\VsR st ((f.take k).map Fd.val) xs,fun _ i _ _ _ _ _ _ _ _ _ _ _ _ _ _=>(f.length-i).toNat,
   ⟨rfl,0,[],rfl,Nat.zero_le _,Ah.refl _,Own.nil _ _ _,by simp only[List.take_zero,List.map_nil];unfold VsR;rfl⟩,?_⟩
  rintro o _ kd bo ng dg ex tk td tn tz tx u1 u2 _ st1 ⟨rfl,k,xs,rfl,hkf,e1,ho,hv⟩
  refine Ac h4.isSl (Aa (fun g2=>?_) fun g2=>?_)
  ·rw[h4.lenS]at g2
   refine Qt (hke.trans e1.keeps) h4 h5 rfl (by omega) fun key s' l' f' ub1 ul1 uf1 gw hw on=>Ac on ?_
   refine H4 e1 rfl ho (by omega) (fun h=>by cases h) fun v2 st2 e2 _ ho2=>?_
   rw[Ae _ (by omega) (by omega)]
   refine⟨⟨rfl,k+1,_,by omega,by omega,e2,ho2,?_⟩,by dsimp only;omega⟩
   rw[Gd gw,List.map_append]
   exact VsR.snoc hv (VlR.keep hke hw)
  ·rw[h4.lenS]at g2
   have hkk:k=f.length:=by omega
   subst hkk
   rw[List.take_length]at hv
   exact hk o xs st1 e1 (.of_rd ho.rd) (VsR.keep e1.keeps hv)
theorem kids_sz {s:Sc} {l:List Vl} {f:List Fd} {k:Nat} {w:Vl} (h:(CV s l f)[k]? =some w):w.sz+1<=(Vl.mk s l f).sz:=by
 have hsz:(Vl.mk s l f).sz=1+s.bytes.length+s.text.length+s.dg.length+FC l+D7 f:=by unfold Vl.sz;rfl
 unfold CV at h
 split at h
 ·rw[List.getElem?_map]at h
  obtain⟨d,hd,rfl⟩:=Option.map_eq_some_iff.1 h
  have:=F4 hd
  cases d;unfold Fd.sz at this;simp only[Fd.val];omega
 ·have:=Hi h;omega
theorem Re {s:Sc} {l:List Vl} {f:List Fd}:(CV s l f).length<=(Vl.mk s l f).sz:=by
 have hsz:(Vl.mk s l f).sz=1+s.bytes.length+s.text.length+s.dg.length+FC l+D7 f:=by unfold Vl.sz;rfl
 have:=Hh l
 have:=EH f
 unfold CV;split
 ·rw[List.length_map];omega
 ·omega
theorem look_ok:∀(N:Nat) (v:Vl),v.sz<=N->N<=2000000->∀{st0 st:St} {cs:List TV} {d n:Nat} {D:Int} {K:Int->Int->St->Prop},VlR st0 v cs->Bw st0 st->n<=65536->D=(d:Int)->d<=100->
  (∀st',Ah st st'->K ((Es d n v).1:Nat) ((Es d n v).2:Nat) st')->CallT PR Bn [.agg cs,.int .i64 D,.int .i64 (n:Nat)] [.one (.int .i64),.one (.int .i64)] st K:=by
 intro N
 induction N with
 | zero=>intro v h;have:=v.sz_pos;omega
 | succ N ih=>
 intro v hN hN2 st0 st cs d n D K h hke hn hD hd hk
 subst hD
 cases v with
 | mk s l f=>
 have hcs:∃ub ul uf,cs=A1 s ub ul uf:=by
  have h0:=h
  unfold VlR at h0
  obtain⟨ub,ul,uf,xl,xf,rfl,_⟩:=h0
  exact⟨ub,ul,uf,rfl⟩
 obtain⟨ub,ul,uf,rfl⟩:=hcs
 have kk:∀(x:Nat×Nat) (st':St),Es d n (.mk s l f)=x->Ah st st'->K (x.1:Nat) (x.2:Nat) st':=fun x st' hx e=>by rw[<-hx];exact hk st' e
 refine Dh _ _ _ _ _ _ _ _ _ _ _ _ _ (d:Int) (n:Int) st K (Aa (fun g=>?_) fun g=>Aa (fun g2=>?_) fun g2=>?_)
 ·exact kk (n,9) st (by unfold Es;rw[if_pos (by omega)]) (Ah.refl _)
 ·exact kk (n,10) st (by unfold Es;rw[if_neg (by omega),if_pos (by omega)]) (Ah.refl _)
 have hg1:¬48<d:=by omega
 have hg2:¬65536<=n:=by omega
 refine one_ok (l:=l) (f:=f) (by omega) h hke fun st1 e1=>Aa (fun g3=>?_) fun g3=>?_
 ·exact kk (n,CQ s l f) st1 (RO hg1 hg2 (by omega)) e1
 have hone:CQ s l f=0:=by omega
 have ho:GM s l f:=(ED.1 hone).own
 have hC:Es d n (.mk s l f)=Cp (d+1) (n+1) (CV s l f):=by rw[chkV_eq hg1 hg2 hone,Qe ho]
 refine kids_ok (l:=l) (f:=f) (by omega) h (hke.trans e1.keeps) fun u xl st2 e2 hu hv=>?_
 have e12:=e1.trans e2
 have hlen:=Re (s:=s) (l:=l) (f:=f)
 rw[Ae ((n:Int)+1) (by omega) (by omega)]
 refine⟨fun c i dp u' st'=>u=u'/\dp=(d:Int)/\∃k m:Nat,i=k/\k<=(CV s l f).length/\c=(m:Int)/\m<=65536/\Ah st2 st'/\Cp (d+1) (n+1) (CV s l f)=Cp (d+1) m ((CV s l f).drop k),fun _ i _ _ _=>((CV s l f).length-i).toNat,
  ⟨rfl,rfl,0,n+1,rfl,Nat.zero_le _,by omega,by omega,Ah.refl _,rfl⟩,?_⟩
 rintro _ _ _ _ st3 ⟨rfl,rfl,k,m,rfl,hkl,rfl,hm,e3,hE⟩
 refine Ac hu.isSl (Aa (fun g4=>?_) fun g4=>?_)
 ·rw[hu.lenS]at g4
  refine el13 e3.keeps hu hv rfl (by omega) fun s' l' f' ub1 ul1 uf1 gw hw on=>?_
  have hwsz:=kids_sz gw
  rw[Nd gw,Kr]at hE
  rw[Ae _ (by omega) (by omega)]
  refine ih _ (by omega) (by omega) (d:=d+1) hw e3.keeps hm (by omega) (by omega) fun st4 e4=>?_
  refine Aa (fun g5=>?_) fun g5=>?_
  ·have hne:(Es (d+1) m (.mk s' l' f')).2≠0:=by omega
   rw[PA hne]at hE
   exact kk _ st4 (by rw[hC,hE]) (e12.trans (e3.trans e4))
  ·have hz:(Es (d+1) m (.mk s' l' f')).2=0:=by omega
   rw[FM hz]at hE
   rw[Ae _ (by omega) (by omega)]
   exact⟨⟨rfl,rfl,k+1,_,by omega,by omega,rfl,L3 _ _ _ hm hz,e3.trans e4,hE⟩,by dsimp only;omega⟩
 ·rw[hu.lenS]at g4
  have hkk:k=(CV s l f).length:=by omega
  subst hkk
  rw[List.drop_length,Cp]at hE
  exact kk (m,0) st3 (by rw[hC,hE]) (e12.trans e3)
theorem PI {v:Vl} (hN:v.sz<=2000000) {st0 st:St} {cs:List TV} {K:Int->St->Prop} (h:VlR st0 v cs) (hke:Bw st0 st) (hk:∀st',Ah st st'->K (Ot v:Nat) st'):
  CallT PR Bh [.agg cs] [.one (.int .i64)] st K:=by
 have h0:=h
 cases v with
 | mk s l f=>
 unfold VlR at h0
 obtain⟨ub,ul,uf,xl,xf,rfl,_⟩:=h0
 exact CS _ _ _ _ _ _ _ _ _ _ _ _ _ st K (look_ok 2000000 _ hN (by omega) (d:=1) (n:=0) h hke (by omega) rfl (by omega) hk)
end
theorem VlR.cells {st:St} {s:Sc} {l:List Vl} {f:List Fd} {cs:List TV} (h:VlR st (.mk s l f) cs):∃ub ul uf xl xf,cs=A1 s ub ul uf/\SlR st 1 ub s.bytes.length (Aq s.bytes)/\SlR st 13 ul l.length xl/\VsR st l xl/\SlR st 14 uf f.length xf/\FsR st f xf:=by
 unfold VlR at h
 obtain⟨ub,ul,uf,xl,xf,rfl,h⟩:=h
 exact⟨ub,ul,uf,xl,xf,rfl,h⟩
theorem szs (s:Sc) (l:List Vl) (f:List Fd):(Vl.mk s l f).sz=1+s.bytes.length+s.text.length+s.dg.length+FC l+D7 f:=by unfold Vl.sz;rfl
theorem szd (k:B8) (v:Vl):(Fd.mk k v).sz=k.length+v.sz:=by unfold Fd.sz;rfl
theorem O2 {st0 st:St} {uf:TV} {xf:List TV} {l:List Fd} (hke:Bw st0 st) (h2:SlR st0 14 uf l.length xf) (h3:FsR st0 l xf) {k:Nat} {d:Fd} (hd:l[k]? =some d):Af st [] (.t (AX (ixT 14 uf k) 0)) 0=some (.str d.key):=by
 obtain⟨hk,_⟩:=List.getElem?_eq_some_iff.1 hd
 obtain⟨cw,hw,hcw,hcl⟩:=h3.get hd
 have hx:xf[k*14+0]? =some (.str d.key):=by
  cases d with
  | mk key w=>
   unfold FdR at hw
   obtain⟨cs,rfl,_⟩:=hw
   have:=congrArg (fun z=>z[0]?) hcw
   simpa [Fd.key]using this
 exact(h2.keep hke).ldf h3.len hk (by omega) hx
end Go.TVF
section
namespace Go.TVF
open Go.IntKind(i64 u8)
open Go Go.Proofs Go.ChangeShapes
section
variable {H:Type} {enc:TypeId×Value->H} {P:Program} {w:World} {base:Nat} {held:Bool}
def Op (enc:TypeId×Value->H) (P:Program) (w:World) (base:Nat) (held:Bool) (n c:Nat) (S:List TV->Prop) (e:TypeId):Prop:=
 P.cellsOf e=c/\∀vs x,DataW.trod enc P w base (fun _=>true) held n e vs=some x->∃tv,Ax (Ghost.start w) w tv vs/\tv.length=c/\S tv
end
end Go.TVF
end
section
namespace Go.TVF
open Go.IntKind(i64 u8)
open Go Go.Proofs Go.ChangeShapes
structure Blk {H:Type} (bk:DataW H->Nat):Prop where
 one:∀d,1<=bk d
 str:∀b,b.length+1<=bk (.lit (.string b))
 sl:∀e s,(e.map bk).sum+1<=bk (.slice e s)
 agg:∀p,(p.map bk).sum+1<=bk (.agg p)
section
variable {H:Type} {enc:TypeId×Value->H} {P:Program} {w:World} {base:Nat} {held:Bool} {bk:DataW H->Nat}
def OpQ (bk:DataW H->Nat) (enc:TypeId×Value->H) (P:Program) (w:World) (base:Nat) (held:Bool) (n c:Nat) (S:Nat->List TV->Prop) (e:TypeId):Prop:=
 P.cellsOf e=c/\∀vs x,DataW.trod enc P w base (fun _=>true) held n e vs=some x->∃tv,Ax (Ghost.start w) w tv vs/\tv.length=c/\S (bk x.1) tv
def cellQ (c:CTy) (k:Nat) (tv:List TV):Prop:=J9 [c] tv/\1<=k
def strQ (k:Nat) (tv:List TV):Prop:=∃l:B8,tv=[.str l]/\l.length<=maxLen/\l.length+1<=k
theorem opq_cell {n:Nat} {c:CTy} {e:TypeId} (hb:Blk bk) (h:R4 P c e) (hc:P.cellsOf e=1):OpQ bk enc P w base held n 1 (cellQ c) e:=⟨hc,fun vs x hd=>by
 obtain⟨v,u,rfl,hr,hf⟩:=PO (Ghost.start w) h hd
 exact⟨[v],.cons hr (.nil _ _),rfl,hf,hb.one _⟩⟩
theorem opq_str {n:Nat} {e:TypeId} (hb:Blk bk) (h:P.underlying e=some .string) (hc:P.cellsOf e=1):OpQ bk enc P w base held n 1 strQ e:=⟨hc,fun vs x hd=>by
 obtain⟨s,rfl,rfl,hs⟩:=DataW.trod_string h hd
 exact⟨[_],.cons (JS (Ghost.start w) w s) (.nil _ _),rfl,_,rfl,by rw[Array.length_toList];exact hs,hb.str _⟩⟩
def SlQ (c:Nat) (S:Nat->List TV->Prop) (k:Nat) (v:TV):Prop:=
 v= .nilSlice∨∃ps:List (List TV×Nat),v= .list c .non ps.length (ps.map (·.1)).flatten/\(∀p,p∈ps->p.1.length=c/\S p.2 p.1)/\(ps.map (·.2)).sum+1<=k
theorem opq_slice {n c:Nat} {S:Nat->List TV->Prop} {t e:TypeId} (hb:Blk bk) (ht:P.underlying t=some (.slice e)) (ht1:P.cellsOf t=1) (hc1:1<=c) (hE:∀m,m<n->OpQ bk enc P w base held m c S e):
  OpQ bk enc P w base held n 1 (fun k tv=>∃v,tv=[v]/\SlQ c S k v) t:=by
 refine⟨ht1,fun vs x h=>?_⟩
 rcases DataW.trod_slice ht h with⟨rfl,_⟩ | ⟨a,len,cap,elems,rest,m,rfl,rfl,rfl,hbk,hl,hm,hel,hi,hsp,_⟩
 ·exact⟨[.nilSlice],.cons .nilSlice (.nil _ _),rfl,_,rfl,.inl rfl⟩
 ·obtain⟨hcE,hE⟩:=hE m (by omega)
  rw[hcE]at hi hsp
  have hbs:=hb.sl (elems.map (·.1)) (rest.map (·.1))
  rw[List.map_map]at hbs
  by_cases hcap:cap=0
  ·subst hcap
   obtain rfl:len=0:=by omega
   exact⟨[.list c .non 0 []],.cons (.listE _ _ _ (fun id h=>by cases h)) (.nil _ _),rfl,_,rfl,.inr ⟨[],rfl,(fun ck h=>by cases h),by simp only[List.map_nil,List.sum_nil];omega⟩⟩
  ·obtain⟨b,o,spot⟩:=a
   have hspot:spot=none:=by
    have key:∀(i:Nat) (l:List (DataW H×List MemPlace)) (k:Nat),k<l.length->i=0->(w.cells? base ((⟨b,o,spot⟩:Addr).add (i*c)) c).bind (DataW.trod enc P w base (fun _=>true) held m e)=l[k]?->spot=none:=by
     intro i l k hk hi0 h
     subst hi0
     rw[List.getElem?_eq_getElem hk]at h
     obtain⟨vs,h1,_⟩:=Option.bind_eq_some_iff.1 h
     obtain⟨_,hvl,hvc⟩:=World.cells?_some h1
     have:=World.cell?_spot ((hvc 0 (by omega)).trans (List.getElem?_eq_getElem (show 0<vs.length by omega)))
     rw[Nat.zero_mul]at this
     exact this
    by_cases h0:0<len
    ·exact key 0 elems 0 (by omega) rfl (hi 0 h0)
    ·obtain⟨hr,hs⟩:=hsp rfl
     exact key _ rest 0 (by omega) (by omega) (hs 0 (by omega))
   subst hspot
   have each:∀i (hil:i<len),∃tv vs,Ax (Ghost.start w) w tv vs/\tv.length=c/\S (bk (elems[i]'(by omega)).1) tv/\vs.length=c/\∀j,j<c->w.cell? ⟨b,o+(i*c+j),none⟩=some (vs.getD j Go.undef):=by
    intro i hil
    have h:=hi i hil
    rw[List.getElem?_eq_getElem (by omega)]at h
    obtain⟨vs,h1,h2⟩:=Option.bind_eq_some_iff.1 h
    obtain⟨tv,hr,htl,hf⟩:=hE vs _ h2
    obtain⟨_,hvl,hvc⟩:=World.cells?_some h1
    refine⟨tv,vs,hr,htl,hf,hvl,fun j hj=>?_⟩
    have:=hvc j (by omega)
    rw[Deep.add_add,OI]at this
    rw[this]
    simp[List.getD,show j<vs.length by omega]
   have build:∀k,k<=len->∃ps:List (List TV×Nat),ps.length=k/\(∀p,p∈ps->p.1.length=c/\S p.2 p.1)/\ps.map (·.2)=(elems.take k).map (fun y=>bk y.1)/\(ps.map (·.1)).flatten.length=k*c/\∀i (h:i<(ps.map (·.1)).flatten.length),∃u,w.cell? ⟨b,o+i,none⟩=some u/\Rel (Ghost.start w) w (ps.map (·.1)).flatten[i] u:=by
    intro k
    induction k with
    | zero=>intro _;exact⟨[],rfl,(fun ck h=>by cases h),by simp,by simp,fun i h=>absurd h (Nat.not_lt_zero _)⟩
    | succ k ih=>
     intro hk
     obtain⟨ps,h0,h1,hm1,h2,h3⟩:=ih (by omega)
     obtain⟨tv,vs,hr,htl,hf,hvl,hvc⟩:=each k (by omega)
     have hfl:((ps++[(tv,bk (elems[k]'(by omega)).1)]).map (·.1)).flatten=(ps.map (·.1)).flatten++tv:=by simp
     refine⟨ps++[(tv,bk (elems[k]'(by omega)).1)],by simp[h0],fun p h=>?_,?_,by rw[hfl,List.length_append,h2,htl,Nat.succ_mul],fun i h=>?_⟩
     ·rcases List.mem_append.1 h with h | h
      ·exact h1 p h
      ·rw[List.mem_singleton.1 h];exact⟨htl,hf⟩
     ·rw[List.map_append,hm1,List.take_succ_eq_append_getElem (by omega),List.map_append];rfl
     ·simp only[hfl]at h⊢
      by_cases hix:i<(ps.map (·.1)).flatten.length
      ·rw[List.getElem_append_left hix];exact h3 i hix
      ·rw[List.getElem_append_right (by omega)]
       rw[List.length_append]at h
       have hj:i-(ps.map (·.1)).flatten.length<tv.length:=by omega
       refine⟨vs.getD (i-(ps.map (·.1)).flatten.length) Go.undef,?_,hr.2 _ hj⟩
       have:=hvc (i-(ps.map (·.1)).flatten.length) (by omega)
       rw[show o+i=o+(k*c+(i-(ps.map (·.1)).flatten.length)) by rw[<-h2];omega]
       exact this
   obtain⟨ps,h0,h1,hm1,h2,h3⟩:=build len (Nat.le_refl _)
   refine⟨[.list c .non ps.length (ps.map (·.1)).flatten],.cons ?_ (.nil _ _),rfl,_,rfl,.inr ⟨ps,rfl,h1,?_⟩⟩
   ·have hu:∀i,∃u,(h:i<(ps.map (·.1)).flatten.length)->w.cell? ⟨b,o+i,none⟩=some u/\Rel (Ghost.start w) w (ps.map (·.1)).flatten[i] u:=fun i=>by
     by_cases h:i<(ps.map (·.1)).flatten.length
     ·obtain⟨u,hu⟩:=h3 i h
      exact⟨u,fun _=>hu⟩
     ·exact⟨Go.undef,fun h'=>absurd h' h⟩
    rw[h0]
    refine .list _ _ _ _ b o cap (fun i=>Classical.choose (hu i)) h2 hl (fun i hi=>?_) (fun i hi=>(Classical.choose_spec (hu i) hi).2) trivial
    have:=(Classical.choose_spec (hu i) hi).1
    exact⟨⟨rfl,_,this⟩,this⟩
   ·rw[hm1,List.take_of_length_le (by omega)]
    exact hbs
def Mc (bk:DataW H->Nat) (enc:TypeId×Value->H) (P:Program) (w:World) (base:Nat) (held:Bool) (n:Nat):List (Nat×(Nat->List TV->Prop))->List Field->Nat->Prop
 | [],[],_=>True
 | S::Ss,f::fs,o=>f.offset=o/\OpQ bk enc P w base held n S.1 S.2 f.type/\Mc bk enc P w base held n Ss fs (o+S.1)
 | _,_,_=>False
def Ps:List (Nat×(Nat->List TV->Prop))->Nat->List TV->Prop
 | [],_,xs=>xs=[]
 | S::Ss,k,xs=>∃a b k1 k2,xs=a++b/\a.length=S.1/\S.2 k1 a/\Ps Ss k2 b/\k1+k2<=k
def Mo:List (Nat×(Nat->List TV->Prop))->Nat
 | []=>0
 | S::Ss=>S.1+Mo Ss
theorem JX {n:Nat} {vs:List Value}:∀(Ss:List (Nat×(Nat->List TV->Prop))) (fs:List Field) (o:Nat) (xs:List (DataW H×List MemPlace)),Mc bk enc P w base held n Ss fs o->xs.length=fs.length->vs.length=o+Mo Ss->
  (∀(i:Nat) (f:Field),fs[i]? =some f->DataW.trod enc P w base (fun _=>true) held n f.type ((vs.drop f.offset).take (P.cellsOf f.type))=xs[i]?)->∃tv,Ax (Ghost.start w) w tv (vs.drop o)/\tv.length=Mo Ss/\Ps Ss (xs.map (fun y=>bk y.1)).sum tv
 | [],[],o,xs,_,_,hl,_=>⟨[],by rw[List.drop_of_length_le (by simp[Mo]at hl;omega)];exact .nil _ _,rfl,rfl⟩
 | S::Ss,f::fs,o,[],_,hx,_,_=>by simp at hx
 | S::Ss,f::fs,o,x::xs,ht,hx,hl,hd=>by
  obtain⟨h1,⟨h2,h3⟩,h4⟩:=ht
  have hd0:=hd 0 f rfl
  rw[h1,h2]at hd0
  obtain⟨tv0,hr,htl,hf⟩:=h3 _ _ hd0
  obtain⟨tv,hr',hl',hf'⟩:=JX (n:=n) (vs:=vs) Ss fs (o+S.1) xs h4 (by simpa using hx) (by simp only[Mo]at hl;omega) (fun i f' hi=>by simpa using hd (i+1) f' (by simpa using hi))
  refine⟨tv0++tv,?_,by simp[hl',htl,Mo],tv0,tv,_,_,rfl,htl,hf,hf',by simp only[List.map_cons,List.sum_cons];exact Nat.le_refl _⟩
  have hlt:o+S.1<=vs.length:=by simp only[Mo]at hl;omega
  have e:vs.drop o=(vs.drop o).take S.1++vs.drop (o+S.1):=by rw[<-List.drop_drop,List.take_append_drop]
  rw[e]
  exact Ax.append hr hr'
 | [],f::fs,o,xs,ht,_,_,_=>ht.elim
 | S::Ss,[],o,xs,ht,_,_,_=>ht.elim
theorem opq_struct {n c:Nat} {Ss:List (Nat×(Nat->List TV->Prop))} {e:TypeId} {fs:Array Field} (hb:Blk bk) (ht:P.underlying e=some (.struct fs)) (hc:P.cellsOf e=c) (hl:Mo Ss=c) (hf:∀m,m<n->Mc bk enc P w base held m Ss fs.toList 0):
  OpQ bk enc P w base held n c (fun k tv=>∃k',k'+1<=k/\Ps Ss k' tv) e:=⟨hc,fun vs x hd=>by
 obtain⟨xs,m,rfl,rfl,hvl,hx,hi⟩:=DataW.trod_struct ht hd
 obtain⟨tv,h1,h2,h3⟩:=JX (bk:=bk) (enc:=enc) (P:=P) (w:=w) (base:=base) (held:=held) (n:=m) (vs:=vs) Ss fs.toList 0 xs (hf m (by omega)) (by simpa using hx) (by omega) (fun i f h=>hi i f (by simpa using h))
 refine⟨tv,by simpa using h1,by omega,_,?_,h3⟩
 have:=hb.agg (xs.map (·.1))
 rw[List.map_map]at this
 exact this⟩
end
end Go.TVF
end
namespace Go.TVF
open Go.IntKind(i64 u8)
open Go Go.Proofs
section
abbrev decQs:List (Nat×(Nat->List TV->Prop)):=[(1,cellQ .bool),(1,strQ),(1,cellQ (.int .i64))]
abbrev timeQs:List (Nat×(Nat->List TV->Prop)):=[(1,cellQ (.int .i64)),(1,cellQ (.int .i64)),(1,cellQ (.int .i64)),(1,cellQ (.int .i64))]
def valQ (k:Nat) (tv:List TV):Prop:=∃v:Vl,VlR St.zero v tv/\v.sz<=k
def fldQ (k:Nat) (tv:List TV):Prop:=∃d:Fd,FdR St.zero d tv/\d.sz<=k
abbrev NH (c:Nat) (S:Nat->List TV->Prop) (k:Nat) (tv:List TV):Prop:=∃v,tv=[v]/\SlQ c S k v
abbrev inQ (Ss:List (Nat×(Nat->List TV->Prop))) (k:Nat) (tv:List TV):Prop:=∃k',k'+1<=k/\Ps Ss k' tv
abbrev valQs:List (Nat×(Nat->List TV->Prop)):=[(1,cellQ (.int .i64)),(1,cellQ .bool),(3,inQ decQs),(4,inQ timeQs),(1,strQ),(1,NH 1 (cellQ (.int .u8))),(1,NH 13 valQ),(1,NH 14 fldQ)]
abbrev fldQs:List (Nat×(Nat->List TV->Prop)):=[(1,strQ),(13,valQ)]
theorem SlQ.bytes {k:Nat} {v:TV} (h:SlQ 1 (cellQ (.int .u8)) k v):∃l:B8,SlR St.zero 1 v l.length (Aq l)/\l.length<=k:=by
 rcases h with rfl | ⟨ps,rfl,h,hk⟩
 ·exact⟨[],.inl (.inl ⟨rfl,rfl,rfl⟩),Nat.zero_le _⟩
 ·have:∃l:B8,l.length=ps.length/\(ps.map (·.1)).flatten=Aq l/\l.length<=(ps.map (·.2)).sum:=by
   clear hk
   induction ps with
   | nil=>exact⟨[],rfl,rfl,Nat.zero_le _⟩
   | cons p r ih=>
    obtain⟨l,h1,h2,h3⟩:=ih (fun q hq=>h q (.tail _ hq))
    obtain⟨hl,⟨n,ys,hp,hw,rfl⟩,h1k⟩:=h p (.head _)
    have hn:0<=n/\n<=255:=by simpa [Lit.wf,IntKind.min,IntKind.max,IntKind.signed,IntKind.bits]using hw
    refine⟨n.toNat.toUInt8::l,by simp[h1],?_,by simp only[List.length_cons,List.map_cons,List.sum_cons];omega⟩
    rw[List.map_cons,List.flatten_cons,hp,h2]
    simp only[Aq,List.map_cons,CO,List.cons_append,List.nil_append,List.cons.injEq,and_true,TV.int.injEq,true_and]
    have:=natB_lt n.toNat (by omega)
    omega
  obtain⟨l,h1,h2,h3⟩:=this
  exact⟨l,.inl (.inr ⟨.non,by rw[h1,h2]⟩),by omega⟩
theorem SlQ.vals {k:Nat} {v:TV} (h:SlQ 13 valQ k v):∃l xl,SlR St.zero 13 v l.length xl/\VsR St.zero l xl/\FC l<=k:=by
 rcases h with rfl | ⟨ps,rfl,h,hk⟩
 ·exact⟨[],[],.inl (.inl ⟨rfl,rfl,rfl⟩),by unfold VsR;rfl,by unfold FC;exact Nat.zero_le _⟩
 ·have:∃l:List Vl,l.length=ps.length/\VsR St.zero l (ps.map (·.1)).flatten/\FC l<=(ps.map (·.2)).sum:=by
   clear hk
   induction ps with
   | nil=>exact⟨[],rfl,by unfold VsR;rfl,by unfold FC;exact Nat.zero_le _⟩
   | cons p r ih=>
    obtain⟨l,h1,h2,h3⟩:=ih (fun q hq=>h q (.tail _ hq))
    obtain⟨hl,v,hv,hz⟩:=h p (.head _)
    exact⟨v::l,by simp[h1],by unfold VsR;exact⟨_,_,by simp,hv,h2⟩,by unfold FC;simp only[List.map_cons,List.sum_cons];omega⟩
  obtain⟨l,h1,h2,h3⟩:=this
  exact⟨l,_,.inl (.inr ⟨.non,by rw[h1]⟩),h2,by omega⟩
theorem SlQ.flds {k:Nat} {v:TV} (h:SlQ 14 fldQ k v):∃l xl,SlR St.zero 14 v l.length xl/\FsR St.zero l xl/\D7 l<=k:=by
 rcases h with rfl | ⟨ps,rfl,h,hk⟩
 ·exact⟨[],[],.inl (.inl ⟨rfl,rfl,rfl⟩),by unfold FsR;rfl,by unfold D7;exact Nat.zero_le _⟩
 ·have:∃l:List Fd,l.length=ps.length/\FsR St.zero l (ps.map (·.1)).flatten/\D7 l<=(ps.map (·.2)).sum:=by
   clear hk
   induction ps with
   | nil=>exact⟨[],rfl,by unfold FsR;rfl,by unfold D7;exact Nat.zero_le _⟩
   | cons p r ih=>
    obtain⟨l,h1,h2,h3⟩:=ih (fun q hq=>h q (.tail _ hq))
    obtain⟨hl,v,hv,hz⟩:=h p (.head _)
    exact⟨v::l,by simp[h1],by unfold FsR;exact⟨_,_,by simp,hv,h2⟩,by unfold D7;simp only[List.map_cons,List.sum_cons];omega⟩
  obtain⟨l,h1,h2,h3⟩:=this
  exact⟨l,_,.inl (.inr ⟨.non,by rw[h1]⟩),h2,by omega⟩
theorem DO {kd:IntKind} {k:Nat} {tv:List TV} (h:cellQ (.int kd) k tv):∃n,tv=[.int kd n]:=by
 obtain⟨⟨n,ys,rfl,_,rfl⟩,_⟩:=h;exact⟨n,rfl⟩
theorem Ks {k:Nat} {tv:List TV} (h:cellQ .bool k tv):∃b,tv=[.bool b]:=by
 obtain⟨⟨n,ys,rfl,rfl⟩,_⟩:=h;exact⟨n,rfl⟩
theorem each_field {k:Nat} {tv:List TV} (h:inQ fldQs k tv):fldQ k tv:=by
 obtain⟨k0,hk0,_,_,k1,k2,rfl,_,⟨key,rfl,_,hkey⟩,⟨_,_,k3,k4,rfl,_,⟨v,hv,hz⟩,rfl,h2⟩,h1⟩:=h
 refine⟨.mk key v,by unfold FdR;exact⟨_,by simp,hv⟩,by unfold Fd.sz;omega⟩
theorem each_value {k:Nat} {tv:List TV} (h:inQ valQs k tv):valQ k tv:=by
 obtain⟨k0,hk0,_,_,a1,r1,rfl,_,q1,⟨_,_,a2,r2,rfl,_,q2,⟨_,_,a3,r3,rfl,_,q3,⟨_,_,a4,r4,rfl,_,q4,⟨_,_,a5,r5,rfl,_,q5,⟨_,_,a6,r6,rfl,_,q6,⟨_,_,a7,r7,rfl,_,q7,⟨_,_,a8,r8,rfl,_,q8,rfl,h8⟩,h7⟩,h6⟩,h5⟩,h4⟩,h3⟩,h2⟩,h1⟩:=h
 obtain⟨kd,rfl⟩:=DO q1
 obtain⟨bo,rfl⟩:=Ks q2
 obtain⟨d0,hd0,_,_,d1,d2,rfl,_,p1,⟨_,_,d3,d4,rfl,_,⟨dg,rfl,_,hdg⟩,⟨_,_,d5,d6,rfl,_,p3,rfl,g3⟩,g2⟩,g1⟩:=q3
 obtain⟨ng,rfl⟩:=Ks p1
 obtain⟨ex,rfl⟩:=DO p3
 obtain⟨_,_,_,_,_,_,rfl,_,t1,⟨_,_,_,_,rfl,_,t2,⟨_,_,_,_,rfl,_,t3,⟨_,_,_,_,rfl,_,t4,rfl,_⟩,_⟩,_⟩,_⟩:=q4
 obtain⟨tk,rfl⟩:=DO t1
 obtain⟨td,rfl⟩:=DO t2
 obtain⟨tn,rfl⟩:=DO t3
 obtain⟨tz,rfl⟩:=DO t4
 obtain⟨tx,rfl,_,htx⟩:=q5
 obtain⟨ub,rfl,q6⟩:=q6
 obtain⟨ul,rfl,q7⟩:=q7
 obtain⟨uf,rfl,q8⟩:=q8
 obtain⟨bs,hb,hbl⟩:=q6.bytes
 obtain⟨l,xl,hl,hlv,hlz⟩:=q7.vals
 obtain⟨f,xf,hf,hfv,hfz⟩:=q8.flds
 refine⟨.mk ⟨kd,bo,ng,dg,ex,tk,td,tn,tz,tx,bs⟩ l f,?_,by rw[szs];simp only;omega⟩
 unfold VlR
 exact⟨ub,ul,uf,xl,xf,by simp,hb,hl,hlv,hf,hfv⟩
section
variable {H:Type} {enc:TypeId×Value->H} {P:Program} {w:World} {base b0:Nat} {held:Bool} {bk:DataW H->Nat}
end
end
section
def IsValU (t:TV):Prop:=∃v cs,t= .agg cs/\VlR St.zero v cs
section
variable {H:Type} {enc:TypeId×Value->H} {P:Program} {w:World} {base b0:Nat} {held:Bool} {bk:DataW H->Nat}
theorem open_valU {t:TypeId} {fs:Array Field} {v:Value} {d:DataW H} {p:List MemPlace} (ht:P.underlying t=some (.struct fs)) (hop:∀n,OpQ bk enc P w base held n 13 valQ t)
  (hval:Value.okWide P w .any b0 t v) (h:DataW.Trod enc P w base (fun _=>true) held t v d p):∃tv,Rel (Ghost.start w) w tv v/\IsValU tv:=by
 simp only[Value.okWide,ht]at hval
 obtain⟨vs,rfl,_,_⟩:=hval
 obtain⟨n,hn⟩:=h
 obtain⟨cs,hr,_,vl,hv,hz⟩:=(hop n).2 _ _ hn
 have:=Rel.agg cs vs.toList hr.1 hr.2
 rw[Array.toArray_toList]at this
 exact⟨_,this,vl,cs,rfl,hv⟩
end
end
def As (s:B8):B8:=s.takeWhile fun c=>decide (Av c)
def DD (n:Nat) (l:B8):Nat:=l.foldl (fun n c=>10*n+(c.toNat-48)) n
def Bs (l:B8):Nat:=DD 0 l
def AZ (l:B8):B8:=l.dropWhile (·==48)
def dcN (neg:Bool) (s:B8) (ex:Int):Bool×B8×Int×Int:=
 if s=[]then(false,[],0,0)else if 400<ex+AT s∨ex+AT s< -400∨120<s.length-AT s then(false,[],0,2)else(neg,s.take (s.length-AT s),ex+AT s,0)
def Pj:Bool×B8×Int×Int:=(false,[],0,3)
def dcX (neg:Bool) (all:B8) (ex:Int) (less:Bool) (r:B8):Bool×B8×Int×Int:=
 if r=[]∨(As r).length≠r.length then Pj else dcN neg (AZ all) (if less then ex-Bs r else ex+Bs r)
def dcE (neg:Bool) (all:B8) (ex:Int) (r:B8):Bool×B8×Int×Int:=
 if r=[]then dcN neg (AZ all) ex else if r.getD 0 0=101∨r.getD 0 0=69 then
  (if (r.drop 1).getD 0 0=45 then dcX neg all ex true (r.drop 2)else if (r.drop 1).getD 0 0=43 then dcX neg all ex false (r.drop 2)else dcX neg all ex false (r.drop 1))
 else Pj
def dcF (neg:Bool) (a:B8) (r:B8):Bool×B8×Int×Int:=
 if r.getD 0 0=46 then(if As (r.drop 1)=[]then Pj else dcE neg (a++As (r.drop 1)) (-(As (r.drop 1)).length) (r.drop (1+(As (r.drop 1)).length)))
 else dcE neg a 0 r
def dcQ (neg:Bool) (s:B8):Bool×B8×Int×Int:=
 if As s=[]∨(1<(As s).length/\s.getD 0 0=48)then Pj else dcF neg (As s) (s.drop (As s).length)
def dcP (s:B8):Bool×B8×Int×Int:=if s.getD 0 0=45 then dcQ true (s.drop 1)else dcQ false s
theorem EI {a r:B8} (ha:∀c,c∈a->Av c) (hr:¬Av (r.getD 0 0)):As (a++r)=a:=by
 induction a with
 | nil=>
  cases r with
  | nil=>rfl
  | cons c r=>exact List.takeWhile_cons_of_neg (by simpa using hr)
 | cons c a ih=>
  unfold As at ih⊢
  rw[List.cons_append,List.takeWhile_cons_of_pos (by simpa using ha c List.mem_cons_self),ih fun x hx=>ha x (List.mem_cons_of_mem _ hx)]
theorem P5 {a:B8} (ha:∀c,c∈a->Av c):As a=a:=by
 have:=EI (r:=[]) ha (by unfold Av;simp)
 rwa [List.append_nil]at this
theorem Kk (s:B8):∀c,c∈As s->Av c:=by
 induction s with
 | nil=>intro c h;cases h
 | cons a s ih=>
  intro c h
  unfold As at h ih
  rw[List.takeWhile_cons]at h
  split at h
  ·rename_i hd
   rcases List.mem_cons.1 h with rfl | h
   ·exact of_decide_eq_true hd
   ·exact ih c h
  ·cases h
theorem Lg (s:B8):(As s).length<=s.length:=(List.takeWhile_sublist _).length_le
theorem Lf (s:B8):s=As s++s.drop (As s).length:=by
 induction s with
 | nil=>rfl
 | cons a s ih=>
  unfold As at ih⊢
  rw[List.takeWhile_cons]
  split
  ·rw[List.length_cons,List.drop_succ_cons,List.cons_append,<-ih]
  ·rfl
theorem G7 (s:B8):s.take (As s).length=As s:=by
 have h:=Lf s
 have:s.take (As s).length=(As s++s.drop (As s).length).take (As s).length:=by rw[<-h]
 rw[this,List.take_left]
theorem Mf (l:B8) (c:UInt8):AT (l++[c])=if c=48 then AT l+1 else 0:=by
 unfold AT
 rw[List.reverse_append,List.reverse_singleton,List.singleton_append,List.takeWhile_cons]
 by_cases h:c=48
 ·rw[if_pos h,if_pos (by simp[h])];rfl
 ·rw[if_neg h,if_neg (by simp[h])];rfl
theorem Nz (l:B8) (k:Nat):AT (l++List.replicate k 48)=AT l+k:=by
 induction k with
 | zero=>simp
 | succ k ih=>rw[List.replicate_succ',<-List.append_assoc,Mf,if_pos rfl,ih];omega
theorem NA (l:B8):AT l<=l.length:=by
 unfold AT
 have:=(List.takeWhile_sublist (l:=l.reverse) (fun x:UInt8=>x==48)).length_le
 rwa [List.length_reverse]at this
theorem FN {c:UInt8} {l:B8} (h:c≠48):AZ (c::l)=c::l:=by
 unfold AZ;rw[List.dropWhile_cons,if_neg (by simpa using h)]
theorem EA {l:B8} (h:l.getD 0 0≠48):AZ l=l:=by
 cases l with
 | nil=>rfl
 | cons c l=>exact FN (by simpa using h)
theorem GY (k:Nat) (l:B8):AZ (List.replicate k 48++l)=AZ l:=by
 induction k with
 | zero=>rfl
 | succ k ih=>rw[List.replicate_succ,List.cons_append];unfold AZ at ih⊢;rw[List.dropWhile_cons,if_pos (by simp),ih]
theorem Ht (n:Nat) (a b:B8):DD n (a++b)=DD (DD n a) b:=by
 unfold DD;rw[List.foldl_append]
theorem Px:∀n:Nat,Bs (G3 n)=n:=by
 intro n
 induction n using Nat.strongRecOn with
 | _ n ih=>
  by_cases h:n=0
  ·subst h;rw[EF];rfl
  ·rw[EG (by omega)]
   unfold Bs at ih⊢
   rw[Ht,ih (n/10) (by omega)]
   unfold DD
   rw[List.foldl_cons,List.foldl_nil,Cu _ (by omega)];omega
theorem Qr (n:Nat):Bs (whN n)=n:=by
 unfold whN;split
 ·rename_i h;subst h;rfl
 ·exact Px n
theorem Ls (n:Nat):∀c,c∈whN n->Av c:=by
 unfold whN;split
 ·intro c h;rw[List.mem_singleton.1 h];decide
 ·exact natD_dg n
theorem natD_ne {n:Nat} (h:0<n):G3 n≠ []:=by rw[EG h];simp
theorem Qo (n:Nat):whN n≠ []:=by
 unfold whN;split
 ·simp
 ·exact natD_ne (by omega)
theorem Qp (n:Nat):Av ((whN n).getD 0 0):=by
 have h:=Qo n
 have h2:=Ls n
 generalize whN n=l at h h2
 cases l with
 | nil=>exact absurd rfl h
 | cons c l=>exact h2 c List.mem_cons_self
theorem LY {neg:Bool} {dg:B8} {ex ex':Int} (k:Nat) (h:Ce neg dg ex) (hne:dg≠ []) (he:ex'+k=ex):dcN neg (dg++List.replicate k 48) ex'=(neg,dg,ex,0):=by
 obtain⟨h1,h2,h3,h4,h5,h6⟩:=h.2 hne
 unfold dcN
 have hz:AT (dg++List.replicate k 48)=k:=by rw[Nz,h4];omega
 rw[if_neg (by simp[hne]),hz,if_neg (by rw[List.length_append,List.length_replicate];omega),List.length_append,List.length_replicate,Nat.add_sub_cancel,List.take_left,he]
theorem RG {neg:Bool} {all:B8} {ex:Int} {less:Bool} (n:Nat):dcX neg all ex less (whN n)=dcN neg (AZ all) (if less then ex-n else ex+n):=by
 unfold dcX
 rw[if_neg,Qr]
 intro h
 rcases h with h | h
 ·exact Qo n h
 ·exact h (by rw[P5 (Ls n)])
theorem Ph {neg:Bool} {all:B8} {ex p:Int}:dcE neg all ex (Kf p)=dcN neg (AZ all) (ex+(p-1)):=by
 unfold Kf dcE
 rw[if_neg (by simp),if_pos (by simp)]
 split
 ·rw[if_pos (by simp)]
  show dcX neg all ex true (whN _)=_
  rw[RG,if_pos rfl]
  congr 1;omega
 ·have hh:=Qp (p-1).toNat
  have hd:((101:UInt8)::whN (p-1).toNat).drop 1=whN (p-1).toNat:=rfl
  rw[hd,if_neg (fun e=>by rw[e]at hh;revert hh;decide),if_neg (fun e=>by rw[e]at hh;revert hh;decide),RG,if_neg (by simp)]
  congr 1;omega
theorem LZ {neg:Bool} {all:B8} {ex:Int}:dcE neg all ex []=dcN neg (AZ all) ex:=if_pos rfl
theorem Ko {neg:Bool} {a f r:B8} (hf:∀c,c∈f->Av c) (hne:f≠ []) (hr:¬Av (r.getD 0 0)):dcF neg a (46::(f++r))=dcE neg (a++f) (-f.length) r:=by
 unfold dcF
 rw[if_pos (show(46::(f++r)).getD 0 0=46 from rfl),List.drop_succ_cons,List.drop_zero,EI hf hr,if_neg hne,Nat.add_comm,List.drop_succ_cons,List.drop_left]
theorem RI {neg:Bool} {a r:B8} (h:r.getD 0 0≠46):dcF neg a r=dcE neg a 0 r:=if_neg h
theorem LX {neg:Bool} {a r:B8} (ha:∀c,c∈a->Av c) (hne:a≠ []) (h0:a.length=1∨a.getD 0 0≠48) (hr:¬Av (r.getD 0 0)):dcQ neg (a++r)=dcF neg a r:=by
 unfold dcQ
 rw[EI ha hr,if_neg,List.drop_left]
 rintro(h | ⟨h1,h2⟩)
 ·exact hne h
 ·have:(a++r).getD 0 0=a.getD 0 0:=by cases a with | nil=>exact absurd rfl hne | cons c a=>rfl
  rw[this]at h2
  rcases h0 with h0 | h0
  ·omega
  ·exact h0 h2
theorem nd46:¬Av 46:=by decide
theorem nd101:¬Av 101:=by decide
theorem nd0:¬Av 0:=by decide
theorem RH {neg:Bool} {dg:B8} {ex:Int} (h:Ce neg dg ex):dcP (dcT neg dg ex)=(neg,dg,ex,0):=by
 by_cases hne:dg=[]
 ·subst hne
  obtain⟨rfl,rfl⟩:=h.1 rfl
  unfold dcT
  rw[if_pos rfl];decide
 ·obtain⟨h1,h2,h3,h4,h5,h6⟩:=h.2 hne
  have hpos:0<dg.length:=List.length_pos_iff.2 hne
  have key:∀body:B8,Av (body.getD 0 0)->dcP ((if neg then [45]else [])++body)=dcQ neg body:=by
   intro body hb
   cases neg with
   | true=>
    show dcP (45::body)=_
    unfold dcP
    rw[if_pos (show(45::body).getD 0 0=45 from rfl)];rfl
   | false=>
    show dcP body=_
    unfold dcP
    rw[if_neg (fun e=>by rw[e]at hb;revert hb;decide)]
  have hd0:Av (dg.getD 0 0):=by
   cases dg with
   | nil=>exact absurd rfl hne
   | cons c r=>exact h2 c List.mem_cons_self
  unfold dcT
  rw[if_neg hne,key]
  ·split
   ·rename_i g
    have:=LX (neg:=neg) (a:=dg++List.replicate ex.toNat 48) (r:=[]) (fun c hc=>by
     rcases List.mem_append.1 hc with hc | hc
     ·exact h2 c hc
     ·rw[List.eq_of_mem_replicate hc];decide) (by simp[hne]) (.inr (by cases dg with | nil=>exact absurd rfl hne | cons c r=>exact h3)) (by simpa using nd0)
    rw[List.append_nil]at this
    rw[this,RI (by decide),LZ,EA (by cases dg with | nil=>exact absurd rfl hne | cons c r=>exact h3)]
    exact LY _ h hne (by omega)
   ·split
    ·rename_i g0 g
     have htk:(dg.take (dg.length+ex).toNat).length=(dg.length+ex).toNat:=by rw[List.length_take];omega
     have hdr:(dg.drop (dg.length+ex).toNat).length=dg.length-(dg.length+ex).toNat:=List.length_drop
     rw[LX (fun c hc=>h2 c (List.mem_of_mem_take hc)) (fun e=>by rw[e]at htk;simp at htk;omega) (.inr ?_) (by simpa using nd46)]
     ·have:=Ko (neg:=neg) (a:=dg.take (dg.length+ex).toNat) (f:=dg.drop (dg.length+ex).toNat) (r:=[]) (fun c hc=>h2 c (List.mem_of_mem_drop hc)) (fun e=>by rw[e]at hdr;simp at hdr;omega) (by simpa using nd0)
      rw[List.append_nil]at this
      rw[this,LZ,List.take_append_drop,EA h3]
      have h9:=LY 0 (ex':=ex) h hne (by simp)
      rw[List.replicate_zero,List.append_nil]at h9
      rw[show(-((dg.drop (dg.length+ex).toNat).length:Int))=ex by rw[hdr];omega]
      exact h9
     ·obtain⟨m,hm⟩:∃m,(dg.length+ex).toNat=m+1:=⟨(dg.length+ex).toNat-1,by omega⟩
      rw[hm]
      cases dg with
      | nil=>exact absurd rfl hne
      | cons c r=>exact h3
    ·split
     ·rename_i g0 g1 g
      show dcQ neg ([48]++46::(List.replicate (-(dg.length+ex)).toNat 48++dg))=_
      rw[LX (fun c hc=>by rw[List.mem_singleton.1 hc];decide) (by simp) (.inl rfl) (by simpa using nd46)]
      have:=Ko (neg:=neg) (a:=[48]) (f:=List.replicate (-(dg.length+ex)).toNat 48++dg) (r:=[]) (fun c hc=>by
       rcases List.mem_append.1 hc with hc | hc
       ·rw[List.eq_of_mem_replicate hc];decide
       ·exact h2 c hc) (by simp[hne]) (by simpa using nd0)
      rw[List.append_nil]at this
      rw[this,LZ]
      have h8:AZ ([48]++(List.replicate (-(dg.length+ex)).toNat 48++dg))=dg:=by
       rw[<-List.append_assoc,show [48]++List.replicate (-(dg.length+ex)).toNat (48:UInt8)=List.replicate ((-(dg.length+ex)).toNat+1) 48 from rfl,GY,EA h3]
      have h9:=LY 0 (ex':=ex) h hne (by simp)
      rw[List.replicate_zero,List.append_nil]at h9
      rw[h8,show(-((List.replicate (-(dg.length+ex)).toNat (48:UInt8)++dg).length:Int))=ex by rw[List.length_append,List.length_replicate];omega]
      exact h9
     ·obtain⟨c,r,rfl⟩:∃c r,dg=c::r:=by
       cases dg with
       | nil=>exact absurd rfl hne
       | cons c r=>exact⟨c,r,rfl⟩
      have h9:=LY 0 (ex':=ex) h hne (by simp)
      rw[List.replicate_zero,List.append_nil]at h9
      have e101:(Kf (((c::r).length:Nat)+ex)).getD 0 0=101:=rfl
      show dcQ neg ([c]++((if 1<(c::r).length then 46::r else [])++Kf (((c::r).length:Nat)+ex)))=_
      have hst:¬Av (((if 1<(c::r).length then 46::r else [])++Kf (((c::r).length:Nat)+ex)).getD 0 0):=by
       split
       ·exact nd46
       ·exact nd101
      rw[LX (fun x hx=>by rw[List.mem_singleton.1 hx];exact hd0) (by simp) (.inl rfl) hst]
      cases r with
      | nil=>
       rw[if_neg (by simp),List.nil_append,RI (by rw[e101];decide),Ph,EA h3,show(0:Int)+((([c]:B8).length:Nat)+ex-1)=ex by simp only[List.length_cons,List.length_nil];omega]
       exact h9
      | cons d r=>
       rw[if_pos (by simp),List.cons_append,Ko (fun x hx=>h2 x (List.mem_cons_of_mem _ hx)) (by simp) (by rw[e101];exact nd101),Ph]
       rw[show [c]++d::r=c::d::r from rfl,EA h3,show(-((d::r).length:Int))+(((c::d::r).length:Nat)+ex-1)=ex by simp only[List.length_cons];omega]
       exact h9
  ·have app:∀t,Av ((dg++t).getD 0 0):=fun t=>by
    cases dg with
    | nil=>exact absurd rfl hne
    | cons c r=>exact hd0
   split
   ·exact app _
   ·split
    ·rename_i g
     obtain⟨m,hm⟩:∃m,(dg.length+ex).toNat=m+1:=⟨(dg.length+ex).toNat-1,by omega⟩
     rw[hm]
     cases dg with
     | nil=>exact absurd rfl hne
     | cons c r=>exact hd0
    ·split
     ·exact(by decide:Av 48)
     ·cases dg with
      | nil=>exact absurd rfl hne
      | cons c r=>exact hd0
def b0 (s:B8) (k:Nat):UInt8:=s.getD k 0
def dv (s:B8) (k:Nat):Nat:=(b0 s k).toNat-48
def d2 (s:B8) (k:Nat):Nat:=dv s k*10+dv s (k+1)
def dd (s:B8) (k:Nat):Prop:=Av (b0 s k)/\Av (b0 s (k+1))
instance (s:B8) (k:Nat):Decidable (dd s k):=inferInstanceAs (Decidable (_/\_))
def I6 (s:B8):Prop:=dd s 0/\b0 s 2=58/\dd s 3/\b0 s 5=58/\dd s 6
instance (s:B8):Decidable (I6 s):=inferInstanceAs (Decidable (_/\_/\_/\_/\_))
def CF (s:B8):Prop:=dd s 0/\dd s 2/\b0 s 4=45/\dd s 5/\b0 s 7=45/\dd s 8
instance (s:B8):Decidable (CF s):=inferInstanceAs (Decidable (_/\_/\_/\_/\_/\_))
def M7 (f:B8):Nat:=Bs (f++List.replicate (9-f.length) 48)
def Gt (s:B8):Option (Nat×Nat×Nat×Nat×B8):=
 if I6 s then
  (if b0 s 8=46 then(if As (s.drop 9)=[]∨9<(As (s.drop 9)).length then none else some (d2 s 0,d2 s 3,d2 s 6,M7 (As (s.drop 9)),s.drop (9+(As (s.drop 9)).length)))
  else some (d2 s 0,d2 s 3,d2 s 6,0,s.drop 8))
 else none
def JZ (s:B8):Option (Bool×Nat×Nat):=
 if s=[90]∨s=[122]then some (false,0,0)else if s.length=6/\(b0 s 0=43∨b0 s 0=45)/\dd s 1/\b0 s 3=58/\dd s 4 then some (decide (b0 s 0=45),d2 s 1,d2 s 4)else none
def okD (y m d:Nat):Prop:=1<=y/\y<=9999/\1<=m/\m<=12/\1<=d/\d<=HR y m
instance (y m d:Nat):Decidable (okD y m d):=inferInstanceAs (Decidable (_/\_/\_/\_/\_/\_))
def HZ (y m d:Nat):Nat:=yrS y+Do y m+(d-1)
abbrev TmR:=Int×Int×Int×Int×Int
def Fe:TmR:=(0,0,0,0,3)
def Fc:TmR:=(0,0,0,0,2)
def okC (h m s:Nat):Prop:=h<=23/\m<=59/\s<=59
instance (h m s:Nat):Decidable (okC h m s):=inferInstanceAs (Decidable (_/\_/\_))
def DW (h m s f:Nat):Nat:=((h*60+m)*60+s)*1000000000+f
def tmO (y mo d h m s f:Nat) (r:B8):TmR:=
 if r=[]then(if okD y mo d/\okC h m s then(3,(HZ y mo d:Nat),(DW h m s f:Nat),0,0)else Fc)
 else match JZ r with
  | none=>Fe
  | some (ls,oh,om)=>if okD y mo d/\okC h m s/\oh<=23/\om<=59 then(4,(HZ y mo d:Nat),(DW h m s f:Nat),if ls then-((oh*60+om:Nat):Int)else((oh*60+om:Nat):Int),0)else Fc
def tmD (y mo d:Nat) (r:B8):TmR:=
 if r=[]then(if okD y mo d then(1,(HZ y mo d:Nat),0,0,0)else Fc)
 else if b0 r 0=84∨b0 r 0=116∨b0 r 0=32 then
  match Gt (r.drop 1)with
  | none=>Fe
  | some (h,m,s,f,r')=>tmO y mo d h m s f r'
 else Fe
def tmP (s:B8):TmR:=
 if CF s then tmD (d2 s 0*100+d2 s 2) (d2 s 5) (d2 s 8) (s.drop 10)
 else match Gt s with
  | none=>Fe
  | some (h,m,sc,f,r)=>if r=[]then(if okC h m sc then(2,0,(DW h m sc f:Nat),0,0)else Fc)else Fe
theorem RE (k:Nat) (h:k<10):Av (48+k).toUInt8:=by unfold Av;rw[Cu _ h];omega
theorem HL (n:Nat):AS 2 n=[(48+n/10%10).toUInt8,(48+n%10).toUInt8]:=by
 simp[AS]
theorem PN (n:Nat):AS 4 n=[(48+n/10/10/10%10).toUInt8,(48+n/10/10%10).toUInt8,(48+n/10%10).toUInt8,(48+n%10).toUInt8]:=by
 simp[AS]
theorem ES (n:Nat) (h:n<100):((48+n/10%10).toUInt8.toNat-48)*10+((48+n%10).toUInt8.toNat-48)=n:=by
 rw[Cu _ (by omega),Cu _ (by omega)];omega
theorem Hu:∀(l:B8) (a:Nat),DD a l=a*10^l.length+DD 0 l
 | [],a=>by simp[DD]
 | c::l,a=>by
  have h1:=Hu l (10*a+(c.toNat-48))
  have h2:=Hu l (10*0+(c.toNat-48))
  show DD (10*a+(c.toNat-48)) l=_+DD (10*0+(c.toNat-48)) l
  rw[h1,h2,List.length_cons,Nat.pow_succ,Nat.add_mul,Nat.add_mul]
  have:10*a*10^l.length=a*(10^l.length*10):=by rw[Nat.mul_comm 10 a,Nat.mul_assoc,Nat.mul_comm 10]
  omega
theorem KN:∀(w n:Nat),n<10^w->Bs (AS w n)=n
 | 0,n,h=>by rw[show n=0 by simpa using h];rfl
 | w+1,n,h=>by
  have:=KN w (n/10) (by rw[Nat.div_lt_iff_lt_mul (by omega)];rw[Nat.pow_succ]at h;exact h)
  unfold Bs at this⊢
  rw[AS,Ht,this]
  unfold DD
  rw[List.foldl_cons,List.foldl_nil,Cu _ (by omega)];omega
theorem RL:∀(l:B8),∃k,l=E6 l++List.replicate k 48:=by
 intro l
 have:∀n (l:B8),l.length=n->∃k,l=E6 l++List.replicate k 48:=by
  intro n
  induction n with
  | zero=>intro l h;rw[List.eq_nil_of_length_eq_zero h];exact⟨0,rfl⟩
  | succ n ih=>
   intro l h
   have hne:l≠ []:=fun e=>by rw[e]at h;simp at h
   have hl:=List.dropLast_concat_getLast hne
   generalize l.dropLast=a at hl
   generalize l.getLast hne=c at hl
   rw[<-hl,Li]
   rw[<-hl,List.length_append]at h
   by_cases h0:c=48
   ·obtain⟨k,hk⟩:=ih a (by simpa using h)
    rw[if_pos h0]
    refine⟨k+1,?_⟩
    rw[List.replicate_succ',<-List.append_assoc,<-hk,h0]
   ·rw[if_neg h0];exact⟨0,by simp⟩
 exact this _ l rfl
theorem Lc {n:Nat} (h:n<1000000000):M7 (E6 (AS 9 n))=n:=by
 obtain⟨k,hk⟩:=RL (AS 9 n)
 have hl:=congrArg List.length hk
 rw[AR,List.length_append,List.length_replicate]at hl
 unfold M7
 rw[show 9-(E6 (AS 9 n)).length=k by omega,<-hk]
 exact KN 9 n h
theorem Pl {n:Nat} (h:n<1000000000) (h0:n≠0):E6 (AS 9 n)≠ []:=by
 intro e
 have:=Lc h
 rw[e]at this
 exact h0 (this.symm.trans (by decide))
theorem H1 (n:Nat):∀c,c∈E6 (AS 9 n)->Av c:=fun c hc=>Cq 9 n c (RM hc)
theorem Qd {n:Nat} (h:n<=86399999999999) {r:B8} (hr:¬Av (b0 r 0)) (hr2:b0 r 0≠46):
  Gt (Ha n++r)=some (n/1000000000/3600,n/1000000000/60%60,n/1000000000%60,n%1000000000,r):=by
 have h1:=ES (n/1000000000/3600) (by omega)
 have h2:=ES (n/1000000000/60%60) (by omega)
 have h3:=ES (n/1000000000%60) (by omega)
 have dg1:=fun k=>RE (k%10) (by omega)
 unfold Ha
 generalize hf:(if n%1000000000=0 then([]:B8)else 46::E6 (AS 9 (n%1000000000)))=f
 generalize n/1000000000/3600=hh at*
 generalize n/1000000000/60%60=mm at*
 generalize n/1000000000%60=ss at*
 simp only[HL,List.cons_append,List.nil_append]
 unfold Gt
 rw[if_pos]
 ·have e8:∀(a b c d e f' g i:UInt8) (l:B8),b0 (a::b::c::d::e::f'::g::i::l) 8=b0 l 0:=fun _ _ _ _ _ _ _ _ _=>rfl
  rw[e8]
  have v1:∀(a b c d e f' g i:UInt8) (l:B8),d2 (a::b::c::d::e::f'::g::i::l) 0=(a.toNat-48)*10+(b.toNat-48):=fun _ _ _ _ _ _ _ _ _=>rfl
  have v2:∀(a b c d e f' g i:UInt8) (l:B8),d2 (a::b::c::d::e::f'::g::i::l) 3=(d.toNat-48)*10+(e.toNat-48):=fun _ _ _ _ _ _ _ _ _=>rfl
  have v3:∀(a b c d e f' g i:UInt8) (l:B8),d2 (a::b::c::d::e::f'::g::i::l) 6=(g.toNat-48)*10+(i.toNat-48):=fun _ _ _ _ _ _ _ _ _=>rfl
  rw[v1,v2,v3,h1,h2,h3]
  subst hf
  by_cases h0:n%1000000000=0
  ·rw[if_pos h0,List.nil_append,if_neg hr2,h0];rfl
  ·rw[if_neg h0]
   have hdr:=EI (r:=r) (H1 (n%1000000000)) hr
   have hd9:∀(a b c d e f' g i x:UInt8) (l:B8),(a::b::c::d::e::f'::g::i::x::l).drop 9=l:=fun _ _ _ _ _ _ _ _ _ _=>rfl
   rw[if_pos (show b0 (46::E6 (AS 9 (n%1000000000))++r) 0=46 from rfl),List.cons_append,<-List.drop_drop,hd9,hdr,if_neg,Lc (by omega),List.drop_left]
   rintro(e | e)
   ·exact Pl (by omega) h0 e
   ·have:=Nk (AS 9 (n%1000000000))
    rw[AR]at this;omega
 ·exact⟨⟨dg1 _,dg1 _⟩,rfl,⟨dg1 _,dg1 _⟩,rfl,⟨dg1 _,dg1 _⟩⟩
theorem IE (n:Nat):DW (n/1000000000/3600) (n/1000000000/60%60) (n/1000000000%60) (n%1000000000)=n:=by unfold DW;omega
theorem JY {n:Nat} (h:n<=86399999999999):okC (n/1000000000/3600) (n/1000000000/60%60) (n/1000000000%60):=by unfold okC;omega
theorem PQ {z:Int} (h1: -1439<=z) (h2:z<=1439):JZ (F0 z)=some (decide (z<0),z.natAbs/60,z.natAbs%60):=by
 have t1:=ES (z.natAbs/60) (by omega)
 have t2:=ES (z.natAbs%60) (by omega)
 have dg1:=fun k=>RE (k%10) (by omega)
 unfold F0
 by_cases h0:z=0
 ·subst h0;decide
 ·rw[if_neg h0]
  generalize z.natAbs/60=hh at*
  generalize z.natAbs%60=mm at*
  simp only[HL,List.cons_append,List.nil_append]
  unfold JZ
  rw[if_neg (by simp),if_pos]
  ·have v1:∀(a b c d e f:UInt8),d2 [a,b,c,d,e,f] 1=(b.toNat-48)*10+(c.toNat-48):=fun _ _ _ _ _ _=>rfl
   have v2:∀(a b c d e f:UInt8),d2 [a,b,c,d,e,f] 4=(e.toNat-48)*10+(f.toNat-48):=fun _ _ _ _ _ _=>rfl
   rw[v1,v2,t1,t2]
   by_cases hz:z<0
   ·rw[if_pos hz,decide_eq_true hz];rfl
   ·rw[if_neg hz,decide_eq_false hz];rfl
  ·refine⟨rfl,?_,⟨dg1 _,dg1 _⟩,rfl,⟨dg1 _,dg1 _⟩⟩
   by_cases hz:z<0
   ·rw[if_pos hz];exact .inr rfl
   ·rw[if_neg hz];exact .inl rfl
theorem HQ (y m:Nat):HR y m<=31:=by
 have ite:∀{p:Prop} [Decidable p] {a b:Nat},a<=31->b<=31->(if p then a else b)<=31:=fun h1 h2=>by split<;>assumption
 unfold HR
 exact ite (ite (by omega) (by omega)) (ite (by omega) (by omega))
theorem Pk {n y m d:Nat} (h:D3 n y m d):G9 n=AS 4 y++45::(AS 2 m++45::AS 2 d):=by unfold G9;rw[Qb h]
theorem JE {n y m d:Nat} (h:D3 n y m d) (r:B8):tmP (G9 n++r)=tmD y m d r:=by
 obtain⟨a1,a2,a3,a4,a5,a6,a7⟩:=h
 have hd:d<=31:=Nat.le_trans a6 (HQ y m)
 rw[Pk ⟨a1,a2,a3,a4,a5,a6,a7⟩]
 have t1:=ES m (by omega)
 have t2:=ES d (by omega)
 have dg1:=fun k=>RE (k%10) (by omega)
 have t3:((((48+y/10/10/10%10).toUInt8.toNat-48)*10+((48+y/10/10%10).toUInt8.toNat-48))*100+(((48+y/10%10).toUInt8.toNat-48)*10+((48+y%10).toUInt8.toNat-48)))=y:=by
  rw[Cu _ (by omega),Cu _ (by omega),Cu _ (by omega),Cu _ (by omega)];omega
 simp only[HL,PN,List.cons_append,List.nil_append]
 unfold tmP
 rw[if_pos]
 ·have v0:∀(a b c d e f g i j k:UInt8) (l:B8),d2 (a::b::c::d::e::f::g::i::j::k::l) 0=(a.toNat-48)*10+(b.toNat-48):=fun _ _ _ _ _ _ _ _ _ _ _=>rfl
  have v2:∀(a b c d e f g i j k:UInt8) (l:B8),d2 (a::b::c::d::e::f::g::i::j::k::l) 2=(c.toNat-48)*10+(d.toNat-48):=fun _ _ _ _ _ _ _ _ _ _ _=>rfl
  have v5:∀(a b c d e f g i j k:UInt8) (l:B8),d2 (a::b::c::d::e::f::g::i::j::k::l) 5=(f.toNat-48)*10+(g.toNat-48):=fun _ _ _ _ _ _ _ _ _ _ _=>rfl
  have v8:∀(a b c d e f g i j k:UInt8) (l:B8),d2 (a::b::c::d::e::f::g::i::j::k::l) 8=(j.toNat-48)*10+(k.toNat-48):=fun _ _ _ _ _ _ _ _ _ _ _=>rfl
  rw[v0,v2,v5,v8,t1,t2,t3];rfl
 ·exact⟨⟨dg1 _,dg1 _⟩,⟨dg1 _,dg1 _⟩,rfl,⟨dg1 _,dg1 _⟩,rfl,⟨dg1 _,dg1 _⟩⟩
theorem KA (n:Nat) (r:B8):¬CF (Ha n++r):=by
 unfold Ha
 simp only[HL,List.cons_append,List.nil_append]
 rintro⟨_,⟨h,_⟩,_⟩
 exact absurd h (by show ¬Av 58;decide)
def Pr (n:Nat):Prop:=∃y m d,D3 n y m d
theorem Rq:∀(k n:Nat),n<yrS (k+1)->∃y,1<=y/\y<=k/\yrS y<=n/\n<yrS (y+1)
 | 0,n,h=>absurd h (by show ¬n<0;omega)
 | k+1,n,h=>by
  by_cases g:yrS (k+1)<=n
  ·exact⟨k+1,by omega,Nat.le_refl _,g,h⟩
  ·obtain⟨y,h1,h2,h3⟩:=Rq k n (by omega)
   exact⟨y,h1,by omega,h3⟩
theorem O7 (y:Nat):∀(k r:Nat),r<Do y (k+1)->∃m,1<=m/\m<=k/\Do y m<=r/\r<Do y (m+1)
 | 0,r,h=>absurd h (by show ¬r<0;omega)
 | k+1,r,h=>by
  by_cases g:Do y (k+1)<=r
  ·exact⟨k+1,by omega,Nat.le_refl _,g,h⟩
  ·obtain⟨m,h1,h2,h3⟩:=O7 y k r (by omega)
   exact⟨m,h1,by omega,h3⟩
theorem Rr {n:Nat} (h:n<=3652058):Pr n:=by
 obtain⟨y,h1,h2,h3,h4⟩:=Rq 9999 n (by show n<3652059;omega)
 rw[Hg h1]at h4
 obtain⟨m,m1,m2,m3,m4⟩:=O7 y 12 (n-yrS y) (by rw[CZ y (by omega)];omega)
 rw[CZ y m1]at m4
 exact⟨y,m,n-yrS y-Do y m+1,h1,h2,m1,m2,by omega,by omega,by omega⟩
theorem Q0 {z:Int}:(if decide (z<0)=true then-((z.natAbs/60*60+z.natAbs%60:Nat):Int)else((z.natAbs/60*60+z.natAbs%60:Nat):Int))=z:=by
 by_cases h:z<0
 ·rw[if_pos (by simpa using h)];omega
 ·rw[if_neg (by simpa using h)];omega
theorem Qw {k td tn tz:Int} (h:BD k td tn tz) (hd:k≠2->Pr td.toNat):tmP (FL k td tn tz)=(k,td,tn,tz,0):=by
 obtain⟨h1,h2,h3,h4,h5,h6,h7,h8,h9,h10,h11⟩:=h
 have etn:((tn.toNat:Nat):Int)=tn:=by omega
 have etd:((td.toNat:Nat):Int)=td:=by omega
 have clk:=fun r hr hr2=>Qd (n:=tn.toNat) (r:=r) (by omega) hr hr2
 unfold FL
 by_cases k1:k=1
 ·obtain⟨y,m,d,hD⟩:=hd (by omega)
  have:=JE hD []
  rw[List.append_nil]at this
  rw[if_pos k1,this]
  obtain⟨a1,a2,a3,a4,a5,a6,a7⟩:=hD
  unfold tmD
  rw[if_pos rfl,if_pos ⟨a1,a2,a3,a4,a5,a6⟩,show HZ y m d=td.toNat from a7.symm,etd,h10 k1,h11 (by omega),k1]
 ·rw[if_neg k1]
  by_cases k2:k=2
  ·have hc:=clk [] (by simpa [b0]using nd0) (by simp[b0])
   have hn:=KA tn.toNat []
   rw[List.append_nil]at hc hn
   rw[if_pos k2]
   unfold tmP
   rw[if_neg hn,hc]
   dsimp only
   rw[if_pos rfl,if_pos (JY (by omega)),IE,etn,h9 k2,h11 (by omega),k2]
  ·rw[if_neg k2]
   obtain⟨y,m,d,hD⟩:=hd k2
   have hD0:=hD
   obtain⟨a1,a2,a3,a4,a5,a6,a7⟩:=hD
   have a7':HZ y m d=td.toNat:=a7.symm
   by_cases k3:k=3
   ·have hc:=clk [] (by simpa [b0]using nd0) (by simp[b0])
    rw[List.append_nil]at hc
    rw[if_pos k3,JE hD0]
    unfold tmD
    rw[if_neg (by simp),if_pos (.inl rfl),List.drop_succ_cons,List.drop_zero,hc]
    dsimp only
    unfold tmO
    rw[if_pos rfl,if_pos ⟨⟨a1,a2,a3,a4,a5,a6⟩,JY (by omega)⟩,IE,etn,a7',etd,h11 (by omega),k3]
   ·have o1:Av (b0 (F0 tz) 0)->False:=by
     unfold F0;split
     ·exact(by decide:¬Av 90)
     ·split
      ·exact(by decide:¬Av 45)
      ·exact(by decide:¬Av 43)
    have o2:b0 (F0 tz) 0≠46:=by
     unfold F0;split
     ·exact(by decide:(90:UInt8)≠46)
     ·split
      ·exact(by decide:(45:UInt8)≠46)
      ·exact(by decide:(43:UInt8)≠46)
    have o3:F0 tz≠ []:=by unfold F0;split<;>simp
    have hc:=clk (F0 tz) o1 o2
    rw[if_neg k3,JE hD0]
    unfold tmD
    rw[if_neg (by simp),if_pos (.inl rfl),List.drop_succ_cons,List.drop_zero,hc]
    dsimp only
    unfold tmO
    rw[if_neg o3,PQ h7 h8]
    dsimp only
    rw[if_pos ⟨⟨a1,a2,a3,a4,a5,a6⟩,JY (by omega),by omega,by omega⟩,IE,etn,a7',etd,Q0,show k=4 by omega]
theorem Hs:∀(l:B8),(∀c,c∈l->Av c)->Bs l<10^l.length
 | [],_=>by decide
 | c::l,h=>by
  have ih:=Hs l fun x hx=>h x (.tail _ hx)
  have hc:=(h c (.head _)).2
  unfold Bs at ih⊢
  rw[show DD 0 (c::l)=DD (c.toNat-48) l by simp[DD],Hu,List.length_cons,Nat.pow_succ]
  have:(c.toNat-48)*10^l.length<=9*10^l.length:=Nat.mul_le_mul_right _ (by omega)
  omega
theorem valN_ge {c:UInt8} {l:B8} (hc:Av c) (h0:c≠48):10^l.length<=Bs (c::l):=by
 unfold Bs
 rw[show DD 0 (c::l)=DD (c.toNat-48) l by simp[DD],Hu]
 have h1:=hc.1
 have h2:c.toNat≠48:=fun e=>h0 (UInt8.toNat_inj.1 (by simpa using e))
 have:1*10^l.length<=(c.toNat-48)*10^l.length:=Nat.mul_le_mul_right _ (by omega)
 omega
theorem ER:∀l:B8,Bs (AZ l)=Bs l
 | []=>rfl
 | c::l=>by
  by_cases h:c=48
  ·subst h
   have:=GY 1 l
   rw[show List.replicate 1 (48:UInt8)++l=48::l from rfl]at this
   rw[this,ER l]
   unfold Bs
   rw[show DD 0 (48::l)=DD 0 l by simp[DD]]
  ·rw[FN h]
theorem GX (l:B8):∀c,c∈AZ l->c∈l:=fun c h=>(List.dropWhile_sublist (l:=l) (fun x:UInt8=>x==48)).subset h
theorem JH (l:B8):(AZ l).length<=l.length:=(List.dropWhile_sublist (l:=l) (fun x:UInt8=>x==48)).length_le
theorem IS (l:B8):(AZ l).getD 0 0≠48:=by
 induction l with
 | nil=>decide
 | cons c l ih=>
  by_cases h:c=48
  ·subst h
   have:=GY 1 l
   rw[show List.replicate 1 (48:UInt8)++l=48::l from rfl]at this
   rw[this];exact ih
  ·rw[FN h];exact h
theorem Qs {l:B8} {k:Nat} (h:∀c,c∈l->Av c) (hk:k<(AZ l).length):10^k<=Bs l:=by
 rw[<-ER l]
 have h0:=IS l
 have hs:=GX l
 generalize AZ l=m at*
 cases m with
 | nil=>exact absurd hk (Nat.not_lt_zero _)
 | cons c m=>
  have:=valN_ge (l:=m) (h c (hs c (.head _))) h0
  rw[List.length_cons]at hk
  exact Nat.le_trans (Nat.pow_le_pow_right (by decide) (by omega)) this
theorem Pw {l:B8} {k:Nat} (h:∀c,c∈l->Av c) (hk:(AZ l).length<=k):Bs l<10^k:=by
 rw[<-ER l]
 exact Nat.lt_of_lt_of_le (Hs _ fun c hc=>h c (GX l c hc)) (Nat.pow_le_pow_right (by decide) hk)
theorem dcN_far {neg:Bool} {s:B8} {ex n m:Int} (hl:s.length<=100000000) (h1: -100000000<=ex) (h2:ex<=100000000) (hn:1000000000<=n) (hm:1000000000<=m) (less:Bool):
  dcN neg s (if less then ex-n else ex+n)=dcN neg s (if less then ex-m else ex+m):=by
 unfold dcN
 have hz:=NA s
 by_cases h:s=[]
 ·rw[if_pos h,if_pos h]
 ·rw[if_neg h,if_neg h]
  cases less with
  | true=>
   simp only[if_true]
   rw[if_pos (by omega),if_pos (by omega)]
  | false=>
   simp only[Bool.false_eq_true,if_false]
   rw[if_pos (by omega),if_pos (by omega)]
theorem IR {l:B8} {c:UInt8} (hc:c.toNat<128) {st:St} {K:B8->St->Prop} (hk:K (l.dropWhile (·==c)) st):CallT PR Cg [.str l,.str [c]] [.one .str] st K:=by
 refine B5 (fun _ _=>by kernel_rfl) fun g w vargs s hr=>?_
 obtain⟨v,u,rfl,hv,hu⟩:=HK hr
 rw[BR hv,BR hu]
 refine Calls.mono (Tryz.strings_TrimLeft_one ⟨l.toArray⟩ c hc w) ?_
 rintro e w' ⟨rfl,rfl⟩
 exact⟨_,rfl,.str _,st,g,hk,s,Rel.str _,Ext.refl _ _⟩
theorem HW {s p:B8} {st:St} {K:Bool->St->Prop} (hk:K (decide (s.take p.length=p)) st):CallT PR AB [.str s,.str p] [.one (.bool)] st K:=by
 refine FD s p st K (Ek s p st _ (Aa (fun h=>⟨⟨by omega,h⟩,?_⟩) fun h=>?_))
 ·exact hk
 ·have:¬s.take p.length=p:=fun h0=>by
   have:=congrArg List.length h0
   rw[List.length_take]at this
   omega
  rw[decide_eq_false this]at hk
  exact hk
theorem u8i {c k:UInt8}:((c.toNat:Int)=(k.toNat:Int))↔c=k:=⟨fun h=>UInt8.toNat_inj.1 (by omega),fun h=>by rw[h]⟩
theorem take1 {s:B8} {c:UInt8} (hc:c≠0):s.take [c].length=[c]↔s.getD 0 0=c:=by
 cases s with
 | nil=>exact⟨fun h=>absurd h (by simp),fun h=>absurd (show(0:UInt8)=c from h).symm hc⟩
 | cons a s=>show [a]=[c]↔a=c;simp
theorem Gi {s:B8} {c:UInt8} (hc:c≠0) {st:St} {K:Bool->St->Prop} (hk:K (decide (s.getD 0 0=c)) st):CallT PR AB [.str s,.str [c]] [.one (.bool)] st K:=
 HW (by rw[decide_eq_decide.2 (take1 hc)];exact hk)
theorem Kl:∀(s:B8) (k:Nat),k<=s.length->(∀j,j<k->Av (s.getD j 0))->(k=s.length∨¬Av (s.getD k 0))->(As s).length=k
 | [],k,h,_,_=>by
  have:k=0:=by simpa using h
  subst this;rfl
 | a::s,0,_,_,h=>by
  have h2:¬Av a:=by
   rcases h with h | h
   ·simp at h
   ·exact h
  unfold As
  rw[List.takeWhile_cons_of_neg (by simpa using h2)];rfl
 | a::s,k+1,h1,h2,h3=>by
  have ha:Av a:=h2 0 (by omega)
  have ih:=Kl s k (by simpa using h1) (fun j hj=>h2 (j+1) (by omega)) (by
   rcases h3 with h3 | h3
   ·exact .inl (by simpa using h3)
   ·exact .inr h3)
  unfold As at ih⊢
  rw[List.takeWhile_cons_of_pos (by simpa using ha),List.length_cons,ih]
theorem NL {s:B8} (hl:s.length<=1000000000) {st:St} {K:Int->St->Prop} (hk:K ((As s).length:Nat) st):CallT PR BX [.str s] [.one (.int .i64)] st K:=by
 refine Jz s st K ⟨fun n s' st'=>s=s'/\st=st'/\∃k:Nat,n=k/\k<=s.length/\∀j,j<k->Av (s.getD j 0),fun n _ _=>(s.length-n).toNat,⟨rfl,rfl,0,rfl,Nat.zero_le _,fun j h=>absurd h (Nat.not_lt_zero _)⟩,?_⟩
 rintro _ _ _ ⟨rfl,rfl,k,rfl,hk1,hd⟩
 rw[Int.toNat_natCast]
 have fin:(k=s.length∨¬Av (s.getD k 0))->K ((k:Nat):Int) st:=fun h=>by rw[Kl s k hk1 hd h]at hk;exact hk
 refine Aa (fun g=>⟨⟨by omega,g⟩,Aa (fun g1=>⟨⟨by omega,g⟩,Aa (fun g2=>?_) fun g2=>fin (.inr fun h=>g2 (by have:=h.2;omega))⟩) fun g1=>fin (.inr fun h=>g1 (by have:=h.1;omega))⟩) fun g=>fin (.inl (by omega))
 rw[Ae _ (by omega) (by omega)]
 refine⟨⟨rfl,rfl,k+1,by omega,by omega,fun j hj=>?_⟩,by dsimp only;omega⟩
 by_cases hjk:j=k
 ·subst hjk;exact⟨by omega,by omega⟩
 ·exact hd j (by omega)
theorem Ij {l:B8} {k:Nat} (h:k<l.length):Bs (l.take (k+1))=10*Bs (l.take k)+((List.getD l k 0).toNat-48):=by
 rw[List.take_succ_eq_append_getElem h]
 unfold Bs
 rw[Ht]
 have:l[k]=List.getD l k 0:=by simp[List.getD,h]
 rw[<-this];rfl
theorem Lt {l:B8} (hd:∀c,c∈l->Av c) (h:l.length<=18) (k:Nat) (hk:k<l.length):Bs (l.take k)<100000000000000000:=by
 have h1:=Hs (l.take k) fun c hc=>hd c (List.mem_of_mem_take hc)
 rw[List.length_take,Nat.min_eq_left (by omega)]at h1
 have:(10:Nat)^k<=10^17:=Nat.pow_le_pow_right (by decide) (by omega)
 omega
theorem Qv {l:B8} (hl:l.length<=18) (hd:∀c,c∈l->Av c) (h0:l.getD 0 0≠48) {st:St} {K:Int->Int->St->Prop} (hk:K (Bs l:Nat) 0 st):CallT PR Dt [.str l] [.one (.int .i64),.one (.int .i64)] st K:=by
 refine Jj l st K (Lh (by omega) ?_)
 have hno:decide (GN l)=true:=decide_eq_true ⟨by omega,hd,fun _=>h0⟩
 rw[hno]
 refine Al (fun h=>by cases h) fun _=>?_
 refine⟨fun n i l' m st'=>l=l'/\st=st'/\(l.length:Int)=m/\∃k:Nat,i=k/\k<=l.length/\n=(Bs (l.take k):Nat),fun _ i _ _ _=>(l.length-i).toNat,⟨rfl,rfl,rfl,0,rfl,Nat.zero_le _,rfl⟩,?_⟩
 rintro _ _ _ _ _ ⟨rfl,rfl,rfl,k,rfl,hkl,rfl⟩
 rw[Int.toNat_natCast]
 refine Aa (fun g=>⟨⟨by omega,g⟩,?_⟩) fun g=>?_
 ·have hk':k<l.length:=by omega
  have hv:=Lt hd hl k hk'
  have hs:=Ij hk'
  have hc:=hd _ (F3 hk')
  obtain⟨c1,c2⟩:=hc
  rw[H7 _ (by omega) (by omega),Ae (((List.getD l k 0).toNat:Int)-48) (by omega) (by omega),Ae (9223372036854775807-_) (by omega) (by omega),Int.tdiv_eq_ediv_of_nonneg (by omega),Ae _ (by omega) (by omega)]
  refine Aa (fun g2=>by omega) fun g2=>?_
  rw[Ae (((Bs (l.take k):Nat):Int)*10) (by omega) (by omega),Ae _ (by omega) (by omega),Ae _ (by omega) (by omega)]
  exact⟨⟨rfl,rfl,rfl,k+1,by omega,by omega,by rw[hs];omega⟩,by dsimp only;omega⟩
 ·have:k=l.length:=by omega
  subst this
  rw[List.take_length];exact hk
theorem Q5 {ex:Int} {less:Bool} {l:B8} (h1: -100000000<=ex) (h2:ex<=100000000) (hd:∀c,c∈l->Av c) (h0:l.getD 0 0≠48) {st:St} {K:Int->St->Prop}
  (hk:K (if less then ex-((if l.length<=12 then Bs l else 1099511627776:Nat):Int)else ex+((if l.length<=12 then Bs l else 1099511627776:Nat):Int)) st):CallT PR C9 [.int .i64 ex,.bool less,.str l] [.one (.int .i64)] st K:=by
 refine Ie ex less l st K (Aa (fun g=>?_) fun g=>?_)
 ·have g':l.length<=12:=by omega
  rw[if_pos g']at hk
  have hv:=Hs l hd
  have:(10:Nat)^l.length<=10^12:=Nat.pow_le_pow_right (by decide) g'
  refine Qv (by omega) hd h0 (Al (fun e=>?_) fun e=>?_)
  ·rw[Ae _ (by omega) (by omega)];rw[if_pos e]at hk;exact hk
  ·rw[Ae _ (by omega) (by omega)];rw[e]at hk;exact hk
 ·rw[if_neg (show ¬l.length<=12 by omega)]at hk
  refine Al (fun e=>?_) fun e=>?_
  ·rw[Ae _ (by omega) (by omega)];rw[if_pos e]at hk;exact hk
  ·rw[Ae _ (by omega) (by omega)];rw[e]at hk;exact hk
abbrev KD (K:Bool->B8->Int->Int->St->Prop) (r:Bool×B8×Int×Int) (st:St):Prop:=K r.1 r.2.1 r.2.2.1 r.2.2.2 st
theorem norm_ok {neg:Bool} {s:B8} {ex:Int} (hl:s.length<=2000000) (h1: -3000000000000<=ex) (h2:ex<=3000000000000) {st:St} {K:Bool->B8->Int->Int->St->Prop} (hk:KD K (dcN neg s ex) st):
  CallT PR Du [.bool neg,.str s,.int .i64 ex] [.agg [.bool,.str,.int .i64],.one (.int .i64)] st K:=by
 unfold KD dcN at hk
 refine Jk neg s ex st K (Aa (fun g=>by rw[if_pos g]at hk;exact hk) fun g=>Hx (by decide) (by omega) ?_)
 rw[if_neg g]at hk
 have ht:=FK s
 have e1:i64.wrap ((s.length:Int)-((Lib.trimRightB s 48).length:Int))=(AT s:Nat):=by rw[Ae _ (by omega) (by omega)];omega
 rw[e1]
 have e2:i64.wrap ((s.length:Int)-(AT s:Nat))=((s.length-AT s:Nat):Int):=by rw[Ae _ (by omega) (by omega)];omega
 rw[e2,Int.toNat_natCast,Ae (400-_) (by omega) (by omega),Ae (-400-_) (by omega) (by omega),Ae (ex+_) (by omega) (by omega)]
 have hlen:(s.take (s.length-AT s)).length=s.length-AT s:=by rw[List.length_take];omega
 rw[hlen]
 refine⟨⟨by omega,by omega⟩,Aa (fun g1=>?_) fun g1=>Aa (fun g2=>?_) fun g2=>Aa (fun g3=>?_) fun g3=>?_⟩
 ·rw[if_pos (by omega)]at hk;exact hk
 ·rw[if_pos (by omega)]at hk;exact hk
 ·rw[if_pos (by omega)]at hk;exact hk
 ·rw[if_neg (by omega)]at hk;exact hk
theorem LN {neg:Bool} {s:B8} {ex:Int} (hl:s.length<=2000000) (hd:∀c,c∈s->Av c) (h1: -3000000000000<=ex) (h2:ex<=3000000000000) {st:St} {K:Bool->B8->Int->Int->St->Prop} (hk:KD K (dcN neg (AZ s) ex) st):
  CallT PR BF [.bool neg,.str s,.int .i64 ex] [.agg [.bool,.str,.int .i64],.one (.int .i64)] st K:=by
 refine Jl neg s ex st K ⟨fun i neg' s' ex' n _ _ _ st'=>neg=neg'/\s=s'/\ex=ex'/\(s.length:Int)=n/\st=st'/\0<=i,fun i _ _ _ _ _ _ _ _=>(s.length-i).toNat,⟨rfl,rfl,rfl,rfl,rfl,by omega⟩,?_⟩
 rintro i _ _ _ _ _ _ _ _ ⟨rfl,rfl,rfl,rfl,rfl,hi⟩
 refine Aa (fun g=>?_) fun g=>?_
 ·have hc:=hd _ (F3 (show i.toNat<s.length by omega))
  obtain⟨c1,c2⟩:=hc
  refine⟨⟨hi,g⟩,Aa (fun g1=>by omega) fun _=>⟨⟨hi,g⟩,Aa (fun g1=>by omega) fun _=>?_⟩⟩
  rw[Ae _ (by omega) (by omega)]
  exact⟨⟨rfl,rfl,rfl,rfl,rfl,by omega⟩,by dsimp only;omega⟩
 ·refine IR (by decide) (norm_ok (Nat.le_trans (JH s) hl) h1 h2 hk)
theorem dP_ok {s:B8} (hl:s.length<=1000000) {st:St} {K:Bool->B8->Int->Int->St->Prop} (hk:KD K (dcP s) st):CallT PR Ca [.str s] [.agg [.bool,.str,.int .i64],.one (.int .i64)] st K:=by
 refine Ig s st K (Gi (by decide) ?_)
 refine⟨fun s1 neg _ _ _ st'=>st=st'/\dcP s=dcQ neg s1/\s1.length<=s.length,Aa (fun g=>?_) fun g=>?_,?_⟩
 ·refine⟨⟨by omega,?_⟩,rfl,?_,?_⟩
  ·cases s with
   | nil=>exact absurd g (by decide)
   | cons a s=>rw[List.length_cons];omega
  ·unfold dcP;rw[if_pos g,decide_eq_true g];rfl
  ·rw[List.length_drop];omega
 ·refine⟨rfl,?_,Nat.le_refl _⟩
  unfold dcP;rw[if_neg g,decide_eq_false g]
 rintro s1 neg _ _ _ _ ⟨rfl,h1,hl1⟩
 rw[h1]at hk
 refine NL (by omega) ?_
 have hrl:=Lg s1
 refine⟨fun s2 neg2 n _ _ _ st'=>s1=s2/\neg=neg2/\n=((As s1).length:Nat)/\st=st'/\dcQ neg s1=dcF neg (As s1) (s1.drop (As s1).length),Aa (fun g=>?_) fun g=>Aa (fun g2=>?_) fun g2=>?_,?_⟩
 ·have:As s1=[]:=List.length_eq_zero_iff.1 (by omega)
  unfold KD dcQ at hk
  rw[if_pos (.inl this)]at hk;exact hk
 ·refine⟨⟨by omega,by omega⟩,Aa (fun g3=>?_) fun g3=>⟨rfl,rfl,rfl,rfl,?_⟩⟩
  ·have:s1.getD 0 0=48:=u8i.1 g3
   unfold KD dcQ at hk
   rw[if_pos (.inr ⟨by omega,this⟩)]at hk;exact hk
  ·unfold dcQ
   rw[if_neg]
   rintro(h | ⟨_,h⟩)
   ·exact g (by rw[h];rfl)
   ·exact g3 (by show((s1.getD 0 0).toNat:Int)=48;rw[h];rfl)
 ·refine⟨rfl,rfl,rfl,rfl,?_⟩
  unfold dcQ
  rw[if_neg]
  rintro(h | ⟨h,_⟩)
  ·exact g (by rw[h];rfl)
  ·omega
 rintro _ _ _ _ _ _ _ ⟨rfl,rfl,rfl,rfl,h2⟩
 rw[h2]at hk
 rw[Int.toNat_natCast,G7]
 refine⟨⟨by omega,by omega⟩,⟨by omega,by omega⟩,?_⟩
 have hdg:=Kk s1
 generalize hr:s1.drop (As s1).length=r at*
 generalize ha:As s1=a at*
 have hrl2:a.length+r.length<=1000000:=by
  have:r.length=s1.length-a.length:=by rw[<-hr,List.length_drop]
  omega
 clear hr ha h1 h2
 refine⟨fun s3 all ex neg3 _ _ _ st'=>neg=neg3/\st=st'/\dcF neg a r=dcE neg all ex s3/\ -1000000<=ex/\ex<=0/\all.length<=1000000/\s3.length<=1000000/\∀c,c∈all->Av c,Gi (by decide) (Aa (fun g=>?_) fun g=>?_),?_⟩
 ·have hr1:1<=r.length:=by
   cases r with
   | nil=>exact absurd g (by decide)
   | cons c r=>rw[List.length_cons];omega
  refine⟨⟨by omega,by omega⟩,NL (by show(r.drop 1).length<=_;rw[List.length_drop];omega) ?_⟩
  rw[show Int.toNat (1:Int)=1 from rfl]
  have hd1:=Lg (r.drop 1)
  have hd2:=Kk (r.drop 1)
  have hd3:=G7 (r.drop 1)
  rw[List.length_drop]at hd1
  generalize hf:As (r.drop 1)=f at*
  refine Aa (fun g2=>?_) fun g2=>?_
  ·have:f=[]:=List.length_eq_zero_iff.1 (by omega)
   unfold KD dcF at hk
   rw[if_pos g,hf,if_pos this]at hk;exact hk
  ·rw[Ae (((f.length:Nat):Int)+1) (by omega) (by omega),Ae (0-_) (by omega) (by omega),show((((f.length:Nat):Int)+1).toNat)=1+f.length by omega]
   have hdt:(r.take (1+f.length)).drop 1=f:=by rw[List.drop_take,Nat.add_sub_cancel_left];exact hd3
   refine⟨⟨by omega,by omega,by omega⟩,?_⟩
   show(a.length+((r.take (1+f.length)).drop 1).length<=_)/\_
   rw[hdt]
   refine⟨by omega,⟨by omega,by omega⟩,rfl,rfl,?_,by omega,by omega,by rw[List.length_append];omega,by rw[List.length_drop];omega,fun c hc=>?_⟩
   ·unfold dcF
    rw[if_pos g,hf,if_neg (fun e=>g2 (by rw[e];rfl))]
    rw[show(0:Int)-(f.length:Nat)= -(f.length:Nat) by omega]
   ·rcases List.mem_append.1 hc with hc | hc
    ·exact hdg c hc
    ·exact hd2 c hc
 ·refine⟨rfl,rfl,?_,by omega,by omega,by omega,by omega,hdg⟩
  unfold dcF;rw[if_neg g]
 rintro s3 all ex _ _ _ _ _ ⟨rfl,rfl,h3,x1,x2,x3,x4,x5⟩
 rw[h3]at hk
 clear h3 hdg hrl2
 refine Aa (fun g=>?_) fun g=>?_
 ·have hpos:1<=s3.length:=List.length_pos_iff.2 g
  refine⟨fun s4 neg4 all4 ex4 _ _ _ st'=>s3=s4/\neg=neg4/\all=all4/\ex=ex4/\st=st'/\(s3.getD 0 0=101∨s3.getD 0 0=69),?_,?_⟩
  ·have n101:((s3.getD 0 0).toNat:Int)≠101↔s3.getD 0 0≠101:=not_congr (u8i (k:=101))
   have n69:((s3.getD 0 0).toNat:Int)≠69↔s3.getD 0 0≠69:=not_congr (u8i (k:=69))
   refine⟨⟨by omega,by omega⟩,Aa (fun g1=>⟨⟨by omega,by omega⟩,Aa (fun g2=>?_) fun g2=>⟨rfl,rfl,rfl,rfl,rfl,.inr (Decidable.not_not.1 fun h=>g2 (n69.2 h))⟩⟩) fun g1=>⟨rfl,rfl,rfl,rfl,rfl,.inl (Decidable.not_not.1 fun h=>g1 (n101.2 h))⟩⟩
   unfold KD dcE at hk
   rw[if_neg g,if_neg (by rintro(h | h);exact n101.1 g1 h;exact n69.1 g2 h)]at hk
   exact hk
  rintro _ _ _ _ _ _ _ _ ⟨rfl,rfl,rfl,rfl,rfl,he⟩
  unfold KD dcE at hk
  rw[if_neg g,if_pos he]at hk
  refine⟨⟨by omega,by omega⟩,Gi (by decide) ?_⟩
  show ∃_,_
  refine⟨fun s5 neg5 all5 ex5 less _ _ _ st'=>neg=neg5/\all=all5/\ex=ex5/\st=st'/\s5.length<=1000000/\KD K (dcX neg all ex less s5) st,Aa (fun g1=>?_) fun g1=>Gi (by decide) (Aa (fun g2=>?_) fun g2=>?_),?_⟩
  ·have g1':(s3.drop 1).getD 0 0=45:=g1
   rw[if_pos g1']at hk
   refine⟨⟨by omega,?_⟩,rfl,rfl,rfl,rfl,?_,?_⟩
   ·have:1<=(s3.drop 1).length:=by
     cases hc:s3.drop 1 with
     | nil=>rw[hc]at g1';exact absurd g1' (by decide)
     | cons c r=>rw[List.length_cons];omega
    exact Int.ofNat_le.2 this
   ·show((s3.drop 1).drop 1).length<=_;rw[List.length_drop,List.length_drop];omega
   ·rw[decide_eq_true g1]
    show KD K (dcX neg all ex true ((s3.drop 1).drop 1)) st
    rw[List.drop_drop];exact hk
  ·have g1':¬(s3.drop 1).getD 0 0=45:=g1
   have g2':(s3.drop 1).getD 0 0=43:=g2
   rw[if_neg g1',if_pos g2']at hk
   refine⟨⟨by omega,?_⟩,rfl,rfl,rfl,rfl,?_,?_⟩
   ·have:1<=(s3.drop 1).length:=by
     cases hc:s3.drop 1 with
     | nil=>rw[hc]at g2';exact absurd g2' (by decide)
     | cons c r=>rw[List.length_cons];omega
    exact Int.ofNat_le.2 this
   ·show((s3.drop 1).drop 1).length<=_;rw[List.length_drop,List.length_drop];omega
   ·rw[decide_eq_false g1]
    show KD K (dcX neg all ex false ((s3.drop 1).drop 1)) st
    rw[List.drop_drop];exact hk
  ·have g1':¬(s3.drop 1).getD 0 0=45:=g1
   have g2':¬(s3.drop 1).getD 0 0=43:=g2
   rw[if_neg g1',if_neg g2']at hk
   refine⟨rfl,rfl,rfl,rfl,?_,?_⟩
   ·show(s3.drop 1).length<=_;rw[List.length_drop];omega
   ·rw[decide_eq_false g1];exact hk
  rintro s5 _ _ _ less _ _ _ _ ⟨rfl,rfl,rfl,rfl,hl5,hk5⟩
  unfold KD dcX at hk5
  refine Aa (fun g1=>by rw[if_pos (.inl g1)]at hk5;exact hk5) fun g1=>NL (by omega) (Aa (fun g2=>?_) fun g2=>?_)
  ·rw[if_pos (.inr (by omega))]at hk5;exact hk5
  ·have hall:As s5=s5:=by
    have:=Lf s5
    have h0:s5.drop (As s5).length=[]:=List.drop_of_length_le (by omega)
    rw[h0,List.append_nil]at this
    exact this.symm
   have hd5:∀c,c∈s5->Av c:=by rw[<-hall];exact Kk s5
   rw[if_neg (by rintro(h | h);exact g1 h;exact h (by rw[hall]))]at hk5
   refine IR (by decide) (Q5 (by omega) (by omega) (fun c hc=>hd5 c (GX s5 c hc)) (IS s5) ?_)
   show CallT PR BF [.bool neg,.str all,.int .i64 (if less=true then ex-((if (AZ s5).length<=12 then Bs (AZ s5)else 1099511627776:Nat):Int)else ex+((if (AZ s5).length<=12 then Bs (AZ s5)else 1099511627776:Nat):Int))] _ _ _
   rw[ER]
   have sm:=JH all
   by_cases h12:(AZ s5).length<=12
   ·have hn:=Pw hd5 h12
    rw[if_pos h12]
    refine LN (by omega) x5 ?_ ?_ hk5
    ·split<;>omega
    ·split<;>omega
   ·have hf:=Qs (k:=12) hd5 (by omega)
    rw[if_neg h12]
    refine LN (by omega) x5 ?_ ?_ ?_
    ·split<;>omega
    ·split<;>omega
    ·have:=dcN_far (neg:=neg) (s:=AZ all) (ex:=ex) (n:=((1099511627776:Nat):Int)) (m:=(Bs s5:Nat)) (by omega) (by omega) (by omega) (by omega) (by omega) less
     unfold KD
     rw[this];exact hk5
 ·have g0:s3=[]:=Decidable.not_not.1 g
  unfold KD dcE at hk
  rw[if_pos g0]at hk
  exact LN (by omega) x5 (by omega) (by omega) hk
theorem HA {α:Type} {l m:List α} {k:Nat} {x y:α} (h:l.take k=m.take k) (hx:l[k]? =some x) (hy:m[k]? =some y) (e:x=y):l.take (k+1)=m.take (k+1):=by
 rw[Gd hx,Gd hy,h,e]
theorem sc_eq {s t:Sc} (h1:s.kind=t.kind) (h2:s.b=t.b) (h3:s.neg=t.neg) (h4:s.dg=t.dg) (h5:s.ex=t.ex) (h6:s.tk=t.tk) (h7:s.td=t.td) (h8:s.tn=t.tn) (h9:s.tz=t.tz) (h10:s.text=t.text) (h11:s.bytes=t.bytes):s=t:=by
 cases s;cases t;simp_all
theorem Same_ok:∀(N:Nat) (v w:Vl),v.sz<=N->w.sz<=2000000->N<=2000000->∀{st0 st:St} {cs ds:List TV} {K:Bool->St->Prop},VlR st0 v cs->VlR st0 w ds->Bw st0 st->(∀r,(r=true↔v=w)->K r st)->
  CallT PR A0 [.agg cs,.agg ds] [.one .bool] st K:=by
 intro N
 induction N with
 | zero=>intro v w h;have:=v.sz_pos;omega
 | succ N ih=>
 intro v w hN hW hN2 st0 st cs ds K h h' hke hk
 cases v with
 | mk s l f=>
 cases w with
 | mk t m g=>
 have hsz:=szs s l f
 have hll:=Hh l
 have hfl:=EH f
 have hsz':=szs t m g
 have hll':=Hh m
 have hfl':=EH g
 obtain⟨ub,ul,uf,xl,xf,rfl,h1,h2,h3,h4,h5⟩:=h.cells
 obtain⟨wb,wl,wf,yl,yf,rfl,k1,k2,k3,k4,k5⟩:=h'.cells
 have no:(Vl.mk s l f≠Vl.mk t m g)->K false st:=fun hne=>hk false ⟨fun h=>(by cases h),fun h=>absurd h hne⟩
 have inj:Vl.mk s l f=Vl.mk t m g↔s=t/\l=m/\f=g:=by simp
 refine FG _ _ _ _ _ _ _ _ _ _ _ _ _ _ _ _ _ _ _ _ _ _ _ _ _ _ st K ?_
 refine Aa (fun e=>no fun h=>e (by rw[(inj.1 h).1])) fun e1=>Al (fun e=>no fun h=>?_) fun e2=>Al (fun e=>no fun h=>?_) fun e3=>Al (fun e=>no fun h=>?_) fun e4=>Aa (fun e=>no fun h=>e (by rw[(inj.1 h).1])) fun e5=>?_
 ·rw[(inj.1 h).1]at e;simp at e
 ·rw[(inj.1 h).1]at e;simp at e
 ·rw[(inj.1 h).1]at e;simp at e
 refine Ab (x:= .str s.bytes) (by rw[(h1.keep hke).toBytes];rfl) (Ay (Ab (x:=TV.str t.bytes) (by rw[(k1.keep hke).toBytes];rfl) (Ay ?_)))
 refine Aa (fun e=>no fun h=>e (by rw[(inj.1 h).1])) fun e6=>?_
 have hst:s=t:=by
  simp only[Bool.not_eq_false',Bool.and_eq_true,beq_iff_eq,decide_eq_true_eq,and_true]at e2 e3 e4
  exact sc_eq (Decidable.not_not.1 e1) e2 e3.1 e3.2.1 e3.2.2 e4.1 e4.2.1 e4.2.2.1 e4.2.2.2 (Decidable.not_not.1 e5) (Decidable.not_not.1 e6)
 subst hst
 refine Ac h2.isSl (Ac k2.isSl ?_)
 rw[h2.lenS,k2.lenS]
 refine Aa (fun e=>no fun h=>e (by rw[(inj.1 h).2.1])) fun e7=>Ac h4.isSl (Ac k4.isSl ?_)
 rw[h4.lenS,k4.lenS]
 refine Aa (fun e=>no fun h=>e (by rw[(inj.1 h).2.2])) fun e8=>?_
 have ell:l.length=m.length:=by omega
 have efl:f.length=g.length:=by omega
 refine⟨fun i a1 a2 a3 a4 a5 a6 a7 a8 a9 a10 a11 a12 a13 b1 b2 b3 b4 b5 b6 b7 b8 b9 b10 b11 b12 b13 st'=>ul=a12/\uf=a13/\wl=b12/\wf=b13/\st=st'/\∃k:Nat,i=k/\k<=l.length/\l.take k=m.take k,fun i _ _ _ _ _ _ _ _ _ _ _ _ _ _ _ _ _ _ _ _ _ _ _ _ _ _ _=>(l.length-i).toNat,
  ⟨rfl,rfl,rfl,rfl,rfl,0,rfl,Nat.zero_le _,rfl⟩,?_⟩
 rintro _ a1 a2 a3 a4 a5 a6 a7 a8 a9 a10 a11 _ _ b1 b2 b3 b4 b5 b6 b7 b8 b9 b10 b11 _ _ _ ⟨rfl,rfl,rfl,rfl,rfl,k,rfl,hkl,hE⟩
 refine Ac h2.isSl (Aa (fun q=>?_) fun q=>?_)
 ·rw[h2.lenS]at q
  refine el13 hke h2 h3 rfl (by omega) fun s1 l1 f1 ub1 ul1 uf1 gw hw on=>el13 hke k2 k3 rfl (by omega) fun s2 l2 f2 ub2 ul2 uf2 gw2 hw2 on2=>?_
  have hwsz:=Hi gw
  have hwsz2:=Hi gw2
  refine ih _ (.mk s2 l2 f2) (by omega) (by omega) (by omega) hw hw2 hke fun r hr=>Al (fun hb=>no fun h=>?_) fun hb=>?_
  ·rw[(inj.1 h).2.1,gw2]at gw
   rw[hr.2 (Option.some.inj gw).symm]at hb;cases hb
  ·rw[Ae _ (by omega) (by omega)]
   exact⟨⟨rfl,rfl,rfl,rfl,rfl,k+1,by omega,by omega,HA hE gw gw2 (hr.1 (by simpa using hb))⟩,by dsimp only;omega⟩
 ·rw[h2.lenS]at q
  have hlm:l=m:=by
   have:k=l.length:=by omega
   rw[this,List.take_length,ell,List.take_length]at hE;exact hE
  subst hlm
  refine⟨fun i a1 a2 a3 a4 a5 a6 a7 a8 a9 a10 a11 a12 a13 b1 b2 b3 b4 b5 b6 b7 b8 b9 b10 b11 b12 b13 st'=>uf=a13/\wf=b13/\st=st'/\∃k:Nat,i=k/\k<=f.length/\f.take k=g.take k,fun i _ _ _ _ _ _ _ _ _ _ _ _ _ _ _ _ _ _ _ _ _ _ _ _ _ _ _=>(f.length-i).toNat,
   ⟨rfl,rfl,rfl,0,rfl,Nat.zero_le _,rfl⟩,?_⟩
  rintro _ a1 a2 a3 a4 a5 a6 a7 a8 a9 a10 a11 a12 _ b1 b2 b3 b4 b5 b6 b7 b8 b9 b10 b11 b12 _ _ ⟨rfl,rfl,rfl,k,rfl,hkl,hF⟩
  refine Ac h4.isSl (Aa (fun q=>?_) fun q=>?_)
  ·rw[h4.lenS]at q
   have gd:f[k]? =some f[k]:=List.getElem?_eq_getElem (by omega)
   have gd2:g[k]? =some g[k]:=List.getElem?_eq_getElem (by omega)
   generalize f[k]=d at gd
   generalize g[k]=d2 at gd2
   refine La hke h4 h5 rfl gd (La hke k4 k5 rfl gd2 (Aa (fun e=>?_) fun e=>?_))
   ·refine⟨O2 hke k4 k5 gd2,O2 hke h4 h5 gd,no fun h=>e ?_⟩
    rw[(inj.1 h).2.2,gd2]at gd
    rw[Option.some.inj gd]
   ·refine Qt hke h4 h5 rfl (by omega) fun key1 s1 l1 f1 ub1 ul1 uf1 gw hw on=>Qt hke k4 k5 rfl (by omega) fun key2 s2 l2 f2 ub2 ul2 uf2 gw2 hw2 on2=>?_
    have hwsz:=F4 gw
    have hwsz2:=F4 gw2
    have hwk:=szd key1 (.mk s1 l1 f1)
    have hwk2:=szd key2 (.mk s2 l2 f2)
    refine ih (.mk s1 l1 f1) (.mk s2 l2 f2) (by omega) (by omega) (by omega) hw hw2 hke fun r hr=>⟨O2 hke k4 k5 gd2,O2 hke h4 h5 gd,Al (fun hb=>no fun h=>?_) fun hb=>?_⟩
    ·rw[(inj.1 h).2.2,gw2]at gw
     have:=Option.some.inj gw
     simp only[Fd.mk.injEq]at this
     rw[hr.2 this.2.symm]at hb;cases hb
    ·rw[Ae _ (by omega) (by omega)]
     refine⟨⟨rfl,rfl,rfl,k+1,by omega,by omega,HA hF gw gw2 ?_⟩,by dsimp only;omega⟩
     rw[gd]at gw
     rw[gd2]at gw2
     have q1:=Option.some.inj gw
     have q2:=Option.some.inj gw2
     subst q1 q2
     have:=hr.1 (by simpa using hb)
     simp only[Fd.key,Decidable.not_not]at e
     rw[e,this]
  ·rw[h4.lenS]at q
   have hfg:f=g:=by
    have:k=f.length:=by omega
    rw[this,List.take_length,efl,List.take_length]at hF;exact hF
   exact hk true ⟨fun _=>by rw[hfg],fun _=>rfl⟩
theorem SlR.ldb {st:St} {u:TV} {l:B8} {k:Nat} (h:SlR st 1 u l.length (Aq l)) (hk:k<l.length):Af st [] (.t (ixT 1 u k)) 0=some (CO l[k]):=by
 have:=h.ldc (by rw[Cn];omega) hk
 rw[List.drop_eq_getElem_cons (by rw[Cn];omega)]at this
 simp only[Am,List.take_succ_cons,List.take_zero]at this
 cases hq:Af st [] (.t (ixT 1 u k)) 0 with
 | none=>rw[hq]at this;cases this
 | some y=>
  rw[hq]at this
  simp only[Option.map_some,Option.some.injEq,List.cons.injEq,and_true]at this
  rw[this];simp[Aq]
def zs (n:Nat):B8:=List.replicate n 48
theorem JR:∀n,Lib.repeatL [48] n=zs n
 | 0=>rfl
 | n+1=>by
  show [48]++Lib.repeatL [48] n=_
  rw[JR n];rfl
theorem Ny (n:Nat):(zs n).length=n:=by simp[zs]
theorem KX {n:Nat} (hn:n<=2000000) {st:St} {K:B8->St->Prop} (hk:K (zs n) st):CallT PR CI [.str [48],.int .i64 (n:Int)] [.one .str] st K:=by
 refine B5 (fun _ _=>by kernel_rfl) fun g w vargs s hr=>?_
 obtain⟨v,u,rfl,hv,hu⟩:=HK hr
 rw[BR hv,IU hu]
 refine Calls.mono (Tryz.strings_Repeat ⟨#[48]⟩ n w (by omega) (by simp[ByteArray.size];omega)) ?_
 rintro e w' ⟨rfl,hb⟩
 obtain⟨s',e'⟩:=s.world hb.size (s.below.trans (hb.mono s.fits)) hb.block
 refine⟨_,rfl,.str (zs n),st,g,hk,s',?_,e'⟩
 have:Lib.repeatL (ByteArray.mk #[48]).data.toList n=zs n:=JR n
 rw[this];exact Rel.str _
theorem H3 (st:St) (b:Nat) (o:Hf):(st.put b o).box b=o:=by simp[St.put]
theorem Nr (st:St) (o:Hf) (t:Option Nat):(st.push o t).box st.nb=o:=by simp[St.push]
theorem Fj.set {st:St} {u:TV} {n i:Nat} {xs:List TV} {bs:List Nat} {x:TV} {K:St->Prop} (h:Fj st 1 u n xs bs) (hi:i<n) (hK:∀st',Fj st' 1 u n (xs.set i x) bs->StX (·∈bs) st st'->K st'):stB st (ixT 1 u i) [x] K:=by
 rcases h with⟨h0,_⟩ | ⟨b,cap,tail,rfl,h1,h2,h3,h4,h5,rfl⟩
 ·omega
 ·simp only[ixT,Nat.zero_add,Nat.mul_one,stB]
  have hl:(xs++tail).length=cap:=by omega
  rw[List.length_append]at hl
  refine⟨_,h2,by rw[List.length_append,List.length_singleton];omega,hK _ (.inr ⟨b,cap,tail,rfl,h1,?_,by rw[List.length_append,List.length_set];omega,by rw[List.length_set];exact h4,h5,rfl⟩) (StX.put (S:=(·∈ [b])) (.head _) _)⟩
  rw[H3]
  simp only[setAll]
  rw[List.set_append_left _ _ (by omega)]
def BxB (st0 st:St) (u:TV) (l:B8):Prop:=∃bs,Fj st 1 u l.length (Aq l) bs/\Ah st0 st/\∀x,x∈bs->st0.nb<=x
theorem BxB.nil {st0 st:St} (e:Ah st0 st):BxB st0 st .nilSlice []:=⟨[],Fj.nil _ _,e,fun x hx=>by cases hx⟩
theorem BxB.rd {st0 st:St} {u:TV} {l:B8} (h:BxB st0 st u l):SlR st 1 u l.length (Aq l):=by
 obtain⟨bs,h1,_⟩:=h;exact h1.rd
theorem BxB.ext {st0 st:St} {u:TV} {l:B8} (h:BxB st0 st u l):Ah st0 st:=by
 obtain⟨bs,_,h2,_⟩:=h;exact h2
theorem BxB.app {st0 st:St} {u:TV} {l:B8} {c:UInt8} {x:TV} {K:TV->St->Prop} (h:BxB st0 st u l) (hx:x=CO c) (hl:l.length<=100000000) (hK:∀u' st',BxB st0 st' u' (l++[c])->K u' st'):Jp 5 1 1 u 1 [x] st K:=by
 obtain⟨bs,h1,h2,h3⟩:=h
 subst hx
 refine Qi h1 (by omega) rfl (by omega) fun u' st' bs' ho e hb=>hK u' st' ⟨bs',?_,?_,?_⟩
 ·rw[List.length_append,List.length_singleton,<-GK];exact ho
 ·exact StX.ext h2 e h3
 ·rcases hb with⟨rfl,_⟩ | rfl
  ·exact h3
  ·intro y hy;rw[List.mem_singleton.1 hy];exact h2.nb
theorem OB (l:B8) (i:Nat) (c:UInt8):(Aq l).set i (CO c)=Aq (l.set i c):=by
 unfold Aq;rw[List.map_set]
theorem BxB.set {st0 st:St} {u:TV} {l:B8} {i:Nat} {c:UInt8} {x:TV} {K:St->Prop} (h:BxB st0 st u l) (hx:x=CO c) (hi:i<l.length) (hK:∀st',BxB st0 st' u (l.set i c)->K st'):stB st (ixT 1 u i) [x] K:=by
 obtain⟨bs,h1,h2,h3⟩:=h
 subst hx
 refine h1.set hi fun st' ho e=>hK st' ⟨bs,?_,StX.ext h2 e h3,h3⟩
 rw[List.length_set,<-OB];exact ho
theorem zrep_u8 (n:Nat):Fk [.int .u8 (0:Int)] (n*1)=Aq (List.replicate n 0):=by
 unfold Fk Aq
 rw[Nat.mul_one,List.map_replicate]
 refine List.ext_getElem (by simp) fun i h1 h2=>?_
 simp[CO,Nat.mod_one]
theorem BxB.make {st0 st:St} (e:Ah st0 st) (n:Nat):BxB st0 (st.push (.cells (Fk [.int .u8 (0:Int)] (n*1))) (some 5)) (.ms 1 st.nb 0 n n) (List.replicate n 0):=by
 refine⟨[st.nb],.inr ⟨st.nb,n,[],by rw[List.length_replicate],by simp[St.push],?_,?_,?_,?_,rfl⟩,e.push _ _,fun x hx=>by rw[List.mem_singleton.1 hx];exact e.nb⟩
 ·rw[zrep_u8,List.append_nil,Nr]
 ·rw[List.append_nil,Cn,List.length_replicate,Nat.mul_one]
 ·rw[Cn];omega
 ·rw[List.length_replicate];exact Nat.le_refl _
theorem Pd {c:UInt8} {f:Int->Prop} (h:f (c.toNat:Int)):Ar (.int .u8) (CO c) f:=At h
theorem BxB.ld {st0 st:St} {u:TV} {l:B8} {i:Nat} (h:BxB st0 st u l) (hi:i<l.length):Af st [] (.t (ixT 1 u i)) 0=some (CO l[i]):=h.rd.ldb hi
theorem BxB.str {st0 st:St} {u:TV} {l:B8} {K:B8->Prop} (h:BxB st0 st u l) (hk:K l):Ao ((toBytes st u).map TV.str) fun x=>Ar .str x K:=
 Ab (x:= .str l) (by rw[h.rd.toBytes];rfl) (Ay hk)
theorem NM {st0 st:St} {u:TV} {l:B8} (hl:l.length<=100000000) (h:BxB st0 st u l) {K:St->Prop} (hk:∀st',BxB st0 st' u l.reverse->K st'):CallT PR CJ [u] [] st K:=by
 refine Hm u st K (Ac h.rd.isSl ?_)
 rw[h.rd.lenS,Ae _ (by omega) (by omega)]
 refine⟨fun i k b st'=>u=b/\∃(n:Nat) (m:B8),i=n/\k=(l.length:Int)-1-n/\2*n<=l.length+1/\m.length=l.length/\BxB st0 st' u m/\∀j,j<l.length->m.getD j 0=if j<n∨l.length-n<=j then l.getD (l.length-1-j) 0 else l.getD j 0,fun i _ _ _=>(l.length-i).toNat,⟨rfl,0,l,rfl,by omega,by omega,rfl,h,fun j hj=>by rw[if_neg (by omega)]⟩,?_⟩
 rintro _ _ _ st1 ⟨rfl,n,m,rfl,rfl,hn,hm,hb,hall⟩
 refine Aa (fun g=>?_) fun g=>hk _ ?_
 ·have hk':Int.toNat ((l.length:Int)-1-n)=l.length-1-n:=by omega
  have hr:=hb.rd
  have hnl:n<m.length:=by omega
  have hkl:l.length-1-n<m.length:=by omega
  rw[hr.lenZ,hk',Int.toNat_natCast]
  refine⟨⟨by omega,by omega⟩,Ab (hb.ld hkl) (Pd ⟨⟨by omega,by omega⟩,Ab (hb.ld hnl) (Pd ⟨⟨by omega,by omega⟩,hb.set (c:=m[l.length-1-n]) rfl hnl fun st2 hb2=>⟨⟨by omega,by omega⟩,hb2.set (c:=m[n]) rfl (by rw[List.length_set];exact hkl) fun st3 hb3=>?_⟩⟩)⟩)⟩
  rw[Ae _ (by omega) (by omega),Ae _ (by omega) (by omega)]
  refine⟨⟨rfl,n+1,_,by omega,by omega,by omega,by rw[List.length_set,List.length_set];exact hm,hb3,fun j hj=>?_⟩,by dsimp only;omega⟩
  have h1:=hall n (by omega)
  have h2:=hall (l.length-1-n) (by omega)
  rw[if_neg (by omega)]at h1 h2
  have e1:m.getD n 0=m[n]:=by rw[List.getD_eq_getElem?_getD,List.getElem?_eq_getElem hnl];rfl
  have e2:m.getD (l.length-1-n) 0=m[l.length-1-n]:=by rw[List.getD_eq_getElem?_getD,List.getElem?_eq_getElem hkl];rfl
  have e3:((m.set n m[l.length-1-n]).set (l.length-1-n) m[n]).getD j 0=if j=l.length-1-n then m[n]else if j=n then m[l.length-1-n]else m.getD j 0:=by
   rw[List.getD_eq_getElem?_getD,List.getElem?_set,List.getElem?_set]
   by_cases c1:j=l.length-1-n
   ·rw[if_pos c1.symm,if_pos c1,if_pos (by rw[List.length_set];omega)];rfl
   ·rw[if_neg (fun e=>c1 e.symm),if_neg c1]
    by_cases c2:j=n
    ·rw[if_pos c2.symm,if_pos c2,if_pos (by omega)];rfl
    ·rw[if_neg (fun e=>c2 e.symm),if_neg c2,List.getD_eq_getElem?_getD]
  rw[e3]
  by_cases c1:j=l.length-1-n
  ·rw[if_pos c1,if_pos (by omega),<-e1,h1];congr 1;omega
  ·rw[if_neg c1]
   by_cases c2:j=n
   ·rw[if_pos c2,if_pos (by omega),<-e2,h2];congr 1;omega
   ·rw[if_neg c2,hall j hj]
    by_cases c3:j<n∨l.length-n<=j
    ·rw[if_pos c3,if_pos (by omega)]
    ·rw[if_neg c3,if_neg (by omega)]
 ·have:m=l.reverse:=by
   refine List.ext_getElem (by simpa using hm) fun j h1 h2=>?_
   have:=hall j (by omega)
   rw[List.getD_eq_getElem?_getD,List.getElem?_eq_getElem h1,Option.getD_some]at this
   rw[this,List.getElem_reverse]
   by_cases c:j<n∨l.length-n<=j
   ·rw[if_pos c,List.getD_eq_getElem?_getD,List.getElem?_eq_getElem (by omega),Option.getD_some]
   ·rw[if_neg c,List.getD_eq_getElem?_getD,List.getElem?_eq_getElem (by omega),Option.getD_some]
    congr 1;omega
  rw[<-this];exact hb
theorem dg_w8 {n:Nat} (x:Int) (h:x=n):u8.wrap (i64.wrap (48+x.tmod 10))=(((48+n%10).toUInt8.toNat:Nat):Int):=by
 subst h
 rw[Int.tmod_eq_emod_of_nonneg (by omega),Ae _ (by omega) (by omega),Cu _ (by omega),H7 _ (by omega) (by omega)];omega
theorem Od {n:Nat} (hn:n<=9000000000000000000) {st:St} {K:B8->St->Prop} (hk:∀st',Ah st st'->K (G3 n) st'):CallT PR CK [.int .i64 (n:Int)] [.one .str] st K:=by
 have hlen:(G3 n).length<=19:=J0 19 n (by omega)
 refine Hn _ st K ⟨fun k b st'=>∃(m:Nat) (l:B8),k=m/\m<=n/\BxB st st' b l/\G3 n=G3 m++l.reverse,fun k _ _=>k.toNat,⟨n,[],rfl,Nat.le_refl _,BxB.nil (Ah.refl _),by simp⟩,?_⟩
 rintro _ b st1 ⟨m,l,rfl,hm,hb,he⟩
 have hll:l.length<=19:=by rw[he,List.length_append,List.length_reverse]at hlen;omega
 refine Aa (fun g=>?_) fun g=>?_
 ·refine hb.app (c:=(48+m%10).toUInt8) (by rw[dg_w8 _ rfl];rfl) (by omega) fun u' st2 hb2=>?_
  have hd:i64.wrap ((m:Int).tdiv 10)=((m/10:Nat):Int):=by rw[Int.tdiv_eq_ediv_of_nonneg (by omega),Ae _ (by omega) (by omega)];omega
  rw[hd]
  refine⟨⟨m/10,_,rfl,by omega,hb2,?_⟩,by dsimp only;omega⟩
  rw[he,EG (by omega),List.reverse_append,List.reverse_singleton,List.append_assoc]
 ·have h0:m=0:=by omega
  subst h0
  rw[EF,List.nil_append]at he
  refine NM (by omega) hb fun st2 hb2=>hb2.str ?_
  rw[<-he];exact hk _ hb2.ext
theorem Mj {n:Nat} (hn:n<=9000000000000000000) {st:St} {K:B8->St->Prop} (hk:∀st',Ah st st'->K (whN n) st'):CallT PR B9 [.int .i64 (n:Int)] [.one .str] st K:=by
 unfold whN at hk
 refine Id _ st K (Aa (fun g=>?_) fun g=>Od hn fun st' e=>?_)
 ·have:=hk st (Ah.refl _)
  rw[if_pos (by omega)]at this;exact this
 ·have:=hk st' e
  rw[if_neg (by omega)]at this;exact this
theorem O8 (p:Int):Kf p=if p<1 then 101::45::whN (1-p).toNat else 101::whN (p-1).toNat:=by
 unfold Kf;split<;>rfl
def JO (neg:Bool):B8:=if neg then [45]else []
theorem ME (neg:Bool):(JO neg).length<=1:=by cases neg<;>decide
theorem Jr {n:Nat} (h:n<10^18):(whN n).length<=18:=by
 unfold whN;split
 ·decide
 ·exact J0 18 n h
theorem RK {neg:Bool} {dg:B8} {ex:Int} (h:Ce neg dg ex) {st:St} {K:B8->St->Prop} (hk:∀st',Ah st st'->K (dcT neg dg ex) st'):CallT PR Dv [.agg [.bool neg,.str dg,.int .i64 ex]] [.one .str] st K:=by
 have e0:=Ah.refl st
 unfold dcT at hk
 by_cases hne:dg=[]
 ·rw[if_pos hne]at hk
  refine Fa neg dg ex st K ⟨fun _ _ _ _=>False,Aa (fun _=>hk st e0) fun g=>absurd hne g,fun _ _ _ _ h=>h.elim⟩
 rw[if_neg hne]at hk
 obtain⟨h1,h2,h3,h4,h5,h6⟩:=h.2 hne
 have hpos:=List.length_pos_iff.2 hne
 have hs:=ME neg
 have hw:i64.wrap ((dg.length:Int)+ex)=dg.length+ex:=Ae _ (by omega) (by omega)
 refine Fa neg dg ex st K ⟨fun b s n st'=>neg=b/\dg=s/\ex=n/\st=st',Aa (fun g=>absurd g hne) fun _=>Nf (by omega) ?_,?_⟩
 ·rw[decide_eq_true h]
  exact⟨rfl,rfl,rfl,rfl⟩
 rintro _ _ _ _ ⟨rfl,rfl,rfl,rfl⟩
 refine⟨fun s b s1 n st'=>JO neg=s/\neg=b/\dg=s1/\ex=n/\st=st',Al (fun hb=>⟨by rw[hb];rfl,rfl,rfl,rfl,rfl⟩) fun hb=>⟨by rw[hb];rfl,rfl,rfl,rfl,rfl⟩,?_⟩
 rintro _ _ _ _ _ ⟨rfl,rfl,rfl,rfl,rfl⟩
 rw[hw]
 have hk':=hk
 rw[show(if neg=true then [45]else [])=JO neg from rfl]at hk
 refine⟨fun s n p b s2 n2 st'=>JO neg=s/\(dg.length:Int)=n/\(dg.length:Int)+ex=p/\dg=s2/\st=st'/\¬(0<=ex/\dg.length+ex<=21)/\¬(ex<0/\1<=dg.length+ex/\dg.length+ex<=21)/\¬(-5<=dg.length+ex/\dg.length+ex<=0),?_,?_⟩
 ·refine⟨fun b s n p b4 s3 n3 st'=>b=decide (0<=ex/\dg.length+ex<=21)/\JO neg=s/\(dg.length:Int)=n/\(dg.length:Int)+ex=p/\dg=s3/\ex=n3/\st=st',?_,?_⟩
  ·refine Aa (fun g=>⟨?_,rfl,rfl,rfl,rfl,rfl,rfl⟩) fun g=>⟨?_,rfl,rfl,rfl,rfl,rfl,rfl⟩
   ·exact decide_eq_decide.2 ⟨fun g2=>⟨g,g2⟩,fun g2=>g2.2⟩
   ·exact(decide_eq_false fun g2=>g g2.1).symm
  rintro _ _ _ _ _ _ _ _ ⟨rfl,rfl,rfl,rfl,rfl,rfl,rfl⟩
  refine Aa (fun g=>?_) fun g=>?_
  ·rw[if_pos g]at hk
   obtain⟨g1,g2⟩:=g
   obtain⟨m,rfl⟩:∃m:Nat,ex=m:=⟨ex.toNat,by omega⟩
   refine⟨by omega,KX (by omega) ⟨by rw[List.length_append,Ny];omega,?_⟩⟩
   have:=hk st e0
   rw[Int.toNat_natCast,<-List.append_assoc]at this
   exact this
  rw[if_neg g]at hk
  refine⟨fun b s n p b5 s5 n4 st'=>b=decide (ex<0/\1<=dg.length+ex/\dg.length+ex<=21)/\JO neg=s/\(dg.length:Int)=n/\(dg.length:Int)+ex=p/\dg=s5/\ex=n4/\st=st',?_,?_⟩
  ·refine Aa (fun g1=>Aa (fun g2=>⟨?_,rfl,rfl,rfl,rfl,rfl,rfl⟩) fun g2=>⟨?_,rfl,rfl,rfl,rfl,rfl,rfl⟩) fun g1=>⟨?_,rfl,rfl,rfl,rfl,rfl,rfl⟩
   ·exact decide_eq_decide.2 ⟨fun g3=>⟨g1,g2,g3⟩,fun g3=>g3.2.2⟩
   ·exact(decide_eq_false fun g3=>g2 g3.2.1).symm
   ·exact(decide_eq_false fun g3=>g1 g3.1).symm
  rintro _ _ _ _ _ _ _ _ ⟨rfl,rfl,rfl,rfl,rfl,rfl,rfl⟩
  refine Aa (fun g2=>?_) fun g2=>?_
  ·rw[if_pos g2]at hk
   obtain⟨g3,g4,g5⟩:=g2
   have hlt:(List.take (Int.toNat ((dg.length:Int)+ex)) dg).length<=dg.length:=by rw[List.length_take];omega
   have hld:(List.drop (Int.toNat ((dg.length:Int)+ex)) dg).length<=dg.length:=by rw[List.length_drop];omega
   refine⟨⟨by omega,by omega⟩,by omega,by rw[List.length_append];show _+1<=_;omega,⟨by omega,by omega⟩,by simp only[List.length_append];show _+1+_<=_;omega,?_⟩
   have:=hk st e0
   rw[<-List.append_assoc,List.append_cons]at this
   exact this
  rw[if_neg g2]at hk
  refine Aa (fun g3=>Aa (fun g4=>?_) fun g4=>⟨rfl,rfl,rfl,rfl,rfl,g,g2,fun g5=>g4 g5.2⟩) fun g3=>⟨rfl,rfl,rfl,rfl,rfl,g,g2,fun g5=>g3 g5.1⟩
  rw[if_pos ⟨g3,g4⟩]at hk
  obtain⟨m,hm⟩:∃m:Nat,(0:Int)-((dg.length:Int)+ex)=m:=⟨(0-((dg.length:Int)+ex)).toNat,by omega⟩
  rw[Ae _ (by omega) (by omega),hm]
  have hm2:(-((dg.length:Int)+ex)).toNat=m:=by omega
  rw[hm2]at hk
  refine⟨by show _+2<=_;omega,KX (by omega) ⟨by rw[List.length_append,Ny];show _+2+_<=_;omega,by simp only[List.length_append,Ny];show _+2+_+_<=_;omega,?_⟩⟩
  have:=hk st e0
  rw[List.append_cons,List.append_cons,<-List.append_assoc,List.append_assoc (JO neg)]at this
  exact this
 ·rintro _ _ _ _ _ _ _ ⟨rfl,rfl,rfl,rfl,rfl,g1,g2,g3⟩
  rw[if_neg g1,if_neg g2,if_neg g3,O8]at hk
  have ht1:(List.take (Int.toNat 1) dg).length=1:=by rw[List.length_take];omega
  have hd1:(List.drop (Int.toNat 1) dg).length<=dg.length:=by rw[List.length_drop];omega
  refine⟨⟨by omega,by omega⟩,by omega,fun s p st'=>JO neg++(dg.take 1++(if 1<dg.length then 46::dg.drop 1 else []))=s/\(dg.length:Int)+ex=p/\st=st',?_,?_⟩
  ·refine Aa (fun g4=>⟨⟨by omega,by omega⟩,by show 1+_<=_;omega,by simp only[List.length_append];show _+(1+_)<=_;omega,?_,rfl,rfl⟩) fun g4=>⟨?_,rfl,rfl⟩
   ·rw[if_pos (by omega),List.append_assoc];rfl
   ·rw[if_neg (by omega),List.append_nil];rfl
  rintro s _ _ ⟨hs0,rfl,rfl⟩
  have hsl:s.length<=300:=by
   rw[<-hs0]
   have:(if 1<dg.length then 46::dg.drop 1 else []).length<=dg.length:=by
    split
    ·rw[List.length_cons,List.length_drop];omega
    ·simp
   simp only[List.length_append,List.length_take];omega
  refine Aa (fun g4=>?_) fun g4=>?_
  ·rw[if_pos g4]at hk
   obtain⟨m,hm⟩:∃m:Nat,(1:Int)-((dg.length:Int)+ex)=m:=⟨(1-((dg.length:Int)+ex)).toNat,by omega⟩
   have hwl:=Jr (n:=m) (by omega)
   rw[Ae _ (by omega) (by omega),hm]
   refine⟨by show _+2<=_;omega,Mj (by omega) fun st' e'=>⟨by rw[List.length_append];show _+2+_<=_;omega,?_⟩⟩
   have:=hk st' e'
   rw[<-List.append_assoc (dg.take 1),<-List.append_assoc (JO neg),hs0,hm,Int.toNat_natCast,List.append_cons,List.append_cons,List.append_assoc s]at this
   exact this
  ·rw[if_neg g4]at hk
   obtain⟨m,hm⟩:∃m:Nat,((dg.length:Int)+ex)-1=m:=⟨(((dg.length:Int)+ex)-1).toNat,by omega⟩
   have hwl:=Jr (n:=m) (by omega)
   rw[Ae _ (by omega) (by omega),hm]
   refine⟨by show _+1<=_;omega,Mj (by omega) fun st' e'=>⟨by rw[List.length_append];show _+1+_<=_;omega,?_⟩⟩
   have:=hk st' e'
   rw[<-List.append_assoc (dg.take 1),<-List.append_assoc (JO neg),hs0,hm,Int.toNat_natCast,List.append_cons]at this
   exact this
def monX (y m:Nat):Nat:=if 1<=y/\y<=9999/\1<=m/\m<=12 then HR y m else 0
theorem HP {y m:Nat} (h1:1<=y) (h2:y<=9999) (h3:1<=m) (h4:m<=12):monX y m=HR y m:=if_pos ⟨h1,h2,h3,h4⟩
theorem I9 {y:Nat} {st:St} {K:Bool->St->Prop} (hk:K (decide (1<=y/\y<=9999)) st):CallT PR BP [.int .i64 (y:Int)] [.one .bool] st K:=by
 refine Ho _ st K (Aa (fun g=>?_) fun g=>?_)
 ·exact Cb (decide_eq_decide.2 ⟨fun h=>by omega,fun h=>by omega⟩) hk
 ·rw[decide_eq_false (by omega)]at hk;exact hk
theorem OA {y:Nat} (h1:1<=y) (h2:y<=9999) {st:St} {K:Bool->St->Prop} (hk:K (decide (K8 y)) st):CallT PR Db [.int .i64 (y:Int)] [.one .bool] st K:=by
 refine Ih _ st K (I9 ?_)
 rw[decide_eq_true ⟨h1,h2⟩,Int.tmod_eq_emod_of_nonneg (by omega),Int.tmod_eq_emod_of_nonneg (by omega),Int.tmod_eq_emod_of_nonneg (by omega)]
 unfold K8 at hk
 refine Aa (p:=True) (fun _=>Aa (fun g=>Aa (fun g2=>?_) fun g2=>?_) fun g=>?_) (fun h=>absurd trivial h)
 ·exact Cb (decide_eq_true (show y%4=0/\(y%100≠0∨y%400=0)from⟨by omega,.inl (by omega)⟩) |>.symm) hk
 ·exact Cb (decide_eq_decide.2 ⟨fun h=>⟨by omega,.inr (by omega)⟩,fun h=>by omega⟩) hk
 ·exact Cb (decide_eq_false (show ¬(y%4=0/\(y%100≠0∨y%400=0))from fun h=>by omega) |>.symm) hk
theorem days_ix:∀k:Nat,k<12->k≠1->(([.int .i64 31,.int .i64 28,.int .i64 31,.int .i64 30,.int .i64 31,.int .i64 30,.int .i64 31,.int .i64 31,.int .i64 30,.int .i64 31,.int .i64 30,.int .i64 31]:List TV)[(0+k*1)+0]?)=some (.int .i64 (if k+1=4∨k+1=6∨k+1=9∨k+1=11 then 30 else 31))
 | 0,_,_=>rfl
 | 1,_,h=>absurd rfl h
 | 2,_,_=>rfl
 | 3,_,_=>rfl
 | 4,_,_=>rfl
 | 5,_,_=>rfl
 | 6,_,_=>rfl
 | 7,_,_=>rfl
 | 8,_,_=>rfl
 | 9,_,_=>rfl
 | 10,_,_=>rfl
 | 11,_,_=>rfl
 | k+12,h,_=>by omega
theorem Ei {y m:Nat} (hm:m<=1000000) {st:St} {K:Int->St->Prop} (hk:K (monX y m:Nat) st):CallT PR AA [.int .i64 (y:Int),.int .i64 (m:Int)] [.one (.int .i64)] st K:=by
 unfold monX at hk
 refine Hr _ _ st K (I9 ?_)
 by_cases hy:1<=y/\y<=9999
 ·rw[decide_eq_true hy]
  refine Aa (p:=False) (fun h=>h.elim) fun _=>Aa (fun g=>?_) fun g=>Aa (fun g2=>?_) fun g2=>?_
  ·rw[if_neg (by omega)]at hk;exact hk
  ·rw[if_neg (by omega)]at hk;exact hk
  ·rw[if_pos (by omega)]at hk
   unfold HR at hk
   rw[Ae _ (by omega) (by omega)]
   refine Aa (fun g3=>OA hy.1 hy.2 (Aa (fun g4=>?_) fun g4=>?_)) fun g3=>⟨⟨by omega,by omega⟩,?_⟩
   ·rw[if_pos (by omega),if_pos g4]at hk;exact hk
   ·rw[if_pos (by omega),if_neg g4]at hk
    refine⟨⟨by omega,by omega⟩,?_⟩
    have:m=2:=by omega
    subst this
    exact Ab (x:= .int .i64 28) rfl (At hk)
   ·rw[if_neg (by omega)]at hk
    obtain⟨k,rfl⟩:∃k,m=k+1:=⟨m-1,by omega⟩
    rw[show(((k+1:Nat):Int)-1)=(k:Int) by omega,Int.toNat_natCast]
    refine Ab (days_ix k (by omega) (by omega)) (At ?_)
    split
    ·rename_i h;rw[if_pos h]at hk;exact hk
    ·rename_i h;rw[if_neg h]at hk;exact hk
 ·rw[decide_eq_false hy]
  refine Aa (p:=True) (fun _=>?_) fun h=>absurd trivial h
  rw[if_neg (fun h=>hy ⟨h.1,h.2.1⟩)]at hk;exact hk
theorem Eh {y:Nat} (h1:1<=y) (h2:y<=1000000) {st:St} {K:Int->St->Prop} (hk:K (yrS y:Nat) st):CallT PR A4 [.int .i64 (y:Int)] [.one (.int .i64)] st K:=by
 refine Hp _ st K ?_
 obtain⟨k,rfl⟩:∃k,y=k+1:=⟨y-1,by omega⟩
 unfold yrS at hk
 rw[Nat.add_sub_cancel]at hk
 rw[show(((k+1:Nat):Int)-1)=(k:Int) by omega,Ae (k:Int) (by omega) (by omega),Int.tdiv_eq_ediv_of_nonneg (by omega),Int.tdiv_eq_ediv_of_nonneg (by omega),Int.tdiv_eq_ediv_of_nonneg (by omega)]
 rw[Ae (365*(k:Int)) (by omega) (by omega),Ae ((k:Int)/4) (by omega) (by omega),Ae ((k:Int)/100) (by omega) (by omega),Ae ((k:Int)/400) (by omega) (by omega),Ae (365*(k:Int)+(k:Int)/4) (by omega) (by omega),Ae (365*(k:Int)+(k:Int)/4-(k:Int)/100) (by omega) (by omega),Ae _ (by omega) (by omega)]
 have e:(((365*k+k/4-k/100+k/400:Nat):Nat):Int)=365*(k:Int)+(k:Int)/4-(k:Int)/100+(k:Int)/400:=by omega
 rw[e]at hk;exact hk
theorem I8 {n y:Nat} (hy:1<=y) (hy2:y<=9999) (h1:yrS y<=n) (h2:n<yrS (y+1)) (hn:n<=3652058) {st:St} {K:Int->Int->Int->Int->St->Prop} (hk:∀m d:Nat,D3 n y m d->K y m d 0 st):
  ∃(I2:Int->Int->Int->St->Prop) (M2:Int->Int->Int->St->Nat),(I2 1 (i64.wrap ((n:Int)-(yrS y:Nat))) (y:Int) st)/\∀(month_1:Int) (rest_1:Int) (year_2:Int) (st5:St),I2 month_1 rest_1 year_2 st5->(
   CallT PR AA [.int .i64 year_2,.int .i64 month_1] [.one (.int .i64)] st5 (fun (n3:Int) (st6:St)=>BIf (decide (n3<=rest_1)) (
    CallT PR AA [.int .i64 year_2,.int .i64 month_1] [.one (.int .i64)] st6 (fun (n4:Int) (st7:St)=>(I2 (i64.wrap (month_1+1)) (i64.wrap (rest_1-n4)) year_2 st7/\M2 (i64.wrap (month_1+1)) (i64.wrap (rest_1-n4)) year_2 st7<M2 month_1 rest_1 year_2 st5)))
    (K year_2 month_1 (i64.wrap (rest_1+1)) 0 st6))):=by
 rw[Ae _ (by omega) (by omega)]
 refine⟨fun mo re ye st'=>(y:Int)=ye/\st=st'/\∃m:Nat,mo=m/\1<=m/\m<=12/\re=((n-yrS y-Do y m:Nat):Int)/\Do y m<=n-yrS y,fun mo _ _ _=>(13-mo).toNat,⟨rfl,rfl,1,rfl,by omega,by omega,by show _=((n-yrS y-0:Nat):Int);omega,Nat.zero_le _⟩,?_⟩
 rintro _ _ _ _ ⟨rfl,rfl,m,rfl,hm1,hm2,rfl,hm3⟩
 refine Ei (by omega) ?_
 rw[HP hy hy2 hm1 hm2]
 have hs:=CZ y hm1
 have hle:=HQ y m
 refine Aa (fun g=>Ei (by omega) ?_) fun g=>?_
 ·rw[HP hy hy2 hm1 hm2,Ae _ (by omega) (by omega),Ae _ (by omega) (by omega)]
  have hm:m≠12:=fun e=>by
   subst e
   rw[Hg hy]at h2;omega
  exact⟨⟨rfl,rfl,m+1,by omega,by omega,by omega,by rw[hs];omega,by rw[hs];omega⟩,by dsimp only;omega⟩
 ·rw[Ae _ (by omega) (by omega)]
  have:=hk m (n-yrS y-Do y m+1) ⟨hy,hy2,hm1,hm2,by omega,by omega,by omega⟩
  exact this
theorem date_ok {n:Nat} (hn:n<=3652058) {st:St} {K:Int->Int->Int->Int->St->Prop} (hk:∀y m d:Nat,D3 n y m d->K y m d 0 st):CallT PR Dc [.int .i64 (n:Int)] [.one (.int .i64),.one (.int .i64),.one (.int .i64),.one (.int .i64)] st K:=by
 refine Ii _ st K (Hq _ st _ (Aa (fun _=>?_) fun g=>by omega))
 rw[decide_eq_true (by omega)]
 refine Aa (p:=False) (fun h=>h.elim) fun _=>?_
 rw[Int.tdiv_eq_ediv_of_nonneg (by omega),Ae ((n:Int)/366) (by omega) (by omega),Ae _ (by omega) (by omega)]
 refine⟨fun ye n1 st'=>(n:Int)=n1/\st=st'/\∃y:Nat,ye=y/\1<=y/\y<=9999/\yrS y<=n,fun ye _ _=>(10000-ye).toNat,⟨rfl,rfl,n/366+1,by omega,by omega,by omega,by unfold yrS;rw[Nat.add_sub_cancel];omega⟩,?_⟩
 rintro ye _ _ ⟨rfl,rfl,y,hye,hy1,hy2,hy3⟩
 refine Aa (fun g=>?_) fun g=>?_<;>subst hye
 ·rw[Ae _ (by omega) (by omega),show((y:Int)+1)=((y+1:Nat):Int) by omega]
  refine Eh (by omega) (by omega) (Aa (fun g2=>⟨⟨rfl,rfl,y+1,rfl,by omega,by omega,by omega⟩,by dsimp only;omega⟩) fun g2=>Eh hy1 (by omega) ?_)
  exact I8 hy1 hy2 hy3 (by omega) hn fun m d hd=>hk y m d hd
 ·refine Eh hy1 (by omega) ?_
  have:y=9999:=by omega
  have h10:yrS (y+1)=3652059:=by rw[this];rfl
  exact I8 hy1 hy2 hy3 (by omega) hn fun m d hd=>hk y m d hd
theorem OZ (y:Nat):∀m,Do y m<=31*m
 | 0=>Nat.le_refl _
 | 1=>Nat.zero_le _
 | m+2=>by
  have:=OZ y (m+1)
  have:=HQ y (m+1)
  simp only[Do];omega
def TR (r:Nat) (st:St):Option B8->Prop
 | some s=>r<st.nb/\st.box r= .cells [.str s,.bool false]/\s.length<=1000000
 | none=>r<st.nb/\∃s,st.box r= .cells [.str s,.bool true]/\s.length<=1000000
theorem TR.get {r:Nat} {st:St} {S:Option B8} (h:TR r st S):r<st.nb/\∃s,st.box r= .cells [.str s,.bool S.isNone]/\s.length<=1000000/\(∀x,S=some x->s=x):=by
 cases S with
 | none=>obtain⟨h1,s,h2,h3⟩:=h;exact⟨h1,s,h2,h3,fun x hx=>by cases hx⟩
 | some s=>obtain⟨h1,h2,h3⟩:=h;exact⟨h1,s,h2,h3,fun x hx=>by cases hx;rfl⟩
def TM (r f:Nat) (st:St) (S:Option B8) (l:List TV):Prop:=TR r st S/\f<st.nb/\st.box f= .cells l/\r≠f
theorem GV {r:Nat} {st:St} {s:B8} {b:Bool} (h:st.box r= .cells [.str s,.bool b]) (hr:r<st.nb) (hl:s.length<=1000000) {K:St->Prop} (hk:∀st',StX (·=r) st st'->TR r st' none->K st'):
  stB st (.box r 1) [.bool true] K:=
 ⟨_,h,by simp,hk _ (StX.put (S:=(·=r)) rfl _) ⟨hr,s,by simp[St.put,setAll],hl⟩⟩
theorem Ik {r:Nat} {st:St} {s t:B8} {S:Option B8} (h:TR r st S) (ht:t.length<=1000000) {K:St->Prop} (hk:∀st',StX (·=r) st st'->TR r st' (S.map fun _=>t)->K st'):
  stB st (.box r 0) [.str t] K:=by
 obtain⟨hr,s,hb,hl,_⟩:=h.get
 refine⟨_,hb,by simp,hk _ (StX.put (S:=(·=r)) rfl _) ?_⟩
 cases S with
 | none=>exact⟨hr,t,by simp[St.put,setAll],ht⟩
 | some x=>exact⟨hr,by simp[St.put,setAll],ht⟩
def HO (w:Nat) (s:B8):Prop:=w<=s.length/\∀i,i<w->Av (s.getD i 0)
instance (w:Nat) (s:B8):Decidable (HO w s):=inferInstanceAs (Decidable (_/\_))
def Gu (w:Nat) (S:Option B8) (n:Nat) (T:Option B8):Prop:=match S with
 | none=>T=none
 | some s=>if HO w s then T=some (s.drop w)/\n=Bs (s.take w)else T=none
theorem KO {l:B8} {w:Nat} (hw:w<=l.length) (h:∀i,i<w->Av (l.getD i 0)):Bs (l.take w)<10^w:=by
 have h1:=Hs (l.take w) fun c hc=>by
  obtain⟨i,hi⟩:=List.getElem?_of_mem hc
  have hl:=(List.getElem?_eq_some_iff.1 hi).1
  rw[List.length_take]at hl
  rw[List.getElem?_take,if_pos (by omega)]at hi
  have:=h i (by omega)
  rwa [List.getD,hi]at this
 rwa [List.length_take,Nat.min_eq_left hw]at h1
theorem D9 {r:Nat} {w:Nat} (hw:w<=9) {st:St} {S:Option B8} (h:TR r st S) {K:Int->St->Prop} (hk:∀(n:Nat) st' T,n<10^w->StX (·=r) st st'->TR r st' T->Gu w S n T->K (n:Nat) st'):
  CallT PR Aj [.box r 0,.int .i64 (w:Nat)] [.one (.int .i64)] st K:=by
 obtain⟨hr,s,hb,hl,hx⟩:=h.get
 have hs:Af st [] (.t (.box r 0)) 0=some (.str s):=by simp[Af,hb]
 have p10:0<10^w:=Nat.pow_pos (by decide)
 have p18:10^w<=10^9:=Nat.pow_le_pow_right (by decide) hw
 have bad:¬HO w s->∀st',StX (·=r) st st'->TR r st' none->K ((0:Nat):Int) st':=fun hn st' e h'=>hk 0 st' none p10 e h' (by
  cases S with
  | none=>rfl
  | some x=>rw[<-hx x rfl];show(if HO w s then _ else _);rw[if_neg hn])
 refine Ey r _ st K (Ab hs (Ay (Aa (fun g=>GV hb hr hl (bad fun h=>by have:=h.1;omega)) fun g=>?_)))
 refine⟨fun n i p w' m st'=> .box r 0=p/\((w:Nat):Int)=w'/\((w:Nat):Int)=m/\st=st'/\∃k:Nat,i=k/\k<=w/\n=(Bs (s.take k):Nat)/\∀j,j<k->Av (s.getD j 0),fun _ i _ _ _ _=>(w-i).toNat,⟨rfl,rfl,rfl,rfl,0,rfl,Nat.zero_le _,rfl,fun j h=>absurd h (Nat.not_lt_zero _)⟩,?_⟩
 rintro _ _ _ _ _ _ ⟨rfl,rfl,rfl,rfl,k,rfl,hkw,rfl,hd⟩
 rw[Int.toNat_natCast]
 have hv:=KO (l:=s) (w:=k) (by omega) hd
 have p1:10^k<=10^9:=Nat.pow_le_pow_right (by decide) (by omega)
 refine Aa (fun g1=>Ac rfl (Ac rfl (Ab hs (Ay ⟨⟨by omega,by omega⟩,Aa (fun g2=>?_) fun g2=>Ac rfl (Ac rfl (Ab hs (Ay ⟨⟨by omega,by omega⟩,Aa (fun g3=>?_) fun g3=>?_⟩)))⟩)))) fun g1=>?_
 ·exact Ac rfl (Ac rfl (GV hb hr hl (bad fun h=>by have:=(h.2 k (by omega)).1;omega)))
 ·exact Ac rfl (Ac rfl (GV hb hr hl (bad fun h=>by have:=(h.2 k (by omega)).2;omega)))
 ·refine Ac rfl (Ac rfl (Ab hs (Ay ⟨⟨by omega,by omega⟩,?_⟩)))
  have hsn:=Ij (l:=s) (k:=k) (by omega)
  rw[H7 _ (by omega) (by omega),Ae (10*_) (by omega) (by omega),Ae (((s.getD k 0).toNat:Int)-48) (by omega) (by omega),Ae (_+_) (by omega) (by omega),Ae _ (by omega) (by omega)]
  refine⟨⟨rfl,rfl,rfl,rfl,k+1,by omega,by omega,by rw[hsn];omega,fun j hj=>?_⟩,by dsimp only;omega⟩
  by_cases hjk:j=k
  ·subst hjk;exact⟨by omega,by omega⟩
  ·exact hd j (by omega)
 ·have hkk:k=w:=by omega
  subst hkk
  refine Ac rfl (Ac rfl (Ab hs (Ay ⟨⟨by omega,by omega⟩,Ac rfl (Ac rfl (Ik (s:=s) h (by rw[List.length_drop];omega) fun st' e h'=>hk _ st' _ hv e h' ?_))⟩)))
  cases S with
  | none=>rfl
  | some x=>
   obtain rfl:=hx x rfl
   show(if HO k s then _ else _)
   rw[if_pos ⟨by omega,hd⟩]
   exact⟨rfl,rfl⟩
def Jq (of:B8) (S:Option B8) (c:Nat) (T:Option B8):Prop:=match S with
 | none=>T=none
 | some s=>if s.getD 0 0∈of then T=some (s.drop 1)/\c=(s.getD 0 0).toNat else T=none
theorem D8 {r:Nat} {of:B8} (hof:(0:UInt8)∉of) (hlo:of.length<=100) {st:St} {S:Option B8} (h:TR r st S) {K:Int->St->Prop} (hk:∀(n:Nat) st' T,n<256->StX (·=r) st st'->TR r st' T->Jq of S n T->K (n:Nat) st'):
  CallT PR Ap [.box r 0,.str of] [.one (.int .u8)] st K:=by
 obtain⟨hr,s,hb,hl,hx⟩:=h.get
 have hs:Af st [] (.t (.box r 0)) 0=some (.str s):=by simp[Af,hb]
 have bad:s.getD 0 0∉of->∀st',StX (·=r) st st'->TR r st' none->K ((0:Nat):Int) st':=fun hn st' e h'=>hk 0 st' none (by decide) e h' (by
  cases S with
  | none=>rfl
  | some x=>rw[<-hx x rfl];show(if s.getD 0 0∈of then _ else _);rw[if_neg hn])
 refine FE r of st K (Ab hs (Ay (Aa (fun g=>?_) fun g=>?_)))
 ·have hpos:0<s.length:=List.length_pos_iff.2 g
  refine⟨fun i p of' m st'=> .box r 0=p/\of=of'/\(of.length:Int)=m/\st=st'/\∃k:Nat,i=k/\k<=of.length/\∀j,j<k->of.getD j 0≠s.getD 0 0,fun i _ _ _ _=>(of.length-i).toNat,⟨rfl,rfl,rfl,rfl,0,rfl,Nat.zero_le _,fun j h=>absurd h (Nat.not_lt_zero _)⟩,?_⟩
  rintro _ _ _ _ _ ⟨rfl,rfl,rfl,rfl,k,rfl,hkw,hd⟩
  rw[Int.toNat_natCast]
  refine Aa (fun g1=>Ac rfl (Ac rfl (Ab hs (Ay ⟨⟨by omega,by omega⟩,⟨by omega,g1⟩,Aa (fun g2=>?_) fun g2=>?_⟩)))) fun g1=>?_
  ·have g2':s.getD 0 0=of.getD k 0:=UInt8.toNat_inj.1 (Int.ofNat.inj g2)
   have hmem:s.getD 0 0∈of:=by rw[g2'];exact F3 (by omega)
   refine Ac rfl (Ac rfl (Ab hs (Ay ⟨⟨by omega,by omega⟩,Ac rfl (Ac rfl (Ik (s:=s) h (by rw[List.length_drop];omega) fun st' e h'=>⟨⟨by omega,g1⟩,hk _ st' _ (UInt8.toNat_lt _) e h' ?_⟩))⟩)))
   cases S with
   | none=>rfl
   | some x=>
    obtain rfl:=hx x rfl
    show(if s.getD 0 0∈of then _ else _)
    rw[if_pos hmem]
    exact⟨rfl,by rw[g2']⟩
  ·rw[Ae _ (by omega) (by omega)]
   refine⟨⟨rfl,rfl,rfl,rfl,k+1,by omega,by omega,fun j hj=>?_⟩,by dsimp only;omega⟩
   by_cases hjk:j=k
   ·subst hjk;exact fun e=>g2 (by rw[e];rfl)
   ·exact hd j (by omega)
  ·refine Ac rfl (Ac rfl (GV hb hr hl (bad fun hm=>?_)))
   obtain⟨i,hi,he⟩:=List.getElem_of_mem hm
   exact hd i (by omega) (by rw[<-he];simp[List.getD,hi])
 ·have g0:s=[]:=Decidable.not_not.1 g
  exact GV hb hr hl (bad (by rw[g0];exact hof))
def FracS (S:Option B8) (n:Nat) (T:Option B8):Prop:=match S with
 | none=>T=none
 | some s=>if As s=[]∨9<(As s).length then T=none else T=some (s.drop (As s).length)/\n=M7 (As s)
theorem Mm (l:B8):∀k,Bs (l++List.replicate k 48)=Bs l*10^k
 | 0=>by simp
 | k+1=>by
  rw[List.replicate_succ',<-List.append_assoc]
  have:=Mm l k
  unfold Bs at this⊢
  rw[Ht,this,Nat.pow_succ]
  show 10*(DD 0 l*10^k)+(48-48)=_
  have e:10*(DD 0 l*10^k)=DD 0 l*(10^k*10):=by rw[Nat.mul_left_comm,Nat.mul_comm 10]
  rw[e];rfl
theorem JW {n k:Nat} (hk:k<=9) (hn:n<10^k) {st:St} {K:Int->St->Prop} (h:K (n*10^(9-k):Nat) st):
  ∃(I:Int->Int->St->Prop) (M:Int->Int->St->Nat),I (n:Nat) (k:Nat) st/\∀(n2 k2:Int) (st5:St),I n2 k2 st5->BIf (decide (k2<9)) (I (i64.wrap (n2*10)) (i64.wrap (k2+1)) st5/\M (i64.wrap (n2*10)) (i64.wrap (k2+1)) st5<M n2 k2 st5) (K n2 st5):=by
 refine⟨fun n2 k2 st5=>st=st5/\∃j:Nat,k2=j/\j<=9/\∃m:Nat,n2=m/\m<10^j/\m*10^(9-j)=n*10^(9-k),fun _ k2 _=>(9-k2).toNat,⟨rfl,k,rfl,hk,n,rfl,hn,rfl⟩,?_⟩
 rintro _ _ _ ⟨rfl,j,rfl,hj,m,rfl,hm,he⟩
 have p9:10^j<=10^9:=Nat.pow_le_pow_right (by decide) hj
 refine Aa (fun g=>?_) fun g=>?_
 ·rw[Ae _ (by omega) (by omega),Ae _ (by omega) (by omega)]
  refine⟨⟨rfl,j+1,by omega,by omega,m*10,by omega,by rw[Nat.pow_succ];omega,?_⟩,by dsimp only;omega⟩
  rw[<-he,Nat.mul_assoc,show 9-j=(9-(j+1))+1 by omega,Nat.pow_succ,Nat.mul_comm 10]
 ·have:j=9:=by omega
  subst this
  rw[Nat.sub_self,Nat.pow_zero,Nat.mul_one]at he
  rw[<-he]at h;exact h
theorem Qy {r:Nat} {st:St} {S:Option B8} (h:TR r st S) {K:Int->St->Prop} (hk:∀(n:Nat) st' T,n<1000000000->StX (·=r) st st'->TR r st' T->FracS S n T->K (n:Nat) st'):
  CallT PR Bj [.box r 0] [.one (.int .i64)] st K:=by
 obtain⟨hr,s,hb,hl,hx⟩:=h.get
 have hs:Af st [] (.t (.box r 0)) 0=some (.str s):=by simp[Af,hb]
 have bad:(As s=[]∨9<(As s).length)->∀st',StX (·=r) st st'->TR r st' none->K ((0:Nat):Int) st':=fun hn st' e h'=>hk 0 st' none (by decide) e h' (by
  cases S with
  | none=>rfl
  | some x=>rw[<-hx x rfl];show(if As s=[]∨9<(As s).length then _ else _);rw[if_pos hn])
 refine D5 r st K ⟨fun n i p st'=> .box r 0=p/\st=st'/\∃k:Nat,i=k/\k<=s.length/\n=(Bs (s.take (min k 9)):Nat)/\∀j,j<k->Av (s.getD j 0),fun _ i _ _=>(s.length-i).toNat,⟨rfl,rfl,0,rfl,Nat.zero_le _,rfl,fun j h=>absurd h (Nat.not_lt_zero _)⟩,?_⟩
 rintro _ _ _ _ ⟨rfl,rfl,k,rfl,hkl,rfl,hd⟩
 rw[Int.toNat_natCast]
 have p18:10^(min k 9)<=10^9:=Nat.pow_le_pow_right (by decide) (by omega)
 have hv:=KO (l:=s) (w:=min k 9) (by omega) fun i hi=>hd i (by omega)
 have run:(k=s.length∨¬Av (s.getD k 0))->(As s).length=k:=fun hs=>Kl s k hkl hd hs
 have bad0:(k=s.length∨¬Av (s.getD k 0))->((k:Nat):Int)<1->stB st (.box r 1) [.bool true] fun st'=>K ((0:Nat):Int) st':=fun hs g=>GV hb hr hl (bad (.inl (List.length_eq_zero_iff.1 (by rw[run hs];omega))))
 have bad9:(k=s.length∨¬Av (s.getD k 0))->(9:Int)<((k:Nat):Int)->stB st (.box r 1) [.bool true] fun st'=>K ((0:Nat):Int) st':=fun hs g=>GV hb hr hl (bad (.inr (by rw[run hs];omega)))
 have good:(k=s.length∨¬Av (s.getD k 0))->¬((k:Nat):Int)<1->¬(9:Int)<((k:Nat):Int)->∀st',StX (·=r) st st'->TR r st' (S.map fun _=>s.drop k)->K ((Bs (s.take (min k 9))*10^(9-k):Nat):Int) st':=fun hs g1 g2 st' e h'=>by
  have hrun:=run hs
  have htk:=G7 s
  rw[hrun]at htk
  have hm:min k 9=k:=by omega
  rw[hm]at hv⊢
  have hp:10^9=10^k*10^(9-k):=by rw[<-Nat.pow_add];congr 1;omega
  have hlt:Bs (s.take k)*10^(9-k)<1000000000:=by
   have:=Nat.mul_lt_mul_of_pos_right hv (Nat.pow_pos (n:=9-k) (show 0<10 by decide))
   rw[<-hp]at this;exact this
  refine hk _ st' _ hlt e h' ?_
  cases S with
  | none=>rfl
  | some x=>
   obtain rfl:=hx x rfl
   show(if As s=[]∨9<(As s).length then _ else _)
   rw[if_neg (by rintro(h0 | h0);rw[h0]at hrun;simp at hrun;omega;omega),hrun]
   refine⟨rfl,?_⟩
   unfold M7
   rw[hrun,Mm,htk]
 refine Ac rfl (Ac rfl (Ab hs (Ay (Aa (fun g=>Ac rfl (Ac rfl (Ab hs (Ay ⟨⟨by omega,g⟩,Aa (fun g1=>Ac rfl (Ac rfl (Ab hs (Ay ⟨⟨by omega,g⟩,Aa (fun g2=>?_) fun g2=>?_⟩)))) fun g1=>?_⟩)))) fun g=>?_))))
 ·have hdk:∀j,j<k+1->Av (s.getD j 0):=fun j hj=>by
   by_cases hjk:j=k
   ·subst hjk;exact⟨by omega,by omega⟩
   ·exact hd j (by omega)
  refine Aa (fun g3=>Ac rfl (Ac rfl (Ab hs (Ay ⟨⟨by omega,g⟩,?_⟩)))) fun g3=>?_
  ·have hsn:=Ij (l:=s) (k:=k) (by omega)
   have hm:min k 9=k:=by omega
   have hm1:min (k+1) 9=k+1:=by omega
   rw[hm]at hv⊢
   rw[hm]at p18
   rw[H7 _ (by omega) (by omega),Ae (10*_) (by omega) (by omega),Ae (((s.getD k 0).toNat:Int)-48) (by omega) (by omega),Ae (_+_) (by omega) (by omega),Ae _ (by omega) (by omega)]
   exact⟨⟨rfl,rfl,k+1,by omega,by omega,by rw[hm1,hsn];omega,hdk⟩,by dsimp only;omega⟩
  ·rw[Ae _ (by omega) (by omega)]
   exact⟨⟨rfl,rfl,k+1,by omega,by omega,by rw[show min (k+1) 9=min k 9 by omega],hdk⟩,by dsimp only;omega⟩
 ·have hs':k=s.length∨¬Av (s.getD k 0):= .inr fun h=>g2 (by have:=h.2;omega)
  exact Aa (fun g3=>Ac rfl (Ac rfl (bad0 hs' g3))) fun g3=>Aa (fun g4=>Ac rfl (Ac rfl (bad9 hs' g4))) fun g4=>Ac rfl (Ac rfl (Ab hs (Ay ⟨⟨by omega,by omega⟩,Ac rfl (Ac rfl (Ik (s:=s) h (by rw[List.length_drop];omega) fun st' e h'=>JW (by omega) (by rw[show min k 9=k by omega]at*;exact hv) (good hs' g3 g4 st' e h')))⟩)))
 ·have hs':k=s.length∨¬Av (s.getD k 0):= .inr fun h=>g1 (by have:=h.1;omega)
  exact Aa (fun g3=>Ac rfl (Ac rfl (bad0 hs' g3))) fun g3=>Aa (fun g4=>Ac rfl (Ac rfl (bad9 hs' g4))) fun g4=>Ac rfl (Ac rfl (Ab hs (Ay ⟨⟨by omega,by omega⟩,Ac rfl (Ac rfl (Ik (s:=s) h (by rw[List.length_drop];omega) fun st' e h'=>JW (by omega) (by rw[show min k 9=k by omega]at*;exact hv) (good hs' g3 g4 st' e h')))⟩)))
 ·have hs':k=s.length∨¬Av (s.getD k 0):= .inl (by omega)
  exact Aa (fun g3=>Ac rfl (Ac rfl (bad0 hs' g3))) fun g3=>Aa (fun g4=>Ac rfl (Ac rfl (bad9 hs' g4))) fun g4=>Ac rfl (Ac rfl (Ab hs (Ay ⟨⟨by omega,by omega⟩,Ac rfl (Ac rfl (Ik (s:=s) h (by rw[List.length_drop];omega) fun st' e h'=>JW (by omega) (by rw[show min k 9=k by omega]at*;exact hv) (good hs' g3 g4 st' e h')))⟩)))
abbrev rfS (r f:Nat):Nat->Prop:=fun b=>b=r∨b=f
theorem TM.step {r f:Nat} {st st':St} {S T:Option B8} {l:List TV} (h:TM r f st S l) (e:StX (·=r) st st') (h':TR r st' T):TM r f st' T l:=
 ⟨h',Nat.lt_of_lt_of_le h.2.1 e.nb,(e.box f h.2.1 fun g=>h.2.2.2 g.symm).trans h.2.2.1,h.2.2.2⟩
theorem TM.put {r f i:Nat} {st:St} {S:Option B8} {l:List TV} {v:TV} (h:TM r f st S l) (hi:i<l.length) {K:St->Prop} (hk:∀st',StX (rfS r f) st st'->TM r f st' S (l.set i v)->K st'):stB st (.box f i) [v] K:=by
 obtain⟨h1,h2,h3,h4⟩:=h
 refine⟨_,h3,by simp;omega,hk _ (StX.put (S:=rfS r f) (.inr rfl) _) ⟨?_,h2,by simp[St.put,setAll],h4⟩⟩
 have hne:((st.put f (.cells (setAll l i [v]))).box r)=st.box r:=by simp only[St.put];rw[if_neg h4]
 cases S with
 | none=>obtain⟨a1,s,a2,a3⟩:=h1;exact⟨a1,s,hne.trans a2,a3⟩
 | some s=>obtain⟨a1,a2,a3⟩:=h1;exact⟨a1,hne.trans a2,a3⟩
theorem Fy {r f:Nat} {a b:St} (e:StX (·=r) a b):StX (rfS r f) a b:=e.mono fun _ h=> .inl h
def fcT (y mo d h mi sc nn sg oh om:Nat):List TV:=[.int .i64 (y:Nat),.int .i64 (mo:Nat),.int .i64 (d:Nat),.int .i64 (h:Nat),.int .i64 (mi:Nat),.int .i64 (sc:Nat),.int .i64 (nn:Nat),.int .u8 (sg:Nat),.int .i64 (oh:Nat),.int .i64 (om:Nat)]
theorem Gu.pos {w n:Nat} {s:B8} {T:Option B8} (h:Gu w (some s) n T) (f:HO w s):T=some (s.drop w)/\n=Bs (s.take w):=by
 change (if HO w s then _ else _)at h
 rwa [if_pos f]at h
theorem Gu.neg {w n:Nat} {s:B8} {T:Option B8} (h:Gu w (some s) n T) (f:¬HO w s):T=none:=by
 change (if HO w s then _ else _)at h
 rwa [if_neg f]at h
theorem Jq.pos {of:B8} {n:Nat} {s:B8} {T:Option B8} (h:Jq of (some s) n T) (f:s.getD 0 0∈of):T=some (s.drop 1)/\n=(s.getD 0 0).toNat:=by
 change (if s.getD 0 0∈of then _ else _)at h
 rwa [if_pos f]at h
theorem Jq.neg {of:B8} {n:Nat} {s:B8} {T:Option B8} (h:Jq of (some s) n T) (f:s.getD 0 0∉of):T=none:=by
 change (if s.getD 0 0∈of then _ else _)at h
 rwa [if_neg f]at h
theorem E8 (s:B8) (k i:Nat):b0 (s.drop k) i=b0 s (k+i):=by simp[b0,List.getD]
theorem dd_drop (s:B8) (k i:Nat):dd (s.drop k) i↔dd s (k+i):=by
 unfold dd
 rw[E8,E8,Nat.add_assoc]
theorem d2_drop (s:B8) (k i:Nat):d2 (s.drop k) i=d2 s (k+i):=by
 unfold d2 dv
 rw[E8,E8,Nat.add_assoc]
theorem RZ {s:B8} {k:Nat} (h:Av (b0 s k)):k<s.length:=by
 by_cases hk:k<s.length
 ·exact hk
 ·rw[show b0 s k=0 by simp[b0,List.getD,Nat.le_of_not_lt hk]]at h
  exact absurd h (by decide)
theorem numF2 (s:B8):HO 2 s↔dd s 0:=by
 constructor
 ·intro h;exact⟨h.2 0 (by omega),h.2 1 (by omega)⟩
 ·intro h
  have:=RZ h.2
  exact⟨by omega,fun i hi=>by
   rcases (by omega:i=0∨i=1)with rfl | rfl
   ·exact h.1
   ·exact h.2⟩
theorem OY (s:B8):HO 4 s↔dd s 0/\dd s 2:=by
 constructor
 ·intro h;exact⟨⟨h.2 0 (by omega),h.2 1 (by omega)⟩,⟨h.2 2 (by omega),h.2 3 (by omega)⟩⟩
 ·intro h
  have:=RZ h.2.2
  exact⟨by omega,fun i hi=>by
   rcases (by omega:i=0∨i=1∨i=2∨i=3)with rfl | rfl | rfl | rfl
   ·exact h.1.1
   ·exact h.1.2
   ·exact h.2.1
   ·exact h.2.2⟩
theorem val2 {s:B8} (h:HO 2 s):Bs (s.take 2)=d2 s 0:=by
 rcases s with _ | ⟨a,_ | ⟨b,r⟩⟩
 ·exact absurd h.1 (by simp)
 ·exact absurd h.1 (by simp)
 ·show 10*(10*0+(a.toNat-48))+(b.toNat-48)=(a.toNat-48)*10+(b.toNat-48)
  omega
theorem val4 {s:B8} (h:HO 4 s):Bs (s.take 4)=d2 s 0*100+d2 s 2:=by
 rcases s with _ | ⟨a,_ | ⟨b,_ | ⟨c,_ | ⟨d,r⟩⟩⟩⟩
 ·exact absurd h.1 (by simp)
 ·exact absurd h.1 (by simp)
 ·exact absurd h.1 (by simp)
 ·exact absurd h.1 (by simp)
 ·show 10*(10*(10*(10*0+(a.toNat-48))+(b.toNat-48))+(c.toNat-48))+(d.toNat-48)=((a.toNat-48)*10+(b.toNat-48))*100+((c.toNat-48)*10+(d.toNat-48))
  omega
theorem one1 {s:B8} {c:UInt8}:s.getD 0 0∈ [c]↔b0 s 0=c:=by rw[List.mem_singleton];rfl
theorem Ea {s:B8} {k m n:Nat} {T:Option B8} (hm:k+2=m) (h:Gu 2 (some (s.drop k)) n T):(dd s k->T=some (s.drop m)/\n=d2 s k)/\(¬dd s k->T=none):=by
 have e:HO 2 (s.drop k)↔dd s k:=by rw[numF2,dd_drop];rfl
 constructor
 ·intro f
  have f':=e.2 f
  obtain⟨h1,h2⟩:=h.pos f'
  exact⟨by rw[h1,List.drop_drop,hm],by rw[h2,val2 f',d2_drop];rfl⟩
 ·intro f;exact h.neg fun g=>f (e.1 g)
theorem Gx {s:B8} {k m n:Nat} {c:UInt8} {T:Option B8} (hm:k+1=m) (h:Jq [c] (some (s.drop k)) n T):(b0 s k=c->T=some (s.drop m))/\(b0 s k≠c->T=none):=by
 have e:(s.drop k).getD 0 0∈ [c]↔b0 s k=c:=by rw[one1,E8];rfl
 exact⟨fun f=>by rw[(h.pos (e.2 f)).1,List.drop_drop,hm],fun f=>h.neg fun g=>f (e.1 g)⟩
theorem step4 {s:B8} {n:Nat} {T:Option B8} (h:Gu 4 (some s) n T):(dd s 0/\dd s 2->T=some (s.drop 4)/\n=d2 s 0*100+d2 s 2)/\(¬(dd s 0/\dd s 2)->T=none):=
 ⟨fun f=>⟨(h.pos ((OY s).2 f)).1,by rw[(h.pos ((OY s).2 f)).2,val4 ((OY s).2 f)]⟩,fun f=>h.neg fun g=>f ((OY s).1 g)⟩
theorem Qa {s:B8} {y c m c' d:Nat} {T1 T2 T3 T4 T5:Option B8} (s1:Gu 4 (some s) y T1) (s2:Jq [45] T1 c T2) (s3:Gu 2 T2 m T3) (s4:Jq [45] T3 c' T4) (s5:Gu 2 T4 d T5):
  (CF s->T5=some (s.drop 10)/\y=d2 s 0*100+d2 s 2/\m=d2 s 5/\d=d2 s 8)/\(¬CF s->T5=none):=by
 by_cases f1:dd s 0/\dd s 2
 ·obtain⟨rfl,v1⟩:=(step4 s1).1 f1
  by_cases f2:b0 s 4=45
  ·obtain rfl:=(Gx (m:=5) rfl s2).1 f2
   by_cases f3:dd s 5
   ·obtain⟨rfl,v3⟩:=(Ea (m:=7) rfl s3).1 f3
    by_cases f4:b0 s 7=45
    ·obtain rfl:=(Gx (m:=8) rfl s4).1 f4
     by_cases f5:dd s 8
     ·obtain⟨rfl,v5⟩:=(Ea (m:=10) rfl s5).1 f5
      exact⟨fun _=>⟨rfl,v1,v3,v5⟩,fun h=>absurd ⟨f1.1,f1.2,f2,f3,f4,f5⟩ h⟩
     ·exact⟨fun h=>absurd h.2.2.2.2.2 f5,fun _=>(Ea (m:=10) rfl s5).2 f5⟩
    ·obtain rfl:=(Gx (m:=8) rfl s4).2 f4
     exact⟨fun h=>absurd h.2.2.2.2.1 f4,fun _=>s5⟩
   ·obtain rfl:=(Ea (m:=7) rfl s3).2 f3
    obtain rfl:T4=none:=s4
    exact⟨fun h=>absurd h.2.2.2.1 f3,fun _=>s5⟩
  ·obtain rfl:=(Gx (m:=5) rfl s2).2 f2
   obtain rfl:T3=none:=s3
   obtain rfl:T4=none:=s4
   exact⟨fun h=>absurd h.2.2.1 f2,fun _=>s5⟩
 ·obtain rfl:=(step4 s1).2 f1
  obtain rfl:T2=none:=s2
  obtain rfl:T3=none:=s3
  obtain rfl:T4=none:=s4
  exact⟨fun h=>absurd ⟨h.1,h.2.1⟩ f1,fun _=>s5⟩
def DateS (S:Option B8) (y m d:Nat) (T:Option B8):Prop:=match S with
 | none=>T=none
 | some s=>(CF s->T=some (s.drop 10)/\y=d2 s 0*100+d2 s 2/\m=d2 s 5/\d=d2 s 8)/\(¬CF s->T=none)
theorem Ms {r f:Nat} {st:St} {S:Option B8} {h mi sc nn sg oh om:Nat} (hm:TM r f st S (fcT 0 0 0 h mi sc nn sg oh om)) {K:St->Prop}
  (hk:∀y mo d st' T,y<10000->mo<100->d<100->StX (rfS r f) st st'->TM r f st' T (fcT y mo d h mi sc nn sg oh om)->DateS S y mo d T->K st'):CallT PR Bg [.box r 0,.box f 0] [] st K:=by
 refine Fo r f st K (D9 (w:=4) (by decide) hm.1 fun y st1 T1 b1 e1 h1 s1=>(hm.step e1 h1).put (by simp[fcT]) fun st2 e2 m2=>?_)
 refine D8 (of:=[45]) (by decide) (by decide) m2.1 fun c st3 T3 b3 e3 h3 s3=>D9 (w:=2) (by decide) h3 fun mo st4 T4 b4 e4 h4 s4=>((m2.step e3 h3).step e4 h4).put (by simp[fcT]) fun st5 e5 m5=>?_
 refine D8 (of:=[45]) (by decide) (by decide) m5.1 fun c' st6 T6 b6 e6 h6 s6=>D9 (w:=2) (by decide) h6 fun d st7 T7 b7 e7 h7 s7=>((m5.step e6 h6).step e7 h7).put (by simp[fcT]) fun st8 e8 m8=>?_
 refine hk y mo d st8 T7 b1 b4 b7 ((((((((Fy e1).trans e2).trans (Fy e3)).trans (Fy e4)).trans e5).trans (Fy e6)).trans (Fy e7)).trans e8) m8 ?_
 cases S with
 | some s=>exact Qa s1 s3 s4 s6 s7
 | none=>
  have:=(show T1=none from s1)
  subst this
  have:=(show T3=none from s3)
  subst this
  have:=(show T4=none from s4)
  subst this
  have:=(show T6=none from s6)
  subst this
  exact s7
theorem Oq {s:B8} {h c m c' d:Nat} {T1 T2 T3 T4 T5:Option B8} (s1:Gu 2 (some s) h T1) (s2:Jq [58] T1 c T2) (s3:Gu 2 T2 m T3) (s4:Jq [58] T3 c' T4) (s5:Gu 2 T4 d T5):
  (I6 s->T5=some (s.drop 8)/\h=d2 s 0/\m=d2 s 3/\d=d2 s 6)/\(¬I6 s->T5=none):=by
 have s1':Gu 2 (some (s.drop 0)) h T1:=by rw[List.drop_zero];exact s1
 by_cases f1:dd s 0
 ·obtain⟨rfl,v1⟩:=(Ea (m:=2) rfl s1').1 f1
  by_cases f2:b0 s 2=58
  ·obtain rfl:=(Gx (m:=3) rfl s2).1 f2
   by_cases f3:dd s 3
   ·obtain⟨rfl,v3⟩:=(Ea (m:=5) rfl s3).1 f3
    by_cases f4:b0 s 5=58
    ·obtain rfl:=(Gx (m:=6) rfl s4).1 f4
     by_cases f5:dd s 6
     ·obtain⟨rfl,v5⟩:=(Ea (m:=8) rfl s5).1 f5
      exact⟨fun _=>⟨rfl,v1,v3,v5⟩,fun h=>absurd ⟨f1,f2,f3,f4,f5⟩ h⟩
     ·exact⟨fun h=>absurd h.2.2.2.2 f5,fun _=>(Ea (m:=8) rfl s5).2 f5⟩
    ·obtain rfl:=(Gx (m:=6) rfl s4).2 f4
     exact⟨fun h=>absurd h.2.2.2.1 f4,fun _=>s5⟩
   ·obtain rfl:=(Ea (m:=5) rfl s3).2 f3
    obtain rfl:T4=none:=s4
    exact⟨fun h=>absurd h.2.2.1 f3,fun _=>s5⟩
  ·obtain rfl:=(Gx (m:=3) rfl s2).2 f2
   obtain rfl:T3=none:=s3
   obtain rfl:T4=none:=s4
   exact⟨fun h=>absurd h.2.1 f2,fun _=>s5⟩
 ·obtain rfl:=(Ea (m:=2) rfl s1').2 f1
  obtain rfl:T2=none:=s2
  obtain rfl:T3=none:=s3
  obtain rfl:T4=none:=s4
  exact⟨fun h=>absurd h.1 f1,fun _=>s5⟩
def Nx (S:Option B8) (h mi sc nn:Nat) (T:Option B8):Prop:=match S with
 | none=>T=none
 | some s=>match Gt s with
  | none=>T=none
  | some (h',mi',sc',f',r')=>T=some r'/\h=h'/\mi=mi'/\sc=sc'/\nn=f'
theorem TR.src {r:Nat} {st:St} {S:Option B8} (h:TR r st S):∃s,Af st [] (.t (.box r 0)) 0=some (.str s)/\s.length<=1000000/\∀x,S=some x->s=x:=by
 obtain⟨_,s,hb,hl,hx⟩:=h.get
 exact⟨s,by simp[Af,hb],hl,hx⟩
theorem In {r f:Nat} {st:St} {S:Option B8} {y mo d sg oh om:Nat} (hm:TM r f st S (fcT y mo d 0 0 0 0 sg oh om)) {K:St->Prop}
  (hk:∀h mi sc nn st' T,h<100->mi<100->sc<100->nn<1000000000->StX (rfS r f) st st'->TM r f st' T (fcT y mo d h mi sc nn sg oh om)->Nx S h mi sc nn T->K st'):CallT PR AN [.box r 0,.box f 0] [] st K:=by
 refine EN r f st K (D9 (w:=2) (by decide) hm.1 fun y st1 T1 b1 e1 h1 s1=>(hm.step e1 h1).put (by simp[fcT]) fun st2 e2 m2=>?_)
 refine D8 (of:=[58]) (by decide) (by decide) m2.1 fun c st3 T3 b3 e3 h3 s3=>D9 (w:=2) (by decide) h3 fun mo st4 T4 b4 e4 h4 s4=>((m2.step e3 h3).step e4 h4).put (by simp[fcT]) fun st5 e5 m5=>?_
 refine D8 (of:=[58]) (by decide) (by decide) m5.1 fun c' st6 T6 b6 e6 h6 s6=>D9 (w:=2) (by decide) h6 fun d st7 T7 b7 e7 h7 s7=>((m5.step e6 h6).step e7 h7).put (by simp[fcT]) fun st8 e8 m8=>?_
 have E:=(((((((Fy e1).trans e2).trans (Fy e3)).trans (Fy e4)).trans e5).trans (Fy e6)).trans (Fy e7)).trans e8
 have comb:∀s,S=some s->(I6 s->T7=some (s.drop 8)/\y=d2 s 0/\mo=d2 s 3/\d=d2 s 6)/\(¬I6 s->T7=none):=fun s hs=>by
  subst hs;exact Oq s1 s3 s4 s6 s7
 have nn:S=none->T7=none:=fun hs=>by
  subst hs
  obtain rfl:T1=none:=s1
  obtain rfl:T3=none:=s3
  obtain rfl:T4=none:=s4
  obtain rfl:T6=none:=s6
  exact s7
 clear s1 s3 s4 s6 s7 m2 m5
 obtain⟨t,ht,hl,hx⟩:=m8.1.src
 have plain:(∀x,T7=some x->b0 x 0≠46)->K st8:=fun hp=>hk y mo d 0 st8 T7 b1 b4 b7 (by decide) E m8 (by
  cases S with
  | none=>exact nn rfl
  | some s=>
   unfold Nx;dsimp only
   obtain⟨c1,c2⟩:=comb s rfl
   unfold Gt
   by_cases fc:I6 s
   ·obtain⟨rfl,v1,v2,v3⟩:=c1 fc
    rw[if_pos fc,if_neg (by have:=hp _ rfl;rw[E8]at this;exact this)]
    exact⟨rfl,v1,v2,v3,rfl⟩
   ·rw[if_neg fc];exact c2 fc)
 refine Ab ht (Ay (Aa (fun g=>Ab ht (Ay ⟨⟨by omega,by have:=List.length_pos_iff.2 g;omega⟩,Aa (fun g1=>?_) fun g1=>?_⟩)) fun g=>?_))
 ·have hpos:=List.length_pos_iff.2 g
  refine Ab ht (Ay ⟨⟨by omega,by omega⟩,Ik (s:=t) m8.1 (by rw[List.length_drop];omega) fun st9 e9 h9=>?_⟩)
  refine Qy h9 fun n st10 T10 b10 e10 h10 s10=>((m8.step e9 h9).step e10 h10).put (by simp[fcT]) fun st11 e11 m11=>?_
  refine hk y mo d n st11 T10 b1 b4 b7 b10 (((E.trans (Fy e9)).trans (Fy e10)).trans e11) m11 ?_
  have g46:b0 t 0=46:=(u8i (k:=46)).1 g1
  cases S with
  | none=>
   obtain rfl:=nn rfl
   exact s10
  | some s=>
   unfold Nx;dsimp only
   obtain⟨c1,c2⟩:=comb s rfl
   unfold Gt
   by_cases fc:I6 s
   ·obtain⟨rfl,v1,v2,v3⟩:=c1 fc
    obtain rfl:=hx _ rfl
    rw[E8]at g46
    rw[if_pos fc,if_pos g46]
    have hd9:(s.drop 8).drop (Int.toNat 1)=s.drop 9:=by rw[List.drop_drop];rfl
    have s11:FracS (some (s.drop 9)) n T10:=by rw[<-hd9];exact s10
    change (if _ then _ else _)at s11
    by_cases hf:As (s.drop 9)=[]∨9<(As (s.drop 9)).length
    ·rw[if_pos hf]at s11
     rw[if_pos hf];exact s11
    ·rw[if_neg hf]at s11
     rw[if_neg hf]
     refine⟨?_,v1,v2,v3,s11.2⟩
     rw[s11.1,List.drop_drop]
   ·obtain rfl:=c2 fc
    rw[if_neg fc];exact s10
 ·exact plain fun x hx'=>by
   obtain rfl:=hx x hx'
   exact fun h=>g1 ((u8i (k:=46)).2 h)
 ·have g0:t=[]:=Decidable.not_not.1 g
  exact plain fun x hx'=>by
   obtain rfl:=hx x hx'
   rw[g0];decide
end Go.TVF
