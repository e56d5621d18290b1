/- What the laws below rest on: a framework for Go programs, and contracts of the functions that they reach. -/
import Derived.Test.YtbbjecpcjdmfgaaGreatDoorScD
set_option maxRecDepth 20000
set_option linter.unusedVariables false
set_option linter.unusedSimpArgs false
namespace Go.TVF
open Go.IntKind(i64 u8)
open Go Go.Proofs
theorem GQ {α:Type} {K:α->St->Prop} {a b:α} {st:St} (h:a=b) (hk:K b st):K a st:=h▸hk
theorem Np {r:Int} {st:St} {K:Bool->St->Prop} (h0:0<=r) (hk:K (decide (A2 r.toNat)) st):CallT PR B5 [.int .i64 r] [.one (.bool)] st K:=by
 refine FT _ st K (Ab (fun _=>Ab (fun h2=>Ab (fun h3=>?_) fun h3=>?_) fun h2=>?_) fun h1=>absurd h0 h1)
 ·have:A2 r.toNat:=by unfold A2;omega
  simpa [this]using hk
 ·have:decide ((57343:Int)<r)=decide (A2 r.toNat):=by
   rw[Bool.eq_iff_iff];simp only[decide_eq_true_eq];unfold A2;omega
  rw[this];exact hk
 ·have:¬A2 r.toNat:=by unfold A2;omega
  simpa [this]using hk
theorem E7 (st:St) (n:Nat) (l:B8) (xs:List TV) (h:xs=AR l):(DQ st (.list 1 .full n xs)).map TV.str=some (.str l):=by
 subst h;simp[DQ,Iw]
theorem Gg (n:Nat):IntKind.wrap .u8 (n:Int)=((UInt8.ofNat n).toNat:Int):=by
 unfold IntKind.wrap
 simp only[IntKind.signed,IntKind.bits]
 simp
 try omega
theorem orN (a b m:Nat) (hb:b<2^m) (h:a*2^m+b<2^63) (x y:Int) (hx:x=((a*2^m:Nat):Int)) (hy:y=(b:Int)):AN .or .i64 x y=((a*2^m+b:Nat):Int):=by
 rw[hx,hy];exact Ri a b m hb h
theorem RD {R:Int} {r:Nat} {st:St} {K:B8->Int->St->Prop} (hR:R=(r:Int)) (hr:r<2^40) (hk:K (if A2 r then FH r else []) (if A2 r then 0 else 2) st):CallT PR BL [.int .i64 R] [.one (.str),.one (.int .i64)] st K:=by
 have shr:∀m,m<=64->Int.fdiv R (2^(min m (IntKind.bits .i64)))=((r/2^m:Nat):Int):=fun m hm=>by rw[hR];exact shr_i64 r m hm
 have s6:=shr 6 (by decide)
 have s12:=shr 12 (by decide)
 have s18:=shr 18 (by decide)
 have m63:∀x:Nat,x<2^63->AN .and .i64 (x:Int) (63:Int)=((x%64:Nat):Int):=fun x hx=>Iy x 6 hx (by decide)
 have mR:AN .and .i64 R (63:Int)=((r%64:Nat):Int):=by rw[hR];exact m63 r (by omega)
 have o128:∀x:Nat,x<64->AN .or .i64 (128:Int) (x:Int)=((128+x:Nat):Int):=fun x hx=>orN 2 x 6 (by omega) (by omega) _ _ rfl rfl
 have hR0:0<=R:=by omega
 have hRn:R.toNat=r:=by omega
 refine GW _ st K (Np hR0 (As (fun h0=>?_) fun h0=>?_))
 ·have hc:¬A2 r:=by rw[hRn]at h0;simpa using h0
  rw[if_neg hc,if_neg hc]at hk
  exact hk
 ·have hc:A2 r:=by rw[hRn]at h0;simpa using h0
  rw[if_pos hc,if_pos hc]at hk
  unfold FH at hk
  refine Ab (fun h1=>?_) fun h1=>Ab (fun h2=>?_) fun h2=>Ab (fun h3=>?_) fun h3=>?_
  ·rw[if_pos (by omega)]at hk
   exact Ad (E7 _ _ _ _ (by simp only[AR,List.map,Kh];rw[hR,Gg])) hk
  ·rw[if_neg (by omega),if_pos (by omega)]at hk
   have o192:AN .or .i64 (192:Int) ((r/2^6:Nat):Int)=((192+r/64:Nat):Int):=orN 6 _ 5 (by omega) (by omega) _ _ rfl rfl
   refine Ad (E7 _ _ _ _ ?_) hk
   simp only[AR,List.map,Kh]
   rw[show Int.toNat (6:Int)=6 from rfl,s6,o192,mR,o128 _ (by omega),Gg,Gg]
  ·rw[if_neg (by omega),if_neg (by omega),if_pos (by omega)]at hk
   have o224:AN .or .i64 (224:Int) ((r/2^12:Nat):Int)=((224+r/4096:Nat):Int):=orN 14 _ 4 (by omega) (by omega) _ _ rfl rfl
   refine Ad (E7 _ _ _ _ ?_) hk
   simp only[AR,List.map,Kh]
   rw[show Int.toNat (6:Int)=6 from rfl,show Int.toNat (12:Int)=12 from rfl,s6,s12,o224,mR,m63 (r/2^6) (by omega),o128 _ (by omega),o128 _ (by omega),Gg,Gg,Gg]
  ·rw[if_neg (by omega),if_neg (by omega),if_neg (by omega)]at hk
   have hr2:r<=1114111:=hc.1
   have o240:AN .or .i64 (240:Int) ((r/2^18:Nat):Int)=((240+r/262144:Nat):Int):=orN 30 _ 3 (by omega) (by omega) _ _ rfl rfl
   refine Ad (E7 _ _ _ _ ?_) hk
   simp only[AR,List.map,Kh]
   rw[show Int.toNat (6:Int)=6 from rfl,show Int.toNat (12:Int)=12 from rfl,show Int.toNat (18:Int)=18 from rfl,s6,s12,s18,o240,mR,m63 (r/2^6) (by omega),m63 (r/2^12) (by omega),o128 _ (by omega),o128 _ (by omega),o128 _ (by omega),Gg,Gg,Gg,Gg]
theorem Tm {r:Nat} {st:St} {K:B8->Int->St->Prop} (hr:r<2^40) (hk:K (if A2 r then FH r else []) (if A2 r then 0 else 2) st):CallT PR BL [.int .i64 (r:Int)] [.one (.str),.one (.int .i64)] st K:=
 RD rfl hr hk
def rD (l:B8):Nat×Nat:=if ul l=0 then(0,0)else(ur l,ul l)
theorem PM {s:B8} {I:Int} {i:Nat} {st:St} {K:Int->Int->St->Prop} (hI:I=(i:Int)) (hl:s.length<=2000000) (hi:i<=s.length) (hk:K ((rD (s.drop i)).1:Nat) ((rD (s.drop i)).2:Nat) st):CallT PR BM [.str s,.int .i64 I] [.one (.int .i64),.one (.int .i64)] st K:=by
 refine GX s I st K (Ab (fun h=>by omega) fun _=>Ab (fun h=>?_) fun h=>⟨⟨by omega,by omega⟩,?_⟩)
 ·have:s.drop i=[]:=List.drop_of_length_le (by omega)
  have h0:rD (s.drop i)=(0,0):=by rw[this];simp[rD,ul]
  rw[h0]at hk;exact hk
 ·have hne:s.drop i≠ []:=by
   intro h0
   have:=congrArg List.length h0
   simp at this;omega
  have href:=Lt (s.drop i) hne
  have hb0:(List.getD s (Int.toNat I) 0).toNat=bt (s.drop i) 0:=by rw[O4,hI];rfl
  have hlt:=E5 (s.drop i) 0
  have hlen:(s.drop i).length=s.length-i:=by simp
  rw[hb0,TJ _ (by omega)]
  have m15:AN .and .i64 ((bt (s.drop i) 0:Nat):Int) (15:Int)=((bt (s.drop i) 0%16:Nat):Int):=Iy _ 4 (by omega) (by decide)
  have m7:AN .and .i64 ((bt (s.drop i) 0:Nat):Int) (7:Int)=((bt (s.drop i) 0%8:Nat):Int):=Iy _ 3 (by omega) (by decide)
  have m31:AN .and .i64 ((bt (s.drop i) 0:Nat):Int) (31:Int)=((bt (s.drop i) 0%32:Nat):Int):=Iy _ 5 (by omega) (by decide)
  rw[m15,m7,m31]
  refine⟨fun size r s' at' st1=>s=s'/\I=at'/\st=st1/\((rsz (bt (s.drop i) 0):Nat):Int)=size/\((rb0 (bt (s.drop i) 0):Nat):Int)=r,?_,?_⟩
  ·refine Ab (fun h1=>⟨rfl,rfl,rfl,?_,?_⟩) fun h1=>Ab (fun h2=>⟨rfl,rfl,rfl,?_,?_⟩) fun h2=>Ab (fun h3=>⟨rfl,rfl,rfl,?_,?_⟩) fun h3=>⟨rfl,rfl,rfl,?_,?_⟩
   ·unfold rsz;rw[if_pos (by omega)];rfl
   ·unfold rb0;rw[if_pos (by omega)]
   ·unfold rsz;rw[if_neg (by omega),if_pos (by omega)];rfl
   ·unfold rb0;rw[if_neg (by omega),if_pos (by omega)]
   ·unfold rsz;rw[if_neg (by omega),if_neg (by omega),if_pos (by omega)];rfl
   ·unfold rb0;rw[if_neg (by omega),if_neg (by omega),if_pos (by omega)]
   ·unfold rsz;rw[if_neg (by omega),if_neg (by omega),if_neg (by omega)];rfl
   ·unfold rb0;rw[if_neg (by omega),if_neg (by omega),if_neg (by omega)]
  ·rintro _ _ _ _ _ ⟨rfl,rfl,rfl,rfl,rfl⟩
   have hs:=TR (bt (s.drop i) 0)
   have hr0:=rb0_lt _ hlt
   generalize hsz:rsz (bt (s.drop i) 0)=size at*
   generalize hrr:rb0 (bt (s.drop i) 0)=r0 at*
   have hra:=OG (s.drop i) r0 hr0
   unfold SZ at href
   simp only[hsz,hrr]at href
   rw[Am _ (by omega) (by omega)]
   refine Ab (fun h1=>?_) fun h1=>?_
   ·rw[if_pos (by omega)]at href
    have:rD (s.drop i)=(0,0):=by unfold rD;rw[<-href]
    rw[this]at hk;exact hk
   ·rw[if_neg (by omega)]at href
    refine⟨fun r j s' at' sz st2=>s=s'/\I=at'/\st=st2/\((size:Nat):Int)=sz/\∃k:Nat,j=((k+1:Nat):Int)/\k+1<=size/\r=((CF (s.drop i) r0 k:Nat):Int),fun _ j _ _ sz _=>(sz-j).toNat,⟨rfl,rfl,rfl,rfl,0,rfl,hs.1,rfl⟩,?_⟩
    rintro _ _ _ _ _ _ ⟨rfl,rfl,rfl,rfl,k,rfl,hk1,rfl⟩
    have hrk:=hra k
    have h64:64^k<=64^3:=Nat.pow_le_pow_right (by decide) (by omega)
    refine Ab (fun h2=>?_) fun h2=>?_
    ·rw[Am _ (by omega) (by omega)]
     have hbk:(List.getD s (Int.toNat (I+((k+1:Nat):Int))) 0).toNat=bt (s.drop i) (k+1):=by
      rw[O4,show Int.toNat (I+((k+1:Nat):Int))=i+(k+1) by omega];rfl
     have hbl:=E5 (s.drop i) (k+1)
     have hand:AN .and .i64 (i64.wrap ((bt (s.drop i) (k+1):Nat):Int)) (63:Int)=((bt (s.drop i) (k+1)%64:Nat):Int):=by
      rw[TJ _ (by omega)];exact Iy _ 6 (by omega) (by decide)
     have hmul:i64.wrap (((CF (s.drop i) r0 k:Nat):Int)*2^(min (Int.toNat (6:Int)) (IntKind.bits .i64)))=((CF (s.drop i) r0 k*2^6:Nat):Int):=by
      rw[show(2:Int)^(min (Int.toNat (6:Int)) (IntKind.bits .i64))=64 by decide,Am _ (by omega) (by omega)];omega
     refine⟨⟨by omega,by omega⟩,?_⟩
     rw[hbk,hand,hmul,Ri _ _ 6 (by omega) (by omega),Am _ (by omega) (by omega)]
     exact⟨⟨rfl,rfl,rfl,rfl,k+1,by omega,by omega,by simp only[CF]⟩,by dsimp only;omega⟩
    ·have hks:k=size-1:=by omega
     subst hks
     refine Tm (by omega) ?_
     generalize hR:CF (s.drop i) r0 (size-1)=R at*
     refine Ab (fun h3=>?_) fun h3=>?_
     ·have hc:¬A2 R:=by intro hc;rw[if_pos hc]at h3;exact h3 rfl
      rw[if_neg (fun h=>hc h.1)]at href
      have:rD (s.drop i)=(0,0):=by unfold rD;rw[<-href]
      rw[this]at hk;exact hk
     ·have hc:A2 R:=by
       apply Decidable.byContradiction
       intro hc;rw[if_neg hc]at h3;exact h3 (by decide)
      rw[if_pos hc,Am _ (by omega) (by omega)]
      refine⟨⟨by omega,by omega,by omega⟩,?_⟩
      rw[M9,show Int.toNat (I+(size:Int))-Int.toNat I=size by omega,show Int.toNat I=i by omega]
      refine Ab (fun h4=>?_) fun h4=>?_
      ·rw[if_neg (fun h=>h4 h.2)]at href
       have:rD (s.drop i)=(0,0):=by unfold rD;rw[<-href]
       rw[this]at hk;exact hk
      ·rw[if_pos ⟨hc,Decidable.not_not.1 h4⟩]at href
       have:rD (s.drop i)=(R,size):=by unfold rD;rw[<-href]
       rw[this]at hk;exact hk
theorem Rb {s:B8} {i:Nat} {st:St} {K:Int->Int->St->Prop} (hl:s.length<=2000000) (hi:i<=s.length) (hk:K ((rD (s.drop i)).1:Nat) ((rD (s.drop i)).2:Nat) st):CallT PR BM [.str s,.int .i64 (i:Int)] [.one (.int .i64),.one (.int .i64)] st K:=
 PM rfl hl hi hk
theorem Pl (l:B8):DM l<=l.length:=R4 _ l (Nat.le_refl _)
theorem LJ:DM []=0:=B7 _ (by simp[ul])
theorem Rd.ldx {sz:Nat} {v:TV} {n:Nat} {xs:List TV} (h:Rd sz v n xs) (st:St) (i j:Nat) {x:TV} (hx:xs[i*sz+j]? =some x):Ac st [] (.t (ixT sz v i)) j=some x:=by
 obtain⟨hlt,hx⟩:=List.getElem?_eq_some_iff.1 hx
 rw[h.ld st i j hlt,hx]
theorem Rd.ldfx {sz:Nat} {v:TV} {n:Nat} {xs:List TV} (h:Rd sz v n xs) (st:St) (i j:Nat) {x:TV} (hx:xs[i*sz+j]? =some x):Ac st [] (.t (At (ixT sz v i) j)) 0=some x:=by
 obtain⟨hlt,hx⟩:=List.getElem?_eq_some_iff.1 hx
 rw[h.ldf st i j hlt,hx]
theorem Nq {s:B8} {st:St} {K:TV->Bool->St->Prop} (hl:s.length<=2000000)
  (hk:∀v xs st',Aj st st'->Rd 1 v (xs.length+1) (xs++[.int .i64 ((DM s:Nat):Int)])->xs.length<=s.length->K v (decide (DM s=s.length)) st'):CallT PR BV [.str s] [.one (.tv),.one (.bool)] st K:=by
 have hv:=Pl s
 refine Fu s st K ⟨fun v i s' st'=>s=s'/\Aj st st'/\∃(k:Nat) (xs:List TV),i=(k:Int)/\k<=s.length/\k+DM (s.drop k)=DM s/\xs.length<=k/\Own st.nt 1 st' v (xs.length+1) (xs++[.int .i64 (k:Int)]),fun _ i _ _=>(s.length-i).toNat,⟨rfl,Aj.refl _,0,[],rfl,by omega,by simp,by simp,Own.full _ _ _ _ _⟩,?_⟩
 rintro v _ _ st1 ⟨rfl,e,k,xs,rfl,h1,h2,h3,h4⟩
 refine Ab (fun g1=>?_) fun g1=>?_
 ·have hle:=Pp (s.drop k)
  rw[List.length_drop]at hle
  refine Rb hl h1 ?_
  unfold rD
  by_cases h0:ul (s.drop k)=0
  ·rw[if_pos h0]
   rw[B7 _ h0]at h2
   refine Ab (fun _=>?_) fun h=>absurd rfl h
   have:=hk v xs st1 e (by rw[<-h2];exact h4.rd) (by omega)
   rw[decide_eq_false (by omega)]at this
   exact this
  ·rw[if_neg h0]
   rw[Gy _ h0,List.drop_drop]at h2
   have w:i64.wrap ((k:Int)+(ul (s.drop k):Nat))=((k+ul (s.drop k):Nat):Int):=by rw[Am _ (by omega) (by omega)];omega
   refine Ab (fun h=>by simp only at h;omega) fun _=>?_
   dsimp only
   rw[w]
   refine Ix e rfl h4 (by omega) (fun h=>by cases h) fun v' st' e' _ ho=>⟨⟨rfl,e',k+ul (s.drop k),xs++[.int .i64 (k:Int)],rfl,by omega,by omega,by rw[List.length_append];simp;omega,?_⟩,by omega⟩
   rw[List.length_append];exact ho
 ·rw[show s.drop k=[]from List.drop_of_length_le (by omega),LJ]at h2
  have hks:k=DM s:=by omega
  have:=hk v xs st1 e (by rw[<-hks];exact h4.rd) (by omega)
  rw[decide_eq_true (by omega)]at this
  exact this
theorem KC {s:B8} {st:St} {K:Bool->St->Prop} (hl:s.length<=2000000) (hk:∀st',Aj st st'->K (decide (DM s=s.length)) st'):CallT PR AP [.str s] [.one (.bool)] st K:=
 HG s st K (Nq hl fun v xs st1 e hr hx=>hk st1 e)
def hdS (b:Nat):Nat:=if b<128 then 1 else if 192<=b/\b<224 then 2 else if 224<=b/\b<240 then 3 else if 240<=b/\b<248 then 4 else 0
def hdB (b:Nat):Nat:=if b<128 then b else if 192<=b/\b<224 then b%32 else if 224<=b/\b<240 then b%16 else if 240<=b/\b<248 then b%8 else 0
def wid (r:Nat):Nat:=if r<128 then 1 else if r<2048 then 2 else if r<65536 then 3 else 4
theorem IX (a m:Nat) (ha:a<256) (hm:m<=8):AN .and .u8 (a:Int) ((2^m-1:Nat):Int)=((a%2^m:Nat):Int):=by
 have:2^m<=2^8:=Nat.pow_le_pow_right (by decide) hm
 rw[Va _ _ ha (by omega),Nat.and_two_pow_sub_one_eq_mod]
theorem head_ok {B:Int} {b:Nat} {st:St} {K:Int->Int->St->Prop} (hB:B=(b:Int)) (hb:b<256) (hk:K (hdS b:Nat) (hdB b:Nat) st):CallT PR Iq [.int .u8 B] [.one (.int .i64),.one (.int .i64)] st K:=by
 have m31:AN .and .u8 B (31:Int)=((b%32:Nat):Int):=by rw[hB];exact IX b 5 hb (by decide)
 have m15:AN .and .u8 B (15:Int)=((b%16:Nat):Int):=by rw[hB];exact IX b 4 hb (by decide)
 have m7:AN .and .u8 B (7:Int)=((b%8:Nat):Int):=by rw[hB];exact IX b 3 hb (by decide)
 unfold hdS hdB at hk
 have kk:∀(x y x' y':Int),x=x'->y=y'->K x' y' st->K x y st:=fun x y x' y' h1 h2 hk=>by rw[h1,h2];exact hk
 refine Pm B st K ?_
 rw[m31,m15,m7,Am B (by omega) (by omega),Am ((b%32:Nat):Int) (by omega) (by omega),Am ((b%16:Nat):Int) (by omega) (by omega),Am ((b%8:Nat):Int) (by omega) (by omega)]
 by_cases g1:b<128
 ·rw[if_pos g1,if_pos g1]at hk
  exact Ab (fun _=>kk _ _ _ _ rfl hB hk) fun h=>by omega
 rw[if_neg g1,if_neg g1]at hk
 refine Ab (fun h=>by omega) fun _=>?_
 by_cases g2:192<=b/\b<224
 ·rw[if_pos g2,if_pos g2]at hk
  exact Ab (fun _=>Ab (fun _=>hk) fun h=>by omega) fun h=>by omega
 rw[if_neg g2,if_neg g2]at hk
 by_cases g3:224<=b/\b<240
 ·rw[if_pos g3,if_pos g3]at hk
  refine Ab (fun _=>Ab (fun h=>by omega) fun _=>?_) fun h=>by omega
  exact Ab (fun _=>Ab (fun _=>hk) fun h=>by omega) fun h=>by omega
 rw[if_neg g3,if_neg g3]at hk
 by_cases g4:240<=b/\b<248
 ·rw[if_pos g4,if_pos g4]at hk
  refine Ab (fun _=>Ab (fun h=>by omega) fun _=>?_) fun h=>by omega
  refine Ab (fun _=>Ab (fun h=>by omega) fun _=>?_) fun h=>by omega
  exact Ab (fun _=>Ab (fun _=>hk) fun h=>by omega) fun h=>by omega
 rw[if_neg g4,if_neg g4]at hk
 repeat' first
  | exact hk
  | omega
  | refine Ab (fun _=>?_) fun _=>?_
theorem SU {R:Int} {r:Nat} {st:St} {K:Bool->St->Prop} (hR:R=(r:Int)) (hk:K (decide (A2 r)) st):CallT PR Gm [.int .i64 R] [.one (.bool)] st K:=by
 unfold A2 at hk
 refine M4 R st K (Ab (fun _=>Ab (fun h2=>Ab (fun h3=>?_) fun h3=>?_) fun h2=>?_) fun h1=>by omega)
 ·exact GQ (decide_eq_true (by omega)).symm hk
 ·exact GQ (decide_eq_decide.2 (by omega)) hk
 ·exact GQ (decide_eq_false (by omega)).symm hk
theorem TK {R:Int} {r:Nat} {st:St} {K:Int->St->Prop} (hR:R=(r:Int)) (hk:K (wid r:Nat) st):CallT PR Hf [.int .i64 R] [.one (.int .i64)] st K:=by
 unfold wid at hk
 refine Ol R st K (Ab (fun h1=>?_) fun h1=>Ab (fun h2=>?_) fun h2=>Ab (fun h3=>?_) fun h3=>?_)
 ·rw[if_pos (by omega)]at hk;exact hk
 ·rw[if_neg (by omega),if_pos (by omega)]at hk;exact hk
 ·rw[if_neg (by omega),if_neg (by omega),if_pos (by omega)]at hk;exact hk
 ·rw[if_neg (by omega),if_neg (by omega),if_neg (by omega)]at hk;exact hk
def OH (l:B8):Prop:=hdS (bt l 0)≠0/\hdS (bt l 0)<=l.length/\(∀j,1<=j->j<hdS (bt l 0)->bt l j/64=2)/\A2 (CF l (hdB (bt l 0)) (hdS (bt l 0)-1))/\wid (CF l (hdB (bt l 0)) (hdS (bt l 0)-1))=hdS (bt l 0)
theorem pd_val (l:B8) (h:l≠ []) (hp:OH l):ul l=hdS (bt l 0)/\ur l=CF l (hdB (bt l 0)) (hdS (bt l 0)-1):=by
 obtain⟨p1,p2,p3,p4,p5⟩:=hp
 have e:=Lt l h
 have h0:=E5 l 0
 have e0:(l.getD 0 0).toNat=bt l 0:=rfl
 have e1:(l.getD 1 0).toNat=bt l 1:=rfl
 have e2:(l.getD 2 0).toNat=bt l 2:=rfl
 have e3:(l.getD 3 0).toNat=bt l 3:=rfl
 have fin:∀n r,rsz (bt l 0)=n->rb0 (bt l 0)=r->n=hdS (bt l 0)->r=hdB (bt l 0)->FH (CF l r (n-1))=l.take n->ul l=hdS (bt l 0)/\ur l=CF l (hdB (bt l 0)) (hdS (bt l 0)-1):=by
  intro n r hn hr hn2 hr2 henc
  unfold SZ at e
  simp only[hn,hr]at e
  rw[if_neg (by omega),if_pos ⟨by rw[hr2,hn2];exact p4,henc⟩]at e
  by_cases hz:ul l=0
  ·rw[if_pos hz]at e;simp only[Prod.mk.injEq]at e;omega
  ·rw[if_neg hz]at e;simp only[Prod.mk.injEq]at e
   exact⟨by omega,by rw[<-hr2,<-hn2];exact e.1.symm⟩
 have h1:=E5 l 1
 have h2:=E5 l 2
 have h3:=E5 l 3
 by_cases g1:bt l 0<128
 ·have hs:hdS (bt l 0)=1:=by unfold hdS;rw[if_pos g1]
  have hb:hdB (bt l 0)=bt l 0:=by unfold hdB;rw[if_pos g1]
  refine fin 1 (bt l 0) (by unfold rsz;rw[if_neg (by omega),if_neg (by omega),if_neg (by omega)]) (by unfold rb0;rw[if_neg (by omega),if_neg (by omega),if_neg (by omega)]) hs.symm hb.symm ?_
  rw[JQ l (by omega)]
  simp only[Nat.sub_self,CF]
  unfold FH
  rw[if_pos g1]
  simp only[Dk,Da,e0,and_true]
  omega
 by_cases g2:192<=bt l 0/\bt l 0<224
 ·have hs:hdS (bt l 0)=2:=by unfold hdS;rw[if_neg g1,if_pos g2]
  have hb:hdB (bt l 0)=bt l 0%32:=by unfold hdB;rw[if_neg g1,if_pos g2]
  rw[hs]at p3 p5
  rw[hb]at p5
  have q1:=p3 1 (by omega) (by omega)
  refine fin 2 (bt l 0%32) (by unfold rsz;rw[if_neg (by omega),if_neg (by omega),if_pos (by omega)]) (by unfold rb0;rw[if_neg (by omega),if_neg (by omega),if_pos (by omega)]) hs.symm hb.symm ?_
  rw[JP l (by omega)]
  simp only[Nat.reduceSub,CF,Nat.zero_add]at p5⊢
  generalize bt l 0=b0 at*
  generalize bt l 1=b1 at*
  unfold wid at p5
  unfold FH
  by_cases k1:b0%32*64+b1%64<128
  ·rw[if_pos k1]at p5;omega
  rw[if_neg k1]at p5⊢
  by_cases k2:b0%32*64+b1%64<2048
  ·rw[if_pos k2]
   simp only[Dk,Da,e0,e1,and_true]
   omega
  ·rw[if_neg k2]at p5;split at p5<;>omega
 by_cases g3:224<=bt l 0/\bt l 0<240
 ·have hs:hdS (bt l 0)=3:=by unfold hdS;rw[if_neg g1,if_neg g2,if_pos g3]
  have hb:hdB (bt l 0)=bt l 0%16:=by unfold hdB;rw[if_neg g1,if_neg g2,if_pos g3]
  rw[hs]at p3 p5
  rw[hb]at p5
  have q1:=p3 1 (by omega) (by omega)
  have q2:=p3 2 (by omega) (by omega)
  refine fin 3 (bt l 0%16) (by unfold rsz;rw[if_neg (by omega),if_pos (by omega)]) (by unfold rb0;rw[if_neg (by omega),if_pos (by omega)]) hs.symm hb.symm ?_
  rw[G2 l (by omega)]
  simp only[Nat.reduceSub,CF,Nat.zero_add,Nat.reduceAdd]at p5⊢
  generalize bt l 0=b0 at*
  generalize bt l 1=b1 at*
  generalize bt l 2=b2 at*
  generalize hr:(b0%16*64+b1%64)*64+b2%64=r at*
  unfold wid at p5
  unfold FH
  by_cases k1:r<128
  ·rw[if_pos k1]at p5;omega
  rw[if_neg k1]at p5⊢
  by_cases k2:r<2048
  ·rw[if_pos k2]at p5;omega
  rw[if_neg k2]at p5⊢
  by_cases k3:r<65536
  ·rw[if_pos k3]
   simp only[Dk,Da,e0,e1,e2,and_true]
   omega
  ·rw[if_neg k3]at p5;omega
 by_cases g4:240<=bt l 0/\bt l 0<248
 ·have hs:hdS (bt l 0)=4:=by unfold hdS;rw[if_neg g1,if_neg g2,if_neg g3,if_pos g4]
  have hb:hdB (bt l 0)=bt l 0%8:=by unfold hdB;rw[if_neg g1,if_neg g2,if_neg g3,if_pos g4]
  rw[hs]at p3 p4 p5
  rw[hb]at p4 p5
  have q1:=p3 1 (by omega) (by omega)
  have q2:=p3 2 (by omega) (by omega)
  have q3:=p3 3 (by omega) (by omega)
  refine fin 4 (bt l 0%8) (by unfold rsz;rw[if_pos (by omega)]) (by unfold rb0;rw[if_pos (by omega)]) hs.symm hb.symm ?_
  rw[Ku l (by omega)]
  simp only[Nat.reduceSub,CF,Nat.zero_add,Nat.reduceAdd]at p4 p5⊢
  generalize bt l 0=b0 at*
  generalize bt l 1=b1 at*
  generalize bt l 2=b2 at*
  generalize bt l 3=b3 at*
  generalize hr:((b0%8*64+b1%64)*64+b2%64)*64+b3%64=r at*
  unfold wid at p5
  unfold FH
  by_cases k1:r<128
  ·rw[if_pos k1]at p5;omega
  rw[if_neg k1]at p5⊢
  by_cases k2:r<2048
  ·rw[if_pos k2]at p5;omega
  rw[if_neg k2]at p5⊢
  by_cases k3:r<65536
  ·rw[if_pos k3]at p5;omega
  rw[if_neg k3]
  have:=p4.1
  simp only[Dk,Da,e0,e1,e2,e3,and_true]
  omega
 ·exfalso
  unfold hdS at p1
  rw[if_neg g1,if_neg g2,if_neg g3,if_neg g4]at p1
  exact p1 rfl
theorem pd_iff (l:B8) (h:l≠ []):ul l≠0->OH l:=by
 intro hu
 have e:=Lt l h
 rw[if_neg hu]at e
 have h0:=E5 l 0
 have e0:(l.getD 0 0).toNat=bt l 0:=rfl
 have e1:(l.getD 1 0).toNat=bt l 1:=rfl
 have e2:(l.getD 2 0).toNat=bt l 2:=rfl
 have e3:(l.getD 3 0).toNat=bt l 3:=rfl
 have h1:=E5 l 1
 have h2:=E5 l 2
 have h3:=E5 l 3
 have hc:¬l.length<rsz (bt l 0)/\A2 (CF l (rb0 (bt l 0)) (rsz (bt l 0)-1))/\FH (CF l (rb0 (bt l 0)) (rsz (bt l 0)-1))=l.take (rsz (bt l 0)):=by
  unfold SZ at e
  simp only at e
  split at e
  ·simp only[Prod.mk.injEq]at e;omega
  ·split at e
   ·rename_i a b;exact⟨a,b⟩
   ·simp only[Prod.mk.injEq]at e;omega
 obtain⟨hl,hch,henc⟩:=hc
 by_cases g4:240<=bt l 0
 ·have r4:rsz (bt l 0)=4:=by unfold rsz;rw[if_pos g4]
  have rb:rb0 (bt l 0)=bt l 0%8:=by unfold rb0;rw[if_pos g4]
  rw[r4,rb]at henc hch
  rw[r4]at hl
  rw[Ku l (by omega)]at henc
  unfold OH hdS hdB
  simp only[Nat.reduceSub,CF,Nat.zero_add,Nat.reduceAdd]at henc hch
  generalize hb0:bt l 0=b0 at*
  generalize hb1:bt l 1=b1 at*
  generalize hb2:bt l 2=b2 at*
  generalize hb3:bt l 3=b3 at*
  have hr0:∃r,r=((b0%8*64+b1%64)*64+b2%64)*64+b3%64:=⟨_,rfl⟩
  obtain⟨r,hr⟩:=hr0
  rw[<-hr]at henc hch
  have hmax:=hch.1
  unfold FH at henc
  have hw:wid r=4/\b0=240+r/262144/\b1/64=2/\b2/64=2/\b3/64=2:=by
   unfold wid
   split at henc
   ·simp at henc
   ·split at henc
    ·simp at henc
    ·split at henc
     ·simp at henc
     ·simp only[Dk,Da,e0,e1,e2,e3,and_true]at henc
      refine⟨by rw[if_neg ‹_›,if_neg ‹_›,if_neg ‹_›],by omega,by omega,by omega,by omega⟩
  rw[if_neg (show ¬b0<128 by omega),if_neg (show ¬(192<=b0/\b0<224) by omega),if_neg (show ¬(224<=b0/\b0<240) by omega),if_pos (show 240<=b0/\b0<248 by omega),if_neg (show ¬b0<128 by omega),if_neg (show ¬(192<=b0/\b0<224) by omega),if_neg (show ¬(224<=b0/\b0<240) by omega),if_pos (show 240<=b0/\b0<248 by omega)]
  simp only[Nat.reduceSub,CF,Nat.zero_add,Nat.reduceAdd,hb1,hb2,hb3]
  rw[<-hr]
  refine⟨by omega,by omega,fun j j1 j2=>?_,hch,hw.1⟩
  have:j=1∨j=2∨j=3:=by omega
  rcases this with rfl | rfl | rfl<;>omega
 by_cases g3:224<=bt l 0
 ·have r4:rsz (bt l 0)=3:=by unfold rsz;rw[if_neg g4,if_pos g3]
  have rb:rb0 (bt l 0)=bt l 0%16:=by unfold rb0;rw[if_neg g4,if_pos g3]
  rw[r4,rb]at henc hch
  rw[r4]at hl
  rw[G2 l (by omega)]at henc
  unfold OH hdS hdB
  simp only[Nat.reduceSub,CF,Nat.zero_add,Nat.reduceAdd]at henc hch
  generalize hb0:bt l 0=b0 at*
  generalize hb1:bt l 1=b1 at*
  generalize hb2:bt l 2=b2 at*
  have hr0:∃r,r=(b0%16*64+b1%64)*64+b2%64:=⟨_,rfl⟩
  obtain⟨r,hr⟩:=hr0
  rw[<-hr]at henc hch
  unfold FH at henc
  have hw:wid r=3/\b1/64=2/\b2/64=2:=by
   unfold wid
   split at henc
   ·simp at henc
   ·split at henc
    ·simp at henc
    ·split at henc
     ·simp only[Dk,Da,e0,e1,e2,and_true]at henc
      refine⟨by rw[if_neg ‹_›,if_neg ‹_›,if_pos ‹_›],by omega,by omega⟩
     ·simp at henc
  rw[if_neg (show ¬b0<128 by omega),if_neg (show ¬(192<=b0/\b0<224) by omega),if_pos (show 224<=b0/\b0<240 by omega),if_neg (show ¬b0<128 by omega),if_neg (show ¬(192<=b0/\b0<224) by omega),if_pos (show 224<=b0/\b0<240 by omega)]
  simp only[Nat.reduceSub,CF,Nat.zero_add,Nat.reduceAdd,hb1,hb2]
  rw[<-hr]
  refine⟨by omega,by omega,fun j j1 j2=>?_,hch,hw.1⟩
  have:j=1∨j=2:=by omega
  rcases this with rfl | rfl<;>omega
 by_cases g2:192<=bt l 0
 ·have r4:rsz (bt l 0)=2:=by unfold rsz;rw[if_neg g4,if_neg g3,if_pos g2]
  have rb:rb0 (bt l 0)=bt l 0%32:=by unfold rb0;rw[if_neg g4,if_neg g3,if_pos g2]
  rw[r4,rb]at henc hch
  rw[r4]at hl
  rw[JP l (by omega)]at henc
  unfold OH hdS hdB
  simp only[Nat.reduceSub,CF,Nat.zero_add,Nat.reduceAdd]at henc hch
  generalize hb0:bt l 0=b0 at*
  generalize hb1:bt l 1=b1 at*
  have hr0:∃r,r=b0%32*64+b1%64:=⟨_,rfl⟩
  obtain⟨r,hr⟩:=hr0
  rw[<-hr]at henc hch
  unfold FH at henc
  have hw:wid r=2/\b1/64=2:=by
   unfold wid
   split at henc
   ·simp at henc
   ·split at henc
    ·simp only[Dk,Da,e0,e1,and_true]at henc
     refine⟨by rw[if_neg ‹_›,if_pos ‹_›],by omega⟩
    ·split at henc<;>simp at henc
  rw[if_neg (show ¬b0<128 by omega),if_pos (show 192<=b0/\b0<224 by omega),if_neg (show ¬b0<128 by omega),if_pos (show 192<=b0/\b0<224 by omega)]
  simp only[Nat.reduceSub,CF,Nat.zero_add,hb1]
  rw[<-hr]
  refine⟨by omega,by omega,fun j j1 j2=>?_,hch,hw.1⟩
  have:j=1:=by omega
  subst this;omega
 ·have r4:rsz (bt l 0)=1:=by unfold rsz;rw[if_neg g4,if_neg g3,if_neg g2]
  have rb:rb0 (bt l 0)=bt l 0:=by unfold rb0;rw[if_neg g4,if_neg g3,if_neg g2]
  rw[r4,rb]at henc hch
  rw[r4]at hl
  rw[JQ l (by omega)]at henc
  unfold OH hdS hdB
  simp only[Nat.sub_self,CF]at henc hch
  generalize hb0:bt l 0=b0 at*
  have hlt:b0<128:=by
   unfold FH at henc
   split at henc
   ·assumption
   ·split at henc
    ·simp at henc
    ·split at henc<;>simp at henc
  rw[if_pos hlt,if_pos hlt]
  simp only[Nat.sub_self,CF]
  refine⟨by omega,by omega,fun j j1 j2=>by omega,hch,by unfold wid;rw[if_pos hlt]⟩
theorem QU {s:B8} {I:Int} {i:Nat} {st:St} {K:Int->Int->St->Prop} (hI:I=(i:Int)) (hl:s.length<=2000000) (hi:i<=s.length) (hk:K ((rD (s.drop i)).1:Nat) ((rD (s.drop i)).2:Nat) st):
  CallT PR Gn [.str s,.int .i64 I] [.one (.int .i64),.one (.int .i64)] st K:=by
 have no:¬OH (s.drop i)->s.drop i≠ []->K 0 0 st:=fun h hne=>by
  have:ul (s.drop i)=0:=Decidable.byContradiction fun h0=>h (pd_iff _ hne h0)
  unfold rD at hk
  rw[if_pos this]at hk;exact hk
 have yes:OH (s.drop i)->s.drop i≠ []->K (CF (s.drop i) (hdB (bt (s.drop i) 0)) (hdS (bt (s.drop i) 0)-1):Nat) (hdS (bt (s.drop i) 0):Nat) st:=fun h hne=>by
  have hv:=pd_val _ hne h
  unfold rD at hk
  rw[if_neg (by rw[hv.1];exact h.1),hv.1,hv.2]at hk
  exact hk
 have hlen:(s.drop i).length=s.length-i:=by simp
 have hb:∀j,bt (s.drop i) j=(s.getD (i+j) 0).toNat:=O4 s i
 refine M5 s I st K (Ab (fun h=>by omega) fun _=>Ab (fun h=>?_) fun h=>⟨⟨by omega,by omega⟩,?_⟩)
 ·have:s.drop i=[]:=List.drop_of_length_le (by omega)
  have h0:rD (s.drop i)=(0,0):=by rw[this];simp[rD,ul]
  rw[h0]at hk;exact hk
 have hne:s.drop i≠ []:=by
  intro h0
  have:=congrArg List.length h0
  rw[hlen]at this;simp only[List.length_nil]at this;omega
 have hb0:(List.getD s (Int.toNat I) 0).toNat=bt (s.drop i) 0:=by rw[hb,hI];rfl
 have hlt:=E5 (s.drop i) 0
 rw[hb0]
 refine head_ok rfl hlt ?_
 have hsz:hdS (bt (s.drop i) 0)<=4:=by unfold hdS;(repeat' split)<;>omega
 have hbz:hdB (bt (s.drop i) 0)<256:=by unfold hdB;(repeat' split)<;>omega
 unfold OH at no yes
 generalize hdS (bt (s.drop i) 0)=n at*
 generalize hdB (bt (s.drop i) 0)=r0 at*
 rw[Am _ (by omega) (by omega)]
 refine Ab (fun g=>no (fun hh=>hh.1 (by omega)) hne) fun g1=>Ab (fun g=>no (fun hh=>by omega) hne) fun g2=>?_
 have hra:=OG (s.drop i) r0 hbz
 refine⟨fun r j s' at' sz st2=>s=s'/\I=at'/\st=st2/\((n:Nat):Int)=sz/\∃k:Nat,j=((k+1:Nat):Int)/\k+1<=n/\r=((CF (s.drop i) r0 k:Nat):Int)/\∀m,1<=m->m<=k->bt (s.drop i) m/64=2,fun _ j _ _ sz _=>(sz-j).toNat,⟨rfl,rfl,rfl,rfl,0,rfl,by omega,rfl,fun m h1 h2=>by omega⟩,?_⟩
 rintro _ _ _ _ _ _ ⟨rfl,rfl,rfl,rfl,k,rfl,hk1,rfl,hall⟩
 have hrk:=hra k
 have h64:64^k<=64^3:=Nat.pow_le_pow_right (by decide) (by omega)
 refine Ab (fun h2=>?_) fun h2=>?_
 ·rw[Am (I+((k+1:Nat):Int)) (by omega) (by omega)]
  have hbk:(List.getD s (Int.toNat (I+((k+1:Nat):Int))) 0).toNat=bt (s.drop i) (k+1):=by
   rw[hb,show Int.toNat (I+((k+1:Nat):Int))=i+(k+1) by omega]
  have hbl:=E5 (s.drop i) (k+1)
  have h192:AN .and .u8 ((bt (s.drop i) (k+1):Nat):Int) (192:Int)=((bt (s.drop i) (k+1)&&&192:Nat):Int):=Va _ 192 hbl (by decide)
  have hand:i64.wrap (AN .and .u8 ((bt (s.drop i) (k+1):Nat):Int) (63:Int))=((bt (s.drop i) (k+1)%64:Nat):Int):=by
   rw[show(63:Int)=((2^6-1:Nat):Int) by decide,IX _ 6 hbl (by decide),Am _ (by omega) (by omega)]
  have hmul:i64.wrap (((CF (s.drop i) r0 k:Nat):Int)*2^(min (Int.toNat (6:Int)) (IntKind.bits .i64)))=((CF (s.drop i) r0 k*2^6:Nat):Int):=by
   rw[show(2:Int)^(min (Int.toNat (6:Int)) (IntKind.bits .i64))=64 by decide,Am _ (by omega) (by omega)];omega
  have hc:(bt (s.drop i) (k+1)&&&192)=128↔bt (s.drop i) (k+1)/64=2:=by
   have:∀x,x<256->((x&&&192)=128↔x/64=2):=by decide+kernel
   exact this _ hbl
  refine⟨⟨by omega,by omega⟩,?_⟩
  rw[hbk,h192,hand,hmul,Ri _ _ 6 (by omega) (by omega),Am _ (by omega) (by omega)]
  refine Ab (fun h3=>no (fun hh=>h3 ?_) hne) fun h3=>?_
  ·have:=hh.2.2.1 (k+1) (by omega) (by omega)
   rw[hc.2 this];rfl
  ·have h4:bt (s.drop i) (k+1)/64=2:=hc.1 (by omega)
   refine⟨⟨rfl,rfl,rfl,rfl,k+1,by omega,by omega,by simp only[CF],fun m m1 m2=>?_⟩,by dsimp only;omega⟩
   by_cases hm:m=k+1
   ·rw[hm];exact h4
   ·exact hall m m1 (by omega)
 ·have hks:k=n-1:=by omega
  subst hks
  refine SU rfl (As (fun h3=>no (fun hh=>?_) hne) fun h3=>TK rfl (Ab (fun h4=>no (fun hh=>?_) hne) fun h4=>?_))
  ·simp only[Bool.not_eq_true',decide_eq_false_iff_not]at h3
   exact h3 hh.2.2.2.1
  ·rw[hh.2.2.2.2]at h4;exact h4 rfl
  ·simp only[Bool.not_eq_false',decide_eq_true_eq]at h3
   exact yes ⟨by omega,by omega,fun m m1 m2=>hall m m1 (by omega),h3,by omega⟩ hne
theorem uLen_ok {s:B8} {st:St} {K:Int->Int->St->Prop} (hl:s.length<=2000000) (hk:∀n:Int,K n (if DM s=s.length then 0 else 5) st):CallT PR JD [.str s] [.one (.int .i64),.one (.int .i64)] st K:=by
 have hv:=Pl s
 refine QT s st K ⟨fun n i s' st'=>s=s'/\st=st'/\∃k:Nat,i=(k:Int)/\k<=s.length/\k+DM (s.drop k)=DM s,fun _ i _ _=>(s.length-i).toNat,⟨rfl,rfl,0,rfl,by omega,by simp⟩,?_⟩
 rintro n _ _ _ ⟨rfl,rfl,k,rfl,h1,h2⟩
 refine Ab (fun g1=>QU rfl hl h1 ?_) fun g1=>?_
 ·have hle:=Pp (s.drop k)
  rw[List.length_drop]at hle
  unfold rD
  by_cases h0:ul (s.drop k)=0
  ·rw[if_pos h0]
   rw[B7 _ h0]at h2
   have:=hk 0
   rw[if_neg (by omega)]at this
   exact Ab (fun _=>this) fun h=>absurd rfl h
  ·rw[if_neg h0]
   rw[Gy _ h0,List.drop_drop]at h2
   refine Ab (fun h=>absurd h (by show ¬((ul (s.drop k):Nat):Int)=0;omega)) fun _=>?_
   have w:i64.wrap ((k:Int)+(ul (s.drop k):Nat))=((k+ul (s.drop k):Nat):Int):=by rw[Am _ (by omega) (by omega)];omega
   dsimp only
   rw[w]
   exact⟨⟨rfl,rfl,_,rfl,by omega,by omega⟩,by omega⟩
 ·rw[show s.drop k=[]from List.drop_of_length_le (by omega),LJ]at h2
  have:=hk n
  rw[if_pos (by omega)]at this
  exact this
theorem Kt {s:B8} {st:St} {K:Bool->St->Prop} (hl:s.length<=2000000) (hk:K (decide (DM s=s.length)) st):CallT PR D9 [.str s] [.one (.bool)] st K:=by
 refine Om s st K (uLen_ok hl fun n=>?_)
 by_cases h:DM s=s.length
 ·rw[if_pos h];rw[decide_eq_true h]at hk;exact hk
 ·rw[if_neg h];rw[decide_eq_false h]at hk;exact hk
theorem Oq {l:B8} {c:UInt8} (hc:c.toNat<128) (hl:l.length<=9223372036854775807) {st:St} {K:B8->St->Prop} (hk:K (Lib.trimRightB l c) st):CallT PR EI [.str l,.str [c]] [.one .str] st K:=by
 refine G1 (fun _ _=>by kernel_rfl) fun g w vargs s hr=>?_
 obtain⟨v,u,rfl,hv,hu⟩:=TT hr
 rw[Ih hv,Ih hu]
 refine Calls.mono (Tryz.strings_TrimRight_one ⟨l.toArray⟩ c hc w (by simpa [ByteArray.size]using hl)) ?_
 rintro e w' ⟨rfl,rfl⟩
 exact⟨_,rfl,.str _,st,g,hk,s,Rel.str _,Ext.refl _ _⟩
theorem LY (l:B8):(Lib.trimRightB l 48).length+GR l=l.length:=by
 unfold Lib.trimRightB GR
 have:=congrArg List.length (List.takeWhile_append_dropWhile (p:=fun x:UInt8=>x==48) (l:=l.reverse))
 rw[List.length_append,List.length_reverse]at this
 rw[List.length_reverse];omega
theorem TI {l:B8} (hl:l.length<=2000000) {st:St} {K:Int->St->Prop} (hk:K (GR l:Nat) st):CallT PR ET [.str l] [.one (.int .i64)] st K:=by
 refine Li _ st K (Oq (by decide) (by omega) ?_)
 have:=LY l
 rw[Am _ (by omega) (by omega),show((l.length:Nat):Int)-((Lib.trimRightB l 48).length:Int)=(GR l:Nat) by omega]
 exact hk
theorem QW {p:UInt8->Bool}:∀(r:B8) (n:Nat),n<=r.length->(∀j x,j<n->r[j]? =some x->p x=true)->(∀x,r[n]? =some x->p x=false)->(r.takeWhile p).length=n
 | [],n,h,_,_=>by simp at h;simp[h]
 | a::r,0,_,_,h=>by simp[List.takeWhile_cons,h a rfl]
 | a::r,n+1,h,h1,h2=>by
  rw[List.takeWhile_cons,if_pos (h1 0 a (by omega) rfl),List.length_cons,QW r n (by simpa using h) (fun j x hj hx=>h1 (j+1) x (by omega) (by simpa using hx)) (fun x hx=>h2 x (by simpa using hx))]
theorem TS (l:B8) (n:Nat) (h:n<l.length):l.reverse[n]? =some (List.getD l (l.length-1-n) 0):=by
 rw[List.getElem?_reverse h,List.getD_eq_getElem?_getD,List.getElem?_eq_getElem (by omega),Option.getD_some]
theorem SW {l:B8} (hl:l.length<=2000000) {st:St} {K:Int->St->Prop} (hk:K (GR l:Nat) st):CallT PR CY [.str l] [.one (.int .i64)] st K:=by
 refine HI l st K ⟨fun i s st'=>l=s/\st=st'/\∃n:Nat,i=n/\n<=l.length/\∀j x,j<n->l.reverse[j]? =some x->(x==48)=true,fun i _ _=>(l.length-i).toNat,⟨rfl,rfl,0,rfl,Nat.zero_le _,fun j x hj=>absurd hj (Nat.not_lt_zero _)⟩,?_⟩
 rintro _ _ _ ⟨rfl,rfl,n,rfl,hn,hall⟩
 refine Ab (fun g=>?_) fun g=>?_
 ·have hr:=TS l n (by omega)
  rw[Am ((l.length:Int)-1) (by omega) (by omega),Am _ (by omega) (by omega),show Int.toNat ((l.length:Int)-1-(n:Int))=l.length-1-n by omega]
  refine⟨⟨by omega,by omega⟩,?_⟩
  generalize List.getD l (l.length-1-n) 0=c at hr⊢
  refine Ab (fun g2=>?_) fun g2=>?_
  ·rw[Am _ (by omega) (by omega)]
   refine⟨⟨rfl,rfl,n+1,by omega,by omega,fun j x hj hx=>?_⟩,by dsimp only;omega⟩
   by_cases hjn:j=n
   ·subst hjn
    rw[hr]at hx
    rw[<-Option.some.inj hx]
    simpa [<-UInt8.toNat_inj]using (by omega:c.toNat=48)
   ·exact hall j x (by omega) hx
  ·have:GR l=n:=QW _ n (by simpa using hn) hall fun x hx=>by
    rw[hr]at hx
    rw[<-Option.some.inj hx]
    have:c≠48:=fun e=>g2 (by rw[e];rfl)
    simpa using this
   rw[<-this];exact hk
 ·have:GR l=n:=QW _ n (by simpa using hn) hall fun x hx=>by
   rw[List.getElem?_eq_none (by simp;omega)]at hx;cases hx
  rw[<-this];exact hk
theorem Qg {l:B8} {n:Nat} (h:n<l.length):List.getD l n 0∈l:=by
 rw[List.getD_eq_getElem?_getD,List.getElem?_eq_getElem h,Option.getD_some]
 exact List.getElem_mem h
theorem QM {P:UInt8->Prop} {l:B8} {n:Nat} (h:n<l.length) (h1:∀c,c∈l.take n->P c) (h2:P (List.getD l n 0)):∀c,c∈l.take (n+1)->P c:=by
 intro c hc
 rw[GK _ _ 0 h]at hc
 rcases List.mem_append.1 hc with hc | hc
 ·exact h1 c hc
 ·rw[List.mem_singleton.1 hc];exact h2
theorem all_ok {l:B8} (hl:l.length<=2000000) {st:St} {K:Bool->St->Prop} (hk:K (decide (∀c,c∈l->JB c)) st):CallT PR Gp [.str l] [.one .bool] st K:=by
 refine M7 l st K ⟨fun i s m st'=>l=s/\(l.length:Int)=m/\st=st'/\∃n:Nat,i=n/\n<=l.length/\∀c,c∈l.take n->JB c,fun i _ _ _=>(l.length-i).toNat,⟨rfl,rfl,rfl,0,rfl,Nat.zero_le _,fun c hc=>by simp at hc⟩,?_⟩
 rintro _ _ _ _ ⟨rfl,rfl,rfl,n,rfl,hn,hall⟩
 refine Ab (fun g=>?_) fun g=>?_
 ·have hm:=Qg (l:=l) (n:=n) (by omega)
  have bad:¬JB (List.getD l n 0)->K false st:=fun hb=>by
   rw[decide_eq_false fun h=>hb (h _ hm)]at hk;exact hk
  rw[Int.toNat_natCast]
  refine⟨⟨by omega,by omega⟩,Ab (fun g2=>bad (by unfold JB;omega)) fun g2=>⟨⟨by omega,by omega⟩,Ab (fun g3=>bad (by unfold JB;omega)) fun g3=>?_⟩⟩
  rw[Am _ (by omega) (by omega)]
  exact⟨⟨rfl,rfl,rfl,n+1,by omega,by omega,QM (by omega) hall (by unfold JB;omega)⟩,by dsimp only;omega⟩
 ·have:n=l.length:=by omega
  subst this
  rw[List.take_length]at hall
  rw[decide_eq_true hall]at hk;exact hk
theorem Re {l:B8} (hl:l.length<=2000000) {st:St} {K:Bool->St->Prop} (hk:K (decide (∀c,c∈l->JB c)) st):CallT PR CE [.str l] [.one .bool] st K:=by
 refine GY l st K ⟨fun i s st'=>l=s/\st=st'/\∃n:Nat,i=n/\n<=l.length/\∀c,c∈l.take n->JB c,fun i _ _=>(l.length-i).toNat,⟨rfl,rfl,0,rfl,Nat.zero_le _,fun c hc=>by simp at hc⟩,?_⟩
 rintro _ _ _ ⟨rfl,rfl,n,rfl,hn,hall⟩
 refine Ab (fun g=>?_) fun g=>?_
 ·have hm:=Qg (l:=l) (n:=n) (by omega)
  have bad:¬JB (List.getD l n 0)->K false st:=fun hb=>by
   rw[decide_eq_false fun h=>hb (h _ hm)]at hk;exact hk
  rw[Int.toNat_natCast]
  refine⟨⟨by omega,by omega⟩,Ab (fun g2=>bad (by unfold JB;omega)) fun g2=>⟨⟨by omega,by omega⟩,Ab (fun g3=>bad (by unfold JB;omega)) fun g3=>?_⟩⟩
  rw[Am _ (by omega) (by omega)]
  exact⟨⟨rfl,rfl,n+1,by omega,by omega,QM (by omega) hall (by unfold JB;omega)⟩,by dsimp only;omega⟩
 ·have:n=l.length:=by omega
  subst this
  rw[List.take_length]at hall
  rw[decide_eq_true hall]at hk;exact hk
def Ki (l:B8):Prop:=l.length<=600/\(∀c,c∈l->JB c)/\(l≠ []->l.getD 0 0≠48)
instance (l:B8):Decidable (Ki l):=inferInstanceAs (Decidable (_/\_/\(_->_)))
theorem ne48 (c:UInt8):decide ((c.toNat:Int)≠48)=decide (c≠48):=by
 have:((c.toNat:Int)≠48)↔c≠48:=by rw[ne_eq,ne_eq,<-UInt8.toNat_inj];exact not_congr ⟨fun h=>Int.ofNat.inj h,fun h=>by rw[h];rfl⟩
 exact decide_eq_decide.2 this
theorem Ts {l:B8} (hl:l.length<=2000000) {st:St} {K:Bool->St->Prop} (hk:K (decide (Ki l)) st):CallT PR EU [.str l] [.one .bool] st K:=by
 have no:¬Ki l->K false st:=fun h=>by rw[decide_eq_false h]at hk;exact hk
 refine Lj l st K (Ab (fun g=>all_ok hl (Ab (fun g2=>Ab (fun g3=>?_) fun g3=>⟨⟨by omega,by have:=List.length_pos_iff.2 g3;omega⟩,?_⟩) fun g2=>no fun h=>g2 h.2.1)) fun g=>no fun h=>g (by have:=h.1;omega))
 ·rw[decide_eq_true (show Ki l from⟨by omega,g2,fun h=>absurd g3 h⟩)]at hk;exact hk
 ·rw[ne48]
  refine GQ (decide_eq_decide.2 ?_) hk
  exact⟨fun h=>⟨by omega,g2,fun _=>h⟩,fun h=>h.2.2 g3⟩
theorem rNum_ok {l:B8} (hl:l.length<=2000000) {st:St} {K:Bool->St->Prop} (hk:K (decide (Ki l)) st):CallT PR CZ [.str l] [.one .bool] st K:=by
 have no:¬Ki l->K false st:=fun h=>by rw[decide_eq_false h]at hk;exact hk
 refine HJ l st K (Ab (fun g=>Re hl (Ab (fun g2=>Ab (fun g3=>?_) fun g3=>⟨⟨by omega,by omega⟩,?_⟩) fun g2=>no fun h=>g2 h.2.1)) fun g=>no fun h=>g (by have:=h.1;omega))
 ·rw[decide_eq_true (show Ki l from⟨by omega,g2,fun h=>absurd (List.eq_nil_of_length_eq_zero (by omega)) h⟩)]at hk;exact hk
 ·rw[ne48]
  refine GQ (decide_eq_decide.2 ?_) hk
  exact⟨fun h=>⟨by omega,g2,fun _=>h⟩,fun h=>h.2.2 fun e=>g3 (by rw[e];rfl)⟩
theorem CL {neg:Bool} {l:B8} {ex:Int} (h:l≠ []):D5 neg l ex↔Ki l/\l.length<=120/\GR l=0/\ -400<=ex/\ex<=400:=by
 unfold D5 Ki
 constructor
 ·intro g
  obtain⟨g1,g2,g3,g4,g5,g6⟩:=g.2 h
  exact⟨⟨by omega,g2,fun _=>g3⟩,g1,g4,g5,g6⟩
 ·rintro⟨⟨g1,g2,g3⟩,g4,g5,g6,g7⟩
  exact⟨fun e=>absurd e h,fun _=>⟨g4,g2,g3 h,g5,g6,g7⟩⟩
theorem IS {neg:Bool} {ex:Int}:D5 neg [] ex↔neg=false/\ex=0:=by
 unfold D5
 exact⟨fun g=>g.1 rfl,fun g=>⟨fun _=>g,fun h=>absurd rfl h⟩⟩
theorem Qt {neg:Bool} {l:B8} {ex:Int} (hl:l.length<=2000000) {st:St} {K:Bool->St->Prop} (hk:K (decide (D5 neg l ex)) st):CallT PR Es [.agg [.bool neg,.str l,.int .i64 ex]] [.one .bool] st K:=by
 have no:¬D5 neg l ex->K false st:=fun h=>by rw[decide_eq_false h]at hk;exact hk
 refine Kq _ _ _ st K (Ab (fun g=>?_) fun g=>?_)
 ·subst g
  refine GQ ?_ hk
  rw[Bool.eq_iff_iff]
  simp[IS]
 ·refine Ts hl (Ab (fun g2=>Ab (fun g3=>TI hl (Ab (fun g4=>Ab (fun g5=>?_) fun g5=>?_) fun g4=>?_)) fun g3=>?_) fun g2=>?_)
  ·exact GQ (decide_eq_decide.2 (by rw[CL g];exact⟨fun h=>⟨g2,by omega,by omega,g5,h⟩,fun h=>h.2.2.2.2⟩)) hk
  ·exact no fun h=>g5 ((CL g).1 h).2.2.2.1
  ·exact no fun h=>g4 (by have:=((CL g).1 h).2.2.1;omega)
  ·exact no fun h=>g3 (by have:=((CL g).1 h).2.1;omega)
  ·exact no fun h=>g2 ((CL g).1 h).1
theorem rDec_ok {neg:Bool} {l:B8} {ex:Int} (hl:l.length<=2000000) {st:St} {K:Bool->St->Prop} (hk:K (decide (D5 neg l ex)) st):CallT PR CX [.agg [.bool neg,.str l,.int .i64 ex]] [.one .bool] st K:=by
 have no:¬D5 neg l ex->K false st:=fun h=>by rw[decide_eq_false h]at hk;exact hk
 refine HH _ _ _ st K (Ab (fun g=>?_) fun g=>?_)
 ·subst g
  cases neg
  ·exact GQ (by rw[Bool.eq_iff_iff];simp[IS]) hk
  ·exact GQ (by rw[Bool.eq_iff_iff];simp[IS]) hk
 ·refine Ab (fun g3=>rNum_ok hl (Ab (fun g2=>SW hl (Ab (fun g4=>Ab (fun g5=>?_) fun g5=>?_) fun g4=>?_)) fun g2=>?_)) fun g3=>?_
  ·exact GQ (decide_eq_decide.2 (by rw[CL g];exact⟨fun h=>⟨g2,by omega,by omega,g5,h⟩,fun h=>h.2.2.2.2⟩)) hk
  ·exact no fun h=>g5 ((CL g).1 h).2.2.2.1
  ·exact no fun h=>g4 (by have:=((CL g).1 h).2.2.1;omega)
  ·exact no fun h=>g2 ((CL g).1 h).1
  ·exact no fun h=>g3 (by have:=((CL g).1 h).2.1;omega)
theorem Os {k d n z:Int} {st:St} {K:Bool->St->Prop} (hk:K (decide (DJ k d n z)) st):CallT PR DS [.agg [.int .i64 k,.int .i64 d,.int .i64 n,.int .i64 z]] [.one .bool] st K:=by
 refine Lh _ _ _ _ st K ?_
 repeat' first
  | exact GQ (Eq.symm (decide_eq_false (by unfold DJ;omega))) hk
  | exact GQ (Eq.symm (decide_eq_true (by unfold DJ;omega))) hk
  | exact GQ (decide_eq_decide.2 (by unfold DJ;omega)) hk
  | refine Ab (fun _=>?_) fun _=>?_
theorem US {k:Int} {st:St} {K:Bool->St->Prop} (hk:K (decide (k=1∨k=3∨k=4)) st):CallT PR CV [.int .i64 k] [.one .bool] st K:=by
 refine HE _ st K ?_
 repeat' first
  | exact GQ (Eq.symm (decide_eq_true (by omega))) hk
  | exact GQ (decide_eq_decide.2 (by omega)) hk
  | refine Ab (fun _=>?_) fun _=>?_
theorem RJ {k:Int} {st:St} {K:Bool->St->Prop} (hk:K (decide (k=2∨k=3∨k=4)) st):CallT PR Bw [.int .i64 k] [.one .bool] st K:=by
 refine Gz _ st K ?_
 repeat' first
  | exact GQ (Eq.symm (decide_eq_true (by omega))) hk
  | exact GQ (decide_eq_decide.2 (by omega)) hk
  | refine Ab (fun _=>?_) fun _=>?_
theorem TX {k d n z:Int} {st:St} {K:Bool->St->Prop} (hk:K (decide (DJ k d n z)) st):CallT PR CW [.agg [.int .i64 k,.int .i64 d,.int .i64 n,.int .i64 z]] [.one .bool] st K:=by
 refine HF _ _ _ _ st K ?_
 repeat' first
  | exact GQ (Eq.symm (decide_eq_false (by unfold DJ;omega))) hk
  | exact GQ (Eq.symm (decide_eq_true (by unfold DJ;omega))) hk
  | exact GQ (decide_eq_decide.2 (by unfold DJ;omega)) hk
  | refine Ab (fun _=>?_) fun _=>?_
  | refine US ?_
  | refine RJ ?_
theorem orc {c p r:Bool} {K:Bool->Prop} {R1 R2:Prop} (h1:K r->R1) (h2:K r->R2) (hk:K ((c&&p) || r)):BIf c (BIf p (K true) R1) R2:=by
 cases c<;>cases p<;>simp only[Bool.true_and,Bool.false_and,Bool.true_or,Bool.false_or]at hk<;>first | exact h1 hk | exact h2 hk | exact hk
theorem orn {c p r s:Bool} {K:Bool->Prop} {R1 R2:Prop} (hs:s=true) (h1:K r->R1) (h2:K r->R2) (hk:K ((c&&p) || r)):BIf c (need s (BIf p (K true) R1)) R2:=by
 subst hs;exact orc h1 h2 hk
theorem ore {c p s:Bool} {K:Bool->Prop} (hs:s=true) (hk:K (c&&p)):BIf c (need s (K p)) (K false):=by
 subst hs;cases c<;>exact hk
def exB (s:Sc) (l:List Vl) (f:List Fd):Bool:=
 (decide (s.kind≠1)&&s.b) || ((decide (s.kind≠2)&& !((s.neg==false)&&(decide (s.dg=[])&&(decide (s.ex=0)&&true)))) || ((decide (s.kind≠3)&& !(decide (s.tk=0)&&(decide (s.td=0)&&(decide (s.tn=0)&&(decide (s.tz=0)&&true))))) ||
  ((decide (s.kind≠4)&&decide (s.text≠ [])) || ((decide (s.kind≠5)&&decide (0<(s.bytes.length:Int))) || ((decide (s.kind≠6)&&decide (0<(l.length:Int))) || (decide (s.kind≠7)&&decide (0<(f.length:Int))))))))
theorem Ul {α:Type} {l:List α}:¬0<(l.length:Int)↔l=[]:=by
 rw[<-List.length_eq_zero_iff];omega
theorem N0 {s:Sc} {l:List Vl} {f:List Fd} (h0:0<=s.kind) (h7:s.kind<=7):exB s l f=false↔GO s l f:=by
 unfold exB
 simp only[Bool.or_eq_false_iff,Bool.and_eq_false_imp,decide_eq_true_eq,Bool.not_eq_false',Bool.and_eq_true,beq_iff_eq,decide_eq_false_iff_not,Ul,ne_eq,Decidable.not_not,and_true]
 constructor
 ·rintro⟨a,b,c,d,e,f,g⟩;exact⟨h0,h7,a,b,c,d,e,f,g⟩
 ·rintro⟨_,_,a,b,c,d,e,f,g⟩;exact⟨a,b,c,d,e,f,g⟩
theorem exB_eq {s:Sc} {l:List Vl} {f:List Fd} (h0:0<=s.kind) (h7:s.kind<=7):exB s l f= !decide (GO s l f):=by
 cases h:exB s l f with
 | false=>rw[decide_eq_true ((N0 h0 h7).1 h)];rfl
 | true=>rw[decide_eq_false fun o=>by rw[(N0 h0 h7).2 o]at h;cases h];rfl
theorem UH {s:Sc} {l:List Vl} {f:List Fd} {ub ul uf:TV} {st:St} {K:Bool->St->Prop} (h1:isSl ub=true) (h2:isSl ul=true) (h3:isSl uf=true) (l1:lenS ub=s.bytes.length) (l2:lenS ul=l.length) (l3:lenS uf=f.length) (hk:K (exB s l f) st):
  CallT PR FE [.agg (Aq s ub ul uf)] [.one .bool] st K:=by
 unfold exB at hk
 refine LM _ _ _ _ _ _ _ _ _ _ _ _ _ st K ?_
 rw[l1,l2,l3]
 revert hk
 repeat' first
  | (refine fun hk=>ore (K:=fun b=>K b st) h3 hk)
  | (refine fun hk=>orn (K:=fun b=>K b st) h1 ?_ ?_ hk)
  | (refine fun hk=>orn (K:=fun b=>K b st) h2 ?_ ?_ hk)
  | (refine fun hk=>orc (K:=fun b=>K b st) ?_ ?_ hk)
theorem oac {c p r:Bool} {K:Bool->Prop} {R1 R2:Prop} (h1:K r->R1) (h2:K r->R2) (hk:K (!(c&&p)&&r)):BIf c (BIf p (K false) R1) R2:=by
 cases c<;>cases p<;>simp only[Bool.true_and,Bool.false_and,Bool.not_true,Bool.not_false]at hk<;>first | exact h1 hk | exact h2 hk | exact hk
theorem oaf {c r:Bool} {K:Bool->Prop} {R:Prop} (h:K r->R) (hk:K (!c&&r)):BIf c (K false) R:=by
 cases c<;>simp only[Bool.true_and,Bool.false_and,Bool.not_true,Bool.not_false]at hk<;>first | exact h hk | exact hk
theorem oab {c p r:Bool} {K:Bool->Prop} {R1 R2:Prop} (h1:K r->R1) (h2:K r->R2) (hk:K ((c || p)&&r)):BIf c R1 (BIf p R2 (K false)):=by
 cases c<;>cases p<;>simp only[Bool.true_and,Bool.false_and,Bool.or_true,Bool.or_false,Bool.true_or,Bool.false_or]at hk<;>first | exact h1 hk | exact h2 hk | exact hk
theorem oan {c p r s:Bool} {K:Bool->Prop} {R1 R2:Prop} (hs:s=true) (h1:K r->R1) (h2:K r->R2) (hk:K ((c || p)&&r)):BIf c R1 (need s (BIf p R2 (K false))):=by
 subst hs;exact oab h1 h2 hk
theorem oae {c p s:Bool} {K:Bool->Prop} (hs:s=true) (hk:K (c || p)):BIf c (K true) (need s (K p)):=by
 subst hs;cases c<;>exact hk
def owB (s:Sc) (l:List Vl) (f:List Fd):Bool:=
 !decide (s.kind<0)&&(!decide (7<s.kind)&&(!(decide (s.kind≠1)&&s.b)&&(!(decide (s.kind≠2)&& !((s.neg==false)&&(decide (s.dg=[])&&(decide (s.ex=0)&&true))))&&(!(decide (s.kind≠3)&& !(decide (s.tk=0)&&(decide (s.td=0)&&(decide (s.tn=0)&&(decide (s.tz=0)&&true)))))&&
  ((decide (s.kind=4) || decide (s.text=[]))&&((decide (s.kind=5) || decide ((s.bytes.length:Int)=0))&&((decide (s.kind=6) || decide ((l.length:Int)=0))&&(decide (s.kind=7) || decide ((f.length:Int)=0)))))))))
theorem Td {α:Type} {l:List α}:(l.length:Int)=0↔l=[]:=by
 rw[<-List.length_eq_zero_iff];omega
theorem T6 {s:Sc} {l:List Vl} {f:List Fd}:owB s l f=true↔GO s l f:=by
 unfold owB
 simp only[Bool.and_eq_true,Bool.not_eq_true',Bool.or_eq_true,Bool.and_eq_false_imp,decide_eq_true_eq,Bool.not_eq_false',beq_iff_eq,decide_eq_false_iff_not,Td,ne_eq,and_true,Int.not_lt]
 constructor
 ·rintro⟨h0,h7,a,b,c,d,e,f,g⟩
  exact⟨h0,h7,a,b,c,fun h=>d.resolve_left h,fun h=>e.resolve_left h,fun h=>f.resolve_left h,fun h=>g.resolve_left h⟩
 ·rintro⟨h0,h7,a,b,c,d,e,f,g⟩
  exact⟨h0,h7,a,b,c,Decidable.or_iff_not_imp_left.2 d,Decidable.or_iff_not_imp_left.2 e,Decidable.or_iff_not_imp_left.2 f,Decidable.or_iff_not_imp_left.2 g⟩
theorem owB_eq {s:Sc} {l:List Vl} {f:List Fd}:owB s l f=decide (GO s l f):=by
 rw[Bool.eq_iff_iff,decide_eq_true_eq];exact T6
theorem own_ok {s:Sc} {l:List Vl} {f:List Fd} {ub ul uf:TV} {st:St} {K:Bool->St->Prop} (h1:isSl ub=true) (h2:isSl ul=true) (h3:isSl uf=true) (l1:lenS ub=s.bytes.length) (l2:lenS ul=l.length) (l3:lenS uf=f.length) (hk:K (decide (GO s l f)) st):
  CallT PR DG [.agg (Aq s ub ul uf)] [.one .bool] st K:=by
 rw[<-owB_eq]at hk
 unfold owB at hk
 refine I0 _ _ _ _ _ _ _ _ _ _ _ _ _ st K ?_
 rw[l1,l2,l3]
 revert hk
 repeat' first
  | (refine fun hk=>oae (K:=fun b=>K b st) h3 hk)
  | (refine fun hk=>oan (K:=fun b=>K b st) h1 ?_ ?_ hk)
  | (refine fun hk=>oan (K:=fun b=>K b st) h2 ?_ ?_ hk)
  | (refine fun hk=>oab (K:=fun b=>K b st) ?_ ?_ hk)
  | (refine fun hk=>oac (K:=fun b=>K b st) ?_ ?_ hk)
  | (refine fun hk=>oaf (K:=fun b=>K b st) ?_ hk)
theorem key_ok {s:B8} (hl:s.length<=2000000) {st:St} {K:Int->St->Prop} (hk:K ((if U8 s then(if 1024<s.length then 10 else 0)else 5:Nat):Int) st):CallT PR He [.str s] [.one (.int .i64)] st K:=by
 refine Ok _ st K (Kt hl (As (fun g=>?_) fun g=>?_))
 ·have hu:¬U8 s:=by unfold U8;simpa using g
  rw[if_neg hu]at hk;exact hk
 ·have hu:U8 s:=by unfold U8;simpa using g
  rw[if_pos hu]at hk
  refine Ab (fun g2=>?_) fun g2=>?_
  ·have h3:1024<s.length:=by omega
   rw[if_pos h3]at hk;exact hk
  ·have h3:¬1024<s.length:=by omega
   rw[if_neg h3]at hk;exact hk
theorem JE (k k':B8) (v:TV):∀es:List (B8×TV),Av k (Gh k' v es)=if k=k' then some v else Av k es
 | []=>by
  simp only[Gh,Av]
  by_cases h:k=k'<;>simp[h]
 | (k1,v1)::es=>by
  simp only[Gh]
  by_cases h1:k'=k1
  ·simp only[h1,decide_true,Av]
   by_cases h:k=k1<;>simp[h]
  ·simp only[h1,decide_false,Av,JE k k' v es]
   by_cases h:k=k1
   ·simp[h,Ne.symm h1]
   ·simp[h]
def MapN (es:List (B8×TV)) (ns:List B8):Prop:=∀t,Av t es=if t∈ns then some (.bool true)else none
theorem MapN.add {es:List (B8×TV)} {ns:List B8} (h:MapN es ns) (t:B8):MapN (Gh t (.bool true) es) (t::ns):=by
 intro k
 rw[JE]
 by_cases hk:k=t
 ·simp[hk]
 ·rw[if_neg hk,h k];simp[hk]
theorem Hb (seen:List B8) (d:Fd) (r:List Fd):Cq seen (d::r)=if U8 d.key then(if 1024<d.key.length then 10 else if d.key∈seen then 8 else Cq (d.key::seen) r)else 5:=rfl
theorem K8:∀(f:List Fd) (s s':List B8),(∀x,x∈s↔x∈s')->Cq s f=Cq s' f
 | [],s,s',_=>rfl
 | d::r,s,s',h=>by
  rw[Hb,Hb,K8 r (d.key::s) (d.key::s') (fun x=>by simp[h x])]
  by_cases hd:d.key∈s
  ·rw[if_pos hd,if_pos ((h _).1 hd)]
  ·rw[if_neg hd,if_neg fun g=>hd ((h _).2 g)]
theorem Bt {α:Type} {l:List α} {k:Nat} {x:α} (h:l[k]? =some x):l.drop k=x::l.drop (k+1):=by
 obtain⟨q1,q2⟩:=List.getElem?_eq_some_iff.1 h
 rw[List.drop_eq_getElem_cons q1,q2]
theorem Sn {f:List Fd} {d:Fd} (h:d∈f):d.key.length<=Bv f:=by
 have:=Ip h
 cases d;unfold Fd.sz at this;simp only[Fd.key];omega
theorem keys_ok {st0 st:St} {uf:TV} {xf:List TV} {f:List Fd} (hke:Bm st0 st) (h4:SlR st0 14 uf f.length xf) (h5:FsR st0 f xf) (hN:Bv f<=2000000) {K:Int->St->Prop} (hk:∀st',Aj st st'->K (Cq [] f:Nat) st'):
  CallT PR Gk [uf] [.one (.int .i64)] st K:=by
 have hfl:=Bq f
 refine MX _ st K (Aa h4.isSl ⟨fun i m u n st'=> .map st.nb=m/\uf=u/\(f.length:Int)=n/\∃(k:Nat) (ns:List B8) (es:List (B8×TV)),i=k/\k<=f.length/\Aj st st'/\st.nb<st'.nb/\st'.box st.nb= .map es/\MapN es ns/\Cq [] f=Cq ns (f.drop k),fun i _ _ _ _=>(f.length-i).toNat,
  ⟨rfl,rfl,by rw[h4.lenS],0,[],[],rfl,Nat.zero_le _,(Aj.refl st).push _ _,by simp[St.push],by simp[St.push],fun t=>by simp[Av],rfl⟩,?_⟩)
 rintro _ _ _ _ st1 ⟨rfl,rfl,rfl,k,ns,es,rfl,hkf,e1,hb,hm,hns,hE⟩
 refine Ab (fun g=>?_) fun g=>?_
 ·refine el14 (hke.trans e1.keeps) h4 h5 rfl (by omega) fun key s' l' f' ub1 ul1 uf1 gw hw on=>Aa on ?_
  have hmem:=FA gw
  have hkl:=Sn hmem
  rw[Bt gw,Hb]at hE
  change Cq [] f=if U8 key then(if 1024<key.length then 10 else if key∈ns then 8 else Cq (key::ns) (f.drop (k+1)))else 5 at hE
  change key.length<=_ at hkl
  refine key_ok (by omega) ?_
  by_cases g1:U8 key
  case neg=>
   rw[if_neg g1]at hE⊢
   refine Ab (fun _=>?_) fun h=>absurd (by decide) h
   rw[<-hE];exact hk st1 e1
  rw[if_pos g1]at hE⊢
  by_cases g2:1024<key.length
  ·rw[if_pos g2]at hE⊢
   refine Ab (fun _=>?_) fun h=>absurd (by decide) h
   rw[<-hE];exact hk st1 e1
  rw[if_neg g2]at hE⊢
  refine Ab (fun h=>absurd rfl h) fun _=>Ad (x:=es) (by simp only[ED,hm]) ?_
  rw[hns key]
  by_cases g3:key∈ns
  ·rw[if_pos g3]at hE⊢
   refine GM (As (fun _=>?_) fun h=>by cases h)
   have:=hk st1 e1
   rw[hE]at this;exact this
  ·rw[if_neg g3]at hE⊢
   refine GM (As (fun h=>by cases h) fun _=>⟨es,hm,?_⟩)
   rw[Am _ (by omega) (by omega)]
   exact⟨⟨rfl,rfl,rfl,k+1,key::ns,_,by omega,by omega,StX.ext e1 (StX.put (S:=fun i=>i=st.nb) rfl _) (fun i hi=>by rw[hi];exact Nat.le_refl _),hb,by simp[St.put],hns.add key,hE⟩,by dsimp only;omega⟩
 ·have:k=f.length:=by omega
  subst this
  rw[List.drop_length]at hE
  have:=hk st1 e1
  rw[hE]at this;exact this
theorem Keys_ok {st0 st:St} {uf:TV} {xf:List TV} {f:List Fd} (hke:Bm st0 st) (h4:SlR st0 14 uf f.length xf) (h5:FsR st0 f xf) (hN:Bv f<=2000000) {K:Int->St->Prop} (hk:∀st',Aj st st'->K (Cq [] f:Nat) st'):
  CallT PR Br [uf] [.one (.int .i64)] st K:=by
 have hfl:=Bq f
 refine HY _ st K ⟨fun i u st'=>uf=u/\∃k:Nat,i=k/\k<=f.length/\Aj st st'/\Cq [] f=Cq ((f.take k).map Fd.key) (f.drop k),fun i _ _=>(f.length-i).toNat,⟨rfl,0,rfl,Nat.zero_le _,Aj.refl _,rfl⟩,?_⟩
 rintro _ _ st1 ⟨rfl,k,rfl,hkf,e1,hE⟩
 refine Aa h4.isSl (Ab (fun g=>?_) fun g=>?_)
 ·rw[h4.lenS]at g
  have gd:f[k]? =some f[k]:=List.getElem?_eq_getElem (by omega)
  generalize f[k]=d at gd
  have hkl:=Sn (FA gd)
  rw[Bt gd,Hb]at hE
  refine K9 (hke.trans e1.keeps) h4 h5 rfl gd (KC (by omega) fun st2 e2=>?_)
  have e12:=e1.trans e2
  by_cases g1:U8 d.key
  case neg=>
   rw[if_neg g1]at hE
   refine As (fun _=>?_) fun h=>absurd (by unfold U8;simpa using h) g1
   have:=hk st2 e12
   rw[hE]at this;exact this
  rw[if_pos g1]at hE
  refine As (fun h=>absurd g1 (by unfold U8;simpa using h)) fun _=>K9 (hke.trans e12.keeps) h4 h5 rfl gd ?_
  by_cases g2:1024<d.key.length
  ·rw[if_pos g2]at hE
   refine Ab (fun _=>?_) fun h=>absurd (by omega) h
   have:=hk st2 e12
   rw[hE]at this;exact this
  rw[if_neg g2]at hE
  refine Ab (fun h=>absurd (by omega) g2) fun _=>?_
  refine⟨fun i u j st'=>uf=u/\j=(k:Int)/\st2=st'/\∃q:Nat,i=q/\q<=k/\∀(j:Nat) (x:Fd),j<q->f[j]? =some x->x.key≠d.key,fun i _ _ _=>(k-i).toNat,⟨rfl,rfl,rfl,0,rfl,Nat.zero_le _,fun j x hj=>absurd hj (Nat.not_lt_zero _)⟩,?_⟩
  rintro _ _ _ _ ⟨rfl,rfl,rfl,q,rfl,hq,hne⟩
  refine Ab (fun g3=>?_) fun g3=>?_
  ·have gx:f[q]? =some f[q]:=List.getElem?_eq_getElem (by omega)
   generalize f[q]=x at gx
   refine K9 (hke.trans e12.keeps) h4 h5 rfl gx (K9 (hke.trans e12.keeps) h4 h5 rfl gd (Ab (fun g4=>?_) fun g4=>?_))
   ·rw[if_pos]at hE
    ·have:=hk st2 e12
     rw[hE]at this;exact this
    ·rw[<-g4]
     refine List.mem_map_of_mem ?_
     have:(f.take k)[q]? =some x:=by rw[List.getElem?_take,if_pos (by omega)];exact gx
     exact FA this
   ·rw[Am _ (by omega) (by omega)]
    refine⟨⟨rfl,rfl,rfl,q+1,by omega,by omega,fun j y hj hy=>?_⟩,by dsimp only;omega⟩
    by_cases hjq:j=q
    ·subst hjq
     rw[gx]at hy
     rw[<-Option.some.inj hy];exact g4
    ·exact hne j y (by omega) hy
  ·have hqk:q=k:=by omega
   subst hqk
   rw[if_neg]at hE
   ·rw[Am _ (by omega) (by omega)]
    refine⟨⟨rfl,q+1,by omega,by omega,e12,?_⟩,by dsimp only;omega⟩
    rw[hE]
    refine K8 _ _ _ fun x=>?_
    rw[Dq gd]
    simp[or_comm]
   ·intro hm
    obtain⟨x,hx,he⟩:=List.mem_map.1 hm
    obtain⟨j,hj⟩:=List.getElem?_of_mem hx
    rw[List.getElem?_take]at hj
    split at hj
    ·rename_i hlt
     exact hne j x hlt hj he
    ·cases hj
 ·rw[h4.lenS]at g
  have:k=f.length:=by omega
  subst this
  rw[List.drop_length]at hE
  have:=hk st1 e1
  rw[hE]at this;exact this
theorem Bm.stx {b:Nat} {a c d:St} (h:Bm a c) (k:StX (fun i=>i=b) c d) (hb:a.nb<=b):Bm a d:=
 ⟨Nat.le_trans h.1 k.nb,fun i hi=>(k.box i (Nat.lt_of_lt_of_le hi h.1) (by omega)).trans (h.2 i hi)⟩
theorem O1 {d n:Nat} {s:Sc} {l:List Vl} {f:List Fd} (h1:¬48<d) (h2:¬65536<=n) (h3:DC s l f=0):Cg d n (.mk s l f)=Fx (Bu (d+1) (n+1) l) fun m=>BO (d+1) m f:=by
 unfold Cg;rw[if_neg h1,if_neg h2,if_neg (fun h=>h h3)]
theorem MN {d n:Nat} {s:Sc} {l:List Vl} {f:List Fd} (h1:¬48<d) (h2:¬65536<=n) (h3:DC s l f≠0):Cg d n (.mk s l f)=(n,DC s l f):=by
 unfold Cg;rw[if_neg h1,if_neg h2,if_pos h3]
theorem Hl (d n:Nat) (v:Vl) (r:List Vl):Bu d n (v::r)=Fx (Cg d n v) fun m=>Bu d m r:=by rw[Bu]
theorem MP (d n:Nat) (k:B8) (v:Vl) (r:List Fd):BO d n (.mk k v::r)=Fx (Cg d n v) fun m=>BO d m r:=by rw[BO,Kg]
theorem QS:U8 []:=by unfold U8;rw[LJ];rfl
theorem U0:∀(N:Nat) (v:Vl),v.sz<=N->N<=2000000->∀{st0 st:St} {cs:List TV} {b d n:Nat} {D:Int} {K:Int->St->Prop},VlR st0 v cs->Bm st0 st->st0.nb<=b->b<st.nb->st.box b= .cells [.int .i64 (n:Nat)]->n<=65536->D=(d:Int)->d<=100->
  (∀st' (m:Nat),StX (fun i=>i=b) st st'->st'.box b= .cells [.int .i64 (m:Nat)]->((Cg d n v).2=0->m=(Cg d n v).1/\m<=65536)->K ((Cg d n v).2:Nat) st')->CallT PR De [.agg cs,.int .i64 D,.box b 0] [.one (.int .i64)] st K:=by
 intro N
 induction N with
 | zero=>intro v h;have:=v.sz_pos;omega
 | succ N ih=>
 intro v hN hN2 st0 st cs b d n D K h hke hb0 hb hbx hn hD hd hk
 subst hD
 cases v with
 | mk s l f=>
 have hsz:(Vl.mk s l f).sz=1+s.bytes.length+s.text.length+s.dg.length+BB l+Bv f:=by unfold Vl.sz;rfl
 have hll:=Cn l
 have hfl:=Bq f
 unfold VlR at h
 obtain⟨ub,ul,uf,xl,xf,rfl,h1,h2,h3,h4,h5⟩:=h
 refine LN _ _ _ _ _ _ _ _ _ _ _ _ _ (d:Int) b st K ?_
 refine Ad (x:= .int .i64 (n:Nat)) (by simp[Ac,hbx]) (AV ?_)
 rw[Am _ (by omega) (by omega)]
 refine⟨_,hbx,by simp,?_⟩
 obtain⟨st1,hst1⟩:∃st1,st1=st.put b (.cells (setAll [.int .i64 (n:Nat)] 0 [.int .i64 ((n:Int)+1)])):=⟨_,rfl⟩
 rw[<-hst1]
 have e1:StX (fun i=>i=b) st st1:=by rw[hst1];exact StX.put (S:=fun i=>i=b) rfl _
 have hb1:st1.box b= .cells [.int .i64 ((n+1:Nat):Int)]:=by rw[hst1];simp[St.put,setAll]
 have hke1:=hke.stx e1 hb0
 refine⟨fun dp p kd bo ng dg ex tk td tn tz tx u1 u2 u3 st'=>dp=d/\p= .box b 0/\ul=u2/\uf=u3/\¬48<d/\¬65536<=n/\DC s l f=Cq [] f/\StX (fun i=>i=b) st st'/\st'.box b= .cells [.int .i64 ((n+1:Nat):Int)],?_,?_⟩
 ·--the value but for the values in it
  refine Ab (fun g=>?_) fun g=>?_
  ·have hc:Cg d n (.mk s l f)=(n,9):=by unfold Cg;rw[if_pos (by omega)]
   have:=hk st1 (n+1) e1 hb1 (by rw[hc];intro h;cases h)
   rw[hc]at this;exact this
  refine Ad (x:= .int .i64 ((n+1:Nat):Int)) (by simp[Ac,hb1]) (AV (Ab (fun g2=>?_) fun g2=>?_))
  ·have hc:Cg d n (.mk s l f)=(n,10):=by unfold Cg;rw[if_neg (by omega),if_pos (by omega)]
   have:=hk st1 (n+1) e1 hb1 (by rw[hc];intro h;cases h)
   rw[hc]at this;exact this
  have hg1:¬48<d:=by omega
  have hg2:¬65536<=n:=by omega
  --an error of the value itself
  have err:∀st',StX (fun i=>i=b) st st'->st'.box b= .cells [.int .i64 ((n+1:Nat):Int)]->DC s l f≠0->K ((DC s l f:Nat):Int) st':=fun st' e' hb' ho=>by
   have hc:=MN hg1 hg2 ho
   have:=hk st' (n+1) e' hb' (by rw[hc];intro h;exact absurd h ho)
   rw[hc]at this;exact this
  refine⟨fun q dp p kd bo ng dg ex tk td tn tz tx u1 u2 u3 st'=>dp=d/\p= .box b 0/\kd=s.kind/\ng=s.neg/\dg=s.dg/\ex=s.ex/\tk=s.tk/\td=s.td/\tn=s.tn/\tz=s.tz/\tx=s.text/\ub=u1/\ul=u2/\uf=u3/\q= !decide (GO s l f)/\st1=st',?_,?_⟩
  ·refine Ab (fun g3=>?_) fun g3=>Ab (fun g4=>?_) fun g4=>?_
   ·exact⟨rfl,rfl,rfl,rfl,rfl,rfl,rfl,rfl,rfl,rfl,rfl,rfl,rfl,rfl,by rw[decide_eq_false fun o=>by have:=o.k0;omega];rfl,rfl⟩
   ·exact⟨rfl,rfl,rfl,rfl,rfl,rfl,rfl,rfl,rfl,rfl,rfl,rfl,rfl,rfl,by rw[decide_eq_false fun o=>by have:=o.k7;omega];rfl,rfl⟩
   ·exact UH (s:=s) (l:=l) (f:=f) h1.isSl h2.isSl h4.isSl h1.lenS h2.lenS h4.lenS ⟨rfl,rfl,rfl,rfl,rfl,rfl,rfl,rfl,rfl,rfl,rfl,rfl,rfl,rfl,exB_eq (by omega) (by omega),rfl⟩
  rintro q _ _ _ bo _ _ _ _ _ _ _ _ _ _ _ _ ⟨rfl,rfl,rfl,rfl,rfl,rfl,rfl,rfl,rfl,rfl,rfl,rfl,rfl,rfl,rfl,rfl⟩
  by_cases ho:GO s l f
  case neg=>
   refine As (fun _=>?_) fun h=>by rw[decide_eq_false ho]at h;cases h
   have h6:DC s l f=6:=by unfold DC;rw[if_neg ho]
   have:=err st1 e1 hb1 (by rw[h6];decide)
   rw[h6]at this;exact this
  refine As (fun h=>by rw[decide_eq_true ho]at h;cases h) fun _=>?_
  have hdec:s.kind≠2->D5 s.neg s.dg s.ex:=fun hk2=>by
   obtain⟨q1,q2,q3⟩:=ho.nu hk2
   rw[q2];exact IS.2 ⟨q1,q3⟩
  refine⟨fun q dp p kd bo ng dg ex tk td tn tz tx u1 u2 u3 st'=>dp=d/\p= .box b 0/\kd=s.kind/\tx=s.text/\ub=u1/\ul=u2/\uf=u3/\q= !(decide (D5 s.neg s.dg s.ex)&&decide (s.kind=3->DJ s.tk s.td s.tn s.tz))/\st1=st',?_,?_⟩
  ·refine Ab (fun g3=>Qt (by omega) ?_) fun g3=>Ab (fun g4=>Os ?_) fun g4=>?_
   ·by_cases hq:D5 s.neg s.dg s.ex
    ·refine As (fun h=>by rw[decide_eq_true hq]at h;cases h) fun _=>Ab (fun g4=>by omega) fun g4=>?_
     exact⟨rfl,rfl,rfl,rfl,rfl,rfl,rfl,by rw[decide_eq_true hq,decide_eq_true fun h=>absurd h g4];rfl,rfl⟩
    ·refine As (fun h=>?_) fun h=>by rw[decide_eq_false hq]at h;cases h
     exact⟨rfl,rfl,rfl,rfl,rfl,rfl,rfl,by rw[decide_eq_false hq];rfl,rfl⟩
   ·exact⟨rfl,rfl,rfl,rfl,rfl,rfl,rfl,by rw[decide_eq_true (hdec g3),decide_eq_decide.2 (show(s.kind=3->DJ s.tk s.td s.tn s.tz)↔_ from⟨fun h=>h g4,fun h _=>h⟩)];rfl,rfl⟩
   ·exact⟨rfl,rfl,rfl,rfl,rfl,rfl,rfl,by rw[decide_eq_true (hdec g3),decide_eq_true fun h=>absurd h g4];rfl,rfl⟩
  rintro q _ _ _ bo2 ng2 dg2 ex2 tk2 td2 tn2 tz2 _ _ _ _ _ ⟨rfl,rfl,rfl,rfl,rfl,rfl,rfl,rfl,rfl⟩
  by_cases hq:D5 s.neg s.dg s.ex
  case neg=>
   refine As (fun _=>?_) fun h=>by rw[decide_eq_false hq]at h;cases h
   have h6:DC s l f=2:=by unfold DC;rw[if_pos ho,if_neg hq]
   have:=err st1 e1 hb1 (by rw[h6];decide)
   rw[h6]at this;exact this
  by_cases hq2:s.kind=3->DJ s.tk s.td s.tn s.tz
  case neg=>
   refine As (fun _=>?_) fun h=>by rw[decide_eq_true hq,decide_eq_false hq2]at h;cases h
   have h6:DC s l f=2:=by unfold DC;rw[if_pos ho,if_pos hq,if_neg hq2]
   have:=err st1 e1 hb1 (by rw[h6];decide)
   rw[h6]at this;exact this
  refine As (fun h=>by rw[decide_eq_true hq,decide_eq_true hq2]at h;cases h) fun _=>?_
  --sizes
  have sizes:U8 s.text->∀(X:Prop),(DC s l f=Cq [] f->X)->BIf (decide (65536<(s.text.length:Int))) (K 10 st1) (need (isSl ub) (BIf (decide (65536<(lenS ub:Int))) (K 10 st1) X)):=fun hu X hX=>by
   have h6:DC s l f=if 65536<s.text.length then 10 else if 65536<s.bytes.length then 10 else Cq [] f:=by unfold DC;rw[if_pos ho,if_pos hq,if_pos hq2,if_pos hu]
   refine Ab (fun g5=>?_) fun g5=>Aa h1.isSl (Ab (fun g6=>?_) fun g6=>?_)
   ·rw[if_pos (by omega)]at h6
    have:=err st1 e1 hb1 (by rw[h6];decide)
    rw[h6]at this;exact this
   ·rw[h1.lenS]at g6
    rw[if_neg (by omega),if_pos (by omega)]at h6
    have:=err st1 e1 hb1 (by rw[h6];decide)
    rw[h6]at this;exact this
   ·rw[h1.lenS]at g6
    rw[if_neg (by omega),if_neg (by omega)]at h6
    exact hX h6
  refine Ab (fun g3=>Kt (by omega) (As (fun g4=>?_) fun g4=>?_)) fun g3=>?_
  ·have hu:¬U8 s.text:=by unfold U8;simpa using g4
   have h6:DC s l f=5:=by unfold DC;rw[if_pos ho,if_pos hq,if_pos hq2,if_neg hu]
   have:=err st1 e1 hb1 (by rw[h6];decide)
   rw[h6]at this;exact this
  ·exact sizes (by unfold U8;simpa using g4) _ fun h6=>⟨rfl,rfl,rfl,rfl,hg1,hg2,h6,e1,hb1⟩
  ·exact sizes (by rw[ho.tx g3];exact QS) _ fun h6=>⟨rfl,rfl,rfl,rfl,hg1,hg2,h6,e1,hb1⟩
 ·rintro _ _ kd bo ng dg ex tk td tn tz tx u1 _ _ st2 ⟨rfl,rfl,rfl,rfl,hg1,hg2,h6,e2,hb2⟩
  have hke2:=hke.stx e2 hb0
  refine keys_ok hke2 h4 h5 (by omega) fun st3 e3=>?_
  have e23:=e2.trans (StX.of e3)
  have hb3:st3.box b= .cells [.int .i64 ((n+1:Nat):Int)]:=(e3.box b (by have:=e2.nb;omega)).trans hb2
  refine Ab (fun g=>?_) fun g=>Aa h2.isSl ?_
  ·have ho:DC s l f≠0:=by rw[h6];omega
   have hc:=MN hg1 hg2 ho
   have:=hk st3 (n+1) e23 hb3 (by rw[hc];intro h;exact absurd h ho)
   rw[hc,h6]at this;exact this
  have hone:DC s l f=0:=by rw[h6];omega
  have hC:=O1 hg1 hg2 hone
  refine⟨fun i dp p u m kd bo ng dg ex tk td tn tz tx u1 u2 u3 st'=>dp=d/\p= .box b 0/\ul=u/\m=(l.length:Int)/\uf=u3/\∃k c:Nat,i=k/\k<=l.length/\c<=65536/\StX (fun i=>i=b) st st'/\st'.box b= .cells [.int .i64 ((c:Nat):Int)]/\Bu (d+1) (n+1) l=Bu (d+1) c (l.drop k),
   fun i _ _ _ _ _ _ _ _ _ _ _ _ _ _ _ _ _ _=>(l.length-i).toNat,⟨rfl,rfl,rfl,by rw[h2.lenS],rfl,0,n+1,rfl,Nat.zero_le _,by omega,e23,hb3,rfl⟩,?_⟩
  rintro _ _ _ _ _ kd bo ng dg ex tk td tn tz tx u1 u2 _ st4 ⟨rfl,rfl,rfl,rfl,rfl,k,c,rfl,hkl,hc,e4,hb4,hE⟩
  have hke4:=hke.stx e4 hb0
  refine Ab (fun g3=>?_) fun g3=>?_
  ·refine Nl hke4 h2 h3 rfl (by omega) fun s' l' f' ub1 ul1 uf1 gw hw on=>Aa on ?_
   have hwsz:=DL gw
   rw[Bt gw,Hl]at hE
   rw[Am _ (by omega) (by omega)]
   refine ih _ (by omega) (by omega) (d:=d+1) hw hke4 hb0 (by have:=e4.nb;omega) hb4 hc (by omega) (by omega) fun st5 m e5 hb5 hm=>?_
   have e45:=e4.trans e5
   refine Ab (fun g4=>?_) fun g4=>?_
   ·have hne:(Cg (d+1) c (.mk s' l' f')).2≠0:=by omega
    rw[IB hne]at hE
    have hc2:Cg d n (.mk s l f)=Cg (d+1) c (.mk s' l' f'):=by rw[hC,hE,IB hne]
    have:=hk st5 m e45 hb5 (by rw[hc2];intro h;exact absurd h hne)
    rw[hc2]at this;exact this
   ·have hz:(Cg (d+1) c (.mk s' l' f')).2=0:=by omega
    rw[B9 hz]at hE
    obtain⟨hm1,hm2⟩:=hm hz
    rw[Am _ (by omega) (by omega)]
    exact⟨⟨rfl,rfl,rfl,rfl,rfl,k+1,m,by omega,by omega,hm2,e45,hb5,by rw[hE,hm1]⟩,by dsimp only;omega⟩
  ·have hkk:k=l.length:=by omega
   subst hkk
   rw[List.drop_length]at hE
   have hE2:Bu (d+1) (n+1) l=(c,0):=by rw[hE,Bu]
   rw[hE2,B9 rfl]at hC
   refine Aa h4.isSl ?_
   refine⟨fun i dp p u m st'=>dp=d/\p= .box b 0/\uf=u/\m=(f.length:Int)/\∃k c2:Nat,i=k/\k<=f.length/\c2<=65536/\StX (fun i=>i=b) st st'/\st'.box b= .cells [.int .i64 ((c2:Nat):Int)]/\BO (d+1) c f=BO (d+1) c2 (f.drop k),
    fun i _ _ _ _ _=>(f.length-i).toNat,⟨rfl,rfl,rfl,by rw[h4.lenS],0,c,rfl,Nat.zero_le _,hc,e4,hb4,rfl⟩,?_⟩
   rintro _ _ _ _ _ st5 ⟨rfl,rfl,rfl,rfl,k,c2,rfl,hkf,hc2,e5,hb5,hF⟩
   have hke5:=hke.stx e5 hb0
   refine Ab (fun g4=>?_) fun g4=>?_
   ·refine el14 hke5 h4 h5 rfl (by omega) fun key s' l' f' ub1 ul1 uf1 gw hw on=>Aa on ?_
    have hwsz:=EH gw
    have hwk:(Fd.mk key (.mk s' l' f')).sz=key.length+(Vl.mk s' l' f').sz:=by unfold Fd.sz;rfl
    rw[Bt gw,MP]at hF
    rw[Am _ (by omega) (by omega)]
    refine ih (.mk s' l' f') (by omega) (by omega) (d:=d+1) hw hke5 hb0 (by have:=e5.nb;omega) hb5 hc2 (by omega) (by omega) fun st6 m e6 hb6 hm=>?_
    have e56:=e5.trans e6
    refine Ab (fun g5=>?_) fun g5=>?_
    ·have hne:(Cg (d+1) c2 (.mk s' l' f')).2≠0:=by omega
     rw[IB hne]at hF
     have hc3:Cg d n (.mk s l f)=Cg (d+1) c2 (.mk s' l' f'):=by rw[hC];exact hF
     have:=hk st6 m e56 hb6 (by rw[hc3];intro h;exact absurd h hne)
     rw[hc3]at this;exact this
    ·have hz:(Cg (d+1) c2 (.mk s' l' f')).2=0:=by omega
     rw[B9 hz]at hF
     obtain⟨hm1,hm2⟩:=hm hz
     rw[Am _ (by omega) (by omega)]
     exact⟨⟨rfl,rfl,rfl,rfl,k+1,m,by omega,by omega,hm2,e56,hb6,by rw[hF,hm1]⟩,by dsimp only;omega⟩
   ·have hkk:k=f.length:=by omega
    subst hkk
    rw[List.drop_length]at hF
    have hF2:Cg d n (.mk s l f)=(c2,0):=by rw[hC];show BO (d+1) c f=_;rw[hF,BO]
    have:=hk st5 c2 e5 hb5 (by rw[hF2];exact fun _=>⟨rfl,hc2⟩)
    rw[hF2]at this;exact this
section
theorem QP {v:Vl} (hN:v.sz<=2000000) {st0 st:St} {cs:List TV} {K:Int->St->Prop} (h:VlR st0 v cs) (hke:Bm st0 st) (hk:∀st',Aj st st'->K (AY v:Nat) st'):
  CallT PR AK [.agg cs] [.one (.int .i64)] st K:=by
 have h0:=h
 cases v with
 | mk s l f=>
 unfold VlR at h0
 obtain⟨ub,ul,uf,xl,xf,rfl,_⟩:=h0
 have he:Aj st (st.push (.cells [.int .i64 0]) (some 3)):=(Aj.refl st).push _ _
 refine LP _ _ _ _ _ _ _ _ _ _ _ _ _ st K ⟨[.int .i64 0],by simp[St.push],by simp,?_⟩
 obtain⟨st1,hst1⟩:∃st1,st1=(st.push (.cells [.int .i64 0]) (some 3)).put st.nb (.cells (setAll [.int .i64 0] 0 [.int .i64 0])):=⟨_,rfl⟩
 rw[<-hst1]
 have e1:Aj st st1:=by rw[hst1];exact StX.ext he (StX.put (S:=fun i=>i=st.nb) rfl _) (fun i hi=>by rw[hi];exact Nat.le_refl _)
 have hb1:st1.box st.nb= .cells [.int .i64 ((0:Nat):Int)]:=by rw[hst1];simp[St.put,setAll]
 exact U0 2000000 _ hN (by omega) (d:=1) h (hke.trans e1.keeps) hke.1 (by rw[hst1];simp[St.put,St.push]) hb1 (by omega) rfl (by omega) fun st2 m e2 hb2 _=>hk st2 (StX.ext e1 e2 (fun i hi=>by rw[hi];exact Nat.le_refl _))
theorem one_ok {s:Sc} {l:List Vl} {f:List Fd} (hN:(Vl.mk s l f).sz<=2000000) {st0 st:St} {ub ul uf:TV} {K:Int->St->Prop} (h:VlR st0 (.mk s l f) (Aq s ub ul uf)) (hke:Bm st0 st) (hk:∀st',Aj st st'->K (DC s l f:Nat) st'):
  CallT PR DH [.agg (Aq s ub ul uf)] [.one (.int .i64)] st K:=by
 have hsz:(Vl.mk s l f).sz=1+s.bytes.length+s.text.length+s.dg.length+BB l+Bv f:=by unfold Vl.sz;rfl
 unfold VlR at h
 obtain⟨ub',ul',uf',xl,xf,hcs,h1,h2,h3,h4,h5⟩:=h
 simp only[Aq,List.cons.injEq,and_true,true_and]at hcs
 obtain⟨rfl,rfl,rfl⟩:=hcs
 refine I4 _ _ _ _ _ _ _ _ _ _ _ _ _ st K (own_ok h1.isSl h2.isSl h4.isSl h1.lenS h2.lenS h4.lenS ?_)
 have kk:∀(c:Nat) (st':St),DC s l f=c->Aj st st'->K (c:Int) st':=fun c st' hc e=>by rw[<-hc];exact hk st' e
 by_cases ho:GO s l f
 case neg=>exact As (fun _=>kk 6 st (by unfold DC;rw[if_neg ho]) (Aj.refl _)) fun h=>by rw[decide_eq_false ho]at h;cases h
 refine As (fun h=>by rw[decide_eq_true ho]at h;cases h) fun _=>rDec_ok (by omega) ?_
 by_cases hq:D5 s.neg s.dg s.ex
 case neg=>exact As (fun _=>kk 2 st (by unfold DC;rw[if_pos ho,if_neg hq]) (Aj.refl _)) fun h=>by rw[decide_eq_false hq]at h;cases h
 refine As (fun h=>by rw[decide_eq_true hq]at h;cases h) fun _=>?_
 have rest:(s.kind=3->DJ s.tk s.td s.tn s.tz)->CallT PR AP [.str s.text] [.one (.bool)] st (fun (b4:Bool) (st4:St)=>BIf (!b4) (K 5 st4) (BIf (decide (65536<(s.text.length:Int))) (K 10 st4) (need (isSl ub) (BIf (decide (65536<(lenS ub:Int))) (K 10 st4) (
   CallT PR Br [uf] [.one (.int .i64)] st4 fun (n1:Int) (st5:St)=>K n1 st5))))):=by
  intro hq2
  refine KC (by omega) fun st1 e1=>?_
  by_cases hu:U8 s.text
  case neg=>exact As (fun _=>kk 5 st1 (by unfold DC;rw[if_pos ho,if_pos hq,if_pos hq2,if_neg hu]) e1) fun h=>absurd (by unfold U8;simpa using h) hu
  have h6:DC s l f=if 65536<s.text.length then 10 else if 65536<s.bytes.length then 10 else Cq [] f:=by unfold DC;rw[if_pos ho,if_pos hq,if_pos hq2,if_pos hu]
  refine As (fun h=>absurd hu (by unfold U8;simpa using h)) fun _=>Ab (fun g5=>?_) fun g5=>Aa h1.isSl (Ab (fun g6=>?_) fun g6=>?_)
  ·exact kk 10 st1 (by rw[h6,if_pos (by omega)]) e1
  ·rw[h1.lenS]at g6
   exact kk 10 st1 (by rw[h6,if_neg (by omega),if_pos (by omega)]) e1
  ·rw[h1.lenS]at g6
   exact Keys_ok (hke.trans e1.keeps) h4 h5 (by omega) fun st2 e2=>kk _ st2 (by rw[h6,if_neg (by omega),if_neg (by omega)]) (e1.trans e2)
 refine Ab (fun g3=>TX ?_) fun g3=>rest fun h=>absurd h g3
 by_cases hq2:DJ s.tk s.td s.tn s.tz
 ·exact As (fun h=>by rw[decide_eq_true hq2]at h;cases h) fun _=>rest fun _=>hq2
 ·exact As (fun _=>kk 2 st (by unfold DC;rw[if_pos ho,if_pos hq,if_neg fun h=>hq2 (h g3)]) (Aj.refl _)) fun h=>by rw[decide_eq_false hq2]at h;cases h
def Ef (s:Sc) (l:List Vl) (f:List Fd):List Vl:=if s.kind=7 then f.map Fd.val else l
theorem N8 (d:Nat):∀(f:List Fd) (n:Nat),BO d n f=Bu d n (f.map Fd.val)
 | [],n=>by simp[BO,Bu]
 | .mk k v::r,n=>by
  rw[MP,List.map_cons,Hl]
  have:(fun m=>BO d m r)=fun m=>Bu d m (r.map Fd.val):=funext fun m=>N8 d r m
  rw[this];rfl
theorem TM (x:Nat×Nat):Fx x (fun m=>(m,0))=x:=by
 unfold Fx;split
 ·rename_i h;exact Prod.ext rfl h.symm
 ·rfl
theorem Tz {d n:Nat} {s:Sc} {l:List Vl} {f:List Fd} (ho:GO s l f):(Fx (Bu (d+1) (n+1) l) fun m=>BO (d+1) m f)=Bu (d+1) (n+1) (Ef s l f):=by
 unfold Ef
 by_cases h7:s.kind=7
 ·rw[if_pos h7,ho.ls (by omega),Bu,B9 rfl,N8]
 ·rw[if_neg h7,ho.fs h7]
  simp only[BO]
  exact TM _
mutual
theorem LI:∀(v:Vl) (d n:Nat),n<=65536->(Cg d n v).2=0->(Cg d n v).1<=65536
 | .mk s l f,d,n,hn,h=>by
  unfold Cg at h⊢
  split at h
  ·cases h
  ·rename_i g1
   rw[if_neg g1]
   split at h
   ·cases h
   ·rename_i g2
    rw[if_neg g2]
    split at h
    ·rename_i h1;exact absurd h h1
    ·rename_i g3
     rw[if_neg g3]
     obtain⟨h2,h3⟩:=By h
     rw[B9 h2]
     exact QF f _ _ (QB l _ _ (by omega) h2) h3
theorem QB:∀(l:List Vl) (d n:Nat),n<=65536->(Bu d n l).2=0->(Bu d n l).1<=65536
 | [],d,n,hn,_=>by unfold Bu;exact hn
 | v::r,d,n,hn,h=>by
  unfold Bu at h⊢
  obtain⟨h2,h3⟩:=By h
  rw[B9 h2]
  exact QB r _ _ (LI v _ _ hn h2) h3
theorem chkD_le:∀(x:Fd) (d n:Nat),n<=65536->(Kg d n x).2=0->(Kg d n x).1<=65536
 | .mk k v,d,n,hn,h=>by unfold Kg at h⊢;exact LI v _ _ hn h
theorem QF:∀(l:List Fd) (d n:Nat),n<=65536->(BO d n l).2=0->(BO d n l).1<=65536
 | [],d,n,hn,_=>by unfold BO;exact hn
 | x::r,d,n,hn,h=>by
  unfold BO at h⊢
  obtain⟨h2,h3⟩:=By h
  rw[B9 h2]
  exact QF r _ _ (chkD_le x _ _ hn h2) h3
end
theorem VsR.snoc {st:St} {v:Vl} {cv:List TV}:∀{l:List Vl} {xs:List TV},VsR st l xs->VlR st v cv->VsR st (l++[v]) (xs++cv)
 | [],xs,h,hv=>by
  unfold VsR at h
  subst h
  show VsR st [v] _
  unfold VsR
  exact⟨cv,[],by simp,hv,by unfold VsR;rfl⟩
 | w::r,xs,h,hv=>by
  unfold VsR at h
  obtain⟨a,b,rfl,h1,h2⟩:=h
  show VsR st (w::(r++[v])) _
  unfold VsR
  exact⟨a,b++cv,by simp,h1,VsR.snoc h2 hv⟩
theorem kids_ok {s:Sc} {l:List Vl} {f:List Fd} (hN:(Vl.mk s l f).sz<=2000000) {st0 st:St} {ub ul uf:TV} {K:TV->St->Prop} (h:VlR st0 (.mk s l f) (Aq s ub ul uf)) (hke:Bm st0 st)
  (hk:∀u xl st',Aj st st'->SlR st' 13 u (Ef s l f).length xl->VsR st' (Ef s l f) xl->K u st'):CallT PR Dj [.agg (Aq s ub ul uf)] [.one .tv] st K:=by
 have hsz:(Vl.mk s l f).sz=1+s.bytes.length+s.text.length+s.dg.length+BB l+Bv f:=by unfold Vl.sz;rfl
 have hfl:=Bq f
 unfold VlR at h
 obtain⟨ub',ul',uf',xl,xf,hcs,h1,h2,h3,h4,h5⟩:=h
 simp only[Aq,List.cons.injEq,and_true,true_and]at hcs
 obtain⟨rfl,rfl,rfl⟩:=hcs
 refine HX _ _ _ _ _ _ _ _ _ _ _ _ _ st K (Ab (fun g=>?_) fun g=>?_)
 ·have e:Ef s l f=l:=by unfold Ef;rw[if_neg g]
  rw[e]at hk
  exact hk ul xl st (Aj.refl _) (h2.keep hke) (VsR.keep hke h3)
 ·have e:Ef s l f=f.map Fd.val:=by unfold Ef;rw[if_pos (by omega)]
  rw[e,List.length_map]at hk
  refine⟨fun o i kd bo ng dg ex tk td tn tz tx u1 u2 u3 st'=>uf=u3/\∃(k:Nat) (xs:List TV),i=k/\k<=f.length/\Aj st st'/\Own st.nt 13 st' o k xs/\VsR st ((f.take k).map Fd.val) xs,fun _ i _ _ _ _ _ _ _ _ _ _ _ _ _ _=>(f.length-i).toNat,
   ⟨rfl,0,[],rfl,Nat.zero_le _,Aj.refl _,Own.nil _ _ _,by simp only[List.take_zero,List.map_nil];unfold VsR;rfl⟩,?_⟩
  rintro o _ kd bo ng dg ex tk td tn tz tx u1 u2 _ st1 ⟨rfl,k,xs,rfl,hkf,e1,ho,hv⟩
  refine Aa h4.isSl (Ab (fun g2=>?_) fun g2=>?_)
  ·rw[h4.lenS]at g2
   refine LW (hke.trans e1.keeps) h4 h5 rfl (by omega) fun key s' l' f' ub1 ul1 uf1 gw hw on=>Aa on ?_
   refine Ix e1 rfl ho (by omega) (fun h=>by cases h) fun v2 st2 e2 _ ho2=>?_
   rw[Am _ (by omega) (by omega)]
   refine⟨⟨rfl,k+1,_,by omega,by omega,e2,ho2,?_⟩,by dsimp only;omega⟩
   rw[Dq gw,List.map_append]
   exact VsR.snoc hv (VlR.keep hke hw)
  ·rw[h4.lenS]at g2
   have hkk:k=f.length:=by omega
   subst hkk
   rw[List.take_length]at hv
   exact hk o xs st1 e1 (.of_rd ho.rd) (VsR.keep e1.keeps hv)
theorem kids_sz {s:Sc} {l:List Vl} {f:List Fd} {k:Nat} {w:Vl} (h:(Ef s l f)[k]? =some w):w.sz+1<=(Vl.mk s l f).sz:=by
 have hsz:(Vl.mk s l f).sz=1+s.bytes.length+s.text.length+s.dg.length+BB l+Bv f:=by unfold Vl.sz;rfl
 unfold Ef at h
 split at h
 ·rw[List.getElem?_map]at h
  obtain⟨d,hd,rfl⟩:=Option.map_eq_some_iff.1 h
  have:=EH hd
  cases d;unfold Fd.sz at this;simp only[Fd.val];omega
 ·have:=DL h;omega
theorem Uo {s:Sc} {l:List Vl} {f:List Fd}:(Ef s l f).length<=(Vl.mk s l f).sz:=by
 have hsz:(Vl.mk s l f).sz=1+s.bytes.length+s.text.length+s.dg.length+BB l+Bv f:=by unfold Vl.sz;rfl
 have:=Cn l
 have:=Bq f
 unfold Ef;split
 ·rw[List.length_map];omega
 ·omega
theorem look_ok:∀(N:Nat) (v:Vl),v.sz<=N->N<=2000000->∀{st0 st:St} {cs:List TV} {d n:Nat} {D:Int} {K:Int->Int->St->Prop},VlR st0 v cs->Bm st0 st->n<=65536->D=(d:Int)->d<=100->
  (∀st',Aj st st'->K ((Cg d n v).1:Nat) ((Cg d n v).2:Nat) st')->CallT PR Cf [.agg cs,.int .i64 D,.int .i64 (n:Nat)] [.one (.int .i64),.one (.int .i64)] st K:=by
 intro N
 induction N with
 | zero=>intro v h;have:=v.sz_pos;omega
 | succ N ih=>
 intro v hN hN2 st0 st cs d n D K h hke hn hD hd hk
 subst hD
 cases v with
 | mk s l f=>
 have hcs:∃ub ul uf,cs=Aq s ub ul uf:=by
  have h0:=h
  unfold VlR at h0
  obtain⟨ub,ul,uf,xl,xf,rfl,_⟩:=h0
  exact⟨ub,ul,uf,rfl⟩
 obtain⟨ub,ul,uf,rfl⟩:=hcs
 have kk:∀(x:Nat×Nat) (st':St),Cg d n (.mk s l f)=x->Aj st st'->K (x.1:Nat) (x.2:Nat) st':=fun x st' hx e=>by rw[<-hx];exact hk st' e
 refine HW _ _ _ _ _ _ _ _ _ _ _ _ _ (d:Int) (n:Int) st K (Ab (fun g=>?_) fun g=>Ab (fun g2=>?_) fun g2=>?_)
 ·exact kk (n,9) st (by unfold Cg;rw[if_pos (by omega)]) (Aj.refl _)
 ·exact kk (n,10) st (by unfold Cg;rw[if_neg (by omega),if_pos (by omega)]) (Aj.refl _)
 have hg1:¬48<d:=by omega
 have hg2:¬65536<=n:=by omega
 refine one_ok (l:=l) (f:=f) (by omega) h hke fun st1 e1=>Ab (fun g3=>?_) fun g3=>?_
 ·exact kk (n,DC s l f) st1 (MN hg1 hg2 (by omega)) e1
 have hone:DC s l f=0:=by omega
 have ho:GO s l f:=(KL.1 hone).own
 have hC:Cg d n (.mk s l f)=Bu (d+1) (n+1) (Ef s l f):=by rw[O1 hg1 hg2 hone,Tz ho]
 refine kids_ok (l:=l) (f:=f) (by omega) h (hke.trans e1.keeps) fun u xl st2 e2 hu hv=>?_
 have e12:=e1.trans e2
 have hlen:=Uo (s:=s) (l:=l) (f:=f)
 rw[Am ((n:Int)+1) (by omega) (by omega)]
 refine⟨fun c i dp u' st'=>u=u'/\dp=(d:Int)/\∃k m:Nat,i=k/\k<=(Ef s l f).length/\c=(m:Int)/\m<=65536/\Aj st2 st'/\Bu (d+1) (n+1) (Ef s l f)=Bu (d+1) m ((Ef s l f).drop k),fun _ i _ _ _=>((Ef s l f).length-i).toNat,
  ⟨rfl,rfl,0,n+1,rfl,Nat.zero_le _,by omega,by omega,Aj.refl _,rfl⟩,?_⟩
 rintro _ _ _ _ st3 ⟨rfl,rfl,k,m,rfl,hkl,rfl,hm,e3,hE⟩
 refine Aa hu.isSl (Ab (fun g4=>?_) fun g4=>?_)
 ·rw[hu.lenS]at g4
  refine Nl e3.keeps hu hv rfl (by omega) fun s' l' f' ub1 ul1 uf1 gw hw on=>?_
  have hwsz:=kids_sz gw
  rw[Bt gw,Hl]at hE
  rw[Am _ (by omega) (by omega)]
  refine ih _ (by omega) (by omega) (d:=d+1) hw e3.keeps hm (by omega) (by omega) fun st4 e4=>?_
  refine Ab (fun g5=>?_) fun g5=>?_
  ·have hne:(Cg (d+1) m (.mk s' l' f')).2≠0:=by omega
   rw[IB hne]at hE
   exact kk _ st4 (by rw[hC,hE]) (e12.trans (e3.trans e4))
  ·have hz:(Cg (d+1) m (.mk s' l' f')).2=0:=by omega
   rw[B9 hz]at hE
   rw[Am _ (by omega) (by omega)]
   exact⟨⟨rfl,rfl,k+1,_,by omega,by omega,rfl,LI _ _ _ hm hz,e3.trans e4,hE⟩,by dsimp only;omega⟩
 ·rw[hu.lenS]at g4
  have hkk:k=(Ef s l f).length:=by omega
  subst hkk
  rw[List.drop_length,Bu]at hE
  exact kk (m,0) st3 (by rw[hC,hE]) (e12.trans e3)
theorem S5 {v:Vl} (hN:v.sz<=2000000) {st0 st:St} {cs:List TV} {K:Int->St->Prop} (h:VlR st0 v cs) (hke:Bm st0 st) (hk:∀st',Aj st st'->K (AY v:Nat) st'):
  CallT PR CU [.agg cs] [.one (.int .i64)] st K:=by
 have h0:=h
 cases v with
 | mk s l f=>
 unfold VlR at h0
 obtain⟨ub,ul,uf,xl,xf,rfl,_⟩:=h0
 exact HD _ _ _ _ _ _ _ _ _ _ _ _ _ st K (look_ok 2000000 _ hN (by omega) (d:=1) (n:=0) h hke (by omega) rfl (by omega) hk)
end
theorem VlR.cells {st:St} {s:Sc} {l:List Vl} {f:List Fd} {cs:List TV} (h:VlR st (.mk s l f) cs):∃ub ul uf xl xf,cs=Aq s ub ul uf/\SlR st 1 ub s.bytes.length (AR s.bytes)/\SlR st 13 ul l.length xl/\VsR st l xl/\SlR st 14 uf f.length xf/\FsR st f xf:=by
 unfold VlR at h
 obtain⟨ub,ul,uf,xl,xf,rfl,h⟩:=h
 exact⟨ub,ul,uf,xl,xf,rfl,h⟩
theorem szs (s:Sc) (l:List Vl) (f:List Fd):(Vl.mk s l f).sz=1+s.bytes.length+s.text.length+s.dg.length+BB l+Bv f:=by unfold Vl.sz;rfl
theorem szd (k:B8) (v:Vl):(Fd.mk k v).sz=k.length+v.sz:=by unfold Fd.sz;rfl
theorem Uq {st0 st:St} {uf:TV} {xf:List TV} {l:List Fd} (hke:Bm st0 st) (h2:SlR st0 14 uf l.length xf) (h3:FsR st0 l xf) {k:Nat} {d:Fd} (hd:l[k]? =some d):Ac st [] (.t (At (ixT 14 uf k) 0)) 0=some (.str d.key):=by
 obtain⟨hk,_⟩:=List.getElem?_eq_some_iff.1 hd
 obtain⟨cw,hw,hcw,hcl⟩:=h3.get hd
 have hx:xf[k*14+0]? =some (.str d.key):=by
  cases d with
  | mk key w=>
   unfold FdR at hw
   obtain⟨cs,rfl,_⟩:=hw
   have:=congrArg (fun z=>z[0]?) hcw
   simpa [Fd.key]using this
 exact(h2.keep hke).ldf h3.len hk (by omega) hx
section
mutual
theorem MO:∀(v:Vl) (d n:Nat),(Cg d n v).2=0->(Cg d n v).1=n+v.cnt
 | .mk s l f,d,n,h=>by
  unfold Cg at h⊢
  unfold Vl.cnt
  split at h
  ·cases h
  ·rename_i g1
   rw[if_neg g1]
   split at h
   ·cases h
   ·rename_i g2
    rw[if_neg g2]
    split at h
    ·rename_i h1;exact absurd h h1
    ·rename_i g3
     rw[if_neg g3]
     obtain⟨h2,h3⟩:=By h
     rw[B9 h2,N9 f _ _ h3,N7 l _ _ h2];omega
theorem N7:∀(l:List Vl) (d n:Nat),(Bu d n l).2=0->(Bu d n l).1=n+AF l
 | [],d,n,_=>by unfold Bu AF;rfl
 | v::r,d,n,h=>by
  unfold Bu at h⊢
  unfold AF
  obtain⟨h2,h3⟩:=By h
  rw[B9 h2,N7 r _ _ h3,MO v _ _ h2];omega
theorem UX:∀(x:Fd) (d n:Nat),(Kg d n x).2=0->(Kg d n x).1=n+x.cnt
 | .mk k v,d,n,h=>by unfold Kg at h⊢;unfold Fd.cnt;exact MO v _ _ h
theorem N9:∀(l:List Fd) (d n:Nat),(BO d n l).2=0->(BO d n l).1=n+AI l
 | [],d,n,_=>by unfold BO AI;rfl
 | x::r,d,n,h=>by
  unfold BO at h⊢
  unfold AI
  obtain⟨h2,h3⟩:=By h
  rw[B9 h2,N9 r _ _ h3,UX x _ _ h2];omega
end
theorem Dv {v:Vl} (h:AY v=0):v.cnt<=65536:=by
 have h1:=MO v 1 0 h
 have h2:=LI v 1 0 (by omega) h
 omega
theorem Ld {v:Vl} (h:AY v=0):AZ v:=OY v 1 0 h
end
section
def CA (l:List Vl) (f:List Fd):List Vl:=l++f.map Fd.val
mutual
def KY:Vl->Nat
 | .mk _ l f=>1+max (Dz l) (Jk f)
def Dz:List Vl->Nat
 | []=>0
 | v::r=>max (KY v) (Dz r)
def Tq:Fd->Nat
 | .mk _ v=>KY v
def Jk:List Fd->Nat
 | []=>0
 | d::r=>max (Tq d) (Jk r)
end
theorem IR:∀l m:List Vl,Dz (l++m)=max (Dz l) (Dz m)
 | [],m=>by simp[Dz]
 | v::r,m=>by simp only[List.cons_append,Dz,IR r m];omega
theorem N3:∀f:List Fd,Jk f=Dz (f.map Fd.val)
 | []=>rfl
 | .mk k v::r=>by simp only[List.map_cons,Dz,Jk,N3 r,Tq,Fd.val]
theorem Ei:∀l m:List Vl,AF (l++m)=AF l+AF m
 | [],m=>by simp[AF]
 | v::r,m=>by simp only[List.cons_append,AF,Ei r m];omega
theorem NW:∀f:List Fd,AI f=AF (f.map Fd.val)
 | []=>rfl
 | .mk k v::r=>by simp only[List.map_cons,AF,AI,NW r,Fd.cnt,Fd.val]
theorem Qw (s:Sc) (l:List Vl) (f:List Fd):(Vl.mk s l f).cnt=1+AF (CA l f):=by
 unfold CA Vl.cnt
 rw[Ei,<-NW];omega
theorem UQ (s:Sc) (l:List Vl) (f:List Fd):KY (Vl.mk s l f)=1+Dz (CA l f):=by
 unfold CA KY
 rw[IR,<-N3]
mutual
theorem SB:∀v:Vl,KY v<=v.cnt
 | .mk s l f=>by
  unfold KY Vl.cnt
  have:=MG l
  have:=Qs f
  omega
theorem MG:∀l:List Vl,Dz l<=AF l
 | []=>by unfold Dz;exact Nat.zero_le _
 | v::r=>by
  unfold Dz AF
  have:=SB v
  have:=MG r
  omega
theorem UP:∀d:Fd,Tq d<=d.cnt
 | .mk k v=>by unfold Tq Fd.cnt;exact SB v
theorem Qs:∀l:List Fd,Jk l<=AI l
 | []=>by unfold Jk;exact Nat.zero_le _
 | d::r=>by
  unfold Jk AI
  have:=UP d
  have:=Qs r
  omega
end
theorem VsR.all_one {st:St}:∀{l:List Vl} {xs:List TV},VsR st l xs->List.all xs Ah=true
 | [],xs,h=>by unfold VsR at h;subst h;rfl
 | .mk s l f::r,xs,h=>by
  unfold VsR at h
  obtain⟨a,b,rfl,h1,h2⟩:=h
  obtain⟨ub,ul,uf,xl,xf,rfl,q1,q2,_,q4,_⟩:=h1.cells
  rw[List.all_append,VsR.all_one h2,Bool.and_true]
  exact Bi q1.one q2.one q4.one
theorem VsR.app {st:St}:∀{l m:List Vl} {xs ys:List TV},VsR st l xs->VsR st m ys->VsR st (l++m) (xs++ys)
 | [],m,xs,ys,h,hm=>by unfold VsR at h;subst h;exact hm
 | v::r,m,xs,ys,h,hm=>by
  unfold VsR at h
  obtain⟨a,b,rfl,h1,h2⟩:=h
  show VsR st (v::(r++m)) _
  unfold VsR
  exact⟨a,b++ys,by simp,h1,VsR.app h2 hm⟩
theorem Tw {st0 st:St} {u:TV} {l:List Vl} {xl:List TV} (hke:Bm st0 st) (h:SlR st0 13 u l.length xl) (hv:VsR st0 l xl) (hl:l.length<=2000000) {K:TV->St->Prop} (hk:∀v st',Aj st st'->Own st.nt 13 st' v l.length xl->K v st'):
  CallT PR A3 [u] [.one .tv] st K:=by
 have hxl:=hv.len
 refine C9 _ st K (Aa h.isSl ?_)
 cases hq:CN u with
 | true=>
  show K .nilSlice st
  have h0:l=[]:=by
   rcases h with(⟨rfl,h1,_⟩ | ⟨tip,rfl⟩) | ⟨b,off,cap,m,rfl,_⟩
   ·exact List.eq_nil_of_length_eq_zero h1
   ·cases hq
   ·cases hq
  subst h0
  have hx0:xl=[]:=List.eq_nil_of_length_eq_zero (by simpa using hxl)
  subst hx0
  exact hk _ st (Aj.refl _) (Own.nil _ _ _)
 | false=>
  refine Ad ((h.keep hke).src hxl) (Aa hv.all_one ?_)
  refine Ix (Aj.refl st) rfl (Own.full st.nt 13 st 0 []) (by simp only;omega) (fun h0=>?_) fun v1 st1 e1 _ ho=>?_
  ·simp only at h0
   exact List.eq_nil_of_length_eq_zero (by rw[hxl,h0,Nat.zero_mul])
  ·rw[List.nil_append,Nat.zero_add]at ho
   exact hk v1 st1 e1 ho
theorem PQ {s:Sc} {l:List Vl} {f:List Fd} (hN:(Vl.mk s l f).sz<=2000000) {st0 st:St} {ub ul uf:TV} {K:TV->St->Prop} (h:VlR st0 (.mk s l f) (Aq s ub ul uf)) (hke:Bm st0 st)
  (hk:∀u xl st',Aj st st'->SlR st' 13 u (CA l f).length xl->VsR st' (CA l f) xl->K u st'):CallT PR Ey [.agg (Aq s ub ul uf)] [.one .tv] st K:=by
 have hsz:=szs s l f
 have hll:=Cn l
 have hfl:=Bq f
 obtain⟨ub',ul',uf',xl,xf,hcs,h1,h2,h3,h4,h5⟩:=h.cells
 simp only[Aq,List.cons.injEq,and_true,true_and]at hcs
 obtain⟨rfl,rfl,rfl⟩:=hcs
 have hxl:=h3.len
 refine MW _ _ _ _ _ _ _ _ _ _ _ _ _ st K (Tw hke h2 h3 (by omega) fun v1 st1 e1 ho1=>Aa h4.isSl ?_)
 refine⟨fun o i u n st'=>uf=u/\n=(f.length:Int)/\∃(k:Nat) (xs:List TV),i=k/\k<=f.length/\Aj st st'/\Own st.nt 13 st' o (l.length+k) (xl++xs)/\VsR st0 ((f.take k).map Fd.val) xs,fun _ i _ _ _=>(f.length-i).toNat,
  ⟨rfl,by rw[h4.lenS],0,[],rfl,Nat.zero_le _,e1,by simpa using ho1,by simp only[List.take_zero,List.map_nil];unfold VsR;rfl⟩,?_⟩
 rintro o _ _ _ st2 ⟨rfl,rfl,k,xs,rfl,hkf,e2,ho,hv⟩
 refine Ab (fun g2=>?_) fun g2=>?_
 ·refine el14 (hke.trans e2.keeps) h4 h5 rfl (by omega) fun key s' l' f' ub1 ul1 uf1 gw hw on=>Aa on ?_
  have on2:List.all (Aq s' ub1 ul1 uf1) Ah=true:=by
   rw[List.all_cons]at on;exact(Bool.and_eq_true_iff.1 on).2
  refine Aa on2 (Ix e2 rfl ho (by omega) (fun h=>by cases h) fun v2 st3 e3 _ ho2=>?_)
  rw[Am _ (by omega) (by omega)]
  refine⟨⟨rfl,rfl,k+1,xs++Aq s' ub1 ul1 uf1,by omega,by omega,e3,by simpa [Aq,Nat.add_assoc]using ho2,?_⟩,by dsimp only;omega⟩
  rw[Dq gw,List.map_append]
  exact VsR.snoc hv hw
 ·have hkk:k=f.length:=by omega
  subst hkk
  rw[List.take_length]at hv
  have hke2:=hke.trans e2.keeps
  refine hk o (xl++xs) st2 e2 ?_ (VsR.keep hke2 (VsR.app h3 hv))
  unfold CA
  rw[List.length_append,List.length_map]
  exact .of_rd ho.rd
theorem GT {l:List Vl} {k:Nat} {w:Vl} (h:l[k]? =some w):AF (l.take (k+1))=AF (l.take k)+w.cnt:=by
 rw[Dq h,Ei];simp[AF]
theorem RF {l:List Vl} {k:Nat} {w:Vl} (h:l[k]? =some w):Dz (l.take (k+1))=max (Dz (l.take k)) (KY w):=by
 rw[Dq h,IR];simp[Dz]
theorem Ev (l:List Vl) (k:Nat):AF (l.take k)<=AF l:=by
 have:=Ei (l.take k) (l.drop k)
 rw[List.take_append_drop]at this;omega
theorem Nw (l:List Vl):l.length<=AF l:=by
 induction l with
 | nil=>exact Nat.zero_le _
 | cons v r ih=>unfold AF;have:=v.cnt_pos;simp only[List.length_cons];omega
theorem Jj (l:List Vl) (k:Nat):Dz (l.take k)<=Dz l:=by
 have:=IR (l.take k) (l.drop k)
 rw[List.take_append_drop]at this;omega
mutual
theorem FM:∀v:Vl,v.cnt<=v.sz
 | .mk s l f=>by
  have:=LE l
  have:=LF f
  unfold Vl.cnt;rw[szs];omega
theorem LE:∀l:List Vl,AF l<=BB l
 | []=>by unfold AF;exact Nat.zero_le _
 | v::r=>by
  unfold AF BB
  have:=FM v
  have:=LE r
  omega
theorem cntd_sz:∀d:Fd,d.cnt<=d.sz
 | .mk k v=>by unfold Fd.cnt Fd.sz;have:=FM v;omega
theorem LF:∀l:List Fd,AI l<=Bv l
 | []=>by unfold AI;exact Nat.zero_le _
 | d::r=>by
  unfold AI Bv
  have:=cntd_sz d
  have:=LF r
  omega
end
theorem P6 {s:Sc} {l:List Vl} {f:List Fd} {k:Nat} {w:Vl} (h:(CA l f)[k]? =some w):w.sz+1<=(Vl.mk s l f).sz:=by
 have hsz:=szs s l f
 rcases List.mem_append.1 (FA h)with h | h
 ·have:=Pk h;omega
 ·obtain⟨d,hd,rfl⟩:=List.mem_map.1 h
  have:=Ip hd
  cases d;rw[szd]at this;simp only[Fd.val];omega
theorem size_ok:∀(N:Nat) (v:Vl),v.sz<=N->N<=2000000->∀{st0 st:St} {cs:List TV} {L:Int} {K:Int->St->Prop},VlR st0 v cs->Bm st0 st->(v.cnt:Int)<=L->L<=100000000->(∀st',Aj st st'->K (v.cnt:Nat) st')->
  CallT PR Ex [.agg cs,.int .i64 L] [.one (.int .i64)] st K:=by
 intro N
 induction N with
 | zero=>intro v h;have:=v.sz_pos;omega
 | succ N ih=>
 intro v hN hN2 st0 st cs L K h hke hL hL2 hk
 cases v with
 | mk s l f=>
 have h0:=h
 obtain⟨ub,ul,uf,xl,xf,rfl,_⟩:=h.cells
 have hC:=Qw s l f
 have hcs:=FM (.mk s l f)
 have hpos:=(Vl.mk s l f).cnt_pos
 have hlen:=Nw (CA l f)
 refine MV _ _ _ _ _ _ _ _ _ _ _ _ _ L st K (Ab (fun g=>by omega) fun _=>PQ (by omega) h0 hke fun u xl st1 e1 hu hv=>Aa hu.isSl ?_)
 refine⟨fun n i le u' m st'=>u=u'/\le=L/\m=((CA l f).length:Int)/\∃k:Nat,i=k/\k<=(CA l f).length/\n=((1+AF ((CA l f).take k):Nat):Int)/\Aj st1 st',fun _ i _ _ _ _=>((CA l f).length-i).toNat,
  ⟨rfl,rfl,by rw[hu.lenS],0,rfl,Nat.zero_le _,rfl,Aj.refl _⟩,?_⟩
 rintro _ _ _ _ _ st2 ⟨rfl,rfl,rfl,k,rfl,hkl,rfl,e2⟩
 have htk:=Ev (CA l f) k
 refine Ab (fun g=>?_) fun g=>?_
 ·refine Nl e2.keeps hu hv rfl (by omega) fun s' l' f' ub1 ul1 uf1 gw hw on=>Aa on ?_
  have hwsz:=P6 (s:=s) gw
  have hwc:=GT gw
  have htk2:=Ev (CA l f) (k+1)
  rw[Am (_-1) (by omega) (by omega)]
  refine ih _ (by omega) (by omega) hw e2.keeps (by omega) (by omega) fun st3 e3=>?_
  rw[Am _ (by omega) (by omega),Am _ (by omega) (by omega)]
  exact⟨⟨rfl,rfl,rfl,k+1,by omega,by omega,by omega,e2.trans e3⟩,by dsimp only;omega⟩
 ·have hkk:k=(CA l f).length:=by omega
  rw[hkk,List.take_length,<-hC]
  exact hk st2 (e1.trans e2)
theorem Size_ok {v:Vl} (hN:v.sz<=2000000) (hC:v.cnt<=65536) {st0 st:St} {cs:List TV} {K:Int->St->Prop} (h:VlR st0 v cs) (hke:Bm st0 st) (hk:∀st',Aj st st'->K (v.cnt:Nat) st'):CallT PR Gl [.agg cs] [.one (.int .i64)] st K:=by
 cases v with
 | mk s l f=>
 have h0:=h
 obtain⟨ub,ul,uf,xl,xf,rfl,_⟩:=h.cells
 exact MZ _ _ _ _ _ _ _ _ _ _ _ _ _ st K (size_ok 2000000 _ hN (by omega) h0 hke (by omega) (by omega) hk)
theorem deep_ok:∀(N:Nat) (v:Vl),v.sz<=N->N<=2000000->∀{st0 st:St} {cs:List TV} {L:Int} {K:Int->St->Prop},VlR st0 v cs->Bm st0 st->(v.cnt:Int)<=L->L<=100000000->(∀st',Aj st st'->K (KY v:Nat) st')->
  CallT PR Ez [.agg cs,.int .i64 L] [.one (.int .i64)] st K:=by
 intro N
 induction N with
 | zero=>intro v h;have:=v.sz_pos;omega
 | succ N ih=>
 intro v hN hN2 st0 st cs L K h hke hL hL2 hk
 cases v with
 | mk s l f=>
 have h0:=h
 obtain⟨ub,ul,uf,xl,xf,rfl,_⟩:=h.cells
 have hC:=Qw s l f
 have hD:=UQ s l f
 have hcs:=FM (.mk s l f)
 have hpos:=(Vl.mk s l f).cnt_pos
 have hlen:=Nw (CA l f)
 have hdc:=MG (CA l f)
 refine MY _ _ _ _ _ _ _ _ _ _ _ _ _ L st K (Ab (fun g=>?_) fun _=>PQ (by omega) h0 hke fun u xl st1 e1 hu hv=>Aa hu.isSl ?_)
 ·have:=hk st (Aj.refl _)
  rw[show KY (.mk s l f)=1 by omega]at this;exact this
 refine⟨fun n i le u' m st'=>u=u'/\le=L/\m=((CA l f).length:Int)/\∃k:Nat,i=k/\k<=(CA l f).length/\n=((1+Dz ((CA l f).take k):Nat):Int)/\Aj st1 st',fun _ i _ _ _ _=>((CA l f).length-i).toNat,
  ⟨rfl,rfl,by rw[hu.lenS],0,rfl,Nat.zero_le _,rfl,Aj.refl _⟩,?_⟩
 rintro _ _ _ _ _ st2 ⟨rfl,rfl,rfl,k,rfl,hkl,rfl,e2⟩
 have htk:=Jj (CA l f) k
 refine Ab (fun g=>?_) fun g=>?_
 ·refine Nl e2.keeps hu hv rfl (by omega) fun s' l' f' ub1 ul1 uf1 gw hw on=>Aa on ?_
  have hwsz:=P6 (s:=s) gw
  have hwc:=GT gw
  have hwd:=RF gw
  have htk2:=Jj (CA l f) (k+1)
  have htk3:=Ev (CA l f) (k+1)
  rw[Am (_-1) (by omega) (by omega)]
  refine ih _ (by omega) (by omega) hw e2.keeps (by omega) (by omega) fun st3 e3=>?_
  rw[Am _ (by omega) (by omega),Am _ (by omega) (by omega)]
  exact⟨⟨rfl,rfl,rfl,k+1,by omega,by omega,by rw[hwd];omega,e2.trans e3⟩,by dsimp only;omega⟩
 ·have hkk:k=(CA l f).length:=by omega
  rw[hkk,List.take_length,<-hD]
  exact hk st2 (e1.trans e2)
theorem Vg {v:Vl} (hN:v.sz<=2000000) (hC:v.cnt<=65536) {st0 st:St} {cs:List TV} {K:Int->St->Prop} (h:VlR st0 v cs) (hke:Bm st0 st) (hk:∀st',Aj st st'->K (KY v:Nat) st'):CallT PR FF [.agg cs] [.one (.int .i64)] st K:=by
 cases v with
 | mk s l f=>
 have h0:=h
 obtain⟨ub,ul,uf,xl,xf,rfl,_⟩:=h.cells
 exact LO _ _ _ _ _ _ _ _ _ _ _ _ _ st K (deep_ok 2000000 _ hN (by omega) h0 hke (by omega) (by omega) hk)
end
def zs (n:Nat):B8:=List.replicate n 48
def flds (ex:Bool) (f:List Fd):List Fd:=if ex then f else sortFd f
theorem CM {T b sz bytes:Nat} {st0 st:St} {v:TV} {n k:Nat} {xs ys:List TV} {K:TV->St->Prop} (e:Aj st0 st) (hb:b=st0.nt) (h:Own b sz st v n xs) (hby:(n+k)*bytes<=140737488355328) (hys:k=0->ys=[])
  (hK:∀v' st',Aj st0 st'->Bm st st'->Own b sz st' v' (n+k) (xs++ys)->K v' st'):Cl T sz bytes v k ys st K:=by
 subst hb
 have kk:∀st':St,st'.nb=st.nb->st'.box=st.box->Bm st st':=fun st' a b=>⟨Nat.le_of_eq a.symm,fun i _=>by rw[b]⟩
 rcases h with⟨rfl,rfl,rfl⟩ | ⟨tip,rfl,ht⟩
 ·simp only[Cl]
  cases k with
  | zero=>rw[hys rfl]at hK;exact hK _ _ e (kk _ rfl rfl) (.nil _ _ _)
  | succ m=>
   simp only[Ak]
   refine⟨by simpa using hby,hK _ _ (e.fresh _) (kk _ rfl rfl) ?_⟩
   simp only[List.nil_append,Nat.zero_add]
   exact Own.fresh _ _ e.nt
 ·simp only[Cl,Nat.beq_refl]
  refine⟨hby,?_⟩
  rcases ht with rfl | ⟨id,rfl,h1,h2,h3⟩
  ·cases k with
   | zero=>rw[hys rfl]at hK;simp only[List.append_nil]at hK;exact hK _ _ e (kk _ rfl rfl) (Own.full _ _ _ _ _)
   | succ m=>exact hK _ _ (e.fresh _) (kk _ rfl rfl) (Own.fresh _ _ e.nt)
  ·exact⟨h3,hK _ _ ((e.retire h1).fresh _) (kk _ rfl rfl) (Own.fresh (st:=st.retire id) _ _ e.nt)⟩
theorem FsR.snoc {st:St} {d:Fd} {cd:List TV} {l:List Fd} {xs:List TV} (h:FsR st l xs) (hd:FdR st d cd):FsR st (l++[d]) (xs++cd):=by
 obtain⟨cks,rfl,hall⟩:=h.chunks
 have:=FsR.of_chunks (hall.snoc hd)
 simpa using this
theorem BS (st:St):Bm St.zero st:=⟨Nat.zero_le _,fun i hi=>absurd hi (Nat.not_lt_zero _)⟩
section
mutual
def lvV:Vl->Nat
 | .mk _ l f=>1+max (FB l) (Fe f)
def FB:List Vl->Nat
 | []=>0
 | v::r=>max (lvV v) (FB r)
def lvD:Fd->Nat
 | .mk _ v=>lvV v
def Fe:List Fd->Nat
 | []=>0
 | d::r=>max (lvD d) (Fe r)
end
end
theorem kb {s:Sc} {k:Nat} (h:s.kind=(k:Nat)) (hk:k<=7):s.kind.toNat.toUInt8.toNat=k:=by
 rw[h,Int.toNat_natCast,Sg _ (by omega)]
section
mutual
theorem O0:∀(v:Vl) (d n:Nat),(Cg d n v).2=0->lvV v<=49-d
 | .mk s l f,d,n,h=>by
  unfold Cg at h
  split at h
  ·cases h
  split at h
  ·cases h
  split at h
  ·rename_i h1;exact absurd h h1
  ·obtain⟨h1,h2⟩:=By h
   have:=QA l (d+1) (n+1) h1
   have:=QE f (d+1) _ h2
   unfold lvV;omega
theorem QA:∀(l:List Vl) (d n:Nat),(Bu d n l).2=0->FB l<=49-d
 | [],d,n,h=>by unfold FB;omega
 | v::r,d,n,h=>by
  unfold Bu at h
  obtain⟨h1,h2⟩:=By h
  have:=O0 v d n h1
  have:=QA r d _ h2
  unfold FB;omega
theorem chkD_lv:∀(x:Fd) (d n:Nat),(Kg d n x).2=0->lvD x<=49-d
 | .mk k v,d,n,h=>by unfold Kg at h;unfold lvD;exact O0 v d n h
theorem QE:∀(f:List Fd) (d n:Nat),(BO d n f).2=0->Fe f<=49-d
 | [],d,n,h=>by unfold Fe;omega
 | x::r,d,n,h=>by
  unfold BO at h
  obtain⟨h1,h2⟩:=By h
  have:=chkD_lv x d n h1
  have:=QE r d _ h2
  unfold Fe;omega
end
end
section
theorem JL (l m:List Vl):BB (l++m)=BB l+BB m:=by
 induction l with
 | nil=>simp[BB]
 | cons v r ih=>simp only[List.cons_append,BB,ih];omega
theorem Ka (l m:List Fd):Bv (l++m)=Bv l+Bv m:=by
 induction l with
 | nil=>simp[Bv]
 | cons v r ih=>simp only[List.cons_append,Bv,ih];omega
theorem D2 (l m:List Fd):AI (l++m)=AI l+AI m:=by
 induction l with
 | nil=>simp[AI]
 | cons v r ih=>simp only[List.cons_append,AI,ih];omega
theorem Nv {l:List Vl} {k:Nat} {w:Vl} (h:l[k]? =some w):BB (l.take (k+1))=BB (l.take k)+w.sz:=by
 rw[List.take_add_one,h,JL];simp[BB]
theorem NV {l:List Fd} {k:Nat} {w:Fd} (h:l[k]? =some w):Bv (l.take (k+1))=Bv (l.take k)+w.sz:=by
 rw[List.take_add_one,h,Ka];simp[Bv]
theorem My {l:List Fd} {k:Nat} {w:Fd} (h:l[k]? =some w):AI (l.take (k+1))=AI (l.take k)+w.cnt:=by
 rw[List.take_add_one,h,D2];simp[AI]
theorem vcnt (s:Sc) (l:List Vl) (f:List Fd):(Vl.mk s l f).cnt=1+AF l+AI f:=by unfold Vl.cnt;rfl
theorem fcnt (k:B8) (v:Vl):(Fd.mk k v).cnt=v.cnt:=by unfold Fd.cnt;rfl
def RmOk (v:Vl) (n r:Int):Prop:=r= -1∨(0<=r/\(v.sz:Int)+3000+r*12001<=n*12001/\(v.cnt:Int)+r<=n)
theorem SX:∀(N:Nat) (v:Vl),v.sz<=N->∀{st:St} {cs:List TV} {D n:Int} {K:Int->St->Prop},VlR St.zero v cs-> -1000<=D->D<=1000-> -1<=n->n<=1000->(∀r,RmOk v n r->K r st)->
  CallT PR Bc [.agg cs,.int .i64 D,.int .i64 n,.int .i64 3000] [.one (.int .i64)] st K:=by
 intro N
 induction N with
 | zero=>intro v h;have:=v.sz_pos;omega
 | succ N ih=>
 intro v hN st cs D n K h hD1 hD2 hn1 hn2 hk
 cases v with
 | mk s l f=>
 have hsz:=szs s l f
 have hct:=vcnt s l f
 obtain⟨ub,ul,uf,xl,xf,rfl,h1,h2,h3,h4,h5⟩:=h.cells
 have no:K (-1) st:=hk _ (.inl rfl)
 refine HT _ _ _ _ _ _ _ _ _ _ _ _ _ D n 3000 st K (Ab (fun _=>no) fun g1=>Ab (fun _=>no) fun g2=>Ab (fun _=>no) fun g3=>Aa h1.isSl (Ab (fun _=>no) fun g4=>Ab (fun _=>no) fun g5=>Aa h2.isSl (Ab (fun _=>no) fun g6=>Aa h4.isSl (Ab (fun _=>no) fun g7=>?_))))
 rw[h1.lenS]at g4
 rw[h2.lenS]at g6
 rw[h4.lenS]at g7
 rw[Am (n-1) (by omega) (by omega)]
 refine⟨fun zn zi zd zb k bo ng dg ex tk td tn tz tx u0 u1 u2 st'=>ul=u1/\uf=u2/\D=zd/\3000=zb/\st=st'/\∃k:Nat,zi=(k:Int)/\k<=l.length/\ -1<=zn/\zn<=n-1/\(0<=zn->(BB (l.take k):Int)+zn*12001<=(n-1)*12001/\(AF (l.take k):Int)+zn<=n-1),
  fun _ zi _ _ _ _ _ _ _ _ _ _ _ _ _ _ _ _=>(l.length-zi).toNat,⟨rfl,rfl,rfl,rfl,rfl,0,rfl,Nat.zero_le _,by omega,by omega,fun _=>by rw[List.take_zero];simp[BB,AF]⟩,?_⟩
 rintro zn _ _ _ _ _ _ _ _ _ _ _ _ _ _ _ _ _ ⟨rfl,rfl,rfl,rfl,rfl,k,rfl,hkl,z1,z2,z3⟩
 refine Aa h2.isSl (Ab (fun g=>Ab (fun g0=>?_) fun g0=>?q1) fun g=>?q2)
 ·rw[h2.lenS]at g
  refine Nl (BS _) h2 h3 rfl (by omega) fun s' l' f' ub1 ul1 uf1 gw hw on=>?_
  have hwsz:=DL gw
  have e1:=Nv gw
  have e2:=GT gw
  obtain⟨z4,z5⟩:=z3 g0
  rw[Am ((k:Int)+1) (by omega) (by omega),Am (D-1) (by omega) (by omega)]
  refine ih _ (by omega) hw (by omega) (by omega) (by omega) (by omega) fun r hr=>⟨⟨rfl,rfl,rfl,rfl,rfl,k+1,by omega,by omega,?_,?_,?_⟩,by dsimp only;omega⟩
  ·rcases hr with hr | hr<;>omega
  ·rcases hr with hr | hr
   ·omega
   ·have:=Vl.sz_pos (.mk s' l' f');omega
  ·intro hr0
   rcases hr with hr | hr
   ·omega
   ·rw[e1,e2];omega
 case q1 | q2=>
  have zz:zn= -1∨(BB l:Int)+zn*12001<=(n-1)*12001/\(AF l:Int)+zn<=n-1:=by
   by_cases hz:0<=zn
   ·right
    have hkk:k=l.length:=by
     first
      | (exfalso;exact g0 hz)
      | (rw[h2.lenS]at g;omega)
    rw[hkk,List.take_of_length_le (Nat.le_refl _)]at z3
    exact z3 hz
   ·left;omega
  refine⟨fun yn zi zd zb k bo ng dg ex tk td tn tz tx u0 u1 u2 st'=>uf=u2/\D=zd/\3000=zb/\st=st'/\∃k:Nat,zi=(k:Int)/\k<=f.length/\ -1<=yn/\yn<=n-1/\(0<=yn->(BB l:Int)+Bv (f.take k)+yn*12001<=(n-1)*12001/\(AF l:Int)+AI (f.take k)+yn<=n-1),
   fun _ zi _ _ _ _ _ _ _ _ _ _ _ _ _ _ _ _=>(f.length-zi).toNat,⟨rfl,rfl,rfl,rfl,0,rfl,Nat.zero_le _,by omega,by omega,fun hz=>by rw[List.take_zero];simp only[Bv,AI];omega⟩,?_⟩
  rintro yn _ _ _ _ _ _ _ _ _ _ _ _ _ _ _ _ _ ⟨rfl,rfl,rfl,rfl,k2,rfl,hkl2,y1,y2,y3⟩
  have fin:(k2=f.length∨¬0<=yn)->K yn st:=by
   intro hor
   refine hk _ ?_
   by_cases hy:0<=yn
   ·rcases hor with hor | hor
    ·obtain⟨y4,y5⟩:=y3 hy
     rw[hor,List.take_of_length_le (Nat.le_refl _)]at y4 y5
     exact .inr ⟨hy,by rw[hsz];omega,by rw[hct];omega⟩
    ·exact absurd hy hor
   ·exact .inl (by omega)
  refine Aa h4.isSl (Ab (fun g8=>Ab (fun g9=>?_) fun g9=>fin (.inr g9)) fun g8=>fin (.inl (by rw[h4.lenS]at g8;omega)))
  rw[h4.lenS]at g8
  have hlt:k2<f.length:=by omega
  obtain⟨dd,hdd⟩:∃d,f[k2]? =some d:=⟨_,List.getElem?_eq_getElem hlt⟩
  obtain⟨key,w⟩:=dd
  obtain⟨s',l',f'⟩:=w
  have hky:=Uq (st:=st) (BS st) h4 h5 hdd
  refine⟨⟨by omega,by rw[h4.lenZ];omega⟩,Aa (h4.isPtr hlt) (Ad hky (Ct (Ab (fun _=>no) fun g10=>?_)))⟩
  refine LW (BS _) h4 h5 rfl hlt fun key' s' l' f' ub1 ul1 uf1 gw hw on=>?_
  rw[hdd]at gw
  cases gw
  have hwsz:=EH hdd
  have e1:=NV hdd
  have e2:=My hdd
  have e3:=szd key (.mk s' l' f')
  have e4:=fcnt key (.mk s' l' f')
  obtain⟨y4,y5⟩:=y3 g9
  have g10:¬3000<(key.length:Int):=g10
  rw[Am ((k2:Int)+1) (by omega) (by omega),Am (D-1) (by omega) (by omega)]
  refine ih _ (by omega) hw (by omega) (by omega) (by omega) (by omega) fun r hr=>⟨⟨rfl,rfl,rfl,rfl,k2+1,by omega,by omega,?_,?_,?_⟩,by dsimp only;omega⟩
  ·rcases hr with hr | hr<;>omega
  ·rcases hr with hr | hr
   ·omega
   ·have:=Vl.sz_pos (.mk s' l' f');omega
  ·intro hr0
   rcases hr with hr | hr
   ·omega
   ·rw[e1,e2];omega
theorem Pi:∀(N:Nat) (v:Vl),v.sz<=N->N<=2000000->∀{st:St} {cs:List TV} {K:Int->St->Prop},VlR St.zero v cs->(∀w:Int,(v.cnt:Int)+w=v.sz->K w st)->
  CallT PR Bg [.agg cs] [.one (.int .i64)] st K:=by
 intro N
 induction N with
 | zero=>intro v h;have:=v.sz_pos;omega
 | succ N ih=>
 intro v hN hN2 st cs K h hk
 cases v with
 | mk s l f=>
 have hsz:=szs s l f
 have hct:=vcnt s l f
 have hll:=Cn l
 have hfl:=Bq f
 have hc1:=LE l
 have hc2:=LF f
 obtain⟨ub,ul,uf,xl,xf,rfl,h1,h2,h3,h4,h5⟩:=h.cells
 refine GV _ _ _ _ _ _ _ _ _ _ _ _ _ st K (Aa h1.isSl ?_)
 refine⟨fun zn zi k bo ng dg ex tk td tn tz tx u0 u1 u2 st'=>ul=u1/\uf=u2/\st=st'/\∃k:Nat,zi=(k:Int)/\k<=l.length/\zn+(AF (l.take k):Int)=(s.bytes.length:Int)+s.text.length+s.dg.length+BB (l.take k),
  fun _ zi _ _ _ _ _ _ _ _ _ _ _ _ _ _=>(l.length-zi).toNat,⟨rfl,rfl,rfl,0,rfl,Nat.zero_le _,?_⟩,?_⟩
 ·rw[h1.lenS,Am ((s.text.length:Int)+(s.bytes.length:Nat)) (by omega) (by omega),Am _ (by omega) (by omega),List.take_zero]
  simp only[AF,BB];omega
 rintro zn _ _ _ _ _ _ _ _ _ _ _ _ _ _ _ ⟨rfl,rfl,rfl,k,rfl,hkl,z1⟩
 have b1:=Ev l k
 have b2:BB (l.take k)<=BB l:=by
  conv=>rhs;rw[<-List.take_append_drop k l,JL]
  omega
 have b3:=LE (l.take k)
 refine Aa h2.isSl (Ab (fun g=>?_) fun g=>?_)
 ·rw[h2.lenS]at g
  refine Nl (BS _) h2 h3 rfl (by omega) fun s' l' f' ub1 ul1 uf1 gw hw on=>?_
  have hwsz:=DL gw
  have e1:=Nv gw
  have e2:=GT gw
  have e3:=FM (.mk s' l' f')
  rw[Am ((k:Int)+1) (by omega) (by omega)]
  refine ih _ (by omega) (by omega) hw fun r hr=>⟨⟨rfl,rfl,rfl,k+1,by omega,by omega,?_⟩,by dsimp only;omega⟩
  rw[Am _ (by omega) (by omega),e1,e2];omega
 ·have hkk:k=l.length:=by rw[h2.lenS]at g;omega
  rw[hkk,List.take_of_length_le (Nat.le_refl _)]at z1
  refine⟨fun yn zi k bo ng dg ex tk td tn tz tx u0 u1 u2 st'=>uf=u2/\st=st'/\∃k:Nat,zi=(k:Int)/\k<=f.length/\yn+(AF l:Int)+AI (f.take k)=(s.bytes.length:Int)+s.text.length+s.dg.length+BB l+Bv (f.take k),
   fun _ zi _ _ _ _ _ _ _ _ _ _ _ _ _ _=>(f.length-zi).toNat,⟨rfl,rfl,0,rfl,Nat.zero_le _,by rw[List.take_zero];simp only[AI,Bv];omega⟩,?_⟩
  rintro yn _ _ _ _ _ _ _ _ _ _ _ _ _ _ _ ⟨rfl,rfl,k2,rfl,hkl2,y1⟩
  have b4:AI (f.take k2)<=AI f:=by
   conv=>rhs;rw[<-List.take_append_drop k2 f,D2]
   omega
  have b5:Bv (f.take k2)<=Bv f:=by
   conv=>rhs;rw[<-List.take_append_drop k2 f,Ka]
   omega
  have b6:=LF (f.take k2)
  refine Aa h4.isSl (Ab (fun g8=>?_) fun g8=>?_)
  case refine_2=>
   have hkk2:k2=f.length:=by rw[h4.lenS]at g8;omega
   rw[hkk2,List.take_of_length_le (Nat.le_refl _)]at y1
   exact hk _ (by rw[hsz,hct];omega)
  rw[h4.lenS]at g8
  have hlt:k2<f.length:=by omega
  obtain⟨dd,hdd⟩:∃d,f[k2]? =some d:=⟨_,List.getElem?_eq_getElem hlt⟩
  obtain⟨key,w⟩:=dd
  obtain⟨s',l',f'⟩:=w
  have hky:∀st,Ac st [] (.t (At (ixT 14 uf k2) 0)) 0=some (.str key):=fun st=>Uq (st:=st) (BS st) h4 h5 hdd
  refine⟨⟨by omega,by rw[h4.lenZ];omega⟩,Aa (h4.isPtr hlt) (Ad (hky _) (Ct ?_))⟩
  refine LW (BS _) h4 h5 rfl hlt fun key' s' l' f' ub1 ul1 uf1 gw hw on=>?_
  rw[hdd]at gw
  cases gw
  have hwsz:=EH hdd
  have e1:=NV hdd
  have e2:=My hdd
  have e3:=szd key (.mk s' l' f')
  have e4:=fcnt key (.mk s' l' f')
  have e5:=FM (.mk s' l' f')
  rw[Am ((k2:Int)+1) (by omega) (by omega)]
  refine ih _ (by omega) (by omega) hw fun r hr=>⟨hky _,⟨rfl,rfl,k2+1,by omega,by omega,?_⟩,by dsimp only;omega⟩
  rw[Am (yn+_) (by omega) (by omega),Am _ (by omega) (by omega),e1,e2];omega
theorem Q1 {v:Vl} {cs:List TV} {st:St} {K:Bool->St->Prop} (h:VlR St.zero v cs) (hk:∀b:Bool,(b=true->v.sz<=20150/\v.cnt<=150)->K b st):
  CallT PR CR [.agg cs] [.one .bool] st K:=by
 have h0:=h
 obtain⟨s,l,f⟩:=v
 obtain⟨ub,ul,uf,xl,xf,rfl,_⟩:=h.cells
 refine Hy _ _ _ _ _ _ _ _ _ _ _ _ _ st K (SX _ _ (Nat.le_refl _) h0 (by decide) (by decide) (by decide) (by decide) fun r hr=>Ab (fun g=>?_) fun g=>hk false (fun h=>by cases h))
 rcases hr with hr | ⟨hr0,hr1,hr2⟩
 ·omega
 refine Pi 2000000 _ (by omega) (Nat.le_refl _) h0 fun w hw=>hk _ fun hb=>?_
 rw[decide_eq_true_eq]at hb
 omega
mutual
theorem OZ:∀(v:Vl) (d n:Nat),AZ v->d+lvV v<=49->n+v.cnt<=65536->Cg d n v=(n+v.cnt,0)
 | .mk s l f,d,n,h,h1,h2=>by
  unfold AZ at h
  obtain⟨g1,g2,g3⟩:=h
  unfold lvV at h1
  unfold Vl.cnt at h2⊢
  have e1:=Qz l (d+1) (n+1) g2 (by omega) (by omega)
  have e2:=QD f (d+1) (n+1+AF l) g3 (by omega) (by omega)
  rw[O1 (by omega) (by omega) (KL.2 g1),e1,B9 rfl]
  show BO (d+1) (n+1+AF l) f=_
  rw[e2]
  congr 1;omega
theorem Qz:∀(l:List Vl) (d n:Nat),Cv l->(l≠ []->d+FB l<=49)->n+AF l<=65536->Bu d n l=(n+AF l,0)
 | [],d,n,_,_,_=>by unfold Bu AF;rfl
 | v::r,d,n,h,h1,h2=>by
  unfold Cv at h
  have h1:=h1 (by simp)
  unfold FB at h1
  unfold AF at h2⊢
  have e1:=OZ v d n h.1 (by omega) (by omega)
  have e2:=Qz r d (n+v.cnt) h.2 (fun _=>by omega) (by omega)
  rw[Hl,e1,B9 rfl]
  show Bu d (n+v.cnt) r=_
  rw[e2]
  congr 1;omega
theorem chkD_of:∀(x:Fd) (d n:Nat),Hp x->d+lvD x<=49->n+x.cnt<=65536->Kg d n x=(n+x.cnt,0)
 | .mk k v,d,n,h,h1,h2=>by
  unfold Hp at h
  unfold lvD at h1
  unfold Fd.cnt at h2⊢
  unfold Kg
  exact OZ v d n h h1 h2
theorem QD:∀(l:List Fd) (d n:Nat),Cw l->(l≠ []->d+Fe l<=49)->n+AI l<=65536->BO d n l=(n+AI l,0)
 | [],d,n,_,_,_=>by unfold BO AI;rfl
 | x::r,d,n,h,h1,h2=>by
  unfold Cw at h
  have h1:=h1 (by simp)
  unfold Fe at h1
  unfold AI at h2⊢
  have e1:=chkD_of x d n h.1 (by omega) (by omega)
  have e2:=QD r d (n+x.cnt) h.2 (fun _=>by omega) (by omega)
  unfold BO
  rw[e1,B9 rfl]
  show BO d (n+x.cnt) r=_
  rw[e2]
  congr 1;omega
end
theorem U1 {v:Vl} (h:AZ v) (hl:lvV v<=48) (hc:v.cnt<=65536):AY v=0:=by
 unfold AY
 rw[OZ v 1 0 h (by omega) (by omega)]
theorem P8:∀(f:List Fd) (seen:List B8),MU f->(∀d,d∈f->d.key∉seen/\U8 d.key/\d.key.length<=1024)->Cq seen f=0
 | [],seen,_,_=>rfl
 | d::r,seen,hn,h=>by
  obtain⟨h1,h2,h3⟩:=h d (.head _)
  unfold Cq
  unfold MU at hn
  rw[List.map_cons,List.nodup_cons]at hn
  rw[if_pos h2,if_neg (by omega),if_neg h1]
  refine P8 r _ hn.2 fun x hx=>?_
  obtain⟨g1,g2,g3⟩:=h x (.tail _ hx)
  refine⟨fun hm=>?_,g2,g3⟩
  rcases List.mem_cons.1 hm with he | hm
  ·exact hn.1 (he▸List.mem_map.2 ⟨x,hx,rfl⟩)
  ·exact g1 hm
end
section
open Go.RowKit (Below)
def St.upto (st' st:St):St:={st' with nb:=st.nb,box:=st.box}
def Ghost.upto (g:Ghost) (w:World) (n:Nat):Ghost:=
 {g with nb:=n,S:=fun a=>g.S a∨∃b,n<=b/\b<g.nb/\a.block=g.bk b/\a.spot=none/\∃v,w.cell? a=some v}
theorem H8 {st st':St} (e:Aj st st'):Aj st (st'.upto st):=⟨Nat.le_refl _,fun _ _=>rfl,e.nt,e.live,e.ty,e.bt⟩
theorem Rel.lower {g g1:Ghost} {w w1:World} {x:TV} {u0:Value} (h:Rel g w x u0):∀{u:Value},Rel g1 w1 x u->Rel (g1.upto w1 g.nb) w1 x u:=by
 induction h with
 | undef=>intro u h;cases h;exact .undef
 | junk v=>intro u h;exact .junk u
 | int k n=>intro u h;cases h;exact .int k n
 | bool b=>intro u h;cases h;exact .bool b
 | str l=>intro u h;cases h;exact .str l
 | nilPtr=>intro u h;cases h;exact .nilPtr
 | nilSlice=>intro u h;cases h;exact .nilSlice
 | nilMap=>intro u h;cases h;exact .nilMap
 | nilFunc=>intro u h;cases h;exact .nilFunc
 | nilIface=>intro u h;cases h;exact .nilIface
 | list sz tip n xs b o cap us hl hn hc hr ht ih=>
  intro u h
  cases h with
  | list _ _ _ _ b1 o1 cap1 us1 hl1 hn1 hc1 hr1 ht1=>
   exact .list sz tip n xs b1 o1 cap1 us1 hl1 hn1 (fun i hi=>⟨.inl (hc1 i hi).1,(hc1 i hi).2⟩) (fun i hi=>ih i hi (hr1 i hi)) ht1
  | listE _ _ a ht1=>exact .listE sz tip a ht1
 | listE sz tip a ht=>
  intro u h
  cases h with
  | list _ _ _ _ b1 o1 cap1 us1 hl1 hn1 hc1 hr1 ht1=>
   exact .list sz tip 0 [] b1 o1 cap1 us1 hl1 hn1 (fun i hi=>absurd hi (Nat.not_lt_zero _)) (fun i hi=>absurd hi (Nat.not_lt_zero _)) ht1
  | listE _ _ a ht1=>exact .listE sz tip a ht1
 | ms sz b off n cap h hn=>
  intro u h1
  cases h1
  exact .ms (g:=g1.upto w1 g.nb) sz b off n cap h hn
 | box b off h=>
  intro u h1
  cases h1
  exact .box (g:=g1.upto w1 g.nb) b off h
 | rptr xs b o us hc hr ih=>
  intro u h
  cases h with
  | rptr _ b1 o1 us1 hc1 hr1=>exact .rptr xs b1 o1 us1 (fun i hi=>⟨.inl (hc1 i hi).1,(hc1 i hi).2⟩) fun i hi=>ih i hi (hr1 i hi)
 | agg xs vs hl hr ih=>
  intro u h
  cases h with
  | agg _ vs1 hl1 hr1=>exact .agg xs vs1 hl1 fun i hi=>ih i hi (hr1 i hi)
 | tuple xs vs hl hr ih=>
  intro u h
  cases h with
  | tuple _ vs1 hl1 hr1=>exact .tuple xs vs1 hl1 fun i hi=>ih i hi (hr1 i hi)
 | func f xs vs hl hr ih=>
  intro u h
  cases h with
  | func _ _ vs1 hl1 hr1=>exact .func f xs vs1 hl1 fun i hi=>ih i hi (hr1 i hi)
 | iface t v u0 h ih=>
  intro u h1
  cases h1 with
  | iface _ _ u1 h2=>exact .iface t v u1 (ih h2)
 | map b h=>
  intro u h1
  cases h1
  exact .map (g:=g1.upto w1 g.nb) b h
 | sptr v a n cap hc h ih=>
  intro u h1
  cases h1 with
  | sptr _ a1 n1 cap1 hc1 h2=>exact .sptr v a1 n1 cap1 hc1 (ih h2)
theorem AH.lower {g g1:Ghost} {w w1:World} {xs:List TV} {us0 us:List Value} (h0:AH g w xs us0) (h:AH g1 w1 xs us):AH (g1.upto w1 g.nb) w1 xs us:=
 ⟨h.1,fun i hi=>(h0.2 i hi).lower (h.2 i hi)⟩
theorem Gv.lower {g g1:Ghost} {w w1:World} {b b1:Nat} {o:Kj} (h0:Gv g w b o) (h:Gv g1 w1 b1 o):Gv (g1.upto w1 g.nb) w1 b1 o:=by
 cases o with
 | dead=>trivial
 | cells l=>
  obtain⟨cs0,_,hr0⟩:=h0
  obtain⟨cs,hc,hr⟩:=h
  exact⟨cs,hc,hr0.lower hr⟩
 | iter s pos=>exact h
 | map es=>
  obtain⟨ms0,c0,_,_,hm0⟩:=h0
  obtain⟨ms,c,hc,hl,hm⟩:=h
  refine⟨ms,c,hc,hl,fun i k v hi=>?_⟩
  obtain⟨e0,_,_,h3⟩:=hm0 i k v hi
  obtain⟨e,g1,g2,g3⟩:=hm i k v hi
  exact⟨e,g1,g2,h3.lower g3⟩
 | pmap es=>
  obtain⟨ms0,c0,_,_,hm0⟩:=h0
  obtain⟨ms,c,hc,hl,hm⟩:=h
  refine⟨ms,c,hc,hl,fun i k v hi=>?_⟩
  obtain⟨hk0,e0,_,_,h3⟩:=hm0 i k v hi
  obtain⟨hk,e,g1,g2,g3⟩:=hm i k v hi
  exact⟨hk0,e,g1,g2,h3.lower g3⟩
theorem Sim.upto {g g':Ghost} {st st':St} {w w':World} (s:Sim g st [] w) (s':Sim g' st' [] w') (e:Ext g w g' w') (x:Aj st st'):Sim (g'.upto w' st.nb) (st'.upto st) [] w'/\Ext g w (g'.upto w' st.nb) w':=by
 have hnb:st.nb<=g'.nb:=by rw[s'.nb];exact x.nb
 have dom:∀k,Dom (st'.upto st) [] k->Dom st' [] k:=fun k hk=>by
  cases k with
  | box b=>exact Nat.lt_of_lt_of_le (show b<st.nb from hk) x.nb
  | loc i=>exact hk
 have domO:∀k,Dom (st'.upto st) [] k->Dom st [] k:=fun k hk=>by
  cases k with
  | box b=>exact hk
  | loc i=>exact hk
 refine⟨⟨rfl,s'.nt,s'.below,s'.fits,fun k hk=>?_,fun k k' h h' he=>s'.inj k k' (dom k h) (dom k' h') (by cases k<;>cases k'<;>exact he),fun k hk=>?_,s'.own,fun id b l h hid=>?_,s'.spApart,s'.spLt,fun a ha=>?_,fun b hb=>?_,s'.spTop,s'.spTy,fun b T hb ht=>?_,s'.glob⟩,?_⟩
 ·have h0:=s.obj k (domO k hk)
  have h1:=s'.obj k (dom k hk)
  cases k with
  | box b=>
   have hb:b<st.nb:=hk
   have h1':Gv g' w' (g'.bk b) (st.box b):=by rw[<-x.box b hb];exact h1
   have h2:=Gv.lower (g:=g) (w:=w) (b:=g.at (.box b)) h0 h1'
   rw[s.nb]at h2
   exact h2
  | loc i=>obtain⟨l,hl⟩:=hk;simp at hl
 ·have:=s'.lo k (dom k hk)
  cases k<;>exact this
 ·obtain⟨h1,h2,h3,h4,h5⟩:=s'.spCell id b l h hid
  exact⟨h1,h2,h3,fun k hk=>by have:=h4 k (dom k hk);cases k<;>exact this,h5⟩
 ·rcases ha with ha | ⟨b,h1,h2,h3,h4,h5⟩
  ·obtain⟨q1,q2,q3,q4⟩:=s'.sCell a ha
   exact⟨q1,q2,fun k hk=>by have:=q3 k (dom k hk);cases k<;>exact this,q4⟩
  ·have hd:Dom st' [] (.box b):=by show b<st'.nb;rw[<-s'.nb];exact h2
   refine⟨h4,h5,fun k hk hc=>?_,fun id l h hid _=>?_⟩
   ·cases k with
    | box b'=>
     have hb':b'<st.nb:=hk
     have:=s'.inj (.box b') (.box b) (dom _ hk) hd (by rw[h3]at hc;exact hc)
     cases this
     omega
    | loc i=>obtain⟨l,hl⟩:=hk;simp at hl
   ·have:=(s'.spCell id a.block l h hid).2.2.2.1 (.box b) hd
    exact this h3.symm
 ·obtain⟨h1,h2,h3,h4⟩:=s'.protOk b hb
  refine⟨h1,fun k hk=>by have:=h2 k (dom k hk);cases k<;>exact this,h3,fun a ha=>?_⟩
  rcases ha with ha | ⟨c,q1,q2,q3,q4,q5⟩
  ·exact h4 a ha
  ·rw[q3]
   exact h2 (.box c) (by show c<st'.nb;rw[<-s'.nb];exact q2)
 ·have hb':b<st.nb:=hb
  exact s'.bTy b T (Nat.lt_of_lt_of_le hb' x.nb) ht
 ·exact⟨e.base,e.w0,e.size,by show g.nb<=st.nb;rw[s.nb];exact Nat.le_refl _,e.bk,e.nt,e.sp,fun a ha=>⟨.inl (e.S a ha).1,(e.S a ha).2⟩,e.prot,e.protEq⟩
def C4 (st st':St) (r r':TV):Prop:=∀(g':Ghost) (w':World) (u:Value),Sim g' st' [] w'->Rel g' w' r u->Rel (g'.upto w' st.nb) w' r' u
theorem DK.settle {P:Program} {f:FuncId} {args:List TV} {st:St} {R:TV->St->Prop} (h:DK P f args st fun r st'=>Aj st st'/\∃r',C4 st st' r r'/\R r' (st'.upto st)):DK P f args st R:=by
 refine⟨fun g w vargs s hr=>(h.run g w vargs s hr).mono ?_⟩
 rintro v w' ⟨r,st',g',⟨x,r',hs,hR⟩,s',hrel,e⟩
 obtain⟨s2,e2⟩:=Sim.upto s s' e x
 exact⟨r',st'.upto st,g'.upto w' st.nb,hR,s2,hs g' w' v s' hrel,e2⟩
theorem CallT.settle {P:Program} {f:FuncId} {args:List TV} {sh:List RTy} {st:St} {K:FunR sh (St->Prop)} (h:CallT P f args sh st (FL sh fun r st'=>Aj st st'/\∃r',C4 st st' r r'/\EW sh r' K fun p=>p (st'.upto st))):CallT P f args sh st K:=
 DK.settle (DK.mono h fun r st' hd=>Ke (F:=fun r st'=>Aj st st'/\∃r',C4 st st' r r'/\EW sh r' K fun p=>p (st'.upto st)) (k:=fun p=>p st') hd)
def BQ (st st':St) (xs xs':List TV):Prop:=xs'.length=xs.length/\∀(g':Ghost) (w':World),Sim g' st' [] w'->∀us,AH g' w' xs us->AH (g'.upto w' st.nb) w' xs' us
theorem AH.split {g:Ghost} {w:World} {a b:List TV} {us:List Value} (h:AH g w (a++b) us):AH g w a (us.take a.length)/\AH g w b (us.drop a.length):=by
 have h1:=h.take a.length
 have h2:=h.drop a.length
 rw[List.take_left]at h1
 rw[List.drop_left]at h2
 exact⟨h1,h2⟩
theorem BQ.nil (st st':St):BQ st st' [] []:=⟨rfl,fun g' w' _ us h=>⟨h.1,fun i hi=>absurd hi (Nat.not_lt_zero _)⟩⟩
theorem BQ.app {st st':St} {a b a' b':List TV} (h:BQ st st' a a') (k:BQ st st' b b'):BQ st st' (a++b) (a'++b'):=by
 refine⟨by rw[List.length_append,List.length_append,h.1,k.1],fun g' w' s us hr=>?_⟩
 obtain⟨h1,h2⟩:=hr.split
 have:=(h.2 g' w' s _ h1).append (k.2 g' w' s _ h2)
 rw[List.take_append_drop]at this
 exact this
theorem BQ.one {st st':St} {x x':TV} (h:C4 st st' x x'):BQ st st' [x] [x']:=by
 refine⟨rfl,fun g' w' s us hr=>?_⟩
 refine⟨hr.1,fun i hi=>?_⟩
 match i,hi with
 | 0,_=>exact h g' w' _ s (hr.2 0 (by simp))
theorem AG (st st':St) (k:IntKind) (n:Int):C4 st st' (.int k n) (.int k n):=fun g' w' u _ h=>by cases h;exact .int k n
theorem Cy (st st':St) (b:Bool):C4 st st' (.bool b) (.bool b):=fun g' w' u _ h=>by cases h;exact .bool b
theorem Ci (st st':St) (l:B8):C4 st st' (.str l) (.str l):=fun g' w' u _ h=>by cases h;exact .str l
theorem BQ.bytes (st st':St) (l:B8):BQ st st' (AR l) (AR l):=by
 refine⟨rfl,fun g' w' s us hr=>⟨hr.1,fun i hi=>?_⟩⟩
 have h:=hr.2 i hi
 have e:∀x,x∈AR l->∃b:UInt8,x=Kh b:=fun x hx=>by
  unfold AR at hx
  obtain⟨b,_,rfl⟩:=List.mem_map.1 hx
  exact⟨b,rfl⟩
 obtain⟨b,hb⟩:=e _ (List.getElem_mem hi)
 rw[hb]at h⊢
 unfold Kh at h⊢
 rw[h.int_inv]
 exact .int _ _
theorem Bx.settle {st st':St} {sz n:Nat} {u:TV} {xs xs':List TV} {bs:List Nat} (h:Bx st' sz u n xs bs) (hb:∀x,x∈bs->st.nb<=x) (hx:BQ st st' xs xs'):∃u',Rd sz u' n xs'/\C4 st st' u u':=by
 rcases h with⟨rfl,rfl,rfl,rfl | rfl⟩ | ⟨b,cap,tail,rfl,h1,h2,h3,h4,h5,rfl⟩
 ·have:xs'=[]:=List.eq_nil_of_length_eq_zero hx.1
  subst this
  exact⟨.nilSlice,.inl ⟨rfl,rfl,rfl⟩,fun g' w' u _ h=>by cases h;exact .nilSlice⟩
 ·have:xs'=[]:=List.eq_nil_of_length_eq_zero hx.1
  subst this
  refine⟨.list sz .full 0 [],.inr ⟨_,rfl⟩,fun g' w' u _ h=>?_⟩
  cases h with
  | list _ _ _ _ b1 o1 cap1 us1 hl1 hn1 hc1 hr1 ht1=>exact .list sz .full 0 [] b1 o1 cap1 us1 hl1 hn1 (fun i hi=>absurd hi (Nat.not_lt_zero _)) (fun i hi=>absurd hi (Nat.not_lt_zero _)) ht1
  | listE _ _ a ht1=>exact .listE sz .full a ht1
 ·refine⟨.list sz .non n xs',.inr ⟨_,rfl⟩,fun g' w' u s h=>?_⟩
  cases h with
  | ms _ _ _ _ _ hlt hn=>
  have hlt':Dom st' [] (.box b):=h1
  have ho:=s.obj (.box b) hlt'
  have ho':Gv g' w' (g'.bk b) (.cells (xs++tail)):=by rw[<-h2];exact ho
  obtain⟨cs,hc,hr⟩:=ho'
  have hq:=(hx.2 g' w' s _ hr.split.1)
  have hlen:xs.length<=cs.length:=by have:=hr.1;rw[List.length_append]at this;omega
  refine .list sz .non n xs' (g'.bk b) 0 cap (fun i=>cs.getD i Go.undef) (by rw[hx.1,h4]) hn (fun i hi=>?_) (fun i hi=>?_) trivial
  ·have hi':i<cs.length:=by rw[hx.1]at hi;omega
   have hv:cs[i]? =some (cs.getD i Go.undef):=by rw[List.getD_eq_getElem?_getD,List.getElem?_eq_getElem hi'];rfl
   have hg:=hc.get hv
   rw[Nat.zero_add]
   exact⟨.inr ⟨b,hb b (.head _),hlt,rfl,rfl,_,hg⟩,hg⟩
  ·have:=hq.2 i hi
   have e:(cs.take xs.length).getD i Go.undef=cs.getD i Go.undef:=by
    have hi':i<xs.length:=by rw[hx.1]at hi;exact hi
    rw[List.getD_eq_getElem?_getD,List.getD_eq_getElem?_getD,List.getElem?_take,if_pos hi']
   rw[e]at this
   exact this
mutual
theorem VlO.settle {st st':St}:∀{v:Vl} {cs:List TV} {fp:List Nat},VlO st' v cs fp->(∀x,x∈fp->st.nb<=x)->∃cs',VlR St.zero v cs'/\BQ st st' cs cs'
 | .mk s l f,cs,fp,h,hb=>by
  unfold VlO at h
  obtain⟨ub,ul,uf,xl,xf,bb,bl,bf,fl,ff,rfl,h1,h2,h3,h4,h5,rfl⟩:=h
  have m1:∀{x},x∈bb->st.nb<=x:=fun hx=>hb _ (List.mem_append_left _ hx)
  have m2:∀{x},x∈bl->st.nb<=x:=fun hx=>hb _ (List.mem_append_right _ (List.mem_append_left _ hx))
  have m3:∀{x},x∈fl->st.nb<=x:=fun hx=>hb _ (List.mem_append_right _ (List.mem_append_right _ (List.mem_append_left _ hx)))
  have m4:∀{x},x∈bf->st.nb<=x:=fun hx=>hb _ (List.mem_append_right _ (List.mem_append_right _ (List.mem_append_right _ (List.mem_append_left _ hx))))
  have m5:∀{x},x∈ff->st.nb<=x:=fun hx=>hb _ (List.mem_append_right _ (List.mem_append_right _ (List.mem_append_right _ (List.mem_append_right _ hx))))
  obtain⟨xl',q1,q2⟩:=VsO.settle h3 fun x hx=>m3 hx
  obtain⟨xf',q3,q4⟩:=FsO.settle h5 fun x hx=>m5 hx
  obtain⟨ub',r1,r2⟩:=h1.settle (fun x hx=>m1 hx) (BQ.bytes st st' _)
  obtain⟨ul',r3,r4⟩:=h2.settle (fun x hx=>m2 hx) q2
  obtain⟨uf',r5,r6⟩:=h4.settle (fun x hx=>m4 hx) q4
  refine⟨Aq s ub' ul' uf',?_,?_⟩
  ·unfold VlR
   exact⟨ub',ul',uf',xl',xf',rfl,.of_rd r1,.of_rd r3,q1,.of_rd r5,q3⟩
  ·have c:∀{x x':TV} {l l':List TV},C4 st st' x x'->BQ st st' l l'->BQ st st' (x::l) (x'::l'):=fun h k=>(BQ.one h).app k
   exact c (AG _ _ _ _) (c (Cy _ _ _) (c (Cy _ _ _) (c (Ci _ _ _) (c (AG _ _ _ _) (c (AG _ _ _ _) (c (AG _ _ _ _) (c (AG _ _ _ _) (c (AG _ _ _ _) (c (Ci _ _ _) (c r2 (c r4 (c r6 (BQ.nil _ _)))))))))))))
theorem VsO.settle {st st':St}:∀{l:List Vl} {cs:List TV} {fp:List Nat},VsO st' l cs fp->(∀x,x∈fp->st.nb<=x)->∃cs',VsR St.zero l cs'/\BQ st st' cs cs'
 | [],cs,fp,h,hb=>by
  unfold VsO at h
  obtain⟨rfl,rfl⟩:=h
  exact⟨[],by unfold VsR;rfl,BQ.nil _ _⟩
 | v::r,cs,fp,h,hb=>by
  unfold VsO at h
  obtain⟨a,b,p,q,rfl,rfl,h1,h2⟩:=h
  obtain⟨a',q1,q2⟩:=VlO.settle h1 fun x hx=>hb x (List.mem_append_left _ hx)
  obtain⟨b',q3,q4⟩:=VsO.settle h2 fun x hx=>hb x (List.mem_append_right _ hx)
  exact⟨a'++b',by unfold VsR;exact⟨a',b',rfl,q1,q3⟩,q2.app q4⟩
theorem FdO.settle {st st':St}:∀{d:Fd} {cs:List TV} {fp:List Nat},FdO st' d cs fp->(∀x,x∈fp->st.nb<=x)->∃cs',FdR St.zero d cs'/\BQ st st' cs cs'
 | .mk key v,cs,fp,h,hb=>by
  unfold FdO at h
  obtain⟨c,rfl,h1⟩:=h
  obtain⟨a',q1,q2⟩:=VlO.settle h1 hb
  exact⟨.str key::a',by unfold FdR;exact⟨a',rfl,q1⟩,(BQ.one (Ci _ _ _)).app q2⟩
theorem FsO.settle {st st':St}:∀{l:List Fd} {cs:List TV} {fp:List Nat},FsO st' l cs fp->(∀x,x∈fp->st.nb<=x)->∃cs',FsR St.zero l cs'/\BQ st st' cs cs'
 | [],cs,fp,h,hb=>by
  unfold FsO at h
  obtain⟨rfl,rfl⟩:=h
  exact⟨[],by unfold FsR;rfl,BQ.nil _ _⟩
 | d::r,cs,fp,h,hb=>by
  unfold FsO at h
  obtain⟨a,b,p,q,rfl,rfl,h1,h2⟩:=h
  obtain⟨a',q1,q2⟩:=FdO.settle h1 fun x hx=>hb x (List.mem_append_left _ hx)
  obtain⟨b',q3,q4⟩:=FsO.settle h2 fun x hx=>hb x (List.mem_append_right _ hx)
  exact⟨a'++b',by unfold FsR;exact⟨a',b',rfl,q1,q3⟩,q2.app q4⟩
end
theorem Jq {st st':St} {cs cs':List TV} (h:BQ st st' cs cs'):C4 st st' (.agg cs) (.agg cs'):=fun g' w' u s hr=>by
 cases hr with
 | agg _ vs hl hr=>
  have:=h.2 g' w' s vs ⟨hl,hr⟩
  exact .agg cs' vs this.1 this.2
theorem Kf {v:Vl} (hN:v.sz<=2000000) (hC:v.cnt<=65536) {st:St} {cs:List TV} {K:Int->Bool->Bool->B8->Int->Int->Int->Int->Int->B8->TV->TV->TV->St->Prop} (h:VlR st v cs)
  (hk:∀ub ul uf st',VlR St.zero v (Aq v.sc ub ul uf)->Ah ub=true->Ah ul=true->Ah uf=true->Aj st st'->st'.nb=st.nb->K v.sc.kind v.sc.b v.sc.neg v.sc.dg v.sc.ex v.sc.tk v.sc.td v.sc.tn v.sc.tz v.sc.text ub ul uf st'):
  CallT PR DP [.agg cs] [.agg [.int .i64,.bool,.bool,.str,.int .i64,.int .i64,.int .i64,.int .i64,.int .i64,.str,.tv,.tv,.tv]] st K:=by
 refine CallT.settle (copy_ok hN hC h fun ub ul uf st' fp g o1 o2 o3 nd lo e=>?_)
 obtain⟨cs',q1,q2⟩:=g.settle lo
 refine⟨e,.agg cs',Jq q2,?_⟩
 obtain⟨s,l,f⟩:=v
 have q0:=q1
 obtain⟨ub',ul',uf',xl,xf,rfl,w1,w2,_,w4,_⟩:=VlR.cells q0
 exact hk ub' ul' uf' (st'.upto st) q1 w1.one w2.one w4.one (H8 e) rfl
end
end Go.TVF
section
namespace Go.TVF
open Go.IntKind(i64 u8)
open Go Go.Proofs Go.ChangeShapes
section
variable {H:Type} {enc:TypeId×Value->H} {P:Program} {w:World} {base:Nat} {held:Bool}
def Op (enc:TypeId×Value->H) (P:Program) (w:World) (base:Nat) (held:Bool) (n c:Nat) (S:List TV->Prop) (e:TypeId):Prop:=
 P.cellsOf e=c/\∀vs x,DataW.trod enc P w base (fun _=>true) held n e vs=some x->∃tv,AH (Ghost.start w) w tv vs/\tv.length=c/\S tv
end
end Go.TVF
end
section
namespace Go.TVF
open Go.IntKind(i64 u8)
open Go Go.Proofs Go.ChangeShapes
structure Blk {H:Type} (bk:DataW H->Nat):Prop where
 one:∀d,1<=bk d
 str:∀b,b.length+1<=bk (.lit (.string b))
 sl:∀e s,(e.map bk).sum+1<=bk (.slice e s)
 agg:∀p,(p.map bk).sum+1<=bk (.agg p)
section
variable {H:Type} {enc:TypeId×Value->H} {P:Program} {w:World} {base:Nat} {held:Bool} {bk:DataW H->Nat}
def OpQ (bk:DataW H->Nat) (enc:TypeId×Value->H) (P:Program) (w:World) (base:Nat) (held:Bool) (n c:Nat) (S:Nat->List TV->Prop) (e:TypeId):Prop:=
 P.cellsOf e=c/\∀vs x,DataW.trod enc P w base (fun _=>true) held n e vs=some x->∃tv,AH (Ghost.start w) w tv vs/\tv.length=c/\S (bk x.1) tv
def cellQ (c:CTy) (k:Nat) (tv:List TV):Prop:=Mz [c] tv/\1<=k
def strQ (k:Nat) (tv:List TV):Prop:=∃l:B8,tv=[.str l]/\l.length<=maxLen/\l.length+1<=k
theorem opq_cell {n:Nat} {c:CTy} {e:TypeId} (hb:Blk bk) (h:Vh P c e) (hc:P.cellsOf e=1):OpQ bk enc P w base held n 1 (cellQ c) e:=⟨hc,fun vs x hd=>by
 obtain⟨v,u,rfl,hr,hf⟩:=Ta (Ghost.start w) h hd
 exact⟨[v],.cons hr (.nil _ _),rfl,hf,hb.one _⟩⟩
theorem opq_str {n:Nat} {e:TypeId} (hb:Blk bk) (h:P.underlying e=some .string) (hc:P.cellsOf e=1):OpQ bk enc P w base held n 1 strQ e:=⟨hc,fun vs x hd=>by
 obtain⟨s,rfl,rfl,hs⟩:=DataW.trod_string h hd
 exact⟨[_],.cons (L9 (Ghost.start w) w s) (.nil _ _),rfl,_,rfl,by rw[Array.length_toList];exact hs,hb.str _⟩⟩
def SlQ (c:Nat) (S:Nat->List TV->Prop) (k:Nat) (v:TV):Prop:=
 v= .nilSlice∨∃ps:List (List TV×Nat),v= .list c .non ps.length (ps.map (·.1)).flatten/\(∀p,p∈ps->p.1.length=c/\S p.2 p.1)/\(ps.map (·.2)).sum+1<=k
theorem opq_slice {n c:Nat} {S:Nat->List TV->Prop} {t e:TypeId} (hb:Blk bk) (ht:P.underlying t=some (.slice e)) (ht1:P.cellsOf t=1) (hc1:1<=c) (hE:∀m,m<n->OpQ bk enc P w base held m c S e):
  OpQ bk enc P w base held n 1 (fun k tv=>∃v,tv=[v]/\SlQ c S k v) t:=by
 refine⟨ht1,fun vs x h=>?_⟩
 rcases DataW.trod_slice ht h with⟨rfl,_⟩ | ⟨a,len,cap,elems,rest,m,rfl,rfl,rfl,hbk,hl,hm,hel,hi,hsp,_⟩
 ·exact⟨[.nilSlice],.cons .nilSlice (.nil _ _),rfl,_,rfl,.inl rfl⟩
 ·obtain⟨hcE,hE⟩:=hE m (by omega)
  rw[hcE]at hi hsp
  have hbs:=hb.sl (elems.map (·.1)) (rest.map (·.1))
  rw[List.map_map]at hbs
  by_cases hcap:cap=0
  ·subst hcap
   obtain rfl:len=0:=by omega
   exact⟨[.list c .non 0 []],.cons (.listE _ _ _ (fun id h=>by cases h)) (.nil _ _),rfl,_,rfl,.inr ⟨[],rfl,(fun ck h=>by cases h),by simp only[List.map_nil,List.sum_nil];omega⟩⟩
  ·obtain⟨b,o,spot⟩:=a
   have hspot:spot=none:=by
    have key:∀(i:Nat) (l:List (DataW H×List MemPlace)) (k:Nat),k<l.length->i=0->(w.cells? base ((⟨b,o,spot⟩:Addr).add (i*c)) c).bind (DataW.trod enc P w base (fun _=>true) held m e)=l[k]?->spot=none:=by
     intro i l k hk hi0 h
     subst hi0
     rw[List.getElem?_eq_getElem hk]at h
     obtain⟨vs,h1,_⟩:=Option.bind_eq_some_iff.1 h
     obtain⟨_,hvl,hvc⟩:=World.cells?_some h1
     have:=World.cell?_spot ((hvc 0 (by omega)).trans (List.getElem?_eq_getElem (show 0<vs.length by omega)))
     rw[Nat.zero_mul]at this
     exact this
    by_cases h0:0<len
    ·exact key 0 elems 0 (by omega) rfl (hi 0 h0)
    ·obtain⟨hr,hs⟩:=hsp rfl
     exact key _ rest 0 (by omega) (by omega) (hs 0 (by omega))
   subst hspot
   have each:∀i (hil:i<len),∃tv vs,AH (Ghost.start w) w tv vs/\tv.length=c/\S (bk (elems[i]'(by omega)).1) tv/\vs.length=c/\∀j,j<c->w.cell? ⟨b,o+(i*c+j),none⟩=some (vs.getD j Go.undef):=by
    intro i hil
    have h:=hi i hil
    rw[List.getElem?_eq_getElem (by omega)]at h
    obtain⟨vs,h1,h2⟩:=Option.bind_eq_some_iff.1 h
    obtain⟨tv,hr,htl,hf⟩:=hE vs _ h2
    obtain⟨_,hvl,hvc⟩:=World.cells?_some h1
    refine⟨tv,vs,hr,htl,hf,hvl,fun j hj=>?_⟩
    have:=hvc j (by omega)
    rw[Deep.add_add,RW]at this
    rw[this]
    simp[List.getD,show j<vs.length by omega]
   have build:∀k,k<=len->∃ps:List (List TV×Nat),ps.length=k/\(∀p,p∈ps->p.1.length=c/\S p.2 p.1)/\ps.map (·.2)=(elems.take k).map (fun y=>bk y.1)/\(ps.map (·.1)).flatten.length=k*c/\∀i (h:i<(ps.map (·.1)).flatten.length),∃u,w.cell? ⟨b,o+i,none⟩=some u/\Rel (Ghost.start w) w (ps.map (·.1)).flatten[i] u:=by
    intro k
    induction k with
    | zero=>intro _;exact⟨[],rfl,(fun ck h=>by cases h),by simp,by simp,fun i h=>absurd h (Nat.not_lt_zero _)⟩
    | succ k ih=>
     intro hk
     obtain⟨ps,h0,h1,hm1,h2,h3⟩:=ih (by omega)
     obtain⟨tv,vs,hr,htl,hf,hvl,hvc⟩:=each k (by omega)
     have hfl:((ps++[(tv,bk (elems[k]'(by omega)).1)]).map (·.1)).flatten=(ps.map (·.1)).flatten++tv:=by simp
     refine⟨ps++[(tv,bk (elems[k]'(by omega)).1)],by simp[h0],fun p h=>?_,?_,by rw[hfl,List.length_append,h2,htl,Nat.succ_mul],fun i h=>?_⟩
     ·rcases List.mem_append.1 h with h | h
      ·exact h1 p h
      ·rw[List.mem_singleton.1 h];exact⟨htl,hf⟩
     ·rw[List.map_append,hm1,List.take_succ_eq_append_getElem (by omega),List.map_append];rfl
     ·simp only[hfl]at h⊢
      by_cases hix:i<(ps.map (·.1)).flatten.length
      ·rw[List.getElem_append_left hix];exact h3 i hix
      ·rw[List.getElem_append_right (by omega)]
       rw[List.length_append]at h
       have hj:i-(ps.map (·.1)).flatten.length<tv.length:=by omega
       refine⟨vs.getD (i-(ps.map (·.1)).flatten.length) Go.undef,?_,hr.2 _ hj⟩
       have:=hvc (i-(ps.map (·.1)).flatten.length) (by omega)
       rw[show o+i=o+(k*c+(i-(ps.map (·.1)).flatten.length)) by rw[<-h2];omega]
       exact this
   obtain⟨ps,h0,h1,hm1,h2,h3⟩:=build len (Nat.le_refl _)
   refine⟨[.list c .non ps.length (ps.map (·.1)).flatten],.cons ?_ (.nil _ _),rfl,_,rfl,.inr ⟨ps,rfl,h1,?_⟩⟩
   ·have hu:∀i,∃u,(h:i<(ps.map (·.1)).flatten.length)->w.cell? ⟨b,o+i,none⟩=some u/\Rel (Ghost.start w) w (ps.map (·.1)).flatten[i] u:=fun i=>by
     by_cases h:i<(ps.map (·.1)).flatten.length
     ·obtain⟨u,hu⟩:=h3 i h
      exact⟨u,fun _=>hu⟩
     ·exact⟨Go.undef,fun h'=>absurd h' h⟩
    rw[h0]
    refine .list _ _ _ _ b o cap (fun i=>Classical.choose (hu i)) h2 hl (fun i hi=>?_) (fun i hi=>(Classical.choose_spec (hu i) hi).2) trivial
    have:=(Classical.choose_spec (hu i) hi).1
    exact⟨⟨rfl,_,this⟩,this⟩
   ·rw[hm1,List.take_of_length_le (by omega)]
    exact hbs
def Pe (bk:DataW H->Nat) (enc:TypeId×Value->H) (P:Program) (w:World) (base:Nat) (held:Bool) (n:Nat):List (Nat×(Nat->List TV->Prop))->List Field->Nat->Prop
 | [],[],_=>True
 | S::Ss,f::fs,o=>f.offset=o/\OpQ bk enc P w base held n S.1 S.2 f.type/\Pe bk enc P w base held n Ss fs (o+S.1)
 | _,_,_=>False
def SJ:List (Nat×(Nat->List TV->Prop))->Nat->List TV->Prop
 | [],_,xs=>xs=[]
 | S::Ss,k,xs=>∃a b k1 k2,xs=a++b/\a.length=S.1/\S.2 k1 a/\SJ Ss k2 b/\k1+k2<=k
def Pq:List (Nat×(Nat->List TV->Prop))->Nat
 | []=>0
 | S::Ss=>S.1+Pq Ss
theorem Mh {n:Nat} {vs:List Value}:∀(Ss:List (Nat×(Nat->List TV->Prop))) (fs:List Field) (o:Nat) (xs:List (DataW H×List MemPlace)),Pe bk enc P w base held n Ss fs o->xs.length=fs.length->vs.length=o+Pq Ss->
  (∀(i:Nat) (f:Field),fs[i]? =some f->DataW.trod enc P w base (fun _=>true) held n f.type ((vs.drop f.offset).take (P.cellsOf f.type))=xs[i]?)->∃tv,AH (Ghost.start w) w tv (vs.drop o)/\tv.length=Pq Ss/\SJ Ss (xs.map (fun y=>bk y.1)).sum tv
 | [],[],o,xs,_,_,hl,_=>⟨[],by rw[List.drop_of_length_le (by simp[Pq]at hl;omega)];exact .nil _ _,rfl,rfl⟩
 | S::Ss,f::fs,o,[],_,hx,_,_=>by simp at hx
 | S::Ss,f::fs,o,x::xs,ht,hx,hl,hd=>by
  obtain⟨h1,⟨h2,h3⟩,h4⟩:=ht
  have hd0:=hd 0 f rfl
  rw[h1,h2]at hd0
  obtain⟨tv0,hr,htl,hf⟩:=h3 _ _ hd0
  obtain⟨tv,hr',hl',hf'⟩:=Mh (n:=n) (vs:=vs) Ss fs (o+S.1) xs h4 (by simpa using hx) (by simp only[Pq]at hl;omega) (fun i f' hi=>by simpa using hd (i+1) f' (by simpa using hi))
  refine⟨tv0++tv,?_,by simp[hl',htl,Pq],tv0,tv,_,_,rfl,htl,hf,hf',by simp only[List.map_cons,List.sum_cons];exact Nat.le_refl _⟩
  have hlt:o+S.1<=vs.length:=by simp only[Pq]at hl;omega
  have e:vs.drop o=(vs.drop o).take S.1++vs.drop (o+S.1):=by rw[<-List.drop_drop,List.take_append_drop]
  rw[e]
  exact AH.append hr hr'
 | [],f::fs,o,xs,ht,_,_,_=>ht.elim
 | S::Ss,[],o,xs,ht,_,_,_=>ht.elim
theorem opq_struct {n c:Nat} {Ss:List (Nat×(Nat->List TV->Prop))} {e:TypeId} {fs:Array Field} (hb:Blk bk) (ht:P.underlying e=some (.struct fs)) (hc:P.cellsOf e=c) (hl:Pq Ss=c) (hf:∀m,m<n->Pe bk enc P w base held m Ss fs.toList 0):
  OpQ bk enc P w base held n c (fun k tv=>∃k',k'+1<=k/\SJ Ss k' tv) e:=⟨hc,fun vs x hd=>by
 obtain⟨xs,m,rfl,rfl,hvl,hx,hi⟩:=DataW.trod_struct ht hd
 obtain⟨tv,h1,h2,h3⟩:=Mh (bk:=bk) (enc:=enc) (P:=P) (w:=w) (base:=base) (held:=held) (n:=m) (vs:=vs) Ss fs.toList 0 xs (hf m (by omega)) (by simpa using hx) (by omega) (fun i f h=>hi i f (by simpa using h))
 refine⟨tv,by simpa using h1,by omega,_,?_,h3⟩
 have:=hb.agg (xs.map (·.1))
 rw[List.map_map]at this
 exact this⟩
end
end Go.TVF
end
namespace Go.TVF
open Go.IntKind(i64 u8)
open Go Go.Proofs
section
abbrev decQs:List (Nat×(Nat->List TV->Prop)):=[(1,cellQ .bool),(1,strQ),(1,cellQ (.int .i64))]
abbrev timeQs:List (Nat×(Nat->List TV->Prop)):=[(1,cellQ (.int .i64)),(1,cellQ (.int .i64)),(1,cellQ (.int .i64)),(1,cellQ (.int .i64))]
def valQ (k:Nat) (tv:List TV):Prop:=∃v:Vl,VlR St.zero v tv/\v.sz<=k
def fldQ (k:Nat) (tv:List TV):Prop:=∃d:Fd,FdR St.zero d tv/\d.sz<=k
abbrev Kw (c:Nat) (S:Nat->List TV->Prop) (k:Nat) (tv:List TV):Prop:=∃v,tv=[v]/\SlQ c S k v
abbrev inQ (Ss:List (Nat×(Nat->List TV->Prop))) (k:Nat) (tv:List TV):Prop:=∃k',k'+1<=k/\SJ Ss k' tv
abbrev valQs:List (Nat×(Nat->List TV->Prop)):=[(1,cellQ (.int .i64)),(1,cellQ .bool),(3,inQ decQs),(4,inQ timeQs),(1,strQ),(1,Kw 1 (cellQ (.int .u8))),(1,Kw 13 valQ),(1,Kw 14 fldQ)]
abbrev fldQs:List (Nat×(Nat->List TV->Prop)):=[(1,strQ),(13,valQ)]
theorem SlQ.bytes {k:Nat} {v:TV} (h:SlQ 1 (cellQ (.int .u8)) k v):∃l:B8,SlR St.zero 1 v l.length (AR l)/\l.length<=k:=by
 rcases h with rfl | ⟨ps,rfl,h,hk⟩
 ·exact⟨[],.inl (.inl ⟨rfl,rfl,rfl⟩),Nat.zero_le _⟩
 ·have:∃l:B8,l.length=ps.length/\(ps.map (·.1)).flatten=AR l/\l.length<=(ps.map (·.2)).sum:=by
   clear hk
   induction ps with
   | nil=>exact⟨[],rfl,rfl,Nat.zero_le _⟩
   | cons p r ih=>
    obtain⟨l,h1,h2,h3⟩:=ih (fun q hq=>h q (.tail _ hq))
    obtain⟨hl,⟨n,ys,hp,hw,rfl⟩,h1k⟩:=h p (.head _)
    have hn:0<=n/\n<=255:=by simpa [Lit.wf,IntKind.min,IntKind.max,IntKind.signed,IntKind.bits]using hw
    refine⟨n.toNat.toUInt8::l,by simp[h1],?_,by simp only[List.length_cons,List.map_cons,List.sum_cons];omega⟩
    rw[List.map_cons,List.flatten_cons,hp,h2]
    simp only[AR,List.map_cons,Kh,List.cons_append,List.nil_append,List.cons.injEq,and_true,TV.int.injEq,true_and]
    have:=Sg n.toNat (by omega)
    omega
  obtain⟨l,h1,h2,h3⟩:=this
  exact⟨l,.inl (.inr ⟨.non,by rw[h1,h2]⟩),by omega⟩
theorem SlQ.vals {k:Nat} {v:TV} (h:SlQ 13 valQ k v):∃l xl,SlR St.zero 13 v l.length xl/\VsR St.zero l xl/\BB l<=k:=by
 rcases h with rfl | ⟨ps,rfl,h,hk⟩
 ·exact⟨[],[],.inl (.inl ⟨rfl,rfl,rfl⟩),by unfold VsR;rfl,by unfold BB;exact Nat.zero_le _⟩
 ·have:∃l:List Vl,l.length=ps.length/\VsR St.zero l (ps.map (·.1)).flatten/\BB l<=(ps.map (·.2)).sum:=by
   clear hk
   induction ps with
   | nil=>exact⟨[],rfl,by unfold VsR;rfl,by unfold BB;exact Nat.zero_le _⟩
   | cons p r ih=>
    obtain⟨l,h1,h2,h3⟩:=ih (fun q hq=>h q (.tail _ hq))
    obtain⟨hl,v,hv,hz⟩:=h p (.head _)
    exact⟨v::l,by simp[h1],by unfold VsR;exact⟨_,_,by simp,hv,h2⟩,by unfold BB;simp only[List.map_cons,List.sum_cons];omega⟩
  obtain⟨l,h1,h2,h3⟩:=this
  exact⟨l,_,.inl (.inr ⟨.non,by rw[h1]⟩),h2,by omega⟩
theorem SlQ.flds {k:Nat} {v:TV} (h:SlQ 14 fldQ k v):∃l xl,SlR St.zero 14 v l.length xl/\FsR St.zero l xl/\Bv l<=k:=by
 rcases h with rfl | ⟨ps,rfl,h,hk⟩
 ·exact⟨[],[],.inl (.inl ⟨rfl,rfl,rfl⟩),by unfold FsR;rfl,by unfold Bv;exact Nat.zero_le _⟩
 ·have:∃l:List Fd,l.length=ps.length/\FsR St.zero l (ps.map (·.1)).flatten/\Bv l<=(ps.map (·.2)).sum:=by
   clear hk
   induction ps with
   | nil=>exact⟨[],rfl,by unfold FsR;rfl,by unfold Bv;exact Nat.zero_le _⟩
   | cons p r ih=>
    obtain⟨l,h1,h2,h3⟩:=ih (fun q hq=>h q (.tail _ hq))
    obtain⟨hl,v,hv,hz⟩:=h p (.head _)
    exact⟨v::l,by simp[h1],by unfold FsR;exact⟨_,_,by simp,hv,h2⟩,by unfold Bv;simp only[List.map_cons,List.sum_cons];omega⟩
  obtain⟨l,h1,h2,h3⟩:=this
  exact⟨l,_,.inl (.inr ⟨.non,by rw[h1]⟩),h2,by omega⟩
theorem Eu {kd:IntKind} {k:Nat} {tv:List TV} (h:cellQ (.int kd) k tv):∃n,tv=[.int kd n]:=by
 obtain⟨⟨n,ys,rfl,_,rfl⟩,_⟩:=h;exact⟨n,rfl⟩
theorem FO {k:Nat} {tv:List TV} (h:cellQ .bool k tv):∃b,tv=[.bool b]:=by
 obtain⟨⟨n,ys,rfl,rfl⟩,_⟩:=h;exact⟨n,rfl⟩
theorem each_field {k:Nat} {tv:List TV} (h:inQ fldQs k tv):fldQ k tv:=by
 obtain⟨k0,hk0,_,_,k1,k2,rfl,_,⟨key,rfl,_,hkey⟩,⟨_,_,k3,k4,rfl,_,⟨v,hv,hz⟩,rfl,h2⟩,h1⟩:=h
 refine⟨.mk key v,by unfold FdR;exact⟨_,by simp,hv⟩,by unfold Fd.sz;omega⟩
theorem each_value {k:Nat} {tv:List TV} (h:inQ valQs k tv):valQ k tv:=by
 obtain⟨k0,hk0,_,_,a1,r1,rfl,_,q1,⟨_,_,a2,r2,rfl,_,q2,⟨_,_,a3,r3,rfl,_,q3,⟨_,_,a4,r4,rfl,_,q4,⟨_,_,a5,r5,rfl,_,q5,⟨_,_,a6,r6,rfl,_,q6,⟨_,_,a7,r7,rfl,_,q7,⟨_,_,a8,r8,rfl,_,q8,rfl,h8⟩,h7⟩,h6⟩,h5⟩,h4⟩,h3⟩,h2⟩,h1⟩:=h
 obtain⟨kd,rfl⟩:=Eu q1
 obtain⟨bo,rfl⟩:=FO q2
 obtain⟨d0,hd0,_,_,d1,d2,rfl,_,p1,⟨_,_,d3,d4,rfl,_,⟨dg,rfl,_,hdg⟩,⟨_,_,d5,d6,rfl,_,p3,rfl,g3⟩,g2⟩,g1⟩:=q3
 obtain⟨ng,rfl⟩:=FO p1
 obtain⟨ex,rfl⟩:=Eu p3
 obtain⟨_,_,_,_,_,_,rfl,_,t1,⟨_,_,_,_,rfl,_,t2,⟨_,_,_,_,rfl,_,t3,⟨_,_,_,_,rfl,_,t4,rfl,_⟩,_⟩,_⟩,_⟩:=q4
 obtain⟨tk,rfl⟩:=Eu t1
 obtain⟨td,rfl⟩:=Eu t2
 obtain⟨tn,rfl⟩:=Eu t3
 obtain⟨tz,rfl⟩:=Eu t4
 obtain⟨tx,rfl,_,htx⟩:=q5
 obtain⟨ub,rfl,q6⟩:=q6
 obtain⟨ul,rfl,q7⟩:=q7
 obtain⟨uf,rfl,q8⟩:=q8
 obtain⟨bs,hb,hbl⟩:=q6.bytes
 obtain⟨l,xl,hl,hlv,hlz⟩:=q7.vals
 obtain⟨f,xf,hf,hfv,hfz⟩:=q8.flds
 refine⟨.mk ⟨kd,bo,ng,dg,ex,tk,td,tn,tz,tx,bs⟩ l f,?_,by rw[szs];simp only;omega⟩
 unfold VlR
 exact⟨ub,ul,uf,xl,xf,by simp,hb,hl,hlv,hf,hfv⟩
section
variable {H:Type} {enc:TypeId×Value->H} {P:Program} {w:World} {base b0:Nat} {held:Bool} {bk:DataW H->Nat}
end
end
section
def IsValU (t:TV):Prop:=∃v cs,t= .agg cs/\VlR St.zero v cs
section
variable {H:Type} {enc:TypeId×Value->H} {P:Program} {w:World} {base b0:Nat} {held:Bool} {bk:DataW H->Nat}
theorem open_valU {t:TypeId} {fs:Array Field} {v:Value} {d:DataW H} {p:List MemPlace} (ht:P.underlying t=some (.struct fs)) (hop:∀n,OpQ bk enc P w base held n 13 valQ t)
  (hval:Value.okWide P w .any b0 t v) (h:DataW.Trod enc P w base (fun _=>true) held t v d p):∃tv,Rel (Ghost.start w) w tv v/\IsValU tv:=by
 simp only[Value.okWide,ht]at hval
 obtain⟨vs,rfl,_,_⟩:=hval
 obtain⟨n,hn⟩:=h
 obtain⟨cs,hr,_,vl,hv,hz⟩:=(hop n).2 _ _ hn
 have:=Rel.agg cs vs.toList hr.1 hr.2
 rw[Array.toArray_toList]at this
 exact⟨_,this,vl,cs,rfl,hv⟩
end
end
section
abbrev RX:List CTy:=[.int .i64,.bool,.bool,.str,.int .i64,.int .i64,.int .i64,.int .i64,.int .i64,.str,.tv,.tv,.tv]
theorem SlR.zero {sz n:Nat} {v:TV} {xs:List TV} (h:SlR St.zero sz v n xs):Rd sz v n xs:=by
 rcases h with h | ⟨b,_,_,_,_,hb,_⟩
 ·exact h
 ·exact absurd hb (Nat.not_lt_zero _)
theorem Rd.isP {sz n i:Nat} {u:TV} {xs:List TV} (h:Rd sz u n xs) (hi:i<n):isPtr (ixT sz u i)=true:=(SlR.of_rd (st:=St.zero) h).isPtr hi
abbrev AT:=Bool×B8×Int
def Ca (s:AT):List TV:=[.bool s.1,.str s.2.1,.int .i64 s.2.2]
def BA (p:TV) (ss:List AT):Prop:=Rd 3 p ss.length (ss.flatMap Ca)
theorem Dr:∀ss:List AT,(ss.flatMap Ca).length=ss.length*3
 | []=>rfl
 | s::r=>by
  rw[List.flatMap_cons,List.length_append,Dr r,List.length_cons]
  show 3+_=_
  omega
theorem GA:∀{ss:List AT} {k:Nat} {s:AT},ss[k]? =some s->∀j,(ss.flatMap Ca)[k*3+j]? =if j<3 then(Ca s)[j]? else(ss.flatMap Ca)[k*3+j]?
 | [],k,s,h,j=>by simp at h
 | x::r,0,s,h,j=>by
  simp only[List.getElem?_cons_zero,Option.some.injEq]at h
  subst h
  split
  ·rename_i hj
   rw[List.flatMap_cons,Nat.zero_mul,Nat.zero_add,List.getElem?_append_left (by exact hj)]
  ·rfl
 | x::r,k+1,s,h,j=>by
  rw[List.getElem?_cons_succ]at h
  have ih:=GA h j
  have e:(x::r).flatMap Ca=Ca x++r.flatMap Ca:=List.flatMap_cons ..
  have hl:(Ca x).length=3:=rfl
  rw[e,List.getElem?_append_right (by omega),hl,show(k+1)*3+j-3=k*3+j by omega]
  exact ih
theorem el3 {st:St} {p:TV} {ss:List AT} (h:BA p ss) {i:Int} {k:Nat} {s:AT} (hi:i=k) (hk:ss[k]? =some s) {f:Fun [.bool,.str,.int .i64] Prop} (hf:f s.1 s.2.1 s.2.2):
  (0<=i/\i<(lenZ 3 p:Int))/\Ai ((Al st [] (.t (ixT 3 p (Int.toNat i))) 0 3).map TV.agg) fun x=>BG [.bool,.str,.int .i64] x f:=by
 subst hi
 have hlt:=(List.getElem?_eq_some_iff.1 hk).1
 have h0:=GA hk 0
 have h1:=GA hk 1
 have h2:=GA hk 2
 have hl:((ss.flatMap Ca).drop (k*3)).take 3=Ca s:=by
  refine List.ext_getElem? fun j=>?_
  rw[List.getElem?_take]
  split
  ·rename_i hj
   rw[List.getElem?_drop,GA hk j,if_pos hj]
  ·rename_i hj
   rw[List.getElem?_eq_none]
   show 3<=j
   omega
 have hf':BG [.bool,.str,.int .i64] (.agg (Ca s)) f:=hf
 refine⟨⟨by omega,by rw[Rd.lenZ h];omega⟩,Ad (x:= .agg (Ca s)) ?_ hf'⟩
 rw[Int.toNat_natCast,(SlR.of_rd (st:=st) h).ldc (Dr ss) hlt,hl];rfl
theorem fl3 {st:St} {p:TV} {ss:List AT} (h:BA p ss) {i:Int} {k j:Nat} {s:AT} (hi:i=k) (hk:ss[k]? =some s) (hj:j<3) {x:TV} (hx:(Ca s)[j]? =some x) {f:TV->Prop} (hf:f x):
  (0<=i/\i<(lenZ 3 p:Int))/\need (TVF.isPtr (ixT 3 p (Int.toNat i))) (Ai (Ac st [] (.t (At (ixT 3 p (Int.toNat i)) j)) 0) f):=by
 subst hi
 have hlt:=(List.getElem?_eq_some_iff.1 hk).1
 refine⟨⟨by omega,by rw[Rd.lenZ h];omega⟩,Aa (by rw[Int.toNat_natCast];exact h.isP hlt) (Ad ?_ hf)⟩
 rw[Int.toNat_natCast]
 exact h.ldfx st k j (by rw[GA hk j,if_pos hj];exact hx)
def Ek (s:AT):Prop:=(s.1=true->s.2.1=[]/\0<=s.2.2/\s.2.2<=65536)/\(s.1=false->s.2.2=0/\s.2.1.length<=1024/\U8 s.2.1)
def ER (ss:List AT):Prop:=ss.length<=48/\∀s,s∈ss->Ek s
section
variable {st:St}
theorem Sb {p:TV} {ss:List AT} (h:BA p ss) {K:Bool->St->Prop} (hk1:ER ss->K true st) (hk2:¬ER ss->K false st):CallT PR EA [p] [.one .bool] st K:=by
 refine M6 p st K (Aa (Rd.isSl h) ?_)
 rw[Rd.lenS h]
 refine Ab (fun g=>hk2 fun hp=>by have:=hp.1;omega) fun g=>Aa (Rd.isSl h) ?_
 refine⟨fun i u n st'=>p=u/\(ss.length:Int)=n/\st=st'/\∃k:Nat,i=k/\k<=ss.length/\∀(j:Nat) s,j<k->ss[j]? =some s->Ek s,fun i _ _ _=>(ss.length-i).toNat,⟨rfl,rfl,rfl,0,rfl,Nat.zero_le _,fun j s hj=>by omega⟩,?_⟩
 rintro _ _ _ _ ⟨rfl,rfl,rfl,k,rfl,hkl,hok⟩
 refine Ab (fun g1=>?_) fun g1=>?_
 ·obtain⟨s,hs⟩:∃s,ss[k]? =some s:=⟨_,List.getElem?_eq_getElem (by omega)⟩
  have bad:¬Ek s->K false st:=fun hn=>hk2 fun hp=>hn (hp.2 s (List.mem_of_getElem? hs))
  have next:Ek s->∀(j:Nat) s',j<k+1->ss[j]? =some s'->Ek s':=fun hy j s' hj hs'=>by
   by_cases hjk:j=k
   ·subst hjk;rw[hs]at hs';cases hs';exact hy
   ·exact hok j s' (by omega) hs'
  refine el3 h rfl hs ?_
  rw[Am _ (by omega) (by omega)]
  refine As (fun hb=>Ab (fun g2=>bad fun hy=>g2 (hy.1 hb).1) fun g2=>Ab (fun g3=>bad fun hy=>?_) fun g3=>Ab (fun g4=>bad fun hy=>?_) fun g4=>?_) fun hb=>Ab (fun g2=>bad fun hy=>g2 (hy.2 hb).1) fun g2=>Ab (fun g3=>bad fun hy=>?_) fun g3=>Kt (by omega) (As (fun g4=>bad fun hy=>?_) fun g4=>?_)
  ·have:=(hy.1 hb).2.1;omega
  ·have:=(hy.1 hb).2.2;omega
  ·refine⟨⟨rfl,rfl,rfl,k+1,by omega,by omega,next ⟨fun _=>⟨Decidable.not_not.1 g2,by omega,by omega⟩,fun e=>by rw[hb]at e;cases e⟩⟩,by dsimp only;omega⟩
  ·have:=(hy.2 hb).2.1;omega
  ·rw[decide_eq_true (show DM s.2.1=s.2.1.length from(hy.2 hb).2.2)]at g4;cases g4
  ·have g4:DM s.2.1=s.2.1.length:=by simpa using g4
   refine⟨⟨rfl,rfl,rfl,k+1,by omega,by omega,next ⟨fun e=>(by rw[hb]at e;cases e),fun _=>⟨Decidable.not_not.1 g2,by omega,g4⟩⟩⟩,by dsimp only;omega⟩
 ·refine hk1 ⟨by omega,fun s hs=>?_⟩
  obtain⟨j,hj⟩:=List.getElem?_of_mem hs
  exact hok j s (by have:=(List.getElem?_eq_some_iff.1 hj).1;omega) hj
theorem PK {p:TV} {ss:List AT} (h:BA p ss) {K:Bool->St->Prop} (hk1:ER ss->∀st',Aj st st'->K true st') (hk2:¬ER ss->∀st',Aj st st'->K false st'):CallT PR BX [p] [.one .bool] st K:=by
 refine Hz p st K (Aa (Rd.isSl h) ?_)
 rw[Rd.lenS h]
 refine Ab (fun g=>hk2 (fun hp=>by have:=hp.1;omega) _ (Aj.refl _)) fun g=>?_
 refine⟨fun i u st'=>p=u/\Aj st st'/\∃k:Nat,i=k/\k<=ss.length/\∀(j:Nat) s,j<k->ss[j]? =some s->Ek s,fun i _ _=>(ss.length-i).toNat,⟨rfl,Aj.refl _,0,rfl,Nat.zero_le _,fun j s hj=>by omega⟩,?_⟩
 rintro _ _ st1 ⟨rfl,e1,k,rfl,hkl,hok⟩
 refine Aa (Rd.isSl h) ?_
 rw[Rd.lenS h]
 refine Ab (fun g1=>?_) fun g1=>?_
 ·obtain⟨s,hs⟩:∃s,ss[k]? =some s:=⟨_,List.getElem?_eq_getElem (by omega)⟩
  have bad:¬Ek s->∀st',Aj st st'->K false st':=fun hn=>hk2 fun hp=>hn (hp.2 s (List.mem_of_getElem? hs))
  have next:Ek s->∀(j:Nat) s',j<k+1->ss[j]? =some s'->Ek s':=fun hy j s' hj hs'=>by
   by_cases hjk:j=k
   ·subst hjk;rw[hs]at hs';cases hs';exact hy
   ·exact hok j s' (by omega) hs'
  rw[Am _ (by omega) (by omega)]
  have l0:∀{f:Bool->Prop} {stx:St},f s.1->(0<=(k:Int)/\(k:Int)<(lenZ 3 p:Int))/\need (TVF.isPtr (ixT 3 p (Int.toNat (k:Int)))) (Ai (Ac stx [] (.t (At (ixT 3 p (Int.toNat (k:Int))) 0)) 0) fun x=>AE .bool x f):=fun hf=>fl3 h rfl hs (by decide) (x:= .bool s.1) rfl hf
  have l1:∀{f:B8->Prop} {stx:St},f s.2.1->(0<=(k:Int)/\(k:Int)<(lenZ 3 p:Int))/\need (TVF.isPtr (ixT 3 p (Int.toNat (k:Int)))) (Ai (Ac stx [] (.t (At (ixT 3 p (Int.toNat (k:Int))) 1)) 0) fun x=>AE .str x f):=fun hf=>fl3 h rfl hs (by decide) (x:= .str s.2.1) rfl hf
  have l2:∀{f:Int->Prop} {stx:St},f s.2.2->(0<=(k:Int)/\(k:Int)<(lenZ 3 p:Int))/\need (TVF.isPtr (ixT 3 p (Int.toNat (k:Int)))) (Ai (Ac stx [] (.t (At (ixT 3 p (Int.toNat (k:Int))) 2)) 0) fun x=>AE (.int .i64) x f):=fun hf=>fl3 h rfl hs (by decide) (x:= .int .i64 s.2.2) rfl (AV hf)
  refine l0 (As (fun hb=>l1 (Ab (fun g2=>bad (fun hy=>g2 (hy.1 hb).1) _ e1) fun g2=>l2 (Ab (fun g3=>bad (fun hy=>?_) _ e1) fun g3=>l2 (Ab (fun g4=>bad (fun hy=>?_) _ e1) fun g4=>l0 (As (fun hb2=>by rw[hb]at hb2;cases hb2) fun _=>?_))))) fun hb=>l0 (As (fun _=>l2 (Ab (fun g2=>bad (fun hy=>g2 (hy.2 hb).1) _ e1) fun g2=>l1 (Ab (fun g3=>bad (fun hy=>?_) _ e1) fun g3=>l1 (KC (by omega) fun st2 e2=>As (fun g4=>bad (fun hy=>?_) _ (e1.trans e2)) fun g4=>?_)))) fun hb2=>by rw[hb]at hb2;cases hb2))
  ·have:=(hy.1 hb).2.1;omega
  ·have:=(hy.1 hb).2.2;omega
  ·refine⟨⟨rfl,e1,k+1,by omega,by omega,next ⟨fun _=>⟨Decidable.not_not.1 g2,by omega,by omega⟩,fun e=>by rw[hb]at e;cases e⟩⟩,by dsimp only;omega⟩
  ·have:=(hy.2 hb).2.1;omega
  ·rw[decide_eq_true (show DM s.2.1=s.2.1.length from(hy.2 hb).2.2)]at g4;cases g4
  ·have g4:DM s.2.1=s.2.1.length:=by simpa using g4
   refine⟨⟨rfl,e1.trans e2,k+1,by omega,by omega,next ⟨fun e=>(by rw[hb]at e;cases e),fun _=>⟨Decidable.not_not.1 g2,by omega,g4⟩⟩⟩,by dsimp only;omega⟩
 ·refine hk1 ⟨by omega,fun s hs=>?_⟩ _ e1
  obtain⟨j,hj⟩:=List.getElem?_of_mem hs
  exact hok j s (by have:=(List.getElem?_eq_some_iff.1 hj).1;omega) hj
end
def FU:List Fd->B8->Nat->Option (Vl×Nat)
 | [],_,_=>none
 | d::r,key,i=>if d.key=key then some (d.val,i)else FU r key (i+1)
theorem NT {f:List Fd} {key:B8} {k:Nat} {d:Fd} (h:f[k]? =some d):FU (f.drop k) key k=if d.key=key then some (d.val,k)else FU (f.drop (k+1)) key (k+1):=by
 rw[Bt h,FU]
theorem GJ:∀{f:List Fd} {key:B8} {i k:Nat} {v:Vl},FU f key i=some (v,k)->∃j d,k=i+j/\f[j]? =some d/\d.key=key/\d.val=v/\∀(j':Nat) d',j'<j->f[j']? =some d'->d'.key≠key
 | [],key,i,k,v,h=>by cases h
 | d::r,key,i,k,v,h=>by
  rw[FU]at h
  by_cases hd:d.key=key
  ·rw[if_pos hd]at h
   simp only[Option.some.injEq,Prod.mk.injEq]at h
   exact⟨0,d,h.2.symm,rfl,hd,h.1,fun j' d' hj=>by omega⟩
  ·rw[if_neg hd]at h
   obtain⟨j,d',h1,h2,h3,h4,h5⟩:=GJ h
   refine⟨j+1,d',by omega,by simpa using h2,h3,h4,fun j' x hj hx=>?_⟩
   cases j' with
   | zero=>simp only[List.getElem?_cons_zero,Option.some.injEq]at hx;subst hx;exact hd
   | succ j'=>exact h5 j' x (by omega) (by simpa using hx)
def BZ (w:Vl) (s:AT):Except Int (Vl×Int):=
 if s.1=true then(if w.sc.kind=6 then(match w.list[s.2.2.toNat]? with | some x=> .ok (x,s.2.2) | none=> .error 7)else .error 6)
 else(if w.sc.kind=7 then(match FU w.flds s.2.1 0 with | some (x,k)=> .ok (x,(k:Int)) | none=> .error 7)else .error 6)
def ES:Vl->List AT->List Int->Except Int (Vl×List Int)
 | w,[],acc=> .ok (w,acc)
 | w,s::r,acc=>match BZ w s with | .error e=> .error e | .ok (x,k)=>ES x r (acc++[k])
theorem IQ {w:Vl} {s:AT} {e:Int} (h:BZ w s= .error e):e≠0:=by
 unfold BZ at h
 split at h
 ·split at h
  ·split at h<;>cases h
   decide
  ·cases h;decide
 ·split at h
  ·split at h<;>cases h
   decide
  ·cases h;decide
section
variable {st:St}
theorem T0 {w:Vl} {cs:List TV} {s:AT} (h:VlR St.zero w cs) (hN:w.sz<=2000000) (hs:Ek s) {K:Int->Int->St->Prop}
  (hk1:∀e,BZ w s= .error e->K 0 e st) (hk2:∀x i,BZ w s= .ok (x,i)->K i 0 st):
  CallT PR Di [.agg cs,.agg [.bool s.1,.str s.2.1,.int .i64 s.2.2]] [.one (.int .i64),.one (.int .i64)] st K:=by
 obtain⟨sc,l,f⟩:=w
 obtain⟨ub,ul,uf,xl,xf,rfl,h1,h2,h3,h4,h5⟩:=h.cells
 have hsz:=szs sc l f
 have hll:=Cn l
 have hfl:=Bq f
 refine HV _ _ _ _ _ _ _ _ _ _ _ _ _ s.1 s.2.1 s.2.2 st K (As (fun hb=>?_) fun hb=>?_)
 ·obtain⟨p1,p2,p3⟩:=hs.1 hb
  refine Ab (fun g=>hk1 6 ?_) fun g=>Ab (fun g1=>by omega) fun _=>Aa h2.isSl ?_
  ·unfold BZ
   rw[if_pos hb,if_neg (show ¬(Vl.mk sc l f).sc.kind=6 from g)]
  ·have g:(Vl.mk sc l f).sc.kind=6:=Decidable.not_not.1 g
   rw[h2.lenS]
   refine Ab (fun g1=>hk1 7 ?_) fun g1=>?_
   ·unfold BZ
    rw[if_pos hb,if_pos g,show(Vl.mk sc l f).list[s.2.2.toNat]? =none from List.getElem?_eq_none (by show l.length<=_;omega)]
   ·obtain⟨x,hx⟩:∃x,l[s.2.2.toNat]? =some x:=⟨_,List.getElem?_eq_getElem (by omega)⟩
    refine hk2 x s.2.2 ?_
    unfold BZ
    rw[if_pos hb,if_pos g,show(Vl.mk sc l f).list[s.2.2.toNat]? =_ from hx]
 ·refine Ab (fun g=>hk1 6 ?_) fun g=>?_
  ·unfold BZ
   rw[if_neg (by rw[hb];decide),if_neg (show ¬(Vl.mk sc l f).sc.kind=7 from g)]
  have g:(Vl.mk sc l f).sc.kind=7:=Decidable.not_not.1 g
  have hdn:BZ (.mk sc l f) s=match FU f s.2.1 0 with | some (x,k)=> .ok (x,(k:Int)) | none=> .error 7:=by
   unfold BZ
   rw[if_neg (by rw[hb];decide),if_pos g];rfl
  refine⟨fun i n1 b1 b2 s1 n2 n3 n4 n5 n6 s2 v1 v2 v3 b5 s5 n7 st'=>uf=v3/\s.2.1=s5/\st=st'/\∃k:Nat,i=k/\k<=f.length/\FU f s.2.1 0=FU (f.drop k) s.2.1 k,
   fun i _ _ _ _ _ _ _ _ _ _ _ _ _ _ _ _ _=>(f.length-i).toNat,⟨rfl,rfl,rfl,0,rfl,Nat.zero_le _,rfl⟩,?_⟩
  rintro _ n1 b1 b2 s1 n2 n3 n4 n5 n6 s2 v1 v2 _ b5 _ n7 _ ⟨rfl,rfl,rfl,k,rfl,hkl,hE⟩
  refine Aa h4.isSl ?_
  rw[h4.lenS]
  refine Ab (fun g1=>?_) fun g1=>?_
  ·have gd:f[k]? =some f[k]:=List.getElem?_eq_getElem (by omega)
   generalize f[k]=dd at gd
   rw[NT gd]at hE
   refine K9 (BS _) h4 h5 rfl gd (Ab (fun g2=>?_) fun g2=>?_)
   ·rw[if_pos g2]at hE
    exact hk2 dd.val k (by rw[hdn,hE])
   ·rw[if_neg g2]at hE
    rw[Am _ (by omega) (by omega)]
    exact⟨⟨rfl,rfl,rfl,k+1,by omega,by omega,hE⟩,by dsimp only;omega⟩
  ·have:k=f.length:=by omega
   subst this
   rw[List.drop_length]at hE
   exact hk1 7 (by rw[hdn,hE,FU])
theorem TZ {w:Vl} {cs:List TV} {s:AT} {x:Vl} {i:Int} (h:VlR St.zero w cs) (hN:w.sz<=2000000) (hs:Ek s) (hd:BZ w s= .ok (x,i))
  {K:Int->Bool->Bool->B8->Int->Int->Int->Int->Int->B8->TV->TV->TV->St->Prop}
  (hk:∀ub ul uf,VlR St.zero x (Aq x.sc ub ul uf)->K x.sc.kind x.sc.b x.sc.neg x.sc.dg x.sc.ex x.sc.tk x.sc.td x.sc.tn x.sc.tz x.sc.text ub ul uf st):
  CallT PR Dh [.agg cs,.int .i64 i] [.agg RX] st K:=by
 obtain⟨sc,l,f⟩:=w
 obtain⟨ub,ul,uf,xl,xf,rfl,h1,h2,h3,h4,h5⟩:=h.cells
 have hsz:=szs sc l f
 have hll:=Cn l
 have hfl:=Bq f
 refine HU _ _ _ _ _ _ _ _ _ _ _ _ _ i st K (Ab (fun g=>?_) fun g=>?_)
 ·have g:(Vl.mk sc l f).sc.kind=6:=g
  unfold BZ at hd
  by_cases hb:s.1=true
  ·rw[if_pos hb,if_pos g]at hd
   split at hd
   ·rename_i y hy
    simp only[Except.ok.injEq,Prod.mk.injEq]at hd
    obtain⟨rfl,rfl⟩:=hd
    obtain⟨p1,p2,p3⟩:=hs.1 hb
    have hy:l[s.2.2.toNat]? =some y:=hy
    have hlt:=(List.getElem?_eq_some_iff.1 hy).1
    refine Nl (k:=s.2.2.toNat) (BS _) h2 h3 (by omega) hlt fun s' l' f' ub1 ul1 uf1 gx hx on1=>Aa on1 ?_
    rw[hy]at gx
    cases gx
    exact hk ub1 ul1 uf1 hx
   ·cases hd
  ·rw[if_neg hb,if_neg (by omega)]at hd;cases hd
 ·have g:¬(Vl.mk sc l f).sc.kind=6:=g
  unfold BZ at hd
  by_cases hb:s.1=true
  ·rw[if_pos hb,if_neg g]at hd;cases hd
  ·rw[if_neg hb]at hd
   by_cases g7:(Vl.mk sc l f).sc.kind=7
   ·rw[if_pos g7]at hd
    split at hd
    ·rename_i y k hy
     simp only[Except.ok.injEq,Prod.mk.injEq]at hd
     obtain⟨rfl,rfl⟩:=hd
     obtain⟨j,d,hkj,hj,_,hv,_⟩:=GJ hy
     have hkj:k=j:=by omega
     subst hkj
     have hj:f[k]? =some d:=hj
     have hlt:=(List.getElem?_eq_some_iff.1 hj).1
     refine LW (BS _) h4 h5 rfl hlt fun key s' l' f' ub1 ul1 uf1 gw hw on1=>Aa on1 ?_
     rw[hj]at gw
     cases gw
     subst hv
     exact hk ub1 ul1 uf1 hw
    ·cases hd
   ·rw[if_neg g7]at hd;cases hd
theorem Qr {w x:Vl} {s:AT} {i:Int} (h:BZ w s= .ok (x,i)):x.sz<=w.sz:=by
 obtain⟨sc,l,f⟩:=w
 have hsz:=szs sc l f
 unfold BZ at h
 split at h
 ·split at h
  ·split at h
   ·rename_i y hy
    simp only[Except.ok.injEq,Prod.mk.injEq]at h
    obtain⟨rfl,_⟩:=h
    have:=Pk (List.mem_of_getElem? hy)
    have this:y.sz<=BB l:=this
    omega
   ·cases h
  ·cases h
 ·split at h
  ·split at h
   ·rename_i y k hy
    simp only[Except.ok.injEq,Prod.mk.injEq]at h
    obtain⟨rfl,_⟩:=h
    obtain⟨j,d,_,hj,_,hv,_⟩:=GJ hy
    have:=Ip (List.mem_of_getElem? hj)
    have this:d.sz<=Bv f:=this
    obtain⟨k',v'⟩:=d
    have:=szd k' v'
    subst hv
    show v'.sz<=_
    omega
   ·cases h
  ·cases h
theorem rGet_ok {w:Vl} {cs:List TV} {p:TV} {ss:List AT} (hp:BA p ss) (hok:ER ss) (h:VlR St.zero w cs) (hN:w.sz<=2000000)
  {K:Int->Bool->Bool->B8->Int->Int->Int->Int->Int->B8->TV->TV->TV->Int->St->Prop}
  (hk1:∀e st',ES w ss []= .error e->e≠0->Aj st st'->K 0 false false [] 0 0 0 0 0 [] .nilSlice .nilSlice .nilSlice e st')
  (hk2:∀k1 b1 b2 s1 k2 k3 k4 k5 k6 s2 u1 u2 u3 st' x ks,ES w ss []= .ok (x,ks)->VlR St.zero x [.int .i64 k1,.bool b1,.bool b2,.str s1,.int .i64 k2,.int .i64 k3,.int .i64 k4,.int .i64 k5,.int .i64 k6,.str s2,u1,u2,u3]->List.all [.int .i64 k1,.bool b1,.bool b2,.str s1,.int .i64 k2,.int .i64 k3,.int .i64 k4,.int .i64 k5,.int .i64 k6,.str s2,u1,u2,u3] Ah=true->Aj st st'->K k1 b1 b2 s1 k2 k3 k4 k5 k6 s2 u1 u2 u3 0 st'):
  CallT PR DF [.agg cs,p] [.agg RX,.one (.int .i64)] st K:=by
 have h0:=h
 obtain⟨sc,l,f⟩:=w
 obtain⟨ub,ul,uf,xl,xf,rfl,_⟩:=h.cells
 refine IZ _ _ _ _ _ _ _ _ _ _ _ _ _ p st K (PK hp (fun _ st1 e1=>As (fun h=>by cases h) fun _=>?_) fun hn=>absurd hok hn)
 refine⟨fun i u n1 b1 b2 s1 n2 n3 n4 n5 n6 s2 v1 v2 v3 m1 c1 c2 t1 m2 m3 m4 m5 m6 t2 w1 w2 w3 st'=>p=u/\(0=m1/\false=c1/\false=c2/\[]=t1/\0=m2/\0=m3/\0=m4/\0=m5/\0=m6/\[]=t2/\.nilSlice=w1/\.nilSlice=w2/\.nilSlice=w3)/\Aj st st'/\∃(k:Nat) (w:Vl) (ks:List Int),i=k/\k<=ss.length/\ES (.mk sc l f) ss []=ES w (ss.drop k) ks/\w.sz<=2000000/\VlR St.zero w [.int .i64 n1,.bool b1,.bool b2,.str s1,.int .i64 n2,.int .i64 n3,.int .i64 n4,.int .i64 n5,.int .i64 n6,.str s2,v1,v2,v3],
  fun i _ _ _ _ _ _ _ _ _ _ _ _ _ _ _ _ _ _ _ _ _ _ _ _ _ _ _ _=>(ss.length-i).toNat,⟨rfl,⟨rfl,rfl,rfl,rfl,rfl,rfl,rfl,rfl,rfl,rfl,rfl,rfl,rfl⟩,e1,0,.mk sc l f,[],rfl,Nat.zero_le _,rfl,hN,h0⟩,?_⟩
 rintro _ _ n1 b1 b2 s1 n2 n3 n4 n5 n6 s2 v1 v2 v3 _ _ _ _ _ _ _ _ _ _ _ _ _ st2 ⟨rfl,⟨rfl,rfl,rfl,rfl,rfl,rfl,rfl,rfl,rfl,rfl,rfl,rfl,rfl⟩,e2,k,w,ks,rfl,hkl,hE,hz,hw⟩
 refine Aa (Rd.isSl hp) ?_
 rw[Rd.lenS hp]
 refine Ab (fun g=>?_) fun g=>?_
 ·obtain⟨s,hs⟩:∃s,ss[k]? =some s:=⟨_,List.getElem?_eq_getElem (by omega)⟩
  have hso:=hok.2 s (List.mem_of_getElem? hs)
  have hdr:ss.drop k=s::ss.drop (k+1):=Bt hs
  refine el3 hp rfl hs (T0 hw hz hso (fun e he=>Ab (fun _=>?_) fun g=>absurd (Decidable.not_not.1 g) (IQ he)) fun x i hd=>Ab (fun g=>absurd rfl g) fun _=>?_)
  ·refine hk1 e st2 ?_ (IQ he) e2
   rw[hE,hdr,ES,he]
  ·refine TZ hw hz hso hd fun ub1 ul1 uf1 hx=>Aa ?_ ?_
   ·obtain⟨sx,lx,fx⟩:=x
    obtain⟨_,_,_,_,_,hc,w1,w2,_,w4,_⟩:=hx.cells
    cases hc
    exact Bi w1.zero.one w2.zero.one w4.zero.one
   ·have h48:=hok.1
    rw[Am _ (by omega) (by omega)]
    refine⟨⟨rfl,⟨rfl,rfl,rfl,rfl,rfl,rfl,rfl,rfl,rfl,rfl,rfl,rfl,rfl⟩,e2,k+1,x,ks++[i],by omega,by omega,?_,by have:=Qr hd;omega,hx⟩,by dsimp only;omega⟩
    rw[hE,hdr,ES,hd]
 ·have hkk:k=ss.length:=by omega
  rw[hkk,List.drop_length,ES]at hE
  have on:List.all [.int .i64 n1,.bool b1,.bool b2,.str s1,.int .i64 n2,.int .i64 n3,.int .i64 n4,.int .i64 n5,.int .i64 n6,.str s2,v1,v2,v3] Ah=true:=by
   obtain⟨sw,lw,fw⟩:=w
   obtain⟨_,_,_,_,_,hc,w1,w2,_,w4,_⟩:=hw.cells
   cases hc
   exact Bi w1.zero.one w2.zero.one w4.zero.one
  exact Aa on (hk2 _ _ _ _ _ _ _ _ _ _ _ _ _ st2 w ks hE hw on e2)
end
end
end Go.TVF
section
namespace Go.TVF
open Go.IntKind(i64 u8)
mutual
inductive Tb where
 | mk (b m:Nat) (hd:Bool) (es:List Kn)
inductive Kn where
 | mk (k:B8) (eb:Nat) (e:En)
inductive En where
 | opn (t:Tb)
 | lst (l:List Tb)
 | clo (v:Vl) (i:Nat)
end
def Tb.b:Tb->Nat | .mk b _ _ _=>b
def Tb.m:Tb->Nat | .mk _ m _ _=>m
def Tb.hd:Tb->Bool | .mk _ _ h _=>h
def Tb.es:Tb->List Kn | .mk _ _ _ es=>es
def Kn.key:Kn->B8 | .mk k _ _=>k
def Kn.eb:Kn->Nat | .mk _ e _=>e
def Kn.en:Kn->En | .mk _ _ e=>e
def scM:Sc:=⟨7,false,false,[],0,0,0,0,0,[],[]⟩
def scL:Sc:=⟨6,false,false,[],0,0,0,0,0,[],[]⟩
mutual
def Ae:Tb->Vl
 | .mk _ _ _ es=> .mk scM [] (AD es)
def AD:List Kn->List Fd
 | []=>[]
 | .mk k _ e::r=> .mk k (AA e)::AD r
def AA:En->Vl
 | .opn t=>Ae t
 | .lst l=> .mk scL (A1 l) []
 | .clo v _=>v
def A1:List Tb->List Vl
 | []=>[]
 | t::r=>Ae t::A1 r
end
theorem Ks:∀a b:List Kn,AD (a++b)=AD a++AD b
 | [],b=>by simp[AD]
 | .mk k e x::r,b=>by simp only[List.cons_append,AD,Ks r b]
theorem AU:∀l:List Tb,A1 l=l.map Ae
 | []=>rfl
 | t::r=>by rw[A1,List.map_cons,AU r]
theorem IA:∀l:List Kn,AD l=l.map fun d=>Fd.mk d.key (AA d.en)
 | []=>rfl
 | .mk k e x::r=>by rw[AD,List.map_cons,IA r];rfl
def Ag (k:B8):List Kn->Option (Nat×En)
 | []=>none
 | .mk k' eb e::r=>if k=k' then some (eb,e)else Ag k r
def BR (k:B8) (x:En):List Kn->List Kn
 | []=>[]
 | .mk k' eb e::r=>if k=k' then .mk k' eb x::r else .mk k' eb e::BR k x r
theorem IJ {k:B8}:∀{es:List Kn} {eb:Nat} {e:En},Ag k es=some (eb,e)->Kn.mk k eb e∈es
 | .mk k' eb' e'::r,eb,e,h=>by
  unfold Ag at h
  split at h
  ·rename_i hk;cases h;subst hk;exact .head _
  ·exact .tail _ (IJ h)
theorem Jy {k:B8}:∀{es:List Kn},Ag k es=none->∀d,d∈es->d.key≠k
 | [],h,d,hd=>by cases hd
 | .mk k' eb' e'::r,h,d,hd=>by
  unfold Ag at h
  split at h
  ·cases h
  ·rename_i hk
   rcases List.mem_cons.1 hd with rfl | hd
   ·exact fun h=>hk h.symm
   ·exact Jy h d hd
theorem NC {k:B8} {x:En}:∀es:List Kn,(BR k x es).map Kn.key=es.map Kn.key
 | []=>rfl
 | .mk k' eb e::r=>by
  unfold BR
  split
  ·rfl
  ·rw[List.map_cons,List.map_cons,NC r]
theorem CG {k:B8} {x:En}:∀{es:List Kn} {eb:Nat} {e:En},Ag k es=some (eb,e)->Ag k (BR k x es)=some (eb,x)
 | .mk k' eb' e'::r,eb,e,h=>by
  unfold Ag at h
  unfold BR
  split at h
  ·rename_i hk;cases h;subst hk;rw[if_pos rfl];simp[Ag]
  ·rename_i hk;rw[if_neg hk,Ag,if_neg hk];exact CG h
theorem Cz {k k2:B8} {x:En} (hne:k2≠k):∀{es:List Kn},Ag k2 (BR k x es)=Ag k2 es
 | []=>rfl
 | .mk k' eb' e'::r=>by
  unfold BR
  split
  ·rename_i hk;subst hk;unfold Ag;rw[if_neg hne,if_neg hne]
  ·unfold Ag;split
   ·rfl
   ·exact Cz hne
theorem P1 {k k2:B8} {eb:Nat} {x:En}:∀{es:List Kn},Ag k2 (es++[.mk k eb x])=match Ag k2 es with | some p=>some p | none=>if k2=k then some (eb,x)else none
 | []=>by simp[Ag]
 | .mk k' eb' e'::r=>by
  rw[List.cons_append,Ag,Ag]
  split
  ·rfl
  ·exact P1
theorem set_set {k:B8} {x y:En}:∀es:List Kn,BR k y (BR k x es)=BR k y es
 | []=>rfl
 | .mk k' eb e::r=>by
  by_cases hk:k=k'
  ·rw[BR,if_pos hk,BR,BR,if_pos hk,if_pos hk]
  ·rw[BR,if_neg hk,BR,BR,if_neg hk,if_neg hk,set_set r]
abbrev Hop:=B8×Option Nat
def atT:Tb->List Hop->Option Tb
 | t,[]=>some t
 | .mk _ _ _ es,(k,none)::h=>match Ag k es with
  | some (_,.opn u)=>atT u h
  | _=>none
 | .mk _ _ _ es,(k,some i)::h=>match Ag k es with
  | some (_,.lst l)=>match l[i]? with
   | some u=>atT u h
   | none=>none
  | _=>none
def Ax:Tb->List Hop->Tb->Tb
 | _,[],x=>x
 | .mk b m hd es,(k,none)::h,x=>match Ag k es with
  | some (_,.opn u)=> .mk b m hd (BR k (.opn (Ax u h x)) es)
  | _=> .mk b m hd es
 | .mk b m hd es,(k,some i)::h,x=>match Ag k es with
  | some (_,.lst l)=>match l[i]? with
   | some u=> .mk b m hd (BR k (.lst (l.set i (Ax u h x))) es)
   | none=> .mk b m hd es
  | _=> .mk b m hd es
theorem IV:∀(h g:List Hop) (T:Tb),atT T (h++g)=(atT T h).bind fun t=>atT t g
 | [],g,T=>by cases T;rfl
 | (k,none)::h,g,.mk b m hd es=>by
  rw[List.cons_append,atT,atT]
  rcases Ag k es with _ | ⟨eb,u | l | ⟨v,i⟩⟩
  ·rfl
  ·exact IV h g u
  ·rfl
  ·rfl
 | (k,some i)::h,g,.mk b m hd es=>by
  rw[List.cons_append,atT,atT]
  rcases Ag k es with _ | ⟨eb,u | l | ⟨v,i⟩⟩
  ·rfl
  ·rfl
  ·simp only
   cases l[i]? with
   | none=>rfl
   | some u=>exact IV h g u
  ·rfl
theorem DW:∀(h:List Hop) {T t x:Tb},atT T h=some t->atT (Ax T h x) h=some x
 | [],T,t,x,_=>by cases x;rfl
 | (k,none)::h,.mk b m hd es,t,x,hA=>by
  rw[atT]at hA
  rw[Ax]
  rcases hl:Ag k es with _ | ⟨eb,u | l | ⟨v,i⟩⟩<;>rw[hl]at hA<;>simp only at hA⊢<;>try (cases hA;done)
  ·rw[atT,CG hl];exact DW h hA
 | (k,some i)::h,.mk b m hd es,t,x,hA=>by
  rw[atT]at hA
  rw[Ax]
  rcases hl:Ag k es with _ | ⟨eb,u | l | ⟨v,i⟩⟩<;>rw[hl]at hA<;>simp only at hA⊢<;>try (cases hA;done)
  ·cases hi:l[i]? with
   | none=>simp[hi]at hA
   | some u=>
    rw[hi]at hA
    have hlt:=(List.getElem?_eq_some_iff.1 hi).1
    simp only at hA⊢
    rw[atT,CG hl]
    simp only
    rw[List.getElem?_set_self hlt]
    exact DW h hA
theorem FW:∀(h:List Hop) {T t x:Tb},atT T h=some t->x.b=t.b->(Ax T h x).b=T.b
 | [],T,t,x,hA,hx=>by cases T;cases hA;exact hx
 | (k,none)::h,.mk b m hd es,t,x,hA,hx=>by
  rw[Ax]
  split<;>rfl
 | (k,some i)::h,.mk b m hd es,t,x,hA,hx=>by
  rw[Ax]
  split
  ·split<;>rfl
  ·rfl
theorem Ls:∀(h g:List Hop) {T t x:Tb},atT T h=some t->Ax T (h++g) x=Ax T h (Ax t g x)
 | [],g,T,t,x,hA=>by cases T;cases hA;rfl
 | (k,none)::h,g,.mk b m hd es,t,x,hA=>by
  rw[atT]at hA
  rw[List.cons_append,Ax,Ax]
  rcases hl:Ag k es with _ | ⟨eb,u | l | ⟨v,i⟩⟩<;>rw[hl]at hA<;>simp only at hA⊢<;>try (cases hA;done)
  ·rw[Ls h g hA]
 | (k,some i)::h,g,.mk b m hd es,t,x,hA=>by
  rw[atT]at hA
  rw[List.cons_append,Ax,Ax]
  rcases hl:Ag k es with _ | ⟨eb,u | l | ⟨v,i⟩⟩<;>rw[hl]at hA<;>simp only at hA⊢<;>try (cases hA;done)
  ·cases hi:l[i]? with
   | none=>simp[hi]at hA
   | some u=>rw[hi]at hA;simp only at hA⊢;rw[Ls h g hA]
theorem ID:∀(h:List Hop) {T t x y:Tb},atT T h=some t->Ax (Ax T h x) h y=Ax T h y
 | [],T,t,x,y,hA=>by cases x;cases T;rfl
 | (k,none)::h,.mk b m hd es,t,x,y,hA=>by
  rw[atT]at hA
  rw[Ax,Ax]
  rcases hl:Ag k es with _ | ⟨eb,u | l | ⟨v,i⟩⟩<;>rw[hl]at hA<;>simp only at hA⊢<;>try (cases hA;done)
  ·rw[Ax,CG hl];simp only;rw[ID h hA,set_set]
 | (k,some i)::h,.mk b m hd es,t,x,y,hA=>by
  rw[atT]at hA
  rw[Ax,Ax]
  rcases hl:Ag k es with _ | ⟨eb,u | l | ⟨v,i⟩⟩<;>rw[hl]at hA<;>simp only at hA⊢<;>try (cases hA;done)
  ·cases hi:l[i]? with
   | none=>simp[hi]at hA
   | some u=>
    rw[hi]at hA
    have hlt:=(List.getElem?_eq_some_iff.1 hi).1
    simp only at hA⊢
    rw[Ax,CG hl]
    simp only
    rw[List.getElem?_set_self hlt]
    simp only
    rw[ID h hA,set_set,List.set_set]
end Go.TVF
end
section
namespace Go.TVF
open Go.IntKind(i64 u8)
inductive Stp where
 | key (k:B8)
 | idx (i:Nat)
deriving DecidableEq
def scO:Sc:=⟨0,false,false,[],0,0,0,0,0,[],[]⟩
def vlO:Vl:= .mk scO [] []
def I5 (k:B8):List Fd->Option Vl
 | []=>none
 | .mk k' v::r=>if k'=k then some v else I5 k r
def J9 (k:B8) (x:Vl):List Fd->List Fd
 | []=>[.mk k x]
 | .mk k' v::r=>if k'=k then .mk k' x::r else .mk k' v::J9 k x r
def D4:Vl->List Stp->Option Vl
 | v,[]=>some v
 | .mk s l f,.idx i::p=>match l[i]? with
  | some u=>D4 u p
  | none=>none
 | .mk s l f,.key k::p=>match I5 k f with
  | some u=>D4 u p
  | none=>none
def Bn:Vl->List Stp->Vl->Vl
 | _,[],x=>x
 | .mk s l f,.idx i::p,x=> .mk s ((if i=l.length then l++[vlO]else l).set i (Bn ((if i=l.length then l++[vlO]else l).getD i vlO) p x)) f
 | .mk s l f,.key k::p,x=> .mk s l (J9 k (Bn ((I5 k f).getD vlO) p x) f)
def stp:List Hop->List Stp
 | []=>[]
 | (k,none)::h=> .key k::stp h
 | (k,some i)::h=> .key k:: .idx i::stp h
theorem Lr:∀h g:List Hop,stp (h++g)=stp h++stp g
 | [],g=>rfl
 | (k,none)::h,g=>by rw[List.cons_append,stp,stp,Lr h g];rfl
 | (k,some i)::h,g=>by rw[List.cons_append,stp,stp,Lr h g];rfl
theorem Cs (k:B8):∀es:List Kn,I5 k (AD es)=(Ag k es).map fun p=>AA p.2
 | []=>rfl
 | .mk k' eb e::r=>by
  rw[AD,I5,Ag]
  by_cases h:k'=k
  ·rw[if_pos h,if_pos h.symm];rfl
  ·rw[if_neg h,if_neg fun g=>h g.symm,Cs k r]
theorem J8 {k:B8} {y:En}:∀{es:List Kn} {eb:Nat} {e:En},Ag k es=some (eb,e)->J9 k (AA y) (AD es)=AD (BR k y es)
 | .mk k' eb' e'::r,eb,e,h=>by
  rw[Ag]at h
  rw[AD,J9,BR]
  by_cases hk:k=k'
  ·rw[if_pos hk.symm,if_pos hk,AD]
  ·rw[if_neg hk]at h
   rw[if_neg fun g=>hk g.symm,if_neg hk,AD,J8 h]
theorem Qh {k:B8} {x:Vl}:∀{es:List Kn},Ag k es=none->∀(eb:Nat) (y:En),AA y=x->J9 k x (AD es)=AD (es++[.mk k eb y])
 | [],_,eb,y,hy=>by rw[AD,J9,List.nil_append,AD,AD,hy]
 | .mk k' eb' e'::r,h,eb,y,hy=>by
  rw[Ag]at h
  by_cases hk:k=k'
  ·rw[if_pos hk]at h;cases h
  ·rw[if_neg hk]at h
   rw[AD,J9,if_neg fun g=>hk g.symm,Qh h eb y hy,List.cons_append,AD]
theorem OU:∀(h:List Hop) {T t:Tb},atT T h=some t->∀p,D4 (Ae T) (stp h++p)=D4 (Ae t) p
 | [],T,t,hA,p=>by cases T;cases hA;rfl
 | (k,none)::h,.mk b m hd es,t,hA,p=>by
  rw[atT]at hA
  rw[stp,List.cons_append,Ae,D4,Cs]
  rcases hl:Ag k es with _ | ⟨eb,u | l | ⟨v,i⟩⟩<;>rw[hl]at hA<;>simp only at hA⊢<;>try (cases hA;done)
  ·simp only[Option.map_some,AA]
   exact OU h hA p
 | (k,some i)::h,.mk b m hd es,t,hA,p=>by
  rw[atT]at hA
  rw[stp,List.cons_append,List.cons_append,Ae,D4,Cs]
  rcases hl:Ag k es with _ | ⟨eb,u | l | ⟨v,j⟩⟩<;>rw[hl]at hA<;>simp only at hA⊢<;>try (cases hA;done)
  ·simp only[Option.map_some,AA,D4,AU,List.getElem?_map]
   cases hi:l[i]? with
   | none=>simp[hi]at hA
   | some u=>
    rw[hi]at hA
    simp only[Option.map_some]
    exact OU h hA p
theorem KI:∀(h:List Hop) {T t t':Tb},atT T h=some t->∀{p:List Stp} {x:Vl},Bn (Ae t) p x=Ae t'->Bn (Ae T) (stp h++p) x=Ae (Ax T h t')
 | [],T,t,t',hA,p,x,hx=>by cases T;cases hA;exact hx
 | (k,none)::h,.mk b m hd es,t,t',hA,p,x,hx=>by
  rw[atT]at hA
  rw[stp,List.cons_append,Ae,Bn,Cs,Ax]
  rcases hl:Ag k es with _ | ⟨eb,u | l | ⟨v,i⟩⟩<;>rw[hl]at hA<;>simp only at hA⊢<;>try (cases hA;done)
  ·simp only[Option.map_some,Option.getD_some,AA]
   rw[KI h hA hx]
   have:=J8 (y:= .opn (Ax u h t')) hl
   rw[AA]at this
   rw[this,Ae]
 | (k,some i)::h,.mk b m hd es,t,t',hA,p,x,hx=>by
  rw[atT]at hA
  rw[stp,List.cons_append,List.cons_append,Ae,Bn,Cs,Ax]
  rcases hl:Ag k es with _ | ⟨eb,u | l | ⟨v,j⟩⟩<;>rw[hl]at hA<;>simp only at hA⊢<;>try (cases hA;done)
  ·cases hi:l[i]? with
   | none=>simp[hi]at hA
   | some u=>
    rw[hi]at hA
    have hlt:=(List.getElem?_eq_some_iff.1 hi).1
    simp only[Option.map_some,Option.getD_some,AA,Bn]at hA⊢
    have hne:¬i=(A1 l).length:=by rw[AU,List.length_map];omega
    rw[if_neg hne]
    have hg:(A1 l).getD i vlO=Ae u:=by rw[AU,List.getD_eq_getElem?_getD,List.getElem?_map,hi];rfl
    rw[hg,KI h hA hx]
    have hs:(A1 l).set i (Ae (Ax u h t'))=A1 (l.set i (Ax u h t')):=by rw[AU,AU,List.map_set]
    rw[hs]
    have:=J8 (y:= .lst (l.set i (Ax u h t'))) hl
    rw[AA]at this
    rw[this,Ae]
def Dy:En->Nat×Nat
 | .clo _ i=>(1,i)
 | .opn t=>(if t.hd=true then 2 else 0,0)
 | .lst _=>(3,0)
def Aw:Tb->List Stp->Nat×Nat
 | .mk _ _ _ es,[.key k]=>match Ag k es with
  | some (_,e)=>Dy e
  | none=>(0,0)
 | .mk _ _ _ es,.key k:: .key k2::p=>match Ag k es with
  | some (_,.opn u)=>Aw u (.key k2::p)
  | _=>(0,0)
 | .mk _ _ _ es,.key k:: .idx i::p=>match Ag k es with
  | some (_,.lst l)=>match l[i]? with
   | some u=>Aw u p
   | none=>(0,0)
  | _=>(0,0)
 | _,_=>(0,0)
theorem EG (T:Tb):Aw T []=(0,0):=by cases T;rfl
theorem Dd (T:Tb) (i:Nat) (p:List Stp):Aw T (.idx i::p)=(0,0):=by cases T;rfl
def AW:List Stp->List Stp->Option (List Stp)
 | [],q=>some q
 | _::_,[]=>none
 | a::r,b::q=>if a=b then AW r q else none
theorem NA:∀(r q:List Stp),AW r (r++q)=some q
 | [],q=>rfl
 | a::r,q=>by rw[List.cons_append,AW,if_pos rfl,NA r q]
theorem Ej:∀{r q p:List Stp},AW r q=some p->q=r++p
 | [],q,p,h=>by cases h;rfl
 | a::r,[],p,h=>by cases h
 | a::r,b::q,p,h=>by
  rw[AW]at h
  split at h
  ·rename_i e;subst e;rw[Ej h];rfl
  ·cases h
theorem LC:∀(h:List Hop) {T t:Tb},atT T h=some t->∀(k:B8) (p:List Stp),Aw T (stp h++ .key k::p)=Aw t (.key k::p)
 | [],T,t,hA,k,p=>by cases T;cases hA;rfl
 | (k1,none)::h,.mk b m hd es,t,hA,k,p=>by
  rw[atT]at hA
  rcases hl:Ag k1 es with _ | ⟨eb,u | l | ⟨v,i⟩⟩<;>rw[hl]at hA<;>simp only at hA<;>try (cases hA;done)
  have:=LC h hA k p
  rw[stp,List.cons_append]
  rw[<-this]
  cases h with
  | nil=>rw[stp,List.nil_append,Aw,hl]
  | cons x h=>obtain⟨k2,o⟩:=x;cases o<;>rw[stp]<;>simp only[List.cons_append]<;>rw[Aw,hl]
 | (k1,some i)::h,.mk b m hd es,t,hA,k,p=>by
  rw[atT]at hA
  rcases hl:Ag k1 es with _ | ⟨eb,u | l | ⟨v,j⟩⟩<;>rw[hl]at hA<;>simp only at hA<;>try (cases hA;done)
  cases hi:l[i]? with
  | none=>simp[hi]at hA
  | some u=>
   rw[hi]at hA
   have:=LC h hA k p
   rw[stp,List.cons_append,List.cons_append,Aw,hl]
   simp only[hi]
   exact this
theorem set_hd:∀(h:List Hop) {T t t':Tb},atT T h=some t->t'.hd=t.hd->(Ax T h t').hd=T.hd
 | [],T,t,t',hA,hx=>by cases T;cases hA;exact hx
 | (k,none)::h,.mk b m hd es,t,t',hA,hx=>by rw[Ax];split<;>rfl
 | (k,some i)::h,.mk b m hd es,t,t',hA,hx=>by
  rw[Ax]
  split
  ·split<;>rfl
  ·rfl
theorem Mu:∀(h:List Hop) {T t t':Tb},atT T h=some t->t'.hd=t.hd->∀q:List Stp,Aw (Ax T h t') q=match AW (stp h) q with
  | some r=>if r=[]then Aw T q else Aw t' r
  | none=>Aw T q
 | [],T,t,t',hA,hx,q=>by
  cases T;cases hA
  rw[stp,AW,Ax]
  simp only
  split
  ·rename_i e;subst e;rw[EG,EG]
  ·rfl
 | (k,none)::h,.mk b m hd es,t,t',hA,hx,q=>by
  rw[atT]at hA
  rw[Ax,stp]
  rcases hl:Ag k es with _ | ⟨eb,u | l | ⟨v,i⟩⟩<;>rw[hl]at hA<;>simp only at hA⊢<;>try (cases hA;done)
  match q with
  | []=>rw[AW,EG,EG]
  | .idx i::q=>rw[AW,if_neg (fun e=>by cases e),Dd,Dd]
  | [.key k1]=>
   by_cases hk:k=k1
   ·subst hk
    rw[AW,if_pos rfl]
    have e1:Aw (.mk b m hd (BR k (.opn (Ax u h t')) es)) [.key k]=Aw (.mk b m hd es) [.key k]:=by
     rw[Aw,Aw,CG hl,hl]
     simp only[Dy]
     rw[set_hd h hA hx]
    rw[e1]
    cases h with
    | nil=>rw[stp,AW];simp
    | cons x h=>obtain⟨k2,o⟩:=x;cases o<;>rw[stp,AW]
   ·rw[AW,if_neg (fun e=>hk (Stp.key.inj e))]
    simp only
    rw[Aw,Aw,Cz fun e=>hk e.symm]
  | .key k1:: .key k2::q=>
   by_cases hk:k=k1
   ·subst hk
    rw[AW,if_pos rfl,Aw,CG hl]
    simp only
    rw[Mu h hA hx (.key k2::q)]
    have e2:Aw (.mk b m hd es) (.key k:: .key k2::q)=Aw u (.key k2::q):=by rw[Aw,hl]
    rw[e2]
   ·rw[AW,if_neg (fun e=>hk (Stp.key.inj e))]
    simp only
    rw[Aw,Aw,Cz fun e=>hk e.symm]
  | .key k1:: .idx i::q=>
   by_cases hk:k=k1
   ·subst hk
    rw[AW,if_pos rfl,Aw,CG hl]
    have e2:Aw (.mk b m hd es) (.key k:: .idx i::q)=(0,0):=by rw[Aw,hl]
    rw[e2]
    simp only
    cases h with
    | nil=>rw[stp,AW];simp only;rw[if_neg (by simp),Dd]
    | cons x h=>obtain⟨k2,o⟩:=x;cases o<;>rw[stp,AW,if_neg (fun e=>by cases e)]
   ·rw[AW,if_neg (fun e=>hk (Stp.key.inj e))]
    simp only
    rw[Aw,Aw,Cz fun e=>hk e.symm]
 | (k,some j)::h,.mk b m hd es,t,t',hA,hx,q=>by
  rw[atT]at hA
  rw[Ax,stp]
  rcases hl:Ag k es with _ | ⟨eb,u | l | ⟨v,i⟩⟩<;>rw[hl]at hA<;>simp only at hA⊢<;>try (cases hA;done)
  cases hj:l[j]? with
  | none=>simp[hj]at hA
  | some u=>
  rw[hj]at hA
  have hlt:=(List.getElem?_eq_some_iff.1 hj).1
  simp only at hA⊢
  match q with
  | []=>rw[AW,EG,EG]
  | .idx i::q=>rw[AW,if_neg (fun e=>by cases e),Dd,Dd]
  | [.key k1]=>
   by_cases hk:k=k1
   ·subst hk
    rw[AW,if_pos rfl,AW,Aw,Aw,CG hl,hl]
    rfl
   ·rw[AW,if_neg (fun e=>hk (Stp.key.inj e))]
    simp only
    rw[Aw,Aw,Cz fun e=>hk e.symm]
  | .key k1:: .key k2::q=>
   by_cases hk:k=k1
   ·subst hk
    rw[AW,if_pos rfl,AW,if_neg (fun e=>by cases e),Aw,CG hl]
    simp only
    rw[Aw,hl]
   ·rw[AW,if_neg (fun e=>hk (Stp.key.inj e))]
    simp only
    rw[Aw,Aw,Cz fun e=>hk e.symm]
  | .key k1:: .idx i::q=>
   by_cases hk:k=k1
   ·subst hk
    rw[AW,if_pos rfl,AW,Aw,CG hl]
    have e2:Aw (.mk b m hd es) (.key k:: .idx i::q)=match l[i]? with | some u=>Aw u q | none=>(0,0):=by rw[Aw,hl]
    rw[e2]
    simp only
    by_cases hij:j=i
    ·subst hij
     rw[if_pos rfl,List.getElem?_set_self hlt,hj]
     simp only
     rw[Mu h hA hx q]
    ·rw[if_neg (fun e=>hij (Stp.idx.inj e)),List.getElem?_set_ne hij]
   ·rw[AW,if_neg (fun e=>hk (Stp.key.inj e))]
    simp only
    rw[Aw,Aw,Cz fun e=>hk e.symm]
end Go.TVF
end
section
namespace Go.TVF
open Go.IntKind(i64 u8)
def Hr:En->List Stp->Nat×Nat
 | e,[]=>Dy e
 | .opn u,.key k::p=>Aw u (.key k::p)
 | .lst l,.idx i::p=>match l[i]? with
  | some u=>Aw u p
  | none=>(0,0)
 | _,_=>(0,0)
theorem Cr (b m:Nat) (hd:Bool) (es:List Kn) (k:B8) (p:List Stp):Aw (.mk b m hd es) (.key k::p)=match Ag k es with | some (_,e)=>Hr e p | none=>(0,0):=by
 match p with
 | []=>
  rw[Aw]
  rcases Ag k es with _ | ⟨eb,u | l | ⟨v,i⟩⟩<;>rfl
 | .key k2::p=>
  rw[Aw]
  rcases Ag k es with _ | ⟨eb,u | l | ⟨v,i⟩⟩<;>rfl
 | .idx i::p=>
  rw[Aw]
  rcases Ag k es with _ | ⟨eb,u | l | ⟨v,j⟩⟩<;>rfl
theorem Mv:∀(h:List Hop) {T t:Tb},atT T h=some t->∀r:List Stp,r≠ []->Aw T (stp h++r)=Aw t r:=fun h {T t} hA r hr=>by
 match r with
 | []=>exact absurd rfl hr
 | .key k::p=>exact LC h hA k p
 | .idx i::p=>
  rw[Dd]
  have:∀(h:List Hop) {T t:Tb},atT T h=some t->Aw T (stp h++ .idx i::p)=(0,0):=by
   intro h
   induction h with
   | nil=>intro T t _;exact Dd T i p
   | cons x h ih=>
    intro T t hA
    obtain⟨k,o⟩:=x
    obtain⟨b,m,hd,es⟩:=T
    cases o with
    | none=>
     rw[atT]at hA
     rcases hl:Ag k es with _ | ⟨eb,u | l | ⟨v,j⟩⟩<;>rw[hl]at hA<;>simp only at hA<;>try (cases hA;done)
     have:=ih hA
     rw[stp,List.cons_append,Cr,hl]
     simp only
     cases h with
     | nil=>rfl
     | cons y h=>obtain⟨k2,o2⟩:=y;cases o2<;>rw[stp]at this⊢<;>exact this
    | some j=>
     rw[atT]at hA
     rcases hl:Ag k es with _ | ⟨eb,u | l | ⟨v,j⟩⟩<;>rw[hl]at hA<;>simp only at hA<;>try (cases hA;done)
     cases hj:l[j]? with
     | none=>simp[hj]at hA
     | some u=>
      rw[hj]at hA
      rw[stp,List.cons_append,List.cons_append,Cr,hl]
      simp only[Hr,hj]
      exact ih hA
  exact this h hA
def AS (t:Tb) (k:B8) (eb:Nat) (e:En):Tb:= .mk t.b t.m t.hd (t.es++[.mk k eb e])
def B6 (t:Tb) (k:B8) (e:En):Tb:= .mk t.b t.m t.hd (BR k e t.es)
theorem GH {t:Tb} {k k2:B8} {eb:Nat} {e:En} (h:Ag k t.es=none):Ag k2 (AS t k eb e).es=if k2=k then some (eb,e)else Ag k2 t.es:=by
 show Ag k2 (t.es++[.mk k eb e])=_
 rw[P1]
 by_cases hk:k2=k
 ·subst hk;simp[h]
 ·rw[if_neg hk,if_neg hk]
  cases Ag k2 t.es<;>rfl
theorem P0 {t:Tb} {k k2:B8} {eb:Nat} {e x:En} (h:Ag k t.es=some (eb,e)):Ag k2 (B6 t k x).es=if k2=k then some (eb,x)else Ag k2 t.es:=by
 show Ag k2 (BR k x t.es)=_
 by_cases hk:k2=k
 ·subst hk;rw[if_pos rfl,CG h]
 ·rw[if_neg hk,Cz hk]
theorem KR {T t t':Tb} {h:List Hop} (hA:atT T h=some t) (hd:t'.hd=t.hd) {k:B8} {e':Nat×En} (hl:∀k2,Ag k2 t'.es=if k2=k then some e' else Ag k2 t.es) (q:List Stp):
  Aw (Ax T h t') q=match AW (stp h++[.key k]) q with | some p=>Hr e'.2 p | none=>Aw T q:=by
 rw[Mu h hA hd q]
 have hs:AW (stp h++[.key k]) q=match AW (stp h) q with | some r=>AW [.key k] r | none=>none:=by
  have:∀(a b q:List Stp),AW (a++b) q=match AW a q with | some r=>AW b r | none=>none:=by
   intro a
   induction a with
   | nil=>intro b q;rfl
   | cons x a ih=>
    intro b q
    cases q with
    | nil=>rfl
    | cons y q=>
     rw[List.cons_append,AW,AW]
     split
     ·exact ih b q
     ·rfl
  exact this _ _ _
 rw[hs]
 cases hr:AW (stp h) q with
 | none=>rfl
 | some r=>
  have hq:=Ej hr
  simp only
  match r with
  | []=>rw[if_pos rfl,AW]
  | .idx i::p=>
   rw[if_neg (by simp),AW,if_neg (fun e=>by cases e),hq,Mv h hA _ (by simp),Dd,Dd]
  | .key k2::p=>
   rw[if_neg (by simp),AW]
   obtain⟨b',m',hd',es'⟩:=t'
   obtain⟨b,m,hd0,es⟩:=t
   rw[Cr]
   have hl2:=hl k2
   simp only[Tb.es]at hl2
   rw[hl2]
   by_cases hk:k2=k
   ·subst hk
    rw[if_pos rfl,if_pos rfl,AW]
   ·rw[if_neg hk,if_neg (fun e=>hk (Stp.key.inj e).symm),hq,Mv h hA _ (by simp),Cr]
structure Asg where
 tab:Bool
 elem:Bool
 keys:List B8
 val:Vl
structure Nu where
 b:Nat
 m:Nat
 eb:Nat
def AB (nu:Nu) (hd:Bool):Tb:= .mk nu.b nu.m hd []
def DD (nu:Nu) (hd:Bool) (T:Tb) (h:List Hop) (k:B8):Option (Tb×List Hop):=
 match atT T h with
 | none=>none
 | some t=>match Ag k t.es with
  | none=>some (Ax T h (AS t k nu.eb (.opn (AB nu false))),h++[(k,none)])
  | some (_,.opn _)=>some (T,h++[(k,none)])
  | some (_,.lst l)=>if hd=true then some (T,h++[(k,some (l.length-1))])else none
  | some (_,.clo _ _)=>none
def BJ (nu:Nat->Nu) (hd:Bool):Nat->Tb->List Hop->List B8->Option (Tb×List Hop)
 | _,T,h,[]=>some (T,h)
 | j,T,h,k::ks=>match DD (nu j) hd T h k with
  | none=>none
  | some (T',h')=>BJ nu hd (j+1) T' h' ks
def BT:Tb->Tb | .mk b m _ es=> .mk b m true es
def Cc (nu:Nu) (a:Asg) (i:Nat) (T:Tb) (h cur:List Hop) (k:B8):Except Int (Tb×List Hop):=
 match atT T h with
 | none=> .error 0
 | some t=>
  if a.elem=true then(match Ag k t.es with
   | none=> .ok (Ax T h (AS t k nu.eb (.lst [AB nu false])),h++[(k,some 0)])
   | some (_,.lst l)=> .ok (Ax T h (B6 t k (.lst (l++[AB nu false]))),h++[(k,some l.length)])
   | some _=> .error 6)
  else if a.tab=true then(match Ag k t.es with
   | none=> .ok (Ax T h (AS t k nu.eb (.opn (AB nu true))),h++[(k,none)])
   | some (_,.opn u)=>if u.hd=true then .error 8 else .ok (Ax T h (B6 t k (.opn (BT u))),h++[(k,none)])
   | some _=> .error 8)
  else(match Ag k t.es with
   | none=> .ok (Ax T h (AS t k nu.eb (.clo a.val i)),cur)
   | some _=> .error 8)
deriving instance DecidableEq for Sc
def Gw (v:Vl):Bool:=decide (v.sc=scO)&&v.list.isEmpty&&v.flds.isEmpty
def Cm (a:Asg):Bool:= !a.keys.isEmpty&&(a.tab || !a.elem)&&(!a.tab || Gw a.val)
def DZ (nu:Nat->Nu) (i:Nat) (T:Tb) (cur:List Hop) (a:Asg):Except Int (Tb×List Hop):=
 if Cm a=false then .error 1
 else match BJ nu a.tab 0 T (if a.tab=true then []else cur) a.keys.dropLast with
  | none=> .error 8
  | some (T',h)=>Cc (nu a.keys.length) a i T' h cur (a.keys.getLastD [])
end Go.TVF
end
section
namespace Go.TVF
open Go.IntKind(i64 u8)
inductive ShE where
 | opn (b:Nat)
 | lst (bs:List Nat)
 | clo (v:Vl) (i:Nat)
structure Sh where
 b:Nat
 m:Nat
 hd:Bool
 d:Nat
 es:List (B8×Nat×ShE)
def shE:En->ShE
 | .opn t=> .opn t.b
 | .lst l=> .lst (l.map Tb.b)
 | .clo v i=> .clo v i
def shK (d:Kn):B8×Nat×ShE:=(d.key,d.eb,shE d.en)
mutual
def shT:Nat->Tb->List Sh
 | d,.mk b m hd es=>⟨b,m,hd,d,es.map shK⟩::B2 d es
def B2:Nat->List Kn->List Sh
 | _,[]=>[]
 | d,.mk _ _ e::r=>Bb d e++B2 d r
def Bb:Nat->En->List Sh
 | d,.opn t=>shT (d+1) t
 | d,.lst l=>D6 (d+2) l
 | _,.clo _ _=>[]
def D6:Nat->List Tb->List Sh
 | _,[]=>[]
 | d,t::r=>shT d t++D6 d r
end
theorem PE (d:Nat):∀a b:List Kn,B2 d (a++b)=B2 d a++B2 d b
 | [],b=>by simp[B2]
 | .mk k eb e::r,b=>by simp only[List.cons_append,B2,PE d r b,List.append_assoc]
theorem JT (d:Nat):∀a b:List Tb,D6 d (a++b)=D6 d a++D6 d b
 | [],b=>by simp[D6]
 | t::r,b=>by simp only[List.cons_append,D6,JT d r b,List.append_assoc]
theorem GB (d:Nat) {k:B8}:∀{es:List Kn} {eb:Nat} {e:En},Ag k es=some (eb,e)->∃P Q,B2 d es=P++(Bb d e++Q)/\∀x,B2 d (BR k x es)=P++(Bb d x++Q)
 | .mk k' eb' e'::r,eb,e,h=>by
  unfold Ag at h
  by_cases hk:k=k'
  ·rw[if_pos hk]at h
   cases h
   exact⟨[],B2 d r,by rw[B2,List.nil_append],fun x=>by rw[BR,if_pos hk,B2,List.nil_append]⟩
  ·rw[if_neg hk]at h
   obtain⟨P,Q,h1,h2⟩:=GB d h
   exact⟨Bb d e'++P,Q,by rw[B2,h1,List.append_assoc],fun x=>by rw[BR,if_neg hk,B2,h2 x,List.append_assoc]⟩
theorem Oy {k:B8} {x:En}:∀{es:List Kn} {eb:Nat} {e:En},Ag k es=some (eb,e)->shE x=shE e->(BR k x es).map shK=es.map shK
 | .mk k' eb' e'::r,eb,e,h,hx=>by
  unfold Ag at h
  by_cases hk:k=k'
  ·rw[if_pos hk]at h
   cases h
   rw[BR,if_pos hk,List.map_cons,List.map_cons]
   show(k',eb',shE x)::_=(k',eb',shE e')::_
   rw[hx]
  ·rw[if_neg hk]at h
   rw[BR,if_neg hk,List.map_cons,List.map_cons,Oy h hx]
theorem PC (d:Nat):∀{l:List Tb} {i:Nat} {u:Tb},l[i]? =some u->∃P Q,D6 d l=P++(shT d u++Q)/\∀x,D6 d (l.set i x)=P++(shT d x++Q)
 | t::r,0,u,h=>by
  cases h
  exact⟨[],D6 d r,by rw[D6,List.nil_append],fun x=>by rw[List.set_cons_zero,D6,List.nil_append]⟩
 | t::r,i+1,u,h=>by
  obtain⟨P,Q,h1,h2⟩:=PC d (l:=r) (i:=i) (u:=u) (by simpa using h)
  exact⟨shT d t++P,Q,by rw[D6,h1,List.append_assoc],fun x=>by rw[List.set_cons_succ,D6,h2 x,List.append_assoc]⟩
def dpH:List Hop->Nat
 | []=>0
 | (_,none)::h=>dpH h+1
 | (_,some _)::h=>dpH h+2
theorem Kd:∀a b:List Hop,dpH (a++b)=dpH a+dpH b
 | [],b=>by simp[dpH]
 | (k,none)::a,b=>by rw[List.cons_append,dpH,dpH,Kd a b];omega
 | (k,some i)::a,b=>by rw[List.cons_append,dpH,dpH,Kd a b];omega
theorem box_set {l:List Tb} {i:Nat} {u x:Tb} (h:l[i]? =some u) (hx:x.b=u.b):(l.set i x).map Tb.b=l.map Tb.b:=by
 rw[List.map_set,hx]
 apply List.ext_getElem?
 intro j
 by_cases hj:i=j
 ·subst hj
  obtain⟨hlt,hu⟩:=List.getElem?_eq_some_iff.1 h
  rw[List.getElem?_set_self (by rw[List.length_map];exact hlt),List.getElem?_map,h];rfl
 ·rw[List.getElem?_set_ne hj]
theorem I6:∀(h:List Hop) {T t:Tb},atT T h=some t->∀d,∃A B,shT d T=A++(shT (d+dpH h) t++B)/\∀t',t'.b=t.b->shT d (Ax T h t')=A++(shT (d+dpH h) t'++B)
 | [],T,t,hA,d=>by
  cases T;cases hA
  exact⟨[],[],by rw[List.nil_append,List.append_nil];rfl,fun t' _=>by rw[List.nil_append,List.append_nil];rfl⟩
 | (k,none)::h,.mk b m hd es,t,hA,d=>by
  rw[atT]at hA
  rcases hl:Ag k es with _ | ⟨eb,u | l | ⟨v,i⟩⟩<;>rw[hl]at hA<;>simp only at hA<;>try (cases hA;done)
  obtain⟨A,B,h1,h2⟩:=I6 h hA (d+1)
  obtain⟨P,Q,h3,h4⟩:=GB d hl
  have e:d+1+dpH h=d+dpH ((k,none)::h):=by rw[dpH];omega
  rw[e]at h1 h2
  refine⟨⟨b,m,hd,d,es.map shK⟩::(P++A),B++Q,?_,fun t' ht=>?_⟩
  ·rw[shT,h3,Bb,h1]
   simp only[List.cons_append,List.append_assoc]
  ·rw[Ax,hl]
   simp only
   rw[shT,h4,Bb,h2 t' ht,Oy hl (by show ShE.opn _=ShE.opn _;rw[FW h hA ht])]
   simp only[List.cons_append,List.append_assoc]
 | (k,some j)::h,.mk b m hd es,t,hA,d=>by
  rw[atT]at hA
  rcases hl:Ag k es with _ | ⟨eb,u | l | ⟨v,i⟩⟩<;>rw[hl]at hA<;>simp only at hA<;>try (cases hA;done)
  cases hj:l[j]? with
  | none=>simp[hj]at hA
  | some u=>
  rw[hj]at hA
  simp only at hA
  obtain⟨A,B,h1,h2⟩:=I6 h hA (d+2)
  obtain⟨P,Q,h3,h4⟩:=GB d hl
  obtain⟨P2,Q2,h5,h6⟩:=PC (d+2) hj
  have e:d+2+dpH h=d+dpH ((k,some j)::h):=by rw[dpH];omega
  rw[e]at h1 h2
  refine⟨⟨b,m,hd,d,es.map shK⟩::(P++(P2++A)),B++(Q2++Q),?_,fun t' ht=>?_⟩
  ·rw[shT,h3,Bb,h5,h1]
   simp only[List.cons_append,List.append_assoc]
  ·rw[Ax,hl]
   simp only[hj]
   rw[shT,h4,Bb,h6,h2 t' ht,Oy hl (by show ShE.lst _=ShE.lst _;rw[box_set hj (FW h hA ht)])]
   simp only[List.cons_append,List.append_assoc]
theorem Ox (d:Nat) (t:Tb) (k:B8) (eb:Nat) (e:En):shT d (AS t k eb e)=⟨t.b,t.m,t.hd,d,t.es.map shK++[(k,eb,shE e)]⟩::(B2 d t.es++Bb d e):=by
 unfold AS
 rw[shT,List.map_append,PE,B2,B2,List.append_nil]
 rfl
theorem E0 (d:Nat) (t:Tb):shT d t=⟨t.b,t.m,t.hd,d,t.es.map shK⟩::B2 d t.es:=by cases t;rfl
def EE (k:B8):List (B8×Nat×ShE)->Option (Nat×ShE)
 | []=>none
 | (k',p)::r=>if k=k' then some p else EE k r
theorem GI (k:B8):∀es:List Kn,EE k (es.map shK)=(Ag k es).map fun p=>(p.1,shE p.2)
 | []=>rfl
 | .mk k' eb e::r=>by
  rw[List.map_cons,Ag]
  show(if k=k' then some (eb,shE e)else EE k (r.map shK))=_
  by_cases hk:k=k'
  ·rw[if_pos hk,if_pos hk];rfl
  ·rw[if_neg hk,if_neg hk,GI k r]
theorem NM {k k2:B8} {p:Nat×ShE}:∀{es:List (B8×Nat×ShE)},EE k2 (es++[(k,p)])=match EE k2 es with | some q=>some q | none=>if k2=k then some p else none
 | []=>by simp[EE]
 | (k',q)::r=>by
  rw[List.cons_append,EE,EE]
  split
  ·rfl
  ·exact NM
def bxS (s:Sh):List Nat:=s.b::s.m::s.es.map fun x=>x.2.1
def bxL (L:List Sh):List Nat:=L.flatMap bxS
theorem AJ (A B:List Sh):bxL (A++B)=bxL A++bxL B:=by unfold bxL;rw[List.flatMap_append]
theorem A5 (s:Sh) (L:List Sh):bxL (s::L)=bxS s++bxL L:=by unfold bxL;rw[List.flatMap_cons]
theorem Bj {x:Nat} {s:Sh} {L:List Sh} (hs:s∈L) (hx:x∈bxS s):x∈bxL L:=List.mem_flatMap.2 ⟨s,hs,hx⟩
end Go.TVF
end
namespace Go.TVF
open Go.IntKind(i64 u8)
open Go Go.Proofs
def Bd:TV->Option Nat
 | .list _ (.own id) _ _=>some id
 | _=>none
def Dw (v:TV) (xs:List TV):Prop:=(v= .nilSlice/\xs=[])∨∃tip,v= .list 1 tip xs.length xs/\(tip= .full∨∃id,tip= .own id)
theorem Dw.nil:Dw .nilSlice []:= .inl ⟨rfl,rfl⟩
theorem Dw.sl {v:TV} {xs:List TV} (h:Dw v xs):isSl v=true:=by
 rcases h with⟨rfl,_⟩ | ⟨tip,rfl,_⟩<;>rfl
theorem Dw.len {v:TV} {xs:List TV} (h:Dw v xs):lenS v=xs.length:=by
 rcases h with⟨rfl,rfl⟩ | ⟨tip,rfl,_⟩<;>rfl
theorem Dw.lenZ {v:TV} {xs:List TV} (h:Dw v xs):lenZ 1 v=xs.length:=by
 rcases h with⟨rfl,rfl⟩ | ⟨tip,rfl,_⟩<;>rfl
theorem MQ {T bytes:Nat} {st:St} {v y:TV} {xs:List TV} {K:TV->St->Prop} (h:Dw v xs) (ht:∀id,Bd v=some id->id<st.nt/\st.live id=true) (hby:(xs.length+1)*bytes<=140737488355328)
  (hK:∀v' st',Dw v' (xs++[y])->Bd v'=some st.nt->st'.box=st.box->st'.nb=st.nb->st'.bt=st.bt->st'.nt=st.nt+1->st'.live st.nt=true->(∀i,i<st.nt->Bd v≠some i->st'.live i=st.live i)->K v' st'):
  Cl T 1 bytes v 1 [y] st K:=by
 rcases h with⟨rfl,rfl⟩ | ⟨tip,rfl,rfl | ⟨id,rfl⟩⟩
 ·simp only[Cl]
  refine Aa (by rw[Nat.ble_eq];simpa using hby) (hK _ _ (.inr ⟨.own st.nt,rfl,.inr ⟨_,rfl⟩⟩) rfl rfl rfl rfl rfl (by simp[St.fresh]) fun i hi _=>?_)
  simp only[St.fresh];rw[if_neg (by omega)]
 ·simp only[Cl,Nat.beq_refl]
  refine⟨hby,hK _ _ (.inr ⟨.own st.nt,by simp,.inr ⟨_,rfl⟩⟩) rfl rfl rfl rfl rfl (by simp[St.fresh]) fun i hi _=>?_⟩
  simp only[St.fresh];rw[if_neg (by omega)]
 ·obtain⟨h1,h2⟩:=ht id rfl
  simp only[Cl,Nat.beq_refl]
  refine⟨hby,h2,hK _ _ (.inr ⟨.own st.nt,by simp,.inr ⟨_,rfl⟩⟩) rfl rfl rfl rfl rfl (by simp[St.fresh,St.retire]) fun i hi hne=>?_⟩
  have h3:i≠id:=fun e=>hne (by rw[e];rfl)
  have h4:i≠st.nt:=by omega
  simp[St.fresh,St.retire,h3,h4]
theorem Ov {t m e d:Nat} {kv:TV} {ks:List B8} {key:B8} {es:List (B8×TV)} {st:St} {K:St->Prop} (hb:st.box t= .cells [kv,.map m,.int .i64 d]) (hm:st.box m= .map es)
  (hr:Dw kv (ks.map TV.str)) (ht:∀id,Bd kv=some id->id<st.nt/\st.live id=true) (hl:ks.length<=1000000)
  (hk:∀kv' st',Dw kv' ((ks++[key]).map TV.str)->Bd kv'=some st.nt->st'.box=(fun x=>if x=m then .map (Gh key (.box e 0) es)else if x=t then .cells [kv',.map m,.int .i64 d]else st.box x)->st'.nb=st.nb->st'.bt=st.bt->st'.nt=st.nt+1->
   st'.live st.nt=true->(∀i,i<st.nt->Bd kv≠some i->st'.live i=st.live i)->K st'):
  CallT PR AO [.box t 0,.str key,.box e 0] [] st K:=by
 have hmt:m≠t:=fun h=>by rw[h,hb]at hm;cases hm
 refine HO t key e st K (Ad (x:=kv) (by simp only[Ac,hb];rfl) (MQ hr ht (by rw[List.length_map];omega) fun v' st1 h1 h2 h3 h4 h5 h6 h7 h8=>?_))
 have h1':Ah v'=true:=by
  rcases h1 with⟨_,hx⟩ | ⟨tip,h9,_⟩
  ·simp at hx
  ·rw[h9];rfl
 refine Aa (by simp[h1']) ?_
 have hb1:st1.box t= .cells [kv,.map m,.int .i64 d]:=by rw[h3];exact hb
 refine⟨_,hb1,by simp,?_⟩
 refine Ad (x:= .map m) (by simp[Ac,St.put,setAll]) ?_
 refine⟨es,by simp only[St.put];rw[if_neg hmt,h3];exact hm,?_⟩
 refine hk v' _ (by rw[List.map_append];exact h1) h2 ?_ h4 h5 h6 h7 h8
 funext x
 simp only[St.put,h3,setAll]
 rfl
theorem allC {st:St} {up:List (Nat×TV)} (h:∀p,p∈up->Ap st p.1=true):(up.all fun p=>Ap st p.1)=true:=List.all_eq_true.2 h
theorem KJ {st:St} {ub k:Nat} {up:List (Nat×TV)} (hu:st.box ub= .pmap up) (h:∀p,p∈up->Ap st p.1=true) (hk:Ap st k=true):Mg st (.map ub) (.box k 0)=some (up,k):=by
 simp only[Mg,Mc,hu,pkey,Nat.beq_refl,hk,allC h]
 rfl
theorem IT {bb ub d:Nat} {r n:TV} {nodes:Int} {up:List (Nat×TV)} {st:St} {K:TV->St->Prop} (hb:st.box bb= .cells [r,n,.map ub,.int .i64 nodes]) (hu:st.box ub= .pmap up) (hbb:bb<st.nb) (hub:ub<st.nb)
  (hc:∀p,p∈up->Ap st p.1=true/\p.1<st.nb) (hn:0<=nodes/\nodes<1000000000)
  (hk:∀st',st'.nb=st.nb+2->st'.box=(fun x=>if x=bb then .cells [r,n,.map ub,.int .i64 (nodes+1)]else if x=ub then .pmap (E8 (st.nb+1) (.bool true) up)else if x=st.nb+1 then .cells [.nilSlice,.map st.nb,.int .i64 d]else if x=st.nb then .map []else st.box x)->
   st'.nt=st.nt->st'.live=st.live->K (.box (st.nb+1) 0) st'):
  CallT PR AC [.box bb 0,.int .i64 d] [.one .tv] st K:=by
 have hbu:ub≠bb:=fun h=>by rw[h,hb]at hu;cases hu
 have e1:bb≠st.nb:=by omega
 have e2:bb≠st.nb+1:=by omega
 have e3:ub≠st.nb:=by omega
 have e4:ub≠st.nb+1:=by omega
 refine Ge bb d st K (Aa rfl (Ad (x:= .map ub) (by simp[Ac,St.push,e1,e2,hb]) ?_))
 have hg:Mg ((st.push (.map []) none).push (.cells [.nilSlice,.map st.nb,.int .i64 d]) (some 89)) (.map ub) (.box (st.nb+1) 0)=some (up,st.nb+1):=by
  refine KJ (by simp[St.push,e3,e4,hu]) (fun p hp=>?_) (by simp[Ap,St.push])
  obtain⟨h1,h2⟩:=hc p hp
  have h3:p.1≠st.nb:=by omega
  have h4:p.1≠st.nb+1:=by omega
  simp only[Ap]at h1
  simp[Ap,St.push,h3,h4,h1]
 refine Ad hg ?_
 refine Ad (x:= .int .i64 nodes) (by simp[Ac,St.push,St.put,Il,Ne.symm hbu,e1,e2,hb]) (AV ?_)
 refine⟨[r,n,.map ub,.int .i64 nodes],by simp[St.push,St.put,Il,Ne.symm hbu,e1,e2,hb],by simp,?_⟩
 rw[Am _ (by omega) (by omega)]
 refine hk _ rfl ?_ rfl rfl
 funext x
 simp only[St.push,St.put,Il,setAll]
 rfl
end Go.TVF
