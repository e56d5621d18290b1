/- What the laws below rest on: a framework for Go programs, and contracts of the functions that they reach. -/
import Derived.Test.YtbbjecpcjdmfgaaGreatDoorSdD
set_option maxRecDepth 20000
set_option linter.unusedVariables false
set_option linter.unusedSimpArgs false
namespace Go.TVF
open Go.IntKind(i64 u8)
open Go Go.Proofs
theorem Ov {α:Type} {K:α->St->Prop} {a b:α} {st:St} (h:a=b) (hk:K b st):K a st:=h▸hk
theorem My {r:Int} {st:St} {K:Bool->St->Prop} (h0:0<=r) (hk:K (decide (AZ r.toNat)) st):CallT PR BN [.int .i64 r] [.one (.bool)] st K:=by
 refine Fn _ st K (Ab (fun _=>Ab (fun h2=>Ab (fun h3=>?_) fun h3=>?_) fun h2=>?_) fun h1=>absurd h0 h1)
 ·have:AZ r.toNat:=by unfold AZ;omega
  simpa [this]using hk
 ·have:decide ((57343:Int)<r)=decide (AZ r.toNat):=by
   rw[Bool.eq_iff_iff];simp only[decide_eq_true_eq];unfold AZ;omega
  rw[this];exact hk
 ·have:¬AZ r.toNat:=by unfold AZ;omega
  simpa [this]using hk
theorem Ew (st:St) (n:Nat) (l:B8) (xs:List TV) (h:xs=AS l):(Dc st (.list 1 .full n xs)).map TV.str=some (.str l):=by
 subst h;simp[Dc,HA]
theorem FH (n:Nat):IntKind.wrap .u8 (n:Int)=((UInt8.ofNat n).toNat:Int):=by
 unfold IntKind.wrap
 simp only[IntKind.signed,IntKind.bits]
 simp
 try omega
theorem orN (a b m:Nat) (hb:b<2^m) (h:a*2^m+b<2^63) (x y:Int) (hx:x=((a*2^m:Nat):Int)) (hy:y=(b:Int)):AL .or .i64 x y=((a*2^m+b:Nat):Int):=by
 rw[hx,hy];exact Qp a b m hb h
theorem QL {R:Int} {r:Nat} {st:St} {K:B8->Int->St->Prop} (hR:R=(r:Int)) (hr:r<2^40) (hk:K (if AZ r then E9 r else []) (if AZ r then 0 else 2) st):CallT PR Bz [.int .i64 R] [.one (.str),.one (.int .i64)] st K:=by
 have shr:∀m,m<=64->Int.fdiv R (2^(min m (IntKind.bits .i64)))=((r/2^m:Nat):Int):=fun m hm=>by rw[hR];exact shr_i64 r m hm
 have s6:=shr 6 (by decide)
 have s12:=shr 12 (by decide)
 have s18:=shr 18 (by decide)
 have m63:∀x:Nat,x<2^63->AL .and .i64 (x:Int) (63:Int)=((x%64:Nat):Int):=fun x hx=>HB x 6 hx (by decide)
 have mR:AL .and .i64 R (63:Int)=((r%64:Nat):Int):=by rw[hR];exact m63 r (by omega)
 have o128:∀x:Nat,x<64->AL .or .i64 (128:Int) (x:Int)=((128+x:Nat):Int):=fun x hx=>orN 2 x 6 (by omega) (by omega) _ _ rfl rfl
 have hR0:0<=R:=by omega
 have hRn:R.toNat=r:=by omega
 refine Gw _ st K (My hR0 (Aw (fun h0=>?_) fun h0=>?_))
 ·have hc:¬AZ r:=by rw[hRn]at h0;simpa using h0
  rw[if_neg hc,if_neg hc]at hk
  exact hk
 ·have hc:AZ r:=by rw[hRn]at h0;simpa using h0
  rw[if_pos hc,if_pos hc]at hk
  unfold E9 at hk
  refine Ab (fun h1=>?_) fun h1=>Ab (fun h2=>?_) fun h2=>Ab (fun h3=>?_) fun h3=>?_
  ·rw[if_pos (by omega)]at hk
   exact Ad (Ew _ _ _ _ (by simp only[AS,List.map,If];rw[hR,FH])) hk
  ·rw[if_neg (by omega),if_pos (by omega)]at hk
   have o192:AL .or .i64 (192:Int) ((r/2^6:Nat):Int)=((192+r/64:Nat):Int):=orN 6 _ 5 (by omega) (by omega) _ _ rfl rfl
   refine Ad (Ew _ _ _ _ ?_) hk
   simp only[AS,List.map,If]
   rw[show Int.toNat (6:Int)=6 from rfl,s6,o192,mR,o128 _ (by omega),FH,FH]
  ·rw[if_neg (by omega),if_neg (by omega),if_pos (by omega)]at hk
   have o224:AL .or .i64 (224:Int) ((r/2^12:Nat):Int)=((224+r/4096:Nat):Int):=orN 14 _ 4 (by omega) (by omega) _ _ rfl rfl
   refine Ad (Ew _ _ _ _ ?_) hk
   simp only[AS,List.map,If]
   rw[show Int.toNat (6:Int)=6 from rfl,show Int.toNat (12:Int)=12 from rfl,s6,s12,o224,mR,m63 (r/2^6) (by omega),o128 _ (by omega),o128 _ (by omega),FH,FH,FH]
  ·rw[if_neg (by omega),if_neg (by omega),if_neg (by omega)]at hk
   have hr2:r<=1114111:=hc.1
   have o240:AL .or .i64 (240:Int) ((r/2^18:Nat):Int)=((240+r/262144:Nat):Int):=orN 30 _ 3 (by omega) (by omega) _ _ rfl rfl
   refine Ad (Ew _ _ _ _ ?_) hk
   simp only[AS,List.map,If]
   rw[show Int.toNat (6:Int)=6 from rfl,show Int.toNat (12:Int)=12 from rfl,show Int.toNat (18:Int)=18 from rfl,s6,s12,s18,o240,mR,m63 (r/2^6) (by omega),m63 (r/2^12) (by omega),o128 _ (by omega),o128 _ (by omega),o128 _ (by omega),FH,FH,FH,FH]
theorem Sk {r:Nat} {st:St} {K:B8->Int->St->Prop} (hr:r<2^40) (hk:K (if AZ r then E9 r else []) (if AZ r then 0 else 2) st):CallT PR Bz [.int .i64 (r:Int)] [.one (.str),.one (.int .i64)] st K:=
 QL rfl hr hk
def rD (l:B8):Nat×Nat:=if ul l=0 then(0,0)else(ur l,ul l)
theorem O4 {s:B8} {I:Int} {i:Nat} {st:St} {K:Int->Int->St->Prop} (hI:I=(i:Int)) (hl:s.length<=2000000) (hi:i<=s.length) (hk:K ((rD (s.drop i)).1:Nat) ((rD (s.drop i)).2:Nat) st):CallT PR BA [.str s,.int .i64 I] [.one (.int .i64),.one (.int .i64)] st K:=by
 refine Gx s I st K (Ab (fun h=>by omega) fun _=>Ab (fun h=>?_) fun h=>⟨⟨by omega,by omega⟩,?_⟩)
 ·have:s.drop i=[]:=List.drop_of_length_le (by omega)
  have h0:rD (s.drop i)=(0,0):=by rw[this];simp[rD,ul]
  rw[h0]at hk;exact hk
 ·have hne:s.drop i≠ []:=by
   intro h0
   have:=congrArg List.length h0
   simp at this;omega
  have href:=KE (s.drop i) hne
  have hb0:(List.getD s (Int.toNat I) 0).toNat=bt (s.drop i) 0:=by rw[Om,hI];rfl
  have hlt:=Ev (s.drop i) 0
  have hlen:(s.drop i).length=s.length-i:=by simp
  rw[hb0,SM _ (by omega)]
  have m15:AL .and .i64 ((bt (s.drop i) 0:Nat):Int) (15:Int)=((bt (s.drop i) 0%16:Nat):Int):=HB _ 4 (by omega) (by decide)
  have m7:AL .and .i64 ((bt (s.drop i) 0:Nat):Int) (7:Int)=((bt (s.drop i) 0%8:Nat):Int):=HB _ 3 (by omega) (by decide)
  have m31:AL .and .i64 ((bt (s.drop i) 0:Nat):Int) (31:Int)=((bt (s.drop i) 0%32:Nat):Int):=HB _ 5 (by omega) (by decide)
  rw[m15,m7,m31]
  refine⟨fun size r s' at' st1=>s=s'/\I=at'/\st=st1/\((rsz (bt (s.drop i) 0):Nat):Int)=size/\((rb0 (bt (s.drop i) 0):Nat):Int)=r,?_,?_⟩
  ·refine Ab (fun h1=>⟨rfl,rfl,rfl,?_,?_⟩) fun h1=>Ab (fun h2=>⟨rfl,rfl,rfl,?_,?_⟩) fun h2=>Ab (fun h3=>⟨rfl,rfl,rfl,?_,?_⟩) fun h3=>⟨rfl,rfl,rfl,?_,?_⟩
   ·unfold rsz;rw[if_pos (by omega)];rfl
   ·unfold rb0;rw[if_pos (by omega)]
   ·unfold rsz;rw[if_neg (by omega),if_pos (by omega)];rfl
   ·unfold rb0;rw[if_neg (by omega),if_pos (by omega)]
   ·unfold rsz;rw[if_neg (by omega),if_neg (by omega),if_pos (by omega)];rfl
   ·unfold rb0;rw[if_neg (by omega),if_neg (by omega),if_pos (by omega)]
   ·unfold rsz;rw[if_neg (by omega),if_neg (by omega),if_neg (by omega)];rfl
   ·unfold rb0;rw[if_neg (by omega),if_neg (by omega),if_neg (by omega)]
  ·rintro _ _ _ _ _ ⟨rfl,rfl,rfl,rfl,rfl⟩
   have hs:=SU (bt (s.drop i) 0)
   have hr0:=rb0_lt _ hlt
   generalize hsz:rsz (bt (s.drop i) 0)=size at*
   generalize hrr:rb0 (bt (s.drop i) 0)=r0 at*
   have hra:=NT (s.drop i) r0 hr0
   unfold R4 at href
   simp only[hsz,hrr]at href
   rw[Ah _ (by omega) (by omega)]
   refine Ab (fun h1=>?_) fun h1=>?_
   ·rw[if_pos (by omega)]at href
    have:rD (s.drop i)=(0,0):=by unfold rD;rw[<-href]
    rw[this]at hk;exact hk
   ·rw[if_neg (by omega)]at href
    refine⟨fun r j s' at' sz st2=>s=s'/\I=at'/\st=st2/\((size:Nat):Int)=sz/\∃k:Nat,j=((k+1:Nat):Int)/\k+1<=size/\r=((Cb (s.drop i) r0 k:Nat):Int),fun _ j _ _ sz _=>(sz-j).toNat,⟨rfl,rfl,rfl,rfl,0,rfl,hs.1,rfl⟩,?_⟩
    rintro _ _ _ _ _ _ ⟨rfl,rfl,rfl,rfl,k,rfl,hk1,rfl⟩
    have hrk:=hra k
    have h64:64^k<=64^3:=Nat.pow_le_pow_right (by decide) (by omega)
    refine Ab (fun h2=>?_) fun h2=>?_
    ·rw[Ah _ (by omega) (by omega)]
     have hbk:(List.getD s (Int.toNat (I+((k+1:Nat):Int))) 0).toNat=bt (s.drop i) (k+1):=by
      rw[Om,show Int.toNat (I+((k+1:Nat):Int))=i+(k+1) by omega];rfl
     have hbl:=Ev (s.drop i) (k+1)
     have hand:AL .and .i64 (i64.wrap ((bt (s.drop i) (k+1):Nat):Int)) (63:Int)=((bt (s.drop i) (k+1)%64:Nat):Int):=by
      rw[SM _ (by omega)];exact HB _ 6 (by omega) (by decide)
     have hmul:i64.wrap (((Cb (s.drop i) r0 k:Nat):Int)*2^(min (Int.toNat (6:Int)) (IntKind.bits .i64)))=((Cb (s.drop i) r0 k*2^6:Nat):Int):=by
      rw[show(2:Int)^(min (Int.toNat (6:Int)) (IntKind.bits .i64))=64 by decide,Ah _ (by omega) (by omega)];omega
     refine⟨⟨by omega,by omega⟩,?_⟩
     rw[hbk,hand,hmul,Qp _ _ 6 (by omega) (by omega),Ah _ (by omega) (by omega)]
     exact⟨⟨rfl,rfl,rfl,rfl,k+1,by omega,by omega,by simp only[Cb]⟩,by dsimp only;omega⟩
    ·have hks:k=size-1:=by omega
     subst hks
     refine Sk (by omega) ?_
     generalize hR:Cb (s.drop i) r0 (size-1)=R at*
     refine Ab (fun h3=>?_) fun h3=>?_
     ·have hc:¬AZ R:=by intro hc;rw[if_pos hc]at h3;exact h3 rfl
      rw[if_neg (fun h=>hc h.1)]at href
      have:rD (s.drop i)=(0,0):=by unfold rD;rw[<-href]
      rw[this]at hk;exact hk
     ·have hc:AZ R:=by
       apply Decidable.byContradiction
       intro hc;rw[if_neg hc]at h3;exact h3 (by decide)
      rw[if_pos hc,Ah _ (by omega) (by omega)]
      refine⟨⟨by omega,by omega,by omega⟩,?_⟩
      rw[Mk,show Int.toNat (I+(size:Int))-Int.toNat I=size by omega,show Int.toNat I=i by omega]
      refine Ab (fun h4=>?_) fun h4=>?_
      ·rw[if_neg (fun h=>h4 h.2)]at href
       have:rD (s.drop i)=(0,0):=by unfold rD;rw[<-href]
       rw[this]at hk;exact hk
      ·rw[if_pos ⟨hc,Decidable.not_not.1 h4⟩]at href
       have:rD (s.drop i)=(R,size):=by unfold rD;rw[<-href]
       rw[this]at hk;exact hk
theorem Ql {s:B8} {i:Nat} {st:St} {K:Int->Int->St->Prop} (hl:s.length<=2000000) (hi:i<=s.length) (hk:K ((rD (s.drop i)).1:Nat) ((rD (s.drop i)).2:Nat) st):CallT PR BA [.str s,.int .i64 (i:Int)] [.one (.int .i64),.one (.int .i64)] st K:=
 O4 rfl hl hi hk
theorem OE (l:B8):C0 l<=l.length:=Ra _ l (Nat.le_refl _)
theorem KN:C0 []=0:=BO _ (by simp[ul])
theorem Rd.ldx {sz:Nat} {v:TV} {n:Nat} {xs:List TV} (h:Rd sz v n xs) (st:St) (i j:Nat) {x:TV} (hx:xs[i*sz+j]? =some x):Ac st [] (.t (ixT sz v i)) j=some x:=by
 obtain⟨hlt,hx⟩:=List.getElem?_eq_some_iff.1 hx
 rw[h.ld st i j hlt,hx]
theorem Rd.ldfx {sz:Nat} {v:TV} {n:Nat} {xs:List TV} (h:Rd sz v n xs) (st:St) (i j:Nat) {x:TV} (hx:xs[i*sz+j]? =some x):Ac st [] (.t (Az (ixT sz v i) j)) 0=some x:=by
 obtain⟨hlt,hx⟩:=List.getElem?_eq_some_iff.1 hx
 rw[h.ldf st i j hlt,hx]
theorem Mz {s:B8} {st:St} {K:TV->Bool->St->Prop} (hl:s.length<=2000000)
  (hk:∀v xs st',Am st st'->Rd 1 v (xs.length+1) (xs++[.int .i64 ((C0 s:Nat):Int)])->xs.length<=s.length->K v (decide (C0 s=s.length)) st'):CallT PR BG [.str s] [.one (.tv),.one (.bool)] st K:=by
 have hv:=OE s
 refine ES s st K ⟨fun v i s' st'=>s=s'/\Am st st'/\∃(k:Nat) (xs:List TV),i=(k:Int)/\k<=s.length/\k+C0 (s.drop k)=C0 s/\xs.length<=k/\Own st.nt 1 st' v (xs.length+1) (xs++[.int .i64 (k:Int)]),fun _ i _ _=>(s.length-i).toNat,⟨rfl,Am.refl _,0,[],rfl,by omega,by simp,by simp,Own.full _ _ _ _ _⟩,?_⟩
 rintro v _ _ st1 ⟨rfl,e,k,xs,rfl,h1,h2,h3,h4⟩
 refine Ab (fun g1=>?_) fun g1=>?_
 ·have hle:=OI (s.drop k)
  rw[List.length_drop]at hle
  refine Ql hl h1 ?_
  unfold rD
  by_cases h0:ul (s.drop k)=0
  ·rw[if_pos h0]
   rw[BO _ h0]at h2
   refine Ab (fun _=>?_) fun h=>absurd rfl h
   have:=hk v xs st1 e (by rw[<-h2];exact h4.rd) (by omega)
   rw[decide_eq_false (by omega)]at this
   exact this
  ·rw[if_neg h0]
   rw[Ga _ h0,List.drop_drop]at h2
   have w:i64.wrap ((k:Int)+(ul (s.drop k):Nat))=((k+ul (s.drop k):Nat):Int):=by rw[Ah _ (by omega) (by omega)];omega
   refine Ab (fun h=>by simp only at h;omega) fun _=>?_
   dsimp only
   rw[w]
   refine LZ e rfl h4 (by omega) (fun h=>by cases h) fun v' st' e' _ ho=>⟨⟨rfl,e',k+ul (s.drop k),xs++[.int .i64 (k:Int)],rfl,by omega,by omega,by rw[List.length_append];simp;omega,?_⟩,by omega⟩
   rw[List.length_append];exact ho
 ·rw[show s.drop k=[]from List.drop_of_length_le (by omega),KN]at h2
  have hks:k=C0 s:=by omega
  have:=hk v xs st1 e (by rw[<-hks];exact h4.rd) (by omega)
  rw[decide_eq_true (by omega)]at this
  exact this
theorem RZ {s:B8} {st:St} {K:Bool->St->Prop} (hl:s.length<=2000000) (hk:∀st',Am st st'->K (decide (C0 s=s.length)) st'):CallT PR BJ [.str s] [.one (.bool)] st K:=
 G3 s st K (Mz hl fun v xs st1 e hr hx=>hk st1 e)
def hdS (b:Nat):Nat:=if b<128 then 1 else if 192<=b/\b<224 then 2 else if 224<=b/\b<240 then 3 else if 240<=b/\b<248 then 4 else 0
def hdB (b:Nat):Nat:=if b<128 then b else if 192<=b/\b<224 then b%32 else if 224<=b/\b<240 then b%16 else if 240<=b/\b<248 then b%8 else 0
def wid (r:Nat):Nat:=if r<128 then 1 else if r<2048 then 2 else if r<65536 then 3 else 4
theorem HT (a m:Nat) (ha:a<256) (hm:m<=8):AL .and .u8 (a:Int) ((2^m-1:Nat):Int)=((a%2^m:Nat):Int):=by
 have:2^m<=2^8:=Nat.pow_le_pow_right (by decide) hm
 rw[Ub _ _ ha (by omega),Nat.and_two_pow_sub_one_eq_mod]
theorem head_ok {B:Int} {b:Nat} {st:St} {K:Int->Int->St->Prop} (hB:B=(b:Int)) (hb:b<256) (hk:K (hdS b:Nat) (hdB b:Nat) st):CallT PR Hv [.int .u8 B] [.one (.int .i64),.one (.int .i64)] st K:=by
 have m31:AL .and .u8 B (31:Int)=((b%32:Nat):Int):=by rw[hB];exact HT b 5 hb (by decide)
 have m15:AL .and .u8 B (15:Int)=((b%16:Nat):Int):=by rw[hB];exact HT b 4 hb (by decide)
 have m7:AL .and .u8 B (7:Int)=((b%8:Nat):Int):=by rw[hB];exact HT b 3 hb (by decide)
 unfold hdS hdB at hk
 have kk:∀(x y x' y':Int),x=x'->y=y'->K x' y' st->K x y st:=fun x y x' y' h1 h2 hk=>by rw[h1,h2];exact hk
 refine OF B st K ?_
 rw[m31,m15,m7,Ah B (by omega) (by omega),Ah ((b%32:Nat):Int) (by omega) (by omega),Ah ((b%16:Nat):Int) (by omega) (by omega),Ah ((b%8:Nat):Int) (by omega) (by omega)]
 by_cases g1:b<128
 ·rw[if_pos g1,if_pos g1]at hk
  exact Ab (fun _=>kk _ _ _ _ rfl hB hk) fun h=>by omega
 rw[if_neg g1,if_neg g1]at hk
 refine Ab (fun h=>by omega) fun _=>?_
 by_cases g2:192<=b/\b<224
 ·rw[if_pos g2,if_pos g2]at hk
  exact Ab (fun _=>Ab (fun _=>hk) fun h=>by omega) fun h=>by omega
 rw[if_neg g2,if_neg g2]at hk
 by_cases g3:224<=b/\b<240
 ·rw[if_pos g3,if_pos g3]at hk
  refine Ab (fun _=>Ab (fun h=>by omega) fun _=>?_) fun h=>by omega
  exact Ab (fun _=>Ab (fun _=>hk) fun h=>by omega) fun h=>by omega
 rw[if_neg g3,if_neg g3]at hk
 by_cases g4:240<=b/\b<248
 ·rw[if_pos g4,if_pos g4]at hk
  refine Ab (fun _=>Ab (fun h=>by omega) fun _=>?_) fun h=>by omega
  refine Ab (fun _=>Ab (fun h=>by omega) fun _=>?_) fun h=>by omega
  exact Ab (fun _=>Ab (fun _=>hk) fun h=>by omega) fun h=>by omega
 rw[if_neg g4,if_neg g4]at hk
 repeat' first
  | exact hk
  | omega
  | refine Ab (fun _=>?_) fun _=>?_
theorem RY {R:Int} {r:Nat} {st:St} {K:Bool->St->Prop} (hR:R=(r:Int)) (hk:K (decide (AZ r)) st):CallT PR FR [.int .i64 R] [.one (.bool)] st K:=by
 unfold AZ at hk
 refine Mf R st K (Ab (fun _=>Ab (fun h2=>Ab (fun h3=>?_) fun h3=>?_) fun h2=>?_) fun h1=>by omega)
 ·exact Ov (decide_eq_true (by omega)).symm hk
 ·exact Ov (decide_eq_decide.2 (by omega)) hk
 ·exact Ov (decide_eq_false (by omega)).symm hk
theorem SN {R:Int} {r:Nat} {st:St} {K:Int->St->Prop} (hR:R=(r:Int)) (hk:K (wid r:Nat) st):CallT PR GO [.int .i64 R] [.one (.int .i64)] st K:=by
 unfold wid at hk
 refine Nx R st K (Ab (fun h1=>?_) fun h1=>Ab (fun h2=>?_) fun h2=>Ab (fun h3=>?_) fun h3=>?_)
 ·rw[if_pos (by omega)]at hk;exact hk
 ·rw[if_neg (by omega),if_pos (by omega)]at hk;exact hk
 ·rw[if_neg (by omega),if_neg (by omega),if_pos (by omega)]at hk;exact hk
 ·rw[if_neg (by omega),if_neg (by omega),if_neg (by omega)]at hk;exact hk
def NU (l:B8):Prop:=hdS (bt l 0)≠0/\hdS (bt l 0)<=l.length/\(∀j,1<=j->j<hdS (bt l 0)->bt l j/64=2)/\AZ (Cb l (hdB (bt l 0)) (hdS (bt l 0)-1))/\wid (Cb l (hdB (bt l 0)) (hdS (bt l 0)-1))=hdS (bt l 0)
theorem pd_val (l:B8) (h:l≠ []) (hp:NU l):ul l=hdS (bt l 0)/\ur l=Cb l (hdB (bt l 0)) (hdS (bt l 0)-1):=by
 obtain⟨p1,p2,p3,p4,p5⟩:=hp
 have e:=KE l h
 have h0:=Ev l 0
 have e0:(l.getD 0 0).toNat=bt l 0:=rfl
 have e1:(l.getD 1 0).toNat=bt l 1:=rfl
 have e2:(l.getD 2 0).toNat=bt l 2:=rfl
 have e3:(l.getD 3 0).toNat=bt l 3:=rfl
 have fin:∀n r,rsz (bt l 0)=n->rb0 (bt l 0)=r->n=hdS (bt l 0)->r=hdB (bt l 0)->E9 (Cb l r (n-1))=l.take n->ul l=hdS (bt l 0)/\ur l=Cb l (hdB (bt l 0)) (hdS (bt l 0)-1):=by
  intro n r hn hr hn2 hr2 henc
  unfold R4 at e
  simp only[hn,hr]at e
  rw[if_neg (by omega),if_pos ⟨by rw[hr2,hn2];exact p4,henc⟩]at e
  by_cases hz:ul l=0
  ·rw[if_pos hz]at e;simp only[Prod.mk.injEq]at e;omega
  ·rw[if_neg hz]at e;simp only[Prod.mk.injEq]at e
   exact⟨by omega,by rw[<-hr2,<-hn2];exact e.1.symm⟩
 have h1:=Ev l 1
 have h2:=Ev l 2
 have h3:=Ev l 3
 by_cases g1:bt l 0<128
 ·have hs:hdS (bt l 0)=1:=by unfold hdS;rw[if_pos g1]
  have hb:hdB (bt l 0)=bt l 0:=by unfold hdB;rw[if_pos g1]
  refine fin 1 (bt l 0) (by unfold rsz;rw[if_neg (by omega),if_neg (by omega),if_neg (by omega)]) (by unfold rb0;rw[if_neg (by omega),if_neg (by omega),if_neg (by omega)]) hs.symm hb.symm ?_
  rw[IT l (by omega)]
  simp only[Nat.sub_self,Cb]
  unfold E9
  rw[if_pos g1]
  simp only[CG,Cz,e0,and_true]
  omega
 by_cases g2:192<=bt l 0/\bt l 0<224
 ·have hs:hdS (bt l 0)=2:=by unfold hdS;rw[if_neg g1,if_pos g2]
  have hb:hdB (bt l 0)=bt l 0%32:=by unfold hdB;rw[if_neg g1,if_pos g2]
  rw[hs]at p3 p5
  rw[hb]at p5
  have q1:=p3 1 (by omega) (by omega)
  refine fin 2 (bt l 0%32) (by unfold rsz;rw[if_neg (by omega),if_neg (by omega),if_pos (by omega)]) (by unfold rb0;rw[if_neg (by omega),if_neg (by omega),if_pos (by omega)]) hs.symm hb.symm ?_
  rw[IS l (by omega)]
  simp only[Nat.reduceSub,Cb,Nat.zero_add]at p5⊢
  generalize bt l 0=b0 at*
  generalize bt l 1=b1 at*
  unfold wid at p5
  unfold E9
  by_cases k1:b0%32*64+b1%64<128
  ·rw[if_pos k1]at p5;omega
  rw[if_neg k1]at p5⊢
  by_cases k2:b0%32*64+b1%64<2048
  ·rw[if_pos k2]
   simp only[CG,Cz,e0,e1,and_true]
   omega
  ·rw[if_neg k2]at p5;split at p5<;>omega
 by_cases g3:224<=bt l 0/\bt l 0<240
 ·have hs:hdS (bt l 0)=3:=by unfold hdS;rw[if_neg g1,if_neg g2,if_pos g3]
  have hb:hdB (bt l 0)=bt l 0%16:=by unfold hdB;rw[if_neg g1,if_neg g2,if_pos g3]
  rw[hs]at p3 p5
  rw[hb]at p5
  have q1:=p3 1 (by omega) (by omega)
  have q2:=p3 2 (by omega) (by omega)
  refine fin 3 (bt l 0%16) (by unfold rsz;rw[if_neg (by omega),if_pos (by omega)]) (by unfold rb0;rw[if_neg (by omega),if_pos (by omega)]) hs.symm hb.symm ?_
  rw[GA l (by omega)]
  simp only[Nat.reduceSub,Cb,Nat.zero_add,Nat.reduceAdd]at p5⊢
  generalize bt l 0=b0 at*
  generalize bt l 1=b1 at*
  generalize bt l 2=b2 at*
  generalize hr:(b0%16*64+b1%64)*64+b2%64=r at*
  unfold wid at p5
  unfold E9
  by_cases k1:r<128
  ·rw[if_pos k1]at p5;omega
  rw[if_neg k1]at p5⊢
  by_cases k2:r<2048
  ·rw[if_pos k2]at p5;omega
  rw[if_neg k2]at p5⊢
  by_cases k3:r<65536
  ·rw[if_pos k3]
   simp only[CG,Cz,e0,e1,e2,and_true]
   omega
  ·rw[if_neg k3]at p5;omega
 by_cases g4:240<=bt l 0/\bt l 0<248
 ·have hs:hdS (bt l 0)=4:=by unfold hdS;rw[if_neg g1,if_neg g2,if_neg g3,if_pos g4]
  have hb:hdB (bt l 0)=bt l 0%8:=by unfold hdB;rw[if_neg g1,if_neg g2,if_neg g3,if_pos g4]
  rw[hs]at p3 p4 p5
  rw[hb]at p4 p5
  have q1:=p3 1 (by omega) (by omega)
  have q2:=p3 2 (by omega) (by omega)
  have q3:=p3 3 (by omega) (by omega)
  refine fin 4 (bt l 0%8) (by unfold rsz;rw[if_pos (by omega)]) (by unfold rb0;rw[if_pos (by omega)]) hs.symm hb.symm ?_
  rw[JE l (by omega)]
  simp only[Nat.reduceSub,Cb,Nat.zero_add,Nat.reduceAdd]at p4 p5⊢
  generalize bt l 0=b0 at*
  generalize bt l 1=b1 at*
  generalize bt l 2=b2 at*
  generalize bt l 3=b3 at*
  generalize hr:((b0%8*64+b1%64)*64+b2%64)*64+b3%64=r at*
  unfold wid at p5
  unfold E9
  by_cases k1:r<128
  ·rw[if_pos k1]at p5;omega
  rw[if_neg k1]at p5⊢
  by_cases k2:r<2048
  ·rw[if_pos k2]at p5;omega
  rw[if_neg k2]at p5⊢
  by_cases k3:r<65536
  ·rw[if_pos k3]at p5;omega
  rw[if_neg k3]
  have:=p4.1
  simp only[CG,Cz,e0,e1,e2,e3,and_true]
  omega
 ·exfalso
  unfold hdS at p1
  rw[if_neg g1,if_neg g2,if_neg g3,if_neg g4]at p1
  exact p1 rfl
theorem pd_iff (l:B8) (h:l≠ []):ul l≠0->NU l:=by
 intro hu
 have e:=KE l h
 rw[if_neg hu]at e
 have h0:=Ev l 0
 have e0:(l.getD 0 0).toNat=bt l 0:=rfl
 have e1:(l.getD 1 0).toNat=bt l 1:=rfl
 have e2:(l.getD 2 0).toNat=bt l 2:=rfl
 have e3:(l.getD 3 0).toNat=bt l 3:=rfl
 have h1:=Ev l 1
 have h2:=Ev l 2
 have h3:=Ev l 3
 have hc:¬l.length<rsz (bt l 0)/\AZ (Cb l (rb0 (bt l 0)) (rsz (bt l 0)-1))/\E9 (Cb l (rb0 (bt l 0)) (rsz (bt l 0)-1))=l.take (rsz (bt l 0)):=by
  unfold R4 at e
  simp only at e
  split at e
  ·simp only[Prod.mk.injEq]at e;omega
  ·split at e
   ·rename_i a b;exact⟨a,b⟩
   ·simp only[Prod.mk.injEq]at e;omega
 obtain⟨hl,hch,henc⟩:=hc
 by_cases g4:240<=bt l 0
 ·have r4:rsz (bt l 0)=4:=by unfold rsz;rw[if_pos g4]
  have rb:rb0 (bt l 0)=bt l 0%8:=by unfold rb0;rw[if_pos g4]
  rw[r4,rb]at henc hch
  rw[r4]at hl
  rw[JE l (by omega)]at henc
  unfold NU hdS hdB
  simp only[Nat.reduceSub,Cb,Nat.zero_add,Nat.reduceAdd]at henc hch
  generalize hb0:bt l 0=b0 at*
  generalize hb1:bt l 1=b1 at*
  generalize hb2:bt l 2=b2 at*
  generalize hb3:bt l 3=b3 at*
  have hr0:∃r,r=((b0%8*64+b1%64)*64+b2%64)*64+b3%64:=⟨_,rfl⟩
  obtain⟨r,hr⟩:=hr0
  rw[<-hr]at henc hch
  have hmax:=hch.1
  unfold E9 at henc
  have hw:wid r=4/\b0=240+r/262144/\b1/64=2/\b2/64=2/\b3/64=2:=by
   unfold wid
   split at henc
   ·simp at henc
   ·split at henc
    ·simp at henc
    ·split at henc
     ·simp at henc
     ·simp only[CG,Cz,e0,e1,e2,e3,and_true]at henc
      refine⟨by rw[if_neg ‹_›,if_neg ‹_›,if_neg ‹_›],by omega,by omega,by omega,by omega⟩
  rw[if_neg (show ¬b0<128 by omega),if_neg (show ¬(192<=b0/\b0<224) by omega),if_neg (show ¬(224<=b0/\b0<240) by omega),if_pos (show 240<=b0/\b0<248 by omega),if_neg (show ¬b0<128 by omega),if_neg (show ¬(192<=b0/\b0<224) by omega),if_neg (show ¬(224<=b0/\b0<240) by omega),if_pos (show 240<=b0/\b0<248 by omega)]
  simp only[Nat.reduceSub,Cb,Nat.zero_add,Nat.reduceAdd,hb1,hb2,hb3]
  rw[<-hr]
  refine⟨by omega,by omega,fun j j1 j2=>?_,hch,hw.1⟩
  have:j=1∨j=2∨j=3:=by omega
  rcases this with rfl | rfl | rfl<;>omega
 by_cases g3:224<=bt l 0
 ·have r4:rsz (bt l 0)=3:=by unfold rsz;rw[if_neg g4,if_pos g3]
  have rb:rb0 (bt l 0)=bt l 0%16:=by unfold rb0;rw[if_neg g4,if_pos g3]
  rw[r4,rb]at henc hch
  rw[r4]at hl
  rw[GA l (by omega)]at henc
  unfold NU hdS hdB
  simp only[Nat.reduceSub,Cb,Nat.zero_add,Nat.reduceAdd]at henc hch
  generalize hb0:bt l 0=b0 at*
  generalize hb1:bt l 1=b1 at*
  generalize hb2:bt l 2=b2 at*
  have hr0:∃r,r=(b0%16*64+b1%64)*64+b2%64:=⟨_,rfl⟩
  obtain⟨r,hr⟩:=hr0
  rw[<-hr]at henc hch
  unfold E9 at henc
  have hw:wid r=3/\b1/64=2/\b2/64=2:=by
   unfold wid
   split at henc
   ·simp at henc
   ·split at henc
    ·simp at henc
    ·split at henc
     ·simp only[CG,Cz,e0,e1,e2,and_true]at henc
      refine⟨by rw[if_neg ‹_›,if_neg ‹_›,if_pos ‹_›],by omega,by omega⟩
     ·simp at henc
  rw[if_neg (show ¬b0<128 by omega),if_neg (show ¬(192<=b0/\b0<224) by omega),if_pos (show 224<=b0/\b0<240 by omega),if_neg (show ¬b0<128 by omega),if_neg (show ¬(192<=b0/\b0<224) by omega),if_pos (show 224<=b0/\b0<240 by omega)]
  simp only[Nat.reduceSub,Cb,Nat.zero_add,Nat.reduceAdd,hb1,hb2]
  rw[<-hr]
  refine⟨by omega,by omega,fun j j1 j2=>?_,hch,hw.1⟩
  have:j=1∨j=2:=by omega
  rcases this with rfl | rfl<;>omega
 by_cases g2:192<=bt l 0
 ·have r4:rsz (bt l 0)=2:=by unfold rsz;rw[if_neg g4,if_neg g3,if_pos g2]
  have rb:rb0 (bt l 0)=bt l 0%32:=by unfold rb0;rw[if_neg g4,if_neg g3,if_pos g2]
  rw[r4,rb]at henc hch
  rw[r4]at hl
  rw[IS l (by omega)]at henc
  unfold NU hdS hdB
  simp only[Nat.reduceSub,Cb,Nat.zero_add,Nat.reduceAdd]at henc hch
  generalize hb0:bt l 0=b0 at*
  generalize hb1:bt l 1=b1 at*
  have hr0:∃r,r=b0%32*64+b1%64:=⟨_,rfl⟩
  obtain⟨r,hr⟩:=hr0
  rw[<-hr]at henc hch
  unfold E9 at henc
  have hw:wid r=2/\b1/64=2:=by
   unfold wid
   split at henc
   ·simp at henc
   ·split at henc
    ·simp only[CG,Cz,e0,e1,and_true]at henc
     refine⟨by rw[if_neg ‹_›,if_pos ‹_›],by omega⟩
    ·split at henc<;>simp at henc
  rw[if_neg (show ¬b0<128 by omega),if_pos (show 192<=b0/\b0<224 by omega),if_neg (show ¬b0<128 by omega),if_pos (show 192<=b0/\b0<224 by omega)]
  simp only[Nat.reduceSub,Cb,Nat.zero_add,hb1]
  rw[<-hr]
  refine⟨by omega,by omega,fun j j1 j2=>?_,hch,hw.1⟩
  have:j=1:=by omega
  subst this;omega
 ·have r4:rsz (bt l 0)=1:=by unfold rsz;rw[if_neg g4,if_neg g3,if_neg g2]
  have rb:rb0 (bt l 0)=bt l 0:=by unfold rb0;rw[if_neg g4,if_neg g3,if_neg g2]
  rw[r4,rb]at henc hch
  rw[r4]at hl
  rw[IT l (by omega)]at henc
  unfold NU hdS hdB
  simp only[Nat.sub_self,Cb]at henc hch
  generalize hb0:bt l 0=b0 at*
  have hlt:b0<128:=by
   unfold E9 at henc
   split at henc
   ·assumption
   ·split at henc
    ·simp at henc
    ·split at henc<;>simp at henc
  rw[if_pos hlt,if_pos hlt]
  simp only[Nat.sub_self,Cb]
  refine⟨by omega,by omega,fun j j1 j2=>by omega,hch,by unfold wid;rw[if_pos hlt]⟩
theorem P4 {s:B8} {I:Int} {i:Nat} {st:St} {K:Int->Int->St->Prop} (hI:I=(i:Int)) (hl:s.length<=2000000) (hi:i<=s.length) (hk:K ((rD (s.drop i)).1:Nat) ((rD (s.drop i)).2:Nat) st):
  CallT PR FS [.str s,.int .i64 I] [.one (.int .i64),.one (.int .i64)] st K:=by
 have no:¬NU (s.drop i)->s.drop i≠ []->K 0 0 st:=fun h hne=>by
  have:ul (s.drop i)=0:=Decidable.byContradiction fun h0=>h (pd_iff _ hne h0)
  unfold rD at hk
  rw[if_pos this]at hk;exact hk
 have yes:NU (s.drop i)->s.drop i≠ []->K (Cb (s.drop i) (hdB (bt (s.drop i) 0)) (hdS (bt (s.drop i) 0)-1):Nat) (hdS (bt (s.drop i) 0):Nat) st:=fun h hne=>by
  have hv:=pd_val _ hne h
  unfold rD at hk
  rw[if_neg (by rw[hv.1];exact h.1),hv.1,hv.2]at hk
  exact hk
 have hlen:(s.drop i).length=s.length-i:=by simp
 have hb:∀j,bt (s.drop i) j=(s.getD (i+j) 0).toNat:=Om s i
 refine Mg s I st K (Ab (fun h=>by omega) fun _=>Ab (fun h=>?_) fun h=>⟨⟨by omega,by omega⟩,?_⟩)
 ·have:s.drop i=[]:=List.drop_of_length_le (by omega)
  have h0:rD (s.drop i)=(0,0):=by rw[this];simp[rD,ul]
  rw[h0]at hk;exact hk
 have hne:s.drop i≠ []:=by
  intro h0
  have:=congrArg List.length h0
  rw[hlen]at this;simp only[List.length_nil]at this;omega
 have hb0:(List.getD s (Int.toNat I) 0).toNat=bt (s.drop i) 0:=by rw[hb,hI];rfl
 have hlt:=Ev (s.drop i) 0
 rw[hb0]
 refine head_ok rfl hlt ?_
 have hsz:hdS (bt (s.drop i) 0)<=4:=by unfold hdS;(repeat' split)<;>omega
 have hbz:hdB (bt (s.drop i) 0)<256:=by unfold hdB;(repeat' split)<;>omega
 unfold NU at no yes
 generalize hdS (bt (s.drop i) 0)=n at*
 generalize hdB (bt (s.drop i) 0)=r0 at*
 rw[Ah _ (by omega) (by omega)]
 refine Ab (fun g=>no (fun hh=>hh.1 (by omega)) hne) fun g1=>Ab (fun g=>no (fun hh=>by omega) hne) fun g2=>?_
 have hra:=NT (s.drop i) r0 hbz
 refine⟨fun r j s' at' sz st2=>s=s'/\I=at'/\st=st2/\((n:Nat):Int)=sz/\∃k:Nat,j=((k+1:Nat):Int)/\k+1<=n/\r=((Cb (s.drop i) r0 k:Nat):Int)/\∀m,1<=m->m<=k->bt (s.drop i) m/64=2,fun _ j _ _ sz _=>(sz-j).toNat,⟨rfl,rfl,rfl,rfl,0,rfl,by omega,rfl,fun m h1 h2=>by omega⟩,?_⟩
 rintro _ _ _ _ _ _ ⟨rfl,rfl,rfl,rfl,k,rfl,hk1,rfl,hall⟩
 have hrk:=hra k
 have h64:64^k<=64^3:=Nat.pow_le_pow_right (by decide) (by omega)
 refine Ab (fun h2=>?_) fun h2=>?_
 ·rw[Ah (I+((k+1:Nat):Int)) (by omega) (by omega)]
  have hbk:(List.getD s (Int.toNat (I+((k+1:Nat):Int))) 0).toNat=bt (s.drop i) (k+1):=by
   rw[hb,show Int.toNat (I+((k+1:Nat):Int))=i+(k+1) by omega]
  have hbl:=Ev (s.drop i) (k+1)
  have h192:AL .and .u8 ((bt (s.drop i) (k+1):Nat):Int) (192:Int)=((bt (s.drop i) (k+1)&&&192:Nat):Int):=Ub _ 192 hbl (by decide)
  have hand:i64.wrap (AL .and .u8 ((bt (s.drop i) (k+1):Nat):Int) (63:Int))=((bt (s.drop i) (k+1)%64:Nat):Int):=by
   rw[show(63:Int)=((2^6-1:Nat):Int) by decide,HT _ 6 hbl (by decide),Ah _ (by omega) (by omega)]
  have hmul:i64.wrap (((Cb (s.drop i) r0 k:Nat):Int)*2^(min (Int.toNat (6:Int)) (IntKind.bits .i64)))=((Cb (s.drop i) r0 k*2^6:Nat):Int):=by
   rw[show(2:Int)^(min (Int.toNat (6:Int)) (IntKind.bits .i64))=64 by decide,Ah _ (by omega) (by omega)];omega
  have hc:(bt (s.drop i) (k+1)&&&192)=128↔bt (s.drop i) (k+1)/64=2:=by
   have:∀x,x<256->((x&&&192)=128↔x/64=2):=by decide+kernel
   exact this _ hbl
  refine⟨⟨by omega,by omega⟩,?_⟩
  rw[hbk,h192,hand,hmul,Qp _ _ 6 (by omega) (by omega),Ah _ (by omega) (by omega)]
  refine Ab (fun h3=>no (fun hh=>h3 ?_) hne) fun h3=>?_
  ·have:=hh.2.2.1 (k+1) (by omega) (by omega)
   rw[hc.2 this];rfl
  ·have h4:bt (s.drop i) (k+1)/64=2:=hc.1 (by omega)
   refine⟨⟨rfl,rfl,rfl,rfl,k+1,by omega,by omega,by simp only[Cb],fun m m1 m2=>?_⟩,by dsimp only;omega⟩
   by_cases hm:m=k+1
   ·rw[hm];exact h4
   ·exact hall m m1 (by omega)
 ·have hks:k=n-1:=by omega
  subst hks
  refine RY rfl (Aw (fun h3=>no (fun hh=>?_) hne) fun h3=>SN rfl (Ab (fun h4=>no (fun hh=>?_) hne) fun h4=>?_))
  ·simp only[Bool.not_eq_true',decide_eq_false_iff_not]at h3
   exact h3 hh.2.2.2.1
  ·rw[hh.2.2.2.2]at h4;exact h4 rfl
  ·simp only[Bool.not_eq_false',decide_eq_true_eq]at h3
   exact yes ⟨by omega,by omega,fun m m1 m2=>hall m m1 (by omega),h3,by omega⟩ hne
theorem uLen_ok {s:B8} {st:St} {K:Int->Int->St->Prop} (hl:s.length<=2000000) (hk:∀n:Int,K n (if C0 s=s.length then 0 else 5) st):CallT PR ID [.str s] [.one (.int .i64),.one (.int .i64)] st K:=by
 have hv:=OE s
 refine P3 s st K ⟨fun n i s' st'=>s=s'/\st=st'/\∃k:Nat,i=(k:Int)/\k<=s.length/\k+C0 (s.drop k)=C0 s,fun _ i _ _=>(s.length-i).toNat,⟨rfl,rfl,0,rfl,by omega,by simp⟩,?_⟩
 rintro n _ _ _ ⟨rfl,rfl,k,rfl,h1,h2⟩
 refine Ab (fun g1=>P4 rfl hl h1 ?_) fun g1=>?_
 ·have hle:=OI (s.drop k)
  rw[List.length_drop]at hle
  unfold rD
  by_cases h0:ul (s.drop k)=0
  ·rw[if_pos h0]
   rw[BO _ h0]at h2
   have:=hk 0
   rw[if_neg (by omega)]at this
   exact Ab (fun _=>this) fun h=>absurd rfl h
  ·rw[if_neg h0]
   rw[Ga _ h0,List.drop_drop]at h2
   refine Ab (fun h=>absurd h (by show ¬((ul (s.drop k):Nat):Int)=0;omega)) fun _=>?_
   have w:i64.wrap ((k:Int)+(ul (s.drop k):Nat))=((k+ul (s.drop k):Nat):Int):=by rw[Ah _ (by omega) (by omega)];omega
   dsimp only
   rw[w]
   exact⟨⟨rfl,rfl,_,rfl,by omega,by omega⟩,by omega⟩
 ·rw[show s.drop k=[]from List.drop_of_length_le (by omega),KN]at h2
  have:=hk n
  rw[if_pos (by omega)]at this
  exact this
theorem JC {s:B8} {st:St} {K:Bool->St->Prop} (hl:s.length<=2000000) (hk:K (decide (C0 s=s.length)) st):CallT PR Ds [.str s] [.one (.bool)] st K:=by
 refine Ny s st K (uLen_ok hl fun n=>?_)
 by_cases h:C0 s=s.length
 ·rw[if_pos h];rw[decide_eq_true h]at hk;exact hk
 ·rw[if_neg h];rw[decide_eq_false h]at hk;exact hk
theorem NB {l:B8} {c:UInt8} (hc:c.toNat<128) (hl:l.length<=9223372036854775807) {st:St} {K:B8->St->Prop} (hk:K (Lib.trimRightB l c) st):CallT PR Eb [.str l,.str [c]] [.one .str] st K:=by
 refine Ex (fun _ _=>by kernel_rfl) fun g w vargs s hr=>?_
 obtain⟨v,u,rfl,hv,hu⟩:=O2 hr
 rw[D5 hv,D5 hu]
 refine Calls.mono (Tryz.strings_TrimRight_one ⟨l.toArray⟩ c hc w (by simpa [ByteArray.size]using hl)) ?_
 rintro e w' ⟨rfl,rfl⟩
 exact⟨_,rfl,.str _,st,g,hk,s,Rel.str _,Ext.refl _ _⟩
theorem K0 (l:B8):(Lib.trimRightB l 48).length+Jt l=l.length:=by
 unfold Lib.trimRightB Jt
 have:=congrArg List.length (List.takeWhile_append_dropWhile (p:=fun x:UInt8=>x==48) (l:=l.reverse))
 rw[List.length_append,List.length_reverse]at this
 rw[List.length_reverse];omega
theorem SL {l:B8} (hl:l.length<=2000000) {st:St} {K:Int->St->Prop} (hk:K (Jt l:Nat) st):CallT PR El [.str l] [.one (.int .i64)] st K:=by
 refine Kw _ st K (NB (by decide) (by omega) ?_)
 have:=K0 l
 rw[Ah _ (by omega) (by omega),show((l.length:Nat):Int)-((Lib.trimRightB l 48).length:Int)=(Jt l:Nat) by omega]
 exact hk
theorem TD {l:B8} {n:Nat} (h:n<l.length):List.getD l n 0∈l:=by
 rw[List.getD_eq_getElem?_getD,List.getElem?_eq_getElem h,Option.getD_some]
 exact List.getElem_mem h
theorem Ud {P:UInt8->Prop} {l:B8} {n:Nat} (h:n<l.length) (h1:∀c,c∈l.take n->P c) (h2:P (List.getD l n 0)):∀c,c∈l.take (n+1)->P c:=by
 intro c hc
 rw[Gm _ _ 0 h]at hc
 rcases List.mem_append.1 hc with hc | hc
 ·exact h1 c hc
 ·rw[List.mem_singleton.1 hc];exact h2
theorem all_ok {l:B8} (hl:l.length<=2000000) {st:St} {K:Bool->St->Prop} (hk:K (decide (∀c,c∈l->N3 c)) st):CallT PR FT [.str l] [.one .bool] st K:=by
 refine Mi l st K ⟨fun i s m st'=>l=s/\(l.length:Int)=m/\st=st'/\∃n:Nat,i=n/\n<=l.length/\∀c,c∈l.take n->N3 c,fun i _ _ _=>(l.length-i).toNat,⟨rfl,rfl,rfl,0,rfl,Nat.zero_le _,fun c hc=>by simp at hc⟩,?_⟩
 rintro _ _ _ _ ⟨rfl,rfl,rfl,n,rfl,hn,hall⟩
 refine Ab (fun g=>?_) fun g=>?_
 ·have hm:=TD (l:=l) (n:=n) (by omega)
  have bad:¬N3 (List.getD l n 0)->K false st:=fun hb=>by
   rw[decide_eq_false fun h=>hb (h _ hm)]at hk;exact hk
  rw[Int.toNat_natCast]
  refine⟨⟨by omega,by omega⟩,Ab (fun g2=>bad (by unfold N3;omega)) fun g2=>⟨⟨by omega,by omega⟩,Ab (fun g3=>bad (by unfold N3;omega)) fun g3=>?_⟩⟩
  rw[Ah _ (by omega) (by omega)]
  exact⟨⟨rfl,rfl,rfl,n+1,by omega,by omega,Ud (by omega) hall (by unfold N3;omega)⟩,by dsimp only;omega⟩
 ·have:n=l.length:=by omega
  subst this
  rw[List.take_length]at hall
  rw[decide_eq_true hall]at hk;exact hk
def Ns (l:B8):Prop:=l.length<=600/\(∀c,c∈l->N3 c)/\(l≠ []->l.getD 0 0≠48)
instance (l:B8):Decidable (Ns l):=inferInstanceAs (Decidable (_/\_/\(_->_)))
theorem ne48 (c:UInt8):decide ((c.toNat:Int)≠48)=decide (c≠48):=by
 have:((c.toNat:Int)≠48)↔c≠48:=by rw[ne_eq,ne_eq,<-UInt8.toNat_inj];exact not_congr ⟨fun h=>Int.ofNat.inj h,fun h=>by rw[h];rfl⟩
 exact decide_eq_decide.2 this
theorem Sr {l:B8} (hl:l.length<=2000000) {st:St} {K:Bool->St->Prop} (hk:K (decide (Ns l)) st):CallT PR Em [.str l] [.one .bool] st K:=by
 have no:¬Ns l->K false st:=fun h=>by rw[decide_eq_false h]at hk;exact hk
 refine Kx l st K (Ab (fun g=>all_ok hl (Ab (fun g2=>Ab (fun g3=>?_) fun g3=>⟨⟨by omega,by have:=List.length_pos_iff.2 g3;omega⟩,?_⟩) fun g2=>no fun h=>g2 h.2.1)) fun g=>no fun h=>g (by have:=h.1;omega))
 ·rw[decide_eq_true (show Ns l from⟨by omega,g2,fun h=>absurd g3 h⟩)]at hk;exact hk
 ·rw[ne48]
  refine Ov (decide_eq_decide.2 ?_) hk
  exact⟨fun h=>⟨by omega,g2,fun _=>h⟩,fun h=>h.2.2 g3⟩
theorem Gq {neg:Bool} {l:B8} {ex:Int} (h:l≠ []):Eg neg l ex↔Ns l/\l.length<=120/\Jt l=0/\ -400<=ex/\ex<=400:=by
 unfold Eg Ns
 constructor
 ·intro g
  obtain⟨g1,g2,g3,g4,g5,g6⟩:=g.2 h
  exact⟨⟨by omega,g2,fun _=>g3⟩,g1,g4,g5,g6⟩
 ·rintro⟨⟨g1,g2,g3⟩,g4,g5,g6,g7⟩
  exact⟨fun e=>absurd e h,fun _=>⟨g4,g2,g3 h,g5,g6,g7⟩⟩
theorem Ng {neg:Bool} {ex:Int}:Eg neg [] ex↔neg=false/\ex=0:=by
 unfold Eg
 exact⟨fun g=>g.1 rfl,fun g=>⟨fun _=>g,fun h=>absurd rfl h⟩⟩
theorem PC {neg:Bool} {l:B8} {ex:Int} (hl:l.length<=2000000) {st:St} {K:Bool->St->Prop} (hk:K (decide (Eg neg l ex)) st):CallT PR DP [.agg [.bool neg,.str l,.int .i64 ex]] [.one .bool] st K:=by
 have no:¬Eg neg l ex->K false st:=fun h=>by rw[decide_eq_false h]at hk;exact hk
 refine Jz _ _ _ st K (Ab (fun g=>?_) fun g=>?_)
 ·subst g
  refine Ov ?_ hk
  rw[Bool.eq_iff_iff]
  simp[Ng]
 ·refine Sr hl (Ab (fun g2=>Ab (fun g3=>SL hl (Ab (fun g4=>Ab (fun g5=>?_) fun g5=>?_) fun g4=>?_)) fun g3=>?_) fun g2=>?_)
  ·exact Ov (decide_eq_decide.2 (by rw[Gq g];exact⟨fun h=>⟨g2,by omega,by omega,g5,h⟩,fun h=>h.2.2.2.2⟩)) hk
  ·exact no fun h=>g5 ((Gq g).1 h).2.2.2.1
  ·exact no fun h=>g4 (by have:=((Gq g).1 h).2.2.1;omega)
  ·exact no fun h=>g3 (by have:=((Gq g).1 h).2.1;omega)
  ·exact no fun h=>g2 ((Gq g).1 h).1
theorem NC {k d n z:Int} {st:St} {K:Bool->St->Prop} (hk:K (decide (FY k d n z)) st):CallT PR Df [.agg [.int .i64 k,.int .i64 d,.int .i64 n,.int .i64 z]] [.one .bool] st K:=by
 refine Kv _ _ _ _ st K ?_
 repeat' first
  | exact Ov (Eq.symm (decide_eq_false (by unfold FY;omega))) hk
  | exact Ov (Eq.symm (decide_eq_true (by unfold FY;omega))) hk
  | exact Ov (decide_eq_decide.2 (by unfold FY;omega)) hk
  | refine Ab (fun _=>?_) fun _=>?_
theorem orc {c p r:Bool} {K:Bool->Prop} {R1 R2:Prop} (h1:K r->R1) (h2:K r->R2) (hk:K ((c&&p) || r)):BIf c (BIf p (K true) R1) R2:=by
 cases c<;>cases p<;>simp only[Bool.true_and,Bool.false_and,Bool.true_or,Bool.false_or]at hk<;>first | exact h1 hk | exact h2 hk | exact hk
theorem orn {c p r s:Bool} {K:Bool->Prop} {R1 R2:Prop} (hs:s=true) (h1:K r->R1) (h2:K r->R2) (hk:K ((c&&p) || r)):BIf c (need s (BIf p (K true) R1)) R2:=by
 subst hs;exact orc h1 h2 hk
theorem ore {c p s:Bool} {K:Bool->Prop} (hs:s=true) (hk:K (c&&p)):BIf c (need s (K p)) (K false):=by
 subst hs;cases c<;>exact hk
def exB (s:Sc) (l:List Vl) (f:List Fd):Bool:=
 (decide (s.kind≠1)&&s.b) || ((decide (s.kind≠2)&& !((s.neg==false)&&(decide (s.dg=[])&&(decide (s.ex=0)&&true)))) || ((decide (s.kind≠3)&& !(decide (s.tk=0)&&(decide (s.td=0)&&(decide (s.tn=0)&&(decide (s.tz=0)&&true))))) ||
  ((decide (s.kind≠4)&&decide (s.text≠ [])) || ((decide (s.kind≠5)&&decide (0<(s.bytes.length:Int))) || ((decide (s.kind≠6)&&decide (0<(l.length:Int))) || (decide (s.kind≠7)&&decide (0<(f.length:Int))))))))
theorem To {α:Type} {l:List α}:¬0<(l.length:Int)↔l=[]:=by
 rw[<-List.length_eq_zero_iff];omega
theorem Na {s:Sc} {l:List Vl} {f:List Fd} (h0:0<=s.kind) (h7:s.kind<=7):exB s l f=false↔L5 s l f:=by
 unfold exB
 simp only[Bool.or_eq_false_iff,Bool.and_eq_false_imp,decide_eq_true_eq,Bool.not_eq_false',Bool.and_eq_true,beq_iff_eq,decide_eq_false_iff_not,To,ne_eq,Decidable.not_not,and_true]
 constructor
 ·rintro⟨a,b,c,d,e,f,g⟩;exact⟨h0,h7,a,b,c,d,e,f,g⟩
 ·rintro⟨_,_,a,b,c,d,e,f,g⟩;exact⟨a,b,c,d,e,f,g⟩
theorem exB_eq {s:Sc} {l:List Vl} {f:List Fd} (h0:0<=s.kind) (h7:s.kind<=7):exB s l f= !decide (L5 s l f):=by
 cases h:exB s l f with
 | false=>rw[decide_eq_true ((Na h0 h7).1 h)];rfl
 | true=>rw[decide_eq_false fun o=>by rw[(Na h0 h7).2 o]at h;cases h];rfl
theorem TI {s:Sc} {l:List Vl} {f:List Fd} {ub ul uf:TV} {st:St} {K:Bool->St->Prop} (h1:isSl ub=true) (h2:isSl ul=true) (h3:isSl uf=true) (l1:lenS ub=s.bytes.length) (l2:lenS ul=l.length) (l3:lenS uf=f.length) (hk:K (exB s l f) st):
  CallT PR E5 [.agg (AJ s ub ul uf)] [.one .bool] st K:=by
 unfold exB at hk
 refine KP _ _ _ _ _ _ _ _ _ _ _ _ _ st K ?_
 rw[l1,l2,l3]
 revert hk
 repeat' first
  | (refine fun hk=>ore (K:=fun b=>K b st) h3 hk)
  | (refine fun hk=>orn (K:=fun b=>K b st) h1 ?_ ?_ hk)
  | (refine fun hk=>orn (K:=fun b=>K b st) h2 ?_ ?_ hk)
  | (refine fun hk=>orc (K:=fun b=>K b st) ?_ ?_ hk)
theorem key_ok {s:B8} (hl:s.length<=2000000) {st:St} {K:Int->St->Prop} (hk:K ((if U8 s then(if 1024<s.length then 10 else 0)else 5:Nat):Int) st):CallT PR GN [.str s] [.one (.int .i64)] st K:=by
 refine Nw _ st K (JC hl (Aw (fun g=>?_) fun g=>?_))
 ·have hu:¬U8 s:=by unfold U8;simpa using g
  rw[if_neg hu]at hk;exact hk
 ·have hu:U8 s:=by unfold U8;simpa using g
  rw[if_pos hu]at hk
  refine Ab (fun g2=>?_) fun g2=>?_
  ·have h3:1024<s.length:=by omega
   rw[if_pos h3]at hk;exact hk
  ·have h3:¬1024<s.length:=by omega
   rw[if_neg h3]at hk;exact hk
theorem IE (k k':B8) (v:TV):∀es:List (B8×TV),Av k (FI k' v es)=if k=k' then some v else Av k es
 | []=>by
  simp only[FI,Av]
  by_cases h:k=k'<;>simp[h]
 | (k1,v1)::es=>by
  simp only[FI]
  by_cases h1:k'=k1
  ·simp only[h1,decide_true,Av]
   by_cases h:k=k1<;>simp[h]
  ·simp only[h1,decide_false,Av,IE k k' v es]
   by_cases h:k=k1
   ·simp[h,Ne.symm h1]
   ·simp[h]
def MapN (es:List (B8×TV)) (ns:List B8):Prop:=∀t,Av t es=if t∈ns then some (.bool true)else none
theorem MapN.add {es:List (B8×TV)} {ns:List B8} (h:MapN es ns) (t:B8):MapN (FI t (.bool true) es) (t::ns):=by
 intro k
 rw[IE]
 by_cases hk:k=t
 ·simp[hk]
 ·rw[if_neg hk,h k];simp[hk]
theorem Qz (seen:List B8) (d:Fd) (r:List Fd):C9 seen (d::r)=if U8 d.key then(if 1024<d.key.length then 10 else if d.key∈seen then 8 else C9 (d.key::seen) r)else 5:=rfl
theorem Db {α:Type} {l:List α} {k:Nat} {x:α} (h:l[k]? =some x):l.drop k=x::l.drop (k+1):=by
 obtain⟨q1,q2⟩:=List.getElem?_eq_some_iff.1 h
 rw[List.drop_eq_getElem_cons q1,q2]
theorem key_len {f:List Fd} {d:Fd} (h:d∈f):d.key.length<=BW f:=by
 have:=Hu h
 cases d;unfold Fd.sz at this;simp only[Fd.key];omega
theorem keys_ok {st0 st:St} {uf:TV} {xf:List TV} {f:List Fd} (hke:Bo st0 st) (h4:SlR st0 14 uf f.length xf) (h5:FsR st0 f xf) (hN:BW f<=2000000) {K:Int->St->Prop} (hk:∀st',Am st st'->K (C9 [] f:Nat) st'):
  CallT PR FO [uf] [.one (.int .i64)] st K:=by
 have hfl:=BS f
 refine Ma _ st K (Aa h4.isSl ⟨fun i m u n st'=> .map st.nb=m/\uf=u/\(f.length:Int)=n/\∃(k:Nat) (ns:List B8) (es:List (B8×TV)),i=k/\k<=f.length/\Am st st'/\st.nb<st'.nb/\st'.box st.nb= .map es/\MapN es ns/\C9 [] f=C9 ns (f.drop k),fun i _ _ _ _=>(f.length-i).toNat,
  ⟨rfl,rfl,by rw[h4.lenS],0,[],[],rfl,Nat.zero_le _,(Am.refl st).push _ _,by simp[St.push],by simp[St.push],fun t=>by simp[Av],rfl⟩,?_⟩)
 rintro _ _ _ _ st1 ⟨rfl,rfl,rfl,k,ns,es,rfl,hkf,e1,hb,hm,hns,hE⟩
 refine Ab (fun g=>?_) fun g=>?_
 ·refine Sm (hke.trans e1.keeps) h4 h5 rfl (by omega) fun key s' l' f' ub1 ul1 uf1 gw hw on=>Aa on ?_
  have hmem:=DK gw
  have hkl:=key_len hmem
  rw[Db gw,Qz]at hE
  change C9 [] f=if U8 key then(if 1024<key.length then 10 else if key∈ns then 8 else C9 (key::ns) (f.drop (k+1)))else 5 at hE
  change key.length<=_ at hkl
  refine key_ok (by omega) ?_
  by_cases g1:U8 key
  case neg=>
   rw[if_neg g1]at hE⊢
   refine Ab (fun _=>?_) fun h=>absurd (by decide) h
   rw[<-hE];exact hk st1 e1
  rw[if_pos g1]at hE⊢
  by_cases g2:1024<key.length
  ·rw[if_pos g2]at hE⊢
   refine Ab (fun _=>?_) fun h=>absurd (by decide) h
   rw[<-hE];exact hk st1 e1
  rw[if_neg g2]at hE⊢
  refine Ab (fun h=>absurd rfl h) fun _=>Ad (x:=es) (by simp only[D6,hm]) ?_
  rw[hns key]
  by_cases g3:key∈ns
  ·rw[if_pos g3]at hE⊢
   refine DR (Aw (fun _=>?_) fun h=>by cases h)
   have:=hk st1 e1
   rw[hE]at this;exact this
  ·rw[if_neg g3]at hE⊢
   refine DR (Aw (fun h=>by cases h) fun _=>⟨es,hm,?_⟩)
   rw[Ah _ (by omega) (by omega)]
   exact⟨⟨rfl,rfl,rfl,k+1,key::ns,_,by omega,by omega,StX.ext e1 (StX.put (S:=fun i=>i=st.nb) rfl _) (fun i hi=>by rw[hi];exact Nat.le_refl _),hb,by simp[St.put],hns.add key,hE⟩,by dsimp only;omega⟩
 ·have:k=f.length:=by omega
  subst this
  rw[List.drop_length]at hE
  have:=hk st1 e1
  rw[hE]at this;exact this
theorem Bo.stx {b:Nat} {a c d:St} (h:Bo a c) (k:StX (fun i=>i=b) c d) (hb:a.nb<=b):Bo a d:=
 ⟨Nat.le_trans h.1 k.nb,fun i hi=>(k.box i (Nat.lt_of_lt_of_le hi h.1) (by omega)).trans (h.2 i hi)⟩
theorem RG {d n:Nat} {s:Sc} {l:List Vl} {f:List Fd} (h1:¬48<d) (h2:¬65536<=n) (h3:EZ s l f=0):Cv d n (.mk s l f)=GX (Cg (d+1) (n+1) l) fun m=>B2 (d+1) m f:=by
 unfold Cv;rw[if_neg h1,if_neg h2,if_neg (fun h=>h h3)]
theorem PL {d n:Nat} {s:Sc} {l:List Vl} {f:List Fd} (h1:¬48<d) (h2:¬65536<=n) (h3:EZ s l f≠0):Cv d n (.mk s l f)=(n,EZ s l f):=by
 unfold Cv;rw[if_neg h1,if_neg h2,if_pos h3]
theorem LU (d n:Nat) (v:Vl) (r:List Vl):Cg d n (v::r)=GX (Cv d n v) fun m=>Cg d m r:=by rw[Cg]
theorem QS (d n:Nat) (k:B8) (v:Vl) (r:List Fd):B2 d n (.mk k v::r)=GX (Cv d n v) fun m=>B2 d m r:=by rw[B2,Jr]
theorem P1:U8 []:=by unfold U8;rw[KN];rfl
theorem T0:∀(N:Nat) (v:Vl),v.sz<=N->N<=2000000->∀{st0 st:St} {cs:List TV} {b d n:Nat} {D:Int} {K:Int->St->Prop},VlR st0 v cs->Bo st0 st->st0.nb<=b->b<st.nb->st.box b= .cells [.int .i64 (n:Nat)]->n<=65536->D=(d:Int)->d<=100->
  (∀st' (m:Nat),StX (fun i=>i=b) st st'->st'.box b= .cells [.int .i64 (m:Nat)]->((Cv d n v).2=0->m=(Cv d n v).1/\m<=65536)->K ((Cv d n v).2:Nat) st')->CallT PR CC [.agg cs,.int .i64 D,.box b 0] [.one (.int .i64)] st K:=by
 intro N
 induction N with
 | zero=>intro v h;have:=v.sz_pos;omega
 | succ N ih=>
 intro v hN hN2 st0 st cs b d n D K h hke hb0 hb hbx hn hD hd hk
 subst hD
 cases v with
 | mk s l f=>
 have hsz:(Vl.mk s l f).sz=1+s.bytes.length+s.text.length+s.dg.length+BV l+BW f:=by unfold Vl.sz;rfl
 have hll:=Cw l
 have hfl:=BS f
 unfold VlR at h
 obtain⟨ub,ul,uf,xl,xf,rfl,h1,h2,h3,h4,h5⟩:=h
 refine KQ _ _ _ _ _ _ _ _ _ _ _ _ _ (d:Int) b st K ?_
 refine Ad (x:= .int .i64 (n:Nat)) (by simp[Ac,hbx]) (Bh ?_)
 rw[Ah _ (by omega) (by omega)]
 refine⟨_,hbx,by simp,?_⟩
 obtain⟨st1,hst1⟩:∃st1,st1=st.put b (.cells (setAll [.int .i64 (n:Nat)] 0 [.int .i64 ((n:Int)+1)])):=⟨_,rfl⟩
 rw[<-hst1]
 have e1:StX (fun i=>i=b) st st1:=by rw[hst1];exact StX.put (S:=fun i=>i=b) rfl _
 have hb1:st1.box b= .cells [.int .i64 ((n+1:Nat):Int)]:=by rw[hst1];simp[St.put,setAll]
 have hke1:=hke.stx e1 hb0
 refine⟨fun dp p kd bo ng dg ex tk td tn tz tx u1 u2 u3 st'=>dp=d/\p= .box b 0/\ul=u2/\uf=u3/\¬48<d/\¬65536<=n/\EZ s l f=C9 [] f/\StX (fun i=>i=b) st st'/\st'.box b= .cells [.int .i64 ((n+1:Nat):Int)],?_,?_⟩
 ·--the value but for the values in it
  refine Ab (fun g=>?_) fun g=>?_
  ·have hc:Cv d n (.mk s l f)=(n,9):=by unfold Cv;rw[if_pos (by omega)]
   have:=hk st1 (n+1) e1 hb1 (by rw[hc];intro h;cases h)
   rw[hc]at this;exact this
  refine Ad (x:= .int .i64 ((n+1:Nat):Int)) (by simp[Ac,hb1]) (Bh (Ab (fun g2=>?_) fun g2=>?_))
  ·have hc:Cv d n (.mk s l f)=(n,10):=by unfold Cv;rw[if_neg (by omega),if_pos (by omega)]
   have:=hk st1 (n+1) e1 hb1 (by rw[hc];intro h;cases h)
   rw[hc]at this;exact this
  have hg1:¬48<d:=by omega
  have hg2:¬65536<=n:=by omega
  --an error of the value itself
  have err:∀st',StX (fun i=>i=b) st st'->st'.box b= .cells [.int .i64 ((n+1:Nat):Int)]->EZ s l f≠0->K ((EZ s l f:Nat):Int) st':=fun st' e' hb' ho=>by
   have hc:=PL hg1 hg2 ho
   have:=hk st' (n+1) e' hb' (by rw[hc];intro h;exact absurd h ho)
   rw[hc]at this;exact this
  refine⟨fun q dp p kd bo ng dg ex tk td tn tz tx u1 u2 u3 st'=>dp=d/\p= .box b 0/\kd=s.kind/\ng=s.neg/\dg=s.dg/\ex=s.ex/\tk=s.tk/\td=s.td/\tn=s.tn/\tz=s.tz/\tx=s.text/\ub=u1/\ul=u2/\uf=u3/\q= !decide (L5 s l f)/\st1=st',?_,?_⟩
  ·refine Ab (fun g3=>?_) fun g3=>Ab (fun g4=>?_) fun g4=>?_
   ·exact⟨rfl,rfl,rfl,rfl,rfl,rfl,rfl,rfl,rfl,rfl,rfl,rfl,rfl,rfl,by rw[decide_eq_false fun o=>by have:=o.k0;omega];rfl,rfl⟩
   ·exact⟨rfl,rfl,rfl,rfl,rfl,rfl,rfl,rfl,rfl,rfl,rfl,rfl,rfl,rfl,by rw[decide_eq_false fun o=>by have:=o.k7;omega];rfl,rfl⟩
   ·exact TI (s:=s) (l:=l) (f:=f) h1.isSl h2.isSl h4.isSl h1.lenS h2.lenS h4.lenS ⟨rfl,rfl,rfl,rfl,rfl,rfl,rfl,rfl,rfl,rfl,rfl,rfl,rfl,rfl,exB_eq (by omega) (by omega),rfl⟩
  rintro q _ _ _ bo _ _ _ _ _ _ _ _ _ _ _ _ ⟨rfl,rfl,rfl,rfl,rfl,rfl,rfl,rfl,rfl,rfl,rfl,rfl,rfl,rfl,rfl,rfl⟩
  by_cases ho:L5 s l f
  case neg=>
   refine Aw (fun _=>?_) fun h=>by rw[decide_eq_false ho]at h;cases h
   have h6:EZ s l f=6:=by unfold EZ;rw[if_neg ho]
   have:=err st1 e1 hb1 (by rw[h6];decide)
   rw[h6]at this;exact this
  refine Aw (fun h=>by rw[decide_eq_true ho]at h;cases h) fun _=>?_
  have hdec:s.kind≠2->Eg s.neg s.dg s.ex:=fun hk2=>by
   obtain⟨q1,q2,q3⟩:=ho.nu hk2
   rw[q2];exact Ng.2 ⟨q1,q3⟩
  refine⟨fun q dp p kd bo ng dg ex tk td tn tz tx u1 u2 u3 st'=>dp=d/\p= .box b 0/\kd=s.kind/\tx=s.text/\ub=u1/\ul=u2/\uf=u3/\q= !(decide (Eg s.neg s.dg s.ex)&&decide (s.kind=3->FY s.tk s.td s.tn s.tz))/\st1=st',?_,?_⟩
  ·refine Ab (fun g3=>PC (by omega) ?_) fun g3=>Ab (fun g4=>NC ?_) fun g4=>?_
   ·by_cases hq:Eg s.neg s.dg s.ex
    ·refine Aw (fun h=>by rw[decide_eq_true hq]at h;cases h) fun _=>Ab (fun g4=>by omega) fun g4=>?_
     exact⟨rfl,rfl,rfl,rfl,rfl,rfl,rfl,by rw[decide_eq_true hq,decide_eq_true fun h=>absurd h g4];rfl,rfl⟩
    ·refine Aw (fun h=>?_) fun h=>by rw[decide_eq_false hq]at h;cases h
     exact⟨rfl,rfl,rfl,rfl,rfl,rfl,rfl,by rw[decide_eq_false hq];rfl,rfl⟩
   ·exact⟨rfl,rfl,rfl,rfl,rfl,rfl,rfl,by rw[decide_eq_true (hdec g3),decide_eq_decide.2 (show(s.kind=3->FY s.tk s.td s.tn s.tz)↔_ from⟨fun h=>h g4,fun h _=>h⟩)];rfl,rfl⟩
   ·exact⟨rfl,rfl,rfl,rfl,rfl,rfl,rfl,by rw[decide_eq_true (hdec g3),decide_eq_true fun h=>absurd h g4];rfl,rfl⟩
  rintro q _ _ _ bo2 ng2 dg2 ex2 tk2 td2 tn2 tz2 _ _ _ _ _ ⟨rfl,rfl,rfl,rfl,rfl,rfl,rfl,rfl,rfl⟩
  by_cases hq:Eg s.neg s.dg s.ex
  case neg=>
   refine Aw (fun _=>?_) fun h=>by rw[decide_eq_false hq]at h;cases h
   have h6:EZ s l f=2:=by unfold EZ;rw[if_pos ho,if_neg hq]
   have:=err st1 e1 hb1 (by rw[h6];decide)
   rw[h6]at this;exact this
  by_cases hq2:s.kind=3->FY s.tk s.td s.tn s.tz
  case neg=>
   refine Aw (fun _=>?_) fun h=>by rw[decide_eq_true hq,decide_eq_false hq2]at h;cases h
   have h6:EZ s l f=2:=by unfold EZ;rw[if_pos ho,if_pos hq,if_neg hq2]
   have:=err st1 e1 hb1 (by rw[h6];decide)
   rw[h6]at this;exact this
  refine Aw (fun h=>by rw[decide_eq_true hq,decide_eq_true hq2]at h;cases h) fun _=>?_
  --sizes
  have sizes:U8 s.text->∀(X:Prop),(EZ s l f=C9 [] f->X)->BIf (decide (65536<(s.text.length:Int))) (K 10 st1) (need (isSl ub) (BIf (decide (65536<(lenS ub:Int))) (K 10 st1) X)):=fun hu X hX=>by
   have h6:EZ s l f=if 65536<s.text.length then 10 else if 65536<s.bytes.length then 10 else C9 [] f:=by unfold EZ;rw[if_pos ho,if_pos hq,if_pos hq2,if_pos hu]
   refine Ab (fun g5=>?_) fun g5=>Aa h1.isSl (Ab (fun g6=>?_) fun g6=>?_)
   ·rw[if_pos (by omega)]at h6
    have:=err st1 e1 hb1 (by rw[h6];decide)
    rw[h6]at this;exact this
   ·rw[h1.lenS]at g6
    rw[if_neg (by omega),if_pos (by omega)]at h6
    have:=err st1 e1 hb1 (by rw[h6];decide)
    rw[h6]at this;exact this
   ·rw[h1.lenS]at g6
    rw[if_neg (by omega),if_neg (by omega)]at h6
    exact hX h6
  refine Ab (fun g3=>JC (by omega) (Aw (fun g4=>?_) fun g4=>?_)) fun g3=>?_
  ·have hu:¬U8 s.text:=by unfold U8;simpa using g4
   have h6:EZ s l f=5:=by unfold EZ;rw[if_pos ho,if_pos hq,if_pos hq2,if_neg hu]
   have:=err st1 e1 hb1 (by rw[h6];decide)
   rw[h6]at this;exact this
  ·exact sizes (by unfold U8;simpa using g4) _ fun h6=>⟨rfl,rfl,rfl,rfl,hg1,hg2,h6,e1,hb1⟩
  ·exact sizes (by rw[ho.tx g3];exact P1) _ fun h6=>⟨rfl,rfl,rfl,rfl,hg1,hg2,h6,e1,hb1⟩
 ·rintro _ _ kd bo ng dg ex tk td tn tz tx u1 _ _ st2 ⟨rfl,rfl,rfl,rfl,hg1,hg2,h6,e2,hb2⟩
  have hke2:=hke.stx e2 hb0
  refine keys_ok hke2 h4 h5 (by omega) fun st3 e3=>?_
  have e23:=e2.trans (StX.of e3)
  have hb3:st3.box b= .cells [.int .i64 ((n+1:Nat):Int)]:=(e3.box b (by have:=e2.nb;omega)).trans hb2
  refine Ab (fun g=>?_) fun g=>Aa h2.isSl ?_
  ·have ho:EZ s l f≠0:=by rw[h6];omega
   have hc:=PL hg1 hg2 ho
   have:=hk st3 (n+1) e23 hb3 (by rw[hc];intro h;exact absurd h ho)
   rw[hc,h6]at this;exact this
  have hone:EZ s l f=0:=by rw[h6];omega
  have hC:=RG hg1 hg2 hone
  refine⟨fun i dp p u m kd bo ng dg ex tk td tn tz tx u1 u2 u3 st'=>dp=d/\p= .box b 0/\ul=u/\m=(l.length:Int)/\uf=u3/\∃k c:Nat,i=k/\k<=l.length/\c<=65536/\StX (fun i=>i=b) st st'/\st'.box b= .cells [.int .i64 ((c:Nat):Int)]/\Cg (d+1) (n+1) l=Cg (d+1) c (l.drop k),
   fun i _ _ _ _ _ _ _ _ _ _ _ _ _ _ _ _ _ _=>(l.length-i).toNat,⟨rfl,rfl,rfl,by rw[h2.lenS],rfl,0,n+1,rfl,Nat.zero_le _,by omega,e23,hb3,rfl⟩,?_⟩
  rintro _ _ _ _ _ kd bo ng dg ex tk td tn tz tx u1 u2 _ st4 ⟨rfl,rfl,rfl,rfl,rfl,k,c,rfl,hkl,hc,e4,hb4,hE⟩
  have hke4:=hke.stx e4 hb0
  refine Ab (fun g3=>?_) fun g3=>?_
  ·refine Oc hke4 h2 h3 rfl (by omega) fun s' l' f' ub1 ul1 uf1 gw hw on=>Aa on ?_
   have hwsz:=F9 gw
   rw[Db gw,LU]at hE
   rw[Ah _ (by omega) (by omega)]
   refine ih _ (by omega) (by omega) (d:=d+1) hw hke4 hb0 (by have:=e4.nb;omega) hb4 hc (by omega) (by omega) fun st5 m e5 hb5 hm=>?_
   have e45:=e4.trans e5
   refine Ab (fun g4=>?_) fun g4=>?_
   ·have hne:(Cv (d+1) c (.mk s' l' f')).2≠0:=by omega
    rw[JD hne]at hE
    have hc2:Cv d n (.mk s l f)=Cv (d+1) c (.mk s' l' f'):=by rw[hC,hE,JD hne]
    have:=hk st5 m e45 hb5 (by rw[hc2];intro h;exact absurd h hne)
    rw[hc2]at this;exact this
   ·have hz:(Cv (d+1) c (.mk s' l' f')).2=0:=by omega
    rw[Ca hz]at hE
    obtain⟨hm1,hm2⟩:=hm hz
    rw[Ah _ (by omega) (by omega)]
    exact⟨⟨rfl,rfl,rfl,rfl,rfl,k+1,m,by omega,by omega,hm2,e45,hb5,by rw[hE,hm1]⟩,by dsimp only;omega⟩
  ·have hkk:k=l.length:=by omega
   subst hkk
   rw[List.drop_length]at hE
   have hE2:Cg (d+1) (n+1) l=(c,0):=by rw[hE,Cg]
   rw[hE2,Ca rfl]at hC
   refine Aa h4.isSl ?_
   refine⟨fun i dp p u m st'=>dp=d/\p= .box b 0/\uf=u/\m=(f.length:Int)/\∃k c2:Nat,i=k/\k<=f.length/\c2<=65536/\StX (fun i=>i=b) st st'/\st'.box b= .cells [.int .i64 ((c2:Nat):Int)]/\B2 (d+1) c f=B2 (d+1) c2 (f.drop k),
    fun i _ _ _ _ _=>(f.length-i).toNat,⟨rfl,rfl,rfl,by rw[h4.lenS],0,c,rfl,Nat.zero_le _,hc,e4,hb4,rfl⟩,?_⟩
   rintro _ _ _ _ _ st5 ⟨rfl,rfl,rfl,rfl,k,c2,rfl,hkf,hc2,e5,hb5,hF⟩
   have hke5:=hke.stx e5 hb0
   refine Ab (fun g4=>?_) fun g4=>?_
   ·refine Sm hke5 h4 h5 rfl (by omega) fun key s' l' f' ub1 ul1 uf1 gw hw on=>Aa on ?_
    have hwsz:=Gn gw
    have hwk:(Fd.mk key (.mk s' l' f')).sz=key.length+(Vl.mk s' l' f').sz:=by unfold Fd.sz;rfl
    rw[Db gw,QS]at hF
    rw[Ah _ (by omega) (by omega)]
    refine ih (.mk s' l' f') (by omega) (by omega) (d:=d+1) hw hke5 hb0 (by have:=e5.nb;omega) hb5 hc2 (by omega) (by omega) fun st6 m e6 hb6 hm=>?_
    have e56:=e5.trans e6
    refine Ab (fun g5=>?_) fun g5=>?_
    ·have hne:(Cv (d+1) c2 (.mk s' l' f')).2≠0:=by omega
     rw[JD hne]at hF
     have hc3:Cv d n (.mk s l f)=Cv (d+1) c2 (.mk s' l' f'):=by rw[hC];exact hF
     have:=hk st6 m e56 hb6 (by rw[hc3];intro h;exact absurd h hne)
     rw[hc3]at this;exact this
    ·have hz:(Cv (d+1) c2 (.mk s' l' f')).2=0:=by omega
     rw[Ca hz]at hF
     obtain⟨hm1,hm2⟩:=hm hz
     rw[Ah _ (by omega) (by omega)]
     exact⟨⟨rfl,rfl,rfl,rfl,k+1,m,by omega,by omega,hm2,e56,hb6,by rw[hF,hm1]⟩,by dsimp only;omega⟩
   ·have hkk:k=f.length:=by omega
    subst hkk
    rw[List.drop_length]at hF
    have hF2:Cv d n (.mk s l f)=(c2,0):=by rw[hC];show B2 (d+1) c f=_;rw[hF,B2]
    have:=hk st5 c2 e5 hb5 (by rw[hF2];exact fun _=>⟨rfl,hc2⟩)
    rw[hF2]at this;exact this
section
theorem PZ {v:Vl} (hN:v.sz<=2000000) {st0 st:St} {cs:List TV} {K:Int->St->Prop} (h:VlR st0 v cs) (hke:Bo st0 st) (hk:∀st',Am st st'->K (A9 v:Nat) st'):
  CallT PR AH [.agg cs] [.one (.int .i64)] st K:=by
 have h0:=h
 cases v with
 | mk s l f=>
 unfold VlR at h0
 obtain⟨ub,ul,uf,xl,xf,rfl,_⟩:=h0
 have he:Am st (st.push (.cells [.int .i64 0]) (some 3)):=(Am.refl st).push _ _
 refine KS _ _ _ _ _ _ _ _ _ _ _ _ _ st K ⟨[.int .i64 0],by simp[St.push],by simp,?_⟩
 obtain⟨st1,hst1⟩:∃st1,st1=(st.push (.cells [.int .i64 0]) (some 3)).put st.nb (.cells (setAll [.int .i64 0] 0 [.int .i64 0])):=⟨_,rfl⟩
 rw[<-hst1]
 have e1:Am st st1:=by rw[hst1];exact StX.ext he (StX.put (S:=fun i=>i=st.nb) rfl _) (fun i hi=>by rw[hi];exact Nat.le_refl _)
 have hb1:st1.box st.nb= .cells [.int .i64 ((0:Nat):Int)]:=by rw[hst1];simp[St.put,setAll]
 exact T0 2000000 _ hN (by omega) (d:=1) h (hke.trans e1.keeps) hke.1 (by rw[hst1];simp[St.put,St.push]) hb1 (by omega) rfl (by omega) fun st2 m e2 hb2 _=>hk st2 (StX.ext e1 e2 (fun i hi=>by rw[hi];exact Nat.le_refl _))
mutual
theorem Oj:∀(v:Vl) (d n:Nat),n<=65536->(Cv d n v).2=0->(Cv d n v).1<=65536
 | .mk s l f,d,n,hn,h=>by
  unfold Cv at h⊢
  split at h
  ·cases h
  ·rename_i g1
   rw[if_neg g1]
   split at h
   ·cases h
   ·rename_i g2
    rw[if_neg g2]
    split at h
    ·rename_i h1;exact absurd h h1
    ·rename_i g3
     rw[if_neg g3]
     obtain⟨h2,h3⟩:=Bs h
     rw[Ca h2]
     exact PP f _ _ (PK l _ _ (by omega) h2) h3
theorem PK:∀(l:List Vl) (d n:Nat),n<=65536->(Cg d n l).2=0->(Cg d n l).1<=65536
 | [],d,n,hn,_=>by unfold Cg;exact hn
 | v::r,d,n,hn,h=>by
  unfold Cg at h⊢
  obtain⟨h2,h3⟩:=Bs h
  rw[Ca h2]
  exact PK r _ _ (Oj v _ _ hn h2) h3
theorem chkD_le:∀(x:Fd) (d n:Nat),n<=65536->(Jr d n x).2=0->(Jr d n x).1<=65536
 | .mk k v,d,n,hn,h=>by unfold Jr at h⊢;exact Oj v _ _ hn h
theorem PP:∀(l:List Fd) (d n:Nat),n<=65536->(B2 d n l).2=0->(B2 d n l).1<=65536
 | [],d,n,hn,_=>by unfold B2;exact hn
 | x::r,d,n,hn,h=>by
  unfold B2 at h⊢
  obtain⟨h2,h3⟩:=Bs h
  rw[Ca h2]
  exact PP r _ _ (chkD_le x _ _ hn h2) h3
end
theorem VsR.snoc {st:St} {v:Vl} {cv:List TV}:∀{l:List Vl} {xs:List TV},VsR st l xs->VlR st v cv->VsR st (l++[v]) (xs++cv)
 | [],xs,h,hv=>by
  unfold VsR at h
  subst h
  show VsR st [v] _
  unfold VsR
  exact⟨cv,[],by simp,hv,by unfold VsR;rfl⟩
 | w::r,xs,h,hv=>by
  unfold VsR at h
  obtain⟨a,b,rfl,h1,h2⟩:=h
  show VsR st (w::(r++[v])) _
  unfold VsR
  exact⟨a,b++cv,by simp,h1,VsR.snoc h2 hv⟩
end
theorem VlR.cells {st:St} {s:Sc} {l:List Vl} {f:List Fd} {cs:List TV} (h:VlR st (.mk s l f) cs):∃ub ul uf xl xf,cs=AJ s ub ul uf/\SlR st 1 ub s.bytes.length (AS s.bytes)/\SlR st 13 ul l.length xl/\VsR st l xl/\SlR st 14 uf f.length xf/\FsR st f xf:=by
 unfold VlR at h
 obtain⟨ub,ul,uf,xl,xf,rfl,h⟩:=h
 exact⟨ub,ul,uf,xl,xf,rfl,h⟩
theorem szs (s:Sc) (l:List Vl) (f:List Fd):(Vl.mk s l f).sz=1+s.bytes.length+s.text.length+s.dg.length+BV l+BW f:=by unfold Vl.sz;rfl
theorem szd (k:B8) (v:Vl):(Fd.mk k v).sz=k.length+v.sz:=by unfold Fd.sz;rfl
theorem keyLd {st0 st:St} {uf:TV} {xf:List TV} {l:List Fd} (hke:Bo st0 st) (h2:SlR st0 14 uf l.length xf) (h3:FsR st0 l xf) {k:Nat} {d:Fd} (hd:l[k]? =some d):Ac st [] (.t (Az (ixT 14 uf k) 0)) 0=some (.str d.key):=by
 obtain⟨hk,_⟩:=List.getElem?_eq_some_iff.1 hd
 obtain⟨cw,hw,hcw,hcl⟩:=h3.get hd
 have hx:xf[k*14+0]? =some (.str d.key):=by
  cases d with
  | mk key w=>
   unfold FdR at hw
   obtain⟨cs,rfl,_⟩:=hw
   have:=congrArg (fun z=>z[0]?) hcw
   simpa [Fd.key]using this
 exact(h2.keep hke).ldf h3.len hk (by omega) hx
section
mutual
theorem LV:∀(v:Vl) (d n:Nat),(Cv d n v).2=0->(Cv d n v).1=n+v.cnt
 | .mk s l f,d,n,h=>by
  unfold Cv at h⊢
  unfold Vl.cnt
  split at h
  ·cases h
  ·rename_i g1
   rw[if_neg g1]
   split at h
   ·cases h
   ·rename_i g2
    rw[if_neg g2]
    split at h
    ·rename_i h1;exact absurd h h1
    ·rename_i g3
     rw[if_neg g3]
     obtain⟨h2,h3⟩:=Bs h
     rw[Ca h2,Nj f _ _ h3,Ni l _ _ h2];omega
theorem Ni:∀(l:List Vl) (d n:Nat),(Cg d n l).2=0->(Cg d n l).1=n+AB l
 | [],d,n,_=>by unfold Cg AB;rfl
 | v::r,d,n,h=>by
  unfold Cg at h⊢
  unfold AB
  obtain⟨h2,h3⟩:=Bs h
  rw[Ca h2,Ni r _ _ h3,LV v _ _ h2];omega
theorem TX:∀(x:Fd) (d n:Nat),(Jr d n x).2=0->(Jr d n x).1=n+x.cnt
 | .mk k v,d,n,h=>by unfold Jr at h⊢;unfold Fd.cnt;exact LV v _ _ h
theorem Nj:∀(l:List Fd) (d n:Nat),(B2 d n l).2=0->(B2 d n l).1=n+AE l
 | [],d,n,_=>by unfold B2 AE;rfl
 | x::r,d,n,h=>by
  unfold B2 at h⊢
  unfold AE
  obtain⟨h2,h3⟩:=Bs h
  rw[Ca h2,Nj r _ _ h3,TX x _ _ h2];omega
end
theorem CO {v:Vl} (h:A9 v=0):v.cnt<=65536:=by
 have h1:=LV v 1 0 h
 have h2:=Oj v 1 0 (by omega) h
 omega
theorem Km {v:Vl} (h:A9 v=0):AX v:=Og v 1 0 h
end
theorem GB {α:Type} {l m:List α} {k:Nat} {x y:α} (h:l.take k=m.take k) (hx:l[k]? =some x) (hy:m[k]? =some y) (e:x=y):l.take (k+1)=m.take (k+1):=by
 rw[DG hx,DG hy,h,e]
theorem sc_eq {s t:Sc} (h1:s.kind=t.kind) (h2:s.b=t.b) (h3:s.neg=t.neg) (h4:s.dg=t.dg) (h5:s.ex=t.ex) (h6:s.tk=t.tk) (h7:s.td=t.td) (h8:s.tn=t.tn) (h9:s.tz=t.tz) (h10:s.text=t.text) (h11:s.bytes=t.bytes):s=t:=by
 cases s;cases t;simp_all
section
def B5 (l:List Vl) (f:List Fd):List Vl:=l++f.map Fd.val
mutual
def J4:Vl->Nat
 | .mk _ l f=>1+max (CR l) (Id f)
def CR:List Vl->Nat
 | []=>0
 | v::r=>max (J4 v) (CR r)
def Sp:Fd->Nat
 | .mk _ v=>J4 v
def Id:List Fd->Nat
 | []=>0
 | d::r=>max (Sp d) (Id r)
end
theorem HO:∀l m:List Vl,CR (l++m)=max (CR l) (CR m)
 | [],m=>by simp[CR]
 | v::r,m=>by simp only[List.cons_append,CR,HO r m];omega
theorem Nd:∀f:List Fd,Id f=CR (f.map Fd.val)
 | []=>rfl
 | .mk k v::r=>by simp only[List.map_cons,CR,Id,Nd r,Sp,Fd.val]
theorem DE:∀l m:List Vl,AB (l++m)=AB l+AB m
 | [],m=>by simp[AB]
 | v::r,m=>by simp only[List.cons_append,AB,DE r m];omega
theorem M9:∀f:List Fd,AE f=AB (f.map Fd.val)
 | []=>rfl
 | .mk k v::r=>by simp only[List.map_cons,AB,AE,M9 r,Fd.cnt,Fd.val]
theorem PF (s:Sc) (l:List Vl) (f:List Fd):(Vl.mk s l f).cnt=1+AB (B5 l f):=by
 unfold B5 Vl.cnt
 rw[DE,<-M9];omega
theorem TT (s:Sc) (l:List Vl) (f:List Fd):J4 (Vl.mk s l f)=1+CR (B5 l f):=by
 unfold B5 J4
 rw[HO,<-Nd]
mutual
theorem RD:∀v:Vl,J4 v<=v.cnt
 | .mk s l f=>by
  unfold J4 Vl.cnt
  have:=LN l
  have:=PB f
  omega
theorem LN:∀l:List Vl,CR l<=AB l
 | []=>by unfold CR;exact Nat.zero_le _
 | v::r=>by
  unfold CR AB
  have:=RD v
  have:=LN r
  omega
theorem TS:∀d:Fd,Sp d<=d.cnt
 | .mk k v=>by unfold Sp Fd.cnt;exact RD v
theorem PB:∀l:List Fd,Id l<=AE l
 | []=>by unfold Id;exact Nat.zero_le _
 | d::r=>by
  unfold Id AE
  have:=TS d
  have:=PB r
  omega
end
theorem VsR.all_one {st:St}:∀{l:List Vl} {xs:List TV},VsR st l xs->List.all xs Au=true
 | [],xs,h=>by unfold VsR at h;subst h;rfl
 | .mk s l f::r,xs,h=>by
  unfold VsR at h
  obtain⟨a,b,rfl,h1,h2⟩:=h
  obtain⟨ub,ul,uf,xl,xf,rfl,q1,q2,_,q4,_⟩:=h1.cells
  rw[List.all_append,VsR.all_one h2,Bool.and_true]
  exact Dn q1.one q2.one q4.one
theorem VsR.app {st:St}:∀{l m:List Vl} {xs ys:List TV},VsR st l xs->VsR st m ys->VsR st (l++m) (xs++ys)
 | [],m,xs,ys,h,hm=>by unfold VsR at h;subst h;exact hm
 | v::r,m,xs,ys,h,hm=>by
  unfold VsR at h
  obtain⟨a,b,rfl,h1,h2⟩:=h
  show VsR st (v::(r++m)) _
  unfold VsR
  exact⟨a,b++ys,by simp,h1,VsR.app h2 hm⟩
theorem Sx {st0 st:St} {u:TV} {l:List Vl} {xl:List TV} (hke:Bo st0 st) (h:SlR st0 13 u l.length xl) (hv:VsR st0 l xl) (hl:l.length<=2000000) {K:TV->St->Prop} (hk:∀v st',Am st st'->Own st.nt 13 st' v l.length xl->K v st'):
  CallT PR A0 [u] [.one .tv] st K:=by
 have hxl:=hv.len
 refine Cx _ st K (Aa h.isSl ?_)
 cases hq:BE u with
 | true=>
  show K .nilSlice st
  have h0:l=[]:=by
   rcases h with(⟨rfl,h1,_⟩ | ⟨tip,rfl⟩) | ⟨b,off,cap,m,rfl,_⟩
   ·exact List.eq_nil_of_length_eq_zero h1
   ·cases hq
   ·cases hq
  subst h0
  have hx0:xl=[]:=List.eq_nil_of_length_eq_zero (by simpa using hxl)
  subst hx0
  exact hk _ st (Am.refl _) (Own.nil _ _ _)
 | false=>
  refine Ad ((h.keep hke).src hxl) (Aa hv.all_one ?_)
  refine LZ (Am.refl st) rfl (Own.full st.nt 13 st 0 []) (by simp only;omega) (fun h0=>?_) fun v1 st1 e1 _ ho=>?_
  ·simp only at h0
   exact List.eq_nil_of_length_eq_zero (by rw[hxl,h0,Nat.zero_mul])
  ·rw[List.nil_append,Nat.zero_add]at ho
   exact hk v1 st1 e1 ho
theorem O7 {s:Sc} {l:List Vl} {f:List Fd} (hN:(Vl.mk s l f).sz<=2000000) {st0 st:St} {ub ul uf:TV} {K:TV->St->Prop} (h:VlR st0 (.mk s l f) (AJ s ub ul uf)) (hke:Bo st0 st)
  (hk:∀u xl st',Am st st'->SlR st' 13 u (B5 l f).length xl->VsR st' (B5 l f) xl->K u st'):CallT PR DZ [.agg (AJ s ub ul uf)] [.one .tv] st K:=by
 have hsz:=szs s l f
 have hll:=Cw l
 have hfl:=BS f
 obtain⟨ub',ul',uf',xl,xf,hcs,h1,h2,h3,h4,h5⟩:=h.cells
 simp only[AJ,List.cons.injEq,and_true,true_and]at hcs
 obtain⟨rfl,rfl,rfl⟩:=hcs
 have hxl:=h3.len
 refine L9 _ _ _ _ _ _ _ _ _ _ _ _ _ st K (Sx hke h2 h3 (by omega) fun v1 st1 e1 ho1=>Aa h4.isSl ?_)
 refine⟨fun o i u n st'=>uf=u/\n=(f.length:Int)/\∃(k:Nat) (xs:List TV),i=k/\k<=f.length/\Am st st'/\Own st.nt 13 st' o (l.length+k) (xl++xs)/\VsR st0 ((f.take k).map Fd.val) xs,fun _ i _ _ _=>(f.length-i).toNat,
  ⟨rfl,by rw[h4.lenS],0,[],rfl,Nat.zero_le _,e1,by simpa using ho1,by simp only[List.take_zero,List.map_nil];unfold VsR;rfl⟩,?_⟩
 rintro o _ _ _ st2 ⟨rfl,rfl,k,xs,rfl,hkf,e2,ho,hv⟩
 refine Ab (fun g2=>?_) fun g2=>?_
 ·refine Sm (hke.trans e2.keeps) h4 h5 rfl (by omega) fun key s' l' f' ub1 ul1 uf1 gw hw on=>Aa on ?_
  have on2:List.all (AJ s' ub1 ul1 uf1) Au=true:=by
   rw[List.all_cons]at on;exact(Bool.and_eq_true_iff.1 on).2
  refine Aa on2 (LZ e2 rfl ho (by omega) (fun h=>by cases h) fun v2 st3 e3 _ ho2=>?_)
  rw[Ah _ (by omega) (by omega)]
  refine⟨⟨rfl,rfl,k+1,xs++AJ s' ub1 ul1 uf1,by omega,by omega,e3,by simpa [AJ,Nat.add_assoc]using ho2,?_⟩,by dsimp only;omega⟩
  rw[DG gw,List.map_append]
  exact VsR.snoc hv hw
 ·have hkk:k=f.length:=by omega
  subst hkk
  rw[List.take_length]at hv
  have hke2:=hke.trans e2.keeps
  refine hk o (xl++xs) st2 e2 ?_ (VsR.keep hke2 (VsR.app h3 hv))
  unfold B5
  rw[List.length_append,List.length_map]
  exact .of_rd ho.rd
theorem Gu {l:List Vl} {k:Nat} {w:Vl} (h:l[k]? =some w):AB (l.take (k+1))=AB (l.take k)+w.cnt:=by
 rw[DG h,DE];simp[AB]
theorem QN {l:List Vl} {k:Nat} {w:Vl} (h:l[k]? =some w):CR (l.take (k+1))=max (CR (l.take k)) (J4 w):=by
 rw[DG h,HO];simp[CR]
theorem DU (l:List Vl) (k:Nat):AB (l.take k)<=AB l:=by
 have:=DE (l.take k) (l.drop k)
 rw[List.take_append_drop]at this;omega
theorem ME (l:List Vl):l.length<=AB l:=by
 induction l with
 | nil=>exact Nat.zero_le _
 | cons v r ih=>unfold AB;have:=v.cnt_pos;simp only[List.length_cons];omega
theorem Ic (l:List Vl) (k:Nat):CR (l.take k)<=CR l:=by
 have:=HO (l.take k) (l.drop k)
 rw[List.take_append_drop]at this;omega
mutual
theorem IF:∀v:Vl,v.cnt<=v.sz
 | .mk s l f=>by
  have:=KI l
  have:=KJ f
  unfold Vl.cnt;rw[szs];omega
theorem KI:∀l:List Vl,AB l<=BV l
 | []=>by unfold AB;exact Nat.zero_le _
 | v::r=>by
  unfold AB BV
  have:=IF v
  have:=KI r
  omega
theorem cntd_sz:∀d:Fd,d.cnt<=d.sz
 | .mk k v=>by unfold Fd.cnt Fd.sz;have:=IF v;omega
theorem KJ:∀l:List Fd,AE l<=BW l
 | []=>by unfold AE;exact Nat.zero_le _
 | d::r=>by
  unfold AE BW
  have:=cntd_sz d
  have:=KJ r
  omega
end
theorem Pj {s:Sc} {l:List Vl} {f:List Fd} {k:Nat} {w:Vl} (h:(B5 l f)[k]? =some w):w.sz+1<=(Vl.mk s l f).sz:=by
 have hsz:=szs s l f
 rcases List.mem_append.1 (DK h)with h | h
 ·have:=IK h;omega
 ·obtain⟨d,hd,rfl⟩:=List.mem_map.1 h
  have:=Hu hd
  cases d;rw[szd]at this;simp only[Fd.val];omega
theorem size_ok:∀(N:Nat) (v:Vl),v.sz<=N->N<=2000000->∀{st0 st:St} {cs:List TV} {L:Int} {K:Int->St->Prop},VlR st0 v cs->Bo st0 st->(v.cnt:Int)<=L->L<=100000000->(∀st',Am st st'->K (v.cnt:Nat) st')->
  CallT PR DX [.agg cs,.int .i64 L] [.one (.int .i64)] st K:=by
 intro N
 induction N with
 | zero=>intro v h;have:=v.sz_pos;omega
 | succ N ih=>
 intro v hN hN2 st0 st cs L K h hke hL hL2 hk
 cases v with
 | mk s l f=>
 have h0:=h
 obtain⟨ub,ul,uf,xl,xf,rfl,_⟩:=h.cells
 have hC:=PF s l f
 have hcs:=IF (.mk s l f)
 have hpos:=(Vl.mk s l f).cnt_pos
 have hlen:=ME (B5 l f)
 refine L7 _ _ _ _ _ _ _ _ _ _ _ _ _ L st K (Ab (fun g=>by omega) fun _=>O7 (by omega) h0 hke fun u xl st1 e1 hu hv=>Aa hu.isSl ?_)
 refine⟨fun n i le u' m st'=>u=u'/\le=L/\m=((B5 l f).length:Int)/\∃k:Nat,i=k/\k<=(B5 l f).length/\n=((1+AB ((B5 l f).take k):Nat):Int)/\Am st1 st',fun _ i _ _ _ _=>((B5 l f).length-i).toNat,
  ⟨rfl,rfl,by rw[hu.lenS],0,rfl,Nat.zero_le _,rfl,Am.refl _⟩,?_⟩
 rintro _ _ _ _ _ st2 ⟨rfl,rfl,rfl,k,rfl,hkl,rfl,e2⟩
 have htk:=DU (B5 l f) k
 refine Ab (fun g=>?_) fun g=>?_
 ·refine Oc e2.keeps hu hv rfl (by omega) fun s' l' f' ub1 ul1 uf1 gw hw on=>Aa on ?_
  have hwsz:=Pj (s:=s) gw
  have hwc:=Gu gw
  have htk2:=DU (B5 l f) (k+1)
  rw[Ah (_-1) (by omega) (by omega)]
  refine ih _ (by omega) (by omega) hw e2.keeps (by omega) (by omega) fun st3 e3=>?_
  rw[Ah _ (by omega) (by omega),Ah _ (by omega) (by omega)]
  exact⟨⟨rfl,rfl,rfl,k+1,by omega,by omega,by omega,e2.trans e3⟩,by dsimp only;omega⟩
 ·have hkk:k=(B5 l f).length:=by omega
  rw[hkk,List.take_length,<-hC]
  exact hk st2 (e1.trans e2)
theorem Size_ok {v:Vl} (hN:v.sz<=2000000) (hC:v.cnt<=65536) {st0 st:St} {cs:List TV} {K:Int->St->Prop} (h:VlR st0 v cs) (hke:Bo st0 st) (hk:∀st',Am st st'->K (v.cnt:Nat) st'):CallT PR FP [.agg cs] [.one (.int .i64)] st K:=by
 cases v with
 | mk s l f=>
 have h0:=h
 obtain⟨ub,ul,uf,xl,xf,rfl,_⟩:=h.cells
 exact Mc _ _ _ _ _ _ _ _ _ _ _ _ _ st K (size_ok 2000000 _ hN (by omega) h0 hke (by omega) (by omega) hk)
theorem deep_ok:∀(N:Nat) (v:Vl),v.sz<=N->N<=2000000->∀{st0 st:St} {cs:List TV} {L:Int} {K:Int->St->Prop},VlR st0 v cs->Bo st0 st->(v.cnt:Int)<=L->L<=100000000->(∀st',Am st st'->K (J4 v:Nat) st')->
  CallT PR D1 [.agg cs,.int .i64 L] [.one (.int .i64)] st K:=by
 intro N
 induction N with
 | zero=>intro v h;have:=v.sz_pos;omega
 | succ N ih=>
 intro v hN hN2 st0 st cs L K h hke hL hL2 hk
 cases v with
 | mk s l f=>
 have h0:=h
 obtain⟨ub,ul,uf,xl,xf,rfl,_⟩:=h.cells
 have hC:=PF s l f
 have hD:=TT s l f
 have hcs:=IF (.mk s l f)
 have hpos:=(Vl.mk s l f).cnt_pos
 have hlen:=ME (B5 l f)
 have hdc:=LN (B5 l f)
 refine Mb _ _ _ _ _ _ _ _ _ _ _ _ _ L st K (Ab (fun g=>?_) fun _=>O7 (by omega) h0 hke fun u xl st1 e1 hu hv=>Aa hu.isSl ?_)
 ·have:=hk st (Am.refl _)
  rw[show J4 (.mk s l f)=1 by omega]at this;exact this
 refine⟨fun n i le u' m st'=>u=u'/\le=L/\m=((B5 l f).length:Int)/\∃k:Nat,i=k/\k<=(B5 l f).length/\n=((1+CR ((B5 l f).take k):Nat):Int)/\Am st1 st',fun _ i _ _ _ _=>((B5 l f).length-i).toNat,
  ⟨rfl,rfl,by rw[hu.lenS],0,rfl,Nat.zero_le _,rfl,Am.refl _⟩,?_⟩
 rintro _ _ _ _ _ st2 ⟨rfl,rfl,rfl,k,rfl,hkl,rfl,e2⟩
 have htk:=Ic (B5 l f) k
 refine Ab (fun g=>?_) fun g=>?_
 ·refine Oc e2.keeps hu hv rfl (by omega) fun s' l' f' ub1 ul1 uf1 gw hw on=>Aa on ?_
  have hwsz:=Pj (s:=s) gw
  have hwc:=Gu gw
  have hwd:=QN gw
  have htk2:=Ic (B5 l f) (k+1)
  have htk3:=DU (B5 l f) (k+1)
  rw[Ah (_-1) (by omega) (by omega)]
  refine ih _ (by omega) (by omega) hw e2.keeps (by omega) (by omega) fun st3 e3=>?_
  rw[Ah _ (by omega) (by omega),Ah _ (by omega) (by omega)]
  exact⟨⟨rfl,rfl,rfl,k+1,by omega,by omega,by rw[hwd];omega,e2.trans e3⟩,by dsimp only;omega⟩
 ·have hkk:k=(B5 l f).length:=by omega
  rw[hkk,List.take_length,<-hD]
  exact hk st2 (e1.trans e2)
theorem Uh {v:Vl} (hN:v.sz<=2000000) (hC:v.cnt<=65536) {st0 st:St} {cs:List TV} {K:Int->St->Prop} (h:VlR st0 v cs) (hke:Bo st0 st) (hk:∀st',Am st st'->K (J4 v:Nat) st'):CallT PR E6 [.agg cs] [.one (.int .i64)] st K:=by
 cases v with
 | mk s l f=>
 have h0:=h
 obtain⟨ub,ul,uf,xl,xf,rfl,_⟩:=h.cells
 exact KR _ _ _ _ _ _ _ _ _ _ _ _ _ st K (deep_ok 2000000 _ hN (by omega) h0 hke (by omega) (by omega) hk)
end
theorem SlR.ldb {st:St} {u:TV} {l:B8} {k:Nat} (h:SlR st 1 u l.length (AS l)) (hk:k<l.length):Ac st [] (.t (ixT 1 u k)) 0=some (If l[k]):=by
 have:=h.ldc (by rw[FL];omega) hk
 rw[List.drop_eq_getElem_cons (by rw[FL];omega)]at this
 simp only[Ai,List.take_succ_cons,List.take_zero]at this
 cases hq:Ac st [] (.t (ixT 1 u k)) 0 with
 | none=>rw[hq]at this;cases this
 | some y=>
  rw[hq]at this
  simp only[Option.map_some,Option.some.injEq,List.cons.injEq,and_true]at this
  rw[this];simp[AS]
def zs (n:Nat):B8:=List.replicate n 48
theorem Lf {s:Sc} {l:List Vl} {f:List Fd} (hN:(Vl.mk s l f).sz<=2000000) (hkn:Et f) {st0 st:St} {ub ul uf:TV} {K:TV->St->Prop} (h:VlR st0 (.mk s l f) (AJ s ub ul uf)) (hke:Bo st0 st)
  (hk:∀v st' xl,Am st st'->SlR st' 14 v (Ek f).length xl->FsR st' (Ek f) xl->K v st'):CallT PR Cc [.agg (AJ s ub ul uf)] [.one .tv] st K:=by
 have hsz:=szs s l f
 have hfl:=BS f
 obtain⟨ub',ul',uf',xl,xf,hcs,h1,h2,h3,h4,h5⟩:=h.cells
 simp only[AJ,List.cons.injEq,and_true,true_and]at hcs
 obtain⟨rfl,rfl,rfl⟩:=hcs
 obtain⟨cks,rfl,hall⟩:=(FsR.keep hke h5).chunks
 refine Qb (α:=Fd) (g:=id) (R:=FdR st) (fun a c hr=>hr) hall (s:=s) (f:=f) (by simp) rfl (h4.keep hke) (by omega) fun v st' la' cks' bs hp hs e ho hR hnd hlo=>?_
 rw[List.map_id]at hs
 have hE:la'=Ek f:=RU hkn hp hs
 subst hE
 exact hk v st' _ e ho.rd (FsR.keep e.keeps (FsR.of_chunks hR))
theorem OT {f:List Fd} {d:Fd} (h:d∈Ek f):d∈f:=(Fq f).mem_iff.1 h
theorem FdR.val {st:St} {d:Fd} {cs:List TV} (h:FdR st d cs):∃c,cs= .str d.key::c/\VlR st d.val c:=by
 cases d;unfold FdR at h;exact h
theorem SA {a b:B8} {u v:TV} {st:St} {K:Bool->St->Prop} (ha:SlR st 1 u a.length (AS a)) (hb:SlR st 1 v b.length (AS b)) (hl:a.length<=2000000) (hm:b.length<=2000000) (hk:∀r,(r=true↔a=b)->K r st):
  CallT PR Bt [u,v] [.one .bool] st K:=by
 have no:a≠b->K false st:=fun hne=>hk false ⟨fun h=>(by cases h),fun h=>absurd h hne⟩
 refine Ei _ _ st K (Aa ha.isSl (Aa hb.isSl ?_))
 rw[ha.lenS,hb.lenS]
 refine Ab (fun e=>no fun h=>e (by rw[h])) fun e=>Aa ha.isSl ⟨fun i u1 v1 n st'=>u=u1/\v=v1/\n=(a.length:Int)/\st=st'/\∃k:Nat,i=k/\k<=a.length/\a.take k=b.take k,fun i _ _ _ _=>(a.length-i).toNat,
  ⟨rfl,rfl,rfl,rfl,0,rfl,Nat.zero_le _,rfl⟩,?_⟩
 have el:a.length=b.length:=by omega
 rintro _ _ _ _ _ ⟨rfl,rfl,rfl,rfl,k,rfl,hka,hE⟩
 refine Ab (fun g=>?_) fun g=>?_
 ·rw[ha.lenZ,hb.lenZ,Int.toNat_natCast]
  refine⟨⟨by omega,by omega⟩,Ad (ha.ldb (by omega)) (Bh ⟨⟨by omega,by omega⟩,Ad (hb.ldb (by omega)) (Bh (Ab (fun g3=>no fun h=>?_) fun g3=>?_))⟩)⟩
  ·subst h;exact g3 rfl
  ·rw[Ah _ (by omega) (by omega)]
   refine⟨⟨rfl,rfl,rfl,rfl,k+1,by omega,by omega,?_⟩,by dsimp only;omega⟩
   refine GB hE (List.getElem?_eq_getElem (by omega)) (List.getElem?_eq_getElem (by omega)) ?_
   have:=Decidable.not_not.1 g3
   exact UInt8.toNat.inj (by omega)
 ·have hkk:k=a.length:=by omega
  rw[hkk,List.take_length,el,List.take_length]at hE
  exact hk true ⟨fun _=>hE,fun _=>rfl⟩
theorem Si {γ:Type} {g:Vl->γ} {st0 st:St} {u v one:TV} {l m:List Vl} {xl xm:List TV} (hke:Bo st0 st) (hu:SlR st0 13 u l.length xl) (hl:VsR st0 l xl) (hv:SlR st0 13 v m.length xm) (hm:VsR st0 m xm)
  (hll:l.length<=2000000) (hlm:m.length<=2000000) (hone:∀(a b:Vl) (ca cb:List TV) (st1:St) (K1:Bool->St->Prop),a∈l->b∈m->VlR st0 a ca->VlR st0 b cb->Am st st1->(∀r st2,Am st1 st2->(r=true↔g a=g b)->K1 r st2)->Fi PR one [.agg ca,.agg cb] [.one .bool] st1 K1)
  {K:Bool->St->Prop} (hk:∀r st',Am st st'->(r=true↔l.map g=m.map g)->K r st'):CallT PR Aq [u,v,one] [.one .bool] st K:=by
 have no:∀st',Am st st'->l.map g≠m.map g->K false st':=fun st' e hne=>hk false st' e ⟨fun h=>(by cases h),fun h=>absurd h hne⟩
 refine Bc _ _ _ st K (Aa hu.isSl (Aa hv.isSl ?_))
 rw[hu.lenS,hv.lenS]
 refine Ab (fun e=>no st (Am.refl _) fun h=>e (by have:=congrArg List.length h;simp only[List.length_map]at this;rw[this])) fun e=>Aa hu.isSl ⟨fun i v1 o1 u1 n st'=>v=v1/\one=o1/\u=u1/\n=(l.length:Int)/\∃k:Nat,i=k/\k<=l.length/\Am st st'/\(l.map g).take k=(m.map g).take k,fun i _ _ _ _ _=>(l.length-i).toNat,
  ⟨rfl,rfl,rfl,rfl,0,rfl,Nat.zero_le _,Am.refl _,rfl⟩,?_⟩
 have el:l.length=m.length:=by omega
 rintro _ _ _ _ _ st1 ⟨rfl,rfl,rfl,rfl,k,rfl,hkl,e1,hE⟩
 have hke1:=hke.trans e1.keeps
 refine Ab (fun q=>?_) fun q=>?_
 ·refine Oc hke1 hu hl rfl (by omega) fun s1 l1 f1 ub1 ul1 uf1 gw hw on=>Aa on (Oc hke1 hv hm rfl (by omega) fun s2 l2 f2 ub2 ul2 uf2 gw2 hw2 on2=>Aa on2 ?_)
  refine hone _ _ _ _ st1 _ (DK gw) (DK gw2) hw hw2 e1 fun r st2 e2 hr=>Aw (fun hb=>no st2 (e1.trans e2) fun h=>?_) fun hb=>?_
  ·have h1:=congrArg (fun z=>z[k]?) h
   simp only[List.getElem?_map,gw,gw2,Option.map_some,Option.some.injEq]at h1
   rw[hr.2 h1]at hb;cases hb
  ·rw[Ah _ (by omega) (by omega)]
   refine⟨⟨rfl,rfl,rfl,rfl,k+1,by omega,by omega,e1.trans e2,?_⟩,by dsimp only;omega⟩
   exact GB hE (by rw[List.getElem?_map,gw];rfl) (by rw[List.getElem?_map,gw2];rfl) (hr.1 (by simpa using hb))
 ·refine hk true st1 e1 ⟨fun _=>?_,fun _=>rfl⟩
  have:k=l.length:=by omega
  rw[List.take_of_length_le (by simp;omega),List.take_of_length_le (by simp;omega)]at hE
  exact hE
theorem Sj {γ:Type} {g:Fd->γ} {st0 st:St} {u v one:TV} {l m:List Fd} {xl xm:List TV} (hke:Bo st0 st) (hu:SlR st0 14 u l.length xl) (hl:FsR st0 l xl) (hv:SlR st0 14 v m.length xm) (hm:FsR st0 m xm)
  (hll:l.length<=2000000) (hlm:m.length<=2000000) (hone:∀(a b:Fd) (ca cb:List TV) (st1:St) (K1:Bool->St->Prop),a∈l->b∈m->FdR st0 a ca->FdR st0 b cb->Am st st1->(∀r st2,Am st1 st2->(r=true↔g a=g b)->K1 r st2)->Fi PR one [.agg ca,.agg cb] [.one .bool] st1 K1)
  {K:Bool->St->Prop} (hk:∀r st',Am st st'->(r=true↔l.map g=m.map g)->K r st'):CallT PR Ar [u,v,one] [.one .bool] st K:=by
 have no:∀st',Am st st'->l.map g≠m.map g->K false st':=fun st' e hne=>hk false st' e ⟨fun h=>(by cases h),fun h=>absurd h hne⟩
 refine Bd _ _ _ st K (Aa hu.isSl (Aa hv.isSl ?_))
 rw[hu.lenS,hv.lenS]
 refine Ab (fun e=>no st (Am.refl _) fun h=>e (by have:=congrArg List.length h;simp only[List.length_map]at this;rw[this])) fun e=>Aa hu.isSl ⟨fun i v1 o1 u1 n st'=>v=v1/\one=o1/\u=u1/\n=(l.length:Int)/\∃k:Nat,i=k/\k<=l.length/\Am st st'/\(l.map g).take k=(m.map g).take k,fun i _ _ _ _ _=>(l.length-i).toNat,
  ⟨rfl,rfl,rfl,rfl,0,rfl,Nat.zero_le _,Am.refl _,rfl⟩,?_⟩
 have el:l.length=m.length:=by omega
 rintro _ _ _ _ _ st1 ⟨rfl,rfl,rfl,rfl,k,rfl,hkl,e1,hE⟩
 have hke1:=hke.trans e1.keeps
 refine Ab (fun q=>?_) fun q=>?_
 ·refine Sm hke1 hu hl rfl (by omega) fun k1 s1 l1 f1 ub1 ul1 uf1 gw hw on=>Aa on (Sm hke1 hv hm rfl (by omega) fun k2 s2 l2 f2 ub2 ul2 uf2 gw2 hw2 on2=>Aa on2 ?_)
  refine hone _ _ _ _ st1 _ (DK gw) (DK gw2) (by unfold FdR;exact⟨_,rfl,hw⟩) (by unfold FdR;exact⟨_,rfl,hw2⟩) e1 fun r st2 e2 hr=>Aw (fun hb=>no st2 (e1.trans e2) fun h=>?_) fun hb=>?_
  ·have h1:=congrArg (fun z=>z[k]?) h
   simp only[List.getElem?_map,gw,gw2,Option.map_some,Option.some.injEq]at h1
   rw[hr.2 h1]at hb;cases hb
  ·rw[Ah _ (by omega) (by omega)]
   refine⟨⟨rfl,rfl,rfl,rfl,k+1,by omega,by omega,e1.trans e2,?_⟩,by dsimp only;omega⟩
   exact GB hE (by rw[List.getElem?_map,gw];rfl) (by rw[List.getElem?_map,gw2];rfl) (hr.1 (by simpa using hb))
 ·refine hk true st1 e1 ⟨fun _=>?_,fun _=>rfl⟩
  have:k=l.length:=by omega
  rw[List.take_of_length_le (by simp;omega),List.take_of_length_le (by simp;omega)]at hE
  exact hE
def nrm (ex:Bool) (v:Vl):Vl:=if ex then v else MI v
def JS (ex:Bool):Fd->B8×Vl
 | .mk k v=>(k,nrm ex v)
def flds (ex:Bool) (f:List Fd):List Fd:=if ex then f else Ek f
theorem nrmD_id (f:List Fd):∀g:List Fd,f.map (JS true)=g.map (JS true)->f=g:=by
 induction f with
 | nil=>intro g h;cases g with | nil=>rfl | cons b g=>simp at h
 | cons a f ih=>
  intro g h
  cases g with
  | nil=>simp at h
  | cons b g=>
   simp only[List.map_cons,List.cons.injEq]at h
   rw[ih g h.2]
   cases a;cases b
   have:=h.1
   simp only[JS,nrm,if_true,Prod.mk.injEq]at this
   rw[this.1,this.2]
theorem R9 (f:List Fd):∀g:List Fd,f.map (JS false)=g.map (JS false)↔f.map MK=g.map MK:=by
 induction f with
 | nil=>intro g;cases g<;>simp
 | cons a f ih=>
  intro g
  cases g with
  | nil=>simp
  | cons b g=>
   simp only[List.map_cons,List.cons.injEq,ih g]
   cases a;cases b
   simp[JS,nrm,MK]
theorem nrm_mk (ex:Bool) (s t:Sc) (l m:List Vl) (f g:List Fd):nrm ex (.mk s l f)=nrm ex (.mk t m g)↔s=t/\l.map (nrm ex)=m.map (nrm ex)/\(flds ex f).map (JS ex)=(flds ex g).map (JS ex):=by
 cases ex
 ·have e1:nrm false=MI:=funext fun v=>rfl
  rw[e1]
  unfold MI
  rw[Ik,Ik,Il,Il,K6 MJ,K6 MJ]
  simp only[flds,Bool.false_eq_true,if_false,R9,Vl.mk.injEq]
 ·have e1:nrm true=id:=funext fun v=>rfl
  rw[e1]
  simp only[flds,if_true,List.map_id,id]
  constructor
  ·intro h;simp only[Vl.mk.injEq]at h;obtain⟨rfl,rfl,rfl⟩:=h;exact⟨rfl,rfl,rfl⟩
  ·rintro⟨rfl,rfl,h⟩;rw[nrmD_id _ _ h]
theorem stB_new {st:St} {o:HW} {T:Option Nat} {x y:TV} {k:St->Prop} (ho:o= .cells [x]) (hk:∀st',Am st st'->st'.box st.nb= .cells [y]->st.nb<st'.nb->k st'):stB (st.push o T) (.box st.nb 0) [y] k:=by
 subst ho
 refine⟨[x],by simp[St.push],by simp,?_⟩
 refine hk _ (((Am.refl st).push _ _).put (Nat.le_refl _) _) (by simp[St.put,setAll]) (by simp[St.put,St.push])
theorem S4 (ex:Bool):∀(N:Nat) (v w:Vl),v.sz<=N->w.sz<=2000000->N<=2000000->(ex=false->KNd v/\KNd w)->∀{st0 st:St} {cs ds:List TV} {L:Int} {K:Bool->St->Prop},VlR st0 v cs->VlR st0 w ds->Bo st0 st->(v.cnt:Int)<=L->L<=100000000->
  (∀r st',Am st st'->(r=true↔nrm ex v=nrm ex w)->K r st')->CallT PR DY [.agg cs,.agg ds,.bool ex,.int .i64 L] [.one .bool] st K:=by
 intro N
 induction N with
 | zero=>intro v w h;have:=v.sz_pos;omega
 | succ N ih=>
 intro v w hN hW hN2 hV st0 st cs ds L K h h' hke hL hL2 hk
 cases v with
 | mk s l f=>
 cases w with
 | mk t m g=>
 have hsz:=szs s l f
 have hll:=Cw l
 have hfl:=BS f
 have hsz':=szs t m g
 have hll':=Cw m
 have hfl':=BS g
 have hpos:=(Vl.mk s l f).cnt_pos
 have hcnt:(Vl.mk s l f).cnt=1+AB l+AE f:=by unfold Vl.cnt;rfl
 have ha:=h
 have hb:=h'
 obtain⟨ub,ul,uf,xl,xf,rfl,h1,h2,h3,h4,h5⟩:=h.cells
 obtain⟨wb,wl,wf,yl,yf,rfl,k1,k2,k3,k4,k5⟩:=h'.cells
 rw[nrm_mk]at hk
 obtain⟨st1,hst1⟩:∃st1,st1=(st.push (.cells [.bool ex]) (some 4)).push (.cells [.int .i64 L]) (some 3):=⟨_,rfl⟩
 have e1:Am st st1:=hst1▸((Am.refl st).push _ _).push _ _
 have hb1:st1.box st.nb= .cells [.bool ex]:=by rw[hst1];simp[St.push]
 have hb2:st1.box (st.nb+1)= .cells [.int .i64 L]:=by rw[hst1];simp[St.push]
 have hn1:st.nb+1<st1.nb:=by rw[hst1];simp[St.push]
 have hke1:=hke.trans e1.keeps
 have hldx:∀st',Am st1 st'->Ac st' [] (.t (.box st.nb 0)) 0=some (.bool ex):=fun st' e=>by simp[Ac,(e.box st.nb (by omega)).trans hb1]
 have hldl:∀st',Am st1 st'->Ac st' [] (.t (.box (st.nb+1) 0)) 0=some (.int .i64 L):=fun st' e=>by simp[Ac,(e.box (st.nb+1) hn1).trans hb2]
 have no:∀st',Am st1 st'->¬(s=t/\l.map (nrm ex)=m.map (nrm ex)/\(flds ex f).map (JS ex)=(flds ex g).map (JS ex))->K false st':=fun st' e hne=>hk false st' (e1.trans e) ⟨fun h=>(by cases h),fun h=>absurd h hne⟩
 refine L8 _ _ _ _ _ _ _ _ _ _ _ _ _ _ _ _ _ _ _ _ _ _ _ _ _ _ ex L st K ?_
 rw[show(st.push (.cells [.bool ex]) (some 4)).nb=st.nb+1 from rfl,<-hst1]
 have r1:=Am.refl st1
 refine Ab (fun e=>no st1 r1 fun h=>e (by rw[h.1])) fun q1=>Aw (fun e=>no st1 r1 fun h=>?_) fun q2=>Aw (fun e=>no st1 r1 fun h=>?_) fun q3=>Aw (fun e=>no st1 r1 fun h=>?_) fun q4=>Ab (fun e=>no st1 r1 fun h=>e (by rw[h.1])) fun q5=>?_
 ·rw[h.1]at e;simp at e
 ·rw[h.1]at e;simp at e
 ·rw[h.1]at e;simp at e
 refine SA (h1.keep hke1) (k1.keep hke1) (by omega) (by omega) fun r hr=>Aw (fun e=>no st1 r1 fun h=>?_) fun q6=>?_
 ·rw[hr.2 (by rw[h.1])]at e;cases e
 have hst:s=t:=by
  simp only[Bool.not_eq_false',Bool.and_eq_true,beq_iff_eq,decide_eq_true_eq,and_true]at q2 q3 q4
  exact sc_eq (Decidable.not_not.1 q1) q2 q3.1 q3.2.1 q3.2.2 q4.1 q4.2.1 q4.2.2.1 q4.2.2.2 (Decidable.not_not.1 q5) (hr.1 (by simpa using q6))
 subst hst
 refine Ad (hldl st1 r1) (Bh (Ab (fun g=>by omega) fun _=>Ad (hldx st1 r1) (DR ?_)))
 --The closure and both comparisons,from fields that are as asked for.
 have rest:∀(st2:St) (v1 v2:TV) (x1 x2:List TV),Am st1 st2->SlR st2 14 v1 (flds ex f).length x1->FsR st2 (flds ex f) x1->SlR st2 14 v2 (flds ex g).length x2->FsR st2 (flds ex g) x2->
   stB (st2.push (.cells [.nilFunc]) (some 41)) (.box st2.nb 0) [.func BP [.box st.nb 0,.box (st.nb+1) 0]] fun (st4:St)=>
    Aj (Ac st4 [] (.t (.box st2.nb 0)) 0) fun (v3:TV)=>CallT PR Aq [ul,wl,v3] [.one (.bool)] st4 fun (b3:Bool) (st5:St)=>
     BIf b3 (CallT PR Ar [v1,v2,(.func De [(.box st2.nb 0)])] [.one (.bool)] st5 fun (b4:Bool) (st6:St)=>K (b4) st6) (K (false) st5):=by
  intro st2 v1 v2 x1 x2 e2 p1 p2 p3 p4
  refine stB_new (x:= .nilFunc) rfl fun st4 e4 hbx hnx=>?_
  have hldc:∀st',Am st4 st'->Ac st' [] (.t (.box st2.nb 0)) 0=some (.func BP [.box st.nb 0,.box (st.nb+1) 0]):=fun st' e=>by simp[Ac,(e.box st2.nb hnx).trans hbx]
  have e14:=e2.trans e4
  have hke4:=hke1.trans e14.keeps
  --the closure
  have clo:∀(a b:Vl) (ca cb:List TV) (st5:St) (K1:Bool->St->Prop) (st0':St),a.sz<=N->b.sz<=2000000->(ex=false->KNd a/\KNd b)->(a.cnt:Int)<=L-1->VlR st0' a ca->VlR st0' b cb->Bo st0' st5->Am st4 st5->(∀r st6,Am st5 st6->(r=true↔nrm ex a=nrm ex b)->K1 r st6)->
    CallT PR BP ([.agg ca,.agg cb]++[.box st.nb 0,.box (st.nb+1) 0]) [.one .bool] st5 K1:=by
   intro a b ca cb st5 K1 st0' hz1 hz2 hkn hc hra hrb hk5 e5 hK1
   have hra0:=hra
   have hrb0:=hrb
   obtain⟨s1,l1,f1⟩:=a
   obtain⟨s2,l2,f2⟩:=b
   obtain⟨_,_,_,_,_,rfl,_⟩:=hra.cells
   obtain⟨_,_,_,_,_,rfl,_⟩:=hrb.cells
   refine Ks _ _ _ _ _ _ _ _ _ _ _ _ _ _ _ _ _ _ _ _ _ _ _ _ _ _ _ _ st5 K1 (Ad (hldx st5 (e14.trans e5)) (DR (Ad (hldl st5 (e14.trans e5)) (Bh ?_))))
   rw[Ah _ (by omega) (by omega)]
   exact ih _ _ hz1 hz2 (by omega) hkn hra0 hrb0 hk5 hc (by omega) hK1
  refine Ad (hldc st4 (Am.refl _)) (Si (g:=nrm ex) hke4 h2 h3 k2 k3 (by omega) (by omega) (fun a b ca cb st5 K1 hma hmb hra hrb e5 hK1=>?_) fun r st5 e5 hr=>?_)
  ·have hsa:=IK hma
   have hsb:=IK hmb
   have hca:a.cnt<=AB l:=by
    obtain⟨i,hi⟩:=List.getElem?_of_mem hma
    exact Jv hi
   refine clo a b ca cb st5 K1 st0 (by omega) (by omega) (fun e=>?_) (by omega) hra hrb (hke4.trans e5.keeps) e5 hK1
   have:=hV e
   unfold KNd at this
   exact⟨this.1.1.mem hma,this.2.1.mem hmb⟩
  ·refine Aw (fun hb=>?_) fun hb=>no st5 (e14.trans e5) fun h=>?_
   ·have e25:=e4.trans e5
    refine Sj (g:=JS ex) e25.keeps p1 p2 p3 p4 ?_ ?_ (fun a b ca cb st6 K1 hma hmb hra hrb e6 hK1=>?_) fun r2 st6 e6 hr2=>hk r2 st6 (((e1.trans e14).trans e5).trans e6) ⟨fun h=>⟨rfl,hr.1 hb,hr2.1 h⟩,fun h=>hr2.2 h.2.2⟩
    ·unfold flds;split
     ·omega
     ·have:=(Fq f).length_eq;omega
    ·unfold flds;split
     ·omega
     ·have:=(Fq g).length_eq;omega
    ·have hma':a∈f:=by
      unfold flds at hma;split at hma
      ·exact hma
      ·exact OT hma
     have hmb':b∈g:=by
      unfold flds at hmb;split at hmb
      ·exact hmb
      ·exact OT hmb
     have hsa:=Hu hma'
     have hsb:=Hu hmb'
     have hca:a.cnt<=AE f:=by
      obtain⟨i,hi⟩:=List.getElem?_of_mem hma'
      exact J1 hi
     obtain⟨ka,a⟩:=a
     obtain⟨kb,b⟩:=b
     have hz1:=szd ka a
     have hz2:=szd kb b
     have hc1:(Fd.mk ka a).cnt=a.cnt:=by unfold Fd.cnt;rfl
     obtain⟨ca',rfl,hra2⟩:=hra.val
     obtain⟨cb',rfl,hrb2⟩:=hrb.val
     have hra0:VlR st2 a ca':=hra2
     have hrb0:VlR st2 b cb':=hrb2
     have hcl:=clo a b ca' cb' st6 (fun r st7=>K1 r st7) st2 (by omega) (by omega) (fun e=>by
      have:=hV e
      unfold KNd at this
      have q1:=this.1.2.2.mem hma'
      have q2:=this.2.2.2.mem hmb'
      unfold KNdD at q1 q2
      exact⟨q1,q2⟩) (by omega) hra0 hrb0 (e25.trans e6).keeps (e5.trans e6)
     obtain⟨s1,l1,f1⟩:=a
     obtain⟨s2,l2,f2⟩:=b
     obtain⟨_,_,_,_,_,rfl,_⟩:=hra0.cells
     obtain⟨_,_,_,_,_,rfl,_⟩:=hrb0.cells
     refine Kr _ _ _ _ _ _ _ _ _ _ _ _ _ _ _ _ _ _ _ _ _ _ _ _ _ _ _ _ _ st6 K1 (Ab (fun ek=>Ad (hldc st6 (e5.trans e6)) (hcl fun r st7 e7 hr7=>hK1 r st7 e7 ?_)) fun ek=>hK1 false st6 (Am.refl _) ⟨fun h=>(by cases h),fun h=>?_⟩)
     ·simp only[JS,Prod.mk.injEq]
      exact⟨fun h=>⟨ek,hr7.1 h⟩,fun h=>hr7.2 h.2⟩
     ·simp only[JS,Prod.mk.injEq]at h
      exact absurd h.1 ek
   ·rw[hr.2 h.2.1]at hb;cases hb
 refine Aw (fun hex=>?_) fun hex=>?_
 ·have hex':ex=false:=by simpa using hex
  have hkn:=hV hex'
  unfold KNd at hkn
  have hfx:∀z,flds ex z=Ek z:=fun z=>by rw[hex'];rfl
  refine Lf (by omega) hkn.1.2.1 ha hke1 fun v1 st2 x1 e2 hs1 hr1=>?_
  refine Lf (by omega) hkn.2.2.1 hb (hke1.trans e2.keeps) fun v2 st3 x2 e3 hs2 hr2=>?_
  exact rest st3 v1 v2 x1 x2 (e2.trans e3) (by rw[hfx];exact hs1.keep e3.keeps) (by rw[hfx];exact FsR.keep e3.keeps hr1) (by rw[hfx];exact hs2) (by rw[hfx];exact hr2)
 ·have hex':ex=true:=by simpa using hex
  have hfx:∀z,flds ex z=z:=fun z=>by rw[hex'];rfl
  exact rest st1 uf wf xf yf r1 (by rw[hfx];exact h4.keep hke1) (by rw[hfx];exact FsR.keep hke1 h5) (by rw[hfx];exact k4.keep hke1) (by rw[hfx];exact FsR.keep hke1 k5)
theorem S6 {v w:Vl} (hN:v.sz<=2000000) (hW:w.sz<=2000000) (hC:v.cnt<=65536) {st0 st:St} {cs ds:List TV} {K:Bool->St->Prop} (h:VlR st0 v cs) (h':VlR st0 w ds) (hke:Bo st0 st) (hk:∀r st',Am st st'->(r=true↔v=w)->K r st'):
  CallT PR FQ [.agg cs,.agg ds] [.one .bool] st K:=by
 have ha:=h
 have hb:=h'
 cases v;cases w
 obtain⟨_,_,_,_,_,rfl,_⟩:=h.cells
 obtain⟨_,_,_,_,_,rfl,_⟩:=h'.cells
 exact Md _ _ _ _ _ _ _ _ _ _ _ _ _ _ _ _ _ _ _ _ _ _ _ _ _ _ st K (S4 true 2000000 _ _ hN hW (by omega) (fun h=>by cases h) ha hb hke (by omega) (by omega) hk)
theorem J8 {T b sz bytes:Nat} {st0 st:St} {v:TV} {n k:Nat} {xs ys:List TV} {K:TV->St->Prop} (e:Am st0 st) (hb:b=st0.nt) (h:Own b sz st v n xs) (hby:(n+k)*bytes<=140737488355328) (hys:k=0->ys=[])
  (hK:∀v' st',Am st0 st'->Bo st st'->Own b sz st' v' (n+k) (xs++ys)->K v' st'):CV T sz bytes v k ys st K:=by
 subst hb
 have kk:∀st':St,st'.nb=st.nb->st'.box=st.box->Bo st st':=fun st' a b=>⟨Nat.le_of_eq a.symm,fun i _=>by rw[b]⟩
 rcases h with⟨rfl,rfl,rfl⟩ | ⟨tip,rfl,ht⟩
 ·simp only[CV]
  cases k with
  | zero=>rw[hys rfl]at hK;exact hK _ _ e (kk _ rfl rfl) (.nil _ _ _)
  | succ m=>
   simp only[Al]
   refine⟨by simpa using hby,hK _ _ (e.fresh _) (kk _ rfl rfl) ?_⟩
   simp only[List.nil_append,Nat.zero_add]
   exact Own.fresh _ _ e.nt
 ·simp only[CV,Nat.beq_refl]
  refine⟨hby,?_⟩
  rcases ht with rfl | ⟨id,rfl,h1,h2,h3⟩
  ·cases k with
   | zero=>rw[hys rfl]at hK;simp only[List.append_nil]at hK;exact hK _ _ e (kk _ rfl rfl) (Own.full _ _ _ _ _)
   | succ m=>exact hK _ _ (e.fresh _) (kk _ rfl rfl) (Own.fresh _ _ e.nt)
  ·exact⟨h3,hK _ _ ((e.retire h1).fresh _) (kk _ rfl rfl) (Own.fresh (st:=st.retire id) _ _ e.nt)⟩
theorem FsR.snoc {st:St} {d:Fd} {cd:List TV} {l:List Fd} {xs:List TV} (h:FsR st l xs) (hd:FdR st d cd):FsR st (l++[d]) (xs++cd):=by
 obtain⟨cks,rfl,hall⟩:=h.chunks
 have:=FsR.of_chunks (hall.snoc hd)
 simpa using this
theorem B9 (st:St):Bo St.zero st:=⟨Nat.zero_le _,fun i hi=>absurd hi (Nat.not_lt_zero _)⟩
section
mutual
def lvV:Vl->Nat
 | .mk _ l f=>1+max (E0 l) (ED f)
def E0:List Vl->Nat
 | []=>0
 | v::r=>max (lvV v) (E0 r)
def lvD:Fd->Nat
 | .mk _ v=>lvV v
def ED:List Fd->Nat
 | []=>0
 | d::r=>max (lvD d) (ED r)
end
end
theorem kb {s:Sc} {k:Nat} (h:s.kind=(k:Nat)) (hk:k<=7):s.kind.toNat.toUInt8.toNat=k:=by
 rw[h,Int.toNat_natCast,Rj _ (by omega)]
section
mutual
theorem Oi:∀(v:Vl) (d n:Nat),(Cv d n v).2=0->lvV v<=49-d
 | .mk s l f,d,n,h=>by
  unfold Cv at h
  split at h
  ·cases h
  split at h
  ·cases h
  split at h
  ·rename_i h1;exact absurd h h1
  ·obtain⟨h1,h2⟩:=Bs h
   have:=PJ l (d+1) (n+1) h1
   have:=PO f (d+1) _ h2
   unfold lvV;omega
theorem PJ:∀(l:List Vl) (d n:Nat),(Cg d n l).2=0->E0 l<=49-d
 | [],d,n,h=>by unfold E0;omega
 | v::r,d,n,h=>by
  unfold Cg at h
  obtain⟨h1,h2⟩:=Bs h
  have:=Oi v d n h1
  have:=PJ r d _ h2
  unfold E0;omega
theorem chkD_lv:∀(x:Fd) (d n:Nat),(Jr d n x).2=0->lvD x<=49-d
 | .mk k v,d,n,h=>by unfold Jr at h;unfold lvD;exact Oi v d n h
theorem PO:∀(f:List Fd) (d n:Nat),(B2 d n f).2=0->ED f<=49-d
 | [],d,n,h=>by unfold ED;omega
 | x::r,d,n,h=>by
  unfold B2 at h
  obtain⟨h1,h2⟩:=Bs h
  have:=chkD_lv x d n h1
  have:=PO r d _ h2
  unfold ED;omega
end
end
section
theorem IL (l m:List Vl):BV (l++m)=BV l+BV m:=by
 induction l with
 | nil=>simp[BV]
 | cons v r ih=>simp only[List.cons_append,BV,ih];omega
theorem Jj (l m:List Fd):BW (l++m)=BW l+BW m:=by
 induction l with
 | nil=>simp[BW]
 | cons v r ih=>simp only[List.cons_append,BW,ih];omega
theorem EO (l m:List Fd):AE (l++m)=AE l+AE m:=by
 induction l with
 | nil=>simp[AE]
 | cons v r ih=>simp only[List.cons_append,AE,ih];omega
theorem MD {l:List Vl} {k:Nat} {w:Vl} (h:l[k]? =some w):BV (l.take (k+1))=BV (l.take k)+w.sz:=by
 rw[List.take_add_one,h,IL];simp[BV]
theorem M8 {l:List Fd} {k:Nat} {w:Fd} (h:l[k]? =some w):BW (l.take (k+1))=BW (l.take k)+w.sz:=by
 rw[List.take_add_one,h,Jj];simp[BW]
theorem LA {l:List Fd} {k:Nat} {w:Fd} (h:l[k]? =some w):AE (l.take (k+1))=AE (l.take k)+w.cnt:=by
 rw[List.take_add_one,h,EO];simp[AE]
theorem vcnt (s:Sc) (l:List Vl) (f:List Fd):(Vl.mk s l f).cnt=1+AB l+AE f:=by unfold Vl.cnt;rfl
theorem fcnt (k:B8) (v:Vl):(Fd.mk k v).cnt=v.cnt:=by unfold Fd.cnt;rfl
def RmOk (v:Vl) (n r:Int):Prop:=r= -1∨(0<=r/\(v.sz:Int)+3000+r*12001<=n*12001/\(v.cnt:Int)+r<=n)
theorem R3:∀(N:Nat) (v:Vl),v.sz<=N->∀{st:St} {cs:List TV} {D n:Int} {K:Int->St->Prop},VlR St.zero v cs-> -1000<=D->D<=1000-> -1<=n->n<=1000->(∀r,RmOk v n r->K r st)->
  CallT PR Ba [.agg cs,.int .i64 D,.int .i64 n,.int .i64 3000] [.one (.int .i64)] st K:=by
 intro N
 induction N with
 | zero=>intro v h;have:=v.sz_pos;omega
 | succ N ih=>
 intro v hN st cs D n K h hD1 hD2 hn1 hn2 hk
 cases v with
 | mk s l f=>
 have hsz:=szs s l f
 have hct:=vcnt s l f
 obtain⟨ub,ul,uf,xl,xf,rfl,h1,h2,h3,h4,h5⟩:=h.cells
 have no:K (-1) st:=hk _ (.inl rfl)
 refine Hb _ _ _ _ _ _ _ _ _ _ _ _ _ D n 3000 st K (Ab (fun _=>no) fun g1=>Ab (fun _=>no) fun g2=>Ab (fun _=>no) fun g3=>Aa h1.isSl (Ab (fun _=>no) fun g4=>Ab (fun _=>no) fun g5=>Aa h2.isSl (Ab (fun _=>no) fun g6=>Aa h4.isSl (Ab (fun _=>no) fun g7=>?_))))
 rw[h1.lenS]at g4
 rw[h2.lenS]at g6
 rw[h4.lenS]at g7
 rw[Ah (n-1) (by omega) (by omega)]
 refine⟨fun zn zi zd zb k bo ng dg ex tk td tn tz tx u0 u1 u2 st'=>ul=u1/\uf=u2/\D=zd/\3000=zb/\st=st'/\∃k:Nat,zi=(k:Int)/\k<=l.length/\ -1<=zn/\zn<=n-1/\(0<=zn->(BV (l.take k):Int)+zn*12001<=(n-1)*12001/\(AB (l.take k):Int)+zn<=n-1),
  fun _ zi _ _ _ _ _ _ _ _ _ _ _ _ _ _ _ _=>(l.length-zi).toNat,⟨rfl,rfl,rfl,rfl,rfl,0,rfl,Nat.zero_le _,by omega,by omega,fun _=>by rw[List.take_zero];simp[BV,AB]⟩,?_⟩
 rintro zn _ _ _ _ _ _ _ _ _ _ _ _ _ _ _ _ _ ⟨rfl,rfl,rfl,rfl,rfl,k,rfl,hkl,z1,z2,z3⟩
 refine Aa h2.isSl (Ab (fun g=>Ab (fun g0=>?_) fun g0=>?q1) fun g=>?q2)
 ·rw[h2.lenS]at g
  refine Oc (B9 _) h2 h3 rfl (by omega) fun s' l' f' ub1 ul1 uf1 gw hw on=>?_
  have hwsz:=F9 gw
  have e1:=MD gw
  have e2:=Gu gw
  obtain⟨z4,z5⟩:=z3 g0
  rw[Ah ((k:Int)+1) (by omega) (by omega),Ah (D-1) (by omega) (by omega)]
  refine ih _ (by omega) hw (by omega) (by omega) (by omega) (by omega) fun r hr=>⟨⟨rfl,rfl,rfl,rfl,rfl,k+1,by omega,by omega,?_,?_,?_⟩,by dsimp only;omega⟩
  ·rcases hr with hr | hr<;>omega
  ·rcases hr with hr | hr
   ·omega
   ·have:=Vl.sz_pos (.mk s' l' f');omega
  ·intro hr0
   rcases hr with hr | hr
   ·omega
   ·rw[e1,e2];omega
 case q1 | q2=>
  have zz:zn= -1∨(BV l:Int)+zn*12001<=(n-1)*12001/\(AB l:Int)+zn<=n-1:=by
   by_cases hz:0<=zn
   ·right
    have hkk:k=l.length:=by
     first
      | (exfalso;exact g0 hz)
      | (rw[h2.lenS]at g;omega)
    rw[hkk,List.take_of_length_le (Nat.le_refl _)]at z3
    exact z3 hz
   ·left;omega
  refine⟨fun yn zi zd zb k bo ng dg ex tk td tn tz tx u0 u1 u2 st'=>uf=u2/\D=zd/\3000=zb/\st=st'/\∃k:Nat,zi=(k:Int)/\k<=f.length/\ -1<=yn/\yn<=n-1/\(0<=yn->(BV l:Int)+BW (f.take k)+yn*12001<=(n-1)*12001/\(AB l:Int)+AE (f.take k)+yn<=n-1),
   fun _ zi _ _ _ _ _ _ _ _ _ _ _ _ _ _ _ _=>(f.length-zi).toNat,⟨rfl,rfl,rfl,rfl,0,rfl,Nat.zero_le _,by omega,by omega,fun hz=>by rw[List.take_zero];simp only[BW,AE];omega⟩,?_⟩
  rintro yn _ _ _ _ _ _ _ _ _ _ _ _ _ _ _ _ _ ⟨rfl,rfl,rfl,rfl,k2,rfl,hkl2,y1,y2,y3⟩
  have fin:(k2=f.length∨¬0<=yn)->K yn st:=by
   intro hor
   refine hk _ ?_
   by_cases hy:0<=yn
   ·rcases hor with hor | hor
    ·obtain⟨y4,y5⟩:=y3 hy
     rw[hor,List.take_of_length_le (Nat.le_refl _)]at y4 y5
     exact .inr ⟨hy,by rw[hsz];omega,by rw[hct];omega⟩
    ·exact absurd hy hor
   ·exact .inl (by omega)
  refine Aa h4.isSl (Ab (fun g8=>Ab (fun g9=>?_) fun g9=>fin (.inr g9)) fun g8=>fin (.inl (by rw[h4.lenS]at g8;omega)))
  rw[h4.lenS]at g8
  have hlt:k2<f.length:=by omega
  obtain⟨dd,hdd⟩:∃d,f[k2]? =some d:=⟨_,List.getElem?_eq_getElem hlt⟩
  obtain⟨key,w⟩:=dd
  obtain⟨s',l',f'⟩:=w
  have hky:=keyLd (st:=st) (B9 st) h4 h5 hdd
  refine⟨⟨by omega,by rw[h4.lenZ];omega⟩,Aa (h4.isPtr hlt) (Ad hky (Dw (Ab (fun _=>no) fun g10=>?_)))⟩
  refine Rc (B9 _) h4 h5 rfl hlt fun key' s' l' f' ub1 ul1 uf1 gw hw on=>?_
  rw[hdd]at gw
  cases gw
  have hwsz:=Gn hdd
  have e1:=M8 hdd
  have e2:=LA hdd
  have e3:=szd key (.mk s' l' f')
  have e4:=fcnt key (.mk s' l' f')
  obtain⟨y4,y5⟩:=y3 g9
  have g10:¬3000<(key.length:Int):=g10
  rw[Ah ((k2:Int)+1) (by omega) (by omega),Ah (D-1) (by omega) (by omega)]
  refine ih _ (by omega) hw (by omega) (by omega) (by omega) (by omega) fun r hr=>⟨⟨rfl,rfl,rfl,rfl,k2+1,by omega,by omega,?_,?_,?_⟩,by dsimp only;omega⟩
  ·rcases hr with hr | hr<;>omega
  ·rcases hr with hr | hr
   ·omega
   ·have:=Vl.sz_pos (.mk s' l' f');omega
  ·intro hr0
   rcases hr with hr | hr
   ·omega
   ·rw[e1,e2];omega
theorem OC:∀(N:Nat) (v:Vl),v.sz<=N->N<=2000000->∀{st:St} {cs:List TV} {K:Int->St->Prop},VlR St.zero v cs->(∀w:Int,(v.cnt:Int)+w=v.sz->K w st)->
  CallT PR Bg [.agg cs] [.one (.int .i64)] st K:=by
 intro N
 induction N with
 | zero=>intro v h;have:=v.sz_pos;omega
 | succ N ih=>
 intro v hN hN2 st cs K h hk
 cases v with
 | mk s l f=>
 have hsz:=szs s l f
 have hct:=vcnt s l f
 have hll:=Cw l
 have hfl:=BS f
 have hc1:=KI l
 have hc2:=KJ f
 obtain⟨ub,ul,uf,xl,xf,rfl,h1,h2,h3,h4,h5⟩:=h.cells
 refine Gv _ _ _ _ _ _ _ _ _ _ _ _ _ st K (Aa h1.isSl ?_)
 refine⟨fun zn zi k bo ng dg ex tk td tn tz tx u0 u1 u2 st'=>ul=u1/\uf=u2/\st=st'/\∃k:Nat,zi=(k:Int)/\k<=l.length/\zn+(AB (l.take k):Int)=(s.bytes.length:Int)+s.text.length+s.dg.length+BV (l.take k),
  fun _ zi _ _ _ _ _ _ _ _ _ _ _ _ _ _=>(l.length-zi).toNat,⟨rfl,rfl,rfl,0,rfl,Nat.zero_le _,?_⟩,?_⟩
 ·rw[h1.lenS,Ah ((s.text.length:Int)+(s.bytes.length:Nat)) (by omega) (by omega),Ah _ (by omega) (by omega),List.take_zero]
  simp only[AB,BV];omega
 rintro zn _ _ _ _ _ _ _ _ _ _ _ _ _ _ _ ⟨rfl,rfl,rfl,k,rfl,hkl,z1⟩
 have b1:=DU l k
 have b2:BV (l.take k)<=BV l:=by
  conv=>rhs;rw[<-List.take_append_drop k l,IL]
  omega
 have b3:=KI (l.take k)
 refine Aa h2.isSl (Ab (fun g=>?_) fun g=>?_)
 ·rw[h2.lenS]at g
  refine Oc (B9 _) h2 h3 rfl (by omega) fun s' l' f' ub1 ul1 uf1 gw hw on=>?_
  have hwsz:=F9 gw
  have e1:=MD gw
  have e2:=Gu gw
  have e3:=IF (.mk s' l' f')
  rw[Ah ((k:Int)+1) (by omega) (by omega)]
  refine ih _ (by omega) (by omega) hw fun r hr=>⟨⟨rfl,rfl,rfl,k+1,by omega,by omega,?_⟩,by dsimp only;omega⟩
  rw[Ah _ (by omega) (by omega),e1,e2];omega
 ·have hkk:k=l.length:=by rw[h2.lenS]at g;omega
  rw[hkk,List.take_of_length_le (Nat.le_refl _)]at z1
  refine⟨fun yn zi k bo ng dg ex tk td tn tz tx u0 u1 u2 st'=>uf=u2/\st=st'/\∃k:Nat,zi=(k:Int)/\k<=f.length/\yn+(AB l:Int)+AE (f.take k)=(s.bytes.length:Int)+s.text.length+s.dg.length+BV l+BW (f.take k),
   fun _ zi _ _ _ _ _ _ _ _ _ _ _ _ _ _=>(f.length-zi).toNat,⟨rfl,rfl,0,rfl,Nat.zero_le _,by rw[List.take_zero];simp only[AE,BW];omega⟩,?_⟩
  rintro yn _ _ _ _ _ _ _ _ _ _ _ _ _ _ _ ⟨rfl,rfl,k2,rfl,hkl2,y1⟩
  have b4:AE (f.take k2)<=AE f:=by
   conv=>rhs;rw[<-List.take_append_drop k2 f,EO]
   omega
  have b5:BW (f.take k2)<=BW f:=by
   conv=>rhs;rw[<-List.take_append_drop k2 f,Jj]
   omega
  have b6:=KJ (f.take k2)
  refine Aa h4.isSl (Ab (fun g8=>?_) fun g8=>?_)
  case refine_2=>
   have hkk2:k2=f.length:=by rw[h4.lenS]at g8;omega
   rw[hkk2,List.take_of_length_le (Nat.le_refl _)]at y1
   exact hk _ (by rw[hsz,hct];omega)
  rw[h4.lenS]at g8
  have hlt:k2<f.length:=by omega
  obtain⟨dd,hdd⟩:∃d,f[k2]? =some d:=⟨_,List.getElem?_eq_getElem hlt⟩
  obtain⟨key,w⟩:=dd
  obtain⟨s',l',f'⟩:=w
  have hky:∀st,Ac st [] (.t (Az (ixT 14 uf k2) 0)) 0=some (.str key):=fun st=>keyLd (st:=st) (B9 st) h4 h5 hdd
  refine⟨⟨by omega,by rw[h4.lenZ];omega⟩,Aa (h4.isPtr hlt) (Ad (hky _) (Dw ?_))⟩
  refine Rc (B9 _) h4 h5 rfl hlt fun key' s' l' f' ub1 ul1 uf1 gw hw on=>?_
  rw[hdd]at gw
  cases gw
  have hwsz:=Gn hdd
  have e1:=M8 hdd
  have e2:=LA hdd
  have e3:=szd key (.mk s' l' f')
  have e4:=fcnt key (.mk s' l' f')
  have e5:=IF (.mk s' l' f')
  rw[Ah ((k2:Int)+1) (by omega) (by omega)]
  refine ih _ (by omega) (by omega) hw fun r hr=>⟨hky _,⟨rfl,rfl,k2+1,by omega,by omega,?_⟩,by dsimp only;omega⟩
  rw[Ah (yn+_) (by omega) (by omega),Ah _ (by omega) (by omega),e1,e2];omega
theorem Qd {v:Vl} {cs:List TV} {st:St} {K:Bool->St->Prop} (h:VlR St.zero v cs) (hk:∀b:Bool,(b=true->v.sz<=20150/\v.cnt<=150)->K b st):
  CallT PR Cl [.agg cs] [.one .bool] st K:=by
 have h0:=h
 obtain⟨s,l,f⟩:=v
 obtain⟨ub,ul,uf,xl,xf,rfl,_⟩:=h.cells
 refine G1 _ _ _ _ _ _ _ _ _ _ _ _ _ st K (R3 _ _ (Nat.le_refl _) h0 (by decide) (by decide) (by decide) (by decide) fun r hr=>Ab (fun g=>?_) fun g=>hk false (fun h=>by cases h))
 rcases hr with hr | ⟨hr0,hr1,hr2⟩
 ·omega
 refine OC 2000000 _ (by omega) (Nat.le_refl _) h0 fun w hw=>hk _ fun hb=>?_
 rw[decide_eq_true_eq]at hb
 omega
mutual
theorem Oh:∀(v:Vl) (d n:Nat),AX v->d+lvV v<=49->n+v.cnt<=65536->Cv d n v=(n+v.cnt,0)
 | .mk s l f,d,n,h,h1,h2=>by
  unfold AX at h
  obtain⟨g1,g2,g3⟩:=h
  unfold lvV at h1
  unfold Vl.cnt at h2⊢
  have e1:=PI l (d+1) (n+1) g2 (by omega) (by omega)
  have e2:=PN f (d+1) (n+1+AB l) g3 (by omega) (by omega)
  rw[RG (by omega) (by omega) (MO.2 g1),e1,Ca rfl]
  show B2 (d+1) (n+1+AB l) f=_
  rw[e2]
  congr 1;omega
theorem PI:∀(l:List Vl) (d n:Nat),B3 l->(l≠ []->d+E0 l<=49)->n+AB l<=65536->Cg d n l=(n+AB l,0)
 | [],d,n,_,_,_=>by unfold Cg AB;rfl
 | v::r,d,n,h,h1,h2=>by
  unfold B3 at h
  have h1:=h1 (by simp)
  unfold E0 at h1
  unfold AB at h2⊢
  have e1:=Oh v d n h.1 (by omega) (by omega)
  have e2:=PI r d (n+v.cnt) h.2 (fun _=>by omega) (by omega)
  rw[LU,e1,Ca rfl]
  show Cg d (n+v.cnt) r=_
  rw[e2]
  congr 1;omega
theorem chkD_of:∀(x:Fd) (d n:Nat),GW x->d+lvD x<=49->n+x.cnt<=65536->Jr d n x=(n+x.cnt,0)
 | .mk k v,d,n,h,h1,h2=>by
  unfold GW at h
  unfold lvD at h1
  unfold Fd.cnt at h2⊢
  unfold Jr
  exact Oh v d n h h1 h2
theorem PN:∀(l:List Fd) (d n:Nat),B4 l->(l≠ []->d+ED l<=49)->n+AE l<=65536->B2 d n l=(n+AE l,0)
 | [],d,n,_,_,_=>by unfold B2 AE;rfl
 | x::r,d,n,h,h1,h2=>by
  unfold B4 at h
  have h1:=h1 (by simp)
  unfold ED at h1
  unfold AE at h2⊢
  have e1:=chkD_of x d n h.1 (by omega) (by omega)
  have e2:=PN r d (n+x.cnt) h.2 (fun _=>by omega) (by omega)
  unfold B2
  rw[e1,Ca rfl]
  show B2 d (n+x.cnt) r=_
  rw[e2]
  congr 1;omega
end
theorem T3 {v:Vl} (h:AX v) (hl:lvV v<=48) (hc:v.cnt<=65536):A9 v=0:=by
 unfold A9
 rw[Oh v 1 0 h (by omega) (by omega)]
theorem Pk:∀(f:List Fd) (seen:List B8),Et f->(∀d,d∈f->d.key∉seen/\U8 d.key/\d.key.length<=1024)->C9 seen f=0
 | [],seen,_,_=>rfl
 | d::r,seen,hn,h=>by
  obtain⟨h1,h2,h3⟩:=h d (.head _)
  unfold C9
  unfold Et at hn
  rw[List.map_cons,List.nodup_cons]at hn
  rw[if_pos h2,if_neg (by omega),if_neg h1]
  refine Pk r _ hn.2 fun x hx=>?_
  obtain⟨g1,g2,g3⟩:=h x (.tail _ hx)
  refine⟨fun hm=>?_,g2,g3⟩
  rcases List.mem_cons.1 hm with he | hm
  ·exact hn.1 (he▸List.mem_map.2 ⟨x,hx,rfl⟩)
  ·exact g1 hm
end
section
open Go.RowKit (Below)
def St.upto (st' st:St):St:={st' with nb:=st.nb,box:=st.box}
def Ghost.upto (g:Ghost) (w:World) (n:Nat):Ghost:=
 {g with nb:=n,S:=fun a=>g.S a∨∃b,n<=b/\b<g.nb/\a.block=g.bk b/\a.spot=none/\∃v,w.cell? a=some v}
theorem SO {st st':St} (e:Am st st'):Am st (st'.upto st):=⟨Nat.le_refl _,fun _ _=>rfl,e.nt,e.live,e.ty,e.bt⟩
theorem Rel.lower {g g1:Ghost} {w w1:World} {x:TV} {u0:Value} (h:Rel g w x u0):∀{u:Value},Rel g1 w1 x u->Rel (g1.upto w1 g.nb) w1 x u:=by
 induction h with
 | undef=>intro u h;cases h;exact .undef
 | junk v=>intro u h;exact .junk u
 | int k n=>intro u h;cases h;exact .int k n
 | bool b=>intro u h;cases h;exact .bool b
 | str l=>intro u h;cases h;exact .str l
 | nilPtr=>intro u h;cases h;exact .nilPtr
 | nilSlice=>intro u h;cases h;exact .nilSlice
 | nilMap=>intro u h;cases h;exact .nilMap
 | nilFunc=>intro u h;cases h;exact .nilFunc
 | nilIface=>intro u h;cases h;exact .nilIface
 | list sz tip n xs b o cap us hl hn hc hr ht ih=>
  intro u h
  cases h with
  | list _ _ _ _ b1 o1 cap1 us1 hl1 hn1 hc1 hr1 ht1=>
   exact .list sz tip n xs b1 o1 cap1 us1 hl1 hn1 (fun i hi=>⟨.inl (hc1 i hi).1,(hc1 i hi).2⟩) (fun i hi=>ih i hi (hr1 i hi)) ht1
  | listE _ _ a ht1=>exact .listE sz tip a ht1
 | listE sz tip a ht=>
  intro u h
  cases h with
  | list _ _ _ _ b1 o1 cap1 us1 hl1 hn1 hc1 hr1 ht1=>
   exact .list sz tip 0 [] b1 o1 cap1 us1 hl1 hn1 (fun i hi=>absurd hi (Nat.not_lt_zero _)) (fun i hi=>absurd hi (Nat.not_lt_zero _)) ht1
  | listE _ _ a ht1=>exact .listE sz tip a ht1
 | ms sz b off n cap h hn=>
  intro u h1
  cases h1
  exact .ms (g:=g1.upto w1 g.nb) sz b off n cap h hn
 | box b off h=>
  intro u h1
  cases h1
  exact .box (g:=g1.upto w1 g.nb) b off h
 | rptr xs b o us hc hr ih=>
  intro u h
  cases h with
  | rptr _ b1 o1 us1 hc1 hr1=>exact .rptr xs b1 o1 us1 (fun i hi=>⟨.inl (hc1 i hi).1,(hc1 i hi).2⟩) fun i hi=>ih i hi (hr1 i hi)
 | agg xs vs hl hr ih=>
  intro u h
  cases h with
  | agg _ vs1 hl1 hr1=>exact .agg xs vs1 hl1 fun i hi=>ih i hi (hr1 i hi)
 | tuple xs vs hl hr ih=>
  intro u h
  cases h with
  | tuple _ vs1 hl1 hr1=>exact .tuple xs vs1 hl1 fun i hi=>ih i hi (hr1 i hi)
 | func f xs vs hl hr ih=>
  intro u h
  cases h with
  | func _ _ vs1 hl1 hr1=>exact .func f xs vs1 hl1 fun i hi=>ih i hi (hr1 i hi)
 | iface t v u0 h ih=>
  intro u h1
  cases h1 with
  | iface _ _ u1 h2=>exact .iface t v u1 (ih h2)
 | map b h=>
  intro u h1
  cases h1
  exact .map (g:=g1.upto w1 g.nb) b h
 | sptr v a n cap hc h ih=>
  intro u h1
  cases h1 with
  | sptr _ a1 n1 cap1 hc1 h2=>exact .sptr v a1 n1 cap1 hc1 (ih h2)
theorem AD.lower {g g1:Ghost} {w w1:World} {xs:List TV} {us0 us:List Value} (h0:AD g w xs us0) (h:AD g1 w1 xs us):AD (g1.upto w1 g.nb) w1 xs us:=
 ⟨h.1,fun i hi=>(h0.2 i hi).lower (h.2 i hi)⟩
theorem F0.lower {g g1:Ghost} {w w1:World} {b b1:Nat} {o:HW} (h0:F0 g w b o) (h:F0 g1 w1 b1 o):F0 (g1.upto w1 g.nb) w1 b1 o:=by
 cases o with
 | dead=>trivial
 | cells l=>
  obtain⟨cs0,_,hr0⟩:=h0
  obtain⟨cs,hc,hr⟩:=h
  exact⟨cs,hc,hr0.lower hr⟩
 | iter s pos=>exact h
 | map es=>
  obtain⟨ms0,c0,_,_,hm0⟩:=h0
  obtain⟨ms,c,hc,hl,hm⟩:=h
  refine⟨ms,c,hc,hl,fun i k v hi=>?_⟩
  obtain⟨e0,_,_,h3⟩:=hm0 i k v hi
  obtain⟨e,g1,g2,g3⟩:=hm i k v hi
  exact⟨e,g1,g2,h3.lower g3⟩
 | pmap es=>
  obtain⟨ms0,c0,_,_,hm0⟩:=h0
  obtain⟨ms,c,hc,hl,hm⟩:=h
  refine⟨ms,c,hc,hl,fun i k v hi=>?_⟩
  obtain⟨hk0,e0,_,_,h3⟩:=hm0 i k v hi
  obtain⟨hk,e,g1,g2,g3⟩:=hm i k v hi
  exact⟨hk0,e,g1,g2,h3.lower g3⟩
theorem Sim.upto {g g':Ghost} {st st':St} {w w':World} (s:Sim g st [] w) (s':Sim g' st' [] w') (e:Ext g w g' w') (x:Am st st'):Sim (g'.upto w' st.nb) (st'.upto st) [] w'/\Ext g w (g'.upto w' st.nb) w':=by
 have hnb:st.nb<=g'.nb:=by rw[s'.nb];exact x.nb
 have dom:∀k,Dom (st'.upto st) [] k->Dom st' [] k:=fun k hk=>by
  cases k with
  | box b=>exact Nat.lt_of_lt_of_le (show b<st.nb from hk) x.nb
  | loc i=>exact hk
 have domO:∀k,Dom (st'.upto st) [] k->Dom st [] k:=fun k hk=>by
  cases k with
  | box b=>exact hk
  | loc i=>exact hk
 refine⟨⟨rfl,s'.nt,s'.below,s'.fits,fun k hk=>?_,fun k k' h h' he=>s'.inj k k' (dom k h) (dom k' h') (by cases k<;>cases k'<;>exact he),fun k hk=>?_,s'.own,fun id b l h hid=>?_,s'.spApart,s'.spLt,fun a ha=>?_,fun b hb=>?_,s'.spTop,s'.spTy,fun b T hb ht=>?_,s'.glob⟩,?_⟩
 ·have h0:=s.obj k (domO k hk)
  have h1:=s'.obj k (dom k hk)
  cases k with
  | box b=>
   have hb:b<st.nb:=hk
   have h1':F0 g' w' (g'.bk b) (st.box b):=by rw[<-x.box b hb];exact h1
   have h2:=F0.lower (g:=g) (w:=w) (b:=g.at (.box b)) h0 h1'
   rw[s.nb]at h2
   exact h2
  | loc i=>obtain⟨l,hl⟩:=hk;simp at hl
 ·have:=s'.lo k (dom k hk)
  cases k<;>exact this
 ·obtain⟨h1,h2,h3,h4,h5⟩:=s'.spCell id b l h hid
  exact⟨h1,h2,h3,fun k hk=>by have:=h4 k (dom k hk);cases k<;>exact this,h5⟩
 ·rcases ha with ha | ⟨b,h1,h2,h3,h4,h5⟩
  ·obtain⟨q1,q2,q3,q4⟩:=s'.sCell a ha
   exact⟨q1,q2,fun k hk=>by have:=q3 k (dom k hk);cases k<;>exact this,q4⟩
  ·have hd:Dom st' [] (.box b):=by show b<st'.nb;rw[<-s'.nb];exact h2
   refine⟨h4,h5,fun k hk hc=>?_,fun id l h hid _=>?_⟩
   ·cases k with
    | box b'=>
     have hb':b'<st.nb:=hk
     have:=s'.inj (.box b') (.box b) (dom _ hk) hd (by rw[h3]at hc;exact hc)
     cases this
     omega
    | loc i=>obtain⟨l,hl⟩:=hk;simp at hl
   ·have:=(s'.spCell id a.block l h hid).2.2.2.1 (.box b) hd
    exact this h3.symm
 ·obtain⟨h1,h2,h3,h4⟩:=s'.protOk b hb
  refine⟨h1,fun k hk=>by have:=h2 k (dom k hk);cases k<;>exact this,h3,fun a ha=>?_⟩
  rcases ha with ha | ⟨c,q1,q2,q3,q4,q5⟩
  ·exact h4 a ha
  ·rw[q3]
   exact h2 (.box c) (by show c<st'.nb;rw[<-s'.nb];exact q2)
 ·have hb':b<st.nb:=hb
  exact s'.bTy b T (Nat.lt_of_lt_of_le hb' x.nb) ht
 ·exact⟨e.base,e.w0,e.size,by show g.nb<=st.nb;rw[s.nb];exact Nat.le_refl _,e.bk,e.nt,e.sp,fun a ha=>⟨.inl (e.S a ha).1,(e.S a ha).2⟩,e.prot,e.protEq⟩
def FZ (st st':St) (r r':TV):Prop:=∀(g':Ghost) (w':World) (u:Value),Sim g' st' [] w'->Rel g' w' r u->Rel (g'.upto w' st.nb) w' r' u
theorem CX.settle {P:Program} {f:FuncId} {args:List TV} {st:St} {R:TV->St->Prop} (h:CX P f args st fun r st'=>Am st st'/\∃r',FZ st st' r r'/\R r' (st'.upto st)):CX P f args st R:=by
 refine⟨fun g w vargs s hr=>(h.run g w vargs s hr).mono ?_⟩
 rintro v w' ⟨r,st',g',⟨x,r',hs,hR⟩,s',hrel,e⟩
 obtain⟨s2,e2⟩:=Sim.upto s s' e x
 exact⟨r',st'.upto st,g'.upto w' st.nb,hR,s2,hs g' w' v s' hrel,e2⟩
theorem CallT.settle {P:Program} {f:FuncId} {args:List TV} {sh:List RTy} {st:St} {K:FunR sh (St->Prop)} (h:CallT P f args sh st (Fe sh fun r st'=>Am st st'/\∃r',FZ st st' r r'/\Ep sh r' K fun p=>p (st'.upto st))):CallT P f args sh st K:=
 CX.settle (CX.mono h fun r st' hd=>Jo (F:=fun r st'=>Am st st'/\∃r',FZ st st' r r'/\Ep sh r' K fun p=>p (st'.upto st)) (k:=fun p=>p st') hd)
def EN (st st':St) (xs xs':List TV):Prop:=xs'.length=xs.length/\∀(g':Ghost) (w':World),Sim g' st' [] w'->∀us,AD g' w' xs us->AD (g'.upto w' st.nb) w' xs' us
theorem AD.split {g:Ghost} {w:World} {a b:List TV} {us:List Value} (h:AD g w (a++b) us):AD g w a (us.take a.length)/\AD g w b (us.drop a.length):=by
 have h1:=h.take a.length
 have h2:=h.drop a.length
 rw[List.take_left]at h1
 rw[List.drop_left]at h2
 exact⟨h1,h2⟩
theorem EN.nil (st st':St):EN st st' [] []:=⟨rfl,fun g' w' _ us h=>⟨h.1,fun i hi=>absurd hi (Nat.not_lt_zero _)⟩⟩
theorem EN.app {st st':St} {a b a' b':List TV} (h:EN st st' a a') (k:EN st st' b b'):EN st st' (a++b) (a'++b'):=by
 refine⟨by rw[List.length_append,List.length_append,h.1,k.1],fun g' w' s us hr=>?_⟩
 obtain⟨h1,h2⟩:=hr.split
 have:=(h.2 g' w' s _ h1).append (k.2 g' w' s _ h2)
 rw[List.take_append_drop]at this
 exact this
theorem EN.one {st st':St} {x x':TV} (h:FZ st st' x x'):EN st st' [x] [x']:=by
 refine⟨rfl,fun g' w' s us hr=>?_⟩
 refine⟨hr.1,fun i hi=>?_⟩
 match i,hi with
 | 0,_=>exact h g' w' _ s (hr.2 0 (by simp))
theorem DI (st st':St) (k:IntKind) (n:Int):FZ st st' (.int k n) (.int k n):=fun g' w' u _ h=>by cases h;exact .int k n
theorem Kb (st st':St) (b:Bool):FZ st st' (.bool b) (.bool b):=fun g' w' u _ h=>by cases h;exact .bool b
theorem Io (st st':St) (l:B8):FZ st st' (.str l) (.str l):=fun g' w' u _ h=>by cases h;exact .str l
theorem EN.bytes (st st':St) (l:B8):EN st st' (AS l) (AS l):=by
 refine⟨rfl,fun g' w' s us hr=>⟨hr.1,fun i hi=>?_⟩⟩
 have h:=hr.2 i hi
 have e:∀x,x∈AS l->∃b:UInt8,x=If b:=fun x hx=>by
  unfold AS at hx
  obtain⟨b,_,rfl⟩:=List.mem_map.1 hx
  exact⟨b,rfl⟩
 obtain⟨b,hb⟩:=e _ (List.getElem_mem hi)
 rw[hb]at h⊢
 unfold If at h⊢
 rw[h.int_inv]
 exact .int _ _
theorem Cs.settle {st st':St} {sz n:Nat} {u:TV} {xs xs':List TV} {bs:List Nat} (h:Cs st' sz u n xs bs) (hb:∀x,x∈bs->st.nb<=x) (hx:EN st st' xs xs'):∃u',Rd sz u' n xs'/\FZ st st' u u':=by
 rcases h with⟨rfl,rfl,rfl,rfl | rfl⟩ | ⟨b,cap,tail,rfl,h1,h2,h3,h4,h5,rfl⟩
 ·have:xs'=[]:=List.eq_nil_of_length_eq_zero hx.1
  subst this
  exact⟨.nilSlice,.inl ⟨rfl,rfl,rfl⟩,fun g' w' u _ h=>by cases h;exact .nilSlice⟩
 ·have:xs'=[]:=List.eq_nil_of_length_eq_zero hx.1
  subst this
  refine⟨.list sz .full 0 [],.inr ⟨_,rfl⟩,fun g' w' u _ h=>?_⟩
  cases h with
  | list _ _ _ _ b1 o1 cap1 us1 hl1 hn1 hc1 hr1 ht1=>exact .list sz .full 0 [] b1 o1 cap1 us1 hl1 hn1 (fun i hi=>absurd hi (Nat.not_lt_zero _)) (fun i hi=>absurd hi (Nat.not_lt_zero _)) ht1
  | listE _ _ a ht1=>exact .listE sz .full a ht1
 ·refine⟨.list sz .non n xs',.inr ⟨_,rfl⟩,fun g' w' u s h=>?_⟩
  cases h with
  | ms _ _ _ _ _ hlt hn=>
  have hlt':Dom st' [] (.box b):=h1
  have ho:=s.obj (.box b) hlt'
  have ho':F0 g' w' (g'.bk b) (.cells (xs++tail)):=by rw[<-h2];exact ho
  obtain⟨cs,hc,hr⟩:=ho'
  have hq:=(hx.2 g' w' s _ hr.split.1)
  have hlen:xs.length<=cs.length:=by have:=hr.1;rw[List.length_append]at this;omega
  refine .list sz .non n xs' (g'.bk b) 0 cap (fun i=>cs.getD i Go.undef) (by rw[hx.1,h4]) hn (fun i hi=>?_) (fun i hi=>?_) trivial
  ·have hi':i<cs.length:=by rw[hx.1]at hi;omega
   have hv:cs[i]? =some (cs.getD i Go.undef):=by rw[List.getD_eq_getElem?_getD,List.getElem?_eq_getElem hi'];rfl
   have hg:=hc.get hv
   rw[Nat.zero_add]
   exact⟨.inr ⟨b,hb b (.head _),hlt,rfl,rfl,_,hg⟩,hg⟩
  ·have:=hq.2 i hi
   have e:(cs.take xs.length).getD i Go.undef=cs.getD i Go.undef:=by
    have hi':i<xs.length:=by rw[hx.1]at hi;exact hi
    rw[List.getD_eq_getElem?_getD,List.getD_eq_getElem?_getD,List.getElem?_take,if_pos hi']
   rw[e]at this
   exact this
mutual
theorem VlO.settle {st st':St}:∀{v:Vl} {cs:List TV} {fp:List Nat},VlO st' v cs fp->(∀x,x∈fp->st.nb<=x)->∃cs',VlR St.zero v cs'/\EN st st' cs cs'
 | .mk s l f,cs,fp,h,hb=>by
  unfold VlO at h
  obtain⟨ub,ul,uf,xl,xf,bb,bl,bf,fl,ff,rfl,h1,h2,h3,h4,h5,rfl⟩:=h
  have m1:∀{x},x∈bb->st.nb<=x:=fun hx=>hb _ (List.mem_append_left _ hx)
  have m2:∀{x},x∈bl->st.nb<=x:=fun hx=>hb _ (List.mem_append_right _ (List.mem_append_left _ hx))
  have m3:∀{x},x∈fl->st.nb<=x:=fun hx=>hb _ (List.mem_append_right _ (List.mem_append_right _ (List.mem_append_left _ hx)))
  have m4:∀{x},x∈bf->st.nb<=x:=fun hx=>hb _ (List.mem_append_right _ (List.mem_append_right _ (List.mem_append_right _ (List.mem_append_left _ hx))))
  have m5:∀{x},x∈ff->st.nb<=x:=fun hx=>hb _ (List.mem_append_right _ (List.mem_append_right _ (List.mem_append_right _ (List.mem_append_right _ hx))))
  obtain⟨xl',q1,q2⟩:=VsO.settle h3 fun x hx=>m3 hx
  obtain⟨xf',q3,q4⟩:=FsO.settle h5 fun x hx=>m5 hx
  obtain⟨ub',r1,r2⟩:=h1.settle (fun x hx=>m1 hx) (EN.bytes st st' _)
  obtain⟨ul',r3,r4⟩:=h2.settle (fun x hx=>m2 hx) q2
  obtain⟨uf',r5,r6⟩:=h4.settle (fun x hx=>m4 hx) q4
  refine⟨AJ s ub' ul' uf',?_,?_⟩
  ·unfold VlR
   exact⟨ub',ul',uf',xl',xf',rfl,.of_rd r1,.of_rd r3,q1,.of_rd r5,q3⟩
  ·have c:∀{x x':TV} {l l':List TV},FZ st st' x x'->EN st st' l l'->EN st st' (x::l) (x'::l'):=fun h k=>(EN.one h).app k
   exact c (DI _ _ _ _) (c (Kb _ _ _) (c (Kb _ _ _) (c (Io _ _ _) (c (DI _ _ _ _) (c (DI _ _ _ _) (c (DI _ _ _ _) (c (DI _ _ _ _) (c (DI _ _ _ _) (c (Io _ _ _) (c r2 (c r4 (c r6 (EN.nil _ _)))))))))))))
theorem VsO.settle {st st':St}:∀{l:List Vl} {cs:List TV} {fp:List Nat},VsO st' l cs fp->(∀x,x∈fp->st.nb<=x)->∃cs',VsR St.zero l cs'/\EN st st' cs cs'
 | [],cs,fp,h,hb=>by
  unfold VsO at h
  obtain⟨rfl,rfl⟩:=h
  exact⟨[],by unfold VsR;rfl,EN.nil _ _⟩
 | v::r,cs,fp,h,hb=>by
  unfold VsO at h
  obtain⟨a,b,p,q,rfl,rfl,h1,h2⟩:=h
  obtain⟨a',q1,q2⟩:=VlO.settle h1 fun x hx=>hb x (List.mem_append_left _ hx)
  obtain⟨b',q3,q4⟩:=VsO.settle h2 fun x hx=>hb x (List.mem_append_right _ hx)
  exact⟨a'++b',by unfold VsR;exact⟨a',b',rfl,q1,q3⟩,q2.app q4⟩
theorem FdO.settle {st st':St}:∀{d:Fd} {cs:List TV} {fp:List Nat},FdO st' d cs fp->(∀x,x∈fp->st.nb<=x)->∃cs',FdR St.zero d cs'/\EN st st' cs cs'
 | .mk key v,cs,fp,h,hb=>by
  unfold FdO at h
  obtain⟨c,rfl,h1⟩:=h
  obtain⟨a',q1,q2⟩:=VlO.settle h1 hb
  exact⟨.str key::a',by unfold FdR;exact⟨a',rfl,q1⟩,(EN.one (Io _ _ _)).app q2⟩
theorem FsO.settle {st st':St}:∀{l:List Fd} {cs:List TV} {fp:List Nat},FsO st' l cs fp->(∀x,x∈fp->st.nb<=x)->∃cs',FsR St.zero l cs'/\EN st st' cs cs'
 | [],cs,fp,h,hb=>by
  unfold FsO at h
  obtain⟨rfl,rfl⟩:=h
  exact⟨[],by unfold FsR;rfl,EN.nil _ _⟩
 | d::r,cs,fp,h,hb=>by
  unfold FsO at h
  obtain⟨a,b,p,q,rfl,rfl,h1,h2⟩:=h
  obtain⟨a',q1,q2⟩:=FdO.settle h1 fun x hx=>hb x (List.mem_append_left _ hx)
  obtain⟨b',q3,q4⟩:=FsO.settle h2 fun x hx=>hb x (List.mem_append_right _ hx)
  exact⟨a'++b',by unfold FsR;exact⟨a',b',rfl,q1,q3⟩,q2.app q4⟩
end
theorem Qf {st st':St} {cs cs':List TV} (h:EN st st' cs cs'):FZ st st' (.agg cs) (.agg cs'):=fun g' w' u s hr=>by
 cases hr with
 | agg _ vs hl hr=>
  have:=h.2 g' w' s vs ⟨hl,hr⟩
  exact .agg cs' vs this.1 this.2
theorem Jp {v:Vl} (hN:v.sz<=2000000) (hC:v.cnt<=65536) {st:St} {cs:List TV} {K:Int->Bool->Bool->B8->Int->Int->Int->Int->Int->B8->TV->TV->TV->St->Prop} (h:VlR st v cs)
  (hk:∀ub ul uf st',VlR St.zero v (AJ v.sc ub ul uf)->Au ub=true->Au ul=true->Au uf=true->Am st st'->st'.nb=st.nb->K v.sc.kind v.sc.b v.sc.neg v.sc.dg v.sc.ex v.sc.tk v.sc.td v.sc.tn v.sc.tz v.sc.text ub ul uf st'):
  CallT PR Da [.agg cs] [.agg [.int .i64,.bool,.bool,.str,.int .i64,.int .i64,.int .i64,.int .i64,.int .i64,.str,.tv,.tv,.tv]] st K:=by
 refine CallT.settle (copy_ok hN hC h fun ub ul uf st' fp g o1 o2 o3 nd lo e=>?_)
 obtain⟨cs',q1,q2⟩:=g.settle lo
 refine⟨e,.agg cs',Qf q2,?_⟩
 obtain⟨s,l,f⟩:=v
 have q0:=q1
 obtain⟨ub',ul',uf',xl,xf,rfl,w1,w2,_,w4,_⟩:=VlR.cells q0
 exact hk ub' ul' uf' (st'.upto st) q1 w1.one w2.one w4.one (SO e) rfl
end
end Go.TVF
section
namespace Go.TVF
open Go.IntKind(i64 u8)
open Go Go.Proofs Go.ChangeShapes
section
variable {H:Type} {enc:TypeId×Value->H} {P:Program} {w:World} {base:Nat} {held:Bool}
def Op (enc:TypeId×Value->H) (P:Program) (w:World) (base:Nat) (held:Bool) (n c:Nat) (S:List TV->Prop) (e:TypeId):Prop:=
 P.cellsOf e=c/\∀vs x,DataW.trod enc P w base (fun _=>true) held n e vs=some x->∃tv,AD (Ghost.start w) w tv vs/\tv.length=c/\S tv
end
end Go.TVF
end
section
namespace Go.TVF
open Go.IntKind(i64 u8)
open Go Go.Proofs Go.ChangeShapes
structure Blk {H:Type} (bk:DataW H->Nat):Prop where
 one:∀d,1<=bk d
 str:∀b,b.length+1<=bk (.lit (.string b))
 sl:∀e s,(e.map bk).sum+1<=bk (.slice e s)
 agg:∀p,(p.map bk).sum+1<=bk (.agg p)
section
variable {H:Type} {enc:TypeId×Value->H} {P:Program} {w:World} {base:Nat} {held:Bool} {bk:DataW H->Nat}
def OpQ (bk:DataW H->Nat) (enc:TypeId×Value->H) (P:Program) (w:World) (base:Nat) (held:Bool) (n c:Nat) (S:Nat->List TV->Prop) (e:TypeId):Prop:=
 P.cellsOf e=c/\∀vs x,DataW.trod enc P w base (fun _=>true) held n e vs=some x->∃tv,AD (Ghost.start w) w tv vs/\tv.length=c/\S (bk x.1) tv
def cellQ (c:CTy) (k:Nat) (tv:List TV):Prop:=LB [c] tv/\1<=k
def strQ (k:Nat) (tv:List TV):Prop:=∃l:B8,tv=[.str l]/\l.length<=maxLen/\l.length+1<=k
theorem opq_cell {n:Nat} {c:CTy} {e:TypeId} (hb:Blk bk) (h:Ui P c e) (hc:P.cellsOf e=1):OpQ bk enc P w base held n 1 (cellQ c) e:=⟨hc,fun vs x hd=>by
 obtain⟨v,u,rfl,hr,hf⟩:=R8 (Ghost.start w) h hd
 exact⟨[v],.cons hr (.nil _ _),rfl,hf,hb.one _⟩⟩
theorem opq_str {n:Nat} {e:TypeId} (hb:Blk bk) (h:P.underlying e=some .string) (hc:P.cellsOf e=1):OpQ bk enc P w base held n 1 strQ e:=⟨hc,fun vs x hd=>by
 obtain⟨s,rfl,rfl,hs⟩:=DataW.trod_string h hd
 exact⟨[_],.cons (Ld (Ghost.start w) w s) (.nil _ _),rfl,_,rfl,by rw[Array.length_toList];exact hs,hb.str _⟩⟩
def SlQ (c:Nat) (S:Nat->List TV->Prop) (k:Nat) (v:TV):Prop:=
 v= .nilSlice∨∃ps:List (List TV×Nat),v= .list c .non ps.length (ps.map (·.1)).flatten/\(∀p,p∈ps->p.1.length=c/\S p.2 p.1)/\(ps.map (·.2)).sum+1<=k
theorem opq_slice {n c:Nat} {S:Nat->List TV->Prop} {t e:TypeId} (hb:Blk bk) (ht:P.underlying t=some (.slice e)) (ht1:P.cellsOf t=1) (hc1:1<=c) (hE:∀m,m<n->OpQ bk enc P w base held m c S e):
  OpQ bk enc P w base held n 1 (fun k tv=>∃v,tv=[v]/\SlQ c S k v) t:=by
 refine⟨ht1,fun vs x h=>?_⟩
 rcases DataW.trod_slice ht h with⟨rfl,_⟩ | ⟨a,len,cap,elems,rest,m,rfl,rfl,rfl,hbk,hl,hm,hel,hi,hsp,_⟩
 ·exact⟨[.nilSlice],.cons .nilSlice (.nil _ _),rfl,_,rfl,.inl rfl⟩
 ·obtain⟨hcE,hE⟩:=hE m (by omega)
  rw[hcE]at hi hsp
  have hbs:=hb.sl (elems.map (·.1)) (rest.map (·.1))
  rw[List.map_map]at hbs
  by_cases hcap:cap=0
  ·subst hcap
   obtain rfl:len=0:=by omega
   exact⟨[.list c .non 0 []],.cons (.listE _ _ _ (fun id h=>by cases h)) (.nil _ _),rfl,_,rfl,.inr ⟨[],rfl,(fun ck h=>by cases h),by simp only[List.map_nil,List.sum_nil];omega⟩⟩
  ·obtain⟨b,o,spot⟩:=a
   have hspot:spot=none:=by
    have key:∀(i:Nat) (l:List (DataW H×List MemPlace)) (k:Nat),k<l.length->i=0->(w.cells? base ((⟨b,o,spot⟩:Addr).add (i*c)) c).bind (DataW.trod enc P w base (fun _=>true) held m e)=l[k]?->spot=none:=by
     intro i l k hk hi0 h
     subst hi0
     rw[List.getElem?_eq_getElem hk]at h
     obtain⟨vs,h1,_⟩:=Option.bind_eq_some_iff.1 h
     obtain⟨_,hvl,hvc⟩:=World.cells?_some h1
     have:=World.cell?_spot ((hvc 0 (by omega)).trans (List.getElem?_eq_getElem (show 0<vs.length by omega)))
     rw[Nat.zero_mul]at this
     exact this
    by_cases h0:0<len
    ·exact key 0 elems 0 (by omega) rfl (hi 0 h0)
    ·obtain⟨hr,hs⟩:=hsp rfl
     exact key _ rest 0 (by omega) (by omega) (hs 0 (by omega))
   subst hspot
   have each:∀i (hil:i<len),∃tv vs,AD (Ghost.start w) w tv vs/\tv.length=c/\S (bk (elems[i]'(by omega)).1) tv/\vs.length=c/\∀j,j<c->w.cell? ⟨b,o+(i*c+j),none⟩=some (vs.getD j Go.undef):=by
    intro i hil
    have h:=hi i hil
    rw[List.getElem?_eq_getElem (by omega)]at h
    obtain⟨vs,h1,h2⟩:=Option.bind_eq_some_iff.1 h
    obtain⟨tv,hr,htl,hf⟩:=hE vs _ h2
    obtain⟨_,hvl,hvc⟩:=World.cells?_some h1
    refine⟨tv,vs,hr,htl,hf,hvl,fun j hj=>?_⟩
    have:=hvc j (by omega)
    rw[Deep.add_add,Q6]at this
    rw[this]
    simp[List.getD,show j<vs.length by omega]
   have build:∀k,k<=len->∃ps:List (List TV×Nat),ps.length=k/\(∀p,p∈ps->p.1.length=c/\S p.2 p.1)/\ps.map (·.2)=(elems.take k).map (fun y=>bk y.1)/\(ps.map (·.1)).flatten.length=k*c/\∀i (h:i<(ps.map (·.1)).flatten.length),∃u,w.cell? ⟨b,o+i,none⟩=some u/\Rel (Ghost.start w) w (ps.map (·.1)).flatten[i] u:=by
    intro k
    induction k with
    | zero=>intro _;exact⟨[],rfl,(fun ck h=>by cases h),by simp,by simp,fun i h=>absurd h (Nat.not_lt_zero _)⟩
    | succ k ih=>
     intro hk
     obtain⟨ps,h0,h1,hm1,h2,h3⟩:=ih (by omega)
     obtain⟨tv,vs,hr,htl,hf,hvl,hvc⟩:=each k (by omega)
     have hfl:((ps++[(tv,bk (elems[k]'(by omega)).1)]).map (·.1)).flatten=(ps.map (·.1)).flatten++tv:=by simp
     refine⟨ps++[(tv,bk (elems[k]'(by omega)).1)],by simp[h0],fun p h=>?_,?_,by rw[hfl,List.length_append,h2,htl,Nat.succ_mul],fun i h=>?_⟩
     ·rcases List.mem_append.1 h with h | h
      ·exact h1 p h
      ·rw[List.mem_singleton.1 h];exact⟨htl,hf⟩
     ·rw[List.map_append,hm1,List.take_succ_eq_append_getElem (by omega),List.map_append];rfl
     ·simp only[hfl]at h⊢
      by_cases hix:i<(ps.map (·.1)).flatten.length
      ·rw[List.getElem_append_left hix];exact h3 i hix
      ·rw[List.getElem_append_right (by omega)]
       rw[List.length_append]at h
       have hj:i-(ps.map (·.1)).flatten.length<tv.length:=by omega
       refine⟨vs.getD (i-(ps.map (·.1)).flatten.length) Go.undef,?_,hr.2 _ hj⟩
       have:=hvc (i-(ps.map (·.1)).flatten.length) (by omega)
       rw[show o+i=o+(k*c+(i-(ps.map (·.1)).flatten.length)) by rw[<-h2];omega]
       exact this
   obtain⟨ps,h0,h1,hm1,h2,h3⟩:=build len (Nat.le_refl _)
   refine⟨[.list c .non ps.length (ps.map (·.1)).flatten],.cons ?_ (.nil _ _),rfl,_,rfl,.inr ⟨ps,rfl,h1,?_⟩⟩
   ·have hu:∀i,∃u,(h:i<(ps.map (·.1)).flatten.length)->w.cell? ⟨b,o+i,none⟩=some u/\Rel (Ghost.start w) w (ps.map (·.1)).flatten[i] u:=fun i=>by
     by_cases h:i<(ps.map (·.1)).flatten.length
     ·obtain⟨u,hu⟩:=h3 i h
      exact⟨u,fun _=>hu⟩
     ·exact⟨Go.undef,fun h'=>absurd h' h⟩
    rw[h0]
    refine .list _ _ _ _ b o cap (fun i=>Classical.choose (hu i)) h2 hl (fun i hi=>?_) (fun i hi=>(Classical.choose_spec (hu i) hi).2) trivial
    have:=(Classical.choose_spec (hu i) hi).1
    exact⟨⟨rfl,_,this⟩,this⟩
   ·rw[hm1,List.take_of_length_le (by omega)]
    exact hbs
def Oy (bk:DataW H->Nat) (enc:TypeId×Value->H) (P:Program) (w:World) (base:Nat) (held:Bool) (n:Nat):List (Nat×(Nat->List TV->Prop))->List Field->Nat->Prop
 | [],[],_=>True
 | S::Ss,f::fs,o=>f.offset=o/\OpQ bk enc P w base held n S.1 S.2 f.type/\Oy bk enc P w base held n Ss fs (o+S.1)
 | _,_,_=>False
def RM:List (Nat×(Nat->List TV->Prop))->Nat->List TV->Prop
 | [],_,xs=>xs=[]
 | S::Ss,k,xs=>∃a b k1 k2,xs=a++b/\a.length=S.1/\S.2 k1 a/\RM Ss k2 b/\k1+k2<=k
def OJ:List (Nat×(Nat->List TV->Prop))->Nat
 | []=>0
 | S::Ss=>S.1+OJ Ss
theorem Lk {n:Nat} {vs:List Value}:∀(Ss:List (Nat×(Nat->List TV->Prop))) (fs:List Field) (o:Nat) (xs:List (DataW H×List MemPlace)),Oy bk enc P w base held n Ss fs o->xs.length=fs.length->vs.length=o+OJ Ss->
  (∀(i:Nat) (f:Field),fs[i]? =some f->DataW.trod enc P w base (fun _=>true) held n f.type ((vs.drop f.offset).take (P.cellsOf f.type))=xs[i]?)->∃tv,AD (Ghost.start w) w tv (vs.drop o)/\tv.length=OJ Ss/\RM Ss (xs.map (fun y=>bk y.1)).sum tv
 | [],[],o,xs,_,_,hl,_=>⟨[],by rw[List.drop_of_length_le (by simp[OJ]at hl;omega)];exact .nil _ _,rfl,rfl⟩
 | S::Ss,f::fs,o,[],_,hx,_,_=>by simp at hx
 | S::Ss,f::fs,o,x::xs,ht,hx,hl,hd=>by
  obtain⟨h1,⟨h2,h3⟩,h4⟩:=ht
  have hd0:=hd 0 f rfl
  rw[h1,h2]at hd0
  obtain⟨tv0,hr,htl,hf⟩:=h3 _ _ hd0
  obtain⟨tv,hr',hl',hf'⟩:=Lk (n:=n) (vs:=vs) Ss fs (o+S.1) xs h4 (by simpa using hx) (by simp only[OJ]at hl;omega) (fun i f' hi=>by simpa using hd (i+1) f' (by simpa using hi))
  refine⟨tv0++tv,?_,by simp[hl',htl,OJ],tv0,tv,_,_,rfl,htl,hf,hf',by simp only[List.map_cons,List.sum_cons];exact Nat.le_refl _⟩
  have hlt:o+S.1<=vs.length:=by simp only[OJ]at hl;omega
  have e:vs.drop o=(vs.drop o).take S.1++vs.drop (o+S.1):=by rw[<-List.drop_drop,List.take_append_drop]
  rw[e]
  exact AD.append hr hr'
 | [],f::fs,o,xs,ht,_,_,_=>ht.elim
 | S::Ss,[],o,xs,ht,_,_,_=>ht.elim
theorem opq_struct {n c:Nat} {Ss:List (Nat×(Nat->List TV->Prop))} {e:TypeId} {fs:Array Field} (hb:Blk bk) (ht:P.underlying e=some (.struct fs)) (hc:P.cellsOf e=c) (hl:OJ Ss=c) (hf:∀m,m<n->Oy bk enc P w base held m Ss fs.toList 0):
  OpQ bk enc P w base held n c (fun k tv=>∃k',k'+1<=k/\RM Ss k' tv) e:=⟨hc,fun vs x hd=>by
 obtain⟨xs,m,rfl,rfl,hvl,hx,hi⟩:=DataW.trod_struct ht hd
 obtain⟨tv,h1,h2,h3⟩:=Lk (bk:=bk) (enc:=enc) (P:=P) (w:=w) (base:=base) (held:=held) (n:=m) (vs:=vs) Ss fs.toList 0 xs (hf m (by omega)) (by simpa using hx) (by omega) (fun i f h=>hi i f (by simpa using h))
 refine⟨tv,by simpa using h1,by omega,_,?_,h3⟩
 have:=hb.agg (xs.map (·.1))
 rw[List.map_map]at this
 exact this⟩
end
end Go.TVF
end
namespace Go.TVF
open Go.IntKind(i64 u8)
open Go Go.Proofs
section
abbrev decQs:List (Nat×(Nat->List TV->Prop)):=[(1,cellQ .bool),(1,strQ),(1,cellQ (.int .i64))]
abbrev timeQs:List (Nat×(Nat->List TV->Prop)):=[(1,cellQ (.int .i64)),(1,cellQ (.int .i64)),(1,cellQ (.int .i64)),(1,cellQ (.int .i64))]
def valQ (k:Nat) (tv:List TV):Prop:=∃v:Vl,VlR St.zero v tv/\v.sz<=k
def fldQ (k:Nat) (tv:List TV):Prop:=∃d:Fd,FdR St.zero d tv/\d.sz<=k
abbrev JG (c:Nat) (S:Nat->List TV->Prop) (k:Nat) (tv:List TV):Prop:=∃v,tv=[v]/\SlQ c S k v
abbrev inQ (Ss:List (Nat×(Nat->List TV->Prop))) (k:Nat) (tv:List TV):Prop:=∃k',k'+1<=k/\RM Ss k' tv
abbrev valQs:List (Nat×(Nat->List TV->Prop)):=[(1,cellQ (.int .i64)),(1,cellQ .bool),(3,inQ decQs),(4,inQ timeQs),(1,strQ),(1,JG 1 (cellQ (.int .u8))),(1,JG 13 valQ),(1,JG 14 fldQ)]
abbrev fldQs:List (Nat×(Nat->List TV->Prop)):=[(1,strQ),(13,valQ)]
theorem SlQ.bytes {k:Nat} {v:TV} (h:SlQ 1 (cellQ (.int .u8)) k v):∃l:B8,SlR St.zero 1 v l.length (AS l)/\l.length<=k:=by
 rcases h with rfl | ⟨ps,rfl,h,hk⟩
 ·exact⟨[],.inl (.inl ⟨rfl,rfl,rfl⟩),Nat.zero_le _⟩
 ·have:∃l:B8,l.length=ps.length/\(ps.map (·.1)).flatten=AS l/\l.length<=(ps.map (·.2)).sum:=by
   clear hk
   induction ps with
   | nil=>exact⟨[],rfl,rfl,Nat.zero_le _⟩
   | cons p r ih=>
    obtain⟨l,h1,h2,h3⟩:=ih (fun q hq=>h q (.tail _ hq))
    obtain⟨hl,⟨n,ys,hp,hw,rfl⟩,h1k⟩:=h p (.head _)
    have hn:0<=n/\n<=255:=by simpa [Lit.wf,IntKind.min,IntKind.max,IntKind.signed,IntKind.bits]using hw
    refine⟨n.toNat.toUInt8::l,by simp[h1],?_,by simp only[List.length_cons,List.map_cons,List.sum_cons];omega⟩
    rw[List.map_cons,List.flatten_cons,hp,h2]
    simp only[AS,List.map_cons,If,List.cons_append,List.nil_append,List.cons.injEq,and_true,TV.int.injEq,true_and]
    have:=Rj n.toNat (by omega)
    omega
  obtain⟨l,h1,h2,h3⟩:=this
  exact⟨l,.inl (.inr ⟨.non,by rw[h1,h2]⟩),by omega⟩
theorem SlQ.vals {k:Nat} {v:TV} (h:SlQ 13 valQ k v):∃l xl,SlR St.zero 13 v l.length xl/\VsR St.zero l xl/\BV l<=k:=by
 rcases h with rfl | ⟨ps,rfl,h,hk⟩
 ·exact⟨[],[],.inl (.inl ⟨rfl,rfl,rfl⟩),by unfold VsR;rfl,by unfold BV;exact Nat.zero_le _⟩
 ·have:∃l:List Vl,l.length=ps.length/\VsR St.zero l (ps.map (·.1)).flatten/\BV l<=(ps.map (·.2)).sum:=by
   clear hk
   induction ps with
   | nil=>exact⟨[],rfl,by unfold VsR;rfl,by unfold BV;exact Nat.zero_le _⟩
   | cons p r ih=>
    obtain⟨l,h1,h2,h3⟩:=ih (fun q hq=>h q (.tail _ hq))
    obtain⟨hl,v,hv,hz⟩:=h p (.head _)
    exact⟨v::l,by simp[h1],by unfold VsR;exact⟨_,_,by simp,hv,h2⟩,by unfold BV;simp only[List.map_cons,List.sum_cons];omega⟩
  obtain⟨l,h1,h2,h3⟩:=this
  exact⟨l,_,.inl (.inr ⟨.non,by rw[h1]⟩),h2,by omega⟩
theorem SlQ.flds {k:Nat} {v:TV} (h:SlQ 14 fldQ k v):∃l xl,SlR St.zero 14 v l.length xl/\FsR St.zero l xl/\BW l<=k:=by
 rcases h with rfl | ⟨ps,rfl,h,hk⟩
 ·exact⟨[],[],.inl (.inl ⟨rfl,rfl,rfl⟩),by unfold FsR;rfl,by unfold BW;exact Nat.zero_le _⟩
 ·have:∃l:List Fd,l.length=ps.length/\FsR St.zero l (ps.map (·.1)).flatten/\BW l<=(ps.map (·.2)).sum:=by
   clear hk
   induction ps with
   | nil=>exact⟨[],rfl,by unfold FsR;rfl,by unfold BW;exact Nat.zero_le _⟩
   | cons p r ih=>
    obtain⟨l,h1,h2,h3⟩:=ih (fun q hq=>h q (.tail _ hq))
    obtain⟨hl,v,hv,hz⟩:=h p (.head _)
    exact⟨v::l,by simp[h1],by unfold FsR;exact⟨_,_,by simp,hv,h2⟩,by unfold BW;simp only[List.map_cons,List.sum_cons];omega⟩
  obtain⟨l,h1,h2,h3⟩:=this
  exact⟨l,_,.inl (.inr ⟨.non,by rw[h1]⟩),h2,by omega⟩
theorem DS {kd:IntKind} {k:Nat} {tv:List TV} (h:cellQ (.int kd) k tv):∃n,tv=[.int kd n]:=by
 obtain⟨⟨n,ys,rfl,_,rfl⟩,_⟩:=h;exact⟨n,rfl⟩
theorem Fh {k:Nat} {tv:List TV} (h:cellQ .bool k tv):∃b,tv=[.bool b]:=by
 obtain⟨⟨n,ys,rfl,rfl⟩,_⟩:=h;exact⟨n,rfl⟩
theorem each_field {k:Nat} {tv:List TV} (h:inQ fldQs k tv):fldQ k tv:=by
 obtain⟨k0,hk0,_,_,k1,k2,rfl,_,⟨key,rfl,_,hkey⟩,⟨_,_,k3,k4,rfl,_,⟨v,hv,hz⟩,rfl,h2⟩,h1⟩:=h
 refine⟨.mk key v,by unfold FdR;exact⟨_,by simp,hv⟩,by unfold Fd.sz;omega⟩
theorem each_value {k:Nat} {tv:List TV} (h:inQ valQs k tv):valQ k tv:=by
 obtain⟨k0,hk0,_,_,a1,r1,rfl,_,q1,⟨_,_,a2,r2,rfl,_,q2,⟨_,_,a3,r3,rfl,_,q3,⟨_,_,a4,r4,rfl,_,q4,⟨_,_,a5,r5,rfl,_,q5,⟨_,_,a6,r6,rfl,_,q6,⟨_,_,a7,r7,rfl,_,q7,⟨_,_,a8,r8,rfl,_,q8,rfl,h8⟩,h7⟩,h6⟩,h5⟩,h4⟩,h3⟩,h2⟩,h1⟩:=h
 obtain⟨kd,rfl⟩:=DS q1
 obtain⟨bo,rfl⟩:=Fh q2
 obtain⟨d0,hd0,_,_,d1,d2,rfl,_,p1,⟨_,_,d3,d4,rfl,_,⟨dg,rfl,_,hdg⟩,⟨_,_,d5,d6,rfl,_,p3,rfl,g3⟩,g2⟩,g1⟩:=q3
 obtain⟨ng,rfl⟩:=Fh p1
 obtain⟨ex,rfl⟩:=DS p3
 obtain⟨_,_,_,_,_,_,rfl,_,t1,⟨_,_,_,_,rfl,_,t2,⟨_,_,_,_,rfl,_,t3,⟨_,_,_,_,rfl,_,t4,rfl,_⟩,_⟩,_⟩,_⟩:=q4
 obtain⟨tk,rfl⟩:=DS t1
 obtain⟨td,rfl⟩:=DS t2
 obtain⟨tn,rfl⟩:=DS t3
 obtain⟨tz,rfl⟩:=DS t4
 obtain⟨tx,rfl,_,htx⟩:=q5
 obtain⟨ub,rfl,q6⟩:=q6
 obtain⟨ul,rfl,q7⟩:=q7
 obtain⟨uf,rfl,q8⟩:=q8
 obtain⟨bs,hb,hbl⟩:=q6.bytes
 obtain⟨l,xl,hl,hlv,hlz⟩:=q7.vals
 obtain⟨f,xf,hf,hfv,hfz⟩:=q8.flds
 refine⟨.mk ⟨kd,bo,ng,dg,ex,tk,td,tn,tz,tx,bs⟩ l f,?_,by rw[szs];simp only;omega⟩
 unfold VlR
 exact⟨ub,ul,uf,xl,xf,by simp,hb,hl,hlv,hf,hfv⟩
section
variable {H:Type} {enc:TypeId×Value->H} {P:Program} {w:World} {base b0:Nat} {held:Bool} {bk:DataW H->Nat}
end
end
section
def IsValU (t:TV):Prop:=∃v cs,t= .agg cs/\VlR St.zero v cs
section
variable {H:Type} {enc:TypeId×Value->H} {P:Program} {w:World} {base b0:Nat} {held:Bool} {bk:DataW H->Nat}
theorem open_valU {t:TypeId} {fs:Array Field} {v:Value} {d:DataW H} {p:List MemPlace} (ht:P.underlying t=some (.struct fs)) (hop:∀n,OpQ bk enc P w base held n 13 valQ t)
  (hval:Value.okWide P w .any b0 t v) (h:DataW.Trod enc P w base (fun _=>true) held t v d p):∃tv,Rel (Ghost.start w) w tv v/\IsValU tv:=by
 simp only[Value.okWide,ht]at hval
 obtain⟨vs,rfl,_,_⟩:=hval
 obtain⟨n,hn⟩:=h
 obtain⟨cs,hr,_,vl,hv,hz⟩:=(hop n).2 _ _ hn
 have:=Rel.agg cs vs.toList hr.1 hr.2
 rw[Array.toArray_toList]at this
 exact⟨_,this,vl,cs,rfl,hv⟩
end
end
section
abbrev SG13:List CTy:=[.int .i64,.bool,.bool,.str,.int .i64,.int .i64,.int .i64,.int .i64,.int .i64,.str,.tv,.tv,.tv]
theorem SlR.zero {sz n:Nat} {v:TV} {xs:List TV} (h:SlR St.zero sz v n xs):Rd sz v n xs:=by
 rcases h with h | ⟨b,_,_,_,_,hb,_⟩
 ·exact h
 ·exact absurd hb (Nat.not_lt_zero _)
theorem Rd.isP {sz n i:Nat} {u:TV} {xs:List TV} (h:Rd sz u n xs) (hi:i<n):isPtr (ixT sz u i)=true:=(SlR.of_rd (st:=St.zero) h).isPtr hi
abbrev AU:=Bool×B8×Int
def C4 (s:AU):List TV:=[.bool s.1,.str s.2.1,.int .i64 s.2.2]
def CY (p:TV) (ss:List AU):Prop:=Rd 3 p ss.length (ss.flatMap C4)
theorem HE:∀ss:List AU,(ss.flatMap C4).length=ss.length*3
 | []=>rfl
 | s::r=>by
  rw[List.flatMap_cons,List.length_append,HE r,List.length_cons]
  show 3+_=_
  omega
theorem Gb:∀{ss:List AU} {k:Nat} {s:AU},ss[k]? =some s->∀j,(ss.flatMap C4)[k*3+j]? =if j<3 then(C4 s)[j]? else(ss.flatMap C4)[k*3+j]?
 | [],k,s,h,j=>by simp at h
 | x::r,0,s,h,j=>by
  simp only[List.getElem?_cons_zero,Option.some.injEq]at h
  subst h
  split
  ·rename_i hj
   rw[List.flatMap_cons,Nat.zero_mul,Nat.zero_add,List.getElem?_append_left (by exact hj)]
  ·rfl
 | x::r,k+1,s,h,j=>by
  rw[List.getElem?_cons_succ]at h
  have ih:=Gb h j
  have e:(x::r).flatMap C4=C4 x++r.flatMap C4:=List.flatMap_cons ..
  have hl:(C4 x).length=3:=rfl
  rw[e,List.getElem?_append_right (by omega),hl,show(k+1)*3+j-3=k*3+j by omega]
  exact ih
theorem el3 {st:St} {p:TV} {ss:List AU} (h:CY p ss) {i:Int} {k:Nat} {s:AU} (hi:i=k) (hk:ss[k]? =some s) {f:Fun [.bool,.str,.int .i64] Prop} (hf:f s.1 s.2.1 s.2.2):
  (0<=i/\i<(lenZ 3 p:Int))/\Aj ((Ai st [] (.t (ixT 3 p (Int.toNat i))) 0 3).map TV.agg) fun x=>Bj [.bool,.str,.int .i64] x f:=by
 subst hi
 have hlt:=(List.getElem?_eq_some_iff.1 hk).1
 have h0:=Gb hk 0
 have h1:=Gb hk 1
 have h2:=Gb hk 2
 have hl:((ss.flatMap C4).drop (k*3)).take 3=C4 s:=by
  refine List.ext_getElem? fun j=>?_
  rw[List.getElem?_take]
  split
  ·rename_i hj
   rw[List.getElem?_drop,Gb hk j,if_pos hj]
  ·rename_i hj
   rw[List.getElem?_eq_none]
   show 3<=j
   omega
 have hf':Bj [.bool,.str,.int .i64] (.agg (C4 s)) f:=hf
 refine⟨⟨by omega,by rw[Rd.lenZ h];omega⟩,Ad (x:= .agg (C4 s)) ?_ hf'⟩
 rw[Int.toNat_natCast,(SlR.of_rd (st:=st) h).ldc (HE ss) hlt,hl];rfl
theorem fl3 {st:St} {p:TV} {ss:List AU} (h:CY p ss) {i:Int} {k j:Nat} {s:AU} (hi:i=k) (hk:ss[k]? =some s) (hj:j<3) {x:TV} (hx:(C4 s)[j]? =some x) {f:TV->Prop} (hf:f x):
  (0<=i/\i<(lenZ 3 p:Int))/\need (TVF.isPtr (ixT 3 p (Int.toNat i))) (Aj (Ac st [] (.t (Az (ixT 3 p (Int.toNat i)) j)) 0) f):=by
 subst hi
 have hlt:=(List.getElem?_eq_some_iff.1 hk).1
 refine⟨⟨by omega,by rw[Rd.lenZ h];omega⟩,Aa (by rw[Int.toNat_natCast];exact h.isP hlt) (Ad ?_ hf)⟩
 rw[Int.toNat_natCast]
 exact h.ldfx st k j (by rw[Gb hk j,if_pos hj];exact hx)
def DH (s:AU):Prop:=(s.1=true->s.2.1=[]/\0<=s.2.2/\s.2.2<=65536)/\(s.1=false->s.2.2=0/\s.2.1.length<=1024/\U8 s.2.1)
def FJ (ss:List AU):Prop:=ss.length<=48/\∀s,s∈ss->DH s
section
variable {st:St}
theorem Rh {p:TV} {ss:List AU} (h:CY p ss) {K:Bool->St->Prop} (hk1:FJ ss->K true st) (hk2:¬FJ ss->K false st):CallT PR D2 [p] [.one .bool] st K:=by
 refine Mh p st K (Aa (Rd.isSl h) ?_)
 rw[Rd.lenS h]
 refine Ab (fun g=>hk2 fun hp=>by have:=hp.1;omega) fun g=>Aa (Rd.isSl h) ?_
 refine⟨fun i u n st'=>p=u/\(ss.length:Int)=n/\st=st'/\∃k:Nat,i=k/\k<=ss.length/\∀(j:Nat) s,j<k->ss[j]? =some s->DH s,fun i _ _ _=>(ss.length-i).toNat,⟨rfl,rfl,rfl,0,rfl,Nat.zero_le _,fun j s hj=>by omega⟩,?_⟩
 rintro _ _ _ _ ⟨rfl,rfl,rfl,k,rfl,hkl,hok⟩
 refine Ab (fun g1=>?_) fun g1=>?_
 ·obtain⟨s,hs⟩:∃s,ss[k]? =some s:=⟨_,List.getElem?_eq_getElem (by omega)⟩
  have bad:¬DH s->K false st:=fun hn=>hk2 fun hp=>hn (hp.2 s (List.mem_of_getElem? hs))
  have next:DH s->∀(j:Nat) s',j<k+1->ss[j]? =some s'->DH s':=fun hy j s' hj hs'=>by
   by_cases hjk:j=k
   ·subst hjk;rw[hs]at hs';cases hs';exact hy
   ·exact hok j s' (by omega) hs'
  refine el3 h rfl hs ?_
  rw[Ah _ (by omega) (by omega)]
  refine Aw (fun hb=>Ab (fun g2=>bad fun hy=>g2 (hy.1 hb).1) fun g2=>Ab (fun g3=>bad fun hy=>?_) fun g3=>Ab (fun g4=>bad fun hy=>?_) fun g4=>?_) fun hb=>Ab (fun g2=>bad fun hy=>g2 (hy.2 hb).1) fun g2=>Ab (fun g3=>bad fun hy=>?_) fun g3=>JC (by omega) (Aw (fun g4=>bad fun hy=>?_) fun g4=>?_)
  ·have:=(hy.1 hb).2.1;omega
  ·have:=(hy.1 hb).2.2;omega
  ·refine⟨⟨rfl,rfl,rfl,k+1,by omega,by omega,next ⟨fun _=>⟨Decidable.not_not.1 g2,by omega,by omega⟩,fun e=>by rw[hb]at e;cases e⟩⟩,by dsimp only;omega⟩
  ·have:=(hy.2 hb).2.1;omega
  ·rw[decide_eq_true (show C0 s.2.1=s.2.1.length from(hy.2 hb).2.2)]at g4;cases g4
  ·have g4:C0 s.2.1=s.2.1.length:=by simpa using g4
   refine⟨⟨rfl,rfl,rfl,k+1,by omega,by omega,next ⟨fun e=>(by rw[hb]at e;cases e),fun _=>⟨Decidable.not_not.1 g2,by omega,g4⟩⟩⟩,by dsimp only;omega⟩
 ·refine hk1 ⟨by omega,fun s hs=>?_⟩
  obtain⟨j,hj⟩:=List.getElem?_of_mem hs
  exact hok j s (by have:=(List.getElem?_eq_some_iff.1 hj).1;omega) hj
theorem SW {p:TV} {ss:List AU} (h:CY p ss) {K:Bool->St->Prop} (hk1:FJ ss->∀st',Am st st'->K true st') (hk2:¬FJ ss->∀st',Am st st'->K false st'):CallT PR Cm [p] [.one .bool] st K:=by
 refine G2 p st K (Aa (Rd.isSl h) ?_)
 rw[Rd.lenS h]
 refine Ab (fun g=>hk2 (fun hp=>by have:=hp.1;omega) _ (Am.refl _)) fun g=>?_
 refine⟨fun i u st'=>p=u/\Am st st'/\∃k:Nat,i=k/\k<=ss.length/\∀(j:Nat) s,j<k->ss[j]? =some s->DH s,fun i _ _=>(ss.length-i).toNat,⟨rfl,Am.refl _,0,rfl,Nat.zero_le _,fun j s hj=>by omega⟩,?_⟩
 rintro _ _ st1 ⟨rfl,e1,k,rfl,hkl,hok⟩
 refine Aa (Rd.isSl h) ?_
 rw[Rd.lenS h]
 refine Ab (fun g1=>?_) fun g1=>?_
 ·obtain⟨s,hs⟩:∃s,ss[k]? =some s:=⟨_,List.getElem?_eq_getElem (by omega)⟩
  have bad:¬DH s->∀st',Am st st'->K false st':=fun hn=>hk2 fun hp=>hn (hp.2 s (List.mem_of_getElem? hs))
  have next:DH s->∀(j:Nat) s',j<k+1->ss[j]? =some s'->DH s':=fun hy j s' hj hs'=>by
   by_cases hjk:j=k
   ·subst hjk;rw[hs]at hs';cases hs';exact hy
   ·exact hok j s' (by omega) hs'
  rw[Ah _ (by omega) (by omega)]
  have l0:∀{f:Bool->Prop} {stx:St},f s.1->(0<=(k:Int)/\(k:Int)<(lenZ 3 p:Int))/\need (TVF.isPtr (ixT 3 p (Int.toNat (k:Int)))) (Aj (Ac stx [] (.t (Az (ixT 3 p (Int.toNat (k:Int))) 0)) 0) fun x=>AQ .bool x f):=fun hf=>fl3 h rfl hs (by decide) (x:= .bool s.1) rfl hf
  have l1:∀{f:B8->Prop} {stx:St},f s.2.1->(0<=(k:Int)/\(k:Int)<(lenZ 3 p:Int))/\need (TVF.isPtr (ixT 3 p (Int.toNat (k:Int)))) (Aj (Ac stx [] (.t (Az (ixT 3 p (Int.toNat (k:Int))) 1)) 0) fun x=>AQ .str x f):=fun hf=>fl3 h rfl hs (by decide) (x:= .str s.2.1) rfl hf
  have l2:∀{f:Int->Prop} {stx:St},f s.2.2->(0<=(k:Int)/\(k:Int)<(lenZ 3 p:Int))/\need (TVF.isPtr (ixT 3 p (Int.toNat (k:Int)))) (Aj (Ac stx [] (.t (Az (ixT 3 p (Int.toNat (k:Int))) 2)) 0) fun x=>AQ (.int .i64) x f):=fun hf=>fl3 h rfl hs (by decide) (x:= .int .i64 s.2.2) rfl (Bh hf)
  refine l0 (Aw (fun hb=>l1 (Ab (fun g2=>bad (fun hy=>g2 (hy.1 hb).1) _ e1) fun g2=>l2 (Ab (fun g3=>bad (fun hy=>?_) _ e1) fun g3=>l2 (Ab (fun g4=>bad (fun hy=>?_) _ e1) fun g4=>l0 (Aw (fun hb2=>by rw[hb]at hb2;cases hb2) fun _=>?_))))) fun hb=>l0 (Aw (fun _=>l2 (Ab (fun g2=>bad (fun hy=>g2 (hy.2 hb).1) _ e1) fun g2=>l1 (Ab (fun g3=>bad (fun hy=>?_) _ e1) fun g3=>l1 (RZ (by omega) fun st2 e2=>Aw (fun g4=>bad (fun hy=>?_) _ (e1.trans e2)) fun g4=>?_)))) fun hb2=>by rw[hb]at hb2;cases hb2))
  ·have:=(hy.1 hb).2.1;omega
  ·have:=(hy.1 hb).2.2;omega
  ·refine⟨⟨rfl,e1,k+1,by omega,by omega,next ⟨fun _=>⟨Decidable.not_not.1 g2,by omega,by omega⟩,fun e=>by rw[hb]at e;cases e⟩⟩,by dsimp only;omega⟩
  ·have:=(hy.2 hb).2.1;omega
  ·rw[decide_eq_true (show C0 s.2.1=s.2.1.length from(hy.2 hb).2.2)]at g4;cases g4
  ·have g4:C0 s.2.1=s.2.1.length:=by simpa using g4
   refine⟨⟨rfl,e1.trans e2,k+1,by omega,by omega,next ⟨fun e=>(by rw[hb]at e;cases e),fun _=>⟨Decidable.not_not.1 g2,by omega,g4⟩⟩⟩,by dsimp only;omega⟩
 ·refine hk1 ⟨by omega,fun s hs=>?_⟩ _ e1
  obtain⟨j,hj⟩:=List.getElem?_of_mem hs
  exact hok j s (by have:=(List.getElem?_eq_some_iff.1 hj).1;omega) hj
end
def Fo:List Fd->B8->Nat->Option (Vl×Nat)
 | [],_,_=>none
 | d::r,key,i=>if d.key=key then some (d.val,i)else Fo r key (i+1)
theorem M0 {f:List Fd} {key:B8} {k:Nat} {d:Fd} (h:f[k]? =some d):Fo (f.drop k) key k=if d.key=key then some (d.val,k)else Fo (f.drop (k+1)) key (k+1):=by
 rw[Db h,Fo]
theorem Gk:∀{f:List Fd} {key:B8} {i k:Nat} {v:Vl},Fo f key i=some (v,k)->∃j d,k=i+j/\f[j]? =some d/\d.key=key/\d.val=v/\∀(j':Nat) d',j'<j->f[j']? =some d'->d'.key≠key
 | [],key,i,k,v,h=>by cases h
 | d::r,key,i,k,v,h=>by
  rw[Fo]at h
  by_cases hd:d.key=key
  ·rw[if_pos hd]at h
   simp only[Option.some.injEq,Prod.mk.injEq]at h
   exact⟨0,d,h.2.symm,rfl,hd,h.1,fun j' d' hj=>by omega⟩
  ·rw[if_neg hd]at h
   obtain⟨j,d',h1,h2,h3,h4,h5⟩:=Gk h
   refine⟨j+1,d',by omega,by simpa using h2,h3,h4,fun j' x hj hx=>?_⟩
   cases j' with
   | zero=>simp only[List.getElem?_cons_zero,Option.some.injEq]at hx;subst hx;exact hd
   | succ j'=>exact h5 j' x (by omega) (by simpa using hx)
def Br (w:Vl) (s:AU):Except Int (Vl×Int):=
 if s.1=true then(if w.sc.kind=6 then(match w.list[s.2.2.toNat]? with | some x=> .ok (x,s.2.2) | none=> .error 7)else .error 6)
 else(if w.sc.kind=7 then(match Fo w.flds s.2.1 0 with | some (x,k)=> .ok (x,(k:Int)) | none=> .error 7)else .error 6)
def Cu:Vl->List AU->List Int->Except Int (Vl×List Int)
 | w,[],acc=> .ok (w,acc)
 | w,s::r,acc=>match Br w s with | .error e=> .error e | .ok (x,k)=>Cu x r (acc++[k])
theorem HN {w:Vl} {s:AU} {e:Int} (h:Br w s= .error e):e≠0:=by
 unfold Br at h
 split at h
 ·split at h
  ·split at h<;>cases h
   decide
  ·cases h;decide
 ·split at h
  ·split at h<;>cases h
   decide
  ·cases h;decide
section
variable {st:St}
theorem S0 {w:Vl} {cs:List TV} {s:AU} (h:VlR St.zero w cs) (hN:w.sz<=2000000) (hs:DH s) {K:Int->Int->St->Prop}
  (hk1:∀e,Br w s= .error e->K 0 e st) (hk2:∀x i,Br w s= .ok (x,i)->K i 0 st):
  CallT PR CF [.agg cs,.agg [.bool s.1,.str s.2.1,.int .i64 s.2.2]] [.one (.int .i64),.one (.int .i64)] st K:=by
 obtain⟨sc,l,f⟩:=w
 obtain⟨ub,ul,uf,xl,xf,rfl,h1,h2,h3,h4,h5⟩:=h.cells
 have hsz:=szs sc l f
 have hll:=Cw l
 have hfl:=BS f
 refine Hd _ _ _ _ _ _ _ _ _ _ _ _ _ s.1 s.2.1 s.2.2 st K (Aw (fun hb=>?_) fun hb=>?_)
 ·obtain⟨p1,p2,p3⟩:=hs.1 hb
  refine Ab (fun g=>hk1 6 ?_) fun g=>Ab (fun g1=>by omega) fun _=>Aa h2.isSl ?_
  ·unfold Br
   rw[if_pos hb,if_neg (show ¬(Vl.mk sc l f).sc.kind=6 from g)]
  ·have g:(Vl.mk sc l f).sc.kind=6:=Decidable.not_not.1 g
   rw[h2.lenS]
   refine Ab (fun g1=>hk1 7 ?_) fun g1=>?_
   ·unfold Br
    rw[if_pos hb,if_pos g,show(Vl.mk sc l f).list[s.2.2.toNat]? =none from List.getElem?_eq_none (by show l.length<=_;omega)]
   ·obtain⟨x,hx⟩:∃x,l[s.2.2.toNat]? =some x:=⟨_,List.getElem?_eq_getElem (by omega)⟩
    refine hk2 x s.2.2 ?_
    unfold Br
    rw[if_pos hb,if_pos g,show(Vl.mk sc l f).list[s.2.2.toNat]? =_ from hx]
 ·refine Ab (fun g=>hk1 6 ?_) fun g=>?_
  ·unfold Br
   rw[if_neg (by rw[hb];decide),if_neg (show ¬(Vl.mk sc l f).sc.kind=7 from g)]
  have g:(Vl.mk sc l f).sc.kind=7:=Decidable.not_not.1 g
  have hdn:Br (.mk sc l f) s=match Fo f s.2.1 0 with | some (x,k)=> .ok (x,(k:Int)) | none=> .error 7:=by
   unfold Br
   rw[if_neg (by rw[hb];decide),if_pos g];rfl
  refine⟨fun i n1 b1 b2 s1 n2 n3 n4 n5 n6 s2 v1 v2 v3 b5 s5 n7 st'=>uf=v3/\s.2.1=s5/\st=st'/\∃k:Nat,i=k/\k<=f.length/\Fo f s.2.1 0=Fo (f.drop k) s.2.1 k,
   fun i _ _ _ _ _ _ _ _ _ _ _ _ _ _ _ _ _=>(f.length-i).toNat,⟨rfl,rfl,rfl,0,rfl,Nat.zero_le _,rfl⟩,?_⟩
  rintro _ n1 b1 b2 s1 n2 n3 n4 n5 n6 s2 v1 v2 _ b5 _ n7 _ ⟨rfl,rfl,rfl,k,rfl,hkl,hE⟩
  refine Aa h4.isSl ?_
  rw[h4.lenS]
  refine Ab (fun g1=>?_) fun g1=>?_
  ·have gd:f[k]? =some f[k]:=List.getElem?_eq_getElem (by omega)
   generalize f[k]=dd at gd
   rw[M0 gd]at hE
   refine key14 (B9 _) h4 h5 rfl gd (Ab (fun g2=>?_) fun g2=>?_)
   ·rw[if_pos g2]at hE
    exact hk2 dd.val k (by rw[hdn,hE])
   ·rw[if_neg g2]at hE
    rw[Ah _ (by omega) (by omega)]
    exact⟨⟨rfl,rfl,rfl,k+1,by omega,by omega,hE⟩,by dsimp only;omega⟩
  ·have:k=f.length:=by omega
   subst this
   rw[List.drop_length]at hE
   exact hk1 7 (by rw[hdn,hE,Fo])
theorem SZ {w:Vl} {cs:List TV} {s:AU} {x:Vl} {i:Int} (h:VlR St.zero w cs) (hN:w.sz<=2000000) (hs:DH s) (hd:Br w s= .ok (x,i))
  {K:Int->Bool->Bool->B8->Int->Int->Int->Int->Int->B8->TV->TV->TV->St->Prop}
  (hk:∀ub ul uf,VlR St.zero x (AJ x.sc ub ul uf)->K x.sc.kind x.sc.b x.sc.neg x.sc.dg x.sc.ex x.sc.tk x.sc.td x.sc.tn x.sc.tz x.sc.text ub ul uf st):
  CallT PR CE [.agg cs,.int .i64 i] [.agg SG13] st K:=by
 obtain⟨sc,l,f⟩:=w
 obtain⟨ub,ul,uf,xl,xf,rfl,h1,h2,h3,h4,h5⟩:=h.cells
 have hsz:=szs sc l f
 have hll:=Cw l
 have hfl:=BS f
 refine Hc _ _ _ _ _ _ _ _ _ _ _ _ _ i st K (Ab (fun g=>?_) fun g=>?_)
 ·have g:(Vl.mk sc l f).sc.kind=6:=g
  unfold Br at hd
  by_cases hb:s.1=true
  ·rw[if_pos hb,if_pos g]at hd
   split at hd
   ·rename_i y hy
    simp only[Except.ok.injEq,Prod.mk.injEq]at hd
    obtain⟨rfl,rfl⟩:=hd
    obtain⟨p1,p2,p3⟩:=hs.1 hb
    have hy:l[s.2.2.toNat]? =some y:=hy
    have hlt:=(List.getElem?_eq_some_iff.1 hy).1
    refine Oc (k:=s.2.2.toNat) (B9 _) h2 h3 (by omega) hlt fun s' l' f' ub1 ul1 uf1 gx hx on1=>Aa on1 ?_
    rw[hy]at gx
    cases gx
    exact hk ub1 ul1 uf1 hx
   ·cases hd
  ·rw[if_neg hb,if_neg (by omega)]at hd;cases hd
 ·have g:¬(Vl.mk sc l f).sc.kind=6:=g
  unfold Br at hd
  by_cases hb:s.1=true
  ·rw[if_pos hb,if_neg g]at hd;cases hd
  ·rw[if_neg hb]at hd
   by_cases g7:(Vl.mk sc l f).sc.kind=7
   ·rw[if_pos g7]at hd
    split at hd
    ·rename_i y k hy
     simp only[Except.ok.injEq,Prod.mk.injEq]at hd
     obtain⟨rfl,rfl⟩:=hd
     obtain⟨j,d,hkj,hj,_,hv,_⟩:=Gk hy
     have hkj:k=j:=by omega
     subst hkj
     have hj:f[k]? =some d:=hj
     have hlt:=(List.getElem?_eq_some_iff.1 hj).1
     refine Rc (B9 _) h4 h5 rfl hlt fun key s' l' f' ub1 ul1 uf1 gw hw on1=>Aa on1 ?_
     rw[hj]at gw
     cases gw
     subst hv
     exact hk ub1 ul1 uf1 hw
    ·cases hd
   ·rw[if_neg g7]at hd;cases hd
theorem LL {w x:Vl} {s:AU} {i:Int} (h:Br w s= .ok (x,i)):x.sz<=w.sz:=by
 obtain⟨sc,l,f⟩:=w
 have hsz:=szs sc l f
 unfold Br at h
 split at h
 ·split at h
  ·split at h
   ·rename_i y hy
    simp only[Except.ok.injEq,Prod.mk.injEq]at h
    obtain⟨rfl,_⟩:=h
    have:=IK (List.mem_of_getElem? hy)
    have this:y.sz<=BV l:=this
    omega
   ·cases h
  ·cases h
 ·split at h
  ·split at h
   ·rename_i y k hy
    simp only[Except.ok.injEq,Prod.mk.injEq]at h
    obtain⟨rfl,_⟩:=h
    obtain⟨j,d,_,hj,_,hv,_⟩:=Gk hy
    have:=Hu (List.mem_of_getElem? hj)
    have this:d.sz<=BW f:=this
    obtain⟨k',v'⟩:=d
    have:=szd k' v'
    subst hv
    show v'.sz<=_
    omega
   ·cases h
  ·cases h
theorem Rg {w:Vl} {cs:List TV} {p:TV} {ss:List AU} (hp:CY p ss) (hok:FJ ss) (h:VlR St.zero w cs) (hN:w.sz<=2000000)
  {K:Int->Bool->Bool->B8->Int->Int->Int->Int->Int->B8->TV->TV->TV->Int->St->Prop}
  (hk1:∀e st',Cu w ss []= .error e->e≠0->Am st st'->K 0 false false [] 0 0 0 0 0 [] .nilSlice .nilSlice .nilSlice e st')
  (hk2:∀k1 b1 b2 s1 k2 k3 k4 k5 k6 s2 u1 u2 u3 st' x ks,Cu w ss []= .ok (x,ks)->VlR St.zero x [.int .i64 k1,.bool b1,.bool b2,.str s1,.int .i64 k2,.int .i64 k3,.int .i64 k4,.int .i64 k5,.int .i64 k6,.str s2,u1,u2,u3]->List.all [.int .i64 k1,.bool b1,.bool b2,.str s1,.int .i64 k2,.int .i64 k3,.int .i64 k4,.int .i64 k5,.int .i64 k6,.str s2,u1,u2,u3] Au=true->Am st st'->K k1 b1 b2 s1 k2 k3 k4 k5 k6 s2 u1 u2 u3 0 st'):
  CallT PR BZ [.agg cs,p] [.agg SG13,.one (.int .i64)] st K:=by
 have h0:=h
 obtain⟨sc,l,f⟩:=w
 obtain⟨ub,ul,uf,xl,xf,rfl,_⟩:=h.cells
 refine HU _ _ _ _ _ _ _ _ _ _ _ _ _ p st K (SW hp (fun _ st1 e1=>Aw (fun h=>by cases h) fun _=>?_) fun hn=>absurd hok hn)
 refine⟨fun i u n1 b1 b2 s1 n2 n3 n4 n5 n6 s2 v1 v2 v3 m1 c1 c2 t1 m2 m3 m4 m5 m6 t2 w1 w2 w3 st'=>p=u/\(0=m1/\false=c1/\false=c2/\[]=t1/\0=m2/\0=m3/\0=m4/\0=m5/\0=m6/\[]=t2/\.nilSlice=w1/\.nilSlice=w2/\.nilSlice=w3)/\Am st st'/\∃(k:Nat) (w:Vl) (ks:List Int),i=k/\k<=ss.length/\Cu (.mk sc l f) ss []=Cu w (ss.drop k) ks/\w.sz<=2000000/\VlR St.zero w [.int .i64 n1,.bool b1,.bool b2,.str s1,.int .i64 n2,.int .i64 n3,.int .i64 n4,.int .i64 n5,.int .i64 n6,.str s2,v1,v2,v3],
  fun i _ _ _ _ _ _ _ _ _ _ _ _ _ _ _ _ _ _ _ _ _ _ _ _ _ _ _ _=>(ss.length-i).toNat,⟨rfl,⟨rfl,rfl,rfl,rfl,rfl,rfl,rfl,rfl,rfl,rfl,rfl,rfl,rfl⟩,e1,0,.mk sc l f,[],rfl,Nat.zero_le _,rfl,hN,h0⟩,?_⟩
 rintro _ _ n1 b1 b2 s1 n2 n3 n4 n5 n6 s2 v1 v2 v3 _ _ _ _ _ _ _ _ _ _ _ _ _ st2 ⟨rfl,⟨rfl,rfl,rfl,rfl,rfl,rfl,rfl,rfl,rfl,rfl,rfl,rfl,rfl⟩,e2,k,w,ks,rfl,hkl,hE,hz,hw⟩
 refine Aa (Rd.isSl hp) ?_
 rw[Rd.lenS hp]
 refine Ab (fun g=>?_) fun g=>?_
 ·obtain⟨s,hs⟩:∃s,ss[k]? =some s:=⟨_,List.getElem?_eq_getElem (by omega)⟩
  have hso:=hok.2 s (List.mem_of_getElem? hs)
  have hdr:ss.drop k=s::ss.drop (k+1):=Db hs
  refine el3 hp rfl hs (S0 hw hz hso (fun e he=>Ab (fun _=>?_) fun g=>absurd (Decidable.not_not.1 g) (HN he)) fun x i hd=>Ab (fun g=>absurd rfl g) fun _=>?_)
  ·refine hk1 e st2 ?_ (HN he) e2
   rw[hE,hdr,Cu,he]
  ·refine SZ hw hz hso hd fun ub1 ul1 uf1 hx=>Aa ?_ ?_
   ·obtain⟨sx,lx,fx⟩:=x
    obtain⟨_,_,_,_,_,hc,w1,w2,_,w4,_⟩:=hx.cells
    cases hc
    exact Dn w1.zero.one w2.zero.one w4.zero.one
   ·have h48:=hok.1
    rw[Ah _ (by omega) (by omega)]
    refine⟨⟨rfl,⟨rfl,rfl,rfl,rfl,rfl,rfl,rfl,rfl,rfl,rfl,rfl,rfl,rfl⟩,e2,k+1,x,ks++[i],by omega,by omega,?_,by have:=LL hd;omega,hx⟩,by dsimp only;omega⟩
    rw[hE,hdr,Cu,hd]
 ·have hkk:k=ss.length:=by omega
  rw[hkk,List.drop_length,Cu]at hE
  have on:List.all [.int .i64 n1,.bool b1,.bool b2,.str s1,.int .i64 n2,.int .i64 n3,.int .i64 n4,.int .i64 n5,.int .i64 n6,.str s2,v1,v2,v3] Au=true:=by
   obtain⟨sw,lw,fw⟩:=w
   obtain⟨_,_,_,_,_,hc,w1,w2,_,w4,_⟩:=hw.cells
   cases hc
   exact Dn w1.zero.one w2.zero.one w4.zero.one
  exact Aa on (hk2 _ _ _ _ _ _ _ _ _ _ _ _ _ st2 w ks hE hw on e2)
end
end
end Go.TVF
section
namespace Go.TVF
open Go.IntKind(i64 u8)
mutual
inductive Tb where
 | mk (b m:Nat) (hd:Bool) (es:List Kn)
inductive Kn where
 | mk (k:B8) (eb:Nat) (e:En)
inductive En where
 | opn (t:Tb)
 | lst (l:List Tb)
 | clo (v:Vl) (i:Nat)
end
def Tb.b:Tb->Nat | .mk b _ _ _=>b
def Tb.m:Tb->Nat | .mk _ m _ _=>m
def Tb.hd:Tb->Bool | .mk _ _ h _=>h
def Tb.es:Tb->List Kn | .mk _ _ _ es=>es
def Kn.key:Kn->B8 | .mk k _ _=>k
def Kn.eb:Kn->Nat | .mk _ e _=>e
def Kn.en:Kn->En | .mk _ _ e=>e
def scM:Sc:=⟨7,false,false,[],0,0,0,0,0,[],[]⟩
def scL:Sc:=⟨6,false,false,[],0,0,0,0,0,[],[]⟩
mutual
def Ag:Tb->Vl
 | .mk _ _ _ es=> .mk scM [] (AM es)
def AM:List Kn->List Fd
 | []=>[]
 | .mk k _ e::r=> .mk k (AP e)::AM r
def AP:En->Vl
 | .opn t=>Ag t
 | .lst l=> .mk scL (Bn l) []
 | .clo v _=>v
def Bn:List Tb->List Vl
 | []=>[]
 | t::r=>Ag t::Bn r
end
theorem JB:∀a b:List Kn,AM (a++b)=AM a++AM b
 | [],b=>by simp[AM]
 | .mk k e x::r,b=>by simp only[List.cons_append,AM,JB r b]
theorem Ch:∀l:List Tb,Bn l=l.map Ag
 | []=>rfl
 | t::r=>by rw[Bn,List.map_cons,Ch r]
theorem HD:∀l:List Kn,AM l=l.map fun d=>Fd.mk d.key (AP d.en)
 | []=>rfl
 | .mk k e x::r=>by rw[AM,List.map_cons,HD r];rfl
def Ak (k:B8):List Kn->Option (Nat×En)
 | []=>none
 | .mk k' eb e::r=>if k=k' then some (eb,e)else Ak k r
def BY (k:B8) (x:En):List Kn->List Kn
 | []=>[]
 | .mk k' eb e::r=>if k=k' then .mk k' eb x::r else .mk k' eb e::BY k x r
theorem Gj {k:B8}:∀{es:List Kn} {eb:Nat} {e:En},Ak k es=some (eb,e)->Kn.mk k eb e∈es
 | .mk k' eb' e'::r,eb,e,h=>by
  unfold Ak at h
  split at h
  ·rename_i hk;cases h;subst hk;exact .head _
  ·exact .tail _ (Gj h)
theorem Ix {k:B8}:∀{es:List Kn},Ak k es=none->∀d,d∈es->d.key≠k
 | [],h,d,hd=>by cases hd
 | .mk k' eb' e'::r,h,d,hd=>by
  unfold Ak at h
  split at h
  ·cases h
  ·rename_i hk
   rcases List.mem_cons.1 hd with rfl | hd
   ·exact fun h=>hk h.symm
   ·exact Ix h d hd
theorem ML {k:B8} {x:En}:∀es:List Kn,(BY k x es).map Kn.key=es.map Kn.key
 | []=>rfl
 | .mk k' eb e::r=>by
  unfold BY
  split
  ·rfl
  ·rw[List.map_cons,List.map_cons,ML r]
theorem Gh {k:B8} {x:En}:∀{es:List Kn} {eb:Nat} {e:En},Ak k es=some (eb,e)->Ak k (BY k x es)=some (eb,x)
 | .mk k' eb' e'::r,eb,e,h=>by
  unfold Ak at h
  unfold BY
  split at h
  ·rename_i hk;cases h;subst hk;rw[if_pos rfl];simp[Ak]
  ·rename_i hk;rw[if_neg hk,Ak,if_neg hk];exact Gh h
theorem Kg {k k2:B8} {x:En} (hne:k2≠k):∀{es:List Kn},Ak k2 (BY k x es)=Ak k2 es
 | []=>rfl
 | .mk k' eb' e'::r=>by
  unfold BY
  split
  ·rename_i hk;subst hk;unfold Ak;rw[if_neg hne,if_neg hne]
  ·unfold Ak;split
   ·rfl
   ·exact Kg hne
theorem Pf {k k2:B8} {eb:Nat} {x:En}:∀{es:List Kn},Ak k2 (es++[.mk k eb x])=match Ak k2 es with | some p=>some p | none=>if k2=k then some (eb,x)else none
 | []=>by simp[Ak]
 | .mk k' eb' e'::r=>by
  rw[List.cons_append,Ak,Ak]
  split
  ·rfl
  ·exact Pf
theorem set_set {k:B8} {x y:En}:∀es:List Kn,BY k y (BY k x es)=BY k y es
 | []=>rfl
 | .mk k' eb e::r=>by
  by_cases hk:k=k'
  ·rw[BY,if_pos hk,BY,BY,if_pos hk,if_pos hk]
  ·rw[BY,if_neg hk,BY,BY,if_neg hk,if_neg hk,set_set r]
abbrev Hop:=B8×Option Nat
def atT:Tb->List Hop->Option Tb
 | t,[]=>some t
 | .mk _ _ _ es,(k,none)::h=>match Ak k es with
  | some (_,.opn u)=>atT u h
  | _=>none
 | .mk _ _ _ es,(k,some i)::h=>match Ak k es with
  | some (_,.lst l)=>match l[i]? with
   | some u=>atT u h
   | none=>none
  | _=>none
def AN:Tb->List Hop->Tb->Tb
 | _,[],x=>x
 | .mk b m hd es,(k,none)::h,x=>match Ak k es with
  | some (_,.opn u)=> .mk b m hd (BY k (.opn (AN u h x)) es)
  | _=> .mk b m hd es
 | .mk b m hd es,(k,some i)::h,x=>match Ak k es with
  | some (_,.lst l)=>match l[i]? with
   | some u=> .mk b m hd (BY k (.lst (l.set i (AN u h x))) es)
   | none=> .mk b m hd es
  | _=> .mk b m hd es
theorem HR:∀(h g:List Hop) (T:Tb),atT T (h++g)=(atT T h).bind fun t=>atT t g
 | [],g,T=>by cases T;rfl
 | (k,none)::h,g,.mk b m hd es=>by
  rw[List.cons_append,atT,atT]
  rcases Ak k es with _ | ⟨eb,u | l | ⟨v,i⟩⟩
  ·rfl
  ·exact HR h g u
  ·rfl
  ·rfl
 | (k,some i)::h,g,.mk b m hd es=>by
  rw[List.cons_append,atT,atT]
  rcases Ak k es with _ | ⟨eb,u | l | ⟨v,i⟩⟩
  ·rfl
  ·rfl
  ·simp only
   cases l[i]? with
   | none=>rfl
   | some u=>exact HR h g u
  ·rfl
theorem Dz:∀(h:List Hop) {T t x:Tb},atT T h=some t->atT (AN T h x) h=some x
 | [],T,t,x,_=>by cases x;rfl
 | (k,none)::h,.mk b m hd es,t,x,hA=>by
  rw[atT]at hA
  rw[AN]
  rcases hl:Ak k es with _ | ⟨eb,u | l | ⟨v,i⟩⟩<;>rw[hl]at hA<;>simp only at hA⊢<;>try (cases hA;done)
  ·rw[atT,Gh hl];exact Dz h hA
 | (k,some i)::h,.mk b m hd es,t,x,hA=>by
  rw[atT]at hA
  rw[AN]
  rcases hl:Ak k es with _ | ⟨eb,u | l | ⟨v,i⟩⟩<;>rw[hl]at hA<;>simp only at hA⊢<;>try (cases hA;done)
  ·cases hi:l[i]? with
   | none=>simp[hi]at hA
   | some u=>
    rw[hi]at hA
    have hlt:=(List.getElem?_eq_some_iff.1 hi).1
    simp only at hA⊢
    rw[atT,Gh hl]
    simp only
    rw[List.getElem?_set_self hlt]
    exact Dz h hA
theorem Fs:∀(h:List Hop) {T t x:Tb},atT T h=some t->x.b=t.b->(AN T h x).b=T.b
 | [],T,t,x,hA,hx=>by cases T;cases hA;exact hx
 | (k,none)::h,.mk b m hd es,t,x,hA,hx=>by
  rw[AN]
  split<;>rfl
 | (k,some i)::h,.mk b m hd es,t,x,hA,hx=>by
  rw[AN]
  split
  ·split<;>rfl
  ·rfl
theorem KD:∀(h g:List Hop) {T t x:Tb},atT T h=some t->AN T (h++g) x=AN T h (AN t g x)
 | [],g,T,t,x,hA=>by cases T;cases hA;rfl
 | (k,none)::h,g,.mk b m hd es,t,x,hA=>by
  rw[atT]at hA
  rw[List.cons_append,AN,AN]
  rcases hl:Ak k es with _ | ⟨eb,u | l | ⟨v,i⟩⟩<;>rw[hl]at hA<;>simp only at hA⊢<;>try (cases hA;done)
  ·rw[KD h g hA]
 | (k,some i)::h,g,.mk b m hd es,t,x,hA=>by
  rw[atT]at hA
  rw[List.cons_append,AN,AN]
  rcases hl:Ak k es with _ | ⟨eb,u | l | ⟨v,i⟩⟩<;>rw[hl]at hA<;>simp only at hA⊢<;>try (cases hA;done)
  ·cases hi:l[i]? with
   | none=>simp[hi]at hA
   | some u=>rw[hi]at hA;simp only at hA⊢;rw[KD h g hA]
theorem JI:∀(h:List Hop) {T t x y:Tb},atT T h=some t->AN (AN T h x) h y=AN T h y
 | [],T,t,x,y,hA=>by cases x;cases T;rfl
 | (k,none)::h,.mk b m hd es,t,x,y,hA=>by
  rw[atT]at hA
  rw[AN,AN]
  rcases hl:Ak k es with _ | ⟨eb,u | l | ⟨v,i⟩⟩<;>rw[hl]at hA<;>simp only at hA⊢<;>try (cases hA;done)
  ·rw[AN,Gh hl];simp only;rw[JI h hA,set_set]
 | (k,some i)::h,.mk b m hd es,t,x,y,hA=>by
  rw[atT]at hA
  rw[AN,AN]
  rcases hl:Ak k es with _ | ⟨eb,u | l | ⟨v,i⟩⟩<;>rw[hl]at hA<;>simp only at hA⊢<;>try (cases hA;done)
  ·cases hi:l[i]? with
   | none=>simp[hi]at hA
   | some u=>
    rw[hi]at hA
    have hlt:=(List.getElem?_eq_some_iff.1 hi).1
    simp only at hA⊢
    rw[AN,Gh hl]
    simp only
    rw[List.getElem?_set_self hlt]
    simp only
    rw[JI h hA,set_set,List.set_set]
end Go.TVF
end
section
namespace Go.TVF
open Go.IntKind(i64 u8)
inductive Stp where
 | key (k:B8)
 | idx (i:Nat)
deriving DecidableEq
def scO:Sc:=⟨0,false,false,[],0,0,0,0,0,[],[]⟩
def vlO:Vl:= .mk scO [] []
def TG (k:B8):List Fd->Option Vl
 | []=>none
 | .mk k' v::r=>if k'=k then some v else TG k r
theorem Pw (k:B8):∀es:List Kn,TG k (AM es)=(Ak k es).map fun p=>AP p.2
 | []=>rfl
 | .mk k' eb e::r=>by
  rw[AM,TG,Ak]
  by_cases h:k'=k
  ·rw[if_pos h,if_pos h.symm];rfl
  ·rw[if_neg h,if_neg fun g=>h g.symm,Pw k r]
def kindE:En->Nat×Nat
 | .clo _ i=>(1,i)
 | .opn t=>(if t.hd=true then 2 else 0,0)
 | .lst _=>(3,0)
def Ht:Tb->List Stp->Nat×Nat
 | .mk _ _ _ es,[.key k]=>match Ak k es with
  | some (_,e)=>kindE e
  | none=>(0,0)
 | .mk _ _ _ es,.key k:: .key k2::p=>match Ak k es with
  | some (_,.opn u)=>Ht u (.key k2::p)
  | _=>(0,0)
 | .mk _ _ _ es,.key k:: .idx i::p=>match Ak k es with
  | some (_,.lst l)=>match l[i]? with
   | some u=>Ht u p
   | none=>(0,0)
  | _=>(0,0)
 | _,_=>(0,0)
theorem Tx (T:Tb):Ht T []=(0,0):=by cases T;rfl
theorem Ty (T:Tb) (i:Nat) (p:List Stp):Ht T (.idx i::p)=(0,0):=by cases T;rfl
end Go.TVF
end
section
namespace Go.TVF
open Go.IntKind(i64 u8)
def infoK:En->List Stp->Nat×Nat
 | e,[]=>kindE e
 | .opn u,.key k::p=>Ht u (.key k::p)
 | .lst l,.idx i::p=>match l[i]? with
  | some u=>Ht u p
  | none=>(0,0)
 | _,_=>(0,0)
theorem Lw (b m:Nat) (hd:Bool) (es:List Kn) (k:B8) (p:List Stp):Ht (.mk b m hd es) (.key k::p)=match Ak k es with | some (_,e)=>infoK e p | none=>(0,0):=by
 match p with
 | []=>
  rw[Ht]
  rcases Ak k es with _ | ⟨eb,u | l | ⟨v,i⟩⟩<;>rfl
 | .key k2::p=>
  rw[Ht]
  rcases Ak k es with _ | ⟨eb,u | l | ⟨v,i⟩⟩<;>rfl
 | .idx i::p=>
  rw[Ht]
  rcases Ak k es with _ | ⟨eb,u | l | ⟨v,j⟩⟩<;>rfl
def Bb (t:Tb) (k:B8) (eb:Nat) (e:En):Tb:= .mk t.b t.m t.hd (t.es++[.mk k eb e])
def CN (t:Tb) (k:B8) (e:En):Tb:= .mk t.b t.m t.hd (BY k e t.es)
theorem Jc {t:Tb} {k k2:B8} {eb:Nat} {e:En} (h:Ak k t.es=none):Ak k2 (Bb t k eb e).es=if k2=k then some (eb,e)else Ak k2 t.es:=by
 show Ak k2 (t.es++[.mk k eb e])=_
 rw[Pf]
 by_cases hk:k2=k
 ·subst hk;simp[h]
 ·rw[if_neg hk,if_neg hk]
  cases Ak k2 t.es<;>rfl
theorem Tk {t:Tb} {k k2:B8} {eb:Nat} {e x:En} (h:Ak k t.es=some (eb,e)):Ak k2 (CN t k x).es=if k2=k then some (eb,x)else Ak k2 t.es:=by
 show Ak k2 (BY k x t.es)=_
 by_cases hk:k2=k
 ·subst hk;rw[if_pos rfl,Gh h]
 ·rw[if_neg hk,Kg hk]
structure Asg where
 tab:Bool
 elem:Bool
 keys:List B8
 val:Vl
structure Nu where
 b:Nat
 m:Nat
 eb:Nat
def AR (nu:Nu) (hd:Bool):Tb:= .mk nu.b nu.m hd []
def EF (nu:Nu) (hd:Bool) (T:Tb) (h:List Hop) (k:B8):Option (Tb×List Hop):=
 match atT T h with
 | none=>none
 | some t=>match Ak k t.es with
  | none=>some (AN T h (Bb t k nu.eb (.opn (AR nu false))),h++[(k,none)])
  | some (_,.opn _)=>some (T,h++[(k,none)])
  | some (_,.lst l)=>if hd=true then some (T,h++[(k,some (l.length-1))])else none
  | some (_,.clo _ _)=>none
def B1 (nu:Nat->Nu) (hd:Bool):Nat->Tb->List Hop->List B8->Option (Tb×List Hop)
 | _,T,h,[]=>some (T,h)
 | j,T,h,k::ks=>match EF (nu j) hd T h k with
  | none=>none
  | some (T',h')=>B1 nu hd (j+1) T' h' ks
def Cp:Tb->Tb | .mk b m _ es=> .mk b m true es
def C8 (nu:Nu) (a:Asg) (i:Nat) (T:Tb) (h cur:List Hop) (k:B8):Except Int (Tb×List Hop):=
 match atT T h with
 | none=> .error 0
 | some t=>
  if a.elem=true then(match Ak k t.es with
   | none=> .ok (AN T h (Bb t k nu.eb (.lst [AR nu false])),h++[(k,some 0)])
   | some (_,.lst l)=> .ok (AN T h (CN t k (.lst (l++[AR nu false]))),h++[(k,some l.length)])
   | some _=> .error 6)
  else if a.tab=true then(match Ak k t.es with
   | none=> .ok (AN T h (Bb t k nu.eb (.opn (AR nu true))),h++[(k,none)])
   | some (_,.opn u)=>if u.hd=true then .error 8 else .ok (AN T h (CN t k (.opn (Cp u))),h++[(k,none)])
   | some _=> .error 8)
  else(match Ak k t.es with
   | none=> .ok (AN T h (Bb t k nu.eb (.clo a.val i)),cur)
   | some _=> .error 8)
deriving instance DecidableEq for Sc
def KM (v:Vl):Bool:=decide (v.sc=scO)&&v.list.isEmpty&&v.flds.isEmpty
def DV (a:Asg):Bool:= !a.keys.isEmpty&&(a.tab || !a.elem)&&(!a.tab || KM a.val)
def DB (nu:Nat->Nu) (i:Nat) (T:Tb) (cur:List Hop) (a:Asg):Except Int (Tb×List Hop):=
 if DV a=false then .error 1
 else match B1 nu a.tab 0 T (if a.tab=true then []else cur) a.keys.dropLast with
  | none=> .error 8
  | some (T',h)=>C8 (nu a.keys.length) a i T' h cur (a.keys.getLastD [])
end Go.TVF
end
section
namespace Go.TVF
open Go.IntKind(i64 u8)
inductive ShE where
 | opn (b:Nat)
 | lst (bs:List Nat)
 | clo (v:Vl) (i:Nat)
structure Sh where
 b:Nat
 m:Nat
 hd:Bool
 d:Nat
 es:List (B8×Nat×ShE)
def shE:En->ShE
 | .opn t=> .opn t.b
 | .lst l=> .lst (l.map Tb.b)
 | .clo v i=> .clo v i
def shK (d:Kn):B8×Nat×ShE:=(d.key,d.eb,shE d.en)
mutual
def shT:Nat->Tb->List Sh
 | d,.mk b m hd es=>⟨b,m,hd,d,es.map shK⟩::BK d es
def BK:Nat->List Kn->List Sh
 | _,[]=>[]
 | d,.mk _ _ e::r=>AV d e++BK d r
def AV:Nat->En->List Sh
 | d,.opn t=>shT (d+1) t
 | d,.lst l=>CU (d+2) l
 | _,.clo _ _=>[]
def CU:Nat->List Tb->List Sh
 | _,[]=>[]
 | d,t::r=>shT d t++CU d r
end
theorem OX (d:Nat):∀a b:List Kn,BK d (a++b)=BK d a++BK d b
 | [],b=>by simp[BK]
 | .mk k eb e::r,b=>by simp only[List.cons_append,BK,OX d r b,List.append_assoc]
theorem Hg (d:Nat):∀a b:List Tb,CU d (a++b)=CU d a++CU d b
 | [],b=>by simp[CU]
 | t::r,b=>by simp only[List.cons_append,CU,Hg d r b,List.append_assoc]
theorem EX (d:Nat) {k:B8}:∀{es:List Kn} {eb:Nat} {e:En},Ak k es=some (eb,e)->∃P Q,BK d es=P++(AV d e++Q)/\∀x,BK d (BY k x es)=P++(AV d x++Q)
 | .mk k' eb' e'::r,eb,e,h=>by
  unfold Ak at h
  by_cases hk:k=k'
  ·rw[if_pos hk]at h
   cases h
   exact⟨[],BK d r,by rw[BK,List.nil_append],fun x=>by rw[BY,if_pos hk,BK,List.nil_append]⟩
  ·rw[if_neg hk]at h
   obtain⟨P,Q,h1,h2⟩:=EX d h
   exact⟨AV d e'++P,Q,by rw[BK,h1,List.append_assoc],fun x=>by rw[BY,if_neg hk,BK,h2 x,List.append_assoc]⟩
theorem NL {k:B8} {x:En}:∀{es:List Kn} {eb:Nat} {e:En},Ak k es=some (eb,e)->shE x=shE e->(BY k x es).map shK=es.map shK
 | .mk k' eb' e'::r,eb,e,h,hx=>by
  unfold Ak at h
  by_cases hk:k=k'
  ·rw[if_pos hk]at h
   cases h
   rw[BY,if_pos hk,List.map_cons,List.map_cons]
   show(k',eb',shE x)::_=(k',eb',shE e')::_
   rw[hx]
  ·rw[if_neg hk]at h
   rw[BY,if_neg hk,List.map_cons,List.map_cons,NL h hx]
theorem OW (d:Nat):∀{l:List Tb} {i:Nat} {u:Tb},l[i]? =some u->∃P Q,CU d l=P++(shT d u++Q)/\∀x,CU d (l.set i x)=P++(shT d x++Q)
 | t::r,0,u,h=>by
  cases h
  exact⟨[],CU d r,by rw[CU,List.nil_append],fun x=>by rw[List.set_cons_zero,CU,List.nil_append]⟩
 | t::r,i+1,u,h=>by
  obtain⟨P,Q,h1,h2⟩:=OW d (l:=r) (i:=i) (u:=u) (by simpa using h)
  exact⟨shT d t++P,Q,by rw[CU,h1,List.append_assoc],fun x=>by rw[List.set_cons_succ,CU,h2 x,List.append_assoc]⟩
def dpH:List Hop->Nat
 | []=>0
 | (_,none)::h=>dpH h+1
 | (_,some _)::h=>dpH h+2
theorem Jn:∀a b:List Hop,dpH (a++b)=dpH a+dpH b
 | [],b=>by simp[dpH]
 | (k,none)::a,b=>by rw[List.cons_append,dpH,dpH,Jn a b];omega
 | (k,some i)::a,b=>by rw[List.cons_append,dpH,dpH,Jn a b];omega
theorem box_set {l:List Tb} {i:Nat} {u x:Tb} (h:l[i]? =some u) (hx:x.b=u.b):(l.set i x).map Tb.b=l.map Tb.b:=by
 rw[List.map_set,hx]
 apply List.ext_getElem?
 intro j
 by_cases hj:i=j
 ·subst hj
  obtain⟨hlt,hu⟩:=List.getElem?_eq_some_iff.1 h
  rw[List.getElem?_set_self (by rw[List.length_map];exact hlt),List.getElem?_map,h];rfl
 ·rw[List.getElem?_set_ne hj]
theorem Hf:∀(h:List Hop) {T t:Tb},atT T h=some t->∀d,∃A B,shT d T=A++(shT (d+dpH h) t++B)/\∀t',t'.b=t.b->shT d (AN T h t')=A++(shT (d+dpH h) t'++B)
 | [],T,t,hA,d=>by
  cases T;cases hA
  exact⟨[],[],by rw[List.nil_append,List.append_nil];rfl,fun t' _=>by rw[List.nil_append,List.append_nil];rfl⟩
 | (k,none)::h,.mk b m hd es,t,hA,d=>by
  rw[atT]at hA
  rcases hl:Ak k es with _ | ⟨eb,u | l | ⟨v,i⟩⟩<;>rw[hl]at hA<;>simp only at hA<;>try (cases hA;done)
  obtain⟨A,B,h1,h2⟩:=Hf h hA (d+1)
  obtain⟨P,Q,h3,h4⟩:=EX d hl
  have e:d+1+dpH h=d+dpH ((k,none)::h):=by rw[dpH];omega
  rw[e]at h1 h2
  refine⟨⟨b,m,hd,d,es.map shK⟩::(P++A),B++Q,?_,fun t' ht=>?_⟩
  ·rw[shT,h3,AV,h1]
   simp only[List.cons_append,List.append_assoc]
  ·rw[AN,hl]
   simp only
   rw[shT,h4,AV,h2 t' ht,NL hl (by show ShE.opn _=ShE.opn _;rw[Fs h hA ht])]
   simp only[List.cons_append,List.append_assoc]
 | (k,some j)::h,.mk b m hd es,t,hA,d=>by
  rw[atT]at hA
  rcases hl:Ak k es with _ | ⟨eb,u | l | ⟨v,i⟩⟩<;>rw[hl]at hA<;>simp only at hA<;>try (cases hA;done)
  cases hj:l[j]? with
  | none=>simp[hj]at hA
  | some u=>
  rw[hj]at hA
  simp only at hA
  obtain⟨A,B,h1,h2⟩:=Hf h hA (d+2)
  obtain⟨P,Q,h3,h4⟩:=EX d hl
  obtain⟨P2,Q2,h5,h6⟩:=OW (d+2) hj
  have e:d+2+dpH h=d+dpH ((k,some j)::h):=by rw[dpH];omega
  rw[e]at h1 h2
  refine⟨⟨b,m,hd,d,es.map shK⟩::(P++(P2++A)),B++(Q2++Q),?_,fun t' ht=>?_⟩
  ·rw[shT,h3,AV,h5,h1]
   simp only[List.cons_append,List.append_assoc]
  ·rw[AN,hl]
   simp only[hj]
   rw[shT,h4,AV,h6,h2 t' ht,NL hl (by show ShE.lst _=ShE.lst _;rw[box_set hj (Fs h hA ht)])]
   simp only[List.cons_append,List.append_assoc]
theorem La (d:Nat) (t:Tb) (k:B8) (eb:Nat) (e:En):shT d (Bb t k eb e)=⟨t.b,t.m,t.hd,d,t.es.map shK++[(k,eb,shE e)]⟩::(BK d t.es++AV d e):=by
 unfold Bb
 rw[shT,List.map_append,OX,BK,BK,List.append_nil]
 rfl
theorem Dm (d:Nat) (t:Tb):shT d t=⟨t.b,t.m,t.hd,d,t.es.map shK⟩::BK d t.es:=by cases t;rfl
def D7 (k:B8):List (B8×Nat×ShE)->Option (Nat×ShE)
 | []=>none
 | (k',p)::r=>if k=k' then some p else D7 k r
theorem Gi (k:B8):∀es:List Kn,D7 k (es.map shK)=(Ak k es).map fun p=>(p.1,shE p.2)
 | []=>rfl
 | .mk k' eb e::r=>by
  rw[List.map_cons,Ak]
  show(if k=k' then some (eb,shE e)else D7 k (r.map shK))=_
  by_cases hk:k=k'
  ·rw[if_pos hk,if_pos hk];rfl
  ·rw[if_neg hk,if_neg hk,Gi k r]
theorem MT {k k2:B8} {p:Nat×ShE}:∀{es:List (B8×Nat×ShE)},D7 k2 (es++[(k,p)])=match D7 k2 es with | some q=>some q | none=>if k2=k then some p else none
 | []=>by simp[D7]
 | (k',q)::r=>by
  rw[List.cons_append,D7,D7]
  split
  ·rfl
  ·exact MT
def bxS (s:Sh):List Nat:=s.b::s.m::s.es.map fun x=>x.2.1
def bxL (L:List Sh):List Nat:=L.flatMap bxS
theorem AG (A B:List Sh):bxL (A++B)=bxL A++bxL B:=by unfold bxL;rw[List.flatMap_append]
theorem A1 (s:Sh) (L:List Sh):bxL (s::L)=bxS s++bxL L:=by unfold bxL;rw[List.flatMap_cons]
theorem Bl {x:Nat} {s:Sh} {L:List Sh} (hs:s∈L) (hx:x∈bxS s):x∈bxL L:=List.mem_flatMap.2 ⟨s,hs,hx⟩
end Go.TVF
end
namespace Go.TVF
open Go.IntKind(i64 u8)
open Go Go.Proofs
def Be:TV->Option Nat
 | .list _ (.own id) _ _=>some id
 | _=>none
def CP (v:TV) (xs:List TV):Prop:=(v= .nilSlice/\xs=[])∨∃tip,v= .list 1 tip xs.length xs/\(tip= .full∨∃id,tip= .own id)
theorem CP.nil:CP .nilSlice []:= .inl ⟨rfl,rfl⟩
theorem CP.sl {v:TV} {xs:List TV} (h:CP v xs):isSl v=true:=by
 rcases h with⟨rfl,_⟩ | ⟨tip,rfl,_⟩<;>rfl
theorem CP.len {v:TV} {xs:List TV} (h:CP v xs):lenS v=xs.length:=by
 rcases h with⟨rfl,rfl⟩ | ⟨tip,rfl,_⟩<;>rfl
theorem CP.lenZ {v:TV} {xs:List TV} (h:CP v xs):lenZ 1 v=xs.length:=by
 rcases h with⟨rfl,rfl⟩ | ⟨tip,rfl,_⟩<;>rfl
theorem LY {T bytes:Nat} {st:St} {v y:TV} {xs:List TV} {K:TV->St->Prop} (h:CP v xs) (ht:∀id,Be v=some id->id<st.nt/\st.live id=true) (hby:(xs.length+1)*bytes<=140737488355328)
  (hK:∀v' st',CP v' (xs++[y])->Be v'=some st.nt->st'.box=st.box->st'.nb=st.nb->st'.bt=st.bt->st'.nt=st.nt+1->st'.live st.nt=true->(∀i,i<st.nt->Be v≠some i->st'.live i=st.live i)->K v' st'):
  CV T 1 bytes v 1 [y] st K:=by
 rcases h with⟨rfl,rfl⟩ | ⟨tip,rfl,rfl | ⟨id,rfl⟩⟩
 ·simp only[CV]
  refine Aa (by rw[Nat.ble_eq];simpa using hby) (hK _ _ (.inr ⟨.own st.nt,rfl,.inr ⟨_,rfl⟩⟩) rfl rfl rfl rfl rfl (by simp[St.fresh]) fun i hi _=>?_)
  simp only[St.fresh];rw[if_neg (by omega)]
 ·simp only[CV,Nat.beq_refl]
  refine⟨hby,hK _ _ (.inr ⟨.own st.nt,by simp,.inr ⟨_,rfl⟩⟩) rfl rfl rfl rfl rfl (by simp[St.fresh]) fun i hi _=>?_⟩
  simp only[St.fresh];rw[if_neg (by omega)]
 ·obtain⟨h1,h2⟩:=ht id rfl
  simp only[CV,Nat.beq_refl]
  refine⟨hby,h2,hK _ _ (.inr ⟨.own st.nt,by simp,.inr ⟨_,rfl⟩⟩) rfl rfl rfl rfl rfl (by simp[St.fresh,St.retire]) fun i hi hne=>?_⟩
  have h3:i≠id:=fun e=>hne (by rw[e];rfl)
  have h4:i≠st.nt:=by omega
  simp[St.fresh,St.retire,h3,h4]
theorem NF {t m e d:Nat} {kv:TV} {ks:List B8} {key:B8} {es:List (B8×TV)} {st:St} {K:St->Prop} (hb:st.box t= .cells [kv,.map m,.int .i64 d]) (hm:st.box m= .map es)
  (hr:CP kv (ks.map TV.str)) (ht:∀id,Be kv=some id->id<st.nt/\st.live id=true) (hl:ks.length<=1000000)
  (hk:∀kv' st',CP kv' ((ks++[key]).map TV.str)->Be kv'=some st.nt->st'.box=(fun x=>if x=m then .map (FI key (.box e 0) es)else if x=t then .cells [kv',.map m,.int .i64 d]else st.box x)->st'.nb=st.nb->st'.bt=st.bt->st'.nt=st.nt+1->
   st'.live st.nt=true->(∀i,i<st.nt->Be kv≠some i->st'.live i=st.live i)->K st'):
  CallT PR AO [.box t 0,.str key,.box e 0] [] st K:=by
 have hmt:m≠t:=fun h=>by rw[h,hb]at hm;cases hm
 refine Ha t key e st K (Ad (x:=kv) (by simp only[Ac,hb];rfl) (LY hr ht (by rw[List.length_map];omega) fun v' st1 h1 h2 h3 h4 h5 h6 h7 h8=>?_))
 have h1':Au v'=true:=by
  rcases h1 with⟨_,hx⟩ | ⟨tip,h9,_⟩
  ·simp at hx
  ·rw[h9];rfl
 refine Aa (by simp[h1']) ?_
 have hb1:st1.box t= .cells [kv,.map m,.int .i64 d]:=by rw[h3];exact hb
 refine⟨_,hb1,by simp,?_⟩
 refine Ad (x:= .map m) (by simp[Ac,St.put,setAll]) ?_
 refine⟨es,by simp only[St.put];rw[if_neg hmt,h3];exact hm,?_⟩
 refine hk v' _ (by rw[List.map_append];exact h1) h2 ?_ h4 h5 h6 h7 h8
 funext x
 simp only[St.put,h3,setAll]
 rfl
theorem allC {st:St} {up:List (Nat×TV)} (h:∀p,p∈up->Ap st p.1=true):(up.all fun p=>Ap st p.1)=true:=List.all_eq_true.2 h
theorem JQ {st:St} {ub k:Nat} {up:List (Nat×TV)} (hu:st.box ub= .pmap up) (h:∀p,p∈up->Ap st p.1=true) (hk:Ap st k=true):Lj st (.map ub) (.box k 0)=some (up,k):=by
 simp only[Lj,Lh,hu,pkey,Nat.beq_refl,hk,allC h]
 rfl
theorem HQ {bb ub d:Nat} {r n:TV} {nodes:Int} {up:List (Nat×TV)} {st:St} {K:TV->St->Prop} (hb:st.box bb= .cells [r,n,.map ub,.int .i64 nodes]) (hu:st.box ub= .pmap up) (hbb:bb<st.nb) (hub:ub<st.nb)
  (hc:∀p,p∈up->Ap st p.1=true/\p.1<st.nb) (hn:0<=nodes/\nodes<1000000000)
  (hk:∀st',st'.nb=st.nb+2->st'.box=(fun x=>if x=bb then .cells [r,n,.map ub,.int .i64 (nodes+1)]else if x=ub then .pmap (Ey (st.nb+1) (.bool true) up)else if x=st.nb+1 then .cells [.nilSlice,.map st.nb,.int .i64 d]else if x=st.nb then .map []else st.box x)->
   st'.nt=st.nt->st'.live=st.live->K (.box (st.nb+1) 0) st'):
  CallT PR Ay [.box bb 0,.int .i64 d] [.one .tv] st K:=by
 have hbu:ub≠bb:=fun h=>by rw[h,hb]at hu;cases hu
 have e1:bb≠st.nb:=by omega
 have e2:bb≠st.nb+1:=by omega
 have e3:ub≠st.nb:=by omega
 have e4:ub≠st.nb+1:=by omega
 refine FF bb d st K (Aa rfl (Ad (x:= .map ub) (by simp[Ac,St.push,e1,e2,hb]) ?_))
 have hg:Lj ((st.push (.map []) none).push (.cells [.nilSlice,.map st.nb,.int .i64 d]) (some 89)) (.map ub) (.box (st.nb+1) 0)=some (up,st.nb+1):=by
  refine JQ (by simp[St.push,e3,e4,hu]) (fun p hp=>?_) (by simp[Ap,St.push])
  obtain⟨h1,h2⟩:=hc p hp
  have h3:p.1≠st.nb:=by omega
  have h4:p.1≠st.nb+1:=by omega
  simp only[Ap]at h1
  simp[Ap,St.push,h3,h4,h1]
 refine Ad hg ?_
 refine Ad (x:= .int .i64 nodes) (by simp[Ac,St.push,St.put,Hq,Ne.symm hbu,e1,e2,hb]) (Bh ?_)
 refine⟨[r,n,.map ub,.int .i64 nodes],by simp[St.push,St.put,Hq,Ne.symm hbu,e1,e2,hb],by simp,?_⟩
 rw[Ah _ (by omega) (by omega)]
 refine hk _ rfl ?_ rfl rfl
 funext x
 simp only[St.push,St.put,Hq,setAll]
 rfl
def z13:List TV:=AJ scO .nilSlice .nilSlice .nilSlice
def KB (σ:Nat->TV) (st:St) (eb:Nat):ShE->Prop
 | .opn b=>st.box eb= .cells (.box b 0:: .nilSlice::(z13++[.int .i64 0]))/\Be (σ eb)=none
 | .lst bs=>CP (σ eb) (bs.map fun b=> .box b 0)/\bs≠ []/\st.box eb= .cells (.nilPtr::σ eb::(z13++[.int .i64 0]))
 | .clo v i=>∃cs,VlR St.zero v cs/\cs.length=13/\st.box eb= .cells (.nilPtr:: .nilSlice::(cs++[.int .i64 i]))/\Be (σ eb)=none
structure L4 (σ:Nat->TV) (st:St) (s:Sh):Prop where
 cell:st.box s.b= .cells [σ s.b,.map s.m,.int .i64 s.d]
 row:CP (σ s.b) ((s.es.map fun x=>x.1).map TV.str)
 mp:∃mp,st.box s.m= .map mp/\∀k,Av k mp=(D7 k s.es).map fun p=> .box p.1 0
 en:∀x,x∈s.es->KB σ st x.2.1 x.2.2
structure HP (σ:Nat->TV) (st:St) (L:List Sh):Prop where
 nd:(bxL L).Nodup
 lt:∀x,x∈bxL L->x<st.nb
 sh:∀s,s∈L->L4 σ st s
 tip:∀x,x∈bxL L->∀id,Be (σ x)=some id->id<st.nt/\st.live id=true
 td:∀x,x∈bxL L->∀y,y∈bxL L->x≠y->∀id,Be (σ x)=some id->Be (σ y)≠some id
theorem KB.fr {σ σ':Nat->TV} {st st':St} {eb:Nat} {e:ShE} (h:KB σ st eb e) (hb:st'.box eb=st.box eb) (hs:σ' eb=σ eb):KB σ' st' eb e:=by
 cases e with
 | opn b=>unfold KB at h⊢;rw[hb,hs];exact h
 | lst bs=>unfold KB at h⊢;rw[hb,hs];exact h
 | clo v i=>unfold KB at h⊢;rw[hb,hs];exact h
theorem EC {s:Sh} {x:B8×Nat×ShE} (h:x∈s.es):x.2.1∈bxS s:= .tail _ (.tail _ (List.mem_map.2 ⟨x,h,rfl⟩))
theorem L4.fr {σ σ':Nat->TV} {st st':St} {s:Sh} (h:L4 σ st s) (hb:∀x,x∈bxS s->st'.box x=st.box x/\σ' x=σ x):L4 σ' st' s:=by
 have h1:=hb s.b (.head _)
 have h2:=hb s.m (.tail _ (.head _))
 exact⟨by rw[h1.1,h1.2];exact h.cell,by rw[h1.2];exact h.row,by rw[h2.1];exact h.mp,fun x hx=>(h.en x hx).fr (hb _ (EC hx)).1 (hb _ (EC hx)).2⟩
theorem Jb {A X B:List Sh} (h:(bxL (A++(X++B))).Nodup):(bxL A++bxL B).Nodup/\(bxL X).Nodup/\∀x,x∈bxL X->x∉bxL A/\x∉bxL B:=by
 rw[AG,AG]at h
 obtain⟨h1,h2,h3⟩:=List.nodup_append.1 h
 obtain⟨h4,h5,h6⟩:=List.nodup_append.1 h2
 exact⟨List.nodup_append.2 ⟨h1,h5,fun a ha b hb=>h3 a ha b (List.mem_append_right _ hb)⟩,h4,fun x hx=>⟨fun ha=>h3 x ha x (List.mem_append_left _ hx) rfl,fun hb=>h6 x hx x hb rfl⟩⟩
theorem HP.upd {σ σ':Nat->TV} {st st':St} {A X X' B:List Sh} (h:HP σ st (A++(X++B))) (hnb:st.nb<=st'.nb)
  (hbx:∀x,x∈bxL A∨x∈bxL B->st'.box x=st.box x/\σ' x=σ x)
  (hlv:∀x,x∈bxL A∨x∈bxL B->∀id,Be (σ x)=some id->id<st'.nt/\st'.live id=true)
  (hX:∀s,s∈X'->L4 σ' st' s) (hnd:(bxL X').Nodup) (hnew:∀x,x∈bxL X'->x<st'.nb/\(x∈bxL X∨st.nb<=x))
  (htip:∀x,x∈bxL X'->∀id,Be (σ' x)=some id->id<st'.nt/\st'.live id=true/\((∃y,y∈bxL X/\Be (σ y)=some id)∨st.nt<=id))
  (htd:∀x,x∈bxL X'->∀y,y∈bxL X'->x≠y->∀id,Be (σ' x)=some id->Be (σ' y)≠some id):HP σ' st' (A++(X'++B)):=by
 obtain⟨n1,n2,n3⟩:=Jb h.nd
 have mA:∀{x},x∈bxL A->x∈bxL (A++(X++B)):=fun hx=>by rw[AG];exact List.mem_append_left _ hx
 have mB:∀{x},x∈bxL B->x∈bxL (A++(X++B)):=fun hx=>by rw[AG,AG];exact List.mem_append_right _ (List.mem_append_right _ hx)
 have mX:∀{x},x∈bxL X->x∈bxL (A++(X++B)):=fun hx=>by rw[AG,AG];exact List.mem_append_right _ (List.mem_append_left _ hx)
 have mAB:∀{x},x∈bxL A∨x∈bxL B->x∈bxL (A++(X++B)):=fun hx=>hx.elim mA mB
 have dAB:∀{x},x∈bxL X'->¬(x∈bxL A∨x∈bxL B):=fun {x} hx hm=>by
  rcases (hnew x hx).2 with h1 | h1
  ·exact hm.elim (n3 x h1).1 (n3 x h1).2
  ·have:=h.lt x (mAB hm);omega
 have tAB:∀{x y},x∈bxL X'->(y∈bxL A∨y∈bxL B)->∀{id},Be (σ' x)=some id->Be (σ y)=some id->False:=fun {x y} hx hy {id} h1 h2=>by
  rcases (htip x hx id h1).2.2 with⟨z,hz,h3⟩ | h3
  ·exact h.td z (mX hz) y (mAB hy) (fun e=>by subst e;exact hy.elim (n3 z hz).1 (n3 z hz).2) id h3 h2
  ·have:=(h.tip y (mAB hy) id h2).1;omega
 have spl:∀{x},x∈bxL (A++(X'++B))->(x∈bxL A∨x∈bxL B)∨x∈bxL X':=fun {x} hx=>by
  rw[AG,AG]at hx
  rcases List.mem_append.1 hx with h1 | h1
  ·exact .inl (.inl h1)
  ·rcases List.mem_append.1 h1 with h2 | h2
   ·exact .inr h2
   ·exact .inl (.inr h2)
 refine⟨?_,fun x hx=>?_,fun s hs=>?_,fun x hx id hid=>?_,fun x hx y hy hne id h1 h2=>?_⟩
 ·rw[AG,AG]
  obtain⟨a1,a2,a3⟩:=List.nodup_append.1 n1
  refine List.nodup_append.2 ⟨a1,List.nodup_append.2 ⟨hnd,a2,fun x hx y hy e=>dAB hx (.inr (by rw[e];exact hy))⟩,fun x hx y hy e=>?_⟩
  rcases List.mem_append.1 hy with h1 | h1
  ·exact dAB h1 (.inl (by rw[<-e];exact hx))
  ·exact a3 x hx y h1 e
 ·rcases spl hx with h1 | h1
  ·exact Nat.lt_of_lt_of_le (h.lt x (mAB h1)) hnb
  ·exact(hnew x h1).1
 ·rcases List.mem_append.1 hs with h1 | h1
  ·exact(h.sh s (List.mem_append_left _ h1)).fr fun x hx=>hbx x (.inl (Bl h1 hx))
  ·rcases List.mem_append.1 h1 with h2 | h2
   ·exact hX s h2
   ·exact(h.sh s (List.mem_append_right _ (List.mem_append_right _ h2))).fr fun x hx=>hbx x (.inr (Bl h2 hx))
 ·rcases spl hx with h1 | h1
  ·exact hlv x h1 id ((hbx x h1).2▸hid)
  ·exact⟨(htip x h1 id hid).1,(htip x h1 id hid).2.1⟩
 ·rcases spl hx with h3 | h3<;>rcases spl hy with h4 | h4
  ·exact h.td x (mAB h3) y (mAB h4) hne id ((hbx x h3).2▸h1) ((hbx y h4).2▸h2)
  ·exact tAB h4 h3 h2 ((hbx x h3).2▸h1)
  ·exact tAB h3 h4 h1 ((hbx y h4).2▸h2)
  ·exact htd x h3 y h4 hne id h1 h2
theorem HP.add {σ σ':Nat->TV} {st st':St} {A R N B:List Sh} {s:Sh} {k:B8} {eb:Nat} {e:ShE} (h:HP σ st (A++((s::R)++B))) (hnb:st.nb<=st'.nb)
  (hbx:∀x,x∈bxL (A++((s::R)++B))->x≠s.b->x≠s.m->st'.box x=st.box x/\σ' x=σ x)
  (hlv:∀x,x∈bxL (A++((s::R)++B))->x≠s.b->∀id,Be (σ x)=some id->id<st'.nt/\st'.live id=true)
  (hc:st'.box s.b= .cells [σ' s.b,.map s.m,.int .i64 s.d]) (hr:CP (σ' s.b) (((s.es++[(k,eb,e)]).map fun x=>x.1).map TV.str))
  (hm:∃mp,st.box s.m= .map mp/\st'.box s.m= .map (FI k (.box eb 0) mp)) (hsm:σ' s.m=σ s.m) (hk:D7 k s.es=none) (he:KB σ' st' eb e)
  (hN:∀s',s'∈N->L4 σ' st' s') (hnd:(eb::bxL N).Nodup) (hnew:∀x,x∈eb::bxL N->st.nb<=x/\x<st'.nb)
  (htip:∀x,x∈s.b::eb::bxL N->∀id,Be (σ' x)=some id->st.nt<=id/\id<st'.nt/\st'.live id=true)
  (htd:∀x,x∈s.b::eb::bxL N->∀y,y∈s.b::eb::bxL N->x≠y->∀id,Be (σ' x)=some id->Be (σ' y)≠some id):
  HP σ' st' (A++((⟨s.b,s.m,s.hd,s.d,s.es++[(k,eb,e)]⟩::(R++N))++B)):=by
 obtain⟨n1,n2,n3⟩:=Jb h.nd
 have hin:∀{x},x∈bxL (s::R)->x∈bxL (A++((s::R)++B)):=fun hx=>by rw[AG,AG];exact List.mem_append_right _ (List.mem_append_left _ hx)
 have hsR:s∈A++((s::R)++B):=List.mem_append_right _ (List.mem_append_left _ (.head _))
 have hsb:s.b∈bxL (s::R):=by rw[A1];exact List.mem_append_left _ (.head _)
 have hsmm:s.m∈bxL (s::R):=by rw[A1];exact List.mem_append_left _ (.tail _ (.head _))
 have hS:=h.sh s hsR
 rw[A1]at n2
 obtain⟨m1,m2,m3⟩:=List.nodup_append.1 n2
 have hbm:s.m≠s.b:=fun e=>by
  have:=hS.cell;obtain⟨mp,h1,_⟩:=hS.mp;rw[e,this]at h1;cases h1
 have eE:bxL (⟨s.b,s.m,s.hd,s.d,s.es++[(k,eb,e)]⟩::(R++N))=(s.b::s.m::(s.es.map (fun x=>x.2.1)++[eb]))++(bxL R++bxL N):=by
  rw[A1,AG]
  show(s.b::s.m::(s.es++[(k,eb,e)]).map (fun x=>x.2.1))++_=_
  rw[List.map_append];rfl
 have mem':∀{x},x∈bxL (⟨s.b,s.m,s.hd,s.d,s.es++[(k,eb,e)]⟩::(R++N))->x∈bxL (s::R)∨x∈eb::bxL N:=fun {x} hx=>by
  rw[eE]at hx
  rw[A1]
  rcases List.mem_append.1 hx with h1 | h1
  ·rcases List.mem_cons.1 h1 with rfl | h1
   ·exact .inl (List.mem_append_left _ (.head _))
   ·rcases List.mem_cons.1 h1 with rfl | h1
    ·exact .inl (List.mem_append_left _ (.tail _ (.head _)))
    ·rcases List.mem_append.1 h1 with h2 | h2
     ·exact .inl (List.mem_append_left _ (.tail _ (.tail _ h2)))
     ·rw[List.mem_singleton.1 h2];exact .inr (.head _)
  ·rcases List.mem_append.1 h1 with h2 | h2
   ·exact .inl (List.mem_append_right _ h2)
   ·exact .inr (.tail _ h2)
 have old:∀{x},x∈bxL (s::R)->x≠s.b->σ' x=σ x:=fun {x} hx hne=>by
  by_cases hxm:x=s.m
  ·rw[hxm];exact hsm
  ·exact(hbx x (hin hx) hne hxm).2
 have hRes:∀s',s'∈R->∀x,x∈bxS s'->st'.box x=st.box x/\σ' x=σ x:=fun s' hs' x hx=>by
  have hxR:x∈bxL R:=Bl hs' hx
  refine hbx x (hin (by rw[A1];exact List.mem_append_right _ hxR)) (fun e=>?_) fun e=>?_
  ·exact m3 s.b (.head _) x hxR e.symm
  ·exact m3 s.m (.tail _ (.head _)) x hxR e.symm
 refine h.upd hnb (fun x hx=>?_) (fun x hx id hid=>?_) (fun s' hs'=>?_) ?_ (fun x hx=>?_) (fun x hx id hid=>?_) fun x hx y hy hne id h1 h2=>?_
 ·have hx':x∈bxL (A++((s::R)++B)):=by
   rw[AG,AG];exact hx.elim (fun h=>List.mem_append_left _ h) fun h=>List.mem_append_right _ (List.mem_append_right _ h)
  refine hbx x hx' (fun e=>?_) fun e=>?_
  ·subst e;exact hx.elim (n3 _ hsb).1 (n3 _ hsb).2
  ·subst e;exact hx.elim (n3 _ hsmm).1 (n3 _ hsmm).2
 ·have hx':x∈bxL (A++((s::R)++B)):=by
   rw[AG,AG];exact hx.elim (fun h=>List.mem_append_left _ h) fun h=>List.mem_append_right _ (List.mem_append_right _ h)
  exact hlv x hx' (fun e=>by subst e;exact hx.elim (n3 _ hsb).1 (n3 _ hsb).2) id hid
 ·rcases List.mem_cons.1 hs' with rfl | hs'
  ·refine⟨hc,hr,?_,fun x hx=>?_⟩
   ·obtain⟨mp,h1,h2⟩:=hm
    obtain⟨mp2,h3,h4⟩:=hS.mp
    rw[h3]at h1;cases h1
    refine⟨_,h2,fun k2=>?_⟩
    rw[IE,h4 k2,MT]
    by_cases hkk:k2=k
    ·subst hkk;rw[if_pos rfl,hk,if_pos rfl];rfl
    ·rw[if_neg hkk,if_neg hkk]
     cases D7 k2 s.es<;>rfl
   ·rcases List.mem_append.1 hx with h1 | h1
    ·have hxb:x.2.1∈s.es.map fun x=>x.2.1:=List.mem_map.2 ⟨x,h1,rfl⟩
     have hxn:x.2.1≠s.b:=fun e=>by
      have:=(List.nodup_cons.1 m1).1
      exact this (.tail _ (e▸hxb))
     have hxm:x.2.1≠s.m:=fun e=>by
      have:=(List.nodup_cons.1 (List.nodup_cons.1 m1).2).1
      exact this (e▸hxb)
     have:=hbx x.2.1 (Bl hsR (EC h1)) hxn hxm
     exact(hS.en x h1).fr this.1 this.2
    ·rw[List.mem_singleton.1 h1];exact he
  ·rcases List.mem_append.1 hs' with h1 | h1
   ·exact(h.sh s' (List.mem_append_right _ (List.mem_append_left _ (.tail _ h1)))).fr (hRes s' h1)
   ·exact hN s' h1
 ·have hlt:∀{x},x∈bxS s++bxL R->x<st.nb:=fun hx=>h.lt _ (hin (by rw[A1];exact hx))
  obtain⟨q1,q2⟩:=List.nodup_cons.1 hnd
  have e2:bxS s=s.b::s.m::s.es.map fun x=>x.2.1:=rfl
  rw[eE]
  refine List.nodup_append.2 ⟨?_,List.nodup_append.2 ⟨m2,q2,fun x hx y hy e=>?_⟩,fun x hx y hy e=>?_⟩
  ·have e3:s.b::s.m::(s.es.map (fun x=>x.2.1)++[eb])=bxS s++[eb]:=rfl
   rw[e3]
   refine List.nodup_append.2 ⟨m1,by simp,fun x hx y hy e=>?_⟩
   rw[List.mem_singleton.1 hy]at e
   have h1:=hlt (List.mem_append_left _ hx)
   have h2:=(hnew eb (.head _)).1
   omega
  ·have h1:=hlt (List.mem_append_right _ hx)
   have h2:=(hnew y (.tail _ hy)).1
   omega
  ·have e3:s.b::s.m::(s.es.map (fun x=>x.2.1)++[eb])=bxS s++[eb]:=rfl
   rw[e3]at hx
   subst e
   rcases List.mem_append.1 hx with h1 | h1
   ·rcases List.mem_append.1 hy with h2 | h2
    ·exact m3 x h1 x h2 rfl
    ·have h3:=hlt (List.mem_append_left _ h1)
     have h4:=(hnew x (.tail _ h2)).1
     omega
   ·have h5:=List.mem_singleton.1 h1
    subst h5
    rcases List.mem_append.1 hy with h2 | h2
    ·have h3:=hlt (List.mem_append_right _ h2)
     have h4:=(hnew x (.head _)).1
     omega
    ·exact q1 h2
 ·rcases mem' hx with h1 | h1
  ·exact⟨Nat.lt_of_lt_of_le (h.lt x (hin h1)) hnb,.inl h1⟩
  ·exact⟨(hnew x h1).2,.inr (hnew x h1).1⟩
 ·rcases mem' hx with h1 | h1
  ·by_cases hxb:x=s.b
   ·subst hxb
    have:=htip _ (.head _) id hid
    exact⟨this.2.1,this.2.2,.inr this.1⟩
   ·rw[old h1 hxb]at hid
    have:=hlv x (hin h1) hxb id hid
    exact⟨this.1,this.2,.inl ⟨x,h1,hid⟩⟩
  ·have:=htip x (.tail _ h1) id hid
   exact⟨this.2.1,this.2.2,.inr this.1⟩
 ·have cl:∀{x},x∈bxL (s::R)∨x∈eb::bxL N->(x∈s.b::eb::bxL N)∨(x∈bxL (s::R)/\x≠s.b):=fun {x} hx=>by
   rcases hx with h3 | h3
   ·by_cases hxb:x=s.b
    ·rw[hxb];exact .inl (.head _)
    ·exact .inr ⟨h3,hxb⟩
   ·exact .inl (.tail _ h3)
  rcases cl (mem' hx)with h3 | ⟨h3,h3'⟩<;>rcases cl (mem' hy)with h4 | ⟨h4,h4'⟩
  ·exact htd x h3 y h4 hne id h1 h2
  ·have g1:=(htip x h3 id h1).1
   rw[old h4 h4']at h2
   have g2:=(h.tip y (hin h4) id h2).1
   omega
  ·have g1:=(htip y h4 id h2).1
   rw[old h3 h3']at h1
   have g2:=(h.tip x (hin h3) id h1).1
   omega
  ·rw[old h3 h3']at h1
   rw[old h4 h4']at h2
   exact h.td x (hin h3) y (hin h4) hne id h1 h2
end Go.TVF
