/- What the laws below rest on: a framework for Go programs, and contracts of the functions that they reach. -/
import Derived.Test.YtbbjecpcjdmfgaaGreatDoorSaD
set_option maxRecDepth 20000
set_option linter.unusedVariables false
set_option linter.unusedSimpArgs false
namespace Go.TVF
open Go.IntKind(i64 u8)
open Go Go.Proofs
theorem Gt {α:Type} {K:α->St->Prop} {a b:α} {st:St} (h:a=b) (hk:K b st):K a st:=h▸hk
theorem MG {r:Int} {st:St} {K:Bool->St->Prop} (h0:0<=r) (hk:K (decide (AY r.toNat)) st):CallT PR BU [.int .i64 r] [.one (.bool)] st K:=by
 refine Fv _ st K (Ab (fun _=>Ab (fun h2=>Ab (fun h3=>?_) fun h3=>?_) fun h2=>?_) fun h1=>absurd h0 h1)
 ·have:AY r.toNat:=by unfold AY;omega
  simpa [this]using hk
 ·have:decide ((57343:Int)<r)=decide (AY r.toNat):=by
   rw[Bool.eq_iff_iff];simp only[decide_eq_true_eq];unfold AY;omega
  rw[this];exact hk
 ·have:¬AY r.toNat:=by unfold AY;omega
  simpa [this]using hk
theorem EJ (st:St) (n:Nat) (l:B8) (xs:List TV) (h:xs=AN l):(toBytes st (.list 1 .full n xs)).map TV.str=some (.str l):=by
 subst h;simp[toBytes,DZ]
theorem FK (n:Nat):IntKind.wrap .u8 (n:Int)=((UInt8.ofNat n).toNat:Int):=by
 unfold IntKind.wrap
 simp only[IntKind.signed,IntKind.bits]
 simp
 try omega
theorem orN (a b m:Nat) (hb:b<2^m) (h:a*2^m+b<2^63) (x y:Int) (hx:x=((a*2^m:Nat):Int)) (hy:y=(b:Int)):AL .or .i64 x y=((a*2^m+b:Nat):Int):=by
 rw[hx,hy];exact Qr a b m hb h
theorem QL {R:Int} {r:Nat} {st:St} {K:B8->Int->St->Prop} (hR:R=(r:Int)) (hr:r<2^40) (hk:K (if AY r then Fj r else []) (if AY r then 0 else 2) st):CallT PR BE [.int .i64 R] [.one (.str),.one (.int .i64)] st K:=by
 have shr:∀m,m<=64->Int.fdiv R (2^(min m (IntKind.bits .i64)))=((r/2^m:Nat):Int):=fun m hm=>by rw[hR];exact shr_i64 r m hm
 have s6:=shr 6 (by decide)
 have s12:=shr 12 (by decide)
 have s18:=shr 18 (by decide)
 have m63:∀x:Nat,x<2^63->AL .and .i64 (x:Int) (63:Int)=((x%64:Nat):Int):=fun x hx=>HV x 6 hx (by decide)
 have mR:AL .and .i64 R (63:Int)=((r%64:Nat):Int):=by rw[hR];exact m63 r (by omega)
 have o128:∀x:Nat,x<64->AL .or .i64 (128:Int) (x:Int)=((128+x:Nat):Int):=fun x hx=>orN 2 x 6 (by omega) (by omega) _ _ rfl rfl
 have hR0:0<=R:=by omega
 have hRn:R.toNat=r:=by omega
 refine Gz _ st K (MG hR0 (As (fun h0=>?_) fun h0=>?_))
 ·have hc:¬AY r:=by rw[hRn]at h0;simpa using h0
  rw[if_neg hc,if_neg hc]at hk
  exact hk
 ·have hc:AY r:=by rw[hRn]at h0;simpa using h0
  rw[if_pos hc,if_pos hc]at hk
  unfold Fj at hk
  refine Ab (fun h1=>?_) fun h1=>Ab (fun h2=>?_) fun h2=>Ab (fun h3=>?_) fun h3=>?_
  ·rw[if_pos (by omega)]at hk
   exact Ad (EJ _ _ _ _ (by simp only[AN,List.map,JM];rw[hR,FK])) hk
  ·rw[if_neg (by omega),if_pos (by omega)]at hk
   have o192:AL .or .i64 (192:Int) ((r/2^6:Nat):Int)=((192+r/64:Nat):Int):=orN 6 _ 5 (by omega) (by omega) _ _ rfl rfl
   refine Ad (EJ _ _ _ _ ?_) hk
   simp only[AN,List.map,JM]
   rw[show Int.toNat (6:Int)=6 from rfl,s6,o192,mR,o128 _ (by omega),FK,FK]
  ·rw[if_neg (by omega),if_neg (by omega),if_pos (by omega)]at hk
   have o224:AL .or .i64 (224:Int) ((r/2^12:Nat):Int)=((224+r/4096:Nat):Int):=orN 14 _ 4 (by omega) (by omega) _ _ rfl rfl
   refine Ad (EJ _ _ _ _ ?_) hk
   simp only[AN,List.map,JM]
   rw[show Int.toNat (6:Int)=6 from rfl,show Int.toNat (12:Int)=12 from rfl,s6,s12,o224,mR,m63 (r/2^6) (by omega),o128 _ (by omega),o128 _ (by omega),FK,FK,FK]
  ·rw[if_neg (by omega),if_neg (by omega),if_neg (by omega)]at hk
   have hr2:r<=1114111:=hc.1
   have o240:AL .or .i64 (240:Int) ((r/2^18:Nat):Int)=((240+r/262144:Nat):Int):=orN 30 _ 3 (by omega) (by omega) _ _ rfl rfl
   refine Ad (EJ _ _ _ _ ?_) hk
   simp only[AN,List.map,JM]
   rw[show Int.toNat (6:Int)=6 from rfl,show Int.toNat (12:Int)=12 from rfl,show Int.toNat (18:Int)=18 from rfl,s6,s12,s18,o240,mR,m63 (r/2^6) (by omega),m63 (r/2^12) (by omega),o128 _ (by omega),o128 _ (by omega),o128 _ (by omega),FK,FK,FK,FK]
theorem Sr {r:Nat} {st:St} {K:B8->Int->St->Prop} (hr:r<2^40) (hk:K (if AY r then Fj r else []) (if AY r then 0 else 2) st):CallT PR BE [.int .i64 (r:Int)] [.one (.str),.one (.int .i64)] st K:=
 QL rfl hr hk
def rD (l:B8):Nat×Nat:=if ul l=0 then(0,0)else(ur l,ul l)
theorem O6 {s:B8} {I:Int} {i:Nat} {st:St} {K:Int->Int->St->Prop} (hI:I=(i:Int)) (hl:s.length<=2000000) (hi:i<=s.length) (hk:K ((rD (s.drop i)).1:Nat) ((rD (s.drop i)).2:Nat) st):CallT PR BF [.str s,.int .i64 I] [.one (.int .i64),.one (.int .i64)] st K:=by
 refine GA s I st K (Ab (fun h=>by omega) fun _=>Ab (fun h=>?_) fun h=>⟨⟨by omega,by omega⟩,?_⟩)
 ·have:s.drop i=[]:=List.drop_of_length_le (by omega)
  have h0:rD (s.drop i)=(0,0):=by rw[this];simp[rD,ul]
  rw[h0]at hk;exact hk
 ·have hne:s.drop i≠ []:=by
   intro h0
   have:=congrArg List.length h0
   simp at this;omega
  have href:=KP (s.drop i) hne
  have hb0:(List.getD s (Int.toNat I) 0).toNat=bt (s.drop i) 0:=by rw[On,hI];rfl
  have hlt:=EI (s.drop i) 0
  have hlen:(s.drop i).length=s.length-i:=by simp
  rw[hb0,SM _ (by omega)]
  have m15:AL .and .i64 ((bt (s.drop i) 0:Nat):Int) (15:Int)=((bt (s.drop i) 0%16:Nat):Int):=HV _ 4 (by omega) (by decide)
  have m7:AL .and .i64 ((bt (s.drop i) 0:Nat):Int) (7:Int)=((bt (s.drop i) 0%8:Nat):Int):=HV _ 3 (by omega) (by decide)
  have m31:AL .and .i64 ((bt (s.drop i) 0:Nat):Int) (31:Int)=((bt (s.drop i) 0%32:Nat):Int):=HV _ 5 (by omega) (by decide)
  rw[m15,m7,m31]
  refine⟨fun size r s' at' st1=>s=s'/\I=at'/\st=st1/\((rsz (bt (s.drop i) 0):Nat):Int)=size/\((rb0 (bt (s.drop i) 0):Nat):Int)=r,?_,?_⟩
  ·refine Ab (fun h1=>⟨rfl,rfl,rfl,?_,?_⟩) fun h1=>Ab (fun h2=>⟨rfl,rfl,rfl,?_,?_⟩) fun h2=>Ab (fun h3=>⟨rfl,rfl,rfl,?_,?_⟩) fun h3=>⟨rfl,rfl,rfl,?_,?_⟩
   ·unfold rsz;rw[if_pos (by omega)];rfl
   ·unfold rb0;rw[if_pos (by omega)]
   ·unfold rsz;rw[if_neg (by omega),if_pos (by omega)];rfl
   ·unfold rb0;rw[if_neg (by omega),if_pos (by omega)]
   ·unfold rsz;rw[if_neg (by omega),if_neg (by omega),if_pos (by omega)];rfl
   ·unfold rb0;rw[if_neg (by omega),if_neg (by omega),if_pos (by omega)]
   ·unfold rsz;rw[if_neg (by omega),if_neg (by omega),if_neg (by omega)];rfl
   ·unfold rb0;rw[if_neg (by omega),if_neg (by omega),if_neg (by omega)]
  ·rintro _ _ _ _ _ ⟨rfl,rfl,rfl,rfl,rfl⟩
   have hs:=SU (bt (s.drop i) 0)
   have hr0:=rb0_lt _ hlt
   generalize hsz:rsz (bt (s.drop i) 0)=size at*
   generalize hrr:rb0 (bt (s.drop i) 0)=r0 at*
   have hra:=NZ (s.drop i) r0 hr0
   unfold R6 at href
   simp only[hsz,hrr]at href
   rw[Ao _ (by omega) (by omega)]
   refine Ab (fun h1=>?_) fun h1=>?_
   ·rw[if_pos (by omega)]at href
    have:rD (s.drop i)=(0,0):=by unfold rD;rw[<-href]
    rw[this]at hk;exact hk
   ·rw[if_neg (by omega)]at href
    refine⟨fun r j s' at' sz st2=>s=s'/\I=at'/\st=st2/\((size:Nat):Int)=sz/\∃k:Nat,j=((k+1:Nat):Int)/\k+1<=size/\r=((Cu (s.drop i) r0 k:Nat):Int),fun _ j _ _ sz _=>(sz-j).toNat,⟨rfl,rfl,rfl,rfl,0,rfl,hs.1,rfl⟩,?_⟩
    rintro _ _ _ _ _ _ ⟨rfl,rfl,rfl,rfl,k,rfl,hk1,rfl⟩
    have hrk:=hra k
    have h64:64^k<=64^3:=Nat.pow_le_pow_right (by decide) (by omega)
    refine Ab (fun h2=>?_) fun h2=>?_
    ·rw[Ao _ (by omega) (by omega)]
     have hbk:(List.getD s (Int.toNat (I+((k+1:Nat):Int))) 0).toNat=bt (s.drop i) (k+1):=by
      rw[On,show Int.toNat (I+((k+1:Nat):Int))=i+(k+1) by omega];rfl
     have hbl:=EI (s.drop i) (k+1)
     have hand:AL .and .i64 (i64.wrap ((bt (s.drop i) (k+1):Nat):Int)) (63:Int)=((bt (s.drop i) (k+1)%64:Nat):Int):=by
      rw[SM _ (by omega)];exact HV _ 6 (by omega) (by decide)
     have hmul:i64.wrap (((Cu (s.drop i) r0 k:Nat):Int)*2^(min (Int.toNat (6:Int)) (IntKind.bits .i64)))=((Cu (s.drop i) r0 k*2^6:Nat):Int):=by
      rw[show(2:Int)^(min (Int.toNat (6:Int)) (IntKind.bits .i64))=64 by decide,Ao _ (by omega) (by omega)];omega
     refine⟨⟨by omega,by omega⟩,?_⟩
     rw[hbk,hand,hmul,Qr _ _ 6 (by omega) (by omega),Ao _ (by omega) (by omega)]
     exact⟨⟨rfl,rfl,rfl,rfl,k+1,by omega,by omega,by simp only[Cu]⟩,by dsimp only;omega⟩
    ·have hks:k=size-1:=by omega
     subst hks
     refine Sr (by omega) ?_
     generalize hR:Cu (s.drop i) r0 (size-1)=R at*
     refine Ab (fun h3=>?_) fun h3=>?_
     ·have hc:¬AY R:=by intro hc;rw[if_pos hc]at h3;exact h3 rfl
      rw[if_neg (fun h=>hc h.1)]at href
      have:rD (s.drop i)=(0,0):=by unfold rD;rw[<-href]
      rw[this]at hk;exact hk
     ·have hc:AY R:=by
       apply Decidable.byContradiction
       intro hc;rw[if_neg hc]at h3;exact h3 (by decide)
      rw[if_pos hc,Ao _ (by omega) (by omega)]
      refine⟨⟨by omega,by omega,by omega⟩,?_⟩
      rw[Ms,show Int.toNat (I+(size:Int))-Int.toNat I=size by omega,show Int.toNat I=i by omega]
      refine Ab (fun h4=>?_) fun h4=>?_
      ·rw[if_neg (fun h=>h4 h.2)]at href
       have:rD (s.drop i)=(0,0):=by unfold rD;rw[<-href]
       rw[this]at hk;exact hk
      ·rw[if_pos ⟨hc,Decidable.not_not.1 h4⟩]at href
       have:rD (s.drop i)=(R,size):=by unfold rD;rw[<-href]
       rw[this]at hk;exact hk
theorem Qm {s:B8} {i:Nat} {st:St} {K:Int->Int->St->Prop} (hl:s.length<=2000000) (hi:i<=s.length) (hk:K ((rD (s.drop i)).1:Nat) ((rD (s.drop i)).2:Nat) st):CallT PR BF [.str s,.int .i64 (i:Int)] [.one (.int .i64),.one (.int .i64)] st K:=
 O6 rfl hl hi hk
theorem OE (l:B8):D0 l<=l.length:=Ra _ l (Nat.le_refl _)
theorem K6:D0 []=0:=BW _ (by simp[ul])
theorem Rd.ldx {sz:Nat} {v:TV} {n:Nat} {xs:List TV} (h:Rd sz v n xs) (st:St) (i j:Nat) {x:TV} (hx:xs[i*sz+j]? =some x):Ac st [] (.t (ixT sz v i)) j=some x:=by
 obtain⟨hlt,hx⟩:=List.getElem?_eq_some_iff.1 hx
 rw[h.ld st i j hlt,hx]
theorem Rd.ldfx {sz:Nat} {v:TV} {n:Nat} {xs:List TV} (h:Rd sz v n xs) (st:St) (i j:Nat) {x:TV} (hx:xs[i*sz+j]? =some x):Ac st [] (.t (Au (ixT sz v i) j)) 0=some x:=by
 obtain⟨hlt,hx⟩:=List.getElem?_eq_some_iff.1 hx
 rw[h.ldf st i j hlt,hx]
theorem MH {s:B8} {st:St} {K:TV->Bool->St->Prop} (hl:s.length<=2000000)
  (hk:∀v xs st',Aj st st'->Rd 1 v (xs.length+1) (xs++[.int .i64 ((D0 s:Nat):Int)])->xs.length<=s.length->K v (decide (D0 s=s.length)) st'):CallT PR BO [.str s] [.one (.tv),.one (.bool)] st K:=by
 have hv:=OE s
 refine E7 s st K ⟨fun v i s' st'=>s=s'/\Aj st st'/\∃(k:Nat) (xs:List TV),i=(k:Int)/\k<=s.length/\k+D0 (s.drop k)=D0 s/\xs.length<=k/\Own st.nt 1 st' v (xs.length+1) (xs++[.int .i64 (k:Int)]),fun _ i _ _=>(s.length-i).toNat,⟨rfl,Aj.refl _,0,[],rfl,by omega,by simp,by simp,Own.full _ _ _ _ _⟩,?_⟩
 rintro v _ _ st1 ⟨rfl,e,k,xs,rfl,h1,h2,h3,h4⟩
 refine Ab (fun g1=>?_) fun g1=>?_
 ·have hle:=OI (s.drop k)
  rw[List.length_drop]at hle
  refine Qm hl h1 ?_
  unfold rD
  by_cases h0:ul (s.drop k)=0
  ·rw[if_pos h0]
   rw[BW _ h0]at h2
   refine Ab (fun _=>?_) fun h=>absurd rfl h
   have:=hk v xs st1 e (by rw[<-h2];exact h4.rd) (by omega)
   rw[decide_eq_false (by omega)]at this
   exact this
  ·rw[if_neg h0]
   rw[F9 _ h0,List.drop_drop]at h2
   have w:i64.wrap ((k:Int)+(ul (s.drop k):Nat))=((k+ul (s.drop k):Nat):Int):=by rw[Ao _ (by omega) (by omega)];omega
   refine Ab (fun h=>by simp only at h;omega) fun _=>?_
   dsimp only
   rw[w]
   refine HU e rfl h4 (by omega) (fun h=>by cases h) fun v' st' e' _ ho=>⟨⟨rfl,e',k+ul (s.drop k),xs++[.int .i64 (k:Int)],rfl,by omega,by omega,by rw[List.length_append];simp;omega,?_⟩,by omega⟩
   rw[List.length_append];exact ho
 ·rw[show s.drop k=[]from List.drop_of_length_le (by omega),K6]at h2
  have hks:k=D0 s:=by omega
  have:=hk v xs st1 e (by rw[<-hks];exact h4.rd) (by omega)
  rw[decide_eq_true (by omega)]at this
  exact this
theorem MV {s:B8} {st:St} {K:Bool->St->Prop} (hl:s.length<=2000000) (hk:∀st',Aj st st'->K (decide (D0 s=s.length)) st'):CallT PR A5 [.str s] [.one (.bool)] st K:=
 Hh s st K (MH hl fun v xs st1 e hr hx=>hk st1 e)
def hdS (b:Nat):Nat:=if b<128 then 1 else if 192<=b/\b<224 then 2 else if 224<=b/\b<240 then 3 else if 240<=b/\b<248 then 4 else 0
def hdB (b:Nat):Nat:=if b<128 then b else if 192<=b/\b<224 then b%32 else if 224<=b/\b<240 then b%16 else if 240<=b/\b<248 then b%8 else 0
def wid (r:Nat):Nat:=if r<128 then 1 else if r<2048 then 2 else if r<65536 then 3 else 4
theorem Io (a m:Nat) (ha:a<256) (hm:m<=8):AL .and .u8 (a:Int) ((2^m-1:Nat):Int)=((a%2^m:Nat):Int):=by
 have:2^m<=2^8:=Nat.pow_le_pow_right (by decide) hm
 rw[Ud _ _ ha (by omega),Nat.and_two_pow_sub_one_eq_mod]
theorem head_ok {B:Int} {b:Nat} {st:St} {K:Int->Int->St->Prop} (hB:B=(b:Int)) (hb:b<256) (hk:K (hdS b:Nat) (hdB b:Nat) st):CallT PR HR [.int .u8 B] [.one (.int .i64),.one (.int .i64)] st K:=by
 have m31:AL .and .u8 B (31:Int)=((b%32:Nat):Int):=by rw[hB];exact Io b 5 hb (by decide)
 have m15:AL .and .u8 B (15:Int)=((b%16:Nat):Int):=by rw[hB];exact Io b 4 hb (by decide)
 have m7:AL .and .u8 B (7:Int)=((b%8:Nat):Int):=by rw[hB];exact Io b 3 hb (by decide)
 unfold hdS hdB at hk
 have kk:∀(x y x' y':Int),x=x'->y=y'->K x' y' st->K x y st:=fun x y x' y' h1 h2 hk=>by rw[h1,h2];exact hk
 refine OF B st K ?_
 rw[m31,m15,m7,Ao B (by omega) (by omega),Ao ((b%32:Nat):Int) (by omega) (by omega),Ao ((b%16:Nat):Int) (by omega) (by omega),Ao ((b%8:Nat):Int) (by omega) (by omega)]
 by_cases g1:b<128
 ·rw[if_pos g1,if_pos g1]at hk
  exact Ab (fun _=>kk _ _ _ _ rfl hB hk) fun h=>by omega
 rw[if_neg g1,if_neg g1]at hk
 refine Ab (fun h=>by omega) fun _=>?_
 by_cases g2:192<=b/\b<224
 ·rw[if_pos g2,if_pos g2]at hk
  exact Ab (fun _=>Ab (fun _=>hk) fun h=>by omega) fun h=>by omega
 rw[if_neg g2,if_neg g2]at hk
 by_cases g3:224<=b/\b<240
 ·rw[if_pos g3,if_pos g3]at hk
  refine Ab (fun _=>Ab (fun h=>by omega) fun _=>?_) fun h=>by omega
  exact Ab (fun _=>Ab (fun _=>hk) fun h=>by omega) fun h=>by omega
 rw[if_neg g3,if_neg g3]at hk
 by_cases g4:240<=b/\b<248
 ·rw[if_pos g4,if_pos g4]at hk
  refine Ab (fun _=>Ab (fun h=>by omega) fun _=>?_) fun h=>by omega
  refine Ab (fun _=>Ab (fun h=>by omega) fun _=>?_) fun h=>by omega
  exact Ab (fun _=>Ab (fun _=>hk) fun h=>by omega) fun h=>by omega
 rw[if_neg g4,if_neg g4]at hk
 repeat' first
  | exact hk
  | omega
  | refine Ab (fun _=>?_) fun _=>?_
theorem R0 {R:Int} {r:Nat} {st:St} {K:Bool->St->Prop} (hR:R=(r:Int)) (hk:K (decide (AY r)) st):CallT PR FS [.int .i64 R] [.one (.bool)] st K:=by
 unfold AY at hk
 refine Mp R st K (Ab (fun _=>Ab (fun h2=>Ab (fun h3=>?_) fun h3=>?_) fun h2=>?_) fun h1=>by omega)
 ·exact Gt (decide_eq_true (by omega)).symm hk
 ·exact Gt (decide_eq_decide.2 (by omega)) hk
 ·exact Gt (decide_eq_false (by omega)).symm hk
theorem SN {R:Int} {r:Nat} {st:St} {K:Int->St->Prop} (hR:R=(r:Int)) (hk:K (wid r:Nat) st):CallT PR GS [.int .i64 R] [.one (.int .i64)] st K:=by
 unfold wid at hk
 refine NG R st K (Ab (fun h1=>?_) fun h1=>Ab (fun h2=>?_) fun h2=>Ab (fun h3=>?_) fun h3=>?_)
 ·rw[if_pos (by omega)]at hk;exact hk
 ·rw[if_neg (by omega),if_pos (by omega)]at hk;exact hk
 ·rw[if_neg (by omega),if_neg (by omega),if_pos (by omega)]at hk;exact hk
 ·rw[if_neg (by omega),if_neg (by omega),if_neg (by omega)]at hk;exact hk
def N0 (l:B8):Prop:=hdS (bt l 0)≠0/\hdS (bt l 0)<=l.length/\(∀j,1<=j->j<hdS (bt l 0)->bt l j/64=2)/\AY (Cu l (hdB (bt l 0)) (hdS (bt l 0)-1))/\wid (Cu l (hdB (bt l 0)) (hdS (bt l 0)-1))=hdS (bt l 0)
theorem pd_val (l:B8) (h:l≠ []) (hp:N0 l):ul l=hdS (bt l 0)/\ur l=Cu l (hdB (bt l 0)) (hdS (bt l 0)-1):=by
 obtain⟨p1,p2,p3,p4,p5⟩:=hp
 have e:=KP l h
 have h0:=EI l 0
 have e0:(l.getD 0 0).toNat=bt l 0:=rfl
 have e1:(l.getD 1 0).toNat=bt l 1:=rfl
 have e2:(l.getD 2 0).toNat=bt l 2:=rfl
 have e3:(l.getD 3 0).toNat=bt l 3:=rfl
 have fin:∀n r,rsz (bt l 0)=n->rb0 (bt l 0)=r->n=hdS (bt l 0)->r=hdB (bt l 0)->Fj (Cu l r (n-1))=l.take n->ul l=hdS (bt l 0)/\ur l=Cu l (hdB (bt l 0)) (hdS (bt l 0)-1):=by
  intro n r hn hr hn2 hr2 henc
  unfold R6 at e
  simp only[hn,hr]at e
  rw[if_neg (by omega),if_pos ⟨by rw[hr2,hn2];exact p4,henc⟩]at e
  by_cases hz:ul l=0
  ·rw[if_pos hz]at e;simp only[Prod.mk.injEq]at e;omega
  ·rw[if_neg hz]at e;simp only[Prod.mk.injEq]at e
   exact⟨by omega,by rw[<-hr2,<-hn2];exact e.1.symm⟩
 have h1:=EI l 1
 have h2:=EI l 2
 have h3:=EI l 3
 by_cases g1:bt l 0<128
 ·have hs:hdS (bt l 0)=1:=by unfold hdS;rw[if_pos g1]
  have hb:hdB (bt l 0)=bt l 0:=by unfold hdB;rw[if_pos g1]
  refine fin 1 (bt l 0) (by unfold rsz;rw[if_neg (by omega),if_neg (by omega),if_neg (by omega)]) (by unfold rb0;rw[if_neg (by omega),if_neg (by omega),if_neg (by omega)]) hs.symm hb.symm ?_
  rw[Jj l (by omega)]
  simp only[Nat.sub_self,Cu]
  unfold Fj
  rw[if_pos g1]
  simp only[C8,CY,e0,and_true]
  omega
 by_cases g2:192<=bt l 0/\bt l 0<224
 ·have hs:hdS (bt l 0)=2:=by unfold hdS;rw[if_neg g1,if_pos g2]
  have hb:hdB (bt l 0)=bt l 0%32:=by unfold hdB;rw[if_neg g1,if_pos g2]
  rw[hs]at p3 p5
  rw[hb]at p5
  have q1:=p3 1 (by omega) (by omega)
  refine fin 2 (bt l 0%32) (by unfold rsz;rw[if_neg (by omega),if_neg (by omega),if_pos (by omega)]) (by unfold rb0;rw[if_neg (by omega),if_neg (by omega),if_pos (by omega)]) hs.symm hb.symm ?_
  rw[Ji l (by omega)]
  simp only[Nat.reduceSub,Cu,Nat.zero_add]at p5⊢
  generalize bt l 0=b0 at*
  generalize bt l 1=b1 at*
  unfold wid at p5
  unfold Fj
  by_cases k1:b0%32*64+b1%64<128
  ·rw[if_pos k1]at p5;omega
  rw[if_neg k1]at p5⊢
  by_cases k2:b0%32*64+b1%64<2048
  ·rw[if_pos k2]
   simp only[C8,CY,e0,e1,and_true]
   omega
  ·rw[if_neg k2]at p5;split at p5<;>omega
 by_cases g3:224<=bt l 0/\bt l 0<240
 ·have hs:hdS (bt l 0)=3:=by unfold hdS;rw[if_neg g1,if_neg g2,if_pos g3]
  have hb:hdB (bt l 0)=bt l 0%16:=by unfold hdB;rw[if_neg g1,if_neg g2,if_pos g3]
  rw[hs]at p3 p5
  rw[hb]at p5
  have q1:=p3 1 (by omega) (by omega)
  have q2:=p3 2 (by omega) (by omega)
  refine fin 3 (bt l 0%16) (by unfold rsz;rw[if_neg (by omega),if_pos (by omega)]) (by unfold rb0;rw[if_neg (by omega),if_pos (by omega)]) hs.symm hb.symm ?_
  rw[GF l (by omega)]
  simp only[Nat.reduceSub,Cu,Nat.zero_add,Nat.reduceAdd]at p5⊢
  generalize bt l 0=b0 at*
  generalize bt l 1=b1 at*
  generalize bt l 2=b2 at*
  generalize hr:(b0%16*64+b1%64)*64+b2%64=r at*
  unfold wid at p5
  unfold Fj
  by_cases k1:r<128
  ·rw[if_pos k1]at p5;omega
  rw[if_neg k1]at p5⊢
  by_cases k2:r<2048
  ·rw[if_pos k2]at p5;omega
  rw[if_neg k2]at p5⊢
  by_cases k3:r<65536
  ·rw[if_pos k3]
   simp only[C8,CY,e0,e1,e2,and_true]
   omega
  ·rw[if_neg k3]at p5;omega
 by_cases g4:240<=bt l 0/\bt l 0<248
 ·have hs:hdS (bt l 0)=4:=by unfold hdS;rw[if_neg g1,if_neg g2,if_neg g3,if_pos g4]
  have hb:hdB (bt l 0)=bt l 0%8:=by unfold hdB;rw[if_neg g1,if_neg g2,if_neg g3,if_pos g4]
  rw[hs]at p3 p4 p5
  rw[hb]at p4 p5
  have q1:=p3 1 (by omega) (by omega)
  have q2:=p3 2 (by omega) (by omega)
  have q3:=p3 3 (by omega) (by omega)
  refine fin 4 (bt l 0%8) (by unfold rsz;rw[if_pos (by omega)]) (by unfold rb0;rw[if_pos (by omega)]) hs.symm hb.symm ?_
  rw[JT l (by omega)]
  simp only[Nat.reduceSub,Cu,Nat.zero_add,Nat.reduceAdd]at p4 p5⊢
  generalize bt l 0=b0 at*
  generalize bt l 1=b1 at*
  generalize bt l 2=b2 at*
  generalize bt l 3=b3 at*
  generalize hr:((b0%8*64+b1%64)*64+b2%64)*64+b3%64=r at*
  unfold wid at p5
  unfold Fj
  by_cases k1:r<128
  ·rw[if_pos k1]at p5;omega
  rw[if_neg k1]at p5⊢
  by_cases k2:r<2048
  ·rw[if_pos k2]at p5;omega
  rw[if_neg k2]at p5⊢
  by_cases k3:r<65536
  ·rw[if_pos k3]at p5;omega
  rw[if_neg k3]
  have:=p4.1
  simp only[C8,CY,e0,e1,e2,e3,and_true]
  omega
 ·exfalso
  unfold hdS at p1
  rw[if_neg g1,if_neg g2,if_neg g3,if_neg g4]at p1
  exact p1 rfl
theorem pd_iff (l:B8) (h:l≠ []):ul l≠0->N0 l:=by
 intro hu
 have e:=KP l h
 rw[if_neg hu]at e
 have h0:=EI l 0
 have e0:(l.getD 0 0).toNat=bt l 0:=rfl
 have e1:(l.getD 1 0).toNat=bt l 1:=rfl
 have e2:(l.getD 2 0).toNat=bt l 2:=rfl
 have e3:(l.getD 3 0).toNat=bt l 3:=rfl
 have h1:=EI l 1
 have h2:=EI l 2
 have h3:=EI l 3
 have hc:¬l.length<rsz (bt l 0)/\AY (Cu l (rb0 (bt l 0)) (rsz (bt l 0)-1))/\Fj (Cu l (rb0 (bt l 0)) (rsz (bt l 0)-1))=l.take (rsz (bt l 0)):=by
  unfold R6 at e
  simp only at e
  split at e
  ·simp only[Prod.mk.injEq]at e;omega
  ·split at e
   ·rename_i a b;exact⟨a,b⟩
   ·simp only[Prod.mk.injEq]at e;omega
 obtain⟨hl,hch,henc⟩:=hc
 by_cases g4:240<=bt l 0
 ·have r4:rsz (bt l 0)=4:=by unfold rsz;rw[if_pos g4]
  have rb:rb0 (bt l 0)=bt l 0%8:=by unfold rb0;rw[if_pos g4]
  rw[r4,rb]at henc hch
  rw[r4]at hl
  rw[JT l (by omega)]at henc
  unfold N0 hdS hdB
  simp only[Nat.reduceSub,Cu,Nat.zero_add,Nat.reduceAdd]at henc hch
  generalize hb0:bt l 0=b0 at*
  generalize hb1:bt l 1=b1 at*
  generalize hb2:bt l 2=b2 at*
  generalize hb3:bt l 3=b3 at*
  have hr0:∃r,r=((b0%8*64+b1%64)*64+b2%64)*64+b3%64:=⟨_,rfl⟩
  obtain⟨r,hr⟩:=hr0
  rw[<-hr]at henc hch
  have hmax:=hch.1
  unfold Fj at henc
  have hw:wid r=4/\b0=240+r/262144/\b1/64=2/\b2/64=2/\b3/64=2:=by
   unfold wid
   split at henc
   ·simp at henc
   ·split at henc
    ·simp at henc
    ·split at henc
     ·simp at henc
     ·simp only[C8,CY,e0,e1,e2,e3,and_true]at henc
      refine⟨by rw[if_neg ‹_›,if_neg ‹_›,if_neg ‹_›],by omega,by omega,by omega,by omega⟩
  rw[if_neg (show ¬b0<128 by omega),if_neg (show ¬(192<=b0/\b0<224) by omega),if_neg (show ¬(224<=b0/\b0<240) by omega),if_pos (show 240<=b0/\b0<248 by omega),if_neg (show ¬b0<128 by omega),if_neg (show ¬(192<=b0/\b0<224) by omega),if_neg (show ¬(224<=b0/\b0<240) by omega),if_pos (show 240<=b0/\b0<248 by omega)]
  simp only[Nat.reduceSub,Cu,Nat.zero_add,Nat.reduceAdd,hb1,hb2,hb3]
  rw[<-hr]
  refine⟨by omega,by omega,fun j j1 j2=>?_,hch,hw.1⟩
  have:j=1∨j=2∨j=3:=by omega
  rcases this with rfl | rfl | rfl<;>omega
 by_cases g3:224<=bt l 0
 ·have r4:rsz (bt l 0)=3:=by unfold rsz;rw[if_neg g4,if_pos g3]
  have rb:rb0 (bt l 0)=bt l 0%16:=by unfold rb0;rw[if_neg g4,if_pos g3]
  rw[r4,rb]at henc hch
  rw[r4]at hl
  rw[GF l (by omega)]at henc
  unfold N0 hdS hdB
  simp only[Nat.reduceSub,Cu,Nat.zero_add,Nat.reduceAdd]at henc hch
  generalize hb0:bt l 0=b0 at*
  generalize hb1:bt l 1=b1 at*
  generalize hb2:bt l 2=b2 at*
  have hr0:∃r,r=(b0%16*64+b1%64)*64+b2%64:=⟨_,rfl⟩
  obtain⟨r,hr⟩:=hr0
  rw[<-hr]at henc hch
  unfold Fj at henc
  have hw:wid r=3/\b1/64=2/\b2/64=2:=by
   unfold wid
   split at henc
   ·simp at henc
   ·split at henc
    ·simp at henc
    ·split at henc
     ·simp only[C8,CY,e0,e1,e2,and_true]at henc
      refine⟨by rw[if_neg ‹_›,if_neg ‹_›,if_pos ‹_›],by omega,by omega⟩
     ·simp at henc
  rw[if_neg (show ¬b0<128 by omega),if_neg (show ¬(192<=b0/\b0<224) by omega),if_pos (show 224<=b0/\b0<240 by omega),if_neg (show ¬b0<128 by omega),if_neg (show ¬(192<=b0/\b0<224) by omega),if_pos (show 224<=b0/\b0<240 by omega)]
  simp only[Nat.reduceSub,Cu,Nat.zero_add,Nat.reduceAdd,hb1,hb2]
  rw[<-hr]
  refine⟨by omega,by omega,fun j j1 j2=>?_,hch,hw.1⟩
  have:j=1∨j=2:=by omega
  rcases this with rfl | rfl<;>omega
 by_cases g2:192<=bt l 0
 ·have r4:rsz (bt l 0)=2:=by unfold rsz;rw[if_neg g4,if_neg g3,if_pos g2]
  have rb:rb0 (bt l 0)=bt l 0%32:=by unfold rb0;rw[if_neg g4,if_neg g3,if_pos g2]
  rw[r4,rb]at henc hch
  rw[r4]at hl
  rw[Ji l (by omega)]at henc
  unfold N0 hdS hdB
  simp only[Nat.reduceSub,Cu,Nat.zero_add,Nat.reduceAdd]at henc hch
  generalize hb0:bt l 0=b0 at*
  generalize hb1:bt l 1=b1 at*
  have hr0:∃r,r=b0%32*64+b1%64:=⟨_,rfl⟩
  obtain⟨r,hr⟩:=hr0
  rw[<-hr]at henc hch
  unfold Fj at henc
  have hw:wid r=2/\b1/64=2:=by
   unfold wid
   split at henc
   ·simp at henc
   ·split at henc
    ·simp only[C8,CY,e0,e1,and_true]at henc
     refine⟨by rw[if_neg ‹_›,if_pos ‹_›],by omega⟩
    ·split at henc<;>simp at henc
  rw[if_neg (show ¬b0<128 by omega),if_pos (show 192<=b0/\b0<224 by omega),if_neg (show ¬b0<128 by omega),if_pos (show 192<=b0/\b0<224 by omega)]
  simp only[Nat.reduceSub,Cu,Nat.zero_add,hb1]
  rw[<-hr]
  refine⟨by omega,by omega,fun j j1 j2=>?_,hch,hw.1⟩
  have:j=1:=by omega
  subst this;omega
 ·have r4:rsz (bt l 0)=1:=by unfold rsz;rw[if_neg g4,if_neg g3,if_neg g2]
  have rb:rb0 (bt l 0)=bt l 0:=by unfold rb0;rw[if_neg g4,if_neg g3,if_neg g2]
  rw[r4,rb]at henc hch
  rw[r4]at hl
  rw[Jj l (by omega)]at henc
  unfold N0 hdS hdB
  simp only[Nat.sub_self,Cu]at henc hch
  generalize hb0:bt l 0=b0 at*
  have hlt:b0<128:=by
   unfold Fj at henc
   split at henc
   ·assumption
   ·split at henc
    ·simp at henc
    ·split at henc<;>simp at henc
  rw[if_pos hlt,if_pos hlt]
  simp only[Nat.sub_self,Cu]
  refine⟨by omega,by omega,fun j j1 j2=>by omega,hch,by unfold wid;rw[if_pos hlt]⟩
theorem P5 {s:B8} {I:Int} {i:Nat} {st:St} {K:Int->Int->St->Prop} (hI:I=(i:Int)) (hl:s.length<=2000000) (hi:i<=s.length) (hk:K ((rD (s.drop i)).1:Nat) ((rD (s.drop i)).2:Nat) st):
  CallT PR FT [.str s,.int .i64 I] [.one (.int .i64),.one (.int .i64)] st K:=by
 have no:¬N0 (s.drop i)->s.drop i≠ []->K 0 0 st:=fun h hne=>by
  have:ul (s.drop i)=0:=Decidable.byContradiction fun h0=>h (pd_iff _ hne h0)
  unfold rD at hk
  rw[if_pos this]at hk;exact hk
 have yes:N0 (s.drop i)->s.drop i≠ []->K (Cu (s.drop i) (hdB (bt (s.drop i) 0)) (hdS (bt (s.drop i) 0)-1):Nat) (hdS (bt (s.drop i) 0):Nat) st:=fun h hne=>by
  have hv:=pd_val _ hne h
  unfold rD at hk
  rw[if_neg (by rw[hv.1];exact h.1),hv.1,hv.2]at hk
  exact hk
 have hlen:(s.drop i).length=s.length-i:=by simp
 have hb:∀j,bt (s.drop i) j=(s.getD (i+j) 0).toNat:=On s i
 refine Mq s I st K (Ab (fun h=>by omega) fun _=>Ab (fun h=>?_) fun h=>⟨⟨by omega,by omega⟩,?_⟩)
 ·have:s.drop i=[]:=List.drop_of_length_le (by omega)
  have h0:rD (s.drop i)=(0,0):=by rw[this];simp[rD,ul]
  rw[h0]at hk;exact hk
 have hne:s.drop i≠ []:=by
  intro h0
  have:=congrArg List.length h0
  rw[hlen]at this;simp only[List.length_nil]at this;omega
 have hb0:(List.getD s (Int.toNat I) 0).toNat=bt (s.drop i) 0:=by rw[hb,hI];rfl
 have hlt:=EI (s.drop i) 0
 rw[hb0]
 refine head_ok rfl hlt ?_
 have hsz:hdS (bt (s.drop i) 0)<=4:=by unfold hdS;(repeat' split)<;>omega
 have hbz:hdB (bt (s.drop i) 0)<256:=by unfold hdB;(repeat' split)<;>omega
 unfold N0 at no yes
 generalize hdS (bt (s.drop i) 0)=n at*
 generalize hdB (bt (s.drop i) 0)=r0 at*
 rw[Ao _ (by omega) (by omega)]
 refine Ab (fun g=>no (fun hh=>hh.1 (by omega)) hne) fun g1=>Ab (fun g=>no (fun hh=>by omega) hne) fun g2=>?_
 have hra:=NZ (s.drop i) r0 hbz
 refine⟨fun r j s' at' sz st2=>s=s'/\I=at'/\st=st2/\((n:Nat):Int)=sz/\∃k:Nat,j=((k+1:Nat):Int)/\k+1<=n/\r=((Cu (s.drop i) r0 k:Nat):Int)/\∀m,1<=m->m<=k->bt (s.drop i) m/64=2,fun _ j _ _ sz _=>(sz-j).toNat,⟨rfl,rfl,rfl,rfl,0,rfl,by omega,rfl,fun m h1 h2=>by omega⟩,?_⟩
 rintro _ _ _ _ _ _ ⟨rfl,rfl,rfl,rfl,k,rfl,hk1,rfl,hall⟩
 have hrk:=hra k
 have h64:64^k<=64^3:=Nat.pow_le_pow_right (by decide) (by omega)
 refine Ab (fun h2=>?_) fun h2=>?_
 ·rw[Ao (I+((k+1:Nat):Int)) (by omega) (by omega)]
  have hbk:(List.getD s (Int.toNat (I+((k+1:Nat):Int))) 0).toNat=bt (s.drop i) (k+1):=by
   rw[hb,show Int.toNat (I+((k+1:Nat):Int))=i+(k+1) by omega]
  have hbl:=EI (s.drop i) (k+1)
  have h192:AL .and .u8 ((bt (s.drop i) (k+1):Nat):Int) (192:Int)=((bt (s.drop i) (k+1)&&&192:Nat):Int):=Ud _ 192 hbl (by decide)
  have hand:i64.wrap (AL .and .u8 ((bt (s.drop i) (k+1):Nat):Int) (63:Int))=((bt (s.drop i) (k+1)%64:Nat):Int):=by
   rw[show(63:Int)=((2^6-1:Nat):Int) by decide,Io _ 6 hbl (by decide),Ao _ (by omega) (by omega)]
  have hmul:i64.wrap (((Cu (s.drop i) r0 k:Nat):Int)*2^(min (Int.toNat (6:Int)) (IntKind.bits .i64)))=((Cu (s.drop i) r0 k*2^6:Nat):Int):=by
   rw[show(2:Int)^(min (Int.toNat (6:Int)) (IntKind.bits .i64))=64 by decide,Ao _ (by omega) (by omega)];omega
  have hc:(bt (s.drop i) (k+1)&&&192)=128↔bt (s.drop i) (k+1)/64=2:=by
   have:∀x,x<256->((x&&&192)=128↔x/64=2):=by decide+kernel
   exact this _ hbl
  refine⟨⟨by omega,by omega⟩,?_⟩
  rw[hbk,h192,hand,hmul,Qr _ _ 6 (by omega) (by omega),Ao _ (by omega) (by omega)]
  refine Ab (fun h3=>no (fun hh=>h3 ?_) hne) fun h3=>?_
  ·have:=hh.2.2.1 (k+1) (by omega) (by omega)
   rw[hc.2 this];rfl
  ·have h4:bt (s.drop i) (k+1)/64=2:=hc.1 (by omega)
   refine⟨⟨rfl,rfl,rfl,rfl,k+1,by omega,by omega,by simp only[Cu],fun m m1 m2=>?_⟩,by dsimp only;omega⟩
   by_cases hm:m=k+1
   ·rw[hm];exact h4
   ·exact hall m m1 (by omega)
 ·have hks:k=n-1:=by omega
  subst hks
  refine R0 rfl (As (fun h3=>no (fun hh=>?_) hne) fun h3=>SN rfl (Ab (fun h4=>no (fun hh=>?_) hne) fun h4=>?_))
  ·simp only[Bool.not_eq_true',decide_eq_false_iff_not]at h3
   exact h3 hh.2.2.2.1
  ·rw[hh.2.2.2.2]at h4;exact h4 rfl
  ·simp only[Bool.not_eq_false',decide_eq_true_eq]at h3
   exact yes ⟨by omega,by omega,fun m m1 m2=>hall m m1 (by omega),h3,by omega⟩ hne
theorem uLen_ok {s:B8} {st:St} {K:Int->Int->St->Prop} (hl:s.length<=2000000) (hk:∀n:Int,K n (if D0 s=s.length then 0 else 5) st):CallT PR I6 [.str s] [.one (.int .i64),.one (.int .i64)] st K:=by
 have hv:=OE s
 refine P4 s st K ⟨fun n i s' st'=>s=s'/\st=st'/\∃k:Nat,i=(k:Int)/\k<=s.length/\k+D0 (s.drop k)=D0 s,fun _ i _ _=>(s.length-i).toNat,⟨rfl,rfl,0,rfl,by omega,by simp⟩,?_⟩
 rintro n _ _ _ ⟨rfl,rfl,k,rfl,h1,h2⟩
 refine Ab (fun g1=>P5 rfl hl h1 ?_) fun g1=>?_
 ·have hle:=OI (s.drop k)
  rw[List.length_drop]at hle
  unfold rD
  by_cases h0:ul (s.drop k)=0
  ·rw[if_pos h0]
   rw[BW _ h0]at h2
   have:=hk 0
   rw[if_neg (by omega)]at this
   exact Ab (fun _=>this) fun h=>absurd rfl h
  ·rw[if_neg h0]
   rw[F9 _ h0,List.drop_drop]at h2
   refine Ab (fun h=>absurd h (by show ¬((ul (s.drop k):Nat):Int)=0;omega)) fun _=>?_
   have w:i64.wrap ((k:Int)+(ul (s.drop k):Nat))=((k+ul (s.drop k):Nat):Int):=by rw[Ao _ (by omega) (by omega)];omega
   dsimp only
   rw[w]
   exact⟨⟨rfl,rfl,_,rfl,by omega,by omega⟩,by omega⟩
 ·rw[show s.drop k=[]from List.drop_of_length_le (by omega),K6]at h2
  have:=hk n
  rw[if_pos (by omega)]at this
  exact this
theorem MQ {s:B8} {st:St} {K:Bool->St->Prop} (hl:s.length<=2000000) (hk:K (decide (D0 s=s.length)) st):CallT PR ES [.str s] [.one (.bool)] st K:=by
 refine NH s st K (uLen_ok hl fun n=>?_)
 by_cases h:D0 s=s.length
 ·rw[if_pos h];rw[decide_eq_true h]at hk;exact hk
 ·rw[if_neg h];rw[decide_eq_false h]at hk;exact hk
theorem NJ {l:B8} {c:UInt8} (hc:c.toNat<128) (hl:l.length<=9223372036854775807) {st:St} {K:B8->St->Prop} (hk:K (Lib.trimRightB l c) st):CallT PR Er [.str l,.str [c]] [.one .str] st K:=by
 refine GE (fun _ _=>by kernel_rfl) fun g w vargs s hr=>?_
 obtain⟨v,u,rfl,hv,hu⟩:=SX hr
 rw[HJ hv,HJ hu]
 refine Calls.mono (Tryz.strings_TrimRight_one ⟨l.toArray⟩ c hc w (by simpa [ByteArray.size]using hl)) ?_
 rintro e w' ⟨rfl,rfl⟩
 exact⟨_,rfl,.str _,st,g,hk,s,Rel.str _,Ext.refl _ _⟩
theorem Lj (l:B8):(Lib.trimRightB l 48).length+Gu l=l.length:=by
 unfold Lib.trimRightB Gu
 have:=congrArg List.length (List.takeWhile_append_dropWhile (p:=fun x:UInt8=>x==48) (l:=l.reverse))
 rw[List.length_append,List.length_reverse]at this
 rw[List.length_reverse];omega
theorem SL {l:B8} (hl:l.length<=2000000) {st:St} {K:Int->St->Prop} (hk:K (Gu l:Nat) st):CallT PR Ex [.str l] [.one (.int .i64)] st K:=by
 refine KF _ st K (NJ (by decide) (by omega) ?_)
 have:=Lj l
 rw[Ao _ (by omega) (by omega),show((l.length:Nat):Int)-((Lib.trimRightB l 48).length:Int)=(Gu l:Nat) by omega]
 exact hk
theorem P8 {p:UInt8->Bool}:∀(r:B8) (n:Nat),n<=r.length->(∀j x,j<n->r[j]? =some x->p x=true)->(∀x,r[n]? =some x->p x=false)->(r.takeWhile p).length=n
 | [],n,h,_,_=>by simp at h;simp[h]
 | a::r,0,_,_,h=>by simp[List.takeWhile_cons,h a rfl]
 | a::r,n+1,h,h1,h2=>by
  rw[List.takeWhile_cons,if_pos (h1 0 a (by omega) rfl),List.length_cons,P8 r n (by simpa using h) (fun j x hj hx=>h1 (j+1) x (by omega) (by simpa using hx)) (fun x hx=>h2 x (by simpa using hx))]
theorem SW (l:B8) (n:Nat) (h:n<l.length):l.reverse[n]? =some (List.getD l (l.length-1-n) 0):=by
 rw[List.getElem?_reverse h,List.getD_eq_getElem?_getD,List.getElem?_eq_getElem (by omega),Option.getD_some]
theorem R3 {l:B8} (hl:l.length<=2000000) {st:St} {K:Int->St->Prop} (hk:K (Gu l:Nat) st):CallT PR CN [.str l] [.one (.int .i64)] st K:=by
 refine Hj l st K ⟨fun i s st'=>l=s/\st=st'/\∃n:Nat,i=n/\n<=l.length/\∀j x,j<n->l.reverse[j]? =some x->(x==48)=true,fun i _ _=>(l.length-i).toNat,⟨rfl,rfl,0,rfl,Nat.zero_le _,fun j x hj=>absurd hj (Nat.not_lt_zero _)⟩,?_⟩
 rintro _ _ _ ⟨rfl,rfl,n,rfl,hn,hall⟩
 refine Ab (fun g=>?_) fun g=>?_
 ·have hr:=SW l n (by omega)
  rw[Ao ((l.length:Int)-1) (by omega) (by omega),Ao _ (by omega) (by omega),show Int.toNat ((l.length:Int)-1-(n:Int))=l.length-1-n by omega]
  refine⟨⟨by omega,by omega⟩,?_⟩
  generalize List.getD l (l.length-1-n) 0=c at hr⊢
  refine Ab (fun g2=>?_) fun g2=>?_
  ·rw[Ao _ (by omega) (by omega)]
   refine⟨⟨rfl,rfl,n+1,by omega,by omega,fun j x hj hx=>?_⟩,by dsimp only;omega⟩
   by_cases hjn:j=n
   ·subst hjn
    rw[hr]at hx
    rw[<-Option.some.inj hx]
    simpa [<-UInt8.toNat_inj]using (by omega:c.toNat=48)
   ·exact hall j x (by omega) hx
  ·have:Gu l=n:=P8 _ n (by simpa using hn) hall fun x hx=>by
    rw[hr]at hx
    rw[<-Option.some.inj hx]
    have:c≠48:=fun e=>g2 (by rw[e];rfl)
    simpa using this
   rw[<-this];exact hk
 ·have:Gu l=n:=P8 _ n (by simpa using hn) hall fun x hx=>by
   rw[List.getElem?_eq_none (by simp;omega)]at hx;cases hx
  rw[<-this];exact hk
theorem Pv {l:B8} {n:Nat} (h:n<l.length):List.getD l n 0∈l:=by
 rw[List.getD_eq_getElem?_getD,List.getElem?_eq_getElem h,Option.getD_some]
 exact List.getElem_mem h
theorem PY {P:UInt8->Prop} {l:B8} {n:Nat} (h:n<l.length) (h1:∀c,c∈l.take n->P c) (h2:P (List.getD l n 0)):∀c,c∈l.take (n+1)->P c:=by
 intro c hc
 rw[Gm _ _ 0 h]at hc
 rcases List.mem_append.1 hc with hc | hc
 ·exact h1 c hc
 ·rw[List.mem_singleton.1 hc];exact h2
theorem all_ok {l:B8} (hl:l.length<=2000000) {st:St} {K:Bool->St->Prop} (hk:K (decide (∀c,c∈l->I4 c)) st):CallT PR FU [.str l] [.one .bool] st K:=by
 refine Mr l st K ⟨fun i s m st'=>l=s/\(l.length:Int)=m/\st=st'/\∃n:Nat,i=n/\n<=l.length/\∀c,c∈l.take n->I4 c,fun i _ _ _=>(l.length-i).toNat,⟨rfl,rfl,rfl,0,rfl,Nat.zero_le _,fun c hc=>by simp at hc⟩,?_⟩
 rintro _ _ _ _ ⟨rfl,rfl,rfl,n,rfl,hn,hall⟩
 refine Ab (fun g=>?_) fun g=>?_
 ·have hm:=Pv (l:=l) (n:=n) (by omega)
  have bad:¬I4 (List.getD l n 0)->K false st:=fun hb=>by
   rw[decide_eq_false fun h=>hb (h _ hm)]at hk;exact hk
  rw[Int.toNat_natCast]
  refine⟨⟨by omega,by omega⟩,Ab (fun g2=>bad (by unfold I4;omega)) fun g2=>⟨⟨by omega,by omega⟩,Ab (fun g3=>bad (by unfold I4;omega)) fun g3=>?_⟩⟩
  rw[Ao _ (by omega) (by omega)]
  exact⟨⟨rfl,rfl,rfl,n+1,by omega,by omega,PY (by omega) hall (by unfold I4;omega)⟩,by dsimp only;omega⟩
 ·have:n=l.length:=by omega
  subst this
  rw[List.take_length]at hall
  rw[decide_eq_true hall]at hk;exact hk
theorem Qo {l:B8} (hl:l.length<=2000000) {st:St} {K:Bool->St->Prop} (hk:K (decide (∀c,c∈l->I4 c)) st):CallT PR Cs [.str l] [.one .bool] st K:=by
 refine GB l st K ⟨fun i s st'=>l=s/\st=st'/\∃n:Nat,i=n/\n<=l.length/\∀c,c∈l.take n->I4 c,fun i _ _=>(l.length-i).toNat,⟨rfl,rfl,0,rfl,Nat.zero_le _,fun c hc=>by simp at hc⟩,?_⟩
 rintro _ _ _ ⟨rfl,rfl,n,rfl,hn,hall⟩
 refine Ab (fun g=>?_) fun g=>?_
 ·have hm:=Pv (l:=l) (n:=n) (by omega)
  have bad:¬I4 (List.getD l n 0)->K false st:=fun hb=>by
   rw[decide_eq_false fun h=>hb (h _ hm)]at hk;exact hk
  rw[Int.toNat_natCast]
  refine⟨⟨by omega,by omega⟩,Ab (fun g2=>bad (by unfold I4;omega)) fun g2=>⟨⟨by omega,by omega⟩,Ab (fun g3=>bad (by unfold I4;omega)) fun g3=>?_⟩⟩
  rw[Ao _ (by omega) (by omega)]
  exact⟨⟨rfl,rfl,n+1,by omega,by omega,PY (by omega) hall (by unfold I4;omega)⟩,by dsimp only;omega⟩
 ·have:n=l.length:=by omega
  subst this
  rw[List.take_length]at hall
  rw[decide_eq_true hall]at hk;exact hk
def JN (l:B8):Prop:=l.length<=600/\(∀c,c∈l->I4 c)/\(l≠ []->l.getD 0 0≠48)
instance (l:B8):Decidable (JN l):=inferInstanceAs (Decidable (_/\_/\(_->_)))
theorem ne48 (c:UInt8):decide ((c.toNat:Int)≠48)=decide (c≠48):=by
 have:((c.toNat:Int)≠48)↔c≠48:=by rw[ne_eq,ne_eq,<-UInt8.toNat_inj];exact not_congr ⟨fun h=>Int.ofNat.inj h,fun h=>by rw[h];rfl⟩
 exact decide_eq_decide.2 this
theorem Sx {l:B8} (hl:l.length<=2000000) {st:St} {K:Bool->St->Prop} (hk:K (decide (JN l)) st):CallT PR Ey [.str l] [.one .bool] st K:=by
 have no:¬JN l->K false st:=fun h=>by rw[decide_eq_false h]at hk;exact hk
 refine KG l st K (Ab (fun g=>all_ok hl (Ab (fun g2=>Ab (fun g3=>?_) fun g3=>⟨⟨by omega,by have:=List.length_pos_iff.2 g3;omega⟩,?_⟩) fun g2=>no fun h=>g2 h.2.1)) fun g=>no fun h=>g (by have:=h.1;omega))
 ·rw[decide_eq_true (show JN l from⟨by omega,g2,fun h=>absurd g3 h⟩)]at hk;exact hk
 ·rw[ne48]
  refine Gt (decide_eq_decide.2 ?_) hk
  exact⟨fun h=>⟨by omega,g2,fun _=>h⟩,fun h=>h.2.2 g3⟩
theorem rNum_ok {l:B8} (hl:l.length<=2000000) {st:St} {K:Bool->St->Prop} (hk:K (decide (JN l)) st):CallT PR CO [.str l] [.one .bool] st K:=by
 have no:¬JN l->K false st:=fun h=>by rw[decide_eq_false h]at hk;exact hk
 refine Hk l st K (Ab (fun g=>Qo hl (Ab (fun g2=>Ab (fun g3=>?_) fun g3=>⟨⟨by omega,by omega⟩,?_⟩) fun g2=>no fun h=>g2 h.2.1)) fun g=>no fun h=>g (by have:=h.1;omega))
 ·rw[decide_eq_true (show JN l from⟨by omega,g2,fun h=>absurd (List.eq_nil_of_length_eq_zero (by omega)) h⟩)]at hk;exact hk
 ·rw[ne48]
  refine Gt (decide_eq_decide.2 ?_) hk
  exact⟨fun h=>⟨by omega,g2,fun _=>h⟩,fun h=>h.2.2 fun e=>g3 (by rw[e];rfl)⟩
theorem CC {neg:Bool} {l:B8} {ex:Int} (h:l≠ []):DO neg l ex↔JN l/\l.length<=120/\Gu l=0/\ -400<=ex/\ex<=400:=by
 unfold DO JN
 constructor
 ·intro g
  obtain⟨g1,g2,g3,g4,g5,g6⟩:=g.2 h
  exact⟨⟨by omega,g2,fun _=>g3⟩,g1,g4,g5,g6⟩
 ·rintro⟨⟨g1,g2,g3⟩,g4,g5,g6,g7⟩
  exact⟨fun e=>absurd e h,fun _=>⟨g4,g2,g3 h,g5,g6,g7⟩⟩
theorem Ij {neg:Bool} {ex:Int}:DO neg [] ex↔neg=false/\ex=0:=by
 unfold DO
 exact⟨fun g=>g.1 rfl,fun g=>⟨fun _=>g,fun h=>absurd rfl h⟩⟩
theorem PE {neg:Bool} {l:B8} {ex:Int} (hl:l.length<=2000000) {st:St} {K:Bool->St->Prop} (hk:K (decide (DO neg l ex)) st):CallT PR Eb [.agg [.bool neg,.str l,.int .i64 ex]] [.one .bool] st K:=by
 have no:¬DO neg l ex->K false st:=fun h=>by rw[decide_eq_false h]at hk;exact hk
 refine JR _ _ _ st K (Ab (fun g=>?_) fun g=>?_)
 ·subst g
  refine Gt ?_ hk
  rw[Bool.eq_iff_iff]
  simp[Ij]
 ·refine Sx hl (Ab (fun g2=>Ab (fun g3=>SL hl (Ab (fun g4=>Ab (fun g5=>?_) fun g5=>?_) fun g4=>?_)) fun g3=>?_) fun g2=>?_)
  ·exact Gt (decide_eq_decide.2 (by rw[CC g];exact⟨fun h=>⟨g2,by omega,by omega,g5,h⟩,fun h=>h.2.2.2.2⟩)) hk
  ·exact no fun h=>g5 ((CC g).1 h).2.2.2.1
  ·exact no fun h=>g4 (by have:=((CC g).1 h).2.2.1;omega)
  ·exact no fun h=>g3 (by have:=((CC g).1 h).2.1;omega)
  ·exact no fun h=>g2 ((CC g).1 h).1
theorem rDec_ok {neg:Bool} {l:B8} {ex:Int} (hl:l.length<=2000000) {st:St} {K:Bool->St->Prop} (hk:K (decide (DO neg l ex)) st):CallT PR CM [.agg [.bool neg,.str l,.int .i64 ex]] [.one .bool] st K:=by
 have no:¬DO neg l ex->K false st:=fun h=>by rw[decide_eq_false h]at hk;exact hk
 refine Hi _ _ _ st K (Ab (fun g=>?_) fun g=>?_)
 ·subst g
  cases neg
  ·exact Gt (by rw[Bool.eq_iff_iff];simp[Ij]) hk
  ·exact Gt (by rw[Bool.eq_iff_iff];simp[Ij]) hk
 ·refine Ab (fun g3=>rNum_ok hl (Ab (fun g2=>R3 hl (Ab (fun g4=>Ab (fun g5=>?_) fun g5=>?_) fun g4=>?_)) fun g2=>?_)) fun g3=>?_
  ·exact Gt (decide_eq_decide.2 (by rw[CC g];exact⟨fun h=>⟨g2,by omega,by omega,g5,h⟩,fun h=>h.2.2.2.2⟩)) hk
  ·exact no fun h=>g5 ((CC g).1 h).2.2.2.1
  ·exact no fun h=>g4 (by have:=((CC g).1 h).2.2.1;omega)
  ·exact no fun h=>g2 ((CC g).1 h).1
  ·exact no fun h=>g3 (by have:=((CC g).1 h).2.1;omega)
theorem NK {k d n z:Int} {st:St} {K:Bool->St->Prop} (hk:K (decide (Du k d n z)) st):CallT PR DA [.agg [.int .i64 k,.int .i64 d,.int .i64 n,.int .i64 z]] [.one .bool] st K:=by
 refine KE _ _ _ _ st K ?_
 repeat' first
  | exact Gt (Eq.symm (decide_eq_false (by unfold Du;omega))) hk
  | exact Gt (Eq.symm (decide_eq_true (by unfold Du;omega))) hk
  | exact Gt (decide_eq_decide.2 (by unfold Du;omega)) hk
  | refine Ab (fun _=>?_) fun _=>?_
theorem TS {k:Int} {st:St} {K:Bool->St->Prop} (hk:K (decide (k=1∨k=3∨k=4)) st):CallT PR CK [.int .i64 k] [.one .bool] st K:=by
 refine Hf _ st K ?_
 repeat' first
  | exact Gt (Eq.symm (decide_eq_true (by omega))) hk
  | exact Gt (decide_eq_decide.2 (by omega)) hk
  | refine Ab (fun _=>?_) fun _=>?_
theorem QR {k:Int} {st:St} {K:Bool->St->Prop} (hk:K (decide (k=2∨k=3∨k=4)) st):CallT PR Bs [.int .i64 k] [.one .bool] st K:=by
 refine Ga _ st K ?_
 repeat' first
  | exact Gt (Eq.symm (decide_eq_true (by omega))) hk
  | exact Gt (decide_eq_decide.2 (by omega)) hk
  | refine Ab (fun _=>?_) fun _=>?_
theorem S0 {k d n z:Int} {st:St} {K:Bool->St->Prop} (hk:K (decide (Du k d n z)) st):CallT PR CL [.agg [.int .i64 k,.int .i64 d,.int .i64 n,.int .i64 z]] [.one .bool] st K:=by
 refine Hg _ _ _ _ st K ?_
 repeat' first
  | exact Gt (Eq.symm (decide_eq_false (by unfold Du;omega))) hk
  | exact Gt (Eq.symm (decide_eq_true (by unfold Du;omega))) hk
  | exact Gt (decide_eq_decide.2 (by unfold Du;omega)) hk
  | refine Ab (fun _=>?_) fun _=>?_
  | refine TS ?_
  | refine QR ?_
theorem orc {c p r:Bool} {K:Bool->Prop} {R1 R2:Prop} (h1:K r->R1) (h2:K r->R2) (hk:K ((c&&p) || r)):BIf c (BIf p (K true) R1) R2:=by
 cases c<;>cases p<;>simp only[Bool.true_and,Bool.false_and,Bool.true_or,Bool.false_or]at hk<;>first | exact h1 hk | exact h2 hk | exact hk
theorem orn {c p r s:Bool} {K:Bool->Prop} {R1 R2:Prop} (hs:s=true) (h1:K r->R1) (h2:K r->R2) (hk:K ((c&&p) || r)):BIf c (need s (BIf p (K true) R1)) R2:=by
 subst hs;exact orc h1 h2 hk
theorem ore {c p s:Bool} {K:Bool->Prop} (hs:s=true) (hk:K (c&&p)):BIf c (need s (K p)) (K false):=by
 subst hs;cases c<;>exact hk
def exB (s:Sc) (l:List Vl) (f:List Fd):Bool:=
 (decide (s.kind≠1)&&s.b) || ((decide (s.kind≠2)&& !((s.neg==false)&&(decide (s.dg=[])&&(decide (s.ex=0)&&true)))) || ((decide (s.kind≠3)&& !(decide (s.tk=0)&&(decide (s.td=0)&&(decide (s.tn=0)&&(decide (s.tz=0)&&true))))) ||
  ((decide (s.kind≠4)&&decide (s.text≠ [])) || ((decide (s.kind≠5)&&decide (0<(s.bytes.length:Int))) || ((decide (s.kind≠6)&&decide (0<(l.length:Int))) || (decide (s.kind≠7)&&decide (0<(f.length:Int))))))))
theorem Tn {α:Type} {l:List α}:¬0<(l.length:Int)↔l=[]:=by
 rw[<-List.length_eq_zero_iff];omega
theorem Nj {s:Sc} {l:List Vl} {f:List Fd} (h0:0<=s.kind) (h7:s.kind<=7):exB s l f=false↔Gr s l f:=by
 unfold exB
 simp only[Bool.or_eq_false_iff,Bool.and_eq_false_imp,decide_eq_true_eq,Bool.not_eq_false',Bool.and_eq_true,beq_iff_eq,decide_eq_false_iff_not,Tn,ne_eq,Decidable.not_not,and_true]
 constructor
 ·rintro⟨a,b,c,d,e,f,g⟩;exact⟨h0,h7,a,b,c,d,e,f,g⟩
 ·rintro⟨_,_,a,b,c,d,e,f,g⟩;exact⟨a,b,c,d,e,f,g⟩
theorem exB_eq {s:Sc} {l:List Vl} {f:List Fd} (h0:0<=s.kind) (h7:s.kind<=7):exB s l f= !decide (Gr s l f):=by
 cases h:exB s l f with
 | false=>rw[decide_eq_true ((Nj h0 h7).1 h)];rfl
 | true=>rw[decide_eq_false fun o=>by rw[(Nj h0 h7).2 o]at h;cases h];rfl
theorem TH {s:Sc} {l:List Vl} {f:List Fd} {ub ul uf:TV} {st:St} {K:Bool->St->Prop} (h1:isSl ub=true) (h2:isSl ul=true) (h3:isSl uf=true) (l1:lenS ub=s.bytes.length) (l2:lenS ul=l.length) (l3:lenS uf=f.length) (hk:K (exB s l f) st):
  CallT PR Fg [.agg (Aq s ub ul uf)] [.one .bool] st K:=by
 unfold exB at hk
 refine K8 _ _ _ _ _ _ _ _ _ _ _ _ _ st K ?_
 rw[l1,l2,l3]
 revert hk
 repeat' first
  | (refine fun hk=>ore (K:=fun b=>K b st) h3 hk)
  | (refine fun hk=>orn (K:=fun b=>K b st) h1 ?_ ?_ hk)
  | (refine fun hk=>orn (K:=fun b=>K b st) h2 ?_ ?_ hk)
  | (refine fun hk=>orc (K:=fun b=>K b st) ?_ ?_ hk)
theorem oac {c p r:Bool} {K:Bool->Prop} {R1 R2:Prop} (h1:K r->R1) (h2:K r->R2) (hk:K (!(c&&p)&&r)):BIf c (BIf p (K false) R1) R2:=by
 cases c<;>cases p<;>simp only[Bool.true_and,Bool.false_and,Bool.not_true,Bool.not_false]at hk<;>first | exact h1 hk | exact h2 hk | exact hk
theorem oaf {c r:Bool} {K:Bool->Prop} {R:Prop} (h:K r->R) (hk:K (!c&&r)):BIf c (K false) R:=by
 cases c<;>simp only[Bool.true_and,Bool.false_and,Bool.not_true,Bool.not_false]at hk<;>first | exact h hk | exact hk
theorem oab {c p r:Bool} {K:Bool->Prop} {R1 R2:Prop} (h1:K r->R1) (h2:K r->R2) (hk:K ((c || p)&&r)):BIf c R1 (BIf p R2 (K false)):=by
 cases c<;>cases p<;>simp only[Bool.true_and,Bool.false_and,Bool.or_true,Bool.or_false,Bool.true_or,Bool.false_or]at hk<;>first | exact h1 hk | exact h2 hk | exact hk
theorem oan {c p r s:Bool} {K:Bool->Prop} {R1 R2:Prop} (hs:s=true) (h1:K r->R1) (h2:K r->R2) (hk:K ((c || p)&&r)):BIf c R1 (need s (BIf p R2 (K false))):=by
 subst hs;exact oab h1 h2 hk
theorem oae {c p s:Bool} {K:Bool->Prop} (hs:s=true) (hk:K (c || p)):BIf c (K true) (need s (K p)):=by
 subst hs;cases c<;>exact hk
def owB (s:Sc) (l:List Vl) (f:List Fd):Bool:=
 !decide (s.kind<0)&&(!decide (7<s.kind)&&(!(decide (s.kind≠1)&&s.b)&&(!(decide (s.kind≠2)&& !((s.neg==false)&&(decide (s.dg=[])&&(decide (s.ex=0)&&true))))&&(!(decide (s.kind≠3)&& !(decide (s.tk=0)&&(decide (s.td=0)&&(decide (s.tn=0)&&(decide (s.tz=0)&&true)))))&&
  ((decide (s.kind=4) || decide (s.text=[]))&&((decide (s.kind=5) || decide ((s.bytes.length:Int)=0))&&((decide (s.kind=6) || decide ((l.length:Int)=0))&&(decide (s.kind=7) || decide ((f.length:Int)=0)))))))))
theorem Sj {α:Type} {l:List α}:(l.length:Int)=0↔l=[]:=by
 rw[<-List.length_eq_zero_iff];omega
theorem S7 {s:Sc} {l:List Vl} {f:List Fd}:owB s l f=true↔Gr s l f:=by
 unfold owB
 simp only[Bool.and_eq_true,Bool.not_eq_true',Bool.or_eq_true,Bool.and_eq_false_imp,decide_eq_true_eq,Bool.not_eq_false',beq_iff_eq,decide_eq_false_iff_not,Sj,ne_eq,and_true,Int.not_lt]
 constructor
 ·rintro⟨h0,h7,a,b,c,d,e,f,g⟩
  exact⟨h0,h7,a,b,c,fun h=>d.resolve_left h,fun h=>e.resolve_left h,fun h=>f.resolve_left h,fun h=>g.resolve_left h⟩
 ·rintro⟨h0,h7,a,b,c,d,e,f,g⟩
  exact⟨h0,h7,a,b,c,Decidable.or_iff_not_imp_left.2 d,Decidable.or_iff_not_imp_left.2 e,Decidable.or_iff_not_imp_left.2 f,Decidable.or_iff_not_imp_left.2 g⟩
theorem owB_eq {s:Sc} {l:List Vl} {f:List Fd}:owB s l f=decide (Gr s l f):=by
 rw[Bool.eq_iff_iff,decide_eq_true_eq];exact S7
theorem own_ok {s:Sc} {l:List Vl} {f:List Fd} {ub ul uf:TV} {st:St} {K:Bool->St->Prop} (h1:isSl ub=true) (h2:isSl ul=true) (h3:isSl uf=true) (l1:lenS ub=s.bytes.length) (l2:lenS ul=l.length) (l3:lenS uf=f.length) (hk:K (decide (Gr s l f)) st):
  CallT PR Dr [.agg (Aq s ub ul uf)] [.one .bool] st K:=by
 rw[<-owB_eq]at hk
 unfold owB at hk
 refine Ir _ _ _ _ _ _ _ _ _ _ _ _ _ st K ?_
 rw[l1,l2,l3]
 revert hk
 repeat' first
  | (refine fun hk=>oae (K:=fun b=>K b st) h3 hk)
  | (refine fun hk=>oan (K:=fun b=>K b st) h1 ?_ ?_ hk)
  | (refine fun hk=>oan (K:=fun b=>K b st) h2 ?_ ?_ hk)
  | (refine fun hk=>oab (K:=fun b=>K b st) ?_ ?_ hk)
  | (refine fun hk=>oac (K:=fun b=>K b st) ?_ ?_ hk)
  | (refine fun hk=>oaf (K:=fun b=>K b st) ?_ hk)
theorem key_ok {s:B8} (hl:s.length<=2000000) {st:St} {K:Int->St->Prop} (hk:K ((if U8 s then(if 1024<s.length then 10 else 0)else 5:Nat):Int) st):CallT PR GR [.str s] [.one (.int .i64)] st K:=by
 refine NF _ st K (MQ hl (As (fun g=>?_) fun g=>?_))
 ·have hu:¬U8 s:=by unfold U8;simpa using g
  rw[if_neg hu]at hk;exact hk
 ·have hu:U8 s:=by unfold U8;simpa using g
  rw[if_pos hu]at hk
  refine Ab (fun g2=>?_) fun g2=>?_
  ·have h3:1024<s.length:=by omega
   rw[if_pos h3]at hk;exact hk
  ·have h3:¬1024<s.length:=by omega
   rw[if_neg h3]at hk;exact hk
theorem I7 (k k':B8) (v:TV):∀es:List (B8×TV),Az k (FL k' v es)=if k=k' then some v else Az k es
 | []=>by
  simp only[FL,Az]
  by_cases h:k=k'<;>simp[h]
 | (k1,v1)::es=>by
  simp only[FL]
  by_cases h1:k'=k1
  ·simp only[h1,decide_true,Az]
   by_cases h:k=k1<;>simp[h]
  ·simp only[h1,decide_false,Az,I7 k k' v es]
   by_cases h:k=k1
   ·simp[h,Ne.symm h1]
   ·simp[h]
def MapN (es:List (B8×TV)) (ns:List B8):Prop:=∀t,Az t es=if t∈ns then some (.bool true)else none
theorem MapN.add {es:List (B8×TV)} {ns:List B8} (h:MapN es ns) (t:B8):MapN (FL t (.bool true) es) (t::ns):=by
 intro k
 rw[I7]
 by_cases hk:k=t
 ·simp[hk]
 ·rw[if_neg hk,h k];simp[hk]
theorem GO (seen:List B8) (d:Fd) (r:List Fd):Cg seen (d::r)=if U8 d.key then(if 1024<d.key.length then 10 else if d.key∈seen then 8 else Cg (d.key::seen) r)else 5:=rfl
theorem Kw:∀(f:List Fd) (s s':List B8),(∀x,x∈s↔x∈s')->Cg s f=Cg s' f
 | [],s,s',_=>rfl
 | d::r,s,s',h=>by
  rw[GO,GO,Kw r (d.key::s) (d.key::s') (fun x=>by simp[h x])]
  by_cases hd:d.key∈s
  ·rw[if_pos hd,if_pos ((h _).1 hd)]
  ·rw[if_neg hd,if_neg fun g=>hd ((h _).2 g)]
theorem CA {α:Type} {l:List α} {k:Nat} {x:α} (h:l[k]? =some x):l.drop k=x::l.drop (k+1):=by
 obtain⟨q1,q2⟩:=List.getElem?_eq_some_iff.1 h
 rw[List.drop_eq_getElem_cons q1,q2]
theorem Rt {f:List Fd} {d:Fd} (h:d∈f):d.key.length<=Bq f:=by
 have:=JE h
 cases d;unfold Fd.sz at this;simp only[Fd.key];omega
theorem keys_ok {st0 st:St} {uf:TV} {xf:List TV} {f:List Fd} (hke:Bg st0 st) (h4:SlR st0 14 uf f.length xf) (h5:FsR st0 f xf) (hN:Bq f<=2000000) {K:Int->St->Prop} (hk:∀st',Aj st st'->K (Cg [] f:Nat) st'):
  CallT PR FQ [uf] [.one (.int .i64)] st K:=by
 have hfl:=B1 f
 refine Ml _ st K (Aa h4.isSl ⟨fun i m u n st'=> .map st.nb=m/\uf=u/\(f.length:Int)=n/\∃(k:Nat) (ns:List B8) (es:List (B8×TV)),i=k/\k<=f.length/\Aj st st'/\st.nb<st'.nb/\st'.box st.nb= .map es/\MapN es ns/\Cg [] f=Cg ns (f.drop k),fun i _ _ _ _=>(f.length-i).toNat,
  ⟨rfl,rfl,by rw[h4.lenS],0,[],[],rfl,Nat.zero_le _,(Aj.refl st).push _ _,by simp[St.push],by simp[St.push],fun t=>by simp[Az],rfl⟩,?_⟩)
 rintro _ _ _ _ st1 ⟨rfl,rfl,rfl,k,ns,es,rfl,hkf,e1,hb,hm,hns,hE⟩
 refine Ab (fun g=>?_) fun g=>?_
 ·refine el14 (hke.trans e1.keeps) h4 h5 rfl (by omega) fun key s' l' f' ub1 ul1 uf1 gw hw on=>Aa on ?_
  have hmem:=Fc gw
  have hkl:=Rt hmem
  rw[CA gw,GO]at hE
  change Cg [] f=if U8 key then(if 1024<key.length then 10 else if key∈ns then 8 else Cg (key::ns) (f.drop (k+1)))else 5 at hE
  change key.length<=_ at hkl
  refine key_ok (by omega) ?_
  by_cases g1:U8 key
  case neg=>
   rw[if_neg g1]at hE⊢
   refine Ab (fun _=>?_) fun h=>absurd (by decide) h
   rw[<-hE];exact hk st1 e1
  rw[if_pos g1]at hE⊢
  by_cases g2:1024<key.length
  ·rw[if_pos g2]at hE⊢
   refine Ab (fun _=>?_) fun h=>absurd (by decide) h
   rw[<-hE];exact hk st1 e1
  rw[if_neg g2]at hE⊢
  refine Ab (fun h=>absurd rfl h) fun _=>Ad (x:=es) (by simp only[EF,hm]) ?_
  rw[hns key]
  by_cases g3:key∈ns
  ·rw[if_pos g3]at hE⊢
   refine Gp (As (fun _=>?_) fun h=>by cases h)
   have:=hk st1 e1
   rw[hE]at this;exact this
  ·rw[if_neg g3]at hE⊢
   refine Gp (As (fun h=>by cases h) fun _=>⟨es,hm,?_⟩)
   rw[Ao _ (by omega) (by omega)]
   exact⟨⟨rfl,rfl,rfl,k+1,key::ns,_,by omega,by omega,StX.ext e1 (StX.put (S:=fun i=>i=st.nb) rfl _) (fun i hi=>by rw[hi];exact Nat.le_refl _),hb,by simp[St.put],hns.add key,hE⟩,by dsimp only;omega⟩
 ·have:k=f.length:=by omega
  subst this
  rw[List.drop_length]at hE
  have:=hk st1 e1
  rw[hE]at this;exact this
theorem Keys_ok {st0 st:St} {uf:TV} {xf:List TV} {f:List Fd} (hke:Bg st0 st) (h4:SlR st0 14 uf f.length xf) (h5:FsR st0 f xf) (hN:Bq f<=2000000) {K:Int->St->Prop} (hk:∀st',Aj st st'->K (Cg [] f:Nat) st'):
  CallT PR Bm [uf] [.one (.int .i64)] st K:=by
 have hfl:=B1 f
 refine Hx _ st K ⟨fun i u st'=>uf=u/\∃k:Nat,i=k/\k<=f.length/\Aj st st'/\Cg [] f=Cg ((f.take k).map Fd.key) (f.drop k),fun i _ _=>(f.length-i).toNat,⟨rfl,0,rfl,Nat.zero_le _,Aj.refl _,rfl⟩,?_⟩
 rintro _ _ st1 ⟨rfl,k,rfl,hkf,e1,hE⟩
 refine Aa h4.isSl (Ab (fun g=>?_) fun g=>?_)
 ·rw[h4.lenS]at g
  have gd:f[k]? =some f[k]:=List.getElem?_eq_getElem (by omega)
  generalize f[k]=d at gd
  have hkl:=Rt (Fc gd)
  rw[CA gd,GO]at hE
  refine JA (hke.trans e1.keeps) h4 h5 rfl gd (MV (by omega) fun st2 e2=>?_)
  have e12:=e1.trans e2
  by_cases g1:U8 d.key
  case neg=>
   rw[if_neg g1]at hE
   refine As (fun _=>?_) fun h=>absurd (by unfold U8;simpa using h) g1
   have:=hk st2 e12
   rw[hE]at this;exact this
  rw[if_pos g1]at hE
  refine As (fun h=>absurd g1 (by unfold U8;simpa using h)) fun _=>JA (hke.trans e12.keeps) h4 h5 rfl gd ?_
  by_cases g2:1024<d.key.length
  ·rw[if_pos g2]at hE
   refine Ab (fun _=>?_) fun h=>absurd (by omega) h
   have:=hk st2 e12
   rw[hE]at this;exact this
  rw[if_neg g2]at hE
  refine Ab (fun h=>absurd (by omega) g2) fun _=>?_
  refine⟨fun i u j st'=>uf=u/\j=(k:Int)/\st2=st'/\∃q:Nat,i=q/\q<=k/\∀(j:Nat) (x:Fd),j<q->f[j]? =some x->x.key≠d.key,fun i _ _ _=>(k-i).toNat,⟨rfl,rfl,rfl,0,rfl,Nat.zero_le _,fun j x hj=>absurd hj (Nat.not_lt_zero _)⟩,?_⟩
  rintro _ _ _ _ ⟨rfl,rfl,rfl,q,rfl,hq,hne⟩
  refine Ab (fun g3=>?_) fun g3=>?_
  ·have gx:f[q]? =some f[q]:=List.getElem?_eq_getElem (by omega)
   generalize f[q]=x at gx
   refine JA (hke.trans e12.keeps) h4 h5 rfl gx (JA (hke.trans e12.keeps) h4 h5 rfl gd (Ab (fun g4=>?_) fun g4=>?_))
   ·rw[if_pos]at hE
    ·have:=hk st2 e12
     rw[hE]at this;exact this
    ·rw[<-g4]
     refine List.mem_map_of_mem ?_
     have:(f.take k)[q]? =some x:=by rw[List.getElem?_take,if_pos (by omega)];exact gx
     exact Fc this
   ·rw[Ao _ (by omega) (by omega)]
    refine⟨⟨rfl,rfl,rfl,q+1,by omega,by omega,fun j y hj hy=>?_⟩,by dsimp only;omega⟩
    by_cases hjq:j=q
    ·subst hjq
     rw[gx]at hy
     rw[<-Option.some.inj hy];exact g4
    ·exact hne j y (by omega) hy
  ·have hqk:q=k:=by omega
   subst hqk
   rw[if_neg]at hE
   ·rw[Ao _ (by omega) (by omega)]
    refine⟨⟨rfl,q+1,by omega,by omega,e12,?_⟩,by dsimp only;omega⟩
    rw[hE]
    refine Kw _ _ _ fun x=>?_
    rw[Ce gd]
    simp[or_comm]
   ·intro hm
    obtain⟨x,hx,he⟩:=List.mem_map.1 hm
    obtain⟨j,hj⟩:=List.getElem?_of_mem hx
    rw[List.getElem?_take]at hj
    split at hj
    ·rename_i hlt
     exact hne j x hlt hj he
    ·cases hj
 ·rw[h4.lenS]at g
  have:k=f.length:=by omega
  subst this
  rw[List.drop_length]at hE
  have:=hk st1 e1
  rw[hE]at this;exact this
theorem Bg.stx {b:Nat} {a c d:St} (h:Bg a c) (k:StX (fun i=>i=b) c d) (hb:a.nb<=b):Bg a d:=
 ⟨Nat.le_trans h.1 k.nb,fun i hi=>(k.box i (Nat.lt_of_lt_of_le hi h.1) (by omega)).trans (h.2 i hi)⟩
theorem Ok {d n:Nat} {s:Sc} {l:List Vl} {f:List Fd} (h1:¬48<d) (h2:¬65536<=n) (h3:Dn s l f=0):B6 d n (.mk s l f)=E9 (Bo (d+1) (n+1) l) fun m=>BI (d+1) m f:=by
 unfold B6;rw[if_neg h1,if_neg h2,if_neg (fun h=>h h3)]
theorem Mb {d n:Nat} {s:Sc} {l:List Vl} {f:List Fd} (h1:¬48<d) (h2:¬65536<=n) (h3:Dn s l f≠0):B6 d n (.mk s l f)=(n,Dn s l f):=by
 unfold B6;rw[if_neg h1,if_neg h2,if_pos h3]
theorem GX (d n:Nat) (v:Vl) (r:List Vl):Bo d n (v::r)=E9 (B6 d n v) fun m=>Bo d m r:=by rw[Bo]
theorem Md (d n:Nat) (k:B8) (v:Vl) (r:List Fd):BI d n (.mk k v::r)=E9 (B6 d n v) fun m=>BI d m r:=by rw[BI,JL]
theorem P3:U8 []:=by unfold U8;rw[K6];rfl
theorem T4:∀(N:Nat) (v:Vl),v.sz<=N->N<=2000000->∀{st0 st:St} {cs:List TV} {b d n:Nat} {D:Int} {K:Int->St->Prop},VlR st0 v cs->Bg st0 st->st0.nb<=b->b<st.nb->st.box b= .cells [.int .i64 (n:Nat)]->n<=65536->D=(d:Int)->d<=100->
  (∀st' (m:Nat),StX (fun i=>i=b) st st'->st'.box b= .cells [.int .i64 (m:Nat)]->((B6 d n v).2=0->m=(B6 d n v).1/\m<=65536)->K ((B6 d n v).2:Nat) st')->CallT PR C5 [.agg cs,.int .i64 D,.box b 0] [.one (.int .i64)] st K:=by
 intro N
 induction N with
 | zero=>intro v h;have:=v.sz_pos;omega
 | succ N ih=>
 intro v hN hN2 st0 st cs b d n D K h hke hb0 hb hbx hn hD hd hk
 subst hD
 cases v with
 | mk s l f=>
 have hsz:(Vl.mk s l f).sz=1+s.bytes.length+s.text.length+s.dg.length+Bw l+Bq f:=by unfold Vl.sz;rfl
 have hll:=CW l
 have hfl:=B1 f
 unfold VlR at h
 obtain⟨ub,ul,uf,xl,xf,rfl,h1,h2,h3,h4,h5⟩:=h
 refine K9 _ _ _ _ _ _ _ _ _ _ _ _ _ (d:Int) b st K ?_
 refine Ad (x:= .int .i64 (n:Nat)) (by simp[Ac,hbx]) (Ba ?_)
 rw[Ao _ (by omega) (by omega)]
 refine⟨_,hbx,by simp,?_⟩
 obtain⟨st1,hst1⟩:∃st1,st1=st.put b (.cells (setAll [.int .i64 (n:Nat)] 0 [.int .i64 ((n:Int)+1)])):=⟨_,rfl⟩
 rw[<-hst1]
 have e1:StX (fun i=>i=b) st st1:=by rw[hst1];exact StX.put (S:=fun i=>i=b) rfl _
 have hb1:st1.box b= .cells [.int .i64 ((n+1:Nat):Int)]:=by rw[hst1];simp[St.put,setAll]
 have hke1:=hke.stx e1 hb0
 refine⟨fun dp p kd bo ng dg ex tk td tn tz tx u1 u2 u3 st'=>dp=d/\p= .box b 0/\ul=u2/\uf=u3/\¬48<d/\¬65536<=n/\Dn s l f=Cg [] f/\StX (fun i=>i=b) st st'/\st'.box b= .cells [.int .i64 ((n+1:Nat):Int)],?_,?_⟩
 ·--the value but for the values in it
  refine Ab (fun g=>?_) fun g=>?_
  ·have hc:B6 d n (.mk s l f)=(n,9):=by unfold B6;rw[if_pos (by omega)]
   have:=hk st1 (n+1) e1 hb1 (by rw[hc];intro h;cases h)
   rw[hc]at this;exact this
  refine Ad (x:= .int .i64 ((n+1:Nat):Int)) (by simp[Ac,hb1]) (Ba (Ab (fun g2=>?_) fun g2=>?_))
  ·have hc:B6 d n (.mk s l f)=(n,10):=by unfold B6;rw[if_neg (by omega),if_pos (by omega)]
   have:=hk st1 (n+1) e1 hb1 (by rw[hc];intro h;cases h)
   rw[hc]at this;exact this
  have hg1:¬48<d:=by omega
  have hg2:¬65536<=n:=by omega
  --an error of the value itself
  have err:∀st',StX (fun i=>i=b) st st'->st'.box b= .cells [.int .i64 ((n+1:Nat):Int)]->Dn s l f≠0->K ((Dn s l f:Nat):Int) st':=fun st' e' hb' ho=>by
   have hc:=Mb hg1 hg2 ho
   have:=hk st' (n+1) e' hb' (by rw[hc];intro h;exact absurd h ho)
   rw[hc]at this;exact this
  refine⟨fun q dp p kd bo ng dg ex tk td tn tz tx u1 u2 u3 st'=>dp=d/\p= .box b 0/\kd=s.kind/\ng=s.neg/\dg=s.dg/\ex=s.ex/\tk=s.tk/\td=s.td/\tn=s.tn/\tz=s.tz/\tx=s.text/\ub=u1/\ul=u2/\uf=u3/\q= !decide (Gr s l f)/\st1=st',?_,?_⟩
  ·refine Ab (fun g3=>?_) fun g3=>Ab (fun g4=>?_) fun g4=>?_
   ·exact⟨rfl,rfl,rfl,rfl,rfl,rfl,rfl,rfl,rfl,rfl,rfl,rfl,rfl,rfl,by rw[decide_eq_false fun o=>by have:=o.k0;omega];rfl,rfl⟩
   ·exact⟨rfl,rfl,rfl,rfl,rfl,rfl,rfl,rfl,rfl,rfl,rfl,rfl,rfl,rfl,by rw[decide_eq_false fun o=>by have:=o.k7;omega];rfl,rfl⟩
   ·exact TH (s:=s) (l:=l) (f:=f) h1.isSl h2.isSl h4.isSl h1.lenS h2.lenS h4.lenS ⟨rfl,rfl,rfl,rfl,rfl,rfl,rfl,rfl,rfl,rfl,rfl,rfl,rfl,rfl,exB_eq (by omega) (by omega),rfl⟩
  rintro q _ _ _ bo _ _ _ _ _ _ _ _ _ _ _ _ ⟨rfl,rfl,rfl,rfl,rfl,rfl,rfl,rfl,rfl,rfl,rfl,rfl,rfl,rfl,rfl,rfl⟩
  by_cases ho:Gr s l f
  case neg=>
   refine As (fun _=>?_) fun h=>by rw[decide_eq_false ho]at h;cases h
   have h6:Dn s l f=6:=by unfold Dn;rw[if_neg ho]
   have:=err st1 e1 hb1 (by rw[h6];decide)
   rw[h6]at this;exact this
  refine As (fun h=>by rw[decide_eq_true ho]at h;cases h) fun _=>?_
  have hdec:s.kind≠2->DO s.neg s.dg s.ex:=fun hk2=>by
   obtain⟨q1,q2,q3⟩:=ho.nu hk2
   rw[q2];exact Ij.2 ⟨q1,q3⟩
  refine⟨fun q dp p kd bo ng dg ex tk td tn tz tx u1 u2 u3 st'=>dp=d/\p= .box b 0/\kd=s.kind/\tx=s.text/\ub=u1/\ul=u2/\uf=u3/\q= !(decide (DO s.neg s.dg s.ex)&&decide (s.kind=3->Du s.tk s.td s.tn s.tz))/\st1=st',?_,?_⟩
  ·refine Ab (fun g3=>PE (by omega) ?_) fun g3=>Ab (fun g4=>NK ?_) fun g4=>?_
   ·by_cases hq:DO s.neg s.dg s.ex
    ·refine As (fun h=>by rw[decide_eq_true hq]at h;cases h) fun _=>Ab (fun g4=>by omega) fun g4=>?_
     exact⟨rfl,rfl,rfl,rfl,rfl,rfl,rfl,by rw[decide_eq_true hq,decide_eq_true fun h=>absurd h g4];rfl,rfl⟩
    ·refine As (fun h=>?_) fun h=>by rw[decide_eq_false hq]at h;cases h
     exact⟨rfl,rfl,rfl,rfl,rfl,rfl,rfl,by rw[decide_eq_false hq];rfl,rfl⟩
   ·exact⟨rfl,rfl,rfl,rfl,rfl,rfl,rfl,by rw[decide_eq_true (hdec g3),decide_eq_decide.2 (show(s.kind=3->Du s.tk s.td s.tn s.tz)↔_ from⟨fun h=>h g4,fun h _=>h⟩)];rfl,rfl⟩
   ·exact⟨rfl,rfl,rfl,rfl,rfl,rfl,rfl,by rw[decide_eq_true (hdec g3),decide_eq_true fun h=>absurd h g4];rfl,rfl⟩
  rintro q _ _ _ bo2 ng2 dg2 ex2 tk2 td2 tn2 tz2 _ _ _ _ _ ⟨rfl,rfl,rfl,rfl,rfl,rfl,rfl,rfl,rfl⟩
  by_cases hq:DO s.neg s.dg s.ex
  case neg=>
   refine As (fun _=>?_) fun h=>by rw[decide_eq_false hq]at h;cases h
   have h6:Dn s l f=2:=by unfold Dn;rw[if_pos ho,if_neg hq]
   have:=err st1 e1 hb1 (by rw[h6];decide)
   rw[h6]at this;exact this
  by_cases hq2:s.kind=3->Du s.tk s.td s.tn s.tz
  case neg=>
   refine As (fun _=>?_) fun h=>by rw[decide_eq_true hq,decide_eq_false hq2]at h;cases h
   have h6:Dn s l f=2:=by unfold Dn;rw[if_pos ho,if_pos hq,if_neg hq2]
   have:=err st1 e1 hb1 (by rw[h6];decide)
   rw[h6]at this;exact this
  refine As (fun h=>by rw[decide_eq_true hq,decide_eq_true hq2]at h;cases h) fun _=>?_
  --sizes
  have sizes:U8 s.text->∀(X:Prop),(Dn s l f=Cg [] f->X)->BIf (decide (65536<(s.text.length:Int))) (K 10 st1) (need (isSl ub) (BIf (decide (65536<(lenS ub:Int))) (K 10 st1) X)):=fun hu X hX=>by
   have h6:Dn s l f=if 65536<s.text.length then 10 else if 65536<s.bytes.length then 10 else Cg [] f:=by unfold Dn;rw[if_pos ho,if_pos hq,if_pos hq2,if_pos hu]
   refine Ab (fun g5=>?_) fun g5=>Aa h1.isSl (Ab (fun g6=>?_) fun g6=>?_)
   ·rw[if_pos (by omega)]at h6
    have:=err st1 e1 hb1 (by rw[h6];decide)
    rw[h6]at this;exact this
   ·rw[h1.lenS]at g6
    rw[if_neg (by omega),if_pos (by omega)]at h6
    have:=err st1 e1 hb1 (by rw[h6];decide)
    rw[h6]at this;exact this
   ·rw[h1.lenS]at g6
    rw[if_neg (by omega),if_neg (by omega)]at h6
    exact hX h6
  refine Ab (fun g3=>MQ (by omega) (As (fun g4=>?_) fun g4=>?_)) fun g3=>?_
  ·have hu:¬U8 s.text:=by unfold U8;simpa using g4
   have h6:Dn s l f=5:=by unfold Dn;rw[if_pos ho,if_pos hq,if_pos hq2,if_neg hu]
   have:=err st1 e1 hb1 (by rw[h6];decide)
   rw[h6]at this;exact this
  ·exact sizes (by unfold U8;simpa using g4) _ fun h6=>⟨rfl,rfl,rfl,rfl,hg1,hg2,h6,e1,hb1⟩
  ·exact sizes (by rw[ho.tx g3];exact P3) _ fun h6=>⟨rfl,rfl,rfl,rfl,hg1,hg2,h6,e1,hb1⟩
 ·rintro _ _ kd bo ng dg ex tk td tn tz tx u1 _ _ st2 ⟨rfl,rfl,rfl,rfl,hg1,hg2,h6,e2,hb2⟩
  have hke2:=hke.stx e2 hb0
  refine keys_ok hke2 h4 h5 (by omega) fun st3 e3=>?_
  have e23:=e2.trans (StX.of e3)
  have hb3:st3.box b= .cells [.int .i64 ((n+1:Nat):Int)]:=(e3.box b (by have:=e2.nb;omega)).trans hb2
  refine Ab (fun g=>?_) fun g=>Aa h2.isSl ?_
  ·have ho:Dn s l f≠0:=by rw[h6];omega
   have hc:=Mb hg1 hg2 ho
   have:=hk st3 (n+1) e23 hb3 (by rw[hc];intro h;exact absurd h ho)
   rw[hc,h6]at this;exact this
  have hone:Dn s l f=0:=by rw[h6];omega
  have hC:=Ok hg1 hg2 hone
  refine⟨fun i dp p u m kd bo ng dg ex tk td tn tz tx u1 u2 u3 st'=>dp=d/\p= .box b 0/\ul=u/\m=(l.length:Int)/\uf=u3/\∃k c:Nat,i=k/\k<=l.length/\c<=65536/\StX (fun i=>i=b) st st'/\st'.box b= .cells [.int .i64 ((c:Nat):Int)]/\Bo (d+1) (n+1) l=Bo (d+1) c (l.drop k),
   fun i _ _ _ _ _ _ _ _ _ _ _ _ _ _ _ _ _ _=>(l.length-i).toNat,⟨rfl,rfl,rfl,by rw[h2.lenS],rfl,0,n+1,rfl,Nat.zero_le _,by omega,e23,hb3,rfl⟩,?_⟩
  rintro _ _ _ _ _ kd bo ng dg ex tk td tn tz tx u1 u2 _ st4 ⟨rfl,rfl,rfl,rfl,rfl,k,c,rfl,hkl,hc,e4,hb4,hE⟩
  have hke4:=hke.stx e4 hb0
  refine Ab (fun g3=>?_) fun g3=>?_
  ·refine MD hke4 h2 h3 rfl (by omega) fun s' l' f' ub1 ul1 uf1 gw hw on=>Aa on ?_
   have hwsz:=Ct gw
   rw[CA gw,GX]at hE
   rw[Ao _ (by omega) (by omega)]
   refine ih _ (by omega) (by omega) (d:=d+1) hw hke4 hb0 (by have:=e4.nb;omega) hb4 hc (by omega) (by omega) fun st5 m e5 hb5 hm=>?_
   have e45:=e4.trans e5
   refine Ab (fun g4=>?_) fun g4=>?_
   ·have hne:(B6 (d+1) c (.mk s' l' f')).2≠0:=by omega
    rw[HY hne]at hE
    have hc2:B6 d n (.mk s l f)=B6 (d+1) c (.mk s' l' f'):=by rw[hC,hE,HY hne]
    have:=hk st5 m e45 hb5 (by rw[hc2];intro h;exact absurd h hne)
    rw[hc2]at this;exact this
   ·have hz:(B6 (d+1) c (.mk s' l' f')).2=0:=by omega
    rw[BX hz]at hE
    obtain⟨hm1,hm2⟩:=hm hz
    rw[Ao _ (by omega) (by omega)]
    exact⟨⟨rfl,rfl,rfl,rfl,rfl,k+1,m,by omega,by omega,hm2,e45,hb5,by rw[hE,hm1]⟩,by dsimp only;omega⟩
  ·have hkk:k=l.length:=by omega
   subst hkk
   rw[List.drop_length]at hE
   have hE2:Bo (d+1) (n+1) l=(c,0):=by rw[hE,Bo]
   rw[hE2,BX rfl]at hC
   refine Aa h4.isSl ?_
   refine⟨fun i dp p u m st'=>dp=d/\p= .box b 0/\uf=u/\m=(f.length:Int)/\∃k c2:Nat,i=k/\k<=f.length/\c2<=65536/\StX (fun i=>i=b) st st'/\st'.box b= .cells [.int .i64 ((c2:Nat):Int)]/\BI (d+1) c f=BI (d+1) c2 (f.drop k),
    fun i _ _ _ _ _=>(f.length-i).toNat,⟨rfl,rfl,rfl,by rw[h4.lenS],0,c,rfl,Nat.zero_le _,hc,e4,hb4,rfl⟩,?_⟩
   rintro _ _ _ _ _ st5 ⟨rfl,rfl,rfl,rfl,k,c2,rfl,hkf,hc2,e5,hb5,hF⟩
   have hke5:=hke.stx e5 hb0
   refine Ab (fun g4=>?_) fun g4=>?_
   ·refine el14 hke5 h4 h5 rfl (by omega) fun key s' l' f' ub1 ul1 uf1 gw hw on=>Aa on ?_
    have hwsz:=Dy gw
    have hwk:(Fd.mk key (.mk s' l' f')).sz=key.length+(Vl.mk s' l' f').sz:=by unfold Fd.sz;rfl
    rw[CA gw,Md]at hF
    rw[Ao _ (by omega) (by omega)]
    refine ih (.mk s' l' f') (by omega) (by omega) (d:=d+1) hw hke5 hb0 (by have:=e5.nb;omega) hb5 hc2 (by omega) (by omega) fun st6 m e6 hb6 hm=>?_
    have e56:=e5.trans e6
    refine Ab (fun g5=>?_) fun g5=>?_
    ·have hne:(B6 (d+1) c2 (.mk s' l' f')).2≠0:=by omega
     rw[HY hne]at hF
     have hc3:B6 d n (.mk s l f)=B6 (d+1) c2 (.mk s' l' f'):=by rw[hC];exact hF
     have:=hk st6 m e56 hb6 (by rw[hc3];intro h;exact absurd h hne)
     rw[hc3]at this;exact this
    ·have hz:(B6 (d+1) c2 (.mk s' l' f')).2=0:=by omega
     rw[BX hz]at hF
     obtain⟨hm1,hm2⟩:=hm hz
     rw[Ao _ (by omega) (by omega)]
     exact⟨⟨rfl,rfl,rfl,rfl,k+1,m,by omega,by omega,hm2,e56,hb6,by rw[hF,hm1]⟩,by dsimp only;omega⟩
   ·have hkk:k=f.length:=by omega
    subst hkk
    rw[List.drop_length]at hF
    have hF2:B6 d n (.mk s l f)=(c2,0):=by rw[hC];show BI (d+1) c f=_;rw[hF,BI]
    have:=hk st5 c2 e5 hb5 (by rw[hF2];exact fun _=>⟨rfl,hc2⟩)
    rw[hF2]at this;exact this
section
theorem P0 {v:Vl} (hN:v.sz<=2000000) {st0 st:St} {cs:List TV} {K:Int->St->Prop} (h:VlR st0 v cs) (hke:Bg st0 st) (hk:∀st',Aj st st'->K (AX v:Nat) st'):
  CallT PR AI [.agg cs] [.one (.int .i64)] st K:=by
 have h0:=h
 cases v with
 | mk s l f=>
 unfold VlR at h0
 obtain⟨ub,ul,uf,xl,xf,rfl,_⟩:=h0
 have he:Aj st (st.push (.cells [.int .i64 0]) (some 3)):=(Aj.refl st).push _ _
 refine Lb _ _ _ _ _ _ _ _ _ _ _ _ _ st K ⟨[.int .i64 0],by simp[St.push],by simp,?_⟩
 obtain⟨st1,hst1⟩:∃st1,st1=(st.push (.cells [.int .i64 0]) (some 3)).put st.nb (.cells (setAll [.int .i64 0] 0 [.int .i64 0])):=⟨_,rfl⟩
 rw[<-hst1]
 have e1:Aj st st1:=by rw[hst1];exact StX.ext he (StX.put (S:=fun i=>i=st.nb) rfl _) (fun i hi=>by rw[hi];exact Nat.le_refl _)
 have hb1:st1.box st.nb= .cells [.int .i64 ((0:Nat):Int)]:=by rw[hst1];simp[St.put,setAll]
 exact T4 2000000 _ hN (by omega) (d:=1) h (hke.trans e1.keeps) hke.1 (by rw[hst1];simp[St.put,St.push]) hb1 (by omega) rfl (by omega) fun st2 m e2 hb2 _=>hk st2 (StX.ext e1 e2 (fun i hi=>by rw[hi];exact Nat.le_refl _))
theorem one_ok {s:Sc} {l:List Vl} {f:List Fd} (hN:(Vl.mk s l f).sz<=2000000) {st0 st:St} {ub ul uf:TV} {K:Int->St->Prop} (h:VlR st0 (.mk s l f) (Aq s ub ul uf)) (hke:Bg st0 st) (hk:∀st',Aj st st'->K (Dn s l f:Nat) st'):
  CallT PR Ds [.agg (Aq s ub ul uf)] [.one (.int .i64)] st K:=by
 have hsz:(Vl.mk s l f).sz=1+s.bytes.length+s.text.length+s.dg.length+Bw l+Bq f:=by unfold Vl.sz;rfl
 unfold VlR at h
 obtain⟨ub',ul',uf',xl,xf,hcs,h1,h2,h3,h4,h5⟩:=h
 simp only[Aq,List.cons.injEq,and_true,true_and]at hcs
 obtain⟨rfl,rfl,rfl⟩:=hcs
 refine It _ _ _ _ _ _ _ _ _ _ _ _ _ st K (own_ok h1.isSl h2.isSl h4.isSl h1.lenS h2.lenS h4.lenS ?_)
 have kk:∀(c:Nat) (st':St),Dn s l f=c->Aj st st'->K (c:Int) st':=fun c st' hc e=>by rw[<-hc];exact hk st' e
 by_cases ho:Gr s l f
 case neg=>exact As (fun _=>kk 6 st (by unfold Dn;rw[if_neg ho]) (Aj.refl _)) fun h=>by rw[decide_eq_false ho]at h;cases h
 refine As (fun h=>by rw[decide_eq_true ho]at h;cases h) fun _=>rDec_ok (by omega) ?_
 by_cases hq:DO s.neg s.dg s.ex
 case neg=>exact As (fun _=>kk 2 st (by unfold Dn;rw[if_pos ho,if_neg hq]) (Aj.refl _)) fun h=>by rw[decide_eq_false hq]at h;cases h
 refine As (fun h=>by rw[decide_eq_true hq]at h;cases h) fun _=>?_
 have rest:(s.kind=3->Du s.tk s.td s.tn s.tz)->CallT PR A5 [.str s.text] [.one (.bool)] st (fun (b4:Bool) (st4:St)=>BIf (!b4) (K 5 st4) (BIf (decide (65536<(s.text.length:Int))) (K 10 st4) (need (isSl ub) (BIf (decide (65536<(lenS ub:Int))) (K 10 st4) (
   CallT PR Bm [uf] [.one (.int .i64)] st4 fun (n1:Int) (st5:St)=>K n1 st5))))):=by
  intro hq2
  refine MV (by omega) fun st1 e1=>?_
  by_cases hu:U8 s.text
  case neg=>exact As (fun _=>kk 5 st1 (by unfold Dn;rw[if_pos ho,if_pos hq,if_pos hq2,if_neg hu]) e1) fun h=>absurd (by unfold U8;simpa using h) hu
  have h6:Dn s l f=if 65536<s.text.length then 10 else if 65536<s.bytes.length then 10 else Cg [] f:=by unfold Dn;rw[if_pos ho,if_pos hq,if_pos hq2,if_pos hu]
  refine As (fun h=>absurd hu (by unfold U8;simpa using h)) fun _=>Ab (fun g5=>?_) fun g5=>Aa h1.isSl (Ab (fun g6=>?_) fun g6=>?_)
  ·exact kk 10 st1 (by rw[h6,if_pos (by omega)]) e1
  ·rw[h1.lenS]at g6
   exact kk 10 st1 (by rw[h6,if_neg (by omega),if_pos (by omega)]) e1
  ·rw[h1.lenS]at g6
   exact Keys_ok (hke.trans e1.keeps) h4 h5 (by omega) fun st2 e2=>kk _ st2 (by rw[h6,if_neg (by omega),if_neg (by omega)]) (e1.trans e2)
 refine Ab (fun g3=>S0 ?_) fun g3=>rest fun h=>absurd h g3
 by_cases hq2:Du s.tk s.td s.tn s.tz
 ·exact As (fun h=>by rw[decide_eq_true hq2]at h;cases h) fun _=>rest fun _=>hq2
 ·exact As (fun _=>kk 2 st (by unfold Dn;rw[if_pos ho,if_pos hq,if_neg fun h=>hq2 (h g3)]) (Aj.refl _)) fun h=>by rw[decide_eq_false hq2]at h;cases h
def D3 (s:Sc) (l:List Vl) (f:List Fd):List Vl:=if s.kind=7 then f.map Fd.val else l
theorem Ns (d:Nat):∀(f:List Fd) (n:Nat),BI d n f=Bo d n (f.map Fd.val)
 | [],n=>by simp[BI,Bo]
 | .mk k v::r,n=>by
  rw[Md,List.map_cons,GX]
  have:(fun m=>BI d m r)=fun m=>Bo d m (r.map Fd.val):=funext fun m=>Ns d r m
  rw[this];rfl
theorem SQ (x:Nat×Nat):E9 x (fun m=>(m,0))=x:=by
 unfold E9;split
 ·rename_i h;exact Prod.ext rfl h.symm
 ·rfl
theorem SD {d n:Nat} {s:Sc} {l:List Vl} {f:List Fd} (ho:Gr s l f):(E9 (Bo (d+1) (n+1) l) fun m=>BI (d+1) m f)=Bo (d+1) (n+1) (D3 s l f):=by
 unfold D3
 by_cases h7:s.kind=7
 ·rw[if_pos h7,ho.ls (by omega),Bo,BX rfl,Ns]
 ·rw[if_neg h7,ho.fs h7]
  simp only[BI]
  exact SQ _
mutual
theorem K4:∀(v:Vl) (d n:Nat),n<=65536->(B6 d n v).2=0->(B6 d n v).1<=65536
 | .mk s l f,d,n,hn,h=>by
  unfold B6 at h⊢
  split at h
  ·cases h
  ·rename_i g1
   rw[if_neg g1]
   split at h
   ·cases h
   ·rename_i g2
    rw[if_neg g2]
    split at h
    ·rename_i h1;exact absurd h h1
    ·rename_i g3
     rw[if_neg g3]
     obtain⟨h2,h3⟩:=Bu h
     rw[BX h2]
     exact PQ f _ _ (PM l _ _ (by omega) h2) h3
theorem PM:∀(l:List Vl) (d n:Nat),n<=65536->(Bo d n l).2=0->(Bo d n l).1<=65536
 | [],d,n,hn,_=>by unfold Bo;exact hn
 | v::r,d,n,hn,h=>by
  unfold Bo at h⊢
  obtain⟨h2,h3⟩:=Bu h
  rw[BX h2]
  exact PM r _ _ (K4 v _ _ hn h2) h3
theorem chkD_le:∀(x:Fd) (d n:Nat),n<=65536->(JL d n x).2=0->(JL d n x).1<=65536
 | .mk k v,d,n,hn,h=>by unfold JL at h⊢;exact K4 v _ _ hn h
theorem PQ:∀(l:List Fd) (d n:Nat),n<=65536->(BI d n l).2=0->(BI d n l).1<=65536
 | [],d,n,hn,_=>by unfold BI;exact hn
 | x::r,d,n,hn,h=>by
  unfold BI at h⊢
  obtain⟨h2,h3⟩:=Bu h
  rw[BX h2]
  exact PQ r _ _ (chkD_le x _ _ hn h2) h3
end
theorem VsR.snoc {st:St} {v:Vl} {cv:List TV}:∀{l:List Vl} {xs:List TV},VsR st l xs->VlR st v cv->VsR st (l++[v]) (xs++cv)
 | [],xs,h,hv=>by
  unfold VsR at h
  subst h
  show VsR st [v] _
  unfold VsR
  exact⟨cv,[],by simp,hv,by unfold VsR;rfl⟩
 | w::r,xs,h,hv=>by
  unfold VsR at h
  obtain⟨a,b,rfl,h1,h2⟩:=h
  show VsR st (w::(r++[v])) _
  unfold VsR
  exact⟨a,b++cv,by simp,h1,VsR.snoc h2 hv⟩
theorem kids_ok {s:Sc} {l:List Vl} {f:List Fd} (hN:(Vl.mk s l f).sz<=2000000) {st0 st:St} {ub ul uf:TV} {K:TV->St->Prop} (h:VlR st0 (.mk s l f) (Aq s ub ul uf)) (hke:Bg st0 st)
  (hk:∀u xl st',Aj st st'->SlR st' 13 u (D3 s l f).length xl->VsR st' (D3 s l f) xl->K u st'):CallT PR C7 [.agg (Aq s ub ul uf)] [.one .tv] st K:=by
 have hsz:(Vl.mk s l f).sz=1+s.bytes.length+s.text.length+s.dg.length+Bw l+Bq f:=by unfold Vl.sz;rfl
 have hfl:=B1 f
 unfold VlR at h
 obtain⟨ub',ul',uf',xl,xf,hcs,h1,h2,h3,h4,h5⟩:=h
 simp only[Aq,List.cons.injEq,and_true,true_and]at hcs
 obtain⟨rfl,rfl,rfl⟩:=hcs
 refine Hw _ _ _ _ _ _ _ _ _ _ _ _ _ st K (Ab (fun g=>?_) fun g=>?_)
 ·have e:D3 s l f=l:=by unfold D3;rw[if_neg g]
  rw[e]at hk
  exact hk ul xl st (Aj.refl _) (h2.keep hke) (VsR.keep hke h3)
 ·have e:D3 s l f=f.map Fd.val:=by unfold D3;rw[if_pos (by omega)]
  rw[e,List.length_map]at hk
  refine⟨fun o i kd bo ng dg ex tk td tn tz tx u1 u2 u3 st'=>uf=u3/\∃(k:Nat) (xs:List TV),i=k/\k<=f.length/\Aj st st'/\Own st.nt 13 st' o k xs/\VsR st ((f.take k).map Fd.val) xs,fun _ i _ _ _ _ _ _ _ _ _ _ _ _ _ _=>(f.length-i).toNat,
   ⟨rfl,0,[],rfl,Nat.zero_le _,Aj.refl _,Own.nil _ _ _,by simp only[List.take_zero,List.map_nil];unfold VsR;rfl⟩,?_⟩
  rintro o _ kd bo ng dg ex tk td tn tz tx u1 u2 _ st1 ⟨rfl,k,xs,rfl,hkf,e1,ho,hv⟩
  refine Aa h4.isSl (Ab (fun g2=>?_) fun g2=>?_)
  ·rw[h4.lenS]at g2
   refine Lh (hke.trans e1.keeps) h4 h5 rfl (by omega) fun key s' l' f' ub1 ul1 uf1 gw hw on=>Aa on ?_
   refine HU e1 rfl ho (by omega) (fun h=>by cases h) fun v2 st2 e2 _ ho2=>?_
   rw[Ao _ (by omega) (by omega)]
   refine⟨⟨rfl,k+1,_,by omega,by omega,e2,ho2,?_⟩,by dsimp only;omega⟩
   rw[Ce gw,List.map_append]
   exact VsR.snoc hv (VlR.keep hke hw)
  ·rw[h4.lenS]at g2
   have hkk:k=f.length:=by omega
   subst hkk
   rw[List.take_length]at hv
   exact hk o xs st1 e1 (.of_rd ho.rd) (VsR.keep e1.keeps hv)
theorem kids_sz {s:Sc} {l:List Vl} {f:List Fd} {k:Nat} {w:Vl} (h:(D3 s l f)[k]? =some w):w.sz+1<=(Vl.mk s l f).sz:=by
 have hsz:(Vl.mk s l f).sz=1+s.bytes.length+s.text.length+s.dg.length+Bw l+Bq f:=by unfold Vl.sz;rfl
 unfold D3 at h
 split at h
 ·rw[List.getElem?_map]at h
  obtain⟨d,hd,rfl⟩:=Option.map_eq_some_iff.1 h
  have:=Dy hd
  cases d;unfold Fd.sz at this;simp only[Fd.val];omega
 ·have:=Ct h;omega
theorem Tp {s:Sc} {l:List Vl} {f:List Fd}:(D3 s l f).length<=(Vl.mk s l f).sz:=by
 have hsz:(Vl.mk s l f).sz=1+s.bytes.length+s.text.length+s.dg.length+Bw l+Bq f:=by unfold Vl.sz;rfl
 have:=CW l
 have:=B1 f
 unfold D3;split
 ·rw[List.length_map];omega
 ·omega
theorem look_ok:∀(N:Nat) (v:Vl),v.sz<=N->N<=2000000->∀{st0 st:St} {cs:List TV} {d n:Nat} {D:Int} {K:Int->Int->St->Prop},VlR st0 v cs->Bg st0 st->n<=65536->D=(d:Int)->d<=100->
  (∀st',Aj st st'->K ((B6 d n v).1:Nat) ((B6 d n v).2:Nat) st')->CallT PR B3 [.agg cs,.int .i64 D,.int .i64 (n:Nat)] [.one (.int .i64),.one (.int .i64)] st K:=by
 intro N
 induction N with
 | zero=>intro v h;have:=v.sz_pos;omega
 | succ N ih=>
 intro v hN hN2 st0 st cs d n D K h hke hn hD hd hk
 subst hD
 cases v with
 | mk s l f=>
 have hcs:∃ub ul uf,cs=Aq s ub ul uf:=by
  have h0:=h
  unfold VlR at h0
  obtain⟨ub,ul,uf,xl,xf,rfl,_⟩:=h0
  exact⟨ub,ul,uf,rfl⟩
 obtain⟨ub,ul,uf,rfl⟩:=hcs
 have kk:∀(x:Nat×Nat) (st':St),B6 d n (.mk s l f)=x->Aj st st'->K (x.1:Nat) (x.2:Nat) st':=fun x st' hx e=>by rw[<-hx];exact hk st' e
 refine Hu _ _ _ _ _ _ _ _ _ _ _ _ _ (d:Int) (n:Int) st K (Ab (fun g=>?_) fun g=>Ab (fun g2=>?_) fun g2=>?_)
 ·exact kk (n,9) st (by unfold B6;rw[if_pos (by omega)]) (Aj.refl _)
 ·exact kk (n,10) st (by unfold B6;rw[if_neg (by omega),if_pos (by omega)]) (Aj.refl _)
 have hg1:¬48<d:=by omega
 have hg2:¬65536<=n:=by omega
 refine one_ok (l:=l) (f:=f) (by omega) h hke fun st1 e1=>Ab (fun g3=>?_) fun g3=>?_
 ·exact kk (n,Dn s l f) st1 (Mb hg1 hg2 (by omega)) e1
 have hone:Dn s l f=0:=by omega
 have ho:Gr s l f:=(J6.1 hone).own
 have hC:B6 d n (.mk s l f)=Bo (d+1) (n+1) (D3 s l f):=by rw[Ok hg1 hg2 hone,SD ho]
 refine kids_ok (l:=l) (f:=f) (by omega) h (hke.trans e1.keeps) fun u xl st2 e2 hu hv=>?_
 have e12:=e1.trans e2
 have hlen:=Tp (s:=s) (l:=l) (f:=f)
 rw[Ao ((n:Int)+1) (by omega) (by omega)]
 refine⟨fun c i dp u' st'=>u=u'/\dp=(d:Int)/\∃k m:Nat,i=k/\k<=(D3 s l f).length/\c=(m:Int)/\m<=65536/\Aj st2 st'/\Bo (d+1) (n+1) (D3 s l f)=Bo (d+1) m ((D3 s l f).drop k),fun _ i _ _ _=>((D3 s l f).length-i).toNat,
  ⟨rfl,rfl,0,n+1,rfl,Nat.zero_le _,by omega,by omega,Aj.refl _,rfl⟩,?_⟩
 rintro _ _ _ _ st3 ⟨rfl,rfl,k,m,rfl,hkl,rfl,hm,e3,hE⟩
 refine Aa hu.isSl (Ab (fun g4=>?_) fun g4=>?_)
 ·rw[hu.lenS]at g4
  refine MD e3.keeps hu hv rfl (by omega) fun s' l' f' ub1 ul1 uf1 gw hw on=>?_
  have hwsz:=kids_sz gw
  rw[CA gw,GX]at hE
  rw[Ao _ (by omega) (by omega)]
  refine ih _ (by omega) (by omega) (d:=d+1) hw e3.keeps hm (by omega) (by omega) fun st4 e4=>?_
  refine Ab (fun g5=>?_) fun g5=>?_
  ·have hne:(B6 (d+1) m (.mk s' l' f')).2≠0:=by omega
   rw[HY hne]at hE
   exact kk _ st4 (by rw[hC,hE]) (e12.trans (e3.trans e4))
  ·have hz:(B6 (d+1) m (.mk s' l' f')).2=0:=by omega
   rw[BX hz]at hE
   rw[Ao _ (by omega) (by omega)]
   exact⟨⟨rfl,rfl,k+1,_,by omega,by omega,rfl,K4 _ _ _ hm hz,e3.trans e4,hE⟩,by dsimp only;omega⟩
 ·rw[hu.lenS]at g4
  have hkk:k=(D3 s l f).length:=by omega
  subst hkk
  rw[List.drop_length,Bo]at hE
  exact kk (m,0) st3 (by rw[hC,hE]) (e12.trans e3)
theorem Sa {v:Vl} (hN:v.sz<=2000000) {st0 st:St} {cs:List TV} {K:Int->St->Prop} (h:VlR st0 v cs) (hke:Bg st0 st) (hk:∀st',Aj st st'->K (AX v:Nat) st'):
  CallT PR CJ [.agg cs] [.one (.int .i64)] st K:=by
 have h0:=h
 cases v with
 | mk s l f=>
 unfold VlR at h0
 obtain⟨ub,ul,uf,xl,xf,rfl,_⟩:=h0
 exact He _ _ _ _ _ _ _ _ _ _ _ _ _ st K (look_ok 2000000 _ hN (by omega) (d:=1) (n:=0) h hke (by omega) rfl (by omega) hk)
end
theorem VlR.cells {st:St} {s:Sc} {l:List Vl} {f:List Fd} {cs:List TV} (h:VlR st (.mk s l f) cs):∃ub ul uf xl xf,cs=Aq s ub ul uf/\SlR st 1 ub s.bytes.length (AN s.bytes)/\SlR st 13 ul l.length xl/\VsR st l xl/\SlR st 14 uf f.length xf/\FsR st f xf:=by
 unfold VlR at h
 obtain⟨ub,ul,uf,xl,xf,rfl,h⟩:=h
 exact⟨ub,ul,uf,xl,xf,rfl,h⟩
theorem szs (s:Sc) (l:List Vl) (f:List Fd):(Vl.mk s l f).sz=1+s.bytes.length+s.text.length+s.dg.length+Bw l+Bq f:=by unfold Vl.sz;rfl
theorem szd (k:B8) (v:Vl):(Fd.mk k v).sz=k.length+v.sz:=by unfold Fd.sz;rfl
theorem LO {st0 st:St} {uf:TV} {xf:List TV} {l:List Fd} (hke:Bg st0 st) (h2:SlR st0 14 uf l.length xf) (h3:FsR st0 l xf) {k:Nat} {d:Fd} (hd:l[k]? =some d):Ac st [] (.t (Au (ixT 14 uf k) 0)) 0=some (.str d.key):=by
 obtain⟨hk,_⟩:=List.getElem?_eq_some_iff.1 hd
 obtain⟨cw,hw,hcw,hcl⟩:=h3.get hd
 have hx:xf[k*14+0]? =some (.str d.key):=by
  cases d with
  | mk key w=>
   unfold FdR at hw
   obtain⟨cs,rfl,_⟩:=hw
   have:=congrArg (fun z=>z[0]?) hcw
   simpa [Fd.key]using this
 exact(h2.keep hke).ldf h3.len hk (by omega) hx
section
mutual
theorem Mc:∀(v:Vl) (d n:Nat),(B6 d n v).2=0->(B6 d n v).1=n+v.cnt
 | .mk s l f,d,n,h=>by
  unfold B6 at h⊢
  unfold Vl.cnt
  split at h
  ·cases h
  ·rename_i g1
   rw[if_neg g1]
   split at h
   ·cases h
   ·rename_i g2
    rw[if_neg g2]
    split at h
    ·rename_i h1;exact absurd h h1
    ·rename_i g3
     rw[if_neg g3]
     obtain⟨h2,h3⟩:=Bu h
     rw[BX h2,Nt f _ _ h3,Nr l _ _ h2];omega
theorem Nr:∀(l:List Vl) (d n:Nat),(Bo d n l).2=0->(Bo d n l).1=n+AF l
 | [],d,n,_=>by unfold Bo AF;rfl
 | v::r,d,n,h=>by
  unfold Bo at h⊢
  unfold AF
  obtain⟨h2,h3⟩:=Bu h
  rw[BX h2,Nr r _ _ h3,Mc v _ _ h2];omega
theorem TY:∀(x:Fd) (d n:Nat),(JL d n x).2=0->(JL d n x).1=n+x.cnt
 | .mk k v,d,n,h=>by unfold JL at h⊢;unfold Fd.cnt;exact Mc v _ _ h
theorem Nt:∀(l:List Fd) (d n:Nat),(BI d n l).2=0->(BI d n l).1=n+AJ l
 | [],d,n,_=>by unfold BI AJ;rfl
 | x::r,d,n,h=>by
  unfold BI at h⊢
  unfold AJ
  obtain⟨h2,h3⟩:=Bu h
  rw[BX h2,Nt r _ _ h3,TY x _ _ h2];omega
end
theorem Ed {v:Vl} (h:AX v=0):v.cnt<=65536:=by
 have h1:=Mc v 1 0 h
 have h2:=K4 v 1 0 (by omega) h
 omega
theorem KA {v:Vl} (h:AX v=0):AV v:=Oh v 1 0 h
end
theorem Jk {α:Type} {l m:List α} {k:Nat} {x y:α} (h:l.take k=m.take k) (hx:l[k]? =some x) (hy:m[k]? =some y) (e:x=y):l.take (k+1)=m.take (k+1):=by
 rw[Ce hx,Ce hy,h,e]
theorem sc_eq {s t:Sc} (h1:s.kind=t.kind) (h2:s.b=t.b) (h3:s.neg=t.neg) (h4:s.dg=t.dg) (h5:s.ex=t.ex) (h6:s.tk=t.tk) (h7:s.td=t.td) (h8:s.tn=t.tn) (h9:s.tz=t.tz) (h10:s.text=t.text) (h11:s.bytes=t.bytes):s=t:=by
 cases s;cases t;simp_all
theorem Same_ok:∀(N:Nat) (v w:Vl),v.sz<=N->w.sz<=2000000->N<=2000000->∀{st0 st:St} {cs ds:List TV} {K:Bool->St->Prop},VlR st0 v cs->VlR st0 w ds->Bg st0 st->(∀r,(r=true↔v=w)->K r st)->
  CallT PR A9 [.agg cs,.agg ds] [.one .bool] st K:=by
 intro N
 induction N with
 | zero=>intro v w h;have:=v.sz_pos;omega
 | succ N ih=>
 intro v w hN hW hN2 st0 st cs ds K h h' hke hk
 cases v with
 | mk s l f=>
 cases w with
 | mk t m g=>
 have hsz:=szs s l f
 have hll:=CW l
 have hfl:=B1 f
 have hsz':=szs t m g
 have hll':=CW m
 have hfl':=B1 g
 obtain⟨ub,ul,uf,xl,xf,rfl,h1,h2,h3,h4,h5⟩:=h.cells
 obtain⟨wb,wl,wf,yl,yf,rfl,k1,k2,k3,k4,k5⟩:=h'.cells
 have no:(Vl.mk s l f≠Vl.mk t m g)->K false st:=fun hne=>hk false ⟨fun h=>(by cases h),fun h=>absurd h hne⟩
 have inj:Vl.mk s l f=Vl.mk t m g↔s=t/\l=m/\f=g:=by simp
 refine Hv _ _ _ _ _ _ _ _ _ _ _ _ _ _ _ _ _ _ _ _ _ _ _ _ _ _ st K ?_
 refine Ab (fun e=>no fun h=>e (by rw[(inj.1 h).1])) fun e1=>As (fun e=>no fun h=>?_) fun e2=>As (fun e=>no fun h=>?_) fun e3=>As (fun e=>no fun h=>?_) fun e4=>Ab (fun e=>no fun h=>e (by rw[(inj.1 h).1])) fun e5=>?_
 ·rw[(inj.1 h).1]at e;simp at e
 ·rw[(inj.1 h).1]at e;simp at e
 ·rw[(inj.1 h).1]at e;simp at e
 refine Ad (x:= .str s.bytes) (by rw[(h1.keep hke).toBytes];rfl) (B4 (Ad (x:=TV.str t.bytes) (by rw[(k1.keep hke).toBytes];rfl) (B4 ?_)))
 refine Ab (fun e=>no fun h=>e (by rw[(inj.1 h).1])) fun e6=>?_
 have hst:s=t:=by
  simp only[Bool.not_eq_false',Bool.and_eq_true,beq_iff_eq,decide_eq_true_eq,and_true]at e2 e3 e4
  exact sc_eq (Decidable.not_not.1 e1) e2 e3.1 e3.2.1 e3.2.2 e4.1 e4.2.1 e4.2.2.1 e4.2.2.2 (Decidable.not_not.1 e5) (Decidable.not_not.1 e6)
 subst hst
 refine Aa h2.isSl (Aa k2.isSl ?_)
 rw[h2.lenS,k2.lenS]
 refine Ab (fun e=>no fun h=>e (by rw[(inj.1 h).2.1])) fun e7=>Aa h4.isSl (Aa k4.isSl ?_)
 rw[h4.lenS,k4.lenS]
 refine Ab (fun e=>no fun h=>e (by rw[(inj.1 h).2.2])) fun e8=>?_
 have ell:l.length=m.length:=by omega
 have efl:f.length=g.length:=by omega
 refine⟨fun i a1 a2 a3 a4 a5 a6 a7 a8 a9 a10 a11 a12 a13 b1 b2 b3 b4 b5 b6 b7 b8 b9 b10 b11 b12 b13 st'=>ul=a12/\uf=a13/\wl=b12/\wf=b13/\st=st'/\∃k:Nat,i=k/\k<=l.length/\l.take k=m.take k,fun i _ _ _ _ _ _ _ _ _ _ _ _ _ _ _ _ _ _ _ _ _ _ _ _ _ _ _=>(l.length-i).toNat,
  ⟨rfl,rfl,rfl,rfl,rfl,0,rfl,Nat.zero_le _,rfl⟩,?_⟩
 rintro _ a1 a2 a3 a4 a5 a6 a7 a8 a9 a10 a11 _ _ b1 b2 b3 b4 b5 b6 b7 b8 b9 b10 b11 _ _ _ ⟨rfl,rfl,rfl,rfl,rfl,k,rfl,hkl,hE⟩
 refine Aa h2.isSl (Ab (fun q=>?_) fun q=>?_)
 ·rw[h2.lenS]at q
  refine MD hke h2 h3 rfl (by omega) fun s1 l1 f1 ub1 ul1 uf1 gw hw on=>MD hke k2 k3 rfl (by omega) fun s2 l2 f2 ub2 ul2 uf2 gw2 hw2 on2=>?_
  have hwsz:=Ct gw
  have hwsz2:=Ct gw2
  refine ih _ (.mk s2 l2 f2) (by omega) (by omega) (by omega) hw hw2 hke fun r hr=>As (fun hb=>no fun h=>?_) fun hb=>?_
  ·rw[(inj.1 h).2.1,gw2]at gw
   rw[hr.2 (Option.some.inj gw).symm]at hb;cases hb
  ·rw[Ao _ (by omega) (by omega)]
   exact⟨⟨rfl,rfl,rfl,rfl,rfl,k+1,by omega,by omega,Jk hE gw gw2 (hr.1 (by simpa using hb))⟩,by dsimp only;omega⟩
 ·rw[h2.lenS]at q
  have hlm:l=m:=by
   have:k=l.length:=by omega
   rw[this,List.take_length,ell,List.take_length]at hE;exact hE
  subst hlm
  refine⟨fun i a1 a2 a3 a4 a5 a6 a7 a8 a9 a10 a11 a12 a13 b1 b2 b3 b4 b5 b6 b7 b8 b9 b10 b11 b12 b13 st'=>uf=a13/\wf=b13/\st=st'/\∃k:Nat,i=k/\k<=f.length/\f.take k=g.take k,fun i _ _ _ _ _ _ _ _ _ _ _ _ _ _ _ _ _ _ _ _ _ _ _ _ _ _ _=>(f.length-i).toNat,
   ⟨rfl,rfl,rfl,0,rfl,Nat.zero_le _,rfl⟩,?_⟩
  rintro _ a1 a2 a3 a4 a5 a6 a7 a8 a9 a10 a11 a12 _ b1 b2 b3 b4 b5 b6 b7 b8 b9 b10 b11 b12 _ _ ⟨rfl,rfl,rfl,k,rfl,hkl,hF⟩
  refine Aa h4.isSl (Ab (fun q=>?_) fun q=>?_)
  ·rw[h4.lenS]at q
   have gd:f[k]? =some f[k]:=List.getElem?_eq_getElem (by omega)
   have gd2:g[k]? =some g[k]:=List.getElem?_eq_getElem (by omega)
   generalize f[k]=d at gd
   generalize g[k]=d2 at gd2
   refine JA hke h4 h5 rfl gd (JA hke k4 k5 rfl gd2 (Ab (fun e=>?_) fun e=>?_))
   ·refine⟨LO hke k4 k5 gd2,LO hke h4 h5 gd,no fun h=>e ?_⟩
    rw[(inj.1 h).2.2,gd2]at gd
    rw[Option.some.inj gd]
   ·refine Lh hke h4 h5 rfl (by omega) fun key1 s1 l1 f1 ub1 ul1 uf1 gw hw on=>Lh hke k4 k5 rfl (by omega) fun key2 s2 l2 f2 ub2 ul2 uf2 gw2 hw2 on2=>?_
    have hwsz:=Dy gw
    have hwsz2:=Dy gw2
    have hwk:=szd key1 (.mk s1 l1 f1)
    have hwk2:=szd key2 (.mk s2 l2 f2)
    refine ih (.mk s1 l1 f1) (.mk s2 l2 f2) (by omega) (by omega) (by omega) hw hw2 hke fun r hr=>⟨LO hke k4 k5 gd2,LO hke h4 h5 gd,As (fun hb=>no fun h=>?_) fun hb=>?_⟩
    ·rw[(inj.1 h).2.2,gw2]at gw
     have:=Option.some.inj gw
     simp only[Fd.mk.injEq]at this
     rw[hr.2 this.2.symm]at hb;cases hb
    ·rw[Ao _ (by omega) (by omega)]
     refine⟨⟨rfl,rfl,rfl,k+1,by omega,by omega,Jk hF gw gw2 ?_⟩,by dsimp only;omega⟩
     rw[gd]at gw
     rw[gd2]at gw2
     have q1:=Option.some.inj gw
     have q2:=Option.some.inj gw2
     subst q1 q2
     have:=hr.1 (by simpa using hb)
     simp only[Fd.key,Decidable.not_not]at e
     rw[e,this]
  ·rw[h4.lenS]at q
   have hfg:f=g:=by
    have:k=f.length:=by omega
    rw[this,List.take_length,efl,List.take_length]at hF;exact hF
   exact hk true ⟨fun _=>by rw[hfg],fun _=>rfl⟩
section
def Co (l:List Vl) (f:List Fd):List Vl:=l++f.map Fd.val
mutual
def Kj:Vl->Nat
 | .mk _ l f=>1+max (Dk l) (II f)
def Dk:List Vl->Nat
 | []=>0
 | v::r=>max (Kj v) (Dk r)
def Sv:Fd->Nat
 | .mk _ v=>Kj v
def II:List Fd->Nat
 | []=>0
 | d::r=>max (Sv d) (II r)
end
theorem Ii:∀l m:List Vl,Dk (l++m)=max (Dk l) (Dk m)
 | [],m=>by simp[Dk]
 | v::r,m=>by simp only[List.cons_append,Dk,Ii r m];omega
theorem Nm:∀f:List Fd,II f=Dk (f.map Fd.val)
 | []=>rfl
 | .mk k v::r=>by simp only[List.map_cons,Dk,II,Nm r,Sv,Fd.val]
theorem D6:∀l m:List Vl,AF (l++m)=AF l+AF m
 | [],m=>by simp[AF]
 | v::r,m=>by simp only[List.cons_append,AF,D6 r m];omega
theorem Ng:∀f:List Fd,AJ f=AF (f.map Fd.val)
 | []=>rfl
 | .mk k v::r=>by simp only[List.map_cons,AF,AJ,Ng r,Fd.cnt,Fd.val]
theorem PH (s:Sc) (l:List Vl) (f:List Fd):(Vl.mk s l f).cnt=1+AF (Co l f):=by
 unfold Co Vl.cnt
 rw[D6,<-Ng];omega
theorem TQ (s:Sc) (l:List Vl) (f:List Fd):Kj (Vl.mk s l f)=1+Dk (Co l f):=by
 unfold Co Kj
 rw[Ii,<-Nm]
mutual
theorem RG:∀v:Vl,Kj v<=v.cnt
 | .mk s l f=>by
  unfold Kj Vl.cnt
  have:=L4 l
  have:=PD f
  omega
theorem L4:∀l:List Vl,Dk l<=AF l
 | []=>by unfold Dk;exact Nat.zero_le _
 | v::r=>by
  unfold Dk AF
  have:=RG v
  have:=L4 r
  omega
theorem TP:∀d:Fd,Sv d<=d.cnt
 | .mk k v=>by unfold Sv Fd.cnt;exact RG v
theorem PD:∀l:List Fd,II l<=AJ l
 | []=>by unfold II;exact Nat.zero_le _
 | d::r=>by
  unfold II AJ
  have:=TP d
  have:=PD r
  omega
end
theorem VsR.all_one {st:St}:∀{l:List Vl} {xs:List TV},VsR st l xs->List.all xs Ah=true
 | [],xs,h=>by unfold VsR at h;subst h;rfl
 | .mk s l f::r,xs,h=>by
  unfold VsR at h
  obtain⟨a,b,rfl,h1,h2⟩:=h
  obtain⟨ub,ul,uf,xl,xf,rfl,q1,q2,_,q4,_⟩:=h1.cells
  rw[List.all_append,VsR.all_one h2,Bool.and_true]
  exact Br q1.one q2.one q4.one
theorem VsR.app {st:St}:∀{l m:List Vl} {xs ys:List TV},VsR st l xs->VsR st m ys->VsR st (l++m) (xs++ys)
 | [],m,xs,ys,h,hm=>by unfold VsR at h;subst h;exact hm
 | v::r,m,xs,ys,h,hm=>by
  unfold VsR at h
  obtain⟨a,b,rfl,h1,h2⟩:=h
  show VsR st (v::(r++m)) _
  unfold VsR
  exact⟨a,b++ys,by simp,h1,VsR.app h2 hm⟩
theorem SB {st0 st:St} {u:TV} {l:List Vl} {xl:List TV} (hke:Bg st0 st) (h:SlR st0 13 u l.length xl) (hv:VsR st0 l xl) (hl:l.length<=2000000) {K:TV->St->Prop} (hk:∀v st',Aj st st'->Own st.nt 13 st' v l.length xl->K v st'):
  CallT PR AZ [u] [.one .tv] st K:=by
 have hxl:=hv.len
 refine CX _ st K (Aa h.isSl ?_)
 cases hq:Do u with
 | true=>
  show K .nilSlice st
  have h0:l=[]:=by
   rcases h with(⟨rfl,h1,_⟩ | ⟨tip,rfl⟩) | ⟨b,off,cap,m,rfl,_⟩
   ·exact List.eq_nil_of_length_eq_zero h1
   ·cases hq
   ·cases hq
  subst h0
  have hx0:xl=[]:=List.eq_nil_of_length_eq_zero (by simpa using hxl)
  subst hx0
  exact hk _ st (Aj.refl _) (Own.nil _ _ _)
 | false=>
  refine Ad ((h.keep hke).src hxl) (Aa hv.all_one ?_)
  refine HU (Aj.refl st) rfl (Own.full st.nt 13 st 0 []) (by simp only;omega) (fun h0=>?_) fun v1 st1 e1 _ ho=>?_
  ·simp only at h0
   exact List.eq_nil_of_length_eq_zero (by rw[hxl,h0,Nat.zero_mul])
  ·rw[List.nil_append,Nat.zero_add]at ho
   exact hk v1 st1 e1 ho
theorem Pa {s:Sc} {l:List Vl} {f:List Fd} (hN:(Vl.mk s l f).sz<=2000000) {st0 st:St} {ub ul uf:TV} {K:TV->St->Prop} (h:VlR st0 (.mk s l f) (Aq s ub ul uf)) (hke:Bg st0 st)
  (hk:∀u xl st',Aj st st'->SlR st' 13 u (Co l f).length xl->VsR st' (Co l f) xl->K u st'):CallT PR Eh [.agg (Aq s ub ul uf)] [.one .tv] st K:=by
 have hsz:=szs s l f
 have hll:=CW l
 have hfl:=B1 f
 obtain⟨ub',ul',uf',xl,xf,hcs,h1,h2,h3,h4,h5⟩:=h.cells
 simp only[Aq,List.cons.injEq,and_true,true_and]at hcs
 obtain⟨rfl,rfl,rfl⟩:=hcs
 have hxl:=h3.len
 refine Mk _ _ _ _ _ _ _ _ _ _ _ _ _ st K (SB hke h2 h3 (by omega) fun v1 st1 e1 ho1=>Aa h4.isSl ?_)
 refine⟨fun o i u n st'=>uf=u/\n=(f.length:Int)/\∃(k:Nat) (xs:List TV),i=k/\k<=f.length/\Aj st st'/\Own st.nt 13 st' o (l.length+k) (xl++xs)/\VsR st0 ((f.take k).map Fd.val) xs,fun _ i _ _ _=>(f.length-i).toNat,
  ⟨rfl,by rw[h4.lenS],0,[],rfl,Nat.zero_le _,e1,by simpa using ho1,by simp only[List.take_zero,List.map_nil];unfold VsR;rfl⟩,?_⟩
 rintro o _ _ _ st2 ⟨rfl,rfl,k,xs,rfl,hkf,e2,ho,hv⟩
 refine Ab (fun g2=>?_) fun g2=>?_
 ·refine el14 (hke.trans e2.keeps) h4 h5 rfl (by omega) fun key s' l' f' ub1 ul1 uf1 gw hw on=>Aa on ?_
  have on2:List.all (Aq s' ub1 ul1 uf1) Ah=true:=by
   rw[List.all_cons]at on;exact(Bool.and_eq_true_iff.1 on).2
  refine Aa on2 (HU e2 rfl ho (by omega) (fun h=>by cases h) fun v2 st3 e3 _ ho2=>?_)
  rw[Ao _ (by omega) (by omega)]
  refine⟨⟨rfl,rfl,k+1,xs++Aq s' ub1 ul1 uf1,by omega,by omega,e3,by simpa [Aq,Nat.add_assoc]using ho2,?_⟩,by dsimp only;omega⟩
  rw[Ce gw,List.map_append]
  exact VsR.snoc hv hw
 ·have hkk:k=f.length:=by omega
  subst hkk
  rw[List.take_length]at hv
  have hke2:=hke.trans e2.keeps
  refine hk o (xl++xs) st2 e2 ?_ (VsR.keep hke2 (VsR.app h3 hv))
  unfold Co
  rw[List.length_append,List.length_map]
  exact .of_rd ho.rd
theorem Gw {l:List Vl} {k:Nat} {w:Vl} (h:l[k]? =some w):AF (l.take (k+1))=AF (l.take k)+w.cnt:=by
 rw[Ce h,D6];simp[AF]
theorem QN {l:List Vl} {k:Nat} {w:Vl} (h:l[k]? =some w):Dk (l.take (k+1))=max (Dk (l.take k)) (Kj w):=by
 rw[Ce h,Ii];simp[Dk]
theorem Ee (l:List Vl) (k:Nat):AF (l.take k)<=AF l:=by
 have:=D6 (l.take k) (l.drop k)
 rw[List.take_append_drop]at this;omega
theorem MM (l:List Vl):l.length<=AF l:=by
 induction l with
 | nil=>exact Nat.zero_le _
 | cons v r ih=>unfold AF;have:=v.cnt_pos;simp only[List.length_cons];omega
theorem IH (l:List Vl) (k:Nat):Dk (l.take k)<=Dk l:=by
 have:=Ii (l.take k) (l.drop k)
 rw[List.take_append_drop]at this;omega
mutual
theorem Fo:∀v:Vl,v.cnt<=v.sz
 | .mk s l f=>by
  have:=K0 l
  have:=K1 f
  unfold Vl.cnt;rw[szs];omega
theorem K0:∀l:List Vl,AF l<=Bw l
 | []=>by unfold AF;exact Nat.zero_le _
 | v::r=>by
  unfold AF Bw
  have:=Fo v
  have:=K0 r
  omega
theorem cntd_sz:∀d:Fd,d.cnt<=d.sz
 | .mk k v=>by unfold Fd.cnt Fd.sz;have:=Fo v;omega
theorem K1:∀l:List Fd,AJ l<=Bq l
 | []=>by unfold AJ;exact Nat.zero_le _
 | d::r=>by
  unfold AJ Bq
  have:=cntd_sz d
  have:=K1 r
  omega
end
theorem Pn {s:Sc} {l:List Vl} {f:List Fd} {k:Nat} {w:Vl} (h:(Co l f)[k]? =some w):w.sz+1<=(Vl.mk s l f).sz:=by
 have hsz:=szs s l f
 rcases List.mem_append.1 (Fc h)with h | h
 ·have:=SO h;omega
 ·obtain⟨d,hd,rfl⟩:=List.mem_map.1 h
  have:=JE hd
  cases d;rw[szd]at this;simp only[Fd.val];omega
theorem size_ok:∀(N:Nat) (v:Vl),v.sz<=N->N<=2000000->∀{st0 st:St} {cs:List TV} {L:Int} {K:Int->St->Prop},VlR st0 v cs->Bg st0 st->(v.cnt:Int)<=L->L<=100000000->(∀st',Aj st st'->K (v.cnt:Nat) st')->
  CallT PR Eg [.agg cs,.int .i64 L] [.one (.int .i64)] st K:=by
 intro N
 induction N with
 | zero=>intro v h;have:=v.sz_pos;omega
 | succ N ih=>
 intro v hN hN2 st0 st cs L K h hke hL hL2 hk
 cases v with
 | mk s l f=>
 have h0:=h
 obtain⟨ub,ul,uf,xl,xf,rfl,_⟩:=h.cells
 have hC:=PH s l f
 have hcs:=Fo (.mk s l f)
 have hpos:=(Vl.mk s l f).cnt_pos
 have hlen:=MM (Co l f)
 refine Mj _ _ _ _ _ _ _ _ _ _ _ _ _ L st K (Ab (fun g=>by omega) fun _=>Pa (by omega) h0 hke fun u xl st1 e1 hu hv=>Aa hu.isSl ?_)
 refine⟨fun n i le u' m st'=>u=u'/\le=L/\m=((Co l f).length:Int)/\∃k:Nat,i=k/\k<=(Co l f).length/\n=((1+AF ((Co l f).take k):Nat):Int)/\Aj st1 st',fun _ i _ _ _ _=>((Co l f).length-i).toNat,
  ⟨rfl,rfl,by rw[hu.lenS],0,rfl,Nat.zero_le _,rfl,Aj.refl _⟩,?_⟩
 rintro _ _ _ _ _ st2 ⟨rfl,rfl,rfl,k,rfl,hkl,rfl,e2⟩
 have htk:=Ee (Co l f) k
 refine Ab (fun g=>?_) fun g=>?_
 ·refine MD e2.keeps hu hv rfl (by omega) fun s' l' f' ub1 ul1 uf1 gw hw on=>Aa on ?_
  have hwsz:=Pn (s:=s) gw
  have hwc:=Gw gw
  have htk2:=Ee (Co l f) (k+1)
  rw[Ao (_-1) (by omega) (by omega)]
  refine ih _ (by omega) (by omega) hw e2.keeps (by omega) (by omega) fun st3 e3=>?_
  rw[Ao _ (by omega) (by omega),Ao _ (by omega) (by omega)]
  exact⟨⟨rfl,rfl,rfl,k+1,by omega,by omega,by omega,e2.trans e3⟩,by dsimp only;omega⟩
 ·have hkk:k=(Co l f).length:=by omega
  rw[hkk,List.take_length,<-hC]
  exact hk st2 (e1.trans e2)
theorem Size_ok {v:Vl} (hN:v.sz<=2000000) (hC:v.cnt<=65536) {st0 st:St} {cs:List TV} {K:Int->St->Prop} (h:VlR st0 v cs) (hke:Bg st0 st) (hk:∀st',Aj st st'->K (v.cnt:Nat) st'):CallT PR FR [.agg cs] [.one (.int .i64)] st K:=by
 cases v with
 | mk s l f=>
 have h0:=h
 obtain⟨ub,ul,uf,xl,xf,rfl,_⟩:=h.cells
 exact Mn _ _ _ _ _ _ _ _ _ _ _ _ _ st K (size_ok 2000000 _ hN (by omega) h0 hke (by omega) (by omega) hk)
theorem deep_ok:∀(N:Nat) (v:Vl),v.sz<=N->N<=2000000->∀{st0 st:St} {cs:List TV} {L:Int} {K:Int->St->Prop},VlR st0 v cs->Bg st0 st->(v.cnt:Int)<=L->L<=100000000->(∀st',Aj st st'->K (Kj v:Nat) st')->
  CallT PR Ei [.agg cs,.int .i64 L] [.one (.int .i64)] st K:=by
 intro N
 induction N with
 | zero=>intro v h;have:=v.sz_pos;omega
 | succ N ih=>
 intro v hN hN2 st0 st cs L K h hke hL hL2 hk
 cases v with
 | mk s l f=>
 have h0:=h
 obtain⟨ub,ul,uf,xl,xf,rfl,_⟩:=h.cells
 have hC:=PH s l f
 have hD:=TQ s l f
 have hcs:=Fo (.mk s l f)
 have hpos:=(Vl.mk s l f).cnt_pos
 have hlen:=MM (Co l f)
 have hdc:=L4 (Co l f)
 refine Mm _ _ _ _ _ _ _ _ _ _ _ _ _ L st K (Ab (fun g=>?_) fun _=>Pa (by omega) h0 hke fun u xl st1 e1 hu hv=>Aa hu.isSl ?_)
 ·have:=hk st (Aj.refl _)
  rw[show Kj (.mk s l f)=1 by omega]at this;exact this
 refine⟨fun n i le u' m st'=>u=u'/\le=L/\m=((Co l f).length:Int)/\∃k:Nat,i=k/\k<=(Co l f).length/\n=((1+Dk ((Co l f).take k):Nat):Int)/\Aj st1 st',fun _ i _ _ _ _=>((Co l f).length-i).toNat,
  ⟨rfl,rfl,by rw[hu.lenS],0,rfl,Nat.zero_le _,rfl,Aj.refl _⟩,?_⟩
 rintro _ _ _ _ _ st2 ⟨rfl,rfl,rfl,k,rfl,hkl,rfl,e2⟩
 have htk:=IH (Co l f) k
 refine Ab (fun g=>?_) fun g=>?_
 ·refine MD e2.keeps hu hv rfl (by omega) fun s' l' f' ub1 ul1 uf1 gw hw on=>Aa on ?_
  have hwsz:=Pn (s:=s) gw
  have hwc:=Gw gw
  have hwd:=QN gw
  have htk2:=IH (Co l f) (k+1)
  have htk3:=Ee (Co l f) (k+1)
  rw[Ao (_-1) (by omega) (by omega)]
  refine ih _ (by omega) (by omega) hw e2.keeps (by omega) (by omega) fun st3 e3=>?_
  rw[Ao _ (by omega) (by omega),Ao _ (by omega) (by omega)]
  exact⟨⟨rfl,rfl,rfl,k+1,by omega,by omega,by rw[hwd];omega,e2.trans e3⟩,by dsimp only;omega⟩
 ·have hkk:k=(Co l f).length:=by omega
  rw[hkk,List.take_length,<-hD]
  exact hk st2 (e1.trans e2)
theorem Uh {v:Vl} (hN:v.sz<=2000000) (hC:v.cnt<=65536) {st0 st:St} {cs:List TV} {K:Int->St->Prop} (h:VlR st0 v cs) (hke:Bg st0 st) (hk:∀st',Aj st st'->K (Kj v:Nat) st'):CallT PR Fh [.agg cs] [.one (.int .i64)] st K:=by
 cases v with
 | mk s l f=>
 have h0:=h
 obtain⟨ub,ul,uf,xl,xf,rfl,_⟩:=h.cells
 exact La _ _ _ _ _ _ _ _ _ _ _ _ _ st K (deep_ok 2000000 _ hN (by omega) h0 hke (by omega) (by omega) hk)
end
def zs (n:Nat):B8:=List.replicate n 48
theorem DN {T b sz bytes:Nat} {st0 st:St} {v:TV} {n k:Nat} {xs ys:List TV} {K:TV->St->Prop} (e:Aj st0 st) (hb:b=st0.nt) (h:Own b sz st v n xs) (hby:(n+k)*bytes<=140737488355328) (hys:k=0->ys=[])
  (hK:∀v' st',Aj st0 st'->Bg st st'->Own b sz st' v' (n+k) (xs++ys)->K v' st'):Cl T sz bytes v k ys st K:=by
 subst hb
 have kk:∀st':St,st'.nb=st.nb->st'.box=st.box->Bg st st':=fun st' a b=>⟨Nat.le_of_eq a.symm,fun i _=>by rw[b]⟩
 rcases h with⟨rfl,rfl,rfl⟩ | ⟨tip,rfl,ht⟩
 ·simp only[Cl]
  cases k with
  | zero=>rw[hys rfl]at hK;exact hK _ _ e (kk _ rfl rfl) (.nil _ _ _)
  | succ m=>
   simp only[Ai]
   refine⟨by simpa using hby,hK _ _ (e.fresh _) (kk _ rfl rfl) ?_⟩
   simp only[List.nil_append,Nat.zero_add]
   exact Own.fresh _ _ e.nt
 ·simp only[Cl,Nat.beq_refl]
  refine⟨hby,?_⟩
  rcases ht with rfl | ⟨id,rfl,h1,h2,h3⟩
  ·cases k with
   | zero=>rw[hys rfl]at hK;simp only[List.append_nil]at hK;exact hK _ _ e (kk _ rfl rfl) (Own.full _ _ _ _ _)
   | succ m=>exact hK _ _ (e.fresh _) (kk _ rfl rfl) (Own.fresh _ _ e.nt)
  ·exact⟨h3,hK _ _ ((e.retire h1).fresh _) (kk _ rfl rfl) (Own.fresh (st:=st.retire id) _ _ e.nt)⟩
theorem FsR.snoc {st:St} {d:Fd} {cd:List TV} {l:List Fd} {xs:List TV} (h:FsR st l xs) (hd:FdR st d cd):FsR st (l++[d]) (xs++cd):=by
 obtain⟨cks,rfl,hall⟩:=h.chunks
 have:=FsR.of_chunks (hall.snoc hd)
 simpa using this
theorem C0 (st:St):Bg St.zero st:=⟨Nat.zero_le _,fun i hi=>absurd hi (Nat.not_lt_zero _)⟩
section
mutual
def lvV:Vl->Nat
 | .mk _ l f=>1+max (Fe l) (EP f)
def Fe:List Vl->Nat
 | []=>0
 | v::r=>max (lvV v) (Fe r)
def lvD:Fd->Nat
 | .mk _ v=>lvV v
def EP:List Fd->Nat
 | []=>0
 | d::r=>max (lvD d) (EP r)
end
end
theorem kb {s:Sc} {k:Nat} (h:s.kind=(k:Nat)) (hk:k<=7):s.kind.toNat.toUInt8.toNat=k:=by
 rw[h,Int.toNat_natCast,Rn _ (by omega)]
section
mutual
theorem Oj:∀(v:Vl) (d n:Nat),(B6 d n v).2=0->lvV v<=49-d
 | .mk s l f,d,n,h=>by
  unfold B6 at h
  split at h
  ·cases h
  split at h
  ·cases h
  split at h
  ·rename_i h1;exact absurd h h1
  ·obtain⟨h1,h2⟩:=Bu h
   have:=PL l (d+1) (n+1) h1
   have:=PP f (d+1) _ h2
   unfold lvV;omega
theorem PL:∀(l:List Vl) (d n:Nat),(Bo d n l).2=0->Fe l<=49-d
 | [],d,n,h=>by unfold Fe;omega
 | v::r,d,n,h=>by
  unfold Bo at h
  obtain⟨h1,h2⟩:=Bu h
  have:=Oj v d n h1
  have:=PL r d _ h2
  unfold Fe;omega
theorem chkD_lv:∀(x:Fd) (d n:Nat),(JL d n x).2=0->lvD x<=49-d
 | .mk k v,d,n,h=>by unfold JL at h;unfold lvD;exact Oj v d n h
theorem PP:∀(f:List Fd) (d n:Nat),(BI d n f).2=0->EP f<=49-d
 | [],d,n,h=>by unfold EP;omega
 | x::r,d,n,h=>by
  unfold BI at h
  obtain⟨h1,h2⟩:=Bu h
  have:=chkD_lv x d n h1
  have:=PP r d _ h2
  unfold EP;omega
end
end
section
theorem Je (l m:List Vl):Bw (l++m)=Bw l+Bw m:=by
 induction l with
 | nil=>simp[Bw]
 | cons v r ih=>simp only[List.cons_append,Bw,ih];omega
theorem JF (l m:List Fd):Bq (l++m)=Bq l+Bq m:=by
 induction l with
 | nil=>simp[Bq]
 | cons v r ih=>simp only[List.cons_append,Bq,ih];omega
theorem DK (l m:List Fd):AJ (l++m)=AJ l+AJ m:=by
 induction l with
 | nil=>simp[AJ]
 | cons v r ih=>simp only[List.cons_append,AJ,ih];omega
theorem ML {l:List Vl} {k:Nat} {w:Vl} (h:l[k]? =some w):Bw (l.take (k+1))=Bw (l.take k)+w.sz:=by
 rw[List.take_add_one,h,Je];simp[Bw]
theorem Nf {l:List Fd} {k:Nat} {w:Fd} (h:l[k]? =some w):Bq (l.take (k+1))=Bq (l.take k)+w.sz:=by
 rw[List.take_add_one,h,JF];simp[Bq]
theorem LU {l:List Fd} {k:Nat} {w:Fd} (h:l[k]? =some w):AJ (l.take (k+1))=AJ (l.take k)+w.cnt:=by
 rw[List.take_add_one,h,DK];simp[AJ]
theorem vcnt (s:Sc) (l:List Vl) (f:List Fd):(Vl.mk s l f).cnt=1+AF l+AJ f:=by unfold Vl.cnt;rfl
theorem fcnt (k:B8) (v:Vl):(Fd.mk k v).cnt=v.cnt:=by unfold Fd.cnt;rfl
def RmOk (v:Vl) (n r:Int):Prop:=r= -1∨(0<=r/\(v.sz:Int)+3000+r*12001<=n*12001/\(v.cnt:Int)+r<=n)
theorem R4:∀(N:Nat) (v:Vl),v.sz<=N->∀{st:St} {cs:List TV} {D n:Int} {K:Int->St->Prop},VlR St.zero v cs-> -1000<=D->D<=1000-> -1<=n->n<=1000->(∀r,RmOk v n r->K r st)->
  CallT PR A8 [.agg cs,.int .i64 D,.int .i64 n,.int .i64 3000] [.one (.int .i64)] st K:=by
 intro N
 induction N with
 | zero=>intro v h;have:=v.sz_pos;omega
 | succ N ih=>
 intro v hN st cs D n K h hD1 hD2 hn1 hn2 hk
 cases v with
 | mk s l f=>
 have hsz:=szs s l f
 have hct:=vcnt s l f
 obtain⟨ub,ul,uf,xl,xf,rfl,h1,h2,h3,h4,h5⟩:=h.cells
 have no:K (-1) st:=hk _ (.inl rfl)
 refine Ht _ _ _ _ _ _ _ _ _ _ _ _ _ D n 3000 st K (Ab (fun _=>no) fun g1=>Ab (fun _=>no) fun g2=>Ab (fun _=>no) fun g3=>Aa h1.isSl (Ab (fun _=>no) fun g4=>Ab (fun _=>no) fun g5=>Aa h2.isSl (Ab (fun _=>no) fun g6=>Aa h4.isSl (Ab (fun _=>no) fun g7=>?_))))
 rw[h1.lenS]at g4
 rw[h2.lenS]at g6
 rw[h4.lenS]at g7
 rw[Ao (n-1) (by omega) (by omega)]
 refine⟨fun zn zi zd zb k bo ng dg ex tk td tn tz tx u0 u1 u2 st'=>ul=u1/\uf=u2/\D=zd/\3000=zb/\st=st'/\∃k:Nat,zi=(k:Int)/\k<=l.length/\ -1<=zn/\zn<=n-1/\(0<=zn->(Bw (l.take k):Int)+zn*12001<=(n-1)*12001/\(AF (l.take k):Int)+zn<=n-1),
  fun _ zi _ _ _ _ _ _ _ _ _ _ _ _ _ _ _ _=>(l.length-zi).toNat,⟨rfl,rfl,rfl,rfl,rfl,0,rfl,Nat.zero_le _,by omega,by omega,fun _=>by rw[List.take_zero];simp[Bw,AF]⟩,?_⟩
 rintro zn _ _ _ _ _ _ _ _ _ _ _ _ _ _ _ _ _ ⟨rfl,rfl,rfl,rfl,rfl,k,rfl,hkl,z1,z2,z3⟩
 refine Aa h2.isSl (Ab (fun g=>Ab (fun g0=>?_) fun g0=>?q1) fun g=>?q2)
 ·rw[h2.lenS]at g
  refine MD (C0 _) h2 h3 rfl (by omega) fun s' l' f' ub1 ul1 uf1 gw hw on=>?_
  have hwsz:=Ct gw
  have e1:=ML gw
  have e2:=Gw gw
  obtain⟨z4,z5⟩:=z3 g0
  rw[Ao ((k:Int)+1) (by omega) (by omega),Ao (D-1) (by omega) (by omega)]
  refine ih _ (by omega) hw (by omega) (by omega) (by omega) (by omega) fun r hr=>⟨⟨rfl,rfl,rfl,rfl,rfl,k+1,by omega,by omega,?_,?_,?_⟩,by dsimp only;omega⟩
  ·rcases hr with hr | hr<;>omega
  ·rcases hr with hr | hr
   ·omega
   ·have:=Vl.sz_pos (.mk s' l' f');omega
  ·intro hr0
   rcases hr with hr | hr
   ·omega
   ·rw[e1,e2];omega
 case q1 | q2=>
  have zz:zn= -1∨(Bw l:Int)+zn*12001<=(n-1)*12001/\(AF l:Int)+zn<=n-1:=by
   by_cases hz:0<=zn
   ·right
    have hkk:k=l.length:=by
     first
      | (exfalso;exact g0 hz)
      | (rw[h2.lenS]at g;omega)
    rw[hkk,List.take_of_length_le (Nat.le_refl _)]at z3
    exact z3 hz
   ·left;omega
  refine⟨fun yn zi zd zb k bo ng dg ex tk td tn tz tx u0 u1 u2 st'=>uf=u2/\D=zd/\3000=zb/\st=st'/\∃k:Nat,zi=(k:Int)/\k<=f.length/\ -1<=yn/\yn<=n-1/\(0<=yn->(Bw l:Int)+Bq (f.take k)+yn*12001<=(n-1)*12001/\(AF l:Int)+AJ (f.take k)+yn<=n-1),
   fun _ zi _ _ _ _ _ _ _ _ _ _ _ _ _ _ _ _=>(f.length-zi).toNat,⟨rfl,rfl,rfl,rfl,0,rfl,Nat.zero_le _,by omega,by omega,fun hz=>by rw[List.take_zero];simp only[Bq,AJ];omega⟩,?_⟩
  rintro yn _ _ _ _ _ _ _ _ _ _ _ _ _ _ _ _ _ ⟨rfl,rfl,rfl,rfl,k2,rfl,hkl2,y1,y2,y3⟩
  have fin:(k2=f.length∨¬0<=yn)->K yn st:=by
   intro hor
   refine hk _ ?_
   by_cases hy:0<=yn
   ·rcases hor with hor | hor
    ·obtain⟨y4,y5⟩:=y3 hy
     rw[hor,List.take_of_length_le (Nat.le_refl _)]at y4 y5
     exact .inr ⟨hy,by rw[hsz];omega,by rw[hct];omega⟩
    ·exact absurd hy hor
   ·exact .inl (by omega)
  refine Aa h4.isSl (Ab (fun g8=>Ab (fun g9=>?_) fun g9=>fin (.inr g9)) fun g8=>fin (.inl (by rw[h4.lenS]at g8;omega)))
  rw[h4.lenS]at g8
  have hlt:k2<f.length:=by omega
  obtain⟨dd,hdd⟩:∃d,f[k2]? =some d:=⟨_,List.getElem?_eq_getElem hlt⟩
  obtain⟨key,w⟩:=dd
  obtain⟨s',l',f'⟩:=w
  have hky:=LO (st:=st) (C0 st) h4 h5 hdd
  refine⟨⟨by omega,by rw[h4.lenZ];omega⟩,Aa (h4.isPtr hlt) (Ad hky (B4 (Ab (fun _=>no) fun g10=>?_)))⟩
  refine Lh (C0 _) h4 h5 rfl hlt fun key' s' l' f' ub1 ul1 uf1 gw hw on=>?_
  rw[hdd]at gw
  cases gw
  have hwsz:=Dy hdd
  have e1:=Nf hdd
  have e2:=LU hdd
  have e3:=szd key (.mk s' l' f')
  have e4:=fcnt key (.mk s' l' f')
  obtain⟨y4,y5⟩:=y3 g9
  have g10:¬3000<(key.length:Int):=g10
  rw[Ao ((k2:Int)+1) (by omega) (by omega),Ao (D-1) (by omega) (by omega)]
  refine ih _ (by omega) hw (by omega) (by omega) (by omega) (by omega) fun r hr=>⟨⟨rfl,rfl,rfl,rfl,k2+1,by omega,by omega,?_,?_,?_⟩,by dsimp only;omega⟩
  ·rcases hr with hr | hr<;>omega
  ·rcases hr with hr | hr
   ·omega
   ·have:=Vl.sz_pos (.mk s' l' f');omega
  ·intro hr0
   rcases hr with hr | hr
   ·omega
   ·rw[e1,e2];omega
theorem OC:∀(N:Nat) (v:Vl),v.sz<=N->N<=2000000->∀{st:St} {cs:List TV} {K:Int->St->Prop},VlR St.zero v cs->(∀w:Int,(v.cnt:Int)+w=v.sz->K w st)->
  CallT PR Be [.agg cs] [.one (.int .i64)] st K:=by
 intro N
 induction N with
 | zero=>intro v h;have:=v.sz_pos;omega
 | succ N ih=>
 intro v hN hN2 st cs K h hk
 cases v with
 | mk s l f=>
 have hsz:=szs s l f
 have hct:=vcnt s l f
 have hll:=CW l
 have hfl:=B1 f
 have hc1:=K0 l
 have hc2:=K1 f
 obtain⟨ub,ul,uf,xl,xf,rfl,h1,h2,h3,h4,h5⟩:=h.cells
 refine Gy _ _ _ _ _ _ _ _ _ _ _ _ _ st K (Aa h1.isSl ?_)
 refine⟨fun zn zi k bo ng dg ex tk td tn tz tx u0 u1 u2 st'=>ul=u1/\uf=u2/\st=st'/\∃k:Nat,zi=(k:Int)/\k<=l.length/\zn+(AF (l.take k):Int)=(s.bytes.length:Int)+s.text.length+s.dg.length+Bw (l.take k),
  fun _ zi _ _ _ _ _ _ _ _ _ _ _ _ _ _=>(l.length-zi).toNat,⟨rfl,rfl,rfl,0,rfl,Nat.zero_le _,?_⟩,?_⟩
 ·rw[h1.lenS,Ao ((s.text.length:Int)+(s.bytes.length:Nat)) (by omega) (by omega),Ao _ (by omega) (by omega),List.take_zero]
  simp only[AF,Bw];omega
 rintro zn _ _ _ _ _ _ _ _ _ _ _ _ _ _ _ ⟨rfl,rfl,rfl,k,rfl,hkl,z1⟩
 have b1:=Ee l k
 have b2:Bw (l.take k)<=Bw l:=by
  conv=>rhs;rw[<-List.take_append_drop k l,Je]
  omega
 have b3:=K0 (l.take k)
 refine Aa h2.isSl (Ab (fun g=>?_) fun g=>?_)
 ·rw[h2.lenS]at g
  refine MD (C0 _) h2 h3 rfl (by omega) fun s' l' f' ub1 ul1 uf1 gw hw on=>?_
  have hwsz:=Ct gw
  have e1:=ML gw
  have e2:=Gw gw
  have e3:=Fo (.mk s' l' f')
  rw[Ao ((k:Int)+1) (by omega) (by omega)]
  refine ih _ (by omega) (by omega) hw fun r hr=>⟨⟨rfl,rfl,rfl,k+1,by omega,by omega,?_⟩,by dsimp only;omega⟩
  rw[Ao _ (by omega) (by omega),e1,e2];omega
 ·have hkk:k=l.length:=by rw[h2.lenS]at g;omega
  rw[hkk,List.take_of_length_le (Nat.le_refl _)]at z1
  refine⟨fun yn zi k bo ng dg ex tk td tn tz tx u0 u1 u2 st'=>uf=u2/\st=st'/\∃k:Nat,zi=(k:Int)/\k<=f.length/\yn+(AF l:Int)+AJ (f.take k)=(s.bytes.length:Int)+s.text.length+s.dg.length+Bw l+Bq (f.take k),
   fun _ zi _ _ _ _ _ _ _ _ _ _ _ _ _ _=>(f.length-zi).toNat,⟨rfl,rfl,0,rfl,Nat.zero_le _,by rw[List.take_zero];simp only[AJ,Bq];omega⟩,?_⟩
  rintro yn _ _ _ _ _ _ _ _ _ _ _ _ _ _ _ ⟨rfl,rfl,k2,rfl,hkl2,y1⟩
  have b4:AJ (f.take k2)<=AJ f:=by
   conv=>rhs;rw[<-List.take_append_drop k2 f,DK]
   omega
  have b5:Bq (f.take k2)<=Bq f:=by
   conv=>rhs;rw[<-List.take_append_drop k2 f,JF]
   omega
  have b6:=K1 (f.take k2)
  refine Aa h4.isSl (Ab (fun g8=>?_) fun g8=>?_)
  case refine_2=>
   have hkk2:k2=f.length:=by rw[h4.lenS]at g8;omega
   rw[hkk2,List.take_of_length_le (Nat.le_refl _)]at y1
   exact hk _ (by rw[hsz,hct];omega)
  rw[h4.lenS]at g8
  have hlt:k2<f.length:=by omega
  obtain⟨dd,hdd⟩:∃d,f[k2]? =some d:=⟨_,List.getElem?_eq_getElem hlt⟩
  obtain⟨key,w⟩:=dd
  obtain⟨s',l',f'⟩:=w
  have hky:∀st,Ac st [] (.t (Au (ixT 14 uf k2) 0)) 0=some (.str key):=fun st=>LO (st:=st) (C0 st) h4 h5 hdd
  refine⟨⟨by omega,by rw[h4.lenZ];omega⟩,Aa (h4.isPtr hlt) (Ad (hky _) (B4 ?_))⟩
  refine Lh (C0 _) h4 h5 rfl hlt fun key' s' l' f' ub1 ul1 uf1 gw hw on=>?_
  rw[hdd]at gw
  cases gw
  have hwsz:=Dy hdd
  have e1:=Nf hdd
  have e2:=LU hdd
  have e3:=szd key (.mk s' l' f')
  have e4:=fcnt key (.mk s' l' f')
  have e5:=Fo (.mk s' l' f')
  rw[Ao ((k2:Int)+1) (by omega) (by omega)]
  refine ih _ (by omega) (by omega) hw fun r hr=>⟨hky _,⟨rfl,rfl,k2+1,by omega,by omega,?_⟩,by dsimp only;omega⟩
  rw[Ao (yn+_) (by omega) (by omega),Ao _ (by omega) (by omega),e1,e2];omega
theorem Qd {v:Vl} {cs:List TV} {st:St} {K:Bool->St->Prop} (h:VlR St.zero v cs) (hk:∀b:Bool,(b=true->v.sz<=20150/\v.cnt<=150)->K b st):
  CallT PR CG [.agg cs] [.one .bool] st K:=by
 have h0:=h
 obtain⟨s,l,f⟩:=v
 obtain⟨ub,ul,uf,xl,xf,rfl,_⟩:=h.cells
 refine Hb _ _ _ _ _ _ _ _ _ _ _ _ _ st K (R4 _ _ (Nat.le_refl _) h0 (by decide) (by decide) (by decide) (by decide) fun r hr=>Ab (fun g=>?_) fun g=>hk false (fun h=>by cases h))
 rcases hr with hr | ⟨hr0,hr1,hr2⟩
 ·omega
 refine OC 2000000 _ (by omega) (Nat.le_refl _) h0 fun w hw=>hk _ fun hb=>?_
 rw[decide_eq_true_eq]at hb
 omega
mutual
theorem Oi:∀(v:Vl) (d n:Nat),AV v->d+lvV v<=49->n+v.cnt<=65536->B6 d n v=(n+v.cnt,0)
 | .mk s l f,d,n,h,h1,h2=>by
  unfold AV at h
  obtain⟨g1,g2,g3⟩:=h
  unfold lvV at h1
  unfold Vl.cnt at h2⊢
  have e1:=PK l (d+1) (n+1) g2 (by omega) (by omega)
  have e2:=PO f (d+1) (n+1+AF l) g3 (by omega) (by omega)
  rw[Ok (by omega) (by omega) (J6.2 g1),e1,BX rfl]
  show BI (d+1) (n+1+AF l) f=_
  rw[e2]
  congr 1;omega
theorem PK:∀(l:List Vl) (d n:Nat),Ci l->(l≠ []->d+Fe l<=49)->n+AF l<=65536->Bo d n l=(n+AF l,0)
 | [],d,n,_,_,_=>by unfold Bo AF;rfl
 | v::r,d,n,h,h1,h2=>by
  unfold Ci at h
  have h1:=h1 (by simp)
  unfold Fe at h1
  unfold AF at h2⊢
  have e1:=Oi v d n h.1 (by omega) (by omega)
  have e2:=PK r d (n+v.cnt) h.2 (fun _=>by omega) (by omega)
  rw[GX,e1,BX rfl]
  show Bo d (n+v.cnt) r=_
  rw[e2]
  congr 1;omega
theorem chkD_of:∀(x:Fd) (d n:Nat),G2 x->d+lvD x<=49->n+x.cnt<=65536->JL d n x=(n+x.cnt,0)
 | .mk k v,d,n,h,h1,h2=>by
  unfold G2 at h
  unfold lvD at h1
  unfold Fd.cnt at h2⊢
  unfold JL
  exact Oi v d n h h1 h2
theorem PO:∀(l:List Fd) (d n:Nat),Cj l->(l≠ []->d+EP l<=49)->n+AJ l<=65536->BI d n l=(n+AJ l,0)
 | [],d,n,_,_,_=>by unfold BI AJ;rfl
 | x::r,d,n,h,h1,h2=>by
  unfold Cj at h
  have h1:=h1 (by simp)
  unfold EP at h1
  unfold AJ at h2⊢
  have e1:=chkD_of x d n h.1 (by omega) (by omega)
  have e2:=PO r d (n+x.cnt) h.2 (fun _=>by omega) (by omega)
  unfold BI
  rw[e1,BX rfl]
  show BI d (n+x.cnt) r=_
  rw[e2]
  congr 1;omega
end
theorem T5 {v:Vl} (h:AV v) (hl:lvV v<=48) (hc:v.cnt<=65536):AX v=0:=by
 unfold AX
 rw[Oi v 1 0 h (by omega) (by omega)]
theorem Po:∀(f:List Fd) (seen:List B8),Mi f->(∀d,d∈f->d.key∉seen/\U8 d.key/\d.key.length<=1024)->Cg seen f=0
 | [],seen,_,_=>rfl
 | d::r,seen,hn,h=>by
  obtain⟨h1,h2,h3⟩:=h d (.head _)
  unfold Cg
  unfold Mi at hn
  rw[List.map_cons,List.nodup_cons]at hn
  rw[if_pos h2,if_neg (by omega),if_neg h1]
  refine Po r _ hn.2 fun x hx=>?_
  obtain⟨g1,g2,g3⟩:=h x (.tail _ hx)
  refine⟨fun hm=>?_,g2,g3⟩
  rcases List.mem_cons.1 hm with he | hm
  ·exact hn.1 (he▸List.mem_map.2 ⟨x,hx,rfl⟩)
  ·exact g1 hm
end
section
open Go.RowKit (Below)
def St.upto (st' st:St):St:={st' with nb:=st.nb,box:=st.box}
def Ghost.upto (g:Ghost) (w:World) (n:Nat):Ghost:=
 {g with nb:=n,S:=fun a=>g.S a∨∃b,n<=b/\b<g.nb/\a.block=g.bk b/\a.spot=none/\∃v,w.cell? a=some v}
theorem HA {st st':St} (e:Aj st st'):Aj st (st'.upto st):=⟨Nat.le_refl _,fun _ _=>rfl,e.nt,e.live,e.ty,e.bt⟩
theorem Rel.lower {g g1:Ghost} {w w1:World} {x:TV} {u0:Value} (h:Rel g w x u0):∀{u:Value},Rel g1 w1 x u->Rel (g1.upto w1 g.nb) w1 x u:=by
 induction h with
 | undef=>intro u h;cases h;exact .undef
 | junk v=>intro u h;exact .junk u
 | int k n=>intro u h;cases h;exact .int k n
 | bool b=>intro u h;cases h;exact .bool b
 | str l=>intro u h;cases h;exact .str l
 | nilPtr=>intro u h;cases h;exact .nilPtr
 | nilSlice=>intro u h;cases h;exact .nilSlice
 | nilMap=>intro u h;cases h;exact .nilMap
 | nilFunc=>intro u h;cases h;exact .nilFunc
 | nilIface=>intro u h;cases h;exact .nilIface
 | list sz tip n xs b o cap us hl hn hc hr ht ih=>
  intro u h
  cases h with
  | list _ _ _ _ b1 o1 cap1 us1 hl1 hn1 hc1 hr1 ht1=>
   exact .list sz tip n xs b1 o1 cap1 us1 hl1 hn1 (fun i hi=>⟨.inl (hc1 i hi).1,(hc1 i hi).2⟩) (fun i hi=>ih i hi (hr1 i hi)) ht1
  | listE _ _ a ht1=>exact .listE sz tip a ht1
 | listE sz tip a ht=>
  intro u h
  cases h with
  | list _ _ _ _ b1 o1 cap1 us1 hl1 hn1 hc1 hr1 ht1=>
   exact .list sz tip 0 [] b1 o1 cap1 us1 hl1 hn1 (fun i hi=>absurd hi (Nat.not_lt_zero _)) (fun i hi=>absurd hi (Nat.not_lt_zero _)) ht1
  | listE _ _ a ht1=>exact .listE sz tip a ht1
 | ms sz b off n cap h hn=>
  intro u h1
  cases h1
  exact .ms (g:=g1.upto w1 g.nb) sz b off n cap h hn
 | box b off h=>
  intro u h1
  cases h1
  exact .box (g:=g1.upto w1 g.nb) b off h
 | rptr xs b o us hc hr ih=>
  intro u h
  cases h with
  | rptr _ b1 o1 us1 hc1 hr1=>exact .rptr xs b1 o1 us1 (fun i hi=>⟨.inl (hc1 i hi).1,(hc1 i hi).2⟩) fun i hi=>ih i hi (hr1 i hi)
 | agg xs vs hl hr ih=>
  intro u h
  cases h with
  | agg _ vs1 hl1 hr1=>exact .agg xs vs1 hl1 fun i hi=>ih i hi (hr1 i hi)
 | tuple xs vs hl hr ih=>
  intro u h
  cases h with
  | tuple _ vs1 hl1 hr1=>exact .tuple xs vs1 hl1 fun i hi=>ih i hi (hr1 i hi)
 | func f xs vs hl hr ih=>
  intro u h
  cases h with
  | func _ _ vs1 hl1 hr1=>exact .func f xs vs1 hl1 fun i hi=>ih i hi (hr1 i hi)
 | iface t v u0 h ih=>
  intro u h1
  cases h1 with
  | iface _ _ u1 h2=>exact .iface t v u1 (ih h2)
 | map b h=>
  intro u h1
  cases h1
  exact .map (g:=g1.upto w1 g.nb) b h
 | sptr v a n cap hc h ih=>
  intro u h1
  cases h1 with
  | sptr _ a1 n1 cap1 hc1 h2=>exact .sptr v a1 n1 cap1 hc1 (ih h2)
theorem AG.lower {g g1:Ghost} {w w1:World} {xs:List TV} {us0 us:List Value} (h0:AG g w xs us0) (h:AG g1 w1 xs us):AG (g1.upto w1 g.nb) w1 xs us:=
 ⟨h.1,fun i hi=>(h0.2 i hi).lower (h.2 i hi)⟩
theorem FZ.lower {g g1:Ghost} {w w1:World} {b b1:Nat} {o:JO} (h0:FZ g w b o) (h:FZ g1 w1 b1 o):FZ (g1.upto w1 g.nb) w1 b1 o:=by
 cases o with
 | dead=>trivial
 | cells l=>
  obtain⟨cs0,_,hr0⟩:=h0
  obtain⟨cs,hc,hr⟩:=h
  exact⟨cs,hc,hr0.lower hr⟩
 | iter s pos=>exact h
 | map es=>
  obtain⟨ms0,c0,_,_,hm0⟩:=h0
  obtain⟨ms,c,hc,hl,hm⟩:=h
  refine⟨ms,c,hc,hl,fun i k v hi=>?_⟩
  obtain⟨e0,_,_,h3⟩:=hm0 i k v hi
  obtain⟨e,g1,g2,g3⟩:=hm i k v hi
  exact⟨e,g1,g2,h3.lower g3⟩
 | pmap es=>
  obtain⟨ms0,c0,_,_,hm0⟩:=h0
  obtain⟨ms,c,hc,hl,hm⟩:=h
  refine⟨ms,c,hc,hl,fun i k v hi=>?_⟩
  obtain⟨hk0,e0,_,_,h3⟩:=hm0 i k v hi
  obtain⟨hk,e,g1,g2,g3⟩:=hm i k v hi
  exact⟨hk0,e,g1,g2,h3.lower g3⟩
theorem Sim.upto {g g':Ghost} {st st':St} {w w':World} (s:Sim g st [] w) (s':Sim g' st' [] w') (e:Ext g w g' w') (x:Aj st st'):Sim (g'.upto w' st.nb) (st'.upto st) [] w'/\Ext g w (g'.upto w' st.nb) w':=by
 have hnb:st.nb<=g'.nb:=by rw[s'.nb];exact x.nb
 have dom:∀k,Dom (st'.upto st) [] k->Dom st' [] k:=fun k hk=>by
  cases k with
  | box b=>exact Nat.lt_of_lt_of_le (show b<st.nb from hk) x.nb
  | loc i=>exact hk
 have domO:∀k,Dom (st'.upto st) [] k->Dom st [] k:=fun k hk=>by
  cases k with
  | box b=>exact hk
  | loc i=>exact hk
 refine⟨⟨rfl,s'.nt,s'.below,s'.fits,fun k hk=>?_,fun k k' h h' he=>s'.inj k k' (dom k h) (dom k' h') (by cases k<;>cases k'<;>exact he),fun k hk=>?_,s'.own,fun id b l h hid=>?_,s'.spApart,s'.spLt,fun a ha=>?_,fun b hb=>?_,s'.spTop,s'.spTy,fun b T hb ht=>?_,s'.glob⟩,?_⟩
 ·have h0:=s.obj k (domO k hk)
  have h1:=s'.obj k (dom k hk)
  cases k with
  | box b=>
   have hb:b<st.nb:=hk
   have h1':FZ g' w' (g'.bk b) (st.box b):=by rw[<-x.box b hb];exact h1
   have h2:=FZ.lower (g:=g) (w:=w) (b:=g.at (.box b)) h0 h1'
   rw[s.nb]at h2
   exact h2
  | loc i=>obtain⟨l,hl⟩:=hk;simp at hl
 ·have:=s'.lo k (dom k hk)
  cases k<;>exact this
 ·obtain⟨h1,h2,h3,h4,h5⟩:=s'.spCell id b l h hid
  exact⟨h1,h2,h3,fun k hk=>by have:=h4 k (dom k hk);cases k<;>exact this,h5⟩
 ·rcases ha with ha | ⟨b,h1,h2,h3,h4,h5⟩
  ·obtain⟨q1,q2,q3,q4⟩:=s'.sCell a ha
   exact⟨q1,q2,fun k hk=>by have:=q3 k (dom k hk);cases k<;>exact this,q4⟩
  ·have hd:Dom st' [] (.box b):=by show b<st'.nb;rw[<-s'.nb];exact h2
   refine⟨h4,h5,fun k hk hc=>?_,fun id l h hid _=>?_⟩
   ·cases k with
    | box b'=>
     have hb':b'<st.nb:=hk
     have:=s'.inj (.box b') (.box b) (dom _ hk) hd (by rw[h3]at hc;exact hc)
     cases this
     omega
    | loc i=>obtain⟨l,hl⟩:=hk;simp at hl
   ·have:=(s'.spCell id a.block l h hid).2.2.2.1 (.box b) hd
    exact this h3.symm
 ·obtain⟨h1,h2,h3,h4⟩:=s'.protOk b hb
  refine⟨h1,fun k hk=>by have:=h2 k (dom k hk);cases k<;>exact this,h3,fun a ha=>?_⟩
  rcases ha with ha | ⟨c,q1,q2,q3,q4,q5⟩
  ·exact h4 a ha
  ·rw[q3]
   exact h2 (.box c) (by show c<st'.nb;rw[<-s'.nb];exact q2)
 ·have hb':b<st.nb:=hb
  exact s'.bTy b T (Nat.lt_of_lt_of_le hb' x.nb) ht
 ·exact⟨e.base,e.w0,e.size,by show g.nb<=st.nb;rw[s.nb];exact Nat.le_refl _,e.bk,e.nt,e.sp,fun a ha=>⟨.inl (e.S a ha).1,(e.S a ha).2⟩,e.prot,e.protEq⟩
def CR (st st':St) (r r':TV):Prop:=∀(g':Ghost) (w':World) (u:Value),Sim g' st' [] w'->Rel g' w' r u->Rel (g'.upto w' st.nb) w' r' u
theorem Dv.settle {P:Program} {f:FuncId} {args:List TV} {st:St} {R:TV->St->Prop} (h:Dv P f args st fun r st'=>Aj st st'/\∃r',CR st st' r r'/\R r' (st'.upto st)):Dv P f args st R:=by
 refine⟨fun g w vargs s hr=>(h.run g w vargs s hr).mono ?_⟩
 rintro v w' ⟨r,st',g',⟨x,r',hs,hR⟩,s',hrel,e⟩
 obtain⟨s2,e2⟩:=Sim.upto s s' e x
 exact⟨r',st'.upto st,g'.upto w' st.nb,hR,s2,hs g' w' v s' hrel,e2⟩
theorem CallT.settle {P:Program} {f:FuncId} {args:List TV} {sh:List RTy} {st:St} {K:FunR sh (St->Prop)} (h:CallT P f args sh st (Fn sh fun r st'=>Aj st st'/\∃r',CR st st' r r'/\Ez sh r' K fun p=>p (st'.upto st))):CallT P f args sh st K:=
 Dv.settle (Dv.mono h fun r st' hd=>JK (F:=fun r st'=>Aj st st'/\∃r',CR st st' r r'/\Ez sh r' K fun p=>p (st'.upto st)) (k:=fun p=>p st') hd)
def BK (st st':St) (xs xs':List TV):Prop:=xs'.length=xs.length/\∀(g':Ghost) (w':World),Sim g' st' [] w'->∀us,AG g' w' xs us->AG (g'.upto w' st.nb) w' xs' us
theorem AG.split {g:Ghost} {w:World} {a b:List TV} {us:List Value} (h:AG g w (a++b) us):AG g w a (us.take a.length)/\AG g w b (us.drop a.length):=by
 have h1:=h.take a.length
 have h2:=h.drop a.length
 rw[List.take_left]at h1
 rw[List.drop_left]at h2
 exact⟨h1,h2⟩
theorem BK.nil (st st':St):BK st st' [] []:=⟨rfl,fun g' w' _ us h=>⟨h.1,fun i hi=>absurd hi (Nat.not_lt_zero _)⟩⟩
theorem BK.app {st st':St} {a b a' b':List TV} (h:BK st st' a a') (k:BK st st' b b'):BK st st' (a++b) (a'++b'):=by
 refine⟨by rw[List.length_append,List.length_append,h.1,k.1],fun g' w' s us hr=>?_⟩
 obtain⟨h1,h2⟩:=hr.split
 have:=(h.2 g' w' s _ h1).append (k.2 g' w' s _ h2)
 rw[List.take_append_drop]at this
 exact this
theorem BK.one {st st':St} {x x':TV} (h:CR st st' x x'):BK st st' [x] [x']:=by
 refine⟨rfl,fun g' w' s us hr=>?_⟩
 refine⟨hr.1,fun i hi=>?_⟩
 match i,hi with
 | 0,_=>exact h g' w' _ s (hr.2 0 (by simp))
theorem AE (st st':St) (k:IntKind) (n:Int):CR st st' (.int k n) (.int k n):=fun g' w' u _ h=>by cases h;exact .int k n
theorem Cm (st st':St) (b:Bool):CR st st' (.bool b) (.bool b):=fun g' w' u _ h=>by cases h;exact .bool b
theorem Ca (st st':St) (l:B8):CR st st' (.str l) (.str l):=fun g' w' u _ h=>by cases h;exact .str l
theorem BK.bytes (st st':St) (l:B8):BK st st' (AN l) (AN l):=by
 refine⟨rfl,fun g' w' s us hr=>⟨hr.1,fun i hi=>?_⟩⟩
 have h:=hr.2 i hi
 have e:∀x,x∈AN l->∃b:UInt8,x=JM b:=fun x hx=>by
  unfold AN at hx
  obtain⟨b,_,rfl⟩:=List.mem_map.1 hx
  exact⟨b,rfl⟩
 obtain⟨b,hb⟩:=e _ (List.getElem_mem hi)
 rw[hb]at h⊢
 unfold JM at h⊢
 rw[h.int_inv]
 exact .int _ _
theorem Bt.settle {st st':St} {sz n:Nat} {u:TV} {xs xs':List TV} {bs:List Nat} (h:Bt st' sz u n xs bs) (hb:∀x,x∈bs->st.nb<=x) (hx:BK st st' xs xs'):∃u',Rd sz u' n xs'/\CR st st' u u':=by
 rcases h with⟨rfl,rfl,rfl,rfl | rfl⟩ | ⟨b,cap,tail,rfl,h1,h2,h3,h4,h5,rfl⟩
 ·have:xs'=[]:=List.eq_nil_of_length_eq_zero hx.1
  subst this
  exact⟨.nilSlice,.inl ⟨rfl,rfl,rfl⟩,fun g' w' u _ h=>by cases h;exact .nilSlice⟩
 ·have:xs'=[]:=List.eq_nil_of_length_eq_zero hx.1
  subst this
  refine⟨.list sz .full 0 [],.inr ⟨_,rfl⟩,fun g' w' u _ h=>?_⟩
  cases h with
  | list _ _ _ _ b1 o1 cap1 us1 hl1 hn1 hc1 hr1 ht1=>exact .list sz .full 0 [] b1 o1 cap1 us1 hl1 hn1 (fun i hi=>absurd hi (Nat.not_lt_zero _)) (fun i hi=>absurd hi (Nat.not_lt_zero _)) ht1
  | listE _ _ a ht1=>exact .listE sz .full a ht1
 ·refine⟨.list sz .non n xs',.inr ⟨_,rfl⟩,fun g' w' u s h=>?_⟩
  cases h with
  | ms _ _ _ _ _ hlt hn=>
  have hlt':Dom st' [] (.box b):=h1
  have ho:=s.obj (.box b) hlt'
  have ho':FZ g' w' (g'.bk b) (.cells (xs++tail)):=by rw[<-h2];exact ho
  obtain⟨cs,hc,hr⟩:=ho'
  have hq:=(hx.2 g' w' s _ hr.split.1)
  have hlen:xs.length<=cs.length:=by have:=hr.1;rw[List.length_append]at this;omega
  refine .list sz .non n xs' (g'.bk b) 0 cap (fun i=>cs.getD i Go.undef) (by rw[hx.1,h4]) hn (fun i hi=>?_) (fun i hi=>?_) trivial
  ·have hi':i<cs.length:=by rw[hx.1]at hi;omega
   have hv:cs[i]? =some (cs.getD i Go.undef):=by rw[List.getD_eq_getElem?_getD,List.getElem?_eq_getElem hi'];rfl
   have hg:=hc.get hv
   rw[Nat.zero_add]
   exact⟨.inr ⟨b,hb b (.head _),hlt,rfl,rfl,_,hg⟩,hg⟩
  ·have:=hq.2 i hi
   have e:(cs.take xs.length).getD i Go.undef=cs.getD i Go.undef:=by
    have hi':i<xs.length:=by rw[hx.1]at hi;exact hi
    rw[List.getD_eq_getElem?_getD,List.getD_eq_getElem?_getD,List.getElem?_take,if_pos hi']
   rw[e]at this
   exact this
mutual
theorem VlO.settle {st st':St}:∀{v:Vl} {cs:List TV} {fp:List Nat},VlO st' v cs fp->(∀x,x∈fp->st.nb<=x)->∃cs',VlR St.zero v cs'/\BK st st' cs cs'
 | .mk s l f,cs,fp,h,hb=>by
  unfold VlO at h
  obtain⟨ub,ul,uf,xl,xf,bb,bl,bf,fl,ff,rfl,h1,h2,h3,h4,h5,rfl⟩:=h
  have m1:∀{x},x∈bb->st.nb<=x:=fun hx=>hb _ (List.mem_append_left _ hx)
  have m2:∀{x},x∈bl->st.nb<=x:=fun hx=>hb _ (List.mem_append_right _ (List.mem_append_left _ hx))
  have m3:∀{x},x∈fl->st.nb<=x:=fun hx=>hb _ (List.mem_append_right _ (List.mem_append_right _ (List.mem_append_left _ hx)))
  have m4:∀{x},x∈bf->st.nb<=x:=fun hx=>hb _ (List.mem_append_right _ (List.mem_append_right _ (List.mem_append_right _ (List.mem_append_left _ hx))))
  have m5:∀{x},x∈ff->st.nb<=x:=fun hx=>hb _ (List.mem_append_right _ (List.mem_append_right _ (List.mem_append_right _ (List.mem_append_right _ hx))))
  obtain⟨xl',q1,q2⟩:=VsO.settle h3 fun x hx=>m3 hx
  obtain⟨xf',q3,q4⟩:=FsO.settle h5 fun x hx=>m5 hx
  obtain⟨ub',r1,r2⟩:=h1.settle (fun x hx=>m1 hx) (BK.bytes st st' _)
  obtain⟨ul',r3,r4⟩:=h2.settle (fun x hx=>m2 hx) q2
  obtain⟨uf',r5,r6⟩:=h4.settle (fun x hx=>m4 hx) q4
  refine⟨Aq s ub' ul' uf',?_,?_⟩
  ·unfold VlR
   exact⟨ub',ul',uf',xl',xf',rfl,.of_rd r1,.of_rd r3,q1,.of_rd r5,q3⟩
  ·have c:∀{x x':TV} {l l':List TV},CR st st' x x'->BK st st' l l'->BK st st' (x::l) (x'::l'):=fun h k=>(BK.one h).app k
   exact c (AE _ _ _ _) (c (Cm _ _ _) (c (Cm _ _ _) (c (Ca _ _ _) (c (AE _ _ _ _) (c (AE _ _ _ _) (c (AE _ _ _ _) (c (AE _ _ _ _) (c (AE _ _ _ _) (c (Ca _ _ _) (c r2 (c r4 (c r6 (BK.nil _ _)))))))))))))
theorem VsO.settle {st st':St}:∀{l:List Vl} {cs:List TV} {fp:List Nat},VsO st' l cs fp->(∀x,x∈fp->st.nb<=x)->∃cs',VsR St.zero l cs'/\BK st st' cs cs'
 | [],cs,fp,h,hb=>by
  unfold VsO at h
  obtain⟨rfl,rfl⟩:=h
  exact⟨[],by unfold VsR;rfl,BK.nil _ _⟩
 | v::r,cs,fp,h,hb=>by
  unfold VsO at h
  obtain⟨a,b,p,q,rfl,rfl,h1,h2⟩:=h
  obtain⟨a',q1,q2⟩:=VlO.settle h1 fun x hx=>hb x (List.mem_append_left _ hx)
  obtain⟨b',q3,q4⟩:=VsO.settle h2 fun x hx=>hb x (List.mem_append_right _ hx)
  exact⟨a'++b',by unfold VsR;exact⟨a',b',rfl,q1,q3⟩,q2.app q4⟩
theorem FdO.settle {st st':St}:∀{d:Fd} {cs:List TV} {fp:List Nat},FdO st' d cs fp->(∀x,x∈fp->st.nb<=x)->∃cs',FdR St.zero d cs'/\BK st st' cs cs'
 | .mk key v,cs,fp,h,hb=>by
  unfold FdO at h
  obtain⟨c,rfl,h1⟩:=h
  obtain⟨a',q1,q2⟩:=VlO.settle h1 hb
  exact⟨.str key::a',by unfold FdR;exact⟨a',rfl,q1⟩,(BK.one (Ca _ _ _)).app q2⟩
theorem FsO.settle {st st':St}:∀{l:List Fd} {cs:List TV} {fp:List Nat},FsO st' l cs fp->(∀x,x∈fp->st.nb<=x)->∃cs',FsR St.zero l cs'/\BK st st' cs cs'
 | [],cs,fp,h,hb=>by
  unfold FsO at h
  obtain⟨rfl,rfl⟩:=h
  exact⟨[],by unfold FsR;rfl,BK.nil _ _⟩
 | d::r,cs,fp,h,hb=>by
  unfold FsO at h
  obtain⟨a,b,p,q,rfl,rfl,h1,h2⟩:=h
  obtain⟨a',q1,q2⟩:=FdO.settle h1 fun x hx=>hb x (List.mem_append_left _ hx)
  obtain⟨b',q3,q4⟩:=FsO.settle h2 fun x hx=>hb x (List.mem_append_right _ hx)
  exact⟨a'++b',by unfold FsR;exact⟨a',b',rfl,q1,q3⟩,q2.app q4⟩
end
theorem IO {st st':St} {cs cs':List TV} (h:BK st st' cs cs'):CR st st' (.agg cs) (.agg cs'):=fun g' w' u s hr=>by
 cases hr with
 | agg _ vs hl hr=>
  have:=h.2 g' w' s vs ⟨hl,hr⟩
  exact .agg cs' vs this.1 this.2
theorem Of {v:Vl} (hN:v.sz<=2000000) (hC:v.cnt<=65536) {st:St} {cs:List TV} {K:Int->Bool->Bool->B8->Int->Int->Int->Int->Int->B8->TV->TV->TV->St->Prop} (h:VlR st v cs)
  (hk:∀ub ul uf st',VlR St.zero v (Aq v.sc ub ul uf)->Ah ub=true->Ah ul=true->Ah uf=true->Aj st st'->st'.nb=st.nb->K v.sc.kind v.sc.b v.sc.neg v.sc.dg v.sc.ex v.sc.tk v.sc.td v.sc.tn v.sc.tz v.sc.text ub ul uf st'):
  CallT PR Ej [.agg cs] [.agg [.int .i64,.bool,.bool,.str,.int .i64,.int .i64,.int .i64,.int .i64,.int .i64,.str,.tv,.tv,.tv]] st K:=by
 refine CallT.settle (copy_ok hN hC h fun ub ul uf st' fp g o1 o2 o3 nd lo e=>?_)
 obtain⟨cs',q1,q2⟩:=g.settle lo
 refine⟨e,.agg cs',IO q2,?_⟩
 obtain⟨s,l,f⟩:=v
 have q0:=q1
 obtain⟨ub',ul',uf',xl,xf,rfl,w1,w2,_,w4,_⟩:=VlR.cells q0
 exact hk ub' ul' uf' (st'.upto st) q1 w1.one w2.one w4.one (HA e) rfl
end
end Go.TVF
section
namespace Go.TVF
open Go.IntKind(i64 u8)
open Go Go.Proofs Go.ChangeShapes
section
variable {H:Type} {enc:TypeId×Value->H} {P:Program} {w:World} {base:Nat} {held:Bool}
def Op (enc:TypeId×Value->H) (P:Program) (w:World) (base:Nat) (held:Bool) (n c:Nat) (S:List TV->Prop) (e:TypeId):Prop:=
 P.cellsOf e=c/\∀vs x,DataW.trod enc P w base (fun _=>true) held n e vs=some x->∃tv,AG (Ghost.start w) w tv vs/\tv.length=c/\S tv
end
end Go.TVF
end
section
namespace Go.TVF
open Go.IntKind(i64 u8)
open Go Go.Proofs Go.ChangeShapes
structure Blk {H:Type} (bk:DataW H->Nat):Prop where
 one:∀d,1<=bk d
 str:∀b,b.length+1<=bk (.lit (.string b))
 sl:∀e s,(e.map bk).sum+1<=bk (.slice e s)
 agg:∀p,(p.map bk).sum+1<=bk (.agg p)
section
variable {H:Type} {enc:TypeId×Value->H} {P:Program} {w:World} {base:Nat} {held:Bool} {bk:DataW H->Nat}
def OpQ (bk:DataW H->Nat) (enc:TypeId×Value->H) (P:Program) (w:World) (base:Nat) (held:Bool) (n c:Nat) (S:Nat->List TV->Prop) (e:TypeId):Prop:=
 P.cellsOf e=c/\∀vs x,DataW.trod enc P w base (fun _=>true) held n e vs=some x->∃tv,AG (Ghost.start w) w tv vs/\tv.length=c/\S (bk x.1) tv
def cellQ (c:CTy) (k:Nat) (tv:List TV):Prop:=LV [c] tv/\1<=k
def strQ (k:Nat) (tv:List TV):Prop:=∃l:B8,tv=[.str l]/\l.length<=maxLen/\l.length+1<=k
theorem opq_cell {n:Nat} {c:CTy} {e:TypeId} (hb:Blk bk) (h:Ui P c e) (hc:P.cellsOf e=1):OpQ bk enc P w base held n 1 (cellQ c) e:=⟨hc,fun vs x hd=>by
 obtain⟨v,u,rfl,hr,hf⟩:=Sg (Ghost.start w) h hd
 exact⟨[v],.cons hr (.nil _ _),rfl,hf,hb.one _⟩⟩
theorem opq_str {n:Nat} {e:TypeId} (hb:Blk bk) (h:P.underlying e=some .string) (hc:P.cellsOf e=1):OpQ bk enc P w base held n 1 strQ e:=⟨hc,fun vs x hd=>by
 obtain⟨s,rfl,rfl,hs⟩:=DataW.trod_string h hd
 exact⟨[_],.cons (Lt (Ghost.start w) w s) (.nil _ _),rfl,_,rfl,by rw[Array.length_toList];exact hs,hb.str _⟩⟩
def SlQ (c:Nat) (S:Nat->List TV->Prop) (k:Nat) (v:TV):Prop:=
 v= .nilSlice∨∃ps:List (List TV×Nat),v= .list c .non ps.length (ps.map (·.1)).flatten/\(∀p,p∈ps->p.1.length=c/\S p.2 p.1)/\(ps.map (·.2)).sum+1<=k
theorem opq_slice {n c:Nat} {S:Nat->List TV->Prop} {t e:TypeId} (hb:Blk bk) (ht:P.underlying t=some (.slice e)) (ht1:P.cellsOf t=1) (hc1:1<=c) (hE:∀m,m<n->OpQ bk enc P w base held m c S e):
  OpQ bk enc P w base held n 1 (fun k tv=>∃v,tv=[v]/\SlQ c S k v) t:=by
 refine⟨ht1,fun vs x h=>?_⟩
 rcases DataW.trod_slice ht h with⟨rfl,_⟩ | ⟨a,len,cap,elems,rest,m,rfl,rfl,rfl,hbk,hl,hm,hel,hi,hsp,_⟩
 ·exact⟨[.nilSlice],.cons .nilSlice (.nil _ _),rfl,_,rfl,.inl rfl⟩
 ·obtain⟨hcE,hE⟩:=hE m (by omega)
  rw[hcE]at hi hsp
  have hbs:=hb.sl (elems.map (·.1)) (rest.map (·.1))
  rw[List.map_map]at hbs
  by_cases hcap:cap=0
  ·subst hcap
   obtain rfl:len=0:=by omega
   exact⟨[.list c .non 0 []],.cons (.listE _ _ _ (fun id h=>by cases h)) (.nil _ _),rfl,_,rfl,.inr ⟨[],rfl,(fun ck h=>by cases h),by simp only[List.map_nil,List.sum_nil];omega⟩⟩
  ·obtain⟨b,o,spot⟩:=a
   have hspot:spot=none:=by
    have key:∀(i:Nat) (l:List (DataW H×List MemPlace)) (k:Nat),k<l.length->i=0->(w.cells? base ((⟨b,o,spot⟩:Addr).add (i*c)) c).bind (DataW.trod enc P w base (fun _=>true) held m e)=l[k]?->spot=none:=by
     intro i l k hk hi0 h
     subst hi0
     rw[List.getElem?_eq_getElem hk]at h
     obtain⟨vs,h1,_⟩:=Option.bind_eq_some_iff.1 h
     obtain⟨_,hvl,hvc⟩:=World.cells?_some h1
     have:=World.cell?_spot ((hvc 0 (by omega)).trans (List.getElem?_eq_getElem (show 0<vs.length by omega)))
     rw[Nat.zero_mul]at this
     exact this
    by_cases h0:0<len
    ·exact key 0 elems 0 (by omega) rfl (hi 0 h0)
    ·obtain⟨hr,hs⟩:=hsp rfl
     exact key _ rest 0 (by omega) (by omega) (hs 0 (by omega))
   subst hspot
   have each:∀i (hil:i<len),∃tv vs,AG (Ghost.start w) w tv vs/\tv.length=c/\S (bk (elems[i]'(by omega)).1) tv/\vs.length=c/\∀j,j<c->w.cell? ⟨b,o+(i*c+j),none⟩=some (vs.getD j Go.undef):=by
    intro i hil
    have h:=hi i hil
    rw[List.getElem?_eq_getElem (by omega)]at h
    obtain⟨vs,h1,h2⟩:=Option.bind_eq_some_iff.1 h
    obtain⟨tv,hr,htl,hf⟩:=hE vs _ h2
    obtain⟨_,hvl,hvc⟩:=World.cells?_some h1
    refine⟨tv,vs,hr,htl,hf,hvl,fun j hj=>?_⟩
    have:=hvc j (by omega)
    rw[Deep.add_add,Q5]at this
    rw[this]
    simp[List.getD,show j<vs.length by omega]
   have build:∀k,k<=len->∃ps:List (List TV×Nat),ps.length=k/\(∀p,p∈ps->p.1.length=c/\S p.2 p.1)/\ps.map (·.2)=(elems.take k).map (fun y=>bk y.1)/\(ps.map (·.1)).flatten.length=k*c/\∀i (h:i<(ps.map (·.1)).flatten.length),∃u,w.cell? ⟨b,o+i,none⟩=some u/\Rel (Ghost.start w) w (ps.map (·.1)).flatten[i] u:=by
    intro k
    induction k with
    | zero=>intro _;exact⟨[],rfl,(fun ck h=>by cases h),by simp,by simp,fun i h=>absurd h (Nat.not_lt_zero _)⟩
    | succ k ih=>
     intro hk
     obtain⟨ps,h0,h1,hm1,h2,h3⟩:=ih (by omega)
     obtain⟨tv,vs,hr,htl,hf,hvl,hvc⟩:=each k (by omega)
     have hfl:((ps++[(tv,bk (elems[k]'(by omega)).1)]).map (·.1)).flatten=(ps.map (·.1)).flatten++tv:=by simp
     refine⟨ps++[(tv,bk (elems[k]'(by omega)).1)],by simp[h0],fun p h=>?_,?_,by rw[hfl,List.length_append,h2,htl,Nat.succ_mul],fun i h=>?_⟩
     ·rcases List.mem_append.1 h with h | h
      ·exact h1 p h
      ·rw[List.mem_singleton.1 h];exact⟨htl,hf⟩
     ·rw[List.map_append,hm1,List.take_succ_eq_append_getElem (by omega),List.map_append];rfl
     ·simp only[hfl]at h⊢
      by_cases hix:i<(ps.map (·.1)).flatten.length
      ·rw[List.getElem_append_left hix];exact h3 i hix
      ·rw[List.getElem_append_right (by omega)]
       rw[List.length_append]at h
       have hj:i-(ps.map (·.1)).flatten.length<tv.length:=by omega
       refine⟨vs.getD (i-(ps.map (·.1)).flatten.length) Go.undef,?_,hr.2 _ hj⟩
       have:=hvc (i-(ps.map (·.1)).flatten.length) (by omega)
       rw[show o+i=o+(k*c+(i-(ps.map (·.1)).flatten.length)) by rw[<-h2];omega]
       exact this
   obtain⟨ps,h0,h1,hm1,h2,h3⟩:=build len (Nat.le_refl _)
   refine⟨[.list c .non ps.length (ps.map (·.1)).flatten],.cons ?_ (.nil _ _),rfl,_,rfl,.inr ⟨ps,rfl,h1,?_⟩⟩
   ·have hu:∀i,∃u,(h:i<(ps.map (·.1)).flatten.length)->w.cell? ⟨b,o+i,none⟩=some u/\Rel (Ghost.start w) w (ps.map (·.1)).flatten[i] u:=fun i=>by
     by_cases h:i<(ps.map (·.1)).flatten.length
     ·obtain⟨u,hu⟩:=h3 i h
      exact⟨u,fun _=>hu⟩
     ·exact⟨Go.undef,fun h'=>absurd h' h⟩
    rw[h0]
    refine .list _ _ _ _ b o cap (fun i=>Classical.choose (hu i)) h2 hl (fun i hi=>?_) (fun i hi=>(Classical.choose_spec (hu i) hi).2) trivial
    have:=(Classical.choose_spec (hu i) hi).1
    exact⟨⟨rfl,_,this⟩,this⟩
   ·rw[hm1,List.take_of_length_le (by omega)]
    exact hbs
def Oy (bk:DataW H->Nat) (enc:TypeId×Value->H) (P:Program) (w:World) (base:Nat) (held:Bool) (n:Nat):List (Nat×(Nat->List TV->Prop))->List Field->Nat->Prop
 | [],[],_=>True
 | S::Ss,f::fs,o=>f.offset=o/\OpQ bk enc P w base held n S.1 S.2 f.type/\Oy bk enc P w base held n Ss fs (o+S.1)
 | _,_,_=>False
def RP:List (Nat×(Nat->List TV->Prop))->Nat->List TV->Prop
 | [],_,xs=>xs=[]
 | S::Ss,k,xs=>∃a b k1 k2,xs=a++b/\a.length=S.1/\S.2 k1 a/\RP Ss k2 b/\k1+k2<=k
def OJ:List (Nat×(Nat->List TV->Prop))->Nat
 | []=>0
 | S::Ss=>S.1+OJ Ss
theorem LB {n:Nat} {vs:List Value}:∀(Ss:List (Nat×(Nat->List TV->Prop))) (fs:List Field) (o:Nat) (xs:List (DataW H×List MemPlace)),Oy bk enc P w base held n Ss fs o->xs.length=fs.length->vs.length=o+OJ Ss->
  (∀(i:Nat) (f:Field),fs[i]? =some f->DataW.trod enc P w base (fun _=>true) held n f.type ((vs.drop f.offset).take (P.cellsOf f.type))=xs[i]?)->∃tv,AG (Ghost.start w) w tv (vs.drop o)/\tv.length=OJ Ss/\RP Ss (xs.map (fun y=>bk y.1)).sum tv
 | [],[],o,xs,_,_,hl,_=>⟨[],by rw[List.drop_of_length_le (by simp[OJ]at hl;omega)];exact .nil _ _,rfl,rfl⟩
 | S::Ss,f::fs,o,[],_,hx,_,_=>by simp at hx
 | S::Ss,f::fs,o,x::xs,ht,hx,hl,hd=>by
  obtain⟨h1,⟨h2,h3⟩,h4⟩:=ht
  have hd0:=hd 0 f rfl
  rw[h1,h2]at hd0
  obtain⟨tv0,hr,htl,hf⟩:=h3 _ _ hd0
  obtain⟨tv,hr',hl',hf'⟩:=LB (n:=n) (vs:=vs) Ss fs (o+S.1) xs h4 (by simpa using hx) (by simp only[OJ]at hl;omega) (fun i f' hi=>by simpa using hd (i+1) f' (by simpa using hi))
  refine⟨tv0++tv,?_,by simp[hl',htl,OJ],tv0,tv,_,_,rfl,htl,hf,hf',by simp only[List.map_cons,List.sum_cons];exact Nat.le_refl _⟩
  have hlt:o+S.1<=vs.length:=by simp only[OJ]at hl;omega
  have e:vs.drop o=(vs.drop o).take S.1++vs.drop (o+S.1):=by rw[<-List.drop_drop,List.take_append_drop]
  rw[e]
  exact AG.append hr hr'
 | [],f::fs,o,xs,ht,_,_,_=>ht.elim
 | S::Ss,[],o,xs,ht,_,_,_=>ht.elim
theorem opq_struct {n c:Nat} {Ss:List (Nat×(Nat->List TV->Prop))} {e:TypeId} {fs:Array Field} (hb:Blk bk) (ht:P.underlying e=some (.struct fs)) (hc:P.cellsOf e=c) (hl:OJ Ss=c) (hf:∀m,m<n->Oy bk enc P w base held m Ss fs.toList 0):
  OpQ bk enc P w base held n c (fun k tv=>∃k',k'+1<=k/\RP Ss k' tv) e:=⟨hc,fun vs x hd=>by
 obtain⟨xs,m,rfl,rfl,hvl,hx,hi⟩:=DataW.trod_struct ht hd
 obtain⟨tv,h1,h2,h3⟩:=LB (bk:=bk) (enc:=enc) (P:=P) (w:=w) (base:=base) (held:=held) (n:=m) (vs:=vs) Ss fs.toList 0 xs (hf m (by omega)) (by simpa using hx) (by omega) (fun i f h=>hi i f (by simpa using h))
 refine⟨tv,by simpa using h1,by omega,_,?_,h3⟩
 have:=hb.agg (xs.map (·.1))
 rw[List.map_map]at this
 exact this⟩
end
end Go.TVF
end
namespace Go.TVF
open Go.IntKind(i64 u8)
open Go Go.Proofs
section
abbrev decQs:List (Nat×(Nat->List TV->Prop)):=[(1,cellQ .bool),(1,strQ),(1,cellQ (.int .i64))]
abbrev timeQs:List (Nat×(Nat->List TV->Prop)):=[(1,cellQ (.int .i64)),(1,cellQ (.int .i64)),(1,cellQ (.int .i64)),(1,cellQ (.int .i64))]
def valQ (k:Nat) (tv:List TV):Prop:=∃v:Vl,VlR St.zero v tv/\v.sz<=k
def fldQ (k:Nat) (tv:List TV):Prop:=∃d:Fd,FdR St.zero d tv/\d.sz<=k
abbrev Lo (c:Nat) (S:Nat->List TV->Prop) (k:Nat) (tv:List TV):Prop:=∃v,tv=[v]/\SlQ c S k v
abbrev inQ (Ss:List (Nat×(Nat->List TV->Prop))) (k:Nat) (tv:List TV):Prop:=∃k',k'+1<=k/\RP Ss k' tv
abbrev valQs:List (Nat×(Nat->List TV->Prop)):=[(1,cellQ (.int .i64)),(1,cellQ .bool),(3,inQ decQs),(4,inQ timeQs),(1,strQ),(1,Lo 1 (cellQ (.int .u8))),(1,Lo 13 valQ),(1,Lo 14 fldQ)]
abbrev fldQs:List (Nat×(Nat->List TV->Prop)):=[(1,strQ),(13,valQ)]
theorem SlQ.bytes {k:Nat} {v:TV} (h:SlQ 1 (cellQ (.int .u8)) k v):∃l:B8,SlR St.zero 1 v l.length (AN l)/\l.length<=k:=by
 rcases h with rfl | ⟨ps,rfl,h,hk⟩
 ·exact⟨[],.inl (.inl ⟨rfl,rfl,rfl⟩),Nat.zero_le _⟩
 ·have:∃l:B8,l.length=ps.length/\(ps.map (·.1)).flatten=AN l/\l.length<=(ps.map (·.2)).sum:=by
   clear hk
   induction ps with
   | nil=>exact⟨[],rfl,rfl,Nat.zero_le _⟩
   | cons p r ih=>
    obtain⟨l,h1,h2,h3⟩:=ih (fun q hq=>h q (.tail _ hq))
    obtain⟨hl,⟨n,ys,hp,hw,rfl⟩,h1k⟩:=h p (.head _)
    have hn:0<=n/\n<=255:=by simpa [Lit.wf,IntKind.min,IntKind.max,IntKind.signed,IntKind.bits]using hw
    refine⟨n.toNat.toUInt8::l,by simp[h1],?_,by simp only[List.length_cons,List.map_cons,List.sum_cons];omega⟩
    rw[List.map_cons,List.flatten_cons,hp,h2]
    simp only[AN,List.map_cons,JM,List.cons_append,List.nil_append,List.cons.injEq,and_true,TV.int.injEq,true_and]
    have:=Rn n.toNat (by omega)
    omega
  obtain⟨l,h1,h2,h3⟩:=this
  exact⟨l,.inl (.inr ⟨.non,by rw[h1,h2]⟩),by omega⟩
theorem SlQ.vals {k:Nat} {v:TV} (h:SlQ 13 valQ k v):∃l xl,SlR St.zero 13 v l.length xl/\VsR St.zero l xl/\Bw l<=k:=by
 rcases h with rfl | ⟨ps,rfl,h,hk⟩
 ·exact⟨[],[],.inl (.inl ⟨rfl,rfl,rfl⟩),by unfold VsR;rfl,by unfold Bw;exact Nat.zero_le _⟩
 ·have:∃l:List Vl,l.length=ps.length/\VsR St.zero l (ps.map (·.1)).flatten/\Bw l<=(ps.map (·.2)).sum:=by
   clear hk
   induction ps with
   | nil=>exact⟨[],rfl,by unfold VsR;rfl,by unfold Bw;exact Nat.zero_le _⟩
   | cons p r ih=>
    obtain⟨l,h1,h2,h3⟩:=ih (fun q hq=>h q (.tail _ hq))
    obtain⟨hl,v,hv,hz⟩:=h p (.head _)
    exact⟨v::l,by simp[h1],by unfold VsR;exact⟨_,_,by simp,hv,h2⟩,by unfold Bw;simp only[List.map_cons,List.sum_cons];omega⟩
  obtain⟨l,h1,h2,h3⟩:=this
  exact⟨l,_,.inl (.inr ⟨.non,by rw[h1]⟩),h2,by omega⟩
theorem SlQ.flds {k:Nat} {v:TV} (h:SlQ 14 fldQ k v):∃l xl,SlR St.zero 14 v l.length xl/\FsR St.zero l xl/\Bq l<=k:=by
 rcases h with rfl | ⟨ps,rfl,h,hk⟩
 ·exact⟨[],[],.inl (.inl ⟨rfl,rfl,rfl⟩),by unfold FsR;rfl,by unfold Bq;exact Nat.zero_le _⟩
 ·have:∃l:List Fd,l.length=ps.length/\FsR St.zero l (ps.map (·.1)).flatten/\Bq l<=(ps.map (·.2)).sum:=by
   clear hk
   induction ps with
   | nil=>exact⟨[],rfl,by unfold FsR;rfl,by unfold Bq;exact Nat.zero_le _⟩
   | cons p r ih=>
    obtain⟨l,h1,h2,h3⟩:=ih (fun q hq=>h q (.tail _ hq))
    obtain⟨hl,v,hv,hz⟩:=h p (.head _)
    exact⟨v::l,by simp[h1],by unfold FsR;exact⟨_,_,by simp,hv,h2⟩,by unfold Bq;simp only[List.map_cons,List.sum_cons];omega⟩
  obtain⟨l,h1,h2,h3⟩:=this
  exact⟨l,_,.inl (.inr ⟨.non,by rw[h1]⟩),h2,by omega⟩
theorem EY {kd:IntKind} {k:Nat} {tv:List TV} (h:cellQ (.int kd) k tv):∃n,tv=[.int kd n]:=by
 obtain⟨⟨n,ys,rfl,_,rfl⟩,_⟩:=h;exact⟨n,rfl⟩
theorem GZ {k:Nat} {tv:List TV} (h:cellQ .bool k tv):∃b,tv=[.bool b]:=by
 obtain⟨⟨n,ys,rfl,rfl⟩,_⟩:=h;exact⟨n,rfl⟩
theorem each_field {k:Nat} {tv:List TV} (h:inQ fldQs k tv):fldQ k tv:=by
 obtain⟨k0,hk0,_,_,k1,k2,rfl,_,⟨key,rfl,_,hkey⟩,⟨_,_,k3,k4,rfl,_,⟨v,hv,hz⟩,rfl,h2⟩,h1⟩:=h
 refine⟨.mk key v,by unfold FdR;exact⟨_,by simp,hv⟩,by unfold Fd.sz;omega⟩
theorem each_value {k:Nat} {tv:List TV} (h:inQ valQs k tv):valQ k tv:=by
 obtain⟨k0,hk0,_,_,a1,r1,rfl,_,q1,⟨_,_,a2,r2,rfl,_,q2,⟨_,_,a3,r3,rfl,_,q3,⟨_,_,a4,r4,rfl,_,q4,⟨_,_,a5,r5,rfl,_,q5,⟨_,_,a6,r6,rfl,_,q6,⟨_,_,a7,r7,rfl,_,q7,⟨_,_,a8,r8,rfl,_,q8,rfl,h8⟩,h7⟩,h6⟩,h5⟩,h4⟩,h3⟩,h2⟩,h1⟩:=h
 obtain⟨kd,rfl⟩:=EY q1
 obtain⟨bo,rfl⟩:=GZ q2
 obtain⟨d0,hd0,_,_,d1,d2,rfl,_,p1,⟨_,_,d3,d4,rfl,_,⟨dg,rfl,_,hdg⟩,⟨_,_,d5,d6,rfl,_,p3,rfl,g3⟩,g2⟩,g1⟩:=q3
 obtain⟨ng,rfl⟩:=GZ p1
 obtain⟨ex,rfl⟩:=EY p3
 obtain⟨_,_,_,_,_,_,rfl,_,t1,⟨_,_,_,_,rfl,_,t2,⟨_,_,_,_,rfl,_,t3,⟨_,_,_,_,rfl,_,t4,rfl,_⟩,_⟩,_⟩,_⟩:=q4
 obtain⟨tk,rfl⟩:=EY t1
 obtain⟨td,rfl⟩:=EY t2
 obtain⟨tn,rfl⟩:=EY t3
 obtain⟨tz,rfl⟩:=EY t4
 obtain⟨tx,rfl,_,htx⟩:=q5
 obtain⟨ub,rfl,q6⟩:=q6
 obtain⟨ul,rfl,q7⟩:=q7
 obtain⟨uf,rfl,q8⟩:=q8
 obtain⟨bs,hb,hbl⟩:=q6.bytes
 obtain⟨l,xl,hl,hlv,hlz⟩:=q7.vals
 obtain⟨f,xf,hf,hfv,hfz⟩:=q8.flds
 refine⟨.mk ⟨kd,bo,ng,dg,ex,tk,td,tn,tz,tx,bs⟩ l f,?_,by rw[szs];simp only;omega⟩
 unfold VlR
 exact⟨ub,ul,uf,xl,xf,by simp,hb,hl,hlv,hf,hfv⟩
section
variable {H:Type} {enc:TypeId×Value->H} {P:Program} {w:World} {base b0:Nat} {held:Bool} {bk:DataW H->Nat}
end
end
section
def IsValU (t:TV):Prop:=∃v cs,t= .agg cs/\VlR St.zero v cs
section
variable {H:Type} {enc:TypeId×Value->H} {P:Program} {w:World} {base b0:Nat} {held:Bool} {bk:DataW H->Nat}
theorem open_valU {t:TypeId} {fs:Array Field} {v:Value} {d:DataW H} {p:List MemPlace} (ht:P.underlying t=some (.struct fs)) (hop:∀n,OpQ bk enc P w base held n 13 valQ t)
  (hval:Value.okWide P w .any b0 t v) (h:DataW.Trod enc P w base (fun _=>true) held t v d p):∃tv,Rel (Ghost.start w) w tv v/\IsValU tv:=by
 simp only[Value.okWide,ht]at hval
 obtain⟨vs,rfl,_,_⟩:=hval
 obtain⟨n,hn⟩:=h
 obtain⟨cs,hr,_,vl,hv,hz⟩:=(hop n).2 _ _ hn
 have:=Rel.agg cs vs.toList hr.1 hr.2
 rw[Array.toArray_toList]at this
 exact⟨_,this,vl,cs,rfl,hv⟩
end
end
section
abbrev SG13:List CTy:=[.int .i64,.bool,.bool,.str,.int .i64,.int .i64,.int .i64,.int .i64,.int .i64,.str,.tv,.tv,.tv]
theorem SlR.zero {sz n:Nat} {v:TV} {xs:List TV} (h:SlR St.zero sz v n xs):Rd sz v n xs:=by
 rcases h with h | ⟨b,_,_,_,_,hb,_⟩
 ·exact h
 ·exact absurd hb (Nat.not_lt_zero _)
theorem Rd.isP {sz n i:Nat} {u:TV} {xs:List TV} (h:Rd sz u n xs) (hi:i<n):isPtr (ixT sz u i)=true:=(SlR.of_rd (st:=St.zero) h).isPtr hi
abbrev G5:=Bool×B8×Int
def D1 (s:G5):List TV:=[.bool s.1,.str s.2.1,.int .i64 s.2.2]
def Kp (p:TV) (ss:List G5):Prop:=Rd 3 p ss.length (ss.flatMap D1)
theorem Gb:∀ss:List G5,(ss.flatMap D1).length=ss.length*3
 | []=>rfl
 | s::r=>by
  rw[List.flatMap_cons,List.length_append,Gb r,List.length_cons]
  show 3+_=_
  omega
theorem Gc:∀{ss:List G5} {k:Nat} {s:G5},ss[k]? =some s->∀j,(ss.flatMap D1)[k*3+j]? =if j<3 then(D1 s)[j]? else(ss.flatMap D1)[k*3+j]?
 | [],k,s,h,j=>by simp at h
 | x::r,0,s,h,j=>by
  simp only[List.getElem?_cons_zero,Option.some.injEq]at h
  subst h
  split
  ·rename_i hj
   rw[List.flatMap_cons,Nat.zero_mul,Nat.zero_add,List.getElem?_append_left (by exact hj)]
  ·rfl
 | x::r,k+1,s,h,j=>by
  rw[List.getElem?_cons_succ]at h
  have ih:=Gc h j
  have e:(x::r).flatMap D1=D1 x++r.flatMap D1:=List.flatMap_cons ..
  have hl:(D1 x).length=3:=rfl
  rw[e,List.getElem?_append_right (by omega),hl,show(k+1)*3+j-3=k*3+j by omega]
  exact ih
theorem el3 {st:St} {p:TV} {ss:List G5} (h:Kp p ss) {i:Int} {k:Nat} {s:G5} (hi:i=k) (hk:ss[k]? =some s) {f:Fun [.bool,.str,.int .i64] Prop} (hf:f s.1 s.2.1 s.2.2):
  (0<=i/\i<(lenZ 3 p:Int))/\Ak ((Al st [] (.t (ixT 3 p (Int.toNat i))) 0 3).map TV.agg) fun x=>B5 [.bool,.str,.int .i64] x f:=by
 subst hi
 have hlt:=(List.getElem?_eq_some_iff.1 hk).1
 have h0:=Gc hk 0
 have h1:=Gc hk 1
 have h2:=Gc hk 2
 have hl:((ss.flatMap D1).drop (k*3)).take 3=D1 s:=by
  refine List.ext_getElem? fun j=>?_
  rw[List.getElem?_take]
  split
  ·rename_i hj
   rw[List.getElem?_drop,Gc hk j,if_pos hj]
  ·rename_i hj
   rw[List.getElem?_eq_none]
   show 3<=j
   omega
 have hf':B5 [.bool,.str,.int .i64] (.agg (D1 s)) f:=hf
 refine⟨⟨by omega,by rw[Rd.lenZ h];omega⟩,Ad (x:= .agg (D1 s)) ?_ hf'⟩
 rw[Int.toNat_natCast,(SlR.of_rd (st:=st) h).ldc (Gb ss) hlt,hl];rfl
theorem fl3 {st:St} {p:TV} {ss:List G5} (h:Kp p ss) {i:Int} {k j:Nat} {s:G5} (hi:i=k) (hk:ss[k]? =some s) (hj:j<3) {x:TV} (hx:(D1 s)[j]? =some x) {f:TV->Prop} (hf:f x):
  (0<=i/\i<(lenZ 3 p:Int))/\need (TVF.isPtr (ixT 3 p (Int.toNat i))) (Ak (Ac st [] (.t (Au (ixT 3 p (Int.toNat i)) j)) 0) f):=by
 subst hi
 have hlt:=(List.getElem?_eq_some_iff.1 hk).1
 refine⟨⟨by omega,by rw[Rd.lenZ h];omega⟩,Aa (by rw[Int.toNat_natCast];exact h.isP hlt) (Ad ?_ hf)⟩
 rw[Int.toNat_natCast]
 exact h.ldfx st k j (by rw[Gc hk j,if_pos hj];exact hx)
section
variable {st:St}
end
section
variable {st:St}
end
end
end Go.TVF
section
namespace Go.TVF
open Go.IntKind(i64 u8)
mutual
inductive Tb where
 | mk (b m:Nat) (hd:Bool) (es:List Kn)
inductive Kn where
 | mk (k:B8) (eb:Nat) (e:En)
inductive En where
 | opn (t:Tb)
 | lst (l:List Tb)
 | clo (v:Vl) (i:Nat)
end
def Tb.b:Tb->Nat | .mk b _ _ _=>b
def Tb.m:Tb->Nat | .mk _ m _ _=>m
def Tb.hd:Tb->Bool | .mk _ _ h _=>h
def Tb.es:Tb->List Kn | .mk _ _ _ es=>es
def Kn.key:Kn->B8 | .mk k _ _=>k
def Kn.eb:Kn->Nat | .mk _ e _=>e
def Kn.en:Kn->En | .mk _ _ e=>e
def scM:Sc:=⟨7,false,false,[],0,0,0,0,0,[],[]⟩
def scL:Sc:=⟨6,false,false,[],0,0,0,0,0,[],[]⟩
mutual
def Ae:Tb->Vl
 | .mk _ _ _ es=> .mk scM [] (AD es)
def AD:List Kn->List Fd
 | []=>[]
 | .mk k _ e::r=> .mk k (AC e)::AD r
def AC:En->Vl
 | .opn t=>Ae t
 | .lst l=> .mk scL (A2 l) []
 | .clo v _=>v
def A2:List Tb->List Vl
 | []=>[]
 | t::r=>Ae t::A2 r
end
theorem JS:∀a b:List Kn,AD (a++b)=AD a++AD b
 | [],b=>by simp[AD]
 | .mk k e x::r,b=>by simp only[List.cons_append,AD,JS r b]
theorem AS:∀l:List Tb,A2 l=l.map Ae
 | []=>rfl
 | t::r=>by rw[A2,List.map_cons,AS r]
theorem HX:∀l:List Kn,AD l=l.map fun d=>Fd.mk d.key (AC d.en)
 | []=>rfl
 | .mk k e x::r=>by rw[AD,List.map_cons,HX r];rfl
def Ag (k:B8):List Kn->Option (Nat×En)
 | []=>none
 | .mk k' eb e::r=>if k=k' then some (eb,e)else Ag k r
def BL (k:B8) (x:En):List Kn->List Kn
 | []=>[]
 | .mk k' eb e::r=>if k=k' then .mk k' eb x::r else .mk k' eb e::BL k x r
theorem Ic {k:B8}:∀{es:List Kn} {eb:Nat} {e:En},Ag k es=some (eb,e)->Kn.mk k eb e∈es
 | .mk k' eb' e'::r,eb,e,h=>by
  unfold Ag at h
  split at h
  ·rename_i hk;cases h;subst hk;exact .head _
  ·exact .tail _ (Ic h)
theorem IY {k:B8}:∀{es:List Kn},Ag k es=none->∀d,d∈es->d.key≠k
 | [],h,d,hd=>by cases hd
 | .mk k' eb' e'::r,h,d,hd=>by
  unfold Ag at h
  split at h
  ·cases h
  ·rename_i hk
   rcases List.mem_cons.1 hd with rfl | hd
   ·exact fun h=>hk h.symm
   ·exact IY h d hd
theorem MU {k:B8} {x:En}:∀es:List Kn,(BL k x es).map Kn.key=es.map Kn.key
 | []=>rfl
 | .mk k' eb e::r=>by
  unfold BL
  split
  ·rfl
  ·rw[List.map_cons,List.map_cons,MU r]
theorem Cv {k:B8} {x:En}:∀{es:List Kn} {eb:Nat} {e:En},Ag k es=some (eb,e)->Ag k (BL k x es)=some (eb,x)
 | .mk k' eb' e'::r,eb,e,h=>by
  unfold Ag at h
  unfold BL
  split at h
  ·rename_i hk;cases h;subst hk;rw[if_pos rfl];simp[Ag]
  ·rename_i hk;rw[if_neg hk,Ag,if_neg hk];exact Cv h
theorem Cn {k k2:B8} {x:En} (hne:k2≠k):∀{es:List Kn},Ag k2 (BL k x es)=Ag k2 es
 | []=>rfl
 | .mk k' eb' e'::r=>by
  unfold BL
  split
  ·rename_i hk;subst hk;unfold Ag;rw[if_neg hne,if_neg hne]
  ·unfold Ag;split
   ·rfl
   ·exact Cn hne
theorem Pj {k k2:B8} {eb:Nat} {x:En}:∀{es:List Kn},Ag k2 (es++[.mk k eb x])=match Ag k2 es with | some p=>some p | none=>if k2=k then some (eb,x)else none
 | []=>by simp[Ag]
 | .mk k' eb' e'::r=>by
  rw[List.cons_append,Ag,Ag]
  split
  ·rfl
  ·exact Pj
theorem set_set {k:B8} {x y:En}:∀es:List Kn,BL k y (BL k x es)=BL k y es
 | []=>rfl
 | .mk k' eb e::r=>by
  by_cases hk:k=k'
  ·rw[BL,if_pos hk,BL,BL,if_pos hk,if_pos hk]
  ·rw[BL,if_neg hk,BL,BL,if_neg hk,if_neg hk,set_set r]
abbrev Hop:=B8×Option Nat
def atT:Tb->List Hop->Option Tb
 | t,[]=>some t
 | .mk _ _ _ es,(k,none)::h=>match Ag k es with
  | some (_,.opn u)=>atT u h
  | _=>none
 | .mk _ _ _ es,(k,some i)::h=>match Ag k es with
  | some (_,.lst l)=>match l[i]? with
   | some u=>atT u h
   | none=>none
  | _=>none
def Av:Tb->List Hop->Tb->Tb
 | _,[],x=>x
 | .mk b m hd es,(k,none)::h,x=>match Ag k es with
  | some (_,.opn u)=> .mk b m hd (BL k (.opn (Av u h x)) es)
  | _=> .mk b m hd es
 | .mk b m hd es,(k,some i)::h,x=>match Ag k es with
  | some (_,.lst l)=>match l[i]? with
   | some u=> .mk b m hd (BL k (.lst (l.set i (Av u h x))) es)
   | none=> .mk b m hd es
  | _=> .mk b m hd es
theorem Il:∀(h g:List Hop) (T:Tb),atT T (h++g)=(atT T h).bind fun t=>atT t g
 | [],g,T=>by cases T;rfl
 | (k,none)::h,g,.mk b m hd es=>by
  rw[List.cons_append,atT,atT]
  rcases Ag k es with _ | ⟨eb,u | l | ⟨v,i⟩⟩
  ·rfl
  ·exact Il h g u
  ·rfl
  ·rfl
 | (k,some i)::h,g,.mk b m hd es=>by
  rw[List.cons_append,atT,atT]
  rcases Ag k es with _ | ⟨eb,u | l | ⟨v,i⟩⟩
  ·rfl
  ·rfl
  ·simp only
   cases l[i]? with
   | none=>rfl
   | some u=>exact Il h g u
  ·rfl
theorem DE:∀(h:List Hop) {T t x:Tb},atT T h=some t->atT (Av T h x) h=some x
 | [],T,t,x,_=>by cases x;rfl
 | (k,none)::h,.mk b m hd es,t,x,hA=>by
  rw[atT]at hA
  rw[Av]
  rcases hl:Ag k es with _ | ⟨eb,u | l | ⟨v,i⟩⟩<;>rw[hl]at hA<;>simp only at hA⊢<;>try (cases hA;done)
  ·rw[atT,Cv hl];exact DE h hA
 | (k,some i)::h,.mk b m hd es,t,x,hA=>by
  rw[atT]at hA
  rw[Av]
  rcases hl:Ag k es with _ | ⟨eb,u | l | ⟨v,i⟩⟩<;>rw[hl]at hA<;>simp only at hA⊢<;>try (cases hA;done)
  ·cases hi:l[i]? with
   | none=>simp[hi]at hA
   | some u=>
    rw[hi]at hA
    have hlt:=(List.getElem?_eq_some_iff.1 hi).1
    simp only at hA⊢
    rw[atT,Cv hl]
    simp only
    rw[List.getElem?_set_self hlt]
    exact DE h hA
theorem Fy:∀(h:List Hop) {T t x:Tb},atT T h=some t->x.b=t.b->(Av T h x).b=T.b
 | [],T,t,x,hA,hx=>by cases T;cases hA;exact hx
 | (k,none)::h,.mk b m hd es,t,x,hA,hx=>by
  rw[Av]
  split<;>rfl
 | (k,some i)::h,.mk b m hd es,t,x,hA,hx=>by
  rw[Av]
  split
  ·split<;>rfl
  ·rfl
theorem KO:∀(h g:List Hop) {T t x:Tb},atT T h=some t->Av T (h++g) x=Av T h (Av t g x)
 | [],g,T,t,x,hA=>by cases T;cases hA;rfl
 | (k,none)::h,g,.mk b m hd es,t,x,hA=>by
  rw[atT]at hA
  rw[List.cons_append,Av,Av]
  rcases hl:Ag k es with _ | ⟨eb,u | l | ⟨v,i⟩⟩<;>rw[hl]at hA<;>simp only at hA⊢<;>try (cases hA;done)
  ·rw[KO h g hA]
 | (k,some i)::h,g,.mk b m hd es,t,x,hA=>by
  rw[atT]at hA
  rw[List.cons_append,Av,Av]
  rcases hl:Ag k es with _ | ⟨eb,u | l | ⟨v,i⟩⟩<;>rw[hl]at hA<;>simp only at hA⊢<;>try (cases hA;done)
  ·cases hi:l[i]? with
   | none=>simp[hi]at hA
   | some u=>rw[hi]at hA;simp only at hA⊢;rw[KO h g hA]
theorem HZ:∀(h:List Hop) {T t x y:Tb},atT T h=some t->Av (Av T h x) h y=Av T h y
 | [],T,t,x,y,hA=>by cases x;cases T;rfl
 | (k,none)::h,.mk b m hd es,t,x,y,hA=>by
  rw[atT]at hA
  rw[Av,Av]
  rcases hl:Ag k es with _ | ⟨eb,u | l | ⟨v,i⟩⟩<;>rw[hl]at hA<;>simp only at hA⊢<;>try (cases hA;done)
  ·rw[Av,Cv hl];simp only;rw[HZ h hA,set_set]
 | (k,some i)::h,.mk b m hd es,t,x,y,hA=>by
  rw[atT]at hA
  rw[Av,Av]
  rcases hl:Ag k es with _ | ⟨eb,u | l | ⟨v,i⟩⟩<;>rw[hl]at hA<;>simp only at hA⊢<;>try (cases hA;done)
  ·cases hi:l[i]? with
   | none=>simp[hi]at hA
   | some u=>
    rw[hi]at hA
    have hlt:=(List.getElem?_eq_some_iff.1 hi).1
    simp only at hA⊢
    rw[Av,Cv hl]
    simp only
    rw[List.getElem?_set_self hlt]
    simp only
    rw[HZ h hA,set_set,List.set_set]
end Go.TVF
end
section
namespace Go.TVF
open Go.IntKind(i64 u8)
inductive Stp where
 | key (k:B8)
 | idx (i:Nat)
deriving DecidableEq
def scO:Sc:=⟨0,false,false,[],0,0,0,0,0,[],[]⟩
def vlO:Vl:= .mk scO [] []
def JI (k:B8):List Fd->Option Vl
 | []=>none
 | .mk k' v::r=>if k'=k then some v else JI k r
def JD (k:B8) (x:Vl):List Fd->List Fd
 | []=>[.mk k x]
 | .mk k' v::r=>if k'=k then .mk k' x::r else .mk k' v::JD k x r
def DM:Vl->List Stp->Option Vl
 | v,[]=>some v
 | .mk s l f,.idx i::p=>match l[i]? with
  | some u=>DM u p
  | none=>none
 | .mk s l f,.key k::p=>match JI k f with
  | some u=>DM u p
  | none=>none
def Bj:Vl->List Stp->Vl->Vl
 | _,[],x=>x
 | .mk s l f,.idx i::p,x=> .mk s ((if i=l.length then l++[vlO]else l).set i (Bj ((if i=l.length then l++[vlO]else l).getD i vlO) p x)) f
 | .mk s l f,.key k::p,x=> .mk s l (JD k (Bj ((JI k f).getD vlO) p x) f)
def stp:List Hop->List Stp
 | []=>[]
 | (k,none)::h=> .key k::stp h
 | (k,some i)::h=> .key k:: .idx i::stp h
theorem KN:∀h g:List Hop,stp (h++g)=stp h++stp g
 | [],g=>rfl
 | (k,none)::h,g=>by rw[List.cons_append,stp,stp,KN h g];rfl
 | (k,some i)::h,g=>by rw[List.cons_append,stp,stp,KN h g];rfl
theorem Cy (k:B8):∀es:List Kn,JI k (AD es)=(Ag k es).map fun p=>AC p.2
 | []=>rfl
 | .mk k' eb e::r=>by
  rw[AD,JI,Ag]
  by_cases h:k'=k
  ·rw[if_pos h,if_pos h.symm];rfl
  ·rw[if_neg h,if_neg fun g=>h g.symm,Cy k r]
theorem JC {k:B8} {y:En}:∀{es:List Kn} {eb:Nat} {e:En},Ag k es=some (eb,e)->JD k (AC y) (AD es)=AD (BL k y es)
 | .mk k' eb' e'::r,eb,e,h=>by
  rw[Ag]at h
  rw[AD,JD,BL]
  by_cases hk:k=k'
  ·rw[if_pos hk.symm,if_pos hk,AD]
  ·rw[if_neg hk]at h
   rw[if_neg fun g=>hk g.symm,if_neg hk,AD,JC h]
theorem Pw {k:B8} {x:Vl}:∀{es:List Kn},Ag k es=none->∀(eb:Nat) (y:En),AC y=x->JD k x (AD es)=AD (es++[.mk k eb y])
 | [],_,eb,y,hy=>by rw[AD,JD,List.nil_append,AD,AD,hy]
 | .mk k' eb' e'::r,h,eb,y,hy=>by
  rw[Ag]at h
  by_cases hk:k=k'
  ·rw[if_pos hk]at h;cases h
  ·rw[if_neg hk]at h
   rw[AD,JD,if_neg fun g=>hk g.symm,Pw h eb y hy,List.cons_append,AD]
theorem Oc:∀(h:List Hop) {T t:Tb},atT T h=some t->∀p,DM (Ae T) (stp h++p)=DM (Ae t) p
 | [],T,t,hA,p=>by cases T;cases hA;rfl
 | (k,none)::h,.mk b m hd es,t,hA,p=>by
  rw[atT]at hA
  rw[stp,List.cons_append,Ae,DM,Cy]
  rcases hl:Ag k es with _ | ⟨eb,u | l | ⟨v,i⟩⟩<;>rw[hl]at hA<;>simp only at hA⊢<;>try (cases hA;done)
  ·simp only[Option.map_some,AC]
   exact Oc h hA p
 | (k,some i)::h,.mk b m hd es,t,hA,p=>by
  rw[atT]at hA
  rw[stp,List.cons_append,List.cons_append,Ae,DM,Cy]
  rcases hl:Ag k es with _ | ⟨eb,u | l | ⟨v,j⟩⟩<;>rw[hl]at hA<;>simp only at hA⊢<;>try (cases hA;done)
  ·simp only[Option.map_some,AC,DM,AS,List.getElem?_map]
   cases hi:l[i]? with
   | none=>simp[hi]at hA
   | some u=>
    rw[hi]at hA
    simp only[Option.map_some]
    exact Oc h hA p
theorem J3:∀(h:List Hop) {T t t':Tb},atT T h=some t->∀{p:List Stp} {x:Vl},Bj (Ae t) p x=Ae t'->Bj (Ae T) (stp h++p) x=Ae (Av T h t')
 | [],T,t,t',hA,p,x,hx=>by cases T;cases hA;exact hx
 | (k,none)::h,.mk b m hd es,t,t',hA,p,x,hx=>by
  rw[atT]at hA
  rw[stp,List.cons_append,Ae,Bj,Cy,Av]
  rcases hl:Ag k es with _ | ⟨eb,u | l | ⟨v,i⟩⟩<;>rw[hl]at hA<;>simp only at hA⊢<;>try (cases hA;done)
  ·simp only[Option.map_some,Option.getD_some,AC]
   rw[J3 h hA hx]
   have:=JC (y:= .opn (Av u h t')) hl
   rw[AC]at this
   rw[this,Ae]
 | (k,some i)::h,.mk b m hd es,t,t',hA,p,x,hx=>by
  rw[atT]at hA
  rw[stp,List.cons_append,List.cons_append,Ae,Bj,Cy,Av]
  rcases hl:Ag k es with _ | ⟨eb,u | l | ⟨v,j⟩⟩<;>rw[hl]at hA<;>simp only at hA⊢<;>try (cases hA;done)
  ·cases hi:l[i]? with
   | none=>simp[hi]at hA
   | some u=>
    rw[hi]at hA
    have hlt:=(List.getElem?_eq_some_iff.1 hi).1
    simp only[Option.map_some,Option.getD_some,AC,Bj]at hA⊢
    have hne:¬i=(A2 l).length:=by rw[AS,List.length_map];omega
    rw[if_neg hne]
    have hg:(A2 l).getD i vlO=Ae u:=by rw[AS,List.getD_eq_getElem?_getD,List.getElem?_map,hi];rfl
    rw[hg,J3 h hA hx]
    have hs:(A2 l).set i (Ae (Av u h t'))=A2 (l.set i (Av u h t')):=by rw[AS,AS,List.map_set]
    rw[hs]
    have:=JC (y:= .lst (l.set i (Av u h t'))) hl
    rw[AC]at this
    rw[this,Ae]
def Dj:En->Nat×Nat
 | .clo _ i=>(1,i)
 | .opn t=>(if t.hd=true then 2 else 0,0)
 | .lst _=>(3,0)
def Ax:Tb->List Stp->Nat×Nat
 | .mk _ _ _ es,[.key k]=>match Ag k es with
  | some (_,e)=>Dj e
  | none=>(0,0)
 | .mk _ _ _ es,.key k:: .key k2::p=>match Ag k es with
  | some (_,.opn u)=>Ax u (.key k2::p)
  | _=>(0,0)
 | .mk _ _ _ es,.key k:: .idx i::p=>match Ag k es with
  | some (_,.lst l)=>match l[i]? with
   | some u=>Ax u p
   | none=>(0,0)
  | _=>(0,0)
 | _,_=>(0,0)
theorem Gl (T:Tb):Ax T []=(0,0):=by cases T;rfl
theorem DT (T:Tb) (i:Nat) (p:List Stp):Ax T (.idx i::p)=(0,0):=by cases T;rfl
def AT:List Stp->List Stp->Option (List Stp)
 | [],q=>some q
 | _::_,[]=>none
 | a::r,b::q=>if a=b then AT r q else none
theorem MR:∀(r q:List Stp),AT r (r++q)=some q
 | [],q=>rfl
 | a::r,q=>by rw[List.cons_append,AT,if_pos rfl,MR r q]
theorem D7:∀{r q p:List Stp},AT r q=some p->q=r++p
 | [],q,p,h=>by cases h;rfl
 | a::r,[],p,h=>by cases h
 | a::r,b::q,p,h=>by
  rw[AT]at h
  split at h
  ·rename_i e;subst e;rw[D7 h];rfl
  ·cases h
theorem KY:∀(h:List Hop) {T t:Tb},atT T h=some t->∀(k:B8) (p:List Stp),Ax T (stp h++ .key k::p)=Ax t (.key k::p)
 | [],T,t,hA,k,p=>by cases T;cases hA;rfl
 | (k1,none)::h,.mk b m hd es,t,hA,k,p=>by
  rw[atT]at hA
  rcases hl:Ag k1 es with _ | ⟨eb,u | l | ⟨v,i⟩⟩<;>rw[hl]at hA<;>simp only at hA<;>try (cases hA;done)
  have:=KY h hA k p
  rw[stp,List.cons_append]
  rw[<-this]
  cases h with
  | nil=>rw[stp,List.nil_append,Ax,hl]
  | cons x h=>obtain⟨k2,o⟩:=x;cases o<;>rw[stp]<;>simp only[List.cons_append]<;>rw[Ax,hl]
 | (k1,some i)::h,.mk b m hd es,t,hA,k,p=>by
  rw[atT]at hA
  rcases hl:Ag k1 es with _ | ⟨eb,u | l | ⟨v,j⟩⟩<;>rw[hl]at hA<;>simp only at hA<;>try (cases hA;done)
  cases hi:l[i]? with
  | none=>simp[hi]at hA
  | some u=>
   rw[hi]at hA
   have:=KY h hA k p
   rw[stp,List.cons_append,List.cons_append,Ax,hl]
   simp only[hi]
   exact this
theorem set_hd:∀(h:List Hop) {T t t':Tb},atT T h=some t->t'.hd=t.hd->(Av T h t').hd=T.hd
 | [],T,t,t',hA,hx=>by cases T;cases hA;exact hx
 | (k,none)::h,.mk b m hd es,t,t',hA,hx=>by rw[Av];split<;>rfl
 | (k,some i)::h,.mk b m hd es,t,t',hA,hx=>by
  rw[Av]
  split
  ·split<;>rfl
  ·rfl
theorem LQ:∀(h:List Hop) {T t t':Tb},atT T h=some t->t'.hd=t.hd->∀q:List Stp,Ax (Av T h t') q=match AT (stp h) q with
  | some r=>if r=[]then Ax T q else Ax t' r
  | none=>Ax T q
 | [],T,t,t',hA,hx,q=>by
  cases T;cases hA
  rw[stp,AT,Av]
  simp only
  split
  ·rename_i e;subst e;rw[Gl,Gl]
  ·rfl
 | (k,none)::h,.mk b m hd es,t,t',hA,hx,q=>by
  rw[atT]at hA
  rw[Av,stp]
  rcases hl:Ag k es with _ | ⟨eb,u | l | ⟨v,i⟩⟩<;>rw[hl]at hA<;>simp only at hA⊢<;>try (cases hA;done)
  match q with
  | []=>rw[AT,Gl,Gl]
  | .idx i::q=>rw[AT,if_neg (fun e=>by cases e),DT,DT]
  | [.key k1]=>
   by_cases hk:k=k1
   ·subst hk
    rw[AT,if_pos rfl]
    have e1:Ax (.mk b m hd (BL k (.opn (Av u h t')) es)) [.key k]=Ax (.mk b m hd es) [.key k]:=by
     rw[Ax,Ax,Cv hl,hl]
     simp only[Dj]
     rw[set_hd h hA hx]
    rw[e1]
    cases h with
    | nil=>rw[stp,AT];simp
    | cons x h=>obtain⟨k2,o⟩:=x;cases o<;>rw[stp,AT]
   ·rw[AT,if_neg (fun e=>hk (Stp.key.inj e))]
    simp only
    rw[Ax,Ax,Cn fun e=>hk e.symm]
  | .key k1:: .key k2::q=>
   by_cases hk:k=k1
   ·subst hk
    rw[AT,if_pos rfl,Ax,Cv hl]
    simp only
    rw[LQ h hA hx (.key k2::q)]
    have e2:Ax (.mk b m hd es) (.key k:: .key k2::q)=Ax u (.key k2::q):=by rw[Ax,hl]
    rw[e2]
   ·rw[AT,if_neg (fun e=>hk (Stp.key.inj e))]
    simp only
    rw[Ax,Ax,Cn fun e=>hk e.symm]
  | .key k1:: .idx i::q=>
   by_cases hk:k=k1
   ·subst hk
    rw[AT,if_pos rfl,Ax,Cv hl]
    have e2:Ax (.mk b m hd es) (.key k:: .idx i::q)=(0,0):=by rw[Ax,hl]
    rw[e2]
    simp only
    cases h with
    | nil=>rw[stp,AT];simp only;rw[if_neg (by simp),DT]
    | cons x h=>obtain⟨k2,o⟩:=x;cases o<;>rw[stp,AT,if_neg (fun e=>by cases e)]
   ·rw[AT,if_neg (fun e=>hk (Stp.key.inj e))]
    simp only
    rw[Ax,Ax,Cn fun e=>hk e.symm]
 | (k,some j)::h,.mk b m hd es,t,t',hA,hx,q=>by
  rw[atT]at hA
  rw[Av,stp]
  rcases hl:Ag k es with _ | ⟨eb,u | l | ⟨v,i⟩⟩<;>rw[hl]at hA<;>simp only at hA⊢<;>try (cases hA;done)
  cases hj:l[j]? with
  | none=>simp[hj]at hA
  | some u=>
  rw[hj]at hA
  have hlt:=(List.getElem?_eq_some_iff.1 hj).1
  simp only at hA⊢
  match q with
  | []=>rw[AT,Gl,Gl]
  | .idx i::q=>rw[AT,if_neg (fun e=>by cases e),DT,DT]
  | [.key k1]=>
   by_cases hk:k=k1
   ·subst hk
    rw[AT,if_pos rfl,AT,Ax,Ax,Cv hl,hl]
    rfl
   ·rw[AT,if_neg (fun e=>hk (Stp.key.inj e))]
    simp only
    rw[Ax,Ax,Cn fun e=>hk e.symm]
  | .key k1:: .key k2::q=>
   by_cases hk:k=k1
   ·subst hk
    rw[AT,if_pos rfl,AT,if_neg (fun e=>by cases e),Ax,Cv hl]
    simp only
    rw[Ax,hl]
   ·rw[AT,if_neg (fun e=>hk (Stp.key.inj e))]
    simp only
    rw[Ax,Ax,Cn fun e=>hk e.symm]
  | .key k1:: .idx i::q=>
   by_cases hk:k=k1
   ·subst hk
    rw[AT,if_pos rfl,AT,Ax,Cv hl]
    have e2:Ax (.mk b m hd es) (.key k:: .idx i::q)=match l[i]? with | some u=>Ax u q | none=>(0,0):=by rw[Ax,hl]
    rw[e2]
    simp only
    by_cases hij:j=i
    ·subst hij
     rw[if_pos rfl,List.getElem?_set_self hlt,hj]
     simp only
     rw[LQ h hA hx q]
    ·rw[if_neg (fun e=>hij (Stp.idx.inj e)),List.getElem?_set_ne hij]
   ·rw[AT,if_neg (fun e=>hk (Stp.key.inj e))]
    simp only
    rw[Ax,Ax,Cn fun e=>hk e.symm]
end Go.TVF
end
section
namespace Go.TVF
open Go.IntKind(i64 u8)
def ID:En->List Stp->Nat×Nat
 | e,[]=>Dj e
 | .opn u,.key k::p=>Ax u (.key k::p)
 | .lst l,.idx i::p=>match l[i]? with
  | some u=>Ax u p
  | none=>(0,0)
 | _,_=>(0,0)
theorem DS (b m:Nat) (hd:Bool) (es:List Kn) (k:B8) (p:List Stp):Ax (.mk b m hd es) (.key k::p)=match Ag k es with | some (_,e)=>ID e p | none=>(0,0):=by
 match p with
 | []=>
  rw[Ax]
  rcases Ag k es with _ | ⟨eb,u | l | ⟨v,i⟩⟩<;>rfl
 | .key k2::p=>
  rw[Ax]
  rcases Ag k es with _ | ⟨eb,u | l | ⟨v,i⟩⟩<;>rfl
 | .idx i::p=>
  rw[Ax]
  rcases Ag k es with _ | ⟨eb,u | l | ⟨v,j⟩⟩<;>rfl
theorem LR:∀(h:List Hop) {T t:Tb},atT T h=some t->∀r:List Stp,r≠ []->Ax T (stp h++r)=Ax t r:=fun h {T t} hA r hr=>by
 match r with
 | []=>exact absurd rfl hr
 | .key k::p=>exact KY h hA k p
 | .idx i::p=>
  rw[DT]
  have:∀(h:List Hop) {T t:Tb},atT T h=some t->Ax T (stp h++ .idx i::p)=(0,0):=by
   intro h
   induction h with
   | nil=>intro T t _;exact DT T i p
   | cons x h ih=>
    intro T t hA
    obtain⟨k,o⟩:=x
    obtain⟨b,m,hd,es⟩:=T
    cases o with
    | none=>
     rw[atT]at hA
     rcases hl:Ag k es with _ | ⟨eb,u | l | ⟨v,j⟩⟩<;>rw[hl]at hA<;>simp only at hA<;>try (cases hA;done)
     have:=ih hA
     rw[stp,List.cons_append,DS,hl]
     simp only
     cases h with
     | nil=>rfl
     | cons y h=>obtain⟨k2,o2⟩:=y;cases o2<;>rw[stp]at this⊢<;>exact this
    | some j=>
     rw[atT]at hA
     rcases hl:Ag k es with _ | ⟨eb,u | l | ⟨v,j⟩⟩<;>rw[hl]at hA<;>simp only at hA<;>try (cases hA;done)
     cases hj:l[j]? with
     | none=>simp[hj]at hA
     | some u=>
      rw[hj]at hA
      rw[stp,List.cons_append,List.cons_append,DS,hl]
      simp only[ID,hj]
      exact ih hA
  exact this h hA
def AR (t:Tb) (k:B8) (eb:Nat) (e:En):Tb:= .mk t.b t.m t.hd (t.es++[.mk k eb e])
def BV (t:Tb) (k:B8) (e:En):Tb:= .mk t.b t.m t.hd (BL k e t.es)
theorem Gj {t:Tb} {k k2:B8} {eb:Nat} {e:En} (h:Ag k t.es=none):Ag k2 (AR t k eb e).es=if k2=k then some (eb,e)else Ag k2 t.es:=by
 show Ag k2 (t.es++[.mk k eb e])=_
 rw[Pj]
 by_cases hk:k2=k
 ·subst hk;simp[h]
 ·rw[if_neg hk,if_neg hk]
  cases Ag k2 t.es<;>rfl
theorem Pi {t:Tb} {k k2:B8} {eb:Nat} {e x:En} (h:Ag k t.es=some (eb,e)):Ag k2 (BV t k x).es=if k2=k then some (eb,x)else Ag k2 t.es:=by
 show Ag k2 (BL k x t.es)=_
 by_cases hk:k2=k
 ·subst hk;rw[if_pos rfl,Cv h]
 ·rw[if_neg hk,Cn hk]
theorem Kc {T t t':Tb} {h:List Hop} (hA:atT T h=some t) (hd:t'.hd=t.hd) {k:B8} {e':Nat×En} (hl:∀k2,Ag k2 t'.es=if k2=k then some e' else Ag k2 t.es) (q:List Stp):
  Ax (Av T h t') q=match AT (stp h++[.key k]) q with | some p=>ID e'.2 p | none=>Ax T q:=by
 rw[LQ h hA hd q]
 have hs:AT (stp h++[.key k]) q=match AT (stp h) q with | some r=>AT [.key k] r | none=>none:=by
  have:∀(a b q:List Stp),AT (a++b) q=match AT a q with | some r=>AT b r | none=>none:=by
   intro a
   induction a with
   | nil=>intro b q;rfl
   | cons x a ih=>
    intro b q
    cases q with
    | nil=>rfl
    | cons y q=>
     rw[List.cons_append,AT,AT]
     split
     ·exact ih b q
     ·rfl
  exact this _ _ _
 rw[hs]
 cases hr:AT (stp h) q with
 | none=>rfl
 | some r=>
  have hq:=D7 hr
  simp only
  match r with
  | []=>rw[if_pos rfl,AT]
  | .idx i::p=>
   rw[if_neg (by simp),AT,if_neg (fun e=>by cases e),hq,LR h hA _ (by simp),DT,DT]
  | .key k2::p=>
   rw[if_neg (by simp),AT]
   obtain⟨b',m',hd',es'⟩:=t'
   obtain⟨b,m,hd0,es⟩:=t
   rw[DS]
   have hl2:=hl k2
   simp only[Tb.es]at hl2
   rw[hl2]
   by_cases hk:k2=k
   ·subst hk
    rw[if_pos rfl,if_pos rfl,AT]
   ·rw[if_neg hk,if_neg (fun e=>hk (Stp.key.inj e).symm),hq,LR h hA _ (by simp),DS]
structure Asg where
 tab:Bool
 elem:Bool
 keys:List B8
 val:Vl
structure Nu where
 b:Nat
 m:Nat
 eb:Nat
def AA (nu:Nu) (hd:Bool):Tb:= .mk nu.b nu.m hd []
def Dp (nu:Nu) (hd:Bool) (T:Tb) (h:List Hop) (k:B8):Option (Tb×List Hop):=
 match atT T h with
 | none=>none
 | some t=>match Ag k t.es with
  | none=>some (Av T h (AR t k nu.eb (.opn (AA nu false))),h++[(k,none)])
  | some (_,.opn _)=>some (T,h++[(k,none)])
  | some (_,.lst l)=>if hd=true then some (T,h++[(k,some (l.length-1))])else none
  | some (_,.clo _ _)=>none
def BC (nu:Nat->Nu) (hd:Bool):Nat->Tb->List Hop->List B8->Option (Tb×List Hop)
 | _,T,h,[]=>some (T,h)
 | j,T,h,k::ks=>match Dp (nu j) hd T h k with
  | none=>none
  | some (T',h')=>BC nu hd (j+1) T' h' ks
def BM:Tb->Tb | .mk b m _ es=> .mk b m true es
def BZ (nu:Nu) (a:Asg) (i:Nat) (T:Tb) (h cur:List Hop) (k:B8):Except Int (Tb×List Hop):=
 match atT T h with
 | none=> .error 0
 | some t=>
  if a.elem=true then(match Ag k t.es with
   | none=> .ok (Av T h (AR t k nu.eb (.lst [AA nu false])),h++[(k,some 0)])
   | some (_,.lst l)=> .ok (Av T h (BV t k (.lst (l++[AA nu false]))),h++[(k,some l.length)])
   | some _=> .error 6)
  else if a.tab=true then(match Ag k t.es with
   | none=> .ok (Av T h (AR t k nu.eb (.opn (AA nu true))),h++[(k,none)])
   | some (_,.opn u)=>if u.hd=true then .error 8 else .ok (Av T h (BV t k (.opn (BM u))),h++[(k,none)])
   | some _=> .error 8)
  else(match Ag k t.es with
   | none=> .ok (Av T h (AR t k nu.eb (.clo a.val i)),cur)
   | some _=> .error 8)
deriving instance DecidableEq for Sc
def F0 (v:Vl):Bool:=decide (v.sc=scO)&&v.list.isEmpty&&v.flds.isEmpty
def Cc (a:Asg):Bool:= !a.keys.isEmpty&&(a.tab || !a.elem)&&(!a.tab || F0 a.val)
def DH (nu:Nat->Nu) (i:Nat) (T:Tb) (cur:List Hop) (a:Asg):Except Int (Tb×List Hop):=
 if Cc a=false then .error 1
 else match BC nu a.tab 0 T (if a.tab=true then []else cur) a.keys.dropLast with
  | none=> .error 8
  | some (T',h)=>BZ (nu a.keys.length) a i T' h cur (a.keys.getLastD [])
end Go.TVF
end
section
namespace Go.TVF
open Go.IntKind(i64 u8)
inductive ShE where
 | opn (b:Nat)
 | lst (bs:List Nat)
 | clo (v:Vl) (i:Nat)
structure Sh where
 b:Nat
 m:Nat
 hd:Bool
 d:Nat
 es:List (B8×Nat×ShE)
def shE:En->ShE
 | .opn t=> .opn t.b
 | .lst l=> .lst (l.map Tb.b)
 | .clo v i=> .clo v i
def shK (d:Kn):B8×Nat×ShE:=(d.key,d.eb,shE d.en)
mutual
def shT:Nat->Tb->List Sh
 | d,.mk b m hd es=>⟨b,m,hd,d,es.map shK⟩::BR d es
def BR:Nat->List Kn->List Sh
 | _,[]=>[]
 | d,.mk _ _ e::r=>A7 d e++BR d r
def A7:Nat->En->List Sh
 | d,.opn t=>shT (d+1) t
 | d,.lst l=>DP (d+2) l
 | _,.clo _ _=>[]
def DP:Nat->List Tb->List Sh
 | _,[]=>[]
 | d,t::r=>shT d t++DP d r
end
theorem OX (d:Nat):∀a b:List Kn,BR d (a++b)=BR d a++BR d b
 | [],b=>by simp[BR]
 | .mk k eb e::r,b=>by simp only[List.cons_append,BR,OX d r b,List.append_assoc]
theorem Jn (d:Nat):∀a b:List Tb,DP d (a++b)=DP d a++DP d b
 | [],b=>by simp[DP]
 | t::r,b=>by simp only[List.cons_append,DP,Jn d r b,List.append_assoc]
theorem Gd (d:Nat) {k:B8}:∀{es:List Kn} {eb:Nat} {e:En},Ag k es=some (eb,e)->∃P Q,BR d es=P++(A7 d e++Q)/\∀x,BR d (BL k x es)=P++(A7 d x++Q)
 | .mk k' eb' e'::r,eb,e,h=>by
  unfold Ag at h
  by_cases hk:k=k'
  ·rw[if_pos hk]at h
   cases h
   exact⟨[],BR d r,by rw[BR,List.nil_append],fun x=>by rw[BL,if_pos hk,BR,List.nil_append]⟩
  ·rw[if_neg hk]at h
   obtain⟨P,Q,h1,h2⟩:=Gd d h
   exact⟨A7 d e'++P,Q,by rw[BR,h1,List.append_assoc],fun x=>by rw[BL,if_neg hk,BR,h2 x,List.append_assoc]⟩
theorem NQ {k:B8} {x:En}:∀{es:List Kn} {eb:Nat} {e:En},Ag k es=some (eb,e)->shE x=shE e->(BL k x es).map shK=es.map shK
 | .mk k' eb' e'::r,eb,e,h,hx=>by
  unfold Ag at h
  by_cases hk:k=k'
  ·rw[if_pos hk]at h
   cases h
   rw[BL,if_pos hk,List.map_cons,List.map_cons]
   show(k',eb',shE x)::_=(k',eb',shE e')::_
   rw[hx]
  ·rw[if_neg hk]at h
   rw[BL,if_neg hk,List.map_cons,List.map_cons,NQ h hx]
theorem OV (d:Nat):∀{l:List Tb} {i:Nat} {u:Tb},l[i]? =some u->∃P Q,DP d l=P++(shT d u++Q)/\∀x,DP d (l.set i x)=P++(shT d x++Q)
 | t::r,0,u,h=>by
  cases h
  exact⟨[],DP d r,by rw[DP,List.nil_append],fun x=>by rw[List.set_cons_zero,DP,List.nil_append]⟩
 | t::r,i+1,u,h=>by
  obtain⟨P,Q,h1,h2⟩:=OV d (l:=r) (i:=i) (u:=u) (by simpa using h)
  exact⟨shT d t++P,Q,by rw[DP,h1,List.append_assoc],fun x=>by rw[List.set_cons_succ,DP,h2 x,List.append_assoc]⟩
def dpH:List Hop->Nat
 | []=>0
 | (_,none)::h=>dpH h+1
 | (_,some _)::h=>dpH h+2
theorem JJ:∀a b:List Hop,dpH (a++b)=dpH a+dpH b
 | [],b=>by simp[dpH]
 | (k,none)::a,b=>by rw[List.cons_append,dpH,dpH,JJ a b];omega
 | (k,some i)::a,b=>by rw[List.cons_append,dpH,dpH,JJ a b];omega
theorem box_set {l:List Tb} {i:Nat} {u x:Tb} (h:l[i]? =some u) (hx:x.b=u.b):(l.set i x).map Tb.b=l.map Tb.b:=by
 rw[List.map_set,hx]
 apply List.ext_getElem?
 intro j
 by_cases hj:i=j
 ·subst hj
  obtain⟨hlt,hu⟩:=List.getElem?_eq_some_iff.1 h
  rw[List.getElem?_set_self (by rw[List.length_map];exact hlt),List.getElem?_map,h];rfl
 ·rw[List.getElem?_set_ne hj]
theorem Iu:∀(h:List Hop) {T t:Tb},atT T h=some t->∀d,∃A B,shT d T=A++(shT (d+dpH h) t++B)/\∀t',t'.b=t.b->shT d (Av T h t')=A++(shT (d+dpH h) t'++B)
 | [],T,t,hA,d=>by
  cases T;cases hA
  exact⟨[],[],by rw[List.nil_append,List.append_nil];rfl,fun t' _=>by rw[List.nil_append,List.append_nil];rfl⟩
 | (k,none)::h,.mk b m hd es,t,hA,d=>by
  rw[atT]at hA
  rcases hl:Ag k es with _ | ⟨eb,u | l | ⟨v,i⟩⟩<;>rw[hl]at hA<;>simp only at hA<;>try (cases hA;done)
  obtain⟨A,B,h1,h2⟩:=Iu h hA (d+1)
  obtain⟨P,Q,h3,h4⟩:=Gd d hl
  have e:d+1+dpH h=d+dpH ((k,none)::h):=by rw[dpH];omega
  rw[e]at h1 h2
  refine⟨⟨b,m,hd,d,es.map shK⟩::(P++A),B++Q,?_,fun t' ht=>?_⟩
  ·rw[shT,h3,A7,h1]
   simp only[List.cons_append,List.append_assoc]
  ·rw[Av,hl]
   simp only
   rw[shT,h4,A7,h2 t' ht,NQ hl (by show ShE.opn _=ShE.opn _;rw[Fy h hA ht])]
   simp only[List.cons_append,List.append_assoc]
 | (k,some j)::h,.mk b m hd es,t,hA,d=>by
  rw[atT]at hA
  rcases hl:Ag k es with _ | ⟨eb,u | l | ⟨v,i⟩⟩<;>rw[hl]at hA<;>simp only at hA<;>try (cases hA;done)
  cases hj:l[j]? with
  | none=>simp[hj]at hA
  | some u=>
  rw[hj]at hA
  simp only at hA
  obtain⟨A,B,h1,h2⟩:=Iu h hA (d+2)
  obtain⟨P,Q,h3,h4⟩:=Gd d hl
  obtain⟨P2,Q2,h5,h6⟩:=OV (d+2) hj
  have e:d+2+dpH h=d+dpH ((k,some j)::h):=by rw[dpH];omega
  rw[e]at h1 h2
  refine⟨⟨b,m,hd,d,es.map shK⟩::(P++(P2++A)),B++(Q2++Q),?_,fun t' ht=>?_⟩
  ·rw[shT,h3,A7,h5,h1]
   simp only[List.cons_append,List.append_assoc]
  ·rw[Av,hl]
   simp only[hj]
   rw[shT,h4,A7,h6,h2 t' ht,NQ hl (by show ShE.lst _=ShE.lst _;rw[box_set hj (Fy h hA ht)])]
   simp only[List.cons_append,List.append_assoc]
theorem NP (d:Nat) (t:Tb) (k:B8) (eb:Nat) (e:En):shT d (AR t k eb e)=⟨t.b,t.m,t.hd,d,t.es.map shK++[(k,eb,shE e)]⟩::(BR d t.es++A7 d e):=by
 unfold AR
 rw[shT,List.map_append,OX,BR,BR,List.append_nil]
 rfl
theorem EE (d:Nat) (t:Tb):shT d t=⟨t.b,t.m,t.hd,d,t.es.map shK⟩::BR d t.es:=by cases t;rfl
def Eo (k:B8):List (B8×Nat×ShE)->Option (Nat×ShE)
 | []=>none
 | (k',p)::r=>if k=k' then some p else Eo k r
theorem Gk (k:B8):∀es:List Kn,Eo k (es.map shK)=(Ag k es).map fun p=>(p.1,shE p.2)
 | []=>rfl
 | .mk k' eb e::r=>by
  rw[List.map_cons,Ag]
  show(if k=k' then some (eb,shE e)else Eo k (r.map shK))=_
  by_cases hk:k=k'
  ·rw[if_pos hk,if_pos hk];rfl
  ·rw[if_neg hk,if_neg hk,Gk k r]
theorem M6 {k k2:B8} {p:Nat×ShE}:∀{es:List (B8×Nat×ShE)},Eo k2 (es++[(k,p)])=match Eo k2 es with | some q=>some q | none=>if k2=k then some p else none
 | []=>by simp[Eo]
 | (k',q)::r=>by
  rw[List.cons_append,Eo,Eo]
  split
  ·rfl
  ·exact M6
def bxS (s:Sh):List Nat:=s.b::s.m::s.es.map fun x=>x.2.1
def bxL (L:List Sh):List Nat:=L.flatMap bxS
theorem AH (A B:List Sh):bxL (A++B)=bxL A++bxL B:=by unfold bxL;rw[List.flatMap_append]
theorem A1 (s:Sh) (L:List Sh):bxL (s::L)=bxS s++bxL L:=by unfold bxL;rw[List.flatMap_cons]
theorem Bh {x:Nat} {s:Sh} {L:List Sh} (hs:s∈L) (hx:x∈bxS s):x∈bxL L:=List.mem_flatMap.2 ⟨s,hs,hx⟩
end Go.TVF
end
namespace Go.TVF
open Go.IntKind(i64 u8)
open Go Go.Proofs
def Bb:TV->Option Nat
 | .list _ (.own id) _ _=>some id
 | _=>none
def Dg (v:TV) (xs:List TV):Prop:=(v= .nilSlice/\xs=[])∨∃tip,v= .list 1 tip xs.length xs/\(tip= .full∨∃id,tip= .own id)
theorem Dg.nil:Dg .nilSlice []:= .inl ⟨rfl,rfl⟩
theorem Dg.sl {v:TV} {xs:List TV} (h:Dg v xs):isSl v=true:=by
 rcases h with⟨rfl,_⟩ | ⟨tip,rfl,_⟩<;>rfl
theorem Dg.len {v:TV} {xs:List TV} (h:Dg v xs):lenS v=xs.length:=by
 rcases h with⟨rfl,rfl⟩ | ⟨tip,rfl,_⟩<;>rfl
theorem Dg.lenZ {v:TV} {xs:List TV} (h:Dg v xs):lenZ 1 v=xs.length:=by
 rcases h with⟨rfl,rfl⟩ | ⟨tip,rfl,_⟩<;>rfl
theorem Me {T bytes:Nat} {st:St} {v y:TV} {xs:List TV} {K:TV->St->Prop} (h:Dg v xs) (ht:∀id,Bb v=some id->id<st.nt/\st.live id=true) (hby:(xs.length+1)*bytes<=140737488355328)
  (hK:∀v' st',Dg v' (xs++[y])->Bb v'=some st.nt->st'.box=st.box->st'.nb=st.nb->st'.bt=st.bt->st'.nt=st.nt+1->st'.live st.nt=true->(∀i,i<st.nt->Bb v≠some i->st'.live i=st.live i)->K v' st'):
  Cl T 1 bytes v 1 [y] st K:=by
 rcases h with⟨rfl,rfl⟩ | ⟨tip,rfl,rfl | ⟨id,rfl⟩⟩
 ·simp only[Cl]
  refine Aa (by rw[Nat.ble_eq];simpa using hby) (hK _ _ (.inr ⟨.own st.nt,rfl,.inr ⟨_,rfl⟩⟩) rfl rfl rfl rfl rfl (by simp[St.fresh]) fun i hi _=>?_)
  simp only[St.fresh];rw[if_neg (by omega)]
 ·simp only[Cl,Nat.beq_refl]
  refine⟨hby,hK _ _ (.inr ⟨.own st.nt,by simp,.inr ⟨_,rfl⟩⟩) rfl rfl rfl rfl rfl (by simp[St.fresh]) fun i hi _=>?_⟩
  simp only[St.fresh];rw[if_neg (by omega)]
 ·obtain⟨h1,h2⟩:=ht id rfl
  simp only[Cl,Nat.beq_refl]
  refine⟨hby,h2,hK _ _ (.inr ⟨.own st.nt,by simp,.inr ⟨_,rfl⟩⟩) rfl rfl rfl rfl rfl (by simp[St.fresh,St.retire]) fun i hi hne=>?_⟩
  have h3:i≠id:=fun e=>hne (by rw[e];rfl)
  have h4:i≠st.nt:=by omega
  simp[St.fresh,St.retire,h3,h4]
theorem NN {t m e d:Nat} {kv:TV} {ks:List B8} {key:B8} {es:List (B8×TV)} {st:St} {K:St->Prop} (hb:st.box t= .cells [kv,.map m,.int .i64 d]) (hm:st.box m= .map es)
  (hr:Dg kv (ks.map TV.str)) (ht:∀id,Bb kv=some id->id<st.nt/\st.live id=true) (hl:ks.length<=1000000)
  (hk:∀kv' st',Dg kv' ((ks++[key]).map TV.str)->Bb kv'=some st.nt->st'.box=(fun x=>if x=m then .map (FL key (.box e 0) es)else if x=t then .cells [kv',.map m,.int .i64 d]else st.box x)->st'.nb=st.nb->st'.bt=st.bt->st'.nt=st.nt+1->
   st'.live st.nt=true->(∀i,i<st.nt->Bb kv≠some i->st'.live i=st.live i)->K st'):
  CallT PR AM [.box t 0,.str key,.box e 0] [] st K:=by
 have hmt:m≠t:=fun h=>by rw[h,hb]at hm;cases hm
 refine Hp t key e st K (Ad (x:=kv) (by simp only[Ac,hb];rfl) (Me hr ht (by rw[List.length_map];omega) fun v' st1 h1 h2 h3 h4 h5 h6 h7 h8=>?_))
 have h1':Ah v'=true:=by
  rcases h1 with⟨_,hx⟩ | ⟨tip,h9,_⟩
  ·simp at hx
  ·rw[h9];rfl
 refine Aa (by simp[h1']) ?_
 have hb1:st1.box t= .cells [kv,.map m,.int .i64 d]:=by rw[h3];exact hb
 refine⟨_,hb1,by simp,?_⟩
 refine Ad (x:= .map m) (by simp[Ac,St.put,setAll]) ?_
 refine⟨es,by simp only[St.put];rw[if_neg hmt,h3];exact hm,?_⟩
 refine hk v' _ (by rw[List.map_append];exact h1) h2 ?_ h4 h5 h6 h7 h8
 funext x
 simp only[St.put,h3,setAll]
 rfl
theorem allC {st:St} {up:List (Nat×TV)} (h:∀p,p∈up->Ap st p.1=true):(up.all fun p=>Ap st p.1)=true:=List.all_eq_true.2 h
theorem J4 {st:St} {ub k:Nat} {up:List (Nat×TV)} (hu:st.box ub= .pmap up) (h:∀p,p∈up->Ap st p.1=true) (hk:Ap st k=true):LA st (.map ub) (.box k 0)=some (up,k):=by
 simp only[LA,Lw,hu,pkey,Nat.beq_refl,hk,allC h]
 rfl
theorem Ik {bb ub d:Nat} {r n:TV} {nodes:Int} {up:List (Nat×TV)} {st:St} {K:TV->St->Prop} (hb:st.box bb= .cells [r,n,.map ub,.int .i64 nodes]) (hu:st.box ub= .pmap up) (hbb:bb<st.nb) (hub:ub<st.nb)
  (hc:∀p,p∈up->Ap st p.1=true/\p.1<st.nb) (hn:0<=nodes/\nodes<1000000000)
  (hk:∀st',st'.nb=st.nb+2->st'.box=(fun x=>if x=bb then .cells [r,n,.map ub,.int .i64 (nodes+1)]else if x=ub then .pmap (EK (st.nb+1) (.bool true) up)else if x=st.nb+1 then .cells [.nilSlice,.map st.nb,.int .i64 d]else if x=st.nb then .map []else st.box x)->
   st'.nt=st.nt->st'.live=st.live->K (.box (st.nb+1) 0) st'):
  CallT PR AB [.box bb 0,.int .i64 d] [.one .tv] st K:=by
 have hbu:ub≠bb:=fun h=>by rw[h,hb]at hu;cases hu
 have e1:bb≠st.nb:=by omega
 have e2:bb≠st.nb+1:=by omega
 have e3:ub≠st.nb:=by omega
 have e4:ub≠st.nb+1:=by omega
 refine FI bb d st K (Aa rfl (Ad (x:= .map ub) (by simp[Ac,St.push,e1,e2,hb]) ?_))
 have hg:LA ((st.push (.map []) none).push (.cells [.nilSlice,.map st.nb,.int .i64 d]) (some 89)) (.map ub) (.box (st.nb+1) 0)=some (up,st.nb+1):=by
  refine J4 (by simp[St.push,e3,e4,hu]) (fun p hp=>?_) (by simp[Ap,St.push])
  obtain⟨h1,h2⟩:=hc p hp
  have h3:p.1≠st.nb:=by omega
  have h4:p.1≠st.nb+1:=by omega
  simp only[Ap]at h1
  simp[Ap,St.push,h3,h4,h1]
 refine Ad hg ?_
 refine Ad (x:= .int .i64 nodes) (by simp[Ac,St.push,St.put,HN,Ne.symm hbu,e1,e2,hb]) (Ba ?_)
 refine⟨[r,n,.map ub,.int .i64 nodes],by simp[St.push,St.put,HN,Ne.symm hbu,e1,e2,hb],by simp,?_⟩
 rw[Ao _ (by omega) (by omega)]
 refine hk _ rfl ?_ rfl rfl
 funext x
 simp only[St.push,St.put,HN,setAll]
 rfl
def z13:List TV:=Aq scO .nilSlice .nilSlice .nilSlice
def KJ (σ:Nat->TV) (st:St) (eb:Nat):ShE->Prop
 | .opn b=>st.box eb= .cells (.box b 0:: .nilSlice::(z13++[.int .i64 0]))/\Bb (σ eb)=none
 | .lst bs=>Dg (σ eb) (bs.map fun b=> .box b 0)/\bs≠ []/\st.box eb= .cells (.nilPtr::σ eb::(z13++[.int .i64 0]))
 | .clo v i=>∃cs,VlR St.zero v cs/\cs.length=13/\st.box eb= .cells (.nilPtr:: .nilSlice::(cs++[.int .i64 i]))/\Bb (σ eb)=none
structure Mh (σ:Nat->TV) (st:St) (s:Sh):Prop where
 cell:st.box s.b= .cells [σ s.b,.map s.m,.int .i64 s.d]
 row:Dg (σ s.b) ((s.es.map fun x=>x.1).map TV.str)
 mp:∃mp,st.box s.m= .map mp/\∀k,Az k mp=(Eo k s.es).map fun p=> .box p.1 0
 en:∀x,x∈s.es->KJ σ st x.2.1 x.2.2
structure HP (σ:Nat->TV) (st:St) (L:List Sh):Prop where
 nd:(bxL L).Nodup
 lt:∀x,x∈bxL L->x<st.nb
 sh:∀s,s∈L->Mh σ st s
 tip:∀x,x∈bxL L->∀id,Bb (σ x)=some id->id<st.nt/\st.live id=true
 td:∀x,x∈bxL L->∀y,y∈bxL L->x≠y->∀id,Bb (σ x)=some id->Bb (σ y)≠some id
theorem KJ.fr {σ σ':Nat->TV} {st st':St} {eb:Nat} {e:ShE} (h:KJ σ st eb e) (hb:st'.box eb=st.box eb) (hs:σ' eb=σ eb):KJ σ' st' eb e:=by
 cases e with
 | opn b=>unfold KJ at h⊢;rw[hb,hs];exact h
 | lst bs=>unfold KJ at h⊢;rw[hb,hs];exact h
 | clo v i=>unfold KJ at h⊢;rw[hb,hs];exact h
theorem EO {s:Sh} {x:B8×Nat×ShE} (h:x∈s.es):x.2.1∈bxS s:= .tail _ (.tail _ (List.mem_map.2 ⟨x,h,rfl⟩))
theorem Mh.fr {σ σ':Nat->TV} {st st':St} {s:Sh} (h:Mh σ st s) (hb:∀x,x∈bxS s->st'.box x=st.box x/\σ' x=σ x):Mh σ' st' s:=by
 have h1:=hb s.b (.head _)
 have h2:=hb s.m (.tail _ (.head _))
 exact⟨by rw[h1.1,h1.2];exact h.cell,by rw[h1.2];exact h.row,by rw[h2.1];exact h.mp,fun x hx=>(h.en x hx).fr (hb _ (EO hx)).1 (hb _ (EO hx)).2⟩
theorem Jy {A X B:List Sh} (h:(bxL (A++(X++B))).Nodup):(bxL A++bxL B).Nodup/\(bxL X).Nodup/\∀x,x∈bxL X->x∉bxL A/\x∉bxL B:=by
 rw[AH,AH]at h
 obtain⟨h1,h2,h3⟩:=List.nodup_append.1 h
 obtain⟨h4,h5,h6⟩:=List.nodup_append.1 h2
 exact⟨List.nodup_append.2 ⟨h1,h5,fun a ha b hb=>h3 a ha b (List.mem_append_right _ hb)⟩,h4,fun x hx=>⟨fun ha=>h3 x ha x (List.mem_append_left _ hx) rfl,fun hb=>h6 x hx x hb rfl⟩⟩
theorem HP.upd {σ σ':Nat->TV} {st st':St} {A X X' B:List Sh} (h:HP σ st (A++(X++B))) (hnb:st.nb<=st'.nb)
  (hbx:∀x,x∈bxL A∨x∈bxL B->st'.box x=st.box x/\σ' x=σ x)
  (hlv:∀x,x∈bxL A∨x∈bxL B->∀id,Bb (σ x)=some id->id<st'.nt/\st'.live id=true)
  (hX:∀s,s∈X'->Mh σ' st' s) (hnd:(bxL X').Nodup) (hnew:∀x,x∈bxL X'->x<st'.nb/\(x∈bxL X∨st.nb<=x))
  (htip:∀x,x∈bxL X'->∀id,Bb (σ' x)=some id->id<st'.nt/\st'.live id=true/\((∃y,y∈bxL X/\Bb (σ y)=some id)∨st.nt<=id))
  (htd:∀x,x∈bxL X'->∀y,y∈bxL X'->x≠y->∀id,Bb (σ' x)=some id->Bb (σ' y)≠some id):HP σ' st' (A++(X'++B)):=by
 obtain⟨n1,n2,n3⟩:=Jy h.nd
 have mA:∀{x},x∈bxL A->x∈bxL (A++(X++B)):=fun hx=>by rw[AH];exact List.mem_append_left _ hx
 have mB:∀{x},x∈bxL B->x∈bxL (A++(X++B)):=fun hx=>by rw[AH,AH];exact List.mem_append_right _ (List.mem_append_right _ hx)
 have mX:∀{x},x∈bxL X->x∈bxL (A++(X++B)):=fun hx=>by rw[AH,AH];exact List.mem_append_right _ (List.mem_append_left _ hx)
 have mAB:∀{x},x∈bxL A∨x∈bxL B->x∈bxL (A++(X++B)):=fun hx=>hx.elim mA mB
 have dAB:∀{x},x∈bxL X'->¬(x∈bxL A∨x∈bxL B):=fun {x} hx hm=>by
  rcases (hnew x hx).2 with h1 | h1
  ·exact hm.elim (n3 x h1).1 (n3 x h1).2
  ·have:=h.lt x (mAB hm);omega
 have tAB:∀{x y},x∈bxL X'->(y∈bxL A∨y∈bxL B)->∀{id},Bb (σ' x)=some id->Bb (σ y)=some id->False:=fun {x y} hx hy {id} h1 h2=>by
  rcases (htip x hx id h1).2.2 with⟨z,hz,h3⟩ | h3
  ·exact h.td z (mX hz) y (mAB hy) (fun e=>by subst e;exact hy.elim (n3 z hz).1 (n3 z hz).2) id h3 h2
  ·have:=(h.tip y (mAB hy) id h2).1;omega
 have spl:∀{x},x∈bxL (A++(X'++B))->(x∈bxL A∨x∈bxL B)∨x∈bxL X':=fun {x} hx=>by
  rw[AH,AH]at hx
  rcases List.mem_append.1 hx with h1 | h1
  ·exact .inl (.inl h1)
  ·rcases List.mem_append.1 h1 with h2 | h2
   ·exact .inr h2
   ·exact .inl (.inr h2)
 refine⟨?_,fun x hx=>?_,fun s hs=>?_,fun x hx id hid=>?_,fun x hx y hy hne id h1 h2=>?_⟩
 ·rw[AH,AH]
  obtain⟨a1,a2,a3⟩:=List.nodup_append.1 n1
  refine List.nodup_append.2 ⟨a1,List.nodup_append.2 ⟨hnd,a2,fun x hx y hy e=>dAB hx (.inr (by rw[e];exact hy))⟩,fun x hx y hy e=>?_⟩
  rcases List.mem_append.1 hy with h1 | h1
  ·exact dAB h1 (.inl (by rw[<-e];exact hx))
  ·exact a3 x hx y h1 e
 ·rcases spl hx with h1 | h1
  ·exact Nat.lt_of_lt_of_le (h.lt x (mAB h1)) hnb
  ·exact(hnew x h1).1
 ·rcases List.mem_append.1 hs with h1 | h1
  ·exact(h.sh s (List.mem_append_left _ h1)).fr fun x hx=>hbx x (.inl (Bh h1 hx))
  ·rcases List.mem_append.1 h1 with h2 | h2
   ·exact hX s h2
   ·exact(h.sh s (List.mem_append_right _ (List.mem_append_right _ h2))).fr fun x hx=>hbx x (.inr (Bh h2 hx))
 ·rcases spl hx with h1 | h1
  ·exact hlv x h1 id ((hbx x h1).2▸hid)
  ·exact⟨(htip x h1 id hid).1,(htip x h1 id hid).2.1⟩
 ·rcases spl hx with h3 | h3<;>rcases spl hy with h4 | h4
  ·exact h.td x (mAB h3) y (mAB h4) hne id ((hbx x h3).2▸h1) ((hbx y h4).2▸h2)
  ·exact tAB h4 h3 h2 ((hbx x h3).2▸h1)
  ·exact tAB h3 h4 h1 ((hbx y h4).2▸h2)
  ·exact htd x h3 y h4 hne id h1 h2
theorem HP.add {σ σ':Nat->TV} {st st':St} {A R N B:List Sh} {s:Sh} {k:B8} {eb:Nat} {e:ShE} (h:HP σ st (A++((s::R)++B))) (hnb:st.nb<=st'.nb)
  (hbx:∀x,x∈bxL (A++((s::R)++B))->x≠s.b->x≠s.m->st'.box x=st.box x/\σ' x=σ x)
  (hlv:∀x,x∈bxL (A++((s::R)++B))->x≠s.b->∀id,Bb (σ x)=some id->id<st'.nt/\st'.live id=true)
  (hc:st'.box s.b= .cells [σ' s.b,.map s.m,.int .i64 s.d]) (hr:Dg (σ' s.b) (((s.es++[(k,eb,e)]).map fun x=>x.1).map TV.str))
  (hm:∃mp,st.box s.m= .map mp/\st'.box s.m= .map (FL k (.box eb 0) mp)) (hsm:σ' s.m=σ s.m) (hk:Eo k s.es=none) (he:KJ σ' st' eb e)
  (hN:∀s',s'∈N->Mh σ' st' s') (hnd:(eb::bxL N).Nodup) (hnew:∀x,x∈eb::bxL N->st.nb<=x/\x<st'.nb)
  (htip:∀x,x∈s.b::eb::bxL N->∀id,Bb (σ' x)=some id->st.nt<=id/\id<st'.nt/\st'.live id=true)
  (htd:∀x,x∈s.b::eb::bxL N->∀y,y∈s.b::eb::bxL N->x≠y->∀id,Bb (σ' x)=some id->Bb (σ' y)≠some id):
  HP σ' st' (A++((⟨s.b,s.m,s.hd,s.d,s.es++[(k,eb,e)]⟩::(R++N))++B)):=by
 obtain⟨n1,n2,n3⟩:=Jy h.nd
 have hin:∀{x},x∈bxL (s::R)->x∈bxL (A++((s::R)++B)):=fun hx=>by rw[AH,AH];exact List.mem_append_right _ (List.mem_append_left _ hx)
 have hsR:s∈A++((s::R)++B):=List.mem_append_right _ (List.mem_append_left _ (.head _))
 have hsb:s.b∈bxL (s::R):=by rw[A1];exact List.mem_append_left _ (.head _)
 have hsmm:s.m∈bxL (s::R):=by rw[A1];exact List.mem_append_left _ (.tail _ (.head _))
 have hS:=h.sh s hsR
 rw[A1]at n2
 obtain⟨m1,m2,m3⟩:=List.nodup_append.1 n2
 have hbm:s.m≠s.b:=fun e=>by
  have:=hS.cell;obtain⟨mp,h1,_⟩:=hS.mp;rw[e,this]at h1;cases h1
 have eE:bxL (⟨s.b,s.m,s.hd,s.d,s.es++[(k,eb,e)]⟩::(R++N))=(s.b::s.m::(s.es.map (fun x=>x.2.1)++[eb]))++(bxL R++bxL N):=by
  rw[A1,AH]
  show(s.b::s.m::(s.es++[(k,eb,e)]).map (fun x=>x.2.1))++_=_
  rw[List.map_append];rfl
 have mem':∀{x},x∈bxL (⟨s.b,s.m,s.hd,s.d,s.es++[(k,eb,e)]⟩::(R++N))->x∈bxL (s::R)∨x∈eb::bxL N:=fun {x} hx=>by
  rw[eE]at hx
  rw[A1]
  rcases List.mem_append.1 hx with h1 | h1
  ·rcases List.mem_cons.1 h1 with rfl | h1
   ·exact .inl (List.mem_append_left _ (.head _))
   ·rcases List.mem_cons.1 h1 with rfl | h1
    ·exact .inl (List.mem_append_left _ (.tail _ (.head _)))
    ·rcases List.mem_append.1 h1 with h2 | h2
     ·exact .inl (List.mem_append_left _ (.tail _ (.tail _ h2)))
     ·rw[List.mem_singleton.1 h2];exact .inr (.head _)
  ·rcases List.mem_append.1 h1 with h2 | h2
   ·exact .inl (List.mem_append_right _ h2)
   ·exact .inr (.tail _ h2)
 have old:∀{x},x∈bxL (s::R)->x≠s.b->σ' x=σ x:=fun {x} hx hne=>by
  by_cases hxm:x=s.m
  ·rw[hxm];exact hsm
  ·exact(hbx x (hin hx) hne hxm).2
 have hRes:∀s',s'∈R->∀x,x∈bxS s'->st'.box x=st.box x/\σ' x=σ x:=fun s' hs' x hx=>by
  have hxR:x∈bxL R:=Bh hs' hx
  refine hbx x (hin (by rw[A1];exact List.mem_append_right _ hxR)) (fun e=>?_) fun e=>?_
  ·exact m3 s.b (.head _) x hxR e.symm
  ·exact m3 s.m (.tail _ (.head _)) x hxR e.symm
 refine h.upd hnb (fun x hx=>?_) (fun x hx id hid=>?_) (fun s' hs'=>?_) ?_ (fun x hx=>?_) (fun x hx id hid=>?_) fun x hx y hy hne id h1 h2=>?_
 ·have hx':x∈bxL (A++((s::R)++B)):=by
   rw[AH,AH];exact hx.elim (fun h=>List.mem_append_left _ h) fun h=>List.mem_append_right _ (List.mem_append_right _ h)
  refine hbx x hx' (fun e=>?_) fun e=>?_
  ·subst e;exact hx.elim (n3 _ hsb).1 (n3 _ hsb).2
  ·subst e;exact hx.elim (n3 _ hsmm).1 (n3 _ hsmm).2
 ·have hx':x∈bxL (A++((s::R)++B)):=by
   rw[AH,AH];exact hx.elim (fun h=>List.mem_append_left _ h) fun h=>List.mem_append_right _ (List.mem_append_right _ h)
  exact hlv x hx' (fun e=>by subst e;exact hx.elim (n3 _ hsb).1 (n3 _ hsb).2) id hid
 ·rcases List.mem_cons.1 hs' with rfl | hs'
  ·refine⟨hc,hr,?_,fun x hx=>?_⟩
   ·obtain⟨mp,h1,h2⟩:=hm
    obtain⟨mp2,h3,h4⟩:=hS.mp
    rw[h3]at h1;cases h1
    refine⟨_,h2,fun k2=>?_⟩
    rw[I7,h4 k2,M6]
    by_cases hkk:k2=k
    ·subst hkk;rw[if_pos rfl,hk,if_pos rfl];rfl
    ·rw[if_neg hkk,if_neg hkk]
     cases Eo k2 s.es<;>rfl
   ·rcases List.mem_append.1 hx with h1 | h1
    ·have hxb:x.2.1∈s.es.map fun x=>x.2.1:=List.mem_map.2 ⟨x,h1,rfl⟩
     have hxn:x.2.1≠s.b:=fun e=>by
      have:=(List.nodup_cons.1 m1).1
      exact this (.tail _ (e▸hxb))
     have hxm:x.2.1≠s.m:=fun e=>by
      have:=(List.nodup_cons.1 (List.nodup_cons.1 m1).2).1
      exact this (e▸hxb)
     have:=hbx x.2.1 (Bh hsR (EO h1)) hxn hxm
     exact(hS.en x h1).fr this.1 this.2
    ·rw[List.mem_singleton.1 h1];exact he
  ·rcases List.mem_append.1 hs' with h1 | h1
   ·exact(h.sh s' (List.mem_append_right _ (List.mem_append_left _ (.tail _ h1)))).fr (hRes s' h1)
   ·exact hN s' h1
 ·have hlt:∀{x},x∈bxS s++bxL R->x<st.nb:=fun hx=>h.lt _ (hin (by rw[A1];exact hx))
  obtain⟨q1,q2⟩:=List.nodup_cons.1 hnd
  have e2:bxS s=s.b::s.m::s.es.map fun x=>x.2.1:=rfl
  rw[eE]
  refine List.nodup_append.2 ⟨?_,List.nodup_append.2 ⟨m2,q2,fun x hx y hy e=>?_⟩,fun x hx y hy e=>?_⟩
  ·have e3:s.b::s.m::(s.es.map (fun x=>x.2.1)++[eb])=bxS s++[eb]:=rfl
   rw[e3]
   refine List.nodup_append.2 ⟨m1,by simp,fun x hx y hy e=>?_⟩
   rw[List.mem_singleton.1 hy]at e
   have h1:=hlt (List.mem_append_left _ hx)
   have h2:=(hnew eb (.head _)).1
   omega
  ·have h1:=hlt (List.mem_append_right _ hx)
   have h2:=(hnew y (.tail _ hy)).1
   omega
  ·have e3:s.b::s.m::(s.es.map (fun x=>x.2.1)++[eb])=bxS s++[eb]:=rfl
   rw[e3]at hx
   subst e
   rcases List.mem_append.1 hx with h1 | h1
   ·rcases List.mem_append.1 hy with h2 | h2
    ·exact m3 x h1 x h2 rfl
    ·have h3:=hlt (List.mem_append_left _ h1)
     have h4:=(hnew x (.tail _ h2)).1
     omega
   ·have h5:=List.mem_singleton.1 h1
    subst h5
    rcases List.mem_append.1 hy with h2 | h2
    ·have h3:=hlt (List.mem_append_right _ h2)
     have h4:=(hnew x (.head _)).1
     omega
    ·exact q1 h2
 ·rcases mem' hx with h1 | h1
  ·exact⟨Nat.lt_of_lt_of_le (h.lt x (hin h1)) hnb,.inl h1⟩
  ·exact⟨(hnew x h1).2,.inr (hnew x h1).1⟩
 ·rcases mem' hx with h1 | h1
  ·by_cases hxb:x=s.b
   ·subst hxb
    have:=htip _ (.head _) id hid
    exact⟨this.2.1,this.2.2,.inr this.1⟩
   ·rw[old h1 hxb]at hid
    have:=hlv x (hin h1) hxb id hid
    exact⟨this.1,this.2,.inl ⟨x,h1,hid⟩⟩
  ·have:=htip x (.tail _ h1) id hid
   exact⟨this.2.1,this.2.2,.inr this.1⟩
 ·have cl:∀{x},x∈bxL (s::R)∨x∈eb::bxL N->(x∈s.b::eb::bxL N)∨(x∈bxL (s::R)/\x≠s.b):=fun {x} hx=>by
   rcases hx with h3 | h3
   ·by_cases hxb:x=s.b
    ·rw[hxb];exact .inl (.head _)
    ·exact .inr ⟨h3,hxb⟩
   ·exact .inl (.tail _ h3)
  rcases cl (mem' hx)with h3 | ⟨h3,h3'⟩<;>rcases cl (mem' hy)with h4 | ⟨h4,h4'⟩
  ·exact htd x h3 y h4 hne id h1 h2
  ·have g1:=(htip x h3 id h1).1
   rw[old h4 h4']at h2
   have g2:=(h.tip y (hin h4) id h2).1
   omega
  ·have g1:=(htip y h4 id h2).1
   rw[old h3 h3']at h1
   have g2:=(h.tip x (hin h3) id h1).1
   omega
  ·rw[old h3 h3']at h1
   rw[old h4 h4']at h2
   exact h.td x (hin h3) y (hin h4) hne id h1 h2
end Go.TVF
