/- What the laws below rest on: a framework for Go programs, and contracts of the functions that they reach. -/
import Derived.Test.YtagglahlkknacaaGreatDoorDiC
import Derived.Shelf.Strings.Search1
import Derived.Shelf.Small.Strs
import Derived.Shelf.Unicode.DecodeSlow
import Derived.Shelf.Unicode.DecodeAny
import Derived.Test.YtagglahlkknacaaGreatDoorProg
set_option maxRecDepth 20000
set_option linter.unusedVariables false
set_option linter.unusedSimpArgs false
namespace Go.TVF
open Go.IntKind(i64 u8)
open Go Go.Proofs
section
structure F8 (s:Sc) (l:List Vl) (f:List Fd):Prop where
 k0:0<=s.kind
 k7:s.kind<=7
 bo:s.kind≠1->s.b=false
 nu:s.kind≠2->s.neg=false/\s.dg=[]/\s.ex=0
 ti:s.kind≠3->s.tk=0/\s.td=0/\s.tn=0/\s.tz=0
 tx:s.kind≠4->s.text=[]
 by_:s.kind≠5->s.bytes=[]
 ls:s.kind≠6->l=[]
 fs:s.kind≠7->f=[]
noncomputable instance (s:Sc) (l:List Vl) (f:List Fd):Decidable (F8 s l f):=Classical.propDecidable _
def U8 (s:B8):Prop:=Cn s=s.length
instance (s:B8):Decidable (U8 s):=inferInstanceAs (Decidable (_=_))
def EM (seen:List B8):List Fd->Nat
 | []=>0
 | d::r=>if U8 d.key then(if 1024<d.key.length then 10 else if d.key∈seen then 8 else EM (d.key::seen) r)else 5
noncomputable def CB (s:Sc) (l:List Vl) (f:List Fd):Nat:=
 if F8 s l f then(if Cz s.neg s.dg s.ex then(if s.kind=3->Bx s.tk s.td s.tn s.tz then(if U8 s.text then(if 65536<s.text.length then 10 else if 65536<s.bytes.length then 10 else EM [] f)else 5)else 2)else 2)else 6
noncomputable def Dj (x:Nat×Nat) (f:Nat->Nat×Nat):Nat×Nat:=if x.2=0 then f x.1 else x
mutual
noncomputable def D8 (d n:Nat):Vl->Nat×Nat
 | .mk s l f=>if 48<d then(n,9)else if 65536<=n then(n,10)else if CB s l f≠0 then(n,CB s l f)else Dj (Cf (d+1) (n+1) l) fun m=>Dm (d+1) m f
noncomputable def Cf (d n:Nat):List Vl->Nat×Nat
 | []=>(n,0)
 | v::r=>Dj (D8 d n v) fun m=>Cf d m r
noncomputable def Pl (d n:Nat):Fd->Nat×Nat
 | .mk _ v=>D8 d n v
noncomputable def Dm (d n:Nat):List Fd->Nat×Nat
 | []=>(n,0)
 | x::r=>Dj (Pl d n x) fun m=>Dm d m r
end
noncomputable def Mq (v:Vl):Nat:=(D8 1 0 v).2
theorem Gg {x:Nat×Nat} {f:Nat->Nat×Nat} (h:(Dj x f).2=0):x.2=0/\(f x.1).2=0:=by
 unfold Dj at h
 split at h
 ·rename_i h0;exact⟨h0,h⟩
 ·rename_i h0;exact absurd h h0
theorem Fi {x:Nat×Nat} {f:Nat->Nat×Nat} (h:x.2=0):Dj x f=f x.1:=by unfold Dj;rw[if_pos h]
theorem Nt {x:Nat×Nat} {f:Nat->Nat×Nat} (h:x.2≠0):Dj x f=x:=by unfold Dj;rw[if_neg h]
structure OneOk (s:Sc) (l:List Vl) (f:List Fd):Prop where
 own:F8 s l f
 dec:Cz s.neg s.dg s.ex
 time:s.kind=3->Bx s.tk s.td s.tn s.tz
 text:U8 s.text
 tlen:s.text.length<=65536
 blen:s.bytes.length<=65536
 keys:EM [] f=0
theorem Hw {s:Sc} {l:List Vl} {f:List Fd}:CB s l f=0↔OneOk s l f:=by
 unfold CB
 constructor
 ·intro h
  split at h
  ·rename_i h1
   split at h
   ·rename_i h2
    split at h
    ·rename_i h3
     split at h
     ·rename_i h4
      split at h
      ·cases h
      ·rename_i h5
       split at h
       ·cases h
       ·rename_i h6
        exact⟨h1,h2,h3,h4,by omega,by omega,h⟩
     ·cases h
    ·cases h
   ·cases h
  ·cases h
 ·intro h
  rw[if_pos h.own,if_pos h.dec,if_pos h.time,if_pos h.text,if_neg (by have:=h.tlen;omega),if_neg (by have:=h.blen;omega)]
  exact h.keys
end
theorem SlR.isPtr {st:St} {sz n i:Nat} {u:TV} {xs:List TV} (h:SlR st sz u n xs) (hi:i<n):TVF.isPtr (ixT sz u i)=true:=by
 rcases h with(⟨rfl,rfl,rfl⟩ | ⟨tip,rfl⟩) | ⟨b,off,cap,l,rfl,_⟩
 ·omega
 ·rfl
 ·rfl
theorem SlR.ldcf {st:St} {sz n i f m:Nat} {u:TV} {xs:List TV} (h:SlR st sz u n xs) (hl:xs.length=n*sz) (hi:i<n) (hf:f+m<=sz):Aj st [] (.t (IU (ixT sz u i) f)) 0 m=some ((xs.drop (i*sz+f)).take m):=by
 have hm:(i+1)*sz<=n*sz:=Nat.mul_le_mul_right _ hi
 rw[Nat.add_mul,Nat.one_mul]at hm
 rcases h with(⟨rfl,rfl,rfl⟩ | ⟨tip,rfl⟩) | ⟨b,off,cap,l,rfl,h2,h3,h4,h5,rfl⟩
 ·omega
 ·show Aj st [] (.t (.rptr ((xs.drop (i*sz)).drop f))) 0 m=_
  rw[List.drop_drop,IN m 0 (by rw[List.length_drop];omega),List.drop_zero]
 ·have hc:n*sz<=cap*sz:=Nat.mul_le_mul_right _ h5
  have e1:(((l.drop off).take (n*sz)).drop (i*sz+f)).take m=(l.drop (off+i*sz+f)).take m:=by
   rw[List.drop_take,List.drop_drop,List.take_take,Nat.min_eq_left (by omega),Nat.add_assoc]
  rw[e1]
  have e:=Ig (B:=l.drop (off+i*sz+f+m)) (st:=st) (b:=b) ((l.drop (off+i*sz+f)).take m) l 0 (off+i*sz+f) h3 (by
   have:=List.take_append_drop m (l.drop (off+i*sz+f))
   rw[List.drop_drop]at this
   rw[Nat.add_zero];exact this.symm)
  rw[show((l.drop (off+i*sz+f)).take m).length=m by simp;omega]at e
  exact e
theorem SlR.ldf {st:St} {sz n i f:Nat} {u x:TV} {xs:List TV} (h:SlR st sz u n xs) (hl:xs.length=n*sz) (hi:i<n) (hf:f<sz) (hx:xs[i*sz+f]? =some x):Ak st [] (.t (IU (ixT sz u i) f)) 0=some x:=by
 have:=h.ldcf (f:=f) (m:=1) hl hi (by omega)
 have hlt:i*sz+f<xs.length:=by
  obtain⟨q,_⟩:=List.getElem?_eq_some_iff.1 hx
  exact q
 rw[List.drop_eq_getElem_cons hlt]at this
 rw[List.getElem?_eq_getElem hlt]at hx
 simp only[Aj,List.take_succ_cons,List.take_zero]at this
 cases hq:Ak st [] (.t (IU (ixT sz u i) f)) 0 with
 | none=>rw[hq]at this;cases this
 | some y=>
  rw[hq]at this
  simp only[Option.map_some,Option.some.injEq,List.cons.injEq,and_true]at this
  rw[this];exact hx
theorem SlR.toBytes {st:St} {u:TV} {l:B8} (h:SlR st 1 u l.length (Ai l)):TVF.toBytes st u=some l:=by
 have hl:(Ai l).length=l.length:=Cd l
 rcases h with(⟨rfl,h1,_⟩ | ⟨tip,rfl⟩) | ⟨b,off,cap,m,rfl,h2,h3,h4,h5,h6⟩
 ·rw[List.eq_nil_of_length_eq_zero h1];rfl
 ·simp[TVF.toBytes,A7]
 ·have e:=Ig (B:=m.drop (off+l.length)) (st:=st) (b:=b) (Ai l) m 0 off h3 (by
   rw[h6,Nat.add_zero,Nat.mul_one,<-List.drop_drop,List.take_append_drop])
  rw[hl]at e
  simp only[TVF.toBytes,Nat.beq_refl,e,A7]
theorem M4 {st0 st:St} {uf:TV} {xf:List TV} {l:List Fd} (hke:BJ st0 st) (h2:SlR st0 14 uf l.length xf) (h3:FsR st0 l xf) {i:Int} {k:Nat} (hi:i=k) {d:Fd} (hd:l[k]? =some d) {f:B8->Prop} (hf:f d.key):
  (0<=i/\i<(lenZ 14 uf:Int))/\need (TVF.isPtr (ixT 14 uf (Int.toNat i))) (Bc (Ak st [] (.t (IU (ixT 14 uf (Int.toNat i)) 0)) 0) fun x=>A6 .str x f):=by
 subst hi
 obtain⟨hk,_⟩:=List.getElem?_eq_some_iff.1 hd
 obtain⟨cw,hw,hcw,hcl⟩:=h3.get hd
 rw[h2.lenZ,Int.toNat_natCast]
 have hx:xf[k*14+0]? =some (.str d.key):=by
  cases d with
  | mk key w=>
   unfold FdR at hw
   obtain⟨cs,rfl,_⟩:=hw
   have:=congrArg (fun z=>z[0]?) hcw
   simpa [Fd.key]using this
 exact⟨⟨by omega,by omega⟩,AH (h2.isPtr hk) (Am ((h2.keep hke).ldf h3.len hk (by omega) hx) hf)⟩
theorem val14 {st0 st:St} {uf:TV} {xf:List TV} {l:List Fd} (hke:BJ st0 st) (h2:SlR st0 14 uf l.length xf) (h3:FsR st0 l xf) {i:Int} {k:Nat} (hi:i=k) (hk:k<l.length) {f:Fun [.int .i64,.bool,.bool,.str,.int .i64,.int .i64,.int .i64,.int .i64,.int .i64,.str,.tv,.tv,.tv] Prop}
  (hf:∀key s' l' f' ub1 ul1 uf1,l[k]? =some (.mk key (.mk s' l' f'))->VlR st0 (.mk s' l' f') (AR s' ub1 ul1 uf1)->List.all (AR s' ub1 ul1 uf1) BK=true->f s'.kind s'.b s'.neg s'.dg s'.ex s'.tk s'.td s'.tn s'.tz s'.text ub1 ul1 uf1):
  (0<=i/\i<(lenZ 14 uf:Int))/\need (TVF.isPtr (ixT 14 uf (Int.toNat i))) (Bc ((Aj st [] (.t (IU (ixT 14 uf (Int.toNat i)) 1)) 0 13).map TV.agg) fun x=>Pd [.int .i64,.bool,.bool,.str,.int .i64,.int .i64,.int .i64,.int .i64,.int .i64,.str,.tv,.tv,.tv] x f):=by
 subst hi
 have gw:l[k]? =some l[k]:=List.getElem?_eq_getElem hk
 obtain⟨cw,hw,hcw,hcl⟩:=h3.get gw
 rw[h2.lenZ,Int.toNat_natCast]
 refine⟨⟨by omega,by omega⟩,AH (h2.isPtr hk) ?_⟩
 rw[(h2.keep hke).ldcf (f:=1) (m:=13) h3.len hk (by omega)]
 generalize l[k]=w at*
 cases w with
 | mk key w=>
 cases w with
 | mk s' l' f'=>
 unfold FdR at hw
 obtain⟨cw2,rfl,hw1⟩:=hw
 have hw2:=hw1
 unfold VlR at hw2
 obtain⟨ub',ul',uf',xl',xf',rfl,w1,w2,w3,w4,w5⟩:=hw2
 have e:(xf.drop (k*14+1)).take 13=AR s' ub' ul' uf':=by
  rw[<-List.drop_drop]
  have:=congrArg (fun z=>z.drop 1) hcw
  simp only[List.drop_take]at this
  simpa [AR]using this
 rw[e]
 exact Am rfl (Pc (hf key s' l' f' ub' ul' uf' gw hw1 (one13 w1.one w2.one w4.one)))
theorem BJ.trans {a b c:St} (h:BJ a b) (k:BJ b c):BJ a c:=⟨Nat.le_trans h.1 k.1,fun i hi=>(k.2 i (Nat.lt_of_lt_of_le hi h.1)).trans (h.2 i hi)⟩
theorem BJ.refl (a:St):BJ a a:=⟨Nat.le_refl _,fun _ _=>rfl⟩
theorem G3 {s:B8} {f:B8->Prop} (h:f s):A6 .str (.str s) f:=h
theorem I7 {k:IntKind} {n:Int} {f:Int->Prop} (h:f n):A6 (.int k) (.int k n) f:=by
 simp only[A6];exact h
theorem BF {α:Type} {K:α->St->Prop} {a b:α} {st:St} (h:a=b) (hk:K b st):K a st:=h▸hk
theorem Jt {r:Int} {st:St} {K:Bool->St->Prop} (h0:0<=r) (hk:K (decide (Au r.toNat)) st):CallT PR Bd [.int .i64 r] [.one (.bool)] st K:=by
 refine DP _ st K (Aa (fun _=>Aa (fun h2=>Aa (fun h3=>?_) fun h3=>?_) fun h2=>?_) fun h1=>absurd h0 h1)
 ·have:Au r.toNat:=by unfold Au;omega
  simpa [this]using hk
 ·have:decide ((57343:Int)<r)=decide (Au r.toNat):=by
   rw[Bool.eq_iff_iff];simp only[decide_eq_true_eq];unfold Au;omega
  rw[this];exact hk
 ·have:¬Au r.toNat:=by unfold Au;omega
  simpa [this]using hk
theorem Dn (st:St) (n:Nat) (l:B8) (xs:List TV) (h:xs=Ai l):(toBytes st (.list 1 .full n xs)).map TV.str=some (.str l):=by
 subst h;simp[toBytes,A7]
theorem Da (n:Nat):IntKind.wrap .u8 (n:Int)=((UInt8.ofNat n).toNat:Int):=by
 unfold IntKind.wrap
 simp only[IntKind.signed,IntKind.bits]
 simp
 try omega
theorem orN (a b m:Nat) (hb:b<2^m) (h:a*2^m+b<2^63) (x y:Int) (hx:x=((a*2^m:Nat):Int)) (hy:y=(b:Int)):Af .or .i64 x y=((a*2^m+b:Nat):Int):=by
 rw[hx,hy];exact OF a b m hb h
theorem Mi {R:Int} {r:Nat} {st:St} {K:B8->Int->St->Prop} (hR:R=(r:Int)) (hr:r<2^40) (hk:K (if Au r then C7 r else []) (if Au r then 0 else 2) st):CallT PR A0 [.int .i64 R] [.one (.str),.one (.int .i64)] st K:=by
 have shr:∀m,m<=64->Int.fdiv R (2^(min m (IntKind.bits .i64)))=((r/2^m:Nat):Int):=fun m hm=>by rw[hR];exact shr_i64 r m hm
 have s6:=shr 6 (by decide)
 have s12:=shr 12 (by decide)
 have s18:=shr 18 (by decide)
 have m63:∀x:Nat,x<2^63->Af .and .i64 (x:Int) (63:Int)=((x%64:Nat):Int):=fun x hx=>FB x 6 hx (by decide)
 have mR:Af .and .i64 R (63:Int)=((r%64:Nat):Int):=by rw[hR];exact m63 r (by omega)
 have o128:∀x:Nat,x<64->Af .or .i64 (128:Int) (x:Int)=((128+x:Nat):Int):=fun x hx=>orN 2 x 6 (by omega) (by omega) _ _ rfl rfl
 have hR0:0<=R:=by omega
 have hRn:R.toNat=r:=by omega
 refine Et _ st K (Jt hR0 (Ap (fun h0=>?_) fun h0=>?_))
 ·have hc:¬Au r:=by rw[hRn]at h0;simpa using h0
  rw[if_neg hc,if_neg hc]at hk
  exact hk
 ·have hc:Au r:=by rw[hRn]at h0;simpa using h0
  rw[if_pos hc,if_pos hc]at hk
  unfold C7 at hk
  refine Aa (fun h1=>?_) fun h1=>Aa (fun h2=>?_) fun h2=>Aa (fun h3=>?_) fun h3=>?_
  ·rw[if_pos (by omega)]at hk
   exact Am (Dn _ _ _ _ (by simp only[Ai,List.map,Cg];rw[hR,Da])) hk
  ·rw[if_neg (by omega),if_pos (by omega)]at hk
   have o192:Af .or .i64 (192:Int) ((r/2^6:Nat):Int)=((192+r/64:Nat):Int):=orN 6 _ 5 (by omega) (by omega) _ _ rfl rfl
   refine Am (Dn _ _ _ _ ?_) hk
   simp only[Ai,List.map,Cg]
   rw[show Int.toNat (6:Int)=6 from rfl,s6,o192,mR,o128 _ (by omega),Da,Da]
  ·rw[if_neg (by omega),if_neg (by omega),if_pos (by omega)]at hk
   have o224:Af .or .i64 (224:Int) ((r/2^12:Nat):Int)=((224+r/4096:Nat):Int):=orN 14 _ 4 (by omega) (by omega) _ _ rfl rfl
   refine Am (Dn _ _ _ _ ?_) hk
   simp only[Ai,List.map,Cg]
   rw[show Int.toNat (6:Int)=6 from rfl,show Int.toNat (12:Int)=12 from rfl,s6,s12,o224,mR,m63 (r/2^6) (by omega),o128 _ (by omega),o128 _ (by omega),Da,Da,Da]
  ·rw[if_neg (by omega),if_neg (by omega),if_neg (by omega)]at hk
   have hr2:r<=1114111:=hc.1
   have o240:Af .or .i64 (240:Int) ((r/2^18:Nat):Int)=((240+r/262144:Nat):Int):=orN 30 _ 3 (by omega) (by omega) _ _ rfl rfl
   refine Am (Dn _ _ _ _ ?_) hk
   simp only[Ai,List.map,Cg]
   rw[show Int.toNat (6:Int)=6 from rfl,show Int.toNat (12:Int)=12 from rfl,show Int.toNat (18:Int)=18 from rfl,s6,s12,s18,o240,mR,m63 (r/2^6) (by omega),m63 (r/2^12) (by omega),o128 _ (by omega),o128 _ (by omega),o128 _ (by omega),Da,Da,Da,Da]
theorem NW {r:Nat} {st:St} {K:B8->Int->St->Prop} (hr:r<2^40) (hk:K (if Au r then C7 r else []) (if Au r then 0 else 2) st):CallT PR A0 [.int .i64 (r:Int)] [.one (.str),.one (.int .i64)] st K:=
 Mi rfl hr hk
def rD (l:B8):Nat×Nat:=if ul l=0 then(0,0)else(ur l,ul l)
theorem K1 {s:B8} {I:Int} {i:Nat} {st:St} {K:Int->Int->St->Prop} (hI:I=(i:Int)) (hl:s.length<=2000000) (hi:i<=s.length) (hk:K ((rD (s.drop i)).1:Nat) ((rD (s.drop i)).2:Nat) st):CallT PR A1 [.str s,.int .i64 I] [.one (.int .i64),.one (.int .i64)] st K:=by
 refine Eu s I st K (Aa (fun h=>by omega) fun _=>Aa (fun h=>?_) fun h=>⟨⟨by omega,by omega⟩,?_⟩)
 ·have:s.drop i=[]:=List.drop_of_length_le (by omega)
  have h0:rD (s.drop i)=(0,0):=by rw[this];simp[rD,ul]
  rw[h0]at hk;exact hk
 ·have hne:s.drop i≠ []:=by
   intro h0
   have:=congrArg List.length h0
   simp at this;omega
  have href:=MU (s.drop i) hne
  have hb0:(List.getD s (Int.toNat I) 0).toNat=bt (s.drop i) 0:=by rw[CS,hI];rfl
  have hlt:=JV (s.drop i) 0
  have hlen:(s.drop i).length=s.length-i:=by simp
  rw[hb0,Oa _ (by omega)]
  have m15:Af .and .i64 ((bt (s.drop i) 0:Nat):Int) (15:Int)=((bt (s.drop i) 0%16:Nat):Int):=FB _ 4 (by omega) (by decide)
  have m7:Af .and .i64 ((bt (s.drop i) 0:Nat):Int) (7:Int)=((bt (s.drop i) 0%8:Nat):Int):=FB _ 3 (by omega) (by decide)
  have m31:Af .and .i64 ((bt (s.drop i) 0:Nat):Int) (31:Int)=((bt (s.drop i) 0%32:Nat):Int):=FB _ 5 (by omega) (by decide)
  rw[m15,m7,m31]
  refine⟨fun size r s' at' st1=>s=s'/\I=at'/\st=st1/\((rsz (bt (s.drop i) 0):Nat):Int)=size/\((rb0 (bt (s.drop i) 0):Nat):Int)=r,?_,?_⟩
  ·refine Aa (fun h1=>⟨rfl,rfl,rfl,?_,?_⟩) fun h1=>Aa (fun h2=>⟨rfl,rfl,rfl,?_,?_⟩) fun h2=>Aa (fun h3=>⟨rfl,rfl,rfl,?_,?_⟩) fun h3=>⟨rfl,rfl,rfl,?_,?_⟩
   ·unfold rsz;rw[if_pos (by omega)];rfl
   ·unfold rb0;rw[if_pos (by omega)]
   ·unfold rsz;rw[if_neg (by omega),if_pos (by omega)];rfl
   ·unfold rb0;rw[if_neg (by omega),if_pos (by omega)]
   ·unfold rsz;rw[if_neg (by omega),if_neg (by omega),if_pos (by omega)];rfl
   ·unfold rb0;rw[if_neg (by omega),if_neg (by omega),if_pos (by omega)]
   ·unfold rsz;rw[if_neg (by omega),if_neg (by omega),if_neg (by omega)];rfl
   ·unfold rb0;rw[if_neg (by omega),if_neg (by omega),if_neg (by omega)]
  ·rintro _ _ _ _ _ ⟨rfl,rfl,rfl,rfl,rfl⟩
   have hs:=Os (bt (s.drop i) 0)
   have hr0:=rb0_lt _ hlt
   generalize hsz:rsz (bt (s.drop i) 0)=size at*
   generalize hrr:rb0 (bt (s.drop i) 0)=r0 at*
   have hra:=MV (s.drop i) r0 hr0
   unfold refU at href
   simp only[hsz,hrr]at href
   rw[Ac _ (by omega) (by omega)]
   refine Aa (fun h1=>?_) fun h1=>?_
   ·rw[if_pos (by omega)]at href
    have:rD (s.drop i)=(0,0):=by unfold rD;rw[<-href]
    rw[this]at hk;exact hk
   ·rw[if_neg (by omega)]at href
    refine⟨fun r j s' at' sz st2=>s=s'/\I=at'/\st=st2/\((size:Nat):Int)=sz/\∃k:Nat,j=((k+1:Nat):Int)/\k+1<=size/\r=((GS (s.drop i) r0 k:Nat):Int),fun _ j _ _ sz _=>(sz-j).toNat,⟨rfl,rfl,rfl,rfl,0,rfl,hs.1,rfl⟩,?_⟩
    rintro _ _ _ _ _ _ ⟨rfl,rfl,rfl,rfl,k,rfl,hk1,rfl⟩
    have hrk:=hra k
    have h64:64^k<=64^3:=Nat.pow_le_pow_right (by decide) (by omega)
    refine Aa (fun h2=>?_) fun h2=>?_
    ·rw[Ac _ (by omega) (by omega)]
     have hbk:(List.getD s (Int.toNat (I+((k+1:Nat):Int))) 0).toNat=bt (s.drop i) (k+1):=by
      rw[CS,show Int.toNat (I+((k+1:Nat):Int))=i+(k+1) by omega];rfl
     have hbl:=JV (s.drop i) (k+1)
     have hand:Af .and .i64 (i64.wrap ((bt (s.drop i) (k+1):Nat):Int)) (63:Int)=((bt (s.drop i) (k+1)%64:Nat):Int):=by
      rw[Oa _ (by omega)];exact FB _ 6 (by omega) (by decide)
     have hmul:i64.wrap (((GS (s.drop i) r0 k:Nat):Int)*2^(min (Int.toNat (6:Int)) (IntKind.bits .i64)))=((GS (s.drop i) r0 k*2^6:Nat):Int):=by
      rw[show(2:Int)^(min (Int.toNat (6:Int)) (IntKind.bits .i64))=64 by decide,Ac _ (by omega) (by omega)];omega
     refine⟨⟨by omega,by omega⟩,?_⟩
     rw[hbk,hand,hmul,OF _ _ 6 (by omega) (by omega),Ac _ (by omega) (by omega)]
     exact⟨⟨rfl,rfl,rfl,rfl,k+1,by omega,by omega,by simp only[GS]⟩,by dsimp only;omega⟩
    ·have hks:k=size-1:=by omega
     subst hks
     refine NW (by omega) ?_
     generalize hR:GS (s.drop i) r0 (size-1)=R at*
     refine Aa (fun h3=>?_) fun h3=>?_
     ·have hc:¬Au R:=by intro hc;rw[if_pos hc]at h3;exact h3 rfl
      rw[if_neg (fun h=>hc h.1)]at href
      have:rD (s.drop i)=(0,0):=by unfold rD;rw[<-href]
      rw[this]at hk;exact hk
     ·have hc:Au R:=by
       apply Decidable.byContradiction
       intro hc;rw[if_neg hc]at h3;exact h3 (by decide)
      rw[if_pos hc,Ac _ (by omega) (by omega)]
      refine⟨⟨by omega,by omega,by omega⟩,?_⟩
      rw[CQ,show Int.toNat (I+(size:Int))-Int.toNat I=size by omega,show Int.toNat I=i by omega]
      refine Aa (fun h4=>?_) fun h4=>?_
      ·rw[if_neg (fun h=>h4 h.2)]at href
       have:rD (s.drop i)=(0,0):=by unfold rD;rw[<-href]
       rw[this]at hk;exact hk
      ·rw[if_pos ⟨hc,Decidable.not_not.1 h4⟩]at href
       have:rD (s.drop i)=(R,size):=by unfold rD;rw[<-href]
       rw[this]at hk;exact hk
theorem LR {s:B8} {i:Nat} {st:St} {K:Int->Int->St->Prop} (hl:s.length<=2000000) (hi:i<=s.length) (hk:K ((rD (s.drop i)).1:Nat) ((rD (s.drop i)).2:Nat) st):CallT PR A1 [.str s,.int .i64 (i:Int)] [.one (.int .i64),.one (.int .i64)] st K:=
 K1 rfl hl hi hk
theorem KG (l:B8):Cn l<=l.length:=MH _ l (Nat.le_refl _)
theorem KF:Cn []=0:=Ee _ (by simp[ul])
theorem Ju {s:B8} {st:St} {K:TV->Bool->St->Prop} (hl:s.length<=2000000)
  (hk:∀v xs st',Ae st st'->Rd 1 v (xs.length+1) (xs++[.int .i64 ((Cn s:Nat):Int)])->xs.length<=s.length->K v (decide (Cn s=s.length)) st'):CallT PR A5 [.str s] [.one (.tv),.one (.bool)] st K:=by
 have hv:=KG s
 refine DA s st K ⟨fun v i s' st'=>s=s'/\Ae st st'/\∃(k:Nat) (xs:List TV),i=(k:Int)/\k<=s.length/\k+Cn (s.drop k)=Cn s/\xs.length<=k/\Own st.nt 1 st' v (xs.length+1) (xs++[.int .i64 (k:Int)]),fun _ i _ _=>(s.length-i).toNat,⟨rfl,Ae.refl _,0,[],rfl,by omega,by simp,by simp,Own.full _ _ _ _ _⟩,?_⟩
 rintro v _ _ st1 ⟨rfl,e,k,xs,rfl,h1,h2,h3,h4⟩
 refine Aa (fun g1=>?_) fun g1=>?_
 ·have hle:=KH (s.drop k)
  rw[List.length_drop]at hle
  refine LR hl h1 ?_
  unfold rD
  by_cases h0:ul (s.drop k)=0
  ·rw[if_pos h0]
   rw[Ee _ h0]at h2
   refine Aa (fun _=>?_) fun h=>absurd rfl h
   have:=hk v xs st1 e (by rw[<-h2];exact h4.rd) (by omega)
   rw[decide_eq_false (by omega)]at this
   exact this
  ·rw[if_neg h0]
   rw[Hb _ h0,List.drop_drop]at h2
   have w:i64.wrap ((k:Int)+(ul (s.drop k):Nat))=((k+ul (s.drop k):Nat):Int):=by rw[Ac _ (by omega) (by omega)];omega
   refine Aa (fun h=>by simp only at h;omega) fun _=>?_
   dsimp only
   rw[w]
   refine Jg e rfl h4 (by omega) (fun h=>by cases h) fun v' st' e' _ ho=>⟨⟨rfl,e',k+ul (s.drop k),xs++[.int .i64 (k:Int)],rfl,by omega,by omega,by rw[List.length_append];simp;omega,?_⟩,by omega⟩
   rw[List.length_append];exact ho
 ·rw[show s.drop k=[]from List.drop_of_length_le (by omega),KF]at h2
  have hks:k=Cn s:=by omega
  have:=hk v xs st1 e (by rw[<-hks];exact h4.rd) (by omega)
  rw[decide_eq_true (by omega)]at this
  exact this
theorem FD {s:B8} {st:St} {K:Bool->St->Prop} (hl:s.length<=2000000) (hk:∀st',Ae st st'->K (decide (Cn s=s.length)) st'):CallT PR As [.str s] [.one (.bool)] st K:=
 EY s st K (Ju hl fun v xs st1 e hr hx=>hk st1 e)
def hdS (b:Nat):Nat:=if b<128 then 1 else if 192<=b/\b<224 then 2 else if 224<=b/\b<240 then 3 else if 240<=b/\b<248 then 4 else 0
theorem J2 {l:B8} {c:UInt8} (hc:c.toNat<128) (hl:l.length<=9223372036854775807) {st:St} {K:B8->St->Prop} (hk:K (Lib.trimRightB l c) st):CallT PR CZ [.str l,.str [c]] [.one .str] st K:=by
 refine Co (fun _ _=>by kernel_rfl) fun g w vargs s hr=>?_
 obtain⟨v,u,rfl,hv,hu⟩:=IA hr
 rw[CX hv,CX hu]
 refine Calls.mono (Tryz.strings_TrimRight_one ⟨l.toArray⟩ c hc w (by simpa [ByteArray.size]using hl)) ?_
 rintro e w' ⟨rfl,rfl⟩
 exact⟨_,rfl,.str _,st,g,hk,s,Rel.str _,Ext.refl _ _⟩
theorem Im (l:B8):(Lib.trimRightB l 48).length+Ep l=l.length:=by
 unfold Lib.trimRightB Ep
 have:=congrArg List.length (List.takeWhile_append_dropWhile (p:=fun x:UInt8=>x==48) (l:=l.reverse))
 rw[List.length_append,List.length_reverse]at this
 rw[List.length_reverse];omega
theorem N8 {l:B8} (hl:l.length<=2000000) {st:St} {K:Int->St->Prop} (hk:K (Ep l:Nat) st):CallT PR De [.str l] [.one (.int .i64)] st K:=by
 refine H9 _ st K (J2 (by decide) (by omega) ?_)
 have:=Im l
 rw[Ac _ (by omega) (by omega),show((l.length:Nat):Int)-((Lib.trimRightB l 48).length:Int)=(Ep l:Nat) by omega]
 exact hk
theorem LE {p:UInt8->Bool}:∀(r:B8) (n:Nat),n<=r.length->(∀j x,j<n->r[j]? =some x->p x=true)->(∀x,r[n]? =some x->p x=false)->(r.takeWhile p).length=n
 | [],n,h,_,_=>by simp at h;simp[h]
 | a::r,0,_,_,h=>by simp[List.takeWhile_cons,h a rfl]
 | a::r,n+1,h,h1,h2=>by
  rw[List.takeWhile_cons,if_pos (h1 0 a (by omega) rfl),List.length_cons,LE r n (by simpa using h) (fun j x hj hx=>h1 (j+1) x (by omega) (by simpa using hx)) (fun x hx=>h2 x (by simpa using hx))]
theorem Ot (l:B8) (n:Nat) (h:n<l.length):l.reverse[n]? =some (List.getD l (l.length-1-n) 0):=by
 rw[List.getElem?_reverse h,List.getD_eq_getElem?_getD,List.getElem?_eq_getElem (by omega),Option.getD_some]
theorem JB {l:B8} (hl:l.length<=2000000) {st:St} {K:Int->St->Prop} (hk:K (Ep l:Nat) st):CallT PR BC [.str l] [.one (.int .i64)] st K:=by
 refine EZ l st K ⟨fun i s st'=>l=s/\st=st'/\∃n:Nat,i=n/\n<=l.length/\∀j x,j<n->l.reverse[j]? =some x->(x==48)=true,fun i _ _=>(l.length-i).toNat,⟨rfl,rfl,0,rfl,Nat.zero_le _,fun j x hj=>absurd hj (Nat.not_lt_zero _)⟩,?_⟩
 rintro _ _ _ ⟨rfl,rfl,n,rfl,hn,hall⟩
 refine Aa (fun g=>?_) fun g=>?_
 ·have hr:=Ot l n (by omega)
  rw[Ac ((l.length:Int)-1) (by omega) (by omega),Ac _ (by omega) (by omega),show Int.toNat ((l.length:Int)-1-(n:Int))=l.length-1-n by omega]
  refine⟨⟨by omega,by omega⟩,?_⟩
  generalize List.getD l (l.length-1-n) 0=c at hr⊢
  refine Aa (fun g2=>?_) fun g2=>?_
  ·rw[Ac _ (by omega) (by omega)]
   refine⟨⟨rfl,rfl,n+1,by omega,by omega,fun j x hj hx=>?_⟩,by dsimp only;omega⟩
   by_cases hjn:j=n
   ·subst hjn
    rw[hr]at hx
    rw[<-Option.some.inj hx]
    simpa [<-UInt8.toNat_inj]using (by omega:c.toNat=48)
   ·exact hall j x (by omega) hx
  ·have:Ep l=n:=LE _ n (by simpa using hn) hall fun x hx=>by
    rw[hr]at hx
    rw[<-Option.some.inj hx]
    have:c≠48:=fun e=>g2 (by rw[e];rfl)
    simpa using this
   rw[<-this];exact hk
 ·have:Ep l=n:=LE _ n (by simpa using hn) hall fun x hx=>by
   rw[List.getElem?_eq_none (by simp;omega)]at hx;cases hx
  rw[<-this];exact hk
theorem Lh {l:B8} {n:Nat} (h:n<l.length):List.getD l n 0∈l:=by
 rw[List.getD_eq_getElem?_getD,List.getElem?_eq_getElem h,Option.getD_some]
 exact List.getElem_mem h
theorem LA {P:UInt8->Prop} {l:B8} {n:Nat} (h:n<l.length) (h1:∀c,c∈l.take n->P c) (h2:P (List.getD l n 0)):∀c,c∈l.take (n+1)->P c:=by
 intro c hc
 rw[BY _ _ 0 h]at hc
 rcases List.mem_append.1 hc with hc | hc
 ·exact h1 c hc
 ·rw[List.mem_singleton.1 hc];exact h2
theorem all_ok {l:B8} (hl:l.length<=2000000) {st:St} {K:Bool->St->Prop} (hk:K (decide (∀c,c∈l->El c)) st):CallT PR D4 [.str l] [.one .bool] st K:=by
 refine Jj l st K ⟨fun i s m st'=>l=s/\(l.length:Int)=m/\st=st'/\∃n:Nat,i=n/\n<=l.length/\∀c,c∈l.take n->El c,fun i _ _ _=>(l.length-i).toNat,⟨rfl,rfl,rfl,0,rfl,Nat.zero_le _,fun c hc=>by simp at hc⟩,?_⟩
 rintro _ _ _ _ ⟨rfl,rfl,rfl,n,rfl,hn,hall⟩
 refine Aa (fun g=>?_) fun g=>?_
 ·have hm:=Lh (l:=l) (n:=n) (by omega)
  have bad:¬El (List.getD l n 0)->K false st:=fun hb=>by
   rw[decide_eq_false fun h=>hb (h _ hm)]at hk;exact hk
  rw[Int.toNat_natCast]
  refine⟨⟨by omega,by omega⟩,Aa (fun g2=>bad (by unfold El;omega)) fun g2=>⟨⟨by omega,by omega⟩,Aa (fun g3=>bad (by unfold El;omega)) fun g3=>?_⟩⟩
  rw[Ac _ (by omega) (by omega)]
  exact⟨⟨rfl,rfl,rfl,n+1,by omega,by omega,LA (by omega) hall (by unfold El;omega)⟩,by dsimp only;omega⟩
 ·have:n=l.length:=by omega
  subst this
  rw[List.take_length]at hall
  rw[decide_eq_true hall]at hk;exact hk
theorem LS {l:B8} (hl:l.length<=2000000) {st:St} {K:Bool->St->Prop} (hk:K (decide (∀c,c∈l->El c)) st):CallT PR Bw [.str l] [.one .bool] st K:=by
 refine Ew l st K ⟨fun i s st'=>l=s/\st=st'/\∃n:Nat,i=n/\n<=l.length/\∀c,c∈l.take n->El c,fun i _ _=>(l.length-i).toNat,⟨rfl,rfl,0,rfl,Nat.zero_le _,fun c hc=>by simp at hc⟩,?_⟩
 rintro _ _ _ ⟨rfl,rfl,n,rfl,hn,hall⟩
 refine Aa (fun g=>?_) fun g=>?_
 ·have hm:=Lh (l:=l) (n:=n) (by omega)
  have bad:¬El (List.getD l n 0)->K false st:=fun hb=>by
   rw[decide_eq_false fun h=>hb (h _ hm)]at hk;exact hk
  rw[Int.toNat_natCast]
  refine⟨⟨by omega,by omega⟩,Aa (fun g2=>bad (by unfold El;omega)) fun g2=>⟨⟨by omega,by omega⟩,Aa (fun g3=>bad (by unfold El;omega)) fun g3=>?_⟩⟩
  rw[Ac _ (by omega) (by omega)]
  exact⟨⟨rfl,rfl,n+1,by omega,by omega,LA (by omega) hall (by unfold El;omega)⟩,by dsimp only;omega⟩
 ·have:n=l.length:=by omega
  subst this
  rw[List.take_length]at hall
  rw[decide_eq_true hall]at hk;exact hk
def Ha (l:B8):Prop:=l.length<=600/\(∀c,c∈l->El c)/\(l≠ []->l.getD 0 0≠48)
instance (l:B8):Decidable (Ha l):=inferInstanceAs (Decidable (_/\_/\(_->_)))
theorem ne48 (c:UInt8):decide ((c.toNat:Int)≠48)=decide (c≠48):=by
 have:((c.toNat:Int)≠48)↔c≠48:=by rw[ne_eq,ne_eq,<-UInt8.toNat_inj];exact not_congr ⟨fun h=>Int.ofNat.inj h,fun h=>by rw[h];rfl⟩
 exact decide_eq_decide.2 this
theorem N1 {l:B8} (hl:l.length<=2000000) {st:St} {K:Bool->St->Prop} (hk:K (decide (Ha l)) st):CallT PR Df [.str l] [.one .bool] st K:=by
 have no:¬Ha l->K false st:=fun h=>by rw[decide_eq_false h]at hk;exact hk
 refine Ia l st K (Aa (fun g=>all_ok hl (Aa (fun g2=>Aa (fun g3=>?_) fun g3=>⟨⟨by omega,by have:=List.length_pos_iff.2 g3;omega⟩,?_⟩) fun g2=>no fun h=>g2 h.2.1)) fun g=>no fun h=>g (by have:=h.1;omega))
 ·rw[decide_eq_true (show Ha l from⟨by omega,g2,fun h=>absurd g3 h⟩)]at hk;exact hk
 ·rw[ne48]
  refine BF (decide_eq_decide.2 ?_) hk
  exact⟨fun h=>⟨by omega,g2,fun _=>h⟩,fun h=>h.2.2 g3⟩
theorem MW {l:B8} (hl:l.length<=2000000) {st:St} {K:Bool->St->Prop} (hk:K (decide (Ha l)) st):CallT PR BD [.str l] [.one .bool] st K:=by
 have no:¬Ha l->K false st:=fun h=>by rw[decide_eq_false h]at hk;exact hk
 refine E0 l st K (Aa (fun g=>LS hl (Aa (fun g2=>Aa (fun g3=>?_) fun g3=>⟨⟨by omega,by omega⟩,?_⟩) fun g2=>no fun h=>g2 h.2.1)) fun g=>no fun h=>g (by have:=h.1;omega))
 ·rw[decide_eq_true (show Ha l from⟨by omega,g2,fun h=>absurd (List.eq_nil_of_length_eq_zero (by omega)) h⟩)]at hk;exact hk
 ·rw[ne48]
  refine BF (decide_eq_decide.2 ?_) hk
  exact⟨fun h=>⟨by omega,g2,fun _=>h⟩,fun h=>h.2.2 fun e=>g3 (by rw[e];rfl)⟩
theorem AK {neg:Bool} {l:B8} {ex:Int} (h:l≠ []):Cz neg l ex↔Ha l/\l.length<=120/\Ep l=0/\ -400<=ex/\ex<=400:=by
 unfold Cz Ha
 constructor
 ·intro g
  obtain⟨g1,g2,g3,g4,g5,g6⟩:=g.2 h
  exact⟨⟨by omega,g2,fun _=>g3⟩,g1,g4,g5,g6⟩
 ·rintro⟨⟨g1,g2,g3⟩,g4,g5,g6,g7⟩
  exact⟨fun e=>absurd e h,fun _=>⟨g4,g2,g3 h,g5,g6,g7⟩⟩
theorem Em {neg:Bool} {ex:Int}:Cz neg [] ex↔neg=false/\ex=0:=by
 unfold Cz
 exact⟨fun g=>g.1 rfl,fun g=>⟨fun _=>g,fun h=>absurd rfl h⟩⟩
theorem Lo {neg:Bool} {l:B8} {ex:Int} (hl:l.length<=2000000) {st:St} {K:Bool->St->Prop} (hk:K (decide (Cz neg l ex)) st):CallT PR CN [.agg [.bool neg,.str l,.int .i64 ex]] [.one .bool] st K:=by
 have no:¬Cz neg l ex->K false st:=fun h=>by rw[decide_eq_false h]at hk;exact hk
 refine Hi _ _ _ st K (Aa (fun g=>?_) fun g=>?_)
 ·subst g
  refine BF ?_ hk
  rw[Bool.eq_iff_iff]
  simp[Em]
 ·refine N1 hl (Aa (fun g2=>Aa (fun g3=>N8 hl (Aa (fun g4=>Aa (fun g5=>?_) fun g5=>?_) fun g4=>?_)) fun g3=>?_) fun g2=>?_)
  ·exact BF (decide_eq_decide.2 (by rw[AK g];exact⟨fun h=>⟨g2,by omega,by omega,g5,h⟩,fun h=>h.2.2.2.2⟩)) hk
  ·exact no fun h=>g5 ((AK g).1 h).2.2.2.1
  ·exact no fun h=>g4 (by have:=((AK g).1 h).2.2.1;omega)
  ·exact no fun h=>g3 (by have:=((AK g).1 h).2.1;omega)
  ·exact no fun h=>g2 ((AK g).1 h).1
theorem rDec_ok {neg:Bool} {l:B8} {ex:Int} (hl:l.length<=2000000) {st:St} {K:Bool->St->Prop} (hk:K (decide (Cz neg l ex)) st):CallT PR Bb [.agg [.bool neg,.str l,.int .i64 ex]] [.one .bool] st K:=by
 have no:¬Cz neg l ex->K false st:=fun h=>by rw[decide_eq_false h]at hk;exact hk
 refine CE _ _ _ st K (Aa (fun g=>?_) fun g=>?_)
 ·subst g
  cases neg
  ·exact BF (by rw[Bool.eq_iff_iff];simp[Em]) hk
  ·exact BF (by rw[Bool.eq_iff_iff];simp[Em]) hk
 ·refine Aa (fun g3=>MW hl (Aa (fun g2=>JB hl (Aa (fun g4=>Aa (fun g5=>?_) fun g5=>?_) fun g4=>?_)) fun g2=>?_)) fun g3=>?_
  ·exact BF (decide_eq_decide.2 (by rw[AK g];exact⟨fun h=>⟨g2,by omega,by omega,g5,h⟩,fun h=>h.2.2.2.2⟩)) hk
  ·exact no fun h=>g5 ((AK g).1 h).2.2.2.1
  ·exact no fun h=>g4 (by have:=((AK g).1 h).2.2.1;omega)
  ·exact no fun h=>g2 ((AK g).1 h).1
  ·exact no fun h=>g3 (by have:=((AK g).1 h).2.1;omega)
theorem J3 {k d n z:Int} {st:St} {K:Bool->St->Prop} (hk:K (decide (Bx k d n z)) st):CallT PR Dd [.agg [.int .i64 k,.int .i64 d,.int .i64 n,.int .i64 z]] [.one .bool] st K:=by
 refine H8 _ _ _ _ st K ?_
 repeat' first
  | exact BF (Eq.symm (decide_eq_false (by unfold Bx;omega))) hk
  | exact BF (Eq.symm (decide_eq_true (by unfold Bx;omega))) hk
  | exact BF (decide_eq_decide.2 (by unfold Bx;omega)) hk
  | refine Aa (fun _=>?_) fun _=>?_
theorem Pe {k:Int} {st:St} {K:Bool->St->Prop} (hk:K (decide (k=1∨k=3∨k=4)) st):CallT PR BB [.int .i64 k] [.one .bool] st K:=by
 refine EU _ st K ?_
 repeat' first
  | exact BF (Eq.symm (decide_eq_true (by omega))) hk
  | exact BF (decide_eq_decide.2 (by omega)) hk
  | refine Aa (fun _=>?_) fun _=>?_
theorem Mo {k:Int} {st:St} {K:Bool->St->Prop} (hk:K (decide (k=2∨k=3∨k=4)) st):CallT PR AT [.int .i64 k] [.one .bool] st K:=by
 refine Ef _ st K ?_
 repeat' first
  | exact BF (Eq.symm (decide_eq_true (by omega))) hk
  | exact BF (decide_eq_decide.2 (by omega)) hk
  | refine Aa (fun _=>?_) fun _=>?_
theorem IB {k d n z:Int} {st:St} {K:Bool->St->Prop} (hk:K (decide (Bx k d n z)) st):CallT PR Ba [.agg [.int .i64 k,.int .i64 d,.int .i64 n,.int .i64 z]] [.one .bool] st K:=by
 refine EW _ _ _ _ st K ?_
 repeat' first
  | exact BF (Eq.symm (decide_eq_false (by unfold Bx;omega))) hk
  | exact BF (Eq.symm (decide_eq_true (by unfold Bx;omega))) hk
  | exact BF (decide_eq_decide.2 (by unfold Bx;omega)) hk
  | refine Aa (fun _=>?_) fun _=>?_
  | refine Pe ?_
  | refine Mo ?_
theorem oac {c p r:Bool} {K:Bool->Prop} {R1 R2:Prop} (h1:K r->R1) (h2:K r->R2) (hk:K (!(c&&p)&&r)):BIf c (BIf p (K false) R1) R2:=by
 cases c<;>cases p<;>simp only[Bool.true_and,Bool.false_and,Bool.not_true,Bool.not_false]at hk<;>first | exact h1 hk | exact h2 hk | exact hk
theorem oaf {c r:Bool} {K:Bool->Prop} {R:Prop} (h:K r->R) (hk:K (!c&&r)):BIf c (K false) R:=by
 cases c<;>simp only[Bool.true_and,Bool.false_and,Bool.not_true,Bool.not_false]at hk<;>first | exact h hk | exact hk
theorem oab {c p r:Bool} {K:Bool->Prop} {R1 R2:Prop} (h1:K r->R1) (h2:K r->R2) (hk:K ((c || p)&&r)):BIf c R1 (BIf p R2 (K false)):=by
 cases c<;>cases p<;>simp only[Bool.true_and,Bool.false_and,Bool.or_true,Bool.or_false,Bool.true_or,Bool.false_or]at hk<;>first | exact h1 hk | exact h2 hk | exact hk
theorem oan {c p r s:Bool} {K:Bool->Prop} {R1 R2:Prop} (hs:s=true) (h1:K r->R1) (h2:K r->R2) (hk:K ((c || p)&&r)):BIf c R1 (need s (BIf p R2 (K false))):=by
 subst hs;exact oab h1 h2 hk
theorem oae {c p s:Bool} {K:Bool->Prop} (hs:s=true) (hk:K (c || p)):BIf c (K true) (need s (K p)):=by
 subst hs;cases c<;>exact hk
def owB (s:Sc) (l:List Vl) (f:List Fd):Bool:=
 !decide (s.kind<0)&&(!decide (7<s.kind)&&(!(decide (s.kind≠1)&&s.b)&&(!(decide (s.kind≠2)&& !((s.neg==false)&&(decide (s.dg=[])&&(decide (s.ex=0)&&true))))&&(!(decide (s.kind≠3)&& !(decide (s.tk=0)&&(decide (s.td=0)&&(decide (s.tn=0)&&(decide (s.tz=0)&&true)))))&&
  ((decide (s.kind=4) || decide (s.text=[]))&&((decide (s.kind=5) || decide ((s.bytes.length:Int)=0))&&((decide (s.kind=6) || decide ((l.length:Int)=0))&&(decide (s.kind=7) || decide ((f.length:Int)=0)))))))))
theorem NO {α:Type} {l:List α}:(l.length:Int)=0↔l=[]:=by
 rw[<-List.length_eq_zero_iff];omega
theorem OE {s:Sc} {l:List Vl} {f:List Fd}:owB s l f=true↔F8 s l f:=by
 unfold owB
 simp only[Bool.and_eq_true,Bool.not_eq_true',Bool.or_eq_true,Bool.and_eq_false_imp,decide_eq_true_eq,Bool.not_eq_false',beq_iff_eq,decide_eq_false_iff_not,NO,ne_eq,and_true,Int.not_lt]
 constructor
 ·rintro⟨h0,h7,a,b,c,d,e,f,g⟩
  exact⟨h0,h7,a,b,c,fun h=>d.resolve_left h,fun h=>e.resolve_left h,fun h=>f.resolve_left h,fun h=>g.resolve_left h⟩
 ·rintro⟨h0,h7,a,b,c,d,e,f,g⟩
  exact⟨h0,h7,a,b,c,Decidable.or_iff_not_imp_left.2 d,Decidable.or_iff_not_imp_left.2 e,Decidable.or_iff_not_imp_left.2 f,Decidable.or_iff_not_imp_left.2 g⟩
theorem owB_eq {s:Sc} {l:List Vl} {f:List Fd}:owB s l f=decide (F8 s l f):=by
 rw[Bool.eq_iff_iff,decide_eq_true_eq];exact OE
theorem OD {s:Sc} {l:List Vl} {f:List Fd} {ub ul uf:TV} {st:St} {K:Bool->St->Prop} (h1:isSl ub=true) (h2:isSl ul=true) (h3:isSl uf=true) (l1:lenS ub=s.bytes.length) (l2:lenS ul=l.length) (l3:lenS uf=f.length) (hk:K (decide (F8 s l f)) st):
  CallT PR B6 [.agg (AR s ub ul uf)] [.one .bool] st K:=by
 rw[<-owB_eq]at hk
 unfold owB at hk
 refine FR _ _ _ _ _ _ _ _ _ _ _ _ _ st K ?_
 rw[l1,l2,l3]
 revert hk
 repeat' first
  | (refine fun hk=>oae (K:=fun b=>K b st) h3 hk)
  | (refine fun hk=>oan (K:=fun b=>K b st) h1 ?_ ?_ hk)
  | (refine fun hk=>oan (K:=fun b=>K b st) h2 ?_ ?_ hk)
  | (refine fun hk=>oab (K:=fun b=>K b st) ?_ ?_ hk)
  | (refine fun hk=>oac (K:=fun b=>K b st) ?_ ?_ hk)
  | (refine fun hk=>oaf (K:=fun b=>K b st) ?_ hk)
theorem Gn (seen:List B8) (d:Fd) (r:List Fd):EM seen (d::r)=if U8 d.key then(if 1024<d.key.length then 10 else if d.key∈seen then 8 else EM (d.key::seen) r)else 5:=rfl
theorem HU:∀(f:List Fd) (s s':List B8),(∀x,x∈s↔x∈s')->EM s f=EM s' f
 | [],s,s',_=>rfl
 | d::r,s,s',h=>by
  rw[Gn,Gn,HU r (d.key::s) (d.key::s') (fun x=>by simp[h x])]
  by_cases hd:d.key∈s
  ·rw[if_pos hd,if_pos ((h _).1 hd)]
  ·rw[if_neg hd,if_neg fun g=>hd ((h _).2 g)]
theorem Ln {α:Type} {l:List α} {k:Nat} {x:α} (h:l[k]? =some x):l.drop k=x::l.drop (k+1):=by
 obtain⟨q1,q2⟩:=List.getElem?_eq_some_iff.1 h
 rw[List.drop_eq_getElem_cons q1,q2]
theorem key_len {f:List Fd} {d:Fd} (h:d∈f):d.key.length<=DR f:=by
 have:=O3 h
 cases d;unfold Fd.sz at this;simp only[Fd.key];omega
theorem Nn {st0 st:St} {uf:TV} {xf:List TV} {f:List Fd} (hke:BJ st0 st) (h4:SlR st0 14 uf f.length xf) (h5:FsR st0 f xf) (hN:DR f<=2000000) {K:Int->St->Prop} (hk:∀st',Ae st st'->K (EM [] f:Nat) st'):
  CallT PR AE [uf] [.one (.int .i64)] st K:=by
 have hfl:=G0 f
 refine Fe _ st K ⟨fun i u st'=>uf=u/\∃k:Nat,i=k/\k<=f.length/\Ae st st'/\EM [] f=EM ((f.take k).map Fd.key) (f.drop k),fun i _ _=>(f.length-i).toNat,⟨rfl,0,rfl,Nat.zero_le _,Ae.refl _,rfl⟩,?_⟩
 rintro _ _ st1 ⟨rfl,k,rfl,hkf,e1,hE⟩
 refine AH h4.isSl (Aa (fun g=>?_) fun g=>?_)
 ·rw[h4.lenS]at g
  have gd:f[k]? =some f[k]:=List.getElem?_eq_getElem (by omega)
  generalize f[k]=d at gd
  have hkl:=key_len (IK gd)
  rw[Ln gd,Gn]at hE
  refine M4 (hke.trans e1.keeps) h4 h5 rfl gd (FD (by omega) fun st2 e2=>?_)
  have e12:=e1.trans e2
  by_cases g1:U8 d.key
  case neg=>
   rw[if_neg g1]at hE
   refine Ap (fun _=>?_) fun h=>absurd (by unfold U8;simpa using h) g1
   have:=hk st2 e12
   rw[hE]at this;exact this
  rw[if_pos g1]at hE
  refine Ap (fun h=>absurd g1 (by unfold U8;simpa using h)) fun _=>M4 (hke.trans e12.keeps) h4 h5 rfl gd ?_
  by_cases g2:1024<d.key.length
  ·rw[if_pos g2]at hE
   refine Aa (fun _=>?_) fun h=>absurd (by omega) h
   have:=hk st2 e12
   rw[hE]at this;exact this
  rw[if_neg g2]at hE
  refine Aa (fun h=>absurd (by omega) g2) fun _=>?_
  refine⟨fun i u j st'=>uf=u/\j=(k:Int)/\st2=st'/\∃q:Nat,i=q/\q<=k/\∀(j:Nat) (x:Fd),j<q->f[j]? =some x->x.key≠d.key,fun i _ _ _=>(k-i).toNat,⟨rfl,rfl,rfl,0,rfl,Nat.zero_le _,fun j x hj=>absurd hj (Nat.not_lt_zero _)⟩,?_⟩
  rintro _ _ _ _ ⟨rfl,rfl,rfl,q,rfl,hq,hne⟩
  refine Aa (fun g3=>?_) fun g3=>?_
  ·have gx:f[q]? =some f[q]:=List.getElem?_eq_getElem (by omega)
   generalize f[q]=x at gx
   refine M4 (hke.trans e12.keeps) h4 h5 rfl gx (M4 (hke.trans e12.keeps) h4 h5 rfl gd (Aa (fun g4=>?_) fun g4=>?_))
   ·rw[if_pos]at hE
    ·have:=hk st2 e12
     rw[hE]at this;exact this
    ·rw[<-g4]
     refine List.mem_map_of_mem ?_
     have:(f.take k)[q]? =some x:=by rw[List.getElem?_take,if_pos (by omega)];exact gx
     exact IK this
   ·rw[Ac _ (by omega) (by omega)]
    refine⟨⟨rfl,rfl,rfl,q+1,by omega,by omega,fun j y hj hy=>?_⟩,by dsimp only;omega⟩
    by_cases hjq:j=q
    ·subst hjq
     rw[gx]at hy
     rw[<-Option.some.inj hy];exact g4
    ·exact hne j y (by omega) hy
  ·have hqk:q=k:=by omega
   subst hqk
   rw[if_neg]at hE
   ·rw[Ac _ (by omega) (by omega)]
    refine⟨⟨rfl,q+1,by omega,by omega,e12,?_⟩,by dsimp only;omega⟩
    rw[hE]
    refine HU _ _ _ fun x=>?_
    rw[Jx gd]
    simp[or_comm]
   ·intro hm
    obtain⟨x,hx,he⟩:=List.mem_map.1 hm
    obtain⟨j,hj⟩:=List.getElem?_of_mem hx
    rw[List.getElem?_take]at hj
    split at hj
    ·rename_i hlt
     exact hne j x hlt hj he
    ·cases hj
 ·rw[h4.lenS]at g
  have:k=f.length:=by omega
  subst this
  rw[List.drop_length]at hE
  have:=hk st1 e1
  rw[hE]at this;exact this
theorem chkV_eq {d n:Nat} {s:Sc} {l:List Vl} {f:List Fd} (h1:¬48<d) (h2:¬65536<=n) (h3:CB s l f=0):D8 d n (.mk s l f)=Dj (Cf (d+1) (n+1) l) fun m=>Dm (d+1) m f:=by
 unfold D8;rw[if_neg h1,if_neg h2,if_neg (fun h=>h h3)]
theorem Pk {d n:Nat} {s:Sc} {l:List Vl} {f:List Fd} (h1:¬48<d) (h2:¬65536<=n) (h3:CB s l f≠0):D8 d n (.mk s l f)=(n,CB s l f):=by
 unfold D8;rw[if_neg h1,if_neg h2,if_pos h3]
theorem Jd (d n:Nat) (v:Vl) (r:List Vl):Cf d n (v::r)=Dj (D8 d n v) fun m=>Cf d m r:=by rw[Cf]
theorem Mp (d n:Nat) (k:B8) (v:Vl) (r:List Fd):Dm d n (.mk k v::r)=Dj (D8 d n v) fun m=>Dm d m r:=by rw[Dm,Pl]
section
theorem one_ok {s:Sc} {l:List Vl} {f:List Fd} (hN:(Vl.mk s l f).sz<=2000000) {st0 st:St} {ub ul uf:TV} {K:Int->St->Prop} (h:VlR st0 (.mk s l f) (AR s ub ul uf)) (hke:BJ st0 st) (hk:∀st',Ae st st'->K (CB s l f:Nat) st'):
  CallT PR Bl [.agg (AR s ub ul uf)] [.one (.int .i64)] st K:=by
 have hsz:(Vl.mk s l f).sz=1+s.bytes.length+s.text.length+s.dg.length+E8 l+DR f:=by unfold Vl.sz;rfl
 unfold VlR at h
 obtain⟨ub',ul',uf',xl,xf,hcs,h1,h2,h3,h4,h5⟩:=h
 simp only[AR,List.cons.injEq,and_true,true_and]at hcs
 obtain⟨rfl,rfl,rfl⟩:=hcs
 refine Di _ _ _ _ _ _ _ _ _ _ _ _ _ st K (OD h1.isSl h2.isSl h4.isSl h1.lenS h2.lenS h4.lenS ?_)
 have kk:∀(c:Nat) (st':St),CB s l f=c->Ae st st'->K (c:Int) st':=fun c st' hc e=>by rw[<-hc];exact hk st' e
 by_cases ho:F8 s l f
 case neg=>exact Ap (fun _=>kk 6 st (by unfold CB;rw[if_neg ho]) (Ae.refl _)) fun h=>by rw[decide_eq_false ho]at h;cases h
 refine Ap (fun h=>by rw[decide_eq_true ho]at h;cases h) fun _=>rDec_ok (by omega) ?_
 by_cases hq:Cz s.neg s.dg s.ex
 case neg=>exact Ap (fun _=>kk 2 st (by unfold CB;rw[if_pos ho,if_neg hq]) (Ae.refl _)) fun h=>by rw[decide_eq_false hq]at h;cases h
 refine Ap (fun h=>by rw[decide_eq_true hq]at h;cases h) fun _=>?_
 have rest:(s.kind=3->Bx s.tk s.td s.tn s.tz)->CallT PR As [.str s.text] [.one (.bool)] st (fun (b4:Bool) (st4:St)=>BIf (!b4) (K 5 st4) (BIf (decide (65536<(s.text.length:Int))) (K 10 st4) (need (isSl ub) (BIf (decide (65536<(lenS ub:Int))) (K 10 st4) (
   CallT PR AE [uf] [.one (.int .i64)] st4 fun (n1:Int) (st5:St)=>K n1 st5))))):=by
  intro hq2
  refine FD (by omega) fun st1 e1=>?_
  by_cases hu:U8 s.text
  case neg=>exact Ap (fun _=>kk 5 st1 (by unfold CB;rw[if_pos ho,if_pos hq,if_pos hq2,if_neg hu]) e1) fun h=>absurd (by unfold U8;simpa using h) hu
  have h6:CB s l f=if 65536<s.text.length then 10 else if 65536<s.bytes.length then 10 else EM [] f:=by unfold CB;rw[if_pos ho,if_pos hq,if_pos hq2,if_pos hu]
  refine Ap (fun h=>absurd hu (by unfold U8;simpa using h)) fun _=>Aa (fun g5=>?_) fun g5=>AH h1.isSl (Aa (fun g6=>?_) fun g6=>?_)
  ·exact kk 10 st1 (by rw[h6,if_pos (by omega)]) e1
  ·rw[h1.lenS]at g6
   exact kk 10 st1 (by rw[h6,if_neg (by omega),if_pos (by omega)]) e1
  ·rw[h1.lenS]at g6
   exact Nn (hke.trans e1.keeps) h4 h5 (by omega) fun st2 e2=>kk _ st2 (by rw[h6,if_neg (by omega),if_neg (by omega)]) (e1.trans e2)
 refine Aa (fun g3=>IB ?_) fun g3=>rest fun h=>absurd h g3
 by_cases hq2:Bx s.tk s.td s.tn s.tz
 ·exact Ap (fun h=>by rw[decide_eq_true hq2]at h;cases h) fun _=>rest fun _=>hq2
 ·exact Ap (fun _=>kk 2 st (by unfold CB;rw[if_pos ho,if_pos hq,if_neg fun h=>hq2 (h g3)]) (Ae.refl _)) fun h=>by rw[decide_eq_false hq2]at h;cases h
def CG (s:Sc) (l:List Vl) (f:List Fd):List Vl:=if s.kind=7 then f.map Fd.val else l
theorem JU (d:Nat):∀(f:List Fd) (n:Nat),Dm d n f=Cf d n (f.map Fd.val)
 | [],n=>by simp[Dm,Cf]
 | .mk k v::r,n=>by
  rw[Mp,List.map_cons,Jd]
  have:(fun m=>Dm d m r)=fun m=>Cf d m (r.map Fd.val):=funext fun m=>JU d r m
  rw[this];rfl
theorem Of (x:Nat×Nat):Dj x (fun m=>(m,0))=x:=by
 unfold Dj;split
 ·rename_i h;exact Prod.ext rfl h.symm
 ·rfl
theorem N3 {d n:Nat} {s:Sc} {l:List Vl} {f:List Fd} (ho:F8 s l f):(Dj (Cf (d+1) (n+1) l) fun m=>Dm (d+1) m f)=Cf (d+1) (n+1) (CG s l f):=by
 unfold CG
 by_cases h7:s.kind=7
 ·rw[if_pos h7,ho.ls (by omega),Cf,Fi rfl,JU]
 ·rw[if_neg h7,ho.fs h7]
  simp only[Dm]
  exact Of _
mutual
theorem Ko:∀(v:Vl) (d n:Nat),n<=65536->(D8 d n v).2=0->(D8 d n v).1<=65536
 | .mk s l f,d,n,hn,h=>by
  unfold D8 at h⊢
  split at h
  ·cases h
  ·rename_i g1
   rw[if_neg g1]
   split at h
   ·cases h
   ·rename_i g2
    rw[if_neg g2]
    split at h
    ·rename_i h1;exact absurd h h1
    ·rename_i g3
     rw[if_neg g3]
     obtain⟨h2,h3⟩:=Gg h
     rw[Fi h2]
     exact Lw f _ _ (Lv l _ _ (by omega) h2) h3
theorem Lv:∀(l:List Vl) (d n:Nat),n<=65536->(Cf d n l).2=0->(Cf d n l).1<=65536
 | [],d,n,hn,_=>by unfold Cf;exact hn
 | v::r,d,n,hn,h=>by
  unfold Cf at h⊢
  obtain⟨h2,h3⟩:=Gg h
  rw[Fi h2]
  exact Lv r _ _ (Ko v _ _ hn h2) h3
theorem chkD_le:∀(x:Fd) (d n:Nat),n<=65536->(Pl d n x).2=0->(Pl d n x).1<=65536
 | .mk k v,d,n,hn,h=>by unfold Pl at h⊢;exact Ko v _ _ hn h
theorem Lw:∀(l:List Fd) (d n:Nat),n<=65536->(Dm d n l).2=0->(Dm d n l).1<=65536
 | [],d,n,hn,_=>by unfold Dm;exact hn
 | x::r,d,n,hn,h=>by
  unfold Dm at h⊢
  obtain⟨h2,h3⟩:=Gg h
  rw[Fi h2]
  exact Lw r _ _ (chkD_le x _ _ hn h2) h3
end
theorem VsR.snoc {st:St} {v:Vl} {cv:List TV}:∀{l:List Vl} {xs:List TV},VsR st l xs->VlR st v cv->VsR st (l++[v]) (xs++cv)
 | [],xs,h,hv=>by
  unfold VsR at h
  subst h
  show VsR st [v] _
  unfold VsR
  exact⟨cv,[],by simp,hv,by unfold VsR;rfl⟩
 | w::r,xs,h,hv=>by
  unfold VsR at h
  obtain⟨a,b,rfl,h1,h2⟩:=h
  show VsR st (w::(r++[v])) _
  unfold VsR
  exact⟨a,b++cv,by simp,h1,VsR.snoc h2 hv⟩
theorem kids_ok {s:Sc} {l:List Vl} {f:List Fd} (hN:(Vl.mk s l f).sz<=2000000) {st0 st:St} {ub ul uf:TV} {K:TV->St->Prop} (h:VlR st0 (.mk s l f) (AR s ub ul uf)) (hke:BJ st0 st)
  (hk:∀u xl st',Ae st st'->SlR st' 13 u (CG s l f).length xl->VsR st' (CG s l f) xl->K u st'):CallT PR BQ [.agg (AR s ub ul uf)] [.one .tv] st K:=by
 have hsz:(Vl.mk s l f).sz=1+s.bytes.length+s.text.length+s.dg.length+E8 l+DR f:=by unfold Vl.sz;rfl
 have hfl:=G0 f
 unfold VlR at h
 obtain⟨ub',ul',uf',xl,xf,hcs,h1,h2,h3,h4,h5⟩:=h
 simp only[AR,List.cons.injEq,and_true,true_and]at hcs
 obtain⟨rfl,rfl,rfl⟩:=hcs
 refine Fc _ _ _ _ _ _ _ _ _ _ _ _ _ st K (Aa (fun g=>?_) fun g=>?_)
 ·have e:CG s l f=l:=by unfold CG;rw[if_neg g]
  rw[e]at hk
  exact hk ul xl st (Ae.refl _) (h2.keep hke) (VsR.keep hke h3)
 ·have e:CG s l f=f.map Fd.val:=by unfold CG;rw[if_pos (by omega)]
  rw[e,List.length_map]at hk
  refine⟨fun o i kd bo ng dg ex tk td tn tz tx u1 u2 u3 st'=>uf=u3/\∃(k:Nat) (xs:List TV),i=k/\k<=f.length/\Ae st st'/\Own st.nt 13 st' o k xs/\VsR st ((f.take k).map Fd.val) xs,fun _ i _ _ _ _ _ _ _ _ _ _ _ _ _ _=>(f.length-i).toNat,
   ⟨rfl,0,[],rfl,Nat.zero_le _,Ae.refl _,Own.nil _ _ _,by simp only[List.take_zero,List.map_nil];unfold VsR;rfl⟩,?_⟩
  rintro o _ kd bo ng dg ex tk td tn tz tx u1 u2 _ st1 ⟨rfl,k,xs,rfl,hkf,e1,ho,hv⟩
  refine AH h4.isSl (Aa (fun g2=>?_) fun g2=>?_)
  ·rw[h4.lenS]at g2
   refine val14 (hke.trans e1.keeps) h4 h5 rfl (by omega) fun key s' l' f' ub1 ul1 uf1 gw hw on=>AH on ?_
   refine Jg e1 rfl ho (by omega) (fun h=>by cases h) fun v2 st2 e2 _ ho2=>?_
   rw[Ac _ (by omega) (by omega)]
   refine⟨⟨rfl,k+1,_,by omega,by omega,e2,ho2,?_⟩,by dsimp only;omega⟩
   rw[Jx gw,List.map_append]
   exact VsR.snoc hv (VlR.keep hke hw)
  ·rw[h4.lenS]at g2
   have hkk:k=f.length:=by omega
   subst hkk
   rw[List.take_length]at hv
   exact hk o xs st1 e1 (.of_rd ho.rd) (VsR.keep e1.keeps hv)
theorem kids_sz {s:Sc} {l:List Vl} {f:List Fd} {k:Nat} {w:Vl} (h:(CG s l f)[k]? =some w):w.sz+1<=(Vl.mk s l f).sz:=by
 have hsz:(Vl.mk s l f).sz=1+s.bytes.length+s.text.length+s.dg.length+E8 l+DR f:=by unfold Vl.sz;rfl
 unfold CG at h
 split at h
 ·rw[List.getElem?_map]at h
  obtain⟨d,hd,rfl⟩:=Option.map_eq_some_iff.1 h
  have:=IT hd
  cases d;unfold Fd.sz at this;simp only[Fd.val];omega
 ·have:=KE h;omega
theorem OS {s:Sc} {l:List Vl} {f:List Fd}:(CG s l f).length<=(Vl.mk s l f).sz:=by
 have hsz:(Vl.mk s l f).sz=1+s.bytes.length+s.text.length+s.dg.length+E8 l+DR f:=by unfold Vl.sz;rfl
 have:=KD l
 have:=G0 f
 unfold CG;split
 ·rw[List.length_map];omega
 ·omega
theorem look_ok:∀(N:Nat) (v:Vl),v.sz<=N->N<=2000000->∀{st0 st:St} {cs:List TV} {d n:Nat} {D:Int} {K:Int->Int->St->Prop},VlR st0 v cs->BJ st0 st->n<=65536->D=(d:Int)->d<=100->
  (∀st',Ae st st'->K ((D8 d n v).1:Nat) ((D8 d n v).2:Nat) st')->CallT PR Bh [.agg cs,.int .i64 D,.int .i64 (n:Nat)] [.one (.int .i64),.one (.int .i64)] st K:=by
 intro N
 induction N with
 | zero=>intro v h;have:=v.sz_pos;omega
 | succ N ih=>
 intro v hN hN2 st0 st cs d n D K h hke hn hD hd hk
 subst hD
 cases v with
 | mk s l f=>
 have hcs:∃ub ul uf,cs=AR s ub ul uf:=by
  have h0:=h
  unfold VlR at h0
  obtain⟨ub,ul,uf,xl,xf,rfl,_⟩:=h0
  exact⟨ub,ul,uf,rfl⟩
 obtain⟨ub,ul,uf,rfl⟩:=hcs
 have kk:∀(x:Nat×Nat) (st':St),D8 d n (.mk s l f)=x->Ae st st'->K (x.1:Nat) (x.2:Nat) st':=fun x st' hx e=>by rw[<-hx];exact hk st' e
 refine CU _ _ _ _ _ _ _ _ _ _ _ _ _ (d:Int) (n:Int) st K (Aa (fun g=>?_) fun g=>Aa (fun g2=>?_) fun g2=>?_)
 ·exact kk (n,9) st (by unfold D8;rw[if_pos (by omega)]) (Ae.refl _)
 ·exact kk (n,10) st (by unfold D8;rw[if_neg (by omega),if_pos (by omega)]) (Ae.refl _)
 have hg1:¬48<d:=by omega
 have hg2:¬65536<=n:=by omega
 refine one_ok (l:=l) (f:=f) (by omega) h hke fun st1 e1=>Aa (fun g3=>?_) fun g3=>?_
 ·exact kk (n,CB s l f) st1 (Pk hg1 hg2 (by omega)) e1
 have hone:CB s l f=0:=by omega
 have ho:F8 s l f:=(Hw.1 hone).own
 have hC:D8 d n (.mk s l f)=Cf (d+1) (n+1) (CG s l f):=by rw[chkV_eq hg1 hg2 hone,N3 ho]
 refine kids_ok (l:=l) (f:=f) (by omega) h (hke.trans e1.keeps) fun u xl st2 e2 hu hv=>?_
 have e12:=e1.trans e2
 have hlen:=OS (s:=s) (l:=l) (f:=f)
 rw[Ac ((n:Int)+1) (by omega) (by omega)]
 refine⟨fun c i dp u' st'=>u=u'/\dp=(d:Int)/\∃k m:Nat,i=k/\k<=(CG s l f).length/\c=(m:Int)/\m<=65536/\Ae st2 st'/\Cf (d+1) (n+1) (CG s l f)=Cf (d+1) m ((CG s l f).drop k),fun _ i _ _ _=>((CG s l f).length-i).toNat,
  ⟨rfl,rfl,0,n+1,rfl,Nat.zero_le _,by omega,by omega,Ae.refl _,rfl⟩,?_⟩
 rintro _ _ _ _ st3 ⟨rfl,rfl,k,m,rfl,hkl,rfl,hm,e3,hE⟩
 refine AH hu.isSl (Aa (fun g4=>?_) fun g4=>?_)
 ·rw[hu.lenS]at g4
  refine el13 e3.keeps hu hv rfl (by omega) fun s' l' f' ub1 ul1 uf1 gw hw on=>?_
  have hwsz:=kids_sz gw
  rw[Ln gw,Jd]at hE
  rw[Ac _ (by omega) (by omega)]
  refine ih _ (by omega) (by omega) (d:=d+1) hw e3.keeps hm (by omega) (by omega) fun st4 e4=>?_
  refine Aa (fun g5=>?_) fun g5=>?_
  ·have hne:(D8 (d+1) m (.mk s' l' f')).2≠0:=by omega
   rw[Nt hne]at hE
   exact kk _ st4 (by rw[hC,hE]) (e12.trans (e3.trans e4))
  ·have hz:(D8 (d+1) m (.mk s' l' f')).2=0:=by omega
   rw[Fi hz]at hE
   rw[Ac _ (by omega) (by omega)]
   exact⟨⟨rfl,rfl,k+1,_,by omega,by omega,rfl,Ko _ _ _ hm hz,e3.trans e4,hE⟩,by dsimp only;omega⟩
 ·rw[hu.lenS]at g4
  have hkk:k=(CG s l f).length:=by omega
  subst hkk
  rw[List.drop_length,Cf]at hE
  exact kk (m,0) st3 (by rw[hC,hE]) (e12.trans e3)
theorem NG {v:Vl} (hN:v.sz<=2000000) {st0 st:St} {cs:List TV} {K:Int->St->Prop} (h:VlR st0 v cs) (hke:BJ st0 st) (hk:∀st',Ae st st'->K (Mq v:Nat) st'):
  CallT PR A9 [.agg cs] [.one (.int .i64)] st K:=by
 have h0:=h
 cases v with
 | mk s l f=>
 unfold VlR at h0
 obtain⟨ub,ul,uf,xl,xf,rfl,_⟩:=h0
 exact CD _ _ _ _ _ _ _ _ _ _ _ _ _ st K (look_ok 2000000 _ hN (by omega) (d:=1) (n:=0) h hke (by omega) rfl (by omega) hk)
end
theorem VlR.cells {st:St} {s:Sc} {l:List Vl} {f:List Fd} {cs:List TV} (h:VlR st (.mk s l f) cs):∃ub ul uf xl xf,cs=AR s ub ul uf/\SlR st 1 ub s.bytes.length (Ai s.bytes)/\SlR st 13 ul l.length xl/\VsR st l xl/\SlR st 14 uf f.length xf/\FsR st f xf:=by
 unfold VlR at h
 obtain⟨ub,ul,uf,xl,xf,rfl,h⟩:=h
 exact⟨ub,ul,uf,xl,xf,rfl,h⟩
theorem szs (s:Sc) (l:List Vl) (f:List Fd):(Vl.mk s l f).sz=1+s.bytes.length+s.text.length+s.dg.length+E8 l+DR f:=by unfold Vl.sz;rfl
end Go.TVF
section
namespace Go.TVF
open Go.IntKind(i64 u8)
open Go Go.Proofs Go.ChangeShapes
section
variable {H:Type} {enc:TypeId×Value->H} {P:Program} {w:World} {base:Nat} {held:Bool}
def Op (enc:TypeId×Value->H) (P:Program) (w:World) (base:Nat) (held:Bool) (n c:Nat) (S:List TV->Prop) (e:TypeId):Prop:=
 P.cellsOf e=c/\∀vs x,DataW.trod enc P w base (fun _=>true) held n e vs=some x->∃tv,Aq (Ghost.start w) w tv vs/\tv.length=c/\S tv
end
end Go.TVF
end
section
namespace Go.TVF
open Go.IntKind(i64 u8)
open Go Go.Proofs Go.ChangeShapes
structure Blk {H:Type} (bk:DataW H->Nat):Prop where
 one:∀d,1<=bk d
 str:∀b,b.length+1<=bk (.lit (.string b))
 sl:∀e s,(e.map bk).sum+1<=bk (.slice e s)
 agg:∀p,(p.map bk).sum+1<=bk (.agg p)
section
variable {H:Type} {enc:TypeId×Value->H} {P:Program} {w:World} {base:Nat} {held:Bool} {bk:DataW H->Nat}
def OpQ (bk:DataW H->Nat) (enc:TypeId×Value->H) (P:Program) (w:World) (base:Nat) (held:Bool) (n c:Nat) (S:Nat->List TV->Prop) (e:TypeId):Prop:=
 P.cellsOf e=c/\∀vs x,DataW.trod enc P w base (fun _=>true) held n e vs=some x->∃tv,Aq (Ghost.start w) w tv vs/\tv.length=c/\S (bk x.1) tv
def cellQ (c:CTy) (k:Nat) (tv:List TV):Prop:=IV [c] tv/\1<=k
def strQ (k:Nat) (tv:List TV):Prop:=∃l:B8,tv=[.str l]/\l.length<=maxLen/\l.length+1<=k
theorem opq_cell {n:Nat} {c:CTy} {e:TypeId} (hb:Blk bk) (h:Py P c e) (hc:P.cellsOf e=1):OpQ bk enc P w base held n 1 (cellQ c) e:=⟨hc,fun vs x hd=>by
 obtain⟨v,u,rfl,hr,hf⟩:=NL (Ghost.start w) h hd
 exact⟨[v],.cons hr (.nil _ _),rfl,hf,hb.one _⟩⟩
theorem opq_str {n:Nat} {e:TypeId} (hb:Blk bk) (h:P.underlying e=some .string) (hc:P.cellsOf e=1):OpQ bk enc P w base held n 1 strQ e:=⟨hc,fun vs x hd=>by
 obtain⟨s,rfl,rfl,hs⟩:=DataW.trod_string h hd
 exact⟨[_],.cons (Iz (Ghost.start w) w s) (.nil _ _),rfl,_,rfl,by rw[Array.length_toList];exact hs,hb.str _⟩⟩
def SlQ (c:Nat) (S:Nat->List TV->Prop) (k:Nat) (v:TV):Prop:=
 v= .nilSlice∨∃ps:List (List TV×Nat),v= .list c .non ps.length (ps.map (·.1)).flatten/\(∀p,p∈ps->p.1.length=c/\S p.2 p.1)/\(ps.map (·.2)).sum+1<=k
theorem opq_slice {n c:Nat} {S:Nat->List TV->Prop} {t e:TypeId} (hb:Blk bk) (ht:P.underlying t=some (.slice e)) (ht1:P.cellsOf t=1) (hc1:1<=c) (hE:∀m,m<n->OpQ bk enc P w base held m c S e):
  OpQ bk enc P w base held n 1 (fun k tv=>∃v,tv=[v]/\SlQ c S k v) t:=by
 refine⟨ht1,fun vs x h=>?_⟩
 rcases DataW.trod_slice ht h with⟨rfl,_⟩ | ⟨a,len,cap,elems,rest,m,rfl,rfl,rfl,hbk,hl,hm,hel,hi,hsp,_⟩
 ·exact⟨[.nilSlice],.cons .nilSlice (.nil _ _),rfl,_,rfl,.inl rfl⟩
 ·obtain⟨hcE,hE⟩:=hE m (by omega)
  rw[hcE]at hi hsp
  have hbs:=hb.sl (elems.map (·.1)) (rest.map (·.1))
  rw[List.map_map]at hbs
  by_cases hcap:cap=0
  ·subst hcap
   obtain rfl:len=0:=by omega
   exact⟨[.list c .non 0 []],.cons (.listE _ _ _ (fun id h=>by cases h)) (.nil _ _),rfl,_,rfl,.inr ⟨[],rfl,(fun ck h=>by cases h),by simp only[List.map_nil,List.sum_nil];omega⟩⟩
  ·obtain⟨b,o,spot⟩:=a
   have hspot:spot=none:=by
    have key:∀(i:Nat) (l:List (DataW H×List MemPlace)) (k:Nat),k<l.length->i=0->(w.cells? base ((⟨b,o,spot⟩:Addr).add (i*c)) c).bind (DataW.trod enc P w base (fun _=>true) held m e)=l[k]?->spot=none:=by
     intro i l k hk hi0 h
     subst hi0
     rw[List.getElem?_eq_getElem hk]at h
     obtain⟨vs,h1,_⟩:=Option.bind_eq_some_iff.1 h
     obtain⟨_,hvl,hvc⟩:=World.cells?_some h1
     have:=World.cell?_spot ((hvc 0 (by omega)).trans (List.getElem?_eq_getElem (show 0<vs.length by omega)))
     rw[Nat.zero_mul]at this
     exact this
    by_cases h0:0<len
    ·exact key 0 elems 0 (by omega) rfl (hi 0 h0)
    ·obtain⟨hr,hs⟩:=hsp rfl
     exact key _ rest 0 (by omega) (by omega) (hs 0 (by omega))
   subst hspot
   have each:∀i (hil:i<len),∃tv vs,Aq (Ghost.start w) w tv vs/\tv.length=c/\S (bk (elems[i]'(by omega)).1) tv/\vs.length=c/\∀j,j<c->w.cell? ⟨b,o+(i*c+j),none⟩=some (vs.getD j Go.undef):=by
    intro i hil
    have h:=hi i hil
    rw[List.getElem?_eq_getElem (by omega)]at h
    obtain⟨vs,h1,h2⟩:=Option.bind_eq_some_iff.1 h
    obtain⟨tv,hr,htl,hf⟩:=hE vs _ h2
    obtain⟨_,hvl,hvc⟩:=World.cells?_some h1
    refine⟨tv,vs,hr,htl,hf,hvl,fun j hj=>?_⟩
    have:=hvc j (by omega)
    rw[Deep.add_add,ME]at this
    rw[this]
    simp[List.getD,show j<vs.length by omega]
   have build:∀k,k<=len->∃ps:List (List TV×Nat),ps.length=k/\(∀p,p∈ps->p.1.length=c/\S p.2 p.1)/\ps.map (·.2)=(elems.take k).map (fun y=>bk y.1)/\(ps.map (·.1)).flatten.length=k*c/\∀i (h:i<(ps.map (·.1)).flatten.length),∃u,w.cell? ⟨b,o+i,none⟩=some u/\Rel (Ghost.start w) w (ps.map (·.1)).flatten[i] u:=by
    intro k
    induction k with
    | zero=>intro _;exact⟨[],rfl,(fun ck h=>by cases h),by simp,by simp,fun i h=>absurd h (Nat.not_lt_zero _)⟩
    | succ k ih=>
     intro hk
     obtain⟨ps,h0,h1,hm1,h2,h3⟩:=ih (by omega)
     obtain⟨tv,vs,hr,htl,hf,hvl,hvc⟩:=each k (by omega)
     have hfl:((ps++[(tv,bk (elems[k]'(by omega)).1)]).map (·.1)).flatten=(ps.map (·.1)).flatten++tv:=by simp
     refine⟨ps++[(tv,bk (elems[k]'(by omega)).1)],by simp[h0],fun p h=>?_,?_,by rw[hfl,List.length_append,h2,htl,Nat.succ_mul],fun i h=>?_⟩
     ·rcases List.mem_append.1 h with h | h
      ·exact h1 p h
      ·rw[List.mem_singleton.1 h];exact⟨htl,hf⟩
     ·rw[List.map_append,hm1,List.take_succ_eq_append_getElem (by omega),List.map_append];rfl
     ·simp only[hfl]at h⊢
      by_cases hix:i<(ps.map (·.1)).flatten.length
      ·rw[List.getElem_append_left hix];exact h3 i hix
      ·rw[List.getElem_append_right (by omega)]
       rw[List.length_append]at h
       have hj:i-(ps.map (·.1)).flatten.length<tv.length:=by omega
       refine⟨vs.getD (i-(ps.map (·.1)).flatten.length) Go.undef,?_,hr.2 _ hj⟩
       have:=hvc (i-(ps.map (·.1)).flatten.length) (by omega)
       rw[show o+i=o+(k*c+(i-(ps.map (·.1)).flatten.length)) by rw[<-h2];omega]
       exact this
   obtain⟨ps,h0,h1,hm1,h2,h3⟩:=build len (Nat.le_refl _)
   refine⟨[.list c .non ps.length (ps.map (·.1)).flatten],.cons ?_ (.nil _ _),rfl,_,rfl,.inr ⟨ps,rfl,h1,?_⟩⟩
   ·have hu:∀i,∃u,(h:i<(ps.map (·.1)).flatten.length)->w.cell? ⟨b,o+i,none⟩=some u/\Rel (Ghost.start w) w (ps.map (·.1)).flatten[i] u:=fun i=>by
     by_cases h:i<(ps.map (·.1)).flatten.length
     ·obtain⟨u,hu⟩:=h3 i h
      exact⟨u,fun _=>hu⟩
     ·exact⟨Go.undef,fun h'=>absurd h' h⟩
    rw[h0]
    refine .list _ _ _ _ b o cap (fun i=>Classical.choose (hu i)) h2 hl (fun i hi=>?_) (fun i hi=>(Classical.choose_spec (hu i) hi).2) trivial
    have:=(Classical.choose_spec (hu i) hi).1
    exact⟨⟨rfl,_,this⟩,this⟩
   ·rw[hm1,List.take_of_length_le (by omega)]
    exact hbs
def Kw (bk:DataW H->Nat) (enc:TypeId×Value->H) (P:Program) (w:World) (base:Nat) (held:Bool) (n:Nat):List (Nat×(Nat->List TV->Prop))->List Field->Nat->Prop
 | [],[],_=>True
 | S::Ss,f::fs,o=>f.offset=o/\OpQ bk enc P w base held n S.1 S.2 f.type/\Kw bk enc P w base held n Ss fs (o+S.1)
 | _,_,_=>False
def Np:List (Nat×(Nat->List TV->Prop))->Nat->List TV->Prop
 | [],_,xs=>xs=[]
 | S::Ss,k,xs=>∃a b k1 k2,xs=a++b/\a.length=S.1/\S.2 k1 a/\Np Ss k2 b/\k1+k2<=k
def KI:List (Nat×(Nat->List TV->Prop))->Nat
 | []=>0
 | S::Ss=>S.1+KI Ss
theorem IH {n:Nat} {vs:List Value}:∀(Ss:List (Nat×(Nat->List TV->Prop))) (fs:List Field) (o:Nat) (xs:List (DataW H×List MemPlace)),Kw bk enc P w base held n Ss fs o->xs.length=fs.length->vs.length=o+KI Ss->
  (∀(i:Nat) (f:Field),fs[i]? =some f->DataW.trod enc P w base (fun _=>true) held n f.type ((vs.drop f.offset).take (P.cellsOf f.type))=xs[i]?)->∃tv,Aq (Ghost.start w) w tv (vs.drop o)/\tv.length=KI Ss/\Np Ss (xs.map (fun y=>bk y.1)).sum tv
 | [],[],o,xs,_,_,hl,_=>⟨[],by rw[List.drop_of_length_le (by simp[KI]at hl;omega)];exact .nil _ _,rfl,rfl⟩
 | S::Ss,f::fs,o,[],_,hx,_,_=>by simp at hx
 | S::Ss,f::fs,o,x::xs,ht,hx,hl,hd=>by
  obtain⟨h1,⟨h2,h3⟩,h4⟩:=ht
  have hd0:=hd 0 f rfl
  rw[h1,h2]at hd0
  obtain⟨tv0,hr,htl,hf⟩:=h3 _ _ hd0
  obtain⟨tv,hr',hl',hf'⟩:=IH (n:=n) (vs:=vs) Ss fs (o+S.1) xs h4 (by simpa using hx) (by simp only[KI]at hl;omega) (fun i f' hi=>by simpa using hd (i+1) f' (by simpa using hi))
  refine⟨tv0++tv,?_,by simp[hl',htl,KI],tv0,tv,_,_,rfl,htl,hf,hf',by simp only[List.map_cons,List.sum_cons];exact Nat.le_refl _⟩
  have hlt:o+S.1<=vs.length:=by simp only[KI]at hl;omega
  have e:vs.drop o=(vs.drop o).take S.1++vs.drop (o+S.1):=by rw[<-List.drop_drop,List.take_append_drop]
  rw[e]
  exact Aq.append hr hr'
 | [],f::fs,o,xs,ht,_,_,_=>ht.elim
 | S::Ss,[],o,xs,ht,_,_,_=>ht.elim
theorem opq_struct {n c:Nat} {Ss:List (Nat×(Nat->List TV->Prop))} {e:TypeId} {fs:Array Field} (hb:Blk bk) (ht:P.underlying e=some (.struct fs)) (hc:P.cellsOf e=c) (hl:KI Ss=c) (hf:∀m,m<n->Kw bk enc P w base held m Ss fs.toList 0):
  OpQ bk enc P w base held n c (fun k tv=>∃k',k'+1<=k/\Np Ss k' tv) e:=⟨hc,fun vs x hd=>by
 obtain⟨xs,m,rfl,rfl,hvl,hx,hi⟩:=DataW.trod_struct ht hd
 obtain⟨tv,h1,h2,h3⟩:=IH (bk:=bk) (enc:=enc) (P:=P) (w:=w) (base:=base) (held:=held) (n:=m) (vs:=vs) Ss fs.toList 0 xs (hf m (by omega)) (by simpa using hx) (by omega) (fun i f h=>hi i f (by simpa using h))
 refine⟨tv,by simpa using h1,by omega,_,?_,h3⟩
 have:=hb.agg (xs.map (·.1))
 rw[List.map_map]at this
 exact this⟩
end
end Go.TVF
end
namespace Go.TVF
open Go.IntKind(i64 u8)
open Go Go.Proofs
section
abbrev decQs:List (Nat×(Nat->List TV->Prop)):=[(1,cellQ .bool),(1,strQ),(1,cellQ (.int .i64))]
abbrev timeQs:List (Nat×(Nat->List TV->Prop)):=[(1,cellQ (.int .i64)),(1,cellQ (.int .i64)),(1,cellQ (.int .i64)),(1,cellQ (.int .i64))]
def valQ (k:Nat) (tv:List TV):Prop:=∃v:Vl,VlR St.zero v tv/\v.sz<=k
def fldQ (k:Nat) (tv:List TV):Prop:=∃d:Fd,FdR St.zero d tv/\d.sz<=k
abbrev LI (c:Nat) (S:Nat->List TV->Prop) (k:Nat) (tv:List TV):Prop:=∃v,tv=[v]/\SlQ c S k v
abbrev inQ (Ss:List (Nat×(Nat->List TV->Prop))) (k:Nat) (tv:List TV):Prop:=∃k',k'+1<=k/\Np Ss k' tv
abbrev valQs:List (Nat×(Nat->List TV->Prop)):=[(1,cellQ (.int .i64)),(1,cellQ .bool),(3,inQ decQs),(4,inQ timeQs),(1,strQ),(1,LI 1 (cellQ (.int .u8))),(1,LI 13 valQ),(1,LI 14 fldQ)]
abbrev fldQs:List (Nat×(Nat->List TV->Prop)):=[(1,strQ),(13,valQ)]
theorem SlQ.bytes {k:Nat} {v:TV} (h:SlQ 1 (cellQ (.int .u8)) k v):∃l:B8,SlR St.zero 1 v l.length (Ai l)/\l.length<=k:=by
 rcases h with rfl | ⟨ps,rfl,h,hk⟩
 ·exact⟨[],.inl (.inl ⟨rfl,rfl,rfl⟩),Nat.zero_le _⟩
 ·have:∃l:B8,l.length=ps.length/\(ps.map (·.1)).flatten=Ai l/\l.length<=(ps.map (·.2)).sum:=by
   clear hk
   induction ps with
   | nil=>exact⟨[],rfl,rfl,Nat.zero_le _⟩
   | cons p r ih=>
    obtain⟨l,h1,h2,h3⟩:=ih (fun q hq=>h q (.tail _ hq))
    obtain⟨hl,⟨n,ys,hp,hw,rfl⟩,h1k⟩:=h p (.head _)
    have hn:0<=n/\n<=255:=by simpa [Lit.wf,IntKind.min,IntKind.max,IntKind.signed,IntKind.bits]using hw
    refine⟨n.toNat.toUInt8::l,by simp[h1],?_,by simp only[List.length_cons,List.map_cons,List.sum_cons];omega⟩
    rw[List.map_cons,List.flatten_cons,hp,h2]
    simp only[Ai,List.map_cons,Cg,List.cons_append,List.nil_append,List.cons.injEq,and_true,TV.int.injEq,true_and]
    have:=natB_lt n.toNat (by omega)
    omega
  obtain⟨l,h1,h2,h3⟩:=this
  exact⟨l,.inl (.inr ⟨.non,by rw[h1,h2]⟩),by omega⟩
theorem SlQ.vals {k:Nat} {v:TV} (h:SlQ 13 valQ k v):∃l xl,SlR St.zero 13 v l.length xl/\VsR St.zero l xl/\E8 l<=k:=by
 rcases h with rfl | ⟨ps,rfl,h,hk⟩
 ·exact⟨[],[],.inl (.inl ⟨rfl,rfl,rfl⟩),by unfold VsR;rfl,by unfold E8;exact Nat.zero_le _⟩
 ·have:∃l:List Vl,l.length=ps.length/\VsR St.zero l (ps.map (·.1)).flatten/\E8 l<=(ps.map (·.2)).sum:=by
   clear hk
   induction ps with
   | nil=>exact⟨[],rfl,by unfold VsR;rfl,by unfold E8;exact Nat.zero_le _⟩
   | cons p r ih=>
    obtain⟨l,h1,h2,h3⟩:=ih (fun q hq=>h q (.tail _ hq))
    obtain⟨hl,v,hv,hz⟩:=h p (.head _)
    exact⟨v::l,by simp[h1],by unfold VsR;exact⟨_,_,by simp,hv,h2⟩,by unfold E8;simp only[List.map_cons,List.sum_cons];omega⟩
  obtain⟨l,h1,h2,h3⟩:=this
  exact⟨l,_,.inl (.inr ⟨.non,by rw[h1]⟩),h2,by omega⟩
theorem SlQ.flds {k:Nat} {v:TV} (h:SlQ 14 fldQ k v):∃l xl,SlR St.zero 14 v l.length xl/\FsR St.zero l xl/\DR l<=k:=by
 rcases h with rfl | ⟨ps,rfl,h,hk⟩
 ·exact⟨[],[],.inl (.inl ⟨rfl,rfl,rfl⟩),by unfold FsR;rfl,by unfold DR;exact Nat.zero_le _⟩
 ·have:∃l:List Fd,l.length=ps.length/\FsR St.zero l (ps.map (·.1)).flatten/\DR l<=(ps.map (·.2)).sum:=by
   clear hk
   induction ps with
   | nil=>exact⟨[],rfl,by unfold FsR;rfl,by unfold DR;exact Nat.zero_le _⟩
   | cons p r ih=>
    obtain⟨l,h1,h2,h3⟩:=ih (fun q hq=>h q (.tail _ hq))
    obtain⟨hl,v,hv,hz⟩:=h p (.head _)
    exact⟨v::l,by simp[h1],by unfold FsR;exact⟨_,_,by simp,hv,h2⟩,by unfold DR;simp only[List.map_cons,List.sum_cons];omega⟩
  obtain⟨l,h1,h2,h3⟩:=this
  exact⟨l,_,.inl (.inr ⟨.non,by rw[h1]⟩),h2,by omega⟩
theorem Dw {kd:IntKind} {k:Nat} {tv:List TV} (h:cellQ (.int kd) k tv):∃n,tv=[.int kd n]:=by
 obtain⟨⟨n,ys,rfl,_,rfl⟩,_⟩:=h;exact⟨n,rfl⟩
theorem Je {k:Nat} {tv:List TV} (h:cellQ .bool k tv):∃b,tv=[.bool b]:=by
 obtain⟨⟨n,ys,rfl,rfl⟩,_⟩:=h;exact⟨n,rfl⟩
theorem each_field {k:Nat} {tv:List TV} (h:inQ fldQs k tv):fldQ k tv:=by
 obtain⟨k0,hk0,_,_,k1,k2,rfl,_,⟨key,rfl,_,hkey⟩,⟨_,_,k3,k4,rfl,_,⟨v,hv,hz⟩,rfl,h2⟩,h1⟩:=h
 refine⟨.mk key v,by unfold FdR;exact⟨_,by simp,hv⟩,by unfold Fd.sz;omega⟩
theorem each_value {k:Nat} {tv:List TV} (h:inQ valQs k tv):valQ k tv:=by
 obtain⟨k0,hk0,_,_,a1,r1,rfl,_,q1,⟨_,_,a2,r2,rfl,_,q2,⟨_,_,a3,r3,rfl,_,q3,⟨_,_,a4,r4,rfl,_,q4,⟨_,_,a5,r5,rfl,_,q5,⟨_,_,a6,r6,rfl,_,q6,⟨_,_,a7,r7,rfl,_,q7,⟨_,_,a8,r8,rfl,_,q8,rfl,h8⟩,h7⟩,h6⟩,h5⟩,h4⟩,h3⟩,h2⟩,h1⟩:=h
 obtain⟨kd,rfl⟩:=Dw q1
 obtain⟨bo,rfl⟩:=Je q2
 obtain⟨d0,hd0,_,_,d1,d2,rfl,_,p1,⟨_,_,d3,d4,rfl,_,⟨dg,rfl,_,hdg⟩,⟨_,_,d5,d6,rfl,_,p3,rfl,g3⟩,g2⟩,g1⟩:=q3
 obtain⟨ng,rfl⟩:=Je p1
 obtain⟨ex,rfl⟩:=Dw p3
 obtain⟨_,_,_,_,_,_,rfl,_,t1,⟨_,_,_,_,rfl,_,t2,⟨_,_,_,_,rfl,_,t3,⟨_,_,_,_,rfl,_,t4,rfl,_⟩,_⟩,_⟩,_⟩:=q4
 obtain⟨tk,rfl⟩:=Dw t1
 obtain⟨td,rfl⟩:=Dw t2
 obtain⟨tn,rfl⟩:=Dw t3
 obtain⟨tz,rfl⟩:=Dw t4
 obtain⟨tx,rfl,_,htx⟩:=q5
 obtain⟨ub,rfl,q6⟩:=q6
 obtain⟨ul,rfl,q7⟩:=q7
 obtain⟨uf,rfl,q8⟩:=q8
 obtain⟨bs,hb,hbl⟩:=q6.bytes
 obtain⟨l,xl,hl,hlv,hlz⟩:=q7.vals
 obtain⟨f,xf,hf,hfv,hfz⟩:=q8.flds
 refine⟨.mk ⟨kd,bo,ng,dg,ex,tk,td,tn,tz,tx,bs⟩ l f,?_,by rw[szs];simp only;omega⟩
 unfold VlR
 exact⟨ub,ul,uf,xl,xf,by simp,hb,hl,hlv,hf,hfv⟩
section
variable {H:Type} {enc:TypeId×Value->H} {P:Program} {w:World} {base b0:Nat} {held:Bool} {bk:DataW H->Nat}
end
end
section
def IsValU (t:TV):Prop:=∃v cs,t= .agg cs/\VlR St.zero v cs
section
variable {H:Type} {enc:TypeId×Value->H} {P:Program} {w:World} {base b0:Nat} {held:Bool} {bk:DataW H->Nat}
theorem open_valU {t:TypeId} {fs:Array Field} {v:Value} {d:DataW H} {p:List MemPlace} (ht:P.underlying t=some (.struct fs)) (hop:∀n,OpQ bk enc P w base held n 13 valQ t)
  (hval:Value.okWide P w .any b0 t v) (h:DataW.Trod enc P w base (fun _=>true) held t v d p):∃tv,Rel (Ghost.start w) w tv v/\IsValU tv:=by
 simp only[Value.okWide,ht]at hval
 obtain⟨vs,rfl,_,_⟩:=hval
 obtain⟨n,hn⟩:=h
 obtain⟨cs,hr,_,vl,hv,hz⟩:=(hop n).2 _ _ hn
 have:=Rel.agg cs vs.toList hr.1 hr.2
 rw[Array.toArray_toList]at this
 exact⟨_,this,vl,cs,rfl,hv⟩
end
end
def JS (s:B8):B8:=s.takeWhile fun c=>decide (El c)
def Nr (n:Nat) (l:B8):Nat:=l.foldl (fun n c=>10*n+(c.toNat-48)) n
def valN (l:B8):Nat:=Nr 0 l
theorem Oc (n:Nat) (a b:B8):Nr n (a++b)=Nr (Nr n a) b:=by
 unfold Nr;rw[List.foldl_append]
def b0 (s:B8) (k:Nat):UInt8:=s.getD k 0
def dv (s:B8) (k:Nat):Nat:=(b0 s k).toNat-48
def d2 (s:B8) (k:Nat):Nat:=dv s k*10+dv s (k+1)
def dd (s:B8) (k:Nat):Prop:=El (b0 s k)/\El (b0 s (k+1))
instance (s:B8) (k:Nat):Decidable (dd s k):=inferInstanceAs (Decidable (_/\_))
def formC (s:B8):Prop:=dd s 0/\b0 s 2=58/\dd s 3/\b0 s 5=58/\dd s 6
instance (s:B8):Decidable (formC s):=inferInstanceAs (Decidable (_/\_/\_/\_/\_))
def formD (s:B8):Prop:=dd s 0/\dd s 2/\b0 s 4=45/\dd s 5/\b0 s 7=45/\dd s 8
instance (s:B8):Decidable (formD s):=inferInstanceAs (Decidable (_/\_/\_/\_/\_/\_))
def fracN (f:B8):Nat:=valN (f++List.replicate (9-f.length) 48)
def okD (y m d:Nat):Prop:=1<=y/\y<=9999/\1<=m/\m<=12/\1<=d/\d<=FT y m
instance (y m d:Nat):Decidable (okD y m d):=inferInstanceAs (Decidable (_/\_/\_/\_/\_/\_))
def okC (h m s:Nat):Prop:=h<=23/\m<=59/\s<=59
instance (h m s:Nat):Decidable (okC h m s):=inferInstanceAs (Decidable (_/\_/\_))
theorem Jw:∀(w n:Nat),n<10^w->valN (AA w n)=n
 | 0,n,h=>by rw[show n=0 by simpa using h];rfl
 | w+1,n,h=>by
  have:=Jw w (n/10) (by rw[Nat.div_lt_iff_lt_mul (by omega)];rw[Nat.pow_succ]at h;exact h)
  unfold valN at this⊢
  rw[AA,Oc,this]
  unfold Nr
  rw[List.foldl_cons,List.foldl_nil,Nf _ (by omega)];omega
theorem Ph:∀(l:B8),∃k,l=E6 l++List.replicate k 48:=by
 intro l
 have:∀n (l:B8),l.length=n->∃k,l=E6 l++List.replicate k 48:=by
  intro n
  induction n with
  | zero=>intro l h;rw[List.eq_nil_of_length_eq_zero h];exact⟨0,rfl⟩
  | succ n ih=>
   intro l h
   have hne:l≠ []:=fun e=>by rw[e]at h;simp at h
   have hl:=List.dropLast_concat_getLast hne
   generalize l.dropLast=a at hl
   generalize l.getLast hne=c at hl
   rw[<-hl,HF]
   rw[<-hl,List.length_append]at h
   by_cases h0:c=48
   ·obtain⟨k,hk⟩:=ih a (by simpa using h)
    rw[if_pos h0]
    refine⟨k+1,?_⟩
    rw[List.replicate_succ',<-List.append_assoc,<-hk,h0]
   ·rw[if_neg h0];exact⟨0,by simp⟩
 exact this _ l rfl
theorem NS {n:Nat} (h:n<1000000000):fracN (E6 (AA 9 n))=n:=by
 obtain⟨k,hk⟩:=Ph (AA 9 n)
 have hl:=congrArg List.length hk
 rw[At,List.length_append,List.length_replicate]at hl
 unfold fracN
 rw[show 9-(E6 (AA 9 n)).length=k by omega,<-hk]
 exact Jw 9 n h
theorem Nj {n:Nat} (h:n<1000000000) (h0:n≠0):E6 (AA 9 n)≠ []:=by
 intro e
 have:=NS h
 rw[e]at this
 exact h0 (this.symm.trans (by decide))
theorem EC (y m:Nat):FT y m<=31:=by
 have ite:∀{p:Prop} [Decidable p] {a b:Nat},a<=31->b<=31->(if p then a else b)<=31:=fun h1 h2=>by split<;>assumption
 unfold FT
 exact ite (ite (by omega) (by omega)) (ite (by omega) (by omega))
theorem Ni {n y m d:Nat} (h:Eb n y m d):G4 n=AA 4 y++45::(AA 2 m++45::AA 2 d):=by unfold G4;rw[N0 h]
theorem Kh {s p:B8} {st:St} {K:Bool->St->Prop} (hk:K (decide (s.take p.length=p)) st):CallT PR BO [.str s,.str p] [.one (.bool)] st K:=by
 refine E9 s p st K (D0 s p st _ (Aa (fun h=>⟨⟨by omega,h⟩,?_⟩) fun h=>?_))
 ·exact hk
 ·have:¬s.take p.length=p:=fun h0=>by
   have:=congrArg List.length h0
   rw[List.length_take]at this
   omega
  rw[decide_eq_false this]at hk
  exact hk
theorem SlR.ldb {st:St} {u:TV} {l:B8} {k:Nat} (h:SlR st 1 u l.length (Ai l)) (hk:k<l.length):Ak st [] (.t (ixT 1 u k)) 0=some (Cg l[k]):=by
 have:=h.ldc (by rw[Cd];omega) hk
 rw[List.drop_eq_getElem_cons (by rw[Cd];omega)]at this
 simp only[Aj,List.take_succ_cons,List.take_zero]at this
 cases hq:Ak st [] (.t (ixT 1 u k)) 0 with
 | none=>rw[hq]at this;cases this
 | some y=>
  rw[hq]at this
  simp only[Option.map_some,Option.some.injEq,List.cons.injEq,and_true]at this
  rw[this];simp[Ai]
def zs (n:Nat):B8:=List.replicate n 48
theorem Iy:∀n,Lib.repeatL [48] n=zs n
 | 0=>rfl
 | n+1=>by
  show [48]++Lib.repeatL [48] n=_
  rw[Iy n];rfl
theorem F9 (n:Nat):(zs n).length=n:=by simp[zs]
theorem JD {n:Nat} (hn:n<=2000000) {st:St} {K:B8->St->Prop} (hk:K (zs n) st):CallT PR Cs [.str [48],.int .i64 (n:Int)] [.one .str] st K:=by
 refine Co (fun _ _=>by kernel_rfl) fun g w vargs s hr=>?_
 obtain⟨v,u,rfl,hv,hu⟩:=IA hr
 rw[CX hv,HO hu]
 refine Calls.mono (Tryz.strings_Repeat ⟨#[48]⟩ n w (by omega) (by simp[ByteArray.size];omega)) ?_
 rintro e w' ⟨rfl,hb⟩
 obtain⟨s',e'⟩:=s.world hb.size (s.below.trans (hb.mono s.fits)) hb.block
 refine⟨_,rfl,.str (zs n),st,g,hk,s',?_,e'⟩
 have:Lib.repeatL (ByteArray.mk #[48]).data.toList n=zs n:=Iy n
 rw[this];exact Rel.str _
theorem SlR.of_box {st:St} {b n:Nat} {xs:List TV} (hb:b<st.nb) (h:st.box b= .cells xs) (hl:xs.length=n):SlR st 1 (.ms 1 b 0 n n) n xs:=
 .inr ⟨b,0,n,xs,rfl,hb,h,by omega,Nat.le_refl _,by simp[<-hl]⟩
theorem Pn (n:Nat):Ai (zs n)=List.replicate n (.int .u8 48):=by
 unfold zs Ai
 rw[List.map_replicate];rfl
theorem II {n:Nat} (hn:n<=2000000) {st:St} {K:B8->St->Prop} (hk:∀st',Ae st st'->K (zs n) st'):CallT PR AU [.int .i64 (n:Int)] [.one .str] st K:=by
 have e0:Ae st (st.push (.cells (DO [.int .u8 0] (Int.toNat (n:Int)*1))) (some 5)):=(Ae.refl st).push _ _
 refine Eg _ st K ⟨⟨by omega,by omega,by omega⟩,?_⟩
 rw[Int.toNat_natCast]at e0⊢
 refine⟨fun i m u st'=>(n:Int)=m/\.ms 1 st.nb 0 n n=u/\∃(k:Nat) (xs:List TV),i=k/\k<=n/\Ae st st'/\st.nb<st'.nb/\st'.box st.nb= .cells xs/\xs.length=n/\xs.take k=List.replicate k (.int .u8 48),fun i _ _ _=>(n-i).toNat,
  ⟨rfl,rfl,0,DO [.int .u8 0] (n*1),rfl,Nat.zero_le _,e0,by simp[St.push],by simp[St.push],by simp[DO],rfl⟩,?_⟩
 rintro _ _ _ st1 ⟨rfl,rfl,k,xs,rfl,hkn,e1,hb,hbx,hxl,htk⟩
 refine Aa (fun g=>?_) fun g=>?_
 ·rw[Int.toNat_natCast,Ac _ (by omega) (by omega)]
  refine⟨⟨by omega,by simp only[lenZ,Nat.beq_refl];omega⟩,?_⟩
  refine⟨xs,hbx,by simp only[List.length_cons,List.length_nil];omega,?_⟩
  have hset:setAll xs (0+k*1) [.int .u8 48]=xs.set k (.int .u8 48):=by simp[setAll]
  refine⟨⟨rfl,rfl,k+1,setAll xs (0+k*1) [.int .u8 48],by omega,by omega,StX.ext e1 (StX.put (S:=fun i=>i=st.nb) rfl _) (fun i hi=>by rw[hi];exact Nat.le_refl _),hb,by simp[St.put],by rw[D1];exact hxl,?_⟩,by dsimp only;omega⟩
  rw[hset,List.take_set,List.replicate_succ',<-htk]
  rw[List.take_succ_eq_append_getElem (by omega),List.set_append_right _ _ (by simp;omega)]
  simp[show k-min k xs.length=0 by omega]
 ·have hkn2:k=n:=by omega
  subst hkn2
  rw[List.take_of_length_le (by omega)]at htk
  have hsl:SlR st1 1 (.ms 1 st.nb 0 k k) (zs k).length (Ai (zs k)):=by
   rw[F9,Pn,<-htk]
   exact SlR.of_box hb hbx hxl
  exact Am (x:=TV.str (zs k)) (by rw[hsl.toBytes];rfl) (G3 (hk st1 e1))
theorem G6 (st:St) (b:Nat) (o:Gv):(st.put b o).box b=o:=by simp[St.put]
theorem Lx (st:St) (o:Gv) (t:Option Nat):(st.push o t).box st.nb=o:=by simp[St.push]
theorem EP.set {st:St} {u:TV} {n i:Nat} {xs:List TV} {bs:List Nat} {x:TV} {K:St->Prop} (h:EP st 1 u n xs bs) (hi:i<n) (hK:∀st',EP st' 1 u n (xs.set i x) bs->StX (·∈bs) st st'->K st'):stB st (ixT 1 u i) [x] K:=by
 rcases h with⟨h0,_⟩ | ⟨b,cap,tail,rfl,h1,h2,h3,h4,h5,rfl⟩
 ·omega
 ·simp only[ixT,Nat.zero_add,Nat.mul_one,stB]
  have hl:(xs++tail).length=cap:=by omega
  rw[List.length_append]at hl
  refine⟨_,h2,by rw[List.length_append,List.length_singleton];omega,hK _ (.inr ⟨b,cap,tail,rfl,h1,?_,by rw[List.length_append,List.length_set];omega,by rw[List.length_set];exact h4,h5,rfl⟩) (StX.put (S:=(·∈ [b])) (.head _) _)⟩
  rw[G6]
  simp only[setAll]
  rw[List.set_append_left _ _ (by omega)]
def BxB (st0 st:St) (u:TV) (l:B8):Prop:=∃bs,EP st 1 u l.length (Ai l) bs/\Ae st0 st/\∀x,x∈bs->st0.nb<=x
theorem BxB.nil {st0 st:St} (e:Ae st0 st):BxB st0 st .nilSlice []:=⟨[],EP.nil _ _,e,fun x hx=>by cases hx⟩
theorem BxB.rd {st0 st:St} {u:TV} {l:B8} (h:BxB st0 st u l):SlR st 1 u l.length (Ai l):=by
 obtain⟨bs,h1,_⟩:=h;exact h1.rd
theorem BxB.ext {st0 st:St} {u:TV} {l:B8} (h:BxB st0 st u l):Ae st0 st:=by
 obtain⟨bs,_,h2,_⟩:=h;exact h2
theorem BxB.app {st0 st:St} {u:TV} {l:B8} {c:UInt8} {x:TV} {K:TV->St->Prop} (h:BxB st0 st u l) (hx:x=Cg c) (hl:l.length<=100000000) (hK:∀u' st',BxB st0 st' u' (l++[c])->K u' st'):Ic 5 1 1 u 1 [x] st K:=by
 obtain⟨bs,h1,h2,h3⟩:=h
 subst hx
 refine N6 h1 (by omega) rfl (by omega) fun u' st' bs' ho e hb=>hK u' st' ⟨bs',?_,?_,?_⟩
 ·rw[List.length_append,List.length_singleton,<-F6];exact ho
 ·exact StX.ext h2 e h3
 ·rcases hb with⟨rfl,_⟩ | rfl
  ·exact h3
  ·intro y hy;rw[List.mem_singleton.1 hy];exact h2.nb
theorem Mx (l:B8) (i:Nat) (c:UInt8):(Ai l).set i (Cg c)=Ai (l.set i c):=by
 unfold Ai;rw[List.map_set]
theorem BxB.set {st0 st:St} {u:TV} {l:B8} {i:Nat} {c:UInt8} {x:TV} {K:St->Prop} (h:BxB st0 st u l) (hx:x=Cg c) (hi:i<l.length) (hK:∀st',BxB st0 st' u (l.set i c)->K st'):stB st (ixT 1 u i) [x] K:=by
 obtain⟨bs,h1,h2,h3⟩:=h
 subst hx
 refine h1.set hi fun st' ho e=>hK st' ⟨bs,?_,StX.ext h2 e h3,h3⟩
 rw[List.length_set,<-Mx];exact ho
theorem zrep_u8 (n:Nat):DO [.int .u8 (0:Int)] (n*1)=Ai (List.replicate n 0):=by
 unfold DO Ai
 rw[Nat.mul_one,List.map_replicate]
 refine List.ext_getElem (by simp) fun i h1 h2=>?_
 simp[Cg,Nat.mod_one]
theorem BxB.make {st0 st:St} (e:Ae st0 st) (n:Nat):BxB st0 (st.push (.cells (DO [.int .u8 (0:Int)] (n*1))) (some 5)) (.ms 1 st.nb 0 n n) (List.replicate n 0):=by
 refine⟨[st.nb],.inr ⟨st.nb,n,[],by rw[List.length_replicate],by simp[St.push],?_,?_,?_,?_,rfl⟩,e.push _ _,fun x hx=>by rw[List.mem_singleton.1 hx];exact e.nb⟩
 ·rw[zrep_u8,List.append_nil,Lx]
 ·rw[List.append_nil,Cd,List.length_replicate,Nat.mul_one]
 ·rw[Cd];omega
 ·rw[List.length_replicate];exact Nat.le_refl _
theorem Ng {c:UInt8} {f:Int->Prop} (h:f (c.toNat:Int)):A6 (.int .u8) (Cg c) f:=I7 h
theorem BxB.ld {st0 st:St} {u:TV} {l:B8} {i:Nat} (h:BxB st0 st u l) (hi:i<l.length):Ak st [] (.t (ixT 1 u i)) 0=some (Cg l[i]):=h.rd.ldb hi
theorem BxB.str {st0 st:St} {u:TV} {l:B8} {K:B8->Prop} (h:BxB st0 st u l) (hk:K l):Bc ((toBytes st u).map TV.str) fun x=>A6 .str x K:=
 Am (x:= .str l) (by rw[h.rd.toBytes];rfl) (G3 hk)
theorem LO {st0 st:St} {u:TV} {l:B8} (hl:l.length<=100000000) (h:BxB st0 st u l) {K:St->Prop} (hk:∀st',BxB st0 st' u l.reverse->K st'):CallT PR Ct [u] [] st K:=by
 refine GA u st K (AH h.rd.isSl ?_)
 rw[h.rd.lenS,Ac _ (by omega) (by omega)]
 refine⟨fun i k b st'=>u=b/\∃(n:Nat) (m:B8),i=n/\k=(l.length:Int)-1-n/\2*n<=l.length+1/\m.length=l.length/\BxB st0 st' u m/\∀j,j<l.length->m.getD j 0=if j<n∨l.length-n<=j then l.getD (l.length-1-j) 0 else l.getD j 0,fun i _ _ _=>(l.length-i).toNat,⟨rfl,0,l,rfl,by omega,by omega,rfl,h,fun j hj=>by rw[if_neg (by omega)]⟩,?_⟩
 rintro _ _ _ st1 ⟨rfl,n,m,rfl,rfl,hn,hm,hb,hall⟩
 refine Aa (fun g=>?_) fun g=>hk _ ?_
 ·have hk':Int.toNat ((l.length:Int)-1-n)=l.length-1-n:=by omega
  have hr:=hb.rd
  have hnl:n<m.length:=by omega
  have hkl:l.length-1-n<m.length:=by omega
  rw[hr.lenZ,hk',Int.toNat_natCast]
  refine⟨⟨by omega,by omega⟩,Am (hb.ld hkl) (Ng ⟨⟨by omega,by omega⟩,Am (hb.ld hnl) (Ng ⟨⟨by omega,by omega⟩,hb.set (c:=m[l.length-1-n]) rfl hnl fun st2 hb2=>⟨⟨by omega,by omega⟩,hb2.set (c:=m[n]) rfl (by rw[List.length_set];exact hkl) fun st3 hb3=>?_⟩⟩)⟩)⟩
  rw[Ac _ (by omega) (by omega),Ac _ (by omega) (by omega)]
  refine⟨⟨rfl,n+1,_,by omega,by omega,by omega,by rw[List.length_set,List.length_set];exact hm,hb3,fun j hj=>?_⟩,by dsimp only;omega⟩
  have h1:=hall n (by omega)
  have h2:=hall (l.length-1-n) (by omega)
  rw[if_neg (by omega)]at h1 h2
  have e1:m.getD n 0=m[n]:=by rw[List.getD_eq_getElem?_getD,List.getElem?_eq_getElem hnl];rfl
  have e2:m.getD (l.length-1-n) 0=m[l.length-1-n]:=by rw[List.getD_eq_getElem?_getD,List.getElem?_eq_getElem hkl];rfl
  have e3:((m.set n m[l.length-1-n]).set (l.length-1-n) m[n]).getD j 0=if j=l.length-1-n then m[n]else if j=n then m[l.length-1-n]else m.getD j 0:=by
   rw[List.getD_eq_getElem?_getD,List.getElem?_set,List.getElem?_set]
   by_cases c1:j=l.length-1-n
   ·rw[if_pos c1.symm,if_pos c1,if_pos (by rw[List.length_set];omega)];rfl
   ·rw[if_neg (fun e=>c1 e.symm),if_neg c1]
    by_cases c2:j=n
    ·rw[if_pos c2.symm,if_pos c2,if_pos (by omega)];rfl
    ·rw[if_neg (fun e=>c2 e.symm),if_neg c2,List.getD_eq_getElem?_getD]
  rw[e3]
  by_cases c1:j=l.length-1-n
  ·rw[if_pos c1,if_pos (by omega),<-e1,h1];congr 1;omega
  ·rw[if_neg c1]
   by_cases c2:j=n
   ·rw[if_pos c2,if_pos (by omega),<-e2,h2];congr 1;omega
   ·rw[if_neg c2,hall j hj]
    by_cases c3:j<n∨l.length-n<=j
    ·rw[if_pos c3,if_pos (by omega)]
    ·rw[if_neg c3,if_neg (by omega)]
 ·have:m=l.reverse:=by
   refine List.ext_getElem (by simpa using hm) fun j h1 h2=>?_
   have:=hall j (by omega)
   rw[List.getD_eq_getElem?_getD,List.getElem?_eq_getElem h1,Option.getD_some]at this
   rw[this,List.getElem_reverse]
   by_cases c:j<n∨l.length-n<=j
   ·rw[if_pos c,List.getD_eq_getElem?_getD,List.getElem?_eq_getElem (by omega),Option.getD_some]
   ·rw[if_neg c,List.getD_eq_getElem?_getD,List.getElem?_eq_getElem (by omega),Option.getD_some]
    congr 1;omega
  rw[<-this];exact hb
theorem Nd {n:Nat} (x:Int) (h:x=n):u8.wrap (i64.wrap (48+x.tmod 10))=(((48+n%10).toUInt8.toNat:Nat):Int):=by
 subst h
 rw[Int.tmod_eq_emod_of_nonneg (by omega),Ac _ (by omega) (by omega),Nf _ (by omega),Ii _ (by omega) (by omega)];omega
theorem Me {n:Nat} (hn:n<=9000000000000000000) {st:St} {K:B8->St->Prop} (hk:∀st',Ae st st'->K (Fu n) st'):CallT PR Cu [.int .i64 (n:Int)] [.one .str] st K:=by
 have hlen:(Fu n).length<=19:=Ft 19 n (by omega)
 refine GB _ st K ⟨fun k b st'=>∃(m:Nat) (l:B8),k=m/\m<=n/\BxB st st' b l/\Fu n=Fu m++l.reverse,fun k _ _=>k.toNat,⟨n,[],rfl,Nat.le_refl _,BxB.nil (Ae.refl _),by simp⟩,?_⟩
 rintro _ b st1 ⟨m,l,rfl,hm,hb,he⟩
 have hll:l.length<=19:=by rw[he,List.length_append,List.length_reverse]at hlen;omega
 refine Aa (fun g=>?_) fun g=>?_
 ·refine hb.app (c:=(48+m%10).toUInt8) (by rw[Nd _ rfl];rfl) (by omega) fun u' st2 hb2=>?_
  have hd:i64.wrap ((m:Int).tdiv 10)=((m/10:Nat):Int):=by rw[Int.tdiv_eq_ediv_of_nonneg (by omega),Ac _ (by omega) (by omega)];omega
  rw[hd]
  refine⟨⟨m/10,_,rfl,by omega,hb2,?_⟩,by dsimp only;omega⟩
  rw[he,Hz (by omega),List.reverse_append,List.reverse_singleton,List.append_assoc]
 ·have h0:m=0:=by omega
  subst h0
  rw[FH,List.nil_append]at he
  refine LO (by omega) hb fun st2 hb2=>hb2.str ?_
  rw[<-he];exact hk _ hb2.ext
theorem HN {n:Nat} (hn:n<=9000000000000000000) {st:St} {K:B8->St->Prop} (hk:K (Fu n) st):CallT PR AV [.int .i64 (n:Int)] [.one .str] st K:=by
 have hlen:(Fu n).length<=19:=Ft 19 n (by omega)
 refine Eh _ st K ⟨fun k s st'=>st=st'/\∃m:Nat,k=m/\m<=n/\Fu n=Fu m++s,fun k _ _=>k.toNat,⟨rfl,n,rfl,Nat.le_refl _,by simp⟩,?_⟩
 rintro _ s _ ⟨rfl,m,rfl,hm,he⟩
 have hll:s.length<=19:=by rw[he,List.length_append]at hlen;omega
 refine Aa (fun g=>?_) fun g=>?_
 ·refine Am (x:= .str [(48+m%10).toUInt8]) ?_ (G3 ⟨by rw[List.length_singleton];omega,?_⟩)
  ·rw[Nd _ rfl]
   show(Cy [Cg _]).map _=_
   have:=A7 [(48+m%10).toUInt8]
   simp only[Ai,List.map_cons,List.map_nil]at this
   rw[this];rfl
  ·have hd:i64.wrap ((m:Int).tdiv 10)=((m/10:Nat):Int):=by rw[Int.tdiv_eq_ediv_of_nonneg (by omega),Ac _ (by omega) (by omega)];omega
   rw[hd]
   refine⟨⟨rfl,m/10,rfl,by omega,?_⟩,by dsimp only;omega⟩
   rw[he,Hz (by omega),List.append_assoc]
 ·have h0:m=0:=by omega
  subst h0
  rw[FH,List.nil_append]at he
  rw[<-he];exact hk
theorem KB {n:Nat} (hn:n<=9000000000000000000) {st:St} {K:B8->St->Prop} (hk:∀st',Ae st st'->K (whN n) st'):CallT PR B1 [.int .i64 (n:Int)] [.one .str] st K:=by
 unfold whN at hk
 refine Hh _ st K (Aa (fun g=>?_) fun g=>Me hn fun st' e=>?_)
 ·have:=hk st (Ae.refl _)
  rw[if_pos (by omega)]at this;exact this
 ·have:=hk st' e
  rw[if_neg (by omega)]at this;exact this
theorem HM {n:Int} (h1: -1000000000<=n) (h2:n<=1000000000) {st:St} {K:B8->St->Prop} (hk:K (if n<0 then 45::whN n.natAbs else whN n.natAbs) st):CallT PR A2 [.int .i64 n] [.one .str] st K:=by
 refine Ev n st K (Aa (fun g=>?_) fun g=>Aa (fun g2=>?_) fun g2=>?_)
 ·rw[Ac _ (by omega) (by omega),show(0:Int)-n=(n.natAbs:Nat) by omega]
  have hlen:(Fu n.natAbs).length<=10:=Ft 10 _ (by omega)
  refine HN (by omega) ⟨by show 1+_<=_;omega,?_⟩
  rw[if_pos g]at hk
  unfold whN at hk
  rw[if_neg (by omega)]at hk;exact hk
 ·subst g2;exact hk
 ·rw[if_neg g]at hk
  unfold whN at hk
  rw[if_neg (by omega)]at hk
  obtain⟨m,rfl⟩:∃m:Nat,n=m:=⟨n.natAbs,by omega⟩
  rw[Int.natAbs_natCast]at hk
  exact HN (by omega) hk
theorem M9 (p:Int):expT p=if p<1 then 101::45::whN (1-p).toNat else 101::whN (p-1).toNat:=by
 unfold expT;split<;>rfl
def E5 (neg:Bool):B8:=if neg then [45]else []
theorem KV (neg:Bool):(E5 neg).length<=1:=by cases neg<;>decide
theorem Id {n:Nat} (h:n<10^18):(whN n).length<=18:=by
 unfold whN;split
 ·decide
 ·exact Ft 18 n h
theorem Pf {neg:Bool} {dg:B8} {ex:Int} (h:Cz neg dg ex) {st:St} {K:B8->St->Prop} (hk:∀st',Ae st st'->K (dcT neg dg ex) st'):CallT PR Dg [.agg [.bool neg,.str dg,.int .i64 ex]] [.one .str] st K:=by
 have e0:=Ae.refl st
 unfold dcT at hk
 by_cases hne:dg=[]
 ·rw[if_pos hne]at hk
  refine EK neg dg ex st K ⟨fun _ _ _ _=>False,Aa (fun _=>hk st e0) fun g=>absurd hne g,fun _ _ _ _ h=>h.elim⟩
 rw[if_neg hne]at hk
 obtain⟨h1,h2,h3,h4,h5,h6⟩:=h.2 hne
 have hpos:=List.length_pos_iff.2 hne
 have hs:=KV neg
 have hw:i64.wrap ((dg.length:Int)+ex)=dg.length+ex:=Ac _ (by omega) (by omega)
 refine EK neg dg ex st K ⟨fun b s n st'=>neg=b/\dg=s/\ex=n/\st=st',Aa (fun g=>absurd g hne) fun _=>Lo (by omega) ?_,?_⟩
 ·rw[decide_eq_true h]
  exact⟨rfl,rfl,rfl,rfl⟩
 rintro _ _ _ _ ⟨rfl,rfl,rfl,rfl⟩
 refine⟨fun s b s1 n st'=>E5 neg=s/\neg=b/\dg=s1/\ex=n/\st=st',Ap (fun hb=>⟨by rw[hb];rfl,rfl,rfl,rfl,rfl⟩) fun hb=>⟨by rw[hb];rfl,rfl,rfl,rfl,rfl⟩,?_⟩
 rintro _ _ _ _ _ ⟨rfl,rfl,rfl,rfl,rfl⟩
 rw[hw]
 have hk':=hk
 rw[show(if neg=true then [45]else [])=E5 neg from rfl]at hk
 refine⟨fun s n p b s2 n2 st'=>E5 neg=s/\(dg.length:Int)=n/\(dg.length:Int)+ex=p/\dg=s2/\st=st'/\¬(0<=ex/\dg.length+ex<=21)/\¬(ex<0/\1<=dg.length+ex/\dg.length+ex<=21)/\¬(-5<=dg.length+ex/\dg.length+ex<=0),?_,?_⟩
 ·refine⟨fun b s n p b4 s3 n3 st'=>b=decide (0<=ex/\dg.length+ex<=21)/\E5 neg=s/\(dg.length:Int)=n/\(dg.length:Int)+ex=p/\dg=s3/\ex=n3/\st=st',?_,?_⟩
  ·refine Aa (fun g=>⟨?_,rfl,rfl,rfl,rfl,rfl,rfl⟩) fun g=>⟨?_,rfl,rfl,rfl,rfl,rfl,rfl⟩
   ·exact decide_eq_decide.2 ⟨fun g2=>⟨g,g2⟩,fun g2=>g2.2⟩
   ·exact(decide_eq_false fun g2=>g g2.1).symm
  rintro _ _ _ _ _ _ _ _ ⟨rfl,rfl,rfl,rfl,rfl,rfl,rfl⟩
  refine Aa (fun g=>?_) fun g=>?_
  ·rw[if_pos g]at hk
   obtain⟨g1,g2⟩:=g
   obtain⟨m,rfl⟩:∃m:Nat,ex=m:=⟨ex.toNat,by omega⟩
   refine⟨by omega,JD (by omega) ⟨by rw[List.length_append,F9];omega,?_⟩⟩
   have:=hk st e0
   rw[Int.toNat_natCast,<-List.append_assoc]at this
   exact this
  rw[if_neg g]at hk
  refine⟨fun b s n p b5 s5 n4 st'=>b=decide (ex<0/\1<=dg.length+ex/\dg.length+ex<=21)/\E5 neg=s/\(dg.length:Int)=n/\(dg.length:Int)+ex=p/\dg=s5/\ex=n4/\st=st',?_,?_⟩
  ·refine Aa (fun g1=>Aa (fun g2=>⟨?_,rfl,rfl,rfl,rfl,rfl,rfl⟩) fun g2=>⟨?_,rfl,rfl,rfl,rfl,rfl,rfl⟩) fun g1=>⟨?_,rfl,rfl,rfl,rfl,rfl,rfl⟩
   ·exact decide_eq_decide.2 ⟨fun g3=>⟨g1,g2,g3⟩,fun g3=>g3.2.2⟩
   ·exact(decide_eq_false fun g3=>g2 g3.2.1).symm
   ·exact(decide_eq_false fun g3=>g1 g3.1).symm
  rintro _ _ _ _ _ _ _ _ ⟨rfl,rfl,rfl,rfl,rfl,rfl,rfl⟩
  refine Aa (fun g2=>?_) fun g2=>?_
  ·rw[if_pos g2]at hk
   obtain⟨g3,g4,g5⟩:=g2
   have hlt:(List.take (Int.toNat ((dg.length:Int)+ex)) dg).length<=dg.length:=by rw[List.length_take];omega
   have hld:(List.drop (Int.toNat ((dg.length:Int)+ex)) dg).length<=dg.length:=by rw[List.length_drop];omega
   refine⟨⟨by omega,by omega⟩,by omega,by rw[List.length_append];show _+1<=_;omega,⟨by omega,by omega⟩,by simp only[List.length_append];show _+1+_<=_;omega,?_⟩
   have:=hk st e0
   rw[<-List.append_assoc,List.append_cons]at this
   exact this
  rw[if_neg g2]at hk
  refine Aa (fun g3=>Aa (fun g4=>?_) fun g4=>⟨rfl,rfl,rfl,rfl,rfl,g,g2,fun g5=>g4 g5.2⟩) fun g3=>⟨rfl,rfl,rfl,rfl,rfl,g,g2,fun g5=>g3 g5.1⟩
  rw[if_pos ⟨g3,g4⟩]at hk
  obtain⟨m,hm⟩:∃m:Nat,(0:Int)-((dg.length:Int)+ex)=m:=⟨(0-((dg.length:Int)+ex)).toNat,by omega⟩
  rw[Ac _ (by omega) (by omega),hm]
  have hm2:(-((dg.length:Int)+ex)).toNat=m:=by omega
  rw[hm2]at hk
  refine⟨by show _+2<=_;omega,JD (by omega) ⟨by rw[List.length_append,F9];show _+2+_<=_;omega,by simp only[List.length_append,F9];show _+2+_+_<=_;omega,?_⟩⟩
  have:=hk st e0
  rw[List.append_cons,List.append_cons,<-List.append_assoc,List.append_assoc (E5 neg)]at this
  exact this
 ·rintro _ _ _ _ _ _ _ ⟨rfl,rfl,rfl,rfl,rfl,g1,g2,g3⟩
  rw[if_neg g1,if_neg g2,if_neg g3,M9]at hk
  have ht1:(List.take (Int.toNat 1) dg).length=1:=by rw[List.length_take];omega
  have hd1:(List.drop (Int.toNat 1) dg).length<=dg.length:=by rw[List.length_drop];omega
  refine⟨⟨by omega,by omega⟩,by omega,fun s p st'=>E5 neg++(dg.take 1++(if 1<dg.length then 46::dg.drop 1 else []))=s/\(dg.length:Int)+ex=p/\st=st',?_,?_⟩
  ·refine Aa (fun g4=>⟨⟨by omega,by omega⟩,by show 1+_<=_;omega,by simp only[List.length_append];show _+(1+_)<=_;omega,?_,rfl,rfl⟩) fun g4=>⟨?_,rfl,rfl⟩
   ·rw[if_pos (by omega),List.append_assoc];rfl
   ·rw[if_neg (by omega),List.append_nil];rfl
  rintro s _ _ ⟨hs0,rfl,rfl⟩
  have hsl:s.length<=300:=by
   rw[<-hs0]
   have:(if 1<dg.length then 46::dg.drop 1 else []).length<=dg.length:=by
    split
    ·rw[List.length_cons,List.length_drop];omega
    ·simp
   simp only[List.length_append,List.length_take];omega
  refine Aa (fun g4=>?_) fun g4=>?_
  ·rw[if_pos g4]at hk
   obtain⟨m,hm⟩:∃m:Nat,(1:Int)-((dg.length:Int)+ex)=m:=⟨(1-((dg.length:Int)+ex)).toNat,by omega⟩
   have hwl:=Id (n:=m) (by omega)
   rw[Ac _ (by omega) (by omega),hm]
   refine⟨by show _+2<=_;omega,KB (by omega) fun st' e'=>⟨by rw[List.length_append];show _+2+_<=_;omega,?_⟩⟩
   have:=hk st' e'
   rw[<-List.append_assoc (dg.take 1),<-List.append_assoc (E5 neg),hs0,hm,Int.toNat_natCast,List.append_cons,List.append_cons,List.append_assoc s]at this
   exact this
  ·rw[if_neg g4]at hk
   obtain⟨m,hm⟩:∃m:Nat,((dg.length:Int)+ex)-1=m:=⟨(((dg.length:Int)+ex)-1).toNat,by omega⟩
   have hwl:=Id (n:=m) (by omega)
   rw[Ac _ (by omega) (by omega),hm]
   refine⟨by show _+1<=_;omega,KB (by omega) fun st' e'=>⟨by rw[List.length_append];show _+1+_<=_;omega,?_⟩⟩
   have:=hk st' e'
   rw[<-List.append_assoc (dg.take 1),<-List.append_assoc (E5 neg),hs0,hm,Int.toNat_natCast,List.append_cons]at this
   exact this
theorem ND {neg:Bool} {dg:B8} {ex:Int} (h:Cz neg dg ex) {st:St} {K:B8->St->Prop} (hk:∀st',Ae st st'->K (dcT neg dg ex) st'):CallT PR BT [.agg [.bool neg,.str dg,.int .i64 ex]] [.one .str] st K:=by
 have e0:=Ae.refl st
 unfold dcT at hk
 by_cases hne:dg=[]
 ·rw[if_pos hne]at hk
  exact CV neg dg ex st K (Aa (fun _=>hk st e0) fun g=>absurd hne g)
 rw[if_neg hne]at hk
 obtain⟨h1,h2,h3,h4,h5,h6⟩:=h.2 hne
 have hpos:=List.length_pos_iff.2 hne
 have hs:=KV neg
 have hw:i64.wrap ((dg.length:Int)+ex)=dg.length+ex:=Ac _ (by omega) (by omega)
 refine CV neg dg ex st K (Aa (fun g=>absurd g hne) fun _=>⟨fun s b s1 n st'=>E5 neg=s/\neg=b/\dg=s1/\ex=n/\st=st',Ap (fun hb=>⟨by rw[hb];rfl,rfl,rfl,rfl,rfl⟩) fun hb=>⟨by rw[hb];rfl,rfl,rfl,rfl,rfl⟩,?_⟩)
 rintro _ _ _ _ _ ⟨rfl,rfl,rfl,rfl,rfl⟩
 rw[hw]
 rw[show(if neg=true then [45]else [])=E5 neg from rfl]at hk
 have ht1:(List.take (Int.toNat 1) dg).length=1:=by rw[List.length_take];omega
 have hd1:(List.drop (Int.toNat 1) dg).length<=dg.length:=by rw[List.length_drop];omega
 refine⟨fun s p b s2 n2 st'=>E5 neg=s/\(dg.length:Int)+ex=p/\dg=s2/\ex=n2/\st=st'/\¬(0<=ex/\dg.length+ex<=21),?_,?_⟩
 ·refine Aa (fun g1=>Aa (fun g2=>?_) fun g2=>⟨rfl,rfl,rfl,rfl,rfl,fun g=>g2 g.2⟩) fun g1=>⟨rfl,rfl,rfl,rfl,rfl,fun g=>g1 g.1⟩
  rw[if_pos ⟨g1,g2⟩]at hk
  obtain⟨m,rfl⟩:∃m:Nat,ex=m:=⟨ex.toNat,by omega⟩
  refine⟨by omega,II (by omega) fun st' e'=>⟨by rw[List.length_append,F9];omega,?_⟩⟩
  have:=hk st' e'
  rw[Int.toNat_natCast,<-List.append_assoc]at this
  exact this
 rintro _ _ _ _ _ _ ⟨rfl,rfl,rfl,rfl,rfl,g⟩
 rw[if_neg g]at hk
 refine⟨fun s p b s2 n2 st'=>E5 neg=s/\(dg.length:Int)+ex=p/\dg=s2/\ex=n2/\st=st'/\¬(ex<0/\1<=dg.length+ex/\dg.length+ex<=21),?_,?_⟩
 ·refine Aa (fun g1=>Aa (fun g2=>Aa (fun g3=>?_) fun g3=>⟨rfl,rfl,rfl,rfl,rfl,fun g=>g3 g.2.2⟩) fun g2=>⟨rfl,rfl,rfl,rfl,rfl,fun g=>g2 g.2.1⟩) fun g1=>⟨rfl,rfl,rfl,rfl,rfl,fun g=>g1 g.1⟩
  rw[if_pos ⟨g1,g2,g3⟩]at hk
  have hlt:(List.take (Int.toNat ((dg.length:Int)+ex)) dg).length<=dg.length:=by rw[List.length_take];omega
  have hld:(List.drop (Int.toNat ((dg.length:Int)+ex)) dg).length<=dg.length:=by rw[List.length_drop];omega
  refine⟨⟨by omega,by omega⟩,by omega,by rw[List.length_append];show _+1<=_;omega,⟨by omega,by omega⟩,by simp only[List.length_append];show _+1+_<=_;omega,?_⟩
  have:=hk st e0
  rw[<-List.append_assoc,List.append_cons]at this
  exact this
 rintro _ _ _ _ _ _ ⟨rfl,rfl,rfl,rfl,rfl,g2⟩
 rw[if_neg g2]at hk
 refine⟨fun s p b s2 n2 st'=>E5 neg=s/\(dg.length:Int)+ex=p/\dg=s2/\st=st'/\¬(-5<=dg.length+ex/\dg.length+ex<=0),?_,?_⟩
 ·refine Aa (fun g3=>Aa (fun g4=>?_) fun g4=>⟨rfl,rfl,rfl,rfl,fun g=>g4 g.2⟩) fun g3=>⟨rfl,rfl,rfl,rfl,fun g=>g3 g.1⟩
  rw[if_pos ⟨g3,g4⟩]at hk
  obtain⟨m,hm⟩:∃m:Nat,(0:Int)-((dg.length:Int)+ex)=m:=⟨(0-((dg.length:Int)+ex)).toNat,by omega⟩
  rw[Ac _ (by omega) (by omega),hm]
  have hm2:(-((dg.length:Int)+ex)).toNat=m:=by omega
  rw[hm2]at hk
  refine⟨by show _+2<=_;omega,II (by omega) fun st' e'=>⟨by rw[List.length_append,F9];show _+2+_<=_;omega,by simp only[List.length_append,F9];show _+2+_+_<=_;omega,?_⟩⟩
  have:=hk st' e'
  rw[List.append_cons,List.append_cons,<-List.append_assoc,List.append_assoc (E5 neg)]at this
  exact this
 rintro _ _ _ _ _ _ ⟨rfl,rfl,rfl,rfl,g3⟩
 rw[if_neg g3,M9]at hk
 have hnum:∀st',Ae st st'->(if (dg.length:Int)+ex-1<0 then 45::whN ((dg.length:Int)+ex-1).natAbs else whN ((dg.length:Int)+ex-1).natAbs)=(if (dg.length:Int)+ex<1 then 45::whN (1-((dg.length:Int)+ex)).toNat else whN ((dg.length:Int)+ex-1).toNat):=fun _ _=>by
  by_cases g5:(dg.length:Int)+ex<1
  ·rw[if_pos (by omega),if_pos g5,show((dg.length:Int)+ex-1).natAbs=(1-((dg.length:Int)+ex)).toNat by omega]
  ·rw[if_neg (by omega),if_neg g5,show((dg.length:Int)+ex-1).natAbs=((dg.length:Int)+ex-1).toNat by omega]
 have hn0:=hnum st e0
 have hnl:(if (dg.length:Int)+ex<1 then 45::whN (1-((dg.length:Int)+ex)).toNat else whN ((dg.length:Int)+ex-1).toNat).length<=19:=by
  split
  ·have:=Id (n:=(1-((dg.length:Int)+ex)).toNat) (by omega)
   rw[List.length_cons];omega
  ·have:=Id (n:=((dg.length:Int)+ex-1).toNat) (by omega)
   omega
 have hexp:(if (dg.length:Int)+ex<1 then 101::45::whN (1-((dg.length:Int)+ex)).toNat else 101::whN ((dg.length:Int)+ex-1).toNat)=101::(if (dg.length:Int)+ex<1 then 45::whN (1-((dg.length:Int)+ex)).toNat else whN ((dg.length:Int)+ex-1).toNat):=by split<;>rfl
 rw[hexp]at hk
 rw[Ac ((dg.length:Int)+ex-1) (by omega) (by omega)]
 refine⟨⟨by omega,by omega⟩,by omega,Aa (fun g4=>?_) fun g4=>?_⟩
 ·rw[if_pos (by omega)]at hk
  refine⟨by rw[List.length_append];show _+1<=_;omega,⟨by omega,by omega⟩,by simp only[List.length_append];show _+1+_<=_;omega,by simp only[List.length_append];show _+1+_+1<=_;omega,HM (by omega) (by omega) ?_⟩
  rw[hn0]
  refine⟨by simp only[List.length_append];show _+1+_+1+_<=_;omega,?_⟩
  have:=hk st e0
  generalize (if (dg.length:Int)+ex<1 then 45::whN (1-((dg.length:Int)+ex)).toNat else whN ((dg.length:Int)+ex-1).toNat)=X at this⊢
  have e:E5 neg++(dg.take 1++(46::dg.drop 1++101::X))=((((E5 neg++dg.take 1)++[46])++dg.drop 1)++[101])++X:=by simp only[List.append_assoc,List.cons_append,List.nil_append]
  rw[e]at this
  exact this
 ·rw[if_neg (by omega),List.nil_append]at hk
  refine⟨by rw[List.length_append];show _+1<=_;omega,HM (by omega) (by omega) ?_⟩
  rw[hn0]
  refine⟨by simp only[List.length_append];show _+1+_<=_;omega,?_⟩
  have:=hk st e0
  rw[<-List.append_assoc,List.append_cons]at this
  exact this
def OK (y m:Nat):Nat:=if 1<=y/\y<=9999/\1<=m/\m<=12 then FT y m else 0
theorem GV {y m:Nat} (h1:1<=y) (h2:y<=9999) (h3:1<=m) (h4:m<=12):OK y m=FT y m:=if_pos ⟨h1,h2,h3,h4⟩
theorem HZ {y:Nat} {st:St} {K:Bool->St->Prop} (hk:K (decide (1<=y/\y<=9999)) st):CallT PR BI [.int .i64 (y:Int)] [.one .bool] st K:=by
 refine GC _ st K (Aa (fun g=>?_) fun g=>?_)
 ·exact BF (decide_eq_decide.2 ⟨fun h=>by omega,fun h=>by omega⟩) hk
 ·rw[decide_eq_false (by omega)]at hk;exact hk
theorem Mw {y:Nat} (h1:1<=y) (h2:y<=9999) {st:St} {K:Bool->St->Prop} (hk:K (decide (HT y)) st):CallT PR CO [.int .i64 (y:Int)] [.one .bool] st K:=by
 refine Hj _ st K (HZ ?_)
 rw[decide_eq_true ⟨h1,h2⟩,Int.tmod_eq_emod_of_nonneg (by omega),Int.tmod_eq_emod_of_nonneg (by omega),Int.tmod_eq_emod_of_nonneg (by omega)]
 unfold HT at hk
 refine Aa (p:=True) (fun _=>Aa (fun g=>Aa (fun g2=>?_) fun g2=>?_) fun g=>?_) (fun h=>absurd trivial h)
 ·exact BF (decide_eq_true (show y%4=0/\(y%100≠0∨y%400=0)from⟨by omega,.inl (by omega)⟩) |>.symm) hk
 ·exact BF (decide_eq_decide.2 ⟨fun h=>⟨by omega,.inr (by omega)⟩,fun h=>by omega⟩) hk
 ·exact BF (decide_eq_false (show ¬(y%4=0/\(y%100≠0∨y%400=0))from fun h=>by omega) |>.symm) hk
theorem days_ix:∀k:Nat,k<12->k≠1->(([.int .i64 31,.int .i64 28,.int .i64 31,.int .i64 30,.int .i64 31,.int .i64 30,.int .i64 31,.int .i64 31,.int .i64 30,.int .i64 31,.int .i64 30,.int .i64 31]:List TV)[(0+k*1)+0]?)=some (.int .i64 (if k+1=4∨k+1=6∨k+1=9∨k+1=11 then 30 else 31))
 | 0,_,_=>rfl
 | 1,_,h=>absurd rfl h
 | 2,_,_=>rfl
 | 3,_,_=>rfl
 | 4,_,_=>rfl
 | 5,_,_=>rfl
 | 6,_,_=>rfl
 | 7,_,_=>rfl
 | 8,_,_=>rfl
 | 9,_,_=>rfl
 | 10,_,_=>rfl
 | 11,_,_=>rfl
 | k+12,h,_=>by omega
theorem H1 {y m:Nat} (hm:m<=1000000) {st:St} {K:Int->St->Prop} (hk:K (OK y m:Nat) st):CallT PR Az [.int .i64 (y:Int),.int .i64 (m:Int)] [.one (.int .i64)] st K:=by
 unfold OK at hk
 refine GF _ _ st K (HZ ?_)
 by_cases hy:1<=y/\y<=9999
 ·rw[decide_eq_true hy]
  refine Aa (p:=False) (fun h=>h.elim) fun _=>Aa (fun g=>?_) fun g=>Aa (fun g2=>?_) fun g2=>?_
  ·rw[if_neg (by omega)]at hk;exact hk
  ·rw[if_neg (by omega)]at hk;exact hk
  ·rw[if_pos (by omega)]at hk
   unfold FT at hk
   rw[Ac _ (by omega) (by omega)]
   refine Aa (fun g3=>Mw hy.1 hy.2 (Aa (fun g4=>?_) fun g4=>?_)) fun g3=>⟨⟨by omega,by omega⟩,?_⟩
   ·rw[if_pos (by omega),if_pos g4]at hk;exact hk
   ·rw[if_pos (by omega),if_neg g4]at hk
    refine⟨⟨by omega,by omega⟩,?_⟩
    have:m=2:=by omega
    subst this
    exact Am (x:= .int .i64 28) rfl (I7 hk)
   ·rw[if_neg (by omega)]at hk
    obtain⟨k,rfl⟩:∃k,m=k+1:=⟨m-1,by omega⟩
    rw[show(((k+1:Nat):Int)-1)=(k:Int) by omega,Int.toNat_natCast]
    refine Am (days_ix k (by omega) (by omega)) (I7 ?_)
    split
    ·rename_i h;rw[if_pos h]at hk;exact hk
    ·rename_i h;rw[if_neg h]at hk;exact hk
 ·rw[decide_eq_false hy]
  refine Aa (p:=True) (fun _=>?_) fun h=>absurd trivial h
  rw[if_neg (fun h=>hy ⟨h.1,h.2.1⟩)]at hk;exact hk
theorem FA {y:Nat} (h1:1<=y) (h2:y<=1000000) {st:St} {K:Int->St->Prop} (hk:K (yrS y:Nat) st):CallT PR Bi [.int .i64 (y:Int)] [.one (.int .i64)] st K:=by
 refine GD _ st K ?_
 obtain⟨k,rfl⟩:∃k,y=k+1:=⟨y-1,by omega⟩
 unfold yrS at hk
 rw[Nat.add_sub_cancel]at hk
 rw[show(((k+1:Nat):Int)-1)=(k:Int) by omega,Ac (k:Int) (by omega) (by omega),Int.tdiv_eq_ediv_of_nonneg (by omega),Int.tdiv_eq_ediv_of_nonneg (by omega),Int.tdiv_eq_ediv_of_nonneg (by omega)]
 rw[Ac (365*(k:Int)) (by omega) (by omega),Ac ((k:Int)/4) (by omega) (by omega),Ac ((k:Int)/100) (by omega) (by omega),Ac ((k:Int)/400) (by omega) (by omega),Ac (365*(k:Int)+(k:Int)/4) (by omega) (by omega),Ac (365*(k:Int)+(k:Int)/4-(k:Int)/100) (by omega) (by omega),Ac _ (by omega) (by omega)]
 have e:(((365*k+k/4-k/100+k/400:Nat):Nat):Int)=365*(k:Int)+(k:Int)/4-(k:Int)/100+(k:Int)/400:=by omega
 rw[e]at hk;exact hk
theorem HY {n y:Nat} (hy:1<=y) (hy2:y<=9999) (h1:yrS y<=n) (h2:n<yrS (y+1)) (hn:n<=3652058) {st:St} {K:Int->Int->Int->Int->St->Prop} (hk:∀m d:Nat,Eb n y m d->K y m d 0 st):
  ∃(I2:Int->Int->Int->St->Prop) (M2:Int->Int->Int->St->Nat),(I2 1 (i64.wrap ((n:Int)-(yrS y:Nat))) (y:Int) st)/\∀(month_1:Int) (rest_1:Int) (year_2:Int) (st5:St),I2 month_1 rest_1 year_2 st5->(
   CallT PR Az [.int .i64 year_2,.int .i64 month_1] [.one (.int .i64)] st5 (fun (n3:Int) (st6:St)=>BIf (decide (n3<=rest_1)) (
    CallT PR Az [.int .i64 year_2,.int .i64 month_1] [.one (.int .i64)] st6 (fun (n4:Int) (st7:St)=>(I2 (i64.wrap (month_1+1)) (i64.wrap (rest_1-n4)) year_2 st7/\M2 (i64.wrap (month_1+1)) (i64.wrap (rest_1-n4)) year_2 st7<M2 month_1 rest_1 year_2 st5)))
    (K year_2 month_1 (i64.wrap (rest_1+1)) 0 st6))):=by
 rw[Ac _ (by omega) (by omega)]
 refine⟨fun mo re ye st'=>(y:Int)=ye/\st=st'/\∃m:Nat,mo=m/\1<=m/\m<=12/\re=((n-yrS y-DQ y m:Nat):Int)/\DQ y m<=n-yrS y,fun mo _ _ _=>(13-mo).toNat,⟨rfl,rfl,1,rfl,by omega,by omega,by show _=((n-yrS y-0:Nat):Int);omega,Nat.zero_le _⟩,?_⟩
 rintro _ _ _ _ ⟨rfl,rfl,m,rfl,hm1,hm2,rfl,hm3⟩
 refine H1 (by omega) ?_
 rw[GV hy hy2 hm1 hm2]
 have hs:=CK y hm1
 have hle:=EC y m
 refine Aa (fun g=>H1 (by omega) ?_) fun g=>?_
 ·rw[GV hy hy2 hm1 hm2,Ac _ (by omega) (by omega),Ac _ (by omega) (by omega)]
  have hm:m≠12:=fun e=>by
   subst e
   rw[Gw hy]at h2;omega
  exact⟨⟨rfl,rfl,m+1,by omega,by omega,by omega,by rw[hs];omega,by rw[hs];omega⟩,by dsimp only;omega⟩
 ·rw[Ac _ (by omega) (by omega)]
  have:=hk m (n-yrS y-DQ y m+1) ⟨hy,hy2,hm1,hm2,by omega,by omega,by omega⟩
  exact this
theorem date_ok {n:Nat} (hn:n<=3652058) {st:St} {K:Int->Int->Int->Int->St->Prop} (hk:∀y m d:Nat,Eb n y m d->K y m d 0 st):CallT PR CP [.int .i64 (n:Int)] [.one (.int .i64),.one (.int .i64),.one (.int .i64),.one (.int .i64)] st K:=by
 refine Hk _ st K (GE _ st _ (Aa (fun _=>?_) fun g=>by omega))
 rw[decide_eq_true (by omega)]
 refine Aa (p:=False) (fun h=>h.elim) fun _=>?_
 rw[Int.tdiv_eq_ediv_of_nonneg (by omega),Ac ((n:Int)/366) (by omega) (by omega),Ac _ (by omega) (by omega)]
 refine⟨fun ye n1 st'=>(n:Int)=n1/\st=st'/\∃y:Nat,ye=y/\1<=y/\y<=9999/\yrS y<=n,fun ye _ _=>(10000-ye).toNat,⟨rfl,rfl,n/366+1,by omega,by omega,by omega,by unfold yrS;rw[Nat.add_sub_cancel];omega⟩,?_⟩
 rintro ye _ _ ⟨rfl,rfl,y,hye,hy1,hy2,hy3⟩
 refine Aa (fun g=>?_) fun g=>?_<;>subst hye
 ·rw[Ac _ (by omega) (by omega),show((y:Int)+1)=((y+1:Nat):Int) by omega]
  refine FA (by omega) (by omega) (Aa (fun g2=>⟨⟨rfl,rfl,y+1,rfl,by omega,by omega,by omega⟩,by dsimp only;omega⟩) fun g2=>FA hy1 (by omega) ?_)
  exact HY hy1 hy2 hy3 (by omega) hn fun m d hd=>hk y m d hd
 ·refine FA hy1 (by omega) ?_
  have:y=9999:=by omega
  have h10:yrS (y+1)=3652059:=by rw[this];rfl
  exact HY hy1 hy2 hy3 (by omega) hn fun m d hd=>hk y m d hd
theorem Ow {y:Nat} (h1:1<=y) (h2:y<=9999) {st:St} {K:Bool->St->Prop} (hk:K (decide (HT y)) st):CallT PR AF [.int .i64 (y:Int)] [.one .bool] st K:=by
 refine Fg _ st K (Aa (fun _=>Aa (fun _=>?_) fun g=>by omega) fun g=>by omega)
 rw[Int.tmod_eq_emod_of_nonneg (by omega),Int.tmod_eq_emod_of_nonneg (by omega),Int.tmod_eq_emod_of_nonneg (by omega)]
 unfold HT at hk
 refine Aa (fun g=>Aa (fun g2=>?_) fun g2=>?_) fun g=>?_
 ·exact BF (decide_eq_true (show y%4=0/\(y%100≠0∨y%400=0)from⟨by omega,.inl (by omega)⟩) |>.symm) hk
 ·exact BF (decide_eq_decide.2 ⟨fun h=>⟨by omega,.inr (by omega)⟩,fun h=>by omega⟩) hk
 ·exact BF (decide_eq_decide.2 ⟨fun h=>by omega,fun h=>by omega⟩) hk
theorem Hs {y m:Nat} (hm:m<=1000000) {st:St} {K:Int->St->Prop} (hk:K (OK y m:Nat) st):CallT PR AL [.int .i64 (y:Int),.int .i64 (m:Int)] [.one (.int .i64)] st K:=by
 unfold OK at hk
 refine EX _ _ st K (Aa (fun g=>?_) fun g=>Aa (fun g2=>?_) fun g2=>?_)
 ·rw[if_neg (by omega)]at hk;exact hk
 ·rw[if_neg (by omega)]at hk;exact hk
 refine⟨fun b y' m' st'=>b=decide (m=1∨m=3∨m=5∨m=7∨m=8∨m=10∨m=12)/\(y:Int)=y'/\(m:Int)=m'/\st=st',?_,?_⟩
 ·refine Aa (fun g=>⟨decide_eq_decide.2 (by omega),rfl,rfl,rfl⟩) fun g=>Aa (fun g=>⟨decide_eq_decide.2 (by omega),rfl,rfl,rfl⟩) fun g=>Aa (fun g=>⟨decide_eq_decide.2 (by omega),rfl,rfl,rfl⟩) fun g=>
   Aa (fun g=>⟨decide_eq_decide.2 (by omega),rfl,rfl,rfl⟩) fun g=>Aa (fun g=>⟨decide_eq_decide.2 (by omega),rfl,rfl,rfl⟩) fun g=>Aa (fun g=>⟨decide_eq_decide.2 (by omega),rfl,rfl,rfl⟩) fun g=>⟨decide_eq_decide.2 (by omega),rfl,rfl,rfl⟩
 rintro _ _ _ _ ⟨rfl,rfl,rfl,rfl⟩
 unfold FT at hk
 have two:∀{x y:Int->St->Prop},True:=fun {_ _}=>trivial
 have t30:(m=4∨m=6∨m=9∨m=11)->K 30 st:=fun h=>by
  rw[if_pos (by omega),if_neg (by omega),if_pos h]at hk;exact hk
 have tz:¬(1<=m/\m<=12)->K 0 st:=fun h=>by
  rw[if_neg (by omega)]at hk;exact hk
 refine Aa (fun g3=>?_) fun g3=>?_
 ·rw[if_pos (by omega),if_neg (by omega),if_neg (by omega)]at hk;exact hk
 ·refine Aa (fun g4=>Aa (fun _=>t30 (by omega)) fun h=>absurd g4 h) fun g4=>Aa (fun g5=>Aa (fun _=>t30 (by omega)) fun h=>absurd g5 h) fun g5=>Aa (fun g6=>Aa (fun _=>t30 (by omega)) fun h=>absurd g6 h) fun g6=>Aa (fun g7=>t30 (by omega)) fun g7=>Aa (fun g8=>?_) fun g8=>tz (by omega)
  rw[if_pos (by omega),if_pos (by omega)]at hk
  refine Ow (by omega) (by omega) (Aa (fun g9=>?_) fun g9=>?_)
  ·rw[if_pos g9]at hk;exact hk
  ·rw[if_neg g9]at hk;exact hk
theorem Ke (y:Nat):∀m,DQ y m<=31*m
 | 0=>Nat.le_refl _
 | 1=>Nat.zero_le _
 | m+2=>by
  have:=Ke y (m+1)
  have:=EC y (m+1)
  simp only[DQ];omega
theorem ID {y:Nat} (h1:1<=y) (h2:y<=9999) {st:St} {K:Int->St->Prop} (hk:K (DQ y 12+FT y 12:Nat) st):CallT PR AZ [.int .i64 (y:Int)] [.one (.int .i64)] st K:=by
 refine Es _ st K ⟨fun n mo ye st'=>(y:Int)=ye/\st=st'/\∃m:Nat,mo=m/\1<=m/\m<=13/\n=(DQ y m:Nat),fun _ mo _ _=>(13-mo).toNat,⟨rfl,rfl,1,rfl,by omega,by omega,rfl⟩,?_⟩
 rintro _ _ _ _ ⟨rfl,rfl,m,rfl,hm1,hm2,rfl⟩
 have hle:=Ke y m
 refine Aa (fun g=>Hs (by omega) ?_) fun g=>?_
 ·have:=EC y m
  rw[GV h1 h2 hm1 (by omega),Ac _ (by omega) (by omega),Ac _ (by omega) (by omega)]
  exact⟨⟨rfl,rfl,m+1,by omega,by omega,by omega,by rw[CK y hm1];omega⟩,by dsimp only;omega⟩
 ·have:m=13:=by omega
  subst this
  rw[CK y (by omega)];exact hk
theorem Oy {n:Nat} (hn:n<=3652058) {st:St} {K:Int->Int->Int->Int->St->Prop} (hk:∀y m d:Nat,Eb n y m d->K y m d 0 st):CallT PR BS [.int .i64 (n:Int)] [.one (.int .i64),.one (.int .i64),.one (.int .i64),.one (.int .i64)] st K:=by
 refine Fh _ st K (Gf _ st _ (Aa (fun _=>?_) fun g=>by omega))
 rw[decide_eq_true (by omega)]
 refine Aa (p:=False) (fun h=>h.elim) fun _=>?_
 refine⟨fun n1 ye mo st'=>mo=1/\st=st'/\∃y:Nat,ye=y/\1<=y/\y<=9999/\yrS y<=n/\n1=((n-yrS y:Nat):Int),fun _ ye _ _=>(10000-ye).toNat,⟨rfl,rfl,1,rfl,by omega,by omega,Nat.zero_le _,by show _=((n-0:Nat):Int);omega⟩,?_⟩
 rintro _ _ _ _ ⟨rfl,rfl,y,rfl,hy1,hy2,hy3,rfl⟩
 have hss:=Gw hy1
 have hle:=Ke y 12
 have hle2:=EC y 12
 refine ID hy1 hy2 (Aa (fun g=>ID hy1 hy2 ?_) fun g=>?_)
 ·rw[Ac _ (by omega) (by omega),Ac _ (by omega) (by omega)]
  have h9:y≠9999:=fun e=>by
   subst e
   have:yrS (9999+1)=3652059:=rfl
   omega
  exact⟨⟨rfl,rfl,y+1,by omega,by omega,by omega,by omega,by omega⟩,by dsimp only;omega⟩
 ·refine⟨fun re mo ye st'=>(y:Int)=ye/\st=st'/\∃m:Nat,mo=m/\1<=m/\m<=12/\re=((n-yrS y-DQ y m:Nat):Int)/\DQ y m<=n-yrS y,fun _ mo _ _=>(13-mo).toNat,⟨rfl,rfl,1,rfl,by omega,by omega,by show _=((n-yrS y-0:Nat):Int);omega,Nat.zero_le _⟩,?_⟩
  rintro _ _ _ _ ⟨rfl,rfl,m,rfl,hm1,hm2,rfl,hm3⟩
  refine Hs (by omega) ?_
  rw[GV hy1 hy2 hm1 hm2]
  have hs:=CK y hm1
  have hle:=EC y m
  refine Aa (fun g=>Hs (by omega) ?_) fun g=>?_
  ·rw[GV hy1 hy2 hm1 hm2,Ac _ (by omega) (by omega),Ac _ (by omega) (by omega)]
   have hm:m≠12:=fun e=>by subst e;omega
   exact⟨⟨rfl,rfl,m+1,by omega,by omega,by omega,by rw[hs];omega,by rw[hs];omega⟩,by dsimp only;omega⟩
  ·rw[Ac _ (by omega) (by omega)]
   exact hk y m (n-yrS y-DQ y m+1) ⟨hy1,hy2,hm1,hm2,by omega,by omega,by omega⟩
def numF (w:Nat) (s:B8):Prop:=w<=s.length/\∀i,i<w->El (s.getD i 0)
instance (w:Nat) (s:B8):Decidable (numF w s):=inferInstanceAs (Decidable (_/\_))
def likeF (form s:B8):Prop:=form.length<=s.length/\∀i,i<form.length->if form.getD i 0=100 then El (s.getD i 0)else s.getD i 0=form.getD i 0
instance (form s:B8):Decidable (likeF form s):=inferInstanceAs (Decidable (_/\_))
end Go.TVF
section
namespace Go.Proofs
open Go.Shelf
def Tryz.lays137_ren:Go.Shelf.Ren:=⟨fun | 137=>138 | 217=>241 | 266=>300 | n=>n,fun | 9=>9 | 5=>5 | 3=>3 | n=>n,fun | n=>n⟩
theorem Tryz.lays137:Go.Proofs.Lays.n137 Tryz.prog Tryz.lays137_ren:={
 mixed:=by kernel_rfl
 f137:=Tryz.func138.trans (congrArg some (by kernel_rfl))
 f217:=Tryz.func241.trans (congrArg some (by kernel_rfl))
 f266:=Tryz.func300.trans (congrArg some (by kernel_rfl))
 t3:=Tryz.underlying3
 a3:=Tryz.isAgg3
 z3:=Tryz.sizeOf3
 v3:=Tryz.zeroValue3
 t5:=Tryz.underlying5
 a5:=Tryz.isAgg5
 z5:=Tryz.sizeOf5
 v5:=Tryz.zeroValue5
 t9:=Tryz.underlying9
 a9:=Tryz.isAgg9
 z9:=Tryz.sizeOf9
 v9:=Tryz.zeroValue9}
open Go.RowKit in
theorem Tryz.strings_IndexByte (s:ByteArray) (c:Int) (w:World):
  Calls Tryz.prog 138 #[.string s,.int .u8 c] w fun e w'=>e= .returned (.int .i64 (Lib.indexByte s.data.toList c.toNat.toUInt8))/\w'=w:=Any.strings_IndexByte Tryz.lays137 s c w
def Tryz.lays197_ren:Go.Shelf.Ren:=⟨fun | 197=>167 | 260=>260 | n=>n,fun | 9=>9 | 21=>21 | 3=>3 | 4=>4 | 5=>5 | 105=>213 | 119=>306 | 0=>0 | 46=>189 | 139=>309 | 138=>308 | n=>n,fun | 3=>0 | 4=>1 | n=>n⟩
theorem Tryz.lays197:Go.Proofs.Lays.n197 Tryz.prog Tryz.lays197_ren:={
 mixed:=by kernel_rfl
 f197:=Tryz.func167.trans (congrArg some (by kernel_rfl))
 f260:=Tryz.func260.trans (congrArg some (by kernel_rfl))
 t0:=Tryz.underlying0
 a0:=Tryz.isAgg0
 z0:=Tryz.sizeOf0
 v0:=Tryz.zeroValue0
 t3:=Tryz.underlying3
 a3:=Tryz.isAgg3
 z3:=Tryz.sizeOf3
 v3:=Tryz.zeroValue3
 t4:=Tryz.underlying4
 a4:=Tryz.isAgg4
 z4:=Tryz.sizeOf4
 v4:=Tryz.zeroValue4
 t5:=Tryz.underlying5
 a5:=Tryz.isAgg5
 z5:=Tryz.sizeOf5
 v5:=Tryz.zeroValue5
 t9:=Tryz.underlying9
 a9:=Tryz.isAgg9
 z9:=Tryz.sizeOf9
 v9:=Tryz.zeroValue9
 t21:=Tryz.underlying21
 a21:=Tryz.isAgg21
 z21:=Tryz.sizeOf21
 v21:=Tryz.zeroValue21
 t46:=Tryz.underlying189
 a46:=Tryz.isAgg189
 z46:=Tryz.sizeOf189
 v46:=Tryz.zeroValue189
 t105:=Tryz.underlying213
 a105:=Tryz.isAgg213
 z105:=Tryz.sizeOf213
 v105:=Tryz.zeroValue213
 t119:=Tryz.underlying306
 a119:=Tryz.isAgg306
 z119:=Tryz.sizeOf306
 t138:=Tryz.underlying308
 a138:=Tryz.isAgg308
 z138:=Tryz.sizeOf308
 v138:=Tryz.zeroValue308
 t139:=Tryz.underlying309
 a139:=Tryz.isAgg309
 z139:=Tryz.sizeOf309
 v139:=Tryz.zeroValue309
 g3:=by kernel_rfl
 g4:=by kernel_rfl}
open Go.RowKit Go.Lib in
theorem Tryz.utf8_DecodeRuneInString (s:ByteArray) (w:World) (hT:Lib.Utf8Tabs 0 1 w):
  Calls Tryz.prog 167 #[.string s] w fun e w'=>e= .returned (.tuple #[.int .i32 (Lib.decodeGo s).1,.int .i64 (Lib.decodeGo s).2])/\Below w.heap.size w w':=Any.utf8_DecodeRuneInString Tryz.lays197 s w hT
end Go.Proofs
end
section
namespace Go.TVF
open Go.IntKind(i64 u8)
open Go Go.Proofs
theorem Gb (p:TV) (r:Int) (st:St) (K:TV->St->Prop) (h:BId ((IntKind.u32.wrap r)<=(127:Int)) (Bp 5 1 1 p 1 [(.int .u8 (u8.wrap r))] st (fun (v1:TV) b=>K v1 b)) (CallT PR BN [p,.int .i32 r] [.one .tv] st (fun (v2:TV) a=>K v2 a))):CallT PR Bt [p,.int .i32 r] [.one .tv] st K:=
 Ab (cfg:=⟨[],[],[]⟩) (h:= .none) mixed (fun _ _=>Tryz.call210 _ _) Tryz.func210 (by kernel_rfl) (by kernel_rfl) h
theorem Dz (p:TV) (r:Int) (st:St) (K:TV->St->Prop) (h:BId ((IntKind.u32.wrap r)<=(2047:Int)) (Bp 5 1 1 p 2 [(.int .u8 (Af .or .u8 (192:Int) (u8.wrap (Int.fdiv r (2^(min (Int.toNat (6:Int)) (IntKind.bits .i32))))))),(.int .u8 (Af .or .u8 (128:Int) (Af .and .u8 (u8.wrap r) (63:Int))))] st (fun (v1:TV) i=>K v1 i)) (BId ((IntKind.u32.wrap r)<(55296:Int)) (BId ((IntKind.u32.wrap r)<(55296:Int)) (Bp 5 1 1 p 3 [(.int .u8 (Af .or .u8 (224:Int) (u8.wrap (Int.fdiv r (2^(min (Int.toNat (12:Int)) (IntKind.bits .i32))))))),(.int .u8 (Af .or .u8 (128:Int) (Af .and .u8 (u8.wrap (Int.fdiv r (2^(min (Int.toNat (6:Int)) (IntKind.bits .i32))))) (63:Int)))),(.int .u8 (Af .or .u8 (128:Int) (Af .and .u8 (u8.wrap r) (63:Int))))] st (fun (v2:TV) f=>K v2 f)) (BId ((65535:Int)<(IntKind.u32.wrap r)) (BId ((IntKind.u32.wrap r)<=(1114111:Int)) (Bp 5 1 1 p 4 [(.int .u8 (Af .or .u8 (240:Int) (u8.wrap (Int.fdiv r (2^(min (Int.toNat (18:Int)) (IntKind.bits .i32))))))),(.int .u8 (Af .or .u8 (128:Int) (Af .and .u8 (u8.wrap (Int.fdiv r (2^(min (Int.toNat (12:Int)) (IntKind.bits .i32))))) (63:Int)))),(.int .u8 (Af .or .u8 (128:Int) (Af .and .u8 (u8.wrap (Int.fdiv r (2^(min (Int.toNat (6:Int)) (IntKind.bits .i32))))) (63:Int)))),(.int .u8 (Af .or .u8 (128:Int) (Af .and .u8 (u8.wrap r) (63:Int))))] st (fun (v3:TV) o=>K v3 o)) (Bp 5 1 1 p 3 [.int .u8 239,.int .u8 191,.int .u8 189] st (fun (v4:TV) l=>K v4 l))) (Bp 5 1 1 p 3 [.int .u8 239,.int .u8 191,.int .u8 189] st (fun (v5:TV) q=>K v5 q)))) (BId ((57343:Int)<(IntKind.u32.wrap r)) (BId ((IntKind.u32.wrap r)<=(65535:Int)) (Bp 5 1 1 p 3 [(.int .u8 (Af .or .u8 (224:Int) (u8.wrap (Int.fdiv r (2^(min (Int.toNat (12:Int)) (IntKind.bits .i32))))))),(.int .u8 (Af .or .u8 (128:Int) (Af .and .u8 (u8.wrap (Int.fdiv r (2^(min (Int.toNat (6:Int)) (IntKind.bits .i32))))) (63:Int)))),(.int .u8 (Af .or .u8 (128:Int) (Af .and .u8 (u8.wrap r) (63:Int))))] st (fun (v6:TV) n=>K v6 n)) (BId ((65535:Int)<(IntKind.u32.wrap r)) (BId ((IntKind.u32.wrap r)<=(1114111:Int)) (Bp 5 1 1 p 4 [(.int .u8 (Af .or .u8 (240:Int) (u8.wrap (Int.fdiv r (2^(min (Int.toNat (18:Int)) (IntKind.bits .i32))))))),(.int .u8 (Af .or .u8 (128:Int) (Af .and .u8 (u8.wrap (Int.fdiv r (2^(min (Int.toNat (12:Int)) (IntKind.bits .i32))))) (63:Int)))),(.int .u8 (Af .or .u8 (128:Int) (Af .and .u8 (u8.wrap (Int.fdiv r (2^(min (Int.toNat (6:Int)) (IntKind.bits .i32))))) (63:Int)))),(.int .u8 (Af .or .u8 (128:Int) (Af .and .u8 (u8.wrap r) (63:Int))))] st (fun (v7:TV) g=>K v7 g)) (Bp 5 1 1 p 3 [.int .u8 239,.int .u8 191,.int .u8 189] st (fun (v8:TV) d=>K v8 d))) (Bp 5 1 1 p 3 [.int .u8 239,.int .u8 191,.int .u8 189] st (fun (v9:TV) e=>K v9 e)))) (BId ((65535:Int)<(IntKind.u32.wrap r)) (BId ((IntKind.u32.wrap r)<=(1114111:Int)) (Bp 5 1 1 p 4 [(.int .u8 (Af .or .u8 (240:Int) (u8.wrap (Int.fdiv r (2^(min (Int.toNat (18:Int)) (IntKind.bits .i32))))))),(.int .u8 (Af .or .u8 (128:Int) (Af .and .u8 (u8.wrap (Int.fdiv r (2^(min (Int.toNat (12:Int)) (IntKind.bits .i32))))) (63:Int)))),(.int .u8 (Af .or .u8 (128:Int) (Af .and .u8 (u8.wrap (Int.fdiv r (2^(min (Int.toNat (6:Int)) (IntKind.bits .i32))))) (63:Int)))),(.int .u8 (Af .or .u8 (128:Int) (Af .and .u8 (u8.wrap r) (63:Int))))] st (fun (j:TV) a=>K j a)) (Bp 5 1 1 p 3 [.int .u8 239,.int .u8 191,.int .u8 189] st (fun (m:TV) b=>K m b))) (Bp 5 1 1 p 3 [.int .u8 239,.int .u8 191,.int .u8 189] st (fun (k:TV) c=>K k c)))))):CallT PR BN [p,.int .i32 r] [.one .tv] st K:=
 Ab (cfg:=⟨[],[],[]⟩) (h:= .none) mixed (fun _ _=>Tryz.call281 _ _) Tryz.func281 (by kernel_rfl) (by kernel_rfl) h
end Go.TVF
end
section
namespace Go.TVF
open Go.IntKind(i64 u8)
open Go Go.Proofs Go.RowKit
theorem Sim.grown {g:Ghost} {st:St} {loc:List (Option (List TV))} {w w':World} (s:Sim g st loc w) (h:Below w.heap.size w w'):Sim g st loc w'/\Ext g w g w':=
 s.world h.size (s.below.trans (h.mono s.fits)) h.block
def dG (l:B8):Nat×Nat:=if l=[]then(65533,0)else dN l
theorem dG_eq (l:B8):Lib.decodeGo ⟨l.toArray⟩=dG l:=by
 unfold Lib.decodeGo dG
 by_cases h:l=[]
 ·subst h;rfl
 ·rw[if_neg h,if_neg (by simpa [ByteArray.size]using h),Lib.decode_at]
  unfold dN bt
  have hg:∀i,(ByteArray.get! ⟨l.toArray⟩ i)=l.getD i 0:=fun i=>by
   simp[ByteArray.get!,List.getD]
   rfl
  simp only[hg,Nat.zero_add,Nat.sub_zero]
  rfl
theorem NX {l:B8} {st:St} {K:Int->Int->St->Prop} (hk:K ((dG l).1:Nat) ((dG l).2:Nat) st):CallT PR Aw [.str l] [.one (.int .i32),.one (.int .i64)] st K:=by
 refine Co (fun _ _=>by kernel_rfl) fun g w vargs s hr=>?_
 obtain⟨v,rfl,hv⟩:=Ou hr
 rw[CX hv]
 refine Calls.mono (Tryz.utf8_DecodeRuneInString ⟨l.toArray⟩ w (s.glob w s.below)) ?_
 rintro e w' ⟨rfl,hb⟩
 obtain⟨s',e'⟩:=s.grown hb
 rw[dG_eq]
 exact⟨_,rfl,.tuple [.int .i32 ((dG l).1:Nat),.int .i64 ((dG l).2:Nat)],st,g,hk,s',Rel.tuple _ [_,_] rfl (Aq.cons (Rel.int _ _) (Aq.cons (Rel.int _ _) (Aq.nil _ _))).2,e'⟩
theorem EE {l:B8} {c:Int} {st:St} {K:Int->St->Prop} (hk:K (Lib.indexByte l c.toNat.toUInt8) st):CallT PR Ax [.str l,.int .u8 c] [.one (.int .i64)] st K:=by
 refine Co (fun _ _=>by kernel_rfl) fun g w vargs s hr=>?_
 obtain⟨v,u,rfl,hv,hu⟩:=IA hr
 rw[CX hv,HO hu]
 refine Calls.mono (Tryz.strings_IndexByte ⟨l.toArray⟩ c w) ?_
 rintro e w' ⟨rfl,rfl⟩
 exact⟨_,rfl,.int .i64 _,st,g,hk,s,Rel.int _ _,Ext.refl _ _⟩
end Go.TVF
end
namespace Go.TVF
open Go.IntKind(i64 u8)
open Go Go.Proofs
def H2 (c:Int):Bool:=decide (97<=c/\c<=122∨65<=c/\c<=90∨48<=c/\c<=57∨c=95∨c=45)
def CC (c:Int):Bool:=decide (97<=c/\c<=122∨65<=c/\c<=90∨48<=c/\c<=57∨c=95∨c=45∨c=43∨c=46∨c=58)
def Hl (c:Int):Bool:=decide (c=32∨c=9)
def Cls (st:St) (v:TV) (p:Int->Bool):Prop:=
 ∀st',Ae st st'->∀(c:Int) (K:Bool->St->Prop),K (p c) st'->Jf PR v [.int .u8 c] [.one (.bool)] st' K
theorem Lt {c:Int} {st:St} {K:Bool->St->Prop} (hk:K (H2 c) st):CallT PR Ar [.int .u8 c] [.one (.bool)] st K:=by
 refine ER c st K ?_
 unfold H2 at hk
 repeat' (refine Aa (fun _=>?_) fun _=>?_)
 all_goals first | exact BF (decide_eq_true (by omega)).symm hk | exact BF (decide_eq_false (by omega)).symm hk | exact BF (decide_eq_decide.2 (by omega)) hk
theorem cls1 (st:St):Cls st (.func Ar []) H2:=fun st' _ c K hk=>Lt hk
theorem cls2 {st:St} {b:Nat} (hb:st.box b= .cells [.func Ar []]) (hlt:b<st.nb):Cls st (.func Bz [.box b 0]) CC:=by
 intro st' e c K hk
 refine EQ c _ st' K (Am (x:= .func Ar []) (by simp[Ak,e.box b hlt,hb]) ?_)
 refine cls1 st' st' (Ae.refl _) c _ ?_
 unfold H2
 unfold CC at hk
 refine Aa (fun _=>?_) fun _=>?_
 ·exact BF (decide_eq_true (by omega)).symm hk
 ·repeat' (refine Aa (fun _=>?_) fun _=>?_)
  all_goals first | exact BF (decide_eq_true (by omega)).symm hk | exact BF (decide_eq_false (by omega)).symm hk | exact BF (decide_eq_decide.2 (by omega)) hk
theorem Ls (st:St):Cls st (.func BH []) Hl:=fun st' _ c K hk=>by
 refine Gy c st' K ?_
 unfold Hl at hk
 refine Aa (fun _=>?_) fun _=>?_
 ·exact BF (decide_eq_true (by omega)).symm hk
 ·exact BF (decide_eq_decide.2 (by omega)) hk
theorem MS {st:St} {b:Nat} {l xs:List TV} {k:St->Prop} (hb:st.box b= .cells l) (hl:0+xs.length<=l.length) (hk:k (st.put b (.cells (setAll l 0 xs)))):stB st (.box b 0) xs k:=⟨l,hb,hl,hk⟩
theorem Gr {st:St} {K:TV->TV->St->Prop} (hk:∀v u st',Ae st st'->Cls st' v H2->Cls st' u CC->K v u st'):CallT PR AX [] [.one (.tv),.one (.tv)] st K:=by
 refine FN st K (MS (Lx _ _ _) (by simp) ?_)
 refine Am (x:= .func Ar []) (by simp[Ak,G6,setAll]) (AH rfl ?_)
 refine MS (G6 _ _ _) (by simp[setAll]) ?_
 refine Am (x:= .func Ar []) (by simp[Ak,G6,setAll]) ?_
 refine hk _ _ _ (((Ae.refl st).push _ _).put (Nat.le_refl _) _ |>.put (Nat.le_refl _) _) (cls1 _) (cls2 (by simp[G6,setAll]) (by simp[St.put,St.push]))
def twl (p:Int->Bool):B8->Nat
 | []=>0
 | c::r=>if p (c.toNat:Int)then twl p r+1 else 0
theorem Il (p:Int->Bool):∀l,twl p l<=l.length
 | []=>by simp[twl]
 | c::r=>by
  have:=Il p r
  simp only[twl,List.length_cons]
  split<;>omega
theorem GG (p:Int->Bool) (s:B8) (i:Nat) (h:i<s.length):twl p (s.drop i)=if p (((s.getD i 0).toNat:Nat):Int)then twl p (s.drop (i+1))+1 else 0:=by
 rw[FJ s i 0 h];rfl
theorem twl_end (p:Int->Bool) (s:B8) (i:Nat) (h:s.length<=i):twl p (s.drop i)=0:=by
 rw[List.drop_of_length_le h];rfl
theorem GH {s:B8} {I:Int} {i:Nat} {v:TV} {p:Int->Bool} {st:St} {K:Int->St->Prop} (hI:I=(i:Int)) (hl:s.length<=2000000) (hi:i<=s.length) (hc:Cls st v p) (hk:K ((i+twl p (s.drop i):Nat):Int) st):
  CallT PR AW [.str s,.int .i64 I,v] [.one (.int .i64)] st K:=by
 refine H4 s I v st K ⟨fun j s' v' st'=>s=s'/\v=v'/\st=st'/\∃k:Nat,j=(k:Int)/\k<=s.length/\k+twl p (s.drop k)=i+twl p (s.drop i),fun j _ _ _=>(s.length-j).toNat,⟨rfl,rfl,rfl,i,hI,hi,rfl⟩,?_⟩
 rintro _ _ _ _ ⟨rfl,rfl,rfl,k,rfl,h1,h2⟩
 refine Aa (fun h3=>⟨⟨by omega,h3⟩,hc st (Ae.refl _) _ _ (Ap (fun h4=>?_) fun h4=>?_)⟩) fun h3=>?_
 ·have hd:=GG p s k (by omega)
  rw[show Int.toNat (k:Int)=k from rfl]at h4
  rw[if_pos h4]at hd
  rw[Ac _ (by omega) (by omega)]
  exact⟨⟨rfl,rfl,rfl,k+1,by omega,by omega,by omega⟩,by dsimp only;omega⟩
 ·have hd:=GG p s k (by omega)
  rw[show Int.toNat (k:Int)=k from rfl]at h4
  rw[if_neg (by rw[h4];simp)]at hd
  have:k=i+twl p (s.drop i):=by omega
  rw[<-this]at hk;exact hk
 ·rw[twl_end p s k (by omega)]at h2
  have:k=i+twl p (s.drop i):=by omega
  rw[<-this]at hk;exact hk
def I6 (c:Int):Bool:=decide (48<=c/\c<=57)
def CA:List (Option UInt8)->B8->Bool
 | [],_=>true
 | _::_,[]=>false
 | none::ps,c::cs=>I6 (c.toNat:Int)&&CA ps cs
 | some a::ps,c::cs=>decide (c=a)&&CA ps cs
def Dl (d:UInt8) (p:B8):List (Option UInt8):=p.map fun c=>if c=d then none else some c
theorem DD:∀(ps:List (Option UInt8)) (l:B8),l.length<ps.length->CA ps l=false
 | [],l,h=>by simp at h
 | _::_,[],_=>by cases ‹Option UInt8›<;>rfl
 | none::ps,c::cs,h=>by simp only[CA];rw[DD ps cs (by simpa using h)];simp
 | some a::ps,c::cs,h=>by simp only[CA];rw[DD ps cs (by simpa using h)];simp
theorem NK (d:UInt8) (p s:B8) (k:Nat) (hp:k<p.length) (hs:k<s.length):CA (Dl d (p.drop k)) (s.drop k)=
  ((if p.getD k 0=d then I6 ((s.getD k 0).toNat:Int)else decide (s.getD k 0=p.getD k 0))&&CA (Dl d (p.drop (k+1))) (s.drop (k+1))):=by
 rw[FJ p k 0 hp,FJ s k 0 hs]
 simp only[Dl,List.map_cons]
 by_cases h:p.getD k 0=d
 ·rw[if_pos h,if_pos h];rfl
 ·rw[if_neg h,if_neg h];rfl
theorem OB (d:UInt8) (p s:B8) (k:Nat) (hp:p.length<=k):CA (Dl d (p.drop k)) s=true:=by
 rw[List.drop_of_length_le hp];rfl
theorem Fs:∀(a b:List (Option UInt8)) (l:B8),CA (a++b) l=(CA a l&&CA b (l.drop a.length))
 | [],b,l=>by simp[CA]
 | _::_,b,[]=>by cases ‹Option UInt8›<;>simp[CA]
 | none::a,b,c::l=>by simp only[List.cons_append,CA,Fs a b l,List.length_cons,List.drop_succ_cons,Bool.and_assoc]
 | some x::a,b,c::l=>by simp only[List.cons_append,CA,Fs a b l,List.length_cons,List.drop_succ_cons,Bool.and_assoc]
theorem IG {s p:B8} {st:St} {K:Bool->St->Prop} (hp:p.length<=1000) (hk:K (CA (Dl 48 p) s) st):CallT PR Bk [.str s,.str p] [.one (.bool)] st K:=by
 refine FL s p st K (Aa (fun h=>?_) fun h0=>⟨fun j s' p' st'=>s=s'/\p=p'/\st=st'/\∃k:Nat,j=(k:Int)/\k<=p.length/\CA (Dl 48 (p.drop k)) (s.drop k)=CA (Dl 48 p) s,fun j _ _ _=>(p.length-j).toNat,⟨rfl,rfl,rfl,0,rfl,by omega,rfl⟩,?_⟩)
 ·rw[DD _ _ (by simp[Dl];omega)]at hk;exact hk
 rintro _ _ _ _ ⟨rfl,rfl,rfl,k,rfl,h1,h2⟩
 have go:(I:Prop)->True:=fun _=>trivial
 refine Aa (fun h3=>?_) fun h3=>?_
 ·have hd:=NK 48 p s k (by omega) (by omega)
  have e48:∀x:UInt8,((x.toNat:Int)=48)↔x=48:=fun x=>Nl x 48
  rw[h2]at hd
  rw[show Int.toNat (k:Int)=k from rfl]
  refine⟨⟨by omega,by omega⟩,Aa (fun h4=>?_) fun h4=>?_⟩
  ·rw[if_pos ((e48 _).1 h4)]at hd
   refine⟨⟨by omega,by omega⟩,Aa (fun h5=>?_) fun h5=>⟨⟨by omega,by omega⟩,Aa (fun h6=>?_) fun h6=>⟨⟨by omega,by omega⟩,Aa (fun h7=>absurd h4 h7) fun _=>?_⟩⟩⟩
   ·have:I6 ((s.getD k 0).toNat:Int)=false:=decide_eq_false (by omega)
    rw[this]at hd;rw[hd]at hk;exact hk
   ·have:I6 ((s.getD k 0).toNat:Int)=false:=decide_eq_false (by omega)
    rw[this]at hd;rw[hd]at hk;exact hk
   ·have:I6 ((s.getD k 0).toNat:Int)=true:=decide_eq_true (by omega)
    rw[this,Bool.true_and]at hd
    rw[Ac _ (by omega) (by omega)]
    exact⟨⟨rfl,rfl,rfl,k+1,by omega,by omega,hd.symm⟩,by dsimp only;omega⟩
  ·rw[if_neg (fun h=>h4 ((e48 _).2 h))]at hd
   refine⟨⟨by omega,by omega⟩,Aa (fun _=>⟨⟨by omega,by omega⟩,⟨⟨by omega,by omega⟩,Aa (fun h5=>?_) fun h5=>?_⟩⟩) fun h7=>absurd h4 h7⟩
   ·have:decide (s.getD k 0=p.getD k 0)=false:=decide_eq_false (fun h=>h5 (by rw[h]))
    rw[this]at hd;rw[hd]at hk;exact hk
   ·have:decide (s.getD k 0=p.getD k 0)=true:=decide_eq_true ((Nl _ _).1 (Decidable.not_not.1 h5))
    rw[this,Bool.true_and]at hd
    rw[Ac _ (by omega) (by omega)]
    exact⟨⟨rfl,rfl,rfl,k+1,by omega,by omega,hd.symm⟩,by dsimp only;omega⟩
 ·rw[OB 48 p _ k (by omega)]at h2
  rw[<-h2]at hk;exact hk
theorem wrapU32 (x:Int) (h1:0<=x) (h2:x<=4294967295):IntKind.wrap .u32 x=x:=by
 unfold IntKind.wrap
 simp only[IntKind.signed,IntKind.bits]
 simp
 omega
theorem LC (x:Int) (h1: -2147483648<=x) (h2:x<=2147483647):IntKind.wrap .i32 x=x:=by
 unfold IntKind.wrap
 simp only[IntKind.signed,IntKind.bits]
 simp
 omega
theorem MJ (n:Nat):IntKind.wrap .u8 (n:Int)=((n%256:Nat):Int):=by rw[Da];simp
theorem or8N (a b m:Nat) (hb:b<2^m) (h:a*2^m+b<2^8) (x y:Int) (hx:x=((a*2^m:Nat):Int)) (hy:y=(b:Int)):Af .or .u8 x y=((a*2^m+b:Nat):Int):=by
 have hb':b<2^8:=by omega
 rw[hx,hy,or_u8 _ _ (by omega) hb',Nat.mul_comm a,Nat.two_pow_add_eq_or_of_lt hb]
theorem low6 (x:Nat):Af .and .u8 (u8.wrap (x:Int)) (63:Int)=((x%64:Nat):Int):=by
 rw[MJ,show(63:Int)=((63:Nat):Int)from rfl,Pv _ _ (by omega) (by omega),show(63:Nat)=2^6-1 from rfl,Nat.and_two_pow_sub_one_eq_mod]
 congr 1;omega
theorem Nk (x:Nat):Af .or .u8 (128:Int) (Af .and .u8 (u8.wrap (x:Int)) (63:Int))=(((UInt8.ofNat (128+x%64)).toNat:Nat):Int):=by
 rw[low6,or8N 2 (x%64) 6 (by omega) (by omega) (128:Int) _ rfl rfl]
 simp
 omega
theorem OR (a b m:Nat) (hb:b<2^m) (h:a*2^m+b<2^8) (x:Int) (hx:x=((a*2^m:Nat):Int)):Af .or .u8 x (u8.wrap (b:Int))=(((UInt8.ofNat (a*2^m+b)).toNat:Nat):Int):=by
 have hb':b<256:=by omega
 rw[MJ,Nat.mod_eq_of_lt hb',or8N a b m hb h _ _ hx rfl,UInt8.toNat_ofNat',Nat.mod_eq_of_lt (show a*2^m+b<2^8 from h)]
theorem Ll (r:Nat):1<=(C7 r).length/\(C7 r).length<=4:=by
 unfold C7
 repeat' split
 all_goals simp
theorem Jv {R:Int} {r:Nat} {st0 st:St} {v:TV} {l:B8} {K:TV->St->Prop} (hR:R=(r:Int)) (hc:Au r) (e:Ae st0 st) (h:G8 st0.nt st v l) (hby:l.length<=140737488355320)
  (hk:∀v' st',Ae st0 st'->G8 st0.nt st' v' (l++C7 r)->K v' st'):CallT PR Bt [v,.int .i32 R] [.one (.tv)] st K:=by
 have hr2:r<=1114111:=hc.1
 have hu:IntKind.u32.wrap R=R:=wrapU32 _ (by omega) (by omega)
 have hel:=Ll r
 have shr:∀m,m<=32->Int.fdiv R (2^(min m (IntKind.bits .i32)))=((r/2^m:Nat):Int):=fun m hm=>by
  rw[hR,show min m (IntKind.bits .i32)=m from Nat.min_eq_left hm,show(2:Int)^m=((2^m:Nat):Int) by simp,Int.fdiv_eq_ediv_of_nonneg _ (Int.natCast_nonneg _)]
  rfl
 have s6:=shr 6 (by decide)
 have s12:=shr 12 (by decide)
 have s18:=shr 18 (by decide)
 have cR:Af .or .u8 (128:Int) (Af .and .u8 (u8.wrap R) (63:Int))=(((UInt8.ofNat (128+r%64)).toNat:Nat):Int):=by rw[hR];exact Nk r
 have i6:Int.toNat (6:Int)=6:=rfl
 have i12:Int.toNat (12:Int)=12:=rfl
 have i18:Int.toNat (18:Int)=18:=rfl
 refine Gb v R st K ?_
 rw[hu]
 refine Aa (fun h1=>?_) fun h1=>?_
 ·have hE:C7 r=[UInt8.ofNat r]:=by unfold C7;rw[if_pos (by omega)]
  rw[hE]at hk hel
  exact CT e h rfl (by simp only[Ai,List.map,Cg];rw[hR,Da]) (by simp;omega) fun v' st' e' _ ho=>hk v' st' e' ho
 ·refine Dz v R st _ ?_
  rw[hu]
  refine Aa (fun h2=>?_) fun h2=>?_
  ·have hE:C7 r=[UInt8.ofNat (192+r/64),UInt8.ofNat (128+r%64)]:=by unfold C7;rw[if_neg (by omega),if_pos (by omega)]
   rw[hE]at hk
   refine CT e h rfl ?_ (by simp;omega) fun v' st' e' _ ho=>hk v' st' e' ho
   simp only[Ai,List.map,Cg]
   rw[cR,i6,s6,OR 6 (r/2^6) 5 (by omega) (by omega) (192:Int) rfl]
  ·have t3:r<65536->Bp 5 1 1 v 3 [(.int .u8 (Af .or .u8 (224:Int) (u8.wrap (Int.fdiv R (2^(min (Int.toNat (12:Int)) (IntKind.bits .i32))))))),(.int .u8 (Af .or .u8 (128:Int) (Af .and .u8 (u8.wrap (Int.fdiv R (2^(min (Int.toNat (6:Int)) (IntKind.bits .i32))))) (63:Int)))),(.int .u8 (Af .or .u8 (128:Int) (Af .and .u8 (u8.wrap R) (63:Int))))] st K:=by
    intro h3
    have hE:C7 r=[UInt8.ofNat (224+r/4096),UInt8.ofNat (128+r/64%64),UInt8.ofNat (128+r%64)]:=by unfold C7;rw[if_neg (by omega),if_neg (by omega),if_pos (by omega)]
    rw[hE]at hk
    refine CT e h rfl ?_ (by simp;omega) fun v' st' e' _ ho=>hk v' st' e' ho
    simp only[Ai,List.map,Cg]
    rw[cR,i6,i12,s6,s12,OR 14 (r/2^12) 4 (by omega) (by omega) (224:Int) rfl,Nk]
   have t4:¬r<65536->Bp 5 1 1 v 4 [(.int .u8 (Af .or .u8 (240:Int) (u8.wrap (Int.fdiv R (2^(min (Int.toNat (18:Int)) (IntKind.bits .i32))))))),(.int .u8 (Af .or .u8 (128:Int) (Af .and .u8 (u8.wrap (Int.fdiv R (2^(min (Int.toNat (12:Int)) (IntKind.bits .i32))))) (63:Int)))),(.int .u8 (Af .or .u8 (128:Int) (Af .and .u8 (u8.wrap (Int.fdiv R (2^(min (Int.toNat (6:Int)) (IntKind.bits .i32))))) (63:Int)))),(.int .u8 (Af .or .u8 (128:Int) (Af .and .u8 (u8.wrap R) (63:Int))))] st K:=by
    intro h3
    have hE:C7 r=[UInt8.ofNat (240+r/262144),UInt8.ofNat (128+r/4096%64),UInt8.ofNat (128+r/64%64),UInt8.ofNat (128+r%64)]:=by unfold C7;rw[if_neg (by omega),if_neg (by omega),if_neg (by omega)]
    rw[hE]at hk
    refine CT e h rfl ?_ (by simp;omega) fun v' st' e' _ ho=>hk v' st' e' ho
    simp only[Ai,List.map,Cg]
    rw[cR,i6,i12,i18,s6,s12,s18,OR 30 (r/2^18) 3 (by omega) (by omega) (240:Int) rfl,Nk,Nk]
   unfold Au at hc
   refine Aa (fun h3=>Aa (fun _=>t3 (by omega)) fun h4=>absurd h3 h4) fun h3=>Aa (fun h4=>Aa (fun h5=>t3 (by omega)) fun h5=>Aa (fun h6=>Aa (fun _=>t4 (by omega)) fun h7=>by omega) fun h6=>by omega) fun h4=>by omega
def Le (c:Nat):Option Nat:=if 48<=c/\c<=57 then some (c-48)else if 97<=c/\c<=102 then some (c-87)else if 65<=c/\c<=70 then some (c-55)else none
theorem M8 {c d:Nat} (h:Le c=some d):d<16:=by
 unfold Le at h
 repeat' split at h
 all_goals first | (cases h;done) | (simp only[Option.some.injEq]at h;omega)
def DF:Nat->B8->Nat->Except Int Nat
 | 0,_,acc=> .ok acc
 | k+1,[],acc=> .error 4
 | k+1,c::cs,acc=>match Le c.toNat with
  | none=> .error 3
  | some d=>DF k cs (acc*16+d)
def eN:Except Int Nat->Int | .ok n=>n | .error _=>0
def eE {α:Type}:Except Int α->Int | .ok _=>0 | .error e=>e
def Ma (n:Nat):Int:=match Le n with | none=> -1 | some d=>if 97<=n∨n<=57 then(d:Int)else d+6
theorem OZ:∀n,n<256->Lib.indexByte Og (UInt8.ofNat n)=Ma n:=by decide+kernel
theorem idx_hex (c:UInt8):Lib.indexByte Og c=Ma c.toNat:=by
 have:=OZ c.toNat c.toNat_lt
 rwa [UInt8.ofNat_toNat]at this
theorem L9 (n:Nat):(Le n=none/\Ma n= -1)∨∃d,Le n=some d/\d<16/\(Ma n=d∨(Ma n=d+6/\10<=d)):=by
 unfold Ma
 cases hd:Le n with
 | none=>exact .inl ⟨rfl,rfl⟩
 | some d=>
  right
  refine⟨d,rfl,M8 hd,?_⟩
  simp only
  by_cases hc:97<=n∨n<=57
  ·rw[if_pos hc];exact .inl rfl
  ·rw[if_neg hc]
   right
   refine⟨rfl,?_⟩
   unfold Le at hd
   rw[if_neg (by omega),if_neg (by omega)]at hd
   split at hd
   ·simp only[Option.some.injEq]at hd;omega
   ·cases hd
theorem hex_ok {s:B8} {I:Int} {i:Nat} {st:St} {K:Int->Int->St->Prop} (hI:I=(i:Int)) (hl:s.length<=2000000) (hi:i<=s.length) (hk:K (eN (DF 4 (s.drop i) 0)) (eE (DF 4 (s.drop i) 0)) st):
  CallT PR Be [.str s,.int .i64 I] [.one (.int .i64),.one (.int .i64)] st K:=by
 refine H5 s I st K ⟨fun n k s' i' st'=>s=s'/\I=i'/\st=st'/\∃j a:Nat,k=((i+j:Nat):Int)/\n=(a:Int)/\j<=4/\i+j<=s.length/\a<16^j/\DF (4-j) (s.drop (i+j)) a=DF 4 (s.drop i) 0,fun _ k _ i' _=>(i'+4-k).toNat,⟨rfl,rfl,rfl,0,0,by omega,rfl,by omega,by omega,by omega,rfl⟩,?_⟩
 rintro _ _ _ _ _ ⟨rfl,rfl,rfl,j,a,rfl,rfl,h1,h2,h3,h4⟩
 rw[Ac (I+4) (by omega) (by omega)]
 have h16:16^j<=16^4:=Nat.pow_le_pow_right (by decide) h1
 refine Aa (fun g1=>Aa (fun g2=>?_) fun g2=>⟨⟨by omega,by omega⟩,EE ?_⟩) fun g1=>?_
 ·have:s.drop (i+j)=[]:=List.drop_of_length_le (by omega)
  rw[this,show 4-j=(3-j)+1 by omega]at h4
  rw[<-h4]at hk;exact hk
 ·rw[FJ s (i+j) 0 (by omega),show 4-j=(3-j)+1 by omega]at h4
  simp only[DF]at h4
  rw[show Int.toNat ((i+j:Nat):Int)=i+j from rfl,Int.toNat_natCast,show((s.getD (i+j) 0).toNat).toUInt8=s.getD (i+j) 0 by simp,idx_hex]
  have hix:=L9 (s.getD (i+j) 0).toNat
  generalize Ma (s.getD (i+j) 0).toNat=X at*
  have mes:(I+4-(i64.wrap (((i+j:Nat):Int)+(1:Int)))).toNat<(I+4-((i+j:Nat):Int)).toNat:=by
   rw[Ac _ (by omega) (by omega)];omega
  rcases hix with⟨hd,hX⟩ | ⟨d,hd,hd16,hX⟩
  ·rw[hd]at h4
   simp only at h4
   refine Aa (fun _=>?_) fun g3=>by omega
   rw[<-h4]at hk;exact hk
  ·rw[hd]at h4
   simp only at h4
   have hstep:∀x:Int,x=(d:Int)->(i64.wrap ((i64.wrap ((a:Int)*(16:Int)))+x))=((a*16+d:Nat):Int):=fun x hx=>by
    rw[hx,Ac ((a:Int)*16) (by omega) (by omega),Ac _ (by omega) (by omega)];omega
   have fin:∀x:Int,x=(d:Int)->(s=s/\I=I/\st=st/\∃j' a':Nat,(i64.wrap (((i+j:Nat):Int)+(1:Int)))=((i+j':Nat):Int)/\(i64.wrap ((i64.wrap ((a:Int)*(16:Int)))+x))=(a':Int)/\j'<=4/\i+j'<=s.length/\a'<16^j'/\DF (4-j') (s.drop (i+j')) a'=DF 4 (s.drop i) 0):=fun x hx=>by
    refine⟨rfl,rfl,rfl,j+1,a*16+d,by rw[Ac _ (by omega) (by omega)];omega,hstep x hx,by omega,by omega,by rw[Nat.pow_succ];omega,?_⟩
    rw[show 4-(j+1)=3-j by omega,<-Nat.add_assoc];exact h4
   refine Aa (fun g3=>by omega) fun _=>Aa (fun g4=>⟨fin _ (by rw[Ac _ (by omega) (by omega)];omega),mes⟩) fun g4=>⟨fin _ (by omega),mes⟩
 ·have:j=4:=by omega
  subst this
  rw[<-h4]at hk;exact hk
theorem GY:∀(k:Nat) (l:B8) (acc n:Nat),DF k l acc= .ok n->n<(acc+1)*16^k/\k<=l.length
 | 0,l,acc,n,h=>by simp only[DF,Except.ok.injEq]at h;omega
 | k+1,[],acc,n,h=>by cases h
 | k+1,c::cs,acc,n,h=>by
  simp only[DF]at h
  split at h
  ·cases h
  ·rename_i d hd
   have hd16:=M8 hd
   obtain⟨h1,h2⟩:=GY k cs _ n h
   refine⟨Nat.lt_of_lt_of_le h1 ?_,by simp;omega⟩
   rw[Nat.pow_succ,Nat.mul_comm (16^k) 16,<-Nat.mul_assoc]
   exact Nat.mul_le_mul_right _ (by omega)
theorem GZ:∀(k:Nat) (l:B8) (acc:Nat),DF k l acc≠.error 0
 | 0,l,acc=>by simp[DF]
 | k+1,[],acc=>by simp[DF]
 | k+1,c::cs,acc=>by
  simp only[DF]
  split
  ·simp
  ·exact GZ k cs _
def IZ (l:B8):Except Int (Nat×Nat):=
 match DF 4 l 0 with
 | .error e=> .error e
 | .ok n=>
  if 56320<=n/\n<=57343 then .error 5
  else if n<55296∨57343<n then .ok (n,4)
  else if l.length<=4 then .error 4
  else if bt l 4≠92 then .error 5
  else if l.length<=5 then .error 4
  else if bt l 5≠117 then .error 5
  else match DF 4 (l.drop 6) 0 with
   | .error e=> .error e
   | .ok m=>if m<56320∨57343<m then .error 5 else .ok (65536+(n-55296)*1024+(m-56320),10)
def eR:Except Int (Nat×Nat)->Int | .ok p=>p.1 | .error _=>0
def eK (i:Nat):Except Int (Nat×Nat)->Int | .ok p=>((i+p.2:Nat):Int) | .error _=>0
theorem Na {l:B8} {r k:Nat} (h:IZ l= .ok (r,k)):Au r/\k<=l.length/\4<=k/\k<=10:=by
 unfold IZ at h
 cases hn:DF 4 l 0 with
 | error e=>rw[hn]at h;cases h
 | ok n=>
  rw[hn]at h
  obtain⟨hn1,hn2⟩:=GY _ _ _ _ hn
  simp only at h
  split at h
  ·cases h
  ·split at h
   ·simp only[Except.ok.injEq,Prod.mk.injEq]at h
    unfold Au;omega
   ·split at h
    ·cases h
    ·split at h
     ·cases h
     ·split at h
      ·cases h
      ·split at h
       ·cases h
       ·cases hm:DF 4 (l.drop 6) 0 with
        | error e=>rw[hm]at h;cases h
        | ok m=>
         rw[hm]at h
         obtain⟨hm1,hm2⟩:=GY _ _ _ _ hm
         simp only at h
         split at h
         ·cases h
         ·simp only[Except.ok.injEq,Prod.mk.injEq]at h
          simp only[List.length_drop]at hm2
          unfold Au;omega
theorem M7 {s:B8} {I:Int} {i:Nat} {st:St} {K:Int->Int->St->Prop} (hI:I=(i:Int)) (hl:s.length<=2000000) (hi:i<=s.length)
  (h1:∀e,e≠0->DF 4 (s.drop i) 0= .error e->K 0 e st) (h2:∀(n:Nat) (N:Int),N=(n:Int)->DF 4 (s.drop i) 0= .ok n->K N 0 st):
  CallT PR Be [.str s,.int .i64 I] [.one (.int .i64),.one (.int .i64)] st K:=by
 refine hex_ok hI hl hi ?_
 cases hn:DF 4 (s.drop i) 0 with
 | error e=>exact h1 e (fun h0=>by subst h0;exact GZ _ _ _ hn) hn
 | ok n=>exact h2 n _ rfl hn
theorem NU {s:B8} {I:Int} {i:Nat} {st:St} {K:Int->Int->Int->St->Prop} (hI:I=(i:Int)) (hl:s.length<=2000000) (hi:i<=s.length)
  (hk:K (eR (IZ (s.drop i))) (eK i (IZ (s.drop i))) (eE (IZ (s.drop i))) st):CallT PR Bu [.str s,.int .i64 I] [.one (.int .i32),.one (.int .i64),.one (.int .i64)] st K:=by
 have hlen:(s.drop i).length=s.length-i:=by simp
 have hb:∀j,bt (s.drop i) j=(s.getD (i+j) 0).toNat:=fun j=>CS s i j
 unfold IZ at hk
 refine Gd s I st K (M7 hI hl hi (fun e he hn=>?_) fun n N hN hn=>?_)
 ·rw[hn]at hk
  exact Aa (fun _=>hk) fun h=>absurd he h
 ·rw[hn]at hk
  obtain⟨hn1,hn2⟩:=GY _ _ _ _ hn
  simp only at hk
  refine Aa (fun h=>absurd rfl h) fun _=>?_
  refine Aa (fun h1=>Aa (fun h2=>?_) fun h2=>?_) fun h1=>?_
  ·rw[if_pos (by omega)]at hk;exact hk
  ·rw[if_neg (by omega),if_pos (by omega)]at hk
   refine Aa (fun h3=>by omega) fun h3=>Aa (fun _=>?_) fun h4=>by omega
   rw[LC _ (by omega) (by omega),Ac _ (by omega) (by omega),hN,hI]
   exact hk
  ·refine Aa (fun h3=>?_) fun h3=>Aa (fun h4=>by omega) fun h4=>?_
   ·rw[if_neg (by omega),if_pos (by omega)]at hk
    rw[LC _ (by omega) (by omega),Ac _ (by omega) (by omega),hN,hI]
    exact hk
   ·rw[if_neg (by omega),if_neg (by omega)]at hk
    refine⟨fun q s' i' n' v m st'=>s=s'/\I=i'/\N=n'/\TV.list 1 .full 2 [.int .u8 (92:Int),.int .u8 (117:Int)]=v/\2=m/\st=st'/\(q=0∨(q=1/\4<(s.drop i).length/\bt (s.drop i) 4=92)∨(q=2/\5<(s.drop i).length/\bt (s.drop i) 4=92/\bt (s.drop i) 5=117)),fun q _ _ _ _ _ _=>(2-q).toNat,⟨rfl,rfl,rfl,rfl,rfl,rfl,.inl rfl⟩,?_⟩
    rintro q _ _ _ _ _ _ ⟨rfl,rfl,rfl,rfl,rfl,rfl,hq⟩
    rw[hlen,hb,hb]at hq
    rw[hlen,hb,hb]at hk
    rw[Ac (I+4) (by omega) (by omega)]
    refine Aa (fun g1=>?_) fun g1=>?_
    ·have hld:∀x:Int,(x=92/\q=0∨x=117/\q=1)->Ak st [] (.t (ixT 1 (TV.list 1 .full 2 [.int .u8 (92:Int),.int .u8 (117:Int)]) (Int.toNat q))) 0=some (.int .u8 x):=by
      rintro x (⟨rfl,rfl⟩ | ⟨rfl,rfl⟩)<;>rfl
     rcases hq with rfl | ⟨rfl,q1,q2⟩ | ⟨rfl,_⟩
     ·refine⟨⟨by omega,by decide⟩,Am (hld 92 (.inl ⟨rfl,rfl⟩)) ?_⟩
      rw[Ac (I+4+0) (by omega) (by omega)]
      refine Aa (fun g2=>?_) fun g2=>⟨⟨by omega,by omega⟩,Aa (fun g3=>?_) fun g3=>⟨⟨rfl,rfl,rfl,rfl,rfl,rfl,.inr (.inl ⟨rfl,?_,?_⟩)⟩,by dsimp only;decide⟩⟩
      ·rw[if_pos (by omega)]at hk;exact hk
      ·rw[show Int.toNat (I+4+0)=i+4 by omega]at g3
       rw[if_neg (by omega),if_pos (by omega)]at hk;exact hk
      ·rw[hlen];omega
      ·rw[show Int.toNat (I+4+0)=i+4 by omega]at g3
       rw[hb];omega
     ·refine⟨⟨by omega,by decide⟩,Am (hld 117 (.inr ⟨rfl,rfl⟩)) ?_⟩
      rw[Ac (I+4+1) (by omega) (by omega)]
      refine Aa (fun g2=>?_) fun g2=>⟨⟨by omega,by omega⟩,Aa (fun g3=>?_) fun g3=>⟨⟨rfl,rfl,rfl,rfl,rfl,rfl,.inr (.inr ⟨rfl,?_,?_,?_⟩)⟩,by dsimp only;decide⟩⟩
      ·rw[if_neg (by omega),if_neg (by omega),if_pos (by omega)]at hk;exact hk
      ·rw[show Int.toNat (I+4+1)=i+5 by omega]at g3
       rw[if_neg (by omega),if_neg (by omega),if_neg (by omega),if_pos (by omega)]at hk;exact hk
      ·rw[hlen];omega
      ·rw[hb];exact q2
      ·rw[show Int.toNat (I+4+1)=i+5 by omega]at g3
       rw[hb];omega
     ·omega
    ·rcases hq with rfl | ⟨rfl,_⟩ | ⟨rfl,q1,q2,q3⟩
     ·omega
     ·omega
     ·rw[if_neg (by omega),if_neg (by omega),if_neg (by omega),if_neg (by omega),List.drop_drop]at hk
      rw[Ac (I+6) (by omega) (by omega)]
      refine M7 (i:=i+6) (by omega) hl (by omega) (fun e he hm=>?_) fun m M hM hm=>?_
      ·rw[hm]at hk
       exact Aa (fun _=>hk) fun h=>absurd he h
      ·rw[hm]at hk
       obtain⟨hm1,hm2⟩:=GY _ _ _ _ hm
       simp only at hk
       refine Aa (fun h=>absurd rfl h) fun _=>?_
       refine Aa (fun h5=>?_) fun h5=>Aa (fun h6=>?_) fun h6=>?_
       ·rw[if_pos (by omega)]at hk;exact hk
       ·rw[if_pos (by omega)]at hk;exact hk
       ·rw[if_neg (by omega)]at hk
        rw[show(2:Int)^(min (Int.toNat (10:Int)) (IntKind.bits .i64))=1024 by decide,Ac (N-55296) (by omega) (by omega),Ac ((N-55296)*1024) (by omega) (by omega),Ac (65536+(N-55296)*1024) (by omega) (by omega),
         Ac (65536+(N-55296)*1024+M) (by omega) (by omega),Ac (65536+(N-55296)*1024+M-56320) (by omega) (by omega),LC _ (by omega) (by omega),Ac _ (by omega) (by omega)]
        have e1:(65536+(N-55296)*1024+M-56320)=((65536+(n-55296)*1024+(m-56320):Nat):Int):=by omega
        have e2:I+10=((i+10:Nat):Int):=by omega
        rw[e1,e2]
        exact hk
theorem Lj (l:B8):IZ l≠.error 0:=by
 unfold IZ
 cases hn:DF 4 l 0 with
 | error e=>intro h;simp only[Except.error.injEq]at h;subst h;exact GZ _ _ _ hn
 | ok n=>
  simp only
  repeat' split
  all_goals first | (simp;done) | skip
  rename_i e hm
  intro h;simp only[Except.error.injEq]at h;subst h;exact GZ _ _ _ hm
def NA (c:Nat):Option UInt8:=if c=34 then some 34 else if c=92 then some 92 else if c=47 then some 47 else if c=98 then some 8 else if c=102 then some 12 else if c=110 then some 10 else if c=114 then some 13 else if c=116 then some 9 else none
def simT (n:Nat):Bool:=match NA n with
 | none=>decide (Lib.indexByte Fj (UInt8.ofNat n)= -1)
 | some d=>decide (0<=Lib.indexByte Fj (UInt8.ofNat n))&&decide (Lib.indexByte Fj (UInt8.ofNat n)<8)&&decide (JA.getD (Lib.indexByte Fj (UInt8.ofNat n)).toNat 0=d)
theorem Om:∀n,n<256->simT n=true:=by decide+kernel
theorem sim_idx (c:UInt8):(NA c.toNat=none/\Lib.indexByte Fj c= -1)∨∃d,NA c.toNat=some d/\0<=Lib.indexByte Fj c/\Lib.indexByte Fj c<8/\JA.getD (Lib.indexByte Fj c).toNat 0=d:=by
 have h:=Om c.toNat c.toNat_lt
 unfold simT at h
 rw[UInt8.ofNat_toNat]at h
 cases hd:NA c.toNat with
 | none=>rw[hd]at h;exact .inl ⟨rfl,by simpa using h⟩
 | some d=>rw[hd]at h;simp only[Bool.and_eq_true,decide_eq_true_eq]at h;exact .inr ⟨d,rfl,h.1.1,h.1.2,h.2⟩
def qF:Nat->Nat->B8->B8->Nat->Except Int (B8×Nat)
 | 0,_,_,_,_=> .error 4
 | f+1,m,l,acc,n=>
  if l.length=0 then .error 4
  else if bt l 0=m then .ok (acc,n+1)
  else if ul l=0∨bt l 0<32 then .error 5
  else if bt l 0≠92∨m=39 then qF f m (l.drop (ul l)) (acc++l.take (ul l)) (n+ul l)
  else if l.length<=1 then .error 4
  else if bt l 1=117 then match IZ (l.drop 2)with
   | .error e=> .error e
   | .ok p=>qF f m (l.drop (2+p.2)) (acc++C7 p.1) (n+(2+p.2))
  else match NA (bt l 1)with
   | none=> .error 3
   | some c=>qF f m (l.drop 2) (acc++[c]) (n+2)
def qL:Except Int (B8×Nat)->B8 | .ok p=>p.1 | .error _=>[]
def qN:Except Int (B8×Nat)->Int | .ok p=>p.2 | .error _=>0
theorem Gq {l:B8} {st:St} {K:Int->Int->St->Prop} (hne:l≠ []) (hk:∀R N:Int,((ul l=0/\R=65533/\N=1)∨(ul l≠0/\R=(ur l:Nat)/\N=(ul l:Nat)/\¬(R=65533/\N=1)/\ul l<=l.length/\ul l<=4))->K R N st):CallT PR Aw [.str l] [.one (.int .i32),.one (.int .i64)] st K:=by
 refine NX (hk _ _ ?_)
 have hd:dG l=dN l:=by unfold dG;rw[if_neg hne]
 rw[hd]
 by_cases h:ul l=0
 ·rw[(J1 l hne).1 h];exact .inl ⟨h,rfl,rfl⟩
 ·rw[Pg l h]
  have h1:=ul_not l h
  have h2:=MI l h
  exact .inr ⟨h,rfl,rfl,by simp only;omega,h2.2.2.1,h2.2.2.2⟩
theorem Ht {s:B8} {I:Int} {i:Nat} {st:St} {K:B8->Int->Int->St->Prop} (hI:I=(i:Int)) (hl:s.length<=2000000) (hi:i<s.length)
  (hk:∀st',Ae st st'->K (qL (qF (s.length+1) (bt (s.drop i) 0) (s.drop (i+1)) [] (i+1))) (qN (qF (s.length+1) (bt (s.drop i) 0) (s.drop (i+1)) [] (i+1))) (eE (qF (s.length+1) (bt (s.drop i) 0) (s.drop (i+1)) [] (i+1))) st'):
  CallT PR AM [.str s,.int .i64 I] [.one (.str),.one (.int .i64),.one (.int .i64)] st K:=by
 have hm0:((List.getD s (Int.toNat I) 0).toNat:Int)=((bt (s.drop i) 0:Nat):Int):=by rw[CS,hI];rfl
 refine Gc s I st K ⟨⟨by omega,by omega⟩,?_⟩
 rw[hm0]
 generalize bt (s.drop i) 0=m at*
 generalize hX:qF (s.length+1) m (s.drop (i+1)) [] (i+1)=X at*
 refine⟨fun j out s' mk st'=>s=s'/\(m:Int)=mk/\Ae st st'/\∃(k f:Nat) (acc:B8),j=(k:Int)/\k<=s.length/\s.length<k+f/\acc.length<=4*k/\G8 st.nt st' out acc/\qF f m (s.drop k) acc k=X,fun j _ _ _ _=>(s.length-j).toNat,⟨rfl,rfl,Ae.refl _,i+1,s.length+1,[],by rw[Ac _ (by omega) (by omega)];omega,by omega,by omega,by simp,G8.nil _ _,hX⟩,?_⟩
 rintro _ out _ _ st1 ⟨rfl,rfl,e,k,f,acc,rfl,h1,h2,h3,h4,h5⟩
 cases f with
 | zero=>omega
 | succ f=>
 simp only[qF]at h5
 have hlen:(s.drop k).length=s.length-k:=by simp
 have hb:∀j,bt (s.drop k) j=(s.getD (k+j) 0).toNat:=CS s k
 have e0:Int.toNat (k:Int)=k:=rfl
 rw[hb,hb]at h5
 rw[hlen]at h5
 refine Aa (fun g1=>?_) fun g1=>?_
 ·have hne:s.drop k≠ []:=by
   intro h0
   have:=congrArg List.length h0
   rw[hlen]at this;simp at this;omega
  rw[if_neg (by omega)]at h5
  refine⟨⟨by omega,by omega⟩,Gq hne fun R N hD=>⟨⟨by omega,by omega⟩,?_⟩⟩
  rw[e0]at hD
  rw[hlen]at hD
  rw[e0,show(k:Nat)+0=k from rfl]at*
  generalize hc0:(s.getD k 0).toNat=c0 at*
  refine Aa (fun g2=>?_) fun g2=>⟨⟨by omega,by omega⟩,Aa (fun g3=>?_) fun g3=>?_⟩
  ·rw[if_pos (by omega)]at h5
   rw[<-h5]at hk
   rw[Ac _ (by omega) (by omega)]
   refine Am (show _=some (TV.str acc) by rw[h4.rd.toBytes];rfl) ?_
   exact hk st1 e
  ·rw[if_neg (by omega),if_pos (by omega)]at h5
   rw[<-h5]at hk
   exact hk st1 e
  ·rw[if_neg (by omega)]at h5
   refine Aa (fun g4=>Aa (fun g5=>?_) fun g5=>?_) fun g4=>?_
   ·rw[if_pos (by omega)]at h5
    rw[<-h5]at hk
    exact hk st1 e
   all_goals
    obtain⟨d0,_,d2,d3,d4,d5⟩:(ul (s.drop k)≠0/\R=(ur (s.drop k):Nat)/\N=(ul (s.drop k):Nat)/\¬(R=65533/\N=1)/\ul (s.drop k)<=s.length-k/\ul (s.drop k)<=4):=by
     rcases hD with⟨_,x1,x2⟩ | hD
     ·first | exact absurd x2 g5 | exact absurd x1 g4
     ·exact hD
    rw[if_neg (by omega)]at h5
    refine⟨⟨by omega,by omega⟩,Aa (fun g6=>?_) fun g6=>Aa (fun g6=>?_) fun g7=>Aa (fun g8=>?_) fun g8=>?_⟩
    iterate 2
     ·rw[if_pos (by omega)]at h5
      rw[Ac ((k:Int)+N) (by omega) (by omega)]
      refine⟨⟨by omega,by omega,by omega⟩,Am rfl (AH (LY _) ?_)⟩
      rw[CQ,show Int.toNat ((k:Int)+N)-k=ul (s.drop k) by omega]
      refine CT e h4 rfl rfl ?_ fun v' st' e' _ ho=>⟨⟨rfl,rfl,e',k+ul (s.drop k),f,_,by omega,by omega,by omega,?_,ho,?_⟩,by dsimp only;omega⟩
      ·rw[List.length_take,hlen];omega
      ·rw[List.length_append,List.length_take,hlen];omega
      ·rw[<-h5,List.drop_drop]
    ·rw[Ac ((k:Int)+1) (by omega) (by omega)]at g8
     rw[if_neg (by omega),if_pos (by omega)]at h5
     rw[<-h5]at hk
     exact hk st1 e
    ·rw[Ac ((k:Int)+1) (by omega) (by omega)]at g8
     rw[Ac ((k:Int)+1) (by omega) (by omega)]
     rw[if_neg (by omega),if_neg (by omega)]at h5
     refine⟨⟨by omega,by omega⟩,?_⟩
     rw[show Int.toNat ((k:Int)+1)=k+1 from rfl]
     refine Aa (fun g9=>?_) fun g9=>⟨⟨by omega,by omega⟩,EE ?_⟩
     ·rw[if_pos (by omega),List.drop_drop]at h5
      rw[Ac ((k:Int)+2) (by omega) (by omega)]
      refine NU (i:=k+2) (by omega) hl (by omega) ?_
      cases hes:IZ (s.drop (k+2))with
      | error e1=>
       rw[hes]at h5
       rw[<-h5]at hk
       exact Aa (fun _=>hk st1 e) fun h=>absurd hes (by rw[show e1=0 from Decidable.not_not.1 h];exact Lj _)
      | ok p=>
       rw[hes]at h5
       simp only at h5
       obtain⟨q1,q2,q3,q4⟩:=Na hes
       rw[List.length_drop]at q2
       refine Aa (fun h=>absurd rfl h) fun _=>Jv rfl q1 e h4 (by omega) fun v' st' e' ho=>⟨⟨rfl,rfl,e',k+(2+p.2),f,_,?_,by omega,by omega,?_,ho,?_⟩,?_⟩
       ·show((k+2+p.2:Nat):Int)=_;omega
       ·have:=Ll p.1;rw[List.length_append];omega
       ·rw[<-h5,List.drop_drop]
       ·show((s.length:Int)-((k+2+p.2:Nat):Int)).toNat<((s.length:Int)-(k:Int)).toNat
        omega
     ·rw[if_neg (by omega)]at h5
      rw[Int.toNat_natCast,show((s.getD (k+1) 0).toNat).toUInt8=s.getD (k+1) 0 by simp]
      rcases sim_idx (s.getD (k+1) 0)with⟨hd,hx⟩ | ⟨d,hd,hx1,hx2,hx3⟩
      ·rw[hd]at h5
       rw[hx]
       rw[<-h5]at hk
       exact Aa (fun _=>hk st1 e) fun h=>absurd (by decide) h
      ·rw[hd]at h5
       generalize Lib.indexByte Fj (s.getD (k+1) 0)=X1 at*
       refine Aa (fun h=>by omega) fun _=>⟨⟨by omega,by show X1<8;omega⟩,?_⟩
       rw[hx3,Ac ((k:Int)+2) (by omega) (by omega)]
       refine CT (ys:=[d]) e h4 rfl rfl (by simp;omega) fun v' st' e' _ ho=>⟨⟨rfl,rfl,e',k+2,f,_,by omega,by omega,by omega,?_,ho,?_⟩,by dsimp only;omega⟩
       ·simp;omega
       ·rw[<-h5,List.drop_drop]
 ·rw[if_pos (by omega)]at h5
  rw[<-h5]at hk
  exact hk st1 e
theorem Hu:∀(ps:List (Option UInt8)) (l:B8) (n:Nat),ps.length<=n->CA ps (l.take n)=CA ps l
 | [],l,n,h=>by simp[CA]
 | _::_,[],n,h=>by simp
 | none::ps,c::cs,0,h=>by simp at h
 | some a::ps,c::cs,0,h=>by simp at h
 | none::ps,c::cs,n+1,h=>by simp only[List.take_succ_cons,CA];rw[Hu ps cs n (by simpa using h)]
 | some a::ps,c::cs,n+1,h=>by simp only[List.take_succ_cons,CA];rw[Hu ps cs n (by simpa using h)]
theorem pat11:Dl 100 [100,100,100,100,45,100,100,45,100,100,32,100,100,58]=Dl 48 Oi++Dl 48 Oh:=by decide
theorem K4 (l:B8):CA (Dl 100 [100,100,100,100,45,100,100,45,100,100,32,100,100,58]) l=(CA (Dl 48 Oi) (l.take 10)&&CA (Dl 48 Oh) (l.drop 10)):=by
 rw[pat11,Fs,Hu _ _ _ (by decide)]
 rfl
def LD (l:B8):Nat:=if twl CC l=10/\CA (Dl 100 [100,100,100,100,45,100,100,45,100,100,32,100,100,58]) l=true then 11+twl CC (l.drop 11)else twl CC l
theorem wlen_le (l:B8):LD l<=l.length:=by
 unfold LD
 split
 ·rename_i h
  have h1:=Il CC (l.drop 11)
  have h2:14<=l.length:=by
   apply Decidable.byContradiction
   intro hh
   rw[DD _ _ (by show l.length<14;omega)]at h
   exact absurd h.2 (by decide)
  rw[List.length_drop]at h1
  omega
 ·exact Il _ _
theorem Ob {s:B8} {I:Int} {i:Nat} {st:St} {K:Int->St->Prop} (hI:I=(i:Int)) (hl:s.length<=2000000) (hi:i<=s.length) (hk:∀st',Ae st st'->K ((i+LD (s.drop i):Nat):Int) st'):
  CallT PR Cq [.str s,.int .i64 I] [.one (.int .i64)] st K:=by
 have htl:=Il CC (s.drop i)
 rw[List.length_drop]at htl
 refine Gx s I st K (Gr fun v u st1 e c1 c2=>GH hI hl hi c2 ?_)
 have hsp:=K4 (s.drop i)
 rw[List.drop_drop]at hsp
 have hw:∀x,(if twl CC (s.drop i)=10/\CA (Dl 100 [100,100,100,100,45,100,100,45,100,100,32,100,100,58]) (s.drop i)=true then 11+twl CC (s.drop (i+11))else twl CC (s.drop i))=x->K ((i+x:Nat):Int) st1:=by
  intro x hx
  have:=hk st1 e
  unfold LD at this
  rw[List.drop_drop,hx]at this
  exact this
 generalize hN:((i+twl CC (s.drop i):Nat):Int)=N
 refine Aa (fun h1=>?_) fun h1=>?_
 ·rw[Ac _ (by omega) (by omega)]at h1
  have h10:twl CC (s.drop i)=10:=by omega
  refine⟨⟨by omega,by omega,by omega⟩,IG (by decide) ?_⟩
  rw[CQ,show Int.toNat N-Int.toNat I=10 by omega,show Int.toNat I=i by omega]
  refine Ap (fun h2=>⟨⟨by omega,by omega⟩,IG (by decide) ?_⟩) fun h2=>?_
  ·rw[show Int.toNat N=i+10 by omega]
   refine Ap (fun h3=>?_) fun h3=>?_
   ·have h14:4<=(s.drop (i+10)).length:=by
     apply Decidable.byContradiction
     intro hh
     rw[DD _ _ (by show _<4;omega)]at h3
     exact absurd h3 (by decide)
    rw[List.length_drop]at h14
    rw[Ac _ (by omega) (by omega)]
    refine GH (i:=i+11) (by omega) hl (by omega) c2 ?_
    have:=hw _ (if_pos ⟨h10,by rw[hsp,h2,h3];rfl⟩)
    rw[show i+(11+twl CC (s.drop (i+11)))=i+11+twl CC (s.drop (i+11)) by omega]at this
    exact this
   ·rw[<-hN]
    refine hw _ (if_neg fun h=>absurd h3 ?_)
    have:=h.2
    rw[hsp,Bool.and_eq_true]at this
    rw[this.2];decide
  ·rw[<-hN]
   refine hw _ (if_neg fun h=>absurd h2 ?_)
   have:=h.2
   rw[hsp,Bool.and_eq_true]at this
   rw[this.1];decide
 ·rw[Ac _ (by omega) (by omega)]at h1
  rw[<-hN]
  exact hw _ (if_neg fun h=>h1 (by omega))
theorem crlf (l:B8):l.take Jy.length=Jy↔1<l.length/\bt l 0=13/\bt l 1=10:=by
 have e:∀(a b:UInt8),a=b↔a.toNat=b.toNat:=fun a b=>UInt8.toNat_inj.symm
 rcases l with _ | ⟨a,_ | ⟨b,l⟩⟩
 ·simp[Jy]
 ·simp[Jy]
 ·simp[Jy,bt,e]
def cF:Nat->B8->Nat->Option Nat
 | 0,_,_=>none
 | f+1,l,k=>if l.length=0 then some k else if bt l 0=10 then some k else if 1<l.length/\bt l 0=13/\bt l 1=10 then some k
  else if ul l=0 then none else cF f (l.drop (ul l)) (k+ul l)
theorem cF_le:∀(f:Nat) (l:B8) (k n:Nat),cF f l k=some n->k<=n/\n<=k+l.length
 | 0,l,k,n,h=>by cases h
 | f+1,l,k,n,h=>by
  simp only[cF]at h
  repeat' split at h
  all_goals first | (cases h;done) | (simp only[Option.some.injEq]at h;omega) | skip
  have h1:=cF_le f _ _ _ h
  have h2:=KH l
  rw[List.length_drop]at h1
  omega
theorem Mn {s:B8} {I:Int} {i:Nat} {st:St} {K:Int->Int->St->Prop} (hI:I=(i:Int)) (hl:s.length<=2000000) (hi:i<=s.length)
  (h1:∀(k:Nat),cF (s.length+1) (s.drop i) i=some k->K (k:Int) 0 st) (h2:cF (s.length+1) (s.drop i) i=none->K 0 5 st):
  CallT PR B3 [.str s,.int .i64 I] [.one (.int .i64),.one (.int .i64)] st K:=by
 refine FM s I st K ⟨fun j s' st'=>s=s'/\st=st'/\∃k f:Nat,j=(k:Int)/\k<=s.length/\s.length<k+f/\cF f (s.drop k) k=cF (s.length+1) (s.drop i) i,fun j _ _=>(s.length-j).toNat,⟨rfl,rfl,i,s.length+1,hI,hi,by omega,rfl⟩,?_⟩
 rintro _ _ _ ⟨rfl,rfl,k,f,rfl,h3,h4,h5⟩
 cases f with
 | zero=>omega
 | succ f=>
 have hlen:(s.drop k).length=s.length-k:=by simp
 have hb:bt (s.drop k) 0=(s.getD k 0).toNat:=CS s k 0
 have e0:Int.toNat (k:Int)=k:=rfl
 simp only[cF]at h5
 rw[e0]
 refine Aa (fun g1=>⟨⟨by omega,by omega⟩,?_⟩) fun g1=>?_
 ·rw[if_neg (by omega)]at h5
  have hne:s.drop k≠ []:=by
   intro h0
   have:=congrArg List.length h0
   rw[hlen]at this;simp at this;omega
  refine Aa (fun g2=>⟨⟨by omega,by omega⟩,Kh (Ap (fun g3=>?_) fun g3=>?_)⟩) fun g2=>?_
  ·have g3:¬(1<(s.drop k).length/\bt (s.drop k) 0=13/\bt (s.drop k) 1=10):=fun h=>by
    rw[decide_eq_true ((crlf _).2 h)]at g3;exact absurd g3 (by decide)
   rw[if_neg (by omega),if_neg g3]at h5
   refine⟨⟨by omega,by omega⟩,Gq hne fun R N hD=>?_⟩
   refine Aa (fun g4=>Aa (fun g5=>?_) fun g5=>?_) fun g4=>?_
   ·rw[if_pos (by omega)]at h5
    exact h2 h5.symm
   all_goals
    obtain⟨d0,d2,d3⟩:(ul (s.drop k)≠0/\N=(ul (s.drop k):Nat)/\ul (s.drop k)<=(s.drop k).length):=by
     rcases hD with⟨_,x1,x2⟩ | hD
     ·first | exact absurd x2 g5 | exact absurd x1 g4
     ·exact⟨hD.1,hD.2.2.1,hD.2.2.2.2.1⟩
    rw[if_neg (by omega),List.drop_drop]at h5
    rw[Ac _ (by omega) (by omega)]
    exact⟨⟨rfl,rfl,k+ul (s.drop k),f,by omega,by omega,by omega,h5⟩,by dsimp only;omega⟩
  ·have g3:1<(s.drop k).length/\bt (s.drop k) 0=13/\bt (s.drop k) 1=10:=by
    refine(crlf _).1 (Decidable.byContradiction fun h=>absurd g3 ?_)
    rw[decide_eq_false h];decide
   rw[if_neg (by omega),if_pos g3]at h5
   exact h1 k h5.symm
  ·rw[if_pos (by omega)]at h5
   exact h1 k h5.symm
 ·rw[if_pos (by omega)]at h5
  exact h1 k h5.symm
theorem LU:∀(f m:Nat) (l acc:B8) (n:Nat),qF f m l acc n≠.error 0
 | 0,m,l,acc,n=>by simp[qF]
 | f+1,m,l,acc,n=>by
  simp only[qF]
  repeat' split
  all_goals first | (simp;done) | exact LU f _ _ _ _ | skip
  rename_i e he
  intro h;simp only[Except.error.injEq]at h;subst h;exact Lj _ he
theorem MX:∀(f m:Nat) (l acc:B8) (n:Nat) (p:B8×Nat),qF f m l acc n= .ok p->n<p.2/\p.2<=n+l.length
 | 0,m,l,acc,n,p,h=>by simp[qF]at h
 | f+1,m,l,acc,n,p,h=>by
  simp only[qF]at h
  by_cases g1:l.length=0
  ·rw[if_pos g1]at h;cases h
  rw[if_neg g1]at h
  by_cases g2:bt l 0=m
  ·rw[if_pos g2]at h
   simp only[Except.ok.injEq]at h
   subst h
   exact⟨by simp only;omega,by simp only;omega⟩
  rw[if_neg g2]at h
  by_cases g3:ul l=0∨bt l 0<32
  ·rw[if_pos g3]at h;cases h
  rw[if_neg g3]at h
  by_cases g4:bt l 0≠92∨m=39
  ·rw[if_pos g4]at h
   have h1:=MX f _ _ _ _ _ h
   have h2:=KH l
   rw[List.length_drop]at h1
   omega
  rw[if_neg g4]at h
  by_cases g5:l.length<=1
  ·rw[if_pos g5]at h;cases h
  rw[if_neg g5]at h
  by_cases g6:bt l 1=117
  ·rw[if_pos g6]at h
   cases hes:IZ (l.drop 2)with
   | error e=>rw[hes]at h;cases h
   | ok q=>
    rw[hes]at h
    have h1:=MX f _ _ _ _ _ h
    have h2:=(Na (r:=q.1) (k:=q.2) hes).2.1
    rw[List.length_drop]at h1 h2
    omega
  rw[if_neg g6]at h
  cases hd:NA (bt l 1)with
  | none=>rw[hd]at h;cases h
  | some c=>
   rw[hd]at h
   have h1:=MX f _ _ _ _ _ h
   rw[List.length_drop]at h1
   omega
def Oz (c:Nat):Bool:=decide (c=91∨c=93∨c=123∨c=125∨c=44∨c=61)
theorem NI:∀n,n<256->decide (0<=Lib.indexByte Oj (UInt8.ofNat n))=Oz n:=by decide+kernel
theorem NH (c:UInt8):0<=Lib.indexByte Oj c↔Oz c.toNat=true:=by
 have h:=NI c.toNat c.toNat_lt
 rw[UInt8.ofNat_toNat]at h
 rw[<-h,decide_eq_true_eq]
theorem F1 {l:B8} {C:Int} {c:UInt8} {st:St} {K:Int->St->Prop} (hC:C=(c.toNat:Int)) (hk:K (Lib.indexByte l c) st):CallT PR Ax [.str l,.int .u8 C] [.one (.int .i64)] st K:=by
 refine EE ?_
 rw[hC,Int.toNat_natCast,show(c.toNat).toUInt8=c by simp]
 exact hk
theorem M0 {s:B8} {I:Int} {i:Nat} {st:St} {K:Int->Int->St->Prop} (hI:I=(i:Int)) (hl:s.length<=2000000) (hi:i<s.length)
  (h1:(s.getD i 0).toNat=10->K ((i+1:Nat):Int) 0 st) (h2:(s.getD i 0).toNat≠10->s.length=i+1->K 0 4 st) (h3:(s.getD i 0).toNat≠10->s.length≠i+1->(s.getD (i+1) 0).toNat=10->K ((i+2:Nat):Int) 0 st)
  (h4:(s.getD i 0).toNat≠10->s.length≠i+1->(s.getD (i+1) 0).toNat≠10->K 0 3 st):CallT PR BZ [.str s,.int .i64 I] [.one (.int .i64),.one (.int .i64)] st K:=by
 refine Hc s I st K ⟨⟨by omega,by omega⟩,?_⟩
 rw[Ac (I+1) (by omega) (by omega),Ac (I+2) (by omega) (by omega),show Int.toNat I=i by omega,show Int.toNat (I+1)=i+1 by omega]
 rw[show((i+1:Nat):Int)=I+1 by omega]at h1
 rw[show((i+2:Nat):Int)=I+2 by omega]at h3
 refine Aa (fun g1=>h1 (by omega)) fun g1=>Aa (fun g2=>h2 (by omega) (by omega)) fun g2=>⟨⟨by omega,by omega⟩,Aa (fun g3=>h3 (by omega) (by omega) (by omega)) fun g3=>h4 (by omega) (by omega) (by omega)⟩
def tokC (c c1:Nat) (s:B8) (i:Nat):Except Int (Int×Nat):=
 if c=32∨c=9 then .ok (1,i+twl Hl (s.drop i))
 else if c=10 then .ok (2,i+1)
 else if c=13 then(if s.length=i+1 then .error 4 else if c1=10 then .ok (2,i+2)else .error 3)
 else if c=35 then(match cF (s.length+1) (s.drop i) i with | none=> .error 5 | some k=> .ok (3,k))
 else if c=91∨c=93∨c=123∨c=125∨c=44∨c=61 then .ok (4,i+1)
 else if c=34∨c=39 then(match qF (s.length+1) c (s.drop (i+1)) [] (i+1)with | .error e=> .error e | .ok p=> .ok (5,p.2))
 else if CC (c:Int)=true then .ok (6,i+LD (s.drop i))else .error 3
def KJ (s:B8) (i:Nat):Except Int (Int×Nat):=tokC (bt (s.drop i) 0) (bt (s.drop i) 1) s i
theorem tend_ok {s:B8} {I:Int} {i:Nat} {st:St} {K:Int->Int->Int->St->Prop} (hI:I=(i:Int)) (hl:s.length<=2000000) (hi:i<s.length)
  (h1:∀p st',Ae st st'->KJ s i= .ok p->K p.1 (p.2:Nat) 0 st') (h2:∀e kd k st',Ae st st'->KJ s i= .error e->K kd k e st'):
  CallT PR Db [.str s,.int .i64 I] [.one (.int .i64),.one (.int .i64),.one (.int .i64)] st K:=by
 refine H6 s I st K (Gr fun v u st1 e c1 c2=>⟨⟨by omega,by omega⟩,?_⟩)
 rw[show Int.toNat I=i by omega]
 unfold KJ at h1 h2
 have hb:bt (s.drop i) 0=(s.getD i 0).toNat:=CS s i 0
 have hb1:bt (s.drop i) 1=(s.getD (i+1) 0).toNat:=CS s i 1
 have hpi:=NH (s.getD i 0)
 rw[hb]at h1 h2
 rw[hb1]at h1 h2
 generalize hc:(s.getD i 0).toNat=c at*
 unfold tokC at h1 h2
 refine Aa (fun g1=>?_) fun g1=>Aa (fun g2=>?_) fun g2=>Aa (fun g3=>?_) fun g3=>Aa (fun g4=>?_) fun g4=>Aa (fun g5=>?_) fun g5=>F1 (c:=s.getD i 0) (by rw[hc]) (Aa (fun g6=>?_) fun g6=>Aa (fun g7=>?_) fun g7=>Aa (fun g8=>?_) fun g8=>?_)
 ·refine GH hI hl (by omega) (Ls st1) ?_
  rw[if_pos (by omega)]at h1
  exact h1 _ _ e rfl
 ·refine GH hI hl (by omega) (Ls st1) ?_
  rw[if_pos (by omega)]at h1
  exact h1 _ _ e rfl
 ·refine M0 hI hl hi (fun q=>?_) (fun q=>?_) (fun q=>?_) fun q=>?_
  ·rw[if_neg (by omega),if_pos (by omega)]at h1;exact h1 _ _ e rfl
  all_goals omega
 ·refine M0 hI hl hi (fun q=>?_) (fun q q2=>?_) (fun q q2 q3=>?_) fun q q2 q3=>?_
  ·omega
  ·rw[if_neg (by omega),if_neg (by omega),if_pos (by omega),if_pos q2]at h2;exact h2 _ _ _ _ e rfl
  ·rw[if_neg (by omega),if_neg (by omega),if_pos (by omega),if_neg q2,if_pos q3]at h1;exact h1 _ _ e rfl
  ·rw[if_neg (by omega),if_neg (by omega),if_pos (by omega),if_neg q2,if_neg q3]at h2;exact h2 _ _ _ _ e rfl
 ·rw[if_neg (by omega),if_neg (by omega),if_neg (by omega),if_pos (by omega)]at h1 h2
  refine Mn hI hl (by omega) (fun k hk=>?_) fun hk=>?_
  ·rw[hk]at h1;exact h1 _ _ e rfl
  ·rw[hk]at h2;exact h2 _ _ _ _ e rfl
 ·have g6:=of_decide_eq_true (hpi.1 g6)
  rw[if_neg (by omega),if_neg (by omega),if_neg (by omega),if_neg (by omega),if_pos (by omega)]at h1
  rw[Ac _ (by omega) (by omega),show I+1=((i+1:Nat):Int) by omega]
  exact h1 _ _ e rfl
 ·have g6:=of_decide_eq_false (Bool.eq_false_iff.2 fun h=>g6 (hpi.2 h))
  rw[if_neg (by omega),if_neg (by omega),if_neg (by omega),if_neg (by omega),if_neg (by omega),if_pos (by omega)]at h1 h2
  refine Ht hI hl hi fun st2 e2=>?_
  rw[hb]
  cases hq:qF (s.length+1) c (s.drop (i+1)) [] (i+1)with
  | error er=>rw[hq]at h2;exact h2 _ _ _ _ (e.trans e2) rfl
  | ok p=>rw[hq]at h1;exact h1 _ _ (e.trans e2) rfl
 ·have g6:=of_decide_eq_false (Bool.eq_false_iff.2 fun h=>g6 (hpi.2 h))
  rw[if_neg (by omega),if_neg (by omega),if_neg (by omega),if_neg (by omega),if_neg (by omega),if_pos (by omega)]at h1 h2
  refine Ht hI hl hi fun st2 e2=>?_
  rw[hb]
  cases hq:qF (s.length+1) c (s.drop (i+1)) [] (i+1)with
  | error er=>rw[hq]at h2;exact h2 _ _ _ _ (e.trans e2) rfl
  | ok p=>rw[hq]at h1;exact h1 _ _ (e.trans e2) rfl
 ·have g6:=of_decide_eq_false (Bool.eq_false_iff.2 fun h=>g6 (hpi.2 h))
  rw[if_neg (by omega),if_neg (by omega),if_neg (by omega),if_neg (by omega),if_neg (by omega),if_neg (by omega)]at h1 h2
  refine c2 _ (Ae.refl _) _ _ (Ap (fun g9=>?_) fun g9=>?_)
  ·rw[if_pos g9]at h1
   refine Ob hI hl (by omega) fun st2 e2=>h1 _ _ (e.trans e2) rfl
  ·rw[if_neg (by rw[g9];decide)]at h2
   exact h2 _ _ _ _ e rfl
theorem Oe (s:B8) (i:Nat):KJ s i≠.error 0:=by
 unfold KJ tokC
 repeat' split
 all_goals first | (simp;done) | skip
 rename_i e he
 intro h;simp only[Except.error.injEq]at h;subst h;exact LU _ _ _ _ _ he
theorem tokS_le {s:B8} {i:Nat} {p:Int×Nat} (hi:i<s.length) (h:KJ s i= .ok p):i<p.2/\p.2<=s.length/\1<=p.1/\p.1<=6:=by
 have hb:bt (s.drop i) 0=(s.getD i 0).toNat:=CS s i 0
 have hb1:bt (s.drop i) 1=(s.getD (i+1) 0).toNat:=CS s i 1
 have hlen:(s.drop i).length=s.length-i:=by simp
 have hlen1:(s.drop (i+1)).length=s.length-(i+1):=by simp
 have hne:s.drop i≠ []:=by
  intro h0
  have:=congrArg List.length h0
  rw[hlen]at this;simp at this;omega
 unfold KJ at h
 rw[hb]at h
 rw[hb1]at h
 have hsp:=GG Hl s i hi
 have hwd:=GG CC s i hi
 have hcf:(s.getD i 0).toNat=35->∀k,cF (s.length+1) (s.drop i) i=some k->i<k/\k<=s.length:=fun hc k hk=>by
  have hu:=(Od _ hne (by omega)).1
  simp only[cF]at hk
  rw[if_neg (by omega),if_neg (by omega),if_neg (by omega),if_neg (by omega)]at hk
  have h1:=cF_le _ _ _ _ hk
  rw[List.length_drop,hu]at h1
  omega
 generalize (s.getD i 0).toNat=c at*
 unfold tokC at h
 by_cases g1:c=32∨c=9
 ·rw[if_pos g1]at h
  simp only[Except.ok.injEq]at h
  subst h
  have h1:=Il Hl (s.drop i)
  rw[if_pos (by unfold Hl;exact decide_eq_true (by omega))]at hsp
  exact⟨by simp only;omega,by simp only;omega,by simp only;decide,by simp only;decide⟩
 rw[if_neg g1]at h
 by_cases g2:c=10
 ·rw[if_pos g2]at h
  simp only[Except.ok.injEq]at h
  subst h
  exact⟨by simp only;omega,by simp only;omega,by simp only;decide,by simp only;decide⟩
 rw[if_neg g2]at h
 by_cases g3:c=13
 ·rw[if_pos g3]at h
  split at h
  ·cases h
  ·split at h
   ·simp only[Except.ok.injEq]at h
    subst h
    exact⟨by simp only;omega,by simp only;omega,by simp only;decide,by simp only;decide⟩
   ·cases h
 rw[if_neg g3]at h
 by_cases g4:c=35
 ·rw[if_pos g4]at h
  cases hk:cF (s.length+1) (s.drop i) i with
  | none=>rw[hk]at h;cases h
  | some k=>
   rw[hk]at h
   simp only[Except.ok.injEq]at h
   subst h
   have:=hcf g4 k hk
   exact⟨by simp only;omega,by simp only;omega,by simp only;decide,by simp only;decide⟩
 rw[if_neg g4]at h
 by_cases g5:c=91∨c=93∨c=123∨c=125∨c=44∨c=61
 ·rw[if_pos g5]at h
  simp only[Except.ok.injEq]at h
  subst h
  exact⟨by simp only;omega,by simp only;omega,by simp only;decide,by simp only;decide⟩
 rw[if_neg g5]at h
 by_cases g6:c=34∨c=39
 ·rw[if_pos g6]at h
  cases hq:qF (s.length+1) c (s.drop (i+1)) [] (i+1)with
  | error e=>rw[hq]at h;cases h
  | ok q=>
   rw[hq]at h
   simp only[Except.ok.injEq]at h
   subst h
   have:=MX _ _ _ _ _ _ hq
   rw[hlen1]at this
   exact⟨by simp only;omega,by simp only;omega,by simp only;decide,by simp only;decide⟩
 rw[if_neg g6]at h
 by_cases g7:CC (c:Int)=true
 ·rw[if_pos g7]at h
  simp only[Except.ok.injEq]at h
  subst h
  rw[if_pos g7]at hwd
  have h1:=wlen_le (s.drop i)
  have h2:0<LD (s.drop i):=by
   unfold LD
   split<;>omega
  exact⟨by simp only;omega,by simp only;omega,by simp only;decide,by simp only;decide⟩
 ·rw[if_neg g7]at h;cases h
def nxt (s:B8) (at':Int):Except Int (Int×B8×Int):=
 if at'<0∨(s.length:Int)<at' then .error 1 else if at'=(s.length:Int)then .error 7
 else match KJ s at'.toNat with | .error e=> .error e | .ok p=> .ok (p.1,(s.drop at'.toNat).take (p.2-at'.toNat),at')
def nK:Except Int (Int×B8×Int)->Int | .ok p=>p.1 | .error _=>0
def nT:Except Int (Int×B8×Int)->B8 | .ok p=>p.2.1 | .error _=>[]
def nA:Except Int (Int×B8×Int)->Int | .ok p=>p.2.2 | .error _=>0
theorem MY {s:B8} {I:Int} {st:St} {K:Int->B8->Int->Int->St->Prop} (hl:s.length<=2000000)
  (hk:∀st',Ae st st'->K (nK (nxt s I)) (nT (nxt s I)) (nA (nxt s I)) (eE (nxt s I)) st'):
  CallT PR B0 [.str s,.int .i64 I] [.agg [.int .i64,.str,.int .i64],.one (.int .i64)] st K:=by
 unfold nxt at hk
 refine He s I st K (Aa (fun g1=>?_) fun g1=>Aa (fun g2=>?_) fun g2=>Aa (fun g3=>?_) fun g3=>?_)
 ·rw[if_pos (by omega)]at hk;exact hk _ (Ae.refl _)
 ·rw[if_pos (by omega)]at hk;exact hk _ (Ae.refl _)
 ·rw[if_neg (by omega),if_pos g3]at hk;exact hk _ (Ae.refl _)
 ·rw[if_neg (by omega),if_neg g3]at hk
  refine tend_ok (i:=I.toNat) (by omega) hl (by omega) (fun p st' e hp=>Aa (fun h=>absurd rfl h) fun _=>?_) fun er kd k st' e hp=>Aa (fun _=>?_) fun h=>absurd hp (by rw[show er=0 from Decidable.not_not.1 h];exact Oe _ _)
  ·rw[hp]at hk
   have:=tokS_le (by omega) hp
   refine⟨⟨by omega,by omega,by omega⟩,?_⟩
   rw[CQ,Int.toNat_natCast]
   exact hk _ e
  ·rw[hp]at hk;exact hk _ e
def unq (s:B8):Except Int B8:=
 if s=[]then .error 4 else if bt s 0≠34/\bt s 0≠39 then .error 3
 else match qF (s.length+1) (bt s 0) (s.drop 1) [] 1 with
  | .error e=> .error e
  | .ok p=>if p.2=s.length then .ok p.1 else .error 3
def uL:Except Int B8->B8 | .ok l=>l | .error _=>[]
theorem tunq_ok {s:B8} {st:St} {K:B8->Int->St->Prop} (hl:s.length<=2000000) (hk:∀st',Ae st st'->K (uL (unq s)) (eE (unq s)) st'):
  CallT PR B4 [.str s] [.one (.str),.one (.int .i64)] st K:=by
 unfold unq at hk
 have hb:bt s 0=(s.getD 0 0).toNat:=rfl
 refine FO s st K (Aa (fun g1=>?_) fun g1=>?_)
 ·rw[if_pos g1]at hk;exact hk _ (Ae.refl _)
 rw[if_neg g1]at hk
 have hlen:0<s.length:=List.length_pos_iff.2 g1
 rw[show Int.toNat (0:Int)=0 from rfl]
 refine⟨⟨by omega,by omega⟩,Aa (fun g2=>⟨⟨by omega,by omega⟩,Aa (fun g3=>?_) fun g3=>?_⟩) fun g2=>?_⟩
 ·rw[if_pos (by omega)]at hk;exact hk _ (Ae.refl _)
 all_goals
  rw[if_neg (by omega)]at hk
  refine Ht (i:=0) rfl hl hlen fun st' e=>?_
  rw[show qF (s.length+1) (bt (s.drop 0) 0) (s.drop (0+1)) [] (0+1)=qF (s.length+1) (bt s 0) (s.drop 1) [] 1 from rfl]
  cases hq:qF (s.length+1) (bt s 0) (s.drop 1) [] 1 with
  | error er=>
   rw[hq]at hk
   exact Aa (fun _=>hk _ e) fun h=>absurd hq (by rw[show er=0 from Decidable.not_not.1 h];exact LU _ _ _ _ _)
  | ok p=>
   rw[hq]at hk
   simp only at hk
   refine Aa (fun h=>absurd rfl h) fun _=>Aa (fun g4=>?_) fun g4=>?_
   ·rw[if_neg (fun h=>g4 (by show(p.2:Int)=_;omega))]at hk;exact hk _ e
   ·rw[if_pos (by have:(p.2:Int)=(s.length:Int):=Decidable.not_not.1 g4
                  omega)]at hk;exact hk _ e
theorem bare_ok {s:B8} {st:St} {K:Bool->St->Prop} (hl:s.length<=2000000) (hk:∀st',Ae st st'->K (decide (s≠ [])&&decide (twl H2 s=s.length)) st'):
  CallT PR CM [.str s] [.one (.bool)] st K:=by
 refine Hf s st K (Gr fun v u st1 e c1 c2=>Aa (fun g1=>GH (i:=0) rfl hl (by omega) c1 ?_) fun g1=>?_)
 ·have:=hk st1 e
  rw[decide_eq_true g1,Bool.true_and]at this
  refine BF (decide_eq_decide.2 ?_) this
  show((0+twl H2 s:Nat):Int)=_↔_
  omega
 ·have:=hk st1 e
  rw[decide_eq_false g1,Bool.false_and]at this
  exact this
theorem nxt0:nK (nxt Ol 0)=6/\nT (nxt Ol 0)=str3/\nA (nxt Ol 0)=0/\eE (nxt Ol 0)=0:=by decide+kernel
theorem nxt1:nT (nxt str1 0)=str4/\eE (nxt str1 0)=0:=by decide+kernel
theorem unq2:uL (unq str2)=str5/\eE (unq str2)=0:=by decide+kernel
theorem G7 {st:St} {K:Bool->St->Prop} (hk:∀st',Ae st st'->K true st'):CallT PR AC [] [.one (.bool)] st K:=by
 refine E4 st K (MY (by decide) fun st1 e1=>MY (by decide) fun st2 e2=>tunq_ok (by decide) fun st3 e3=>?_)
 rw[nxt0.1,nxt0.2.1,nxt0.2.2.1,nxt0.2.2.2,nxt1.1,nxt1.2,unq2.1,unq2.2]
 refine Ap (fun _=>?_) fun h=>absurd h (by decide)
 refine Aa (fun _=>?_) fun h=>absurd rfl h
 refine Aa (fun _=>?_) fun h=>absurd rfl h
 refine Aa (fun _=>?_) fun h=>absurd rfl h
 refine Aa (fun _=>?_) fun h=>absurd rfl h
 refine Aa (fun _=>?_) fun h=>absurd rfl h
 refine bare_ok (by decide) fun st4 e4=>?_
 rw[show(decide (str6≠ [])&&decide (twl H2 str6=str6.length))=true by decide+kernel]
 exact hk _ (((e1.trans e2).trans e3).trans e4)
theorem bad_ok {s:B8} {st:St} {K:Int->St->Prop} (hl:s.length<=2000000) (hk:K (if Cn s=s.length then-1 else((Cn s:Nat):Int)) st):CallT PR Dc [.str s] [.one (.int .i64)] st K:=by
 have hv:=KG s
 refine H7 s st K ⟨fun i s' st'=>s=s'/\st=st'/\∃k:Nat,i=(k:Int)/\k<=s.length/\k+Cn (s.drop k)=Cn s,fun i _ _=>(s.length-i).toNat,⟨rfl,rfl,0,rfl,by omega,by simp⟩,?_⟩
 rintro _ _ _ ⟨rfl,rfl,k,rfl,h1,h2⟩
 refine Aa (fun g1=>?_) fun g1=>?_
 ·have hlen:(s.drop k).length=s.length-k:=by simp
  have hne:s.drop k≠ []:=by
   intro h0
   have:=congrArg List.length h0
   rw[hlen]at this;simp at this;omega
  refine⟨⟨by omega,by omega⟩,?_⟩
  rw[show Int.toNat (k:Int)=k from rfl]
  refine Gq hne fun R N hD=>?_
  rcases hD with⟨h0,rfl,rfl⟩ | ⟨h0,_,hN,hn,hle,h4⟩
  ·rw[Ee _ h0]at h2
   rw[if_neg (by omega)]at hk
   refine Aa (fun _=>Aa (fun _=>?_) fun h=>absurd rfl h) fun h=>absurd rfl h
   rw[show k=Cn s by omega];exact hk
  ·rw[Hb _ h0,List.drop_drop]at h2
   rw[hlen]at hle
   have w:i64.wrap ((k:Int)+N)=((k+ul (s.drop k):Nat):Int):=by rw[Ac _ (by omega) (by omega)];omega
   rw[w]
   refine Aa (fun q1=>Aa (fun q2=>absurd ⟨q1,q2⟩ hn) fun _=>⟨⟨rfl,rfl,_,rfl,by omega,by omega⟩,by dsimp only;omega⟩) fun _=>⟨⟨rfl,rfl,_,rfl,by omega,by omega⟩,by dsimp only;omega⟩
 ·rw[show s.drop k=[]from List.drop_of_length_le (by omega),KF]at h2
  rw[if_pos (by omega)]at hk;exact hk
def hexC (n:Nat):UInt8:=Bq.getD n 0
def I4 (n:Nat):B8:=if n=34 then [92,34]else if n=92 then [92,92]else if n=8 then [92,98]else if n=12 then [92,102]else if n=10 then [92,110]else if n=13 then [92,114]else if n=9 then [92,116]
 else if n<32 then [92,117,48,48,hexC (n/16),hexC (n%16)]else [UInt8.ofNat n]
def Gp (s:B8):B8:=s.flatMap fun c=>I4 c.toNat
def quo (s:B8):B8:=34::(Gp s++[34])
def escT (n:Nat):Bool:=if 0<=Lib.indexByte FU (UInt8.ofNat n)then decide (Lib.indexByte FU (UInt8.ofNat n)<7)&&decide (I4 n=[92,KN.getD (Lib.indexByte FU (UInt8.ofNat n)).toNat 0])
 else if n<32 then decide (I4 n=[92,117,48,48,Bq.getD (n/16) 0,Bq.getD (n%16) 0])else decide (I4 n=[UInt8.ofNat n])
theorem O7:∀n,n<256->escT n=true:=by decide+kernel
theorem esc_idx (c:UInt8):(0<=Lib.indexByte FU c/\Lib.indexByte FU c<7/\I4 c.toNat=[92,KN.getD (Lib.indexByte FU c).toNat 0])∨
  (¬0<=Lib.indexByte FU c/\c.toNat<32/\I4 c.toNat=[92,117,48,48,Bq.getD (c.toNat/16) 0,Bq.getD (c.toNat%16) 0])∨(¬0<=Lib.indexByte FU c/\¬c.toNat<32/\I4 c.toNat=[c]):=by
 have h:=O7 c.toNat c.toNat_lt
 unfold escT at h
 rw[UInt8.ofNat_toNat]at h
 split at h
 ·rename_i h0
  simp only[Bool.and_eq_true,decide_eq_true_eq]at h
  exact .inl ⟨h0,h.1,h.2⟩
 ·rename_i h0
  split at h
  ·rename_i h1
   exact .inr (.inl ⟨h0,h1,by simpa using h⟩)
  ·rename_i h1
   exact .inr (.inr ⟨h0,h1,by simpa using h⟩)
theorem O8 (n:Nat):(I4 n).length<=6:=by
 unfold I4
 repeat' split
 all_goals simp
theorem I0:∀s:B8,(Gp s).length<=6*s.length
 | []=>by simp[Gp]
 | c::r=>by
  have h1:=O8 c.toNat
  have h2:=I0 r
  simp only[Gp,List.flatMap_cons,List.length_append,List.length_cons]at h2⊢
  omega
theorem JQ (s:B8) (k:Nat) (h:k<s.length):Gp (s.take (k+1))=Gp (s.take k)++I4 (s.getD k 0).toNat:=by
 rw[BY s k 0 h];simp[Gp]
theorem On (x:Nat):Int.fdiv ((x:Nat):Int) (2^(min (Int.toNat (4:Int)) (IntKind.bits .u8)))=((x/16:Nat):Int):=by
 rw[show(2:Int)^(min (Int.toNat (4:Int)) (IntKind.bits .u8))=((16:Nat):Int) by decide,Int.fdiv_eq_ediv_of_nonneg _ (Int.natCast_nonneg _)]
 rfl
theorem Pw (x:Nat) (h:x<256):Af .and .u8 (x:Int) (15:Int)=((x%16:Nat):Int):=by
 rw[show(15:Int)=((15:Nat):Int)from rfl,Pv _ _ (by omega) (by omega),show(15:Nat)=2^4-1 from rfl,Nat.and_two_pow_sub_one_eq_mod]
theorem Ns {s:B8} {st:St} {K:B8->Int->St->Prop} (hl:s.length<=2000000) (hk:∀st',Ae st st'->K (if Cn s=s.length then quo s else []) (if Cn s=s.length then 0 else 5) st'):
  CallT PR Cr [.str s] [.one (.str),.one (.int .i64)] st K:=by
 refine Gz s st K (bad_ok hl ?_)
 by_cases hb:Cn s=s.length
 ·rw[if_pos hb]
  rw[if_pos hb,if_pos hb]at hk
  refine Aa (fun h=>absurd h (by decide)) fun _=>?_
  refine⟨fun v i s' st'=>s=s'/\Ae st st'/\∃k:Nat,i=(k:Int)/\k<=s.length/\G8 st.nt st' v (34::Gp (s.take k)),fun _ i _ _=>(s.length-i).toNat,⟨rfl,Ae.refl _,0,rfl,by omega,Own.full _ _ _ _ _⟩,?_⟩
  rintro v _ _ st1 ⟨rfl,e,k,rfl,h1,h4⟩
  have hle:=I0 (s.take k)
  rw[List.length_take]at hle
  have hl4:(34::Gp (s.take k)).length<=12000001:=by simp only[List.length_cons];omega
  rw[show Int.toNat (k:Int)=k from rfl]
  refine Aa (fun g1=>⟨⟨by omega,by omega⟩,F1 (c:=s.getD k 0) rfl ?_⟩) fun g1=>?_
  ·have w:i64.wrap ((k:Int)+1)=((k+1:Nat):Int):=by rw[Ac _ (by omega) (by omega)];omega
   rw[w,On,Pw _ (s.getD k 0).toNat_lt]
   have hsn:=JQ s k (by omega)
   have hc:=(s.getD k 0).toNat_lt
   have hcase:=esc_idx (s.getD k 0)
   generalize Lib.indexByte FU (s.getD k 0)=X at hcase
   rcases hcase with⟨q1,q2,q3⟩ | ⟨q1,q2,q3⟩ | ⟨q1,q2,q3⟩
   ·rw[q3]at hsn
    refine Aa (fun _=>⟨⟨q1,q2⟩,CT (ys:=[92,KN.getD X.toNat 0]) e h4 rfl rfl (by simp only[List.length_cons]at hl4⊢;simp;omega) fun v' st' e' _ ho=>⟨⟨rfl,e',k+1,rfl,by omega,?_⟩,by dsimp only;omega⟩⟩) fun h=>absurd q1 h
    rw[hsn];exact ho
   ·rw[q3]at hsn
    refine Aa (fun h=>absurd h q1) fun _=>Aa (fun _=>⟨⟨by omega,by show _<((16:Nat):Int);omega⟩,⟨by omega,by show _<((16:Nat):Int);omega⟩,?_⟩) fun h=>by omega
    rw[Int.toNat_natCast,Int.toNat_natCast]
    refine CT (ys:=[92,117,48,48,Bq.getD ((s.getD k 0).toNat/16) 0,Bq.getD ((s.getD k 0).toNat%16) 0]) e h4 rfl rfl (by simp only[List.length_cons]at hl4⊢;simp;omega) fun v' st' e' _ ho=>⟨⟨rfl,e',k+1,rfl,by omega,?_⟩,by dsimp only;omega⟩
    rw[hsn];exact ho
   ·rw[q3]at hsn
    refine Aa (fun h=>absurd h q1) fun _=>Aa (fun h=>by omega) fun _=>?_
    refine CT (ys:=[s.getD k 0]) e h4 rfl rfl (by simp only[List.length_cons]at hl4⊢;simp;omega) fun v' st' e' _ ho=>⟨⟨rfl,e',k+1,rfl,by omega,?_⟩,by dsimp only;omega⟩
    rw[hsn];exact ho
  ·refine CT (ys:=[34]) e h4 rfl rfl (by simp only[List.length_cons]at hl4⊢;simp;omega) fun v' st' e' _ ho=>?_
   rw[List.take_of_length_le (show s.length<=k by omega)]at ho
   exact Am (show _=some (TV.str (quo s)) by rw[ho.rd.toBytes];rfl) (hk st' e')
 ·rw[if_neg hb]
  rw[if_neg hb,if_neg hb]at hk
  exact Aa (fun _=>hk st (Ae.refl _)) fun h=>by omega
theorem s16_ok {C:Int} {c:UInt8} {st:St} {K:B8->St->Prop} (hC:C=(c.toNat:Int)) (hk:K [Bq.getD (c.toNat/16) 0,Bq.getD (c.toNat%16) 0] st):CallT PR B5 [.int .u8 C] [.one (.str)] st K:=by
 have hc:=c.toNat_lt
 subst hC
 refine FQ _ st K ?_
 rw[On,Pw _ hc]
 generalize hx:c.toNat/16=x at*
 generalize hy:c.toNat%16=y at*
 have wx:u8.wrap ((x:Int)+1)=((x+1:Nat):Int):=by rw[Ii _ (by omega) (by omega)];omega
 have wy:u8.wrap ((y:Int)+1)=((y+1:Nat):Int):=by rw[Ii _ (by omega) (by omega)];omega
 rw[wx,wy]
 have e:∀z:Nat,z<16->List.drop (Int.toNat (z:Int)) (List.take (Int.toNat ((z+1:Nat):Int)) Bq)=[Bq.getD z 0]:=by
  intro z hz
  rw[Int.toNat_natCast,Int.toNat_natCast,BY Bq z 0 (by simp[Bq];omega)]
  rw[List.drop_append_of_le_length (by simp[Bq];omega),List.drop_of_length_le (by simp;omega)]
  rfl
 rw[e x (by omega),e y (by omega)]
 exact⟨⟨by omega,by omega,by simp[Bq];omega⟩,⟨by omega,by omega,by simp[Bq];omega⟩,by simp,hk⟩
theorem NB {s:B8} {st:St} {K:B8->Int->St->Prop} (hl:s.length<=2000000) (hk:∀st',Ae st st'->K (if Cn s=s.length then quo s else []) (if Cn s=s.length then 0 else 5) st'):
  CallT PR BA [.str s] [.one (.str),.one (.int .i64)] st K:=by
 refine ET s st K (FD hl fun st1 e=>?_)
 by_cases hb:Cn s=s.length
 ·rw[decide_eq_true hb]
  rw[if_pos hb,if_pos hb]at hk
  have hk1:=hk st1 e
  show BIf false _ _
  refine⟨fun out i s' st'=>s=s'/\st1=st'/\∃k:Nat,i=(k:Int)/\k<=s.length/\out=34::Gp (s.take k),fun _ i _ _=>(s.length-i).toNat,⟨rfl,rfl,0,rfl,by omega,rfl⟩,?_⟩
  rintro _ _ _ _ ⟨rfl,rfl,k,rfl,h1,rfl⟩
  have hle:=I0 (s.take k)
  rw[List.length_take]at hle
  have hl4:(34::Gp (s.take k)).length<=12000001:=by simp only[List.length_cons];omega
  rw[show Int.toNat (k:Int)=k from rfl]
  refine Aa (fun g1=>⟨⟨by omega,by omega⟩,?_⟩) fun g1=>?_
  ·have w:i64.wrap ((k:Int)+1)=((k+1:Nat):Int):=by rw[Ac _ (by omega) (by omega)];omega
   rw[w]
   have hsn:=JQ s k (by omega)
   have hc:=(s.getD k 0).toNat_lt
   have ht:List.drop k (List.take (Int.toNat ((k+1:Nat):Int)) s)=[s.getD k 0]:=by
    rw[Int.toNat_natCast,BY s k 0 (by omega),List.drop_append_of_le_length (by simp;omega),List.drop_of_length_le (by simp;omega)];rfl
   rw[ht]
   have ho:s.getD k 0=UInt8.ofNat (s.getD k 0).toNat:=by rw[UInt8.ofNat_toNat]
   unfold I4 at hsn
   have fin:∀x:B8,Gp (s.take (k+1))=Gp (s.take k)++x->(34::Gp (s.take k))++x=34::Gp (s.take (k+1)):=fun x hx=>by rw[hx];rfl
   refine Aa (fun q1=>?_) fun q1=>Aa (fun q2=>?_) fun q2=>Aa (fun q3=>?_) fun q3=>Aa (fun q4=>?_) fun q4=>Aa (fun q5=>?_) fun q5=>Aa (fun q6=>?_) fun q6=>Aa (fun q7=>?_) fun q7=>Aa (fun q8=>?_) fun q8=>?_
   ·rw[if_pos (by omega)]at hsn
    exact⟨by simp[MQ];simp only[List.length_cons]at hl4;omega,⟨rfl,rfl,k+1,rfl,by omega,fin _ hsn⟩,by dsimp only;omega⟩
   ·rw[if_neg (by omega),if_pos (by omega)]at hsn
    exact⟨by simp[MP];simp only[List.length_cons]at hl4;omega,⟨rfl,rfl,k+1,rfl,by omega,fin _ hsn⟩,by dsimp only;omega⟩
   ·rw[if_neg (by omega),if_neg (by omega),if_pos (by omega)]at hsn
    exact⟨by simp[MO];simp only[List.length_cons]at hl4;omega,⟨rfl,rfl,k+1,rfl,by omega,fin _ hsn⟩,by dsimp only;omega⟩
   ·rw[if_neg (by omega),if_neg (by omega),if_neg (by omega),if_pos (by omega)]at hsn
    exact⟨by simp[MN];simp only[List.length_cons]at hl4;omega,⟨rfl,rfl,k+1,rfl,by omega,fin _ hsn⟩,by dsimp only;omega⟩
   ·rw[if_neg (by omega),if_neg (by omega),if_neg (by omega),if_neg (by omega),if_pos (by omega)]at hsn
    exact⟨by simp[MM];simp only[List.length_cons]at hl4;omega,⟨rfl,rfl,k+1,rfl,by omega,fin _ hsn⟩,by dsimp only;omega⟩
   ·rw[if_neg (by omega),if_neg (by omega),if_neg (by omega),if_neg (by omega),if_neg (by omega),if_pos (by omega)]at hsn
    exact⟨by simp[ML];simp only[List.length_cons]at hl4;omega,⟨rfl,rfl,k+1,rfl,by omega,fin _ hsn⟩,by dsimp only;omega⟩
   ·rw[if_neg (by omega),if_neg (by omega),if_neg (by omega),if_neg (by omega),if_neg (by omega),if_neg (by omega),if_pos (by omega)]at hsn
    exact⟨by simp[MK];simp only[List.length_cons]at hl4;omega,⟨rfl,rfl,k+1,rfl,by omega,fin _ hsn⟩,by dsimp only;omega⟩
   ·rw[if_neg (by omega),if_neg (by omega),if_neg (by omega),if_neg (by omega),if_neg (by omega),if_neg (by omega),if_neg (by omega),if_pos (by omega)]at hsn
    refine s16_ok (c:=s.getD k 0) rfl ⟨by simp[Jz],by simp[Jz];simp only[List.length_cons]at hl4;omega,⟨rfl,rfl,k+1,rfl,by omega,fin _ hsn⟩,by dsimp only;omega⟩
   ·rw[if_neg (by omega),if_neg (by omega),if_neg (by omega),if_neg (by omega),if_neg (by omega),if_neg (by omega),if_neg (by omega),if_neg (by omega),<-ho]at hsn
    exact⟨⟨by omega,by omega,by omega⟩,by simp;simp only[List.length_cons]at hl4;omega,⟨rfl,rfl,k+1,rfl,by omega,fin _ hsn⟩,by dsimp only;omega⟩
  ·rw[List.take_of_length_le (show s.length<=k by omega)]at hl4⊢
   exact⟨by simp only[MR,List.length_cons,List.length_nil]at hl4⊢;omega,hk1⟩
 ·rw[decide_eq_false hb]
  rw[if_neg hb,if_neg hb]at hk
  exact hk st1 e
def isX (r:B8):Prop:=r≠ []/\(JS r).length=r.length
def isE (r:B8):Prop:=r=[]∨((r.getD 0 0=101∨r.getD 0 0=69)/\(if (r.drop 1).getD 0 0=45∨(r.drop 1).getD 0 0=43 then isX (r.drop 2)else isX (r.drop 1)))
def isF (r:B8):Prop:=if r.getD 0 0=46 then JS (r.drop 1)≠ []/\isE (r.drop (1+(JS (r.drop 1)).length))else isE r
def isQ (t:B8):Prop:=JS t≠ []/\¬(1<(JS t).length/\t.getD 0 0=48)/\isF (t.drop (JS t).length)
instance (r:B8):Decidable (isX r):=inferInstanceAs (Decidable (_/\_))
instance (r:B8):Decidable (isE r):=by unfold isE;infer_instance
instance (r:B8):Decidable (isF r):=by unfold isF;infer_instance
instance (r:B8):Decidable (isQ r):=by unfold isQ;infer_instance
end Go.TVF
