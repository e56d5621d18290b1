/- What the laws below rest on: a framework for Go programs, and contracts of the functions that they reach. -/
import Derived.Test.YtpfhcnpnngjpnaaGreatDoorGgE
import Derived.WideShapes
import Derived.Shelf.Strings.Builder2
import Derived.Shelf.Strings.Replace
import Derived.Test.YtpfhcnpnngjpnaaGreatDoorProg
set_option maxRecDepth 20000
set_option linter.unusedVariables false
set_option linter.unusedSimpArgs false
namespace Go.TVF
open Go.IntKind(i64 u8)
open Go Go.Proofs
theorem Cs (st:St) (b:Nat) (o:J8):(st.put b o).box b=o:=by simp[St.put]
theorem Fq (st:St) (o:J8) (t:Option Nat):(st.push o t).box st.nb=o:=by simp[St.push]
theorem HO.set {st:St} {u:TV} {n i:Nat} {xs:List TV} {bs:List Nat} {x:TV} {K:St->Prop} (h:HO st 1 u n xs bs) (hi:i<n) (hK:∀st',HO st' 1 u n (xs.set i x) bs->StX (·∈bs) st st'->K st'):stB st (ixT 1 u i) [x] K:=by
 rcases h with⟨h0,_⟩ | ⟨b,cap,tail,rfl,h1,h2,h3,h4,h5,rfl⟩
 ·omega
 ·simp only[ixT,Nat.zero_add,Nat.mul_one,stB]
  have hl:(xs++tail).length=cap:=by omega
  rw[List.length_append]at hl
  refine⟨_,h2,by rw[List.length_append,List.length_singleton];omega,hK _ (.inr ⟨b,cap,tail,rfl,h1,?_,by rw[List.length_append,List.length_set];omega,by rw[List.length_set];exact h4,h5,rfl⟩) (StX.put (S:=(·∈ [b])) (.head _) _)⟩
  rw[Cs]
  simp only[setAll]
  rw[List.set_append_left _ _ (by omega)]
def BxB (st0 st:St) (u:TV) (l:B8):Prop:=∃bs,HO st 1 u l.length (AC l) bs/\Am st0 st/\∀x,x∈bs->st0.nb<=x
theorem BxB.nil {st0 st:St} (e:Am st0 st):BxB st0 st .nilSlice []:=⟨[],HO.nil _ _,e,fun x hx=>by cases hx⟩
theorem BxB.rd {st0 st:St} {u:TV} {l:B8} (h:BxB st0 st u l):SlR st 1 u l.length (AC l):=by
 obtain⟨bs,h1,_⟩:=h;exact h1.rd
theorem BxB.ext {st0 st:St} {u:TV} {l:B8} (h:BxB st0 st u l):Am st0 st:=by
 obtain⟨bs,_,h2,_⟩:=h;exact h2
theorem BxB.app {st0 st:St} {u:TV} {l:B8} {c:UInt8} {x:TV} {K:TV->St->Prop} (h:BxB st0 st u l) (hx:x=JE c) (hl:l.length<=100000000) (hK:∀u' st',BxB st0 st' u' (l++[c])->K u' st'):LP 5 1 1 u 1 [x] st K:=by
 obtain⟨bs,h1,h2,h3⟩:=h
 subst hx
 refine Zi h1 (by omega) rfl (by omega) fun u' st' bs' ho e hb=>hK u' st' ⟨bs',?_,?_,?_⟩
 ·rw[List.length_append,List.length_singleton,<-Fe];exact ho
 ·exact StX.ext h2 e h3
 ·rcases hb with⟨rfl,_⟩ | rfl
  ·exact h3
  ·intro y hy;rw[List.mem_singleton.1 hy];exact h2.nb
theorem WX (l:B8) (i:Nat) (c:UInt8):(AC l).set i (JE c)=AC (l.set i c):=by
 unfold AC;rw[List.map_set]
theorem BxB.set {st0 st:St} {u:TV} {l:B8} {i:Nat} {c:UInt8} {x:TV} {K:St->Prop} (h:BxB st0 st u l) (hx:x=JE c) (hi:i<l.length) (hK:∀st',BxB st0 st' u (l.set i c)->K st'):stB st (ixT 1 u i) [x] K:=by
 obtain⟨bs,h1,h2,h3⟩:=h
 subst hx
 refine h1.set hi fun st' ho e=>hK st' ⟨bs,?_,StX.ext h2 e h3,h3⟩
 rw[List.length_set,<-WX];exact ho
theorem zrep_u8 (n:Nat):GX [.int .u8 (0:Int)] (n*1)=AC (List.replicate n 0):=by
 unfold GX AC
 rw[Nat.mul_one,List.map_replicate]
 refine List.ext_getElem (by simp) fun i h1 h2=>?_
 simp[JE,Nat.mod_one]
theorem BxB.make {st0 st:St} (e:Am st0 st) (n:Nat):BxB st0 (st.push (.cells (GX [.int .u8 (0:Int)] (n*1))) (some 5)) (.ms 1 st.nb 0 n n) (List.replicate n 0):=by
 refine⟨[st.nb],.inr ⟨st.nb,n,[],by rw[List.length_replicate],by simp[St.push],?_,?_,?_,?_,rfl⟩,e.push _ _,fun x hx=>by rw[List.mem_singleton.1 hx];exact e.nb⟩
 ·rw[zrep_u8,List.append_nil,Fq]
 ·rw[List.append_nil,D4,List.length_replicate,Nat.mul_one]
 ·rw[D4];omega
 ·rw[List.length_replicate];exact Nat.le_refl _
theorem XL {c:UInt8} {f:Int->Prop} (h:f (c.toNat:Int)):Af (.int .u8) (JE c) f:=AA h
theorem BxB.ld {st0 st:St} {u:TV} {l:B8} {i:Nat} (h:BxB st0 st u l) (hi:i<l.length):Ad st [] (.t (ixT 1 u i)) 0=some (JE l[i]):=h.rd.ldb hi
theorem BxB.str {st0 st:St} {u:TV} {l:B8} {K:B8->Prop} (h:BxB st0 st u l) (hk:K l):Ae ((toBytes st u).map TV.str) fun x=>Af .str x K:=
 Ac (x:= .str l) (by rw[h.rd.toBytes];rfl) (Al hk)
theorem VZ {st0 st:St} {u:TV} {l:B8} (hl:l.length<=100000000) (h:BxB st0 st u l) {K:St->Prop} (hk:∀st',BxB st0 st' u l.reverse->K st'):CallT PR EI [u] [] st K:=by
 refine K0 u st K (Ab h.rd.isSl ?_)
 rw[h.rd.lenS,Ai _ (by omega) (by omega)]
 refine⟨fun i k b st'=>u=b/\∃(n:Nat) (m:B8),i=n/\k=(l.length:Int)-1-n/\2*n<=l.length+1/\m.length=l.length/\BxB st0 st' u m/\∀j,j<l.length->m.getD j 0=if j<n∨l.length-n<=j then l.getD (l.length-1-j) 0 else l.getD j 0,fun i _ _ _=>(l.length-i).toNat,⟨rfl,0,l,rfl,by omega,by omega,rfl,h,fun j hj=>by rw[if_neg (by omega)]⟩,?_⟩
 rintro _ _ _ st1 ⟨rfl,n,m,rfl,rfl,hn,hm,hb,hall⟩
 refine Aa (fun g=>?_) fun g=>hk _ ?_
 ·have hk':Int.toNat ((l.length:Int)-1-n)=l.length-1-n:=by omega
  have hr:=hb.rd
  have hnl:n<m.length:=by omega
  have hkl:l.length-1-n<m.length:=by omega
  rw[hr.lenZ,hk',Int.toNat_natCast]
  refine⟨⟨by omega,by omega⟩,Ac (hb.ld hkl) (XL ⟨⟨by omega,by omega⟩,Ac (hb.ld hnl) (XL ⟨⟨by omega,by omega⟩,hb.set (c:=m[l.length-1-n]) rfl hnl fun st2 hb2=>⟨⟨by omega,by omega⟩,hb2.set (c:=m[n]) rfl (by rw[List.length_set];exact hkl) fun st3 hb3=>?_⟩⟩)⟩)⟩
  rw[Ai _ (by omega) (by omega),Ai _ (by omega) (by omega)]
  refine⟨⟨rfl,n+1,_,by omega,by omega,by omega,by rw[List.length_set,List.length_set];exact hm,hb3,fun j hj=>?_⟩,by dsimp only;omega⟩
  have h1:=hall n (by omega)
  have h2:=hall (l.length-1-n) (by omega)
  rw[if_neg (by omega)]at h1 h2
  have e1:m.getD n 0=m[n]:=by rw[List.getD_eq_getElem?_getD,List.getElem?_eq_getElem hnl];rfl
  have e2:m.getD (l.length-1-n) 0=m[l.length-1-n]:=by rw[List.getD_eq_getElem?_getD,List.getElem?_eq_getElem hkl];rfl
  have e3:((m.set n m[l.length-1-n]).set (l.length-1-n) m[n]).getD j 0=if j=l.length-1-n then m[n]else if j=n then m[l.length-1-n]else m.getD j 0:=by
   rw[List.getD_eq_getElem?_getD,List.getElem?_set,List.getElem?_set]
   by_cases c1:j=l.length-1-n
   ·rw[if_pos c1.symm,if_pos c1,if_pos (by rw[List.length_set];omega)];rfl
   ·rw[if_neg (fun e=>c1 e.symm),if_neg c1]
    by_cases c2:j=n
    ·rw[if_pos c2.symm,if_pos c2,if_pos (by omega)];rfl
    ·rw[if_neg (fun e=>c2 e.symm),if_neg c2,List.getD_eq_getElem?_getD]
  rw[e3]
  by_cases c1:j=l.length-1-n
  ·rw[if_pos c1,if_pos (by omega),<-e1,h1];congr 1;omega
  ·rw[if_neg c1]
   by_cases c2:j=n
   ·rw[if_pos c2,if_pos (by omega),<-e2,h2];congr 1;omega
   ·rw[if_neg c2,hall j hj]
    by_cases c3:j<n∨l.length-n<=j
    ·rw[if_pos c3,if_pos (by omega)]
    ·rw[if_neg c3,if_neg (by omega)]
 ·have:m=l.reverse:=by
   refine List.ext_getElem (by simpa using hm) fun j h1 h2=>?_
   have:=hall j (by omega)
   rw[List.getD_eq_getElem?_getD,List.getElem?_eq_getElem h1,Option.getD_some]at this
   rw[this,List.getElem_reverse]
   by_cases c:j<n∨l.length-n<=j
   ·rw[if_pos c,List.getD_eq_getElem?_getD,List.getElem?_eq_getElem (by omega),Option.getD_some]
   ·rw[if_neg c,List.getD_eq_getElem?_getD,List.getElem?_eq_getElem (by omega),Option.getD_some]
    congr 1;omega
  rw[<-this];exact hb
theorem dg_w8 {n:Nat} (x:Int) (h:x=n):u8.wrap (i64.wrap (48+x.tmod 10))=(((48+n%10).toUInt8.toNat:Nat):Int):=by
 subst h
 rw[Int.tmod_eq_emod_of_nonneg (by omega),Ai _ (by omega) (by omega),Ef _ (by omega),N3 _ (by omega) (by omega)];omega
theorem Wz {n:Nat} (hn:n<=9000000000000000000) {st:St} {K:B8->St->Prop} (hk:∀st',Am st st'->K (KE n) st'):CallT PR EJ [.int .i64 (n:Int)] [.one .str] st K:=by
 have hlen:(KE n).length<=19:=Pb 19 n (by omega)
 refine K2 _ st K ⟨fun k b st'=>∃(m:Nat) (l:B8),k=m/\m<=n/\BxB st st' b l/\KE n=KE m++l.reverse,fun k _ _=>k.toNat,⟨n,[],rfl,Nat.le_refl _,BxB.nil (Am.refl _),by simp⟩,?_⟩
 rintro _ b st1 ⟨m,l,rfl,hm,hb,he⟩
 have hll:l.length<=19:=by rw[he,List.length_append,List.length_reverse]at hlen;omega
 refine Aa (fun g=>?_) fun g=>?_
 ·refine hb.app (c:=(48+m%10).toUInt8) (by rw[dg_w8 _ rfl];rfl) (by omega) fun u' st2 hb2=>?_
  have hd:i64.wrap ((m:Int).tdiv 10)=((m/10:Nat):Int):=by rw[Int.tdiv_eq_ediv_of_nonneg (by omega),Ai _ (by omega) (by omega)];omega
  rw[hd]
  refine⟨⟨m/10,_,rfl,by omega,hb2,?_⟩,by dsimp only;omega⟩
  rw[he,HB (by omega),List.reverse_append,List.reverse_singleton,List.append_assoc]
 ·have h0:m=0:=by omega
  subst h0
  rw[HA,List.nil_append]at he
  refine VZ (by omega) hb fun st2 hb2=>hb2.str ?_
  rw[<-he];exact hk _ hb2.ext
theorem Tv {n:Nat} (hn:n<=9000000000000000000) {st:St} {K:B8->St->Prop} (hk:∀st',Am st st'->K (whN n) st'):CallT PR DL [.int .i64 (n:Int)] [.one .str] st K:=by
 unfold whN at hk
 refine LY _ st K (Aa (fun g=>?_) fun g=>Wz hn fun st' e=>?_)
 ·have:=hk st (Am.refl _)
  rw[if_pos (by omega)]at this;exact this
 ·have:=hk st' e
  rw[if_neg (by omega)]at this;exact this
theorem XG (p:Int):MH p=if p<1 then 101::45::whN (1-p).toNat else 101::whN (p-1).toNat:=by
 unfold MH;split<;>rfl
def OO (neg:Bool):B8:=if neg then [45]else []
theorem Ud (neg:Bool):(OO neg).length<=1:=by cases neg<;>decide
theorem NM {n:Nat} (h:n<10^18):(whN n).length<=18:=by
 unfold whN;split
 ·decide
 ·exact Pb 18 n h
theorem dText_ok {neg:Bool} {dg:B8} {ex:Int} (h:Dk neg dg ex) {st:St} {K:B8->St->Prop} (hk:∀st',Am st st'->K (dcT neg dg ex) st'):CallT PR Ee [.agg [.bool neg,.str dg,.int .i64 ex]] [.one .str] st K:=by
 have e0:=Am.refl st
 unfold dcT at hk
 by_cases hne:dg=[]
 ·rw[if_pos hne]at hk
  refine IC neg dg ex st K ⟨fun _ _ _ _=>False,Aa (fun _=>hk st e0) fun g=>absurd hne g,fun _ _ _ _ h=>h.elim⟩
 rw[if_neg hne]at hk
 obtain⟨h1,h2,h3,h4,h5,h6⟩:=h.2 hne
 have hpos:=List.length_pos_iff.2 hne
 have hs:=Ud neg
 have hw:i64.wrap ((dg.length:Int)+ex)=dg.length+ex:=Ai _ (by omega) (by omega)
 refine IC neg dg ex st K ⟨fun b s n st'=>neg=b/\dg=s/\ex=n/\st=st',Aa (fun g=>absurd g hne) fun _=>Nh (by omega) ?_,?_⟩
 ·rw[decide_eq_true h]
  exact⟨rfl,rfl,rfl,rfl⟩
 rintro _ _ _ _ ⟨rfl,rfl,rfl,rfl⟩
 refine⟨fun s b s1 n st'=>OO neg=s/\neg=b/\dg=s1/\ex=n/\st=st',Ap (fun hb=>⟨by rw[hb];rfl,rfl,rfl,rfl,rfl⟩) fun hb=>⟨by rw[hb];rfl,rfl,rfl,rfl,rfl⟩,?_⟩
 rintro _ _ _ _ _ ⟨rfl,rfl,rfl,rfl,rfl⟩
 rw[hw]
 have hk':=hk
 rw[show(if neg=true then [45]else [])=OO neg from rfl]at hk
 refine⟨fun s n p b s2 n2 st'=>OO neg=s/\(dg.length:Int)=n/\(dg.length:Int)+ex=p/\dg=s2/\st=st'/\¬(0<=ex/\dg.length+ex<=21)/\¬(ex<0/\1<=dg.length+ex/\dg.length+ex<=21)/\¬(-5<=dg.length+ex/\dg.length+ex<=0),?_,?_⟩
 ·refine⟨fun b s n p b4 s3 n3 st'=>b=decide (0<=ex/\dg.length+ex<=21)/\OO neg=s/\(dg.length:Int)=n/\(dg.length:Int)+ex=p/\dg=s3/\ex=n3/\st=st',?_,?_⟩
  ·refine Aa (fun g=>⟨?_,rfl,rfl,rfl,rfl,rfl,rfl⟩) fun g=>⟨?_,rfl,rfl,rfl,rfl,rfl,rfl⟩
   ·exact decide_eq_decide.2 ⟨fun g2=>⟨g,g2⟩,fun g2=>g2.2⟩
   ·exact(decide_eq_false fun g2=>g g2.1).symm
  rintro _ _ _ _ _ _ _ _ ⟨rfl,rfl,rfl,rfl,rfl,rfl,rfl⟩
  refine Aa (fun g=>?_) fun g=>?_
  ·rw[if_pos g]at hk
   obtain⟨g1,g2⟩:=g
   obtain⟨m,rfl⟩:∃m:Nat,ex=m:=⟨ex.toNat,by omega⟩
   refine⟨by omega,Q5 (by omega) ⟨by rw[List.length_append,Vy];omega,?_⟩⟩
   have:=hk st e0
   rw[Int.toNat_natCast,<-List.append_assoc]at this
   exact this
  rw[if_neg g]at hk
  refine⟨fun b s n p b5 s5 n4 st'=>b=decide (ex<0/\1<=dg.length+ex/\dg.length+ex<=21)/\OO neg=s/\(dg.length:Int)=n/\(dg.length:Int)+ex=p/\dg=s5/\ex=n4/\st=st',?_,?_⟩
  ·refine Aa (fun g1=>Aa (fun g2=>⟨?_,rfl,rfl,rfl,rfl,rfl,rfl⟩) fun g2=>⟨?_,rfl,rfl,rfl,rfl,rfl,rfl⟩) fun g1=>⟨?_,rfl,rfl,rfl,rfl,rfl,rfl⟩
   ·exact decide_eq_decide.2 ⟨fun g3=>⟨g1,g2,g3⟩,fun g3=>g3.2.2⟩
   ·exact(decide_eq_false fun g3=>g2 g3.2.1).symm
   ·exact(decide_eq_false fun g3=>g1 g3.1).symm
  rintro _ _ _ _ _ _ _ _ ⟨rfl,rfl,rfl,rfl,rfl,rfl,rfl⟩
  refine Aa (fun g2=>?_) fun g2=>?_
  ·rw[if_pos g2]at hk
   obtain⟨g3,g4,g5⟩:=g2
   have hlt:(List.take (Int.toNat ((dg.length:Int)+ex)) dg).length<=dg.length:=by rw[List.length_take];omega
   have hld:(List.drop (Int.toNat ((dg.length:Int)+ex)) dg).length<=dg.length:=by rw[List.length_drop];omega
   refine⟨⟨by omega,by omega⟩,by omega,by rw[List.length_append];show _+1<=_;omega,⟨by omega,by omega⟩,by simp only[List.length_append];show _+1+_<=_;omega,?_⟩
   have:=hk st e0
   rw[<-List.append_assoc,List.append_cons]at this
   exact this
  rw[if_neg g2]at hk
  refine Aa (fun g3=>Aa (fun g4=>?_) fun g4=>⟨rfl,rfl,rfl,rfl,rfl,g,g2,fun g5=>g4 g5.2⟩) fun g3=>⟨rfl,rfl,rfl,rfl,rfl,g,g2,fun g5=>g3 g5.1⟩
  rw[if_pos ⟨g3,g4⟩]at hk
  obtain⟨m,hm⟩:∃m:Nat,(0:Int)-((dg.length:Int)+ex)=m:=⟨(0-((dg.length:Int)+ex)).toNat,by omega⟩
  rw[Ai _ (by omega) (by omega),hm]
  have hm2:(-((dg.length:Int)+ex)).toNat=m:=by omega
  rw[hm2]at hk
  refine⟨by show _+2<=_;omega,Q5 (by omega) ⟨by rw[List.length_append,Vy];show _+2+_<=_;omega,by simp only[List.length_append,Vy];show _+2+_+_<=_;omega,?_⟩⟩
  have:=hk st e0
  rw[List.append_cons,List.append_cons,<-List.append_assoc,List.append_assoc (OO neg)]at this
  exact this
 ·rintro _ _ _ _ _ _ _ ⟨rfl,rfl,rfl,rfl,rfl,g1,g2,g3⟩
  rw[if_neg g1,if_neg g2,if_neg g3,XG]at hk
  have ht1:(List.take (Int.toNat 1) dg).length=1:=by rw[List.length_take];omega
  have hd1:(List.drop (Int.toNat 1) dg).length<=dg.length:=by rw[List.length_drop];omega
  refine⟨⟨by omega,by omega⟩,by omega,fun s p st'=>OO neg++(dg.take 1++(if 1<dg.length then 46::dg.drop 1 else []))=s/\(dg.length:Int)+ex=p/\st=st',?_,?_⟩
  ·refine Aa (fun g4=>⟨⟨by omega,by omega⟩,by show 1+_<=_;omega,by simp only[List.length_append];show _+(1+_)<=_;omega,?_,rfl,rfl⟩) fun g4=>⟨?_,rfl,rfl⟩
   ·rw[if_pos (by omega),List.append_assoc];rfl
   ·rw[if_neg (by omega),List.append_nil];rfl
  rintro s _ _ ⟨hs0,rfl,rfl⟩
  have hsl:s.length<=300:=by
   rw[<-hs0]
   have:(if 1<dg.length then 46::dg.drop 1 else []).length<=dg.length:=by
    split
    ·rw[List.length_cons,List.length_drop];omega
    ·simp
   simp only[List.length_append,List.length_take];omega
  refine Aa (fun g4=>?_) fun g4=>?_
  ·rw[if_pos g4]at hk
   obtain⟨m,hm⟩:∃m:Nat,(1:Int)-((dg.length:Int)+ex)=m:=⟨(1-((dg.length:Int)+ex)).toNat,by omega⟩
   have hwl:=NM (n:=m) (by omega)
   rw[Ai _ (by omega) (by omega),hm]
   refine⟨by show _+2<=_;omega,Tv (by omega) fun st' e'=>⟨by rw[List.length_append];show _+2+_<=_;omega,?_⟩⟩
   have:=hk st' e'
   rw[<-List.append_assoc (dg.take 1),<-List.append_assoc (OO neg),hs0,hm,Int.toNat_natCast,List.append_cons,List.append_cons,List.append_assoc s]at this
   exact this
  ·rw[if_neg g4]at hk
   obtain⟨m,hm⟩:∃m:Nat,((dg.length:Int)+ex)-1=m:=⟨(((dg.length:Int)+ex)-1).toNat,by omega⟩
   have hwl:=NM (n:=m) (by omega)
   rw[Ai _ (by omega) (by omega),hm]
   refine⟨by show _+1<=_;omega,Tv (by omega) fun st' e'=>⟨by rw[List.length_append];show _+1+_<=_;omega,?_⟩⟩
   have:=hk st' e'
   rw[<-List.append_assoc (dg.take 1),<-List.append_assoc (OO neg),hs0,hm,Int.toNat_natCast,List.append_cons]at this
   exact this
def monX (y m:Nat):Nat:=if 1<=y/\y<=9999/\1<=m/\m<=12 then KF y m else 0
theorem Lv {y m:Nat} (h1:1<=y) (h2:y<=9999) (h3:1<=m) (h4:m<=12):monX y m=KF y m:=if_pos ⟨h1,h2,h3,h4⟩
theorem Np {y:Nat} {st:St} {K:Bool->St->Prop} (hk:K (decide (1<=y/\y<=9999)) st):CallT PR Di [.int .i64 (y:Int)] [.one .bool] st K:=by
 refine K3 _ st K (Aa (fun g=>?_) fun g=>?_)
 ·exact Fu (decide_eq_decide.2 ⟨fun h=>by omega,fun h=>by omega⟩) hk
 ·rw[decide_eq_false (by omega)]at hk;exact hk
theorem WW {y:Nat} (h1:1<=y) (h2:y<=9999) {st:St} {K:Bool->St->Prop} (hk:K (decide (Ro y)) st):CallT PR EZ [.int .i64 (y:Int)] [.one .bool] st K:=by
 refine L4 _ st K (Np ?_)
 rw[decide_eq_true ⟨h1,h2⟩,Int.tmod_eq_emod_of_nonneg (by omega),Int.tmod_eq_emod_of_nonneg (by omega),Int.tmod_eq_emod_of_nonneg (by omega)]
 unfold Ro at hk
 refine Aa (p:=True) (fun _=>Aa (fun g=>Aa (fun g2=>?_) fun g2=>?_) fun g=>?_) (fun h=>absurd trivial h)
 ·exact Fu (decide_eq_true (show y%4=0/\(y%100≠0∨y%400=0)from⟨by omega,.inl (by omega)⟩) |>.symm) hk
 ·exact Fu (decide_eq_decide.2 ⟨fun h=>⟨by omega,.inr (by omega)⟩,fun h=>by omega⟩) hk
 ·exact Fu (decide_eq_false (show ¬(y%4=0/\(y%100≠0∨y%400=0))from fun h=>by omega) |>.symm) hk
theorem days_ix:∀k:Nat,k<12->k≠1->(([.int .i64 31,.int .i64 28,.int .i64 31,.int .i64 30,.int .i64 31,.int .i64 30,.int .i64 31,.int .i64 31,.int .i64 30,.int .i64 31,.int .i64 30,.int .i64 31]:List TV)[(0+k*1)+0]?)=some (.int .i64 (if k+1=4∨k+1=6∨k+1=9∨k+1=11 then 30 else 31))
 | 0,_,_=>rfl
 | 1,_,h=>absurd rfl h
 | 2,_,_=>rfl
 | 3,_,_=>rfl
 | 4,_,_=>rfl
 | 5,_,_=>rfl
 | 6,_,_=>rfl
 | 7,_,_=>rfl
 | 8,_,_=>rfl
 | 9,_,_=>rfl
 | 10,_,_=>rfl
 | 11,_,_=>rfl
 | k+12,h,_=>by omega
theorem GR {y m:Nat} (hm:m<=1000000) {st:St} {K:Int->St->Prop} (hk:K (monX y m:Nat) st):CallT PR AW [.int .i64 (y:Int),.int .i64 (m:Int)] [.one (.int .i64)] st K:=by
 unfold monX at hk
 refine K6 _ _ st K (Np ?_)
 by_cases hy:1<=y/\y<=9999
 ·rw[decide_eq_true hy]
  refine Aa (p:=False) (fun h=>h.elim) fun _=>Aa (fun g=>?_) fun g=>Aa (fun g2=>?_) fun g2=>?_
  ·rw[if_neg (by omega)]at hk;exact hk
  ·rw[if_neg (by omega)]at hk;exact hk
  ·rw[if_pos (by omega)]at hk
   unfold KF at hk
   rw[Ai _ (by omega) (by omega)]
   refine Aa (fun g3=>WW hy.1 hy.2 (Aa (fun g4=>?_) fun g4=>?_)) fun g3=>⟨⟨by omega,by omega⟩,?_⟩
   ·rw[if_pos (by omega),if_pos g4]at hk;exact hk
   ·rw[if_pos (by omega),if_neg g4]at hk
    refine⟨⟨by omega,by omega⟩,?_⟩
    have:m=2:=by omega
    subst this
    exact Ac (x:= .int .i64 28) rfl (AA hk)
   ·rw[if_neg (by omega)]at hk
    obtain⟨k,rfl⟩:∃k,m=k+1:=⟨m-1,by omega⟩
    rw[show(((k+1:Nat):Int)-1)=(k:Int) by omega,Int.toNat_natCast]
    refine Ac (days_ix k (by omega) (by omega)) (AA ?_)
    split
    ·rename_i h;rw[if_pos h]at hk;exact hk
    ·rename_i h;rw[if_neg h]at hk;exact hk
 ·rw[decide_eq_false hy]
  refine Aa (p:=True) (fun _=>?_) fun h=>absurd trivial h
  rw[if_neg (fun h=>hy ⟨h.1,h.2.1⟩)]at hk;exact hk
theorem GQ {y:Nat} (h1:1<=y) (h2:y<=1000000) {st:St} {K:Int->St->Prop} (hk:K (yrS y:Nat) st):CallT PR BO [.int .i64 (y:Int)] [.one (.int .i64)] st K:=by
 refine K4 _ st K ?_
 obtain⟨k,rfl⟩:∃k,y=k+1:=⟨y-1,by omega⟩
 unfold yrS at hk
 rw[Nat.add_sub_cancel]at hk
 rw[show(((k+1:Nat):Int)-1)=(k:Int) by omega,Ai (k:Int) (by omega) (by omega),Int.tdiv_eq_ediv_of_nonneg (by omega),Int.tdiv_eq_ediv_of_nonneg (by omega),Int.tdiv_eq_ediv_of_nonneg (by omega)]
 rw[Ai (365*(k:Int)) (by omega) (by omega),Ai ((k:Int)/4) (by omega) (by omega),Ai ((k:Int)/100) (by omega) (by omega),Ai ((k:Int)/400) (by omega) (by omega),Ai (365*(k:Int)+(k:Int)/4) (by omega) (by omega),Ai (365*(k:Int)+(k:Int)/4-(k:Int)/100) (by omega) (by omega),Ai _ (by omega) (by omega)]
 have e:(((365*k+k/4-k/100+k/400:Nat):Nat):Int)=365*(k:Int)+(k:Int)/4-(k:Int)/100+(k:Int)/400:=by omega
 rw[e]at hk;exact hk
theorem Nj {n y:Nat} (hy:1<=y) (hy2:y<=9999) (h1:yrS y<=n) (h2:n<yrS (y+1)) (hn:n<=3652058) {st:St} {K:Int->Int->Int->Int->St->Prop} (hk:∀m d:Nat,Gu n y m d->K y m d 0 st):
  ∃(I2:Int->Int->Int->St->Prop) (M2:Int->Int->Int->St->Nat),(I2 1 (i64.wrap ((n:Int)-(yrS y:Nat))) (y:Int) st)/\∀(month_1:Int) (rest_1:Int) (year_2:Int) (st5:St),I2 month_1 rest_1 year_2 st5->(
   CallT PR AW [.int .i64 year_2,.int .i64 month_1] [.one (.int .i64)] st5 (fun (n3:Int) (st6:St)=>BIf (decide (n3<=rest_1)) (
    CallT PR AW [.int .i64 year_2,.int .i64 month_1] [.one (.int .i64)] st6 (fun (n4:Int) (st7:St)=>(I2 (i64.wrap (month_1+1)) (i64.wrap (rest_1-n4)) year_2 st7/\M2 (i64.wrap (month_1+1)) (i64.wrap (rest_1-n4)) year_2 st7<M2 month_1 rest_1 year_2 st5)))
    (K year_2 month_1 (i64.wrap (rest_1+1)) 0 st6))):=by
 rw[Ai _ (by omega) (by omega)]
 refine⟨fun mo re ye st'=>(y:Int)=ye/\st=st'/\∃m:Nat,mo=m/\1<=m/\m<=12/\re=((n-yrS y-ET y m:Nat):Int)/\ET y m<=n-yrS y,fun mo _ _ _=>(13-mo).toNat,⟨rfl,rfl,1,rfl,by omega,by omega,by show _=((n-yrS y-0:Nat):Int);omega,Nat.zero_le _⟩,?_⟩
 rintro _ _ _ _ ⟨rfl,rfl,m,rfl,hm1,hm2,rfl,hm3⟩
 refine GR (by omega) ?_
 rw[Lv hy hy2 hm1 hm2]
 have hs:=Er y hm1
 have hle:=Lw y m
 refine Aa (fun g=>GR (by omega) ?_) fun g=>?_
 ·rw[Lv hy hy2 hm1 hm2,Ai _ (by omega) (by omega),Ai _ (by omega) (by omega)]
  have hm:m≠12:=fun e=>by
   subst e
   rw[IT hy]at h2;omega
  exact⟨⟨rfl,rfl,m+1,by omega,by omega,by omega,by rw[hs];omega,by rw[hs];omega⟩,by dsimp only;omega⟩
 ·rw[Ai _ (by omega) (by omega)]
  have:=hk m (n-yrS y-ET y m+1) ⟨hy,hy2,hm1,hm2,by omega,by omega,by omega⟩
  exact this
theorem date_ok {n:Nat} (hn:n<=3652058) {st:St} {K:Int->Int->Int->Int->St->Prop} (hk:∀y m d:Nat,Gu n y m d->K y m d 0 st):CallT PR E0 [.int .i64 (n:Int)] [.one (.int .i64),.one (.int .i64),.one (.int .i64),.one (.int .i64)] st K:=by
 refine L5 _ st K (K5 _ st _ (Aa (fun _=>?_) fun g=>by omega))
 rw[decide_eq_true (by omega)]
 refine Aa (p:=False) (fun h=>h.elim) fun _=>?_
 rw[Int.tdiv_eq_ediv_of_nonneg (by omega),Ai ((n:Int)/366) (by omega) (by omega),Ai _ (by omega) (by omega)]
 refine⟨fun ye n1 st'=>(n:Int)=n1/\st=st'/\∃y:Nat,ye=y/\1<=y/\y<=9999/\yrS y<=n,fun ye _ _=>(10000-ye).toNat,⟨rfl,rfl,n/366+1,by omega,by omega,by omega,by unfold yrS;rw[Nat.add_sub_cancel];omega⟩,?_⟩
 rintro ye _ _ ⟨rfl,rfl,y,hye,hy1,hy2,hy3⟩
 refine Aa (fun g=>?_) fun g=>?_<;>subst hye
 ·rw[Ai _ (by omega) (by omega),show((y:Int)+1)=((y+1:Nat):Int) by omega]
  refine GQ (by omega) (by omega) (Aa (fun g2=>⟨⟨rfl,rfl,y+1,rfl,by omega,by omega,by omega⟩,by dsimp only;omega⟩) fun g2=>GQ hy1 (by omega) ?_)
  exact Nj hy1 hy2 hy3 (by omega) hn fun m d hd=>hk y m d hd
 ·refine GQ hy1 (by omega) ?_
  have:y=9999:=by omega
  have h10:yrS (y+1)=3652059:=by rw[this];rfl
  exact Nj hy1 hy2 hy3 (by omega) hn fun m d hd=>hk y m d hd
theorem Xw (y:Nat):∀m,ET y m<=31*m
 | 0=>Nat.le_refl _
 | 1=>Nat.zero_le _
 | m+2=>by
  have:=Xw y (m+1)
  have:=Lw y (m+1)
  simp only[ET];omega
def TR (r:Nat) (st:St):Option B8->Prop
 | some s=>r<st.nb/\st.box r= .cells [.str s,.bool false]/\s.length<=1000000
 | none=>r<st.nb/\∃s,st.box r= .cells [.str s,.bool true]/\s.length<=1000000
theorem TR.get {r:Nat} {st:St} {S:Option B8} (h:TR r st S):r<st.nb/\∃s,st.box r= .cells [.str s,.bool S.isNone]/\s.length<=1000000/\(∀x,S=some x->s=x):=by
 cases S with
 | none=>obtain⟨h1,s,h2,h3⟩:=h;exact⟨h1,s,h2,h3,fun x hx=>by cases hx⟩
 | some s=>obtain⟨h1,h2,h3⟩:=h;exact⟨h1,s,h2,h3,fun x hx=>by cases hx;rfl⟩
def TM (r f:Nat) (st:St) (S:Option B8) (l:List TV):Prop:=TR r st S/\f<st.nb/\st.box f= .cells l/\r≠f
theorem Ku {r:Nat} {st:St} {s:B8} {b:Bool} (h:st.box r= .cells [.str s,.bool b]) (hr:r<st.nb) (hl:s.length<=1000000) {K:St->Prop} (hk:∀st',StX (·=r) st st'->TR r st' none->K st'):
  stB st (.box r 1) [.bool true] K:=
 ⟨_,h,by simp,hk _ (StX.put (S:=(·=r)) rfl _) ⟨hr,s,by simp[St.put,setAll],hl⟩⟩
theorem L8 {r:Nat} {st:St} {s t:B8} {S:Option B8} (h:TR r st S) (ht:t.length<=1000000) {K:St->Prop} (hk:∀st',StX (·=r) st st'->TR r st' (S.map fun _=>t)->K st'):
  stB st (.box r 0) [.str t] K:=by
 obtain⟨hr,s,hb,hl,_⟩:=h.get
 refine⟨_,hb,by simp,hk _ (StX.put (S:=(·=r)) rfl _) ?_⟩
 cases S with
 | none=>exact⟨hr,t,by simp[St.put,setAll],ht⟩
 | some x=>exact⟨hr,by simp[St.put,setAll],ht⟩
def Lu (w:Nat) (s:B8):Prop:=w<=s.length/\∀i,i<w->AF (s.getD i 0)
instance (w:Nat) (s:B8):Decidable (Lu w s):=inferInstanceAs (Decidable (_/\_))
def J7 (w:Nat) (S:Option B8) (n:Nat) (T:Option B8):Prop:=match S with
 | none=>T=none
 | some s=>if Lu w s then T=some (s.drop w)/\n=Cu (s.take w)else T=none
theorem QR {l:B8} {w:Nat} (hw:w<=l.length) (h:∀i,i<w->AF (l.getD i 0)):Cu (l.take w)<10^w:=by
 have h1:=JJ (l.take w) fun c hc=>by
  obtain⟨i,hi⟩:=List.getElem?_of_mem hc
  have hl:=(List.getElem?_eq_some_iff.1 hi).1
  rw[List.length_take]at hl
  rw[List.getElem?_take,if_pos (by omega)]at hi
  have:=h i (by omega)
  rwa [List.getD,hi]at this
 rwa [List.length_take,Nat.min_eq_left hw]at h1
theorem GC {r:Nat} {w:Nat} (hw:w<=9) {st:St} {S:Option B8} (h:TR r st S) {K:Int->St->Prop} (hk:∀(n:Nat) st' T,n<10^w->StX (·=r) st st'->TR r st' T->J7 w S n T->K (n:Nat) st'):
  CallT PR Ay [.box r 0,.int .i64 (w:Nat)] [.one (.int .i64)] st K:=by
 obtain⟨hr,s,hb,hl,hx⟩:=h.get
 have hs:Ad st [] (.t (.box r 0)) 0=some (.str s):=by simp[Ad,hb]
 have p10:0<10^w:=Nat.pow_pos (by decide)
 have p18:10^w<=10^9:=Nat.pow_le_pow_right (by decide) hw
 have bad:¬Lu w s->∀st',StX (·=r) st st'->TR r st' none->K ((0:Nat):Int) st':=fun hn st' e h'=>hk 0 st' none p10 e h' (by
  cases S with
  | none=>rfl
  | some x=>rw[<-hx x rfl];show(if Lu w s then _ else _);rw[if_neg hn])
 refine Hn r _ st K (Ac hs (Al (Aa (fun g=>Ku hb hr hl (bad fun h=>by have:=h.1;omega)) fun g=>?_)))
 refine⟨fun n i p w' m st'=> .box r 0=p/\((w:Nat):Int)=w'/\((w:Nat):Int)=m/\st=st'/\∃k:Nat,i=k/\k<=w/\n=(Cu (s.take k):Nat)/\∀j,j<k->AF (s.getD j 0),fun _ i _ _ _ _=>(w-i).toNat,⟨rfl,rfl,rfl,rfl,0,rfl,Nat.zero_le _,rfl,fun j h=>absurd h (Nat.not_lt_zero _)⟩,?_⟩
 rintro _ _ _ _ _ _ ⟨rfl,rfl,rfl,rfl,k,rfl,hkw,rfl,hd⟩
 rw[Int.toNat_natCast]
 have hv:=QR (l:=s) (w:=k) (by omega) hd
 have p1:10^k<=10^9:=Nat.pow_le_pow_right (by decide) (by omega)
 refine Aa (fun g1=>Ab rfl (Ab rfl (Ac hs (Al ⟨⟨by omega,by omega⟩,Aa (fun g2=>?_) fun g2=>Ab rfl (Ab rfl (Ac hs (Al ⟨⟨by omega,by omega⟩,Aa (fun g3=>?_) fun g3=>?_⟩)))⟩)))) fun g1=>?_
 ·exact Ab rfl (Ab rfl (Ku hb hr hl (bad fun h=>by have:=(h.2 k (by omega)).1;omega)))
 ·exact Ab rfl (Ab rfl (Ku hb hr hl (bad fun h=>by have:=(h.2 k (by omega)).2;omega)))
 ·refine Ab rfl (Ab rfl (Ac hs (Al ⟨⟨by omega,by omega⟩,?_⟩)))
  have hsn:=L6 (l:=s) (k:=k) (by omega)
  rw[N3 _ (by omega) (by omega),Ai (10*_) (by omega) (by omega),Ai (((s.getD k 0).toNat:Int)-48) (by omega) (by omega),Ai (_+_) (by omega) (by omega),Ai _ (by omega) (by omega)]
  refine⟨⟨rfl,rfl,rfl,rfl,k+1,by omega,by omega,by rw[hsn];omega,fun j hj=>?_⟩,by dsimp only;omega⟩
  by_cases hjk:j=k
  ·subst hjk;exact⟨by omega,by omega⟩
  ·exact hd j (by omega)
 ·have hkk:k=w:=by omega
  subst hkk
  refine Ab rfl (Ab rfl (Ac hs (Al ⟨⟨by omega,by omega⟩,Ab rfl (Ab rfl (L8 (s:=s) h (by rw[List.length_drop];omega) fun st' e h'=>hk _ st' _ hv e h' ?_))⟩)))
  cases S with
  | none=>rfl
  | some x=>
   obtain rfl:=hx x rfl
   show(if Lu k s then _ else _)
   rw[if_pos ⟨by omega,hd⟩]
   exact⟨rfl,rfl⟩
def NJ (of:B8) (S:Option B8) (c:Nat) (T:Option B8):Prop:=match S with
 | none=>T=none
 | some s=>if s.getD 0 0∈of then T=some (s.drop 1)/\c=(s.getD 0 0).toNat else T=none
theorem GB {r:Nat} {of:B8} (hof:(0:UInt8)∉of) (hlo:of.length<=100) {st:St} {S:Option B8} (h:TR r st S) {K:Int->St->Prop} (hk:∀(n:Nat) st' T,n<256->StX (·=r) st st'->TR r st' T->NJ of S n T->K (n:Nat) st'):
  CallT PR AD [.box r 0,.str of] [.one (.int .u8)] st K:=by
 obtain⟨hr,s,hb,hl,hx⟩:=h.get
 have hs:Ad st [] (.t (.box r 0)) 0=some (.str s):=by simp[Ad,hb]
 have bad:s.getD 0 0∉of->∀st',StX (·=r) st st'->TR r st' none->K ((0:Nat):Int) st':=fun hn st' e h'=>hk 0 st' none (by decide) e h' (by
  cases S with
  | none=>rfl
  | some x=>rw[<-hx x rfl];show(if s.getD 0 0∈of then _ else _);rw[if_neg hn])
 refine IX r of st K (Ac hs (Al (Aa (fun g=>?_) fun g=>?_)))
 ·have hpos:0<s.length:=List.length_pos_iff.2 g
  refine⟨fun i p of' m st'=> .box r 0=p/\of=of'/\(of.length:Int)=m/\st=st'/\∃k:Nat,i=k/\k<=of.length/\∀j,j<k->of.getD j 0≠s.getD 0 0,fun i _ _ _ _=>(of.length-i).toNat,⟨rfl,rfl,rfl,rfl,0,rfl,Nat.zero_le _,fun j h=>absurd h (Nat.not_lt_zero _)⟩,?_⟩
  rintro _ _ _ _ _ ⟨rfl,rfl,rfl,rfl,k,rfl,hkw,hd⟩
  rw[Int.toNat_natCast]
  refine Aa (fun g1=>Ab rfl (Ab rfl (Ac hs (Al ⟨⟨by omega,by omega⟩,⟨by omega,g1⟩,Aa (fun g2=>?_) fun g2=>?_⟩)))) fun g1=>?_
  ·have g2':s.getD 0 0=of.getD k 0:=UInt8.toNat_inj.1 (Int.ofNat.inj g2)
   have hmem:s.getD 0 0∈of:=by rw[g2'];exact LD (by omega)
   refine Ab rfl (Ab rfl (Ac hs (Al ⟨⟨by omega,by omega⟩,Ab rfl (Ab rfl (L8 (s:=s) h (by rw[List.length_drop];omega) fun st' e h'=>⟨⟨by omega,g1⟩,hk _ st' _ (UInt8.toNat_lt _) e h' ?_⟩))⟩)))
   cases S with
   | none=>rfl
   | some x=>
    obtain rfl:=hx x rfl
    show(if s.getD 0 0∈of then _ else _)
    rw[if_pos hmem]
    exact⟨rfl,by rw[g2']⟩
  ·rw[Ai _ (by omega) (by omega)]
   refine⟨⟨rfl,rfl,rfl,rfl,k+1,by omega,by omega,fun j hj=>?_⟩,by dsimp only;omega⟩
   by_cases hjk:j=k
   ·subst hjk;exact fun e=>g2 (by rw[e];rfl)
   ·exact hd j (by omega)
  ·refine Ab rfl (Ab rfl (Ku hb hr hl (bad fun hm=>?_)))
   obtain⟨i,hi,he⟩:=List.getElem_of_mem hm
   exact hd i (by omega) (by rw[<-he];simp[List.getD,hi])
 ·have g0:s=[]:=Decidable.not_not.1 g
  exact Ku hb hr hl (bad (by rw[g0];exact hof))
def FracS (S:Option B8) (n:Nat) (T:Option B8):Prop:=match S with
 | none=>T=none
 | some s=>if AE s=[]∨9<(AE s).length then T=none else T=some (s.drop (AE s).length)/\n=Pw (AE s)
theorem TF (l:B8):∀k,Cu (l++List.replicate k 48)=Cu l*10^k
 | 0=>by simp
 | k+1=>by
  rw[List.replicate_succ',<-List.append_assoc]
  have:=TF l k
  unfold Cu at this⊢
  rw[K7,this,Nat.pow_succ]
  show 10*(FO 0 l*10^k)+(48-48)=_
  have e:10*(FO 0 l*10^k)=FO 0 l*(10^k*10):=by rw[Nat.mul_left_comm,Nat.mul_comm 10]
  rw[e];rfl
theorem O3 {n k:Nat} (hk:k<=9) (hn:n<10^k) {st:St} {K:Int->St->Prop} (h:K (n*10^(9-k):Nat) st):
  ∃(I:Int->Int->St->Prop) (M:Int->Int->St->Nat),I (n:Nat) (k:Nat) st/\∀(n2 k2:Int) (st5:St),I n2 k2 st5->BIf (decide (k2<9)) (I (i64.wrap (n2*10)) (i64.wrap (k2+1)) st5/\M (i64.wrap (n2*10)) (i64.wrap (k2+1)) st5<M n2 k2 st5) (K n2 st5):=by
 refine⟨fun n2 k2 st5=>st=st5/\∃j:Nat,k2=j/\j<=9/\∃m:Nat,n2=m/\m<10^j/\m*10^(9-j)=n*10^(9-k),fun _ k2 _=>(9-k2).toNat,⟨rfl,k,rfl,hk,n,rfl,hn,rfl⟩,?_⟩
 rintro _ _ _ ⟨rfl,j,rfl,hj,m,rfl,hm,he⟩
 have p9:10^j<=10^9:=Nat.pow_le_pow_right (by decide) hj
 refine Aa (fun g=>?_) fun g=>?_
 ·rw[Ai _ (by omega) (by omega),Ai _ (by omega) (by omega)]
  refine⟨⟨rfl,j+1,by omega,by omega,m*10,by omega,by rw[Nat.pow_succ];omega,?_⟩,by dsimp only;omega⟩
  rw[<-he,Nat.mul_assoc,show 9-j=(9-(j+1))+1 by omega,Nat.pow_succ,Nat.mul_comm 10]
 ·have:j=9:=by omega
  subst this
  rw[Nat.sub_self,Nat.pow_zero,Nat.mul_one]at he
  rw[<-he]at h;exact h
theorem ZG {r:Nat} {st:St} {S:Option B8} (h:TR r st S) {K:Int->St->Prop} (hk:∀(n:Nat) st' T,n<1000000000->StX (·=r) st st'->TR r st' T->FracS S n T->K (n:Nat) st'):
  CallT PR Cd [.box r 0] [.one (.int .i64)] st K:=by
 obtain⟨hr,s,hb,hl,hx⟩:=h.get
 have hs:Ad st [] (.t (.box r 0)) 0=some (.str s):=by simp[Ad,hb]
 have bad:(AE s=[]∨9<(AE s).length)->∀st',StX (·=r) st st'->TR r st' none->K ((0:Nat):Int) st':=fun hn st' e h'=>hk 0 st' none (by decide) e h' (by
  cases S with
  | none=>rfl
  | some x=>rw[<-hx x rfl];show(if AE s=[]∨9<(AE s).length then _ else _);rw[if_pos hn])
 refine Gx r st K ⟨fun n i p st'=> .box r 0=p/\st=st'/\∃k:Nat,i=k/\k<=s.length/\n=(Cu (s.take (min k 9)):Nat)/\∀j,j<k->AF (s.getD j 0),fun _ i _ _=>(s.length-i).toNat,⟨rfl,rfl,0,rfl,Nat.zero_le _,rfl,fun j h=>absurd h (Nat.not_lt_zero _)⟩,?_⟩
 rintro _ _ _ _ ⟨rfl,rfl,k,rfl,hkl,rfl,hd⟩
 rw[Int.toNat_natCast]
 have p18:10^(min k 9)<=10^9:=Nat.pow_le_pow_right (by decide) (by omega)
 have hv:=QR (l:=s) (w:=min k 9) (by omega) fun i hi=>hd i (by omega)
 have run:(k=s.length∨¬AF (s.getD k 0))->(AE s).length=k:=fun hs=>PJ s k hkl hd hs
 have bad0:(k=s.length∨¬AF (s.getD k 0))->((k:Nat):Int)<1->stB st (.box r 1) [.bool true] fun st'=>K ((0:Nat):Int) st':=fun hs g=>Ku hb hr hl (bad (.inl (List.length_eq_zero_iff.1 (by rw[run hs];omega))))
 have bad9:(k=s.length∨¬AF (s.getD k 0))->(9:Int)<((k:Nat):Int)->stB st (.box r 1) [.bool true] fun st'=>K ((0:Nat):Int) st':=fun hs g=>Ku hb hr hl (bad (.inr (by rw[run hs];omega)))
 have good:(k=s.length∨¬AF (s.getD k 0))->¬((k:Nat):Int)<1->¬(9:Int)<((k:Nat):Int)->∀st',StX (·=r) st st'->TR r st' (S.map fun _=>s.drop k)->K ((Cu (s.take (min k 9))*10^(9-k):Nat):Int) st':=fun hs g1 g2 st' e h'=>by
  have hrun:=run hs
  have htk:=KN s
  rw[hrun]at htk
  have hm:min k 9=k:=by omega
  rw[hm]at hv⊢
  have hp:10^9=10^k*10^(9-k):=by rw[<-Nat.pow_add];congr 1;omega
  have hlt:Cu (s.take k)*10^(9-k)<1000000000:=by
   have:=Nat.mul_lt_mul_of_pos_right hv (Nat.pow_pos (n:=9-k) (show 0<10 by decide))
   rw[<-hp]at this;exact this
  refine hk _ st' _ hlt e h' ?_
  cases S with
  | none=>rfl
  | some x=>
   obtain rfl:=hx x rfl
   show(if AE s=[]∨9<(AE s).length then _ else _)
   rw[if_neg (by rintro(h0 | h0);rw[h0]at hrun;simp at hrun;omega;omega),hrun]
   refine⟨rfl,?_⟩
   unfold Pw
   rw[hrun,TF,htk]
 refine Ab rfl (Ab rfl (Ac hs (Al (Aa (fun g=>Ab rfl (Ab rfl (Ac hs (Al ⟨⟨by omega,g⟩,Aa (fun g1=>Ab rfl (Ab rfl (Ac hs (Al ⟨⟨by omega,g⟩,Aa (fun g2=>?_) fun g2=>?_⟩)))) fun g1=>?_⟩)))) fun g=>?_))))
 ·have hdk:∀j,j<k+1->AF (s.getD j 0):=fun j hj=>by
   by_cases hjk:j=k
   ·subst hjk;exact⟨by omega,by omega⟩
   ·exact hd j (by omega)
  refine Aa (fun g3=>Ab rfl (Ab rfl (Ac hs (Al ⟨⟨by omega,g⟩,?_⟩)))) fun g3=>?_
  ·have hsn:=L6 (l:=s) (k:=k) (by omega)
   have hm:min k 9=k:=by omega
   have hm1:min (k+1) 9=k+1:=by omega
   rw[hm]at hv⊢
   rw[hm]at p18
   rw[N3 _ (by omega) (by omega),Ai (10*_) (by omega) (by omega),Ai (((s.getD k 0).toNat:Int)-48) (by omega) (by omega),Ai (_+_) (by omega) (by omega),Ai _ (by omega) (by omega)]
   exact⟨⟨rfl,rfl,k+1,by omega,by omega,by rw[hm1,hsn];omega,hdk⟩,by dsimp only;omega⟩
  ·rw[Ai _ (by omega) (by omega)]
   exact⟨⟨rfl,rfl,k+1,by omega,by omega,by rw[show min (k+1) 9=min k 9 by omega],hdk⟩,by dsimp only;omega⟩
 ·have hs':k=s.length∨¬AF (s.getD k 0):= .inr fun h=>g2 (by have:=h.2;omega)
  exact Aa (fun g3=>Ab rfl (Ab rfl (bad0 hs' g3))) fun g3=>Aa (fun g4=>Ab rfl (Ab rfl (bad9 hs' g4))) fun g4=>Ab rfl (Ab rfl (Ac hs (Al ⟨⟨by omega,by omega⟩,Ab rfl (Ab rfl (L8 (s:=s) h (by rw[List.length_drop];omega) fun st' e h'=>O3 (by omega) (by rw[show min k 9=k by omega]at*;exact hv) (good hs' g3 g4 st' e h')))⟩)))
 ·have hs':k=s.length∨¬AF (s.getD k 0):= .inr fun h=>g1 (by have:=h.1;omega)
  exact Aa (fun g3=>Ab rfl (Ab rfl (bad0 hs' g3))) fun g3=>Aa (fun g4=>Ab rfl (Ab rfl (bad9 hs' g4))) fun g4=>Ab rfl (Ab rfl (Ac hs (Al ⟨⟨by omega,by omega⟩,Ab rfl (Ab rfl (L8 (s:=s) h (by rw[List.length_drop];omega) fun st' e h'=>O3 (by omega) (by rw[show min k 9=k by omega]at*;exact hv) (good hs' g3 g4 st' e h')))⟩)))
 ·have hs':k=s.length∨¬AF (s.getD k 0):= .inl (by omega)
  exact Aa (fun g3=>Ab rfl (Ab rfl (bad0 hs' g3))) fun g3=>Aa (fun g4=>Ab rfl (Ab rfl (bad9 hs' g4))) fun g4=>Ab rfl (Ab rfl (Ac hs (Al ⟨⟨by omega,by omega⟩,Ab rfl (Ab rfl (L8 (s:=s) h (by rw[List.length_drop];omega) fun st' e h'=>O3 (by omega) (by rw[show min k 9=k by omega]at*;exact hv) (good hs' g3 g4 st' e h')))⟩)))
abbrev rfS (r f:Nat):Nat->Prop:=fun b=>b=r∨b=f
theorem TM.step {r f:Nat} {st st':St} {S T:Option B8} {l:List TV} (h:TM r f st S l) (e:StX (·=r) st st') (h':TR r st' T):TM r f st' T l:=
 ⟨h',Nat.lt_of_lt_of_le h.2.1 e.nb,(e.box f h.2.1 fun g=>h.2.2.2 g.symm).trans h.2.2.1,h.2.2.2⟩
theorem TM.put {r f i:Nat} {st:St} {S:Option B8} {l:List TV} {v:TV} (h:TM r f st S l) (hi:i<l.length) {K:St->Prop} (hk:∀st',StX (rfS r f) st st'->TM r f st' S (l.set i v)->K st'):stB st (.box f i) [v] K:=by
 obtain⟨h1,h2,h3,h4⟩:=h
 refine⟨_,h3,by simp;omega,hk _ (StX.put (S:=rfS r f) (.inr rfl) _) ⟨?_,h2,by simp[St.put,setAll],h4⟩⟩
 have hne:((st.put f (.cells (setAll l i [v]))).box r)=st.box r:=by simp only[St.put];rw[if_neg h4]
 cases S with
 | none=>obtain⟨a1,s,a2,a3⟩:=h1;exact⟨a1,s,hne.trans a2,a3⟩
 | some s=>obtain⟨a1,a2,a3⟩:=h1;exact⟨a1,hne.trans a2,a3⟩
theorem IQ {r f:Nat} {a b:St} (e:StX (·=r) a b):StX (rfS r f) a b:=e.mono fun _ h=> .inl h
def fcT (y mo d h mi sc nn sg oh om:Nat):List TV:=[.int .i64 (y:Nat),.int .i64 (mo:Nat),.int .i64 (d:Nat),.int .i64 (h:Nat),.int .i64 (mi:Nat),.int .i64 (sc:Nat),.int .i64 (nn:Nat),.int .u8 (sg:Nat),.int .i64 (oh:Nat),.int .i64 (om:Nat)]
theorem J7.pos {w n:Nat} {s:B8} {T:Option B8} (h:J7 w (some s) n T) (f:Lu w s):T=some (s.drop w)/\n=Cu (s.take w):=by
 change (if Lu w s then _ else _)at h
 rwa [if_pos f]at h
theorem J7.neg {w n:Nat} {s:B8} {T:Option B8} (h:J7 w (some s) n T) (f:¬Lu w s):T=none:=by
 change (if Lu w s then _ else _)at h
 rwa [if_neg f]at h
theorem NJ.pos {of:B8} {n:Nat} {s:B8} {T:Option B8} (h:NJ of (some s) n T) (f:s.getD 0 0∈of):T=some (s.drop 1)/\n=(s.getD 0 0).toNat:=by
 change (if s.getD 0 0∈of then _ else _)at h
 rwa [if_pos f]at h
theorem NJ.neg {of:B8} {n:Nat} {s:B8} {T:Option B8} (h:NJ of (some s) n T) (f:s.getD 0 0∉of):T=none:=by
 change (if s.getD 0 0∈of then _ else _)at h
 rwa [if_neg f]at h
theorem IA (s:B8) (k i:Nat):b0 (s.drop k) i=b0 s (k+i):=by simp[b0,List.getD]
theorem dd_drop (s:B8) (k i:Nat):dd (s.drop k) i↔dd s (k+i):=by
 unfold dd
 rw[IA,IA,Nat.add_assoc]
theorem d2_drop (s:B8) (k i:Nat):d2 (s.drop k) i=d2 s (k+i):=by
 unfold d2 dv
 rw[IA,IA,Nat.add_assoc]
theorem b0_lt {s:B8} {k:Nat} (h:AF (b0 s k)):k<s.length:=by
 by_cases hk:k<s.length
 ·exact hk
 ·rw[show b0 s k=0 by simp[b0,List.getD,Nat.le_of_not_lt hk]]at h
  exact absurd h (by decide)
theorem numF2 (s:B8):Lu 2 s↔dd s 0:=by
 constructor
 ·intro h;exact⟨h.2 0 (by omega),h.2 1 (by omega)⟩
 ·intro h
  have:=b0_lt h.2
  exact⟨by omega,fun i hi=>by
   rcases (by omega:i=0∨i=1)with rfl | rfl
   ·exact h.1
   ·exact h.2⟩
theorem Xu (s:B8):Lu 4 s↔dd s 0/\dd s 2:=by
 constructor
 ·intro h;exact⟨⟨h.2 0 (by omega),h.2 1 (by omega)⟩,⟨h.2 2 (by omega),h.2 3 (by omega)⟩⟩
 ·intro h
  have:=b0_lt h.2.2
  exact⟨by omega,fun i hi=>by
   rcases (by omega:i=0∨i=1∨i=2∨i=3)with rfl | rfl | rfl | rfl
   ·exact h.1.1
   ·exact h.1.2
   ·exact h.2.1
   ·exact h.2.2⟩
theorem val2 {s:B8} (h:Lu 2 s):Cu (s.take 2)=d2 s 0:=by
 rcases s with _ | ⟨a,_ | ⟨b,r⟩⟩
 ·exact absurd h.1 (by simp)
 ·exact absurd h.1 (by simp)
 ·show 10*(10*0+(a.toNat-48))+(b.toNat-48)=(a.toNat-48)*10+(b.toNat-48)
  omega
theorem val4 {s:B8} (h:Lu 4 s):Cu (s.take 4)=d2 s 0*100+d2 s 2:=by
 rcases s with _ | ⟨a,_ | ⟨b,_ | ⟨c,_ | ⟨d,r⟩⟩⟩⟩
 ·exact absurd h.1 (by simp)
 ·exact absurd h.1 (by simp)
 ·exact absurd h.1 (by simp)
 ·exact absurd h.1 (by simp)
 ·show 10*(10*(10*(10*0+(a.toNat-48))+(b.toNat-48))+(c.toNat-48))+(d.toNat-48)=((a.toNat-48)*10+(b.toNat-48))*100+((c.toNat-48)*10+(d.toNat-48))
  omega
theorem one1 {s:B8} {c:UInt8}:s.getD 0 0∈ [c]↔b0 s 0=c:=by rw[List.mem_singleton];rfl
theorem GD {s:B8} {k m n:Nat} {T:Option B8} (hm:k+2=m) (h:J7 2 (some (s.drop k)) n T):(dd s k->T=some (s.drop m)/\n=d2 s k)/\(¬dd s k->T=none):=by
 have e:Lu 2 (s.drop k)↔dd s k:=by rw[numF2,dd_drop];rfl
 constructor
 ·intro f
  have f':=e.2 f
  obtain⟨h1,h2⟩:=h.pos f'
  exact⟨by rw[h1,List.drop_drop,hm],by rw[h2,val2 f',d2_drop];rfl⟩
 ·intro f;exact h.neg fun g=>f (e.1 g)
theorem Kc {s:B8} {k m n:Nat} {c:UInt8} {T:Option B8} (hm:k+1=m) (h:NJ [c] (some (s.drop k)) n T):(b0 s k=c->T=some (s.drop m))/\(b0 s k≠c->T=none):=by
 have e:(s.drop k).getD 0 0∈ [c]↔b0 s k=c:=by rw[one1,IA];rfl
 exact⟨fun f=>by rw[(h.pos (e.2 f)).1,List.drop_drop,hm],fun f=>h.neg fun g=>f (e.1 g)⟩
theorem step4 {s:B8} {n:Nat} {T:Option B8} (h:J7 4 (some s) n T):(dd s 0/\dd s 2->T=some (s.drop 4)/\n=d2 s 0*100+d2 s 2)/\(¬(dd s 0/\dd s 2)->T=none):=
 ⟨fun f=>⟨(h.pos ((Xu s).2 f)).1,by rw[(h.pos ((Xu s).2 f)).2,val4 ((Xu s).2 f)]⟩,fun f=>h.neg fun g=>f ((Xu s).1 g)⟩
theorem Y5 {s:B8} {y c m c' d:Nat} {T1 T2 T3 T4 T5:Option B8} (s1:J7 4 (some s) y T1) (s2:NJ [45] T1 c T2) (s3:J7 2 T2 m T3) (s4:NJ [45] T3 c' T4) (s5:J7 2 T4 d T5):
  (Eu s->T5=some (s.drop 10)/\y=d2 s 0*100+d2 s 2/\m=d2 s 5/\d=d2 s 8)/\(¬Eu s->T5=none):=by
 by_cases f1:dd s 0/\dd s 2
 ·obtain⟨rfl,v1⟩:=(step4 s1).1 f1
  by_cases f2:b0 s 4=45
  ·obtain rfl:=(Kc (m:=5) rfl s2).1 f2
   by_cases f3:dd s 5
   ·obtain⟨rfl,v3⟩:=(GD (m:=7) rfl s3).1 f3
    by_cases f4:b0 s 7=45
    ·obtain rfl:=(Kc (m:=8) rfl s4).1 f4
     by_cases f5:dd s 8
     ·obtain⟨rfl,v5⟩:=(GD (m:=10) rfl s5).1 f5
      exact⟨fun _=>⟨rfl,v1,v3,v5⟩,fun h=>absurd ⟨f1.1,f1.2,f2,f3,f4,f5⟩ h⟩
     ·exact⟨fun h=>absurd h.2.2.2.2.2 f5,fun _=>(GD (m:=10) rfl s5).2 f5⟩
    ·obtain rfl:=(Kc (m:=8) rfl s4).2 f4
     exact⟨fun h=>absurd h.2.2.2.2.1 f4,fun _=>s5⟩
   ·obtain rfl:=(GD (m:=7) rfl s3).2 f3
    obtain rfl:T4=none:=s4
    exact⟨fun h=>absurd h.2.2.2.1 f3,fun _=>s5⟩
  ·obtain rfl:=(Kc (m:=5) rfl s2).2 f2
   obtain rfl:T3=none:=s3
   obtain rfl:T4=none:=s4
   exact⟨fun h=>absurd h.2.2.1 f2,fun _=>s5⟩
 ·obtain rfl:=(step4 s1).2 f1
  obtain rfl:T2=none:=s2
  obtain rfl:T3=none:=s3
  obtain rfl:T4=none:=s4
  exact⟨fun h=>absurd ⟨h.1,h.2.1⟩ f1,fun _=>s5⟩
def DateS (S:Option B8) (y m d:Nat) (T:Option B8):Prop:=match S with
 | none=>T=none
 | some s=>(Eu s->T=some (s.drop 10)/\y=d2 s 0*100+d2 s 2/\m=d2 s 5/\d=d2 s 8)/\(¬Eu s->T=none)
theorem TO {r f:Nat} {st:St} {S:Option B8} {h mi sc nn sg oh om:Nat} (hm:TM r f st S (fcT 0 0 0 h mi sc nn sg oh om)) {K:St->Prop}
  (hk:∀y mo d st' T,y<10000->mo<100->d<100->StX (rfS r f) st st'->TM r f st' T (fcT y mo d h mi sc nn sg oh om)->DateS S y mo d T->K st'):CallT PR B9 [.box r 0,.box f 0] [] st K:=by
 refine IH r f st K (GC (w:=4) (by decide) hm.1 fun y st1 T1 b1 e1 h1 s1=>(hm.step e1 h1).put (by simp[fcT]) fun st2 e2 m2=>?_)
 refine GB (of:=[45]) (by decide) (by decide) m2.1 fun c st3 T3 b3 e3 h3 s3=>GC (w:=2) (by decide) h3 fun mo st4 T4 b4 e4 h4 s4=>((m2.step e3 h3).step e4 h4).put (by simp[fcT]) fun st5 e5 m5=>?_
 refine GB (of:=[45]) (by decide) (by decide) m5.1 fun c' st6 T6 b6 e6 h6 s6=>GC (w:=2) (by decide) h6 fun d st7 T7 b7 e7 h7 s7=>((m5.step e6 h6).step e7 h7).put (by simp[fcT]) fun st8 e8 m8=>?_
 refine hk y mo d st8 T7 b1 b4 b7 ((((((((IQ e1).trans e2).trans (IQ e3)).trans (IQ e4)).trans e5).trans (IQ e6)).trans (IQ e7)).trans e8) m8 ?_
 cases S with
 | some s=>exact Y5 s1 s3 s4 s6 s7
 | none=>
  have:=(show T1=none from s1)
  subst this
  have:=(show T3=none from s3)
  subst this
  have:=(show T4=none from s4)
  subst this
  have:=(show T6=none from s6)
  subst this
  exact s7
theorem WN {s:B8} {h c m c' d:Nat} {T1 T2 T3 T4 T5:Option B8} (s1:J7 2 (some s) h T1) (s2:NJ [58] T1 c T2) (s3:J7 2 T2 m T3) (s4:NJ [58] T3 c' T4) (s5:J7 2 T4 d T5):
  (LF s->T5=some (s.drop 8)/\h=d2 s 0/\m=d2 s 3/\d=d2 s 6)/\(¬LF s->T5=none):=by
 have s1':J7 2 (some (s.drop 0)) h T1:=by rw[List.drop_zero];exact s1
 by_cases f1:dd s 0
 ·obtain⟨rfl,v1⟩:=(GD (m:=2) rfl s1').1 f1
  by_cases f2:b0 s 2=58
  ·obtain rfl:=(Kc (m:=3) rfl s2).1 f2
   by_cases f3:dd s 3
   ·obtain⟨rfl,v3⟩:=(GD (m:=5) rfl s3).1 f3
    by_cases f4:b0 s 5=58
    ·obtain rfl:=(Kc (m:=6) rfl s4).1 f4
     by_cases f5:dd s 6
     ·obtain⟨rfl,v5⟩:=(GD (m:=8) rfl s5).1 f5
      exact⟨fun _=>⟨rfl,v1,v3,v5⟩,fun h=>absurd ⟨f1,f2,f3,f4,f5⟩ h⟩
     ·exact⟨fun h=>absurd h.2.2.2.2 f5,fun _=>(GD (m:=8) rfl s5).2 f5⟩
    ·obtain rfl:=(Kc (m:=6) rfl s4).2 f4
     exact⟨fun h=>absurd h.2.2.2.1 f4,fun _=>s5⟩
   ·obtain rfl:=(GD (m:=5) rfl s3).2 f3
    obtain rfl:T4=none:=s4
    exact⟨fun h=>absurd h.2.2.1 f3,fun _=>s5⟩
  ·obtain rfl:=(Kc (m:=3) rfl s2).2 f2
   obtain rfl:T3=none:=s3
   obtain rfl:T4=none:=s4
   exact⟨fun h=>absurd h.2.1 f2,fun _=>s5⟩
 ·obtain rfl:=(GD (m:=2) rfl s1').2 f1
  obtain rfl:T2=none:=s2
  obtain rfl:T3=none:=s3
  obtain rfl:T4=none:=s4
  exact⟨fun h=>absurd h.1 f1,fun _=>s5⟩
def Vx (S:Option B8) (h mi sc nn:Nat) (T:Option B8):Prop:=match S with
 | none=>T=none
 | some s=>match HL s with
  | none=>T=none
  | some (h',mi',sc',f',r')=>T=some r'/\h=h'/\mi=mi'/\sc=sc'/\nn=f'
theorem TR.src {r:Nat} {st:St} {S:Option B8} (h:TR r st S):∃s,Ad st [] (.t (.box r 0)) 0=some (.str s)/\s.length<=1000000/\∀x,S=some x->s=x:=by
 obtain⟨_,s,hb,hl,hx⟩:=h.get
 exact⟨s,by simp[Ad,hb],hl,hx⟩
theorem Mc {r f:Nat} {st:St} {S:Option B8} {y mo d sg oh om:Nat} (hm:TM r f st S (fcT y mo d 0 0 0 0 sg oh om)) {K:St->Prop}
  (hk:∀h mi sc nn st' T,h<100->mi<100->sc<100->nn<1000000000->StX (rfS r f) st st'->TM r f st' T (fcT y mo d h mi sc nn sg oh om)->Vx S h mi sc nn T->K st'):CallT PR Bm [.box r 0,.box f 0] [] st K:=by
 refine HR r f st K (GC (w:=2) (by decide) hm.1 fun y st1 T1 b1 e1 h1 s1=>(hm.step e1 h1).put (by simp[fcT]) fun st2 e2 m2=>?_)
 refine GB (of:=[58]) (by decide) (by decide) m2.1 fun c st3 T3 b3 e3 h3 s3=>GC (w:=2) (by decide) h3 fun mo st4 T4 b4 e4 h4 s4=>((m2.step e3 h3).step e4 h4).put (by simp[fcT]) fun st5 e5 m5=>?_
 refine GB (of:=[58]) (by decide) (by decide) m5.1 fun c' st6 T6 b6 e6 h6 s6=>GC (w:=2) (by decide) h6 fun d st7 T7 b7 e7 h7 s7=>((m5.step e6 h6).step e7 h7).put (by simp[fcT]) fun st8 e8 m8=>?_
 have E:=(((((((IQ e1).trans e2).trans (IQ e3)).trans (IQ e4)).trans e5).trans (IQ e6)).trans (IQ e7)).trans e8
 have comb:∀s,S=some s->(LF s->T7=some (s.drop 8)/\y=d2 s 0/\mo=d2 s 3/\d=d2 s 6)/\(¬LF s->T7=none):=fun s hs=>by
  subst hs;exact WN s1 s3 s4 s6 s7
 have nn:S=none->T7=none:=fun hs=>by
  subst hs
  obtain rfl:T1=none:=s1
  obtain rfl:T3=none:=s3
  obtain rfl:T4=none:=s4
  obtain rfl:T6=none:=s6
  exact s7
 clear s1 s3 s4 s6 s7 m2 m5
 obtain⟨t,ht,hl,hx⟩:=m8.1.src
 have plain:(∀x,T7=some x->b0 x 0≠46)->K st8:=fun hp=>hk y mo d 0 st8 T7 b1 b4 b7 (by decide) E m8 (by
  cases S with
  | none=>exact nn rfl
  | some s=>
   unfold Vx;dsimp only
   obtain⟨c1,c2⟩:=comb s rfl
   unfold HL
   by_cases fc:LF s
   ·obtain⟨rfl,v1,v2,v3⟩:=c1 fc
    rw[if_pos fc,if_neg (by have:=hp _ rfl;rw[IA]at this;exact this)]
    exact⟨rfl,v1,v2,v3,rfl⟩
   ·rw[if_neg fc];exact c2 fc)
 refine Ac ht (Al (Aa (fun g=>Ac ht (Al ⟨⟨by omega,by have:=List.length_pos_iff.2 g;omega⟩,Aa (fun g1=>?_) fun g1=>?_⟩)) fun g=>?_))
 ·have hpos:=List.length_pos_iff.2 g
  refine Ac ht (Al ⟨⟨by omega,by omega⟩,L8 (s:=t) m8.1 (by rw[List.length_drop];omega) fun st9 e9 h9=>?_⟩)
  refine ZG h9 fun n st10 T10 b10 e10 h10 s10=>((m8.step e9 h9).step e10 h10).put (by simp[fcT]) fun st11 e11 m11=>?_
  refine hk y mo d n st11 T10 b1 b4 b7 b10 (((E.trans (IQ e9)).trans (IQ e10)).trans e11) m11 ?_
  have g46:b0 t 0=46:=(u8i (k:=46)).1 g1
  cases S with
  | none=>
   obtain rfl:=nn rfl
   exact s10
  | some s=>
   unfold Vx;dsimp only
   obtain⟨c1,c2⟩:=comb s rfl
   unfold HL
   by_cases fc:LF s
   ·obtain⟨rfl,v1,v2,v3⟩:=c1 fc
    obtain rfl:=hx _ rfl
    rw[IA]at g46
    rw[if_pos fc,if_pos g46]
    have hd9:(s.drop 8).drop (Int.toNat 1)=s.drop 9:=by rw[List.drop_drop];rfl
    have s11:FracS (some (s.drop 9)) n T10:=by rw[<-hd9];exact s10
    change (if _ then _ else _)at s11
    by_cases hf:AE (s.drop 9)=[]∨9<(AE (s.drop 9)).length
    ·rw[if_pos hf]at s11
     rw[if_pos hf];exact s11
    ·rw[if_neg hf]at s11
     rw[if_neg hf]
     refine⟨?_,v1,v2,v3,s11.2⟩
     rw[s11.1,List.drop_drop]
   ·obtain rfl:=c2 fc
    rw[if_neg fc];exact s10
 ·exact plain fun x hx'=>by
   obtain rfl:=hx x hx'
   exact fun h=>g1 ((u8i (k:=46)).2 h)
 ·have g0:t=[]:=Decidable.not_not.1 g
  exact plain fun x hx'=>by
   obtain rfl:=hx x hx'
   rw[g0];decide
def W9 (S:Option B8) (sg oh om:Nat) (T:Option B8):Prop:=match S with
 | none=>T=none
 | some s=>(T=some []->∃ls,O9 s=some (ls,oh,om)/\(ls=true↔sg=45))/\(T≠some []->O9 s=none)
theorem Wa {s:B8} {sg oh om:Nat} {c:Nat} {T1 T2 T3 T:Option B8} (hsg:sg=(b0 s 0).toNat) (h0:b0 s 0=43∨b0 s 0=45) (hT:T1=some (s.drop 1)) (s1:J7 2 T1 oh T2) (s2:NJ [58] T2 c T3) (s3:J7 2 T3 om T):W9 (some s) sg oh om T:=by
 subst hT
 have nz:¬(s=[90]∨s=[122]):=by
  rintro(h | h)<;>rw[h]at h0<;>revert h0<;>decide
 have no:T=none->(dd s 1->b0 s 3=58->dd s 4->False)->W9 (some s) sg oh om T:=fun ht hf=>by
  subst ht
  refine⟨fun h=>(by cases h),fun _=>?_⟩
  unfold O9
  rw[if_neg nz,if_neg fun h=>hf h.2.2.1 h.2.2.2.1 h.2.2.2.2]
 by_cases f1:dd s 1
 ·obtain⟨rfl,rfl⟩:=(GD (m:=3) rfl s1).1 f1
  by_cases f2:b0 s 3=58
  ·obtain rfl:=(Kc (m:=4) rfl s2).1 f2
   by_cases f3:dd s 4
   ·obtain⟨rfl,rfl⟩:=(GD (m:=6) rfl s3).1 f3
    have hl:=b0_lt f3.2
    refine⟨fun h=>⟨decide (b0 s 0=45),?_,?_⟩,fun h=>?_⟩
    ·have h6:s.drop 6=[]:=Option.some.inj h
     have:=congrArg List.length h6
     rw[List.length_drop]at this
     simp at this
     unfold O9
     rw[if_neg nz,if_pos ⟨by omega,h0,f1,f2,f3⟩]
    ·rw[decide_eq_true_eq,hsg]
     exact⟨fun h=>by rw[h];rfl,fun h=>UInt8.toNat_inj.1 h⟩
    ·unfold O9
     rw[if_neg nz,if_neg]
     intro h'
     exact h (by rw[List.drop_of_length_le (by omega)])
   ·exact no ((GD (m:=6) rfl s3).2 f3) fun _ _ h=>f3 h
  ·obtain rfl:=(Kc (m:=4) rfl s2).2 f2
   exact no s3 fun _ h _=>f2 h
 ·obtain rfl:=(GD (m:=3) rfl s1).2 f1
  obtain rfl:T3=none:=s2
  exact no s3 fun h _ _=>f1 h
theorem W9.none {S T1 T:Option B8} {sg oh om:Nat} (h:NJ [90,122,43,45] S sg T1) (h1:T1=none) (ht:T=none):W9 S sg oh om T:=by
 subst h1 ht
 cases S with
 | none=>rfl
 | some s=>
  refine⟨fun h=>(by cases h),fun _=>?_⟩
  have hn:s.getD 0 0∉ [90,122,43,45]:=fun hm=>by have:=(h.pos hm).1;cases this
  unfold O9
  rw[if_neg,if_neg]
  ·rintro⟨_,h | h,_⟩
   ·exact hn (by rw[show s.getD 0 0=43 from h];decide)
   ·exact hn (by rw[show s.getD 0 0=45 from h];decide)
  ·rintro(h | h)<;>rw[h]at hn<;>revert hn<;>decide
theorem Oz {r f:Nat} {st:St} {S:Option B8} {y mo d h mi sc nn:Nat} (hm:TM r f st S (fcT y mo d h mi sc nn 0 0 0)) {K:St->Prop}
  (hk:∀sg oh om st' T,sg<256->oh<100->om<100->StX (rfS r f) st st'->TM r f st' T (fcT y mo d h mi sc nn sg oh om)->W9 S sg oh om T->K st'):CallT PR BN [.box r 0,.box f 0] [] st K:=by
 refine Hm r f st K (GB (of:=[90,122,43,45]) (by decide) (by decide) hm.1 fun sg st1 T1 b1 e1 h1 s1=>(hm.step e1 h1).put (by simp[fcT]) fun st2 e2 m2=>?_)
 have hld:Ad st2 [] (.t (.box f 7)) 0=some (.int .u8 (sg:Nat)):=by simp[Ad,m2.2.2.1,fcT]
 have E2:=(IQ e1).trans e2
 refine Ac hld (AA (Aa (fun g=>?_) fun g=>Ac hld (AA (Aa (fun g2=>?_) fun g2=>?_))))
 iterate 2
  ·refine GC (w:=2) (by decide) m2.1 fun oh st3 T3 b3 e3 h3 s3=>(m2.step e3 h3).put (by simp[fcT]) fun st4 e4 m4=>?_
   refine GB (of:=[58]) (by decide) (by decide) m4.1 fun c st5 T5 b5 e5 h5 s5=>GC (w:=2) (by decide) h5 fun om st6 T6 b6 e6 h6 s6=>((m4.step e5 h5).step e6 h6).put (by simp[fcT]) fun st7 e7 m7=>?_
   refine hk sg oh om st7 T6 b1 b3 b6 (((((E2.trans (IQ e3)).trans e4).trans (IQ e5)).trans (IQ e6)).trans e7) m7 ?_
   cases T1 with
   | none=>
    obtain rfl:T3=none:=s3
    obtain rfl:T5=none:=s5
    exact W9.none s1 rfl s6
   | some x=>
    cases S with
    | none=>cases (show some x=none from s1)
    | some s=>
     by_cases hmem:s.getD 0 0∈ [90,122,43,45]
     ·obtain⟨hT,hs⟩:=s1.pos hmem
      refine Wa hs ?_ hT s3 s5 s6
      have hc:((b0 s 0).toNat:Int)=sg:=by rw[hs];rfl
      first
       | exact .inl (UInt8.toNat_inj.1 (by rw[show((43:UInt8).toNat)=43 from rfl];omega))
       | exact .inr (UInt8.toNat_inj.1 (by rw[show((45:UInt8).toNat)=45 from rfl];omega))
     ·cases s1.neg hmem
 ·refine hk sg 0 0 st2 T1 b1 (by decide) (by decide) E2 m2 ?_
  cases T1 with
  | none=>exact W9.none s1 rfl rfl
  | some x=>
   cases S with
   | none=>cases (show some x=none from s1)
   | some s=>
    by_cases hmem:s.getD 0 0∈ [90,122,43,45]
    ·obtain⟨hT,hs⟩:=s1.pos hmem
     rw[hT]
     have h43:b0 s 0≠43:=fun h=>g (by rw[hs,show s.getD 0 0=43 from h];rfl)
     have h45:b0 s 0≠45:=fun h=>g2 (by rw[hs,show s.getD 0 0=45 from h];rfl)
     refine⟨fun h=>⟨false,?_,⟨fun h=>(by cases h),fun h=>absurd (by omega) g2⟩⟩,fun h=>?_⟩
     ·have h1:s.drop 1=[]:=Option.some.inj h
      unfold O9
      rw[if_pos]
      rcases s with _ | ⟨a,_ | ⟨b,s⟩⟩
      ·exact absurd hmem (by decide)
      ·have ha:a∈ [90,122,43,45]:=hmem
       simp only[List.mem_cons,List.not_mem_nil,or_false]at ha
       rcases ha with rfl | rfl | rfl | rfl
       ·exact .inl rfl
       ·exact .inr rfl
       ·exact absurd rfl h43
       ·exact absurd rfl h45
      ·cases h1
     ·unfold O9
      rw[if_neg,if_neg]
      ·rintro⟨_,h | h,_⟩
       ·exact h43 h
       ·exact h45 h
      ·rintro(h' | h')<;>exact h (by rw[h'];rfl)
    ·cases s1.neg hmem
theorem cday_ok {y m d:Nat} (hy:y<=100000) (hm:m<=1000) (hd:d<=1000) {st:St} {K:Int->Int->St->Prop} (hk:K (if okD y m d then(It y m d:Nat)else 0) (if okD y m d then 0 else 2) st):
  CallT PR FE [.int .i64 (y:Nat),.int .i64 (m:Nat),.int .i64 (d:Nat)] [.one (.int .i64),.one (.int .i64)] st K:=by
 refine NF _ _ _ st K (Aa (fun g=>?_) fun g=>GR (by omega) (Aa (fun g2=>?_) fun g2=>?_))
 ·have hn:¬okD y m d:=fun h=>by have:=h.2.2.2.2.1;omega
  rw[if_neg hn,if_neg hn]at hk;exact hk
 ·have hn:¬okD y m d:=fun h=>by
   obtain⟨a1,a2,a3,a4,a5,a6⟩:=h
   rw[Lv a1 a2 a3 a4]at g2
   omega
  rw[if_neg hn,if_neg hn]at hk;exact hk
 ·have hr:1<=y/\y<=9999/\1<=m/\m<=12:=by
   by_cases h:1<=y/\y<=9999/\1<=m/\m<=12
   ·exact h
   ·rw[show monX y m=0 from if_neg h]at g2
    omega
  obtain⟨a1,a2,a3,a4⟩:=hr
  rw[Lv a1 a2 a3 a4]at g2
  have ok:okD y m d:=⟨a1,a2,a3,a4,by omega,by omega⟩
  rw[if_pos ok,if_pos ok]at hk
  have hyr:yrS y<=4000000:=by unfold yrS;omega
  refine GQ a1 (by omega) ⟨fun n i y' m' st'=>((y:Nat):Int)=y'/\((m:Nat):Int)=m'/\st=st'/\∃j:Nat,i=j/\1<=j/\j<=m/\n=((yrS y+ET y j+(d-1):Nat):Int),fun _ i _ _ _=>(m-i).toNat,⟨rfl,rfl,rfl,1,rfl,by omega,by omega,?_⟩,?_⟩
  ·rw[Ai (((yrS y:Nat):Int)+((d:Nat):Int)) (by omega) (by omega),Ai _ (by omega) (by omega),show ET y 1=0 from rfl];omega
  ·rintro _ _ _ _ _ ⟨rfl,rfl,rfl,j,rfl,hj1,hj2,rfl⟩
   have hms:=Xw y j
   refine Aa (fun g3=>GR (by omega) ?_) fun g3=>?_
   ·have hmd:=Lw y j
    rw[Lv a1 a2 hj1 (by omega),Ai _ (by omega) (by omega),Ai _ (by omega) (by omega)]
    exact⟨⟨rfl,rfl,rfl,j+1,by omega,by omega,by omega,by rw[Er y hj1];omega⟩,by dsimp only;omega⟩
   ·have:j=m:=by omega
    subst this
    exact hk
def PB (n1 y mo d h mi sc nn sg oh om:Nat):TmR:=
 if (n1≠2->okD y mo d)/\okC h mi sc/\oh<=23/\om<=59 then((n1:Nat),(if n1=2 then 0 else(It y mo d:Nat)),(Ep h mi sc nn:Nat),(if sg=45 then-((oh*60+om:Nat):Int)else((oh*60+om:Nat):Int)),0)else Hq
def FinS (s:B8) (n1:Nat) (T:Option B8) (y mo d h mi sc nn sg oh om:Nat):Prop:=(T=some []->tmP s=PB n1 y mo d h mi sc nn sg oh om)/\(T≠some []->tmP s=Hr)
theorem B6 {s:B8} {n1 y mo d h mi sc nn sg oh om:Nat} (e:tmP s=Hr):FinS s n1 none y mo d h mi sc nn sg oh om:=⟨fun h=>(by cases h),fun _=>e⟩
theorem PA {s:B8} (n1:Nat) {y mo d h mi sc nn sg oh om:Nat} {r:B8} (hn:n1<=4) (e:tmP s=PB n1 y mo d h mi sc nn sg oh om) (hr:r=[]):FinS s n1 (some r) y mo d h mi sc nn sg oh om:=⟨fun _=>e,fun h=>absurd (by rw[hr]) h⟩
theorem okC0:okC 0 0 0:=by decide
theorem fin1 (y mo d:Nat):(if okD y mo d then((1:Int),((It y mo d:Nat):Int),(0:Int),(0:Int),(0:Int))else Hq)=PB 1 y mo d 0 0 0 0 0 0 0:=by
 unfold PB
 by_cases h:okD y mo d
 ·rw[if_pos h,if_pos ⟨fun _=>h,okC0,by decide,by decide⟩];rfl
 ·rw[if_neg h,if_neg fun g=>h (g.1 (by decide))]
theorem fin2 (h mi sc nn:Nat):(if okC h mi sc then((2:Int),(0:Int),((Ep h mi sc nn:Nat):Int),(0:Int),(0:Int))else Hq)=PB 2 0 0 0 h mi sc nn 0 0 0:=by
 unfold PB
 by_cases g:okC h mi sc
 ·rw[if_pos g,if_pos ⟨fun h=>absurd rfl h,g,by decide,by decide⟩];rfl
 ·rw[if_neg g,if_neg fun k=>g k.2.1]
theorem fin3 (y mo d h mi sc nn:Nat):(if okD y mo d/\okC h mi sc then((3:Int),((It y mo d:Nat):Int),((Ep h mi sc nn:Nat):Int),(0:Int),(0:Int))else Hq)=PB 3 y mo d h mi sc nn 0 0 0:=by
 unfold PB
 by_cases g:okD y mo d/\okC h mi sc
 ·rw[if_pos g,if_pos ⟨fun _=>g.1,g.2,by decide,by decide⟩];rfl
 ·rw[if_neg g,if_neg fun k=>g ⟨k.1 (by decide),k.2.1⟩]
theorem fin4 (y mo d h mi sc nn sg oh om:Nat) (ls:Bool) (hl:ls=true↔sg=45):(if okD y mo d/\okC h mi sc/\oh<=23/\om<=59 then((4:Int),((It y mo d:Nat):Int),((Ep h mi sc nn:Nat):Int),(if ls=true then-((oh*60+om:Nat):Int)else((oh*60+om:Nat):Int)),(0:Int))else Hq)=PB 4 y mo d h mi sc nn sg oh om:=by
 unfold PB
 by_cases g:okD y mo d/\okC h mi sc/\oh<=23/\om<=59
 ·have hp:(4≠2->okD y mo d)/\okC h mi sc/\oh<=23/\om<=59:=⟨fun _=>g.1,g.2⟩
  rw[if_pos g,if_pos hp]
  by_cases k:sg=45
  ·rw[if_pos k,if_pos (hl.2 k)];rfl
  ·rw[if_neg k,if_neg fun h=>k (hl.1 h)];rfl
 ·rw[if_neg g,if_neg fun k=>g ⟨k.1 (by decide),k.2⟩]
theorem Ma {s:B8} (hc:b0 s 2≠58) (h:¬Eu s):tmP s=Hr:=by
 unfold tmP
 rw[if_neg h]
 have:HL s=none:=by unfold HL;rw[if_neg fun g=>hc g.2.1]
 rw[this]
theorem fo_iff {s:B8}:s.getD 0 0∈ [84,116,32]↔(b0 s 0=84∨b0 s 0=116∨b0 s 0=32):=by
 simp only[List.mem_cons,List.not_mem_nil,or_false];rfl
theorem Sl {s:B8} (fd:Eu s) (hne:s.drop 10≠ []) (fo:(s.drop 10).getD 0 0∈ [84,116,32]):tmP s=match HL (s.drop (10+1))with
  | none=>Hr
  | some (h,m,sc,f,r')=>tmO (d2 s 0*100+d2 s 2) (d2 s 5) (d2 s 8) h m sc f r':=by
 unfold tmP tmD
 rw[if_pos fd,if_neg hne,if_pos (fo_iff.1 fo),List.drop_drop]<;>rfl
theorem Sk {s:B8} (fd:Eu s) (hne:s.drop 10≠ []) (fo:(s.drop 10).getD 0 0∉ [84,116,32]):tmP s=Hr:=by
 unfold tmP tmD
 rw[if_pos fd,if_neg hne,if_neg fun h=>fo (fo_iff.2 h)]
theorem NZ {s:B8} {k:Nat} {c:UInt8} (hc:c≠0) (h:b0 s k=c):k<s.length:=by
 by_cases hk:k<s.length
 ·exact hk
 ·rw[show b0 s k=0 by simp[b0,List.getD,Nat.le_of_not_lt hk]]at h
  exact absurd h.symm hc
theorem ZH {r f:Nat} {st:St} {s:B8} (hm:TM r f st (some s) (fcT 0 0 0 0 0 0 0 0 0 0)) {K:Int->St->Prop}
  (hk:∀(n1 y mo d h mi sc nn sg oh om:Nat) st' T,n1<=4->y<10000->mo<100->d<100->h<100->mi<100->sc<100->nn<1000000000->sg<256->oh<100->om<100->StX (rfS r f) st st'->TM r f st' T (fcT y mo d h mi sc nn sg oh om)->FinS s n1 T y mo d h mi sc nn sg oh om->K (n1:Nat) st'):
  CallT PR Dc [.box r 0,.box f 0] [.one (.int .i64)] st K:=by
 obtain⟨x,hx,hl,hsx⟩:=hm.1.src
 have hxs:x=s:=hsx s rfl
 rw[hxs]at hx hl
 clear hsx hxs
 refine IG r f st K (Ac hx (Al (Aa (fun g=>Ac hx (Al ⟨⟨by omega,g⟩,Aa (fun g1=>?_) fun g1=>?_⟩)) fun g=>?_)))
 ·have h58:b0 s 2=58:=(u8i (k:=58)).1 g1
  have nfd:¬Eu s:=fun h=>absurd h.2.1.1 (by rw[h58];decide)
  refine Mc hm fun h mi sc nn st1 T c1 c2 c3 c4 e1 m1 s1=>hk 2 0 0 0 h mi sc nn 0 0 0 st1 T (by omega) (by decide) (by decide) (by decide) c1 c2 c3 c4 (by decide) (by decide) (by decide) e1 m1 ?_
  unfold Vx at s1
  dsimp only at s1
  have e:tmP s=match HL s with
   | none=>Hr
   | some (h,m,sc,f,r)=>if r=[]then(if okC h m sc then(2,0,(Ep h m sc f:Nat),0,0)else Hq)else Hr:=by unfold tmP;rw[if_neg nfd]<;>rfl
  cases hc:HL s with
  | none=>rw[hc]at s1 e;exact s1▸B6 e
  | some p=>
   obtain⟨h',mi',sc',f',r'⟩:=p
   rw[hc]at s1 e
   dsimp only at s1 e
   obtain⟨rfl,rfl,rfl,rfl,rfl⟩:=s1
   by_cases hr:r'=[]
   ·rw[if_pos hr]at e
    exact PA _ (by decide) (by rw[e];exact fin2 _ _ _ _) hr
   ·rw[if_neg hr]at e
    exact⟨fun h=>absurd (Option.some.inj h) hr,fun _=>e⟩
 ·have hnc:b0 s 2≠58:=fun h=>g1 ((u8i (k:=58)).2 h)
  refine TO hm fun y mo d st2 T2 b1 b2 b3 e2 m2 s2=>?_
  obtain⟨x3,hx3,_,hs3⟩:=m2.1.src
  refine Ac hx3 (Al (Aa (fun g=>?_) fun g=>GB (of:=[84,116,32]) (by decide) (by decide) m2.1 fun c st3 T3 bc e3 h3 s3=>Mc (m2.step e3 h3) fun h mi sc nn st4 T4 c1 c2 c3 c4 e4 m4 s4=>?_))
  ·refine hk 1 y mo d 0 0 0 0 0 0 0 st2 T2 (by omega) b1 b2 b3 (by decide) (by decide) (by decide) (by decide) (by decide) (by decide) (by decide) e2 m2 ?_
   by_cases fd:Eu s
   ·obtain⟨rfl,rfl,rfl,rfl⟩:=s2.1 fd
    have h10:s.drop 10=[]:=by rw[<-hs3 _ rfl];exact g
    have e:tmP s=if okD (d2 s 0*100+d2 s 2) (d2 s 5) (d2 s 8)then((1:Int),((It (d2 s 0*100+d2 s 2) (d2 s 5) (d2 s 8):Nat):Int),(0:Int),(0:Int),(0:Int))else Hq:=by unfold tmP tmD;rw[if_pos fd,if_pos h10]
    exact PA _ (by decide) (by rw[e];exact fin1 _ _ _) h10
   ·obtain rfl:=s2.2 fd
    exact B6 (by rw[Ma hnc fd])
  ·obtain⟨x4,hx4,_,hs4⟩:=m4.1.src
   have nofd:¬Eu s->T4=none:=fun fd=>by
    obtain rfl:=s2.2 fd
    obtain rfl:T3=none:=s3
    exact s4
   have E4:=(e2.trans (IQ e3)).trans e4
   refine Ac hx4 (Al (Aa (fun g4=>?_) fun g4=>Oz m4 fun sg oh om st5 T5 d1 d2 d3 e5 m5 s5=>?_))
   ·refine hk 3 y mo d h mi sc nn 0 0 0 st4 T4 (by omega) b1 b2 b3 c1 c2 c3 c4 (by decide) (by decide) (by decide) E4 m4 ?_
    by_cases fd:Eu s
    ·obtain⟨rfl,rfl,rfl,rfl⟩:=s2.1 fd
     have hne:s.drop 10≠ []:=fun e=>g (by rw[hs3 _ rfl];exact e)
     by_cases fo:(s.drop 10).getD 0 0∈ [84,116,32]
     ·obtain⟨rfl,_⟩:=s3.pos fo
      have e:=Sl fd hne fo
      unfold Vx at s4
      dsimp only at s4
      rw[List.drop_drop]at s4
      cases hc:HL (s.drop (10+1))with
      | none=>rw[hc]at s4 e;exact s4▸B6 e
      | some p=>
       obtain⟨h',mi',sc',f',r'⟩:=p
       rw[hc]at s4 e
       dsimp only at s4 e
       obtain⟨rfl,rfl,rfl,rfl,rfl⟩:=s4
       have hr:r'=[]:=by rw[<-hs4 _ rfl];exact g4
       unfold tmO at e
       rw[if_pos hr]at e
       exact PA _ (by decide) (by rw[e];exact fin3 _ _ _ _ _ _ _) hr
     ·obtain rfl:=s3.neg fo
      obtain rfl:T4=none:=s4
      exact B6 (Sk fd hne fo)
    ·obtain rfl:=nofd fd
     exact B6 (by rw[Ma hnc fd])
   ·refine hk 4 y mo d h mi sc nn sg oh om st5 T5 (by omega) b1 b2 b3 c1 c2 c3 c4 d1 d2 d3 (E4.trans e5) m5 ?_
    by_cases fd:Eu s
    ·obtain⟨rfl,rfl,rfl,rfl⟩:=s2.1 fd
     have hne:s.drop 10≠ []:=fun e=>g (by rw[hs3 _ rfl];exact e)
     by_cases fo:(s.drop 10).getD 0 0∈ [84,116,32]
     ·obtain⟨rfl,_⟩:=s3.pos fo
      have e:=Sl fd hne fo
      unfold Vx at s4
      dsimp only at s4
      rw[List.drop_drop]at s4
      cases hc:HL (s.drop (10+1))with
      | none=>
       rw[hc]at s4 e
       dsimp only at s4
       subst s4
       obtain rfl:T5=none:=s5
       exact B6 e
      | some p=>
       obtain⟨h',mi',sc',f',r'⟩:=p
       rw[hc]at s4 e
       dsimp only at s4 e
       obtain⟨rfl,rfl,rfl,rfl,rfl⟩:=s4
       have hr:r'≠ []:=fun e=>g4 (by rw[hs4 _ rfl];exact e)
       unfold tmO at e
       rw[if_neg hr]at e
       by_cases h5:T5=some []
       ·obtain⟨ls,ho,hl⟩:=s5.1 h5
        rw[ho]at e
        exact⟨fun _=>by rw[e];exact fin4 _ _ _ _ _ _ _ _ _ _ _ hl,fun h=>absurd h5 h⟩
       ·have ho:=s5.2 h5
        rw[ho]at e
        exact⟨fun h=>absurd h h5,fun _=>e⟩
     ·obtain rfl:=s3.neg fo
      obtain rfl:T4=none:=s4
      obtain rfl:T5=none:=s5
      exact B6 (Sk fd hne fo)
    ·obtain rfl:=nofd fd
     obtain rfl:T5=none:=s5
     exact B6 (by rw[Ma hnc fd])
 ·have hnc:b0 s 2≠58:=fun h=>by have:=NZ (by decide) h;omega
  refine TO hm fun y mo d st2 T2 b1 b2 b3 e2 m2 s2=>?_
  obtain⟨x3,hx3,_,hs3⟩:=m2.1.src
  refine Ac hx3 (Al (Aa (fun g=>?_) fun g=>GB (of:=[84,116,32]) (by decide) (by decide) m2.1 fun c st3 T3 bc e3 h3 s3=>Mc (m2.step e3 h3) fun h mi sc nn st4 T4 c1 c2 c3 c4 e4 m4 s4=>?_))
  ·refine hk 1 y mo d 0 0 0 0 0 0 0 st2 T2 (by omega) b1 b2 b3 (by decide) (by decide) (by decide) (by decide) (by decide) (by decide) (by decide) e2 m2 ?_
   by_cases fd:Eu s
   ·obtain⟨rfl,rfl,rfl,rfl⟩:=s2.1 fd
    have h10:s.drop 10=[]:=by rw[<-hs3 _ rfl];exact g
    have e:tmP s=if okD (d2 s 0*100+d2 s 2) (d2 s 5) (d2 s 8)then((1:Int),((It (d2 s 0*100+d2 s 2) (d2 s 5) (d2 s 8):Nat):Int),(0:Int),(0:Int),(0:Int))else Hq:=by unfold tmP tmD;rw[if_pos fd,if_pos h10]
    exact PA _ (by decide) (by rw[e];exact fin1 _ _ _) h10
   ·obtain rfl:=s2.2 fd
    exact B6 (by rw[Ma hnc fd])
  ·obtain⟨x4,hx4,_,hs4⟩:=m4.1.src
   have nofd:¬Eu s->T4=none:=fun fd=>by
    obtain rfl:=s2.2 fd
    obtain rfl:T3=none:=s3
    exact s4
   have E4:=(e2.trans (IQ e3)).trans e4
   refine Ac hx4 (Al (Aa (fun g4=>?_) fun g4=>Oz m4 fun sg oh om st5 T5 d1 d2 d3 e5 m5 s5=>?_))
   ·refine hk 3 y mo d h mi sc nn 0 0 0 st4 T4 (by omega) b1 b2 b3 c1 c2 c3 c4 (by decide) (by decide) (by decide) E4 m4 ?_
    by_cases fd:Eu s
    ·obtain⟨rfl,rfl,rfl,rfl⟩:=s2.1 fd
     have hne:s.drop 10≠ []:=fun e=>g (by rw[hs3 _ rfl];exact e)
     by_cases fo:(s.drop 10).getD 0 0∈ [84,116,32]
     ·obtain⟨rfl,_⟩:=s3.pos fo
      have e:=Sl fd hne fo
      unfold Vx at s4
      dsimp only at s4
      rw[List.drop_drop]at s4
      cases hc:HL (s.drop (10+1))with
      | none=>rw[hc]at s4 e;exact s4▸B6 e
      | some p=>
       obtain⟨h',mi',sc',f',r'⟩:=p
       rw[hc]at s4 e
       dsimp only at s4 e
       obtain⟨rfl,rfl,rfl,rfl,rfl⟩:=s4
       have hr:r'=[]:=by rw[<-hs4 _ rfl];exact g4
       unfold tmO at e
       rw[if_pos hr]at e
       exact PA _ (by decide) (by rw[e];exact fin3 _ _ _ _ _ _ _) hr
     ·obtain rfl:=s3.neg fo
      obtain rfl:T4=none:=s4
      exact B6 (Sk fd hne fo)
    ·obtain rfl:=nofd fd
     exact B6 (by rw[Ma hnc fd])
   ·refine hk 4 y mo d h mi sc nn sg oh om st5 T5 (by omega) b1 b2 b3 c1 c2 c3 c4 d1 d2 d3 (E4.trans e5) m5 ?_
    by_cases fd:Eu s
    ·obtain⟨rfl,rfl,rfl,rfl⟩:=s2.1 fd
     have hne:s.drop 10≠ []:=fun e=>g (by rw[hs3 _ rfl];exact e)
     by_cases fo:(s.drop 10).getD 0 0∈ [84,116,32]
     ·obtain⟨rfl,_⟩:=s3.pos fo
      have e:=Sl fd hne fo
      unfold Vx at s4
      dsimp only at s4
      rw[List.drop_drop]at s4
      cases hc:HL (s.drop (10+1))with
      | none=>
       rw[hc]at s4 e
       dsimp only at s4
       subst s4
       obtain rfl:T5=none:=s5
       exact B6 e
      | some p=>
       obtain⟨h',mi',sc',f',r'⟩:=p
       rw[hc]at s4 e
       dsimp only at s4 e
       obtain⟨rfl,rfl,rfl,rfl,rfl⟩:=s4
       have hr:r'≠ []:=fun e=>g4 (by rw[hs4 _ rfl];exact e)
       unfold tmO at e
       rw[if_neg hr]at e
       by_cases h5:T5=some []
       ·obtain⟨ls,ho,hl⟩:=s5.1 h5
        rw[ho]at e
        exact⟨fun _=>by rw[e];exact fin4 _ _ _ _ _ _ _ _ _ _ _ hl,fun h=>absurd h5 h⟩
       ·have ho:=s5.2 h5
        rw[ho]at e
        exact⟨fun h=>absurd h h5,fun _=>e⟩
     ·obtain rfl:=s3.neg fo
      obtain rfl:T4=none:=s4
      obtain rfl:T5=none:=s5
      exact B6 (Sk fd hne fo)
    ·obtain rfl:=nofd fd
     obtain rfl:T5=none:=s5
     exact B6 (by rw[Ma hnc fd])
abbrev KT (K:Int->Int->Int->Int->Int->St->Prop) (r:TmR) (st:St):Prop:=K r.1 r.2.1 r.2.2.1 r.2.2.2.1 r.2.2.2.2 st
theorem nano_w {h mi sc nn:Nat} (h1:h<100) (h2:mi<100) (h3:sc<100) (h4:nn<1000000000):
  i64.wrap ((i64.wrap ((i64.wrap ((i64.wrap ((i64.wrap ((i64.wrap (((h:Nat):Int)*60))+((mi:Nat):Int)))*60))+((sc:Nat):Int)))*1000000000))+((nn:Nat):Int))=((Ep h mi sc nn:Nat):Int):=by
 rw[Ai (((h:Nat):Int)*60) (by omega) (by omega),Ai (((h:Nat):Int)*60+((mi:Nat):Int)) (by omega) (by omega),Ai ((((h:Nat):Int)*60+((mi:Nat):Int))*60) (by omega) (by omega),Ai ((((h:Nat):Int)*60+((mi:Nat):Int))*60+((sc:Nat):Int)) (by omega) (by omega),Ai (((((h:Nat):Int)*60+((mi:Nat):Int))*60+((sc:Nat):Int))*1000000000) (by omega) (by omega),Ai _ (by omega) (by omega)]
 unfold Ep;omega
theorem off_w {oh om:Nat} (h1:oh<100) (h2:om<100):i64.wrap ((i64.wrap (((oh:Nat):Int)*60))+((om:Nat):Int))=((oh*60+om:Nat):Int):=by
 rw[Ai (((oh:Nat):Int)*60) (by omega) (by omega),Ai _ (by omega) (by omega)];omega
theorem tP_ok {s:B8} (hl:s.length<=1000000) {st:St} {K:Int->Int->Int->Int->Int->St->Prop} (hk:∀st',Am st st'->KT K (tmP s) st'):CallT PR CX [.str s] [.agg [.int .i64,.int .i64,.int .i64,.int .i64],.one (.int .i64)] st K:=by
 refine Nw s st K (ZH (r:=st.nb) (f:=st.nb+1) (s:=s) ?_ fun n1 y mo d h mi sc nn sg oh om st1 T a1 a2 a3 a4 a5 a6 a7 a8 a9 a10 a11 e1 m1 hF=>?_)
 ·refine⟨⟨?_,?_,hl⟩,?_,?_,?_⟩
  ·simp[St.push];omega
  ·simp[St.push]
  ·simp[St.push]
  ·simp[St.push,fcT]
  ·omega
 ·have E:Am st st1:=StX.ext (((Am.refl st).push _ _).push _ _) e1 (by
   rintro i (rfl | rfl)
   ·exact Nat.le_refl _
   ·exact Nat.le_succ _)
  obtain⟨hF1,hF2⟩:=hF
  have cell:∀i v,(fcT y mo d h mi sc nn sg oh om)[i]? =some v->Ad st1 [] (.t (.box (st.nb+1) i)) 0=some v:=fun i v hv=>by
   simp only[Ad,m1.2.2.1,Nat.add_zero];exact hv
  have c0:=cell 0 _ rfl
  have c1:=cell 1 _ rfl
  have c2:=cell 2 _ rfl
  have c3:=cell 3 _ rfl
  have c4:=cell 4 _ rfl
  have c5:=cell 5 _ rfl
  have c6:=cell 6 _ rfl
  have c7:=cell 7 _ rfl
  have c8:=cell 8 _ rfl
  have c9:=cell 9 _ rfl
  clear cell
  obtain⟨hr,t,hb,_,ht⟩:=m1.1.get
  have k0:Ad st1 [] (.t (.box st.nb 0)) 0=some (.str t):=by simp[Ad,hb]
  have k1:Ad st1 [] (.t (.box st.nb 1)) 0=some (.bool T.isNone):=by simp[Ad,hb]
  have bad:T≠some []->K 0 0 0 0 3 st1:=fun hT=>by
   have:=hk st1 E
   rw[hF2 hT]at this;exact this
  refine Ac k1 (Aq (Ap (fun g=>bad fun e=>by rw[e]at g;cases g) fun g=>Ac k0 (Al (Aa (fun g1=>bad fun e=>g1 (ht [] e)) fun g1=>?_))))
  have hT:T=some []:=by
   cases T with
   | none=>cases g
   | some x=>rw[<-ht x rfl,Decidable.not_not.1 g1]
  have hV:=hF1 hT
  have hk1:=hk st1 E
  rw[hV]at hk1
  clear hF1 hF2 hV hk bad
  unfold KT PB at hk1
  have tail:(n1≠2->okD y mo d)->∀D:Int,D=(if n1=2 then 0 else((It y mo d:Nat):Int))->okC h mi sc/\oh<=23/\om<=59->K (n1:Nat) D (Ep h mi sc nn:Nat) (if sg=45 then-((oh*60+om:Nat):Int)else((oh*60+om:Nat):Int)) 0 st1:=fun h0 D hD h1=>by
   subst hD
   rw[if_pos ⟨h0,h1⟩]at hk1;exact hk1
  have out:(¬(okC h mi sc/\oh<=23/\om<=59)∨¬(n1≠2->okD y mo d))->K 0 0 0 0 2 st1:=fun hn=>by
   rw[if_neg (fun g=>by
    rcases hn with hn | hn
    ·exact hn g.2
    ·exact hn g.1)]at hk1
   exact hk1
  have end_:(n1≠2->okD y mo d)->∀D:Int,D=(if n1=2 then 0 else((It y mo d:Nat):Int))->okC h mi sc/\oh<=23/\om<=59->BIf (decide (((sg:Nat):Int)=45)) (K (n1:Nat) D (Ep h mi sc nn:Nat) (i64.wrap (0-((oh*60+om:Nat):Int))) 0 st1) (K (n1:Nat) D (Ep h mi sc nn:Nat) ((oh*60+om:Nat):Int) 0 st1):=fun h0 D hD h1=>by
   have:=tail h0 D hD h1
   refine Aa (fun g=>?_) fun g=>?_
   ·rw[if_pos (by omega)]at this
    rw[Ai _ (by omega) (by omega),show(0:Int)-((oh*60+om:Nat):Int)= -((oh*60+om:Nat):Int) by omega];exact this
   ·rw[if_neg (by omega)]at this;exact this
  have okc:∀{a b c:Nat},¬(23:Int)<(a:Nat)->¬(59:Int)<(b:Nat)->¬(59:Int)<(c:Nat)->okC a b c:=fun x y z=>⟨by omega,by omega,by omega⟩
  refine Aa (fun g2=>?_) fun g2=>?_
  ·refine Ac c0 (AA (Ac c1 (AA (Ac c2 (AA (cday_ok (by omega) (by omega) (by omega) ?_))))))
   by_cases hD:okD y mo d
   ·rw[if_pos hD,if_pos hD]
    refine Aa (fun g=>absurd rfl g) fun _=>Ac c3 (AA (Aa (fun g=>out (.inl fun k=>by have:=k.1.1;omega)) fun k1=>Ac c4 (AA (Aa (fun g=>out (.inl fun k=>by have:=k.1.2.1;omega)) fun k2=>Ac c5 (AA (Aa (fun g=>out (.inl fun k=>by have:=k.1.2.2;omega)) fun k3=>Ac c8 (AA (Aa (fun g=>out (.inl fun k=>by have:=k.2.1;omega)) fun k4=>Ac c9 (AA (Aa (fun g=>out (.inl fun k=>by have:=k.2.2;omega)) fun k5=>?_))))))))))
    refine Ac c3 (AA (Ac c4 (AA (Ac c5 (AA (Ac c6 (AA (Ac c8 (AA (Ac c9 (AA (Ac c7 (AA ?_)))))))))))))
    rw[nano_w a5 a6 a7 a8,off_w a10 a11]
    exact end_ (fun _=>hD) _ (by rw[if_neg (by omega)]) ⟨okc k1 k2 k3,by omega,by omega⟩
   ·rw[if_neg hD,if_neg hD]
    exact Aa (fun _=>out (.inr fun k=>hD (k (by omega)))) fun g=>absurd (by decide) g
  ·refine Ac c3 (AA (Aa (fun g=>out (.inl fun k=>by have:=k.1.1;omega)) fun k1=>Ac c4 (AA (Aa (fun g=>out (.inl fun k=>by have:=k.1.2.1;omega)) fun k2=>Ac c5 (AA (Aa (fun g=>out (.inl fun k=>by have:=k.1.2.2;omega)) fun k3=>Ac c8 (AA (Aa (fun g=>out (.inl fun k=>by have:=k.2.1;omega)) fun k4=>Ac c9 (AA (Aa (fun g=>out (.inl fun k=>by have:=k.2.2;omega)) fun k5=>?_))))))))))
   refine Ac c3 (AA (Ac c4 (AA (Ac c5 (AA (Ac c6 (AA (Ac c8 (AA (Ac c9 (AA (Ac c7 (AA ?_)))))))))))))
   rw[nano_w a5 a6 a7 a8,off_w a10 a11]
   exact end_ (fun h=>absurd (by omega) h) _ (by rw[if_pos (by omega)]) ⟨okc k1 k2 k3,by omega,by omega⟩
def likeF (form s:B8):Prop:=form.length<=s.length/\∀i,i<form.length->if form.getD i 0=100 then AF (s.getD i 0)else s.getD i 0=form.getD i 0
instance (form s:B8):Decidable (likeF form s):=inferInstanceAs (Decidable (_/\_))
theorem fracN_lt {f:B8} (hd:∀c,c∈f->AF c) (hl:f.length<=9):Pw f<1000000000:=by
 unfold Pw
 have:=JJ (f++List.replicate (9-f.length) 48) fun c hc=>by
  rcases List.mem_append.1 hc with hc | hc
  ·exact hd c hc
  ·rw[List.eq_of_mem_replicate hc];decide
 rw[List.length_append,List.length_replicate,show f.length+(9-f.length)=9 by omega]at this
 exact this
end Go.TVF
section
namespace Go.TVF
open Go.IntKind(i64 u8)
open Go Go.Proofs Go.RowKit
theorem Sim.grown {g:Ghost} {st:St} {loc:List (Option (List TV))} {w w':World} (s:Sim g st loc w) (h:Below w.heap.size w w'):Sim g st loc w'/\Ext g w g w':=
 s.world h.size (s.below.trans (h.mono s.fits)) h.block
end Go.TVF
end
namespace Go.TVF
open Go.IntKind(i64 u8)
open Go Go.Proofs
def FK (c:Int):Bool:=decide (97<=c/\c<=122∨65<=c/\c<=90∨48<=c/\c<=57∨c=95∨c=45∨c=43∨c=46∨c=58)
theorem Xl {st:St} {b:Nat} {l xs:List TV} {k:St->Prop} (hb:st.box b= .cells l) (hl:0+xs.length<=l.length) (hk:k (st.put b (.cells (setAll l 0 xs)))):stB st (.box b 0) xs k:=⟨l,hb,hl,hk⟩
def twl (p:Int->Bool):B8->Nat
 | []=>0
 | c::r=>if p (c.toNat:Int)then twl p r+1 else 0
def digitB (c:Int):Bool:=decide (48<=c/\c<=57)
def patB:List (Option UInt8)->B8->Bool
 | [],_=>true
 | _::_,[]=>false
 | none::ps,c::cs=>digitB (c.toNat:Int)&&patB ps cs
 | some a::ps,c::cs=>decide (c=a)&&patB ps cs
def mkPat (d:UInt8) (p:B8):List (Option UInt8):=p.map fun c=>if c=d then none else some c
def hexD (c:Nat):Option Nat:=if 48<=c/\c<=57 then some (c-48)else if 97<=c/\c<=102 then some (c-87)else if 65<=c/\c<=70 then some (c-55)else none
def hexS:Nat->B8->Nat->Except Int Nat
 | 0,_,acc=> .ok acc
 | k+1,[],acc=> .error 4
 | k+1,c::cs,acc=>match hexD c.toNat with
  | none=> .error 3
  | some d=>hexS k cs (acc*16+d)
def eE {α:Type}:Except Int α->Int | .ok _=>0 | .error e=>e
def escS (l:B8):Except Int (Nat×Nat):=
 match hexS 4 l 0 with
 | .error e=> .error e
 | .ok n=>
  if 56320<=n/\n<=57343 then .error 5
  else if n<55296∨57343<n then .ok (n,4)
  else if l.length<=4 then .error 4
  else if bt l 4≠92 then .error 5
  else if l.length<=5 then .error 4
  else if bt l 5≠117 then .error 5
  else match hexS 4 (l.drop 6) 0 with
   | .error e=> .error e
   | .ok m=>if m<56320∨57343<m then .error 5 else .ok (65536+(n-55296)*1024+(m-56320),10)
def simE (c:Nat):Option UInt8:=if c=34 then some 34 else if c=92 then some 92 else if c=47 then some 47 else if c=98 then some 8 else if c=102 then some 12 else if c=110 then some 10 else if c=114 then some 13 else if c=116 then some 9 else none
def qF:Nat->Nat->B8->B8->Nat->Except Int (B8×Nat)
 | 0,_,_,_,_=> .error 4
 | f+1,m,l,acc,n=>
  if l.length=0 then .error 4
  else if bt l 0=m then .ok (acc,n+1)
  else if ul l=0∨bt l 0<32 then .error 5
  else if bt l 0≠92∨m=39 then qF f m (l.drop (ul l)) (acc++l.take (ul l)) (n+ul l)
  else if l.length<=1 then .error 4
  else if bt l 1=117 then match escS (l.drop 2)with
   | .error e=> .error e
   | .ok p=>qF f m (l.drop (2+p.2)) (acc++Hd p.1) (n+(2+p.2))
  else match simE (bt l 1)with
   | none=> .error 3
   | some c=>qF f m (l.drop 2) (acc++[c]) (n+2)
def wlen (l:B8):Nat:=if twl FK l=10/\patB (mkPat 100 [100,100,100,100,45,100,100,45,100,100,32,100,100,58]) l=true then 11+twl FK (l.drop 11)else twl FK l
def isX (r:B8):Prop:=r≠ []/\(AE r).length=r.length
def isE (r:B8):Prop:=r=[]∨((r.getD 0 0=101∨r.getD 0 0=69)/\(if (r.drop 1).getD 0 0=45∨(r.drop 1).getD 0 0=43 then isX (r.drop 2)else isX (r.drop 1)))
def isF (r:B8):Prop:=if r.getD 0 0=46 then AE (r.drop 1)≠ []/\isE (r.drop (1+(AE (r.drop 1)).length))else isE r
def isQ (t:B8):Prop:=AE t≠ []/\¬(1<(AE t).length/\t.getD 0 0=48)/\isF (t.drop (AE t).length)
instance (r:B8):Decidable (isX r):=inferInstanceAs (Decidable (_/\_))
instance (r:B8):Decidable (isE r):=by unfold isE;infer_instance
instance (r:B8):Decidable (isF r):=by unfold isF;infer_instance
instance (r:B8):Decidable (isQ r):=by unfold isQ;infer_instance
theorem XQ (neg:Bool) (s:B8) (ex:Int):(dcN neg s ex).2.2.2=0∨(dcN neg s ex).2.2.2=2:=by
 unfold dcN;split
 ·exact .inl rfl
 ·split
  ·exact .inr rfl
  ·exact .inl rfl
def okE (e:Int):Prop:=e=0∨e=2
theorem SZ (neg:Bool) (all:B8) (ex:Int) (less:Bool) (r:B8):(isX r->okE (dcX neg all ex less r).2.2.2)/\(¬isX r->(dcX neg all ex less r).2.2.2=3):=by
 unfold dcX isX
 by_cases h:r=[]∨(AE r).length≠r.length
 ·rw[if_pos h]
  refine⟨fun g=>?_,fun _=>rfl⟩
  rcases h with h | h
  ·exact absurd h g.1
  ·exact absurd g.2 h
 ·rw[if_neg h]
  have h':r≠ []/\(AE r).length=r.length:=⟨fun e=>h (.inl e),Decidable.not_not.1 fun e=>h (.inr e)⟩
  exact⟨fun _=>XQ _ _ _,fun g=>absurd h' g⟩
theorem XT (neg:Bool) (all:B8) (ex:Int) (r:B8):(isE r->okE (dcE neg all ex r).2.2.2)/\(¬isE r->(dcE neg all ex r).2.2.2=3):=by
 unfold dcE isE
 by_cases h:r=[]
 ·rw[if_pos h];exact⟨fun _=>XQ _ _ _,fun g=>absurd (.inl h) g⟩
 rw[if_neg h]
 by_cases h2:r.getD 0 0=101∨r.getD 0 0=69
 ·rw[if_pos h2]
  by_cases h3:(r.drop 1).getD 0 0=45
  ·rw[if_pos h3,if_pos (.inl h3)]
   have:=SZ neg all ex true (r.drop 2)
   exact⟨fun g=>this.1 (by rcases g with g | g;exact absurd g h;exact g.2),fun g=>this.2 fun g2=>g (.inr ⟨h2,g2⟩)⟩
  ·rw[if_neg h3]
   by_cases h4:(r.drop 1).getD 0 0=43
   ·rw[if_pos h4,if_pos (.inr h4)]
    have:=SZ neg all ex false (r.drop 2)
    exact⟨fun g=>this.1 (by rcases g with g | g;exact absurd g h;exact g.2),fun g=>this.2 fun g2=>g (.inr ⟨h2,g2⟩)⟩
   ·rw[if_neg h4,if_neg (by rintro(g | g);exact h3 g;exact h4 g)]
    have:=SZ neg all ex false (r.drop 1)
    exact⟨fun g=>this.1 (by rcases g with g | g;exact absurd g h;exact g.2),fun g=>this.2 fun g2=>g (.inr ⟨h2,g2⟩)⟩
 ·rw[if_neg h2]
  exact⟨fun g=>by rcases g with g | g;exact absurd g h;exact absurd g.1 h2,fun _=>rfl⟩
theorem dcF_err (neg:Bool) (a r:B8):(isF r->okE (dcF neg a r).2.2.2)/\(¬isF r->(dcF neg a r).2.2.2=3):=by
 unfold dcF isF
 by_cases h:r.getD 0 0=46
 ·rw[if_pos h,if_pos h]
  by_cases h2:AE (r.drop 1)=[]
  ·rw[if_pos h2];exact⟨fun g=>absurd h2 g.1,fun _=>rfl⟩
  ·rw[if_neg h2]
   have:=XT neg (a++AE (r.drop 1)) (-(AE (r.drop 1)).length) (r.drop (1+(AE (r.drop 1)).length))
   exact⟨fun g=>this.1 g.2,fun g=>this.2 fun g2=>g ⟨h2,g2⟩⟩
 ·rw[if_neg h,if_neg h];exact XT _ _ _ _
theorem XO (neg:Bool) (t:B8):(isQ t->okE (dcQ neg t).2.2.2)/\(¬isQ t->(dcQ neg t).2.2.2=3):=by
 unfold dcQ isQ
 by_cases h:AE t=[]∨(1<(AE t).length/\t.getD 0 0=48)
 ·rw[if_pos h]
  refine⟨fun g=>?_,fun _=>rfl⟩
  rcases h with h | h
  ·exact absurd h g.1
  ·exact absurd h g.2.1
 ·rw[if_neg h]
  have:=dcF_err neg (AE t) (t.drop (AE t).length)
  exact⟨fun g=>this.1 g.2.2,fun g=>this.2 fun g2=>g ⟨fun e=>h (.inl e),fun e=>h (.inr e),g2⟩⟩
def Su (s:B8):Nat:=if s.getD 0 0=45 then 1 else 0
theorem dcP_err (s:B8):(isQ (s.drop (Su s))->okE (dcP s).2.2.2)/\(¬isQ (s.drop (Su s))->(dcP s).2.2.2=3):=by
 unfold dcP Su
 by_cases h:s.getD 0 0=45
 ·rw[if_pos h,if_pos h];exact XO _ _
 ·rw[if_neg h,if_neg h,List.drop_zero];exact XO _ _
def scK (k:Nat):Sc:=⟨(k:Nat),false,false,[],0,0,0,0,0,[],[]⟩
theorem vlLeaf (st:St) (s:Sc) (h:s.bytes=[]):VlR st (.mk s [] []) (Bo s .nilSlice .nilSlice .nilSlice):=by
 unfold VlR
 refine⟨_,_,_,[],[],rfl,?_,.of_rd (.inl ⟨rfl,rfl,rfl⟩),by unfold VsR;rfl,.of_rd (.inl ⟨rfl,rfl,rfl⟩),by unfold FsR;rfl⟩
 rw[h];exact .of_rd (.inl ⟨rfl,rfl,rfl⟩)
theorem FsR.snoc0 {st:St} {d:Fd} {cd:List TV} {l:List Fd} {xs:List TV} (h:FsR st l xs) (hd:FdR st d cd):FsR st (l++[d]) (xs++cd):=by
 obtain⟨cks,rfl,hall⟩:=h.chunks
 have:=FsR.of_chunks (hall.snoc hd)
 simpa using this
theorem CA {n w:Nat} (hw:w<=100) (hn:n<=1000000000000000000) {st:St} {K:B8->St->Prop} (hk:∀st',Am st st'->K (Bw w n) st'):CallT PR AM [.int .i64 (n:Int),.int .i64 (w:Int)] [.one .str] st K:=by
 refine LU _ _ st K ⟨⟨by omega,by omega,by rw[Int.toNat_natCast];omega⟩,?_⟩
 rw[Int.toNat_natCast,Ai _ (by omega) (by omega)]
 refine⟨fun n1 i b st'=>TV.ms 1 st.nb 0 w w=b/\∃(j m:Nat) (t:B8),i=(j:Int)-1/\n1=m/\m<=n/\j+t.length=w/\Bw w n=Bw j m++t/\BxB st st' b (List.replicate j 0++t),fun _ i _ _=>(i+1).toNat,⟨rfl,w,n,[],rfl,rfl,Nat.le_refl _,rfl,by simp,by simpa using BxB.make (Am.refl st) w⟩,?_⟩
 rintro _ _ _ st1 ⟨rfl,j,m,t,rfl,rfl,hm,hj,he,hb⟩
 have hlen:(List.replicate j (0:UInt8)++t).length=w:=by simp;omega
 refine Aa (fun g=>?_) fun g=>?_
 ·obtain⟨i,rfl⟩:∃i,j=i+1:=⟨j-1,by omega⟩
  have hi:(((i+1:Nat):Int)-1)=(i:Int):=by omega
  rw[hi,hb.rd.lenZ,Int.toNat_natCast]
  refine⟨⟨by omega,by omega⟩,hb.set (c:=(48+m%10).toUInt8) (by rw[dg_w8 _ rfl];rfl) (by omega) fun st2 hb2=>?_⟩
  have hd:i64.wrap ((m:Int).tdiv 10)=((m/10:Nat):Int):=by rw[Int.tdiv_eq_ediv_of_nonneg (by omega),Ai _ (by omega) (by omega)];omega
  rw[hd,Ai _ (by omega) (by omega)]
  refine⟨⟨rfl,i,m/10,(48+m%10).toUInt8::t,rfl,rfl,by omega,by rw[List.length_cons];omega,by rw[he,Bw,List.append_assoc];rfl,?_⟩,by dsimp only;omega⟩
  have:(List.replicate (i+1) (0:UInt8)++t).set i (48+m%10).toUInt8=List.replicate i 0++(48+m%10).toUInt8::t:=by
   rw[List.replicate_succ',List.append_assoc,List.set_append_right _ _ (by simp),List.length_replicate,Nat.sub_self];rfl
  rw[<-this];exact hb2
 ·have:j=0:=by omega
  subst this
  rw[List.replicate_zero,List.nil_append]at hb
  rw[Bw,List.nil_append]at he
  rw[<-he]at hb
  exact hb.str (hk _ hb.ext)
theorem U7 {n:Nat} (hn:n<=3652058) {st:St} {K:B8->St->Prop} (hk:∀st',Am st st'->K (J5 n) st'):CallT PR By [.int .i64 (n:Int)] [.one .str] st K:=by
 refine Kt _ st K (date_ok hn fun y m d hd=>?_)
 have he:=XV hd
 obtain⟨a1,a2,a3,a4,a5,a6,a7⟩:=hd
 have hm:=Lw y m
 have l4:=Bv 4 y
 have l2:=Bv 2 m
 have l3:=Bv 2 d
 refine CA (w:=4) (by omega) (by omega) fun st1 e1=>⟨by rw[l4];show 4+1<=_;omega,CA (w:=2) (by omega) (by omega) fun st2 e2=>⟨by rw[List.length_append,l4,l2];show 4+1+2<=_;omega,by rw[List.length_append,List.length_append,l4,l2];show 4+1+2+1<=_;omega,CA (w:=2) (by omega) (by omega) fun st3 e3=>⟨by simp only[List.length_append,l4,l2,l3];show 4+1+2+1+2<=_;omega,?_⟩⟩⟩
 have:=hk st3 ((e1.trans e2).trans e3)
 rw[he,List.append_cons,List.append_cons,List.append_assoc (Bw 4 y++[45]),<-List.append_assoc,<-List.append_assoc]at this
 exact this
theorem Wk {f:B8} (h:f≠ []):f=f.take (f.length-1)++[f.getD (f.length-1) 0]:=by
 have hp:=List.length_pos_iff.2 h
 have:=EV f (f.length-1) 0 (by omega)
 rw[show f.length-1+1=f.length by omega,List.take_length]at this
 exact this
theorem S9 {n:Nat} (hn:n<=86399999999999) {st:St} {K:B8->St->Prop} (hk:∀st',Am st st'->K (JB n) st'):CallT PR Bq [.int .i64 (n:Int)] [.one .str] st K:=by
 refine J4 _ st K ?_
 have e1:i64.wrap ((n:Int).tdiv 1000000000)=((n/1000000000:Nat):Int):=by rw[Int.tdiv_eq_ediv_of_nonneg (by omega),Ai _ (by omega) (by omega)];omega
 have e2:i64.wrap (((n/1000000000:Nat):Int).tdiv 3600)=((n/1000000000/3600:Nat):Int):=by rw[Int.tdiv_eq_ediv_of_nonneg (by omega),Ai _ (by omega) (by omega)];omega
 have e3:(i64.wrap (((n/1000000000:Nat):Int).tdiv 60)).tmod 60=((n/1000000000/60%60:Nat):Int):=by
  rw[Int.tdiv_eq_ediv_of_nonneg (by omega),Ai _ (by omega) (by omega),Int.tmod_eq_emod_of_nonneg (by omega)];omega
 have e4:((n/1000000000:Nat):Int).tmod 60=((n/1000000000%60:Nat):Int):=by rw[Int.tmod_eq_emod_of_nonneg (by omega)];omega
 have e5:(n:Int).tmod 1000000000=((n%1000000000:Nat):Int):=by rw[Int.tmod_eq_emod_of_nonneg (by omega)];omega
 rw[e1,e2,e3,e4,e5]
 have l1:=Bv 2 (n/1000000000/3600)
 have l2:=Bv 2 (n/1000000000/60%60)
 have l3:=Bv 2 (n/1000000000%60)
 refine CA (w:=2) (by omega) (by omega) fun st1 x1=>⟨by rw[l1];show 2+1<=_;omega,CA (w:=2) (by omega) (by omega) fun st2 x2=>⟨by rw[List.length_append,l1,l2];show 2+1+2<=_;omega,by rw[List.length_append,List.length_append,l1,l2];show 2+1+2+1<=_;omega,CA (w:=2) (by omega) (by omega) fun st3 x3=>⟨by simp only[List.length_append,l1,l2,l3];show 2+1+2+1+2<=_;omega,?_⟩⟩⟩
 have e0:=(x1.trans x2).trans x3
 have hpre:∀(f:B8),Bw 2 (n/1000000000/3600)++58::(Bw 2 (n/1000000000/60%60)++58::(Bw 2 (n/1000000000%60)++f))=((((Bw 2 (n/1000000000/3600)++[58])++Bw 2 (n/1000000000/60%60))++[58])++Bw 2 (n/1000000000%60))++f:=fun f=>by
  simp only[List.append_assoc,List.cons_append,List.nil_append]
 unfold JB at hk
 rw[hpre]at hk
 generalize hP:((((Bw 2 (n/1000000000/3600)++[58])++Bw 2 (n/1000000000/60%60))++[58])++Bw 2 (n/1000000000%60))=P at hk
 have hPl:P.length=8:=by rw[<-hP];simp only[List.length_append,l1,l2,l3];rfl
 have hP2:((((Bw 2 (n/1000000000/3600)++DP)++Bw 2 (n/1000000000/60%60))++DP)++Bw 2 (n/1000000000%60))=P:=hP
 rw[hP2]
 refine Aa (fun g=>?_) fun g=>?_
 ·have:=hk st3 e0
  rw[if_pos (by omega),List.append_nil]at this
  exact this
 ·rw[if_neg (by omega)]at hk
  have hr0:n%1000000000≠0:=by omega
  have hcne:=XW (n:=n%1000000000) (by omega) hr0
  refine CA (w:=9) (by omega) (by omega) fun st4 x4=>⟨fun f s st'=>P=s/\st4=st'/\Iv f=Iv (Bw 9 (n%1000000000))/\f.length<=9,fun f _ _=>f.length,⟨rfl,rfl,rfl,by rw[Bv];omega⟩,?_⟩
  rintro f _ _ ⟨rfl,rfl,hf,hfl⟩
  have hfne:f≠ []:=fun e=>by
   rw[e]at hf
   exact hcne (hf.symm.trans rfl)
  have hp:=List.length_pos_iff.2 hfne
  rw[Ai _ (by omega) (by omega),show Int.toNat ((f.length:Int)-1)=f.length-1 by omega]
  have hsp:=Wk hfne
  have hsn:=RN (f.take (f.length-1)) (f.getD (f.length-1) 0)
  rw[<-hsp]at hsn
  refine⟨⟨by omega,by omega⟩,Aa (fun g2=>⟨⟨by omega,by omega⟩,⟨rfl,rfl,?_,by rw[List.length_take];omega⟩,by dsimp only;rw[List.length_take];omega⟩) fun g2=>⟨by rw[hPl];show 8+1<=_;omega,by rw[List.length_append,hPl];show 8+1+_<=_;omega,?_⟩⟩
  ·rw[if_pos (UInt8.toNat_inj.1 (by show _=48;omega))]at hsn
   rw[<-hsn];exact hf
  ·rw[if_neg (fun e=>g2 (by rw[e];rfl))]at hsn
   have:=hk st4 (e0.trans x4)
   rw[<-hf,hsn,List.append_cons]at this
   exact this
theorem Qx {z:Int} (h1: -1439<=z) (h2:z<=1439) {st:St} {K:B8->St->Prop} (hk:∀st',Am st st'->K (Ic z) st'):CallT PR Dw [.int .i64 z] [.one .str] st K:=by
 unfold Ic at hk
 refine IY _ st K (Aa (fun g=>?_) fun g=>?_)
 ·have:=hk st (Am.refl _)
  rw[if_pos g]at this;exact this
 ·rw[if_neg g]at hk
  have l1:=Bv 2 (z.natAbs/60)
  have l2:=Bv 2 (z.natAbs%60)
  refine Aa (fun g2=>?_) fun g2=>?_
  ·rw[if_pos g2]at hk
   have e1:i64.wrap ((i64.wrap (0-z)).tdiv 60)=((z.natAbs/60:Nat):Int):=by rw[Ai (0-z) (by omega) (by omega),Int.tdiv_eq_ediv_of_nonneg (by omega),Ai _ (by omega) (by omega)];omega
   have e2:(i64.wrap (0-z)).tmod 60=((z.natAbs%60:Nat):Int):=by rw[Ai (0-z) (by omega) (by omega),Int.tmod_eq_emod_of_nonneg (by omega)];omega
   rw[e1,e2]
   refine CA (w:=2) (by omega) (by omega) fun st1 x1=>⟨by rw[l1];show 1+2<=_;omega,by rw[List.length_append,l1];show 1+2+1<=_;omega,CA (w:=2) (by omega) (by omega) fun st2 x2=>⟨by simp only[List.length_append,l1,l2];show 1+2+1+2<=_;omega,?_⟩⟩
   have:=hk st2 (x1.trans x2)
   rw[<-List.cons_append,List.append_cons]at this
   exact this
  ·rw[if_neg g2]at hk
   have e1:i64.wrap (z.tdiv 60)=((z.natAbs/60:Nat):Int):=by rw[Int.tdiv_eq_ediv_of_nonneg (by omega),Ai _ (by omega) (by omega)];omega
   have e2:z.tmod 60=((z.natAbs%60:Nat):Int):=by rw[Int.tmod_eq_emod_of_nonneg (by omega)];omega
   rw[e1,e2]
   refine CA (w:=2) (by omega) (by omega) fun st1 x1=>⟨by rw[l1];show 1+2<=_;omega,by rw[List.length_append,l1];show 1+2+1<=_;omega,CA (w:=2) (by omega) (by omega) fun st2 x2=>⟨by simp only[List.length_append,l1,l2];show 1+2+1+2<=_;omega,?_⟩⟩
   have:=hk st2 (x1.trans x2)
   rw[<-List.cons_append,List.append_cons]at this
   exact this
def b64A:B8:=[65,66,67,68,69,70,71,72,73,74,75,76,77,78,79,80,81,82,83,84,85,86,87,88,89,90,97,98,99,100,101,102,103,104,105,106,107,108,109,110,111,112,113,114,115,116,117,118,119,120,121,122,48,49,50,51,52,53,54,55,56,57,43,47]
def fnd:B8->UInt8->Int
 | [],_=> -1
 | a::al,c=>if a=c then 0 else if fnd al c<0 then-1 else fnd al c+1
theorem UD {b:Nat} {st:St} {K:TV->St->Prop} (hk:K (.box b 0) st):CallT PR FF [.box b 0] [.one (.tv)] st K:=by
 refine Lc fun g w vargs s hr=>?_
 obtain⟨v,rfl,hv⟩:=Uo hr
 refine⟨v,w,?_,.box b 0,st,g,hk,s,hv,Ext.refl _ _⟩
 show(callFunc 300 #[v]).run Tryz.prog w=_
 rw[run_callFunc_extern Tryz.func300 (by kernel_rfl) (by kernel_rfl) (by kernel_rfl) (e:=Extern.AbiNoEscape.same) (by kernel_rfl)]
 rfl
def Bld (st0:St) (b:Nat) (st:St) (buf:B8):Prop:=
 Am st0 st/\st0.nb<=b/\b<st.nb/\st.bt b=some tyBld/\∃p v,st.box b= .cells [p,v]/\(p= .nilPtr∨p= .box b 0)/\
  ((v= .nilSlice/\buf=[])∨∃id,v= .list 1 (.own id) buf.length (AC buf)/\buf≠ []/\st0.nt<=id/\id<st.nt/\st.live id=true/\st.ty id=some 5)
theorem Bld.new {st0 st:St} (e:Am st0 st):Bld st0 st.nb (st.push (.cells [.nilPtr,.nilSlice]) (some tyBld)) []:=
 ⟨e.push _ _,e.nb,by simp[St.push],by simp[St.push],.nilPtr,.nilSlice,Fq _ _ _,.inl rfl,.inl ⟨rfl,rfl⟩⟩
theorem Bld.ext {st0 st:St} {b:Nat} {buf:B8} (h:Bld st0 b st buf):Am st0 st:=h.1
theorem Bld.keep {st0 st st':St} {b:Nat} {buf:B8} (h:Bld st0 b st buf) (e:Am st st'):Bld st0 b st' buf:=by
 obtain⟨h0,h1,h2,h3,p,v,hb,hp,hv⟩:=h
 refine⟨h0.trans e,h1,Nat.lt_of_lt_of_le h2 e.nb,(e.bt b h2).trans h3,p,v,(e.box b h2).trans hb,hp,?_⟩
 rcases hv with hv | ⟨id,rfl,n1,n2,n3,n4,n5⟩
 ·exact .inl hv
 ·exact .inr ⟨id,rfl,n1,n2,Nat.lt_of_lt_of_le n3 e.nt,(e.live id n3).trans n4,(e.ty id n3).trans n5⟩
theorem LN {st0 st:St} {b:Nat} {buf:B8} {K:St->Prop} (h:Bld st0 b st buf) (hk:∀st',Bld st0 b st' buf->StX (·=b) st st'->K st'):CallT PR A0 [.box b 0] [] st K:=by
 have h0:=h
 obtain⟨e,h1,h2,h3,p,v,hb,hp,hv⟩:=h
 refine CS b st K (Ac (x:=p) (by simp[Ad,hb]) (Ab (by rcases hp with rfl | rfl<;>rfl) ?_))
 rcases hp with rfl | rfl
 ·refine(show BIf true _ _ from⟨by simp[Ad,hb],UD ?_⟩)
  refine⟨⟨rfl,h3,_,hb,rfl⟩,Ab rfl ⟨_,hb,by simp,hk _ ?_ (StX.put (S:=(·=b)) rfl _)⟩⟩
  exact⟨e.put h1 _,h1,h2,h3,.box b 0,v,Cs _ _ _,.inr rfl,hv⟩
 ·exact(show BIf false _ _ from Ac (x:= .box b 0) (by simp[Ad,hb]) ⟨rfl,hk st h0 (StX.refl _ _)⟩)
theorem MR {st0 st:St} {b:Nat} {buf s:B8} {xs:List TV} {n:Nat} (hn:n=s.length) (hxs:xs=AC s) (h:Bld st0 b st buf) (hl:buf.length+s.length<=140737488355328) {K:St->Prop} (hk:∀st',Bld st0 b st' (buf++s)->(∀i,i≠b->i<st.nb->st'.box i=st.box i)->st.nb<=st'.nb->K st'):
  ∃v1,Ad st [] (.t (.box b 1)) 0=some v1/\BH 5 1 1 v1 n xs st fun (v2:TV) (st2:St)=>need (List.all [v2] As) (stB st2 (.box b 1) [v2] fun st3=>K st3):=by
 subst hn hxs
 obtain⟨e,a1,a2,a3,p,v,hb,hp,hv⟩:=h
 refine⟨v,by simp[Ad,hb],?_⟩
 rcases hv with⟨rfl,rfl⟩ | ⟨id,rfl,n1,n2,n3,n4,n5⟩
 ·cases s with
  | nil=>
   simp only[BH,List.length_nil,AC,List.map_nil]
   exact Ab rfl ⟨_,hb,by simp,hk _ ⟨e.put a1 _,a1,a2,a3,p,.nilSlice,Cs _ _ _,hp,.inl ⟨rfl,rfl⟩⟩ (fun i hi _=>by simp only[St.put];rw[if_neg hi]) (Nat.le_refl _)⟩
  | cons c r=>
   simp only[BH,List.length_cons,Nat.mul_one]
   refine Ab (by simp only[List.length_nil,List.length_cons]at hl;simp;omega) (Ab rfl ⟨_,hb,by simp,hk _ ?_ (fun i hi _=>by simp only[St.put];rw[if_neg hi];rfl) (by simp[St.put,St.fresh])⟩)
   exact⟨(e.fresh _).put a1 _,a1,a2,a3,p,_,Cs _ _ _,hp,.inr ⟨st.nt,rfl,by simp,e.nt,by simp[St.put,St.fresh],by simp[St.put,St.fresh],by simp[St.put,St.fresh]⟩⟩
 ·simp only[BH,Nat.beq_refl,Nat.mul_one]
  refine⟨hl,n4,Ab rfl ⟨_,hb,by simp,hk _ ?_ (fun i hi _=>by simp only[St.put];rw[if_neg hi];rfl) (by simp[St.put,St.fresh,St.retire])⟩⟩
  refine⟨((e.retire n2).fresh _).put a1 _,a1,a2,a3,p,_,Cs _ _ _,hp,.inr ⟨st.nt,?_,by simp[n1],e.nt,by simp[St.put,St.fresh,St.retire],by simp[St.put,St.fresh,St.retire],by simp[St.put,St.fresh,St.retire,n5,I8]⟩⟩
  rw[List.length_append,<-Fe]
def But (b:Nat) (a c:St):Prop:=a.nb<=c.nb/\∀i,i≠b->i<a.nb->c.box i=a.box i
theorem But.trans {b:Nat} {x y z:St} (h:But b x y) (k:But b y z):But b x z:=⟨Nat.le_trans h.1 k.1,fun i hi hl=>(k.2 i hi (Nat.lt_of_lt_of_le hl h.1)).trans (h.2 i hi hl)⟩
theorem But.of {b:Nat} {x y:St} (e:Am x y):But b x y:=⟨e.nb,fun i _ hl=>e.box i hl⟩
theorem But.ofX {b:Nat} {x y:St} (e:StX (·=b) x y):But b x y:=⟨e.nb,fun i hi hl=>e.box i hl hi⟩
theorem F6 {st0 st:St} {b:Nat} {buf s:B8} {K:Int->TV->St->Prop} (h:Bld st0 b st buf) (hl:buf.length+s.length<=1000000000) (hk:∀st',Bld st0 b st' (buf++s)->But b st st'->K (s.length:Int) .nilIface st'):
  CallT PR Ax [.box b 0,.str s] [.one (.int .i64),.one (.tv)] st K:=by
 refine Ct b s st K (LN h fun st1 h1 e1=>?_)
 obtain⟨v1,hv1,hA⟩:=MR (n:=s.length) (xs:=AC s) rfl rfl h1 (by omega) (K:=fun st3=>K (s.length:Int) .nilIface st3) fun st' hb hx hn=>hk st' hb ((But.ofX e1).trans ⟨hn,hx⟩)
 exact Ac hv1 (Ac (Xm st1 s) (Ab (Ze s) hA))
theorem KV {st0 st:St} {b:Nat} {buf:B8} {c:Int} (x:UInt8) {K:TV->St->Prop} (hc:c=x.toNat) (h:Bld st0 b st buf) (hl:buf.length+1<=1000000000) (hk:∀st',Bld st0 b st' (buf++[x])->But b st st'->K .nilIface st'):
  CallT PR AJ [.box b 0,.int .u8 c] [.one (.tv)] st K:=by
 refine CT b c st K (LN h fun st1 h1 e1=>?_)
 obtain⟨v1,hv1,hA⟩:=MR (n:=1) (xs:=[.int .u8 c]) (s:=[x]) rfl (by rw[hc];rfl) h1 (by rw[List.length_singleton];omega) (K:=fun st3=>K .nilIface st3) fun st' hb hx hn=>hk st' hb ((But.ofX e1).trans ⟨hn,hx⟩)
 exact Ac hv1 hA
theorem MQ {st0 st:St} {b:Nat} {buf:B8} {K:B8->St->Prop} (h:Bld st0 b st buf) (hl:buf.length<=140737488355328) (hk:∀st',Am st0 st'->K buf st'):
  CallT PR AY [.box b 0] [.one (.str)] st K:=by
 obtain⟨e,h1,h2,h3,p,v,hb,hp,hv⟩:=h
 have hld:Ad st [] (.t (.box b 1)) 0=some v:=by simp[Ad,hb]
 rcases hv with⟨rfl,rfl⟩ | ⟨id,rfl,n1,n2,n3,n4,n5⟩
 ·refine Bu b st K (Ac hld (Ac (x:= .nilPtr) rfl (Ac hld (Ab rfl ?_))))
  exact⟨rfl,hk st e⟩
 ·refine Bu b st K (Ac hld (Ac (x:= .sptr (.list 1 (.own id) buf.length (AC buf))) ?_ (Ac hld (Ab rfl ?_))))
  case refine_2=>exact⟨⟨rfl,by omega,n4,n5⟩,Ac (DF buf) (hk _ (e.retire n2))⟩
  simp only[Mk]
  cases hz:buf.length.beq 0 with
  | true=>exact absurd (List.eq_nil_of_length_eq_zero (Nat.eq_of_beq_eq_true hz)) n1
  | false=>rfl
theorem OB (k td tn tz:Int):(Ja k td tn tz).length<=40:=by
 have h1:∀n,(J5 n).length=10:=fun n=>by unfold J5;simp only[List.length_append,List.length_cons,Bv]
 have h2:∀n,(JB n).length<=18:=fun n=>by
  unfold JB
  have:(if n%1000000000=0 then([]:B8)else 46::Iv (Bw 9 (n%1000000000))).length<=10:=by
   split
   ·simp
   ·have:=U9 (Bw 9 (n%1000000000))
    rw[Bv]at this
    rw[List.length_cons];omega
  simp only[List.length_append,List.length_cons,Bv];omega
 have h3:∀z,(Ic z).length<=6:=fun z=>by
  unfold Ic;split
  ·decide
  ·simp only[List.length_append,List.length_cons,Bv];omega
 unfold Ja
 have e1:=h1 td.toNat
 have e2:=h2 tn.toNat
 have e3:=h3 tz
 split
 ·omega
 split
 ·omega
 split
 ·rw[List.length_append,List.length_cons];omega
 ·rw[List.length_append,List.length_cons,List.length_append];omega
theorem mText_ok {k d n z:Int} (h:DW k d n z) {st:St} {K:B8->St->Prop} (hk:∀st',Am st st'->K (Ja k d n z) st'):CallT PR EG [.agg [.int .i64 k,.int .i64 d,.int .i64 n,.int .i64 z]] [.one .str] st K:=by
 have h0:=h
 obtain⟨a1,a2,a3,a4,a5,a6,a7,a8,a9,a10,a11⟩:=h
 have ed:d=((d.toNat:Nat):Int):=by omega
 have en:n=((n.toNat:Nat):Int):=by omega
 have l1:∀m,(J5 m).length=10:=fun n=>by unfold J5;simp only[List.length_append,List.length_cons,Bv]
 unfold Ja at hk
 have hdt:∀{st:St} {K:B8->St->Prop},(∀st',Am st st'->K (J5 d.toNat) st')->CallT PR By [.int .i64 d] [.one .str] st K:=fun {st K} hk=>by
  rw[ed];exact U7 (by omega) hk
 have hct:∀{st:St} {K:B8->St->Prop},(∀st',Am st st'->K (JB n.toNat) st')->CallT PR Bq [.int .i64 n] [.one .str] st K:=fun {st K} hk=>by
  rw[en];exact S9 (by omega) hk
 have l2:(JB n.toNat).length<=40:=by have:=OB 2 d n z;unfold Ja at this;rw[if_neg (by omega),if_pos rfl]at this;exact this
 have l3:(Ic z).length<=40:=by have:=OB 4 d n z;unfold Ja at this;rw[if_neg (by omega),if_neg (by omega),if_neg (by omega),List.length_append,List.length_cons,List.length_append]at this;omega
 have l1':=l1 d.toNat
 refine Oe _ _ _ _ st K (Lb ?_)
 rw[decide_eq_true h0]
 refine Aa (p:=False) (fun h=>h.elim) fun _=>Aa (fun g=>?_) fun g1=>Aa (fun g=>?_) fun g2=>Aa (fun g=>?_) fun g3=>?_
 ·rw[if_pos g]at hk;exact hdt hk
 ·rw[if_neg g1,if_pos g]at hk;exact hct hk
 ·rw[if_neg g1,if_neg g2,if_pos g]at hk
  refine hdt fun st1 e1=>⟨by rw[l1'];show 10+1<=_;omega,hct fun st2 e2=>⟨by rw[List.length_append,l1'];show 10+1+_<=_;omega,?_⟩⟩
  have:=hk st2 (e1.trans e2)
  rw[List.append_cons]at this
  exact this
 ·rw[if_neg g1,if_neg g2,if_neg g3]at hk
  refine hdt fun st1 e1=>⟨by rw[l1'];show 10+1<=_;omega,hct fun st2 e2=>⟨by rw[List.length_append,l1'];show 10+1+_<=_;omega,Qx a7 a8 fun st3 e3=>⟨by rw[List.length_append,List.length_append,l1'];show 10+1+_+_<=_;omega,?_⟩⟩⟩
  have:=hk st3 ((e1.trans e2).trans e3)
  rw[List.append_cons,<-List.append_assoc]at this
  exact this
theorem szl' (s:Sc):(Vl.mk s [] []).sz=1+s.bytes.length+s.text.length+s.dg.length:=by rw[szs];rfl
def tkT (s:B8):Sc:=⟨4,false,false,[],0,0,0,0,0,s,[]⟩
def tkB (b:Bool):Sc:=⟨1,b,false,[],0,0,0,0,0,[],[]⟩
def tkN (neg:Bool) (dg:B8) (ex:Int):Sc:=⟨2,false,neg,dg,ex,0,0,0,0,[],[]⟩
def tkM (k d n z:Int):Sc:=⟨3,false,false,[],0,k,d,n,z,[],[]⟩
theorem O1 {s:Sc} {l:List Vl} {f:List Fd} (hN:(Vl.mk s l f).sz<=2000000) (hkn:BT f) {st0 st:St} {ub ul uf:TV} {K:TV->St->Prop} (h:VlR st0 (.mk s l f) (Bo s ub ul uf)) (hke:BG st0 st)
  (hk:∀v st' xl,Am st st'->SlR st' 14 v (Ei f).length xl->FsR st' (Ei f) xl->K v st'):CallT PR CV [.agg (Bo s ub ul uf)] [.one .tv] st K:=by
 have hsz:=szs s l f
 have hfl:=EC f
 obtain⟨ub',ul',uf',xl,xf,hcs,h1,h2,h3,h4,h5⟩:=h.cells
 simp only[Bo,List.cons.injEq,and_true,true_and]at hcs
 obtain⟨rfl,rfl,rfl⟩:=hcs
 obtain⟨cks,rfl,hall⟩:=(FsR.keep hke h5).chunks
 refine VL (α:=Fd) (g:=id) (R:=FdR st) (fun a c hr=>hr) hall (s:=s) (f:=f) (by simp) rfl (h4.keep hke) (by omega) fun v st' la' cks' bs hp hs e ho hR hnd hlo=>?_
 rw[List.map_id]at hs
 have hE:la'=Ei f:=QY hkn hp hs
 subst hE
 exact hk v st' _ e ho.rd (FsR.keep e.keeps (FsR.of_chunks hR))
theorem Ua {f:List Fd} {d:Fd} (h:d∈Ei f):d∈f:=(En f).mem_iff.1 h
theorem FdR.val {st:St} {d:Fd} {cs:List TV} (h:FdR st d cs):∃c,cs= .str d.key::c/\VlR st d.val c:=by
 cases d;unfold FdR at h;exact h
theorem Zf {a b:B8} {u v:TV} {st:St} {K:Bool->St->Prop} (ha:SlR st 1 u a.length (AC a)) (hb:SlR st 1 v b.length (AC b)) (hl:a.length<=2000000) (hm:b.length<=2000000) (hk:∀r,(r=true↔a=b)->K r st):
  CallT PR BR [u,v] [.one .bool] st K:=by
 have no:a≠b->K false st:=fun hne=>hk false ⟨fun h=>(by cases h),fun h=>absurd h hne⟩
 refine Fx _ _ st K (Ab ha.isSl (Ab hb.isSl ?_))
 rw[ha.lenS,hb.lenS]
 refine Aa (fun e=>no fun h=>e (by rw[h])) fun e=>Ab ha.isSl ⟨fun i u1 v1 n st'=>u=u1/\v=v1/\n=(a.length:Int)/\st=st'/\∃k:Nat,i=k/\k<=a.length/\a.take k=b.take k,fun i _ _ _ _=>(a.length-i).toNat,
  ⟨rfl,rfl,rfl,rfl,0,rfl,Nat.zero_le _,rfl⟩,?_⟩
 have el:a.length=b.length:=by omega
 rintro _ _ _ _ _ ⟨rfl,rfl,rfl,rfl,k,rfl,hka,hE⟩
 refine Aa (fun g=>?_) fun g=>?_
 ·rw[ha.lenZ,hb.lenZ,Int.toNat_natCast]
  refine⟨⟨by omega,by omega⟩,Ac (ha.ldb (by omega)) (AA ⟨⟨by omega,by omega⟩,Ac (hb.ldb (by omega)) (AA (Aa (fun g3=>no fun h=>?_) fun g3=>?_))⟩)⟩
  ·subst h;exact g3 rfl
  ·rw[Ai _ (by omega) (by omega)]
   refine⟨⟨rfl,rfl,rfl,rfl,k+1,by omega,by omega,?_⟩,by dsimp only;omega⟩
   refine H3 hE (List.getElem?_eq_getElem (by omega)) (List.getElem?_eq_getElem (by omega)) ?_
   have:=Decidable.not_not.1 g3
   exact UInt8.toNat.inj (by omega)
 ·have hkk:k=a.length:=by omega
  rw[hkk,List.take_length,el,List.take_length]at hE
  exact hk true ⟨fun _=>hE,fun _=>rfl⟩
theorem YZ {γ:Type} {g:Vl->γ} {st0 st:St} {u v one:TV} {l m:List Vl} {xl xm:List TV} (hke:BG st0 st) (hu:SlR st0 13 u l.length xl) (hl:VsR st0 l xl) (hv:SlR st0 13 v m.length xm) (hm:VsR st0 m xm)
  (hll:l.length<=2000000) (hlm:m.length<=2000000) (hone:∀(a b:Vl) (ca cb:List TV) (st1:St) (K1:Bool->St->Prop),a∈l->b∈m->VlR st0 a ca->VlR st0 b cb->Am st st1->(∀r st2,Am st1 st2->(r=true↔g a=g b)->K1 r st2)->GP PR one [.agg ca,.agg cb] [.one .bool] st1 K1)
  {K:Bool->St->Prop} (hk:∀r st',Am st st'->(r=true↔l.map g=m.map g)->K r st'):CallT PR Av [u,v,one] [.one .bool] st K:=by
 have no:∀st',Am st st'->l.map g≠m.map g->K false st':=fun st' e hne=>hk false st' e ⟨fun h=>(by cases h),fun h=>absurd h hne⟩
 refine Bi _ _ _ st K (Ab hu.isSl (Ab hv.isSl ?_))
 rw[hu.lenS,hv.lenS]
 refine Aa (fun e=>no st (Am.refl _) fun h=>e (by have:=congrArg List.length h;simp only[List.length_map]at this;rw[this])) fun e=>Ab hu.isSl ⟨fun i v1 o1 u1 n st'=>v=v1/\one=o1/\u=u1/\n=(l.length:Int)/\∃k:Nat,i=k/\k<=l.length/\Am st st'/\(l.map g).take k=(m.map g).take k,fun i _ _ _ _ _=>(l.length-i).toNat,
  ⟨rfl,rfl,rfl,rfl,0,rfl,Nat.zero_le _,Am.refl _,rfl⟩,?_⟩
 have el:l.length=m.length:=by omega
 rintro _ _ _ _ _ st1 ⟨rfl,rfl,rfl,rfl,k,rfl,hkl,e1,hE⟩
 have hke1:=hke.trans e1.keeps
 refine Aa (fun q=>?_) fun q=>?_
 ·refine QG hke1 hu hl rfl (by omega) fun s1 l1 f1 ub1 ul1 uf1 gw hw on=>Ab on (QG hke1 hv hm rfl (by omega) fun s2 l2 f2 ub2 ul2 uf2 gw2 hw2 on2=>Ab on2 ?_)
  refine hone _ _ _ _ st1 _ (Bl gw) (Bl gw2) hw hw2 e1 fun r st2 e2 hr=>Ap (fun hb=>no st2 (e1.trans e2) fun h=>?_) fun hb=>?_
  ·have h1:=congrArg (fun z=>z[k]?) h
   simp only[List.getElem?_map,gw,gw2,Option.map_some,Option.some.injEq]at h1
   rw[hr.2 h1]at hb;cases hb
  ·rw[Ai _ (by omega) (by omega)]
   refine⟨⟨rfl,rfl,rfl,rfl,k+1,by omega,by omega,e1.trans e2,?_⟩,by dsimp only;omega⟩
   exact H3 hE (by rw[List.getElem?_map,gw];rfl) (by rw[List.getElem?_map,gw2];rfl) (hr.1 (by simpa using hb))
 ·refine hk true st1 e1 ⟨fun _=>?_,fun _=>rfl⟩
  have:k=l.length:=by omega
  rw[List.take_of_length_le (by simp;omega),List.take_of_length_le (by simp;omega)]at hE
  exact hE
theorem Y0 {γ:Type} {g:Fd->γ} {st0 st:St} {u v one:TV} {l m:List Fd} {xl xm:List TV} (hke:BG st0 st) (hu:SlR st0 14 u l.length xl) (hl:FsR st0 l xl) (hv:SlR st0 14 v m.length xm) (hm:FsR st0 m xm)
  (hll:l.length<=2000000) (hlm:m.length<=2000000) (hone:∀(a b:Fd) (ca cb:List TV) (st1:St) (K1:Bool->St->Prop),a∈l->b∈m->FdR st0 a ca->FdR st0 b cb->Am st st1->(∀r st2,Am st1 st2->(r=true↔g a=g b)->K1 r st2)->GP PR one [.agg ca,.agg cb] [.one .bool] st1 K1)
  {K:Bool->St->Prop} (hk:∀r st',Am st st'->(r=true↔l.map g=m.map g)->K r st'):CallT PR Aw [u,v,one] [.one .bool] st K:=by
 have no:∀st',Am st st'->l.map g≠m.map g->K false st':=fun st' e hne=>hk false st' e ⟨fun h=>(by cases h),fun h=>absurd h hne⟩
 refine Bj _ _ _ st K (Ab hu.isSl (Ab hv.isSl ?_))
 rw[hu.lenS,hv.lenS]
 refine Aa (fun e=>no st (Am.refl _) fun h=>e (by have:=congrArg List.length h;simp only[List.length_map]at this;rw[this])) fun e=>Ab hu.isSl ⟨fun i v1 o1 u1 n st'=>v=v1/\one=o1/\u=u1/\n=(l.length:Int)/\∃k:Nat,i=k/\k<=l.length/\Am st st'/\(l.map g).take k=(m.map g).take k,fun i _ _ _ _ _=>(l.length-i).toNat,
  ⟨rfl,rfl,rfl,rfl,0,rfl,Nat.zero_le _,Am.refl _,rfl⟩,?_⟩
 have el:l.length=m.length:=by omega
 rintro _ _ _ _ _ st1 ⟨rfl,rfl,rfl,rfl,k,rfl,hkl,e1,hE⟩
 have hke1:=hke.trans e1.keeps
 refine Aa (fun q=>?_) fun q=>?_
 ·refine U0 hke1 hu hl rfl (by omega) fun k1 s1 l1 f1 ub1 ul1 uf1 gw hw on=>Ab on (U0 hke1 hv hm rfl (by omega) fun k2 s2 l2 f2 ub2 ul2 uf2 gw2 hw2 on2=>Ab on2 ?_)
  refine hone _ _ _ _ st1 _ (Bl gw) (Bl gw2) (by unfold FdR;exact⟨_,rfl,hw⟩) (by unfold FdR;exact⟨_,rfl,hw2⟩) e1 fun r st2 e2 hr=>Ap (fun hb=>no st2 (e1.trans e2) fun h=>?_) fun hb=>?_
  ·have h1:=congrArg (fun z=>z[k]?) h
   simp only[List.getElem?_map,gw,gw2,Option.map_some,Option.some.injEq]at h1
   rw[hr.2 h1]at hb;cases hb
  ·rw[Ai _ (by omega) (by omega)]
   refine⟨⟨rfl,rfl,rfl,rfl,k+1,by omega,by omega,e1.trans e2,?_⟩,by dsimp only;omega⟩
   exact H3 hE (by rw[List.getElem?_map,gw];rfl) (by rw[List.getElem?_map,gw2];rfl) (hr.1 (by simpa using hb))
 ·refine hk true st1 e1 ⟨fun _=>?_,fun _=>rfl⟩
  have:k=l.length:=by omega
  rw[List.take_of_length_le (by simp;omega),List.take_of_length_le (by simp;omega)]at hE
  exact hE
def nrm (ex:Bool) (v:Vl):Vl:=if ex then v else DQ v
def Mu (ex:Bool):Fd->B8×Vl
 | .mk k v=>(k,nrm ex v)
def flds (ex:Bool) (f:List Fd):List Fd:=if ex then f else Ei f
theorem nrmD_id (f:List Fd):∀g:List Fd,f.map (Mu true)=g.map (Mu true)->f=g:=by
 induction f with
 | nil=>intro g h;cases g with | nil=>rfl | cons b g=>simp at h
 | cons a f ih=>
  intro g h
  cases g with
  | nil=>simp at h
  | cons b g=>
   simp only[List.map_cons,List.cons.injEq]at h
   rw[ih g h.2]
   cases a;cases b
   have:=h.1
   simp only[Mu,nrm,if_true,Prod.mk.injEq]at this
   rw[this.1,this.2]
theorem YN (f:List Fd):∀g:List Fd,f.map (Mu false)=g.map (Mu false)↔f.map Jg=g.map Jg:=by
 induction f with
 | nil=>intro g;cases g<;>simp
 | cons a f ih=>
  intro g
  cases g with
  | nil=>simp
  | cons b g=>
   simp only[List.map_cons,List.cons.injEq,ih g]
   cases a;cases b
   simp[Mu,nrm,Jg]
theorem nrm_mk (ex:Bool) (s t:Sc) (l m:List Vl) (f g:List Fd):nrm ex (.mk s l f)=nrm ex (.mk t m g)↔s=t/\l.map (nrm ex)=m.map (nrm ex)/\(flds ex f).map (Mu ex)=(flds ex g).map (Mu ex):=by
 cases ex
 ·have e1:nrm false=DQ:=funext fun v=>rfl
  rw[e1]
  unfold DQ
  rw[H6,H6,H7,H7,OK Mf,OK Mf]
  simp only[flds,Bool.false_eq_true,if_false,YN,Vl.mk.injEq]
 ·have e1:nrm true=id:=funext fun v=>rfl
  rw[e1]
  simp only[flds,if_true,List.map_id,id]
  constructor
  ·intro h;simp only[Vl.mk.injEq]at h;obtain⟨rfl,rfl,rfl⟩:=h;exact⟨rfl,rfl,rfl⟩
  ·rintro⟨rfl,rfl,h⟩;rw[nrmD_id _ _ h]
theorem stB_new {st:St} {o:J8} {T:Option Nat} {x y:TV} {k:St->Prop} (ho:o= .cells [x]) (hk:∀st',Am st st'->st'.box st.nb= .cells [y]->st.nb<st'.nb->k st'):stB (st.push o T) (.box st.nb 0) [y] k:=by
 subst ho
 refine⟨[x],by simp[St.push],by simp,?_⟩
 refine hk _ (((Am.refl st).push _ _).put (Nat.le_refl _) _) (by simp[St.put,setAll]) (by simp[St.put,St.push])
theorem Uv (ex:Bool):∀(N:Nat) (v w:Vl),v.sz<=N->w.sz<=2000000->N<=2000000->(ex=false->KNd v/\KNd w)->∀{st0 st:St} {cs ds:List TV} {L:Int} {K:Bool->St->Prop},VlR st0 v cs->VlR st0 w ds->BG st0 st->(v.cnt:Int)<=L->L<=100000000->
  (∀r st',Am st st'->(r=true↔nrm ex v=nrm ex w)->K r st')->CallT PR D5 [.agg cs,.agg ds,.bool ex,.int .i64 L] [.one .bool] st K:=by
 intro N
 induction N with
 | zero=>intro v w h;have:=v.sz_pos;omega
 | succ N ih=>
 intro v w hN hW hN2 hV st0 st cs ds L K h h' hke hL hL2 hk
 cases v with
 | mk s l f=>
 cases w with
 | mk t m g=>
 have hsz:=szs s l f
 have hll:=DY l
 have hfl:=EC f
 have hsz':=szs t m g
 have hll':=DY m
 have hfl':=EC g
 have hpos:=(Vl.mk s l f).cnt_pos
 have hcnt:(Vl.mk s l f).cnt=1+AX l+Bg f:=by unfold Vl.cnt;rfl
 have ha:=h
 have hb:=h'
 obtain⟨ub,ul,uf,xl,xf,rfl,h1,h2,h3,h4,h5⟩:=h.cells
 obtain⟨wb,wl,wf,yl,yf,rfl,k1,k2,k3,k4,k5⟩:=h'.cells
 rw[nrm_mk]at hk
 obtain⟨st1,hst1⟩:∃st1,st1=(st.push (.cells [.bool ex]) (some 4)).push (.cells [.int .i64 L]) (some 3):=⟨_,rfl⟩
 have e1:Am st st1:=hst1▸((Am.refl st).push _ _).push _ _
 have hb1:st1.box st.nb= .cells [.bool ex]:=by rw[hst1];simp[St.push]
 have hb2:st1.box (st.nb+1)= .cells [.int .i64 L]:=by rw[hst1];simp[St.push]
 have hn1:st.nb+1<st1.nb:=by rw[hst1];simp[St.push]
 have hke1:=hke.trans e1.keeps
 have hldx:∀st',Am st1 st'->Ad st' [] (.t (.box st.nb 0)) 0=some (.bool ex):=fun st' e=>by simp[Ad,(e.box st.nb (by omega)).trans hb1]
 have hldl:∀st',Am st1 st'->Ad st' [] (.t (.box (st.nb+1) 0)) 0=some (.int .i64 L):=fun st' e=>by simp[Ad,(e.box (st.nb+1) hn1).trans hb2]
 have no:∀st',Am st1 st'->¬(s=t/\l.map (nrm ex)=m.map (nrm ex)/\(flds ex f).map (Mu ex)=(flds ex g).map (Mu ex))->K false st':=fun st' e hne=>hk false st' (e1.trans e) ⟨fun h=>(by cases h),fun h=>absurd h hne⟩
 refine Qb _ _ _ _ _ _ _ _ _ _ _ _ _ _ _ _ _ _ _ _ _ _ _ _ _ _ ex L st K ?_
 rw[show(st.push (.cells [.bool ex]) (some 4)).nb=st.nb+1 from rfl,<-hst1]
 have r1:=Am.refl st1
 refine Aa (fun e=>no st1 r1 fun h=>e (by rw[h.1])) fun q1=>Ap (fun e=>no st1 r1 fun h=>?_) fun q2=>Ap (fun e=>no st1 r1 fun h=>?_) fun q3=>Ap (fun e=>no st1 r1 fun h=>?_) fun q4=>Aa (fun e=>no st1 r1 fun h=>e (by rw[h.1])) fun q5=>?_
 ·rw[h.1]at e;simp at e
 ·rw[h.1]at e;simp at e
 ·rw[h.1]at e;simp at e
 refine Zf (h1.keep hke1) (k1.keep hke1) (by omega) (by omega) fun r hr=>Ap (fun e=>no st1 r1 fun h=>?_) fun q6=>?_
 ·rw[hr.2 (by rw[h.1])]at e;cases e
 have hst:s=t:=by
  simp only[Bool.not_eq_false',Bool.and_eq_true,beq_iff_eq,decide_eq_true_eq,and_true]at q2 q3 q4
  exact sc_eq (Decidable.not_not.1 q1) q2 q3.1 q3.2.1 q3.2.2 q4.1 q4.2.1 q4.2.2.1 q4.2.2.2 (Decidable.not_not.1 q5) (hr.1 (by simpa using q6))
 subst hst
 refine Ac (hldl st1 r1) (AA (Aa (fun g=>by omega) fun _=>Ac (hldx st1 r1) (Aq ?_)))
 --The closure and both comparisons,from fields that are as asked for.
 have rest:∀(st2:St) (v1 v2:TV) (x1 x2:List TV),Am st1 st2->SlR st2 14 v1 (flds ex f).length x1->FsR st2 (flds ex f) x1->SlR st2 14 v2 (flds ex g).length x2->FsR st2 (flds ex g) x2->
   stB (st2.push (.cells [.nilFunc]) (some 69)) (.box st2.nb 0) [.func Ce [.box st.nb 0,.box (st.nb+1) 0]] fun (st4:St)=>
    Ae (Ad st4 [] (.t (.box st2.nb 0)) 0) fun (v3:TV)=>CallT PR Av [ul,wl,v3] [.one (.bool)] st4 fun (b3:Bool) (st5:St)=>
     BIf b3 (CallT PR Aw [v1,v2,(.func Ec [(.box st2.nb 0)])] [.one (.bool)] st5 fun (b4:Bool) (st6:St)=>K (b4) st6) (K (false) st5):=by
  intro st2 v1 v2 x1 x2 e2 p1 p2 p3 p4
  refine stB_new (x:= .nilFunc) rfl fun st4 e4 hbx hnx=>?_
  have hldc:∀st',Am st4 st'->Ad st' [] (.t (.box st2.nb 0)) 0=some (.func Ce [.box st.nb 0,.box (st.nb+1) 0]):=fun st' e=>by simp[Ad,(e.box st2.nb hnx).trans hbx]
  have e14:=e2.trans e4
  have hke4:=hke1.trans e14.keeps
  --the closure
  have clo:∀(a b:Vl) (ca cb:List TV) (st5:St) (K1:Bool->St->Prop) (st0':St),a.sz<=N->b.sz<=2000000->(ex=false->KNd a/\KNd b)->(a.cnt:Int)<=L-1->VlR st0' a ca->VlR st0' b cb->BG st0' st5->Am st4 st5->(∀r st6,Am st5 st6->(r=true↔nrm ex a=nrm ex b)->K1 r st6)->
    CallT PR Ce ([.agg ca,.agg cb]++[.box st.nb 0,.box (st.nb+1) 0]) [.one .bool] st5 K1:=by
   intro a b ca cb st5 K1 st0' hz1 hz2 hkn hc hra hrb hk5 e5 hK1
   have hra0:=hra
   have hrb0:=hrb
   obtain⟨s1,l1,f1⟩:=a
   obtain⟨s2,l2,f2⟩:=b
   obtain⟨_,_,_,_,_,rfl,_⟩:=hra.cells
   obtain⟨_,_,_,_,_,rfl,_⟩:=hrb.cells
   refine Nu _ _ _ _ _ _ _ _ _ _ _ _ _ _ _ _ _ _ _ _ _ _ _ _ _ _ _ _ st5 K1 (Ac (hldx st5 (e14.trans e5)) (Aq (Ac (hldl st5 (e14.trans e5)) (AA ?_))))
   rw[Ai _ (by omega) (by omega)]
   exact ih _ _ hz1 hz2 (by omega) hkn hra0 hrb0 hk5 hc (by omega) hK1
  refine Ac (hldc st4 (Am.refl _)) (YZ (g:=nrm ex) hke4 h2 h3 k2 k3 (by omega) (by omega) (fun a b ca cb st5 K1 hma hmb hra hrb e5 hK1=>?_) fun r st5 e5 hr=>?_)
  ·have hsa:=Ff hma
   have hsb:=Ff hmb
   have hca:a.cnt<=AX l:=by
    obtain⟨i,hi⟩:=List.getElem?_of_mem hma
    exact QO hi
   refine clo a b ca cb st5 K1 st0 (by omega) (by omega) (fun e=>?_) (by omega) hra hrb (hke4.trans e5.keeps) e5 hK1
   have:=hV e
   unfold KNd at this
   exact⟨this.1.1.mem hma,this.2.1.mem hmb⟩
  ·refine Ap (fun hb=>?_) fun hb=>no st5 (e14.trans e5) fun h=>?_
   ·have e25:=e4.trans e5
    refine Y0 (g:=Mu ex) e25.keeps p1 p2 p3 p4 ?_ ?_ (fun a b ca cb st6 K1 hma hmb hra hrb e6 hK1=>?_) fun r2 st6 e6 hr2=>hk r2 st6 (((e1.trans e14).trans e5).trans e6) ⟨fun h=>⟨rfl,hr.1 hb,hr2.1 h⟩,fun h=>hr2.2 h.2.2⟩
    ·unfold flds;split
     ·omega
     ·have:=(En f).length_eq;omega
    ·unfold flds;split
     ·omega
     ·have:=(En g).length_eq;omega
    ·have hma':a∈f:=by
      unfold flds at hma;split at hma
      ·exact hma
      ·exact Ua hma
     have hmb':b∈g:=by
      unfold flds at hmb;split at hmb
      ·exact hmb
      ·exact Ua hmb
     have hsa:=Pu hma'
     have hsb:=Pu hmb'
     have hca:a.cnt<=Bg f:=by
      obtain⟨i,hi⟩:=List.getElem?_of_mem hma'
      exact RA hi
     obtain⟨ka,a⟩:=a
     obtain⟨kb,b⟩:=b
     have hz1:=szd ka a
     have hz2:=szd kb b
     have hc1:(Fd.mk ka a).cnt=a.cnt:=by unfold Fd.cnt;rfl
     obtain⟨ca',rfl,hra2⟩:=hra.val
     obtain⟨cb',rfl,hrb2⟩:=hrb.val
     have hra0:VlR st2 a ca':=hra2
     have hrb0:VlR st2 b cb':=hrb2
     have hcl:=clo a b ca' cb' st6 (fun r st7=>K1 r st7) st2 (by omega) (by omega) (fun e=>by
      have:=hV e
      unfold KNd at this
      have q1:=this.1.2.2.mem hma'
      have q2:=this.2.2.2.mem hmb'
      unfold KNdD at q1 q2
      exact⟨q1,q2⟩) (by omega) hra0 hrb0 (e25.trans e6).keeps (e5.trans e6)
     obtain⟨s1,l1,f1⟩:=a
     obtain⟨s2,l2,f2⟩:=b
     obtain⟨_,_,_,_,_,rfl,_⟩:=hra0.cells
     obtain⟨_,_,_,_,_,rfl,_⟩:=hrb0.cells
     refine Nt _ _ _ _ _ _ _ _ _ _ _ _ _ _ _ _ _ _ _ _ _ _ _ _ _ _ _ _ _ st6 K1 (Aa (fun ek=>Ac (hldc st6 (e5.trans e6)) (hcl fun r st7 e7 hr7=>hK1 r st7 e7 ?_)) fun ek=>hK1 false st6 (Am.refl _) ⟨fun h=>(by cases h),fun h=>?_⟩)
     ·simp only[Mu,Prod.mk.injEq]
      exact⟨fun h=>⟨ek,hr7.1 h⟩,fun h=>hr7.2 h.2⟩
     ·simp only[Mu,Prod.mk.injEq]at h
      exact absurd h.1 ek
   ·rw[hr.2 h.2.1]at hb;cases hb
 refine Ap (fun hex=>?_) fun hex=>?_
 ·have hex':ex=false:=by simpa using hex
  have hkn:=hV hex'
  unfold KNd at hkn
  have hfx:∀z,flds ex z=Ei z:=fun z=>by rw[hex'];rfl
  refine O1 (by omega) hkn.1.2.1 ha hke1 fun v1 st2 x1 e2 hs1 hr1=>?_
  refine O1 (by omega) hkn.2.2.1 hb (hke1.trans e2.keeps) fun v2 st3 x2 e3 hs2 hr2=>?_
  exact rest st3 v1 v2 x1 x2 (e2.trans e3) (by rw[hfx];exact hs1.keep e3.keeps) (by rw[hfx];exact FsR.keep e3.keeps hr1) (by rw[hfx];exact hs2) (by rw[hfx];exact hr2)
 ·have hex':ex=true:=by simpa using hex
  have hfx:∀z,flds ex z=z:=fun z=>by rw[hex'];rfl
  exact rest st1 uf wf xf yf r1 (by rw[hfx];exact h4.keep hke1) (by rw[hfx];exact FsR.keep hke1 h5) (by rw[hfx];exact k4.keep hke1) (by rw[hfx];exact FsR.keep hke1 k5)
theorem O4 {v w:Vl} (hN:v.sz<=2000000) (hW:w.sz<=2000000) (hC:v.cnt<=65536) {st0 st:St} {cs ds:List TV} {K:Bool->St->Prop} (h:VlR st0 v cs) (h':VlR st0 w ds) (hke:BG st0 st) (hk:∀r st',Am st st'->(r=true↔v=w)->K r st'):
  CallT PR D6 [.agg cs,.agg ds] [.one .bool] st K:=by
 have ha:=h
 have hb:=h'
 cases v;cases w
 obtain⟨_,_,_,_,_,rfl,_⟩:=h.cells
 obtain⟨_,_,_,_,_,rfl,_⟩:=h'.cells
 exact Qe _ _ _ _ _ _ _ _ _ _ _ _ _ _ _ _ _ _ _ _ _ _ _ _ _ _ st K (Uv true 2000000 _ _ hN hW (by omega) (fun h=>by cases h) ha hb hke (by omega) (by omega) hk)
theorem Ra {v w:Vl} (hN:v.sz<=2000000) (hW:w.sz<=2000000) (hC:v.cnt<=65536) (hV:KNd v) (hV2:KNd w) {st0 st:St} {cs ds:List TV} {K:Bool->St->Prop} (h:VlR st0 v cs) (h':VlR st0 w ds) (hke:BG st0 st) (hk:∀r st',Am st st'->(r=true↔DQ v=DQ w)->K r st'):
  CallT PR ED [.agg cs,.agg ds] [.one .bool] st K:=by
 have ha:=h
 have hb:=h'
 cases v;cases w
 obtain⟨_,_,_,_,_,rfl,_⟩:=h.cells
 obtain⟨_,_,_,_,_,rfl,_⟩:=h'.cells
 exact Oc _ _ _ _ _ _ _ _ _ _ _ _ _ _ _ _ _ _ _ _ _ _ _ _ _ _ st K (Uv false 2000000 _ _ hN hW (by omega) (fun h=>⟨hV,hV2⟩) ha hb hke (by omega) (by omega) hk)
theorem Hl:vlen []=0:=BI _ (by simp[ul])
theorem NX (l:B8) (m j:Nat):bt (l.take m) j=if j<m then bt l j else 0:=by
 unfold bt
 by_cases h:j<m
 ·rw[if_pos h];simp[List.getD,List.getElem?_take,h]
 ·rw[if_neg h];simp[List.getD,List.getElem?_take,h]
def PS (n:Nat):Prop:=128<=n/\n<192
theorem NN (l:B8) (j:Nat) (h1:0<j) (h2:j<ul l):PS (bt l j):=by
 have h:ul l≠0:=by omega
 have hne:l≠ []:=fun h0=>h (by simp[ul,h0])
 have hv:=dN_val l h
 have h4:=(Xg l h).2.2.2
 unfold dN Lib.decodeN at hv
 have hz:=(Si l hne).2
 unfold PS
 have hj:j=1∨j=2∨j=3:=by omega
 repeat' split at hv
 all_goals simp only[Prod.mk.injEq]at hv
 all_goals first
  | omega
  | (rcases hj with rfl | rfl | rfl<;>omega)
  | (exfalso;have:=ul_not l h;omega)
theorem Mp (l:B8) (m r0:Nat):∀j,j<m->Dl (l.take m) r0 j=Dl l r0 j
 | 0,_=>rfl
 | j+1,h=>by
  simp only[Dl]
  rw[Mp l m r0 j (by omega),NX,if_pos h]
theorem Sj {l:B8} {m:Nat} (h:ul l≠0) (hm:ul l<=m):ul (l.take m)=ul l/\ur (l.take m)=ur l:=by
 have hne:l≠ []:=fun h0=>h (by simp[ul,h0])
 have hle:=I7 l
 have hne2:l.take m≠ []:=by
  intro h0
  have:=congrArg List.length h0
  rw[List.length_take]at this
  simp only[List.length_nil]at this
  have:0<l.length:=List.length_pos_iff.2 hne
  omega
 have e1:=Ia l hne
 have e2:=Ia (l.take m) hne2
 rw[if_neg h]at e1
 have hs:=VY (bt l 0)
 unfold SD at e1
 simp only at e1
 by_cases g1:l.length<rsz (bt l 0)
 ·rw[if_pos g1]at e1
  simp only[Prod.mk.injEq]at e1;omega
 rw[if_neg g1]at e1
 split at e1
 ·rename_i hc
  simp only[Prod.mk.injEq]at e1
  unfold SD at e2
  simp only at e2
  rw[NX,if_pos (show 0<m by omega),Mp _ _ _ _ (by omega),if_neg (by rw[List.length_take];omega),List.take_take,Nat.min_eq_left (by omega),if_pos hc]at e2
  split at e2
  ·simp only[Prod.mk.injEq]at e2;omega
  ·simp only[Prod.mk.injEq]at e2;omega
 ·simp only[Prod.mk.injEq]at e1;omega
theorem WF (s:B8) (j k:Nat):(s.take k).drop j=(s.drop j).take (k-j):=List.drop_take ..
theorem Ox {l:B8} {m:Nat} (h:ul (l.take m)≠0):ul l=ul (l.take m):=by
 have hne2:l.take m≠ []:=fun h0=>h (by simp[ul,h0])
 have hne:l≠ []:=by rintro rfl;simp at hne2
 have hm:0<m:=by rcases Nat.eq_zero_or_pos m with h0 | h0;(rw[h0]at hne2;simp at hne2);exact h0
 have e1:=Ia l hne
 have e2:=Ia (l.take m) hne2
 rw[if_neg h]at e2
 have hs:=VY (bt l 0)
 have hb:bt (l.take m) 0=bt l 0:=by rw[NX,if_pos hm]
 unfold SD at e2
 simp only[hb]at e2
 split at e2
 ·simp only[Prod.mk.injEq]at e2;omega
 rename_i g1
 rw[List.length_take]at g1
 split at e2
 ·rename_i hc
  simp only[Prod.mk.injEq]at e2
  rw[Mp _ _ _ _ (by omega),List.take_take,Nat.min_eq_left (by omega)]at hc
  unfold SD at e1
  simp only at e1
  rw[if_neg (by omega),if_pos hc]at e1
  split at e1
  ·simp only[Prod.mk.injEq]at e1;omega
  ·simp only[Prod.mk.injEq]at e1;omega
 ·simp only[Prod.mk.injEq]at e2;omega
theorem TC:∀(n:Nat) (a b:B8),a.length<=n->vlen a=a.length->vlen (a++b)=a.length+vlen b:=by
 intro n
 induction n with
 | zero=>intro a b h hv;have:a=[]:=List.eq_nil_of_length_eq_zero (by omega);subst this;simp
 | succ n ih=>
  intro a b h hv
  by_cases ha:a=[]
  ·subst ha;simp
  have hpos:0<a.length:=List.length_pos_iff.2 ha
  have h0:ul a≠0:=fun h0=>by rw[BI a h0]at hv;omega
  have hle:=I7 a
  have hu:ul (a++b)=ul a:=by
   have:=Ox (l:=a++b) (m:=a.length) (by rw[List.take_left];exact h0)
   rw[List.take_left]at this;exact this
  rw[BJ _ h0]at hv
  rw[BJ _ (by rw[hu];exact h0),hu,List.drop_append_of_le_length hle,ih _ b (by rw[List.length_drop];omega) (by rw[List.length_drop];omega),List.length_drop]
  omega
theorem Cg {a b:B8} (ha:vlen a=a.length) (hb:vlen b=b.length):vlen (a++b)=(a++b).length:=by
 rw[TC _ a b (Nat.le_refl _) ha,List.length_append,hb]
theorem BK {c:UInt8} {l:B8} (hc:c.toNat<128) (hl:vlen l=l.length):vlen (c::l)=(c::l).length:=by
 have h:=K9 (c::l) (by simp) hc
 rw[BJ _ (by omega),h.1]
 simp only[List.drop_succ_cons,List.drop_zero,List.length_cons];omega
theorem Eg:∀l:B8,(l.all fun c=>decide (c.toNat<128))=true->vlen l=l.length
 | [],_=>Hl
 | c::l,h=>by
  simp only[List.all_cons,Bool.and_eq_true,decide_eq_true_eq]at h
  exact BK h.1 (Eg l h.2)
def DN (s:B8):Prop:=∀c,c∈s->FK (c.toNat:Int)=true
theorem DN.app {a b:B8} (h:DN a) (k:DN b):DN (a++b):=fun c hc=>(List.mem_append.1 hc).elim (h c) (k c)
theorem DN.cons {c:UInt8} {b:B8} (h:FK (c.toNat:Int)=true) (k:DN b):DN (c::b):=fun d hd=>by
 rcases List.mem_cons.1 hd with rfl | hd
 ·exact h
 ·exact k d hd
theorem DN.nil:DN []:=fun c hc=>by cases hc
theorem DN.one {c:UInt8} (h:FK (c.toNat:Int)=true):DN [c]:= .cons h .nil
theorem AF.word {c:UInt8} (h:AF c):FK (c.toNat:Int)=true:=by
 unfold AF at h;unfold FK;rw[decide_eq_true_eq];omega
theorem DN.dg {s:B8} (h:∀c,c∈s->AF c):DN s:=fun c hc=>(h c hc).word
theorem dcT_len {neg:Bool} {dg:B8} {ex:Int} (h:Dk neg dg ex):(dcT neg dg ex).length<=dg.length+40:=by
 by_cases hne:dg=[]
 ·unfold dcT;rw[if_pos hne];simp
 ·obtain⟨h1,h2,h3,h4,h5,h6⟩:=h.2 hne
  have hpos:=List.length_pos_iff.2 hne
  have hs:=Ud neg
  unfold dcT
  rw[if_neg hne,List.length_append,show(if neg=true then [45]else [])=OO neg from rfl]
  split
  ·rw[List.length_append,List.length_replicate];omega
  split
  ·rw[List.length_append,List.length_cons,List.length_take,List.length_drop];omega
  split
  ·rw[List.length_cons,List.length_cons,List.length_append,List.length_replicate];omega
  ·rw[List.length_append,List.length_append,List.length_take]
   have e1:(if 1<dg.length then 46::dg.drop 1 else []).length<=dg.length:=by
    split
    ·rw[List.length_cons,List.length_drop];omega
    ·simp
   have e2:(MH (dg.length+ex)).length<=20:=by
    rw[XG]
    split
    ·have:=NM (n:=(1-((dg.length:Int)+ex)).toNat) (by omega)
     rw[List.length_cons,List.length_cons];omega
    ·have:=NM (n:=((dg.length:Int)+ex-1).toNat) (by omega)
     rw[List.length_cons];omega
   omega
theorem Wv {a b:B8} (ha:∀c,c∈a->AF c) (hne:a≠ []):AF ((a++b).getD 0 0):=by
 obtain⟨c,r,rfl⟩:=List.exists_cons_of_ne_nil hne
 exact ha c (by simp)
theorem w45:FK ((45:UInt8).toNat:Int)=true:=by decide
theorem w46:FK ((46:UInt8).toNat:Int)=true:=by decide
theorem w58:FK ((58:UInt8).toNat:Int)=true:=by decide
theorem w101:FK ((101:UInt8).toNat:Int)=true:=by decide
theorem w84:FK ((84:UInt8).toNat:Int)=true:=by decide
theorem w90:FK ((90:UInt8).toNat:Int)=true:=by decide
theorem w43:FK ((43:UInt8).toNat:Int)=true:=by decide
theorem w48:FK ((48:UInt8).toNat:Int)=true:=by decide
theorem YX (p:Int):DN (MH p):=by
 unfold MH
 refine .cons w101 ?_
 split
 ·exact .cons w45 (.dg (LR _))
 ·exact .dg (LR _)
theorem Ul (n:Nat):DN (List.replicate n 48):=fun c hc=>by rw[(List.mem_replicate.1 hc).2];exact w48
theorem dcT_form {neg:Bool} {dg:B8} {ex:Int} (h:Dk neg dg ex):DN (dcT neg dg ex)/\dcT neg dg ex≠ []/\((dcT neg dg ex).getD 0 0=45∨AF ((dcT neg dg ex).getD 0 0)):=by
 by_cases hn:dg=[]
 ·unfold dcT
  rw[if_pos hn]
  exact⟨.one w48,by simp,.inr (by decide)⟩
 obtain⟨_,hd,_⟩:=h.2 hn
 have hw:DN dg:= .dg hd
 have key:∀X:B8,(∃a b,X=a++b/\(∀c,c∈a->AF c)/\a≠ []/\DN b)->
   DN ((if neg then [45]else [])++X)/\(if neg then [45]else [])++X≠ []/\(((if neg then [45]else [])++X).getD 0 0=45∨AF (((if neg then [45]else [])++X).getD 0 0)):=by
  rintro X ⟨a,b,rfl,h1,h2,h3⟩
  have hX:DN (a++b):=(DN.dg h1).app h3
  cases neg
  ·exact⟨hX,by simp[h2],.inr (Wv (a:=a) (b:=b) h1 h2)⟩
  ·exact⟨DN.app (.one w45) hX,by simp,.inl rfl⟩
 have hl:=List.length_pos_iff.2 hn
 have tk:∀n:Nat,1<=n->dg.take n≠ []:=fun n h0 h1=>by
  have:=congrArg List.length h1
  rw[List.length_take,List.length_nil]at this;omega
 have tm:∀n:Nat,∀c,c∈dg.take n->AF c:=fun n c hc=>hd c (List.mem_of_mem_take hc)
 have dm:∀n:Nat,DN (dg.drop n):=fun n c hc=>hw c (List.mem_of_mem_drop hc)
 unfold dcT
 rw[if_neg hn]
 refine key _ ?_
 split
 ·exact⟨dg,_,rfl,hd,hn,Ul _⟩
 ·split
  ·rename_i h2
   exact⟨dg.take (dg.length+ex).toNat,_,rfl,tm _,tk _ (by omega),.cons w46 (dm _)⟩
  ·split
   ·exact⟨[48],_,rfl,fun c hc=>by rw[List.mem_singleton.1 hc];decide,by simp,.cons w46 ((Ul _).app hw)⟩
   ·refine⟨dg.take 1,_,rfl,tm _,tk _ (Nat.le_refl _),DN.app ?_ (YX _)⟩
    split
    ·exact .cons w46 (dm _)
    ·exact .nil
theorem ML (n:Nat):DN (JB n):=by
 unfold JB
 refine(DN.dg (BM _ _)).app (.cons w58 ((DN.dg (BM _ _)).app (.cons w58 ((DN.dg (BM _ _)).app ?_))))
 split
 ·exact .nil
 ·exact .cons w46 (.dg (Iu _))
theorem YK (z:Int):DN (Ic z):=by
 unfold Ic
 split
 ·exact .one w90
 ·refine .cons ?_ ((DN.dg (BM _ _)).app (.cons w58 (.dg (BM _ _))))
  split
  ·exact w45
  ·exact w43
theorem MJ (n:Nat):DN (J5 n):=(DN.dg (BM _ _)).app (.cons w45 ((DN.dg (BM _ _)).app (.cons w45 (.dg (BM _ _)))))
theorem Yi {k td tn tz:Int}:DN (Ja k td tn tz)/\∃a c r,Ja k td tn tz=a++c::r/\a≠ []/\(∀d,d∈a->AF d)/\(c=45∨c=58):=by
 have ne:∀w n,0<w->Bw w n≠ []:=fun w n hw h=>by have:=Bv w n;rw[h]at this;simp at this;omega
 have hd:∀n r,∃a c q,J5 n++r=a++c::q/\a≠ []/\(∀d,d∈a->AF d)/\(c=45∨c=58):=fun n r=>
  ⟨Bw 4 (Jz n).1,45,(Bw 2 (Jz n).2.1++45::Bw 2 (Jz n).2.2)++r,by unfold J5;rw[List.append_assoc];rfl,ne _ _ (by decide),BM _ _,.inl rfl⟩
 unfold Ja
 split
 ·refine⟨MJ _,?_⟩
  have:=hd td.toNat []
  rwa [List.append_nil]at this
 ·split
  ·exact⟨ML _,_,58,_,rfl,ne _ _ (by decide),BM _ _,.inr rfl⟩
  ·split
   ·exact⟨(MJ _).app (.cons w84 (ML _)),hd _ _⟩
   ·exact⟨(MJ _).app (.cons w84 ((ML _).app (YK _))),hd _ _⟩
theorem not_isQ {a r:B8} {c:UInt8} (ha:∀d,d∈a->AF d) (hc:c=45∨c=58):¬isQ (a++c::r):=by
 rintro⟨_,_,h⟩
 have h0:(c::r).getD 0 0=c:=rfl
 have hn:¬AF c:=by rcases hc with rfl | rfl<;>decide
 rw[HI ha (by rw[h0];exact hn),List.drop_left]at h
 unfold isF at h
 rw[h0,if_neg (by rcases hc with rfl | rfl<;>decide)]at h
 unfold isE at h
 rw[h0]at h
 rcases h with h | ⟨h | h,_⟩
 ·cases h
 ·rcases hc with rfl | rfl<;>revert h<;>decide
 ·rcases hc with rfl | rfl<;>revert h<;>decide
theorem Db (st:St):BG St.zero st:=⟨Nat.zero_le _,fun i hi=>absurd hi (Nat.not_lt_zero _)⟩
section
mutual
def lvV:Vl->Nat
 | .mk _ l f=>1+max (QA l) (QB f)
def QA:List Vl->Nat
 | []=>0
 | v::r=>max (lvV v) (QA r)
def lvD:Fd->Nat
 | .mk _ v=>lvV v
def QB:List Fd->Nat
 | []=>0
 | d::r=>max (lvD d) (QB r)
end
end
theorem kb {s:Sc} {k:Nat} (h:s.kind=(k:Nat)) (hk:k<=7):s.kind.toNat.toUInt8.toNat=k:=by
 rw[h,Int.toNat_natCast,Xv _ (by omega)]
def v64 (c:UInt8):Nat:=(fnd b64A c).toNat
def fin (k eq w:Nat) (pad:Bool) (o:B8):B8×Int:=
 if k%4=0/\eq=0 then(o,0)
 else if 0<eq/\(k%4<2∨4-k%4<eq∨w≠0)then([],3)
 else if k%4=1∨w≠0∨(pad=true/\eq<4-k%4)then([],4)
 else(o,0)
def isD (c:UInt8):Bool:=decide (0<=fnd b64A c)
def lead (s:B8):Nat:=(s.takeWhile isD).length
def nch (c:UInt8):Prop:=AF c∨c=45∨c=43∨c=46∨c=101
instance (c:UInt8):Decidable (nch c):=inferInstanceAs (Decidable (_∨_))
def tkF (t s:B8) (a:Nat) (b:Bool):Prop:=b=false/\(s.drop a).take t.length=t
instance (t s:B8) (a:Nat) (b:Bool):Decidable (tkF t s a b):=inferInstanceAs (Decidable (_/\_))
end Go.TVF
section
namespace Go.TVF
open Go.IntKind(i64 u8)
open Go Go.Proofs Go.ChangeShapes
section
variable {H:Type} {enc:TypeId×Value->H} {P:Program} {w:World} {base:Nat} {held:Bool}
def Op (enc:TypeId×Value->H) (P:Program) (w:World) (base:Nat) (held:Bool) (n c:Nat) (S:List TV->Prop) (e:TypeId):Prop:=
 P.cellsOf e=c/\∀vs x,DataW.trod enc P w base (fun _=>true) held n e vs=some x->∃tv,AR (Ghost.start w) w tv vs/\tv.length=c/\S tv
end
end Go.TVF
end
section
namespace Go.TVF
open Go.IntKind(i64 u8)
open Go Go.Proofs Go.ChangeShapes
structure Blk {H:Type} (bk:DataW H->Nat):Prop where
 one:∀d,1<=bk d
 str:∀b,b.length+1<=bk (.lit (.string b))
 sl:∀e s,(e.map bk).sum+1<=bk (.slice e s)
 agg:∀p,(p.map bk).sum+1<=bk (.agg p)
section
variable {H:Type} {enc:TypeId×Value->H} {P:Program} {w:World} {base:Nat} {held:Bool} {bk:DataW H->Nat}
def OpQ (bk:DataW H->Nat) (enc:TypeId×Value->H) (P:Program) (w:World) (base:Nat) (held:Bool) (n c:Nat) (S:Nat->List TV->Prop) (e:TypeId):Prop:=
 P.cellsOf e=c/\∀vs x,DataW.trod enc P w base (fun _=>true) held n e vs=some x->∃tv,AR (Ghost.start w) w tv vs/\tv.length=c/\S (bk x.1) tv
def cellQ (c:CTy) (k:Nat) (tv:List TV):Prop:=flatIs [c] tv/\1<=k
def strQ (k:Nat) (tv:List TV):Prop:=∃l:B8,tv=[.str l]/\l.length<=maxLen/\l.length+1<=k
theorem opq_cell {n:Nat} {c:CTy} {e:TypeId} (hb:Blk bk) (h:Xb P c e) (hc:P.cellsOf e=1):OpQ bk enc P w base held n 1 (cellQ c) e:=⟨hc,fun vs x hd=>by
 obtain⟨v,u,rfl,hr,hf⟩:=Rb (Ghost.start w) h hd
 exact⟨[v],.cons hr (.nil _ _),rfl,hf,hb.one _⟩⟩
theorem opq_str {n:Nat} {e:TypeId} (hb:Blk bk) (h:P.underlying e=some .string) (hc:P.cellsOf e=1):OpQ bk enc P w base held n 1 strQ e:=⟨hc,fun vs x hd=>by
 obtain⟨s,rfl,rfl,hs⟩:=DataW.trod_string h hd
 exact⟨[_],.cons (rel_string (Ghost.start w) w s) (.nil _ _),rfl,_,rfl,by rw[Array.length_toList];exact hs,hb.str _⟩⟩
def SlQ (c:Nat) (S:Nat->List TV->Prop) (k:Nat) (v:TV):Prop:=
 v= .nilSlice∨∃ps:List (List TV×Nat),v= .list c .non ps.length (ps.map (·.1)).flatten/\(∀p,p∈ps->p.1.length=c/\S p.2 p.1)/\(ps.map (·.2)).sum+1<=k
theorem opq_slice {n c:Nat} {S:Nat->List TV->Prop} {t e:TypeId} (hb:Blk bk) (ht:P.underlying t=some (.slice e)) (ht1:P.cellsOf t=1) (hc1:1<=c) (hE:∀m,m<n->OpQ bk enc P w base held m c S e):
  OpQ bk enc P w base held n 1 (fun k tv=>∃v,tv=[v]/\SlQ c S k v) t:=by
 refine⟨ht1,fun vs x h=>?_⟩
 rcases DataW.trod_slice ht h with⟨rfl,_⟩ | ⟨a,len,cap,elems,rest,m,rfl,rfl,rfl,hbk,hl,hm,hel,hi,hsp,_⟩
 ·exact⟨[.nilSlice],.cons .nilSlice (.nil _ _),rfl,_,rfl,.inl rfl⟩
 ·obtain⟨hcE,hE⟩:=hE m (by omega)
  rw[hcE]at hi hsp
  have hbs:=hb.sl (elems.map (·.1)) (rest.map (·.1))
  rw[List.map_map]at hbs
  by_cases hcap:cap=0
  ·subst hcap
   obtain rfl:len=0:=by omega
   exact⟨[.list c .non 0 []],.cons (.listE _ _ _ (fun id h=>by cases h)) (.nil _ _),rfl,_,rfl,.inr ⟨[],rfl,(fun ck h=>by cases h),by simp only[List.map_nil,List.sum_nil];omega⟩⟩
  ·obtain⟨b,o,spot⟩:=a
   have hspot:spot=none:=by
    have key:∀(i:Nat) (l:List (DataW H×List MemPlace)) (k:Nat),k<l.length->i=0->(w.cells? base ((⟨b,o,spot⟩:Addr).add (i*c)) c).bind (DataW.trod enc P w base (fun _=>true) held m e)=l[k]?->spot=none:=by
     intro i l k hk hi0 h
     subst hi0
     rw[List.getElem?_eq_getElem hk]at h
     obtain⟨vs,h1,_⟩:=Option.bind_eq_some_iff.1 h
     obtain⟨_,hvl,hvc⟩:=World.cells?_some h1
     have:=World.cell?_spot ((hvc 0 (by omega)).trans (List.getElem?_eq_getElem (show 0<vs.length by omega)))
     rw[Nat.zero_mul]at this
     exact this
    by_cases h0:0<len
    ·exact key 0 elems 0 (by omega) rfl (hi 0 h0)
    ·obtain⟨hr,hs⟩:=hsp rfl
     exact key _ rest 0 (by omega) (by omega) (hs 0 (by omega))
   subst hspot
   have each:∀i (hil:i<len),∃tv vs,AR (Ghost.start w) w tv vs/\tv.length=c/\S (bk (elems[i]'(by omega)).1) tv/\vs.length=c/\∀j,j<c->w.cell? ⟨b,o+(i*c+j),none⟩=some (vs.getD j Go.undef):=by
    intro i hil
    have h:=hi i hil
    rw[List.getElem?_eq_getElem (by omega)]at h
    obtain⟨vs,h1,h2⟩:=Option.bind_eq_some_iff.1 h
    obtain⟨tv,hr,htl,hf⟩:=hE vs _ h2
    obtain⟨_,hvl,hvc⟩:=World.cells?_some h1
    refine⟨tv,vs,hr,htl,hf,hvl,fun j hj=>?_⟩
    have:=hvc j (by omega)
    rw[Deep.add_add,W5]at this
    rw[this]
    simp[List.getD,show j<vs.length by omega]
   have build:∀k,k<=len->∃ps:List (List TV×Nat),ps.length=k/\(∀p,p∈ps->p.1.length=c/\S p.2 p.1)/\ps.map (·.2)=(elems.take k).map (fun y=>bk y.1)/\(ps.map (·.1)).flatten.length=k*c/\∀i (h:i<(ps.map (·.1)).flatten.length),∃u,w.cell? ⟨b,o+i,none⟩=some u/\Rel (Ghost.start w) w (ps.map (·.1)).flatten[i] u:=by
    intro k
    induction k with
    | zero=>intro _;exact⟨[],rfl,(fun ck h=>by cases h),by simp,by simp,fun i h=>absurd h (Nat.not_lt_zero _)⟩
    | succ k ih=>
     intro hk
     obtain⟨ps,h0,h1,hm1,h2,h3⟩:=ih (by omega)
     obtain⟨tv,vs,hr,htl,hf,hvl,hvc⟩:=each k (by omega)
     have hfl:((ps++[(tv,bk (elems[k]'(by omega)).1)]).map (·.1)).flatten=(ps.map (·.1)).flatten++tv:=by simp
     refine⟨ps++[(tv,bk (elems[k]'(by omega)).1)],by simp[h0],fun p h=>?_,?_,by rw[hfl,List.length_append,h2,htl,Nat.succ_mul],fun i h=>?_⟩
     ·rcases List.mem_append.1 h with h | h
      ·exact h1 p h
      ·rw[List.mem_singleton.1 h];exact⟨htl,hf⟩
     ·rw[List.map_append,hm1,List.take_succ_eq_append_getElem (by omega),List.map_append];rfl
     ·simp only[hfl]at h⊢
      by_cases hix:i<(ps.map (·.1)).flatten.length
      ·rw[List.getElem_append_left hix];exact h3 i hix
      ·rw[List.getElem_append_right (by omega)]
       rw[List.length_append]at h
       have hj:i-(ps.map (·.1)).flatten.length<tv.length:=by omega
       refine⟨vs.getD (i-(ps.map (·.1)).flatten.length) Go.undef,?_,hr.2 _ hj⟩
       have:=hvc (i-(ps.map (·.1)).flatten.length) (by omega)
       rw[show o+i=o+(k*c+(i-(ps.map (·.1)).flatten.length)) by rw[<-h2];omega]
       exact this
   obtain⟨ps,h0,h1,hm1,h2,h3⟩:=build len (Nat.le_refl _)
   refine⟨[.list c .non ps.length (ps.map (·.1)).flatten],.cons ?_ (.nil _ _),rfl,_,rfl,.inr ⟨ps,rfl,h1,?_⟩⟩
   ·have hu:∀i,∃u,(h:i<(ps.map (·.1)).flatten.length)->w.cell? ⟨b,o+i,none⟩=some u/\Rel (Ghost.start w) w (ps.map (·.1)).flatten[i] u:=fun i=>by
     by_cases h:i<(ps.map (·.1)).flatten.length
     ·obtain⟨u,hu⟩:=h3 i h
      exact⟨u,fun _=>hu⟩
     ·exact⟨Go.undef,fun h'=>absurd h' h⟩
    rw[h0]
    refine .list _ _ _ _ b o cap (fun i=>Classical.choose (hu i)) h2 hl (fun i hi=>?_) (fun i hi=>(Classical.choose_spec (hu i) hi).2) trivial
    have:=(Classical.choose_spec (hu i) hi).1
    exact⟨⟨rfl,_,this⟩,this⟩
   ·rw[hm1,List.take_of_length_le (by omega)]
    exact hbs
def Tq (bk:DataW H->Nat) (enc:TypeId×Value->H) (P:Program) (w:World) (base:Nat) (held:Bool) (n:Nat):List (Nat×(Nat->List TV->Prop))->List Field->Nat->Prop
 | [],[],_=>True
 | S::Ss,f::fs,o=>f.offset=o/\OpQ bk enc P w base held n S.1 S.2 f.type/\Tq bk enc P w base held n Ss fs (o+S.1)
 | _,_,_=>False
def X5:List (Nat×(Nat->List TV->Prop))->Nat->List TV->Prop
 | [],_,xs=>xs=[]
 | S::Ss,k,xs=>∃a b k1 k2,xs=a++b/\a.length=S.1/\S.2 k1 a/\X5 Ss k2 b/\k1+k2<=k
def TL:List (Nat×(Nat->List TV->Prop))->Nat
 | []=>0
 | S::Ss=>S.1+TL Ss
theorem O5 {n:Nat} {vs:List Value}:∀(Ss:List (Nat×(Nat->List TV->Prop))) (fs:List Field) (o:Nat) (xs:List (DataW H×List MemPlace)),Tq bk enc P w base held n Ss fs o->xs.length=fs.length->vs.length=o+TL Ss->
  (∀(i:Nat) (f:Field),fs[i]? =some f->DataW.trod enc P w base (fun _=>true) held n f.type ((vs.drop f.offset).take (P.cellsOf f.type))=xs[i]?)->∃tv,AR (Ghost.start w) w tv (vs.drop o)/\tv.length=TL Ss/\X5 Ss (xs.map (fun y=>bk y.1)).sum tv
 | [],[],o,xs,_,_,hl,_=>⟨[],by rw[List.drop_of_length_le (by simp[TL]at hl;omega)];exact .nil _ _,rfl,rfl⟩
 | S::Ss,f::fs,o,[],_,hx,_,_=>by simp at hx
 | S::Ss,f::fs,o,x::xs,ht,hx,hl,hd=>by
  obtain⟨h1,⟨h2,h3⟩,h4⟩:=ht
  have hd0:=hd 0 f rfl
  rw[h1,h2]at hd0
  obtain⟨tv0,hr,htl,hf⟩:=h3 _ _ hd0
  obtain⟨tv,hr',hl',hf'⟩:=O5 (n:=n) (vs:=vs) Ss fs (o+S.1) xs h4 (by simpa using hx) (by simp only[TL]at hl;omega) (fun i f' hi=>by simpa using hd (i+1) f' (by simpa using hi))
  refine⟨tv0++tv,?_,by simp[hl',htl,TL],tv0,tv,_,_,rfl,htl,hf,hf',by simp only[List.map_cons,List.sum_cons];exact Nat.le_refl _⟩
  have hlt:o+S.1<=vs.length:=by simp only[TL]at hl;omega
  have e:vs.drop o=(vs.drop o).take S.1++vs.drop (o+S.1):=by rw[<-List.drop_drop,List.take_append_drop]
  rw[e]
  exact AR.append hr hr'
 | [],f::fs,o,xs,ht,_,_,_=>ht.elim
 | S::Ss,[],o,xs,ht,_,_,_=>ht.elim
theorem opq_struct {n c:Nat} {Ss:List (Nat×(Nat->List TV->Prop))} {e:TypeId} {fs:Array Field} (hb:Blk bk) (ht:P.underlying e=some (.struct fs)) (hc:P.cellsOf e=c) (hl:TL Ss=c) (hf:∀m,m<n->Tq bk enc P w base held m Ss fs.toList 0):
  OpQ bk enc P w base held n c (fun k tv=>∃k',k'+1<=k/\X5 Ss k' tv) e:=⟨hc,fun vs x hd=>by
 obtain⟨xs,m,rfl,rfl,hvl,hx,hi⟩:=DataW.trod_struct ht hd
 obtain⟨tv,h1,h2,h3⟩:=O5 (bk:=bk) (enc:=enc) (P:=P) (w:=w) (base:=base) (held:=held) (n:=m) (vs:=vs) Ss fs.toList 0 xs (hf m (by omega)) (by simpa using hx) (by omega) (fun i f h=>hi i f (by simpa using h))
 refine⟨tv,by simpa using h1,by omega,_,?_,h3⟩
 have:=hb.agg (xs.map (·.1))
 rw[List.map_map]at this
 exact this⟩
end
end Go.TVF
end
namespace Go.TVF
open Go.IntKind(i64 u8)
open Go Go.Proofs
section
abbrev decQs:List (Nat×(Nat->List TV->Prop)):=[(1,cellQ .bool),(1,strQ),(1,cellQ (.int .i64))]
abbrev timeQs:List (Nat×(Nat->List TV->Prop)):=[(1,cellQ (.int .i64)),(1,cellQ (.int .i64)),(1,cellQ (.int .i64)),(1,cellQ (.int .i64))]
def valQ (k:Nat) (tv:List TV):Prop:=∃v:Vl,VlR St.zero v tv/\v.sz<=k
def fldQ (k:Nat) (tv:List TV):Prop:=∃d:Fd,FdR St.zero d tv/\d.sz<=k
abbrev VP (c:Nat) (S:Nat->List TV->Prop) (k:Nat) (tv:List TV):Prop:=∃v,tv=[v]/\SlQ c S k v
abbrev inQ (Ss:List (Nat×(Nat->List TV->Prop))) (k:Nat) (tv:List TV):Prop:=∃k',k'+1<=k/\X5 Ss k' tv
abbrev valQs:List (Nat×(Nat->List TV->Prop)):=[(1,cellQ (.int .i64)),(1,cellQ .bool),(3,inQ decQs),(4,inQ timeQs),(1,strQ),(1,VP 1 (cellQ (.int .u8))),(1,VP 13 valQ),(1,VP 14 fldQ)]
abbrev fldQs:List (Nat×(Nat->List TV->Prop)):=[(1,strQ),(13,valQ)]
theorem SlQ.bytes {k:Nat} {v:TV} (h:SlQ 1 (cellQ (.int .u8)) k v):∃l:B8,SlR St.zero 1 v l.length (AC l)/\l.length<=k:=by
 rcases h with rfl | ⟨ps,rfl,h,hk⟩
 ·exact⟨[],.inl (.inl ⟨rfl,rfl,rfl⟩),Nat.zero_le _⟩
 ·have:∃l:B8,l.length=ps.length/\(ps.map (·.1)).flatten=AC l/\l.length<=(ps.map (·.2)).sum:=by
   clear hk
   induction ps with
   | nil=>exact⟨[],rfl,rfl,Nat.zero_le _⟩
   | cons p r ih=>
    obtain⟨l,h1,h2,h3⟩:=ih (fun q hq=>h q (.tail _ hq))
    obtain⟨hl,⟨n,ys,hp,hw,rfl⟩,h1k⟩:=h p (.head _)
    have hn:0<=n/\n<=255:=by simpa [Lit.wf,IntKind.min,IntKind.max,IntKind.signed,IntKind.bits]using hw
    refine⟨n.toNat.toUInt8::l,by simp[h1],?_,by simp only[List.length_cons,List.map_cons,List.sum_cons];omega⟩
    rw[List.map_cons,List.flatten_cons,hp,h2]
    simp only[AC,List.map_cons,JE,List.cons_append,List.nil_append,List.cons.injEq,and_true,TV.int.injEq,true_and]
    have:=Xv n.toNat (by omega)
    omega
  obtain⟨l,h1,h2,h3⟩:=this
  exact⟨l,.inl (.inr ⟨.non,by rw[h1,h2]⟩),by omega⟩
theorem SlQ.vals {k:Nat} {v:TV} (h:SlQ 13 valQ k v):∃l xl,SlR St.zero 13 v l.length xl/\VsR St.zero l xl/\A3 l<=k:=by
 rcases h with rfl | ⟨ps,rfl,h,hk⟩
 ·exact⟨[],[],.inl (.inl ⟨rfl,rfl,rfl⟩),by unfold VsR;rfl,by unfold A3;exact Nat.zero_le _⟩
 ·have:∃l:List Vl,l.length=ps.length/\VsR St.zero l (ps.map (·.1)).flatten/\A3 l<=(ps.map (·.2)).sum:=by
   clear hk
   induction ps with
   | nil=>exact⟨[],rfl,by unfold VsR;rfl,by unfold A3;exact Nat.zero_le _⟩
   | cons p r ih=>
    obtain⟨l,h1,h2,h3⟩:=ih (fun q hq=>h q (.tail _ hq))
    obtain⟨hl,v,hv,hz⟩:=h p (.head _)
    exact⟨v::l,by simp[h1],by unfold VsR;exact⟨_,_,by simp,hv,h2⟩,by unfold A3;simp only[List.map_cons,List.sum_cons];omega⟩
  obtain⟨l,h1,h2,h3⟩:=this
  exact⟨l,_,.inl (.inr ⟨.non,by rw[h1]⟩),h2,by omega⟩
theorem SlQ.flds {k:Nat} {v:TV} (h:SlQ 14 fldQ k v):∃l xl,SlR St.zero 14 v l.length xl/\FsR St.zero l xl/\BC l<=k:=by
 rcases h with rfl | ⟨ps,rfl,h,hk⟩
 ·exact⟨[],[],.inl (.inl ⟨rfl,rfl,rfl⟩),by unfold FsR;rfl,by unfold BC;exact Nat.zero_le _⟩
 ·have:∃l:List Fd,l.length=ps.length/\FsR St.zero l (ps.map (·.1)).flatten/\BC l<=(ps.map (·.2)).sum:=by
   clear hk
   induction ps with
   | nil=>exact⟨[],rfl,by unfold FsR;rfl,by unfold BC;exact Nat.zero_le _⟩
   | cons p r ih=>
    obtain⟨l,h1,h2,h3⟩:=ih (fun q hq=>h q (.tail _ hq))
    obtain⟨hl,v,hv,hz⟩:=h p (.head _)
    exact⟨v::l,by simp[h1],by unfold FsR;exact⟨_,_,by simp,hv,h2⟩,by unfold BC;simp only[List.map_cons,List.sum_cons];omega⟩
  obtain⟨l,h1,h2,h3⟩:=this
  exact⟨l,_,.inl (.inr ⟨.non,by rw[h1]⟩),h2,by omega⟩
theorem F4 {kd:IntKind} {k:Nat} {tv:List TV} (h:cellQ (.int kd) k tv):∃n,tv=[.int kd n]:=by
 obtain⟨⟨n,ys,rfl,_,rfl⟩,_⟩:=h;exact⟨n,rfl⟩
theorem P0 {k:Nat} {tv:List TV} (h:cellQ .bool k tv):∃b,tv=[.bool b]:=by
 obtain⟨⟨n,ys,rfl,rfl⟩,_⟩:=h;exact⟨n,rfl⟩
theorem each_field {k:Nat} {tv:List TV} (h:inQ fldQs k tv):fldQ k tv:=by
 obtain⟨k0,hk0,_,_,k1,k2,rfl,_,⟨key,rfl,_,hkey⟩,⟨_,_,k3,k4,rfl,_,⟨v,hv,hz⟩,rfl,h2⟩,h1⟩:=h
 refine⟨.mk key v,by unfold FdR;exact⟨_,by simp,hv⟩,by unfold Fd.sz;omega⟩
theorem each_value {k:Nat} {tv:List TV} (h:inQ valQs k tv):valQ k tv:=by
 obtain⟨k0,hk0,_,_,a1,r1,rfl,_,q1,⟨_,_,a2,r2,rfl,_,q2,⟨_,_,a3,r3,rfl,_,q3,⟨_,_,a4,r4,rfl,_,q4,⟨_,_,a5,r5,rfl,_,q5,⟨_,_,a6,r6,rfl,_,q6,⟨_,_,a7,r7,rfl,_,q7,⟨_,_,a8,r8,rfl,_,q8,rfl,h8⟩,h7⟩,h6⟩,h5⟩,h4⟩,h3⟩,h2⟩,h1⟩:=h
 obtain⟨kd,rfl⟩:=F4 q1
 obtain⟨bo,rfl⟩:=P0 q2
 obtain⟨d0,hd0,_,_,d1,d2,rfl,_,p1,⟨_,_,d3,d4,rfl,_,⟨dg,rfl,_,hdg⟩,⟨_,_,d5,d6,rfl,_,p3,rfl,g3⟩,g2⟩,g1⟩:=q3
 obtain⟨ng,rfl⟩:=P0 p1
 obtain⟨ex,rfl⟩:=F4 p3
 obtain⟨_,_,_,_,_,_,rfl,_,t1,⟨_,_,_,_,rfl,_,t2,⟨_,_,_,_,rfl,_,t3,⟨_,_,_,_,rfl,_,t4,rfl,_⟩,_⟩,_⟩,_⟩:=q4
 obtain⟨tk,rfl⟩:=F4 t1
 obtain⟨td,rfl⟩:=F4 t2
 obtain⟨tn,rfl⟩:=F4 t3
 obtain⟨tz,rfl⟩:=F4 t4
 obtain⟨tx,rfl,_,htx⟩:=q5
 obtain⟨ub,rfl,q6⟩:=q6
 obtain⟨ul,rfl,q7⟩:=q7
 obtain⟨uf,rfl,q8⟩:=q8
 obtain⟨bs,hb,hbl⟩:=q6.bytes
 obtain⟨l,xl,hl,hlv,hlz⟩:=q7.vals
 obtain⟨f,xf,hf,hfv,hfz⟩:=q8.flds
 refine⟨.mk ⟨kd,bo,ng,dg,ex,tk,td,tn,tz,tx,bs⟩ l f,?_,by rw[szs];simp only;omega⟩
 unfold VlR
 exact⟨ub,ul,uf,xl,xf,by simp,hb,hl,hlv,hf,hfv⟩
section
variable {H:Type} {enc:TypeId×Value->H} {P:Program} {w:World} {base b0:Nat} {held:Bool} {bk:DataW H->Nat}
end
end
section
def IsValU (t:TV):Prop:=∃v cs,t= .agg cs/\VlR St.zero v cs
section
variable {H:Type} {enc:TypeId×Value->H} {P:Program} {w:World} {base b0:Nat} {held:Bool} {bk:DataW H->Nat}
theorem open_valU {t:TypeId} {fs:Array Field} {v:Value} {d:DataW H} {p:List MemPlace} (ht:P.underlying t=some (.struct fs)) (hop:∀n,OpQ bk enc P w base held n 13 valQ t)
  (hval:Value.okWide P w .any b0 t v) (h:DataW.Trod enc P w base (fun _=>true) held t v d p):∃tv,Rel (Ghost.start w) w tv v/\IsValU tv:=by
 simp only[Value.okWide,ht]at hval
 obtain⟨vs,rfl,_,_⟩:=hval
 obtain⟨n,hn⟩:=h
 obtain⟨cs,hr,_,vl,hv,hz⟩:=(hop n).2 _ _ hn
 have:=Rel.agg cs vs.toList hr.1 hr.2
 rw[Array.toArray_toList]at this
 exact⟨_,this,vl,cs,rfl,hv⟩
end
end
def scZ:Sc:=⟨0,false,false,[],0,0,0,0,0,[],[]⟩
def vlZ:Vl:= .mk scZ [] []
def Dz (f:List Fd) (key:B8):Vl×Bool:=match f.find? (fun d=>decide (d.key=key))with | some d=>(d.val,true) | none=>(vlZ,false)
def A7 (l:List Vl):Vl:= .mk {scZ with kind:=6} l []
def HW (f:List Fd):Vl:= .mk {scZ with kind:=7} [] f
theorem VsR.cons {st:St} {v:Vl} {l:List Vl} {a b:List TV} (h:VlR st v a) (k:VsR st l b):VsR st (v::l) (a++b):=by
 unfold VsR;exact⟨a,b,rfl,h,k⟩
theorem VsR.nil (st:St):VsR st [] []:=by unfold VsR;rfl
theorem FsR.nil (st:St):FsR st [] []:=by unfold FsR;rfl
theorem VF:U8 []:=by unfold U8;rw[BI _ (by simp[ul])];rfl
theorem Os {l:List Vl} (h:Cp l):AS (A7 l):=by
 unfold A7 AS
 exact⟨⟨⟨by simp,by simp,by simp[scZ],by simp[scZ],by simp[scZ],by simp[scZ],by simp[scZ],by simp,by simp⟩,by constructor<;>simp[scZ],by simp,VF,by simp[scZ],by simp[scZ],rfl⟩,h,by unfold CE;trivial⟩
end Go.TVF
section
namespace Go.TVF
open Go.IntKind(i64 u8)
open Go Go.Proofs Go.RowKit
theorem SJ {b:Nat} {st:St} {K:TV->St->Prop} (hk:K (.box b 0) st):CallT PR FF [.box b 0] [.one (.tv)] st K:=by
 refine Lc fun g w vargs s hr=>?_
 obtain⟨v,rfl,hv⟩:=Uo hr
 refine⟨v,w,?_,.box b 0,st,g,hk,s,hv,Ext.refl _ _⟩
 show(callFunc 300 #[v]).run Tryz.prog w=_
 rw[run_callFunc_extern Tryz.func300 (by kernel_rfl) (by kernel_rfl) (by kernel_rfl) (e:=Extern.AbiNoEscape.same) (by kernel_rfl)]
 rfl
def KU (st0:St) (b:Nat) (st:St) (buf:B8):Prop:=
 Am st0 st/\st0.nb<=b/\b<st.nb/\st.bt b=some 188/\∃p v,st.box b= .cells [p,v]/\(p= .nilPtr∨p= .box b 0)/\
  ((v= .nilSlice/\buf=[])∨∃id,v= .list 1 (.own id) buf.length (AC buf)/\buf≠ []/\st0.nt<=id/\id<st.nt/\st.live id=true/\st.ty id=some 5)
theorem KU.new {st0 st:St} (e:Am st0 st):KU st0 st.nb (st.push (.cells [.nilPtr,.nilSlice]) (some 188)) []:=
 ⟨e.push _ _,e.nb,by simp[St.push],by simp[St.push],.nilPtr,.nilSlice,Fq _ _ _,.inl rfl,.inl ⟨rfl,rfl⟩⟩
theorem Kq {st0 st:St} {b:Nat} {buf:B8} {K:St->Prop} (h:KU st0 b st buf) (hk:∀st',KU st0 b st' buf->K st'):CallT PR A0 [.box b 0] [] st K:=by
 have h0:=h
 obtain⟨e,h1,h2,h3,p,v,hb,hp,hv⟩:=h
 refine CS b st K (Ac (x:=p) (by simp[Ad,hb]) (Ab (by rcases hp with rfl | rfl<;>rfl) ?_))
 rcases hp with rfl | rfl
 ·refine(show BIf true _ _ from⟨by simp[Ad,hb],SJ ?_⟩)
  refine⟨⟨rfl,h3,_,hb,rfl⟩,Ab rfl ⟨_,hb,by simp,hk _ ?_⟩⟩
  exact⟨e.put h1 _,h1,h2,h3,.box b 0,v,Cs _ _ _,.inr rfl,hv⟩
 ·exact(show BIf false _ _ from Ac (x:= .box b 0) (by simp[Ad,hb]) ⟨rfl,hk st h0⟩)
theorem CR {st0 st:St} {b:Nat} {buf s:B8} {K:Int->TV->St->Prop} (h:KU st0 b st buf) (hl:buf.length+s.length<=140737488355328) (hk:∀st',KU st0 b st' (buf++s)->K (s.length:Int) .nilIface st'):
  CallT PR Ax [.box b 0,.str s] [.one (.int .i64),.one (.tv)] st K:=by
 refine Ct b s st K (Kq h fun st1 h1=>?_)
 obtain⟨e,a1,a2,a3,p,v,hb,hp,hv⟩:=h1
 refine Ac (x:=v) (by simp[Ad,hb]) (Ac (Xm st1 s) (Ab (V8 s) ?_))
 rcases hv with⟨rfl,rfl⟩ | ⟨id,rfl,n1,n2,n3,n4,n5⟩
 ·cases s with
  | nil=>
   simp only[BH,List.length_nil,AC,List.map_nil]
   exact Ab rfl ⟨_,hb,by simp,hk _ ⟨e.put a1 _,a1,a2,a3,p,.nilSlice,Cs _ _ _,hp,.inl ⟨rfl,rfl⟩⟩⟩
  | cons c r=>
   simp only[BH,List.length_cons,Nat.mul_one]
   refine Ab (by simp only[List.length_nil,List.length_cons]at hl;simp;omega) (Ab rfl ⟨_,hb,by simp,hk _ ?_⟩)
   exact⟨(e.fresh _).put a1 _,a1,a2,a3,p,_,Cs _ _ _,hp,.inr ⟨st1.nt,rfl,by simp,e.nt,by simp[St.put,St.fresh],by simp[St.put,St.fresh],by simp[St.put,St.fresh]⟩⟩
 ·simp only[BH,Nat.beq_refl,Nat.mul_one]
  refine⟨hl,n4,Ab rfl ⟨_,hb,by simp,hk _ ?_⟩⟩
  refine⟨((e.retire n2).fresh _).put a1 _,a1,a2,a3,p,_,Cs _ _ _,hp,.inr ⟨st1.nt,?_,by simp[n1],e.nt,by simp[St.put,St.fresh,St.retire],by simp[St.put,St.fresh,St.retire],by simp[St.put,St.fresh,St.retire,n5,I8]⟩⟩
  rw[List.length_append,<-Fe]
theorem GS {st0 st:St} {b:Nat} {buf:B8} {K:B8->St->Prop} (h:KU st0 b st buf) (hl:buf.length<=140737488355328) (hk:∀st',Am st0 st'->K buf st'):
  CallT PR AY [.box b 0] [.one (.str)] st K:=by
 obtain⟨e,h1,h2,h3,p,v,hb,hp,hv⟩:=h
 have hld:Ad st [] (.t (.box b 1)) 0=some v:=by simp[Ad,hb]
 rcases hv with⟨rfl,rfl⟩ | ⟨id,rfl,n1,n2,n3,n4,n5⟩
 ·refine Bu b st K (Ac hld (Ac (x:= .nilPtr) rfl (Ac hld (Ab rfl ?_))))
  exact⟨rfl,hk st e⟩
 ·refine Bu b st K (Ac hld (Ac (x:= .sptr (.list 1 (.own id) buf.length (AC buf))) ?_ (Ac hld (Ab rfl ?_))))
  case refine_2=>exact⟨⟨rfl,by omega,n4,n5⟩,Ac (DF buf) (hk _ (e.retire n2))⟩
  simp only[Mk]
  cases hz:buf.length.beq 0 with
  | true=>exact absurd (List.eq_nil_of_length_eq_zero (Nat.eq_of_beq_eq_true hz)) n1
  | false=>rfl
end Go.TVF
end
namespace Go.TVF
open Go.IntKind(i64 u8)
open Go Go.Proofs
def Bd (s:B8) (k:Nat):Prop:=k<=s.length/\(k=s.length∨¬PS (bt s k))
theorem Bd.char {s:B8} {k j:Nat} (h:Bd s k) (hj:j<k):j+ul (s.drop j)<=k:=by
 apply Decidable.byContradiction
 intro hn
 have hle:=I7 (s.drop j)
 rw[List.length_drop]at hle
 have:=NN (s.drop j) (k-j) (by omega) (by omega)
 rw[J0,show j+(k-j)=k by omega]at this
 rcases h.2 with h | h
 ·have:=h;omega
 ·exact h this
theorem KX:∀(n:Nat) (l:B8) (m:Nat),l.length<=n->vlen l=l.length->Bd l m->vlen (l.take m)=m
 | 0,l,m,hn,hv,hb=>by
  have:l=[]:=List.eq_nil_of_length_eq_zero (by omega)
  subst this
  have:=hb.1
  simp only[List.length_nil]at this
  rw[List.take_nil,Cf];omega
 | n+1,l,m,hn,hv,hb=>by
  cases m with
  | zero=>rw[List.take_zero,Cf]
  | succ m=>
  have h0:ul l≠0:=fun h=>by
   rw[BI l h]at hv
   have:=hb.1
   omega
  have hc:=hb.char (j:=0) (by omega)
  rw[List.drop_zero,Nat.zero_add]at hc
  have hu:=Sj h0 hc
  have hle:=I7 l
  rw[BJ _ h0]at hv
  rw[BJ _ (by rw[hu.1];exact h0),hu.1,WF]
  have hu4:0<ul l:=by omega
  rw[KX n (l.drop (ul l)) (m+1-ul l) (by rw[List.length_drop];omega) (by rw[List.length_drop];omega) ⟨by rw[List.length_drop];have:=hb.1;omega,?_⟩]
  ·omega
  ·rw[List.length_drop,J0,show ul l+(m+1-ul l)=m+1 by omega]
   rcases hb.2 with h | h
   ·left;omega
   ·right;exact h
theorem Wt {s:B8} {st:St} {K:Int->St->Prop} (hl:s.length<=2000000) (hk:K (if vlen s=s.length then-1 else((vlen s:Nat):Int)) st):CallT PR EW [.str s] [.one (.int .i64)] st K:=by
 have hv:=TA s
 refine LW s st K ⟨fun i s' st'=>s=s'/\st=st'/\∃k:Nat,i=(k:Int)/\k<=s.length/\k+vlen (s.drop k)=vlen s,fun i _ _=>(s.length-i).toNat,⟨rfl,rfl,0,rfl,by omega,by simp⟩,?_⟩
 rintro _ _ _ ⟨rfl,rfl,k,rfl,h1,h2⟩
 refine Aa (fun g1=>Oy rfl hl h1 ?_) fun g1=>?_
 ·have hle:=I7 (s.drop k)
  rw[List.length_drop]at hle
  unfold rD
  by_cases h0:ul (s.drop k)=0
  ·rw[if_pos h0]
   rw[BI _ h0]at h2
   rw[if_neg (by omega)]at hk
   refine Aa (fun _=>?_) fun h=>absurd rfl h
   rw[show k=vlen s by omega];exact hk
  ·rw[if_neg h0]
   rw[BJ _ h0,List.drop_drop]at h2
   refine Aa (fun h=>absurd h (by show ¬((ul (s.drop k):Nat):Int)=0;omega)) fun _=>?_
   have w:i64.wrap ((k:Int)+(ul (s.drop k):Nat))=((k+ul (s.drop k):Nat):Int):=by rw[Ai _ (by omega) (by omega)];omega
   dsimp only
   rw[w]
   exact⟨⟨rfl,rfl,_,rfl,by omega,by omega⟩,by omega⟩
 ·rw[show s.drop k=[]from List.drop_of_length_le (by omega),Cf]at h2
  rw[if_pos (by omega)]at hk;exact hk
section
inductive Nd where
 | mk (kind:Int) (lead text:B8) (kids:List Nd) (tail:B8)
mutual
def NdC:Nd->List TV->Prop
 | .mk k l t ks tl,cs=>∃v xs,cs=[.int .i64 k,.str l,.str t,v,.str tl]/\Rd 5 v ks.length xs/\BF ks xs
def BF:List Nd->List TV->Prop
 | [],xs=>xs=[]
 | n::r,xs=>∃a b,xs=a++b/\NdC n a/\BF r b
end
theorem NdC.len {n:Nd} {cs:List TV} (h:NdC n cs):cs.length=5:=by
 cases n
 unfold NdC at h
 obtain⟨v,xs,rfl,_⟩:=h
 rfl
theorem BF.get:∀{ks:List Nd} {xs:List TV},BF ks xs->∀{i:Nat} {n:Nd},ks[i]? =some n->∃cs,NdC n cs/\∀j x,cs[j]? =some x->xs[i*5+j]? =some x
 | [],xs,h,i,n,hi=>by simp at hi
 | m::r,xs,h,0,n,hi=>by
  unfold BF at h
  obtain⟨a,b,rfl,ha,hb⟩:=h
  simp only[List.getElem?_cons_zero,Option.some.injEq]at hi
  subst hi
  refine⟨a,ha,fun j x hj=>?_⟩
  rw[Nat.zero_mul,Nat.zero_add,List.getElem?_append_left (List.getElem?_eq_some_iff.1 hj).1]
  exact hj
 | m::r,xs,h,i+1,n,hi=>by
  unfold BF at h
  obtain⟨a,b,rfl,ha,hb⟩:=h
  obtain⟨cs,h1,h2⟩:=hb.get (i:=i) (n:=n) (by simpa using hi)
  refine⟨cs,h1,fun j x hj=>?_⟩
  have hl:=ha.len
  rw[List.getElem?_append_right (by omega),show(i+1)*5+j-a.length=i*5+j by omega]
  exact h2 j x hj
theorem BF.append:∀{ks js:List Nd} {xs ys:List TV},BF ks xs->BF js ys->BF (ks++js) (xs++ys)
 | [],js,xs,ys,h,g=>by unfold BF at h;subst h;exact g
 | n::r,js,xs,ys,h,g=>by
  unfold BF at h
  obtain⟨a,b,rfl,ha,hb⟩:=h
  rw[List.cons_append]
  unfold BF
  exact⟨a,b++ys,by rw[List.append_assoc],ha,hb.append g⟩
theorem BF.one {n:Nd} {cs:List TV} (h:NdC n cs):BF [n] cs:=by
 unfold BF
 exact⟨cs,[],by simp,h,by unfold BF;rfl⟩
theorem BF.nil:BF [] []:=by unfold BF;rfl
theorem MA {v:TV} {ks:List Nd} {xs:List TV} (hr:Rd 5 v ks.length xs) (hk:BF ks xs) (st:St) {i:Nat} {k:Int} {l t tl:B8} {js:List Nd} (hi:ks[i]? =some (.mk k l t js tl)):
  ∃u ys,(Ah st [] (.t (ixT 5 v i)) 0 5).map TV.agg=some (.agg [.int .i64 k,.str l,.str t,u,.str tl])/\Rd 5 u js.length ys/\BF js ys/\As u=true:=by
 obtain⟨cs,hc,hx⟩:=hk.get hi
 unfold NdC at hc
 obtain⟨u,ys,rfl,h1,h2⟩:=hc
 refine⟨u,ys,?_,h1,h2,h1.one⟩
 simp only[Ah,Nat.zero_add,Nat.reduceAdd]
 rw[hr.ldx st i 0 (hx 0 _ rfl),hr.ldx st i 1 (hx 1 _ rfl),hr.ldx st i 2 (hx 2 _ rfl),hr.ldx st i 3 (hx 3 _ rfl),hr.ldx st i 4 (hx 4 _ rfl)]
 rfl
theorem Ey {k:Int} {l t tl:B8} {u:TV} (h:As u=true):List.all [.int .i64 k,.str l,.str t,u,.str tl] As=true:=by
 simp only[List.all_cons,h];rfl
mutual
def ES:Nd->Nat
 | .mk _ _ _ ks _=>1+KJ ks
def KJ:List Nd->Nat
 | []=>0
 | n::r=>ES n+KJ r
end
theorem ncnt_pos (n:Nd):1<=ES n:=by cases n;unfold ES;omega
theorem HE:∀ks:List Nd,ks.length<=KJ ks
 | []=>by simp[KJ]
 | n::r=>by
  have h1:=ncnt_pos n
  have h2:=HE r
  simp only[KJ,List.length_cons];omega
theorem HD:∀(ks:List Nd) {i:Nat} {n:Nd} (h:ks[i]? =some n),ES n<=KJ ks
 | [],i,n,h=>by simp at h
 | m::r,0,n,h=>by simp only[List.getElem?_cons_zero,Option.some.injEq]at h;subst h;simp only[KJ];omega
 | m::r,i+1,n,h=>by
  have:=HD r (i:=i) (n:=n) (by simpa using h)
  simp only[KJ];omega
mutual
def DS:Nd->Nat
 | .mk _ l t ks tl=>l.length+t.length+tl.length+HC ks
def HC:List Nd->Nat
 | []=>0
 | n::r=>DS n+HC r
end
mutual
def CF:Nd->B8
 | .mk _ l t ks tl=>l++t++Gi ks++tl
def Gi:List Nd->B8
 | []=>[]
 | n::r=>CF n++Gi r
end
mutual
theorem C8:∀n:Nd,(CF n).length=DS n
 | .mk _ l t ks tl=>by
  have:=Mz ks
  simp only[CF,DS,List.length_append];omega
theorem Mz:∀ks:List Nd,(Gi ks).length=HC ks
 | []=>rfl
 | n::r=>by
  have h1:=C8 n
  have h2:=Mz r
  simp only[Gi,HC,List.length_append];omega
end
theorem Rr (ks:List Nd) (i:Nat) (n:Nd) (h:ks[i]? =some n):HC (ks.take (i+1))=HC (ks.take i)+DS n:=by
 rw[List.take_add_one,h]
 generalize ks.take i=a
 induction a with
 | nil=>simp[HC]
 | cons m r ih=>simp only[Option.toList_some,List.cons_append,HC]at ih⊢;omega
theorem Wm (ks:List Nd) (i:Nat):HC ks=HC (ks.take i)+HC (ks.drop i):=by
 conv=>lhs;rw[<-List.take_append_drop i ks]
 generalize ks.take i=a
 induction a with
 | nil=>simp[HC]
 | cons m r ih=>simp only[List.cons_append,HC]at ih⊢;omega
theorem Lz (ks:List Nd) (i:Nat) (n:Nd) (h:ks[i]? =some n):HC (ks.take i)+DS n<=HC ks:=by
 have h1:=Rr ks i n h
 have h2:=Wm ks (i+1)
 omega
theorem Wl (ks:List Nd) (i:Nat) (n:Nd) (h:ks[i]? =some n):Gi (ks.take (i+1))=Gi (ks.take i)++CF n:=by
 rw[List.take_add_one,h]
 generalize ks.take i=a
 induction a with
 | nil=>simp[Gi]
 | cons m r ih=>simp only[Option.toList_some,List.cons_append,Gi,List.append_assoc]at ih⊢;rw[ih]
theorem Bs {ks:List Nd} {i:Nat} {n:Nd} (h:ks[i]? =some n):n∈ks:=List.mem_of_getElem? h
theorem Xh:∀(n:Nd) {cs:List TV} (hc:NdC n cs) (hl:DS n<=1000000000000000) (hcn:ES n<=1000000000000000) {st:St} {K:Int->St->Prop} (hk:K (DS n:Nat) st),CallT PR GK [.agg cs] [.one (.int .i64)] st K
 | .mk k l t ks tl,cs,hc,hl,hcn,st,K,hk=>by
  simp only[ES]at hcn
  have hkl0:=HE ks
  unfold NdC at hc
  obtain⟨v,xs,rfl,hr,hx⟩:=hc
  simp only[DS]at hl hk
  refine TE k l t v tl st K (Ab hr.isSl ⟨fun s i w n st'=>v=w/\n=(ks.length:Int)/\st=st'/\∃j:Nat,i=(j:Int)/\j<=ks.length/\s=((l.length+t.length+tl.length+HC (ks.take j):Nat):Int),fun _ i _ _ _=>(ks.length-i).toNat,⟨rfl,by rw[hr.lenS],rfl,0,rfl,by omega,?_⟩,?_⟩)
  ·rw[Ai ((l.length:Int)+t.length) (by omega) (by omega),Ai _ (by omega) (by omega)]
   simp only[List.take_zero,HC];omega
  rintro _ _ _ _ _ ⟨rfl,rfl,rfl,j,rfl,h1,rfl⟩
  rw[hr.lenZ,show Int.toNat (j:Int)=j from rfl]
  refine Aa (fun g=>?_) fun g=>?_
  ·have hlt:j<ks.length:=by omega
   have hget:=List.getElem?_eq_getElem hlt
   generalize hn:ks[j]=n at hget
   obtain⟨k',l',t',js,tl'⟩:=n
   obtain⟨u,ys,hld,h2,h3,h4⟩:=MA hr hx st hget
   have hm:=Lz ks j _ hget
   have hcm:=HD ks hget
   have ht:=Rr ks j _ hget
   refine⟨⟨by omega,by omega⟩,Ac hld (Ab (Ey h4) ?_)⟩
   refine Xh (.mk k' l' t' js tl') (by unfold NdC;exact⟨u,ys,rfl,h2,h3⟩) (by omega) (by omega) ?_
   have w1:i64.wrap (((l.length+t.length+tl.length+HC (ks.take j):Nat):Int)+(DS (.mk k' l' t' js tl'):Nat))=((l.length+t.length+tl.length+HC (ks.take (j+1)):Nat):Int):=by
    rw[Ai _ (by omega) (by omega)];omega
   have w2:i64.wrap ((j:Int)+1)=((j+1:Nat):Int):=by rw[Ai _ (by omega) (by omega)];omega
   rw[w1,w2]
   exact⟨⟨rfl,rfl,rfl,j+1,rfl,by omega,rfl⟩,by dsimp only;omega⟩
  ·rw[List.take_of_length_le (by omega)];exact hk
termination_by n=>SizeOf.sizeOf n
decreasing_by
 have:=List.sizeOf_lt_of_mem (Bs hget)
 simp only[Nd.mk.sizeOf_spec]at this⊢
 omega
theorem QK:∀(n:Nd) {cs:List TV} (hc:NdC n cs) {st0 st:St} {b:Nat} {buf:B8} (hb:KU st0 b st buf) (hl:buf.length+DS n<=100000000000000) (hcn:ES n<=1000000000000000) {K:St->Prop} (hk:∀st',KU st0 b st' (buf++CF n)->K st'),CallT PR E7 [.box b 0,.agg cs] [] st K
 | .mk k l t ks tl,cs,hc,st0,st,b,buf,hb,hl,hcn,K,hk=>by
  simp only[ES]at hcn
  have hkl0:=HE ks
  unfold NdC at hc
  obtain⟨v,xs,rfl,hr,hx⟩:=hc
  simp only[DS]at hl
  simp only[CF]at hk
  refine Qi b k l t v tl st K (CR hb (by omega) fun st1 b1=>CR b1 (by rw[List.length_append];omega) fun st2 b2=>Ab hr.isSl ?_)
  refine⟨fun i b' w n k' l' t' w' tl' st'=>TV.box b 0=b'/\v=w/\n=(ks.length:Int)/\tl=tl'/\∃j:Nat,i=(j:Int)/\j<=ks.length/\KU st0 b st' (buf++l++t++Gi (ks.take j)),fun i _ _ _ _ _ _ _ _ _=>(ks.length-i).toNat,⟨rfl,rfl,by rw[hr.lenS],rfl,0,rfl,by omega,by simpa [Gi]using b2⟩,?_⟩
  rintro _ _ _ _ _ _ _ _ _ st3 ⟨rfl,rfl,rfl,rfl,j,rfl,h1,b3⟩
  rw[hr.lenZ,show Int.toNat (j:Int)=j from rfl]
  have hkl:=Mz (ks.take j)
  refine Aa (fun g=>?_) fun g=>?_
  ·have hlt:j<ks.length:=by omega
   have hget:=List.getElem?_eq_getElem hlt
   generalize hn:ks[j]=n at hget
   obtain⟨k',l',t',js,tl'⟩:=n
   obtain⟨u,ys,hld,h2,h3,h4⟩:=MA hr hx st3 hget
   have hm:=Lz ks j _ hget
   have hcm:=HD ks hget
   have ht:=Wl ks j _ hget
   refine⟨⟨by omega,by omega⟩,Ac hld (Ab (Ey h4) ?_)⟩
   refine QK (.mk k' l' t' js tl') (by unfold NdC;exact⟨u,ys,rfl,h2,h3⟩) b3 (by simp only[List.length_append];omega) (by omega) fun st4 b4=>?_
   rw[Ai ((j:Int)+1) (by omega) (by omega)]
   exact⟨⟨rfl,rfl,rfl,rfl,j+1,by omega,by omega,by rw[ht];simpa using b4⟩,by dsimp only;omega⟩
  ·rw[List.take_of_length_le (by omega)]at hkl b3
   exact CR b3 (by simp only[List.length_append];omega) fun st4 b4=>hk st4 (by simpa using b4)
termination_by n=>SizeOf.sizeOf n
decreasing_by
 have:=List.sizeOf_lt_of_mem (Bs hget)
 simp only[Nd.mk.sizeOf_spec]at this⊢
 omega
theorem QS {n:Nd} {cs:List TV} (hc:NdC n cs) (hl:DS n<=100000000000000) (hcn:ES n<=1000000000000000) {st:St} {K:B8->St->Prop} (hk:∀st',Am st st'->K (CF n) st'):CallT PR E8 [.agg cs] [.one (.str)] st K:=by
 have hc0:=hc
 obtain⟨k,l,t,ks,tl⟩:=n
 unfold NdC at hc
 obtain⟨v,xs,rfl,hr,hx⟩:=hc
 refine Qk k l t v tl st K (QK _ hc0 (KU.new (Am.refl st)) (by simpa using hl) hcn fun st1 b1=>?_)
 have hn:=C8 (.mk k l t ks tl)
 exact GS b1 (by simp only[List.nil_append];omega) fun st2 e=>hk st2 e
def IE (k:Int):Bool:=decide (k=2∨k=6∨k=10∨k=11)
theorem leaf_ok {k:Int} {st:St} {K:Bool->St->Prop} (hk:K (IE k) st):CallT PR Ik [.int .i64 k] [.one (.bool)] st K:=by
 unfold IE at hk
 refine R8 k st K ?_
 repeat' first
  | exact Fu (decide_eq_true (by omega)).symm hk
  | exact Fu (decide_eq_false (by omega)).symm hk
  | refine Aa (fun _=>?_) fun _=>?_
mutual
def chk:Nd->Int->Int->Except Int Int
 | .mk k l t ks tl,d,s=>if 192<d then .error 9 else if 524288<=s then .error 10 else if k<1∨11<k then .error 6
  else if IE k=true/\(ks.length≠0∨tl≠ [])then .error 1 else HN ks (d+1) (s+1)
def HN:List Nd->Int->Int->Except Int Int
 | [],d,s=> .ok s
 | n::r,d,s=>match chk n d s with | .error e=> .error e | .ok s'=>HN r d s'
end
end
section
mutual
theorem RQ:∀(n:Nd) {d s s':Int},s<=524288->chk n d s= .ok s'->s<=s'/\s'<=524288
 | .mk k l t ks tl,d,s,s',hs,h=>by
  unfold chk at h
  split at h
  ·cases h
  split at h
  ·cases h
  split at h
  ·cases h
  split at h
  ·cases h
  have:=PY ks (by omega) h
  omega
theorem PY:∀(ks:List Nd) {d s s':Int},s<=524288->HN ks d s= .ok s'->s<=s'/\s'<=524288
 | [],d,s,s',hs,h=>by unfold HN at h;cases h;omega
 | n::r,d,s,s',hs,h=>by
  unfold HN at h
  split at h
  ·cases h
  ·rename_i s1 h1
   have h2:=RQ n hs h1
   have h3:=PY r h2.2 h
   omega
end
mutual
theorem Iw:∀(n:Nd) {d s e:Int},chk n d s= .error e->e≠0
 | .mk k l t ks tl,d,s,e,h=>by
  unfold chk at h
  split at h
  ·cases h;decide
  split at h
  ·cases h;decide
  split at h
  ·cases h;decide
  split at h
  ·cases h;decide
  exact Nk ks h
theorem Nk:∀(ks:List Nd) {d s e:Int},HN ks d s= .error e->e≠0
 | [],d,s,e,h=>by unfold HN at h;cases h
 | n::r,d,s,e,h=>by
  unfold HN at h
  split at h
  ·rename_i e1 h1;cases h;exact Iw n h1
  ·exact Nk r h
end
theorem Ar {k:IntKind} {n:Int} {f:Int->Prop} (h:f n):Af (.int k) (.int k n) f:=Ab (by simp) h
def X0 (st0:St) (b:Nat) (st:St) (s:Int):Prop:=Am st0 st/\st0.nb<=b/\st.box b= .cells [.int .i64 s]
theorem QU:∀(n:Nd) {cs:List TV} (hc:NdC n cs) {d s:Int} (hd0:0<=d) (hd:d<=200) (hs0:0<=s) (hs:s<=524288) (hcn:ES n<=1000000000000000) {st0 st:St} {b:Nat} (hb:X0 st0 b st s) {K:Int->St->Prop}
  (hk1:∀s' st',chk n d s= .ok s'->X0 st0 b st' s'->K 0 st') (hk2:∀e st',chk n d s= .error e->Am st0 st'->K e st'),CallT PR D7 [.agg cs,.int .i64 d,.box b 0] [.one (.int .i64)] st K
 | .mk k l t ks tl,cs,hc,d,s,hd0,hd,hs0,hs,hcn,st0,st,b,hb,K,hk1,hk2=>by
  simp only[ES]at hcn
  have hkl0:=HE ks
  unfold NdC at hc
  obtain⟨v,xs,rfl,hr,hx⟩:=hc
  unfold chk at hk1 hk2
  obtain⟨hb1,hb2,hb3⟩:=hb
  refine Qj k l t v tl d b st K (Aa (fun g=>?_) fun g=>?_)
  ·rw[if_pos g]at hk2;exact hk2 _ _ rfl hb1
  rw[if_neg g]at hk1 hk2
  refine Ac (x:= .int .i64 s) (by simp[Ad,hb3]) ?_
  refine Ar (Xl hb3 (by simp) ?_)
  rw[Ai (s+1) (by omega) (by omega)]
  obtain⟨st1,hst1⟩:∃st1,st1=st.put b (.cells (setAll [.int .i64 s] 0 [.int .i64 (s+1)])):=⟨_,rfl⟩
  have hb4:st1.box b= .cells [.int .i64 (s+1)]:=by rw[hst1,Cs];rfl
  have hb5:X0 st0 b st1 (s+1):=⟨by rw[hst1];exact hb1.put hb2 _,hb2,hb4⟩
  rw[<-hst1]
  refine Ac (x:= .int .i64 (s+1)) (by simp[Ad,hb4]) (Ar (Aa (fun g2=>?_) fun g2=>?_))
  ·rw[if_pos (by omega)]at hk2;exact hk2 _ _ rfl hb5.1
  rw[if_neg (by omega)]at hk1 hk2
  refine Aa (fun g3=>?_) fun g3=>Aa (fun g4=>?_) fun g4=>?_
  ·rw[if_pos (by omega)]at hk2;exact hk2 _ _ rfl hb5.1
  ·rw[if_pos (by omega)]at hk2;exact hk2 _ _ rfl hb5.1
  rw[if_neg (by omega)]at hk1 hk2
  refine leaf_ok (Ap (fun hl=>Ab hr.isSl ?_) fun hl=>Ab hr.isSl ?_)
  case' refine_1=>
   rw[hr.lenS]
   refine Aa (fun g5=>?_) fun g5=>Aa (fun g6=>?_) fun g6=>Ab hr.isSl ?_
   ·rw[if_pos ⟨hl,.inl (by omega)⟩]at hk2;exact hk2 _ _ rfl hb5.1
   ·rw[if_pos ⟨hl,.inr g6⟩]at hk2;exact hk2 _ _ rfl hb5.1
   rw[if_neg (by rintro⟨_,h | h⟩;omega;exact g6 h)]at hk1 hk2
  case' refine_2=>rw[if_neg (by rintro⟨h,_⟩;rw[hl]at h;cases h)]at hk1 hk2
  all_goals
   refine⟨fun i d' sn v' n st'=>v=v'/\TV.box b 0=sn/\d=d'/\n=(ks.length:Int)/\∃(j:Nat) (s1:Int),i=(j:Int)/\j<=ks.length/\X0 st0 b st' s1/\HN ks (d+1) (s+1)=HN (ks.drop j) (d+1) s1/\0<=s1/\s1<=524288,
    fun i _ _ _ _ _=>(ks.length-i).toNat,⟨rfl,rfl,rfl,by first | rw[hr.lenS] | rfl,0,s+1,rfl,by omega,hb5,rfl,by omega,by omega⟩,?_⟩
   rintro _ _ _ _ _ st2 ⟨rfl,rfl,rfl,rfl,j,s1,rfl,h1,hb6,heq,h2,h3⟩
   rw[hr.lenZ,show Int.toNat (j:Int)=j from rfl]
   refine Aa (fun q=>?_) fun q=>?_
   ·have hlt:j<ks.length:=by omega
    have hget:=List.getElem?_eq_getElem hlt
    have hdrop:=List.drop_eq_getElem_cons hlt
    generalize hn:ks[j]=n at hget hdrop
    obtain⟨k',l',t',js,tl'⟩:=n
    obtain⟨u,ys,hld,hu1,hu2,hu3⟩:=MA hr hx st2 hget
    have hcm:=HD ks hget
    rw[hdrop,HN]at heq
    refine⟨⟨by omega,by omega⟩,Ac hld (Ab (Ey hu3) ?_)⟩
    rw[Ai (d+1) (by omega) (by omega),Ai ((j:Int)+1) (by omega) (by omega)]
    refine QU (.mk k' l' t' js tl') (by unfold NdC;exact⟨u,ys,rfl,hu1,hu2⟩) (by omega) (by omega) h2 h3 (by omega) hb6 (fun s' st3 hc hb7=>?_) fun e st3 hc hb7=>?_
    ·rw[hc]at heq
     have:=RQ _ h3 hc
     exact Aa (fun h=>absurd rfl h) fun _=>⟨⟨rfl,rfl,rfl,rfl,j+1,s',by omega,by omega,hb7,heq,by omega,by omega⟩,by dsimp only;omega⟩
    ·rw[hc]at heq
     exact Aa (fun _=>hk2 e st3 heq hb7) fun h=>absurd (Decidable.not_not.1 h) (Iw _ hc)
   ·rw[List.drop_of_length_le (by omega),HN]at heq
    exact hk1 _ _ heq hb6
termination_by n=>SizeOf.sizeOf n
decreasing_by
 all_goals
  have:=List.sizeOf_lt_of_mem (Bs hget)
  simp only[Nd.mk.sizeOf_spec]at this⊢
  omega
def HM (n:Nd):Int:=match chk n 1 0 with
 | .error e=>e
 | .ok _=>if 1048576<DS n then 10 else 0
theorem QV {n:Nd} {cs:List TV} (hc:NdC n cs) (hl:DS n<=1000000000000000) (hcn:ES n<=1000000000000000) {st:St} {K:Int->St->Prop} (hk:∀st',Am st st'->K (HM n) st'):CallT PR E9 [.agg cs] [.one (.int .i64)] st K:=by
 have hc0:=hc
 obtain⟨k,l,t,ks,tl⟩:=n
 unfold NdC at hc
 obtain⟨v,xs,rfl,hr,hx⟩:=hc
 unfold HM at hk
 refine Ql k l t v tl st K (Xl (Fq st _ _) (by simp) (QU _ hc0 (d:=1) (s:=0) (by decide) (by decide) (by decide) (by decide) hcn (st0:=st) ⟨?_,Nat.le_refl _,by rw[Cs];rfl⟩ (fun s' st' hc hb=>?_) fun e st' hc hb=>?_))
 ·exact((Am.refl st).push _ _).put (Nat.le_refl _) _
 ·rw[hc]at hk
  refine Aa (fun h=>absurd rfl h) fun _=>Xh _ hc0 hl hcn (Aa (fun g=>?_) fun g=>?_)
  ·have:=hk _ hb.1
   rw[if_pos (by omega)]at this;exact this
  ·have:=hk _ hb.1
   rw[if_neg (by omega)]at this;exact this
 ·rw[hc]at hk
  exact Aa (fun _=>hk _ hb) fun h=>absurd (Decidable.not_not.1 h) (Iw _ hc)
end
theorem TK:∀(a b:Nd) {cs ds:List TV} (hc:NdC a cs) (hd:NdC b ds) (hcn:ES a<=1000000000000000) {st:St} {K:Bool->St->Prop} (hk1:a=b->K true st) (hk2:a≠b->K false st),
  CallT PR FW [.agg cs,.agg ds] [.one (.bool)] st K
 | .mk k l t ks tl,.mk k' l' t' js tl',cs,ds,hc,hd,hcn,st,K,hk1,hk2=>by
  simp only[ES]at hcn
  have hkl0:=HE ks
  unfold NdC at hc hd
  obtain⟨v,xs,rfl,hr,hx⟩:=hc
  obtain⟨u,ys,rfl,hr',hy⟩:=hd
  refine R9 k l t v tl k' l' t' u tl' st K (Aa (fun g=>hk2 fun h=>by cases h;exact g rfl) fun g1=>Aa (fun g=>hk2 fun h=>by cases h;exact g rfl) fun g2=>Aa (fun g=>hk2 fun h=>by cases h;exact g rfl) fun g3=>
   Aa (fun g=>hk2 fun h=>by cases h;exact g rfl) fun g4=>Ab hr.isSl (Ab hr'.isSl ?_))
  have g1:=Decidable.not_not.1 g1
  have g2:=Decidable.not_not.1 g2
  have g3:=Decidable.not_not.1 g3
  have g4:=Decidable.not_not.1 g4
  subst g1 g2 g3 g4
  rw[hr.lenS,hr'.lenS]
  refine Aa (fun g=>hk2 fun h=>by cases h;exact g rfl) fun g5=>Ab hr.isSl ?_
  have hlen:ks.length=js.length:=by omega
  refine⟨fun i n k1 l1 t1 v1 tl1 k2 l2 t2 v2 tl2 st'=>n=(ks.length:Int)/\v=v1/\u=v2/\st=st'/\∃j:Nat,i=(j:Int)/\j<=ks.length/\ks.take j=js.take j,fun i _ _ _ _ _ _ _ _ _ _ _ _=>(ks.length-i).toNat,
   ⟨rfl,rfl,rfl,rfl,0,rfl,by omega,by simp⟩,?_⟩
  rintro _ _ _ _ _ _ _ _ _ _ _ _ _ ⟨rfl,rfl,rfl,rfl,j,rfl,h1,heq⟩
  rw[hr.lenZ,hr'.lenZ,show Int.toNat (j:Int)=j from rfl]
  refine Aa (fun q=>?_) fun q=>?_
  ·have hlt:j<ks.length:=by omega
   have hlt':j<js.length:=by omega
   have hget:=List.getElem?_eq_getElem hlt
   have hget':=List.getElem?_eq_getElem hlt'
   generalize hn:ks[j]=n at hget
   generalize hm:js[j]=m at hget'
   obtain⟨k1,l1,t1,a1,tl1⟩:=n
   obtain⟨k2,l2,t2,a2,tl2⟩:=m
   have hcm:=HD ks hget
   obtain⟨u1,ys1,hld,hu1,hu2,hu3⟩:=MA hr hx GU hget
   obtain⟨u2,ys2,hld',hv1,hv2,hv3⟩:=MA hr' hy GU hget'
   refine⟨⟨by omega,by omega⟩,Ac hld ⟨⟨by omega,by omega⟩,Ac hld' ?_⟩⟩
   refine TK (.mk k1 l1 t1 a1 tl1) (.mk k2 l2 t2 a2 tl2) (by unfold NdC;exact⟨u1,ys1,rfl,hu1,hu2⟩) (by unfold NdC;exact⟨u2,ys2,rfl,hv1,hv2⟩) (by omega) (fun he=>?_) fun he=>?_
   ·refine Ap (fun h=>by cases h) fun _=>?_
    rw[Ai ((j:Int)+1) (by omega) (by omega)]
    exact⟨⟨rfl,rfl,rfl,rfl,j+1,by omega,by omega,by rw[List.take_add_one,List.take_add_one,heq,hget,hget',he]⟩,by dsimp only;omega⟩
   ·refine Ap (fun _=>hk2 fun h=>he ?_) fun h=>by cases h
    cases h
    rw[hget]at hget'
    exact Option.some.inj hget'
  ·rw[List.take_of_length_le (by omega),List.take_of_length_le (by omega)]at heq
   exact hk1 (by rw[heq])
termination_by a=>SizeOf.sizeOf a
decreasing_by
 have:=List.sizeOf_lt_of_mem (Bs hget)
 simp only[Nd.mk.sizeOf_spec]at this⊢
 omega
end Go.TVF
section
namespace Go.Proofs
open Go.Shelf
def Tryz.lays155_ren:Go.Shelf.Ren:=⟨fun | 155=>146 | 154=>226 | 138=>280 | 165=>275 | 143=>281 | 166=>196 | 197=>282 | 169=>123 | 195=>308 | 218=>309 | 240=>266 | 241=>305 | 219=>310 | 260=>311 | 276=>300 | 277=>321 | 217=>322 | 225=>323 | 224=>324 | 267=>325 | 266=>330 | 314=>331 | n=>n,fun | 9=>9 | 3=>3 | 4=>4 | 72=>188 | 0=>0 | 76=>254 | 105=>308 | 21=>21 | 5=>5 | 70=>186 | 20=>20 | 37=>59 | 75=>253 | 127=>256 | 164=>315 | 46=>267 | 119=>330 | 139=>333 | 138=>332 | 146=>319 | 51=>318 | 80=>190 | n=>n,fun | 1=>0 | 3=>1 | 4=>2 | n=>n⟩
theorem Tryz.lays155:Go.Proofs.Lays.n155 Tryz.prog Tryz.lays155_ren:={
 mixed:=by kernel_rfl
 f138:=Tryz.func280.trans (congrArg some (by kernel_rfl))
 f143:=Tryz.func281.trans (congrArg some (by kernel_rfl))
 f154:=Tryz.func226.trans (congrArg some (by kernel_rfl))
 f155:=Tryz.func146.trans (congrArg some (by kernel_rfl))
 f165:=Tryz.func275.trans (congrArg some (by kernel_rfl))
 f166:=Tryz.func196.trans (congrArg some (by kernel_rfl))
 f169:=Tryz.func123.trans (congrArg some (by kernel_rfl))
 f195:=Tryz.func308.trans (congrArg some (by kernel_rfl))
 f197:=Tryz.func282.trans (congrArg some (by kernel_rfl))
 f217:=Tryz.func322.trans (congrArg some (by kernel_rfl))
 f218:=Tryz.func309.trans (congrArg some (by kernel_rfl))
 f219:=Tryz.func310.trans (congrArg some (by kernel_rfl))
 f224:=Tryz.func324.trans (congrArg some (by kernel_rfl))
 f225:=Tryz.func323.trans (congrArg some (by kernel_rfl))
 f240:=Tryz.func266.trans (congrArg some (by kernel_rfl))
 f241:=Tryz.func305.trans (congrArg some (by kernel_rfl))
 f260:=Tryz.func311.trans (congrArg some (by kernel_rfl))
 f266:=Tryz.func330.trans (congrArg some (by kernel_rfl))
 f267:=Tryz.func325.trans (congrArg some (by kernel_rfl))
 f276:=Tryz.func300.trans (congrArg some (by kernel_rfl))
 f277:=Tryz.func321.trans (congrArg some (by kernel_rfl))
 f314:=Tryz.func331.trans (congrArg some (by kernel_rfl))
 t0:=Tryz.underlying0
 a0:=Tryz.isAgg0
 z0:=Tryz.sizeOf0
 v0:=Tryz.zeroValue0
 t3:=Tryz.underlying3
 a3:=Tryz.isAgg3
 z3:=Tryz.sizeOf3
 v3:=Tryz.zeroValue3
 t4:=Tryz.underlying4
 a4:=Tryz.isAgg4
 z4:=Tryz.sizeOf4
 v4:=Tryz.zeroValue4
 t5:=Tryz.underlying5
 a5:=Tryz.isAgg5
 z5:=Tryz.sizeOf5
 v5:=Tryz.zeroValue5
 t9:=Tryz.underlying9
 a9:=Tryz.isAgg9
 z9:=Tryz.sizeOf9
 v9:=Tryz.zeroValue9
 t20:=Tryz.underlying20
 a20:=Tryz.isAgg20
 z20:=Tryz.sizeOf20
 v20:=Tryz.zeroValue20
 t21:=Tryz.underlying21
 a21:=Tryz.isAgg21
 z21:=Tryz.sizeOf21
 v21:=Tryz.zeroValue21
 t37:=Tryz.underlying59
 a37:=Tryz.isAgg59
 z37:=Tryz.sizeOf59
 v37:=Tryz.zeroValue59
 t46:=Tryz.underlying267
 a46:=Tryz.isAgg267
 z46:=Tryz.sizeOf267
 v46:=Tryz.zeroValue267
 t51:=Tryz.underlying318
 a51:=Tryz.isAgg318
 z51:=Tryz.sizeOf318
 v51:=Tryz.zeroValue318
 t70:=Tryz.underlying186
 a70:=Tryz.isAgg186
 z70:=Tryz.sizeOf186
 v70:=Tryz.zeroValue186
 t72:=Tryz.underlying188
 a72:=Tryz.isAgg188
 z72:=Tryz.sizeOf188
 v72:=Tryz.zeroValue188
 t75:=Tryz.underlying253
 a75:=Tryz.isAgg253
 z75:=Tryz.sizeOf253
 v75:=Tryz.zeroValue253
 t76:=Tryz.underlying254
 a76:=Tryz.isAgg254
 z76:=Tryz.sizeOf254
 v76:=Tryz.zeroValue254
 t105:=Tryz.underlying308
 a105:=Tryz.isAgg308
 z105:=Tryz.sizeOf308
 v105:=Tryz.zeroValue308
 t119:=Tryz.underlying330
 a119:=Tryz.isAgg330
 z119:=Tryz.sizeOf330
 t127:=Tryz.underlying256
 a127:=Tryz.isAgg256
 z127:=Tryz.sizeOf256
 v127:=Tryz.zeroValue256
 t138:=Tryz.underlying332
 a138:=Tryz.isAgg332
 z138:=Tryz.sizeOf332
 v138:=Tryz.zeroValue332
 t139:=Tryz.underlying333
 a139:=Tryz.isAgg333
 z139:=Tryz.sizeOf333
 v139:=Tryz.zeroValue333
 t146:=Tryz.underlying319
 a146:=Tryz.isAgg319
 z146:=Tryz.sizeOf319
 v146:=Tryz.zeroValue319
 t164:=Tryz.underlying315
 a164:=Tryz.isAgg315
 z164:=Tryz.sizeOf315
 v164:=Tryz.zeroValue315
 g1:=by kernel_rfl
 g3:=by kernel_rfl
 g4:=by kernel_rfl}
theorem Tryz.Builder_Extra_155:Builder.Extra Tryz.prog Tryz.lays155_ren:={
 sizeBuilder:=by kernel_rfl
 liesBuilder:=by kernel_rfl
 t5:=Tryz.underlying5
 a5:=Tryz.isAgg5
 z5:=Tryz.sizeOf5
 v5:=Tryz.zeroValue5
 infoByte:=by kernel_rfl
 cellsByte:=by kernel_rfl
 sizeByte:=by kernel_rfl
 neB5:=by decide}
open Go.RowKit Go.Lib in
theorem Tryz.strings_ReplaceAll (s old new:ByteArray) (m:Int) (w:World) (hs:s.size<4294967281) (hm:w.cell? ⟨0,0,none⟩=some (.int .i64 m)) (h1:1<=old.size) (hlen:s.size+Lib.countB s old*new.size<=140737488355328):
  Calls Tryz.prog 146 #[.string s,.string old,.string new] w fun e w'=>
   e= .returned (.string ⟨(Lib.replaceAll s.data.toList old.data.toList new.data.toList).toArray⟩)/\Below w.heap.size w w':=Any.strings_ReplaceAll Tryz.lays155 Tryz.Builder_Extra_155 s old new m w hs hm h1 hlen
end Go.Proofs
end
section
namespace Go.TVF
open Go.IntKind(i64 u8)
open Go Go.Proofs
open Go.RowKit (Below)
def Qt (q:UInt8) (new:B8) (c:UInt8):B8:=if c=q then new else [c]
theorem index1 (q:UInt8):∀s:B8,(Lib.index s [q]= -1/\q∉s)∨∃i:Nat,Lib.index s [q]=i/\q∉s.take i/\i<s.length/\s=s.take i++q::s.drop (i+1)
 | []=> .inl ⟨by simp[Lib.index],by simp⟩
 | c::l=>by
  have hp: [q].isPrefixOf (c::l)=(q==c):=by simp[List.isPrefixOf]
  unfold Lib.index
  rw[hp]
  by_cases hc:q=c
  ·subst hc
   exact .inr ⟨0,by simp,by simp,by simp,by simp⟩
  ·have hb:(q==c)=false:=by simpa using hc
   rw[hb]
   rcases index1 q l with⟨h1,h2⟩ | ⟨i,h1,h2,h3,h4⟩
   ·left
    rw[h1]
    exact⟨by simp,by simp[hc,h2]⟩
   ·right
    refine⟨i+1,?_,?_,by simp;omega,?_⟩
    ·rw[h1]
     have:((i:Int)== -1)=false:=by simp
     simp[this]
    ·simp[hc,h2]
    ·simp only[List.take_succ_cons,List.drop_succ_cons,List.cons_append]
     rw[<-h4]
theorem JW (q:UInt8) (new:B8):∀s:B8,q∉s->s.flatMap (Qt q new)=s
 | [],_=>rfl
 | c::l,h=>by
  simp only[List.mem_cons,not_or]at h
  rw[List.flatMap_cons,JW q new l h.2]
  simp[Qt,Ne.symm h.1]
theorem count1 (q:UInt8) (new:B8):∀(n:Nat) (s:B8),s.length<=n->Lib.count s [q]<=s.length/\Lib.replaceK [q] new (Lib.count s [q]) s=s.flatMap (Qt q new):=by
 intro n
 induction n with
 | zero=>
  intro s hs
  have:s=[]:=List.eq_nil_of_length_eq_zero (by omega)
  subst this
  rw[Lib.count_miss (by simp[Lib.index])]
  exact⟨by simp,rfl⟩
 | succ n ih=>
  intro s hs
  rcases index1 q s with⟨h1,h2⟩ | ⟨i,h1,h2,h3,h4⟩
  ·rw[Lib.count_miss h1]
   exact⟨by simp,by rw[JW q new s h2];rfl⟩
  ·rw[Lib.count_hit (by simp) h1]
   obtain⟨c1,c2⟩:=ih (s.drop (i+1)) (by simp;omega)
   have hl: [q].length=1:=rfl
   rw[hl]
   refine⟨by simp at c1⊢;omega,?_⟩
   rw[Nat.add_comm,Lib.replaceK_hit _ _ _ _ i h1,hl,c2]
   conv=>rhs;rw[h4]
   rw[List.flatMap_append,List.flatMap_cons,JW q new _ h2]
   simp[Qt]
theorem OQ {g:Ghost} {w:World} {x y z:TV} {vs:List Value} (h:AR g w [x,y,z] vs):∃v u t,vs=[v,u,t]/\Rel g w x v/\Rel g w y u/\Rel g w z t:=by
 obtain⟨v,h1,h2⟩:=h.get? (i:=0) rfl
 obtain⟨u,h3,h4⟩:=h.get? (i:=1) rfl
 obtain⟨t,h5,h6⟩:=h.get? (i:=2) rfl
 have hl:=h.1
 match vs,hl with
 | [a,b,c],_=>simp at h1 h3 h5;subst h1 h3 h5;exact⟨_,_,_,rfl,h2,h4,h6⟩
theorem Kg {s:B8} {q a b:UInt8} {st:St} {K:B8->St->Prop} (hne: [q]≠ [a,b]) (hl:s.length<=2000000000) (hk:K (s.flatMap (Qt q [a,b])) st):
  CallT PR AH [.str s,.str [q],.str [a,b]] [.one (.str)] st K:=by
 refine CI (fun _ _=>Tryz.call146 _ _) fun g w vargs sim hr=>?_
 obtain⟨v1,v2,v3,rfl,h1,h2,h3⟩:=OQ hr
 rw[Bf h1,Bf h2,Bf h3]
 obtain⟨_,m,hm⟩:=sim.glob w sim.below
 obtain⟨c1,c2⟩:=count1 q [a,b] s.length s (Nat.le_refl _)
 have hcB:Lib.countB ⟨s.toArray⟩ ⟨#[q]⟩=Lib.count s [q]:=rfl
 refine Calls.mono (Tryz.strings_ReplaceAll ⟨s.toArray⟩ ⟨#[q]⟩ ⟨#[a,b]⟩ m w ?_ hm ?_ ?_) ?_
 ·show s.toArray.size<_
  simp;omega
 ·show 1<=(#[q]:Array UInt8).size
  simp
 ·rw[hcB]
  show s.toArray.size+_*(#[a,b]:Array UInt8).size<=_
  simp;omega
 ·rintro e w' ⟨rfl,hb⟩
  obtain⟨s',e'⟩:=sim.grown hb
  have hv:Lib.replaceAll s [q] [a,b]=s.flatMap (Qt q [a,b]):=by
   unfold Lib.replaceAll Lib.replace
   rw[if_neg (by simp),<-c2]
   congr 1
  refine⟨_,rfl,.str (s.flatMap (Qt q [a,b])),st,g,hk,s',?_,e'⟩
  show Rel g w' _ (.string ⟨(Lib.replaceAll s [q] [a,b]).toArray⟩)
  rw[hv]
  exact Rel.str _
end Go.TVF
end
namespace Go.TVF
open Go.IntKind(i64 u8)
open Go Go.Proofs
def letB (c:Int):Bool:=decide (97<=c/\c<=122∨65<=c/\c<=90)
def Cr (c:Int):Bool:=decide (97<=c/\c<=122∨65<=c/\c<=90∨48<=c/\c<=57∨c=43∨c=45∨c=46∨c=58)
def dOk (a b:Int):Bool:=decide (((a=9∨(32<=a/\a<=126))/\33<=b/\b<=126/\a≠b)/\Cr a=false/\Cr b=false)
def lOk (a b c d e:Int):Bool:=decide (1<=a/\a<=48/\1<=b/\b<=65536/\1<=c/\c<=1048576/\0<=d/\d<=1024/\0<=e/\e<=65536)
theorem WG {c:Int} {st:St} {K:Bool->St->Prop} (hk:K (letB c) st):CallT PR FB [.int .u8 c] [.one (.bool)] st K:=by
 unfold letB at hk
 refine NB c st K ?_
 repeat' first
  | exact Fu (decide_eq_true (by omega)).symm hk
  | exact Fu (decide_eq_false (by omega)).symm hk
  | exact Fu (decide_eq_decide.2 (by omega)) hk
  | refine Aa (fun _=>?_) fun _=>?_
theorem OG {c:Int} {st:St} {K:Bool->St->Prop} (hk:K (Cr c) st):CallT PR B0 [.int .u8 c] [.one (.bool)] st K:=by
 unfold Cr at hk
 refine LV c st K (WG (Ap (fun h=>?_) fun h=>?_))
 ·have h:=of_decide_eq_true h
  exact Fu (decide_eq_true (by omega)).symm hk
 ·have h:=of_decide_eq_false h
  repeat' first
   | exact Fu (decide_eq_true (by omega)).symm hk
   | exact Fu (decide_eq_false (by omega)).symm hk
   | exact Fu (decide_eq_decide.2 (by omega)) hk
   | refine Aa (fun _=>?_) fun _=>?_
theorem HG {a b:Int} {x y:Bool} {st:St} {K:Bool->St->Prop} (hk:K (dOk a b) st):CallT PR B5 [.agg [.int .u8 a,.int .u8 b,.bool x,.bool y]] [.one (.bool)] st K:=by
 unfold dOk at hk
 have no:¬(((a=9∨(32<=a/\a<=126))/\33<=b/\b<=126/\a≠b)/\Cr a=false/\Cr b=false)->K false st:=fun h=>Fu (decide_eq_false h).symm hk
 have yes:((a=9∨(32<=a/\a<=126))/\33<=b/\b<=126/\a≠b)->Cr a=false->K (!Cr b) st:=fun h h1=>by
  cases hb:Cr b with
  | true=>exact no fun hh=>by rw[hb]at hh;exact absurd hh.2.2 (by decide)
  | false=>exact Fu (decide_eq_true ⟨h,h1,hb⟩).symm hk
 refine Oj a b x y st K ?_
 repeat' first
  | exact no (by omega)
  | refine Aa (fun _=>?_) fun _=>?_
 all_goals
  refine OG (Ap (fun h=>?_) fun h=>no fun hh=>by rw[hh.2.1]at h;cases h)
  simp only[Bool.not_eq_true']at h
  exact OG (yes (by omega) h)
theorem We {a b c d e:Int} {st:St} {K:Bool->St->Prop} (hk:K (lOk a b c d e) st):CallT PR Gl [.agg [.int .i64 a,.int .i64 b,.int .i64 c,.int .i64 d,.int .i64 e]] [.one (.bool)] st K:=by
 unfold lOk at hk
 refine Of a b c d e st K ?_
 repeat' first
  | exact Fu (decide_eq_false (by omega)).symm hk
  | exact Fu (decide_eq_decide.2 (by omega)) hk
  | refine Aa (fun _=>?_) fun _=>?_
def Lk:B8:=[116,114,117,101]
def Jl:B8:=[102,97,108,115,101]
def CZ (ty qd:Bool) (s:B8):Sc:=
 if ty=false∨qd=true then tkT s else if s=[]then scK 0 else if s=Lk then tkB true else if s=Jl then tkB false
 else if (dcP s).2.2.2=0 then tkN (dcP s).1 (dcP s).2.1 (dcP s).2.2.1
 else if (tmP s).2.2.2.2=0 then tkM (tmP s).1 (tmP s).2.1 (tmP s).2.2.1 (tmP s).2.2.2.1 else tkT s
theorem JC (ty qd:Bool) (s:B8):(CZ ty qd s).bytes=[]:=by
 unfold CZ
 repeat' split
 all_goals rfl
theorem Vq {s:B8} {k:Nat} {c:UInt8} (hc:c≠0) (h:b0 s k=c):s=s.take k++c::s.drop (k+1):=by
 have hk:=NZ hc h
 have h1:s.drop k=c::s.drop (k+1):=by
  rw[List.drop_eq_getElem_cons hk]
  congr 1
  unfold b0 at h
  rw[List.getD_eq_getElem?_getD,List.getElem?_eq_getElem hk]at h
  exact h
 rw[<-h1,List.take_append_drop]
theorem Xi {s:B8} {k:Nat} (h:∀i,i<k->AF (b0 s i)):∀d,d∈s.take k->AF d:=by
 intro d hd
 obtain⟨i,hi,rfl⟩:=List.mem_iff_getElem.1 hd
 rw[List.length_take]at hi
 have:=h i (by omega)
 unfold b0 at this
 rw[List.getD_eq_getElem?_getD,List.getElem?_eq_getElem (by omega)]at this
 rw[List.getElem_take]
 exact this
theorem Yg {s:B8} (h:(tmP s).2.2.2.2=0):(dcP s).2.2.2=3:=by
 have key:∃a c r,s=a++c::r/\a≠ []/\(∀d,d∈a->AF d)/\(c=45∨c=58):=by
  by_cases hd:Eu s
  ·obtain⟨⟨h0,h1⟩,⟨h2,h3⟩,h4,_⟩:=hd
   have e:=Vq (by decide) h4
   refine⟨_,_,_,e,fun h=>?_,Xi fun i hi=>?_,.inl rfl⟩
   ·have:=NZ (by decide) h4
    have h':=congrArg List.length h
    rw[List.length_take,List.length_nil]at h';omega
   ·have:i=0∨i=1∨i=2∨i=3:=by omega
    rcases this with rfl | rfl | rfl | rfl<;>assumption
  ·have hc:LF s:=by
    apply Decidable.byContradiction
    intro hn
    unfold tmP at h
    rw[if_neg hd]at h
    have:HL s=none:=by unfold HL;rw[if_neg hn]
    rw[this]at h
    exact absurd h (by decide)
   obtain⟨⟨h0,h1⟩,h4,_⟩:=hc
   have e:=Vq (by decide) h4
   refine⟨_,_,_,e,fun h=>?_,Xi fun i hi=>?_,.inr rfl⟩
   ·have:=NZ (by decide) h4
    have h':=congrArg List.length h
    rw[List.length_take,List.length_nil]at h';omega
   ·have:i=0∨i=1:=by omega
    rcases this with rfl | rfl<;>assumption
 obtain⟨a,c,r,e,h1,h2,h3⟩:=key
 have hh:AF (s.getD 0 0):=by rw[e];exact Wv h2 h1
 refine(dcP_err _).2 ?_
 rw[show Su s=0 from if_neg fun e=>by rw[e]at hh;revert hh;decide,List.drop_zero,e]
 exact not_isQ h2 h3
def CQ (s:B8):Prop:=∀c,c∈s->Cr (c.toNat:Int)=true
theorem CQ.app {a b:B8} (h:CQ a) (k:CQ b):CQ (a++b):=fun c hc=>(List.mem_append.1 hc).elim (h c) (k c)
theorem CQ.cons {c:UInt8} {b:B8} (h:Cr (c.toNat:Int)=true) (k:CQ b):CQ (c::b):=fun d hd=>by
 rcases List.mem_cons.1 hd with rfl | hd
 ·exact h
 ·exact k d hd
theorem CQ.nil:CQ []:=fun c hc=>by cases hc
theorem CQ.one {c:UInt8} (h:Cr (c.toNat:Int)=true):CQ [c]:= .cons h .nil
theorem AF.spec {c:UInt8} (h:AF c):Cr (c.toNat:Int)=true:=by
 unfold AF at h;unfold Cr;rw[decide_eq_true_eq];omega
theorem CQ.dg {s:B8} (h:∀c,c∈s->AF c):CQ s:=fun c hc=>(h c hc).spec
theorem s45:Cr ((45:UInt8).toNat:Int)=true:=by decide
theorem s46:Cr ((46:UInt8).toNat:Int)=true:=by decide
theorem s58:Cr ((58:UInt8).toNat:Int)=true:=by decide
theorem ZQ:Cr ((101:UInt8).toNat:Int)=true:=by decide
theorem s84:Cr ((84:UInt8).toNat:Int)=true:=by decide
theorem s90:Cr ((90:UInt8).toNat:Int)=true:=by decide
theorem s43:Cr ((43:UInt8).toNat:Int)=true:=by decide
theorem s48:Cr ((48:UInt8).toNat:Int)=true:=by decide
theorem YY (p:Int):CQ (MH p):=by
 unfold MH
 refine .cons ZQ ?_
 split
 ·exact .cons s45 (.dg (LR _))
 ·exact .dg (LR _)
theorem Um (n:Nat):CQ (List.replicate n 48):=fun c hc=>by rw[(List.mem_replicate.1 hc).2];exact s48
theorem dcT_spec {neg:Bool} {dg:B8} {ex:Int} (h:Dk neg dg ex):CQ (dcT neg dg ex):=by
 by_cases hn:dg=[]
 ·unfold dcT
  rw[if_pos hn]
  exact .one s48
 obtain⟨_,hd,_⟩:=h.2 hn
 have hw:CQ dg:= .dg hd
 have tm:∀n:Nat,CQ (dg.take n):=fun n c hc=>hw c (List.mem_of_mem_take hc)
 have dm:∀n:Nat,CQ (dg.drop n):=fun n c hc=>hw c (List.mem_of_mem_drop hc)
 unfold dcT
 rw[if_neg hn]
 refine CQ.app ?_ ?_
 ·split
  ·exact .one s45
  ·exact .nil
 split
 ·exact hw.app (Um _)
 ·split
  ·exact(tm _).app (.cons s46 (dm _))
  ·split
   ·exact .cons s48 (.cons s46 ((Um _).app hw))
   ·refine(tm _).app (CQ.app ?_ (YY _))
    split
    ·exact .cons s46 (dm _)
    ·exact .nil
theorem MM (n:Nat):CQ (JB n):=by
 unfold JB
 refine(CQ.dg (BM _ _)).app (.cons s58 ((CQ.dg (BM _ _)).app (.cons s58 ((CQ.dg (BM _ _)).app ?_))))
 split
 ·exact .nil
 ·exact .cons s46 (.dg (Iu _))
theorem YL (z:Int):CQ (Ic z):=by
 unfold Ic
 split
 ·exact .one s90
 ·refine .cons ?_ ((CQ.dg (BM _ _)).app (.cons s58 (.dg (BM _ _))))
  split
  ·exact s45
  ·exact s43
theorem MK (n:Nat):CQ (J5 n):=(CQ.dg (BM _ _)).app (.cons s45 ((CQ.dg (BM _ _)).app (.cons s45 (.dg (BM _ _)))))
theorem Yh (k td tn tz:Int):CQ (Ja k td tn tz):=by
 unfold Ja
 split
 ·exact MK _
 ·split
  ·exact MM _
  ·split
   ·exact(MK _).app (.cons s84 (MM _))
   ·exact(MK _).app (.cons s84 ((MM _).app (YL _)))
noncomputable def plT (s:Sc):B8:=if s.kind=1 then(if s.b then Lk else Jl)else if s.kind=2 then dcT s.neg s.dg s.ex else if s.kind=3 then Ja s.tk s.td s.tn s.tz else []
theorem Zc {neg:Bool} {dg:B8} {ex:Int} (h:Dk neg dg ex):CZ true false (dcT neg dg ex)=tkN neg dg ex:=by
 obtain⟨_,hne,hh⟩:=dcT_form h
 unfold CZ
 rw[dcP_text h,if_neg (by simp),if_neg hne,if_neg,if_neg,if_pos rfl]
 ·intro e;rw[e]at hh;revert hh;decide
 ·intro e;rw[e]at hh;revert hh;decide
theorem Za {k td tn tz:Int} (h:DW k td tn tz):CZ true false (Ja k td tn tz)=tkM k td tn tz:=by
 obtain⟨_,a,c,r,he,h1,h2,h3⟩:=Yi (k:=k) (td:=td) (tn:=tn) (tz:=tz)
 have hh:AF ((Ja k td tn tz).getD 0 0):=by rw[he];exact Wv h2 h1
 have hp:=ZC h fun _=>has_date (by obtain⟨_,_,h5,h6,_⟩:=h;omega)
 have h4:(dcP (Ja k td tn tz)).2.2.2=3:=Yg (by rw[hp])
 unfold CZ
 rw[hp,h4,if_neg (by simp),if_neg (by rw[he];simp),if_neg,if_neg,if_neg (by decide),if_pos rfl]
 ·intro e;rw[e]at hh;revert hh;decide
 ·intro e;rw[e]at hh;revert hh;decide
end Go.TVF
