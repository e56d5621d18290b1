/- What the laws below rest on: a framework for Go programs, and contracts of the functions that they reach. -/
import Derived.Test.YtagglahlkknacaaGreatDoorDgF
set_option maxRecDepth 20000
set_option linter.unusedVariables false
set_option linter.unusedSimpArgs false
namespace Go.TVF
open Go.IntKind(i64 u8)
open Go Go.Proofs
theorem MM (st:St) (b:Nat) (o:Lv):(st.put b o).box b=o:=by simp[St.put]
theorem TE (st:St) (o:Lv) (t:Option Nat):(st.push o t).box st.nb=o:=by simp[St.push]
theorem BC.set {st:St} {u:TV} {n i:Nat} {xs:List TV} {bs:List Nat} {x:TV} {K:St->Prop} (h:BC st 1 u n xs bs) (hi:i<n) (hK:∀st',BC st' 1 u n (xs.set i x) bs->StX (·∈bs) st st'->K st'):stB st (ixT 1 u i) [x] K:=by
 rcases h with⟨h0,_⟩ | ⟨b,cap,tail,rfl,h1,h2,h3,h4,h5,rfl⟩
 ·omega
 ·simp only[ixT,Nat.zero_add,Nat.mul_one,stB]
  have hl:(xs++tail).length=cap:=by omega
  rw[List.length_append]at hl
  refine⟨_,h2,by rw[List.length_append,List.length_singleton];omega,hK _ (.inr ⟨b,cap,tail,rfl,h1,?_,by rw[List.length_append,List.length_set];omega,by rw[List.length_set];exact h4,h5,rfl⟩) (StX.put (S:=(·∈ [b])) (.head _) _)⟩
  rw[MM]
  simp only[setAll]
  rw[List.set_append_left _ _ (by omega)]
def BxB (st0 st:St) (u:TV) (l:B8):Prop:=∃bs,BC st 1 u l.length (At l) bs/\Ah st0 st/\∀x,x∈bs->st0.nb<=x
theorem BxB.nil {st0 st:St} (e:Ah st0 st):BxB st0 st .nilSlice []:=⟨[],BC.nil _ _,e,fun x hx=>by cases hx⟩
theorem BxB.rd {st0 st:St} {u:TV} {l:B8} (h:BxB st0 st u l):SlR st 1 u l.length (At l):=by
 obtain⟨bs,h1,_⟩:=h;exact h1.rd
theorem BxB.ext {st0 st:St} {u:TV} {l:B8} (h:BxB st0 st u l):Ah st0 st:=by
 obtain⟨bs,_,h2,_⟩:=h;exact h2
theorem BxB.app {st0 st:St} {u:TV} {l:B8} {c:UInt8} {x:TV} {K:TV->St->Prop} (h:BxB st0 st u l) (hx:x=D5 c) (hl:l.length<=100000000) (hK:∀u' st',BxB st0 st' u' (l++[c])->K u' st'):Jx 5 1 1 u 1 [x] st K:=by
 obtain⟨bs,h1,h2,h3⟩:=h
 subst hx
 refine Ky h1 (by omega) rfl (by omega) fun u' st' bs' ho e hb=>hK u' st' ⟨bs',?_,?_,?_⟩
 ·rw[List.length_append,List.length_singleton,<-Hx];exact ho
 ·exact StX.ext h2 e h3
 ·rcases hb with⟨rfl,_⟩ | rfl
  ·exact h3
  ·intro y hy;rw[List.mem_singleton.1 hy];exact h2.nb
theorem U2 (l:B8) (i:Nat) (c:UInt8):(At l).set i (D5 c)=At (l.set i c):=by
 unfold At;rw[List.map_set]
theorem BxB.set {st0 st:St} {u:TV} {l:B8} {i:Nat} {c:UInt8} {x:TV} {K:St->Prop} (h:BxB st0 st u l) (hx:x=D5 c) (hi:i<l.length) (hK:∀st',BxB st0 st' u (l.set i c)->K st'):stB st (ixT 1 u i) [x] K:=by
 obtain⟨bs,h1,h2,h3⟩:=h
 subst hx
 refine h1.set hi fun st' ho e=>hK st' ⟨bs,?_,StX.ext h2 e h3,h3⟩
 rw[List.length_set,<-U2];exact ho
theorem zrep_u8 (n:Nat):FO [.int .u8 (0:Int)] (n*1)=At (List.replicate n 0):=by
 unfold FO At
 rw[Nat.mul_one,List.map_replicate]
 refine List.ext_getElem (by simp) fun i h1 h2=>?_
 simp[D5,Nat.mod_one]
theorem BxB.make {st0 st:St} (e:Ah st0 st) (n:Nat):BxB st0 (st.push (.cells (FO [.int .u8 (0:Int)] (n*1))) (some 5)) (.ms 1 st.nb 0 n n) (List.replicate n 0):=by
 refine⟨[st.nb],.inr ⟨st.nb,n,[],by rw[List.length_replicate],by simp[St.push],?_,?_,?_,?_,rfl⟩,e.push _ _,fun x hx=>by rw[List.mem_singleton.1 hx];exact e.nb⟩
 ·rw[zrep_u8,List.append_nil,TE]
 ·rw[List.append_nil,BO,List.length_replicate,Nat.mul_one]
 ·rw[BO];omega
 ·rw[List.length_replicate];exact Nat.le_refl _
theorem VH {c:UInt8} {f:Int->Prop} (h:f (c.toNat:Int)):As (.int .u8) (D5 c) f:=Ap h
theorem BxB.ld {st0 st:St} {u:TV} {l:B8} {i:Nat} (h:BxB st0 st u l) (hi:i<l.length):Af st [] (.t (ixT 1 u i)) 0=some (D5 l[i]):=h.rd.ldb hi
theorem BxB.str {st0 st:St} {u:TV} {l:B8} {K:B8->Prop} (h:BxB st0 st u l) (hk:K l):Ak ((toBytes st u).map TV.str) fun x=>As .str x K:=
 Ac (x:= .str l) (by rw[h.rd.toBytes];rfl) (Aw hk)
theorem Uf {st0 st:St} {u:TV} {l:B8} (hl:l.length<=100000000) (h:BxB st0 st u l) {K:St->Prop} (hk:∀st',BxB st0 st' u l.reverse->K st'):CallT PR EW [u] [] st K:=by
 refine LA u st K (Ab h.rd.isSl ?_)
 rw[h.rd.lenS,Ad _ (by omega) (by omega)]
 refine⟨fun i k b st'=>u=b/\∃(n:Nat) (m:B8),i=n/\k=(l.length:Int)-1-n/\2*n<=l.length+1/\m.length=l.length/\BxB st0 st' u m/\∀j,j<l.length->m.getD j 0=if j<n∨l.length-n<=j then l.getD (l.length-1-j) 0 else l.getD j 0,fun i _ _ _=>(l.length-i).toNat,⟨rfl,0,l,rfl,by omega,by omega,rfl,h,fun j hj=>by rw[if_neg (by omega)]⟩,?_⟩
 rintro _ _ _ st1 ⟨rfl,n,m,rfl,rfl,hn,hm,hb,hall⟩
 refine Aa (fun g=>?_) fun g=>hk _ ?_
 ·have hk':Int.toNat ((l.length:Int)-1-n)=l.length-1-n:=by omega
  have hr:=hb.rd
  have hnl:n<m.length:=by omega
  have hkl:l.length-1-n<m.length:=by omega
  rw[hr.lenZ,hk',Int.toNat_natCast]
  refine⟨⟨by omega,by omega⟩,Ac (hb.ld hkl) (VH ⟨⟨by omega,by omega⟩,Ac (hb.ld hnl) (VH ⟨⟨by omega,by omega⟩,hb.set (c:=m[l.length-1-n]) rfl hnl fun st2 hb2=>⟨⟨by omega,by omega⟩,hb2.set (c:=m[n]) rfl (by rw[List.length_set];exact hkl) fun st3 hb3=>?_⟩⟩)⟩)⟩
  rw[Ad _ (by omega) (by omega),Ad _ (by omega) (by omega)]
  refine⟨⟨rfl,n+1,_,by omega,by omega,by omega,by rw[List.length_set,List.length_set];exact hm,hb3,fun j hj=>?_⟩,by dsimp only;omega⟩
  have h1:=hall n (by omega)
  have h2:=hall (l.length-1-n) (by omega)
  rw[if_neg (by omega)]at h1 h2
  have e1:m.getD n 0=m[n]:=by rw[List.getD_eq_getElem?_getD,List.getElem?_eq_getElem hnl];rfl
  have e2:m.getD (l.length-1-n) 0=m[l.length-1-n]:=by rw[List.getD_eq_getElem?_getD,List.getElem?_eq_getElem hkl];rfl
  have e3:((m.set n m[l.length-1-n]).set (l.length-1-n) m[n]).getD j 0=if j=l.length-1-n then m[n]else if j=n then m[l.length-1-n]else m.getD j 0:=by
   rw[List.getD_eq_getElem?_getD,List.getElem?_set,List.getElem?_set]
   by_cases c1:j=l.length-1-n
   ·rw[if_pos c1.symm,if_pos c1,if_pos (by rw[List.length_set];omega)];rfl
   ·rw[if_neg (fun e=>c1 e.symm),if_neg c1]
    by_cases c2:j=n
    ·rw[if_pos c2.symm,if_pos c2,if_pos (by omega)];rfl
    ·rw[if_neg (fun e=>c2 e.symm),if_neg c2,List.getD_eq_getElem?_getD]
  rw[e3]
  by_cases c1:j=l.length-1-n
  ·rw[if_pos c1,if_pos (by omega),<-e1,h1];congr 1;omega
  ·rw[if_neg c1]
   by_cases c2:j=n
   ·rw[if_pos c2,if_pos (by omega),<-e2,h2];congr 1;omega
   ·rw[if_neg c2,hall j hj]
    by_cases c3:j<n∨l.length-n<=j
    ·rw[if_pos c3,if_pos (by omega)]
    ·rw[if_neg c3,if_neg (by omega)]
 ·have:m=l.reverse:=by
   refine List.ext_getElem (by simpa using hm) fun j h1 h2=>?_
   have:=hall j (by omega)
   rw[List.getD_eq_getElem?_getD,List.getElem?_eq_getElem h1,Option.getD_some]at this
   rw[this,List.getElem_reverse]
   by_cases c:j<n∨l.length-n<=j
   ·rw[if_pos c,List.getD_eq_getElem?_getD,List.getElem?_eq_getElem (by omega),Option.getD_some]
   ·rw[if_neg c,List.getD_eq_getElem?_getD,List.getElem?_eq_getElem (by omega),Option.getD_some]
    congr 1;omega
  rw[<-this];exact hb
theorem VE {n:Nat} (x:Int) (h:x=n):u8.wrap (i64.wrap (48+x.tmod 10))=(((48+n%10).toUInt8.toNat:Nat):Int):=by
 subst h
 rw[Int.tmod_eq_emod_of_nonneg (by omega),Ad _ (by omega) (by omega),Ew _ (by omega),EN _ (by omega) (by omega)];omega
theorem UG {n:Nat} (hn:n<=9000000000000000000) {st:St} {K:B8->St->Prop} (hk:∀st',Ah st st'->K (HU n) st'):CallT PR EX [.int .i64 (n:Int)] [.one .str] st K:=by
 have hlen:(HU n).length<=19:=J5 19 n (by omega)
 refine LB _ st K ⟨fun k b st'=>∃(m:Nat) (l:B8),k=m/\m<=n/\BxB st st' b l/\HU n=HU m++l.reverse,fun k _ _=>k.toNat,⟨n,[],rfl,Nat.le_refl _,BxB.nil (Ah.refl _),by simp⟩,?_⟩
 rintro _ b st1 ⟨m,l,rfl,hm,hb,he⟩
 have hll:l.length<=19:=by rw[he,List.length_append,List.length_reverse]at hlen;omega
 refine Aa (fun g=>?_) fun g=>?_
 ·refine hb.app (c:=(48+m%10).toUInt8) (by rw[VE _ rfl];rfl) (by omega) fun u' st2 hb2=>?_
  have hd:i64.wrap ((m:Int).tdiv 10)=((m/10:Nat):Int):=by rw[Int.tdiv_eq_ediv_of_nonneg (by omega),Ad _ (by omega) (by omega)];omega
  rw[hd]
  refine⟨⟨m/10,_,rfl,by omega,hb2,?_⟩,by dsimp only;omega⟩
  rw[he,Gm (by omega),List.reverse_append,List.reverse_singleton,List.append_assoc]
 ·have h0:m=0:=by omega
  subst h0
  rw[Gl,List.nil_append]at he
  refine Uf (by omega) hb fun st2 hb2=>hb2.str ?_
  rw[<-he];exact hk _ hb2.ext
theorem NH {n:Nat} (hn:n<=9000000000000000000) {st:St} {K:B8->St->Prop} (hk:K (HU n) st):CallT PR B0 [.int .i64 (n:Int)] [.one .str] st K:=by
 have hlen:(HU n).length<=19:=J5 19 n (by omega)
 refine HJ _ st K ⟨fun k s st'=>st=st'/\∃m:Nat,k=m/\m<=n/\HU n=HU m++s,fun k _ _=>k.toNat,⟨rfl,n,rfl,Nat.le_refl _,by simp⟩,?_⟩
 rintro _ s _ ⟨rfl,m,rfl,hm,he⟩
 have hll:s.length<=19:=by rw[he,List.length_append]at hlen;omega
 refine Aa (fun g=>?_) fun g=>?_
 ·refine Ac (x:= .str [(48+m%10).toUInt8]) ?_ (Aw ⟨by rw[List.length_singleton];omega,?_⟩)
  ·rw[VE _ rfl]
   show(Ex [D5 _]).map _=_
   have:=BB [(48+m%10).toUInt8]
   simp only[At,List.map_cons,List.map_nil]at this
   rw[this];rfl
  ·have hd:i64.wrap ((m:Int).tdiv 10)=((m/10:Nat):Int):=by rw[Int.tdiv_eq_ediv_of_nonneg (by omega),Ad _ (by omega) (by omega)];omega
   rw[hd]
   refine⟨⟨rfl,m/10,rfl,by omega,?_⟩,by dsimp only;omega⟩
   rw[he,Gm (by omega),List.append_assoc]
 ·have h0:m=0:=by omega
  subst h0
  rw[Gl,List.nil_append]at he
  rw[<-he];exact hk
theorem Sk {n:Nat} (hn:n<=9000000000000000000) {st:St} {K:B8->St->Prop} (hk:∀st',Ah st st'->K (whN n) st'):CallT PR Ea [.int .i64 (n:Int)] [.one .str] st K:=by
 unfold whN at hk
 refine MR _ st K (Aa (fun g=>?_) fun g=>UG hn fun st' e=>?_)
 ·have:=hk st (Ah.refl _)
  rw[if_pos (by omega)]at this;exact this
 ·have:=hk st' e
  rw[if_neg (by omega)]at this;exact this
theorem NG {n:Int} (h1: -1000000000<=n) (h2:n<=1000000000) {st:St} {K:B8->St->Prop} (hk:K (if n<0 then 45::whN n.natAbs else whN n.natAbs) st):CallT PR Cb [.int .i64 n] [.one .str] st K:=by
 refine Im n st K (Aa (fun g=>?_) fun g=>Aa (fun g2=>?_) fun g2=>?_)
 ·rw[Ad _ (by omega) (by omega),show(0:Int)-n=(n.natAbs:Nat) by omega]
  have hlen:(HU n.natAbs).length<=10:=J5 10 _ (by omega)
  refine NH (by omega) ⟨by show 1+_<=_;omega,?_⟩
  rw[if_pos g]at hk
  unfold whN at hk
  rw[if_neg (by omega)]at hk;exact hk
 ·subst g2;exact hk
 ·rw[if_neg g]at hk
  unfold whN at hk
  rw[if_neg (by omega)]at hk
  obtain⟨m,rfl⟩:∃m:Nat,n=m:=⟨n.natAbs,by omega⟩
  rw[Int.natAbs_natCast]at hk
  exact NH (by omega) hk
theorem Os (p:Int):P5 p=if p<1 then 101::45::whN (1-p).toNat else 101::whN (p-1).toNat:=by
 unfold P5;split<;>rfl
def IC (neg:Bool):B8:=if neg then [45]else []
theorem OX (neg:Bool):(IC neg).length<=1:=by cases neg<;>decide
theorem Ki {n:Nat} (h:n<10^18):(whN n).length<=18:=by
 unfold whN;split
 ·decide
 ·exact J5 18 n h
theorem Yy {neg:Bool} {dg:B8} {ex:Int} (h:Cu neg dg ex) {st:St} {K:B8->St->Prop} (hk:∀st',Ah st st'->K (dcT neg dg ex) st'):CallT PR F0 [.agg [.bool neg,.str dg,.int .i64 ex]] [.one .str] st K:=by
 have e0:=Ah.refl st
 unfold dcT at hk
 by_cases hne:dg=[]
 ·rw[if_pos hne]at hk
  refine I0 neg dg ex st K ⟨fun _ _ _ _=>False,Aa (fun _=>hk st e0) fun g=>absurd hne g,fun _ _ _ _ h=>h.elim⟩
 rw[if_neg hne]at hk
 obtain⟨h1,h2,h3,h4,h5,h6⟩:=h.2 hne
 have hpos:=List.length_pos_iff.2 hne
 have hs:=OX neg
 have hw:i64.wrap ((dg.length:Int)+ex)=dg.length+ex:=Ad _ (by omega) (by omega)
 refine I0 neg dg ex st K ⟨fun b s n st'=>neg=b/\dg=s/\ex=n/\st=st',Aa (fun g=>absurd g hne) fun _=>NR (by omega) ?_,?_⟩
 ·rw[decide_eq_true h]
  exact⟨rfl,rfl,rfl,rfl⟩
 rintro _ _ _ _ ⟨rfl,rfl,rfl,rfl⟩
 refine⟨fun s b s1 n st'=>IC neg=s/\neg=b/\dg=s1/\ex=n/\st=st',Aq (fun hb=>⟨by rw[hb];rfl,rfl,rfl,rfl,rfl⟩) fun hb=>⟨by rw[hb];rfl,rfl,rfl,rfl,rfl⟩,?_⟩
 rintro _ _ _ _ _ ⟨rfl,rfl,rfl,rfl,rfl⟩
 rw[hw]
 have hk':=hk
 rw[show(if neg=true then [45]else [])=IC neg from rfl]at hk
 refine⟨fun s n p b s2 n2 st'=>IC neg=s/\(dg.length:Int)=n/\(dg.length:Int)+ex=p/\dg=s2/\st=st'/\¬(0<=ex/\dg.length+ex<=21)/\¬(ex<0/\1<=dg.length+ex/\dg.length+ex<=21)/\¬(-5<=dg.length+ex/\dg.length+ex<=0),?_,?_⟩
 ·refine⟨fun b s n p b4 s3 n3 st'=>b=decide (0<=ex/\dg.length+ex<=21)/\IC neg=s/\(dg.length:Int)=n/\(dg.length:Int)+ex=p/\dg=s3/\ex=n3/\st=st',?_,?_⟩
  ·refine Aa (fun g=>⟨?_,rfl,rfl,rfl,rfl,rfl,rfl⟩) fun g=>⟨?_,rfl,rfl,rfl,rfl,rfl,rfl⟩
   ·exact decide_eq_decide.2 ⟨fun g2=>⟨g,g2⟩,fun g2=>g2.2⟩
   ·exact(decide_eq_false fun g2=>g g2.1).symm
  rintro _ _ _ _ _ _ _ _ ⟨rfl,rfl,rfl,rfl,rfl,rfl,rfl⟩
  refine Aa (fun g=>?_) fun g=>?_
  ·rw[if_pos g]at hk
   obtain⟨g1,g2⟩:=g
   obtain⟨m,rfl⟩:∃m:Nat,ex=m:=⟨ex.toNat,by omega⟩
   refine⟨by omega,Qt (by omega) ⟨by rw[List.length_append,K6];omega,?_⟩⟩
   have:=hk st e0
   rw[Int.toNat_natCast,<-List.append_assoc]at this
   exact this
  rw[if_neg g]at hk
  refine⟨fun b s n p b5 s5 n4 st'=>b=decide (ex<0/\1<=dg.length+ex/\dg.length+ex<=21)/\IC neg=s/\(dg.length:Int)=n/\(dg.length:Int)+ex=p/\dg=s5/\ex=n4/\st=st',?_,?_⟩
  ·refine Aa (fun g1=>Aa (fun g2=>⟨?_,rfl,rfl,rfl,rfl,rfl,rfl⟩) fun g2=>⟨?_,rfl,rfl,rfl,rfl,rfl,rfl⟩) fun g1=>⟨?_,rfl,rfl,rfl,rfl,rfl,rfl⟩
   ·exact decide_eq_decide.2 ⟨fun g3=>⟨g1,g2,g3⟩,fun g3=>g3.2.2⟩
   ·exact(decide_eq_false fun g3=>g2 g3.2.1).symm
   ·exact(decide_eq_false fun g3=>g1 g3.1).symm
  rintro _ _ _ _ _ _ _ _ ⟨rfl,rfl,rfl,rfl,rfl,rfl,rfl⟩
  refine Aa (fun g2=>?_) fun g2=>?_
  ·rw[if_pos g2]at hk
   obtain⟨g3,g4,g5⟩:=g2
   have hlt:(List.take (Int.toNat ((dg.length:Int)+ex)) dg).length<=dg.length:=by rw[List.length_take];omega
   have hld:(List.drop (Int.toNat ((dg.length:Int)+ex)) dg).length<=dg.length:=by rw[List.length_drop];omega
   refine⟨⟨by omega,by omega⟩,by omega,by rw[List.length_append];show _+1<=_;omega,⟨by omega,by omega⟩,by simp only[List.length_append];show _+1+_<=_;omega,?_⟩
   have:=hk st e0
   rw[<-List.append_assoc,List.append_cons]at this
   exact this
  rw[if_neg g2]at hk
  refine Aa (fun g3=>Aa (fun g4=>?_) fun g4=>⟨rfl,rfl,rfl,rfl,rfl,g,g2,fun g5=>g4 g5.2⟩) fun g3=>⟨rfl,rfl,rfl,rfl,rfl,g,g2,fun g5=>g3 g5.1⟩
  rw[if_pos ⟨g3,g4⟩]at hk
  obtain⟨m,hm⟩:∃m:Nat,(0:Int)-((dg.length:Int)+ex)=m:=⟨(0-((dg.length:Int)+ex)).toNat,by omega⟩
  rw[Ad _ (by omega) (by omega),hm]
  have hm2:(-((dg.length:Int)+ex)).toNat=m:=by omega
  rw[hm2]at hk
  refine⟨by show _+2<=_;omega,Qt (by omega) ⟨by rw[List.length_append,K6];show _+2+_<=_;omega,by simp only[List.length_append,K6];show _+2+_+_<=_;omega,?_⟩⟩
  have:=hk st e0
  rw[List.append_cons,List.append_cons,<-List.append_assoc,List.append_assoc (IC neg)]at this
  exact this
 ·rintro _ _ _ _ _ _ _ ⟨rfl,rfl,rfl,rfl,rfl,g1,g2,g3⟩
  rw[if_neg g1,if_neg g2,if_neg g3,Os]at hk
  have ht1:(List.take (Int.toNat 1) dg).length=1:=by rw[List.length_take];omega
  have hd1:(List.drop (Int.toNat 1) dg).length<=dg.length:=by rw[List.length_drop];omega
  refine⟨⟨by omega,by omega⟩,by omega,fun s p st'=>IC neg++(dg.take 1++(if 1<dg.length then 46::dg.drop 1 else []))=s/\(dg.length:Int)+ex=p/\st=st',?_,?_⟩
  ·refine Aa (fun g4=>⟨⟨by omega,by omega⟩,by show 1+_<=_;omega,by simp only[List.length_append];show _+(1+_)<=_;omega,?_,rfl,rfl⟩) fun g4=>⟨?_,rfl,rfl⟩
   ·rw[if_pos (by omega),List.append_assoc];rfl
   ·rw[if_neg (by omega),List.append_nil];rfl
  rintro s _ _ ⟨hs0,rfl,rfl⟩
  have hsl:s.length<=300:=by
   rw[<-hs0]
   have:(if 1<dg.length then 46::dg.drop 1 else []).length<=dg.length:=by
    split
    ·rw[List.length_cons,List.length_drop];omega
    ·simp
   simp only[List.length_append,List.length_take];omega
  refine Aa (fun g4=>?_) fun g4=>?_
  ·rw[if_pos g4]at hk
   obtain⟨m,hm⟩:∃m:Nat,(1:Int)-((dg.length:Int)+ex)=m:=⟨(1-((dg.length:Int)+ex)).toNat,by omega⟩
   have hwl:=Ki (n:=m) (by omega)
   rw[Ad _ (by omega) (by omega),hm]
   refine⟨by show _+2<=_;omega,Sk (by omega) fun st' e'=>⟨by rw[List.length_append];show _+2+_<=_;omega,?_⟩⟩
   have:=hk st' e'
   rw[<-List.append_assoc (dg.take 1),<-List.append_assoc (IC neg),hs0,hm,Int.toNat_natCast,List.append_cons,List.append_cons,List.append_assoc s]at this
   exact this
  ·rw[if_neg g4]at hk
   obtain⟨m,hm⟩:∃m:Nat,((dg.length:Int)+ex)-1=m:=⟨(((dg.length:Int)+ex)-1).toNat,by omega⟩
   have hwl:=Ki (n:=m) (by omega)
   rw[Ad _ (by omega) (by omega),hm]
   refine⟨by show _+1<=_;omega,Sk (by omega) fun st' e'=>⟨by rw[List.length_append];show _+1+_<=_;omega,?_⟩⟩
   have:=hk st' e'
   rw[<-List.append_assoc (dg.take 1),<-List.append_assoc (IC neg),hs0,hm,Int.toNat_natCast,List.append_cons]at this
   exact this
theorem Wc {neg:Bool} {dg:B8} {ex:Int} (h:Cu neg dg ex) {st:St} {K:B8->St->Prop} (hk:∀st',Ah st st'->K (dcT neg dg ex) st'):CallT PR DZ [.agg [.bool neg,.str dg,.int .i64 ex]] [.one .str] st K:=by
 have e0:=Ah.refl st
 unfold dcT at hk
 by_cases hne:dg=[]
 ·rw[if_pos hne]at hk
  exact Fy neg dg ex st K (Aa (fun _=>hk st e0) fun g=>absurd hne g)
 rw[if_neg hne]at hk
 obtain⟨h1,h2,h3,h4,h5,h6⟩:=h.2 hne
 have hpos:=List.length_pos_iff.2 hne
 have hs:=OX neg
 have hw:i64.wrap ((dg.length:Int)+ex)=dg.length+ex:=Ad _ (by omega) (by omega)
 refine Fy neg dg ex st K (Aa (fun g=>absurd g hne) fun _=>⟨fun s b s1 n st'=>IC neg=s/\neg=b/\dg=s1/\ex=n/\st=st',Aq (fun hb=>⟨by rw[hb];rfl,rfl,rfl,rfl,rfl⟩) fun hb=>⟨by rw[hb];rfl,rfl,rfl,rfl,rfl⟩,?_⟩)
 rintro _ _ _ _ _ ⟨rfl,rfl,rfl,rfl,rfl⟩
 rw[hw]
 rw[show(if neg=true then [45]else [])=IC neg from rfl]at hk
 have ht1:(List.take (Int.toNat 1) dg).length=1:=by rw[List.length_take];omega
 have hd1:(List.drop (Int.toNat 1) dg).length<=dg.length:=by rw[List.length_drop];omega
 refine⟨fun s p b s2 n2 st'=>IC neg=s/\(dg.length:Int)+ex=p/\dg=s2/\ex=n2/\st=st'/\¬(0<=ex/\dg.length+ex<=21),?_,?_⟩
 ·refine Aa (fun g1=>Aa (fun g2=>?_) fun g2=>⟨rfl,rfl,rfl,rfl,rfl,fun g=>g2 g.2⟩) fun g1=>⟨rfl,rfl,rfl,rfl,rfl,fun g=>g1 g.1⟩
  rw[if_pos ⟨g1,g2⟩]at hk
  obtain⟨m,rfl⟩:∃m:Nat,ex=m:=⟨ex.toNat,by omega⟩
  refine⟨by omega,O4 (by omega) fun st' e'=>⟨by rw[List.length_append,K6];omega,?_⟩⟩
  have:=hk st' e'
  rw[Int.toNat_natCast,<-List.append_assoc]at this
  exact this
 rintro _ _ _ _ _ _ ⟨rfl,rfl,rfl,rfl,rfl,g⟩
 rw[if_neg g]at hk
 refine⟨fun s p b s2 n2 st'=>IC neg=s/\(dg.length:Int)+ex=p/\dg=s2/\ex=n2/\st=st'/\¬(ex<0/\1<=dg.length+ex/\dg.length+ex<=21),?_,?_⟩
 ·refine Aa (fun g1=>Aa (fun g2=>Aa (fun g3=>?_) fun g3=>⟨rfl,rfl,rfl,rfl,rfl,fun g=>g3 g.2.2⟩) fun g2=>⟨rfl,rfl,rfl,rfl,rfl,fun g=>g2 g.2.1⟩) fun g1=>⟨rfl,rfl,rfl,rfl,rfl,fun g=>g1 g.1⟩
  rw[if_pos ⟨g1,g2,g3⟩]at hk
  have hlt:(List.take (Int.toNat ((dg.length:Int)+ex)) dg).length<=dg.length:=by rw[List.length_take];omega
  have hld:(List.drop (Int.toNat ((dg.length:Int)+ex)) dg).length<=dg.length:=by rw[List.length_drop];omega
  refine⟨⟨by omega,by omega⟩,by omega,by rw[List.length_append];show _+1<=_;omega,⟨by omega,by omega⟩,by simp only[List.length_append];show _+1+_<=_;omega,?_⟩
  have:=hk st e0
  rw[<-List.append_assoc,List.append_cons]at this
  exact this
 rintro _ _ _ _ _ _ ⟨rfl,rfl,rfl,rfl,rfl,g2⟩
 rw[if_neg g2]at hk
 refine⟨fun s p b s2 n2 st'=>IC neg=s/\(dg.length:Int)+ex=p/\dg=s2/\st=st'/\¬(-5<=dg.length+ex/\dg.length+ex<=0),?_,?_⟩
 ·refine Aa (fun g3=>Aa (fun g4=>?_) fun g4=>⟨rfl,rfl,rfl,rfl,fun g=>g4 g.2⟩) fun g3=>⟨rfl,rfl,rfl,rfl,fun g=>g3 g.1⟩
  rw[if_pos ⟨g3,g4⟩]at hk
  obtain⟨m,hm⟩:∃m:Nat,(0:Int)-((dg.length:Int)+ex)=m:=⟨(0-((dg.length:Int)+ex)).toNat,by omega⟩
  rw[Ad _ (by omega) (by omega),hm]
  have hm2:(-((dg.length:Int)+ex)).toNat=m:=by omega
  rw[hm2]at hk
  refine⟨by show _+2<=_;omega,O4 (by omega) fun st' e'=>⟨by rw[List.length_append,K6];show _+2+_<=_;omega,by simp only[List.length_append,K6];show _+2+_+_<=_;omega,?_⟩⟩
  have:=hk st' e'
  rw[List.append_cons,List.append_cons,<-List.append_assoc,List.append_assoc (IC neg)]at this
  exact this
 rintro _ _ _ _ _ _ ⟨rfl,rfl,rfl,rfl,g3⟩
 rw[if_neg g3,Os]at hk
 have hnum:∀st',Ah st st'->(if (dg.length:Int)+ex-1<0 then 45::whN ((dg.length:Int)+ex-1).natAbs else whN ((dg.length:Int)+ex-1).natAbs)=(if (dg.length:Int)+ex<1 then 45::whN (1-((dg.length:Int)+ex)).toNat else whN ((dg.length:Int)+ex-1).toNat):=fun _ _=>by
  by_cases g5:(dg.length:Int)+ex<1
  ·rw[if_pos (by omega),if_pos g5,show((dg.length:Int)+ex-1).natAbs=(1-((dg.length:Int)+ex)).toNat by omega]
  ·rw[if_neg (by omega),if_neg g5,show((dg.length:Int)+ex-1).natAbs=((dg.length:Int)+ex-1).toNat by omega]
 have hn0:=hnum st e0
 have hnl:(if (dg.length:Int)+ex<1 then 45::whN (1-((dg.length:Int)+ex)).toNat else whN ((dg.length:Int)+ex-1).toNat).length<=19:=by
  split
  ·have:=Ki (n:=(1-((dg.length:Int)+ex)).toNat) (by omega)
   rw[List.length_cons];omega
  ·have:=Ki (n:=((dg.length:Int)+ex-1).toNat) (by omega)
   omega
 have hexp:(if (dg.length:Int)+ex<1 then 101::45::whN (1-((dg.length:Int)+ex)).toNat else 101::whN ((dg.length:Int)+ex-1).toNat)=101::(if (dg.length:Int)+ex<1 then 45::whN (1-((dg.length:Int)+ex)).toNat else whN ((dg.length:Int)+ex-1).toNat):=by split<;>rfl
 rw[hexp]at hk
 rw[Ad ((dg.length:Int)+ex-1) (by omega) (by omega)]
 refine⟨⟨by omega,by omega⟩,by omega,Aa (fun g4=>?_) fun g4=>?_⟩
 ·rw[if_pos (by omega)]at hk
  refine⟨by rw[List.length_append];show _+1<=_;omega,⟨by omega,by omega⟩,by simp only[List.length_append];show _+1+_<=_;omega,by simp only[List.length_append];show _+1+_+1<=_;omega,NG (by omega) (by omega) ?_⟩
  rw[hn0]
  refine⟨by simp only[List.length_append];show _+1+_+1+_<=_;omega,?_⟩
  have:=hk st e0
  generalize (if (dg.length:Int)+ex<1 then 45::whN (1-((dg.length:Int)+ex)).toNat else whN ((dg.length:Int)+ex-1).toNat)=X at this⊢
  have e:IC neg++(dg.take 1++(46::dg.drop 1++101::X))=((((IC neg++dg.take 1)++[46])++dg.drop 1)++[101])++X:=by simp only[List.append_assoc,List.cons_append,List.nil_append]
  rw[e]at this
  exact this
 ·rw[if_neg (by omega),List.nil_append]at hk
  refine⟨by rw[List.length_append];show _+1<=_;omega,NG (by omega) (by omega) ?_⟩
  rw[hn0]
  refine⟨by simp only[List.length_append];show _+1+_<=_;omega,?_⟩
  have:=hk st e0
  rw[<-List.append_assoc,List.append_cons]at this
  exact this
def Uu (y m:Nat):Nat:=if 1<=y/\y<=9999/\1<=m/\m<=12 then KM y m else 0
theorem ER {y m:Nat} (h1:1<=y) (h2:y<=9999) (h3:1<=m) (h4:m<=12):Uu y m=KM y m:=if_pos ⟨h1,h2,h3,h4⟩
theorem NU {y:Nat} {st:St} {K:Bool->St->Prop} (hk:K (decide (1<=y/\y<=9999)) st):CallT PR DC [.int .i64 (y:Int)] [.one .bool] st K:=by
 refine LC _ st K (Aa (fun g=>?_) fun g=>?_)
 ·exact Fs (decide_eq_decide.2 ⟨fun h=>by omega,fun h=>by omega⟩) hk
 ·rw[decide_eq_false (by omega)]at hk;exact hk
theorem U1 {y:Nat} (h1:1<=y) (h2:y<=9999) {st:St} {K:Bool->St->Prop} (hk:K (decide (NN y)) st):CallT PR Fn [.int .i64 (y:Int)] [.one .bool] st K:=by
 refine MV _ st K (NU ?_)
 rw[decide_eq_true ⟨h1,h2⟩,Int.tmod_eq_emod_of_nonneg (by omega),Int.tmod_eq_emod_of_nonneg (by omega),Int.tmod_eq_emod_of_nonneg (by omega)]
 unfold NN at hk
 refine Aa (p:=True) (fun _=>Aa (fun g=>Aa (fun g2=>?_) fun g2=>?_) fun g=>?_) (fun h=>absurd trivial h)
 ·exact Fs (decide_eq_true (show y%4=0/\(y%100≠0∨y%400=0)from⟨by omega,.inl (by omega)⟩) |>.symm) hk
 ·exact Fs (decide_eq_decide.2 ⟨fun h=>⟨by omega,.inr (by omega)⟩,fun h=>by omega⟩) hk
 ·exact Fs (decide_eq_false (show ¬(y%4=0/\(y%100≠0∨y%400=0))from fun h=>by omega) |>.symm) hk
theorem days_ix:∀k:Nat,k<12->k≠1->(([.int .i64 31,.int .i64 28,.int .i64 31,.int .i64 30,.int .i64 31,.int .i64 30,.int .i64 31,.int .i64 31,.int .i64 30,.int .i64 31,.int .i64 30,.int .i64 31]:List TV)[(0+k*1)+0]?)=some (.int .i64 (if k+1=4∨k+1=6∨k+1=9∨k+1=11 then 30 else 31))
 | 0,_,_=>rfl
 | 1,_,h=>absurd rfl h
 | 2,_,_=>rfl
 | 3,_,_=>rfl
 | 4,_,_=>rfl
 | 5,_,_=>rfl
 | 6,_,_=>rfl
 | 7,_,_=>rfl
 | 8,_,_=>rfl
 | 9,_,_=>rfl
 | 10,_,_=>rfl
 | 11,_,_=>rfl
 | k+12,h,_=>by omega
theorem Hg {y m:Nat} (hm:m<=1000000) {st:St} {K:Int->St->Prop} (hk:K (Uu y m:Nat) st):CallT PR AW [.int .i64 (y:Int),.int .i64 (m:Int)] [.one (.int .i64)] st K:=by
 unfold Uu at hk
 refine LF _ _ st K (NU ?_)
 by_cases hy:1<=y/\y<=9999
 ·rw[decide_eq_true hy]
  refine Aa (p:=False) (fun h=>h.elim) fun _=>Aa (fun g=>?_) fun g=>Aa (fun g2=>?_) fun g2=>?_
  ·rw[if_neg (by omega)]at hk;exact hk
  ·rw[if_neg (by omega)]at hk;exact hk
  ·rw[if_pos (by omega)]at hk
   unfold KM at hk
   rw[Ad _ (by omega) (by omega)]
   refine Aa (fun g3=>U1 hy.1 hy.2 (Aa (fun g4=>?_) fun g4=>?_)) fun g3=>⟨⟨by omega,by omega⟩,?_⟩
   ·rw[if_pos (by omega),if_pos g4]at hk;exact hk
   ·rw[if_pos (by omega),if_neg g4]at hk
    refine⟨⟨by omega,by omega⟩,?_⟩
    have:m=2:=by omega
    subst this
    exact Ac (x:= .int .i64 28) rfl (Ap hk)
   ·rw[if_neg (by omega)]at hk
    obtain⟨k,rfl⟩:∃k,m=k+1:=⟨m-1,by omega⟩
    rw[show(((k+1:Nat):Int)-1)=(k:Int) by omega,Int.toNat_natCast]
    refine Ac (days_ix k (by omega) (by omega)) (Ap ?_)
    split
    ·rename_i h;rw[if_pos h]at hk;exact hk
    ·rename_i h;rw[if_neg h]at hk;exact hk
 ·rw[decide_eq_false hy]
  refine Aa (p:=True) (fun _=>?_) fun h=>absurd trivial h
  rw[if_neg (fun h=>hy ⟨h.1,h.2.1⟩)]at hk;exact hk
theorem Hf {y:Nat} (h1:1<=y) (h2:y<=1000000) {st:St} {K:Int->St->Prop} (hk:K (yrS y:Nat) st):CallT PR B1 [.int .i64 (y:Int)] [.one (.int .i64)] st K:=by
 refine LD _ st K ?_
 obtain⟨k,rfl⟩:∃k,y=k+1:=⟨y-1,by omega⟩
 unfold yrS at hk
 rw[Nat.add_sub_cancel]at hk
 rw[show(((k+1:Nat):Int)-1)=(k:Int) by omega,Ad (k:Int) (by omega) (by omega),Int.tdiv_eq_ediv_of_nonneg (by omega),Int.tdiv_eq_ediv_of_nonneg (by omega),Int.tdiv_eq_ediv_of_nonneg (by omega)]
 rw[Ad (365*(k:Int)) (by omega) (by omega),Ad ((k:Int)/4) (by omega) (by omega),Ad ((k:Int)/100) (by omega) (by omega),Ad ((k:Int)/400) (by omega) (by omega),Ad (365*(k:Int)+(k:Int)/4) (by omega) (by omega),Ad (365*(k:Int)+(k:Int)/4-(k:Int)/100) (by omega) (by omega),Ad _ (by omega) (by omega)]
 have e:(((365*k+k/4-k/100+k/400:Nat):Nat):Int)=365*(k:Int)+(k:Int)/4-(k:Int)/100+(k:Int)/400:=by omega
 rw[e]at hk;exact hk
theorem NT {n y:Nat} (hy:1<=y) (hy2:y<=9999) (h1:yrS y<=n) (h2:n<yrS (y+1)) (hn:n<=3652058) {st:St} {K:Int->Int->Int->Int->St->Prop} (hk:∀m d:Nat,F5 n y m d->K y m d 0 st):
  ∃(I2:Int->Int->Int->St->Prop) (M2:Int->Int->Int->St->Nat),(I2 1 (i64.wrap ((n:Int)-(yrS y:Nat))) (y:Int) st)/\∀(month_1:Int) (rest_1:Int) (year_2:Int) (st5:St),I2 month_1 rest_1 year_2 st5->(
   CallT PR AW [.int .i64 year_2,.int .i64 month_1] [.one (.int .i64)] st5 (fun (n3:Int) (st6:St)=>BIf (decide (n3<=rest_1)) (
    CallT PR AW [.int .i64 year_2,.int .i64 month_1] [.one (.int .i64)] st6 (fun (n4:Int) (st7:St)=>(I2 (i64.wrap (month_1+1)) (i64.wrap (rest_1-n4)) year_2 st7/\M2 (i64.wrap (month_1+1)) (i64.wrap (rest_1-n4)) year_2 st7<M2 month_1 rest_1 year_2 st5)))
    (K year_2 month_1 (i64.wrap (rest_1+1)) 0 st6))):=by
 rw[Ad _ (by omega) (by omega)]
 refine⟨fun mo re ye st'=>(y:Int)=ye/\st=st'/\∃m:Nat,mo=m/\1<=m/\m<=12/\re=((n-yrS y-D8 y m:Nat):Int)/\D8 y m<=n-yrS y,fun mo _ _ _=>(13-mo).toNat,⟨rfl,rfl,1,rfl,by omega,by omega,by show _=((n-yrS y-0:Nat):Int);omega,Nat.zero_le _⟩,?_⟩
 rintro _ _ _ _ ⟨rfl,rfl,m,rfl,hm1,hm2,rfl,hm3⟩
 refine Hg (by omega) ?_
 rw[ER hy hy2 hm1 hm2]
 have hs:=CR y hm1
 have hle:=ES y m
 refine Aa (fun g=>Hg (by omega) ?_) fun g=>?_
 ·rw[ER hy hy2 hm1 hm2,Ad _ (by omega) (by omega),Ad _ (by omega) (by omega)]
  have hm:m≠12:=fun e=>by
   subst e
   rw[HB hy]at h2;omega
  exact⟨⟨rfl,rfl,m+1,by omega,by omega,by omega,by rw[hs];omega,by rw[hs];omega⟩,by dsimp only;omega⟩
 ·rw[Ad _ (by omega) (by omega)]
  have:=hk m (n-yrS y-D8 y m+1) ⟨hy,hy2,hm1,hm2,by omega,by omega,by omega⟩
  exact this
theorem date_ok {n:Nat} (hn:n<=3652058) {st:St} {K:Int->Int->Int->Int->St->Prop} (hk:∀y m d:Nat,F5 n y m d->K y m d 0 st):CallT PR Fo [.int .i64 (n:Int)] [.one (.int .i64),.one (.int .i64),.one (.int .i64),.one (.int .i64)] st K:=by
 refine MW _ st K (LE _ st _ (Aa (fun _=>?_) fun g=>by omega))
 rw[decide_eq_true (by omega)]
 refine Aa (p:=False) (fun h=>h.elim) fun _=>?_
 rw[Int.tdiv_eq_ediv_of_nonneg (by omega),Ad ((n:Int)/366) (by omega) (by omega),Ad _ (by omega) (by omega)]
 refine⟨fun ye n1 st'=>(n:Int)=n1/\st=st'/\∃y:Nat,ye=y/\1<=y/\y<=9999/\yrS y<=n,fun ye _ _=>(10000-ye).toNat,⟨rfl,rfl,n/366+1,by omega,by omega,by omega,by unfold yrS;rw[Nat.add_sub_cancel];omega⟩,?_⟩
 rintro ye _ _ ⟨rfl,rfl,y,hye,hy1,hy2,hy3⟩
 refine Aa (fun g=>?_) fun g=>?_<;>subst hye
 ·rw[Ad _ (by omega) (by omega),show((y:Int)+1)=((y+1:Nat):Int) by omega]
  refine Hf (by omega) (by omega) (Aa (fun g2=>⟨⟨rfl,rfl,y+1,rfl,by omega,by omega,by omega⟩,by dsimp only;omega⟩) fun g2=>Hf hy1 (by omega) ?_)
  exact NT hy1 hy2 hy3 (by omega) hn fun m d hd=>hk y m d hd
 ·refine Hf hy1 (by omega) ?_
  have:y=9999:=by omega
  have h10:yrS (y+1)=3652059:=by rw[this];rfl
  exact NT hy1 hy2 hy3 (by omega) hn fun m d hd=>hk y m d hd
theorem Xz {y:Nat} (h1:1<=y) (h2:y<=9999) {st:St} {K:Bool->St->Prop} (hk:K (decide (NN y)) st):CallT PR Br [.int .i64 (y:Int)] [.one .bool] st K:=by
 refine JL _ st K (Aa (fun _=>Aa (fun _=>?_) fun g=>by omega) fun g=>by omega)
 rw[Int.tmod_eq_emod_of_nonneg (by omega),Int.tmod_eq_emod_of_nonneg (by omega),Int.tmod_eq_emod_of_nonneg (by omega)]
 unfold NN at hk
 refine Aa (fun g=>Aa (fun g2=>?_) fun g2=>?_) fun g=>?_
 ·exact Fs (decide_eq_true (show y%4=0/\(y%100≠0∨y%400=0)from⟨by omega,.inl (by omega)⟩) |>.symm) hk
 ·exact Fs (decide_eq_decide.2 ⟨fun h=>⟨by omega,.inr (by omega)⟩,fun h=>by omega⟩) hk
 ·exact Fs (decide_eq_decide.2 ⟨fun h=>by omega,fun h=>by omega⟩) hk
theorem HQ {y m:Nat} (hm:m<=1000000) {st:St} {K:Int->St->Prop} (hk:K (Uu y m:Nat) st):CallT PR A1 [.int .i64 (y:Int),.int .i64 (m:Int)] [.one (.int .i64)] st K:=by
 unfold Uu at hk
 refine Jk _ _ st K (Aa (fun g=>?_) fun g=>Aa (fun g2=>?_) fun g2=>?_)
 ·rw[if_neg (by omega)]at hk;exact hk
 ·rw[if_neg (by omega)]at hk;exact hk
 refine⟨fun b y' m' st'=>b=decide (m=1∨m=3∨m=5∨m=7∨m=8∨m=10∨m=12)/\(y:Int)=y'/\(m:Int)=m'/\st=st',?_,?_⟩
 ·refine Aa (fun g=>⟨decide_eq_decide.2 (by omega),rfl,rfl,rfl⟩) fun g=>Aa (fun g=>⟨decide_eq_decide.2 (by omega),rfl,rfl,rfl⟩) fun g=>Aa (fun g=>⟨decide_eq_decide.2 (by omega),rfl,rfl,rfl⟩) fun g=>
   Aa (fun g=>⟨decide_eq_decide.2 (by omega),rfl,rfl,rfl⟩) fun g=>Aa (fun g=>⟨decide_eq_decide.2 (by omega),rfl,rfl,rfl⟩) fun g=>Aa (fun g=>⟨decide_eq_decide.2 (by omega),rfl,rfl,rfl⟩) fun g=>⟨decide_eq_decide.2 (by omega),rfl,rfl,rfl⟩
 rintro _ _ _ _ ⟨rfl,rfl,rfl,rfl⟩
 unfold KM at hk
 have two:∀{x y:Int->St->Prop},True:=fun {_ _}=>trivial
 have t30:(m=4∨m=6∨m=9∨m=11)->K 30 st:=fun h=>by
  rw[if_pos (by omega),if_neg (by omega),if_pos h]at hk;exact hk
 have tz:¬(1<=m/\m<=12)->K 0 st:=fun h=>by
  rw[if_neg (by omega)]at hk;exact hk
 refine Aa (fun g3=>?_) fun g3=>?_
 ·rw[if_pos (by omega),if_neg (by omega),if_neg (by omega)]at hk;exact hk
 ·refine Aa (fun g4=>Aa (fun _=>t30 (by omega)) fun h=>absurd g4 h) fun g4=>Aa (fun g5=>Aa (fun _=>t30 (by omega)) fun h=>absurd g5 h) fun g5=>Aa (fun g6=>Aa (fun _=>t30 (by omega)) fun h=>absurd g6 h) fun g6=>Aa (fun g7=>t30 (by omega)) fun g7=>Aa (fun g8=>?_) fun g8=>tz (by omega)
  rw[if_pos (by omega),if_pos (by omega)]at hk
  refine Xz (by omega) (by omega) (Aa (fun g9=>?_) fun g9=>?_)
  ·rw[if_pos g9]at hk;exact hk
  ·rw[if_neg g9]at hk;exact hk
theorem Ko (y:Nat):∀m,D8 y m<=31*m
 | 0=>Nat.le_refl _
 | 1=>Nat.zero_le _
 | m+2=>by
  have:=Ko y (m+1)
  have:=ES y (m+1)
  simp only[D8];omega
theorem Lg {y:Nat} (h1:1<=y) (h2:y<=9999) {st:St} {K:Int->St->Prop} (hk:K (D8 y 12+KM y 12:Nat) st):CallT PR Bz [.int .i64 (y:Int)] [.one (.int .i64)] st K:=by
 refine Ii _ st K ⟨fun n mo ye st'=>(y:Int)=ye/\st=st'/\∃m:Nat,mo=m/\1<=m/\m<=13/\n=(D8 y m:Nat),fun _ mo _ _=>(13-mo).toNat,⟨rfl,rfl,1,rfl,by omega,by omega,rfl⟩,?_⟩
 rintro _ _ _ _ ⟨rfl,rfl,m,rfl,hm1,hm2,rfl⟩
 have hle:=Ko y m
 refine Aa (fun g=>HQ (by omega) ?_) fun g=>?_
 ·have:=ES y m
  rw[ER h1 h2 hm1 (by omega),Ad _ (by omega) (by omega),Ad _ (by omega) (by omega)]
  exact⟨⟨rfl,rfl,m+1,by omega,by omega,by omega,by rw[CR y hm1];omega⟩,by dsimp only;omega⟩
 ·have:m=13:=by omega
  subst this
  rw[CR y (by omega)];exact hk
theorem XA {n:Nat} (hn:n<=3652058) {st:St} {K:Int->Int->Int->Int->St->Prop} (hk:∀y m d:Nat,F5 n y m d->K y m d 0 st):CallT PR DY [.int .i64 (n:Int)] [.one (.int .i64),.one (.int .i64),.one (.int .i64),.one (.int .i64)] st K:=by
 refine JM _ st K (K9 _ st _ (Aa (fun _=>?_) fun g=>by omega))
 rw[decide_eq_true (by omega)]
 refine Aa (p:=False) (fun h=>h.elim) fun _=>?_
 refine⟨fun n1 ye mo st'=>mo=1/\st=st'/\∃y:Nat,ye=y/\1<=y/\y<=9999/\yrS y<=n/\n1=((n-yrS y:Nat):Int),fun _ ye _ _=>(10000-ye).toNat,⟨rfl,rfl,1,rfl,by omega,by omega,Nat.zero_le _,by show _=((n-0:Nat):Int);omega⟩,?_⟩
 rintro _ _ _ _ ⟨rfl,rfl,y,rfl,hy1,hy2,hy3,rfl⟩
 have hss:=HB hy1
 have hle:=Ko y 12
 have hle2:=ES y 12
 refine Lg hy1 hy2 (Aa (fun g=>Lg hy1 hy2 ?_) fun g=>?_)
 ·rw[Ad _ (by omega) (by omega),Ad _ (by omega) (by omega)]
  have h9:y≠9999:=fun e=>by
   subst e
   have:yrS (9999+1)=3652059:=rfl
   omega
  exact⟨⟨rfl,rfl,y+1,by omega,by omega,by omega,by omega,by omega⟩,by dsimp only;omega⟩
 ·refine⟨fun re mo ye st'=>(y:Int)=ye/\st=st'/\∃m:Nat,mo=m/\1<=m/\m<=12/\re=((n-yrS y-D8 y m:Nat):Int)/\D8 y m<=n-yrS y,fun _ mo _ _=>(13-mo).toNat,⟨rfl,rfl,1,rfl,by omega,by omega,by show _=((n-yrS y-0:Nat):Int);omega,Nat.zero_le _⟩,?_⟩
  rintro _ _ _ _ ⟨rfl,rfl,m,rfl,hm1,hm2,rfl,hm3⟩
  refine HQ (by omega) ?_
  rw[ER hy1 hy2 hm1 hm2]
  have hs:=CR y hm1
  have hle:=ES y m
  refine Aa (fun g=>HQ (by omega) ?_) fun g=>?_
  ·rw[ER hy1 hy2 hm1 hm2,Ad _ (by omega) (by omega),Ad _ (by omega) (by omega)]
   have hm:m≠12:=fun e=>by subst e;omega
   exact⟨⟨rfl,rfl,m+1,by omega,by omega,by omega,by rw[hs];omega,by rw[hs];omega⟩,by dsimp only;omega⟩
  ·rw[Ad _ (by omega) (by omega)]
   exact hk y m (n-yrS y-D8 y m+1) ⟨hy1,hy2,hm1,hm2,by omega,by omega,by omega⟩
theorem CV {n w:Nat} (hw:w<=100) (hn:n<=1000000000000000000) {st:St} {K:B8->St->Prop} (hk:∀st',Ah st st'->K (A0 w n) st'):CallT PR AM [.int .i64 (n:Int),.int .i64 (w:Int)] [.one .str] st K:=by
 refine MQ _ _ st K ⟨⟨by omega,by omega,by rw[Int.toNat_natCast];omega⟩,?_⟩
 rw[Int.toNat_natCast,Ad _ (by omega) (by omega)]
 refine⟨fun n1 i b st'=>TV.ms 1 st.nb 0 w w=b/\∃(j m:Nat) (t:B8),i=(j:Int)-1/\n1=m/\m<=n/\j+t.length=w/\A0 w n=A0 j m++t/\BxB st st' b (List.replicate j 0++t),fun _ i _ _=>(i+1).toNat,⟨rfl,w,n,[],rfl,rfl,Nat.le_refl _,rfl,by simp,by simpa using BxB.make (Ah.refl st) w⟩,?_⟩
 rintro _ _ _ st1 ⟨rfl,j,m,t,rfl,rfl,hm,hj,he,hb⟩
 have hlen:(List.replicate j (0:UInt8)++t).length=w:=by simp;omega
 refine Aa (fun g=>?_) fun g=>?_
 ·obtain⟨i,rfl⟩:∃i,j=i+1:=⟨j-1,by omega⟩
  have hi:(((i+1:Nat):Int)-1)=(i:Int):=by omega
  rw[hi,hb.rd.lenZ,Int.toNat_natCast]
  refine⟨⟨by omega,by omega⟩,hb.set (c:=(48+m%10).toUInt8) (by rw[VE _ rfl];rfl) (by omega) fun st2 hb2=>?_⟩
  have hd:i64.wrap ((m:Int).tdiv 10)=((m/10:Nat):Int):=by rw[Int.tdiv_eq_ediv_of_nonneg (by omega),Ad _ (by omega) (by omega)];omega
  rw[hd,Ad _ (by omega) (by omega)]
  refine⟨⟨rfl,i,m/10,(48+m%10).toUInt8::t,rfl,rfl,by omega,by rw[List.length_cons];omega,by rw[he,A0,List.append_assoc];rfl,?_⟩,by dsimp only;omega⟩
  have:(List.replicate (i+1) (0:UInt8)++t).set i (48+m%10).toUInt8=List.replicate i 0++(48+m%10).toUInt8::t:=by
   rw[List.replicate_succ',List.append_assoc,List.set_append_right _ _ (by simp),List.length_replicate,Nat.sub_self];rfl
  rw[<-this];exact hb2
 ·have:j=0:=by omega
  subst this
  rw[List.replicate_zero,List.nil_append]at hb
  rw[A0,List.nil_append]at he
  rw[<-he]at hb
  exact hb.str (hk _ hb.ext)
theorem GB {n w:Nat} (hw:w<=100) (hn:n<=1000000000000000000) {st:St} {K:B8->St->Prop} (hk:K (A0 w n) st):CallT PR AB [.int .i64 (n:Int),.int .i64 (w:Int)] [.one .str] st K:=by
 refine KH _ _ st K ⟨fun n1 s i w1 st'=>(w:Int)=w1/\st=st'/\∃j m:Nat,i=(w:Int)-j/\n1=m/\m<=n/\j+s.length=w/\A0 w n=A0 j m++s,fun _ _ i _ _=>((w:Int)-i).toNat,⟨rfl,rfl,w,n,by omega,rfl,Nat.le_refl _,rfl,by simp⟩,?_⟩
 rintro _ s _ _ _ ⟨rfl,rfl,j,m,rfl,rfl,hm,hj,he⟩
 refine Aa (fun g=>?_) fun g=>?_
 ·obtain⟨i,rfl⟩:∃i,j=i+1:=⟨j-1,by omega⟩
  refine Ac (x:= .str [(48+m%10).toUInt8]) ?_ (Aw ⟨by rw[List.length_singleton];omega,?_⟩)
  ·rw[VE _ rfl]
   show(Ex [D5 _]).map _=_
   have:=BB [(48+m%10).toUInt8]
   simp only[At,List.map_cons,List.map_nil]at this
   rw[this];rfl
  ·have hd:i64.wrap ((m:Int).tdiv 10)=((m/10:Nat):Int):=by rw[Int.tdiv_eq_ediv_of_nonneg (by omega),Ad _ (by omega) (by omega)];omega
   rw[hd,Ad _ (by omega) (by omega)]
   refine⟨⟨rfl,rfl,i,m/10,by omega,rfl,by omega,by rw[List.length_append,List.length_singleton];omega,by rw[he,A0,List.append_assoc]⟩,by dsimp only;omega⟩
 ·have:j=0:=by omega
  subst this
  rw[A0,List.nil_append]at he
  rw[<-he];exact hk
theorem Tv {n:Nat} (hn:n<=3652058) {st:St} {K:B8->St->Prop} (hk:∀st',Ah st st'->K (KO n) st'):CallT PR BK [.int .i64 (n:Int)] [.one .str] st K:=by
 refine K8 _ st K (date_ok hn fun y m d hd=>?_)
 have he:=RT hd
 obtain⟨a1,a2,a3,a4,a5,a6,a7⟩:=hd
 have hm:=ES y m
 have l4:=AU 4 y
 have l2:=AU 2 m
 have l3:=AU 2 d
 refine CV (w:=4) (by omega) (by omega) fun st1 e1=>⟨by rw[l4];show 4+1<=_;omega,CV (w:=2) (by omega) (by omega) fun st2 e2=>⟨by rw[List.length_append,l4,l2];show 4+1+2<=_;omega,by rw[List.length_append,List.length_append,l4,l2];show 4+1+2+1<=_;omega,CV (w:=2) (by omega) (by omega) fun st3 e3=>⟨by simp only[List.length_append,l4,l2,l3];show 4+1+2+1+2<=_;omega,?_⟩⟩⟩
 have:=hk st3 ((e1.trans e2).trans e3)
 rw[he,List.append_cons,List.append_cons,List.append_assoc (A0 4 y++[45]),<-List.append_assoc,<-List.append_assoc]at this
 exact this
theorem Pc {f:B8} (h:f≠ []):f=f.take (f.length-1)++[f.getD (f.length-1) 0]:=by
 have hp:=List.length_pos_iff.2 h
 have:=D9 f (f.length-1) 0 (by omega)
 rw[show f.length-1+1=f.length by omega,List.take_length]at this
 exact this
theorem RX {n:Nat} (hn:n<=86399999999999) {st:St} {K:B8->St->Prop} (hk:∀st',Ah st st'->K (Jv n) st'):CallT PR BE [.int .i64 (n:Int)] [.one .str] st K:=by
 refine KB _ st K ?_
 have e1:i64.wrap ((n:Int).tdiv 1000000000)=((n/1000000000:Nat):Int):=by rw[Int.tdiv_eq_ediv_of_nonneg (by omega),Ad _ (by omega) (by omega)];omega
 have e2:i64.wrap (((n/1000000000:Nat):Int).tdiv 3600)=((n/1000000000/3600:Nat):Int):=by rw[Int.tdiv_eq_ediv_of_nonneg (by omega),Ad _ (by omega) (by omega)];omega
 have e3:(i64.wrap (((n/1000000000:Nat):Int).tdiv 60)).tmod 60=((n/1000000000/60%60:Nat):Int):=by
  rw[Int.tdiv_eq_ediv_of_nonneg (by omega),Ad _ (by omega) (by omega),Int.tmod_eq_emod_of_nonneg (by omega)];omega
 have e4:((n/1000000000:Nat):Int).tmod 60=((n/1000000000%60:Nat):Int):=by rw[Int.tmod_eq_emod_of_nonneg (by omega)];omega
 have e5:(n:Int).tmod 1000000000=((n%1000000000:Nat):Int):=by rw[Int.tmod_eq_emod_of_nonneg (by omega)];omega
 rw[e1,e2,e3,e4,e5]
 have l1:=AU 2 (n/1000000000/3600)
 have l2:=AU 2 (n/1000000000/60%60)
 have l3:=AU 2 (n/1000000000%60)
 refine CV (w:=2) (by omega) (by omega) fun st1 x1=>⟨by rw[l1];show 2+1<=_;omega,CV (w:=2) (by omega) (by omega) fun st2 x2=>⟨by rw[List.length_append,l1,l2];show 2+1+2<=_;omega,by rw[List.length_append,List.length_append,l1,l2];show 2+1+2+1<=_;omega,CV (w:=2) (by omega) (by omega) fun st3 x3=>⟨by simp only[List.length_append,l1,l2,l3];show 2+1+2+1+2<=_;omega,?_⟩⟩⟩
 have e0:=(x1.trans x2).trans x3
 have hpre:∀(f:B8),A0 2 (n/1000000000/3600)++58::(A0 2 (n/1000000000/60%60)++58::(A0 2 (n/1000000000%60)++f))=((((A0 2 (n/1000000000/3600)++[58])++A0 2 (n/1000000000/60%60))++[58])++A0 2 (n/1000000000%60))++f:=fun f=>by
  simp only[List.append_assoc,List.cons_append,List.nil_append]
 unfold Jv at hk
 rw[hpre]at hk
 generalize hP:((((A0 2 (n/1000000000/3600)++[58])++A0 2 (n/1000000000/60%60))++[58])++A0 2 (n/1000000000%60))=P at hk
 have hPl:P.length=8:=by rw[<-hP];simp only[List.length_append,l1,l2,l3];rfl
 have hP2:((((A0 2 (n/1000000000/3600)++Bu)++A0 2 (n/1000000000/60%60))++Bu)++A0 2 (n/1000000000%60))=P:=hP
 rw[hP2]
 refine Aa (fun g=>?_) fun g=>?_
 ·have:=hk st3 e0
  rw[if_pos (by omega),List.append_nil]at this
  exact this
 ·rw[if_neg (by omega)]at hk
  have hr0:n%1000000000≠0:=by omega
  have hcne:=RU (n:=n%1000000000) (by omega) hr0
  refine CV (w:=9) (by omega) (by omega) fun st4 x4=>⟨fun f s st'=>P=s/\st4=st'/\GR f=GR (A0 9 (n%1000000000))/\f.length<=9,fun f _ _=>f.length,⟨rfl,rfl,rfl,by rw[AU];omega⟩,?_⟩
  rintro f _ _ ⟨rfl,rfl,hf,hfl⟩
  have hfne:f≠ []:=fun e=>by
   rw[e]at hf
   exact hcne (hf.symm.trans rfl)
  have hp:=List.length_pos_iff.2 hfne
  rw[Ad _ (by omega) (by omega),show Int.toNat ((f.length:Int)-1)=f.length-1 by omega]
  have hsp:=Pc hfne
  have hsn:=Nw (f.take (f.length-1)) (f.getD (f.length-1) 0)
  rw[<-hsp]at hsn
  refine⟨⟨by omega,by omega⟩,Aa (fun g2=>⟨⟨by omega,by omega⟩,⟨rfl,rfl,?_,by rw[List.length_take];omega⟩,by dsimp only;rw[List.length_take];omega⟩) fun g2=>⟨by rw[hPl];show 8+1<=_;omega,by rw[List.length_append,hPl];show 8+1+_<=_;omega,?_⟩⟩
  ·rw[if_pos (UInt8.toNat_inj.1 (by show _=48;omega))]at hsn
   rw[<-hsn];exact hf
  ·rw[if_neg (fun e=>g2 (by rw[e];rfl))]at hsn
   have:=hk st4 (e0.trans x4)
   rw[<-hf,hsn,List.append_cons]at this
   exact this
theorem We {n:Nat} (hn:n<=86399999999999) {st:St} {K:B8->St->Prop} (hk:K (Jv n) st):CallT PR Bi [.int .i64 (n:Int)] [.one .str] st K:=by
 refine Jh _ st K ?_
 have e1:i64.wrap ((n:Int).tdiv 1000000000)=((n/1000000000:Nat):Int):=by rw[Int.tdiv_eq_ediv_of_nonneg (by omega),Ad _ (by omega) (by omega)];omega
 have e2:i64.wrap (((n/1000000000:Nat):Int).tdiv 3600)=((n/1000000000/3600:Nat):Int):=by rw[Int.tdiv_eq_ediv_of_nonneg (by omega),Ad _ (by omega) (by omega)];omega
 have e3:(i64.wrap (((n/1000000000:Nat):Int).tdiv 60)).tmod 60=((n/1000000000/60%60:Nat):Int):=by
  rw[Int.tdiv_eq_ediv_of_nonneg (by omega),Ad _ (by omega) (by omega),Int.tmod_eq_emod_of_nonneg (by omega)];omega
 have e4:((n/1000000000:Nat):Int).tmod 60=((n/1000000000%60:Nat):Int):=by rw[Int.tmod_eq_emod_of_nonneg (by omega)];omega
 have e5:(n:Int).tmod 1000000000=((n%1000000000:Nat):Int):=by rw[Int.tmod_eq_emod_of_nonneg (by omega)];omega
 rw[e1,e2,e3,e4,e5]
 have l1:=AU 2 (n/1000000000/3600)
 have l2:=AU 2 (n/1000000000/60%60)
 have l3:=AU 2 (n/1000000000%60)
 refine GB (w:=2) (by omega) (by omega) ⟨by rw[l1];show 2+1<=_;omega,GB (w:=2) (by omega) (by omega) ⟨by rw[List.length_append,l1,l2];show 2+1+2<=_;omega,by rw[List.length_append,List.length_append,l1,l2];show 2+1+2+1<=_;omega,GB (w:=2) (by omega) (by omega) ⟨by simp only[List.length_append,l1,l2,l3];show 2+1+2+1+2<=_;omega,?_⟩⟩⟩
 have hpre:∀(f:B8),A0 2 (n/1000000000/3600)++58::(A0 2 (n/1000000000/60%60)++58::(A0 2 (n/1000000000%60)++f))=((((A0 2 (n/1000000000/3600)++[58])++A0 2 (n/1000000000/60%60))++[58])++A0 2 (n/1000000000%60))++f:=fun f=>by
  simp only[List.append_assoc,List.cons_append,List.nil_append]
 unfold Jv at hk
 rw[hpre]at hk
 generalize hP:((((A0 2 (n/1000000000/3600)++[58])++A0 2 (n/1000000000/60%60))++[58])++A0 2 (n/1000000000%60))=P at hk
 have hPl:P.length=8:=by rw[<-hP];simp only[List.length_append,l1,l2,l3];rfl
 have hP2:((((A0 2 (n/1000000000/3600)++Bu)++A0 2 (n/1000000000/60%60))++Bu)++A0 2 (n/1000000000%60))=P:=hP
 rw[hP2]
 have hcz:GR (A0 9 (n%1000000000))=[]↔n%1000000000=0:=⟨fun h=>by
  apply Decidable.byContradiction
  intro h2;exact RU (by omega) h2 h,fun h=>by rw[h];decide⟩
 have fin:∀f,f=GR (A0 9 (n%1000000000))->(f=[]->K P st)/\(f≠ []->K ((P++Dl)++f) st):=fun f hf=>by
  subst hf
  constructor
  ·intro h
   rw[if_pos (hcz.1 h),List.append_nil]at hk;exact hk
  ·intro h
   rw[if_neg (fun e=>h (hcz.2 e)),List.append_cons]at hk;exact hk
 refine GB (w:=9) (by omega) (by omega) ⟨fun f s st'=>P=s/\st=st'/\GR f=GR (A0 9 (n%1000000000))/\f.length<=9,fun f _ _=>f.length,⟨rfl,rfl,rfl,by rw[AU];omega⟩,?_⟩
 rintro f _ _ ⟨rfl,rfl,hf,hfl⟩
 refine Aa (fun g=>?_) fun g=>?_
 ·have hfne:f≠ []:=fun e=>by rw[e]at g;simp at g
  have hp:=List.length_pos_iff.2 hfne
  rw[Ad _ (by omega) (by omega),show Int.toNat ((f.length:Int)-1)=f.length-1 by omega]
  have hsp:=Pc hfne
  have hsn:=Nw (f.take (f.length-1)) (f.getD (f.length-1) 0)
  rw[<-hsp]at hsn
  refine⟨⟨by omega,by omega⟩,Aa (fun g2=>⟨⟨by omega,by omega⟩,⟨rfl,rfl,?_,by rw[List.length_take];omega⟩,by dsimp only;rw[List.length_take];omega⟩) fun g2=>Aa (fun g3=>absurd g3 hfne) fun g3=>⟨by rw[hPl];show 8+1<=_;omega,by rw[List.length_append,hPl];show 8+1+_<=_;omega,?_⟩⟩
  ·rw[if_pos (UInt8.toNat_inj.1 (by show _=48;omega))]at hsn
   rw[<-hsn];exact hf
  ·rw[if_neg (fun e=>g2 (by rw[e];rfl))]at hsn
   exact(fin f (hsn.symm.trans hf)).2 g3
 ·have hf0:f=[]:=List.eq_nil_of_length_eq_zero (by omega)
  refine Aa (fun g3=>?_) fun g3=>absurd hf0 g3
  exact(fin f (by rw[hf0]at hf⊢;exact hf)).1 hf0
theorem P0 {z:Int} (h1: -1439<=z) (h2:z<=1439) {st:St} {K:B8->St->Prop} (hk:∀st',Ah st st'->K (HS z) st'):CallT PR DQ [.int .i64 z] [.one .str] st K:=by
 unfold HS at hk
 refine JA _ st K (Aa (fun g=>?_) fun g=>?_)
 ·have:=hk st (Ah.refl _)
  rw[if_pos g]at this;exact this
 ·rw[if_neg g]at hk
  have l1:=AU 2 (z.natAbs/60)
  have l2:=AU 2 (z.natAbs%60)
  refine Aa (fun g2=>?_) fun g2=>?_
  ·rw[if_pos g2]at hk
   have e1:i64.wrap ((i64.wrap (0-z)).tdiv 60)=((z.natAbs/60:Nat):Int):=by rw[Ad (0-z) (by omega) (by omega),Int.tdiv_eq_ediv_of_nonneg (by omega),Ad _ (by omega) (by omega)];omega
   have e2:(i64.wrap (0-z)).tmod 60=((z.natAbs%60:Nat):Int):=by rw[Ad (0-z) (by omega) (by omega),Int.tmod_eq_emod_of_nonneg (by omega)];omega
   rw[e1,e2]
   refine CV (w:=2) (by omega) (by omega) fun st1 x1=>⟨by rw[l1];show 1+2<=_;omega,by rw[List.length_append,l1];show 1+2+1<=_;omega,CV (w:=2) (by omega) (by omega) fun st2 x2=>⟨by simp only[List.length_append,l1,l2];show 1+2+1+2<=_;omega,?_⟩⟩
   have:=hk st2 (x1.trans x2)
   rw[<-List.cons_append,List.append_cons]at this
   exact this
  ·rw[if_neg g2]at hk
   have e1:i64.wrap (z.tdiv 60)=((z.natAbs/60:Nat):Int):=by rw[Int.tdiv_eq_ediv_of_nonneg (by omega),Ad _ (by omega) (by omega)];omega
   have e2:z.tmod 60=((z.natAbs%60:Nat):Int):=by rw[Int.tmod_eq_emod_of_nonneg (by omega)];omega
   rw[e1,e2]
   refine CV (w:=2) (by omega) (by omega) fun st1 x1=>⟨by rw[l1];show 1+2<=_;omega,by rw[List.length_append,l1];show 1+2+1<=_;omega,CV (w:=2) (by omega) (by omega) fun st2 x2=>⟨by simp only[List.length_append,l1,l2];show 1+2+1+2<=_;omega,?_⟩⟩
   have:=hk st2 (x1.trans x2)
   rw[<-List.cons_append,List.append_cons]at this
   exact this
theorem Ue {z:Int} (h1: -1439<=z) (h2:z<=1439) {st:St} {K:B8->St->Prop} (hk:K (HS z) st):CallT PR Dd [.int .i64 z] [.one .str] st K:=by
 unfold HS at hk
 refine Ig _ st K (Aa (fun g=>?_) fun g=>?_)
 ·rw[if_pos g]at hk;exact hk
 ·rw[if_neg g]at hk
  have l1:=AU 2 (z.natAbs/60)
  have l2:=AU 2 (z.natAbs%60)
  refine Aa (fun g2=>?_) fun g2=>?_
  ·rw[if_pos g2]at hk
   have e1:i64.wrap ((i64.wrap (0-z)).tdiv 60)=((z.natAbs/60:Nat):Int):=by rw[Ad (0-z) (by omega) (by omega),Int.tdiv_eq_ediv_of_nonneg (by omega),Ad _ (by omega) (by omega)];omega
   have e2:(i64.wrap (0-z)).tmod 60=((z.natAbs%60:Nat):Int):=by rw[Ad (0-z) (by omega) (by omega),Int.tmod_eq_emod_of_nonneg (by omega)];omega
   rw[e1,e2]
   refine GB (w:=2) (by omega) (by omega) ⟨by rw[l1];show 1+2<=_;omega,by rw[List.length_append,l1];show 1+2+1<=_;omega,GB (w:=2) (by omega) (by omega) ⟨by simp only[List.length_append,l1,l2];show 1+2+1+2<=_;omega,?_⟩⟩
   rw[<-List.cons_append,List.append_cons]at hk
   exact hk
  ·rw[if_neg g2]at hk
   have e1:i64.wrap (z.tdiv 60)=((z.natAbs/60:Nat):Int):=by rw[Int.tdiv_eq_ediv_of_nonneg (by omega),Ad _ (by omega) (by omega)];omega
   have e2:z.tmod 60=((z.natAbs%60:Nat):Int):=by rw[Int.tmod_eq_emod_of_nonneg (by omega)];omega
   rw[e1,e2]
   refine GB (w:=2) (by omega) (by omega) ⟨by rw[l1];show 1+2<=_;omega,by rw[List.length_append,l1];show 1+2+1<=_;omega,GB (w:=2) (by omega) (by omega) ⟨by simp only[List.length_append,l1,l2];show 1+2+1+2<=_;omega,?_⟩⟩
   rw[<-List.cons_append,List.append_cons]at hk
   exact hk
theorem S8 {b:Nat} {st:St} {K:TV->St->Prop} (hk:K (.box b 0) st):CallT PR I9 [.box b 0] [.one (.tv)] st K:=by
 refine Rc fun g w vargs s hr=>?_
 obtain⟨v,rfl,hv⟩:=Xu hr
 refine⟨v,w,?_,.box b 0,st,g,hk,s,hv,Ext.refl _ _⟩
 show(callFunc 320 #[v]).run Tryz.prog w=_
 rw[run_callFunc_extern Tryz.func320 (by kernel_rfl) (by kernel_rfl) (by kernel_rfl) (e:=Extern.AbiNoEscape.same) (by kernel_rfl)]
 rfl
def Bld (st0:St) (b:Nat) (st:St) (buf:B8):Prop:=
 Ah st0 st/\st0.nb<=b/\b<st.nb/\st.bt b=some W9/\∃p v,st.box b= .cells [p,v]/\(p= .nilPtr∨p= .box b 0)/\
  ((v= .nilSlice/\buf=[])∨∃id,v= .list 1 (.own id) buf.length (At buf)/\buf≠ []/\st0.nt<=id/\id<st.nt/\st.live id=true/\st.ty id=some 5)
theorem Bld.new {st0 st:St} (e:Ah st0 st):Bld st0 st.nb (st.push (.cells [.nilPtr,.nilSlice]) (some W9)) []:=
 ⟨e.push _ _,e.nb,by simp[St.push],by simp[St.push],.nilPtr,.nilSlice,TE _ _ _,.inl rfl,.inl ⟨rfl,rfl⟩⟩
theorem Bld.keep {st0 st st':St} {b:Nat} {buf:B8} (h:Bld st0 b st buf) (e:Ah st st'):Bld st0 b st' buf:=by
 obtain⟨h0,h1,h2,h3,p,v,hb,hp,hv⟩:=h
 refine⟨h0.trans e,h1,Nat.lt_of_lt_of_le h2 e.nb,(e.bt b h2).trans h3,p,v,(e.box b h2).trans hb,hp,?_⟩
 rcases hv with hv | ⟨id,rfl,n1,n2,n3,n4,n5⟩
 ·exact .inl hv
 ·exact .inr ⟨id,rfl,n1,n2,Nat.lt_of_lt_of_le n3 e.nt,(e.live id n3).trans n4,(e.ty id n3).trans n5⟩
theorem MI {st0 st:St} {b:Nat} {buf:B8} {K:St->Prop} (h:Bld st0 b st buf) (hk:∀st',Bld st0 b st' buf->StX (·=b) st st'->K st'):CallT PR Bn [.box b 0] [] st K:=by
 have h0:=h
 obtain⟨e,h1,h2,h3,p,v,hb,hp,hv⟩:=h
 refine FP b st K (Ac (x:=p) (by simp[Af,hb]) (Ab (by rcases hp with rfl | rfl<;>rfl) ?_))
 rcases hp with rfl | rfl
 ·refine(show BIf true _ _ from⟨by simp[Af,hb],S8 ?_⟩)
  refine⟨⟨rfl,h3,_,hb,rfl⟩,Ab rfl ⟨_,hb,by simp,hk _ ?_ (StX.put (S:=(·=b)) rfl _)⟩⟩
  exact⟨e.put h1 _,h1,h2,h3,.box b 0,v,MM _ _ _,.inr rfl,hv⟩
 ·exact(show BIf false _ _ from Ac (x:= .box b 0) (by simp[Af,hb]) ⟨rfl,hk st h0 (StX.refl _ _)⟩)
theorem NA {st0 st:St} {b:Nat} {buf s:B8} {xs:List TV} {n:Nat} (hn:n=s.length) (hxs:xs=At s) (h:Bld st0 b st buf) (hl:buf.length+s.length<=140737488355328) {K:St->Prop} (hk:∀st',Bld st0 b st' (buf++s)->(∀i,i≠b->i<st.nb->st'.box i=st.box i)->st.nb<=st'.nb->K st'):
  ∃v1,Af st [] (.t (.box b 1)) 0=some v1/\A5 5 1 1 v1 n xs st fun (v2:TV) (st2:St)=>need (List.all [v2] Ar) (stB st2 (.box b 1) [v2] fun st3=>K st3):=by
 subst hn hxs
 obtain⟨e,a1,a2,a3,p,v,hb,hp,hv⟩:=h
 refine⟨v,by simp[Af,hb],?_⟩
 rcases hv with⟨rfl,rfl⟩ | ⟨id,rfl,n1,n2,n3,n4,n5⟩
 ·cases s with
  | nil=>
   simp only[A5,List.length_nil,At,List.map_nil]
   exact Ab rfl ⟨_,hb,by simp,hk _ ⟨e.put a1 _,a1,a2,a3,p,.nilSlice,MM _ _ _,hp,.inl ⟨rfl,rfl⟩⟩ (fun i hi _=>by simp only[St.put];rw[if_neg hi]) (Nat.le_refl _)⟩
  | cons c r=>
   simp only[A5,List.length_cons,Nat.mul_one]
   refine Ab (by simp only[List.length_nil,List.length_cons]at hl;simp;omega) (Ab rfl ⟨_,hb,by simp,hk _ ?_ (fun i hi _=>by simp only[St.put];rw[if_neg hi];rfl) (by simp[St.put,St.fresh])⟩)
   exact⟨(e.fresh _).put a1 _,a1,a2,a3,p,_,MM _ _ _,hp,.inr ⟨st.nt,rfl,by simp,e.nt,by simp[St.put,St.fresh],by simp[St.put,St.fresh],by simp[St.put,St.fresh]⟩⟩
 ·simp only[A5,Nat.beq_refl,Nat.mul_one]
  refine⟨hl,n4,Ab rfl ⟨_,hb,by simp,hk _ ?_ (fun i hi _=>by simp only[St.put];rw[if_neg hi];rfl) (by simp[St.put,St.fresh,St.retire])⟩⟩
  refine⟨((e.retire n2).fresh _).put a1 _,a1,a2,a3,p,_,MM _ _ _,hp,.inr ⟨st.nt,?_,by simp[n1],e.nt,by simp[St.put,St.fresh,St.retire],by simp[St.put,St.fresh,St.retire],by simp[St.put,St.fresh,St.retire,n5,MZ]⟩⟩
  rw[List.length_append,<-Hx]
def But (b:Nat) (a c:St):Prop:=a.nb<=c.nb/\∀i,i≠b->i<a.nb->c.box i=a.box i
theorem But.refl (b:Nat) (a:St):But b a a:=⟨Nat.le_refl _,fun _ _ _=>rfl⟩
theorem But.trans {b:Nat} {x y z:St} (h:But b x y) (k:But b y z):But b x z:=⟨Nat.le_trans h.1 k.1,fun i hi hl=>(k.2 i hi (Nat.lt_of_lt_of_le hl h.1)).trans (h.2 i hi hl)⟩
theorem But.of {b:Nat} {x y:St} (e:Ah x y):But b x y:=⟨e.nb,fun i _ hl=>e.box i hl⟩
theorem But.ofX {b:Nat} {x y:St} (e:StX (·=b) x y):But b x y:=⟨e.nb,fun i hi hl=>e.box i hl hi⟩
theorem Cg {st0 st:St} {b:Nat} {buf s:B8} {K:Int->TV->St->Prop} (h:Bld st0 b st buf) (hl:buf.length+s.length<=1000000000) (hk:∀st',Bld st0 b st' (buf++s)->But b st st'->K (s.length:Int) .nilIface st'):
  CallT PR Ax [.box b 0,.str s] [.one (.int .i64),.one (.tv)] st K:=by
 refine Fh b s st K (MI h fun st1 h1 e1=>?_)
 obtain⟨v1,hv1,hA⟩:=NA (n:=s.length) (xs:=At s) rfl rfl h1 (by omega) (K:=fun st3=>K (s.length:Int) .nilIface st3) fun st' hb hx hn=>hk st' hb ((But.ofX e1).trans ⟨hn,hx⟩)
 exact Ac hv1 (Ac (LV st1 s) (Ab (H1 s) hA))
theorem A3 {st0 st:St} {b:Nat} {buf:B8} {c:Int} (x:UInt8) {K:TV->St->Prop} (hc:c=x.toNat) (h:Bld st0 b st buf) (hl:buf.length+1<=1000000000) (hk:∀st',Bld st0 b st' (buf++[x])->But b st st'->K .nilIface st'):
  CallT PR Aj [.box b 0,.int .u8 c] [.one (.tv)] st K:=by
 refine FQ b c st K (MI h fun st1 h1 e1=>?_)
 obtain⟨v1,hv1,hA⟩:=NA (n:=1) (xs:=[.int .u8 c]) (s:=[x]) rfl (by rw[hc];rfl) h1 (by rw[List.length_singleton];omega) (K:=fun st3=>K .nilIface st3) fun st' hb hx hn=>hk st' hb ((But.ofX e1).trans ⟨hn,hx⟩)
 exact Ac hv1 hA
theorem Ny {st0 st:St} {b:Nat} {buf:B8} {K:B8->St->Prop} (h:Bld st0 b st buf) (hl:buf.length<=140737488355328) (hk:∀st',Ah st0 st'->K buf st'):
  CallT PR Cv [.box b 0] [.one (.str)] st K:=by
 obtain⟨e,h1,h2,h3,p,v,hb,hp,hv⟩:=h
 have hld:Af st [] (.t (.box b 1)) 0=some v:=by simp[Af,hb]
 rcases hv with⟨rfl,rfl⟩ | ⟨id,rfl,n1,n2,n3,n4,n5⟩
 ·refine Ee b st K (Ac hld (Ac (x:= .nilPtr) rfl (Ac hld (Ab rfl ?_))))
  exact⟨rfl,hk st e⟩
 ·refine Ee b st K (Ac hld (Ac (x:= .sptr (.list 1 (.own id) buf.length (At buf))) ?_ (Ac hld (Ab rfl ?_))))
  case refine_2=>exact⟨⟨rfl,by omega,n4,n5⟩,Ac (BB buf) (hk _ (e.retire n2))⟩
  simp only[OY]
  cases hz:buf.length.beq 0 with
  | true=>exact absurd (List.eq_nil_of_length_eq_zero (Nat.eq_of_beq_eq_true hz)) n1
  | false=>rfl
def Bw (c:UInt8):Nat:=if c=34∨c=92 then c.toNat else if c=8 then 98 else if c=12 then 102 else if c=10 then 110 else if c=13 then 114 else if c=9 then 116 else 0
theorem NB {c:UInt8} {k:UInt8}:((c.toNat:Int)=(k.toNat:Int))↔c=k:=by
 constructor
 ·intro h;exact UInt8.toNat_inj.1 (by omega)
 ·intro h;rw[h]
theorem SM {c:UInt8} {st:St} {K:Int->St->Prop} (hk:K (Bw c:Nat) st):CallT PR EY [.int .u8 (c.toNat:Int)] [.one (.int .u8)] st K:=by
 unfold Bw at hk
 refine OG _ st K ⟨fun b x y st'=>b=decide (c=34∨c=92)/\(c.toNat:Int)=x/\(c.toNat:Int)=y/\st=st',Aa (fun g=>⟨decide_eq_decide.2 ⟨fun _=> .inl (NB.1 g),fun _=>g⟩,rfl,rfl,rfl⟩) fun g=>⟨decide_eq_decide.2 ⟨fun h=> .inr (NB.1 h),fun h=>by
  rcases h with h | h
  ·exact absurd (NB.2 h) g
  ·exact NB.2 h⟩,rfl,rfl,rfl⟩,?_⟩
 rintro _ _ _ _ ⟨rfl,rfl,rfl,rfl⟩
 refine Aa (fun g=>?_) fun g=>?_
 ·rw[if_pos g]at hk;exact hk
 rw[if_neg g]at hk
 have step:∀{k:UInt8} {A B:Prop} (k':Int),k'=(k.toNat:Int)->(c=k->A)->(c≠k->B)->BIf (decide ((c.toNat:Int)=k')) A B:=fun {k A B} k' e h1 h2=>by
  subst e
  exact Aa (fun h=>h1 (NB.1 h)) fun h=>h2 fun e=>h (NB.2 e)
 refine step (k:=8) 8 rfl (fun h=>by rw[if_pos h]at hk;exact hk) fun h1=>step (k:=12) 12 rfl (fun h=>by rw[if_neg h1,if_pos h]at hk;exact hk) fun h2=>step (k:=10) 10 rfl (fun h=>by rw[if_neg h1,if_neg h2,if_pos h]at hk;exact hk) fun h3=>step (k:=13) 13 rfl (fun h=>by rw[if_neg h1,if_neg h2,if_neg h3,if_pos h]at hk;exact hk) fun h4=>step (k:=9) 9 rfl (fun h=>by rw[if_neg h1,if_neg h2,if_neg h3,if_neg h4,if_pos h]at hk;exact hk) fun h5=>?_
 rw[if_neg h1,if_neg h2,if_neg h3,if_neg h4,if_neg h5]at hk
 exact hk
theorem Ph:∀k:Nat,k<16->([48,49,50,51,52,53,54,55,56,57,97,98,99,100,101,102]:B8).getD k 0=hxD k
 | 0,_=>rfl
 | 1,_=>rfl
 | 2,_=>rfl
 | 3,_=>rfl
 | 4,_=>rfl
 | 5,_=>rfl
 | 6,_=>rfl
 | 7,_=>rfl
 | 8,_=>rfl
 | 9,_=>rfl
 | 10,_=>rfl
 | 11,_=>rfl
 | 12,_=>rfl
 | 13,_=>rfl
 | 14,_=>rfl
 | 15,_=>rfl
 | k+16,h=>by omega
theorem Pp {c:UInt8} (h:Bw c≠0):∃x:UInt8,BL c=[92,x]/\Bw c=x.toNat:=by
 unfold Bw at h⊢
 unfold BL
 by_cases g:c=34∨c=92
 ·rw[if_pos g,if_pos g];exact⟨c,rfl,rfl⟩
 rw[if_neg g]at h⊢
 rw[if_neg g]
 by_cases g1:c=8
 ·rw[if_pos g1,if_pos g1];exact⟨98,rfl,rfl⟩
 rw[if_neg g1]at h⊢
 rw[if_neg g1]
 by_cases g2:c=12
 ·rw[if_pos g2,if_pos g2];exact⟨102,rfl,rfl⟩
 rw[if_neg g2]at h⊢
 rw[if_neg g2]
 by_cases g3:c=10
 ·rw[if_pos g3,if_pos g3];exact⟨110,rfl,rfl⟩
 rw[if_neg g3]at h⊢
 rw[if_neg g3]
 by_cases g4:c=13
 ·rw[if_pos g4,if_pos g4];exact⟨114,rfl,rfl⟩
 rw[if_neg g4]at h⊢
 rw[if_neg g4]
 by_cases g5:c=9
 ·rw[if_pos g5,if_pos g5];exact⟨116,rfl,rfl⟩
 rw[if_neg g5]at h
 exact absurd rfl h
theorem QN {c:UInt8} (h:Bw c=0):BL c=if c.toNat<32 then [92,117,48,48,hxD (c.toNat/16),hxD (c.toNat%16)]else [c]:=by
 unfold Bw at h
 unfold BL
 by_cases g:c=34∨c=92
 ·rw[if_pos g]at h
  rcases g with g | g
  ·exact absurd h (by rw[g];decide)
  ·exact absurd h (by rw[g];decide)
 rw[if_neg g]at h
 by_cases g1:c=8
 ·rw[if_pos g1]at h;omega
 rw[if_neg g1]at h
 by_cases g2:c=12
 ·rw[if_pos g2]at h;omega
 rw[if_neg g2]at h
 by_cases g3:c=10
 ·rw[if_pos g3]at h;omega
 rw[if_neg g3]at h
 by_cases g4:c=13
 ·rw[if_pos g4]at h;omega
 rw[if_neg g4]at h
 by_cases g5:c=9
 ·rw[if_pos g5]at h;omega
 rw[if_neg g,if_neg g1,if_neg g2,if_neg g3,if_neg g4,if_neg g5]
theorem fdiv16 (n:Nat):Int.fdiv (n:Int) (2^(min (Int.toNat (4:Int)) (IntKind.bits .u8)))=((n/16:Nat):Int):=by
 have h2:((2:Int)^(min (Int.toNat (4:Int)) (IntKind.bits .u8)))=16:=by decide
 rw[h2,Int.fdiv_eq_ediv_of_nonneg _ (by omega)];omega
theorem and_u8' (x y:Nat) (hx:x<2^8) (hy:y<2^8):Au .and .u8 (x:Int) (y:Int)=((x&&&y:Nat):Int):=by
 have h:x&&&y<2^8:=Nat.and_lt_two_pow _ hy
 show IntKind.wrap .u8 ((BitVec.ofInt 8 (x:Int)&&&BitVec.ofInt 8 (y:Int)).toNat:Int)=_
 simp only[BitVec.ofInt_natCast,BitVec.toNat_and,BitVec.toNat_ofNat]
 rw[Nat.mod_eq_of_lt (by omega),Nat.mod_eq_of_lt (by omega),EN _ (by omega) (by omega)]
theorem and15 (c:UInt8):Au .and .u8 (c.toNat:Int) (15:Int)=((c.toNat%16:Nat):Int):=by
 have hb:=c.toNat_lt
 have:=and_u8' c.toNat (2^4-1) (by omega) (by decide)
 rw[Nat.and_two_pow_sub_one_eq_mod]at this
 exact this
theorem HW (s:B8) (k:Nat):((s.take k).flatMap BL).length<=6*s.length:=by
 have h:∀l:B8,(l.flatMap BL).length<=6*l.length:=by
  intro l
  induction l with
  | nil=>simp
  | cons c r ih=>
   rw[List.flatMap_cons,List.length_append,List.length_cons]
   have:=MB c
   omega
 have:=h (s.take k)
 rw[List.length_take]at this;omega
theorem S0 {st0 st:St} {b:Nat} {buf s:B8} {K:St->Prop} (h:Bld st0 b st buf) (hl:buf.length+6*s.length+2<=900000000) (hk:∀st',Bld st0 b st' (buf++quB s)->But b st st'->K st'):
  CallT PR CT [.box b 0,.str s] [] st K:=by
 refine OH b s st K (A3 34 rfl h (by omega) fun st1 h1 e1=>?_)
 refine⟨fun i w s1 st'=>TV.box b 0=w/\s=s1/\But b st st'/\∃k:Nat,i=k/\k<=s.length/\Bld st0 b st' (buf++[34]++(s.take k).flatMap BL),fun i _ _ _=>(s.length-i).toNat,⟨rfl,rfl,e1,0,rfl,Nat.zero_le _,by simpa using h1⟩,?_⟩
 rintro _ _ _ st2 ⟨rfl,rfl,e2,k,rfl,hk1,h2⟩
 have hfl:=HW s k
 refine Aa (fun g=>?_) fun g=>?_
 ·rw[Int.toNat_natCast]
  have hsn:(s.take (k+1)).flatMap BL=(s.take k).flatMap BL++BL (s.getD k 0):=by
   rw[D9 s k 0 (by omega),List.flatMap_append,List.flatMap_cons,List.flatMap_nil,List.append_nil]
  have hle:=MB (s.getD k 0)
  generalize s.getD k 0=c at hsn hle
  have hlen:(buf++[34]++(s.take k).flatMap BL).length<=900000000:=by simp only[List.length_append,List.length_singleton];omega
  have fin:∀st',Bld st0 b st' (buf++[34]++(s.take k).flatMap BL++BL c)->But b st2 st'->(TV.box b 0=TV.box b 0/\s=s/\But b st st'/\∃k':Nat,i64.wrap ((k:Int)+1)=k'/\k'<=s.length/\Bld st0 b st' (buf++[34]++(s.take k').flatMap BL))/\((s.length:Int)-i64.wrap ((k:Int)+1)).toNat<((s.length:Int)-(k:Int)).toNat:=fun st' hb he=>by
   rw[Ad _ (by omega) (by omega)]
   refine⟨⟨rfl,rfl,e2.trans he,k+1,by omega,by omega,?_⟩,by omega⟩
   rw[hsn,<-List.append_assoc];exact hb
  refine⟨⟨by omega,by omega⟩,SM (Aa (fun g2=>?_) fun g2=>?_)⟩
  ·obtain⟨x,hx,hx2⟩:=Pp (c:=c) (by omega)
   refine A3 92 rfl h2 (by omega) fun st3 h3 e3=>A3 x (by omega) h3 (by rw[List.length_append,List.length_singleton];omega) fun st4 h4 e4=>fin st4 ?_ (e3.trans e4)
   rw[hx];simpa using h4
  ·have hx:=QN (c:=c) (by omega)
   have hb:=c.toNat_lt
   refine Aa (fun g3=>?_) fun g3=>?_
   ·rw[if_pos (by omega)]at hx
    rw[fdiv16,and15,Int.toNat_natCast,Int.toNat_natCast]
    have l16:c.toNat/16<16:=by omega
    have r16:c.toNat%16<16:=by omega
    refine Cg h2 (by show _+4<=_;omega) fun st3 h3 e3=>⟨⟨by omega,by show _<(16:Int);omega⟩,A3 (hxD (c.toNat/16)) (by rw[<-Ph _ l16];rfl) h3 (by rw[List.length_append];show _+4+1<=_;omega) fun st4 h4 e4=>⟨⟨by omega,by show _<(16:Int);omega⟩,A3 (hxD (c.toNat%16)) (by rw[<-Ph _ r16];rfl) h4 (by rw[List.length_append,List.length_append];show _+4+1+1<=_;omega) fun st5 h5 e5=>fin st5 ?_ ((e3.trans e4).trans e5)⟩⟩
    rw[hx,List.append_cons _ 92,List.append_cons _ 117,List.append_cons _ 48,List.append_cons _ 48,List.append_cons]
    have e4:∀l:B8,l++[92,117,48,48]=(((l++[92])++[117])++[48])++[48]:=fun l=>by simp
    rw[<-e4]
    exact h5
   ·rw[if_neg (by omega)]at hx
    refine A3 c rfl h2 (by omega) fun st3 h3 e3=>fin st3 ?_ e3
    rw[hx];exact h3
 ·have:k=s.length:=by omega
  subst this
  rw[List.take_length]at h2 hfl
  refine A3 34 rfl h2 (by simp only[List.length_append,List.length_singleton];omega) fun st3 h3 e3=>hk st3 ?_ (e2.trans e3)
  have:buf++[34]++s.flatMap BL++[34]=buf++quB s:=by unfold quB;simp
  rw[<-this];exact h3
theorem pow8:(2:Int)^(min (Int.toNat (8:Int)) (IntKind.bits .i64))=256:=by decide
theorem pow1:(2:Int)^(min (Int.toNat (1:Int)) (IntKind.bits .i64))=2:=by decide
theorem enc_ok {b:TV} {l:B8} {pad:Bool} {st:St} {K:B8->St->Prop} (h:SlR st 1 b l.length (At l)) (hl:(l.length:Int)<=1000000) (hk:∀st',Ah st st'->K (Ob pad l) st'):CallT PR GJ [b,.bool pad] [.one (.str)] st K:=by
 refine OJ b pad st K ⟨fun out i b' pad' st1=>b=b'/\pad=pad'/\Ah st st1/\0<=i/\i<=1000002/\∃o,En st.nt st1 out o/\o++Ob pad (l.drop i.toNat)=Ob pad l/\(o.length:Int)<=2*i,fun _ i _ _ _=>(l.length-i).toNat,⟨rfl,rfl,Ah.refl _,by omega,by omega,[],En.nil _ _,rfl,by simp⟩,?_⟩
 rintro out i _ _ st1 ⟨rfl,rfl,e1,h1,h1',o,hown,ho1,ho2⟩
 refine Ab h.isSl ?_
 rw[h.lenS]
 refine Aa (fun h2=>Ab h.isSl ?_) fun h2=>?_
 ·have hd:(l.drop i.toNat).length=l.length-i.toNat:=by simp
  rw[Ad ((l.length:Int)-i) (by omega) (by omega)]
  refine⟨fun word n b' pad' out' i' n2 st2=>b=b'/\pad=pad'/\out=out'/\i=i'/\n2=min (3:Int) (l.length-i)/\st1=st2/\0<=n/\n<=3/\word=(wB (l.drop i.toNat) n.toNat:Nat),fun _ n _ _ _ _ _ _=>(3-n).toNat,⟨rfl,rfl,rfl,rfl,rfl,rfl,by omega,by omega,rfl⟩,?_⟩
  rintro word n _ _ _ _ n2 _ ⟨rfl,rfl,rfl,rfl,hn2,rfl,g1,g2,rfl⟩
  refine Aa (fun g3=>Aa (fun g4=>?_) fun g4=>?_) fun g3=>?_
  ·have hW:=W_lt (l.drop i.toNat) n.toNat
   have hW2:256^n.toNat<=256^2:=Nat.pow_le_pow_right (by decide) (by omega)
   have hi:(i+n).toNat<l.length:=by omega
   rw[Ad (i+n) (by omega) (by omega),h.lenZ,Ad (n+1) (by omega) (by omega)]
   refine⟨⟨by omega,by omega⟩,Ac ((h.keep e1.keeps).ldb hi) ?_⟩
   show(_/\_)
   have hb:=Lp l[(i+n).toNat]
   refine⟨⟨rfl,rfl,rfl,rfl,hn2,rfl,by omega,by omega,?_⟩,by dsimp only;omega⟩
   rw[pow8,Q4 _ hb,Ad _ (by omega) (by omega)]
   have:=Nh (wB (l.drop i.toNat) n.toNat) l[(i+n).toNat].toNat 8 (by omega) (by omega)
   rw[show((wB (l.drop i.toNat) n.toNat:Nat):Int)*256=((wB (l.drop i.toNat) n.toNat*2^8:Nat):Int) by omega,this,show(n+1).toNat=n.toNat+1 by omega,wB]
   have hg:(l.drop i.toNat).getD n.toNat 0=l[(i+n).toNat]:=by
    have:i.toNat+n.toNat=(i+n).toNat:=by omega
    simp[List.getD,this,hi]
   rw[hg]
  ·have hW:=W_lt (l.drop i.toNat) n.toNat
   have hW2:256^n.toNat<=256^2:=Nat.pow_le_pow_right (by decide) (by omega)
   rw[Ad (n+1) (by omega) (by omega)]
   refine⟨⟨rfl,rfl,rfl,rfl,hn2,rfl,by omega,by omega,?_⟩,by dsimp only;omega⟩
   rw[pow8,Ad _ (by omega) (by omega),show(n+1).toNat=n.toNat+1 by omega,wB]
   have hg:(l.drop i.toNat).getD n.toNat 0=0:=by
    have:(l.drop i.toNat).length<=n.toNat:=by rw[hd];omega
    simp only[List.getD]
    rw[List.getElem?_eq_none (by omega)];rfl
   rw[hg]
   show _=((_+0:Nat):Int)
   omega
  ·have hn3:n.toNat=3:=by omega
   rw[hn3]
   refine⟨fun out' k b' pad' i' n4 word st2=>b=b'/\pad=pad'/\i=i'/\n2=n4/\word=(wB (l.drop i.toNat) 3:Nat)/\Ah st st2/\0<=k/\k<=4/\En st.nt st2 out' (o++grp (l.drop i.toNat) pad k.toNat),fun _ k _ _ _ _ _ _=>(4-k).toNat,⟨rfl,rfl,rfl,rfl,rfl,e1,by omega,by omega,by simpa [grp]using hown⟩,?_⟩
   rintro out' k _ _ _ _ word st2 ⟨rfl,rfl,rfl,rfl,rfl,e2,k1,k2,hown2⟩
   have hgl:=X9 (l.drop i.toNat) pad k.toNat
   have hlen:(o++grp (l.drop i.toNat) pad k.toNat).length<=o.length+4:=by rw[List.length_append];omega
   have hmin:min 3 (l.drop i.toNat).length=(min (3:Int) (l.length-i)).toNat:=by rw[hd];omega
   refine Aa (fun k3=>?_) fun k3=>?_
   ·have hw1:i64.wrap (k+1)=k+1:=Ad _ (by omega) (by omega)
    have ht:(k+1).toNat=k.toNat+1:=by omega
    rw[hw1]
    refine Aa (fun k4=>?_) fun k4=>Ow.2 ⟨fun hp=>?_,fun hp=>?_⟩
    ·rw[Ad (6*k) (by omega) (by omega),Ad (18-6*k) (by omega) (by omega)]
     have hW:=W_lt (l.drop i.toNat) 3
     have hq:wB (l.drop i.toNat) 3/2^(18-6*k).toNat<2^63:=Nat.lt_of_le_of_lt (Nat.div_le_self _ _) (by omega)
     have hand:=E7 (wB (l.drop i.toNat) 3/2^(18-6*k).toNat) 6 hq (by decide)
     rw[Oi _ _ (by omega),show(63:Int)=((2^6-1:Nat):Int) by decide,hand]
     have hm:wB (l.drop i.toNat) 3/2^(18-6*k).toNat%2^6<64:=Nat.mod_lt _ (by decide)
     refine Ab (decide_eq_true (by omega)) ⟨⟨by omega,by show _<(64:Int);omega⟩,?_⟩
     refine Fq (ys:=[Ek.getD (wB (l.drop i.toNat) 3/2^(18-6*k).toNat%2^6) 0]) e2 hown2 (by simp at hlen⊢;omega) fun v' st3 e3 _ hown3=>?_
     refine⟨⟨rfl,rfl,rfl,rfl,rfl,e3,by omega,by omega,?_⟩,by dsimp only;omega⟩
     rw[ht,Mt,Nr,if_pos (by omega),show 18-6*k.toNat=(18-6*k).toNat by omega,<-List.append_assoc]
     exact hown3
    ·refine Fq (ys:=[61]) e2 hown2 (by simp at hlen⊢;omega) fun v' st3 e3 _ hown3=>?_
     refine⟨⟨rfl,rfl,rfl,rfl,rfl,e3,by omega,by omega,?_⟩,by dsimp only;omega⟩
     rw[ht,Mt,Nr,if_neg (by omega),if_pos hp,<-List.append_assoc]
     exact hown3
    ·refine⟨⟨rfl,rfl,rfl,rfl,rfl,e2,by omega,by omega,?_⟩,by dsimp only;omega⟩
     rw[ht,Mt,Nr,if_neg (by omega),if_neg (by simp[hp]),List.append_nil]
     exact hown2
   ·have hk4:k.toNat=4:=by omega
    rw[hk4]at hown2 hlen
    rw[Ad (i+3) (by omega) (by omega)]
    refine⟨⟨rfl,rfl,e2,by omega,by omega,_,hown2,?_,by omega⟩,by dsimp only;omega⟩
    rw[<-ho1,QP pad (l.drop i.toNat) (by omega),List.append_assoc,List.drop_drop,show(i+3).toNat=i.toNat+3 by omega]
 ·rw[List.drop_of_length_le (by omega),Pr,List.append_nil]at ho1
  rw[ho1]at hown
  refine Ac (x:= .str (Ob pad l)) (by rw[hown.rd.toBytes];rfl) ?_
  exact hk _ e1
theorem bit_ok {b:TV} {l:B8} {i:Int} {st:St} {K:Int->St->Prop} (h:SlR st 1 b l.length (At l)) (h0:0<=i) (h1:i<=100000000) (hk:K (Dk l i.toNat) st):CallT PR Ei [b,.int .i64 i] [.one (.int .i64)] st K:=by
 refine KG b i st K (Ab h.isSl ?_)
 rw[h.lenS,h.lenZ,Int.tdiv_eq_ediv_of_nonneg h0,Int.tmod_eq_emod_of_nonneg h0,Ad (i/8) (by omega) (by omega)]
 refine Aa (fun h2=>?_) fun h2=>?_
 ·have hg:l.getD (i.toNat/8) 0=0:=by
   simp only[List.getD]
   rw[List.getElem?_eq_none (by omega)];rfl
  have:Dk l i.toNat=0:=by
   rw[Dk,hg]
   show 0/_%2=0
   simp
  rw[this]at hk;exact hk
 ·have hi:(i/8).toNat<l.length:=by omega
  refine⟨⟨by omega,by omega⟩,Ac (h.ldb hi) ?_⟩
  show need _ _
  have hu:IntKind.u64.wrap (7-i%8)=7-i%8:=by
   unfold IntKind.wrap
   simp only[IntKind.signed,IntKind.bits]
   simp
   omega
  rw[Ad (7-i%8) (by omega) (by omega),hu]
  refine Ab (decide_eq_true (by omega)) ?_
  have hb:=Lp l[(i/8).toNat]
  have hm:min (7-i%8).toNat (IntKind.bits .u8)=(7-i%8).toNat:=Nat.min_eq_left (by show _<=8;omega)
  rw[hm,show(2:Int)^(7-i%8).toNat=((2^(7-i%8).toNat:Nat):Int) by simp,Int.fdiv_eq_ediv_of_nonneg _ (Int.natCast_nonneg _)]
  have hq:l[(i/8).toNat].toNat/2^(7-i%8).toNat<=255:=Nat.le_trans (Nat.div_le_self _ _) hb
  rw[show((l[(i/8).toNat].toNat:Int)/((2^(7-i%8).toNat:Nat):Int))=((l[(i/8).toNat].toNat/2^(7-i%8).toNat:Nat):Int)from rfl,Q4 _ hq]
  have hand:=E7 (l[(i/8).toNat].toNat/2^(7-i%8).toNat) 1 (by omega) (by decide)
  rw[show(1:Int)=((2^1-1:Nat):Int) by decide,hand]
  have hg:l.getD (i.toNat/8) 0=l[(i/8).toNat]:=by
   have:(i/8).toNat=i.toNat/8:=by omega
   simp only[this]
   simp[List.getD,show i.toNat/8<l.length by omega]
  rw[Dk,hg,show 7-i.toNat%8=(7-i%8).toNat by omega]at hk
  exact hk
theorem Vo {b:TV} {l:B8} {pad:Bool} {st:St} {K:B8->St->Prop} (h:SlR st 1 b l.length (At l)) (hl:(l.length:Int)<=1000000) (hk:∀st',Ah st st'->K (Bt pad l) st'):CallT PR Ba [b,.bool pad] [.one (.str)] st K:=by
 refine Ie b pad st K ⟨fun out i b' pad' st1=>b=b'/\pad=pad'/\Ah st st1/\0<=i/\i%6=0/\i<=8*l.length+5/\En st.nt st1 out (Ce l (i.toNat/6)),fun _ i _ _ _=>(8*l.length+6-i).toNat,⟨rfl,rfl,Ah.refl _,by omega,by omega,by omega,En.nil _ _⟩,?_⟩
 rintro out i _ _ st1 ⟨rfl,rfl,e,h0,h6,h1,hown⟩
 have hdl:∀n,(Ce l n).length=n:=fun n=>by simp[Ce]
 refine Ab h.isSl ?_
 rw[h.lenS,Ad (8*(l.length:Int)) (by omega) (by omega)]
 refine Aa (fun h2=>?_) fun h2=>?_
 ·refine⟨fun n k b' pad' out' i' st2=>b=b'/\pad=pad'/\out=out'/\i=i'/\st1=st2/\i<=k/\k<=i+6/\n=(bdg l i.toNat (k-i).toNat:Nat),fun _ k _ _ _ _ _=>(i+6-k).toNat,⟨rfl,rfl,rfl,rfl,rfl,by omega,by omega,by simp[bdg]⟩,?_⟩
  rintro n k _ _ _ _ _ ⟨rfl,rfl,rfl,rfl,rfl,g1,g2,rfl⟩
  rw[Ad (i+6) (by omega) (by omega)]
  refine Aa (fun g3=>?_) fun g3=>?_
  ·refine bit_ok (h.keep e.keeps) (by omega) (by omega) ?_
   have hd:=Tr l i.toNat (k-i).toNat
   have hp:2^(k-i).toNat<=2^5:=Nat.pow_le_pow_right (by decide) (by omega)
   have hb2:Dk l k.toNat<2:=Nat.mod_lt _ (by decide)
   have hor:=Nh (bdg l i.toNat (k-i).toNat) (Dk l k.toNat) 1 (by omega) (by omega)
   rw[pow1,Ad (((bdg l i.toNat (k-i).toNat:Nat):Int)*2) (by omega) (by omega),Ad (k+1) (by omega) (by omega)]
   rw[show((bdg l i.toNat (k-i).toNat:Nat):Int)*2=((bdg l i.toNat (k-i).toNat*2^1:Nat):Int) by omega,hor]
   refine⟨⟨rfl,rfl,rfl,rfl,rfl,by omega,by omega,?_⟩,by dsimp only;omega⟩
   rw[show(k+1-i).toNat=(k-i).toNat+1 by omega,bdg,show i.toNat+(k-i).toNat=k.toNat by omega]
  ·have hk6:(k-i).toNat=6:=by omega
   rw[hk6]
   have hd:=Tr l i.toNat 6
   refine⟨⟨by omega,by show _<(64:Int);omega⟩,?_⟩
   have hj:6*(i.toNat/6)=i.toNat:=by omega
   have hlt:ltr l (i.toNat/6)=Ek.getD (bdg l i.toNat 6) 0:=by rw[ltr,hj]
   refine Fq (ys:=[Ek.getD (bdg l i.toNat 6) 0]) e hown (by rw[hdl];simp;omega) fun v' st3 e3 _ hown3=>?_
   refine⟨⟨rfl,rfl,e3,by omega,by omega,by omega,?_⟩,by dsimp only;omega⟩
   rw[show(i+6).toNat/6=i.toNat/6+1 by omega]
   have:Ce l (i.toNat/6+1)=Ce l (i.toNat/6)++[ltr l (i.toNat/6)]:=by simp[Ce,List.range_succ]
   rw[this,hlt];exact hown3
 ·have hn:i.toNat/6=A4 l.length:=by unfold A4;omega
  rw[hn]at hown
  have hnl:A4 l.length<=8*l.length+5:=by unfold A4;omega
  refine⟨fun out' pad' st2=>pad=pad'/\Ah st st2/\∃j,j<=(if pad=true then(4-A4 l.length%4)%4 else 0)/\En st.nt st2 out' (Ce l (A4 l.length)++List.replicate j 61),fun out' _ _=>(4-lenS out'%4)%4,⟨rfl,e,0,Nat.zero_le _,by simpa using hown⟩,?_⟩
  rintro out' _ st2 ⟨rfl,e2,j,hj,hown2⟩
  have hlen:(Ce l (A4 l.length)++List.replicate j (61:UInt8)).length=A4 l.length+j:=by simp[hdl]
  refine Ow.2 ⟨fun hp=>Ab hown2.rd.isSl ?_,fun hp=>?_⟩
  ·rw[if_pos hp]at hj
   rw[hown2.rd.lenS,hlen,Int.tmod_eq_emod_of_nonneg (by omega)]
   refine Aa (fun g=>?_) fun g=>?_
   ·refine Fq (ys:=[61]) e2 hown2 (by rw[hlen];simp;omega) fun v' st3 e3 _ hown3=>?_
    refine⟨⟨rfl,e3,j+1,by rw[if_pos hp];omega,?_⟩,?_⟩
    ·rw[List.replicate_succ',<-List.append_assoc];exact hown3
    ·have hl3:=hown3.rd.lenS
     dsimp only
     rw[hl3,hown2.rd.lenS,List.length_append,hlen]
     simp only[List.length_cons,List.length_nil]
     omega
   ·refine Ac (x:= .str (Bt pad l)) ?_ (show As CTy.str (.str (Bt pad l)) (fun s1=>K s1 st2)from hk _ e2)
    rw[hown2.rd.toBytes,Bt,if_pos hp,show j=(4-A4 l.length%4)%4 by omega];rfl
  ·rw[if_neg (by simp[hp])]at hj
   refine Ac (x:= .str (Bt pad l)) ?_ (show As CTy.str (.str (Bt pad l)) (fun s1=>K s1 st2)from hk _ e2)
   rw[hown2.rd.toBytes,Bt,if_neg (by simp[hp]),show j=0 by omega];rfl
theorem encG_eq (pad:Bool) (l:B8):Ob pad l=Bt pad l:=Ym pad l.length l (Nat.le_refl _)
theorem Pq (pad:Bool) (l:B8):(Bt pad l).length<=2*l.length+8:=by
 unfold Bt
 rw[List.length_append]
 have h1:(Ce l (A4 l.length)).length=A4 l.length:=by simp[Ce]
 have h2:(if pad=true then List.replicate ((4-A4 l.length%4)%4) (61:UInt8)else []).length<=3:=by
  split
  ·rw[List.length_replicate];omega
  ·simp
 rw[h1]
 unfold A4 at h2⊢
 omega
theorem WR:∀c,c∈Ek->BL c=[c]:=by decide
theorem HX (pad:Bool) (l:B8):Gk (Bt pad l):=by
 intro c hc
 unfold Bt at hc
 rcases List.mem_append.1 hc with hc | hc
 ·simp only[Ce,List.mem_map]at hc
  obtain⟨j,_,rfl⟩:=hc
  refine WR _ ?_
  unfold ltr
  have hl:=Tr l (6*j) 6
  exact FG (by show _<64;omega)
 ·split at hc
  ·rw[List.eq_of_mem_replicate hc];decide
  ·cases hc
theorem Vz (k:Nat) (h:k<16):(([48,49,50,51,52,53,54,55,56,57,97,98,99,100,101,102]:B8).take (k+1)).drop k=[hxD k]:=by
 rw[D9 ([48,49,50,51,52,53,54,55,56,57,97,98,99,100,101,102]:B8) k 0 (by show k<16;exact h),Ph k h,List.drop_append_of_le_length (by rw[List.length_take];show k<=min k 16;omega),List.drop_of_length_le (by rw[List.length_take];omega),List.nil_append]
theorem sign_ok {c:UInt8} {st:St} {K:B8->St->Prop} (hk:K (BL c) st):CallT PR DT [.int .u8 (c.toNat:Int)] [.one .str] st K:=by
 refine JB _ st K ?_
 unfold BL at hk
 have step:∀{k:UInt8} {A B:Prop} (k':Int),k'=(k.toNat:Int)->(c=k->A)->(c≠k->B)->BIf (decide ((c.toNat:Int)=k')) A B:=fun {k A B} k' e h1 h2=>by
  subst e
  exact Aa (fun h=>h1 (NB.1 h)) fun h=>h2 fun e=>h (NB.2 e)
 refine step (k:=34) 34 rfl (fun h=>by rw[if_pos (.inl h),h]at hk;exact hk) fun h0=>step (k:=92) 92 rfl (fun h=>by rw[if_pos (.inr h),h]at hk;exact hk) fun h6=>?_
 rw[if_neg (fun h=>h.elim h0 h6)]at hk
 refine step (k:=8) 8 rfl (fun h=>by rw[if_pos h]at hk;exact hk) fun h1=>step (k:=12) 12 rfl (fun h=>by rw[if_neg h1,if_pos h]at hk;exact hk) fun h2=>step (k:=10) 10 rfl (fun h=>by rw[if_neg h1,if_neg h2,if_pos h]at hk;exact hk) fun h3=>step (k:=13) 13 rfl (fun h=>by rw[if_neg h1,if_neg h2,if_neg h3,if_pos h]at hk;exact hk) fun h4=>step (k:=9) 9 rfl (fun h=>by rw[if_neg h1,if_neg h2,if_neg h3,if_neg h4,if_pos h]at hk;exact hk) fun h5=>?_
 rw[if_neg h1,if_neg h2,if_neg h3,if_neg h4,if_neg h5]at hk
 have hb:=c.toNat_lt
 refine Aa (fun g=>?_) fun g=>?_
 ·rw[if_pos (by omega)]at hk
  have e1:u8.wrap (Int.tdiv (c.toNat:Int) 16)=((c.toNat/16:Nat):Int):=by
   rw[Int.tdiv_eq_ediv_of_nonneg (by omega),EN _ (by omega) (by omega)];omega
  have e2:Int.tmod (c.toNat:Int) 16=((c.toNat%16:Nat):Int):=by rw[Int.tmod_eq_emod_of_nonneg (by omega)];omega
  rw[e1,e2,EN _ (by omega) (by omega),EN _ (by omega) (by omega)]
  have t1:Int.toNat (((c.toNat/16:Nat):Int)+1)=c.toNat/16+1:=by omega
  have t2:Int.toNat (((c.toNat%16:Nat):Int)+1)=c.toNat%16+1:=by omega
  rw[t1,t2,Int.toNat_natCast,Int.toNat_natCast]
  have q1:=Vz (c.toNat/16) (by omega)
  have q2:=Vz (c.toNat%16) (by omega)
  have l16:∀n:Nat,(List.take n ([48,49,50,51,52,53,54,55,56,57,97,98,99,100,101,102]:B8)).length<=16:=fun n=>by rw[List.length_take];show min n 16<=16;omega
  refine⟨⟨by omega,by omega,by show _<=(16:Int);omega⟩,?_,⟨by omega,by omega,by show _<=(16:Int);omega⟩,?_,?_⟩
  ·show 4+(List.drop (c.toNat/16) (List.take (c.toNat/16+1) ([48,49,50,51,52,53,54,55,56,57,97,98,99,100,101,102]:B8))).length<=_
   rw[q1,List.length_singleton];omega
  ·rw[List.length_append]
   show 4+(List.drop (c.toNat/16) (List.take (c.toNat/16+1) ([48,49,50,51,52,53,54,55,56,57,97,98,99,100,101,102]:B8))).length+(List.drop (c.toNat%16) (List.take (c.toNat%16+1) ([48,49,50,51,52,53,54,55,56,57,97,98,99,100,101,102]:B8))).length<=_
   rw[q1,q2,List.length_singleton,List.length_singleton];omega
  ·show K (([92,117,48,48]++List.drop (c.toNat/16) (List.take (c.toNat/16+1) ([48,49,50,51,52,53,54,55,56,57,97,98,99,100,101,102]:B8)))++List.drop (c.toNat%16) (List.take (c.toNat%16+1) ([48,49,50,51,52,53,54,55,56,57,97,98,99,100,101,102]:B8))) st
   rw[q1,q2];exact hk
 ·rw[if_neg (by omega)]at hk
  refine Ac (x:= .str [c]) ?_ (Aw hk)
  have:=BB [c]
  simp only[At,List.map_cons,List.map_nil]at this
  show(Ex [D5 c]).map _=_
  rw[this];rfl
theorem IF {s:B8} (hl:s.length<=10000000) {st:St} {K:B8->St->Prop} (hk:∀st',Ah st st'->K (quB s) st'):CallT PR AS [.str s] [.one .str] st K:=by
 refine Ic s st K ⟨fun o i s1 st'=>s=s1/\Ah st st'/\∃k:Nat,i=k/\k<=s.length/\En st.nt st' o ([34]++(s.take k).flatMap BL),fun _ i _ _=>(s.length-i).toNat,⟨rfl,Ah.refl _,0,rfl,Nat.zero_le _,(show En st.nt st (.list 1 .full 1 [.int .u8 34]) [34]from Own.full _ _ _ _ _)⟩,?_⟩
 rintro o _ _ st1 ⟨rfl,e1,k,rfl,hk1,ho⟩
 have hfl:=HW s k
 have hlen:([34]++(s.take k).flatMap BL).length<=6*s.length+1:=by rw[List.length_append,List.length_singleton];omega
 refine Aa (fun g=>⟨⟨by omega,by omega⟩,?_⟩) fun g=>?_
 ·rw[Int.toNat_natCast]
  have hsn:(s.take (k+1)).flatMap BL=(s.take k).flatMap BL++BL (s.getD k 0):=by
   rw[D9 s k 0 (by omega),List.flatMap_append,List.flatMap_cons,List.flatMap_nil,List.append_nil]
  have hle:=MB (s.getD k 0)
  generalize s.getD k 0=c at hsn hle
  refine sign_ok (Ac (LV st1 (BL c)) (Ab (H1 _) (Ey (ys:=BL c) e1 ho rfl rfl (by omega) fun v' st2 e2 _ ho2=>?_)))
  rw[Ad _ (by omega) (by omega)]
  refine⟨⟨rfl,e2,k+1,by omega,by omega,?_⟩,by dsimp only;omega⟩
  rw[hsn,<-List.append_assoc];exact ho2
 ·have:k=s.length:=by omega
  subst this
  rw[List.take_length]at ho hlen
  refine Ey (ys:=[34]) e1 ho rfl rfl (by rw[List.length_singleton];omega) fun v' st2 e2 _ ho2=>?_
  refine Ac (x:= .str (quB s)) ?_ (Aw (hk _ e2))
  rw[ho2.rd.toBytes]
  unfold quB;simp
section
mutual
noncomputable def AG:Vl->B8
 | .mk s l f=>if s.kind=0 then [110,117,108,108]else if s.kind=1 then(if s.b then [116,114,117,101]else [102,97,108,115,101])else if s.kind=2 then dcT s.neg s.dg s.ex
   else if s.kind=3 then 116::34::(FS s.tk s.td s.tn s.tz++[34])else if s.kind=4 then quB s.text else if s.kind=5 then 98::34::(Bt true s.bytes++[34])
   else if s.kind=6 then 91::(AJ true l++[93])else 123::(AD true f++[125])
noncomputable def AJ:Bool->List Vl->B8
 | _,[]=>[]
 | b,v::r=>(if b then []else [44])++(AG v++AJ false r)
noncomputable def HL:Fd->B8
 | .mk k v=>quB k++58::AG v
noncomputable def AD:Bool->List Fd->B8
 | _,[]=>[]
 | b,d::r=>(if b then []else [44])++(HL d++AD false r)
end
mutual
def TxV:Vl->Prop
 | .mk s l f=>(0<=s.kind/\s.kind<=7/\Cu s.neg s.dg s.ex/\(s.kind=3->BW s.tk s.td s.tn s.tz)/\s.bytes.length<=65536)/\Lr l/\Ls f
def Lr:List Vl->Prop
 | []=>True
 | v::r=>TxV v/\Lr r
def TxD:Fd->Prop
 | .mk _ v=>TxV v
def Ls:List Fd->Prop
 | []=>True
 | d::r=>TxD d/\Ls r
end
theorem PK:∀{l:List Vl},Lr l↔∀v,v∈l->TxV v
 | []=>by unfold Lr;simp
 | v::r=>by unfold Lr;rw[PK];simp
theorem Ke:∀{l:List Fd},Ls l↔∀v,v∈l->TxD v
 | []=>by unfold Ls;simp
 | v::r=>by unfold Ls;rw[Ke];simp
mutual
theorem DD.tx:∀{v:Vl},DD v->TxV v
 | .mk s l f,h=>by
  unfold DD at h
  unfold TxV
  exact⟨⟨h.1.own.k0,h.1.own.k7,h.1.dec,h.1.time,h.1.blen⟩,CW.tx h.2.1,CX.tx h.2.2⟩
theorem CW.tx:∀{l:List Vl},CW l->Lr l
 | [],_=>by unfold Lr;trivial
 | v::r,h=>by unfold CW at h;unfold Lr;exact⟨DD.tx h.1,CW.tx h.2⟩
theorem EE.tx:∀{d:Fd},EE d->TxD d
 | .mk k v,h=>by unfold EE at h;unfold TxD;exact DD.tx h
theorem CX.tx:∀{l:List Fd},CX l->Ls l
 | [],_=>by unfold Ls;trivial
 | d::r,h=>by unfold CX at h;unfold Ls;exact⟨EE.tx h.1,CX.tx h.2⟩
end
mutual
theorem LW:∀{v:Vl},TxV v->TxV (Bk v)
 | .mk s l f,h=>by
  unfold TxV at h
  unfold Bk TxV
  refine⟨h.1,Qk h.2.1,Ke.2 fun d hd=>?_⟩
  exact Ke.1 (Qm h.2.2) d ((Cz _).mem_iff.1 hd)
theorem Qk:∀{l:List Vl},Lr l->Lr (Ds l)
 | [],h=>by unfold Ds Lr;trivial
 | v::r,h=>by
  unfold Lr at h
  unfold Ds Lr
  exact⟨LW h.1,Qk h.2⟩
theorem Xm:∀{d:Fd},TxD d->TxD (CJ d)
 | .mk k v,h=>by unfold TxD at h;unfold CJ TxD;exact LW h
theorem Qm:∀{f:List Fd},Ls f->Ls (CN f)
 | [],h=>by unfold CN Ls;trivial
 | d::r,h=>by
  unfold Ls at h
  unfold CN Ls
  exact⟨Xm h.1,Qm h.2⟩
end
theorem OM:∀(l:List Vl) (b:Bool) (v:Vl),AJ b (l++[v])=AJ b l++((if b=true/\l=[]then []else [44])++AG v)
 | [],b,v=>by simp only[List.nil_append,AJ,List.append_nil];cases b<;>simp
 | w::r,b,v=>by
  simp only[List.cons_append,AJ]
  rw[OM r false v]
  simp[List.append_assoc]
theorem OO:∀(l:List Fd) (b:Bool) (v:Fd),AD b (l++[v])=AD b l++((if b=true/\l=[]then []else [44])++HL v)
 | [],b,v=>by simp only[List.nil_append,AD,List.append_nil];cases b<;>simp
 | w::r,b,v=>by
  simp only[List.cons_append,AD]
  rw[OO r false v]
  simp[List.append_assoc]
theorem OL {l:List Vl} {k:Nat} {v:Vl} (h:l[k]? =some v):AJ true (l.take (k+1))=AJ true (l.take k)++((if k=0 then []else [44])++AG v):=by
 rw[Fi h,OM]
 have hk:=(List.getElem?_eq_some_iff.1 h).1
 congr 2
 by_cases h0:k=0
 ·subst h0;simp
 ·rw[if_neg h0,if_neg]
  rintro⟨_,e⟩
  have:=congrArg List.length e
  rw[List.length_take,List.length_nil]at this
  omega
theorem ON {l:List Fd} {k:Nat} {v:Fd} (h:l[k]? =some v):AD true (l.take (k+1))=AD true (l.take k)++((if k=0 then []else [44])++HL v):=by
 rw[Fi h,OO]
 have hk:=(List.getElem?_eq_some_iff.1 h).1
 congr 2
 by_cases h0:k=0
 ·subst h0;simp
 ·rw[if_neg h0,if_neg]
  rintro⟨_,e⟩
  have:=congrArg List.length e
  rw[List.length_take,List.length_nil]at this
  omega
theorem Iv:∀{l:List Vl} {b:Bool} {k:Nat} {v:Vl},l[k]? =some v->(AJ b (l.take k)).length+(AG v).length+(if b=true/\k=0 then 0 else 1)<=(AJ b l).length
 | [],b,k,v,h=>by simp at h
 | w::r,b,0,v,h=>by
  simp at h;subst h
  cases b<;>simp[AJ]<;>omega
 | w::r,b,k+1,v,h=>by
  have:=Iv (l:=r) (b:=false) (k:=k) (v:=v) (by simpa using h)
  simp only[List.take_succ_cons,AJ,List.length_append]at this⊢
  simp at this⊢;omega
theorem Iw:∀{l:List Fd} {b:Bool} {k:Nat} {v:Fd},l[k]? =some v->(AD b (l.take k)).length+(HL v).length+(if b=true/\k=0 then 0 else 1)<=(AD b l).length
 | [],b,k,v,h=>by simp at h
 | w::r,b,0,v,h=>by
  simp at h;subst h
  cases b<;>simp[AD]<;>omega
 | w::r,b,k+1,v,h=>by
  have:=Iw (l:=r) (b:=false) (k:=k) (v:=v) (by simpa using h)
  simp only[List.take_succ_cons,AD,List.length_append]at this⊢
  simp at this⊢;omega
theorem SlR.unput {st:St} {b sz n:Nat} {u:TV} {xs:List TV} (h:SlR (st.put b .dead) sz u n xs):SlR st sz u n xs:=by
 rcases h with h | ⟨b',off,cap,l,h1,h2,h3,h4,h5,h6⟩
 ·exact .inl h
 ·refine .inr ⟨b',off,cap,l,h1,h2,?_,h4,h5,h6⟩
  simp only[St.put]at h3
  split at h3
  ·cases h3
  ·exact h3
theorem But.view {b:Nat} {x y:St} (h:But b x y):BI (x.put b .dead) (y.put b .dead):=by
 refine⟨h.1,fun i hi=>?_⟩
 simp only[St.put]
 by_cases e:i=b
 ·rw[if_pos e,if_pos e]
 ·rw[if_neg e,if_neg e];exact h.2 i e hi
theorem VlO.view {st:St} {b:Nat} {v:Vl} {cs:List TV} {fp:List Nat} (h:VlO st v cs fp) (hb:b∉fp):VlR (st.put b .dead) v cs:=
 (h.frame (S:=(·=b)) (StX.put (S:=(·=b)) rfl _) fun x hx e=>hb (e▸hx)).rd
theorem el13v {b:Nat} {st0 st:St} {ul:TV} {xl:List TV} {l:List Vl} (hke:But b st0 st) (h2:SlR (st0.put b .dead) 13 ul l.length xl) (h3:VsR (st0.put b .dead) l xl) {i:Int} {k:Nat} (hi:i=k) (hk:k<l.length) {f:Fun [.int .i64,.bool,.bool,.str,.int .i64,.int .i64,.int .i64,.int .i64,.int .i64,.str,.tv,.tv,.tv] Prop}
  (hf:∀s' l' f' ub1 ul1 uf1,l[k]? =some (.mk s' l' f')->VlR (st0.put b .dead) (.mk s' l' f') (AI s' ub1 ul1 uf1)->List.all (AI s' ub1 ul1 uf1) Ar=true->f s'.kind s'.b s'.neg s'.dg s'.ex s'.tk s'.td s'.tn s'.tz s'.text ub1 ul1 uf1):
  (0<=i/\i<(lenZ 13 ul:Int))/\Ak ((Al st [] (.t (ixT 13 ul (Int.toNat i))) 0 13).map TV.agg) fun x=>B4 [.int .i64,.bool,.bool,.str,.int .i64,.int .i64,.int .i64,.int .i64,.int .i64,.str,.tv,.tv,.tv] x f:=by
 subst hi
 have gw:l[k]? =some l[k]:=List.getElem?_eq_getElem hk
 obtain⟨cw,hw,hcw,hcl⟩:=h3.get gw
 rw[h2.lenZ,Int.toNat_natCast,(h2.keep hke.view).unput.ldc h3.len hk,hcw]
 generalize l[k]=w at*
 cases w with
 | mk s' l' f'=>
 have hw0:=hw
 unfold VlR at hw0
 obtain⟨ub',ul',uf',xl',xf',rfl,w1,w2,w3,w4,w5⟩:=hw0
 exact⟨⟨by omega,by omega⟩,Ac rfl (Nv (hf s' l' f' ub' ul' uf' gw hw (Bv w1.one w2.one w4.one)))⟩
theorem el14v {b:Nat} {st0 st:St} {uf:TV} {xf:List TV} {l:List Fd} (hke:But b st0 st) (h2:SlR (st0.put b .dead) 14 uf l.length xf) (h3:FsR (st0.put b .dead) l xf) {i:Int} {k:Nat} (hi:i=k) (hk:k<l.length) {f:Fun [.str,.int .i64,.bool,.bool,.str,.int .i64,.int .i64,.int .i64,.int .i64,.int .i64,.str,.tv,.tv,.tv] Prop}
  (hf:∀key s' l' f' ub1 ul1 uf1,l[k]? =some (.mk key (.mk s' l' f'))->VlR (st0.put b .dead) (.mk s' l' f') (AI s' ub1 ul1 uf1)->List.all (.str key::AI s' ub1 ul1 uf1) Ar=true->f key s'.kind s'.b s'.neg s'.dg s'.ex s'.tk s'.td s'.tn s'.tz s'.text ub1 ul1 uf1):
  (0<=i/\i<(lenZ 14 uf:Int))/\Ak ((Al st [] (.t (ixT 14 uf (Int.toNat i))) 0 14).map TV.agg) fun x=>B4 [.str,.int .i64,.bool,.bool,.str,.int .i64,.int .i64,.int .i64,.int .i64,.int .i64,.str,.tv,.tv,.tv] x f:=by
 subst hi
 have gw:l[k]? =some l[k]:=List.getElem?_eq_getElem hk
 obtain⟨cw,hw,hcw,hcl⟩:=h3.get gw
 rw[h2.lenZ,Int.toNat_natCast,(h2.keep hke.view).unput.ldc h3.len hk,hcw]
 generalize l[k]=w at*
 cases w with
 | mk key w=>
 cases w with
 | mk s' l' f'=>
 have hw0:=hw
 unfold FdR at hw0
 obtain⟨cw2,rfl,hw1⟩:=hw0
 have hw2:=hw1
 unfold VlR at hw2
 obtain⟨ub',ul',uf',xl',xf',rfl,w1,w2,w3,w4,w5⟩:=hw2
 exact⟨⟨by omega,by omega⟩,Ac rfl (IV (hf key s' l' f' ub' ul' uf' gw hw1 (Me w1.one w2.one w4.one)))⟩
theorem Gw (k td tn tz:Int):(FS k td tn tz).length<=40:=by
 have h1:∀n,(KO n).length=10:=fun n=>by unfold KO;simp only[List.length_append,List.length_cons,AU]
 have h2:∀n,(Jv n).length<=18:=fun n=>by
  unfold Jv
  have:(if n%1000000000=0 then([]:B8)else 46::GR (A0 9 (n%1000000000))).length<=10:=by
   split
   ·simp
   ·have:=Tw (A0 9 (n%1000000000))
    rw[AU]at this
    rw[List.length_cons];omega
  simp only[List.length_append,List.length_cons,AU];omega
 have h3:∀z,(HS z).length<=6:=fun z=>by
  unfold HS;split
  ·decide
  ·simp only[List.length_append,List.length_cons,AU];omega
 unfold FS
 have e1:=h1 td.toNat
 have e2:=h2 tn.toNat
 have e3:=h3 tz
 split
 ·omega
 split
 ·omega
 split
 ·rw[List.length_append,List.length_cons];omega
 ·rw[List.length_append,List.length_cons,List.length_append];omega
theorem XP {k d n z:Int} (h:BW k d n z) {st:St} {K:B8->St->Prop} (hk:∀st',Ah st st'->K (FS k d n z) st'):CallT PR GG [.agg [.int .i64 k,.int .i64 d,.int .i64 n,.int .i64 z]] [.one .str] st K:=by
 have h0:=h
 obtain⟨a1,a2,a3,a4,a5,a6,a7,a8,a9,a10,a11⟩:=h
 have ed:d=((d.toNat:Nat):Int):=by omega
 have en:n=((n.toNat:Nat):Int):=by omega
 have l1:∀m,(KO m).length=10:=fun n=>by unfold KO;simp only[List.length_append,List.length_cons,AU]
 unfold FS at hk
 have hdt:∀{st:St} {K:B8->St->Prop},(∀st',Ah st st'->K (KO d.toNat) st')->CallT PR BK [.int .i64 d] [.one .str] st K:=fun {st K} hk=>by
  rw[ed];exact Tv (by omega) hk
 have hct:∀{st:St} {K:B8->St->Prop},(∀st',Ah st st'->K (Jv n.toNat) st')->CallT PR BE [.int .i64 n] [.one .str] st K:=fun {st K} hk=>by
  rw[en];exact RX (by omega) hk
 have l2:(Jv n.toNat).length<=40:=by have:=Gw 2 d n z;unfold FS at this;rw[if_neg (by omega),if_pos rfl]at this;exact this
 have l3:(HS z).length<=40:=by have:=Gw 4 d n z;unfold FS at this;rw[if_neg (by omega),if_neg (by omega),if_neg (by omega),List.length_append,List.length_cons,List.length_append]at this;omega
 have l1':=l1 d.toNat
 refine OD _ _ _ _ st K (LO ?_)
 rw[decide_eq_true h0]
 refine Aa (p:=False) (fun h=>h.elim) fun _=>Aa (fun g=>?_) fun g1=>Aa (fun g=>?_) fun g2=>Aa (fun g=>?_) fun g3=>?_
 ·rw[if_pos g]at hk;exact hdt hk
 ·rw[if_neg g1,if_pos g]at hk;exact hct hk
 ·rw[if_neg g1,if_neg g2,if_pos g]at hk
  refine hdt fun st1 e1=>⟨by rw[l1'];show 10+1<=_;omega,hct fun st2 e2=>⟨by rw[List.length_append,l1'];show 10+1+_<=_;omega,?_⟩⟩
  have:=hk st2 (e1.trans e2)
  rw[List.append_cons]at this
  exact this
 ·rw[if_neg g1,if_neg g2,if_neg g3]at hk
  refine hdt fun st1 e1=>⟨by rw[l1'];show 10+1<=_;omega,hct fun st2 e2=>⟨by rw[List.length_append,l1'];show 10+1+_<=_;omega,P0 a7 a8 fun st3 e3=>⟨by rw[List.length_append,List.length_append,l1'];show 10+1+_+_<=_;omega,?_⟩⟩⟩
  have:=hk st3 ((e1.trans e2).trans e3)
  rw[List.append_cons,<-List.append_assoc]at this
  exact this
theorem V9 {k d n z:Int} (h:BW k d n z) {st:St} {K:B8->St->Prop} (hk:∀st',Ah st st'->K (FS k d n z) st'):CallT PR DX [.agg [.int .i64 k,.int .i64 d,.int .i64 n,.int .i64 z]] [.one .str] st K:=by
 have h0:=h
 obtain⟨a1,a2,a3,a4,a5,a6,a7,a8,a9,a10,a11⟩:=h
 have ed:d=((d.toNat:Nat):Int):=by omega
 have en:n=((n.toNat:Nat):Int):=by omega
 have hct:∀{st:St} {K:B8->St->Prop},(K (Jv n.toNat) st)->CallT PR Bi [.int .i64 n] [.one .str] st K:=fun {st K} hk=>by
  rw[en];exact We (by omega) hk
 have l2:(Jv n.toNat).length<=40:=by have:=Gw 2 d n z;unfold FS at this;rw[if_neg (by omega),if_pos rfl]at this;exact this
 have l3:(HS z).length<=40:=by have:=Gw 4 d n z;unfold FS at this;rw[if_neg (by omega),if_neg (by omega),if_neg (by omega),List.length_append,List.length_cons,List.length_append]at this;omega
 have hk:=hk st (Ah.refl st)
 unfold FS at hk
 refine JK _ _ _ _ st K (SZ ?_)
 rw[decide_eq_true h0]
 refine Aa (p:=False) (fun h=>h.elim) fun _=>?_
 rw[ed]
 refine XA (by omega) fun y m dd hd=>?_
 have he:=RT hd
 obtain⟨b1,b2,b3,b4,b5,b6,b7⟩:=hd
 have hm:=ES y m
 have l4:=AU 4 y
 have l5:=AU 2 m
 have l6:=AU 2 dd
 refine GB (w:=4) (by omega) (by omega) ⟨by rw[l4];show 4+1<=_;omega,GB (w:=2) (by omega) (by omega) ⟨by rw[List.length_append,l4,l5];show 4+1+2<=_;omega,by rw[List.length_append,List.length_append,l4,l5];show 4+1+2+1<=_;omega,GB (w:=2) (by omega) (by omega) ⟨by simp only[List.length_append,l4,l5,l6];show 4+1+2+1+2<=_;omega,?_⟩⟩⟩
 rw[List.append_cons,List.append_cons,List.append_assoc (A0 4 y++[45]),<-List.append_assoc,<-List.append_assoc]at he
 have he2:((((A0 4 y++Cc)++A0 2 m)++Cc)++A0 2 dd)=KO d.toNat:=he.symm
 have l1':(KO d.toNat).length=10:=by unfold KO;simp only[List.length_append,List.length_cons,AU]
 rw[he2]
 refine Aa (fun g=>?_) fun g1=>Aa (fun g=>?_) fun g2=>Aa (fun g=>?_) fun g3=>?_
 ·rw[if_pos g]at hk;exact hk
 ·rw[if_neg g1,if_pos g]at hk;exact hct hk
 ·rw[if_neg g1,if_neg g2,if_pos g]at hk
  refine⟨by rw[l1'];show 10+1<=_;omega,hct ⟨by rw[List.length_append,l1'];show 10+1+_<=_;omega,?_⟩⟩
  rw[List.append_cons]at hk
  exact hk
 ·rw[if_neg g1,if_neg g2,if_neg g3]at hk
  refine⟨by rw[l1'];show 10+1<=_;omega,hct ⟨by rw[List.length_append,l1'];show 10+1+_<=_;omega,Ue a7 a8 ⟨by rw[List.length_append,List.length_append,l1'];show 10+1+_+_<=_;omega,?_⟩⟩⟩
  rw[List.append_cons,<-List.append_assoc]at hk
  exact hk
end
section
theorem WW:∀(N:Nat) (v:Vl),v.sz<=N->N<=2000000->TxV v->∀{st0 sv st:St} {b:Nat} {cs:List TV} {buf:B8} {K:St->Prop},VlR (sv.put b .dead) v cs->But b sv st->Bld st0 b st buf->buf.length+(AG v).length<=800000000->v.sz<=20000000->
  (∀st',Bld st0 b st' (buf++AG v)->But b st st'->K st')->CallT PR BA [.box b 0,.agg cs] [] st K:=by
 intro N
 induction N with
 | zero=>intro v h;have:=v.sz_pos;omega
 | succ N ih=>
 intro v hN hN2 hok st0 sv st b cs buf K h hke hB hlen hsz0 hk
 cases v with
 | mk s l f=>
 have hsz:(Vl.mk s l f).sz=1+s.bytes.length+s.text.length+s.dg.length+Ct l+BS f:=by unfold Vl.sz;rfl
 have hll:=DF l
 have hfl:=CC f
 unfold TxV at hok
 obtain⟨⟨k0,k7,hdec,htime,hblen⟩,lok,fok⟩:=hok
 unfold VlR at h
 obtain⟨ub,ul,uf,xl,xf,rfl,h1,h2,h3,h4,h5⟩:=h
 unfold AG at hlen hk
 refine OF _ _ _ _ _ _ _ _ _ _ _ _ _ _ st K ?_
 refine Aa (fun g=>?_) fun g0=>Aa (fun g=>?_) fun g1=>Aa (fun g=>?_) fun g2=>Aa (fun g=>?_) fun g3=>Aa (fun g=>?_) fun g4=>Aa (fun g=>?_) fun g5=>Aa (fun g=>?_) fun g6=>Aa (fun g=>?_) fun g7=>?_
 ·rw[if_pos g]at hlen hk
  exact Cg hB (by show _+4<=_;omega) fun st' hb he=>hk st' hb he
 ·rw[if_neg g0,if_pos g]at hlen hk
  refine Aq (fun hb=>?_) fun hb=>?_
  ·rw[if_pos hb]at hk
   exact Cg hB (by show _+4<=_;omega) fun st' hb he=>hk st' hb he
  ·rw[if_neg (by simp[hb])]at hk
   exact Cg hB (by show _+5<=_;omega) fun st' hb he=>hk st' hb he
 ·rw[if_neg g0,if_neg g1,if_pos g]at hlen hk
  exact Yy hdec fun st1 e1=>Cg (hB.keep e1) (by omega) fun st' hb he=>hk st' hb ((But.of e1).trans he)
 ·rw[if_neg g0,if_neg g1,if_neg g2,if_pos g]at hlen hk
  have htl:=Gw s.tk s.td s.tn s.tz
  refine XP (htime g) fun st1 e1=>⟨by show 2+_<=_;omega,by rw[List.length_append];show 2+_+1<=_;omega,Cg (hB.keep e1) (by rw[List.length_append,List.length_append];show _+(2+_+1)<=_;omega) fun st' hb he=>hk st' ?_ ((But.of e1).trans he)⟩
  exact hb
 ·rw[if_neg g0,if_neg g1,if_neg g2,if_neg g3,if_pos g]at hlen hk
  exact S0 hB (by omega) fun st' hb he=>hk st' hb he
 ·rw[if_neg g0,if_neg g1,if_neg g2,if_neg g3,if_neg g4,if_pos g]at hlen hk
  have hel:=Pq true s.bytes
  refine enc_ok ((h1.keep hke.view).unput) (by omega) fun st1 e1=>?_
  rw[encG_eq]
  refine⟨by show 2+_<=_;omega,by rw[List.length_append];show 2+_+1<=_;omega,Cg (hB.keep e1) (by rw[List.length_append,List.length_append];show _+(2+_+1)<=_;omega) fun st' hb he=>hk st' ?_ ((But.of e1).trans he)⟩
  exact hb
 ·rw[if_neg g0,if_neg g1,if_neg g2,if_neg g3,if_neg g4,if_neg g5,if_pos g]at hlen hk
  simp only[List.length_cons,List.length_append,List.length_nil]at hlen
  refine A3 91 rfl hB (by omega) fun st1 hb1 he1=>Ab h2.isSl ?_
  refine⟨fun i w u n st'=>TV.box b 0=w/\ul=u/\(l.length:Int)=n/\But b st st'/\∃k:Nat,i=k/\k<=l.length/\Bld st0 b st' (buf++[91]++AJ true (l.take k)),fun i _ _ _ _=>(l.length-i).toNat,⟨rfl,rfl,by rw[h2.lenS],he1,0,rfl,Nat.zero_le _,by simpa [AJ]using hb1⟩,?_⟩
  rintro _ _ _ _ st2 ⟨rfl,rfl,rfl,he2,k,rfl,hkl,hb2⟩
  refine Aa (fun g'=>?_) fun g'=>?_
  ·refine el13v (hke.trans he2) h2 h3 rfl (by omega) fun s' l' f' ub1 ul1 uf1 gw hw on=>Ab on ?_
   have hwsz:=EO gw
   have htk:=OL gw
   have hle:=Iv (b:=true) gw
   have hwt:=PK.1 lok _ (EB gw)
   have fin:∀(buf2:B8) st3,But b st st3->Bld st0 b st3 buf2->buf2=buf++[91]++AJ true (l.take k)++(if k=0 then []else [44])->CallT PR BA [.box b 0,.agg (AI s' ub1 ul1 uf1)] [] st3 fun st4=>(TV.box b 0=TV.box b 0/\ul=ul/\(l.length:Int)=(l.length:Int)/\But b st st4/\∃k':Nat,i64.wrap ((k:Int)+1)=k'/\k'<=l.length/\Bld st0 b st4 (buf++[91]++AJ true (l.take k')))/\((l.length:Int)-i64.wrap ((k:Int)+1)).toNat<((l.length:Int)-(k:Int)).toNat:=by
    intro buf2 st3 he3 hb3 hbuf
    have hbl:buf2.length+(AG (.mk s' l' f')).length<=800000000:=by
     rw[hbuf]
     by_cases h0:k=0
     ·rw[if_pos h0]
      rw[if_pos (by simp[h0])]at hle
      simp only[List.length_append,List.length_cons,List.length_nil];omega
     ·rw[if_neg h0]
      rw[if_neg (fun h=>h0 h.2)]at hle
      simp only[List.length_append,List.length_cons,List.length_nil];omega
    refine ih _ (by omega) (by omega) hwt hw (hke.trans he3) hb3 hbl (by omega) fun st4 hb4 he4=>?_
    rw[Ad _ (by omega) (by omega)]
    refine⟨⟨rfl,rfl,rfl,he3.trans he4,k+1,by omega,by omega,?_⟩,by omega⟩
    rw[htk,<-List.append_assoc,<-List.append_assoc,<-hbuf];exact hb4
   refine Aa (fun g9=>?_) fun g9=>fin _ st2 he2 hb2 (by rw[if_pos (by omega),List.append_nil])
   refine A3 44 rfl hb2 ?_ fun st3 hb3 he3=>fin _ st3 (he2.trans he3) hb3 (by rw[if_neg (by omega)])
   rw[if_neg (by omega)]at hle
   simp only[List.length_append,List.length_cons,List.length_nil];omega
  ·have hkk:k=l.length:=by omega
   subst hkk
   rw[List.take_length]at hb2
   refine A3 93 rfl hb2 (by simp only[List.length_append,List.length_cons,List.length_nil];omega) fun st3 hb3 he3=>hk st3 ?_ (he2.trans he3)
   have:buf++[91]++AJ true l++[93]=buf++91::(AJ true l++[93]):=by simp
   rw[<-this];exact hb3
 ·rw[if_neg g0,if_neg g1,if_neg g2,if_neg g3,if_neg g4,if_neg g5,if_neg g6]at hlen hk
  simp only[List.length_cons,List.length_append,List.length_nil]at hlen
  refine A3 123 rfl hB (by omega) fun st1 hb1 he1=>Ab h4.isSl ?_
  refine⟨fun i w u n st'=>TV.box b 0=w/\uf=u/\(f.length:Int)=n/\But b st st'/\∃k:Nat,i=k/\k<=f.length/\Bld st0 b st' (buf++[123]++AD true (f.take k)),fun i _ _ _ _=>(f.length-i).toNat,⟨rfl,rfl,by rw[h4.lenS],he1,0,rfl,Nat.zero_le _,by simpa [AD]using hb1⟩,?_⟩
  rintro _ _ _ _ st2 ⟨rfl,rfl,rfl,he2,k,rfl,hkl,hb2⟩
  refine Aa (fun g'=>?_) fun g'=>?_
  ·refine el14v (hke.trans he2) h4 h5 rfl (by omega) fun key s' l' f' ub1 ul1 uf1 gw hw on=>Ab on ?_
   have hwsz:=FH gw
   have hwk:(Fd.mk key (.mk s' l' f')).sz=key.length+(Vl.mk s' l' f').sz:=by unfold Fd.sz;rfl
   have htk:=ON gw
   have hle:=Iw (b:=true) gw
   have hwt:=Ke.1 fok _ (EB gw)
   unfold TxD at hwt
   have hvp:=(Vl.mk s' l' f').sz_pos
   have hbd:HL (.mk key (.mk s' l' f'))=quB key++58::AG (.mk s' l' f'):=by unfold HL;rfl
   rw[hbd]at htk hle
   simp only[List.length_append,List.length_cons]at hle
   have fin:∀(buf2:B8) st3,But b st st3->Bld st0 b st3 buf2->buf2=buf++[123]++AD true (f.take k)++(if k=0 then []else [44])->CallT PR CT [.box b 0,.str key] [] st3 fun st4=>CallT PR Aj [.box b 0,.int .u8 58] [.one .tv] st4 fun (v1:TV) (st5:St)=>CallT PR BA [.box b 0,.agg (AI s' ub1 ul1 uf1)] [] st5 fun st6=>(TV.box b 0=TV.box b 0/\uf=uf/\(f.length:Int)=(f.length:Int)/\But b st st6/\∃k':Nat,i64.wrap ((k:Int)+1)=k'/\k'<=f.length/\Bld st0 b st6 (buf++[123]++AD true (f.take k')))/\((f.length:Int)-i64.wrap ((k:Int)+1)).toNat<((f.length:Int)-(k:Int)).toNat:=by
    intro buf2 st3 he3 hb3 hbuf
    have hbl:buf2.length+(quB key).length+1+(AG (.mk s' l' f')).length<=800000000:=by
     rw[hbuf]
     by_cases h0:k=0
     ·rw[if_pos h0]
      rw[if_pos (by simp[h0])]at hle
      simp only[List.length_append,List.length_cons,List.length_nil];omega
     ·rw[if_neg h0]
      rw[if_neg (fun h=>h0 h.2)]at hle
      simp only[List.length_append,List.length_cons,List.length_nil];omega
    refine S0 hb3 (by omega) fun st4 hb4 he4=>A3 58 rfl hb4 (by rw[List.length_append];omega) fun st5 hb5 he5=>?_
    refine ih _ (by omega) (by omega) hwt hw (((hke.trans he3).trans he4).trans he5) hb5 (by rw[List.length_append,List.length_append,List.length_singleton];omega) (by omega) fun st6 hb6 he6=>?_
    rw[Ad _ (by omega) (by omega)]
    refine⟨⟨rfl,rfl,rfl,((he3.trans he4).trans he5).trans he6,k+1,by omega,by omega,?_⟩,by omega⟩
    have:buf++[123]++AD true (f.take (k+1))=buf2++quB key++[58]++AG (.mk s' l' f'):=by rw[htk,hbuf];simp
    rw[this];exact hb6
   refine Aa (fun g9=>?_) fun g9=>fin _ st2 he2 hb2 (by rw[if_pos (by omega),List.append_nil])
   refine A3 44 rfl hb2 ?_ fun st3 hb3 he3=>fin _ st3 (he2.trans he3) hb3 (by rw[if_neg (by omega)])
   rw[if_neg (by omega)]at hle
   simp only[List.length_append,List.length_cons,List.length_nil];omega
  ·have hkk:k=f.length:=by omega
   subst hkk
   rw[List.take_length]at hb2
   refine A3 125 rfl hb2 (by simp only[List.length_append,List.length_cons,List.length_nil];omega) fun st3 hb3 he3=>hk st3 ?_ (he2.trans he3)
   have:buf++[123]++AD true f++[125]=buf++123::(AD true f++[125]):=by simp
   rw[<-this];exact hb3
 ·omega
theorem dcT_len {neg:Bool} {dg:B8} {ex:Int} (h:Cu neg dg ex):(dcT neg dg ex).length<=dg.length+40:=by
 by_cases hne:dg=[]
 ·unfold dcT;rw[if_pos hne];simp
 ·obtain⟨h1,h2,h3,h4,h5,h6⟩:=h.2 hne
  have hpos:=List.length_pos_iff.2 hne
  have hs:=OX neg
  unfold dcT
  rw[if_neg hne,List.length_append,show(if neg=true then [45]else [])=IC neg from rfl]
  split
  ·rw[List.length_append,List.length_replicate];omega
  split
  ·rw[List.length_append,List.length_cons,List.length_take,List.length_drop];omega
  split
  ·rw[List.length_cons,List.length_cons,List.length_append,List.length_replicate];omega
  ·rw[List.length_append,List.length_append,List.length_take]
   have e1:(if 1<dg.length then 46::dg.drop 1 else []).length<=dg.length:=by
    split
    ·rw[List.length_cons,List.length_drop];omega
    ·simp
   have e2:(P5 (dg.length+ex)).length<=20:=by
    rw[Os]
    split
    ·have:=Ki (n:=(1-((dg.length:Int)+ex)).toNat) (by omega)
     rw[List.length_cons,List.length_cons];omega
    ·have:=Ki (n:=((dg.length:Int)+ex-1).toNat) (by omega)
     rw[List.length_cons];omega
   omega
mutual
theorem LL:∀{v:Vl},TxV v->(AG v).length+10<=60*v.sz
 | .mk s l f,h=>by
  unfold TxV at h
  obtain⟨⟨h1,h2,h3,h4,h7⟩,h5,h6⟩:=h
  have hsz:=szs s l f
  have hv:=Qh true h5
  have hf:=Qi true h6
  rw[hsz]
  unfold AG
  split
  ·simp;omega
  split
  ·split<;>(simp;omega)
  split
  ·have:=dcT_len h3;omega
  split
  ·have:=Gw s.tk s.td s.tn s.tz
   rw[List.length_cons,List.length_cons,List.length_append,List.length_singleton];omega
  split
  ·have:=Ok s.text;omega
  split
  ·have:=Pq true s.bytes
   rw[List.length_cons,List.length_cons,List.length_append,List.length_singleton];omega
  split
  ·rw[List.length_cons,List.length_append,List.length_singleton];omega
  ·rw[List.length_cons,List.length_append,List.length_singleton];omega
theorem Qh:∀{l:List Vl} (b:Bool),Lr l->(AJ b l).length<=60*Ct l
 | [],b,_=>by unfold AJ;simp
 | v::r,b,h=>by
  unfold Lr at h
  have h1:=LL h.1
  have h2:=Qh false h.2
  unfold AJ Ct
  have:(if b=true then([]:B8)else [44]).length<=1:=by split<;>simp
  rw[List.length_append,List.length_append];omega
theorem Xb:∀{d:Fd},TxD d->(HL d).length+1<=60*d.sz
 | .mk k v,h=>by
  unfold TxD at h
  have h1:=LL h
  have h2:=Ok k
  have h3:=szd k v
  rw[h3]
  unfold HL
  rw[List.length_append,List.length_cons];omega
theorem Qi:∀{l:List Fd} (b:Bool),Ls l->(AD b l).length<=60*BS l
 | [],b,_=>by unfold AD;simp
 | v::r,b,h=>by
  unfold Ls at h
  have h1:=Xb h.1
  have h2:=Qi false h.2
  unfold AD BS
  have:(if b=true then([]:B8)else [44]).length<=1:=by split<;>simp
  rw[List.length_append,List.length_append];omega
end
theorem Va {v:Vl} (hN:v.sz<=2000000) (hC:v.cnt<=65536) (hkn:KNd v) {st:St} {cs:List TV} {K:Int->Bool->Bool->B8->Int->Int->Int->Int->Int->B8->TV->TV->TV->St->Prop} (h:VlR st v cs)
  (hk:∀ub ul uf st' fp,VlO st' (Bk v) (AI v.sc ub ul uf) fp->(∀x,x∈fp->st.nb<=x)->Ah st st'->K v.sc.kind v.sc.b v.sc.neg v.sc.dg v.sc.ex v.sc.tk v.sc.td v.sc.tn v.sc.tz v.sc.text ub ul uf st'):
  CallT PR FV [.agg cs] [.agg [.int .i64,.bool,.bool,.str,.int .i64,.int .i64,.int .i64,.int .i64,.int .i64,.str,.tv,.tv,.tv]] st K:=by
 have h0:=h
 cases v with
 | mk s l f=>
 unfold VlR at h0
 obtain⟨ub,ul,uf,xl,xf,rfl,_⟩:=h0
 exact N1 _ _ _ _ _ _ _ _ _ _ _ _ _ st K (copy_ok hN hC h fun ub ul uf st1 fp g o1 o2 o3 nd lo e=>
  TH 2000000 _ hN (by omega) hkn g nd fun ub2 ul2 uf2 st2 fp2 g2 p1 p2 p3 nd2 hfp e2=>Ab (Bv p1 p2 p3) (hk ub2 ul2 uf2 st2 fp2 g2 (fun x hx=>by
   rcases hfp x hx with h | h
   ·exact lo x h
   ·exact Nat.le_trans e.nb h) (StX.ext e e2 lo)))
theorem text_ok {v:Vl} (hN:v.sz<=2000000) (hv:DD v) (hC:v.cnt<=65536) {st:St} {cs:List TV} {K:B8->St->Prop} (h:VlR st v cs) (hk:∀st',Ah st st'->K (AG (Bk v)) st'):CallT PR Hs [.agg cs] [.one .str] st K:=by
 have h0:=h
 cases v with
 | mk s l f=>
 unfold VlR at h0
 obtain⟨ub,ul,uf,xl,xf,rfl,_⟩:=h0
 have htx:=LW hv.tx
 have hz:=LX (.mk s l f)
 have hlen:=LL htx
 have hpush:Ah st (st.push (.cells [.nilPtr,.nilSlice]) (some W9)):=(Ah.refl st).push _ _
 refine PU _ _ _ _ _ _ _ _ _ _ _ _ _ st K (Va hN hC hv.ok.2 (h.keep hpush.keeps) fun ub2 ul2 uf2 st1 fp hO hfp e1=>?_)
 have hb0:Bld st st.nb st1 []:=(Bld.new (Ah.refl st)).keep e1
 have hnot:st.nb∉fp:=fun hm=>by
  have h9:=hfp _ hm
  have h10:∀t,(st.push (.cells [.nilPtr,.nilSlice]) t).nb=st.nb+1:=fun _=>rfl
  rw[h10]at h9;omega
 refine WW 2000000 (Bk (.mk s l f)) (by omega) (by omega) htx (hO.view hnot) (But.refl _ _) hb0 (by rw[List.length_nil];omega) (by omega) fun st2 hb2 he2=>?_
 rw[List.nil_append]at hb2
 exact Ny hb2 (by omega) hk
end
theorem Gk.app {a b:B8} (h:Gk a) (k:Gk b):Gk (a++b):=fun c hc=>(List.mem_append.1 hc).elim (h c) (k c)
theorem Gk.cons {c:UInt8} {b:B8} (h:BL c=[c]) (k:Gk b):Gk (c::b):=fun x hx=>by
 rcases List.mem_cons.1 hx with rfl | hx
 ·exact h
 ·exact k x hx
theorem Gk.pad (w n:Nat):Gk (A0 w n):=fun c hc=>(Rt w n c hc).safe
theorem Gk.nil:Gk []:=fun c hc=>by cases hc
theorem HM (k td tn tz:Int):Gk (FS k td tn tz):=by
 have h1:∀n,Gk (KO n):=fun n=> .app (.pad _ _) (.cons (by decide) (.app (.pad _ _) (.cons (by decide) (.pad _ _))))
 have h2:∀n,Gk (Jv n):=fun n=>by
  refine .app (.pad _ _) (.cons (by decide) (.app (.pad _ _) (.cons (by decide) (.app (.pad _ _) ?_))))
  split
  ·exact .nil
  ·exact .cons (by decide) fun c hc=>(MH _ c hc).safe
 have h3:∀z,Gk (HS z):=fun z=>by
  unfold HS;split
  ·exact .cons (by decide) .nil
  ·refine .cons ?_ (.app (.pad _ _) (.cons (by decide) (.pad _ _)))
   split<;>decide
 unfold FS
 split
 ·exact h1 _
 split
 ·exact h2 _
 split
 ·exact .app (h1 _) (.cons (by decide) (h2 _))
 ·exact .app (h1 _) (.cons (by decide) (.app (h2 _) (h3 _)))
theorem Sf:∀(N:Nat) (v:Vl),v.sz<=N->N<=2000000->TxV v->∀{st0 st:St} {cs:List TV} {K:B8->St->Prop},VlR st0 v cs->BI st0 st->
  (∀st',Ah st st'->K (AG (Bk v)) st')->CallT PR AE [.agg cs] [.one .str] st K:=by
 intro N
 induction N with
 | zero=>intro v h;have:=v.sz_pos;omega
 | succ N ih=>
 intro v hN hN2 hok st0 st cs K h hke hk
 have e:=Ah.refl st
 have hlen:=LL (LW hok)
 rw[LX]at hlen
 cases v with
 | mk s l f=>
 have hsz:(Vl.mk s l f).sz=1+s.bytes.length+s.text.length+s.dg.length+Ct l+BS f:=by unfold Vl.sz;rfl
 have hll:=DF l
 have hfl:=CC f
 unfold TxV at hok
 obtain⟨⟨k0,k7,hdec,htime,hblen⟩,lok,fok⟩:=hok
 unfold VlR at h
 obtain⟨ub,ul,uf,xl,xf,rfl,h1,h2,h3,h4,h5⟩:=h
 unfold Bk AG at hlen hk
 have own1:∀(c:UInt8) (st':St),En st.nt st' (.list 1 .full 1 [.int .u8 (c.toNat:Int)]) [c]:=fun c st'=>Own.full _ _ _ _ _
 refine GX _ _ _ _ _ _ _ _ _ _ _ _ _ st K ?_
 refine Aa (fun g=>?_) fun g0=>Aa (fun g=>?_) fun g1=>Aa (fun g=>?_) fun g2=>Aa (fun g=>?_) fun g3=>Aa (fun g=>?_) fun g4=>Aa (fun g=>?_) fun g5=>Aa (fun g=>?_) fun g6=>?_
 ·rw[if_pos g]at hk;exact hk st e
 ·rw[if_neg g0,if_pos g]at hk
  refine Aq (fun hb=>?_) fun hb=>?_
  ·rw[if_pos hb]at hk;exact hk st e
  ·rw[if_neg (by simp[hb])]at hk;exact hk st e
 ·rw[if_neg g0,if_neg g1,if_pos g]at hk
  exact Wc hdec hk
 ·rw[if_neg g0,if_neg g1,if_neg g2,if_pos g]at hk
  have htl:=Gw s.tk s.td s.tn s.tz
  have hsafe:Gk (FS s.tk s.td s.tn s.tz):=HM _ _ _ _
  refine V9 (htime g) fun st1 e1=>IF (by omega) fun st2 e2=>⟨?_,?_⟩
  ·have:=Ok (FS s.tk s.td s.tn s.tz)
   show 1+_<=_;omega
  ·rw[hsafe.quB];exact hk st2 (e1.trans e2)
 ·rw[if_neg g0,if_neg g1,if_neg g2,if_neg g3,if_pos g]at hk
  exact IF (by omega) hk
 ·rw[if_neg g0,if_neg g1,if_neg g2,if_neg g3,if_neg g4,if_pos g]at hk
  have hel:=Pq true s.bytes
  refine Vo (h1.keep hke) (by omega) fun st1 e1=>IF (by omega) fun st2 e2=>⟨?_,?_⟩
  ·have:=Ok (Bt true s.bytes)
   show 1+_<=_;omega
  ·rw[(HX true s.bytes).quB];exact hk st2 (e1.trans e2)
 ·rw[if_neg g0,if_neg g1,if_neg g2,if_neg g3,if_neg g4,if_neg g5,if_pos g,Gx]at hlen
  rw[if_neg g0,if_neg g1,if_neg g2,if_neg g3,if_neg g4,if_neg g5,if_pos g,Gx]at hk
  rw[List.length_cons,List.length_append,List.length_singleton]at hlen
  refine⟨fun o i a1 a2 a3 a4 a5 a6 a7 a8 a9 a10 a11 a12 a13 st'=>ul=a12/\∃k:Nat,i=k/\k<=l.length/\Ah st st'/\En st.nt st' o ([91]++AJ true ((l.take k).map Bk)),fun _ i _ _ _ _ _ _ _ _ _ _ _ _ _ _=>(l.length-i).toNat,
   ⟨rfl,0,rfl,Nat.zero_le _,e,(by simp only[List.take_zero,List.map_nil,AJ,List.append_nil];exact own1 91 st)⟩,?_⟩
  rintro o _ a1 a2 a3 a4 a5 a6 a7 a8 a9 a10 a11 _ a13 st3 ⟨rfl,k,rfl,hkl,e3,ho3⟩
  refine Ab h2.isSl (Aa (fun g'=>?_) fun g'=>?_)
  ·rw[h2.lenS]at g'
   have gw0:l[k]? =some l[k]:=List.getElem?_eq_getElem (by omega)
   have hle:=Iv (l:=l.map Bk) (b:=true) (k:=k) (v:=Bk l[k]) (by rw[List.getElem?_map,gw0];rfl)
   have htk:=OL (l:=l.map Bk) (k:=k) (v:=Bk l[k]) (by rw[List.getElem?_map,gw0];rfl)
   rw[<-List.map_take]at hle htk
   rw[<-List.map_take]at htk
   have fin:∀(o2:TV) (buf2:B8) st4,Ah st st4->En st.nt st4 o2 buf2->buf2=[91]++AJ true ((l.take k).map Bk)++(if k=0 then []else [44])->(0<=(k:Int)/\(k:Int)<(lenZ 13 ul:Int))/\Ak ((Al st4 [] (.t (ixT 13 ul (Int.toNat (k:Int)))) 0 13).map TV.agg) fun x=>B4 [.int .i64,.bool,.bool,.str,.int .i64,.int .i64,.int .i64,.int .i64,.int .i64,.str,.tv,.tv,.tv] x fun (n7:Int) (b3:Bool) (b4:Bool) (s9:B8) (n8:Int) (n9:Int) (n10:Int) (n11:Int) (n12:Int) (s10:B8) (v5:TV) (v6:TV) (v7:TV)=>
     CallT PR AE [.agg [.int .i64 n7,.bool b3,.bool b4,.str s9,.int .i64 n8,.int .i64 n9,.int .i64 n10,.int .i64 n11,.int .i64 n12,.str s10,v5,v6,v7]] [.one .str] st4 fun (s11:B8) (st9:St)=>Ak (Bb st9 1 (.str s11)) fun (q1:Nat×List TV)=>need (List.all q1.2 Ar) (A5 5 1 1 o2 q1.1 q1.2 st9 fun (v8:TV) (st10:St)=>
      ((ul=ul/\∃k':Nat,i64.wrap ((k:Int)+1)=k'/\k'<=l.length/\Ah st st10/\En st.nt st10 v8 ([91]++AJ true ((l.take k').map Bk)))/\((l.length:Int)-i64.wrap ((k:Int)+1)).toNat<((l.length:Int)-(k:Int)).toNat)):=by
    intro o2 buf2 st4 e4 ho4 hbuf
    refine Yp (hke.trans e4.keeps) h2 h3 rfl (by omega) fun s' l' f' ub1 ul1 uf1 gw hw on=>?_
    rw[gw0]at gw
    have hw1:=Option.some.inj gw
    rw[hw1]at hle htk
    have hwsz:=EO (gw0.trans (congrArg some hw1))
    have hwt:=PK.1 lok _ (EB (gw0.trans (congrArg some hw1)))
    refine ih _ (by omega) (by omega) hwt hw (hke.trans e4.keeps) fun st5 e5=>Ac (LV st5 _) (Ab (H1 _) ?_)
    have hbl:buf2.length<=1+(AJ true ((l.take k).map Bk)).length+1:=by
     rw[hbuf,List.length_append,List.length_append,List.length_singleton]
     split
     ·simp
     ·simp
    refine Ey (ys:=AG (Bk (.mk s' l' f'))) (e4.trans e5) (Own.ext ho4 e5) rfl rfl (by omega) fun v8 st6 e6 _ ho6=>?_
    rw[Ad _ (by omega) (by omega)]
    refine⟨⟨rfl,k+1,by omega,by omega,e6,?_⟩,by omega⟩
    rw[htk,<-List.append_assoc,<-List.append_assoc,<-hbuf];exact ho6
   refine Aa (fun g9=>?_) fun g9=>fin o _ st3 e3 ho3 (by rw[if_pos (by omega),List.append_nil])
   exact Ey (ys:=[44]) e3 ho3 rfl rfl (by rw[List.length_append,List.length_singleton,List.length_singleton];omega) fun v4 st4 e4 _ ho4=>fin v4 _ st4 e4 ho4 (by rw[if_neg (by omega)])
  ·rw[h2.lenS]at g'
   have hkk:k=l.length:=by omega
   subst hkk
   rw[List.take_length]at ho3
   refine Ey (ys:=[93]) e3 ho3 rfl rfl (by rw[List.length_append,List.length_singleton,List.length_singleton];omega) fun v4 st4 e4 _ ho4=>?_
   refine Ac (x:= .str (91::(AJ true (l.map Bk)++[93]))) ?_ (Aw (hk _ e4))
   rw[ho4.rd.toBytes];rfl
 ·rw[if_neg g0,if_neg g1,if_neg g2,if_neg g3,if_neg g4,if_neg g5,if_neg g6,Gy,Lc M9]at hlen
  rw[if_neg g0,if_neg g1,if_neg g2,if_neg g3,if_neg g4,if_neg g5,if_neg g6,Gy,Lc M9]at hk
  rw[List.length_cons,List.length_append,List.length_singleton]at hlen
  refine Wv e (h4.keep hke) (FsR.keep hke h5) (by omega) fun vf st1 cks e1 hof hR=>?_
  have hfl:(Bl f).length=f.length:=(Cz f).length_eq
  have hfr:=FsR.of_chunks hR
  refine⟨fun o i u st'=>vf=u/\∃k:Nat,i=k/\k<=f.length/\Ah st st'/\En st.nt st' o ([123]++AD true (((Bl f).take k).map CJ)),fun _ i _ _=>(f.length-i).toNat,
   ⟨rfl,0,rfl,Nat.zero_le _,e1,(by simp only[List.take_zero,List.map_nil,AD,List.append_nil];exact own1 123 st1)⟩,?_⟩
  rintro o _ _ st4 ⟨rfl,k,rfl,hkl,e4,ho4⟩
  refine Ab hof.rd.isSl (Aa (fun g'=>?_) fun g'=>?_)
  ·rw[hof.rd.lenS]at g'
   have gd:(Bl f)[k]? =some (Bl f)[k]:=List.getElem?_eq_getElem (by omega)
   generalize (Bl f)[k]=d at gd
   have hmem:d∈f:=(Cz f).mem_iff.1 (EB gd)
   have hdsz:=J8 hmem
   have hle:=Iw (l:=(Bl f).map CJ) (b:=true) (k:=k) (v:=CJ d) (by rw[List.getElem?_map,gd];rfl)
   have htk:=ON (l:=(Bl f).map CJ) (k:=k) (v:=CJ d) (by rw[List.getElem?_map,gd];rfl)
   rw[<-List.map_take]at hle htk
   rw[<-List.map_take]at htk
   have hbd:HL (CJ d)=quB d.key++58::AG (Bk d.val):=by cases d;unfold CJ HL;rfl
   have hdz:d.sz=d.key.length+d.val.sz:=by cases d;unfold Fd.sz;rfl
   have hok2:TxV d.val:=by
    have:=Ke.1 fok _ hmem
    cases d;unfold TxD at this;exact this
   have hvs:=d.val.sz_pos
   rw[hbd]at hle htk
   rw[List.length_append,List.length_cons]at hle
   have fin:∀(o2:TV) (buf2:B8) st5,Ah st st5->En st.nt st5 o2 buf2->buf2=[123]++AD true (((Bl f).take k).map CJ)++(if k=0 then []else [44])->
     (0<=(k:Int)/\(k:Int)<(lenZ 14 vf:Int))/\need (isPtr (ixT 14 vf (Int.toNat (k:Int)))) (Ak (Af st5 [] (.t (AC (ixT 14 vf (Int.toNat (k:Int))) 0)) 0) fun x4=>As .str x4 fun s16=>CallT PR AS [.str s16] [.one .str] st5 fun (s17:B8) (st17:St)=>Ak (Bb st17 1 (.str s17)) fun (q4:Nat×List TV)=>need (List.all q4.2 Ar) (A5 5 1 1 o2 q4.1 q4.2 st17 fun (v16:TV) (st18:St)=>A5 5 1 1 v16 1 [.int .u8 58] st18 fun (v17:TV) (st19:St)=>
      ((0<=(k:Int)/\(k:Int)<(lenZ 14 vf:Int))/\need (isPtr (ixT 14 vf (Int.toNat (k:Int)))) (Ak ((Al st19 [] (.t (AC (ixT 14 vf (Int.toNat (k:Int))) 1)) 0 13).map TV.agg) fun x5=>B4 [.int .i64,.bool,.bool,.str,.int .i64,.int .i64,.int .i64,.int .i64,.int .i64,.str,.tv,.tv,.tv] x5 fun (n19:Int) (b7:Bool) (b8:Bool) (s18:B8) (n20:Int) (n21:Int) (n22:Int) (n23:Int) (n24:Int) (s19:B8) (v18:TV) (v19:TV) (v20:TV)=>
       CallT PR AE [.agg [.int .i64 n19,.bool b7,.bool b8,.str s18,.int .i64 n20,.int .i64 n21,.int .i64 n22,.int .i64 n23,.int .i64 n24,.str s19,v18,v19,v20]] [.one .str] st19 fun (s20:B8) (st20:St)=>Ak (Bb st20 1 (.str s20)) fun (q3:Nat×List TV)=>need (List.all q3.2 Ar) (A5 5 1 1 v17 q3.1 q3.2 st20 fun (v21:TV) (st21:St)=>
        ((vf=vf/\∃k':Nat,i64.wrap ((k:Int)+1)=k'/\k'<=f.length/\Ah st st21/\En st.nt st21 v21 ([123]++AD true (((Bl f).take k').map CJ)))/\((f.length:Int)-i64.wrap ((k:Int)+1)).toNat<((f.length:Int)-(k:Int)).toNat)))))):=by
    intro o2 buf2 st5 e5 ho5 hbuf
    have hbl:buf2.length<=1+(AD true (((Bl f).take k).map CJ)).length+1:=by
     rw[hbuf,List.length_append,List.length_append,List.length_singleton]
     split
     ·simp
     ·simp
    refine Mm (st0:=st) e5.keeps (.of_rd hof.rd) hfr rfl gd ?_
    refine IF (by omega) fun st6 e6=>Ac (LV st6 _) (Ab (H1 _) ?_)
    refine Ey (ys:=quB d.key) (e5.trans e6) (Own.ext ho5 e6) rfl rfl (by omega) fun v16 st7 e7 _ ho7=>?_
    refine Ey (ys:=[58]) e7 ho7 rfl rfl (by rw[List.length_append,List.length_singleton];omega) fun v17 st8 e8 _ ho8=>?_
    refine Vg (st0:=st) e8.keeps (.of_rd hof.rd) hfr rfl (by omega) fun key s' l' f' ub1 ul1 uf1 gw hw on=>?_
    have hde:d= .mk key (.mk s' l' f'):=by rw[gd]at gw;exact Option.some.inj gw
    subst hde
    simp only[Fd.val,Fd.key]at hle htk hok2 hvs hdz ho8
    refine ih (.mk s' l' f') (by omega) (by omega) hok2 hw e8.keeps fun st9 e9=>Ac (LV st9 _) (Ab (H1 _) ?_)
    refine Ey (ys:=AG (Bk (.mk s' l' f'))) (e8.trans e9) (Own.ext ho8 e9) rfl rfl (by rw[List.length_append,List.length_append,List.length_singleton];omega) fun v21 st10 e10 _ ho10=>?_
    rw[Ad _ (by omega) (by omega)]
    refine⟨⟨rfl,k+1,by omega,by omega,e10,?_⟩,by omega⟩
    have: [123]++AD true (((Bl f).take (k+1)).map CJ)=buf2++quB key++[58]++AG (Bk (.mk s' l' f')):=by rw[htk,hbuf];simp
    rw[this];exact ho10
   refine Aa (fun g9=>?_) fun g9=>?_
   ·exact Ey (ys:=[44]) e4 ho4 rfl rfl (by rw[List.length_append,List.length_singleton,List.length_singleton];omega) fun v4 st5 e5 _ ho5=>fin v4 _ st5 e5 ho5 (by rw[if_neg (by omega)])
   ·exact fin o _ st4 e4 ho4 (by rw[if_pos (by omega),List.append_nil])
  ·rw[hof.rd.lenS]at g'
   have hkk:k=f.length:=by omega
   subst hkk
   rw[<-hfl,List.take_length]at ho4
   refine Ey (ys:=[125]) e4 ho4 rfl rfl (by rw[List.length_append,List.length_singleton,List.length_singleton];omega) fun v4 st5 e5 _ ho5=>?_
   refine Ac (x:= .str (123::(AD true ((Bl f).map CJ)++[125]))) ?_ (Aw (hk _ e5))
   rw[ho5.rd.toBytes];rfl
theorem Xx {v:Vl} (hN:v.sz<=2000000) {st:St} {cs:List TV} {K:B8->Int->St->Prop} (h:VlR st v cs) (hk:∀st',Ah st st'->K (if F3 v=0 then AG (Bk v)else []) (F3 v:Nat) st'):
  CallT PR DU [.agg cs] [.one .str,.one (.int .i64)] st K:=by
 have h0:=h
 cases v with
 | mk s l f=>
 unfold VlR at h0
 obtain⟨ub,ul,uf,xl,xf,rfl,_⟩:=h0
 refine JC _ _ _ _ _ _ _ _ _ _ _ _ _ st K (Qv hN h (BI.refl _) fun st1 e1=>Aa (fun g=>?_) fun g=>?_)
 ·have:=hk st1 e1
  rw[if_neg (by omega)]at this;exact this
 ·have hc:F3 (.mk s l f)=0:=by omega
  rw[hc]at hk
  refine Sf 2000000 _ hN (by omega) (FK hc).tx h e1.keeps fun st2 e2=>?_
  have:=hk st2 (e1.trans e2)
  rw[if_pos rfl]at this;exact this
def unsh (x:UInt8):UInt8:=if x=34 then 34 else if x=92 then 92 else if x=98 then 8 else if x=102 then 12 else if x=110 then 10 else if x=114 then 13 else if x=116 then 9 else 0
def unhx (a b:UInt8):Nat:=(if a.toNat<58 then a.toNat-48 else a.toNat-87)*16+(if b.toNat<58 then b.toNat-48 else b.toNat-87)
theorem W8:∀k:Nat,k<32->unhx (hxD (k/16)) (hxD (k%16))=k:=by decide
theorem GL (c:UInt8):(∃x,BL c=[92,x]/\x≠117/\unsh x=c)∨(∃a b,BL c=[92,117,48,48,a,b]/\unhx a b=c.toNat)∨(BL c=[c]/\c≠92/\c≠34):=by
 unfold BL
 by_cases g:c=34∨c=92
 ·rw[if_pos g]
  rcases g with rfl | rfl
  ·exact .inl ⟨34,rfl,by decide,by decide⟩
  ·exact .inl ⟨92,rfl,by decide,by decide⟩
 rw[if_neg g]
 by_cases g1:c=8
 ·rw[if_pos g1];subst g1;exact .inl ⟨98,rfl,by decide,by decide⟩
 rw[if_neg g1]
 by_cases g2:c=12
 ·rw[if_pos g2];subst g2;exact .inl ⟨102,rfl,by decide,by decide⟩
 rw[if_neg g2]
 by_cases g3:c=10
 ·rw[if_pos g3];subst g3;exact .inl ⟨110,rfl,by decide,by decide⟩
 rw[if_neg g3]
 by_cases g4:c=13
 ·rw[if_pos g4];subst g4;exact .inl ⟨114,rfl,by decide,by decide⟩
 rw[if_neg g4]
 by_cases g5:c=9
 ·rw[if_pos g5];subst g5;exact .inl ⟨116,rfl,by decide,by decide⟩
 rw[if_neg g5]
 by_cases g6:c.toNat<32
 ·rw[if_pos g6];exact .inr (.inl ⟨_,_,rfl,W8 _ g6⟩)
 ·rw[if_neg g6];exact .inr (.inr ⟨rfl,fun h=>g (.inr h),fun h=>g (.inl h)⟩)
theorem esc_can {c d:UInt8} {r t:B8} (h:BL c++r=BL d++t):c=d/\r=t:=by
 rcases GL c with⟨x,e1,e2,e3⟩ | ⟨a,b,e1,e2⟩ | ⟨e1,e2,_⟩<;>rcases GL d with⟨y,f1,f2,f3⟩ | ⟨a',b',f1,f2⟩ | ⟨f1,f2,_⟩<;>rw[e1,f1]at h<;>simp only[List.cons_append,List.nil_append,List.cons.injEq,true_and]at h
 ·exact⟨by rw[<-e3,<-f3,h.1],h.2⟩
 ·exact absurd h.1 e2
 ·exact absurd h.1.symm f2
 ·exact absurd h.1.symm f2
 ·obtain⟨h1,h2,h3⟩:=h
  exact⟨UInt8.toNat_inj.1 (by rw[<-e2,<-f2,h1,h2]),h3⟩
 ·exact absurd h.1.symm f2
 ·exact absurd h.1 e2
 ·exact absurd h.1 e2
 ·exact h
theorem Kv (c:UInt8) (r:B8):∀t,BL c++r≠34::t:=by
 intro t h
 rcases GL c with⟨x,e1,e2,e3⟩ | ⟨a,b,e1,e2⟩ | ⟨e1,e2,e3⟩<;>rw[e1]at h<;>simp only[List.cons_append,List.nil_append,List.cons.injEq]at h
 ·exact absurd h.1 (by decide)
 ·exact absurd h.1 (by decide)
 ·exact e3 h.1
theorem Po:∀{a b r t:B8},a.flatMap BL++34::r=b.flatMap BL++34::t->a=b/\r=t
 | [],[],r,t,h=>by simpa using h
 | [],d::b,r,t,h=>by
  rw[List.flatMap_nil,List.nil_append,List.flatMap_cons,List.append_assoc]at h
  exact absurd h.symm (Kv d _ _)
 | c::a,[],r,t,h=>by
  rw[List.flatMap_nil,List.nil_append,List.flatMap_cons,List.append_assoc]at h
  exact absurd h (Kv c _ _)
 | c::a,d::b,r,t,h=>by
  rw[List.flatMap_cons,List.flatMap_cons,List.append_assoc,List.append_assoc]at h
  obtain⟨rfl,h2⟩:=esc_can h
  obtain⟨rfl,h3⟩:=Po h2
  exact⟨rfl,h3⟩
theorem Vq {a b r t:B8} (h:quB a++r=quB b++t):a=b/\r=t:=by
 unfold quB at h
 simp only[List.cons_append,List.cons.injEq,true_and,List.append_assoc,List.nil_append]at h
 exact Po h
theorem Gk.flat {s:B8} (h:Gk s):s.flatMap BL=s:=by
 have:=h.quB
 unfold TVF.quB at this
 simpa using this
theorem Gk.can {a b r t:B8} (ha:Gk a) (hb:Gk b) (h:a++34::r=b++34::t):a=b/\r=t:=by
 rw[<-ha.flat,<-hb.flat]at h
 obtain⟨h1,h2⟩:=Po h
 exact⟨h1,h2⟩
def nch (c:UInt8):Prop:=AL c∨c=45∨c=43∨c=46∨c=101
instance (c:UInt8):Decidable (nch c):=inferInstanceAs (Decidable (_∨_))
def Ta (s:B8):B8:=s.takeWhile fun c=>decide (nch c)
theorem S9:¬nch 0:=by decide
theorem Mh {a r:B8} (ha:∀c,c∈a->nch c) (hr:¬nch (r.getD 0 0)):Ta (a++r)=a:=by
 induction a with
 | nil=>
  cases r with
  | nil=>rfl
  | cons c r=>exact List.takeWhile_cons_of_neg (by simpa using hr)
 | cons c a ih=>
  unfold Ta at ih⊢
  rw[List.cons_append,List.takeWhile_cons_of_pos (by simpa using ha c List.mem_cons_self),ih fun x hx=>ha x (List.mem_cons_of_mem _ hx)]
theorem Yj (p:Int):∀c,c∈P5 p->nch c:=by
 intro c hc
 rw[Os]at hc
 split at hc
 ·rcases List.mem_cons.1 hc with rfl | hc
  ·decide
  rcases List.mem_cons.1 hc with rfl | hc
  ·decide
  exact .inl (Q5 _ c hc)
 ·rcases List.mem_cons.1 hc with rfl | hc
  ·decide
  exact .inl (Q5 _ c hc)
theorem ME {neg:Bool} {dg:B8} {ex:Int} (h:Cu neg dg ex):∀c,c∈dcT neg dg ex->nch c:=by
 intro c hc
 by_cases hne:dg=[]
 ·unfold dcT at hc
  rw[if_pos hne,List.mem_singleton]at hc
  subst hc;decide
 obtain⟨h1,h2,h3,h4,h5,h6⟩:=h.2 hne
 have hz:∀k,∀c,c∈List.replicate k (48:UInt8)->nch c:=fun k c h=>by rw[List.eq_of_mem_replicate h];decide
 unfold dcT at hc
 rw[if_neg hne]at hc
 rcases List.mem_append.1 hc with hc | hc
 ·split at hc
  ·rw[List.mem_singleton.1 hc];decide
  ·cases hc
 split at hc
 ·rcases List.mem_append.1 hc with hc | hc
  ·exact .inl (h2 c hc)
  ·exact hz _ c hc
 split at hc
 ·rcases List.mem_append.1 hc with hc | hc
  ·exact .inl (h2 c (List.mem_of_mem_take hc))
  rcases List.mem_cons.1 hc with rfl | hc
  ·decide
  ·exact .inl (h2 c (List.mem_of_mem_drop hc))
 split at hc
 ·rcases List.mem_cons.1 hc with rfl | hc
  ·decide
  rcases List.mem_cons.1 hc with rfl | hc
  ·decide
  rcases List.mem_append.1 hc with hc | hc
  ·exact hz _ c hc
  ·exact .inl (h2 c hc)
 rcases List.mem_append.1 hc with hc | hc
 ·exact .inl (h2 c (List.mem_of_mem_take hc))
 rcases List.mem_append.1 hc with hc | hc
 ·split at hc
  ·rcases List.mem_cons.1 hc with rfl | hc
   ·decide
   ·exact .inl (h2 c (List.mem_of_mem_drop hc))
  ·cases hc
 ·exact Yj _ c hc
theorem dcT_ne (neg:Bool) (dg:B8) (ex:Int):dcT neg dg ex≠ []:=by
 unfold dcT
 by_cases hne:dg=[]
 ·rw[if_pos hne];exact fun h=>by cases h
 rw[if_neg hne]
 intro h
 have h2:=(List.append_eq_nil_iff.1 h).2
 split at h2
 ·exact hne (List.append_eq_nil_iff.1 h2).1
 split at h2
 ·exact absurd (List.append_eq_nil_iff.1 h2).2 (by simp)
 split at h2
 ·exact absurd h2 (by simp)
 have h3:=(List.append_eq_nil_iff.1 h2).1
 cases dg with
 | nil=>exact hne rfl
 | cons c r=>simp at h3
theorem Yv {neg:Bool} {dg:B8} {ex:Int} (h:Cu neg dg ex) (r:B8):nch ((dcT neg dg ex++r).getD 0 0):=by
 have h1:=ME h
 have h2:=dcT_ne neg dg ex
 cases hd:dcT neg dg ex with
 | nil=>exact absurd hd h2
 | cons c t=>rw[hd]at h1;exact h1 c List.mem_cons_self
theorem dcT_can {neg neg':Bool} {dg dg':B8} {ex ex':Int} (h:Cu neg dg ex) (h':Cu neg' dg' ex') {r t:B8} (hr:¬nch (r.getD 0 0)) (ht:¬nch (t.getD 0 0)) (e:dcT neg dg ex++r=dcT neg' dg' ex'++t):
  (neg=neg'/\dg=dg'/\ex=ex')/\r=t:=by
 have e1:dcT neg dg ex=dcT neg' dg' ex':=by rw[<-Mh (ME h) hr,e,Mh (ME h') ht]
 have e2:=e
 rw[e1]at e2
 have e3:=MF h
 rw[e1,MF h']at e3
 simp only[Prod.mk.injEq]at e3
 exact⟨⟨e3.1.symm,e3.2.1.symm,e3.2.2.1.symm⟩,List.append_cancel_left e2⟩
theorem Xd {k d n z k' d' n' z':Int} (h:BW k d n z) (h':BW k' d' n' z') (e:FS k d n z=FS k' d' n' z'):k=k'/\d=d'/\n=n'/\z=z':=by
 have hd:Ov d.toNat:=Mq (by obtain⟨_,_,h3,h4,_⟩:=h;omega)
 have hd':Ov d'.toNat:=Mq (by obtain⟨_,_,h3,h4,_⟩:=h';omega)
 have e1:=LN h fun _=>hd
 rw[e,LN h' fun _=>hd']at e1
 simp only[Prod.mk.injEq]at e1
 exact⟨e1.1.symm,e1.2.1.symm,e1.2.2.1.symm,e1.2.2.2.1.symm⟩
def sqT {α:Type} (f:α->B8):Bool->List α->B8
 | _,[]=>[]
 | b,x::r=>(if b then []else [44])++(f x++sqT f false r)
theorem JR:∀(l:List Vl) (b:Bool),AJ b l=sqT AG b l
 | [],b=>by unfold AJ sqT;rfl
 | x::r,b=>by unfold AJ sqT;rw[JR r]
theorem JS:∀(l:List Fd) (b:Bool),AD b l=sqT HL b l
 | [],b=>by unfold AD sqT;rfl
 | x::r,b=>by unfold AD sqT;rw[JS r]
theorem G7 {α:Type} (f:α->B8) {q:UInt8} (hq:¬nch q) (l:List α) (r:B8):¬nch ((sqT f false l++q::r).getD 0 0):=by
 cases l with
 | nil=>exact hq
 | cons x l=>
  show ¬nch 44
  decide
theorem Rl {α:Type} {f:α->B8} {q:UInt8} (P:α->Prop) (hq:q≠44) (hqn:¬nch q) (hcan:∀x y r t,P x->P y->¬nch (r.getD 0 0)->¬nch (t.getD 0 0)->f x++r=f y++t->x=y/\r=t)
  (hhd:∀x r,P x->(f x++r).getD 0 0≠q):∀(l m:List α) (b:Bool) (r t:B8),(∀x,x∈l->P x)->(∀x,x∈m->P x)->sqT f b l++q::r=sqT f b m++q::t->l=m/\r=t
 | [],[],b,r,t,_,_,h=>by
  simp only[sqT,List.nil_append,List.cons.injEq,true_and]at h
  exact⟨rfl,h⟩
 | [],y::m,b,r,t,_,hm,h=>by
  exfalso
  have h0:=congrArg (fun z:B8=>z.getD 0 0) h
  simp only[sqT,List.nil_append,List.append_assoc]at h0
  cases b with
  | true=>exact hhd y _ (hm y (.head _)) h0.symm
  | false=>exact hq h0
 | x::l,[],b,r,t,hl,_,h=>by
  exfalso
  have h0:=congrArg (fun z:B8=>z.getD 0 0) h
  simp only[sqT,List.nil_append,List.append_assoc]at h0
  cases b with
  | true=>exact hhd x _ (hl x (.head _)) h0
  | false=>exact hq h0.symm
 | x::l,y::m,b,r,t,hl,hm,h=>by
  simp only[sqT,List.append_assoc]at h
  have h1:=List.append_cancel_left h
  obtain⟨rfl,h2⟩:=hcan x y _ _ (hl x (.head _)) (hm y (.head _)) (G7 f hqn l r) (G7 f hqn m t) h1
  obtain⟨rfl,h3⟩:=Rl P hq hqn hcan hhd l m false r t (fun z hz=>hl z (.tail _ hz)) (fun z hz=>hm z (.tail _ hz)) h2
  exact⟨rfl,h3⟩
def kdT (s:B8):Nat:=if s.getD 0 0=110 then 0 else if s.getD 0 0=102 then 1 else if s.getD 0 0=116 then(if s.getD 1 0=34 then 3 else 1)else if s.getD 0 0=34 then 4 else if s.getD 0 0=98 then 5 else if s.getD 0 0=91 then 6 else if s.getD 0 0=123 then 7 else 2
theorem kdT_num {s:B8} (h:nch (s.getD 0 0)):kdT s=2:=by
 have ne:∀k:UInt8,¬nch k->s.getD 0 0≠k:=fun k hk e=>hk (e▸h)
 unfold kdT
 rw[if_neg (ne 110 (by decide)),if_neg (ne 102 (by decide)),if_neg (ne 116 (by decide)),if_neg (ne 34 (by decide)),if_neg (ne 98 (by decide)),if_neg (ne 91 (by decide)),if_neg (ne 123 (by decide))]
theorem Sx {s:Sc} {l:List Vl} {f:List Fd} (h:s.kind=0):AG (.mk s l f)=[110,117,108,108]:=by unfold AG;rw[if_pos h]
theorem LI {s:Sc} {l:List Vl} {f:List Fd} (h:s.kind=1):AG (.mk s l f)=if s.b then [116,114,117,101]else [102,97,108,115,101]:=by unfold AG;rw[if_neg (by omega),if_pos h]
theorem Sw {s:Sc} {l:List Vl} {f:List Fd} (h:s.kind=2):AG (.mk s l f)=dcT s.neg s.dg s.ex:=by unfold AG;rw[if_neg (by omega),if_neg (by omega),if_pos h]
theorem Sv {s:Sc} {l:List Vl} {f:List Fd} (h:s.kind=3):AG (.mk s l f)=116::34::(FS s.tk s.td s.tn s.tz++[34]):=by unfold AG;rw[if_neg (by omega),if_neg (by omega),if_neg (by omega),if_pos h]
theorem Su {s:Sc} {l:List Vl} {f:List Fd} (h:s.kind=4):AG (.mk s l f)=quB s.text:=by unfold AG;rw[if_neg (by omega),if_neg (by omega),if_neg (by omega),if_neg (by omega),if_pos h]
theorem Ss {s:Sc} {l:List Vl} {f:List Fd} (h:s.kind=5):AG (.mk s l f)=98::34::(Bt true s.bytes++[34]):=by unfold AG;rw[if_neg (by omega),if_neg (by omega),if_neg (by omega),if_neg (by omega),if_neg (by omega),if_pos h]
theorem Sr {s:Sc} {l:List Vl} {f:List Fd} (h:s.kind=6):AG (.mk s l f)=91::(AJ true l++[93]):=by unfold AG;rw[if_neg (by omega),if_neg (by omega),if_neg (by omega),if_neg (by omega),if_neg (by omega),if_neg (by omega),if_pos h]
theorem Sq {s:Sc} {l:List Vl} {f:List Fd} (h:s.kind=7):AG (.mk s l f)=123::(AD true f++[125]):=by unfold AG;rw[if_neg (by omega),if_neg (by omega),if_neg (by omega),if_neg (by omega),if_neg (by omega),if_neg (by omega),if_neg (by omega)]
theorem Vt {s:Sc} {l:List Vl} {f:List Fd} (own:FM s l f):s.kind=0∨s.kind=1∨s.kind=2∨s.kind=3∨s.kind=4∨s.kind=5∨s.kind=6∨s.kind=7:=by
 have:=own.k0
 have:=own.k7
 omega
theorem Oo {v:Vl} (h:BR v) (r:B8):v.sc.kind=kdT (AG v++r):=by
 obtain⟨s,l,f⟩:=v
 unfold BR at h
 obtain⟨own,dec,_⟩:=h
 show s.kind=_
 rcases Vt own with h | h | h | h | h | h | h | h<;>rw[h]
 ·rw[Sx h];rfl
 ·rw[LI h];cases s.b<;>rfl
 ·rw[Sw h,kdT_num (Yv dec r)];rfl
 ·rw[Sv h];rfl
 ·rw[Su h];rfl
 ·rw[Ss h];rfl
 ·rw[Sr h];rfl
 ·rw[Sq h];rfl
theorem Q9 {v:Vl} (h:BR v) (r:B8):(AG v++r).getD 0 0≠93/\(AG v++r).getD 0 0≠125:=by
 obtain⟨s,l,f⟩:=v
 unfold BR at h
 obtain⟨own,dec,_⟩:=h
 rcases Vt own with h | h | h | h | h | h | h | h
 ·rw[Sx h];exact⟨by show(110:UInt8)≠_;decide,by show(110:UInt8)≠_;decide⟩
 ·rw[LI h]
  cases s.b with
  | false=>exact⟨by show(102:UInt8)≠_;decide,by show(102:UInt8)≠_;decide⟩
  | true=>exact⟨by show(116:UInt8)≠_;decide,by show(116:UInt8)≠_;decide⟩
 ·rw[Sw h]
  have:=Yv dec r
  exact⟨fun e=>by rw[e]at this;revert this;decide,fun e=>by rw[e]at this;revert this;decide⟩
 ·rw[Sv h];exact⟨by show(116:UInt8)≠_;decide,by show(116:UInt8)≠_;decide⟩
 ·rw[Su h];exact⟨by show(34:UInt8)≠_;decide,by show(34:UInt8)≠_;decide⟩
 ·rw[Ss h];exact⟨by show(98:UInt8)≠_;decide,by show(98:UInt8)≠_;decide⟩
 ·rw[Sr h];exact⟨by show(91:UInt8)≠_;decide,by show(91:UInt8)≠_;decide⟩
 ·rw[Sq h];exact⟨by show(123:UInt8)≠_;decide,by show(123:UInt8)≠_;decide⟩
theorem Yn {a b:B8} (h:Bt true a=Bt true b):a=b:=by
 have h1:=MD true a
 rw[h,MD true b]at h1
 exact(congrArg Prod.fst h1).symm
theorem txt_can:∀(N:Nat) (v w:Vl) (r t:B8),v.sz<=N->w.sz<=N->BR v->BR w->¬nch (r.getD 0 0)->¬nch (t.getD 0 0)->AG v++r=AG w++t->v=w/\r=t:=by
 intro N
 induction N with
 | zero=>intro v w r t h;have:=v.sz_pos;omega
 | succ N ih=>
 intro v w r t hN hM hv hw hr ht h
 have hk:v.sc.kind=w.sc.kind:=by rw[Oo hv r,Oo hw t,h]
 obtain⟨s,l,f⟩:=v
 obtain⟨s',l',f'⟩:=w
 change s.kind=s'.kind at hk
 have hsz:=szs s l f
 have hsz':=szs s' l' f'
 unfold BR at hv hw
 obtain⟨own,dec,tim,htx,hby,hl,hf⟩:=hv
 obtain⟨own',dec',tim',htx',hby',hl',hf'⟩:=hw
 have noB:s.kind≠1->s'.b=false:=fun h=>own'.bo (by omega)
 have noN:s.kind≠2->s'.neg=false/\s'.dg=[]/\s'.ex=0:=fun h=>own'.nu (by omega)
 have noT:s.kind≠3->s'.tk=0/\s'.td=0/\s'.tn=0/\s'.tz=0:=fun h=>own'.ti (by omega)
 have noX:s.kind≠4->s'.text=[]:=fun h=>own'.tx (by omega)
 have noY:s.kind≠5->s'.bytes=[]:=fun h=>own'.by_ (by omega)
 have noL:s.kind≠6->l=l':=fun h=>by rw[own.ls h,own'.ls (by omega)]
 have noF:s.kind≠7->f=f':=fun h=>by rw[own.fs h,own'.fs (by omega)]
 rcases Vt own with k | k | k | k | k | k | k | k
 ·rw[Sx k,Sx (hk▸k)]at h
  obtain rfl:s=s':=CM own hk (by omega) noB (by omega) noN (by omega) noT (by omega) noX (by omega) noY
  obtain rfl:=noL (by omega)
  obtain rfl:=noF (by omega)
  exact⟨rfl,List.append_cancel_left h⟩
 ·rw[LI k,LI (hk▸k)]at h
  have hb:s.b=s'.b/\r=t:=by
   cases h1:s.b<;>cases h2:s'.b<;>rw[h1,h2]at h
   ·exact⟨rfl,List.append_cancel_left h⟩
   ·exact absurd (congrArg (fun z:B8=>z.getD 0 0) h) (by show ¬(102:UInt8)=116;decide)
   ·exact absurd (congrArg (fun z:B8=>z.getD 0 0) h) (by show ¬(116:UInt8)=102;decide)
   ·exact⟨rfl,List.append_cancel_left h⟩
  obtain rfl:s=s':=CM own hk (fun _=>hb.1) (fun h=>absurd k h) (by omega) noN (by omega) noT (by omega) noX (by omega) noY
  obtain rfl:=noL (by omega)
  obtain rfl:=noF (by omega)
  exact⟨rfl,hb.2⟩
 ·rw[Sw k,Sw (hk▸k)]at h
  obtain⟨hd,he⟩:=dcT_can dec dec' hr ht h
  obtain rfl:s=s':=CM own hk (by omega) noB (fun _=>hd) (fun h=>absurd k h) (by omega) noT (by omega) noX (by omega) noY
  obtain rfl:=noL (by omega)
  obtain rfl:=noF (by omega)
  exact⟨rfl,he⟩
 ·rw[Sv k,Sv (hk▸k)]at h
  simp only[List.cons_append,List.cons.injEq,true_and,List.append_assoc,List.nil_append]at h
  obtain⟨h1,h2⟩:=(HM _ _ _ _).can (HM _ _ _ _) h
  obtain rfl:s=s':=CM own hk (by omega) noB (by omega) noN (fun _=>Xd (tim k) (tim' (hk▸k)) h1) (fun h=>absurd k h) (by omega) noX (by omega) noY
  obtain rfl:=noL (by omega)
  obtain rfl:=noF (by omega)
  exact⟨rfl,h2⟩
 ·rw[Su k,Su (hk▸k)]at h
  obtain⟨h1,h2⟩:=Vq h
  obtain rfl:s=s':=CM own hk (by omega) noB (by omega) noN (by omega) noT (fun _=>h1) (fun h=>absurd k h) (by omega) noY
  obtain rfl:=noL (by omega)
  obtain rfl:=noF (by omega)
  exact⟨rfl,h2⟩
 ·rw[Ss k,Ss (hk▸k)]at h
  simp only[List.cons_append,List.cons.injEq,true_and,List.append_assoc,List.nil_append]at h
  obtain⟨h1,h2⟩:=(HX _ _).can (HX _ _) h
  obtain rfl:s=s':=CM own hk (by omega) noB (by omega) noN (by omega) noT (by omega) noX (fun _=>Yn h1) (fun h=>absurd k h)
  obtain rfl:=noL (by omega)
  obtain rfl:=noF (by omega)
  exact⟨rfl,h2⟩
 ·rw[Sr k,Sr (hk▸k)]at h
  simp only[List.cons_append,List.cons.injEq,true_and,List.append_assoc,List.nil_append,JR]at h
  obtain⟨h1,h2⟩:=Rl (fun x:Vl=>BR x/\x.sz<=N) (by decide) (by decide) (fun x y r t hx hy hr ht e=>ih x y r t hx.2 hy.2 hx.1 hy.1 hr ht e) (fun x r hx=>(Q9 hx.1 r).1) l l' true r t
   (fun x hx=>⟨Ft.1 hl x hx,by have:=Oy hx;omega⟩) (fun x hx=>⟨Ft.1 hl' x hx,by have:=Oy hx;omega⟩) h
  obtain rfl:s=s':=CM own hk (by omega) noB (by omega) noN (by omega) noT (by omega) noX (by omega) noY
  obtain rfl:=noF (by omega)
  subst h1
  exact⟨rfl,h2⟩
 ·rw[Sq k,Sq (hk▸k)]at h
  simp only[List.cons_append,List.cons.injEq,true_and,List.append_assoc,List.nil_append,JS]at h
  obtain⟨h1,h2⟩:=Rl (fun x:Fd=>Lu x/\x.sz<=N) (by decide) (by decide) (fun x y r t hx hy hr ht e=>by
    obtain⟨kx,vx⟩:=x
    obtain⟨ky,vy⟩:=y
    obtain⟨ex,zx⟩:=hx
    obtain⟨ey,zy⟩:=hy
    unfold Lu at ex ey
    rw[szd]at zx zy
    unfold HL at e
    rw[List.append_assoc,List.append_assoc]at e
    obtain⟨rfl,e1⟩:=Vq e
    simp only[List.cons_append,List.cons.injEq,true_and]at e1
    obtain⟨rfl,e2⟩:=ih vx vy r t (by omega) (by omega) ex.2 ey.2 hr ht e1
    exact⟨rfl,e2⟩)
   (fun x r hx=>by obtain⟨kx,vx⟩:=x;unfold HL;show(34:UInt8)≠125;decide) f f' true r t
   (fun x hx=>⟨EM.1 hf x hx,by have:=J8 hx;omega⟩) (fun x hx=>⟨EM.1 hf' x hx,by have:=J8 hx;omega⟩) h
  obtain rfl:s=s':=CM own hk (by omega) noB (by omega) noN (by omega) noT (by omega) noX (by omega) noY
  obtain rfl:=noL (by omega)
  subst h1
  exact⟨rfl,h2⟩
theorem Xa {v w:Vl} (hv:BR v) (hw:BR w) (h:AG v=AG w):v=w:=
 (txt_can (max v.sz w.sz) v w [] [] (Nat.le_max_left _ _) (Nat.le_max_right _ _) hv hw S9 S9 (by rw[h])).1
theorem NC {l:B8} {c:UInt8} (hc:c.toNat<128) {st:St} {K:B8->St->Prop} (hk:K (l.dropWhile (·==c)) st):CallT PR Ef [.str l,.str [c]] [.one .str] st K:=by
 refine EP (fun _ _=>by kernel_rfl) fun g w vargs s hr=>?_
 obtain⟨v,u,rfl,hv,hu⟩:=Ma hr
 rw[DI hv,DI hu]
 refine Calls.mono (Tryz.strings_TrimLeft_one ⟨l.toArray⟩ c hc w) ?_
 rintro e w' ⟨rfl,rfl⟩
 exact⟨_,rfl,.str _,st,g,hk,s,Rel.str _,Ext.refl _ _⟩
theorem RG {s p:B8} {st:St} {K:Bool->St->Prop} (hk:K (decide (s.take p.length=p)) st):CallT PR A9 [.str s,.str p] [.one (.bool)] st K:=by
 refine Jy s p st K (Hj s p st _ (Aa (fun h=>⟨⟨by omega,h⟩,?_⟩) fun h=>?_))
 ·exact hk
 ·have:¬s.take p.length=p:=fun h0=>by
   have:=congrArg List.length h0
   rw[List.length_take]at this
   omega
  rw[decide_eq_false this]at hk
  exact hk
theorem u8i {c k:UInt8}:((c.toNat:Int)=(k.toNat:Int))↔c=k:=⟨fun h=>UInt8.toNat_inj.1 (by omega),fun h=>by rw[h]⟩
theorem take1 {s:B8} {c:UInt8} (hc:c≠0):s.take [c].length=[c]↔s.getD 0 0=c:=by
 cases s with
 | nil=>exact⟨fun h=>absurd h (by simp),fun h=>absurd (show(0:UInt8)=c from h).symm hc⟩
 | cons a s=>show [a]=[c]↔a=c;simp
theorem Ks {s:B8} {c:UInt8} (hc:c≠0) {st:St} {K:Bool->St->Prop} (hk:K (decide (s.getD 0 0=c)) st):CallT PR A9 [.str s,.str [c]] [.one (.bool)] st K:=
 RG (by rw[decide_eq_decide.2 (take1 hc)];exact hk)
theorem Kb:∀(s:B8) (k:Nat),k<=s.length->(∀j,j<k->AL (s.getD j 0))->(k=s.length∨¬AL (s.getD k 0))->(AA s).length=k
 | [],k,h,_,_=>by
  have:k=0:=by simpa using h
  subst this;rfl
 | a::s,0,_,_,h=>by
  have h2:¬AL a:=by
   rcases h with h | h
   ·simp at h
   ·exact h
  unfold AA
  rw[List.takeWhile_cons_of_neg (by simpa using h2)];rfl
 | a::s,k+1,h1,h2,h3=>by
  have ha:AL a:=h2 0 (by omega)
  have ih:=Kb s k (by simpa using h1) (fun j hj=>h2 (j+1) (by omega)) (by
   rcases h3 with h3 | h3
   ·exact .inl (by simpa using h3)
   ·exact .inr h3)
  unfold AA at ih⊢
  rw[List.takeWhile_cons_of_pos (by simpa using ha),List.length_cons,ih]
theorem Ud {s:B8} (hl:s.length<=1000000000) {st:St} {K:Int->St->Prop} (hk:K ((AA s).length:Nat) st):CallT PR DR [.str s] [.one (.int .i64)] st K:=by
 refine OE s st K ⟨fun n s' st'=>s=s'/\st=st'/\∃k:Nat,n=k/\k<=s.length/\∀j,j<k->AL (s.getD j 0),fun n _ _=>(s.length-n).toNat,⟨rfl,rfl,0,rfl,Nat.zero_le _,fun j h=>absurd h (Nat.not_lt_zero _)⟩,?_⟩
 rintro _ _ _ ⟨rfl,rfl,k,rfl,hk1,hd⟩
 rw[Int.toNat_natCast]
 have fin:(k=s.length∨¬AL (s.getD k 0))->K ((k:Nat):Int) st:=fun h=>by rw[Kb s k hk1 hd h]at hk;exact hk
 refine Aa (fun g=>⟨⟨by omega,g⟩,Aa (fun g1=>⟨⟨by omega,g⟩,Aa (fun g2=>?_) fun g2=>fin (.inr fun h=>g2 (by have:=h.2;omega))⟩) fun g1=>fin (.inr fun h=>g1 (by have:=h.1;omega))⟩) fun g=>fin (.inl (by omega))
 rw[Ad _ (by omega) (by omega)]
 refine⟨⟨rfl,rfl,k+1,by omega,by omega,fun j hj=>?_⟩,by dsimp only;omega⟩
 by_cases hjk:j=k
 ·subst hjk;exact⟨by omega,by omega⟩
 ·exact hd j (by omega)
theorem HK {l:B8} {k:Nat} (h:k<l.length):BJ (l.take (k+1))=10*BJ (l.take k)+((List.getD l k 0).toNat-48):=by
 rw[List.take_succ_eq_append_getElem h]
 unfold BJ
 rw[LG]
 have:l[k]=List.getD l k 0:=by simp[List.getD,h]
 rw[<-this];rfl
theorem It {l:B8} (hd:∀c,c∈l->AL c) (h:l.length<=18) (k:Nat) (hk:k<l.length):BJ (l.take k)<100000000000000000:=by
 have h1:=Kj (l.take k) fun c hc=>hd c (List.mem_of_mem_take hc)
 rw[List.length_take,Nat.min_eq_left (by omega)]at h1
 have:(10:Nat)^k<=10^17:=Nat.pow_le_pow_right (by decide) (by omega)
 omega
theorem Xc {l:B8} (hl:l.length<=18) (hd:∀c,c∈l->AL c) (h0:l.getD 0 0≠48) {st:St} {K:Int->Int->St->Prop} (hk:K (BJ l:Nat) 0 st):CallT PR FY [.str l] [.one (.int .i64),.one (.int .i64)] st K:=by
 refine N6 l st K (QQ (by omega) ?_)
 have hno:decide (Kf l)=true:=decide_eq_true ⟨by omega,hd,fun _=>h0⟩
 rw[hno]
 refine Aq (fun h=>by cases h) fun _=>?_
 refine⟨fun n i l' m st'=>l=l'/\st=st'/\(l.length:Int)=m/\∃k:Nat,i=k/\k<=l.length/\n=(BJ (l.take k):Nat),fun _ i _ _ _=>(l.length-i).toNat,⟨rfl,rfl,rfl,0,rfl,Nat.zero_le _,rfl⟩,?_⟩
 rintro _ _ _ _ _ ⟨rfl,rfl,rfl,k,rfl,hkl,rfl⟩
 rw[Int.toNat_natCast]
 refine Aa (fun g=>⟨⟨by omega,g⟩,?_⟩) fun g=>?_
 ·have hk':k<l.length:=by omega
  have hv:=It hd hl k hk'
  have hs:=HK hk'
  have hc:=hd _ (FG hk')
  obtain⟨c1,c2⟩:=hc
  rw[EN _ (by omega) (by omega),Ad (((List.getD l k 0).toNat:Int)-48) (by omega) (by omega),Ad (9223372036854775807-_) (by omega) (by omega),Int.tdiv_eq_ediv_of_nonneg (by omega),Ad _ (by omega) (by omega)]
  refine Aa (fun g2=>by omega) fun g2=>?_
  rw[Ad (((BJ (l.take k):Nat):Int)*10) (by omega) (by omega),Ad _ (by omega) (by omega),Ad _ (by omega) (by omega)]
  exact⟨⟨rfl,rfl,rfl,k+1,by omega,by omega,by rw[hs];omega⟩,by dsimp only;omega⟩
 ·have:k=l.length:=by omega
  subst this
  rw[List.take_length];exact hk
theorem XN {ex:Int} {less:Bool} {l:B8} (h1: -100000000<=ex) (h2:ex<=100000000) (hd:∀c,c∈l->AL c) (h0:l.getD 0 0≠48) {st:St} {K:Int->St->Prop}
  (hk:K (if less then ex-((if l.length<=12 then BJ l else 1099511627776:Nat):Int)else ex+((if l.length<=12 then BJ l else 1099511627776:Nat):Int)) st):CallT PR Fm [.int .i64 ex,.bool less,.str l] [.one (.int .i64)] st K:=by
 refine MS ex less l st K (Aa (fun g=>?_) fun g=>?_)
 ·have g':l.length<=12:=by omega
  rw[if_pos g']at hk
  have hv:=Kj l hd
  have:(10:Nat)^l.length<=10^12:=Nat.pow_le_pow_right (by decide) g'
  refine Xc (by omega) hd h0 (Aq (fun e=>?_) fun e=>?_)
  ·rw[Ad _ (by omega) (by omega)];rw[if_pos e]at hk;exact hk
  ·rw[Ad _ (by omega) (by omega)];rw[e]at hk;exact hk
 ·rw[if_neg (show ¬l.length<=12 by omega)]at hk
  refine Aq (fun e=>?_) fun e=>?_
  ·rw[Ad _ (by omega) (by omega)];rw[if_pos e]at hk;exact hk
  ·rw[Ad _ (by omega) (by omega)];rw[e]at hk;exact hk
abbrev KD (K:Bool->B8->Int->Int->St->Prop) (r:Bool×B8×Int×Int) (st:St):Prop:=K r.1 r.2.1 r.2.2.1 r.2.2.2 st
theorem norm_ok {neg:Bool} {s:B8} {ex:Int} (hl:s.length<=2000000) (h1: -3000000000000<=ex) (h2:ex<=3000000000000) {st:St} {K:Bool->B8->Int->Int->St->Prop} (hk:KD K (dcN neg s ex) st):
  CallT PR FZ [.bool neg,.str s,.int .i64 ex] [.agg [.bool,.str,.int .i64],.one (.int .i64)] st K:=by
 unfold KD dcN at hk
 refine N7 neg s ex st K (Aa (fun g=>by rw[if_pos g]at hk;exact hk) fun g=>LM (by decide) (by omega) ?_)
 rw[if_neg g]at hk
 have ht:=JT s
 have e1:i64.wrap ((s.length:Int)-((Lib.trimRightB s 48).length:Int))=(Bo s:Nat):=by rw[Ad _ (by omega) (by omega)];omega
 rw[e1]
 have e2:i64.wrap ((s.length:Int)-(Bo s:Nat))=((s.length-Bo s:Nat):Int):=by rw[Ad _ (by omega) (by omega)];omega
 rw[e2,Int.toNat_natCast,Ad (400-_) (by omega) (by omega),Ad (-400-_) (by omega) (by omega),Ad (ex+_) (by omega) (by omega)]
 have hlen:(s.take (s.length-Bo s)).length=s.length-Bo s:=by rw[List.length_take];omega
 rw[hlen]
 refine⟨⟨by omega,by omega⟩,Aa (fun g1=>?_) fun g1=>Aa (fun g2=>?_) fun g2=>Aa (fun g3=>?_) fun g3=>?_⟩
 ·rw[if_pos (by omega)]at hk;exact hk
 ·rw[if_pos (by omega)]at hk;exact hk
 ·rw[if_pos (by omega)]at hk;exact hk
 ·rw[if_neg (by omega)]at hk;exact hk
theorem RA {neg:Bool} {s:B8} {ex:Int} (hl:s.length<=2000000) (hd:∀c,c∈s->AL c) (h1: -3000000000000<=ex) (h2:ex<=3000000000000) {st:St} {K:Bool->B8->Int->Int->St->Prop} (hk:KD K (dcN neg (AY s) ex) st):
  CallT PR Dp [.bool neg,.str s,.int .i64 ex] [.agg [.bool,.str,.int .i64],.one (.int .i64)] st K:=by
 refine N8 neg s ex st K ⟨fun i neg' s' ex' n _ _ _ st'=>neg=neg'/\s=s'/\ex=ex'/\(s.length:Int)=n/\st=st'/\0<=i,fun i _ _ _ _ _ _ _ _=>(s.length-i).toNat,⟨rfl,rfl,rfl,rfl,rfl,by omega⟩,?_⟩
 rintro i _ _ _ _ _ _ _ _ ⟨rfl,rfl,rfl,rfl,rfl,hi⟩
 refine Aa (fun g=>?_) fun g=>?_
 ·have hc:=hd _ (FG (show i.toNat<s.length by omega))
  obtain⟨c1,c2⟩:=hc
  refine⟨⟨hi,g⟩,Aa (fun g1=>by omega) fun _=>⟨⟨hi,g⟩,Aa (fun g1=>by omega) fun _=>?_⟩⟩
  rw[Ad _ (by omega) (by omega)]
  exact⟨⟨rfl,rfl,rfl,rfl,rfl,by omega⟩,by dsimp only;omega⟩
 ·refine NC (by decide) (norm_ok (Nat.le_trans (Fj s) hl) h1 h2 hk)
theorem dP_ok {s:B8} (hl:s.length<=1000000) {st:St} {K:Bool->B8->Int->Int->St->Prop} (hk:KD K (dcP s) st):CallT PR CS [.str s] [.agg [.bool,.str,.int .i64],.one (.int .i64)] st K:=by
 refine MU s st K (Ks (by decide) ?_)
 refine⟨fun s1 neg _ _ _ st'=>st=st'/\dcP s=dcQ neg s1/\s1.length<=s.length,Aa (fun g=>?_) fun g=>?_,?_⟩
 ·refine⟨⟨by omega,?_⟩,rfl,?_,?_⟩
  ·cases s with
   | nil=>exact absurd g (by decide)
   | cons a s=>rw[List.length_cons];omega
  ·unfold dcP;rw[if_pos g,decide_eq_true g];rfl
  ·rw[List.length_drop];omega
 ·refine⟨rfl,?_,Nat.le_refl _⟩
  unfold dcP;rw[if_neg g,decide_eq_false g]
 rintro s1 neg _ _ _ _ ⟨rfl,h1,hl1⟩
 rw[h1]at hk
 refine Ud (by omega) ?_
 have hrl:=EL s1
 refine⟨fun s2 neg2 n _ _ _ st'=>s1=s2/\neg=neg2/\n=((AA s1).length:Nat)/\st=st'/\dcQ neg s1=dcF neg (AA s1) (s1.drop (AA s1).length),Aa (fun g=>?_) fun g=>Aa (fun g2=>?_) fun g2=>?_,?_⟩
 ·have:AA s1=[]:=List.length_eq_zero_iff.1 (by omega)
  unfold KD dcQ at hk
  rw[if_pos (.inl this)]at hk;exact hk
 ·refine⟨⟨by omega,by omega⟩,Aa (fun g3=>?_) fun g3=>⟨rfl,rfl,rfl,rfl,?_⟩⟩
  ·have:s1.getD 0 0=48:=u8i.1 g3
   unfold KD dcQ at hk
   rw[if_pos (.inr ⟨by omega,this⟩)]at hk;exact hk
  ·unfold dcQ
   rw[if_neg]
   rintro(h | ⟨_,h⟩)
   ·exact g (by rw[h];rfl)
   ·exact g3 (by show((s1.getD 0 0).toNat:Int)=48;rw[h];rfl)
 ·refine⟨rfl,rfl,rfl,rfl,?_⟩
  unfold dcQ
  rw[if_neg]
  rintro(h | ⟨h,_⟩)
  ·exact g (by rw[h];rfl)
  ·omega
 rintro _ _ _ _ _ _ _ ⟨rfl,rfl,rfl,rfl,h2⟩
 rw[h2]at hk
 rw[Int.toNat_natCast,EC]
 refine⟨⟨by omega,by omega⟩,⟨by omega,by omega⟩,?_⟩
 have hdg:=GO s1
 generalize hr:s1.drop (AA s1).length=r at*
 generalize ha:AA s1=a at*
 have hrl2:a.length+r.length<=1000000:=by
  have:r.length=s1.length-a.length:=by rw[<-hr,List.length_drop]
  omega
 clear hr ha h1 h2
 refine⟨fun s3 all ex neg3 _ _ _ st'=>neg=neg3/\st=st'/\dcF neg a r=dcE neg all ex s3/\ -1000000<=ex/\ex<=0/\all.length<=1000000/\s3.length<=1000000/\∀c,c∈all->AL c,Ks (by decide) (Aa (fun g=>?_) fun g=>?_),?_⟩
 ·have hr1:1<=r.length:=by
   cases r with
   | nil=>exact absurd g (by decide)
   | cons c r=>rw[List.length_cons];omega
  refine⟨⟨by omega,by omega⟩,Ud (by show(r.drop 1).length<=_;rw[List.length_drop];omega) ?_⟩
  rw[show Int.toNat (1:Int)=1 from rfl]
  have hd1:=EL (r.drop 1)
  have hd2:=GO (r.drop 1)
  have hd3:=EC (r.drop 1)
  rw[List.length_drop]at hd1
  generalize hf:AA (r.drop 1)=f at*
  refine Aa (fun g2=>?_) fun g2=>?_
  ·have:f=[]:=List.length_eq_zero_iff.1 (by omega)
   unfold KD dcF at hk
   rw[if_pos g,hf,if_pos this]at hk;exact hk
  ·rw[Ad (((f.length:Nat):Int)+1) (by omega) (by omega),Ad (0-_) (by omega) (by omega),show((((f.length:Nat):Int)+1).toNat)=1+f.length by omega]
   have hdt:(r.take (1+f.length)).drop 1=f:=by rw[List.drop_take,Nat.add_sub_cancel_left];exact hd3
   refine⟨⟨by omega,by omega,by omega⟩,?_⟩
   show(a.length+((r.take (1+f.length)).drop 1).length<=_)/\_
   rw[hdt]
   refine⟨by omega,⟨by omega,by omega⟩,rfl,rfl,?_,by omega,by omega,by rw[List.length_append];omega,by rw[List.length_drop];omega,fun c hc=>?_⟩
   ·unfold dcF
    rw[if_pos g,hf,if_neg (fun e=>g2 (by rw[e];rfl))]
    rw[show(0:Int)-(f.length:Nat)= -(f.length:Nat) by omega]
   ·rcases List.mem_append.1 hc with hc | hc
    ·exact hdg c hc
    ·exact hd2 c hc
 ·refine⟨rfl,rfl,?_,by omega,by omega,by omega,by omega,hdg⟩
  unfold dcF;rw[if_neg g]
 rintro s3 all ex _ _ _ _ _ ⟨rfl,rfl,h3,x1,x2,x3,x4,x5⟩
 rw[h3]at hk
 clear h3 hdg hrl2
 refine Aa (fun g=>?_) fun g=>?_
 ·have hpos:1<=s3.length:=List.length_pos_iff.2 g
  refine⟨fun s4 neg4 all4 ex4 _ _ _ st'=>s3=s4/\neg=neg4/\all=all4/\ex=ex4/\st=st'/\(s3.getD 0 0=101∨s3.getD 0 0=69),?_,?_⟩
  ·have n101:((s3.getD 0 0).toNat:Int)≠101↔s3.getD 0 0≠101:=not_congr (u8i (k:=101))
   have n69:((s3.getD 0 0).toNat:Int)≠69↔s3.getD 0 0≠69:=not_congr (u8i (k:=69))
   refine⟨⟨by omega,by omega⟩,Aa (fun g1=>⟨⟨by omega,by omega⟩,Aa (fun g2=>?_) fun g2=>⟨rfl,rfl,rfl,rfl,rfl,.inr (Decidable.not_not.1 fun h=>g2 (n69.2 h))⟩⟩) fun g1=>⟨rfl,rfl,rfl,rfl,rfl,.inl (Decidable.not_not.1 fun h=>g1 (n101.2 h))⟩⟩
   unfold KD dcE at hk
   rw[if_neg g,if_neg (by rintro(h | h);exact n101.1 g1 h;exact n69.1 g2 h)]at hk
   exact hk
  rintro _ _ _ _ _ _ _ _ ⟨rfl,rfl,rfl,rfl,rfl,he⟩
  unfold KD dcE at hk
  rw[if_neg g,if_pos he]at hk
  refine⟨⟨by omega,by omega⟩,Ks (by decide) ?_⟩
  show ∃_,_
  refine⟨fun s5 neg5 all5 ex5 less _ _ _ st'=>neg=neg5/\all=all5/\ex=ex5/\st=st'/\s5.length<=1000000/\KD K (dcX neg all ex less s5) st,Aa (fun g1=>?_) fun g1=>Ks (by decide) (Aa (fun g2=>?_) fun g2=>?_),?_⟩
  ·have g1':(s3.drop 1).getD 0 0=45:=g1
   rw[if_pos g1']at hk
   refine⟨⟨by omega,?_⟩,rfl,rfl,rfl,rfl,?_,?_⟩
   ·have:1<=(s3.drop 1).length:=by
     cases hc:s3.drop 1 with
     | nil=>rw[hc]at g1';exact absurd g1' (by decide)
     | cons c r=>rw[List.length_cons];omega
    exact Int.ofNat_le.2 this
   ·show((s3.drop 1).drop 1).length<=_;rw[List.length_drop,List.length_drop];omega
   ·rw[decide_eq_true g1]
    show KD K (dcX neg all ex true ((s3.drop 1).drop 1)) st
    rw[List.drop_drop];exact hk
  ·have g1':¬(s3.drop 1).getD 0 0=45:=g1
   have g2':(s3.drop 1).getD 0 0=43:=g2
   rw[if_neg g1',if_pos g2']at hk
   refine⟨⟨by omega,?_⟩,rfl,rfl,rfl,rfl,?_,?_⟩
   ·have:1<=(s3.drop 1).length:=by
     cases hc:s3.drop 1 with
     | nil=>rw[hc]at g2';exact absurd g2' (by decide)
     | cons c r=>rw[List.length_cons];omega
    exact Int.ofNat_le.2 this
   ·show((s3.drop 1).drop 1).length<=_;rw[List.length_drop,List.length_drop];omega
   ·rw[decide_eq_false g1]
    show KD K (dcX neg all ex false ((s3.drop 1).drop 1)) st
    rw[List.drop_drop];exact hk
  ·have g1':¬(s3.drop 1).getD 0 0=45:=g1
   have g2':¬(s3.drop 1).getD 0 0=43:=g2
   rw[if_neg g1',if_neg g2']at hk
   refine⟨rfl,rfl,rfl,rfl,?_,?_⟩
   ·show(s3.drop 1).length<=_;rw[List.length_drop];omega
   ·rw[decide_eq_false g1];exact hk
  rintro s5 _ _ _ less _ _ _ _ ⟨rfl,rfl,rfl,rfl,hl5,hk5⟩
  unfold KD dcX at hk5
  refine Aa (fun g1=>by rw[if_pos (.inl g1)]at hk5;exact hk5) fun g1=>Ud (by omega) (Aa (fun g2=>?_) fun g2=>?_)
  ·rw[if_pos (.inr (by omega))]at hk5;exact hk5
  ·have hall:AA s5=s5:=by
    have:=Nu s5
    have h0:s5.drop (AA s5).length=[]:=List.drop_of_length_le (by omega)
    rw[h0,List.append_nil]at this
    exact this.symm
   have hd5:∀c,c∈s5->AL c:=by rw[<-hall];exact GO s5
   rw[if_neg (by rintro(h | h);exact g1 h;exact h (by rw[hall]))]at hk5
   refine NC (by decide) (XN (by omega) (by omega) (fun c hc=>hd5 c (IA s5 c hc)) (JV s5) ?_)
   show CallT PR Dp [.bool neg,.str all,.int .i64 (if less=true then ex-((if (AY s5).length<=12 then BJ (AY s5)else 1099511627776:Nat):Int)else ex+((if (AY s5).length<=12 then BJ (AY s5)else 1099511627776:Nat):Int))] _ _ _
   rw[Gu]
   have sm:=Fj all
   by_cases h12:(AY s5).length<=12
   ·have hn:=Qf hd5 h12
    rw[if_pos h12]
    refine RA (by omega) x5 ?_ ?_ hk5
    ·split<;>omega
    ·split<;>omega
   ·have hf:=Sp (k:=12) hd5 (by omega)
    rw[if_neg h12]
    refine RA (by omega) x5 ?_ ?_ ?_
    ·split<;>omega
    ·split<;>omega
    ·have:=VN (neg:=neg) (s:=AY all) (ex:=ex) (n:=((1099511627776:Nat):Int)) (m:=(BJ s5:Nat)) (by omega) (by omega) (by omega) (by omega) (by omega) less
     unfold KD
     rw[this];exact hk5
 ·have g0:s3=[]:=Decidable.not_not.1 g
  unfold KD dcE at hk
  rw[if_pos g0]at hk
  exact RA (by omega) x5 (by omega) (by omega) hk
theorem Mu (s:B8) (k:Nat):(s.drop k).getD 0 0=s.getD k 0:=by simp[List.getD]
theorem Rn {s:B8} {k:Nat} (hl:s.length<=1000000000) (hk0:k<=s.length) {I:Int} (hI:I=(k:Nat)) {st:St} {K:Int->St->Prop} (hk:K ((k+(AA (s.drop k)).length:Nat):Int) st):CallT PR B5 [.str s,.int .i64 I] [.one (.int .i64)] st K:=by
 subst hI
 refine KJ s _ st K ⟨fun n s' st'=>s=s'/\st=st'/\∃j:Nat,n=((k+j:Nat):Int)/\k+j<=s.length/\∀i,i<j->AL (s.getD (k+i) 0),fun n _ _=>(s.length-n).toNat,⟨rfl,rfl,0,rfl,by omega,fun j h=>absurd h (Nat.not_lt_zero _)⟩,?_⟩
 rintro _ _ _ ⟨rfl,rfl,j,rfl,hj1,hd⟩
 rw[Int.toNat_natCast]
 have fin:(k+j=s.length∨¬AL (s.getD (k+j) 0))->K ((k+j:Nat):Int) st:=fun h=>by
  have:=Kb (s.drop k) j (by rw[List.length_drop];omega) (fun i hi=>by have:=hd i hi;simpa [List.getD]using this) (by
   rcases h with h | h
   ·left;rw[List.length_drop];omega
   ·right;simpa [List.getD]using h)
  rw[this]at hk;exact hk
 refine Aa (fun g=>⟨⟨by omega,g⟩,Aa (fun g1=>⟨⟨by omega,g⟩,Aa (fun g2=>?_) fun g2=>fin (.inr fun h=>g2 (by have:=h.2;omega))⟩) fun g1=>fin (.inr fun h=>g1 (by have:=h.1;omega))⟩) fun g=>fin (.inl (by omega))
 rw[Ad _ (by omega) (by omega)]
 refine⟨⟨rfl,rfl,j+1,by omega,by omega,fun i hi=>?_⟩,by dsimp only;omega⟩
 by_cases hij:i=j
 ·subst hij;exact⟨by omega,by omega⟩
 ·exact hd i (by omega)
theorem SC:∀(s:B8) (k:Nat),k<=s.length->(∀j,j<k->s.getD j 0=48)->(k=s.length∨s.getD k 0≠48)->AY s=s.drop k
 | [],k,_,_,_=>by simp[AY]
 | a::s,0,_,_,h=>by
  have:a≠48:=by
   rcases h with h | h
   ·simp at h
   ·exact h
  rw[G2 this];rfl
 | a::s,k+1,h1,h2,h3=>by
  have ha:a=48:=h2 0 (by omega)
  subst ha
  have:=IB 1 s
  rw[show List.replicate 1 (48:UInt8)++s=48::s from rfl]at this
  rw[this,List.drop_succ_cons]
  exact SC s k (by simpa using h1) (fun j hj=>h2 (j+1) (by omega)) (by
   rcases h3 with h3 | h3
   ·exact .inl (by simpa using h3)
   ·exact .inr h3)
theorem SA {s:B8} (hl:s.length<=1000000000) {st:St} {K:B8->St->Prop} (hk:K (AY s) st):CallT PR Cs [.str s] [.one .str] st K:=by
 refine Js s st K ⟨fun n s' st'=>s=s'/\st=st'/\∃k:Nat,n=k/\k<=s.length/\∀j,j<k->s.getD j 0=48,fun n _ _=>(s.length-n).toNat,⟨rfl,rfl,0,rfl,Nat.zero_le _,fun j h=>absurd h (Nat.not_lt_zero _)⟩,?_⟩
 rintro _ _ _ ⟨rfl,rfl,k,rfl,hk1,hd⟩
 rw[Int.toNat_natCast]
 have fin:(k=s.length∨s.getD k 0≠48)->K (s.drop k) st:=fun h=>by rw[SC s k hk1 hd h]at hk;exact hk
 refine Aa (fun g=>⟨⟨by omega,g⟩,Aa (fun g1=>?_) fun g1=>⟨⟨by omega,by omega⟩,fin (.inr fun h=>g1 (u8i (k:=48) |>.2 h))⟩⟩) fun g=>⟨⟨by omega,by omega⟩,fin (.inl (by omega))⟩
 rw[Ad _ (by omega) (by omega)]
 refine⟨⟨rfl,rfl,k+1,by omega,by omega,fun j hj=>?_⟩,by dsimp only;omega⟩
 by_cases hjk:j=k
 ·subst hjk;exact(u8i (k:=48)).1 g1
 ·exact hd j (by omega)
theorem V7 {l:B8} (hl:l.length<=18) (hd:∀c,c∈l->AL c) (h0:l.getD 0 0≠48) {st:St} {K:Int->Int->St->Prop} (hk:K (BJ l:Nat) 0 st):CallT PR DA [.str l] [.one (.int .i64),.one (.int .i64)] st K:=by
 refine Jr l st K (Vp (by omega) ?_)
 have hno:decide (Kf l)=true:=decide_eq_true ⟨by omega,hd,fun _=>h0⟩
 rw[hno]
 refine Aq (fun h=>by cases h) fun _=>Aa (fun g=>by omega) fun _=>Aa (fun g=>by omega) fun _=>?_
 refine⟨fun n i l' st'=>l=l'/\st=st'/\∃k:Nat,i=k/\k<=l.length/\n=(BJ (l.take k):Nat),fun _ i _ _=>(l.length-i).toNat,⟨rfl,rfl,0,rfl,Nat.zero_le _,rfl⟩,?_⟩
 rintro _ _ _ _ ⟨rfl,rfl,k,rfl,hkl,rfl⟩
 rw[Int.toNat_natCast]
 refine Aa (fun g=>⟨⟨by omega,g⟩,?_⟩) fun g=>?_
 ·have hk':k<l.length:=by omega
  have hv:=It hd hl k hk'
  have hs:=HK hk'
  have hc:=hd _ (FG hk')
  obtain⟨c1,c2⟩:=hc
  rw[Ad (10*_) (by omega) (by omega),Ad ((List.getD l k 0).toNat:Int) (by omega) (by omega),Ad (_+_) (by omega) (by omega),Ad _ (by omega) (by omega),Ad _ (by omega) (by omega)]
  exact⟨⟨rfl,rfl,k+1,by omega,by omega,by rw[hs];omega⟩,by dsimp only;omega⟩
 ·have:k=l.length:=by omega
  subst this
  rw[List.take_length]at*;exact hk
theorem XC {l:B8} (hl:l.length<=1000000) (hd:∀c,c∈l->AL c) {st:St} {K:Int->St->Prop} (hk:K ((if (AY l).length<=9 then BJ l else 1000000000:Nat):Int) st):CallT PR Dx [.str l] [.one (.int .i64)] st K:=by
 refine Jm l st K (SA (by omega) (Aa (fun g=>?_) fun g=>?_))
 ·rw[if_neg (by omega)]at hk;exact hk
 ·rw[if_pos (by omega)]at hk
  refine V7 (by omega) (fun c hc=>hd c (IA l c hc)) (JV l) ?_
  rw[Gu];exact hk
theorem Wk {neg:Bool} {s:B8} {ex:Int} (hl:s.length<=2000000) (h1: -3000000000000<=ex) (h2:ex<=3000000000000) {st:St} {K:Bool->B8->Int->Int->St->Prop} (hk:KD K (dcN neg (AY s) ex) st):
  CallT PR Df [.bool neg,.str s,.int .i64 ex] [.agg [.bool,.str,.int .i64],.one (.int .i64)] st K:=by
 refine In neg s ex st K (SA (by omega) ?_)
 have hsl:=Fj s
 generalize AY s=t at*
 unfold KD dcN at hk
 refine Aa (fun g=>by rw[if_pos g]at hk;exact hk) fun g=>Qq (by omega) ?_
 rw[if_neg g]at hk
 have ht:=Ox t
 have e2:i64.wrap ((t.length:Int)-(Bo t:Nat))=((t.length-Bo t:Nat):Int):=by rw[Ad _ (by omega) (by omega)];omega
 rw[e2,Int.toNat_natCast,Ad (ex+_) (by omega) (by omega)]
 have hlen:(t.take (t.length-Bo t)).length=t.length-Bo t:=by rw[List.length_take];omega
 rw[hlen]
 refine⟨⟨by omega,by omega⟩,Aa (fun g1=>?_) fun g1=>Aa (fun g2=>?_) fun g2=>Aa (fun g3=>?_) fun g3=>Aa (fun g4=>?_) fun g4=>?_⟩
 ·rw[if_pos (by omega)]at hk;exact hk
 ·rw[if_pos (by omega)]at hk;exact hk
 ·rw[if_pos (by omega)]at hk;exact hk
 ·rw[if_pos (by omega)]at hk;exact hk
 ·rw[if_neg (by omega)]at hk;exact hk
theorem Hy {s:B8} {k:Nat} {c:UInt8} (hc:c≠0) (h:s.getD k 0=c):k<s.length:=by
 by_cases hk:k<s.length
 ·exact hk
 ·rw[show s.getD k 0=0 by simp[List.getD,Nat.le_of_not_lt hk]]at h
  exact absurd h.symm hc
theorem rP_ok {s:B8} (hl:s.length<=1000000) {st:St} {K:Bool->B8->Int->Int->St->Prop} (hk:KD K (dcP s) st):CallT PR Dz [.str s] [.agg [.bool,.str,.int .i64],.one (.int .i64)] st K:=by
 refine Jo s st K ⟨fun i s1 _ _ _ st'=>s=s1/\st=st'/\∃j:Nat,i=j/\j<=1/\j<=s.length/\dcP s=dcQ (decide (i=1)) (s.drop j),?_,?_⟩
 ·have no:¬s.getD 0 0=45->dcP s=dcQ (decide ((0:Int)=1)) (s.drop 0):=fun h=>by unfold dcP;rw[if_neg h];rfl
  refine Aa (fun g=>⟨⟨by omega,g⟩,Aa (fun g1=>⟨rfl,rfl,1,rfl,by omega,by omega,?_⟩) fun g1=>⟨rfl,rfl,0,rfl,by omega,by omega,no fun h=>g1 (u8i (k:=45) |>.2 h)⟩⟩) fun g=>⟨rfl,rfl,0,rfl,by omega,by omega,no fun h=>?_⟩
  ·unfold dcP;rw[if_pos (show s.getD 0 0=45 from(u8i (k:=45)).1 g1)];rfl
  ·have:=Hy (by decide) h;omega
 rintro i _ _ _ _ _ ⟨rfl,rfl,j,rfl,hj1,hjl,h1⟩
 rw[h1]at hk
 clear h1
 generalize decide (((j:Nat):Int)=1)=neg at*
 have hrl:=EL (s.drop j)
 rw[List.length_drop]at hrl
 refine Rn (by omega) hjl rfl ?_
 have hdr:s.drop (j+(AA (s.drop j)).length)=(s.drop j).drop (AA (s.drop j)).length:=by rw[List.drop_drop]
 have htk:(s.take (j+(AA (s.drop j)).length)).drop j=AA (s.drop j):=by rw[List.drop_take,Nat.add_sub_cancel_left];exact EC _
 have hdg:=GO (s.drop j)
 have hlen:(AA (s.drop j)).length=(AA (s.drop j)).length:=rfl
 generalize ha:AA (s.drop j)=a at*
 refine⟨fun s2 i2 neg2 k2 _ _ _ st'=>s=s2/\((j:Nat):Int)=i2/\neg=neg2/\((j+a.length:Nat):Int)=k2/\st=st'/\dcQ neg (s.drop j)=dcF neg a (s.drop (j+a.length)),Aa (fun g=>?_) fun g=>?_,?_⟩
 ·have:a=[]:=List.length_eq_zero_iff.1 (by omega)
  unfold KD dcQ at hk
  rw[ha,if_pos (.inl this)]at hk;exact hk
 ·have hpos:j<s.length:=by omega
  rw[Int.toNat_natCast]
  have hne:a≠ []:=fun h=>g (by rw[h];simp)
  refine⟨⟨by omega,by omega⟩,Aa (fun g3=>?_) fun g3=>⟨rfl,rfl,rfl,rfl,rfl,?_⟩⟩
  ·have h48:(s.drop j).getD 0 0=48:=by rw[Mu];exact(u8i (k:=48)).1 g3
   rw[Ad _ (by omega) (by omega)]
   refine Aa (fun g4=>?_) fun g4=>⟨rfl,rfl,rfl,rfl,rfl,?_⟩
   ·unfold KD dcQ at hk
    rw[ha,if_pos (.inr ⟨by omega,h48⟩)]at hk;exact hk
   ·unfold dcQ
    rw[ha,if_neg (by rintro(h | ⟨h,_⟩);exact hne h;omega),hdr]
  ·unfold dcQ
   rw[ha,if_neg (by rintro(h | ⟨_,h⟩);exact hne h;exact g3 (by rw[Mu]at h;exact(u8i (k:=48)).2 h)),hdr]
 rintro _ _ _ _ _ _ _ _ ⟨rfl,rfl,rfl,rfl,rfl,h2⟩
 rw[h2]at hk
 have hka:j+a.length<=s.length:=by omega
 rw[Int.toNat_natCast,Int.toNat_natCast,htk]
 have hal:a.length<=1000000:=by omega
 have hjk:j<=j+a.length:=Nat.le_add_right _ _
 have hak:a.length<=j+a.length:=Nat.le_add_left _ _
 generalize hkk:j+a.length=k at*
 clear h2 htk hdr hkk ha hlen hrl
 refine⟨⟨by omega,by omega,by omega⟩,?_⟩
 refine⟨fun k3 all ex s3 neg3 _ _ _ st'=>s=s3/\neg=neg3/\st=st'/\ -1000000<=ex/\ex<=0/\all.length<=1000000/\(∀c,c∈all->AL c)/\∃m:Nat,k3=m/\m<=s.length/\dcF neg a (s.drop k)=dcE neg all ex (s.drop m),?_,?_⟩
 ·refine⟨fun b s3 neg3 k3 dg ex _ _ _ st'=>s=s3/\neg=neg3/\((k:Nat):Int)=k3/\a=dg/\(0:Int)=ex/\st=st'/\b=decide ((s.drop k).getD 0 0=46),Aa (fun g=>⟨⟨by omega,g⟩,rfl,rfl,rfl,rfl,rfl,rfl,?_⟩) fun g=>⟨rfl,rfl,rfl,rfl,rfl,rfl,?_⟩,?_⟩
  ·rw[Mu];exact decide_eq_decide.2 (u8i (k:=46))
  ·refine(decide_eq_false fun h=>?_).symm
   rw[Mu]at h
   have:=Hy (by decide) h;omega
  rintro b _ _ _ _ _ _ _ _ _ ⟨rfl,rfl,rfl,rfl,rfl,rfl,rfl⟩
  refine Aa (fun g=>?_) fun g=>⟨rfl,rfl,rfl,by omega,by omega,hal,hdg,k,rfl,hka,?_⟩
  ·have g46:s.getD k 0=46:=by rw[<-Mu];exact g
   have hkl:=Hy (by decide) g46
   have hf1:=EL (s.drop (k+1))
   rw[List.length_drop]at hf1
   have htk:(s.take (k+1+(AA (s.drop (k+1))).length)).drop (k+1)=AA (s.drop (k+1)):=by rw[List.drop_take,Nat.add_sub_cancel_left];exact EC _
   have hdf:=GO (s.drop (k+1))
   rw[Ad (((k:Nat):Int)+1) (by omega) (by omega)]
   refine Rn (k:=k+1) (by omega) (by omega) (by omega) ?_
   have hd1:(s.drop k).drop 1=s.drop (k+1):=by rw[List.drop_drop]
   generalize hf:AA (s.drop (k+1))=f at*
   refine Aa (fun g2=>?_) fun g2=>?_
   ·have:f=[]:=List.length_eq_zero_iff.1 (by omega)
    unfold KD dcF at hk
    rw[if_pos g,hd1,hf,if_pos this]at hk;exact hk
   ·rw[show(((k:Nat):Int)+1).toNat=k+1 by omega,Int.toNat_natCast,htk,Ad _ (by omega) (by omega)]
    refine⟨⟨by omega,by omega,by omega⟩,by omega,rfl,rfl,rfl,by omega,by omega,by rw[List.length_append];omega,fun c hc=>?_,k+1+f.length,rfl,by omega,?_⟩
    ·rcases List.mem_append.1 hc with hc | hc
     ·exact hdg c hc
     ·exact hdf c hc
    ·unfold dcF
     rw[if_pos g,hd1,hf,if_neg (fun e=>g2 (by rw[e];simp)),List.drop_drop]
     rw[show((k:Nat):Int)+1-((k+1+f.length:Nat):Int)= -(f.length:Nat) by omega,show k+(1+f.length)=k+1+f.length by omega]
  ·unfold dcF;rw[if_neg g]
 rintro _ all ex _ _ _ _ _ _ ⟨rfl,rfl,rfl,x1,x2,x3,x5,m,rfl,hm,h3⟩
 rw[h3]at hk
 clear h3 hdg hal hka hak
 refine⟨fun k7 ex7 s7 neg7 dg7 _ _ _ st'=>s=s7/\neg=neg7/\all=dg7/\st=st'/\ -3000000000<=ex7/\ex7<=3000000000/\∃p:Nat,k7=p/\p<=s.length/\dcE neg all ex (s.drop m)=(if p<s.length then K3 else dcN neg (AY all) ex7),?_,?_⟩
 ·refine⟨fun b s5 neg5 k5 dg5 ex5 _ _ _ st'=>s=s5/\neg=neg5/\((m:Nat):Int)=k5/\all=dg5/\ex=ex5/\st=st'/\b=decide ((s.drop m).getD 0 0=101∨(s.drop m).getD 0 0=69),Aa (fun g=>?_) fun g=>⟨rfl,rfl,rfl,rfl,rfl,rfl,?_⟩,?_⟩
  ·rw[Mu,Int.toNat_natCast]
   refine⟨⟨by omega,g⟩,Aa (fun g1=>⟨rfl,rfl,rfl,rfl,rfl,rfl,?_⟩) fun g1=>⟨⟨by omega,g⟩,rfl,rfl,rfl,rfl,rfl,rfl,?_⟩⟩
   ·exact(decide_eq_true (.inl ((u8i (k:=101)).1 g1))).symm
   ·refine decide_eq_decide.2 ⟨fun h=> .inr ((u8i (k:=69)).1 h),fun h=>?_⟩
    rcases h with h | h
    ·exact absurd ((u8i (k:=101)).2 h) g1
    ·exact(u8i (k:=69)).2 h
  ·refine(decide_eq_false fun h=>?_).symm
   rw[Mu]at h
   rcases h with h | h
   ·have:=Hy (by decide) h;omega
   ·have:=Hy (by decide) h;omega
  rintro b _ _ _ _ _ _ _ _ _ ⟨rfl,rfl,rfl,rfl,rfl,rfl,rfl⟩
  refine Aa (fun g=>?_) fun g=>⟨rfl,rfl,rfl,rfl,by omega,by omega,m,rfl,hm,?_⟩
  ·have hml:m<s.length:=by
    rw[Mu]at g
    rcases g with h | h
    ·exact Hy (by decide) h
    ·exact Hy (by decide) h
   have hne:s.drop m≠ []:=fun e=>by have:=congrArg List.length e;rw[List.length_drop]at this;simp at this;omega
   rw[Ad (((m:Nat):Int)+1) (by omega) (by omega),show(((m:Nat):Int)+1).toNat=m+1 by omega]
   have hd1:(s.drop m).drop 1=s.drop (m+1):=by rw[List.drop_drop]
   have hd2:(s.drop m).drop 2=s.drop (m+1+1):=by rw[List.drop_drop]
   have hE:dcE neg all ex (s.drop m)=if s.getD (m+1) 0=45 then dcX neg all ex true (s.drop (m+1+1))else if s.getD (m+1) 0=43 then dcX neg all ex false (s.drop (m+1+1))else dcX neg all ex false (s.drop (m+1)):=by
    unfold dcE
    rw[if_neg hne,if_pos g,hd1,hd2,Mu]
   refine⟨fun down s6 neg6 k6 dg6 ex6 _ _ _ st'=>s=s6/\neg=neg6/\(((m+1:Nat):Nat):Int)=k6/\all=dg6/\ex=ex6/\st=st'/\down=decide (s.getD (m+1) 0=45),Aa (fun g1=>⟨⟨by omega,g1⟩,rfl,rfl,by omega,rfl,rfl,rfl,decide_eq_decide.2 (u8i (k:=45))⟩) fun g1=>⟨rfl,rfl,by omega,rfl,rfl,rfl,(decide_eq_false fun h=>by have:=Hy (by decide) h;omega).symm⟩,?_⟩
   rintro down _ _ _ _ _ _ _ _ _ ⟨rfl,rfl,rfl,rfl,rfl,rfl,rfl⟩
   rw[Int.toNat_natCast]
   refine⟨fun k8 s8 neg8 dg8 ex8 down8 _ _ _ st'=>s=s8/\neg=neg8/\all=dg8/\ex=ex8/\st=st'/\∃q:Nat,k8=q/\q<=s.length/\dcE neg all ex (s.drop m)=dcX neg all ex down8 (s.drop q),?_,?_⟩
   ·refine Aa (fun g1=>⟨⟨by omega,g1⟩,Aa (fun g2=>⟨rfl,rfl,rfl,rfl,rfl,m+1+1,?_,by omega,?_⟩) fun g2=>⟨⟨by omega,g1⟩,Aa (fun g3=>⟨rfl,rfl,rfl,rfl,rfl,m+1+1,?_,by omega,?_⟩) fun g3=>⟨rfl,rfl,rfl,rfl,rfl,m+1,rfl,by omega,?_⟩⟩⟩) fun g1=>⟨rfl,rfl,rfl,rfl,rfl,m+1,rfl,by omega,?_⟩
    ·rw[Ad _ (by omega) (by omega)];omega
    ·have g2':=(u8i (k:=45)).1 g2
     rw[hE,if_pos g2',decide_eq_true g2']
    ·rw[Ad _ (by omega) (by omega)];omega
    ·have g2':¬s.getD (m+1) 0=45:=fun h=>g2 ((u8i (k:=45)).2 h)
     rw[hE,if_neg g2',if_pos ((u8i (k:=43)).1 g3),decide_eq_false g2']
    ·have g2':¬s.getD (m+1) 0=45:=fun h=>g2 ((u8i (k:=45)).2 h)
     rw[hE,if_neg g2',if_neg (fun h=>g3 ((u8i (k:=43)).2 h)),decide_eq_false g2']
    ·have g2':¬s.getD (m+1) 0=45:=fun h=>by have:=Hy (by decide) h;omega
     rw[hE,if_neg g2',if_neg (fun h=>by have:=Hy (by decide) h;omega),decide_eq_false g2']
   rintro _ _ _ _ _ less _ _ _ _ ⟨rfl,rfl,rfl,rfl,rfl,q,rfl,hq,h5⟩
   rw[h5]at hk⊢
   refine Rn (by omega) hq rfl ?_
   have hf1:=EL (s.drop q)
   rw[List.length_drop]at hf1
   have htk:(s.take (q+(AA (s.drop q)).length)).drop q=AA (s.drop q):=by rw[List.drop_take,Nat.add_sub_cancel_left];exact EC _
   have hdf:=GO (s.drop q)
   refine Aa (fun g1=>?_) fun g1=>?_
   ·unfold KD dcX at hk
    rw[if_pos]at hk
    ·exact hk
    ·by_cases h0:s.drop q=[]
     ·exact .inl h0
     ·refine .inr fun h=>h0 (List.length_eq_zero_iff.1 (by omega))
   ·rw[Int.toNat_natCast,Int.toNat_natCast,htk]
    refine⟨⟨by omega,by omega,by omega⟩,XC (by omega) hdf ?_⟩
    have key:∀z:Int,z=(if less then ex-((if (AY (AA (s.drop q))).length<=9 then BJ (AA (s.drop q))else 1000000000:Nat):Int)else ex+((if (AY (AA (s.drop q))).length<=9 then BJ (AA (s.drop q))else 1000000000:Nat):Int))->dcX neg all ex less (s.drop q)=(if q+(AA (s.drop q)).length<s.length then K3 else dcN neg (AY all) z):=by
     intro z hz
     unfold dcX
     by_cases hfull:q+(AA (s.drop q)).length<s.length
     ·rw[if_pos hfull,if_pos (.inr (by rw[List.length_drop];omega))]
     ·have hall:AA (s.drop q)=s.drop q:=by
       have:=Nu (s.drop q)
       have h0:(s.drop q).drop (AA (s.drop q)).length=[]:=List.drop_of_length_le (by rw[List.length_drop];omega)
       rw[h0,List.append_nil]at this
       exact this.symm
      rw[if_neg hfull,if_neg (by rintro(h | h);exact g1 (by rw[h];simp[AA]);exact h (by rw[hall])),hz]
      have hd5:∀c,c∈s.drop q->AL c:=by rw[<-hall];exact hdf
      rw[hall]
      by_cases h9:(AY (s.drop q)).length<=9
      ·rw[if_pos h9]
      ·rw[if_neg h9]
       have hf:=Sp (k:=9) hd5 (by omega)
       exact(VN (n:=((1000000000:Nat):Int)) (m:=(BJ (s.drop q):Nat)) (by have:=Fj all;omega) (by omega) (by omega) (by omega) (by omega) less).symm
    have hb:(if (AY (AA (s.drop q))).length<=9 then BJ (AA (s.drop q))else 1000000000)<=1000000000:=by
     split
     ·rename_i h9
      have:=Qf hdf h9
      omega
     ·exact Nat.le_refl _
    generalize (if (AY (AA (s.drop q))).length<=9 then BJ (AA (s.drop q))else 1000000000)=N at*
    refine Aq (fun hb1=>⟨rfl,rfl,rfl,rfl,?_,?_,_,rfl,by omega,key _ ?_⟩) fun hb1=>⟨rfl,rfl,rfl,rfl,?_,?_,_,rfl,by omega,key _ ?_⟩
    ·rw[Ad (0-_) (by omega) (by omega),Ad _ (by omega) (by omega)];omega
    ·rw[Ad (0-_) (by omega) (by omega),Ad _ (by omega) (by omega)];omega
    ·rw[Ad (0-_) (by omega) (by omega),Ad _ (by omega) (by omega),if_pos hb1];omega
    ·rw[Ad _ (by omega) (by omega)];omega
    ·rw[Ad _ (by omega) (by omega)];omega
    ·rw[Ad _ (by omega) (by omega),hb1];rfl
  ·unfold dcE
   by_cases hm2:m<s.length
   ·rw[if_pos hm2,if_neg (fun e=>by have:=congrArg List.length e;rw[List.length_drop]at this;simp at this;omega),if_neg g]
   ·rw[if_neg hm2,if_pos (List.drop_of_length_le (by omega))]
 rintro _ ex7 _ _ _ _ _ _ _ ⟨rfl,rfl,rfl,rfl,y1,y2,p,rfl,hp,h4⟩
 rw[h4]at hk
 unfold KD at hk
 refine Aa (fun g=>?_) fun g=>?_
 ·rw[if_pos (by omega)]at hk;exact hk
 ·rw[if_neg (by omega)]at hk
  exact Wk (by omega) (by omega) (by omega) hk
def TR (r:Nat) (st:St):Option B8->Prop
 | some s=>r<st.nb/\st.box r= .cells [.str s,.bool false]/\s.length<=1000000
 | none=>r<st.nb/\∃s,st.box r= .cells [.str s,.bool true]/\s.length<=1000000
theorem TR.get {r:Nat} {st:St} {S:Option B8} (h:TR r st S):r<st.nb/\∃s,st.box r= .cells [.str s,.bool S.isNone]/\s.length<=1000000/\(∀x,S=some x->s=x):=by
 cases S with
 | none=>obtain⟨h1,s,h2,h3⟩:=h;exact⟨h1,s,h2,h3,fun x hx=>by cases hx⟩
 | some s=>obtain⟨h1,h2,h3⟩:=h;exact⟨h1,s,h2,h3,fun x hx=>by cases hx;rfl⟩
def TM (r f:Nat) (st:St) (S:Option B8) (l:List TV):Prop:=TR r st S/\f<st.nb/\st.box f= .cells l/\r≠f
theorem Lb {r:Nat} {st:St} {s:B8} {b:Bool} (h:st.box r= .cells [.str s,.bool b]) (hr:r<st.nb) (hl:s.length<=1000000) {K:St->Prop} (hk:∀st',StX (·=r) st st'->TR r st' none->K st'):
  stB st (.box r 1) [.bool true] K:=
 ⟨_,h,by simp,hk _ (StX.put (S:=(·=r)) rfl _) ⟨hr,s,by simp[St.put,setAll],hl⟩⟩
theorem M0 {r:Nat} {st:St} {s t:B8} {S:Option B8} (h:TR r st S) (ht:t.length<=1000000) {K:St->Prop} (hk:∀st',StX (·=r) st st'->TR r st' (S.map fun _=>t)->K st'):
  stB st (.box r 0) [.str t] K:=by
 obtain⟨hr,s,hb,hl,_⟩:=h.get
 refine⟨_,hb,by simp,hk _ (StX.put (S:=(·=r)) rfl _) ?_⟩
 cases S with
 | none=>exact⟨hr,t,by simp[St.put,setAll],ht⟩
 | some x=>exact⟨hr,by simp[St.put,setAll],ht⟩
def KL (w:Nat) (s:B8):Prop:=w<=s.length/\∀i,i<w->AL (s.getD i 0)
instance (w:Nat) (s:B8):Decidable (KL w s):=inferInstanceAs (Decidable (_/\_))
def KP (w:Nat) (S:Option B8) (n:Nat) (T:Option B8):Prop:=match S with
 | none=>T=none
 | some s=>if KL w s then T=some (s.drop w)/\n=BJ (s.take w)else T=none
theorem Qg {l:B8} {w:Nat} (hw:w<=l.length) (h:∀i,i<w->AL (l.getD i 0)):BJ (l.take w)<10^w:=by
 have h1:=Kj (l.take w) fun c hc=>by
  obtain⟨i,hi⟩:=List.getElem?_of_mem hc
  have hl:=(List.getElem?_eq_some_iff.1 hi).1
  rw[List.length_take]at hl
  rw[List.getElem?_take,if_pos (by omega)]at hi
  have:=h i (by omega)
  rwa [List.getD,hi]at this
 rwa [List.length_take,Nat.min_eq_left hw]at h1
theorem G1 {r:Nat} {w:Nat} (hw:w<=9) {st:St} {S:Option B8} (h:TR r st S) {K:Int->St->Prop} (hk:∀(n:Nat) st' T,n<10^w->StX (·=r) st st'->TR r st' T->KP w S n T->K (n:Nat) st'):
  CallT PR Ay [.box r 0,.int .i64 (w:Nat)] [.one (.int .i64)] st K:=by
 obtain⟨hr,s,hb,hl,hx⟩:=h.get
 have hs:Af st [] (.t (.box r 0)) 0=some (.str s):=by simp[Af,hb]
 have p10:0<10^w:=Nat.pow_pos (by decide)
 have p18:10^w<=10^9:=Nat.pow_le_pow_right (by decide) hw
 have bad:¬KL w s->∀st',StX (·=r) st st'->TR r st' none->K ((0:Nat):Int) st':=fun hn st' e h'=>hk 0 st' none p10 e h' (by
  cases S with
  | none=>rfl
  | some x=>rw[<-hx x rfl];show(if KL w s then _ else _);rw[if_neg hn])
 refine HF r _ st K (Ac hs (Aw (Aa (fun g=>Lb hb hr hl (bad fun h=>by have:=h.1;omega)) fun g=>?_)))
 refine⟨fun n i p w' m st'=> .box r 0=p/\((w:Nat):Int)=w'/\((w:Nat):Int)=m/\st=st'/\∃k:Nat,i=k/\k<=w/\n=(BJ (s.take k):Nat)/\∀j,j<k->AL (s.getD j 0),fun _ i _ _ _ _=>(w-i).toNat,⟨rfl,rfl,rfl,rfl,0,rfl,Nat.zero_le _,rfl,fun j h=>absurd h (Nat.not_lt_zero _)⟩,?_⟩
 rintro _ _ _ _ _ _ ⟨rfl,rfl,rfl,rfl,k,rfl,hkw,rfl,hd⟩
 rw[Int.toNat_natCast]
 have hv:=Qg (l:=s) (w:=k) (by omega) hd
 have p1:10^k<=10^9:=Nat.pow_le_pow_right (by decide) (by omega)
 refine Aa (fun g1=>Ab rfl (Ab rfl (Ac hs (Aw ⟨⟨by omega,by omega⟩,Aa (fun g2=>?_) fun g2=>Ab rfl (Ab rfl (Ac hs (Aw ⟨⟨by omega,by omega⟩,Aa (fun g3=>?_) fun g3=>?_⟩)))⟩)))) fun g1=>?_
 ·exact Ab rfl (Ab rfl (Lb hb hr hl (bad fun h=>by have:=(h.2 k (by omega)).1;omega)))
 ·exact Ab rfl (Ab rfl (Lb hb hr hl (bad fun h=>by have:=(h.2 k (by omega)).2;omega)))
 ·refine Ab rfl (Ab rfl (Ac hs (Aw ⟨⟨by omega,by omega⟩,?_⟩)))
  have hsn:=HK (l:=s) (k:=k) (by omega)
  rw[EN _ (by omega) (by omega),Ad (10*_) (by omega) (by omega),Ad (((s.getD k 0).toNat:Int)-48) (by omega) (by omega),Ad (_+_) (by omega) (by omega),Ad _ (by omega) (by omega)]
  refine⟨⟨rfl,rfl,rfl,rfl,k+1,by omega,by omega,by rw[hsn];omega,fun j hj=>?_⟩,by dsimp only;omega⟩
  by_cases hjk:j=k
  ·subst hjk;exact⟨by omega,by omega⟩
  ·exact hd j (by omega)
 ·have hkk:k=w:=by omega
  subst hkk
  refine Ab rfl (Ab rfl (Ac hs (Aw ⟨⟨by omega,by omega⟩,Ab rfl (Ab rfl (M0 (s:=s) h (by rw[List.length_drop];omega) fun st' e h'=>hk _ st' _ hv e h' ?_))⟩)))
  cases S with
  | none=>rfl
  | some x=>
   obtain rfl:=hx x rfl
   show(if KL k s then _ else _)
   rw[if_pos ⟨by omega,hd⟩]
   exact⟨rfl,rfl⟩
def Od (of:B8) (S:Option B8) (c:Nat) (T:Option B8):Prop:=match S with
 | none=>T=none
 | some s=>if s.getD 0 0∈of then T=some (s.drop 1)/\c=(s.getD 0 0).toNat else T=none
theorem G0 {r:Nat} {of:B8} (hof:(0:UInt8)∉of) (hlo:of.length<=100) {st:St} {S:Option B8} (h:TR r st S) {K:Int->St->Prop} (hk:∀(n:Nat) st' T,n<256->StX (·=r) st st'->TR r st' T->Od of S n T->K (n:Nat) st'):
  CallT PR AH [.box r 0,.str of] [.one (.int .u8)] st K:=by
 obtain⟨hr,s,hb,hl,hx⟩:=h.get
 have hs:Af st [] (.t (.box r 0)) 0=some (.str s):=by simp[Af,hb]
 have bad:s.getD 0 0∉of->∀st',StX (·=r) st st'->TR r st' none->K ((0:Nat):Int) st':=fun hn st' e h'=>hk 0 st' none (by decide) e h' (by
  cases S with
  | none=>rfl
  | some x=>rw[<-hx x rfl];show(if s.getD 0 0∈of then _ else _);rw[if_neg hn])
 refine Jz r of st K (Ac hs (Aw (Aa (fun g=>?_) fun g=>?_)))
 ·have hpos:0<s.length:=List.length_pos_iff.2 g
  refine⟨fun i p of' m st'=> .box r 0=p/\of=of'/\(of.length:Int)=m/\st=st'/\∃k:Nat,i=k/\k<=of.length/\∀j,j<k->of.getD j 0≠s.getD 0 0,fun i _ _ _ _=>(of.length-i).toNat,⟨rfl,rfl,rfl,rfl,0,rfl,Nat.zero_le _,fun j h=>absurd h (Nat.not_lt_zero _)⟩,?_⟩
  rintro _ _ _ _ _ ⟨rfl,rfl,rfl,rfl,k,rfl,hkw,hd⟩
  rw[Int.toNat_natCast]
  refine Aa (fun g1=>Ab rfl (Ab rfl (Ac hs (Aw ⟨⟨by omega,by omega⟩,⟨by omega,g1⟩,Aa (fun g2=>?_) fun g2=>?_⟩)))) fun g1=>?_
  ·have g2':s.getD 0 0=of.getD k 0:=UInt8.toNat_inj.1 (Int.ofNat.inj g2)
   have hmem:s.getD 0 0∈of:=by rw[g2'];exact FG (by omega)
   refine Ab rfl (Ab rfl (Ac hs (Aw ⟨⟨by omega,by omega⟩,Ab rfl (Ab rfl (M0 (s:=s) h (by rw[List.length_drop];omega) fun st' e h'=>⟨⟨by omega,g1⟩,hk _ st' _ (UInt8.toNat_lt _) e h' ?_⟩))⟩)))
   cases S with
   | none=>rfl
   | some x=>
    obtain rfl:=hx x rfl
    show(if s.getD 0 0∈of then _ else _)
    rw[if_pos hmem]
    exact⟨rfl,by rw[g2']⟩
  ·rw[Ad _ (by omega) (by omega)]
   refine⟨⟨rfl,rfl,rfl,rfl,k+1,by omega,by omega,fun j hj=>?_⟩,by dsimp only;omega⟩
   by_cases hjk:j=k
   ·subst hjk;exact fun e=>g2 (by rw[e];rfl)
   ·exact hd j (by omega)
  ·refine Ab rfl (Ab rfl (Lb hb hr hl (bad fun hm=>?_)))
   obtain⟨i,hi,he⟩:=List.getElem_of_mem hm
   exact hd i (by omega) (by rw[<-he];simp[List.getD,hi])
 ·have g0:s=[]:=Decidable.not_not.1 g
  exact Lb hb hr hl (bad (by rw[g0];exact hof))
def FracS (S:Option B8) (n:Nat) (T:Option B8):Prop:=match S with
 | none=>T=none
 | some s=>if AA s=[]∨9<(AA s).length then T=none else T=some (s.drop (AA s).length)/\n=Mx (AA s)
theorem So (l:B8):∀k,BJ (l++List.replicate k 48)=BJ l*10^k
 | 0=>by simp
 | k+1=>by
  rw[List.replicate_succ',<-List.append_assoc]
  have:=So l k
  unfold BJ at this⊢
  rw[LG,this,Nat.pow_succ]
  show 10*(F9 0 l*10^k)+(48-48)=_
  have e:10*(F9 0 l*10^k)=F9 0 l*(10^k*10):=by rw[Nat.mul_left_comm,Nat.mul_comm 10]
  rw[e];rfl
theorem O2 {n k:Nat} (hk:k<=9) (hn:n<10^k) {st:St} {K:Int->St->Prop} (h:K (n*10^(9-k):Nat) st):
  ∃(I:Int->Int->St->Prop) (M:Int->Int->St->Nat),I (n:Nat) (k:Nat) st/\∀(n2 k2:Int) (st5:St),I n2 k2 st5->BIf (decide (k2<9)) (I (i64.wrap (n2*10)) (i64.wrap (k2+1)) st5/\M (i64.wrap (n2*10)) (i64.wrap (k2+1)) st5<M n2 k2 st5) (K n2 st5):=by
 refine⟨fun n2 k2 st5=>st=st5/\∃j:Nat,k2=j/\j<=9/\∃m:Nat,n2=m/\m<10^j/\m*10^(9-j)=n*10^(9-k),fun _ k2 _=>(9-k2).toNat,⟨rfl,k,rfl,hk,n,rfl,hn,rfl⟩,?_⟩
 rintro _ _ _ ⟨rfl,j,rfl,hj,m,rfl,hm,he⟩
 have p9:10^j<=10^9:=Nat.pow_le_pow_right (by decide) hj
 refine Aa (fun g=>?_) fun g=>?_
 ·rw[Ad _ (by omega) (by omega),Ad _ (by omega) (by omega)]
  refine⟨⟨rfl,j+1,by omega,by omega,m*10,by omega,by rw[Nat.pow_succ];omega,?_⟩,by dsimp only;omega⟩
  rw[<-he,Nat.mul_assoc,show 9-j=(9-(j+1))+1 by omega,Nat.pow_succ,Nat.mul_comm 10]
 ·have:j=9:=by omega
  subst this
  rw[Nat.sub_self,Nat.pow_zero,Nat.mul_one]at he
  rw[<-he]at h;exact h
theorem Xf {r:Nat} {st:St} {S:Option B8} (h:TR r st S) {K:Int->St->Prop} (hk:∀(n:Nat) st' T,n<1000000000->StX (·=r) st st'->TR r st' T->FracS S n T->K (n:Nat) st'):
  CallT PR Cw [.box r 0] [.one (.int .i64)] st K:=by
 obtain⟨hr,s,hb,hl,hx⟩:=h.get
 have hs:Af st [] (.t (.box r 0)) 0=some (.str s):=by simp[Af,hb]
 have bad:(AA s=[]∨9<(AA s).length)->∀st',StX (·=r) st st'->TR r st' none->K ((0:Nat):Int) st':=fun hn st' e h'=>hk 0 st' none (by decide) e h' (by
  cases S with
  | none=>rfl
  | some x=>rw[<-hx x rfl];show(if AA s=[]∨9<(AA s).length then _ else _);rw[if_pos hn])
 refine GW r st K ⟨fun n i p st'=> .box r 0=p/\st=st'/\∃k:Nat,i=k/\k<=s.length/\n=(BJ (s.take (min k 9)):Nat)/\∀j,j<k->AL (s.getD j 0),fun _ i _ _=>(s.length-i).toNat,⟨rfl,rfl,0,rfl,Nat.zero_le _,rfl,fun j h=>absurd h (Nat.not_lt_zero _)⟩,?_⟩
 rintro _ _ _ _ ⟨rfl,rfl,k,rfl,hkl,rfl,hd⟩
 rw[Int.toNat_natCast]
 have p18:10^(min k 9)<=10^9:=Nat.pow_le_pow_right (by decide) (by omega)
 have hv:=Qg (l:=s) (w:=min k 9) (by omega) fun i hi=>hd i (by omega)
 have run:(k=s.length∨¬AL (s.getD k 0))->(AA s).length=k:=fun hs=>Kb s k hkl hd hs
 have bad0:(k=s.length∨¬AL (s.getD k 0))->((k:Nat):Int)<1->stB st (.box r 1) [.bool true] fun st'=>K ((0:Nat):Int) st':=fun hs g=>Lb hb hr hl (bad (.inl (List.length_eq_zero_iff.1 (by rw[run hs];omega))))
 have bad9:(k=s.length∨¬AL (s.getD k 0))->(9:Int)<((k:Nat):Int)->stB st (.box r 1) [.bool true] fun st'=>K ((0:Nat):Int) st':=fun hs g=>Lb hb hr hl (bad (.inr (by rw[run hs];omega)))
 have good:(k=s.length∨¬AL (s.getD k 0))->¬((k:Nat):Int)<1->¬(9:Int)<((k:Nat):Int)->∀st',StX (·=r) st st'->TR r st' (S.map fun _=>s.drop k)->K ((BJ (s.take (min k 9))*10^(9-k):Nat):Int) st':=fun hs g1 g2 st' e h'=>by
  have hrun:=run hs
  have htk:=EC s
  rw[hrun]at htk
  have hm:min k 9=k:=by omega
  rw[hm]at hv⊢
  have hp:10^9=10^k*10^(9-k):=by rw[<-Nat.pow_add];congr 1;omega
  have hlt:BJ (s.take k)*10^(9-k)<1000000000:=by
   have:=Nat.mul_lt_mul_of_pos_right hv (Nat.pow_pos (n:=9-k) (show 0<10 by decide))
   rw[<-hp]at this;exact this
  refine hk _ st' _ hlt e h' ?_
  cases S with
  | none=>rfl
  | some x=>
   obtain rfl:=hx x rfl
   show(if AA s=[]∨9<(AA s).length then _ else _)
   rw[if_neg (by rintro(h0 | h0);rw[h0]at hrun;simp at hrun;omega;omega),hrun]
   refine⟨rfl,?_⟩
   unfold Mx
   rw[hrun,So,htk]
 refine Ab rfl (Ab rfl (Ac hs (Aw (Aa (fun g=>Ab rfl (Ab rfl (Ac hs (Aw ⟨⟨by omega,g⟩,Aa (fun g1=>Ab rfl (Ab rfl (Ac hs (Aw ⟨⟨by omega,g⟩,Aa (fun g2=>?_) fun g2=>?_⟩)))) fun g1=>?_⟩)))) fun g=>?_))))
 ·have hdk:∀j,j<k+1->AL (s.getD j 0):=fun j hj=>by
   by_cases hjk:j=k
   ·subst hjk;exact⟨by omega,by omega⟩
   ·exact hd j (by omega)
  refine Aa (fun g3=>Ab rfl (Ab rfl (Ac hs (Aw ⟨⟨by omega,g⟩,?_⟩)))) fun g3=>?_
  ·have hsn:=HK (l:=s) (k:=k) (by omega)
   have hm:min k 9=k:=by omega
   have hm1:min (k+1) 9=k+1:=by omega
   rw[hm]at hv⊢
   rw[hm]at p18
   rw[EN _ (by omega) (by omega),Ad (10*_) (by omega) (by omega),Ad (((s.getD k 0).toNat:Int)-48) (by omega) (by omega),Ad (_+_) (by omega) (by omega),Ad _ (by omega) (by omega)]
   exact⟨⟨rfl,rfl,k+1,by omega,by omega,by rw[hm1,hsn];omega,hdk⟩,by dsimp only;omega⟩
  ·rw[Ad _ (by omega) (by omega)]
   exact⟨⟨rfl,rfl,k+1,by omega,by omega,by rw[show min (k+1) 9=min k 9 by omega],hdk⟩,by dsimp only;omega⟩
 ·have hs':k=s.length∨¬AL (s.getD k 0):= .inr fun h=>g2 (by have:=h.2;omega)
  exact Aa (fun g3=>Ab rfl (Ab rfl (bad0 hs' g3))) fun g3=>Aa (fun g4=>Ab rfl (Ab rfl (bad9 hs' g4))) fun g4=>Ab rfl (Ab rfl (Ac hs (Aw ⟨⟨by omega,by omega⟩,Ab rfl (Ab rfl (M0 (s:=s) h (by rw[List.length_drop];omega) fun st' e h'=>O2 (by omega) (by rw[show min k 9=k by omega]at*;exact hv) (good hs' g3 g4 st' e h')))⟩)))
 ·have hs':k=s.length∨¬AL (s.getD k 0):= .inr fun h=>g1 (by have:=h.1;omega)
  exact Aa (fun g3=>Ab rfl (Ab rfl (bad0 hs' g3))) fun g3=>Aa (fun g4=>Ab rfl (Ab rfl (bad9 hs' g4))) fun g4=>Ab rfl (Ab rfl (Ac hs (Aw ⟨⟨by omega,by omega⟩,Ab rfl (Ab rfl (M0 (s:=s) h (by rw[List.length_drop];omega) fun st' e h'=>O2 (by omega) (by rw[show min k 9=k by omega]at*;exact hv) (good hs' g3 g4 st' e h')))⟩)))
 ·have hs':k=s.length∨¬AL (s.getD k 0):= .inl (by omega)
  exact Aa (fun g3=>Ab rfl (Ab rfl (bad0 hs' g3))) fun g3=>Aa (fun g4=>Ab rfl (Ab rfl (bad9 hs' g4))) fun g4=>Ab rfl (Ab rfl (Ac hs (Aw ⟨⟨by omega,by omega⟩,Ab rfl (Ab rfl (M0 (s:=s) h (by rw[List.length_drop];omega) fun st' e h'=>O2 (by omega) (by rw[show min k 9=k by omega]at*;exact hv) (good hs' g3 g4 st' e h')))⟩)))
end Go.TVF
