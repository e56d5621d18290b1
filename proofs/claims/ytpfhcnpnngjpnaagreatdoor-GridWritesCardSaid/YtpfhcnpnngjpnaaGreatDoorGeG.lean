/- What the laws below rest on: a framework for Go programs, and contracts of the functions that they reach. -/
import Derived.Test.YtpfhcnpnngjpnaaGreatDoorGeF
import Derived.WideShapes
import Derived.Shelf.Strings.Builder2
import Derived.Shelf.Strings.Replace
import Derived.Test.YtpfhcnpnngjpnaaGreatDoorProg
set_option maxRecDepth 20000
set_option linter.unusedVariables false
set_option linter.unusedSimpArgs false
namespace Go.TVF
open Go.IntKind(i64 u8)
open Go Go.Proofs
theorem Nq {s:B8} {k:Nat} (hl:s.length<=1000000000) (hk0:k<=s.length) {I:Int} (hI:I=(k:Nat)) {st:St} {K:Int->St->Prop} (hk:K ((k+(Au (s.drop k)).length:Nat):Int) st):CallT PR Az [.str s,.int .i64 I] [.one (.int .i64)] st K:=by
 subst hI
 refine K1 s _ st K ⟨fun n s' st'=>s=s'/\st=st'/\∃j:Nat,n=((k+j:Nat):Int)/\k+j<=s.length/\∀i,i<j->AK (s.getD (k+i) 0),fun n _ _=>(s.length-n).toNat,⟨rfl,rfl,0,rfl,by omega,fun j h=>absurd h (Nat.not_lt_zero _)⟩,?_⟩
 rintro _ _ _ ⟨rfl,rfl,j,rfl,hj1,hd⟩
 rw[Int.toNat_natCast]
 have fin:(k+j=s.length∨¬AK (s.getD (k+j) 0))->K ((k+j:Nat):Int) st:=fun h=>by
  have:=H6 (s.drop k) j (by rw[List.length_drop];omega) (fun i hi=>by have:=hd i hi;simpa [List.getD]using this) (by
   rcases h with h | h
   ·left;rw[List.length_drop];omega
   ·right;simpa [List.getD]using h)
  rw[this]at hk;exact hk
 have hB:Ku ((s.getD (k+j) 0).toNat:Int)=decide (AK (s.getD (k+j) 0)):=by
  unfold Ku AK
  exact decide_eq_decide.2 ⟨fun h=>⟨by omega,by omega⟩,fun h=>⟨by omega,by omega⟩⟩
 refine Aa (fun g=>⟨⟨by omega,g⟩,UD (Aj (fun g1=>?_) fun g1=>fin (.inr fun h=>?_))⟩) fun g=>fin (.inl (by omega))
 ·rw[hB]at g1
  rw[Af _ (by omega) (by omega)]
  refine⟨⟨rfl,rfl,j+1,by omega,by omega,fun i hi=>?_⟩,by dsimp only;omega⟩
  by_cases hij:i=j
  ·rw[hij];exact of_decide_eq_true g1
  ·exact hd i (by omega)
 ·rw[hB,decide_eq_true h]at g1;cases g1
def isX (r:B8):Prop:=r≠ []/\(Au r).length=r.length
def isE (r:B8):Prop:=r=[]∨((r.getD 0 0=101∨r.getD 0 0=69)/\(if (r.drop 1).getD 0 0=45∨(r.drop 1).getD 0 0=43 then isX (r.drop 2)else isX (r.drop 1)))
def isF (r:B8):Prop:=if r.getD 0 0=46 then Au (r.drop 1)≠ []/\isE (r.drop (1+(Au (r.drop 1)).length))else isE r
def isQ (t:B8):Prop:=Au t≠ []/\¬(1<(Au t).length/\t.getD 0 0=48)/\isF (t.drop (Au t).length)
instance (r:B8):Decidable (isX r):=inferInstanceAs (Decidable (_/\_))
instance (r:B8):Decidable (isE r):=by unfold isE;infer_instance
instance (r:B8):Decidable (isF r):=by unfold isF;infer_instance
instance (r:B8):Decidable (isQ r):=by unfold isQ;infer_instance
theorem W8 (neg:Bool) (s:B8) (ex:Int):(dcN neg s ex).2.2.2=0∨(dcN neg s ex).2.2.2=2:=by
 unfold dcN;split
 ·exact .inl rfl
 ·split
  ·exact .inr rfl
  ·exact .inl rfl
def okE (e:Int):Prop:=e=0∨e=2
theorem SK (neg:Bool) (all:B8) (ex:Int) (less:Bool) (r:B8):(isX r->okE (dcX neg all ex less r).2.2.2)/\(¬isX r->(dcX neg all ex less r).2.2.2=3):=by
 unfold dcX isX
 by_cases h:r=[]∨(Au r).length≠r.length
 ·rw[if_pos h]
  refine⟨fun g=>?_,fun _=>rfl⟩
  rcases h with h | h
  ·exact absurd h g.1
  ·exact absurd g.2 h
 ·rw[if_neg h]
  have h':r≠ []/\(Au r).length=r.length:=⟨fun e=>h (.inl e),Decidable.not_not.1 fun e=>h (.inr e)⟩
  exact⟨fun _=>W8 _ _ _,fun g=>absurd h' g⟩
theorem W9 (neg:Bool) (all:B8) (ex:Int) (r:B8):(isE r->okE (dcE neg all ex r).2.2.2)/\(¬isE r->(dcE neg all ex r).2.2.2=3):=by
 unfold dcE isE
 by_cases h:r=[]
 ·rw[if_pos h];exact⟨fun _=>W8 _ _ _,fun g=>absurd (.inl h) g⟩
 rw[if_neg h]
 by_cases h2:r.getD 0 0=101∨r.getD 0 0=69
 ·rw[if_pos h2]
  by_cases h3:(r.drop 1).getD 0 0=45
  ·rw[if_pos h3,if_pos (.inl h3)]
   have:=SK neg all ex true (r.drop 2)
   exact⟨fun g=>this.1 (by rcases g with g | g;exact absurd g h;exact g.2),fun g=>this.2 fun g2=>g (.inr ⟨h2,g2⟩)⟩
  ·rw[if_neg h3]
   by_cases h4:(r.drop 1).getD 0 0=43
   ·rw[if_pos h4,if_pos (.inr h4)]
    have:=SK neg all ex false (r.drop 2)
    exact⟨fun g=>this.1 (by rcases g with g | g;exact absurd g h;exact g.2),fun g=>this.2 fun g2=>g (.inr ⟨h2,g2⟩)⟩
   ·rw[if_neg h4,if_neg (by rintro(g | g);exact h3 g;exact h4 g)]
    have:=SK neg all ex false (r.drop 1)
    exact⟨fun g=>this.1 (by rcases g with g | g;exact absurd g h;exact g.2),fun g=>this.2 fun g2=>g (.inr ⟨h2,g2⟩)⟩
 ·rw[if_neg h2]
  exact⟨fun g=>by rcases g with g | g;exact absurd g h;exact absurd g.1 h2,fun _=>rfl⟩
theorem dcF_err (neg:Bool) (a r:B8):(isF r->okE (dcF neg a r).2.2.2)/\(¬isF r->(dcF neg a r).2.2.2=3):=by
 unfold dcF isF
 by_cases h:r.getD 0 0=46
 ·rw[if_pos h,if_pos h]
  by_cases h2:Au (r.drop 1)=[]
  ·rw[if_pos h2];exact⟨fun g=>absurd h2 g.1,fun _=>rfl⟩
  ·rw[if_neg h2]
   have:=W9 neg (a++Au (r.drop 1)) (-(Au (r.drop 1)).length) (r.drop (1+(Au (r.drop 1)).length))
   exact⟨fun g=>this.1 g.2,fun g=>this.2 fun g2=>g ⟨h2,g2⟩⟩
 ·rw[if_neg h,if_neg h];exact W9 _ _ _ _
theorem W6 (neg:Bool) (t:B8):(isQ t->okE (dcQ neg t).2.2.2)/\(¬isQ t->(dcQ neg t).2.2.2=3):=by
 unfold dcQ isQ
 by_cases h:Au t=[]∨(1<(Au t).length/\t.getD 0 0=48)
 ·rw[if_pos h]
  refine⟨fun g=>?_,fun _=>rfl⟩
  rcases h with h | h
  ·exact absurd h g.1
  ·exact absurd h g.2.1
 ·rw[if_neg h]
  have:=dcF_err neg (Au t) (t.drop (Au t).length)
  exact⟨fun g=>this.1 g.2.2,fun g=>this.2 fun g2=>g ⟨fun e=>h (.inl e),fun e=>h (.inr e),g2⟩⟩
def Eo (s:B8):Nat:=if s.getD 0 0=45 then 1 else 0
theorem SL (s:B8):(isQ (s.drop (Eo s))->okE (dcP s).2.2.2)/\(¬isQ (s.drop (Eo s))->(dcP s).2.2.2=3):=by
 unfold dcP Eo
 by_cases h:s.getD 0 0=45
 ·rw[if_pos h,if_pos h];exact W6 _ _
 ·rw[if_neg h,if_neg h,List.drop_zero];exact W6 _ _
theorem Zu {s:B8} (hl:s.length<=1000000) {st:St} {K:Bool->Bool->St->Prop} (hk:∀b2,K (decide (isQ (s.drop (Eo s)))) b2 st):CallT PR Cw [.str s] [.one .bool,.one .bool] st K:=by
 refine Hi s st K ⟨fun i s' st'=>s=s'/\st=st'/\i=((Eo s:Nat):Int),?_,?_⟩
 ·refine Aa (fun g=>⟨⟨by omega,g⟩,Aa (fun g1=>⟨rfl,rfl,?_⟩) fun g1=>⟨rfl,rfl,?_⟩⟩) fun g=>⟨rfl,rfl,?_⟩
  ·rw[Af _ (by omega) (by omega)];unfold Eo;rw[if_pos (show s.getD 0 0=45 from(u8i (k:=45)).1 g1)];rfl
  ·unfold Eo;rw[if_neg (show ¬s.getD 0 0=45 from fun h=>g1 ((u8i (k:=45)).2 h))];rfl
  ·unfold Eo;rw[if_neg (show ¬s.getD 0 0=45 from fun h=>by have:=Es (by decide) h;omega)];rfl
 rintro _ _ _ ⟨rfl,rfl,rfl⟩
 have hjl:Eo s<=s.length:=by
  unfold Eo;split
  ·rename_i h;have:=Es (by decide) h;omega
  ·exact Nat.zero_le _
 have hj1:Eo s<=1:=by unfold Eo;split<;>omega
 generalize Eo s=j at*
 have no:¬isQ (s.drop j)->∀b2,K false b2 st:=fun hn b2=>by have:=hk b2;rw[decide_eq_false hn]at this;exact this
 have hrl:=DX (s.drop j)
 rw[List.length_drop]at hrl
 refine Aa (fun g=>no (fun h=>h.1 ?_) _) fun g=>Nq (by omega) hjl rfl ?_
 ·rw[List.drop_of_length_le (by omega)];rfl
 have hqq:isQ (s.drop j)↔Au (s.drop j)≠ []/\¬(1<(Au (s.drop j)).length/\(s.drop j).getD 0 0=48)/\isF ((s.drop j).drop (Au (s.drop j)).length):=Iff.rfl
 rw[List.drop_drop,H3]at hqq
 generalize ha:Au (s.drop j)=a at*
 rw[Af _ (by omega) (by omega),Int.toNat_natCast]
 have hgo:a≠ []->¬(1<a.length/\s.getD j 0=48)->(isQ (s.drop j)↔isF (s.drop (j+a.length))):=fun h1 h2=>by rw[hqq];exact⟨fun h=>h.2.2,fun h=>⟨h1,h2,h⟩⟩
 have hne:¬((j+a.length:Nat):Int)=(j:Int)->a≠ []:=fun g e=>g (by rw[e];simp)
 refine⟨fun s2 k2 st'=>s=s2/\st=st'/\k2=((j+a.length:Nat):Int)/\(isQ (s.drop j)↔isF (s.drop (j+a.length))),Aa (fun g1=>no (fun h=>(hqq.1 h).1 (List.length_eq_zero_iff.1 (by omega))) _) fun g1=>⟨⟨by omega,by omega⟩,Aa (fun g2=>Aa (fun g3=>no (fun h=>(hqq.1 h).2.1 ⟨by omega,(u8i (k:=48)).1 g2⟩) _) fun g3=>⟨rfl,rfl,rfl,hgo (hne g1) fun h=>g3 (by omega)⟩) fun g2=>⟨rfl,rfl,rfl,hgo (hne g1) fun h=>g2 ((u8i (k:=48)).2 h.2)⟩⟩,?_⟩
 rintro _ _ _ ⟨rfl,rfl,rfl,h2⟩
 replace hk:∀b2,K (decide (isF (s.drop (j+a.length)))) b2 st:=fun b=>by have:=hk b;rw[decide_eq_decide.2 h2]at this;exact this
 clear no hqq hgo hne h2 ha
 have hkl:j+a.length<=s.length:=by omega
 generalize j+a.length=k at*
 clear hrl hjl hj1 g
 have no:¬isF (s.drop k)->∀b2,K false b2 st:=fun hn b2=>by have:=hk b2;rw[decide_eq_false hn]at this;exact this
 have hff:isF (s.drop k)↔(if s.getD k 0=46 then Au (s.drop (k+1))≠ []/\isE (s.drop (k+(1+(Au (s.drop (k+1))).length)))else isE (s.drop k)):=by
  unfold isF;rw[H3,List.drop_drop,List.drop_drop]
 refine⟨fun i2 s2 st'=>s=s2/\st=st'/\∃m:Nat,i2=m/\m<=s.length/\(isF (s.drop k)↔isE (s.drop m)),?_,?_⟩
 ·have w1:i64.wrap (((k:Nat):Int)+1)=((k+1:Nat):Int):=by rw[Af _ (by omega) (by omega)];omega
  rw[w1,Int.toNat_natCast]
  refine Aa (fun g=>⟨⟨by omega,g⟩,Aa (fun g1=>Nq (by omega) (by omega) rfl ?_) fun g1=>⟨rfl,rfl,k,rfl,hkl,?_⟩⟩) fun g=>⟨rfl,rfl,k,rfl,hkl,?_⟩
  ·rw[if_pos ((u8i (k:=46)).1 g1)]at hff
   have hrl:=DX (s.drop (k+1))
   rw[List.length_drop]at hrl
   refine Aa (fun g2=>no (fun h=>(hff.1 h).1 (List.length_eq_zero_iff.1 (by omega))) _) fun g2=>⟨rfl,rfl,_,rfl,by omega,?_⟩
   rw[hff,show k+1+(Au (s.drop (k+1))).length=k+(1+(Au (s.drop (k+1))).length) by omega]
   exact⟨fun h=>h.2,fun h=>⟨fun e=>g2 (by rw[e];simp),h⟩⟩
  ·rw[if_neg (fun h=>g1 ((u8i (k:=46)).2 h))]at hff;exact hff
  ·rw[if_neg (fun h=>by have:=Es (by decide) h;omega)]at hff;exact hff
 rintro _ _ _ ⟨rfl,rfl,m,rfl,hml,h3⟩
 replace hk:∀b2,K (decide (isE (s.drop m))) b2 st:=fun b=>by have:=hk b;rw[decide_eq_decide.2 h3]at this;exact this
 clear no hff h3 hkl
 have tail:∀(p:Nat),p<=s.length->(∀b2,K (decide (isX (s.drop p))) b2 st)->CallT PR Az [.str s,.int .i64 ((p:Nat):Int)] [.one (.int .i64)] st (fun n st'=>BIf (decide (n=((p:Nat):Int))) (K false (decide (n=(s.length:Int))) st') (K (decide (n=(s.length:Int))) (decide (n=(s.length:Int))) st')):=fun p hp h=>by
  refine Nq (by omega) hp rfl ?_
  have hrl:=DX (s.drop p)
  rw[List.length_drop]at hrl
  refine Aa (fun g=>?_) fun g=>?_
  ·have:=h (decide (((p+(Au (s.drop p)).length:Nat):Int)=(s.length:Int)))
   rw[decide_eq_false (fun hx=>?_)]at this
   ·exact this
   ·have h1:=hx.2
    have h2:=List.length_pos_iff.2 hx.1
    have g':((p+(Au (s.drop p)).length:Nat):Int)=((p:Nat):Int):=g
    rw[List.length_drop]at h1 h2
    omega
  ·have:=h (decide (((p+(Au (s.drop p)).length:Nat):Int)=(s.length:Int)))
   rw[decide_eq_decide.2 (show isX (s.drop p)↔((p+(Au (s.drop p)).length:Nat):Int)=(s.length:Int)from ?_)]at this
   ·exact this
   ·unfold isX
    rw[List.length_drop]
    exact⟨fun h=>by omega,fun h=>⟨fun e=>g (by rw[e];simp[Au]),by omega⟩⟩
 have hee:isE (s.drop m)↔m=s.length∨((s.getD m 0=101∨s.getD m 0=69)/\(if s.getD (m+1) 0=45∨s.getD (m+1) 0=43 then isX (s.drop (m+2))else isX (s.drop (m+1)))):=by
  unfold isE
  rw[H3,List.drop_drop,List.drop_drop,H3,List.drop_eq_nil_iff]
  exact⟨fun h=>h.imp (fun h=>by omega) id,fun h=>h.imp (fun h=>by omega) id⟩
 have w1:i64.wrap (((m:Nat):Int)+1)=((m+1:Nat):Int):=by rw[Af _ (by omega) (by omega)];omega
 have w2:i64.wrap (((m+1:Nat):Int)+1)=((m+2:Nat):Int):=by rw[Af _ (by omega) (by omega)];omega
 simp only[w1,w2,Int.toNat_natCast]
 have go:m<s.length->(s.getD m 0=101∨s.getD m 0=69)->∀p,p<=s.length->((if s.getD (m+1) 0=45∨s.getD (m+1) 0=43 then isX (s.drop (m+2))else isX (s.drop (m+1)))↔isX (s.drop p))->CallT PR Az [.str s,.int .i64 ((p:Nat):Int)] [.one (.int .i64)] st (fun n st'=>BIf (decide (n=((p:Nat):Int))) (K false (decide (n=(s.length:Int))) st') (K (decide (n=(s.length:Int))) (decide (n=(s.length:Int))) st')):=fun hlt hc p hp hi=>tail p hp fun b2=>by
  have:=hk b2
  rw[decide_eq_decide.2 (show isE (s.drop m)↔isX (s.drop p)from ?_)]at this
  ·exact this
  ·rw[hee,hi];exact⟨fun h=>h.elim (fun h=>by omega) fun h=>h.2,fun h=> .inr ⟨hc,h⟩⟩
 have fin:¬(s.getD m 0=101∨s.getD m 0=69)->∀b2,K (decide (((m:Nat):Int)=(s.length:Int))) b2 st:=fun hn b2=>by
  have:=hk b2
  rw[decide_eq_decide.2 (show isE (s.drop m)↔((m:Nat):Int)=(s.length:Int)from ?_)]at this
  ·exact this
  ·rw[hee];exact⟨fun h=>h.elim (fun h=>by omega) fun h=>absurd h.1 hn,fun h=> .inl (by omega)⟩
 refine Aa (fun g=>⟨⟨by omega,g⟩,Aa (fun g1=>?q1) fun g1=>⟨⟨by omega,g⟩,Aa (fun g2=>?q2) fun g2=>?_⟩⟩) fun g=>?_
 case q1 | q2=>
  have hc:s.getD m 0=101∨s.getD m 0=69:=by first | exact .inl ((u8i (k:=101)).1 (by assumption)) | exact .inr ((u8i (k:=69)).1 (by assumption))
  have hlt:m<s.length:=by omega
  refine Aa (fun g4=>⟨⟨by omega,g4⟩,Aa (fun g5=>go hlt hc (m+2) (by omega) (by rw[if_pos (.inr ((u8i (k:=43)).1 g5))])) fun g5=>⟨⟨by omega,g4⟩,Aa (fun g6=>go hlt hc (m+2) (by omega) (by rw[if_pos (.inl ((u8i (k:=45)).1 g6))])) fun g6=>go hlt hc (m+1) (by omega) (by rw[if_neg (by rintro(h | h);exact g6 ((u8i (k:=45)).2 h);exact g5 ((u8i (k:=43)).2 h))])⟩⟩) fun g4=>go hlt hc (m+1) (by omega) ?_
  rw[if_neg (by rintro(h | h)<;>(have:=Es (by decide) h;omega))]
 ·exact fin (by rintro(h | h);exact g1 ((u8i (k:=101)).2 h);exact g2 ((u8i (k:=69)).2 h)) _
 ·exact fin (by rintro(h | h)<;>(have:=Es (by decide) h;omega)) _
def scK (k:Nat):Sc:=⟨(k:Nat),false,false,[],0,0,0,0,0,[],[]⟩
theorem vlLeaf (st:St) (s:Sc) (h:s.bytes=[]):VlR st (.mk s [] []) (A0 s .nilSlice .nilSlice .nilSlice):=by
 unfold VlR
 refine⟨_,_,_,[],[],rfl,?_,.of_rd (.inl ⟨rfl,rfl,rfl⟩),by unfold VsR;rfl,.of_rd (.inl ⟨rfl,rfl,rfl⟩),by unfold FsR;rfl⟩
 rw[h];exact .of_rd (.inl ⟨rfl,rfl,rfl⟩)
theorem FsR.snoc0 {st:St} {d:Fd} {cd:List TV} {l:List Fd} {xs:List TV} (h:FsR st l xs) (hd:FdR st d cd):FsR st (l++[d]) (xs++cd):=by
 obtain⟨cks,rfl,hall⟩:=h.chunks
 have:=FsR.of_chunks (hall.snoc hd)
 simpa using this
theorem CG {n w:Nat} (hw:w<=100) (hn:n<=1000000000000000000) {st:St} {K:B8->St->Prop} (hk:∀st',Al st st'->K (A7 w n) st'):CallT PR AH [.int .i64 (n:Int),.int .i64 (w:Int)] [.one .str] st K:=by
 refine MP _ _ st K ⟨⟨by omega,by omega,by rw[Int.toNat_natCast];omega⟩,?_⟩
 rw[Int.toNat_natCast,Af _ (by omega) (by omega)]
 refine⟨fun n1 i b st'=>TV.ms 1 st.nb 0 w w=b/\∃(j m:Nat) (t:B8),i=(j:Int)-1/\n1=m/\m<=n/\j+t.length=w/\A7 w n=A7 j m++t/\BxB st st' b (List.replicate j 0++t),fun _ i _ _=>(i+1).toNat,⟨rfl,w,n,[],rfl,rfl,Nat.le_refl _,rfl,by simp,by simpa using BxB.make (Al.refl st) w⟩,?_⟩
 rintro _ _ _ st1 ⟨rfl,j,m,t,rfl,rfl,hm,hj,he,hb⟩
 have hlen:(List.replicate j (0:UInt8)++t).length=w:=by simp;omega
 refine Aa (fun g=>?_) fun g=>?_
 ·obtain⟨i,rfl⟩:∃i,j=i+1:=⟨j-1,by omega⟩
  have hi:(((i+1:Nat):Int)-1)=(i:Int):=by omega
  rw[hi,hb.rd.lenZ,Int.toNat_natCast]
  refine⟨⟨by omega,by omega⟩,hb.set (c:=(48+m%10).toUInt8) (by rw[W2 _ rfl];rfl) (by omega) fun st2 hb2=>?_⟩
  have hd:i64.wrap ((m:Int).tdiv 10)=((m/10:Nat):Int):=by rw[Int.tdiv_eq_ediv_of_nonneg (by omega),Af _ (by omega) (by omega)];omega
  rw[hd,Af _ (by omega) (by omega)]
  refine⟨⟨rfl,i,m/10,(48+m%10).toUInt8::t,rfl,rfl,by omega,by rw[List.length_cons];omega,by rw[he,A7,List.append_assoc];rfl,?_⟩,by dsimp only;omega⟩
  have:(List.replicate (i+1) (0:UInt8)++t).set i (48+m%10).toUInt8=List.replicate i 0++(48+m%10).toUInt8::t:=by
   rw[List.replicate_succ',List.append_assoc,List.set_append_right _ _ (by simp),List.length_replicate,Nat.sub_self];rfl
  rw[<-this];exact hb2
 ·have:j=0:=by omega
  subst this
  rw[List.replicate_zero,List.nil_append]at hb
  rw[A7,List.nil_append]at he
  rw[<-he]at hb
  exact hb.str (hk _ hb.ext)
theorem Gv {n w:Nat} (hw:w<=100) (hn:n<=1000000000000000000) {st:St} {K:B8->St->Prop} (hk:K (A7 w n) st):CallT PR AC [.int .i64 (n:Int),.int .i64 (w:Int)] [.one .str] st K:=by
 refine K4 _ _ st K ⟨fun n1 s i w1 st'=>(w:Int)=w1/\st=st'/\∃j m:Nat,i=(w:Int)-j/\n1=m/\m<=n/\j+s.length=w/\A7 w n=A7 j m++s,fun _ _ i _ _=>((w:Int)-i).toNat,⟨rfl,rfl,w,n,by omega,rfl,Nat.le_refl _,rfl,by simp⟩,?_⟩
 rintro _ s _ _ _ ⟨rfl,rfl,j,m,rfl,rfl,hm,hj,he⟩
 refine Aa (fun g=>?_) fun g=>?_
 ·obtain⟨i,rfl⟩:∃i,j=i+1:=⟨j-1,by omega⟩
  refine Ac (x:= .str [(48+m%10).toUInt8]) ?_ (Ak ⟨by rw[List.length_singleton];omega,?_⟩)
  ·rw[W2 _ rfl]
   show(EX [FG _]).map _=_
   have:=BH [(48+m%10).toUInt8]
   simp only[AA,List.map_cons,List.map_nil]at this
   rw[this];rfl
  ·have hd:i64.wrap ((m:Int).tdiv 10)=((m/10:Nat):Int):=by rw[Int.tdiv_eq_ediv_of_nonneg (by omega),Af _ (by omega) (by omega)];omega
   rw[hd,Af _ (by omega) (by omega)]
   refine⟨⟨rfl,rfl,i,m/10,by omega,rfl,by omega,by rw[List.length_append,List.length_singleton];omega,by rw[he,A7,List.append_assoc]⟩,by dsimp only;omega⟩
 ·have:j=0:=by omega
  subst this
  rw[A7,List.nil_append]at he
  rw[<-he];exact hk
theorem UH {n:Nat} (hn:n<=3652058) {st:St} {K:B8->St->Prop} (hk:∀st',Al st st'->K (LS n) st'):CallT PR Bz [.int .i64 (n:Int)] [.one .str] st K:=by
 refine Lw _ st K (date_ok hn fun y m d hd=>?_)
 have he:=Xa hd
 obtain⟨a1,a2,a3,a4,a5,a6,a7⟩:=hd
 have hm:=Fn y m
 have l4:=AU 4 y
 have l2:=AU 2 m
 have l3:=AU 2 d
 refine CG (w:=4) (by omega) (by omega) fun st1 e1=>⟨by rw[l4];show 4+1<=_;omega,CG (w:=2) (by omega) (by omega) fun st2 e2=>⟨by rw[List.length_append,l4,l2];show 4+1+2<=_;omega,by rw[List.length_append,List.length_append,l4,l2];show 4+1+2+1<=_;omega,CG (w:=2) (by omega) (by omega) fun st3 e3=>⟨by simp only[List.length_append,l4,l2,l3];show 4+1+2+1+2<=_;omega,?_⟩⟩⟩
 have:=hk st3 ((e1.trans e2).trans e3)
 rw[he,List.append_cons,List.append_cons,List.append_assoc (A7 4 y++[45]),<-List.append_assoc,<-List.append_assoc]at this
 exact this
theorem PT {f:B8} (h:f≠ []):f=f.take (f.length-1)++[f.getD (f.length-1) 0]:=by
 have hp:=List.length_pos_iff.2 h
 have:=EB f (f.length-1) 0 (by omega)
 rw[show f.length-1+1=f.length by omega,List.take_length]at this
 exact this
theorem SP {n:Nat} (hn:n<=86399999999999) {st:St} {K:B8->St->Prop} (hk:∀st',Al st st'->K (LT n) st'):CallT PR Bo [.int .i64 (n:Int)] [.one .str] st K:=by
 refine K0 _ st K ?_
 have e1:i64.wrap ((n:Int).tdiv 1000000000)=((n/1000000000:Nat):Int):=by rw[Int.tdiv_eq_ediv_of_nonneg (by omega),Af _ (by omega) (by omega)];omega
 have e2:i64.wrap (((n/1000000000:Nat):Int).tdiv 3600)=((n/1000000000/3600:Nat):Int):=by rw[Int.tdiv_eq_ediv_of_nonneg (by omega),Af _ (by omega) (by omega)];omega
 have e3:(i64.wrap (((n/1000000000:Nat):Int).tdiv 60)).tmod 60=((n/1000000000/60%60:Nat):Int):=by
  rw[Int.tdiv_eq_ediv_of_nonneg (by omega),Af _ (by omega) (by omega),Int.tmod_eq_emod_of_nonneg (by omega)];omega
 have e4:((n/1000000000:Nat):Int).tmod 60=((n/1000000000%60:Nat):Int):=by rw[Int.tmod_eq_emod_of_nonneg (by omega)];omega
 have e5:(n:Int).tmod 1000000000=((n%1000000000:Nat):Int):=by rw[Int.tmod_eq_emod_of_nonneg (by omega)];omega
 rw[e1,e2,e3,e4,e5]
 have l1:=AU 2 (n/1000000000/3600)
 have l2:=AU 2 (n/1000000000/60%60)
 have l3:=AU 2 (n/1000000000%60)
 refine CG (w:=2) (by omega) (by omega) fun st1 x1=>⟨by rw[l1];show 2+1<=_;omega,CG (w:=2) (by omega) (by omega) fun st2 x2=>⟨by rw[List.length_append,l1,l2];show 2+1+2<=_;omega,by rw[List.length_append,List.length_append,l1,l2];show 2+1+2+1<=_;omega,CG (w:=2) (by omega) (by omega) fun st3 x3=>⟨by simp only[List.length_append,l1,l2,l3];show 2+1+2+1+2<=_;omega,?_⟩⟩⟩
 have e0:=(x1.trans x2).trans x3
 have hpre:∀(f:B8),A7 2 (n/1000000000/3600)++58::(A7 2 (n/1000000000/60%60)++58::(A7 2 (n/1000000000%60)++f))=((((A7 2 (n/1000000000/3600)++[58])++A7 2 (n/1000000000/60%60))++[58])++A7 2 (n/1000000000%60))++f:=fun f=>by
  simp only[List.append_assoc,List.cons_append,List.nil_append]
 unfold LT at hk
 rw[hpre]at hk
 generalize hP:((((A7 2 (n/1000000000/3600)++[58])++A7 2 (n/1000000000/60%60))++[58])++A7 2 (n/1000000000%60))=P at hk
 have hPl:P.length=8:=by rw[<-hP];simp only[List.length_append,l1,l2,l3];rfl
 have hP2:((((A7 2 (n/1000000000/3600)++Bp)++A7 2 (n/1000000000/60%60))++Bp)++A7 2 (n/1000000000%60))=P:=hP
 rw[hP2]
 refine Aa (fun g=>?_) fun g=>?_
 ·have:=hk st3 e0
  rw[if_pos (by omega),List.append_nil]at this
  exact this
 ·rw[if_neg (by omega)]at hk
  have hr0:n%1000000000≠0:=by omega
  have hcne:=Xc (n:=n%1000000000) (by omega) hr0
  refine CG (w:=9) (by omega) (by omega) fun st4 x4=>⟨fun f s st'=>P=s/\st4=st'/\HD f=HD (A7 9 (n%1000000000))/\f.length<=9,fun f _ _=>f.length,⟨rfl,rfl,rfl,by rw[AU];omega⟩,?_⟩
  rintro f _ _ ⟨rfl,rfl,hf,hfl⟩
  have hfne:f≠ []:=fun e=>by
   rw[e]at hf
   exact hcne (hf.symm.trans rfl)
  have hp:=List.length_pos_iff.2 hfne
  rw[Af _ (by omega) (by omega),show Int.toNat ((f.length:Int)-1)=f.length-1 by omega]
  have hsp:=PT hfne
  have hsn:=NO (f.take (f.length-1)) (f.getD (f.length-1) 0)
  rw[<-hsp]at hsn
  refine⟨⟨by omega,by omega⟩,Aa (fun g2=>⟨⟨by omega,by omega⟩,⟨rfl,rfl,?_,by rw[List.length_take];omega⟩,by dsimp only;rw[List.length_take];omega⟩) fun g2=>⟨by rw[hPl];show 8+1<=_;omega,by rw[List.length_append,hPl];show 8+1+_<=_;omega,?_⟩⟩
  ·rw[if_pos (UInt8.toNat_inj.1 (by show _=48;omega))]at hsn
   rw[<-hsn];exact hf
  ·rw[if_neg (fun e=>g2 (by rw[e];rfl))]at hsn
   have:=hk st4 (e0.trans x4)
   rw[<-hf,hsn,List.append_cons]at this
   exact this
theorem XI {n:Nat} (hn:n<=86399999999999) {st:St} {K:B8->St->Prop} (hk:K (LT n) st):CallT PR A9 [.int .i64 (n:Int)] [.one .str] st K:=by
 refine Jq _ st K ?_
 have e1:i64.wrap ((n:Int).tdiv 1000000000)=((n/1000000000:Nat):Int):=by rw[Int.tdiv_eq_ediv_of_nonneg (by omega),Af _ (by omega) (by omega)];omega
 have e2:i64.wrap (((n/1000000000:Nat):Int).tdiv 3600)=((n/1000000000/3600:Nat):Int):=by rw[Int.tdiv_eq_ediv_of_nonneg (by omega),Af _ (by omega) (by omega)];omega
 have e3:(i64.wrap (((n/1000000000:Nat):Int).tdiv 60)).tmod 60=((n/1000000000/60%60:Nat):Int):=by
  rw[Int.tdiv_eq_ediv_of_nonneg (by omega),Af _ (by omega) (by omega),Int.tmod_eq_emod_of_nonneg (by omega)];omega
 have e4:((n/1000000000:Nat):Int).tmod 60=((n/1000000000%60:Nat):Int):=by rw[Int.tmod_eq_emod_of_nonneg (by omega)];omega
 have e5:(n:Int).tmod 1000000000=((n%1000000000:Nat):Int):=by rw[Int.tmod_eq_emod_of_nonneg (by omega)];omega
 rw[e1,e2,e3,e4,e5]
 have l1:=AU 2 (n/1000000000/3600)
 have l2:=AU 2 (n/1000000000/60%60)
 have l3:=AU 2 (n/1000000000%60)
 refine Gv (w:=2) (by omega) (by omega) ⟨by rw[l1];show 2+1<=_;omega,Gv (w:=2) (by omega) (by omega) ⟨by rw[List.length_append,l1,l2];show 2+1+2<=_;omega,by rw[List.length_append,List.length_append,l1,l2];show 2+1+2+1<=_;omega,Gv (w:=2) (by omega) (by omega) ⟨by simp only[List.length_append,l1,l2,l3];show 2+1+2+1+2<=_;omega,?_⟩⟩⟩
 have hpre:∀(f:B8),A7 2 (n/1000000000/3600)++58::(A7 2 (n/1000000000/60%60)++58::(A7 2 (n/1000000000%60)++f))=((((A7 2 (n/1000000000/3600)++[58])++A7 2 (n/1000000000/60%60))++[58])++A7 2 (n/1000000000%60))++f:=fun f=>by
  simp only[List.append_assoc,List.cons_append,List.nil_append]
 unfold LT at hk
 rw[hpre]at hk
 generalize hP:((((A7 2 (n/1000000000/3600)++[58])++A7 2 (n/1000000000/60%60))++[58])++A7 2 (n/1000000000%60))=P at hk
 have hPl:P.length=8:=by rw[<-hP];simp only[List.length_append,l1,l2,l3];rfl
 have hP2:((((A7 2 (n/1000000000/3600)++Bp)++A7 2 (n/1000000000/60%60))++Bp)++A7 2 (n/1000000000%60))=P:=hP
 rw[hP2]
 have hcz:HD (A7 9 (n%1000000000))=[]↔n%1000000000=0:=⟨fun h=>by
  apply Decidable.byContradiction
  intro h2;exact Xc (by omega) h2 h,fun h=>by rw[h];decide⟩
 have fin:∀f,f=HD (A7 9 (n%1000000000))->(f=[]->K P st)/\(f≠ []->K ((P++Da)++f) st):=fun f hf=>by
  subst hf
  constructor
  ·intro h
   rw[if_pos (hcz.1 h),List.append_nil]at hk;exact hk
  ·intro h
   rw[if_neg (fun e=>h (hcz.2 e)),List.append_cons]at hk;exact hk
 refine Gv (w:=9) (by omega) (by omega) ⟨fun f s st'=>P=s/\st=st'/\HD f=HD (A7 9 (n%1000000000))/\f.length<=9,fun f _ _=>f.length,⟨rfl,rfl,rfl,by rw[AU];omega⟩,?_⟩
 rintro f _ _ ⟨rfl,rfl,hf,hfl⟩
 refine Aa (fun g=>?_) fun g=>?_
 ·have hfne:f≠ []:=fun e=>by rw[e]at g;simp at g
  have hp:=List.length_pos_iff.2 hfne
  rw[Af _ (by omega) (by omega),show Int.toNat ((f.length:Int)-1)=f.length-1 by omega]
  have hsp:=PT hfne
  have hsn:=NO (f.take (f.length-1)) (f.getD (f.length-1) 0)
  rw[<-hsp]at hsn
  refine⟨⟨by omega,by omega⟩,Aa (fun g2=>⟨⟨by omega,by omega⟩,⟨rfl,rfl,?_,by rw[List.length_take];omega⟩,by dsimp only;rw[List.length_take];omega⟩) fun g2=>Aa (fun g3=>absurd g3 hfne) fun g3=>⟨by rw[hPl];show 8+1<=_;omega,by rw[List.length_append,hPl];show 8+1+_<=_;omega,?_⟩⟩
  ·rw[if_pos (UInt8.toNat_inj.1 (by show _=48;omega))]at hsn
   rw[<-hsn];exact hf
  ·rw[if_neg (fun e=>g2 (by rw[e];rfl))]at hsn
   exact(fin f (hsn.symm.trans hf)).2 g3
 ·have hf0:f=[]:=List.eq_nil_of_length_eq_zero (by omega)
  refine Aa (fun g3=>?_) fun g3=>absurd hf0 g3
  exact(fin f (by rw[hf0]at hf⊢;exact hf)).1 hf0
theorem QK {z:Int} (h1: -1439<=z) (h2:z<=1439) {st:St} {K:B8->St->Prop} (hk:∀st',Al st st'->K (PF z) st'):CallT PR DH [.int .i64 z] [.one .str] st K:=by
 unfold PF at hk
 refine JO _ st K (Aa (fun g=>?_) fun g=>?_)
 ·have:=hk st (Al.refl _)
  rw[if_pos g]at this;exact this
 ·rw[if_neg g]at hk
  have l1:=AU 2 (z.natAbs/60)
  have l2:=AU 2 (z.natAbs%60)
  refine Aa (fun g2=>?_) fun g2=>?_
  ·rw[if_pos g2]at hk
   have e1:i64.wrap ((i64.wrap (0-z)).tdiv 60)=((z.natAbs/60:Nat):Int):=by rw[Af (0-z) (by omega) (by omega),Int.tdiv_eq_ediv_of_nonneg (by omega),Af _ (by omega) (by omega)];omega
   have e2:(i64.wrap (0-z)).tmod 60=((z.natAbs%60:Nat):Int):=by rw[Af (0-z) (by omega) (by omega),Int.tmod_eq_emod_of_nonneg (by omega)];omega
   rw[e1,e2]
   refine CG (w:=2) (by omega) (by omega) fun st1 x1=>⟨by rw[l1];show 1+2<=_;omega,by rw[List.length_append,l1];show 1+2+1<=_;omega,CG (w:=2) (by omega) (by omega) fun st2 x2=>⟨by simp only[List.length_append,l1,l2];show 1+2+1+2<=_;omega,?_⟩⟩
   have:=hk st2 (x1.trans x2)
   rw[<-List.cons_append,List.append_cons]at this
   exact this
  ·rw[if_neg g2]at hk
   have e1:i64.wrap (z.tdiv 60)=((z.natAbs/60:Nat):Int):=by rw[Int.tdiv_eq_ediv_of_nonneg (by omega),Af _ (by omega) (by omega)];omega
   have e2:z.tmod 60=((z.natAbs%60:Nat):Int):=by rw[Int.tmod_eq_emod_of_nonneg (by omega)];omega
   rw[e1,e2]
   refine CG (w:=2) (by omega) (by omega) fun st1 x1=>⟨by rw[l1];show 1+2<=_;omega,by rw[List.length_append,l1];show 1+2+1<=_;omega,CG (w:=2) (by omega) (by omega) fun st2 x2=>⟨by simp only[List.length_append,l1,l2];show 1+2+1+2<=_;omega,?_⟩⟩
   have:=hk st2 (x1.trans x2)
   rw[<-List.cons_append,List.append_cons]at this
   exact this
theorem Vk {z:Int} (h1: -1439<=z) (h2:z<=1439) {st:St} {K:B8->St->Prop} (hk:K (PF z) st):CallT PR CS [.int .i64 z] [.one .str] st K:=by
 unfold PF at hk
 refine Ig _ st K (Aa (fun g=>?_) fun g=>?_)
 ·rw[if_pos g]at hk;exact hk
 ·rw[if_neg g]at hk
  have l1:=AU 2 (z.natAbs/60)
  have l2:=AU 2 (z.natAbs%60)
  refine Aa (fun g2=>?_) fun g2=>?_
  ·rw[if_pos g2]at hk
   have e1:i64.wrap ((i64.wrap (0-z)).tdiv 60)=((z.natAbs/60:Nat):Int):=by rw[Af (0-z) (by omega) (by omega),Int.tdiv_eq_ediv_of_nonneg (by omega),Af _ (by omega) (by omega)];omega
   have e2:(i64.wrap (0-z)).tmod 60=((z.natAbs%60:Nat):Int):=by rw[Af (0-z) (by omega) (by omega),Int.tmod_eq_emod_of_nonneg (by omega)];omega
   rw[e1,e2]
   refine Gv (w:=2) (by omega) (by omega) ⟨by rw[l1];show 1+2<=_;omega,by rw[List.length_append,l1];show 1+2+1<=_;omega,Gv (w:=2) (by omega) (by omega) ⟨by simp only[List.length_append,l1,l2];show 1+2+1+2<=_;omega,?_⟩⟩
   rw[<-List.cons_append,List.append_cons]at hk
   exact hk
  ·rw[if_neg g2]at hk
   have e1:i64.wrap (z.tdiv 60)=((z.natAbs/60:Nat):Int):=by rw[Int.tdiv_eq_ediv_of_nonneg (by omega),Af _ (by omega) (by omega)];omega
   have e2:z.tmod 60=((z.natAbs%60:Nat):Int):=by rw[Int.tmod_eq_emod_of_nonneg (by omega)];omega
   rw[e1,e2]
   refine Gv (w:=2) (by omega) (by omega) ⟨by rw[l1];show 1+2<=_;omega,by rw[List.length_append,l1];show 1+2+1<=_;omega,Gv (w:=2) (by omega) (by omega) ⟨by simp only[List.length_append,l1,l2];show 1+2+1+2<=_;omega,?_⟩⟩
   rw[<-List.cons_append,List.append_cons]at hk
   exact hk
def b64A:B8:=[65,66,67,68,69,70,71,72,73,74,75,76,77,78,79,80,81,82,83,84,85,86,87,88,89,90,97,98,99,100,101,102,103,104,105,106,107,108,109,110,111,112,113,114,115,116,117,118,119,120,121,122,48,49,50,51,52,53,54,55,56,57,43,47]
def fnd:B8->UInt8->Int
 | [],_=> -1
 | a::al,c=>if a=c then 0 else if fnd al c<0 then-1 else fnd al c+1
def Wp (l:B8) (i:Nat):Nat:=(l.getD (i/8) 0).toNat/2^(7-i%8)%2
def bdg (l:B8) (i:Nat):Nat->Nat
 | 0=>0
 | m+1=>bdg l i m*2+Wp l (i+m)
theorem dg6 (l:B8) (i:Nat):bdg l i 6=((((Wp l i*2+Wp l (i+1))*2+Wp l (i+2))*2+Wp l (i+3))*2+Wp l (i+4))*2+Wp l (i+5):=by
 simp[bdg]
theorem Uf {b:Nat} {st:St} {K:TV->St->Prop} (hk:K (.box b 0) st):CallT PR FR [.box b 0] [.one (.tv)] st K:=by
 refine Me fun g w vargs s hr=>?_
 obtain⟨v,rfl,hv⟩:=TN hr
 refine⟨v,w,?_,.box b 0,st,g,hk,s,hv,Ext.refl _ _⟩
 show(callFunc 300 #[v]).run Tryz.prog w=_
 rw[run_callFunc_extern Tryz.func300 (by kernel_rfl) (by kernel_rfl) (by kernel_rfl) (e:=Extern.AbiNoEscape.same) (by kernel_rfl)]
 rfl
def Bld (st0:St) (b:Nat) (st:St) (buf:B8):Prop:=
 Al st0 st/\st0.nb<=b/\b<st.nb/\st.bt b=some tyBld/\∃p v,st.box b= .cells [p,v]/\(p= .nilPtr∨p= .box b 0)/\
  ((v= .nilSlice/\buf=[])∨∃id,v= .list 1 (.own id) buf.length (AA buf)/\buf≠ []/\st0.nt<=id/\id<st.nt/\st.live id=true/\st.ty id=some 5)
theorem Bld.new {st0 st:St} (e:Al st0 st):Bld st0 st.nb (st.push (.cells [.nilPtr,.nilSlice]) (some tyBld)) []:=
 ⟨e.push _ _,e.nb,by simp[St.push],by simp[St.push],.nilPtr,.nilSlice,GO _ _ _,.inl rfl,.inl ⟨rfl,rfl⟩⟩
theorem Bld.ext {st0 st:St} {b:Nat} {buf:B8} (h:Bld st0 b st buf):Al st0 st:=h.1
theorem Bld.keep {st0 st st':St} {b:Nat} {buf:B8} (h:Bld st0 b st buf) (e:Al st st'):Bld st0 b st' buf:=by
 obtain⟨h0,h1,h2,h3,p,v,hb,hp,hv⟩:=h
 refine⟨h0.trans e,h1,Nat.lt_of_lt_of_le h2 e.nb,(e.bt b h2).trans h3,p,v,(e.box b h2).trans hb,hp,?_⟩
 rcases hv with hv | ⟨id,rfl,n1,n2,n3,n4,n5⟩
 ·exact .inl hv
 ·exact .inr ⟨id,rfl,n1,n2,Nat.lt_of_lt_of_le n3 e.nt,(e.live id n3).trans n4,(e.ty id n3).trans n5⟩
theorem MI {st0 st:St} {b:Nat} {buf:B8} {K:St->Prop} (h:Bld st0 b st buf) (hk:∀st',Bld st0 b st' buf->StX (·=b) st st'->K st'):CallT PR AX [.box b 0] [] st K:=by
 have h0:=h
 obtain⟨e,h1,h2,h3,p,v,hb,hp,hv⟩:=h
 refine C0 b st K (Ac (x:=p) (by simp[Ad,hb]) (Ab (by rcases hp with rfl | rfl<;>rfl) ?_))
 rcases hp with rfl | rfl
 ·refine(show BIf true _ _ from⟨by simp[Ad,hb],Uf ?_⟩)
  refine⟨⟨rfl,h3,_,hb,rfl⟩,Ab rfl ⟨_,hb,by simp,hk _ ?_ (StX.put (S:=(·=b)) rfl _)⟩⟩
  exact⟨e.put h1 _,h1,h2,h3,.box b 0,v,Cy _ _ _,.inr rfl,hv⟩
 ·exact(show BIf false _ _ from Ac (x:= .box b 0) (by simp[Ad,hb]) ⟨rfl,hk st h0 (StX.refl _ _)⟩)
theorem NT {st0 st:St} {b:Nat} {buf s:B8} {xs:List TV} {n:Nat} (hn:n=s.length) (hxs:xs=AA s) (h:Bld st0 b st buf) (hl:buf.length+s.length<=140737488355328) {K:St->Prop} (hk:∀st',Bld st0 b st' (buf++s)->(∀i,i≠b->i<st.nb->st'.box i=st.box i)->st.nb<=st'.nb->K st'):
  ∃v1,Ad st [] (.t (.box b 1)) 0=some v1/\Bs 5 1 1 v1 n xs st fun (v2:TV) (st2:St)=>need (List.all [v2] As) (stB st2 (.box b 1) [v2] fun st3=>K st3):=by
 subst hn hxs
 obtain⟨e,a1,a2,a3,p,v,hb,hp,hv⟩:=h
 refine⟨v,by simp[Ad,hb],?_⟩
 rcases hv with⟨rfl,rfl⟩ | ⟨id,rfl,n1,n2,n3,n4,n5⟩
 ·cases s with
  | nil=>
   simp only[Bs,List.length_nil,AA,List.map_nil]
   exact Ab rfl ⟨_,hb,by simp,hk _ ⟨e.put a1 _,a1,a2,a3,p,.nilSlice,Cy _ _ _,hp,.inl ⟨rfl,rfl⟩⟩ (fun i hi _=>by simp only[St.put];rw[if_neg hi]) (Nat.le_refl _)⟩
  | cons c r=>
   simp only[Bs,List.length_cons,Nat.mul_one]
   refine Ab (by simp only[List.length_nil,List.length_cons]at hl;simp;omega) (Ab rfl ⟨_,hb,by simp,hk _ ?_ (fun i hi _=>by simp only[St.put];rw[if_neg hi];rfl) (by simp[St.put,St.fresh])⟩)
   exact⟨(e.fresh _).put a1 _,a1,a2,a3,p,_,Cy _ _ _,hp,.inr ⟨st.nt,rfl,by simp,e.nt,by simp[St.put,St.fresh],by simp[St.put,St.fresh],by simp[St.put,St.fresh]⟩⟩
 ·simp only[Bs,Nat.beq_refl,Nat.mul_one]
  refine⟨hl,n4,Ab rfl ⟨_,hb,by simp,hk _ ?_ (fun i hi _=>by simp only[St.put];rw[if_neg hi];rfl) (by simp[St.put,St.fresh,St.retire])⟩⟩
  refine⟨((e.retire n2).fresh _).put a1 _,a1,a2,a3,p,_,Cy _ _ _,hp,.inr ⟨st.nt,?_,by simp[n1],e.nt,by simp[St.put,St.fresh,St.retire],by simp[St.put,St.fresh,St.retire],by simp[St.put,St.fresh,St.retire,n5,J4]⟩⟩
  rw[List.length_append,<-Fu]
def But (b:Nat) (a c:St):Prop:=a.nb<=c.nb/\∀i,i≠b->i<a.nb->c.box i=a.box i
theorem But.trans {b:Nat} {x y z:St} (h:But b x y) (k:But b y z):But b x z:=⟨Nat.le_trans h.1 k.1,fun i hi hl=>(k.2 i hi (Nat.lt_of_lt_of_le hl h.1)).trans (h.2 i hi hl)⟩
theorem But.of {b:Nat} {x y:St} (e:Al x y):But b x y:=⟨e.nb,fun i _ hl=>e.box i hl⟩
theorem But.ofX {b:Nat} {x y:St} (e:StX (·=b) x y):But b x y:=⟨e.nb,fun i hi hl=>e.box i hl hi⟩
theorem Gk {st0 st:St} {b:Nat} {buf s:B8} {K:Int->TV->St->Prop} (h:Bld st0 b st buf) (hl:buf.length+s.length<=1000000000) (hk:∀st',Bld st0 b st' (buf++s)->But b st st'->K (s.length:Int) .nilIface st'):
  CallT PR Av [.box b 0,.str s] [.one (.int .i64),.one (.tv)] st K:=by
 refine CA b s st K (MI h fun st1 h1 e1=>?_)
 obtain⟨v1,hv1,hA⟩:=NT (n:=s.length) (xs:=AA s) rfl rfl h1 (by omega) (K:=fun st3=>K (s.length:Int) .nilIface st3) fun st' hb hx hn=>hk st' hb ((But.ofX e1).trans ⟨hn,hx⟩)
 exact Ac hv1 (Ac (WK st1 s) (Ab (Yj s) hA))
theorem L0 {st0 st:St} {b:Nat} {buf:B8} {c:Int} (x:UInt8) {K:TV->St->Prop} (hc:c=x.toNat) (h:Bld st0 b st buf) (hl:buf.length+1<=1000000000) (hk:∀st',Bld st0 b st' (buf++[x])->But b st st'->K .nilIface st'):
  CallT PR AG [.box b 0,.int .u8 c] [.one (.tv)] st K:=by
 refine C9 b c st K (MI h fun st1 h1 e1=>?_)
 obtain⟨v1,hv1,hA⟩:=NT (n:=1) (xs:=[.int .u8 c]) (s:=[x]) rfl (by rw[hc];rfl) h1 (by rw[List.length_singleton];omega) (K:=fun st3=>K .nilIface st3) fun st' hb hx hn=>hk st' hb ((But.ofX e1).trans ⟨hn,hx⟩)
 exact Ac hv1 hA
theorem NS {st0 st:St} {b:Nat} {buf:B8} {K:B8->St->Prop} (h:Bld st0 b st buf) (hl:buf.length<=140737488355328) (hk:∀st',Al st0 st'->K buf st'):
  CallT PR AV [.box b 0] [.one (.str)] st K:=by
 obtain⟨e,h1,h2,h3,p,v,hb,hp,hv⟩:=h
 have hld:Ad st [] (.t (.box b 1)) 0=some v:=by simp[Ad,hb]
 rcases hv with⟨rfl,rfl⟩ | ⟨id,rfl,n1,n2,n3,n4,n5⟩
 ·refine Bt b st K (Ac hld (Ac (x:= .nilPtr) rfl (Ac hld (Ab rfl ?_))))
  exact⟨rfl,hk st e⟩
 ·refine Bt b st K (Ac hld (Ac (x:= .sptr (.list 1 (.own id) buf.length (AA buf))) ?_ (Ac hld (Ab rfl ?_))))
  case refine_2=>exact⟨⟨rfl,by omega,n4,n5⟩,Ac (BH buf) (hk _ (e.retire n2))⟩
  simp only[Nj]
  cases hz:buf.length.beq 0 with
  | true=>exact absurd (List.eq_nil_of_length_eq_zero (Nat.eq_of_beq_eq_true hz)) n1
  | false=>rfl
theorem J6 (k td tn tz:Int):(M7 k td tn tz).length<=40:=by
 have h1:∀n,(LS n).length=10:=fun n=>by unfold LS;simp only[List.length_append,List.length_cons,AU]
 have h2:∀n,(LT n).length<=18:=fun n=>by
  unfold LT
  have:(if n%1000000000=0 then([]:B8)else 46::HD (A7 9 (n%1000000000))).length<=10:=by
   split
   ·simp
   ·have:=Z1 (A7 9 (n%1000000000))
    rw[AU]at this
    rw[List.length_cons];omega
  simp only[List.length_append,List.length_cons,AU];omega
 have h3:∀z,(PF z).length<=6:=fun z=>by
  unfold PF;split
  ·decide
  ·simp only[List.length_append,List.length_cons,AU];omega
 unfold M7
 have e1:=h1 td.toNat
 have e2:=h2 tn.toNat
 have e3:=h3 tz
 split
 ·omega
 split
 ·omega
 split
 ·rw[List.length_append,List.length_cons];omega
 ·rw[List.length_append,List.length_cons,List.length_append];omega
theorem Zi {k d n z:Int} (h:CX k d n z) {st:St} {K:B8->St->Prop} (hk:∀st',Al st st'->K (M7 k d n z) st'):CallT PR EN [.agg [.int .i64 k,.int .i64 d,.int .i64 n,.int .i64 z]] [.one .str] st K:=by
 have h0:=h
 obtain⟨a1,a2,a3,a4,a5,a6,a7,a8,a9,a10,a11⟩:=h
 have ed:d=((d.toNat:Nat):Int):=by omega
 have en:n=((n.toNat:Nat):Int):=by omega
 have l1:∀m,(LS m).length=10:=fun n=>by unfold LS;simp only[List.length_append,List.length_cons,AU]
 unfold M7 at hk
 have hdt:∀{st:St} {K:B8->St->Prop},(∀st',Al st st'->K (LS d.toNat) st')->CallT PR Bz [.int .i64 d] [.one .str] st K:=fun {st K} hk=>by
  rw[ed];exact UH (by omega) hk
 have hct:∀{st:St} {K:B8->St->Prop},(∀st',Al st st'->K (LT n.toNat) st')->CallT PR Bo [.int .i64 n] [.one .str] st K:=fun {st K} hk=>by
  rw[en];exact SP (by omega) hk
 have l2:(LT n.toNat).length<=40:=by have:=J6 2 d n z;unfold M7 at this;rw[if_neg (by omega),if_pos rfl]at this;exact this
 have l3:(PF z).length<=40:=by have:=J6 4 d n z;unfold M7 at this;rw[if_neg (by omega),if_neg (by omega),if_neg (by omega),List.length_append,List.length_cons,List.length_append]at this;omega
 have l1':=l1 d.toNat
 refine OX _ _ _ _ st K (Mc ?_)
 rw[decide_eq_true h0]
 refine Aa (p:=False) (fun h=>h.elim) fun _=>Aa (fun g=>?_) fun g1=>Aa (fun g=>?_) fun g2=>Aa (fun g=>?_) fun g3=>?_
 ·rw[if_pos g]at hk;exact hdt hk
 ·rw[if_neg g1,if_pos g]at hk;exact hct hk
 ·rw[if_neg g1,if_neg g2,if_pos g]at hk
  refine hdt fun st1 e1=>⟨by rw[l1'];show 10+1<=_;omega,hct fun st2 e2=>⟨by rw[List.length_append,l1'];show 10+1+_<=_;omega,?_⟩⟩
  have:=hk st2 (e1.trans e2)
  rw[List.append_cons]at this
  exact this
 ·rw[if_neg g1,if_neg g2,if_neg g3]at hk
  refine hdt fun st1 e1=>⟨by rw[l1'];show 10+1<=_;omega,hct fun st2 e2=>⟨by rw[List.length_append,l1'];show 10+1+_<=_;omega,QK a7 a8 fun st3 e3=>⟨by rw[List.length_append,List.length_append,l1'];show 10+1+_+_<=_;omega,?_⟩⟩⟩
  have:=hk st3 ((e1.trans e2).trans e3)
  rw[List.append_cons,<-List.append_assoc]at this
  exact this
theorem XC {k d n z:Int} (h:CX k d n z) {st:St} {K:B8->St->Prop} (hk:∀st',Al st st'->K (M7 k d n z) st'):CallT PR Ct [.agg [.int .i64 k,.int .i64 d,.int .i64 n,.int .i64 z]] [.one .str] st K:=by
 have h0:=h
 obtain⟨a1,a2,a3,a4,a5,a6,a7,a8,a9,a10,a11⟩:=h
 have ed:d=((d.toNat:Nat):Int):=by omega
 have en:n=((n.toNat:Nat):Int):=by omega
 have hct:∀{st:St} {K:B8->St->Prop},(K (LT n.toNat) st)->CallT PR A9 [.int .i64 n] [.one .str] st K:=fun {st K} hk=>by
  rw[en];exact XI (by omega) hk
 have l2:(LT n.toNat).length<=40:=by have:=J6 2 d n z;unfold M7 at this;rw[if_neg (by omega),if_pos rfl]at this;exact this
 have l3:(PF z).length<=40:=by have:=J6 4 d n z;unfold M7 at this;rw[if_neg (by omega),if_neg (by omega),if_neg (by omega),List.length_append,List.length_cons,List.length_append]at this;omega
 have hk:=hk st (Al.refl st)
 unfold M7 at hk
 refine J1 _ _ _ _ st K (TU ?_)
 rw[decide_eq_true h0]
 refine Aa (p:=False) (fun h=>h.elim) fun _=>?_
 rw[ed]
 refine Y0 (by omega) fun y m dd hd=>?_
 have he:=Xa hd
 obtain⟨b1,b2,b3,b4,b5,b6,b7⟩:=hd
 have hm:=Fn y m
 have l4:=AU 4 y
 have l5:=AU 2 m
 have l6:=AU 2 dd
 refine Gv (w:=4) (by omega) (by omega) ⟨by rw[l4];show 4+1<=_;omega,Gv (w:=2) (by omega) (by omega) ⟨by rw[List.length_append,l4,l5];show 4+1+2<=_;omega,by rw[List.length_append,List.length_append,l4,l5];show 4+1+2+1<=_;omega,Gv (w:=2) (by omega) (by omega) ⟨by simp only[List.length_append,l4,l5,l6];show 4+1+2+1+2<=_;omega,?_⟩⟩⟩
 rw[List.append_cons,List.append_cons,List.append_assoc (A7 4 y++[45]),<-List.append_assoc,<-List.append_assoc]at he
 have he2:((((A7 4 y++A3)++A7 2 m)++A3)++A7 2 dd)=LS d.toNat:=he.symm
 have l1':(LS d.toNat).length=10:=by unfold LS;simp only[List.length_append,List.length_cons,AU]
 rw[he2]
 refine Aa (fun g=>?_) fun g1=>Aa (fun g=>?_) fun g2=>Aa (fun g=>?_) fun g3=>?_
 ·rw[if_pos g]at hk;exact hk
 ·rw[if_neg g1,if_pos g]at hk;exact hct hk
 ·rw[if_neg g1,if_neg g2,if_pos g]at hk
  refine⟨by rw[l1'];show 10+1<=_;omega,hct ⟨by rw[List.length_append,l1'];show 10+1+_<=_;omega,?_⟩⟩
  rw[List.append_cons]at hk
  exact hk
 ·rw[if_neg g1,if_neg g2,if_neg g3]at hk
  refine⟨by rw[l1'];show 10+1<=_;omega,hct ⟨by rw[List.length_append,l1'];show 10+1+_<=_;omega,Vk a7 a8 ⟨by rw[List.length_append,List.length_append,l1'];show 10+1+_+_<=_;omega,?_⟩⟩⟩
  rw[List.append_cons,<-List.append_assoc]at hk
  exact hk
theorem szl' (s:Sc):(Vl.mk s [] []).sz=1+s.bytes.length+s.text.length+s.dg.length:=by rw[szs];rfl
def tkT (s:B8):Sc:=⟨4,false,false,[],0,0,0,0,0,s,[]⟩
def tkB (b:Bool):Sc:=⟨1,b,false,[],0,0,0,0,0,[],[]⟩
def tkN (neg:Bool) (dg:B8) (ex:Int):Sc:=⟨2,false,neg,dg,ex,0,0,0,0,[],[]⟩
def tkM (k d n z:Int):Sc:=⟨3,false,false,[],0,k,d,n,z,[],[]⟩
theorem QX:Bi []=0:=Eu _ (by simp[ul])
theorem Xe (l:B8) (m j:Nat):bt (l.take m) j=if j<m then bt l j else 0:=by
 unfold bt
 by_cases h:j<m
 ·rw[if_pos h];simp[List.getD,List.getElem?_take,h]
 ·rw[if_neg h];simp[List.getD,List.getElem?_take,h]
theorem Rf (l:B8) (m r0:Nat):∀j,j<m->CB (l.take m) r0 j=CB l r0 j
 | 0,_=>rfl
 | j+1,h=>by
  simp only[CB]
  rw[Rf l m r0 j (by omega),Xe,if_pos h]
theorem U7 {l:B8} {m:Nat} (h:ul (l.take m)≠0):ul l=ul (l.take m):=by
 have hne2:l.take m≠ []:=fun h0=>h (by simp[ul,h0])
 have hne:l≠ []:=by rintro rfl;simp at hne2
 have hm:0<m:=by rcases Nat.eq_zero_or_pos m with h0 | h0;(rw[h0]at hne2;simp at hne2);exact h0
 have e1:=KN l hne
 have e2:=KN (l.take m) hne2
 rw[if_neg h]at e2
 have hs:=Vj (bt l 0)
 have hb:bt (l.take m) 0=bt l 0:=by rw[Xe,if_pos hm]
 unfold TP at e2
 simp only[hb]at e2
 split at e2
 ·simp only[Prod.mk.injEq]at e2;omega
 rename_i g1
 rw[List.length_take]at g1
 split at e2
 ·rename_i hc
  simp only[Prod.mk.injEq]at e2
  rw[Rf _ _ _ _ (by omega),List.take_take,Nat.min_eq_left (by omega)]at hc
  unfold TP at e1
  simp only at e1
  rw[if_neg (by omega),if_pos hc]at e1
  split at e1
  ·simp only[Prod.mk.injEq]at e1;omega
  ·simp only[Prod.mk.injEq]at e1;omega
 ·simp only[Prod.mk.injEq]at e2;omega
theorem Yy:∀(n:Nat) (a b:B8),a.length<=n->Bi a=a.length->Bi (a++b)=a.length+Bi b:=by
 intro n
 induction n with
 | zero=>intro a b h hv;have:a=[]:=List.eq_nil_of_length_eq_zero (by omega);subst this;simp
 | succ n ih=>
  intro a b h hv
  by_cases ha:a=[]
  ·subst ha;simp
  have hpos:0<a.length:=List.length_pos_iff.2 ha
  have h0:ul a≠0:=fun h0=>by rw[Eu a h0]at hv;omega
  have hle:=Q2 a
  have hu:ul (a++b)=ul a:=by
   have:=U7 (l:=a++b) (m:=a.length) (by rw[List.take_left];exact h0)
   rw[List.take_left]at this;exact this
  rw[E6 _ h0]at hv
  rw[E6 _ (by rw[hu];exact h0),hu,List.drop_append_of_le_length hle,ih _ b (by rw[List.length_drop];omega) (by rw[List.length_drop];omega),List.length_drop]
  omega
theorem JL {a b:B8} (ha:Bi a=a.length) (hb:Bi b=b.length):Bi (a++b)=(a++b).length:=by
 rw[Yy _ a b (Nat.le_refl _) ha,List.length_append,hb]
theorem QY {c:UInt8} {l:B8} (hc:c.toNat<128) (hl:Bi l=l.length):Bi (c::l)=(c::l).length:=by
 have h:=Yz (c::l) (by simp) hc
 rw[E6 _ (by omega),h.1]
 simp only[List.drop_succ_cons,List.drop_zero,List.length_cons];omega
theorem E7:∀l:B8,(l.all fun c=>decide (c.toNat<128))=true->Bi l=l.length
 | [],_=>QX
 | c::l,h=>by
  simp only[List.all_cons,Bool.and_eq_true,decide_eq_true_eq]at h
  exact QY h.1 (E7 l h.2)
theorem dcT_len {neg:Bool} {dg:B8} {ex:Int} (h:D2 neg dg ex):(dcT neg dg ex).length<=dg.length+40:=by
 by_cases hne:dg=[]
 ·unfold dcT;rw[if_pos hne];simp
 ·obtain⟨h1,h2,h3,h4,h5,h6⟩:=h.2 hne
  have hpos:=List.length_pos_iff.2 hne
  have hs:=Po neg
  unfold dcT
  rw[if_neg hne,List.length_append,show(if neg=true then [45]else [])=Iv neg from rfl]
  split
  ·rw[List.length_append,List.length_replicate];omega
  split
  ·rw[List.length_append,List.length_cons,List.length_take,List.length_drop];omega
  split
  ·rw[List.length_cons,List.length_cons,List.length_append,List.length_replicate];omega
  ·rw[List.length_append,List.length_append,List.length_take]
   have e1:(if 1<dg.length then 46::dg.drop 1 else []).length<=dg.length:=by
    split
    ·rw[List.length_cons,List.length_drop];omega
    ·simp
   have e2:(X7 (dg.length+ex)).length<=20:=by
    rw[SF]
    split
    ·have:=KI (n:=(1-((dg.length:Int)+ex)).toNat) (by omega)
     rw[List.length_cons,List.length_cons];omega
    ·have:=KI (n:=((dg.length:Int)+ex-1).toNat) (by omega)
     rw[List.length_cons];omega
   omega
theorem headDg {a b:B8} (ha:∀c,c∈a->AK c) (hne:a≠ []):AK ((a++b).getD 0 0):=by
 obtain⟨c,r,rfl⟩:=List.exists_cons_of_ne_nil hne
 exact ha c (by simp)
theorem not_isQ {a r:B8} {c:UInt8} (ha:∀d,d∈a->AK d) (hc:c=45∨c=58):¬isQ (a++c::r):=by
 rintro⟨_,_,h⟩
 have h0:(c::r).getD 0 0=c:=rfl
 have hn:¬AK c:=by rcases hc with rfl | rfl<;>decide
 rw[Yb ha (by rw[h0];exact hn),List.drop_left]at h
 unfold isF at h
 rw[h0,if_neg (by rcases hc with rfl | rfl<;>decide)]at h
 unfold isE at h
 rw[h0]at h
 rcases h with h | ⟨h | h,_⟩
 ·cases h
 ·rcases hc with rfl | rfl<;>revert h<;>decide
 ·rcases hc with rfl | rfl<;>revert h<;>decide
theorem Dj (st:St):BB St.zero st:=⟨Nat.zero_le _,fun i hi=>absurd hi (Nat.not_lt_zero _)⟩
def v64 (c:UInt8):Nat:=(fnd b64A c).toNat
def fin (k eq w:Nat) (pad:Bool) (o:B8):B8×Int:=
 if k%4=0/\eq=0 then(o,0)
 else if 0<eq/\(k%4<2∨4-k%4<eq∨w≠0)then([],3)
 else if k%4=1∨w≠0∨(pad=true/\eq<4-k%4)then([],4)
 else(o,0)
def isD (c:UInt8):Bool:=decide (0<=fnd b64A c)
def lead (s:B8):Nat:=(s.takeWhile isD).length
def nch (c:UInt8):Prop:=AK c∨c=45∨c=43∨c=46∨c=101
instance (c:UInt8):Decidable (nch c):=inferInstanceAs (Decidable (_∨_))
def tkF (t s:B8) (a:Nat) (b:Bool):Prop:=b=false/\(s.drop a).take t.length=t
instance (t s:B8) (a:Nat) (b:Bool):Decidable (tkF t s a b):=inferInstanceAs (Decidable (_/\_))
end Go.TVF
section
namespace Go.TVF
open Go.IntKind(i64 u8)
open Go Go.Proofs Go.ChangeShapes
section
variable {H:Type} {enc:TypeId×Value->H} {P:Program} {w:World} {base:Nat} {held:Bool}
def Op (enc:TypeId×Value->H) (P:Program) (w:World) (base:Nat) (held:Bool) (n c:Nat) (S:List TV->Prop) (e:TypeId):Prop:=
 P.cellsOf e=c/\∀vs x,DataW.trod enc P w base (fun _=>true) held n e vs=some x->∃tv,AM (Ghost.start w) w tv vs/\tv.length=c/\S tv
end
end Go.TVF
end
section
namespace Go.TVF
open Go.IntKind(i64 u8)
open Go Go.Proofs Go.ChangeShapes
structure Blk {H:Type} (bk:DataW H->Nat):Prop where
 one:∀d,1<=bk d
 str:∀b,b.length+1<=bk (.lit (.string b))
 sl:∀e s,(e.map bk).sum+1<=bk (.slice e s)
 agg:∀p,(p.map bk).sum+1<=bk (.agg p)
section
variable {H:Type} {enc:TypeId×Value->H} {P:Program} {w:World} {base:Nat} {held:Bool} {bk:DataW H->Nat}
def OpQ (bk:DataW H->Nat) (enc:TypeId×Value->H) (P:Program) (w:World) (base:Nat) (held:Bool) (n c:Nat) (S:Nat->List TV->Prop) (e:TypeId):Prop:=
 P.cellsOf e=c/\∀vs x,DataW.trod enc P w base (fun _=>true) held n e vs=some x->∃tv,AM (Ghost.start w) w tv vs/\tv.length=c/\S (bk x.1) tv
def cellQ (c:CTy) (k:Nat) (tv:List TV):Prop:=flatIs [c] tv/\1<=k
def strQ (k:Nat) (tv:List TV):Prop:=∃l:B8,tv=[.str l]/\l.length<=maxLen/\l.length+1<=k
theorem opq_cell {n:Nat} {c:CTy} {e:TypeId} (hb:Blk bk) (h:WA P c e) (hc:P.cellsOf e=1):OpQ bk enc P w base held n 1 (cellQ c) e:=⟨hc,fun vs x hd=>by
 obtain⟨v,u,rfl,hr,hf⟩:=Rl (Ghost.start w) h hd
 exact⟨[v],.cons hr (.nil _ _),rfl,hf,hb.one _⟩⟩
theorem opq_str {n:Nat} {e:TypeId} (hb:Blk bk) (h:P.underlying e=some .string) (hc:P.cellsOf e=1):OpQ bk enc P w base held n 1 strQ e:=⟨hc,fun vs x hd=>by
 obtain⟨s,rfl,rfl,hs⟩:=DataW.trod_string h hd
 exact⟨[_],.cons (Ps (Ghost.start w) w s) (.nil _ _),rfl,_,rfl,by rw[Array.length_toList];exact hs,hb.str _⟩⟩
def SlQ (c:Nat) (S:Nat->List TV->Prop) (k:Nat) (v:TV):Prop:=
 v= .nilSlice∨∃ps:List (List TV×Nat),v= .list c .non ps.length (ps.map (·.1)).flatten/\(∀p,p∈ps->p.1.length=c/\S p.2 p.1)/\(ps.map (·.2)).sum+1<=k
theorem opq_slice {n c:Nat} {S:Nat->List TV->Prop} {t e:TypeId} (hb:Blk bk) (ht:P.underlying t=some (.slice e)) (ht1:P.cellsOf t=1) (hc1:1<=c) (hE:∀m,m<n->OpQ bk enc P w base held m c S e):
  OpQ bk enc P w base held n 1 (fun k tv=>∃v,tv=[v]/\SlQ c S k v) t:=by
 refine⟨ht1,fun vs x h=>?_⟩
 rcases DataW.trod_slice ht h with⟨rfl,_⟩ | ⟨a,len,cap,elems,rest,m,rfl,rfl,rfl,hbk,hl,hm,hel,hi,hsp,_⟩
 ·exact⟨[.nilSlice],.cons .nilSlice (.nil _ _),rfl,_,rfl,.inl rfl⟩
 ·obtain⟨hcE,hE⟩:=hE m (by omega)
  rw[hcE]at hi hsp
  have hbs:=hb.sl (elems.map (·.1)) (rest.map (·.1))
  rw[List.map_map]at hbs
  by_cases hcap:cap=0
  ·subst hcap
   obtain rfl:len=0:=by omega
   exact⟨[.list c .non 0 []],.cons (.listE _ _ _ (fun id h=>by cases h)) (.nil _ _),rfl,_,rfl,.inr ⟨[],rfl,(fun ck h=>by cases h),by simp only[List.map_nil,List.sum_nil];omega⟩⟩
  ·obtain⟨b,o,spot⟩:=a
   have hspot:spot=none:=by
    have key:∀(i:Nat) (l:List (DataW H×List MemPlace)) (k:Nat),k<l.length->i=0->(w.cells? base ((⟨b,o,spot⟩:Addr).add (i*c)) c).bind (DataW.trod enc P w base (fun _=>true) held m e)=l[k]?->spot=none:=by
     intro i l k hk hi0 h
     subst hi0
     rw[List.getElem?_eq_getElem hk]at h
     obtain⟨vs,h1,_⟩:=Option.bind_eq_some_iff.1 h
     obtain⟨_,hvl,hvc⟩:=World.cells?_some h1
     have:=World.cell?_spot ((hvc 0 (by omega)).trans (List.getElem?_eq_getElem (show 0<vs.length by omega)))
     rw[Nat.zero_mul]at this
     exact this
    by_cases h0:0<len
    ·exact key 0 elems 0 (by omega) rfl (hi 0 h0)
    ·obtain⟨hr,hs⟩:=hsp rfl
     exact key _ rest 0 (by omega) (by omega) (hs 0 (by omega))
   subst hspot
   have each:∀i (hil:i<len),∃tv vs,AM (Ghost.start w) w tv vs/\tv.length=c/\S (bk (elems[i]'(by omega)).1) tv/\vs.length=c/\∀j,j<c->w.cell? ⟨b,o+(i*c+j),none⟩=some (vs.getD j Go.undef):=by
    intro i hil
    have h:=hi i hil
    rw[List.getElem?_eq_getElem (by omega)]at h
    obtain⟨vs,h1,h2⟩:=Option.bind_eq_some_iff.1 h
    obtain⟨tv,hr,htl,hf⟩:=hE vs _ h2
    obtain⟨_,hvl,hvc⟩:=World.cells?_some h1
    refine⟨tv,vs,hr,htl,hf,hvl,fun j hj=>?_⟩
    have:=hvc j (by omega)
    rw[Deep.add_add,Wu]at this
    rw[this]
    simp[List.getD,show j<vs.length by omega]
   have build:∀k,k<=len->∃ps:List (List TV×Nat),ps.length=k/\(∀p,p∈ps->p.1.length=c/\S p.2 p.1)/\ps.map (·.2)=(elems.take k).map (fun y=>bk y.1)/\(ps.map (·.1)).flatten.length=k*c/\∀i (h:i<(ps.map (·.1)).flatten.length),∃u,w.cell? ⟨b,o+i,none⟩=some u/\Rel (Ghost.start w) w (ps.map (·.1)).flatten[i] u:=by
    intro k
    induction k with
    | zero=>intro _;exact⟨[],rfl,(fun ck h=>by cases h),by simp,by simp,fun i h=>absurd h (Nat.not_lt_zero _)⟩
    | succ k ih=>
     intro hk
     obtain⟨ps,h0,h1,hm1,h2,h3⟩:=ih (by omega)
     obtain⟨tv,vs,hr,htl,hf,hvl,hvc⟩:=each k (by omega)
     have hfl:((ps++[(tv,bk (elems[k]'(by omega)).1)]).map (·.1)).flatten=(ps.map (·.1)).flatten++tv:=by simp
     refine⟨ps++[(tv,bk (elems[k]'(by omega)).1)],by simp[h0],fun p h=>?_,?_,by rw[hfl,List.length_append,h2,htl,Nat.succ_mul],fun i h=>?_⟩
     ·rcases List.mem_append.1 h with h | h
      ·exact h1 p h
      ·rw[List.mem_singleton.1 h];exact⟨htl,hf⟩
     ·rw[List.map_append,hm1,List.take_succ_eq_append_getElem (by omega),List.map_append];rfl
     ·simp only[hfl]at h⊢
      by_cases hix:i<(ps.map (·.1)).flatten.length
      ·rw[List.getElem_append_left hix];exact h3 i hix
      ·rw[List.getElem_append_right (by omega)]
       rw[List.length_append]at h
       have hj:i-(ps.map (·.1)).flatten.length<tv.length:=by omega
       refine⟨vs.getD (i-(ps.map (·.1)).flatten.length) Go.undef,?_,hr.2 _ hj⟩
       have:=hvc (i-(ps.map (·.1)).flatten.length) (by omega)
       rw[show o+i=o+(k*c+(i-(ps.map (·.1)).flatten.length)) by rw[<-h2];omega]
       exact this
   obtain⟨ps,h0,h1,hm1,h2,h3⟩:=build len (Nat.le_refl _)
   refine⟨[.list c .non ps.length (ps.map (·.1)).flatten],.cons ?_ (.nil _ _),rfl,_,rfl,.inr ⟨ps,rfl,h1,?_⟩⟩
   ·have hu:∀i,∃u,(h:i<(ps.map (·.1)).flatten.length)->w.cell? ⟨b,o+i,none⟩=some u/\Rel (Ghost.start w) w (ps.map (·.1)).flatten[i] u:=fun i=>by
     by_cases h:i<(ps.map (·.1)).flatten.length
     ·obtain⟨u,hu⟩:=h3 i h
      exact⟨u,fun _=>hu⟩
     ·exact⟨Go.undef,fun h'=>absurd h' h⟩
    rw[h0]
    refine .list _ _ _ _ b o cap (fun i=>Classical.choose (hu i)) h2 hl (fun i hi=>?_) (fun i hi=>(Classical.choose_spec (hu i) hi).2) trivial
    have:=(Classical.choose_spec (hu i) hi).1
    exact⟨⟨rfl,_,this⟩,this⟩
   ·rw[hm1,List.take_of_length_le (by omega)]
    exact hbs
def Ta (bk:DataW H->Nat) (enc:TypeId×Value->H) (P:Program) (w:World) (base:Nat) (held:Bool) (n:Nat):List (Nat×(Nat->List TV->Prop))->List Field->Nat->Prop
 | [],[],_=>True
 | S::Ss,f::fs,o=>f.offset=o/\OpQ bk enc P w base held n S.1 S.2 f.type/\Ta bk enc P w base held n Ss fs (o+S.1)
 | _,_,_=>False
def Xk:List (Nat×(Nat->List TV->Prop))->Nat->List TV->Prop
 | [],_,xs=>xs=[]
 | S::Ss,k,xs=>∃a b k1 k2,xs=a++b/\a.length=S.1/\S.2 k1 a/\Xk Ss k2 b/\k1+k2<=k
def Tr:List (Nat×(Nat->List TV->Prop))->Nat
 | []=>0
 | S::Ss=>S.1+Tr Ss
theorem PC {n:Nat} {vs:List Value}:∀(Ss:List (Nat×(Nat->List TV->Prop))) (fs:List Field) (o:Nat) (xs:List (DataW H×List MemPlace)),Ta bk enc P w base held n Ss fs o->xs.length=fs.length->vs.length=o+Tr Ss->
  (∀(i:Nat) (f:Field),fs[i]? =some f->DataW.trod enc P w base (fun _=>true) held n f.type ((vs.drop f.offset).take (P.cellsOf f.type))=xs[i]?)->∃tv,AM (Ghost.start w) w tv (vs.drop o)/\tv.length=Tr Ss/\Xk Ss (xs.map (fun y=>bk y.1)).sum tv
 | [],[],o,xs,_,_,hl,_=>⟨[],by rw[List.drop_of_length_le (by simp[Tr]at hl;omega)];exact .nil _ _,rfl,rfl⟩
 | S::Ss,f::fs,o,[],_,hx,_,_=>by simp at hx
 | S::Ss,f::fs,o,x::xs,ht,hx,hl,hd=>by
  obtain⟨h1,⟨h2,h3⟩,h4⟩:=ht
  have hd0:=hd 0 f rfl
  rw[h1,h2]at hd0
  obtain⟨tv0,hr,htl,hf⟩:=h3 _ _ hd0
  obtain⟨tv,hr',hl',hf'⟩:=PC (n:=n) (vs:=vs) Ss fs (o+S.1) xs h4 (by simpa using hx) (by simp only[Tr]at hl;omega) (fun i f' hi=>by simpa using hd (i+1) f' (by simpa using hi))
  refine⟨tv0++tv,?_,by simp[hl',htl,Tr],tv0,tv,_,_,rfl,htl,hf,hf',by simp only[List.map_cons,List.sum_cons];exact Nat.le_refl _⟩
  have hlt:o+S.1<=vs.length:=by simp only[Tr]at hl;omega
  have e:vs.drop o=(vs.drop o).take S.1++vs.drop (o+S.1):=by rw[<-List.drop_drop,List.take_append_drop]
  rw[e]
  exact AM.append hr hr'
 | [],f::fs,o,xs,ht,_,_,_=>ht.elim
 | S::Ss,[],o,xs,ht,_,_,_=>ht.elim
theorem opq_struct {n c:Nat} {Ss:List (Nat×(Nat->List TV->Prop))} {e:TypeId} {fs:Array Field} (hb:Blk bk) (ht:P.underlying e=some (.struct fs)) (hc:P.cellsOf e=c) (hl:Tr Ss=c) (hf:∀m,m<n->Ta bk enc P w base held m Ss fs.toList 0):
  OpQ bk enc P w base held n c (fun k tv=>∃k',k'+1<=k/\Xk Ss k' tv) e:=⟨hc,fun vs x hd=>by
 obtain⟨xs,m,rfl,rfl,hvl,hx,hi⟩:=DataW.trod_struct ht hd
 obtain⟨tv,h1,h2,h3⟩:=PC (bk:=bk) (enc:=enc) (P:=P) (w:=w) (base:=base) (held:=held) (n:=m) (vs:=vs) Ss fs.toList 0 xs (hf m (by omega)) (by simpa using hx) (by omega) (fun i f h=>hi i f (by simpa using h))
 refine⟨tv,by simpa using h1,by omega,_,?_,h3⟩
 have:=hb.agg (xs.map (·.1))
 rw[List.map_map]at this
 exact this⟩
end
end Go.TVF
end
namespace Go.TVF
open Go.IntKind(i64 u8)
open Go Go.Proofs
section
abbrev decQs:List (Nat×(Nat->List TV->Prop)):=[(1,cellQ .bool),(1,strQ),(1,cellQ (.int .i64))]
abbrev timeQs:List (Nat×(Nat->List TV->Prop)):=[(1,cellQ (.int .i64)),(1,cellQ (.int .i64)),(1,cellQ (.int .i64)),(1,cellQ (.int .i64))]
def valQ (k:Nat) (tv:List TV):Prop:=∃v:Vl,VlR St.zero v tv/\v.sz<=k
def fldQ (k:Nat) (tv:List TV):Prop:=∃d:Fd,FdR St.zero d tv/\d.sz<=k
abbrev Vf (c:Nat) (S:Nat->List TV->Prop) (k:Nat) (tv:List TV):Prop:=∃v,tv=[v]/\SlQ c S k v
abbrev inQ (Ss:List (Nat×(Nat->List TV->Prop))) (k:Nat) (tv:List TV):Prop:=∃k',k'+1<=k/\Xk Ss k' tv
abbrev valQs:List (Nat×(Nat->List TV->Prop)):=[(1,cellQ (.int .i64)),(1,cellQ .bool),(3,inQ decQs),(4,inQ timeQs),(1,strQ),(1,Vf 1 (cellQ (.int .u8))),(1,Vf 13 valQ),(1,Vf 14 fldQ)]
abbrev fldQs:List (Nat×(Nat->List TV->Prop)):=[(1,strQ),(13,valQ)]
theorem SlQ.bytes {k:Nat} {v:TV} (h:SlQ 1 (cellQ (.int .u8)) k v):∃l:B8,SlR St.zero 1 v l.length (AA l)/\l.length<=k:=by
 rcases h with rfl | ⟨ps,rfl,h,hk⟩
 ·exact⟨[],.inl (.inl ⟨rfl,rfl,rfl⟩),Nat.zero_le _⟩
 ·have:∃l:B8,l.length=ps.length/\(ps.map (·.1)).flatten=AA l/\l.length<=(ps.map (·.2)).sum:=by
   clear hk
   induction ps with
   | nil=>exact⟨[],rfl,rfl,Nat.zero_le _⟩
   | cons p r ih=>
    obtain⟨l,h1,h2,h3⟩:=ih (fun q hq=>h q (.tail _ hq))
    obtain⟨hl,⟨n,ys,hp,hw,rfl⟩,h1k⟩:=h p (.head _)
    have hn:0<=n/\n<=255:=by simpa [Lit.wf,IntKind.min,IntKind.max,IntKind.signed,IntKind.bits]using hw
    refine⟨n.toNat.toUInt8::l,by simp[h1],?_,by simp only[List.length_cons,List.map_cons,List.sum_cons];omega⟩
    rw[List.map_cons,List.flatten_cons,hp,h2]
    simp only[AA,List.map_cons,FG,List.cons_append,List.nil_append,List.cons.injEq,and_true,TV.int.injEq,true_and]
    have:=natB_lt n.toNat (by omega)
    omega
  obtain⟨l,h1,h2,h3⟩:=this
  exact⟨l,.inl (.inr ⟨.non,by rw[h1,h2]⟩),by omega⟩
theorem SlQ.vals {k:Nat} {v:TV} (h:SlQ 13 valQ k v):∃l xl,SlR St.zero 13 v l.length xl/\VsR St.zero l xl/\BC l<=k:=by
 rcases h with rfl | ⟨ps,rfl,h,hk⟩
 ·exact⟨[],[],.inl (.inl ⟨rfl,rfl,rfl⟩),by unfold VsR;rfl,by unfold BC;exact Nat.zero_le _⟩
 ·have:∃l:List Vl,l.length=ps.length/\VsR St.zero l (ps.map (·.1)).flatten/\BC l<=(ps.map (·.2)).sum:=by
   clear hk
   induction ps with
   | nil=>exact⟨[],rfl,by unfold VsR;rfl,by unfold BC;exact Nat.zero_le _⟩
   | cons p r ih=>
    obtain⟨l,h1,h2,h3⟩:=ih (fun q hq=>h q (.tail _ hq))
    obtain⟨hl,v,hv,hz⟩:=h p (.head _)
    exact⟨v::l,by simp[h1],by unfold VsR;exact⟨_,_,by simp,hv,h2⟩,by unfold BC;simp only[List.map_cons,List.sum_cons];omega⟩
  obtain⟨l,h1,h2,h3⟩:=this
  exact⟨l,_,.inl (.inr ⟨.non,by rw[h1]⟩),h2,by omega⟩
theorem SlQ.flds {k:Nat} {v:TV} (h:SlQ 14 fldQ k v):∃l xl,SlR St.zero 14 v l.length xl/\FsR St.zero l xl/\BV l<=k:=by
 rcases h with rfl | ⟨ps,rfl,h,hk⟩
 ·exact⟨[],[],.inl (.inl ⟨rfl,rfl,rfl⟩),by unfold FsR;rfl,by unfold BV;exact Nat.zero_le _⟩
 ·have:∃l:List Fd,l.length=ps.length/\FsR St.zero l (ps.map (·.1)).flatten/\BV l<=(ps.map (·.2)).sum:=by
   clear hk
   induction ps with
   | nil=>exact⟨[],rfl,by unfold FsR;rfl,by unfold BV;exact Nat.zero_le _⟩
   | cons p r ih=>
    obtain⟨l,h1,h2,h3⟩:=ih (fun q hq=>h q (.tail _ hq))
    obtain⟨hl,v,hv,hz⟩:=h p (.head _)
    exact⟨v::l,by simp[h1],by unfold FsR;exact⟨_,_,by simp,hv,h2⟩,by unfold BV;simp only[List.map_cons,List.sum_cons];omega⟩
  obtain⟨l,h1,h2,h3⟩:=this
  exact⟨l,_,.inl (.inr ⟨.non,by rw[h1]⟩),h2,by omega⟩
theorem Gi {kd:IntKind} {k:Nat} {tv:List TV} (h:cellQ (.int kd) k tv):∃n,tv=[.int kd n]:=by
 obtain⟨⟨n,ys,rfl,_,rfl⟩,_⟩:=h;exact⟨n,rfl⟩
theorem Qm {k:Nat} {tv:List TV} (h:cellQ .bool k tv):∃b,tv=[.bool b]:=by
 obtain⟨⟨n,ys,rfl,rfl⟩,_⟩:=h;exact⟨n,rfl⟩
theorem each_field {k:Nat} {tv:List TV} (h:inQ fldQs k tv):fldQ k tv:=by
 obtain⟨k0,hk0,_,_,k1,k2,rfl,_,⟨key,rfl,_,hkey⟩,⟨_,_,k3,k4,rfl,_,⟨v,hv,hz⟩,rfl,h2⟩,h1⟩:=h
 refine⟨.mk key v,by unfold FdR;exact⟨_,by simp,hv⟩,by unfold Fd.sz;omega⟩
theorem each_value {k:Nat} {tv:List TV} (h:inQ valQs k tv):valQ k tv:=by
 obtain⟨k0,hk0,_,_,a1,r1,rfl,_,q1,⟨_,_,a2,r2,rfl,_,q2,⟨_,_,a3,r3,rfl,_,q3,⟨_,_,a4,r4,rfl,_,q4,⟨_,_,a5,r5,rfl,_,q5,⟨_,_,a6,r6,rfl,_,q6,⟨_,_,a7,r7,rfl,_,q7,⟨_,_,a8,r8,rfl,_,q8,rfl,h8⟩,h7⟩,h6⟩,h5⟩,h4⟩,h3⟩,h2⟩,h1⟩:=h
 obtain⟨kd,rfl⟩:=Gi q1
 obtain⟨bo,rfl⟩:=Qm q2
 obtain⟨d0,hd0,_,_,d1,d2,rfl,_,p1,⟨_,_,d3,d4,rfl,_,⟨dg,rfl,_,hdg⟩,⟨_,_,d5,d6,rfl,_,p3,rfl,g3⟩,g2⟩,g1⟩:=q3
 obtain⟨ng,rfl⟩:=Qm p1
 obtain⟨ex,rfl⟩:=Gi p3
 obtain⟨_,_,_,_,_,_,rfl,_,t1,⟨_,_,_,_,rfl,_,t2,⟨_,_,_,_,rfl,_,t3,⟨_,_,_,_,rfl,_,t4,rfl,_⟩,_⟩,_⟩,_⟩:=q4
 obtain⟨tk,rfl⟩:=Gi t1
 obtain⟨td,rfl⟩:=Gi t2
 obtain⟨tn,rfl⟩:=Gi t3
 obtain⟨tz,rfl⟩:=Gi t4
 obtain⟨tx,rfl,_,htx⟩:=q5
 obtain⟨ub,rfl,q6⟩:=q6
 obtain⟨ul,rfl,q7⟩:=q7
 obtain⟨uf,rfl,q8⟩:=q8
 obtain⟨bs,hb,hbl⟩:=q6.bytes
 obtain⟨l,xl,hl,hlv,hlz⟩:=q7.vals
 obtain⟨f,xf,hf,hfv,hfz⟩:=q8.flds
 refine⟨.mk ⟨kd,bo,ng,dg,ex,tk,td,tn,tz,tx,bs⟩ l f,?_,by rw[szs];simp only;omega⟩
 unfold VlR
 exact⟨ub,ul,uf,xl,xf,by simp,hb,hl,hlv,hf,hfv⟩
section
variable {H:Type} {enc:TypeId×Value->H} {P:Program} {w:World} {base b0:Nat} {held:Bool} {bk:DataW H->Nat}
end
end
section
def IsValU (t:TV):Prop:=∃v cs,t= .agg cs/\VlR St.zero v cs
section
variable {H:Type} {enc:TypeId×Value->H} {P:Program} {w:World} {base b0:Nat} {held:Bool} {bk:DataW H->Nat}
theorem open_valU {t:TypeId} {fs:Array Field} {v:Value} {d:DataW H} {p:List MemPlace} (ht:P.underlying t=some (.struct fs)) (hop:∀n,OpQ bk enc P w base held n 13 valQ t)
  (hval:Value.okWide P w .any b0 t v) (h:DataW.Trod enc P w base (fun _=>true) held t v d p):∃tv,Rel (Ghost.start w) w tv v/\IsValU tv:=by
 simp only[Value.okWide,ht]at hval
 obtain⟨vs,rfl,_,_⟩:=hval
 obtain⟨n,hn⟩:=h
 obtain⟨cs,hr,_,vl,hv,hz⟩:=(hop n).2 _ _ hn
 have:=Rel.agg cs vs.toList hr.1 hr.2
 rw[Array.toArray_toList]at this
 exact⟨_,this,vl,cs,rfl,hv⟩
end
end
def scZ:Sc:=⟨0,false,false,[],0,0,0,0,0,[],[]⟩
def vlZ:Vl:= .mk scZ [] []
def Bh (f:List Fd) (key:B8):Vl×Bool:=match f.find? (fun d=>decide (d.key=key))with | some d=>(d.val,true) | none=>(vlZ,false)
theorem vl_leaf (st:St) (s:Sc) (h:s.bytes=[]):VlR st (.mk s [] []) (A0 s .nilSlice .nilSlice .nilSlice):=by
 unfold VlR
 refine⟨_,_,_,[],[],rfl,?_,.of_rd (.inl ⟨rfl,rfl,rfl⟩),by unfold VsR;rfl,.of_rd (.inl ⟨rfl,rfl,rfl⟩),by unfold FsR;rfl⟩
 rw[h];exact .of_rd (.inl ⟨rfl,rfl,rfl⟩)
theorem ZJ {f:List Fd} {key:B8} {k:Nat} {d:Fd} (h:f[k]? =some d) (he:d.key=key) (hn:Bh f key=Bh (f.drop k) key):Bh f key=(d.val,true):=by
 rw[hn,GI h]
 unfold Bh
 rw[List.find?_cons_of_pos (by simpa using he)]
theorem X5 {f:List Fd} {key:B8} {k:Nat} {d:Fd} (h:f[k]? =some d) (he:¬d.key=key) (hn:Bh f key=Bh (f.drop k) key):Bh f key=Bh (f.drop (k+1)) key:=by
 rw[hn,GI h]
 unfold Bh
 rw[List.find?_cons_of_neg (by simpa using he)]
def Pc (l:List Vl):Vl:= .mk {scZ with kind:=6} l []
def Xm (f:List Fd):Vl:= .mk {scZ with kind:=7} [] f
theorem VsR.cons {st:St} {v:Vl} {l:List Vl} {a b:List TV} (h:VlR st v a) (k:VsR st l b):VsR st (v::l) (a++b):=by
 unfold VsR;exact⟨a,b,rfl,h,k⟩
theorem VsR.nil (st:St):VsR st [] []:=by unfold VsR;rfl
theorem FsR.nil (st:St):FsR st [] []:=by unfold FsR;rfl
theorem XU {c:Int} {st:St} {K:Bool->St->Prop} (hk:K (Mx c) st):CallT PR CR [.int .u8 c] [.one (.bool)] st K:=by
 refine If c st K ?_
 unfold Mx at hk
 repeat' (refine Aa (fun _=>?_) fun _=>?_)
 all_goals first | exact B1 (decide_eq_true (by omega)).symm hk | exact B1 (decide_eq_false (by omega)).symm hk | exact B1 (decide_eq_decide.2 (by omega)) hk
end Go.TVF
section
namespace Go.TVF
open Go.IntKind(i64 u8)
open Go Go.Proofs Go.RowKit
theorem Sx {b:Nat} {st:St} {K:TV->St->Prop} (hk:K (.box b 0) st):CallT PR FR [.box b 0] [.one (.tv)] st K:=by
 refine Me fun g w vargs s hr=>?_
 obtain⟨v,rfl,hv⟩:=TN hr
 refine⟨v,w,?_,.box b 0,st,g,hk,s,hv,Ext.refl _ _⟩
 show(callFunc 300 #[v]).run Tryz.prog w=_
 rw[run_callFunc_extern Tryz.func300 (by kernel_rfl) (by kernel_rfl) (by kernel_rfl) (e:=Extern.AbiNoEscape.same) (by kernel_rfl)]
 rfl
def LY (st0:St) (b:Nat) (st:St) (buf:B8):Prop:=
 Al st0 st/\st0.nb<=b/\b<st.nb/\st.bt b=some 188/\∃p v,st.box b= .cells [p,v]/\(p= .nilPtr∨p= .box b 0)/\
  ((v= .nilSlice/\buf=[])∨∃id,v= .list 1 (.own id) buf.length (AA buf)/\buf≠ []/\st0.nt<=id/\id<st.nt/\st.live id=true/\st.ty id=some 5)
theorem LY.new {st0 st:St} (e:Al st0 st):LY st0 st.nb (st.push (.cells [.nilPtr,.nilSlice]) (some 188)) []:=
 ⟨e.push _ _,e.nb,by simp[St.push],by simp[St.push],.nilPtr,.nilSlice,GO _ _ _,.inl rfl,.inl ⟨rfl,rfl⟩⟩
theorem Ls {st0 st:St} {b:Nat} {buf:B8} {K:St->Prop} (h:LY st0 b st buf) (hk:∀st',LY st0 b st' buf->K st'):CallT PR AX [.box b 0] [] st K:=by
 have h0:=h
 obtain⟨e,h1,h2,h3,p,v,hb,hp,hv⟩:=h
 refine C0 b st K (Ac (x:=p) (by simp[Ad,hb]) (Ab (by rcases hp with rfl | rfl<;>rfl) ?_))
 rcases hp with rfl | rfl
 ·refine(show BIf true _ _ from⟨by simp[Ad,hb],Sx ?_⟩)
  refine⟨⟨rfl,h3,_,hb,rfl⟩,Ab rfl ⟨_,hb,by simp,hk _ ?_⟩⟩
  exact⟨e.put h1 _,h1,h2,h3,.box b 0,v,Cy _ _ _,.inr rfl,hv⟩
 ·exact(show BIf false _ _ from Ac (x:= .box b 0) (by simp[Ad,hb]) ⟨rfl,hk st h0⟩)
theorem CY {st0 st:St} {b:Nat} {buf s:B8} {K:Int->TV->St->Prop} (h:LY st0 b st buf) (hl:buf.length+s.length<=140737488355328) (hk:∀st',LY st0 b st' (buf++s)->K (s.length:Int) .nilIface st'):
  CallT PR Av [.box b 0,.str s] [.one (.int .i64),.one (.tv)] st K:=by
 refine CA b s st K (Ls h fun st1 h1=>?_)
 obtain⟨e,a1,a2,a3,p,v,hb,hp,hv⟩:=h1
 refine Ac (x:=v) (by simp[Ad,hb]) (Ac (WK st1 s) (Ab (VA s) ?_))
 rcases hv with⟨rfl,rfl⟩ | ⟨id,rfl,n1,n2,n3,n4,n5⟩
 ·cases s with
  | nil=>
   simp only[Bs,List.length_nil,AA,List.map_nil]
   exact Ab rfl ⟨_,hb,by simp,hk _ ⟨e.put a1 _,a1,a2,a3,p,.nilSlice,Cy _ _ _,hp,.inl ⟨rfl,rfl⟩⟩⟩
  | cons c r=>
   simp only[Bs,List.length_cons,Nat.mul_one]
   refine Ab (by simp only[List.length_nil,List.length_cons]at hl;simp;omega) (Ab rfl ⟨_,hb,by simp,hk _ ?_⟩)
   exact⟨(e.fresh _).put a1 _,a1,a2,a3,p,_,Cy _ _ _,hp,.inr ⟨st1.nt,rfl,by simp,e.nt,by simp[St.put,St.fresh],by simp[St.put,St.fresh],by simp[St.put,St.fresh]⟩⟩
 ·simp only[Bs,Nat.beq_refl,Nat.mul_one]
  refine⟨hl,n4,Ab rfl ⟨_,hb,by simp,hk _ ?_⟩⟩
  refine⟨((e.retire n2).fresh _).put a1 _,a1,a2,a3,p,_,Cy _ _ _,hp,.inr ⟨st1.nt,?_,by simp[n1],e.nt,by simp[St.put,St.fresh,St.retire],by simp[St.put,St.fresh,St.retire],by simp[St.put,St.fresh,St.retire,n5,J4]⟩⟩
  rw[List.length_append,<-Fu]
theorem Hb {st0 st:St} {b:Nat} {buf:B8} {K:B8->St->Prop} (h:LY st0 b st buf) (hl:buf.length<=140737488355328) (hk:∀st',Al st0 st'->K buf st'):
  CallT PR AV [.box b 0] [.one (.str)] st K:=by
 obtain⟨e,h1,h2,h3,p,v,hb,hp,hv⟩:=h
 have hld:Ad st [] (.t (.box b 1)) 0=some v:=by simp[Ad,hb]
 rcases hv with⟨rfl,rfl⟩ | ⟨id,rfl,n1,n2,n3,n4,n5⟩
 ·refine Bt b st K (Ac hld (Ac (x:= .nilPtr) rfl (Ac hld (Ab rfl ?_))))
  exact⟨rfl,hk st e⟩
 ·refine Bt b st K (Ac hld (Ac (x:= .sptr (.list 1 (.own id) buf.length (AA buf))) ?_ (Ac hld (Ab rfl ?_))))
  case refine_2=>exact⟨⟨rfl,by omega,n4,n5⟩,Ac (BH buf) (hk _ (e.retire n2))⟩
  simp only[Nj]
  cases hz:buf.length.beq 0 with
  | true=>exact absurd (List.eq_nil_of_length_eq_zero (Nat.eq_of_beq_eq_true hz)) n1
  | false=>rfl
end Go.TVF
end
namespace Go.TVF
open Go.IntKind(i64 u8)
open Go Go.Proofs
theorem VR {s:B8} {st:St} {K:Int->St->Prop} (hl:s.length<=2000000) (hk:K (if Bi s=s.length then-1 else((Bi s:Nat):Int)) st):CallT PR Ff [.str s] [.one (.int .i64)] st K:=by
 have hv:=OT s
 refine MR s st K ⟨fun i s' st'=>s=s'/\st=st'/\∃k:Nat,i=(k:Int)/\k<=s.length/\k+Bi (s.drop k)=Bi s,fun i _ _=>(s.length-i).toNat,⟨rfl,rfl,0,rfl,by omega,by simp⟩,?_⟩
 rintro _ _ _ ⟨rfl,rfl,k,rfl,h1,h2⟩
 refine Aa (fun g1=>Pd rfl hl h1 ?_) fun g1=>?_
 ·have hle:=Q2 (s.drop k)
  rw[List.length_drop]at hle
  unfold rD
  by_cases h0:ul (s.drop k)=0
  ·rw[if_pos h0]
   rw[Eu _ h0]at h2
   rw[if_neg (by omega)]at hk
   refine Aa (fun _=>?_) fun h=>absurd rfl h
   rw[show k=Bi s by omega];exact hk
  ·rw[if_neg h0]
   rw[E6 _ h0,List.drop_drop]at h2
   refine Aa (fun h=>absurd h (by show ¬((ul (s.drop k):Nat):Int)=0;omega)) fun _=>?_
   have w:i64.wrap ((k:Int)+(ul (s.drop k):Nat))=((k+ul (s.drop k):Nat):Int):=by rw[Af _ (by omega) (by omega)];omega
   dsimp only
   rw[w]
   exact⟨⟨rfl,rfl,_,rfl,by omega,by omega⟩,by omega⟩
 ·rw[show s.drop k=[]from List.drop_of_length_le (by omega),L3]at h2
  rw[if_pos (by omega)]at hk;exact hk
section
inductive Nd where
 | mk (kind:Int) (lead text:B8) (kids:List Nd) (tail:B8)
mutual
def NdC:Nd->List TV->Prop
 | .mk k l t ks tl,cs=>∃v xs,cs=[.int .i64 k,.str l,.str t,v,.str tl]/\Rd 5 v ks.length xs/\BI ks xs
def BI:List Nd->List TV->Prop
 | [],xs=>xs=[]
 | n::r,xs=>∃a b,xs=a++b/\NdC n a/\BI r b
end
theorem NdC.len {n:Nd} {cs:List TV} (h:NdC n cs):cs.length=5:=by
 cases n
 unfold NdC at h
 obtain⟨v,xs,rfl,_⟩:=h
 rfl
theorem BI.get:∀{ks:List Nd} {xs:List TV},BI ks xs->∀{i:Nat} {n:Nd},ks[i]? =some n->∃cs,NdC n cs/\∀j x,cs[j]? =some x->xs[i*5+j]? =some x
 | [],xs,h,i,n,hi=>by simp at hi
 | m::r,xs,h,0,n,hi=>by
  unfold BI at h
  obtain⟨a,b,rfl,ha,hb⟩:=h
  simp only[List.getElem?_cons_zero,Option.some.injEq]at hi
  subst hi
  refine⟨a,ha,fun j x hj=>?_⟩
  rw[Nat.zero_mul,Nat.zero_add,List.getElem?_append_left (List.getElem?_eq_some_iff.1 hj).1]
  exact hj
 | m::r,xs,h,i+1,n,hi=>by
  unfold BI at h
  obtain⟨a,b,rfl,ha,hb⟩:=h
  obtain⟨cs,h1,h2⟩:=hb.get (i:=i) (n:=n) (by simpa using hi)
  refine⟨cs,h1,fun j x hj=>?_⟩
  have hl:=ha.len
  rw[List.getElem?_append_right (by omega),show(i+1)*5+j-a.length=i*5+j by omega]
  exact h2 j x hj
theorem BI.append:∀{ks js:List Nd} {xs ys:List TV},BI ks xs->BI js ys->BI (ks++js) (xs++ys)
 | [],js,xs,ys,h,g=>by unfold BI at h;subst h;exact g
 | n::r,js,xs,ys,h,g=>by
  unfold BI at h
  obtain⟨a,b,rfl,ha,hb⟩:=h
  rw[List.cons_append]
  unfold BI
  exact⟨a,b++ys,by rw[List.append_assoc],ha,hb.append g⟩
theorem BI.one {n:Nd} {cs:List TV} (h:NdC n cs):BI [n] cs:=by
 unfold BI
 exact⟨cs,[],by simp,h,by unfold BI;rfl⟩
theorem BI.nil:BI [] []:=by unfold BI;rfl
theorem ND {v:TV} {ks:List Nd} {xs:List TV} (hr:Rd 5 v ks.length xs) (hk:BI ks xs) (st:St) {i:Nat} {k:Int} {l t tl:B8} {js:List Nd} (hi:ks[i]? =some (.mk k l t js tl)):
  ∃u ys,(Ai st [] (.t (ixT 5 v i)) 0 5).map TV.agg=some (.agg [.int .i64 k,.str l,.str t,u,.str tl])/\Rd 5 u js.length ys/\BI js ys/\As u=true:=by
 obtain⟨cs,hc,hx⟩:=hk.get hi
 unfold NdC at hc
 obtain⟨u,ys,rfl,h1,h2⟩:=hc
 refine⟨u,ys,?_,h1,h2,h1.one⟩
 simp only[Ai,Nat.zero_add,Nat.reduceAdd]
 rw[hr.ldx st i 0 (hx 0 _ rfl),hr.ldx st i 1 (hx 1 _ rfl),hr.ldx st i 2 (hx 2 _ rfl),hr.ldx st i 3 (hx 3 _ rfl),hr.ldx st i 4 (hx 4 _ rfl)]
 rfl
theorem Fb {k:Int} {l t tl:B8} {u:TV} (h:As u=true):List.all [.int .i64 k,.str l,.str t,u,.str tl] As=true:=by
 simp only[List.all_cons,h];rfl
mutual
def FK:Nd->Nat
 | .mk _ _ _ ks _=>1+LO ks
def LO:List Nd->Nat
 | []=>0
 | n::r=>FK n+LO r
end
theorem Zf (n:Nd):1<=FK n:=by cases n;unfold FK;omega
theorem H2:∀ks:List Nd,ks.length<=LO ks
 | []=>by simp[LO]
 | n::r=>by
  have h1:=Zf n
  have h2:=H2 r
  simp only[LO,List.length_cons];omega
theorem H1:∀(ks:List Nd) {i:Nat} {n:Nd} (h:ks[i]? =some n),FK n<=LO ks
 | [],i,n,h=>by simp at h
 | m::r,0,n,h=>by simp only[List.getElem?_cons_zero,Option.some.injEq]at h;subst h;simp only[LO];omega
 | m::r,i+1,n,h=>by
  have:=H1 r (i:=i) (n:=n) (by simpa using h)
  simp only[LO];omega
mutual
def EY:Nd->Nat
 | .mk _ l t ks tl=>l.length+t.length+tl.length+HZ ks
def HZ:List Nd->Nat
 | []=>0
 | n::r=>EY n+HZ r
end
mutual
def DZ:Nd->B8
 | .mk _ l t ks tl=>l++t++GA ks++tl
def GA:List Nd->B8
 | []=>[]
 | n::r=>DZ n++GA r
end
mutual
theorem Fc:∀n:Nd,(DZ n).length=EY n
 | .mk _ l t ks tl=>by
  have:=NC ks
  simp only[DZ,EY,List.length_append];omega
theorem NC:∀ks:List Nd,(GA ks).length=HZ ks
 | []=>rfl
 | n::r=>by
  have h1:=Fc n
  have h2:=NC r
  simp only[GA,HZ,List.length_append];omega
end
theorem Rw (ks:List Nd) (i:Nat) (n:Nd) (h:ks[i]? =some n):HZ (ks.take (i+1))=HZ (ks.take i)+EY n:=by
 rw[List.take_add_one,h]
 generalize ks.take i=a
 induction a with
 | nil=>simp[HZ]
 | cons m r ih=>simp only[Option.toList_some,List.cons_append,HZ]at ih⊢;omega
theorem VN (ks:List Nd) (i:Nat):HZ ks=HZ (ks.take i)+HZ (ks.drop i):=by
 conv=>lhs;rw[<-List.take_append_drop i ks]
 generalize ks.take i=a
 induction a with
 | nil=>simp[HZ]
 | cons m r ih=>simp only[List.cons_append,HZ]at ih⊢;omega
theorem Mz (ks:List Nd) (i:Nat) (n:Nd) (h:ks[i]? =some n):HZ (ks.take i)+EY n<=HZ ks:=by
 have h1:=Rw ks i n h
 have h2:=VN ks (i+1)
 omega
theorem VM (ks:List Nd) (i:Nat) (n:Nd) (h:ks[i]? =some n):GA (ks.take (i+1))=GA (ks.take i)++DZ n:=by
 rw[List.take_add_one,h]
 generalize ks.take i=a
 induction a with
 | nil=>simp[GA]
 | cons m r ih=>simp only[Option.toList_some,List.cons_append,GA,List.append_assoc]at ih⊢;rw[ih]
theorem Bq {ks:List Nd} {i:Nat} {n:Nd} (h:ks[i]? =some n):n∈ks:=List.mem_of_getElem? h
theorem WG:∀(n:Nd) {cs:List TV} (hc:NdC n cs) (hl:EY n<=1000000000000000) (hcn:FK n<=1000000000000000) {st:St} {K:Int->St->Prop} (hk:K (EY n:Nat) st),CallT PR G4 [.agg cs] [.one (.int .i64)] st K
 | .mk k l t ks tl,cs,hc,hl,hcn,st,K,hk=>by
  simp only[FK]at hcn
  have hkl0:=H2 ks
  unfold NdC at hc
  obtain⟨v,xs,rfl,hr,hx⟩:=hc
  simp only[EY]at hl hk
  refine Tk k l t v tl st K (Ab hr.isSl ⟨fun s i w n st'=>v=w/\n=(ks.length:Int)/\st=st'/\∃j:Nat,i=(j:Int)/\j<=ks.length/\s=((l.length+t.length+tl.length+HZ (ks.take j):Nat):Int),fun _ i _ _ _=>(ks.length-i).toNat,⟨rfl,by rw[hr.lenS],rfl,0,rfl,by omega,?_⟩,?_⟩)
  ·rw[Af ((l.length:Int)+t.length) (by omega) (by omega),Af _ (by omega) (by omega)]
   simp only[List.take_zero,HZ];omega
  rintro _ _ _ _ _ ⟨rfl,rfl,rfl,j,rfl,h1,rfl⟩
  rw[hr.lenZ,show Int.toNat (j:Int)=j from rfl]
  refine Aa (fun g=>?_) fun g=>?_
  ·have hlt:j<ks.length:=by omega
   have hget:=List.getElem?_eq_getElem hlt
   generalize hn:ks[j]=n at hget
   obtain⟨k',l',t',js,tl'⟩:=n
   obtain⟨u,ys,hld,h2,h3,h4⟩:=ND hr hx st hget
   have hm:=Mz ks j _ hget
   have hcm:=H1 ks hget
   have ht:=Rw ks j _ hget
   refine⟨⟨by omega,by omega⟩,Ac hld (Ab (Fb h4) ?_)⟩
   refine WG (.mk k' l' t' js tl') (by unfold NdC;exact⟨u,ys,rfl,h2,h3⟩) (by omega) (by omega) ?_
   have w1:i64.wrap (((l.length+t.length+tl.length+HZ (ks.take j):Nat):Int)+(EY (.mk k' l' t' js tl'):Nat))=((l.length+t.length+tl.length+HZ (ks.take (j+1)):Nat):Int):=by
    rw[Af _ (by omega) (by omega)];omega
   have w2:i64.wrap ((j:Int)+1)=((j+1:Nat):Int):=by rw[Af _ (by omega) (by omega)];omega
   rw[w1,w2]
   exact⟨⟨rfl,rfl,rfl,j+1,rfl,by omega,rfl⟩,by dsimp only;omega⟩
  ·rw[List.take_of_length_le (by omega)];exact hk
termination_by n=>SizeOf.sizeOf n
decreasing_by
 have:=List.sizeOf_lt_of_mem (Bq hget)
 simp only[Nd.mk.sizeOf_spec]at this⊢
 omega
theorem QU:∀(n:Nd) {cs:List TV} (hc:NdC n cs) {st0 st:St} {b:Nat} {buf:B8} (hb:LY st0 b st buf) (hl:buf.length+EY n<=100000000000000) (hcn:FK n<=1000000000000000) {K:St->Prop} (hk:∀st',LY st0 b st' (buf++DZ n)->K st'),CallT PR Fs [.box b 0,.agg cs] [] st K
 | .mk k l t ks tl,cs,hc,st0,st,b,buf,hb,hl,hcn,K,hk=>by
  simp only[FK]at hcn
  have hkl0:=H2 ks
  unfold NdC at hc
  obtain⟨v,xs,rfl,hr,hx⟩:=hc
  simp only[EY]at hl
  simp only[DZ]at hk
  refine Qx b k l t v tl st K (CY hb (by omega) fun st1 b1=>CY b1 (by rw[List.length_append];omega) fun st2 b2=>Ab hr.isSl ?_)
  refine⟨fun i b' w n k' l' t' w' tl' st'=>TV.box b 0=b'/\v=w/\n=(ks.length:Int)/\tl=tl'/\∃j:Nat,i=(j:Int)/\j<=ks.length/\LY st0 b st' (buf++l++t++GA (ks.take j)),fun i _ _ _ _ _ _ _ _ _=>(ks.length-i).toNat,⟨rfl,rfl,by rw[hr.lenS],rfl,0,rfl,by omega,by simpa [GA]using b2⟩,?_⟩
  rintro _ _ _ _ _ _ _ _ _ st3 ⟨rfl,rfl,rfl,rfl,j,rfl,h1,b3⟩
  rw[hr.lenZ,show Int.toNat (j:Int)=j from rfl]
  have hkl:=NC (ks.take j)
  refine Aa (fun g=>?_) fun g=>?_
  ·have hlt:j<ks.length:=by omega
   have hget:=List.getElem?_eq_getElem hlt
   generalize hn:ks[j]=n at hget
   obtain⟨k',l',t',js,tl'⟩:=n
   obtain⟨u,ys,hld,h2,h3,h4⟩:=ND hr hx st3 hget
   have hm:=Mz ks j _ hget
   have hcm:=H1 ks hget
   have ht:=VM ks j _ hget
   refine⟨⟨by omega,by omega⟩,Ac hld (Ab (Fb h4) ?_)⟩
   refine QU (.mk k' l' t' js tl') (by unfold NdC;exact⟨u,ys,rfl,h2,h3⟩) b3 (by simp only[List.length_append];omega) (by omega) fun st4 b4=>?_
   rw[Af ((j:Int)+1) (by omega) (by omega)]
   exact⟨⟨rfl,rfl,rfl,rfl,j+1,by omega,by omega,by rw[ht];simpa using b4⟩,by dsimp only;omega⟩
  ·rw[List.take_of_length_le (by omega)]at hkl b3
   exact CY b3 (by simp only[List.length_append];omega) fun st4 b4=>hk st4 (by simpa using b4)
termination_by n=>SizeOf.sizeOf n
decreasing_by
 have:=List.sizeOf_lt_of_mem (Bq hget)
 simp only[Nd.mk.sizeOf_spec]at this⊢
 omega
theorem Xn {n:Nd} {cs:List TV} (hc:NdC n cs) (hl:EY n<=100000000000000) (hcn:FK n<=1000000000000000) {st:St} {K:B8->St->Prop} (hk:∀st',Al st st'->K (DZ n) st'):CallT PR Ht [.agg cs] [.one (.str)] st K:=by
 have hc0:=hc
 obtain⟨k,l,t,ks,tl⟩:=n
 unfold NdC at hc
 obtain⟨v,xs,rfl,hr,hx⟩:=hc
 refine Qz k l t v tl st K (QU _ hc0 (LY.new (Al.refl st)) (by simpa using hl) hcn fun st1 b1=>?_)
 have hn:=Fc (.mk k l t ks tl)
 exact Hb b1 (by simp only[List.nil_append];omega) fun st2 e=>hk st2 e
def Ll (k:Int):Bool:=decide (k=2∨k=6∨k=10∨k=11)
theorem leaf_ok {k:Int} {st:St} {K:Bool->St->Prop} (hk:K (Ll k) st):CallT PR II [.int .i64 k] [.one (.bool)] st K:=by
 unfold Ll at hk
 refine R6 k st K ?_
 repeat' first
  | exact B1 (decide_eq_true (by omega)).symm hk
  | exact B1 (decide_eq_false (by omega)).symm hk
  | refine Aa (fun _=>?_) fun _=>?_
mutual
def chk:Nd->Int->Int->Except Int Int
 | .mk k l t ks tl,d,s=>if 192<d then .error 9 else if 524288<=s then .error 10 else if k<1∨11<k then .error 6
  else if Ll k=true/\(ks.length≠0∨tl≠ [])then .error 1 else JG ks (d+1) (s+1)
def JG:List Nd->Int->Int->Except Int Int
 | [],d,s=> .ok s
 | n::r,d,s=>match chk n d s with | .error e=> .error e | .ok s'=>JG r d s'
end
end
section
mutual
theorem RQ:∀(n:Nd) {d s s':Int},s<=524288->chk n d s= .ok s'->s<=s'/\s'<=524288
 | .mk k l t ks tl,d,s,s',hs,h=>by
  unfold chk at h
  split at h
  ·cases h
  split at h
  ·cases h
  split at h
  ·cases h
  split at h
  ·cases h
  have:=Qi ks (by omega) h
  omega
theorem Qi:∀(ks:List Nd) {d s s':Int},s<=524288->JG ks d s= .ok s'->s<=s'/\s'<=524288
 | [],d,s,s',hs,h=>by unfold JG at h;cases h;omega
 | n::r,d,s,s',hs,h=>by
  unfold JG at h
  split at h
  ·cases h
  ·rename_i s1 h1
   have h2:=RQ n hs h1
   have h3:=Qi r h2.2 h
   omega
end
mutual
theorem IT:∀(n:Nd) {d s e:Int},chk n d s= .error e->e≠0
 | .mk k l t ks tl,d,s,e,h=>by
  unfold chk at h
  split at h
  ·cases h;decide
  split at h
  ·cases h;decide
  split at h
  ·cases h;decide
  split at h
  ·cases h;decide
  exact Oh ks h
theorem Oh:∀(ks:List Nd) {d s e:Int},JG ks d s= .error e->e≠0
 | [],d,s,e,h=>by unfold JG at h;cases h
 | n::r,d,s,e,h=>by
  unfold JG at h
  split at h
  ·rename_i e1 h1;cases h;exact IT n h1
  ·exact Oh r h
end
theorem Aq {k:IntKind} {n:Int} {f:Int->Prop} (h:f n):Ag (.int k) (.int k n) f:=Ab (by simp) h
def Xg (st0:St) (b:Nat) (st:St) (s:Int):Prop:=Al st0 st/\st0.nb<=b/\st.box b= .cells [.int .i64 s]
theorem Q3:∀(n:Nd) {cs:List TV} (hc:NdC n cs) {d s:Int} (hd0:0<=d) (hd:d<=200) (hs0:0<=s) (hs:s<=524288) (hcn:FK n<=1000000000000000) {st0 st:St} {b:Nat} (hb:Xg st0 b st s) {K:Int->St->Prop}
  (hk1:∀s' st',chk n d s= .ok s'->Xg st0 b st' s'->K 0 st') (hk2:∀e st',chk n d s= .error e->Al st0 st'->K e st'),CallT PR Eh [.agg cs,.int .i64 d,.box b 0] [.one (.int .i64)] st K
 | .mk k l t ks tl,cs,hc,d,s,hd0,hd,hs0,hs,hcn,st0,st,b,hb,K,hk1,hk2=>by
  simp only[FK]at hcn
  have hkl0:=H2 ks
  unfold NdC at hc
  obtain⟨v,xs,rfl,hr,hx⟩:=hc
  unfold chk at hk1 hk2
  obtain⟨hb1,hb2,hb3⟩:=hb
  refine Qy k l t v tl d b st K (Aa (fun g=>?_) fun g=>?_)
  ·rw[if_pos g]at hk2;exact hk2 _ _ rfl hb1
  rw[if_neg g]at hk1 hk2
  refine Ac (x:= .int .i64 s) (by simp[Ad,hb3]) ?_
  refine Aq (WJ hb3 (by simp) ?_)
  rw[Af (s+1) (by omega) (by omega)]
  obtain⟨st1,hst1⟩:∃st1,st1=st.put b (.cells (setAll [.int .i64 s] 0 [.int .i64 (s+1)])):=⟨_,rfl⟩
  have hb4:st1.box b= .cells [.int .i64 (s+1)]:=by rw[hst1,Cy];rfl
  have hb5:Xg st0 b st1 (s+1):=⟨by rw[hst1];exact hb1.put hb2 _,hb2,hb4⟩
  rw[<-hst1]
  refine Ac (x:= .int .i64 (s+1)) (by simp[Ad,hb4]) (Aq (Aa (fun g2=>?_) fun g2=>?_))
  ·rw[if_pos (by omega)]at hk2;exact hk2 _ _ rfl hb5.1
  rw[if_neg (by omega)]at hk1 hk2
  refine Aa (fun g3=>?_) fun g3=>Aa (fun g4=>?_) fun g4=>?_
  ·rw[if_pos (by omega)]at hk2;exact hk2 _ _ rfl hb5.1
  ·rw[if_pos (by omega)]at hk2;exact hk2 _ _ rfl hb5.1
  rw[if_neg (by omega)]at hk1 hk2
  refine leaf_ok (Aj (fun hl=>Ab hr.isSl ?_) fun hl=>Ab hr.isSl ?_)
  case' refine_1=>
   rw[hr.lenS]
   refine Aa (fun g5=>?_) fun g5=>Aa (fun g6=>?_) fun g6=>Ab hr.isSl ?_
   ·rw[if_pos ⟨hl,.inl (by omega)⟩]at hk2;exact hk2 _ _ rfl hb5.1
   ·rw[if_pos ⟨hl,.inr g6⟩]at hk2;exact hk2 _ _ rfl hb5.1
   rw[if_neg (by rintro⟨_,h | h⟩;omega;exact g6 h)]at hk1 hk2
  case' refine_2=>rw[if_neg (by rintro⟨h,_⟩;rw[hl]at h;cases h)]at hk1 hk2
  all_goals
   refine⟨fun i d' sn v' n st'=>v=v'/\TV.box b 0=sn/\d=d'/\n=(ks.length:Int)/\∃(j:Nat) (s1:Int),i=(j:Int)/\j<=ks.length/\Xg st0 b st' s1/\JG ks (d+1) (s+1)=JG (ks.drop j) (d+1) s1/\0<=s1/\s1<=524288,
    fun i _ _ _ _ _=>(ks.length-i).toNat,⟨rfl,rfl,rfl,by first | rw[hr.lenS] | rfl,0,s+1,rfl,by omega,hb5,rfl,by omega,by omega⟩,?_⟩
   rintro _ _ _ _ _ st2 ⟨rfl,rfl,rfl,rfl,j,s1,rfl,h1,hb6,heq,h2,h3⟩
   rw[hr.lenZ,show Int.toNat (j:Int)=j from rfl]
   refine Aa (fun q=>?_) fun q=>?_
   ·have hlt:j<ks.length:=by omega
    have hget:=List.getElem?_eq_getElem hlt
    have hdrop:=List.drop_eq_getElem_cons hlt
    generalize hn:ks[j]=n at hget hdrop
    obtain⟨k',l',t',js,tl'⟩:=n
    obtain⟨u,ys,hld,hu1,hu2,hu3⟩:=ND hr hx st2 hget
    have hcm:=H1 ks hget
    rw[hdrop,JG]at heq
    refine⟨⟨by omega,by omega⟩,Ac hld (Ab (Fb hu3) ?_)⟩
    rw[Af (d+1) (by omega) (by omega),Af ((j:Int)+1) (by omega) (by omega)]
    refine Q3 (.mk k' l' t' js tl') (by unfold NdC;exact⟨u,ys,rfl,hu1,hu2⟩) (by omega) (by omega) h2 h3 (by omega) hb6 (fun s' st3 hc hb7=>?_) fun e st3 hc hb7=>?_
    ·rw[hc]at heq
     have:=RQ _ h3 hc
     exact Aa (fun h=>absurd rfl h) fun _=>⟨⟨rfl,rfl,rfl,rfl,j+1,s',by omega,by omega,hb7,heq,by omega,by omega⟩,by dsimp only;omega⟩
    ·rw[hc]at heq
     exact Aa (fun _=>hk2 e st3 heq hb7) fun h=>absurd (Decidable.not_not.1 h) (IT _ hc)
   ·rw[List.drop_of_length_le (by omega),JG]at heq
    exact hk1 _ _ heq hb6
termination_by n=>SizeOf.sizeOf n
decreasing_by
 all_goals
  have:=List.sizeOf_lt_of_mem (Bq hget)
  simp only[Nd.mk.sizeOf_spec]at this⊢
  omega
def MJ (n:Nd):Int:=match chk n 1 0 with
 | .error e=>e
 | .ok _=>if 1048576<EY n then 10 else 0
theorem Xt {n:Nd} {cs:List TV} (hc:NdC n cs) (hl:EY n<=1000000000000000) (hcn:FK n<=1000000000000000) {st:St} {K:Int->St->Prop} (hk:∀st',Al st st'->K (MJ n) st'):CallT PR Hu [.agg cs] [.one (.int .i64)] st K:=by
 have hc0:=hc
 obtain⟨k,l,t,ks,tl⟩:=n
 unfold NdC at hc
 obtain⟨v,xs,rfl,hr,hx⟩:=hc
 unfold MJ at hk
 refine QA k l t v tl st K (WJ (GO st _ _) (by simp) (Q3 _ hc0 (d:=1) (s:=0) (by decide) (by decide) (by decide) (by decide) hcn (st0:=st) ⟨?_,Nat.le_refl _,by rw[Cy];rfl⟩ (fun s' st' hc hb=>?_) fun e st' hc hb=>?_))
 ·exact((Al.refl st).push _ _).put (Nat.le_refl _) _
 ·rw[hc]at hk
  refine Aa (fun h=>absurd rfl h) fun _=>WG _ hc0 hl hcn (Aa (fun g=>?_) fun g=>?_)
  ·have:=hk _ hb.1
   rw[if_pos (by omega)]at this;exact this
  ·have:=hk _ hb.1
   rw[if_neg (by omega)]at this;exact this
 ·rw[hc]at hk
  exact Aa (fun _=>hk _ hb) fun h=>absurd (Decidable.not_not.1 h) (IT _ hc)
end
theorem Tq:∀(a b:Nd) {cs ds:List TV} (hc:NdC a cs) (hd:NdC b ds) (hcn:FK a<=1000000000000000) {st:St} {K:Bool->St->Prop} (hk1:a=b->K true st) (hk2:a≠b->K false st),
  CallT PR F9 [.agg cs,.agg ds] [.one (.bool)] st K
 | .mk k l t ks tl,.mk k' l' t' js tl',cs,ds,hc,hd,hcn,st,K,hk1,hk2=>by
  simp only[FK]at hcn
  have hkl0:=H2 ks
  unfold NdC at hc hd
  obtain⟨v,xs,rfl,hr,hx⟩:=hc
  obtain⟨u,ys,rfl,hr',hy⟩:=hd
  refine R7 k l t v tl k' l' t' u tl' st K (Aa (fun g=>hk2 fun h=>by cases h;exact g rfl) fun g1=>Aa (fun g=>hk2 fun h=>by cases h;exact g rfl) fun g2=>Aa (fun g=>hk2 fun h=>by cases h;exact g rfl) fun g3=>
   Aa (fun g=>hk2 fun h=>by cases h;exact g rfl) fun g4=>Ab hr.isSl (Ab hr'.isSl ?_))
  have g1:=Decidable.not_not.1 g1
  have g2:=Decidable.not_not.1 g2
  have g3:=Decidable.not_not.1 g3
  have g4:=Decidable.not_not.1 g4
  subst g1 g2 g3 g4
  rw[hr.lenS,hr'.lenS]
  refine Aa (fun g=>hk2 fun h=>by cases h;exact g rfl) fun g5=>Ab hr.isSl ?_
  have hlen:ks.length=js.length:=by omega
  refine⟨fun i n k1 l1 t1 v1 tl1 k2 l2 t2 v2 tl2 st'=>n=(ks.length:Int)/\v=v1/\u=v2/\st=st'/\∃j:Nat,i=(j:Int)/\j<=ks.length/\ks.take j=js.take j,fun i _ _ _ _ _ _ _ _ _ _ _ _=>(ks.length-i).toNat,
   ⟨rfl,rfl,rfl,rfl,0,rfl,by omega,by simp⟩,?_⟩
  rintro _ _ _ _ _ _ _ _ _ _ _ _ _ ⟨rfl,rfl,rfl,rfl,j,rfl,h1,heq⟩
  rw[hr.lenZ,hr'.lenZ,show Int.toNat (j:Int)=j from rfl]
  refine Aa (fun q=>?_) fun q=>?_
  ·have hlt:j<ks.length:=by omega
   have hlt':j<js.length:=by omega
   have hget:=List.getElem?_eq_getElem hlt
   have hget':=List.getElem?_eq_getElem hlt'
   generalize hn:ks[j]=n at hget
   generalize hm:js[j]=m at hget'
   obtain⟨k1,l1,t1,a1,tl1⟩:=n
   obtain⟨k2,l2,t2,a2,tl2⟩:=m
   have hcm:=H1 ks hget
   obtain⟨u1,ys1,hld,hu1,hu2,hu3⟩:=ND hr hx Hc hget
   obtain⟨u2,ys2,hld',hv1,hv2,hv3⟩:=ND hr' hy Hc hget'
   refine⟨⟨by omega,by omega⟩,Ac hld ⟨⟨by omega,by omega⟩,Ac hld' ?_⟩⟩
   refine Tq (.mk k1 l1 t1 a1 tl1) (.mk k2 l2 t2 a2 tl2) (by unfold NdC;exact⟨u1,ys1,rfl,hu1,hu2⟩) (by unfold NdC;exact⟨u2,ys2,rfl,hv1,hv2⟩) (by omega) (fun he=>?_) fun he=>?_
   ·refine Aj (fun h=>by cases h) fun _=>?_
    rw[Af ((j:Int)+1) (by omega) (by omega)]
    exact⟨⟨rfl,rfl,rfl,rfl,j+1,by omega,by omega,by rw[List.take_add_one,List.take_add_one,heq,hget,hget',he]⟩,by dsimp only;omega⟩
   ·refine Aj (fun _=>hk2 fun h=>he ?_) fun h=>by cases h
    cases h
    rw[hget]at hget'
    exact Option.some.inj hget'
  ·rw[List.take_of_length_le (by omega),List.take_of_length_le (by omega)]at heq
   exact hk1 (by rw[heq])
termination_by a=>SizeOf.sizeOf a
decreasing_by
 have:=List.sizeOf_lt_of_mem (Bq hget)
 simp only[Nd.mk.sizeOf_spec]at this⊢
 omega
end Go.TVF
section
namespace Go.Proofs
open Go.Shelf
def Tryz.lays155_ren:Go.Shelf.Ren:=⟨fun | 155=>146 | 154=>226 | 138=>280 | 165=>275 | 143=>281 | 166=>196 | 197=>282 | 169=>123 | 195=>308 | 218=>309 | 240=>266 | 241=>305 | 219=>310 | 260=>311 | 276=>300 | 277=>321 | 217=>322 | 225=>323 | 224=>324 | 267=>325 | 266=>330 | 314=>331 | n=>n,fun | 9=>9 | 3=>3 | 4=>4 | 72=>188 | 0=>0 | 76=>254 | 105=>308 | 21=>21 | 5=>5 | 70=>186 | 20=>20 | 37=>59 | 75=>253 | 127=>256 | 164=>315 | 46=>267 | 119=>330 | 139=>333 | 138=>332 | 146=>319 | 51=>318 | 80=>190 | n=>n,fun | 1=>0 | 3=>1 | 4=>2 | n=>n⟩
theorem Tryz.lays155:Go.Proofs.Lays.n155 Tryz.prog Tryz.lays155_ren:={
 mixed:=by kernel_rfl
 f138:=Tryz.func280.trans (congrArg some (by kernel_rfl))
 f143:=Tryz.func281.trans (congrArg some (by kernel_rfl))
 f154:=Tryz.func226.trans (congrArg some (by kernel_rfl))
 f155:=Tryz.func146.trans (congrArg some (by kernel_rfl))
 f165:=Tryz.func275.trans (congrArg some (by kernel_rfl))
 f166:=Tryz.func196.trans (congrArg some (by kernel_rfl))
 f169:=Tryz.func123.trans (congrArg some (by kernel_rfl))
 f195:=Tryz.func308.trans (congrArg some (by kernel_rfl))
 f197:=Tryz.func282.trans (congrArg some (by kernel_rfl))
 f217:=Tryz.func322.trans (congrArg some (by kernel_rfl))
 f218:=Tryz.func309.trans (congrArg some (by kernel_rfl))
 f219:=Tryz.func310.trans (congrArg some (by kernel_rfl))
 f224:=Tryz.func324.trans (congrArg some (by kernel_rfl))
 f225:=Tryz.func323.trans (congrArg some (by kernel_rfl))
 f240:=Tryz.func266.trans (congrArg some (by kernel_rfl))
 f241:=Tryz.func305.trans (congrArg some (by kernel_rfl))
 f260:=Tryz.func311.trans (congrArg some (by kernel_rfl))
 f266:=Tryz.func330.trans (congrArg some (by kernel_rfl))
 f267:=Tryz.func325.trans (congrArg some (by kernel_rfl))
 f276:=Tryz.func300.trans (congrArg some (by kernel_rfl))
 f277:=Tryz.func321.trans (congrArg some (by kernel_rfl))
 f314:=Tryz.func331.trans (congrArg some (by kernel_rfl))
 t0:=Tryz.underlying0
 a0:=Tryz.isAgg0
 z0:=Tryz.sizeOf0
 v0:=Tryz.zeroValue0
 t3:=Tryz.underlying3
 a3:=Tryz.isAgg3
 z3:=Tryz.sizeOf3
 v3:=Tryz.zeroValue3
 t4:=Tryz.underlying4
 a4:=Tryz.isAgg4
 z4:=Tryz.sizeOf4
 v4:=Tryz.zeroValue4
 t5:=Tryz.underlying5
 a5:=Tryz.isAgg5
 z5:=Tryz.sizeOf5
 v5:=Tryz.zeroValue5
 t9:=Tryz.underlying9
 a9:=Tryz.isAgg9
 z9:=Tryz.sizeOf9
 v9:=Tryz.zeroValue9
 t20:=Tryz.underlying20
 a20:=Tryz.isAgg20
 z20:=Tryz.sizeOf20
 v20:=Tryz.zeroValue20
 t21:=Tryz.underlying21
 a21:=Tryz.isAgg21
 z21:=Tryz.sizeOf21
 v21:=Tryz.zeroValue21
 t37:=Tryz.underlying59
 a37:=Tryz.isAgg59
 z37:=Tryz.sizeOf59
 v37:=Tryz.zeroValue59
 t46:=Tryz.underlying267
 a46:=Tryz.isAgg267
 z46:=Tryz.sizeOf267
 v46:=Tryz.zeroValue267
 t51:=Tryz.underlying318
 a51:=Tryz.isAgg318
 z51:=Tryz.sizeOf318
 v51:=Tryz.zeroValue318
 t70:=Tryz.underlying186
 a70:=Tryz.isAgg186
 z70:=Tryz.sizeOf186
 v70:=Tryz.zeroValue186
 t72:=Tryz.underlying188
 a72:=Tryz.isAgg188
 z72:=Tryz.sizeOf188
 v72:=Tryz.zeroValue188
 t75:=Tryz.underlying253
 a75:=Tryz.isAgg253
 z75:=Tryz.sizeOf253
 v75:=Tryz.zeroValue253
 t76:=Tryz.underlying254
 a76:=Tryz.isAgg254
 z76:=Tryz.sizeOf254
 v76:=Tryz.zeroValue254
 t105:=Tryz.underlying308
 a105:=Tryz.isAgg308
 z105:=Tryz.sizeOf308
 v105:=Tryz.zeroValue308
 t119:=Tryz.underlying330
 a119:=Tryz.isAgg330
 z119:=Tryz.sizeOf330
 t127:=Tryz.underlying256
 a127:=Tryz.isAgg256
 z127:=Tryz.sizeOf256
 v127:=Tryz.zeroValue256
 t138:=Tryz.underlying332
 a138:=Tryz.isAgg332
 z138:=Tryz.sizeOf332
 v138:=Tryz.zeroValue332
 t139:=Tryz.underlying333
 a139:=Tryz.isAgg333
 z139:=Tryz.sizeOf333
 v139:=Tryz.zeroValue333
 t146:=Tryz.underlying319
 a146:=Tryz.isAgg319
 z146:=Tryz.sizeOf319
 v146:=Tryz.zeroValue319
 t164:=Tryz.underlying315
 a164:=Tryz.isAgg315
 z164:=Tryz.sizeOf315
 v164:=Tryz.zeroValue315
 g1:=by kernel_rfl
 g3:=by kernel_rfl
 g4:=by kernel_rfl}
theorem Tryz.Builder_Extra_155:Builder.Extra Tryz.prog Tryz.lays155_ren:={
 sizeBuilder:=by kernel_rfl
 liesBuilder:=by kernel_rfl
 t5:=Tryz.underlying5
 a5:=Tryz.isAgg5
 z5:=Tryz.sizeOf5
 v5:=Tryz.zeroValue5
 infoByte:=by kernel_rfl
 cellsByte:=by kernel_rfl
 sizeByte:=by kernel_rfl
 neB5:=by decide}
open Go.RowKit Go.Lib in
theorem Tryz.strings_ReplaceAll (s old new:ByteArray) (m:Int) (w:World) (hs:s.size<4294967281) (hm:w.cell? ⟨0,0,none⟩=some (.int .i64 m)) (h1:1<=old.size) (hlen:s.size+Lib.countB s old*new.size<=140737488355328):
  Calls Tryz.prog 146 #[.string s,.string old,.string new] w fun e w'=>
   e= .returned (.string ⟨(Lib.replaceAll s.data.toList old.data.toList new.data.toList).toArray⟩)/\Below w.heap.size w w':=Any.strings_ReplaceAll Tryz.lays155 Tryz.Builder_Extra_155 s old new m w hs hm h1 hlen
end Go.Proofs
end
section
namespace Go.TVF
open Go.IntKind(i64 u8)
open Go Go.Proofs
open Go.RowKit (Below)
def Ph (q:UInt8) (new:B8) (c:UInt8):B8:=if c=q then new else [c]
theorem Zy (q:UInt8):∀s:B8,(Lib.index s [q]= -1/\q∉s)∨∃i:Nat,Lib.index s [q]=i/\q∉s.take i/\i<s.length/\s=s.take i++q::s.drop (i+1)
 | []=> .inl ⟨by simp[Lib.index],by simp⟩
 | c::l=>by
  have hp: [q].isPrefixOf (c::l)=(q==c):=by simp[List.isPrefixOf]
  unfold Lib.index
  rw[hp]
  by_cases hc:q=c
  ·subst hc
   exact .inr ⟨0,by simp,by simp,by simp,by simp⟩
  ·have hb:(q==c)=false:=by simpa using hc
   rw[hb]
   rcases Zy q l with⟨h1,h2⟩ | ⟨i,h1,h2,h3,h4⟩
   ·left
    rw[h1]
    exact⟨by simp,by simp[hc,h2]⟩
   ·right
    refine⟨i+1,?_,?_,by simp;omega,?_⟩
    ·rw[h1]
     have:((i:Int)== -1)=false:=by simp
     simp[this]
    ·simp[hc,h2]
    ·simp only[List.take_succ_cons,List.drop_succ_cons,List.cons_append]
     rw[<-h4]
theorem KU (q:UInt8) (new:B8):∀s:B8,q∉s->s.flatMap (Ph q new)=s
 | [],_=>rfl
 | c::l,h=>by
  simp only[List.mem_cons,not_or]at h
  rw[List.flatMap_cons,KU q new l h.2]
  simp[Ph,Ne.symm h.1]
theorem count1 (q:UInt8) (new:B8):∀(n:Nat) (s:B8),s.length<=n->Lib.count s [q]<=s.length/\Lib.replaceK [q] new (Lib.count s [q]) s=s.flatMap (Ph q new):=by
 intro n
 induction n with
 | zero=>
  intro s hs
  have:s=[]:=List.eq_nil_of_length_eq_zero (by omega)
  subst this
  rw[Lib.count_miss (by simp[Lib.index])]
  exact⟨by simp,rfl⟩
 | succ n ih=>
  intro s hs
  rcases Zy q s with⟨h1,h2⟩ | ⟨i,h1,h2,h3,h4⟩
  ·rw[Lib.count_miss h1]
   exact⟨by simp,by rw[KU q new s h2];rfl⟩
  ·rw[Lib.count_hit (by simp) h1]
   obtain⟨c1,c2⟩:=ih (s.drop (i+1)) (by simp;omega)
   have hl: [q].length=1:=rfl
   rw[hl]
   refine⟨by simp at c1⊢;omega,?_⟩
   rw[Nat.add_comm,Lib.replaceK_hit _ _ _ _ i h1,hl,c2]
   conv=>rhs;rw[h4]
   rw[List.flatMap_append,List.flatMap_cons,KU q new _ h2]
   simp[Ph]
theorem Pu {g:Ghost} {w:World} {x y z:TV} {vs:List Value} (h:AM g w [x,y,z] vs):∃v u t,vs=[v,u,t]/\Rel g w x v/\Rel g w y u/\Rel g w z t:=by
 obtain⟨v,h1,h2⟩:=h.get? (i:=0) rfl
 obtain⟨u,h3,h4⟩:=h.get? (i:=1) rfl
 obtain⟨t,h5,h6⟩:=h.get? (i:=2) rfl
 have hl:=h.1
 match vs,hl with
 | [a,b,c],_=>simp at h1 h3 h5;subst h1 h3 h5;exact⟨_,_,_,rfl,h2,h4,h6⟩
theorem Lh {s:B8} {q a b:UInt8} {st:St} {K:B8->St->Prop} (hne: [q]≠ [a,b]) (hl:s.length<=2000000000) (hk:K (s.flatMap (Ph q [a,b])) st):
  CallT PR AF [.str s,.str [q],.str [a,b]] [.one (.str)] st K:=by
 refine DR (fun _ _=>Tryz.call146 _ _) fun g w vargs sim hr=>?_
 obtain⟨v1,v2,v3,rfl,h1,h2,h3⟩:=Pu hr
 rw[BE h1,BE h2,BE h3]
 obtain⟨_,m,hm⟩:=sim.glob w sim.below
 obtain⟨c1,c2⟩:=count1 q [a,b] s.length s (Nat.le_refl _)
 have hcB:Lib.countB ⟨s.toArray⟩ ⟨#[q]⟩=Lib.count s [q]:=rfl
 refine Calls.mono (Tryz.strings_ReplaceAll ⟨s.toArray⟩ ⟨#[q]⟩ ⟨#[a,b]⟩ m w ?_ hm ?_ ?_) ?_
 ·show s.toArray.size<_
  simp;omega
 ·show 1<=(#[q]:Array UInt8).size
  simp
 ·rw[hcB]
  show s.toArray.size+_*(#[a,b]:Array UInt8).size<=_
  simp;omega
 ·rintro e w' ⟨rfl,hb⟩
  obtain⟨s',e'⟩:=sim.grown hb
  have hv:Lib.replaceAll s [q] [a,b]=s.flatMap (Ph q [a,b]):=by
   unfold Lib.replaceAll Lib.replace
   rw[if_neg (by simp),<-c2]
   congr 1
  refine⟨_,rfl,.str (s.flatMap (Ph q [a,b])),st,g,hk,s',?_,e'⟩
  show Rel g w' _ (.string ⟨(Lib.replaceAll s [q] [a,b]).toArray⟩)
  rw[hv]
  exact Rel.str _
end Go.TVF
end
namespace Go.TVF
open Go.IntKind(i64 u8)
open Go Go.Proofs
def letB (c:Int):Bool:=decide (97<=c/\c<=122∨65<=c/\c<=90)
def BK (c:Int):Bool:=decide (97<=c/\c<=122∨65<=c/\c<=90∨48<=c/\c<=57∨c=43∨c=45∨c=46∨c=58)
def dOk (a b:Int):Bool:=decide (((a=9∨(32<=a/\a<=126))/\33<=b/\b<=126/\a≠b)/\BK a=false/\BK b=false)
def lOk (a b c d e:Int):Bool:=decide (1<=a/\a<=48/\1<=b/\b<=65536/\1<=c/\c<=1048576/\0<=d/\d<=1024/\0<=e/\e<=65536)
theorem V5 {c:Int} {st:St} {K:Bool->St->Prop} (hk:K (letB c) st):CallT PR FN [.int .u8 c] [.one (.bool)] st K:=by
 unfold letB at hk
 refine Ou c st K ?_
 repeat' first
  | exact B1 (decide_eq_true (by omega)).symm hk
  | exact B1 (decide_eq_false (by omega)).symm hk
  | exact B1 (decide_eq_decide.2 (by omega)) hk
  | refine Aa (fun _=>?_) fun _=>?_
theorem Pk {c:Int} {st:St} {K:Bool->St->Prop} (hk:K (BK c) st):CallT PR B0 [.int .u8 c] [.one (.bool)] st K:=by
 unfold BK at hk
 refine MQ c st K (V5 (Aj (fun h=>?_) fun h=>?_))
 ·have h:=of_decide_eq_true h
  exact B1 (decide_eq_true (by omega)).symm hk
 ·have h:=of_decide_eq_false h
  repeat' first
   | exact B1 (decide_eq_true (by omega)).symm hk
   | exact B1 (decide_eq_false (by omega)).symm hk
   | exact B1 (decide_eq_decide.2 (by omega)) hk
   | refine Aa (fun _=>?_) fun _=>?_
theorem H5 {a b:Int} {x y:Bool} {st:St} {K:Bool->St->Prop} (hk:K (dOk a b) st):CallT PR B3 [.agg [.int .u8 a,.int .u8 b,.bool x,.bool y]] [.one (.bool)] st K:=by
 unfold dOk at hk
 have no:¬(((a=9∨(32<=a/\a<=126))/\33<=b/\b<=126/\a≠b)/\BK a=false/\BK b=false)->K false st:=fun h=>B1 (decide_eq_false h).symm hk
 have yes:((a=9∨(32<=a/\a<=126))/\33<=b/\b<=126/\a≠b)->BK a=false->K (!BK b) st:=fun h h1=>by
  cases hb:BK b with
  | true=>exact no fun hh=>by rw[hb]at hh;exact absurd hh.2.2 (by decide)
  | false=>exact B1 (decide_eq_true ⟨h,h1,hb⟩).symm hk
 refine O2 a b x y st K ?_
 repeat' first
  | exact no (by omega)
  | refine Aa (fun _=>?_) fun _=>?_
 all_goals
  refine Pk (Aj (fun h=>?_) fun h=>no fun hh=>by rw[hh.2.1]at h;cases h)
  simp only[Bool.not_eq_true']at h
  exact Pk (yes (by omega) h)
theorem WS {c:Int} {st:St} {K:Bool->St->Prop} (hk:K (!BK c) st):CallT PR Bd [.int .u8 c] [.one (.bool)] st K:=by
 have e:∀b,b= !BK c->K b st:=fun b h=>h▸hk
 unfold BK at e
 refine JV c st K (XU (Aj (fun h=>UD (Aj (fun h2=>?_) fun h2=>?_)) fun h=>?_))
 all_goals simp only[Mx,Ku,Bool.not_eq_true',Bool.not_eq_false',decide_eq_true_eq,decide_eq_false_iff_not]at h
 ·simp only[Mx,Ku,Bool.not_eq_true',Bool.not_eq_false',decide_eq_true_eq,decide_eq_false_iff_not]at h2
  repeat' first
   | refine Aa (fun _=>?_) fun _=>?_
  all_goals
   refine e _ ?_
   rw[<-decide_not]
   first
    | exact decide_eq_decide.2 (by omega)
    | exact(decide_eq_false (by omega)).symm
 ·simp only[Mx,Ku,Bool.not_eq_true',Bool.not_eq_false',decide_eq_true_eq,decide_eq_false_iff_not]at h2
  exact e _ (by rw[<-decide_not];exact(decide_eq_false (by omega)).symm)
 ·exact e _ (by rw[<-decide_not];exact(decide_eq_false (by omega)).symm)
theorem LE {a b:Int} {x y:Bool} {st:St} {K:Bool->St->Prop} (hk:K (dOk a b) st):CallT PR Bw [.agg [.int .u8 a,.int .u8 b,.bool x,.bool y]] [.one (.bool)] st K:=by
 unfold dOk at hk
 have no:¬(((a=9∨(32<=a/\a<=126))/\33<=b/\b<=126/\a≠b)/\BK a=false/\BK b=false)->K false st:=fun h=>B1 (decide_eq_false h).symm hk
 have yes:((a=9∨(32<=a/\a<=126))/\33<=b/\b<=126/\a≠b)->BK a=false->K (!BK b) st:=fun h h1=>by
  cases hb:BK b with
  | true=>exact no fun hh=>by rw[hb]at hh;exact absurd hh.2.2 (by decide)
  | false=>exact B1 (decide_eq_true ⟨h,h1,hb⟩).symm hk
 refine Jg a b x y st K ?_
 repeat' first
  | exact no (by omega)
  | refine Aa (fun _=>?_) fun _=>?_
 all_goals
  refine WS (Aj (fun h=>?_) fun h=>no fun hh=>by rw[hh.2.1]at h;cases h)
  simp only[Bool.not_eq_true']at h
  exact WS (yes (by omega) h)
theorem VH {a b c d e:Int} {st:St} {K:Bool->St->Prop} (hk:K (lOk a b c d e) st):CallT PR GD [.agg [.int .i64 a,.int .i64 b,.int .i64 c,.int .i64 d,.int .i64 e]] [.one (.bool)] st K:=by
 unfold lOk at hk
 refine OY a b c d e st K ?_
 repeat' first
  | exact B1 (decide_eq_false (by omega)).symm hk
  | exact B1 (decide_eq_decide.2 (by omega)) hk
  | refine Aa (fun _=>?_) fun _=>?_
def Kf:B8:=[116,114,117,101]
def Ix:B8:=[102,97,108,115,101]
def I8 (ty qd:Bool) (s:B8):Sc:=
 if ty=false∨qd=true then tkT s else if s=[]then scK 0 else if s=Kf then tkB true else if s=Ix then tkB false
 else if (dcP s).2.2.2=0 then tkN (dcP s).1 (dcP s).2.1 (dcP s).2.2.1
 else if (tmP s).2.2.2.2=0 then tkM (tmP s).1 (tmP s).2.1 (tmP s).2.2.1 (tmP s).2.2.2.1 else tkT s
theorem Oj (ty qd:Bool) (s:B8):(I8 ty qd s).bytes=[]:=by
 unfold I8
 repeat' split
 all_goals rfl
theorem US {s:B8} {k:Nat} {c:UInt8} (hc:c≠0) (h:b0 s k=c):s=s.take k++c::s.drop (k+1):=by
 have hk:=MK hc h
 have h1:s.drop k=c::s.drop (k+1):=by
  rw[List.drop_eq_getElem_cons hk]
  congr 1
  unfold b0 at h
  rw[List.getD_eq_getElem?_getD,List.getElem?_eq_getElem hk]at h
  exact h
 rw[<-h1,List.take_append_drop]
theorem WH {s:B8} {k:Nat} (h:∀i,i<k->AK (b0 s i)):∀d,d∈s.take k->AK d:=by
 intro d hd
 obtain⟨i,hi,rfl⟩:=List.mem_iff_getElem.1 hd
 rw[List.length_take]at hi
 have:=h i (by omega)
 unfold b0 at this
 rw[List.getD_eq_getElem?_getD,List.getElem?_eq_getElem (by omega)]at this
 rw[List.getElem_take]
 exact this
theorem Xo {s:B8} (h:(tmP s).2.2.2.2=0):(dcP s).2.2.2=3:=by
 have key:∃a c r,s=a++c::r/\a≠ []/\(∀d,d∈a->AK d)/\(c=45∨c=58):=by
  by_cases hd:Eg s
  ·obtain⟨⟨h0,h1⟩,⟨h2,h3⟩,h4,_⟩:=hd
   have e:=US (by decide) h4
   refine⟨_,_,_,e,fun h=>?_,WH fun i hi=>?_,.inl rfl⟩
   ·have:=MK (by decide) h4
    have h':=congrArg List.length h
    rw[List.length_take,List.length_nil]at h';omega
   ·have:i=0∨i=1∨i=2∨i=3:=by omega
    rcases this with rfl | rfl | rfl | rfl<;>assumption
  ·have hc:Ks s:=by
    apply Decidable.byContradiction
    intro hn
    unfold tmP at h
    rw[if_neg hd]at h
    have:GM s=none:=by unfold GM;rw[if_neg hn]
    rw[this]at h
    exact absurd h (by decide)
   obtain⟨⟨h0,h1⟩,h4,_⟩:=hc
   have e:=US (by decide) h4
   refine⟨_,_,_,e,fun h=>?_,WH fun i hi=>?_,.inr rfl⟩
   ·have:=MK (by decide) h4
    have h':=congrArg List.length h
    rw[List.length_take,List.length_nil]at h';omega
   ·have:i=0∨i=1:=by omega
    rcases this with rfl | rfl<;>assumption
 obtain⟨a,c,r,e,h1,h2,h3⟩:=key
 have hh:AK (s.getD 0 0):=by rw[e];exact headDg h2 h1
 refine(SL _).2 ?_
 rw[show Eo s=0 from if_neg fun e=>by rw[e]at hh;revert hh;decide,List.drop_zero,e]
 exact not_isQ h2 h3
theorem XP {s:B8} (h:isQ (s.drop (Eo s))):(tmP s).2.2.2.2≠0:=fun h2=>by
 have h3:=Xo h2
 have h4:=(SL s).1 h
 unfold okE at h4;omega
def Ea (s:B8):Prop:=∀c,c∈s->BK (c.toNat:Int)=true
theorem Ea.app {a b:B8} (h:Ea a) (k:Ea b):Ea (a++b):=fun c hc=>(List.mem_append.1 hc).elim (h c) (k c)
theorem Ea.cons {c:UInt8} {b:B8} (h:BK (c.toNat:Int)=true) (k:Ea b):Ea (c::b):=fun d hd=>by
 rcases List.mem_cons.1 hd with rfl | hd
 ·exact h
 ·exact k d hd
theorem Ea.nil:Ea []:=fun c hc=>by cases hc
theorem Ea.one {c:UInt8} (h:BK (c.toNat:Int)=true):Ea [c]:= .cons h .nil
theorem AK.spec {c:UInt8} (h:AK c):BK (c.toNat:Int)=true:=by
 unfold AK at h;unfold BK;rw[decide_eq_true_eq];omega
theorem Ea.dg {s:B8} (h:∀c,c∈s->AK c):Ea s:=fun c hc=>(h c hc).spec
theorem s45:BK ((45:UInt8).toNat:Int)=true:=by decide
theorem s46:BK ((46:UInt8).toNat:Int)=true:=by decide
theorem s58:BK ((58:UInt8).toNat:Int)=true:=by decide
theorem YN:BK ((101:UInt8).toNat:Int)=true:=by decide
theorem s84:BK ((84:UInt8).toNat:Int)=true:=by decide
theorem s90:BK ((90:UInt8).toNat:Int)=true:=by decide
theorem s43:BK ((43:UInt8).toNat:Int)=true:=by decide
theorem s48:BK ((48:UInt8).toNat:Int)=true:=by decide
theorem X6 (p:Int):Ea (X7 p):=by
 unfold X7
 refine .cons YN ?_
 split
 ·exact .cons s45 (.dg (Yx _))
 ·exact .dg (Yx _)
theorem TK (n:Nat):Ea (List.replicate n 48):=fun c hc=>by rw[(List.mem_replicate.1 hc).2];exact s48
theorem ZW {neg:Bool} {dg:B8} {ex:Int} (h:D2 neg dg ex):Ea (dcT neg dg ex):=by
 by_cases hn:dg=[]
 ·unfold dcT
  rw[if_pos hn]
  exact .one s48
 obtain⟨_,hd,_⟩:=h.2 hn
 have hw:Ea dg:= .dg hd
 have tm:∀n:Nat,Ea (dg.take n):=fun n c hc=>hw c (List.mem_of_mem_take hc)
 have dm:∀n:Nat,Ea (dg.drop n):=fun n c hc=>hw c (List.mem_of_mem_drop hc)
 unfold dcT
 rw[if_neg hn]
 refine Ea.app ?_ ?_
 ·split
  ·exact .one s45
  ·exact .nil
 split
 ·exact hw.app (TK _)
 ·split
  ·exact(tm _).app (.cons s46 (dm _))
  ·split
   ·exact .cons s48 (.cons s46 ((TK _).app hw))
   ·refine(tm _).app (Ea.app ?_ (X6 _))
    split
    ·exact .cons s46 (dm _)
    ·exact .nil
theorem NP (n:Nat):Ea (LT n):=by
 unfold LT
 refine(Ea.dg (Fm _ _)).app (.cons s58 ((Ea.dg (Fm _ _)).app (.cons s58 ((Ea.dg (Fm _ _)).app ?_))))
 split
 ·exact .nil
 ·exact .cons s46 (.dg (SN _))
theorem XO (z:Int):Ea (PF z):=by
 unfold PF
 split
 ·exact .one s90
 ·refine .cons ?_ ((Ea.dg (Fm _ _)).app (.cons s58 (.dg (Fm _ _))))
  split
  ·exact s45
  ·exact s43
theorem NN (n:Nat):Ea (LS n):=(Ea.dg (Fm _ _)).app (.cons s45 ((Ea.dg (Fm _ _)).app (.cons s45 (.dg (Fm _ _)))))
theorem Xp (k td tn tz:Int):Ea (M7 k td tn tz):=by
 unfold M7
 split
 ·exact NN _
 ·split
  ·exact NP _
  ·split
   ·exact(NN _).app (.cons s84 (NP _))
   ·exact(NN _).app (.cons s84 ((NP _).app (XO _)))
noncomputable def plT (s:Sc):B8:=if s.kind=1 then(if s.b then Kf else Ix)else if s.kind=2 then dcT s.neg s.dg s.ex else if s.kind=3 then M7 s.tk s.td s.tn s.tz else []
def by_ (s:B8) (i:Nat):Int:=((s.getD i 0).toNat:Int)
def JE (q:Int):B8->Nat->Option Nat
 | [],_=>none
 | [c],i=>if (c.toNat:Int)=q then some (i+1)else none
 | c::c2::l,i=>if (c.toNat:Int)=q then(if (c2.toNat:Int)=q then JE q l (i+2)else some (i+1))else JE q (c2::l) (i+1)
def Ua (a q:Int):B8->Nat->Except Nat Nat
 | [],i=> .ok i
 | c::l,i=>if (c.toNat:Int)=a∨(c.toNat:Int)=10∨(c.toNat:Int)=13 then .ok i else if (c.toNat:Int)=q then .error i else Ua a q l (i+1)
def QE (q:Int) (s:B8) (i:Nat):Option Nat:=JE q (s.drop i) i
def PE (a q:Int) (s:B8) (i:Nat):Except Nat Nat:=Ua a q (s.drop i) i
theorem G7 {s:B8} {i:Nat} (h:i<s.length):∃c,s.drop i=c::s.drop (i+1)/\(c.toNat:Int)=by_ s i:=by
 refine⟨s[i],List.drop_eq_getElem_cons h,?_⟩
 unfold by_
 rw[List.getD_eq_getElem?_getD,List.getElem?_eq_getElem h];rfl
theorem Wx {q:Int} {s:B8} {i:Nat} (h:s.length<=i):QE q s i=none:=by
 unfold QE;rw[List.drop_of_length_le h];rfl
theorem UY {q:Int} {s:B8} {i:Nat} (h:i<s.length) (hb:by_ s i≠q):QE q s i=QE q s (i+1):=by
 obtain⟨c,hd,hc⟩:=G7 h
 unfold QE
 rw[hd]
 cases hr:s.drop (i+1)with
 | nil=>simp only[JE];rw[if_neg (by omega)]
 | cons c2 l=>simp only[JE];rw[if_neg (by omega)]
theorem S7 {q:Int} {s:B8} {i:Nat} (h:i<s.length) (hb:by_ s i=q) (h2:i+1<s.length->by_ s (i+1)≠q):QE q s i=some (i+1):=by
 obtain⟨c,hd,hc⟩:=G7 h
 unfold QE
 rw[hd]
 by_cases hl:i+1<s.length
 ·obtain⟨c2,hd2,hc2⟩:=G7 hl
  rw[hd2]
  simp only[JE]
  rw[if_pos (by omega),if_neg (by have:=h2 hl;omega)]
 ·rw[List.drop_of_length_le (by omega)]
  simp only[JE];rw[if_pos (by omega)]
theorem Xh {q:Int} {s:B8} {i:Nat} (h:i+1<s.length) (hb:by_ s i=q) (h2:by_ s (i+1)=q):QE q s i=QE q s (i+2):=by
 obtain⟨c,hd,hc⟩:=G7 (show i<s.length by omega)
 obtain⟨c2,hd2,hc2⟩:=G7 h
 unfold QE
 rw[hd,hd2]
 simp only[JE]
 rw[if_pos (by omega),if_pos (by omega)]
theorem S8 {a q:Int} {s:B8} {i:Nat} (h:s.length<=i):PE a q s i= .ok i:=by
 unfold PE;rw[List.drop_of_length_le h];rfl
theorem OO {a q:Int} {s:B8} {i:Nat} (h:i<s.length) (hb:by_ s i=a∨by_ s i=10∨by_ s i=13):PE a q s i= .ok i:=by
 obtain⟨c,hd,hc⟩:=G7 h
 unfold PE;rw[hd];simp only[Ua];rw[if_pos (by rw[hc];exact hb)]
theorem Xj {a q:Int} {s:B8} {i:Nat} (h:i<s.length) (hb:¬(by_ s i=a∨by_ s i=10∨by_ s i=13)) (hq:by_ s i=q):PE a q s i= .error i:=by
 obtain⟨c,hd,hc⟩:=G7 h
 unfold PE;rw[hd];simp only[Ua];rw[if_neg (by rw[hc];exact hb),if_pos (by omega)]
theorem Xi {a q:Int} {s:B8} {i:Nat} (h:i<s.length) (hb:¬(by_ s i=a∨by_ s i=10∨by_ s i=13)) (hq:by_ s i≠q):PE a q s i=PE a q s (i+1):=by
 obtain⟨c,hd,hc⟩:=G7 h
 unfold PE;rw[hd];simp only[Ua];rw[if_neg (by rw[hc];exact hb),if_neg (by omega)]
def CI (a q:Int) (s:B8) (i:Nat):Except (Nat×Int) Nat:=
 if i<s.length/\by_ s i=q then(match QE q s (i+1)with | some e=> .ok e | none=> .error (s.length,4))
 else match PE a q s i with | .ok e=> .ok e | .error o=> .error (o,3)
def slc (s:B8) (i e:Nat):B8:=(s.take e).drop i
def U6 (q:Int):B8->B8
 | []=>[]
 | [c]=>[c]
 | c::c2::l=>if (c.toNat:Int)=q then c::U6 q l else c::U6 q (c2::l)
def txt (q:Int) (c:B8):B8:=if c=[]∨by_ c 0≠q then c else U6 q ((c.take (c.length-1)).drop 1)
def EA (s:B8) (i:Nat):Except (Nat×Int) Nat:=
 if s.length<=i then .ok 0 else if by_ s i=10 then .ok 1 else if by_ s i≠13 then .error (i,3)else if s.length<=i+1 then .error (s.length,4)else if by_ s (i+1)=10 then .ok 2 else .error (i,3)
def GP (dep nod:Int) (d:Int) (i:Nat) (v:Int):Except (Nat×Int) Int:=if dep<d then .error (i,9)else if nod<=v then .error (i,10)else .ok (v+1)
structure Cx where
 s:B8
 a:Int
 q:Int
 dep:Int
 nod:Int
def Fk (x:Cx) (hd:Bool) (i:Nat) (v:Int) (ns:List B8):Except (Nat×Int) (Nat×Int×List B8):=do
 let v1<-if hd then .ok v else GP x.dep x.nod 3 i v
 let e<-CI x.a x.q x.s i
 let t:=txt x.q (slc x.s i e)
 if (if hd then 1024 else 65536)<t.length then .error (i,10)
 else if hd/\t∈ns then .error (i,8)
 else .ok (e,v1,if hd then t::ns else ns)
def LQ (s:B8) (i e:Nat) (mark:List Nd):Nd:= .mk 5 [] [] (.mk 2 [] (slc s i e) [] []::mark) []
def CK (x:Cx) (num:Bool) (wid:Int) (hd:Bool):Nat->List Nd->Nat->Int->List B8->Except (Nat×Int) (Nat×Int×List B8×List Nd)
 | 0,_,_,_,_=> .error (0,0)
 | n+1,acc,i,v,ns=>
  if num/\wid<=acc.length then .error (i,10)else do
   let (e,v1,ns1)<-Fk x hd i v ns
   if e<x.s.length/\by_ x.s e=x.a then CK x num wid hd n (acc++[LQ x.s i e [.mk 11 [] [x.s.getD e 0] [] []]]) (e+1) v1 ns1
   else do
    let _<-EA x.s e
    .ok (e,v1,ns1,acc++[LQ x.s i e []])
def dbl (c:UInt8) (t:B8):B8:=t.flatMap (Ph c [c,c])
theorem ET (c b:UInt8) (t:B8):dbl c (b::t)=(if b=c then [c,c]else [b])++dbl c t:=by
 simp[dbl,Ph]
theorem XK {q:Int} {c:UInt8} (hc:(c.toNat:Int)=q):∀(n:Nat) (l:B8) (i e:Nat),l.length<=n->JE q l i=some e->∃t rest,l=dbl c t++c::rest/\e=i+(dbl c t).length+1:=by
 have heq:∀b:UInt8,(b.toNat:Int)=q↔b=c:=fun b=>⟨fun h=>UInt8.toNat_inj.1 (by omega),fun h=>by rw[h];exact hc⟩
 intro n
 induction n with
 | zero=>intro l i e hl h;have:l=[]:=List.eq_nil_of_length_eq_zero (by omega);subst this;simp[JE]at h
 | succ n ih=>
  intro l i e hl h
  match l,hl,h with
  | [],_,h=>simp[JE]at h
  | [b],_,h=>
   simp only[JE]at h
   split at h
   ·rename_i hb
    cases h
    exact⟨[],[],by rw[(heq b).1 hb];rfl,rfl⟩
   ·cases h
  | b::b2::l,hl,h=>
   simp only[JE]at h
   split at h
   ·rename_i hb
    have hb:=(heq b).1 hb
    split at h
    ·rename_i hb2
     have hb2:=(heq b2).1 hb2
     obtain⟨t,rest,h1,h2⟩:=ih l (i+2) e (by simp at hl;omega) h
     refine⟨c::t,rest,?_,?_⟩
     ·rw[hb,hb2,h1,ET];simp
     ·rw[h2,ET];simp;omega
    ·cases h
     exact⟨[],b2::l,by rw[hb];rfl,rfl⟩
   ·rename_i hb
    have hb:b≠c:=fun h=>hb ((heq b).2 h)
    obtain⟨t,rest,h1,h2⟩:=ih (b2::l) (i+1) e (by simp at hl⊢;omega) h
    refine⟨b::t,rest,?_,?_⟩
    ·rw[h1,ET,if_neg hb];simp
    ·rw[h2,ET,if_neg hb];simp;omega
theorem To {q:Int} {c:UInt8} (hc:(c.toNat:Int)=q):∀t:B8,U6 q (dbl c t)=t
 | []=>rfl
 | b::t=>by
  have ih:=To hc t
  rw[ET]
  by_cases hb:b=c
  ·subst hb
   simp only[if_true,List.cons_append,List.nil_append,U6]
   rw[if_pos hc,ih]
  ·rw[if_neg hb]
   have hb':(b.toNat:Int)≠q:=fun h=>hb (UInt8.toNat_inj.1 (by omega))
   simp only[List.cons_append,List.nil_append]
   cases hd:dbl c t with
   | nil=>rw[hd]at ih;simp only[U6]at ih⊢;rw[<-ih]
   | cons b2 l=>simp only[U6];rw[if_neg hb',<-hd,ih]
theorem NX (c:UInt8):∀t:B8,c∉t∨∃a b,t=a++c::b/\c∉a
 | []=> .inl (by simp)
 | d::t=>by
  by_cases h:d=c
  ·exact .inr ⟨[],t,by rw[h];rfl,by simp⟩
  ·rcases NX c t with h1 | ⟨a,b,h1,h2⟩
   ·exact .inl (by simp[Ne.symm h,h1])
   ·exact .inr ⟨d::a,b,by rw[h1];rfl,by simp[Ne.symm h,h2]⟩
theorem UG {c:UInt8} {t:B8} (h:c∉t):dbl c t=t:=KU c [c,c] t h
theorem SM (c:UInt8) (a b:B8):dbl c (a++b)=dbl c a++dbl c b:=by simp[dbl]
theorem NG (c:UInt8) (l:B8):∀a:B8,c∉a->Lib.index (a++l) [c,c]=if Lib.index l [c,c]= -1 then-1 else Lib.index l [c,c]+a.length
 | [],_=>by simp
 | d::a,h=>by
  simp only[List.mem_cons,not_or]at h
  have hp: [c,c].isPrefixOf (d::(a++l))=false:=by simp[List.isPrefixOf,h.1]
  rw[List.cons_append,Lib.index,hp,NG c l a h.2]
  have hge:=Lib.index_ge l [c,c]
  by_cases hm:Lib.index l [c,c]= -1
  ·simp[hm]
  ·have:¬(Lib.index l [c,c]+(a.length:Int)= -1):=by omega
   simp[hm,this];omega
theorem count2 (c:UInt8):∀(n:Nat) (t:B8),t.length<=n->Lib.count (dbl c t) [c,c]<=t.length/\Lib.replaceK [c,c] [c] (Lib.count (dbl c t) [c,c]) (dbl c t)=t:=by
 intro n
 induction n with
 | zero=>
  intro t ht
  have:t=[]:=List.eq_nil_of_length_eq_zero (by omega)
  subst this
  have h0:Lib.count (dbl c []) [c,c]=0:=Lib.count_miss (by simp[dbl,Lib.index])
  rw[h0];exact⟨by simp,rfl⟩
 | succ n ih=>
  intro t ht
  rcases NX c t with h | ⟨a,b,h1,h2⟩
  ·rw[UG h]
   have:Lib.index t [c,c]= -1:=by
    have:=NG c [] t h
    simpa [Lib.index]using this
   rw[Lib.count_miss this]
   exact⟨by simp,rfl⟩
  ·have hd:dbl c t=a++(c::c::dbl c b):=by rw[h1,SM,UG h2,ET,if_pos rfl];rfl
   have hi:Lib.index (dbl c t) [c,c]=(a.length:Nat):=by
    have h0:Lib.index (c::c::dbl c b) [c,c]=0:=by simp[Lib.index,List.isPrefixOf]
    rw[hd,NG c _ a h2,h0];simp
   have hdr:(dbl c t).drop (a.length+ [c,c].length)=dbl c b:=by
    rw[hd,<-List.drop_drop,List.drop_left];rfl
   have hlen:t.length=a.length+1+b.length:=by rw[h1];simp;omega
   obtain⟨c1,c2⟩:=ih b (by omega)
   rw[Lib.count_hit (by simp) hi,hdr]
   refine⟨by omega,?_⟩
   rw[Nat.add_comm,Lib.replaceK_hit _ _ _ _ _ hi,hdr,c2,hd,List.take_left,h1]
   simp
theorem Tp {s t:B8} {c:UInt8} {st:St} {K:B8->St->Prop} (hs:s=dbl c t) (hl:s.length<=2000000000) (hk:K t st):
  CallT PR AF [.str s,.str [c,c],.str [c]] [.one (.str)] st K:=by
 refine DR (fun _ _=>Tryz.call146 _ _) fun g w vargs sim hr=>?_
 obtain⟨v1,v2,v3,rfl,h1,h2,h3⟩:=Pu hr
 rw[BE h1,BE h2,BE h3]
 obtain⟨_,m,hm⟩:=sim.glob w sim.below
 obtain⟨c1,c2⟩:=count2 c t.length t (Nat.le_refl _)
 have hcB:Lib.countB ⟨s.toArray⟩ ⟨#[c,c]⟩=Lib.count s [c,c]:=rfl
 have hts:t.length<=s.length:=by
  rw[hs]
  clear hs hl h1 c1 c2 hk hcB
  induction t with
  | nil=>simp
  | cons b t ih=>rw[ET];split<;>simp<;>omega
 refine Calls.mono (Tryz.strings_ReplaceAll ⟨s.toArray⟩ ⟨#[c,c]⟩ ⟨#[c]⟩ m w ?_ hm ?_ ?_) ?_
 ·show s.toArray.size<_
  simp;omega
 ·show 1<=(#[c,c]:Array UInt8).size
  simp
 ·rw[hcB]
  show s.toArray.size+_*(#[c]:Array UInt8).size<=_
  rw[hs]at hl hts⊢
  simp;omega
 ·rintro e w' ⟨rfl,hb⟩
  obtain⟨s',e'⟩:=sim.grown hb
  have hv:Lib.replaceAll s [c,c] [c]=t:=by
   unfold Lib.replaceAll Lib.replace
   rw[if_neg (by simp),hs]
   exact c2
  refine⟨_,rfl,.str t,st,g,hk,s',?_,e'⟩
  show Rel g w' _ (.string ⟨(Lib.replaceAll s [c,c] [c]).toArray⟩)
  rw[hv]
  exact Rel.str _
def U1 (q:Int) (cl:B8):Prop:=cl=[]∨by_ cl 0≠q∨∃c t,(c.toNat:Int)=q/\cl=c::(dbl c t++[c])
theorem U9 {q:Int} {c:UInt8} {t:B8} (hc:(c.toNat:Int)=q):txt q (c::(dbl c t++[c]))=t:=by
 unfold txt
 rw[if_neg (by simp[by_,hc])]
 have:((c::(dbl c t++[c])).take ((c::(dbl c t++[c])).length-1)).drop 1=dbl c t:=by
  simp
 rw[this,To hc]
theorem Pf {cl:B8} {a q:Int} {x y:Bool} (hw:U1 q cl) (hl:cl.length<=2000000) {st:St} {K:B8->Bool->St->Prop} (hk:∀st',Al st st'->K (txt q cl) (decide (¬(cl=[]∨by_ cl 0≠q))) st'):
  CallT PR Dh [.str cl,.agg [.int .u8 a,.int .u8 q,.bool x,.bool y]] [.one (.str),.one (.bool)] st K:=by
 have hk:=hk st (Al.refl st)
 refine QF cl a q x y st K (Aa (fun g=>?_) fun g=>⟨⟨by omega,?_⟩,Aa (fun g2=>?_) fun g2=>?_⟩)
 ·subst g
  unfold txt at hk
  simpa using hk
 ·cases cl with
  | nil=>exact absurd rfl g
  | cons b l=>simp
 ·have g2':by_ cl 0≠q:=g2
  unfold txt at hk
  rw[if_pos (.inr g2')]at hk
  simpa [g2']using hk
 ·have g2':¬by_ cl 0≠q:=g2
  rcases hw with h | h | ⟨c,t,hc,h⟩
  ·exact absurd h g
  ·exact absurd h g2'
  subst h
  rw[U9 hc]at hk
  have htb:toBytes st (.list 1 .full 1 [.int .u8 q])=some [c]:=by
   have:UInt8.ofNat q.toNat=c:=by rw[<-hc];simp
   rw[<-this];rfl
  have hlen:(c::(dbl c t++[c])).length=(dbl c t).length+2:=by simp
  rw[hlen]at hl
  have hw64:i64.wrap (((c::(dbl c t++[c])).length:Int)-1)=(((dbl c t).length+1:Nat):Int):=by
   rw[hlen,Af _ (by omega) (by omega)];omega
  rw[htb]
  refine Ac rfl (show Ag .str (.str [c]) _ from⟨⟨by omega,by rw[hw64];omega,by rw[hw64,hlen];omega⟩,by simp,?_⟩)
  rw[hw64]
  have hin:List.drop (Int.toNat 1) (List.take (Int.toNat (((dbl c t).length+1:Nat):Int)) (c::(dbl c t++[c])))=dbl c t:=by
   simp
  rw[hin]
  refine Tp rfl (by omega) ?_
  simpa [g2',hc,by_]using hk
def Hl (x:Cx) (num:Bool) (wid:Int) (hd:Bool) (i:Nat) (v:Int) (ns:List B8):Except (Nat×Int) (Nat×Int×List B8×Nd×Int):=do
 let v1<-if hd then .ok v else GP x.dep x.nod 2 i v
 let (e,v2,ns2,ks)<-CK x num wid hd (x.s.length+1) [] i v1 ns
 let n<-EA x.s e
 let wid':=if num then wid else(ks.length:Int)
 if (ks.length:Int)<wid' then .error (e,10)else .ok (e+n,v2,ns2,.mk 8 [] [] ks (slc x.s e (e+n)),wid')
def EZ (x:Cx) (hdr:Bool):Nat->List Nd->Nat->Int->List B8->Int->Except (Nat×Int) (List Nd)
 | 0,_,_,_,_,_=> .error (0,0)
 | n+1,acc,i,v,ns,wid=>
  if x.s.length<=i then .ok acc else do
   let (i',v',ns',r,wid')<-Hl x (!acc.isEmpty) wid (hdr&&acc.isEmpty) i v ns
   EZ x hdr n (acc++[r]) i' v' ns' wid'
section
theorem Own.extXD {S:Nat->Prop} {b sz:Nat} {st st':St} {v:TV} {n:Nat} {xs:List TV} (h:Own b sz st v n xs) (e:StX S st st'):Own b sz st' v n xs:=by
 rcases h with h | ⟨tip,h,ht | ⟨id,h1,h2,h3,h4⟩⟩
 ·exact .inl h
 ·exact .inr ⟨tip,h,.inl ht⟩
 ·exact .inr ⟨tip,h,.inr ⟨id,h1,h2,Nat.lt_of_lt_of_le h3 e.nt,by rw[e.live _ h3];exact h4⟩⟩
theorem ldB {st:St} {b i:Nat} {l:List TV} {x:TV} (hb:st.box b= .cells l) (hx:l[i]? =some x):Ad st [] (.t (.box b i)) 0=some x:=by
 simp only[Ad,hb,Nat.add_zero];exact hx
theorem FV {st:St} {b off:Nat} {x:TV} {l:List TV} {k:St->Prop} (hb:st.box b= .cells l) (hl:Nat.ble (off+1) l.length=true) (hk:∀st',StX (·=b) st st'->st'.box b= .cells (l.set off x)->k st'):stB st (.box b off) [x] k:=by
 have hl:=Nat.le_of_ble_eq_true hl
 refine⟨l,hb,by simpa using hl,hk _ (StX.put (S:=(·=b)) rfl _) ?_⟩
 rw[Cy]
 rfl
def Oi (st:St) (p i:Nat):Int:=match st.box p with | .cells l=>(match l[i]? with | some (TV.int _ k)=>k | _=>0) | _=>0
theorem Ej {st:St} {p i:Nat} {l:List TV} {kd:IntKind} {k:Int} (hb:st.box p= .cells l) (hx:l[i]? =some (.int kd k)):Oi st p i=k:=by
 simp only[Oi,hb,hx]
def pcl (x:Cx) (hd ty:Bool) (l2 l3 l4:Int) (m:Nat) (i n w o e:Int):List TV:=
 [.str x.s,.int .u8 x.a,.int .u8 x.q,.bool hd,.bool ty,.int .i64 x.dep,.int .i64 x.nod,.int .i64 l2,.int .i64 l3,.int .i64 l4,.int .i64 i,.int .i64 n,.int .i64 w,.map m,.int .i64 o,.int .i64 e]
structure PSD (p m:Nat) (x:Cx) (hd ty:Bool) (l2 l3 l4:Int) (ns:List B8) (i n w o e:Int) (st:St):Prop where
 ne:p≠m
 lp:p<st.nb
 lm:m<st.nb
 bx:st.box p= .cells (pcl x hd ty l2 l3 l4 m i n w o e)
 mp:∃es,st.box m= .map es/\MapN es ns
abbrev PM (p m:Nat):Nat->Prop:=fun i=>i=p∨i=m
theorem PSD.of {p m:Nat} {x:Cx} {hd ty:Bool} {l2 l3 l4:Int} {ns:List B8} {i n w o e i' n' w' o' e':Int} {st st':St} (h:PSD p m x hd ty l2 l3 l4 ns i n w o e st) (k:StX (·=p) st st')
  (b:st'.box p= .cells (pcl x hd ty l2 l3 l4 m i' n' w' o' e')):PSD p m x hd ty l2 l3 l4 ns i' n' w' o' e' st':=by
 obtain⟨es,h1,h2⟩:=h.mp
 exact⟨h.ne,Nat.lt_of_lt_of_le h.lp k.nb,Nat.lt_of_lt_of_le h.lm k.nb,b,es,by rw[k.box _ h.lm (fun g=>h.ne g.symm)];exact h1,h2⟩
theorem PSD.keep {S:Nat->Prop} {p m:Nat} {x:Cx} {hd ty:Bool} {l2 l3 l4:Int} {ns:List B8} {i n w o e:Int} {st st':St} (h:PSD p m x hd ty l2 l3 l4 ns i n w o e st) (k:StX S st st') (hp:¬S p) (hm:¬S m):
  PSD p m x hd ty l2 l3 l4 ns i n w o e st':=by
 obtain⟨es,h1,h2⟩:=h.mp
 exact⟨h.ne,Nat.lt_of_lt_of_le h.lp k.nb,Nat.lt_of_lt_of_le h.lm k.nb,by rw[k.box _ h.lp hp];exact h.bx,es,by rw[k.box _ h.lm hm];exact h1,h2⟩
theorem StX.pm {p m:Nat} {a b:St} (h:StX (·=p) a b):StX (PM p m) a b:=h.mono fun _=> .inl
section
variable {p m:Nat} {x:Cx} {hd ty:Bool} {l2 l3 l4:Int} {ns:List B8} {I n w o e:Int} {st:St}
theorem DB {o' e':Int} {K:Bool->St->Prop} (h:PSD p m x hd ty l2 l3 l4 ns I n w o e st) (hk:∀st',StX (PM p m) st st'->PSD p m x hd ty l2 l3 l4 ns I n w o' e' st'->K false st'):
  CallT PR Am [.box p 0,.int .i64 o',.int .i64 e'] [.one .bool] st K:=by
 refine JP p o' e' st K (FV h.bx rfl fun st1 e1 b1=>FV b1 rfl fun st2 e2 b2=>?_)
 exact hk st2 (e1.trans e2).pm (h.of (e1.trans e2) b2)
theorem Rh {d v:Int} {i:Nat} {K:Bool->St->Prop} (hI:I=(i:Int)) (hv0:0<=v) (hv:v<1000000000) (h:PSD p m x hd ty l2 l3 l4 ns I v w o e st)
  (h0:∀v' st',GP x.dep x.nod d i v= .ok v'->StX (PM p m) st st'->PSD p m x hd ty l2 l3 l4 ns I v' w o e st'->K true st')
  (h1:∀(o':Nat) e' st',GP x.dep x.nod d i v= .error (o',e')->StX (PM p m) st st'->PSD p m x hd ty l2 l3 l4 ns I v w o' e' st'->K false st'):
  CallT PR Bv [.box p 0,.int .i64 d] [.one .bool] st K:=by
 unfold GP at h0 h1
 subst hI
 have hb:=h.bx
 refine Jc p d st K ?_
 repeat' first
  | (guard_target=~need _ _;refine Ab rfl ?_)
  | (guard_target=~Ah (Ad _ _ _ _) _;refine Ac (ldB hb rfl) ?_)
  | (guard_target=~Ag (.int _) _ _;refine Aq ?_)
  | (guard_target=~Ag .str _ _;refine Ak ?_)
  | (guard_target=~Ag .bool _ _;refine Ap ?_)
 refine Aa (fun g=>?_) fun g=>?_
 ·rw[if_pos g]at h1
  repeat' first
   | (guard_target=~need _ _;refine Ab rfl ?_)
   | (guard_target=~Ah (Ad _ _ _ _) _;refine Ac (ldB hb rfl) ?_)
   | (guard_target=~Ag (.int _) _ _;refine Aq ?_)
   | (guard_target=~Ag .str _ _;refine Ak ?_)
   | (guard_target=~Ag .bool _ _;refine Ap ?_)
  exact DB h fun st' e1 k1=>h1 _ _ st' rfl e1 k1
 rw[if_neg g]at h0 h1
 repeat' first
  | (guard_target=~need _ _;refine Ab rfl ?_)
  | (guard_target=~Ah (Ad _ _ _ _) _;refine Ac (ldB hb rfl) ?_)
  | (guard_target=~Ag (.int _) _ _;refine Aq ?_)
  | (guard_target=~Ag .str _ _;refine Ak ?_)
  | (guard_target=~Ag .bool _ _;refine Ap ?_)
 refine Aa (fun g2=>?_) fun g2=>?_
 ·rw[if_pos g2]at h1
  repeat' first
   | (guard_target=~need _ _;refine Ab rfl ?_)
   | (guard_target=~Ah (Ad _ _ _ _) _;refine Ac (ldB hb rfl) ?_)
   | (guard_target=~Ag (.int _) _ _;refine Aq ?_)
   | (guard_target=~Ag .str _ _;refine Ak ?_)
   | (guard_target=~Ag .bool _ _;refine Ap ?_)
  exact DB h fun st' e1 k1=>h1 _ _ st' rfl e1 k1
 rw[if_neg g2]at h0
 repeat' first
  | (guard_target=~need _ _;refine Ab rfl ?_)
  | (guard_target=~Ah (Ad _ _ _ _) _;refine Ac (ldB hb rfl) ?_)
  | (guard_target=~Ag (.int _) _ _;refine Aq ?_)
  | (guard_target=~Ag .str _ _;refine Ak ?_)
  | (guard_target=~Ag .bool _ _;refine Ap ?_)
 refine FV hb rfl fun st1 e1 b1=>?_
 rw[Af _ (by omega) (by omega)]at b1
 exact h0 _ st1 rfl e1.pm (h.of e1 b1)
theorem Vv {i:Nat} {K:Bool->St->Prop} (hI:I=(i:Int)) (hi:i<x.s.length) (hl:x.s.length<=2000000) (h:PSD p m x hd ty l2 l3 l4 ns I n w o e st)
  (h0:∀(k:Nat) st',QE x.q x.s (i+1)=some k->StX (PM p m) st st'->PSD p m x hd ty l2 l3 l4 ns k n w o e st'->K true st')
  (h1:∀(k:Int) st',QE x.q x.s (i+1)=none->StX (PM p m) st st'->PSD p m x hd ty l2 l3 l4 ns k n w (x.s.length:Nat) 4 st'->K false st'):
  CallT PR CQ [.box p 0] [.one .bool] st K:=by
 subst hI
 have hb:=h.bx
 have tn:∀k:Nat,Int.toNat (k:Int)=k:=fun k=>rfl
 have w1:∀k:Nat,k<=x.s.length->i64.wrap ((k:Int)+1)=((k+1:Nat):Int):=fun k hk=>by rw[Af _ (by omega) (by omega)];omega
 refine Id p st K ?_
 repeat' first
  | (guard_target=~need _ _;refine Ab rfl ?_)
  | (guard_target=~Ah (Ad _ _ _ _) _;refine Ac (ldB hb rfl) ?_)
  | (guard_target=~Ag (.int _) _ _;refine Aq ?_)
  | (guard_target=~Ag .str _ _;refine Ak ?_)
  | (guard_target=~Ag .bool _ _;refine Ap ?_)
 refine FV hb rfl fun st1 e1 b1=>?_
 rw[w1 i (by omega)]at b1
 refine⟨fun p' st'=>TV.box p 0=p'/\StX (PM p m) st st'/\∃k:Nat,PSD p m x hd ty l2 l3 l4 ns k n w o e st'/\i<k/\k<=x.s.length/\QE x.q x.s (i+1)=QE x.q x.s k,
  fun _ st'=>(x.s.length-Oi st' p 10).toNat,⟨rfl,e1.pm,i+1,h.of e1 b1,by omega,by omega,rfl⟩,?_⟩
 rintro _ st2 ⟨rfl,e2,k,h2,hk1,hk2,hq⟩
 have hb2:=h2.bx
 repeat' first
  | (guard_target=~need _ _;refine Ab rfl ?_)
  | (guard_target=~Ah (Ad _ _ _ _) _;refine Ac (ldB hb2 rfl) ?_)
  | (guard_target=~Ag (.int _) _ _;refine Aq ?_)
  | (guard_target=~Ag .str _ _;refine Ak ?_)
  | (guard_target=~Ag .bool _ _;refine Ap ?_)
 refine Aa (fun q1=>?_) fun q1=>?_
 ·repeat' first
   | (guard_target=~need _ _;refine Ab rfl ?_)
   | (guard_target=~Ah (Ad _ _ _ _) _;refine Ac (ldB hb2 rfl) ?_)
   | (guard_target=~Ag (.int _) _ _;refine Aq ?_)
   | (guard_target=~Ag .str _ _;refine Ak ?_)
   | (guard_target=~Ag .bool _ _;refine Ap ?_)
  refine⟨⟨by omega,by omega⟩,?_⟩
  repeat' first
   | (guard_target=~need _ _;refine Ab rfl ?_)
   | (guard_target=~Ah (Ad _ _ _ _) _;refine Ac (ldB hb2 rfl) ?_)
   | (guard_target=~Ag (.int _) _ _;refine Aq ?_)
   | (guard_target=~Ag .str _ _;refine Ak ?_)
   | (guard_target=~Ag .bool _ _;refine Ap ?_)
  rw[tn]
  refine Aa (fun q2=>?_) fun q2=>?_
  ·repeat' first
    | (guard_target=~need _ _;refine Ab rfl ?_)
    | (guard_target=~Ah (Ad _ _ _ _) _;refine Ac (ldB hb2 rfl) ?_)
    | (guard_target=~Ag (.int _) _ _;refine Aq ?_)
    | (guard_target=~Ag .str _ _;refine Ak ?_)
    | (guard_target=~Ag .bool _ _;refine Ap ?_)
   refine FV hb2 rfl fun st3 e3 b3=>?_
   rw[w1 k (by omega)]at b3
   rw[UY (by omega) q2]at hq
   refine⟨⟨rfl,e2.trans e3.pm,k+1,h2.of e3 b3,by omega,by omega,hq⟩,?_⟩
   dsimp only
   rw[Ej b3 rfl,Ej hb2 rfl]
   omega
  ·have q2:by_ x.s k=x.q:=Decidable.not_not.1 q2
   repeat' first
    | (guard_target=~need _ _;refine Ab rfl ?_)
    | (guard_target=~Ah (Ad _ _ _ _) _;refine Ac (ldB hb2 rfl) ?_)
    | (guard_target=~Ag (.int _) _ _;refine Aq ?_)
    | (guard_target=~Ag .str _ _;refine Ak ?_)
    | (guard_target=~Ag .bool _ _;refine Ap ?_)
   refine FV hb2 rfl fun st3 e3 b3=>?_
   rw[w1 k (by omega)]at b3
   have h3:=h2.of e3 b3
   repeat' first
    | (guard_target=~need _ _;refine Ab rfl ?_)
    | (guard_target=~Ah (Ad _ _ _ _) _;refine Ac (ldB b3 rfl) ?_)
    | (guard_target=~Ag (.int _) _ _;refine Aq ?_)
    | (guard_target=~Ag .str _ _;refine Ak ?_)
    | (guard_target=~Ag .bool _ _;refine Ap ?_)
   refine Aa (fun q3=>?_) fun q3=>?_
   ·rw[S7 (by omega) q2 (fun h=>absurd h (by omega))]at hq
    exact h0 _ st3 hq (e2.trans e3.pm) h3
   ·repeat' first
     | (guard_target=~need _ _;refine Ab rfl ?_)
     | (guard_target=~Ah (Ad _ _ _ _) _;refine Ac (ldB b3 rfl) ?_)
     | (guard_target=~Ag (.int _) _ _;refine Aq ?_)
     | (guard_target=~Ag .str _ _;refine Ak ?_)
     | (guard_target=~Ag .bool _ _;refine Ap ?_)
    refine⟨⟨by omega,by omega⟩,?_⟩
    repeat' first
     | (guard_target=~need _ _;refine Ab rfl ?_)
     | (guard_target=~Ah (Ad _ _ _ _) _;refine Ac (ldB b3 rfl) ?_)
     | (guard_target=~Ag (.int _) _ _;refine Aq ?_)
     | (guard_target=~Ag .str _ _;refine Ak ?_)
     | (guard_target=~Ag .bool _ _;refine Ap ?_)
    rw[tn]
    refine Aa (fun q4=>?_) fun q4=>?_
    ·rw[S7 (by omega) q2 (fun h=>q4)]at hq
     exact h0 _ st3 hq (e2.trans e3.pm) h3
    ·repeat' first
      | (guard_target=~need _ _;refine Ab rfl ?_)
      | (guard_target=~Ah (Ad _ _ _ _) _;refine Ac (ldB b3 rfl) ?_)
      | (guard_target=~Ag (.int _) _ _;refine Aq ?_)
      | (guard_target=~Ag .str _ _;refine Ak ?_)
      | (guard_target=~Ag .bool _ _;refine Ap ?_)
     refine FV b3 rfl fun st4 e4 b4=>?_
     rw[w1 (k+1) (by omega)]at b4
     rw[Xh (by omega) q2 (Decidable.not_not.1 q4)]at hq
     refine⟨⟨rfl,(e2.trans e3.pm).trans e4.pm,k+2,h3.of e4 b4,by omega,by omega,hq⟩,?_⟩
     dsimp only
     rw[Ej b4 rfl,Ej hb2 rfl]
     omega
 ·repeat' first
   | (guard_target=~need _ _;refine Ab rfl ?_)
   | (guard_target=~Ah (Ad _ _ _ _) _;refine Ac (ldB hb2 rfl) ?_)
   | (guard_target=~Ag (.int _) _ _;refine Aq ?_)
   | (guard_target=~Ag .str _ _;refine Ak ?_)
   | (guard_target=~Ag .bool _ _;refine Ap ?_)
  rw[Wx (i:=k) (by omega)]at hq
  exact DB h2 fun st' e3 k3=>h1 _ st' hq (e2.trans e3) k3
end
end
theorem QE_le {q:Int} {s:B8}:∀(n i e:Nat),s.length-i<=n->QE q s i=some e->i<e/\e<=s.length:=by
 intro n
 induction n with
 | zero=>intro i e h he;rw[Wx (by omega)]at he;cases he
 | succ n ih=>
  intro i e h he
  by_cases hi:i<s.length
  ·by_cases hb:by_ s i=q
   ·by_cases h2:i+1<s.length/\by_ s (i+1)=q
    ·rw[Xh h2.1 hb h2.2]at he
     have:=ih (i+2) e (by omega) he
     omega
    ·rw[S7 hi hb (fun h3 h4=>h2 ⟨h3,h4⟩)]at he
     cases he;omega
   ·rw[UY hi hb]at he
    have:=ih (i+1) e (by omega) he
    omega
  ·rw[Wx (by omega)]at he;cases he
theorem Mk {s:B8} {i e:Nat} (h:i<=e) (h2:e<=s.length):(slc s i e).length=e-i:=by
 unfold slc;rw[List.length_drop,List.length_take];omega
theorem Gh {s:B8} {i e:Nat} (h:i<=e):s.drop i=slc s i e++s.drop e:=by
 unfold slc
 rw[Fl]
 have:s.drop e=(s.drop i).drop (e-i):=by rw[List.drop_drop];congr 1;omega
 rw[this,List.take_append_drop]
theorem slc_get {s:B8} {i e:Nat} (h:i<e) (h2:e<=s.length):by_ (slc s i e) 0=by_ s i:=by
 unfold by_ slc
 rw[KS,List.getD_eq_getElem?_getD,List.getD_eq_getElem?_getD,List.getElem?_take,if_pos (by omega)]
 rfl
theorem Sj {s:B8} {e:Nat} (h:e<s.length):slc s e (e+1)=[s.getD e 0]:=by
 unfold slc
 rw[Fl,RK _ _ 0 h]
 simp
theorem PE_le {a q:Int} {s:B8}:∀(n i e:Nat),s.length-i<=n->i<=s.length->PE a q s i= .ok e->i<=e/\e<=s.length/\(e<s.length->by_ s e=a∨by_ s e=10∨by_ s e=13)/\(i<e->by_ s i≠q):=by
 intro n
 induction n with
 | zero=>intro i e h hi he;rw[S8 (by omega)]at he;cases he;exact⟨by omega,by omega,fun h=>absurd h (by omega),fun h=>absurd h (by omega)⟩
 | succ n ih=>
  intro i e h hi he
  by_cases hl:i<s.length
  ·by_cases hb:by_ s i=a∨by_ s i=10∨by_ s i=13
   ·rw[OO hl hb]at he;cases he;exact⟨by omega,by omega,fun _=>hb,fun h=>absurd h (by omega)⟩
   ·by_cases hq:by_ s i=q
    ·rw[Xj hl hb hq]at he;cases he
    ·rw[Xi hl hb hq]at he
     obtain⟨h1,h2,h3,_⟩:=ih (i+1) e (by omega) (by omega) he
     exact⟨by omega,h2,h3,fun _=>hq⟩
  ·rw[S8 (by omega)]at he;cases he;exact⟨by omega,by omega,fun h=>absurd h (by omega),fun h=>absurd h (by omega)⟩
theorem De {a q:Int} {s:B8} {i e:Nat} (hi:i<=s.length) (h:CI a q s i= .ok e):i<=e/\e<=s.length:=by
 unfold CI at h
 split at h
 ·split at h
  ·rename_i e' he;cases h;have:=QE_le _ _ _ (Nat.le_refl _) he;omega
  ·cases h
 ·split at h
  ·rename_i e' he;cases h;have:=PE_le _ _ _ (Nat.le_refl _) hi he;omega
  ·cases h
theorem byte_of (q:Int) (s:B8) (i:Nat) (h:i<s.length) (hq:by_ s i=q):∃c:UInt8,(c.toNat:Int)=q/\s.getD i 0=c:=⟨s.getD i 0,hq,rfl⟩
theorem SW {a q:Int} {s:B8} {i e:Nat} (hi:i<=s.length) (h:CI a q s i= .ok e):U1 q (slc s i e):=by
 unfold CI at h
 split at h
 ·rename_i hc
  split at h
  ·rename_i e' he
   cases h
   obtain⟨c,hc1,hc2⟩:=byte_of q s i hc.1 hc.2
   obtain⟨t,rest,h1,h2⟩:=XK hc1 _ _ _ _ (Nat.le_refl _) he
   right;right
   refine⟨c,t,hc1,?_⟩
   have hle:=QE_le _ _ _ (Nat.le_refl _) he
   unfold slc
   rw[Fl,RK _ _ 0 hc.1,hc2,h1,show e-i=(dbl c t++[c]).length+1 by simp;omega,List.take_succ_cons]
   congr 1
   rw[show dbl c t++c::rest=(dbl c t++[c])++rest by simp,List.take_left]
  ·cases h
 ·rename_i hc
  split at h
  ·rename_i e' he
   cases h
   have hle:=PE_le _ _ _ (Nat.le_refl _) hi he
   by_cases hlt:i<e
   ·right;left
    rw[slc_get hlt hle.2.1]
    exact hle.2.2.2 hlt
   ·left
    apply List.eq_nil_of_length_eq_zero
    rw[Mk hle.1 hle.2.1];omega
  ·cases h
theorem Gz {s:B8} {e n:Nat} (he:e<=s.length) (h:EA s e= .ok n):e+n<=s.length/\(n=0->e=s.length)/\(0<n->by_ s (e+n-1)=10)/\(e<s.length->by_ s e=10∨by_ s e=13):=by
 unfold EA at h
 split at h
 ·cases h;exact⟨by omega,fun _=>by omega,fun h=>by omega,fun h=>by omega⟩
 split at h
 ·rename_i h1 h2;cases h;exact⟨by omega,fun h=>by omega,fun _=>by simpa using h2,fun _=> .inl h2⟩
 split at h
 ·cases h
 split at h
 ·cases h
 split at h
 ·rename_i h1 h2 h3 h4 h5;cases h;exact⟨by omega,fun h=>by omega,fun _=>by simpa using h5,fun _=> .inr (Decidable.not_not.1 h3)⟩
 ·cases h
inductive JI (a q:Int) (s:B8):Nat->List Nd->Nat->Nat->Prop where
 | last {i e n:Nat}:CI a q s i= .ok e->¬(e<s.length/\by_ s e=a)->EA s e= .ok n->JI a q s i [LQ s i e []] e n
 | more {i e f n:Nat} {ks:List Nd}:CI a q s i= .ok e->e<s.length->by_ s e=a->JI a q s (e+1) ks f n->JI a q s i (LQ s i e [.mk 11 [] [s.getD e 0] [] []]::ks) f n
inductive KE (a q:Int) (s:B8):Nat->List Nd->Prop where
 | nil {i:Nat}:s.length<=i->KE a q s i []
 | cons {i e n:Nat} {ks rs:List Nd}:i<s.length->JI a q s i ks e n->KE a q s (e+n) rs->KE a q s i (.mk 8 [] [] ks (slc s e (e+n))::rs)
theorem JI.le {a q:Int} {s:B8} {i:Nat} {ks:List Nd} {e n:Nat} (h:JI a q s i ks e n):i<=s.length->i<=e/\e+n<=s.length/\1<=ks.length/\ks.length<=e-i+1/\EA s e= .ok n:=by
 induction h with
 | last h1 h2 h3=>intro hi;have:=De hi h1;have:=Gz this.2 h3;exact⟨by omega,by omega,by simp,by simp,h3⟩
 | more h1 h2 h3 h4 ih=>intro hi;have:=De hi h1;have ih:=ih (by omega);refine⟨by omega,by omega,by simp,?_,ih.2.2.2.2⟩;rw[List.length_cons];omega
theorem JI.text {a q:Int} {s:B8} {i:Nat} {ks:List Nd} {e n:Nat} (h:JI a q s i ks e n):i<=s.length->GA ks=slc s i e:=by
 induction h with
 | last h1 h2 h3=>intro hi;simp[GA,DZ,LQ]
 | @more i e e' n ks h1 h2 h3 h4 ih=>
  intro hi
  have hl:=De hi h1
  have hl2:=h4.le (by omega)
  simp only[GA,DZ,LQ,List.nil_append,List.append_nil]
  rw[ih (by omega),<-Sj h2]
  have e1:=Gh (s:=s) (i:=i) (e:=e') (by omega)
  have e2:=Gh (s:=s) (i:=i) (e:=e) (by omega)
  have e3:=Gh (s:=s) (i:=e) (e:=e+1) (by omega)
  have e4:=Gh (s:=s) (i:=e+1) (e:=e') (by omega)
  rw[e2,e3,e4,<-List.append_assoc,<-List.append_assoc]at e1
  have:=List.append_inj_left' e1 rfl
  rw[<-this,List.append_assoc]
theorem KE.text {a q:Int} {s:B8} {i:Nat} {rs:List Nd} (h:KE a q s i rs):i<=s.length->GA rs=s.drop i:=by
 induction h with
 | nil h=>intro hi;rw[List.drop_of_length_le h];rfl
 | @cons i e n ks rs h1 h2 h3 ih=>
  intro hi
  have hl:=h2.le (by omega)
  simp only[GA,DZ,List.nil_append]
  rw[ih (by omega),h2.text (by omega),List.append_assoc,<-Gh (by omega),<-Gh (by omega)]
def Yp (a q:Int) (n:Nd):Prop:=∃c mark,n= .mk 5 [] [] (.mk 2 [] c [] []::mark) []/\U1 q c/\(mark=[]∨∃b:UInt8,(b.toNat:Int)=a/\mark=[.mk 11 [] [b] [] []])
def RecF (a q:Int) (n:Nd):Prop:=∃ks t,n= .mk 8 [] [] ks t/\1<=ks.length/\∀k∈ks,Yp a q k
theorem JI.form {a q:Int} {s:B8} {i:Nat} {ks:List Nd} {e n:Nat} (h:JI a q s i ks e n):i<=s.length->∀k∈ks,Yp a q k:=by
 induction h with
 | last h1 h2 h3=>intro hi k hk;rw[List.mem_singleton]at hk;subst hk;exact⟨_,_,rfl,SW hi h1,.inl rfl⟩
 | @more i e e' n ks h1 h2 h3 h4 ih=>
  intro hi k hk
  have hl:=De hi h1
  rcases List.mem_cons.1 hk with rfl | hk
  ·exact⟨_,_,rfl,SW hi h1,.inr ⟨s.getD e 0,h3,rfl⟩⟩
  ·exact ih (by omega) k hk
theorem KE.form {a q:Int} {s:B8} {i:Nat} {rs:List Nd} (h:KE a q s i rs):i<=s.length->∀r∈rs,RecF a q r:=by
 induction h with
 | nil h=>intro hi r hr;cases hr
 | @cons i e n ks rs h1 h2 h3 ih=>
  intro hi r hr
  have hl:=h2.le (by omega)
  rcases List.mem_cons.1 hr with rfl | hr
  ·exact⟨_,_,rfl,hl.2.2.1,h2.form (by omega)⟩
  ·exact ih (by omega) r hr
section
theorem ldsB {st:St} {b i n:Nat} {l xs:List TV} (hb:st.box b= .cells l) (hx:(l.drop i).take n=xs) (hn:xs.length=n):Ai st [] (.t (.box b i)) 0 n=some xs:=by
 have gen:∀n j,j+n<=(l.drop i).length->Ai st [] (.t (.box b i)) j n=some (((l.drop i).drop j).take n):=by
  intro n
  induction n with
  | zero=>intro j h;simp[Ai]
  | succ n ih=>
   intro j h
   have hj:j<(l.drop i).length:=by omega
   have h1:Ad st [] (.t (.box b i)) j=some (l.drop i)[j]:=by
    simp only[Ad,hb]
    rw[List.getElem_drop,List.getElem?_eq_getElem]
   simp only[Ai,h1,ih (j+1) (by omega)]
   rw[List.drop_eq_getElem_cons hj]
   rfl
 rw[gen n 0 (by rw[<-hx,List.length_take]at hn;omega),<-hx]
 rfl
section
variable {p m:Nat} {x:Cx} {hd ty:Bool} {l2 l3 l4:Int} {ns:List B8} {I n w o e:Int} {st:St}
theorem Y4 {i:Nat} {K:Bool->St->Prop} (hI:I=(i:Int)) (hi:i<=x.s.length) (hl:x.s.length<=2000000) (h:PSD p m x hd ty l2 l3 l4 ns I n w o e st)
  (h0:∀(k:Nat) st',CI x.a x.q x.s i= .ok k->StX (PM p m) st st'->PSD p m x hd ty l2 l3 l4 ns k n w o e st'->K true st')
  (h1:∀(o':Nat) e' (k:Int) st',CI x.a x.q x.s i= .error (o',e')->StX (PM p m) st st'->PSD p m x hd ty l2 l3 l4 ns k n w o' e' st'->K false st'):
  CallT PR Co [.box p 0] [.one .bool] st K:=by
 subst hI
 have hb:=h.bx
 have tn:∀k:Nat,Int.toNat (k:Int)=k:=fun k=>rfl
 have w1:∀k:Nat,k<=x.s.length->i64.wrap ((k:Int)+1)=((k+1:Nat):Int):=fun k hk=>by rw[Af _ (by omega) (by omega)];omega
 have loop:∀k:Nat,(i<x.s.length/\by_ x.s i=x.q->False)->CI x.a x.q x.s i=match PE x.a x.q x.s i with | .ok e=> .ok e | .error o=> .error (o,3):=fun k hc=>by
  unfold CI;rw[if_neg hc]<;>(cases PE x.a x.q x.s i<;>rfl)
 refine JQ p st K ?_
 repeat' first
  | (guard_target=~need _ _;refine Ab rfl ?_)
  | (guard_target=~Ah (Ad _ _ _ _) _;refine Ac (ldB hb rfl) ?_)
  | (guard_target=~Ag (.int _) _ _;refine Aq ?_)
  | (guard_target=~Ag .str _ _;refine Ak ?_)
  | (guard_target=~Ag .bool _ _;refine Ap ?_)
 refine Aa (fun g=>?_) fun g=>?_
 ·repeat' first
   | (guard_target=~need _ _;refine Ab rfl ?_)
   | (guard_target=~Ah (Ad _ _ _ _) _;refine Ac (ldB hb rfl) ?_)
   | (guard_target=~Ag (.int _) _ _;refine Aq ?_)
   | (guard_target=~Ag .str _ _;refine Ak ?_)
   | (guard_target=~Ag .bool _ _;refine Ap ?_)
  refine⟨⟨by omega,by omega⟩,?_⟩
  repeat' first
   | (guard_target=~need _ _;refine Ab rfl ?_)
   | (guard_target=~Ah (Ad _ _ _ _) _;refine Ac (ldB hb rfl) ?_)
   | (guard_target=~Ag (.int _) _ _;refine Aq ?_)
   | (guard_target=~Ag .str _ _;refine Ak ?_)
   | (guard_target=~Ag .bool _ _;refine Ap ?_)
  rw[tn]
  refine Aa (fun g2=>?_) fun g2=>?_
  ·have hc:CI x.a x.q x.s i=match QE x.q x.s (i+1)with | some e=> .ok e | none=> .error (x.s.length,4):=by
    unfold CI;rw[if_pos ⟨by omega,g2⟩]<;>(cases QE x.q x.s (i+1)<;>rfl)
   exact Vv rfl (by omega) hl h (fun k st' hq=>h0 k st' (by rw[hc,hq])) fun k st' hq=>h1 _ _ k st' (by rw[hc,hq])
  have hc:=loop i fun hh=>g2 hh.2
  refine⟨fun p' st'=>TV.box p 0=p'/\StX (PM p m) st st'/\∃k:Nat,PSD p m x hd ty l2 l3 l4 ns k n w o e st'/\k<=x.s.length/\PE x.a x.q x.s i=PE x.a x.q x.s k,
   fun _ st'=>(x.s.length-Oi st' p 10).toNat,⟨rfl,StX.refl _ _,i,h,by omega,rfl⟩,?_⟩
  rintro _ st2 ⟨rfl,e2,k,h2,hk2,hq⟩
  have hb2:=h2.bx
  have next:¬(by_ x.s k=x.a∨by_ x.s k=10∨by_ x.s k=13)->k<x.s.length->by_ x.s k≠x.q->∀st3,StX (·=p) st2 st3->st3.box p= .cells ((pcl x hd ty l2 l3 l4 m k n w o e).set 10 (.int .i64 (i64.wrap ((k:Int)+1))))->
    (TV.box p 0=TV.box p 0/\StX (PM p m) st st3/\∃k:Nat,PSD p m x hd ty l2 l3 l4 ns k n w o e st3/\k<=x.s.length/\PE x.a x.q x.s i=PE x.a x.q x.s k)/\(x.s.length-Oi st3 p 10).toNat<(x.s.length-Oi st2 p 10).toNat:=fun c1 c2 c3 st3 e3 b3=>by
   rw[w1 k (by omega)]at b3
   rw[Xi c2 c1 c3]at hq
   refine⟨⟨rfl,e2.trans e3.pm,k+1,h2.of e3 b3,by omega,hq⟩,?_⟩
   rw[Ej b3 rfl,Ej hb2 rfl]
   omega
  repeat' first
   | (guard_target=~need _ _;refine Ab rfl ?_)
   | (guard_target=~Ah (Ad _ _ _ _) _;refine Ac (ldB hb2 rfl) ?_)
   | (guard_target=~Ag (.int _) _ _;refine Aq ?_)
   | (guard_target=~Ag .str _ _;refine Ak ?_)
   | (guard_target=~Ag .bool _ _;refine Ap ?_)
  refine Aa (fun q1=>?_) fun q1=>?_
  ·repeat' first
    | (guard_target=~need _ _;refine Ab rfl ?_)
    | (guard_target=~Ah (Ad _ _ _ _) _;refine Ac (ldB hb2 rfl) ?_)
    | (guard_target=~Ag (.int _) _ _;refine Aq ?_)
    | (guard_target=~Ag .str _ _;refine Ak ?_)
    | (guard_target=~Ag .bool _ _;refine Ap ?_)
   refine⟨⟨by omega,by omega⟩,?_⟩
   repeat' first
    | (guard_target=~need _ _;refine Ab rfl ?_)
    | (guard_target=~Ah (Ad _ _ _ _) _;refine Ac (ldB hb2 rfl) ?_)
    | (guard_target=~Ag (.int _) _ _;refine Aq ?_)
    | (guard_target=~Ag .str _ _;refine Ak ?_)
    | (guard_target=~Ag .bool _ _;refine Ap ?_)
   rw[tn]
   refine Aa (fun q2=>Aa (fun _=>?_) fun q3=>absurd q2 q3) fun q2=>Aa (fun q3=>Aa (fun _=>?_) fun q4=>absurd q3 q4) fun q3=>Aa (fun q4=>?_) fun q4=>?_
   ·rw[OO (by omega) (.inl q2)]at hq;exact h0 k st2 (by rw[hc,hq]) e2 h2
   ·rw[OO (by omega) (.inr (.inl q3))]at hq;exact h0 k st2 (by rw[hc,hq]) e2 h2
   ·rw[OO (by omega) (.inr (.inr q4))]at hq;exact h0 k st2 (by rw[hc,hq]) e2 h2
   ·have hno:¬(by_ x.s k=x.a∨by_ x.s k=10∨by_ x.s k=13):=by rintro(h | h | h);exact q2 h;exact q3 h;exact q4 h
    repeat' first
     | (guard_target=~need _ _;refine Ab rfl ?_)
     | (guard_target=~Ah (Ad _ _ _ _) _;refine Ac (ldB hb2 rfl) ?_)
     | (guard_target=~Ag (.int _) _ _;refine Aq ?_)
     | (guard_target=~Ag .str _ _;refine Ak ?_)
     | (guard_target=~Ag .bool _ _;refine Ap ?_)
    refine Aa (fun q5=>?_) fun q5=>?_
    ·repeat' first
      | (guard_target=~need _ _;refine Ab rfl ?_)
      | (guard_target=~Ah (Ad _ _ _ _) _;refine Ac (ldB hb2 rfl) ?_)
      | (guard_target=~Ag (.int _) _ _;refine Aq ?_)
      | (guard_target=~Ag .str _ _;refine Ak ?_)
      | (guard_target=~Ag .bool _ _;refine Ap ?_)
     rw[Xj (by omega) hno q5]at hq
     exact DB h2 fun st' e3 k3=>h1 _ _ _ st' (by rw[hc,hq]) (e2.trans e3) k3
    ·repeat' first
      | (guard_target=~need _ _;refine Ab rfl ?_)
      | (guard_target=~Ah (Ad _ _ _ _) _;refine Ac (ldB hb2 rfl) ?_)
      | (guard_target=~Ag (.int _) _ _;refine Aq ?_)
      | (guard_target=~Ag .str _ _;refine Ak ?_)
      | (guard_target=~Ag .bool _ _;refine Ap ?_)
     exact FV hb2 rfl fun st3 e3 b3=>next hno (by omega) q5 st3 e3 b3
  ·rw[S8 (i:=k) (by omega)]at hq;exact h0 k st2 (by rw[hc,hq]) e2 h2
 ·--at the end
  have hc:=loop i fun hh=>by omega
  rw[S8 (i:=i) (by omega)]at hc
  refine⟨fun p' st'=>TV.box p 0=p'/\st=st',fun _ st'=>0,⟨rfl,rfl⟩,?_⟩
  rintro _ _ ⟨rfl,rfl⟩
  repeat' first
   | (guard_target=~need _ _;refine Ab rfl ?_)
   | (guard_target=~Ah (Ad _ _ _ _) _;refine Ac (ldB hb rfl) ?_)
   | (guard_target=~Ag (.int _) _ _;refine Aq ?_)
   | (guard_target=~Ag .str _ _;refine Ak ?_)
   | (guard_target=~Ag .bool _ _;refine Ap ?_)
  refine Aa (fun q1=>absurd q1 g) fun q1=>?_
  exact h0 i st hc (StX.refl _ _) h
abbrev PM3 (p m r:Nat):Nat->Prop:=fun i=>i=p∨i=m∨i=r
theorem StX.pm3 {p m r:Nat} {a b:St} (h:StX (PM p m) a b):StX (PM3 p m r) a b:=h.mono fun _ g=>g.elim .inl fun g=> .inr (.inl g)
theorem PSD.other {p m r:Nat} {x:Cx} {hd ty:Bool} {l2 l3 l4:Int} {ns:List B8} {i n w o e:Int} {st st':St} (h:PSD p m x hd ty l2 l3 l4 ns i n w o e st) (k:StX (·=r) st st') (hp:p≠r) (hm:m≠r):
  PSD p m x hd ty l2 l3 l4 ns i n w o e st':=h.keep k hp hm
theorem T0 {i r:Nat} {c0 c1 c2 c3:TV} {K:Bool->St->Prop} (hI:I=(i:Int)) (hi:i<=x.s.length) (hl:x.s.length<=2000000) (h:PSD p m x hd ty l2 l3 l4 ns I n w o e st)
  (hrp:p≠r) (hrm:m≠r) (hrl:r<st.nb) (hr:st.box r= .cells [c0,c1,c2,c3,.str []])
  (h0:∀(k:Nat) st',EA x.s i= .ok k->StX (PM3 p m r) st st'->PSD p m x hd ty l2 l3 l4 ns ((i+k:Nat):Int) n w o e st'->st'.box r= .cells [c0,c1,c2,c3,.str (slc x.s i (i+k))]->K true st')
  (h1:∀(o':Nat) e' (k:Int) st',EA x.s i= .error (o',e')->StX (PM3 p m r) st st'->PSD p m x hd ty l2 l3 l4 ns k n w o' e' st'->st'.box r= .cells [c0,c1,c2,c3,.str []]->K false st'):
  CallT PR AI [.box p 0,.box r 0] [.one .bool] st K:=by
 subst hI
 have hb:=h.bx
 have tn:∀k:Nat,Int.toNat (k:Int)=k:=fun k=>rfl
 have w1:∀k:Nat,k<=x.s.length->i64.wrap ((k:Int)+1)=((k+1:Nat):Int):=fun k hk=>by rw[Af _ (by omega) (by omega)];omega
 have rk:∀st',StX (·=p) st st'->st'.box r= .cells [c0,c1,c2,c3,.str []]:=fun st' e=>by rw[e.box r hrl (fun h=>hrp h.symm)];exact hr
 have rk2:∀st',StX (PM p m) st st'->st'.box r= .cells [c0,c1,c2,c3,.str []]:=fun st' e=>by rw[e.box r hrl (fun h=>h.elim (fun h=>hrp h.symm) fun h=>hrm h.symm)];exact hr
 have hp3:∀st1 st2,StX (PM p m) st st1->StX (·=r) st1 st2->StX (PM3 p m r) st st2:=fun st1 st2 e1 e2=>e1.pm3.trans (e2.mono fun _ g=> .inr (.inr g))
 unfold EA at h0 h1
 refine HM p r st K ?_
 repeat' first
  | (guard_target=~need _ _;refine Ab rfl ?_)
  | (guard_target=~Ah (Ad _ _ _ _) _;refine Ac (ldB hb rfl) ?_)
  | (guard_target=~Ag (.int _) _ _;refine Aq ?_)
  | (guard_target=~Ag .str _ _;refine Ak ?_)
  | (guard_target=~Ag .bool _ _;refine Ap ?_)
 refine Aa (fun g=>?_) fun g=>?_
 ·rw[if_pos (by omega)]at h0
  refine h0 0 st rfl (StX.refl _ _) h ?_
  rw[hr]
  have:slc x.s i (i+0)=[]:=List.eq_nil_of_length_eq_zero (by rw[Mk (by omega) (by omega)];omega)
  rw[this]
 rw[if_neg (by omega)]at h0 h1
 repeat' first
  | (guard_target=~need _ _;refine Ab rfl ?_)
  | (guard_target=~Ah (Ad _ _ _ _) _;refine Ac (ldB hb rfl) ?_)
  | (guard_target=~Ag (.int _) _ _;refine Aq ?_)
  | (guard_target=~Ag .str _ _;refine Ak ?_)
  | (guard_target=~Ag .bool _ _;refine Ap ?_)
 refine⟨⟨by omega,by omega⟩,?_⟩
 rw[tn]
 refine Aa (fun g2=>?_) fun g2=>Aa (fun g3=>?_) fun g3=>?_
 ·have g2':by_ x.s i=13:=g2
  rw[if_neg (by omega),if_neg (by omega)]at h0 h1
  repeat' first
   | (guard_target=~need _ _;refine Ab rfl ?_)
   | (guard_target=~Ah (Ad _ _ _ _) _;refine Ac (ldB hb rfl) ?_)
   | (guard_target=~Ag (.int _) _ _;refine Aq ?_)
   | (guard_target=~Ag .str _ _;refine Ak ?_)
   | (guard_target=~Ag .bool _ _;refine Ap ?_)
  refine FV hb rfl fun st1 e1 b1=>?_
  rw[w1 i (by omega)]at b1
  have k1:=h.of e1 b1
  repeat' first
   | (guard_target=~need _ _;refine Ab rfl ?_)
   | (guard_target=~Ah (Ad _ _ _ _) _;refine Ac (ldB b1 rfl) ?_)
   | (guard_target=~Ag (.int _) _ _;refine Aq ?_)
   | (guard_target=~Ag .str _ _;refine Ak ?_)
   | (guard_target=~Ag .bool _ _;refine Ap ?_)
  refine Aa (fun g3=>?_) fun g3=>?_
  ·rw[if_pos (by omega)]at h1
   repeat' first
    | (guard_target=~need _ _;refine Ab rfl ?_)
    | (guard_target=~Ah (Ad _ _ _ _) _;refine Ac (ldB b1 rfl) ?_)
    | (guard_target=~Ag (.int _) _ _;refine Aq ?_)
    | (guard_target=~Ag .str _ _;refine Ak ?_)
    | (guard_target=~Ag .bool _ _;refine Ap ?_)
   have e3:((i+1:Nat):Int)=(x.s.length:Int):=g3
   rw[e3]
   exact DB k1 fun st2 e2 k2=>h1 _ _ _ st2 rfl (e1.pm.trans e2).pm3 k2 (rk2 _ (e1.pm.trans e2))
  rw[if_neg (by omega)]at h0 h1
  repeat' first
   | (guard_target=~need _ _;refine Ab rfl ?_)
   | (guard_target=~Ah (Ad _ _ _ _) _;refine Ac (ldB b1 rfl) ?_)
   | (guard_target=~Ag (.int _) _ _;refine Aq ?_)
   | (guard_target=~Ag .str _ _;refine Ak ?_)
   | (guard_target=~Ag .bool _ _;refine Ap ?_)
  refine⟨⟨by omega,by omega⟩,?_⟩
  rw[tn]
  refine Aa (fun g4=>?_) fun g4=>?_
  ·have g4':by_ x.s (i+1)≠10:=g4
   rw[if_neg g4']at h1
   exact DB k1 fun st2 e2 k2=>h1 _ _ _ st2 rfl (e1.pm.trans e2).pm3 k2 (rk2 _ (e1.pm.trans e2))
  ·have g4':by_ x.s (i+1)=10:=Decidable.not_not.1 g4
   rw[if_pos g4']at h0
   repeat' first
    | (guard_target=~need _ _;refine Ab rfl ?_)
    | (guard_target=~Ah (Ad _ _ _ _) _;refine Ac (ldB b1 rfl) ?_)
    | (guard_target=~Ag (.int _) _ _;refine Aq ?_)
    | (guard_target=~Ag .str _ _;refine Ak ?_)
    | (guard_target=~Ag .bool _ _;refine Ap ?_)
   refine FV b1 rfl fun st2 e2 b2=>?_
   rw[w1 (i+1) (by omega)]at b2
   have k2:=k1.of e2 b2
   repeat' first
    | (guard_target=~need _ _;refine Ab rfl ?_)
    | (guard_target=~Ah (Ad _ _ _ _) _;refine Ac (ldB b2 rfl) ?_)
    | (guard_target=~Ag (.int _) _ _;refine Aq ?_)
    | (guard_target=~Ag .str _ _;refine Ak ?_)
    | (guard_target=~Ag .bool _ _;refine Ap ?_)
   refine⟨⟨by omega,by omega,by omega⟩,FV (rk st2 (e1.trans e2)) rfl fun st3 e3 b3=>?_⟩
   exact h0 2 st3 rfl (hp3 _ _ (e1.pm.trans e2.pm) e3) (k2.other e3 hrp hrm) b3
 ·have g3':by_ x.s i=10:=g3
  rw[if_pos g3']at h0
  repeat' first
   | (guard_target=~need _ _;refine Ab rfl ?_)
   | (guard_target=~Ah (Ad _ _ _ _) _;refine Ac (ldB hb rfl) ?_)
   | (guard_target=~Ag (.int _) _ _;refine Aq ?_)
   | (guard_target=~Ag .str _ _;refine Ak ?_)
   | (guard_target=~Ag .bool _ _;refine Ap ?_)
  refine FV hb rfl fun st1 e1 b1=>?_
  rw[w1 i (by omega)]at b1
  have k1:=h.of e1 b1
  repeat' first
   | (guard_target=~need _ _;refine Ab rfl ?_)
   | (guard_target=~Ah (Ad _ _ _ _) _;refine Ac (ldB b1 rfl) ?_)
   | (guard_target=~Ag (.int _) _ _;refine Aq ?_)
   | (guard_target=~Ag .str _ _;refine Ak ?_)
   | (guard_target=~Ag .bool _ _;refine Ap ?_)
  refine⟨⟨by omega,by omega,by omega⟩,FV (rk st1 e1) rfl fun st3 e3 b3=>?_⟩
  exact h0 1 st3 rfl (hp3 _ _ e1.pm e3) (k1.other e3 hrp hrm) b3
 ·have g2':by_ x.s i≠13:=g2
  have g3':by_ x.s i≠10:=g3
  rw[if_neg g3',if_pos g2']at h1
  exact DB h fun st2 e2 k2=>h1 _ _ _ st2 rfl e2.pm3 k2 (rk2 _ e2)
end
end
def Aw:Nd->List Nd | .mk _ _ _ ks _=>ks
def AW (n:Nd):B8:=match Aw n with | .mk _ _ c _ _::_=>c | []=>[]
theorem DW (s:B8) (i e:Nat) (m:List Nd):AW (LQ s i e m)=slc s i e:=rfl
theorem ME {x:Cx} {i:Nat} {v:Int} {ns:List B8} {e:Nat} {v1:Int} {ns1:List B8} (h:Fk x false i v ns= .ok (e,v1,ns1)):
  3<=x.dep/\v<x.nod/\v1=v+1/\ns1=ns/\CI x.a x.q x.s i= .ok e/\(txt x.q (slc x.s i e)).length<=65536:=by
 simp only[Fk,GP,Bool.false_eq_true,if_false,false_and]at h
 split at h
 ·cases h
 ·split at h
  ·cases h
  ·simp only[bind,Except.bind]at h
   split at h
   ·cases h
   ·rename_i e' he
    split at h
    ·cases h
    ·cases h
     exact⟨by omega,by omega,rfl,rfl,he,by omega⟩
theorem SG {x:Cx} {i:Nat} {v:Int} {ns:List B8} {e:Nat} (h1:3<=x.dep) (h2:v<x.nod) (h3:CI x.a x.q x.s i= .ok e) (h4:(txt x.q (slc x.s i e)).length<=65536):
  Fk x false i v ns= .ok (e,v+1,ns):=by
 simp only[Fk,GP,Bool.false_eq_true,if_false,false_and]
 rw[if_neg (by omega),if_neg (by omega)]
 simp only[bind,Except.bind,h3]
 rw[if_neg (by omega)]
theorem entE_9 {x:Cx} {i:Nat} {v:Int} {ns:List B8} (h:x.dep<3):Fk x false i v ns= .error (i,9):=by
 simp only[Fk,GP,Bool.false_eq_true,if_false]
 rw[if_pos h];rfl
theorem entE_10 {x:Cx} {i:Nat} {v:Int} {ns:List B8} (h:3<=x.dep) (h2:x.nod<=v):Fk x false i v ns= .error (i,10):=by
 simp only[Fk,GP,Bool.false_eq_true,if_false]
 rw[if_neg (by omega),if_pos h2];rfl
theorem NL {x:Cx} {i:Nat} {v:Int} {ns:List B8} {e:Nat} {v1:Int} {ns1:List B8} (h:Fk x true i v ns= .ok (e,v1,ns1)):
  v1=v/\CI x.a x.q x.s i= .ok e/\(txt x.q (slc x.s i e)).length<=1024:=by
 simp only[Fk,if_true,true_and]at h
 simp only[bind,Except.bind]at h
 split at h
 ·cases h
 ·rename_i e' he
  split at h
  ·cases h
  ·split at h
   ·cases h
   ·cases h
    exact⟨rfl,he,by omega⟩
abbrev Cx.lim (x:Cx) (d n:Int):Cx:={x with dep:=d,nod:=n}
theorem YW {x:Cx} {num hd:Bool} {wid:Int}:∀(n:Nat) {acc:List Nd} {i:Nat} {v:Int} {ns:List B8} {e:Nat} {v':Int} {ns':List B8} {out:List Nd},
  i<=x.s.length->CK x num wid hd n acc i v ns= .ok (e,v',ns',out)->∃ks m,out=acc++ks/\JI x.a x.q x.s i ks e m/\v'=v+(if hd then 0 else(ks.length:Int))/\
   (∀k∈ks,(txt x.q (AW k)).length<=65536)/\(num=true->(out.length:Int)<=wid)/\(hd=false->3<=x.dep/\v'<=x.nod/\ns'=ns):=by
 intro n
 induction n with
 | zero=>intro acc i v ns e v' ns' out hi h;simp only[CK]at h;cases h
 | succ n ih=>
  intro acc i v ns e v' ns' out hi h
  simp only[CK]at h
  split at h
  ·cases h
  rename_i hw
  simp only[bind,Except.bind]at h
  split at h
  ·cases h
  rename_i p he
  obtain⟨e1,v1,ns1⟩:=p
  have hent:CI x.a x.q x.s i= .ok e1/\(txt x.q (slc x.s i e1)).length<=65536/\v1=v+(if hd then 0 else 1)/\(hd=false->3<=x.dep/\v1<=x.nod/\ns1=ns):=by
   cases hd with
   | false=>have:=ME he;exact⟨this.2.2.2.2.1,this.2.2.2.2.2,by simpa using this.2.2.1,fun _=>⟨this.1,by omega,this.2.2.2.1⟩⟩
   | true=>have:=NL he;exact⟨this.2.1,by omega,by simpa using this.1,fun h=>by cases h⟩
  obtain⟨c1,c2,c3,c4⟩:=hent
  have hle:=De hi c1
  simp only at h
  split at h
  ·rename_i hm
   obtain⟨ks,m,k1,k2,k3,k4,k5,k6⟩:=ih (by omega) h
   refine⟨_::ks,m,by rw[k1,List.append_assoc];rfl,.more c1 hm.1 hm.2 k2,?_,?_,k5,fun hh=>?_⟩
   ·rw[k3,c3];cases hd<;>simp<;>omega
   ·intro k hk
    rcases List.mem_cons.1 hk with rfl | hk
    ·exact c2
    ·exact k4 k hk
   ·have:=k6 hh;have:=c4 hh;exact⟨by omega,by omega,by rw[(k6 hh).2.2,this.2.2]⟩
  ·rename_i hm
   split at h
   ·cases h
   rename_i m hm2
   cases h
   refine⟨_,_,rfl,.last c1 hm hm2,by rw[c3];cases hd<;>simp,?_,?_,fun hh=>⟨(c4 hh).1,(c4 hh).2.1,(c4 hh).2.2⟩⟩
   ·intro k hk
    rw[List.mem_singleton]at hk;subst hk;exact c2
   ·intro hn
    rw[List.length_append,List.length_singleton]
    have:¬wid<=(acc.length:Int):=fun h=>hw ⟨hn,h⟩
    omega
theorem recE_of {x:Cx} {num:Bool} {wid:Int} (hdep:3<=x.dep):∀{i:Nat} {ks:List Nd} {e m:Nat},JI x.a x.q x.s i ks e m->∀(n:Nat) {acc:List Nd} {v:Int} {ns:List B8},
  i<=x.s.length->x.s.length<i+n->(∀k∈ks,(txt x.q (AW k)).length<=65536)->(num=true->((acc.length+ks.length:Nat):Int)<=wid)->v+(ks.length:Int)<=x.nod->CK x num wid false n acc i v ns= .ok (e,v+(ks.length:Int),ns,acc++ks):=by
 intro i ks e m h
 induction h with
 | @last i e m h1 h2 h3=>
  intro n acc v ns hi hn hk hw hv
  cases n with
  | zero=>omega
  | succ n=>
  simp only[CK]
  rw[if_neg (by rintro⟨h,h'⟩;have:=hw h;simp at this;omega)]
  have hc:=hk _ (List.mem_singleton.2 rfl)
  rw[DW]at hc
  rw[SG hdep (by simp at hv;omega) h1 hc]
  simp only[bind,Except.bind]
  rw[if_neg h2,h3]
  rfl
 | @more i e e' m ks h1 h2 h3 h4 ih=>
  intro n acc v ns hi hn hk hw hv
  cases n with
  | zero=>omega
  | succ n=>
  simp only[CK]
  simp only[List.length_cons]at hw hv
  rw[if_neg (by rintro⟨h,h'⟩;have:=hw h;omega)]
  have hc:=hk _ (List.mem_cons_self ..)
  rw[DW]at hc
  rw[SG hdep (by omega) h1 hc]
  simp only[bind,Except.bind]
  have hle:=De hi h1
  rw[if_pos ⟨h2,h3⟩,ih n (by omega) (by omega) (fun k hk2=>hk k (List.mem_cons_of_mem _ hk2)) (fun h=>by have:=hw h;rw[List.length_append,List.length_singleton];omega) (by omega),List.append_assoc,List.length_cons]
  congr 2
  have:v+1+(ks.length:Int)=v+((ks.length+1:Nat):Int):=by omega
  rw[this];rfl
theorem XD {x:Cx} {num:Bool} {wid:Int} (d' n':Int):∀(n:Nat) {acc:List Nd} {i:Nat} {v:Int} {ns:List B8},
  CK (x.lim d' n') num wid true n acc i v ns=CK x num wid true n acc i v ns:=by
 intro n
 induction n with
 | zero=>intros;rfl
 | succ n ih=>
  intro acc i v ns
  simp only[CK]
  have:Fk (x.lim d' n') true i v ns=Fk x true i v ns:=rfl
  rw[this]
  simp only[ih]
theorem YV {x:Cx} {num:Bool} {wid:Int} {d' n':Int}:∀(n:Nat) {acc:List Nd} {i:Nat} {v:Int} {ns:List B8} {e:Nat} {v':Int} {ns':List B8} {out:List Nd},
  CK x num wid false n acc i v ns= .ok (e,v',ns',out)->v<v'/\(3<=d'->v'<=n'->CK (x.lim d' n') num wid false n acc i v ns= .ok (e,v',ns',out))/\
   (3<=d'->n'<v'->∃o,CK (x.lim d' n') num wid false n acc i v ns= .error (o,10))/\(d'<3->∃o,CK (x.lim d' n') num wid false n acc i v ns= .error (o,9)):=by
 intro n
 induction n with
 | zero=>intro acc i v ns e v' ns' out h;simp only[CK]at h;cases h
 | succ n ih=>
  intro acc i v ns e v' ns' out h
  simp only[CK]at h⊢
  split at h
  ·cases h
  rename_i hw
  rw[if_neg hw]
  simp only[bind,Except.bind]at h⊢
  split at h
  ·cases h
  rename_i p he
  obtain⟨e1,v1,ns1⟩:=p
  obtain⟨c1,c2,rfl,rfl,c3,c4⟩:=ME he
  simp only at h
  have e9:d'<3->Fk (x.lim d' n') false i v ns1= .error (i,9):=fun h=>entE_9 h
  have e10:3<=d'->n'<=v->Fk (x.lim d' n') false i v ns1= .error (i,10):=fun h h2=>entE_10 h h2
  have eok:3<=d'->v<n'->Fk (x.lim d' n') false i v ns1= .ok (e1,v+1,ns1):=fun h h2=>SG h h2 c3 c4
  split at h
  ·rename_i hm
   obtain⟨k0,k1,k2,k3⟩:=ih h
   refine⟨by omega,fun h1 h2=>?_,fun h1 h2=>?_,fun h1=>?_⟩
   ·rw[eok h1 (by omega)]
    simp only
    rw[if_pos hm];exact k1 h1 h2
   ·by_cases hv:n'<=v
    ·rw[e10 h1 hv];exact⟨_,rfl⟩
    ·rw[eok h1 (by omega)]
     simp only
     rw[if_pos hm];exact k2 h1 h2
   ·rw[e9 h1];exact⟨_,rfl⟩
  ·rename_i hm
   split at h
   ·cases h
   rename_i m hm2
   cases h
   refine⟨by omega,fun h1 h2=>?_,fun h1 h2=>?_,fun h1=>?_⟩
   ·rw[eok h1 (by omega)]
    simp only
    rw[if_neg hm,hm2]
   ·rw[e10 h1 (by omega)];exact⟨_,rfl⟩
   ·rw[e9 h1];exact⟨_,rfl⟩
def Kj (s:B8) (num:Bool) (wid:Int) (R:Except (Nat×Int) (Nat×Int×List B8×List Nd)):Except (Nat×Int) (Nat×Int×List B8×Nd×Int):=
 match R with
 | .error e=> .error e
 | .ok (e,v2,ns2,ks)=>match EA s e with
  | .error e=> .error e
  | .ok n=>if (ks.length:Int)<(if num then wid else(ks.length:Int))then .error (e,10)else .ok (e+n,v2,ns2,.mk 8 [] [] ks (slc s e (e+n)),if num then wid else(ks.length:Int))
theorem G0 (x:Cx) (num:Bool) (wid:Int) (hd:Bool) (i:Nat) (v:Int) (ns:List B8):Hl x num wid hd i v ns=
  if hd=true then Kj x.s num wid (CK x num wid hd (x.s.length+1) [] i v ns)else match GP x.dep x.nod 2 i v with
   | .error e=> .error e
   | .ok v1=>Kj x.s num wid (CK x num wid hd (x.s.length+1) [] i v1 ns):=by
 unfold Hl Kj
 cases hd with
 | true=>
  simp only[if_true,bind,Except.bind]
  rcases CK x num wid true (x.s.length+1) [] i v ns with e | ⟨e,v2,ns2,ks⟩
  ·rfl
  ·cases h:EA x.s e<;>simp[h]
 | false=>
  simp only[Bool.false_eq_true,if_false,bind,Except.bind]
  cases GP x.dep x.nod 2 i v with
  | error e=>rfl
  | ok v1=>
   simp only
   rcases CK x num wid false (x.s.length+1) [] i v1 ns with e | ⟨e,v2,ns2,ks⟩
   ·rfl
   ·cases h:EA x.s e<;>simp[h]
theorem Xf {dep nod d:Int} {i:Nat} {v v1:Int} (h:GP dep nod d i v= .ok v1):v1=v+1:=by
 unfold GP at h
 split at h
 ·cases h
 split at h
 ·cases h
 ·cases h;rfl
theorem Iy {x:Cx} {num hd:Bool} {wid:Int} {i:Nat} {v:Int} {ns:List B8} {p:Nat×Int×List B8×Nd×Int} (h:Hl x num wid hd i v ns= .ok p):
  ∃v1,v1=v+(if hd then 0 else 1)/\Kj x.s num wid (CK x num wid hd (x.s.length+1) [] i v1 ns)= .ok p:=by
 rw[G0]at h
 cases hd with
 | true=>exact⟨v,by simp,by simpa using h⟩
 | false=>
  simp only[Bool.false_eq_true,if_false]at h
  split at h
  ·cases h
  ·rename_i v1 h1
   exact⟨v1,by simpa using Xf h1,h⟩
theorem OD {s:B8} {num:Bool} {wid:Int} {R:Except (Nat×Int) (Nat×Int×List B8×List Nd)} {p:Nat×Int×List B8×Nd×Int} (h:Kj s num wid R= .ok p):
  ∃e v2 ns2 ks m,R= .ok (e,v2,ns2,ks)/\EA s e= .ok m/\¬(ks.length:Int)<(if num then wid else(ks.length:Int))/\p=(e+m,v2,ns2,.mk 8 [] [] ks (slc s e (e+m)),if num then wid else(ks.length:Int)):=by
 unfold Kj at h
 split at h
 ·cases h
 rename_i e v2 ns2 ks
 split at h
 ·cases h
 rename_i m hm
 by_cases hw:(ks.length:Int)<(if num then wid else(ks.length:Int))
 ·rw[if_pos hw]at h;cases h
 ·rw[if_neg hw]at h
  exact⟨e,v2,ns2,ks,m,rfl,hm,hw,(Except.ok.inj h).symm⟩
section
theorem HR (st:St) {a:Int} (c:UInt8) (hc:(c.toNat:Int)=a):(toBytes st (.list 1 .full 1 [.int .u8 a])).map TV.str=some (.str [c]):=by
 have:UInt8.ofNat a.toNat=c:=by rw[<-hc];simp
 rw[<-this];rfl
def P9 (x:Cx) (i e:Nat):Nd:=LQ x.s i e (if e<x.s.length/\by_ x.s e=x.a then [.mk 11 [] [x.s.getD e 0] [] []]else [])
def MF (x:Cx) (e:Nat):Nat:=if e<x.s.length/\by_ x.s e=x.a then e+1 else e
def YL (c:B8):List TV:=[.int .i64 2,.str [],.str c,.nilSlice,.str []]
def mrkC (c:UInt8):List TV:=[.int .i64 11,.str [],.str [c],.nilSlice,.str []]
theorem NdC.leaf (k:Int) (t:B8):NdC (.mk k [] t [] []) [.int .i64 k,.str [],.str t,.nilSlice,.str []]:=by
 unfold NdC;exact⟨_,[],rfl,.inl ⟨rfl,rfl,rfl⟩,BI.nil⟩
theorem NdC.ent1 {s:B8} {i e:Nat} {v:TV} (h:Rd 5 v 1 (YL (slc s i e))):NdC (LQ s i e []) [.int .i64 5,.str [],.str [],v,.str []]:=by
 unfold LQ NdC
 exact⟨v,_,rfl,h,BI.one (NdC.leaf 2 _)⟩
theorem NdC.ent2 {s:B8} {i e:Nat} {c:UInt8} {v:TV} (h:Rd 5 v 2 (YL (slc s i e)++mrkC c)):NdC (LQ s i e [.mk 11 [] [c] [] []]) [.int .i64 5,.str [],.str [],v,.str []]:=by
 unfold LQ NdC
 exact⟨v,_,rfl,h,BI.append (BI.one (NdC.leaf 2 _)) (BI.one (NdC.leaf 11 _))⟩
theorem KX {S:Nat->Prop} {T sz bytes:Nat} {st0 st:St} {v:TV} {n k:Nat} {xs ys:List TV} {K:TV->St->Prop} (e:StX S st0 st) (h:Own st0.nt sz st v n xs) (hby:(n+k)*bytes<=140737488355328) (hys:k=0->ys=[])
  (hK:∀v' st',StX S st0 st'->st'.box=st.box->st'.nb=st.nb->Own st0.nt sz st' v' (n+k) (xs++ys)->K v' st'):Bs T sz bytes v k ys st K:=by
 have ef:∀st' T,StX S st0 st'->StX S st0 (st'.fresh T):=fun st' T h=>h.trans (StX.of ((Al.refl st').fresh _))
 rcases h with⟨rfl,rfl,rfl⟩ | ⟨tip,rfl,ht⟩
 ·simp only[Bs]
  cases k with
  | zero=>rw[hys rfl]at hK;exact hK _ _ e rfl rfl (.nil _ _ _)
  | succ m=>
   simp only[Ar]
   refine⟨by simpa using hby,hK _ _ (ef _ _ e) rfl rfl ?_⟩
   simp only[List.nil_append,Nat.zero_add]
   exact Own.fresh _ _ e.nt
 ·simp only[Bs,Nat.beq_refl]
  refine⟨hby,?_⟩
  rcases ht with rfl | ⟨id,rfl,h1,h2,h3⟩
  ·cases k with
   | zero=>rw[hys rfl]at hK;simp only[List.append_nil]at hK;exact hK _ _ e rfl rfl (Own.full _ _ _ _ _)
   | succ m=>exact hK _ _ (ef _ _ e) rfl rfl (Own.fresh _ _ e.nt)
  ·have er:StX S st0 (st.retire id):=⟨e.nb,e.box,e.nt,fun i hi=>by simp only[St.retire];rw[if_neg (by omega)];exact e.live i hi,e.ty,e.bt⟩
   exact⟨h3,hK _ _ (ef _ _ er) rfl rfl (Own.fresh (st:=st.retire id) _ _ e.nt)⟩
theorem PSD.same {p m:Nat} {x:Cx} {hd ty:Bool} {l2 l3 l4:Int} {ns:List B8} {i n w o e:Int} {st st':St} (h:PSD p m x hd ty l2 l3 l4 ns i n w o e st) (hb:st'.box=st.box) (hn:st'.nb=st.nb):
  PSD p m x hd ty l2 l3 l4 ns i n w o e st':=by
 obtain⟨es,h1,h2⟩:=h.mp
 exact⟨h.ne,by rw[hn];exact h.lp,by rw[hn];exact h.lm,by rw[hb];exact h.bx,es,by rw[hb];exact h1,h2⟩
theorem PD {v:TV} (h:As v=true):List.all [v] As=true:=by simp[h]
def V3 (x:Cx) (hd:Bool) (i:Nat) (v1:Int) (ns:List B8):Except (Nat×Int) (Nat×Int×List B8):=
 match CI x.a x.q x.s i with
 | .error e=> .error e
 | .ok e=>if (if hd then 1024 else 65536)<(txt x.q (slc x.s i e)).length then .error (i,10)else if hd/\txt x.q (slc x.s i e)∈ns then .error (i,8)
  else .ok (e,v1,if hd then txt x.q (slc x.s i e)::ns else ns)
theorem SH (x:Cx) (hd:Bool) (i:Nat) (v:Int) (ns:List B8):Fk x hd i v ns=if hd=true then V3 x hd i v ns else match GP x.dep x.nod 3 i v with
  | .error e=> .error e
  | .ok v1=>V3 x hd i v1 ns:=by
 unfold Fk V3
 cases hd with
 | true=>simp only[if_true,bind,Except.bind];cases CI x.a x.q x.s i<;>rfl
 | false=>
  simp only[Bool.false_eq_true,if_false,bind,Except.bind]
  cases GP x.dep x.nod 3 i v with
  | error e=>rfl
  | ok v1=>simp only;cases CI x.a x.q x.s i<;>rfl
section
variable {p m:Nat} {x:Cx} {hd ty:Bool} {l2 l3 l4:Int} {ns:List B8} {I v w o e:Int} {st:St}
theorem XM {i:Nat} {header:Bool} {K:Int->B8->B8->TV->B8->Bool->St->Prop} (hI:I=(i:Int)) (hi:i<=x.s.length) (hl:x.s.length<=2000000) (hv0:0<=v) (hv:v<1000000000)
  (h:PSD p m x hd ty l2 l3 l4 ns I v w o e st)
  (h0:∀(k:Nat) v1 ns1 kv st',Fk x header i v ns= .ok (k,v1,ns1)->StX (PM p m) st st'->PSD p m x hd ty l2 l3 l4 ns1 (MF x k:Nat) v1 w o e st'->NdC (P9 x i k) [.int .i64 5,.str [],.str [],kv,.str []]->Rd 5 kv (if k<x.s.length/\by_ x.s k=x.a then 2 else 1) (if k<x.s.length/\by_ x.s k=x.a then YL (slc x.s i k)++mrkC (x.s.getD k 0)else YL (slc x.s i k))->K 5 [] [] kv [] true st')
  (h1:∀(o':Nat) e' (k v1:Int) kv st',Fk x header i v ns= .error (o',e')->StX (PM p m) st st'->PSD p m x hd ty l2 l3 l4 ns k v1 w o' e' st'->As kv=true->K 5 [] [] kv [] false st'):
  CallT PR AQ [.box p 0,.bool header] [.agg [.int .i64,.str,.str,.tv,.str],.one .bool] st K:=by
 subst hI
 have hb:=h.bx
 have tn:∀k:Nat,Int.toNat (k:Int)=k:=fun k=>rfl
 have w1:∀k:Nat,k<=x.s.length->i64.wrap ((k:Int)+1)=((k+1:Nat):Int):=fun k hk=>by rw[Af _ (by omega) (by omega)];omega
 --behind the checks
 have fin:∀(k:Nat) (v1:Int) ns1,i<=k->k<=x.s.length->Fk x header i v ns= .ok (k,v1,ns1)->
   ∀(v4:TV) (st8:St),StX (PM p m) st st8->PSD p m x hd ty l2 l3 l4 ns1 k v1 w o e st8->Own st.nt 5 st8 v4 1 (YL (slc x.s i k))->
    (k<x.s.length->by_ x.s k=x.a->∀st9,StX (·=p) st8 st9->st9.box p= .cells ((pcl x hd ty l2 l3 l4 m k v1 w o e).set 10 (.int .i64 (i64.wrap ((k:Int)+1))))->Bs 79 5 80 v4 1 (mrkC (x.s.getD k 0)) st9 fun v5 st10=>need (List.all [v5] As) (need (List.all [.int .i64 5,.str [],.str [],v5,.str []] As) (K 5 [] [] v5 [] true st10)))/\
    (¬(k<x.s.length/\by_ x.s k=x.a)->K 5 [] [] v4 [] true st8):=by
  intro k v1 ns1 hik hk he v4 st8 e8 k8 o8
  refine⟨fun c1 c2 st9 e9 b9=>?_,fun c=>?_⟩
  ·rw[w1 k (by omega)]at b9
   have hen:P9 x i k=LQ x.s i k [.mk 11 [] [x.s.getD k 0] [] []]:=by unfold P9;rw[if_pos ⟨c1,c2⟩]
   refine KX (e8.trans e9.pm) (o8.extXD e9) (by omega) (fun h=>by cases h) fun v5 st10 e10 hbx hnb o10=>Ab (PD o10.rd.one) (Ab (Fb o10.rd.one) ?_)
   refine h0 k v1 ns1 v5 st10 he e10 ?_ (by rw[hen];exact NdC.ent2 o10.rd) (by rw[if_pos ⟨c1,c2⟩,if_pos ⟨c1,c2⟩];exact o10.rd)
   have:MF x k=k+1:=by unfold MF;rw[if_pos ⟨c1,c2⟩]
   rw[this]
   exact(k8.of e9 b9).same hbx hnb
  ·have hen:P9 x i k=LQ x.s i k []:=by unfold P9;rw[if_neg c]
   refine h0 k v1 ns1 v4 st8 he e8 ?_ (by rw[hen];exact NdC.ent1 o8.rd) (by rw[if_neg c,if_neg c];exact o8.rd)
   have:MF x k=k:=by unfold MF;rw[if_neg c]
   rw[this]
   exact k8
 refine Jd p header st K (Aj (fun hh=>?_) fun hh=>?_)
 case' refine_1=>
  have hh:header=false:=by simpa using hh
  rw[SH,if_neg (by rw[hh];decide)]at h0 h1 fin
  refine Rh rfl hv0 hv h (fun v' st1 hb1 e1 k1=>?_) fun o' e' st1 hb1 e1 k1=>?_
  case' refine_2=>
   rw[hb1]at h1
   exact Aj (fun _=>h1 _ _ _ _ _ st1 rfl e1 k1 rfl) fun h=>by cases h
  rw[hb1]at h0 h1 fin
  refine Aj (fun h=>by cases h) fun _=>?_
  simp only at h0 h1 fin
 case' refine_2=>
  have hh:header=true:=by simpa using hh
  rw[SH,if_pos hh]at h0 h1 fin
  obtain⟨v',hv'⟩:∃v',v'=v:=⟨_,rfl⟩
  obtain⟨st1,hst1⟩:∃st1,st1=st:=⟨_,rfl⟩
  have e1:StX (PM p m) st st1:=hst1▸StX.refl _ _
  have k1:PSD p m x hd ty l2 l3 l4 ns i v' w o e st1:=by rw[hst1,hv'];exact h
  rw[<-hst1]
  rw[<-hv']at h0 h1 fin
 all_goals
  have b1:=k1.bx
  repeat' first
   | (guard_target=~need _ _;refine Ab rfl ?_)
   | (guard_target=~Ah (Ad _ _ _ _) _;refine Ac (ldB b1 rfl) ?_)
   | (guard_target=~Ag (.int _) _ _;refine Aq ?_)
   | (guard_target=~Ag .str _ _;refine Ak ?_)
   | (guard_target=~Ag .bool _ _;refine Ap ?_)
  refine Y4 rfl hi hl k1 (fun k st2 hc e2 k2=>?_) fun o' e' k st2 hc e2 k2=>?_
  case' refine_2=>
   unfold V3 at h1
   rw[hc]at h1
   exact Aj (fun _=>h1 _ _ _ _ _ st2 rfl (e1.trans e2) k2 rfl) fun h=>by cases h
  refine Aj (fun h=>by cases h) fun _=>?_
  have hle:=De hi hc
  have hW:=SW hi hc
  have b2:=k2.bx
  unfold V3 at h0 h1 fin
  rw[hc]at h0 h1 fin
  simp only at h0 h1 fin
  repeat' first
   | (guard_target=~need _ _;refine Ab rfl ?_)
   | (guard_target=~Ah (Ad _ _ _ _) _;refine Ac (ldB b2 rfl) ?_)
   | (guard_target=~Ag (.int _) _ _;refine Aq ?_)
   | (guard_target=~Ag .str _ _;refine Ak ?_)
   | (guard_target=~Ag .bool _ _;refine Ap ?_)
  refine⟨⟨by omega,by omega,by omega⟩,Ac (x:= .agg [.int .u8 x.a,.int .u8 x.q,.bool hd,.bool ty]) (by rw[ldsB b2 rfl rfl];rfl) ?_⟩
  rw[tn,tn]
  refine Pf hW (by show(slc x.s i k).length<=_;rw[Mk hle.1 hle.2];omega) fun st3 e3=>?_
  have k3:=k2.keep (StX.of (S:=fun _=>False) e3) (fun h=>h) (fun h=>h)
  have e4:=(e1.trans e2).trans (StX.of e3)
  refine⟨fun mo p' hd' fr c t kd ld tx kv tl st'=>mo=(if header then 1024 else 65536)/\TV.box p 0=p'/\header=hd'/\(i:Int)=fr/\slc x.s i k=c/\txt x.q (slc x.s i k)=t/\5=kd/\[]=ld/\[]=tx/\TV.nilSlice=kv/\[]=tl/\st3=st',
   Aj (fun h=>⟨by rw[h];rfl,rfl,rfl,rfl,rfl,rfl,rfl,rfl,rfl,rfl,rfl,rfl⟩) (fun h=>⟨by rw[h];rfl,rfl,rfl,rfl,rfl,rfl,rfl,rfl,rfl,rfl,rfl,rfl⟩),?_⟩
  rintro _ _ _ _ _ _ _ _ _ _ _ _ ⟨rfl,rfl,rfl,rfl,rfl,rfl,rfl,rfl,rfl,rfl,rfl,rfl⟩
  refine Aa (fun g=>?_) fun g=>?_
  ·rw[if_pos (by cases header<;>simp at g⊢<;>omega)]at h1
   exact DB k3 fun st4 e5 k4=>Ab rfl (h1 _ _ _ _ _ st4 rfl (e4.trans e5) k4 rfl)
  rw[if_neg (by cases header<;>simp at g⊢<;>omega)]at h0 h1 fin
  have b3:=k3.bx
  obtain⟨es,hm1,hm2⟩:=k3.mp
  refine Aj (fun g2=>?_) fun g2=>?_
  case' refine_1=>
   repeat' first
    | (guard_target=~need _ _;refine Ab rfl ?_)
    | (guard_target=~Ah (Ad _ _ _ _) _;refine Ac (ldB b3 rfl) ?_)
    | (guard_target=~Ag (.int _) _ _;refine Aq ?_)
    | (guard_target=~Ag .str _ _;refine Ak ?_)
    | (guard_target=~Ag .bool _ _;refine Ap ?_)
   refine Ac (x:=es) (by simp only[EI,hm1]) ?_
   rw[hm2]
   by_cases hin:txt x.q (slc x.s i k)∈ns
   case' pos=>
    rw[if_pos hin]
    rw[if_pos ⟨g2,hin⟩]at h1
    refine Ap (Aj (fun _=>?_) fun h=>by cases h)
    exact DB k3 fun st4 e5 k4=>Ab rfl (h1 _ _ _ _ _ st4 rfl (e4.trans e5) k4 rfl)
   rw[if_neg hin]
   rw[if_neg (by rintro⟨_,h⟩;exact hin h),if_pos g2]at h0 fin
   refine Ap (Aj (fun h=>by cases h) fun _=>?_)
   repeat' first
    | (guard_target=~need _ _;refine Ab rfl ?_)
    | (guard_target=~Ah (Ad _ _ _ _) _;refine Ac (ldB b3 rfl) ?_)
    | (guard_target=~Ag (.int _) _ _;refine Aq ?_)
    | (guard_target=~Ag .str _ _;refine Ak ?_)
    | (guard_target=~Ag .bool _ _;refine Ap ?_)
   refine⟨es,hm1,?_⟩
   obtain⟨st7,hst7⟩:∃st7,st7=st3.put m (.map (Kc (txt x.q (slc x.s i k)) (.bool true) es)):=⟨_,rfl⟩
   rw[<-hst7]
   have e7:StX (PM p m) st st7:=by rw[hst7];exact e4.trans (StX.put (.inr rfl) _)
   have k7:PSD p m x hd ty l2 l3 l4 (txt x.q (slc x.s i k)::ns) k v' w o e st7:=by
    refine⟨k3.ne,by rw[hst7];exact k3.lp,by rw[hst7];exact k3.lm,?_,_,?_,hm2.add _⟩
    ·rw[hst7];simp only[St.put];rw[if_neg k3.ne];exact k3.bx
    ·rw[hst7,Cy]
  case' refine_2=>
   rw[if_neg (by rintro⟨h,_⟩;rw[g2]at h;cases h),if_neg (by rw[g2];decide)]at h0 fin
   obtain⟨st7,hst7⟩:∃st7,st7=st3:=⟨_,rfl⟩
   rw[<-hst7]
   have e7:StX (PM p m) st st7:=by rw[hst7];exact e4
   have k7:PSD p m x hd ty l2 l3 l4 ns k v' w o e st7:=by rw[hst7];exact k3
  all_goals
   refine KX e7 (Own.nil _ _ _) (by omega) (fun h=>by cases h) fun v4 st8 e8 hbx hnb o8=>Ab (PD o8.rd.one) ?_
   have k8:=k7.same hbx hnb
   have b8:=k8.bx
   obtain⟨f1,f2⟩:=fin k v' _ hle.1 hle.2 rfl v4 st8 e8 k8 o8
   repeat' first
    | (guard_target=~need _ _;refine Ab rfl ?_)
    | (guard_target=~Ah (Ad _ _ _ _) _;refine Ac (ldB b8 rfl) ?_)
    | (guard_target=~Ag (.int _) _ _;refine Aq ?_)
    | (guard_target=~Ag .str _ _;refine Ak ?_)
    | (guard_target=~Ag .bool _ _;refine Ap ?_)
   refine Aa (fun q1=>?_) fun q1=>?_
   ·repeat' first
     | (guard_target=~need _ _;refine Ab rfl ?_)
     | (guard_target=~Ah (Ad _ _ _ _) _;refine Ac (ldB b8 rfl) ?_)
     | (guard_target=~Ag (.int _) _ _;refine Aq ?_)
     | (guard_target=~Ag .str _ _;refine Ak ?_)
     | (guard_target=~Ag .bool _ _;refine Ap ?_)
    refine⟨⟨by omega,by omega⟩,?_⟩
    repeat' first
     | (guard_target=~need _ _;refine Ab rfl ?_)
     | (guard_target=~Ah (Ad _ _ _ _) _;refine Ac (ldB b8 rfl) ?_)
     | (guard_target=~Ag (.int _) _ _;refine Aq ?_)
     | (guard_target=~Ag .str _ _;refine Ak ?_)
     | (guard_target=~Ag .bool _ _;refine Ap ?_)
    rw[tn]
    refine Aa (fun q2=>?_) fun q2=>?_
    ·repeat' first
      | (guard_target=~need _ _;refine Ab rfl ?_)
      | (guard_target=~Ah (Ad _ _ _ _) _;refine Ac (ldB b8 rfl) ?_)
      | (guard_target=~Ag (.int _) _ _;refine Aq ?_)
      | (guard_target=~Ag .str _ _;refine Ak ?_)
      | (guard_target=~Ag .bool _ _;refine Ap ?_)
     refine FV b8 rfl fun st9 e9 b9=>?_
     repeat' first
      | (guard_target=~need _ _;refine Ab rfl ?_)
      | (guard_target=~Ah (Ad _ _ _ _) _;refine Ac (ldB b9 rfl) ?_)
      | (guard_target=~Ag (.int _) _ _;refine Aq ?_)
      | (guard_target=~Ag .str _ _;refine Ak ?_)
      | (guard_target=~Ag .bool _ _;refine Ap ?_)
     refine Ac (HR _ (x.s.getD k 0) q2) ?_
     exact f1 (by omega) q2 st9 e9 b9
    ·exact Ab (Fb o8.rd.one) (f2 fun h=>q2 h.2)
   ·exact Ab (Fb o8.rd.one) (f2 fun h=>absurd h.1 (by omega))
end
end
section
theorem Rc (x:Cx) (num:Bool) (wid:Int) (hd:Bool) (n:Nat) (acc:List Nd) (i:Nat) (v:Int) (ns:List B8):CK x num wid hd (n+1) acc i v ns=
  if num=true/\wid<=(acc.length:Int)then .error (i,10)else match Fk x hd i v ns with
   | .error e=> .error e
   | .ok (e,v1,ns1)=>if e<x.s.length/\by_ x.s e=x.a then CK x num wid hd n (acc++[P9 x i e]) (e+1) v1 ns1 else match EA x.s e with
    | .error e=> .error e
    | .ok _=> .ok (e,v1,ns1,acc++[P9 x i e]):=by
 simp only[CK]
 by_cases hw:num=true/\wid<=(acc.length:Int)
 ·rw[if_pos hw,if_pos hw]
 rw[if_neg hw,if_neg hw]
 simp only[bind,Except.bind]
 rcases Fk x hd i v ns with e | ⟨e,v1,ns1⟩
 ·rfl
 simp only
 by_cases hm:e<x.s.length/\by_ x.s e=x.a
 ·rw[if_pos hm,if_pos hm]
  unfold P9;rw[if_pos hm]
 ·rw[if_neg hm,if_neg hm]
  unfold P9;rw[if_neg hm]
  cases EA x.s e<;>rfl
theorem WX {x:Cx} {hd:Bool} {i:Nat} {v:Int} {ns:List B8} {e:Nat} {v1:Int} {ns1:List B8} (hi:i<=x.s.length) (h:Fk x hd i v ns= .ok (e,v1,ns1)):i<=e/\e<=x.s.length/\v<=v1/\v1<=v+1:=by
 cases hd with
 | true=>have:=NL h;have h2:=De hi this.2.1;omega
 | false=>have:=ME h;have h2:=De hi this.2.2.2.2.1;omega
theorem StX.out {p m r:Nat} {a b c:St} (h:StX (PM p m) a b) (k:StX (PM3 p m r) b c) (hr:a.nb<=r):StX (PM p m) a c:=
 ⟨Nat.le_trans h.nb k.nb,fun i hi hs=>(k.box i (Nat.lt_of_lt_of_le hi h.nb) (by rintro(g | g | g);exact hs (.inl g);exact hs (.inr g);omega)).trans (h.box i hi hs),Nat.le_trans h.nt k.nt,fun i hi=>(k.live i (Nat.lt_of_lt_of_le hi h.nt)).trans (h.live i hi),fun i hi=>(k.ty i (Nat.lt_of_lt_of_le hi h.nt)).trans (h.ty i hi),fun i hi=>(k.bt i (Nat.lt_of_lt_of_le hi h.nb)).trans (h.bt i hi)⟩
theorem StX.r3 {p m r:Nat} {a b:St} (h:StX (·=r) a b):StX (PM3 p m r) a b:=h.mono fun _ g=> .inr (.inr g)
theorem YI {st:St} {b off:Nat} {xs:List TV} {l:List TV} {k:St->Prop} (hb:st.box b= .cells l) (hl:off+xs.length<=l.length) (hk:∀st',StX (·=b) st st'->st'.box b= .cells (setAll l off xs)->k st'):stB st (.box b off) xs k:=
 ⟨l,hb,hl,hk _ (StX.put (S:=(·=b)) rfl _) (Cy _ _ _)⟩
theorem PP {st:St} {b:Nat} {c0 c1 c2 c3 c4:TV} (hb:st.box b= .cells [c0,c1,c2,c3,c4]):(Ai st [] (.t (.box b 0)) 0 5).map TV.agg=some (.agg [c0,c1,c2,c3,c4]):=by
 rw[show Ai st [] (.t (.box b 0)) 0 5=some [c0,c1,c2,c3,c4]from ldsB hb rfl rfl];rfl
theorem Kw {k:Int} {l t tl:B8} {u:TV} {f:Int->B8->B8->TV->B8->Prop} (h:f k l t u tl):AO [.int .i64,.str,.str,.tv,.str] (.agg [.int .i64 k,.str l,.str t,u,.str tl]) f:=h
theorem BIf_tail {p H:Prop} [Decidable p] {A X:Prop} (t:H->X) (h1:p->(H->X)->A) (h2:¬p->H):BIf (decide p) A X:=Aa (fun q=>h1 q t) fun q=>t (h2 q)
section
variable {p m:Nat} {x:Cx} {hd ty:Bool} {l2 l3 l4:Int} {ns:List B8} {I v w o e:Int} {st:St}
theorem Vt {i:Nat} {N:Int} {K:Int->B8->B8->TV->B8->Bool->St->Prop} (hI:I=(i:Int)) (hi:i<=x.s.length) (hl:x.s.length<=2000000) (hv0:0<=v) (hv:v<=100000000) (hN:0<=N)
  (h:PSD p m x hd ty l2 l3 l4 ns I v w o e st)
  (h0:∀(k:Nat) v1 ns1 r w1 kv tl st',Hl x (decide (N≠0)) w (decide (N=0)&&hd) i v ns= .ok (k,v1,ns1,r,w1)->StX (PM p m) st st'->PSD p m x hd ty l2 l3 l4 ns1 k v1 w1 o e st'->NdC r [.int .i64 8,.str [],.str [],kv,.str tl]->K 8 [] [] kv tl true st')
  (h1:∀(o':Nat) e' ns1 (k v1 w1:Int) kv tl st',Hl x (decide (N≠0)) w (decide (N=0)&&hd) i v ns= .error (o',e')->StX (PM p m) st st'->PSD p m x hd ty l2 l3 l4 ns1 k v1 w1 o' e' st'->As kv=true->K 8 [] [] kv tl false st'):
  CallT PR CP [.box p 0,.int .i64 N] [.agg [.int .i64,.str,.str,.tv,.str],.one .bool] st K:=by
 subst hI
 have hb:=h.bx
 have tn:∀k:Nat,Int.toNat (k:Int)=k:=fun k=>rfl
 obtain⟨header,hhd⟩:∃b,b=(decide (N=0)&&hd):=⟨_,rfl⟩
 rw[<-hhd]at h0 h1
 --the record's own box
 obtain⟨r,hr⟩:∃r,r=st.nb:=⟨_,rfl⟩
 have hrp:p≠r:=by have:=h.lp;omega
 have hrm:m≠r:=by have:=h.lm;omega
 have start:∀st1,StX (·=r) (st.push (.cells [.int .i64 0,.str [],.str [],.nilSlice,.str []]) (some 79)) st1->st1.box r= .cells [.int .i64 8,.str [],.str [],.nilSlice,.str []]->
   StX (PM p m) st st1/\PSD p m x hd ty l2 l3 l4 ns i v w o e st1/\r<st1.nb:=fun st1 e1 b1=>by
  have e0:StX (PM3 p m r) (st.push (.cells [.int .i64 0,.str [],.str [],.nilSlice,.str []]) (some 79)) st1:=e1.r3
  have ep:StX (PM p m) st (st.push (.cells [.int .i64 0,.str [],.str [],.nilSlice,.str []]) (some 79)):=StX.of ((Al.refl st).push _ _)
  refine⟨ep.out e0 (by omega),(h.keep (StX.of (S:=fun _=>False) ((Al.refl st).push _ _)) (fun h=>h) fun h=>h).other e1 hrp hrm,?_⟩
  have:=e1.nb
  simp only[St.push]at this
  omega
 have rk:∀sta stb L,StX (PM p m) sta stb->r<sta.nb->sta.box r= .cells L->stb.box r= .cells L:=fun sta stb L e hlt h=>by
  rw[e.box r hlt (fun h=>h.elim (fun h=>hrp h.symm) fun h=>hrm h.symm)];exact h
 obtain⟨num,hnum⟩:∃b,b=decide (N≠0):=⟨_,rfl⟩
 have hnum1:num=true↔N≠0:=by rw[hnum];simp
 rw[<-hnum]at h0 h1
 generalize hD:Hl x num w header i v ns=D0 at h0 h1
 rw[G0]at hD
 --the loop's start:behind the first value
 refine Ic p N st K (Aa (fun hn=>?_) fun hn=>?_)
 case' refine_1=>
  repeat' first
   | (guard_target=~need _ _;refine Ab rfl ?_)
   | (guard_target=~Ah (Ad _ _ _ _) _;refine Ac (ldB hb rfl) ?_)
   | (guard_target=~Ag (.int _) _ _;refine Aq ?_)
   | (guard_target=~Ag .str _ _;refine Ak ?_)
   | (guard_target=~Ag .bool _ _;refine Ap ?_)
  rw[<-hr]
  refine YI (b:=r) (by rw[hr];exact GO _ _ _) (by simp) fun st1 e1 b1=>?_
  have b1:st1.box r= .cells [.int .i64 8,.str [],.str [],.nilSlice,.str []]:=b1
  obtain⟨f1,k1,lr1⟩:=start st1 e1 b1
  refine Aj (fun hh=>?_) fun hh=>?_
 case' refine_2=>
  rw[<-hr]
  refine YI (b:=r) (by rw[hr];exact GO _ _ _) (by simp) fun st1 e1 b1=>?_
  have b1:st1.box r= .cells [.int .i64 8,.str [],.str [],.nilSlice,.str []]:=b1
  obtain⟨f1,k1,lr1⟩:=start st1 e1 b1
 case' refine_1.refine_1=>
  have hhd':header=hd:=by rw[hhd,hn];simp
  have hhf:header=false:=by rw[hhd'];simpa using hh
 case' refine_2=>
  have hhf:header=false:=by rw[hhd];simp[hn]
  have hhd':header=false:=hhf
 case' refine_1.refine_2=>
  have hhd':header=hd:=by rw[hhd,hn];simp
  have hht:header=true:=by rw[hhd'];simpa using hh
  rw[if_pos hht]at hD
  have hv1:v<=v/\v<=v+1:=by omega
  have f2:=f1
  have k2:=k1
  have lr2:=lr1
  have b2:=b1
 case' refine_1.refine_1 | refine_2=>
  rw[if_neg (by rw[hhf];decide)]at hD
  refine Rh rfl hv0 (by omega) k1 (fun v' st2 hb1 e2 k2=>?_) fun o' e' st2 hb1 e2 k2=>?_
 case' refine_1.refine_1.refine_2 | refine_2.refine_2=>
  rw[hb1]at hD
  refine Aj (fun _=>?_) fun h=>by cases h
  have b2:=rk _ _ _ e2 lr1 b1
  refine Ac (PP b2) (Kw ?_)
  exact Ab (Fb (u:= .nilSlice) rfl) (h1 _ _ _ _ _ _ .nilSlice [] st2 hD.symm (f1.trans e2) k2 rfl)
 case' refine_1.refine_1.refine_1 | refine_2.refine_1=>
  rw[hb1]at hD
  simp only at hD
  refine Aj (fun h=>by cases h) fun _=>?_
  have b2:=rk _ _ _ e2 lr1 b1
  have hv1:v<=v'/\v'<=v+1:=by have:=Xf hb1;omega
  have f2:=f1.trans e2
  have lr2:r<st2.nb:=Nat.lt_of_lt_of_le lr1 e2.nb
 all_goals
  refine⟨fun p' N' hd' r' st'=>TV.box p 0=p'/\N=N'/\header=hd'/\TV.box r 0=r'/\∃(j n:Nat) (acc:List Nd) (v1:Int) (ns1:List B8) (kv:TV) (xs:List TV),StX (PM p m) st st'/\r<st'.nb/\PSD p m x hd ty l2 l3 l4 ns1 j v1 w o e st'/\
    st'.box r= .cells [.int .i64 8,.str [],.str [],kv,.str []]/\Own st.nt 5 st' kv acc.length xs/\BI acc xs/\j<=x.s.length/\x.s.length<j+n/\acc.length<=j/\0<=v1/\v1<=v+1+j/\Kj x.s num w (CK x num w header n acc j v1 ns1)=D0,
   fun _ _ _ _ st'=>(x.s.length-Oi st' p 10).toNat,⟨rfl,rfl,hhd',rfl,i,x.s.length+1,[],_,ns,.nilSlice,[],f2,lr2,k2,b2,Own.nil _ _ _,BI.nil,hi,by omega,by simp,by omega,by omega,hD⟩,?_⟩
  rintro _ _ _ _ st3 ⟨rfl,rfl,rfl,rfl,j,n,acc,v1,ns1,kv,xs,f3,lr3,k3,b3,o3,hx,hj,hjn,hac,hv3,hv4,hE⟩
  cases n with
  | zero=>omega
  | succ n=>
  rw[Rc]at hE
  have bp3:=k3.bx
  refine BIf_tail (H:=¬(num=true/\w<=(acc.length:Int))) (fun hw=>?_) (fun q t=>?_) (fun q=>by rintro⟨h,_⟩;have:=hnum1.1 h;omega)
  ·rw[if_neg hw]at hE
   refine XM rfl hj hl (by omega) (by omega) k3 (fun k v2 ns2 v4 st4 he e4 k4 hc4 hr4=>?_) fun o' e' k' v' v4 st4 he e4 k4 ho4=>?_
   ·rw[he]at hE
    simp only at hE
    have hle:=WX hj he
    refine Ab (Fb hr4.one) (Aj (fun h=>by cases h) fun _=>?_)
    have b4:=rk _ _ _ e4 lr3 b3
    repeat' first
     | (guard_target=~need _ _;refine Ab rfl ?_)
     | (guard_target=~Ah (Ad _ _ _ _) _;refine Ac (ldB b4 rfl) ?_)
     | (guard_target=~Ag (.int _) _ _;refine Aq ?_)
     | (guard_target=~Ag .str _ _;refine Ak ?_)
     | (guard_target=~Ag .bool _ _;refine Ap ?_)
    refine Ab o3.rd.isSl ?_
    repeat' first
     | (guard_target=~need _ _;refine Ab rfl ?_)
     | (guard_target=~Ah (Ad _ _ _ _) _;refine Ac (ldB b4 rfl) ?_)
     | (guard_target=~Ag (.int _) _ _;refine Aq ?_)
     | (guard_target=~Ag .str _ _;refine Ak ?_)
     | (guard_target=~Ag .bool _ _;refine Ap ?_)
    refine Ab (Fb hr4.one) ⟨rfl,?_⟩
    refine KX (f3.trans e4) (o3.extXD e4) (by omega) (fun h=>by cases h) fun v5 st5 e5 hbx hnb o5=>?_
    have b5:st5.box r= .cells [.int .i64 8,.str [],.str [],kv,.str []]:=by rw[hbx];exact b4
    refine FV b5 rfl fun st6 e6 b6=>?_
    have k6:=(k4.same hbx hnb).other e6 hrp hrm
    have f6:StX (PM p m) st st6:=e5.out e6.r3 (by omega)
    have lr6:r<st6.nb:=by have h1:=e4.nb;have h2:=e6.nb;omega
    have hx6:=hx.append (BI.one hc4)
    have o6:=o5.extXD e6
    have hlen:(acc++[P9 x j k]).length=acc.length+1:=by simp
    refine Ab hr4.isSl ?_
    rw[hr4.lenS]
    by_cases hmk:k<x.s.length/\by_ x.s k=x.a
    ·rw[if_pos hmk]at hE
     rw[if_pos hmk]
     refine Aa (fun h=>absurd h (by decide)) fun _=>?_
     have hat:MF x k=k+1:=by unfold MF;rw[if_pos hmk]
     rw[hat]at k6
     refine⟨⟨rfl,rfl,rfl,rfl,k+1,n,_,v2,ns2,v5,_,f6,lr6,k6,b6,by rw[hlen];exact o6,hx6,by omega,by omega,by omega,by omega,by omega,hE⟩,?_⟩
     dsimp only
     rw[Ej k6.bx rfl,Ej bp3 rfl]
     omega
    ·rw[if_neg hmk]at hE
     rw[if_neg hmk]
     refine Aa (fun _=>?_) fun h=>absurd rfl h
     have hat:MF x k=k:=by unfold MF;rw[if_neg hmk]
     rw[hat]at k6
     have bp6:=k6.bx
     repeat' first
      | (guard_target=~need _ _;refine Ab rfl ?_)
      | (guard_target=~Ah (Ad _ _ _ _) _;refine Ac (ldB bp6 rfl) ?_)
      | (guard_target=~Ag (.int _) _ _;refine Aq ?_)
      | (guard_target=~Ag .str _ _;refine Ak ?_)
      | (guard_target=~Ag .bool _ _;refine Ap ?_)
     refine T0 rfl hle.2.1 hl k6 hrp hrm lr6 b6 (fun n7 st7 hle7 e7 k7 b7=>?_) fun o' e' k' st7 hle7 e7 k7 b7=>?_
     ·rw[hle7]at hE
      simp only[Kj,hle7]at hE
      rw[hlen]at hE
      have f7:=f6.out e7 (by omega)
      have lr7:r<st7.nb:=Nat.lt_of_lt_of_le lr6 e7.nb
      have o7:=o6.extXD e7
      have bp7:=k7.bx
      have hnd:NdC (.mk 8 [] [] (acc++[P9 x j k]) (slc x.s k (k+n7))) [.int .i64 8,.str [],.str [],v5,.str (slc x.s k (k+n7))]:=by
       unfold NdC;exact⟨v5,_,rfl,by rw[hlen];exact o7.rd,hx6⟩
      refine Aj (fun h=>by cases h) fun _=>Aa (fun q0=>?_) fun q0=>?_
      ·have hn0:num=false:=by cases hb:num with | true=>exact absurd q0 (hnum1.1 hb) | false=>rfl
       rw[hn0,if_neg (by simp)]at hE
       repeat' first
        | (guard_target=~need _ _;refine Ab rfl ?_)
        | (guard_target=~Ah (Ad _ _ _ _) _;refine Ac (ldB b7 rfl) ?_)
        | (guard_target=~Ag (.int _) _ _;refine Aq ?_)
        | (guard_target=~Ag .str _ _;refine Ak ?_)
        | (guard_target=~Ag .bool _ _;refine Ap ?_)
       refine Ab o7.rd.isSl ?_
       rw[o7.rd.lenS]
       repeat' first
        | (guard_target=~need _ _;refine Ab rfl ?_)
        | (guard_target=~Ah (Ad _ _ _ _) _;refine Ac (ldB b7 rfl) ?_)
        | (guard_target=~Ag (.int _) _ _;refine Aq ?_)
        | (guard_target=~Ag .str _ _;refine Ak ?_)
        | (guard_target=~Ag .bool _ _;refine Ap ?_)
       refine FV bp7 rfl fun st8 e8 bp8=>?_
       have b8:st8.box r= .cells [.int .i64 8,.str [],.str [],v5,.str (slc x.s k (k+n7))]:=by rw[e8.box r lr7 fun h=>hrp h.symm];exact b7
       have k8:=k7.of e8 bp8
       repeat' first
        | (guard_target=~need _ _;refine Ab rfl ?_)
        | (guard_target=~Ah (Ad _ _ _ _) _;refine Ac (ldB b8 rfl) ?_)
        | (guard_target=~Ag (.int _) _ _;refine Aq ?_)
        | (guard_target=~Ag .str _ _;refine Ak ?_)
        | (guard_target=~Ag .bool _ _;refine Ap ?_)
       refine Ab o7.rd.isSl ?_
       rw[o7.rd.lenS]
       repeat' first
        | (guard_target=~need _ _;refine Ab rfl ?_)
        | (guard_target=~Ah (Ad _ _ _ _) _;refine Ac (ldB bp8 rfl) ?_)
        | (guard_target=~Ag (.int _) _ _;refine Aq ?_)
        | (guard_target=~Ag .str _ _;refine Ak ?_)
        | (guard_target=~Ag .bool _ _;refine Ap ?_)
       refine Aa (fun h=>absurd h (by omega)) fun _=>?_
       refine Ac (PP b8) (Kw ?_)
       refine Ab (Fb o7.rd.one) (h0 _ _ _ _ _ _ _ st8 hE.symm (f7.trans e8.pm) ?_ hnd)
       exact k8
      ·have hn1:num=true:=hnum1.2 q0
       rw[hn1,if_pos rfl]at hE
       repeat' first
        | (guard_target=~need _ _;refine Ab rfl ?_)
        | (guard_target=~Ah (Ad _ _ _ _) _;refine Ac (ldB b7 rfl) ?_)
        | (guard_target=~Ag (.int _) _ _;refine Aq ?_)
        | (guard_target=~Ag .str _ _;refine Ak ?_)
        | (guard_target=~Ag .bool _ _;refine Ap ?_)
       refine Ab o7.rd.isSl ?_
       rw[o7.rd.lenS]
       repeat' first
        | (guard_target=~need _ _;refine Ab rfl ?_)
        | (guard_target=~Ah (Ad _ _ _ _) _;refine Ac (ldB bp7 rfl) ?_)
        | (guard_target=~Ag (.int _) _ _;refine Aq ?_)
        | (guard_target=~Ag .str _ _;refine Ak ?_)
        | (guard_target=~Ag .bool _ _;refine Ap ?_)
       refine Aa (fun q1=>?_) fun q1=>?_
       ·rw[if_pos q1]at hE
        refine Ac (PP b7) (Kw ?_)
        refine DB k7 fun st8 e8 k8=>⟨?_,Ab (Fb o7.rd.one) (h1 _ _ _ _ _ _ _ _ st8 hE.symm (f7.trans e8) k8 o7.rd.one)⟩
        rw[ldsB (rk _ _ _ e8 lr7 b7) rfl rfl];rfl
       ·rw[if_neg q1]at hE
        refine Ac (PP b7) (Kw ?_)
        exact Ab (Fb o7.rd.one) (h0 _ _ _ _ _ _ _ st7 hE.symm f7 k7 hnd)
     ·rw[hle7]at hE
      refine Aj (fun _=>?_) fun h=>by cases h
      refine Ac (PP b7) (Kw ?_)
      exact Ab (Fb o6.rd.one) (h1 _ _ _ _ _ _ _ _ st7 hE.symm (f6.out e7 (by omega)) k7 o6.rd.one)
   ·rw[he]at hE
    refine Ab (Fb ho4) (Aj (fun _=>?_) fun h=>by cases h)
    have b4:=rk _ _ _ e4 lr3 b3
    refine Ac (PP b4) (Kw ?_)
    exact Ab (Fb o3.rd.one) (h1 _ _ _ _ _ _ _ _ st4 hE.symm (f3.trans e4) k4 o3.rd.one)
  ·have hnm:num=true:=hnum1.2 (by omega)
   repeat' first
    | (guard_target=~need _ _;refine Ab rfl ?_)
    | (guard_target=~Ah (Ad _ _ _ _) _;refine Ac (ldB b3 rfl) ?_)
    | (guard_target=~Ag (.int _) _ _;refine Aq ?_)
    | (guard_target=~Ag .str _ _;refine Ak ?_)
    | (guard_target=~Ag .bool _ _;refine Ap ?_)
   refine Ab o3.rd.isSl ?_
   repeat' first
    | (guard_target=~need _ _;refine Ab rfl ?_)
    | (guard_target=~Ah (Ad _ _ _ _) _;refine Ac (ldB bp3 rfl) ?_)
    | (guard_target=~Ag (.int _) _ _;refine Aq ?_)
    | (guard_target=~Ag .str _ _;refine Ak ?_)
    | (guard_target=~Ag .bool _ _;refine Ap ?_)
   rw[o3.rd.lenS]
   refine Aa (fun q2=>?_) fun q2=>?_
   ·rw[if_pos ⟨hnm,q2⟩]at hE
    refine Ac (PP b3) (Kw ?_)
    repeat' first
     | (guard_target=~need _ _;refine Ab rfl ?_)
     | (guard_target=~Ah (Ad _ _ _ _) _;refine Ac (ldB bp3 rfl) ?_)
     | (guard_target=~Ag (.int _) _ _;refine Aq ?_)
     | (guard_target=~Ag .str _ _;refine Ak ?_)
     | (guard_target=~Ag .bool _ _;refine Ap ?_)
    refine DB k3 fun st4 e4 k4=>⟨?_,Ab (Fb o3.rd.one) (h1 _ _ _ _ _ _ _ _ st4 hE.symm (f3.trans e4) k4 o3.rd.one)⟩
    rw[ldsB (rk _ _ _ e4 lr3 b3) rfl rfl];rfl
   ·exact t fun h=>q2 h.2
end
end
end Go.TVF
