/- What the laws below rest on: a framework for Go programs, and contracts of the functions that they reach. -/
import Derived.Test.YtagglahlkknacaaGreatDoorDiD
set_option maxRecDepth 20000
set_option linter.unusedVariables false
set_option linter.unusedSimpArgs false
namespace Go.TVF
open Go.IntKind(i64 u8)
open Go Go.Proofs
theorem Bo {n w:Nat} (hw:w<=100) (hn:n<=1000000000000000000) {st:St} {K:B8->St->Prop} (hk:∀st',Ae st st'->K (AA w n) st'):CallT PR Al [.int .i64 (n:Int),.int .i64 (w:Int)] [.one .str] st K:=by
 refine Hg _ _ st K ⟨⟨by omega,by omega,by rw[Int.toNat_natCast];omega⟩,?_⟩
 rw[Int.toNat_natCast,Ac _ (by omega) (by omega)]
 refine⟨fun n1 i b st'=>TV.ms 1 st.nb 0 w w=b/\∃(j m:Nat) (t:B8),i=(j:Int)-1/\n1=m/\m<=n/\j+t.length=w/\AA w n=AA j m++t/\BxB st st' b (List.replicate j 0++t),fun _ i _ _=>(i+1).toNat,⟨rfl,w,n,[],rfl,rfl,Nat.le_refl _,rfl,by simp,by simpa using BxB.make (Ae.refl st) w⟩,?_⟩
 rintro _ _ _ st1 ⟨rfl,j,m,t,rfl,rfl,hm,hj,he,hb⟩
 have hlen:(List.replicate j (0:UInt8)++t).length=w:=by simp;omega
 refine Aa (fun g=>?_) fun g=>?_
 ·obtain⟨i,rfl⟩:∃i,j=i+1:=⟨j-1,by omega⟩
  have hi:(((i+1:Nat):Int)-1)=(i:Int):=by omega
  rw[hi,hb.rd.lenZ,Int.toNat_natCast]
  refine⟨⟨by omega,by omega⟩,hb.set (c:=(48+m%10).toUInt8) (by rw[Nd _ rfl];rfl) (by omega) fun st2 hb2=>?_⟩
  have hd:i64.wrap ((m:Int).tdiv 10)=((m/10:Nat):Int):=by rw[Int.tdiv_eq_ediv_of_nonneg (by omega),Ac _ (by omega) (by omega)];omega
  rw[hd,Ac _ (by omega) (by omega)]
  refine⟨⟨rfl,i,m/10,(48+m%10).toUInt8::t,rfl,rfl,by omega,by rw[List.length_cons];omega,by rw[he,AA,List.append_assoc];rfl,?_⟩,by dsimp only;omega⟩
  have:(List.replicate (i+1) (0:UInt8)++t).set i (48+m%10).toUInt8=List.replicate i 0++(48+m%10).toUInt8::t:=by
   rw[List.replicate_succ',List.append_assoc,List.set_append_right _ _ (by simp),List.length_replicate,Nat.sub_self];rfl
  rw[<-this];exact hb2
 ·have:j=0:=by omega
  subst this
  rw[List.replicate_zero,List.nil_append]at hb
  rw[AA,List.nil_append]at he
  rw[<-he]at hb
  exact hb.str (hk _ hb.ext)
theorem DE {n w:Nat} (hw:w<=100) (hn:n<=1000000000000000000) {st:St} {K:B8->St->Prop} (hk:K (AA w n) st):CallT PR Ah [.int .i64 (n:Int),.int .i64 (w:Int)] [.one .str] st K:=by
 refine FS _ _ st K ⟨fun n1 s i w1 st'=>(w:Int)=w1/\st=st'/\∃j m:Nat,i=(w:Int)-j/\n1=m/\m<=n/\j+s.length=w/\AA w n=AA j m++s,fun _ _ i _ _=>((w:Int)-i).toNat,⟨rfl,rfl,w,n,by omega,rfl,Nat.le_refl _,rfl,by simp⟩,?_⟩
 rintro _ s _ _ _ ⟨rfl,rfl,j,m,rfl,rfl,hm,hj,he⟩
 refine Aa (fun g=>?_) fun g=>?_
 ·obtain⟨i,rfl⟩:∃i,j=i+1:=⟨j-1,by omega⟩
  refine Am (x:= .str [(48+m%10).toUInt8]) ?_ (G3 ⟨by rw[List.length_singleton];omega,?_⟩)
  ·rw[Nd _ rfl]
   show(Cy [Cg _]).map _=_
   have:=A7 [(48+m%10).toUInt8]
   simp only[Ai,List.map_cons,List.map_nil]at this
   rw[this];rfl
  ·have hd:i64.wrap ((m:Int).tdiv 10)=((m/10:Nat):Int):=by rw[Int.tdiv_eq_ediv_of_nonneg (by omega),Ac _ (by omega) (by omega)];omega
   rw[hd,Ac _ (by omega) (by omega)]
   refine⟨⟨rfl,rfl,i,m/10,by omega,rfl,by omega,by rw[List.length_append,List.length_singleton];omega,by rw[he,AA,List.append_assoc]⟩,by dsimp only;omega⟩
 ·have:j=0:=by omega
  subst this
  rw[AA,List.nil_append]at he
  rw[<-he];exact hk
theorem Lr {n:Nat} (hn:n<=3652058) {st:St} {K:B8->St->Prop} (hk:∀st',Ae st st'->K (G4 n) st'):CallT PR AN [.int .i64 (n:Int)] [.one .str] st K:=by
 refine Ge _ st K (date_ok hn fun y m d hd=>?_)
 have he:=Ni hd
 obtain⟨a1,a2,a3,a4,a5,a6,a7⟩:=hd
 have hm:=EC y m
 have l4:=At 4 y
 have l2:=At 2 m
 have l3:=At 2 d
 refine Bo (w:=4) (by omega) (by omega) fun st1 e1=>⟨by rw[l4];show 4+1<=_;omega,Bo (w:=2) (by omega) (by omega) fun st2 e2=>⟨by rw[List.length_append,l4,l2];show 4+1+2<=_;omega,by rw[List.length_append,List.length_append,l4,l2];show 4+1+2+1<=_;omega,Bo (w:=2) (by omega) (by omega) fun st3 e3=>⟨by simp only[List.length_append,l4,l2,l3];show 4+1+2+1+2<=_;omega,?_⟩⟩⟩
 have:=hk st3 ((e1.trans e2).trans e3)
 rw[he,List.append_cons,List.append_cons,List.append_assoc (AA 4 y++[45]),<-List.append_assoc,<-List.append_assoc]at this
 exact this
theorem IR {f:B8} (h:f≠ []):f=f.take (f.length-1)++[f.getD (f.length-1) 0]:=by
 have hp:=List.length_pos_iff.2 h
 have:=BY f (f.length-1) 0 (by omega)
 rw[show f.length-1+1=f.length by omega,List.take_length]at this
 exact this
theorem Kn {n:Nat} (hn:n<=86399999999999) {st:St} {K:B8->St->Prop} (hk:∀st',Ae st st'->K (HG n) st'):CallT PR AJ [.int .i64 (n:Int)] [.one .str] st K:=by
 refine FP _ st K ?_
 have e1:i64.wrap ((n:Int).tdiv 1000000000)=((n/1000000000:Nat):Int):=by rw[Int.tdiv_eq_ediv_of_nonneg (by omega),Ac _ (by omega) (by omega)];omega
 have e2:i64.wrap (((n/1000000000:Nat):Int).tdiv 3600)=((n/1000000000/3600:Nat):Int):=by rw[Int.tdiv_eq_ediv_of_nonneg (by omega),Ac _ (by omega) (by omega)];omega
 have e3:(i64.wrap (((n/1000000000:Nat):Int).tdiv 60)).tmod 60=((n/1000000000/60%60:Nat):Int):=by
  rw[Int.tdiv_eq_ediv_of_nonneg (by omega),Ac _ (by omega) (by omega),Int.tmod_eq_emod_of_nonneg (by omega)];omega
 have e4:((n/1000000000:Nat):Int).tmod 60=((n/1000000000%60:Nat):Int):=by rw[Int.tmod_eq_emod_of_nonneg (by omega)];omega
 have e5:(n:Int).tmod 1000000000=((n%1000000000:Nat):Int):=by rw[Int.tmod_eq_emod_of_nonneg (by omega)];omega
 rw[e1,e2,e3,e4,e5]
 have l1:=At 2 (n/1000000000/3600)
 have l2:=At 2 (n/1000000000/60%60)
 have l3:=At 2 (n/1000000000%60)
 refine Bo (w:=2) (by omega) (by omega) fun st1 x1=>⟨by rw[l1];show 2+1<=_;omega,Bo (w:=2) (by omega) (by omega) fun st2 x2=>⟨by rw[List.length_append,l1,l2];show 2+1+2<=_;omega,by rw[List.length_append,List.length_append,l1,l2];show 2+1+2+1<=_;omega,Bo (w:=2) (by omega) (by omega) fun st3 x3=>⟨by simp only[List.length_append,l1,l2,l3];show 2+1+2+1+2<=_;omega,?_⟩⟩⟩
 have e0:=(x1.trans x2).trans x3
 have hpre:∀(f:B8),AA 2 (n/1000000000/3600)++58::(AA 2 (n/1000000000/60%60)++58::(AA 2 (n/1000000000%60)++f))=((((AA 2 (n/1000000000/3600)++[58])++AA 2 (n/1000000000/60%60))++[58])++AA 2 (n/1000000000%60))++f:=fun f=>by
  simp only[List.append_assoc,List.cons_append,List.nil_append]
 unfold HG at hk
 rw[hpre]at hk
 generalize hP:((((AA 2 (n/1000000000/3600)++[58])++AA 2 (n/1000000000/60%60))++[58])++AA 2 (n/1000000000%60))=P at hk
 have hPl:P.length=8:=by rw[<-hP];simp only[List.length_append,l1,l2,l3];rfl
 have hP2:((((AA 2 (n/1000000000/3600)++AS)++AA 2 (n/1000000000/60%60))++AS)++AA 2 (n/1000000000%60))=P:=hP
 rw[hP2]
 refine Aa (fun g=>?_) fun g=>?_
 ·have:=hk st3 e0
  rw[if_pos (by omega),List.append_nil]at this
  exact this
 ·rw[if_neg (by omega)]at hk
  have hr0:n%1000000000≠0:=by omega
  have hcne:=Nj (n:=n%1000000000) (by omega) hr0
  refine Bo (w:=9) (by omega) (by omega) fun st4 x4=>⟨fun f s st'=>P=s/\st4=st'/\E6 f=E6 (AA 9 (n%1000000000))/\f.length<=9,fun f _ _=>f.length,⟨rfl,rfl,rfl,by rw[At];omega⟩,?_⟩
  rintro f _ _ ⟨rfl,rfl,hf,hfl⟩
  have hfne:f≠ []:=fun e=>by
   rw[e]at hf
   exact hcne (hf.symm.trans rfl)
  have hp:=List.length_pos_iff.2 hfne
  rw[Ac _ (by omega) (by omega),show Int.toNat ((f.length:Int)-1)=f.length-1 by omega]
  have hsp:=IR hfne
  have hsn:=HF (f.take (f.length-1)) (f.getD (f.length-1) 0)
  rw[<-hsp]at hsn
  refine⟨⟨by omega,by omega⟩,Aa (fun g2=>⟨⟨by omega,by omega⟩,⟨rfl,rfl,?_,by rw[List.length_take];omega⟩,by dsimp only;rw[List.length_take];omega⟩) fun g2=>⟨by rw[hPl];show 8+1<=_;omega,by rw[List.length_append,hPl];show 8+1+_<=_;omega,?_⟩⟩
  ·rw[if_pos (UInt8.toNat_inj.1 (by show _=48;omega))]at hsn
   rw[<-hsn];exact hf
  ·rw[if_neg (fun e=>g2 (by rw[e];rfl))]at hsn
   have:=hk st4 (e0.trans x4)
   rw[<-hf,hsn,List.append_cons]at this
   exact this
theorem NF {n:Nat} (hn:n<=86399999999999) {st:St} {K:B8->St->Prop} (hk:K (HG n) st):CallT PR AB [.int .i64 (n:Int)] [.one .str] st K:=by
 refine EV _ st K ?_
 have e1:i64.wrap ((n:Int).tdiv 1000000000)=((n/1000000000:Nat):Int):=by rw[Int.tdiv_eq_ediv_of_nonneg (by omega),Ac _ (by omega) (by omega)];omega
 have e2:i64.wrap (((n/1000000000:Nat):Int).tdiv 3600)=((n/1000000000/3600:Nat):Int):=by rw[Int.tdiv_eq_ediv_of_nonneg (by omega),Ac _ (by omega) (by omega)];omega
 have e3:(i64.wrap (((n/1000000000:Nat):Int).tdiv 60)).tmod 60=((n/1000000000/60%60:Nat):Int):=by
  rw[Int.tdiv_eq_ediv_of_nonneg (by omega),Ac _ (by omega) (by omega),Int.tmod_eq_emod_of_nonneg (by omega)];omega
 have e4:((n/1000000000:Nat):Int).tmod 60=((n/1000000000%60:Nat):Int):=by rw[Int.tmod_eq_emod_of_nonneg (by omega)];omega
 have e5:(n:Int).tmod 1000000000=((n%1000000000:Nat):Int):=by rw[Int.tmod_eq_emod_of_nonneg (by omega)];omega
 rw[e1,e2,e3,e4,e5]
 have l1:=At 2 (n/1000000000/3600)
 have l2:=At 2 (n/1000000000/60%60)
 have l3:=At 2 (n/1000000000%60)
 refine DE (w:=2) (by omega) (by omega) ⟨by rw[l1];show 2+1<=_;omega,DE (w:=2) (by omega) (by omega) ⟨by rw[List.length_append,l1,l2];show 2+1+2<=_;omega,by rw[List.length_append,List.length_append,l1,l2];show 2+1+2+1<=_;omega,DE (w:=2) (by omega) (by omega) ⟨by simp only[List.length_append,l1,l2,l3];show 2+1+2+1+2<=_;omega,?_⟩⟩⟩
 have hpre:∀(f:B8),AA 2 (n/1000000000/3600)++58::(AA 2 (n/1000000000/60%60)++58::(AA 2 (n/1000000000%60)++f))=((((AA 2 (n/1000000000/3600)++[58])++AA 2 (n/1000000000/60%60))++[58])++AA 2 (n/1000000000%60))++f:=fun f=>by
  simp only[List.append_assoc,List.cons_append,List.nil_append]
 unfold HG at hk
 rw[hpre]at hk
 generalize hP:((((AA 2 (n/1000000000/3600)++[58])++AA 2 (n/1000000000/60%60))++[58])++AA 2 (n/1000000000%60))=P at hk
 have hPl:P.length=8:=by rw[<-hP];simp only[List.length_append,l1,l2,l3];rfl
 have hP2:((((AA 2 (n/1000000000/3600)++AS)++AA 2 (n/1000000000/60%60))++AS)++AA 2 (n/1000000000%60))=P:=hP
 rw[hP2]
 have hcz:E6 (AA 9 (n%1000000000))=[]↔n%1000000000=0:=⟨fun h=>by
  apply Decidable.byContradiction
  intro h2;exact Nj (by omega) h2 h,fun h=>by rw[h];decide⟩
 have fin:∀f,f=E6 (AA 9 (n%1000000000))->(f=[]->K P st)/\(f≠ []->K ((P++BG)++f) st):=fun f hf=>by
  subst hf
  constructor
  ·intro h
   rw[if_pos (hcz.1 h),List.append_nil]at hk;exact hk
  ·intro h
   rw[if_neg (fun e=>h (hcz.2 e)),List.append_cons]at hk;exact hk
 refine DE (w:=9) (by omega) (by omega) ⟨fun f s st'=>P=s/\st=st'/\E6 f=E6 (AA 9 (n%1000000000))/\f.length<=9,fun f _ _=>f.length,⟨rfl,rfl,rfl,by rw[At];omega⟩,?_⟩
 rintro f _ _ ⟨rfl,rfl,hf,hfl⟩
 refine Aa (fun g=>?_) fun g=>?_
 ·have hfne:f≠ []:=fun e=>by rw[e]at g;simp at g
  have hp:=List.length_pos_iff.2 hfne
  rw[Ac _ (by omega) (by omega),show Int.toNat ((f.length:Int)-1)=f.length-1 by omega]
  have hsp:=IR hfne
  have hsn:=HF (f.take (f.length-1)) (f.getD (f.length-1) 0)
  rw[<-hsp]at hsn
  refine⟨⟨by omega,by omega⟩,Aa (fun g2=>⟨⟨by omega,by omega⟩,⟨rfl,rfl,?_,by rw[List.length_take];omega⟩,by dsimp only;rw[List.length_take];omega⟩) fun g2=>Aa (fun g3=>absurd g3 hfne) fun g3=>⟨by rw[hPl];show 8+1<=_;omega,by rw[List.length_append,hPl];show 8+1+_<=_;omega,?_⟩⟩
  ·rw[if_pos (UInt8.toNat_inj.1 (by show _=48;omega))]at hsn
   rw[<-hsn];exact hf
  ·rw[if_neg (fun e=>g2 (by rw[e];rfl))]at hsn
   exact(fin f (hsn.symm.trans hf)).2 g3
 ·have hf0:f=[]:=List.eq_nil_of_length_eq_zero (by omega)
  refine Aa (fun g3=>?_) fun g3=>absurd hf0 g3
  exact(fin f (by rw[hf0]at hf⊢;exact hf)).1 hf0
theorem Jm {z:Int} (h1: -1439<=z) (h2:z<=1439) {st:St} {K:B8->St->Prop} (hk:∀st',Ae st st'->K (Ka z) st'):CallT PR BP [.int .i64 z] [.one .str] st K:=by
 unfold Ka at hk
 refine Fa _ st K (Aa (fun g=>?_) fun g=>?_)
 ·have:=hk st (Ae.refl _)
  rw[if_pos g]at this;exact this
 ·rw[if_neg g]at hk
  have l1:=At 2 (z.natAbs/60)
  have l2:=At 2 (z.natAbs%60)
  refine Aa (fun g2=>?_) fun g2=>?_
  ·rw[if_pos g2]at hk
   have e1:i64.wrap ((i64.wrap (0-z)).tdiv 60)=((z.natAbs/60:Nat):Int):=by rw[Ac (0-z) (by omega) (by omega),Int.tdiv_eq_ediv_of_nonneg (by omega),Ac _ (by omega) (by omega)];omega
   have e2:(i64.wrap (0-z)).tmod 60=((z.natAbs%60:Nat):Int):=by rw[Ac (0-z) (by omega) (by omega),Int.tmod_eq_emod_of_nonneg (by omega)];omega
   rw[e1,e2]
   refine Bo (w:=2) (by omega) (by omega) fun st1 x1=>⟨by rw[l1];show 1+2<=_;omega,by rw[List.length_append,l1];show 1+2+1<=_;omega,Bo (w:=2) (by omega) (by omega) fun st2 x2=>⟨by simp only[List.length_append,l1,l2];show 1+2+1+2<=_;omega,?_⟩⟩
   have:=hk st2 (x1.trans x2)
   rw[<-List.cons_append,List.append_cons]at this
   exact this
  ·rw[if_neg g2]at hk
   have e1:i64.wrap (z.tdiv 60)=((z.natAbs/60:Nat):Int):=by rw[Int.tdiv_eq_ediv_of_nonneg (by omega),Ac _ (by omega) (by omega)];omega
   have e2:z.tmod 60=((z.natAbs%60:Nat):Int):=by rw[Int.tmod_eq_emod_of_nonneg (by omega)];omega
   rw[e1,e2]
   refine Bo (w:=2) (by omega) (by omega) fun st1 x1=>⟨by rw[l1];show 1+2<=_;omega,by rw[List.length_append,l1];show 1+2+1<=_;omega,Bo (w:=2) (by omega) (by omega) fun st2 x2=>⟨by simp only[List.length_append,l1,l2];show 1+2+1+2<=_;omega,?_⟩⟩
   have:=hk st2 (x1.trans x2)
   rw[<-List.cons_append,List.append_cons]at this
   exact this
theorem LN {z:Int} (h1: -1439<=z) (h2:z<=1439) {st:St} {K:B8->St->Prop} (hk:K (Ka z) st):CallT PR Bv [.int .i64 z] [.one .str] st K:=by
 unfold Ka at hk
 refine Er _ st K (Aa (fun g=>?_) fun g=>?_)
 ·rw[if_pos g]at hk;exact hk
 ·rw[if_neg g]at hk
  have l1:=At 2 (z.natAbs/60)
  have l2:=At 2 (z.natAbs%60)
  refine Aa (fun g2=>?_) fun g2=>?_
  ·rw[if_pos g2]at hk
   have e1:i64.wrap ((i64.wrap (0-z)).tdiv 60)=((z.natAbs/60:Nat):Int):=by rw[Ac (0-z) (by omega) (by omega),Int.tdiv_eq_ediv_of_nonneg (by omega),Ac _ (by omega) (by omega)];omega
   have e2:(i64.wrap (0-z)).tmod 60=((z.natAbs%60:Nat):Int):=by rw[Ac (0-z) (by omega) (by omega),Int.tmod_eq_emod_of_nonneg (by omega)];omega
   rw[e1,e2]
   refine DE (w:=2) (by omega) (by omega) ⟨by rw[l1];show 1+2<=_;omega,by rw[List.length_append,l1];show 1+2+1<=_;omega,DE (w:=2) (by omega) (by omega) ⟨by simp only[List.length_append,l1,l2];show 1+2+1+2<=_;omega,?_⟩⟩
   rw[<-List.cons_append,List.append_cons]at hk
   exact hk
  ·rw[if_neg g2]at hk
   have e1:i64.wrap (z.tdiv 60)=((z.natAbs/60:Nat):Int):=by rw[Int.tdiv_eq_ediv_of_nonneg (by omega),Ac _ (by omega) (by omega)];omega
   have e2:z.tmod 60=((z.natAbs%60:Nat):Int):=by rw[Int.tmod_eq_emod_of_nonneg (by omega)];omega
   rw[e1,e2]
   refine DE (w:=2) (by omega) (by omega) ⟨by rw[l1];show 1+2<=_;omega,by rw[List.length_append,l1];show 1+2+1<=_;omega,DE (w:=2) (by omega) (by omega) ⟨by simp only[List.length_append,l1,l2];show 1+2+1+2<=_;omega,?_⟩⟩
   rw[<-List.cons_append,List.append_cons]at hk
   exact hk
theorem GI (k td tn tz:Int):(In k td tn tz).length<=40:=by
 have h1:∀n,(G4 n).length=10:=fun n=>by unfold G4;simp only[List.length_append,List.length_cons,At]
 have h2:∀n,(HG n).length<=18:=fun n=>by
  unfold HG
  have:(if n%1000000000=0 then([]:B8)else 46::E6 (AA 9 (n%1000000000))).length<=10:=by
   split
   ·simp
   ·have:=Pi (AA 9 (n%1000000000))
    rw[At]at this
    rw[List.length_cons];omega
  simp only[List.length_append,List.length_cons,At];omega
 have h3:∀z,(Ka z).length<=6:=fun z=>by
  unfold Ka;split
  ·decide
  ·simp only[List.length_append,List.length_cons,At];omega
 unfold In
 have e1:=h1 td.toNat
 have e2:=h2 tn.toNat
 have e3:=h3 tz
 split
 ·omega
 split
 ·omega
 split
 ·rw[List.length_append,List.length_cons];omega
 ·rw[List.length_append,List.length_cons,List.length_append];omega
theorem OM {k d n z:Int} (h:Bx k d n z) {st:St} {K:B8->St->Prop} (hk:∀st',Ae st st'->K (In k d n z) st'):CallT PR DG [.agg [.int .i64 k,.int .i64 d,.int .i64 n,.int .i64 z]] [.one .str] st K:=by
 have h0:=h
 obtain⟨a1,a2,a3,a4,a5,a6,a7,a8,a9,a10,a11⟩:=h
 have ed:d=((d.toNat:Nat):Int):=by omega
 have en:n=((n.toNat:Nat):Int):=by omega
 have l1:∀m,(G4 m).length=10:=fun n=>by unfold G4;simp only[List.length_append,List.length_cons,At]
 unfold In at hk
 have hdt:∀{st:St} {K:B8->St->Prop},(∀st',Ae st st'->K (G4 d.toNat) st')->CallT PR AN [.int .i64 d] [.one .str] st K:=fun {st K} hk=>by
  rw[ed];exact Lr (by omega) hk
 have hct:∀{st:St} {K:B8->St->Prop},(∀st',Ae st st'->K (HG n.toNat) st')->CallT PR AJ [.int .i64 n] [.one .str] st K:=fun {st K} hk=>by
  rw[en];exact Kn (by omega) hk
 have l2:(HG n.toNat).length<=40:=by have:=GI 2 d n z;unfold In at this;rw[if_neg (by omega),if_pos rfl]at this;exact this
 have l3:(Ka z).length<=40:=by have:=GI 4 d n z;unfold In at this;rw[if_neg (by omega),if_neg (by omega),if_neg (by omega),List.length_append,List.length_cons,List.length_append]at this;omega
 have l1':=l1 d.toNat
 refine Ij _ _ _ _ st K (J3 ?_)
 rw[decide_eq_true h0]
 refine Aa (p:=False) (fun h=>h.elim) fun _=>Aa (fun g=>?_) fun g1=>Aa (fun g=>?_) fun g2=>Aa (fun g=>?_) fun g3=>?_
 ·rw[if_pos g]at hk;exact hdt hk
 ·rw[if_neg g1,if_pos g]at hk;exact hct hk
 ·rw[if_neg g1,if_neg g2,if_pos g]at hk
  refine hdt fun st1 e1=>⟨by rw[l1'];show 10+1<=_;omega,hct fun st2 e2=>⟨by rw[List.length_append,l1'];show 10+1+_<=_;omega,?_⟩⟩
  have:=hk st2 (e1.trans e2)
  rw[List.append_cons]at this
  exact this
 ·rw[if_neg g1,if_neg g2,if_neg g3]at hk
  refine hdt fun st1 e1=>⟨by rw[l1'];show 10+1<=_;omega,hct fun st2 e2=>⟨by rw[List.length_append,l1'];show 10+1+_<=_;omega,Jm a7 a8 fun st3 e3=>⟨by rw[List.length_append,List.length_append,l1'];show 10+1+_+_<=_;omega,?_⟩⟩⟩
  have:=hk st3 ((e1.trans e2).trans e3)
  rw[List.append_cons,<-List.append_assoc]at this
  exact this
theorem NC {k d n z:Int} (h:Bx k d n z) {st:St} {K:B8->St->Prop} (hk:∀st',Ae st st'->K (In k d n z) st'):CallT PR BR [.agg [.int .i64 k,.int .i64 d,.int .i64 n,.int .i64 z]] [.one .str] st K:=by
 have h0:=h
 obtain⟨a1,a2,a3,a4,a5,a6,a7,a8,a9,a10,a11⟩:=h
 have ed:d=((d.toNat:Nat):Int):=by omega
 have en:n=((n.toNat:Nat):Int):=by omega
 have hct:∀{st:St} {K:B8->St->Prop},(K (HG n.toNat) st)->CallT PR AB [.int .i64 n] [.one .str] st K:=fun {st K} hk=>by
  rw[en];exact NF (by omega) hk
 have l2:(HG n.toNat).length<=40:=by have:=GI 2 d n z;unfold In at this;rw[if_neg (by omega),if_pos rfl]at this;exact this
 have l3:(Ka z).length<=40:=by have:=GI 4 d n z;unfold In at this;rw[if_neg (by omega),if_neg (by omega),if_neg (by omega),List.length_append,List.length_cons,List.length_append]at this;omega
 have hk:=hk st (Ae.refl st)
 unfold In at hk
 refine Ff _ _ _ _ st K (IB ?_)
 rw[decide_eq_true h0]
 refine Aa (p:=False) (fun h=>h.elim) fun _=>?_
 rw[ed]
 refine Oy (by omega) fun y m dd hd=>?_
 have he:=Ni hd
 obtain⟨b1,b2,b3,b4,b5,b6,b7⟩:=hd
 have hm:=EC y m
 have l4:=At 4 y
 have l5:=At 2 m
 have l6:=At 2 dd
 refine DE (w:=4) (by omega) (by omega) ⟨by rw[l4];show 4+1<=_;omega,DE (w:=2) (by omega) (by omega) ⟨by rw[List.length_append,l4,l5];show 4+1+2<=_;omega,by rw[List.length_append,List.length_append,l4,l5];show 4+1+2+1<=_;omega,DE (w:=2) (by omega) (by omega) ⟨by simp only[List.length_append,l4,l5,l6];show 4+1+2+1+2<=_;omega,?_⟩⟩⟩
 rw[List.append_cons,List.append_cons,List.append_assoc (AA 4 y++[45]),<-List.append_assoc,<-List.append_assoc]at he
 have he2:((((AA 4 y++Bf)++AA 2 m)++Bf)++AA 2 dd)=G4 d.toNat:=he.symm
 have l1':(G4 d.toNat).length=10:=by unfold G4;simp only[List.length_append,List.length_cons,At]
 rw[he2]
 refine Aa (fun g=>?_) fun g1=>Aa (fun g=>?_) fun g2=>Aa (fun g=>?_) fun g3=>?_
 ·rw[if_pos g]at hk;exact hk
 ·rw[if_neg g1,if_pos g]at hk;exact hct hk
 ·rw[if_neg g1,if_neg g2,if_pos g]at hk
  refine⟨by rw[l1'];show 10+1<=_;omega,hct ⟨by rw[List.length_append,l1'];show 10+1+_<=_;omega,?_⟩⟩
  rw[List.append_cons]at hk
  exact hk
 ·rw[if_neg g1,if_neg g2,if_neg g3]at hk
  refine⟨by rw[l1'];show 10+1<=_;omega,hct ⟨by rw[List.length_append,l1'];show 10+1+_<=_;omega,LN a7 a8 ⟨by rw[List.length_append,List.length_append,l1'];show 10+1+_+_<=_;omega,?_⟩⟩⟩
  rw[List.append_cons,<-List.append_assoc]at hk
  exact hk
theorem szl' (s:Sc):(Vl.mk s [] []).sz=1+s.bytes.length+s.text.length+s.dg.length:=by rw[szs];rfl
theorem Ox {neg:Bool} {l:B8} {ex:Int} {st:St} {K:Bool->St->Prop} (hk:K (decide (Cz neg l ex)) st):CallT PR Bb [.agg [.bool neg,.str l,.int .i64 ex]] [.one .bool] st K:=by
 have no:¬Cz neg l ex->K false st:=fun h=>by rw[decide_eq_false h]at hk;exact hk
 refine CE _ _ _ st K (Aa (fun g=>?_) fun g=>?_)
 ·subst g
  cases neg
  ·exact BF (by rw[Bool.eq_iff_iff];simp[Em]) hk
  ·exact BF (by rw[Bool.eq_iff_iff];simp[Em]) hk
 ·refine Aa (fun g3=>MW (by omega) (Aa (fun g2=>JB (by omega) (Aa (fun g4=>Aa (fun g5=>?_) fun g5=>?_) fun g4=>?_)) fun g2=>?_)) fun g3=>?_
  ·exact BF (decide_eq_decide.2 (by rw[AK g];exact⟨fun h=>⟨g2,by omega,by omega,g5,h⟩,fun h=>h.2.2.2.2⟩)) hk
  ·exact no fun h=>g5 ((AK g).1 h).2.2.2.1
  ·exact no fun h=>g4 (by have:=((AK g).1 h).2.2.1;omega)
  ·exact no fun h=>g2 ((AK g).1 h).1
  ·exact no fun h=>g3 (by have:=((AK g).1 h).2.1;omega)
theorem one1_ok {s:Sc} {l:List Vl} {f:List Fd} (hT:s.text.length<=2000000) (hF:DR f<=2000000) {st0 st:St} {ub ul uf:TV} {K:Int->St->Prop} (h:VlR st0 (.mk s l f) (AR s ub ul uf)) (hke:BJ st0 st) (hk:∀st',Ae st st'->K (CB s l f:Nat) st'):
  CallT PR Bl [.agg (AR s ub ul uf)] [.one (.int .i64)] st K:=by
 unfold VlR at h
 obtain⟨ub',ul',uf',xl,xf,hcs,h1,h2,h3,h4,h5⟩:=h
 simp only[AR,List.cons.injEq,and_true,true_and]at hcs
 obtain⟨rfl,rfl,rfl⟩:=hcs
 refine Di _ _ _ _ _ _ _ _ _ _ _ _ _ st K (OD h1.isSl h2.isSl h4.isSl h1.lenS h2.lenS h4.lenS ?_)
 have kk:∀(c:Nat) (st':St),CB s l f=c->Ae st st'->K (c:Int) st':=fun c st' hc e=>by rw[<-hc];exact hk st' e
 by_cases ho:F8 s l f
 case neg=>exact Ap (fun _=>kk 6 st (by unfold CB;rw[if_neg ho]) (Ae.refl _)) fun h=>by rw[decide_eq_false ho]at h;cases h
 refine Ap (fun h=>by rw[decide_eq_true ho]at h;cases h) fun _=>Ox ?_
 by_cases hq:Cz s.neg s.dg s.ex
 case neg=>exact Ap (fun _=>kk 2 st (by unfold CB;rw[if_pos ho,if_neg hq]) (Ae.refl _)) fun h=>by rw[decide_eq_false hq]at h;cases h
 refine Ap (fun h=>by rw[decide_eq_true hq]at h;cases h) fun _=>?_
 have rest:(s.kind=3->Bx s.tk s.td s.tn s.tz)->CallT PR As [.str s.text] [.one (.bool)] st (fun (b4:Bool) (st4:St)=>BIf (!b4) (K 5 st4) (BIf (decide (65536<(s.text.length:Int))) (K 10 st4) (need (isSl ub) (BIf (decide (65536<(lenS ub:Int))) (K 10 st4) (
   CallT PR AE [uf] [.one (.int .i64)] st4 fun (n1:Int) (st5:St)=>K n1 st5))))):=by
  intro hq2
  refine FD (by omega) fun st1 e1=>?_
  by_cases hu:U8 s.text
  case neg=>exact Ap (fun _=>kk 5 st1 (by unfold CB;rw[if_pos ho,if_pos hq,if_pos hq2,if_neg hu]) e1) fun h=>absurd (by unfold U8;simpa using h) hu
  have h6:CB s l f=if 65536<s.text.length then 10 else if 65536<s.bytes.length then 10 else EM [] f:=by unfold CB;rw[if_pos ho,if_pos hq,if_pos hq2,if_pos hu]
  refine Ap (fun h=>absurd hu (by unfold U8;simpa using h)) fun _=>Aa (fun g5=>?_) fun g5=>AH h1.isSl (Aa (fun g6=>?_) fun g6=>?_)
  ·exact kk 10 st1 (by rw[h6,if_pos (by omega)]) e1
  ·rw[h1.lenS]at g6
   exact kk 10 st1 (by rw[h6,if_neg (by omega),if_pos (by omega)]) e1
  ·rw[h1.lenS]at g6
   exact Nn (hke.trans e1.keeps) h4 h5 (by omega) fun st2 e2=>kk _ st2 (by rw[h6,if_neg (by omega),if_neg (by omega)]) (e1.trans e2)
 refine Aa (fun g3=>IB ?_) fun g3=>rest fun h=>absurd h g3
 by_cases hq2:Bx s.tk s.td s.tn s.tz
 ·exact Ap (fun h=>by rw[decide_eq_true hq2]at h;cases h) fun _=>rest fun _=>hq2
 ·exact Ap (fun _=>kk 2 st (by unfold CB;rw[if_pos ho,if_pos hq,if_neg fun h=>hq2 (h g3)]) (Ae.refl _)) fun h=>by rw[decide_eq_false hq2]at h;cases h
def SclOk (v:Vl):Prop:=match v with | .mk s l f=>0<=s.kind/\s.kind<6/\s.text.length<=2000/\s.bytes.length<=2000/\l=[]/\f=[]/\CB s [] []=0
theorem LT {s:Sc} (hT:s.text.length<=2000) (hB:s.bytes.length<=2000) {st0 st:St} {ub ul uf:TV} {K:Int->St->Prop} (h:VlR st0 (.mk s [] []) (AR s ub ul uf)) (hke:BJ st0 st) (hk:∀st' n,Ae st st'->(n=0↔CB s [] []=0)->K n st'):
  CallT PR A9 [.agg (AR s ub ul uf)] [.one (.int .i64)] st K:=by
 by_cases ho:CB s [] []=0
 ·have hd:=(Hw.1 ho).dec
  have hz:(Vl.mk s [] []).sz<=2000000:=by
   rw[szl']
   by_cases hn:s.dg=[]
   ·rw[hn];simp;omega
   ·have:=((AK hn).1 hd).2.1;omega
  have hc:Mq (.mk s [] [])=0:=by
   unfold Mq D8
   rw[if_neg (by omega),if_neg (by omega),if_neg (by omega)]
   unfold Dj Cf Dm
   rfl
  refine NG hz h hke fun st' e=>hk st' _ e ?_
  rw[hc];exact⟨fun _=>ho,fun _=>rfl⟩
 ·refine CD _ _ _ _ _ _ _ _ _ _ _ _ _ st K (CU _ _ _ _ _ _ _ _ _ _ _ _ _ _ _ st _ (Aa (fun g=>absurd g (by omega)) fun g=>Aa (fun g2=>absurd g2 (by omega)) fun g2=>?_))
  refine one1_ok (l:=[]) (f:=[]) (by omega) (by unfold DR;omega) h hke fun st1 e1=>Aa (fun g3=>?_) fun g3=>absurd (by omega) g3
  exact hk st1 _ e1 ⟨fun g=>by omega,fun g=>absurd g ho⟩
theorem NN {s:Sc} {l:List Vl} {f:List Fd} {st0 st:St} {ub ul uf:TV} {K:Bool->St->Prop} (h:VlR st0 (.mk s l f) (AR s ub ul uf)) (hke:BJ st0 st) (hk:∀st' b,Ae st st'->(b=true↔SclOk (.mk s l f))->K b st'):
  CallT PR BE [.agg (AR s ub ul uf)] [.one .bool] st K:=by
 obtain⟨ub',ul',uf',xl,xf,hcs,h1,h2,h3,h4,h5⟩:=h.cells
 simp only[AR,List.cons.injEq,and_true,true_and]at hcs
 obtain⟨rfl,rfl,rfl⟩:=hcs
 have no:¬SclOk (.mk s l f)->K false st:=fun hn=>hk st false (Ae.refl _) ⟨fun h=>(by cases h),fun h=>absurd h hn⟩
 refine E3 _ _ _ _ _ _ _ _ _ _ _ _ _ st K (Aa (fun g1=>Aa (fun g2=>Aa (fun g3=>AH h1.isSl (Aa (fun g4=>AH h2.isSl (Aa (fun g5=>AH h4.isSl (Aa (fun g6=>?_) fun g6=>no fun h=>?_)) fun g5=>no fun h=>?_)) fun g4=>no fun h=>?_)) fun g3=>no fun h=>?_) fun g2=>no fun h=>?_) fun g1=>no fun h=>?_)
 ·rw[h1.lenS]at g4
  rw[h2.lenS]at g5
  rw[h4.lenS]at g6
  have hl:l=[]:=List.length_eq_zero_iff.1 (by omega)
  have hf:f=[]:=List.length_eq_zero_iff.1 (by omega)
  subst hl hf
  refine LT (by omega) (by omega) h hke fun st' n e hn=>hk st' _ e ?_
  rw[decide_eq_true_eq,hn]
  exact⟨fun h=>⟨g1,g2,by omega,by omega,rfl,rfl,h⟩,fun h=>h.2.2.2.2.2.2⟩
 ·rw[h4.lenS]at g6
  exact g6 (by rw[h.2.2.2.2.2.1];rfl)
 ·rw[h2.lenS]at g5
  exact g5 (by rw[h.2.2.2.2.1];rfl)
 ·rw[h1.lenS]at g4
  have:=h.2.2.2.1;omega
 ·have:=h.2.2.1;omega
 ·have:=h.2.1;omega
 ·have:=h.1;omega
noncomputable def shS (s:Sc):B8×Int:=
 if s.kind=1 then(if s.b then str7 else str8,0)else if s.kind=2 then(dcT s.neg s.dg s.ex,0)else if s.kind=3 then(In s.tk s.td s.tn s.tz,0)
 else if s.kind=4 then(if Cn s.text=s.text.length then quo s.text else [],if Cn s.text=s.text.length then 0 else 5)
 else if s.kind=0∨s.kind=5 then([],27)else([],6)
theorem Ip {s:Sc} {ub ul uf:TV} (h2:s.kind=2->Cz s.neg s.dg s.ex) (h3:s.kind=3->Bx s.tk s.td s.tn s.tz) (h4:s.kind=4->s.text.length<=2000000) {st:St} {K:B8->Int->St->Prop} (hk:∀st',Ae st st'->K (shS s).1 (shS s).2 st'):
  CallT PR Bn [.agg (AR s ub ul uf)] [.one .str,.one (.int .i64)] st K:=by
 have e0:=Ae.refl st
 unfold shS at hk
 refine Hd _ _ _ _ _ _ _ _ _ _ _ _ _ st K (Aa (fun g1=>?_) fun g1=>Aa (fun g2=>?_) fun g2=>Aa (fun g3=>?_) fun g3=>Aa (fun g4=>?_) fun g4=>Aa (fun g5=>Aa (fun _=>?_) fun h=>absurd g5 h) fun g5=>Aa (fun g6=>?_) fun g6=>?_)
 ·rw[if_pos g1]at hk
  refine Ap (fun hb=>?_) fun hb=>?_
  ·rw[if_pos hb]at hk;exact hk st e0
  ·rw[if_neg (by simp[hb])]at hk;exact hk st e0
 ·rw[if_neg g1,if_pos g2]at hk
  exact Pf (h2 g2) fun st1 e1=>hk st1 e1
 ·rw[if_neg g1,if_neg g2,if_pos g3]at hk
  exact OM (h3 g3) fun st1 e1=>hk st1 e1
 ·rw[if_neg g1,if_neg g2,if_neg g3,if_pos g4]at hk
  exact Ns (h4 g4) fun st1 e1=>hk st1 e1
 ·rw[if_neg g1,if_neg g2,if_neg g3,if_neg g4,if_pos (.inl g5)]at hk;exact hk st e0
 ·rw[if_neg g1,if_neg g2,if_neg g3,if_neg g4,if_pos (.inr g6)]at hk;exact hk st e0
 ·rw[if_neg g1,if_neg g2,if_neg g3,if_neg g4,if_neg (fun h=>h.elim g5 g6)]at hk;exact hk st e0
theorem IC {s:Sc} {ub ul uf:TV} (h2:s.kind=2->Cz s.neg s.dg s.ex) (h3:s.kind=3->Bx s.tk s.td s.tn s.tz) (h4:s.kind=4->s.text.length<=2000000) {st:St} {K:B8->Int->St->Prop} (hk:∀st',Ae st st'->K (shS s).1 (shS s).2 st'):
  CallT PR AQ [.agg (AR s ub ul uf)] [.one .str,.one (.int .i64)] st K:=by
 have e0:=Ae.refl st
 unfold shS at hk
 refine Fb _ _ _ _ _ _ _ _ _ _ _ _ _ st K ⟨fun b k k' b1 b2 s1 n2 n3 n4 n5 n6 s2 v1 v2 v3 st'=>b=decide (s.kind=0∨s.kind=5)/\s.kind=k/\s.kind=k'/\s.b=b1/\s.neg=b2/\s.dg=s1/\s.ex=n2/\s.tk=n3/\s.td=n4/\s.tn=n5/\s.tz=n6/\s.text=s2/\st=st',Aa (fun g=>⟨?_,rfl,rfl,rfl,rfl,rfl,rfl,rfl,rfl,rfl,rfl,rfl,rfl⟩) fun g=>⟨?_,rfl,rfl,rfl,rfl,rfl,rfl,rfl,rfl,rfl,rfl,rfl,rfl⟩,?_⟩
 ·exact decide_eq_decide.2 ⟨fun h=> .inl h,fun _=>g⟩
 ·exact decide_eq_decide.2 ⟨fun h=> .inr h,fun h=>h.elim (fun h=>absurd h g) id⟩
 rintro _ _ _ _ _ _ _ _ _ _ _ _ _ _ _ _ ⟨rfl,rfl,rfl,rfl,rfl,rfl,rfl,rfl,rfl,rfl,rfl,rfl,rfl⟩
 refine Aa (fun g=>?_) fun g=>Aa (fun g1=>?_) fun g1=>Aa (fun g2=>?_) fun g2=>Aa (fun g3=>?_) fun g3=>Aa (fun g4=>?_) fun g4=>?_
 ·rw[if_neg (by omega),if_neg (by omega),if_neg (by omega),if_neg (by omega),if_pos g]at hk;exact hk st e0
 ·rw[if_pos g1]at hk
  refine Ap (fun hb=>?_) fun hb=>?_
  ·rw[if_pos hb]at hk;exact hk st e0
  ·rw[if_neg (by simp[hb])]at hk;exact hk st e0
 ·rw[if_neg g1,if_pos g2]at hk
  exact ND (h2 g2) fun st1 e1=>hk st1 e1
 ·rw[if_neg g1,if_neg g2,if_pos g3]at hk
  exact NC (h3 g3) fun st1 e1=>hk st1 e1
 ·rw[if_neg g1,if_neg g2,if_neg g3,if_pos g4]at hk
  exact ES _ st _ (NB (h4 g4) fun st1 e1=>hk st1 e1)
 ·rw[if_neg g1,if_neg g2,if_neg g3,if_neg g4,if_neg g]at hk;exact hk st e0
theorem lshows_ok {v:Vl} {st:St} {cs:List TV} {K:Bool->St->Prop} (h:VlR st v cs) (hk:∀st',K true st'):CallT PR fn_datakitlaw24_TablelexShows [.agg cs] [.one .bool] st K:=by
 obtain⟨s,l,f⟩:=v
 have hcs:∃ub ul uf,cs=AR s ub ul uf:=by
  have h0:=h
  unfold VlR at h0
  obtain⟨ub,ul,uf,xl,xf,rfl,_⟩:=h0
  exact⟨ub,ul,uf,rfl⟩
 obtain⟨ub,ul,uf,rfl⟩:=hcs
 refine CW _ _ _ _ _ _ _ _ _ _ _ _ _ st K (Aa (fun g1=>Aa (fun g2=>NN h (BJ.refl _) fun st1 b e1 hb=>Ap (fun _=>G7 fun _ _=>hk _) fun g3=>?_) fun g2=>?_) fun g1=>?_)
 ·have hS:=hb.1 (by simpa using g3)
  have ho:=Hw.1 hS.2.2.2.2.2.2
  have ht:=hS.2.2.1
  exact Ip (fun _=>ho.dec) ho.time (fun _=>by omega) fun st2 e2=>IC (fun _=>ho.dec) ho.time (fun _=>by omega) fun st3 e3=>Aa (fun _=>Aa (fun _=>G7 fun _ _=>hk _) fun g=>absurd rfl g) fun g=>absurd rfl g
 ·exact Ip (fun h=>by omega) (fun h=>by omega) (fun h=>by omega) fun st2 e2=>IC (fun h=>by omega) (fun h=>by omega) (fun h=>by omega) fun st3 e3=>Aa (fun _=>Aa (fun _=>G7 fun _ _=>hk _) fun g=>absurd rfl g) fun g=>absurd rfl g
 ·exact Ip (fun h=>by omega) (fun h=>by omega) (fun h=>by omega) fun st2 e2=>IC (fun h=>by omega) (fun h=>by omega) (fun h=>by omega) fun st3 e3=>Aa (fun _=>Aa (fun _=>G7 fun _ _=>hk _) fun g=>absurd rfl g) fun g=>absurd rfl g
end Go.TVF
