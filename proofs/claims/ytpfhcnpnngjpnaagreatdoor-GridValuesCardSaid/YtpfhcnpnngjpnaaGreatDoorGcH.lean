/- What the laws below rest on: a framework for Go programs, and contracts of the functions that they reach. -/
import Derived.Test.YtpfhcnpnngjpnaaGreatDoorGcG
set_option maxRecDepth 20000
set_option linter.unusedVariables false
set_option linter.unusedSimpArgs false
namespace Go.TVF
open Go.IntKind(i64 u8)
open Go Go.Proofs
theorem LZ {s:B8} {a q:Int} {x y:Bool} (hw:LA q s) (hl:s.length<=2000000) {st:St} {K:B8->St->Prop} (hk:K (txt q s) st):
  CallT PR A3 [.str s,.agg [.int .u8 a,.int .u8 q,.bool x,.bool y]] [.one (.str)] st K:=by
 refine Ij s a q x y st K (Aa (fun g=>?_) fun g=>⟨⟨by omega,?_⟩,Aa (fun g2=>?_) fun g2=>?_⟩)
 ·subst g;simpa [txt]using hk
 ·cases s with
  | nil=>exact absurd rfl g
  | cons b l=>simp
 ·have g2':by_ s 0≠q:=g2
  unfold txt at hk
  rw[if_pos (.inr g2')]at hk;exact hk
 ·have g2':¬by_ s 0≠q:=g2
  rcases hw with h | h | ⟨c,t,hc,h⟩
  ·exact absurd h g
  ·exact absurd h g2'
  rw[h,NL hc]at hk
  have hlen:s.length=(dbl c t).length+2:=by rw[h];simp
  refine⟨fun out i s1 n1 n2 b1 b2 st1=>s=s1/\q=n2/\st=st1/\∃t1 t2,t=t1++t2/\out=t1/\i=((1+(dbl c t1).length:Nat):Int),fun _ i _ _ _ _ _ _=>(s.length-i).toNat,⟨rfl,rfl,rfl,[],t,rfl,rfl,rfl⟩,?_⟩
  rintro t1 _ _ _ _ _ _ _ ⟨rfl,rfl,rfl,_,t2,rfl,rfl,rfl⟩
  have hd:dbl c (t1++t2)=dbl c t1++dbl c t2:=Ns c t1 t2
  rw[hd,List.length_append]at hlen
  generalize hi:1+(dbl c t1).length=i at*
  have hdrop:s.drop i=dbl c t2++[c]:=by
   rw[h,<-hi,hd,Nat.add_comm,List.drop_succ_cons,List.append_assoc,List.drop_left]
  have ht1:t1.length<=(dbl c t1).length:=by
   clear hdrop hi hlen hd h hk
   induction t1 with
   | nil=>simp
   | cons b t ih=>rw[CE];split<;>simp<;>omega
  rw[Ah ((i:Int)+1) (by omega) (by omega),show Int.toNat (i:Int)=i from rfl]
  cases t2 with
  | nil=>
   refine Aa (fun q1=>?_) fun q1=>?_
   ·exfalso
    have h0:(dbl c []).length=0:=rfl
    omega
   ·simpa using hk
  | cons b t2=>
   have hb:s.drop i=b::s.drop (i+1):=by
    have:i<s.length:=by omega
    rw[List.drop_eq_getElem_cons this]
    congr 1
    have h2:s.getD i 0=(s.drop i).getD 0 0:=by rw[Hd];rfl
    have h3:s.getD i 0=s[i]:=by rw[List.getD_eq_getElem?_getD,List.getElem?_eq_getElem this];rfl
    rw[<-h3,h2,hdrop,CE]
    split
    ·rename_i hbc;simp[hbc]
    ·simp
   have hget:(s.getD i 0)=b:=by
    have:(s.drop i).getD 0 0=b:=by rw[hb];rfl
    simpa [List.getD_eq_getElem?_getD]using this
   have hsl:List.drop i (List.take (Int.toNat ((i:Int)+1)) s)=[b]:=by
    rw[show Int.toNat ((i:Int)+1)=i+1 by omega,List.drop_take,hb]
    simp
   have hlc:=congrArg List.length (CE c b t2)
   refine Aa (fun q1=>⟨⟨by omega,by omega,by omega⟩,?_,⟨by omega,by omega⟩,Aa (fun q2=>?_) fun q2=>?_⟩) fun q1=>?_
   ·rw[hsl];simp only[List.length_cons,List.length_nil];omega
   ·rw[hget]at q2
    have hbc:b=c:=UInt8.toNat_inj.1 (by omega)
    rw[hsl,Ah ((i:Int)+1+1) (by omega) (by omega)]
    rw[if_pos hbc]at hlc
    refine⟨⟨rfl,rfl,rfl,t1++[b],t2,by simp,rfl,?_⟩,by dsimp only;omega⟩
    have h0:(dbl c [b]).length=2:=by rw[hbc];simp[dbl,NP]
    rw[Ns,List.length_append];omega
   ·rw[hget]at q2
    have hbc:b≠c:=fun hh=>q2 (by rw[hh];exact hc)
    rw[hsl]
    refine⟨⟨rfl,rfl,rfl,t1++[b],t2,by simp,rfl,?_⟩,by dsimp only;omega⟩
    have h0:(dbl c [b]).length=1:=by simp[dbl,NP,hbc]
    rw[Ns,List.length_append];omega
   ·rw[hlc]at hlen
    split at hlen<;>simp at hlen<;>omega
section
def RSD (x:Cx) (hd ty:Bool) (l2 l3 l4:Int) (s:B8) (a q:Int) (h t:Bool) (m0 m1 m2 m3 m4:Int):Prop:=x.s=s/\x.a=a/\x.q=q/\hd=h/\ty=t/\x.dep=m0/\x.nod=m1/\l2=m2/\l3=m3/\l4=m4
theorem RSD.refl (x:Cx) (hd ty:Bool) (l2 l3 l4:Int):RSD x hd ty l2 l3 l4 x.s x.a x.q hd ty x.dep x.nod l2 l3 l4:=⟨rfl,rfl,rfl,rfl,rfl,rfl,rfl,rfl,rfl,rfl⟩
def Rn {α:Type} (E:Except (Nat×Int) α) (off err:Int):Prop:=err≠0/\∃o:Nat,off=(o:Int)/\E= .error (o,err)
theorem Lw {dep nod d:Int} {i:Nat} {v:Int} {o:Nat} {c:Int} (h:Ev dep nod d i v= .error (o,c)):c≠0:=by
 unfold Ev at h
 split at h
 ·cases h;decide
 split at h
 ·cases h;decide
 ·cases h
theorem Qe {a q:Int} {s:B8} {i o:Nat} {c:Int} (h:Bt a q s i= .error (o,c)):c≠0:=by
 unfold Bt at h
 split at h<;>split at h<;>cases h<;>decide
theorem strs_ld {v:TV} {L:List B8} (h:Rd 1 v L.length (L.map TV.str)) (st:St) {i:Nat} {t:B8} (ht:L[i]? =some t):Ac st [] (.t (ixT 1 v i)) 0=some (.str t):=
 h.ldx st i 0 (by rw[Nat.mul_one,Nat.add_zero,List.getElem?_map,ht];rfl)
theorem Wd {b:Bool} {H A X:Prop} (t:H->X) (h1:b=true->(H->X)->A) (h2:b=false->H):BIf b A X:=Am (fun q=>h1 q t) fun q=>t (h2 q)
theorem Xq {a:Int} {s:B8} {i o:Nat} {c:Int} (h:VX a s i= .error (o,c)):c≠0/\by_ s i≠a/\B9 s i= .error (o,c):=by
 unfold VX at h
 split at h
 ·rename_i hc
  split at h
  ·cases h
  ·rename_i e he
   cases h
   refine⟨?_,hc.2,he⟩
   rcases Mf he with h | h<;>rw[h.2]<;>decide
 ·cases h
def UG:TV->Option Nat
 | .list _ (.own id) _ _=>some id
 | _=>none
def Jx (u v:TV):Prop:=∀id,UG u=some id->UG v≠some id
theorem Jx.symm {u v:TV} (h:Jx u v):Jx v u:=fun id h1 h2=>h id h2 h1
theorem Own.tip_lt {b sz:Nat} {st:St} {v:TV} {n:Nat} {xs:List TV} (h:Own b sz st v n xs) {id:Nat} (hi:UG v=some id):id<st.nt:=by
 rcases h with⟨rfl,_⟩ | ⟨tip,rfl,rfl | ⟨id',rfl,h1,h2,h3⟩⟩
 ·cases hi
 ·cases hi
 ·cases hi;exact h2
theorem Own.keep {b sz:Nat} {st st':St} {v:TV} {n:Nat} {xs:List TV} (h:Own b sz st v n xs) (hn:st.nt<=st'.nt) (hl:∀id,UG v=some id->st'.live id=st.live id):Own b sz st' v n xs:=by
 rcases h with h | ⟨tip,rfl,rfl | ⟨id,rfl,h1,h2,h3⟩⟩
 ·exact .inl h
 ·exact .inr ⟨_,rfl,.inl rfl⟩
 ·exact .inr ⟨_,rfl,.inr ⟨id,rfl,h1,by omega,by rw[hl id rfl];exact h3⟩⟩
theorem Ly {T sz sz2 bytes:Nat} {st0 st:St} {v u:TV} {n k n2:Nat} {xs ys ys2:List TV} {K:TV->St->Prop} (e:Ar st0 st) (h:Own st0.nt sz st v n xs) (hu:Own st0.nt sz2 st u n2 ys2) (ha:Jx v u) (hby:(n+k)*bytes<=140737488355328) (hys:k=0->ys=[])
  (hK:∀v' st',Ar st0 st'->st'.box=st.box->Own st0.nt sz st' v' (n+k) (xs++ys)->Own st0.nt sz2 st' u n2 ys2->Jx v' u->K v' st'):AU T sz bytes v k ys st K:=by
 have fr:∀T,Own st0.nt sz2 (st.fresh T) u n2 ys2:=fun T=>hu.ext ((Ar.refl st).fresh T)
 have ap:∀m l,Jx (.list sz (.own st.nt) m l) u:=fun m l id h1 h2=>by cases h1;have:=hu.tip_lt h2;omega
 rcases h with⟨rfl,rfl,rfl⟩ | ⟨tip,rfl,ht⟩
 ·simp only[AU]
  cases k with
  | zero=>rw[hys rfl]at hK;exact hK _ _ e rfl (.nil _ _ _) hu ha
  | succ m=>
   simp only[Au]
   refine⟨by simpa using hby,hK _ _ (e.fresh _) rfl ?_ (fr _) (ap _ _)⟩
   simp only[List.nil_append,Nat.zero_add]
   exact Own.fresh _ _ e.nt
 ·simp only[AU,Nat.beq_refl]
  refine⟨hby,?_⟩
  rcases ht with rfl | ⟨id,rfl,h1,h2,h3⟩
  ·cases k with
   | zero=>rw[hys rfl]at hK;simp only[List.append_nil]at hK;exact hK _ _ e rfl (Own.full _ _ _ _ _) hu ha
   | succ m=>exact hK _ _ (e.fresh _) rfl (Own.fresh _ _ e.nt) (fr _) (ap _ _)
  ·refine⟨h3,hK _ _ ((e.retire h1).fresh _) rfl (Own.fresh (st:=st.retire id) _ _ e.nt) (hu.keep (Nat.le_succ _) fun id' h'=>?_) (ap _ _)⟩
   have hne:id'≠id:=fun h=>ha id rfl (by rw[<-h];exact h')
   have hlt:=hu.tip_lt h'
   simp only[St.fresh,St.retire]
   rw[if_neg hne]
   exact if_neg (by omega)
section
variable {x:Cx} {hd ty:Bool} {l2 l3 l4:Int} {st:St}
theorem Tb {header num:Bool} {I off v many wid:Int} {i:Nat} {ns:List B8} (hI:I=(i:Int)) (hi:i<=x.s.length) (hl:x.s.length<=2000000) (hv0:0<=v) (hv:v<=100000000)
  (hm:many=if num then wid else 0) (hw:num=true->1<=wid) (hns:header=true->ns=[])
  {K:B8->Int->Int->Bool->Bool->Int->Int->Int->Int->Int->Int->Int->Int->Int->Int->B8->B8->TV->B8->Int->St->Prop}
  (h0:∀(k:Nat) v1 ns1 r w1 off1 kv tl st',Fx x num wid header i v ns= .ok (k,v1,ns1,r,w1)->Ar st st'->NdC r [.int .i64 8,.str [],.str [],kv,.str tl]->K x.s x.a x.q hd ty x.dep x.nod l2 l3 l4 k v1 off1 0 8 [] [] kv tl w1 st')
  (h1:∀(o:Nat) e (k v1:Int) r kv tl st',Fx x num wid header i v ns= .error (o,e)->e≠0->Ar st st'->NdC r [.int .i64 8,.str [],.str [],kv,.str tl]->K x.s x.a x.q hd ty x.dep x.nod l2 l3 l4 k v1 o e 8 [] [] kv tl 0 st'):
  CallT PR BA [rst x.s x.a x.q hd ty x.dep x.nod l2 l3 l4 I v off 0,.int .i64 many,.bool header] [rsh,.agg [.int .i64,.str,.str,.tv,.str],.one (.int .i64)] st K:=by
 subst hI
 have tn:∀k:Nat,Int.toNat (k:Int)=k:=fun k=>rfl
 have w1:∀k:Nat,k<=x.s.length+2->i64.wrap ((k:Int)+1)=((k+1:Nat):Int):=fun k hk=>by rw[Ah _ (by omega) (by omega)];omega
 generalize hD:Fx x num wid header i v ns=D0 at h0 h1
 rw[Fv]at hD
 refine Hr x.s x.a x.q hd ty x.dep x.nod l2 l3 l4 i v off 0 many header st K ⟨fun mn hh nm s a q b1 b2 m0 m1 m2 m3 m4 at_ v' off' err kd le tx kv tl st'=>RSD x hd ty l2 l3 l4 s a q b1 b2 m0 m1 m2 m3 m4/\many=mn/\header=hh/\TV.nilSlice=nm/\8=kd/\[]=le/\[]=tx/\TV.nilSlice=kv/\[]=tl/\st=st'/\(i:Int)=at_/\
   ((err=0/\v<=v'/\v'<=v+1/\GI x.s num wid (BR x num wid header (x.s.length+1) [] i v' ns)=D0)∨Rn D0 off' err),Am (fun hh=>?_) (fun hh=>?_),?_⟩
 ·have hh:header=false:=by simpa using hh
  rw[if_neg (by rw[hh];decide)]at hD
  refine L5 rfl (by omega) hv0 (fun v' hb=>?_) fun o e hb=>?_
  ·rw[hb]at hD
   have:=Nv hb
   exact⟨RSD.refl ..,rfl,rfl,rfl,rfl,rfl,rfl,rfl,rfl,rfl,rfl,.inl ⟨rfl,by omega,by omega,hD⟩⟩
  ·rw[hb]at hD
   exact⟨RSD.refl ..,rfl,rfl,rfl,rfl,rfl,rfl,rfl,rfl,rfl,rfl,.inr ⟨Lw hb,o,rfl,hD.symm⟩⟩
 ·have hh:header=true:=by simpa using hh
  rw[if_pos hh]at hD
  exact⟨RSD.refl ..,rfl,rfl,rfl,rfl,rfl,rfl,rfl,rfl,rfl,rfl,.inl ⟨rfl,by omega,by omega,hD⟩⟩
 clear hD
 rintro _ _ _ _ _ _ _ _ _ _ _ _ _ _ v1 off1 err1 _ _ _ _ _ _ ⟨⟨rfl,rfl,rfl,rfl,rfl,rfl,rfl,rfl,rfl,rfl⟩,rfl,rfl,rfl,rfl,rfl,rfl,rfl,rfl,rfl,rfl,hS⟩
 refine⟨fun nm k mn hh s a q b1 b2 m0 m1 m2 m3 m4 at_ v' off' err kd le tx kv tl st'=>RSD x hd ty l2 l3 l4 s a q b1 b2 m0 m1 m2 m3 m4/\many=mn/\header=hh/\8=kd/\[]=le/\[]=tx/\[]=tl/\Ar st st'/\
   ∃(j n:Nat) (acc:List Nd) (L nsL:List B8) (xs:List TV),at_=(j:Int)/\j<=x.s.length/\k=(acc.length:Int)/\L.length=acc.length/\acc.length<=j/\(num=true->(acc.length:Int)<=wid)/\Own st.nt 1 st' nm L.length (L.map TV.str)/\Own st.nt 5 st' kv acc.length xs/\Jx nm kv/\AT acc xs/\
    ((err=0/\x.s.length<j+n/\0<=v'/\v'<=v+1+j/\(header=true->nsL=L.reverse)/\GI x.s num wid (BR x num wid header n acc j v' nsL)=D0)∨Rn D0 off' err),
  fun _ _ _ _ _ _ _ _ _ _ _ _ _ _ at_ _ _ _ _ _ _ _ _ _=>(x.s.length-at_).toNat,?_,?_⟩
 ·refine⟨RSD.refl ..,rfl,rfl,rfl,rfl,rfl,rfl,Ar.refl _,i,x.s.length+1,[],[],ns,[],rfl,hi,rfl,rfl,by simp,fun hn=>(by have:=hw hn;simp;omega),Own.nil _ _ _,Own.nil _ _ _,(fun _ h=>by cases h),AT.nil,?_⟩
  rcases hS with⟨h,h2,h3,h4⟩ | h
  ·exact .inl ⟨h,by omega,by omega,by omega,fun hh=>by rw[hns hh];rfl,h4⟩
  ·exact .inr h
 rintro nm _ _ _ _ _ _ _ _ _ _ _ _ _ _ v2 off2 err2 _ _ _ kv _ st3 ⟨⟨rfl,rfl,rfl,rfl,rfl,rfl,rfl,rfl,rfl,rfl⟩,rfl,rfl,rfl,rfl,rfl,rfl,e3,j,n,acc,L,nsL,xs,rfl,hj,rfl,hL,hac,hac2,oN,oK,hap,hx,hS2⟩
 have ndc:∀kv st' acc xs,Own st.nt 5 st' kv acc.length xs->AT acc xs->NdC (.mk 8 [] [] acc []) [.int .i64 8,.str [],.str [],kv,.str []]:=fun kv st' acc xs o h=>by unfold NdC;exact⟨kv,xs,rfl,o.rd,h⟩
 refine Aa (fun q0=>?_) fun q0=>?_
 case' refine_2=>
  rcases hS2 with⟨h,_⟩ | ⟨h,o,rfl,hE⟩
  ·exact absurd h q0
  ·exact Ab (Ce oK.rd.one) (h1 _ _ _ _ _ _ _ _ hE h e3 (ndc _ _ _ _ oK hx))
 subst q0
 obtain⟨hjn,hv2,hv3,hnL,hE⟩:x.s.length<j+n/\0<=v2/\v2<=v+1+j/\(header=true->nsL=L.reverse)/\GI x.s num wid (BR x num wid header n acc j v2 nsL)=D0:=by
  rcases hS2 with⟨_,h⟩ | ⟨h,_⟩
  ·exact h
  ·exact absurd rfl h
 clear hS2 hS
 cases n with
 | zero=>omega
 | succ n=>
 rw[L4]at hE
 refine OU (H:=¬(num=true/\wid<=(acc.length:Int))) (fun hnw=>?_) (fun q t=>Aa (fun q2=>?_) fun q2=>t ?_) (fun q=>?_)
 ·rw[if_neg hnw]at hE
  generalize hEe:D9 x header j v2 nsL=E at hE
  rw[Nr]at hEe
  refine⟨fun mn hh nm' k fr s a q b1 b2 m0 m1 m2 m3 m4 at_ v' off' err kd le tx kv' tl st'=>RSD x hd ty l2 l3 l4 s a q b1 b2 m0 m1 m2 m3 m4/\many=mn/\header=hh/\nm=nm'/\(acc.length:Int)=k/\(j:Int)=fr/\8=kd/\[]=le/\[]=tx/\kv=kv'/\[]=tl/\st3=st'/\(j:Int)=at_/\
    ((err=0/\v2<=v'/\v'<=v2+1/\Pf x header j v' nsL=E)∨Rn E off' err),Am (fun hh=>?_) (fun hh=>?_),?_⟩
  ·have hh:header=false:=by simpa using hh
   rw[if_neg (by rw[hh];decide)]at hEe
   refine L5 rfl (by omega) hv2 (fun v' hb=>?_) fun o e hb=>?_
   ·rw[hb]at hEe
    have:=Nv hb
    exact⟨RSD.refl ..,rfl,rfl,rfl,rfl,rfl,rfl,rfl,rfl,rfl,rfl,rfl,rfl,.inl ⟨rfl,by omega,by omega,hEe⟩⟩
   ·rw[hb]at hEe
    exact⟨RSD.refl ..,rfl,rfl,rfl,rfl,rfl,rfl,rfl,rfl,rfl,rfl,rfl,rfl,.inr ⟨Lw hb,o,rfl,hEe.symm⟩⟩
  ·have hh:header=true:=by simpa using hh
   rw[if_pos hh]at hEe
   exact⟨RSD.refl ..,rfl,rfl,rfl,rfl,rfl,rfl,rfl,rfl,rfl,rfl,rfl,rfl,.inl ⟨rfl,by omega,by omega,hEe⟩⟩
  clear hEe
  rintro _ _ _ _ _ _ _ _ _ _ _ _ _ _ _ _ v3 off3 err3 _ _ _ _ _ _ ⟨⟨rfl,rfl,rfl,rfl,rfl,rfl,rfl,rfl,rfl,rfl⟩,rfl,rfl,rfl,rfl,rfl,rfl,rfl,rfl,rfl,rfl,rfl,rfl,hS3⟩
  --behind the cell
  refine WK rfl hj hl (fun kk hc hk1 hk2=>?_) fun o cc kk hc hkk=>?_
  case' refine_1=>
   have hW:=Nt hj hc
   have hcl:(slc x.s j kk).length<=x.s.length:=by rw[Jz hk1 hk2];omega
   have hkk:kk<=x.s.length:=hk2
   have hS4:(err3=0/\v2<=v3/\v3<=v2+1/\j<=kk/\slc x.s j kk=slc x.s j kk/\(if (if header then 1024 else 65536)<(txt x.q (slc x.s j kk)).length then .error (j,10)else if header=true/\txt x.q (slc x.s j kk)∈nsL then .error (j,8)else .ok (kk,v3,if header then txt x.q (slc x.s j kk)::nsL else nsL))=E)∨Rn E off3 err3:=by
    rcases hS3 with⟨h,h2,h3,h4⟩ | h
    ·refine .inl ⟨h,h2,h3,hk1,rfl,?_⟩
     unfold Pf at h4
     rw[hc]at h4
     exact h4
    ·exact .inr h
   generalize off3=off4 at hS4⊢
   generalize err3=err4 at hS4⊢
  case' refine_2=>
   have hW:LA x.q []:= .inl rfl
   have hcl:([]:B8).length<=x.s.length:=by simp
   have hS4:((if err3=0 then cc else err3)=0/\v2<=v3/\v3<=v2+1/\j<=kk/\slc x.s j kk=[]/\(if (if header then 1024 else 65536)<(txt x.q []).length then .error (j,10)else if header=true/\txt x.q []∈nsL then .error (j,8)else .ok (kk,v3,if header then txt x.q []::nsL else nsL))=E)∨Rn E (if err3=0 then(o:Int)else off3) (if err3=0 then cc else err3):=by
    right
    rcases hS3 with⟨h,h2,h3,h4⟩ | ⟨h,o',h2,h3⟩
    ·rw[if_pos h,if_pos h]
     unfold Pf at h4
     rw[hc]at h4
     exact⟨Qe hc,o,rfl,h4.symm⟩
    ·rw[if_neg h,if_neg h];exact⟨h,o',h2,h3⟩
   generalize (if err3=0 then(o:Int)else off3)=off4 at hS4⊢
   generalize (if err3=0 then cc else err3)=err4 at hS4⊢
  all_goals
   clear hS3
   refine LZ hW (by omega) ?_
   refine⟨fun mn hh nm' k fr c' t' s a q b1 b2 m0 m1 m2 m3 m4 at_ v' off' err kd le tx kv' tl st'=>RSD x hd ty l2 l3 l4 s a q b1 b2 m0 m1 m2 m3 m4/\many=mn/\header=hh/\nm=nm'/\(acc.length:Int)=k/\(j:Int)=fr/\8=kd/\[]=le/\[]=tx/\kv=kv'/\[]=tl/\st3=st'/\
     ∃kk:Nat,at_=(kk:Int)/\kk<=x.s.length/\((err=0/\v2<=v'/\v'<=v2+1/\j<=kk/\slc x.s j kk=c'/\(if header=true/\t'∈nsL then .error (j,8)else .ok (kk,v',if header then t'::nsL else nsL))=E)∨Rn E off' err),?_,?_⟩
   ·refine Am (fun hh=>Aa (fun g=>?_) fun g=>Aa (fun g2=>absurd g2 (by omega)) fun g2=>?_) (fun hh=>Aa (fun g=>?_) fun g=>?_)
    all_goals first
     | (refine D5 (fun h=>⟨RSD.refl ..,rfl,rfl,rfl,rfl,rfl,rfl,rfl,rfl,rfl,rfl,rfl,kk,rfl,hkk,.inr ?_⟩) (fun h=>⟨RSD.refl ..,rfl,rfl,rfl,rfl,rfl,rfl,rfl,rfl,rfl,rfl,rfl,kk,rfl,hkk,.inr ?_⟩)
        ·rcases hS4 with⟨_,_,_,_,_,h6⟩ | h6
         ·rw[if_pos (by rw[hh];simp;omega)]at h6
          exact⟨by decide,j,rfl,h6.symm⟩
         ·exact absurd h h6.1
        ·rcases hS4 with⟨h6,_⟩ | h6
         ·exact absurd h6 h
         ·exact h6)
     | (refine⟨RSD.refl ..,rfl,rfl,rfl,rfl,rfl,rfl,rfl,rfl,rfl,rfl,rfl,kk,rfl,hkk,?_⟩
        rcases hS4 with⟨h6,h7,h8,h9,h10,h11⟩ | h6
        ·rw[if_neg (by rw[hh];simp;omega)]at h11
         exact .inl ⟨h6,h7,h8,h9,h10,h11⟩
        ·exact .inr h6)
   clear hS4 hkk hW hcl
   rintro _ _ _ _ _ cs ts _ _ _ _ _ _ _ _ _ _ _ v4 off5 err5 _ _ _ _ _ _ ⟨⟨rfl,rfl,rfl,rfl,rfl,rfl,rfl,rfl,rfl,rfl⟩,rfl,rfl,rfl,rfl,rfl,rfl,rfl,rfl,rfl,rfl,rfl,k5,rfl,hk5,hS5⟩
   refine⟨fun mm mn hh nm' k fr c' t' s a q b1 b2 m0 m1 m2 m3 m4 at_ v' off' err kd le tx kv' tl st'=>RSD x hd ty l2 l3 l4 s a q b1 b2 m0 m1 m2 m3 m4/\many=mn/\header=hh/\nm=nm'/\(acc.length:Int)=k/\(j:Int)=fr/\8=kd/\[]=le/\[]=tx/\kv=kv'/\[]=tl/\st3=st'/\(k5:Int)=at_/\cs=c'/\ts=t'/\v4=v'/\
     ∃mi:Nat,mm=(mi:Int)/\mi<=L.length/\((err=0/\v2<=v'/\v'<=v2+1/\j<=k5/\slc x.s j k5=c'/\(header=true->ts∉L.take mi)/\(if header=true/\t'∈nsL then .error (j,8)else .ok (k5,v',if header then t'::nsL else nsL))=E)∨Rn E off' err),
    fun mm _ _ _ _ _ _ _ _ _ _ _ _ _ _ _ _ _ _ _ _ _ _ _ _ _ _ _=>(L.length-mm).toNat,⟨RSD.refl ..,rfl,rfl,rfl,rfl,rfl,rfl,rfl,rfl,rfl,rfl,rfl,rfl,rfl,rfl,rfl,0,rfl,by omega,?_⟩,?_⟩
   ·rcases hS5 with⟨h6,h7,h8,h9,h10,h11⟩ | h6
    ·exact .inl ⟨h6,h7,h8,h9,h10,by simp,h11⟩
    ·exact .inr h6
   clear hS5
   rintro _ _ _ _ _ _ _ _ _ _ _ _ _ _ _ _ _ _ _ _ off6 err6 _ _ _ _ _ _ ⟨⟨rfl,rfl,rfl,rfl,rfl,rfl,rfl,rfl,rfl,rfl⟩,rfl,rfl,rfl,rfl,rfl,rfl,rfl,rfl,rfl,rfl,rfl,rfl,rfl,rfl,rfl,mi,rfl,hmi,hS6⟩
   refine Wd (H:=(err6=0/\v2<=v4/\v4<=v2+1/\j<=k5/\slc x.s j k5=cs/\.ok (k5,v4,if header then ts::nsL else nsL)=E)∨Rn E off6 err6) (fun hS7=>?_) (fun hh t=>?_) (fun hh=>?_)
   ·clear hS6
    refine Ly e3 oN oK hap (by omega) (fun h=>by cases h) fun v6 st15 e15 hbx o15 oK15 hap15=>?_
    have hLl:(L++[ts]).length=acc.length+1:=by simp[hL]
    refine QG rfl hk5 hl (fun hf=>?_) fun o cc hf=>?_
    ·refine Aa (fun q=>?_) fun q=>?_
     ·rcases hS7 with⟨h,_⟩ | ⟨h,o,rfl,hE7⟩
      ·exact absurd h q
      ·rw[hE7]at hE
       exact Ab (Ce oK.rd.one) (h1 _ _ _ _ _ _ _ _ hE.symm h e15 (ndc _ _ _ _ oK hx))
     rcases hS7 with⟨h6,h7,h8,h9,h10,h11⟩ | h7
     case' inr=>exact absurd h7.1 q
     subst h6
     rw[<-h11]at hE
     simp only at hE
     have hlen:(acc++[GS x j k5]).length=acc.length+1:=by simp
     refine OU (H:=¬(k5<x.s.length/\by_ x.s k5=x.a)) (fun hmk=>?_) (fun q1 t=>⟨⟨by omega,by omega⟩,Aa (fun q2=>?_) fun q2=>t fun h=>q2 h.2⟩) (fun q h=>q (by omega))
     ·rw[if_neg hmk]at hE
      obtain⟨n7,hn7⟩:∃n7,B9 x.s k5= .ok n7:=by
       unfold VX at hf
       by_cases hc:k5<x.s.length/\by_ x.s k5≠x.a
       ·rw[if_pos hc]at hf
        cases hle:B9 x.s k5 with
        | ok n7=>exact⟨n7,rfl⟩
        | error e=>rw[hle]at hf;cases hf
       ·refine⟨0,?_⟩
        unfold B9
        rw[if_pos]
        apply Decidable.byContradiction
        intro hlt
        exact hmk ⟨by omega,Decidable.byContradiction fun hb=>hc ⟨by omega,hb⟩⟩
      rw[hn7]at hE
      simp only[GI,hn7]at hE
      rw[hlen]at hE
      have hle:=EX hk5 hn7
      have hent:GS x j k5=Jk x.s j k5 []:=by unfold GS;rw[if_neg hmk]
      have hcE:NdC (GS x j k5) [.int .i64 5,.str [],.str [],.list 5 .full 1 [.int .i64 2,.str [],.str cs,.nilSlice,.str []],.str []]:=by
       rw[hent];exact NdC.ent1 (by rw[h10];exact .inr ⟨_,rfl⟩)
      refine By e15 rfl oK15 (by omega) (fun h=>by cases h) fun v9 st19 e19 hbx9 o19=>Ab (Gq o19.rd.one) ?_
      have hx9:=hx.append (AT.one hcE)
      have hnd:∀tl,NdC (.mk 8 [] [] (acc++[GS x j k5]) tl) [.int .i64 8,.str [],.str [],v9,.str tl]:=fun tl=>by unfold NdC;exact⟨v9,_,rfl,by rw[hlen];exact o19.rd,hx9⟩
      rw[w1 acc.length (by omega)]
      refine Aa (fun q8=>?_) fun q8=>?_
      ·have hn:num=true:=by cases hb:num with | true=>rfl | false=>rw[hb]at hm;simp at hm;omega
       rw[hn,if_pos rfl]at hm
       rw[hn,if_pos rfl,if_pos (by omega)]at hE
       exact D5 (fun _=>Ab (Ce o19.rd.one) (h1 _ _ _ _ _ _ _ _ hE.symm (by decide) e19 (hnd _))) fun h=>absurd rfl h
      ·have hE2: .ok (k5+n7,v4,if header=true then ts::nsL else nsL,Nd.mk 8 [] [] (acc++[GS x j k5]) (slc x.s k5 (k5+n7)),((acc.length+1:Nat):Int))=D0:=by
        cases hb:num with
        | true=>
         rw[hb,if_pos rfl]at hm
         rw[hb,if_pos rfl,if_neg (by omega)]at hE
         rw[<-hE]
         have hnw':¬wid<=(acc.length:Int):=fun h=>hnw ⟨hb,h⟩
         have:wid=((acc.length+1:Nat):Int):=by omega
         rw[this]
        | false=>
         rw[hb,if_neg (by simp)]at hE
         rw[<-hE]
         rfl
       refine U0 rfl hk5 hl ?_
       rw[hn7]
       have w2:i64.wrap ((k5:Int)+((n7:Nat):Int))=((k5+n7:Nat):Int):=by rw[Ah _ (by omega) (by omega)];omega
       simp only[w2]
       exact⟨⟨by omega,by omega,by omega⟩,Ab (Ce o19.rd.one) (h0 _ _ _ _ _ _ _ _ _ hE2.symm e19 (hnd _))⟩
     ·rw[if_pos ⟨by omega,q2⟩]at hE
      rw[w1 k5 (by omega),w1 acc.length (by omega)]
      have hent:GS x j k5=Jk x.s j k5 [.mk 11 [] [x.s.getD k5 0] [] []]:=by unfold GS;rw[if_pos ⟨by omega,q2⟩]
      refine⟨⟨by omega,by omega,by omega⟩,?_⟩
      rw[tn,tn,show List.drop k5 (List.take (k5+1) x.s)=[x.s.getD k5 0]from Qz (by omega)]
      refine By (Ar.refl st15) rfl (Own.full _ _ _ _ _) (by omega) (fun h=>by cases h) fun v7 st17 e17 hbx7 o17=>Ab (Gq o17.rd.one) (Ab (Ce o17.rd.one) ?_)
      have hcE:NdC (GS x j k5) [.int .i64 5,.str [],.str [],v7,.str []]:=by
       rw[hent];exact NdC.ent2 (by rw[h10];exact o17.rd)
      refine Ly (e15.trans e17) (oK15.ext e17) (o15.ext e17) hap15.symm (by omega) (fun h=>by cases h) fun v8 st18 e18 hbx8 o18 oN18 hap18=>Ab (Gq o18.rd.one) ?_
      refine⟨⟨RSD.refl ..,rfl,rfl,rfl,rfl,rfl,rfl,e18,k5+1,n,acc++[GS x j k5],L++[ts],if header then ts::nsL else nsL,_,rfl,by omega,by rw[hlen],by rw[hlen,hLl],by rw[hlen];omega,fun hn=>?_,by rw[hLl,List.map_append,<-hL];exact oN18,by rw[hlen];exact o18,hap18.symm,hx.append (AT.one hcE),.inl ⟨rfl,by omega,by omega,by omega,fun hh=>?_,hE⟩⟩,by dsimp only;omega⟩
      ·have:¬wid<=(acc.length:Int):=fun h=>hnw ⟨hn,h⟩
       rw[hlen];omega
      ·rw[hh,if_pos rfl,hnL hh];simp
    ·have hce:=Xq hf
     refine Aa (fun q=>?_) fun q=>?_
     ·by_cases h0':err6=0
      ·rw[if_pos h0',if_pos h0']
       rcases hS7 with⟨h6,h7,h8,h9,h10,h11⟩ | h7
       case' inr=>exact absurd h0' h7.1
       rw[<-h11]at hE
       simp only at hE
       rw[if_neg (fun h=>hce.2.1 h.2),hce.2.2]at hE
       exact Ab (Ce oK.rd.one) (h1 _ _ _ _ _ _ _ _ hE.symm hce.1 e15 (ndc _ _ _ _ oK hx))
      ·rw[if_neg h0',if_neg h0']
       rcases hS7 with⟨h,_⟩ | ⟨h,o,rfl,hE7⟩
       ·exact absurd h h0'
       ·rw[hE7]at hE
        exact Ab (Ce oK.rd.one) (h1 _ _ _ _ _ _ _ _ hE.symm h e15 (ndc _ _ _ _ oK hx))
     ·exfalso
      apply q
      by_cases h0':err6=0
      ·rw[if_pos h0'];exact hce.1
      ·rw[if_neg h0'];exact h0'
   ·refine Ab oN.rd.isSl ?_
    rw[oN.rd.lenS,oN.rd.lenZ,tn]
    refine Aa (fun q=>?_) fun q=>t ?_
    ·have hlt:mi<L.length:=by omega
     have hget:=List.getElem?_eq_getElem hlt
     generalize L[mi]=tm at hget
     refine⟨⟨by omega,by omega⟩,Ad (strs_ld oN.rd st3 hget) (Ak ?_)⟩
     rw[w1 mi (by omega)]
     refine Aa (fun q2=>?_) fun q2=>?_
     ·subst q2
      refine D5 (fun h=>⟨⟨RSD.refl ..,rfl,rfl,rfl,rfl,rfl,rfl,rfl,rfl,rfl,rfl,rfl,rfl,rfl,rfl,rfl,mi+1,rfl,by omega,.inr ?_⟩,by dsimp only;omega⟩) (fun h=>⟨⟨RSD.refl ..,rfl,rfl,rfl,rfl,rfl,rfl,rfl,rfl,rfl,rfl,rfl,rfl,rfl,rfl,rfl,mi+1,rfl,by omega,.inr ?_⟩,by dsimp only;omega⟩)
      ·rcases hS6 with⟨_,_,_,_,_,_,h6⟩ | h6
       ·rw[if_pos ⟨hh,by rw[hnL hh];simpa using List.mem_of_getElem? hget⟩]at h6
        exact⟨by decide,j,rfl,h6.symm⟩
       ·exact absurd h h6.1
      ·rcases hS6 with⟨h6,_⟩ | h6
       ·exact absurd h6 h
       ·exact h6
     ·refine⟨⟨RSD.refl ..,rfl,rfl,rfl,rfl,rfl,rfl,rfl,rfl,rfl,rfl,rfl,rfl,rfl,rfl,rfl,mi+1,rfl,by omega,?_⟩,by dsimp only;omega⟩
      rcases hS6 with⟨h6,h7,h8,h9,h10,h11,h12⟩ | h6
      ·refine .inl ⟨h6,h7,h8,h9,h10,fun hh=>?_,h12⟩
       rw[List.take_add_one,hget]
       simp only[Option.toList_some,List.mem_append,List.mem_singleton,not_or]
       exact⟨h11 hh,fun h=>q2 h.symm⟩
      ·exact .inr h6
    ·rcases hS6 with⟨h6,h7,h8,h9,h10,h11,h12⟩ | h6
     ·refine .inl ⟨h6,h7,h8,h9,h10,?_⟩
      have:=h11 hh
      rw[List.take_of_length_le (by omega)]at this
      rwa [if_neg (by rintro⟨_,h⟩;rw[hnL hh]at h;simp at h;exact this h)]at h12
     ·exact .inr h6
   ·rcases hS6 with⟨h6,h7,h8,h9,h10,h11,h12⟩ | h6
    ·exact .inl ⟨h6,h7,h8,h9,h10,by rwa [if_neg (by rintro⟨h,_⟩;rw[hh]at h;cases h)]at h12⟩
    ·exact .inr h6
 ·have hn:num=true:=by cases hb:num with | true=>rfl | false=>rw[hb]at hm;simp at hm;omega
  rw[hn,if_pos rfl]at hm
  rw[if_pos ⟨hn,by omega⟩]at hE
  exact D5 (fun _=>Ab (Ce oK.rd.one) (h1 _ _ _ _ _ _ _ _ hE.symm (by decide) e3 (ndc _ _ _ _ oK hx))) fun h=>absurd rfl h
 ·rintro⟨hn,h⟩
  have:=hac2 hn
  rw[hn,if_pos rfl]at hm
  omega
 ·rintro⟨hn,_⟩
  rw[hn,if_pos rfl]at hm
  have:=hw hn;omega
end
end
section
section
variable {x:Cx} {hd ty:Bool} {l2 l3 l4:Int} {st:St}
theorem VB {K:Int->B8->B8->TV->B8->Int->Int->St->Prop} (hl:x.s.length<=2000000)
  (hk:∀k kv st',Ar st st'->NdC (pN (AX x hd l2 l3 l4)) [.int .i64 k,.str [],.str [],kv,.str []]->K k [] [] kv [] (pO (AX x hd l2 l3 l4)) (pE (AX x hd l2 l3 l4)) st'):
  CallT PR CO [.str x.s,.agg [.int .u8 x.a,.int .u8 x.q,.bool hd,.bool ty],.agg [.int .i64 x.dep,.int .i64 x.nod,.int .i64 l2,.int .i64 l3,.int .i64 l4]] [.agg [.int .i64,.str,.str,.tv,.str],.one (.int .i64),.one (.int .i64)] st K:=by
 generalize hP:AX x hd l2 l3 l4=P at hk
 unfold AX at hP
 have hnil:NdC (.mk 0 [] [] [] []) [.int .i64 0,.str [],.str [],.nilSlice,.str []]:=by unfold NdC;exact⟨_,[],rfl,.inl ⟨rfl,rfl,rfl⟩,AT.nil⟩
 have bad:∀(o:Nat) (e:Int) st',P= .error (o,e)->Ar st st'->K 0 [] [] .nilSlice [] o e st':=fun o e st' h he=>by
  have:=hk 0 .nilSlice st' he (by rw[h];exact hnil)
  rwa [h]at this
 refine Ik x.s x.a x.q hd ty x.dep x.nod l2 l3 l4 st K (Th (Am (fun g=>?_) fun g=>?_))
 ·have g:dOk x.a x.q=false:=by simpa using g
  rw[if_pos g]at hP
  exact bad _ _ st hP.symm (Ar.refl _)
 have g:dOk x.a x.q=true:=by simpa using g
 rw[if_neg (by rw[g];decide)]at hP
 refine Hs x.s x.dep x.nod l2 l3 l4 st _ (Tc (Am (fun g=>?_) fun g=>?_))
 ·have g:lOk x.dep x.nod l2 l3 l4=false:=by simpa using g
  rw[if_pos g]at hP
  exact Aa (fun _=>bad 0 _ st hP.symm (Ar.refl _)) fun h=>absurd (by decide) h
 have glim:lOk x.dep x.nod l2 l3 l4=true:=by simpa using g
 rw[if_neg (by rw[glim];decide)]at hP
 refine Aa (fun g=>?_) fun g=>?_
 ·rw[if_pos g]at hP
  exact Aa (fun _=>bad 0 _ st hP.symm (Ar.refl _)) fun h=>absurd (by decide) h
 rw[if_neg g]at hP
 have hv:=KN x.s
 refine rbad_ok hl fun st1 e1=>Aa (fun g=>?_) fun g=>?_
 ·rw[if_pos (by omega)]at hP
  exact Aa (fun _=>bad _ _ st1 hP.symm e1) fun h=>absurd (by decide) h
 rw[if_neg (by omega)]at hP
 refine Aa (fun h=>absurd rfl h) fun _=>?_
 have hbeg:Ev x.dep x.nod 1 0 0= .ok 1:=by
  unfold lOk at glim
  have:=of_decide_eq_true glim
  unfold Ev
  rw[if_neg (by omega),if_neg (by omega)];rfl
 refine L5 (k:=0) rfl (by decide) (by decide) (fun v' hb=>?_) fun o e hb=>by rw[hbeg]at hb;cases hb
 rw[hbeg]at hb
 cases hb
 refine⟨fun mn s' a' q' h' t' s a q b1 b2 m0 m1 m2 m3 m4 at_ v' off' err kd le tx kv tl st'=>x.s=s'/\x.a=a'/\x.q=q'/\hd=h'/\ty=t'/\RSD x hd ty l2 l3 l4 s a q b1 b2 m0 m1 m2 m3 m4/\1=kd/\[]=le/\[]=tx/\[]=tl/\Ar st st'/\
   ∃(acc:List Nd) (xs:List TV),Own st.nt 5 st' kv acc.length xs/\AT acc xs/\acc.length<=x.s.length+1/\
    ((err=0/\∃(j n:Nat) (w:Int) (ns:List B8),at_=(j:Int)/\j<=x.s.length/\x.s.length<j+n/\acc.length<=j/\0<=v'/\v'<=1+3*j/\mn=(if !acc.isEmpty then w else 0)/\((!acc.isEmpty)=true->1<=w)/\(acc=[]->ns=[])/\(match DO x hd n acc j v' ns w with | .error e=> .error e | .ok rs=> .ok (.mk 1 [] [] rs []))=P)∨Rn P off' err),
  fun _ _ _ _ _ _ _ _ _ _ _ _ _ _ _ _ at_ _ _ err _ _ _ _ _ _=>if err=0 then(x.s.length-at_).toNat+1 else 0,?_,?_⟩
 ·refine⟨rfl,rfl,rfl,rfl,rfl,RSD.refl ..,rfl,rfl,rfl,rfl,e1,[],[],Own.nil _ _ _,AT.nil,by simp,.inl ⟨rfl,0,x.s.length+1,0,[],rfl,by omega,by omega,by simp,by omega,by omega,rfl,fun h=>(by cases h),fun _=>rfl,hP⟩⟩
 rintro mn _ _ _ _ _ _ _ _ _ _ _ _ _ _ _ at3 v3 off3 err3 _ _ _ kv _ st3 ⟨rfl,rfl,rfl,rfl,rfl,⟨rfl,rfl,rfl,rfl,rfl,rfl,rfl,rfl,rfl,rfl⟩,rfl,rfl,rfl,rfl,e3,acc,xs,o3,hx,hlen,hS⟩
 refine Aa (fun q0=>?_) fun q0=>?_
 case' refine_2=>
  rcases hS with⟨h,_⟩ | ⟨h,o,rfl,hE⟩
  ·exact absurd h q0
  ·exact Aa (fun _=>bad _ _ st3 hE e3) fun h=>absurd q0 h
 subst q0
 rcases hS with⟨_,j,n,w,ns,rfl,hj,hjn,hac,hv0,hv1,hmn,hw,hns,hE⟩ | ⟨h,_⟩
 case' inr=>exact absurd rfl h
 cases n with
 | zero=>omega
 | succ n=>
 rw[Mp]at hE
 refine Aa (fun q=>?_) fun q=>?_
 case' refine_2=>
  rw[if_pos (by omega)]at hE
  simp only at hE
  subst hE
  exact Aa (fun h=>absurd rfl h) fun _=>Ab (Ce o3.rd.one) (hk 1 kv st3 e3 (by unfold pN NdC;exact⟨kv,xs,rfl,o3.rd,hx⟩))
 rw[if_neg (by omega)]at hE
 have hN2:(hd=true->decide (((acc.length:Nat):Int)=0)=(hd&&acc.isEmpty)):=fun h=>by
  rw[h]
  cases acc with
  | nil=>rfl
  | cons a l=>exact decide_eq_false (by simp only[List.length_cons];omega)
 refine Am (fun hh=>Ab o3.rd.isSl ?_) fun hh=>?_
 case' refine_1=>rw[o3.rd.lenS,hN2 hh]
 case' refine_2=>
  have hN3:false=(hd&&acc.isEmpty):=by rw[hh];rfl
  rw[hN3]
 all_goals
  have hnsx:(hd&&acc.isEmpty)=true->ns=[]:=fun h=>hns (by simp only[Bool.and_eq_true]at h;simpa using h.2)
  refine Tb rfl hj hl hv0 (by omega) hmn hw hnsx (fun k v1 ns1 r w1 off1 kv1 tl st4 hr e4 hc4=>?_) fun o e k v1 r kv1 tl st4 hr he e4 hc4=>?_
  ·rw[hr]at hE
   simp only at hE
   have hle:=QJ (by omega) hr
   have hone:Ap kv1=true:=by
    obtain⟨a,b,c,d,f⟩:=r
    unfold NdC at hc4
    obtain⟨u,ys,hu,hu2,_⟩:=hc4
    cases hu
    exact hu2.one
   refine Ab (Ce hone) (Ab (Ce hone) ?_)
   refine By (e3.trans e4) rfl (o3.ext e4) (by omega) (fun h=>by cases h) fun v5 st5 e5 hbx o5=>Ab (Gq o5.rd.one) ?_
   have hl1:(acc++[r]).length=acc.length+1:=by simp
   have hne:(!(acc++[r]).isEmpty)=true:=by cases acc<;>rfl
   refine⟨⟨rfl,rfl,rfl,rfl,rfl,RSD.refl ..,rfl,rfl,rfl,rfl,e5,acc++[r],_,by rw[hl1];exact o5,hx.append (AT.one hc4),by omega,.inl ⟨rfl,k,n,w1,ns1,rfl,by omega,by omega,by omega,by omega,by omega,by rw[hne];rfl,fun _=>hle.2.2.2.2,fun h=>(by simp at h),hE⟩⟩,?_⟩
   simp only[if_true]
   omega
  ·rw[hr]at hE
   simp only at hE
   have hone:Ap kv1=true:=by
    obtain⟨a,b,c,d,f⟩:=r
    unfold NdC at hc4
    obtain⟨u,ys,hu,hu2,_⟩:=hc4
    cases hu
    exact hu2.one
   refine Ab (Ce hone) (Ab (Ce hone) ?_)
   refine By (e3.trans e4) rfl (o3.ext e4) (by omega) (fun h=>by cases h) fun v5 st5 e5 hbx o5=>Ab (Gq o5.rd.one) ?_
   have hl1:(acc++[r]).length=acc.length+1:=by simp
   refine⟨⟨rfl,rfl,rfl,rfl,rfl,RSD.refl ..,rfl,rfl,rfl,rfl,e5,acc++[r],_,by rw[hl1];exact o5,hx.append (AT.one hc4),by omega,.inr ⟨he,o,rfl,hE.symm⟩⟩,?_⟩
   simp only[if_true]
   rw[if_neg he];omega
end
end
theorem Nj {q:Int} {c:UInt8} (hc:(c.toNat:Int)=q):∀(t rest:B8) (i:Nat),(∀b l,rest=b::l->(b.toNat:Int)≠q)->ID q (dbl c t++c::rest) i=some (i+(dbl c t).length+1)
 | [],rest,i,h=>by
  simp only[dbl,List.flatMap_nil,List.nil_append,List.length_nil,Nat.add_zero]
  cases rest with
  | nil=>simp only[ID];rw[if_pos hc]
  | cons b l=>simp only[ID];rw[if_pos hc,if_neg (h b l rfl)]
 | b::t,rest,i,h=>by
  rw[CE]
  by_cases hb:b=c
  ·rw[if_pos hb]
   have ih:=Nj hc t rest (i+2) h
   simp only[List.cons_append,List.nil_append,List.length_cons,ID]
   rw[if_pos hc,if_pos hc,ih]
   congr 1;omega
  ·rw[if_neg hb]
   have hb':(b.toNat:Int)≠q:=fun h=>hb (UInt8.toNat_inj.1 (by omega))
   have ih:=Nj hc t rest (i+1) h
   simp only[List.cons_append,List.nil_append,List.length_cons]
   cases hr:dbl c t++c::rest with
   | nil=>simp at hr
   | cons b2 l2=>
    rw[hr]at ih
    simp only[ID]
    rw[if_neg hb',ih]
    congr 1;omega
theorem UQ {a q:Int} (ha:a≠q) (hq:q≠10) (hq2:q≠13):∀(t:B8) (b:UInt8) (rest:B8) (i:Nat),(∀c∈t,(c.toNat:Int)≠a/\(c.toNat:Int)≠q/\(c.toNat:Int)≠10/\(c.toNat:Int)≠13)->
  ((b.toNat:Int)=a∨(b.toNat:Int)=10)->Sf a q (t++b::rest) i= .ok (i+t.length)
 | [],b,rest,i,h,hb=>by simp only[List.nil_append,Sf];rw[if_pos (by omega)];rfl
 | c::t,b,rest,i,h,hb=>by
  have hc:=h c (List.mem_cons_self ..)
  simp only[List.cons_append,Sf]
  rw[if_neg (by omega),if_neg hc.2.1,UQ ha hq hq2 t b rest (i+1) (fun d hd=>h d (List.mem_cons_of_mem _ hd)) hb]
  simp;omega
def Gr (a q:Int) (s:B8):Bool:=s.any fun c=>decide ((c.toNat:Int)=a∨(c.toNat:Int)=q∨(c.toNat:Int)=10∨(c.toNat:Int)=13)
def Ed (a q:Int) (s:B8):B8:=if Gr a q s then UInt8.ofNat q.toNat::(dbl (UInt8.ofNat q.toNat) s++[UInt8.ofNat q.toNat])else s
theorem WY {a q:Int} {s:B8} (h:Gr a q s=false):∀c∈s,(c.toNat:Int)≠a/\(c.toNat:Int)≠q/\(c.toNat:Int)≠10/\(c.toNat:Int)≠13:=by
 intro c hc
 unfold Gr at h
 rw[List.any_eq_false]at h
 have:=h c hc
 rw[decide_eq_true_eq]at this
 omega
theorem JG {q:Int} (h:0<=q) (h2:q<=255):((UInt8.ofNat q.toNat).toNat:Int)=q:=by
 rw[UInt8.toNat_ofNat'];omega
theorem Uj {a q:Int} (hq0:0<=q) (hq1:q<=255) (ha:a≠q) (hq:q≠10) (hq2:q≠13) (pre c:B8) (b:UInt8) (post:B8) (hb:(b.toNat:Int)=a∨(b.toNat:Int)=10):
  Bt a q (pre++Ed a q c++b::post) pre.length= .ok (pre.length+(Ed a q c).length):=by
 have hd:(pre++Ed a q c++b::post).drop pre.length=Ed a q c++b::post:=by rw[List.append_assoc,List.drop_left]
 have hby:∀d l,Ed a q c++b::post=d::l->by_ (pre++Ed a q c++b::post) pre.length=(d.toNat:Int):=fun d l h=>by
  have:(pre++Ed a q c++b::post).getD pre.length 0=((pre++Ed a q c++b::post).drop pre.length).getD 0 0:=by rw[Hd];rfl
  unfold by_
  rw[this,hd,h];rfl
 have hlen:pre.length<(pre++Ed a q c++b::post).length:=by simp only[List.length_append,List.length_cons];omega
 have hqb:=JG hq0 hq1
 unfold Bt
 by_cases hn:Gr a q c=true
 ·have hqc:Ed a q c=UInt8.ofNat q.toNat::(dbl (UInt8.ofNat q.toNat) c++[UInt8.ofNat q.toNat]):=by unfold Ed;rw[if_pos hn]
  have:=hby (UInt8.ofNat q.toNat) (dbl (UInt8.ofNat q.toNat) c++[UInt8.ofNat q.toNat]++b::post) (by rw[hqc];rfl)
  rw[if_pos ⟨hlen,by rw[this];exact hqb⟩]
  have hQ:QE q (pre++Ed a q c++b::post) (pre.length+1)=some (pre.length+(Ed a q c).length):=by
   unfold QE
   rw[<-List.drop_drop,hd,hqc]
   have:=Nj hqb c (b::post) (pre.length+1) (fun b' l' h=>by cases h;omega)
   simp only[List.cons_append,List.drop_succ_cons,List.drop_zero,List.append_assoc,List.nil_append]
   rw[this]
   congr 1
   simp;omega
  rw[hQ]
 ·have hn:Gr a q c=false:=by simpa using hn
  have hqc:Ed a q c=c:=by unfold Ed;rw[if_neg (by rw[hn];decide)]
  have hno:=WY hn
  have hP:PE a q (pre++Ed a q c++b::post) pre.length= .ok (pre.length+(Ed a q c).length):=by
   unfold PE
   rw[hd,hqc]
   exact UQ ha hq hq2 c b post pre.length hno hb
  rw[if_neg,hP]
  rintro⟨_,h2⟩
  cases hc:c with
  | nil=>rw[hby b post (by rw[hqc,hc];rfl)]at h2;omega
  | cons d l=>rw[hby d (l++b::post) (by rw[hqc,hc];rfl)]at h2;exact(hno d (by rw[hc];exact List.mem_cons_self ..)).2.1 h2
theorem chk_ent {a q:Int} {k:Nd} (h:Wb a q k) {s:Int} (hs:s+3<=524288):∃s',chk k 3 s= .ok s'/\s<=s'/\s'<=s+3:=by
 obtain⟨c,mark,rfl,_,hm⟩:=h
 rcases hm with rfl | ⟨b,_,rfl⟩
 ·refine⟨s+1+1,?_,by omega,by omega⟩
  have l2:H6 2=true:=by decide
  have l5:H6 5=false:=by decide
  simp only[chk,Gk,l2,l5,List.length_nil]
  rw[if_neg (by omega),if_neg (by omega),if_neg (by omega),if_neg (by simp),if_neg (by omega),if_neg (by omega),if_neg (by omega),if_neg (by simp)]
 ·refine⟨s+1+1+1,?_,by omega,by omega⟩
  have l2:H6 2=true:=by decide
  have l5:H6 5=false:=by decide
  have l11:H6 11=true:=by decide
  simp only[chk,Gk,l2,l5,l11,List.length_nil]
  rw[if_neg (by omega),if_neg (by omega),if_neg (by omega),if_neg (by simp),if_neg (by omega),if_neg (by omega),if_neg (by omega),if_neg (by simp)]
  simp only
  rw[if_neg (by omega),if_neg (by omega),if_neg (by omega),if_neg (by simp)]
theorem Qd {a q:Int}:∀(ks:List Nd) (h:∀k∈ks,Wb a q k) {s:Int} (hs:s+3*ks.length<=524288),∃s',Gk ks 3 s= .ok s'/\s<=s'/\s'<=s+3*ks.length
 | [],h,s,hs=>⟨s,rfl,by omega,by simp⟩
 | k::ks,h,s,hs=>by
  rw[List.length_cons]at hs
  obtain⟨s1,h1,h2,h3⟩:=chk_ent (h k (List.mem_cons_self ..)) (s:=s) (by omega)
  obtain⟨s2,h4,h5,h6⟩:=Qd ks (fun k hk=>h k (List.mem_cons_of_mem _ hk)) (s:=s1) (by omega)
  refine⟨s2,?_,by omega,by rw[List.length_cons];omega⟩
  simp only[Gk,h1,h4]
theorem V6 {a q:Int} {src:B8} {i:Nat} {rs:List Nd} (h:Jt a q src i rs):i<=src.length->∀{s:Int},s+7*(src.length-i:Nat)<=524288->∃s',Gk rs 2 s= .ok s'/\s<=s'/\s'<=s+7*(src.length-i:Nat):=by
 induction h with
 | nil h=>intro hi s hs;exact⟨s,rfl,by omega,by omega⟩
 | @cons i e n ks rs h1 h2 h3 ih=>
  intro hi s hs
  have hle:=h2.le hi
  have hpos:1<=e+n-i:=by
   have:=(EX (by omega) hle.2.2.2.2).2.1
   rcases Nat.eq_zero_or_pos n with h0 | h0
   ·have:=this h0;omega
   ·omega
  obtain⟨s1,j1,j2,j3⟩:=Qd ks (h2.form hi) (s:=s+1) (by omega)
  obtain⟨s2,j4,j5,j6⟩:=ih (by omega) (s:=s1) (by omega)
  have l8:H6 8=false:=by decide
  refine⟨s2,?_,by omega,by omega⟩
  simp only[Gk,chk,l8]
  rw[if_neg (by omega),if_neg (by omega),if_neg (by omega),if_neg (by simp)]
  simp only[Int.reduceAdd]
  rw[j1]
  exact j4
theorem P0 {a q:Int}:∀(ks:List Nd) (h:∀k∈ks,Wb a q k),Gi ks<=3*ks.length
 | [],h=>by simp[Gi]
 | k::ks,h=>by
  have ih:=P0 ks fun k hk=>h k (List.mem_cons_of_mem _ hk)
  obtain⟨c,mark,rfl,_,hm⟩:=h k (List.mem_cons_self ..)
  rcases hm with rfl | ⟨b,_,rfl⟩<;>simp only[Gi,BT,List.length_cons]<;>omega
theorem PZ {a q:Int} {src:B8} {i:Nat} {rs:List Nd} (h:Jt a q src i rs):i<=src.length->Gi rs<=7*(src.length-i)/\rs.length<=src.length-i:=by
 induction h with
 | nil h=>intro hi;simp[Gi]
 | @cons i e n ks rs h1 h2 h3 ih=>
  intro hi
  have hle:=h2.le hi
  have hpos:1<=e+n-i:=by
   have:=(EX (by omega) hle.2.2.2.2).2.1
   rcases Nat.eq_zero_or_pos n with h0 | h0
   ·have:=this h0;omega
   ·omega
  have:=P0 ks (h2.form hi)
  have ih:=ih (by omega)
  simp only[Gi,BT,List.length_cons]
  omega
theorem Da {x:Cx} {hd:Bool} {l2 l3 l4:Int} {n:Nd} (h:AX x hd l2 l3 l4= .ok n):∃rs,n= .mk 1 [] [] rs []/\dOk x.a x.q=true/\lOk x.dep x.nod l2 l3 l4=true/\(x.s.length:Int)<=l2/\Bj x.s=x.s.length/\DO x hd (x.s.length+1) [] 0 1 [] 0= .ok rs/\
  Jt x.a x.q x.s 0 rs/\(∀r∈rs,∀k∈At r,(txt x.q (AA k)).length<=65536)/\(∃W:Int,∀r∈rs,((At r).length:Int)=W):=by
 unfold AX at h
 split at h
 ·cases h
 rename_i h1
 split at h
 ·cases h
 rename_i h2
 split at h
 ·cases h
 rename_i h3
 split at h
 ·cases h
 rename_i h4
 split at h
 ·cases h
 rename_i rs hr
 cases h
 obtain⟨rs',j1,j2,j3,⟨W,j4,j5⟩,j6⟩:=OC _ (by omega) hr
 rw[List.nil_append]at j1
 subst j1
 exact⟨_,rfl,by simpa using h1,by simpa using h2,by omega,Decidable.not_not.1 h4,hr,j2,j3,W,j5⟩
abbrev xU (s:B8) (a q:Int):Cx:=⟨s,a,q,48,65536⟩
abbrev Oa (s:B8) (a q:Int) (hd:Bool):Except (Nat×Int) Nd:=AX (xU s a q) hd 1048576 1024 65536
def D6 (n:Nd) (a q:Int) (hd:Bool):Prop:=H9 n=0/\Oa (BD n) a q hd= .ok n
theorem Jo {n:Nd} (h:H9 n=0):B4 n<=1048576:=by
 unfold H9 at h
 split at h
 ·rename_i e he;exact absurd h (EM n he)
 ·split at h
  ·cases h
  ·omega
theorem Tt {x:Cx} {hd:Bool} {l2 l3 l4:Int} (hl:x.s.length<=2000000):BT (pN (AX x hd l2 l3 l4))<=1000000000000000:=by
 cases h:AX x hd l2 l3 l4 with
 | error e=>simp[pN,BT,Gi]
 | ok n=>
  obtain⟨rs,rfl,_,_,_,_,_,hr,_⟩:=Da h
  have:=(PZ hr (by omega)).1
  simp only[pN,BT];omega
theorem NdC.five {n:Nd} {cs:List TV} (h:NdC n cs):∃k l t v tl,cs=[.int .i64 k,.str l,.str t,v,.str tl]/\Ap v=true:=by
 cases n
 unfold NdC at h
 obtain⟨v,xs,rfl,hr,_⟩:=h
 exact⟨_,_,_,v,_,rfl,hr.one⟩
theorem VT {st:St} {K:Int->Int->Int->Int->Int->St->Prop} (hk:K 48 65536 1048576 1024 65536 st):CallT PR F6 [] [.agg [.int .i64,.int .i64,.int .i64,.int .i64,.int .i64]] st K:=NF st K hk
theorem Mz {st:St} {K:Int->Int->Int->Int->Int->St->Prop} (hk:K 48 65536 1048576 1024 65536 st):CallT PR BP [] [.agg [.int .i64,.int .i64,.int .i64,.int .i64,.int .i64]] st K:=Ir st K hk
theorem R9 {st:St} {K:Int->Int->Int->Int->Int->St->Prop} (hk:K 48 65536 1048576 1024 65536 st):CallT PR CP [] [.agg [.int .i64,.int .i64,.int .i64,.int .i64,.int .i64]] st K:=Il st K (Mz hk)
theorem UR {n:Nd} {cs:List TV} {a q:Int} {hd ty:Bool} (hc:NdC n cs) (hl:B4 n<=100000000000000) (hcn:BT n<=1000000000000000) {st:St} {K:Bool->St->Prop}
  (hk1:∀st',Ar st st'->D6 n a q hd->K true st') (hk2:∀st',Ar st st'->¬D6 n a q hd->K false st'):
  CallT PR ES [.agg cs,.agg [.int .u8 a,.int .u8 q,.bool hd,.bool ty]] [.one .bool] st K:=by
 obtain⟨k,l,t,v,tl,rfl,_⟩:=hc.five
 refine O6 k l t v tl a q hd ty st K (Vt hc (by omega) hcn fun st1 e1=>Aa (fun g=>hk2 st1 e1 fun h=>g h.1) fun g=>?_)
 have g:H9 n=0:=Decidable.not_not.1 g
 have hlen:=Jo g
 have htl:=CH n
 refine Vq hc hl hcn fun st2 e2=>VT ?_
 refine PK (x:=xU (BD n) a q) (by show(BD n).length<=_;omega) fun kd kv st3 e3 hn=>?_
 have e13:=(e1.trans e2).trans e3
 obtain⟨_,_,_,_,_,h5,ho⟩:=hn.five
 cases h5
 refine Ab (Ce ho) (Aa (fun g2=>?_) fun g2=>?_)
 ·refine RD _ _ hn hc (Tt (by show(BD n).length<=_;omega)) (fun he=>hk1 _ e13 ⟨g,?_⟩) fun he=>hk2 _ e13 fun h=>he ?_
  ·show AX _ _ _ _ _=_
   revert he g2
   cases hp:AX (xU (BD n) a q) hd 1048576 1024 65536 with
   | error e=>
    intro _ he
    simp only[pN]at he
    rw[<-he]at g
    exact absurd g (by decide)
   | ok m=>intro _ he;simp only[pN]at he;rw[he]
  ·rw[show AX (xU (BD n) a q) hd 1048576 1024 65536= .ok n from h.2];rfl
 ·refine hk2 _ e13 fun h=>g2 ?_
  rw[show AX (xU (BD n) a q) hd 1048576 1024 65536= .ok n from h.2];rfl
theorem WB {n:Nd} {cs:List TV} {a q:Int} {hd ty:Bool} (hc:NdC n cs) (hl:B4 n<=100000000000000) (hcn:BT n<=1000000000000000) {st:St} {K:Bool->St->Prop}
  (hk1:∀st',Ar st st'->D6 n a q hd->K true st') (hk2:∀st',Ar st st'->¬D6 n a q hd->K false st'):
  CallT PR Cs [.agg cs,.agg [.int .u8 a,.int .u8 q,.bool hd,.bool ty]] [.one .bool] st K:=by
 obtain⟨k,l,t,v,tl,rfl,_⟩:=hc.five
 refine Kq k l t v tl a q hd ty st K (Tm hc (by omega) hcn (Aa (fun g=>hk2 st (Ar.refl _) fun h=>g h.1) fun g=>?_))
 have g:H9 n=0:=Decidable.not_not.1 g
 have hlen:=Jo g
 have htl:=CH n
 refine Pz n hc (by omega) hcn (Mz ?_)
 refine VB (x:=xU (BD n) a q) (by show(BD n).length<=_;omega) fun kd kv st3 e13 hn=>?_
 obtain⟨_,_,_,_,_,h5,ho⟩:=hn.five
 cases h5
 refine Ab (Ce ho) (Aa (fun g2=>?_) fun g2=>?_)
 ·refine RW _ _ hn hc (Tt (by show(BD n).length<=_;omega)) (fun he=>hk1 _ e13 ⟨g,?_⟩) fun he=>hk2 _ e13 fun h=>he ?_
  ·show AX _ _ _ _ _=_
   revert he g2
   cases hp:AX (xU (BD n) a q) hd 1048576 1024 65536 with
   | error e=>
    intro _ he
    simp only[pN]at he
    rw[<-he]at g
    exact absurd g (by decide)
   | ok m=>intro _ he;simp only[pN]at he;rw[he]
  ·rw[show AX (xU (BD n) a q) hd 1048576 1024 65536= .ok n from h.2];rfl
 ·refine hk2 _ e13 fun h=>g2 ?_
  rw[show AX (xU (BD n) a q) hd 1048576 1024 65536= .ok n from h.2];rfl
def GV {α:Type} (f:α->TV) (v:TV) (row:List α):Prop:=Rd 1 v row.length (row.map f)
def Fo {α:Type} (f:α->TV) (v:TV) (rows:List (List α)):Prop:=∃vs:List TV,Rd 1 v rows.length vs/\vs.length=rows.length/\∀(i:Nat) (u:TV) (row:List α),vs[i]? =some u->rows[i]? =some row->GV f u row
theorem GV.ld {α:Type} {f:α->TV} {v:TV} {row:List α} (h:GV f v row) (st:St) {i:Nat} {a:α} (ha:row[i]? =some a):Ac st [] (.t (ixT 1 v i)) 0=some (f a):=
 Rd.ldx h st i 0 (by rw[Nat.mul_one,Nat.add_zero,List.getElem?_map,ha];rfl)
theorem Fo.rd {α:Type} {f:α->TV} {v:TV} {rows:List (List α)} (h:Fo f v rows):∃vs,Rd 1 v rows.length vs:=by obtain⟨vs,h1,_⟩:=h;exact⟨vs,h1⟩
theorem Fo.nil {α:Type} (f:α->TV):Fo f .nilSlice []:=⟨[],.inl ⟨rfl,rfl,rfl⟩,rfl,fun i u row h=>by simp at h⟩
def Fp {α:Type} (f:α->TV) (b:Nat) (st:St) (v:TV) (rows:List (List α)):Prop:=∃vs:List TV,Own b 1 st v rows.length vs/\vs.length=rows.length/\∀(i:Nat) (u:TV) (row:List α),vs[i]? =some u->rows[i]? =some row->GV f u row
theorem Fp.rd {α:Type} {f:α->TV} {b:Nat} {st:St} {v:TV} {rows:List (List α)} (h:Fp f b st v rows):Fo f v rows:=by
 obtain⟨vs,h1,h2,h3⟩:=h;exact⟨vs,h1.rd,h2,h3⟩
def Ba {α:Type} (g:B8->α) (rs:List Nd):List (List α):=rs.map fun r=>(At r).map fun k=>g (AA k)
theorem QW {a q:Int} {k:Nd} (hk:Wb a q k) {cs:List TV} (hc:NdC k cs):∃u ys,cs=[.int .i64 5,.str [],.str [],u,.str []]/\Rd 5 u (At k).length ys/\0<(At k).length/\(∀st,Ac st [] (.t (Ao (ixT 5 u 0) 2)) 0=some (.str (AA k)))/\isPtr (ixT 5 u 0)=true:=by
 obtain⟨c,mark,rfl,_,_⟩:=hk
 unfold NdC at hc
 obtain⟨u,ys,rfl,h1,h2⟩:=hc
 refine⟨u,ys,rfl,h1,by simp[At],fun st=>?_,?_⟩
 ·obtain⟨cs,h3,h4⟩:=h2.get (i:=0) rfl
  unfold NdC at h3
  obtain⟨w,zs,rfl,_⟩:=h3
  exact h1.ldfx st 0 2 (h4 2 _ rfl)
 ·rcases h1 with⟨rfl,h,_⟩ | ⟨tip,rfl⟩
  ·simp at h
  ·rfl
theorem Np {v:TV} {ks:List Nd} {xs:List TV} (hr:Rd 5 v ks.length xs) (hk:AT ks xs) {i:Nat} {k:Nd} (hi:ks[i]? =some k):
  isPtr (ixT 5 v i)=true/\∃cs u ys,NdC k cs/\(∀st,Ac st [] (.t (Ao (ixT 5 v i) 3)) 0=some u)/\Rd 5 u (At k).length ys/\AT (At k) ys/\cs[3]? =some u:=by
 obtain⟨cs,h1,h2⟩:=hk.get hi
 refine⟨?_,?_⟩
 ·rcases hr with⟨rfl,h,_⟩ | ⟨tip,rfl⟩
  ·have:=(List.getElem?_eq_some_iff.1 hi).1;omega
  ·rfl
 ·obtain⟨a,b,c,d,e⟩:=k
  have h3:=h1
  unfold NdC at h3
  obtain⟨u,ys,rfl,h4,h5⟩:=h3
  exact⟨_,u,ys,h1,fun st=>hr.ldfx st i 3 (h2 3 _ rfl),h4,h5,rfl⟩
theorem Nn {v:TV} {ks:List Nd} {xs:List TV} (hr:Rd 5 v ks.length xs) (hk:AT ks xs) (st:St) {i:Nat} {k:Nd} (hi:ks[i]? =some k):
  ∃cs,NdC k cs/\(Aj st [] (.t (ixT 5 v i)) 0 5).map TV.agg=some (.agg cs):=by
 obtain⟨a,b,c,d,e⟩:=k
 obtain⟨u,ys,h1,h2,h3,h4⟩:=E9 hr hk st hi
 exact⟨_,by unfold NdC;exact⟨u,ys,rfl,h2,h3⟩,h1⟩
section
def CK:Nd->List Nd | .mk _ _ _ ks _=>ks
def Bl (q:Int) (c:B8):Bool:=decide (¬(c=[]∨by_ c 0≠q))
open Classical in
noncomputable def Cz {α:Type} (g:B8->α) (n:Nd) (a q:Int) (hd:Bool):List (List α):=if D6 n a q hd then Ba g (CK n)else []
open Classical in
noncomputable def Db (n:Nd) (a q:Int) (hd:Bool):Int:=if D6 n a q hd then 0 else 1
theorem Oc {n:Nd} {a q:Int} {hd:Bool} (h:D6 n a q hd):∃rs,n= .mk 1 [] [] rs []/\(∀r∈rs,RecF a q r)/\B4 n<=1048576/\rs.length<=B4 n/\∀r∈rs,(At r).length<=10000000/\∀k∈At r,(AA k).length<=1048576:=by
 obtain⟨rs,rfl,_,_,_,_,_,hr,_⟩:=Da h.2
 have hn:=CH (.mk 1 [] [] rs [])
 have hlen:=Jo h.1
 have hkc:=PZ hr (Nat.zero_le _)
 have hs0:(xU (BD (.mk 1 [] [] rs [])) a q).s.length=B4 (.mk 1 [] [] rs []):=hn
 rw[hs0]at hkc
 refine⟨rs,rfl,hr.form (Nat.zero_le _),hlen,by have:=hkc.2;omega,fun r hr1=>?_⟩
 obtain⟨i,hi⟩:=List.getElem?_of_mem hr1
 have h1:=DJ rs hi
 have h2:=Hb rs i r hi
 obtain⟨a1,b1,c1,ks,e1⟩:=r
 have h3:=De ks
 simp only[BT,B4,At]at h1 h2⊢
 have hk1:=hkc.1
 simp only[B4]at hlen hk1
 refine⟨by omega,fun k hk=>?_⟩
 obtain⟨j,hj⟩:=List.getElem?_of_mem hk
 have h4:=Hb ks j k hj
 have h5:(AA k).length<=B4 k:=by
  obtain⟨a2,b2,c2,js,e2⟩:=k
  cases js with
  | nil=>simp[AA,At]
  | cons y ys=>
   obtain⟨a3,b3,c3,zs,e3⟩:=y
   simp only[AA,At,B4,EF];omega
 omega
section
variable {n:Nd} {cs:List TV} {a q:Int} {hd ty:Bool} {st:St}
theorem Fp.add {α:Type} {f:α->TV} {T by_:Nat} {st0 st:St} {v u:TV} {rows:List (List α)} {row:List α} {K:TV->St->Prop} (e:Ar st0 st) (h:Fp f st0.nt st v rows) (hu:GV f u row) (hby:(rows.length+1)*by_<=140737488355328)
  (hk:∀v' st',Ar st0 st'->Fp f st0.nt st' v' (rows++[row])->K v' st'):AU T 1 by_ v 1 [u] st K:=by
 obtain⟨vs,h1,h2,h3⟩:=h
 refine By e rfl h1 hby (fun h=>by cases h) fun v' st' e' _ ho=>hk v' st' e' ⟨vs++[u],by rw[List.length_append];exact ho,by simp[h2],fun i u' row' hi hr=>?_⟩
 by_cases hlt:i<vs.length
 ·rw[List.getElem?_append_left hlt]at hi
  rw[List.getElem?_append_left (by omega)]at hr
  exact h3 i u' row' hi hr
 ·rw[List.getElem?_append_right (by omega)]at hi
  rw[List.getElem?_append_right (by omega)]at hr
  have h0:i-vs.length=0:=by
   have:=(List.getElem?_eq_some_iff.1 hi).1
   simp at this;omega
  rw[h0]at hi
  rw[show i-rows.length=0 by omega]at hr
  simp only[List.getElem?_cons_zero,Option.some.injEq]at hi hr
  subst hi hr;exact hu
theorem Fp.ext {α:Type} {f:α->TV} {b:Nat} {st st':St} {v:TV} {rows:List (List α)} (h:Fp f b st v rows) (e:Ar st st'):Fp f b st' v rows:=by
 obtain⟨vs,h1,h2,h3⟩:=h;exact⟨vs,h1.ext e,h2,h3⟩
theorem Fp.nil {α:Type} (f:α->TV) (b:Nat) (st:St):Fp f b st .nilSlice []:=⟨[],Own.nil _ _ _,rfl,fun i u row h=>by simp at h⟩
theorem MA {K:TV->Int->St->Prop} (hc:NdC n cs) (hl:B4 n<=100000000000000) (hcn:BT n<=1000000000000000)
  (hk:∀v st',Ar st st'->Fo TV.str v (Cz (txt q) n a q hd)->K v (Db n a q hd) st'):
  CallT PR Dt [.agg cs,.agg [.int .u8 a,.int .u8 q,.bool hd,.bool ty]] [.one .tv,.one (.int .i64)] st K:=by
 have tn:∀k:Nat,Int.toNat (k:Int)=k:=fun k=>rfl
 have w1:∀k:Nat,k<=100000000->i64.wrap ((k:Int)+1)=((k+1:Nat):Int):=fun k hk=>by rw[Ah _ (by omega) (by omega)];omega
 have hc0:=hc
 obtain⟨k,l,t,ks,tl⟩:=n
 unfold NdC at hc
 obtain⟨v,xs,rfl,hr,hx⟩:=hc
 refine LF k l t v tl a q hd ty st K (UR hc0 hl hcn (fun st1 e1 ho=>?_) fun st1 e1 ho=>?_)
 case' refine_2=>
  refine Am (fun _=>?_) fun h=>by cases h
  have:=hk .nilSlice st1 e1 (by unfold Cz;rw[if_neg ho];exact Fo.nil _)
  unfold Db at this
  rwa [if_neg ho]at this
 refine Am (fun h=>by cases h) fun _=>Ab hr.isSl ?_
 have hfin:∀v st',Ar st st'->Fo TV.str v (Ba (txt q) ks)->K v 0 st':=fun v st' e h=>by
  have:=hk v st' e (by unfold Cz;rw[if_pos ho];exact h)
  unfold Db at this
  rwa [if_pos ho]at this
 obtain⟨rs,hn,hform,hlen,hrl,hkl⟩:=Oc ho
 cases hn
 rw[hr.lenS]
 refine⟨fun out i v' n' a' q' b1 b2 st'=>v=v'/\(ks.length:Int)=n'/\a=a'/\q=q'/\hd=b1/\ty=b2/\Ar st st'/\∃j:Nat,i=(j:Int)/\j<=ks.length/\Fp TV.str st.nt st' out (Ba (txt q) (ks.take j)),
  fun _ i _ _ _ _ _ _ _=>(ks.length-i).toNat,⟨rfl,rfl,rfl,rfl,rfl,rfl,e1,0,rfl,by omega,by rw[List.take_zero];exact Fp.nil _ _ _⟩,?_⟩
 rintro out _ _ _ _ _ _ _ st2 ⟨rfl,rfl,rfl,rfl,rfl,rfl,e2,j,rfl,hj,hg⟩
 rw[hr.lenZ,tn]
 refine Aa (fun g=>?_) fun g=>?_
 case' refine_2=>
  rw[List.take_of_length_le (by omega)]at hg
  exact hfin _ _ e2 hg.rd
 have hlt:j<ks.length:=by omega
 have hget:=List.getElem?_eq_getElem hlt
 generalize ks[j]=r at hget
 have hrf:=hform r (AG hget)
 have hrk:=hkl r (AG hget)
 obtain⟨ents,tail,rfl,hne,hents⟩:=hrf
 obtain⟨rc,hrc,hld⟩:=Nn hr hx st2 hget
 unfold NdC at hrc
 obtain⟨u,ys,rfl,hu,hy⟩:=hrc
 refine⟨⟨by omega,by omega⟩,Ad hld (Jn (Ab (Ce hu.one) (Ab hu.isSl ?_)))⟩
 rw[hu.lenS]
 simp only[At]at hrk
 refine⟨fun li m out' v' n' i' u' m' a' q' b1 b2 st'=>out=out'/\v=v'/\(ks.length:Int)=n'/\(j:Int)=i'/\u=u'/\(ents.length:Int)=m'/\a=a'/\q=q'/\hd=b1/\ty=b2/\Ar st2 st'/\∃p:Nat,m=(p:Int)/\p<=ents.length/\Own st2.nt 1 st' li p (((ents.take p).map fun k=>txt q (AA k)).map TV.str),
  fun _ m _ _ _ _ _ _ _ _ _ _ _=>(ents.length-m).toNat,⟨rfl,rfl,rfl,rfl,rfl,rfl,rfl,rfl,rfl,rfl,Ar.refl _,0,rfl,by omega,Own.nil _ _ _⟩,?_⟩
 rintro li _ _ _ _ _ _ _ _ _ _ _ st3 ⟨rfl,rfl,rfl,rfl,rfl,rfl,rfl,rfl,rfl,rfl,e3,p,rfl,hp,hli⟩
 rw[hu.lenZ,tn]
 refine Aa (fun g2=>?_) fun g2=>?_
 ·have hlt2:p<ents.length:=by omega
  have hget2:=List.getElem?_eq_getElem hlt2
  generalize ents[p]=en at hget2
  have hef:=hents en (AG hget2)
  obtain⟨ec,hec,hld2⟩:=Nn hu hy st3 hget2
  obtain⟨w,zs,rfl,hw,hpos,hwl,hwp⟩:=QW hef hec
  refine⟨⟨by omega,by omega⟩,Ad hld2 (Jn (Ab (Ce hw.one) ?_))⟩
  rw[hw.lenZ]
  refine⟨⟨by omega,by omega⟩,Ab hwp (Ad (hwl _) (Ak ?_))⟩
  have hcl:=hrk.2 en (AG hget2)
  have hcw:LA q (AA en):=by
   obtain⟨c,mark,rfl,hcw,_⟩:=hef
   exact hcw
  refine NO hcw (by omega) fun st4 e4=>?_
  refine By (e3.trans e4) rfl (hli.ext e4) (by omega) (fun h=>by cases h) fun v5 st5 e5 _ o5=>?_
  rw[w1 p (by omega)]
  refine⟨⟨rfl,rfl,rfl,rfl,rfl,rfl,rfl,rfl,rfl,rfl,e5,p+1,rfl,by omega,?_⟩,by dsimp only;omega⟩
  rw[List.take_add_one,hget2]
  simpa using o5
 ·have hpe:p=ents.length:=by omega
  rw[hpe,List.take_of_length_le (by omega)]at hli
  refine Ab (Gq hli.rd.one) (Ab (Gq hli.rd.one) ?_)
  refine(hg.ext e3).add (e2.trans e3) (row:=ents.map fun k=>txt q (AA k)) (by unfold GV;rw[List.length_map];exact hli.rd) (by simp only[Ba,List.length_map,List.length_take];omega) fun v' st' e' hg'=>?_
  rw[w1 j (by omega)]
  refine⟨⟨rfl,rfl,rfl,rfl,rfl,rfl,e',j+1,rfl,by omega,?_⟩,by dsimp only;omega⟩
  rw[List.take_add_one,hget]
  simpa [Ba,At]using hg'
end
end
section
section
variable {n:Nd} {cs:List TV} {a q:Int} {hd ty:Bool} {st:St}
theorem To {K:TV->Int->St->Prop} (hc:NdC n cs) (hl:B4 n<=100000000000000) (hcn:BT n<=1000000000000000)
  (hk:∀v st',Ar st st'->Fo TV.bool v (Cz (Bl q) n a q hd)->K v (Db n a q hd) st'):
  CallT PR Ff [.agg cs,.agg [.int .u8 a,.int .u8 q,.bool hd,.bool ty]] [.one .tv,.one (.int .i64)] st K:=by
 have tn:∀k:Nat,Int.toNat (k:Int)=k:=fun k=>rfl
 have w1:∀k:Nat,k<=100000000->i64.wrap ((k:Int)+1)=((k+1:Nat):Int):=fun k hk=>by rw[Ah _ (by omega) (by omega)];omega
 have hc0:=hc
 obtain⟨k,l,t,ks,tl⟩:=n
 unfold NdC at hc
 obtain⟨v,xs,rfl,hr,hx⟩:=hc
 refine MY k l t v tl a q hd ty st K (UR hc0 hl hcn (fun st1 e1 ho=>?_) fun st1 e1 ho=>?_)
 case' refine_2=>
  refine Am (fun _=>?_) fun h=>by cases h
  have:=hk .nilSlice st1 e1 (by unfold Cz;rw[if_neg ho];exact Fo.nil _)
  unfold Db at this
  rwa [if_neg ho]at this
 refine Am (fun h=>by cases h) fun _=>Ab hr.isSl ?_
 have hfin:∀v st',Ar st st'->Fo TV.bool v (Ba (Bl q) ks)->K v 0 st':=fun v st' e h=>by
  have:=hk v st' e (by unfold Cz;rw[if_pos ho];exact h)
  unfold Db at this
  rwa [if_pos ho]at this
 obtain⟨rs,hn,hform,hlen,hrl,hkl⟩:=Oc ho
 cases hn
 rw[hr.lenS]
 refine⟨fun out i v' n' a' q' b1 b2 st'=>v=v'/\(ks.length:Int)=n'/\a=a'/\q=q'/\hd=b1/\ty=b2/\Ar st st'/\∃j:Nat,i=(j:Int)/\j<=ks.length/\Fp TV.bool st.nt st' out (Ba (Bl q) (ks.take j)),
  fun _ i _ _ _ _ _ _ _=>(ks.length-i).toNat,⟨rfl,rfl,rfl,rfl,rfl,rfl,e1,0,rfl,by omega,by rw[List.take_zero];exact Fp.nil _ _ _⟩,?_⟩
 rintro out _ _ _ _ _ _ _ st2 ⟨rfl,rfl,rfl,rfl,rfl,rfl,e2,j,rfl,hj,hg⟩
 rw[hr.lenZ,tn]
 refine Aa (fun g=>?_) fun g=>?_
 case' refine_2=>
  rw[List.take_of_length_le (by omega)]at hg
  exact hfin _ _ e2 hg.rd
 have hlt:j<ks.length:=by omega
 have hget:=List.getElem?_eq_getElem hlt
 generalize ks[j]=r at hget
 have hrf:=hform r (AG hget)
 have hrk:=hkl r (AG hget)
 obtain⟨ents,tail,rfl,hne,hents⟩:=hrf
 obtain⟨rc,hrc,hld⟩:=Nn hr hx st2 hget
 unfold NdC at hrc
 obtain⟨u,ys,rfl,hu,hy⟩:=hrc
 refine⟨⟨by omega,by omega⟩,Ad hld (Jn (Ab (Ce hu.one) (Ab hu.isSl ?_)))⟩
 rw[hu.lenS]
 simp only[At]at hrk
 refine⟨fun li m out' v' n' i' u' m' a' q' b1 b2 st'=>out=out'/\v=v'/\(ks.length:Int)=n'/\(j:Int)=i'/\u=u'/\(ents.length:Int)=m'/\a=a'/\q=q'/\hd=b1/\ty=b2/\Ar st2 st'/\∃p:Nat,m=(p:Int)/\p<=ents.length/\Own st2.nt 1 st' li p (((ents.take p).map fun k=>Bl q (AA k)).map TV.bool),
  fun _ m _ _ _ _ _ _ _ _ _ _ _=>(ents.length-m).toNat,⟨rfl,rfl,rfl,rfl,rfl,rfl,rfl,rfl,rfl,rfl,Ar.refl _,0,rfl,by omega,Own.nil _ _ _⟩,?_⟩
 rintro li _ _ _ _ _ _ _ _ _ _ _ st3 ⟨rfl,rfl,rfl,rfl,rfl,rfl,rfl,rfl,rfl,rfl,e3,p,rfl,hp,hli⟩
 rw[hu.lenZ,tn]
 refine Aa (fun g2=>?_) fun g2=>?_
 ·have hlt2:p<ents.length:=by omega
  have hget2:=List.getElem?_eq_getElem hlt2
  generalize ents[p]=en at hget2
  have hef:=hents en (AG hget2)
  obtain⟨ec,hec,hld2⟩:=Nn hu hy st3 hget2
  obtain⟨w,zs,rfl,hw,hpos,hwl,hwp⟩:=QW hef hec
  refine⟨⟨by omega,by omega⟩,Ad hld2 (Jn (Ab (Ce hw.one) ?_))⟩
  rw[hw.lenZ]
  refine⟨⟨by omega,by omega⟩,Ab hwp (Ad (hwl _) (Ak ?_))⟩
  have hcl:=hrk.2 en (AG hget2)
  have hcw:LA q (AA en):=by
   obtain⟨c,mark,rfl,hcw,_⟩:=hef
   exact hcw
  refine NO hcw (by omega) fun st4 e4=>?_
  rw[show decide (¬(AA en=[]∨by_ (AA en) 0≠q))=Bl q (AA en)from rfl]
  refine By (e3.trans e4) rfl (hli.ext e4) (by omega) (fun h=>by cases h) fun v5 st5 e5 _ o5=>?_
  rw[w1 p (by omega)]
  refine⟨⟨rfl,rfl,rfl,rfl,rfl,rfl,rfl,rfl,rfl,rfl,e5,p+1,rfl,by omega,?_⟩,by dsimp only;omega⟩
  rw[List.take_add_one,hget2]
  simpa using o5
 ·have hpe:p=ents.length:=by omega
  rw[hpe,List.take_of_length_le (by omega)]at hli
  refine Ab (Gq hli.rd.one) (Ab (Gq hli.rd.one) ?_)
  refine(hg.ext e3).add (e2.trans e3) (row:=ents.map fun k=>Bl q (AA k)) (by unfold GV;rw[List.length_map];exact hli.rd) (by simp only[Ba,List.length_map,List.length_take];omega) fun v' st' e' hg'=>?_
  rw[w1 j (by omega)]
  refine⟨⟨rfl,rfl,rfl,rfl,rfl,rfl,e',j+1,rfl,by omega,?_⟩,by dsimp only;omega⟩
  rw[List.take_add_one,hget]
  simpa [Ba,At]using hg'
theorem RX {K:TV->Int->St->Prop} (hc:NdC n cs) (hl:B4 n<=100000000000000) (hcn:BT n<=1000000000000000)
  (hk:∀v st',Ar st st'->Fo TV.str v (Cz (txt q) n a q hd)->K v (Db n a q hd) st'):
  CallT PR Ci [.agg cs,.agg [.int .u8 a,.int .u8 q,.bool hd,.bool ty]] [.one .tv,.one (.int .i64)] st K:=by
 have tn:∀k:Nat,Int.toNat (k:Int)=k:=fun k=>rfl
 have w1:∀k:Nat,k<=100000000->i64.wrap ((k:Int)+1)=((k+1:Nat):Int):=fun k hk=>by rw[Ah _ (by omega) (by omega)];omega
 have hc0:=hc
 obtain⟨k,l,t,ks,tl⟩:=n
 unfold NdC at hc
 obtain⟨v,xs,rfl,hr,hx⟩:=hc
 refine G3 k l t v tl a q hd ty st K (WB hc0 hl hcn (fun st1 e1 ho=>?_) fun st1 e1 ho=>?_)
 case' refine_2=>
  refine Am (fun _=>?_) fun h=>by cases h
  have:=hk .nilSlice st1 e1 (by unfold Cz;rw[if_neg ho];exact Fo.nil _)
  unfold Db at this
  rwa [if_neg ho]at this
 refine Am (fun h=>by cases h) fun _=>?_
 have hfin:∀v st',Ar st st'->Fo TV.str v (Ba (txt q) ks)->K v 0 st':=fun v st' e h=>by
  have:=hk v st' e (by unfold Cz;rw[if_pos ho];exact h)
  unfold Db at this
  rwa [if_pos ho]at this
 obtain⟨rs,hn,hform,hlen,hrl,hkl⟩:=Oc ho
 cases hn
 refine⟨fun out i k1 l1 t1 v' tl1 a' q' b1 b2 st'=>v=v'/\a=a'/\q=q'/\hd=b1/\ty=b2/\Ar st st'/\∃j:Nat,i=(j:Int)/\j<=ks.length/\Fp TV.str st.nt st' out (Ba (txt q) (ks.take j)),
  fun _ i _ _ _ _ _ _ _ _ _ _=>(ks.length-i).toNat,⟨rfl,rfl,rfl,rfl,rfl,e1,0,rfl,by omega,by rw[List.take_zero];exact Fp.nil _ _ _⟩,?_⟩
 rintro out _ _ _ _ _ _ _ _ _ _ st2 ⟨rfl,rfl,rfl,rfl,rfl,e2,j,rfl,hj,hg⟩
 refine Ab hr.isSl ?_
 rw[hr.lenS]
 refine Aa (fun g=>?_) fun g=>?_
 case' refine_2=>
  rw[List.take_of_length_le (by omega)]at hg
  exact hfin _ _ e2 hg.rd
 have hlt:j<ks.length:=by omega
 have hget:=List.getElem?_eq_getElem hlt
 generalize ks[j]=r at hget
 have hrf:=hform r (AG hget)
 have hrk:=hkl r (AG hget)
 obtain⟨ents,tail,rfl,hne,hents⟩:=hrf
 obtain⟨hp1,rc,u,ys,hrc,hld,hu,hy,_⟩:=Np hr hx hget
 simp only[At]at hrk hu hy
 refine⟨fun li m out' i' k1 l1 t1 v' tl1 a' q' b1 b2 st'=>out=out'/\v=v'/\(j:Int)=i'/\a=a'/\q=q'/\hd=b1/\ty=b2/\Ar st2 st'/\∃p:Nat,m=(p:Int)/\p<=ents.length/\Own st2.nt 1 st' li p (((ents.take p).map fun k=>txt q (AA k)).map TV.str),
  fun _ m _ _ _ _ _ _ _ _ _ _ _ _=>(ents.length-m).toNat,⟨rfl,rfl,rfl,rfl,rfl,rfl,rfl,Ar.refl _,0,rfl,by omega,Own.nil _ _ _⟩,?_⟩
 rintro li _ _ _ _ _ _ _ _ _ _ _ _ st3 ⟨rfl,rfl,rfl,rfl,rfl,rfl,rfl,e3,p,rfl,hp,hli⟩
 rw[hr.lenZ,tn]
 refine⟨⟨by omega,by omega⟩,Ab hp1 (Ad (hld _) (Ab hu.isSl ?_))⟩
 rw[hu.lenS]
 refine Aa (fun g2=>?_) fun g2=>?_
 ·have hlt2:p<ents.length:=by omega
  have hget2:=List.getElem?_eq_getElem hlt2
  generalize ents[p]=en at hget2
  have hef:=hents en (AG hget2)
  obtain⟨hp2,ec,w,zs,hec,hld2,hw,hz,hw3⟩:=Np hu hy hget2
  obtain⟨w',zs',rfl,hw',hpos,hwl,hwp⟩:=QW hef hec
  simp only[List.getElem?_cons_succ,List.getElem?_cons_zero,Option.some.injEq]at hw3
  subst hw3
  refine⟨⟨by omega,by omega⟩,Ab hp1 (Ad (hld _) ?_)⟩
  rw[hu.lenZ,tn]
  refine⟨⟨by omega,by omega⟩,Ab hp2 (Ad (hld2 _) ?_)⟩
  rw[hw.lenZ]
  refine⟨⟨by omega,by omega⟩,Ab hwp (Ad (hwl _) (Ak ?_))⟩
  have hcl:=hrk.2 en (AG hget2)
  have hcw:LA q (AA en):=by
   obtain⟨c,mark,rfl,hcw,_⟩:=hef
   exact hcw
  refine LZ hcw (by omega) ?_
  refine By e3 rfl hli (by omega) (fun h=>by cases h) fun v5 st5 e5 _ o5=>?_
  rw[w1 p (by omega)]
  refine⟨⟨rfl,rfl,rfl,rfl,rfl,rfl,rfl,e5,p+1,rfl,by omega,?_⟩,by dsimp only;omega⟩
  rw[List.take_add_one,hget2]
  simpa using o5
 ·have hpe:p=ents.length:=by omega
  rw[hpe,List.take_of_length_le (by omega)]at hli
  refine Ab (Gq hli.rd.one) (Ab (Gq hli.rd.one) ?_)
  refine(hg.ext e3).add (e2.trans e3) (row:=ents.map fun k=>txt q (AA k)) (by unfold GV;rw[List.length_map];exact hli.rd) (by simp only[Ba,List.length_map,List.length_take];omega) fun v' st' e' hg'=>?_
  rw[w1 j (by omega)]
  refine⟨⟨rfl,rfl,rfl,rfl,rfl,e',j+1,rfl,by omega,?_⟩,by dsimp only;omega⟩
  rw[List.take_add_one,hget]
  simpa [Ba,At]using hg'
end
end
section
def N7 (a q:Int) (s:B8):Except Int B8:=if dOk a q=false then .error 1 else if Bj s=s.length then .ok (Ed a q s)else .error 5
def xT:Except Int B8->B8 | .ok t=>t | .error _=>[]
def xE:Except Int B8->Int | .ok _=>0 | .error e=>e
theorem Vh {a q:Int} (h:dOk a q=true):(a=9∨(32<=a/\a<=126))/\33<=q/\q<=126/\a≠q:=by
 unfold dOk at h
 exact(of_decide_eq_true h).1
theorem Tz {a q:Int} {s:B8} {j:Nat} (h:j<s.length):Gr a q (s.take (j+1))=(Gr a q (s.take j) || decide (by_ s j=a∨by_ s j=q∨by_ s j=10∨by_ s j=13)):=by
 unfold Gr
 rw[EH s j 0 h,List.any_append]
 simp only[List.any_cons,List.any_nil,Bool.or_false]
 rfl
theorem JH {a q:Int} {s:B8} {j:Nat} (h:j<s.length) (hb:by_ s j=a∨by_ s j=q∨by_ s j=10∨by_ s j=13):Gr a q s=true:=by
 unfold Gr
 rw[List.any_eq_true]
 refine⟨s.getD j 0,?_,decide_eq_true hb⟩
 rw[List.getD_eq_getElem?_getD,List.getElem?_eq_getElem h]
 exact List.getElem_mem h
theorem Q3 (c:UInt8):∀t:B8,(dbl c t).length<=2*t.length
 | []=>by simp[dbl]
 | b::t=>by
  have:=Q3 c t
  rw[CE,List.length_append,List.length_cons]
  split<;>simp<;>omega
section
variable {a q:Int} {hd ty:Bool} {st:St}
theorem VK {s:B8} {K:B8->Int->St->Prop} (hl:s.length<=2000000) (hk:K (xT (N7 a q s)) (xE (N7 a q s)) st):
  CallT PR Ek [.str s,.agg [.int .u8 a,.int .u8 q,.bool hd,.bool ty]] [.one .str,.one (.int .i64)] st K:=by
 have tn:∀k:Nat,Int.toNat (k:Int)=k:=fun k=>rfl
 have w1:∀k:Nat,k<=100000000->i64.wrap ((k:Int)+1)=((k+1:Nat):Int):=fun k hk=>by rw[Ah _ (by omega) (by omega)];omega
 unfold N7 at hk
 refine NH s a q hd ty st K (Mo (Am (fun g=>?_) fun g=>?_))
 ·rw[if_pos (by simpa using g)]at hk;exact hk
 have gd:dOk a q=true:=by simpa using g
 rw[if_neg (by rw[gd];decide)]at hk
 have hdk:=Vh gd
 refine LN hl (Am (fun g=>?_) fun g=>?_)
 ·rw[if_neg (by simpa using g)]at hk;exact hk
 rw[if_pos (by simpa using g)]at hk
 have hqn:=JG (q:=q) (by omega) (by omega)
 generalize hc:UInt8.ofNat q.toNat=c at hqn
 refine Ad (LQ st c hqn) (Ak ?_)
 refine⟨fun i s' q' n1 n2 b1 b2 st'=>s=s'/\[c]=q'/\a=n1/\q=n2/\hd=b1/\ty=b2/\st=st'/\∃j:Nat,i=(j:Int)/\j<=s.length/\Gr a q (s.take j)=false,
  fun i _ _ _ _ _ _ _=>(s.length-i).toNat,⟨rfl,rfl,rfl,rfl,rfl,rfl,rfl,0,rfl,by omega,rfl⟩,?_⟩
 rintro _ _ _ _ _ _ _ _ ⟨rfl,rfl,rfl,rfl,rfl,rfl,rfl,j,rfl,hj,hnq⟩
 rw[tn]
 refine Aa (fun g1=>⟨⟨by omega,by omega⟩,?_⟩) fun g1=>?_
 ·have fin:Gr a q s=true->CallT PR AE [.str s,.str [c],.str ([c]++[c])] [.one .str] st fun s4 st6=>(([c].length+s4.length<=9223372036854775807)/\((([c]++s4).length+ [c].length<=9223372036854775807)/\K ([c]++s4++[c]) 0 st6)):=fun hn=>by
   refine Ka (by simp) (by omega) ?_
   have hdl:=Q3 c s
   unfold dbl at hdl
   refine⟨by simp only[List.length_cons,List.length_nil];omega,by simp only[List.length_append,List.length_cons,List.length_nil];omega,?_⟩
   unfold Ed at hk
   rw[if_pos hn,hc]at hk
   exact hk
  refine Aa (fun q1=>⟨by simp,fin (JH (j:=j) (by omega) (.inl q1))⟩) fun q1=>Aa (fun q2=>⟨by simp,fin (JH (j:=j) (by omega) (.inr (.inl q2)))⟩) fun q2=>Aa (fun q3=>⟨by simp,fin (JH (j:=j) (by omega) (.inr (.inr (.inl q3))))⟩) fun q3=>
   Aa (fun q4=>⟨by simp,fin (JH (j:=j) (by omega) (.inr (.inr (.inr q4))))⟩) fun q4=>?_
  rw[w1 j (by omega)]
  refine⟨⟨rfl,rfl,rfl,rfl,rfl,rfl,rfl,j+1,rfl,by omega,?_⟩,by dsimp only;omega⟩
  rw[Tz (by omega),hnq,Bool.false_or]
  exact decide_eq_false (by rintro(h | h | h | h);exact q1 h;exact q2 h;exact q3 h;exact q4 h)
 ·rw[List.take_of_length_le (by omega)]at hnq
  unfold Ed at hk
  rw[if_neg (by rw[hnq];decide)]at hk
  exact hk
end
end
section
def M7 (cs:List B8):Nat:=match cs with | []=>0 | c::r=>c.length+M7 r
section
variable {a q:Int} {hd ty:Bool} {st:St}
end
end
section
def K2 (l:List (List B8)):Nat:=match l with | []=>0 | r::rs=>M7 r+K2 rs
def Gj (l:List (List B8)):Nat:=match l with | []=>0 | r::rs=>r.length+Gj rs
theorem Wq {l:List (List B8)} {j:Nat} {r:List B8} (h:l[j]? =some r):M7 r<=K2 l/\r.length<=Gj l:=by
 induction l generalizing j with
 | nil=>simp at h
 | cons d rs ih=>
  cases j with
  | zero=>simp only[List.getElem?_cons_zero,Option.some.injEq]at h;subst h;simp[K2,Gj]
  | succ j=>
   have:=ih (j:=j) (by simpa using h)
   simp only[K2,Gj];omega
section
variable {a q:Int} {hd ty:Bool} {st:St}
end
end
section
theorem W3 {s:B8} {a q:Int} {hd:Bool} {n:Nd} (hl:s.length<=70000) (h:Oa s a q hd= .ok n):BD n=s/\H9 n=0/\D6 n a q hd:=by
 obtain⟨rs,rfl,_,_,_,_,_,hr,_⟩:=Da h
 have ht:BD (.mk 1 [] [] rs [])=s:=by
  have:=Jt.text hr (Nat.zero_le _)
  simp only[BD,List.nil_append,List.append_nil]
  rw[this];rfl
 have hlen:B4 (.mk 1 [] [] rs [])=s.length:=by rw[<-CH,ht]
 have hc:H9 (.mk 1 [] [] rs [])=0:=by
  have hs0:(xU s a q).s.length=s.length:=rfl
  obtain⟨s',h1,h2,h3⟩:=V6 hr (Nat.zero_le _) (s:=1) (by rw[hs0];omega)
  have h4:chk (.mk 1 [] [] rs []) 1 0= .ok s':=by
   have l1:H6 1=false:=by decide
   simp only[chk,l1]
   rw[if_neg (by omega),if_neg (by omega),if_neg (by omega),if_neg (by simp)]
   exact h1
  unfold H9
  rw[h4]
  simp only
  rw[if_neg (by omega)]
 exact⟨ht,hc,hc,by rw[ht];exact h⟩
theorem Sm {s:B8} {i:Nat} {p:Nat×Int} (h:B9 s i= .error p):p.2≠0:=by
 obtain⟨o,c⟩:=p
 rcases Mf h with h | h<;>simp[h.2]
theorem entE_ne {x:Cx} {hd:Bool} {i:Nat} {v:Int} {ns:List B8} {p:Nat×Int} (h:D9 x hd i v ns= .error p):p.2≠0:=by
 have hR:∀v,Pf x hd i v ns= .error p->p.2≠0:=fun v h=>by
  unfold Pf at h
  split at h
  ·rename_i e he
   cases h
   exact Qe (o:=p.1) (c:=p.2) he
  ·rename_i e he
   by_cases h1:(if hd then 1024 else 65536)<(txt x.q (slc x.s i e)).length
   ·rw[if_pos h1]at h;cases h;simp
   ·by_cases h2:hd=true/\txt x.q (slc x.s i e)∈ns
    ·rw[if_neg h1,if_pos h2]at h;cases h;simp
    ·rw[if_neg h1,if_neg h2]at h;cases h
 rw[Nr]at h
 split at h
 ·exact hR v h
 ·split at h
  ·rename_i e he
   cases h
   exact Lw (o:=p.1) (c:=p.2) he
  ·exact hR _ h
theorem UP {x:Cx} {num hd:Bool} {wid:Int}:∀(n:Nat) {acc:List Nd} {i:Nat} {v:Int} {ns:List B8} {p:Nat×Int},i<=x.s.length->x.s.length<i+n->BR x num wid hd n acc i v ns= .error p->p.2≠0
 | 0,acc,i,v,ns,p,h1,h2,h=>by omega
 | n+1,acc,i,v,ns,p,h1,h2,h=>by
  rw[L4]at h
  split at h
  ·cases h;simp
  split at h
  ·rename_i e he;cases h;exact entE_ne he
  ·rename_i e v1 ns1 he
   have hle:=UZ h1 he
   split at h
   ·exact UP n (by omega) (by omega) h
   ·split at h
    ·rename_i e2 he2;cases h;exact Sm he2
    ·cases h
theorem recD_ne {x:Cx} {num hd:Bool} {wid:Int} {i:Nat} {v:Int} {ns:List B8} {p:Nat×Int} (hi:i<=x.s.length) (h:Fx x num wid hd i v ns= .error p):p.2≠0:=by
 have hK:∀v,GI x.s num wid (BR x num wid hd (x.s.length+1) [] i v ns)= .error p->p.2≠0:=fun v h=>by
  unfold GI at h
  rcases hr:BR x num wid hd (x.s.length+1) [] i v ns with e | ⟨e,v2,ns2,ks⟩
  ·rw[hr]at h;cases h;exact UP _ hi (by omega) hr
  ·rw[hr]at h
   simp only at h
   cases hn7:B9 x.s e with
   | error e2=>rw[hn7]at h;cases h;exact Sm hn7
   | ok n7=>
    rw[hn7]at h
    simp only at h
    by_cases hw:(ks.length:Int)<(if num then wid else(ks.length:Int))
    ·rw[if_pos hw]at h;cases h;simp
    ·rw[if_neg hw]at h;cases h
 rw[Fv]at h
 split at h
 ·exact hK v h
 ·split at h
  ·rename_i e he;cases h;exact Lw (o:=p.1) (c:=p.2) he
  ·exact hK _ h
theorem U4 {x:Cx} {hdr:Bool}:∀(n:Nat) {acc:List Nd} {i:Nat} {v:Int} {ns:List B8} {wid:Int} {p:Nat×Int},i<=x.s.length->x.s.length<i+n->DO x hdr n acc i v ns wid= .error p->p.2≠0
 | 0,acc,i,v,ns,wid,p,h1,h2,h=>by omega
 | n+1,acc,i,v,ns,wid,p,h1,h2,h=>by
  rw[Mp]at h
  split at h
  ·cases h
  split at h
  ·rename_i e he;cases h;exact recD_ne h1 he
  ·rename_i i' v' ns' r wid' he
   have hle:=QJ (by omega) he
   exact U4 n (by omega) (by omega) h
theorem Ts {x:Cx} {hd:Bool} {l2 l3 l4:Int} {p:Nat×Int} (h:AX x hd l2 l3 l4= .error p):p.2≠0:=by
 unfold AX at h
 split at h
 ·cases h;simp
 split at h
 ·cases h;simp
 split at h
 ·cases h;simp
 split at h
 ·cases h;simp
 split at h
 ·rename_i e he;cases h;exact U4 _ (by omega) (by omega) he
 ·cases h
section
variable {a q:Int} {hd ty:Bool} {st:St}
theorem N6 {K:Int->Int->Bool->Bool->St->Prop} (hk:K 44 34 true true st):CallT PR BM [] [.agg [.int .u8,.int .u8,.bool,.bool]] st K:=Ii st K hk
end
end
section
theorem Wp {cs:List B8} {c:B8} (h:c∈cs):c.length<=M7 cs:=by
 induction cs with
 | nil=>cases h
 | cons d r ih=>
  simp only[M7]
  rcases List.mem_cons.1 h with rfl | h
  ·omega
  ·have:=ih h;omega
section
variable {a q:Int} {hd ty:Bool} {st:St}
end
end
def Jw (a q:Int) (c:B8):Prop:=∀(pre:B8) (b:UInt8) (post:B8),((b.toNat:Int)=a∨(b.toNat:Int)=10)->Bt a q (pre++c++b::post) pre.length= .ok (pre.length+c.length)
structure Wc (a q:Int):Prop where
 a0:0<=a
 a1:a<128
 q0:0<=q
 q1:q<128
 aq:a≠q
 q10:q≠10
 q13:q≠13
 a10:a≠10
 sa:Cd a=false
 sq:Cd q=false
theorem dlOk {a q:Int} (h:dOk a q=true):Wc a q:=by
 have hk:=Vh h
 unfold dOk at h
 rw[decide_eq_true_eq]at h
 exact⟨by omega,by omega,by omega,by omega,by omega,by omega,by omega,by omega,h.2.1,h.2.2⟩
theorem SK {a q:Int} (d:Wc a q) (s:B8):Jw a q (Ed a q s):=fun pre b post hb=>Uj d.q0 (by have:=d.q1;omega) d.aq d.q10 d.q13 pre s b post hb
theorem Q8 {a q:Int} (d:Wc a q) {c:B8} (h:Gr a q c=false):Jw a q c:=by
 have:=SK d c
 unfold Ed at this
 rwa [if_neg (by rw[h];decide)]at this
def M8 (q:Int) (s:B8):B8:=UInt8.ofNat q.toNat::(dbl (UInt8.ofNat q.toNat) s++[UInt8.ofNat q.toNat])
theorem SJ {a q:Int} (d:Wc a q) (c:B8):Jw a q (M8 q c):=by
 intro pre b post hb
 have hq1:=d.q1
 have hqb:=JG d.q0 (by omega:q<=255)
 have hd:(pre++M8 q c++b::post).drop pre.length=M8 q c++b::post:=by rw[List.append_assoc,List.drop_left]
 have hby:by_ (pre++M8 q c++b::post) pre.length=q:=by
  have:(pre++M8 q c++b::post).getD pre.length 0=((pre++M8 q c++b::post).drop pre.length).getD 0 0:=by rw[Hd];rfl
  unfold by_
  rw[this,hd];exact hqb
 have hlen:pre.length<(pre++M8 q c++b::post).length:=by simp only[List.length_append,List.length_cons];omega
 have hQ:QE q (pre++M8 q c++b::post) (pre.length+1)=some (pre.length+(M8 q c).length):=by
  unfold QE
  rw[<-List.drop_drop,hd]
  have:=Nj hqb c (b::post) (pre.length+1) (fun b' l' h=>by cases h;have:=d.aq;have:=d.q10;omega)
  unfold M8
  simp only[List.cons_append,List.drop_succ_cons,List.drop_zero,List.append_assoc,List.nil_append]
  rw[this]
  congr 1
  simp;omega
 unfold Bt
 rw[if_pos ⟨hlen,hby⟩,hQ]
def DH (a:Int):List B8->B8
 | []=>[10]
 | [c]=>c++[10]
 | c::r=>c++UInt8.ofNat a.toNat::DH a r
theorem Oz {a q:Int} (d:Wc a q):∀(cs:List B8) (pre post:B8),cs≠ []->(∀c,c∈cs->Jw a q c)->
  ∃ks e,IF a q (pre++DH a cs++post) pre.length ks e 1/\e+1=pre.length+(DH a cs).length/\ks.map AA=cs/\slc (pre++DH a cs++post) e (e+1)=[10]
 | [],pre,post,h,_=>absurd rfl h
 | [c],pre,post,_,hok=>by
  have hs:pre++DH a [c]++post=pre++c++10::post:=by simp[DH]
  have hc:=hok c (by simp) pre 10 post (.inr rfl)
  rw[hs]
  have hlt:pre.length+c.length<(pre++c++10::post).length:=by simp
  have hb:(pre++c++10::post).getD (pre.length+c.length) 0=10:=by
   have:(pre++c).length=pre.length+c.length:=by simp
   rw[<-this,List.getD_eq_getElem?_getD,List.getElem?_append_right (Nat.le_refl _)]
   simp
  have hby:by_ (pre++c++10::post) (pre.length+c.length)=10:=by unfold by_;rw[hb];rfl
  refine⟨_,_,.last hc (by rintro⟨_,h⟩;rw[hby]at h;exact d.a10 h.symm) ?_,?_,?_,?_⟩
  ·unfold B9;rw[if_neg (by omega),if_pos hby]
  ·simp[DH];omega
  ·simp only[List.map_cons,List.map_nil,BX]
   congr 1
   unfold slc
   rw[show pre.length+c.length=(pre++c).length by simp,List.take_left,List.drop_left]
  ·rw[Qz hlt,hb]
 | c::c2::r,pre,post,_,hok=>by
  have hs:pre++DH a (c::c2::r)++post=pre++c++UInt8.ofNat a.toNat::(DH a (c2::r)++post):=by simp[DH]
  have hs2:pre++c++UInt8.ofNat a.toNat::(DH a (c2::r)++post)=(pre++c++[UInt8.ofNat a.toNat])++DH a (c2::r)++post:=by simp
  have hab:=JG d.a0 (by have:=d.a1;omega:a<=255)
  have hc:=hok c (by simp) pre (UInt8.ofNat a.toNat) (DH a (c2::r)++post) (.inl hab)
  obtain⟨ks,e,h1,h2,h3,h4⟩:=Oz d (c2::r) (pre++c++[UInt8.ofNat a.toNat]) post (by simp) fun x hx=>hok x (.tail _ hx)
  rw[<-hs2]at h1 h4
  rw[hs]
  have hlt:pre.length+c.length<(pre++c++UInt8.ofNat a.toNat::(DH a (c2::r)++post)).length:=by simp
  have hb:(pre++c++UInt8.ofNat a.toNat::(DH a (c2::r)++post)).getD (pre.length+c.length) 0=UInt8.ofNat a.toNat:=by
   have:(pre++c).length=pre.length+c.length:=by simp
   rw[<-this,List.getD_eq_getElem?_getD,List.getElem?_append_right (Nat.le_refl _)]
   simp
  have hpl:(pre++c++[UInt8.ofNat a.toNat]).length=pre.length+c.length+1:=by simp;omega
  rw[hpl]at h1 h2
  refine⟨_,_,.more hc hlt (by unfold by_;rw[hb];exact hab) h1,?_,?_,h4⟩
  ·simp only[DH,List.length_append,List.length_cons];omega
  ·simp only[List.map_cons,BX]
   rw[h3]
   congr 1
   unfold slc
   rw[show pre.length+c.length=(pre++c).length by simp,List.take_left,List.drop_left]
def D1 (a:Int) (l:List (List B8)):B8:=l.flatMap (DH a)
theorem N4 {a q:Int} (d:Wc a q):∀(l:List (List B8)) (pre:B8),(∀cs,cs∈l->cs≠ []/\∀c,c∈cs->Jw a q c)->
  ∃rs,Jt a q (pre++D1 a l) pre.length rs/\rs.map (fun r=>(At r).map AA)=l
 | [],pre,h=>⟨[],.nil (by simp[D1]),rfl⟩
 | cs::l,pre,h=>by
  have hs:pre++D1 a (cs::l)=pre++DH a cs++D1 a l:=by simp[D1]
  obtain⟨ks,e,h1,h2,h3,h4⟩:=Oz d cs pre (D1 a l) (h cs (by simp)).1 (h cs (by simp)).2
  obtain⟨rs,h5,h6⟩:=N4 d l (pre++DH a cs) (fun c hc=>h c (.tail _ hc))
  rw[hs]
  rw[List.length_append]at h5
  have hle:=h1.le (by simp)
  refine⟨_,.cons (by simp only[List.length_append]at hle⊢;omega) h1 (by rw[h2];exact h5),?_⟩
  rw[List.map_cons,h6]
  show ks.map AA::_=_
  rw[h3]
theorem Nz {a:Int} (h0:0<=a) (h1:a<128):∀cs:List B8,(∀c,c∈cs->Bj c=c.length)->Bj (DH a cs)=(DH a cs).length
 | [],_=>EB [10] rfl
 | [c],h=>IG (h c (by simp)) (EB [10] rfl)
 | c::c2::r,h=>by
  have hab:=JG h0 (by omega:a<=255)
  exact IG (h c (by simp)) (Po (by omega) (Nz h0 h1 (c2::r) fun x hx=>h x (.tail _ hx)))
theorem Ny {a:Int} (h0:0<=a) (h1:a<128):∀l:List (List B8),(∀r,r∈l->∀c,c∈r->Bj c=c.length)->Bj (D1 a l)=(D1 a l).length
 | [],_=>Pn
 | r::l,h=>IG (Nz h0 h1 r (h r (by simp))) (Ny h0 h1 l fun x hx=>h x (.tail _ hx))
theorem Sw {x:Cx} {i:Nat} {v:Int} {ns:List B8} {e:Nat} (h3:Bt x.a x.q x.s i= .ok e) (h4:(txt x.q (slc x.s i e)).length<=1024) (h5:txt x.q (slc x.s i e)∉ns):
  D9 x true i v ns= .ok (e,v,txt x.q (slc x.s i e)::ns):=by
 simp only[D9,if_true,true_and,bind,Except.bind,h3]
 rw[if_neg (by omega),if_neg h5]
theorem VZ {x:Cx} {i:Nat} {v:Int} {ns:List B8} {e:Nat} {v1:Int} {ns1:List B8} (h:D9 x true i v ns= .ok (e,v1,ns1)):
  txt x.q (slc x.s i e)∉ns/\ns1=txt x.q (slc x.s i e)::ns/\(txt x.q (slc x.s i e)).length<=1024:=by
 simp only[D9,if_true,true_and,bind,Except.bind]at h
 split at h
 ·cases h
 ·split at h
  ·cases h
  ·rename_i h2 h1
   split at h
   ·cases h
   ·rename_i h3
    cases h
    exact⟨h3,rfl,by omega⟩
def Co (q:Int) (ks:List Nd):List B8:=ks.map fun k=>txt q (AA k)
theorem WF {x:Cx} {num:Bool} {wid:Int}:∀{i:Nat} {ks:List Nd} {e m:Nat},IF x.a x.q x.s i ks e m->∀(n:Nat) {acc:List Nd} {v:Int} {ns:List B8},
  i<=x.s.length->x.s.length<i+n->(∀t,t∈Co x.q ks->t.length<=1024/\t∉ns)->(Co x.q ks).Nodup->(num=true->((acc.length+ks.length:Nat):Int)<=wid)->∃ns',BR x num wid true n acc i v ns= .ok (e,v,ns',acc++ks):=by
 intro i ks e m h
 induction h with
 | @last i e m h1 h2 h3=>
  intro n acc v ns hi hn hk hnd hw
  cases n with
  | zero=>omega
  | succ n=>
  simp only[BR]
  rw[if_neg (by rintro⟨h,h'⟩;have:=hw h;simp at this;omega)]
  have hc:=hk _ (List.mem_singleton.2 rfl)
  dsimp only at hc
  rw[BX]at hc
  rw[Sw h1 hc.1 hc.2]
  simp only[bind,Except.bind]
  rw[if_neg h2,h3]
  exact⟨_,rfl⟩
 | @more i e e' m ks h1 h2 h3 h4 ih=>
  intro n acc v ns hi hn hk hnd hw
  cases n with
  | zero=>omega
  | succ n=>
  simp only[BR]
  simp only[List.length_cons]at hw
  rw[if_neg (by rintro⟨h,h'⟩;have:=hw h;omega)]
  have hc:=hk _ (List.mem_cons_self ..)
  dsimp only at hc
  rw[BX]at hc
  rw[Sw h1 hc.1 hc.2]
  simp only[bind,Except.bind]
  rw[if_pos ⟨h2,h3⟩]
  have hnd2:txt x.q (slc x.s i e)∉Co x.q ks/\(Co x.q ks).Nodup:=by
   have:=List.nodup_cons.1 hnd
   dsimp only at this
   rwa [BX]at this
  have hle:=CF hi h1
  obtain⟨ns',hr⟩:=ih n (acc:=acc++[Jk x.s i e [.mk 11 [] [x.s.getD e 0] [] []]]) (v:=v) (ns:=txt x.q (slc x.s i e)::ns) (by omega) (by omega) (fun t ht=>⟨(hk t (List.mem_cons_of_mem _ ht)).1,fun hm=>by
   rcases List.mem_cons.1 hm with rfl | hm
   ·exact hnd2.1 ht
   ·exact(hk t (List.mem_cons_of_mem _ ht)).2 hm⟩) hnd2.2 (fun hn=>by have:=hw hn;simp;omega)
  rw[hr,List.append_assoc]
  exact⟨ns',rfl⟩
theorem VD {x:Cx} {num:Bool} {wid:Int}:∀(n:Nat) {acc:List Nd} {i:Nat} {v:Int} {ns:List B8} {e:Nat} {v':Int} {ns':List B8} {out:List Nd},
  BR x num wid true n acc i v ns= .ok (e,v',ns',out)->∃ks,out=acc++ks/\(Co x.q ks).Nodup/\∀t,t∈Co x.q ks->t.length<=1024/\t∉ns:=by
 intro n
 induction n with
 | zero=>intro acc i v ns e v' ns' out h;simp only[BR]at h;cases h
 | succ n ih=>
  intro acc i v ns e v' ns' out h
  simp only[BR]at h
  split at h
  ·cases h
  simp only[bind,Except.bind]at h
  split at h
  ·cases h
  rename_i p he
  obtain⟨e1,v1,ns1⟩:=p
  obtain⟨c1,c2,c3⟩:=VZ he
  simp only at h
  split at h
  ·obtain⟨ks,k1,k2,k3⟩:=ih h
   refine⟨_::ks,by rw[k1,List.append_assoc];rfl,?_,?_⟩
   ·show(txt x.q (AA _)::Co x.q ks).Nodup
    rw[BX]
    refine List.nodup_cons.2 ⟨fun hm=>?_,k2⟩
    exact(k3 _ hm).2 (by rw[c2];exact List.mem_cons_self ..)
   ·intro t ht
    rcases List.mem_cons.1 ht with rfl | ht
    ·dsimp only;rw[BX];exact⟨c3,c1⟩
    ·exact⟨(k3 t ht).1,fun hm=>(k3 t ht).2 (by rw[c2];exact List.mem_cons_of_mem _ hm)⟩
  ·split at h
   ·cases h
   cases h
   refine⟨_,rfl,by simp[Co],fun t ht=>?_⟩
   rw[List.mem_singleton.1 ht]
   dsimp only
   rw[BX]
   exact⟨c3,c1⟩
theorem WI {x:Cx} {num:Bool} {wid:Int} {i:Nat} {ks:List Nd} {e m:Nat} (h:IF x.a x.q x.s i ks e m) {v:Int} {ns:List B8}
  (hi:i<=x.s.length) (hk:∀t,t∈Co x.q ks->t.length<=1024/\t∉ns) (hnd:(Co x.q ks).Nodup) (hw:num=true->(ks.length:Int)=wid):
  ∃ns',Fx x num wid true i v ns= .ok (e+m,v,ns',.mk 8 [] [] ks (slc x.s e (e+m)),(ks.length:Int)):=by
 have hl:=h.le hi
 obtain⟨ns',hr⟩:=WF (num:=num) (wid:=wid) h (x.s.length+1) (acc:=[]) (v:=v) (ns:=ns) hi (by omega) hk hnd (fun hn=>by rw[List.length_nil,Nat.zero_add,hw hn];omega)
 refine⟨ns',?_⟩
 rw[Fv,if_pos rfl,hr]
 unfold GI
 simp only[hl.2.2.2.2]
 cases num with
 | true=>have:=hw rfl;simp only[if_true,List.nil_append];rw[<-this,if_neg (by omega)]
 | false=>simp only[Bool.false_eq_true,if_false,List.nil_append];rw[if_neg (by omega)]
theorem TZ {x:Cx} (n:Nat) {out:List Nd} {v:Int} {ns:List B8} {wid:Int} {i:Nat} (h:DO x true n [] i v ns wid= .ok out) (hi:i<=x.s.length):∀r,out.head? =some r->(Co x.q (At r)).Nodup/\∀t,t∈Co x.q (At r)->t.length<=1024:=by
 intro r hr
 cases n with
 | zero=>simp only[DO]at h;cases h
 | succ n=>
 simp only[DO]at h
 split at h
 ·cases h;cases hr
 simp only[bind,Except.bind]at h
 split at h
 ·cases h
 rename_i p h1
 obtain⟨i',v',ns',r1,wid'⟩:=p
 simp only[List.isEmpty_nil,Bool.and_true,Bool.not_true,List.nil_append]at h h1
 obtain⟨ks,e,m,rfl,rfl,k2,_⟩:=N5 hi h1
 have hle:=k2.le hi
 obtain⟨rs,j1,_⟩:=OC n (by omega) h
 rw[j1]at hr
 simp only[List.cons_append,List.nil_append,List.head?_cons,Option.some.injEq]at hr
 subst hr
 obtain⟨v1,_,h4⟩:=F0 h1
 obtain⟨e2,v2,ns2,ks2,m2,h2,_,_,hp⟩:=Lg h4
 simp only[Prod.mk.injEq]at hp
 obtain⟨_,_,_,hk,_⟩:=hp
 simp only[Nd.mk.injEq,true_and]at hk
 obtain⟨ks3,q1,q2,q3⟩:=VD _ h2
 rw[List.nil_append]at q1
 show(Co x.q ks).Nodup/\∀t,t∈Co x.q ks->t.length<=1024
 rw[hk.1,q1]
 exact⟨q2,fun t ht=>(q3 t ht).1⟩
theorem Xz {x:Cx} (hdep:3<=x.dep) {W:Int} {hdr:Bool} {rs:List Nd} (h:Jt x.a x.q x.s 0 rs) (n:Nat) (hn:x.s.length<n)
  (hk:∀r,r∈rs->∀k,k∈At r->(txt x.q (AA k)).length<=65536) (hW:∀r,r∈rs->((At r).length:Int)=W) (hv:1+Ep hdr rs<=x.nod)
  (hh:hdr=true->∀r,rs.head? =some r->(Co x.q (At r)).Nodup/\∀t,t∈Co x.q (At r)->t.length<=1024):DO x hdr n [] 0 1 [] 0= .ok rs:=by
 cases hdr with
 | false=>exact U3 hdep h n (acc:=[]) (Nat.zero_le _) (by omega) hk (fun h=>absurd rfl h) hW hv
 | true=>
  cases h with
  | nil h=>
   cases n with
   | zero=>omega
   | succ n=>simp only[DO];rw[if_pos h]
  | @cons _ e m ks rs h1 h2 h3=>
   cases n with
   | zero=>omega
   | succ n=>
   have hle:=h2.le (Nat.zero_le _)
   obtain⟨hnd,hl⟩:=hh rfl _ rfl
   have hks:(ks.length:Int)=W:=hW _ (List.mem_cons_self ..)
   have hm:0<e+m:=by
    rcases Nat.eq_zero_or_pos m with h0 | h0
    ·have:=(EX (by omega) hle.2.2.2.2).2.1 h0;omega
    ·omega
   obtain⟨ns',hr⟩:=WI (num:=false) (wid:=0) h2 (v:=1) (ns:=[]) (Nat.zero_le _) (fun t ht=>⟨hl t ht,by simp⟩) hnd (fun h=>by cases h)
   simp only[DO,List.isEmpty_nil,Bool.and_true,Bool.not_true]
   rw[if_neg (by omega),hr]
   simp only[bind,Except.bind,List.nil_append]
   have:=U3 hdep h3 n (acc:=[.mk 8 [] [] ks (slc x.s e (e+m))]) (v:=1) (ns:=ns') (wid:=(ks.length:Int)) (by omega) (by omega) (fun r hr=>hk r (List.mem_cons_of_mem _ hr)) (fun _=>hks) (fun r hr=>hW r (List.mem_cons_of_mem _ hr)) (by
    unfold Ep at hv;simpa using hv)
   have e2:∀(n:Nat) (acc:List Nd) (i:Nat) (v:Int) (ns:List B8) (wid:Int),acc≠ []->DO x true n acc i v ns wid=DO x false n acc i v ns wid:=by
    intro n
    induction n with
    | zero=>intros;rfl
    | succ n ih=>
     intro acc i v ns wid ha
     have hb:acc.isEmpty=false:=by cases acc;exact absurd rfl ha;rfl
     simp only[DO,hb,Bool.and_false,Bool.not_false]
     split
     ·rfl
     ·simp only[bind,Except.bind]
      split
      ·rfl
      ·exact ih _ _ _ _ _ (by simp)
   rw[e2 _ _ _ _ _ _ (by simp),this]
   rfl
theorem Qb:∀(rs:List Nd) (l:List (List B8)),rs.map (fun r=>(At r).map AA)=l->E5 rs=(l.length:Int)+Gj l
 | [],[],h=>by simp[E5,Gj]
 | [],_::_,h=>by simp at h
 | _::_,[],h=>by simp at h
 | r::rs,c::l,h=>by
  simp only[List.map_cons,List.cons.injEq]at h
  have h1:=congrArg List.length h.1
  rw[List.length_map]at h1
  have ih:=Qb rs l h.2
  simp only[E5,Lu,Gj,List.length_cons];omega
theorem Ua (hd:Bool) (rs:List Nd):Ep hd rs<=E5 rs:=by
 unfold Ep
 split
 ·cases rs with
  | nil=>simp[E5]
  | cons r rs=>simp only[List.tail_cons,E5,Lu];omega
 ·omega
theorem readX {a q:Int} (hd:dOk a q=true) (hdr:Bool) {l:List (List B8)} {W:Nat} (h:∀r,r∈l->r≠ []/\r.length=W/\∀c,c∈r->Jw a q c/\Bj c=c.length/\(txt q c).length<=65536)
  (hs:(D1 a l).length<=1048576) (hc:l.length+Gj l<=65535) (hh:hdr=true->∀r,l.head? =some r->(r.map (txt q)).Nodup/\∀c,c∈r->(txt q c).length<=1024):
  ∃rs,Oa (D1 a l) a q hdr= .ok (.mk 1 [] [] rs [])/\rs.map (fun r=>(At r).map AA)=l:=by
 have d:=dlOk hd
 obtain⟨rs,hr,hm⟩:=N4 d l [] fun cs hcs=>⟨(h cs hcs).1,fun c hc=>((h cs hcs).2.2 c hc).1⟩
 rw[List.nil_append,List.length_nil]at hr
 have hv:=Ny d.a0 d.a1 l fun r hr c hc=>((h r hr).2.2 c hc).2.1
 have hmem:∀r,r∈rs->(At r).map AA∈l:=by
  intro r hr1
  rw[<-hm];exact List.mem_map.2 ⟨r,hr1,rfl⟩
 have hnk:∀r,Co q (At r)=((At r).map AA).map (txt q):=fun r=>by unfold Co;rw[List.map_map];rfl
 have hdoc:=Xz (x:=xU (D1 a l) a q) (show(3:Int)<=48 by decide) (W:=(W:Int)) (hdr:=hdr) hr ((D1 a l).length+1) (by show(D1 a l).length<_;omega) (fun r hr1 k hk1=>
   ((h _ (hmem r hr1)).2.2 _ (List.mem_map.2 ⟨k,hk1,rfl⟩)).2.2) (fun r hr1=>by
   have:=(h _ (hmem r hr1)).2.1
   rw[List.length_map]at this;omega) (by
   have h1:=Qb rs l hm
   have h2:=Ua hdr rs
   show _<=(65536:Int);omega) (fun hb r hr1=>by
   have hl:l.head? =some ((At r).map AA):=by rw[<-hm,List.head?_map,hr1];rfl
   have:=hh hb _ hl
   show(Co q (At r)).Nodup/\_
   rw[hnk]
   exact⟨this.1,fun t ht=>by
    obtain⟨c,hc,rfl⟩:=List.mem_map.1 ht
    exact this.2 c hc⟩)
 refine⟨rs,?_,hm⟩
 show AX (xU (D1 a l) a q) hdr 1048576 1024 65536=_
 unfold AX
 rw[if_neg (show ¬dOk a q=false by rw[hd];decide),if_neg (show ¬lOk 48 65536 1048576 1024 65536=false by decide),if_neg (show ¬(1048576:Int)<((D1 a l).length:Int) by omega),if_neg (show ¬Bj (D1 a l)≠(D1 a l).length by rw[hv];simp)]
 rw[show DO (xU (D1 a l) a q) hdr ((xU (D1 a l) a q).s.length+1) [] 0 1 [] 0= .ok rs from hdoc]
noncomputable def K6 (a q:Int) (ty:Bool) (s:Sc):B8:=
 if s.kind=4 then(if Ed a q s.text=s.text/\(Hk ty false s.text).kind≠4 then M8 q s.text else Ed a q s.text)else plT s
def J5 (ty:Bool) (k:Int):Int:=if (ty=false/\k≠4)∨k=5∨k=6∨k=7 then 27 else 0
def BE (s:Sc):Vl:= .mk s [] []
def Cm (q:Int) (ty:Bool) (r:List B8):List Sc:=r.map fun c=>Hk ty (Bl q c) (txt q c)
def Tg (names:List B8) (row:List Sc):Vl:=SW (List.zipWith (fun k s=>Fd.mk k (BE s)) names row)
def Bk (rs:List Nd):List (List B8):=rs.map fun r=>(At r).map AA
theorem MQ.own {s:Sc} {l:List Vl} {f:List Fd} (h:MQ (.mk s l f)):Qk s l f/\Mt l/\Mu f:=by unfold MQ at h;exact h
def scW (k:Int):Sc:=⟨k,false,false,[],0,0,0,0,0,[],[]⟩
section
abbrev KG13:=Int->Bool->Bool->B8->Int->Int->Int->Int->Int->B8->TV->TV->TV->St->Prop
def KC (K:KG13) (x:Sc) (st:St):Prop:=K x.kind x.b x.neg x.dg x.ex x.tk x.td x.tn x.tz x.text .nilSlice .nilSlice .nilSlice st
abbrev Pl:List CTy:=[.int .i64,.bool,.bool,.str,.int .i64,.int .i64,.int .i64,.int .i64,.int .i64,.str,.tv,.tv,.tv]
section
variable {a q:Int} {hd ty:Bool} {st:St}
theorem Os {s:B8} {qd:Bool} (hl:s.length<=1000000) {K:KG13} (hk:∀st',Ar st st'->KC K (Hk ty qd s) st'):
  CallT PR Cp [.str s,.bool qd,.agg [.int .u8 a,.int .u8 q,.bool hd,.bool ty]] [.agg Pl] st K:=by
 have e0:=Ar.refl st
 unfold Hk at hk
 refine Qu s qd a q hd ty st K (Am (fun g=>GD s st _ (Ab (B7 rfl rfl rfl) ?_)) fun g=>Am (fun g2=>GD s st _ (Ab (B7 rfl rfl rfl) ?_)) fun g2=>?_)
 ·have:ty=false:=by simpa using g
  rw[if_pos (.inl this)]at hk;exact hk st e0
 ·rw[if_pos (.inr g2)]at hk;exact hk st e0
 have g:ty=true:=by simpa using g
 rw[if_neg (by rw[g,g2];simp)]at hk
 have tail:s≠ []->s≠J8->s≠I8->CallT PR Cg [.str s] [.agg [.bool,.str,.int .i64],.one (.int .i64)] st (fun (b9:Bool) (s9:B8) (n25:Int) (n26:Int) (st5:St)=>BIf (decide (n26=(0:Int))) (CallT PR FE [(.agg [(.bool b9),(.str s9),(.int .i64 n25)])] [.agg Pl] st5 (fun (n27:Int) (b10:Bool) (b11:Bool) (s10:B8) (n28:Int) (n29:Int) (n30:Int) (n31:Int) (n32:Int) (s11:B8) (v13:TV) (v14:TV) (v15:TV) (st6:St)=>need (List.all [(.int .i64 n27),(.bool b10),(.bool b11),(.str s10),(.int .i64 n28),(.int .i64 n29),(.int .i64 n30),(.int .i64 n31),(.int .i64 n32),(.str s11),v13,v14,v15] Ap) (K n27 b10 b11 s10 n28 n29 n30 n31 n32 s11 v13 v14 v15 st6)))
   (CallT PR CC [.str s] [.agg [.int .i64,.int .i64,.int .i64,.int .i64],.one (.int .i64)] st5 (fun (n33:Int) (n34:Int) (n35:Int) (n36:Int) (n37:Int) (st7:St)=>BIf (decide (n37=(0:Int))) (CallT PR EP [(.agg [(.int .i64 n33),(.int .i64 n34),(.int .i64 n35),(.int .i64 n36)])] [.agg Pl] st7 (fun (n38:Int) (b12:Bool) (b13:Bool) (s12:B8) (n39:Int) (n40:Int) (n41:Int) (n42:Int) (n43:Int) (s13:B8) (v16:TV) (v17:TV) (v18:TV) (st8:St)=>need (List.all [(.int .i64 n38),(.bool b12),(.bool b13),(.str s12),(.int .i64 n39),(.int .i64 n40),(.int .i64 n41),(.int .i64 n42),(.int .i64 n43),(.str s13),v16,v17,v18] Ap) (K n38 b12 b13 s12 n39 n40 n41 n42 n43 s13 v16 v17 v18 st8)))
    (CallT PR CI [.str s] [.agg Pl] st7 (fun (n44:Int) (b14:Bool) (b15:Bool) (s14:B8) (n45:Int) (n46:Int) (n47:Int) (n48:Int) (n49:Int) (s15:B8) (v19:TV) (v20:TV) (v21:TV) (st9:St)=>need (List.all [(.int .i64 n44),(.bool b14),(.bool b15),(.str s14),(.int .i64 n45),(.int .i64 n46),(.int .i64 n47),(.int .i64 n48),(.int .i64 n49),(.str s15),v19,v20,v21] Ap) (K n44 b14 b15 s14 n45 n46 n47 n48 n49 s15 v19 v20 v21 st9)))))):=by
  intro h1 h2 h3
  rw[if_neg h1,if_neg h2,if_neg h3]at hk
  refine dP_ok hl ?_
  unfold KD
  generalize dcP s=d at*
  refine Aa (fun h4=>Qm _ _ _ st _ (Ab (B7 rfl rfl rfl) ?_)) fun h4=>tP_ok hl fun st1 e1=>?_
  ·rw[if_pos h4]at hk;exact hk st e0
  rw[if_neg h4]at hk
  unfold KT
  generalize tmP s=t at*
  refine Aa (fun h5=>OW _ _ _ _ st1 _ (Ab (B7 rfl rfl rfl) ?_)) fun h5=>GD s st1 _ (Ab (B7 rfl rfl rfl) ?_)
  ·rw[if_pos h5]at hk;exact hk st1 e1
  ·rw[if_neg h5]at hk;exact hk st1 e1
 refine Aa (fun h1=>OX st _ (Ab (B7 rfl rfl rfl) ?_)) fun h1=>Aa (fun h2=>Aa (fun _=>J0 _ st _ (Ab (B7 rfl rfl rfl) ?_)) fun h=>absurd h2 h) fun h2=>Aa (fun h3=>J0 _ st _ (Ab (B7 rfl rfl rfl) ?_)) fun h3=>tail h1 h2 h3
 ·rw[if_pos h1]at hk;exact hk st e0
 ·rw[if_neg h1,if_pos (show s=J8 from h2)]at hk
  rw[decide_eq_true h2];exact hk st e0
 ·rw[if_neg h1,if_neg (show ¬s=J8 from h2),if_pos (show s=I8 from h3)]at hk
  rw[decide_eq_false h2];exact hk st e0
theorem P2 {s:B8} {qd:Bool} (hl:s.length<=1000000) {K:KG13} (hk:KC K (Hk ty qd s) st):
  CallT PR B0 [.str s,.bool qd,.agg [.int .u8 a,.int .u8 q,.bool hd,.bool ty]] [.agg Pl] st K:=by
 unfold Hk at hk
 refine IM s qd a q hd ty st K (Am (fun g=>?_) fun g=>Am (fun g2=>?_) fun g2=>?_)
 ·rw[if_pos (.inr g)]at hk;exact hk
 ·have:ty=false:=by simpa using g2
  rw[if_pos (.inl this)]at hk;exact hk
 have g2:ty=true:=by simpa using g2
 rw[if_neg (by rw[g,g2];simp)]at hk
 refine⟨fun s' _ _ _ _ _ _ _ _ _ _ _ _ _ n7 b3 b4 s3 n8 n9 n10 n11 n12 s4 v4 v5 v6 st'=>s=s'/\4=n7/\false=b3/\false=b4/\[]=s3/\0=n8/\0=n9/\0=n10/\0=n11/\0=n12/\s=s4/\.nilSlice=v4/\.nilSlice=v5/\.nilSlice=v6/\st=st'/\s≠ []/\s≠J8/\s≠I8,
  Aa (fun h1=>?_) fun h1=>Aa (fun h2=>Aa (fun _=>?_) fun h=>absurd h2 h) fun h2=>Aa (fun h3=>?_) fun h3=>⟨rfl,rfl,rfl,rfl,rfl,rfl,rfl,rfl,rfl,rfl,rfl,rfl,rfl,rfl,rfl,h1,h2,h3⟩,?_⟩
 ·rw[if_pos h1]at hk;exact hk
 ·rw[if_neg h1,if_pos (show s=J8 from h2)]at hk
  rw[decide_eq_true h2];exact hk
 ·rw[if_neg h1,if_neg (show ¬s=J8 from h2),if_pos (show s=I8 from h3)]at hk
  rw[decide_eq_false h2];exact hk
 rintro _ _ _ _ _ _ _ _ _ _ _ _ _ _ _ _ _ _ _ _ _ _ _ _ _ _ _ _ ⟨rfl,rfl,rfl,rfl,rfl,rfl,rfl,rfl,rfl,rfl,rfl,rfl,rfl,rfl,rfl,h1,h2,h3⟩
 rw[if_neg h1,if_neg h2,if_neg h3]at hk
 refine Xc hl fun b2=>Aa (fun hn=>rP_ok hl ?_) fun hn=>rtP_ok hl ?_
 ·have ht:=VO hn
  rw[if_neg ht]at hk
  unfold KD
  generalize dcP s=d at*
  refine Aa (fun h4=>?_) fun h4=>Ab (B7 rfl rfl rfl) ?_
  ·rw[if_pos h4]at hk;exact hk
  ·rw[if_neg h4]at hk;exact hk
 ·have he:=(Q2 s).2 hn
  rw[if_neg (by omega)]at hk
  unfold KT
  generalize tmP s=t at*
  refine Aa (fun h4=>?_) fun h4=>Ab (B7 rfl rfl rfl) ?_
  ·rw[if_pos h4]at hk;exact hk
  ·rw[if_neg h4]at hk;exact hk
end
end
section
noncomputable def shE (a q:Int) (ty:Bool) (v:Vl):Int:=if dOk a q=false then 1 else if Jp v≠0 then(Jp v:Int)else J5 ty v.sc.kind
noncomputable def shT (a q:Int) (ty:Bool) (v:Vl):B8:=if shE a q ty v=0 then K6 a q ty v.sc else []
theorem VI {a q:Int} {s:B8} (hd:dOk a q=true) (hv:Bj s=s.length):N7 a q s= .ok (Ed a q s):=by
 unfold N7
 rw[if_neg (by rw[hd];decide),if_pos hv]
section
variable {a q:Int} {hd ty:Bool} {st:St}
theorem Xk {s:Sc} {ub ul uf:TV} (hdo:dOk a q=true) (hk0:0<=s.kind) (hk7:s.kind<=7) (hdec:s.kind=2->Fq s.neg s.dg s.ex) (htm:s.kind=3->Fj s.tk s.td s.tn s.tz) (hu:s.kind=4->Bj s.text=s.text.length) (hl:s.text.length<=1000000)
  {K:B8->Int->St->Prop} (hk:∀st',Ar st st'->K (if J5 ty s.kind=0 then K6 a q ty s else []) (J5 ty s.kind) st'):
  CallT PR HR [.agg (Bh s ub ul uf),.agg [.int .u8 a,.int .u8 q,.bool hd,.bool ty]] [.one .str,.one (.int .i64)] st K:=by
 have e0:=Ar.refl st
 have d:=dlOk hdo
 have ok:J5 ty s.kind=0->∀st',Ar st st'->K (K6 a q ty s) 0 st':=fun he st' e=>by have:=hk st' e;rwa [if_pos he,he]at this
 have bad:J5 ty s.kind=27->K [] 27 st:=fun he=>by have:=hk st e0;rwa [he,if_neg (by decide)]at this
 refine Qr _ _ _ _ _ _ _ _ _ _ _ _ _ a q hd ty st K (Am (fun g=>Aa (fun g1=>bad ?_) fun g1=>?sw1) fun g=>?sw2)
 ·have hty:ty=false:=by simpa using g
  unfold J5;rw[if_pos (.inl ⟨hty,g1⟩)]
 case sw1 | sw2=>
  have hE:s.kind<=4->J5 ty s.kind=0:=fun h4=>by
   unfold J5
   rw[if_neg]
   rintro(⟨h,h'⟩ | h)
   ·first
     | exact g1 h'
     | (rw[h]at g;cases g)
   ·omega
  have hP:∀t,s.kind≠4->plT s=t->K6 a q ty s=t:=fun t h4 h=>by unfold K6;rw[if_neg h4];exact h
  refine Aa (fun k0=>?_) fun k0=>Aa (fun k1=>Am (fun hb=>?_) fun hb=>?_) fun k1=>Aa (fun k2=>XC (hdec k2) fun st1 e1=>?_) fun k2=>Aa (fun k3=>W2 (htm k3) fun st1 e1=>?_) fun k3=>Aa (fun k4=>?_) fun k4=>bad ?_
  ·have:=ok (hE (by omega)) st e0
   rwa [hP [] (by omega) (by unfold plT;rw[if_neg (by omega),if_neg (by omega),if_neg (by omega)])]at this
  ·have:=ok (hE (by omega)) st e0
   rwa [hP J8 (by omega) (by unfold plT;rw[if_pos k1,if_pos hb])]at this
  ·have:=ok (hE (by omega)) st e0
   rwa [hP I8 (by omega) (by unfold plT;rw[if_pos k1,if_neg (by rw[hb];decide)])]at this
  ·have:=ok (hE (by omega)) st1 e1
   rwa [hP _ (by omega) (by unfold plT;rw[if_neg (by omega),if_pos k2])]at this
  ·have:=ok (hE (by omega)) st1 e1
   rwa [hP _ (by omega) (by unfold plT;rw[if_neg (by omega),if_neg (by omega),if_pos k3])]at this
  ·have hu:=hu k4
   have ok:=ok (hE (by omega))
   have hS:K6 a q ty s=if Ed a q s.text=s.text/\(Hk ty false s.text).kind≠4 then M8 q s.text else Ed a q s.text:=by unfold K6;rw[if_pos k4]
   refine VK (by omega) ?_
   rw[VI hdo hu]
   refine Aa (fun h=>absurd rfl h) fun _=>Aa (fun h1=>?_) fun h1=>?_
   ·have:=ok st e0
    rwa [hS,if_neg fun h=>h1 h.1]at this
   ·have h1:Ed a q s.text=s.text:=Decidable.not_not.1 h1
    show CallT PR Cp [.str (Ed a q s.text),.bool false,.agg [.int .u8 a,.int .u8 q,.bool hd,.bool ty]] [.agg Pl] st _
    rw[h1]
    refine Os hl fun st1 e1=>Aa (fun h2=>?_) fun h2=>?_
    ·have:=ok st1 e1
     rwa [hS,if_neg fun h=>h.2 h2,h1]at this
    ·have hq1:=d.q1
     have hqn:=JG (q:=q) d.q0 (by omega)
     refine Ad (LQ st1 (UInt8.ofNat q.toNat) hqn) (Ak ⟨by simp,Ka (s:=s.text) (by simp) (by omega) ?_⟩)
     have hdl:=Q3 (UInt8.ofNat q.toNat) s.text
     unfold dbl at hdl
     refine⟨by simp only[List.length_cons,List.length_nil];omega,by simp only[List.length_append,List.length_cons,List.length_nil];omega,?_⟩
     have:=ok st1 e1
     rwa [hS,if_pos ⟨h1,h2⟩]at this
  ·unfold J5;rw[if_pos (by omega)]
theorem Xl {v:Vl} (hN:v.sz<=1000000) {cs:List TV} {K:B8->Int->St->Prop} (h:VlR St.zero v cs) (hk:∀st',Ar st st'->K (shT a q ty v) (shE a q ty v) st'):
  CallT PR HS [.agg cs,.agg [.int .u8 a,.int .u8 q,.bool hd,.bool ty]] [.one .str,.one (.int .i64)] st K:=by
 obtain⟨s,l,f⟩:=v
 obtain⟨ub,ul,uf,xl,xf,rfl,_⟩:=h.cells
 unfold shT at hk
 refine Qs _ _ _ _ _ _ _ _ _ _ _ _ _ a q hd ty st K (Mo (Am (fun g=>?_) fun g=>?_))
 ·have he:shE a q ty (.mk s l f)=1:=by unfold shE;rw[if_pos (by simpa using g)]
  have:=hk st (Ar.refl _)
  rwa [he,if_neg (by decide)]at this
 have g:dOk a q=true:=by simpa using g
 refine XT (v:= .mk s l f) (by omega) h (QQ _) fun st1 e1=>Aa (fun g1=>?_) fun g1=>?_
 ·have he:shE a q ty (.mk s l f)=(Jp (.mk s l f):Int):=by unfold shE;rw[if_neg (by rw[g];decide),if_pos (by omega)]
  have:=hk st1 e1
  rwa [he,if_neg (by omega)]at this
 have g1:Jp (.mk s l f)=0:=by omega
 have he:shE a q ty (.mk s l f)=J5 ty s.kind:=by unfold shE;rw[if_neg (by rw[g];decide),if_neg (by omega)];rfl
 rw[he]at hk
 have ho:=(SI g1).own.1
 have hsz:=szs s l f
 refine Xk g ho.own.k0 ho.own.k7 (fun _=>ho.dec) ho.time (fun _=>ho.text) (by omega) fun st2 e2=>?_
 exact hk st2 (e1.trans e2)
end
end
section
structure Rf (a q:Int) (rs:List Nd) (W:Nat):Prop where
 form:∀r,r∈rs->RecF a q r
 wid:∀r,r∈rs->(At r).length=W
 len:∀r,r∈rs->∀k,k∈At r->(txt q (AA k)).length<=65536/\(AA k).length<=2000000
 cnt:rs.length<=2000000
 wlen:W<=10000000
def Et (q:Int) (hd ty:Bool):List (List B8)->List Vl
 | []=>[]
 | h::t=>if hd then t.map fun r=>Tg (h.map (txt q)) (Cm q ty r)else(h::t).map fun r=>H2 ((Cm q ty r).map BE)
theorem FW (q:Int) (ty:Bool) (l:List (List B8)):Et q false ty l=l.map fun r=>H2 ((Cm q ty r).map BE):=by
 cases l<;>rfl
theorem HD {q:Int} {ty:Bool} {l:List (List B8)} {j:Nat} {row:List B8} (h:l[j]? =some row):Et q false ty (l.take (j+1))=Et q false ty (l.take j)++[H2 ((Cm q ty row).map BE)]:=by
 rw[FW,FW,List.take_add_one,h,List.map_append];rfl
theorem KV (q:Int) (ty:Bool) (l:List (List B8)):Et q true ty (l.take 1)=[]:=by
 cases l<;>rfl
theorem HC {q:Int} {ty:Bool} {l:List (List B8)} {j:Nat} {row h0:List B8} (h:l[j]? =some row) (hj:0<j) (h1:l[0]? =some h0):Et q true ty (l.take (j+1))=Et q true ty (l.take j)++[Tg (h0.map (txt q)) (Cm q ty row)]:=by
 cases l with
 | nil=>cases h1
 | cons x t=>
  obtain⟨i,rfl⟩:∃i,j=i+1:=⟨j-1,by omega⟩
  simp only[List.getElem?_cons_zero,Option.some.injEq]at h1
  subst h1
  simp only[List.getElem?_cons_succ]at h
  show(t.take (i+1)).map _=(t.take i).map _++_
  rw[List.take_add_one,h,List.map_append];rfl
theorem Fo.ldA {α:Type} {f:α->TV} {v:TV} {rows:List (List α)} (h:Fo f v rows) {i:Nat} {row:List α} (hr:rows[i]? =some row):∃u,(∀st,Ac st [] (.t (ixT 1 v i)) 0=some u)/\GV f u row:=by
 obtain⟨vs,h1,h2,h3⟩:=h
 have hlt:i<vs.length:=by rw[h2];exact(List.getElem?_eq_some_iff.1 hr).1
 have hu:=List.getElem?_eq_getElem hlt
 exact⟨vs[i],fun st=>Rd.ldx h1 st i 0 (by rw[Nat.mul_one,Nat.add_zero];exact hu),h3 i _ row hu hr⟩
theorem KL (s:Sc) (h:s.bytes=[]):VlR St.zero (BE s) (Bh s .nilSlice .nilSlice .nilSlice):=vlLeaf St.zero s h
theorem Nh {l:List Vl} {u:TV} {xs:List TV} (h:Rd 13 u l.length xs) (hv:VsR St.zero l xs):VlR St.zero (H2 l) (Bh (scW 6) .nilSlice u .nilSlice):=by
 unfold H2 VlR
 exact⟨_,_,_,xs,[],rfl,.of_rd (.inl ⟨rfl,rfl,rfl⟩),.of_rd h,hv,.of_rd (.inl ⟨rfl,rfl,rfl⟩),by unfold FsR;rfl⟩
theorem Wi {f:List Fd} {u:TV} {xs:List TV} (h:Rd 14 u f.length xs) (hv:FsR St.zero f xs):VlR St.zero (SW f) (Bh (scW 7) .nilSlice .nilSlice u):=by
 unfold SW VlR
 exact⟨_,_,_,[],xs,rfl,.of_rd (.inl ⟨rfl,rfl,rfl⟩),.of_rd (.inl ⟨rfl,rfl,rfl⟩),by unfold VsR;rfl,.of_rd h,hv⟩
theorem RY {q:Int} {ty:Bool} {ks:List Nd} {m:Nat} {k:Nd} (h:ks[m]? =some k):(Cm q ty (ks.map AA))[m]? =some (Hk ty (Bl q (AA k)) (txt q (AA k))):=by
 unfold Cm
 rw[List.getElem?_map,List.getElem?_map,h];rfl
theorem G7 (q:Int) (ty:Bool) (l:List B8):(Cm q ty l).length=l.length:=by unfold Cm;rw[List.length_map]
theorem Pv {q:Int} {ty:Bool} {ks:List Nd} {m:Nat} {k:Nd} (h:ks[m]? =some k):((Cm q ty (ks.map AA)).take (m+1)).map BE=((Cm q ty (ks.map AA)).take m).map BE++[BE (Hk ty (Bl q (AA k)) (txt q (AA k)))]:=by
 rw[List.take_add_one,RY h,List.map_append];rfl
def JO (names:List B8) (row:List Sc):List Fd:=List.zipWith (fun k s=>Fd.mk k (BE s)) names row
theorem Pw {names:List B8} {row:List Sc} {m:Nat} {nm:B8} {s:Sc} (h1:names[m]? =some nm) (h2:row[m]? =some s):JO (names.take (m+1)) (row.take (m+1))=JO (names.take m) (row.take m)++[Fd.mk nm (BE s)]:=by
 unfold JO
 rw[<-List.take_zipWith,<-List.take_zipWith,List.take_add_one]
 congr 1
 rw[List.getElem?_zipWith,h1,h2];rfl
section
variable {a q:Int} {hd ty:Bool} {st:St}
theorem Ml {n:Nd} {cs:List TV} (hc:NdC n cs) (hl:B4 n<=100000000000000) (hcn:BT n<=1000000000000000) (ht:D6 n a q hd->∃W,Rf a q (CK n) W) {K:Int->Bool->Bool->B8->Int->Int->Int->Int->Int->B8->TV->TV->TV->Int->St->Prop}
  (hk1:¬D6 n a q hd->∀st',Ar st st'->K 0 false false [] 0 0 0 0 0 [] .nilSlice .nilSlice .nilSlice 1 st')
  (hk2:D6 n a q hd->∀u xs st',Ar st st'->Rd 13 u (Et q hd ty (Bk (CK n))).length xs->VsR St.zero (Et q hd ty (Bk (CK n))) xs->K 6 false false [] 0 0 0 0 0 [] .nilSlice u .nilSlice 0 st'):
  CallT PR ER [.agg cs,.agg [.int .u8 a,.int .u8 q,.bool hd,.bool ty]] [.agg Pl,.one (.int .i64)] st K:=by
 have w1:∀k:Nat,k<=100000000->i64.wrap ((k:Int)+1)=((k+1:Nat):Int):=fun k hk=>by rw[Ah _ (by omega) (by omega)];omega
 have tn:∀k:Nat,Int.toNat (k:Int)=k:=fun k=>rfl
 obtain⟨kd,t0,t1,kv,tl,rfl,_⟩:=hc.five
 refine O3 kd t0 t1 kv tl a q hd ty st K (MA hc hl hcn fun v1 st1 e1 g1=>?_)
 by_cases ho:D6 n a q hd
 case neg=>
  have he:Db n a q hd=1:=by unfold Db;rw[if_neg ho]
  rw[he]
  exact Aa (fun _=>hk1 ho st1 e1) fun h=>absurd (by decide) h
 have he:Db n a q hd=0:=by unfold Db;rw[if_pos ho]
 have hg:∀{α:Type} (g:B8->α),Cz g n a q hd=Ba g (CK n):=fun g=>by unfold Cz;rw[if_pos ho]
 rw[he]
 refine Aa (fun h=>absurd rfl h) fun _=>To hc hl hcn fun v2 st2 e2 g2=>?_
 rw[hg]at g1 g2
 obtain⟨W,hT⟩:=ht ho
 clear ht
 have hk2:=hk2 ho
 generalize hrs:CK n=rs at*
 have e12:=e1.trans e2
 have hcnt:=hT.cnt
 have hwl:=hT.wlen
 obtain⟨vs1,hr1⟩:=g1.rd
 obtain⟨vs2,hr2⟩:=g2.rd
 have hL:∀{α:Type} (g:B8->α),(Ba g rs).length=rs.length:=fun g=>by unfold Ba;rw[List.length_map]
 rw[hL]at hr1 hr2
 have hget:∀{α:Type} (g:B8->α) {j:Nat} {r:Nd},rs[j]? =some r->(Ba g rs)[j]? =some ((At r).map fun k=>g (AA k)):=fun g j r h=>by unfold Ba;rw[List.getElem?_map,h];rfl
 have hraw:∀{j:Nat} {r:Nd},rs[j]? =some r->(Bk rs)[j]? =some ((At r).map AA):=fun {j r} h=>by unfold Bk;rw[List.getElem?_map,h];rfl
 have hrawl:(Bk rs).length=rs.length:=by unfold Bk;rw[List.length_map]
 refine Ab hr1.isSl ?_
 refine⟨fun zn zr zq zv zm c1 c2 b1 b2 kA boA ngA dgA exA tkA tdA tnA tzA txA u0A u1A u2A kB boB ngB dgB exB tkB tdB tnB tzB txB u0B u1B u2B st'=>v1=zr/\v2=zq/\v1=zv/\(rs.length:Int)=zm/\a=c1/\q=c2/\hd=b1/\ty=b2/\6=kB/\false=boB/\false=ngB/\[]=dgB/\0=exB/\0=tkB/\0=tdB/\0=tnB/\0=tzB/\[]=txB/\.nilSlice=u0B/\.nilSlice=u2B/\Ar st2 st'/\∃j:Nat,zn=(j:Int)/\j<=rs.length/\∃xs,Own st2.nt 13 st' u1B (Et q hd ty ((Bk rs).take j)).length xs/\VsR St.zero (Et q hd ty ((Bk rs).take j)) xs,
  fun n _ _ _ _ _ _ _ _ _ _ _ _ _ _ _ _ _ _ _ _ _ _ _ _ _ _ _ _ _ _ _ _ _ _ _=>(rs.length-n).toNat,⟨rfl,rfl,rfl,by rw[hr1.lenS],rfl,rfl,rfl,rfl,rfl,rfl,rfl,rfl,rfl,rfl,rfl,rfl,rfl,rfl,rfl,rfl,Ar.refl _,0,rfl,Nat.zero_le _,[],by rw[List.take_zero];exact Own.nil _ _ _,by rw[List.take_zero];exact VsR.nil _⟩,?_⟩
 rintro _ _ _ _ _ _ _ _ _ kA boA ngA dgA exA tkA tdA tnA tzA txA u0A u1A u2A _ _ _ _ _ _ _ _ _ _ _ vB _ st3 ⟨rfl,rfl,rfl,rfl,rfl,rfl,rfl,rfl,rfl,rfl,rfl,rfl,rfl,rfl,rfl,rfl,rfl,rfl,rfl,rfl,e3,j,rfl,hj,xs,hB,hBv⟩
 rw[tn]
 refine Aa (fun g=>?_) fun g=>?_
 case refine_2=>
  have hjl:(Bk rs).take j=Bk rs:=List.take_of_length_le (by omega)
  rw[hjl]at hB hBv
  refine Ab (B7 rfl hB.rd.one rfl) (hk2 _ xs _ (e12.trans e3) hB.rd hBv)
 have hjlt:j<rs.length:=by omega
 obtain⟨r,hjr⟩:∃r,rs[j]? =some r:=⟨_,List.getElem?_eq_getElem hjlt⟩
 have hmem:=List.mem_of_getElem? hjr
 have hwid:=hT.wid r hmem
 obtain⟨uj,hlj,rj⟩:=g1.ldA (hget (txt q) hjr)
 obtain⟨qj,hlq,rq⟩:=g2.ldA (hget (Bl q) hjr)
 have hrjl:=Rd.lenS rj
 have hrjz:=Rd.lenZ rj
 have hrqz:=Rd.lenZ rq
 rw[List.length_map,hwid]at hrjl hrjz hrqz
 refine⟨⟨by omega,by rw[hr1.lenZ];omega⟩,Ad (hlj _) (Am (fun hh=>Ab (Rd.isSl rj) ?_) fun hh=>Aa (fun g0=>Ab (Rd.isSl rj) ?_) fun g0=>?_)⟩
 ·have hhd:hd=false:=by simpa using hh
  subst hhd
  refine⟨fun zn zr zq zi zv zm n5 v3 n6 c1 c2 b7 b8 kA boA ngA dgA exA tkA tdA tnA tzA txA u0A u1A u2A kB boB ngB dgB exB tkB tdB tnB tzB txB u0B u1B u2B kC boC ngC dgC exC tkC tdC tnC tzC txC u0C u1C u2C st'=>v1=zr/\v2=zq/\(j:Int)=zi/\v1=zv/\(rs.length:Int)=zm/\(j:Int)=n5/\uj=v3/\(W:Int)=n6/\a=c1/\q=c2/\false=b7/\ty=b8/\6=kB/\false=boB/\false=ngB/\[]=dgB/\0=exB/\0=tkB/\0=tdB/\0=tnB/\0=tzB/\[]=txB/\.nilSlice=u0B/\.nilSlice=u2B/\vB=u1B/\6=kC/\false=boC/\false=ngC/\[]=dgC/\0=exC/\0=tkC/\0=tdC/\0=tnC/\0=tzC/\[]=txC/\.nilSlice=u0C/\.nilSlice=u2C/\Ar st3 st'/\∃m':Nat,zn=(m':Int)/\m'<=W/\∃ys,Own st3.nt 13 st' u1C m' ys/\VsR St.zero (((Cm q ty ((At r).map AA)).take m').map BE) ys,
   fun n _ _ _ _ _ _ _ _ _ _ _ _ _ _ _ _ _ _ _ _ _ _ _ _ _ _ _ _ _ _ _ _ _ _ _ _ _ _ _ _ _ _ _ _ _ _ _ _ _ _ _ _=>(W-n).toNat,⟨rfl,rfl,rfl,rfl,rfl,rfl,rfl,by rw[hrjl],rfl,rfl,rfl,rfl,rfl,rfl,rfl,rfl,rfl,rfl,rfl,rfl,rfl,rfl,rfl,rfl,rfl,rfl,rfl,rfl,rfl,rfl,rfl,rfl,rfl,rfl,rfl,rfl,rfl,Ar.refl _,0,rfl,Nat.zero_le _,[],Own.nil _ _ _,by rw[List.take_zero];exact VsR.nil _⟩,?_⟩
  rintro _ _ _ _ _ _ _ _ _ _ _ _ _ kA boA ngA dgA exA tkA tdA tnA tzA txA u0A u1A u2A _ _ _ _ _ _ _ _ _ _ _ _ _ _ _ _ _ _ _ _ _ _ _ _ vC _ st4 ⟨rfl,rfl,rfl,rfl,rfl,rfl,rfl,rfl,rfl,rfl,rfl,rfl,rfl,rfl,rfl,rfl,rfl,rfl,rfl,rfl,rfl,rfl,rfl,rfl,rfl,rfl,rfl,rfl,rfl,rfl,rfl,rfl,rfl,rfl,rfl,rfl,rfl,e4,m,rfl,hm,ys,hC,hCv⟩
  rw[tn,tn]
  refine Aa (fun g=>?_) fun g=>?_
  ·have hmlt:m<(At r).length:=by omega
   obtain⟨k,hkm⟩:∃k,(At r)[m]? =some k:=⟨_,List.getElem?_eq_getElem hmlt⟩
   have hkl:=hT.len r hmem k (List.mem_of_getElem? hkm)
   have l1:=GV.ld rj st4 (i:=m) (a:=txt q (AA k)) (by rw[List.getElem?_map,hkm];rfl)
   have l2:=GV.ld rq st4 (i:=m) (a:=Bl q (AA k)) (by rw[List.getElem?_map,hkm];rfl)
   refine⟨⟨by omega,by rw[hrjz];omega⟩,Ad l1 (Ak ⟨⟨by omega,by rw[hr2.lenZ];omega⟩,Ad (hlq _) ⟨⟨by omega,by rw[hrqz];omega⟩,Ad l2 (Aq ?_)⟩⟩)⟩
   refine Os (by omega) fun st5 e5=>⟨hlq _,Ab (B7 rfl rfl rfl) ?_⟩
   have hcb:=Gz ty (Bl q (AA k)) (txt q (AA k))
   refine By (e4.trans e5) rfl (hC.ext e5) (by omega) (fun h=>by cases h) fun v' st6 e6 _ ho'=>Ab (List.all_eq_true.2 fun x hx=>by rw[List.mem_singleton.1 hx];exact ho'.rd.one) ?_
   rw[w1 m (by omega)]
   refine⟨⟨rfl,rfl,rfl,rfl,rfl,rfl,rfl,rfl,rfl,rfl,rfl,rfl,rfl,rfl,rfl,rfl,rfl,rfl,rfl,rfl,rfl,rfl,rfl,rfl,rfl,rfl,rfl,rfl,rfl,rfl,rfl,rfl,rfl,rfl,rfl,rfl,rfl,e6,m+1,rfl,by omega,_,ho',?_⟩,by dsimp only;omega⟩
   rw[Pv hkm]
   exact hCv.snoc (KL _ hcb)
  ·have hmW:m=W:=by omega
   subst hmW
   have hfull:(Cm q ty ((At r).map AA)).take (At r).length=Cm q ty ((At r).map AA):=List.take_of_length_le (by rw[G7,List.length_map];omega)
   rw[<-hwid]at hC hCv
   rw[hfull]at hCv
   have hx:VlR St.zero (H2 ((Cm q ty ((At r).map AA)).map BE)) (Bh (scW 6) .nilSlice vC .nilSlice):=Nh (by rw[List.length_map,G7,List.length_map];exact hC.rd) hCv
   refine Ab (B7 rfl hC.rd.one rfl) ?_
   have hlen:(Et q false ty ((Bk rs).take j)).length<=2000000:=by rw[FW,List.length_map,List.length_take];omega
   refine By (e3.trans e4) rfl (hB.ext e4) (by omega) (fun h=>by cases h) fun v' st6 e6 _ ho'=>Ab (List.all_eq_true.2 fun x hx=>by rw[List.mem_singleton.1 hx];exact ho'.rd.one) ?_
   rw[w1 j (by omega)]
   refine⟨⟨rfl,rfl,rfl,rfl,rfl,rfl,rfl,rfl,rfl,rfl,rfl,rfl,rfl,rfl,rfl,rfl,rfl,rfl,rfl,rfl,e6,j+1,rfl,by omega,xs++Bh (scW 6) .nilSlice vC .nilSlice,?_,?_⟩,by dsimp only;omega⟩
   ·rw[HD (hraw hjr),List.length_append];exact ho'
   ·rw[HD (hraw hjr)];exact hBv.snoc hx
 ·have hhd:hd=true:=by cases hd;exact absurd hh (by decide);rfl
  subst hhd
  obtain⟨r0,hj0⟩:∃r,rs[0]? =some r:=⟨_,List.getElem?_eq_getElem (by omega)⟩
  have hmem0:=List.mem_of_getElem? hj0
  have hwid0:=hT.wid r0 hmem0
  obtain⟨u0,hl0,rr0⟩:=g1.ldA (hget (txt q) hj0)
  have hr0z:=Rd.lenZ rr0
  rw[List.length_map,hwid0]at hr0z
  refine⟨fun zn zr zq zi zv zm n5 v3 n6 c1 c2 b7 b8 kA boA ngA dgA exA tkA tdA tnA tzA txA u0A u1A u2A kB boB ngB dgB exB tkB tdB tnB tzB txB u0B u1B u2B kC boC ngC dgC exC tkC tdC tnC tzC txC u0C u1C u2C st'=>v1=zr/\v2=zq/\(j:Int)=zi/\v1=zv/\(rs.length:Int)=zm/\(j:Int)=n5/\uj=v3/\(W:Int)=n6/\a=c1/\q=c2/\true=b7/\ty=b8/\6=kB/\false=boB/\false=ngB/\[]=dgB/\0=exB/\0=tkB/\0=tdB/\0=tnB/\0=tzB/\[]=txB/\.nilSlice=u0B/\.nilSlice=u2B/\vB=u1B/\7=kC/\false=boC/\false=ngC/\[]=dgC/\0=exC/\0=tkC/\0=tdC/\0=tnC/\0=tzC/\[]=txC/\.nilSlice=u0C/\.nilSlice=u1C/\Ar st3 st'/\∃m':Nat,zn=(m':Int)/\m'<=W/\∃ys,Own st3.nt 14 st' u2C m' ys/\FsR St.zero (JO ((((At r0).map AA).map (txt q)).take m') ((Cm q ty ((At r).map AA)).take m')) ys,
   fun n _ _ _ _ _ _ _ _ _ _ _ _ _ _ _ _ _ _ _ _ _ _ _ _ _ _ _ _ _ _ _ _ _ _ _ _ _ _ _ _ _ _ _ _ _ _ _ _ _ _ _ _=>(W-n).toNat,⟨rfl,rfl,rfl,rfl,rfl,rfl,rfl,by rw[hrjl],rfl,rfl,rfl,rfl,rfl,rfl,rfl,rfl,rfl,rfl,rfl,rfl,rfl,rfl,rfl,rfl,rfl,rfl,rfl,rfl,rfl,rfl,rfl,rfl,rfl,rfl,rfl,rfl,rfl,Ar.refl _,0,rfl,Nat.zero_le _,[],Own.nil _ _ _,by rw[List.take_zero,List.take_zero];exact FsR.nil _⟩,?_⟩
  rintro _ _ _ _ _ _ _ _ _ _ _ _ _ kA boA ngA dgA exA tkA tdA tnA tzA txA u0A u1A u2A _ _ _ _ _ _ _ _ _ _ _ _ _ _ _ _ _ _ _ _ _ _ _ _ _ vC st4 ⟨rfl,rfl,rfl,rfl,rfl,rfl,rfl,rfl,rfl,rfl,rfl,rfl,rfl,rfl,rfl,rfl,rfl,rfl,rfl,rfl,rfl,rfl,rfl,rfl,rfl,rfl,rfl,rfl,rfl,rfl,rfl,rfl,rfl,rfl,rfl,rfl,rfl,e4,m,rfl,hm,ys,hC,hCv⟩
  rw[tn,tn]
  refine Aa (fun g=>?_) fun g=>?_
  ·have hmlt:m<(At r).length:=by omega
   have hmlt0:m<(At r0).length:=by omega
   obtain⟨k,hkm⟩:∃k,(At r)[m]? =some k:=⟨_,List.getElem?_eq_getElem hmlt⟩
   obtain⟨k0,hkm0⟩:∃k,(At r0)[m]? =some k:=⟨_,List.getElem?_eq_getElem hmlt0⟩
   have hkl:=hT.len r hmem k (List.mem_of_getElem? hkm)
   have l1:=GV.ld rj st4 (i:=m) (a:=txt q (AA k)) (by rw[List.getElem?_map,hkm];rfl)
   have l0:∀st,Ac st [] (.t (ixT 1 u0 m)) 0=some (.str (txt q (AA k0))):=fun st=>GV.ld rr0 st (i:=m) (a:=txt q (AA k0)) (by rw[List.getElem?_map,hkm0];rfl)
   have l2:=GV.ld rq st4 (i:=m) (a:=Bl q (AA k)) (by rw[List.getElem?_map,hkm];rfl)
   refine⟨⟨by omega,by rw[hrjz];omega⟩,Ad l1 (Ak ⟨⟨by omega,by rw[hr1.lenZ];omega⟩,Ad (hl0 _) ⟨⟨by omega,by rw[hr0z];omega⟩,Ad (l0 _) (Ak ⟨⟨by omega,by rw[hr2.lenZ];omega⟩,Ad (hlq _) ⟨⟨by omega,by rw[hrqz];omega⟩,Ad l2 (Aq ?_)⟩⟩)⟩⟩)⟩
   refine Os (by omega) fun st5 e5=>⟨hlq _,l0 _,hl0 _,Ab (one14 rfl rfl rfl) ?_⟩
   have hcb:=Gz ty (Bl q (AA k)) (txt q (AA k))
   refine By (e4.trans e5) rfl (hC.ext e5) (by omega) (fun h=>by cases h) fun v' st6 e6 _ ho'=>Ab (List.all_eq_true.2 fun x hx=>by rw[List.mem_singleton.1 hx];exact ho'.rd.one) ?_
   rw[w1 m (by omega)]
   refine⟨⟨rfl,rfl,rfl,rfl,rfl,rfl,rfl,rfl,rfl,rfl,rfl,rfl,rfl,rfl,rfl,rfl,rfl,rfl,rfl,rfl,rfl,rfl,rfl,rfl,rfl,rfl,rfl,rfl,rfl,rfl,rfl,rfl,rfl,rfl,rfl,rfl,rfl,e6,m+1,rfl,by omega,_,ho',?_⟩,by dsimp only;omega⟩
   rw[Pw (nm:=txt q (AA k0)) (by rw[List.getElem?_map,List.getElem?_map,hkm0];rfl) (RY hkm)]
   exact hCv.snoc0 (by unfold FdR;exact⟨_,rfl,KL _ hcb⟩)
  ·have hmW:m=W:=by omega
   subst hmW
   rw[<-hwid]at hC hCv
   have hfull:(Cm q ty ((At r).map AA)).take (At r).length=Cm q ty ((At r).map AA):=List.take_of_length_le (by rw[G7,List.length_map];omega)
   have hfull0:(((At r0).map AA).map (txt q)).take (At r).length=((At r0).map AA).map (txt q):=List.take_of_length_le (by rw[List.length_map,List.length_map];omega)
   rw[hfull,hfull0]at hCv
   have hfl:(JO (((At r0).map AA).map (txt q)) (Cm q ty ((At r).map AA))).length=(At r).length:=by unfold JO;rw[List.length_zipWith,G7,List.length_map,List.length_map,List.length_map];omega
   have hx:VlR St.zero (Tg (((At r0).map AA).map (txt q)) (Cm q ty ((At r).map AA))) (Bh (scW 7) .nilSlice .nilSlice vC):=Wi (f:=JO (((At r0).map AA).map (txt q)) (Cm q ty ((At r).map AA))) (by rw[hfl];exact hC.rd) hCv
   refine Ab (B7 rfl rfl hC.rd.one) ?_
   have hlen:(Et q true ty ((Bk rs).take j)).length<=2000000:=by
    cases hb:(Bk rs).take j with
    | nil=>exact Nat.zero_le _
    | cons x y=>
     have:=congrArg List.length hb
     rw[List.length_take,List.length_cons]at this
     show(y.map _).length<=_
     rw[List.length_map];omega
   refine By (e3.trans e4) rfl (hB.ext e4) (by omega) (fun h=>by cases h) fun v' st6 e6 _ ho'=>Ab (List.all_eq_true.2 fun x hx=>by rw[List.mem_singleton.1 hx];exact ho'.rd.one) ?_
   rw[w1 j (by omega)]
   refine⟨⟨rfl,rfl,rfl,rfl,rfl,rfl,rfl,rfl,rfl,rfl,rfl,rfl,rfl,rfl,rfl,rfl,rfl,rfl,rfl,rfl,e6,j+1,rfl,by omega,xs++Bh (scW 7) .nilSlice .nilSlice vC,?_,?_⟩,by dsimp only;omega⟩
   ·rw[HC (hraw hjr) (by omega) (hraw hj0),List.length_append];exact ho'
   ·rw[HC (hraw hjr) (by omega) (hraw hj0)];exact hBv.snoc hx
 ·have hhd:hd=true:=by cases hd;exact absurd hh (by decide);rfl
  subst hhd
  have hj0:j=0:=by omega
  subst hj0
  rw[w1 0 (by omega)]
  refine⟨⟨rfl,rfl,rfl,rfl,rfl,rfl,rfl,rfl,rfl,rfl,rfl,rfl,rfl,rfl,rfl,rfl,rfl,rfl,rfl,rfl,e3,1,rfl,by omega,xs,?_,?_⟩,by dsimp only;omega⟩
  ·rw[KV]
   rw[List.take_zero]at hB
   exact hB
  ·rw[KV]
   rw[List.take_zero]at hBv
   exact hBv
end
end
section
theorem Jx.nil (v:TV):Jx .nilSlice v:=fun id h=>by cases h
section
variable {a q:Int} {hd ty:Bool} {st:St}
theorem gOf_ok {rs:List Nd} {cs:List TV} {W:Nat} (hc:NdC (.mk 1 [] [] rs []) cs) (hT:Rf a q rs W) {K:KG13}
  (hk2:∀u xs st',Ar st st'->Rd 13 u (Et q hd ty (Bk rs)).length xs->VsR St.zero (Et q hd ty (Bk rs)) xs->K 6 false false [] 0 0 0 0 0 [] .nilSlice u .nilSlice st'):
  CallT PR DT [.agg cs,.agg [.int .u8 a,.int .u8 q,.bool hd,.bool ty]] [.agg Pl] st K:=by
 have w1:∀k:Nat,k<=100000000->i64.wrap ((k:Int)+1)=((k+1:Nat):Int):=fun k hk=>by rw[Ah _ (by omega) (by omega)];omega
 have tn:∀k:Nat,Int.toNat (k:Int)=k:=fun k=>rfl
 unfold NdC at hc
 obtain⟨v,xs,rfl,hr,hx⟩:=hc
 have hcnt:=hT.cnt
 have hwl:=hT.wlen
 have hraw:∀{j:Nat} {r:Nd},rs[j]? =some r->(Bk rs)[j]? =some ((At r).map AA):=fun {j r} h=>by unfold Bk;rw[List.getElem?_map,h];rfl
 have hrawl:(Bk rs).length=rs.length:=by unfold Bk;rw[List.length_map]
 refine Kp _ _ _ _ _ a q hd ty st K ⟨fun zn zi y0 y1 y2 zv y3 c1 c2 b1 b2 kA boA ngA dgA exA tkA tdA tnA tzA txA u0A u1A u2A kB boB ngB dgB exB tkB tdB tnB tzB txB u0B u1B u2B st'=>v=zv/\a=c1/\q=c2/\hd=b1/\ty=b2/\6=kB/\false=boB/\false=ngB/\[]=dgB/\0=exB/\0=tkB/\0=tdB/\0=tnB/\0=tzB/\[]=txB/\.nilSlice=u0B/\.nilSlice=u2B/\Ar st st'/\∃j:Nat,zi=(j:Int)/\j<=rs.length/\(0<j->hd=true->∀r0,rs[0]? =some r0->Rd 1 zn W (((At r0).map fun k=>txt q (AA k)).map TV.str))/\∃xs,Own st.nt 13 st' u1B (Et q hd ty ((Bk rs).take j)).length xs/\VsR St.zero (Et q hd ty ((Bk rs).take j)) xs,
  fun _ zi _ _ _ _ _ _ _ _ _ _ _ _ _ _ _ _ _ _ _ _ _ _ _ _ _ _ _ _ _ _ _ _ _ _ _ _=>(rs.length-zi).toNat,⟨rfl,rfl,rfl,rfl,rfl,rfl,rfl,rfl,rfl,rfl,rfl,rfl,rfl,rfl,rfl,rfl,rfl,Ar.refl _,0,rfl,Nat.zero_le _,fun h=>absurd h (Nat.lt_irrefl _),[],by rw[List.take_zero];exact Own.nil _ _ _,by rw[List.take_zero];exact VsR.nil _⟩,?_⟩
 rintro nmT _ y0 y1 y2 _ y3 _ _ _ _ kA boA ngA dgA exA tkA tdA tnA tzA txA u0A u1A u2A _ _ _ _ _ _ _ _ _ _ _ vB _ st1 ⟨rfl,rfl,rfl,rfl,rfl,rfl,rfl,rfl,rfl,rfl,rfl,rfl,rfl,rfl,rfl,rfl,rfl,e1,j,rfl,hj,hnm,zs,hB,hBv⟩
 refine Ab hr.isSl ?_
 rw[hr.lenS]
 refine Aa (fun g=>?_) fun g=>?_
 case refine_2=>
  have hjl:(Bk rs).take j=Bk rs:=List.take_of_length_le (by omega)
  rw[hjl]at hB hBv
  exact Ab (B7 rfl hB.rd.one rfl) (hk2 _ zs _ e1 hB.rd hBv)
 have hjlt:j<rs.length:=by omega
 obtain⟨r,hjr⟩:∃r,rs[j]? =some r:=⟨_,List.getElem?_eq_getElem hjlt⟩
 have hmem:=List.mem_of_getElem? hjr
 have hwid:=hT.wid r hmem
 obtain⟨ents,tail,hrE,hne,hents⟩:=hT.form r hmem
 obtain⟨hp1,rc,u,ys0,hrc,hld,hu,hy,_⟩:=Np hr hx hjr
 have hke:At r=ents:=by rw[hrE];rfl
 rw[hke]at hu hy
 refine⟨fun zt zk zn zi y0 y1 y2 zv y3 c1 c2 b7 b8 kA boA ngA dgA exA tkA tdA tnA tzA txA u0A u1A u2A kB boB ngB dgB exB tkB tdB tnB tzB txB u0B u1B u2B kC boC ngC dgC exC tkC tdC tnC tzC txC u0C u1C u2C st'=>nmT=zn/\(j:Int)=zi/\v=zv/\a=c1/\q=c2/\hd=b7/\ty=b8/\6=kB/\false=boB/\false=ngB/\[]=dgB/\0=exB/\0=tkB/\0=tdB/\0=tnB/\0=tzB/\[]=txB/\.nilSlice=u0B/\.nilSlice=u2B/\vB=u1B/\6=kC/\false=boC/\false=ngC/\[]=dgC/\0=exC/\0=tkC/\0=tdC/\0=tnC/\0=tzC/\[]=txC/\.nilSlice=u0C/\.nilSlice=u2C/\Ar st1 st'/\∃m':Nat,zk=(m':Int)/\m'<=W/\Own st1.nt 1 st' zt m' ((((At r).take m').map fun k=>txt q (AA k)).map TV.str)/\Jx zt u1C/\∃ys,Own st1.nt 13 st' u1C m' ys/\VsR St.zero (((Cm q ty ((At r).map AA)).take m').map BE) ys,
  fun _ zk _ _ _ _ _ _ _ _ _ _ _ _ _ _ _ _ _ _ _ _ _ _ _ _ _ _ _ _ _ _ _ _ _ _ _ _ _ _ _ _ _ _ _ _ _ _ _ _ _ _ _=>(W-zk).toNat,⟨rfl,rfl,rfl,rfl,rfl,rfl,rfl,rfl,rfl,rfl,rfl,rfl,rfl,rfl,rfl,rfl,rfl,rfl,rfl,rfl,rfl,rfl,rfl,rfl,rfl,rfl,rfl,rfl,rfl,rfl,rfl,rfl,Ar.refl _,0,rfl,Nat.zero_le _,Own.nil _ _ _,Jx.nil _,[],Own.nil _ _ _,by rw[List.take_zero];exact VsR.nil _⟩,?_⟩
 rintro vt _ _ _ z0 z1 z2 _ z3 _ _ _ _ kA boA ngA dgA exA tkA tdA tnA tzA txA u0A u1A u2A _ _ _ _ _ _ _ _ _ _ _ _ _ _ _ _ _ _ _ _ _ _ _ _ vC _ st2 ⟨rfl,rfl,rfl,rfl,rfl,rfl,rfl,rfl,rfl,rfl,rfl,rfl,rfl,rfl,rfl,rfl,rfl,rfl,rfl,rfl,rfl,rfl,rfl,rfl,rfl,rfl,rfl,rfl,rfl,rfl,rfl,rfl,e2,m,rfl,hm,hvt,hap,ys,hC,hCv⟩
 rw[hr.lenZ,tn]
 refine⟨⟨by omega,by omega⟩,Ab hp1 (Ad (hld _) (Ab hu.isSl ?_))⟩
 rw[hu.lenS]
 refine Aa (fun g2=>?_) fun g2=>?_
 ·have hmlt:m<ents.length:=by omega
  have hmWl:m<W:=by rw[<-hwid,hke];exact hmlt
  obtain⟨en,hem⟩:∃k,ents[m]? =some k:=⟨_,List.getElem?_eq_getElem hmlt⟩
  have hef:=hents en (List.mem_of_getElem? hem)
  have hkl:=hT.len r hmem en (by rw[hke];exact List.mem_of_getElem? hem)
  have hkm:(At r)[m]? =some en:=by rw[hke];exact hem
  obtain⟨hp2,ec,w,ws,hec,hld2,hw,hz,hw3⟩:=Np hu hy hem
  obtain⟨w',ws',rfl,hw',hpos,hwl2,hwp⟩:=QW hef hec
  simp only[List.getElem?_cons_succ,List.getElem?_cons_zero,Option.some.injEq]at hw3
  subst hw3
  refine⟨⟨by omega,by omega⟩,Ab hp1 (Ad (hld _) ?_)⟩
  rw[hu.lenZ,tn]
  refine⟨⟨by omega,by omega⟩,Ab hp2 (Ad (hld2 _) ?_)⟩
  rw[hw.lenZ]
  refine⟨⟨by omega,by omega⟩,Ab hwp (Ad (hwl2 _) (Ak ?_))⟩
  have hcw:LA q (AA en):=by
   obtain⟨c,mark,rfl,hcw,_⟩:=hef
   exact hcw
  refine LZ hcw (by omega) ?_
  refine Ly e2 hvt hC hap (by omega) (fun h=>by cases h) fun v5 st5 e5 _ o5 hC5 hap5=>?_
  have htk:(((At r).take m).map fun k=>txt q (AA k)).map TV.str++[TV.str (txt q (AA en))]=(((At r).take (m+1)).map fun k=>txt q (AA k)).map TV.str:=by
   rw[List.take_add_one,hkm];simp
  have hq1:AA en≠ []->decide ((((AA en).getD 0 0).toNat:Int)=q)=Bl q (AA en):=fun h=>by
   unfold Bl
   exact decide_eq_decide.2 ⟨fun g=>fun h'=>h'.elim h fun h''=>h'' g,fun g=>Decidable.not_not.1 fun h'=>g (.inr h')⟩
  have hq0:¬AA en≠ []->false=Bl q (AA en):=fun h=>by
   unfold Bl
   exact(decide_eq_false fun g=>g (.inl (Decidable.not_not.1 h))).symm
  have hcb:=Gz ty (Bl q (AA en)) (txt q (AA en))
  refine Aa (fun g3=>⟨⟨by omega,by have:=List.length_pos_iff.2 g3;omega⟩,P2 (by omega) ?qa⟩) fun g3=>P2 (by omega) ?qb
  case qa | qb=>
   first
    | rw[show decide ((((AA en).getD (Int.toNat 0) 0).toNat:Int)=q)=Bl q (AA en)from hq1 g3]
    | rw[hq0 g3]
   unfold KC
   refine Ab (B7 rfl rfl rfl) ?_
   refine Ly e5 hC5 o5 hap5.symm (by omega) (fun h=>by cases h) fun v6 st6 e6 _ o6 o56 hap6=>Ab (List.all_eq_true.2 fun x hx=>by rw[List.mem_singleton.1 hx];exact o6.rd.one) ?_
   rw[w1 m (by omega)]
   rw[htk]at o56
   refine⟨⟨rfl,rfl,rfl,rfl,rfl,rfl,rfl,rfl,rfl,rfl,rfl,rfl,rfl,rfl,rfl,rfl,rfl,rfl,rfl,rfl,rfl,rfl,rfl,rfl,rfl,rfl,rfl,rfl,rfl,rfl,rfl,rfl,e6,m+1,rfl,by omega,o56,hap6.symm,_,o6,?_⟩,by dsimp only;omega⟩
   rw[Pv hkm]
   exact hCv.snoc (KL _ hcb)
 ·have hmW:m=W:=by rw[hke]at hwid;omega
  subst hmW
  have hrl:(Cm q ty ((At r).map AA)).length=m:=by rw[G7,List.length_map];exact hwid
  have hfull:(Cm q ty ((At r).map AA)).take m=Cm q ty ((At r).map AA):=List.take_of_length_le (by omega)
  have hkfull:(At r).take m=At r:=List.take_of_length_le (by omega)
  rw[hfull]at hCv
  rw[hkfull]at hvt
  refine Am (fun hh=>?_) fun hh=>Aa (fun g0=>?_) fun g0=>?_
  ·have hhd:hd=false:=by simpa using hh
   subst hhd
   have hx:VlR St.zero (H2 ((Cm q ty ((At r).map AA)).map BE)) (Bh (scW 6) .nilSlice vC .nilSlice):=Nh (by rw[List.length_map,hrl];exact hC.rd) hCv
   refine Ab (B7 rfl hC.rd.one rfl) ?_
   have hlen:(Et q false ty ((Bk rs).take j)).length<=2000000:=by rw[FW,List.length_map,List.length_take];omega
   refine By (e1.trans e2) rfl (hB.ext e2) (by omega) (fun h=>by cases h) fun v' st6 e6 _ ho'=>Ab (List.all_eq_true.2 fun x hx=>by rw[List.mem_singleton.1 hx];exact ho'.rd.one) ?_
   rw[w1 j (by omega)]
   refine⟨⟨rfl,rfl,rfl,rfl,rfl,rfl,rfl,rfl,rfl,rfl,rfl,rfl,rfl,rfl,rfl,rfl,rfl,e6,j+1,rfl,by omega,fun _ h=>(by cases h),zs++Bh (scW 6) .nilSlice vC .nilSlice,?_,?_⟩,by dsimp only;omega⟩
   ·rw[HD (hraw hjr),List.length_append];exact ho'
   ·rw[HD (hraw hjr)];exact hBv.snoc hx
  ·have hhd:hd=true:=by cases hd;exact absurd hh (by decide);rfl
   subst hhd
   have hj0:j=0:=by omega
   subst hj0
   rw[w1 0 (by omega)]
   refine⟨⟨rfl,rfl,rfl,rfl,rfl,rfl,rfl,rfl,rfl,rfl,rfl,rfl,rfl,rfl,rfl,rfl,rfl,e1.trans e2,1,rfl,by omega,fun _ _ r0 h0=>?_,zs,?_,?_⟩,by dsimp only;omega⟩
   ·rw[hjr]at h0
    cases h0
    exact hvt.rd
   ·rw[KV]
    rw[List.take_zero]at hB
    exact hB.ext e2
   ·rw[KV]
    rw[List.take_zero]at hBv
    exact hBv
  ·have hhd:hd=true:=by cases hd;exact absurd hh (by decide);rfl
   subst hhd
   obtain⟨r0,hj0⟩:∃r,rs[0]? =some r:=⟨_,List.getElem?_eq_getElem (by omega)⟩
   have hN:=hnm (by omega) rfl r0 hj0
   have hmem0:=List.mem_of_getElem? hj0
   have hwid0:=hT.wid r0 hmem0
   refine⟨fun zk zn zi y0 y1 y2 zv y3 c1 c2 b7 b8 kA boA ngA dgA exA tkA tdA tnA tzA txA u0A u1A u2A kB boB ngB dgB exB tkB tdB tnB tzB txB u0B u1B u2B kC boC ngC dgC exC tkC tdC tnC tzC txC u0C u1C u2C kD boD ngD dgD exD tkD tdD tnD tzD txD u0D u1D u2D st'=>nmT=zn/\(j:Int)=zi/\v=zv/\a=c1/\q=c2/\true=b7/\ty=b8/\6=kB/\false=boB/\false=ngB/\[]=dgB/\0=exB/\0=tkB/\0=tdB/\0=tnB/\0=tzB/\[]=txB/\.nilSlice=u0B/\.nilSlice=u2B/\vB=u1B/\6=kC/\false=boC/\false=ngC/\[]=dgC/\0=exC/\0=tkC/\0=tdC/\0=tnC/\0=tzC/\[]=txC/\.nilSlice=u0C/\.nilSlice=u2C/\vC=u1C/\7=kD/\false=boD/\false=ngD/\[]=dgD/\0=exD/\0=tkD/\0=tdD/\0=tnD/\0=tzD/\[]=txD/\.nilSlice=u0D/\.nilSlice=u1D/\Ar st2 st'/\∃p:Nat,zk=(p:Int)/\p<=m/\∃ws,Own st2.nt 14 st' u2D p ws/\FsR St.zero (JO ((((At r0).map AA).map (txt q)).take p) ((Cm q ty ((At r).map AA)).take p)) ws,
    fun zk _ _ _ _ _ _ _ _ _ _ _ _ _ _ _ _ _ _ _ _ _ _ _ _ _ _ _ _ _ _ _ _ _ _ _ _ _ _ _ _ _ _ _ _ _ _ _ _ _ _ _ _ _ _ _ _ _ _ _ _ _ _ _ _=>(m-zk).toNat,⟨rfl,rfl,rfl,rfl,rfl,rfl,rfl,rfl,rfl,rfl,rfl,rfl,rfl,rfl,rfl,rfl,rfl,rfl,rfl,rfl,rfl,rfl,rfl,rfl,rfl,rfl,rfl,rfl,rfl,rfl,rfl,rfl,rfl,rfl,rfl,rfl,rfl,rfl,rfl,rfl,rfl,rfl,rfl,rfl,rfl,Ar.refl _,0,rfl,Nat.zero_le _,[],Own.nil _ _ _,by rw[List.take_zero,List.take_zero];exact FsR.nil _⟩,?_⟩
   rintro _ _ _ x0 x1 x2 _ x3 _ _ _ _ kA boA ngA dgA exA tkA tdA tnA tzA txA u0A u1A u2A _ _ _ _ _ _ _ _ _ _ _ _ _ _ _ _ _ _ _ _ _ _ _ _ _ _ _ _ _ _ _ _ _ _ _ _ _ _ vD st3 ⟨rfl,rfl,rfl,rfl,rfl,rfl,rfl,rfl,rfl,rfl,rfl,rfl,rfl,rfl,rfl,rfl,rfl,rfl,rfl,rfl,rfl,rfl,rfl,rfl,rfl,rfl,rfl,rfl,rfl,rfl,rfl,rfl,rfl,rfl,rfl,rfl,rfl,rfl,rfl,rfl,rfl,rfl,rfl,rfl,rfl,e3,p,rfl,hp,ws,hD,hDv⟩
   refine Ab hN.isSl ?_
   rw[hN.lenS,tn]
   refine Aa (fun g5=>?_) fun g5=>?_
   ·obtain⟨k0,hk0⟩:∃k,(At r0)[p]? =some k:=⟨_,List.getElem?_eq_getElem (by omega)⟩
    have l0:Ac st3 [] (.t (ixT 1 nmT p)) 0=some (.str (txt q (AA k0))):=hN.ldx st3 p 0 (by rw[Nat.mul_one,Nat.add_zero,List.getElem?_map,List.getElem?_map,hk0];rfl)
    refine⟨⟨by omega,by rw[hN.lenZ];omega⟩,Ad l0 (Ak ?_)⟩
    refine el13 (QQ _) (l:=(Cm q ty ((At r).map AA)).map BE) (.of_rd (by rw[List.length_map,hrl];exact hC.rd)) hCv rfl (by rw[List.length_map,hrl];omega) fun s' l' f' ub1 ul1 uf1 gw hw on=>?_
    refine Ab on ?_
    refine By e3 rfl hD (by omega) (fun h=>by cases h) fun v' st6 e6 _ ho'=>Ab (List.all_eq_true.2 fun x hx=>by rw[List.mem_singleton.1 hx];exact ho'.rd.one) ?_
    rw[w1 p (by omega)]
    refine⟨⟨rfl,rfl,rfl,rfl,rfl,rfl,rfl,rfl,rfl,rfl,rfl,rfl,rfl,rfl,rfl,rfl,rfl,rfl,rfl,rfl,rfl,rfl,rfl,rfl,rfl,rfl,rfl,rfl,rfl,rfl,rfl,rfl,rfl,rfl,rfl,rfl,rfl,rfl,rfl,rfl,rfl,rfl,rfl,rfl,rfl,e6,p+1,rfl,by omega,_,ho',?_⟩,by dsimp only;omega⟩
    rw[List.getElem?_map]at gw
    obtain⟨sc,hsc,hle⟩:=Option.map_eq_some_iff.1 gw
    rw[Pw (nm:=txt q (AA k0)) (by rw[List.getElem?_map,List.getElem?_map,hk0];rfl) hsc]
    refine hDv.snoc0 ?_
    unfold FdR
    exact⟨_,rfl,by rw[hle];exact hw⟩
   ·have hpW:p=m:=by omega
    subst hpW
    have hfull0:(((At r0).map AA).map (txt q)).take p=((At r0).map AA).map (txt q):=List.take_of_length_le (by rw[List.length_map,List.length_map];omega)
    rw[hfull,hfull0]at hDv
    have hfl:(JO (((At r0).map AA).map (txt q)) (Cm q ty ((At r).map AA))).length=p:=by unfold JO;rw[List.length_zipWith,hrl,List.length_map,List.length_map];omega
    have hx:VlR St.zero (Tg (((At r0).map AA).map (txt q)) (Cm q ty ((At r).map AA))) (Bh (scW 7) .nilSlice .nilSlice vD):=Wi (f:=JO (((At r0).map AA).map (txt q)) (Cm q ty ((At r).map AA))) (by rw[hfl];exact hD.rd) hDv
    refine Ab (B7 rfl rfl hD.rd.one) ?_
    have hlen:(Et q true ty ((Bk rs).take j)).length<=2000000:=by
     cases hb:(Bk rs).take j with
     | nil=>exact Nat.zero_le _
     | cons x y=>
      have:=congrArg List.length hb
      rw[List.length_take,List.length_cons]at this
      show(y.map _).length<=_
      rw[List.length_map];omega
    have e23:=e2.trans e3
    refine By (e1.trans e23) rfl (hB.ext e23) (by omega) (fun h=>by cases h) fun v' st6 e6 _ ho'=>Ab (List.all_eq_true.2 fun x hx=>by rw[List.mem_singleton.1 hx];exact ho'.rd.one) ?_
    rw[w1 j (by omega)]
    refine⟨⟨rfl,rfl,rfl,rfl,rfl,rfl,rfl,rfl,rfl,rfl,rfl,rfl,rfl,rfl,rfl,rfl,rfl,e6,j+1,rfl,by omega,fun _ _ r0' h0'=>?_,zs++Bh (scW 7) .nilSlice .nilSlice vD,?_,?_⟩,by dsimp only;omega⟩
    ·rw[hj0]at h0'
     cases h0'
     exact hN
    ·rw[HC (hraw hjr) (by omega) (hraw hj0),List.length_append];exact ho'
    ·rw[HC (hraw hjr) (by omega) (hraw hj0)];exact hBv.snoc hx
end
end
theorem UJ (s:Sc):(BE s).sz=1+s.bytes.length+s.text.length+s.dg.length:=szl' s
theorem XI (ty qd:Bool) (s:B8):(BE (Hk ty qd s)).sz<=1+s.length:=by
 have hd:=dcP_len s
 rw[UJ,Gz]
 unfold Hk
 by_cases h1:ty=false∨qd=true
 ·rw[if_pos h1];simp[tkT]
 rw[if_neg h1]
 by_cases h2:s=[]
 ·rw[if_pos h2];simp[scK]
 rw[if_neg h2]
 by_cases h3:s=J8
 ·rw[if_pos h3];simp[tkB]
 rw[if_neg h3]
 by_cases h4:s=I8
 ·rw[if_pos h4];simp[tkB]
 rw[if_neg h4]
 by_cases h5:(dcP s).2.2.2=0
 ·rw[if_pos h5];simp[tkN];omega
 rw[if_neg h5]
 by_cases h6:(tmP s).2.2.2.2=0
 ·rw[if_pos h6];simp[tkM]
 rw[if_neg h6];simp[tkT]
theorem QF (q:Int) (ty:Bool):∀r:List B8,Ea ((Cm q ty r).map BE)<=r.length+M7 r
 | []=>by simp[Cm,Ea,M7]
 | c::r=>by
  have h1:=QF q ty r
  have h2:=XI ty (Bl q c) (txt q c)
  have h3:=txt_len q c
  unfold Cm at h1⊢
  simp only[List.map_cons,Ea,List.length_cons,M7]at h1⊢;omega
theorem UA (M:Nat):∀(names:List B8) (row:List Sc),(∀t,t∈names->t.length<=M)->FC (JO names row)<=row.length*M+Ea (row.map BE)
 | [],row,h=>by simp[JO,FC]
 | _::_,[],h=>by simp[JO,FC]
 | t::ns,s::r,h=>by
  have h1:=UA M ns r fun x hx=>h x (.tail _ hx)
  have h2:=h t (.head _)
  unfold JO at h1⊢
  simp only[List.zipWith_cons_cons,FC,Fd.sz,List.length_cons,List.map_cons,Ea,Nat.add_mul,Nat.one_mul]at h1⊢;omega
theorem Rz (l:List Vl):(H2 l).sz=1+Ea l:=by unfold H2;rw[szs];simp[scZ,FC]
theorem vMap_sz (f:List Fd):(SW f).sz=1+FC f:=by unfold SW;rw[szs];simp[scZ,Ea]
theorem valL_sz {q:Int} {hd ty:Bool} {M:Nat} {l:List (List B8)} (h:hd=true->∀r,l.head? =some r->∀c,c∈r->(txt q c).length<=M):Ea (Et q hd ty l)<=l.length+Gj l*(1+M)+K2 l:=by
 cases hd with
 | false=>
  rw[FW]
  clear h
  induction l with
  | nil=>simp[Ea]
  | cons r t ih=>
   have h1:=QF q ty r
   simp only[List.map_cons,Ea,Rz,List.length_cons,Gj,K2,Nat.add_mul,Nat.mul_add,Nat.mul_one]at ih⊢;omega
 | true=>
  cases l with
  | nil=>simp[Et,Ea]
  | cons h0 t=>
   have hM:=h rfl h0 rfl
   have key:∀t:List (List B8),Ea (t.map fun r=>Tg (h0.map (txt q)) (Cm q ty r))<=t.length+Gj t*(1+M)+K2 t:=by
    intro t
    induction t with
    | nil=>simp[Ea]
    | cons r t ih=>
     have h1:=QF q ty r
     have h2:=UA M (h0.map (txt q)) (Cm q ty r) fun x hx=>by
      obtain⟨c,hc,rfl⟩:=List.mem_map.1 hx
      exact hM c hc
     rw[G7]at h2
     have h3:(Tg (h0.map (txt q)) (Cm q ty r)).sz=1+FC (JO (h0.map (txt q)) (Cm q ty r)):=vMap_sz _
     simp only[List.map_cons,Ea,h3,List.length_cons,Gj,K2,Nat.add_mul,Nat.mul_add,Nat.mul_one]at ih⊢;omega
   have:=key t
   show Ea (t.map fun r=>Tg (h0.map (txt q)) (Cm q ty r))<=_
   simp only[List.length_cons,Gj,K2,Nat.add_mul]at this⊢;omega
theorem Xx {a q:Int} {s:B8} {i:Nat} {ks:List Nd} {e n:Nat} (h:IF a q s i ks e n):i<=s.length->M7 (ks.map AA)+i<=e:=by
 induction h with
 | @last i e n h1 h2 h3=>
  intro hi
  have hl:=CF hi h1
  simp only[List.map_cons,List.map_nil,BX,M7]
  rw[Jz hl.1 hl.2];omega
 | @more i e e' n ks h1 h2 h3 h4 ih=>
  intro hi
  have hl:=CF hi h1
  have:=ih (by omega)
  simp only[List.map_cons,BX,M7]
  rw[Jz hl.1 hl.2];omega
theorem R6 {a q:Int} {s:B8} {i:Nat} {rs:List Nd} (h:Jt a q s i rs):i<=s.length->K2 (Bk rs)+i<=s.length/\Gj (Bk rs)+i<=s.length+1/\(i<s.length∨rs=[]->True)/\rs.length+i<=s.length:=by
 induction h with
 | nil h=>intro hi;simp[Bk,K2,Gj];omega
 | @cons i e n ks rs h1 h2 h3 ih=>
  intro hi
  have hle:=h2.le hi
  have hs:=Xx h2 hi
  have hn:=(EX (by omega) hle.2.2.2.2).2.1
  obtain⟨a1,a2,_,a4⟩:=ih (by omega)
  have hk:Bk (.mk 8 [] [] ks (slc s e (e+n))::rs)=ks.map AA::Bk rs:=rfl
  rw[hk]
  simp only[K2,Gj,List.length_map,List.length_cons]
  have hc:n=0->rs=[]:=fun h0=>by
   have:=hn h0
   cases rs with
   | nil=>rfl
   | cons x y=>simp only[List.length_cons]at a4;omega
  refine⟨by omega,?_,fun _=>trivial,?_⟩
  ·rcases Nat.eq_zero_or_pos n with h0 | h0
   ·rw[hc h0];simp[Bk,Gj];omega
   ·omega
  ·rcases Nat.eq_zero_or_pos n with h0 | h0
   ·rw[hc h0];simp;omega
   ·omega
theorem tree_of {a q:Int} {s:B8} {rs:List Nd} (h:Jt a q s 0 rs) (hs:s.length<=1400000) (hlen:∀r,r∈rs->∀k,k∈At r->(txt q (AA k)).length<=65536) (hW:∃W:Int,∀r,r∈rs->((At r).length:Int)=W):∃W,Rf a q rs W:=by
 obtain⟨W,hW⟩:=hW
 obtain⟨h1,h2,_,h4⟩:=R6 h (Nat.zero_le _)
 have mem:∀r,r∈rs->M7 ((At r).map AA)<=s.length/\(At r).length<=s.length+1:=by
  intro r hr
  obtain⟨j,hj⟩:=List.getElem?_of_mem hr
  have hj2:(Bk rs)[j]? =some ((At r).map AA):=by unfold Bk;rw[List.getElem?_map,hj];rfl
  have:=Wq hj2
  rw[List.length_map]at this
  omega
 by_cases hne:rs=[]
 ·subst hne
  exact⟨0,⟨fun r hr=>(by cases hr),fun r hr=>(by cases hr),fun r hr=>(by cases hr),by simp,by omega⟩⟩
 refine⟨W.toNat,⟨h.form (Nat.zero_le _),fun r hr=>by have:=hW r hr;omega,fun r hr k hk=>⟨hlen r hr k hk,?_⟩,by omega,?_⟩⟩
 ·have h5:=Wp (List.mem_map.2 ⟨k,hk,rfl⟩:AA k∈(At r).map AA)
  have:=(mem r hr).1;omega
 ·obtain⟨r,t,rfl⟩:=List.exists_cons_of_ne_nil hne
  have:=hW r (.head _)
  have:=(mem r (.head _)).2
  omega
theorem JE {n:Nd} {a q:Int} {hd:Bool} (h:D6 n a q hd):∃rs W,n= .mk 1 [] [] rs []/\Rf a q rs W:=by
 obtain⟨rs,rfl,_,_,_,_,_,hr,hl,hW⟩:=Da h.2
 have hlen:=Jo h.1
 have hn:=CH (.mk 1 [] [] rs [])
 obtain⟨W,hT⟩:=tree_of hr (by show(BD (.mk 1 [] [] rs [])).length<=_;omega) hl hW
 exact⟨rs,W,rfl,hT⟩
theorem Se {x:Cx} {hd:Bool} {l2 l3 l4:Int} {n:Nd} (h:AX x hd l2 l3 l4= .ok n):Oa x.s x.a x.q hd= .ok n:=by
 obtain⟨rs,rfl,hd1,hl,hle,hv,hdoc,hr,hlen,hW⟩:=Da h
 unfold lOk at hl
 rw[decide_eq_true_eq]at hl
 obtain⟨rs1,q1,_,_,_,q6⟩:=OC _ (Nat.zero_le _) hdoc
 rw[List.nil_append]at q1
 subst q1
 obtain⟨rs2,j1,j2,_,_⟩:=XA (d':=48) (n':=65536) _ hdoc
 rw[List.nil_append]at j1
 subst j1
 have hdoc2:=j2 (.inr (by decide)) (by rcases q6 with q6 | q6<;>omega)
 show AX (xU x.s x.a x.q) hd 1048576 1024 65536=_
 unfold AX
 rw[if_neg (show ¬dOk x.a x.q=false by rw[hd1];decide),if_neg (show ¬lOk 48 65536 1048576 1024 65536=false by decide),if_neg (show ¬(1048576:Int)<(x.s.length:Int) by omega),if_neg (show ¬Bj x.s≠x.s.length by rw[hv];simp)]
 rw[show DO (xU x.s x.a x.q) hd ((xU x.s x.a x.q).s.length+1) [] 0 1 [] 0= .ok rs from hdoc2]
theorem val_sz {a q:Int} {hd ty:Bool} {rs:List Nd} {n:Nd} (h:D6 n a q hd) (hn:n= .mk 1 [] [] rs []) (hcn:Gj (Bk rs)<=1600):(H2 (Et q hd ty (Bk rs))).sz<=1+rs.length+Gj (Bk rs)*1025+K2 (Bk rs):=by
 subst hn
 obtain⟨rs',hn,_,_,_,_,hdoc,_⟩:=Da h.2
 cases hn
 rw[Rz]
 have:=valL_sz (q:=q) (hd:=hd) (ty:=ty) (M:=1024) (l:=Bk rs) (fun hb r hr c hc=>by
  subst hb
  cases rs with
  | nil=>cases hr
  | cons r0 t=>
   have hr:(At r0).map AA=r:=by simpa [Bk]using hr
   have:=(TZ _ hdoc (Nat.zero_le _) r0 rfl).2
   subst hr
   obtain⟨k,hk,rfl⟩:=List.mem_map.1 hc
   exact this _ (List.mem_map.2 ⟨k,hk,rfl⟩))
 have hl:(Bk rs).length=rs.length:=by unfold Bk;rw[List.length_map]
 omega
section
section
variable {a q:Int} {hd ty:Bool} {st:St}
theorem Xm {s:B8} {l0 l1 l2 l3 l4:Int} (hl:s.length<=70000) {K:Int->Bool->Bool->B8->Int->Int->Int->Int->Int->B8->TV->TV->TV->Int->Int->St->Prop}
  (hk1:∀(p:Nat×Int) st',Ar st st'->AX ⟨s,a,q,l0,l1⟩ hd l2 l3 l4= .error p->p.2≠0->K 0 false false [] 0 0 0 0 0 [] .nilSlice .nilSlice .nilSlice p.1 p.2 st')
  (hk2:∀rs u xs st',Ar st st'->AX ⟨s,a,q,l0,l1⟩ hd l2 l3 l4= .ok (.mk 1 [] [] rs [])->Rd 13 u (Et q hd ty (Bk rs)).length xs->VsR St.zero (Et q hd ty (Bk rs)) xs->K 6 false false [] 0 0 0 0 0 [] .nilSlice u .nilSlice 0 0 st'):
  CallT PR HT [.str s,.agg [.int .u8 a,.int .u8 q,.bool hd,.bool ty],.agg [.int .i64 l0,.int .i64 l1,.int .i64 l2,.int .i64 l3,.int .i64 l4]] [.agg Pl,.one (.int .i64),.one (.int .i64)] st K:=by
 refine Qt s a q hd ty l0 l1 l2 l3 l4 st K (PK (x:=⟨s,a,q,l0,l1⟩) (by show s.length<=_;omega) fun k kv st1 e1 hn=>?_)
 obtain⟨_,_,_,_,_,h5,ho⟩:=hn.five
 cases h5
 have hcn:BT (pN (AX ⟨s,a,q,l0,l1⟩ hd l2 l3 l4))<=1000000000000000:=Tt (by show s.length<=_;omega)
 rcases hP:AX ⟨s,a,q,l0,l1⟩ hd l2 l3 l4 with p | n
 ·rw[hP]at hk1
  have hne:=Ts hP
  exact Ab (Ce ho) (Aa (fun _=>hk1 p st1 e1 rfl hne) fun g=>absurd hne g)
 ·rw[hP]at hn hcn hk2
  obtain⟨rs,hrs,_⟩:=Da hP
  subst hrs
  have hU:=Se hP
  obtain⟨htx,_,hou⟩:=W3 (show s.length<=70000 from hl) hU
  have hnl:=CH (.mk 1 [] [] rs [])
  rw[htx]at hnl
  have hl':s.length<=70000:=hl
  refine Ab (Ce ho) (Aa (fun g=>absurd rfl g) fun _=>Ml hn (by show B4 (.mk 1 [] [] rs [])<=_;rw[<-hnl];show s.length<=_;omega) hcn (fun ho=>?_) (fun h=>absurd hou h) fun _ u xs st2 e2 hu hx=>?_)
  ·obtain⟨rs',W,he,hT⟩:=JE ho
   have he:Nd.mk 1 [] [] rs []= .mk 1 [] [] rs' []:=he
   cases he
   exact⟨W,hT⟩
  ·exact Ab (B7 rfl hu.one rfl) (Ab (B7 rfl hu.one rfl) (hk2 rs u xs st2 (e1.trans e2) rfl hu hx))
end
theorem SlR.zero {sz n:Nat} {v:TV} {xs:List TV} (h:SlR St.zero sz v n xs):Rd sz v n xs:=by
 rcases h with h | ⟨b,_,_,_,_,hb,_⟩
 ·exact h
 ·exact absurd hb (Nat.not_lt_zero _)
theorem UI {xs:List TV} {k n j:Nat} {cs:List TV} (h:(xs.drop k).take n=cs) {x:TV} (hx:cs[j]? =some x):xs[k+j]? =some x:=by
 rw[<-h,List.getElem?_take]at hx
 split at hx
 ·rwa [List.getElem?_drop]at hx
 ·cases hx
theorem Rd.isP {sz n i:Nat} {u:TV} {xs:List TV} (h:Rd sz u n xs) (hi:i<n):isPtr (ixT sz u i)=true:=(SlR.of_rd (st:=St.zero) h).isPtr hi
theorem ld13 {u:TV} {xs:List TV} {l:List Vl} (hr:Rd 13 u l.length xs) (hv:VsR St.zero l xs) {i:Nat} {s':Sc} {l':List Vl} {f':List Fd} (hi:l[i]? =some (.mk s' l' f')):
  isPtr (ixT 13 u i)=true/\∃ub ul uf xl xf,(∀st (j:Nat) x,(Bh s' ub ul uf)[j]? =some x->Ac st [] (.t (Ao (ixT 13 u i) j)) 0=some x)/\Rd 13 ul l'.length xl/\VsR St.zero l' xl/\Rd 14 uf f'.length xf/\FsR St.zero f' xf:=by
 obtain⟨hlt,_⟩:=List.getElem?_eq_some_iff.1 hi
 obtain⟨cs,hc,hcx,_⟩:=hv.get hi
 obtain⟨ub,ul,uf,xl,xf,rfl,_,h2,h3,h4,h5⟩:=hc.cells
 exact⟨hr.isP hlt,ub,ul,uf,xl,xf,fun st j x hx=>hr.ldfx st i j (UI hcx hx),h2.zero,h3,h4.zero,h5⟩
theorem UY {sz n i:Nat} {u:TV} {xs:List TV} (h:Rd sz u n xs) (hi:i<n) (a b:Nat):Ao (Ao (ixT sz u i) a) b=Ao (ixT sz u i) (a+b)/\isPtr (Ao (ixT sz u i) a)=true:=by
 rcases h with⟨rfl,rfl,_⟩ | ⟨tip,rfl⟩
 ·omega
 ·refine⟨?_,rfl⟩
  simp only[ixT,Ao,Nat.beq_refl,List.drop_drop,Nat.add_assoc]
theorem ld14 {u:TV} {xs:List TV} {l:List Fd} (hr:Rd 14 u l.length xs) (hv:FsR St.zero l xs) {i:Nat} {k:B8} {s':Sc} {l':List Vl} {f':List Fd} (hi:l[i]? =some (.mk k (.mk s' l' f'))):
  isPtr (ixT 14 u i)=true/\isPtr (Ao (ixT 14 u i) 1)=true/\∃ub ul uf,∀st (j:Nat) x,(Bh s' ub ul uf)[j]? =some x->Ac st [] (.t (Ao (Ao (ixT 14 u i) 1) j)) 0=some x:=by
 obtain⟨hlt,_⟩:=List.getElem?_eq_some_iff.1 hi
 obtain⟨cs,hc,hcx,_⟩:=hv.get hi
 unfold FdR at hc
 obtain⟨c,rfl,hc⟩:=hc
 obtain⟨ub,ul,uf,xl,xf,rfl,_⟩:=hc.cells
 refine⟨hr.isP hlt,(UY hr hlt 1 0).2,ub,ul,uf,fun st j x hx=>?_⟩
 rw[(UY hr hlt 1 j).1]
 exact hr.ldfx st i (1+j) (UI hcx (by rw[Nat.add_comm 1 j];exact hx))
end
theorem WS {s:B8} (hu:U8 s) (hl:s.length<=65536):Qk (tkT s) [] [] where
 own:=⟨(by decide:(0:Int)<=4),(by decide:(4:Int)<=7),fun _=>rfl,fun _=>⟨rfl,rfl,rfl⟩,fun _=>⟨rfl,rfl,rfl,rfl⟩,fun h=>absurd rfl h,fun _=>rfl,fun _=>rfl,fun _=>rfl⟩
 dec:=by show Fq false [] 0;decide
 time:=fun h=>by cases h
 text:=hu
 tlen:=hl
 blen:=Nat.zero_le _
 keys:=rfl
theorem Ug {s:Sc} (h:Qk s [] []):Jp (BE s)=0:=by
 have h0:=PO.2 h
 unfold BE Jp Eu
 rw[if_neg (by omega),if_neg (by omega),if_neg (by omega)]
 unfold G5 Hi Hj
 rfl
def VH:List (List B8):=[[[97],[98]],[[49],[120]],[[34,49,34],[]]]
theorem textA:D1 44 VH=Vu:=by decide
theorem dA:dOk 44 34=true:=by decide
theorem plA (c:B8) (h:Gr 44 34 c=false/\(c.all fun x=>decide (x.toNat<128))=true/\(txt 34 c).length<=65536):Jw 44 34 c/\Bj c=c.length/\(txt 34 c).length<=65536:=⟨Q8 (dlOk dA) h.1,EB c h.2.1,h.2.2⟩
theorem parseG:∃rs,Oa Vu 44 34 true= .ok (.mk 1 [] [] rs [])/\Bk rs=VH:=by
 have hF:Jw 44 34 [34,49,34]/\Bj [34,49,34]=([34,49,34]:B8).length/\(txt 34 [34,49,34]).length<=65536:=⟨SJ (dlOk dA) [49],EB _ rfl,by decide⟩
 have:=readX (a:=44) (q:=34) dA true (l:=VH) (W:=2) (fun r hr=>by
  simp only[VH,List.mem_cons,List.not_mem_nil,or_false]at hr
  rcases hr with rfl | rfl | rfl
  ·exact⟨by decide,rfl,fun c hc=>by
    simp only[List.mem_cons,List.not_mem_nil,or_false]at hc
    rcases hc with rfl | rfl<;>exact plA _ (by decide)⟩
  ·exact⟨by decide,rfl,fun c hc=>by
    simp only[List.mem_cons,List.not_mem_nil,or_false]at hc
    rcases hc with rfl | rfl<;>exact plA _ (by decide)⟩
  ·exact⟨by decide,rfl,fun c hc=>by
    simp only[List.mem_cons,List.not_mem_nil,or_false]at hc
    rcases hc with rfl | rfl
    ·exact hF
    ·exact plA _ (by decide)⟩) (by rw[textA];decide) (by decide) (fun _ r hr=>by
  simp only[VH,List.head?_cons,Option.some.injEq]at hr
  subst hr
  refine⟨by decide,fun c hc=>?_⟩
  simp only[List.mem_cons,List.not_mem_nil,or_false]at hc
  rcases hc with rfl | rfl<;>decide)
 rwa [textA]at this
def lA:List Vl:=[SW [.mk [97] (BE (tkN false [49] 0)),.mk [98] (BE (tkT [120]))],SW [.mk [97] (BE (tkT [49])),.mk [98] (BE (scK 0))]]
theorem valA:Et 34 true true VH=lA:=by kernel_rfl
theorem P1 {st:St} {K:Bool->St->Prop} (hk:∀st',Ar st st'->K true st'):CallT PR Bf [] [.one .bool] st K:=by
 obtain⟨rs,hp,hraw⟩:=parseG
 refine IB st K (N6 (R9 (Xm (s:=Vu) (by decide) (fun p st1 e1 h _=>?_) fun rs' u xs st1 e1 h hu hx=>?_)))
 ·rw[show AX ⟨Vu,44,34,48,65536⟩ true 1048576 1024 65536=_ from hp]at h;cases h
 rw[show AX ⟨Vu,44,34,48,65536⟩ true 1048576 1024 65536=_ from hp]at h
 cases h
 rw[hraw,valA]at hu hx
 have hu:Rd 13 u 2 xs:=hu
 obtain⟨p1,_,_,f1,_,xf1,ld1,_,_,hf1,hfx1⟩:=ld13 (l:=lA) hu hx (i:=1) rfl
 obtain⟨p0,_,_,f0,_,xf0,ld0,_,_,hf0,hfx0⟩:=ld13 (l:=lA) hu hx (i:=0) rfl
 obtain⟨a1,a2,_,_,_,la⟩:=ld14 hf1 hfx1 (i:=0) rfl
 obtain⟨b1,b2,_,_,_,lb⟩:=ld14 hf0 hfx0 (i:=0) rfl
 obtain⟨c1,c2,_,_,_,lc⟩:=ld14 hf1 hfx1 (i:=1) rfl
 have hf1:Rd 14 f1 2 xf1:=hf1
 have hf0:Rd 14 f0 2 xf0:=hf0
 have h49:Qk (tkT [49]) [] []:=WS (EB [49] rfl) (by decide)
 have hE:shE 44 34 true (BE (tkT [49]))=0:=by
  unfold shE
  rw[if_neg (by rw[dA];decide),if_neg (by rw[Ug h49];decide)]
  decide
 have hT:shT 44 34 true (BE (tkT [49]))=str11:=by
  unfold shT
  rw[if_pos hE]
  show K6 44 34 true (tkT [49])=_
  unfold K6
  rw[if_pos (show(tkT [49]).kind=4 from rfl),if_pos (by decide)]
  decide
 have hv:VlR St.zero (BE (tkT [49])) (Bh (tkT [49]) .nilSlice .nilSlice .nilSlice):=KL _ rfl
 refine Ab (B7 rfl hu.one rfl) (N6 (Xl (v:=BE (tkT [49])) (by rw[UJ];decide) hv fun st2 e2=>?_))
 rw[hE,hT]
 refine Aa (fun _=>Ab hu.isSl (Aa (fun _=>⟨⟨by decide,by rw[hu.lenZ];decide⟩,Ab p1 (Ad (ld1 _ 12 _ rfl) (Ab hf1.isSl (Aa (fun _=>⟨⟨by decide,by rw[hu.lenZ];decide⟩,Ab p1 (Ad (ld1 _ 12 _ rfl)
  ⟨⟨by decide,by rw[hf1.lenZ];decide⟩,Ab a1 (Ab a2 (Ad (la _ 9 _ rfl) (Ak (Aa (fun _=>⟨⟨by decide,by rw[hu.lenZ];decide⟩,Ab p0 (Ad (ld0 _ 12 _ rfl)
   ⟨⟨by decide,by rw[hf0.lenZ];decide⟩,Ab b1 (Ab b2 (Ad (lb _ 0 _ rfl) (AB (Aa (fun _=>⟨⟨by decide,by rw[hu.lenZ];decide⟩,Ab p1 (Ad (ld1 _ 12 _ rfl)
    ⟨⟨by decide,by rw[hf1.lenZ];decide⟩,Ab c1 (Ab c2 (Ad (lc _ 0 _ rfl) (AB (Aa (fun _=>Aa (fun _=>hk st2 (e1.trans e2)) fun g=>absurd rfl g) fun g=>absurd rfl g))))⟩)⟩) fun g=>absurd rfl g))))⟩)⟩) fun g=>absurd rfl g))))⟩)⟩) fun g=>absurd (by rw[hf1.lenS];rfl) g)))⟩) fun g=>absurd (by rw[hu.lenS];rfl) g)) fun g=>absurd rfl g
theorem UD:VlR St.zero (BE (scK 0)) (Bh (scK 0) .nilSlice .nilSlice .nilSlice):=KL _ rfl
section
open Classical in
noncomputable def Ex (n:Nd) (a q:Int) (hd:Bool):List B8:=if D6 n a q hd then(if hd=true then(Ba (txt q) (CK n)).headD []else [])else []
theorem JB:GV TV.str .nilSlice []:= .inl ⟨rfl,rfl,rfl⟩
section
variable {a q:Int} {hd ty:Bool} {st:St}
theorem MI {n:Nd} {cs:List TV} (hc:NdC n cs) (hl:B4 n<=100000000000000) (hcn:BT n<=1000000000000000) {K:TV->Int->St->Prop} (hk:∀v st',Ar st st'->GV TV.str v (Ex n a q hd)->K v (Db n a q hd) st'):
  CallT PR Fa [.agg cs,.agg [.int .u8 a,.int .u8 q,.bool hd,.bool ty]] [.one .tv,.one (.int .i64)] st K:=by
 obtain⟨kd,t0,t1,kv,tl,rfl,_⟩:=hc.five
 refine MT kd t0 t1 kv tl a q hd ty st K (MA hc hl hcn fun v1 st1 e1 g1=>?_)
 by_cases ho:D6 n a q hd
 case neg=>
  have he:Db n a q hd=1:=by unfold Db;rw[if_neg ho]
  have:=hk .nilSlice st1 e1 (by unfold Ex;rw[if_neg ho];exact JB)
  rw[he]at this⊢
  exact Aa (fun _=>this) fun h=>absurd (by decide) h
 have he:Db n a q hd=0:=by unfold Db;rw[if_pos ho]
 have hg:Cz (txt q) n a q hd=Ba (txt q) (CK n):=by unfold Cz;rw[if_pos ho]
 rw[hg]at g1
 rw[he]at hk⊢
 obtain⟨vs1,hr1⟩:=g1.rd
 refine Aa (fun h=>absurd rfl h) fun _=>Am (fun hh=>?_) fun hh=>Ab hr1.isSl (Aa (fun h0=>?_) fun h0=>?_)
 ·exact hk .nilSlice st1 e1 (by unfold Ex;rw[if_pos ho,if_neg fun h=>by rw[h]at hh;cases hh];exact JB)
 ·have hnil:Ba (txt q) (CK n)=[]:=List.length_eq_zero_iff.1 (by rw[hr1.lenS]at h0;omega)
  refine hk .nilSlice st1 e1 ?_
  unfold Ex
  rw[hnil,if_pos ho]
  split<;>exact JB
 ·rw[hr1.lenS]at h0
  have hhd:hd=true:=by cases hd;exact absurd hh (by decide);rfl
  obtain⟨row,hrow⟩:∃r,(Ba (txt q) (CK n))[0]? =some r:=⟨_,List.getElem?_eq_getElem (by omega)⟩
  obtain⟨u,hu,hr⟩:=g1.ldA hrow
  refine⟨⟨by omega,by rw[hr1.lenZ];omega⟩,Ad (hu _) (hk u st1 e1 ?_)⟩
  unfold Ex
  rw[if_pos ho,if_pos hhd]
  cases hcl:Ba (txt q) (CK n)with
  | nil=>rw[hcl]at hrow;cases hrow
  | cons x y=>
   rw[hcl]at hrow
   cases hrow
   exact hr
theorem Lm {n:Nd} {cs:List TV} (hc:NdC n cs) (hl:B4 n<=100000000000000) (hcn:BT n<=1000000000000000) {K:TV->Int->St->Prop} (hk:∀v st',Ar st st'->GV TV.str v (Ex n a q hd)->K v (Db n a q hd) st'):
  CallT PR Ch [.agg cs,.agg [.int .u8 a,.int .u8 q,.bool hd,.bool ty]] [.one .tv,.one (.int .i64)] st K:=by
 obtain⟨kd,t0,t1,kv,tl,rfl,_⟩:=hc.five
 refine G2 kd t0 t1 kv tl a q hd ty st K (RX hc hl hcn fun v1 st1 e1 g1=>?_)
 by_cases ho:D6 n a q hd
 case neg=>
  have he:Db n a q hd=1:=by unfold Db;rw[if_neg ho]
  have:=hk .nilSlice st1 e1 (by unfold Ex;rw[if_neg ho];exact JB)
  rw[he]at this⊢
  exact Aa (fun _=>this) fun h=>absurd (by decide) h
 have he:Db n a q hd=0:=by unfold Db;rw[if_pos ho]
 have hg:Cz (txt q) n a q hd=Ba (txt q) (CK n):=by unfold Cz;rw[if_pos ho]
 rw[hg]at g1
 rw[he]at hk⊢
 obtain⟨vs1,hr1⟩:=g1.rd
 refine Aa (fun h=>absurd rfl h) fun _=>Am (fun hh=>?_) fun hh=>Ab hr1.isSl (Aa (fun h0=>?_) fun h0=>?_)
 ·exact hk .nilSlice st1 e1 (by unfold Ex;rw[if_pos ho,if_neg fun h=>by rw[h]at hh;cases hh];exact JB)
 ·have hnil:Ba (txt q) (CK n)=[]:=List.length_eq_zero_iff.1 (by rw[hr1.lenS]at h0;omega)
  refine hk .nilSlice st1 e1 ?_
  unfold Ex
  rw[hnil,if_pos ho]
  split<;>exact JB
 ·rw[hr1.lenS]at h0
  have hhd:hd=true:=by cases hd;exact absurd hh (by decide);rfl
  obtain⟨row,hrow⟩:∃r,(Ba (txt q) (CK n))[0]? =some r:=⟨_,List.getElem?_eq_getElem (by omega)⟩
  obtain⟨u,hu,hr⟩:=g1.ldA hrow
  refine⟨⟨by omega,by rw[hr1.lenZ];omega⟩,Ad (hu _) (hk u st1 e1 ?_)⟩
  unfold Ex
  rw[if_pos ho,if_pos hhd]
  cases hcl:Ba (txt q) (CK n)with
  | nil=>rw[hcl]at hrow;cases hrow
  | cons x y=>
   rw[hcl]at hrow
   cases hrow
   exact hr
theorem Oq {n:Nd} {cs:List TV} (hc:NdC n cs) (hl:B4 n<=100000000000000) (hcn:BT n<=1000000000000000) {K:Int->Bool->Bool->B8->Int->Int->Int->Int->Int->B8->TV->TV->TV->Int->St->Prop}
  (hk1:¬D6 n a q hd->∀st',Ar st st'->K 0 false false [] 0 0 0 0 0 [] .nilSlice .nilSlice .nilSlice 1 st')
  (hk2:D6 n a q hd->∀u xs st',Ar st st'->Rd 13 u (Et q hd ty (Bk (CK n))).length xs->VsR St.zero (Et q hd ty (Bk (CK n))) xs->K 6 false false [] 0 0 0 0 0 [] .nilSlice u .nilSlice 0 st'):
  CallT PR CM [.agg cs,.agg [.int .u8 a,.int .u8 q,.bool hd,.bool ty]] [.agg Pl,.one (.int .i64)] st K:=by
 obtain⟨kd,t0,t1,kv,tl,rfl,_⟩:=hc.five
 refine Ig kd t0 t1 kv tl a q hd ty st K (WB hc hl hcn (fun st1 e1 ho=>Am (fun h=>by cases h) fun _=>?_) fun st1 e1 ho=>Am (fun _=>hk1 ho st1 e1) fun h=>by cases h)
 obtain⟨rs,W,rfl,hT⟩:=JE ho
 exact gOf_ok hc hT fun u xs st2 e2 hu hx=>Ab (B7 rfl hu.one rfl) (hk2 ho u xs st2 (e1.trans e2) hu hx)
end
theorem SD:∀rs:List Nd,Gj (Bk rs)+rs.length<=Gi rs
 | []=>by simp[Bk,Gj,Gi]
 | .mk k l t ks tl::rs=>by
  have ih:=SD rs
  have h1:=De ks
  have e:Bk (.mk k l t ks tl::rs)=ks.map AA::Bk rs:=rfl
  rw[e]
  simp only[Gj,List.length_map,List.length_cons,Gi,BT];omega
theorem lvaluesG_ok {n:Nd} {cs:List TV} (hc:NdC n cs) {a q:Int} {hd ty:Bool} {st:St} {K:Bool->St->Prop} (hk:∀st',K true st'):
  CallT PR fn_datakitlaw28_GridValues [.agg cs,.agg [.int .u8 a,.int .u8 q,.bool hd,.bool ty]] [.one .bool] st K:=by
 have w1:∀k:Nat,k<=100000000->i64.wrap ((k:Int)+1)=((k+1:Nat):Int):=fun k hk=>by rw[Ah _ (by omega) (by omega)];omega
 obtain⟨kd,t0,t1,kv,tl,rfl,_⟩:=hc.five
 refine FU kd t0 t1 kv tl a q hd ty st K (Wu hc (Am (fun _=>P1 fun _ _=>hk _) fun g=>?_))
 have g:0<=Eb n 600 10 1500:=by simpa using g
 have hcnt:=PB n (left:=600) (d:=10) (long:=1500) (by decide) g
 have hlen:=PA n (left:=600) (d:=10) (long:=1500) (by decide) g
 rw[show Eb n 600 10 ((1500:Nat):Int)=Eb n 600 10 1500 from rfl]at hlen
 have hn1:B4 n<=100000000000000:=by omega
 have hn2:BT n<=1000000000000000:=by omega
 have loop:∀(st7:St) (v7 v8:TV),GV TV.str v7 (Ex n a q hd)->GV TV.str v8 (Ex n a q hd)->(Ex n a q hd).length<=10000000->∃(I1:Int->TV->TV->St->Prop) (M1:Int->TV->TV->St->Nat),(I1 (0:Int) v7 v8 st7)/\∀(i_1:Int) (a_1:TV) (b_1:TV) (st8:St),I1 i_1 a_1 b_1 st8->(need (isSl a_1) (BIf (decide (i_1<(lenS a_1:Int))) (((0<=i_1/\i_1<(lenZ 1 a_1:Int))/\Ag (Ac st8 [] (.t (ixT 1 a_1 (Int.toNat i_1))) 0) (fun (x1:TV)=>Af (.str) x1 (fun (s5:B8)=>((0<=i_1/\i_1<(lenZ 1 b_1:Int))/\Ag (Ac st8 [] (.t (ixT 1 b_1 (Int.toNat i_1))) 0) (fun (x2:TV)=>Af (.str) x2 (fun (s6:B8)=>BIf (decide (s5≠s6)) (K (false) st8) ((I1 (i64.wrap (i_1+(1:Int))) a_1 b_1 st8/\M1 (i64.wrap (i_1+(1:Int))) a_1 b_1 st8<M1 i_1 a_1 b_1 st8)))))))))
   (CallT PR Bf [] [.one (.bool)] st8 (fun (b8:Bool) (st9:St)=>K (b8) st9)))):=by
  intro st7 v7 v8 h7 h8 hc
  refine⟨fun i x y _=>v7=x/\v8=y/\∃k:Nat,i=(k:Int)/\k<=(Ex n a q hd).length,fun i _ _ _=>((Ex n a q hd).length-i).toNat,⟨rfl,rfl,0,rfl,Nat.zero_le _⟩,?_⟩
  rintro _ _ _ st8 ⟨rfl,rfl,k,rfl,hk1⟩
  refine Ab (Rd.isSl h7) (Aa (fun g=>?_) fun g=>P1 fun _ _=>hk _)
  rw[Rd.lenS h7]at g
  obtain⟨c,hcc⟩:∃c,(Ex n a q hd)[k]? =some c:=⟨_,List.getElem?_eq_getElem (by omega)⟩
  refine⟨⟨by omega,by rw[Rd.lenZ h7];omega⟩,Ad (GV.ld h7 st8 hcc) (Ak ⟨⟨by omega,by rw[Rd.lenZ h8];omega⟩,Ad (GV.ld h8 st8 hcc) (Ak (Aa (fun g=>absurd rfl g) fun _=>?_))⟩)⟩
  rw[w1 k (by omega)]
  exact⟨⟨rfl,rfl,k+1,rfl,by omega⟩,by dsimp only;omega⟩
 by_cases ho:D6 n a q hd
 ·have hz:(H2 (Et q hd ty (Bk (CK n)))).sz<=2000000:=by
   obtain⟨rs,hrs,_,_,_,_,_,hr,_⟩:=Da ho.2
   have hnl:=CH n
   have hck:=Jo ho.1
   obtain⟨h1,_,_,h4⟩:=R6 hr (Nat.zero_le _)
   subst hrs
   have h1:K2 (Bk rs)+0<=(BD (.mk 1 [] [] rs [])).length:=h1
   have h4:rs.length+0<=(BD (.mk 1 [] [] rs [])).length:=h4
   have h5:=SD rs
   have h6:BT (.mk 1 [] [] rs [])=1+Gi rs:=by simp only[BT]
   have:=val_sz (ty:=ty) ho rfl (by omega)
   show(H2 (Et q hd ty (Bk rs))).sz<=_
   omega
  refine Ml hc hn1 hn2 (fun ho=>by obtain⟨rs,W,rfl,hT⟩:=JE ho;exact⟨W,hT⟩) (fun h=>absurd ho h) fun _ u xs st1 e1 hu hx=>Ab (B7 rfl hu.one rfl) ?_
  refine Oq hc hn1 hn2 (fun h=>absurd ho h) fun _ u' xs' st2 e2 hu' hx'=>Ab (B7 rfl hu'.one rfl) ?_
  refine MI hc hn1 hn2 fun v7 st3 e3 hv7=>Lm hc hn1 hn2 fun v8 st4 e4 hv8=>?_
  refine Vm 2000000 _ _ hz hz (Nat.le_refl _) (Nh hu hx) (Nh hu' hx') (QQ _) fun r hr=>?_
  rw[hr.2 rfl]
  refine Am (fun g=>by cases g) fun _=>Aa (fun g=>absurd rfl g) fun _=>Aa (fun g=>absurd rfl g) fun _=>Ab (Rd.isSl hv7) (Ab (Rd.isSl hv8) (Aa (fun g=>absurd (by rw[Rd.lenS hv7,Rd.lenS hv8]) g) fun _=>?_))
  refine loop _ _ _ hv7 hv8 ?_
  obtain⟨rs,W,rfl,hT⟩:=JE ho
  unfold Ex
  rw[if_pos ho]
  split
  ·show((Ba (txt q) rs).headD []).length<=_
   cases hrs:rs with
   | nil=>simp[Ba]
   | cons r t=>
    have:=hT.wid r (by rw[hrs];exact .head _)
    have:=hT.wlen
    show((At r).map _).length<=_
    rw[List.length_map];omega
  ·exact Nat.zero_le _
 ·refine Ml hc hn1 hn2 (fun h=>absurd h ho) (fun _ st1 e1=>Ab (B7 rfl rfl rfl) ?_) fun h=>absurd h ho
  refine Oq hc hn1 hn2 (fun _ st2 e2=>Ab (B7 rfl rfl rfl) ?_) fun h=>absurd h ho
  refine MI hc hn1 hn2 fun v7 st3 e3 hv7=>Lm hc hn1 hn2 fun v8 st4 e4 hv8=>?_
  refine Vm 2000000 (BE (scK 0)) (BE (scK 0)) (by rw[UJ];decide) (by rw[UJ];decide) (Nat.le_refl _) UD UD (QQ _) fun r hr=>?_
  rw[hr.2 rfl]
  refine Am (fun g=>by cases g) fun _=>Aa (fun g=>absurd rfl g) fun _=>Aa (fun g=>absurd rfl g) fun _=>Ab (Rd.isSl hv7) (Ab (Rd.isSl hv8) (Aa (fun g=>absurd (by rw[Rd.lenS hv7,Rd.lenS hv8]) g) fun _=>?_))
  refine loop _ _ _ hv7 hv8 ?_
  unfold Ex
  rw[if_neg ho]
  exact Nat.zero_le _
end
section
theorem SlS.kids {v:TV} (h:SlS 5 (fun tv=>∃nd,NdC nd tv) v):∃ks xs,Rd 5 v ks.length xs/\AT ks xs:=by
 rcases h with rfl | ⟨cks,rfl,h⟩
 ·exact⟨[],[],.inl ⟨rfl,rfl,rfl⟩,by unfold AT;rfl⟩
 ·have:∃ks:List Nd,ks.length=cks.length/\AT ks cks.flatten:=by
   induction cks with
   | nil=>exact⟨[],rfl,by unfold AT;rfl⟩
   | cons c r ih=>
    obtain⟨ks,h1,h2⟩:=ih (fun ck hk=>h ck (.tail _ hk))
    obtain⟨_,nd,hn⟩:=h c (.head _)
    exact⟨nd::ks,by simp[h1],by unfold AT;exact⟨c,_,by simp,hn,h2⟩⟩
  obtain⟨ks,h1,h2⟩:=this
  exact⟨ks,_,.inr ⟨.non,by rw[h1]⟩,h2⟩
def nodeS:List (List TV->Prop):=[flatIs [.int .i64],flatIs [.str],flatIs [.str],fun tv=>∃v,tv=[v]/\SlS 5 (fun tv=>∃nd,NdC nd tv) v,flatIs [.str]]
theorem each_node {tv:List TV} (h:Vn nodeS tv):∃nd,NdC nd tv:=by
 obtain⟨_,_,rfl,⟨k,_,h1,_,_⟩,_,_,rfl,⟨l,_,h2,_,_⟩,_,_,rfl,⟨t,_,h3,_,_⟩,_,_,rfl,⟨v,h4,hs⟩,_,_,rfl,⟨tl,_,h5,_,_⟩,rfl⟩:=h
 simp only[List.cons.injEq]at h1 h2 h3 h4 h5
 obtain⟨rfl,_⟩:=h1
 obtain⟨rfl,_⟩:=h2
 obtain⟨rfl,_⟩:=h3
 obtain⟨rfl,_⟩:=h4
 obtain⟨rfl,_⟩:=h5
 obtain⟨ks,xs,h6,h7⟩:=hs.kids
 exact⟨.mk k l t ks tl,by unfold NdC;exact⟨_,xs,rfl,h6,h7⟩⟩
def IsNode (v:TV):Prop:=∃nd cs,v= .agg cs/\NdC nd cs
section
variable {H:Type} {enc:TypeId×Value->H} {P:Program} {w:World} {base b0:Nat} {held:Bool}
theorem open_node {t:TypeId} {fs:Array Field} {v:Value} {d:DataW H} {p:List MemPlace} (ht:P.underlying t=some (.struct fs)) (hop:∀n,Op enc P w base held n 5 (fun tv=>∃nd,NdC nd tv) t)
  (hval:Value.okWide P w .any b0 t v) (h:DataW.Trod enc P w base (fun _=>true) held t v d p):∃tv,Rel (Ghost.start w) w tv v/\IsNode tv:=by
 simp only[Value.okWide,ht]at hval
 obtain⟨vs,rfl,_,_⟩:=hval
 obtain⟨n,hn⟩:=h
 obtain⟨cs,hr,_,nd,hnd⟩:=(hop n).2 _ _ hn
 have:=Rel.agg cs vs.toList hr.1 hr.2
 rw[Array.toArray_toList]at this
 exact⟨_,this,nd,cs,rfl,hnd⟩
end
end
end Go.TVF
