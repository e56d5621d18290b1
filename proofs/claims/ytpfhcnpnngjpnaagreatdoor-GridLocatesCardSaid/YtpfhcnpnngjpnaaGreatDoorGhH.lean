/- What the laws below rest on: a framework for Go programs, and contracts of the functions that they reach. -/
import Derived.Test.YtpfhcnpnngjpnaaGreatDoorGhG
set_option maxRecDepth 20000
set_option linter.unusedVariables false
set_option linter.unusedSimpArgs false
namespace Go.TVF
open Go.IntKind(i64 u8)
open Go Go.Proofs
section
def RSD (x:Cx) (hd ty:Bool) (l2 l3 l4:Int) (s:B8) (a q:Int) (h t:Bool) (m0 m1 m2 m3 m4:Int):Prop:=x.s=s/\x.a=a/\x.q=q/\hd=h/\ty=t/\x.dep=m0/\x.nod=m1/\l2=m2/\l3=m3/\l4=m4
theorem RSD.refl (x:Cx) (hd ty:Bool) (l2 l3 l4:Int):RSD x hd ty l2 l3 l4 x.s x.a x.q hd ty x.dep x.nod l2 l3 l4:=⟨rfl,rfl,rfl,rfl,rfl,rfl,rfl,rfl,rfl,rfl⟩
def RZ {α:Type} (E:Except (Nat×Int) α) (off err:Int):Prop:=err≠0/\∃o:Nat,off=(o:Int)/\E= .error (o,err)
theorem LV {dep nod d:Int} {i:Nat} {v:Int} {o:Nat} {c:Int} (h:EB dep nod d i v= .error (o,c)):c≠0:=by
 unfold EB at h
 split at h
 ·cases h;decide
 split at h
 ·cases h;decide
 ·cases h
theorem QJ {a q:Int} {s:B8} {i o:Nat} {c:Int} (h:Bt a q s i= .error (o,c)):c≠0:=by
 unfold Bt at h
 split at h<;>split at h<;>cases h<;>decide
theorem strs_ld {v:TV} {L:List B8} (h:Rd 1 v L.length (L.map TV.str)) (st:St) {i:Nat} {t:B8} (ht:L[i]? =some t):Ac st [] (.t (ixT 1 v i)) 0=some (.str t):=
 h.ldx st i 0 (by rw[Nat.mul_one,Nat.add_zero,List.getElem?_map,ht];rfl)
theorem WX {b:Bool} {H A X:Prop} (t:H->X) (h1:b=true->(H->X)->A) (h2:b=false->H):BIf b A X:=Ak (fun q=>h1 q t) fun q=>t (h2 q)
theorem X9 {a:Int} {s:B8} {i o:Nat} {c:Int} (h:WI a s i= .error (o,c)):c≠0/\by_ s i≠a/\Ch s i= .error (o,c):=by
 unfold WI at h
 split at h
 ·rename_i hc
  split at h
  ·cases h
  ·rename_i e he
   cases h
   refine⟨?_,hc.2,he⟩
   rcases MF he with h | h<;>rw[h.2]<;>decide
 ·cases h
def Vt:TV->Option Nat
 | .list _ (.own id) _ _=>some id
 | _=>none
def JW (u v:TV):Prop:=∀id,Vt u=some id->Vt v≠some id
theorem JW.symm {u v:TV} (h:JW u v):JW v u:=fun id h1 h2=>h id h2 h1
theorem Own.tip_lt {b sz:Nat} {st:St} {v:TV} {n:Nat} {xs:List TV} (h:Own b sz st v n xs) {id:Nat} (hi:Vt v=some id):id<st.nt:=by
 rcases h with⟨rfl,_⟩ | ⟨tip,rfl,rfl | ⟨id',rfl,h1,h2,h3⟩⟩
 ·cases hi
 ·cases hi
 ·cases hi;exact h2
theorem Own.keep {b sz:Nat} {st st':St} {v:TV} {n:Nat} {xs:List TV} (h:Own b sz st v n xs) (hn:st.nt<=st'.nt) (hl:∀id,Vt v=some id->st'.live id=st.live id):Own b sz st' v n xs:=by
 rcases h with h | ⟨tip,rfl,rfl | ⟨id,rfl,h1,h2,h3⟩⟩
 ·exact .inl h
 ·exact .inr ⟨_,rfl,.inl rfl⟩
 ·exact .inr ⟨_,rfl,.inr ⟨id,rfl,h1,by omega,by rw[hl id rfl];exact h3⟩⟩
theorem LX {T sz sz2 bytes:Nat} {st0 st:St} {v u:TV} {n k n2:Nat} {xs ys ys2:List TV} {K:TV->St->Prop} (e:Aq st0 st) (h:Own st0.nt sz st v n xs) (hu:Own st0.nt sz2 st u n2 ys2) (ha:JW v u) (hby:(n+k)*bytes<=140737488355328) (hys:k=0->ys=[])
  (hK:∀v' st',Aq st0 st'->st'.box=st.box->Own st0.nt sz st' v' (n+k) (xs++ys)->Own st0.nt sz2 st' u n2 ys2->JW v' u->K v' st'):AV T sz bytes v k ys st K:=by
 have fr:∀T,Own st0.nt sz2 (st.fresh T) u n2 ys2:=fun T=>hu.ext ((Aq.refl st).fresh T)
 have ap:∀m l,JW (.list sz (.own st.nt) m l) u:=fun m l id h1 h2=>by cases h1;have:=hu.tip_lt h2;omega
 rcases h with⟨rfl,rfl,rfl⟩ | ⟨tip,rfl,ht⟩
 ·simp only[AV]
  cases k with
  | zero=>rw[hys rfl]at hK;exact hK _ _ e rfl (.nil _ _ _) hu ha
  | succ m=>
   simp only[Au]
   refine⟨by simpa using hby,hK _ _ (e.fresh _) rfl ?_ (fr _) (ap _ _)⟩
   simp only[List.nil_append,Nat.zero_add]
   exact Own.fresh _ _ e.nt
 ·simp only[AV,Nat.beq_refl]
  refine⟨hby,?_⟩
  rcases ht with rfl | ⟨id,rfl,h1,h2,h3⟩
  ·cases k with
   | zero=>rw[hys rfl]at hK;simp only[List.append_nil]at hK;exact hK _ _ e rfl (Own.full _ _ _ _ _) hu ha
   | succ m=>exact hK _ _ (e.fresh _) rfl (Own.fresh _ _ e.nt) (fr _) (ap _ _)
  ·refine⟨h3,hK _ _ ((e.retire h1).fresh _) rfl (Own.fresh (st:=st.retire id) _ _ e.nt) (hu.keep (Nat.le_succ _) fun id' h'=>?_) (ap _ _)⟩
   have hne:id'≠id:=fun h=>ha id rfl (by rw[<-h];exact h')
   have hlt:=hu.tip_lt h'
   simp only[St.fresh,St.retire]
   rw[if_neg hne]
   exact if_neg (by omega)
section
variable {x:Cx} {hd ty:Bool} {l2 l3 l4:Int} {st:St}
theorem TU {header num:Bool} {I off v many wid:Int} {i:Nat} {ns:List B8} (hI:I=(i:Int)) (hi:i<=x.s.length) (hl:x.s.length<=2000000) (hv0:0<=v) (hv:v<=100000000)
  (hm:many=if num then wid else 0) (hw:num=true->1<=wid) (hns:header=true->ns=[])
  {K:B8->Int->Int->Bool->Bool->Int->Int->Int->Int->Int->Int->Int->Int->Int->Int->B8->B8->TV->B8->Int->St->Prop}
  (h0:∀(k:Nat) v1 ns1 r w1 off1 kv tl st',FJ x num wid header i v ns= .ok (k,v1,ns1,r,w1)->Aq st st'->NdC r [.int .i64 8,.str [],.str [],kv,.str tl]->K x.s x.a x.q hd ty x.dep x.nod l2 l3 l4 k v1 off1 0 8 [] [] kv tl w1 st')
  (h1:∀(o:Nat) e (k v1:Int) r kv tl st',FJ x num wid header i v ns= .error (o,e)->e≠0->Aq st st'->NdC r [.int .i64 8,.str [],.str [],kv,.str tl]->K x.s x.a x.q hd ty x.dep x.nod l2 l3 l4 k v1 o e 8 [] [] kv tl 0 st'):
  CallT PR BC [rst x.s x.a x.q hd ty x.dep x.nod l2 l3 l4 I v off 0,.int .i64 many,.bool header] [rsh,.agg [.int .i64,.str,.str,.tv,.str],.one (.int .i64)] st K:=by
 subst hI
 have tn:∀k:Nat,Int.toNat (k:Int)=k:=fun k=>rfl
 have w1:∀k:Nat,k<=x.s.length+2->i64.wrap ((k:Int)+1)=((k+1:Nat):Int):=fun k hk=>by rw[Ah _ (by omega) (by omega)];omega
 generalize hD:FJ x num wid header i v ns=D0 at h0 h1
 rw[FI]at hD
 refine HO x.s x.a x.q hd ty x.dep x.nod l2 l3 l4 i v off 0 many header st K ⟨fun mn hh nm s a q b1 b2 m0 m1 m2 m3 m4 at_ v' off' err kd le tx kv tl st'=>RSD x hd ty l2 l3 l4 s a q b1 b2 m0 m1 m2 m3 m4/\many=mn/\header=hh/\TV.nilSlice=nm/\8=kd/\[]=le/\[]=tx/\TV.nilSlice=kv/\[]=tl/\st=st'/\(i:Int)=at_/\
   ((err=0/\v<=v'/\v'<=v+1/\GY x.s num wid (BX x num wid header (x.s.length+1) [] i v' ns)=D0)∨RZ D0 off' err),Ak (fun hh=>?_) (fun hh=>?_),?_⟩
 ·have hh:header=false:=by simpa using hh
  rw[if_neg (by rw[hh];decide)]at hD
  refine Mr rfl (by omega) hv0 (fun v' hb=>?_) fun o e hb=>?_
  ·rw[hb]at hD
   have:=NV hb
   exact⟨RSD.refl ..,rfl,rfl,rfl,rfl,rfl,rfl,rfl,rfl,rfl,rfl,.inl ⟨rfl,by omega,by omega,hD⟩⟩
  ·rw[hb]at hD
   exact⟨RSD.refl ..,rfl,rfl,rfl,rfl,rfl,rfl,rfl,rfl,rfl,rfl,.inr ⟨LV hb,o,rfl,hD.symm⟩⟩
 ·have hh:header=true:=by simpa using hh
  rw[if_pos hh]at hD
  exact⟨RSD.refl ..,rfl,rfl,rfl,rfl,rfl,rfl,rfl,rfl,rfl,rfl,.inl ⟨rfl,by omega,by omega,hD⟩⟩
 clear hD
 rintro _ _ _ _ _ _ _ _ _ _ _ _ _ _ v1 off1 err1 _ _ _ _ _ _ ⟨⟨rfl,rfl,rfl,rfl,rfl,rfl,rfl,rfl,rfl,rfl⟩,rfl,rfl,rfl,rfl,rfl,rfl,rfl,rfl,rfl,rfl,hS⟩
 refine⟨fun nm k mn hh s a q b1 b2 m0 m1 m2 m3 m4 at_ v' off' err kd le tx kv tl st'=>RSD x hd ty l2 l3 l4 s a q b1 b2 m0 m1 m2 m3 m4/\many=mn/\header=hh/\8=kd/\[]=le/\[]=tx/\[]=tl/\Aq st st'/\
   ∃(j n:Nat) (acc:List Nd) (L nsL:List B8) (xs:List TV),at_=(j:Int)/\j<=x.s.length/\k=(acc.length:Int)/\L.length=acc.length/\acc.length<=j/\(num=true->(acc.length:Int)<=wid)/\Own st.nt 1 st' nm L.length (L.map TV.str)/\Own st.nt 5 st' kv acc.length xs/\JW nm kv/\AU acc xs/\
    ((err=0/\x.s.length<j+n/\0<=v'/\v'<=v+1+j/\(header=true->nsL=L.reverse)/\GY x.s num wid (BX x num wid header n acc j v' nsL)=D0)∨RZ D0 off' err),
  fun _ _ _ _ _ _ _ _ _ _ _ _ _ _ at_ _ _ _ _ _ _ _ _ _=>(x.s.length-at_).toNat,?_,?_⟩
 ·refine⟨RSD.refl ..,rfl,rfl,rfl,rfl,rfl,rfl,Aq.refl _,i,x.s.length+1,[],[],ns,[],rfl,hi,rfl,rfl,by simp,fun hn=>(by have:=hw hn;simp;omega),Own.nil _ _ _,Own.nil _ _ _,(fun _ h=>by cases h),AU.nil,?_⟩
  rcases hS with⟨h,h2,h3,h4⟩ | h
  ·exact .inl ⟨h,by omega,by omega,by omega,fun hh=>by rw[hns hh];rfl,h4⟩
  ·exact .inr h
 rintro nm _ _ _ _ _ _ _ _ _ _ _ _ _ _ v2 off2 err2 _ _ _ kv _ st3 ⟨⟨rfl,rfl,rfl,rfl,rfl,rfl,rfl,rfl,rfl,rfl⟩,rfl,rfl,rfl,rfl,rfl,rfl,e3,j,n,acc,L,nsL,xs,rfl,hj,rfl,hL,hac,hac2,oN,oK,hap,hx,hS2⟩
 have ndc:∀kv st' acc xs,Own st.nt 5 st' kv acc.length xs->AU acc xs->NdC (.mk 8 [] [] acc []) [.int .i64 8,.str [],.str [],kv,.str []]:=fun kv st' acc xs o h=>by unfold NdC;exact⟨kv,xs,rfl,o.rd,h⟩
 refine Aa (fun q0=>?_) fun q0=>?_
 case' refine_2=>
  rcases hS2 with⟨h,_⟩ | ⟨h,o,rfl,hE⟩
  ·exact absurd h q0
  ·exact Ab (Co oK.rd.one) (h1 _ _ _ _ _ _ _ _ hE h e3 (ndc _ _ _ _ oK hx))
 subst q0
 obtain⟨hjn,hv2,hv3,hnL,hE⟩:x.s.length<j+n/\0<=v2/\v2<=v+1+j/\(header=true->nsL=L.reverse)/\GY x.s num wid (BX x num wid header n acc j v2 nsL)=D0:=by
  rcases hS2 with⟨_,h⟩ | ⟨h,_⟩
  ·exact h
  ·exact absurd rfl h
 clear hS2 hS
 cases n with
 | zero=>omega
 | succ n=>
 rw[Mq]at hE
 refine Pq (H:=¬(num=true/\wid<=(acc.length:Int))) (fun hnw=>?_) (fun q t=>Aa (fun q2=>?_) fun q2=>t ?_) (fun q=>?_)
 ·rw[if_neg hnw]at hE
  generalize hEe:Ei x header j v2 nsL=E at hE
  rw[NR]at hEe
  refine⟨fun mn hh nm' k fr s a q b1 b2 m0 m1 m2 m3 m4 at_ v' off' err kd le tx kv' tl st'=>RSD x hd ty l2 l3 l4 s a q b1 b2 m0 m1 m2 m3 m4/\many=mn/\header=hh/\nm=nm'/\(acc.length:Int)=k/\(j:Int)=fr/\8=kd/\[]=le/\[]=tx/\kv=kv'/\[]=tl/\st3=st'/\(j:Int)=at_/\
    ((err=0/\v2<=v'/\v'<=v2+1/\PQ x header j v' nsL=E)∨RZ E off' err),Ak (fun hh=>?_) (fun hh=>?_),?_⟩
  ·have hh:header=false:=by simpa using hh
   rw[if_neg (by rw[hh];decide)]at hEe
   refine Mr rfl (by omega) hv2 (fun v' hb=>?_) fun o e hb=>?_
   ·rw[hb]at hEe
    have:=NV hb
    exact⟨RSD.refl ..,rfl,rfl,rfl,rfl,rfl,rfl,rfl,rfl,rfl,rfl,rfl,rfl,.inl ⟨rfl,by omega,by omega,hEe⟩⟩
   ·rw[hb]at hEe
    exact⟨RSD.refl ..,rfl,rfl,rfl,rfl,rfl,rfl,rfl,rfl,rfl,rfl,rfl,rfl,.inr ⟨LV hb,o,rfl,hEe.symm⟩⟩
  ·have hh:header=true:=by simpa using hh
   rw[if_pos hh]at hEe
   exact⟨RSD.refl ..,rfl,rfl,rfl,rfl,rfl,rfl,rfl,rfl,rfl,rfl,rfl,rfl,.inl ⟨rfl,by omega,by omega,hEe⟩⟩
  clear hEe
  rintro _ _ _ _ _ _ _ _ _ _ _ _ _ _ _ _ v3 off3 err3 _ _ _ _ _ _ ⟨⟨rfl,rfl,rfl,rfl,rfl,rfl,rfl,rfl,rfl,rfl⟩,rfl,rfl,rfl,rfl,rfl,rfl,rfl,rfl,rfl,rfl,rfl,rfl,hS3⟩
  --behind the cell
  refine Xr rfl hj hl (fun kk hc hk1 hk2=>?_) fun o cc kk hc hkk=>?_
  case' refine_1=>
   have hW:=NT hj hc
   have hcl:(slc x.s j kk).length<=x.s.length:=by rw[J2 hk1 hk2];omega
   have hkk:kk<=x.s.length:=hk2
   have hS4:(err3=0/\v2<=v3/\v3<=v2+1/\j<=kk/\slc x.s j kk=slc x.s j kk/\(if (if header then 1024 else 65536)<(txt x.q (slc x.s j kk)).length then .error (j,10)else if header=true/\txt x.q (slc x.s j kk)∈nsL then .error (j,8)else .ok (kk,v3,if header then txt x.q (slc x.s j kk)::nsL else nsL))=E)∨RZ E off3 err3:=by
    rcases hS3 with⟨h,h2,h3,h4⟩ | h
    ·refine .inl ⟨h,h2,h3,hk1,rfl,?_⟩
     unfold PQ at h4
     rw[hc]at h4
     exact h4
    ·exact .inr h
   generalize off3=off4 at hS4⊢
   generalize err3=err4 at hS4⊢
  case' refine_2=>
   have hW:JU x.q []:= .inl rfl
   have hcl:([]:B8).length<=x.s.length:=by simp
   have hS4:((if err3=0 then cc else err3)=0/\v2<=v3/\v3<=v2+1/\j<=kk/\slc x.s j kk=[]/\(if (if header then 1024 else 65536)<(txt x.q []).length then .error (j,10)else if header=true/\txt x.q []∈nsL then .error (j,8)else .ok (kk,v3,if header then txt x.q []::nsL else nsL))=E)∨RZ E (if err3=0 then(o:Int)else off3) (if err3=0 then cc else err3):=by
    right
    rcases hS3 with⟨h,h2,h3,h4⟩ | ⟨h,o',h2,h3⟩
    ·rw[if_pos h,if_pos h]
     unfold PQ at h4
     rw[hc]at h4
     exact⟨QJ hc,o,rfl,h4.symm⟩
    ·rw[if_neg h,if_neg h];exact⟨h,o',h2,h3⟩
   generalize (if err3=0 then(o:Int)else off3)=off4 at hS4⊢
   generalize (if err3=0 then cc else err3)=err4 at hS4⊢
  all_goals
   clear hS3
   refine Mn hW (by omega) ?_
   refine⟨fun mn hh nm' k fr c' t' s a q b1 b2 m0 m1 m2 m3 m4 at_ v' off' err kd le tx kv' tl st'=>RSD x hd ty l2 l3 l4 s a q b1 b2 m0 m1 m2 m3 m4/\many=mn/\header=hh/\nm=nm'/\(acc.length:Int)=k/\(j:Int)=fr/\8=kd/\[]=le/\[]=tx/\kv=kv'/\[]=tl/\st3=st'/\
     ∃kk:Nat,at_=(kk:Int)/\kk<=x.s.length/\((err=0/\v2<=v'/\v'<=v2+1/\j<=kk/\slc x.s j kk=c'/\(if header=true/\t'∈nsL then .error (j,8)else .ok (kk,v',if header then t'::nsL else nsL))=E)∨RZ E off' err),?_,?_⟩
   ·refine Ak (fun hh=>Aa (fun g=>?_) fun g=>Aa (fun g2=>absurd g2 (by omega)) fun g2=>?_) (fun hh=>Aa (fun g=>?_) fun g=>?_)
    all_goals first
     | (refine Ee (fun h=>⟨RSD.refl ..,rfl,rfl,rfl,rfl,rfl,rfl,rfl,rfl,rfl,rfl,rfl,kk,rfl,hkk,.inr ?_⟩) (fun h=>⟨RSD.refl ..,rfl,rfl,rfl,rfl,rfl,rfl,rfl,rfl,rfl,rfl,rfl,kk,rfl,hkk,.inr ?_⟩)
        ·rcases hS4 with⟨_,_,_,_,_,h6⟩ | h6
         ·rw[if_pos (by rw[hh];simp;omega)]at h6
          exact⟨by decide,j,rfl,h6.symm⟩
         ·exact absurd h h6.1
        ·rcases hS4 with⟨h6,_⟩ | h6
         ·exact absurd h6 h
         ·exact h6)
     | (refine⟨RSD.refl ..,rfl,rfl,rfl,rfl,rfl,rfl,rfl,rfl,rfl,rfl,rfl,kk,rfl,hkk,?_⟩
        rcases hS4 with⟨h6,h7,h8,h9,h10,h11⟩ | h6
        ·rw[if_neg (by rw[hh];simp;omega)]at h11
         exact .inl ⟨h6,h7,h8,h9,h10,h11⟩
        ·exact .inr h6)
   clear hS4 hkk hW hcl
   rintro _ _ _ _ _ cs ts _ _ _ _ _ _ _ _ _ _ _ v4 off5 err5 _ _ _ _ _ _ ⟨⟨rfl,rfl,rfl,rfl,rfl,rfl,rfl,rfl,rfl,rfl⟩,rfl,rfl,rfl,rfl,rfl,rfl,rfl,rfl,rfl,rfl,rfl,k5,rfl,hk5,hS5⟩
   refine⟨fun mm mn hh nm' k fr c' t' s a q b1 b2 m0 m1 m2 m3 m4 at_ v' off' err kd le tx kv' tl st'=>RSD x hd ty l2 l3 l4 s a q b1 b2 m0 m1 m2 m3 m4/\many=mn/\header=hh/\nm=nm'/\(acc.length:Int)=k/\(j:Int)=fr/\8=kd/\[]=le/\[]=tx/\kv=kv'/\[]=tl/\st3=st'/\(k5:Int)=at_/\cs=c'/\ts=t'/\v4=v'/\
     ∃mi:Nat,mm=(mi:Int)/\mi<=L.length/\((err=0/\v2<=v'/\v'<=v2+1/\j<=k5/\slc x.s j k5=c'/\(header=true->ts∉L.take mi)/\(if header=true/\t'∈nsL then .error (j,8)else .ok (k5,v',if header then t'::nsL else nsL))=E)∨RZ E off' err),
    fun mm _ _ _ _ _ _ _ _ _ _ _ _ _ _ _ _ _ _ _ _ _ _ _ _ _ _ _=>(L.length-mm).toNat,⟨RSD.refl ..,rfl,rfl,rfl,rfl,rfl,rfl,rfl,rfl,rfl,rfl,rfl,rfl,rfl,rfl,rfl,0,rfl,by omega,?_⟩,?_⟩
   ·rcases hS5 with⟨h6,h7,h8,h9,h10,h11⟩ | h6
    ·exact .inl ⟨h6,h7,h8,h9,h10,by simp,h11⟩
    ·exact .inr h6
   clear hS5
   rintro _ _ _ _ _ _ _ _ _ _ _ _ _ _ _ _ _ _ _ _ off6 err6 _ _ _ _ _ _ ⟨⟨rfl,rfl,rfl,rfl,rfl,rfl,rfl,rfl,rfl,rfl⟩,rfl,rfl,rfl,rfl,rfl,rfl,rfl,rfl,rfl,rfl,rfl,rfl,rfl,rfl,rfl,mi,rfl,hmi,hS6⟩
   refine WX (H:=(err6=0/\v2<=v4/\v4<=v2+1/\j<=k5/\slc x.s j k5=cs/\.ok (k5,v4,if header then ts::nsL else nsL)=E)∨RZ E off6 err6) (fun hS7=>?_) (fun hh t=>?_) (fun hh=>?_)
   ·clear hS6
    refine LX e3 oN oK hap (by omega) (fun h=>by cases h) fun v6 st15 e15 hbx o15 oK15 hap15=>?_
    have hLl:(L++[ts]).length=acc.length+1:=by simp[hL]
    refine Ri rfl hk5 hl (fun hf=>?_) fun o cc hf=>?_
    ·refine Aa (fun q=>?_) fun q=>?_
     ·rcases hS7 with⟨h,_⟩ | ⟨h,o,rfl,hE7⟩
      ·exact absurd h q
      ·rw[hE7]at hE
       exact Ab (Co oK.rd.one) (h1 _ _ _ _ _ _ _ _ hE.symm h e15 (ndc _ _ _ _ oK hx))
     rcases hS7 with⟨h6,h7,h8,h9,h10,h11⟩ | h7
     case' inr=>exact absurd h7.1 q
     subst h6
     rw[<-h11]at hE
     simp only at hE
     have hlen:(acc++[G9 x j k5]).length=acc.length+1:=by simp
     refine Pq (H:=¬(k5<x.s.length/\by_ x.s k5=x.a)) (fun hmk=>?_) (fun q1 t=>⟨⟨by omega,by omega⟩,Aa (fun q2=>?_) fun q2=>t fun h=>q2 h.2⟩) (fun q h=>q (by omega))
     ·rw[if_neg hmk]at hE
      obtain⟨n7,hn7⟩:∃n7,Ch x.s k5= .ok n7:=by
       unfold WI at hf
       by_cases hc:k5<x.s.length/\by_ x.s k5≠x.a
       ·rw[if_pos hc]at hf
        cases hle:Ch x.s k5 with
        | ok n7=>exact⟨n7,rfl⟩
        | error e=>rw[hle]at hf;cases hf
       ·refine⟨0,?_⟩
        unfold Ch
        rw[if_pos]
        apply Decidable.byContradiction
        intro hlt
        exact hmk ⟨by omega,Decidable.byContradiction fun hb=>hc ⟨by omega,hb⟩⟩
      rw[hn7]at hE
      simp only[GY,hn7]at hE
      rw[hlen]at hE
      have hle:=En hk5 hn7
      have hent:G9 x j k5=JI x.s j k5 []:=by unfold G9;rw[if_neg hmk]
      have hcE:NdC (G9 x j k5) [.int .i64 5,.str [],.str [],.list 5 .full 1 [.int .i64 2,.str [],.str cs,.nilSlice,.str []],.str []]:=by
       rw[hent];exact NdC.ent1 (by rw[h10];exact .inr ⟨_,rfl⟩)
      refine Bz e15 rfl oK15 (by omega) (fun h=>by cases h) fun v9 st19 e19 hbx9 o19=>Ab (GD o19.rd.one) ?_
      have hx9:=hx.append (AU.one hcE)
      have hnd:∀tl,NdC (.mk 8 [] [] (acc++[G9 x j k5]) tl) [.int .i64 8,.str [],.str [],v9,.str tl]:=fun tl=>by unfold NdC;exact⟨v9,_,rfl,by rw[hlen];exact o19.rd,hx9⟩
      rw[w1 acc.length (by omega)]
      refine Aa (fun q8=>?_) fun q8=>?_
      ·have hn:num=true:=by cases hb:num with | true=>rfl | false=>rw[hb]at hm;simp at hm;omega
       rw[hn,if_pos rfl]at hm
       rw[hn,if_pos rfl,if_pos (by omega)]at hE
       exact Ee (fun _=>Ab (Co o19.rd.one) (h1 _ _ _ _ _ _ _ _ hE.symm (by decide) e19 (hnd _))) fun h=>absurd rfl h
      ·have hE2: .ok (k5+n7,v4,if header=true then ts::nsL else nsL,Nd.mk 8 [] [] (acc++[G9 x j k5]) (slc x.s k5 (k5+n7)),((acc.length+1:Nat):Int))=D0:=by
        cases hb:num with
        | true=>
         rw[hb,if_pos rfl]at hm
         rw[hb,if_pos rfl,if_neg (by omega)]at hE
         rw[<-hE]
         have hnw':¬wid<=(acc.length:Int):=fun h=>hnw ⟨hb,h⟩
         have:wid=((acc.length+1:Nat):Int):=by omega
         rw[this]
        | false=>
         rw[hb,if_neg (by simp)]at hE
         rw[<-hE]
         rfl
       refine VK rfl hk5 hl ?_
       rw[hn7]
       have w2:i64.wrap ((k5:Int)+((n7:Nat):Int))=((k5+n7:Nat):Int):=by rw[Ah _ (by omega) (by omega)];omega
       simp only[w2]
       exact⟨⟨by omega,by omega,by omega⟩,Ab (Co o19.rd.one) (h0 _ _ _ _ _ _ _ _ _ hE2.symm e19 (hnd _))⟩
     ·rw[if_pos ⟨by omega,q2⟩]at hE
      rw[w1 k5 (by omega),w1 acc.length (by omega)]
      have hent:G9 x j k5=JI x.s j k5 [.mk 11 [] [x.s.getD k5 0] [] []]:=by unfold G9;rw[if_pos ⟨by omega,q2⟩]
      refine⟨⟨by omega,by omega,by omega⟩,?_⟩
      rw[tn,tn,show List.drop k5 (List.take (k5+1) x.s)=[x.s.getD k5 0]from Q9 (by omega)]
      refine Bz (Aq.refl st15) rfl (Own.full _ _ _ _ _) (by omega) (fun h=>by cases h) fun v7 st17 e17 hbx7 o17=>Ab (GD o17.rd.one) (Ab (Co o17.rd.one) ?_)
      have hcE:NdC (G9 x j k5) [.int .i64 5,.str [],.str [],v7,.str []]:=by
       rw[hent];exact NdC.ent2 (by rw[h10];exact o17.rd)
      refine LX (e15.trans e17) (oK15.ext e17) (o15.ext e17) hap15.symm (by omega) (fun h=>by cases h) fun v8 st18 e18 hbx8 o18 oN18 hap18=>Ab (GD o18.rd.one) ?_
      refine⟨⟨RSD.refl ..,rfl,rfl,rfl,rfl,rfl,rfl,e18,k5+1,n,acc++[G9 x j k5],L++[ts],if header then ts::nsL else nsL,_,rfl,by omega,by rw[hlen],by rw[hlen,hLl],by rw[hlen];omega,fun hn=>?_,by rw[hLl,List.map_append,<-hL];exact oN18,by rw[hlen];exact o18,hap18.symm,hx.append (AU.one hcE),.inl ⟨rfl,by omega,by omega,by omega,fun hh=>?_,hE⟩⟩,by dsimp only;omega⟩
      ·have:¬wid<=(acc.length:Int):=fun h=>hnw ⟨hn,h⟩
       rw[hlen];omega
      ·rw[hh,if_pos rfl,hnL hh];simp
    ·have hce:=X9 hf
     refine Aa (fun q=>?_) fun q=>?_
     ·by_cases h0':err6=0
      ·rw[if_pos h0',if_pos h0']
       rcases hS7 with⟨h6,h7,h8,h9,h10,h11⟩ | h7
       case' inr=>exact absurd h0' h7.1
       rw[<-h11]at hE
       simp only at hE
       rw[if_neg (fun h=>hce.2.1 h.2),hce.2.2]at hE
       exact Ab (Co oK.rd.one) (h1 _ _ _ _ _ _ _ _ hE.symm hce.1 e15 (ndc _ _ _ _ oK hx))
      ·rw[if_neg h0',if_neg h0']
       rcases hS7 with⟨h,_⟩ | ⟨h,o,rfl,hE7⟩
       ·exact absurd h h0'
       ·rw[hE7]at hE
        exact Ab (Co oK.rd.one) (h1 _ _ _ _ _ _ _ _ hE.symm h e15 (ndc _ _ _ _ oK hx))
     ·exfalso
      apply q
      by_cases h0':err6=0
      ·rw[if_pos h0'];exact hce.1
      ·rw[if_neg h0'];exact h0'
   ·refine Ab oN.rd.isSl ?_
    rw[oN.rd.lenS,oN.rd.lenZ,tn]
    refine Aa (fun q=>?_) fun q=>t ?_
    ·have hlt:mi<L.length:=by omega
     have hget:=List.getElem?_eq_getElem hlt
     generalize L[mi]=tm at hget
     refine⟨⟨by omega,by omega⟩,Ad (strs_ld oN.rd st3 hget) (Am ?_)⟩
     rw[w1 mi (by omega)]
     refine Aa (fun q2=>?_) fun q2=>?_
     ·subst q2
      refine Ee (fun h=>⟨⟨RSD.refl ..,rfl,rfl,rfl,rfl,rfl,rfl,rfl,rfl,rfl,rfl,rfl,rfl,rfl,rfl,rfl,mi+1,rfl,by omega,.inr ?_⟩,by dsimp only;omega⟩) (fun h=>⟨⟨RSD.refl ..,rfl,rfl,rfl,rfl,rfl,rfl,rfl,rfl,rfl,rfl,rfl,rfl,rfl,rfl,rfl,mi+1,rfl,by omega,.inr ?_⟩,by dsimp only;omega⟩)
      ·rcases hS6 with⟨_,_,_,_,_,_,h6⟩ | h6
       ·rw[if_pos ⟨hh,by rw[hnL hh];simpa using List.mem_of_getElem? hget⟩]at h6
        exact⟨by decide,j,rfl,h6.symm⟩
       ·exact absurd h h6.1
      ·rcases hS6 with⟨h6,_⟩ | h6
       ·exact absurd h6 h
       ·exact h6
     ·refine⟨⟨RSD.refl ..,rfl,rfl,rfl,rfl,rfl,rfl,rfl,rfl,rfl,rfl,rfl,rfl,rfl,rfl,rfl,mi+1,rfl,by omega,?_⟩,by dsimp only;omega⟩
      rcases hS6 with⟨h6,h7,h8,h9,h10,h11,h12⟩ | h6
      ·refine .inl ⟨h6,h7,h8,h9,h10,fun hh=>?_,h12⟩
       rw[List.take_add_one,hget]
       simp only[Option.toList_some,List.mem_append,List.mem_singleton,not_or]
       exact⟨h11 hh,fun h=>q2 h.symm⟩
      ·exact .inr h6
    ·rcases hS6 with⟨h6,h7,h8,h9,h10,h11,h12⟩ | h6
     ·refine .inl ⟨h6,h7,h8,h9,h10,?_⟩
      have:=h11 hh
      rw[List.take_of_length_le (by omega)]at this
      rwa [if_neg (by rintro⟨_,h⟩;rw[hnL hh]at h;simp at h;exact this h)]at h12
     ·exact .inr h6
   ·rcases hS6 with⟨h6,h7,h8,h9,h10,h11,h12⟩ | h6
    ·exact .inl ⟨h6,h7,h8,h9,h10,by rwa [if_neg (by rintro⟨h,_⟩;rw[hh]at h;cases h)]at h12⟩
    ·exact .inr h6
 ·have hn:num=true:=by cases hb:num with | true=>rfl | false=>rw[hb]at hm;simp at hm;omega
  rw[hn,if_pos rfl]at hm
  rw[if_pos ⟨hn,by omega⟩]at hE
  exact Ee (fun _=>Ab (Co oK.rd.one) (h1 _ _ _ _ _ _ _ _ hE.symm (by decide) e3 (ndc _ _ _ _ oK hx))) fun h=>absurd rfl h
 ·rintro⟨hn,h⟩
  have:=hac2 hn
  rw[hn,if_pos rfl]at hm
  omega
 ·rintro⟨hn,_⟩
  rw[hn,if_pos rfl]at hm
  have:=hw hn;omega
end
end
section
section
variable {x:Cx} {hd ty:Bool} {l2 l3 l4:Int} {st:St}
theorem Wl {K:Int->B8->B8->TV->B8->Int->Int->St->Prop} (hl:x.s.length<=2000000)
  (hk:∀k kv st',Aq st st'->NdC (pN (AY x hd l2 l3 l4)) [.int .i64 k,.str [],.str [],kv,.str []]->K k [] [] kv [] (pO (AY x hd l2 l3 l4)) (pE (AY x hd l2 l3 l4)) st'):
  CallT PR CV [.str x.s,.agg [.int .u8 x.a,.int .u8 x.q,.bool hd,.bool ty],.agg [.int .i64 x.dep,.int .i64 x.nod,.int .i64 l2,.int .i64 l3,.int .i64 l4]] [.agg [.int .i64,.str,.str,.tv,.str],.one (.int .i64),.one (.int .i64)] st K:=by
 generalize hP:AY x hd l2 l3 l4=P at hk
 unfold AY at hP
 have hnil:NdC (.mk 0 [] [] [] []) [.int .i64 0,.str [],.str [],.nilSlice,.str []]:=by unfold NdC;exact⟨_,[],rfl,.inl ⟨rfl,rfl,rfl⟩,AU.nil⟩
 have bad:∀(o:Nat) (e:Int) st',P= .error (o,e)->Aq st st'->K 0 [] [] .nilSlice [] o e st':=fun o e st' h he=>by
  have:=hk 0 .nilSlice st' he (by rw[h];exact hnil)
  rwa [h]at this
 refine IH x.s x.a x.q hd ty x.dep x.nod l2 l3 l4 st K (T0 (Ak (fun g=>?_) fun g=>?_))
 ·have g:dOk x.a x.q=false:=by simpa using g
  rw[if_pos g]at hP
  exact bad _ _ st hP.symm (Aq.refl _)
 have g:dOk x.a x.q=true:=by simpa using g
 rw[if_neg (by rw[g];decide)]at hP
 refine HP x.s x.dep x.nod l2 l3 l4 st _ (TW (Ak (fun g=>?_) fun g=>?_))
 ·have g:lOk x.dep x.nod l2 l3 l4=false:=by simpa using g
  rw[if_pos g]at hP
  exact Aa (fun _=>bad 0 _ st hP.symm (Aq.refl _)) fun h=>absurd (by decide) h
 have glim:lOk x.dep x.nod l2 l3 l4=true:=by simpa using g
 rw[if_neg (by rw[glim];decide)]at hP
 refine Aa (fun g=>?_) fun g=>?_
 ·rw[if_pos g]at hP
  exact Aa (fun _=>bad 0 _ st hP.symm (Aq.refl _)) fun h=>absurd (by decide) h
 rw[if_neg g]at hP
 have hv:=Ld x.s
 refine rbad_ok hl fun st1 e1=>Aa (fun g=>?_) fun g=>?_
 ·rw[if_pos (by omega)]at hP
  exact Aa (fun _=>bad _ _ st1 hP.symm e1) fun h=>absurd (by decide) h
 rw[if_neg (by omega)]at hP
 refine Aa (fun h=>absurd rfl h) fun _=>?_
 have hbeg:EB x.dep x.nod 1 0 0= .ok 1:=by
  unfold lOk at glim
  have:=of_decide_eq_true glim
  unfold EB
  rw[if_neg (by omega),if_neg (by omega)];rfl
 refine Mr (k:=0) rfl (by decide) (by decide) (fun v' hb=>?_) fun o e hb=>by rw[hbeg]at hb;cases hb
 rw[hbeg]at hb
 cases hb
 refine⟨fun mn s' a' q' h' t' s a q b1 b2 m0 m1 m2 m3 m4 at_ v' off' err kd le tx kv tl st'=>x.s=s'/\x.a=a'/\x.q=q'/\hd=h'/\ty=t'/\RSD x hd ty l2 l3 l4 s a q b1 b2 m0 m1 m2 m3 m4/\1=kd/\[]=le/\[]=tx/\[]=tl/\Aq st st'/\
   ∃(acc:List Nd) (xs:List TV),Own st.nt 5 st' kv acc.length xs/\AU acc xs/\acc.length<=x.s.length+1/\
    ((err=0/\∃(j n:Nat) (w:Int) (ns:List B8),at_=(j:Int)/\j<=x.s.length/\x.s.length<j+n/\acc.length<=j/\0<=v'/\v'<=1+3*j/\mn=(if !acc.isEmpty then w else 0)/\((!acc.isEmpty)=true->1<=w)/\(acc=[]->ns=[])/\(match DX x hd n acc j v' ns w with | .error e=> .error e | .ok rs=> .ok (.mk 1 [] [] rs []))=P)∨RZ P off' err),
  fun _ _ _ _ _ _ _ _ _ _ _ _ _ _ _ _ at_ _ _ err _ _ _ _ _ _=>if err=0 then(x.s.length-at_).toNat+1 else 0,?_,?_⟩
 ·refine⟨rfl,rfl,rfl,rfl,rfl,RSD.refl ..,rfl,rfl,rfl,rfl,e1,[],[],Own.nil _ _ _,AU.nil,by simp,.inl ⟨rfl,0,x.s.length+1,0,[],rfl,by omega,by omega,by simp,by omega,by omega,rfl,fun h=>(by cases h),fun _=>rfl,hP⟩⟩
 rintro mn _ _ _ _ _ _ _ _ _ _ _ _ _ _ _ at3 v3 off3 err3 _ _ _ kv _ st3 ⟨rfl,rfl,rfl,rfl,rfl,⟨rfl,rfl,rfl,rfl,rfl,rfl,rfl,rfl,rfl,rfl⟩,rfl,rfl,rfl,rfl,e3,acc,xs,o3,hx,hlen,hS⟩
 refine Aa (fun q0=>?_) fun q0=>?_
 case' refine_2=>
  rcases hS with⟨h,_⟩ | ⟨h,o,rfl,hE⟩
  ·exact absurd h q0
  ·exact Aa (fun _=>bad _ _ st3 hE e3) fun h=>absurd q0 h
 subst q0
 rcases hS with⟨_,j,n,w,ns,rfl,hj,hjn,hac,hv0,hv1,hmn,hw,hns,hE⟩ | ⟨h,_⟩
 case' inr=>exact absurd rfl h
 cases n with
 | zero=>omega
 | succ n=>
 rw[MR]at hE
 refine Aa (fun q=>?_) fun q=>?_
 case' refine_2=>
  rw[if_pos (by omega)]at hE
  simp only at hE
  subst hE
  exact Aa (fun h=>absurd rfl h) fun _=>Ab (Co o3.rd.one) (hk 1 kv st3 e3 (by unfold pN NdC;exact⟨kv,xs,rfl,o3.rd,hx⟩))
 rw[if_neg (by omega)]at hE
 have hN2:(hd=true->decide (((acc.length:Nat):Int)=0)=(hd&&acc.isEmpty)):=fun h=>by
  rw[h]
  cases acc with
  | nil=>rfl
  | cons a l=>exact decide_eq_false (by simp only[List.length_cons];omega)
 refine Ak (fun hh=>Ab o3.rd.isSl ?_) fun hh=>?_
 case' refine_1=>rw[o3.rd.lenS,hN2 hh]
 case' refine_2=>
  have hN3:false=(hd&&acc.isEmpty):=by rw[hh];rfl
  rw[hN3]
 all_goals
  have hnsx:(hd&&acc.isEmpty)=true->ns=[]:=fun h=>hns (by simp only[Bool.and_eq_true]at h;simpa using h.2)
  refine TU rfl hj hl hv0 (by omega) hmn hw hnsx (fun k v1 ns1 r w1 off1 kv1 tl st4 hr e4 hc4=>?_) fun o e k v1 r kv1 tl st4 hr he e4 hc4=>?_
  ·rw[hr]at hE
   simp only at hE
   have hle:=Rm (by omega) hr
   have hone:Ap kv1=true:=by
    obtain⟨a,b,c,d,f⟩:=r
    unfold NdC at hc4
    obtain⟨u,ys,hu,hu2,_⟩:=hc4
    cases hu
    exact hu2.one
   refine Ab (Co hone) (Ab (Co hone) ?_)
   refine Bz (e3.trans e4) rfl (o3.ext e4) (by omega) (fun h=>by cases h) fun v5 st5 e5 hbx o5=>Ab (GD o5.rd.one) ?_
   have hl1:(acc++[r]).length=acc.length+1:=by simp
   have hne:(!(acc++[r]).isEmpty)=true:=by cases acc<;>rfl
   refine⟨⟨rfl,rfl,rfl,rfl,rfl,RSD.refl ..,rfl,rfl,rfl,rfl,e5,acc++[r],_,by rw[hl1];exact o5,hx.append (AU.one hc4),by omega,.inl ⟨rfl,k,n,w1,ns1,rfl,by omega,by omega,by omega,by omega,by omega,by rw[hne];rfl,fun _=>hle.2.2.2.2,fun h=>(by simp at h),hE⟩⟩,?_⟩
   simp only[if_true]
   omega
  ·rw[hr]at hE
   simp only at hE
   have hone:Ap kv1=true:=by
    obtain⟨a,b,c,d,f⟩:=r
    unfold NdC at hc4
    obtain⟨u,ys,hu,hu2,_⟩:=hc4
    cases hu
    exact hu2.one
   refine Ab (Co hone) (Ab (Co hone) ?_)
   refine Bz (e3.trans e4) rfl (o3.ext e4) (by omega) (fun h=>by cases h) fun v5 st5 e5 hbx o5=>Ab (GD o5.rd.one) ?_
   have hl1:(acc++[r]).length=acc.length+1:=by simp
   refine⟨⟨rfl,rfl,rfl,rfl,rfl,RSD.refl ..,rfl,rfl,rfl,rfl,e5,acc++[r],_,by rw[hl1];exact o5,hx.append (AU.one hc4),by omega,.inr ⟨he,o,rfl,hE.symm⟩⟩,?_⟩
   simp only[if_true]
   rw[if_neg he];omega
end
end
theorem NK {q:Int} {c:UInt8} (hc:(c.toNat:Int)=q):∀(t rest:B8) (i:Nat),(∀b l,rest=b::l->(b.toNat:Int)≠q)->I6 q (dbl c t++c::rest) i=some (i+(dbl c t).length+1)
 | [],rest,i,h=>by
  simp only[dbl,List.flatMap_nil,List.nil_append,List.length_nil,Nat.add_zero]
  cases rest with
  | nil=>simp only[I6];rw[if_pos hc]
  | cons b l=>simp only[I6];rw[if_pos hc,if_neg (h b l rfl)]
 | b::t,rest,i,h=>by
  rw[By]
  by_cases hb:b=c
  ·rw[if_pos hb]
   have ih:=NK hc t rest (i+2) h
   simp only[List.cons_append,List.nil_append,List.length_cons,I6]
   rw[if_pos hc,if_pos hc,ih]
   congr 1;omega
  ·rw[if_neg hb]
   have hb':(b.toNat:Int)≠q:=fun h=>hb (UInt8.toNat_inj.1 (by omega))
   have ih:=NK hc t rest (i+1) h
   simp only[List.cons_append,List.nil_append,List.length_cons]
   cases hr:dbl c t++c::rest with
   | nil=>simp at hr
   | cons b2 l2=>
    rw[hr]at ih
    simp only[I6]
    rw[if_neg hb',ih]
    congr 1;omega
theorem VC {a q:Int} (ha:a≠q) (hq:q≠10) (hq2:q≠13):∀(t:B8) (b:UInt8) (rest:B8) (i:Nat),(∀c∈t,(c.toNat:Int)≠a/\(c.toNat:Int)≠q/\(c.toNat:Int)≠10/\(c.toNat:Int)≠13)->
  ((b.toNat:Int)=a∨(b.toNat:Int)=10)->SY a q (t++b::rest) i= .ok (i+t.length)
 | [],b,rest,i,h,hb=>by simp only[List.nil_append,SY];rw[if_pos (by omega)];rfl
 | c::t,b,rest,i,h,hb=>by
  have hc:=h c (List.mem_cons_self ..)
  simp only[List.cons_append,SY]
  rw[if_neg (by omega),if_neg hc.2.1,VC ha hq hq2 t b rest (i+1) (fun d hd=>h d (List.mem_cons_of_mem _ hd)) hb]
  simp;omega
def GE (a q:Int) (s:B8):Bool:=s.any fun c=>decide ((c.toNat:Int)=a∨(c.toNat:Int)=q∨(c.toNat:Int)=10∨(c.toNat:Int)=13)
def El (a q:Int) (s:B8):B8:=if GE a q s then UInt8.ofNat q.toNat::(dbl (UInt8.ofNat q.toNat) s++[UInt8.ofNat q.toNat])else s
theorem XG {a q:Int} {s:B8} (h:GE a q s=false):∀c∈s,(c.toNat:Int)≠a/\(c.toNat:Int)≠q/\(c.toNat:Int)≠10/\(c.toNat:Int)≠13:=by
 intro c hc
 unfold GE at h
 rw[List.any_eq_false]at h
 have:=h c hc
 rw[decide_eq_true_eq]at this
 omega
theorem J6 {q:Int} (h:0<=q) (h2:q<=255):((UInt8.ofNat q.toNat).toNat:Int)=q:=by
 rw[UInt8.toNat_ofNat'];omega
theorem U2 {a q:Int} (hq0:0<=q) (hq1:q<=255) (ha:a≠q) (hq:q≠10) (hq2:q≠13) (pre c:B8) (b:UInt8) (post:B8) (hb:(b.toNat:Int)=a∨(b.toNat:Int)=10):
  Bt a q (pre++El a q c++b::post) pre.length= .ok (pre.length+(El a q c).length):=by
 have hd:(pre++El a q c++b::post).drop pre.length=El a q c++b::post:=by rw[List.append_assoc,List.drop_left]
 have hby:∀d l,El a q c++b::post=d::l->by_ (pre++El a q c++b::post) pre.length=(d.toNat:Int):=fun d l h=>by
  have:(pre++El a q c++b::post).getD pre.length 0=((pre++El a q c++b::post).drop pre.length).getD 0 0:=by rw[Hx];rfl
  unfold by_
  rw[this,hd,h];rfl
 have hlen:pre.length<(pre++El a q c++b::post).length:=by simp only[List.length_append,List.length_cons];omega
 have hqb:=J6 hq0 hq1
 unfold Bt
 by_cases hn:GE a q c=true
 ·have hqc:El a q c=UInt8.ofNat q.toNat::(dbl (UInt8.ofNat q.toNat) c++[UInt8.ofNat q.toNat]):=by unfold El;rw[if_pos hn]
  have:=hby (UInt8.ofNat q.toNat) (dbl (UInt8.ofNat q.toNat) c++[UInt8.ofNat q.toNat]++b::post) (by rw[hqc];rfl)
  rw[if_pos ⟨hlen,by rw[this];exact hqb⟩]
  have hQ:QE q (pre++El a q c++b::post) (pre.length+1)=some (pre.length+(El a q c).length):=by
   unfold QE
   rw[<-List.drop_drop,hd,hqc]
   have:=NK hqb c (b::post) (pre.length+1) (fun b' l' h=>by cases h;omega)
   simp only[List.cons_append,List.drop_succ_cons,List.drop_zero,List.append_assoc,List.nil_append]
   rw[this]
   congr 1
   simp;omega
  rw[hQ]
 ·have hn:GE a q c=false:=by simpa using hn
  have hqc:El a q c=c:=by unfold El;rw[if_neg (by rw[hn];decide)]
  have hno:=XG hn
  have hP:PE a q (pre++El a q c++b::post) pre.length= .ok (pre.length+(El a q c).length):=by
   unfold PE
   rw[hd,hqc]
   exact VC ha hq hq2 c b post pre.length hno hb
  rw[if_neg,hP]
  rintro⟨_,h2⟩
  cases hc:c with
  | nil=>rw[hby b post (by rw[hqc,hc];rfl)]at h2;omega
  | cons d l=>rw[hby d (l++b::post) (by rw[hqc,hc];rfl)]at h2;exact(hno d (by rw[hc];exact List.mem_cons_self ..)).2.1 h2
theorem chk_ent {a q:Int} {k:Nd} (h:Vi a q k) {s:Int} (hs:s+3<=524288):∃s',chk k 3 s= .ok s'/\s<=s'/\s'<=s+3:=by
 obtain⟨c,mark,rfl,_,hm⟩:=h
 rcases hm with rfl | ⟨b,_,rfl⟩
 ·refine⟨s+1+1,?_,by omega,by omega⟩
  have l2:Iv 2=true:=by decide
  have l5:Iv 5=false:=by decide
  simp only[chk,Gx,l2,l5,List.length_nil]
  rw[if_neg (by omega),if_neg (by omega),if_neg (by omega),if_neg (by simp),if_neg (by omega),if_neg (by omega),if_neg (by omega),if_neg (by simp)]
 ·refine⟨s+1+1+1,?_,by omega,by omega⟩
  have l2:Iv 2=true:=by decide
  have l5:Iv 5=false:=by decide
  have l11:Iv 11=true:=by decide
  simp only[chk,Gx,l2,l5,l11,List.length_nil]
  rw[if_neg (by omega),if_neg (by omega),if_neg (by omega),if_neg (by simp),if_neg (by omega),if_neg (by omega),if_neg (by omega),if_neg (by simp)]
  simp only
  rw[if_neg (by omega),if_neg (by omega),if_neg (by omega),if_neg (by simp)]
theorem QI {a q:Int}:∀(ks:List Nd) (h:∀k∈ks,Vi a q k) {s:Int} (hs:s+3*ks.length<=524288),∃s',Gx ks 3 s= .ok s'/\s<=s'/\s'<=s+3*ks.length
 | [],h,s,hs=>⟨s,rfl,by omega,by simp⟩
 | k::ks,h,s,hs=>by
  rw[List.length_cons]at hs
  obtain⟨s1,h1,h2,h3⟩:=chk_ent (h k (List.mem_cons_self ..)) (s:=s) (by omega)
  obtain⟨s2,h4,h5,h6⟩:=QI ks (fun k hk=>h k (List.mem_cons_of_mem _ hk)) (s:=s1) (by omega)
  refine⟨s2,?_,by omega,by rw[List.length_cons];omega⟩
  simp only[Gx,h1,h4]
theorem WS {a q:Int} {src:B8} {i:Nat} {rs:List Nd} (h:HH a q src i rs):i<=src.length->∀{s:Int},s+7*(src.length-i:Nat)<=524288->∃s',Gx rs 2 s= .ok s'/\s<=s'/\s'<=s+7*(src.length-i:Nat):=by
 induction h with
 | nil h=>intro hi s hs;exact⟨s,rfl,by omega,by omega⟩
 | @cons i e n ks rs h1 h2 h3 ih=>
  intro hi s hs
  have hle:=h2.le hi
  have hpos:1<=e+n-i:=by
   have:=(En (by omega) hle.2.2.2.2).2.1
   rcases Nat.eq_zero_or_pos n with h0 | h0
   ·have:=this h0;omega
   ·omega
  obtain⟨s1,j1,j2,j3⟩:=QI ks (h2.form hi) (s:=s+1) (by omega)
  obtain⟨s2,j4,j5,j6⟩:=ih (by omega) (s:=s1) (by omega)
  have l8:Iv 8=false:=by decide
  refine⟨s2,?_,by omega,by omega⟩
  simp only[Gx,chk,l8]
  rw[if_neg (by omega),if_neg (by omega),if_neg (by omega),if_neg (by simp)]
  simp only[Int.reduceAdd]
  rw[j1]
  exact j4
theorem Qu {a q:Int}:∀(ks:List Nd) (h:∀k∈ks,Vi a q k),Gv ks<=3*ks.length
 | [],h=>by simp[Gv]
 | k::ks,h=>by
  have ih:=Qu ks fun k hk=>h k (List.mem_cons_of_mem _ hk)
  obtain⟨c,mark,rfl,_,hm⟩:=h k (List.mem_cons_self ..)
  rcases hm with rfl | ⟨b,_,rfl⟩<;>simp only[Gv,BZ,List.length_cons]<;>omega
theorem Qt {a q:Int} {src:B8} {i:Nat} {rs:List Nd} (h:HH a q src i rs):i<=src.length->Gv rs<=7*(src.length-i)/\rs.length<=src.length-i:=by
 induction h with
 | nil h=>intro hi;simp[Gv]
 | @cons i e n ks rs h1 h2 h3 ih=>
  intro hi
  have hle:=h2.le hi
  have hpos:1<=e+n-i:=by
   have:=(En (by omega) hle.2.2.2.2).2.1
   rcases Nat.eq_zero_or_pos n with h0 | h0
   ·have:=this h0;omega
   ·omega
  have:=Qu ks (h2.form hi)
  have ih:=ih (by omega)
  simp only[Gv,BZ,List.length_cons]
  omega
theorem Vq {l:B8} (h:ul l≠0):¬Pa (bt l 0):=by
 have hne:l≠ []:=fun h0=>h (by simp[ul,h0])
 have:=(Xx l hne h).1
 unfold hdS at this
 unfold Pa
 rintro⟨h1,h2⟩
 rw[if_neg (by omega),if_neg (by omega),if_neg (by omega),if_neg (by omega)]at this
 exact this rfl
theorem Ty:∀(n:Nat) (s:B8) (k:Nat),s.length<=n->AX s=s.length->k<s.length->bt s k<128->Bd s (k+1):=by
 intro n
 induction n with
 | zero=>intro s k h hv hk hb;omega
 | succ n ih=>
  intro s k h hv hk hb
  have h0:ul s≠0:=fun h0=>by rw[BG s h0]at hv;omega
  have hle:=Jr s
  rw[BH _ h0]at hv
  have hv2:AX (s.drop (ul s))=(s.drop (ul s)).length:=by rw[List.length_drop];omega
  by_cases hku:k<ul s
  ·by_cases hk0:k=0
   ·subst hk0
    have h1:=(Oe s (by rintro rfl;simp at hk) hb).1
    refine⟨by omega,?_⟩
    by_cases hl:s.length=1
    ·exact .inl (by omega)
    ·right
     rw[h1]at hv2
     have hz:ul (s.drop 1)≠0:=fun hz=>by rw[BG _ hz,List.length_drop]at hv2;omega
     have:=Vq hz
     rwa [GP]at this
   ·have:=(Q4 s k (by omega) hku).1;omega
  ·have:=ih (s.drop (ul s)) (k-ul s) (by rw[List.length_drop];omega) hv2 (by rw[List.length_drop];omega) (by rw[GP,show ul s+(k-ul s)=k by omega];exact hb)
   obtain⟨h1,h2⟩:=this
   rw[List.length_drop]at h1
   refine⟨by omega,?_⟩
   rw[List.length_drop,GP,show ul s+(k-ul s+1)=k+1 by omega]at h2
   rcases h2 with h2 | h2
   ·exact .inl (by omega)
   ·exact .inr h2
theorem Cy {x:Cx} {hd:Bool} {l2 l3 l4:Int} {n:Nd} (h:AY x hd l2 l3 l4= .ok n):∃rs,n= .mk 1 [] [] rs []/\dOk x.a x.q=true/\lOk x.dep x.nod l2 l3 l4=true/\(x.s.length:Int)<=l2/\AX x.s=x.s.length/\DX x hd (x.s.length+1) [] 0 1 [] 0= .ok rs/\
  HH x.a x.q x.s 0 rs/\(∀r∈rs,∀k∈As r,(txt x.q (AB k)).length<=65536)/\(∃W:Int,∀r∈rs,((As r).length:Int)=W):=by
 unfold AY at h
 split at h
 ·cases h
 rename_i h1
 split at h
 ·cases h
 rename_i h2
 split at h
 ·cases h
 rename_i h3
 split at h
 ·cases h
 rename_i h4
 split at h
 ·cases h
 rename_i rs hr
 cases h
 obtain⟨rs',j1,j2,j3,⟨W,j4,j5⟩,j6⟩:=O4 _ (by omega) hr
 rw[List.nil_append]at j1
 subst j1
 exact⟨_,rfl,by simpa using h1,by simpa using h2,by omega,Decidable.not_not.1 h4,hr,j2,j3,W,j5⟩
abbrev xU (s:B8) (a q:Int):Cx:=⟨s,a,q,48,65536⟩
abbrev Mw (s:B8) (a q:Int) (hd:Bool):Except (Nat×Int) Nd:=AY (xU s a q) hd 1048576 1024 65536
def Ef (n:Nd) (a q:Int) (hd:Bool):Prop:=Iy n=0/\Mw (BF n) a q hd= .ok n
theorem JM {n:Nd} (h:Iy n=0):Ce n<=1048576:=by
 unfold Iy at h
 split at h
 ·rename_i e he;exact absurd h (ET n he)
 ·split at h
  ·cases h
  ·omega
theorem Uk {x:Cx} {hd:Bool} {l2 l3 l4:Int} (hl:x.s.length<=2000000):BZ (pN (AY x hd l2 l3 l4))<=1000000000000000:=by
 cases h:AY x hd l2 l3 l4 with
 | error e=>simp[pN,BZ,Gv]
 | ok n=>
  obtain⟨rs,rfl,_,_,_,_,_,hr,_⟩:=Cy h
  have:=(Qt hr (by omega)).1
  simp only[pN,BZ];omega
theorem NdC.five {n:Nd} {cs:List TV} (h:NdC n cs):∃k l t v tl,cs=[.int .i64 k,.str l,.str t,v,.str tl]/\Ap v=true:=by
 cases n
 unfold NdC at h
 obtain⟨v,xs,rfl,hr,_⟩:=h
 exact⟨_,_,_,v,_,rfl,hr.one⟩
theorem WE {st:St} {K:Int->Int->Int->Int->Int->St->Prop} (hk:K 48 65536 1048576 1024 65536 st):CallT PR Gh [] [.agg [.int .i64,.int .i64,.int .i64,.int .i64,.int .i64]] st K:=N7 st K hk
theorem M6 {st:St} {K:Int->Int->Int->Int->Int->St->Prop} (hk:K 48 65536 1048576 1024 65536 st):CallT PR BT [] [.agg [.int .i64,.int .i64,.int .i64,.int .i64,.int .i64]] st K:=IO st K hk
theorem SR {st:St} {K:Int->Int->Int->Int->Int->St->Prop} (hk:K 48 65536 1048576 1024 65536 st):CallT PR CW [] [.agg [.int .i64,.int .i64,.int .i64,.int .i64,.int .i64]] st K:=II st K (M6 hk)
theorem VD {n:Nd} {cs:List TV} {a q:Int} {hd ty:Bool} (hc:NdC n cs) (hl:Ce n<=100000000000000) (hcn:BZ n<=1000000000000000) {st:St} {K:Bool->St->Prop}
  (hk1:∀st',Aq st st'->Ef n a q hd->K true st') (hk2:∀st',Aq st st'->¬Ef n a q hd->K false st'):
  CallT PR E0 [.agg cs,.agg [.int .u8 a,.int .u8 q,.bool hd,.bool ty]] [.one .bool] st K:=by
 obtain⟨k,l,t,v,tl,rfl,_⟩:=hc.five
 refine PF k l t v tl a q hd ty st K (Wa hc (by omega) hcn fun st1 e1=>Aa (fun g=>hk2 st1 e1 fun h=>g h.1) fun g=>?_)
 have g:Iy n=0:=Decidable.not_not.1 g
 have hlen:=JM g
 have htl:=CP n
 refine V7 hc hl hcn fun st2 e2=>WE ?_
 refine Qf (x:=xU (BF n) a q) (by show(BF n).length<=_;omega) fun kd kv st3 e3 hn=>?_
 have e13:=(e1.trans e2).trans e3
 obtain⟨_,_,_,_,_,h5,ho⟩:=hn.five
 cases h5
 refine Ab (Co ho) (Aa (fun g2=>?_) fun g2=>?_)
 ·refine Sk _ _ hn hc (Uk (by show(BF n).length<=_;omega)) (fun he=>hk1 _ e13 ⟨g,?_⟩) fun he=>hk2 _ e13 fun h=>he ?_
  ·show AY _ _ _ _ _=_
   revert he g2
   cases hp:AY (xU (BF n) a q) hd 1048576 1024 65536 with
   | error e=>
    intro _ he
    simp only[pN]at he
    rw[<-he]at g
    exact absurd g (by decide)
   | ok m=>intro _ he;simp only[pN]at he;rw[he]
  ·rw[show AY (xU (BF n) a q) hd 1048576 1024 65536= .ok n from h.2];rfl
 ·refine hk2 _ e13 fun h=>g2 ?_
  rw[show AY (xU (BF n) a q) hd 1048576 1024 65536= .ok n from h.2];rfl
theorem Xi {n:Nd} {cs:List TV} {a q:Int} {hd ty:Bool} (hc:NdC n cs) (hl:Ce n<=100000000000000) (hcn:BZ n<=1000000000000000) {st:St} {K:Bool->St->Prop}
  (hk1:∀st',Aq st st'->Ef n a q hd->K true st') (hk2:∀st',Aq st st'->¬Ef n a q hd->K false st'):
  CallT PR CD [.agg cs,.agg [.int .u8 a,.int .u8 q,.bool hd,.bool ty]] [.one .bool] st K:=by
 obtain⟨k,l,t,v,tl,rfl,_⟩:=hc.five
 refine KU k l t v tl a q hd ty st K (Ud hc (by omega) hcn (Aa (fun g=>hk2 st (Aq.refl _) fun h=>g h.1) fun g=>?_))
 have g:Iy n=0:=Decidable.not_not.1 g
 have hlen:=JM g
 have htl:=CP n
 refine P5 n hc (by omega) hcn (M6 ?_)
 refine Wl (x:=xU (BF n) a q) (by show(BF n).length<=_;omega) fun kd kv st3 e13 hn=>?_
 obtain⟨_,_,_,_,_,h5,ho⟩:=hn.five
 cases h5
 refine Ab (Co ho) (Aa (fun g2=>?_) fun g2=>?_)
 ·refine SF _ _ hn hc (Uk (by show(BF n).length<=_;omega)) (fun he=>hk1 _ e13 ⟨g,?_⟩) fun he=>hk2 _ e13 fun h=>he ?_
  ·show AY _ _ _ _ _=_
   revert he g2
   cases hp:AY (xU (BF n) a q) hd 1048576 1024 65536 with
   | error e=>
    intro _ he
    simp only[pN]at he
    rw[<-he]at g
    exact absurd g (by decide)
   | ok m=>intro _ he;simp only[pN]at he;rw[he]
  ·rw[show AY (xU (BF n) a q) hd 1048576 1024 65536= .ok n from h.2];rfl
 ·refine hk2 _ e13 fun h=>g2 ?_
  rw[show AY (xU (BF n) a q) hd 1048576 1024 65536= .ok n from h.2];rfl
def JR {α:Type} (f:α->TV) (v:TV) (row:List α):Prop:=Rd 1 v row.length (row.map f)
def FB {α:Type} (f:α->TV) (v:TV) (rows:List (List α)):Prop:=∃vs:List TV,Rd 1 v rows.length vs/\vs.length=rows.length/\∀(i:Nat) (u:TV) (row:List α),vs[i]? =some u->rows[i]? =some row->JR f u row
theorem JR.ld {α:Type} {f:α->TV} {v:TV} {row:List α} (h:JR f v row) (st:St) {i:Nat} {a:α} (ha:row[i]? =some a):Ac st [] (.t (ixT 1 v i)) 0=some (f a):=
 Rd.ldx h st i 0 (by rw[Nat.mul_one,Nat.add_zero,List.getElem?_map,ha];rfl)
theorem FB.rd {α:Type} {f:α->TV} {v:TV} {rows:List (List α)} (h:FB f v rows):∃vs,Rd 1 v rows.length vs:=by obtain⟨vs,h1,_⟩:=h;exact⟨vs,h1⟩
theorem FB.nil {α:Type} (f:α->TV):FB f .nilSlice []:=⟨[],.inl ⟨rfl,rfl,rfl⟩,rfl,fun i u row h=>by simp at h⟩
def FC {α:Type} (f:α->TV) (b:Nat) (st:St) (v:TV) (rows:List (List α)):Prop:=∃vs:List TV,Own b 1 st v rows.length vs/\vs.length=rows.length/\∀(i:Nat) (u:TV) (row:List α),vs[i]? =some u->rows[i]? =some row->JR f u row
theorem FC.rd {α:Type} {f:α->TV} {b:Nat} {st:St} {v:TV} {rows:List (List α)} (h:FC f b st v rows):FB f v rows:=by
 obtain⟨vs,h1,h2,h3⟩:=h;exact⟨vs,h1.rd,h2,h3⟩
def BN {α:Type} (g:B8->α) (rs:List Nd):List (List α):=rs.map fun r=>(As r).map fun k=>g (AB k)
theorem RA {a q:Int} {k:Nd} (hk:Vi a q k) {cs:List TV} (hc:NdC k cs):∃u ys,cs=[.int .i64 5,.str [],.str [],u,.str []]/\Rd 5 u (As k).length ys/\0<(As k).length/\(∀st,Ac st [] (.t (Ao (ixT 5 u 0) 2)) 0=some (.str (AB k)))/\isPtr (ixT 5 u 0)=true:=by
 obtain⟨c,mark,rfl,_,_⟩:=hk
 unfold NdC at hc
 obtain⟨u,ys,rfl,h1,h2⟩:=hc
 refine⟨u,ys,rfl,h1,by simp[As],fun st=>?_,?_⟩
 ·obtain⟨cs,h3,h4⟩:=h2.get (i:=0) rfl
  unfold NdC at h3
  obtain⟨w,zs,rfl,_⟩:=h3
  exact h1.ldfx st 0 2 (h4 2 _ rfl)
 ·rcases h1 with⟨rfl,h,_⟩ | ⟨tip,rfl⟩
  ·simp at h
  ·rfl
theorem NP {v:TV} {ks:List Nd} {xs:List TV} (hr:Rd 5 v ks.length xs) (hk:AU ks xs) {i:Nat} {k:Nd} (hi:ks[i]? =some k):
  isPtr (ixT 5 v i)=true/\∃cs u ys,NdC k cs/\(∀st,Ac st [] (.t (Ao (ixT 5 v i) 3)) 0=some u)/\Rd 5 u (As k).length ys/\AU (As k) ys/\cs[3]? =some u:=by
 obtain⟨cs,h1,h2⟩:=hk.get hi
 refine⟨?_,?_⟩
 ·rcases hr with⟨rfl,h,_⟩ | ⟨tip,rfl⟩
  ·have:=(List.getElem?_eq_some_iff.1 hi).1;omega
  ·rfl
 ·obtain⟨a,b,c,d,e⟩:=k
  have h3:=h1
  unfold NdC at h3
  obtain⟨u,ys,rfl,h4,h5⟩:=h3
  exact⟨_,u,ys,h1,fun st=>hr.ldfx st i 3 (h2 3 _ rfl),h4,h5,rfl⟩
theorem NO {v:TV} {ks:List Nd} {xs:List TV} (hr:Rd 5 v ks.length xs) (hk:AU ks xs) (st:St) {i:Nat} {k:Nd} (hi:ks[i]? =some k):
  ∃cs,NdC k cs/\(Aj st [] (.t (ixT 5 v i)) 0 5).map TV.agg=some (.agg cs):=by
 obtain⟨a,b,c,d,e⟩:=k
 obtain⟨u,ys,h1,h2,h3,h4⟩:=Fj hr hk st hi
 exact⟨_,by unfold NdC;exact⟨u,ys,rfl,h2,h3⟩,h1⟩
section
def CS:Nd->List Nd | .mk _ _ _ ks _=>ks
def Bm (q:Int) (c:B8):Bool:=decide (¬(c=[]∨by_ c 0≠q))
open Classical in
noncomputable def DE {α:Type} (g:B8->α) (n:Nd) (a q:Int) (hd:Bool):List (List α):=if Ef n a q hd then BN g (CS n)else []
open Classical in
noncomputable def EC (n:Nd) (a q:Int) (hd:Bool):Int:=if Ef n a q hd then 0 else 1
theorem OG {n:Nd} {a q:Int} {hd:Bool} (h:Ef n a q hd):∃rs,n= .mk 1 [] [] rs []/\(∀r∈rs,RecF a q r)/\Ce n<=1048576/\rs.length<=Ce n/\∀r∈rs,(As r).length<=10000000/\∀k∈As r,(AB k).length<=1048576:=by
 obtain⟨rs,rfl,_,_,_,_,_,hr,_⟩:=Cy h.2
 have hn:=CP (.mk 1 [] [] rs [])
 have hlen:=JM h.1
 have hkc:=Qt hr (Nat.zero_le _)
 have hs0:(xU (BF (.mk 1 [] [] rs [])) a q).s.length=Ce (.mk 1 [] [] rs []):=hn
 rw[hs0]at hkc
 refine⟨rs,rfl,hr.form (Nat.zero_le _),hlen,by have:=hkc.2;omega,fun r hr1=>?_⟩
 obtain⟨i,hi⟩:=List.getElem?_of_mem hr1
 have h1:=DT rs hi
 have h2:=Hu rs i r hi
 obtain⟨a1,b1,c1,ks,e1⟩:=r
 have h3:=Dk ks
 simp only[BZ,Ce,As]at h1 h2⊢
 have hk1:=hkc.1
 simp only[Ce]at hlen hk1
 refine⟨by omega,fun k hk=>?_⟩
 obtain⟨j,hj⟩:=List.getElem?_of_mem hk
 have h4:=Hu ks j k hj
 have h5:(AB k).length<=Ce k:=by
  obtain⟨a2,b2,c2,js,e2⟩:=k
  cases js with
  | nil=>simp[AB,As]
  | cons y ys=>
   obtain⟨a3,b3,c3,zs,e3⟩:=y
   simp only[AB,As,Ce,EL];omega
 omega
section
variable {n:Nd} {cs:List TV} {a q:Int} {hd ty:Bool} {st:St}
theorem FC.add {α:Type} {f:α->TV} {T by_:Nat} {st0 st:St} {v u:TV} {rows:List (List α)} {row:List α} {K:TV->St->Prop} (e:Aq st0 st) (h:FC f st0.nt st v rows) (hu:JR f u row) (hby:(rows.length+1)*by_<=140737488355328)
  (hk:∀v' st',Aq st0 st'->FC f st0.nt st' v' (rows++[row])->K v' st'):AV T 1 by_ v 1 [u] st K:=by
 obtain⟨vs,h1,h2,h3⟩:=h
 refine Bz e rfl h1 hby (fun h=>by cases h) fun v' st' e' _ ho=>hk v' st' e' ⟨vs++[u],by rw[List.length_append];exact ho,by simp[h2],fun i u' row' hi hr=>?_⟩
 by_cases hlt:i<vs.length
 ·rw[List.getElem?_append_left hlt]at hi
  rw[List.getElem?_append_left (by omega)]at hr
  exact h3 i u' row' hi hr
 ·rw[List.getElem?_append_right (by omega)]at hi
  rw[List.getElem?_append_right (by omega)]at hr
  have h0:i-vs.length=0:=by
   have:=(List.getElem?_eq_some_iff.1 hi).1
   simp at this;omega
  rw[h0]at hi
  rw[show i-rows.length=0 by omega]at hr
  simp only[List.getElem?_cons_zero,Option.some.injEq]at hi hr
  subst hi hr;exact hu
theorem FC.ext {α:Type} {f:α->TV} {b:Nat} {st st':St} {v:TV} {rows:List (List α)} (h:FC f b st v rows) (e:Aq st st'):FC f b st' v rows:=by
 obtain⟨vs,h1,h2,h3⟩:=h;exact⟨vs,h1.ext e,h2,h3⟩
theorem FC.nil {α:Type} (f:α->TV) (b:Nat) (st:St):FC f b st .nilSlice []:=⟨[],Own.nil _ _ _,rfl,fun i u row h=>by simp at h⟩
theorem ST {K:TV->Int->St->Prop} (hc:NdC n cs) (hl:Ce n<=100000000000000) (hcn:BZ n<=1000000000000000)
  (hk:∀v st',Aq st st'->FB TV.str v (DE (txt q) n a q hd)->K v (EC n a q hd) st'):
  CallT PR EP [.agg cs,.agg [.int .u8 a,.int .u8 q,.bool hd,.bool ty]] [.one .tv,.one (.int .i64)] st K:=by
 have tn:∀k:Nat,Int.toNat (k:Int)=k:=fun k=>rfl
 have w1:∀k:Nat,k<=100000000->i64.wrap ((k:Int)+1)=((k+1:Nat):Int):=fun k hk=>by rw[Ah _ (by omega) (by omega)];omega
 have hc0:=hc
 obtain⟨k,l,t,ks,tl⟩:=n
 unfold NdC at hc
 obtain⟨v,xs,rfl,hr,hx⟩:=hc
 refine L5 k l t v tl a q hd ty st K (VD hc0 hl hcn (fun st1 e1 ho=>?_) fun st1 e1 ho=>?_)
 case' refine_2=>
  refine Ak (fun _=>?_) fun h=>by cases h
  have:=hk .nilSlice st1 e1 (by unfold DE;rw[if_neg ho];exact FB.nil _)
  unfold EC at this
  rwa [if_neg ho]at this
 refine Ak (fun h=>by cases h) fun _=>Ab hr.isSl ?_
 have hfin:∀v st',Aq st st'->FB TV.str v (BN (txt q) ks)->K v 0 st':=fun v st' e h=>by
  have:=hk v st' e (by unfold DE;rw[if_pos ho];exact h)
  unfold EC at this
  rwa [if_pos ho]at this
 obtain⟨rs,hn,hform,hlen,hrl,hkl⟩:=OG ho
 cases hn
 rw[hr.lenS]
 refine⟨fun out i v' n' a' q' b1 b2 st'=>v=v'/\(ks.length:Int)=n'/\a=a'/\q=q'/\hd=b1/\ty=b2/\Aq st st'/\∃j:Nat,i=(j:Int)/\j<=ks.length/\FC TV.str st.nt st' out (BN (txt q) (ks.take j)),
  fun _ i _ _ _ _ _ _ _=>(ks.length-i).toNat,⟨rfl,rfl,rfl,rfl,rfl,rfl,e1,0,rfl,by omega,by rw[List.take_zero];exact FC.nil _ _ _⟩,?_⟩
 rintro out _ _ _ _ _ _ _ st2 ⟨rfl,rfl,rfl,rfl,rfl,rfl,e2,j,rfl,hj,hg⟩
 rw[hr.lenZ,tn]
 refine Aa (fun g=>?_) fun g=>?_
 case' refine_2=>
  rw[List.take_of_length_le (by omega)]at hg
  exact hfin _ _ e2 hg.rd
 have hlt:j<ks.length:=by omega
 have hget:=List.getElem?_eq_getElem hlt
 generalize ks[j]=r at hget
 have hrf:=hform r (AG hget)
 have hrk:=hkl r (AG hget)
 obtain⟨ents,tail,rfl,hne,hents⟩:=hrf
 obtain⟨rc,hrc,hld⟩:=NO hr hx st2 hget
 unfold NdC at hrc
 obtain⟨u,ys,rfl,hu,hy⟩:=hrc
 refine⟨⟨by omega,by omega⟩,Ad hld (JL (Ab (Co hu.one) (Ab hu.isSl ?_)))⟩
 rw[hu.lenS]
 simp only[As]at hrk
 refine⟨fun li m out' v' n' i' u' m' a' q' b1 b2 st'=>out=out'/\v=v'/\(ks.length:Int)=n'/\(j:Int)=i'/\u=u'/\(ents.length:Int)=m'/\a=a'/\q=q'/\hd=b1/\ty=b2/\Aq st2 st'/\∃p:Nat,m=(p:Int)/\p<=ents.length/\Own st2.nt 1 st' li p (((ents.take p).map fun k=>txt q (AB k)).map TV.str),
  fun _ m _ _ _ _ _ _ _ _ _ _ _=>(ents.length-m).toNat,⟨rfl,rfl,rfl,rfl,rfl,rfl,rfl,rfl,rfl,rfl,Aq.refl _,0,rfl,by omega,Own.nil _ _ _⟩,?_⟩
 rintro li _ _ _ _ _ _ _ _ _ _ _ st3 ⟨rfl,rfl,rfl,rfl,rfl,rfl,rfl,rfl,rfl,rfl,e3,p,rfl,hp,hli⟩
 rw[hu.lenZ,tn]
 refine Aa (fun g2=>?_) fun g2=>?_
 ·have hlt2:p<ents.length:=by omega
  have hget2:=List.getElem?_eq_getElem hlt2
  generalize ents[p]=en at hget2
  have hef:=hents en (AG hget2)
  obtain⟨ec,hec,hld2⟩:=NO hu hy st3 hget2
  obtain⟨w,zs,rfl,hw,hpos,hwl,hwp⟩:=RA hef hec
  refine⟨⟨by omega,by omega⟩,Ad hld2 (JL (Ab (Co hw.one) ?_))⟩
  rw[hw.lenZ]
  refine⟨⟨by omega,by omega⟩,Ab hwp (Ad (hwl _) (Am ?_))⟩
  have hcl:=hrk.2 en (AG hget2)
  have hcw:JU q (AB en):=by
   obtain⟨c,mark,rfl,hcw,_⟩:=hef
   exact hcw
  refine Oi hcw (by omega) fun st4 e4=>?_
  refine Bz (e3.trans e4) rfl (hli.ext e4) (by omega) (fun h=>by cases h) fun v5 st5 e5 _ o5=>?_
  rw[w1 p (by omega)]
  refine⟨⟨rfl,rfl,rfl,rfl,rfl,rfl,rfl,rfl,rfl,rfl,e5,p+1,rfl,by omega,?_⟩,by dsimp only;omega⟩
  rw[List.take_add_one,hget2]
  simpa using o5
 ·have hpe:p=ents.length:=by omega
  rw[hpe,List.take_of_length_le (by omega)]at hli
  refine Ab (GD hli.rd.one) (Ab (GD hli.rd.one) ?_)
  refine(hg.ext e3).add (e2.trans e3) (row:=ents.map fun k=>txt q (AB k)) (by unfold JR;rw[List.length_map];exact hli.rd) (by simp only[BN,List.length_map,List.length_take];omega) fun v' st' e' hg'=>?_
  rw[w1 j (by omega)]
  refine⟨⟨rfl,rfl,rfl,rfl,rfl,rfl,e',j+1,rfl,by omega,?_⟩,by dsimp only;omega⟩
  rw[List.take_add_one,hget]
  simpa [BN,As]using hg'
end
end
section
section
variable {n:Nd} {cs:List TV} {a q:Int} {hd ty:Bool} {st:St}
theorem Uf {K:TV->Int->St->Prop} (hc:NdC n cs) (hl:Ce n<=100000000000000) (hcn:BZ n<=1000000000000000)
  (hk:∀v st',Aq st st'->FB TV.bool v (DE (Bm q) n a q hd)->K v (EC n a q hd) st'):
  CallT PR Fo [.agg cs,.agg [.int .u8 a,.int .u8 q,.bool hd,.bool ty]] [.one .tv,.one (.int .i64)] st K:=by
 have tn:∀k:Nat,Int.toNat (k:Int)=k:=fun k=>rfl
 have w1:∀k:Nat,k<=100000000->i64.wrap ((k:Int)+1)=((k+1:Nat):Int):=fun k hk=>by rw[Ah _ (by omega) (by omega)];omega
 have hc0:=hc
 obtain⟨k,l,t,ks,tl⟩:=n
 unfold NdC at hc
 obtain⟨v,xs,rfl,hr,hx⟩:=hc
 refine Nw k l t v tl a q hd ty st K (VD hc0 hl hcn (fun st1 e1 ho=>?_) fun st1 e1 ho=>?_)
 case' refine_2=>
  refine Ak (fun _=>?_) fun h=>by cases h
  have:=hk .nilSlice st1 e1 (by unfold DE;rw[if_neg ho];exact FB.nil _)
  unfold EC at this
  rwa [if_neg ho]at this
 refine Ak (fun h=>by cases h) fun _=>Ab hr.isSl ?_
 have hfin:∀v st',Aq st st'->FB TV.bool v (BN (Bm q) ks)->K v 0 st':=fun v st' e h=>by
  have:=hk v st' e (by unfold DE;rw[if_pos ho];exact h)
  unfold EC at this
  rwa [if_pos ho]at this
 obtain⟨rs,hn,hform,hlen,hrl,hkl⟩:=OG ho
 cases hn
 rw[hr.lenS]
 refine⟨fun out i v' n' a' q' b1 b2 st'=>v=v'/\(ks.length:Int)=n'/\a=a'/\q=q'/\hd=b1/\ty=b2/\Aq st st'/\∃j:Nat,i=(j:Int)/\j<=ks.length/\FC TV.bool st.nt st' out (BN (Bm q) (ks.take j)),
  fun _ i _ _ _ _ _ _ _=>(ks.length-i).toNat,⟨rfl,rfl,rfl,rfl,rfl,rfl,e1,0,rfl,by omega,by rw[List.take_zero];exact FC.nil _ _ _⟩,?_⟩
 rintro out _ _ _ _ _ _ _ st2 ⟨rfl,rfl,rfl,rfl,rfl,rfl,e2,j,rfl,hj,hg⟩
 rw[hr.lenZ,tn]
 refine Aa (fun g=>?_) fun g=>?_
 case' refine_2=>
  rw[List.take_of_length_le (by omega)]at hg
  exact hfin _ _ e2 hg.rd
 have hlt:j<ks.length:=by omega
 have hget:=List.getElem?_eq_getElem hlt
 generalize ks[j]=r at hget
 have hrf:=hform r (AG hget)
 have hrk:=hkl r (AG hget)
 obtain⟨ents,tail,rfl,hne,hents⟩:=hrf
 obtain⟨rc,hrc,hld⟩:=NO hr hx st2 hget
 unfold NdC at hrc
 obtain⟨u,ys,rfl,hu,hy⟩:=hrc
 refine⟨⟨by omega,by omega⟩,Ad hld (JL (Ab (Co hu.one) (Ab hu.isSl ?_)))⟩
 rw[hu.lenS]
 simp only[As]at hrk
 refine⟨fun li m out' v' n' i' u' m' a' q' b1 b2 st'=>out=out'/\v=v'/\(ks.length:Int)=n'/\(j:Int)=i'/\u=u'/\(ents.length:Int)=m'/\a=a'/\q=q'/\hd=b1/\ty=b2/\Aq st2 st'/\∃p:Nat,m=(p:Int)/\p<=ents.length/\Own st2.nt 1 st' li p (((ents.take p).map fun k=>Bm q (AB k)).map TV.bool),
  fun _ m _ _ _ _ _ _ _ _ _ _ _=>(ents.length-m).toNat,⟨rfl,rfl,rfl,rfl,rfl,rfl,rfl,rfl,rfl,rfl,Aq.refl _,0,rfl,by omega,Own.nil _ _ _⟩,?_⟩
 rintro li _ _ _ _ _ _ _ _ _ _ _ st3 ⟨rfl,rfl,rfl,rfl,rfl,rfl,rfl,rfl,rfl,rfl,e3,p,rfl,hp,hli⟩
 rw[hu.lenZ,tn]
 refine Aa (fun g2=>?_) fun g2=>?_
 ·have hlt2:p<ents.length:=by omega
  have hget2:=List.getElem?_eq_getElem hlt2
  generalize ents[p]=en at hget2
  have hef:=hents en (AG hget2)
  obtain⟨ec,hec,hld2⟩:=NO hu hy st3 hget2
  obtain⟨w,zs,rfl,hw,hpos,hwl,hwp⟩:=RA hef hec
  refine⟨⟨by omega,by omega⟩,Ad hld2 (JL (Ab (Co hw.one) ?_))⟩
  rw[hw.lenZ]
  refine⟨⟨by omega,by omega⟩,Ab hwp (Ad (hwl _) (Am ?_))⟩
  have hcl:=hrk.2 en (AG hget2)
  have hcw:JU q (AB en):=by
   obtain⟨c,mark,rfl,hcw,_⟩:=hef
   exact hcw
  refine Oi hcw (by omega) fun st4 e4=>?_
  rw[show decide (¬(AB en=[]∨by_ (AB en) 0≠q))=Bm q (AB en)from rfl]
  refine Bz (e3.trans e4) rfl (hli.ext e4) (by omega) (fun h=>by cases h) fun v5 st5 e5 _ o5=>?_
  rw[w1 p (by omega)]
  refine⟨⟨rfl,rfl,rfl,rfl,rfl,rfl,rfl,rfl,rfl,rfl,e5,p+1,rfl,by omega,?_⟩,by dsimp only;omega⟩
  rw[List.take_add_one,hget2]
  simpa using o5
 ·have hpe:p=ents.length:=by omega
  rw[hpe,List.take_of_length_le (by omega)]at hli
  refine Ab (GD hli.rd.one) (Ab (GD hli.rd.one) ?_)
  refine(hg.ext e3).add (e2.trans e3) (row:=ents.map fun k=>Bm q (AB k)) (by unfold JR;rw[List.length_map];exact hli.rd) (by simp only[BN,List.length_map,List.length_take];omega) fun v' st' e' hg'=>?_
  rw[w1 j (by omega)]
  refine⟨⟨rfl,rfl,rfl,rfl,rfl,rfl,e',j+1,rfl,by omega,?_⟩,by dsimp only;omega⟩
  rw[List.take_add_one,hget]
  simpa [BN,As]using hg'
theorem SG {K:TV->Int->St->Prop} (hc:NdC n cs) (hl:Ce n<=100000000000000) (hcn:BZ n<=1000000000000000)
  (hk:∀v st',Aq st st'->FB TV.str v (DE (txt q) n a q hd)->K v (EC n a q hd) st'):
  CallT PR Cs [.agg cs,.agg [.int .u8 a,.int .u8 q,.bool hd,.bool ty]] [.one .tv,.one (.int .i64)] st K:=by
 have tn:∀k:Nat,Int.toNat (k:Int)=k:=fun k=>rfl
 have w1:∀k:Nat,k<=100000000->i64.wrap ((k:Int)+1)=((k+1:Nat):Int):=fun k hk=>by rw[Ah _ (by omega) (by omega)];omega
 have hc0:=hc
 obtain⟨k,l,t,ks,tl⟩:=n
 unfold NdC at hc
 obtain⟨v,xs,rfl,hr,hx⟩:=hc
 refine Hl k l t v tl a q hd ty st K (Xi hc0 hl hcn (fun st1 e1 ho=>?_) fun st1 e1 ho=>?_)
 case' refine_2=>
  refine Ak (fun _=>?_) fun h=>by cases h
  have:=hk .nilSlice st1 e1 (by unfold DE;rw[if_neg ho];exact FB.nil _)
  unfold EC at this
  rwa [if_neg ho]at this
 refine Ak (fun h=>by cases h) fun _=>?_
 have hfin:∀v st',Aq st st'->FB TV.str v (BN (txt q) ks)->K v 0 st':=fun v st' e h=>by
  have:=hk v st' e (by unfold DE;rw[if_pos ho];exact h)
  unfold EC at this
  rwa [if_pos ho]at this
 obtain⟨rs,hn,hform,hlen,hrl,hkl⟩:=OG ho
 cases hn
 refine⟨fun out i k1 l1 t1 v' tl1 a' q' b1 b2 st'=>v=v'/\a=a'/\q=q'/\hd=b1/\ty=b2/\Aq st st'/\∃j:Nat,i=(j:Int)/\j<=ks.length/\FC TV.str st.nt st' out (BN (txt q) (ks.take j)),
  fun _ i _ _ _ _ _ _ _ _ _ _=>(ks.length-i).toNat,⟨rfl,rfl,rfl,rfl,rfl,e1,0,rfl,by omega,by rw[List.take_zero];exact FC.nil _ _ _⟩,?_⟩
 rintro out _ _ _ _ _ _ _ _ _ _ st2 ⟨rfl,rfl,rfl,rfl,rfl,e2,j,rfl,hj,hg⟩
 refine Ab hr.isSl ?_
 rw[hr.lenS]
 refine Aa (fun g=>?_) fun g=>?_
 case' refine_2=>
  rw[List.take_of_length_le (by omega)]at hg
  exact hfin _ _ e2 hg.rd
 have hlt:j<ks.length:=by omega
 have hget:=List.getElem?_eq_getElem hlt
 generalize ks[j]=r at hget
 have hrf:=hform r (AG hget)
 have hrk:=hkl r (AG hget)
 obtain⟨ents,tail,rfl,hne,hents⟩:=hrf
 obtain⟨hp1,rc,u,ys,hrc,hld,hu,hy,_⟩:=NP hr hx hget
 simp only[As]at hrk hu hy
 refine⟨fun li m out' i' k1 l1 t1 v' tl1 a' q' b1 b2 st'=>out=out'/\v=v'/\(j:Int)=i'/\a=a'/\q=q'/\hd=b1/\ty=b2/\Aq st2 st'/\∃p:Nat,m=(p:Int)/\p<=ents.length/\Own st2.nt 1 st' li p (((ents.take p).map fun k=>txt q (AB k)).map TV.str),
  fun _ m _ _ _ _ _ _ _ _ _ _ _ _=>(ents.length-m).toNat,⟨rfl,rfl,rfl,rfl,rfl,rfl,rfl,Aq.refl _,0,rfl,by omega,Own.nil _ _ _⟩,?_⟩
 rintro li _ _ _ _ _ _ _ _ _ _ _ _ st3 ⟨rfl,rfl,rfl,rfl,rfl,rfl,rfl,e3,p,rfl,hp,hli⟩
 rw[hr.lenZ,tn]
 refine⟨⟨by omega,by omega⟩,Ab hp1 (Ad (hld _) (Ab hu.isSl ?_))⟩
 rw[hu.lenS]
 refine Aa (fun g2=>?_) fun g2=>?_
 ·have hlt2:p<ents.length:=by omega
  have hget2:=List.getElem?_eq_getElem hlt2
  generalize ents[p]=en at hget2
  have hef:=hents en (AG hget2)
  obtain⟨hp2,ec,w,zs,hec,hld2,hw,hz,hw3⟩:=NP hu hy hget2
  obtain⟨w',zs',rfl,hw',hpos,hwl,hwp⟩:=RA hef hec
  simp only[List.getElem?_cons_succ,List.getElem?_cons_zero,Option.some.injEq]at hw3
  subst hw3
  refine⟨⟨by omega,by omega⟩,Ab hp1 (Ad (hld _) ?_)⟩
  rw[hu.lenZ,tn]
  refine⟨⟨by omega,by omega⟩,Ab hp2 (Ad (hld2 _) ?_)⟩
  rw[hw.lenZ]
  refine⟨⟨by omega,by omega⟩,Ab hwp (Ad (hwl _) (Am ?_))⟩
  have hcl:=hrk.2 en (AG hget2)
  have hcw:JU q (AB en):=by
   obtain⟨c,mark,rfl,hcw,_⟩:=hef
   exact hcw
  refine Mn hcw (by omega) ?_
  refine Bz e3 rfl hli (by omega) (fun h=>by cases h) fun v5 st5 e5 _ o5=>?_
  rw[w1 p (by omega)]
  refine⟨⟨rfl,rfl,rfl,rfl,rfl,rfl,rfl,e5,p+1,rfl,by omega,?_⟩,by dsimp only;omega⟩
  rw[List.take_add_one,hget2]
  simpa using o5
 ·have hpe:p=ents.length:=by omega
  rw[hpe,List.take_of_length_le (by omega)]at hli
  refine Ab (GD hli.rd.one) (Ab (GD hli.rd.one) ?_)
  refine(hg.ext e3).add (e2.trans e3) (row:=ents.map fun k=>txt q (AB k)) (by unfold JR;rw[List.length_map];exact hli.rd) (by simp only[BN,List.length_map,List.length_take];omega) fun v' st' e' hg'=>?_
  rw[w1 j (by omega)]
  refine⟨⟨rfl,rfl,rfl,rfl,rfl,e',j+1,rfl,by omega,?_⟩,by dsimp only;omega⟩
  rw[List.take_add_one,hget]
  simpa [BN,As]using hg'
end
end
section
def OC (a q:Int) (s:B8):Except Int B8:=if dOk a q=false then .error 1 else if AX s=s.length then .ok (El a q s)else .error 5
def xT:Except Int B8->B8 | .ok t=>t | .error _=>[]
def xE:Except Int B8->Int | .ok _=>0 | .error e=>e
theorem V0 {a q:Int} (h:dOk a q=true):(a=9∨(32<=a/\a<=126))/\33<=q/\q<=126/\a≠q:=by
 unfold dOk at h
 exact(of_decide_eq_true h).1
theorem Ur {a q:Int} {s:B8} {j:Nat} (h:j<s.length):GE a q (s.take (j+1))=(GE a q (s.take j) || decide (by_ s j=a∨by_ s j=q∨by_ s j=10∨by_ s j=13)):=by
 unfold GE
 rw[EN s j 0 h,List.any_append]
 simp only[List.any_cons,List.any_nil,Bool.or_false]
 rfl
theorem J7 {a q:Int} {s:B8} {j:Nat} (h:j<s.length) (hb:by_ s j=a∨by_ s j=q∨by_ s j=10∨by_ s j=13):GE a q s=true:=by
 unfold GE
 rw[List.any_eq_true]
 refine⟨s.getD j 0,?_,decide_eq_true hb⟩
 rw[List.getD_eq_getElem?_getD,List.getElem?_eq_getElem h]
 exact List.getElem_mem h
theorem RH (c:UInt8):∀t:B8,(dbl c t).length<=2*t.length
 | []=>by simp[dbl]
 | b::t=>by
  have:=RH c t
  rw[By,List.length_append,List.length_cons]
  split<;>simp<;>omega
section
variable {a q:Int} {hd ty:Bool} {st:St}
theorem Wv {s:B8} {K:B8->Int->St->Prop} (hl:s.length<=2000000) (hk:K (xT (OC a q s)) (xE (OC a q s)) st):
  CallT PR Et [.str s,.agg [.int .u8 a,.int .u8 q,.bool hd,.bool ty]] [.one .str,.one (.int .i64)] st K:=by
 have tn:∀k:Nat,Int.toNat (k:Int)=k:=fun k=>rfl
 have w1:∀k:Nat,k<=100000000->i64.wrap ((k:Int)+1)=((k+1:Nat):Int):=fun k hk=>by rw[Ah _ (by omega) (by omega)];omega
 unfold OC at hk
 refine N9 s a q hd ty st K (MO (Ak (fun g=>?_) fun g=>?_))
 ·rw[if_pos (by simpa using g)]at hk;exact hk
 have gd:dOk a q=true:=by simpa using g
 rw[if_neg (by rw[gd];decide)]at hk
 have hdk:=V0 gd
 refine J1 hl (Ak (fun g=>?_) fun g=>?_)
 ·rw[if_neg (by simpa using g)]at hk;exact hk
 rw[if_pos (by simpa using g)]at hk
 have hqn:=J6 (q:=q) (by omega) (by omega)
 generalize hc:UInt8.ofNat q.toNat=c at hqn
 refine Ad (Me st c hqn) (Am ?_)
 refine⟨fun i s' q' n1 n2 b1 b2 st'=>s=s'/\[c]=q'/\a=n1/\q=n2/\hd=b1/\ty=b2/\st=st'/\∃j:Nat,i=(j:Int)/\j<=s.length/\GE a q (s.take j)=false,
  fun i _ _ _ _ _ _ _=>(s.length-i).toNat,⟨rfl,rfl,rfl,rfl,rfl,rfl,rfl,0,rfl,by omega,rfl⟩,?_⟩
 rintro _ _ _ _ _ _ _ _ ⟨rfl,rfl,rfl,rfl,rfl,rfl,rfl,j,rfl,hj,hnq⟩
 rw[tn]
 refine Aa (fun g1=>⟨⟨by omega,by omega⟩,?_⟩) fun g1=>?_
 ·have fin:GE a q s=true->CallT PR AE [.str s,.str [c],.str ([c]++[c])] [.one .str] st fun s4 st6=>(([c].length+s4.length<=9223372036854775807)/\((([c]++s4).length+ [c].length<=9223372036854775807)/\K ([c]++s4++[c]) 0 st6)):=fun hn=>by
   refine KA (by simp) (by omega) ?_
   have hdl:=RH c s
   unfold dbl at hdl
   refine⟨by simp only[List.length_cons,List.length_nil];omega,by simp only[List.length_append,List.length_cons,List.length_nil];omega,?_⟩
   unfold El at hk
   rw[if_pos hn,hc]at hk
   exact hk
  refine Aa (fun q1=>⟨by simp,fin (J7 (j:=j) (by omega) (.inl q1))⟩) fun q1=>Aa (fun q2=>⟨by simp,fin (J7 (j:=j) (by omega) (.inr (.inl q2)))⟩) fun q2=>Aa (fun q3=>⟨by simp,fin (J7 (j:=j) (by omega) (.inr (.inr (.inl q3))))⟩) fun q3=>
   Aa (fun q4=>⟨by simp,fin (J7 (j:=j) (by omega) (.inr (.inr (.inr q4))))⟩) fun q4=>?_
  rw[w1 j (by omega)]
  refine⟨⟨rfl,rfl,rfl,rfl,rfl,rfl,rfl,j+1,rfl,by omega,?_⟩,by dsimp only;omega⟩
  rw[Ur (by omega),hnq,Bool.false_or]
  exact decide_eq_false (by rintro(h | h | h | h);exact q1 h;exact q2 h;exact q3 h;exact q4 h)
 ·rw[List.take_of_length_le (by omega)]at hnq
  unfold El at hk
  rw[if_neg (by rw[hnq];decide)]at hk
  exact hk
end
end
section
def NB (cs:List B8):Nat:=match cs with | []=>0 | c::r=>c.length+NB r
section
variable {a q:Int} {hd ty:Bool} {st:St}
end
end
section
def Lr (l:List (List B8)):Nat:=match l with | []=>0 | r::rs=>NB r+Lr rs
def Gw (l:List (List B8)):Nat:=match l with | []=>0 | r::rs=>r.length+Gw rs
theorem W8 {l:List (List B8)} {j:Nat} {r:List B8} (h:l[j]? =some r):NB r<=Lr l/\r.length<=Gw l:=by
 induction l generalizing j with
 | nil=>simp at h
 | cons d rs ih=>
  cases j with
  | zero=>simp only[List.getElem?_cons_zero,Option.some.injEq]at h;subst h;simp[Lr,Gw]
  | succ j=>
   have:=ih (j:=j) (by simpa using h)
   simp only[Lr,Gw];omega
section
variable {a q:Int} {hd ty:Bool} {st:St}
end
end
section
theorem XL {s:B8} {a q:Int} {hd:Bool} {n:Nd} (hl:s.length<=70000) (h:Mw s a q hd= .ok n):BF n=s/\Iy n=0/\Ef n a q hd:=by
 obtain⟨rs,rfl,_,_,_,_,_,hr,_⟩:=Cy h
 have ht:BF (.mk 1 [] [] rs [])=s:=by
  have:=HH.text hr (Nat.zero_le _)
  simp only[BF,List.nil_append,List.append_nil]
  rw[this];rfl
 have hlen:Ce (.mk 1 [] [] rs [])=s.length:=by rw[<-CP,ht]
 have hc:Iy (.mk 1 [] [] rs [])=0:=by
  have hs0:(xU s a q).s.length=s.length:=rfl
  obtain⟨s',h1,h2,h3⟩:=WS hr (Nat.zero_le _) (s:=1) (by rw[hs0];omega)
  have h4:chk (.mk 1 [] [] rs []) 1 0= .ok s':=by
   have l1:Iv 1=false:=by decide
   simp only[chk,l1]
   rw[if_neg (by omega),if_neg (by omega),if_neg (by omega),if_neg (by simp)]
   exact h1
  unfold Iy
  rw[h4]
  simp only
  rw[if_neg (by omega)]
 exact⟨ht,hc,hc,by rw[ht];exact h⟩
theorem S7 {s:B8} {i:Nat} {p:Nat×Int} (h:Ch s i= .error p):p.2≠0:=by
 obtain⟨o,c⟩:=p
 rcases MF h with h | h<;>simp[h.2]
theorem entE_ne {x:Cx} {hd:Bool} {i:Nat} {v:Int} {ns:List B8} {p:Nat×Int} (h:Ei x hd i v ns= .error p):p.2≠0:=by
 have hR:∀v,PQ x hd i v ns= .error p->p.2≠0:=fun v h=>by
  unfold PQ at h
  split at h
  ·rename_i e he
   cases h
   exact QJ (o:=p.1) (c:=p.2) he
  ·rename_i e he
   by_cases h1:(if hd then 1024 else 65536)<(txt x.q (slc x.s i e)).length
   ·rw[if_pos h1]at h;cases h;simp
   ·by_cases h2:hd=true/\txt x.q (slc x.s i e)∈ns
    ·rw[if_neg h1,if_pos h2]at h;cases h;simp
    ·rw[if_neg h1,if_neg h2]at h;cases h
 rw[NR]at h
 split at h
 ·exact hR v h
 ·split at h
  ·rename_i e he
   cases h
   exact LV (o:=p.1) (c:=p.2) he
  ·exact hR _ h
theorem VB {x:Cx} {num hd:Bool} {wid:Int}:∀(n:Nat) {acc:List Nd} {i:Nat} {v:Int} {ns:List B8} {p:Nat×Int},i<=x.s.length->x.s.length<i+n->BX x num wid hd n acc i v ns= .error p->p.2≠0
 | 0,acc,i,v,ns,p,h1,h2,h=>by omega
 | n+1,acc,i,v,ns,p,h1,h2,h=>by
  rw[Mq]at h
  split at h
  ·cases h;simp
  split at h
  ·rename_i e he;cases h;exact entE_ne he
  ·rename_i e v1 ns1 he
   have hle:=VJ h1 he
   split at h
   ·exact VB n (by omega) (by omega) h
   ·split at h
    ·rename_i e2 he2;cases h;exact S7 he2
    ·cases h
theorem recD_ne {x:Cx} {num hd:Bool} {wid:Int} {i:Nat} {v:Int} {ns:List B8} {p:Nat×Int} (hi:i<=x.s.length) (h:FJ x num wid hd i v ns= .error p):p.2≠0:=by
 have hK:∀v,GY x.s num wid (BX x num wid hd (x.s.length+1) [] i v ns)= .error p->p.2≠0:=fun v h=>by
  unfold GY at h
  rcases hr:BX x num wid hd (x.s.length+1) [] i v ns with e | ⟨e,v2,ns2,ks⟩
  ·rw[hr]at h;cases h;exact VB _ hi (by omega) hr
  ·rw[hr]at h
   simp only at h
   cases hn7:Ch x.s e with
   | error e2=>rw[hn7]at h;cases h;exact S7 hn7
   | ok n7=>
    rw[hn7]at h
    simp only at h
    by_cases hw:(ks.length:Int)<(if num then wid else(ks.length:Int))
    ·rw[if_pos hw]at h;cases h;simp
    ·rw[if_neg hw]at h;cases h
 rw[FI]at h
 split at h
 ·exact hK v h
 ·split at h
  ·rename_i e he;cases h;exact LV (o:=p.1) (c:=p.2) he
  ·exact hK _ h
theorem VO {x:Cx} {hdr:Bool}:∀(n:Nat) {acc:List Nd} {i:Nat} {v:Int} {ns:List B8} {wid:Int} {p:Nat×Int},i<=x.s.length->x.s.length<i+n->DX x hdr n acc i v ns wid= .error p->p.2≠0
 | 0,acc,i,v,ns,wid,p,h1,h2,h=>by omega
 | n+1,acc,i,v,ns,wid,p,h1,h2,h=>by
  rw[MR]at h
  split at h
  ·cases h
  split at h
  ·rename_i e he;cases h;exact recD_ne h1 he
  ·rename_i i' v' ns' r wid' he
   have hle:=Rm (by omega) he
   exact VO n (by omega) (by omega) h
theorem Uj {x:Cx} {hd:Bool} {l2 l3 l4:Int} {p:Nat×Int} (h:AY x hd l2 l3 l4= .error p):p.2≠0:=by
 unfold AY at h
 split at h
 ·cases h;simp
 split at h
 ·cases h;simp
 split at h
 ·cases h;simp
 split at h
 ·cases h;simp
 split at h
 ·rename_i e he;cases h;exact VO _ (by omega) (by omega) he
 ·cases h
section
variable {a q:Int} {hd ty:Bool} {st:St}
theorem OB {K:Int->Int->Bool->Bool->St->Prop} (hk:K 44 34 true true st):CallT PR BQ [] [.agg [.int .u8,.int .u8,.bool,.bool]] st K:=IF st K hk
end
end
section
theorem W7 {cs:List B8} {c:B8} (h:c∈cs):c.length<=NB cs:=by
 induction cs with
 | nil=>cases h
 | cons d r ih=>
  simp only[NB]
  rcases List.mem_cons.1 h with rfl | h
  ·omega
  ·have:=ih h;omega
section
variable {a q:Int} {hd ty:Bool} {st:St}
end
end
def JV (a q:Int) (c:B8):Prop:=∀(pre:B8) (b:UInt8) (post:B8),((b.toNat:Int)=a∨(b.toNat:Int)=10)->Bt a q (pre++c++b::post) pre.length= .ok (pre.length+c.length)
structure WW (a q:Int):Prop where
 a0:0<=a
 a1:a<128
 q0:0<=q
 q1:q<128
 aq:a≠q
 q10:q≠10
 q13:q≠13
 a10:a≠10
 sa:Cm a=false
 sq:Cm q=false
theorem Yl {a q:Int} (h:dOk a q=true):WW a q:=by
 have hk:=V0 h
 unfold dOk at h
 rw[decide_eq_true_eq]at h
 exact⟨by omega,by omega,by omega,by omega,by omega,by omega,by omega,by omega,h.2.1,h.2.2⟩
theorem Tw {a q:Int} (d:WW a q) (s:B8):JV a q (El a q s):=fun pre b post hb=>U2 d.q0 (by have:=d.q1;omega) d.aq d.q10 d.q13 pre s b post hb
theorem RM {a q:Int} (d:WW a q) {c:B8} (h:GE a q c=false):JV a q c:=by
 have:=Tw d c
 unfold El at this
 rwa [if_neg (by rw[h];decide)]at this
def NC (q:Int) (s:B8):B8:=UInt8.ofNat q.toNat::(dbl (UInt8.ofNat q.toNat) s++[UInt8.ofNat q.toNat])
theorem Tv {a q:Int} (d:WW a q) (c:B8):JV a q (NC q c):=by
 intro pre b post hb
 have hq1:=d.q1
 have hqb:=J6 d.q0 (by omega:q<=255)
 have hd:(pre++NC q c++b::post).drop pre.length=NC q c++b::post:=by rw[List.append_assoc,List.drop_left]
 have hby:by_ (pre++NC q c++b::post) pre.length=q:=by
  have:(pre++NC q c++b::post).getD pre.length 0=((pre++NC q c++b::post).drop pre.length).getD 0 0:=by rw[Hx];rfl
  unfold by_
  rw[this,hd];exact hqb
 have hlen:pre.length<(pre++NC q c++b::post).length:=by simp only[List.length_append,List.length_cons];omega
 have hQ:QE q (pre++NC q c++b::post) (pre.length+1)=some (pre.length+(NC q c).length):=by
  unfold QE
  rw[<-List.drop_drop,hd]
  have:=NK hqb c (b::post) (pre.length+1) (fun b' l' h=>by cases h;have:=d.aq;have:=d.q10;omega)
  unfold NC
  simp only[List.cons_append,List.drop_succ_cons,List.drop_zero,List.append_assoc,List.nil_append]
  rw[this]
  congr 1
  simp;omega
 unfold Bt
 rw[if_pos ⟨hlen,hby⟩,hQ]
def DR (a:Int):List B8->B8
 | []=>[10]
 | [c]=>c++[10]
 | c::r=>c++UInt8.ofNat a.toNat::DR a r
theorem O1 {a q:Int} (d:WW a q):∀(cs:List B8) (pre post:B8),cs≠ []->(∀c,c∈cs->JV a q c)->
  ∃ks e,HJ a q (pre++DR a cs++post) pre.length ks e 1/\e+1=pre.length+(DR a cs).length/\ks.map AB=cs/\slc (pre++DR a cs++post) e (e+1)=[10]
 | [],pre,post,h,_=>absurd rfl h
 | [c],pre,post,_,hok=>by
  have hs:pre++DR a [c]++post=pre++c++10::post:=by simp[DR]
  have hc:=hok c (by simp) pre 10 post (.inr rfl)
  rw[hs]
  have hlt:pre.length+c.length<(pre++c++10::post).length:=by simp
  have hb:(pre++c++10::post).getD (pre.length+c.length) 0=10:=by
   have:(pre++c).length=pre.length+c.length:=by simp
   rw[<-this,List.getD_eq_getElem?_getD,List.getElem?_append_right (Nat.le_refl _)]
   simp
  have hby:by_ (pre++c++10::post) (pre.length+c.length)=10:=by unfold by_;rw[hb];rfl
  refine⟨_,_,.last hc (by rintro⟨_,h⟩;rw[hby]at h;exact d.a10 h.symm) ?_,?_,?_,?_⟩
  ·unfold Ch;rw[if_neg (by omega),if_pos hby]
  ·simp[DR];omega
  ·simp only[List.map_cons,List.map_nil,B4]
   congr 1
   unfold slc
   rw[show pre.length+c.length=(pre++c).length by simp,List.take_left,List.drop_left]
  ·rw[Q9 hlt,hb]
 | c::c2::r,pre,post,_,hok=>by
  have hs:pre++DR a (c::c2::r)++post=pre++c++UInt8.ofNat a.toNat::(DR a (c2::r)++post):=by simp[DR]
  have hs2:pre++c++UInt8.ofNat a.toNat::(DR a (c2::r)++post)=(pre++c++[UInt8.ofNat a.toNat])++DR a (c2::r)++post:=by simp
  have hab:=J6 d.a0 (by have:=d.a1;omega:a<=255)
  have hc:=hok c (by simp) pre (UInt8.ofNat a.toNat) (DR a (c2::r)++post) (.inl hab)
  obtain⟨ks,e,h1,h2,h3,h4⟩:=O1 d (c2::r) (pre++c++[UInt8.ofNat a.toNat]) post (by simp) fun x hx=>hok x (.tail _ hx)
  rw[<-hs2]at h1 h4
  rw[hs]
  have hlt:pre.length+c.length<(pre++c++UInt8.ofNat a.toNat::(DR a (c2::r)++post)).length:=by simp
  have hb:(pre++c++UInt8.ofNat a.toNat::(DR a (c2::r)++post)).getD (pre.length+c.length) 0=UInt8.ofNat a.toNat:=by
   have:(pre++c).length=pre.length+c.length:=by simp
   rw[<-this,List.getD_eq_getElem?_getD,List.getElem?_append_right (Nat.le_refl _)]
   simp
  have hpl:(pre++c++[UInt8.ofNat a.toNat]).length=pre.length+c.length+1:=by simp;omega
  rw[hpl]at h1 h2
  refine⟨_,_,.more hc hlt (by unfold by_;rw[hb];exact hab) h1,?_,?_,h4⟩
  ·simp only[DR,List.length_append,List.length_cons];omega
  ·simp only[List.map_cons,B4]
   rw[h3]
   congr 1
   unfold slc
   rw[show pre.length+c.length=(pre++c).length by simp,List.take_left,List.drop_left]
def Ea (a:Int) (l:List (List B8)):B8:=l.flatMap (DR a)
theorem Oz {a q:Int} (d:WW a q):∀(l:List (List B8)) (pre:B8),(∀cs,cs∈l->cs≠ []/\∀c,c∈cs->JV a q c)->
  ∃rs,HH a q (pre++Ea a l) pre.length rs/\rs.map (fun r=>(As r).map AB)=l
 | [],pre,h=>⟨[],.nil (by simp[Ea]),rfl⟩
 | cs::l,pre,h=>by
  have hs:pre++Ea a (cs::l)=pre++DR a cs++Ea a l:=by simp[Ea]
  obtain⟨ks,e,h1,h2,h3,h4⟩:=O1 d cs pre (Ea a l) (h cs (by simp)).1 (h cs (by simp)).2
  obtain⟨rs,h5,h6⟩:=Oz d l (pre++DR a cs) (fun c hc=>h c (.tail _ hc))
  rw[hs]
  rw[List.length_append]at h5
  have hle:=h1.le (by simp)
  refine⟨_,.cons (by simp only[List.length_append]at hle⊢;omega) h1 (by rw[h2];exact h5),?_⟩
  rw[List.map_cons,h6]
  show ks.map AB::_=_
  rw[h3]
theorem N1 {a:Int} (h0:0<=a) (h1:a<128):∀cs:List B8,(∀c,c∈cs->AX c=c.length)->AX (DR a cs)=(DR a cs).length
 | [],_=>EF [10] rfl
 | [c],h=>I9 (h c (by simp)) (EF [10] rfl)
 | c::c2::r,h=>by
  have hab:=J6 h0 (by omega:a<=255)
  exact I9 (h c (by simp)) (JZ (by omega) (N1 h0 h1 (c2::r) fun x hx=>h x (.tail _ hx)))
theorem N0 {a:Int} (h0:0<=a) (h1:a<128):∀l:List (List B8),(∀r,r∈l->∀c,c∈r->AX c=c.length)->AX (Ea a l)=(Ea a l).length
 | [],_=>JY
 | r::l,h=>I9 (N1 h0 h1 r (h r (by simp))) (N0 h0 h1 l fun x hx=>h x (.tail _ hx))
theorem Th {x:Cx} {i:Nat} {v:Int} {ns:List B8} {e:Nat} (h3:Bt x.a x.q x.s i= .ok e) (h4:(txt x.q (slc x.s i e)).length<=1024) (h5:txt x.q (slc x.s i e)∉ns):
  Ei x true i v ns= .ok (e,v,txt x.q (slc x.s i e)::ns):=by
 simp only[Ei,if_true,true_and,bind,Except.bind,h3]
 rw[if_neg (by omega),if_neg h5]
theorem WK {x:Cx} {i:Nat} {v:Int} {ns:List B8} {e:Nat} {v1:Int} {ns1:List B8} (h:Ei x true i v ns= .ok (e,v1,ns1)):
  txt x.q (slc x.s i e)∉ns/\ns1=txt x.q (slc x.s i e)::ns/\(txt x.q (slc x.s i e)).length<=1024:=by
 simp only[Ei,if_true,true_and,bind,Except.bind]at h
 split at h
 ·cases h
 ·split at h
  ·cases h
  ·rename_i h2 h1
   split at h
   ·cases h
   ·rename_i h3
    cases h
    exact⟨h3,rfl,by omega⟩
def B0 (q:Int) (ks:List Nd):List B8:=ks.map fun k=>txt q (AB k)
theorem Xm {x:Cx} {num:Bool} {wid:Int}:∀{i:Nat} {ks:List Nd} {e m:Nat},HJ x.a x.q x.s i ks e m->∀(n:Nat) {acc:List Nd} {v:Int} {ns:List B8},
  i<=x.s.length->x.s.length<i+n->(∀t,t∈B0 x.q ks->t.length<=1024/\t∉ns)->(B0 x.q ks).Nodup->(num=true->((acc.length+ks.length:Nat):Int)<=wid)->∃ns',BX x num wid true n acc i v ns= .ok (e,v,ns',acc++ks):=by
 intro i ks e m h
 induction h with
 | @last i e m h1 h2 h3=>
  intro n acc v ns hi hn hk hnd hw
  cases n with
  | zero=>omega
  | succ n=>
  simp only[BX]
  rw[if_neg (by rintro⟨h,h'⟩;have:=hw h;simp at this;omega)]
  have hc:=hk _ (List.mem_singleton.2 rfl)
  dsimp only at hc
  rw[B4]at hc
  rw[Th h1 hc.1 hc.2]
  simp only[bind,Except.bind]
  rw[if_neg h2,h3]
  exact⟨_,rfl⟩
 | @more i e e' m ks h1 h2 h3 h4 ih=>
  intro n acc v ns hi hn hk hnd hw
  cases n with
  | zero=>omega
  | succ n=>
  simp only[BX]
  simp only[List.length_cons]at hw
  rw[if_neg (by rintro⟨h,h'⟩;have:=hw h;omega)]
  have hc:=hk _ (List.mem_cons_self ..)
  dsimp only at hc
  rw[B4]at hc
  rw[Th h1 hc.1 hc.2]
  simp only[bind,Except.bind]
  rw[if_pos ⟨h2,h3⟩]
  have hnd2:txt x.q (slc x.s i e)∉B0 x.q ks/\(B0 x.q ks).Nodup:=by
   have:=List.nodup_cons.1 hnd
   dsimp only at this
   rwa [B4]at this
  have hle:=Cd hi h1
  obtain⟨ns',hr⟩:=ih n (acc:=acc++[JI x.s i e [.mk 11 [] [x.s.getD e 0] [] []]]) (v:=v) (ns:=txt x.q (slc x.s i e)::ns) (by omega) (by omega) (fun t ht=>⟨(hk t (List.mem_cons_of_mem _ ht)).1,fun hm=>by
   rcases List.mem_cons.1 hm with rfl | hm
   ·exact hnd2.1 ht
   ·exact(hk t (List.mem_cons_of_mem _ ht)).2 hm⟩) hnd2.2 (fun hn=>by have:=hw hn;simp;omega)
  rw[hr,List.append_assoc]
  exact⟨ns',rfl⟩
theorem Wn {x:Cx} {num:Bool} {wid:Int}:∀(n:Nat) {acc:List Nd} {i:Nat} {v:Int} {ns:List B8} {e:Nat} {v':Int} {ns':List B8} {out:List Nd},
  BX x num wid true n acc i v ns= .ok (e,v',ns',out)->∃ks,out=acc++ks/\(B0 x.q ks).Nodup/\∀t,t∈B0 x.q ks->t.length<=1024/\t∉ns:=by
 intro n
 induction n with
 | zero=>intro acc i v ns e v' ns' out h;simp only[BX]at h;cases h
 | succ n ih=>
  intro acc i v ns e v' ns' out h
  simp only[BX]at h
  split at h
  ·cases h
  simp only[bind,Except.bind]at h
  split at h
  ·cases h
  rename_i p he
  obtain⟨e1,v1,ns1⟩:=p
  obtain⟨c1,c2,c3⟩:=WK he
  simp only at h
  split at h
  ·obtain⟨ks,k1,k2,k3⟩:=ih h
   refine⟨_::ks,by rw[k1,List.append_assoc];rfl,?_,?_⟩
   ·show(txt x.q (AB _)::B0 x.q ks).Nodup
    rw[B4]
    refine List.nodup_cons.2 ⟨fun hm=>?_,k2⟩
    exact(k3 _ hm).2 (by rw[c2];exact List.mem_cons_self ..)
   ·intro t ht
    rcases List.mem_cons.1 ht with rfl | ht
    ·dsimp only;rw[B4];exact⟨c3,c1⟩
    ·exact⟨(k3 t ht).1,fun hm=>(k3 t ht).2 (by rw[c2];exact List.mem_cons_of_mem _ hm)⟩
  ·split at h
   ·cases h
   cases h
   refine⟨_,rfl,by simp[B0],fun t ht=>?_⟩
   rw[List.mem_singleton.1 ht]
   dsimp only
   rw[B4]
   exact⟨c3,c1⟩
theorem Xp {x:Cx} {num:Bool} {wid:Int} {i:Nat} {ks:List Nd} {e m:Nat} (h:HJ x.a x.q x.s i ks e m) {v:Int} {ns:List B8}
  (hi:i<=x.s.length) (hk:∀t,t∈B0 x.q ks->t.length<=1024/\t∉ns) (hnd:(B0 x.q ks).Nodup) (hw:num=true->(ks.length:Int)=wid):
  ∃ns',FJ x num wid true i v ns= .ok (e+m,v,ns',.mk 8 [] [] ks (slc x.s e (e+m)),(ks.length:Int)):=by
 have hl:=h.le hi
 obtain⟨ns',hr⟩:=Xm (num:=num) (wid:=wid) h (x.s.length+1) (acc:=[]) (v:=v) (ns:=ns) hi (by omega) hk hnd (fun hn=>by rw[List.length_nil,Nat.zero_add,hw hn];omega)
 refine⟨ns',?_⟩
 rw[FI,if_pos rfl,hr]
 unfold GY
 simp only[hl.2.2.2.2]
 cases num with
 | true=>have:=hw rfl;simp only[if_true,List.nil_append];rw[<-this,if_neg (by omega)]
 | false=>simp only[Bool.false_eq_true,if_false,List.nil_append];rw[if_neg (by omega)]
theorem O3 {x:Cx} (n:Nat) {out:List Nd} {v:Int} {ns:List B8} {wid:Int} {i:Nat} (h:DX x true n [] i v ns wid= .ok out) (hi:i<=x.s.length):∀r,out.head? =some r->(B0 x.q (As r)).Nodup/\∀t,t∈B0 x.q (As r)->t.length<=1024:=by
 intro r hr
 cases n with
 | zero=>simp only[DX]at h;cases h
 | succ n=>
 simp only[DX]at h
 split at h
 ·cases h;cases hr
 simp only[bind,Except.bind]at h
 split at h
 ·cases h
 rename_i p h1
 obtain⟨i',v',ns',r1,wid'⟩:=p
 simp only[List.isEmpty_nil,Bool.and_true,Bool.not_true,List.nil_append]at h h1
 obtain⟨ks,e,m,rfl,rfl,k2,_⟩:=OA hi h1
 have hle:=k2.le hi
 obtain⟨rs,j1,_⟩:=O4 n (by omega) h
 rw[j1]at hr
 simp only[List.cons_append,List.nil_append,List.head?_cons,Option.some.injEq]at hr
 subst hr
 obtain⟨v1,_,h4⟩:=Ga h1
 obtain⟨e2,v2,ns2,ks2,m2,h2,_,_,hp⟩:=LF h4
 simp only[Prod.mk.injEq]at hp
 obtain⟨_,_,_,hk,_⟩:=hp
 simp only[Nd.mk.injEq,true_and]at hk
 obtain⟨ks3,q1,q2,q3⟩:=Wn _ h2
 rw[List.nil_append]at q1
 show(B0 x.q ks).Nodup/\∀t,t∈B0 x.q ks->t.length<=1024
 rw[hk.1,q1]
 exact⟨q2,fun t ht=>(q3 t ht).1⟩
theorem Yj {x:Cx} (hdep:3<=x.dep) {W:Int} {hdr:Bool} {rs:List Nd} (h:HH x.a x.q x.s 0 rs) (n:Nat) (hn:x.s.length<n)
  (hk:∀r,r∈rs->∀k,k∈As r->(txt x.q (AB k)).length<=65536) (hW:∀r,r∈rs->((As r).length:Int)=W) (hv:1+Ey hdr rs<=x.nod)
  (hh:hdr=true->∀r,rs.head? =some r->(B0 x.q (As r)).Nodup/\∀t,t∈B0 x.q (As r)->t.length<=1024):DX x hdr n [] 0 1 [] 0= .ok rs:=by
 cases hdr with
 | false=>exact VN hdep h n (acc:=[]) (Nat.zero_le _) (by omega) hk (fun h=>absurd rfl h) hW hv
 | true=>
  cases h with
  | nil h=>
   cases n with
   | zero=>omega
   | succ n=>simp only[DX];rw[if_pos h]
  | @cons _ e m ks rs h1 h2 h3=>
   cases n with
   | zero=>omega
   | succ n=>
   have hle:=h2.le (Nat.zero_le _)
   obtain⟨hnd,hl⟩:=hh rfl _ rfl
   have hks:(ks.length:Int)=W:=hW _ (List.mem_cons_self ..)
   have hm:0<e+m:=by
    rcases Nat.eq_zero_or_pos m with h0 | h0
    ·have:=(En (by omega) hle.2.2.2.2).2.1 h0;omega
    ·omega
   obtain⟨ns',hr⟩:=Xp (num:=false) (wid:=0) h2 (v:=1) (ns:=[]) (Nat.zero_le _) (fun t ht=>⟨hl t ht,by simp⟩) hnd (fun h=>by cases h)
   simp only[DX,List.isEmpty_nil,Bool.and_true,Bool.not_true]
   rw[if_neg (by omega),hr]
   simp only[bind,Except.bind,List.nil_append]
   have:=VN hdep h3 n (acc:=[.mk 8 [] [] ks (slc x.s e (e+m))]) (v:=1) (ns:=ns') (wid:=(ks.length:Int)) (by omega) (by omega) (fun r hr=>hk r (List.mem_cons_of_mem _ hr)) (fun _=>hks) (fun r hr=>hW r (List.mem_cons_of_mem _ hr)) (by
    unfold Ey at hv;simpa using hv)
   have e2:∀(n:Nat) (acc:List Nd) (i:Nat) (v:Int) (ns:List B8) (wid:Int),acc≠ []->DX x true n acc i v ns wid=DX x false n acc i v ns wid:=by
    intro n
    induction n with
    | zero=>intros;rfl
    | succ n ih=>
     intro acc i v ns wid ha
     have hb:acc.isEmpty=false:=by cases acc;exact absurd rfl ha;rfl
     simp only[DX,hb,Bool.and_false,Bool.not_false]
     split
     ·rfl
     ·simp only[bind,Except.bind]
      split
      ·rfl
      ·exact ih _ _ _ _ _ (by simp)
   rw[e2 _ _ _ _ _ _ (by simp),this]
   rfl
theorem QG:∀(rs:List Nd) (l:List (List B8)),rs.map (fun r=>(As r).map AB)=l->Fe rs=(l.length:Int)+Gw l
 | [],[],h=>by simp[Fe,Gw]
 | [],_::_,h=>by simp at h
 | _::_,[],h=>by simp at h
 | r::rs,c::l,h=>by
  simp only[List.map_cons,List.cons.injEq]at h
  have h1:=congrArg List.length h.1
  rw[List.length_map]at h1
  have ih:=QG rs l h.2
  simp only[Fe,LT,Gw,List.length_cons];omega
theorem UT (hd:Bool) (rs:List Nd):Ey hd rs<=Fe rs:=by
 unfold Ey
 split
 ·cases rs with
  | nil=>simp[Fe]
  | cons r rs=>simp only[List.tail_cons,Fe,LT];omega
 ·omega
theorem readX {a q:Int} (hd:dOk a q=true) (hdr:Bool) {l:List (List B8)} {W:Nat} (h:∀r,r∈l->r≠ []/\r.length=W/\∀c,c∈r->JV a q c/\AX c=c.length/\(txt q c).length<=65536)
  (hs:(Ea a l).length<=1048576) (hc:l.length+Gw l<=65535) (hh:hdr=true->∀r,l.head? =some r->(r.map (txt q)).Nodup/\∀c,c∈r->(txt q c).length<=1024):
  ∃rs,Mw (Ea a l) a q hdr= .ok (.mk 1 [] [] rs [])/\rs.map (fun r=>(As r).map AB)=l:=by
 have d:=Yl hd
 obtain⟨rs,hr,hm⟩:=Oz d l [] fun cs hcs=>⟨(h cs hcs).1,fun c hc=>((h cs hcs).2.2 c hc).1⟩
 rw[List.nil_append,List.length_nil]at hr
 have hv:=N0 d.a0 d.a1 l fun r hr c hc=>((h r hr).2.2 c hc).2.1
 have hmem:∀r,r∈rs->(As r).map AB∈l:=by
  intro r hr1
  rw[<-hm];exact List.mem_map.2 ⟨r,hr1,rfl⟩
 have hnk:∀r,B0 q (As r)=((As r).map AB).map (txt q):=fun r=>by unfold B0;rw[List.map_map];rfl
 have hdoc:=Yj (x:=xU (Ea a l) a q) (show(3:Int)<=48 by decide) (W:=(W:Int)) (hdr:=hdr) hr ((Ea a l).length+1) (by show(Ea a l).length<_;omega) (fun r hr1 k hk1=>
   ((h _ (hmem r hr1)).2.2 _ (List.mem_map.2 ⟨k,hk1,rfl⟩)).2.2) (fun r hr1=>by
   have:=(h _ (hmem r hr1)).2.1
   rw[List.length_map]at this;omega) (by
   have h1:=QG rs l hm
   have h2:=UT hdr rs
   show _<=(65536:Int);omega) (fun hb r hr1=>by
   have hl:l.head? =some ((As r).map AB):=by rw[<-hm,List.head?_map,hr1];rfl
   have:=hh hb _ hl
   show(B0 q (As r)).Nodup/\_
   rw[hnk]
   exact⟨this.1,fun t ht=>by
    obtain⟨c,hc,rfl⟩:=List.mem_map.1 ht
    exact this.2 c hc⟩)
 refine⟨rs,?_,hm⟩
 show AY (xU (Ea a l) a q) hdr 1048576 1024 65536=_
 unfold AY
 rw[if_neg (show ¬dOk a q=false by rw[hd];decide),if_neg (show ¬lOk 48 65536 1048576 1024 65536=false by decide),if_neg (show ¬(1048576:Int)<((Ea a l).length:Int) by omega),if_neg (show ¬AX (Ea a l)≠(Ea a l).length by rw[hv];simp)]
 rw[show DX (xU (Ea a l) a q) hdr ((xU (Ea a l) a q).s.length+1) [] 0 1 [] 0= .ok rs from hdoc]
noncomputable def Lv (a q:Int) (ty:Bool) (s:Sc):B8:=
 if s.kind=4 then(if El a q s.text=s.text/\(HF ty false s.text).kind≠4 then NC q s.text else El a q s.text)else plT s
def Kv (ty:Bool) (k:Int):Int:=if (ty=false/\k≠4)∨k=5∨k=6∨k=7 then 27 else 0
def BY (s:Sc):Vl:= .mk s [] []
def B5 (q:Int) (ty:Bool) (r:List B8):List Sc:=r.map fun c=>HF ty (Bm q c) (txt q c)
def SO (names:List B8) (row:List Sc):Vl:=Q2 (List.zipWith (fun k s=>Fd.mk k (BY s)) names row)
def A3 (rs:List Nd):List (List B8):=rs.map fun r=>(As r).map AB
theorem Nn.own {s:Sc} {l:List Vl} {f:List Fd} (h:Nn (.mk s l f)):QQ s l f/\MW l/\MX f:=by unfold Nn at h;exact h
def scW (k:Int):Sc:=⟨k,false,false,[],0,0,0,0,0,[],[]⟩
section
abbrev KG13:=Int->Bool->Bool->B8->Int->Int->Int->Int->Int->B8->TV->TV->TV->St->Prop
def KC (K:KG13) (x:Sc) (st:St):Prop:=K x.kind x.b x.neg x.dg x.ex x.tk x.td x.tn x.tz x.text .nilSlice .nilSlice .nilSlice st
abbrev NG:List CTy:=[.int .i64,.bool,.bool,.str,.int .i64,.int .i64,.int .i64,.int .i64,.int .i64,.str,.tv,.tv,.tv]
section
variable {a q:Int} {hd ty:Bool} {st:St}
theorem OT {s:B8} {qd:Bool} (hl:s.length<=1000000) {K:KG13} (hk:∀st',Aq st st'->KC K (HF ty qd s) st'):
  CallT PR Cz [.str s,.bool qd,.agg [.int .u8 a,.int .u8 q,.bool hd,.bool ty]] [.agg NG] st K:=by
 have e0:=Aq.refl st
 unfold HF at hk
 refine Q1 s qd a q hd ty st K (Ak (fun g=>GT s st _ (Ab (BK rfl rfl rfl) ?_)) fun g=>Ak (fun g2=>GT s st _ (Ab (BK rfl rfl rfl) ?_)) fun g2=>?_)
 ·have:ty=false:=by simpa using g
  rw[if_pos (.inl this)]at hk;exact hk st e0
 ·rw[if_pos (.inr g2)]at hk;exact hk st e0
 have g:ty=true:=by simpa using g
 rw[if_neg (by rw[g,g2];simp)]at hk
 have tail:s≠ []->s≠Ky->s≠Jy->CallT PR Cq [.str s] [.agg [.bool,.str,.int .i64],.one (.int .i64)] st (fun (b9:Bool) (s9:B8) (n25:Int) (n26:Int) (st5:St)=>BIf (decide (n26=(0:Int))) (CallT PR FP [(.agg [(.bool b9),(.str s9),(.int .i64 n25)])] [.agg NG] st5 (fun (n27:Int) (b10:Bool) (b11:Bool) (s10:B8) (n28:Int) (n29:Int) (n30:Int) (n31:Int) (n32:Int) (s11:B8) (v13:TV) (v14:TV) (v15:TV) (st6:St)=>need (List.all [(.int .i64 n27),(.bool b10),(.bool b11),(.str s10),(.int .i64 n28),(.int .i64 n29),(.int .i64 n30),(.int .i64 n31),(.int .i64 n32),(.str s11),v13,v14,v15] Ap) (K n27 b10 b11 s10 n28 n29 n30 n31 n32 s11 v13 v14 v15 st6)))
   (CallT PR CM [.str s] [.agg [.int .i64,.int .i64,.int .i64,.int .i64],.one (.int .i64)] st5 (fun (n33:Int) (n34:Int) (n35:Int) (n36:Int) (n37:Int) (st7:St)=>BIf (decide (n37=(0:Int))) (CallT PR EW [(.agg [(.int .i64 n33),(.int .i64 n34),(.int .i64 n35),(.int .i64 n36)])] [.agg NG] st7 (fun (n38:Int) (b12:Bool) (b13:Bool) (s12:B8) (n39:Int) (n40:Int) (n41:Int) (n42:Int) (n43:Int) (s13:B8) (v16:TV) (v17:TV) (v18:TV) (st8:St)=>need (List.all [(.int .i64 n38),(.bool b12),(.bool b13),(.str s12),(.int .i64 n39),(.int .i64 n40),(.int .i64 n41),(.int .i64 n42),(.int .i64 n43),(.str s13),v16,v17,v18] Ap) (K n38 b12 b13 s12 n39 n40 n41 n42 n43 s13 v16 v17 v18 st8)))
    (CallT PR CQ [.str s] [.agg NG] st7 (fun (n44:Int) (b14:Bool) (b15:Bool) (s14:B8) (n45:Int) (n46:Int) (n47:Int) (n48:Int) (n49:Int) (s15:B8) (v19:TV) (v20:TV) (v21:TV) (st9:St)=>need (List.all [(.int .i64 n44),(.bool b14),(.bool b15),(.str s14),(.int .i64 n45),(.int .i64 n46),(.int .i64 n47),(.int .i64 n48),(.int .i64 n49),(.str s15),v19,v20,v21] Ap) (K n44 b14 b15 s14 n45 n46 n47 n48 n49 s15 v19 v20 v21 st9)))))):=by
  intro h1 h2 h3
  rw[if_neg h1,if_neg h2,if_neg h3]at hk
  refine dP_ok hl ?_
  unfold KD
  generalize dcP s=d at*
  refine Aa (fun h4=>QS _ _ _ st _ (Ab (BK rfl rfl rfl) ?_)) fun h4=>tP_ok hl fun st1 e1=>?_
  ·rw[if_pos h4]at hk;exact hk st e0
  rw[if_neg h4]at hk
  unfold KT
  generalize tmP s=t at*
  refine Aa (fun h5=>Ps _ _ _ _ st1 _ (Ab (BK rfl rfl rfl) ?_)) fun h5=>GT s st1 _ (Ab (BK rfl rfl rfl) ?_)
  ·rw[if_pos h5]at hk;exact hk st1 e1
  ·rw[if_neg h5]at hk;exact hk st1 e1
 refine Aa (fun h1=>Pt st _ (Ab (BK rfl rfl rfl) ?_)) fun h1=>Aa (fun h2=>Aa (fun _=>Kr _ st _ (Ab (BK rfl rfl rfl) ?_)) fun h=>absurd h2 h) fun h2=>Aa (fun h3=>Kr _ st _ (Ab (BK rfl rfl rfl) ?_)) fun h3=>tail h1 h2 h3
 ·rw[if_pos h1]at hk;exact hk st e0
 ·rw[if_neg h1,if_pos (show s=Ky from h2)]at hk
  rw[decide_eq_true h2];exact hk st e0
 ·rw[if_neg h1,if_neg (show ¬s=Ky from h2),if_pos (show s=Jy from h3)]at hk
  rw[decide_eq_false h2];exact hk st e0
theorem Qw {s:B8} {qd:Bool} (hl:s.length<=1000000) {K:KG13} (hk:KC K (HF ty qd s) st):
  CallT PR B9 [.str s,.bool qd,.agg [.int .u8 a,.int .u8 q,.bool hd,.bool ty]] [.agg NG] st K:=by
 unfold HF at hk
 refine Jf s qd a q hd ty st K (Ak (fun g=>?_) fun g=>Ak (fun g2=>?_) fun g2=>?_)
 ·rw[if_pos (.inr g)]at hk;exact hk
 ·have:ty=false:=by simpa using g2
  rw[if_pos (.inl this)]at hk;exact hk
 have g2:ty=true:=by simpa using g2
 rw[if_neg (by rw[g,g2];simp)]at hk
 refine⟨fun s' _ _ _ _ _ _ _ _ _ _ _ _ _ n7 b3 b4 s3 n8 n9 n10 n11 n12 s4 v4 v5 v6 st'=>s=s'/\4=n7/\false=b3/\false=b4/\[]=s3/\0=n8/\0=n9/\0=n10/\0=n11/\0=n12/\s=s4/\.nilSlice=v4/\.nilSlice=v5/\.nilSlice=v6/\st=st'/\s≠ []/\s≠Ky/\s≠Jy,
  Aa (fun h1=>?_) fun h1=>Aa (fun h2=>Aa (fun _=>?_) fun h=>absurd h2 h) fun h2=>Aa (fun h3=>?_) fun h3=>⟨rfl,rfl,rfl,rfl,rfl,rfl,rfl,rfl,rfl,rfl,rfl,rfl,rfl,rfl,rfl,h1,h2,h3⟩,?_⟩
 ·rw[if_pos h1]at hk;exact hk
 ·rw[if_neg h1,if_pos (show s=Ky from h2)]at hk
  rw[decide_eq_true h2];exact hk
 ·rw[if_neg h1,if_neg (show ¬s=Ky from h2),if_pos (show s=Jy from h3)]at hk
  rw[decide_eq_false h2];exact hk
 rintro _ _ _ _ _ _ _ _ _ _ _ _ _ _ _ _ _ _ _ _ _ _ _ _ _ _ _ _ ⟨rfl,rfl,rfl,rfl,rfl,rfl,rfl,rfl,rfl,rfl,rfl,rfl,rfl,rfl,rfl,h1,h2,h3⟩
 rw[if_neg h1,if_neg h2,if_neg h3]at hk
 refine XU hl fun b2=>Aa (fun hn=>rP_ok hl ?_) fun hn=>rtP_ok hl ?_
 ·have ht:=Wz hn
  rw[if_neg ht]at hk
  unfold KD
  generalize dcP s=d at*
  refine Aa (fun h4=>?_) fun h4=>Ab (BK rfl rfl rfl) ?_
  ·rw[if_pos h4]at hk;exact hk
  ·rw[if_neg h4]at hk;exact hk
 ·have he:=(RG s).2 hn
  rw[if_neg (by omega)]at hk
  unfold KT
  generalize tmP s=t at*
  refine Aa (fun h4=>?_) fun h4=>Ab (BK rfl rfl rfl) ?_
  ·rw[if_pos h4]at hk;exact hk
  ·rw[if_neg h4]at hk;exact hk
end
end
section
noncomputable def shE (a q:Int) (ty:Bool) (v:Vl):Int:=if dOk a q=false then 1 else if JN v≠0 then(JN v:Int)else Kv ty v.sc.kind
noncomputable def shT (a q:Int) (ty:Bool) (v:Vl):B8:=if shE a q ty v=0 then Lv a q ty v.sc else []
theorem Wt {a q:Int} {s:B8} (hd:dOk a q=true) (hv:AX s=s.length):OC a q s= .ok (El a q s):=by
 unfold OC
 rw[if_neg (by rw[hd];decide),if_pos hv]
section
variable {a q:Int} {hd ty:Bool} {st:St}
theorem X2 {s:Sc} {ub ul uf:TV} (hdo:dOk a q=true) (hk0:0<=s.kind) (hk7:s.kind<=7) (hdec:s.kind=2->FD s.neg s.dg s.ex) (htm:s.kind=3->Ft s.tk s.td s.tn s.tz) (hu:s.kind=4->AX s.text=s.text.length) (hl:s.text.length<=1000000)
  {K:B8->Int->St->Prop} (hk:∀st',Aq st st'->K (if Kv ty s.kind=0 then Lv a q ty s else []) (Kv ty s.kind) st'):
  CallT PR Ig [.agg (A7 s ub ul uf),.agg [.int .u8 a,.int .u8 q,.bool hd,.bool ty]] [.one .str,.one (.int .i64)] st K:=by
 have e0:=Aq.refl st
 have d:=Yl hdo
 have ok:Kv ty s.kind=0->∀st',Aq st st'->K (Lv a q ty s) 0 st':=fun he st' e=>by have:=hk st' e;rwa [if_pos he,he]at this
 have bad:Kv ty s.kind=27->K [] 27 st:=fun he=>by have:=hk st e0;rwa [he,if_neg (by decide)]at this
 refine QX _ _ _ _ _ _ _ _ _ _ _ _ _ a q hd ty st K (Ak (fun g=>Aa (fun g1=>bad ?_) fun g1=>?sw1) fun g=>?sw2)
 ·have hty:ty=false:=by simpa using g
  unfold Kv;rw[if_pos (.inl ⟨hty,g1⟩)]
 case sw1 | sw2=>
  have hE:s.kind<=4->Kv ty s.kind=0:=fun h4=>by
   unfold Kv
   rw[if_neg]
   rintro(⟨h,h'⟩ | h)
   ·first
     | exact g1 h'
     | (rw[h]at g;cases g)
   ·omega
  have hP:∀t,s.kind≠4->plT s=t->Lv a q ty s=t:=fun t h4 h=>by unfold Lv;rw[if_neg h4];exact h
  refine Aa (fun k0=>?_) fun k0=>Aa (fun k1=>Ak (fun hb=>?_) fun hb=>?_) fun k1=>Aa (fun k2=>Yn (hdec k2) fun st1 e1=>?_) fun k2=>Aa (fun k3=>XK (htm k3) fun st1 e1=>?_) fun k3=>Aa (fun k4=>?_) fun k4=>bad ?_
  ·have:=ok (hE (by omega)) st e0
   rwa [hP [] (by omega) (by unfold plT;rw[if_neg (by omega),if_neg (by omega),if_neg (by omega)])]at this
  ·have:=ok (hE (by omega)) st e0
   rwa [hP Ky (by omega) (by unfold plT;rw[if_pos k1,if_pos hb])]at this
  ·have:=ok (hE (by omega)) st e0
   rwa [hP Jy (by omega) (by unfold plT;rw[if_pos k1,if_neg (by rw[hb];decide)])]at this
  ·have:=ok (hE (by omega)) st1 e1
   rwa [hP _ (by omega) (by unfold plT;rw[if_neg (by omega),if_pos k2])]at this
  ·have:=ok (hE (by omega)) st1 e1
   rwa [hP _ (by omega) (by unfold plT;rw[if_neg (by omega),if_neg (by omega),if_pos k3])]at this
  ·have hu:=hu k4
   have ok:=ok (hE (by omega))
   have hS:Lv a q ty s=if El a q s.text=s.text/\(HF ty false s.text).kind≠4 then NC q s.text else El a q s.text:=by unfold Lv;rw[if_pos k4]
   refine Wv (by omega) ?_
   rw[Wt hdo hu]
   refine Aa (fun h=>absurd rfl h) fun _=>Aa (fun h1=>?_) fun h1=>?_
   ·have:=ok st e0
    rwa [hS,if_neg fun h=>h1 h.1]at this
   ·have h1:El a q s.text=s.text:=Decidable.not_not.1 h1
    show CallT PR Cz [.str (El a q s.text),.bool false,.agg [.int .u8 a,.int .u8 q,.bool hd,.bool ty]] [.agg NG] st _
    rw[h1]
    refine OT hl fun st1 e1=>Aa (fun h2=>?_) fun h2=>?_
    ·have:=ok st1 e1
     rwa [hS,if_neg fun h=>h.2 h2,h1]at this
    ·have hq1:=d.q1
     have hqn:=J6 (q:=q) d.q0 (by omega)
     refine Ad (Me st1 (UInt8.ofNat q.toNat) hqn) (Am ⟨by simp,KA (s:=s.text) (by simp) (by omega) ?_⟩)
     have hdl:=RH (UInt8.ofNat q.toNat) s.text
     unfold dbl at hdl
     refine⟨by simp only[List.length_cons,List.length_nil];omega,by simp only[List.length_append,List.length_cons,List.length_nil];omega,?_⟩
     have:=ok st1 e1
     rwa [hS,if_pos ⟨h1,h2⟩]at this
  ·unfold Kv;rw[if_pos (by omega)]
theorem X5 {v:Vl} (hN:v.sz<=2000000) {cs:List TV} {K:B8->Int->St->Prop} (h:VlR St.zero v cs) (hk:∀st',Aq st st'->K (shT a q ty v) (shE a q ty v) st'):
  CallT PR Ii [.agg cs,.agg [.int .u8 a,.int .u8 q,.bool hd,.bool ty]] [.one .str,.one (.int .i64)] st K:=by
 obtain⟨s,l,f⟩:=v
 obtain⟨ub,ul,uf,xl,xf,rfl,_⟩:=h.cells
 unfold shT at hk
 refine QZ _ _ _ _ _ _ _ _ _ _ _ _ _ a q hd ty st K (MO (Ak (fun g=>?_) fun g=>?_))
 ·have he:shE a q ty (.mk s l f)=1:=by unfold shE;rw[if_pos (by simpa using g)]
  have:=hk st (Aq.refl _)
  rwa [he,if_neg (by decide)]at this
 have g:dOk a q=true:=by simpa using g
 refine YI (v:= .mk s l f) (by omega) h (K6 _) fun st1 e1=>Aa (fun g1=>?_) fun g1=>?_
 ·have he:shE a q ty (.mk s l f)=(JN (.mk s l f):Int):=by unfold shE;rw[if_neg (by rw[g];decide),if_pos (by omega)]
  have:=hk st1 e1
  rwa [he,if_neg (by omega)]at this
 have g1:JN (.mk s l f)=0:=by omega
 have he:shE a q ty (.mk s l f)=Kv ty s.kind:=by unfold shE;rw[if_neg (by rw[g];decide),if_neg (by omega)];rfl
 rw[he]at hk
 have ho:=(Tu g1).own.1
 have hsz:=szs s l f
 refine X2 g ho.own.k0 ho.own.k7 (fun _=>ho.dec) ho.time (fun _=>ho.text) (by have:=ho.tlen;omega) fun st2 e2=>?_
 exact hk st2 (e1.trans e2)
end
end
section
structure RS (a q:Int) (rs:List Nd) (W:Nat):Prop where
 form:∀r,r∈rs->RecF a q r
 wid:∀r,r∈rs->(As r).length=W
 len:∀r,r∈rs->∀k,k∈As r->(txt q (AB k)).length<=65536/\(AB k).length<=2000000
 cnt:rs.length<=2000000
 wlen:W<=10000000
def CK (q:Int) (hd ty:Bool):List (List B8)->List Vl
 | []=>[]
 | h::t=>if hd then t.map fun r=>SO (h.map (txt q)) (B5 q ty r)else(h::t).map fun r=>Dg ((B5 q ty r).map BY)
theorem EH (q:Int) (ty:Bool) (l:List (List B8)):CK q false ty l=l.map fun r=>Dg ((B5 q ty r).map BY):=by
 cases l<;>rfl
theorem H1 {q:Int} {ty:Bool} {l:List (List B8)} {j:Nat} {row:List B8} (h:l[j]? =some row):CK q false ty (l.take (j+1))=CK q false ty (l.take j)++[Dg ((B5 q ty row).map BY)]:=by
 rw[EH,EH,List.take_add_one,h,List.map_append];rfl
theorem Ll (q:Int) (ty:Bool) (l:List (List B8)):CK q true ty (l.take 1)=[]:=by
 cases l<;>rfl
theorem HZ {q:Int} {ty:Bool} {l:List (List B8)} {j:Nat} {row h0:List B8} (h:l[j]? =some row) (hj:0<j) (h1:l[0]? =some h0):CK q true ty (l.take (j+1))=CK q true ty (l.take j)++[SO (h0.map (txt q)) (B5 q ty row)]:=by
 cases l with
 | nil=>cases h1
 | cons x t=>
  obtain⟨i,rfl⟩:∃i,j=i+1:=⟨j-1,by omega⟩
  simp only[List.getElem?_cons_zero,Option.some.injEq]at h1
  subst h1
  simp only[List.getElem?_cons_succ]at h
  show(t.take (i+1)).map _=(t.take i).map _++_
  rw[List.take_add_one,h,List.map_append];rfl
theorem FB.ldA {α:Type} {f:α->TV} {v:TV} {rows:List (List α)} (h:FB f v rows) {i:Nat} {row:List α} (hr:rows[i]? =some row):∃u,(∀st,Ac st [] (.t (ixT 1 v i)) 0=some u)/\JR f u row:=by
 obtain⟨vs,h1,h2,h3⟩:=h
 have hlt:i<vs.length:=by rw[h2];exact(List.getElem?_eq_some_iff.1 hr).1
 have hu:=List.getElem?_eq_getElem hlt
 exact⟨vs[i],fun st=>Rd.ldx h1 st i 0 (by rw[Nat.mul_one,Nat.add_zero];exact hu),h3 i _ row hu hr⟩
theorem NJ (s:Sc) (h:s.bytes=[]):VlR St.zero (BY s) (A7 s .nilSlice .nilSlice .nilSlice):=vlLeaf St.zero s h
theorem NI {l:List Vl} {u:TV} {xs:List TV} (h:Rd 13 u l.length xs) (hv:VsR St.zero l xs):VlR St.zero (Dg l) (A7 (scW 6) .nilSlice u .nilSlice):=by
 unfold Dg VlR
 exact⟨_,_,_,xs,[],rfl,.of_rd (.inl ⟨rfl,rfl,rfl⟩),.of_rd h,hv,.of_rd (.inl ⟨rfl,rfl,rfl⟩),by unfold FsR;rfl⟩
theorem W2 {f:List Fd} {u:TV} {xs:List TV} (h:Rd 14 u f.length xs) (hv:FsR St.zero f xs):VlR St.zero (Q2 f) (A7 (scW 7) .nilSlice .nilSlice u):=by
 unfold Q2 VlR
 exact⟨_,_,_,[],xs,rfl,.of_rd (.inl ⟨rfl,rfl,rfl⟩),.of_rd (.inl ⟨rfl,rfl,rfl⟩),by unfold VsR;rfl,.of_rd h,hv⟩
theorem SI {q:Int} {ty:Bool} {ks:List Nd} {m:Nat} {k:Nd} (h:ks[m]? =some k):(B5 q ty (ks.map AB))[m]? =some (HF ty (Bm q (AB k)) (txt q (AB k))):=by
 unfold B5
 rw[List.getElem?_map,List.getElem?_map,h];rfl
theorem F8 (q:Int) (ty:Bool) (l:List B8):(B5 q ty l).length=l.length:=by unfold B5;rw[List.length_map]
theorem P1 {q:Int} {ty:Bool} {ks:List Nd} {m:Nat} {k:Nd} (h:ks[m]? =some k):((B5 q ty (ks.map AB)).take (m+1)).map BY=((B5 q ty (ks.map AB)).take m).map BY++[BY (HF ty (Bm q (AB k)) (txt q (AB k)))]:=by
 rw[List.take_add_one,SI h,List.map_append];rfl
def GS (names:List B8) (row:List Sc):List Fd:=List.zipWith (fun k s=>Fd.mk k (BY s)) names row
theorem P2 {names:List B8} {row:List Sc} {m:Nat} {nm:B8} {s:Sc} (h1:names[m]? =some nm) (h2:row[m]? =some s):GS (names.take (m+1)) (row.take (m+1))=GS (names.take m) (row.take m)++[Fd.mk nm (BY s)]:=by
 unfold GS
 rw[<-List.take_zipWith,<-List.take_zipWith,List.take_add_one]
 congr 1
 rw[List.getElem?_zipWith,h1,h2];rfl
section
variable {a q:Int} {hd ty:Bool} {st:St}
theorem Qv {n:Nd} {cs:List TV} (hc:NdC n cs) (hl:Ce n<=100000000000000) (hcn:BZ n<=1000000000000000) (ht:Ef n a q hd->∃W,RS a q (CS n) W) {K:Int->Bool->Bool->B8->Int->Int->Int->Int->Int->B8->TV->TV->TV->Int->St->Prop}
  (hk1:¬Ef n a q hd->∀st',Aq st st'->K 0 false false [] 0 0 0 0 0 [] .nilSlice .nilSlice .nilSlice 1 st')
  (hk2:Ef n a q hd->∀u xs st',Aq st st'->Rd 13 u (CK q hd ty (A3 (CS n))).length xs->VsR St.zero (CK q hd ty (A3 (CS n))) xs->K 6 false false [] 0 0 0 0 0 [] .nilSlice u .nilSlice 0 st'):
  CallT PR EZ [.agg cs,.agg [.int .u8 a,.int .u8 q,.bool hd,.bool ty]] [.agg NG,.one (.int .i64)] st K:=by
 have w1:∀k:Nat,k<=100000000->i64.wrap ((k:Int)+1)=((k+1:Nat):Int):=fun k hk=>by rw[Ah _ (by omega) (by omega)];omega
 have tn:∀k:Nat,Int.toNat (k:Int)=k:=fun k=>rfl
 obtain⟨kd,t0,t1,kv,tl,rfl,_⟩:=hc.five
 refine PB kd t0 t1 kv tl a q hd ty st K (ST hc hl hcn fun v1 st1 e1 g1=>?_)
 by_cases ho:Ef n a q hd
 case neg=>
  have he:EC n a q hd=1:=by unfold EC;rw[if_neg ho]
  rw[he]
  exact Aa (fun _=>hk1 ho st1 e1) fun h=>absurd (by decide) h
 have he:EC n a q hd=0:=by unfold EC;rw[if_pos ho]
 have hg:∀{α:Type} (g:B8->α),DE g n a q hd=BN g (CS n):=fun g=>by unfold DE;rw[if_pos ho]
 rw[he]
 refine Aa (fun h=>absurd rfl h) fun _=>Uf hc hl hcn fun v2 st2 e2 g2=>?_
 rw[hg]at g1 g2
 obtain⟨W,hT⟩:=ht ho
 clear ht
 have hk2:=hk2 ho
 generalize hrs:CS n=rs at*
 have e12:=e1.trans e2
 have hcnt:=hT.cnt
 have hwl:=hT.wlen
 obtain⟨vs1,hr1⟩:=g1.rd
 obtain⟨vs2,hr2⟩:=g2.rd
 have hL:∀{α:Type} (g:B8->α),(BN g rs).length=rs.length:=fun g=>by unfold BN;rw[List.length_map]
 rw[hL]at hr1 hr2
 have hget:∀{α:Type} (g:B8->α) {j:Nat} {r:Nd},rs[j]? =some r->(BN g rs)[j]? =some ((As r).map fun k=>g (AB k)):=fun g j r h=>by unfold BN;rw[List.getElem?_map,h];rfl
 have hraw:∀{j:Nat} {r:Nd},rs[j]? =some r->(A3 rs)[j]? =some ((As r).map AB):=fun {j r} h=>by unfold A3;rw[List.getElem?_map,h];rfl
 have hrawl:(A3 rs).length=rs.length:=by unfold A3;rw[List.length_map]
 refine Ab hr1.isSl ?_
 refine⟨fun zn zr zq zv zm c1 c2 b1 b2 kA boA ngA dgA exA tkA tdA tnA tzA txA u0A u1A u2A kB boB ngB dgB exB tkB tdB tnB tzB txB u0B u1B u2B st'=>v1=zr/\v2=zq/\v1=zv/\(rs.length:Int)=zm/\a=c1/\q=c2/\hd=b1/\ty=b2/\6=kB/\false=boB/\false=ngB/\[]=dgB/\0=exB/\0=tkB/\0=tdB/\0=tnB/\0=tzB/\[]=txB/\.nilSlice=u0B/\.nilSlice=u2B/\Aq st2 st'/\∃j:Nat,zn=(j:Int)/\j<=rs.length/\∃xs,Own st2.nt 13 st' u1B (CK q hd ty ((A3 rs).take j)).length xs/\VsR St.zero (CK q hd ty ((A3 rs).take j)) xs,
  fun n _ _ _ _ _ _ _ _ _ _ _ _ _ _ _ _ _ _ _ _ _ _ _ _ _ _ _ _ _ _ _ _ _ _ _=>(rs.length-n).toNat,⟨rfl,rfl,rfl,by rw[hr1.lenS],rfl,rfl,rfl,rfl,rfl,rfl,rfl,rfl,rfl,rfl,rfl,rfl,rfl,rfl,rfl,rfl,Aq.refl _,0,rfl,Nat.zero_le _,[],by rw[List.take_zero];exact Own.nil _ _ _,by rw[List.take_zero];exact VsR.nil _⟩,?_⟩
 rintro _ _ _ _ _ _ _ _ _ kA boA ngA dgA exA tkA tdA tnA tzA txA u0A u1A u2A _ _ _ _ _ _ _ _ _ _ _ vB _ st3 ⟨rfl,rfl,rfl,rfl,rfl,rfl,rfl,rfl,rfl,rfl,rfl,rfl,rfl,rfl,rfl,rfl,rfl,rfl,rfl,rfl,e3,j,rfl,hj,xs,hB,hBv⟩
 rw[tn]
 refine Aa (fun g=>?_) fun g=>?_
 case refine_2=>
  have hjl:(A3 rs).take j=A3 rs:=List.take_of_length_le (by omega)
  rw[hjl]at hB hBv
  refine Ab (BK rfl hB.rd.one rfl) (hk2 _ xs _ (e12.trans e3) hB.rd hBv)
 have hjlt:j<rs.length:=by omega
 obtain⟨r,hjr⟩:∃r,rs[j]? =some r:=⟨_,List.getElem?_eq_getElem hjlt⟩
 have hmem:=List.mem_of_getElem? hjr
 have hwid:=hT.wid r hmem
 obtain⟨uj,hlj,rj⟩:=g1.ldA (hget (txt q) hjr)
 obtain⟨qj,hlq,rq⟩:=g2.ldA (hget (Bm q) hjr)
 have hrjl:=Rd.lenS rj
 have hrjz:=Rd.lenZ rj
 have hrqz:=Rd.lenZ rq
 rw[List.length_map,hwid]at hrjl hrjz hrqz
 refine⟨⟨by omega,by rw[hr1.lenZ];omega⟩,Ad (hlj _) (Ak (fun hh=>Ab (Rd.isSl rj) ?_) fun hh=>Aa (fun g0=>Ab (Rd.isSl rj) ?_) fun g0=>?_)⟩
 ·have hhd:hd=false:=by simpa using hh
  subst hhd
  refine⟨fun zn zr zq zi zv zm n5 v3 n6 c1 c2 b7 b8 kA boA ngA dgA exA tkA tdA tnA tzA txA u0A u1A u2A kB boB ngB dgB exB tkB tdB tnB tzB txB u0B u1B u2B kC boC ngC dgC exC tkC tdC tnC tzC txC u0C u1C u2C st'=>v1=zr/\v2=zq/\(j:Int)=zi/\v1=zv/\(rs.length:Int)=zm/\(j:Int)=n5/\uj=v3/\(W:Int)=n6/\a=c1/\q=c2/\false=b7/\ty=b8/\6=kB/\false=boB/\false=ngB/\[]=dgB/\0=exB/\0=tkB/\0=tdB/\0=tnB/\0=tzB/\[]=txB/\.nilSlice=u0B/\.nilSlice=u2B/\vB=u1B/\6=kC/\false=boC/\false=ngC/\[]=dgC/\0=exC/\0=tkC/\0=tdC/\0=tnC/\0=tzC/\[]=txC/\.nilSlice=u0C/\.nilSlice=u2C/\Aq st3 st'/\∃m':Nat,zn=(m':Int)/\m'<=W/\∃ys,Own st3.nt 13 st' u1C m' ys/\VsR St.zero (((B5 q ty ((As r).map AB)).take m').map BY) ys,
   fun n _ _ _ _ _ _ _ _ _ _ _ _ _ _ _ _ _ _ _ _ _ _ _ _ _ _ _ _ _ _ _ _ _ _ _ _ _ _ _ _ _ _ _ _ _ _ _ _ _ _ _ _=>(W-n).toNat,⟨rfl,rfl,rfl,rfl,rfl,rfl,rfl,by rw[hrjl],rfl,rfl,rfl,rfl,rfl,rfl,rfl,rfl,rfl,rfl,rfl,rfl,rfl,rfl,rfl,rfl,rfl,rfl,rfl,rfl,rfl,rfl,rfl,rfl,rfl,rfl,rfl,rfl,rfl,Aq.refl _,0,rfl,Nat.zero_le _,[],Own.nil _ _ _,by rw[List.take_zero];exact VsR.nil _⟩,?_⟩
  rintro _ _ _ _ _ _ _ _ _ _ _ _ _ kA boA ngA dgA exA tkA tdA tnA tzA txA u0A u1A u2A _ _ _ _ _ _ _ _ _ _ _ _ _ _ _ _ _ _ _ _ _ _ _ _ vC _ st4 ⟨rfl,rfl,rfl,rfl,rfl,rfl,rfl,rfl,rfl,rfl,rfl,rfl,rfl,rfl,rfl,rfl,rfl,rfl,rfl,rfl,rfl,rfl,rfl,rfl,rfl,rfl,rfl,rfl,rfl,rfl,rfl,rfl,rfl,rfl,rfl,rfl,rfl,e4,m,rfl,hm,ys,hC,hCv⟩
  rw[tn,tn]
  refine Aa (fun g=>?_) fun g=>?_
  ·have hmlt:m<(As r).length:=by omega
   obtain⟨k,hkm⟩:∃k,(As r)[m]? =some k:=⟨_,List.getElem?_eq_getElem hmlt⟩
   have hkl:=hT.len r hmem k (List.mem_of_getElem? hkm)
   have l1:=JR.ld rj st4 (i:=m) (a:=txt q (AB k)) (by rw[List.getElem?_map,hkm];rfl)
   have l2:=JR.ld rq st4 (i:=m) (a:=Bm q (AB k)) (by rw[List.getElem?_map,hkm];rfl)
   refine⟨⟨by omega,by rw[hrjz];omega⟩,Ad l1 (Am ⟨⟨by omega,by rw[hr2.lenZ];omega⟩,Ad (hlq _) ⟨⟨by omega,by rw[hrqz];omega⟩,Ad l2 (Ar ?_)⟩⟩)⟩
   refine OT (by omega) fun st5 e5=>⟨hlq _,Ab (BK rfl rfl rfl) ?_⟩
   have hcb:=GM ty (Bm q (AB k)) (txt q (AB k))
   refine Bz (e4.trans e5) rfl (hC.ext e5) (by omega) (fun h=>by cases h) fun v' st6 e6 _ ho'=>Ab (List.all_eq_true.2 fun x hx=>by rw[List.mem_singleton.1 hx];exact ho'.rd.one) ?_
   rw[w1 m (by omega)]
   refine⟨⟨rfl,rfl,rfl,rfl,rfl,rfl,rfl,rfl,rfl,rfl,rfl,rfl,rfl,rfl,rfl,rfl,rfl,rfl,rfl,rfl,rfl,rfl,rfl,rfl,rfl,rfl,rfl,rfl,rfl,rfl,rfl,rfl,rfl,rfl,rfl,rfl,rfl,e6,m+1,rfl,by omega,_,ho',?_⟩,by dsimp only;omega⟩
   rw[P1 hkm]
   exact hCv.snoc (NJ _ hcb)
  ·have hmW:m=W:=by omega
   subst hmW
   have hfull:(B5 q ty ((As r).map AB)).take (As r).length=B5 q ty ((As r).map AB):=List.take_of_length_le (by rw[F8,List.length_map];omega)
   rw[<-hwid]at hC hCv
   rw[hfull]at hCv
   have hx:VlR St.zero (Dg ((B5 q ty ((As r).map AB)).map BY)) (A7 (scW 6) .nilSlice vC .nilSlice):=NI (by rw[List.length_map,F8,List.length_map];exact hC.rd) hCv
   refine Ab (BK rfl hC.rd.one rfl) ?_
   have hlen:(CK q false ty ((A3 rs).take j)).length<=2000000:=by rw[EH,List.length_map,List.length_take];omega
   refine Bz (e3.trans e4) rfl (hB.ext e4) (by omega) (fun h=>by cases h) fun v' st6 e6 _ ho'=>Ab (List.all_eq_true.2 fun x hx=>by rw[List.mem_singleton.1 hx];exact ho'.rd.one) ?_
   rw[w1 j (by omega)]
   refine⟨⟨rfl,rfl,rfl,rfl,rfl,rfl,rfl,rfl,rfl,rfl,rfl,rfl,rfl,rfl,rfl,rfl,rfl,rfl,rfl,rfl,e6,j+1,rfl,by omega,xs++A7 (scW 6) .nilSlice vC .nilSlice,?_,?_⟩,by dsimp only;omega⟩
   ·rw[H1 (hraw hjr),List.length_append];exact ho'
   ·rw[H1 (hraw hjr)];exact hBv.snoc hx
 ·have hhd:hd=true:=by cases hd;exact absurd hh (by decide);rfl
  subst hhd
  obtain⟨r0,hj0⟩:∃r,rs[0]? =some r:=⟨_,List.getElem?_eq_getElem (by omega)⟩
  have hmem0:=List.mem_of_getElem? hj0
  have hwid0:=hT.wid r0 hmem0
  obtain⟨u0,hl0,rr0⟩:=g1.ldA (hget (txt q) hj0)
  have hr0z:=Rd.lenZ rr0
  rw[List.length_map,hwid0]at hr0z
  refine⟨fun zn zr zq zi zv zm n5 v3 n6 c1 c2 b7 b8 kA boA ngA dgA exA tkA tdA tnA tzA txA u0A u1A u2A kB boB ngB dgB exB tkB tdB tnB tzB txB u0B u1B u2B kC boC ngC dgC exC tkC tdC tnC tzC txC u0C u1C u2C st'=>v1=zr/\v2=zq/\(j:Int)=zi/\v1=zv/\(rs.length:Int)=zm/\(j:Int)=n5/\uj=v3/\(W:Int)=n6/\a=c1/\q=c2/\true=b7/\ty=b8/\6=kB/\false=boB/\false=ngB/\[]=dgB/\0=exB/\0=tkB/\0=tdB/\0=tnB/\0=tzB/\[]=txB/\.nilSlice=u0B/\.nilSlice=u2B/\vB=u1B/\7=kC/\false=boC/\false=ngC/\[]=dgC/\0=exC/\0=tkC/\0=tdC/\0=tnC/\0=tzC/\[]=txC/\.nilSlice=u0C/\.nilSlice=u1C/\Aq st3 st'/\∃m':Nat,zn=(m':Int)/\m'<=W/\∃ys,Own st3.nt 14 st' u2C m' ys/\FsR St.zero (GS ((((As r0).map AB).map (txt q)).take m') ((B5 q ty ((As r).map AB)).take m')) ys,
   fun n _ _ _ _ _ _ _ _ _ _ _ _ _ _ _ _ _ _ _ _ _ _ _ _ _ _ _ _ _ _ _ _ _ _ _ _ _ _ _ _ _ _ _ _ _ _ _ _ _ _ _ _=>(W-n).toNat,⟨rfl,rfl,rfl,rfl,rfl,rfl,rfl,by rw[hrjl],rfl,rfl,rfl,rfl,rfl,rfl,rfl,rfl,rfl,rfl,rfl,rfl,rfl,rfl,rfl,rfl,rfl,rfl,rfl,rfl,rfl,rfl,rfl,rfl,rfl,rfl,rfl,rfl,rfl,Aq.refl _,0,rfl,Nat.zero_le _,[],Own.nil _ _ _,by rw[List.take_zero,List.take_zero];exact FsR.nil _⟩,?_⟩
  rintro _ _ _ _ _ _ _ _ _ _ _ _ _ kA boA ngA dgA exA tkA tdA tnA tzA txA u0A u1A u2A _ _ _ _ _ _ _ _ _ _ _ _ _ _ _ _ _ _ _ _ _ _ _ _ _ vC st4 ⟨rfl,rfl,rfl,rfl,rfl,rfl,rfl,rfl,rfl,rfl,rfl,rfl,rfl,rfl,rfl,rfl,rfl,rfl,rfl,rfl,rfl,rfl,rfl,rfl,rfl,rfl,rfl,rfl,rfl,rfl,rfl,rfl,rfl,rfl,rfl,rfl,rfl,e4,m,rfl,hm,ys,hC,hCv⟩
  rw[tn,tn]
  refine Aa (fun g=>?_) fun g=>?_
  ·have hmlt:m<(As r).length:=by omega
   have hmlt0:m<(As r0).length:=by omega
   obtain⟨k,hkm⟩:∃k,(As r)[m]? =some k:=⟨_,List.getElem?_eq_getElem hmlt⟩
   obtain⟨k0,hkm0⟩:∃k,(As r0)[m]? =some k:=⟨_,List.getElem?_eq_getElem hmlt0⟩
   have hkl:=hT.len r hmem k (List.mem_of_getElem? hkm)
   have l1:=JR.ld rj st4 (i:=m) (a:=txt q (AB k)) (by rw[List.getElem?_map,hkm];rfl)
   have l0:∀st,Ac st [] (.t (ixT 1 u0 m)) 0=some (.str (txt q (AB k0))):=fun st=>JR.ld rr0 st (i:=m) (a:=txt q (AB k0)) (by rw[List.getElem?_map,hkm0];rfl)
   have l2:=JR.ld rq st4 (i:=m) (a:=Bm q (AB k)) (by rw[List.getElem?_map,hkm];rfl)
   refine⟨⟨by omega,by rw[hrjz];omega⟩,Ad l1 (Am ⟨⟨by omega,by rw[hr1.lenZ];omega⟩,Ad (hl0 _) ⟨⟨by omega,by rw[hr0z];omega⟩,Ad (l0 _) (Am ⟨⟨by omega,by rw[hr2.lenZ];omega⟩,Ad (hlq _) ⟨⟨by omega,by rw[hrqz];omega⟩,Ad l2 (Ar ?_)⟩⟩)⟩⟩)⟩
   refine OT (by omega) fun st5 e5=>⟨hlq _,l0 _,hl0 _,Ab (one14 rfl rfl rfl) ?_⟩
   have hcb:=GM ty (Bm q (AB k)) (txt q (AB k))
   refine Bz (e4.trans e5) rfl (hC.ext e5) (by omega) (fun h=>by cases h) fun v' st6 e6 _ ho'=>Ab (List.all_eq_true.2 fun x hx=>by rw[List.mem_singleton.1 hx];exact ho'.rd.one) ?_
   rw[w1 m (by omega)]
   refine⟨⟨rfl,rfl,rfl,rfl,rfl,rfl,rfl,rfl,rfl,rfl,rfl,rfl,rfl,rfl,rfl,rfl,rfl,rfl,rfl,rfl,rfl,rfl,rfl,rfl,rfl,rfl,rfl,rfl,rfl,rfl,rfl,rfl,rfl,rfl,rfl,rfl,rfl,e6,m+1,rfl,by omega,_,ho',?_⟩,by dsimp only;omega⟩
   rw[P2 (nm:=txt q (AB k0)) (by rw[List.getElem?_map,List.getElem?_map,hkm0];rfl) (SI hkm)]
   exact hCv.snoc0 (by unfold FdR;exact⟨_,rfl,NJ _ hcb⟩)
  ·have hmW:m=W:=by omega
   subst hmW
   rw[<-hwid]at hC hCv
   have hfull:(B5 q ty ((As r).map AB)).take (As r).length=B5 q ty ((As r).map AB):=List.take_of_length_le (by rw[F8,List.length_map];omega)
   have hfull0:(((As r0).map AB).map (txt q)).take (As r).length=((As r0).map AB).map (txt q):=List.take_of_length_le (by rw[List.length_map,List.length_map];omega)
   rw[hfull,hfull0]at hCv
   have hfl:(GS (((As r0).map AB).map (txt q)) (B5 q ty ((As r).map AB))).length=(As r).length:=by unfold GS;rw[List.length_zipWith,F8,List.length_map,List.length_map,List.length_map];omega
   have hx:VlR St.zero (SO (((As r0).map AB).map (txt q)) (B5 q ty ((As r).map AB))) (A7 (scW 7) .nilSlice .nilSlice vC):=W2 (f:=GS (((As r0).map AB).map (txt q)) (B5 q ty ((As r).map AB))) (by rw[hfl];exact hC.rd) hCv
   refine Ab (BK rfl rfl hC.rd.one) ?_
   have hlen:(CK q true ty ((A3 rs).take j)).length<=2000000:=by
    cases hb:(A3 rs).take j with
    | nil=>exact Nat.zero_le _
    | cons x y=>
     have:=congrArg List.length hb
     rw[List.length_take,List.length_cons]at this
     show(y.map _).length<=_
     rw[List.length_map];omega
   refine Bz (e3.trans e4) rfl (hB.ext e4) (by omega) (fun h=>by cases h) fun v' st6 e6 _ ho'=>Ab (List.all_eq_true.2 fun x hx=>by rw[List.mem_singleton.1 hx];exact ho'.rd.one) ?_
   rw[w1 j (by omega)]
   refine⟨⟨rfl,rfl,rfl,rfl,rfl,rfl,rfl,rfl,rfl,rfl,rfl,rfl,rfl,rfl,rfl,rfl,rfl,rfl,rfl,rfl,e6,j+1,rfl,by omega,xs++A7 (scW 7) .nilSlice .nilSlice vC,?_,?_⟩,by dsimp only;omega⟩
   ·rw[HZ (hraw hjr) (by omega) (hraw hj0),List.length_append];exact ho'
   ·rw[HZ (hraw hjr) (by omega) (hraw hj0)];exact hBv.snoc hx
 ·have hhd:hd=true:=by cases hd;exact absurd hh (by decide);rfl
  subst hhd
  have hj0:j=0:=by omega
  subst hj0
  rw[w1 0 (by omega)]
  refine⟨⟨rfl,rfl,rfl,rfl,rfl,rfl,rfl,rfl,rfl,rfl,rfl,rfl,rfl,rfl,rfl,rfl,rfl,rfl,rfl,rfl,e3,1,rfl,by omega,xs,?_,?_⟩,by dsimp only;omega⟩
  ·rw[Ll]
   rw[List.take_zero]at hB
   exact hB
  ·rw[Ll]
   rw[List.take_zero]at hBv
   exact hBv
end
end
section
theorem JW.nil (v:TV):JW .nilSlice v:=fun id h=>by cases h
section
variable {a q:Int} {hd ty:Bool} {st:St}
theorem gOf_ok {rs:List Nd} {cs:List TV} {W:Nat} (hc:NdC (.mk 1 [] [] rs []) cs) (hT:RS a q rs W) {K:KG13}
  (hk2:∀u xs st',Aq st st'->Rd 13 u (CK q hd ty (A3 rs)).length xs->VsR St.zero (CK q hd ty (A3 rs)) xs->K 6 false false [] 0 0 0 0 0 [] .nilSlice u .nilSlice st'):
  CallT PR D4 [.agg cs,.agg [.int .u8 a,.int .u8 q,.bool hd,.bool ty]] [.agg NG] st K:=by
 have w1:∀k:Nat,k<=100000000->i64.wrap ((k:Int)+1)=((k+1:Nat):Int):=fun k hk=>by rw[Ah _ (by omega) (by omega)];omega
 have tn:∀k:Nat,Int.toNat (k:Int)=k:=fun k=>rfl
 unfold NdC at hc
 obtain⟨v,xs,rfl,hr,hx⟩:=hc
 have hcnt:=hT.cnt
 have hwl:=hT.wlen
 have hraw:∀{j:Nat} {r:Nd},rs[j]? =some r->(A3 rs)[j]? =some ((As r).map AB):=fun {j r} h=>by unfold A3;rw[List.getElem?_map,h];rfl
 have hrawl:(A3 rs).length=rs.length:=by unfold A3;rw[List.length_map]
 refine KS _ _ _ _ _ a q hd ty st K ⟨fun zn zi y0 y1 y2 zv y3 c1 c2 b1 b2 kA boA ngA dgA exA tkA tdA tnA tzA txA u0A u1A u2A kB boB ngB dgB exB tkB tdB tnB tzB txB u0B u1B u2B st'=>v=zv/\a=c1/\q=c2/\hd=b1/\ty=b2/\6=kB/\false=boB/\false=ngB/\[]=dgB/\0=exB/\0=tkB/\0=tdB/\0=tnB/\0=tzB/\[]=txB/\.nilSlice=u0B/\.nilSlice=u2B/\Aq st st'/\∃j:Nat,zi=(j:Int)/\j<=rs.length/\(0<j->hd=true->∀r0,rs[0]? =some r0->Rd 1 zn W (((As r0).map fun k=>txt q (AB k)).map TV.str))/\∃xs,Own st.nt 13 st' u1B (CK q hd ty ((A3 rs).take j)).length xs/\VsR St.zero (CK q hd ty ((A3 rs).take j)) xs,
  fun _ zi _ _ _ _ _ _ _ _ _ _ _ _ _ _ _ _ _ _ _ _ _ _ _ _ _ _ _ _ _ _ _ _ _ _ _ _=>(rs.length-zi).toNat,⟨rfl,rfl,rfl,rfl,rfl,rfl,rfl,rfl,rfl,rfl,rfl,rfl,rfl,rfl,rfl,rfl,rfl,Aq.refl _,0,rfl,Nat.zero_le _,fun h=>absurd h (Nat.lt_irrefl _),[],by rw[List.take_zero];exact Own.nil _ _ _,by rw[List.take_zero];exact VsR.nil _⟩,?_⟩
 rintro nmT _ y0 y1 y2 _ y3 _ _ _ _ kA boA ngA dgA exA tkA tdA tnA tzA txA u0A u1A u2A _ _ _ _ _ _ _ _ _ _ _ vB _ st1 ⟨rfl,rfl,rfl,rfl,rfl,rfl,rfl,rfl,rfl,rfl,rfl,rfl,rfl,rfl,rfl,rfl,rfl,e1,j,rfl,hj,hnm,zs,hB,hBv⟩
 refine Ab hr.isSl ?_
 rw[hr.lenS]
 refine Aa (fun g=>?_) fun g=>?_
 case refine_2=>
  have hjl:(A3 rs).take j=A3 rs:=List.take_of_length_le (by omega)
  rw[hjl]at hB hBv
  exact Ab (BK rfl hB.rd.one rfl) (hk2 _ zs _ e1 hB.rd hBv)
 have hjlt:j<rs.length:=by omega
 obtain⟨r,hjr⟩:∃r,rs[j]? =some r:=⟨_,List.getElem?_eq_getElem hjlt⟩
 have hmem:=List.mem_of_getElem? hjr
 have hwid:=hT.wid r hmem
 obtain⟨ents,tail,hrE,hne,hents⟩:=hT.form r hmem
 obtain⟨hp1,rc,u,ys0,hrc,hld,hu,hy,_⟩:=NP hr hx hjr
 have hke:As r=ents:=by rw[hrE];rfl
 rw[hke]at hu hy
 refine⟨fun zt zk zn zi y0 y1 y2 zv y3 c1 c2 b7 b8 kA boA ngA dgA exA tkA tdA tnA tzA txA u0A u1A u2A kB boB ngB dgB exB tkB tdB tnB tzB txB u0B u1B u2B kC boC ngC dgC exC tkC tdC tnC tzC txC u0C u1C u2C st'=>nmT=zn/\(j:Int)=zi/\v=zv/\a=c1/\q=c2/\hd=b7/\ty=b8/\6=kB/\false=boB/\false=ngB/\[]=dgB/\0=exB/\0=tkB/\0=tdB/\0=tnB/\0=tzB/\[]=txB/\.nilSlice=u0B/\.nilSlice=u2B/\vB=u1B/\6=kC/\false=boC/\false=ngC/\[]=dgC/\0=exC/\0=tkC/\0=tdC/\0=tnC/\0=tzC/\[]=txC/\.nilSlice=u0C/\.nilSlice=u2C/\Aq st1 st'/\∃m':Nat,zk=(m':Int)/\m'<=W/\Own st1.nt 1 st' zt m' ((((As r).take m').map fun k=>txt q (AB k)).map TV.str)/\JW zt u1C/\∃ys,Own st1.nt 13 st' u1C m' ys/\VsR St.zero (((B5 q ty ((As r).map AB)).take m').map BY) ys,
  fun _ zk _ _ _ _ _ _ _ _ _ _ _ _ _ _ _ _ _ _ _ _ _ _ _ _ _ _ _ _ _ _ _ _ _ _ _ _ _ _ _ _ _ _ _ _ _ _ _ _ _ _ _=>(W-zk).toNat,⟨rfl,rfl,rfl,rfl,rfl,rfl,rfl,rfl,rfl,rfl,rfl,rfl,rfl,rfl,rfl,rfl,rfl,rfl,rfl,rfl,rfl,rfl,rfl,rfl,rfl,rfl,rfl,rfl,rfl,rfl,rfl,rfl,Aq.refl _,0,rfl,Nat.zero_le _,Own.nil _ _ _,JW.nil _,[],Own.nil _ _ _,by rw[List.take_zero];exact VsR.nil _⟩,?_⟩
 rintro vt _ _ _ z0 z1 z2 _ z3 _ _ _ _ kA boA ngA dgA exA tkA tdA tnA tzA txA u0A u1A u2A _ _ _ _ _ _ _ _ _ _ _ _ _ _ _ _ _ _ _ _ _ _ _ _ vC _ st2 ⟨rfl,rfl,rfl,rfl,rfl,rfl,rfl,rfl,rfl,rfl,rfl,rfl,rfl,rfl,rfl,rfl,rfl,rfl,rfl,rfl,rfl,rfl,rfl,rfl,rfl,rfl,rfl,rfl,rfl,rfl,rfl,rfl,e2,m,rfl,hm,hvt,hap,ys,hC,hCv⟩
 rw[hr.lenZ,tn]
 refine⟨⟨by omega,by omega⟩,Ab hp1 (Ad (hld _) (Ab hu.isSl ?_))⟩
 rw[hu.lenS]
 refine Aa (fun g2=>?_) fun g2=>?_
 ·have hmlt:m<ents.length:=by omega
  have hmWl:m<W:=by rw[<-hwid,hke];exact hmlt
  obtain⟨en,hem⟩:∃k,ents[m]? =some k:=⟨_,List.getElem?_eq_getElem hmlt⟩
  have hef:=hents en (List.mem_of_getElem? hem)
  have hkl:=hT.len r hmem en (by rw[hke];exact List.mem_of_getElem? hem)
  have hkm:(As r)[m]? =some en:=by rw[hke];exact hem
  obtain⟨hp2,ec,w,ws,hec,hld2,hw,hz,hw3⟩:=NP hu hy hem
  obtain⟨w',ws',rfl,hw',hpos,hwl2,hwp⟩:=RA hef hec
  simp only[List.getElem?_cons_succ,List.getElem?_cons_zero,Option.some.injEq]at hw3
  subst hw3
  refine⟨⟨by omega,by omega⟩,Ab hp1 (Ad (hld _) ?_)⟩
  rw[hu.lenZ,tn]
  refine⟨⟨by omega,by omega⟩,Ab hp2 (Ad (hld2 _) ?_)⟩
  rw[hw.lenZ]
  refine⟨⟨by omega,by omega⟩,Ab hwp (Ad (hwl2 _) (Am ?_))⟩
  have hcw:JU q (AB en):=by
   obtain⟨c,mark,rfl,hcw,_⟩:=hef
   exact hcw
  refine Mn hcw (by omega) ?_
  refine LX e2 hvt hC hap (by omega) (fun h=>by cases h) fun v5 st5 e5 _ o5 hC5 hap5=>?_
  have htk:(((As r).take m).map fun k=>txt q (AB k)).map TV.str++[TV.str (txt q (AB en))]=(((As r).take (m+1)).map fun k=>txt q (AB k)).map TV.str:=by
   rw[List.take_add_one,hkm];simp
  have hq1:AB en≠ []->decide ((((AB en).getD 0 0).toNat:Int)=q)=Bm q (AB en):=fun h=>by
   unfold Bm
   exact decide_eq_decide.2 ⟨fun g=>fun h'=>h'.elim h fun h''=>h'' g,fun g=>Decidable.not_not.1 fun h'=>g (.inr h')⟩
  have hq0:¬AB en≠ []->false=Bm q (AB en):=fun h=>by
   unfold Bm
   exact(decide_eq_false fun g=>g (.inl (Decidable.not_not.1 h))).symm
  have hcb:=GM ty (Bm q (AB en)) (txt q (AB en))
  refine Aa (fun g3=>⟨⟨by omega,by have:=List.length_pos_iff.2 g3;omega⟩,Qw (by omega) ?qa⟩) fun g3=>Qw (by omega) ?qb
  case qa | qb=>
   first
    | rw[show decide ((((AB en).getD (Int.toNat 0) 0).toNat:Int)=q)=Bm q (AB en)from hq1 g3]
    | rw[hq0 g3]
   unfold KC
   refine Ab (BK rfl rfl rfl) ?_
   refine LX e5 hC5 o5 hap5.symm (by omega) (fun h=>by cases h) fun v6 st6 e6 _ o6 o56 hap6=>Ab (List.all_eq_true.2 fun x hx=>by rw[List.mem_singleton.1 hx];exact o6.rd.one) ?_
   rw[w1 m (by omega)]
   rw[htk]at o56
   refine⟨⟨rfl,rfl,rfl,rfl,rfl,rfl,rfl,rfl,rfl,rfl,rfl,rfl,rfl,rfl,rfl,rfl,rfl,rfl,rfl,rfl,rfl,rfl,rfl,rfl,rfl,rfl,rfl,rfl,rfl,rfl,rfl,rfl,e6,m+1,rfl,by omega,o56,hap6.symm,_,o6,?_⟩,by dsimp only;omega⟩
   rw[P1 hkm]
   exact hCv.snoc (NJ _ hcb)
 ·have hmW:m=W:=by rw[hke]at hwid;omega
  subst hmW
  have hrl:(B5 q ty ((As r).map AB)).length=m:=by rw[F8,List.length_map];exact hwid
  have hfull:(B5 q ty ((As r).map AB)).take m=B5 q ty ((As r).map AB):=List.take_of_length_le (by omega)
  have hkfull:(As r).take m=As r:=List.take_of_length_le (by omega)
  rw[hfull]at hCv
  rw[hkfull]at hvt
  refine Ak (fun hh=>?_) fun hh=>Aa (fun g0=>?_) fun g0=>?_
  ·have hhd:hd=false:=by simpa using hh
   subst hhd
   have hx:VlR St.zero (Dg ((B5 q ty ((As r).map AB)).map BY)) (A7 (scW 6) .nilSlice vC .nilSlice):=NI (by rw[List.length_map,hrl];exact hC.rd) hCv
   refine Ab (BK rfl hC.rd.one rfl) ?_
   have hlen:(CK q false ty ((A3 rs).take j)).length<=2000000:=by rw[EH,List.length_map,List.length_take];omega
   refine Bz (e1.trans e2) rfl (hB.ext e2) (by omega) (fun h=>by cases h) fun v' st6 e6 _ ho'=>Ab (List.all_eq_true.2 fun x hx=>by rw[List.mem_singleton.1 hx];exact ho'.rd.one) ?_
   rw[w1 j (by omega)]
   refine⟨⟨rfl,rfl,rfl,rfl,rfl,rfl,rfl,rfl,rfl,rfl,rfl,rfl,rfl,rfl,rfl,rfl,rfl,e6,j+1,rfl,by omega,fun _ h=>(by cases h),zs++A7 (scW 6) .nilSlice vC .nilSlice,?_,?_⟩,by dsimp only;omega⟩
   ·rw[H1 (hraw hjr),List.length_append];exact ho'
   ·rw[H1 (hraw hjr)];exact hBv.snoc hx
  ·have hhd:hd=true:=by cases hd;exact absurd hh (by decide);rfl
   subst hhd
   have hj0:j=0:=by omega
   subst hj0
   rw[w1 0 (by omega)]
   refine⟨⟨rfl,rfl,rfl,rfl,rfl,rfl,rfl,rfl,rfl,rfl,rfl,rfl,rfl,rfl,rfl,rfl,rfl,e1.trans e2,1,rfl,by omega,fun _ _ r0 h0=>?_,zs,?_,?_⟩,by dsimp only;omega⟩
   ·rw[hjr]at h0
    cases h0
    exact hvt.rd
   ·rw[Ll]
    rw[List.take_zero]at hB
    exact hB.ext e2
   ·rw[Ll]
    rw[List.take_zero]at hBv
    exact hBv
  ·have hhd:hd=true:=by cases hd;exact absurd hh (by decide);rfl
   subst hhd
   obtain⟨r0,hj0⟩:∃r,rs[0]? =some r:=⟨_,List.getElem?_eq_getElem (by omega)⟩
   have hN:=hnm (by omega) rfl r0 hj0
   have hmem0:=List.mem_of_getElem? hj0
   have hwid0:=hT.wid r0 hmem0
   refine⟨fun zk zn zi y0 y1 y2 zv y3 c1 c2 b7 b8 kA boA ngA dgA exA tkA tdA tnA tzA txA u0A u1A u2A kB boB ngB dgB exB tkB tdB tnB tzB txB u0B u1B u2B kC boC ngC dgC exC tkC tdC tnC tzC txC u0C u1C u2C kD boD ngD dgD exD tkD tdD tnD tzD txD u0D u1D u2D st'=>nmT=zn/\(j:Int)=zi/\v=zv/\a=c1/\q=c2/\true=b7/\ty=b8/\6=kB/\false=boB/\false=ngB/\[]=dgB/\0=exB/\0=tkB/\0=tdB/\0=tnB/\0=tzB/\[]=txB/\.nilSlice=u0B/\.nilSlice=u2B/\vB=u1B/\6=kC/\false=boC/\false=ngC/\[]=dgC/\0=exC/\0=tkC/\0=tdC/\0=tnC/\0=tzC/\[]=txC/\.nilSlice=u0C/\.nilSlice=u2C/\vC=u1C/\7=kD/\false=boD/\false=ngD/\[]=dgD/\0=exD/\0=tkD/\0=tdD/\0=tnD/\0=tzD/\[]=txD/\.nilSlice=u0D/\.nilSlice=u1D/\Aq st2 st'/\∃p:Nat,zk=(p:Int)/\p<=m/\∃ws,Own st2.nt 14 st' u2D p ws/\FsR St.zero (GS ((((As r0).map AB).map (txt q)).take p) ((B5 q ty ((As r).map AB)).take p)) ws,
    fun zk _ _ _ _ _ _ _ _ _ _ _ _ _ _ _ _ _ _ _ _ _ _ _ _ _ _ _ _ _ _ _ _ _ _ _ _ _ _ _ _ _ _ _ _ _ _ _ _ _ _ _ _ _ _ _ _ _ _ _ _ _ _ _ _=>(m-zk).toNat,⟨rfl,rfl,rfl,rfl,rfl,rfl,rfl,rfl,rfl,rfl,rfl,rfl,rfl,rfl,rfl,rfl,rfl,rfl,rfl,rfl,rfl,rfl,rfl,rfl,rfl,rfl,rfl,rfl,rfl,rfl,rfl,rfl,rfl,rfl,rfl,rfl,rfl,rfl,rfl,rfl,rfl,rfl,rfl,rfl,rfl,Aq.refl _,0,rfl,Nat.zero_le _,[],Own.nil _ _ _,by rw[List.take_zero,List.take_zero];exact FsR.nil _⟩,?_⟩
   rintro _ _ _ x0 x1 x2 _ x3 _ _ _ _ kA boA ngA dgA exA tkA tdA tnA tzA txA u0A u1A u2A _ _ _ _ _ _ _ _ _ _ _ _ _ _ _ _ _ _ _ _ _ _ _ _ _ _ _ _ _ _ _ _ _ _ _ _ _ _ vD st3 ⟨rfl,rfl,rfl,rfl,rfl,rfl,rfl,rfl,rfl,rfl,rfl,rfl,rfl,rfl,rfl,rfl,rfl,rfl,rfl,rfl,rfl,rfl,rfl,rfl,rfl,rfl,rfl,rfl,rfl,rfl,rfl,rfl,rfl,rfl,rfl,rfl,rfl,rfl,rfl,rfl,rfl,rfl,rfl,rfl,rfl,e3,p,rfl,hp,ws,hD,hDv⟩
   refine Ab hN.isSl ?_
   rw[hN.lenS,tn]
   refine Aa (fun g5=>?_) fun g5=>?_
   ·obtain⟨k0,hk0⟩:∃k,(As r0)[p]? =some k:=⟨_,List.getElem?_eq_getElem (by omega)⟩
    have l0:Ac st3 [] (.t (ixT 1 nmT p)) 0=some (.str (txt q (AB k0))):=hN.ldx st3 p 0 (by rw[Nat.mul_one,Nat.add_zero,List.getElem?_map,List.getElem?_map,hk0];rfl)
    refine⟨⟨by omega,by rw[hN.lenZ];omega⟩,Ad l0 (Am ?_)⟩
    refine el13 (K6 _) (l:=(B5 q ty ((As r).map AB)).map BY) (.of_rd (by rw[List.length_map,hrl];exact hC.rd)) hCv rfl (by rw[List.length_map,hrl];omega) fun s' l' f' ub1 ul1 uf1 gw hw on=>?_
    refine Ab on ?_
    refine Bz e3 rfl hD (by omega) (fun h=>by cases h) fun v' st6 e6 _ ho'=>Ab (List.all_eq_true.2 fun x hx=>by rw[List.mem_singleton.1 hx];exact ho'.rd.one) ?_
    rw[w1 p (by omega)]
    refine⟨⟨rfl,rfl,rfl,rfl,rfl,rfl,rfl,rfl,rfl,rfl,rfl,rfl,rfl,rfl,rfl,rfl,rfl,rfl,rfl,rfl,rfl,rfl,rfl,rfl,rfl,rfl,rfl,rfl,rfl,rfl,rfl,rfl,rfl,rfl,rfl,rfl,rfl,rfl,rfl,rfl,rfl,rfl,rfl,rfl,rfl,e6,p+1,rfl,by omega,_,ho',?_⟩,by dsimp only;omega⟩
    rw[List.getElem?_map]at gw
    obtain⟨sc,hsc,hle⟩:=Option.map_eq_some_iff.1 gw
    rw[P2 (nm:=txt q (AB k0)) (by rw[List.getElem?_map,List.getElem?_map,hk0];rfl) hsc]
    refine hDv.snoc0 ?_
    unfold FdR
    exact⟨_,rfl,by rw[hle];exact hw⟩
   ·have hpW:p=m:=by omega
    subst hpW
    have hfull0:(((As r0).map AB).map (txt q)).take p=((As r0).map AB).map (txt q):=List.take_of_length_le (by rw[List.length_map,List.length_map];omega)
    rw[hfull,hfull0]at hDv
    have hfl:(GS (((As r0).map AB).map (txt q)) (B5 q ty ((As r).map AB))).length=p:=by unfold GS;rw[List.length_zipWith,hrl,List.length_map,List.length_map];omega
    have hx:VlR St.zero (SO (((As r0).map AB).map (txt q)) (B5 q ty ((As r).map AB))) (A7 (scW 7) .nilSlice .nilSlice vD):=W2 (f:=GS (((As r0).map AB).map (txt q)) (B5 q ty ((As r).map AB))) (by rw[hfl];exact hD.rd) hDv
    refine Ab (BK rfl rfl hD.rd.one) ?_
    have hlen:(CK q true ty ((A3 rs).take j)).length<=2000000:=by
     cases hb:(A3 rs).take j with
     | nil=>exact Nat.zero_le _
     | cons x y=>
      have:=congrArg List.length hb
      rw[List.length_take,List.length_cons]at this
      show(y.map _).length<=_
      rw[List.length_map];omega
    have e23:=e2.trans e3
    refine Bz (e1.trans e23) rfl (hB.ext e23) (by omega) (fun h=>by cases h) fun v' st6 e6 _ ho'=>Ab (List.all_eq_true.2 fun x hx=>by rw[List.mem_singleton.1 hx];exact ho'.rd.one) ?_
    rw[w1 j (by omega)]
    refine⟨⟨rfl,rfl,rfl,rfl,rfl,rfl,rfl,rfl,rfl,rfl,rfl,rfl,rfl,rfl,rfl,rfl,rfl,e6,j+1,rfl,by omega,fun _ _ r0' h0'=>?_,zs++A7 (scW 7) .nilSlice .nilSlice vD,?_,?_⟩,by dsimp only;omega⟩
    ·rw[hj0]at h0'
     cases h0'
     exact hN
    ·rw[HZ (hraw hjr) (by omega) (hraw hj0),List.length_append];exact ho'
    ·rw[HZ (hraw hjr) (by omega) (hraw hj0)];exact hBv.snoc hx
end
end
theorem szl'' (s:Sc):(BY s).sz=1+s.bytes.length+s.text.length+s.dg.length:=szl' s
theorem Yu (ty qd:Bool) (s:B8):(BY (HF ty qd s)).sz<=1+s.length:=by
 have hd:=dcP_len s
 rw[szl'',GM]
 unfold HF
 by_cases h1:ty=false∨qd=true
 ·rw[if_pos h1];simp[tkT]
 rw[if_neg h1]
 by_cases h2:s=[]
 ·rw[if_pos h2];simp[scK]
 rw[if_neg h2]
 by_cases h3:s=Ky
 ·rw[if_pos h3];simp[tkB]
 rw[if_neg h3]
 by_cases h4:s=Jy
 ·rw[if_pos h4];simp[tkB]
 rw[if_neg h4]
 by_cases h5:(dcP s).2.2.2=0
 ·rw[if_pos h5];simp[tkN];omega
 rw[if_neg h5]
 by_cases h6:(tmP s).2.2.2.2=0
 ·rw[if_pos h6];simp[tkM]
 rw[if_neg h6];simp[tkT]
theorem Rh (q:Int) (ty:Bool):∀r:List B8,D2 ((B5 q ty r).map BY)<=r.length+NB r
 | []=>by simp[B5,D2,NB]
 | c::r=>by
  have h1:=Rh q ty r
  have h2:=Yu ty (Bm q c) (txt q c)
  have h3:=txt_len q c
  unfold B5 at h1⊢
  simp only[List.map_cons,D2,List.length_cons,NB]at h1⊢;omega
theorem Vk (M:Nat):∀(names:List B8) (row:List Sc),(∀t,t∈names->t.length<=M)->Fk (GS names row)<=row.length*M+D2 (row.map BY)
 | [],row,h=>by simp[GS,Fk]
 | _::_,[],h=>by simp[GS,Fk]
 | t::ns,s::r,h=>by
  have h1:=Vk M ns r fun x hx=>h x (.tail _ hx)
  have h2:=h t (.head _)
  unfold GS at h1⊢
  simp only[List.zipWith_cons_cons,Fk,Fd.sz,List.length_cons,List.map_cons,D2,Nat.add_mul,Nat.one_mul]at h1⊢;omega
theorem Sh (l:List Vl):(Dg l).sz=1+D2 l:=by unfold Dg;rw[szs];simp[scZ,Fk]
theorem vMap_sz (f:List Fd):(Q2 f).sz=1+Fk f:=by unfold Q2;rw[szs];simp[scZ,D2]
theorem valL_sz {q:Int} {hd ty:Bool} {M:Nat} {l:List (List B8)} (h:hd=true->∀r,l.head? =some r->∀c,c∈r->(txt q c).length<=M):D2 (CK q hd ty l)<=l.length+Gw l*(1+M)+Lr l:=by
 cases hd with
 | false=>
  rw[EH]
  clear h
  induction l with
  | nil=>simp[D2]
  | cons r t ih=>
   have h1:=Rh q ty r
   simp only[List.map_cons,D2,Sh,List.length_cons,Gw,Lr,Nat.add_mul,Nat.mul_add,Nat.mul_one]at ih⊢;omega
 | true=>
  cases l with
  | nil=>simp[CK,D2]
  | cons h0 t=>
   have hM:=h rfl h0 rfl
   have key:∀t:List (List B8),D2 (t.map fun r=>SO (h0.map (txt q)) (B5 q ty r))<=t.length+Gw t*(1+M)+Lr t:=by
    intro t
    induction t with
    | nil=>simp[D2]
    | cons r t ih=>
     have h1:=Rh q ty r
     have h2:=Vk M (h0.map (txt q)) (B5 q ty r) fun x hx=>by
      obtain⟨c,hc,rfl⟩:=List.mem_map.1 hx
      exact hM c hc
     rw[F8]at h2
     have h3:(SO (h0.map (txt q)) (B5 q ty r)).sz=1+Fk (GS (h0.map (txt q)) (B5 q ty r)):=vMap_sz _
     simp only[List.map_cons,D2,h3,List.length_cons,Gw,Lr,Nat.add_mul,Nat.mul_add,Nat.mul_one]at ih⊢;omega
   have:=key t
   show D2 (t.map fun r=>SO (h0.map (txt q)) (B5 q ty r))<=_
   simp only[List.length_cons,Gw,Lr,Nat.add_mul]at this⊢;omega
theorem Yg {a q:Int} {s:B8} {i:Nat} {ks:List Nd} {e n:Nat} (h:HJ a q s i ks e n):i<=s.length->NB (ks.map AB)+i<=e:=by
 induction h with
 | @last i e n h1 h2 h3=>
  intro hi
  have hl:=Cd hi h1
  simp only[List.map_cons,List.map_nil,B4,NB]
  rw[J2 hl.1 hl.2];omega
 | @more i e e' n ks h1 h2 h3 h4 ih=>
  intro hi
  have hl:=Cd hi h1
  have:=ih (by omega)
  simp only[List.map_cons,B4,NB]
  rw[J2 hl.1 hl.2];omega
theorem SN {a q:Int} {s:B8} {i:Nat} {rs:List Nd} (h:HH a q s i rs):i<=s.length->Lr (A3 rs)+i<=s.length/\Gw (A3 rs)+i<=s.length+1/\(i<s.length∨rs=[]->True)/\rs.length+i<=s.length:=by
 induction h with
 | nil h=>intro hi;simp[A3,Lr,Gw];omega
 | @cons i e n ks rs h1 h2 h3 ih=>
  intro hi
  have hle:=h2.le hi
  have hs:=Yg h2 hi
  have hn:=(En (by omega) hle.2.2.2.2).2.1
  obtain⟨a1,a2,_,a4⟩:=ih (by omega)
  have hk:A3 (.mk 8 [] [] ks (slc s e (e+n))::rs)=ks.map AB::A3 rs:=rfl
  rw[hk]
  simp only[Lr,Gw,List.length_map,List.length_cons]
  have hc:n=0->rs=[]:=fun h0=>by
   have:=hn h0
   cases rs with
   | nil=>rfl
   | cons x y=>simp only[List.length_cons]at a4;omega
  refine⟨by omega,?_,fun _=>trivial,?_⟩
  ·rcases Nat.eq_zero_or_pos n with h0 | h0
   ·rw[hc h0];simp[A3,Gw];omega
   ·omega
  ·rcases Nat.eq_zero_or_pos n with h0 | h0
   ·rw[hc h0];simp;omega
   ·omega
theorem tree_of {a q:Int} {s:B8} {rs:List Nd} (h:HH a q s 0 rs) (hs:s.length<=1400000) (hlen:∀r,r∈rs->∀k,k∈As r->(txt q (AB k)).length<=65536) (hW:∃W:Int,∀r,r∈rs->((As r).length:Int)=W):∃W,RS a q rs W:=by
 obtain⟨W,hW⟩:=hW
 obtain⟨h1,h2,_,h4⟩:=SN h (Nat.zero_le _)
 have mem:∀r,r∈rs->NB ((As r).map AB)<=s.length/\(As r).length<=s.length+1:=by
  intro r hr
  obtain⟨j,hj⟩:=List.getElem?_of_mem hr
  have hj2:(A3 rs)[j]? =some ((As r).map AB):=by unfold A3;rw[List.getElem?_map,hj];rfl
  have:=W8 hj2
  rw[List.length_map]at this
  omega
 by_cases hne:rs=[]
 ·subst hne
  exact⟨0,⟨fun r hr=>(by cases hr),fun r hr=>(by cases hr),fun r hr=>(by cases hr),by simp,by omega⟩⟩
 refine⟨W.toNat,⟨h.form (Nat.zero_le _),fun r hr=>by have:=hW r hr;omega,fun r hr k hk=>⟨hlen r hr k hk,?_⟩,by omega,?_⟩⟩
 ·have h5:=W7 (List.mem_map.2 ⟨k,hk,rfl⟩:AB k∈(As r).map AB)
  have:=(mem r hr).1;omega
 ·obtain⟨r,t,rfl⟩:=List.exists_cons_of_ne_nil hne
  have:=hW r (.head _)
  have:=(mem r (.head _)).2
  omega
theorem Mx {n:Nd} {a q:Int} {hd:Bool} (h:Ef n a q hd):∃rs W,n= .mk 1 [] [] rs []/\RS a q rs W:=by
 obtain⟨rs,rfl,_,_,_,_,_,hr,hl,hW⟩:=Cy h.2
 have hlen:=JM h.1
 have hn:=CP (.mk 1 [] [] rs [])
 obtain⟨W,hT⟩:=tree_of hr (by show(BF (.mk 1 [] [] rs [])).length<=_;omega) hl hW
 exact⟨rs,W,rfl,hT⟩
theorem SX {x:Cx} {hd:Bool} {l2 l3 l4:Int} {n:Nd} (h:AY x hd l2 l3 l4= .ok n):Mw x.s x.a x.q hd= .ok n:=by
 obtain⟨rs,rfl,hd1,hl,hle,hv,hdoc,hr,hlen,hW⟩:=Cy h
 unfold lOk at hl
 rw[decide_eq_true_eq]at hl
 obtain⟨rs1,q1,_,_,_,q6⟩:=O4 _ (Nat.zero_le _) hdoc
 rw[List.nil_append]at q1
 subst q1
 obtain⟨rs2,j1,j2,_,_⟩:=Yk (d':=48) (n':=65536) _ hdoc
 rw[List.nil_append]at j1
 subst j1
 have hdoc2:=j2 (.inr (by decide)) (by rcases q6 with q6 | q6<;>omega)
 show AY (xU x.s x.a x.q) hd 1048576 1024 65536=_
 unfold AY
 rw[if_neg (show ¬dOk x.a x.q=false by rw[hd1];decide),if_neg (show ¬lOk 48 65536 1048576 1024 65536=false by decide),if_neg (show ¬(1048576:Int)<(x.s.length:Int) by omega),if_neg (show ¬AX x.s≠x.s.length by rw[hv];simp)]
 rw[show DX (xU x.s x.a x.q) hd ((xU x.s x.a x.q).s.length+1) [] 0 1 [] 0= .ok rs from hdoc2]
theorem val_sz {a q:Int} {hd ty:Bool} {rs:List Nd} {n:Nd} (h:Ef n a q hd) (hn:n= .mk 1 [] [] rs []) (hcn:Gw (A3 rs)<=1600):(Dg (CK q hd ty (A3 rs))).sz<=1+rs.length+Gw (A3 rs)*1025+Lr (A3 rs):=by
 subst hn
 obtain⟨rs',hn,_,_,_,_,hdoc,_⟩:=Cy h.2
 cases hn
 rw[Sh]
 have:=valL_sz (q:=q) (hd:=hd) (ty:=ty) (M:=1024) (l:=A3 rs) (fun hb r hr c hc=>by
  subst hb
  cases rs with
  | nil=>cases hr
  | cons r0 t=>
   have hr:(As r0).map AB=r:=by simpa [A3]using hr
   have:=(O3 _ hdoc (Nat.zero_le _) r0 rfl).2
   subst hr
   obtain⟨k,hk,rfl⟩:=List.mem_map.1 hc
   exact this _ (List.mem_map.2 ⟨k,hk,rfl⟩))
 have hl:(A3 rs).length=rs.length:=by unfold A3;rw[List.length_map]
 omega
section
section
variable {a q:Int} {hd ty:Bool} {st:St}
theorem X6 {s:B8} {l0 l1 l2 l3 l4:Int} (hl:s.length<=70000) {K:Int->Bool->Bool->B8->Int->Int->Int->Int->Int->B8->TV->TV->TV->Int->Int->St->Prop}
  (hk1:∀(p:Nat×Int) st',Aq st st'->AY ⟨s,a,q,l0,l1⟩ hd l2 l3 l4= .error p->p.2≠0->K 0 false false [] 0 0 0 0 0 [] .nilSlice .nilSlice .nilSlice p.1 p.2 st')
  (hk2:∀rs u xs st',Aq st st'->AY ⟨s,a,q,l0,l1⟩ hd l2 l3 l4= .ok (.mk 1 [] [] rs [])->Rd 13 u (CK q hd ty (A3 rs)).length xs->VsR St.zero (CK q hd ty (A3 rs)) xs->K 6 false false [] 0 0 0 0 0 [] .nilSlice u .nilSlice 0 0 st'):
  CallT PR Ij [.str s,.agg [.int .u8 a,.int .u8 q,.bool hd,.bool ty],.agg [.int .i64 l0,.int .i64 l1,.int .i64 l2,.int .i64 l3,.int .i64 l4]] [.agg NG,.one (.int .i64),.one (.int .i64)] st K:=by
 refine Q0 s a q hd ty l0 l1 l2 l3 l4 st K (Qf (x:=⟨s,a,q,l0,l1⟩) (by show s.length<=_;omega) fun k kv st1 e1 hn=>?_)
 obtain⟨_,_,_,_,_,h5,ho⟩:=hn.five
 cases h5
 have hcn:BZ (pN (AY ⟨s,a,q,l0,l1⟩ hd l2 l3 l4))<=1000000000000000:=Uk (by show s.length<=_;omega)
 rcases hP:AY ⟨s,a,q,l0,l1⟩ hd l2 l3 l4 with p | n
 ·rw[hP]at hk1
  have hne:=Uj hP
  exact Ab (Co ho) (Aa (fun _=>hk1 p st1 e1 rfl hne) fun g=>absurd hne g)
 ·rw[hP]at hn hcn hk2
  obtain⟨rs,hrs,_⟩:=Cy hP
  subst hrs
  have hU:=SX hP
  obtain⟨htx,_,hou⟩:=XL (show s.length<=70000 from hl) hU
  have hnl:=CP (.mk 1 [] [] rs [])
  rw[htx]at hnl
  have hl':s.length<=70000:=hl
  refine Ab (Co ho) (Aa (fun g=>absurd rfl g) fun _=>Qv hn (by show Ce (.mk 1 [] [] rs [])<=_;rw[<-hnl];show s.length<=_;omega) hcn (fun ho=>?_) (fun h=>absurd hou h) fun _ u xs st2 e2 hu hx=>?_)
  ·obtain⟨rs',W,he,hT⟩:=Mx ho
   have he:Nd.mk 1 [] [] rs []= .mk 1 [] [] rs' []:=he
   cases he
   exact⟨W,hT⟩
  ·exact Ab (BK rfl hu.one rfl) (Ab (BK rfl hu.one rfl) (hk2 rs u xs st2 (e1.trans e2) rfl hu hx))
end
theorem SlR.zero {sz n:Nat} {v:TV} {xs:List TV} (h:SlR St.zero sz v n xs):Rd sz v n xs:=by
 rcases h with h | ⟨b,_,_,_,_,hb,_⟩
 ·exact h
 ·exact absurd hb (Nat.not_lt_zero _)
theorem Vv {xs:List TV} {k n j:Nat} {cs:List TV} (h:(xs.drop k).take n=cs) {x:TV} (hx:cs[j]? =some x):xs[k+j]? =some x:=by
 rw[<-h,List.getElem?_take]at hx
 split at hx
 ·rwa [List.getElem?_drop]at hx
 ·cases hx
theorem Rd.isP {sz n i:Nat} {u:TV} {xs:List TV} (h:Rd sz u n xs) (hi:i<n):isPtr (ixT sz u i)=true:=(SlR.of_rd (st:=St.zero) h).isPtr hi
theorem ld13 {u:TV} {xs:List TV} {l:List Vl} (hr:Rd 13 u l.length xs) (hv:VsR St.zero l xs) {i:Nat} {s':Sc} {l':List Vl} {f':List Fd} (hi:l[i]? =some (.mk s' l' f')):
  isPtr (ixT 13 u i)=true/\∃ub ul uf xl xf,(∀st (j:Nat) x,(A7 s' ub ul uf)[j]? =some x->Ac st [] (.t (Ao (ixT 13 u i) j)) 0=some x)/\Rd 13 ul l'.length xl/\VsR St.zero l' xl/\Rd 14 uf f'.length xf/\FsR St.zero f' xf:=by
 obtain⟨hlt,_⟩:=List.getElem?_eq_some_iff.1 hi
 obtain⟨cs,hc,hcx,_⟩:=hv.get hi
 obtain⟨ub,ul,uf,xl,xf,rfl,_,h2,h3,h4,h5⟩:=hc.cells
 exact⟨hr.isP hlt,ub,ul,uf,xl,xf,fun st j x hx=>hr.ldfx st i j (Vv hcx hx),h2.zero,h3,h4.zero,h5⟩
theorem VI {sz n i:Nat} {u:TV} {xs:List TV} (h:Rd sz u n xs) (hi:i<n) (a b:Nat):Ao (Ao (ixT sz u i) a) b=Ao (ixT sz u i) (a+b)/\isPtr (Ao (ixT sz u i) a)=true:=by
 rcases h with⟨rfl,rfl,_⟩ | ⟨tip,rfl⟩
 ·omega
 ·refine⟨?_,rfl⟩
  simp only[ixT,Ao,Nat.beq_refl,List.drop_drop,Nat.add_assoc]
theorem ld14 {u:TV} {xs:List TV} {l:List Fd} (hr:Rd 14 u l.length xs) (hv:FsR St.zero l xs) {i:Nat} {k:B8} {s':Sc} {l':List Vl} {f':List Fd} (hi:l[i]? =some (.mk k (.mk s' l' f'))):
  isPtr (ixT 14 u i)=true/\isPtr (Ao (ixT 14 u i) 1)=true/\∃ub ul uf,∀st (j:Nat) x,(A7 s' ub ul uf)[j]? =some x->Ac st [] (.t (Ao (Ao (ixT 14 u i) 1) j)) 0=some x:=by
 obtain⟨hlt,_⟩:=List.getElem?_eq_some_iff.1 hi
 obtain⟨cs,hc,hcx,_⟩:=hv.get hi
 unfold FdR at hc
 obtain⟨c,rfl,hc⟩:=hc
 obtain⟨ub,ul,uf,xl,xf,rfl,_⟩:=hc.cells
 refine⟨hr.isP hlt,(VI hr hlt 1 0).2,ub,ul,uf,fun st j x hx=>?_⟩
 rw[(VI hr hlt 1 j).1]
 exact hr.ldfx st i (1+j) (Vv hcx (by rw[Nat.add_comm 1 j];exact hx))
end
theorem XA {s:B8} (hu:U8 s) (hl:s.length<=65536):QQ (tkT s) [] [] where
 own:=⟨(by decide:(0:Int)<=4),(by decide:(4:Int)<=7),fun _=>rfl,fun _=>⟨rfl,rfl,rfl⟩,fun _=>⟨rfl,rfl,rfl,rfl⟩,fun h=>absurd rfl h,fun _=>rfl,fun _=>rfl,fun _=>rfl⟩
 dec:=by show FD false [] 0;decide
 time:=fun h=>by cases h
 text:=hu
 tlen:=hl
 blen:=Nat.zero_le _
 keys:=rfl
theorem UZ {s:Sc} (h:QQ s [] []):JN (BY s)=0:=by
 have h0:=Qi.2 h
 unfold BY JN EA
 rw[if_neg (by omega),if_neg (by omega),if_neg (by omega)]
 unfold Hn HD HE
 rfl
def Wr:List (List B8):=[[[97],[98]],[[49],[120]],[[34,49,34],[]]]
theorem textA:Ea 44 Wr=Wb:=by decide
theorem dA:dOk 44 34=true:=by decide
theorem plA (c:B8) (h:GE 44 34 c=false/\(c.all fun x=>decide (x.toNat<128))=true/\(txt 34 c).length<=65536):JV 44 34 c/\AX c=c.length/\(txt 34 c).length<=65536:=⟨RM (Yl dA) h.1,EF c h.2.1,h.2.2⟩
theorem parseG:∃rs,Mw Wb 44 34 true= .ok (.mk 1 [] [] rs [])/\A3 rs=Wr:=by
 have hF:JV 44 34 [34,49,34]/\AX [34,49,34]=([34,49,34]:B8).length/\(txt 34 [34,49,34]).length<=65536:=⟨Tv (Yl dA) [49],EF _ rfl,by decide⟩
 have:=readX (a:=44) (q:=34) dA true (l:=Wr) (W:=2) (fun r hr=>by
  simp only[Wr,List.mem_cons,List.not_mem_nil,or_false]at hr
  rcases hr with rfl | rfl | rfl
  ·exact⟨by decide,rfl,fun c hc=>by
    simp only[List.mem_cons,List.not_mem_nil,or_false]at hc
    rcases hc with rfl | rfl<;>exact plA _ (by decide)⟩
  ·exact⟨by decide,rfl,fun c hc=>by
    simp only[List.mem_cons,List.not_mem_nil,or_false]at hc
    rcases hc with rfl | rfl<;>exact plA _ (by decide)⟩
  ·exact⟨by decide,rfl,fun c hc=>by
    simp only[List.mem_cons,List.not_mem_nil,or_false]at hc
    rcases hc with rfl | rfl
    ·exact hF
    ·exact plA _ (by decide)⟩) (by rw[textA];decide) (by decide) (fun _ r hr=>by
  simp only[Wr,List.head?_cons,Option.some.injEq]at hr
  subst hr
  refine⟨by decide,fun c hc=>?_⟩
  simp only[List.mem_cons,List.not_mem_nil,or_false]at hc
  rcases hc with rfl | rfl<;>decide)
 rwa [textA]at this
def lA:List Vl:=[Q2 [.mk [97] (BY (tkN false [49] 0)),.mk [98] (BY (tkT [120]))],Q2 [.mk [97] (BY (tkT [49])),.mk [98] (BY (scK 0))]]
theorem valA:CK 34 true true Wr=lA:=by kernel_rfl
theorem ML {st:St} {K:Bool->St->Prop} (hk:∀st',Aq st st'->K true st'):CallT PR Bj [] [.one .bool] st K:=by
 obtain⟨rs,hp,hraw⟩:=parseG
 refine I0 st K (OB (SR (X6 (s:=Wb) (by decide) (fun p st1 e1 h _=>?_) fun rs' u xs st1 e1 h hu hx=>?_)))
 ·rw[show AY ⟨Wb,44,34,48,65536⟩ true 1048576 1024 65536=_ from hp]at h;cases h
 rw[show AY ⟨Wb,44,34,48,65536⟩ true 1048576 1024 65536=_ from hp]at h
 cases h
 rw[hraw,valA]at hu hx
 have hu:Rd 13 u 2 xs:=hu
 obtain⟨p1,_,_,f1,_,xf1,ld1,_,_,hf1,hfx1⟩:=ld13 (l:=lA) hu hx (i:=1) rfl
 obtain⟨p0,_,_,f0,_,xf0,ld0,_,_,hf0,hfx0⟩:=ld13 (l:=lA) hu hx (i:=0) rfl
 obtain⟨a1,a2,_,_,_,la⟩:=ld14 hf1 hfx1 (i:=0) rfl
 obtain⟨b1,b2,_,_,_,lb⟩:=ld14 hf0 hfx0 (i:=0) rfl
 obtain⟨c1,c2,_,_,_,lc⟩:=ld14 hf1 hfx1 (i:=1) rfl
 have hf1:Rd 14 f1 2 xf1:=hf1
 have hf0:Rd 14 f0 2 xf0:=hf0
 have h49:QQ (tkT [49]) [] []:=XA (EF [49] rfl) (by decide)
 have hE:shE 44 34 true (BY (tkT [49]))=0:=by
  unfold shE
  rw[if_neg (by rw[dA];decide),if_neg (by rw[UZ h49];decide)]
  decide
 have hT:shT 44 34 true (BY (tkT [49]))=str11:=by
  unfold shT
  rw[if_pos hE]
  show Lv 44 34 true (tkT [49])=_
  unfold Lv
  rw[if_pos (show(tkT [49]).kind=4 from rfl),if_pos (by decide)]
  decide
 have hv:VlR St.zero (BY (tkT [49])) (A7 (tkT [49]) .nilSlice .nilSlice .nilSlice):=NJ _ rfl
 refine Ab (BK rfl hu.one rfl) (OB (X5 (v:=BY (tkT [49])) (by rw[szl''];decide) hv fun st2 e2=>?_))
 rw[hE,hT]
 refine Aa (fun _=>Ab hu.isSl (Aa (fun _=>⟨⟨by decide,by rw[hu.lenZ];decide⟩,Ab p1 (Ad (ld1 _ 12 _ rfl) (Ab hf1.isSl (Aa (fun _=>⟨⟨by decide,by rw[hu.lenZ];decide⟩,Ab p1 (Ad (ld1 _ 12 _ rfl)
  ⟨⟨by decide,by rw[hf1.lenZ];decide⟩,Ab a1 (Ab a2 (Ad (la _ 9 _ rfl) (Am (Aa (fun _=>⟨⟨by decide,by rw[hu.lenZ];decide⟩,Ab p0 (Ad (ld0 _ 12 _ rfl)
   ⟨⟨by decide,by rw[hf0.lenZ];decide⟩,Ab b1 (Ab b2 (Ad (lb _ 0 _ rfl) (Ax (Aa (fun _=>⟨⟨by decide,by rw[hu.lenZ];decide⟩,Ab p1 (Ad (ld1 _ 12 _ rfl)
    ⟨⟨by decide,by rw[hf1.lenZ];decide⟩,Ab c1 (Ab c2 (Ad (lc _ 0 _ rfl) (Ax (Aa (fun _=>Aa (fun _=>hk st2 (e1.trans e2)) fun g=>absurd rfl g) fun g=>absurd rfl g))))⟩)⟩) fun g=>absurd rfl g))))⟩)⟩) fun g=>absurd rfl g))))⟩)⟩) fun g=>absurd (by rw[hf1.lenS];rfl) g)))⟩) fun g=>absurd (by rw[hu.lenS];rfl) g)) fun g=>absurd rfl g
theorem V6 {s:B8} {k:Nat} (hv:AX s=s.length) (hb:Bd s k):AX (s.drop k)=(s.drop k).length:=by
 have h1:=Le _ s k (Nat.le_refl _) hv hb
 have h2:=Sa _ (s.take k) (s.drop k) (Nat.le_refl _) (by rw[h1,List.length_take];have:=hb.1;omega)
 rw[List.take_append_drop,hv,List.length_take,Nat.min_eq_left hb.1]at h2
 rw[List.length_drop];omega
theorem R9 {s:B8} {i e:Nat} (hv:AX s=s.length) (hi:Bd s i) (he:Bd s e) (hie:i<=e):U8 (slc s i e):=by
 have h1:=Le _ s e (Nat.le_refl _) hv he
 have hl:(s.take e).length=e:=by rw[List.length_take];have:=he.1;omega
 unfold slc U8
 refine V6 (by rw[h1,hl]) ⟨by omega,?_⟩
 rw[hl,NU]
 by_cases h:i=e
 ·exact .inl h
 ·right
  rw[if_pos (by omega)]
  rcases hi.2 with h2 | h2
  ·have:=he.1;omega
  ·exact h2
theorem bd_zero {s:B8} (hv:AX s=s.length):Bd s 0:=by
 refine⟨Nat.zero_le _,?_⟩
 by_cases h:s.length=0
 ·exact .inl h.symm
 ·exact .inr (Vq fun h0=>by rw[BG _ h0]at hv;omega)
theorem Yw {s:B8} {e:Nat} {b:Int} (h:by_ s e=b):(bt s e:Int)=b:=h
theorem YE {s:B8} {e:Nat} {b:Int} (he:e<s.length) (h:by_ s e=b) (hb:b<128):Bd s e:=⟨by omega,.inr fun hc=>by
 have:=Yw h
 unfold Pa at hc;omega⟩
theorem HJ.u8 {a q:Int} (ha:a<128) {s:B8} (hv:AX s=s.length) {i:Nat} {ks:List Nd} {e n:Nat} (h:HJ a q s i ks e n):Bd s i->(∀k,k∈ks->U8 (AB k))/\Bd s (e+n):=by
 induction h with
 | @last i e n h1 h2 h3=>
  intro hi
  have hc:=Cd hi.1 h1
  obtain⟨g1,g2,g3,g4⟩:=En hc.2 h3
  have he:Bd s e:=by
   by_cases h:e=s.length
   ·exact⟨by omega,.inl h⟩
   ·rcases g4 (by omega)with h | h
    ·exact YE (by omega) h (by decide)
    ·exact YE (by omega) h (by decide)
  refine⟨fun k hk=>?_,?_⟩
  ·obtain rfl:=List.mem_singleton.1 hk
   exact R9 hv hi he hc.1
  ·by_cases h0:n=0
   ·subst h0;exact he
   ·have h5:=Yw (g3 (by omega))
    have hb:=Ty _ s (e+n-1) (Nat.le_refl _) hv (by omega) (by omega)
    rwa [show e+n-1+1=e+n by omega]at hb
 | @more i e f n ks h1 h2 h3 h4 ih=>
  intro hi
  have hc:=Cd hi.1 h1
  have he:Bd s e:=YE h2 h3 ha
  have h5:=Yw h3
  have hb:=Ty _ s e (Nat.le_refl _) hv h2 (by omega)
  obtain⟨i1,i2⟩:=ih hb
  refine⟨fun k hk=>?_,i2⟩
  rcases List.mem_cons.1 hk with rfl | hk
  ·exact R9 hv hi he hc.1
  ·exact i1 k hk
theorem HH.u8 {a q:Int} (ha:a<128) {s:B8} (hv:AX s=s.length) {i:Nat} {rs:List Nd} (h:HH a q s i rs):Bd s i->∀r,r∈rs->∀k,k∈As r->U8 (AB k):=by
 induction h with
 | nil h=>intro _ r hr;cases hr
 | @cons i e n ks rs h1 h2 h3 ih=>
  intro hi r hr
  obtain⟨i1,i2⟩:=h2.u8 ha hv hi
  rcases List.mem_cons.1 hr with rfl | hr
  ·exact i1
  ·exact ih i2 r hr
theorem QC {c:UInt8}:∀(m:Nat) (t:B8),m<=(dbl c t).length->(∀j,j<m->(dbl c t).getD j 0≠c)->m<=t.length/\(dbl c t).take m=t.take m/\(dbl c t).drop m=dbl c (t.drop m)
 | 0,t,_,_=>⟨Nat.zero_le _,rfl,rfl⟩
 | m+1,[],h,_=>by simp[dbl]at h
 | m+1,b::t,h,hn=>by
  rw[By]at h hn⊢
  by_cases hb:b=c
  ·rw[if_pos hb]at hn
   exact absurd rfl (hn 0 (by omega))
  ·rw[if_neg hb]at h hn⊢
   have h':m<=(dbl c t).length:=by simpa using h
   obtain⟨i1,i2,i3⟩:=QC m t h' fun j hj=>by
    have:=hn (j+1) (by omega)
    simpa using this
   refine⟨by rw[List.length_cons];omega,?_,?_⟩
   ·show b::(dbl c t).take m=b::t.take m
    rw[i2]
   ·exact i3
theorem JX {c:UInt8} {l:B8} (hc:c.toNat<128) (h:AX (c::l)=(c::l).length):AX l=l.length:=by
 have h1:=Oe (c::l) (by simp) hc
 rw[BH _ (by omega),h1.1]at h
 simp only[List.drop_succ_cons,List.drop_zero,List.length_cons]at h;omega
theorem TH {c:UInt8} (hc:c.toNat<128):∀(n:Nat) (t:B8),t.length<=n->AX (dbl c t)=(dbl c t).length->AX t=t.length:=by
 intro n
 induction n with
 | zero=>intro t h _;rw[List.eq_nil_of_length_eq_zero (by omega:t.length=0),JY];rfl
 | succ n ih=>
  intro t h hv
  cases t with
  | nil=>rw[JY];rfl
  | cons b t=>
   rw[List.length_cons]at h
   by_cases hb:b=c
   ·subst hb
    rw[By,if_pos rfl]at hv
    have:=JX hc (JX hc hv)
    exact JZ hc (ih t (by omega) this)
   ·by_cases hb2:b.toNat<128
    ·rw[By,if_neg hb]at hv
     exact JZ hb2 (ih t (by omega) (JX hb2 hv))
    ·have hD:dbl c (b::t)=b::dbl c t:=by rw[By,if_neg hb];rfl
     generalize hd:dbl c (b::t)=D at hv
     have hne:D≠ []:=by rw[<-hd,hD];simp
     have hpos:0<D.length:=List.length_pos_iff.2 hne
     have h0:ul D≠0:=fun h0=>by rw[BG D h0]at hv;omega
     have hle:=Jr D
     have hsp:=QC (c:=c) (ul D) (b::t) (by rw[hd];exact hle) (fun j hj=>by
      rw[hd]
      by_cases hj0:j=0
      ·subst hj0
       rw[<-hd,hD];exact hb
      ·have h9:=(Q4 D j (by omega) hj).1
       intro he
       have:bt D j=c.toNat:=by unfold bt;rw[he]
       omega)
     rw[hd]at hsp
     obtain⟨g1,g2,g3⟩:=hsp
     have hu:=Vp (l:=D) (m:=ul D) h0 (Nat.le_refl _)
     have hut:ul (b::t)=ul D:=by
      have:=Od (l:=b::t) (m:=ul D) (by rw[<-g2,hu.1];exact h0)
      rw[this,<-g2,hu.1]
     rw[BH _ h0,g3]at hv
     have hdl:(dbl c ((b::t).drop (ul D))).length=D.length-ul D:=by rw[<-g3,List.length_drop]
     have hr:=ih ((b::t).drop (ul D)) (by rw[List.length_drop,List.length_cons];omega) (by rw[hdl];omega)
     rw[BH _ (by rw[hut];exact h0),hut,hr,List.length_drop];omega
theorem u8_txt {q:Int} (hq:q<128) {c:B8} (hw:JU q c) (hu:U8 c):U8 (txt q c):=by
 rcases hw with rfl | h | ⟨b,t,hb,rfl⟩
 ·have:txt q []=[]:=by unfold txt;rw[if_pos (.inl rfl)]
  rw[this];exact hu
 ·have:txt q c=c:=by unfold txt;rw[if_pos (.inr h)]
  rw[this];exact hu
 ·rw[KV hb]
  have hb1:b.toNat<128:=by omega
  have h1:=JX hb1 hu
  have hbd:Bd (dbl b t++[b]) (dbl b t).length:=⟨by simp,.inr fun hc=>by
   have:bt (dbl b t++[b]) (dbl b t).length=b.toNat:=by unfold bt;rw[List.getD_eq_getElem?_getD,List.getElem?_append_right (Nat.le_refl _)];simp
   unfold Pa at hc;omega⟩
  have h2:=Le _ _ _ (Nat.le_refl _) h1 hbd
  rw[List.take_left]at h2
  exact TH hb1 _ t (Nat.le_refl _) h2
section
theorem V4 {names:List B8} {row:List Sc} (h:names.length=row.length):(GS names row).map Fd.key=names:=by
 unfold GS
 rw[List.map_zipWith]
 show List.zipWith (fun k _=>k) names row=names
 refine List.ext_getElem? fun i=>?_
 rw[List.getElem?_zipWith]
 by_cases hi:i<names.length
 ·rw[List.getElem?_eq_getElem hi,List.getElem?_eq_getElem (by omega)]
 ·rw[List.getElem?_eq_none (by omega)]
structure Pj (q:Int) (hd:Bool) (W:Nat) (l:List (List B8)):Prop where
 txt:∀r,r∈l->∀c,c∈r->U8 (txt q c)/\(TVF.txt q c).length<=65536
 wid:∀r,r∈l->r.length=W
 pos:l≠ []->0<W
 names:hd=true->∀r,l.head? =some r->(r.map (TVF.txt q)).Nodup/\∀c,c∈r->(TVF.txt q c).length<=1024
theorem Sg {q:Int} {hd ty:Bool} {l:List (List B8)} {x:Vl} (hx:x∈CK q hd ty l):(hd=false/\∃r,r∈l/\x=Dg ((B5 q ty r).map BY))∨(hd=true/\∃h t r,l=h::t/\r∈t/\x=Q2 (GS (h.map (txt q)) (B5 q ty r))):=by
 cases hd with
 | false=>
  rw[EH]at hx
  obtain⟨r,hr,rfl⟩:=List.mem_map.1 hx
  exact .inl ⟨rfl,r,hr,rfl⟩
 | true=>
  cases l with
  | nil=>cases hx
  | cons h t=>
   have hx:x∈t.map fun r=>SO (h.map (txt q)) (B5 q ty r):=hx
   obtain⟨r,hr,rfl⟩:=List.mem_map.1 hx
   exact .inr ⟨rfl,h,t,r,rfl,hr,rfl⟩
section
variable {q:Int} {hd ty:Bool} {W:Nat} {l:List (List B8)}
theorem Pj.fld (ok:Pj q hd W l) {h r:List B8} {t:List (List B8)} (hl:l=h::t) (hr:r∈t):(GS (h.map (TVF.txt q)) (B5 q ty r)).map Fd.key=h.map (TVF.txt q)/\h.length=W/\r.length=W:=by
 have h1:=ok.wid h (by rw[hl];exact .head _)
 have h2:=ok.wid r (by rw[hl];exact .tail _ hr)
 exact⟨V4 (by rw[List.length_map,F8,h1,h2]),h1,h2⟩
end
end
section
open Classical in
noncomputable def Pb (n:Nd) (a q:Int) (hd:Bool):List B8:=if Ef n a q hd then(if hd=true then(BN (txt q) (CS n)).headD []else [])else []
theorem Rg:JR TV.str .nilSlice []:= .inl ⟨rfl,rfl,rfl⟩
section
variable {a q:Int} {hd ty:Bool} {st:St}
theorem Rx {n:Nd} {cs:List TV} (hc:NdC n cs) (hl:Ce n<=100000000000000) (hcn:BZ n<=1000000000000000) {K:TV->Int->St->Prop} (hk:∀v st',Aq st st'->JR TV.str v (Pb n a q hd)->K v (EC n a q hd) st'):
  CallT PR Cr [.agg cs,.agg [.int .u8 a,.int .u8 q,.bool hd,.bool ty]] [.one .tv,.one (.int .i64)] st K:=by
 obtain⟨kd,t0,t1,kv,tl,rfl,_⟩:=hc.five
 refine Hk kd t0 t1 kv tl a q hd ty st K (SG hc hl hcn fun v1 st1 e1 g1=>?_)
 by_cases ho:Ef n a q hd
 case neg=>
  have he:EC n a q hd=1:=by unfold EC;rw[if_neg ho]
  have:=hk .nilSlice st1 e1 (by unfold Pb;rw[if_neg ho];exact Rg)
  rw[he]at this⊢
  exact Aa (fun _=>this) fun h=>absurd (by decide) h
 have he:EC n a q hd=0:=by unfold EC;rw[if_pos ho]
 have hg:DE (txt q) n a q hd=BN (txt q) (CS n):=by unfold DE;rw[if_pos ho]
 rw[hg]at g1
 rw[he]at hk⊢
 obtain⟨vs1,hr1⟩:=g1.rd
 refine Aa (fun h=>absurd rfl h) fun _=>Ak (fun hh=>?_) fun hh=>Ab hr1.isSl (Aa (fun h0=>?_) fun h0=>?_)
 ·exact hk .nilSlice st1 e1 (by unfold Pb;rw[if_pos ho,if_neg fun h=>by rw[h]at hh;cases hh];exact Rg)
 ·have hnil:BN (txt q) (CS n)=[]:=List.length_eq_zero_iff.1 (by rw[hr1.lenS]at h0;omega)
  refine hk .nilSlice st1 e1 ?_
  unfold Pb
  rw[hnil,if_pos ho]
  split<;>exact Rg
 ·rw[hr1.lenS]at h0
  have hhd:hd=true:=by cases hd;exact absurd hh (by decide);rfl
  obtain⟨row,hrow⟩:∃r,(BN (txt q) (CS n))[0]? =some r:=⟨_,List.getElem?_eq_getElem (by omega)⟩
  obtain⟨u,hu,hr⟩:=g1.ldA hrow
  refine⟨⟨by omega,by rw[hr1.lenZ];omega⟩,Ad (hu _) (hk u st1 e1 ?_)⟩
  unfold Pb
  rw[if_pos ho,if_pos hhd]
  cases hcl:BN (txt q) (CS n)with
  | nil=>rw[hcl]at hrow;cases hrow
  | cons x y=>
   rw[hcl]at hrow
   cases hrow
   exact hr
end
theorem Tp:∀rs:List Nd,Gw (A3 rs)+rs.length<=Gv rs
 | []=>by simp[A3,Gw,Gv]
 | .mk k l t ks tl::rs=>by
  have ih:=Tp rs
  have h1:=Dk ks
  have e:A3 (.mk k l t ks tl::rs)=ks.map AB::A3 rs:=rfl
  rw[e]
  simp only[Gw,List.length_map,List.length_cons,Gv,BZ];omega
end
theorem Nr (n_0:Int) (b:B8) (d:B8) (n_3:TV) (n_4:B8) (d_0:Int) (d_1:Int) (d_2:Bool) (d_3:Bool) (p:TV) (st:St) (K:TV->Int->St->Prop) (h:CallT PR EZ [(.agg [.int .i64 n_0,.str b,.str d,n_3,.str n_4]),(.agg [.int .u8 d_0,.int .u8 d_1,.bool d_2,.bool d_3])] [sV,.one (.int .i64)] st (fun (n1:Int) (b1 b2:Bool) (s1:B8) (n2 n3 n4 n5 n6:Int) (s2:B8) (v1 v2 v3:TV) (n7:Int) z=>need (List.all (cV n1 b1 b2 s1 n2 n3 n4 n5 n6 s2 v1 v2 v3) Ap) (BId (n7≠0) (K .nilSlice 1 z) (CallT PR G6 [p] [.one .bool] z (fun (b3:Bool) y=>BIf (!b3) (K .nilSlice 1 y) (need (isSl p) (∃(I1:TV->Int->TV->TV->Int->Int->Int->Bool->Bool->V13 (St->Prop)) (M1:TV->Int->TV->TV->Int->Int->Int->Bool->Bool->V13 (St->Nat)),(I1 .nilSlice 0 p p ((lenS p:Int)) d_0 d_1 d_2 d_3 n1 b1 b2 s1 n2 n3 n4 n5 n6 s2 v1 v2 v3 y)/\∀a b e f d n8 n9 b4 b5 g b6 b7 s3 u i r v k s4 v4 v5 v6 c,I1 a b e f d n8 n9 b4 b5 g b6 b7 s3 u i r v k s4 v4 v5 v6 c->(BId (b<d) (((0<=b/\b<(lenZ 3 f:Int))/\Ag ((Aj c [] (.t (ixT 3 f b.toNat)) 0 3).map TV.agg) (fun (x1:TV)=>AT [.bool,.str,.int .i64] x1 (fun (b8:Bool) (s5:B8) (a3:Int)=>CallT PR Ih [(.agg (cV g b6 b7 s3 u i r v k s4 v4 v5 v6)),(.agg [.bool b8,.str s5,.int .i64 a3])] [sV,.one (.int .i64),.one (.int .i64)] c (fun (j:Int) (b9 m:Bool) (s6:B8) (q n l s w:Int) (s7:B8) (v7 v8 v9:TV) (a5 a2:Int) x=>need (List.all (cV j b9 m s6 q n l s w s7 v7 v8 v9) Ap) (BId (a2≠0) (K .nilSlice a2 x) (MV 3 1 8 a 1 [.int .i64 a5] x (fun (a1:TV) a0=>(I1 a1 ((i64.wrap (b+(1:Int)))) e f d n8 n9 b4 b5 j b9 m s6 q n l s w s7 v7 v8 v9 a0/\M1 a1 ((i64.wrap (b+(1:Int)))) e f d n8 n9 b4 b5 j b9 m s6 q n l s w s7 v7 v8 v9 a0<M1 a b e f d n8 n9 b4 b5 g b6 b7 s3 u i r v k s4 v4 v5 v6 c))))))))) (need (isSl e) (BId ((lenS e:Int)<(2:Int)) (K .nilSlice 26 c) (BIf b4 (((0<=(0:Int)/\(0:Int)<(lenZ 1 a:Int))/\Ag (Ac c [] (.t (ixT 1 a (Int.toNat (0:Int)))) 0) (fun (x2:TV)=>Af (.int .i64) x2 (fun (a6:Int)=>((0<=(0:Int)/\(0:Int)<(lenZ 1 a:Int))/\stB c (ixT 1 a (Int.toNat (0:Int))) [(.int .i64 (i64.wrap (a6+(1:Int))))] (fun o=>((0<=(0:Int)/\(0:Int)<(lenZ 1 a:Int))/\Ag (Ac o [] (.t (ixT 1 a (Int.toNat (0:Int)))) 0) (fun (x3:TV)=>Af (.int .i64) x3 (fun (a8:Int)=>((0<=(1:Int)/\(1:Int)<(lenZ 1 a:Int))/\Ag (Ac o [] (.t (ixT 1 a (Int.toNat (1:Int)))) 0) (fun (x4:TV)=>Af (.int .i64) x4 (fun (a9:Int)=>K ((.list 1 .full 3 [.int .i64 a8,.int .i64 a9,.int .i64 0])) 0 o)))))))))))) (((0<=(0:Int)/\(0:Int)<(lenZ 1 a:Int))/\Ag (Ac c [] (.t (ixT 1 a (Int.toNat (0:Int)))) 0) (fun (x5:TV)=>Af (.int .i64) x5 (fun (a4:Int)=>((0<=(1:Int)/\(1:Int)<(lenZ 1 a:Int))/\Ag (Ac c [] (.t (ixT 1 a (Int.toNat (1:Int)))) 0) (fun (x6:TV)=>Af (.int .i64) x6 (fun (a7:Int)=>K ((.list 1 .full 3 [.int .i64 a4,.int .i64 a7,.int .i64 0])) 0 c)))))))))))))))))):CallT PR Gi [(.agg [.int .i64 n_0,.str b,.str d,n_3,.str n_4]),(.agg [.int .u8 d_0,.int .u8 d_1,.bool d_2,.bool d_3]),p] [.one .tv,.one (.int .i64)] st K:=
 Ae (cfg:=⟨[3,4,8,12],[46],[]⟩) (h:=(.seq .none (.seq .none (.seq .none (.seq .none (.seq (.seq .none (.block (.loop ⟨[(10,.tv),(29,.int .i64),(2,.tv),(27,.tv),(28,.int .i64)],[(4,1,0),(8,2,0)],[(1,4),(2,13)],[(1,0,.int .u8),(1,1,.int .u8),(1,2,.bool),(1,3,.bool),(2,0,.int .i64),(2,1,.bool),(2,2,.bool),(2,3,.str),(2,4,.int .i64),(2,5,.int .i64),(2,6,.int .i64),(2,7,.int .i64),(2,8,.int .i64),(2,9,.str),(2,10,.tv),(2,11,.tv),(2,12,.tv)]⟩ .none))) .none)))))) mixed (fun _ _=>Tryz.call47 _ _) Tryz.func47 (by kernel_rfl) (by kernel_rfl) h
section
abbrev BA:=Bool×B8×Int
def Fv (s:BA):List TV:=[.bool s.1,.str s.2.1,.int .i64 s.2.2]
def Hc (p:TV) (ss:List BA):Prop:=Rd 3 p ss.length (ss.flatMap Fv)
theorem P3:∀ss:List BA,(ss.flatMap Fv).length=ss.length*3
 | []=>rfl
 | s::r=>by
  rw[List.flatMap_cons,List.length_append,P3 r,List.length_cons]
  show 3+_=_
  omega
theorem Ho:∀{ss:List BA} {k:Nat} {s:BA},ss[k]? =some s->∀j,(ss.flatMap Fv)[k*3+j]? =if j<3 then(Fv s)[j]? else(ss.flatMap Fv)[k*3+j]?
 | [],k,s,h,j=>by simp at h
 | x::r,0,s,h,j=>by
  simp only[List.getElem?_cons_zero,Option.some.injEq]at h
  subst h
  split
  ·rename_i hj
   rw[List.flatMap_cons,Nat.zero_mul,Nat.zero_add,List.getElem?_append_left (by exact hj)]
  ·rfl
 | x::r,k+1,s,h,j=>by
  rw[List.getElem?_cons_succ]at h
  have ih:=Ho h j
  have e:(x::r).flatMap Fv=Fv x++r.flatMap Fv:=List.flatMap_cons ..
  have hl:(Fv x).length=3:=rfl
  rw[e,List.getElem?_append_right (by omega),hl,show(k+1)*3+j-3=k*3+j by omega]
  exact ih
theorem el3 {st:St} {p:TV} {ss:List BA} (h:Hc p ss) {i:Int} {k:Nat} {s:BA} (hi:i=k) (hk:ss[k]? =some s) {f:Fun [.bool,.str,.int .i64] Prop} (hf:f s.1 s.2.1 s.2.2):
  (0<=i/\i<(lenZ 3 p:Int))/\Ag ((Aj st [] (.t (ixT 3 p (Int.toNat i))) 0 3).map TV.agg) fun x=>AT [.bool,.str,.int .i64] x f:=by
 subst hi
 have hlt:=(List.getElem?_eq_some_iff.1 hk).1
 have h0:=Ho hk 0
 have h1:=Ho hk 1
 have h2:=Ho hk 2
 have hl:((ss.flatMap Fv).drop (k*3)).take 3=Fv s:=by
  refine List.ext_getElem? fun j=>?_
  rw[List.getElem?_take]
  split
  ·rename_i hj
   rw[List.getElem?_drop,Ho hk j,if_pos hj]
  ·rename_i hj
   rw[List.getElem?_eq_none]
   show 3<=j
   omega
 have hf':AT [.bool,.str,.int .i64] (.agg (Fv s)) f:=hf
 refine⟨⟨by omega,by rw[Rd.lenZ h];omega⟩,Ad (x:= .agg (Fv s)) ?_ hf'⟩
 rw[Int.toNat_natCast,(SlR.of_rd (st:=st) h).ldc (P3 ss) hlt,hl];rfl
theorem fl3 {st:St} {p:TV} {ss:List BA} (h:Hc p ss) {i:Int} {k j:Nat} {s:BA} (hi:i=k) (hk:ss[k]? =some s) (hj:j<3) {x:TV} (hx:(Fv s)[j]? =some x) {f:TV->Prop} (hf:f x):
  (0<=i/\i<(lenZ 3 p:Int))/\need (TVF.isPtr (ixT 3 p (Int.toNat i))) (Ag (Ac st [] (.t (Ao (ixT 3 p (Int.toNat i)) j)) 0) f):=by
 subst hi
 have hlt:=(List.getElem?_eq_some_iff.1 hk).1
 refine⟨⟨by omega,by rw[Rd.lenZ h];omega⟩,Ab (by rw[Int.toNat_natCast];exact h.isP hlt) (Ad ?_ hf)⟩
 rw[Int.toNat_natCast]
 exact h.ldfx st k j (by rw[Ho hk j,if_pos hj];exact hx)
def EJ (s:BA):Prop:=(s.1=true->s.2.1=[]/\0<=s.2.2/\s.2.2<=65536)/\(s.1=false->s.2.2=0/\s.2.1.length<=1024/\U8 s.2.1)
def Mv (ss:List BA):Prop:=ss.length<=48/\∀s,s∈ss->EJ s
section
variable {st:St}
theorem path_ok {p:TV} {ss:List BA} (h:Hc p ss) {K:Bool->St->Prop} (hk1:Mv ss->K true st) (hk2:¬Mv ss->K false st):CallT PR G6 [p] [.one .bool] st K:=by
 refine PA p st K (Ab (Rd.isSl h) ?_)
 rw[Rd.lenS h]
 refine Aa (fun g=>hk2 fun hp=>by have:=hp.1;omega) fun g=>Ab (Rd.isSl h) ?_
 refine⟨fun i u n st'=>p=u/\(ss.length:Int)=n/\st=st'/\∃k:Nat,i=k/\k<=ss.length/\∀(j:Nat) s,j<k->ss[j]? =some s->EJ s,fun i _ _ _=>(ss.length-i).toNat,⟨rfl,rfl,rfl,0,rfl,Nat.zero_le _,fun j s hj=>by omega⟩,?_⟩
 rintro _ _ _ _ ⟨rfl,rfl,rfl,k,rfl,hkl,hok⟩
 refine Aa (fun g1=>?_) fun g1=>?_
 ·obtain⟨s,hs⟩:∃s,ss[k]? =some s:=⟨_,List.getElem?_eq_getElem (by omega)⟩
  have bad:¬EJ s->K false st:=fun hn=>hk2 fun hp=>hn (hp.2 s (List.mem_of_getElem? hs))
  have next:EJ s->∀(j:Nat) s',j<k+1->ss[j]? =some s'->EJ s':=fun hy j s' hj hs'=>by
   by_cases hjk:j=k
   ·subst hjk;rw[hs]at hs';cases hs';exact hy
   ·exact hok j s' (by omega) hs'
  refine el3 h rfl hs ?_
  rw[Ah _ (by omega) (by omega)]
  refine Ak (fun hb=>Aa (fun g2=>bad fun hy=>g2 (hy.1 hb).1) fun g2=>Aa (fun g3=>bad fun hy=>?_) fun g3=>Aa (fun g4=>bad fun hy=>?_) fun g4=>?_) fun hb=>Aa (fun g2=>bad fun hy=>g2 (hy.2 hb).1) fun g2=>Aa (fun g3=>bad fun hy=>?_) fun g3=>J1 (by omega) (Ak (fun g4=>bad fun hy=>?_) fun g4=>?_)
  ·have:=(hy.1 hb).2.1;omega
  ·have:=(hy.1 hb).2.2;omega
  ·refine⟨⟨rfl,rfl,rfl,k+1,by omega,by omega,next ⟨fun _=>⟨Decidable.not_not.1 g2,by omega,by omega⟩,fun e=>by rw[hb]at e;cases e⟩⟩,by dsimp only;omega⟩
  ·have:=(hy.2 hb).2.1;omega
  ·rw[decide_eq_true (show AX s.2.1=s.2.1.length from(hy.2 hb).2.2)]at g4;cases g4
  ·have g4:AX s.2.1=s.2.1.length:=by simpa using g4
   refine⟨⟨rfl,rfl,rfl,k+1,by omega,by omega,next ⟨fun e=>(by rw[hb]at e;cases e),fun _=>⟨Decidable.not_not.1 g2,by omega,g4⟩⟩⟩,by dsimp only;omega⟩
 ·refine hk1 ⟨by omega,fun s hs=>?_⟩
  obtain⟨j,hj⟩:=List.getElem?_of_mem hs
  exact hok j s (by have:=(List.getElem?_eq_some_iff.1 hj).1;omega) hj
theorem SH {p:TV} {ss:List BA} (h:Hc p ss) {K:Bool->St->Prop} (hk1:Mv ss->∀st',Aq st st'->K true st') (hk2:¬Mv ss->∀st',Aq st st'->K false st'):CallT PR BU [p] [.one .bool] st K:=by
 refine IQ p st K (Ab (Rd.isSl h) ?_)
 rw[Rd.lenS h]
 refine Aa (fun g=>hk2 (fun hp=>by have:=hp.1;omega) _ (Aq.refl _)) fun g=>?_
 refine⟨fun i u st'=>p=u/\Aq st st'/\∃k:Nat,i=k/\k<=ss.length/\∀(j:Nat) s,j<k->ss[j]? =some s->EJ s,fun i _ _=>(ss.length-i).toNat,⟨rfl,Aq.refl _,0,rfl,Nat.zero_le _,fun j s hj=>by omega⟩,?_⟩
 rintro _ _ st1 ⟨rfl,e1,k,rfl,hkl,hok⟩
 refine Ab (Rd.isSl h) ?_
 rw[Rd.lenS h]
 refine Aa (fun g1=>?_) fun g1=>?_
 ·obtain⟨s,hs⟩:∃s,ss[k]? =some s:=⟨_,List.getElem?_eq_getElem (by omega)⟩
  have bad:¬EJ s->∀st',Aq st st'->K false st':=fun hn=>hk2 fun hp=>hn (hp.2 s (List.mem_of_getElem? hs))
  have next:EJ s->∀(j:Nat) s',j<k+1->ss[j]? =some s'->EJ s':=fun hy j s' hj hs'=>by
   by_cases hjk:j=k
   ·subst hjk;rw[hs]at hs';cases hs';exact hy
   ·exact hok j s' (by omega) hs'
  rw[Ah _ (by omega) (by omega)]
  have l0:∀{f:Bool->Prop} {stx:St},f s.1->(0<=(k:Int)/\(k:Int)<(lenZ 3 p:Int))/\need (TVF.isPtr (ixT 3 p (Int.toNat (k:Int)))) (Ag (Ac stx [] (.t (Ao (ixT 3 p (Int.toNat (k:Int))) 0)) 0) fun x=>Af .bool x f):=fun hf=>fl3 h rfl hs (by decide) (x:= .bool s.1) rfl hf
  have l1:∀{f:B8->Prop} {stx:St},f s.2.1->(0<=(k:Int)/\(k:Int)<(lenZ 3 p:Int))/\need (TVF.isPtr (ixT 3 p (Int.toNat (k:Int)))) (Ag (Ac stx [] (.t (Ao (ixT 3 p (Int.toNat (k:Int))) 1)) 0) fun x=>Af .str x f):=fun hf=>fl3 h rfl hs (by decide) (x:= .str s.2.1) rfl hf
  have l2:∀{f:Int->Prop} {stx:St},f s.2.2->(0<=(k:Int)/\(k:Int)<(lenZ 3 p:Int))/\need (TVF.isPtr (ixT 3 p (Int.toNat (k:Int)))) (Ag (Ac stx [] (.t (Ao (ixT 3 p (Int.toNat (k:Int))) 2)) 0) fun x=>Af (.int .i64) x f):=fun hf=>fl3 h rfl hs (by decide) (x:= .int .i64 s.2.2) rfl (Ax hf)
  refine l0 (Ak (fun hb=>l1 (Aa (fun g2=>bad (fun hy=>g2 (hy.1 hb).1) _ e1) fun g2=>l2 (Aa (fun g3=>bad (fun hy=>?_) _ e1) fun g3=>l2 (Aa (fun g4=>bad (fun hy=>?_) _ e1) fun g4=>l0 (Ak (fun hb2=>by rw[hb]at hb2;cases hb2) fun _=>?_))))) fun hb=>l0 (Ak (fun _=>l2 (Aa (fun g2=>bad (fun hy=>g2 (hy.2 hb).1) _ e1) fun g2=>l1 (Aa (fun g3=>bad (fun hy=>?_) _ e1) fun g3=>l1 (Wj (by omega) fun st2 e2=>Ak (fun g4=>bad (fun hy=>?_) _ (e1.trans e2)) fun g4=>?_)))) fun hb2=>by rw[hb]at hb2;cases hb2))
  ·have:=(hy.1 hb).2.1;omega
  ·have:=(hy.1 hb).2.2;omega
  ·refine⟨⟨rfl,e1,k+1,by omega,by omega,next ⟨fun _=>⟨Decidable.not_not.1 g2,by omega,by omega⟩,fun e=>by rw[hb]at e;cases e⟩⟩,by dsimp only;omega⟩
  ·have:=(hy.2 hb).2.1;omega
  ·rw[decide_eq_true (show AX s.2.1=s.2.1.length from(hy.2 hb).2.2)]at g4;cases g4
  ·have g4:AX s.2.1=s.2.1.length:=by simpa using g4
   refine⟨⟨rfl,e1.trans e2,k+1,by omega,by omega,next ⟨fun e=>(by rw[hb]at e;cases e),fun _=>⟨Decidable.not_not.1 g2,by omega,g4⟩⟩⟩,by dsimp only;omega⟩
 ·refine hk1 ⟨by omega,fun s hs=>?_⟩ _ e1
  obtain⟨j,hj⟩:=List.getElem?_of_mem hs
  exact hok j s (by have:=(List.getElem?_eq_some_iff.1 hj).1;omega) hj
end
def Ia:List Fd->B8->Nat->Option (Vl×Nat)
 | [],_,_=>none
 | d::r,key,i=>if d.key=key then some (d.val,i)else Ia r key (i+1)
theorem Qs {f:List Fd} {key:B8} {k:Nat} {d:Fd} (h:f[k]? =some d):Ia (f.drop k) key k=if d.key=key then some (d.val,k)else Ia (f.drop (k+1)) key (k+1):=by
 rw[Hz h,Ia]
theorem Hw:∀{f:List Fd} {key:B8} {i k:Nat} {v:Vl},Ia f key i=some (v,k)->∃j d,k=i+j/\f[j]? =some d/\d.key=key/\d.val=v/\∀(j':Nat) d',j'<j->f[j']? =some d'->d'.key≠key
 | [],key,i,k,v,h=>by cases h
 | d::r,key,i,k,v,h=>by
  rw[Ia]at h
  by_cases hd:d.key=key
  ·rw[if_pos hd]at h
   simp only[Option.some.injEq,Prod.mk.injEq]at h
   exact⟨0,d,h.2.symm,rfl,hd,h.1,fun j' d' hj=>by omega⟩
  ·rw[if_neg hd]at h
   obtain⟨j,d',h1,h2,h3,h4,h5⟩:=Hw h
   refine⟨j+1,d',by omega,by simpa using h2,h3,h4,fun j' x hj hx=>?_⟩
   cases j' with
   | zero=>simp only[List.getElem?_cons_zero,Option.some.injEq]at hx;subst hx;exact hd
   | succ j'=>exact h5 j' x (by omega) (by simpa using hx)
def Ci (w:Vl) (s:BA):Except Int (Vl×Int):=
 if s.1=true then(if w.sc.kind=6 then(match w.list[s.2.2.toNat]? with | some x=> .ok (x,s.2.2) | none=> .error 7)else .error 6)
 else(if w.sc.kind=7 then(match Ia w.flds s.2.1 0 with | some (x,k)=> .ok (x,(k:Int)) | none=> .error 7)else .error 6)
def Gc:Vl->List BA->List Int->Except Int (Vl×List Int)
 | w,[],acc=> .ok (w,acc)
 | w,s::r,acc=>match Ci w s with | .error e=> .error e | .ok (x,k)=>Gc x r (acc++[k])
theorem MQ {w:Vl} {s:BA} {e:Int} (h:Ci w s= .error e):e≠0:=by
 unfold Ci at h
 split at h
 ·split at h
  ·split at h<;>cases h
   decide
  ·cases h;decide
 ·split at h
  ·split at h<;>cases h
   decide
  ·cases h;decide
section
variable {st:St}
theorem X4 {w:Vl} {cs:List TV} {s:BA} (h:VlR St.zero w cs) (hN:w.sz<=2000000) (hs:EJ s)
  {K:Int->Bool->Bool->B8->Int->Int->Int->Int->Int->B8->TV->TV->TV->Int->Int->St->Prop}
  (hk1:∀e k1 b1 b2 s1 k2 k3 k4 k5 k6 s2 u1 u2 u3,List.all [.int .i64 k1,.bool b1,.bool b2,.str s1,.int .i64 k2,.int .i64 k3,.int .i64 k4,.int .i64 k5,.int .i64 k6,.str s2,u1,u2,u3] Ap=true->Ci w s= .error e->K k1 b1 b2 s1 k2 k3 k4 k5 k6 s2 u1 u2 u3 0 e st)
  (hk2:∀x i ub ul uf,Ci w s= .ok (x,i)->VlR St.zero x (A7 x.sc ub ul uf)->K x.sc.kind x.sc.b x.sc.neg x.sc.dg x.sc.ex x.sc.tk x.sc.td x.sc.tn x.sc.tz x.sc.text ub ul uf i 0 st):
  CallT PR Ih [.agg cs,.agg [.bool s.1,.str s.2.1,.int .i64 s.2.2]] [.agg NG,.one (.int .i64),.one (.int .i64)] st K:=by
 have h0:=h
 obtain⟨sc,l,f⟩:=w
 obtain⟨ub,ul,uf,xl,xf,rfl,h1,h2,h3,h4,h5⟩:=h.cells
 have hsz:=szs sc l f
 have hll:=I8 l
 have hfl:=Fa f
 have on:List.all (A7 sc ub ul uf) Ap=true:=BK h1.zero.one h2.zero.one h4.zero.one
 have bad:∀e,Ci (.mk sc l f) s= .error e->K sc.kind sc.b sc.neg sc.dg sc.ex sc.tk sc.td sc.tn sc.tz sc.text ub ul uf 0 e st:=fun e he=>hk1 e _ _ _ _ _ _ _ _ _ _ _ _ _ on he
 refine QY _ _ _ _ _ _ _ _ _ _ _ _ _ s.1 s.2.1 s.2.2 st K (Ak (fun hb=>?_) fun hb=>?_)
 ·obtain⟨p1,p2,p3⟩:=hs.1 hb
  refine Aa (fun g=>Ab h2.isSl ?_) fun g=>Ak (fun hb2=>by rw[hb]at hb2;cases hb2) fun _=>Ab on (bad 6 ?_)
  ·rw[h2.lenS]
   refine Aa (fun g1=>Ab on (bad 7 ?_)) fun g1=>?_
   ·unfold Ci
    rw[if_pos hb,if_pos (show(Vl.mk sc l f).sc.kind=6 from g),show(Vl.mk sc l f).list[s.2.2.toNat]? =none from List.getElem?_eq_none (by show l.length<=_;omega)]
   ·refine el13 (k:=s.2.2.toNat) (K6 _) h2 h3 (by omega) (by omega) fun s' l' f' ub1 ul1 uf1 gx hx on1=>Ab on1 ?_
    refine hk2 (.mk s' l' f') s.2.2 ub1 ul1 uf1 ?_ hx
    unfold Ci
    rw[if_pos hb,if_pos (show(Vl.mk sc l f).sc.kind=6 from g),show(Vl.mk sc l f).list[s.2.2.toNat]? =_ from gx]
  ·unfold Ci
   rw[if_pos hb,if_neg (show ¬(Vl.mk sc l f).sc.kind=6 from g)]
 ·refine Ak (fun hb2=>?_) fun hb2=>by rw[hb]at hb2;cases hb2
  refine Aa (fun g=>Ab h4.isSl ?_) fun g=>Ab on (bad 6 ?_)
  ·rw[h4.lenS]
   have hdn:Ci (.mk sc l f) s=match Ia f s.2.1 0 with | some (x,k)=> .ok (x,(k:Int)) | none=> .error 7:=by
    unfold Ci
    rw[if_neg (by rw[hb];decide),if_pos (show(Vl.mk sc l f).sc.kind=7 from g)];rfl
   refine⟨fun i u m n1 b1 b2 s1 n2 n3 n4 n5 n6 s2 v1 v2 v3 b5 s5 n7 m1 c1 c2 t1 m2 m3 m4 m5 m6 t2 w1 w2 w3 st'=>uf=u/\(f.length:Int)=m/\sc.kind=n1/\sc.b=b1/\sc.neg=b2/\sc.dg=s1/\sc.ex=n2/\sc.tk=n3/\sc.td=n4/\sc.tn=n5/\sc.tz=n6/\sc.text=s2/\ub=v1/\ul=v2/\uf=v3/\s.2.1=s5/\st=st'/\∃k:Nat,i=k/\k<=f.length/\Ia f s.2.1 0=Ia (f.drop k) s.2.1 k,
    fun i _ _ _ _ _ _ _ _ _ _ _ _ _ _ _ _ _ _ _ _ _ _ _ _ _ _ _ _ _ _ _ _=>(f.length-i).toNat,⟨rfl,rfl,rfl,rfl,rfl,rfl,rfl,rfl,rfl,rfl,rfl,rfl,rfl,rfl,rfl,rfl,rfl,0,rfl,Nat.zero_le _,rfl⟩,?_⟩
   rintro _ _ _ _ _ _ _ _ _ _ _ _ _ _ _ _ b5 _ n7 m1 c1 c2 t1 m2 m3 m4 m5 m6 t2 w1 w2 w3 _ ⟨rfl,rfl,rfl,rfl,rfl,rfl,rfl,rfl,rfl,rfl,rfl,rfl,rfl,rfl,rfl,rfl,rfl,k,rfl,hkl,hE⟩
   refine Aa (fun g1=>?_) fun g1=>?_
   ·refine el14 (K6 _) h4 h5 rfl (by omega) fun key s' l' f' ub1 ul1 uf1 gw hw on1=>Ab on1 ?_
    have on2:List.all (A7 s' ub1 ul1 uf1) Ap=true:=by
     have:=on1;rw[List.all_cons,Bool.and_eq_true]at this;exact this.2
    rw[Qs gw]at hE
    replace hE:Ia f s.2.1 0=if key=s.2.1 then some (.mk s' l' f',k)else Ia (f.drop (k+1)) s.2.1 (k+1):=hE
    refine Aa (fun g2=>Ab on2 ?_) fun g2=>?_
    ·rw[if_pos g2]at hE
     exact hk2 (.mk s' l' f') k ub1 ul1 uf1 (by rw[hdn,hE]) hw
    ·rw[if_neg g2]at hE
     rw[Ah _ (by omega) (by omega)]
     exact⟨⟨rfl,rfl,rfl,rfl,rfl,rfl,rfl,rfl,rfl,rfl,rfl,rfl,rfl,rfl,rfl,rfl,rfl,k+1,by omega,by omega,hE⟩,by dsimp only;omega⟩
   ·have:k=f.length:=by omega
    subst this
    rw[List.drop_length]at hE
    exact Ab on (bad 7 (by rw[hdn,hE,Ia]))
  ·unfold Ci
   rw[if_neg (by rw[hb];decide),if_neg (show ¬(Vl.mk sc l f).sc.kind=7 from g)]
theorem Xu {w:Vl} {cs:List TV} {s:BA} (h:VlR St.zero w cs) (hN:w.sz<=2000000) (hs:EJ s) {K:Int->Int->St->Prop}
  (hk1:∀e,Ci w s= .error e->K 0 e st) (hk2:∀x i,Ci w s= .ok (x,i)->K i 0 st):
  CallT PR Dt [.agg cs,.agg [.bool s.1,.str s.2.1,.int .i64 s.2.2]] [.one (.int .i64),.one (.int .i64)] st K:=by
 obtain⟨sc,l,f⟩:=w
 obtain⟨ub,ul,uf,xl,xf,rfl,h1,h2,h3,h4,h5⟩:=h.cells
 have hsz:=szs sc l f
 have hll:=I8 l
 have hfl:=Fa f
 refine Jo _ _ _ _ _ _ _ _ _ _ _ _ _ s.1 s.2.1 s.2.2 st K (Ak (fun hb=>?_) fun hb=>?_)
 ·obtain⟨p1,p2,p3⟩:=hs.1 hb
  refine Aa (fun g=>hk1 6 ?_) fun g=>Aa (fun g1=>by omega) fun _=>Ab h2.isSl ?_
  ·unfold Ci
   rw[if_pos hb,if_neg (show ¬(Vl.mk sc l f).sc.kind=6 from g)]
  ·have g:(Vl.mk sc l f).sc.kind=6:=Decidable.not_not.1 g
   rw[h2.lenS]
   refine Aa (fun g1=>hk1 7 ?_) fun g1=>?_
   ·unfold Ci
    rw[if_pos hb,if_pos g,show(Vl.mk sc l f).list[s.2.2.toNat]? =none from List.getElem?_eq_none (by show l.length<=_;omega)]
   ·obtain⟨x,hx⟩:∃x,l[s.2.2.toNat]? =some x:=⟨_,List.getElem?_eq_getElem (by omega)⟩
    refine hk2 x s.2.2 ?_
    unfold Ci
    rw[if_pos hb,if_pos g,show(Vl.mk sc l f).list[s.2.2.toNat]? =_ from hx]
 ·refine Aa (fun g=>hk1 6 ?_) fun g=>?_
  ·unfold Ci
   rw[if_neg (by rw[hb];decide),if_neg (show ¬(Vl.mk sc l f).sc.kind=7 from g)]
  have g:(Vl.mk sc l f).sc.kind=7:=Decidable.not_not.1 g
  have hdn:Ci (.mk sc l f) s=match Ia f s.2.1 0 with | some (x,k)=> .ok (x,(k:Int)) | none=> .error 7:=by
   unfold Ci
   rw[if_neg (by rw[hb];decide),if_pos g];rfl
  refine⟨fun i n1 b1 b2 s1 n2 n3 n4 n5 n6 s2 v1 v2 v3 b5 s5 n7 st'=>uf=v3/\s.2.1=s5/\st=st'/\∃k:Nat,i=k/\k<=f.length/\Ia f s.2.1 0=Ia (f.drop k) s.2.1 k,
   fun i _ _ _ _ _ _ _ _ _ _ _ _ _ _ _ _ _=>(f.length-i).toNat,⟨rfl,rfl,rfl,0,rfl,Nat.zero_le _,rfl⟩,?_⟩
  rintro _ n1 b1 b2 s1 n2 n3 n4 n5 n6 s2 v1 v2 _ b5 _ n7 _ ⟨rfl,rfl,rfl,k,rfl,hkl,hE⟩
  refine Ab h4.isSl ?_
  rw[h4.lenS]
  refine Aa (fun g1=>?_) fun g1=>?_
  ·have gd:f[k]? =some f[k]:=List.getElem?_eq_getElem (by omega)
   generalize f[k]=dd at gd
   rw[Qs gd]at hE
   refine key14 (K6 _) h4 h5 rfl gd (Aa (fun g2=>?_) fun g2=>?_)
   ·rw[if_pos g2]at hE
    exact hk2 dd.val k (by rw[hdn,hE])
   ·rw[if_neg g2]at hE
    rw[Ah _ (by omega) (by omega)]
    exact⟨⟨rfl,rfl,rfl,k+1,by omega,by omega,hE⟩,by dsimp only;omega⟩
  ·have:k=f.length:=by omega
   subst this
   rw[List.drop_length]at hE
   exact hk1 7 (by rw[hdn,hE,Ia])
theorem Xs {w:Vl} {cs:List TV} {s:BA} {x:Vl} {i:Int} (h:VlR St.zero w cs) (hN:w.sz<=2000000) (hs:EJ s) (hd:Ci w s= .ok (x,i))
  {K:Int->Bool->Bool->B8->Int->Int->Int->Int->Int->B8->TV->TV->TV->St->Prop}
  (hk:∀ub ul uf,VlR St.zero x (A7 x.sc ub ul uf)->K x.sc.kind x.sc.b x.sc.neg x.sc.dg x.sc.ex x.sc.tk x.sc.td x.sc.tn x.sc.tz x.sc.text ub ul uf st):
  CallT PR Ds [.agg cs,.int .i64 i] [.agg NG] st K:=by
 obtain⟨sc,l,f⟩:=w
 obtain⟨ub,ul,uf,xl,xf,rfl,h1,h2,h3,h4,h5⟩:=h.cells
 have hsz:=szs sc l f
 have hll:=I8 l
 have hfl:=Fa f
 refine Jn _ _ _ _ _ _ _ _ _ _ _ _ _ i st K (Aa (fun g=>?_) fun g=>?_)
 ·have g:(Vl.mk sc l f).sc.kind=6:=g
  unfold Ci at hd
  by_cases hb:s.1=true
  ·rw[if_pos hb,if_pos g]at hd
   split at hd
   ·rename_i y hy
    simp only[Except.ok.injEq,Prod.mk.injEq]at hd
    obtain⟨rfl,rfl⟩:=hd
    obtain⟨p1,p2,p3⟩:=hs.1 hb
    have hy:l[s.2.2.toNat]? =some y:=hy
    have hlt:=(List.getElem?_eq_some_iff.1 hy).1
    refine el13 (k:=s.2.2.toNat) (K6 _) h2 h3 (by omega) hlt fun s' l' f' ub1 ul1 uf1 gx hx on1=>Ab on1 ?_
    rw[hy]at gx
    cases gx
    exact hk ub1 ul1 uf1 hx
   ·cases hd
  ·rw[if_neg hb,if_neg (by omega)]at hd;cases hd
 ·have g:¬(Vl.mk sc l f).sc.kind=6:=g
  unfold Ci at hd
  by_cases hb:s.1=true
  ·rw[if_pos hb,if_neg g]at hd;cases hd
  ·rw[if_neg hb]at hd
   by_cases g7:(Vl.mk sc l f).sc.kind=7
   ·rw[if_pos g7]at hd
    split at hd
    ·rename_i y k hy
     simp only[Except.ok.injEq,Prod.mk.injEq]at hd
     obtain⟨rfl,rfl⟩:=hd
     obtain⟨j,d,hkj,hj,_,hv,_⟩:=Hw hy
     have hkj:k=j:=by omega
     subst hkj
     have hj:f[k]? =some d:=hj
     have hlt:=(List.getElem?_eq_some_iff.1 hj).1
     refine val14 (K6 _) h4 h5 rfl hlt fun key s' l' f' ub1 ul1 uf1 gw hw on1=>Ab on1 ?_
     rw[hj]at gw
     cases gw
     subst hv
     exact hk ub1 ul1 uf1 hw
    ·cases hd
   ·rw[if_neg g7]at hd;cases hd
theorem Tj {w x:Vl} {s:BA} {i:Int} (h:Ci w s= .ok (x,i)):x.sz<=w.sz:=by
 obtain⟨sc,l,f⟩:=w
 have hsz:=szs sc l f
 unfold Ci at h
 split at h
 ·split at h
  ·split at h
   ·rename_i y hy
    simp only[Except.ok.injEq,Prod.mk.injEq]at h
    obtain⟨rfl,_⟩:=h
    have:=R8 (List.mem_of_getElem? hy)
    have this:y.sz<=D2 l:=this
    omega
   ·cases h
  ·cases h
 ·split at h
  ·split at h
   ·rename_i y k hy
    simp only[Except.ok.injEq,Prod.mk.injEq]at h
    obtain⟨rfl,_⟩:=h
    obtain⟨j,d,_,hj,_,hv,_⟩:=Hw hy
    have:=Te (List.mem_of_getElem? hj)
    have this:d.sz<=Fk f:=this
    obtain⟨k',v'⟩:=d
    have:=szd k' v'
    subst hv
    show v'.sz<=_
    omega
   ·cases h
  ·cases h
theorem rGet_ok {w:Vl} {cs:List TV} {p:TV} {ss:List BA} (hp:Hc p ss) (hok:Mv ss) (h:VlR St.zero w cs) (hN:w.sz<=2000000)
  {K:Int->Bool->Bool->B8->Int->Int->Int->Int->Int->B8->TV->TV->TV->Int->St->Prop}
  (hk1:∀e st',Gc w ss []= .error e->e≠0->Aq st st'->K 0 false false [] 0 0 0 0 0 [] .nilSlice .nilSlice .nilSlice e st')
  (hk2:∀k1 b1 b2 s1 k2 k3 k4 k5 k6 s2 u1 u2 u3 st' x ks,Gc w ss []= .ok (x,ks)->List.all [.int .i64 k1,.bool b1,.bool b2,.str s1,.int .i64 k2,.int .i64 k3,.int .i64 k4,.int .i64 k5,.int .i64 k6,.str s2,u1,u2,u3] Ap=true->Aq st st'->K k1 b1 b2 s1 k2 k3 k4 k5 k6 s2 u1 u2 u3 0 st'):
  CallT PR DJ [.agg cs,p] [.agg NG,.one (.int .i64)] st K:=by
 have h0:=h
 obtain⟨sc,l,f⟩:=w
 obtain⟨ub,ul,uf,xl,xf,rfl,_⟩:=h.cells
 refine Ki _ _ _ _ _ _ _ _ _ _ _ _ _ p st K (SH hp (fun _ st1 e1=>Ak (fun h=>by cases h) fun _=>?_) fun hn=>absurd hok hn)
 refine⟨fun i u n1 b1 b2 s1 n2 n3 n4 n5 n6 s2 v1 v2 v3 m1 c1 c2 t1 m2 m3 m4 m5 m6 t2 w1 w2 w3 st'=>p=u/\(0=m1/\false=c1/\false=c2/\[]=t1/\0=m2/\0=m3/\0=m4/\0=m5/\0=m6/\[]=t2/\.nilSlice=w1/\.nilSlice=w2/\.nilSlice=w3)/\Aq st st'/\∃(k:Nat) (w:Vl) (ks:List Int),i=k/\k<=ss.length/\Gc (.mk sc l f) ss []=Gc w (ss.drop k) ks/\w.sz<=2000000/\VlR St.zero w [.int .i64 n1,.bool b1,.bool b2,.str s1,.int .i64 n2,.int .i64 n3,.int .i64 n4,.int .i64 n5,.int .i64 n6,.str s2,v1,v2,v3],
  fun i _ _ _ _ _ _ _ _ _ _ _ _ _ _ _ _ _ _ _ _ _ _ _ _ _ _ _ _=>(ss.length-i).toNat,⟨rfl,⟨rfl,rfl,rfl,rfl,rfl,rfl,rfl,rfl,rfl,rfl,rfl,rfl,rfl⟩,e1,0,.mk sc l f,[],rfl,Nat.zero_le _,rfl,hN,h0⟩,?_⟩
 rintro _ _ n1 b1 b2 s1 n2 n3 n4 n5 n6 s2 v1 v2 v3 _ _ _ _ _ _ _ _ _ _ _ _ _ st2 ⟨rfl,⟨rfl,rfl,rfl,rfl,rfl,rfl,rfl,rfl,rfl,rfl,rfl,rfl,rfl⟩,e2,k,w,ks,rfl,hkl,hE,hz,hw⟩
 refine Ab (Rd.isSl hp) ?_
 rw[Rd.lenS hp]
 refine Aa (fun g=>?_) fun g=>?_
 ·obtain⟨s,hs⟩:∃s,ss[k]? =some s:=⟨_,List.getElem?_eq_getElem (by omega)⟩
  have hso:=hok.2 s (List.mem_of_getElem? hs)
  have hdr:ss.drop k=s::ss.drop (k+1):=Hz hs
  refine el3 hp rfl hs (Xu hw hz hso (fun e he=>Aa (fun _=>?_) fun g=>absurd (Decidable.not_not.1 g) (MQ he)) fun x i hd=>Aa (fun g=>absurd rfl g) fun _=>?_)
  ·refine hk1 e st2 ?_ (MQ he) e2
   rw[hE,hdr,Gc,he]
  ·refine Xs hw hz hso hd fun ub1 ul1 uf1 hx=>Ab ?_ ?_
   ·obtain⟨sx,lx,fx⟩:=x
    obtain⟨_,_,_,_,_,hc,w1,w2,_,w4,_⟩:=hx.cells
    cases hc
    exact BK w1.zero.one w2.zero.one w4.zero.one
   ·have h48:=hok.1
    rw[Ah _ (by omega) (by omega)]
    refine⟨⟨rfl,⟨rfl,rfl,rfl,rfl,rfl,rfl,rfl,rfl,rfl,rfl,rfl,rfl,rfl⟩,e2,k+1,x,ks++[i],by omega,by omega,?_,by have:=Tj hd;omega,hx⟩,by dsimp only;omega⟩
    rw[hE,hdr,Gc,hd]
 ·have hkk:k=ss.length:=by omega
  rw[hkk,List.drop_length,Gc]at hE
  have on:List.all [.int .i64 n1,.bool b1,.bool b2,.str s1,.int .i64 n2,.int .i64 n3,.int .i64 n4,.int .i64 n5,.int .i64 n6,.str s2,v1,v2,v3] Ap=true:=by
   obtain⟨sw,lw,fw⟩:=w
   obtain⟨_,_,_,_,_,hc,w1,w2,_,w4,_⟩:=hw.cells
   cases hc
   exact BK w1.zero.one w2.zero.one w4.zero.one
  exact Ab on (hk2 _ _ _ _ _ _ _ _ _ _ _ _ _ st2 w ks hE on e2)
end
end
section
theorem entC_W {a q:Int} {k:Nd} (h:Vi a q k):JU q (AB k):=by
 obtain⟨c,mark,rfl,hw,_⟩:=h
 exact hw
theorem rows_of {s:B8} {a q:Int} {hd:Bool} {rs:List Nd} (h:Mw s a q hd= .ok (.mk 1 [] [] rs [])):∃W,Pj q hd W (A3 rs)/\∀r,r∈rs->(As r).length=W:=by
 obtain⟨rs',hn,hdo,_,_,hv,hdoc,hr,hsz,W,hW⟩:=Cy h
 cases hn
 have d:=Yl (a:=a) (q:=q) hdo
 have hv:AX s=s.length:=hv
 have hu:=HH.u8 (show(xU s a q).a<128 from d.a1) hv hr (bd_zero hv)
 have hf:=hr.form (Nat.zero_le _)
 have hK:∀r,r∈rs->(As r).length=W.toNat:=fun r hr=>by have:=hW r hr;omega
 refine⟨W.toNat,⟨fun r hr c hc=>?_,fun r hr=>?_,fun hne=>?_,fun hh r hr=>?_⟩,hK⟩
 ·unfold A3 at hr
  obtain⟨x,hx,rfl⟩:=List.mem_map.1 hr
  obtain⟨k,hk,rfl⟩:=List.mem_map.1 hc
  obtain⟨ks,t,rfl,_,hks⟩:=hf x hx
  exact⟨u8_txt d.q1 (entC_W (hks k hk)) (hu _ hx k hk),hsz _ hx k hk⟩
 ·unfold A3 at hr
  obtain⟨x,hx,rfl⟩:=List.mem_map.1 hr
  rw[List.length_map,hK x hx]
 ·cases rs with
  | nil=>exact absurd rfl hne
  | cons x t=>
   obtain⟨ks,t',rfl,h1,_⟩:=hf x (.head _)
   have:=hK _ (List.Mem.head t)
   have this:ks.length=_:=this
   omega
 ·subst hh
  unfold A3 at hr
  rw[List.head?_map,Option.map_eq_some_iff]at hr
  obtain⟨x,hx,rfl⟩:=hr
  obtain⟨n1,n2⟩:=O3 _ hdoc (Nat.zero_le _) x hx
  have he:((As x).map AB).map (txt q)=B0 q (As x):=by unfold B0;rw[List.map_map];rfl
  refine⟨by rw[he];exact n1,fun c hc=>?_⟩
  have:txt q c∈B0 q (As x):=by rw[<-he];exact List.mem_map.2 ⟨c,hc,rfl⟩
  exact n2 _ this
section
variable {q:Int} {hd ty:Bool} {W:Nat} {l:List (List B8)}
theorem Pj.keys (ok:Pj q true W l):∀x,x∈CK q true ty l->∃h t r,l=h::t/\r∈t/\x=Q2 (GS (h.map (TVF.txt q)) (B5 q ty r))/\x.flds.map Fd.key=h.map (TVF.txt q):=by
 intro x hx
 rcases Sg hx with⟨h,_⟩ | ⟨_,h,t,r,hl,hr,rfl⟩
 ·cases h
 ·exact⟨h,t,r,hl,hr,rfl,(ok.fld (ty:=ty) hl hr).1⟩
end
end
end Go.TVF
