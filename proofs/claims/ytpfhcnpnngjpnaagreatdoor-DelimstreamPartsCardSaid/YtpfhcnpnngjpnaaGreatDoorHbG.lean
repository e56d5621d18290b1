/- What the laws below rest on: a framework for Go programs, and contracts of the functions that they reach. -/
import Derived.Test.YtpfhcnpnngjpnaaGreatDoorHbF
set_option maxRecDepth 20000
set_option linter.unusedVariables false
set_option linter.unusedSimpArgs false
namespace Go.TVF
open Go.IntKind(i64 u8)
open Go Go.Proofs
section
def cxA (c:SC) (s:B8):Cx:=⟨s,c.a,c.q,c.dep,c.nod⟩
theorem R9 {c:SC} {d:Int} {i:Nat} {v:Int}:ES c.dep c.nod d i v=if FF c d v≠0 then .error (i,FF c d v)else .ok (v+1):=by
 unfold ES FF
 by_cases h1:c.dep<d
 ·rw[if_pos h1,if_pos h1];rfl
 ·rw[if_neg h1,if_neg h1]
  by_cases h2:c.nod<=v
  ·rw[if_pos h2,if_pos h2];rfl
  ·rw[if_neg h2,if_neg h2];rfl
theorem limA_ne {c:SC} {d v:Int} (h:FF c d v≠0):FF c d v=9∨FF c d v=10:=by
 unfold FF at h⊢
 by_cases h1:c.dep<d
 ·rw[if_pos h1];exact .inl rfl
 ·rw[if_neg h1]at h⊢
  by_cases h2:c.nod<=v
  ·rw[if_pos h2];exact .inr rfl
  ·rw[if_neg h2]at h;exact absurd rfl h
theorem Rv (q:Int) (ks:List Nd) (k:Nd):DM q (ks++[k])=DM q ks++[txt q (A2 k)]:=by unfold DM;rw[List.map_append];rfl
section
variable {c:SC} {s:B8} {hdr:Bool} {names0:List B8} {out0:List Ev} {rows width:Nat}
theorem InR.head {acc:List Nd} {v:Int} {ns:List B8} {A:RA} (h:InR c hdr names0 out0 rows width acc v ns A) (hh:hdr=(c.hd&&decide (rows=0))):AR c A=hdr:=by
 unfold AR;rw[h.rows,hh]
def Ey (c:SC) (hdr:Bool) (names:List B8) (t:B8):Int:=if hdr=true then(if 1024<t.length then 10 else if t∈names then 8 else 0)else if 65536<t.length then 10 else 0
theorem Pr {A:RA} {i e ph:Nat} (he:A.err=0) (hl:A.late=0) (hT:Ey c (AR c A) A.names (txt c.q A.held)≠0):(AW c A).err=Ey c (AR c A) A.names (txt c.q A.held)/\(AW c A).off=A.frm:=by
 unfold Ey at hT⊢
 unfold AW
 rw[if_neg (by omega)]
 by_cases hh:AR c A=true
 ·rw[if_pos hh]at hT⊢
  rw[if_pos hh]
  by_cases h1:1024<(txt c.q A.held).length
  ·rw[if_pos h1,if_pos h1]
   exact Br (A:={A with held:=[]}) he (by decide)
  ·rw[if_neg h1]at hT⊢
   rw[if_neg h1]
   by_cases h2:txt c.q A.held∈A.names
   ·rw[if_pos h2,if_pos h2]
    exact Br (A:={A with held:=[]}) he (by decide)
   ·rw[if_neg h2]at hT;exact absurd rfl hT
 ·rw[if_neg hh]at hT⊢
  rw[if_neg hh]
  by_cases h1:65536<(txt c.q A.held).length
  ·rw[if_pos h1,if_pos h1]
   exact Br (A:={A with held:=[]}) he (by decide)
  ·rw[if_neg h1]at hT;exact absurd rfl hT
theorem NU {A:RA} (he:A.err=0) (hl:A.late=0) (hT:Ey c (AR c A) A.names (txt c.q A.held)=0):
  AW c A=if AR c A=true then {A with held:=[],names:=A.names++[txt c.q A.held],cells:=A.cells+1} else {A with held:=[],cells:=A.cells+1,out:=A.out++evC c A.names A.cells A.held}:=by
 unfold Ey at hT
 unfold AW
 rw[if_neg (by omega)]
 by_cases hh:AR c A=true
 ·rw[if_pos hh]at hT
  rw[if_pos hh,if_pos hh]
  by_cases h1:1024<(txt c.q A.held).length
  ·rw[if_pos h1]at hT;cases hT
  ·rw[if_neg h1]at hT⊢
   by_cases h2:txt c.q A.held∈A.names
   ·rw[if_pos h2]at hT;cases hT
   ·rw[if_neg h2]
 ·rw[if_neg hh]at hT
  rw[if_neg hh,if_neg hh]
  by_cases h1:65536<(txt c.q A.held).length
  ·rw[if_pos h1]at hT;cases hT
  ·rw[if_neg h1];rfl
theorem Th {i:Nat} {v:Int} {ns:List B8} {names:List B8} (hn:hdr=true->ns=names.reverse):
  DY (cxA c s) hdr i v ns=if hdr=false/\FF c 3 v≠0 then .error (i,FF c 3 v)else match Bi c.a c.q s i with
   | .error p=> .error p
   | .ok e=>if Ey c hdr names (txt c.q (slc s i e))≠0 then .error (i,Ey c hdr names (txt c.q (slc s i e)))else .ok (e,if hdr=true then v else v+1,if hdr=true then txt c.q (slc s i e)::ns else ns):=by
 rw[Mi]
 have hR:∀v1,NA (cxA c s) hdr i v1 ns=match Bi c.a c.q s i with
   | .error p=> .error p
   | .ok e=>if Ey c hdr names (txt c.q (slc s i e))≠0 then .error (i,Ey c hdr names (txt c.q (slc s i e)))else .ok (e,v1,if hdr=true then txt c.q (slc s i e)::ns else ns):=by
  intro v1
  unfold NA
  show(match Bi c.a c.q s i with | .error e=>Except.error e | .ok e=>_)=_
  cases hc:Bi c.a c.q s i with
  | error p=>rfl
  | ok e=>
   simp only
   show(if (if hdr=true then 1024 else 65536)<(txt c.q (slc s i e)).length then Except.error (i,(10:Int))else if hdr=true/\txt c.q (slc s i e)∈ns then .error (i,8)else .ok (e,v1,if hdr=true then txt c.q (slc s i e)::ns else ns))=_
   unfold Ey
   cases hdr with
   | true=>
    rw[hn rfl]
    simp only[if_true,true_and,List.mem_reverse]
    by_cases h1:1024<(txt c.q (slc s i e)).length
    ·rw[if_pos h1,if_pos h1,if_pos (by decide)]
    ·rw[if_neg h1,if_neg h1]
     by_cases h2:txt c.q (slc s i e)∈names
     ·rw[if_pos h2,if_pos h2,if_pos (by decide)]
     ·rw[if_neg h2,if_neg h2,if_neg (by decide)]
   | false=>
    simp only[Bool.false_eq_true,if_false,false_and]
    by_cases h1:65536<(txt c.q (slc s i e)).length
    ·rw[if_pos h1,if_pos h1,if_pos (by decide)]
    ·rw[if_neg h1,if_neg h1,if_neg (by decide)]
 cases hdr with
 | true=>rw[if_pos rfl,hR,if_neg (fun h=>by cases h.1)];rfl
 | false=>
  rw[if_neg (by decide)]
  show(match ES c.dep c.nod 3 i v with | .error e=>Except.error e | .ok v1=>NA (cxA c s) false i v1 ns)=_
  rw[R9]
  by_cases hl:FF c 3 v≠0
  ·rw[if_pos hl,if_pos ⟨rfl,hl⟩]
  ·rw[if_neg hl,if_neg fun h=>hl h.2]
   show NA (cxA c s) false i (v+1) ns=_
   rw[hR];rfl
theorem rec_run (hwin:1<=c.win) (hac:c.a≠10/\c.a≠13) (hh:hdr=(c.hd&&decide (rows=0))):∀(n:Nat) (acc:List Nd) (i:Nat) (A:RA) (v:Int) (ns:List B8),
  i<=s.length->s.length<i+n->A.ph=0->InR c hdr names0 out0 rows width acc v ns A->
  (∀p d,Cb (cxA c s) (decide (0<rows)) (width:Int) hdr n acc i v ns= .error (p,d)->i<=p/\obs (Bg c s i A)= .error (Jd (p,d) (Dl c s i)))/\
  (∀e v' ns' ks,Cb (cxA c s) (decide (0<rows)) (width:Int) hdr n acc i v ns= .ok (e,v',ns',ks)->i<=e/\e<=s.length/\acc.length<ks.length/\
   ((∃m,Dl c s i=some m/\m<=e/\obs (Bg c s i A)= .error ((m:Int),28))∨
    (Dl c s i=Ol c s e/\∃C,Bg c s i A=Ti c s e C/\InR c hdr names0 out0 rows width ks v' ns' C))):=by
 intro n
 induction n with
 | zero=>intro acc i A v ns h1 h2;omega
 | succ n ih=>
  intro acc i A v ns hi hn hp hI
  have hH:=hI.head hh
  obtain⟨hS,hf,hwi,hcl⟩:=B5 c A i
  obtain⟨hlate,hnodes⟩:=Vn (c:=c) (at_:=(i:Int)) hI.within hI.late
  rw[hH,hI.rows,hI.width,hI.cells,hI.nodes]at hlate
  rw[hH,hI.nodes]at hnodes
  rw[if_pos hI.within,hI.cells]at hcl
  obtain⟨x1,x2,x3,x4⟩:=NR hwin hi (.inr hI.within) hp hI.err hI.held
  have hEh:AR c (AJ c A i)=hdr:=(Tb hS).trans hH
  have hEn:(AJ c A i).names=A.names:=hS.names
  have hEe:(AJ c A i).err=0:=hS.err.trans hI.err
  generalize hB:AJ c A i=B at*
  rw[K0]
  --the window
  have hM:∀P:Int×Int,c.win<exE c s i-i->Dl c s i=some i:=fun _ h=>by
   rw[Fk (by omega),if_pos h]
  have hM2:¬c.win<exE c s i-i->∀k,Dl c s i=some k->exE c s i<k:=fun h k hk=>by
   by_cases hl:i<s.length
   ·rw[Fk hl,if_neg h]at hk
    split at hk
    ·have:=Me hk;omega
    ·exact P9 hk
   ·rw[Kd (by omega)]at hk;cases hk
  --an error at the cell itself
  have here:∀d,d≠28->(exE c s i-i<=c.win->obs (Bg c s i A)= .error ((i:Int),d))->obs (Bg c s i A)= .error (Jd (i,d) (Dl c s i)):=fun d _ hg=>by
   by_cases hw:c.win<exE c s i-i
   ·rw[hM (0,0) hw,FO (p:=(i,d)) (Nat.le_refl _)];exact x3 hw
   ·rw[Ks (p:=(i,d)) fun k hk=>by have:=hM2 hw k hk;show i<k;omega]
    exact hg (by omega)
  have late_obs:B.late≠0->exE c s i-i<=c.win->obs (Bg c s i A)= .error ((i:Int),B.late):=fun hl hw=>by
   obtain⟨y1,y2⟩:=x4 hw
   cases hc:Bi c.a c.q s i with
   | error p=>rw[y1 p.1 p.2 hc,if_pos hl]
   | ok e=>
    obtain⟨ph,hy⟩:=y2 e hc
    obtain⟨z1,z2⟩:=JD (c:=c) (B:={B with held:=slc s i e,ph:=ph}) hl hEe
    rw[hy,JE (by rw[z1];exact hl),Ix (by rw[z1];exact hl),z1,z2]
    show Except.error (B.frm,B.late)=_
    rw[hf]
  by_cases hnum:decide (0<rows)=true/\(width:Int)<=(acc.length:Int)
  ·have hL:B.late=10:=by
    rw[hlate,if_pos ⟨by simpa using hnum.1,by omega⟩]
   rw[if_pos hnum]
   refine⟨fun p d h=>?_,fun e v' ns' ks h=>by cases h⟩
   cases h
   exact⟨Nat.le_refl _,here 10 (by decide) fun hw=>by rw[late_obs (by rw[hL];decide) hw,hL]⟩
  rw[if_neg hnum]
  have hlate':B.late=if hdr=true then 0 else FF c 3 v:=by
   rw[hlate,if_neg fun h=>hnum ⟨by simpa using h.1,by omega⟩]
  rw[Th (names:=A.names) hI.nsr]
  by_cases hlim:hdr=false/\FF c 3 v≠0
  ·have hL:B.late=FF c 3 v:=by rw[hlate',if_neg (by rw[hlim.1];decide)]
   rw[if_pos hlim]
   refine⟨fun p d h=>?_,fun e v' ns' ks h=>by cases h⟩
   cases h
   refine⟨Nat.le_refl _,here _ (by rcases limA_ne hlim.2 with h | h<;>rw[h]<;>decide) fun hw=>by rw[late_obs (by rw[hL];exact hlim.2) hw,hL]⟩
  rw[if_neg hlim]
  have hL0:B.late=0:=by
   rw[hlate']
   cases hdr with
   | true=>rfl
   | false=>exact Decidable.not_not.1 fun h=>hlim ⟨rfl,h⟩
  cases hc:Bi c.a c.q s i with
  | error p=>
   obtain⟨p,d⟩:=p
   have hex:exE c s i=p:=by unfold exE;rw[hc]
   refine⟨fun p' d' h=>?_,fun e v' ns' ks h=>by cases h⟩
   cases h
   refine⟨by omega,?_⟩
   by_cases hw:c.win<exE c s i-i
   ·rw[hM (0,0) hw,FO (p:=(p,d)) (by show i<=p;omega)];exact x3 hw
   ·have:=(x4 (by omega)).1 p d hc
    rw[this,if_neg (by omega)]
    rw[Ks (p:=(p,d)) fun k hk=>by have:=hM2 hw k hk;show p<k;omega]
  | ok e=>
   have hex:exE c s i=e:=by unfold exE;rw[hc]
   have hle:=CZ hi hc
   simp only
   by_cases hT:Ey c hdr A.names (txt c.q (slc s i e))≠0
   ·rw[if_pos hT]
    refine⟨fun p d h=>?_,fun e v' ns' ks h=>by cases h⟩
    cases h
    refine⟨Nat.le_refl _,here _ (fun h28=>?_) fun hw=>?_⟩
    ·unfold Ey at h28
     repeat' split at h28
     all_goals revert h28;decide
    ·obtain⟨ph,hy⟩:=(x4 hw).2 e hc
     have hT2:Ey c (AR c {B with held:=slc s i e,ph:=ph}) ({B with held:=slc s i e,ph:=ph}:RA).names (txt c.q ({B with held:=slc s i e,ph:=ph}:RA).held)=Ey c hdr A.names (txt c.q (slc s i e)):=by
      show Ey c (AR c B) B.names _=_
      rw[hEh,hEn]
     obtain⟨z1,z2⟩:=Pr (c:=c) (A:={B with held:=slc s i e,ph:=ph}) (i:=0) (e:=0) (ph:=0) hEe hL0 (by rw[hT2];exact hT)
     rw[hT2]at z1
     rw[hy,JE (by rw[z1];exact hT),Ix (by rw[z1];exact hT),z1,z2]
     show Except.error (B.frm,_)=_
     rw[hf]
   rw[if_neg hT]
   have hT:=Decidable.not_not.1 hT
   simp only
   --the state A4 the cell
   have hC:∀ph,∃C,AW c {B with held:=slc s i e,ph:=ph}=C/\InR c hdr names0 out0 rows width (acc++[Gt (cxA c s) i e]) (if hdr=true then v else v+1) (if hdr=true then txt c.q (slc s i e)::ns else ns) C/\∀k,InR c hdr names0 out0 rows width (acc++[Gt (cxA c s) i e]) (if hdr=true then v else v+1) (if hdr=true then txt c.q (slc s i e)::ns else ns) {C with ph:=k}:=by
    intro ph
    have hg:=NU (c:=c) (A:={B with held:=slc s i e,ph:=ph}) hEe hL0 (by show Ey c (AR c B) B.names (txt c.q (slc s i e))=0;rw[hEh,hEn];exact hT)
    have hg:AW c {B with held:=slc s i e,ph:=ph}=if AR c B=true then {B with ph:=ph,held:=[],names:=B.names++[txt c.q (slc s i e)],cells:=B.cells+1} else {B with ph:=ph,held:=[],cells:=B.cells+1,out:=B.out++evC c B.names B.cells (slc s i e)}:=hg
    rw[hEh]at hg
    have hent:A2 (Gt (cxA c s) i e)=slc s i e:=rfl
    have hall:∀k,InR c hdr names0 out0 rows width (acc++[Gt (cxA c s) i e]) (if hdr=true then v else v+1) (if hdr=true then txt c.q (slc s i e)::ns else ns) {AW c {B with held:=slc s i e,ph:=ph} with ph:=k}:=by
     intro k
     rw[hg]
     cases hdr with
     | true=>
      rw[if_pos rfl]
      refine⟨hwi,hEe,hL0,rfl,hS.rows.trans hI.rows,hS.width.trans hI.width,?_,hnodes,?_,fun _=>?_,?_⟩
      ·show B.cells+1=_
       rw[hcl,List.length_append];rfl
      ·show B.names++_=_
       rw[hEn,hI.names,if_pos rfl,if_pos rfl,Rv,hent]
      ·show(if true=true then txt c.q (slc s i e)::ns else ns)=(B.names++[txt c.q (slc s i e)]).reverse
       rw[if_pos rfl,hEn,hI.nsr rfl,List.reverse_append];rfl
      ·show B.out=_
       rw[hS.out,hI.out];rfl
     | false=>
      rw[if_neg (by decide)]
      refine⟨hwi,hEe,hL0,rfl,hS.rows.trans hI.rows,hS.width.trans hI.width,?_,hnodes,?_,fun h=>(by cases h),?_⟩
      ·show B.cells+1=_
       rw[hcl,List.length_append];rfl
      ·show B.names=_
       rw[hEn,hI.names];rfl
      ·show B.out++evC c B.names B.cells (slc s i e)=_
       rw[hS.out,hI.out,hEn,hI.names,if_neg (by decide),if_neg (by decide),if_neg (by decide),RR,hcl,hent,Nat.zero_add,List.append_assoc]
    refine⟨_,rfl,?_,hall⟩
    have:=hall (AW c {B with held:=slc s i e,ph:=ph}).ph
    exact this
   show(∀p d,(if e<s.length/\by_ s e=c.a then Cb (cxA c s) (decide (0<rows)) (width:Int) hdr n (acc++[Gt (cxA c s) i e]) (e+1) (if hdr=true then v else v+1) (if hdr=true then txt c.q (slc s i e)::ns else ns)else match Cm s e with
     | .error e=> .error e
     | .ok _=> .ok (e,if hdr=true then v else v+1,if hdr=true then txt c.q (slc s i e)::ns else ns,acc++[Gt (cxA c s) i e]))= .error (p,d)->_)/\(∀e' v' ns' ks,(if e<s.length/\by_ s e=c.a then Cb (cxA c s) (decide (0<rows)) (width:Int) hdr n (acc++[Gt (cxA c s) i e]) (e+1) (if hdr=true then v else v+1) (if hdr=true then txt c.q (slc s i e)::ns else ns)else match Cm s e with
     | .error e=> .error e
     | .ok _=> .ok (e,if hdr=true then v else v+1,if hdr=true then txt c.q (slc s i e)::ns else ns,acc++[Gt (cxA c s) i e]))= .ok (e',v',ns',ks)->_)
   have hfit:¬c.win<exE c s i-i->∃ph,Bg c s i A=A4 c s e {B with held:=slc s i e,ph:=ph}:=fun hw=>(x4 (by omega)).2 e hc
   by_cases hsep:e<s.length/\by_ s e=c.a
   ·rw[if_pos hsep]
    obtain⟨C0,_,_,hk0⟩:=hC 0
    obtain⟨r1,r2⟩:=ih (acc++[Gt (cxA c s) i e]) (e+1) {C0 with ph:=0} _ _ (by omega) (by omega) rfl (hk0 0)
    by_cases hw:c.win<exE c s i-i
    ·refine⟨fun p d h=>?_,fun e' v' ns' ks h=>?_⟩
     ·have:=(r1 p d h).1
      refine⟨by omega,?_⟩
      rw[hM (0,0) hw,FO (p:=(p,d)) (by show i<=p;omega)];exact x3 hw
     ·obtain⟨g1,g2,g3,_⟩:=r2 e' v' ns' ks h
      rw[List.length_append]at g3
      exact⟨by omega,g2,by omega,.inl ⟨i,hM (0,0) hw,by omega,x3 hw⟩⟩
    ·obtain⟨ph,hy⟩:=hfit hw
     obtain⟨C,hC1,hC2,hk⟩:=hC ph
     have hsp:=TB (c:=c) (B:={B with held:=slc s i e,ph:=ph}) (by rw[hC1];exact hC2.err) hsep.1 hsep.2
     rw[hC1]at hsp
     have hmem:Dl c s i=Dl c s (e+1):=by rw[Fk (by omega),if_neg hw,hex,if_pos hsep]
     obtain⟨r1,r2⟩:=ih (acc++[Gt (cxA c s) i e]) (e+1) {C with ph:=0} _ _ (by omega) (by omega) rfl (hk 0)
     rw[<-hsp,<-hy]at r1 r2
     rw[hmem]
     refine⟨fun p d h=>?_,fun e' v' ns' ks h=>?_⟩
     ·obtain⟨g1,g2⟩:=r1 p d h
      exact⟨by omega,g2⟩
     ·obtain⟨g1,g2,g3,g4⟩:=r2 e' v' ns' ks h
      rw[List.length_append]at g3
      exact⟨by omega,g2,by omega,g4⟩
   ·rw[if_neg hsep]
    have hmem:¬c.win<exE c s i-i->Dl c s i=Ol c s e:=fun hw=>by
     by_cases hl:i<s.length
     ·rw[Fk hl,if_neg hw,hex,if_neg hsep]
     ·rw[Kd (by omega)]
      exact(Iy (fun h=>by omega) fun h=>by omega).symm
    cases hln:Cm s e with
    | error pd=>
     obtain⟨p,d⟩:=pd
     refine⟨fun p' d' h=>?_,fun e' v' ns' ks h=>by cases h⟩
     cases h
     have hpd:=OS hln
     have hpe:i<=p:=by rcases hpd with h | h<;>omega
     refine⟨hpe,?_⟩
     by_cases hw:c.win<exE c s i-i
     ·rw[hM (0,0) hw,FO (p:=(p,d)) hpe];exact x3 hw
     ·obtain⟨ph,hy⟩:=hfit hw
      obtain⟨C,hC1,hC2,_⟩:=hC ph
      have hCe:(AW c {B with held:=slc s i e,ph:=ph}).err=0:=by rw[hC1];exact hC2.err
      unfold Cm at hln
      by_cases hl:s.length<=e
      ·rw[if_pos hl]at hln;cases hln
      rw[if_neg hl]at hln
      have hna:by_ s e≠c.a:=fun h=>hsep ⟨by omega,h⟩
      by_cases h10:by_ s e=10
      ·rw[if_pos h10]at hln;cases hln
      rw[if_neg h10]at hln
      by_cases h13:by_ s e≠13
      ·rw[if_pos h13]at hln
       cases hln
       rw[hy,TC hCe (by omega) hna h10 h13,hmem hw,Iy (fun h=>h10 h.2) (fun h=>h13 h.2.1)];rfl
      ·rw[if_neg h13]at hln
       have h13:=Decidable.not_not.1 h13
       have hend:Bg c s i A=Bg c s (e+1) {C with ph:=4,line:=e}:=by
        rw[hy,NV hCe (fun _=>hna) (fun _=> .inr h13),hC1]
        unfold Ti
        rw[if_pos (by omega),if_neg h10]
       by_cases hlast:s.length<=e+1
       ·rw[if_pos hlast]at hln
        cases hln
        rw[hend,Hh hlast (by exact hC2.err),hmem hw,Iy (fun h=>h10 h.2) (fun h=>by omega)]
        have hl4:D1 c s.length {C with ph:=4,line:=e}=EW {C with ph:=4,line:=e} s.length 4:=by
         unfold D1
         rw[if_pos (.inr rfl)]
        rw[hl4,MZ (A:={C with ph:=4,line:=e}) hC2.err (by decide),if_neg (fun h=>h hC2.late)];rfl
       ·rw[if_neg hlast]at hln
        by_cases h10':by_ s (e+1)=10
        ·rw[if_pos h10']at hln;cases hln
        rw[if_neg h10']at hln
        cases hln
        have hnx:Bh c (s.getD (e+1) 0) ((e+1:Nat):Int) {C with ph:=4,line:=e}=Bc {C with ph:=4,line:=e} e 3:=by
         unfold Bh
         rw[if_neg (by show ¬(4:Nat)=0;decide),if_neg (by show ¬(4:Nat)=1;decide),if_neg (by show ¬(4:Nat)=2;decide),if_neg (by show ¬(4:Nat)=3;decide),CM,if_pos h10']
        rw[hend,B4 (A:={C with ph:=4,line:=e}) (by omega) hC2.err,hnx,IB (by rw[(Br (A:={C with ph:=4,line:=e}) hC2.err (by decide)).1];decide),Ka (A:={C with ph:=4,line:=e}) hC2.err (by decide),hmem hw,Iy (fun h=>h10 h.2) (fun h=>h10' h.2.2)];rfl
    | ok m=>
     refine⟨fun p d h=>(by cases h),fun e' v' ns' ks h=>?_⟩
     cases h
     refine⟨hle.1,hle.2,by rw[List.length_append];simp,?_⟩
     by_cases hw:c.win<exE c s i-i
     ·exact .inl ⟨i,hM (0,0) hw,hle.1,x3 hw⟩
     ·obtain⟨ph,hy⟩:=hfit hw
      obtain⟨C,hC1,hC2,_⟩:=hC ph
      have hCe:(AW c {B with held:=slc s i e,ph:=ph}).err=0:=by rw[hC1];exact hC2.err
      obtain⟨_,_,_,hby⟩:=FE hle.2 hln
      exact .inr ⟨hmem hw,C,by rw[hy,NV hCe (fun hl h=>hsep ⟨hl,h⟩) hby,hC1],hC2⟩
end
end
def CD (c:SC) (acc:List Nd):List B8:=if c.hd=true then(match acc.head? with | some r=>DM c.q (AA r) | none=>[])else []
def evD (c:SC) (acc:List Nd):List Ev:=(if c.hd=true then acc.tail else acc).flatMap fun r=>evK c (CD c acc) 0 (AA r)++[if c.hd then .me else .le]
structure InD (c:SC) (acc:List Nd) (v:Int) (ns:List B8) (wid:Int) (A:RA):Prop where
 ph:A.ph=0
 within:A.within=false
 err:A.err=0
 late:A.late=0
 held:A.held=[]
 rows:A.rows=acc.length
 width:(A.width:Int)=wid
 nodes:A.nodes=v
 names:A.names=CD c acc
 nsr:acc=[]->ns=[]
 out:A.out=evD c acc
theorem InD.start (c:SC):InD c [] 1 [] 0 RA.start:=⟨rfl,rfl,rfl,rfl,rfl,rfl,rfl,rfl,by unfold CD;split<;>rfl,fun _=>rfl,by unfold evD;split<;>rfl⟩
theorem Wr {c:SC} {s:B8} {i:Nat} {A:RA} (hwin:1<=c.win) (hi:i<s.length) (hp:A.ph=0) (he:A.err=0) (hh:A.held=[]) (hl:(AJ c A i).late≠0):
  obs (Bg c s i A)= .error (Jd (i,(AJ c A i).late) (Dl c s i)):=by
 obtain⟨x1,x2,x3,x4⟩:=NR hwin (Nat.le_of_lt hi) (.inl hi) hp he hh
 obtain⟨hS,hf,_,_⟩:=B5 c A i
 have hEe:(AJ c A i).err=0:=hS.err.trans he
 generalize hB:AJ c A i=B at*
 by_cases hw:c.win<exE c s i-i
 ·rw[Fk hi,if_pos hw,FO (p:=(i,B.late)) (Nat.le_refl _)];exact x3 hw
 ·have hM2:∀k,Dl c s i=some k->i<k:=fun k hk=>by
   rw[Fk hi,if_neg hw]at hk
   split at hk
   ·have:=Me hk;omega
   ·have:=P9 hk;omega
  rw[Ks (p:=(i,B.late)) hM2]
  obtain⟨y1,y2⟩:=x4 (by omega)
  cases hc:Bi c.a c.q s i with
  | error p=>rw[y1 p.1 p.2 hc,if_pos hl]
  | ok e=>
   obtain⟨ph,hy⟩:=y2 e hc
   obtain⟨z1,z2⟩:=JD (c:=c) (B:={B with held:=slc s i e,ph:=ph}) hl hEe
   rw[hy,JE (by rw[z1];exact hl),Ix (by rw[z1];exact hl),z1,z2]
   show Except.error (B.frm,B.late)=_
   rw[hf]
theorem RU {c:SC} {A:RA} {at_:Int} (h:(AI c A at_).late≠0):(AJ c A at_).late=(AI c A at_).late:=by
 unfold AJ Cd
 rw[Ji h,ite_self]
 unfold Dx
 split
 ·rfl
 ·rw[Lp h]
theorem SJ {c:SC} {hdr:Bool} {names0:List B8} {out0:List Ev} {rows width:Nat} {ks:List Nd} {v:Int} {ns:List B8} {C:RA} {at_:Int} (h:InR c hdr names0 out0 rows width ks v ns C) (hh:hdr=(c.hd&&decide (rows=0)))
  (hw:¬ks.length<(if rows=0 then ks.length else width)):(AH c C at_).ph=0/\(AH c C at_).within=false/\(AH c C at_).err=0/\(AH c C at_).late=0/\(AH c C at_).held=[]/\(AH c C at_).rows=rows+1/\(AH c C at_).width=(if rows=0 then ks.length else width)/\(AH c C at_).nodes=v/\(AH c C at_).names=C.names/\(AH c C at_).out=C.out++(if hdr=true then []else [if c.hd then .me else .le]):=by
 have e0:AH c C at_=Cp c (Cf C) at_:=by unfold AH;rw[if_neg (by rw[h.err];decide)]
 rw[e0]
 have hr:=h.rows
 have hwd:=h.width
 have hcl:=h.cells
 by_cases h0:rows=0
 ·have e1:Cf C={C with width:=C.cells,told:=true}:=by unfold Cf;rw[if_pos (by omega)]
  have hd:AR c {C with width:=C.cells,told:=true}=hdr:=by
   have:AR c {C with width:=C.cells,told:=true}=AR c C:=rfl
   rw[this];exact h.head hh
  rw[e1,if_pos h0]
  unfold Cp
  rw[if_neg (by show ¬C.cells<C.cells;omega),hd]
  exact⟨rfl,rfl,h.err,h.late,h.held,by show C.rows+1=_;omega,hcl,h.nodes,rfl,rfl⟩
 ·have e1:Cf C=C:=by unfold Cf;rw[if_neg (by omega)]
  rw[if_neg h0]at hw
  rw[e1,if_neg h0]
  unfold Cp
  rw[if_neg (by omega),h.head hh]
  exact⟨rfl,rfl,h.err,h.late,h.held,by show C.rows+1=_;omega,hwd,h.nodes,rfl,rfl⟩
theorem Rj {c:SC} {hdr:Bool} {names0:List B8} {out0:List Ev} {rows width:Nat} {ks:List Nd} {v:Int} {ns:List B8} {C:RA} {at_:Int} (h:InR c hdr names0 out0 rows width ks v ns C)
  (hw:ks.length<(if rows=0 then ks.length else width)):(AH c C at_).err=10/\(AH c C at_).off=at_:=by
 have h0:rows≠0:=fun h0=>by rw[if_pos h0]at hw;omega
 rw[if_neg h0]at hw
 have hr:=h.rows
 have hwd:=h.width
 have hcl:=h.cells
 have e1:Cf C=C:=by unfold Cf;rw[if_neg (by omega)]
 have e0:AH c C at_=Cp c (Cf C) at_:=by unfold AH;rw[if_neg (by rw[h.err];decide)]
 rw[e0,e1]
 unfold Cp
 rw[if_pos (by omega)]
 exact Br h.err (by decide)
theorem InR.move {c:SC} {hdr:Bool} {names0:List B8} {out0:List Ev} {rows width:Nat} {ks:List Nd} {v:Int} {ns:List B8} {C:RA} (h:InR c hdr names0 out0 rows width ks v ns C) (p:Nat) (l:Int):InR c hdr names0 out0 rows width ks v ns {C with ph:=p,line:=l}:=
 ⟨h.within,h.err,h.late,h.held,h.rows,h.width,h.cells,h.nodes,h.names,h.nsr,h.out⟩
theorem Uq {c:SC} {s:B8} {e m:Nat} {hdr:Bool} {names0:List B8} {out0:List Ev} {rows width:Nat} {ks:List Nd} {v:Int} {ns:List B8} {C:RA} (hE:e<=s.length) (h:InR c hdr names0 out0 rows width ks v ns C) (hln:Cm s e= .ok m):
  Ol c s e=Dl c s (e+m)/\∃C',InR c hdr names0 out0 rows width ks v ns C'/\(Ti c s e C=Bg c s (e+m) (AH c C' e)∨(e+m=s.length/\Ti c s e C=AH c C' e)):=by
 unfold Cm at hln
 unfold Ti Ol
 by_cases hl:s.length<=e
 ·rw[if_pos hl]at hln
  cases hln
  rw[if_neg (by omega),if_neg (by omega),if_neg (by omega)]
  exact⟨(Kd (by omega)).symm,C,h,.inr ⟨by omega,by rw[show e=s.length by omega]⟩⟩
 rw[if_neg hl]at hln
 by_cases h10:by_ s e=10
 ·rw[if_pos h10]at hln
  cases hln
  rw[if_pos ⟨by omega,h10⟩,if_pos (by omega),if_pos h10]
  exact⟨rfl,C,h,.inl rfl⟩
 rw[if_neg h10]at hln
 by_cases h13:by_ s e≠13
 ·rw[if_pos h13]at hln;cases hln
 rw[if_neg h13]at hln
 have h13:=Decidable.not_not.1 h13
 by_cases hlast:s.length<=e+1
 ·rw[if_pos hlast]at hln;cases hln
 rw[if_neg hlast]at hln
 by_cases h10':by_ s (e+1)=10
 ·rw[if_pos h10']at hln
  cases hln
  rw[if_neg (fun h=>h10 h.2),if_pos ⟨by omega,h13,h10'⟩,if_pos (by omega),if_neg h10]
  refine⟨rfl,{C with ph:=4,line:=e},h.move 4 e,.inl ?_⟩
  rw[B4 (A:={C with ph:=4,line:=e}) (by omega) h.err]
  unfold Bh
  rw[if_neg (by show ¬(4:Nat)=0;decide),if_neg (by show ¬(4:Nat)=1;decide),if_neg (by show ¬(4:Nat)=2;decide),if_neg (by show ¬(4:Nat)=3;decide),CM,if_neg (by rw[h10'];decide)]
 ·rw[if_neg h10']at hln;cases hln
theorem WG {c:SC} {acc:List Nd} {r:Nd}:evD c (acc++[r])=evD c acc++(if (c.hd&&acc.isEmpty)=true then []else evK c (CD c (acc++[r])) 0 (AA r)++[if c.hd then .me else .le])/\(acc≠ []->CD c (acc++[r])=CD c acc):=by
 have hn:acc≠ []->CD c (acc++[r])=CD c acc:=fun hne=>by
  unfold CD
  cases acc with
  | nil=>exact absurd rfl hne
  | cons x t=>rfl
 refine⟨?_,hn⟩
 cases acc with
 | nil=>
  unfold evD
  cases hc:c.hd with
  | true=>simp
  | false=>simp
 | cons x t=>
  have h1:=hn (by simp)
  unfold evD
  rw[h1]
  cases hc:c.hd with
  | true=>simp
  | false=>simp
theorem doc_run {c:SC} {s:B8} (hwin:1<=c.win) (hac:c.a≠10/\c.a≠13):∀(n:Nat) (acc:List Nd) (i:Nat) (A:RA) (v:Int) (ns:List B8) (wid:Int),i<=s.length->s.length<i+n->InD c acc v ns wid A->
  (∀p d,DI (cxA c s) c.hd n acc i v ns wid= .error (p,d)->i<=p/\obs (Bg c s i A)= .error (Jd (p,d) (Dl c s i)))/\
  (∀rs,DI (cxA c s) c.hd n acc i v ns wid= .ok rs->(Dl c s i=none/\obs (Bg c s i A)= .ok (evD c rs,CD c rs))∨∃m,Dl c s i=some m/\obs (Bg c s i A)= .error ((m:Int),28)):=by
 intro n
 induction n with
 | zero=>intro acc i A v ns wid h1 h2;omega
 | succ n ih=>
  intro acc i A v ns wid hi hn hI
  simp only[DI]
  by_cases hl:s.length<=i
  ·rw[if_pos (show(cxA c s).s.length<=i from hl)]
   refine⟨fun p d h=>(by cases h),fun rs h=>?_⟩
   cases h
   refine .inl ⟨Kd hl,?_⟩
   rw[Hh hl hI.err]
   unfold D1
   rw[if_neg (by rw[hI.ph];decide),if_pos hI.ph,if_neg (by rw[hI.within];decide)]
   unfold obs
   rw[if_pos hI.err,hI.out,hI.names]
  rw[if_neg (show ¬(cxA c s).s.length<=i from hl)]
  have hil:i<s.length:=by omega
  generalize hhd:(c.hd&&acc.isEmpty)=hdr
  have hrow0:decide (acc.length=0)=acc.isEmpty:=by cases acc<;>simp
  have hhr:hdr=(c.hd&&decide (acc.length=0)):=by rw[hrow0,hhd]
  have hnum:(!acc.isEmpty)=decide (0<acc.length):=by cases acc<;>simp
  have hH:AR c A=hdr:=by unfold AR;rw[hI.rows,hhr]
  --the state in which the record has begun
  have hE1:=Il c A i
  obtain⟨e1,e2,e3,e4⟩:=hE1
  rw[if_neg (by rw[hI.within];decide)]at e4
  have hfin:Bg c s i A=Bg c s i (AI c A i):=by
   have hee:(AI c A i).err=0:=e1.err.trans hI.err
   have hpp:(AI c A i).ph=0:=e1.ph.trans hI.ph
   have hent:AJ c (AI c A i) i=AJ c A i:=by
    unfold AJ
    have:AI c (AI c A i) i=AI c A i:=by
     have h1:AI c (AI c A i) i={AI c A i with frm:=(i:Int)}:=by
      conv=>lhs;unfold AI
      exact if_pos e3
     have key:∀(B:RA) (k:Int),B.frm=k->({B with frm:=k}:RA)=B:=fun B k h=>by subst h;rfl
     exact h1.trans (key _ _ e2)
    rw[this]
   rw[B4 hil hI.err,B4 hil hee]
   have:Bh c (s.getD i 0) i A=Bh c (s.getD i 0) i (AI c A i):=by
    unfold Bh
    rw[if_pos hI.ph,if_pos hpp,hent]
   rw[this]
  have hv:(AI c A i).late=(if hdr=true then 0 else FF c 2 v)/\(AI c A i).nodes=(if hdr=true then v else v+1):=by
   unfold AI
   rw[if_neg (by rw[hI.within];decide),hH]
   by_cases hh:hdr=true
   ·rw[if_pos hh,if_pos hh,if_pos hh];exact⟨hI.late,hI.nodes⟩
   ·rw[if_neg hh,if_neg hh,if_neg hh,Oy (A:={A with frm:=(i:Int),within:=true,cells:=0}) hI.late]
    exact⟨by show FF c 2 A.nodes=_;rw[hI.nodes],by show A.nodes+1=_;rw[hI.nodes]⟩
  have hrec:GI (cxA c s) (!acc.isEmpty) wid hdr i v ns=if hdr=false/\FF c 2 v≠0 then .error (i,FF c 2 v)else H9 s (decide (0<acc.length)) (A.width:Int) (Cb (cxA c s) (decide (0<acc.length)) (A.width:Int) hdr (s.length+1) [] i (if hdr=true then v else v+1) ns):=by
   rw[G5,hnum,<-hI.width]
   cases hdr with
   | true=>rw[if_pos rfl,if_neg (fun h=>by cases h.1)];rfl
   | false=>
    rw[if_neg (by decide)]
    show(match ES c.dep c.nod 2 i v with | .error e=>Except.error e | .ok v1=>_)=_
    rw[R9]
    by_cases hlim:FF c 2 v≠0
    ·rw[if_pos hlim,if_pos ⟨rfl,hlim⟩]
    ·rw[if_neg hlim,if_neg fun h=>hlim h.2];rfl
  simp only[bind,Except.bind]
  rw[hrec]
  by_cases hlim:hdr=false/\FF c 2 v≠0
  ·rw[if_pos hlim]
   refine⟨fun p d h=>?_,fun rs h=>by cases h⟩
   cases h
   have hlt:(AI c A i).late=FF c 2 v:=by rw[hv.1,if_neg (by rw[hlim.1];decide)]
   have hla:=RU (c:=c) (A:=A) (at_:=(i:Int)) (by rw[hlt];exact hlim.2)
   have:=Wr hwin hil hI.ph hI.err hI.held (by rw[hla,hlt];exact hlim.2)
   rw[hla,hlt]at this
   exact⟨Nat.le_refl _,this⟩
  rw[if_neg hlim]
  have hl0:(AI c A i).late=0:=by
   rw[hv.1]
   cases hdr with
   | true=>rfl
   | false=>exact Decidable.not_not.1 fun h=>hlim ⟨rfl,h⟩
  have hin:InR c hdr A.names A.out acc.length A.width [] (if hdr=true then v else v+1) ns (AI c A i):=by
   have hnil:hdr=true->acc=[]:=fun h=>by
    rw[h]at hhd
    cases acc with
    | nil=>rfl
    | cons x t=>simp at hhd
   have hA0:acc=[]->A.names=[]:=fun h=>by rw[hI.names,h];unfold CD;split<;>rfl
   refine⟨e3,e1.err.trans hI.err,hl0,e1.held.trans hI.held,e1.rows.trans hI.rows,e1.width,e4,hv.2,?_,fun h=>?_,?_⟩
   ·rw[e1.names]
    split
    ·rename_i h;rw[hA0 (hnil h)];rfl
    ·rfl
   ·rw[e1.names,hA0 (hnil h),hI.nsr (hnil h)];rfl
   ·rw[e1.out]
    split
    ·rfl
    ·rw[evK,List.append_nil]
  obtain⟨r1,r2⟩:=rec_run (s:=s) hwin hac hhr (s.length+1) [] i (AI c A i) _ ns hi (by omega) (e1.ph.trans hI.ph) hin
  rw[<-hfin]at r1 r2
  cases hR:Cb (cxA c s) (decide (0<acc.length)) (A.width:Int) hdr (s.length+1) [] i (if hdr=true then v else v+1) ns with
  | error p=>
   refine⟨fun p' d h=>?_,fun rs h=>by cases h⟩
   cases h
   exact r1 _ _ hR
  | ok p=>
   obtain⟨e,v',ns',ks⟩:=p
   obtain⟨g1,g2,g3,g4⟩:=r2 e v' ns' ks hR
   obtain⟨ks',m,q1,q2,_⟩:=Rl _ hi hR
   have hln:Cm s e= .ok m:=(q2.le hi).2.2.2.2
   have hlm:=FE g2 hln
   unfold H9
   simp only[hln]
   have hwd:(if decide (0<acc.length)=true then(A.width:Int)else(ks.length:Int))=(((if acc.length=0 then ks.length else A.width):Nat):Int):=by
    by_cases h0:acc.length=0
    ·rw[if_pos h0,if_neg (by simp[h0])]
    ·rw[if_neg h0,if_pos (by simp;omega)]
   rw[hwd]
   by_cases hw:ks.length<(if acc.length=0 then ks.length else A.width)
   ·rw[if_pos (by omega)]
    refine⟨fun p d h=>?_,fun rs h=>by cases h⟩
    cases h
    refine⟨g1,?_⟩
    rcases g4 with⟨k,k1,k2,k3⟩ | ⟨k1,C,k2,k3⟩
    ·rw[k1,FO (p:=(e,10)) k2];exact k3
    ·obtain⟨m1,C',m2,m3⟩:=Uq g2 k3 hln
     obtain⟨b1,b2⟩:=Rj (at_:=(e:Int)) m2 hw
     rw[k1,Ks (p:=(e,10)) fun k hk=>P9 hk,k2]
     have hob:obs (AH c C' e)= .error ((e:Int),10):=by rw[Ix (by rw[b1];decide),b1,b2]
     rcases m3 with m3 | ⟨_,m3⟩
     ·rw[m3,IB (by rw[b1];decide),hob]
     ·rw[m3,hob]
   ·rw[if_neg (by omega)]
    simp only
    have hpos:i<e+m:=by
     rcases Nat.eq_zero_or_pos m with h0 | h0
     ·have:=hlm.2.1 h0;omega
     ·omega
    --the state A4 the record
    have after:∀C',InR c hdr A.names A.out acc.length A.width ks v' ns' C'->InD c (acc++[.mk 8 [] [] ks (slc s e (e+m))]) v' ns' (((if acc.length=0 then ks.length else A.width):Nat):Int) (AH c C' e):=by
     intro C' hC
     obtain⟨f1,f2,f3,f4,f5,f6,f7,f8,f9,f10⟩:=SJ (at_:=(e:Int)) hC hhr hw
     have hkid:AA (.mk 8 [] [] ks (slc s e (e+m)))=ks:=rfl
     obtain⟨s1,s2⟩:=WG (c:=c) (acc:=acc) (r:= .mk 8 [] [] ks (slc s e (e+m)))
     have hnm:C'.names=CD c (acc++[.mk 8 [] [] ks (slc s e (e+m))]):=by
      rw[hC.names]
      by_cases hh:hdr=true
      ·rw[if_pos hh]
       rw[hh]at hhd
       have hne:acc=[]:=by cases acc with | nil=>rfl | cons x t=>simp at hhd
       have hcd:c.hd=true:=by simp at hhd;exact hhd.1
       subst hne
       unfold CD
       rw[if_pos hcd];rfl
      ·rw[if_neg hh,hI.names]
       by_cases hne:acc=[]
       ·subst hne
        have hcd:c.hd=false:=by
         cases hc:c.hd with
         | false=>rfl
         | true=>rw[hc]at hhd;exact absurd hhd.symm hh
        unfold CD
        rw[hcd];rfl
       ·exact(s2 hne).symm
     refine⟨f1,f2,f3,f4,f5,by rw[f6,List.length_append];rfl,by rw[f7],f8,by rw[f9,hnm],fun h=>by simp at h,?_⟩
     ·rw[f10,hC.out,s1,hhd,hI.out,hkid]
      by_cases hh:hdr=true
      ·rw[if_pos hh,if_pos hh,if_pos hh]
      ·rw[if_neg hh,if_neg hh,if_neg hh,List.append_assoc]
       congr 3
       rw[hI.names]
       by_cases hne:acc=[]
       ·subst hne
        have hcd:c.hd=false:=by
         cases hc:c.hd with
         | false=>rfl
         | true=>rw[hc]at hhd;exact absurd hhd.symm hh
        unfold CD
        rw[hcd];rfl
       ·exact(s2 hne).symm
    rcases g4 with⟨k,k1,k2,k3⟩ | ⟨k1,C,k2,k3⟩
    ·--the window's error
     obtain⟨h1,h2⟩:=ih (acc++[.mk 8 [] [] ks (slc s e (e+m))]) (e+m) {RA.start with rows:=(acc++[Nd.mk 8 [] [] ks (slc s e (e+m))]).length,width:=(if acc.length=0 then ks.length else A.width),nodes:=v',names:=CD c (acc++[.mk 8 [] [] ks (slc s e (e+m))]),out:=evD c (acc++[.mk 8 [] [] ks (slc s e (e+m))])} v' ns' (((if acc.length=0 then ks.length else A.width):Nat):Int) (by omega) (by omega) ⟨rfl,rfl,rfl,rfl,rfl,rfl,rfl,rfl,rfl,fun h=>by simp at h,rfl⟩
     refine⟨fun p d h=>?_,fun rs h=> .inr ⟨k,k1,k3⟩⟩
     have:=(h1 p d h).1
     exact⟨by omega,by rw[k1,FO (p:=(p,d)) (by show k<=p;omega)];exact k3⟩
    ·obtain⟨m1,C',m2,m3⟩:=Uq g2 k3 hln
     have hD:=after C' m2
     have hf:Bg c s i A=Bg c s (e+m) (AH c C' e):=by
      rcases m3 with m3 | ⟨m4,m3⟩
      ·rw[k2,m3]
      ·rw[k2,m3,Hh (by omega) hD.err]
       unfold D1
       rw[if_neg (by rw[hD.ph];decide),if_pos hD.ph,if_neg (by rw[hD.within];decide)]
     rw[hf,k1,m1]
     obtain⟨h1,h2⟩:=ih _ (e+m) _ v' ns' _ (by omega) (by omega) hD
     exact⟨fun p d h=>⟨by have:=(h1 p d h).1;omega,(h1 p d h).2⟩,h2⟩
section
structure RX where
 begun:Bool
 size:Int
 text:Int
 cut:B8
 ended:Bool
 lb:Int
 lk:Int
 lt:Int
def KB:List TV:=Ba scZ .nilSlice .nilSlice .nilSlice
def evT:Ev->List TV
 | .ls=> .int .i64 2:: .str []::KB
 | .le=> .int .i64 3:: .str []::KB
 | .ms=> .int .i64 4:: .str []::KB
 | .me=> .int .i64 5:: .str []::KB
 | .key k=> .int .i64 6:: .str k::KB
 | .val s=> .int .i64 1:: .str []::Ba s .nilSlice .nilSlice .nilSlice
def DG (l:List Ev):List TV:=l.flatMap evT
theorem Kl (l m:List Ev):DG (l++m)=DG l++DG m:=by unfold DG;rw[List.flatMap_append]
def Da (sz:Nat) (st:St) (v:TV) (n:Nat) (xs:List TV) (I:List Nat):Prop:=
 (v= .nilSlice/\n=0/\xs=[]/\I=[])∨(v= .list sz .full n xs/\I=[])∨∃id,v= .list sz (.own id) n xs/\I=[id]/\id<st.nt/\st.live id=true
theorem Da.nil (sz:Nat) (st:St):Da sz st .nilSlice 0 [] []:= .inl ⟨rfl,rfl,rfl,rfl⟩
theorem Da.rd {sz:Nat} {st:St} {v:TV} {n:Nat} {xs:List TV} {I:List Nat} (h:Da sz st v n xs I):Rd sz v n xs:=by
 rcases h with⟨rfl,rfl,rfl,_⟩ | ⟨rfl,_⟩ | ⟨id,rfl,_⟩
 ·exact .inl ⟨rfl,rfl,rfl⟩
 ·exact .inr ⟨_,rfl⟩
 ·exact .inr ⟨_,rfl⟩
theorem Da.lt {sz:Nat} {st:St} {v:TV} {n:Nat} {xs:List TV} {I:List Nat} (h:Da sz st v n xs I):∀id,id∈I->id<st.nt:=by
 rcases h with⟨_,_,_,rfl⟩ | ⟨_,rfl⟩ | ⟨id,_,rfl,h,_⟩
 ·intro x hx;cases hx
 ·intro x hx;cases hx
 ·intro x hx;rw[List.mem_singleton.1 hx];exact h
structure FrT (I:List Nat) (st st':St):Prop where
 nt:st.nt<=st'.nt
 live:∀id,id<st.nt->id∉I->st'.live id=st.live id
theorem Da.keep {sz:Nat} {st st':St} {v:TV} {n:Nat} {xs:List TV} {I J:List Nat} (h:Da sz st v n xs I) (f:FrT J st st') (hd:∀id,id∈I->id∉J):Da sz st' v n xs I:=by
 rcases h with h | h | ⟨id,h1,h2,h3,h4⟩
 ·exact .inl h
 ·exact .inr (.inl h)
 ·exact .inr (.inr ⟨id,h1,h2,Nat.lt_of_lt_of_le h3 f.nt,(f.live id h3 (hd id (by rw[h2];exact .head _))).trans h4⟩)
theorem FrT.refl (I:List Nat) (st:St):FrT I st st:=⟨Nat.le_refl _,fun _ _ _=>rfl⟩
theorem JF {T sz bytes:Nat} {st:St} {v:TV} {n k:Nat} {xs ys:List TV} {I:List Nat} {K:TV->St->Prop} (h:Da sz st v n xs I) (hby:(n+k)*bytes<=140737488355328) (hys:k=0->ys=[])
  (hK:∀v' st' I',Da sz st' v' (n+k) (xs++ys) I'->FrT I st st'->(I'=I∨I'=[st.nt])->st'.box=st.box->st'.nb=st.nb->st'.bt=st.bt->K v' st'):AF T sz bytes v k ys st K:=by
 rcases h with⟨rfl,rfl,rfl,rfl⟩ | ⟨rfl,rfl⟩ | ⟨id,rfl,rfl,h3,h4⟩
 ·simp only[AF]
  cases k with
  | zero=>rw[hys rfl]at hK;exact hK _ st [] (.nil _ _) (FrT.refl _ _) (.inl rfl) rfl rfl rfl
  | succ m=>
   refine Aa (by rw[Nat.ble_eq];rw[Nat.zero_add]at hby;exact hby) (hK _ _ [st.nt] (.inr (.inr ⟨st.nt,by rw[Nat.zero_add,List.nil_append],rfl,by simp[St.fresh],by simp[St.fresh]⟩)) ⟨by simp[St.fresh],fun id h _=>by simp[St.fresh];omega⟩ (.inr rfl) rfl rfl rfl)
 ·simp only[AF,Nat.beq_refl]
  refine⟨hby,?_⟩
  cases k with
  | zero=>rw[hys rfl]at hK;exact hK _ st [] (.inr (.inl ⟨by rw[Nat.add_zero,List.append_nil],rfl⟩)) (FrT.refl _ _) (.inl rfl) rfl rfl rfl
  | succ m=>exact hK _ _ [st.nt] (.inr (.inr ⟨st.nt,rfl,rfl,by simp[St.fresh],by simp[St.fresh]⟩)) ⟨by simp[St.fresh],fun id h _=>by simp[St.fresh];omega⟩ (.inr rfl) rfl rfl rfl
 ·simp only[AF,Nat.beq_refl]
  refine⟨hby,h4,hK _ _ [st.nt] (.inr (.inr ⟨st.nt,rfl,rfl,by simp[St.fresh,St.retire],by simp[St.fresh,St.retire]⟩)) ⟨by simp[St.fresh,St.retire],fun i hi hn=>?_⟩ (.inr rfl) rfl rfl rfl⟩
  have h1:i≠id:=fun e=>hn (by rw[e];exact .head _)
  have h2:i≠st.nt:=by omega
  simp[St.fresh,St.retire,h1,h2]
def rdC (c:SC) (X:RX) (A:RA) (w m:Nat) (nv ov:TV):List TV:=
 [.box w 0,.int .u8 c.a,.int .u8 c.q,.bool c.hd,.bool c.ty,.int .i64 c.dep,.int .i64 c.nod,.int .i64 X.lb,.int .i64 X.lk,.int .i64 X.lt,.int .i64 (A.ph:Int),.bool X.begun,.bool A.within,.int .i64 (A.rows:Int),.int .i64 (A.cells:Int),.int .i64 (A.width:Int),nv,.map m,.bool A.told,.int .i64 A.nodes,.int .i64 A.frm,.int .i64 A.line,.int .i64 A.late,.int .i64 X.size,.int .i64 X.text,.str X.cut,ov,.int .i64 A.off,.int .i64 A.err,.bool X.ended]
def KnM (es:List (B8×TV)) (names:List B8):Prop:=∀t,Cn t es=if t∈names then some (.bool true)else none
structure RB (c:SC) (X:RX) (A:RA) (r w m:Nat) (I:List Nat) (st:St):Prop where
 rb:r<st.nb
 wb:w<st.nb
 mb:m<st.nb
 rw_:r≠w
 rm:r≠m
 wm:w≠m
 ex:∃nv ov hv wo es I1 I2 I3,st.box r= .cells (rdC c X A w m nv ov)/\st.box w= .cells [.int .i64 (c.win:Int),hv,.int .i64 wo,.bool false]/\st.box m= .map es/\KnM es A.names/\
  Da 1 st nv A.names.length (A.names.map TV.str) I1/\Da 15 st ov A.out.length (DG A.out) I2/\Da 1 st hv A.held.length (AQ A.held) I3/\(I1++I2++I3).Nodup/\I=I1++I2++I3
structure FrB (r w m:Nat) (I I':List Nat) (st st':St):Prop where
 nb:st.nb<=st'.nb
 nt:st.nt<=st'.nt
 box:∀b,b≠r->b≠w->b≠m->b<st.nb->st'.box b=st.box b
 live:∀id,id<st.nt->id∉I->st'.live id=st.live id
 sub:∀id,id∈I'->id∈I∨st.nt<=id
theorem FrB.refl (r w m:Nat) (I:List Nat) (st:St):FrB r w m I I st st:=⟨Nat.le_refl _,Nat.le_refl _,fun _ _ _ _ _=>rfl,fun _ _ _=>rfl,fun _ h=> .inl h⟩
theorem FrB.trans {r w m:Nat} {I I1 I2:List Nat} {a b d:St} (h:FrB r w m I I1 a b) (k:FrB r w m I1 I2 b d):FrB r w m I I2 a d:=
 ⟨Nat.le_trans h.nb k.nb,Nat.le_trans h.nt k.nt,fun x h1 h2 h3 h4=>(k.box x h1 h2 h3 (Nat.lt_of_lt_of_le h4 h.nb)).trans (h.box x h1 h2 h3 h4),
  fun id h1 h2=>(k.live id (Nat.lt_of_lt_of_le h1 h.nt) fun hm=>(h.sub id hm).elim h2 fun h3=>by omega).trans (h.live id h1 h2),
  fun id hm=>(k.sub id hm).elim (h.sub id) fun h1=> .inr (Nat.le_trans h.nt h1)⟩
section
variable {c:SC} {X:RX} {A:RA} {r w m:Nat} {I:List Nat} {st:St}
theorem RB.ld (h:RB c X A r w m I st) {k:Nat} {x:TV} {f:TV->Prop} (hx:∀nv ov,(rdC c X A w m nv ov)[k]? =some x) (hf:f x):Af (Ab st [] (.t (.box r k)) 0) f:=by
 obtain⟨nv,ov,hv,wo,es,I1,I2,I3,h1,_⟩:=h.ex
 refine Ad ?_ hf
 simp only[Ab,h1]
 exact hx nv ov
theorem RB.put (h:RB c X A r w m I st) {k:Nat} {x:TV} {K:St->Prop} (X':RX) (A':RA) (hlt:k<30) (hn:A'.names=A.names) (ho:A'.out=A.out) (hh:A'.held=A.held) (hs:∀nv ov,(rdC c X A w m nv ov).set k x=rdC c X' A' w m nv ov)
  (hk:∀st',RB c X' A' r w m I st'->FrB r w m I I st st'->K st'):stB st (.box r k) [x] K:=by
 obtain⟨nv,ov,hv,wo,es,I1,I2,I3,h1,h2,h3,h4,h5,h6,h7,h8,h9⟩:=h.ex
 refine⟨_,h1,by simp only[List.length_singleton];show k+1<=30;omega,?_⟩
 rw[show setAll (rdC c X A w m nv ov) k [x]=rdC c X' A' w m nv ov from hs nv ov]
 have f:FrT [] st (st.put r (.cells (rdC c X' A' w m nv ov))):=⟨Nat.le_refl _,fun _ _ _=>rfl⟩
 refine hk _ ⟨h.rb,h.wb,h.mb,h.rw_,h.rm,h.wm,nv,ov,hv,wo,es,I1,I2,I3,by simp[St.put],?_,?_,by rw[hn];exact h4,?_,?_,?_,h8,h9⟩ ⟨Nat.le_refl _,Nat.le_refl _,fun b hb _ _ _=>by simp[St.put,hb],fun _ _ _=>rfl,fun _ h=> .inl h⟩
 ·have:=h.rw_;simp[St.put,Ne.symm this];exact h2
 ·have:=h.rm;simp[St.put,Ne.symm this];exact h3
 ·rw[hn];exact h5.keep f fun _ _ h=>by cases h
 ·rw[ho];exact h6.keep f fun _ _ h=>by cases h
 ·rw[hh];exact h7.keep f fun _ _ h=>by cases h
theorem NB (h:RB c X A r w m I st) {e:Int} {K:St->Prop} (hk:∀st',RB c X (BE A e) r w m I st'->FrB r w m I I st st'->K st'):Ae PR AL [.box r 0,.int .i64 e] [] st K:=by
 refine Fq r e st K (h.ld (k:=22) (fun _ _=>rfl) (Ao (Ac (fun g=>?_) fun g=>?_)))
 ·have:BE A e={A with late:=e}:=if_pos g
  rw[this]at hk
  exact h.put X {A with late:=e} (by decide) rfl rfl rfl (fun _ _=>rfl) hk
 ·have:BE A e=A:=if_neg g
  rw[this]at hk
  exact hk st h (FrB.refl _ _ _ _ _)
theorem Hk (h:RB c X A r w m I st) {K:Bool->St->Prop} (hk:K (AR c A) st):Ae PR Ar [.box r 0] [.one .bool] st K:=by
 unfold AR at hk
 refine EG r st K (h.ld (k:=3) (x:= .bool c.hd) (fun _ _=>rfl) (Aq (Au (fun g=>?_) fun g=>?_)))
 ·refine h.ld (k:=13) (x:= .int .i64 (A.rows:Int)) (fun _ _=>rfl) (Ao ?_)
  rw[g,Bool.true_and]at hk
  have:decide ((A.rows:Int)=0)=decide (A.rows=0):=decide_eq_decide.2 ⟨fun h=>by omega,fun h=>by omega⟩
  rw[this];exact hk
 ·rw[g,Bool.false_and]at hk;exact hk
theorem Pc (h:RB c X A r w m I st) (hb:0<=A.nodes/\A.nodes<=100000000) {d:Int} {K:St->Prop} (hk:∀st',RB c X (Bz c A d) r w m I st'->FrB r w m I I st st'->K st'):Ae PR Av [.box r 0,.int .i64 d] [] st K:=by
 have cnt:∀{B:RA} {st1:St} {K:St->Prop},B.nodes=A.nodes->RB c X B r w m I st1->(∀st',RB c X (ER B) r w m I st'->FrB r w m I I st1 st'->K st')->Af (Ab st1 [] (.t (.box r 19)) 0) fun x=>Ah (.int .i64) x fun n=>stB st1 (.box r 19) [.int .i64 (i64.wrap (n+1))] fun st2=>K st2:=by
  intro B st1 K hn hB hk
  refine hB.ld (k:=19) (x:= .int .i64 B.nodes) (fun _ _=>rfl) (Ao ?_)
  rw[As _ (by omega) (by omega)]
  exact hB.put X (ER B) (by decide) rfl rfl rfl (fun _ _=>rfl) hk
 unfold Bz at hk
 refine EX r d st K (h.ld (k:=5) (x:= .int .i64 c.dep) (fun _ _=>rfl) (Ao (Ac (fun g=>?_) fun g=>?_)))
 ·rw[if_pos g]at hk
  refine NB h fun st1 h1 f1=>cnt (Dv A 9).2.2.2.2 h1 fun st2 h2 f2=>hk st2 h2 (f1.trans f2)
 ·rw[if_neg g]at hk
  refine h.ld (k:=19) (x:= .int .i64 A.nodes) (fun _ _=>rfl) (Ao (h.ld (k:=6) (x:= .int .i64 c.nod) (fun _ _=>rfl) (Ao (Ac (fun g2=>?_) fun g2=>?_))))
  ·rw[if_pos g2]at hk
   exact NB h fun st1 h1 f1=>cnt (Dv A 10).2.2.2.2 h1 fun st2 h2 f2=>hk st2 h2 (f1.trans f2)
  ·rw[if_neg g2]at hk
   exact cnt rfl h hk
end
end
section
section
variable {c:SC} {X:RX} {A:RA} {r w m:Nat} {I:List Nat} {st:St}
theorem RB.at (h:RB c X A r w m I st) {k:Nat} {x:TV} (hx:∀nv ov,(rdC c X A w m nv ov)[k]? =some x):Ab st [] (.t (.box r k)) 0=some x:=by
 obtain⟨nv,ov,hv,wo,es,I1,I2,I3,h1,_⟩:=h.ex
 simp only[Ab,h1]
 exact hx nv ov
theorem RB.win (h:RB c X A r w m I st):Ab st [] (.t (.box r 0)) 0=some (.box w 0):=h.at fun _ _=>rfl
theorem Ma (h:RB c X A r w m I st) {K:Int->St->Prop} (hk:K (A.held.length:Int) st):Ae PR AV [.box w 0] [.one (.int .i64)] st K:=by
 obtain⟨nv,ov,hv,wo,es,I1,I2,I3,h1,h2,h3,h4,h5,h6,h7,h8,h9⟩:=h.ex
 refine HT w st K (Ad (x:=hv) (by simp[Ab,h2]) (Aa h7.rd.isSl ?_))
 rw[h7.rd.lenS];exact hk
theorem SW {α:Type} {a b:List α} (h:(a++b).Nodup):a.Nodup:=(List.nodup_append.1 h).1
theorem JJ (h:RB c X A r w m I st) (hl:A.held.length<=100000000) {K:B8->Int->St->Prop} (hk:∀st' I',RB c X {A with held:=[]} r w m I' st'->FrB r w m I I' st st'->K A.held 0 st'):
  Ae PR AO [.box w 0,.int .i64 (A.held.length:Int)] [.one .str,.one (.int .i64)] st K:=by
 obtain⟨nv,ov,hv,wo,es,I1,I2,I3,h1,h2,h3,h4,h5,h6,h7,h8,h9⟩:=h.ex
 have hld:Ab st [] (.t (.box w 1)) 0=some hv:=by simp[Ab,h2]
 have hS:=h7.rd.lenS
 have hlst:Hx 1 hv=true:=by
  rcases h7 with⟨rfl,_⟩ | ⟨rfl,_⟩ | ⟨id,rfl,_⟩<;>rfl
 have htb:(toBytes st (slT 1 .full hv 0 (Int.toNat (A.held.length:Int)))).map TV.str=some (.str A.held):=by
  rw[Int.toNat_natCast]
  have hb:∀xs,xs=AQ A.held->Dt ((xs.take (A.held.length*1)).drop (0*1))=some A.held:=fun xs hx=>by
   rw[hx,Nat.mul_one]
   simp only[Nat.zero_mul,List.drop_zero]
   rw[List.take_of_length_le (by rw[Gh];omega),C7]
  rcases h7 with⟨rfl,e1,_,_⟩ | ⟨rfl,_⟩ | ⟨id,rfl,_⟩
  ·have:A.held=[]:=List.eq_nil_of_length_eq_zero e1
   rw[this];rfl
  ·show(Dt _).map TV.str=_
   rw[hb _ rfl];rfl
  ·show(Dt _).map TV.str=_
   rw[hb _ rfl];rfl
 have hsrc:BI st 1 (slT 1 .non hv (Int.toNat (A.held.length:Int)) (lenS hv))=some (0,[]):=by
  rw[Int.toNat_natCast,hS]
  have hb:∀xs,xs=AQ A.held->(xs.take (A.held.length*1)).drop (A.held.length*1)=[]:=fun xs hx=>by
   rw[List.drop_of_length_le]
   rw[List.length_take];omega
  rcases h7 with⟨rfl,e1,_,_⟩ | ⟨rfl,_⟩ | ⟨id,rfl,_⟩
  ·rfl
  ·show BI st 1 (.list 1 .non (A.held.length-A.held.length) _)=_
   rw[hb _ rfl,Nat.sub_self];rfl
  ·show BI st 1 (.list 1 .non (A.held.length-A.held.length) _)=_
   rw[hb _ rfl,Nat.sub_self];rfl
 have hrw:=h.rw_
 have hwm:=h.wm
 refine HA w _ st K (Ac (fun g=>by omega) fun _=>Ad hld (Aa h7.rd.isSl (Ac (fun g=>by rw[hS]at g;omega) fun _=>Ad hld ⟨⟨hlst,by omega,by rw[hS];omega,rfl⟩,Ad htb (Al (Ad hld ⟨⟨hlst,by omega,by rw[hS];omega⟩,Ad hsrc (Aa rfl ?_)⟩))⟩)))
 simp only[AF,Nat.beq_refl]
 refine⟨by show(0+0)*1<=_;omega,Aa rfl ⟨_,h2,by simp,?_⟩⟩
 have e1:setAll [TV.int .i64 (c.win:Int),hv,.int .i64 wo,.bool false] 1 [.list 1 .full 0 []]=[TV.int .i64 (c.win:Int),.list 1 .full 0 [],.int .i64 wo,.bool false]:=rfl
 have e2:∀x,setAll [TV.int .i64 (c.win:Int),.list 1 .full 0 [],.int .i64 wo,.bool false] 2 [x]=[TV.int .i64 (c.win:Int),.list 1 .full 0 [],x,.bool false]:=fun _=>rfl
 rw[e1]
 refine Ad (x:= .int .i64 wo) (by simp[Ab,St.put]) (Ao ⟨_,Eo _ _ _,by simp,?_⟩)
 rw[e2]
 have f:FrT [] st ((st.put w (.cells [TV.int .i64 (c.win:Int),.list 1 .full 0 [],.int .i64 wo,.bool false])).put w (.cells [TV.int .i64 (c.win:Int),.list 1 .full 0 [],.int .i64 (i64.wrap (wo+(A.held.length:Int))),.bool false])):=⟨Nat.le_refl _,fun _ _ _=>rfl⟩
 refine hk _ (I1++I2) ⟨h.rb,h.wb,h.mb,h.rw_,h.rm,h.wm,nv,ov,.list 1 .full 0 [],i64.wrap (wo+(A.held.length:Int)),es,I1,I2,[],?_,by simp[St.put],?_,h4,h5.keep f (fun _ _ h=>by cases h),h6.keep f (fun _ _ h=>by cases h),.inr (.inl ⟨rfl,rfl⟩),by rw[List.append_nil];exact SW h8,by rw[List.append_nil]⟩ ⟨Nat.le_refl _,Nat.le_refl _,fun b _ hb _ _=>by simp[St.put,hb],fun _ _ _=>rfl,fun id hid=> .inl (by rw[h9];exact List.mem_append.2 (.inl hid))⟩
 ·simp[St.put,hrw];exact h1
 ·simp[St.put,Ne.symm hwm];exact h3
theorem VK (h:RB c X A r w m I st) (hl:A.held.length<=100000000) (hwb:c.win<=100000000) {b:UInt8} {K:Int->St->Prop} (hk1:c.win<=A.held.length->K 28 st) (hk2:A.held.length<c.win->∀st' I',RB c X {A with held:=A.held++[b]} r w m I' st'->FrB r w m I I' st st'->K 0 st'):
  Ae PR CE [.box w 0,.str [b]] [.one (.int .i64)] st K:=by
 obtain⟨nv,ov,hv,wo,es,I1,I2,I3,h1,h2,h3,h4,h5,h6,h7,h8,h9⟩:=h.ex
 have hld:Ab st [] (.t (.box w 1)) 0=some hv:=by simp[Ab,h2]
 have hrw:=h.rw_
 have hwm:=h.wm
 refine HC w [b] st K (Ad (x:= .bool false) (by simp[Ab,h2]) (Aq (Au (fun g=>by cases g) fun _=>?_)))
 refine HB w st _ (Ad (x:= .int .i64 (c.win:Int)) (by simp[Ab,h2]) (Ao (Ad hld (Aa h7.rd.isSl ?_))))
 rw[h7.rd.lenS,As _ (by omega) (by omega)]
 refine Ac (fun g=>hk1 (by simp only[List.length_singleton]at g;omega)) fun g=>?_
 have hlt:A.held.length<c.win:=by simp only[List.length_singleton]at g;omega
 refine Ad hld (Ad (TZ st [b]) (Aa (Vy [b]) ?_))
 refine JF h7 (by simp;omega) (fun h=>by cases h) fun v' st1 I' ho f hI hbx hnb hbt=>Aa (by exact ho.rd.one |> fun h=>by rw[List.all_cons,h];rfl) ?_
 have h2':st1.box w= .cells [TV.int .i64 (c.win:Int),hv,.int .i64 wo,.bool false]:=by rw[hbx];exact h2
 refine⟨_,h2',by simp,?_⟩
 have e1:setAll [TV.int .i64 (c.win:Int),hv,.int .i64 wo,.bool false] 1 [v']=[TV.int .i64 (c.win:Int),v',.int .i64 wo,.bool false]:=rfl
 rw[e1]
 have hnd:=List.nodup_append.1 h8
 have f':FrT I3 st (st1.put w (.cells [TV.int .i64 (c.win:Int),v',.int .i64 wo,.bool false])):=⟨f.nt,f.live⟩
 have d1:∀id,id∈I1->id∉I3:=fun id h h'=>hnd.2.2 id (List.mem_append.2 (.inl h)) id h' rfl
 have d2:∀id,id∈I2->id∉I3:=fun id h h'=>hnd.2.2 id (List.mem_append.2 (.inr h)) id h' rfl
 have hlt12:∀id,id∈I1++I2->id<st.nt:=fun id h=>(List.mem_append.1 h).elim (h5.lt id) (h6.lt id)
 refine hk2 hlt _ (I1++I2++I') ⟨Nat.lt_of_lt_of_le h.rb (Nat.le_of_eq hnb.symm),Nat.lt_of_lt_of_le h.wb (Nat.le_of_eq hnb.symm),Nat.lt_of_lt_of_le h.mb (Nat.le_of_eq hnb.symm),h.rw_,h.rm,h.wm,nv,ov,v',wo,es,I1,I2,I',?_,by simp[St.put],?_,h4,h5.keep f' d1,h6.keep f' d2,?_,?_,rfl⟩ ⟨Nat.le_of_eq hnb.symm,f.nt,fun x _ hx _ _=>by simp[St.put,hx,hbx],fun id h1 h2=>f.live id h1 fun h3=>h2 (by rw[h9];exact List.mem_append.2 (.inr h3)),fun id hid=>?_⟩
 ·simp[St.put,hrw,hbx];exact h1
 ·simp[St.put,Ne.symm hwm,hbx];exact h3
 ·have:=ho
  simp only[List.length_append,List.length_singleton]at this⊢
  rw[<-Je]
  rcases this with h | h | ⟨id,q1,q2,q3,q4⟩
  ·exact .inl h
  ·exact .inr (.inl h)
  ·exact .inr (.inr ⟨id,q1,q2,q3,q4⟩)
 ·rcases hI with rfl | rfl
  ·exact h8
  ·rw[List.nodup_append]
   refine⟨hnd.1,by simp,fun a ha b' hb e=>?_⟩
   rw[List.mem_singleton]at hb
   have:=hlt12 a ha
   omega
 ·rcases List.mem_append.1 hid with hid | hid
  ·exact .inl (by rw[h9];exact List.mem_append.2 (.inl hid))
  ·rcases hI with rfl | rfl
   ·exact .inl (by rw[h9];exact List.mem_append.2 (.inr hid))
   ·rw[List.mem_singleton.1 hid];exact .inr (Nat.le_refl _)
theorem B6 (h:RB c X A r w m I st) (hl:A.held.length<=100000000) {o e:Int} {K:St->Prop} (hk:∀st' I',RB c X (Bc A o e) r w m I' st'->FrB r w m I I' st st'->K st'):Ae PR Ai [.box r 0,.int .i64 o,.int .i64 e] [] st K:=by
 refine Fv r o e st K (h.ld (k:=28) (x:= .int .i64 A.err) (fun _ _=>rfl) (Ao (Ac (fun g=>?_) fun g=>?_)))
 ·have hf:Bc A o e={A with off:=o,err:=e,held:=[]}:=if_pos g
  rw[hf]at hk
  refine h.put X {A with off:=o} (by decide) rfl rfl rfl (fun _ _=>rfl) fun st1 h1 f1=>h1.put X {A with off:=o,err:=e} (by decide) rfl rfl rfl (fun _ _=>rfl) fun st2 h2 f2=>?_
  refine Ad h2.win (Ad h2.win (Ma h2 ⟨h2.win,JJ (A:={A with off:=o,err:=e}) h2 hl fun st3 I' h3 f3=>⟨h3.win,hk st3 I' h3 ((f1.trans f2).trans f3)⟩⟩))
 ·have hf:Bc A o e={A with held:=[]}:=if_neg g
  rw[hf]at hk
  refine Ad h.win (Ad h.win (Ma h ⟨h.win,JJ h hl fun st3 I' h3 f3=>⟨h3.win,hk st3 I' h3 f3⟩⟩))
theorem Im (h:RB c X A r w m I st) (hl:A.held.length<=100000000) (hwb:c.win<=100000000) {b:UInt8} {C:Int} (hC:C=(b.toNat:Int)) {K:St->Prop} (hk:∀st' I',RB c X (Cj c b A) r w m I' st'->FrB r w m I I' st st'->K st'):Ae PR AG [.box r 0,.int .u8 C] [] st K:=by
 subst hC
 refine Fu r _ st K (Ad h.win (Ad (OA _ b rfl) (Al (VK h hl hwb (fun g=>?_) fun g st1 I1 h1 f1=>?_))))
 ·have hf:Cj c b A=Bc A A.frm 28:=if_pos g
  rw[hf]at hk
  refine Ac (fun _=>h.ld (k:=20) (x:= .int .i64 A.frm) (fun _ _=>rfl) (Ao (B6 h hl hk))) fun g=>absurd (by decide) g
 ·have hf:Cj c b A={A with held:=A.held++[b]}:=if_neg (by omega)
  rw[hf]at hk
  exact Ac (fun g=>absurd rfl g) fun _=>hk st1 I1 h1 f1
end
end
section
section
variable {c:SC} {X:RX} {A:RA} {r w m:Nat} {I:List Nat} {st:St}
theorem RB.outK (h:RB c X A r w m I st) (hl:A.out.length<=100000000) {evs:List Ev} (hle:evs.length<=1000):∃v,Ab st [] (.t (.box r 26)) 0=some v/\
  ∀(K':TV->St->Prop),(∀v' st1,Ap v'=true->(∀K:St->Prop,(∀st' I',RB c X {A with out:=A.out++evs} r w m I' st'->FrB r w m I I' st st'->K st')->stB st1 (.box r 26) [v'] K)->K' v' st1)->∀T,AF T 15 192 v evs.length (DG evs) st K':=by
 obtain⟨nv,ov,hv,wo,es,I1,I2,I3,h1,h2,h3,h4,h5,h6,h7,h8,h9⟩:=h.ex
 refine⟨ov,by simp only[Ab,h1];rfl,fun K' hK T=>?_⟩
 refine JF h6 (by omega) (fun h=>by
  have:evs=[]:=List.eq_nil_of_length_eq_zero h
  rw[this];rfl) fun v' st1 I' ho f hI hbx hnb hbt=>hK v' st1 ho.rd.one fun K hk=>?_
 have h1':st1.box r= .cells (rdC c X A w m nv ov):=by rw[hbx];exact h1
 refine⟨_,h1',by show 26+1<=30;decide,?_⟩
 have e1:setAll (rdC c X A w m nv ov) 26 [v']=rdC c X {A with out:=A.out++evs} w m nv v':=rfl
 rw[e1]
 have hrw:=h.rw_
 have hrm:=h.rm
 have hnd:=List.nodup_append.1 h8
 have hnd1:=List.nodup_append.1 hnd.1
 have f':FrT I2 st (st1.put r (.cells (rdC c X {A with out:=A.out++evs} w m nv v'))):=⟨f.nt,f.live⟩
 have d1:∀id,id∈I1->id∉I2:=fun id h h'=>hnd1.2.2 id h id h' rfl
 have d3:∀id,id∈I3->id∉I2:=fun id h h'=>hnd.2.2 id (List.mem_append.2 (.inr h')) id h rfl
 have hsub:∀id,id∈I'->id∈I2∨st.nt<=id:=fun id hid=>by
  rcases hI with rfl | rfl
  ·exact .inl hid
  ·rw[List.mem_singleton.1 hid];exact .inr (Nat.le_refl _)
 refine hk _ (I1++I'++I3) ⟨Nat.lt_of_lt_of_le h.rb (Nat.le_of_eq hnb.symm),Nat.lt_of_lt_of_le h.wb (Nat.le_of_eq hnb.symm),Nat.lt_of_lt_of_le h.mb (Nat.le_of_eq hnb.symm),h.rw_,h.rm,h.wm,nv,v',hv,wo,es,I1,I',I3,by simp[St.put],?_,?_,h4,h5.keep f' d1,?_,h7.keep f' d3,?_,rfl⟩ ⟨Nat.le_of_eq hnb.symm,f.nt,fun x hx _ _ _=>by simp[St.put,hx,hbx],fun id g1 g2=>f.live id g1 fun g3=>g2 (by rw[h9];exact List.mem_append.2 (.inl (List.mem_append.2 (.inr g3)))),fun id hid=>?_⟩
 ·simp[St.put,Ne.symm hrw,hbx];exact h2
 ·simp[St.put,Ne.symm hrm,hbx];exact h3
 ·have:=ho
  show Da 15 _ v' (A.out++evs).length (DG (A.out++evs)) I'
  rw[List.length_append,Kl]
  rcases this with h | h | ⟨id,q1,q2,q3,q4⟩
  ·exact .inl h
  ·exact .inr (.inl h)
  ·exact .inr (.inr ⟨id,q1,q2,q3,q4⟩)
 ·rcases hI with rfl | rfl
  ·exact h8
  ·rw[List.nodup_append,List.nodup_append]
   refine⟨⟨hnd1.1,by simp,fun a ha b' hb e=>?_⟩,hnd.2.1,fun a ha b' hb e=>?_⟩
   ·rw[List.mem_singleton]at hb
    have:=h5.lt a ha
    omega
   ·have:=h7.lt b' hb
    rcases List.mem_append.1 ha with ha | ha
    ·exact hnd.2.2 a (List.mem_append.2 (.inl ha)) b' hb e
    ·rw[List.mem_singleton]at ha;omega
 ·rcases List.mem_append.1 hid with hid | hid
  ·rcases List.mem_append.1 hid with hid | hid
   ·exact .inl (by rw[h9];exact List.mem_append.2 (.inl (List.mem_append.2 (.inl hid))))
   ·exact(hsub id hid).imp (fun g=>by rw[h9];exact List.mem_append.2 (.inl (List.mem_append.2 (.inr g)))) fun g=>g
  ·exact .inl (by rw[h9];exact List.mem_append.2 (.inr hid))
theorem RB.nameK (h:RB c X A r w m I st) (hl:A.names.length<=100000000) {t:B8}:
  ∃es v,Ab st [] (.t (.box r 17)) 0=some (.map m)/\st.box m= .map es/\KnM es A.names/\Ab (st.put m (.map (Gg t (.bool true) es))) [] (.t (.box r 16)) 0=some v/\
   ∀(K':TV->St->Prop),(∀v' st1,Ap v'=true->(∀K:St->Prop,(∀st' I',RB c X {A with names:=A.names++[t]} r w m I' st'->FrB r w m I I' st st'->K st')->stB st1 (.box r 16) [v'] K)->K' v' st1)->∀T,AF T 1 16 v 1 [.str t] (st.put m (.map (Gg t (.bool true) es))) K':=by
 obtain⟨nv,ov,hv,wo,es,I1,I2,I3,h1,h2,h3,h4,h5,h6,h7,h8,h9⟩:=h.ex
 have hrw:=h.rw_
 have hrm:=h.rm
 have hwm:=h.wm
 have h1p:(st.put m (.map (Gg t (.bool true) es))).box r= .cells (rdC c X A w m nv ov):=by simp[St.put,hrm];exact h1
 refine⟨es,nv,h.at (fun _ _=>rfl),h3,h4,by simp only[Ab,h1p];rfl,fun K' hK T=>?_⟩
 have h5p:Da 1 (st.put m (.map (Gg t (.bool true) es))) nv A.names.length (A.names.map TV.str) I1:=h5.keep (J:=[]) ⟨Nat.le_refl _,fun _ _ _=>rfl⟩ fun _ _ h=>by cases h
 refine JF h5p (by omega) (fun h=>by cases h) fun v' st1 I' ho f hI hbx hnb hbt=>hK v' st1 ho.rd.one fun K hk=>?_
 have h1':st1.box r= .cells (rdC c X A w m nv ov):=by rw[hbx];exact h1p
 refine⟨_,h1',by show 16+1<=30;decide,?_⟩
 have e1:setAll (rdC c X A w m nv ov) 16 [v']=rdC c X {A with names:=A.names++[t]} w m v' ov:=rfl
 rw[e1]
 have hnd:=List.nodup_append.1 h8
 have hnd1:=List.nodup_append.1 hnd.1
 have hnb:st1.nb=st.nb:=hnb
 have f':FrT I1 st (st1.put r (.cells (rdC c X {A with names:=A.names++[t]} w m v' ov))):=⟨f.nt,f.live⟩
 have d2:∀id,id∈I2->id∉I1:=fun id h h'=>hnd1.2.2 id h' id h rfl
 have d3:∀id,id∈I3->id∉I1:=fun id h h'=>hnd.2.2 id (List.mem_append.2 (.inl h')) id h rfl
 have hsub:∀id,id∈I'->id∈I1∨st.nt<=id:=fun id hid=>by
  rcases hI with rfl | rfl
  ·exact .inl hid
  ·rw[List.mem_singleton.1 hid];exact .inr (Nat.le_refl _)
 refine hk _ (I'++I2++I3) ⟨Nat.lt_of_lt_of_le h.rb (Nat.le_of_eq hnb.symm),Nat.lt_of_lt_of_le h.wb (Nat.le_of_eq hnb.symm),Nat.lt_of_lt_of_le h.mb (Nat.le_of_eq hnb.symm),h.rw_,h.rm,h.wm,v',ov,hv,wo,Gg t (.bool true) es,I',I2,I3,by simp[St.put],?_,?_,?_,?_,h6.keep f' d2,h7.keep f' d3,?_,rfl⟩ ⟨Nat.le_of_eq hnb.symm,f.nt,fun x hx _ hm _=>by simp[St.put,hx,hbx,hm],fun id g1 g2=>f.live id g1 fun g3=>g2 (by rw[h9];exact List.mem_append.2 (.inl (List.mem_append.2 (.inl g3)))),fun id hid=>?_⟩
 ·simp[St.put,Ne.symm hrw,hbx,hwm];exact h2
 ·simp[St.put,Ne.symm hrm,hbx]
 ·intro t'
  have:=h4 t'
  rw[Jv]
  by_cases he:t'=t
  ·rw[if_pos he,if_pos (List.mem_append.2 (.inr (List.mem_singleton.2 he)))]
  ·rw[if_neg he,this]
   by_cases hm:t'∈A.names
   ·rw[if_pos hm,if_pos (List.mem_append.2 (.inl hm))]
   ·rw[if_neg hm,if_neg (fun h=>(List.mem_append.1 h).elim hm fun h=>he (List.mem_singleton.1 h))]
 ·have:=ho
  show Da 1 _ v' (A.names++[t]).length ((A.names++[t]).map TV.str) I'
  rw[List.length_append,List.map_append]
  rcases this with h | h | ⟨id,q1,q2,q3,q4⟩
  ·exact .inl h
  ·exact .inr (.inl h)
  ·exact .inr (.inr ⟨id,q1,q2,q3,q4⟩)
 ·rcases hI with rfl | rfl
  ·exact h8
  ·rw[List.nodup_append,List.nodup_append]
   refine⟨⟨by simp,hnd1.2.1,fun a ha b' hb e=>?_⟩,hnd.2.1,fun a ha b' hb e=>?_⟩
   ·rw[List.mem_singleton]at ha
    have:=h6.lt b' hb
    have ha:a=st.nt:=ha
    omega
   ·have:=h7.lt b' hb
    rcases List.mem_append.1 ha with ha | ha
    ·rw[List.mem_singleton]at ha
     have ha:a=st.nt:=ha
     omega
    ·exact hnd.2.2 a (List.mem_append.2 (.inr ha)) b' hb e
 ·rcases List.mem_append.1 hid with hid | hid
  ·rcases List.mem_append.1 hid with hid | hid
   ·exact(hsub id hid).imp (fun g=>by rw[h9];exact List.mem_append.2 (.inl (List.mem_append.2 (.inl g)))) fun g=>g
   ·exact .inl (by rw[h9];exact List.mem_append.2 (.inl (List.mem_append.2 (.inr hid))))
  ·exact .inl (by rw[h9];exact List.mem_append.2 (.inr hid))
end
end
section
section
variable {c:SC} {X:RX} {A:RA} {r w m:Nat} {I:List Nat} {st:St}
theorem Jz (h:RB c X A r w m I st) (hb:0<=A.nodes/\A.nodes<=100000000) {K:St->Prop} (hk:∀st',RB c X (Dx c A) r w m I st'->FrB r w m I I st st'->K st'):
  Ae PR Ar [.box r 0] [.one .bool] st fun (b:Bool) (st1:St)=>BIf (!b) (Ae PR Av [.box r 0,.int .i64 3] [] st1 fun (st2:St)=>K st2) (K st1):=by
 refine Hk h (Au (fun g=>?_) fun g=>?_)
 ·have g':AR c A=false:=by simpa using g
  have e:Dx c A=Bz c A 3:=by unfold Dx;rw[if_neg (by rw[g'];decide)]
  rw[e]at hk
  exact Pc h hb hk
 ·have g':AR c A=true:=by simpa using g
  have e:Dx c A=A:=if_pos g'
  rw[e]at hk
  exact hk st h (FrB.refl _ _ _ _ _)
theorem HQ (A:RA) (e:Int):(BE A e).nodes=A.nodes:=(Dv A e).2.2.2.2
theorem JA (h:RB c X A r w m I st) (hb:0<=A.nodes/\A.nodes<=100000000) {K:St->Prop} (hk:∀st',RB c X (Dx c (Cd A)) r w m I st'->FrB r w m I I st st'->K st'):
  Af (Ab st [] (.t (.box r 13)) 0) fun x=>Ah (.int .i64) x fun (n:Int)=>BIf (decide ((0:Int)<n))
   (Af (Ab st [] (.t (.box r 14)) 0) fun y=>Ah (.int .i64) y fun (n2:Int)=>Af (Ab st [] (.t (.box r 15)) 0) fun z=>Ah (.int .i64) z fun (n3:Int)=>BIf (decide (n3<=n2))
    (Ae PR AL [.box r 0,.int .i64 10] [] st fun (st1:St)=>Ae PR Ar [.box r 0] [.one .bool] st1 fun (b:Bool) (st2:St)=>BIf (!b) (Ae PR Av [.box r 0,.int .i64 3] [] st2 fun (st3:St)=>K st3) (K st2))
    (Ae PR Ar [.box r 0] [.one .bool] st fun (b:Bool) (st2:St)=>BIf (!b) (Ae PR Av [.box r 0,.int .i64 3] [] st2 fun (st3:St)=>K st3) (K st2)))
   (Ae PR Ar [.box r 0] [.one .bool] st fun (b:Bool) (st2:St)=>BIf (!b) (Ae PR Av [.box r 0,.int .i64 3] [] st2 fun (st3:St)=>K st3) (K st2)):=by
 refine h.ld (k:=13) (x:= .int .i64 (A.rows:Int)) (fun _ _=>rfl) (Ao (Ac (fun g=>?_) fun g=>?_))
 ·refine h.ld (k:=14) (x:= .int .i64 (A.cells:Int)) (fun _ _=>rfl) (Ao (h.ld (k:=15) (x:= .int .i64 (A.width:Int)) (fun _ _=>rfl) (Ao (Ac (fun g2=>?_) fun g2=>?_))))
  ·have e:Cd A=BE A 10:=if_pos ⟨by omega,by omega⟩
   rw[e]at hk
   exact NB h fun st1 h1 f1=>Jz h1 (by rw[HQ];exact hb) fun st2 h2 f2=>hk st2 h2 (f1.trans f2)
  ·have e:Cd A=A:=if_neg (fun q=>by omega)
   rw[e]at hk
   exact Jz h hb hk
 ·have e:Cd A=A:=if_neg (fun q=>by omega)
  rw[e]at hk
  exact Jz h hb hk
theorem PJ (c:SC) (A:RA) (d:Int):(Bz c A d).nodes=A.nodes+1:=by
 unfold Bz ER
 split
 ·show(BE A 9).nodes+1=_;rw[HQ]
 ·split
  ·show(BE A 10).nodes+1=_;rw[HQ]
  ·rfl
theorem Pi (h:RB c X A r w m I st) (hb:0<=A.nodes/\A.nodes<=90000000) {o:Int} {K:St->Prop} (hk:∀st',RB c X (AJ c A o) r w m I st'->FrB r w m I I st st'->K st'):
  Ae PR AY [.box r 0,.int .i64 o] [] st K:=by
 unfold AJ at hk
 refine EY r o st K (h.put X {A with frm:=o} (by decide) rfl rfl rfl (fun _ _=>rfl) fun st1 h1 f1=>?_)
 refine h1.ld (k:=12) (x:= .bool A.within) (fun _ _=>rfl) (Aq (Au (fun g=>?_) fun g=>?_))
 ·have g':¬A.within=true:=by simpa using g
  refine h1.put X {A with frm:=o,within:=true} (by decide) rfl rfl rfl (fun _ _=>rfl) fun st2 h2 f2=>h2.put X {A with frm:=o,within:=true,cells:=0} (by decide) rfl rfl rfl (fun _ _=>rfl) fun st3 h3 f3=>?_
  refine Hk h3 (Au (fun g2=>?_) fun g2=>?_)
  ·have g2':AR c A=false:=(Bool.not_eq_true' _).mp g2
   have e:AI c A o=Bz c {A with frm:=o,within:=true,cells:=0} 2:=by unfold AI;rw[if_neg g',if_neg (by rw[g2'];decide)]
   rw[e]at hk
   exact Pc h3 ⟨hb.1,by show A.nodes<=_;omega⟩ fun st4 h4 f4=>JA h4 (by rw[PJ];exact⟨by show 0<=A.nodes+1;omega,by show A.nodes+1<=_;omega⟩) fun st5 h5 f5=>hk st5 h5 ((((f1.trans f2).trans f3).trans f4).trans f5)
  ·have g2':AR c A=true:=(Bool.not_eq_false' _).mp g2
   have e:AI c A o={A with frm:=o,within:=true,cells:=0}:=by unfold AI;rw[if_neg g',if_pos g2']
   rw[e]at hk
   exact JA h3 ⟨hb.1,by show A.nodes<=_;omega⟩ fun st5 h5 f5=>hk st5 h5 (((f1.trans f2).trans f3).trans f5)
 ·have g':A.within=true:=by simpa using g
  have e:AI c A o={A with frm:=o}:=if_pos g'
  rw[e]at hk
  exact JA h1 ⟨hb.1,by show A.nodes<=_;omega⟩ fun st5 h5 f5=>hk st5 h5 (f1.trans f5)
end
end
section
section
variable {c:SC} {X:RX} {A:RA} {r w m:Nat} {I:List Nat} {st:St}
def WS (B:RA):RA:={B with rows:=B.rows+1,within:=false,ph:=0}
theorem Li (h:RB c X A r w m I st) (hr:A.rows<=100000000) {K:St->Prop} (hk:∀st',RB c X (WS A) r w m I st'->FrB r w m I I st st'->K st'):
  need (isPtr (.box r 0)) (need (isPtr (.box r 0)) (Af (Ab st [] (.t (Ag (.box r 0) 13)) 0) fun (x:TV)=>Ah (.int .i64) x fun (n:Int)=>
   need (isPtr (.box r 0)) (need (isPtr (.box r 0)) (stB st (Ag (.box r 0) 13) [.int .i64 (i64.wrap (n+1))] fun (st1:St)=>
   need (isPtr (.box r 0)) (need (isPtr (.box r 0)) (stB st1 (Ag (.box r 0) 12) [.bool false] fun (st2:St)=>
   need (isPtr (.box r 0)) (need (isPtr (.box r 0)) (stB st2 (Ag (.box r 0) 10) [.int .i64 0] fun (st3:St)=>K st3)))))))):=by
 refine Aa rfl (Aa rfl (h.ld (k:=13) (x:= .int .i64 (A.rows:Int)) (fun _ _=>rfl) (Ao ?_)))
 rw[As _ (by omega) (by omega)]
 refine Aa rfl (Aa rfl (h.put (k:=13) X {A with rows:=A.rows+1} (by decide) rfl rfl rfl (fun _ _=>rfl) fun st1 h1 f1=>?_))
 refine Aa rfl (Aa rfl (h1.put (k:=12) X {A with rows:=A.rows+1,within:=false} (by decide) rfl rfl rfl (fun _ _=>rfl) fun st2 h2 f2=>?_))
 refine Aa rfl (Aa rfl (h2.put (k:=10) X (WS A) (by decide) rfl rfl rfl (fun _ _=>rfl) fun st3 h3 f3=>?_))
 exact hk st3 h3 ((f1.trans f2).trans f3)
theorem UH (A:RA):(Cf A).held=A.held/\(Cf A).out=A.out/\(Cf A).rows=A.rows:=by
 unfold Cf;split<;>exact⟨rfl,rfl,rfl⟩
theorem Jx (h:RB c X A r w m I st) (hl:A.held.length<=100000000) (hr:A.rows<=100000000) (ho:A.out.length<=100000000) {o:Int} {K:St->Prop} (hk:∀st' I',RB c X (AH c A o) r w m I' st'->FrB r w m I I' st st'->K st'):
  Ae PR Ax [.box r 0,.int .i64 o] [] st K:=by
 refine EF r o st K (h.ld (k:=28) (x:= .int .i64 A.err) (fun _ _=>rfl) (Ao (Ac (fun g=>?_) fun g=>?_)))
 ·have e:AH c A o=A:=if_pos g
  rw[e]at hk
  exact hk st I h (FrB.refl _ _ _ _ _)
 have e:AH c A o=Cp c (Cf A) o:=if_neg g
 rw[e]at hk
 refine⟨fun r1 o1 st1=>r1= .box r 0/\o1=o/\RB c X (Cf A) r w m I st1/\FrB r w m I I st st1,h.ld (k:=13) (x:= .int .i64 (A.rows:Int)) (fun _ _=>rfl) (Ao (Ac (fun g2=>?_) fun g2=>?_)),?_⟩
 ·have ew:Cf A={A with width:=A.cells,told:=true}:=if_pos (by omega)
  rw[ew]
  refine h.ld (k:=14) (x:= .int .i64 (A.cells:Int)) (fun _ _=>rfl) (Ao (h.put X {A with width:=A.cells} (by decide) rfl rfl rfl (fun _ _=>rfl) fun st1 h1 f1=>h1.put X {A with width:=A.cells,told:=true} (by decide) rfl rfl rfl (fun _ _=>rfl) fun st2 h2 f2=>⟨rfl,rfl,h2,f1.trans f2⟩))
 ·have ew:Cf A=A:=if_neg (by omega)
  rw[ew]
  exact⟨rfl,rfl,h,FrB.refl _ _ _ _ _⟩
 rintro r1 o1 st3 ⟨rfl,rfl,h3,f3⟩
 obtain⟨w1,w2,w3⟩:=UH A
 generalize Cf A=B at*
 refine Aa rfl (Aa rfl (h3.ld (k:=14) (x:= .int .i64 (B.cells:Int)) (fun _ _=>rfl) (Ao (Aa rfl (Aa rfl (h3.ld (k:=15) (x:= .int .i64 (B.width:Int)) (fun _ _=>rfl) (Ao (Ac (fun g2=>?_) fun g2=>?_))))))))
 ·have e2:Cp c B o1=Bc B o1 10:=if_pos (by omega)
  rw[e2]at hk
  exact B6 h3 (by rw[w1];exact hl) fun st4 I' h4 f4=>hk st4 I' h4 (f3.trans f4)
 have e2:Cp c B o1={B with out:=B.out++(if AR c B=true then []else [if c.hd then .me else .le]),rows:=B.rows+1,within:=false,ph:=0}:=if_neg (by omega)
 rw[e2]at hk
 have hout:B.out.length<=100000000:=by rw[w2];exact ho
 refine Hk h3 (Au (fun g3=>?_) fun g3=>?_)
 ·have g3':AR c B=false:=(Bool.not_eq_true' _).mp g3
  rw[if_neg (by rw[g3'];decide)]at hk
  refine Aa rfl (Aa rfl (Aa rfl (h3.ld (k:=3) (x:= .bool c.hd) (fun _ _=>rfl) (Aq (Au (fun g4=>?_) fun g4=>?_)))))
  ·rw[if_pos g4]at hk
   obtain⟨v,hv,hA⟩:=h3.outK hout (evs:=[Ev.me]) (by decide)
   refine Aa rfl (Aa rfl (Ad hv (hA _ (fun v' st6 h1 hst=>?_) _)))
   refine Aa rfl (Aa rfl (Aa (by rw[List.all_cons,h1];rfl) (hst _ fun st7 I' h7 f7=>?_)))
   exact Li h7 (by show B.rows<=_;rw[w3];exact hr) fun st8 h8 f8=>hk st8 I' h8 ((f3.trans f7).trans f8)
  ·rw[if_neg (by rw[g4];decide)]at hk
   obtain⟨v,hv,hA⟩:=h3.outK hout (evs:=[Ev.le]) (by decide)
   refine Aa rfl (Aa rfl (Ad hv (hA _ (fun v' st6 h1 hst=>?_) _)))
   refine Aa rfl (Aa rfl (Aa (by rw[List.all_cons,h1];rfl) (hst _ fun st7 I' h7 f7=>?_)))
   exact Li h7 (by show B.rows<=_;rw[w3];exact hr) fun st8 h8 f8=>hk st8 I' h8 ((f3.trans f7).trans f8)
 ·have g3':AR c B=true:=(Bool.not_eq_false' _).mp g3
  rw[if_pos g3',List.append_nil]at hk
  exact Li h3 (by rw[w3];exact hr) fun st8 h8 f8=>hk st8 I h8 (f3.trans f8)
end
end
section
theorem decA4 {a q:Int} {hd ty:Bool} {f:Int->Int->Bool->Bool->Prop} (h:f a q hd ty):AU [.int .u8,.int .u8,.bool,.bool] (.agg [.int .u8 a,.int .u8 q,.bool hd,.bool ty]) f:=h
section
variable {c:SC} {X:RX} {A:RA} {r w m:Nat} {I:List Nat} {st:St}
theorem RB.ext {st':St} (h:RB c X A r w m I st) (e:Ay st st'):RB c X A r w m I st'/\FrB r w m I I st st':=by
 obtain⟨nv,ov,hv,wo,es,I1,I2,I3,h1,h2,h3,h4,h5,h6,h7,h8,h9⟩:=h.ex
 have f:FrT [] st st':=⟨e.nt,fun id hi _=>e.live id hi⟩
 refine⟨⟨Nat.lt_of_lt_of_le h.rb e.nb,Nat.lt_of_lt_of_le h.wb e.nb,Nat.lt_of_lt_of_le h.mb e.nb,h.rw_,h.rm,h.wm,nv,ov,hv,wo,es,I1,I2,I3,by rw[e.box _ h.rb];exact h1,by rw[e.box _ h.wb];exact h2,by rw[e.box _ h.mb];exact h3,h4,h5.keep f (fun _ _ h=>by cases h),h6.keep f (fun _ _ h=>by cases h),h7.keep f (fun _ _ h=>by cases h),h8,h9⟩,
  ⟨e.nb,e.nt,fun b _ _ _ hb=>e.box b hb,fun id hi _=>e.live id hi,fun _ h=> .inl h⟩⟩
theorem NG (h:RB c X A r w m I st) (hl:A.names.length<=100000000) (hc:A.cells<=100000000) {t:B8} {K:St->Prop}
  (hk:∀st' I',RB c X {A with names:=A.names++[t],cells:=A.cells+1} r w m I' st'->FrB r w m I I' st st'->K st'):
  need (isPtr (.box r 0)) (need (isPtr (.box r 0)) (Af (Ab st [] (.t (Ag (.box r 0) 17)) 0) fun (v3:TV)=>muK v3 t (.bool true) st fun (st8:St)=>
   need (isPtr (.box r 0)) (need (isPtr (.box r 0)) (Af (Ab st8 [] (.t (Ag (.box r 0) 16)) 0) fun (v4:TV)=>AF 9 1 16 v4 1 [.str t] st8 fun (v5:TV) (st9:St)=>
   need (isPtr (.box r 0)) (need (isPtr (.box r 0)) (need (List.all [v5] Ap) (stB st9 (Ag (.box r 0) 16) [v5] fun (st10:St)=>
   need (isPtr (.box r 0)) (need (isPtr (.box r 0)) (Af (Ab st10 [] (.t (Ag (.box r 0) 14)) 0) fun (x12:TV)=>Ah (.int .i64) x12 fun (n9:Int)=>
   need (isPtr (.box r 0)) (need (isPtr (.box r 0)) (stB st10 (Ag (.box r 0) 14) [.int .i64 (i64.wrap (n9+1))] fun (st11:St)=>K st11))))))))))):=by
 obtain⟨es,v,q1,q2,q3,q4,hA⟩:=h.nameK hl (t:=t)
 refine Aa rfl (Aa rfl (Ad q1 ⟨es,q2,Aa rfl (Aa rfl (Ad q4 (hA _ (fun v' st9 h1 hst=>?_) _)))⟩))
 refine Aa rfl (Aa rfl (Aa (by rw[List.all_cons,h1];rfl) (hst _ fun st10 I' h10 f10=>?_)))
 refine Aa rfl (Aa rfl (h10.ld (k:=14) (x:= .int .i64 (A.cells:Int)) (fun _ _=>rfl) (Ao ?_)))
 rw[As _ (by omega) (by omega)]
 exact Aa rfl (Aa rfl (h10.put (k:=14) X {A with names:=A.names++[t],cells:=A.cells+1} (by decide) rfl rfl rfl (fun _ _=>rfl) fun st11 h11 f11=>hk st11 I' h11 (f10.trans f11)))
theorem Ur (h:RB c X A r w m I st) (hl:A.out.length<=100000000) (hc:A.cells<=100000000) {t:B8} (ht:t.length<=1000000) {qd:Bool} {K:St->Prop}
  (hk:∀st' I',RB c X {A with out:=A.out++[.val (DE c.ty qd t)],cells:=A.cells+1} r w m I' st'->FrB r w m I I' st st'->K st'):
  need (isPtr (.box r 0)) (need (isPtr (.box r 0)) (Af (Ab st [] (.t (Ag (.box r 0) 26)) 0) fun (v18:TV)=>
   need (isPtr (.box r 0)) (need (isPtr (.box r 0)) (Af ((Aj st [] (.t (Ag (.box r 0) 1)) 0 4).map TV.agg) fun (x31:TV)=>AU [.int .u8,.int .u8,.bool,.bool] x31 fun (n16:Int) (n17:Int) (b5:Bool) (b6:Bool)=>
   Ae PR AE [.str t,.bool qd,.agg [.int .u8 n16,.int .u8 n17,.bool b5,.bool b6]] [.agg [.int .i64,.bool,.bool,.str,.int .i64,.int .i64,.int .i64,.int .i64,.int .i64,.str,.tv,.tv,.tv]] st
    fun (n18:Int) (b7:Bool) (b8:Bool) (s5:B8) (n19:Int) (n20:Int) (n21:Int) (n22:Int) (n23:Int) (s6:B8) (v19:TV) (v20:TV) (v21:TV) (st26:St)=>(Ab st26 [] (.t (Ag (.box r 0) 26)) 0=some v18/\
    need (List.all [(.int .i64 (1:Int)),(.str ([]:B8)),(.int .i64 n18),(.bool b7),(.bool b8),(.str s5),(.int .i64 n19),(.int .i64 n20),(.int .i64 n21),(.int .i64 n22),(.int .i64 n23),(.str s6),v19,v20,v21] Ap)
     (AF 118 15 192 v18 1 [(.int .i64 (1:Int)),(.str ([]:B8)),(.int .i64 n18),(.bool b7),(.bool b8),(.str s5),(.int .i64 n19),(.int .i64 n20),(.int .i64 n21),(.int .i64 n22),(.int .i64 n23),(.str s6),v19,v20,v21] st26 fun (v22:TV) (st27:St)=>
     need (isPtr (.box r 0)) (need (isPtr (.box r 0)) (need (List.all [v22] Ap) (stB st27 (Ag (.box r 0) 26) [v22] fun (st28:St)=>
     need (isPtr (.box r 0)) (need (isPtr (.box r 0)) (Af (Ab st28 [] (.t (Ag (.box r 0) 14)) 0) fun (x32:TV)=>Ah (.int .i64) x32 fun (n24:Int)=>
     need (isPtr (.box r 0)) (need (isPtr (.box r 0)) (stB st28 (Ag (.box r 0) 14) [.int .i64 (i64.wrap (n24+1))] fun (st29:St)=>K st29))))))))))))):=by
 obtain⟨v,q1,_⟩:=h.outK hl (evs:=[Ev.val (DE c.ty qd t)]) (by simp)
 have l1:=h.at (k:=1) (x:= .int .u8 c.a) fun _ _=>rfl
 have l2:=h.at (k:=2) (x:= .int .u8 c.q) fun _ _=>rfl
 have l3:=h.at (k:=3) (x:= .bool c.hd) fun _ _=>rfl
 have l4:=h.at (k:=4) (x:= .bool c.ty) fun _ _=>rfl
 refine Aa rfl (Aa rfl (Ad q1 (Aa rfl (Aa rfl (Ad (x:= .agg [.int .u8 c.a,.int .u8 c.q,.bool c.hd,.bool c.ty]) ?_ (decA4 ?_))))))
 ·obtain⟨nv,ov,hv,wo,es,I1,I2,I3,h1,_⟩:=h.ex
  have g:∀k j,Ab st [] (.t (Ag (.box r 0) k)) j=Ab st [] (.t (.box r (k+j))) 0:=fun k j=>by simp[Ab,Ag,h1]
  simp only[Aj,g,l1,l2,l3,l4,Option.map,Nat.reduceAdd]
 refine Nj ht fun st1 e1=>?_
 obtain⟨h1,f1⟩:=h.ext e1
 obtain⟨v',q1',hA⟩:=h1.outK hl (evs:=[Ev.val (DE c.ty qd t)]) (by simp)
 have hb:st1.box r=st.box r:=e1.box _ h.rb
 have hq:Ab st1 [] (.t (.box r 26)) 0=Ab st [] (.t (.box r 26)) 0:=by simp only[Ab,hb]
 have hv:v'=v:=Option.some.inj (by rw[<-q1',hq];exact q1)
 subst hv
 refine⟨q1',Aa rfl (hA _ (fun v' st9 o1 hst=>?_) _)⟩
 refine Aa rfl (Aa rfl (Aa (by rw[List.all_cons,o1];rfl) (hst _ fun st10 I' h10 f10=>?_)))
 refine Aa rfl (Aa rfl (h10.ld (k:=14) (x:= .int .i64 (A.cells:Int)) (fun _ _=>rfl) (Ao ?_)))
 rw[As _ (by omega) (by omega)]
 exact Aa rfl (Aa rfl (h10.put (k:=14) X {A with out:=A.out++[.val (DE c.ty qd t)],cells:=A.cells+1} (by decide) rfl rfl rfl (fun _ _=>rfl) fun st11 h11 f11=>hk st11 I' h11 ((f1.trans f10).trans f11)))
end
end
section
section
variable {c:SC} {X:RX} {A:RA} {r w m:Nat} {I:List Nat} {st:St}
theorem RB.nm (h:RB c X A r w m I st) (hn:A.cells<A.names.length):∃v,Ab st [] (.t (.box r 16)) 0=some v/\A.cells<lenZ 1 v/\Ab st [] (.t (ixT 1 v A.cells)) 0=some (.str (A.names.getD A.cells [])):=by
 obtain⟨nv,ov,hv,wo,es,I1,I2,I3,h1,h2,h3,h4,h5,h6,h7,h8,h9⟩:=h.ex
 refine⟨nv,by simp only[Ab,h1];rfl,by rw[h5.rd.lenZ];exact hn,?_⟩
 rw[h5.rd.ld st A.cells 0 (by simp;exact hn)]
 simp[List.getD_eq_getElem?_getD,hn]
theorem ND (h:RB c X A r w m I st) (hl:A.out.length<=90000000) (hc:A.cells<=100000000) {t:B8} (ht:t.length<=1000000) {qd:Bool} {K:St->Prop} (hn:c.hd=true->A.cells<A.names.length)
  (hk:∀st' I',RB c X {A with cells:=A.cells+1,out:=A.out++((if c.hd then [Ev.key (A.names.getD A.cells [])]else [])++[.val (DE c.ty qd t)])} r w m I' st'->FrB r w m I I' st st'->K st'):
  (need (isPtr (.box r 0)) (need (isPtr (.box r 0)) (need (isPtr (Ag (.box r 0) 1)) (Af (Ab st [] (.t (Ag (Ag (.box r 0) 1) 2)) 0) (fun (x48:TV)=>Ah (.bool) x48 (fun (b22:Bool)=>BIf b22 (need (isPtr (.box r 0)) (need (isPtr (.box r 0)) (Af (Ab st [] (.t (Ag (.box r 0) 26)) 0) (fun (v43:TV)=>need (isPtr (.box r 0)) (need (isPtr (.box r 0)) (Af (Ab st [] (.t (Ag (.box r 0) 16)) 0) (fun (v44:TV)=>need (isPtr (.box r 0)) (need (isPtr (.box r 0)) (Af (Ab st [] (.t (Ag (.box r 0) 14)) 0) (fun (x51:TV)=>Ah (.int .i64) x51 (fun (n53:Int)=>((0<=n53/\n53<(lenZ 1 v44:Int))/\Af (Ab st [] (.t (ixT 1 v44 (Int.toNat n53))) 0) (fun (x52:TV)=>Ah (.str) x52 (fun (s14:B8)=>AF 118 15 192 v43 1 [(.int .i64 (6:Int)),(.str s14),(.int .i64 (0:Int)),(.bool false),(.bool false),(.str ([]:B8)),(.int .i64 (0:Int)),(.int .i64 (0:Int)),(.int .i64 (0:Int)),(.int .i64 (0:Int)),(.int .i64 (0:Int)),(.str ([]:B8)),.nilSlice,.nilSlice,.nilSlice] st (fun (v45:TV) (st46:St)=>need (isPtr (.box r 0)) (need (isPtr (.box r 0)) (need (List.all [v45] Ap) (stB st46 (Ag (.box r 0) 26) [v45] (fun (st47:St)=>need (isPtr (.box r 0)) (need (isPtr (.box r 0)) (Af (Ab st47 [] (.t (Ag (.box r 0) 26)) 0) (fun (v46:TV)=>need (isPtr (.box r 0)) (need (isPtr (.box r 0)) (Af ((Aj st47 [] (.t (Ag (.box r 0) 1)) 0 4).map TV.agg) (fun (x54:TV)=>AU [.int .u8,.int .u8,.bool,.bool] x54 (fun (n54:Int) (n55:Int) (b23:Bool) (b24:Bool)=>Ae PR AE [(.str t),(.bool qd),(.agg [(.int .u8 n54),(.int .u8 n55),(.bool b23),(.bool b24)])] [.agg [.int .i64,.bool,.bool,.str,.int .i64,.int .i64,.int .i64,.int .i64,.int .i64,.str,.tv,.tv,.tv]] st47 (fun (n56:Int) (b25:Bool) (b26:Bool) (s15:B8) (n57:Int) (n58:Int) (n59:Int) (n60:Int) (n61:Int) (s16:B8) (v47:TV) (v48:TV) (v49:TV) (st48:St)=>(Ab st48 [] (.t (Ag (.box r 0) 26)) 0=some v46/\need (List.all [(.int .i64 (1:Int)),(.str ([]:B8)),(.int .i64 n56),(.bool b25),(.bool b26),(.str s15),(.int .i64 n57),(.int .i64 n58),(.int .i64 n59),(.int .i64 n60),(.int .i64 n61),(.str s16),v47,v48,v49] Ap) (AF 118 15 192 v46 1 [(.int .i64 (1:Int)),(.str ([]:B8)),(.int .i64 n56),(.bool b25),(.bool b26),(.str s15),(.int .i64 n57),(.int .i64 n58),(.int .i64 n59),(.int .i64 n60),(.int .i64 n61),(.str s16),v47,v48,v49] st48 (fun (v50:TV) (st49:St)=>need (isPtr (.box r 0)) (need (isPtr (.box r 0)) (need (List.all [v50] Ap) (stB st49 (Ag (.box r 0) 26) [v50] (fun (st50:St)=>need (isPtr (.box r 0)) (need (isPtr (.box r 0)) (Af (Ab st50 [] (.t (Ag (.box r 0) 14)) 0) (fun (x55:TV)=>Ah (.int .i64) x55 (fun (n62:Int)=>need (isPtr (.box r 0)) (need (isPtr (.box r 0)) (stB st50 (Ag (.box r 0) 14) [(.int .i64 (i64.wrap (n62+(1:Int))))] (fun (st51:St)=>K st51))))))))))))))))))))))))))))))))))))))))) (need (isPtr (.box r 0)) (need (isPtr (.box r 0)) (Af (Ab st [] (.t (Ag (.box r 0) 26)) 0) (fun (v51:TV)=>need (isPtr (.box r 0)) (need (isPtr (.box r 0)) (Af ((Aj st [] (.t (Ag (.box r 0) 1)) 0 4).map TV.agg) (fun (x57:TV)=>AU [.int .u8,.int .u8,.bool,.bool] x57 (fun (n63:Int) (n64:Int) (b27:Bool) (b28:Bool)=>Ae PR AE [(.str t),(.bool qd),(.agg [(.int .u8 n63),(.int .u8 n64),(.bool b27),(.bool b28)])] [.agg [.int .i64,.bool,.bool,.str,.int .i64,.int .i64,.int .i64,.int .i64,.int .i64,.str,.tv,.tv,.tv]] st (fun (n65:Int) (b29:Bool) (b30:Bool) (s17:B8) (n66:Int) (n67:Int) (n68:Int) (n69:Int) (n70:Int) (s18:B8) (v52:TV) (v53:TV) (v54:TV) (st52:St)=>(Ab st52 [] (.t (Ag (.box r 0) 26)) 0=some v51/\need (List.all [(.int .i64 (1:Int)),(.str ([]:B8)),(.int .i64 n65),(.bool b29),(.bool b30),(.str s17),(.int .i64 n66),(.int .i64 n67),(.int .i64 n68),(.int .i64 n69),(.int .i64 n70),(.str s18),v52,v53,v54] Ap) (AF 118 15 192 v51 1 [(.int .i64 (1:Int)),(.str ([]:B8)),(.int .i64 n65),(.bool b29),(.bool b30),(.str s17),(.int .i64 n66),(.int .i64 n67),(.int .i64 n68),(.int .i64 n69),(.int .i64 n70),(.str s18),v52,v53,v54] st52 (fun (v55:TV) (st53:St)=>need (isPtr (.box r 0)) (need (isPtr (.box r 0)) (need (List.all [v55] Ap) (stB st53 (Ag (.box r 0) 26) [v55] (fun (st54:St)=>need (isPtr (.box r 0)) (need (isPtr (.box r 0)) (Af (Ab st54 [] (.t (Ag (.box r 0) 14)) 0) (fun (x58:TV)=>Ah (.int .i64) x58 (fun (n71:Int)=>need (isPtr (.box r 0)) (need (isPtr (.box r 0)) (stB st54 (Ag (.box r 0) 14) [(.int .i64 (i64.wrap (n71+(1:Int))))] (fun (st55:St)=>K st55))))))))))))))))))))))))))))):=by
 refine Aa rfl (Aa rfl (Aa rfl (h.ld (k:=3) (x:= .bool c.hd) (fun _ _=>rfl) (Aq (Au (fun g=>?_) fun g=>?_)))))
 ·rw[if_pos g]at hk
  obtain⟨nv,n1,n2,n3⟩:=h.nm (hn g)
  obtain⟨v,q1,hA⟩:=h.outK (by omega) (evs:=[Ev.key (A.names.getD A.cells [])]) (by simp)
  refine Aa rfl (Aa rfl (Ad q1 (Aa rfl (Aa rfl (Ad n1 (Aa rfl (Aa rfl (h.ld (k:=14) (x:= .int .i64 (A.cells:Int)) (fun _ _=>rfl) (Ao ⟨⟨by omega,by omega⟩,Ad (by rw[Int.toNat_natCast];exact n3) (Al (hA _ (fun v' st9 o1 hst=>?_) _))⟩)))))))))
  refine Aa rfl (Aa rfl (Aa (by rw[List.all_cons,o1];rfl) (hst _ fun st10 I' h10 f10=>?_)))
  refine Ur h10 (by show(A.out++[_]).length<=_;simp only[List.length_append,List.length_singleton];omega) hc ht fun st11 I2 h11 f11=>hk st11 I2 ?_ (f10.trans f11)
  rw[<-List.append_assoc];exact h11
 ·rw[if_neg (by rw[g];decide),List.nil_append]at hk
  exact Ur h (by omega) hc ht hk
def Ls (c:SC) (A:RA) (t:B8) (qd:Bool):RA:=
 if AR c A=true then
  let B:=if 1024<t.length then Bc A A.frm 10 else if t∈A.names then Bc A A.frm 8 else A
  {B with names:=A.names++[t],cells:=A.cells+1}
 else if 65536<t.length then Bc A A.frm 10
 else {A with cells:=A.cells+1,out:=A.out++((if A.cells=0 then [if c.hd then .ms else .ls]else [])++((if c.hd then [Ev.key (A.names.getD A.cells [])]else [])++[.val (DE c.ty qd t)]))}
theorem JC (c:SC) (A:RA) (h:¬A.late≠0):AW c A=Ls c {A with held:=[]} (txt c.q A.held) (Bd c.q A.held):=by
 unfold AW
 rw[if_neg h]
 rfl
theorem RM (A:RA) (o e:Int):(Bc A o e).names=A.names/\(Bc A o e).cells=A.cells:=by
 unfold Bc;split<;>exact⟨rfl,rfl⟩
theorem RV (h:RB c X A r w m I st) (hh:A.held=[]) (hl:A.out.length<=80000000) (hc:A.cells<=100000000) (hnl:A.names.length<=100000000) {t:B8} (ht:t.length<=1000000) {qd:Bool} {K:St->Prop}
  (hn:c.hd=true->AR c A=false->A.cells<A.names.length)
  (hk:∀st' I',RB c X (Ls c A t qd) r w m I' st'->FrB r w m I I' st st'->K st'):
  (Ae PR Ar [(.box r 0)] [.one (.bool)] st (fun (b1:Bool) (st6:St)=>BIf b1 (BIf (decide ((1024:Int)<((t).length:Int))) (need (isPtr (.box r 0)) (need (isPtr (.box r 0)) (Af (Ab st6 [] (.t (Ag (.box r 0) 20)) 0) (fun (x9:TV)=>Ah (.int .i64) x9 (fun (n8:Int)=>Ae PR Ai [(.box r 0),(.int .i64 n8),(.int .i64 (10:Int))] [] st6 (fun (st7:St)=>need (isPtr (.box r 0)) (need (isPtr (.box r 0)) (Af (Ab st7 [] (.t (Ag (.box r 0) 17)) 0) (fun (v3:TV)=>muK v3 t (.bool true) st7 (fun (st8:St)=>need (isPtr (.box r 0)) (need (isPtr (.box r 0)) (Af (Ab st8 [] (.t (Ag (.box r 0) 16)) 0) (fun (v4:TV)=>AF 9 1 16 v4 1 [(.str t)] st8 (fun (v5:TV) (st9:St)=>need (isPtr (.box r 0)) (need (isPtr (.box r 0)) (need (List.all [v5] Ap) (stB st9 (Ag (.box r 0) 16) [v5] (fun (st10:St)=>need (isPtr (.box r 0)) (need (isPtr (.box r 0)) (Af (Ab st10 [] (.t (Ag (.box r 0) 14)) 0) (fun (x12:TV)=>Ah (.int .i64) x12 (fun (n9:Int)=>need (isPtr (.box r 0)) (need (isPtr (.box r 0)) (stB st10 (Ag (.box r 0) 14) [(.int .i64 (i64.wrap (n9+(1:Int))))] (fun (st11:St)=>K st11))))))))))))))))))))))))) (need (isPtr (.box r 0)) (need (isPtr (.box r 0)) (Af (Ab st6 [] (.t (Ag (.box r 0) 17)) 0) (fun (v6:TV)=>Af (GN st6 v6) (fun (es1:List (B8×TV))=>Ah (.bool) (Ic (.bool false) (Cn t es1)) (fun (b2:Bool)=>BIf b2 (need (isPtr (.box r 0)) (need (isPtr (.box r 0)) (Af (Ab st6 [] (.t (Ag (.box r 0) 20)) 0) (fun (x14:TV)=>Ah (.int .i64) x14 (fun (n10:Int)=>Ae PR Ai [(.box r 0),(.int .i64 n10),(.int .i64 (8:Int))] [] st6 (fun (st12:St)=>need (isPtr (.box r 0)) (need (isPtr (.box r 0)) (Af (Ab st12 [] (.t (Ag (.box r 0) 17)) 0) (fun (v7:TV)=>muK v7 t (.bool true) st12 (fun (st13:St)=>need (isPtr (.box r 0)) (need (isPtr (.box r 0)) (Af (Ab st13 [] (.t (Ag (.box r 0) 16)) 0) (fun (v8:TV)=>AF 9 1 16 v8 1 [(.str t)] st13 (fun (v9:TV) (st14:St)=>need (isPtr (.box r 0)) (need (isPtr (.box r 0)) (need (List.all [v9] Ap) (stB st14 (Ag (.box r 0) 16) [v9] (fun (st15:St)=>need (isPtr (.box r 0)) (need (isPtr (.box r 0)) (Af (Ab st15 [] (.t (Ag (.box r 0) 14)) 0) (fun (x17:TV)=>Ah (.int .i64) x17 (fun (n11:Int)=>need (isPtr (.box r 0)) (need (isPtr (.box r 0)) (stB st15 (Ag (.box r 0) 14) [(.int .i64 (i64.wrap (n11+(1:Int))))] (fun (st16:St)=>K st16))))))))))))))))))))))))) (need (isPtr (.box r 0)) (need (isPtr (.box r 0)) (Af (Ab st6 [] (.t (Ag (.box r 0) 17)) 0) (fun (v10:TV)=>muK v10 t (.bool true) st6 (fun (st17:St)=>need (isPtr (.box r 0)) (need (isPtr (.box r 0)) (Af (Ab st17 [] (.t (Ag (.box r 0) 16)) 0) (fun (v11:TV)=>AF 9 1 16 v11 1 [(.str t)] st17 (fun (v12:TV) (st18:St)=>need (isPtr (.box r 0)) (need (isPtr (.box r 0)) (need (List.all [v12] Ap) (stB st18 (Ag (.box r 0) 16) [v12] (fun (st19:St)=>need (isPtr (.box r 0)) (need (isPtr (.box r 0)) (Af (Ab st19 [] (.t (Ag (.box r 0) 14)) 0) (fun (x20:TV)=>Ah (.int .i64) x20 (fun (n12:Int)=>need (isPtr (.box r 0)) (need (isPtr (.box r 0)) (stB st19 (Ag (.box r 0) 14) [(.int .i64 (i64.wrap (n12+(1:Int))))] (fun (st20:St)=>K st20))))))))))))))))))))))))))) (BIf (decide ((65536:Int)<((t).length:Int))) (need (isPtr (.box r 0)) (need (isPtr (.box r 0)) (Af (Ab st6 [] (.t (Ag (.box r 0) 20)) 0) (fun (x21:TV)=>Ah (.int .i64) x21 (fun (n13:Int)=>Ae PR Ai [(.box r 0),(.int .i64 n13),(.int .i64 (10:Int))] [] st6 (fun (st21:St)=>K st21)))))) (need (isPtr (.box r 0)) (need (isPtr (.box r 0)) (Af (Ab st6 [] (.t (Ag (.box r 0) 14)) 0) (fun (x22:TV)=>Ah (.int .i64) x22 (fun (n14:Int)=>BIf (decide (n14=(0:Int))) (need (isPtr (.box r 0)) (need (isPtr (.box r 0)) (need (isPtr (Ag (.box r 0) 1)) (Af (Ab st6 [] (.t (Ag (Ag (.box r 0) 1) 2)) 0) (fun (x23:TV)=>Ah (.bool) x23 (fun (b3:Bool)=>BIf b3 (need (isPtr (.box r 0)) (need (isPtr (.box r 0)) (Af (Ab st6 [] (.t (Ag (.box r 0) 26)) 0) (fun (v13:TV)=>AF 118 15 192 v13 1 [(.int .i64 (4:Int)),(.str ([]:B8)),(.int .i64 (0:Int)),(.bool false),(.bool false),(.str ([]:B8)),(.int .i64 (0:Int)),(.int .i64 (0:Int)),(.int .i64 (0:Int)),(.int .i64 (0:Int)),(.int .i64 (0:Int)),(.str ([]:B8)),.nilSlice,.nilSlice,.nilSlice] st6 (fun (v14:TV) (st22:St)=>need (isPtr (.box r 0)) (need (isPtr (.box r 0)) (need (List.all [v14] Ap) (stB st22 (Ag (.box r 0) 26) [v14] (fun (st23:St)=>need (isPtr (.box r 0)) (need (isPtr (.box r 0)) (need (isPtr (Ag (.box r 0) 1)) (Af (Ab st23 [] (.t (Ag (Ag (.box r 0) 1) 2)) 0) (fun (x25:TV)=>Ah (.bool) x25 (fun (b4:Bool)=>BIf b4 (need (isPtr (.box r 0)) (need (isPtr (.box r 0)) (Af (Ab st23 [] (.t (Ag (.box r 0) 26)) 0) (fun (v15:TV)=>need (isPtr (.box r 0)) (need (isPtr (.box r 0)) (Af (Ab st23 [] (.t (Ag (.box r 0) 16)) 0) (fun (v16:TV)=>need (isPtr (.box r 0)) (need (isPtr (.box r 0)) (Af (Ab st23 [] (.t (Ag (.box r 0) 14)) 0) (fun (x28:TV)=>Ah (.int .i64) x28 (fun (n15:Int)=>((0<=n15/\n15<(lenZ 1 v16:Int))/\Af (Ab st23 [] (.t (ixT 1 v16 (Int.toNat n15))) 0) (fun (x29:TV)=>Ah (.str) x29 (fun (s4:B8)=>AF 118 15 192 v15 1 [(.int .i64 (6:Int)),(.str s4),(.int .i64 (0:Int)),(.bool false),(.bool false),(.str ([]:B8)),(.int .i64 (0:Int)),(.int .i64 (0:Int)),(.int .i64 (0:Int)),(.int .i64 (0:Int)),(.int .i64 (0:Int)),(.str ([]:B8)),.nilSlice,.nilSlice,.nilSlice] st23 (fun (v17:TV) (st24:St)=>need (isPtr (.box r 0)) (need (isPtr (.box r 0)) (need (List.all [v17] Ap) (stB st24 (Ag (.box r 0) 26) [v17] (fun (st25:St)=>need (isPtr (.box r 0)) (need (isPtr (.box r 0)) (Af (Ab st25 [] (.t (Ag (.box r 0) 26)) 0) (fun (v18:TV)=>need (isPtr (.box r 0)) (need (isPtr (.box r 0)) (Af ((Aj st25 [] (.t (Ag (.box r 0) 1)) 0 4).map TV.agg) (fun (x31:TV)=>AU [.int .u8,.int .u8,.bool,.bool] x31 (fun (n16:Int) (n17:Int) (b5:Bool) (b6:Bool)=>Ae PR AE [(.str t),(.bool qd),(.agg [(.int .u8 n16),(.int .u8 n17),(.bool b5),(.bool b6)])] [.agg [.int .i64,.bool,.bool,.str,.int .i64,.int .i64,.int .i64,.int .i64,.int .i64,.str,.tv,.tv,.tv]] st25 (fun (n18:Int) (b7:Bool) (b8:Bool) (s5:B8) (n19:Int) (n20:Int) (n21:Int) (n22:Int) (n23:Int) (s6:B8) (v19:TV) (v20:TV) (v21:TV) (st26:St)=>(Ab st26 [] (.t (Ag (.box r 0) 26)) 0=some v18/\need (List.all [(.int .i64 (1:Int)),(.str ([]:B8)),(.int .i64 n18),(.bool b7),(.bool b8),(.str s5),(.int .i64 n19),(.int .i64 n20),(.int .i64 n21),(.int .i64 n22),(.int .i64 n23),(.str s6),v19,v20,v21] Ap) (AF 118 15 192 v18 1 [(.int .i64 (1:Int)),(.str ([]:B8)),(.int .i64 n18),(.bool b7),(.bool b8),(.str s5),(.int .i64 n19),(.int .i64 n20),(.int .i64 n21),(.int .i64 n22),(.int .i64 n23),(.str s6),v19,v20,v21] st26 (fun (v22:TV) (st27:St)=>need (isPtr (.box r 0)) (need (isPtr (.box r 0)) (need (List.all [v22] Ap) (stB st27 (Ag (.box r 0) 26) [v22] (fun (st28:St)=>need (isPtr (.box r 0)) (need (isPtr (.box r 0)) (Af (Ab st28 [] (.t (Ag (.box r 0) 14)) 0) (fun (x32:TV)=>Ah (.int .i64) x32 (fun (n24:Int)=>need (isPtr (.box r 0)) (need (isPtr (.box r 0)) (stB st28 (Ag (.box r 0) 14) [(.int .i64 (i64.wrap (n24+(1:Int))))] (fun (st29:St)=>K st29))))))))))))))))))))))))))))))))))))))))) (need (isPtr (.box r 0)) (need (isPtr (.box r 0)) (Af (Ab st23 [] (.t (Ag (.box r 0) 26)) 0) (fun (v23:TV)=>need (isPtr (.box r 0)) (need (isPtr (.box r 0)) (Af ((Aj st23 [] (.t (Ag (.box r 0) 1)) 0 4).map TV.agg) (fun (x34:TV)=>AU [.int .u8,.int .u8,.bool,.bool] x34 (fun (n25:Int) (n26:Int) (b9:Bool) (b10:Bool)=>Ae PR AE [(.str t),(.bool qd),(.agg [(.int .u8 n25),(.int .u8 n26),(.bool b9),(.bool b10)])] [.agg [.int .i64,.bool,.bool,.str,.int .i64,.int .i64,.int .i64,.int .i64,.int .i64,.str,.tv,.tv,.tv]] st23 (fun (n27:Int) (b11:Bool) (b12:Bool) (s7:B8) (n28:Int) (n29:Int) (n30:Int) (n31:Int) (n32:Int) (s8:B8) (v24:TV) (v25:TV) (v26:TV) (st30:St)=>(Ab st30 [] (.t (Ag (.box r 0) 26)) 0=some v23/\need (List.all [(.int .i64 (1:Int)),(.str ([]:B8)),(.int .i64 n27),(.bool b11),(.bool b12),(.str s7),(.int .i64 n28),(.int .i64 n29),(.int .i64 n30),(.int .i64 n31),(.int .i64 n32),(.str s8),v24,v25,v26] Ap) (AF 118 15 192 v23 1 [(.int .i64 (1:Int)),(.str ([]:B8)),(.int .i64 n27),(.bool b11),(.bool b12),(.str s7),(.int .i64 n28),(.int .i64 n29),(.int .i64 n30),(.int .i64 n31),(.int .i64 n32),(.str s8),v24,v25,v26] st30 (fun (v27:TV) (st31:St)=>need (isPtr (.box r 0)) (need (isPtr (.box r 0)) (need (List.all [v27] Ap) (stB st31 (Ag (.box r 0) 26) [v27] (fun (st32:St)=>need (isPtr (.box r 0)) (need (isPtr (.box r 0)) (Af (Ab st32 [] (.t (Ag (.box r 0) 14)) 0) (fun (x35:TV)=>Ah (.int .i64) x35 (fun (n33:Int)=>need (isPtr (.box r 0)) (need (isPtr (.box r 0)) (stB st32 (Ag (.box r 0) 14) [(.int .i64 (i64.wrap (n33+(1:Int))))] (fun (st33:St)=>K st33))))))))))))))))))))))))))))))))))))) (need (isPtr (.box r 0)) (need (isPtr (.box r 0)) (Af (Ab st6 [] (.t (Ag (.box r 0) 26)) 0) (fun (v28:TV)=>AF 118 15 192 v28 1 [(.int .i64 (2:Int)),(.str ([]:B8)),(.int .i64 (0:Int)),(.bool false),(.bool false),(.str ([]:B8)),(.int .i64 (0:Int)),(.int .i64 (0:Int)),(.int .i64 (0:Int)),(.int .i64 (0:Int)),(.int .i64 (0:Int)),(.str ([]:B8)),.nilSlice,.nilSlice,.nilSlice] st6 (fun (v29:TV) (st34:St)=>need (isPtr (.box r 0)) (need (isPtr (.box r 0)) (need (List.all [v29] Ap) (stB st34 (Ag (.box r 0) 26) [v29] (fun (st35:St)=>need (isPtr (.box r 0)) (need (isPtr (.box r 0)) (need (isPtr (Ag (.box r 0) 1)) (Af (Ab st35 [] (.t (Ag (Ag (.box r 0) 1) 2)) 0) (fun (x37:TV)=>Ah (.bool) x37 (fun (b13:Bool)=>BIf b13 (need (isPtr (.box r 0)) (need (isPtr (.box r 0)) (Af (Ab st35 [] (.t (Ag (.box r 0) 26)) 0) (fun (v30:TV)=>need (isPtr (.box r 0)) (need (isPtr (.box r 0)) (Af (Ab st35 [] (.t (Ag (.box r 0) 16)) 0) (fun (v31:TV)=>need (isPtr (.box r 0)) (need (isPtr (.box r 0)) (Af (Ab st35 [] (.t (Ag (.box r 0) 14)) 0) (fun (x40:TV)=>Ah (.int .i64) x40 (fun (n34:Int)=>((0<=n34/\n34<(lenZ 1 v31:Int))/\Af (Ab st35 [] (.t (ixT 1 v31 (Int.toNat n34))) 0) (fun (x41:TV)=>Ah (.str) x41 (fun (s9:B8)=>AF 118 15 192 v30 1 [(.int .i64 (6:Int)),(.str s9),(.int .i64 (0:Int)),(.bool false),(.bool false),(.str ([]:B8)),(.int .i64 (0:Int)),(.int .i64 (0:Int)),(.int .i64 (0:Int)),(.int .i64 (0:Int)),(.int .i64 (0:Int)),(.str ([]:B8)),.nilSlice,.nilSlice,.nilSlice] st35 (fun (v32:TV) (st36:St)=>need (isPtr (.box r 0)) (need (isPtr (.box r 0)) (need (List.all [v32] Ap) (stB st36 (Ag (.box r 0) 26) [v32] (fun (st37:St)=>need (isPtr (.box r 0)) (need (isPtr (.box r 0)) (Af (Ab st37 [] (.t (Ag (.box r 0) 26)) 0) (fun (v33:TV)=>need (isPtr (.box r 0)) (need (isPtr (.box r 0)) (Af ((Aj st37 [] (.t (Ag (.box r 0) 1)) 0 4).map TV.agg) (fun (x43:TV)=>AU [.int .u8,.int .u8,.bool,.bool] x43 (fun (n35:Int) (n36:Int) (b14:Bool) (b15:Bool)=>Ae PR AE [(.str t),(.bool qd),(.agg [(.int .u8 n35),(.int .u8 n36),(.bool b14),(.bool b15)])] [.agg [.int .i64,.bool,.bool,.str,.int .i64,.int .i64,.int .i64,.int .i64,.int .i64,.str,.tv,.tv,.tv]] st37 (fun (n37:Int) (b16:Bool) (b17:Bool) (s10:B8) (n38:Int) (n39:Int) (n40:Int) (n41:Int) (n42:Int) (s11:B8) (v34:TV) (v35:TV) (v36:TV) (st38:St)=>(Ab st38 [] (.t (Ag (.box r 0) 26)) 0=some v33/\need (List.all [(.int .i64 (1:Int)),(.str ([]:B8)),(.int .i64 n37),(.bool b16),(.bool b17),(.str s10),(.int .i64 n38),(.int .i64 n39),(.int .i64 n40),(.int .i64 n41),(.int .i64 n42),(.str s11),v34,v35,v36] Ap) (AF 118 15 192 v33 1 [(.int .i64 (1:Int)),(.str ([]:B8)),(.int .i64 n37),(.bool b16),(.bool b17),(.str s10),(.int .i64 n38),(.int .i64 n39),(.int .i64 n40),(.int .i64 n41),(.int .i64 n42),(.str s11),v34,v35,v36] st38 (fun (v37:TV) (st39:St)=>need (isPtr (.box r 0)) (need (isPtr (.box r 0)) (need (List.all [v37] Ap) (stB st39 (Ag (.box r 0) 26) [v37] (fun (st40:St)=>need (isPtr (.box r 0)) (need (isPtr (.box r 0)) (Af (Ab st40 [] (.t (Ag (.box r 0) 14)) 0) (fun (x44:TV)=>Ah (.int .i64) x44 (fun (n43:Int)=>need (isPtr (.box r 0)) (need (isPtr (.box r 0)) (stB st40 (Ag (.box r 0) 14) [(.int .i64 (i64.wrap (n43+(1:Int))))] (fun (st41:St)=>K st41))))))))))))))))))))))))))))))))))))))))) (need (isPtr (.box r 0)) (need (isPtr (.box r 0)) (Af (Ab st35 [] (.t (Ag (.box r 0) 26)) 0) (fun (v38:TV)=>need (isPtr (.box r 0)) (need (isPtr (.box r 0)) (Af ((Aj st35 [] (.t (Ag (.box r 0) 1)) 0 4).map TV.agg) (fun (x46:TV)=>AU [.int .u8,.int .u8,.bool,.bool] x46 (fun (n44:Int) (n45:Int) (b18:Bool) (b19:Bool)=>Ae PR AE [(.str t),(.bool qd),(.agg [(.int .u8 n44),(.int .u8 n45),(.bool b18),(.bool b19)])] [.agg [.int .i64,.bool,.bool,.str,.int .i64,.int .i64,.int .i64,.int .i64,.int .i64,.str,.tv,.tv,.tv]] st35 (fun (n46:Int) (b20:Bool) (b21:Bool) (s12:B8) (n47:Int) (n48:Int) (n49:Int) (n50:Int) (n51:Int) (s13:B8) (v39:TV) (v40:TV) (v41:TV) (st42:St)=>(Ab st42 [] (.t (Ag (.box r 0) 26)) 0=some v38/\need (List.all [(.int .i64 (1:Int)),(.str ([]:B8)),(.int .i64 n46),(.bool b20),(.bool b21),(.str s12),(.int .i64 n47),(.int .i64 n48),(.int .i64 n49),(.int .i64 n50),(.int .i64 n51),(.str s13),v39,v40,v41] Ap) (AF 118 15 192 v38 1 [(.int .i64 (1:Int)),(.str ([]:B8)),(.int .i64 n46),(.bool b20),(.bool b21),(.str s12),(.int .i64 n47),(.int .i64 n48),(.int .i64 n49),(.int .i64 n50),(.int .i64 n51),(.str s13),v39,v40,v41] st42 (fun (v42:TV) (st43:St)=>need (isPtr (.box r 0)) (need (isPtr (.box r 0)) (need (List.all [v42] Ap) (stB st43 (Ag (.box r 0) 26) [v42] (fun (st44:St)=>need (isPtr (.box r 0)) (need (isPtr (.box r 0)) (Af (Ab st44 [] (.t (Ag (.box r 0) 14)) 0) (fun (x47:TV)=>Ah (.int .i64) x47 (fun (n52:Int)=>need (isPtr (.box r 0)) (need (isPtr (.box r 0)) (stB st44 (Ag (.box r 0) 14) [(.int .i64 (i64.wrap (n52+(1:Int))))] (fun (st45:St)=>K st45))))))))))))))))))))))))))))))))))))))))))) (need (isPtr (.box r 0)) (need (isPtr (.box r 0)) (need (isPtr (Ag (.box r 0) 1)) (Af (Ab st6 [] (.t (Ag (Ag (.box r 0) 1) 2)) 0) (fun (x48:TV)=>Ah (.bool) x48 (fun (b22:Bool)=>BIf b22 (need (isPtr (.box r 0)) (need (isPtr (.box r 0)) (Af (Ab st6 [] (.t (Ag (.box r 0) 26)) 0) (fun (v43:TV)=>need (isPtr (.box r 0)) (need (isPtr (.box r 0)) (Af (Ab st6 [] (.t (Ag (.box r 0) 16)) 0) (fun (v44:TV)=>need (isPtr (.box r 0)) (need (isPtr (.box r 0)) (Af (Ab st6 [] (.t (Ag (.box r 0) 14)) 0) (fun (x51:TV)=>Ah (.int .i64) x51 (fun (n53:Int)=>((0<=n53/\n53<(lenZ 1 v44:Int))/\Af (Ab st6 [] (.t (ixT 1 v44 (Int.toNat n53))) 0) (fun (x52:TV)=>Ah (.str) x52 (fun (s14:B8)=>AF 118 15 192 v43 1 [(.int .i64 (6:Int)),(.str s14),(.int .i64 (0:Int)),(.bool false),(.bool false),(.str ([]:B8)),(.int .i64 (0:Int)),(.int .i64 (0:Int)),(.int .i64 (0:Int)),(.int .i64 (0:Int)),(.int .i64 (0:Int)),(.str ([]:B8)),.nilSlice,.nilSlice,.nilSlice] st6 (fun (v45:TV) (st46:St)=>need (isPtr (.box r 0)) (need (isPtr (.box r 0)) (need (List.all [v45] Ap) (stB st46 (Ag (.box r 0) 26) [v45] (fun (st47:St)=>need (isPtr (.box r 0)) (need (isPtr (.box r 0)) (Af (Ab st47 [] (.t (Ag (.box r 0) 26)) 0) (fun (v46:TV)=>need (isPtr (.box r 0)) (need (isPtr (.box r 0)) (Af ((Aj st47 [] (.t (Ag (.box r 0) 1)) 0 4).map TV.agg) (fun (x54:TV)=>AU [.int .u8,.int .u8,.bool,.bool] x54 (fun (n54:Int) (n55:Int) (b23:Bool) (b24:Bool)=>Ae PR AE [(.str t),(.bool qd),(.agg [(.int .u8 n54),(.int .u8 n55),(.bool b23),(.bool b24)])] [.agg [.int .i64,.bool,.bool,.str,.int .i64,.int .i64,.int .i64,.int .i64,.int .i64,.str,.tv,.tv,.tv]] st47 (fun (n56:Int) (b25:Bool) (b26:Bool) (s15:B8) (n57:Int) (n58:Int) (n59:Int) (n60:Int) (n61:Int) (s16:B8) (v47:TV) (v48:TV) (v49:TV) (st48:St)=>(Ab st48 [] (.t (Ag (.box r 0) 26)) 0=some v46/\need (List.all [(.int .i64 (1:Int)),(.str ([]:B8)),(.int .i64 n56),(.bool b25),(.bool b26),(.str s15),(.int .i64 n57),(.int .i64 n58),(.int .i64 n59),(.int .i64 n60),(.int .i64 n61),(.str s16),v47,v48,v49] Ap) (AF 118 15 192 v46 1 [(.int .i64 (1:Int)),(.str ([]:B8)),(.int .i64 n56),(.bool b25),(.bool b26),(.str s15),(.int .i64 n57),(.int .i64 n58),(.int .i64 n59),(.int .i64 n60),(.int .i64 n61),(.str s16),v47,v48,v49] st48 (fun (v50:TV) (st49:St)=>need (isPtr (.box r 0)) (need (isPtr (.box r 0)) (need (List.all [v50] Ap) (stB st49 (Ag (.box r 0) 26) [v50] (fun (st50:St)=>need (isPtr (.box r 0)) (need (isPtr (.box r 0)) (Af (Ab st50 [] (.t (Ag (.box r 0) 14)) 0) (fun (x55:TV)=>Ah (.int .i64) x55 (fun (n62:Int)=>need (isPtr (.box r 0)) (need (isPtr (.box r 0)) (stB st50 (Ag (.box r 0) 14) [(.int .i64 (i64.wrap (n62+(1:Int))))] (fun (st51:St)=>K st51))))))))))))))))))))))))))))))))))))))))) (need (isPtr (.box r 0)) (need (isPtr (.box r 0)) (Af (Ab st6 [] (.t (Ag (.box r 0) 26)) 0) (fun (v51:TV)=>need (isPtr (.box r 0)) (need (isPtr (.box r 0)) (Af ((Aj st6 [] (.t (Ag (.box r 0) 1)) 0 4).map TV.agg) (fun (x57:TV)=>AU [.int .u8,.int .u8,.bool,.bool] x57 (fun (n63:Int) (n64:Int) (b27:Bool) (b28:Bool)=>Ae PR AE [(.str t),(.bool qd),(.agg [(.int .u8 n63),(.int .u8 n64),(.bool b27),(.bool b28)])] [.agg [.int .i64,.bool,.bool,.str,.int .i64,.int .i64,.int .i64,.int .i64,.int .i64,.str,.tv,.tv,.tv]] st6 (fun (n65:Int) (b29:Bool) (b30:Bool) (s17:B8) (n66:Int) (n67:Int) (n68:Int) (n69:Int) (n70:Int) (s18:B8) (v52:TV) (v53:TV) (v54:TV) (st52:St)=>(Ab st52 [] (.t (Ag (.box r 0) 26)) 0=some v51/\need (List.all [(.int .i64 (1:Int)),(.str ([]:B8)),(.int .i64 n65),(.bool b29),(.bool b30),(.str s17),(.int .i64 n66),(.int .i64 n67),(.int .i64 n68),(.int .i64 n69),(.int .i64 n70),(.str s18),v52,v53,v54] Ap) (AF 118 15 192 v51 1 [(.int .i64 (1:Int)),(.str ([]:B8)),(.int .i64 n65),(.bool b29),(.bool b30),(.str s17),(.int .i64 n66),(.int .i64 n67),(.int .i64 n68),(.int .i64 n69),(.int .i64 n70),(.str s18),v52,v53,v54] st52 (fun (v55:TV) (st53:St)=>need (isPtr (.box r 0)) (need (isPtr (.box r 0)) (need (List.all [v55] Ap) (stB st53 (Ag (.box r 0) 26) [v55] (fun (st54:St)=>need (isPtr (.box r 0)) (need (isPtr (.box r 0)) (Af (Ab st54 [] (.t (Ag (.box r 0) 14)) 0) (fun (x58:TV)=>Ah (.int .i64) x58 (fun (n71:Int)=>need (isPtr (.box r 0)) (need (isPtr (.box r 0)) (stB st54 (Ag (.box r 0) 14) [(.int .i64 (i64.wrap (n71+(1:Int))))] (fun (st55:St)=>K st55))))))))))))))))))))))))))))))))))))):=by
 have hh0:A.held.length<=100000000:=by rw[hh];exact Nat.zero_le _
 unfold Ls at hk
 refine Hk h (Au (fun g=>?_) fun g=>?_)
 ·rw[if_pos g]at hk
  refine Ac (fun g2=>?_) fun g2=>?_
  ·rw[if_pos (by omega)]at hk
   obtain⟨e1,e2⟩:=RM A A.frm 10
   refine Aa rfl (Aa rfl (h.ld (k:=20) (x:= .int .i64 A.frm) (fun _ _=>rfl) (Ao (B6 h hh0 fun st1 I1 h1 f1=>?_))))
   refine NG h1 (by rw[e1];exact hnl) (by rw[e2];exact hc) fun st2 I2 h2 f2=>hk st2 I2 ?_ (f1.trans f2)
   rw[e1,e2]at h2;exact h2
  ·rw[if_neg (by omega)]at hk
   obtain⟨es,v,q1,q2,q3,q4,hA⟩:=h.nameK hnl (t:=t)
   have hf:=q3 t
   refine Aa rfl (Aa rfl (Ad q1 (Ad (x:=es) (by simp only[GN,q2]) ?_)))
   by_cases hm:t∈A.names
   ·rw[if_pos hm]at hf hk
    rw[hf]
    obtain⟨e1,e2⟩:=RM A A.frm 8
    refine show Ah .bool (.bool true) _ from Aq (Au (fun _=>?_) fun g=>by cases g)
    refine Aa rfl (Aa rfl (h.ld (k:=20) (x:= .int .i64 A.frm) (fun _ _=>rfl) (Ao (B6 h hh0 fun st1 I1 h1 f1=>?_))))
    refine NG h1 (by rw[e1];exact hnl) (by rw[e2];exact hc) fun st2 I2 h2 f2=>hk st2 I2 ?_ (f1.trans f2)
    rw[e1,e2]at h2;exact h2
   ·rw[if_neg hm]at hf hk
    rw[hf]
    refine show Ah .bool (.bool false) _ from Aq (Au (fun g=>by cases g) fun _=>?_)
    exact NG h hnl hc hk
 ·rw[if_neg (by rw[g];decide)]at hk
  refine Ac (fun g2=>?_) fun g2=>?_
  ·rw[if_pos (by omega)]at hk
   exact Aa rfl (Aa rfl (h.ld (k:=20) (x:= .int .i64 A.frm) (fun _ _=>rfl) (Ao (B6 h hh0 hk))))
  ·rw[if_neg (by omega)]at hk
   refine Aa rfl (Aa rfl (h.ld (k:=14) (x:= .int .i64 (A.cells:Int)) (fun _ _=>rfl) (Ao (Ac (fun g3=>?_) fun g3=>?_))))
   ·have g3':A.cells=0:=by omega
    rw[if_pos g3']at hk
    refine Aa rfl (Aa rfl (Aa rfl (h.ld (k:=3) (x:= .bool c.hd) (fun _ _=>rfl) (Aq (Au (fun g4=>?_) fun g4=>?_)))))
    ·rw[if_pos g4]at hk
     obtain⟨v,q1,hA⟩:=h.outK (by omega) (evs:=[Ev.ms]) (by simp)
     refine Aa rfl (Aa rfl (Ad q1 (hA _ (fun v' st9 o1 hst=>?_) _)))
     refine Aa rfl (Aa rfl (Aa (by rw[List.all_cons,o1];rfl) (hst _ fun st10 I' h10 f10=>?_)))
     refine ND h10 (by show(A.out++[_]).length<=_;simp only[List.length_append,List.length_singleton];omega) hc ht (fun _=>hn g4 g) fun st11 I2 h11 f11=>hk st11 I2 ?_ (f10.trans f11)
     rw[<-List.append_assoc,if_pos g4]
     rw[if_pos g4]at h11
     exact h11
    ·rw[if_neg (by rw[g4];decide)]at hk
     obtain⟨v,q1,hA⟩:=h.outK (by omega) (evs:=[Ev.ls]) (by simp)
     refine Aa rfl (Aa rfl (Ad q1 (hA _ (fun v' st9 o1 hst=>?_) _)))
     refine Aa rfl (Aa rfl (Aa (by rw[List.all_cons,o1];rfl) (hst _ fun st10 I' h10 f10=>?_)))
     refine ND h10 (by show(A.out++[_]).length<=_;simp only[List.length_append,List.length_singleton];omega) hc ht (fun g5=>by rw[g4]at g5;cases g5) fun st11 I2 h11 f11=>hk st11 I2 ?_ (f10.trans f11)
     rw[<-List.append_assoc]
     exact h11
   ·have g3':¬A.cells=0:=by omega
    rw[if_neg g3',List.nil_append]at hk
    exact ND h (by omega) hc ht (fun g4=>hn g4 g) hk
end
end
section
section
variable {c:SC} {X:RX} {A:RA} {r w m:Nat} {I:List Nat} {st:St}
structure Sm (c:SC) (A:RA):Prop where
 hl:A.held.length<=1000000
 ol:A.out.length<=80000000
 cl:A.cells<=90000000
 nl:A.names.length<=90000000
 rl:A.rows<=90000000
 n0:0<=A.nodes
 n1:A.nodes<=90000000
 win:c.win<=100000000
theorem R1 (h:RB c X A r w m I st) (s:Sm c A) (hw:Jg c.q A.held) {K:St->Prop} (hn:c.hd=true->AR c A=false->A.late=0->A.cells<A.names.length)
  (hk:∀st' I',RB c X (AW c A) r w m I' st'->FrB r w m I I' st st'->K st'):Ae PR Az [.box r 0] [] st K:=by
 have hhl:=s.hl
 have hol:=s.ol
 have hcl:=s.cl
 have hnl:=s.nl
 refine Fx r st K (Ad h.win (Ad h.win (Ma h ⟨h.win,JJ h (by omega) fun st2 I2 h2 f2=>⟨h2.win,h2.ld (k:=22) (x:= .int .i64 A.late) (fun _ _=>rfl) (Ao (Ac (fun g=>?_) fun g=>?_))⟩⟩)))
 ·have e:AW c A=Bc {A with held:=[]} A.frm A.late:=by unfold AW;rw[if_pos g]
  rw[e]at hk
  exact h2.ld (k:=20) (x:= .int .i64 A.frm) (fun _ _=>rfl) (Ao (h2.ld (k:=22) (x:= .int .i64 A.late) (fun _ _=>rfl) (Ao (B6 h2 (Nat.zero_le _) fun st3 I3 h3 f3=>hk st3 I3 h3 (f2.trans f3)))))
 rw[JC c A g]at hk
 have htl:(txt c.q A.held).length<=1000000:=Nat.le_trans (TQ _ _) hhl
 have tl:∀{st3:St},RB c X {A with held:=[]} r w m I2 st3->FrB r w m I I2 st st3->∀st' I',RB c X (Ls c {A with held:=[]} (txt c.q A.held) (Bd c.q A.held)) r w m I' st'->FrB r w m I2 I' st3 st'->K st':=fun h3 f3 st' I' h' f'=>hk st' I' h' (f3.trans f')
 have g0:A.late=0:=by omega
 refine Ac (fun g1=>?_) fun g1=>?_
 ·refine⟨⟨by omega,?_⟩,h2.ld (k:=2) (x:= .int .u8 c.q) (fun _ _=>rfl) (Ao ⟨fun s1 r1 q1 st5=>s1=txt c.q A.held/\r1= .box r 0/\q1=Bd c.q A.held/\st5=st2,Ac (fun g2=>?_) fun g2=>?_,?_⟩)⟩
  ·cases hc:A.held with
   | nil=>exact absurd hc g1
   | cons b l=>simp
  ·have g2':by_ A.held 0=c.q:=g2
   rcases hw with hw | hw | ⟨b,t,hb,hw⟩
   ·exact absurd hw g1
   ·exact absurd g2' hw
   have e1:txt c.q A.held=t:=by rw[hw];exact Mz hb
   have e2:decide (((List.getD A.held (Int.toNat (0:Int)) 0).toNat:Int)=c.q)=Bd c.q A.held:=by
    unfold Bd
    rw[decide_eq_true g2,decide_eq_true]
    exact fun hh=>hh.elim g1 fun hh=>hh g2'
   rw[e2]
   have htb:toBytes st2 (.list 1 .full 1 [.int .u8 c.q])=some [b]:=by
    have:UInt8.ofNat c.q.toNat=b:=by rw[<-hb];simp
    rw[<-this];rfl
   have hlen:A.held.length=(dbl b t).length+2:=by rw[hw];simp
   have hw64:i64.wrap ((A.held.length:Int)-1)=(((dbl b t).length+1:Nat):Int):=by
    rw[hlen,As _ (by omega) (by omega)];omega
   refine h2.ld (k:=2) (x:= .int .u8 c.q) (fun _ _=>rfl) (Ao ?_)
   rw[htb]
   refine Ad rfl (show Ah .str (.str [b]) _ from⟨⟨by omega,by rw[hw64];omega,by rw[hw64,hlen];omega⟩,by simp,?_⟩)
   rw[hw64]
   have hin:List.drop (Int.toNat 1) (List.take (Int.toNat (((dbl b t).length+1:Nat):Int)) A.held)=dbl b t:=by
    rw[hw];simp
   rw[hin]
   exact Lq rfl (by omega) ⟨e1.symm,rfl,rfl,rfl⟩
  ·have g2':by_ A.held 0≠c.q:=g2
   refine⟨?_,rfl,?_,rfl⟩
   ·unfold txt;rw[if_pos (.inr g2')]
   ·unfold Bd
    rw[decide_eq_false g2,decide_eq_false]
    exact fun hh=>hh (.inr g2')
  ·rintro s1 r1 q1 st5 ⟨rfl,rfl,rfl,rfl⟩
   exact RV h2 rfl hol (by show A.cells<=_;omega) (by show A.names.length<=_;omega) htl (fun x y=>hn x y g0) (tl h2 f2)
 ·have g1':A.held=[]:=by
   by_cases hc:A.held=[]
   ·exact hc
   ·exact absurd hc g1
  refine⟨fun s1 r1 q1 st5=>s1=txt c.q A.held/\r1= .box r 0/\q1=Bd c.q A.held/\st5=st2,⟨?_,rfl,?_,rfl⟩,?_⟩
  ·unfold txt;rw[if_pos (.inl g1')]
  ·unfold Bd
   rw[decide_eq_false]
   exact fun hh=>hh (.inl g1')
  ·rintro s1 r1 q1 st5 ⟨rfl,rfl,rfl,rfl⟩
   exact RV h2 rfl hol (by show A.cells<=_;omega) (by show A.names.length<=_;omega) htl (fun x y=>hn x y g0) (tl h2 f2)
end
end
section
structure Sz (k:Nat) (A:RA):Prop where
 hl:A.held.length<=k
 ol:A.out.length<=4*k
 cl:A.cells<=k
 nl:A.names.length<=k
 rl:A.rows<=k
 n0:0<=A.nodes
 n1:A.nodes<=2*k+1
variable {c:SC} {A:RA} {k:Nat}
theorem Sz.mono {j:Nat} (h:Sz k A) (hj:k<=j):Sz j A:=
 ⟨Nat.le_trans h.hl hj,Nat.le_trans h.ol (by omega),Nat.le_trans h.cl hj,Nat.le_trans h.nl hj,Nat.le_trans h.rl hj,h.n0,by have:=h.n1;omega⟩
theorem Sz.fail (h:Sz k A) (o e:Int):Sz k (Bc A o e):=by
 unfold Bc
 split<;>exact⟨Nat.zero_le _,h.ol,h.cl,h.nl,h.rl,h.n0,h.n1⟩
theorem Sz.empty (h:Sz k A):Sz k {A with held:=[]}:=⟨Nat.zero_le _,h.ol,h.cl,h.nl,h.rl,h.n0,h.n1⟩
theorem Sz.hold (h:Sz k A) (b:UInt8):Sz (k+1) (Cj c b A):=by
 unfold Cj
 split
 ·exact(h.fail _ _).mono (by omega)
 ·have:=h.hl
  have:=h.mono (show k<=k+1 by omega)
  exact⟨by show(A.held++[b]).length<=_;simp only[List.length_append,List.length_singleton];omega,this.ol,this.cl,this.nl,this.rl,this.n0,this.n1⟩
theorem Jp (A:RA) (e:Int):(BE A e).nodes=A.nodes:=(Dv A e).2.2.2.2
theorem Lz (c:SC) (A:RA) (d:Int):(Bz c A d).nodes=A.nodes+1:=by
 unfold Bz ER
 split
 ·show(BE A 9).nodes+1=_;rw[Jp]
 ·split
  ·show(BE A 10).nodes+1=_;rw[Jp]
  ·rfl
theorem Rt (c:SC) (A:RA) (o:Int):A.nodes<=(AJ c A o).nodes/\(AJ c A o).nodes<=A.nodes+2:=by
 have e1:A.nodes<=(AI c A o).nodes/\(AI c A o).nodes<=A.nodes+1:=by
  unfold AI
  split
  ·exact⟨Int.le_refl _,by show A.nodes<=_;omega⟩
  split
  ·exact⟨Int.le_refl _,by show A.nodes<=_;omega⟩
  ·rw[Lz];exact⟨by show A.nodes<=A.nodes+1;omega,Int.le_refl _⟩
 have e2:(Cd (AI c A o)).nodes=(AI c A o).nodes:=by
  unfold Cd
  split
  ·exact Jp _ _
  ·rfl
 unfold AJ Dx
 split
 ·rw[e2];exact⟨e1.1,by omega⟩
 ·rw[Lz,e2];exact⟨by omega,by omega⟩
theorem Sz.enter (h:Sz k A) (o:Int):Sz (k+1) (AJ c A o):=by
 obtain⟨hS,hf,hw,hc⟩:=B5 c A o
 obtain⟨n1,n2⟩:=Rt c A o
 have g:=h.mono (show k<=k+1 by omega)
 have h1:=h.n1
 have h0:=h.n0
 refine⟨by rw[hS.held];exact g.hl,by rw[hS.out];exact g.ol,?_,by rw[hS.names];exact g.nl,by rw[hS.rows];exact g.rl,by omega,by omega⟩
 rw[hc]
 split
 ·exact g.cl
 ·exact Nat.zero_le _
theorem Sz.cell (h:Sz k A):Sz (k+1) (AW c A):=by
 have g:=h.empty.mono (show k<=k+1 by omega)
 have nb:∀{B:RA},Sz k B->∀t:B8,Sz (k+1) {B with names:=A.names++[t],cells:=A.cells+1}:=fun {B} hB t=>by
  have hB:=hB.mono (show k<=k+1 by omega)
  have h1:=h.nl
  have h2:=h.cl
  exact⟨hB.hl,hB.ol,by show A.cells+1<=_;omega,by show(A.names++[t]).length<=_;simp only[List.length_append,List.length_singleton];omega,hB.rl,hB.n0,hB.n1⟩
 unfold AW
 split
 ·exact g.fail _ _
 split
 ·refine nb (?_:Sz k _) _
  split
  ·exact h.empty.fail _ _
  split
  ·exact h.empty.fail _ _
  ·exact h.empty
 split
 ·exact g.fail _ _
 ·have h1:=h.ol
  have h2:=h.cl
  refine⟨g.hl,?_,by show A.cells+1<=_;omega,g.nl,g.rl,g.n0,g.n1⟩
  show(A.out++_).length<=_
  simp only[List.length_append]
  split<;>split<;>simp<;>omega
theorem Sz.wid (h:Sz k A):Sz k (Cf A):=by
 unfold Cf
 split
 ·exact⟨h.hl,h.ol,h.cl,h.nl,h.rl,h.n0,h.n1⟩
 ·exact h
theorem Sz.record (h:Sz k A) (o:Int):Sz (k+1) (AH c A o):=by
 have g:=h.mono (show k<=k+1 by omega)
 unfold AH
 split
 ·exact g
 have hw:=h.wid
 have gw:=hw.mono (show k<=k+1 by omega)
 unfold Cp
 split
 ·exact gw.fail _ _
 ·have h1:=hw.ol
  have h2:=hw.rl
  refine⟨gw.hl,?_,gw.cl,gw.nl,by show(Cf A).rows+1<=_;omega,gw.n0,gw.n1⟩
  show((Cf A).out++_).length<=_
  simp only[List.length_append]
  split<;>simp<;>omega
theorem Sz.late (h:Sz k A) (o e:Int):Sz k (EW A o e):=by
 unfold EW
 split
 ·exact(h.fail _ _).fail _ _
 ·exact h.fail _ _
theorem Sz.ph (h:Sz k A) (p:Nat):Sz k {A with ph:=p}:=⟨h.hl,h.ol,h.cl,h.nl,h.rl,h.n0,h.n1⟩
theorem Sz.after (h:Sz k A) (b:UInt8) (o:Int):Sz (k+2) (CI c b o A):=by
 have hc:=(Sz.cell (c:=c) h).mono (show k+1<=k+2 by omega)
 unfold CI
 split
 ·exact hc
 split
 ·exact hc.ph _
 split
 ·exact Sz.record (Sz.cell h) o
 split
 ·exact⟨hc.hl,hc.ol,hc.cl,hc.nl,hc.rl,hc.n0,hc.n1⟩
 ·exact hc.fail _ _
theorem Sz.plain (h:Sz k A) (b:UInt8) (o:Int):Sz (k+2) (Cr c b o A):=by
 unfold Cr
 split
 ·exact h.after b o
 split
 ·exact(h.late o 3).mono (by omega)
 ·exact(h.hold b).mono (by omega)
theorem Sz.next (h:Sz k A) (b:UInt8) (o:Int):Sz (k+3) (Bh c b o A):=by
 unfold Bh
 split
 ·split
  ·exact(((h.enter o).ph 2).hold b).mono (by omega)
  ·exact((h.enter o).ph 1).plain b o
 split
 ·exact(h.plain b o).mono (by omega)
 split
 ·split
  ·exact((h.ph 3).hold b).mono (by omega)
  ·exact(h.hold b).mono (by omega)
 split
 ·split
  ·exact((h.ph 2).hold b).mono (by omega)
  ·exact(h.after b o).mono (by omega)
 split
 ·exact(h.fail _ _).mono (by omega)
 ·exact(h.record _).mono (by omega)
end
section
def nmP (c:SC) (A:RA):Prop:=c.hd=true->(A.rows=0->A.names.length=if A.within=true then A.cells else 0)/\(0<A.rows->A.width=A.names.length)
def cwP (A:RA):Prop:=A.late=0->0<A.rows->A.cells<A.width
def HeldW (q:Int) (ph:Nat) (held:B8):Prop:=
 (ph=0∨ph=4->held=[])/\(ph=1->held=[]∨by_ held 0≠q)/\(ph=2->∃(b:UInt8) (t:B8),(b.toNat:Int)=q/\held=b::dbl b t)/\(ph=3->∃(b:UInt8) (t:B8),(b.toNat:Int)=q/\held=b::(dbl b t++[b]))
structure W (c:SC) (A:RA):Prop where
 ph:A.ph<=4
 wi:A.ph≠0->A.within=true
 held:HeldW c.q A.ph A.held
 nm:nmP c A
 cw:A.ph≠0->A.ph≠4->cwP A
variable {c:SC} {A:RA}
theorem W.start (c:SC):W c RA.start:=⟨by decide,fun h=>absurd rfl h,⟨fun _=>rfl,fun h=>(by cases h),fun h=>(by cases h),fun h=>(by cases h)⟩,fun _=>⟨fun _=>rfl,fun h=>(by cases h)⟩,fun h=>absurd rfl h⟩
theorem OU {e:Int} (he:e≠0) (A:RA):(BE A e).late≠0:=by
 unfold BE
 split
 ·exact he
 ·assumption
theorem Nf (h:A.late≠0) (e:Int):(BE A e).late≠0:=by
 unfold BE
 rw[if_neg h];exact h
theorem S4 (h:A.late≠0) (d:Int):(Bz c A d).late≠0:=by
 unfold Bz ER
 split
 ·exact Nf h _
 split
 ·exact Nf h _
 ·exact h
theorem Nz (c:SC) (A:RA) (o:Int):cwP (AJ c A o):=by
 intro hl hr
 obtain⟨hS,hf,hw,hc⟩:=B5 c A o
 obtain⟨h1S,h1f,h1w,h1c⟩:=Il c A o
 rw[hS.rows]at hr
 rw[hc,hS.width]
 rw[<-h1c,<-h1S.width]
 by_cases h:(AI c A o).width<=(AI c A o).cells
 ·exfalso
  have e:Cd (AI c A o)=BE (AI c A o) 10:=if_pos ⟨by rw[h1S.rows];exact hr,h⟩
  unfold AJ Dx at hl
  rw[e]at hl
  split at hl
  ·exact OU (by decide) _ hl
  ·exact S4 (OU (by decide) _) _ hl
 ·omega
theorem Ny (h:nmP c A) (o:Int):nmP c (AJ c A o):=by
 intro hd
 obtain⟨hS,hf,hw,hc⟩:=B5 c A o
 obtain⟨n1,n2⟩:=h hd
 rw[hS.rows,hS.names,hS.width,hw,hc]
 refine⟨fun hr=>?_,n2⟩
 rw[n1 hr,if_pos rfl]
theorem Tu (he:A.err=0) (h:(AW c A).err=0):A.late=0/\AW c A=if AR c A=true then {A with held:=[],names:=A.names++[txt c.q A.held],cells:=A.cells+1} else {A with held:=[],cells:=A.cells+1,out:=A.out++evC c A.names A.cells A.held}:=by
 have hl:A.late=0:=by
  by_cases hl:A.late=0
  ·exact hl
  ·have:=(JD (c:=c) hl he).1
   omega
 refine⟨hl,NU he hl ?_⟩
 by_cases hT:Ey c (AR c A) A.names (txt c.q A.held)=0
 ·exact hT
 ·have:=(Pr (i:=0) (e:=0) (ph:=0) he hl hT).1
  omega
theorem cell_nm (he:A.err=0) (h:(AW c A).err=0) (hw:A.within=true) (hn:nmP c A):nmP c (AW c A)/\(AW c A).within=true/\(AW c A).held=[]:=by
 obtain⟨hl,e⟩:=Tu he h
 rw[e]
 by_cases hh:AR c A=true
 ·rw[if_pos hh]
  refine⟨fun hd=>?_,hw,rfl⟩
  obtain⟨n1,n2⟩:=hn hd
  have hr:A.rows=0:=by
   unfold AR at hh
   rw[hd,Bool.true_and]at hh
   exact of_decide_eq_true hh
  refine⟨fun _=>?_,fun h0=>?_⟩
  ·have:=n1 hr
   rw[if_pos hw]at this
   show(A.names++[_]).length=if A.within=true then A.cells+1 else 0
   rw[if_pos hw,List.length_append,this];rfl
  ·have h0:0<A.rows:=h0
   omega
 ·rw[if_neg hh]
  refine⟨fun hd=>?_,hw,rfl⟩
  obtain⟨n1,n2⟩:=hn hd
  have hr:A.rows≠0:=by
   intro hr
   apply hh
   unfold AR
   rw[hd,hr];rfl
  exact⟨fun h0=>absurd h0 hr,n2⟩
theorem Rh (he:A.err=0) {o:Int} (h:(AH c A o).err=0):¬(Cf A).cells<(Cf A).width/\AH c A o={Cf A with out:=(Cf A).out++(if AR c (Cf A)=true then []else [if c.hd then .me else .le]),rows:=(Cf A).rows+1,within:=false,ph:=0}:=by
 have e:AH c A o=Cp c (Cf A) o:=if_neg (by omega)
 have hwe:(Cf A).err=0:=by unfold Cf;split<;>exact he
 rw[e]at h⊢
 unfold Cp at h⊢
 by_cases hc:(Cf A).cells<(Cf A).width
 ·rw[if_pos hc]at h
  have:=(Br (A:=Cf A) (o:=o) (e:=10) hwe (by decide)).1
  omega
 ·rw[if_neg hc];exact⟨hc,rfl⟩
theorem Ri (he:A.err=0) {o:Int} (h:(AH c A o).err=0) (hw:A.within=true) (hh:A.held=[]) (hn:nmP c A):W c (AH c A o):=by
 obtain⟨hc,e⟩:=Rh he h
 have eh:(Cf A).held=[]:=by unfold Cf;split<;>exact hh
 rw[e]
 refine⟨by show 0<=4;decide,fun h=>absurd rfl h,⟨fun _=>eh,fun h=>(by cases h),fun h=>(by cases h),fun h=>(by cases h)⟩,fun hd=>?_,fun h=>absurd rfl h⟩
 obtain⟨n1,n2⟩:=hn hd
 refine⟨fun h0=>?_,fun _=>?_⟩
 ·cases h0
 ·show(Cf A).width=(Cf A).names.length
  unfold Cf
  split
  ·rename_i h0
   have:=n1 h0
   rw[if_pos hw]at this
   exact this.symm
  ·exact n2 (by omega)
theorem UE (he:A.err=0) {b:UInt8} {o:Int} (h:(CI c b o A).err=0) (hw:A.within=true) (hn:nmP c A):W c (CI c b o A):=by
 have hce:(AW c A).err=0:=by
  by_cases hc:(AW c A).err=0
  ·exact hc
  ·unfold CI at h
   rw[if_pos hc]at h
   exact absurd h hc
 obtain⟨k1,k2,k3⟩:=cell_nm he hce hw hn
 unfold CI at h⊢
 rw[if_neg (fun g=>g hce)]at h⊢
 split
 ·exact⟨by show 0<=4;decide,fun h=>absurd rfl h,⟨fun _=>k3,fun h=>(by cases h),fun h=>(by cases h),fun h=>(by cases h)⟩,k1,fun h=>absurd rfl h⟩
 rename_i g1
 rw[if_neg g1]at h
 split
 ·rename_i g2
  rw[if_pos g2]at h
  exact Ri hce h k2 k3 k1
 rename_i g2
 rw[if_neg g2]at h
 split
 ·exact⟨by show 4<=4;decide,fun _=>k2,⟨fun _=>k3,fun h=>(by cases h),fun h=>(by cases h),fun h=>(by cases h)⟩,k1,fun _ h=>absurd rfl h⟩
 ·rename_i g3
  rw[if_neg g3,(Br hce (by decide)).1]at h
  cases h
theorem GR {b:UInt8} (he:A.err=0) (h:(Cj c b A).err=0):Cj c b A={A with held:=A.held++[b]}:=by
 unfold Cj at h⊢
 split
 ·rename_i g
  rw[if_pos g,(Br he (by decide)).1]at h
  cases h
 ·rfl
theorem Uc (he:A.err=0) {b:UInt8} {o:Int} (h:(Cr c b o A).err=0) (hp:A.ph=1) (hw:A.within=true) (hn:nmP c A) (hc:cwP A) (hh:A.held=[]∨by_ A.held 0≠c.q):W c (Cr c b o A):=by
 unfold Cr at h⊢
 split
 ·rename_i g;rw[if_pos g]at h;exact UE he h hw hn
 rename_i g;rw[if_neg g]at h
 split
 ·rename_i g2;rw[if_pos g2]at h
  exact absurd h (OV he (by decide))
 rename_i g2;rw[if_neg g2]at h
 rw[GR he h]
 refine⟨by show A.ph<=4;omega,fun _=>hw,⟨fun h=>by have h:A.ph=0∨A.ph=4:=h;omega,fun _=> .inr ?_,fun h=>by have h:A.ph=2:=h;omega,fun h=>by have h:A.ph=3:=h;omega⟩,hn,fun _ _=>hc⟩
 show by_ (A.held++[b]) 0≠c.q
 rcases hh with hh | hh
 ·rw[hh];exact g2
 ·cases hd:A.held with
  | nil=>exact g2
  | cons x l=>rw[hd]at hh;exact hh
theorem R2 (b:UInt8) (t:B8) (x:UInt8):dbl b (t++[x])=dbl b t++(if x=b then [b,b]else [x]):=by
 unfold dbl
 rw[List.flatMap_append]
 simp[VV]
theorem next_W (hW:W c A) (he:A.err=0) {b:UInt8} {o:Int} (h:(Bh c b o A).err=0):W c (Bh c b o A):=by
 have hp:=hW.ph
 unfold Bh at h⊢
 by_cases p0:A.ph=0
 ·rw[if_pos p0]at h⊢
  obtain⟨hS,hf,hw,hc⟩:=B5 c A o
  have hhe:(AJ c A o).held=[]:=hS.held.trans (hW.held.1 (.inl p0))
  have hee:(AJ c A o).err=0:=hS.err.trans he
  have hnm:=Ny hW.nm o
  have hcw:=Nz c A o
  split
  ·rename_i g;rw[if_pos g]at h
   rw[GR (A:={AJ c A o with ph:=2}) hee h]
   refine⟨by show 2<=4;decide,fun _=>hw,⟨fun h=>(by rcases h with h | h<;>cases h),fun h=>(by cases h),fun _=>⟨b,[],g,?_⟩,fun h=>(by cases h)⟩,hnm,fun _ _=>hcw⟩
   show(AJ c A o).held++[b]=_
   rw[hhe];rfl
  ·rename_i g;rw[if_neg g]at h
   exact Uc (A:={AJ c A o with ph:=1}) hee h rfl hw hnm hcw (.inl hhe)
 rw[if_neg p0]at h⊢
 have hwi:=hW.wi p0
 by_cases p1:A.ph=1
 ·rw[if_pos p1]at h⊢
  exact Uc he h p1 hwi hW.nm (hW.cw p0 (by omega)) (hW.held.2.1 p1)
 rw[if_neg p1]at h⊢
 by_cases p2:A.ph=2
 ·rw[if_pos p2]at h⊢
  obtain⟨x,t,hx,ht⟩:=hW.held.2.2.1 p2
  have hcw:=hW.cw p0 (by omega)
  split
  ·rename_i g;rw[if_pos g]at h
   have hbx:b=x:=UInt8.toNat_inj.1 (by omega)
   rw[GR (A:={A with ph:=3}) he h]
   refine⟨by show 3<=4;decide,fun _=>hwi,⟨fun h=>(by rcases h with h | h<;>cases h),fun h=>(by cases h),fun h=>(by cases h),fun _=>⟨x,t,hx,?_⟩⟩,hW.nm,fun _ _=>hcw⟩
   show A.held++[b]=_
   rw[ht,hbx];rfl
  ·rename_i g;rw[if_neg g]at h
   have hbx:b≠x:=fun e=>g (by rw[e];exact hx)
   rw[GR he h]
   refine⟨hp,fun _=>hwi,⟨fun h=>by have h:A.ph=0∨A.ph=4:=h;omega,fun h=>by have h:A.ph=1:=h;omega,fun _=>⟨x,t++[b],hx,?_⟩,fun h=>by have h:A.ph=3:=h;omega⟩,hW.nm,fun _ _=>hcw⟩
   show A.held++[b]=_
   rw[ht,R2,if_neg hbx];rfl
 rw[if_neg p2]at h⊢
 by_cases p3:A.ph=3
 ·rw[if_pos p3]at h⊢
  obtain⟨x,t,hx,ht⟩:=hW.held.2.2.2 p3
  have hcw:=hW.cw p0 (by omega)
  split
  ·rename_i g;rw[if_pos g]at h
   have hbx:b=x:=UInt8.toNat_inj.1 (by omega)
   rw[GR (A:={A with ph:=2}) he h]
   refine⟨by show 2<=4;decide,fun _=>hwi,⟨fun h=>(by rcases h with h | h<;>cases h),fun h=>(by cases h),fun _=>⟨x,t++[x],hx,?_⟩,fun h=>(by cases h)⟩,hW.nm,fun _ _=>hcw⟩
   show A.held++[b]=_
   rw[ht,hbx,R2,if_pos rfl]
   simp
  ·rename_i g;rw[if_neg g]at h
   exact UE he h hwi hW.nm
 rw[if_neg p3]at h⊢
 have p4:A.ph=4:=by omega
 split
 ·rename_i g;rw[if_pos g,(Br he (by decide)).1]at h
  cases h
 ·rename_i g;rw[if_neg g]at h
  exact Ri he h hwi (hW.held.1 (.inr p4)) hW.nm
end
section
section
variable {c:SC} {X:RX} {A:RA} {r w m k:Nat} {I:List Nat} {st:St}
theorem Sz.sm (z:Sz k A) (hk:k<=1000000) (hwin:c.win<=100000000):Sm c A:=
 ⟨Nat.le_trans z.hl hk,Nat.le_trans z.ol (by omega),Nat.le_trans z.cl (by omega),Nat.le_trans z.nl (by omega),Nat.le_trans z.rl (by omega),z.n0,by have:=z.n1;omega,hwin⟩
theorem RK (hn:nmP c A) (hc:cwP A):c.hd=true->AR c A=false->A.late=0->A.cells<A.names.length:=by
 intro hd hh hl
 have hr:0<A.rows:=by
  unfold AR at hh
  rw[hd,Bool.true_and]at hh
  have:=of_decide_eq_false hh
  omega
 rw[<-(hn hd).2 hr]
 exact hc hl hr
theorem Pl (h:RB c X A r w m I st) (z:Sz k A) (hk8:k<=900000) (hwin:c.win<=100000000) (hcw:Jg c.q A.held) (hN:c.hd=true->AR c A=false->A.late=0->A.cells<A.names.length) {b:UInt8} {C:Int} (hC:C=(b.toNat:Int)) {o:Int} {K:St->Prop}
  (hk:∀st' I',RB c X (CI c b o A) r w m I' st'->FrB r w m I I' st st'->K st'):Ae PR AM [.box r 0,.int .u8 C,.int .i64 o] [] st K:=by
 subst hC
 have zc:Sz (k+1) (AW c A):=z.cell
 have sc:Sm c (AW c A):=zc.sm (by omega) hwin
 unfold CI at hk
 refine E3 r _ o st K (R1 h (z.sm (by omega) hwin) hcw hN fun st1 I1 h1 f1=>h1.ld (k:=28) (x:= .int .i64 (AW c A).err) (fun _ _=>rfl) (Ao (Ac (fun g=>?_) fun g=>?_)))
 ·rw[if_pos g]at hk
  exact hk st1 I1 h1 f1
 rw[if_neg g]at hk
 refine h1.ld (k:=1) (x:= .int .u8 c.a) (fun _ _=>rfl) (Ao (Ac (fun g1=>?_) fun g1=>Ac (fun g2=>?_) fun g2=>Ac (fun g3=>?_) fun g3=>?_))
 ·rw[if_pos g1]at hk
  exact h1.put X {AW c A with ph:=0} (by decide) rfl rfl rfl (fun _ _=>rfl) fun st2 h2 f2=>hk st2 I1 h2 (f1.trans f2)
 ·rw[if_neg g1,if_pos g2]at hk
  have:=sc.hl
  have:=sc.ol
  have:=sc.rl
  exact Jx h1 (by omega) (by omega) (by omega) fun st2 I2 h2 f2=>hk st2 I2 h2 (f1.trans f2)
 ·rw[if_neg g1,if_neg g2,if_pos g3]at hk
  exact h1.put X {AW c A with ph:=4} (by decide) rfl rfl rfl (fun _ _=>rfl) fun st2 h2 f2=>h2.put X {AW c A with ph:=4,line:=o} (by decide) rfl rfl rfl (fun _ _=>rfl) fun st3 h3 f3=>hk st3 I1 h3 ((f1.trans f2).trans f3)
 ·rw[if_neg g1,if_neg g2,if_neg g3]at hk
  have:=sc.hl
  exact B6 h1 (by omega) fun st2 I2 h2 f2=>hk st2 I2 h2 (f1.trans f2)
theorem WO (h:RB c X A r w m I st) (hl:A.held.length<=100000000) {o e:Int} {K:St->Prop} (hk:∀st' I',RB c X (EW A o e) r w m I' st'->FrB r w m I I' st st'->K st'):
  (A.late≠0->∀(K1:St->Prop),(∀st1,(Ae PR Ai [.box r 0,.int .i64 o,.int .i64 e] [] st1 K)->K1 st1)->Ae PR Ai [.box r 0,.int .i64 A.frm,.int .i64 A.late] [] st K1)/\
  (¬A.late≠0->Ae PR Ai [.box r 0,.int .i64 o,.int .i64 e] [] st K):=by
 unfold EW at hk
 refine⟨fun g K1 hK1=>?_,fun g=>?_⟩
 ·rw[if_pos g]at hk
  refine B6 h hl fun st1 I1 h1 f1=>hK1 st1 (B6 h1 ?_ fun st2 I2 h2 f2=>hk st2 I2 h2 (f1.trans f2))
  unfold Bc
  split<;>exact Nat.zero_le _
 ·rw[if_neg g]at hk
  exact B6 h hl hk
theorem Pf (h:RB c X A r w m I st) (z:Sz k A) (hk8:k<=900000) (hwin:c.win<=100000000) (hcw:Jg c.q A.held) (hN:c.hd=true->AR c A=false->A.late=0->A.cells<A.names.length) {b:UInt8} {C:Int} (hC:C=(b.toNat:Int)) {o:Int} {K:St->Prop}
  (hk:∀st' I',RB c X (Cr c b o A) r w m I' st'->FrB r w m I I' st st'->K st'):Ae PR Be [.box r 0,.int .u8 C,.int .i64 o] [] st K:=by
 have hl:A.held.length<=100000000:=Nat.le_trans z.hl (by omega)
 subst hC
 unfold Cr at hk
 have aft:((b.toNat:Int)=c.a∨(b.toNat:Int)=10∨(b.toNat:Int)=13)->Ae PR AM [.box r 0,.int .u8 (b.toNat:Int),.int .i64 o] [] st fun (st1:St)=>K st1:=fun g=>by
  rw[if_pos g]at hk
  exact Pl h z hk8 hwin hcw hN rfl hk
 refine Eq r _ o st K (h.ld (k:=1) (x:= .int .u8 c.a) (fun _ _=>rfl) (Ao (Ac (fun g1=>Ac (fun _=>aft (.inl g1)) fun g=>absurd g1 g) fun g1=>Ac (fun g2=>Ac (fun _=>aft (.inr (.inl g2))) fun g=>absurd g2 g) fun g2=>Ac (fun g3=>aft (.inr (.inr g3))) fun g3=>?_)))
 rw[if_neg (by omega)]at hk
 refine h.ld (k:=2) (x:= .int .u8 c.q) (fun _ _=>rfl) (Ao (Ac (fun g4=>?_) fun g4=>?_))
 ·rw[if_pos g4]at hk
  obtain⟨l1,l2⟩:=WO h hl hk
  refine h.ld (k:=22) (x:= .int .i64 A.late) (fun _ _=>rfl) (Ao (Ac (fun g=>?_) fun g=>l2 g))
  exact h.ld (k:=20) (x:= .int .i64 A.frm) (fun _ _=>rfl) (Ao (h.ld (k:=22) (x:= .int .i64 A.late) (fun _ _=>rfl) (Ao (l1 g _ fun _ h=>h))))
 ·rw[if_neg g4]at hk
  exact Im h hl hwin rfl hk
theorem LS {q:Int} {l:B8} (h:l=[]∨by_ l 0≠q):Jg q l:=h.elim .inl fun h=> .inr (.inl h)
theorem WN (h:RB c X A r w m I st) (z:Sz k A) (hk8:k<=800000) (hwin:c.win<=100000000) (hW:W c A) {b:UInt8} {C:Int} (hC:C=(b.toNat:Int)) {o:Int} {K:St->Prop}
  (hk:∀st' I',RB c X (Bh c b o A) r w m I' st'->FrB r w m I I' st st'->K st'):Ae PR BR [.box r 0,.int .u8 C,.int .i64 o] [] st K:=by
 have hl:A.held.length<=100000000:=Nat.le_trans z.hl (by omega)
 have hp:=hW.ph
 have zn:=z.n1
 subst hC
 unfold Bh at hk
 refine Fs r _ o st K (h.ld (k:=10) (x:= .int .i64 (A.ph:Int)) (fun _ _=>rfl) (Ao (Ac (fun g0=>?_) fun g0=>Ac (fun g1=>?_) fun g1=>Ac (fun g2=>?_) fun g2=>Ac (fun g3=>?_) fun g3=>Ac (fun g4=>?_) fun g4=>absurd hp (by omega))))
 ·have p0:A.ph=0:=by omega
  rw[if_pos p0]at hk
  have ze:Sz (k+1) (AJ c A o):=z.enter o
  obtain⟨hS,hf,hw,hc⟩:=B5 c A o
  have hhe:(AJ c A o).held=[]:=hS.held.trans (hW.held.1 (.inl p0))
  refine Pi h ⟨z.n0,by omega⟩ fun st1 h1 f1=>h1.ld (k:=2) (x:= .int .u8 c.q) (fun _ _=>rfl) (Ao (Ac (fun g=>?_) fun g=>?_))
  ·rw[if_pos g]at hk
   exact h1.put X {AJ c A o with ph:=2} (by decide) rfl rfl rfl (fun _ _=>rfl) fun st2 h2 f2=>Im h2 (by show(AJ c A o).held.length<=_;rw[hhe];exact Nat.zero_le _) hwin rfl fun st3 I3 h3 f3=>hk st3 I3 h3 ((f1.trans f2).trans f3)
  ·rw[if_neg g]at hk
   exact h1.put X {AJ c A o with ph:=1} (by decide) rfl rfl rfl (fun _ _=>rfl) fun st2 h2 f2=>Pf h2 (ze.ph 1) (by omega) hwin (.inl hhe) (RK (A:={AJ c A o with ph:=1}) (Ny hW.nm o) (Nz c A o)) rfl fun st3 I3 h3 f3=>hk st3 I3 h3 ((f1.trans f2).trans f3)
 ·have p1:A.ph=1:=by omega
  rw[if_neg (by omega),if_pos p1]at hk
  exact Pf h z (by omega) hwin (LS (hW.held.2.1 p1)) (RK hW.nm (hW.cw (by omega) (by omega))) rfl hk
 ·have p2:A.ph=2:=by omega
  rw[if_neg (by omega),if_neg (by omega),if_pos p2]at hk
  refine h.ld (k:=2) (x:= .int .u8 c.q) (fun _ _=>rfl) (Ao (Ac (fun g=>?_) fun g=>?_))
  ·rw[if_pos g]at hk
   exact h.put X {A with ph:=3} (by decide) rfl rfl rfl (fun _ _=>rfl) fun st2 h2 f2=>Im h2 hl hwin rfl fun st3 I3 h3 f3=>hk st3 I3 h3 (f2.trans f3)
  ·rw[if_neg g]at hk
   exact Im h hl hwin rfl hk
 ·have p3:A.ph=3:=by omega
  rw[if_neg (by omega),if_neg (by omega),if_neg (by omega),if_pos p3]at hk
  obtain⟨x,t,hx,ht⟩:=hW.held.2.2.2 p3
  refine h.ld (k:=2) (x:= .int .u8 c.q) (fun _ _=>rfl) (Ao (Ac (fun g=>?_) fun g=>?_))
  ·rw[if_pos g]at hk
   exact h.put X {A with ph:=2} (by decide) rfl rfl rfl (fun _ _=>rfl) fun st2 h2 f2=>Im h2 hl hwin rfl fun st3 I3 h3 f3=>hk st3 I3 h3 (f2.trans f3)
  ·rw[if_neg g]at hk
   exact Pl h z (by omega) hwin (.inr (.inr ⟨x,t,hx,ht⟩)) (RK hW.nm (hW.cw (by omega) (by omega))) rfl hk
 ·have p4:A.ph=4:=by omega
  rw[if_neg (by omega),if_neg (by omega),if_neg (by omega),if_neg (by omega)]at hk
  refine Ac (fun g=>?_) fun g=>?_
  ·rw[if_pos g]at hk
   exact h.ld (k:=21) (x:= .int .i64 A.line) (fun _ _=>rfl) (Ao (B6 h hl hk))
  ·rw[if_neg g]at hk
   have z1:=z.ol
   have z2:=z.rl
   exact h.ld (k:=21) (x:= .int .i64 A.line) (fun _ _=>rfl) (Ao (Jx h hl (by omega) (by omega) hk))
end
end
section
section
variable {c:SC} {X:RX} {A:RA} {r w m k:Nat} {I:List Nat} {st:St}
theorem LJ (h:RB c X A r w m I st) (z:Sz k A) (hk8:k<=900000) (hwin:c.win<=100000000) (hcw:Jg c.q A.held) (hN:c.hd=true->AR c A=false->A.late=0->A.cells<A.names.length) {K:St->Prop}
  (hk:∀st' I',RB c X (AH c (AW c A) X.size) r w m I' st'->FrB r w m I I' st st'->K st'):
  Ae PR Az [.box r 0] [] st fun (st1:St)=>Af (Ab st1 [] (.t (.box r 23)) 0) fun (x:TV)=>Ah (.int .i64) x fun (n:Int)=>Ae PR Ax [.box r 0,.int .i64 n] [] st1 fun (st2:St)=>K st2:=by
 have sc:Sm c (AW c A):=(Sz.cell (c:=c) z).sm (by omega) hwin
 have:=sc.hl
 have:=sc.ol
 have:=sc.rl
 exact R1 h (z.sm (by omega) hwin) hcw hN fun st1 I1 h1 f1=>h1.ld (k:=23) (x:= .int .i64 X.size) (fun _ _=>rfl) (Ao (Jx h1 (by omega) (by omega) (by omega) fun st2 I2 h2 f2=>hk st2 I2 h2 (f1.trans f2)))
theorem WP (h:RB c X A r w m I st) (z:Sz k A) (hk8:k<=800000) (hwin:c.win<=100000000) (hW:W c A) {K:St->Prop}
  (hk:∀st' I',RB c X (D1 c X.size A) r w m I' st'->FrB r w m I I' st st'->K st'):Ae PR BS [.box r 0] [] st K:=by
 have hl:A.held.length<=100000000:=Nat.le_trans z.hl (by omega)
 have hp:=hW.ph
 have zn:=z.n1
 unfold D1 at hk
 have lt:(A.ph=2∨A.ph=4)->Af (Ab st [] (.t (.box r 22)) 0) fun (x:TV)=>Ah (.int .i64) x fun (n:Int)=>BIf (decide (n≠(0:Int)))
   (Af (Ab st [] (.t (.box r 20)) 0) fun (x3:TV)=>Ah (.int .i64) x3 fun (n3:Int)=>Af (Ab st [] (.t (.box r 22)) 0) fun (x4:TV)=>Ah (.int .i64) x4 fun (n4:Int)=>
    Ae PR Ai [.box r 0,.int .i64 n3,.int .i64 n4] [] st fun (st1:St)=>Af (Ab st1 [] (.t (.box r 23)) 0) fun (x5:TV)=>Ah (.int .i64) x5 fun (n5:Int)=>Ae PR Ai [.box r 0,.int .i64 n5,.int .i64 4] [] st1 fun (st2:St)=>K st2)
   (Af (Ab st [] (.t (.box r 23)) 0) fun (x6:TV)=>Ah (.int .i64) x6 fun (n6:Int)=>Ae PR Ai [.box r 0,.int .i64 n6,.int .i64 4] [] st fun (st3:St)=>K st3):=fun g=>by
  rw[if_pos g]at hk
  unfold EW at hk
  refine h.ld (k:=22) (x:= .int .i64 A.late) (fun _ _=>rfl) (Ao (Ac (fun g=>?_) fun g=>?_))
  ·rw[if_pos g]at hk
   refine h.ld (k:=20) (x:= .int .i64 A.frm) (fun _ _=>rfl) (Ao (h.ld (k:=22) (x:= .int .i64 A.late) (fun _ _=>rfl) (Ao (B6 h hl fun st1 I1 h1 f1=>h1.ld (k:=23) (x:= .int .i64 X.size) (fun _ _=>rfl) (Ao (B6 h1 ?_ fun st2 I2 h2 f2=>hk st2 I2 h2 (f1.trans f2)))))))
   unfold Bc
   split<;>exact Nat.zero_le _
  ·rw[if_neg g]at hk
   exact h.ld (k:=23) (x:= .int .i64 X.size) (fun _ _=>rfl) (Ao (B6 h hl hk))
 have c13:(A.ph=1∨A.ph=3)->Ae PR Az [.box r 0] [] st fun (st1:St)=>Af (Ab st1 [] (.t (.box r 23)) 0) fun (x:TV)=>Ah (.int .i64) x fun (n:Int)=>Ae PR Ax [.box r 0,.int .i64 n] [] st1 fun (st2:St)=>K st2:=fun g=>by
  rw[if_neg (by omega),if_neg (by omega)]at hk
  refine LJ h z (by omega) hwin ?_ (RK hW.nm (hW.cw (by omega) (by omega))) hk
  rcases g with g | g
  ·exact LS (hW.held.2.1 g)
  ·obtain⟨x,t,hx,ht⟩:=hW.held.2.2.2 g
   exact .inr (.inr ⟨x,t,hx,ht⟩)
 have c0:A.ph=0->Af (Ab st [] (.t (.box r 12)) 0) fun (x:TV)=>Ah .bool x fun (b:Bool)=>BIf (!b) (K st) (Af (Ab st [] (.t (.box r 23)) 0) fun (x8:TV)=>Ah (.int .i64) x8 fun (n7:Int)=>
   Ae PR AY [.box r 0,.int .i64 n7] [] st fun (st4:St)=>Ae PR Az [.box r 0] [] st4 fun (st1:St)=>Af (Ab st1 [] (.t (.box r 23)) 0) fun (x:TV)=>Ah (.int .i64) x fun (n:Int)=>Ae PR Ax [.box r 0,.int .i64 n] [] st1 fun (st2:St)=>K st2):=fun g=>by
  rw[if_neg (by omega),if_pos g]at hk
  refine h.ld (k:=12) (x:= .bool A.within) (fun _ _=>rfl) (Aq (Au (fun g1=>?_) fun g1=>?_))
  ·have g1':A.within=false:=(Bool.not_eq_true' _).mp g1
   rw[if_neg (by rw[g1'];decide)]at hk
   exact hk st I h (FrB.refl _ _ _ _ _)
  ·have g1':A.within=true:=(Bool.not_eq_false' _).mp g1
   rw[if_pos g1']at hk
   obtain⟨hS,hf,hw,hc⟩:=B5 c A X.size
   have hhe:(AJ c A X.size).held=[]:=hS.held.trans (hW.held.1 (.inl g))
   refine h.ld (k:=23) (x:= .int .i64 X.size) (fun _ _=>rfl) (Ao (Pi h ⟨z.n0,by omega⟩ fun st4 h4 f4=>?_))
   exact LJ h4 (z.enter X.size) (by omega) hwin (.inl hhe) (RK (Ny hW.nm _) (Nz c A _)) fun st5 I5 h5 f5=>hk st5 I5 h5 (f4.trans f5)
 refine Ft r st K (h.ld (k:=10) (x:= .int .i64 (A.ph:Int)) (fun _ _=>rfl) (Ao (Ac (fun g2=>Ac (fun _=>lt (.inl (by omega))) fun g=>absurd g2 g) fun g2=>Ac (fun g4=>lt (.inr (by omega))) fun g4=>Ac (fun g0=>c0 (by omega)) fun g0=>Ac (fun g1=>Ac (fun _=>c13 (.inl (by omega))) fun g=>absurd g1 g) fun g1=>Ac (fun g3=>c13 (.inr (by omega))) fun g3=>absurd hp (by omega))))
end
end
section
def BL (X:RX):RX:={X with begun:=true}
def B0 (X:RX) (A:RA):RA:=if X.begun=true then A else {A with out:=A.out++[.ls]}
theorem OD {c:SC}:∀(l:B8) (i:Nat) (o:Int) (A:RA),i<l.length->B9 c (l.take (i+1)) o A=if (B9 c (l.take i) o A).err≠0 then B9 c (l.take i) o A else Bh c (l.getD i 0) (o+i) (B9 c (l.take i) o A)
 | [],i,o,A,h=>by cases h
 | b::r,0,o,A,h=>by
  simp only[List.take_succ_cons,List.take_zero,B9]
  split
  ·rfl
  ·show Bh c b o A=Bh c b (o+(0:Nat)) A
   rw[Int.natCast_zero,Int.add_zero]
 | b::r,i+1,o,A,h=>by
  have ih:=OD (c:=c) r i (o+1) (Bh c b o A) (by simpa using h)
  simp only[List.take_succ_cons,B9]
  by_cases he:A.err≠0
  ·rw[if_pos he,if_pos he,if_pos he]
  ·rw[if_neg he,if_neg he]
   rw[ih]
   have e:o+1+(i:Int)=o+((i+1:Nat):Int):=by omega
   rw[e];rfl
theorem UU {c:SC} {l:B8} {i:Nat} {o:Int} {A:RA} (he:(B9 c (l.take i) o A).err≠0):B9 c l o A=B9 c (l.take i) o A:=by
 have:∀(a b:B8) (o:Int) (A:RA),(B9 c a o A).err≠0->B9 c (a++b) o A=B9 c a o A:=by
  intro a
  induction a with
  | nil=>intro b o A he;exact MO he b o
  | cons x a ih=>
   intro b o A he
   simp only[List.cons_append,B9]at he⊢
   by_cases h:A.err≠0
   ·rw[if_pos h,if_pos h]
   ·rw[if_neg h,if_neg h]
    rw[if_neg h]at he
    exact ih b _ _ he
 have h2:=this (l.take i) (l.drop i) o A he
 rwa [List.take_append_drop]at h2
section
variable {c:SC} {X:RX} {A:RA} {r w m k:Nat} {I:List Nat} {st:St}
theorem Sz.run:∀(l:B8) (o:Int) {A:RA} {k:Nat},Sz k A->Sz (k+3*l.length) (B9 c l o A)
 | [],o,A,k,h=>h
 | b::r,o,A,k,h=>by
  unfold B9
  split
  ·exact h.mono (by omega)
  ·exact(Sz.run r (o+1) (h.next b o)).mono (by simp only[List.length_cons];omega)
theorem W.run:∀(l:B8) (o:Int) {A:RA},(A.err=0->W c A)->(B9 c l o A).err=0->W c (B9 c l o A)
 | [],o,A,h,he=>h he
 | b::r,o,A,h,he=>by
  unfold B9 at he⊢
  by_cases h1:A.err≠0
  ·rw[if_pos h1]at he;exact absurd he h1
  ·rw[if_neg h1]at he⊢
   exact W.run r (o+1) (fun hn=>next_W (h (by omega)) (by omega) hn) he
theorem Pk (h:RB c X A r w m I st) (hl:A.out.length<=90000000) {K:St->Prop} (hk:∀st' I',RB c (BL X) (B0 X A) r w m I' st'->FrB r w m I I' st st'->K st'):
  Ae PR Bl [.box r 0] [] st K:=by
 unfold B0 at hk
 refine E0 r st K (h.ld (k:=11) (x:= .bool X.begun) (fun _ _=>rfl) (Aq (Au (fun g=>?_) fun g=>?_)))
 ·have g':X.begun=false:=(Bool.not_eq_true' _).mp g
  rw[if_neg (by rw[g'];decide)]at hk
  refine h.put (BL X) A (by decide) rfl rfl rfl (fun _ _=>rfl) fun st1 h1 f1=>?_
  obtain⟨v,q1,hA⟩:=h1.outK (by omega) (evs:=[Ev.ls]) (by simp)
  exact Ad q1 (hA _ (fun v' st2 o1 hst=>Aa (by rw[List.all_cons,o1];rfl) (hst _ fun st3 I3 h3 f3=>hk st3 I3 h3 (f1.trans f3))) _)
 ·have g':X.begun=true:=(Bool.not_eq_false' _).mp g
  rw[if_pos g']at hk
  have e:BL X=X:=by unfold BL;rw[<-g']
  rw[e]at hk
  exact hk st I h (FrB.refl _ _ _ _ _)
theorem NJ (h:RB c X A r w m I st) {K:TV->St->Prop} (hk:∀v st' I' J,RB c X {A with out:=[]} r w m I' st'->FrB r w m I I' st st'->Da 15 st' v A.out.length (DG A.out) J->(∀id,id∈J->id∈I/\id∉I')->K v st'):
  Ae PR AB [.box r 0] [.one .tv] st K:=by
 obtain⟨nv,ov,hv,wo,es,I1,I2,I3,h1,h2,h3,h4,h5,h6,h7,h8,h9⟩:=h.ex
 refine EH r st K (Ad (x:=ov) (by simp only[Ab,h1];rfl) ⟨_,h1,by show 26+1<=30;decide,?_⟩)
 have e1:setAll (rdC c X A w m nv ov) 26 [.nilSlice]=rdC c X {A with out:=[]} w m nv .nilSlice:=rfl
 rw[e1]
 have hrw:=h.rw_
 have hrm:=h.rm
 have f:FrT [] st (st.put r (.cells (rdC c X {A with out:=[]} w m nv .nilSlice))):=⟨Nat.le_refl _,fun _ _ _=>rfl⟩
 have hno:∀{L:List Nat} (id:Nat),id∈L->id∉([]:List Nat):=fun _ _ h=>by cases h
 have hnd:=List.nodup_append.1 h8
 have hnd1:=List.nodup_append.1 hnd.1
 refine hk ov _ (I1++[]++I3) I2 ⟨h.rb,h.wb,h.mb,h.rw_,h.rm,h.wm,nv,.nilSlice,hv,wo,es,I1,[],I3,by simp[St.put],by simp[St.put,Ne.symm hrw];exact h2,by simp[St.put,Ne.symm hrm];exact h3,h4,h5.keep f hno,Da.nil _ _,h7.keep f hno,?_,rfl⟩ ⟨Nat.le_refl _,Nat.le_refl _,fun b hb _ _ _=>by simp[St.put,hb],fun _ _ _=>rfl,fun id hid=> .inl ?_⟩ (h6.keep f hno) fun id hid=>⟨by rw[h9];exact List.mem_append.2 (.inl (List.mem_append.2 (.inr hid))),fun hm=>?_⟩
 ·rw[List.append_nil]
  exact List.nodup_append.2 ⟨hnd1.1,hnd.2.1,fun a ha b hb=>hnd.2.2 a (List.mem_append.2 (.inl ha)) b hb⟩
 ·rw[List.append_nil]at hid
  rw[h9]
  exact(List.mem_append.1 hid).elim (fun g=>List.mem_append.2 (.inl (List.mem_append.2 (.inl g)))) fun g=>List.mem_append.2 (.inr g)
 ·rw[List.append_nil]at hm
  exact(List.mem_append.1 hm).elim (fun g=>hnd1.2.2 id g id hid rfl) fun g=>hnd.2.2 id (List.mem_append.2 (.inr hid)) id g rfl
end
end
def VB (N L H:Int) (s:B8):Bool:=
 if N<=(s.length:Int)then false else if 1<s.length/\(bt s 1:Int)<L then false else if 1<s.length/\H<(bt s 1:Int)then false
 else if s.length<3 then true else if 128<=bt s 2 then decide (bt s 2<=191)else false
def nN (b:Nat):Int:=if 194<=b/\b<=223 then 2 else if 224<=b/\b<=239 then 3 else if 240<=b/\b<=244 then 4 else 0
def loN (b:Nat):Int:=if b=224 then 160 else if b=240 then 144 else 128
def hiN (b:Nat):Int:=if b=237 then 159 else if b=244 then 143 else 191
def NW (s:B8):Bool:=VB (nN (bt s 0)) (loN (bt s 0)) (hiN (bt s 0)) s
theorem Kw {s:B8} {N L H:Int} {st:St} {K:Bool->St->Prop} (hk:K (VB N L H s) st):
  (BIf (decide (N<=((s).length:Int))) (K (false) st) (BIf (decide ((1:Int)<((s).length:Int))) (((0<=(1:Int)/\(1:Int)<((s).length:Int))/\BIf (decide (((List.getD s (Int.toNat (1:Int)) 0).toNat:Int)<L)) (K (false) st) (((0<=(1:Int)/\(1:Int)<((s).length:Int))/\BIf (decide (H<((List.getD s (Int.toNat (1:Int)) 0).toNat:Int))) (K (false) st) (BIf (decide (((s).length:Int)<(3:Int))) (K (true) st) (((0<=(2:Int)/\(2:Int)<((s).length:Int))/\BIf (decide ((128:Int)<=((List.getD s (Int.toNat (2:Int)) 0).toNat:Int))) (((0<=(2:Int)/\(2:Int)<((s).length:Int))/\K ((decide (((List.getD s (Int.toNat (2:Int)) 0).toNat:Int)<=(191:Int)))) st)) (K (false) st)))))))) (BIf (decide (((s).length:Int)<(3:Int))) (K (true) st) (((0<=(2:Int)/\(2:Int)<((s).length:Int))/\BIf (decide ((128:Int)<=((List.getD s (Int.toNat (2:Int)) 0).toNat:Int))) (((0<=(2:Int)/\(2:Int)<((s).length:Int))/\K ((decide (((List.getD s (Int.toNat (2:Int)) 0).toNat:Int)<=(191:Int)))) st)) (K (false) st)))))):=by
 unfold VB at hk
 have tl:¬N<=(s.length:Int)->¬(1<s.length/\(bt s 1:Int)<L)->¬(1<s.length/\H<(bt s 1:Int))->K (if s.length<3 then true else if 128<=bt s 2 then decide (bt s 2<=191)else false) st:=fun h1 h2 h3=>by
  rw[if_neg h1,if_neg h2,if_neg h3]at hk;exact hk
 have e1:(((List.getD s (Int.toNat (1:Int)) 0).toNat:Nat):Int)=(bt s 1:Int):=rfl
 have e2:(((List.getD s (Int.toNat (2:Int)) 0).toNat:Nat):Int)=(bt s 2:Int):=rfl
 rw[e1,e2]
 have t3:¬N<=(s.length:Int)->¬(1<s.length/\(bt s 1:Int)<L)->¬(1<s.length/\H<(bt s 1:Int))->BIf (decide (((s).length:Int)<(3:Int))) (K (true) st) (((0<=(2:Int)/\(2:Int)<((s).length:Int))/\BIf (decide ((128:Int)<=(bt s 2:Int))) (((0<=(2:Int)/\(2:Int)<((s).length:Int))/\K ((decide ((bt s 2:Int)<=(191:Int)))) st)) (K (false) st))):=fun h1 h2 h3=>by
  have hk:=tl h1 h2 h3
  refine Ac (fun g=>?_) fun g=>⟨⟨by omega,by omega⟩,Ac (fun g2=>⟨⟨by omega,by omega⟩,?_⟩) fun g2=>?_⟩
  ·rw[if_pos (by omega)]at hk;exact hk
  ·rw[if_neg (by omega),if_pos (by omega)]at hk
   have:decide ((bt s 2:Int)<=191)=decide (bt s 2<=191):=decide_eq_decide.2 ⟨fun h=>by omega,fun h=>by omega⟩
   rw[this];exact hk
  ·rw[if_neg (by omega),if_neg (by omega)]at hk;exact hk
 refine Ac (fun g=>?_) fun g=>Ac (fun g1=>⟨⟨by omega,by omega⟩,Ac (fun g2=>?_) fun g2=>⟨⟨by omega,by omega⟩,Ac (fun g3=>?_) fun g3=>?_⟩⟩) fun g1=>?_
 ·rw[if_pos g]at hk;exact hk
 ·rw[if_neg g,if_pos ⟨by omega,g2⟩]at hk;exact hk
 ·rw[if_neg g,if_neg (fun q=>g2 q.2),if_pos ⟨by omega,g3⟩]at hk;exact hk
 ·exact t3 g (fun q=>g2 q.2) (fun q=>g3 q.2)
 ·exact t3 g (fun q=>by omega) (fun q=>by omega)
theorem VA {s:B8} (h0:s≠ []) {st:St} {K:Bool->St->Prop} (hk:K (NW s) st):Ae PR Bv [.str s] [.one .bool] st K:=by
 have hl:0<s.length:=List.length_pos_iff.2 h0
 have e0:(((List.getD s (Int.toNat (0:Int)) 0).toNat:Nat):Int)=(bt s 0:Int):=rfl
 unfold NW at hk
 refine HF s st K ⟨fun n s1 lo hi st1=>n=nN (bt s 0)/\s1=s/\lo=128/\hi=191/\st1=st,⟨⟨by omega,by omega⟩,?_⟩,?_⟩
 ·rw[e0]
  unfold nN
  have z:∀{n:Int},n=(if 194<=bt s 0/\bt s 0<=223 then 2 else if 224<=bt s 0/\bt s 0<=239 then 3 else if 240<=bt s 0/\bt s 0<=244 then 4 else 0)->n=(if 194<=bt s 0/\bt s 0<=223 then 2 else if 224<=bt s 0/\bt s 0<=239 then 3 else if 240<=bt s 0/\bt s 0<=244 then 4 else 0)/\s=s/\(128:Int)=128/\(191:Int)=191/\st=st:=fun h=>⟨h,rfl,rfl,rfl,rfl⟩
  repeat' first | refine Ac (fun _=>?_) fun _=>?_ | (refine z ?_;split<;>(try split)<;>(try split)<;>omega)
 ·rintro n s1 lo hi st1 ⟨rfl,rfl,rfl,rfl,rfl⟩
  refine⟨⟨by omega,by omega⟩,?_⟩
  rw[e0]
  unfold loN hiN at hk
  refine Ac (fun g=>?_) fun g=>Ac (fun g2=>?_) fun g2=>Ac (fun g3=>?_) fun g3=>Ac (fun g4=>?_) fun g4=>?_
  ·rw[if_pos (show bt s1 0=224 by omega),if_neg (show ¬bt s1 0=237 by omega),if_neg (show ¬bt s1 0=244 by omega)]at hk
   exact Kw hk
  ·rw[if_neg (show ¬bt s1 0=224 by omega),if_neg (show ¬bt s1 0=240 by omega),if_pos (show bt s1 0=237 by omega)]at hk
   exact Kw hk
  ·rw[if_neg (show ¬bt s1 0=224 by omega),if_pos (show bt s1 0=240 by omega),if_neg (show ¬bt s1 0=237 by omega),if_neg (show ¬bt s1 0=244 by omega)]at hk
   exact Kw hk
  ·rw[if_neg (show ¬bt s1 0=224 by omega),if_neg (show ¬bt s1 0=240 by omega),if_neg (show ¬bt s1 0=237 by omega),if_pos (show bt s1 0=244 by omega)]at hk
   exact Kw hk
  ·rw[if_neg (show ¬bt s1 0=224 by omega),if_neg (show ¬bt s1 0=240 by omega),if_neg (show ¬bt s1 0=237 by omega),if_neg (show ¬bt s1 0=244 by omega)]at hk
   exact Kw hk
theorem Ty {l ext:B8} {j:Nat} (h:j<l.length):bt (l++ext) j=bt l j:=by
 unfold bt
 rw[List.getD_eq_getElem?_getD,List.getD_eq_getElem?_getD,List.getElem?_append_left h]
theorem begB_of {l ext:B8} (h0:l≠ []) (h:ul l=0) (hu:ul (l++ext)≠0):NW l=true:=by
 have hL0:l++ext≠ []:=by simp[h0]
 have hpos:=List.length_pos_iff.2 h0
 have hlt:l.length<ul (l++ext):=by
  by_cases hm:ul (l++ext)<=l.length
  ·have:=(TP hu hm).1
   rw[List.take_left]at this
   omega
  ·omega
 have b0:bt (l++ext) 0=bt l 0:=Ty hpos
 have b1:1<l.length->bt (l++ext) 1=bt l 1:=Ty
 have b2:2<l.length->bt (l++ext) 2=bt l 2:=Ty
 have hd:dN (l++ext)≠(65533,1):=fun e=>hu (by unfold ul;rw[if_pos (.inr e)])
 have hn:ul (l++ext)=(dN (l++ext)).2:=by unfold ul;rw[if_neg (not_or.2 ⟨hL0,hd⟩)]
 rw[hn]at hlt
 have l0:=D6 l 0
 have l1:=D6 (l++ext) 1
 have l2:=D6 (l++ext) 2
 have l3:=D6 (l++ext) 3
 generalize e:dN (l++ext)=d at hd hlt
 unfold dN Lib.decodeN at e
 rw[b0]at e
 generalize bt (l++ext) 1=x1 at*
 generalize bt (l++ext) 2=x2 at*
 generalize bt (l++ext) 3=x3 at*
 generalize (l++ext).length=nn at*
 split at e
 ·subst e
  have hlt:l.length<1:=hlt
  omega
 split at e
 ·rename_i c1
  split at e
  ·rename_i c2
   subst e
   have hlt:l.length<2:=hlt
   have en:nN (bt l 0)=2:=if_pos ⟨by omega,by omega⟩
   unfold NW VB
   rw[en,if_neg (by omega),if_neg (by omega),if_neg (by omega),if_pos (by omega)]
  ·exact absurd e.symm hd
 split at e
 ·rename_i c1
  split at e
  ·rename_i c2
   subst e
   have hlt:l.length<3:=hlt
   have en:nN (bt l 0)=3:=by unfold nN;rw[if_neg (by omega),if_pos ⟨by omega,by omega⟩]
   unfold NW VB
   rw[en,if_neg (by omega),if_neg (fun q=>?_),if_neg (fun q=>?_),if_pos (by omega)]
   ·have e1:=b1 q.1
    have q2:=q.2
    unfold hiN at q2
    split at q2
    ·omega
    ·split at q2<;>omega
   ·have e1:=b1 q.1
    have q2:=q.2
    unfold loN at q2
    split at q2
    ·omega
    ·split at q2<;>omega
  ·exact absurd e.symm hd
 split at e
 ·rename_i c1
  split at e
  ·rename_i c2
   subst e
   have hlt:l.length<4:=hlt
   have en:nN (bt l 0)=4:=by unfold nN;rw[if_neg (by omega),if_neg (by omega),if_pos ⟨by omega,by omega⟩]
   unfold NW VB
   rw[en,if_neg (by omega),if_neg (fun q=>?_),if_neg (fun q=>?_)]
   ·by_cases h3:l.length<3
    ·rw[if_pos h3]
    ·have e2:=b2 (by omega)
     rw[if_neg h3,if_pos (by omega)]
     exact decide_eq_true (by omega)
   ·have e1:=b1 q.1
    have q2:=q.2
    unfold hiN at q2
    split at q2
    ·omega
    ·split at q2<;>omega
   ·have e1:=b1 q.1
    have q2:=q.2
    unfold loN at q2
    split at q2
    ·omega
    ·split at q2<;>omega
  ·exact absurd e.symm hd
 ·exact absurd e.symm hd
theorem Sl {l:B8} (h0:l≠ []) (h:ul l=0) (hb:NW l=false) (ext:B8):A7 (l++ext)=0:=by
 refine Cg _ ?_
 by_cases hu:ul (l++ext)=0
 ·exact hu
 ·rw[begB_of h0 h hu]at hb;cases hb
section
def L8 (t:B8) (i:Nat) (last:Bool) (o:Int) (X:RX):RX:=
 if t.drop i≠ []/\(last=true∨NW (t.drop i)=false)then {X with text:=o+i,cut:=[]} else {X with cut:=t.drop i}
def BK (s:B8) (last:Bool) (X:RX):RX:=if 0<=X.text then X else L8 (X.cut++s) (A7 (X.cut++s)) last (X.size-(X.cut.length:Int)) X
section
variable {c:SC} {X:RX} {A:RA} {r w m k:Nat} {I:List Nat} {st:St}
theorem Uw (h:RB c X A r w m I st) {t:B8} {i:Nat} (hi:i<=t.length) (hl:t.length<=2000000) {last:Bool} {o:Int} (ho:0<=o/\o<=100000000) {K:St->Prop}
  (hk:∀st',RB c (L8 t i last o X) A r w m I st'->FrB r w m I I st st'->K st'):
  ((0<=(i:Int)/\(i:Int)<=(t.length:Int))/\need (isPtr (.box r 0)) (need (isPtr (.box r 0)) (stB st (Ag (.box r 0) 25) [.str (List.drop (Int.toNat (i:Int)) t)] fun (st3:St)=>
   need (isPtr (.box r 0)) (need (isPtr (.box r 0)) (Af (Ab st3 [] (.t (Ag (.box r 0) 25)) 0) fun (x5:TV)=>Ah .str x5 fun (s3:B8)=>BIf (decide (s3≠([]:B8)))
    (BIf last (need (isPtr (.box r 0)) (need (isPtr (.box r 0)) (stB st3 (Ag (.box r 0) 24) [.int .i64 (i64.wrap (o+(i:Int)))] fun (st4:St)=>need (isPtr (.box r 0)) (need (isPtr (.box r 0)) (stB st4 (Ag (.box r 0) 25) [.str ([]:B8)] fun (st5:St)=>K st5)))))
     (need (isPtr (.box r 0)) (need (isPtr (.box r 0)) (Af (Ab st3 [] (.t (Ag (.box r 0) 25)) 0) fun (x6:TV)=>Ah .str x6 fun (s4:B8)=>Ae PR Bv [.str s4] [.one .bool] st3 fun (b1:Bool) (st6:St)=>
      BIf (!b1) (need (isPtr (.box r 0)) (need (isPtr (.box r 0)) (stB st6 (Ag (.box r 0) 24) [.int .i64 (i64.wrap (o+(i:Int)))] fun (st7:St)=>need (isPtr (.box r 0)) (need (isPtr (.box r 0)) (stB st7 (Ag (.box r 0) 25) [.str ([]:B8)] fun (st8:St)=>K st8))))) (K st6)))))
    (K st3)))))):=by
 rw[Int.toNat_natCast]
 unfold L8 at hk
 refine⟨⟨by omega,by omega⟩,Aa rfl (Aa rfl (h.put (k:=25) {X with cut:=t.drop i} A (by decide) rfl rfl rfl (fun _ _=>rfl) fun st3 h3 f3=>Aa rfl (Aa rfl (h3.ld (k:=25) (x:= .str (t.drop i)) (fun _ _=>rfl) (Al (Ac (fun g=>?_) fun g=>?_))))))⟩
 ·have two:(last=true∨NW (t.drop i)=false)->∀{st6:St},RB c {X with cut:=t.drop i} A r w m I st6->FrB r w m I I st st6->need (isPtr (.box r 0)) (need (isPtr (.box r 0)) (stB st6 (Ag (.box r 0) 24) [.int .i64 (i64.wrap (o+(i:Int)))] fun (st7:St)=>need (isPtr (.box r 0)) (need (isPtr (.box r 0)) (stB st7 (Ag (.box r 0) 25) [.str ([]:B8)] fun (st8:St)=>K st8)))):=fun g2 st6 h6 f6=>by
   rw[if_pos ⟨g,g2⟩]at hk
   rw[As _ (by omega) (by omega)]
   exact Aa rfl (Aa rfl (h6.put (k:=24) {X with cut:=t.drop i,text:=o+i} A (by decide) rfl rfl rfl (fun _ _=>rfl) fun st7 h7 f7=>Aa rfl (Aa rfl (h7.put (k:=25) {X with cut:=[],text:=o+i} A (by decide) rfl rfl rfl (fun _ _=>rfl) fun st8 h8 f8=>hk st8 h8 ((f6.trans f7).trans f8)))))
  refine Au (fun g2=>two (.inl g2) h3 f3) fun g2=>Aa rfl (Aa rfl (h3.ld (k:=25) (x:= .str (t.drop i)) (fun _ _=>rfl) (Al (VA g (Au (fun g3=>?_) fun g3=>?_)))))
  ·exact two (.inr ((Bool.not_eq_true' _).mp g3)) h3 f3
  ·have g3':=(Bool.not_eq_false' _).mp g3
   rw[if_neg (fun q=>q.2.elim (fun q=>by rw[g2]at q;cases q) fun q=>by rw[g3']at q;cases q)]at hk
   exact hk st3 h3 f3
 ·rw[if_neg (fun q=>g q.1)]at hk
  exact hk st3 h3 f3
theorem Pj (h:RB c X A r w m I st) {s:B8} {last:Bool} (hl:X.cut.length+s.length<=2000000) (hs:(X.cut.length:Int)<=X.size/\X.size<=100000000) {K:St->Prop}
  (hk:∀st',RB c (BK s last X) A r w m I st'->FrB r w m I I st st'->K st'):Ae PR Bk [.box r 0,.str s,.bool last] [] st K:=by
 unfold BK at hk
 refine EZ r s last st K (h.ld (k:=24) (x:= .int .i64 X.text) (fun _ _=>rfl) (Ao (Ac (fun g=>?_) fun g=>?_)))
 ·rw[if_pos g]at hk
  exact hk st h (FrB.refl _ _ _ _ _)
 rw[if_neg g]at hk
 refine h.ld (k:=23) (x:= .int .i64 X.size) (fun _ _=>rfl) (Ao (h.ld (k:=25) (x:= .str X.cut) (fun _ _=>rfl) (Al (h.ld (k:=25) (x:= .str X.cut) (fun _ _=>rfl) (Al ⟨by omega,?_⟩)))))
 have hlen:(X.cut++s).length<=2000000:=by rw[List.length_append];exact hl
 rw[As _ (by omega) (by omega)]
 generalize X.cut++s=t at*
 refine⟨fun i r1 s1 l1 o1 st1=>∃j:Nat,i=(j:Int)/\r1= .box r 0/\s1=t/\l1=last/\o1=X.size-(X.cut.length:Int)/\st1=st/\j<=t.length/\j+A7 (t.drop j)=A7 t,fun i _ s1 _ _ _=>s1.length-i.toNat,⟨0,rfl,rfl,rfl,rfl,rfl,rfl,Nat.zero_le _,by rw[Nat.zero_add];rfl⟩,?_⟩
 rintro i r1 s1 l1 o1 st1 ⟨j,rfl,rfl,rfl,rfl,rfl,rfl,hj,hv⟩
 refine Ac (fun g1=>?_) fun g1=>?_
 ·refine My rfl hlen hj (Ac (fun g2=>?_) fun g2=>?_)
  ·have hu:ul (s1.drop j)=0:=by
    unfold rD at g2
    split at g2
    ·assumption
    ·have g2:((ul (s1.drop j):Nat):Int)=0:=g2
     omega
   rw[Cg _ hu]at hv
   have hv':A7 s1=j:=by omega
   rw[hv']at hk
   exact Uw h hj hlen ⟨by omega,by omega⟩ hk
  ·have hu:ul (s1.drop j)≠0:=fun q=>g2 (by unfold rD;rw[if_pos q];rfl)
   have e2:(rD (s1.drop j)).2=ul (s1.drop j):=by unfold rD;rw[if_neg hu]
   rw[e2]
   have hle:=Mx (s1.drop j)
   rw[List.length_drop]at hle
   rw[As _ (by omega) (by omega)]
   have e3:((j:Int)+(ul (s1.drop j):Int))=((j+ul (s1.drop j):Nat):Int):=by omega
   rw[e3]
   refine⟨⟨j+ul (s1.drop j),rfl,rfl,rfl,rfl,rfl,rfl,by omega,?_⟩,by show s1.length-Int.toNat _<s1.length-Int.toNat _;rw[Int.toNat_natCast,Int.toNat_natCast];omega⟩
   rw[<-List.drop_drop,<-hv,D8 _ hu]
   omega
 ·have hj':j=s1.length:=by omega
  have hd:s1.drop j=[]:=List.drop_of_length_le (by omega)
  rw[hd,GC]at hv
  have hv':A7 s1=j:=by omega
  rw[hv']at hk
  exact Uw h hj hlen ⟨by omega,by omega⟩ hk
end
end
section
def Ce (c:SC) (s:B8) (X:RX) (A:RA):RA:=B9 c s X.size (B0 X A)
def Q4 (n:Nat) (X:RX):RX:={X with size:=X.size+n}
def DS (s:B8) (X:RX):RX:=Q4 s.length (BK s false (BL X))
theorem Vv (t:B8) (i:Nat) (last:Bool) (o:Int) (X:RX):(L8 t i last o X).size=X.size:=by
 unfold L8;split<;>rfl
theorem F8 (s:B8) (last:Bool) (X:RX):(BK s last X).size=X.size:=by
 unfold BK
 split
 ·rfl
 ·exact Vv ..
theorem Sz.begin {k:Nat} {A:RA} (z:Sz k A) (X:RX):Sz (k+1) (B0 X A):=by
 have g:=z.mono (show k<=k+1 by omega)
 have:=z.ol
 unfold B0
 split
 ·exact g
 ·exact⟨g.hl,by show(A.out++[_]).length<=_;simp only[List.length_append,List.length_singleton];omega,g.cl,g.nl,g.rl,g.n0,g.n1⟩
theorem Ll (X:RX) (A:RA):(B0 X A).err=A.err:=by unfold B0;split<;>rfl
theorem W.begin {c:SC} {A:RA} (h:W c A) (X:RX):W c (B0 X A):=by
 unfold B0
 split
 ·exact h
 ·exact⟨h.ph,h.wi,h.held,h.nm,h.cw⟩
section
variable {c:SC} {X:RX} {A:RA} {r w m k:Nat} {I:List Nat} {st:St}
theorem RY (h:RB c X A r w m I st) {n:Nat} (hn:n<=100000000) (hs:0<=X.size/\X.size<=100000000) {K:TV->Int->St->Prop}
  (hk:∀v st' I' J,RB c (Q4 n X) {A with out:=[]} r w m I' st'->FrB r w m I I' st st'->Da 15 st' v A.out.length (DG A.out) J->(∀id,id∈J->id∈I/\id∉I')->K v 0 st'):
  need (isPtr (.box r 0)) (need (isPtr (.box r 0)) (Af (Ab st [] (.t (Ag (.box r 0) 23)) 0) fun (x:TV)=>Ah (.int .i64) x fun (n3:Int)=>need (isPtr (.box r 0)) (need (isPtr (.box r 0)) (stB st (Ag (.box r 0) 23) [.int .i64 (i64.wrap (n3+(n:Int)))] fun (st5:St)=>
   Ae PR AB [.box r 0] [.one .tv] st5 fun (v2:TV) (st6:St)=>K v2 0 st6)))):=by
 refine Aa rfl (Aa rfl (h.ld (k:=23) (x:= .int .i64 X.size) (fun _ _=>rfl) (Ao ?_)))
 rw[As _ (by omega) (by omega)]
 exact Aa rfl (Aa rfl (h.put (k:=23) (Q4 n X) A (by decide) rfl rfl rfl (fun _ _=>rfl) fun st5 h5 f5=>NJ h5 fun v st6 I' J h6 f6 o6 d6=>hk v st6 I' J h6 (f5.trans f6) o6 d6))
theorem Kq (h:RB c X A r w m I st) (z:Sz k A) (hwin:c.win<=100000000) (hW:A.err=0->W c A) {s:B8} (hk8:k+3*s.length<=700000) (hl:X.cut.length+s.length<=2000000) (hs:(X.cut.length:Int)<=X.size/\X.size<=100000000) {K:TV->Int->St->Prop}
  (hk1:X.ended=true->K .nilSlice 29 st)
  (hk:X.ended=false->∀v st' I' J,RB c (DS s X) {Ce c s X A with out:=[]} r w m I' st'->FrB r w m I I' st st'->Da 15 st' v (Ce c s X A).out.length (DG (Ce c s X A).out) J->(∀id,id∈J->id∉I')->K v 0 st'):
  Ae PR AN [.box r 0,.str s] [.one .tv,.one (.int .i64)] st K:=by
 have zo:=z.ol
 refine Fy r s st K (Ad h.win (Aa rfl (show BIf false _ _ from ?_)))
 refine h.ld (k:=29) (x:= .bool X.ended) (fun _ _=>rfl) (Aq (Au hk1 fun g=>?_))
 have hk:=hk g
 have zb:=z.begin X
 have hWb:(B0 X A).err=0->W c (B0 X A):=fun he=>(hW (by rw[<-Ll X A];exact he)).begin X
 refine Pk h (by omega) fun st1 I1 h1 f1=>Pj h1 hl hs fun st2 h2 f2=>?_
 have hsz:(BK s false (BL X)).size=X.size:=F8 ..
 unfold DS Ce at hk
 generalize BK s false (BL X)=X2 at*
 generalize B0 X A=B at*
 have f12:=f1.trans f2
 refine⟨fun i r1 s1 st3=>∃j I3,i=((j:Nat):Int)/\r1= .box r 0/\s1=s/\j<=s.length/\RB c X2 (B9 c (s.take j) X.size B) r w m I3 st3/\FrB r w m I I3 st st3,fun i _ _ _=>s.length-i.toNat,⟨0,I1,rfl,rfl,rfl,Nat.zero_le _,by rw[List.take_zero];exact h2,f12⟩,?_⟩
 rintro i r1 s1 st3 ⟨j,I3,rfl,rfl,rfl,hj,h3,f3⟩
 have fin:B9 c s1 X.size B=B9 c (s1.take j) X.size B->need (isPtr (.box r 0)) (need (isPtr (.box r 0)) (Af (Ab st3 [] (.t (Ag (.box r 0) 23)) 0) fun (x:TV)=>Ah (.int .i64) x fun (n3:Int)=>need (isPtr (.box r 0)) (need (isPtr (.box r 0)) (stB st3 (Ag (.box r 0) 23) [.int .i64 (i64.wrap (n3+(s1.length:Int)))] fun (st5:St)=>
   Ae PR AB [.box r 0] [.one .tv] st5 fun (v2:TV) (st6:St)=>K v2 0 st6)))):=fun e=>by
  rw[e]at hk
  exact RY h3 (by omega) ⟨by omega,by omega⟩ fun v st6 I' J h6 f6 o6 d6=>hk v st6 I' J h6 (f3.trans f6) o6 fun id hid=>(d6 id hid).2
 refine Ac (fun g1=>?_) fun g1=>?_
 ·have hj1:j<s1.length:=by omega
  refine Aa rfl (Aa rfl (h3.ld (k:=28) (x:= .int .i64 (B9 c (s1.take j) X.size B).err) (fun _ _=>rfl) (Ao (Ac (fun g2=>?_) fun g2=>?_))))
  ·have zr:=Sz.run (c:=c) (s1.take j) X.size zb
   rw[List.length_take,Nat.min_eq_left hj]at zr
   have hWr:=W.run (s1.take j) X.size hWb g2
   refine⟨⟨by omega,by omega⟩,Aa rfl (Aa rfl (h3.ld (k:=23) (x:= .int .i64 X2.size) (fun _ _=>rfl) (Ao ?_)))⟩
   rw[As _ (by omega) (by omega)]
   refine WN (b:=s1.getD j 0) h3 zr (by omega) hwin hWr rfl fun st4 I4 h4 f4=>⟨h4.at (k:=23) (fun _ _=>rfl),⟨j+1,I4,?_,rfl,rfl,hj1,?_,f3.trans f4⟩,?_⟩
   ·rw[As _ (by omega) (by omega)];omega
   ·rw[OD s1 j X.size B hj1,if_neg (fun q=>q g2)];rw[hsz]at h4;exact h4
   ·show s1.length-Int.toNat _<s1.length-Int.toNat _
    rw[As _ (by omega) (by omega)]
    omega
  ·exact fin (UU g2)
 ·exact fin (by rw[List.take_of_length_le (by omega)])
end
end
section
def T0 (X:RX):RX:={X with ended:=true}
def VX (A:RA):RA:={A with out:=[],held:=[],told:=true}
section
variable {c:SC} {X:RX} {A:RA} {r w m k:Nat} {I:List Nat} {st:St}
theorem RB.frt {J:List Nat} {st':St} (h:RB c X A r w m I st) (f:FrT J st st') (hb:st'.box=st.box) (hn:st'.nb=st.nb) (hd:∀id,id∈I->id∉J):RB c X A r w m I st':=by
 obtain⟨nv,ov,hv,wo,es,I1,I2,I3,h1,h2,h3,h4,h5,h6,h7,h8,h9⟩:=h.ex
 subst h9
 exact⟨by rw[hn];exact h.rb,by rw[hn];exact h.wb,by rw[hn];exact h.mb,h.rw_,h.rm,h.wm,nv,ov,hv,wo,es,I1,I2,I3,by rw[hb];exact h1,by rw[hb];exact h2,by rw[hb];exact h3,h4,
  h5.keep f (fun id hi=>hd id (List.mem_append.2 (.inl (List.mem_append.2 (.inl hi))))),h6.keep f (fun id hi=>hd id (List.mem_append.2 (.inl (List.mem_append.2 (.inr hi))))),h7.keep f (fun id hi=>hd id (List.mem_append.2 (.inr hi))),h8,rfl⟩
theorem NC (h:RB c X A r w m I st) (hl:A.held.length<=100000000) (ho:A.out.length<=90000000) {K:TV->Int->St->Prop}
  (hk:∀v st' I',RB c (T0 X) (VX A) r w m I' st'->st.nb<=st'.nb->FrT I st st'->(∀b,b≠r->b≠w->b≠m->b<st.nb->st'.box b=st.box b)->(if A.err≠0 then v= .nilSlice else Rd 15 v (A.out++[Ev.le]).length (DG (A.out++[Ev.le])))->K v A.err st'):
  (Ae PR AB [(.box r 0)] [.one (.tv)] st (fun (v10:TV) (st21:St)=>need (isPtr (.box r 0)) (need (isPtr (.box r 0)) (Af (Ab st21 [] (.t (Ag (.box r 0) 0)) 0) (fun (v11:TV)=>need (isPtr (.box r 0)) (need (isPtr (.box r 0)) (Af (Ab st21 [] (.t (Ag (.box r 0) 0)) 0) (fun (v12:TV)=>Ae PR AV [v12] [.one (.int .i64)] st21 (fun (n14:Int) (st22:St)=>(Ab st22 [] (.t (Ag (.box r 0) 0)) 0=some v11/\Ae PR AO [v11,(.int .i64 n14)] [.one (.str),.one (.int .i64)] st22 (fun (s3:B8) (n15:Int) (st23:St)=>(Ab st23 [] (.t (Ag (.box r 0) 0)) 0=some v12/\need (isPtr (.box r 0)) (need (isPtr (.box r 0)) (stB st23 (Ag (.box r 0) 29) [(.bool true)] (fun (st24:St)=>need (isPtr (.box r 0)) (need (isPtr (.box r 0)) (stB st24 (Ag (.box r 0) 18) [(.bool true)] (fun (st25:St)=>need (isPtr (.box r 0)) (need (isPtr (.box r 0)) (Af (Ab st25 [] (.t (Ag (.box r 0) 28)) 0) (fun (x18:TV)=>Ah (.int .i64) x18 (fun (n16:Int)=>BIf (decide (n16≠(0:Int))) (need (isPtr (.box r 0)) (need (isPtr (.box r 0)) (Af (Ab st25 [] (.t (Ag (.box r 0) 28)) 0) (fun (x19:TV)=>Ah (.int .i64) x19 (fun (n17:Int)=>K (.nilSlice) (n17) st25))))) (AF 118 15 192 v10 1 [(.int .i64 (3:Int)),(.str ([]:B8)),(.int .i64 (0:Int)),(.bool false),(.bool false),(.str ([]:B8)),(.int .i64 (0:Int)),(.int .i64 (0:Int)),(.int .i64 (0:Int)),(.int .i64 (0:Int)),(.int .i64 (0:Int)),(.str ([]:B8)),.nilSlice,.nilSlice,.nilSlice] st25 (fun (v13:TV) (st26:St)=>K (v13) ((0:Int)) st26)))))))))))))))))))))))):=by
 refine NJ h fun v st1 I1 J h1 f1 o1 d1=>Aa rfl (Aa rfl (Ad h1.win (Aa rfl (Aa rfl (Ad h1.win (Ma h1 ⟨h1.win,JJ h1 hl fun st2 I2 h2 f2=>⟨h2.win,?_⟩⟩))))))
 refine Aa rfl (Aa rfl (h2.put (k:=29) (T0 X) {A with out:=[],held:=[]} (by decide) rfl rfl rfl (fun _ _=>rfl) fun st3 h3 f3=>Aa rfl (Aa rfl (h3.put (k:=18) (T0 X) (VX A) (by decide) rfl rfl rfl (fun _ _=>rfl) fun st4 h4 f4=>?_))))
 have f14:=(f2.trans f3).trans f4
 have o4:Da 15 st4 v A.out.length (DG A.out) J:=o1.keep (J:=I1) ⟨f14.nt,f14.live⟩ fun id hid=>(d1 id hid).2
 have ft:=f1.trans f14
 refine Aa rfl (Aa rfl (h4.ld (k:=28) (x:= .int .i64 A.err) (fun _ _=>rfl) (Ao (Ac (fun g=>?_) fun g=>?_))))
 ·refine Aa rfl (Aa rfl (h4.ld (k:=28) (x:= .int .i64 A.err) (fun _ _=>rfl) (Ao (hk .nilSlice st4 I2 h4 ft.nb ⟨ft.nt,ft.live⟩ ft.box ?_))))
  rw[if_pos g]
 ·have hk:=fun v' st' I' a b x d e=>hk v' st' I' a b x d (by rw[if_neg g];exact e)
  have e0:A.err=0:=by omega
  rw[e0]at hk
  refine JF o4 (by omega) (fun h=>by cases h) fun v' st5 J' o5 f5 hJ hb5 hn5 hbt5=>?_
  have hdis:∀id,id∈I2->id∉J:=fun id hi hj=>by
   have hlt:=o1.lt id hj
   rcases f14.sub id hi with q | q
   ·exact(d1 id hj).2 q
   ·omega
  refine hk v' st5 I2 (h4.frt f5 hb5 hn5 hdis) (by rw[hn5];exact ft.nb) ⟨Nat.le_trans ft.nt f5.nt,fun id hi hn=>(f5.live id (Nat.lt_of_lt_of_le hi ft.nt) fun hj=>hn (d1 id hj).1).trans (ft.live id hi hn)⟩ (fun b x1 x2 x3 x4=>by rw[hb5];exact ft.box b x1 x2 x3 x4) ?_
  have:=o5.rd
  rw[List.length_append,Kl]
  exact this
end
end
section
def EP (c:SC) (X:RX) (A:RA):RA:=if (B0 X A).err=0 then D1 c X.size (B0 X A)else B0 X A
def Gu (X:RX):RX:=BK [] true (BL X)
def II (c:SC) (X:RX) (A:RA):RA:=if X.lb<X.size then {EP c X A with off:=0,err:=10} else if 0<=(Gu X).text then {EP c X A with off:=(Gu X).text,err:=5} else EP c X A
theorem Sz.last {c:SC} {A:RA} {k:Nat} (z:Sz k A) (o:Int):Sz (k+3) (D1 c o A):=by
 unfold D1
 split
 ·exact(z.late o 4).mono (by omega)
 split
 ·split
  ·exact((z.enter o).cell).record o
  ·exact z.mono (by omega)
 ·exact((z.cell).record o).mono (by omega)
theorem Pq (s:B8) (last:Bool) (X:RX):(BK s last X).lb=X.lb:=by
 unfold BK L8
 split
 ·rfl
 ·split<;>rfl
theorem frK {r w m:Nat} {I I4:List Nat} {st a b:St} (f:FrB r w m I I4 st a) (l:FrT I4 a b):FrT I st b:=
 ⟨Nat.le_trans f.nt l.nt,fun id hi hn=>(l.live id (Nat.lt_of_lt_of_le hi f.nt) fun hj=>(f.sub id hj).elim hn fun q=>by omega).trans (f.live id hi hn)⟩
section
variable {c:SC} {X:RX} {A:RA} {r w m k:Nat} {I:List Nat} {st:St}
theorem UB (h:RB c X A r w m I st) (z:Sz k A) (hwin:c.win<=100000000) (hW:A.err=0->W c A) (hk8:k<=700000) (hl:X.cut.length<=2000000) (hs:(X.cut.length:Int)<=X.size/\X.size<=100000000) {K:TV->Int->St->Prop}
  (hk1:X.ended=true->K .nilSlice 29 st)
  (hk:X.ended=false->∀v st' I',RB c (T0 (Gu X)) (VX (II c X A)) r w m I' st'->st.nb<=st'.nb->FrT I st st'->(∀b,b≠r->b≠w->b≠m->b<st.nb->st'.box b=st.box b)->
   (if (II c X A).err≠0 then v= .nilSlice else Rd 15 v ((II c X A).out++[Ev.le]).length (DG ((II c X A).out++[Ev.le])))->K v (II c X A).err st'):
  Ae PR Bt [.box r 0] [.one .tv,.one (.int .i64)] st K:=by
 have zo:=z.ol
 refine FV r st K (Ad h.win (Aa rfl (show BIf false _ _ from ?_)))
 refine h.ld (k:=29) (x:= .bool X.ended) (fun _ _=>rfl) (Aq (Au hk1 fun g=>?_))
 have hk:=hk g
 have zb:=z.begin X
 have hWb:(B0 X A).err=0->W c (B0 X A):=fun he=>(hW (by rw[<-Ll X A];exact he)).begin X
 refine Pk h (by omega) fun st1 I1 h1 f1=>Pj h1 (s:=[]) (show X.cut.length+0<=2000000 from hl) hs fun st2 h2 f2=>?_
 have hsz:(Gu X).size=X.size:=F8 ..
 have hlb:(Gu X).lb=X.lb:=Pq ..
 have zl:Sz (k+4) (EP c X A):=by
  unfold EP
  split
  ·exact(zb.last X.size)
  ·exact zb.mono (by omega)
 have h2:RB c (Gu X) (B0 X A) r w m I1 st2:=h2
 have f12:=f1.trans f2
 refine⟨fun r1 st4=>∃I4,r1= .box r 0/\RB c (Gu X) (EP c X A) r w m I4 st4/\FrB r w m I I4 st st4,h2.ld (k:=28) (x:= .int .i64 (B0 X A).err) (fun _ _=>rfl) (Ao (Ac (fun g2=>?_) fun g2=>?_)),?_⟩
 ·refine WP h2 zb (by omega) hwin (hWb g2) fun st3 I3 h3 f3=>⟨I3,rfl,?_,f12.trans f3⟩
  rw[hsz]at h3
  unfold EP
  rw[if_pos g2];exact h3
 ·refine⟨I1,rfl,?_,f12⟩
  unfold EP
  rw[if_neg g2];exact h2
 rintro r1 st4 ⟨I4,rfl,h4,f4⟩
 unfold II at hk
 generalize EP c X A=L at*
 have zlh:=zl.hl
 have zlo:=zl.ol
 refine Aa rfl (Aa rfl (h4.ld (k:=23) (x:= .int .i64 (Gu X).size) (fun _ _=>rfl) (Ao (Aa rfl (Aa rfl (Aa rfl (h4.ld (k:=7) (x:= .int .i64 (Gu X).lb) (fun _ _=>rfl) (Ao (Ac (fun g3=>?_) fun g3=>?_)))))))))
 ·rw[hsz,hlb]at g3
  rw[if_pos g3]at hk
  refine Aa rfl (Aa rfl (h4.put (k:=27) (Gu X) {L with off:=0} (by decide) rfl rfl rfl (fun _ _=>rfl) fun st5 h5 f5=>Aa rfl (Aa rfl (h5.put (k:=28) (Gu X) {L with off:=0,err:=10} (by decide) rfl rfl rfl (fun _ _=>rfl) fun st6 h6 f6=>?_))))
  have ft:=(f4.trans f5).trans f6
  exact NC h6 (by show L.held.length<=_;omega) (by show L.out.length<=_;omega) fun v st7 I7 h7 nb7 l7 b7 hv=>hk v st7 I7 h7 (Nat.le_trans ft.nb nb7) (frK ft l7) (fun b x1 x2 x3 x4=>(b7 b x1 x2 x3 (Nat.lt_of_lt_of_le x4 ft.nb)).trans (ft.box b x1 x2 x3 x4)) hv
 ·rw[hsz,hlb]at g3
  rw[if_neg g3]at hk
  refine Aa rfl (Aa rfl (h4.ld (k:=24) (x:= .int .i64 (Gu X).text) (fun _ _=>rfl) (Ao (Ac (fun g5=>?_) fun g5=>?_))))
  ·rw[if_pos g5]at hk
   refine Aa rfl (Aa rfl (h4.ld (k:=24) (x:= .int .i64 (Gu X).text) (fun _ _=>rfl) (Ao (Aa rfl (Aa rfl (h4.put (k:=27) (Gu X) {L with off:=(Gu X).text} (by decide) rfl rfl rfl (fun _ _=>rfl) fun st5 h5 f5=>Aa rfl (Aa rfl (h5.put (k:=28) (Gu X) {L with off:=(Gu X).text,err:=5} (by decide) rfl rfl rfl (fun _ _=>rfl) fun st6 h6 f6=>?_))))))))
   have ft:=(f4.trans f5).trans f6
   exact NC h6 (by show L.held.length<=_;omega) (by show L.out.length<=_;omega) fun v st7 I7 h7 nb7 l7 b7 hv=>hk v st7 I7 h7 (Nat.le_trans ft.nb nb7) (frK ft l7) (fun b x1 x2 x3 x4=>(b7 b x1 x2 x3 (Nat.lt_of_lt_of_le x4 ft.nb)).trans (ft.box b x1 x2 x3 x4)) hv
  ·rw[if_neg g5]at hk
   exact NC h4 (by omega) (by omega) fun v st7 I7 h7 nb7 l7 b7 hv=>hk v st7 I7 h7 (Nat.le_trans f4.nb nb7) (frK f4 l7) (fun b x1 x2 x3 x4=>(b7 b x1 x2 x3 (Nat.lt_of_lt_of_le x4 f4.nb)).trans (f4.box b x1 x2 x3 x4)) hv
end
end
theorem Sn:∀(n:Nat) (l:B8),l.length<=n->A7 l<=l.length/\ul (l.drop (A7 l))=0/\A7 (l.take (A7 l))=A7 l:=by
 intro n
 induction n with
 | zero=>
  intro l hl
  have:l=[]:=List.eq_nil_of_length_eq_zero (by omega)
  subst this
  rw[GC]
  exact⟨Nat.le_refl _,by simp[ul],GC⟩
 | succ n ih=>
  intro l hl
  by_cases hu:ul l=0
  ·rw[Cg _ hu]
   exact⟨Nat.zero_le _,hu,by rw[List.take_zero];exact GC⟩
  ·have hle:=Mx l
   obtain⟨h1,h2,h3⟩:=ih (l.drop (ul l)) (by rw[List.length_drop];omega)
   rw[D8 _ hu]
   rw[List.length_drop]at h1
   refine⟨by omega,by rw[<-List.drop_drop];exact h2,?_⟩
   have ht:=(TP (m:=ul l+A7 (l.drop (ul l))) hu (by omega)).1
   rw[D8 _ (by rw[ht];exact hu),ht]
   congr 1
   rw[List.drop_take]
   have:ul l+A7 (l.drop (ul l))-ul l=A7 (l.drop (ul l)):=by omega
   rw[this];exact h3
structure TxP (P:B8) (X:RX):Prop where
 size:X.size=P.length
 st:(X.text<0/\∃a,P=a++X.cut/\A7 a=a.length/\ul X.cut=0)∨(0<=X.text/\X.cut=[]/\∀ext,(A7 (P++ext):Int)=X.text/\X.text<P.length)
theorem TxP.feed {P s:B8} {X:RX} (h:TxP P X):TxP (P++s) (DS s X):=by
 have hsz:(DS s X).size=(P++s).length:=by
  show(BK s false (BL X)).size+(s.length:Int)=_
  rw[F8,List.length_append]
  show X.size+(s.length:Int)=_
  rw[h.size];omega
 refine⟨hsz,?_⟩
 show((BK s false (BL X)).text<0/\_)∨_
 rcases h.st with⟨h1,a,rfl,h3,h4⟩ | ⟨h1,h2,h3⟩
 ·have e:BK s false (BL X)=L8 (X.cut++s) (A7 (X.cut++s)) false (X.size-(X.cut.length:Int)) (BL X):=if_neg (by show ¬0<=X.text;omega)
  have hz:X.size-(X.cut.length:Int)=a.length:=by rw[h.size,List.length_append];omega
  show _∨(0<=(BK s false (BL X)).text/\(BK s false (BL X)).cut=[]/\_)
  unfold DS Q4
  rw[e,hz]
  obtain⟨v1,v2,v3⟩:=Sn _ (X.cut++s) (Nat.le_refl _)
  generalize ht:X.cut++s=t at*
  have hP:a++X.cut++s=(a++t.take (A7 t))++t.drop (A7 t):=by rw[List.append_assoc,ht,List.append_assoc,List.take_append_drop]
  have ha:A7 (a++t.take (A7 t))=(a++t.take (A7 t)).length:=QF h3 (by rw[v3,List.length_take];omega)
  have hal:(a++t.take (A7 t)).length=a.length+A7 t:=by rw[List.length_append,List.length_take];omega
  unfold L8
  by_cases hc:t.drop (A7 t)≠ []/\(false=true∨NW (t.drop (A7 t))=false)
  ·rw[if_pos hc]
   have hb:NW (t.drop (A7 t))=false:=hc.2.elim (fun q=>by cases q) id
   refine .inr ⟨by show(0:Int)<=(a.length:Int)+(A7 t:Int);omega,rfl,fun ext=>?_⟩
   show((A7 (a++X.cut++s++ext):Nat):Int)=(a.length:Int)+(A7 t:Int)/\(a.length:Int)+(A7 t:Int)<_
   rw[hP,List.append_assoc (a++t.take (A7 t)),Mo _ _ _ (Nat.le_refl _) ha,Sl hc.1 v2 hb ext,hal]
   have hpos:=List.length_pos_iff.2 hc.1
   refine⟨by omega,?_⟩
   rw[List.length_append,hal];omega
  ·rw[if_neg hc]
   exact .inl ⟨h1,a++t.take (A7 t),hP,ha,v2⟩
 ·have e:BK s false (BL X)=BL X:=if_pos h1
  unfold DS Q4
  rw[e]
  refine .inr ⟨h1,h2,fun ext=>?_⟩
  obtain⟨k1,k2⟩:=h3 (s++ext)
  rw[<-List.append_assoc]at k1
  exact⟨k1,by show X.text<_;rw[List.length_append];omega⟩
theorem TxP.done {P:B8} {X:RX} (h:TxP P X):if A7 P=P.length then(Gu X).text<0 else(Gu X).text=A7 P:=by
 unfold Gu
 rcases h.st with⟨h1,a,rfl,h3,h4⟩ | ⟨h1,h2,h3⟩
 ·have e:BK [] true (BL X)=L8 (X.cut++[]) (A7 (X.cut++[])) true (X.size-(X.cut.length:Int)) (BL X):=if_neg (by show ¬0<=X.text;omega)
  rw[e,List.append_nil,Cg _ h4]
  unfold L8
  have hv:A7 (a++X.cut)=a.length:=by rw[Mo _ _ _ (Nat.le_refl _) h3,Cg _ h4];rfl
  have hz:X.size-(X.cut.length:Int)=a.length:=by rw[h.size,List.length_append];omega
  rw[List.drop_zero,hv,hz,List.length_append]
  by_cases hc:X.cut=[]
  ·rw[if_pos (by rw[hc];rfl),if_neg (fun q=>q.1 hc)]
   exact h1
  ·have hpos:=List.length_pos_iff.2 hc
   rw[if_neg (by omega),if_pos ⟨hc,.inl rfl⟩]
   show(a.length:Int)+((0:Nat):Int)=_
   omega
 ·have e:BK [] true (BL X)=BL X:=if_pos h1
  rw[e]
  obtain⟨k1,k2⟩:=h3 []
  rw[List.append_nil]at k1
  rw[if_neg (by omega)]
  exact k1.symm
section
def E7 (a q:Int) (hd ty:Bool) (l0 l1 size:Int):SC:=⟨a,q,hd,ty,l0,l1,size.toNat⟩
def Kc (l2 l3 l4:Int):RX:=⟨false,0, -1,[],false,l2,l3,l4⟩
def Id (a q l0 l1 l2 l3 l4 size:Int):Prop:=(1<=size/\size<=65536)/\dOk a q=true/\lOk l0 l1 l2 l3 l4=true
theorem TxP.start (l2 l3 l4:Int):TxP [] (Kc l2 l3 l4):=⟨rfl,.inl ⟨by show(-1:Int)<0;decide,[],rfl,GC,by simp[ul,Kc]⟩⟩
theorem Nu (st:St) (o:IM) (T:Option Nat):Ay st (st.push o T):=
 ⟨Nat.le_succ _,fun i hi=>by simp[St.push,Nat.ne_of_lt hi],Nat.le_refl _,fun _ _=>rfl,fun _ _=>rfl,fun i hi=>by simp[St.push,Nat.ne_of_lt hi]⟩
theorem UA {a q:Int} {hd ty:Bool} {l0 l1 l2 l3 l4 size:Int} {st:St} {K:TV->Int->St->Prop}
  (hk0:¬Id a q l0 l1 l2 l3 l4 size->∀st',Ay st st'->K .nilPtr 1 st')
  (hk1:Id a q l0 l1 l2 l3 l4 size->∀st',Ay st st'->RB (E7 a q hd ty l0 l1 size) (Kc l2 l3 l4) RA.start (st.nb+2) st.nb (st.nb+1) [] st'->K (.box (st.nb+2) 0) 0 st'):
  Ae PR Cs [.agg [.int .u8 a,.int .u8 q,.bool hd,.bool ty],.agg [.int .i64 l0,.int .i64 l1,.int .i64 l2,.int .i64 l3,.int .i64 l4],.int .i64 size] [.one .tv,.one (.int .i64)] st K:=by
 refine Jj a q hd ty l0 l1 l2 l3 l4 size st K (N5 size st _ (Ac (fun g=>?_) fun g=>Ac (fun g1=>?_) fun g1=>?_))
 ·exact Ac (fun _=>hk0 (fun h=>by have:=h.1.1;omega) st (Ay.refl st)) fun h=>absurd (by decide) h
 ·exact Ac (fun _=>hk0 (fun h=>by have:=h.1.2;omega) st (Ay.refl st)) fun h=>absurd (by decide) h
 have e1:=Nu st (.cells [.int .i64 size,.nilSlice,.int .i64 0,.bool false]) (some 194)
 refine Ac (fun h=>absurd rfl h) fun _=>Pd (Au (fun g2=>?_) fun g2=>M5 (Au (fun g3=>?_) fun g3=>?_))
 ·have g2':=(Bool.not_eq_true' _).mp g2
  exact hk0 (fun h=>by rw[h.2.1]at g2';cases g2') _ e1
 ·have g3':=(Bool.not_eq_true' _).mp g3
  exact hk0 (fun h=>by rw[h.2.2]at g3';cases g3') _ e1
 have g2':=(Bool.not_eq_false' _).mp g2
 have g3':=(Bool.not_eq_false' _).mp g3
 refine Aa rfl (hk1 ⟨⟨by omega,by omega⟩,g2',g3'⟩ _ ((e1.trans (Nu _ _ _)).trans (Nu _ _ _)) ?_)
 have hsz:((size.toNat:Nat):Int)=size:=Int.toNat_of_nonneg (by omega)
 refine⟨by simp[St.push],by simp[St.push];omega,by simp[St.push],by omega,by omega,by omega,.nilSlice,.nilSlice,.nilSlice,0,[],[],[],[],?_,?_,?_,fun t=>by simp[Cn,RA.start],Da.nil _ _,Da.nil _ _,Da.nil _ _,by simp,rfl⟩
 ·simp[St.push];rfl
 ·simp[St.push,E7,hsz];omega
 ·simp[St.push]
section
variable {c:SC} {X:RX} {A:RA} {r w m k:Nat} {I:List Nat} {st:St}
end
end
section
structure FI (c:SC) (P:B8) (k:Nat) (X:RX) (A:RA):Prop where
 tx:TxP P X
 ended:X.ended=false
 sz:Sz k A
 w:A.err=0->W c A
def FX (A:RA):RA:={A with out:=[]}
theorem FI.start (c:SC) (l2 l3 l4:Int):FI c [] 1 (Kc l2 l3 l4) RA.start:=
 ⟨TxP.start l2 l3 l4,rfl,⟨Nat.zero_le _,Nat.zero_le _,Nat.zero_le _,Nat.zero_le _,Nat.zero_le _,by decide,by decide⟩,fun _=>W.start c⟩
theorem Qm (s:B8) (last:Bool) (X:RX):(BK s last X).ended=X.ended:=by
 unfold BK L8
 split
 ·rfl
 ·split<;>rfl
theorem FI.feed {c:SC} {P s:B8} {k:Nat} {X:RX} {A:RA} (h:FI c P k X A):FI c (P++s) (k+1+3*s.length) (DS s X) (FX (Ce c s X A)):=by
 have z:=Sz.run (c:=c) s X.size (h.sz.begin X)
 refine⟨h.tx.feed,?_,⟨z.hl,Nat.zero_le _,z.cl,z.nl,z.rl,z.n0,z.n1⟩,fun he=>?_⟩
 ·show(BK s false (BL X)).ended=false
  rw[Qm];exact h.ended
 ·have hw:=W.run (c:=c) s X.size (fun he=>(h.w (by rw[<-Ll X A];exact he)).begin X) (show(B9 c s X.size (B0 X A)).err=0 from he)
  exact⟨hw.ph,hw.wi,hw.held,hw.nm,hw.cw⟩
theorem FI.cut {c:SC} {P:B8} {k:Nat} {X:RX} {A:RA} (h:FI c P k X A):X.cut.length<=P.length:=by
 rcases h.tx.st with⟨_,a,e,_⟩ | ⟨_,e,_⟩
 ·have:=congrArg List.length e
  rw[List.length_append]at this
  omega
 ·rw[e];exact Nat.zero_le _
def BZ (c:SC):List B8->RX×RA×List Ev->RX×RA×List Ev
 | [],p=>p
 | s::r,(X,A,o)=>BZ c r (DS s X,FX (Ce c s X A),o++(Ce c s X A).out)
theorem LG (c:SC) (s:B8):∀(l:List B8) (p:RX×RA×List Ev),BZ c (l++[s]) p=(DS s (BZ c l p).1,FX (Ce c s (BZ c l p).1 (BZ c l p).2.1),(BZ c l p).2.2++(Ce c s (BZ c l p).1 (BZ c l p).2.1).out)
 | [],(X,A,o)=>rfl
 | x::l,(X,A,o)=>LG c s l _
section
variable {c:SC} {X:RX} {A:RA} {r w m k:Nat} {I:List Nat} {st:St}
theorem R4 (h:RB c X A r w m I st) (hl:A.names.length<=90000000) {K:TV->St->Prop} (hk1:(A.told=false∨c.hd=false)->K .nilSlice st)
  (hk:A.told=true->c.hd=true->∀v st1,Rd 1 v A.names.length (A.names.map TV.str)->RB c X A r w m I st1->FrB r w m I I st st1->K v st1):
  Ae PR BA [.box r 0] [.one .tv] st K:=by
 obtain⟨nv,ov,hv,wo,es,I1,I2,I3,h1,h2,h3,h4,h5,h6,h7,h8,h9⟩:=h.ex
 refine Er r st K (h.ld (k:=18) (x:= .bool A.told) (fun _ _=>rfl) (Aq (Au (fun g=>hk1 (.inl ((Bool.not_eq_true' _).mp g))) fun g=>?_)))
 refine h.ld (k:=3) (x:= .bool c.hd) (fun _ _=>rfl) (Aq (Au (fun g2=>hk1 (.inr ((Bool.not_eq_true' _).mp g2))) fun g2=>?_))
 have hk:=hk ((Bool.not_eq_false' _).mp g) ((Bool.not_eq_false' _).mp g2)
 have hsrc:BI st 1 nv=some (A.names.length,A.names.map TV.str):=by
  rcases h5 with⟨rfl,e1,e2,_⟩ | ⟨rfl,_⟩ | ⟨id,rfl,_⟩
  ·rw[e1,e2];rfl
  ·rfl
  ·rfl
 have hall:List.all (A.names.map TV.str) Ap=true:=by
  rw[List.all_eq_true]
  intro x hx
  obtain⟨t,_,rfl⟩:=List.mem_map.1 hx
  rfl
 have ho:Da 1 st (.list 1 .full 0 []) 0 [] []:= .inr (.inl ⟨rfl,rfl⟩)
 refine Ad (x:=nv) (by simp only[Ab,h1];rfl) (Ad hsrc (Aa hall ?_))
 refine JF ho (by omega) (fun g=>by rw[List.eq_nil_of_length_eq_zero g];rfl) fun v st1 J o1 f1 hJ hb hn hbt=>?_
 have e:=o1.rd
 rw[Nat.zero_add,List.nil_append]at e
 exact hk v st1 e (h.frt f1 hb hn fun _ _ q=>by cases q) ⟨Nat.le_of_eq hn.symm,f1.nt,fun b _ _ _ _=>by rw[hb],fun id hi _=>f1.live id hi fun q=>(by cases q),fun _ q=> .inl q⟩
end
end
section
theorem RP (l:List Ev):List.all (DG l) Ap=true:=by
 induction l with
 | nil=>rfl
 | cons e l ih=>
  show List.all (evT e++DG l) Ap=true
  rw[List.all_append,ih,Bool.and_true]
  cases e<;>rfl
theorem Wc {st st':St} {v:TV} {l:List Ev} {J:List Nat} (h:Da 15 st v l.length (DG l) J):BI st' 15 v=some (l.length,DG l):=by
 rcases h with⟨rfl,e1,e2,_⟩ | ⟨rfl,_⟩ | ⟨id,rfl,_⟩
 ·rw[e1,e2];rfl
 ·rfl
 ·rfl
theorem rd_src {st':St} {v:TV} {l:List Ev} (h:Rd 15 v l.length (DG l)):BI st' 15 v=some (l.length,DG l):=by
 rcases h with⟨rfl,e1,e2⟩ | ⟨tip,rfl⟩
 ·rw[e1,e2];rfl
 ·rfl
section
variable {c:SC} {X:RX} {A:RA} {r w m k:Nat} {I:List Nat} {st:St}
theorem RB.lt (h:RB c X A r w m I st):∀id,id∈I->id<st.nt:=by
 obtain⟨nv,ov,hv,wo,es,I1,I2,I3,h1,h2,h3,h4,h5,h6,h7,h8,rfl⟩:=h.ex
 intro id hid
 rcases List.mem_append.1 hid with hid | hid
 ·exact(List.mem_append.1 hid).elim (h5.lt id) (h6.lt id)
 ·exact h7.lt id hid
theorem Tl (h:RB c X A r w m I st) {P s:B8} (f:FI c P k X A) (hwin:c.win<=100000000) (hk8:k+1+3*s.length<=700000) (hP:P.length<=1000000) {out:TV} {o:List Ev} {Io:List Nat} (ho:Da 15 st out o.length (DG o) Io) (hol:o.length<=100000000000) (hd:∀id,id∈Io->id∉I) {K:TV->St->Prop}
  (hk:∀v st' I' J,RB c (DS s X) (FX (Ce c s X A)) r w m I' st'->Da 15 st' v (o++(Ce c s X A).out).length (DG (o++(Ce c s X A).out)) J->(∀id,id∈J->id∉I')->st.nb<=st'.nb->(∀b,b≠r->b≠w->b≠m->b<st.nb->st'.box b=st.box b)->K v st'):
  Ae PR AN [.box r 0,.str s] [.one .tv,.one (.int .i64)] st fun (v2:TV) (n2:Int) (st3:St)=>Af (BI st3 15 v2) fun (q1:Nat×List TV)=>need (List.all q1.2 Ap) (AF 118 15 192 out q1.1 q1.2 st3 fun (v3:TV) (st4:St)=>K v3 st4):=by
 have hc:=f.cut
 have hs:=f.tx.size
 have zf:=Sz.run (c:=c) s X.size (f.sz.begin X)
 have zo:=zf.ol
 refine Kq h f.sz hwin f.w (by omega) (by omega) ⟨by omega,by omega⟩ (fun g=>by rw[f.ended]at g;cases g) fun _ v st3 I' J h3 f3 o3 d3=>?_
 refine Ad (Wc o3) (Aa (RP _) ?_)
 have ho3:Da 15 st3 out o.length (DG o) Io:=ho.keep (J:=I) ⟨f3.nt,f3.live⟩ hd
 have hfo:(Ce c s X A).out.length<=3000000:=Nat.le_trans zo (by omega)
 have hdis:∀id,id∈I'->id∉Io:=fun id hi hj=>by
  have hlt:=ho.lt id hj
  rcases f3.sub id hi with q | q
  ·exact hd id hj q
  ·omega
 refine JF ho3 (by omega) (fun g=>by rw[List.eq_nil_of_length_eq_zero g];rfl) fun v' st4 J' o4 f4 hJ hb hn hbt=>?_
 refine hk v' st4 I' J' (h3.frt f4 hb hn hdis) ?_ (fun id hid hi=>?_) (by rw[hn];exact f3.nb) (fun b x1 x2 x3 x4=>by rw[hb];exact f3.box b x1 x2 x3 x4)
 ·rw[List.length_append,Kl];exact o4
 ·rcases hJ with rfl | rfl
  ·exact hdis id hi hid
  ·rw[List.mem_singleton]at hid
   have:=h3.lt id hi
   omega
end
end
def FD (c:SC) (l2 l3 l4:Int) (ps:List B8):RX×RA×List Ev:=BZ c ps (Kc l2 l3 l4,RA.start,[])
theorem O1 (ps:List B8) (j:Nat) (h:j<ps.length):((ps.take (j+1)).flatten).length=((ps.take j).flatten).length+(ps.getD j []).length:=by
 rw[Db _ _ [] h];simp
theorem Nm (ps:List B8) (j:Nat):((ps.take j).flatten).length<=ps.flatten.length:=by
 have:ps.flatten=(ps.take j).flatten++(ps.drop j).flatten:=by rw[<-List.flatten_append,List.take_append_drop]
 rw[this,List.length_append];omega
theorem Tn {ps:List B8} {parts:TV} (hp:Rd 1 parts ps.length (ps.map TV.str)) (hsz:ps.length+3*ps.flatten.length<=30000) {a q:Int} {hd ty:Bool} {l0 l1 l2 l3 l4 size:Int} {st:St} {K:TV->Int->Int->St->Prop}
  (hk0:¬Id a q l0 l1 l2 l3 l4 size->∀st',Ay st st'->K .nilSlice 0 1 st')
  (hk1:Id a q l0 l1 l2 l3 l4 size->∀p E,p=FD (E7 a q hd ty l0 l1 size) l2 l3 l4 ps->E=II (E7 a q hd ty l0 l1 size) p.1 p.2.1->∀v st',st.nb<=st'.nb->(∀b,b<st.nb->st'.box b=st.box b)->
   (if E.err≠0 then v= .nilSlice else Rd 15 v (p.2.2++(E.out++[Ev.le])).length (DG (p.2.2++(E.out++[Ev.le]))))->K v (if E.err≠0 then E.off else 0) E.err st'):
  Ae PR A5 [parts,.agg [.int .u8 a,.int .u8 q,.bool hd,.bool ty],.agg [.int .i64 l0,.int .i64 l1,.int .i64 l2,.int .i64 l3,.int .i64 l4],.int .i64 size] [.one .tv,.one (.int .i64),.one (.int .i64)] st K:=by
 refine HG parts a q hd ty l0 l1 l2 l3 l4 size st K (UA (fun g st1 e1=>Ac (fun _=>hk0 g st1 e1) fun h=>absurd (by decide) h) fun g st1 e1 hR=>Ac (fun h=>absurd rfl h) fun _=>Aa hp.isSl ?_)
 have hk:=fun p E=>hk1 g p E
 have hwin:(E7 a q hd ty l0 l1 size).win<=100000000:=by show size.toNat<=_;have:=g.1;omega
 generalize E7 a q hd ty l0 l1 size=c at*
 refine⟨fun out n r v n2 st2=>∃(j k:Nat) (I Io:List Nat) (X:RX) (A:RA) (o:List Ev),n=(j:Int)/\r= .box (st.nb+2) 0/\v=parts/\n2=(ps.length:Int)/\j<=ps.length/\k<=1+j+3*((ps.take j).flatten).length/\FI c (ps.take j).flatten k X A/\RB c X A (st.nb+2) st.nb (st.nb+1) I st2/\Da 15 st2 out o.length (DG o) Io/\
   o.length<=j*3000000/\(∀id,id∈Io->id∉I)/\st.nb<=st2.nb/\(∀b,b<st.nb->st2.box b=st.box b)/\BZ c (ps.take j) (Kc l2 l3 l4,RA.start,[])=(X,A,o),fun _ n _ _ _ _=>ps.length-n.toNat,
  ⟨0,1,[],[],_,_,[],rfl,rfl,rfl,by rw[hp.lenS],Nat.zero_le _,by simp,FI.start c l2 l3 l4,hR,Da.nil _ _,Nat.zero_le _,fun _ h=>(by cases h),e1.nb,e1.box,rfl⟩,?_⟩
 rintro out n r v n2 st2 ⟨j,k,I,Io,X,A,o,rfl,rfl,rfl,rfl,hj,hk8,hF,hB,ho,hol,hdis,hnb,hbx,hfe⟩
 have hfl:=Nm ps j
 refine Ac (fun g1=>?_) fun g1=>?_
 ·have hj1:j<ps.length:=by omega
  have hf1:=O1 ps j hj1
  have hf2:=Nm ps (j+1)
  refine⟨⟨by omega,by rw[hp.lenZ];omega⟩,Ad (x:= .str (ps.getD j [])) ?_ (Al ?_)⟩
  ·rw[Int.toNat_natCast,hp.ld st2 j 0 (by simp;exact hj1)]
   simp[List.getD_eq_getElem?_getD,hj1]
  refine Tl hB hF hwin (by omega) (by omega) ho (by omega) hdis fun v' st3 I3 J3 h3 o3 d3 nb3 b3=>⟨⟨j+1,k+1+3*(ps.getD j []).length,I3,J3,_,_,_,?_,rfl,rfl,rfl,hj1,by omega,?_,h3,o3,?_,d3,Nat.le_trans hnb nb3,fun b hb=>?_,?_⟩,?_⟩
  ·rw[As _ (by omega) (by omega)];omega
  ·have:=hF.feed (s:=ps.getD j [])
   rw[Db _ _ [] hj1]
   simpa using this
  ·have zf:=(Sz.run (c:=c) (ps.getD j []) X.size (hF.sz.begin X)).ol
   have:(Ce c (ps.getD j []) X A).out.length<=4*(k+1+3*(ps.getD j []).length):=zf
   rw[List.length_append];omega
  ·rw[b3 b (by omega) (by omega) (by omega) (by omega)];exact hbx b hb
  ·rw[Db _ _ [] hj1,LG,hfe]
  ·show ps.length-Int.toNat _<ps.length-Int.toNat _
   rw[As _ (by omega) (by omega)];omega
 ·have hj':j=ps.length:=by omega
  have hall:ps.take j=ps:=List.take_of_length_le (by omega)
  rw[hall]at hfe hF
  have hs:=hF.tx.size
  have hc:=hF.cut
  have hk:=hk (X,A,o) (II c X A) hfe.symm rfl
  have zo:(II c X A).out.length<=4000000:=by
   have zb:=hF.sz.begin X
   have zl:Sz (k+4) (EP c X A):=by
    unfold EP
    split
    ·exact zb.last X.size
    ·exact zb.mono (by omega)
   have:=zl.ol
   unfold II
   split
   ·show(EP c X A).out.length<=_;omega
   split
   ·show(EP c X A).out.length<=_;omega
   ·omega
  refine UB hB hF.sz hwin hF.w (by omega) (by omega) ⟨by omega,by omega⟩ (fun g=>by rw[hF.ended]at g;cases g) fun _ v' st3 I3 h3 nb3 l3 b3 hv=>Ac (fun g3=>?_) fun g3=>?_
  ·rw[if_pos g3]at hk
   exact Aa rfl (Aa rfl (h3.ld (k:=27) (x:= .int .i64 (II c X A).off) (fun _ _=>rfl) (Ao (hk .nilSlice st3 (Nat.le_trans hnb nb3) (fun b hb=>by rw[b3 b (by omega) (by omega) (by omega) (by omega)];exact hbx b hb) (by rw[if_pos g3])))))
  ·rw[if_neg g3]at hk hv
   have e0:(II c X A).err=0:=by omega
   have ho3:=ho.keep l3 hdis
   refine Ad (rd_src hv) (Aa (RP _) (JF ho3 ?_ (fun h=>?_) fun v5 st6 J6 o6 f6 hJ6 hb6 hn6 hbt6=>?_))
   ·rw[List.length_append,List.length_singleton];omega
   ·rw[List.length_append,List.length_singleton]at h;omega
   ·have o6r:=o6.rd
    rw[<-Kl,<-List.length_append]at o6r
    have hf:=hk v5 st6 (by rw[hn6];exact Nat.le_trans hnb nb3) (fun b hb=>by rw[hb6,b3 b (by omega) (by omega) (by omega) (by omega)];exact hbx b hb) (by rw[if_neg g3];exact o6r)
    rw[e0]at hf
    exact hf
section
def AX (p:List Ev) (A:RA):RA:={A with out:=p++A.out}
variable {c:SC} {A:RA} {p:List Ev}
theorem C8 (o e:Int):Bc (AX p A) o e=AX p (Bc A o e):=by
 unfold Bc
 show(if A.err=0 then _ else _)=_
 split<;>rfl
theorem N0 (e:Int):BE (AX p A) e=AX p (BE A e):=by
 unfold BE
 show(if A.late=0 then _ else _)=_
 split<;>rfl
theorem Pv (d:Int):Bz c (AX p A) d=AX p (Bz c A d):=by
 unfold Bz
 show ER (if c.dep<d then BE (AX p A) 9 else if c.nod<=A.nodes then BE (AX p A) 10 else AX p A)=_
 rw[N0,N0]
 split
 ·rfl
 ·split<;>rfl
theorem Px (o:Int):AJ c (AX p A) o=AX p (AJ c A o):=by
 have e1:AI c (AX p A) o=AX p (AI c A o):=by
  unfold AI
  show(if A.within=true then _ else if AR c A=true then _ else Bz c (AX p {A with frm:=o,within:=true,cells:=0}) 2)=_
  rw[Pv]
  split
  ·rfl
  ·split<;>rfl
 have e2:∀B:RA,Cd (AX p B)=AX p (Cd B):=fun B=>by
  unfold Cd
  show(if 0<B.rows/\B.width<=B.cells then BE (AX p B) 10 else _)=_
  rw[N0]
  split<;>rfl
 have e3:∀B:RA,Dx c (AX p B)=AX p (Dx c B):=fun B=>by
  unfold Dx
  show(if AR c B=true then _ else Bz c (AX p B) 3)=_
  rw[Pv]
  split<;>rfl
 unfold AJ
 rw[e1,e2,e3]
theorem N1 (b:UInt8):Cj c b (AX p A)=AX p (Cj c b A):=by
 unfold Cj
 show(if c.win<=A.held.length then Bc (AX p A) A.frm 28 else _)=_
 rw[C8]
 split<;>rfl
theorem Sf (o e:Int):EW (AX p A) o e=AX p (EW A o e):=by
 unfold EW
 show Bc (if A.late≠0 then Bc (AX p A) A.frm A.late else AX p A) o e=_
 rw[C8]
 split
 ·rw[C8]
 ·rw[C8]
theorem Hq (o:Int):AH c (AX p A) o=AX p (AH c A o):=by
 have e1:Cf (AX p A)=AX p (Cf A):=by
  unfold Cf
  show(if A.rows=0 then _ else _)=_
  split<;>rfl
 have e2:∀B:RA,Cp c (AX p B) o=AX p (Cp c B o):=fun B=>by
  unfold Cp
  show(if B.cells<B.width then Bc (AX p B) o 10 else _)=_
  rw[C8]
  split
  ·rfl
  ·unfold AX
   simp only[List.append_assoc]
   rfl
 unfold AH
 show(if A.err≠0 then _ else _)=_
 rw[e1,e2]
 split<;>rfl
theorem W7 (t:B8) (qd:Bool):Ls c (AX p A) t qd=AX p (Ls c A t qd):=by
 by_cases hh:AR c A=true
 ·have hh':AR c (AX p A)=true:=hh
  unfold Ls
  rw[if_pos hh,if_pos hh']
  by_cases h1:1024<t.length
  ·simp only[if_pos h1,C8];rfl
  ·by_cases h2:t∈A.names
   ·have h2':t∈(AX p A).names:=h2
    simp only[if_neg h1,if_pos h2,if_pos h2',C8];rfl
   ·have h2':¬t∈(AX p A).names:=h2
    simp only[if_neg h1,if_neg h2,if_neg h2'];rfl
 ·have hh':¬AR c (AX p A)=true:=hh
  unfold Ls
  rw[if_neg hh,if_neg hh']
  by_cases h1:65536<t.length
  ·rw[if_pos h1,if_pos h1,C8];rfl
  ·rw[if_neg h1,if_neg h1]
   unfold AX
   simp only[List.append_assoc]
theorem N2:AW c (AX p A)=AX p (AW c A):=by
 by_cases hl:A.late≠0
 ·unfold AW
  rw[if_pos hl,if_pos (show(AX p A).late≠0 from hl)]
  exact C8 (A:={A with held:=[]}) A.frm A.late
 ·rw[JC c A hl,JC c (AX p A) hl]
  exact W7 (A:={A with held:=[]}) _ _
theorem Py (b:UInt8) (o:Int):CI c b o (AX p A)=AX p (CI c b o A):=by
 unfold CI
 rw[N2]
 show(if (AW c A).err≠0 then _ else if (b.toNat:Int)=c.a then _ else if (b.toNat:Int)=10 then AH c (AX p (AW c A)) o else if (b.toNat:Int)=13 then _ else Bc (AX p (AW c A)) o 3)=_
 rw[Hq,C8]
 split
 ·rfl
 split
 ·rfl
 split
 ·rfl
 split<;>rfl
theorem Pw (b:UInt8) (o:Int):Cr c b o (AX p A)=AX p (Cr c b o A):=by
 unfold Cr
 rw[Py,Sf,N1]
 split
 ·rfl
 split<;>rfl
theorem W8 (b:UInt8) (o:Int):Bh c b o (AX p A)=AX p (Bh c b o A):=by
 have h1:∀(B:RA) (k:Nat),Cj c b {AX p B with ph:=k}=AX p (Cj c b {B with ph:=k}):=fun B k=>N1 (A:={B with ph:=k}) b
 have h2:∀(B:RA) (k:Nat),Cr c b o {AX p B with ph:=k}=AX p (Cr c b o {B with ph:=k}):=fun B k=>Pw (A:={B with ph:=k}) b o
 unfold Bh
 rw[Px,h1,h2,Pw,h1,Py,C8]
 show(if A.ph=0 then _ else if A.ph=1 then _ else if A.ph=2 then Cj c b (if (b.toNat:Int)=c.q then {AX p A with ph:=3} else AX p A)else if A.ph=3 then _ else if (b.toNat:Int)≠10 then _ else AH c (AX p A) A.line)=_
 rw[Hq]
 split
 ·split<;>rfl
 split
 ·rfl
 split
 ·split
  ·exact h1 A 3
  ·exact N1 b
 split
 ·split<;>rfl
 split<;>rfl
theorem Mj:∀(l:B8) (o:Int) (A:RA),B9 c l o (AX p A)=AX p (B9 c l o A)
 | [],o,A=>rfl
 | b::r,o,A=>by
  unfold B9
  show(if A.err≠0 then _ else _)=_
  rw[W8,Mj r]
  split<;>rfl
theorem Sg (o:Int):D1 c o (AX p A)=AX p (D1 c o A):=by
 unfold D1
 show(if A.ph=2∨A.ph=4 then _ else if A.ph=0 then(if A.within=true then _ else _)else _)=_
 rw[Sf,Px,N2,Hq,N2,Hq]
 split
 ·rfl
 split
 ·split<;>rfl
 ·rfl
end
theorem MP {c:SC}:∀(a b:B8) (o:Int) (A:RA),B9 c (a++b) o A=B9 c b (o+a.length) (B9 c a o A)
 | [],b,o,A=>by rw[List.nil_append,B9];simp
 | x::a,b,o,A=>by
  rw[List.cons_append,B9,B9]
  by_cases h:A.err≠0
  ·rw[if_pos h,if_pos h,MO h]
  ·rw[if_neg h,if_neg h,MP a b]
   have e:o+1+(a.length:Int)=o+((x::a).length:Int):=by rw[List.length_cons];omega
   rw[e]
theorem Se (F:RA):AX F.out (FX F)=F:=by
 unfold AX FX
 cases F
 simp
theorem add_add (p q:List Ev) (A:RA):AX p (AX q A)=AX (p++q) A:=by
 unfold AX
 simp only[List.append_assoc]
theorem LH (s:B8) (X:RX):(DS s X).begun=true:=by
 show(BK s false (BL X)).begun=true
 unfold BK L8
 split
 ·rfl
 ·split<;>rfl
theorem Jw (s:B8) (X:RX):(DS s X).size=X.size+s.length:=by
 show(BK s false (BL X)).size+(s.length:Int)=_
 rw[F8];rfl
theorem O3 (c:SC):∀(ps:List B8) (X:RX) (A:RA) (o:List Ev),X.begun=true->
  AX (BZ c ps (X,A,o)).2.2 (BZ c ps (X,A,o)).2.1=AX o (B9 c ps.flatten X.size A)/\(BZ c ps (X,A,o)).1.begun=true/\(BZ c ps (X,A,o)).1.size=X.size+ps.flatten.length
 | [],X,A,o,h=>⟨rfl,h,by show X.size=X.size+(0:Nat);omega⟩
 | s::r,X,A,o,h=>by
  obtain⟨h1,h2,h3⟩:=O3 c r (DS s X) (FX (Ce c s X A)) (o++(Ce c s X A).out) (LH s X)
  have hf:Ce c s X A=B9 c s X.size A:=by unfold Ce B0;rw[if_pos h]
  refine⟨?_,h2,?_⟩
  ·show AX (BZ c r _).2.2 (BZ c r _).2.1=_
   rw[h1,<-add_add,<-Mj,Se,Jw,hf,List.flatten_cons,MP]
  ·show(BZ c r _).1.size=_
   rw[h3,Jw,List.flatten_cons,List.length_append];omega
def Sw:RA:={RA.start with out:=[.ls]}
theorem end_add {c:SC} {X:RX} {A:RA} {o:List Ev} (hb:X.begun=true):AX o (EP c X A)=Qg c X.size (AX o A):=by
 unfold EP Qg B0
 rw[if_pos hb]
 show _=if A.err=0 then _ else _
 rw[Sg]
 split<;>rfl
theorem U6 (c:SC) (l2 l3 l4:Int) (ps:List B8):
  AX (FD c l2 l3 l4 ps).2.2 (EP c (FD c l2 l3 l4 ps).1 (FD c l2 l3 l4 ps).2.1)=Qg c (ps.flatten.length:Int) (B9 c ps.flatten 0 Sw):=by
 cases ps with
 | nil=>rfl
 | cons s r=>
  have hF:Ce c s (Kc l2 l3 l4) RA.start=B9 c s 0 Sw:=rfl
  obtain⟨h1,h2,h3⟩:=O3 c r (DS s (Kc l2 l3 l4)) (FX (Ce c s (Kc l2 l3 l4) RA.start)) ([]++(Ce c s (Kc l2 l3 l4) RA.start).out) (LH _ _)
  show AX (BZ c r _).2.2 (EP c (BZ c r _).1 (BZ c r _).2.1)=_
  rw[end_add h2,h1,h3,List.nil_append,<-Mj,Se,hF,Jw]
  have e0:(Kc l2 l3 l4).size=0:=rfl
  rw[e0,List.flatten_cons,MP,List.length_append]
  have e:(0:Int)+(s.length:Int)+(r.flatten.length:Int)=((s.length+r.flatten.length:Nat):Int):=by omega
  rw[e]
def evR (c:SC) (l2:Int) (s:B8):Except (Int×Int) (List Ev):=
 if l2<s.length then .error (0,10)else if A7 s≠s.length then .error ((A7 s:Int),5)
 else match DI (cxA c s) c.hd (s.length+1) [] 0 1 [] 0 with
  | .error p=> .error (Jd p (Dl c s 0))
  | .ok rs=>match Dl c s 0 with | some m=> .error ((m:Int),28) | none=> .ok ([Ev.ls]++(evD c rs++[Ev.le]))
def Pb (E:RA) (o:List Ev):Except (Int×Int) (List Ev):=if E.err≠0 then .error (E.off,E.err)else .ok (o++(E.out++[Ev.le]))
theorem QP (c:SC):∀(ps:List B8) (X:RX) (A:RA) (o:List Ev) (P:B8),TxP P X->TxP (P++ps.flatten) (BZ c ps (X,A,o)).1
 | [],X,A,o,P,h=>by rw[List.flatten_nil,List.append_nil];exact h
 | s::r,X,A,o,P,h=>by
  rw[List.flatten_cons,<-List.append_assoc]
  exact QP c r (DS s X) (FX (Ce c s X A)) (o++(Ce c s X A).out) (P++s) h.feed
theorem RE (c:SC):∀(ps:List B8) (X:RX) (A:RA) (o:List Ev),(BZ c ps (X,A,o)).1.lb=X.lb
 | [],X,A,o=>rfl
 | s::r,X,A,o=>(RE c r (DS s X) (FX (Ce c s X A)) (o++(Ce c s X A).out)).trans (Pq s false (BL X))
theorem add_fin {c:SC} {n:Int} {p:List Ev} {A:RA}:Qg c n (AX p A)=AX p (Qg c n A):=by
 unfold Qg
 show(if A.err=0 then _ else _)=_
 rw[Sg]
 split<;>rfl
theorem U4 (c:SC) (l2 l3 l4:Int) (ps:List B8):
  AX (FD c l2 l3 l4 ps).2.2 (EP c (FD c l2 l3 l4 ps).1 (FD c l2 l3 l4 ps).2.1)=AX [Ev.ls] (Bg c ps.flatten 0 RA.start):=by
 rw[U6]
 have h1:Sw=AX [Ev.ls] RA.start:=rfl
 rw[h1,Mj,add_fin]
 rfl
theorem U5 {c:SC} {l2 l3 l4:Int} {ps:List B8} (hwin:1<=c.win) (hac:c.a≠10/\c.a≠13) {p:RX×RA×List Ev} (hp:p=FD c l2 l3 l4 ps):
  Pb (II c p.1 p.2.1) p.2.2=evR c l2 ps.flatten:=by
 subst hp
 have ht:TxP ps.flatten (FD c l2 l3 l4 ps).1:=by
  have:=QP c ps (Kc l2 l3 l4) RA.start [] [] (TxP.start l2 l3 l4)
  rw[List.nil_append]at this
  exact this
 have hlb:(FD c l2 l3 l4 ps).1.lb=l2:=RE c ps (Kc l2 l3 l4) RA.start []
 have hf:=U4 c l2 l3 l4 ps
 generalize FD c l2 l3 l4 ps=p at*
 obtain⟨X,A,o⟩:=p
 simp only at*
 unfold II evR
 rw[ht.size,hlb]
 have hd:=ht.done
 by_cases g1:l2<ps.flatten.length
 ·rw[if_pos g1,if_pos g1]
  unfold Pb
  rw[if_pos (by show(10:Int)≠0;decide)]
 rw[if_neg g1,if_neg g1]
 by_cases g2:A7 ps.flatten=ps.flatten.length
 case neg=>
  rw[if_neg g2]at hd
  rw[if_pos (by omega),if_pos g2]
  unfold Pb
  rw[if_pos (by show(5:Int)≠0;decide)]
  show Except.error ((Gu X).text,(5:Int))=_
  rw[hd]
 rw[if_pos g2]at hd
 rw[if_neg (by omega),if_neg (fun h=>h g2)]
 generalize hF:Bg c ps.flatten 0 RA.start=F at hf
 have e1:(EP c X A).err=F.err:=show(AX o (EP c X A)).err=(AX [Ev.ls] F).err from by rw[hf]
 have e2:(EP c X A).off=F.off:=show(AX o (EP c X A)).off=(AX [Ev.ls] F).off from by rw[hf]
 have e3:o++(EP c X A).out=[Ev.ls]++F.out:=show(AX o (EP c X A)).out=(AX [Ev.ls] F).out from by rw[hf]
 have hE:Pb (EP c X A) o=match obs F with | .error x=> .error x | .ok y=> .ok ([Ev.ls]++(y.1++[Ev.le])):=by
  unfold Pb obs
  rw[e1,e2,<-List.append_assoc,e3,List.append_assoc]
  by_cases h0:F.err=0
  ·rw[if_pos h0,if_neg (fun h=>h h0)]
  ·rw[if_neg h0,if_pos h0]
 rw[hE,<-hF]
 obtain⟨d1,d2⟩:=doc_run (s:=ps.flatten) hwin hac (ps.flatten.length+1) [] 0 RA.start 1 [] 0 (Nat.zero_le _) (by omega) (InD.start c)
 cases hD:DI (cxA c ps.flatten) c.hd (ps.flatten.length+1) [] 0 1 [] 0 with
 | error x=>
  rw[(d1 x.1 x.2 hD).2]
 | ok rs=>
  rcases d2 rs hD with⟨h1,h2⟩ | ⟨m,h1,h2⟩
  ·rw[h2,h1]
  ·rw[h2,h1]
end Go.TVF
