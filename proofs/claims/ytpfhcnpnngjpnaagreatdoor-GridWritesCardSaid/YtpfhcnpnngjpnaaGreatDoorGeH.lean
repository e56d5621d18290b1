/- What the laws below rest on: a framework for Go programs, and contracts of the functions that they reach. -/
import Derived.Test.YtpfhcnpnngjpnaaGreatDoorGeG
set_option maxRecDepth 20000
set_option linter.unusedVariables false
set_option linter.unusedSimpArgs false
namespace Go.TVF
open Go.IntKind(i64 u8)
open Go Go.Proofs
theorem TQ {x:Cx} {num hd:Bool} {wid:Int} {i:Nat} {v:Int} {ns:List B8} {i':Nat} {v':Int} {ns':List B8} {r:Nd} {wid':Int} (hi:i<=x.s.length)
  (h:Hl x num wid hd i v ns= .ok (i',v',ns',r,wid')):∃ks e m,r= .mk 8 [] [] ks (slc x.s e (e+m))/\i'=e+m/\JI x.a x.q x.s i ks e m/\v'=v+(if hd then 0 else 1+(ks.length:Int))/\
   (∀k∈ks,(txt x.q (AW k)).length<=65536)/\(ks.length:Int)=wid'/\(num=true->wid'=wid)/\(hd=false->3<=x.dep/\v'<=x.nod/\ns'=ns):=by
 obtain⟨v1,h1,h⟩:=Iy h
 obtain⟨e,v2,ns2,ks,m',h2,h3,hw,hp⟩:=OD h
 simp only[Prod.mk.injEq]at hp
 obtain⟨rfl,rfl,rfl,rfl,rfl⟩:=hp
 obtain⟨ks',m,k1,k2,k3,k4,k5,k6⟩:=YW _ hi h2
 rw[List.nil_append]at k1
 subst k1
 have hl:=k2.le hi
 rw[hl.2.2.2.2]at h3
 cases h3
 refine⟨_,e,_,rfl,rfl,k2,?_,k4,?_,?_,k6⟩
 ·rw[k3,h1];cases hd<;>simp;omega
 ·cases num with
  | true=>simp only[if_true]at hw⊢;have:=k5 rfl;omega
  | false=>rfl
 ·intro hn;rw[hn];rfl
theorem recD_of {x:Cx} {num:Bool} {wid:Int} (hdep:3<=x.dep) {i:Nat} {ks:List Nd} {e m:Nat} (h:JI x.a x.q x.s i ks e m) {v:Int} {ns:List B8}
  (hi:i<=x.s.length) (hk:∀k∈ks,(txt x.q (AW k)).length<=65536) (hw:num=true->(ks.length:Int)=wid) (hv:v+1+(ks.length:Int)<=x.nod):
  Hl x num wid false i v ns= .ok (e+m,v+1+(ks.length:Int),ns,.mk 8 [] [] ks (slc x.s e (e+m)),(ks.length:Int)):=by
 have hl:=h.le hi
 have hb:GP x.dep x.nod 2 i v= .ok (v+1):=by unfold GP;rw[if_neg (by omega),if_neg (by omega)]
 rw[G0]
 simp only[Bool.false_eq_true,if_false,hb]
 unfold Kj
 rw[recE_of hdep h (x.s.length+1) (acc:=[]) (v:=v+1) (ns:=ns) hi (by omega) hk (fun hn=>by rw[List.length_nil,Nat.zero_add,hw hn];omega) (by omega)]
 simp only[hl.2.2.2.2]
 cases num with
 | true=>have:=hw rfl;simp only[if_true,List.nil_append];rw[<-this,if_neg (by omega)]
 | false=>simp only[Bool.false_eq_true,if_false,List.nil_append];rw[if_neg (by omega)]
theorem XE {x:Cx} {num:Bool} {wid:Int} (d' n':Int) {i:Nat} {v:Int} {ns:List B8}:Hl (x.lim d' n') num wid true i v ns=Hl x num wid true i v ns:=by
 rw[G0,G0,if_pos rfl,if_pos rfl]
 have:=XD (x:=x) (num:=num) (wid:=wid) d' n' (x.s.length+1) (acc:=[]) (i:=i) (v:=v) (ns:=ns)
 show Kj x.s num wid (CK (x.lim d' n') num wid true (x.s.length+1) [] i v ns)=_
 rw[this]
theorem YY {x:Cx} {num:Bool} {wid:Int} {d' n':Int} {i:Nat} {v:Int} {ns:List B8} {i':Nat} {v':Int} {ns':List B8} {r:Nd} {wid':Int}
  (h:Hl x num wid false i v ns= .ok (i',v',ns',r,wid')):v+1<v'/\(3<=d'->v'<=n'->Hl (x.lim d' n') num wid false i v ns= .ok (i',v',ns',r,wid'))/\
   (3<=d'->n'<v'->∃o,Hl (x.lim d' n') num wid false i v ns= .error (o,10))/\(d'=2->v<n'->∃o,Hl (x.lim d' n') num wid false i v ns= .error (o,9)):=by
 obtain⟨v1,h1,h⟩:=Iy h
 have h1:v1=v+1:=by simpa using h1
 subst h1
 obtain⟨e,v2,ns2,ks,m,h2,h3,hw,hp⟩:=OD h
 simp only[Prod.mk.injEq]at hp
 obtain⟨rfl,rfl,rfl,rfl,rfl⟩:=hp
 obtain⟨k0,k1,k2,k3⟩:=YV (d':=d') (n':=n') _ h2
 have b1:2<=d'->v<n'->GP d' n' 2 i v= .ok (v+1):=fun g1 g2=>by unfold GP;rw[if_neg (by omega),if_neg (by omega)]
 have b2:2<=d'->n'<=v->GP d' n' 2 i v= .error (i,10):=fun g1 g2=>by unfold GP;rw[if_neg (by omega),if_pos g2]
 rw[G0]
 simp only[Bool.false_eq_true,if_false]
 refine⟨by omega,fun g1 g2=>?_,fun g1 g2=>?_,fun g1 g2=>?_⟩
 ·rw[b1 (by omega) (by omega)]
  show Kj x.s num wid (CK (x.lim d' n') num wid false (x.s.length+1) [] i (v+1) ns)=_
  rw[k1 g1 g2]
  simp only[Kj,h3]
  rw[if_neg hw]
 ·by_cases hv:n'<=v
  ·rw[b2 (by omega) hv];exact⟨_,rfl⟩
  ·rw[b1 (by omega) (by omega)]
   obtain⟨o,ho⟩:=k2 g1 g2
   exact⟨o,by show Kj x.s num wid (CK (x.lim d' n') num wid false (x.s.length+1) [] i (v+1) ns)=_;rw[ho];rfl⟩
 ·rw[b1 (by omega) (by omega)]
  obtain⟨o,ho⟩:=k3 (by omega)
  exact⟨o,by show Kj x.s num wid (CK (x.lim d' n') num wid false (x.s.length+1) [] i (v+1) ns)=_;rw[ho];rfl⟩
def MH (r:Nd):Int:=1+((Aw r).length:Int)
def FE:List Nd->Int
 | []=>0
 | r::rs=>MH r+FE rs
theorem Gc:∀rs,0<=FE rs
 | []=>by simp[FE]
 | r::rs=>by have:=Gc rs;simp only[FE,MH];omega
def EU (hd:Bool) (rs:List Nd):Int:=if hd then FE rs.tail else FE rs
theorem Re {x:Cx} {num hd:Bool} {wid:Int}:∀(n:Nat) {acc:List Nd} {i:Nat} {v:Int} {ns:List B8} {e:Nat} {v':Int} {ns':List B8} {out:List Nd},
  CK x num wid hd n acc i v ns= .ok (e,v',ns',out)->v'=v+(if hd then 0 else(out.length:Int)-acc.length):=by
 intro n
 induction n with
 | zero=>intro acc i v ns e v' ns' out h;simp only[CK]at h;cases h
 | succ n ih=>
  intro acc i v ns e v' ns' out h
  simp only[CK]at h
  split at h
  ·cases h
  simp only[bind,Except.bind]at h
  split at h
  ·cases h
  rename_i p he
  obtain⟨e1,v1,ns1⟩:=p
  have c3:v1=v+(if hd then 0 else 1):=by
   cases hd with
   | false=>simpa using (ME he).2.2.1
   | true=>simpa using (NL he).1
  simp only at h
  split at h
  ·have:=ih h
   rw[this,c3]
   cases hd<;>simp
   omega
  ·split at h
   ·cases h
   cases h
   rw[c3]
   cases hd<;>simp
   omega
theorem recE_v1 {x:Cx} {num:Bool} {wid:Int} (n:Nat) {acc:List Nd} {i:Nat} {v:Int} {ns:List B8} {e:Nat} {v':Int} {ns':List B8} {out:List Nd}
  (h:CK x num wid true n acc i v ns= .ok (e,v',ns',out)):v'=v:=by simpa using Re n h
theorem XF {x:Cx} {num:Bool} {wid:Int} {i:Nat} {v:Int} {ns:List B8} {i':Nat} {v':Int} {ns':List B8} {r:Nd} {wid':Int}
  (h:Hl x num wid false i v ns= .ok (i',v',ns',r,wid')):v'=v+MH r:=by
 obtain⟨v1,h1,h⟩:=Iy h
 have h1:v1=v+1:=by simpa using h1
 subst h1
 obtain⟨e,v2,ns2,ks,m,h2,h3,hw,hp⟩:=OD h
 simp only[Prod.mk.injEq]at hp
 obtain⟨rfl,rfl,rfl,rfl,rfl⟩:=hp
 have:=Re _ h2
 simp only[Bool.false_eq_true,if_false,List.length_nil]at this
 simp only[MH,Aw];omega
theorem UB {x:Cx} {hdr:Bool}:∀(n:Nat) {acc:List Nd} {i:Nat} {v:Int} {ns:List B8} {wid:Int} {out:List Nd},i<=x.s.length->EZ x hdr n acc i v ns wid= .ok out->
  ∃rs,out=acc++rs/\KE x.a x.q x.s i rs/\(∀r∈rs,∀k∈Aw r,(txt x.q (AW k)).length<=65536)/\(∃W:Int,(acc≠ []->W=wid)/\∀r∈rs,((Aw r).length:Int)=W)/\
   (EU (hdr&&acc.isEmpty) rs=0∨3<=x.dep/\v+EU (hdr&&acc.isEmpty) rs<=x.nod):=by
 intro n
 induction n with
 | zero=>intro acc i v ns wid out hi h;simp only[EZ]at h;cases h
 | succ n ih=>
  intro acc i v ns wid out hi h
  simp only[EZ]at h
  split at h
  ·rename_i hl
   cases h
   exact⟨[],by simp,.nil hl,fun r hr=>(by cases hr),⟨wid,fun _=>rfl,fun r hr=>(by cases hr)⟩,.inl (by unfold EU;cases (hdr&&acc.isEmpty)<;>rfl)⟩
  rename_i hl
  simp only[bind,Except.bind]at h
  split at h
  ·cases h
  rename_i p h1
  obtain⟨i',v',ns',r,wid'⟩:=p
  obtain⟨ks,e,m,rfl,rfl,k2,k3,k4,k5,k6,k7⟩:=TQ hi h1
  have hle:=k2.le hi
  obtain⟨rs,j1,j2,j3,⟨W,j4,j5⟩,j6⟩:=ih (by omega) h
  have hW:W=wid':=j4 (by simp)
  refine⟨_::rs,by rw[j1,List.append_assoc];rfl,.cons (by omega) k2 j2,?_,⟨W,fun hne=>?_,?_⟩,?_⟩
  ·intro r hr
   rcases List.mem_cons.1 hr with rfl | hr
   ·exact k4
   ·exact j3 r hr
  ·rw[hW];exact k6 (by cases acc;exact absurd rfl hne;rfl)
  ·intro r hr
   rcases List.mem_cons.1 hr with rfl | hr
   ·rw[hW];exact k5
   ·exact j5 r hr
  ·have hnil:(hdr&&(acc++[Nd.mk 8 [] [] ks (slc x.s e (e+m))]).isEmpty)=false:=by cases acc<;>simp
   rw[hnil]at j6
   have hcn:=Gc rs
   cases hh:(hdr&&acc.isEmpty)with
   | true=>
    rw[hh]at k3 k7
    simp only[EU,if_true,List.tail_cons,Bool.false_eq_true,if_false]at j6 k3⊢
    rcases j6 with j6 | j6
    ·exact .inl j6
    ·right;omega
   | false=>
    rw[hh]at k3 k7
    have k7:=k7 rfl
    simp only[EU,Bool.false_eq_true,if_false,FE,MH,Aw]at j6 k3⊢
    right
    rcases j6 with j6 | j6
    ·exact⟨k7.1,by omega⟩
    ·exact⟨k7.1,by omega⟩
theorem W0 {x:Cx} (hdep:3<=x.dep) {W:Int}:∀{i:Nat} {rs:List Nd},KE x.a x.q x.s i rs->∀(n:Nat) {acc:List Nd} {v:Int} {ns:List B8} {wid:Int},i<=x.s.length->x.s.length<i+n->
  (∀r∈rs,∀k∈Aw r,(txt x.q (AW k)).length<=65536)->(acc≠ []->wid=W)->(∀r∈rs,((Aw r).length:Int)=W)->v+FE rs<=x.nod->EZ x false n acc i v ns wid= .ok (acc++rs):=by
 intro i rs h
 induction h with
 | nil h=>
  intro n acc v ns wid hi hn hk hw hW hv
  cases n with
  | zero=>omega
  | succ n=>simp only[EZ];rw[if_pos h,List.append_nil]
 | @cons i e m ks rs h1 h2 h3 ih=>
  intro n acc v ns wid hi hn hk hw hW hv
  cases n with
  | zero=>omega
  | succ n=>
  have hle:=h2.le hi
  have hks:(ks.length:Int)=W:=hW _ (List.mem_cons_self ..)
  have hm:0<e+m-i:=by
   rcases Nat.eq_zero_or_pos m with h0 | h0
   ·have:=(Gz (by omega) hle.2.2.2.2).2.1 h0;omega
   ·omega
  simp only[FE,MH,Aw]at hv
  have hcn:=Gc rs
  simp only[EZ,Bool.false_and]
  rw[if_neg (by omega),recD_of hdep h2 hi (hk _ (List.mem_cons_self ..)) (fun hn=>by rw[hks];exact(hw (by rintro rfl;simp at hn)).symm) (by omega)]
  simp only[bind,Except.bind]
  rw[ih n (by omega) (by omega) (fun r hr=>hk r (List.mem_cons_of_mem _ hr)) (fun _=>hks) (fun r hr=>hW r (List.mem_cons_of_mem _ hr)) (by omega),List.append_assoc]
  rfl
theorem ZU {x:Cx} {hdr:Bool} {d' n':Int}:∀(n:Nat) {acc:List Nd} {i:Nat} {v:Int} {ns:List B8} {wid:Int} {out:List Nd},EZ x hdr n acc i v ns wid= .ok out->
  ∃rs,out=acc++rs/\((EU (hdr&&acc.isEmpty) rs=0∨3<=d')->v+EU (hdr&&acc.isEmpty) rs<=n'->EZ (x.lim d' n') hdr n acc i v ns wid= .ok out)/\
   (0<EU (hdr&&acc.isEmpty) rs->3<=d'->n'<v+EU (hdr&&acc.isEmpty) rs->∃o,EZ (x.lim d' n') hdr n acc i v ns wid= .error (o,10))/\
   (0<EU (hdr&&acc.isEmpty) rs->d'=2->v+EU (hdr&&acc.isEmpty) rs<=n'->∃o,EZ (x.lim d' n') hdr n acc i v ns wid= .error (o,9)):=by
 intro n
 induction n with
 | zero=>intro acc i v ns wid out h;simp only[EZ]at h;cases h
 | succ n ih=>
  intro acc i v ns wid out h
  simp only[EZ]at h⊢
  split at h
  ·rename_i hl
   cases h
   have h0:EU (hdr&&acc.isEmpty) []=0:=by unfold EU;cases (hdr&&acc.isEmpty)<;>rfl
   refine⟨[],by simp,?_⟩
   rw[h0]
   exact⟨fun _ _=>by rw[if_pos hl],fun h=>absurd h (by decide),fun h=>absurd h (by decide)⟩
  rename_i hl
  rw[if_neg hl]
  simp only[bind,Except.bind]at h⊢
  split at h
  ·cases h
  rename_i p h1
  obtain⟨i',v',ns',r,wid'⟩:=p
  obtain⟨rs,j1,j2,j3,j4⟩:=ih h
  have hnil:(hdr&&(acc++[r]).isEmpty)=false:=by cases acc<;>simp
  rw[hnil]at j2 j3 j4
  have hcn:=Gc rs
  refine⟨r::rs,by rw[j1,List.append_assoc];rfl,?_⟩
  cases hh:(hdr&&acc.isEmpty)with
  | true=>
   rw[hh]at h1
   rw[XE,h1]
   have hv:v'=v:=by
    obtain⟨v1,h3,h4⟩:=Iy h1
    have h3:v1=v:=by simpa using h3
    subst h3
    obtain⟨e,v2,ns2,ks,m,h2,h5,hw,hp⟩:=OD h4
    simp only[Prod.mk.injEq]at hp
    obtain⟨rfl,rfl,rfl,rfl,rfl⟩:=hp
    exact recE_v1 _ h2
   subst hv
   simp only[EU,if_true,List.tail_cons,Bool.false_eq_true,if_false]at j2 j3 j4⊢
   exact⟨j2,j3,j4⟩
  | false=>
   rw[hh]at h1
   have hc:v'=v+MH r:=XF h1
   obtain⟨k0,k1,k2,k3⟩:=YY (d':=d') (n':=n') h1
   simp only[EU,Bool.false_eq_true,if_false,FE]at j2 j3 j4⊢
   refine⟨fun g1 g2=>?_,fun g0 g1 g2=>?_,fun g0 g1 g2=>?_⟩
   ·have:3<=d':=by rcases g1 with g1 | g1;omega;exact g1
    rw[k1 this (by omega)]
    exact j2 (.inr this) (by omega)
   ·by_cases hv:n'<v'
    ·obtain⟨o,ho⟩:=k2 g1 hv
     rw[ho];exact⟨_,rfl⟩
    ·rw[k1 g1 (by omega)]
     by_cases h0:0<FE rs
     ·exact j3 h0 g1 (by omega)
     ·omega
   ·obtain⟨o,ho⟩:=k3 g1 (by omega)
    rw[ho];exact⟨_,rfl⟩
def By (x:Cx) (hd:Bool) (l2 l3 l4:Int):Except (Nat×Int) Nd:=
 if dOk x.a x.q=false then .error (0,1)else if lOk x.dep x.nod l2 l3 l4=false then .error (0,1)else if l2<x.s.length then .error (0,10)else if Bi x.s≠x.s.length then .error (Bi x.s,5)
 else match EZ x hd (x.s.length+1) [] 0 1 [] 0 with
  | .error e=> .error e
  | .ok rs=> .ok (.mk 1 [] [] rs [])
def pN:Except (Nat×Int) Nd->Nd | .ok n=>n | .error _=> .mk 0 [] [] [] []
def pO:Except (Nat×Int) Nd->Int | .ok _=>0 | .error e=>e.1
def pE:Except (Nat×Int) Nd->Int | .ok _=>0 | .error e=>e.2
theorem RL (x:Cx) (hdr:Bool) (n:Nat) (acc:List Nd) (i:Nat) (v:Int) (ns:List B8) (wid:Int):EZ x hdr (n+1) acc i v ns wid=
  if x.s.length<=i then .ok acc else match Hl x (!acc.isEmpty) wid (hdr&&acc.isEmpty) i v ns with
   | .error e=> .error e
   | .ok (i',v',ns',r,wid')=>EZ x hdr n (acc++[r]) i' v' ns' wid':=by
 simp only[EZ,bind,Except.bind]
 by_cases h:x.s.length<=i
 ·rw[if_pos h,if_pos h]
 ·rw[if_neg h,if_neg h]
  rcases Hl x (!acc.isEmpty) wid (hdr&&acc.isEmpty) i v ns with e | ⟨i',v',ns',r,wid'⟩<;>rfl
theorem WN {x:Cx} {num hd:Bool} {wid:Int} {i:Nat} {v:Int} {ns:List B8} {i':Nat} {v':Int} {ns':List B8} {r:Nd} {wid':Int} (hi:i<x.s.length)
  (h:Hl x num wid hd i v ns= .ok (i',v',ns',r,wid')):i<i'/\i'<=x.s.length/\v<=v'/\v'<=v+3*(i'-i:Nat)/\1<=wid':=by
 obtain⟨ks,e,m,rfl,rfl,k2,k3,k4,k5,k6,k7⟩:=TQ (by omega) h
 have hle:=k2.le (by omega)
 have hpos:1<=e+m-i:=by
  have:=(Gz (by omega) hle.2.2.2.2).2.1
  rcases Nat.eq_zero_or_pos m with h0 | h0
  ·have:=this h0;omega
  ·omega
 cases hd<;>simp at k3<;>omega
theorem Rj {x:Cx} {hd ty:Bool} {l2 l3 l4:Int} {st:St} {K:Int->B8->B8->TV->B8->Int->Int->St->Prop} (hl:x.s.length<=2000000)
  (hk:∀k kv st',Al st st'->NdC (pN (By x hd l2 l3 l4)) [.int .i64 k,.str [],.str [],kv,.str []]->K k [] [] kv [] (pO (By x hd l2 l3 l4)) (pE (By x hd l2 l3 l4)) st'):
  CallT PR EQ [.str x.s,.agg [.int .u8 x.a,.int .u8 x.q,.bool hd,.bool ty],.agg [.int .i64 x.dep,.int .i64 x.nod,.int .i64 l2,.int .i64 l3,.int .i64 l4]] [.agg [.int .i64,.str,.str,.tv,.str],.one (.int .i64),.one (.int .i64)] st K:=by
 generalize hP:By x hd l2 l3 l4=P at hk
 unfold By at hP
 have hnil:NdC (.mk 0 [] [] [] []) [.int .i64 0,.str [],.str [],.nilSlice,.str []]:=by unfold NdC;exact⟨_,[],rfl,.inl ⟨rfl,rfl,rfl⟩,BI.nil⟩
 have bad:∀(o:Nat) (e:Int) st',P= .error (o,e)->Al st st'->K 0 [] [] .nilSlice [] o e st':=fun o e st' h he=>by
  have:=hk 0 .nilSlice st' he (by rw[h];exact hnil)
  rwa [h]at this
 refine O4 x.s x.a x.q hd ty x.dep x.nod l2 l3 l4 st K (H5 (Aj (fun g=>?_) fun g=>?_))
 ·have g:dOk x.a x.q=false:=by simpa using g
  rw[if_pos g]at hP
  exact bad _ _ st hP.symm (Al.refl _)
 have g:dOk x.a x.q=true:=by simpa using g
 rw[if_neg (by rw[g];decide)]at hP
 refine VH (Aj (fun g=>?_) fun g=>?_)
 ·have g:lOk x.dep x.nod l2 l3 l4=false:=by simpa using g
  rw[if_pos g]at hP
  exact bad _ _ st hP.symm (Al.refl _)
 have g:lOk x.dep x.nod l2 l3 l4=true:=by simpa using g
 rw[if_neg (by rw[g];decide)]at hP
 refine Aa (fun g=>?_) fun g=>?_
 ·rw[if_pos g]at hP
  exact bad _ _ st hP.symm (Al.refl _)
 rw[if_neg g]at hP
 refine VR hl (Aa (fun g=>?_) fun g=>?_)
 ·have h2:Bi x.s≠x.s.length:=fun h=>by rw[if_pos h]at g;omega
  rw[if_neg h2]
  rw[if_pos h2]at hP
  exact bad _ _ st hP.symm (Al.refl _)
 have h2:Bi x.s=x.s.length:=Decidable.byContradiction fun h=>by rw[if_neg h]at g;omega
 rw[if_neg (by rw[h2];simp)]at hP
 refine Ab rfl ?_
 obtain⟨m,hm⟩:∃m,m=st.nb:=⟨_,rfl⟩
 obtain⟨p,hp⟩:∃p,p=(st.push (.map []) none).nb:=⟨_,rfl⟩
 rw[<-hm,<-hp]
 have hpm:p=m+1:=by rw[hp,hm];rfl
 obtain⟨sa,hsa⟩:∃sa,sa=st.push (.map []) none:=⟨_,rfl⟩
 rw[<-hsa]at hp⊢
 obtain⟨sb,hsb⟩:∃sb,sb=sa.push (.cells (pcl x hd ty l2 l3 l4 m 0 1 0 0 0)) (some 180):=⟨_,rfl⟩
 have e0:Al st sb:=by rw[hsb,hsa];exact((Al.refl st).push _ _).push _ _
 have k0:PSD p m x hd ty l2 l3 l4 [] 0 1 0 0 0 sb:=by
  refine⟨by omega,by rw[hsb,hp];simp[St.push],by rw[hsb,hsa,hm];simp[St.push];omega,by rw[hsb,hp];exact GO _ _ _,[],?_,fun t=>by simp[BQ]⟩
  rw[hsb,hsa,hm]
  simp[St.push]
 have lim:∀st',StX (PM p m) sb st'->Al st st':=fun st' h=>StX.ext e0 h fun i hi=>by rcases hi with h | h<;>omega
 refine⟨fun s' p' kd le tx kv tl st'=>x.s=s'/\TV.box p 0=p'/\1=kd/\[]=le/\[]=tx/\[]=tl/\∃(j n:Nat) (acc:List Nd) (v w:Int) (ns:List B8) (xs:List TV),StX (PM p m) sb st'/\PSD p m x hd ty l2 l3 l4 ns j v w 0 0 st'/\
   Own sb.nt 5 st' kv acc.length xs/\BI acc xs/\j<=x.s.length/\x.s.length<j+n/\acc.length<=j/\0<=v/\v<=1+3*j/\(match EZ x hd n acc j v ns w with | .error e=> .error e | .ok rs=> .ok (.mk 1 [] [] rs []))=P,
  fun _ _ _ _ _ _ _ st'=>(x.s.length-Oi st' p 10).toNat,⟨rfl,rfl,rfl,rfl,rfl,rfl,0,x.s.length+1,[],1,0,[],[],hsb▸StX.refl _ _,hsb▸k0,Own.nil _ _ _,BI.nil,by omega,by omega,by simp,by omega,by omega,hP⟩,?_⟩
 rintro _ _ _ _ _ kv _ st3 ⟨rfl,rfl,rfl,rfl,rfl,rfl,j,n,acc,v,w,ns,xs,f3,k3,o3,hx,hj,hjn,hac,hv0,hv,hE⟩
 have b3:=k3.bx
 cases n with
 | zero=>omega
 | succ n=>
 rw[RL]at hE
 repeat' first
  | (guard_target=~need _ _;refine Ab rfl ?_)
  | (guard_target=~Ah (Ad _ _ _ _) _;refine Ac (ldB b3 rfl) ?_)
  | (guard_target=~Ag (.int _) _ _;refine Aq ?_)
  | (guard_target=~Ag .str _ _;refine Ak ?_)
  | (guard_target=~Ag .bool _ _;refine Ap ?_)
 refine Aa (fun q=>Ab o3.rd.isSl ?_) fun q=>?_
 ·rw[if_neg (by omega)]at hE
  rw[o3.rd.lenS]
  have hN1:decide (((acc.length:Nat):Int)≠0)= !acc.isEmpty:=by
   cases acc with
   | nil=>rfl
   | cons a l=>exact decide_eq_true (by simp only[List.length_cons];omega)
  have hN2:(decide (((acc.length:Nat):Int)=0)&&hd)=(hd&&acc.isEmpty):=by
   cases acc with
   | nil=>cases hd<;>rfl
   | cons a l=>rw[decide_eq_false (by simp only[List.length_cons];omega)];cases hd<;>rfl
  refine Vt rfl hj hl hv0 (by omega) (by omega) k3 (fun k v1 ns1 r w1 kv1 tl st4 hr e4 k4 hc4=>?_) fun o' e' ns1 k v1 w1 kv1 tl st4 hr e4 k4 ho4=>?_
  ·rw[hN1,hN2]at hr
   rw[hr]at hE
   simp only at hE
   have hle:=WN (by omega) hr
   have hone:As kv1=true:=by
    obtain⟨a,b,c,d,f⟩:=r
    unfold NdC at hc4
    obtain⟨u,ys,hu,hu2,_⟩:=hc4
    cases hu
    exact hu2.one
   refine Ab (Fb hone) (Aj (fun h=>by cases h) fun _=>Ab (Fb hone) ?_)
   refine KX (f3.trans e4) (o3.extXD e4) (by omega) (fun h=>by cases h) fun v5 st5 e5 hbx hnb o5=>Ab (PD o5.rd.one) ?_
   have hlen:(acc++[r]).length=acc.length+1:=by simp
   refine⟨⟨rfl,rfl,rfl,rfl,rfl,rfl,k,n,acc++[r],v1,w1,ns1,_,e5,k4.same hbx hnb,by rw[hlen];exact o5,hx.append (BI.one hc4),by omega,by omega,by omega,by omega,by omega,hE⟩,?_⟩
   dsimp only
   rw[Ej (k4.same hbx hnb).bx rfl,Ej b3 rfl]
   omega
  ·rw[hN1,hN2]at hr
   rw[hr]at hE
   simp only at hE
   refine Ab (Fb ho4) (Aj (fun _=>?_) fun h=>by cases h)
   have b4:=k4.bx
   repeat' first
    | (guard_target=~need _ _;refine Ab rfl ?_)
    | (guard_target=~Ah (Ad _ _ _ _) _;refine Ac (ldB b4 rfl) ?_)
    | (guard_target=~Ag (.int _) _ _;refine Aq ?_)
    | (guard_target=~Ag .str _ _;refine Ak ?_)
    | (guard_target=~Ag .bool _ _;refine Ap ?_)
   exact bad _ _ st4 hE.symm (lim _ (f3.trans e4))
 ·rw[if_pos (by omega)]at hE
  simp only at hE
  subst hE
  exact Ab (Fb o3.rd.one) (hk 1 kv st3 (lim _ f3) (by unfold pN NdC;exact⟨kv,xs,rfl,o3.rd,hx⟩))
theorem XT {s:B8} {i o:Nat} {c:Int} (h:EA s i= .error (o,c)):(o=i/\c=3)∨(o=s.length/\c=4):=by
 unfold EA at h
 repeat' split at h
 all_goals first | cases h | skip
 all_goals simp
section
theorem UR {dep nod d:Int} {i:Nat} {v:Int} {o:Nat} {c:Int} (h:GP dep nod d i v= .error (o,c)):c≠0:=by
 unfold GP at h
 split at h
 ·cases h;decide
 split at h
 ·cases h;decide
 ·cases h
theorem Yi {a q:Int} {s:B8} {i o:Nat} {c:Int} (h:CI a q s i= .error (o,c)):c≠0:=by
 unfold CI at h
 split at h<;>split at h<;>cases h<;>decide
section
variable {x:Cx} {hd ty:Bool} {l2 l3 l4:Int} {st:St}
end
end
theorem OE {q:Int} {c:UInt8} (hc:(c.toNat:Int)=q):∀(t rest:B8) (i:Nat),(∀b l,rest=b::l->(b.toNat:Int)≠q)->JE q (dbl c t++c::rest) i=some (i+(dbl c t).length+1)
 | [],rest,i,h=>by
  simp only[dbl,List.flatMap_nil,List.nil_append,List.length_nil,Nat.add_zero]
  cases rest with
  | nil=>simp only[JE];rw[if_pos hc]
  | cons b l=>simp only[JE];rw[if_pos hc,if_neg (h b l rfl)]
 | b::t,rest,i,h=>by
  rw[ET]
  by_cases hb:b=c
  ·rw[if_pos hb]
   have ih:=OE hc t rest (i+2) h
   simp only[List.cons_append,List.nil_append,List.length_cons,JE]
   rw[if_pos hc,if_pos hc,ih]
   congr 1;omega
  ·rw[if_neg hb]
   have hb':(b.toNat:Int)≠q:=fun h=>hb (UInt8.toNat_inj.1 (by omega))
   have ih:=OE hc t rest (i+1) h
   simp only[List.cons_append,List.nil_append,List.length_cons]
   cases hr:dbl c t++c::rest with
   | nil=>simp at hr
   | cons b2 l2=>
    rw[hr]at ih
    simp only[JE]
    rw[if_neg hb',ih]
    congr 1;omega
theorem WP {a q:Int} (ha:a≠q) (hq:q≠10) (hq2:q≠13):∀(t:B8) (b:UInt8) (rest:B8) (i:Nat),(∀c∈t,(c.toNat:Int)≠a/\(c.toNat:Int)≠q/\(c.toNat:Int)≠10/\(c.toNat:Int)≠13)->
  ((b.toNat:Int)=a∨(b.toNat:Int)=10)->Ua a q (t++b::rest) i= .ok (i+t.length)
 | [],b,rest,i,h,hb=>by simp only[List.nil_append,Ua];rw[if_pos (by omega)];rfl
 | c::t,b,rest,i,h,hb=>by
  have hc:=h c (List.mem_cons_self ..)
  simp only[List.cons_append,Ua]
  rw[if_neg (by omega),if_neg hc.2.1,WP ha hq hq2 t b rest (i+1) (fun d hd=>h d (List.mem_cons_of_mem _ hd)) hb]
  simp;omega
def FY (a q:Int) (s:B8):Bool:=s.any fun c=>decide ((c.toNat:Int)=a∨(c.toNat:Int)=q∨(c.toNat:Int)=10∨(c.toNat:Int)=13)
def Bb (a q:Int) (s:B8):B8:=if FY a q s then UInt8.ofNat q.toNat::(dbl (UInt8.ofNat q.toNat) s++[UInt8.ofNat q.toNat])else s
theorem Ze {a q:Int} {s:B8} (h:FY a q s=false):∀c∈s,(c.toNat:Int)≠a/\(c.toNat:Int)≠q/\(c.toNat:Int)≠10/\(c.toNat:Int)≠13:=by
 intro c hc
 unfold FY at h
 rw[List.any_eq_false]at h
 have:=h c hc
 rw[decide_eq_true_eq]at this
 omega
theorem EF {q:Int} (h:0<=q) (h2:q<=255):((UInt8.ofNat q.toNat).toNat:Int)=q:=by
 rw[UInt8.toNat_ofNat'];omega
theorem Wg {a q:Int} (hq0:0<=q) (hq1:q<=255) (ha:a≠q) (hq:q≠10) (hq2:q≠13) (pre c:B8) (b:UInt8) (post:B8) (hb:(b.toNat:Int)=a∨(b.toNat:Int)=10):
  CI a q (pre++Bb a q c++b::post) pre.length= .ok (pre.length+(Bb a q c).length):=by
 have hd:(pre++Bb a q c++b::post).drop pre.length=Bb a q c++b::post:=by rw[List.append_assoc,List.drop_left]
 have hby:∀d l,Bb a q c++b::post=d::l->by_ (pre++Bb a q c++b::post) pre.length=(d.toNat:Int):=fun d l h=>by
  have:(pre++Bb a q c++b::post).getD pre.length 0=((pre++Bb a q c++b::post).drop pre.length).getD 0 0:=by rw[KS];rfl
  unfold by_
  rw[this,hd,h];rfl
 have hlen:pre.length<(pre++Bb a q c++b::post).length:=by simp only[List.length_append,List.length_cons];omega
 have hqb:=EF hq0 hq1
 unfold CI
 by_cases hn:FY a q c=true
 ·have hqc:Bb a q c=UInt8.ofNat q.toNat::(dbl (UInt8.ofNat q.toNat) c++[UInt8.ofNat q.toNat]):=by unfold Bb;rw[if_pos hn]
  have:=hby (UInt8.ofNat q.toNat) (dbl (UInt8.ofNat q.toNat) c++[UInt8.ofNat q.toNat]++b::post) (by rw[hqc];rfl)
  rw[if_pos ⟨hlen,by rw[this];exact hqb⟩]
  have hQ:QE q (pre++Bb a q c++b::post) (pre.length+1)=some (pre.length+(Bb a q c).length):=by
   unfold QE
   rw[<-List.drop_drop,hd,hqc]
   have:=OE hqb c (b::post) (pre.length+1) (fun b' l' h=>by cases h;omega)
   simp only[List.cons_append,List.drop_succ_cons,List.drop_zero,List.append_assoc,List.nil_append]
   rw[this]
   congr 1
   simp;omega
  rw[hQ]
 ·have hn:FY a q c=false:=by simpa using hn
  have hqc:Bb a q c=c:=by unfold Bb;rw[if_neg (by rw[hn];decide)]
  have hno:=Ze hn
  have hP:PE a q (pre++Bb a q c++b::post) pre.length= .ok (pre.length+(Bb a q c).length):=by
   unfold PE
   rw[hd,hqc]
   exact WP ha hq hq2 c b post pre.length hno hb
  rw[if_neg,hP]
  rintro⟨_,h2⟩
  cases hc:c with
  | nil=>rw[hby b post (by rw[hqc,hc];rfl)]at h2;omega
  | cons d l=>rw[hby d (l++b::post) (by rw[hqc,hc];rfl)]at h2;exact(hno d (by rw[hc];exact List.mem_cons_self ..)).2.1 h2
def Ru (a q:Int):List B8->B8
 | []=>[10]
 | [c]=>Bb a q c++[10]
 | c::r=>Bb a q c++UInt8.ofNat a.toNat::Ru a q r
theorem chk_ent {a q:Int} {k:Nd} (h:Yp a q k) {s:Int} (hs:s+3<=524288):∃s',chk k 3 s= .ok s'/\s<=s'/\s'<=s+3:=by
 obtain⟨c,mark,rfl,_,hm⟩:=h
 rcases hm with rfl | ⟨b,_,rfl⟩
 ·refine⟨s+1+1,?_,by omega,by omega⟩
  have l2:Ll 2=true:=by decide
  have l5:Ll 5=false:=by decide
  simp only[chk,JG,l2,l5,List.length_nil]
  rw[if_neg (by omega),if_neg (by omega),if_neg (by omega),if_neg (by simp),if_neg (by omega),if_neg (by omega),if_neg (by omega),if_neg (by simp)]
 ·refine⟨s+1+1+1,?_,by omega,by omega⟩
  have l2:Ll 2=true:=by decide
  have l5:Ll 5=false:=by decide
  have l11:Ll 11=true:=by decide
  simp only[chk,JG,l2,l5,l11,List.length_nil]
  rw[if_neg (by omega),if_neg (by omega),if_neg (by omega),if_neg (by simp),if_neg (by omega),if_neg (by omega),if_neg (by omega),if_neg (by simp)]
  simp only
  rw[if_neg (by omega),if_neg (by omega),if_neg (by omega),if_neg (by simp)]
theorem RR {a q:Int}:∀(ks:List Nd) (h:∀k∈ks,Yp a q k) {s:Int} (hs:s+3*ks.length<=524288),∃s',JG ks 3 s= .ok s'/\s<=s'/\s'<=s+3*ks.length
 | [],h,s,hs=>⟨s,rfl,by omega,by simp⟩
 | k::ks,h,s,hs=>by
  rw[List.length_cons]at hs
  obtain⟨s1,h1,h2,h3⟩:=chk_ent (h k (List.mem_cons_self ..)) (s:=s) (by omega)
  obtain⟨s2,h4,h5,h6⟩:=RR ks (fun k hk=>h k (List.mem_cons_of_mem _ hk)) (s:=s1) (by omega)
  refine⟨s2,?_,by omega,by rw[List.length_cons];omega⟩
  simp only[JG,h1,h4]
theorem Yh {a q:Int} {src:B8} {i:Nat} {rs:List Nd} (h:KE a q src i rs):i<=src.length->∀{s:Int},s+7*(src.length-i:Nat)<=524288->∃s',JG rs 2 s= .ok s'/\s<=s'/\s'<=s+7*(src.length-i:Nat):=by
 induction h with
 | nil h=>intro hi s hs;exact⟨s,rfl,by omega,by omega⟩
 | @cons i e n ks rs h1 h2 h3 ih=>
  intro hi s hs
  have hle:=h2.le hi
  have hpos:1<=e+n-i:=by
   have:=(Gz (by omega) hle.2.2.2.2).2.1
   rcases Nat.eq_zero_or_pos n with h0 | h0
   ·have:=this h0;omega
   ·omega
  obtain⟨s1,j1,j2,j3⟩:=RR ks (h2.form hi) (s:=s+1) (by omega)
  obtain⟨s2,j4,j5,j6⟩:=ih (by omega) (s:=s1) (by omega)
  have l8:Ll 8=false:=by decide
  refine⟨s2,?_,by omega,by omega⟩
  simp only[JG,chk,l8]
  rw[if_neg (by omega),if_neg (by omega),if_neg (by omega),if_neg (by simp)]
  simp only[Int.reduceAdd]
  rw[j1]
  exact j4
theorem Ry {a q:Int}:∀(ks:List Nd) (h:∀k∈ks,Yp a q k),LO ks<=3*ks.length
 | [],h=>by simp[LO]
 | k::ks,h=>by
  have ih:=Ry ks fun k hk=>h k (List.mem_cons_of_mem _ hk)
  obtain⟨c,mark,rfl,_,hm⟩:=h k (List.mem_cons_self ..)
  rcases hm with rfl | ⟨b,_,rfl⟩<;>simp only[LO,FK,List.length_cons]<;>omega
theorem Rx {a q:Int} {src:B8} {i:Nat} {rs:List Nd} (h:KE a q src i rs):i<=src.length->LO rs<=7*(src.length-i)/\rs.length<=src.length-i:=by
 induction h with
 | nil h=>intro hi;simp[LO]
 | @cons i e n ks rs h1 h2 h3 ih=>
  intro hi
  have hle:=h2.le hi
  have hpos:1<=e+n-i:=by
   have:=(Gz (by omega) hle.2.2.2.2).2.1
   rcases Nat.eq_zero_or_pos n with h0 | h0
   ·have:=this h0;omega
   ·omega
  have:=Ry ks (h2.form hi)
  have ih:=ih (by omega)
  simp only[LO,FK,List.length_cons]
  omega
theorem Fa {x:Cx} {hd:Bool} {l2 l3 l4:Int} {n:Nd} (h:By x hd l2 l3 l4= .ok n):∃rs,n= .mk 1 [] [] rs []/\dOk x.a x.q=true/\lOk x.dep x.nod l2 l3 l4=true/\(x.s.length:Int)<=l2/\Bi x.s=x.s.length/\EZ x hd (x.s.length+1) [] 0 1 [] 0= .ok rs/\
  KE x.a x.q x.s 0 rs/\(∀r∈rs,∀k∈Aw r,(txt x.q (AW k)).length<=65536)/\(∃W:Int,∀r∈rs,((Aw r).length:Int)=W):=by
 unfold By at h
 split at h
 ·cases h
 rename_i h1
 split at h
 ·cases h
 rename_i h2
 split at h
 ·cases h
 rename_i h3
 split at h
 ·cases h
 rename_i h4
 split at h
 ·cases h
 rename_i rs hr
 cases h
 obtain⟨rs',j1,j2,j3,⟨W,j4,j5⟩,j6⟩:=UB _ (by omega) hr
 rw[List.nil_append]at j1
 subst j1
 exact⟨_,rfl,by simpa using h1,by simpa using h2,by omega,Decidable.not_not.1 h4,hr,j2,j3,W,j5⟩
abbrev xU (s:B8) (a q:Int):Cx:=⟨s,a,q,48,65536⟩
abbrev PA (s:B8) (a q:Int) (hd:Bool):Except (Nat×Int) Nd:=By (xU s a q) hd 1048576 1024 65536
def Km (n:Nd) (a q:Int) (hd:Bool):Prop:=MJ n=0/\PA (DZ n) a q hd= .ok n
theorem Qh {n:Nd} (h:MJ n=0):EY n<=1048576:=by
 unfold MJ at h
 split at h
 ·rename_i e he;exact absurd h (IT n he)
 ·split at h
  ·cases h
  ·omega
theorem Y6 {x:Cx} {hd:Bool} {l2 l3 l4:Int} (hl:x.s.length<=2000000):FK (pN (By x hd l2 l3 l4))<=1000000000000000:=by
 cases h:By x hd l2 l3 l4 with
 | error e=>simp[pN,FK,LO]
 | ok n=>
  obtain⟨rs,rfl,_,_,_,_,_,hr,_⟩:=Fa h
  have:=(Rx hr (by omega)).1
  simp only[pN,FK];omega
theorem NdC.five {n:Nd} {cs:List TV} (h:NdC n cs):∃k l t v tl,cs=[.int .i64 k,.str l,.str t,v,.str tl]/\As v=true:=by
 cases n
 unfold NdC at h
 obtain⟨v,xs,rfl,hr,_⟩:=h
 exact⟨_,_,_,v,_,rfl,hr.one⟩
theorem XW {st:St} {K:Int->Int->Int->Int->Int->St->Prop} (hk:K 48 65536 1048576 1024 65536 st):CallT PR GE [] [.agg [.int .i64,.int .i64,.int .i64,.int .i64,.int .i64]] st K:=OZ st K hk
theorem TX {st:St} {K:Int->Int->Int->Int->Int->St->Prop} (hk:K 48 65536 1048576 1024 65536 st):CallT PR Do [] [.agg [.int .i64,.int .i64,.int .i64,.int .i64,.int .i64]] st K:=Jm st K hk
theorem TW {st:St} {K:Int->Int->Int->Int->Int->St->Prop} (hk:K 48 65536 1048576 1024 65536 st):CallT PR Dm [] [.agg [.int .i64,.int .i64,.int .i64,.int .i64,.int .i64]] st K:=Jj st K (TX hk)
theorem WQ {n:Nd} {cs:List TV} {a q:Int} {hd ty:Bool} (hc:NdC n cs) (hl:EY n<=100000000000000) (hcn:FK n<=1000000000000000) {st:St} {K:Bool->St->Prop}
  (hk1:∀st',Al st st'->Km n a q hd->K true st') (hk2:∀st',Al st st'->¬Km n a q hd->K false st'):
  CallT PR Ft [.agg cs,.agg [.int .u8 a,.int .u8 q,.bool hd,.bool ty]] [.one .bool] st K:=by
 obtain⟨k,l,t,v,tl,rfl,_⟩:=hc.five
 refine QG k l t v tl a q hd ty st K (Xt hc (by omega) hcn fun st1 e1=>Aa (fun g=>hk2 st1 e1 fun h=>g h.1) fun g=>?_)
 have g:MJ n=0:=Decidable.not_not.1 g
 have hlen:=Qh g
 have htl:=Fc n
 refine Xn hc hl hcn fun st2 e2=>XW ?_
 refine Rj (x:=xU (DZ n) a q) (by show(DZ n).length<=_;omega) fun kd kv st3 e3 hn=>?_
 have e13:=(e1.trans e2).trans e3
 obtain⟨_,_,_,_,_,h5,ho⟩:=hn.five
 cases h5
 refine Ab (Fb ho) (Aa (fun g2=>?_) fun g2=>?_)
 ·refine Tq _ _ hn hc (Y6 (by show(DZ n).length<=_;omega)) (fun he=>hk1 _ e13 ⟨g,?_⟩) fun he=>hk2 _ e13 fun h=>he ?_
  ·show By _ _ _ _ _=_
   revert he g2
   cases hp:By (xU (DZ n) a q) hd 1048576 1024 65536 with
   | error e=>
    intro _ he
    simp only[pN]at he
    rw[<-he]at g
    exact absurd g (by decide)
   | ok m=>intro _ he;simp only[pN]at he;rw[he]
  ·rw[show By (xU (DZ n) a q) hd 1048576 1024 65536= .ok n from h.2];rfl
 ·refine hk2 _ e13 fun h=>g2 ?_
  rw[show By (xU (DZ n) a q) hd 1048576 1024 65536= .ok n from h.2];rfl
def GU {α:Type} (f:α->TV) (v:TV) (row:List α):Prop:=Rd 1 v row.length (row.map f)
def Ia {α:Type} (f:α->TV) (v:TV) (rows:List (List α)):Prop:=∃vs:List TV,Rd 1 v rows.length vs/\vs.length=rows.length/\∀(i:Nat) (u:TV) (row:List α),vs[i]? =some u->rows[i]? =some row->GU f u row
theorem GU.ld {α:Type} {f:α->TV} {v:TV} {row:List α} (h:GU f v row) (st:St) {i:Nat} {a:α} (ha:row[i]? =some a):Ad st [] (.t (ixT 1 v i)) 0=some (f a):=
 Rd.ldx h st i 0 (by rw[Nat.mul_one,Nat.add_zero,List.getElem?_map,ha];rfl)
theorem Ia.rd {α:Type} {f:α->TV} {v:TV} {rows:List (List α)} (h:Ia f v rows):∃vs,Rd 1 v rows.length vs:=by obtain⟨vs,h1,_⟩:=h;exact⟨vs,h1⟩
theorem Ia.nil {α:Type} (f:α->TV):Ia f .nilSlice []:=⟨[],.inl ⟨rfl,rfl,rfl⟩,rfl,fun i u row h=>by simp at h⟩
def He {α:Type} (f:α->TV) (b:Nat) (st:St) (v:TV) (rows:List (List α)):Prop:=∃vs:List TV,Own b 1 st v rows.length vs/\vs.length=rows.length/\∀(i:Nat) (u:TV) (row:List α),vs[i]? =some u->rows[i]? =some row->GU f u row
theorem He.rd {α:Type} {f:α->TV} {b:Nat} {st:St} {v:TV} {rows:List (List α)} (h:He f b st v rows):Ia f v rows:=by
 obtain⟨vs,h1,h2,h3⟩:=h;exact⟨vs,h1.rd,h2,h3⟩
def EW {α:Type} (g:B8->α) (rs:List Nd):List (List α):=rs.map fun r=>(Aw r).map fun k=>g (AW k)
theorem ZR {a q:Int} {k:Nd} (hk:Yp a q k) {cs:List TV} (hc:NdC k cs):∃u ys,cs=[.int .i64 5,.str [],.str [],u,.str []]/\Rd 5 u (Aw k).length ys/\0<(Aw k).length/\(∀st,Ad st [] (.t (Ao (ixT 5 u 0) 2)) 0=some (.str (AW k)))/\isPtr (ixT 5 u 0)=true:=by
 obtain⟨c,mark,rfl,_,_⟩:=hk
 unfold NdC at hc
 obtain⟨u,ys,rfl,h1,h2⟩:=hc
 refine⟨u,ys,rfl,h1,by simp[Aw],fun st=>?_,?_⟩
 ·obtain⟨cs,h3,h4⟩:=h2.get (i:=0) rfl
  unfold NdC at h3
  obtain⟨w,zs,rfl,_⟩:=h3
  exact h1.ldfx st 0 2 (h4 2 _ rfl)
 ·rcases h1 with⟨rfl,h,_⟩ | ⟨tip,rfl⟩
  ·simp at h
  ·rfl
theorem OI {v:TV} {ks:List Nd} {xs:List TV} (hr:Rd 5 v ks.length xs) (hk:BI ks xs) (st:St) {i:Nat} {k:Nd} (hi:ks[i]? =some k):
  ∃cs,NdC k cs/\(Ai st [] (.t (ixT 5 v i)) 0 5).map TV.agg=some (.agg cs):=by
 obtain⟨a,b,c,d,e⟩:=k
 obtain⟨u,ys,h1,h2,h3,h4⟩:=ND hr hk st hi
 exact⟨_,by unfold NdC;exact⟨u,ys,rfl,h2,h3⟩,h1⟩
section
def Np:Nd->List Nd | .mk _ _ _ ks _=>ks
def Dw (q:Int) (c:B8):Bool:=decide (¬(c=[]∨by_ c 0≠q))
open Classical in
noncomputable def G8 {α:Type} (g:B8->α) (n:Nd) (a q:Int) (hd:Bool):List (List α):=if Km n a q hd then EW g (Np n)else []
open Classical in
noncomputable def Lj (n:Nd) (a q:Int) (hd:Bool):Int:=if Km n a q hd then 0 else 1
theorem Ub {n:Nd} {a q:Int} {hd:Bool} (h:Km n a q hd):∃rs,n= .mk 1 [] [] rs []/\(∀r∈rs,RecF a q r)/\EY n<=1048576/\rs.length<=EY n/\∀r∈rs,(Aw r).length<=10000000/\∀k∈Aw r,(AW k).length<=1048576:=by
 obtain⟨rs,rfl,_,_,_,_,_,hr,_⟩:=Fa h.2
 have hn:=Fc (.mk 1 [] [] rs [])
 have hlen:=Qh h.1
 have hkc:=Rx hr (Nat.zero_le _)
 have hs0:(xU (DZ (.mk 1 [] [] rs [])) a q).s.length=EY (.mk 1 [] [] rs []):=hn
 rw[hs0]at hkc
 refine⟨rs,rfl,hr.form (Nat.zero_le _),hlen,by have:=hkc.2;omega,fun r hr1=>?_⟩
 obtain⟨i,hi⟩:=List.getElem?_of_mem hr1
 have h1:=H1 rs hi
 have h2:=Mz rs i r hi
 obtain⟨a1,b1,c1,ks,e1⟩:=r
 have h3:=H2 ks
 simp only[FK,EY,Aw]at h1 h2⊢
 have hk1:=hkc.1
 simp only[EY]at hlen hk1
 refine⟨by omega,fun k hk=>?_⟩
 obtain⟨j,hj⟩:=List.getElem?_of_mem hk
 have h4:=Mz ks j k hj
 have h5:(AW k).length<=EY k:=by
  obtain⟨a2,b2,c2,js,e2⟩:=k
  cases js with
  | nil=>simp[AW,Aw]
  | cons y ys=>
   obtain⟨a3,b3,c3,zs,e3⟩:=y
   simp only[AW,Aw,EY,HZ];omega
 omega
section
variable {n:Nd} {cs:List TV} {a q:Int} {hd ty:Bool} {st:St}
theorem He.add {α:Type} {f:α->TV} {T by_:Nat} {st0 st:St} {v u:TV} {rows:List (List α)} {row:List α} {K:TV->St->Prop} (e:Al st0 st) (h:He f st0.nt st v rows) (hu:GU f u row) (hby:(rows.length+1)*by_<=140737488355328)
  (hk:∀v' st',Al st0 st'->He f st0.nt st' v' (rows++[row])->K v' st'):Bs T 1 by_ v 1 [u] st K:=by
 obtain⟨vs,h1,h2,h3⟩:=h
 refine CJ e rfl h1 hby (fun h=>by cases h) fun v' st' e' _ ho=>hk v' st' e' ⟨vs++[u],by rw[List.length_append];exact ho,by simp[h2],fun i u' row' hi hr=>?_⟩
 by_cases hlt:i<vs.length
 ·rw[List.getElem?_append_left hlt]at hi
  rw[List.getElem?_append_left (by omega)]at hr
  exact h3 i u' row' hi hr
 ·rw[List.getElem?_append_right (by omega)]at hi
  rw[List.getElem?_append_right (by omega)]at hr
  have h0:i-vs.length=0:=by
   have:=(List.getElem?_eq_some_iff.1 hi).1
   simp at this;omega
  rw[h0]at hi
  rw[show i-rows.length=0 by omega]at hr
  simp only[List.getElem?_cons_zero,Option.some.injEq]at hi hr
  subst hi hr;exact hu
theorem He.ext {α:Type} {f:α->TV} {b:Nat} {st st':St} {v:TV} {rows:List (List α)} (h:He f b st v rows) (e:Al st st'):He f b st' v rows:=by
 obtain⟨vs,h1,h2,h3⟩:=h;exact⟨vs,h1.ext e,h2,h3⟩
theorem He.nil {α:Type} (f:α->TV) (b:Nat) (st:St):He f b st .nilSlice []:=⟨[],Own.nil _ _ _,rfl,fun i u row h=>by simp at h⟩
theorem TZ {K:TV->Int->St->Prop} (hc:NdC n cs) (hl:EY n<=100000000000000) (hcn:FK n<=1000000000000000)
  (hk:∀v st',Al st st'->Ia TV.str v (G8 (txt q) n a q hd)->K v (Lj n a q hd) st'):
  CallT PR Fg [.agg cs,.agg [.int .u8 a,.int .u8 q,.bool hd,.bool ty]] [.one .tv,.one (.int .i64)] st K:=by
 have tn:∀k:Nat,Int.toNat (k:Int)=k:=fun k=>rfl
 have w1:∀k:Nat,k<=100000000->i64.wrap ((k:Int)+1)=((k+1:Nat):Int):=fun k hk=>by rw[Af _ (by omega) (by omega)];omega
 have hc0:=hc
 obtain⟨k,l,t,ks,tl⟩:=n
 unfold NdC at hc
 obtain⟨v,xs,rfl,hr,hx⟩:=hc
 refine MS k l t v tl a q hd ty st K (WQ hc0 hl hcn (fun st1 e1 ho=>?_) fun st1 e1 ho=>?_)
 case' refine_2=>
  refine Aj (fun _=>?_) fun h=>by cases h
  have:=hk .nilSlice st1 e1 (by unfold G8;rw[if_neg ho];exact Ia.nil _)
  unfold Lj at this
  rwa [if_neg ho]at this
 refine Aj (fun h=>by cases h) fun _=>Ab hr.isSl ?_
 have hfin:∀v st',Al st st'->Ia TV.str v (EW (txt q) ks)->K v 0 st':=fun v st' e h=>by
  have:=hk v st' e (by unfold G8;rw[if_pos ho];exact h)
  unfold Lj at this
  rwa [if_pos ho]at this
 obtain⟨rs,hn,hform,hlen,hrl,hkl⟩:=Ub ho
 cases hn
 rw[hr.lenS]
 refine⟨fun out i v' n' a' q' b1 b2 st'=>v=v'/\(ks.length:Int)=n'/\a=a'/\q=q'/\hd=b1/\ty=b2/\Al st st'/\∃j:Nat,i=(j:Int)/\j<=ks.length/\He TV.str st.nt st' out (EW (txt q) (ks.take j)),
  fun _ i _ _ _ _ _ _ _=>(ks.length-i).toNat,⟨rfl,rfl,rfl,rfl,rfl,rfl,e1,0,rfl,by omega,by rw[List.take_zero];exact He.nil _ _ _⟩,?_⟩
 rintro out _ _ _ _ _ _ _ st2 ⟨rfl,rfl,rfl,rfl,rfl,rfl,e2,j,rfl,hj,hg⟩
 rw[hr.lenZ,tn]
 refine Aa (fun g=>?_) fun g=>?_
 case' refine_2=>
  rw[List.take_of_length_le (by omega)]at hg
  exact hfin _ _ e2 hg.rd
 have hlt:j<ks.length:=by omega
 have hget:=List.getElem?_eq_getElem hlt
 generalize ks[j]=r at hget
 have hrf:=hform r (Bq hget)
 have hrk:=hkl r (Bq hget)
 obtain⟨ents,tail,rfl,hne,hents⟩:=hrf
 obtain⟨rc,hrc,hld⟩:=OI hr hx st2 hget
 unfold NdC at hrc
 obtain⟨u,ys,rfl,hu,hy⟩:=hrc
 refine⟨⟨by omega,by omega⟩,Ac hld (Kw (Ab (Fb hu.one) (Ab hu.isSl ?_)))⟩
 rw[hu.lenS]
 simp only[Aw]at hrk
 refine⟨fun li m out' v' n' i' u' m' a' q' b1 b2 st'=>out=out'/\v=v'/\(ks.length:Int)=n'/\(j:Int)=i'/\u=u'/\(ents.length:Int)=m'/\a=a'/\q=q'/\hd=b1/\ty=b2/\Al st2 st'/\∃p:Nat,m=(p:Int)/\p<=ents.length/\Own st2.nt 1 st' li p (((ents.take p).map fun k=>txt q (AW k)).map TV.str),
  fun _ m _ _ _ _ _ _ _ _ _ _ _=>(ents.length-m).toNat,⟨rfl,rfl,rfl,rfl,rfl,rfl,rfl,rfl,rfl,rfl,Al.refl _,0,rfl,by omega,Own.nil _ _ _⟩,?_⟩
 rintro li _ _ _ _ _ _ _ _ _ _ _ st3 ⟨rfl,rfl,rfl,rfl,rfl,rfl,rfl,rfl,rfl,rfl,e3,p,rfl,hp,hli⟩
 rw[hu.lenZ,tn]
 refine Aa (fun g2=>?_) fun g2=>?_
 ·have hlt2:p<ents.length:=by omega
  have hget2:=List.getElem?_eq_getElem hlt2
  generalize ents[p]=en at hget2
  have hef:=hents en (Bq hget2)
  obtain⟨ec,hec,hld2⟩:=OI hu hy st3 hget2
  obtain⟨w,zs,rfl,hw,hpos,hwl,hwp⟩:=ZR hef hec
  refine⟨⟨by omega,by omega⟩,Ac hld2 (Kw (Ab (Fb hw.one) ?_))⟩
  rw[hw.lenZ]
  refine⟨⟨by omega,by omega⟩,Ab hwp (Ac (hwl _) (Ak ?_))⟩
  have hcl:=hrk.2 en (Bq hget2)
  have hcw:U1 q (AW en):=by
   obtain⟨c,mark,rfl,hcw,_⟩:=hef
   exact hcw
  refine Pf hcw (by omega) fun st4 e4=>?_
  refine CJ (e3.trans e4) rfl (hli.ext e4) (by omega) (fun h=>by cases h) fun v5 st5 e5 _ o5=>?_
  rw[w1 p (by omega)]
  refine⟨⟨rfl,rfl,rfl,rfl,rfl,rfl,rfl,rfl,rfl,rfl,e5,p+1,rfl,by omega,?_⟩,by dsimp only;omega⟩
  rw[List.take_add_one,hget2]
  simpa using o5
 ·have hpe:p=ents.length:=by omega
  rw[hpe,List.take_of_length_le (by omega)]at hli
  refine Ab (PD hli.rd.one) (Ab (PD hli.rd.one) ?_)
  refine(hg.ext e3).add (e2.trans e3) (row:=ents.map fun k=>txt q (AW k)) (by unfold GU;rw[List.length_map];exact hli.rd) (by simp only[EW,List.length_map,List.length_take];omega) fun v' st' e' hg'=>?_
  rw[w1 j (by omega)]
  refine⟨⟨rfl,rfl,rfl,rfl,rfl,rfl,e',j+1,rfl,by omega,?_⟩,by dsimp only;omega⟩
  rw[List.take_add_one,hget]
  simpa [EW,Aw]using hg'
end
end
section
section
variable {n:Nd} {cs:List TV} {a q:Int} {hd ty:Bool} {st:St}
theorem Vu {K:TV->Int->St->Prop} (hc:NdC n cs) (hl:EY n<=100000000000000) (hcn:FK n<=1000000000000000)
  (hk:∀v st',Al st st'->Ia TV.bool v (G8 (Dw q) n a q hd)->K v (Lj n a q hd) st'):
  CallT PR FO [.agg cs,.agg [.int .u8 a,.int .u8 q,.bool hd,.bool ty]] [.one .tv,.one (.int .i64)] st K:=by
 have tn:∀k:Nat,Int.toNat (k:Int)=k:=fun k=>rfl
 have w1:∀k:Nat,k<=100000000->i64.wrap ((k:Int)+1)=((k+1:Nat):Int):=fun k hk=>by rw[Af _ (by omega) (by omega)];omega
 have hc0:=hc
 obtain⟨k,l,t,ks,tl⟩:=n
 unfold NdC at hc
 obtain⟨v,xs,rfl,hr,hx⟩:=hc
 refine Ov k l t v tl a q hd ty st K (WQ hc0 hl hcn (fun st1 e1 ho=>?_) fun st1 e1 ho=>?_)
 case' refine_2=>
  refine Aj (fun _=>?_) fun h=>by cases h
  have:=hk .nilSlice st1 e1 (by unfold G8;rw[if_neg ho];exact Ia.nil _)
  unfold Lj at this
  rwa [if_neg ho]at this
 refine Aj (fun h=>by cases h) fun _=>Ab hr.isSl ?_
 have hfin:∀v st',Al st st'->Ia TV.bool v (EW (Dw q) ks)->K v 0 st':=fun v st' e h=>by
  have:=hk v st' e (by unfold G8;rw[if_pos ho];exact h)
  unfold Lj at this
  rwa [if_pos ho]at this
 obtain⟨rs,hn,hform,hlen,hrl,hkl⟩:=Ub ho
 cases hn
 rw[hr.lenS]
 refine⟨fun out i v' n' a' q' b1 b2 st'=>v=v'/\(ks.length:Int)=n'/\a=a'/\q=q'/\hd=b1/\ty=b2/\Al st st'/\∃j:Nat,i=(j:Int)/\j<=ks.length/\He TV.bool st.nt st' out (EW (Dw q) (ks.take j)),
  fun _ i _ _ _ _ _ _ _=>(ks.length-i).toNat,⟨rfl,rfl,rfl,rfl,rfl,rfl,e1,0,rfl,by omega,by rw[List.take_zero];exact He.nil _ _ _⟩,?_⟩
 rintro out _ _ _ _ _ _ _ st2 ⟨rfl,rfl,rfl,rfl,rfl,rfl,e2,j,rfl,hj,hg⟩
 rw[hr.lenZ,tn]
 refine Aa (fun g=>?_) fun g=>?_
 case' refine_2=>
  rw[List.take_of_length_le (by omega)]at hg
  exact hfin _ _ e2 hg.rd
 have hlt:j<ks.length:=by omega
 have hget:=List.getElem?_eq_getElem hlt
 generalize ks[j]=r at hget
 have hrf:=hform r (Bq hget)
 have hrk:=hkl r (Bq hget)
 obtain⟨ents,tail,rfl,hne,hents⟩:=hrf
 obtain⟨rc,hrc,hld⟩:=OI hr hx st2 hget
 unfold NdC at hrc
 obtain⟨u,ys,rfl,hu,hy⟩:=hrc
 refine⟨⟨by omega,by omega⟩,Ac hld (Kw (Ab (Fb hu.one) (Ab hu.isSl ?_)))⟩
 rw[hu.lenS]
 simp only[Aw]at hrk
 refine⟨fun li m out' v' n' i' u' m' a' q' b1 b2 st'=>out=out'/\v=v'/\(ks.length:Int)=n'/\(j:Int)=i'/\u=u'/\(ents.length:Int)=m'/\a=a'/\q=q'/\hd=b1/\ty=b2/\Al st2 st'/\∃p:Nat,m=(p:Int)/\p<=ents.length/\Own st2.nt 1 st' li p (((ents.take p).map fun k=>Dw q (AW k)).map TV.bool),
  fun _ m _ _ _ _ _ _ _ _ _ _ _=>(ents.length-m).toNat,⟨rfl,rfl,rfl,rfl,rfl,rfl,rfl,rfl,rfl,rfl,Al.refl _,0,rfl,by omega,Own.nil _ _ _⟩,?_⟩
 rintro li _ _ _ _ _ _ _ _ _ _ _ st3 ⟨rfl,rfl,rfl,rfl,rfl,rfl,rfl,rfl,rfl,rfl,e3,p,rfl,hp,hli⟩
 rw[hu.lenZ,tn]
 refine Aa (fun g2=>?_) fun g2=>?_
 ·have hlt2:p<ents.length:=by omega
  have hget2:=List.getElem?_eq_getElem hlt2
  generalize ents[p]=en at hget2
  have hef:=hents en (Bq hget2)
  obtain⟨ec,hec,hld2⟩:=OI hu hy st3 hget2
  obtain⟨w,zs,rfl,hw,hpos,hwl,hwp⟩:=ZR hef hec
  refine⟨⟨by omega,by omega⟩,Ac hld2 (Kw (Ab (Fb hw.one) ?_))⟩
  rw[hw.lenZ]
  refine⟨⟨by omega,by omega⟩,Ab hwp (Ac (hwl _) (Ak ?_))⟩
  have hcl:=hrk.2 en (Bq hget2)
  have hcw:U1 q (AW en):=by
   obtain⟨c,mark,rfl,hcw,_⟩:=hef
   exact hcw
  refine Pf hcw (by omega) fun st4 e4=>?_
  rw[show decide (¬(AW en=[]∨by_ (AW en) 0≠q))=Dw q (AW en)from rfl]
  refine CJ (e3.trans e4) rfl (hli.ext e4) (by omega) (fun h=>by cases h) fun v5 st5 e5 _ o5=>?_
  rw[w1 p (by omega)]
  refine⟨⟨rfl,rfl,rfl,rfl,rfl,rfl,rfl,rfl,rfl,rfl,e5,p+1,rfl,by omega,?_⟩,by dsimp only;omega⟩
  rw[List.take_add_one,hget2]
  simpa using o5
 ·have hpe:p=ents.length:=by omega
  rw[hpe,List.take_of_length_le (by omega)]at hli
  refine Ab (PD hli.rd.one) (Ab (PD hli.rd.one) ?_)
  refine(hg.ext e3).add (e2.trans e3) (row:=ents.map fun k=>Dw q (AW k)) (by unfold GU;rw[List.length_map];exact hli.rd) (by simp only[EW,List.length_map,List.length_take];omega) fun v' st' e' hg'=>?_
  rw[w1 j (by omega)]
  refine⟨⟨rfl,rfl,rfl,rfl,rfl,rfl,e',j+1,rfl,by omega,?_⟩,by dsimp only;omega⟩
  rw[List.take_add_one,hget]
  simpa [EW,Aw]using hg'
end
end
section
def Hm (a q:Int) (s:B8):Except Int B8:=if dOk a q=false then .error 1 else if Bi s=s.length then .ok (Bb a q s)else .error 5
def xT:Except Int B8->B8 | .ok t=>t | .error _=>[]
def xE:Except Int B8->Int | .ok _=>0 | .error e=>e
theorem OL {a q:Int} (h:dOk a q=true):(a=9∨(32<=a/\a<=126))/\33<=q/\q<=126/\a≠q:=by
 unfold dOk at h
 exact(of_decide_eq_true h).1
theorem PH {a q:Int} {s:B8} {j:Nat} (h:j<s.length):FY a q (s.take (j+1))=(FY a q (s.take j) || decide (by_ s j=a∨by_ s j=q∨by_ s j=10∨by_ s j=13)):=by
 unfold FY
 rw[EB s j 0 h,List.any_append]
 simp only[List.any_cons,List.any_nil,Bool.or_false]
 rfl
theorem Ez {a q:Int} {s:B8} {j:Nat} (h:j<s.length) (hb:by_ s j=a∨by_ s j=q∨by_ s j=10∨by_ s j=13):FY a q s=true:=by
 unfold FY
 rw[List.any_eq_true]
 refine⟨s.getD j 0,?_,decide_eq_true hb⟩
 rw[List.getD_eq_getElem?_getD,List.getElem?_eq_getElem h]
 exact List.getElem_mem h
theorem IS (c:UInt8):∀t:B8,(dbl c t).length<=2*t.length
 | []=>by simp[dbl]
 | b::t=>by
  have:=IS c t
  rw[ET,List.length_append,List.length_cons]
  split<;>simp<;>omega
theorem Kl (a q:Int) (s:B8):(Bb a q s).length<=2*s.length+2:=by
 unfold Bb
 split
 ·have:=IS (UInt8.ofNat q.toNat) s
  simp;omega
 ·omega
section
variable {a q:Int} {hd ty:Bool} {st:St}
theorem Ns {s:B8} {K:B8->Int->St->Prop} (hl:s.length<=2000000) (hk:K (xT (Hm a q s)) (xE (Hm a q s)) st):
  CallT PR CE [.str s,.agg [.int .u8 a,.int .u8 q,.bool hd,.bool ty]] [.one .str,.one (.int .i64)] st K:=by
 have tn:∀k:Nat,Int.toNat (k:Int)=k:=fun k=>rfl
 have w1:∀k:Nat,k<=100000000->i64.wrap ((k:Int)+1)=((k+1:Nat):Int):=fun k hk=>by rw[Af _ (by omega) (by omega)];omega
 unfold Hm at hk
 refine O3 s a q hd ty st K (H5 (Aj (fun g=>?_) fun g=>?_))
 ·rw[if_pos (by simpa using g)]at hk;exact hk
 have gd:dOk a q=true:=by simpa using g
 rw[if_neg (by rw[gd];decide)]at hk
 have hdk:=OL gd
 refine MZ hl (Aj (fun g=>?_) fun g=>?_)
 ·rw[if_neg (by simpa using g)]at hk;exact hk
 rw[if_pos (by simpa using g)]at hk
 have hqn:=EF (q:=q) (by omega) (by omega)
 generalize hc:UInt8.ofNat q.toNat=c at hqn
 refine Ac (HR st c hqn) (Ak ?_)
 refine⟨fun i s' q' n1 n2 b1 b2 st'=>s=s'/\[c]=q'/\a=n1/\q=n2/\hd=b1/\ty=b2/\st=st'/\∃j:Nat,i=(j:Int)/\j<=s.length/\FY a q (s.take j)=false,
  fun i _ _ _ _ _ _ _=>(s.length-i).toNat,⟨rfl,rfl,rfl,rfl,rfl,rfl,rfl,0,rfl,by omega,rfl⟩,?_⟩
 rintro _ _ _ _ _ _ _ _ ⟨rfl,rfl,rfl,rfl,rfl,rfl,rfl,j,rfl,hj,hnq⟩
 rw[tn]
 refine Aa (fun g1=>⟨⟨by omega,by omega⟩,?_⟩) fun g1=>?_
 ·have fin:FY a q s=true->CallT PR AF [.str s,.str [c],.str ([c]++[c])] [.one .str] st fun s4 st6=>(([c].length+s4.length<=9223372036854775807)/\((([c]++s4).length+ [c].length<=9223372036854775807)/\K ([c]++s4++[c]) 0 st6)):=fun hn=>by
   refine Lh (by simp) (by omega) ?_
   have hdl:=IS c s
   unfold dbl at hdl
   refine⟨by simp only[List.length_cons,List.length_nil];omega,by simp only[List.length_append,List.length_cons,List.length_nil];omega,?_⟩
   unfold Bb at hk
   rw[if_pos hn,hc]at hk
   exact hk
  refine Aa (fun q1=>⟨by simp,fin (Ez (j:=j) (by omega) (.inl q1))⟩) fun q1=>Aa (fun q2=>⟨by simp,fin (Ez (j:=j) (by omega) (.inr (.inl q2)))⟩) fun q2=>Aa (fun q3=>⟨by simp,fin (Ez (j:=j) (by omega) (.inr (.inr (.inl q3))))⟩) fun q3=>
   Aa (fun q4=>⟨by simp,fin (Ez (j:=j) (by omega) (.inr (.inr (.inr q4))))⟩) fun q4=>?_
  rw[w1 j (by omega)]
  refine⟨⟨rfl,rfl,rfl,rfl,rfl,rfl,rfl,j+1,rfl,by omega,?_⟩,by dsimp only;omega⟩
  rw[PH (by omega),hnq,Bool.false_or]
  exact decide_eq_false (by rintro(h | h | h | h);exact q1 h;exact q2 h;exact q3 h;exact q4 h)
 ·rw[List.take_of_length_le (by omega)]at hnq
  unfold Bb at hk
  rw[if_neg (by rw[hnq];decide)]at hk
  exact hk
theorem Ob {s:B8} {c:UInt8} {K:B8->St->Prop} (hc:(c.toNat:Int)=q) (hl:s.length<=2000000) (hk:K (c::(dbl c s++[c])) st):
  CallT PR AD [.str s,.agg [.int .u8 a,.int .u8 q,.bool hd,.bool ty]] [.one .str] st K:=by
 have tn:∀k:Nat,Int.toNat (k:Int)=k:=fun k=>rfl
 have w1:∀k:Nat,k<=100000000->i64.wrap ((k:Int)+1)=((k+1:Nat):Int):=fun k hk=>by rw[Af _ (by omega) (by omega)];omega
 refine Hh s a q hd ty st K (Ac (HR st c hc) (Ak ?_))
 refine⟨fun out i s' q' n1 n2 b1 b2 st'=>s=s'/\[c]=q'/\a=n1/\q=n2/\hd=b1/\ty=b2/\st=st'/\∃j:Nat,i=(j:Int)/\j<=s.length/\out=c::dbl c (s.take j),
  fun _ i _ _ _ _ _ _ _=>(s.length-i).toNat,⟨rfl,rfl,rfl,rfl,rfl,rfl,rfl,0,rfl,by omega,rfl⟩,?_⟩
 rintro _ _ _ _ _ _ _ _ _ ⟨rfl,rfl,rfl,rfl,rfl,rfl,rfl,j,rfl,hj,rfl⟩
 have hdl:=IS c (s.take j)
 rw[List.length_take]at hdl
 refine Aa (fun g1=>?_) fun g1=>?_
 ·have hlt:j<s.length:=by omega
  rw[w1 j (by omega),tn,tn,show List.drop j (List.take (j+1) s)=[s.getD j 0]from Sj hlt]
  have hst:=EB s j 0 hlt
  refine⟨⟨by omega,by omega,by omega⟩,by simp only[List.length_cons,List.length_nil];omega,⟨by omega,by omega⟩,Aa (fun g2=>⟨by simp only[List.length_cons,List.length_append,List.length_nil];omega,?_⟩) fun g2=>?_⟩
  ·have hb:s.getD j 0=c:=UInt8.toNat_inj.1 (by omega)
   refine⟨⟨rfl,rfl,rfl,rfl,rfl,rfl,rfl,j+1,rfl,by omega,?_⟩,by dsimp only;omega⟩
   rw[hst,SM,hb];simp[dbl,Ph]
  ·have hb:s.getD j 0≠c:=fun h=>g2 (by rw[h];exact hc)
   refine⟨⟨rfl,rfl,rfl,rfl,rfl,rfl,rfl,j+1,rfl,by omega,?_⟩,by dsimp only;omega⟩
   have h1:dbl c [s.getD j 0]=[s.getD j 0]:=by
    simp only[dbl,List.flatMap_cons,List.flatMap_nil,Ph,List.append_nil]
    rw[if_neg hb]
   rw[hst,SM,h1];rfl
 ·rw[List.take_of_length_le (by omega)]
  have hdl2:=IS c s
  refine⟨?_,hk⟩
  rw[List.take_of_length_le (by omega)]at hdl
  simp only[List.length_cons,List.length_nil];omega
theorem Pp {s:B8} {K:B8->Int->St->Prop} (hl:s.length<=2000000) (hk:∀st',Al st st'->K (xT (Hm a q s)) (xE (Hm a q s)) st'):
  CallT PR Bx [.str s,.agg [.int .u8 a,.int .u8 q,.bool hd,.bool ty]] [.one .str,.one (.int .i64)] st K:=by
 have tn:∀k:Nat,Int.toNat (k:Int)=k:=fun k=>rfl
 have w1:∀k:Nat,k<=100000000->i64.wrap ((k:Int)+1)=((k+1:Nat):Int):=fun k hk=>by rw[Af _ (by omega) (by omega)];omega
 unfold Hm at hk
 refine Ji s a q hd ty st K (LE (Aj (fun g=>?_) fun g=>?_))
 ·rw[if_pos (by simpa using g)]at hk;exact hk st (Al.refl _)
 have gd:dOk a q=true:=by simpa using g
 rw[if_neg (by rw[gd];decide)]at hk
 have hdk:=OL gd
 refine Nk hl fun st1 e1=>Aj (fun g=>?_) fun g=>?_
 ·rw[if_neg (by simpa using g)]at hk;exact hk st1 e1
 rw[if_pos (by simpa using g)]at hk
 have hqn:=EF (q:=q) (by omega) (by omega)
 generalize hc:UInt8.ofNat q.toNat=c at hqn
 refine⟨fun i s' n1 n2 b1 b2 st'=>s=s'/\a=n1/\q=n2/\hd=b1/\ty=b2/\st1=st'/\∃j:Nat,i=(j:Int)/\j<=s.length/\FY a q (s.take j)=false,
  fun i _ _ _ _ _ _=>(s.length-i).toNat,⟨rfl,rfl,rfl,rfl,rfl,rfl,0,rfl,by omega,rfl⟩,?_⟩
 rintro _ _ _ _ _ _ _ ⟨rfl,rfl,rfl,rfl,rfl,rfl,j,rfl,hj,hnq⟩
 rw[tn]
 refine Aa (fun g1=>⟨⟨by omega,by omega⟩,?_⟩) fun g1=>?_
 ·have fin:FY a q s=true->CallT PR AD [.str s,.agg [.int .u8 a,.int .u8 q,.bool hd,.bool ty]] [.one .str] st1 fun s4 st6=>K s4 0 st6:=fun hn=>by
   refine Ob hqn hl ?_
   have:=hk st1 e1
   unfold Bb at this
   rw[if_pos hn,hc]at this
   exact this
  refine Aa (fun q1=>fin (Ez (j:=j) (by omega) (.inl q1))) fun q1=>⟨⟨by omega,by omega⟩,Aa (fun q2=>fin (Ez (j:=j) (by omega) (.inr (.inl q2)))) fun q2=>⟨⟨by omega,by omega⟩,Aa (fun q3=>fin (Ez (j:=j) (by omega) (.inr (.inr (.inl q3))))) fun q3=>
   ⟨⟨by omega,by omega⟩,Aa (fun q4=>fin (Ez (j:=j) (by omega) (.inr (.inr (.inr q4))))) fun q4=>?_⟩⟩⟩
  rw[w1 j (by omega)]
  refine⟨⟨rfl,rfl,rfl,rfl,rfl,rfl,j+1,rfl,by omega,?_⟩,by dsimp only;omega⟩
  rw[PH (by omega),hnq,Bool.false_or]
  exact decide_eq_false (by rintro(h | h | h | h);exact q1 h;exact q2 h;exact q3 h;exact q4 h)
 ·rw[List.take_of_length_le (by omega)]at hnq
  have:=hk st1 e1
  unfold Bb at this
  rw[if_neg (by rw[hnq];decide)]at this
  exact this
end
end
section
theorem Lb {st0 st:St} {b:Nat} {buf:B8} {C:Int} {c:UInt8} {K:TV->St->Prop} (hC:(c.toNat:Int)=C) (h:LY st0 b st buf) (hl:buf.length+1<=140737488355328) (hk:∀st',LY st0 b st' (buf++[c])->K .nilIface st'):
  CallT PR AG [.box b 0,.int .u8 C] [.one .tv] st K:=by
 subst hC
 refine C9 b _ st K (Ls h fun st1 h1=>?_)
 obtain⟨e,a1,a2,a3,p,v,hb,hp,hv⟩:=h1
 refine Ac (x:=v) (by simp[Ad,hb]) ?_
 have hbt: [TV.int .u8 (c.toNat:Int)]=AA [c]:=rfl
 rw[hbt]
 rcases hv with⟨rfl,rfl⟩ | ⟨id,rfl,n1,n2,n3,n4,n5⟩
 ·simp only[Bs,Nat.zero_add,Nat.mul_one]
  refine Ab (by decide) (Ab rfl ⟨_,hb,by simp,hk _ ?_⟩)
  exact⟨(e.fresh _).put a1 _,a1,a2,a3,p,_,Cy _ _ _,hp,.inr ⟨st1.nt,rfl,by simp,e.nt,by simp[St.put,St.fresh],by simp[St.put,St.fresh],by simp[St.put,St.fresh]⟩⟩
 ·simp only[Bs,Nat.beq_refl,Nat.mul_one]
  refine⟨hl,n4,Ab rfl ⟨_,hb,by simp,hk _ ?_⟩⟩
  refine⟨((e.retire n2).fresh _).put a1 _,a1,a2,a3,p,_,Cy _ _ _,hp,.inr ⟨st1.nt,?_,by simp[n1],e.nt,by simp[St.put,St.fresh,St.retire],by simp[St.put,St.fresh,St.retire],by simp[St.put,St.fresh,St.retire,n5,J4]⟩⟩
  rw[List.length_append,<-Fu];rfl
def Gy (a q:Int):List B8->B8
 | []=>[]
 | [c]=>Bb a q c
 | c::r=>Bb a q c++UInt8.ofNat a.toNat::Gy a q r
theorem Uk (a q:Int):∀cs,Ru a q cs=Gy a q cs++[10]
 | []=>rfl
 | [c]=>rfl
 | c::d::r=>by simp only[Ru,Gy];rw[Uk a q (d::r)];simp
theorem PN (a q:Int) (c:B8):∀cs,Gy a q (cs++[c])=if cs=[]then Bb a q c else Gy a q cs++UInt8.ofNat a.toNat::Bb a q c
 | []=>rfl
 | [d]=>by simp[Gy]
 | d::f::r=>by
  have:=PN a q c (f::r)
  simp only[List.cons_append]at this⊢
  simp only[Gy]
  rw[this,if_neg (by simp),if_neg (by simp)]
  simp
theorem PL (a q:Int) {cs:List B8} {j:Nat} {c:B8} (h:cs[j]? =some c):Gy a q (cs.take (j+1))=if j=0 then Bb a q c else Gy a q (cs.take j)++UInt8.ofNat a.toNat::Bb a q c:=by
 have hlt:=(List.getElem?_eq_some_iff.1 h).1
 rw[List.take_add_one,h]
 simp only[Option.toList_some]
 rw[PN]
 by_cases hj:j=0
 ·subst hj;simp
 ·rw[if_neg hj,if_neg]
  intro h0
  have:=congrArg List.length h0
  rw[List.length_take,List.length_nil]at this
  omega
def QT (cs:List B8):Bool:=cs.all fun c=>decide (Bi c=c.length)
def Uj (a q:Int) (cs:List B8):Except Int B8:=if dOk a q=false then .error 1 else if cs=[]then .error 1 else if QT cs then .ok (Ru a q cs)else .error 5
def Cm (cs:List B8):Nat:=match cs with | []=>0 | c::r=>c.length+Cm r
theorem Q4 (cs:List B8) {j:Nat} {c:B8} (h:cs[j]? =some c):Cm (cs.take (j+1))=Cm (cs.take j)+c.length/\Cm (cs.take (j+1))<=Cm cs:=by
 induction cs generalizing j with
 | nil=>simp at h
 | cons d r ih=>
  cases j with
  | zero=>simp only[List.getElem?_cons_zero,Option.some.injEq]at h;subst h;simp[Cm]
  | succ j=>
   have:=ih (j:=j) (by simpa using h)
   simp only[List.take_succ_cons,Cm];omega
theorem Nz (a q:Int):∀cs,(Gy a q cs).length<=2*Cm cs+3*cs.length
 | []=>by simp[Gy]
 | [c]=>by have:=Kl a q c;simp[Gy,Cm];omega
 | c::d::r=>by
  have h1:=Kl a q c
  have h2:=Nz a q (d::r)
  simp only[Gy,List.length_append,List.length_cons,Cm]at h2⊢
  omega
theorem RU {cs:List B8} {j:Nat} {c:B8} (h:cs[j]? =some c):QT (cs.take (j+1))=(QT (cs.take j)&&decide (Bi c=c.length)):=by
 unfold QT
 rw[List.take_add_one,h,List.all_append]
 simp
theorem UV {cs:List B8} {j:Nat} {c:B8} (h:cs[j]? =some c) (hv:¬Bi c=c.length):QT cs=false:=by
 cases hb:QT cs with
 | false=>rfl
 | true=>
  unfold QT at hb
  have:=List.all_eq_true.1 hb c (List.mem_of_getElem? h)
  exact absurd (of_decide_eq_true this) hv
section
variable {a q:Int} {hd ty:Bool} {st:St}
theorem Y3 {v:TV} {cs:List B8} {K:B8->Int->St->Prop} (hr:GU TV.str v cs) (hl:Cm cs<=1000000) (hn:cs.length<=1000000) (hk:∀st',Al st st'->K (xT (Uj a q cs)) (xE (Uj a q cs)) st'):
  CallT PR Hz [v,.agg [.int .u8 a,.int .u8 q,.bool hd,.bool ty]] [.one .str,.one (.int .i64)] st K:=by
 have tn:∀k:Nat,Int.toNat (k:Int)=k:=fun k=>rfl
 have w1:∀k:Nat,k<=100000000->i64.wrap ((k:Int)+1)=((k+1:Nat):Int):=fun k hk=>by rw[Af _ (by omega) (by omega)];omega
 unfold Uj at hk
 refine QH v a q hd ty st K (H5 (Aj (fun g=>?_) fun g=>?_))
 ·rw[if_pos (by simpa using g)]at hk;exact hk st (Al.refl _)
 have gd:dOk a q=true:=by simpa using g
 rw[if_neg (by rw[gd];decide)]at hk
 have hdk:=OL gd
 have hab:=EF (q:=a) (by omega) (by omega)
 refine Ab (Rd.isSl hr) ?_
 rw[Rd.lenS hr]
 refine Aa (fun g=>?_) fun g=>Ab (Rd.isSl hr) ?_
 ·rw[if_pos (List.eq_nil_of_length_eq_zero (by omega))]at hk;exact hk st (Al.refl _)
 rw[if_neg (by rintro rfl;simp at g)]at hk
 refine⟨fun i w v' n n1 n2 b1 b2 st'=>v=v'/\(cs.length:Int)=n/\a=n1/\q=n2/\hd=b1/\ty=b2/\TV.box st.nb 0=w/\∃j:Nat,i=(j:Int)/\j<=cs.length/\QT (cs.take j)=true/\LY st st.nb st' (Gy a q (cs.take j)),
  fun i _ _ _ _ _ _ _ _=>(cs.length-i).toNat,⟨rfl,rfl,rfl,rfl,rfl,rfl,rfl,0,rfl,by omega,rfl,LY.new (Al.refl st)⟩,?_⟩
 rintro _ _ _ _ _ _ _ _ st2 ⟨rfl,rfl,rfl,rfl,rfl,rfl,rfl,j,rfl,hj,hav,hb⟩
 rw[Rd.lenZ hr,tn]
 have hpl:=Nz a q (cs.take j)
 rw[List.length_take]at hpl
 refine Aa (fun g1=>?_) fun g1=>?_
 ·have hlt:j<cs.length:=by omega
  have hget:=List.getElem?_eq_getElem hlt
  generalize cs[j]=c at hget
  have hs:=Q4 cs hget
  refine⟨⟨by omega,by omega⟩,Ac (hr.ld st2 hget) (Ak ?_)⟩
  have hq:=Kl a q c
  have hqv:Hm a q c=if Bi c=c.length then .ok (Bb a q c)else .error 5:=by unfold Hm;rw[if_neg (by rw[gd];decide)]
  rw[w1 j (by omega)]
  refine Aa (fun g2=>?_) fun g2=>?_
  ·refine Lb hab hb (by omega) fun st3 hb3=>?_
   refine Ns (by omega) ?_
   rw[hqv]
   by_cases hv:Bi c=c.length
   ·rw[if_pos hv]
    refine Aa (fun h=>absurd rfl h) fun _=>CY hb3 (by simp only[xT,List.length_append,List.length_cons,List.length_nil];omega) fun st5 hb5=>?_
    refine⟨⟨rfl,rfl,rfl,rfl,rfl,rfl,rfl,j+1,rfl,by omega,by rw[RU hget,hav,decide_eq_true hv];rfl,?_⟩,by dsimp only;omega⟩
    rw[PL a q hget,if_neg (by omega)]
    simpa [xT]using hb5
   ·rw[if_neg hv]
    rw[if_neg (by rw[UV hget hv];decide)]at hk
    exact Aa (fun _=>hk _ hb3.1) fun h=>absurd (by decide) h
  ·refine Ns (by omega) ?_
   rw[hqv]
   by_cases hv:Bi c=c.length
   ·rw[if_pos hv]
    have hj0:j=0:=by omega
    subst hj0
    refine Aa (fun h=>absurd rfl h) fun _=>CY hb (by simp only[xT];omega) fun st5 hb5=>?_
    refine⟨⟨rfl,rfl,rfl,rfl,rfl,rfl,rfl,0+1,rfl,by omega,by rw[RU hget,hav,decide_eq_true hv];rfl,?_⟩,by dsimp only;omega⟩
    rw[PL a q hget,if_pos rfl]
    simpa [xT,Gy]using hb5
   ·rw[if_neg hv]
    rw[if_neg (by rw[UV hget hv];decide)]at hk
    exact Aa (fun _=>hk _ hb.1) fun h=>absurd (by decide) h
 ·have hjl:cs.take j=cs:=List.take_of_length_le (by omega)
  have hpl2:=Nz a q cs
  rw[hjl]at hav hb
  rw[if_pos hav]at hk
  refine Lb (c:=10) rfl hb (by omega) fun st3 hb3=>Hb hb3 (by simp only[List.length_append,List.length_cons,List.length_nil];omega) fun st4 e4=>?_
  have:=hk st4 e4
  rw[Uk]at this
  exact this
end
end
section
def Nc (l:List (List B8)):Nat:=match l with | []=>0 | r::rs=>Cm r+Nc rs
def HE (l:List (List B8)):Nat:=match l with | []=>0 | r::rs=>r.length+HE rs
theorem YF {l:List (List B8)} {j:Nat} {r:List B8} (h:l[j]? =some r):Cm r<=Nc l/\r.length<=HE l:=by
 induction l generalizing j with
 | nil=>simp at h
 | cons d rs ih=>
  cases j with
  | zero=>simp only[List.getElem?_cons_zero,Option.some.injEq]at h;subst h;simp[Nc,HE]
  | succ j=>
   have:=ih (j:=j) (by simpa using h)
   simp only[Nc,HE];omega
section
variable {a q:Int} {hd ty:Bool} {st:St}
end
end
section
theorem Zj {s:B8} {a q:Int} {hd:Bool} {n:Nd} (hl:s.length<=70000) (h:PA s a q hd= .ok n):DZ n=s/\MJ n=0/\Km n a q hd:=by
 obtain⟨rs,rfl,_,_,_,_,_,hr,_⟩:=Fa h
 have ht:DZ (.mk 1 [] [] rs [])=s:=by
  have:=KE.text hr (Nat.zero_le _)
  simp only[DZ,List.nil_append,List.append_nil]
  rw[this];rfl
 have hlen:EY (.mk 1 [] [] rs [])=s.length:=by rw[<-Fc,ht]
 have hc:MJ (.mk 1 [] [] rs [])=0:=by
  have hs0:(xU s a q).s.length=s.length:=rfl
  obtain⟨s',h1,h2,h3⟩:=Yh hr (Nat.zero_le _) (s:=1) (by rw[hs0];omega)
  have h4:chk (.mk 1 [] [] rs []) 1 0= .ok s':=by
   have l1:Ll 1=false:=by decide
   simp only[chk,l1]
   rw[if_neg (by omega),if_neg (by omega),if_neg (by omega),if_neg (by simp)]
   exact h1
  unfold MJ
  rw[h4]
  simp only
  rw[if_neg (by omega)]
 exact⟨ht,hc,hc,by rw[ht];exact h⟩
theorem Ul {s:B8} {i:Nat} {p:Nat×Int} (h:EA s i= .error p):p.2≠0:=by
 obtain⟨o,c⟩:=p
 rcases XT h with h | h<;>simp[h.2]
theorem entE_ne {x:Cx} {hd:Bool} {i:Nat} {v:Int} {ns:List B8} {p:Nat×Int} (h:Fk x hd i v ns= .error p):p.2≠0:=by
 have hR:∀v,V3 x hd i v ns= .error p->p.2≠0:=fun v h=>by
  unfold V3 at h
  split at h
  ·rename_i e he
   cases h
   exact Yi (o:=p.1) (c:=p.2) he
  ·rename_i e he
   by_cases h1:(if hd then 1024 else 65536)<(txt x.q (slc x.s i e)).length
   ·rw[if_pos h1]at h;cases h;simp
   ·by_cases h2:hd=true/\txt x.q (slc x.s i e)∈ns
    ·rw[if_neg h1,if_pos h2]at h;cases h;simp
    ·rw[if_neg h1,if_neg h2]at h;cases h
 rw[SH]at h
 split at h
 ·exact hR v h
 ·split at h
  ·rename_i e he
   cases h
   exact UR (o:=p.1) (c:=p.2) he
  ·exact hR _ h
theorem WM {x:Cx} {num hd:Bool} {wid:Int}:∀(n:Nat) {acc:List Nd} {i:Nat} {v:Int} {ns:List B8} {p:Nat×Int},i<=x.s.length->x.s.length<i+n->CK x num wid hd n acc i v ns= .error p->p.2≠0
 | 0,acc,i,v,ns,p,h1,h2,h=>by omega
 | n+1,acc,i,v,ns,p,h1,h2,h=>by
  rw[Rc]at h
  split at h
  ·cases h;simp
  split at h
  ·rename_i e he;cases h;exact entE_ne he
  ·rename_i e v1 ns1 he
   have hle:=WX h1 he
   split at h
   ·exact WM n (by omega) (by omega) h
   ·split at h
    ·rename_i e2 he2;cases h;exact Ul he2
    ·cases h
theorem recD_ne {x:Cx} {num hd:Bool} {wid:Int} {i:Nat} {v:Int} {ns:List B8} {p:Nat×Int} (hi:i<=x.s.length) (h:Hl x num wid hd i v ns= .error p):p.2≠0:=by
 have hK:∀v,Kj x.s num wid (CK x num wid hd (x.s.length+1) [] i v ns)= .error p->p.2≠0:=fun v h=>by
  unfold Kj at h
  rcases hr:CK x num wid hd (x.s.length+1) [] i v ns with e | ⟨e,v2,ns2,ks⟩
  ·rw[hr]at h;cases h;exact WM _ hi (by omega) hr
  ·rw[hr]at h
   simp only at h
   cases hn7:EA x.s e with
   | error e2=>rw[hn7]at h;cases h;exact Ul hn7
   | ok n7=>
    rw[hn7]at h
    simp only at h
    by_cases hw:(ks.length:Int)<(if num then wid else(ks.length:Int))
    ·rw[if_pos hw]at h;cases h;simp
    ·rw[if_neg hw]at h;cases h
 rw[G0]at h
 split at h
 ·exact hK v h
 ·split at h
  ·rename_i e he;cases h;exact UR (o:=p.1) (c:=p.2) he
  ·exact hK _ h
theorem W1 {x:Cx} {hdr:Bool}:∀(n:Nat) {acc:List Nd} {i:Nat} {v:Int} {ns:List B8} {wid:Int} {p:Nat×Int},i<=x.s.length->x.s.length<i+n->EZ x hdr n acc i v ns wid= .error p->p.2≠0
 | 0,acc,i,v,ns,wid,p,h1,h2,h=>by omega
 | n+1,acc,i,v,ns,wid,p,h1,h2,h=>by
  rw[RL]at h
  split at h
  ·cases h
  split at h
  ·rename_i e he;cases h;exact recD_ne h1 he
  ·rename_i i' v' ns' r wid' he
   have hle:=WN (by omega) he
   exact W1 n (by omega) (by omega) h
theorem Vy {x:Cx} {hd:Bool} {l2 l3 l4:Int} {p:Nat×Int} (h:By x hd l2 l3 l4= .error p):p.2≠0:=by
 unfold By at h
 split at h
 ·cases h;simp
 split at h
 ·cases h;simp
 split at h
 ·cases h;simp
 split at h
 ·cases h;simp
 split at h
 ·rename_i e he;cases h;exact W1 _ (by omega) (by omega) he
 ·cases h
section
variable {a q:Int} {hd ty:Bool} {st:St}
theorem Pw {K:Int->Int->Bool->Bool->St->Prop} (hk:K 44 34 true true st):CallT PR Cb [] [.agg [.int .u8,.int .u8,.bool,.bool]] st K:=Jh st K hk
end
end
section
theorem YE {cs:List B8} {c:B8} (h:c∈cs):c.length<=Cm cs:=by
 induction cs with
 | nil=>cases h
 | cons d r ih=>
  simp only[Cm]
  rcases List.mem_cons.1 h with rfl | h
  ·omega
  ·have:=ih h;omega
section
variable {a q:Int} {hd ty:Bool} {st:St}
end
end
def KH (a q:Int) (c:B8):Prop:=∀(pre:B8) (b:UInt8) (post:B8),((b.toNat:Int)=a∨(b.toNat:Int)=10)->CI a q (pre++c++b::post) pre.length= .ok (pre.length+c.length)
structure Yq (a q:Int):Prop where
 a0:0<=a
 a1:a<128
 q0:0<=q
 q1:q<128
 aq:a≠q
 q10:q≠10
 q13:q≠13
 a10:a≠10
 sa:BK a=false
 sq:BK q=false
theorem UC {a q:Int} (h:dOk a q=true):Yq a q:=by
 have hk:=OL h
 unfold dOk at h
 rw[decide_eq_true_eq]at h
 exact⟨by omega,by omega,by omega,by omega,by omega,by omega,by omega,by omega,h.2.1,h.2.2⟩
theorem UP {a q:Int} (d:Yq a q) (s:B8):KH a q (Bb a q s):=fun pre b post hb=>Wg d.q0 (by have:=d.q1;omega) d.aq d.q10 d.q13 pre s b post hb
theorem SU {a q:Int} (d:Yq a q) {c:B8} (h:FY a q c=false):KH a q c:=by
 have:=UP d c
 unfold Bb at this
 rwa [if_neg (by rw[h];decide)]at this
def Mu (q:Int) (s:B8):B8:=UInt8.ofNat q.toNat::(dbl (UInt8.ofNat q.toNat) s++[UInt8.ofNat q.toNat])
theorem UO {a q:Int} (d:Yq a q) (c:B8):KH a q (Mu q c):=by
 intro pre b post hb
 have hq1:=d.q1
 have hqb:=EF d.q0 (by omega:q<=255)
 have hd:(pre++Mu q c++b::post).drop pre.length=Mu q c++b::post:=by rw[List.append_assoc,List.drop_left]
 have hby:by_ (pre++Mu q c++b::post) pre.length=q:=by
  have:(pre++Mu q c++b::post).getD pre.length 0=((pre++Mu q c++b::post).drop pre.length).getD 0 0:=by rw[KS];rfl
  unfold by_
  rw[this,hd];exact hqb
 have hlen:pre.length<(pre++Mu q c++b::post).length:=by simp only[List.length_append,List.length_cons];omega
 have hQ:QE q (pre++Mu q c++b::post) (pre.length+1)=some (pre.length+(Mu q c).length):=by
  unfold QE
  rw[<-List.drop_drop,hd]
  have:=OE hqb c (b::post) (pre.length+1) (fun b' l' h=>by cases h;have:=d.aq;have:=d.q10;omega)
  unfold Mu
  simp only[List.cons_append,List.drop_succ_cons,List.drop_zero,List.append_assoc,List.nil_append]
  rw[this]
  congr 1
  simp;omega
 unfold CI
 rw[if_pos ⟨hlen,hby⟩,hQ]
def Bu (a:Int):List B8->B8
 | []=>[10]
 | [c]=>c++[10]
 | c::r=>c++UInt8.ofNat a.toNat::Bu a r
theorem P8 {a q:Int} (d:Yq a q):∀(cs:List B8) (pre post:B8),cs≠ []->(∀c,c∈cs->KH a q c)->
  ∃ks e,JI a q (pre++Bu a cs++post) pre.length ks e 1/\e+1=pre.length+(Bu a cs).length/\ks.map AW=cs/\slc (pre++Bu a cs++post) e (e+1)=[10]
 | [],pre,post,h,_=>absurd rfl h
 | [c],pre,post,_,hok=>by
  have hs:pre++Bu a [c]++post=pre++c++10::post:=by simp[Bu]
  have hc:=hok c (by simp) pre 10 post (.inr rfl)
  rw[hs]
  have hlt:pre.length+c.length<(pre++c++10::post).length:=by simp
  have hb:(pre++c++10::post).getD (pre.length+c.length) 0=10:=by
   have:(pre++c).length=pre.length+c.length:=by simp
   rw[<-this,List.getD_eq_getElem?_getD,List.getElem?_append_right (Nat.le_refl _)]
   simp
  have hby:by_ (pre++c++10::post) (pre.length+c.length)=10:=by unfold by_;rw[hb];rfl
  refine⟨_,_,.last hc (by rintro⟨_,h⟩;rw[hby]at h;exact d.a10 h.symm) ?_,?_,?_,?_⟩
  ·unfold EA;rw[if_neg (by omega),if_pos hby]
  ·simp[Bu];omega
  ·simp only[List.map_cons,List.map_nil,DW]
   congr 1
   unfold slc
   rw[show pre.length+c.length=(pre++c).length by simp,List.take_left,List.drop_left]
  ·rw[Sj hlt,hb]
 | c::c2::r,pre,post,_,hok=>by
  have hs:pre++Bu a (c::c2::r)++post=pre++c++UInt8.ofNat a.toNat::(Bu a (c2::r)++post):=by simp[Bu]
  have hs2:pre++c++UInt8.ofNat a.toNat::(Bu a (c2::r)++post)=(pre++c++[UInt8.ofNat a.toNat])++Bu a (c2::r)++post:=by simp
  have hab:=EF d.a0 (by have:=d.a1;omega:a<=255)
  have hc:=hok c (by simp) pre (UInt8.ofNat a.toNat) (Bu a (c2::r)++post) (.inl hab)
  obtain⟨ks,e,h1,h2,h3,h4⟩:=P8 d (c2::r) (pre++c++[UInt8.ofNat a.toNat]) post (by simp) fun x hx=>hok x (.tail _ hx)
  rw[<-hs2]at h1 h4
  rw[hs]
  have hlt:pre.length+c.length<(pre++c++UInt8.ofNat a.toNat::(Bu a (c2::r)++post)).length:=by simp
  have hb:(pre++c++UInt8.ofNat a.toNat::(Bu a (c2::r)++post)).getD (pre.length+c.length) 0=UInt8.ofNat a.toNat:=by
   have:(pre++c).length=pre.length+c.length:=by simp
   rw[<-this,List.getD_eq_getElem?_getD,List.getElem?_append_right (Nat.le_refl _)]
   simp
  have hpl:(pre++c++[UInt8.ofNat a.toNat]).length=pre.length+c.length+1:=by simp;omega
  rw[hpl]at h1 h2
  refine⟨_,_,.more hc hlt (by unfold by_;rw[hb];exact hab) h1,?_,?_,h4⟩
  ·simp only[Bu,List.length_append,List.length_cons];omega
  ·simp only[List.map_cons,DW]
   rw[h3]
   congr 1
   unfold slc
   rw[show pre.length+c.length=(pre++c).length by simp,List.take_left,List.drop_left]
def AT (a:Int) (l:List (List B8)):B8:=l.flatMap (Bu a)
theorem Pv {a q:Int} (d:Yq a q):∀(l:List (List B8)) (pre:B8),(∀cs,cs∈l->cs≠ []/\∀c,c∈cs->KH a q c)->
  ∃rs,KE a q (pre++AT a l) pre.length rs/\rs.map (fun r=>(Aw r).map AW)=l
 | [],pre,h=>⟨[],.nil (by simp[AT]),rfl⟩
 | cs::l,pre,h=>by
  have hs:pre++AT a (cs::l)=pre++Bu a cs++AT a l:=by simp[AT]
  obtain⟨ks,e,h1,h2,h3,h4⟩:=P8 d cs pre (AT a l) (h cs (by simp)).1 (h cs (by simp)).2
  obtain⟨rs,h5,h6⟩:=Pv d l (pre++Bu a cs) (fun c hc=>h c (.tail _ hc))
  rw[hs]
  rw[List.length_append]at h5
  have hle:=h1.le (by simp)
  refine⟨_,.cons (by simp only[List.length_append]at hle⊢;omega) h1 (by rw[h2];exact h5),?_⟩
  rw[List.map_cons,h6]
  show ks.map AW::_=_
  rw[h3]
theorem OS {a:Int} (h0:0<=a) (h1:a<128):∀cs:List B8,(∀c,c∈cs->Bi c=c.length)->Bi (Bu a cs)=(Bu a cs).length
 | [],_=>E7 [10] rfl
 | [c],h=>JL (h c (by simp)) (E7 [10] rfl)
 | c::c2::r,h=>by
  have hab:=EF h0 (by omega:a<=255)
  exact JL (h c (by simp)) (QY (by omega) (OS h0 h1 (c2::r) fun x hx=>h x (.tail _ hx)))
theorem OR {a:Int} (h0:0<=a) (h1:a<128):∀l:List (List B8),(∀r,r∈l->∀c,c∈r->Bi c=c.length)->Bi (AT a l)=(AT a l).length
 | [],_=>QX
 | r::l,h=>JL (OS h0 h1 r (h r (by simp))) (OR h0 h1 l fun x hx=>h x (.tail _ hx))
theorem Ny (a:Int):∀cs:List B8,(Bu a cs).length<=Cm cs+cs.length+1
 | []=>by simp[Bu,Cm]
 | [c]=>by simp[Bu,Cm]
 | c::c2::r=>by
  have:=Ny a (c2::r)
  simp only[Bu,Cm,List.length_append,List.length_cons]at this⊢;omega
theorem M8 (a:Int):∀l:List (List B8),(AT a l).length<=Nc l+HE l+l.length
 | []=>by simp[AT,Nc,HE]
 | r::l=>by
  have h1:=M8 a l
  have h2:=Ny a r
  unfold AT at h1⊢
  simp only[List.flatMap_cons,List.length_append,Nc,HE,List.length_cons];omega
theorem Uz {x:Cx} {i:Nat} {v:Int} {ns:List B8} {e:Nat} (h3:CI x.a x.q x.s i= .ok e) (h4:(txt x.q (slc x.s i e)).length<=1024) (h5:txt x.q (slc x.s i e)∉ns):
  Fk x true i v ns= .ok (e,v,txt x.q (slc x.s i e)::ns):=by
 simp only[Fk,if_true,true_and,bind,Except.bind,h3]
 rw[if_neg (by omega),if_neg h5]
def Gx (q:Int) (ks:List Nd):List B8:=ks.map fun k=>txt q (AW k)
theorem YU {x:Cx} {num:Bool} {wid:Int}:∀{i:Nat} {ks:List Nd} {e m:Nat},JI x.a x.q x.s i ks e m->∀(n:Nat) {acc:List Nd} {v:Int} {ns:List B8},
  i<=x.s.length->x.s.length<i+n->(∀t,t∈Gx x.q ks->t.length<=1024/\t∉ns)->(Gx x.q ks).Nodup->(num=true->((acc.length+ks.length:Nat):Int)<=wid)->∃ns',CK x num wid true n acc i v ns= .ok (e,v,ns',acc++ks):=by
 intro i ks e m h
 induction h with
 | @last i e m h1 h2 h3=>
  intro n acc v ns hi hn hk hnd hw
  cases n with
  | zero=>omega
  | succ n=>
  simp only[CK]
  rw[if_neg (by rintro⟨h,h'⟩;have:=hw h;simp at this;omega)]
  have hc:=hk _ (List.mem_singleton.2 rfl)
  dsimp only at hc
  rw[DW]at hc
  rw[Uz h1 hc.1 hc.2]
  simp only[bind,Except.bind]
  rw[if_neg h2,h3]
  exact⟨_,rfl⟩
 | @more i e e' m ks h1 h2 h3 h4 ih=>
  intro n acc v ns hi hn hk hnd hw
  cases n with
  | zero=>omega
  | succ n=>
  simp only[CK]
  simp only[List.length_cons]at hw
  rw[if_neg (by rintro⟨h,h'⟩;have:=hw h;omega)]
  have hc:=hk _ (List.mem_cons_self ..)
  dsimp only at hc
  rw[DW]at hc
  rw[Uz h1 hc.1 hc.2]
  simp only[bind,Except.bind]
  rw[if_pos ⟨h2,h3⟩]
  have hnd2:txt x.q (slc x.s i e)∉Gx x.q ks/\(Gx x.q ks).Nodup:=by
   have:=List.nodup_cons.1 hnd
   dsimp only at this
   rwa [DW]at this
  have hle:=De hi h1
  obtain⟨ns',hr⟩:=ih n (acc:=acc++[LQ x.s i e [.mk 11 [] [x.s.getD e 0] [] []]]) (v:=v) (ns:=txt x.q (slc x.s i e)::ns) (by omega) (by omega) (fun t ht=>⟨(hk t (List.mem_cons_of_mem _ ht)).1,fun hm=>by
   rcases List.mem_cons.1 hm with rfl | hm
   ·exact hnd2.1 ht
   ·exact(hk t (List.mem_cons_of_mem _ ht)).2 hm⟩) hnd2.2 (fun hn=>by have:=hw hn;simp;omega)
  rw[hr,List.append_assoc]
  exact⟨ns',rfl⟩
theorem YX {x:Cx} {num:Bool} {wid:Int} {i:Nat} {ks:List Nd} {e m:Nat} (h:JI x.a x.q x.s i ks e m) {v:Int} {ns:List B8}
  (hi:i<=x.s.length) (hk:∀t,t∈Gx x.q ks->t.length<=1024/\t∉ns) (hnd:(Gx x.q ks).Nodup) (hw:num=true->(ks.length:Int)=wid):
  ∃ns',Hl x num wid true i v ns= .ok (e+m,v,ns',.mk 8 [] [] ks (slc x.s e (e+m)),(ks.length:Int)):=by
 have hl:=h.le hi
 obtain⟨ns',hr⟩:=YU (num:=num) (wid:=wid) h (x.s.length+1) (acc:=[]) (v:=v) (ns:=ns) hi (by omega) hk hnd (fun hn=>by rw[List.length_nil,Nat.zero_add,hw hn];omega)
 refine⟨ns',?_⟩
 rw[G0,if_pos rfl,hr]
 unfold Kj
 simp only[hl.2.2.2.2]
 cases num with
 | true=>have:=hw rfl;simp only[if_true,List.nil_append];rw[<-this,if_neg (by omega)]
 | false=>simp only[Bool.false_eq_true,if_false,List.nil_append];rw[if_neg (by omega)]
theorem ZT {x:Cx} (hdep:3<=x.dep) {W:Int} {hdr:Bool} {rs:List Nd} (h:KE x.a x.q x.s 0 rs) (n:Nat) (hn:x.s.length<n)
  (hk:∀r,r∈rs->∀k,k∈Aw r->(txt x.q (AW k)).length<=65536) (hW:∀r,r∈rs->((Aw r).length:Int)=W) (hv:1+EU hdr rs<=x.nod)
  (hh:hdr=true->∀r,rs.head? =some r->(Gx x.q (Aw r)).Nodup/\∀t,t∈Gx x.q (Aw r)->t.length<=1024):EZ x hdr n [] 0 1 [] 0= .ok rs:=by
 cases hdr with
 | false=>exact W0 hdep h n (acc:=[]) (Nat.zero_le _) (by omega) hk (fun h=>absurd rfl h) hW hv
 | true=>
  cases h with
  | nil h=>
   cases n with
   | zero=>omega
   | succ n=>simp only[EZ];rw[if_pos h]
  | @cons _ e m ks rs h1 h2 h3=>
   cases n with
   | zero=>omega
   | succ n=>
   have hle:=h2.le (Nat.zero_le _)
   obtain⟨hnd,hl⟩:=hh rfl _ rfl
   have hks:(ks.length:Int)=W:=hW _ (List.mem_cons_self ..)
   have hm:0<e+m:=by
    rcases Nat.eq_zero_or_pos m with h0 | h0
    ·have:=(Gz (by omega) hle.2.2.2.2).2.1 h0;omega
    ·omega
   obtain⟨ns',hr⟩:=YX (num:=false) (wid:=0) h2 (v:=1) (ns:=[]) (Nat.zero_le _) (fun t ht=>⟨hl t ht,by simp⟩) hnd (fun h=>by cases h)
   simp only[EZ,List.isEmpty_nil,Bool.and_true,Bool.not_true]
   rw[if_neg (by omega),hr]
   simp only[bind,Except.bind,List.nil_append]
   have:=W0 hdep h3 n (acc:=[.mk 8 [] [] ks (slc x.s e (e+m))]) (v:=1) (ns:=ns') (wid:=(ks.length:Int)) (by omega) (by omega) (fun r hr=>hk r (List.mem_cons_of_mem _ hr)) (fun _=>hks) (fun r hr=>hW r (List.mem_cons_of_mem _ hr)) (by
    unfold EU at hv;simpa using hv)
   have e2:∀(n:Nat) (acc:List Nd) (i:Nat) (v:Int) (ns:List B8) (wid:Int),acc≠ []->EZ x true n acc i v ns wid=EZ x false n acc i v ns wid:=by
    intro n
    induction n with
    | zero=>intros;rfl
    | succ n ih=>
     intro acc i v ns wid ha
     have hb:acc.isEmpty=false:=by cases acc;exact absurd rfl ha;rfl
     simp only[EZ,hb,Bool.and_false,Bool.not_false]
     split
     ·rfl
     ·simp only[bind,Except.bind]
      split
      ·rfl
      ·exact ih _ _ _ _ _ (by simp)
   rw[e2 _ _ _ _ _ _ (by simp),this]
   rfl
theorem RO:∀(rs:List Nd) (l:List (List B8)),rs.map (fun r=>(Aw r).map AW)=l->FE rs=(l.length:Int)+HE l
 | [],[],h=>by simp[FE,HE]
 | [],_::_,h=>by simp at h
 | _::_,[],h=>by simp at h
 | r::rs,c::l,h=>by
  simp only[List.map_cons,List.cons.injEq]at h
  have h1:=congrArg List.length h.1
  rw[List.length_map]at h1
  have ih:=RO rs l h.2
  simp only[FE,MH,HE,List.length_cons];omega
theorem V8 (hd:Bool) (rs:List Nd):EU hd rs<=FE rs:=by
 unfold EU
 split
 ·cases rs with
  | nil=>simp[FE]
  | cons r rs=>simp only[List.tail_cons,FE,MH];omega
 ·omega
theorem readX {a q:Int} (hd:dOk a q=true) (hdr:Bool) {l:List (List B8)} {W:Nat} (h:∀r,r∈l->r≠ []/\r.length=W/\∀c,c∈r->KH a q c/\Bi c=c.length/\(txt q c).length<=65536)
  (hs:(AT a l).length<=1048576) (hc:l.length+HE l<=65535) (hh:hdr=true->∀r,l.head? =some r->(r.map (txt q)).Nodup/\∀c,c∈r->(txt q c).length<=1024):
  ∃rs,PA (AT a l) a q hdr= .ok (.mk 1 [] [] rs [])/\rs.map (fun r=>(Aw r).map AW)=l:=by
 have d:=UC hd
 obtain⟨rs,hr,hm⟩:=Pv d l [] fun cs hcs=>⟨(h cs hcs).1,fun c hc=>((h cs hcs).2.2 c hc).1⟩
 rw[List.nil_append,List.length_nil]at hr
 have hv:=OR d.a0 d.a1 l fun r hr c hc=>((h r hr).2.2 c hc).2.1
 have hmem:∀r,r∈rs->(Aw r).map AW∈l:=by
  intro r hr1
  rw[<-hm];exact List.mem_map.2 ⟨r,hr1,rfl⟩
 have hnk:∀r,Gx q (Aw r)=((Aw r).map AW).map (txt q):=fun r=>by unfold Gx;rw[List.map_map];rfl
 have hdoc:=ZT (x:=xU (AT a l) a q) (show(3:Int)<=48 by decide) (W:=(W:Int)) (hdr:=hdr) hr ((AT a l).length+1) (by show(AT a l).length<_;omega) (fun r hr1 k hk1=>
   ((h _ (hmem r hr1)).2.2 _ (List.mem_map.2 ⟨k,hk1,rfl⟩)).2.2) (fun r hr1=>by
   have:=(h _ (hmem r hr1)).2.1
   rw[List.length_map]at this;omega) (by
   have h1:=RO rs l hm
   have h2:=V8 hdr rs
   show _<=(65536:Int);omega) (fun hb r hr1=>by
   have hl:l.head? =some ((Aw r).map AW):=by rw[<-hm,List.head?_map,hr1];rfl
   have:=hh hb _ hl
   show(Gx q (Aw r)).Nodup/\_
   rw[hnk]
   exact⟨this.1,fun t ht=>by
    obtain⟨c,hc,rfl⟩:=List.mem_map.1 ht
    exact this.2 c hc⟩)
 refine⟨rs,?_,hm⟩
 show By (xU (AT a l) a q) hdr 1048576 1024 65536=_
 unfold By
 rw[if_neg (show ¬dOk a q=false by rw[hd];decide),if_neg (show ¬lOk 48 65536 1048576 1024 65536=false by decide),if_neg (show ¬(1048576:Int)<((AT a l).length:Int) by omega),if_neg (show ¬Bi (AT a l)≠(AT a l).length by rw[hv];simp)]
 rw[show EZ (xU (AT a l) a q) hdr ((xU (AT a l) a q).s.length+1) [] 0 1 [] 0= .ok rs from hdoc]
noncomputable def Cj (a q:Int) (ty:Bool) (s:Sc):B8:=
 if s.kind=4 then(if Bb a q s.text=s.text/\(I8 ty false s.text).kind≠4 then Mu q s.text else Bb a q s.text)else plT s
def Ba (ty:Bool) (k:Int):Int:=if (ty=false/\k≠4)∨k=5∨k=6∨k=7 then 27 else 0
theorem plT_ok {s:Sc} (h:ML s [] []):Ea (plT s)/\(plT s).length<=200:=by
 unfold plT
 split
 ·cases s.b
  ·exact⟨fun c hc=>(by decide:∀c,c∈Ix->BK (c.toNat:Int)=true) c hc,by decide⟩
  ·exact⟨fun c hc=>(by decide:∀c,c∈Kf->BK (c.toNat:Int)=true) c hc,by decide⟩
 ·split
  ·refine⟨ZW h.dec,?_⟩
   have:=dcT_len h.dec
   have:s.dg.length<=120:=by
    by_cases hn:s.dg=[]
    ·rw[hn];simp
    ·exact(h.dec.2 hn).1
   omega
  ·split
   ·exact⟨Xp _ _ _ _,by have:=J6 s.tk s.td s.tn s.tz;omega⟩
   ·exact⟨Ea.nil,by simp⟩
def Dx (s:Sc):Vl:= .mk s [] []
def Hk (q:Int) (ty:Bool) (r:List B8):List Sc:=r.map fun c=>I8 ty (Dw q c) (txt q c)
def recV (names:List B8) (row:List Sc):Vl:=Xm (List.zipWith (fun k s=>Fd.mk k (Dx s)) names row)
def F3 (rs:List Nd):List (List B8):=rs.map fun r=>(Aw r).map AW
structure FH (hd:Bool) (v:Vl):Prop where
 kind:v.sc.kind=6
 lst:hd=false->∀x,x∈v.list->x.sc.kind=6/\x.list≠ []/\x.list.length=(v.list.headD vlZ).list.length
 map:hd=true->∀x,x∈v.list->x.sc.kind=7/\x.flds≠ []/\x.flds.length=(v.list.headD vlZ).flds.length/\∀f,f∈x.flds->f.key∈(v.list.headD vlZ).flds.map Fd.key
def A1 (hd:Bool) (first x:Vl):List Vl:=if hd then first.flds.map fun f=>(Bh x.flds f.key).1 else x.list
noncomputable def wrX (a q:Int) (hd ty:Bool) (v:Vl):List (List B8):=
 match v.list with
 | []=>[]
 | f::r=>(if hd then [f.flds.map fun d=>Bb a q d.key]else [])++(f::r).map fun x=>(A1 hd f x).map fun y=>Cj a q ty y.sc
theorem Br.own {s:Sc} {l:List Vl} {f:List Fd} (h:Br (.mk s l f)):ML s l f/\KA l/\KB f:=by unfold Br at h;exact h
theorem O6:∀{l:List Vl},KA l->∀x,x∈l->Br x
 | [],h,x,hx=>by cases hx
 | v::r,h,x,hx=>by
  unfold KA at h
  rcases List.mem_cons.1 hx with rfl | hx
  ·exact h.1
  ·exact O6 h.2 x hx
theorem O7:∀{l:List Fd},KB l->∀x,x∈l->Br x.val
 | [],h,x,hx=>by cases hx
 | .mk k v::r,h,x,hx=>by
  unfold KB S5 at h
  rcases List.mem_cons.1 hx with rfl | hx
  ·exact h.1
  ·exact O7 h.2 x hx
def scW (k:Int):Sc:=⟨k,false,false,[],0,0,0,0,0,[],[]⟩
theorem YM {s:Sc} {l:List Vl} {f:List Fd} (h:ML s l f) (hk:s.kind=6∨s.kind=7):s=scW s.kind:=by
 obtain⟨w0,w7,wb,wn,wt,wx,wy,_,_⟩:=h.own
 obtain⟨kd,b,neg,dg,ex,tk,td,tn,tz,text,bytes⟩:=s
 dsimp only at*
 obtain rfl:=wb (by omega)
 obtain⟨rfl,rfl,rfl⟩:=wn (by omega)
 obtain⟨rfl,rfl,rfl,rfl⟩:=wt (by omega)
 obtain rfl:=wx (by omega)
 obtain rfl:=wy (by omega)
 rfl
theorem CL {v:Vl} (h:Br v) (hk:v.sc.kind=6):v=Pc v.list/\∀x,x∈v.list->Br x:=by
 obtain⟨s,l,f⟩:=v
 obtain⟨h1,h2,h3⟩:=h.own
 replace hk:s.kind=6:=hk
 have hf:f=[]:=h1.own.fs (by omega)
 subst hf
 refine⟨?_,O6 h2⟩
 have hs:=YM h1 (.inl hk)
 rw[hk]at hs
 show Vl.mk s l []=Vl.mk (scW 6) l []
 rw[hs]
theorem En {v:Vl} (h:Br v) (hk:v.sc.kind=7):v=Xm v.flds/\(∀x,x∈v.flds->Br x.val)/\DQ v.flds/\∀d,d∈v.flds->U8 d.key/\d.key.length<=1024:=by
 obtain⟨s,l,f⟩:=v
 obtain⟨h1,h2,h3⟩:=h.own
 replace hk:s.kind=7:=hk
 have hl:l=[]:=h1.own.ls (by omega)
 subst hl
 obtain⟨n1,n2⟩:=Um f [] h1.keys
 refine⟨?_,O7 h3,n1,fun d hd=>⟨(n2 d hd).2.1,(n2 d hd).2.2⟩⟩
 have hs:=YM h1 (.inr hk)
 rw[hk]at hs
 show Vl.mk s [] f=Vl.mk (scW 7) [] f
 rw[hs]
theorem O8 {v:Vl} (h:Br v) (hk:v.sc.kind<6):v=Dx v.sc/\ML v.sc [] []:=by
 obtain⟨s,l,f⟩:=v
 obtain⟨h1,h2,h3⟩:=h.own
 replace hk:s.kind<6:=hk
 have hl:l=[]:=h1.own.ls (by omega)
 have hf:f=[]:=h1.own.fs (by omega)
 subst hl hf
 exact⟨rfl,h1⟩
theorem NK {f:List Fd} (hn:DQ f) {d:Fd} (hd:d∈f):Bh f d.key=(d.val,true):=by
 unfold Bh
 cases hf:f.find? (fun x=>decide (x.key=d.key))with
 | none=>
  have:=List.find?_eq_none.1 hf d hd
  simp at this
 | some x=>
  have h1:=List.find?_some hf
  rw[decide_eq_true_eq]at h1
  rw[key_inj hn (List.mem_of_find?_eq_some hf) hd h1]
theorem Mv:∀(l m:List B8),l.Nodup->m.length=l.length->(∀x,x∈l->x∈m)->l.Perm m
 | [],m,_,h,_=>by
  have:m=[]:=List.length_eq_zero_iff.1 h
  subst this;exact .refl _
 | a::r,m,hn,h,hs=>by
  obtain⟨h1,h2⟩:=List.nodup_cons.1 hn
  have ha:=hs a (by simp)
  have hp:=List.perm_cons_erase ha
  have hle:=List.length_erase_of_mem ha
  rw[List.length_cons]at h
  exact((Mv r (m.erase a) h2 (by omega) fun x hx=>(List.mem_erase_of_ne (fun e=>h1 (by rw[<-e];exact hx))).2 (hs x (.tail _ hx))).cons a).trans hp.symm
theorem reorder {f g:List Fd} (hf:DQ f) (hg:DQ g) (hl:f.length=g.length) (hk:∀d,d∈f->d.key∈g.map Fd.key):(g.map fun d=>Fd.mk d.key (Bh f d.key).1).Perm f:=by
 have hp:(f.map Fd.key).Perm (g.map Fd.key):=Mv _ _ hf (by rw[List.length_map,List.length_map];omega) fun k hk1=>by
  obtain⟨d,hd,rfl⟩:=List.mem_map.1 hk1
  exact hk d hd
 have h1:(g.map fun d=>Fd.mk d.key (Bh f d.key).1)=(g.map Fd.key).map fun k=>Fd.mk k (Bh f k).1:=by rw[List.map_map];rfl
 have h2:f=(f.map Fd.key).map fun k=>Fd.mk k (Bh f k).1:=by
  rw[List.map_map]
  conv=>lhs;rw[<-List.map_id f]
  refine List.map_congr_left fun d hd=>?_
  simp only[id,Function.comp_apply,NK hf hd]
  cases d;rfl
 rw[h1]
 conv=>rhs;rw[h2]
 exact(hp.map _).symm
def Fv (hd ty:Bool) (v:Vl):Prop:=∀x,x∈v.list->∀y,y∈A1 hd (v.list.headD vlZ) x->Ba ty y.sc.kind=0
theorem Yv {a q:Int} {hd ty:Bool} {v f:Vl} {r:List Vl} (h:v.list=f::r):wrX a q hd ty v=(if hd then [f.flds.map fun d=>Bb a q d.key]else [])++(f::r).map fun x=>(A1 hd f x).map fun y=>Cj a q ty y.sc:=by
 unfold wrX;rw[h]
theorem WC {a q:Int} {hd ty:Bool} {v:Vl} (h:v.list=[]):wrX a q hd ty v=[]:=by
 unfold wrX;rw[h]
section
abbrev KG13:=Int->Bool->Bool->B8->Int->Int->Int->Int->Int->B8->TV->TV->TV->St->Prop
def KC (K:KG13) (x:Sc) (st:St):Prop:=K x.kind x.b x.neg x.dg x.ex x.tk x.td x.tn x.tz x.text .nilSlice .nilSlice .nilSlice st
abbrev S6:List CTy:=[.int .i64,.bool,.bool,.str,.int .i64,.int .i64,.int .i64,.int .i64,.int .i64,.str,.tv,.tv,.tv]
section
variable {a q:Int} {hd ty:Bool} {st:St}
theorem P0 {s:B8} {qd:Bool} (hl:s.length<=1000000) {K:KG13} (hk:∀st',Al st st'->KC K (I8 ty qd s) st'):
  CallT PR CO [.str s,.bool qd,.agg [.int .u8 a,.int .u8 q,.bool hd,.bool ty]] [.agg S6] st K:=by
 have e0:=Al.refl st
 unfold I8 at hk
 refine Se s qd a q hd ty st K (Aj (fun g=>Hf s st _ (Ab (Ey rfl rfl rfl) ?_)) fun g=>Aj (fun g2=>Hf s st _ (Ab (Ey rfl rfl rfl) ?_)) fun g2=>?_)
 ·have:ty=false:=by simpa using g
  rw[if_pos (.inl this)]at hk;exact hk st e0
 ·rw[if_pos (.inr g2)]at hk;exact hk st e0
 have g:ty=true:=by simpa using g
 rw[if_neg (by rw[g,g2];simp)]at hk
 have tail:s≠ []->s≠Kf->s≠Ix->CallT PR CF [.str s] [.agg [.bool,.str,.int .i64],.one (.int .i64)] st (fun (b9:Bool) (s9:B8) (n25:Int) (n26:Int) (st5:St)=>BIf (decide (n26=(0:Int))) (CallT PR F8 [(.agg [(.bool b9),(.str s9),(.int .i64 n25)])] [.agg S6] st5 (fun (n27:Int) (b10:Bool) (b11:Bool) (s10:B8) (n28:Int) (n29:Int) (n30:Int) (n31:Int) (n32:Int) (s11:B8) (v13:TV) (v14:TV) (v15:TV) (st6:St)=>need (List.all [(.int .i64 n27),(.bool b10),(.bool b11),(.str s10),(.int .i64 n28),(.int .i64 n29),(.int .i64 n30),(.int .i64 n31),(.int .i64 n32),(.str s11),v13,v14,v15] As) (K n27 b10 b11 s10 n28 n29 n30 n31 n32 s11 v13 v14 v15 st6)))
   (CallT PR Dc [.str s] [.agg [.int .i64,.int .i64,.int .i64,.int .i64],.one (.int .i64)] st5 (fun (n33:Int) (n34:Int) (n35:Int) (n36:Int) (n37:Int) (st7:St)=>BIf (decide (n37=(0:Int))) (CallT PR Fp [(.agg [(.int .i64 n33),(.int .i64 n34),(.int .i64 n35),(.int .i64 n36)])] [.agg S6] st7 (fun (n38:Int) (b12:Bool) (b13:Bool) (s12:B8) (n39:Int) (n40:Int) (n41:Int) (n42:Int) (n43:Int) (s13:B8) (v16:TV) (v17:TV) (v18:TV) (st8:St)=>need (List.all [(.int .i64 n38),(.bool b12),(.bool b13),(.str s12),(.int .i64 n39),(.int .i64 n40),(.int .i64 n41),(.int .i64 n42),(.int .i64 n43),(.str s13),v16,v17,v18] As) (K n38 b12 b13 s12 n39 n40 n41 n42 n43 s13 v16 v17 v18 st8)))
    (CallT PR Dg [.str s] [.agg S6] st7 (fun (n44:Int) (b14:Bool) (b15:Bool) (s14:B8) (n45:Int) (n46:Int) (n47:Int) (n48:Int) (n49:Int) (s15:B8) (v19:TV) (v20:TV) (v21:TV) (st9:St)=>need (List.all [(.int .i64 n44),(.bool b14),(.bool b15),(.str s14),(.int .i64 n45),(.int .i64 n46),(.int .i64 n47),(.int .i64 n48),(.int .i64 n49),(.str s15),v19,v20,v21] As) (K n44 b14 b15 s14 n45 n46 n47 n48 n49 s15 v19 v20 v21 st9)))))):=by
  intro h1 h2 h3
  rw[if_neg h1,if_neg h2,if_neg h3]at hk
  refine dP_ok hl ?_
  unfold KD
  generalize dcP s=d at*
  refine Aa (fun h4=>R3 _ _ _ st _ (Ab (Ey rfl rfl rfl) ?_)) fun h4=>tP_ok hl fun st1 e1=>?_
  ·rw[if_pos h4]at hk;exact hk st e0
  rw[if_neg h4]at hk
  unfold KT
  generalize tmP s=t at*
  refine Aa (fun h5=>Qt _ _ _ _ st1 _ (Ab (Ey rfl rfl rfl) ?_)) fun h5=>Hf s st1 _ (Ab (Ey rfl rfl rfl) ?_)
  ·rw[if_pos h5]at hk;exact hk st1 e1
  ·rw[if_neg h5]at hk;exact hk st1 e1
 refine Aa (fun h1=>Qu st _ (Ab (Ey rfl rfl rfl) ?_)) fun h1=>Aa (fun h2=>Aa (fun _=>Lc _ st _ (Ab (Ey rfl rfl rfl) ?_)) fun h=>absurd h2 h) fun h2=>Aa (fun h3=>Lc _ st _ (Ab (Ey rfl rfl rfl) ?_)) fun h3=>tail h1 h2 h3
 ·rw[if_pos h1]at hk;exact hk st e0
 ·rw[if_neg h1,if_pos (show s=Kf from h2)]at hk
  rw[decide_eq_true h2];exact hk st e0
 ·rw[if_neg h1,if_neg (show ¬s=Kf from h2),if_pos (show s=Ix from h3)]at hk
  rw[decide_eq_false h2];exact hk st e0
theorem X1 {s:B8} {qd:Bool} (hl:s.length<=1000000) {K:KG13} (hk:KC K (I8 ty qd s) st):
  CallT PR BF [.str s,.bool qd,.agg [.int .u8 a,.int .u8 q,.bool hd,.bool ty]] [.agg S6] st K:=by
 unfold I8 at hk
 refine JT s qd a q hd ty st K (Aj (fun g=>?_) fun g=>Aj (fun g2=>?_) fun g2=>?_)
 ·rw[if_pos (.inr g)]at hk;exact hk
 ·have:ty=false:=by simpa using g2
  rw[if_pos (.inl this)]at hk;exact hk
 have g2:ty=true:=by simpa using g2
 rw[if_neg (by rw[g,g2];simp)]at hk
 refine⟨fun s' _ _ _ _ _ _ _ _ _ _ _ _ _ n7 b3 b4 s3 n8 n9 n10 n11 n12 s4 v4 v5 v6 st'=>s=s'/\4=n7/\false=b3/\false=b4/\[]=s3/\0=n8/\0=n9/\0=n10/\0=n11/\0=n12/\s=s4/\.nilSlice=v4/\.nilSlice=v5/\.nilSlice=v6/\st=st'/\s≠ []/\s≠Kf/\s≠Ix,
  Aa (fun h1=>?_) fun h1=>Aa (fun h2=>Aa (fun _=>?_) fun h=>absurd h2 h) fun h2=>Aa (fun h3=>?_) fun h3=>⟨rfl,rfl,rfl,rfl,rfl,rfl,rfl,rfl,rfl,rfl,rfl,rfl,rfl,rfl,rfl,h1,h2,h3⟩,?_⟩
 ·rw[if_pos h1]at hk;exact hk
 ·rw[if_neg h1,if_pos (show s=Kf from h2)]at hk
  rw[decide_eq_true h2];exact hk
 ·rw[if_neg h1,if_neg (show ¬s=Kf from h2),if_pos (show s=Ix from h3)]at hk
  rw[decide_eq_false h2];exact hk
 rintro _ _ _ _ _ _ _ _ _ _ _ _ _ _ _ _ _ _ _ _ _ _ _ _ _ _ _ _ ⟨rfl,rfl,rfl,rfl,rfl,rfl,rfl,rfl,rfl,rfl,rfl,rfl,rfl,rfl,rfl,h1,h2,h3⟩
 rw[if_neg h1,if_neg h2,if_neg h3]at hk
 refine Zu hl fun b2=>Aa (fun hn=>rP_ok hl ?_) fun hn=>rtP_ok hl ?_
 ·have ht:=XP hn
  rw[if_neg ht]at hk
  unfold KD
  generalize dcP s=d at*
  refine Aa (fun h4=>?_) fun h4=>Ab (Ey rfl rfl rfl) ?_
  ·rw[if_pos h4]at hk;exact hk
  ·rw[if_neg h4]at hk;exact hk
 ·have he:=(SL s).2 hn
  rw[if_neg (by omega)]at hk
  unfold KT
  generalize tmP s=t at*
  refine Aa (fun h4=>?_) fun h4=>Ab (Ey rfl rfl rfl) ?_
  ·rw[if_pos h4]at hk;exact hk
  ·rw[if_neg h4]at hk;exact hk
end
end
section
noncomputable def shE (a q:Int) (ty:Bool) (v:Vl):Int:=if dOk a q=false then 1 else if B6 v≠0 then(B6 v:Int)else Ba ty v.sc.kind
noncomputable def shT (a q:Int) (ty:Bool) (v:Vl):B8:=if shE a q ty v=0 then Cj a q ty v.sc else []
theorem Nr {a q:Int} {s:B8} (hd:dOk a q=true) (hv:Bi s=s.length):Hm a q s= .ok (Bb a q s):=by
 unfold Hm
 rw[if_neg (by rw[hd];decide),if_pos hv]
section
variable {a q:Int} {hd ty:Bool} {st:St}
theorem Uu {s:Sc} {ub ul uf:TV} (hdo:dOk a q=true) (hk0:0<=s.kind) (hk7:s.kind<=7) (hdec:s.kind=2->D2 s.neg s.dg s.ex) (htm:s.kind=3->CX s.tk s.td s.tn s.tz) (hu:s.kind=4->Bi s.text=s.text.length) (hl:s.text.length<=1000000)
  {K:B8->Int->St->Prop} (hk:∀st',Al st st'->K (if Ba ty s.kind=0 then Cj a q ty s else []) (Ba ty s.kind) st'):
  CallT PR DT [.agg (A0 s ub ul uf),.agg [.int .u8 a,.int .u8 q,.bool hd,.bool ty]] [.one .str,.one (.int .i64)] st K:=by
 have e0:=Al.refl st
 have d:=UC hdo
 have ok:Ba ty s.kind=0->∀st',Al st st'->K (Cj a q ty s) 0 st':=fun he st' e=>by have:=hk st' e;rwa [if_pos he,he]at this
 have bad:Ba ty s.kind=27->K [] 27 st:=fun he=>by have:=hk st e0;rwa [he,if_neg (by decide)]at this
 refine R9 _ _ _ _ _ _ _ _ _ _ _ _ _ a q hd ty st K (Aj (fun g=>Aa (fun g1=>bad ?_) fun g1=>?sw1) fun g=>?sw2)
 ·have hty:ty=false:=by simpa using g
  unfold Ba;rw[if_pos (.inl ⟨hty,g1⟩)]
 case sw1 | sw2=>
  have hE:s.kind<=4->Ba ty s.kind=0:=fun h4=>by
   unfold Ba
   rw[if_neg]
   rintro(⟨h,h'⟩ | h)
   ·first
     | exact g1 h'
     | (rw[h]at g;cases g)
   ·omega
  have hP:∀t,s.kind≠4->plT s=t->Cj a q ty s=t:=fun t h4 h=>by unfold Cj;rw[if_neg h4];exact h
  refine Aa (fun k0=>?_) fun k0=>Aa (fun k1=>Aj (fun hb=>?_) fun hb=>?_) fun k1=>Aa (fun k2=>ZY (hdec k2) fun st1 e1=>?_) fun k2=>Aa (fun k3=>Zi (htm k3) fun st1 e1=>?_) fun k3=>Aa (fun k4=>?_) fun k4=>bad ?_
  ·have:=ok (hE (by omega)) st e0
   rwa [hP [] (by omega) (by unfold plT;rw[if_neg (by omega),if_neg (by omega),if_neg (by omega)])]at this
  ·have:=ok (hE (by omega)) st e0
   rwa [hP Kf (by omega) (by unfold plT;rw[if_pos k1,if_pos hb])]at this
  ·have:=ok (hE (by omega)) st e0
   rwa [hP Ix (by omega) (by unfold plT;rw[if_pos k1,if_neg (by rw[hb];decide)])]at this
  ·have:=ok (hE (by omega)) st1 e1
   rwa [hP _ (by omega) (by unfold plT;rw[if_neg (by omega),if_pos k2])]at this
  ·have:=ok (hE (by omega)) st1 e1
   rwa [hP _ (by omega) (by unfold plT;rw[if_neg (by omega),if_neg (by omega),if_pos k3])]at this
  ·have hu:=hu k4
   have ok:=ok (hE (by omega))
   have hS:Cj a q ty s=if Bb a q s.text=s.text/\(I8 ty false s.text).kind≠4 then Mu q s.text else Bb a q s.text:=by unfold Cj;rw[if_pos k4]
   refine Ns (by omega) ?_
   rw[Nr hdo hu]
   refine Aa (fun h=>absurd rfl h) fun _=>Aa (fun h1=>?_) fun h1=>?_
   ·have:=ok st e0
    rwa [hS,if_neg fun h=>h1 h.1]at this
   ·have h1:Bb a q s.text=s.text:=Decidable.not_not.1 h1
    show CallT PR CO [.str (Bb a q s.text),.bool false,.agg [.int .u8 a,.int .u8 q,.bool hd,.bool ty]] [.agg S6] st _
    rw[h1]
    refine P0 hl fun st1 e1=>Aa (fun h2=>?_) fun h2=>?_
    ·have:=ok st1 e1
     rwa [hS,if_neg fun h=>h.2 h2,h1]at this
    ·have hq1:=d.q1
     have hqn:=EF (q:=q) d.q0 (by omega)
     refine Ac (HR st1 (UInt8.ofNat q.toNat) hqn) (Ak ⟨by simp,Lh (s:=s.text) (by simp) (by omega) ?_⟩)
     have hdl:=IS (UInt8.ofNat q.toNat) s.text
     unfold dbl at hdl
     refine⟨by simp only[List.length_cons,List.length_nil];omega,by simp only[List.length_append,List.length_cons,List.length_nil];omega,?_⟩
     have:=ok st1 e1
     rwa [hS,if_pos ⟨h1,h2⟩]at this
  ·unfold Ba;rw[if_pos (by omega)]
theorem ZD {v:Vl} (hN:v.sz<=1000000) {cs:List TV} {K:B8->Int->St->Prop} (h:VlR St.zero v cs) (hk:∀st',Al st st'->K (shT a q ty v) (shE a q ty v) st'):
  CallT PR IK [.agg cs,.agg [.int .u8 a,.int .u8 q,.bool hd,.bool ty]] [.one .str,.one (.int .i64)] st K:=by
 obtain⟨s,l,f⟩:=v
 obtain⟨ub,ul,uf,xl,xf,rfl,_⟩:=h.cells
 unfold shT at hk
 refine Sb _ _ _ _ _ _ _ _ _ _ _ _ _ a q hd ty st K (H5 (Aj (fun g=>?_) fun g=>?_))
 ·have he:shE a q ty (.mk s l f)=1:=by unfold shE;rw[if_pos (by simpa using g)]
  have:=hk st (Al.refl _)
  rwa [he,if_neg (by decide)]at this
 have g:dOk a q=true:=by simpa using g
 refine U0 (v:= .mk s l f) (by omega) h (Dj _) fun st1 e1=>Aa (fun g1=>?_) fun g1=>?_
 ·have he:shE a q ty (.mk s l f)=(B6 (.mk s l f):Int):=by unfold shE;rw[if_neg (by rw[g];decide),if_pos (by omega)]
  have:=hk st1 e1
  rwa [he,if_neg (by omega)]at this
 have g1:B6 (.mk s l f)=0:=by omega
 have he:shE a q ty (.mk s l f)=Ba ty s.kind:=by unfold shE;rw[if_neg (by rw[g];decide),if_neg (by omega)];rfl
 rw[he]at hk
 have ho:=(FF g1).own.1
 have hsz:=szs s l f
 refine Uu g ho.own.k0 ho.own.k7 (fun _=>ho.dec) ho.time (fun _=>ho.text) (by omega) fun st2 e2=>?_
 exact hk st2 (e1.trans e2)
theorem RC {v:Vl} (hN:v.sz<=1000000) {cs:List TV} {K:B8->Int->St->Prop} (h:VlR St.zero v cs) (hk:∀st',Al st st'->K (shT a q ty v) (shE a q ty v) st'):
  CallT PR Cq [.agg cs,.agg [.int .u8 a,.int .u8 q,.bool hd,.bool ty]] [.one .str,.one (.int .i64)] st K:=by
 obtain⟨s,l,f⟩:=v
 obtain⟨ub,ul,uf,xl,xf,rfl,_⟩:=h.cells
 unfold shT at hk
 refine JS _ _ _ _ _ _ _ _ _ _ _ _ _ a q hd ty st K (LE (Aj (fun g=>?_) fun g=>?_))
 ·have he:shE a q ty (.mk s l f)=1:=by unfold shE;rw[if_pos (by simpa using g)]
  have:=hk st (Al.refl _)
  rwa [he,if_neg (by decide)]at this
 have g:dOk a q=true:=by simpa using g
 refine Rg (v:= .mk s l f) (by omega) h (Dj _) fun st1 e1=>Aa (fun g1=>?_) fun g1=>?_
 ·have he:shE a q ty (.mk s l f)=(B6 (.mk s l f):Int):=by unfold shE;rw[if_neg (by rw[g];decide),if_pos (by omega)]
  have:=hk st1 e1
  rwa [he,if_neg (by omega)]at this
 have g1:B6 (.mk s l f)=0:=by omega
 have he:shE a q ty (.mk s l f)=Ba ty s.kind:=by unfold shE;rw[if_neg (by rw[g];decide),if_neg (by omega)];rfl
 rw[he]at hk
 have ho:=(FF g1).own.1
 have hsz:=szs s l f
 have d:=UC g
 have hk0:=ho.own.k0
 have hk7:=ho.own.k7
 have hk:∀st',Al st1 st'->K (if Ba ty s.kind=0 then Cj a q ty s else []) (Ba ty s.kind) st':=fun st' e=>hk st' (e1.trans e)
 have e0:=Al.refl st1
 have ok:Ba ty s.kind=0->∀st',Al st1 st'->K (Cj a q ty s) 0 st':=fun he st' e=>by have:=hk st' e;rwa [if_pos he,he]at this
 have bad:Ba ty s.kind=27->K [] 27 st1:=fun he=>by have:=hk st1 e0;rwa [he,if_neg (by decide)]at this
 refine Aa (fun k6=>bad ?_) fun k6=>Aa (fun k7=>bad ?_) fun k7=>Aa (fun k5=>bad ?_) fun k5=>Aj (fun g=>Aa (fun g1=>bad ?_) fun g1=>?sw1) fun g=>?sw2
 ·have k6:s.kind=6:=k6
  unfold Ba;rw[if_pos (by omega)]
 ·have k7:s.kind=7:=k7
  unfold Ba;rw[if_pos (by omega)]
 ·have k5:s.kind=5:=k5
  unfold Ba;rw[if_pos (by omega)]
 ·have hty:ty=false:=by simpa using g
  unfold Ba;rw[if_pos (.inl ⟨hty,g1⟩)]
 case sw1 | sw2=>
  have hE:s.kind<=4->Ba ty s.kind=0:=fun h4=>by
   unfold Ba
   rw[if_neg]
   rintro(⟨h,h'⟩ | h)
   ·first
     | exact g1 h'
     | (rw[h]at g;cases g)
   ·omega
  have hP:∀t,s.kind≠4->plT s=t->Cj a q ty s=t:=fun t h4 h=>by unfold Cj;rw[if_neg h4];exact h
  refine Aa (fun k1=>Aj (fun hb=>?_) fun hb=>?_) fun k1=>Aa (fun k2=>XG ho.dec fun st2 e2=>?_) fun k2=>Aa (fun k3=>XC (ho.time k3) fun st2 e2=>?_) fun k3=>Aa (fun k4=>?_) fun k4=>?_
  ·have:=ok (hE (by omega)) st1 e0
   rwa [hP Kf (by omega) (by unfold plT;rw[if_pos k1,if_pos hb])]at this
  ·have:=ok (hE (by omega)) st1 e0
   rwa [hP Ix (by omega) (by unfold plT;rw[if_pos k1,if_neg (by rw[hb];decide)])]at this
  ·have:=ok (hE (by omega)) st2 e2
   rwa [hP _ (by omega) (by unfold plT;rw[if_neg (by omega),if_pos k2])]at this
  ·have:=ok (hE (by omega)) st2 e2
   rwa [hP _ (by omega) (by unfold plT;rw[if_neg (by omega),if_neg (by omega),if_pos k3])]at this
  ·have hu:Bi s.text=s.text.length:=ho.text
   have ok:=ok (hE (by omega))
   have hS:Cj a q ty s=if Bb a q s.text=s.text/\(I8 ty false s.text).kind≠4 then Mu q s.text else Bb a q s.text:=by unfold Cj;rw[if_pos k4]
   refine Pp (by omega) fun st2 e2=>?_
   rw[Nr (by assumption) hu]
   refine Aa (fun h1=>?_) fun h1=>?_
   ·have h1:Bb a q s.text=s.text:=h1
    show CallT PR BF [.str (Bb a q s.text),.bool false,.agg [.int .u8 a,.int .u8 q,.bool hd,.bool ty]] [.agg S6] st2 _
    rw[h1]
    refine X1 (by omega) (Aa (fun h2=>?_) fun h2=>?_)
    ·have hq1:=d.q1
     have hqn:=EF (q:=q) d.q0 (by omega)
     refine Ob hqn (by omega) ?_
     have:=ok st2 e2
     rwa [hS,if_pos ⟨h1,h2⟩]at this
    ·have:=ok st2 e2
     rwa [hS,if_neg fun h=>h2 h.2,h1]at this
   ·have:=ok st2 e2
    rwa [hS,if_neg fun h=>h1 h.1]at this
  ·have:=ok (hE (by omega)) st1 e0
   rwa [hP [] (by omega) (by unfold plT;rw[if_neg (by omega),if_neg (by omega),if_neg (by omega)])]at this
end
end
section
structure Ww (a q:Int) (rs:List Nd) (W:Nat):Prop where
 form:∀r,r∈rs->RecF a q r
 wid:∀r,r∈rs->(Aw r).length=W
 len:∀r,r∈rs->∀k,k∈Aw r->(txt q (AW k)).length<=65536/\(AW k).length<=2000000
 cnt:rs.length<=2000000
 wlen:W<=10000000
def Lz (q:Int) (hd ty:Bool):List (List B8)->List Vl
 | []=>[]
 | h::t=>if hd then t.map fun r=>recV (h.map (txt q)) (Hk q ty r)else(h::t).map fun r=>Pc ((Hk q ty r).map Dx)
theorem Ly (q:Int) (ty:Bool) (l:List (List B8)):Lz q false ty l=l.map fun r=>Pc ((Hk q ty r).map Dx):=by
 cases l<;>rfl
theorem Pa {q:Int} {ty:Bool} {l:List (List B8)} {j:Nat} {row:List B8} (h:l[j]? =some row):Lz q false ty (l.take (j+1))=Lz q false ty (l.take j)++[Pc ((Hk q ty row).map Dx)]:=by
 rw[Ly,Ly,List.take_add_one,h,List.map_append];rfl
theorem Tn (q:Int) (ty:Bool) (l:List (List B8)):Lz q true ty (l.take 1)=[]:=by
 cases l<;>rfl
theorem O9 {q:Int} {ty:Bool} {l:List (List B8)} {j:Nat} {row h0:List B8} (h:l[j]? =some row) (hj:0<j) (h1:l[0]? =some h0):Lz q true ty (l.take (j+1))=Lz q true ty (l.take j)++[recV (h0.map (txt q)) (Hk q ty row)]:=by
 cases l with
 | nil=>cases h1
 | cons x t=>
  obtain⟨i,rfl⟩:∃i,j=i+1:=⟨j-1,by omega⟩
  simp only[List.getElem?_cons_zero,Option.some.injEq]at h1
  subst h1
  simp only[List.getElem?_cons_succ]at h
  show(t.take (i+1)).map _=(t.take i).map _++_
  rw[List.take_add_one,h,List.map_append];rfl
theorem Ia.ldA {α:Type} {f:α->TV} {v:TV} {rows:List (List α)} (h:Ia f v rows) {i:Nat} {row:List α} (hr:rows[i]? =some row):∃u,(∀st,Ad st [] (.t (ixT 1 v i)) 0=some u)/\GU f u row:=by
 obtain⟨vs,h1,h2,h3⟩:=h
 have hlt:i<vs.length:=by rw[h2];exact(List.getElem?_eq_some_iff.1 hr).1
 have hu:=List.getElem?_eq_getElem hlt
 exact⟨vs[i],fun st=>Rd.ldx h1 st i 0 (by rw[Nat.mul_one,Nat.add_zero];exact hu),h3 i _ row hu hr⟩
theorem RZ (s:Sc) (h:s.bytes=[]):VlR St.zero (Dx s) (A0 s .nilSlice .nilSlice .nilSlice):=vlLeaf St.zero s h
theorem vr_list {l:List Vl} {u:TV} {xs:List TV} (h:Rd 13 u l.length xs) (hv:VsR St.zero l xs):VlR St.zero (Pc l) (A0 (scW 6) .nilSlice u .nilSlice):=by
 unfold Pc VlR
 exact⟨_,_,_,xs,[],rfl,.of_rd (.inl ⟨rfl,rfl,rfl⟩),.of_rd h,hv,.of_rd (.inl ⟨rfl,rfl,rfl⟩),by unfold FsR;rfl⟩
theorem vr_map {f:List Fd} {u:TV} {xs:List TV} (h:Rd 14 u f.length xs) (hv:FsR St.zero f xs):VlR St.zero (Xm f) (A0 (scW 7) .nilSlice .nilSlice u):=by
 unfold Xm VlR
 exact⟨_,_,_,[],xs,rfl,.of_rd (.inl ⟨rfl,rfl,rfl⟩),.of_rd (.inl ⟨rfl,rfl,rfl⟩),by unfold VsR;rfl,.of_rd h,hv⟩
theorem TJ {q:Int} {ty:Bool} {ks:List Nd} {m:Nat} {k:Nd} (h:ks[m]? =some k):(Hk q ty (ks.map AW))[m]? =some (I8 ty (Dw q (AW k)) (txt q (AW k))):=by
 unfold Hk
 rw[List.getElem?_map,List.getElem?_map,h];rfl
theorem Mp (q:Int) (ty:Bool) (l:List B8):(Hk q ty l).length=l.length:=by unfold Hk;rw[List.length_map]
theorem Xr {q:Int} {ty:Bool} {ks:List Nd} {m:Nat} {k:Nd} (h:ks[m]? =some k):((Hk q ty (ks.map AW)).take (m+1)).map Dx=((Hk q ty (ks.map AW)).take m).map Dx++[Dx (I8 ty (Dw q (AW k)) (txt q (AW k)))]:=by
 rw[List.take_add_one,TJ h,List.map_append];rfl
def U3 (names:List B8) (row:List Sc):List Fd:=List.zipWith (fun k s=>Fd.mk k (Dx s)) names row
theorem Xs {names:List B8} {row:List Sc} {m:Nat} {nm:B8} {s:Sc} (h1:names[m]? =some nm) (h2:row[m]? =some s):U3 (names.take (m+1)) (row.take (m+1))=U3 (names.take m) (row.take m)++[Fd.mk nm (Dx s)]:=by
 unfold U3
 rw[<-List.take_zipWith,<-List.take_zipWith,List.take_add_one]
 congr 1
 rw[List.getElem?_zipWith,h1,h2];rfl
section
variable {a q:Int} {hd ty:Bool} {st:St}
theorem X0 {n:Nd} {cs:List TV} (hc:NdC n cs) (hl:EY n<=100000000000000) (hcn:FK n<=1000000000000000) (ht:Km n a q hd->∃W,Ww a q (Np n) W) {K:Int->Bool->Bool->B8->Int->Int->Int->Int->Int->B8->TV->TV->TV->Int->St->Prop}
  (hk1:¬Km n a q hd->∀st',Al st st'->K 0 false false [] 0 0 0 0 0 [] .nilSlice .nilSlice .nilSlice 1 st')
  (hk2:Km n a q hd->∀u xs st',Al st st'->Rd 13 u (Lz q hd ty (F3 (Np n))).length xs->VsR St.zero (Lz q hd ty (F3 (Np n))) xs->K 6 false false [] 0 0 0 0 0 [] .nilSlice u .nilSlice 0 st'):
  CallT PR Hx [.agg cs,.agg [.int .u8 a,.int .u8 q,.bool hd,.bool ty]] [.agg S6,.one (.int .i64)] st K:=by
 have w1:∀k:Nat,k<=100000000->i64.wrap ((k:Int)+1)=((k+1:Nat):Int):=fun k hk=>by rw[Af _ (by omega) (by omega)];omega
 have tn:∀k:Nat,Int.toNat (k:Int)=k:=fun k=>rfl
 obtain⟨kd,t0,t1,kv,tl,rfl,_⟩:=hc.five
 refine QC kd t0 t1 kv tl a q hd ty st K (TZ hc hl hcn fun v1 st1 e1 g1=>?_)
 by_cases ho:Km n a q hd
 case neg=>
  have he:Lj n a q hd=1:=by unfold Lj;rw[if_neg ho]
  rw[he]
  exact Aa (fun _=>hk1 ho st1 e1) fun h=>absurd (by decide) h
 have he:Lj n a q hd=0:=by unfold Lj;rw[if_pos ho]
 have hg:∀{α:Type} (g:B8->α),G8 g n a q hd=EW g (Np n):=fun g=>by unfold G8;rw[if_pos ho]
 rw[he]
 refine Aa (fun h=>absurd rfl h) fun _=>Vu hc hl hcn fun v2 st2 e2 g2=>?_
 rw[hg]at g1 g2
 obtain⟨W,hT⟩:=ht ho
 clear ht
 have hk2:=hk2 ho
 generalize hrs:Np n=rs at*
 have e12:=e1.trans e2
 have hcnt:=hT.cnt
 have hwl:=hT.wlen
 obtain⟨vs1,hr1⟩:=g1.rd
 obtain⟨vs2,hr2⟩:=g2.rd
 have hL:∀{α:Type} (g:B8->α),(EW g rs).length=rs.length:=fun g=>by unfold EW;rw[List.length_map]
 rw[hL]at hr1 hr2
 have hget:∀{α:Type} (g:B8->α) {j:Nat} {r:Nd},rs[j]? =some r->(EW g rs)[j]? =some ((Aw r).map fun k=>g (AW k)):=fun g j r h=>by unfold EW;rw[List.getElem?_map,h];rfl
 have hraw:∀{j:Nat} {r:Nd},rs[j]? =some r->(F3 rs)[j]? =some ((Aw r).map AW):=fun {j r} h=>by unfold F3;rw[List.getElem?_map,h];rfl
 have hrawl:(F3 rs).length=rs.length:=by unfold F3;rw[List.length_map]
 refine Ab hr1.isSl ?_
 refine⟨fun zn zr zq zv zm c1 c2 b1 b2 kA boA ngA dgA exA tkA tdA tnA tzA txA u0A u1A u2A kB boB ngB dgB exB tkB tdB tnB tzB txB u0B u1B u2B st'=>v1=zr/\v2=zq/\v1=zv/\(rs.length:Int)=zm/\a=c1/\q=c2/\hd=b1/\ty=b2/\6=kB/\false=boB/\false=ngB/\[]=dgB/\0=exB/\0=tkB/\0=tdB/\0=tnB/\0=tzB/\[]=txB/\.nilSlice=u0B/\.nilSlice=u2B/\Al st2 st'/\∃j:Nat,zn=(j:Int)/\j<=rs.length/\∃xs,Own st2.nt 13 st' u1B (Lz q hd ty ((F3 rs).take j)).length xs/\VsR St.zero (Lz q hd ty ((F3 rs).take j)) xs,
  fun n _ _ _ _ _ _ _ _ _ _ _ _ _ _ _ _ _ _ _ _ _ _ _ _ _ _ _ _ _ _ _ _ _ _ _=>(rs.length-n).toNat,⟨rfl,rfl,rfl,by rw[hr1.lenS],rfl,rfl,rfl,rfl,rfl,rfl,rfl,rfl,rfl,rfl,rfl,rfl,rfl,rfl,rfl,rfl,Al.refl _,0,rfl,Nat.zero_le _,[],by rw[List.take_zero];exact Own.nil _ _ _,by rw[List.take_zero];exact VsR.nil _⟩,?_⟩
 rintro _ _ _ _ _ _ _ _ _ kA boA ngA dgA exA tkA tdA tnA tzA txA u0A u1A u2A _ _ _ _ _ _ _ _ _ _ _ vB _ st3 ⟨rfl,rfl,rfl,rfl,rfl,rfl,rfl,rfl,rfl,rfl,rfl,rfl,rfl,rfl,rfl,rfl,rfl,rfl,rfl,rfl,e3,j,rfl,hj,xs,hB,hBv⟩
 rw[tn]
 refine Aa (fun g=>?_) fun g=>?_
 case refine_2=>
  have hjl:(F3 rs).take j=F3 rs:=List.take_of_length_le (by omega)
  rw[hjl]at hB hBv
  refine Ab (Ey rfl hB.rd.one rfl) (hk2 _ xs _ (e12.trans e3) hB.rd hBv)
 have hjlt:j<rs.length:=by omega
 obtain⟨r,hjr⟩:∃r,rs[j]? =some r:=⟨_,List.getElem?_eq_getElem hjlt⟩
 have hmem:=List.mem_of_getElem? hjr
 have hwid:=hT.wid r hmem
 obtain⟨uj,hlj,rj⟩:=g1.ldA (hget (txt q) hjr)
 obtain⟨qj,hlq,rq⟩:=g2.ldA (hget (Dw q) hjr)
 have hrjl:=Rd.lenS rj
 have hrjz:=Rd.lenZ rj
 have hrqz:=Rd.lenZ rq
 rw[List.length_map,hwid]at hrjl hrjz hrqz
 refine⟨⟨by omega,by rw[hr1.lenZ];omega⟩,Ac (hlj _) (Aj (fun hh=>Ab (Rd.isSl rj) ?_) fun hh=>Aa (fun g0=>Ab (Rd.isSl rj) ?_) fun g0=>?_)⟩
 ·have hhd:hd=false:=by simpa using hh
  subst hhd
  refine⟨fun zn zr zq zi zv zm n5 v3 n6 c1 c2 b7 b8 kA boA ngA dgA exA tkA tdA tnA tzA txA u0A u1A u2A kB boB ngB dgB exB tkB tdB tnB tzB txB u0B u1B u2B kC boC ngC dgC exC tkC tdC tnC tzC txC u0C u1C u2C st'=>v1=zr/\v2=zq/\(j:Int)=zi/\v1=zv/\(rs.length:Int)=zm/\(j:Int)=n5/\uj=v3/\(W:Int)=n6/\a=c1/\q=c2/\false=b7/\ty=b8/\6=kB/\false=boB/\false=ngB/\[]=dgB/\0=exB/\0=tkB/\0=tdB/\0=tnB/\0=tzB/\[]=txB/\.nilSlice=u0B/\.nilSlice=u2B/\vB=u1B/\6=kC/\false=boC/\false=ngC/\[]=dgC/\0=exC/\0=tkC/\0=tdC/\0=tnC/\0=tzC/\[]=txC/\.nilSlice=u0C/\.nilSlice=u2C/\Al st3 st'/\∃m':Nat,zn=(m':Int)/\m'<=W/\∃ys,Own st3.nt 13 st' u1C m' ys/\VsR St.zero (((Hk q ty ((Aw r).map AW)).take m').map Dx) ys,
   fun n _ _ _ _ _ _ _ _ _ _ _ _ _ _ _ _ _ _ _ _ _ _ _ _ _ _ _ _ _ _ _ _ _ _ _ _ _ _ _ _ _ _ _ _ _ _ _ _ _ _ _ _=>(W-n).toNat,⟨rfl,rfl,rfl,rfl,rfl,rfl,rfl,by rw[hrjl],rfl,rfl,rfl,rfl,rfl,rfl,rfl,rfl,rfl,rfl,rfl,rfl,rfl,rfl,rfl,rfl,rfl,rfl,rfl,rfl,rfl,rfl,rfl,rfl,rfl,rfl,rfl,rfl,rfl,Al.refl _,0,rfl,Nat.zero_le _,[],Own.nil _ _ _,by rw[List.take_zero];exact VsR.nil _⟩,?_⟩
  rintro _ _ _ _ _ _ _ _ _ _ _ _ _ kA boA ngA dgA exA tkA tdA tnA tzA txA u0A u1A u2A _ _ _ _ _ _ _ _ _ _ _ _ _ _ _ _ _ _ _ _ _ _ _ _ vC _ st4 ⟨rfl,rfl,rfl,rfl,rfl,rfl,rfl,rfl,rfl,rfl,rfl,rfl,rfl,rfl,rfl,rfl,rfl,rfl,rfl,rfl,rfl,rfl,rfl,rfl,rfl,rfl,rfl,rfl,rfl,rfl,rfl,rfl,rfl,rfl,rfl,rfl,rfl,e4,m,rfl,hm,ys,hC,hCv⟩
  rw[tn,tn]
  refine Aa (fun g=>?_) fun g=>?_
  ·have hmlt:m<(Aw r).length:=by omega
   obtain⟨k,hkm⟩:∃k,(Aw r)[m]? =some k:=⟨_,List.getElem?_eq_getElem hmlt⟩
   have hkl:=hT.len r hmem k (List.mem_of_getElem? hkm)
   have l1:=GU.ld rj st4 (i:=m) (a:=txt q (AW k)) (by rw[List.getElem?_map,hkm];rfl)
   have l2:=GU.ld rq st4 (i:=m) (a:=Dw q (AW k)) (by rw[List.getElem?_map,hkm];rfl)
   refine⟨⟨by omega,by rw[hrjz];omega⟩,Ac l1 (Ak ⟨⟨by omega,by rw[hr2.lenZ];omega⟩,Ac (hlq _) ⟨⟨by omega,by rw[hrqz];omega⟩,Ac l2 (Ap ?_)⟩⟩)⟩
   refine P0 (by omega) fun st5 e5=>⟨hlq _,Ab (Ey rfl rfl rfl) ?_⟩
   have hcb:=Oj ty (Dw q (AW k)) (txt q (AW k))
   refine CJ (e4.trans e5) rfl (hC.ext e5) (by omega) (fun h=>by cases h) fun v' st6 e6 _ ho'=>Ab (List.all_eq_true.2 fun x hx=>by rw[List.mem_singleton.1 hx];exact ho'.rd.one) ?_
   rw[w1 m (by omega)]
   refine⟨⟨rfl,rfl,rfl,rfl,rfl,rfl,rfl,rfl,rfl,rfl,rfl,rfl,rfl,rfl,rfl,rfl,rfl,rfl,rfl,rfl,rfl,rfl,rfl,rfl,rfl,rfl,rfl,rfl,rfl,rfl,rfl,rfl,rfl,rfl,rfl,rfl,rfl,e6,m+1,rfl,by omega,_,ho',?_⟩,by dsimp only;omega⟩
   rw[Xr hkm]
   exact hCv.snoc (RZ _ hcb)
  ·have hmW:m=W:=by omega
   subst hmW
   have hfull:(Hk q ty ((Aw r).map AW)).take (Aw r).length=Hk q ty ((Aw r).map AW):=List.take_of_length_le (by rw[Mp,List.length_map];omega)
   rw[<-hwid]at hC hCv
   rw[hfull]at hCv
   have hx:VlR St.zero (Pc ((Hk q ty ((Aw r).map AW)).map Dx)) (A0 (scW 6) .nilSlice vC .nilSlice):=vr_list (by rw[List.length_map,Mp,List.length_map];exact hC.rd) hCv
   refine Ab (Ey rfl hC.rd.one rfl) ?_
   have hlen:(Lz q false ty ((F3 rs).take j)).length<=2000000:=by rw[Ly,List.length_map,List.length_take];omega
   refine CJ (e3.trans e4) rfl (hB.ext e4) (by omega) (fun h=>by cases h) fun v' st6 e6 _ ho'=>Ab (List.all_eq_true.2 fun x hx=>by rw[List.mem_singleton.1 hx];exact ho'.rd.one) ?_
   rw[w1 j (by omega)]
   refine⟨⟨rfl,rfl,rfl,rfl,rfl,rfl,rfl,rfl,rfl,rfl,rfl,rfl,rfl,rfl,rfl,rfl,rfl,rfl,rfl,rfl,e6,j+1,rfl,by omega,xs++A0 (scW 6) .nilSlice vC .nilSlice,?_,?_⟩,by dsimp only;omega⟩
   ·rw[Pa (hraw hjr),List.length_append];exact ho'
   ·rw[Pa (hraw hjr)];exact hBv.snoc hx
 ·have hhd:hd=true:=by cases hd;exact absurd hh (by decide);rfl
  subst hhd
  obtain⟨r0,hj0⟩:∃r,rs[0]? =some r:=⟨_,List.getElem?_eq_getElem (by omega)⟩
  have hmem0:=List.mem_of_getElem? hj0
  have hwid0:=hT.wid r0 hmem0
  obtain⟨u0,hl0,rr0⟩:=g1.ldA (hget (txt q) hj0)
  have hr0z:=Rd.lenZ rr0
  rw[List.length_map,hwid0]at hr0z
  refine⟨fun zn zr zq zi zv zm n5 v3 n6 c1 c2 b7 b8 kA boA ngA dgA exA tkA tdA tnA tzA txA u0A u1A u2A kB boB ngB dgB exB tkB tdB tnB tzB txB u0B u1B u2B kC boC ngC dgC exC tkC tdC tnC tzC txC u0C u1C u2C st'=>v1=zr/\v2=zq/\(j:Int)=zi/\v1=zv/\(rs.length:Int)=zm/\(j:Int)=n5/\uj=v3/\(W:Int)=n6/\a=c1/\q=c2/\true=b7/\ty=b8/\6=kB/\false=boB/\false=ngB/\[]=dgB/\0=exB/\0=tkB/\0=tdB/\0=tnB/\0=tzB/\[]=txB/\.nilSlice=u0B/\.nilSlice=u2B/\vB=u1B/\7=kC/\false=boC/\false=ngC/\[]=dgC/\0=exC/\0=tkC/\0=tdC/\0=tnC/\0=tzC/\[]=txC/\.nilSlice=u0C/\.nilSlice=u1C/\Al st3 st'/\∃m':Nat,zn=(m':Int)/\m'<=W/\∃ys,Own st3.nt 14 st' u2C m' ys/\FsR St.zero (U3 ((((Aw r0).map AW).map (txt q)).take m') ((Hk q ty ((Aw r).map AW)).take m')) ys,
   fun n _ _ _ _ _ _ _ _ _ _ _ _ _ _ _ _ _ _ _ _ _ _ _ _ _ _ _ _ _ _ _ _ _ _ _ _ _ _ _ _ _ _ _ _ _ _ _ _ _ _ _ _=>(W-n).toNat,⟨rfl,rfl,rfl,rfl,rfl,rfl,rfl,by rw[hrjl],rfl,rfl,rfl,rfl,rfl,rfl,rfl,rfl,rfl,rfl,rfl,rfl,rfl,rfl,rfl,rfl,rfl,rfl,rfl,rfl,rfl,rfl,rfl,rfl,rfl,rfl,rfl,rfl,rfl,Al.refl _,0,rfl,Nat.zero_le _,[],Own.nil _ _ _,by rw[List.take_zero,List.take_zero];exact FsR.nil _⟩,?_⟩
  rintro _ _ _ _ _ _ _ _ _ _ _ _ _ kA boA ngA dgA exA tkA tdA tnA tzA txA u0A u1A u2A _ _ _ _ _ _ _ _ _ _ _ _ _ _ _ _ _ _ _ _ _ _ _ _ _ vC st4 ⟨rfl,rfl,rfl,rfl,rfl,rfl,rfl,rfl,rfl,rfl,rfl,rfl,rfl,rfl,rfl,rfl,rfl,rfl,rfl,rfl,rfl,rfl,rfl,rfl,rfl,rfl,rfl,rfl,rfl,rfl,rfl,rfl,rfl,rfl,rfl,rfl,rfl,e4,m,rfl,hm,ys,hC,hCv⟩
  rw[tn,tn]
  refine Aa (fun g=>?_) fun g=>?_
  ·have hmlt:m<(Aw r).length:=by omega
   have hmlt0:m<(Aw r0).length:=by omega
   obtain⟨k,hkm⟩:∃k,(Aw r)[m]? =some k:=⟨_,List.getElem?_eq_getElem hmlt⟩
   obtain⟨k0,hkm0⟩:∃k,(Aw r0)[m]? =some k:=⟨_,List.getElem?_eq_getElem hmlt0⟩
   have hkl:=hT.len r hmem k (List.mem_of_getElem? hkm)
   have l1:=GU.ld rj st4 (i:=m) (a:=txt q (AW k)) (by rw[List.getElem?_map,hkm];rfl)
   have l0:∀st,Ad st [] (.t (ixT 1 u0 m)) 0=some (.str (txt q (AW k0))):=fun st=>GU.ld rr0 st (i:=m) (a:=txt q (AW k0)) (by rw[List.getElem?_map,hkm0];rfl)
   have l2:=GU.ld rq st4 (i:=m) (a:=Dw q (AW k)) (by rw[List.getElem?_map,hkm];rfl)
   refine⟨⟨by omega,by rw[hrjz];omega⟩,Ac l1 (Ak ⟨⟨by omega,by rw[hr1.lenZ];omega⟩,Ac (hl0 _) ⟨⟨by omega,by rw[hr0z];omega⟩,Ac (l0 _) (Ak ⟨⟨by omega,by rw[hr2.lenZ];omega⟩,Ac (hlq _) ⟨⟨by omega,by rw[hrqz];omega⟩,Ac l2 (Ap ?_)⟩⟩)⟩⟩)⟩
   refine P0 (by omega) fun st5 e5=>⟨hlq _,l0 _,hl0 _,Ab (one14 rfl rfl rfl) ?_⟩
   have hcb:=Oj ty (Dw q (AW k)) (txt q (AW k))
   refine CJ (e4.trans e5) rfl (hC.ext e5) (by omega) (fun h=>by cases h) fun v' st6 e6 _ ho'=>Ab (List.all_eq_true.2 fun x hx=>by rw[List.mem_singleton.1 hx];exact ho'.rd.one) ?_
   rw[w1 m (by omega)]
   refine⟨⟨rfl,rfl,rfl,rfl,rfl,rfl,rfl,rfl,rfl,rfl,rfl,rfl,rfl,rfl,rfl,rfl,rfl,rfl,rfl,rfl,rfl,rfl,rfl,rfl,rfl,rfl,rfl,rfl,rfl,rfl,rfl,rfl,rfl,rfl,rfl,rfl,rfl,e6,m+1,rfl,by omega,_,ho',?_⟩,by dsimp only;omega⟩
   rw[Xs (nm:=txt q (AW k0)) (by rw[List.getElem?_map,List.getElem?_map,hkm0];rfl) (TJ hkm)]
   exact hCv.snoc0 (by unfold FdR;exact⟨_,rfl,RZ _ hcb⟩)
  ·have hmW:m=W:=by omega
   subst hmW
   rw[<-hwid]at hC hCv
   have hfull:(Hk q ty ((Aw r).map AW)).take (Aw r).length=Hk q ty ((Aw r).map AW):=List.take_of_length_le (by rw[Mp,List.length_map];omega)
   have hfull0:(((Aw r0).map AW).map (txt q)).take (Aw r).length=((Aw r0).map AW).map (txt q):=List.take_of_length_le (by rw[List.length_map,List.length_map];omega)
   rw[hfull,hfull0]at hCv
   have hfl:(U3 (((Aw r0).map AW).map (txt q)) (Hk q ty ((Aw r).map AW))).length=(Aw r).length:=by unfold U3;rw[List.length_zipWith,Mp,List.length_map,List.length_map,List.length_map];omega
   have hx:VlR St.zero (recV (((Aw r0).map AW).map (txt q)) (Hk q ty ((Aw r).map AW))) (A0 (scW 7) .nilSlice .nilSlice vC):=vr_map (f:=U3 (((Aw r0).map AW).map (txt q)) (Hk q ty ((Aw r).map AW))) (by rw[hfl];exact hC.rd) hCv
   refine Ab (Ey rfl rfl hC.rd.one) ?_
   have hlen:(Lz q true ty ((F3 rs).take j)).length<=2000000:=by
    cases hb:(F3 rs).take j with
    | nil=>exact Nat.zero_le _
    | cons x y=>
     have:=congrArg List.length hb
     rw[List.length_take,List.length_cons]at this
     show(y.map _).length<=_
     rw[List.length_map];omega
   refine CJ (e3.trans e4) rfl (hB.ext e4) (by omega) (fun h=>by cases h) fun v' st6 e6 _ ho'=>Ab (List.all_eq_true.2 fun x hx=>by rw[List.mem_singleton.1 hx];exact ho'.rd.one) ?_
   rw[w1 j (by omega)]
   refine⟨⟨rfl,rfl,rfl,rfl,rfl,rfl,rfl,rfl,rfl,rfl,rfl,rfl,rfl,rfl,rfl,rfl,rfl,rfl,rfl,rfl,e6,j+1,rfl,by omega,xs++A0 (scW 7) .nilSlice .nilSlice vC,?_,?_⟩,by dsimp only;omega⟩
   ·rw[O9 (hraw hjr) (by omega) (hraw hj0),List.length_append];exact ho'
   ·rw[O9 (hraw hjr) (by omega) (hraw hj0)];exact hBv.snoc hx
 ·have hhd:hd=true:=by cases hd;exact absurd hh (by decide);rfl
  subst hhd
  have hj0:j=0:=by omega
  subst hj0
  rw[w1 0 (by omega)]
  refine⟨⟨rfl,rfl,rfl,rfl,rfl,rfl,rfl,rfl,rfl,rfl,rfl,rfl,rfl,rfl,rfl,rfl,rfl,rfl,rfl,rfl,e3,1,rfl,by omega,xs,?_,?_⟩,by dsimp only;omega⟩
  ·rw[Tn]
   rw[List.take_zero]at hB
   exact hB
  ·rw[Tn]
   rw[List.take_zero]at hBv
   exact hBv
end
end
theorem szl'' (s:Sc):(Dx s).sz=1+s.bytes.length+s.text.length+s.dg.length:=szl' s
theorem ZQ {a q:Int} {s:B8} {i:Nat} {ks:List Nd} {e n:Nat} (h:JI a q s i ks e n):i<=s.length->Cm (ks.map AW)+i<=e:=by
 induction h with
 | @last i e n h1 h2 h3=>
  intro hi
  have hl:=De hi h1
  simp only[List.map_cons,List.map_nil,DW,Cm]
  rw[Mk hl.1 hl.2];omega
 | @more i e e' n ks h1 h2 h3 h4 ih=>
  intro hi
  have hl:=De hi h1
  have:=ih (by omega)
  simp only[List.map_cons,DW,Cm]
  rw[Mk hl.1 hl.2];omega
theorem YT {a q:Int} {s:B8} {i:Nat} {rs:List Nd} (h:KE a q s i rs):i<=s.length->Nc (F3 rs)+i<=s.length/\HE (F3 rs)+i<=s.length+1/\(i<s.length∨rs=[]->True)/\rs.length+i<=s.length:=by
 induction h with
 | nil h=>intro hi;simp[F3,Nc,HE];omega
 | @cons i e n ks rs h1 h2 h3 ih=>
  intro hi
  have hle:=h2.le hi
  have hs:=ZQ h2 hi
  have hn:=(Gz (by omega) hle.2.2.2.2).2.1
  obtain⟨a1,a2,_,a4⟩:=ih (by omega)
  have hk:F3 (.mk 8 [] [] ks (slc s e (e+n))::rs)=ks.map AW::F3 rs:=rfl
  rw[hk]
  simp only[Nc,HE,List.length_map,List.length_cons]
  have hc:n=0->rs=[]:=fun h0=>by
   have:=hn h0
   cases rs with
   | nil=>rfl
   | cons x y=>simp only[List.length_cons]at a4;omega
  refine⟨by omega,?_,fun _=>trivial,?_⟩
  ·rcases Nat.eq_zero_or_pos n with h0 | h0
   ·rw[hc h0];simp[F3,HE];omega
   ·omega
  ·rcases Nat.eq_zero_or_pos n with h0 | h0
   ·rw[hc h0];simp;omega
   ·omega
theorem tree_of {a q:Int} {s:B8} {rs:List Nd} (h:KE a q s 0 rs) (hs:s.length<=1400000) (hlen:∀r,r∈rs->∀k,k∈Aw r->(txt q (AW k)).length<=65536) (hW:∃W:Int,∀r,r∈rs->((Aw r).length:Int)=W):∃W,Ww a q rs W:=by
 obtain⟨W,hW⟩:=hW
 obtain⟨h1,h2,_,h4⟩:=YT h (Nat.zero_le _)
 have mem:∀r,r∈rs->Cm ((Aw r).map AW)<=s.length/\(Aw r).length<=s.length+1:=by
  intro r hr
  obtain⟨j,hj⟩:=List.getElem?_of_mem hr
  have hj2:(F3 rs)[j]? =some ((Aw r).map AW):=by unfold F3;rw[List.getElem?_map,hj];rfl
  have:=YF hj2
  rw[List.length_map]at this
  omega
 by_cases hne:rs=[]
 ·subst hne
  exact⟨0,⟨fun r hr=>(by cases hr),fun r hr=>(by cases hr),fun r hr=>(by cases hr),by simp,by omega⟩⟩
 refine⟨W.toNat,⟨h.form (Nat.zero_le _),fun r hr=>by have:=hW r hr;omega,fun r hr k hk=>⟨hlen r hr k hk,?_⟩,by omega,?_⟩⟩
 ·have h5:=YE (List.mem_map.2 ⟨k,hk,rfl⟩:AW k∈(Aw r).map AW)
  have:=(mem r hr).1;omega
 ·obtain⟨r,t,rfl⟩:=List.exists_cons_of_ne_nil hne
  have:=hW r (.head _)
  have:=(mem r (.head _)).2
  omega
theorem XN {n:Nd} {a q:Int} {hd:Bool} (h:Km n a q hd):∃rs W,n= .mk 1 [] [] rs []/\Ww a q rs W:=by
 obtain⟨rs,rfl,_,_,_,_,_,hr,hl,hW⟩:=Fa h.2
 have hlen:=Qh h.1
 have hn:=Fc (.mk 1 [] [] rs [])
 obtain⟨W,hT⟩:=tree_of hr (by show(DZ (.mk 1 [] [] rs [])).length<=_;omega) hl hW
 exact⟨rs,W,rfl,hT⟩
theorem T9 {x:Cx} {hd:Bool} {l2 l3 l4:Int} {n:Nd} (h:By x hd l2 l3 l4= .ok n):PA x.s x.a x.q hd= .ok n:=by
 obtain⟨rs,rfl,hd1,hl,hle,hv,hdoc,hr,hlen,hW⟩:=Fa h
 unfold lOk at hl
 rw[decide_eq_true_eq]at hl
 obtain⟨rs1,q1,_,_,_,q6⟩:=UB _ (Nat.zero_le _) hdoc
 rw[List.nil_append]at q1
 subst q1
 obtain⟨rs2,j1,j2,_,_⟩:=ZU (d':=48) (n':=65536) _ hdoc
 rw[List.nil_append]at j1
 subst j1
 have hdoc2:=j2 (.inr (by decide)) (by rcases q6 with q6 | q6<;>omega)
 show By (xU x.s x.a x.q) hd 1048576 1024 65536=_
 unfold By
 rw[if_neg (show ¬dOk x.a x.q=false by rw[hd1];decide),if_neg (show ¬lOk 48 65536 1048576 1024 65536=false by decide),if_neg (show ¬(1048576:Int)<(x.s.length:Int) by omega),if_neg (show ¬Bi x.s≠x.s.length by rw[hv];simp)]
 rw[show EZ (xU x.s x.a x.q) hd ((xU x.s x.a x.q).s.length+1) [] 0 1 [] 0= .ok rs from hdoc2]
section
section
variable {a q:Int} {hd ty:Bool} {st:St}
theorem ZE {s:B8} {l0 l1 l2 l3 l4:Int} (hl:s.length<=70000) {K:Int->Bool->Bool->B8->Int->Int->Int->Int->Int->B8->TV->TV->TV->Int->Int->St->Prop}
  (hk1:∀(p:Nat×Int) st',Al st st'->By ⟨s,a,q,l0,l1⟩ hd l2 l3 l4= .error p->p.2≠0->K 0 false false [] 0 0 0 0 0 [] .nilSlice .nilSlice .nilSlice p.1 p.2 st')
  (hk2:∀rs u xs st',Al st st'->By ⟨s,a,q,l0,l1⟩ hd l2 l3 l4= .ok (.mk 1 [] [] rs [])->Rd 13 u (Lz q hd ty (F3 rs)).length xs->VsR St.zero (Lz q hd ty (F3 rs)) xs->K 6 false false [] 0 0 0 0 0 [] .nilSlice u .nilSlice 0 0 st'):
  CallT PR IL [.str s,.agg [.int .u8 a,.int .u8 q,.bool hd,.bool ty],.agg [.int .i64 l0,.int .i64 l1,.int .i64 l2,.int .i64 l3,.int .i64 l4]] [.agg S6,.one (.int .i64),.one (.int .i64)] st K:=by
 refine Sd s a q hd ty l0 l1 l2 l3 l4 st K (Rj (x:=⟨s,a,q,l0,l1⟩) (by show s.length<=_;omega) fun k kv st1 e1 hn=>?_)
 obtain⟨_,_,_,_,_,h5,ho⟩:=hn.five
 cases h5
 have hcn:FK (pN (By ⟨s,a,q,l0,l1⟩ hd l2 l3 l4))<=1000000000000000:=Y6 (by show s.length<=_;omega)
 rcases hP:By ⟨s,a,q,l0,l1⟩ hd l2 l3 l4 with p | n
 ·rw[hP]at hk1
  have hne:=Vy hP
  exact Ab (Fb ho) (Aa (fun _=>hk1 p st1 e1 rfl hne) fun g=>absurd hne g)
 ·rw[hP]at hn hcn hk2
  obtain⟨rs,hrs,_⟩:=Fa hP
  subst hrs
  have hU:=T9 hP
  obtain⟨htx,_,hou⟩:=Zj (show s.length<=70000 from hl) hU
  have hnl:=Fc (.mk 1 [] [] rs [])
  rw[htx]at hnl
  have hl':s.length<=70000:=hl
  refine Ab (Fb ho) (Aa (fun g=>absurd rfl g) fun _=>X0 hn (by show EY (.mk 1 [] [] rs [])<=_;rw[<-hnl];show s.length<=_;omega) hcn (fun ho=>?_) (fun h=>absurd hou h) fun _ u xs st2 e2 hu hx=>?_)
  ·obtain⟨rs',W,he,hT⟩:=XN ho
   have he:Nd.mk 1 [] [] rs []= .mk 1 [] [] rs' []:=he
   cases he
   exact⟨W,hT⟩
  ·exact Ab (Ey rfl hu.one rfl) (Ab (Ey rfl hu.one rfl) (hk2 rs u xs st2 (e1.trans e2) rfl hu hx))
end
theorem SlR.zero {sz n:Nat} {v:TV} {xs:List TV} (h:SlR St.zero sz v n xs):Rd sz v n xs:=by
 rcases h with h | ⟨b,_,_,_,_,hb,_⟩
 ·exact h
 ·exact absurd hb (Nat.not_lt_zero _)
theorem WI {xs:List TV} {k n j:Nat} {cs:List TV} (h:(xs.drop k).take n=cs) {x:TV} (hx:cs[j]? =some x):xs[k+j]? =some x:=by
 rw[<-h,List.getElem?_take]at hx
 split at hx
 ·rwa [List.getElem?_drop]at hx
 ·cases hx
theorem Rd.isP {sz n i:Nat} {u:TV} {xs:List TV} (h:Rd sz u n xs) (hi:i<n):isPtr (ixT sz u i)=true:=(SlR.of_rd (st:=St.zero) h).isPtr hi
theorem ld13 {u:TV} {xs:List TV} {l:List Vl} (hr:Rd 13 u l.length xs) (hv:VsR St.zero l xs) {i:Nat} {s':Sc} {l':List Vl} {f':List Fd} (hi:l[i]? =some (.mk s' l' f')):
  isPtr (ixT 13 u i)=true/\∃ub ul uf xl xf,(∀st (j:Nat) x,(A0 s' ub ul uf)[j]? =some x->Ad st [] (.t (Ao (ixT 13 u i) j)) 0=some x)/\Rd 13 ul l'.length xl/\VsR St.zero l' xl/\Rd 14 uf f'.length xf/\FsR St.zero f' xf:=by
 obtain⟨hlt,_⟩:=List.getElem?_eq_some_iff.1 hi
 obtain⟨cs,hc,hcx,_⟩:=hv.get hi
 obtain⟨ub,ul,uf,xl,xf,rfl,_,h2,h3,h4,h5⟩:=hc.cells
 exact⟨hr.isP hlt,ub,ul,uf,xl,xf,fun st j x hx=>hr.ldfx st i j (WI hcx hx),h2.zero,h3,h4.zero,h5⟩
theorem WW {sz n i:Nat} {u:TV} {xs:List TV} (h:Rd sz u n xs) (hi:i<n) (a b:Nat):Ao (Ao (ixT sz u i) a) b=Ao (ixT sz u i) (a+b)/\isPtr (Ao (ixT sz u i) a)=true:=by
 rcases h with⟨rfl,rfl,_⟩ | ⟨tip,rfl⟩
 ·omega
 ·refine⟨?_,rfl⟩
  simp only[ixT,Ao,Nat.beq_refl,List.drop_drop,Nat.add_assoc]
theorem ld14 {u:TV} {xs:List TV} {l:List Fd} (hr:Rd 14 u l.length xs) (hv:FsR St.zero l xs) {i:Nat} {k:B8} {s':Sc} {l':List Vl} {f':List Fd} (hi:l[i]? =some (.mk k (.mk s' l' f'))):
  isPtr (ixT 14 u i)=true/\isPtr (Ao (ixT 14 u i) 1)=true/\∃ub ul uf,∀st (j:Nat) x,(A0 s' ub ul uf)[j]? =some x->Ad st [] (.t (Ao (Ao (ixT 14 u i) 1) j)) 0=some x:=by
 obtain⟨hlt,_⟩:=List.getElem?_eq_some_iff.1 hi
 obtain⟨cs,hc,hcx,_⟩:=hv.get hi
 unfold FdR at hc
 obtain⟨c,rfl,hc⟩:=hc
 obtain⟨ub,ul,uf,xl,xf,rfl,_⟩:=hc.cells
 refine⟨hr.isP hlt,(WW hr hlt 1 0).2,ub,ul,uf,fun st j x hx=>?_⟩
 rw[(WW hr hlt 1 j).1]
 exact hr.ldfx st i (1+j) (WI hcx (by rw[Nat.add_comm 1 j];exact hx))
end
theorem Y8 {s:B8} (hu:U8 s) (hl:s.length<=65536):ML (tkT s) [] [] where
 own:=⟨(by decide:(0:Int)<=4),(by decide:(4:Int)<=7),fun _=>rfl,fun _=>⟨rfl,rfl,rfl⟩,fun _=>⟨rfl,rfl,rfl,rfl⟩,fun h=>absurd rfl h,fun _=>rfl,fun _=>rfl,fun _=>rfl⟩
 dec:=by show D2 false [] 0;decide
 time:=fun h=>by cases h
 text:=hu
 tlen:=hl
 blen:=Nat.zero_le _
 keys:=rfl
theorem Qk {s:Sc} (h:ML s [] []):B6 (Dx s)=0:=by
 have h0:=Nu.2 h
 unfold Dx B6 CW
 rw[if_neg (by omega),if_neg (by omega),if_neg (by omega)]
 unfold FU CH D1
 rfl
def XJ:List (List B8):=[[[97],[98]],[[49],[120]],[[34,49,34],[]]]
theorem textA:AT 44 XJ=Xu:=by decide
theorem dA:dOk 44 34=true:=by decide
theorem plA (c:B8) (h:FY 44 34 c=false/\(c.all fun x=>decide (x.toNat<128))=true/\(txt 34 c).length<=65536):KH 44 34 c/\Bi c=c.length/\(txt 34 c).length<=65536:=⟨SU (UC dA) h.1,E7 c h.2.1,h.2.2⟩
theorem parseG:∃rs,PA Xu 44 34 true= .ok (.mk 1 [] [] rs [])/\F3 rs=XJ:=by
 have hF:KH 44 34 [34,49,34]/\Bi [34,49,34]=([34,49,34]:B8).length/\(txt 34 [34,49,34]).length<=65536:=⟨UO (UC dA) [49],E7 _ rfl,by decide⟩
 have:=readX (a:=44) (q:=34) dA true (l:=XJ) (W:=2) (fun r hr=>by
  simp only[XJ,List.mem_cons,List.not_mem_nil,or_false]at hr
  rcases hr with rfl | rfl | rfl
  ·exact⟨by decide,rfl,fun c hc=>by
    simp only[List.mem_cons,List.not_mem_nil,or_false]at hc
    rcases hc with rfl | rfl<;>exact plA _ (by decide)⟩
  ·exact⟨by decide,rfl,fun c hc=>by
    simp only[List.mem_cons,List.not_mem_nil,or_false]at hc
    rcases hc with rfl | rfl<;>exact plA _ (by decide)⟩
  ·exact⟨by decide,rfl,fun c hc=>by
    simp only[List.mem_cons,List.not_mem_nil,or_false]at hc
    rcases hc with rfl | rfl
    ·exact hF
    ·exact plA _ (by decide)⟩) (by rw[textA];decide) (by decide) (fun _ r hr=>by
  simp only[XJ,List.head?_cons,Option.some.injEq]at hr
  subst hr
  refine⟨by decide,fun c hc=>?_⟩
  simp only[List.mem_cons,List.not_mem_nil,or_false]at hc
  rcases hc with rfl | rfl<;>decide)
 rwa [textA]at this
def lA:List Vl:=[Xm [.mk [97] (Dx (tkN false [49] 0)),.mk [98] (Dx (tkT [120]))],Xm [.mk [97] (Dx (tkT [49])),.mk [98] (Dx (scK 0))]]
theorem valA:Lz 34 true true XJ=lA:=by kernel_rfl
theorem RB {st:St} {K:Bool->St->Prop} (hk:∀st',Al st st'->K true st'):CallT PR Ci [] [.one .bool] st K:=by
 obtain⟨rs,hp,hraw⟩:=parseG
 refine JC st K (Pw (TW (ZE (s:=Xu) (by decide) (fun p st1 e1 h _=>?_) fun rs' u xs st1 e1 h hu hx=>?_)))
 ·rw[show By ⟨Xu,44,34,48,65536⟩ true 1048576 1024 65536=_ from hp]at h;cases h
 rw[show By ⟨Xu,44,34,48,65536⟩ true 1048576 1024 65536=_ from hp]at h
 cases h
 rw[hraw,valA]at hu hx
 have hu:Rd 13 u 2 xs:=hu
 obtain⟨p1,_,_,f1,_,xf1,ld1,_,_,hf1,hfx1⟩:=ld13 (l:=lA) hu hx (i:=1) rfl
 obtain⟨p0,_,_,f0,_,xf0,ld0,_,_,hf0,hfx0⟩:=ld13 (l:=lA) hu hx (i:=0) rfl
 obtain⟨a1,a2,_,_,_,la⟩:=ld14 hf1 hfx1 (i:=0) rfl
 obtain⟨b1,b2,_,_,_,lb⟩:=ld14 hf0 hfx0 (i:=0) rfl
 obtain⟨c1,c2,_,_,_,lc⟩:=ld14 hf1 hfx1 (i:=1) rfl
 have hf1:Rd 14 f1 2 xf1:=hf1
 have hf0:Rd 14 f0 2 xf0:=hf0
 have h49:ML (tkT [49]) [] []:=Y8 (E7 [49] rfl) (by decide)
 have hE:shE 44 34 true (Dx (tkT [49]))=0:=by
  unfold shE
  rw[if_neg (by rw[dA];decide),if_neg (by rw[Qk h49];decide)]
  decide
 have hT:shT 44 34 true (Dx (tkT [49]))=str11:=by
  unfold shT
  rw[if_pos hE]
  show Cj 44 34 true (tkT [49])=_
  unfold Cj
  rw[if_pos (show(tkT [49]).kind=4 from rfl),if_pos (by decide)]
  decide
 have hv:VlR St.zero (Dx (tkT [49])) (A0 (tkT [49]) .nilSlice .nilSlice .nilSlice):=RZ _ rfl
 refine Ab (Ey rfl hu.one rfl) (Pw (ZD (v:=Dx (tkT [49])) (by rw[szl''];decide) hv fun st2 e2=>?_))
 rw[hE,hT]
 refine Aa (fun _=>Ab hu.isSl (Aa (fun _=>⟨⟨by decide,by rw[hu.lenZ];decide⟩,Ab p1 (Ac (ld1 _ 12 _ rfl) (Ab hf1.isSl (Aa (fun _=>⟨⟨by decide,by rw[hu.lenZ];decide⟩,Ab p1 (Ac (ld1 _ 12 _ rfl)
  ⟨⟨by decide,by rw[hf1.lenZ];decide⟩,Ab a1 (Ab a2 (Ac (la _ 9 _ rfl) (Ak (Aa (fun _=>⟨⟨by decide,by rw[hu.lenZ];decide⟩,Ab p0 (Ac (ld0 _ 12 _ rfl)
   ⟨⟨by decide,by rw[hf0.lenZ];decide⟩,Ab b1 (Ab b2 (Ac (lb _ 0 _ rfl) (AB (Aa (fun _=>⟨⟨by decide,by rw[hu.lenZ];decide⟩,Ab p1 (Ac (ld1 _ 12 _ rfl)
    ⟨⟨by decide,by rw[hf1.lenZ];decide⟩,Ab c1 (Ab c2 (Ac (lc _ 0 _ rfl) (AB (Aa (fun _=>Aa (fun _=>hk st2 (e1.trans e2)) fun g=>absurd rfl g) fun g=>absurd rfl g))))⟩)⟩) fun g=>absurd rfl g))))⟩)⟩) fun g=>absurd rfl g))))⟩)⟩) fun g=>absurd (by rw[hf1.lenS];rfl) g)))⟩) fun g=>absurd (by rw[hu.lenS];rfl) g)) fun g=>absurd rfl g
theorem Ti (l m:List Vl):BC (l++m)=BC l+BC m:=by
 induction l with
 | nil=>simp[BC]
 | cons v r ih=>simp only[List.cons_append,BC,ih];omega
theorem Uw (l m:List Fd):BV (l++m)=BV l+BV m:=by
 induction l with
 | nil=>simp[BV]
 | cons v r ih=>simp only[List.cons_append,BV,ih];omega
theorem RG (l m:List Fd):EC (l++m)=EC l+EC m:=by
 induction l with
 | nil=>simp[EC]
 | cons v r ih=>simp only[List.cons_append,EC,ih];omega
theorem QW {l:List Vl} {k:Nat} {w:Vl} (h:l[k]? =some w):BC (l.take (k+1))=BC (l.take k)+w.sz:=by
 rw[List.take_add_one,h,Ti];simp[BC]
theorem RF {l:List Fd} {k:Nat} {w:Fd} (h:l[k]? =some w):BV (l.take (k+1))=BV (l.take k)+w.sz:=by
 rw[List.take_add_one,h,Uw];simp[BV]
theorem P1 {l:List Fd} {k:Nat} {w:Fd} (h:l[k]? =some w):EC (l.take (k+1))=EC (l.take k)+w.cnt:=by
 rw[List.take_add_one,h,RG];simp[EC]
theorem vcnt (s:Sc) (l:List Vl) (f:List Fd):(Vl.mk s l f).cnt=1+DA l+EC f:=by unfold Vl.cnt;rfl
theorem fcnt (k:B8) (v:Vl):(Fd.mk k v).cnt=v.cnt:=by unfold Fd.cnt;rfl
def RmOk (v:Vl) (n r:Int):Prop:=r= -1∨(0<=r/\(v.sz:Int)+3000+r*12001<=n*12001/\(v.cnt:Int)+r<=n)
theorem XB:∀(N:Nat) (v:Vl),v.sz<=N->∀{st:St} {cs:List TV} {D n:Int} {K:Int->St->Prop},VlR St.zero v cs-> -1000<=D->D<=1000-> -1<=n->n<=1000->(∀r,RmOk v n r->K r st)->
  CallT PR Be [.agg cs,.int .i64 D,.int .i64 n,.int .i64 3000] [.one (.int .i64)] st K:=by
 intro N
 induction N with
 | zero=>intro v h;have:=v.sz_pos;omega
 | succ N ih=>
 intro v hN st cs D n K h hD1 hD2 hn1 hn2 hk
 cases v with
 | mk s l f=>
 have hsz:=szs s l f
 have hct:=vcnt s l f
 obtain⟨ub,ul,uf,xl,xf,rfl,h1,h2,h3,h4,h5⟩:=h.cells
 have no:K (-1) st:=hk _ (.inl rfl)
 refine JW _ _ _ _ _ _ _ _ _ _ _ _ _ D n 3000 st K (Aa (fun _=>no) fun g1=>Aa (fun _=>no) fun g2=>Aa (fun _=>no) fun g3=>Ab h1.isSl (Aa (fun _=>no) fun g4=>Aa (fun _=>no) fun g5=>Ab h2.isSl (Aa (fun _=>no) fun g6=>Ab h4.isSl (Aa (fun _=>no) fun g7=>?_))))
 rw[h1.lenS]at g4
 rw[h2.lenS]at g6
 rw[h4.lenS]at g7
 rw[Af (n-1) (by omega) (by omega)]
 refine⟨fun zn zi zd zb k bo ng dg ex tk td tn tz tx u0 u1 u2 st'=>ul=u1/\uf=u2/\D=zd/\3000=zb/\st=st'/\∃k:Nat,zi=(k:Int)/\k<=l.length/\ -1<=zn/\zn<=n-1/\(0<=zn->(BC (l.take k):Int)+zn*12001<=(n-1)*12001/\(DA (l.take k):Int)+zn<=n-1),
  fun _ zi _ _ _ _ _ _ _ _ _ _ _ _ _ _ _ _=>(l.length-zi).toNat,⟨rfl,rfl,rfl,rfl,rfl,0,rfl,Nat.zero_le _,by omega,by omega,fun _=>by rw[List.take_zero];simp[BC,DA]⟩,?_⟩
 rintro zn _ _ _ _ _ _ _ _ _ _ _ _ _ _ _ _ _ ⟨rfl,rfl,rfl,rfl,rfl,k,rfl,hkl,z1,z2,z3⟩
 refine Ab h2.isSl (Aa (fun g=>Aa (fun g0=>?_) fun g0=>?q1) fun g=>?q2)
 ·rw[h2.lenS]at g
  refine LR (Dj _) h2 h3 rfl (by omega) fun s' l' f' ub1 ul1 uf1 gw hw on=>?_
  have hwsz:=HJ gw
  have e1:=QW gw
  have e2:=OQ gw
  obtain⟨z4,z5⟩:=z3 g0
  rw[Af ((k:Int)+1) (by omega) (by omega),Af (D-1) (by omega) (by omega)]
  refine ih _ (by omega) hw (by omega) (by omega) (by omega) (by omega) fun r hr=>⟨⟨rfl,rfl,rfl,rfl,rfl,k+1,by omega,by omega,?_,?_,?_⟩,by dsimp only;omega⟩
  ·rcases hr with hr | hr<;>omega
  ·rcases hr with hr | hr
   ·omega
   ·have:=Vl.sz_pos (.mk s' l' f');omega
  ·intro hr0
   rcases hr with hr | hr
   ·omega
   ·rw[e1,e2];omega
 case q1 | q2=>
  have zz:zn= -1∨(BC l:Int)+zn*12001<=(n-1)*12001/\(DA l:Int)+zn<=n-1:=by
   by_cases hz:0<=zn
   ·right
    have hkk:k=l.length:=by
     first
      | (exfalso;exact g0 hz)
      | (rw[h2.lenS]at g;omega)
    rw[hkk,List.take_of_length_le (Nat.le_refl _)]at z3
    exact z3 hz
   ·left;omega
  refine⟨fun yn zi zd zb k bo ng dg ex tk td tn tz tx u0 u1 u2 st'=>uf=u2/\D=zd/\3000=zb/\st=st'/\∃k:Nat,zi=(k:Int)/\k<=f.length/\ -1<=yn/\yn<=n-1/\(0<=yn->(BC l:Int)+BV (f.take k)+yn*12001<=(n-1)*12001/\(DA l:Int)+EC (f.take k)+yn<=n-1),
   fun _ zi _ _ _ _ _ _ _ _ _ _ _ _ _ _ _ _=>(f.length-zi).toNat,⟨rfl,rfl,rfl,rfl,0,rfl,Nat.zero_le _,by omega,by omega,fun hz=>by rw[List.take_zero];simp only[BV,EC];omega⟩,?_⟩
  rintro yn _ _ _ _ _ _ _ _ _ _ _ _ _ _ _ _ _ ⟨rfl,rfl,rfl,rfl,k2,rfl,hkl2,y1,y2,y3⟩
  have fin:(k2=f.length∨¬0<=yn)->K yn st:=by
   intro hor
   refine hk _ ?_
   by_cases hy:0<=yn
   ·rcases hor with hor | hor
    ·obtain⟨y4,y5⟩:=y3 hy
     rw[hor,List.take_of_length_le (Nat.le_refl _)]at y4 y5
     exact .inr ⟨hy,by rw[hsz];omega,by rw[hct];omega⟩
    ·exact absurd hy hor
   ·exact .inl (by omega)
  refine Ab h4.isSl (Aa (fun g8=>Aa (fun g9=>?_) fun g9=>fin (.inr g9)) fun g8=>fin (.inl (by rw[h4.lenS]at g8;omega)))
  rw[h4.lenS]at g8
  have hlt:k2<f.length:=by omega
  obtain⟨dd,hdd⟩:∃d,f[k2]? =some d:=⟨_,List.getElem?_eq_getElem hlt⟩
  obtain⟨key,w⟩:=dd
  obtain⟨s',l',f'⟩:=w
  have hky:=keyLd (st:=st) (Dj st) h4 h5 hdd
  refine⟨⟨by omega,by rw[h4.lenZ];omega⟩,Ab (h4.isPtr hlt) (Ac hky (Ak (Aa (fun _=>no) fun g10=>?_)))⟩
  refine WF (Dj _) h4 h5 rfl hlt fun key' s' l' f' ub1 ul1 uf1 gw hw on=>?_
  rw[hdd]at gw
  cases gw
  have hwsz:=H4 hdd
  have e1:=RF hdd
  have e2:=P1 hdd
  have e3:=szd key (.mk s' l' f')
  have e4:=fcnt key (.mk s' l' f')
  obtain⟨y4,y5⟩:=y3 g9
  have g10:¬3000<(key.length:Int):=g10
  rw[Af ((k2:Int)+1) (by omega) (by omega),Af (D-1) (by omega) (by omega)]
  refine ih _ (by omega) hw (by omega) (by omega) (by omega) (by omega) fun r hr=>⟨⟨rfl,rfl,rfl,rfl,k2+1,by omega,by omega,?_,?_,?_⟩,by dsimp only;omega⟩
  ·rcases hr with hr | hr<;>omega
  ·rcases hr with hr | hr
   ·omega
   ·have:=Vl.sz_pos (.mk s' l' f');omega
  ·intro hr0
   rcases hr with hr | hr
   ·omega
   ·rw[e1,e2];omega
theorem Tg:∀(N:Nat) (v:Vl),v.sz<=N->N<=2000000->∀{st:St} {cs:List TV} {K:Int->St->Prop},VlR St.zero v cs->(∀w:Int,(v.cnt:Int)+w=v.sz->K w st)->
  CallT PR Bl [.agg cs] [.one (.int .i64)] st K:=by
 intro N
 induction N with
 | zero=>intro v h;have:=v.sz_pos;omega
 | succ N ih=>
 intro v hN hN2 st cs K h hk
 cases v with
 | mk s l f=>
 have hsz:=szs s l f
 have hct:=vcnt s l f
 have hll:=Cz l
 have hfl:=CD f
 have hc1:=OM l
 have hc2:=ON f
 obtain⟨ub,ul,uf,xl,xf,rfl,h1,h2,h3,h4,h5⟩:=h.cells
 refine Ie _ _ _ _ _ _ _ _ _ _ _ _ _ st K (Ab h1.isSl ?_)
 refine⟨fun zn zi k bo ng dg ex tk td tn tz tx u0 u1 u2 st'=>ul=u1/\uf=u2/\st=st'/\∃k:Nat,zi=(k:Int)/\k<=l.length/\zn+(DA (l.take k):Int)=(s.bytes.length:Int)+s.text.length+s.dg.length+BC (l.take k),
  fun _ zi _ _ _ _ _ _ _ _ _ _ _ _ _ _=>(l.length-zi).toNat,⟨rfl,rfl,rfl,0,rfl,Nat.zero_le _,?_⟩,?_⟩
 ·rw[h1.lenS,Af ((s.text.length:Int)+(s.bytes.length:Nat)) (by omega) (by omega),Af _ (by omega) (by omega),List.take_zero]
  simp only[DA,BC];omega
 rintro zn _ _ _ _ _ _ _ _ _ _ _ _ _ _ _ ⟨rfl,rfl,rfl,k,rfl,hkl,z1⟩
 have b1:=Qr l k
 have b2:BC (l.take k)<=BC l:=by
  conv=>rhs;rw[<-List.take_append_drop k l,Ti]
  omega
 have b3:=OM (l.take k)
 refine Ab h2.isSl (Aa (fun g=>?_) fun g=>?_)
 ·rw[h2.lenS]at g
  refine LR (Dj _) h2 h3 rfl (by omega) fun s' l' f' ub1 ul1 uf1 gw hw on=>?_
  have hwsz:=HJ gw
  have e1:=QW gw
  have e2:=OQ gw
  have e3:=SO (.mk s' l' f')
  rw[Af ((k:Int)+1) (by omega) (by omega)]
  refine ih _ (by omega) (by omega) hw fun r hr=>⟨⟨rfl,rfl,rfl,k+1,by omega,by omega,?_⟩,by dsimp only;omega⟩
  rw[Af _ (by omega) (by omega),e1,e2];omega
 ·have hkk:k=l.length:=by rw[h2.lenS]at g;omega
  rw[hkk,List.take_of_length_le (Nat.le_refl _)]at z1
  refine⟨fun yn zi k bo ng dg ex tk td tn tz tx u0 u1 u2 st'=>uf=u2/\st=st'/\∃k:Nat,zi=(k:Int)/\k<=f.length/\yn+(DA l:Int)+EC (f.take k)=(s.bytes.length:Int)+s.text.length+s.dg.length+BC l+BV (f.take k),
   fun _ zi _ _ _ _ _ _ _ _ _ _ _ _ _ _=>(f.length-zi).toNat,⟨rfl,rfl,0,rfl,Nat.zero_le _,by rw[List.take_zero];simp only[EC,BV];omega⟩,?_⟩
  rintro yn _ _ _ _ _ _ _ _ _ _ _ _ _ _ _ ⟨rfl,rfl,k2,rfl,hkl2,y1⟩
  have b4:EC (f.take k2)<=EC f:=by
   conv=>rhs;rw[<-List.take_append_drop k2 f,RG]
   omega
  have b5:BV (f.take k2)<=BV f:=by
   conv=>rhs;rw[<-List.take_append_drop k2 f,Uw]
   omega
  have b6:=ON (f.take k2)
  refine Ab h4.isSl (Aa (fun g8=>?_) fun g8=>?_)
  case refine_2=>
   have hkk2:k2=f.length:=by rw[h4.lenS]at g8;omega
   rw[hkk2,List.take_of_length_le (Nat.le_refl _)]at y1
   exact hk _ (by rw[hsz,hct];omega)
  rw[h4.lenS]at g8
  have hlt:k2<f.length:=by omega
  obtain⟨dd,hdd⟩:∃d,f[k2]? =some d:=⟨_,List.getElem?_eq_getElem hlt⟩
  obtain⟨key,w⟩:=dd
  obtain⟨s',l',f'⟩:=w
  have hky:∀st,Ad st [] (.t (Ao (ixT 14 uf k2) 0)) 0=some (.str key):=fun st=>keyLd (st:=st) (Dj st) h4 h5 hdd
  refine⟨⟨by omega,by rw[h4.lenZ];omega⟩,Ab (h4.isPtr hlt) (Ac (hky _) (Ak ?_))⟩
  refine WF (Dj _) h4 h5 rfl hlt fun key' s' l' f' ub1 ul1 uf1 gw hw on=>?_
  rw[hdd]at gw
  cases gw
  have hwsz:=H4 hdd
  have e1:=RF hdd
  have e2:=P1 hdd
  have e3:=szd key (.mk s' l' f')
  have e4:=fcnt key (.mk s' l' f')
  have e5:=SO (.mk s' l' f')
  rw[Af ((k2:Int)+1) (by omega) (by omega)]
  refine ih _ (by omega) (by omega) hw fun r hr=>⟨hky _,⟨rfl,rfl,k2+1,by omega,by omega,?_⟩,by dsimp only;omega⟩
  rw[Af (yn+_) (by omega) (by omega),Af _ (by omega) (by omega),e1,e2];omega
theorem Vd {v:Vl} {cs:List TV} {st:St} {K:Bool->St->Prop} (h:VlR St.zero v cs) (hk:∀b:Bool,(b=true->v.sz<=20150/\v.cnt<=150)->K b st):
  CallT PR Dn [.agg cs] [.one .bool] st K:=by
 have h0:=h
 obtain⟨s,l,f⟩:=v
 obtain⟨ub,ul,uf,xl,xf,rfl,_⟩:=h.cells
 refine Jk _ _ _ _ _ _ _ _ _ _ _ _ _ st K (XB _ _ (Nat.le_refl _) h0 (by decide) (by decide) (by decide) (by decide) fun r hr=>Aa (fun g=>?_) fun g=>hk false (fun h=>by cases h))
 rcases hr with hr | ⟨hr0,hr1,hr2⟩
 ·omega
 refine Tg 2000000 _ (by omega) (Nat.le_refl _) h0 fun w hw=>hk _ fun hb=>?_
 rw[decide_eq_true_eq]at hb
 omega
theorem YK {a q:Int} {ty:Bool} {v:Vl} (h:shE a q ty v=0):dOk a q=true/\B6 v=0/\Ba ty v.sc.kind=0:=by
 unfold shE at h
 by_cases h1:dOk a q=false
 ·rw[if_pos h1]at h;cases h
 rw[if_neg h1]at h
 by_cases h2:B6 v=0
 ·rw[if_neg (by omega)]at h
  exact⟨by simpa using h1,h2,h⟩
 ·rw[if_pos h2]at h;omega
def S9 (es:List (B8×TV)) (ks:List B8):Prop:=(∀(i:Nat) t,ks[i]? =some t->BQ t es=some (.int .i64 i))/\∀t,t∉ks->BQ t es=none
theorem S9.nil:S9 [] []:=⟨fun i t h=>by simp at h,fun t _=>rfl⟩
theorem S9.add {es:List (B8×TV)} {ks:List B8} (h:S9 es ks) {t:B8} (hn:t∉ks):S9 (Kc t (.int .i64 ks.length) es) (ks++[t]):=by
 refine⟨fun i u hu=>?_,fun u hu=>?_⟩
 ·rw[IO]
  by_cases hi:i<ks.length
  ·rw[List.getElem?_append_left hi]at hu
   rw[if_neg fun e=>hn (by subst e;exact List.mem_of_getElem? hu)]
   exact h.1 i u hu
  ·rw[List.getElem?_append_right (by omega)]at hu
   obtain⟨h1,h2⟩:=List.getElem?_eq_some_iff.1 hu
   simp only[List.length_singleton]at h1
   have:i=ks.length:=by omega
   subst this
   simp only[Nat.sub_self,List.getElem_cons_zero]at h2
   rw[if_pos h2.symm]
 ·rw[List.mem_append,List.mem_singleton,not_or]at hu
  rw[IO,if_neg hu.2]
  exact h.2 u hu.1
theorem Od {st0 st:St} {s:Sc} {ub ul uf:TV} {xf:List TV} {f:List Fd} (hke:BB st0 st) (h4:SlR st0 14 uf f.length xf) (h5:FsR st0 f xf) (hN:f.length<=2000000) (hnd:(f.map Fd.key).Nodup) {K:TV->St->Prop} (hk:∀st' es,Al st st'->st.nb<st'.nb->st'.box st.nb= .map es->S9 es (f.map Fd.key)->K (.map st.nb) st'):
  CallT PR BS [.agg (A0 s ub ul uf)] [.one .tv] st K:=by
 refine Oo _ _ _ _ _ _ _ _ _ _ _ _ _ st K (Ab h4.isSl ⟨fun i m u n st'=> .map st.nb=m/\uf=u/\(f.length:Int)=n/\∃(k:Nat) (es:List (B8×TV)),i=k/\k<=f.length/\Al st st'/\st.nb<st'.nb/\st'.box st.nb= .map es/\S9 es ((f.take k).map Fd.key),fun i _ _ _ _=>(f.length-i).toNat,
  ⟨rfl,rfl,by rw[h4.lenS],0,[],rfl,Nat.zero_le _,(Al.refl st).push _ _,by simp[St.push],by simp[St.push],S9.nil⟩,?_⟩)
 rintro _ _ _ _ st1 ⟨rfl,rfl,rfl,k,es,rfl,hkf,e1,hb,hm,hI⟩
 refine Aa (fun g=>?_) fun g=>?_
 ·refine Ya (hke.trans e1.keeps) h4 h5 rfl (by omega) fun key s' l' f' ub1 ul1 uf1 gw hw on=>Ab on ⟨es,hm,?_⟩
  rw[Af _ (by omega) (by omega)]
  have hks:(f.take (k+1)).map Fd.key=(f.take k).map Fd.key++[key]:=by
   rw[List.take_add_one,gw,List.map_append];rfl
  have hni:key∉(f.take k).map Fd.key:=by
   have h1:((f.take (k+1)).map Fd.key).Nodup:=by rw[List.map_take];exact hnd.sublist (List.take_sublist _ _)
   rw[hks,List.nodup_append]at h1
   exact fun hm=>h1.2.2 key hm key (List.mem_singleton.2 rfl) rfl
  have hI2:=hI.add hni
  rw[<-hks,List.length_map,List.length_take,Nat.min_eq_left hkf]at hI2
  exact⟨⟨rfl,rfl,rfl,k+1,_,by omega,by omega,StX.ext e1 (StX.put (S:=fun i=>i=st.nb) rfl _) (fun i hi=>by rw[hi];exact Nat.le_refl _),hb,by simp[St.put],hI2⟩,by dsimp only;omega⟩
 ·have:k=f.length:=by omega
  subst this
  rw[List.take_length]at hI
  exact hk st1 es e1 hb hm hI
theorem O1 (x_0:Int) (x_1:Bool) (x_2:Bool) (x_3:B8) (x_4:Int) (x_5:Int) (x_6:Int) (x_7:Int) (x_8:Int) (x_9:B8) (x_10:TV) (x_11:TV) (x_12:TV) (columns:TV) (st:St) (K:TV->St->Prop) (h:BId (x_0=6) (K x_11 st) (need (isSl x_12) (((0<=(lenS x_12:Int)/\(lenS x_12:Int)<=(lenS x_12:Int)/\Int.toNat (lenS x_12:Int)*168<=140737488355328)/\need (isSl x_12) (∃(I1:Int->TV->TV->TV->Int->St->Prop) (M1:Int->TV->TV->TV->Int->St->Nat),(I1 0 columns ((.ms 13 st.nb 0 (Int.toNat (lenS x_12:Int)) (Int.toNat (lenS x_12:Int)))) x_12 ((lenS x_12:Int)) (st.push (.cells (FJ (cV 0 false false [] 0 0 0 0 0 [] .nilSlice .nilSlice .nilSlice) (Int.toNat (lenS x_12:Int)*13))) (some 63)))/\∀b a c d f e,I1 b a c d f e->(BId (b<f) (((0<=b/\b<(lenZ 14 d:Int))/\Ah ((Ai e [] (.t (ixT 14 d b.toNat)) 0 14).map TV.agg) (fun (x1:TV)=>AO [.str,.int .i64,.bool,.bool,.str,.int .i64,.int .i64,.int .i64,.int .i64,.int .i64,.str,.tv,.tv,.tv] x1 (fun (s1:B8) (n1:Int) (b1 b2:Bool) (s2:B8) (n2 n3 n4 n5 n6:Int) (s3:B8) (v1 v2 v3:TV)=>need (List.all [.str s1,.int .i64 n1,.bool b1,.bool b2,.str s2,.int .i64 n2,.int .i64 n3,.int .i64 n4,.int .i64 n5,.int .i64 n6,.str s3,v1,v2,v3] As) (Ah (EI e a) (fun (es1:List (B8×TV))=>Ag (.int .i64) (Gw (.int .i64 0) (BQ s1 es1)) (fun (n7:Int)=>((0<=n7/\n7<(lenZ 13 c:Int))/\need (List.all (cV n1 b1 b2 s2 n2 n3 n4 n5 n6 s3 v1 v2 v3) As) (stB e (ixT 13 c n7.toNat) (cV n1 b1 b2 s2 n2 n3 n4 n5 n6 s3 v1 v2 v3) (fun g=>(I1 ((i64.wrap (b+(1:Int)))) a c d f g/\M1 ((i64.wrap (b+(1:Int)))) a c d f g<M1 b a c d f e))))))))))) (K c e))))))):CallT PR Hv [(.agg (cV x_0 x_1 x_2 x_3 x_4 x_5 x_6 x_7 x_8 x_9 x_10 x_11 x_12)),columns] [.one .tv] st K:=
 Ae (cfg:=⟨[2,7],[16],[]⟩) (h:=(.seq .none (.seq .none (.seq .none (.seq (.seq .none (.block (.loop ⟨[(20,.int .i64),(1,.tv),(5,.tv),(18,.tv),(19,.int .i64)],[],[],[]⟩ .none))) .none))))) mixed (fun _ _=>Tryz.call259 _ _) Tryz.func259 (by kernel_rfl) (by kernel_rfl) h
theorem VY:∀{cks:List (List TV)} {i:Nat} {c:List TV},(∀c,c∈cks->c.length=13)->cks[i]? =some c->∃A B,cks.flatten=A++c++B/\A.length=i*13/\∀d:List TV,(cks.set i d).flatten=A++d++B
 | [],i,c,_,hi=>by simp at hi
 | x::r,0,c,h,hi=>by
  simp only[List.getElem?_cons_zero,Option.some.injEq]at hi
  subst hi
  exact⟨[],r.flatten,by simp,by simp,fun d=>by simp⟩
 | x::r,i+1,c,h,hi=>by
  simp only[List.getElem?_cons_succ]at hi
  obtain⟨A,B,h1,h2,h3⟩:=VY (fun c hc=>h c (.tail _ hc)) hi
  have hx:=h x (.head _)
  exact⟨x++A,B,by simp[h1],by rw[List.length_append,h2,hx];omega,fun d=>by simp[h3]⟩
theorem IN:∀{cks:List (List TV)},(∀c,c∈cks->c.length=13)->cks.flatten.length=cks.length*13
 | [],_=>rfl
 | x::r,h=>by
  rw[List.flatten_cons,List.length_append,IN fun c hc=>h c (.tail _ hc),h x (.head _),List.length_cons];omega
theorem zrep13 {z:List TV} (hz:z.length=13) (n:Nat):FJ z (n*13)=(List.replicate n z).flatten:=by
 refine List.ext_getElem? fun i=>?_
 unfold FJ
 rw[List.getElem?_map]
 have hlen:=IN (cks:=List.replicate n z) (fun c hc=>by rw[(List.mem_replicate.1 hc).2];exact hz)
 rw[List.length_replicate]at hlen
 by_cases hi:i<n*13
 ·rw[List.getElem?_range hi]
  have hr:(List.replicate n z)[i/13]? =some z:=by rw[List.getElem?_replicate,if_pos (by omega)]
  obtain⟨A,B,h1,h2,_⟩:=VY (fun c hc=>by rw[(List.mem_replicate.1 hc).2];exact hz) hr
  have hm:i%13<z.length:=by rw[hz];omega
  rw[h1,List.append_assoc,List.getElem?_append_right (by omega),show i-A.length=i%13 by omega,List.getElem?_append_left hm,List.getElem?_eq_getElem hm]
  simp[List.getD,hz,hm,List.getElem?_eq_getElem hm]
 ·rw[List.getElem?_eq_none (by rw[List.length_range];omega),List.getElem?_eq_none (by rw[hlen];omega)];rfl
theorem vs_of {st:St}:∀{vs:List Vl} {cks:List (List TV)},vs.length=cks.length->(∀(i:Nat) (v:Vl),vs[i]? =some v->∃c,cks[i]? =some c/\VlR st v c)->VsR st vs cks.flatten
 | [],[],_,_=>VsR.nil _
 | v::vs,c::cks,hl,h=>by
  obtain⟨c',h1,h2⟩:=h 0 v rfl
  simp only[List.getElem?_cons_zero,Option.some.injEq]at h1
  subst h1
  rw[List.flatten_cons]
  exact VsR.cons h2 (vs_of (by simpa using hl) fun i v hv=>h (i+1) v hv)
 | [],_::_,hl,_=>by simp at hl
 | _::_,[],hl,_=>by simp at hl
theorem XS {st st':St} {b:Nat} {es:List (B8×TV)} (e:Al st st') (hb:b<st.nb) (h:st.box b= .map es):EI st' (.map b)=some es:=by
 have:st'.box b= .map es:=(e.box b hb).trans h
 simp only[EI,this]
theorem back_key {f:List Fd} {ks:List B8} (hfn:DQ f) (hkn:ks.Nodup) (hl:f.length=ks.length) (hsub:∀d,d∈f->d.key∈ks) {t:B8} (ht:t∈ks):∃d,d∈f/\d.key=t:=by
 have hp:ks.Perm (f.map Fd.key):=by
  refine(Mv _ _ hfn (by rw[List.length_map];omega) fun t ht=>?_).symm
  obtain⟨d,hd,rfl⟩:=List.mem_map.1 ht
  exact hsub d hd
 obtain⟨d,hd,h⟩:=List.mem_map.1 (hp.subset ht)
 exact⟨d,hd,h⟩
theorem SlR.box13 {st:St} {b n:Nat} {xs:List TV} (hb:b<st.nb) (h:st.box b= .cells xs) (hl:xs.length=n*13):SlR st 13 (.ms 13 b 0 n n) n xs:=
 .inr ⟨b,0,n,xs,rfl,hb,h,by omega,Nat.le_refl _,by rw[List.drop_zero,List.take_of_length_le (by omega)]⟩
def ClR (m:Nat) (st:St) (u:TV) (n:Nat) (xs:List TV):Prop:=Rd 13 u n xs∨∃b,u= .ms 13 b 0 n n/\m<=b/\b<st.nb/\st.box b= .cells xs/\xs.length=n*13
theorem ClR.sl {m:Nat} {st:St} {u:TV} {n:Nat} {xs:List TV} (h:ClR m st u n xs):SlR st 13 u n xs:=by
 rcases h with h | ⟨b,rfl,_,h1,h2,h3⟩
 ·exact .inl h
 ·exact SlR.box13 h1 h2 h3
theorem ClR.but {m b:Nat} {st st':St} {u:TV} {n:Nat} {xs:List TV} (h:ClR m st u n xs) (hb:b<m) (k:But b st st'):ClR m st' u n xs:=by
 rcases h with h | ⟨c,rfl,h0,h1,h2,h3⟩
 ·exact .inl h
 ·exact .inr ⟨c,rfl,h0,Nat.lt_of_lt_of_le h1 k.1,by rw[k.2 c (by omega) h1];exact h2,h3⟩
theorem XY {st:St} {s:Sc} {l:List Vl} {f:List Fd} {ub ul uf:TV} {mb:Nat} {xl xf:List TV} {es:List (B8×TV)} {ks:List B8} (hke:BB St.zero st) (h2:SlR St.zero 13 ul l.length xl) (h3:VsR St.zero l xl) (h4:SlR St.zero 14 uf f.length xf) (h5:FsR St.zero f xf) (hN:f.length<=2000000)
  (hmb:mb<st.nb) (hm:st.box mb= .map es) (hI:S9 es ks) (hkn:ks.Nodup) (hfn:DQ f) (hlen:s.kind≠6->f.length=ks.length/\∀d,d∈f->d.key∈ks)
  {K:TV->St->Prop} (hk:∀st' u xs,Al st st'->ClR st.nb st' u (if s.kind=6 then l else ks.map fun k=>(Bh f k).1).length xs->VsR St.zero (if s.kind=6 then l else ks.map fun k=>(Bh f k).1) xs->K u st'):
  CallT PR Hv [.agg (A0 s ub ul uf),.map mb] [.one .tv] st K:=by
 refine O1 _ _ _ _ _ _ _ _ _ _ _ _ _ (.map mb) st K (Aa (fun g=>?_) fun g=>?_)
 ·rw[if_pos g]at hk
  exact hk st ul xl (Al.refl st) (.inl h2.zero) h3
 rw[if_neg g]at hk
 obtain⟨hl1,hsub⟩:=hlen g
 refine Ab h4.isSl ⟨by rw[h4.lenS];exact⟨by omega,by omega,by omega⟩,Ab h4.isSl ?_⟩
 rw[h4.lenS,Int.toNat_natCast,zrep13 rfl]
 generalize hz:(cV 0 false false [] 0 0 0 0 0 [] TV.nilSlice TV.nilSlice TV.nilSlice)=z
 have hz13:z.length=13:=by rw[<-hz];rfl
 refine⟨fun i c u v n st'=> .map mb=c/\.ms 13 st.nb 0 f.length f.length=u/\uf=v/\(f.length:Int)=n/\∃(k:Nat) (cks:List (List TV)),i=k/\k<=f.length/\Al st st'/\st.nb<st'.nb/\st'.box st.nb= .cells cks.flatten/\cks.length=f.length/\(∀c,c∈cks->c.length=13)/\
   ∀(j:Nat) (d:Fd) (i':Nat),j<k->f[j]? =some d->ks[i']? =some d.key->∃c,cks[i']? =some c/\VlR St.zero d.val c,fun i _ _ _ _ _=>(f.length-i).toNat,
  ⟨rfl,rfl,rfl,rfl,0,List.replicate f.length z,rfl,Nat.zero_le _,(Al.refl st).push _ _,by simp[St.push],by simp[St.push],List.length_replicate,fun c hc=>by rw[(List.mem_replicate.1 hc).2];exact hz13,fun j d i' hj=>by omega⟩,?_⟩
 rintro _ _ _ _ _ st1 ⟨rfl,rfl,rfl,rfl,k,cks,rfl,hkf,e1,hb,hbx,hcl,hc13,hin⟩
 refine Aa (fun g=>?_) fun g=>?_
 ·refine Ya (hke.trans e1.keeps) h4 h5 rfl (by omega) fun key s' l' f' ub1 ul1 uf1 gw hw on=>Ab on ?_
  have hmem:=AP gw
  obtain⟨p,hp⟩:=List.getElem?_of_mem (hsub _ hmem)
  replace hp:ks[p]? =some key:=hp
  have hplt:p<ks.length:=(List.getElem?_eq_some_iff.1 hp).1
  refine Ac (XS e1 hmb hm) ?_
  rw[hI.1 p key hp]
  refine AB ⟨⟨by omega,by show(p:Int)<((f.length:Nat):Int);omega⟩,Ab (by have:=on;rw[List.all_cons,Bool.and_eq_true]at this;exact this.2) ?_⟩
  obtain⟨c,hc⟩:∃c,cks[p]? =some c:=⟨_,List.getElem?_eq_getElem (by omega)⟩
  obtain⟨A,B,hA,hAl,hset⟩:=VY hc13 hc
  have hcc:=hc13 c (List.mem_of_getElem? hc)
  refine YI (b:=st.nb) (off:=0+p*13) hbx ?_ fun st2 e2 b2=>?_
  ·rw[IN hc13,hcl];show 0+p*13+13<=_;omega
  rw[Nat.zero_add,<-hAl,hA,LD _ A c B (by rw[hcc];rfl),<-hset]at b2
  rw[Af _ (by omega) (by omega)]
  refine⟨⟨rfl,rfl,rfl,rfl,k+1,_,by omega,by omega,StX.ext e1 e2 (fun i hi=>by rw[hi];exact Nat.le_refl _),Nat.lt_of_lt_of_le hb e2.nb,b2,by rw[List.length_set];exact hcl,fun x hx=>?_,fun j d i' hj hd hi'=>?_⟩,by dsimp only;omega⟩
  ·rcases List.mem_or_eq_of_mem_set hx with hx | rfl
   ·exact hc13 x hx
   ·rfl
  ·by_cases hjk:j=k
   ·subst hjk
    rw[gw]at hd
    cases hd
    have:i'=p:=by
     have h1:=(List.getElem?_eq_some_iff.1 hi').1
     exact(List.getElem?_inj h1 hkn).1 (hi'.trans hp.symm)
    subst this
    exact⟨A0 s' ub1 ul1 uf1,by rw[List.getElem?_set_self (by omega)];rfl,hw⟩
   ·obtain⟨c2,h6,h7⟩:=hin j d i' (by omega) hd hi'
    refine⟨c2,?_,h7⟩
    rw[List.getElem?_set_ne (fun e=>?_)]
    ·exact h6
    ·subst e
     have:d.key=key:=Option.some.inj (hi'.symm.trans hp)
     have hidx:(f.map Fd.key)[j]? =(f.map Fd.key)[k]? :=by rw[List.getElem?_map,List.getElem?_map,hd,gw];simp only[Option.map_some,Option.some.injEq];exact this
     exact hjk ((List.getElem?_inj (by rw[List.length_map];exact(List.getElem?_eq_some_iff.1 hd).1) hfn).1 hidx)
 ·have:k=f.length:=by omega
  subst this
  refine hk st1 _ cks.flatten e1 ?_ ?_
  ·rw[List.length_map,<-hl1]
   exact .inr ⟨st.nb,rfl,Nat.le_refl _,hb,hbx,by rw[IN hc13,hcl]⟩
  ·refine vs_of (by rw[List.length_map];omega) fun i v hv=>?_
   rw[List.getElem?_map,Option.map_eq_some_iff]at hv
   obtain⟨t,ht,rfl⟩:=hv
   obtain⟨d,hd,rfl⟩:=back_key hfn hkn hl1 hsub (List.mem_of_getElem? ht)
   rw[NK hfn hd]
   obtain⟨j,hj⟩:=List.getElem?_of_mem hd
   obtain⟨c,h6,h7⟩:=hin j d i (List.getElem?_eq_some_iff.1 hj).1 hj ht
   exact⟨c,h6,h7⟩
def ShX (hd:Bool) (first x:Vl):Prop:=(hd=false->x.sc.kind=6/\x.list≠ []/\x.list.length=first.list.length)/\(hd=true->x.sc.kind=7/\x.flds≠ []/\x.flds.length=first.flds.length/\∀f,f∈x.flds->f.key∈first.flds.map Fd.key)
theorem Ng {hd:Bool} {v:Vl}:FH hd v↔v.sc.kind=6/\∀x,x∈v.list->ShX hd (v.list.headD vlZ) x:=
 ⟨fun h=>⟨h.kind,fun x hx=>⟨fun e=>h.lst e x hx,fun e=>h.map e x hx⟩⟩,fun h=>⟨h.1,fun e x hx=>(h.2 x hx).1 e,fun e x hx=>(h.2 x hx).2 e⟩⟩
def SmV (s:Sc) (ub ul uf:TV) (a q:Int) (hd ty:Bool) (n1:Int) (b1 b2:Bool) (s1:B8) (n2 n3 n4 n5 n6:Int) (s2:B8) (v1 v2 v3:TV) (n7 n8:Int) (b3 b4:Bool):Prop:=
 s.kind=n1/\s.b=b1/\s.neg=b2/\s.dg=s1/\s.ex=n2/\s.tk=n3/\s.td=n4/\s.tn=n5/\s.tz=n6/\s.text=s2/\ub=v1/\ul=v2/\uf=v3/\a=n7/\q=n8/\hd=b3/\ty=b4
theorem SmV.refl (s:Sc) (ub ul uf:TV) (a q:Int) (hd ty:Bool):SmV s ub ul uf a q hd ty s.kind s.b s.neg s.dg s.ex s.tk s.td s.tn s.tz s.text ub ul uf a q hd ty:=⟨rfl,rfl,rfl,rfl,rfl,rfl,rfl,rfl,rfl,rfl,rfl,rfl,rfl,rfl,rfl,rfl,rfl⟩
theorem Zp {α:Type} {l:List α} (h:(l.length:Int)≠0):l≠ []:=fun e=>h (by rw[e];rfl)
theorem Gq {v:Vl} (h:Br v):DQ v.flds:=by
 by_cases h7:v.sc.kind=7
 ·exact(En h h7).2.2.1
 ·obtain⟨s,l,f⟩:=v
  have hf:f=[]:=h.own.1.own.fs h7
  subst hf
  exact List.nodup_nil
theorem VU {v:Vl} {cs:List TV} {a q:Int} {hd ty:Bool} {st:St} {K:Bool->St->Prop} (hV:Br v) (hN:v.sz<=2000000) (h:VlR St.zero v cs) (hk1:FH hd v->∀st',Al st st'->K true st') (hk2:¬FH hd v->∀st',Al st st'->K false st'):
  CallT PR GF [.agg cs,.agg [.int .u8 a,.int .u8 q,.bool hd,.bool ty]] [.one .bool] st K:=by
 obtain⟨s,l,f⟩:=v
 obtain⟨ub,ul,uf,xl,xf,rfl,_,h2,h3,h4,h5⟩:=h.cells
 have hsz:=szs s l f
 have hll:=Cz l
 refine O0 _ _ _ _ _ _ _ _ _ _ _ _ _ a q hd ty st K (Aa (fun g=>hk2 (fun hs=>g hs.kind) _ (Al.refl _)) fun g=>?_)
 have hk6:s.kind=6:=by omega
 obtain⟨_,hval⟩:=CL hV hk6
 replace hval:∀x,x∈l->Br x:=hval
 have iff:FH hd (.mk s l f)↔s.kind=6/\∀x,x∈l->ShX hd (l.headD vlZ) x:=Ng
 refine Ab h2.isSl ⟨fun i u n n1 b1 b2 s1 n2 n3 n4 n5 n6 s2 v1 v2 v3 n7 n8 b3 b4 st'=>ul=u/\(l.length:Int)=n/\SmV s ub ul uf a q hd ty n1 b1 b2 s1 n2 n3 n4 n5 n6 s2 v1 v2 v3 n7 n8 b3 b4/\∃k:Nat,i=k/\k<=l.length/\Al st st'/\∀(j:Nat) x,j<k->l[j]? =some x->ShX hd (l.headD vlZ) x,fun i _ _ _ _ _ _ _ _ _ _ _ _ _ _ _ _ _ _ _ _=>(l.length-i).toNat,
  ⟨rfl,by rw[h2.lenS],SmV.refl ..,0,rfl,Nat.zero_le _,Al.refl _,fun j x hj=>by omega⟩,?_⟩
 rintro _ _ _ _ _ _ _ _ _ _ _ _ _ _ _ _ _ _ _ _ st1 ⟨rfl,rfl,⟨rfl,rfl,rfl,rfl,rfl,rfl,rfl,rfl,rfl,rfl,rfl,rfl,rfl,rfl,rfl,rfl,rfl⟩,k,rfl,hkl,e1,hall⟩
 refine Aa (fun g1=>?_) fun g1=>?_
 ·have hk0:BB St.zero st1:=Dj _
  refine LR hk0 h2 h3 rfl (by omega) fun s' l' f' ub1 ul1 uf1 gx hx on=>Ab on ?_
  refine LR (i:=0) (k:=0) hk0 h2 h3 rfl (by omega) fun s0 l0 f0 ub0 ul0 uf0 g0 hx0 on0=>?_
  have hfirst:l.headD vlZ= .mk s0 l0 f0:=by
   cases l with
   | nil=>cases g0
   | cons y r=>simp only[List.getElem?_cons_zero,Option.some.injEq]at g0;exact g0
  rw[hfirst]at hall iff
  have bad:¬ShX hd (.mk s0 l0 f0) (.mk s' l' f')->∀st',Al st st'->K false st':=fun hn=>hk2 fun hs=>hn ((iff.1 hs).2 _ (AP gx))
  have next:ShX hd (.mk s0 l0 f0) (.mk s' l' f')->∀(j:Nat) x,j<k+1->l[j]? =some x->ShX hd (.mk s0 l0 f0) x:=fun hy j x hj hjx=>by
   by_cases hjk:j=k
   ·subst hjk;rw[gx]at hjx;cases hjx;exact hy
   ·exact hall j x (by omega) hjx
  obtain⟨_,_,_,_,_,hc1,_,q2,q3,q4,q5⟩:=hx.cells
  obtain⟨_,_,_,_,_,hc0,_,p2,p3,p4,p5⟩:=hx0.cells
  cases hc1
  cases hc0
  refine Ab on0 (Aj (fun gh=>?_) fun gh=>?_)
  ·have hh:hd=false:=by simpa using gh
   subst hh
   refine Aa (fun g2=>bad (fun hs=>g2 (hs.1 rfl).1) _ e1) fun g2=>Ab q2.isSl ?_
   rw[q2.lenS]
   refine Aa (fun g3=>bad (fun hs=>(hs.1 rfl).2.1 (NA.1 g3)) _ e1) fun g3=>Ab q2.isSl (Ab p2.isSl ?_)
   rw[p2.lenS]
   refine Aa (fun g4=>bad (fun hs=>g4 (by rw[show l'.length=l0.length from(hs.1 rfl).2.2])) _ e1) fun g4=>?_
   rw[Af _ (by omega) (by omega)]
   exact⟨⟨rfl,rfl,SmV.refl ..,k+1,by omega,by omega,e1,fun j x hj hjx=>by
    rw[hfirst]
    exact next ⟨fun _=>⟨by show s'.kind=6;omega,Zp g3,by show l'.length=l0.length;omega⟩,fun h=>by cases h⟩ j x hj hjx⟩,by dsimp only;omega⟩
  ·have hh:hd=true:=by simpa using gh
   subst hh
   refine Aj (fun _=>?_) fun g=>by cases g
   refine Aa (fun g2=>bad (fun hs=>g2 (hs.2 rfl).1) _ e1) fun g2=>Ab q4.isSl ?_
   rw[q4.lenS]
   refine Aa (fun g3=>bad (fun hs=>(hs.2 rfl).2.1 (NA.1 g3)) _ e1) fun g3=>Ab q4.isSl (Ab p4.isSl ?_)
   rw[p4.lenS]
   refine Aa (fun g4=>bad (fun hs=>g4 (by rw[show f'.length=f0.length from(hs.2 rfl).2.2.1])) _ e1) fun g4=>Aj (fun _=>?_) fun g=>by cases g
   have hnd:DQ f0:=Gq (hval _ (AP g0))
   have hsz0:=CZ (AP g0)
   have hsz1:=CZ (AP gx)
   have hs0:=szs s0 l0 f0
   have hs1:=szs s' l' f'
   have hf0:=CD f0
   have hf1:=CD f'
   refine Od hk0 p4 p5 (by omega) hnd fun st2 es e2 hb2 hm2 hI=>Ab q4.isSl ⟨fun i c u n n' u' m n1 b1 b2 s1 n2 n3 n4 n5 n6 s2 v1 v2 v3 n7 n8 b3 b4 st'=> .map st1.nb=c/\ul=u/\(l.length:Int)=n/\(k:Int)=n'/\uf1=u'/\(f'.length:Int)=m/\SmV s ub ul uf a q true ty n1 b1 b2 s1 n2 n3 n4 n5 n6 s2 v1 v2 v3 n7 n8 b3 b4/\st2=st'/\∃p:Nat,i=p/\p<=f'.length/\∀(j:Nat) d,j<p->f'[j]? =some d->d.key∈f0.map Fd.key,
    fun i _ _ _ _ _ _ _ _ _ _ _ _ _ _ _ _ _ _ _ _ _ _ _ _=>(f'.length-i).toNat,⟨rfl,rfl,rfl,rfl,rfl,by first | rfl | rw[q4.lenS],SmV.refl ..,rfl,0,rfl,Nat.zero_le _,fun j d hj=>by omega⟩,?_⟩
   rintro _ _ _ _ _ _ _ _ _ _ _ _ _ _ _ _ _ _ _ _ _ _ _ _ _ ⟨rfl,rfl,rfl,rfl,rfl,rfl,⟨rfl,rfl,rfl,rfl,rfl,rfl,rfl,rfl,rfl,rfl,rfl,rfl,rfl,rfl,rfl,rfl,rfl⟩,rfl,p,rfl,hpf,hin⟩
   refine Aa (fun g5=>?_) fun g5=>?_
   ·refine Ya (Dj _) q4 q5 rfl (by omega) fun key sx lx fx ubx ulx ufx gw hw onx=>Ab onx (Ac (x:=es) (by simp only[EI,hm2]) ?_)
    by_cases hkey:key∈f0.map Fd.key
    ·obtain⟨r,hr⟩:=List.getElem?_of_mem hkey
     rw[hI.1 r key hr]
     refine AB (Aj (fun h=>by cases h) fun _=>?_)
     rw[Af _ (by omega) (by omega)]
     exact⟨⟨rfl,rfl,rfl,rfl,rfl,rfl,SmV.refl ..,rfl,p+1,by omega,by omega,fun j d hj hd=>by
      by_cases hjp:j=p
      ·subst hjp;rw[gw]at hd;cases hd;exact hkey
      ·exact hin j d (by omega) hd⟩,by dsimp only;omega⟩
    ·rw[hI.2 key hkey]
     exact AB (Aj (fun _=>bad (fun hs=>hkey ((hs.2 rfl).2.2.2 _ (AP gw))) _ (e1.trans e2)) fun h=>by cases h)
   ·have:p=f'.length:=by omega
    subst this
    rw[Af _ (by omega) (by omega)]
    exact⟨⟨rfl,rfl,SmV.refl ..,k+1,by omega,by omega,e1.trans e2,fun j x hj hjx=>by
     rw[hfirst]
     refine next ⟨fun h=>(by cases h),fun _=>⟨by show s'.kind=7;omega,Zp g3,by show f'.length=f0.length;omega,fun d hd=>?_⟩⟩ j x hj hjx
     obtain⟨j2,hj2⟩:=List.getElem?_of_mem (show d∈f' from hd)
     exact hin j2 d (List.getElem?_eq_some_iff.1 hj2).1 hj2⟩,by dsimp only;omega⟩
 ·have:k=l.length:=by omega
  subst this
  exact hk1 (iff.2 ⟨hk6,fun x hx=>by
   obtain⟨j,hj⟩:=List.getElem?_of_mem hx
   exact hall j x (List.getElem?_eq_some_iff.1 hj).1 hj⟩) _ e1
def FA (a:Int):List B8->B8
 | []=>[]
 | [c]=>c
 | c::r=>c++UInt8.ofNat a.toNat::FA a r
theorem LM (a:Int):∀cs:List B8,Bu a cs=FA a cs++[10]
 | []=>rfl
 | [c]=>rfl
 | c::d::r=>by
  rw[Bu,FA,LM a (d::r)]
  ·simp
  ·simp
  ·simp
theorem PW (a:Int) (c:B8):∀cs:List B8,FA a (cs++[c])=if cs=[]then c else FA a cs++UInt8.ofNat a.toNat::c
 | []=>rfl
 | [d]=>rfl
 | d::e::r=>by
  have ih:=PW a c (e::r)
  rw[if_neg (by simp)]at ih⊢
  show d++UInt8.ofNat a.toNat::FA a ((e::r)++[c])=(d++UInt8.ofNat a.toNat::FA a (e::r))++_
  rw[ih];simp
theorem PV {a:Int} {cs:List B8} {k:Nat} {c:B8} (h:cs[k]? =some c):FA a (cs.take (k+1))=(if k=0 then []else FA a (cs.take k)++[UInt8.ofNat a.toNat])++c:=by
 have hk:=(List.getElem?_eq_some_iff.1 h).1
 rw[List.take_add_one,h,Option.toList_some,PW]
 by_cases h0:k=0
 ·subst h0;simp
 ·rw[if_neg h0,if_neg (fun e=>?_)]
  ·simp
  ·have:=congrArg List.length e
   rw[List.length_take,List.length_nil]at this;omega
theorem Pg {a:Int} {l:List (List B8)} {k:Nat} {r:List B8} (h:l[k]? =some r):AT a (l.take (k+1))=AT a (l.take k)++Bu a r:=by
 unfold AT
 rw[List.take_add_one,h,Option.toList_some,List.flatMap_append];simp
theorem Ur {v:Vl} {x:Vl} (hx:x∈v.list):v.list.headD vlZ∈v.list:=by
 cases hl:v.list with
 | nil=>rw[hl]at hx;cases hx
 | cons a r=>exact .head _
theorem Ql {v:Vl} (hv:Br v) (hs:FH true v) {x:Vl} (hx:x∈v.list):((v.list.headD vlZ).flds.map fun d=>Fd.mk d.key (Bh x.flds d.key).1).Perm x.flds:=by
 have hval:=(CL hv hs.kind).2
 obtain⟨h1,h2,h3,h4⟩:=hs.map rfl x hx
 obtain⟨_,q2,q3,_⟩:=En (hval x hx) h1
 have hk0:=(hs.map rfl _ (Ur hx)).1
 obtain⟨_,_,g3,_⟩:=En (hval _ (Ur hx)) hk0
 exact reorder q3 g3 h3 h4
theorem IU {hd:Bool} {v:Vl} (hv:Br v) (hs:FH hd v) {x:Vl} (hx:x∈v.list):∀y,y∈A1 hd (v.list.headD vlZ) x->Br y:=by
 intro y hy
 have hvx:=(CL hv hs.kind).2 x hx
 unfold A1 at hy
 cases hd with
 | false=>
  rw[if_neg (by decide)]at hy
  exact(CL hvx (hs.lst rfl x hx).1).2 y hy
 | true=>
  rw[if_pos rfl]at hy
  obtain⟨f,hf,rfl⟩:=List.mem_map.1 hy
  have hm:Fd.mk f.key (Bh x.flds f.key).1∈x.flds:=(Ql hv hs hx).subset (List.mem_map.2 ⟨f,hf,rfl⟩)
  exact(En hvx (hs.map rfl x hx).1).2.1 _ hm
theorem QV:∀f:List Fd,BC (f.map Fd.val)<=BV f
 | []=>Nat.zero_le _
 | .mk k v::r=>by
  have ih:=QV r
  rw[List.map_cons,BC,BV,szd]
  show v.sz+_<=_
  omega
theorem NQ {hd:Bool} {v:Vl} (hv:Br v) (hs:FH hd v) {x:Vl} (hx:x∈v.list):BC (A1 hd (v.list.headD vlZ) x)<=x.sz:=by
 unfold A1
 cases hd with
 | false=>
  rw[if_neg (by decide)]
  obtain⟨s,l,f⟩:=x
  have:=szs s l f
  show BC l<=_
  omega
 | true=>
  rw[if_pos rfl]
  have h1:=X2 (Ql hv hs hx)
  have h2:=QV ((v.list.headD vlZ).flds.map fun d=>Fd.mk d.key (Bh x.flds d.key).1)
  rw[List.map_map]at h2
  have h3:(Fd.val∘fun d:Fd=>Fd.mk d.key (Bh x.flds d.key).1)=fun f=>(Bh x.flds f.key).1:=rfl
  rw[h3]at h2
  obtain⟨s,l,f⟩:=x
  have:=szs s l f
  have h1:_=BV f:=h1
  omega
theorem Q6 {a q:Int} {ty:Bool} {y:Vl} (h:Br y):(Cj a q ty y.sc).length<=2*y.sc.text.length+202:=by
 unfold Cj
 by_cases h4:y.sc.kind=4
 ·rw[if_pos h4]
  have h1:=Kl a q y.sc.text
  have h2:=IS (UInt8.ofNat q.toNat) y.sc.text
  split
  ·unfold Mu
   simp only[List.length_cons,List.length_append,List.length_nil];omega
  ·omega
 ·rw[if_neg h4]
  by_cases h6:y.sc.kind<=3
  ·have:=(plT_ok (O8 h (by omega)).2).2;omega
  ·unfold plT
   rw[if_neg (by omega),if_neg (by omega),if_neg (by omega)]
   exact Nat.zero_le _
theorem Tu {a q:Int} {ty:Bool}:∀(ys:List Vl),(∀y,y∈ys->Br y)->Cm (ys.map fun y=>Cj a q ty y.sc)<=204*BC ys
 | [],_=>Nat.zero_le _
 | y::r,h=>by
  have ih:=Tu (a:=a) (q:=q) (ty:=ty) r fun y hy=>h y (.tail _ hy)
  have h1:=Q6 (a:=a) (q:=q) (ty:=ty) (h y (.head _))
  obtain⟨s,l,f⟩:=y
  have h2:=szs s l f
  have h1:(Cj a q ty s).length<=2*s.text.length+202:=h1
  rw[List.map_cons,Cm,BC]
  show(Cj a q ty s).length+_<=_
  omega
theorem J7:∀(cs:List B8) (k:Nat),Cm (cs.take k)<=Cm cs
 | [],k=>by simp[Cm]
 | c::r,0=>by simp[Cm]
 | c::r,k+1=>by
  have:=J7 r k
  rw[List.take_succ_cons,Cm,Cm];omega
theorem NF (a:Int):∀cs:List B8,(FA a cs).length<=Cm cs+cs.length
 | []=>Nat.zero_le _
 | [c]=>by simp[FA,Cm]
 | c::d::r=>by
  have:=NF a (d::r)
  rw[FA]
  ·simp only[List.length_append,List.length_cons,Cm]at this⊢;omega
  ·simp
theorem Iq (a:Int) (l m:List (List B8)):AT a (l++m)=AT a l++AT a m:=by
 unfold AT;rw[List.flatMap_append]
theorem Md (a:Int) (l:List (List B8)) (k:Nat):(AT a (l.take k)).length<=(AT a l).length:=by
 have:AT a l=AT a (l.take k)++AT a (l.drop k):=by rw[<-Iq,List.take_append_drop]
 rw[this,List.length_append];omega
theorem N7 (a q:Int):∀cs:List B8,Ru a q cs=Bu a (cs.map (Bb a q))
 | []=>rfl
 | [c]=>rfl
 | c::d::r=>by
  have ih:=N7 a q (d::r)
  show Bb a q c++UInt8.ofNat a.toNat::Ru a q (d::r)=Bb a q c++UInt8.ofNat a.toNat::Bu a ((d::r).map (Bb a q))
  rw[ih]
noncomputable def HT (a q:Int) (hd ty:Bool) (first x:Vl):List B8:=(A1 hd first x).map fun y=>Cj a q ty y.sc
noncomputable def FX (a q:Int) (hd ty:Bool) (v:Vl):List (List B8):=v.list.map (HT a q hd ty (v.list.headD vlZ))
def Kr (a q:Int) (hd:Bool) (v:Vl):List (List B8):=if hd=true/\v.list≠ []then [(v.list.headD vlZ).flds.map fun d=>Bb a q d.key]else []
theorem Yu (a q:Int) (hd ty:Bool) (v:Vl):wrX a q hd ty v=Kr a q hd v++FX a q hd ty v:=by
 unfold Kr FX HT
 cases h:v.list with
 | nil=>rw[WC h];simp
 | cons f r=>
  rw[Yv h]
  cases hd with
  | true=>rw[if_pos rfl,if_pos ⟨rfl,by simp⟩];rfl
  | false=>rw[if_neg (by decide),if_neg (fun h=>by cases h.1)];rfl
theorem Pq {a q:Int} {hd ty:Bool} {v:Vl} (hv:Br v) (hs:FH hd v) {x:Vl} (hx:x∈v.list):Cm (HT a q hd ty (v.list.headD vlZ) x)<=204*x.sz/\(HT a q hd ty (v.list.headD vlZ) x).length<=x.sz:=by
 have h1:=NQ hv hs hx
 have h2:=Tu (a:=a) (q:=q) (ty:=ty) _ (IU hv hs hx)
 have h3:=Cz (A1 hd (v.list.headD vlZ) x)
 unfold HT
 rw[List.length_map]
 exact⟨by omega,by omega⟩
theorem Tv {a q:Int} {hd ty:Bool} {first:Vl}:∀(l:List Vl),(∀x,x∈l->Cm (HT a q hd ty first x)<=204*x.sz/\(HT a q hd ty first x).length<=x.sz)->Nc (l.map (HT a q hd ty first))<=204*BC l/\HE (l.map (HT a q hd ty first))<=BC l
 | [],_=>⟨Nat.zero_le _,Nat.zero_le _⟩
 | x::r,h=>by
  obtain⟨i1,i2⟩:=Tv r fun x hx=>h x (.tail _ hx)
  obtain⟨h1,h2⟩:=h x (.head _)
  rw[List.map_cons,Nc,HE,BC]
  exact⟨by omega,by omega⟩
theorem Q9 {a q:Int} {hd ty:Bool} {v:Vl} (hv:Br v) (hs:FH hd v):(AT a (FX a q hd ty v)).length<=206*BC v.list/\(FX a q hd ty v).length+HE (FX a q hd ty v)<=2*BC v.list:=by
 obtain⟨h1,h2⟩:=Tv (a:=a) (q:=q) (hd:=hd) (ty:=ty) (first:=v.list.headD vlZ) v.list fun x hx=>Pq hv hs hx
 have h3:=M8 a (FX a q hd ty v)
 have h4:=Cz v.list
 unfold FX at h3⊢
 rw[List.length_map]at h3⊢
 exact⟨by omega,by omega⟩
theorem Kq:∀f:List Fd,Cm (f.map Fd.key)<=BV f/\f.length<=BV f
 | []=>⟨Nat.zero_le _,Nat.zero_le _⟩
 | .mk k v::r=>by
  obtain⟨h1,h2⟩:=Kq r
  have h3:=v.sz_pos
  rw[List.map_cons,Cm,BV,szd,List.length_cons]
  show k.length+_<=_/\_
  exact⟨by omega,by omega⟩
theorem Px (a q:Int):∀f:List Fd,Cm (f.map fun d=>Bb a q d.key)<=2*Cm (f.map Fd.key)+2*f.length
 | []=>Nat.zero_le _
 | d::r=>by
  have ih:=Px a q r
  have:=Kl a q d.key
  simp only[List.map_cons,Cm,List.length_cons];omega
theorem Rz {a q:Int} {hd:Bool} {v:Vl}:(AT a (Kr a q hd v)).length<=6*v.sz/\(Kr a q hd v).length+HE (Kr a q hd v)<=1+v.sz:=by
 unfold Kr
 split
 ·rename_i h
  obtain⟨s,l,f⟩:=v
  have h2:=h.2
  replace h2:l≠ []:=h2
  cases l with
  | nil=>exact absurd rfl h2
  | cons x r=>
   obtain⟨s',l',f'⟩:=x
   show(AT a [f'.map fun d=>Bb a q d.key]).length<=_/\1+HE [f'.map fun d=>Bb a q d.key]<=_
   have h3:=M8 a [f'.map fun d=>Bb a q d.key]
   have h4:=Px a q f'
   have h5:=Kq f'
   have h6:=szs s (.mk s' l' f'::r) f
   have h7:=szs s' l' f'
   simp only[BC]at h6
   simp only[Nc,HE,List.length_cons,List.length_nil,List.length_map]at h3⊢
   exact⟨by omega,by omega⟩
 ·exact⟨Nat.zero_le _,by show 0+0<=_;omega⟩
section
theorem UN {hd ty:Bool} {v:Vl} (h:v.list=[]):Fv hd ty v:=fun x hx=>by rw[h]at hx;cases hx
theorem Ra {a q:Int} {hd ty:Bool} {v:Vl} {k:Nat} {x:Vl} (h:v.list[k]? =some x):(FX a q hd ty v)[k]? =some (HT a q hd ty (v.list.headD vlZ) x):=by
 unfold FX;rw[List.getElem?_map,h];rfl
theorem Yo {f:List Fd} (h:∀d,d∈f->U8 d.key/\d.key.length<=1024):QT (f.map Fd.key)=true:=by
 unfold QT
 refine List.all_eq_true.2 fun c hc=>?_
 obtain⟨d,hd,rfl⟩:=List.mem_map.1 hc
 exact decide_eq_true (h d hd).1
theorem VK {a q:Int} {f:List Fd} (hdo:dOk a q=true) (hne:f≠ []) (h:∀d,d∈f->U8 d.key/\d.key.length<=1024):Uj a q (f.map Fd.key)= .ok (Bu a (f.map fun d=>Bb a q d.key)):=by
 unfold Uj
 rw[if_neg (by rw[hdo];decide),if_neg (by simpa using hne),Yo h,if_pos rfl,N7,List.map_map];rfl
theorem SS {hd:Bool} {v x:Vl} (hs:FH hd v) (hx:x∈v.list):(if x.sc.kind=6 then x.list else((v.list.headD vlZ).flds.map Fd.key).map fun k=>(Bh x.flds k).1)=A1 hd (v.list.headD vlZ) x:=by
 unfold A1
 cases hd with
 | false=>rw[if_pos (hs.lst rfl x hx).1,if_neg (by decide)]
 | true=>rw[if_neg (by rw[(hs.map rfl x hx).1];decide),if_pos rfl,List.map_map];rfl
theorem YJ {ty:Bool} {k:Int} (h:Ba ty k≠0):Ba ty k=27:=by
 unfold Ba at h⊢
 split at h
 ·rename_i g;rw[if_pos g]
 ·exact absurd rfl h
section
variable {a q:Int} {hd ty:Bool} {st:St}
theorem RA {s:Sc} {l:List Vl} {f:List Fd} {ub ul uf:TV} (hdo:dOk a q=true) (hv:Br (.mk s l f)) (hz:(Vl.mk s l f).sz<=1000000) {K:B8->Int->St->Prop} (hk:∀st',Al st st'->K (if Ba ty s.kind=0 then Cj a q ty s else []) (Ba ty s.kind) st'):
  CallT PR DT [.agg (A0 s ub ul uf),.agg [.int .u8 a,.int .u8 q,.bool hd,.bool ty]] [.one .str,.one (.int .i64)] st K:=by
 have ho:=hv.own.1
 have hsz:=szs s l f
 exact Uu hdo ho.own.k0 ho.own.k7 (fun _=>ho.dec) ho.time (fun _=>ho.text) (by omega) hk
theorem ZC {v:Vl} {cs:List TV} (hdo:dOk a q=true) (hV:Br v) (hS:FH hd v) (hN:v.sz<=1000000) (h:VlR St.zero v cs) {K:B8->Int->St->Prop}
  (hk1:Fv hd ty v->∀st',Al st st'->K (AT a (wrX a q hd ty v)) 0 st') (hk2:¬Fv hd ty v->∀st',Al st st'->K [] 27 st'):
  CallT PR IJ [.agg cs,.agg [.int .u8 a,.int .u8 q,.bool hd,.bool ty]] [.one .str,.one (.int .i64)] st K:=by
 have d:=UC hdo
 have hab:=EF (q:=a) d.a0 (by have:=d.a1;omega)
 have hrl:=Q9 (a:=a) (q:=q) (ty:=ty) hV hS
 have hhl:=Rz (a:=a) (q:=q) (hd:=hd) (v:=v)
 have hrs:=fun x hx=>Pq (a:=a) (q:=q) (ty:=ty) hV hS (x:=x) hx
 have hcv:=fun x hx=>IU hV hS (x:=x) hx
 have hcz:=fun x hx=>NQ hV hS (x:=x) hx
 have hck:=fun x hx=>SS hS (x:=x) hx
 have hget:=fun k x hx=>Ra (a:=a) (q:=q) (hd:=hd) (ty:=ty) (v:=v) (k:=k) (x:=x) hx
 have hval:=(CL hV hS.kind).2
 have hwx:=Yu a q hd ty v
 obtain⟨s,l,f⟩:=v
 obtain⟨ub,ul,uf,xl,xf,rfl,_,h2,h3,h4,h5⟩:=h.cells
 have hsz:=szs s l f
 have hll:=Cz l
 have hk0:∀st',BB St.zero st':=Dj
 replace hval:∀x,x∈l->Br x:=hval
 refine Sa _ _ _ _ _ _ _ _ _ _ _ _ _ a q hd ty st K (Ab h2.isSl (Aa (fun g=>?_) fun g=>?_))
 ·have hl:l=[]:=List.eq_nil_of_length_eq_zero (by rw[h2.lenS]at g;omega)
  have:=hk1 (UN hl) st (Al.refl _)
  rwa [WC (v:= .mk s l f) hl]at this
 rw[h2.lenS]at g
 refine LR (i:=0) (k:=0) (hk0 _) h2 h3 rfl (by omega) fun s0 l0 f0 ub0 ul0 uf0 g0 hx0 on0=>?_
 have hfirst:l.headD vlZ= .mk s0 l0 f0:=by
  cases l with
  | nil=>cases g0
  | cons y r=>simp only[List.getElem?_cons_zero,Option.some.injEq]at g0;exact g0
 have hm0:Vl.mk s0 l0 f0∈l:=AP g0
 have hv0:=hval _ hm0
 have hnd0:DQ f0:=Gq hv0
 have hz0:=CZ hm0
 have hsz0:=szs s0 l0 f0
 have hks0:=Kq f0
 have hhead:Kr a q hd (.mk s l f)=if hd=true then [f0.map fun d=>Bb a q d.key]else []:=by
  unfold Kr
  show(if hd=true/\l≠ []then [(l.headD vlZ).flds.map fun d=>Bb a q d.key]else [])=_
  rw[hfirst]
  have:l≠ []:=fun e=>by rw[e]at g0;cases g0
  by_cases hh:hd=true
  ·rw[if_pos ⟨hh,this⟩,if_pos hh];rfl
  ·rw[if_neg (fun h=>hh h.1),if_neg hh]
 obtain⟨_,_,_,_,_,hc0,_,p2,p3,p4,p5⟩:=hx0.cells
 cases hc0
 have hBn:=Bld.new (Al.refl st)
 refine Od (hk0 _) p4 p5 (by omega) hnd0 fun st1 es e1 hb1 hm1 hI=>?_
 have hB1:=hBn.keep e1
 generalize hmb:(st.push (.cells [.nilPtr,.nilSlice]) (some 188)).nb=mb at hb1 hm1
 have hbm:st.nb<mb:=by rw[<-hmb];exact Nat.lt_succ_self _
 generalize hH:AT a (Kr a q hd (.mk s l f))=H at hhl
 refine⟨fun w c n1 b1 b2 s1 n2 n3 n4 n5 n6 s2 v1 v2 v3 n7 n8 b3 b4 st'=> .box st.nb 0=w/\.map mb=c/\SmV s ub ul uf a q hd ty n1 b1 b2 s1 n2 n3 n4 n5 n6 s2 v1 v2 v3 n7 n8 b3 b4/\Bld st st.nb st' H/\mb<st'.nb/\st'.box mb= .map es,Aj (fun hh=>?_) fun hh=>?_,?_⟩
 ·obtain⟨i1,_,_,uf1,_,xf1,ld1,_,_,hf1,hfx1⟩:=ld13 h2.zero h3 (i:=0) g0
  subst hh
  obtain⟨_,hne0,_,_⟩:=hS.map rfl _ hm0
  obtain⟨_,_,_,hkv⟩:=En hv0 (hS.map rfl _ hm0).1
  replace hkv:∀d,d∈f0->U8 d.key/\d.key.length<=1024:=hkv
  replace hne0:f0≠ []:=hne0
  replace hf1:Rd 14 uf1 f0.length xf1:=hf1
  replace hfx1:FsR St.zero f0 xf1:=hfx1
  refine⟨⟨by omega,by rw[h2.lenZ];omega⟩,Ab i1 (Ac (ld1 st1 12 uf1 rfl) (Ab hf1.isSl ?_))⟩
  refine⟨fun ks n w c v n2' n1 b1 b2 s1 n2 n3 n4 n5 n6 s2 v1 v2 v3 n7 n8 b3 b4 st'=>uf1=v/\(f0.length:Int)=n2'/\.box st.nb 0=w/\.map mb=c/\SmV s ub ul uf a q true ty n1 b1 b2 s1 n2 n3 n4 n5 n6 s2 v1 v2 v3 n7 n8 b3 b4/\Al st1 st'/\∃j:Nat,n=(j:Int)/\j<=f0.length/\Own st1.nt 1 st' ks j (((f0.take j).map Fd.key).map TV.str),
   fun _ n _ _ _ _ _ _ _ _ _ _ _ _ _ _ _ _ _ _ _ _ _ _=>(f0.length-n).toNat,⟨rfl,by rw[hf1.lenS],rfl,rfl,SmV.refl ..,Al.refl _,0,rfl,Nat.zero_le _,Own.nil _ _ _⟩,?_⟩
  rintro ks _ _ _ _ _ _ _ _ _ _ _ _ _ _ _ _ _ _ _ _ _ _ st2 ⟨rfl,rfl,rfl,rfl,⟨rfl,rfl,rfl,rfl,rfl,rfl,rfl,rfl,rfl,rfl,rfl,rfl,rfl,rfl,rfl,rfl,rfl⟩,e2,j,rfl,hj,hO⟩
  refine Aa (fun g1=>?_) fun g1=>?_
  ·refine Ya (hk0 _) (.of_rd hf1) hfx1 rfl (by omega) fun key s' l' f' ub2 ul2 uf2 gw hw on=>Ab on ?_
   refine CJ e2 rfl hO (by omega) (fun h=>by cases h) fun v' st3 e3 _ ho=>?_
   rw[Af _ (by omega) (by omega)]
   refine⟨⟨rfl,rfl,rfl,rfl,SmV.refl ..,e3,j+1,by omega,by omega,?_⟩,by dsimp only;omega⟩
   rw[List.take_add_one,gw,List.map_append,List.map_append]
   exact ho
  ·have:j=f0.length:=by omega
   subst this
   rw[List.take_length]at hO
   have hrow:GU TV.str ks (f0.map Fd.key):=by
    unfold GU
    rw[List.length_map]
    exact hO.rd
   refine Y3 hrow (by omega) (by rw[List.length_map];omega) fun st4 e4=>?_
   rw[VK hdo hne0 hkv]
   have hH':H=Bu a (f0.map fun d=>Bb a q d.key):=by
    rw[<-hH,hhead,if_pos rfl]
    unfold AT;simp
   refine Aa (fun h=>absurd rfl h) fun _=>?_
   have e24:=e2.trans e4
   refine Gk (hB1.keep e24) (by show 0+(Bu a _).length<=_;rw[<-hH'];omega) fun st5 hB5 k5=>?_
   refine⟨rfl,rfl,SmV.refl ..,?_,Nat.lt_of_lt_of_le hb1 (Nat.le_trans e24.nb k5.1),?_⟩
   ·rw[hH'];exact hB5
   ·rw[k5.2 mb (by omega) (Nat.lt_of_lt_of_le hb1 e24.nb),e24.box mb hb1];exact hm1
 ·refine⟨rfl,rfl,SmV.refl ..,?_,hb1,hm1⟩
  have:H=[]:=by rw[<-hH,hhead,if_neg (by rw[hh];decide)];rfl
  rw[this];exact hB1
 rintro _ _ _ _ _ _ _ _ _ _ _ _ _ _ _ _ _ _ _ st6 ⟨rfl,rfl,⟨rfl,rfl,rfl,rfl,rfl,rfl,rfl,rfl,rfl,rfl,rfl,rfl,rfl,rfl,rfl,rfl,rfl⟩,hB6,hb6,hm6⟩
 have htl:=Md a (FX a q hd ty (.mk s l f))
 generalize hR:FX a q hd ty (.mk s l f)=R at hrl hget hwx htl
 replace hrl:(AT a R).length<=206*BC l/\_:=hrl
 replace hget:∀(k:Nat) x,l[k]? =some x->R[k]? =some (HT a q hd ty (l.headD vlZ) x):=hget
 replace hrs:∀x,x∈l->Cm (HT a q hd ty (l.headD vlZ) x)<=204*x.sz/\(HT a q hd ty (l.headD vlZ) x).length<=x.sz:=hrs
 replace hcv:∀x,x∈l->∀y,y∈A1 hd (l.headD vlZ) x->Br y:=hcv
 replace hcz:∀x,x∈l->BC (A1 hd (l.headD vlZ) x)<=x.sz:=hcz
 replace hck:∀x:Vl,x∈l->(if x.sc.kind=6 then x.list else((l.headD vlZ).flds.map Fd.key).map fun k=>(Bh x.flds k).1)=A1 hd (l.headD vlZ) x:=hck
 replace hhl:H.length<=6*(Vl.mk s l f).sz/\_:=hhl
 have hcok:Fv hd ty (.mk s l f)=∀x,x∈l->∀y,y∈A1 hd (l.headD vlZ) x->Ba ty y.sc.kind=0:=rfl
 rw[hfirst]at hget hrs hcv hcz hck hcok
 refine Ab h2.isSl ⟨fun n w c v n4 n31 n32 b13 b14 st'=> .box st.nb 0=w/\.map mb=c/\ul=v/\(l.length:Int)=n4/\a=n31/\q=n32/\hd=b13/\ty=b14/\∃k:Nat,n=k/\k<=l.length/\Bld st st.nb st' (H++AT a (R.take k))/\mb<st'.nb/\st'.box mb= .map es/\∀(j:Nat) x,j<k->l[j]? =some x->∀y,y∈A1 hd (.mk s0 l0 f0) x->Ba ty y.sc.kind=0,
  fun n _ _ _ _ _ _ _ _ _=>(l.length-n).toNat,⟨rfl,rfl,rfl,by rw[h2.lenS],rfl,rfl,rfl,rfl,0,rfl,Nat.zero_le _,by rw[List.take_zero,show AT a []=[]from rfl,List.append_nil];exact hB6,hb6,hm6,fun j x hj=>by omega⟩,?_⟩
 rintro _ _ _ _ _ _ _ _ _ st7 ⟨rfl,rfl,rfl,rfl,rfl,rfl,rfl,rfl,k,rfl,hk,hB7,hb7,hm7,hsh⟩
 have htk:=htl k
 refine Aa (fun g1=>?_) fun g1=>?_
 ·refine LR (hk0 _) h2 h3 rfl (by omega) fun s' l' f' ub1 ul1 uf1 gx hx on=>Ab on ?_
  have hmx:=AP gx
  have hvx:=hval _ hmx
  have hzx:=CZ hmx
  have hszx:=szs s' l' f'
  have hfx:=Kq f'
  obtain⟨_,_,_,_,_,hc1,_,q2,q3,q4,q5⟩:=hx.cells
  cases hc1
  have hgx:=hget k _ gx
  have hrx:=hrs _ hmx
  have hcx:=hcv _ hmx
  have hczx:=hcz _ hmx
  have hckx:=hck _ hmx
  replace hckx:(if s'.kind=6 then l' else(f0.map Fd.key).map fun k=>(Bh f' k).1)=A1 hd (.mk s0 l0 f0) (.mk s' l' f'):=hckx
  refine XY (hk0 _) q2 q3 q4 q5 (by omega) hb7 hm7 hI hnd0 (Gq hvx) (fun h6=>?_) fun st8 u xs e8 hcl hvs=>?_
  ·cases hd with
   | false=>exact absurd (hS.lst rfl _ hmx).1 h6
   | true=>
    obtain⟨_,_,m3,m4⟩:=hS.map rfl _ hmx
    replace m3:f'.length=(l.headD vlZ).flds.length:=m3
    replace m4:∀f,f∈f'->f.key∈(l.headD vlZ).flds.map Fd.key:=m4
    rw[hfirst]at m3 m4
    exact⟨by rw[List.length_map];exact m3,m4⟩
  rw[hckx]at hcl hvs
  have hrow:HT a q hd ty (.mk s0 l0 f0) (.mk s' l' f')=(A1 hd (.mk s0 l0 f0) (.mk s' l' f')).map fun y=>Cj a q ty y.sc:=rfl
  generalize hcl0:A1 hd (.mk s0 l0 f0) (.mk s' l' f')=cl at hcl hvs hcx hczx hrow
  generalize HT a q hd ty (.mk s0 l0 f0) (.mk s' l' f')=row at hgx hrx hrow
  have hcll:=Cz cl
  have hB8:=hB7.keep e8
  have hm8:st8.box mb= .map es:=(e8.box mb hb7).trans hm7
  have hrgl:row.length=cl.length:=by rw[hrow,List.length_map]
  have hbb:st.nb<st7.nb:=by omega
  generalize hT:H++AT a (R.take k)=T at hB8
  have hTl:T.length<=212000000:=by rw[<-hT,List.length_append];omega
  refine Ab hcl.sl.isSl ⟨fun n5 w c v3 n6 n7 v4 n8 n39 n40 b17 b18 st'=> .box st.nb 0=w/\.map mb=c/\ul=v3/\(l.length:Int)=n6/\(k:Int)=n7/\u=v4/\(cl.length:Int)=n8/\a=n39/\q=n40/\hd=b17/\ty=b18/\∃m:Nat,n5=m/\m<=cl.length/\Bld st st.nb st' (T++FA a (row.take m))/\mb<st'.nb/\st'.box mb= .map es/\ClR st7.nb st' u cl.length xs/\∀(j:Nat) y,j<m->cl[j]? =some y->Ba ty y.sc.kind=0,
   fun n _ _ _ _ _ _ _ _ _ _ _ _=>(cl.length-n).toNat,⟨rfl,rfl,rfl,rfl,rfl,rfl,by rw[hcl.sl.lenS],rfl,rfl,rfl,rfl,0,rfl,Nat.zero_le _,by rw[List.take_zero,show FA a []=[]from rfl,List.append_nil];exact hB8,Nat.lt_of_lt_of_le hb7 e8.nb,hm8,hcl,fun j y hj=>by omega⟩,?_⟩
  rintro _ _ _ _ _ _ _ _ _ _ _ _ st9 ⟨rfl,rfl,rfl,rfl,rfl,rfl,rfl,rfl,rfl,rfl,rfl,m,rfl,hm,hB9,hb9,hm9,hcl9,hsh9⟩
  have hj1:=NF a (row.take m)
  have hj2:=J7 row m
  rw[List.length_take]at hj1
  have hJl:(T++FA a (row.take m)).length<=420000000:=by rw[List.length_append];omega
  refine Aa (fun g2=>?_) fun g2=>?_
  ·refine LR (BB.refl st9) hcl9.sl (hvs.keep (Dj st9)) rfl (by omega) fun s2 l2 f2 ub2 ul2 uf2 gy hy on2=>Ab on2 ?_
   have hmy:=AP gy
   have hvy:=hcx _ hmy
   have hzy:=CZ hmy
   have hszy:=szs s2 l2 f2
   have hgy:row[m]? =some (Cj a q ty s2):=by rw[hrow,List.getElem?_map,gy];rfl
   have hsl:(Cj a q ty s2).length<=2*s2.text.length+202:=Q6 (y:= .mk s2 l2 f2) hvy
   have hjt:=PV (a:=a) hgy
   have bad:Ba ty s2.kind≠0->∀st',Al st st'->K [] (Ba ty s2.kind) st':=fun he st' e=>by
    rw[YJ he]
    refine hk2 (fun hc=>he ?_) st' e
    rw[hcok]at hc
    exact hc _ hmx (.mk s2 l2 f2) (by rw[hcl0];exact hmy)
   have next:Ba ty s2.kind=0->∀(j:Nat) y,j<m+1->cl[j]? =some y->Ba ty y.sc.kind=0:=fun he j y hj hy=>by
    by_cases hjm:j=m
    ·subst hjm;rw[gy]at hy;cases hy;exact he
    ·exact hsh9 j y (by omega) hy
   rw[Af _ (by omega) (by omega)]
   refine Aa (fun g3=>?_) fun g3=>?_
   ·refine L0 (UInt8.ofNat a.toNat) hab.symm hB9 (by omega) fun st10 hB10 k10=>RA hdo hvy (by omega) fun st11 e11=>Aa (fun g4=>bad g4 st11 (hB10.keep e11).ext) fun g4=>?_
    have he:=Decidable.not_not.1 g4
    rw[if_pos he]
    refine Gk (hB10.keep e11) (by rw[List.length_append,List.length_singleton];omega) fun st12 hB12 k12=>?_
    have kk:=(k10.trans (But.of e11)).trans k12
    refine⟨⟨rfl,rfl,rfl,rfl,rfl,rfl,rfl,rfl,rfl,rfl,rfl,m+1,by omega,by omega,?_,Nat.lt_of_lt_of_le hb9 kk.1,(kk.2 mb (by omega) hb9).trans hm9,hcl9.but hbb kk,next he⟩,by dsimp only;omega⟩
    rw[hjt,if_neg (by omega)]
    simpa using hB12
   ·refine RA hdo hvy (by omega) fun st11 e11=>Aa (fun g4=>bad g4 st11 (hB9.keep e11).ext) fun g4=>?_
    have he:=Decidable.not_not.1 g4
    have hm0:m=0:=by omega
    subst hm0
    rw[if_pos he]
    refine Gk (hB9.keep e11) (by omega) fun st12 hB12 k12=>?_
    have kk:=(But.of e11).trans k12
    refine⟨⟨rfl,rfl,rfl,rfl,rfl,rfl,rfl,rfl,rfl,rfl,rfl,0+1,by omega,by omega,?_,Nat.lt_of_lt_of_le hb9 kk.1,(kk.2 mb (by omega) hb9).trans hm9,hcl9.but hbb kk,next he⟩,by dsimp only;omega⟩
    rw[hjt,if_pos rfl]
    simpa [FA]using hB12
  ·have hmc:m=cl.length:=by omega
   subst hmc
   rw[<-hrgl,List.take_length]at hB9 hJl
   refine L0 10 rfl hB9 (by omega) fun st10 hB10 k10=>?_
   rw[Af _ (by omega) (by omega)]
   refine⟨⟨rfl,rfl,rfl,rfl,rfl,rfl,rfl,rfl,k+1,by omega,by omega,?_,Nat.lt_of_lt_of_le hb9 k10.1,(k10.2 mb (by omega) hb9).trans hm9,fun j x hj hx y hy=>?_⟩,by dsimp only;omega⟩
   ·rw[Pg hgx,LM,<-List.append_assoc,<-List.append_assoc,hT];exact hB10
   ·by_cases hjk:j=k
    ·subst hjk
     rw[gx]at hx
     cases hx
     rw[hcl0]at hy
     obtain⟨i,hi⟩:=List.getElem?_of_mem hy
     exact hsh9 i y (List.getElem?_eq_some_iff.1 hi).1 hi
    ·exact hsh j x (by omega) hx y hy
 ·have hkl:k=l.length:=by omega
  subst hkl
  have hRl:R.length=l.length:=by rw[<-hR];unfold FX;rw[List.length_map];rfl
  rw[<-hRl,List.take_length]at hB7 htk
  refine NS hB7 (by rw[List.length_append];omega) fun st' e=>?_
  rw[<-hH,<-Iq,<-hwx]
  refine hk1 ?_ st' e
  rw[hcok]
  intro x hx y hy
  obtain⟨i,hi⟩:=List.getElem?_of_mem hx
  exact hsh i x (List.getElem?_eq_some_iff.1 hi).1 hi y hy
end
end
end Go.TVF
