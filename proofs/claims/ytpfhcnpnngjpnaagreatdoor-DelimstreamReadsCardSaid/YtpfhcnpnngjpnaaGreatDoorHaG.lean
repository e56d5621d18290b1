/- What the laws below rest on: a framework for Go programs, and contracts of the functions that they reach. -/
import Derived.Test.YtpfhcnpnngjpnaaGreatDoorHaF
set_option maxRecDepth 20000
set_option linter.unusedVariables false
set_option linter.unusedSimpArgs false
namespace Go.TVF
open Go.IntKind(i64 u8)
open Go Go.Proofs
theorem chk_ent {a q:Int} {k:Nd} (h:XK a q k) {s:Int} (hs:s+3<=524288):∃s',chk k 3 s= .ok s'/\s<=s'/\s'<=s+3:=by
 obtain⟨c,mark,rfl,_,hm⟩:=h
 rcases hm with rfl | ⟨b,_,rfl⟩
 ·refine⟨s+1+1,?_,by omega,by omega⟩
  have l2:Mv 2=true:=by decide
  have l5:Mv 5=false:=by decide
  simp only[chk,Oq,l2,l5,List.length_nil]
  rw[if_neg (by omega),if_neg (by omega),if_neg (by omega),if_neg (by simp),if_neg (by omega),if_neg (by omega),if_neg (by omega),if_neg (by simp)]
 ·refine⟨s+1+1+1,?_,by omega,by omega⟩
  have l2:Mv 2=true:=by decide
  have l5:Mv 5=false:=by decide
  have l11:Mv 11=true:=by decide
  simp only[chk,Oq,l2,l5,l11,List.length_nil]
  rw[if_neg (by omega),if_neg (by omega),if_neg (by omega),if_neg (by simp),if_neg (by omega),if_neg (by omega),if_neg (by omega),if_neg (by simp)]
  simp only
  rw[if_neg (by omega),if_neg (by omega),if_neg (by omega),if_neg (by simp)]
theorem PM {a q:Int}:∀(ks:List Nd) (h:∀k∈ks,XK a q k) {s:Int} (hs:s+3*ks.length<=524288),∃s',Oq ks 3 s= .ok s'/\s<=s'/\s'<=s+3*ks.length
 | [],h,s,hs=>⟨s,rfl,by omega,by simp⟩
 | k::ks,h,s,hs=>by
  rw[List.length_cons]at hs
  obtain⟨s1,h1,h2,h3⟩:=chk_ent (h k (List.mem_cons_self ..)) (s:=s) (by omega)
  obtain⟨s2,h4,h5,h6⟩:=PM ks (fun k hk=>h k (List.mem_cons_of_mem _ hk)) (s:=s1) (by omega)
  refine⟨s2,?_,by omega,by rw[List.length_cons];omega⟩
  simp only[Oq,h1,h4]
theorem V4 {a q:Int} {src:B8} {i:Nat} {rs:List Nd} (h:Me a q src i rs):i<=src.length->∀{s:Int},s+7*(src.length-i:Nat)<=524288->∃s',Oq rs 2 s= .ok s'/\s<=s'/\s'<=s+7*(src.length-i:Nat):=by
 induction h with
 | nil h=>intro hi s hs;exact⟨s,rfl,by omega,by omega⟩
 | @cons i e n ks rs h1 h2 h3 ih=>
  intro hi s hs
  have hle:=h2.le hi
  have hpos:1<=e+n-i:=by
   have:=(F4 (by omega) hle.2.2.2.2).2.1
   rcases Nat.eq_zero_or_pos n with h0 | h0
   ·have:=this h0;omega
   ·omega
  obtain⟨s1,j1,j2,j3⟩:=PM ks (h2.form hi) (s:=s+1) (by omega)
  obtain⟨s2,j4,j5,j6⟩:=ih (by omega) (s:=s1) (by omega)
  have l8:Mv 8=false:=by decide
  refine⟨s2,?_,by omega,by omega⟩
  simp only[Oq,chk,l8]
  rw[if_neg (by omega),if_neg (by omega),if_neg (by omega),if_neg (by simp)]
  simp only[Int.reduceAdd]
  rw[j1]
  exact j4
theorem D3 {x:Cx} {hd:Bool} {l2 l3 l4:Int} {n:Nd} (h:CA x hd l2 l3 l4= .ok n):∃rs,n= .mk 1 [] [] rs []/\dOk x.a x.q=true/\lOk x.dep x.nod l2 l3 l4=true/\(x.s.length:Int)<=l2/\A5 x.s=x.s.length/\Em x hd (x.s.length+1) [] 0 1 [] 0= .ok rs/\
  Me x.a x.q x.s 0 rs/\(∀r∈rs,∀k∈AC r,(txt x.q (A6 k)).length<=65536)/\(∃W:Int,∀r∈rs,((AC r).length:Int)=W):=by
 unfold CA at h
 split at h
 ·cases h
 rename_i h1
 split at h
 ·cases h
 rename_i h2
 split at h
 ·cases h
 rename_i h3
 split at h
 ·cases h
 rename_i h4
 split at h
 ·cases h
 rename_i rs hr
 cases h
 obtain⟨rs',j1,j2,j3,⟨W,j4,j5⟩,j6⟩:=Oh _ (by omega) hr
 rw[List.nil_append]at j1
 subst j1
 exact⟨_,rfl,by simpa using h1,by simpa using h2,by omega,Decidable.not_not.1 h4,hr,j2,j3,W,j5⟩
abbrev xU (s:B8) (a q:Int):Cx:=⟨s,a,q,48,65536⟩
abbrev Ql (s:B8) (a q:Int) (hd:Bool):Except (Nat×Int) Nd:=CA (xU s a q) hd 1048576 1024 65536
def WM (n:Nd) (a q:Int) (hd:Bool):Prop:=PL n=0/\Ql (IR n) a q hd= .ok n
theorem Xu {n:Nd} (h:PL n=0):VH n<=1048576:=by
 unfold PL at h
 split at h
 ·rename_i e he;exact absurd h (Oo n he)
 ·split at h
  ·cases h
  ·omega
theorem NdC.five {n:Nd} {cs:List TV} (h:NdC n cs):∃k l t v tl,cs=[.int .i64 k,.str l,.str t,v,.str tl]/\Aq v=true:=by
 cases n
 unfold NdC at h
 obtain⟨v,xs,rfl,hr,_⟩:=h
 exact⟨_,_,_,v,_,rfl,hr.one⟩
def RowR {α:Type} (f:α->TV) (v:TV) (row:List α):Prop:=Rd 1 v row.length (row.map f)
theorem ent_ld {a q:Int} {k:Nd} (hk:XK a q k) {cs:List TV} (hc:NdC k cs):∃u ys,cs=[.int .i64 5,.str [],.str [],u,.str []]/\Rd 5 u (AC k).length ys/\0<(AC k).length/\(∀st,Ac st [] (.t (Af (ixT 5 u 0) 2)) 0=some (.str (A6 k)))/\isPtr (ixT 5 u 0)=true:=by
 obtain⟨c,mark,rfl,_,_⟩:=hk
 unfold NdC at hc
 obtain⟨u,ys,rfl,h1,h2⟩:=hc
 refine⟨u,ys,rfl,h1,by simp[AC],fun st=>?_,?_⟩
 ·obtain⟨cs,h3,h4⟩:=h2.get (i:=0) rfl
  unfold NdC at h3
  obtain⟨w,zs,rfl,_⟩:=h3
  exact h1.ldfx st 0 2 (h4 2 _ rfl)
 ·rcases h1 with⟨rfl,h,_⟩ | ⟨tip,rfl⟩
  ·simp at h
  ·rfl
theorem UO {v:TV} {ks:List Nd} {xs:List TV} (hr:Rd 5 v ks.length xs) (hk:BA ks xs) {i:Nat} {k:Nd} (hi:ks[i]? =some k):
  isPtr (ixT 5 v i)=true/\∃cs u ys,NdC k cs/\(∀st,Ac st [] (.t (Af (ixT 5 v i) 3)) 0=some u)/\Rd 5 u (AC k).length ys/\BA (AC k) ys/\cs[3]? =some u:=by
 obtain⟨cs,h1,h2⟩:=hk.get hi
 refine⟨?_,?_⟩
 ·rcases hr with⟨rfl,h,_⟩ | ⟨tip,rfl⟩
  ·have:=(List.getElem?_eq_some_iff.1 hi).1;omega
  ·rfl
 ·obtain⟨a,b,c,d,e⟩:=k
  have h3:=h1
  unfold NdC at h3
  obtain⟨u,ys,rfl,h4,h5⟩:=h3
  exact⟨_,u,ys,h1,fun st=>hr.ldfx st i 3 (h2 3 _ rfl),h4,h5,rfl⟩
section
def recsOf:Nd->List Nd | .mk _ _ _ ks _=>ks
def BE (q:Int) (c:B8):Bool:=decide (¬(c=[]∨by_ c 0≠q))
section
variable {n:Nd} {cs:List TV} {a q:Int} {hd ty:Bool} {st:St}
end
end
section
theorem dOk_inv {a q:Int} (h:dOk a q=true):(a=9∨(32<=a/\a<=126))/\33<=q/\q<=126/\a≠q:=by
 unfold dOk at h
 exact(of_decide_eq_true h).1
section
variable {a q:Int} {hd ty:Bool} {st:St}
end
end
section
def MQ (cs:List B8):Nat:=match cs with | []=>0 | c::r=>c.length+MQ r
section
variable {a q:Int} {hd ty:Bool} {st:St}
end
end
section
def KM (l:List (List B8)):Nat:=match l with | []=>0 | r::rs=>MQ r+KM rs
def JE (l:List (List B8)):Nat:=match l with | []=>0 | r::rs=>r.length+JE rs
theorem Wt {l:List (List B8)} {j:Nat} {r:List B8} (h:l[j]? =some r):MQ r<=KM l/\r.length<=JE l:=by
 induction l generalizing j with
 | nil=>simp at h
 | cons d rs ih=>
  cases j with
  | zero=>simp only[List.getElem?_cons_zero,Option.some.injEq]at h;subst h;simp[KM,JE]
  | succ j=>
   have:=ih (j:=j) (by simpa using h)
   simp only[KM,JE];omega
section
variable {a q:Int} {hd ty:Bool} {st:St}
end
end
section
theorem NN {s:B8} {a q:Int} {hd:Bool} {n:Nd} (hl:s.length<=70000) (h:Ql s a q hd= .ok n):IR n=s/\PL n=0/\WM n a q hd:=by
 obtain⟨rs,rfl,_,_,_,_,_,hr,_⟩:=D3 h
 have ht:IR (.mk 1 [] [] rs [])=s:=by
  have:=Me.text hr (Nat.zero_le _)
  simp only[IR,List.nil_append,List.append_nil]
  rw[this];rfl
 have hlen:VH (.mk 1 [] [] rs [])=s.length:=by rw[<-LV,ht]
 have hc:PL (.mk 1 [] [] rs [])=0:=by
  have hs0:(xU s a q).s.length=s.length:=rfl
  obtain⟨s',h1,h2,h3⟩:=V4 hr (Nat.zero_le _) (s:=1) (by rw[hs0];omega)
  have h4:chk (.mk 1 [] [] rs []) 1 0= .ok s':=by
   have l1:Mv 1=false:=by decide
   simp only[chk,l1]
   rw[if_neg (by omega),if_neg (by omega),if_neg (by omega),if_neg (by simp)]
   exact h1
  unfold PL
  rw[h4]
  simp only
  rw[if_neg (by omega)]
 exact⟨ht,hc,hc,by rw[ht];exact h⟩
theorem RZ {s:B8} {i:Nat} {p:Nat×Int} (h:BZ s i= .error p):p.2≠0:=by
 obtain⟨o,c⟩:=p
 rcases Jo h with h | h<;>simp[h.2]
theorem entE_ne {x:Cx} {hd:Bool} {i:Nat} {v:Int} {ns:List B8} {p:Nat×Int} (h:E0 x hd i v ns= .error p):p.2≠0:=by
 have hR:∀v,MU x hd i v ns= .error p->p.2≠0:=fun v h=>by
  unfold MU at h
  split at h
  ·rename_i e he
   cases h
   exact PO (o:=p.1) (c:=p.2) he
  ·rename_i e he
   by_cases h1:(if hd then 1024 else 65536)<(txt x.q (slc x.s i e)).length
   ·rw[if_pos h1]at h;cases h;simp
   ·by_cases h2:hd=true/\txt x.q (slc x.s i e)∈ns
    ·rw[if_neg h1,if_pos h2]at h;cases h;simp
    ·rw[if_neg h1,if_neg h2]at h;cases h
 rw[QA]at h
 split at h
 ·exact hR v h
 ·split at h
  ·rename_i e he
   cases h
   exact Lm (o:=p.1) (c:=p.2) he
  ·exact hR _ h
theorem UG {x:Cx} {num hd:Bool} {wid:Int}:∀(n:Nat) {acc:List Nd} {i:Nat} {v:Int} {ns:List B8} {p:Nat×Int},i<=x.s.length->x.s.length<i+n->Cd x num wid hd n acc i v ns= .error p->p.2≠0
 | 0,acc,i,v,ns,p,h1,h2,h=>by omega
 | n+1,acc,i,v,ns,p,h1,h2,h=>by
  rw[LM]at h
  split at h
  ·cases h;simp
  split at h
  ·rename_i e he;cases h;exact entE_ne he
  ·rename_i e v1 ns1 he
   have hle:=entE_le h1 he
   split at h
   ·exact UG n (by omega) (by omega) h
   ·split at h
    ·rename_i e2 he2;cases h;exact RZ he2
    ·cases h
theorem recD_ne {x:Cx} {num hd:Bool} {wid:Int} {i:Nat} {v:Int} {ns:List B8} {p:Nat×Int} (hi:i<=x.s.length) (h:G3 x num wid hd i v ns= .error p):p.2≠0:=by
 have hK:∀v,Hz x.s num wid (Cd x num wid hd (x.s.length+1) [] i v ns)= .error p->p.2≠0:=fun v h=>by
  unfold Hz at h
  rcases hr:Cd x num wid hd (x.s.length+1) [] i v ns with e | ⟨e,v2,ns2,ks⟩
  ·rw[hr]at h;cases h;exact UG _ hi (by omega) hr
  ·rw[hr]at h
   simp only at h
   cases hn7:BZ x.s e with
   | error e2=>rw[hn7]at h;cases h;exact RZ hn7
   | ok n7=>
    rw[hn7]at h
    simp only at h
    by_cases hw:(ks.length:Int)<(if num then wid else(ks.length:Int))
    ·rw[if_pos hw]at h;cases h;simp
    ·rw[if_neg hw]at h;cases h
 rw[HA]at h
 split at h
 ·exact hK v h
 ·split at h
  ·rename_i e he;cases h;exact Lm (o:=p.1) (c:=p.2) he
  ·exact hK _ h
theorem UX {x:Cx} {hdr:Bool}:∀(n:Nat) {acc:List Nd} {i:Nat} {v:Int} {ns:List B8} {wid:Int} {p:Nat×Int},i<=x.s.length->x.s.length<i+n->Em x hdr n acc i v ns wid= .error p->p.2≠0
 | 0,acc,i,v,ns,wid,p,h1,h2,h=>by omega
 | n+1,acc,i,v,ns,wid,p,h1,h2,h=>by
  rw[PD]at h
  split at h
  ·cases h
  split at h
  ·rename_i e he;cases h;exact recD_ne h1 he
  ·rename_i i' v' ns' r wid' he
   have hle:=UH (by omega) he
   exact UX n (by omega) (by omega) h
theorem Tm {x:Cx} {hd:Bool} {l2 l3 l4:Int} {p:Nat×Int} (h:CA x hd l2 l3 l4= .error p):p.2≠0:=by
 unfold CA at h
 split at h
 ·cases h;simp
 split at h
 ·cases h;simp
 split at h
 ·cases h;simp
 split at h
 ·cases h;simp
 split at h
 ·rename_i e he;cases h;exact UX _ (by omega) (by omega) he
 ·cases h
section
variable {a q:Int} {hd ty:Bool} {st:St}
end
end
section
theorem Wr {cs:List B8} {c:B8} (h:c∈cs):c.length<=MQ cs:=by
 induction cs with
 | nil=>cases h
 | cons d r ih=>
  simp only[MQ]
  rcases List.mem_cons.1 h with rfl | h
  ·omega
  ·have:=ih h;omega
section
variable {a q:Int} {hd ty:Bool} {st:St}
end
end
structure DlOk (a q:Int):Prop where
 a0:0<=a
 a1:a<128
 q0:0<=q
 q1:q<128
 aq:a≠q
 q10:q≠10
 q13:q≠13
 a10:a≠10
 sa:Dl a=false
 sq:Dl q=false
theorem dlOk {a q:Int} (h:dOk a q=true):DlOk a q:=by
 have hk:=dOk_inv h
 unfold dOk at h
 rw[decide_eq_true_eq]at h
 exact⟨by omega,by omega,by omega,by omega,by omega,by omega,by omega,by omega,h.2.1,h.2.2⟩
theorem VV {x:Cx} {i:Nat} {v:Int} {ns:List B8} {e:Nat} {v1:Int} {ns1:List B8} (h:E0 x true i v ns= .ok (e,v1,ns1)):
  txt x.q (slc x.s i e)∉ns/\ns1=txt x.q (slc x.s i e)::ns/\(txt x.q (slc x.s i e)).length<=1024:=by
 simp only[E0,if_true,true_and,bind,Except.bind]at h
 split at h
 ·cases h
 ·split at h
  ·cases h
  ·rename_i h2 h1
   split at h
   ·cases h
   ·rename_i h3
    cases h
    exact⟨h3,rfl,by omega⟩
def Er (q:Int) (ks:List Nd):List B8:=ks.map fun k=>txt q (A6 k)
theorem Vv {x:Cx} {num:Bool} {wid:Int}:∀(n:Nat) {acc:List Nd} {i:Nat} {v:Int} {ns:List B8} {e:Nat} {v':Int} {ns':List B8} {out:List Nd},
  Cd x num wid true n acc i v ns= .ok (e,v',ns',out)->∃ks,out=acc++ks/\(Er x.q ks).Nodup/\∀t,t∈Er x.q ks->t.length<=1024/\t∉ns:=by
 intro n
 induction n with
 | zero=>intro acc i v ns e v' ns' out h;simp only[Cd]at h;cases h
 | succ n ih=>
  intro acc i v ns e v' ns' out h
  simp only[Cd]at h
  split at h
  ·cases h
  simp only[bind,Except.bind]at h
  split at h
  ·cases h
  rename_i p he
  obtain⟨e1,v1,ns1⟩:=p
  obtain⟨c1,c2,c3⟩:=VV he
  simp only at h
  split at h
  ·obtain⟨ks,k1,k2,k3⟩:=ih h
   refine⟨_::ks,by rw[k1,List.append_assoc];rfl,?_,?_⟩
   ·show(txt x.q (A6 _)::Er x.q ks).Nodup
    rw[Ha]
    refine List.nodup_cons.2 ⟨fun hm=>?_,k2⟩
    exact(k3 _ hm).2 (by rw[c2];exact List.mem_cons_self ..)
   ·intro t ht
    rcases List.mem_cons.1 ht with rfl | ht
    ·dsimp only;rw[Ha];exact⟨c3,c1⟩
    ·exact⟨(k3 t ht).1,fun hm=>(k3 t ht).2 (by rw[c2];exact List.mem_cons_of_mem _ hm)⟩
  ·split at h
   ·cases h
   cases h
   refine⟨_,rfl,by simp[Er],fun t ht=>?_⟩
   rw[List.mem_singleton.1 ht]
   dsimp only
   rw[Ha]
   exact⟨c3,c1⟩
theorem TO {x:Cx} (n:Nat) {out:List Nd} {v:Int} {ns:List B8} {wid:Int} {i:Nat} (h:Em x true n [] i v ns wid= .ok out) (hi:i<=x.s.length):∀r,out.head? =some r->(Er x.q (AC r)).Nodup/\∀t,t∈Er x.q (AC r)->t.length<=1024:=by
 intro r hr
 cases n with
 | zero=>simp only[Em]at h;cases h
 | succ n=>
 simp only[Em]at h
 split at h
 ·cases h;cases hr
 simp only[bind,Except.bind]at h
 split at h
 ·cases h
 rename_i p h1
 obtain⟨i',v',ns',r1,wid'⟩:=p
 simp only[List.isEmpty_nil,Bool.and_true,Bool.not_true,List.nil_append]at h h1
 obtain⟨ks,e,m,rfl,rfl,k2,_⟩:=NF hi h1
 have hle:=k2.le hi
 obtain⟨rs,j1,_⟩:=Oh n (by omega) h
 rw[j1]at hr
 simp only[List.cons_append,List.nil_append,List.head?_cons,Option.some.injEq]at hr
 subst hr
 obtain⟨v1,_,h4⟩:=F2 h1
 obtain⟨e2,v2,ns2,ks2,m2,h2,_,_,hp⟩:=KY h4
 simp only[Prod.mk.injEq]at hp
 obtain⟨_,_,_,hk,_⟩:=hp
 simp only[Nd.mk.injEq,true_and]at hk
 obtain⟨ks3,q1,q2,q3⟩:=Vv _ h2
 rw[List.nil_append]at q1
 show(Er x.q ks).Nodup/\∀t,t∈Er x.q ks->t.length<=1024
 rw[hk.1,q1]
 exact⟨q2,fun t ht=>(q3 t ht).1⟩
def Bw (s:Sc):Vl:= .mk s [] []
def CY (q:Int) (ty:Bool) (r:List B8):List Sc:=r.map fun c=>DI ty (BE q c) (txt q c)
def RH (names:List B8) (row:List Sc):Vl:=P4 (List.zipWith (fun k s=>Fd.mk k (Bw s)) names row)
def BX (rs:List Nd):List (List B8):=rs.map fun r=>(AC r).map A6
def scW (k:Int):Sc:=⟨k,false,false,[],0,0,0,0,0,[],[]⟩
section
abbrev KG13:=Int->Bool->Bool->B8->Int->Int->Int->Int->Int->B8->TV->TV->TV->St->Prop
def KC (K:KG13) (x:Sc) (st:St):Prop:=K x.kind x.b x.neg x.dg x.ex x.tk x.td x.tn x.tz x.text .nilSlice .nilSlice .nilSlice st
abbrev Uo:List CTy:=[.int .i64,.bool,.bool,.str,.int .i64,.int .i64,.int .i64,.int .i64,.int .i64,.str,.tv,.tv,.tv]
section
variable {a q:Int} {hd ty:Bool} {st:St}
theorem Xb {s:B8} {qd:Bool} (hl:s.length<=1000000) {K:KG13} (hk:∀st',AN st st'->KC K (DI ty qd s) st'):
  Ad PR AE [.str s,.bool qd,.agg [.int .u8 a,.int .u8 q,.bool hd,.bool ty]] [.agg Uo] st K:=by
 have e0:=AN.refl st
 unfold DI at hk
 refine P2 s qd a q hd ty st K (Ar (fun g=>GE s st _ (Ab (Ef rfl rfl rfl) ?_)) fun g=>Ar (fun g2=>GE s st _ (Ab (Ef rfl rfl rfl) ?_)) fun g2=>?_)
 ·have:ty=false:=by simpa using g
  rw[if_pos (.inl this)]at hk;exact hk st e0
 ·rw[if_pos (.inr g2)]at hk;exact hk st e0
 have g:ty=true:=by simpa using g
 rw[if_neg (by rw[g,g2];simp)]at hk
 have tail:s≠ []->s≠Mm->s≠LG->Ad PR CD [.str s] [.agg [.bool,.str,.int .i64],.one (.int .i64)] st (fun (b9:Bool) (s9:B8) (n25:Int) (n26:Int) (st5:St)=>BIf (decide (n26=(0:Int))) (Ad PR FC [(.agg [(.bool b9),(.str s9),(.int .i64 n25)])] [.agg Uo] st5 (fun (n27:Int) (b10:Bool) (b11:Bool) (s10:B8) (n28:Int) (n29:Int) (n30:Int) (n31:Int) (n32:Int) (s11:B8) (v13:TV) (v14:TV) (v15:TV) (st6:St)=>need (List.all [(.int .i64 n27),(.bool b10),(.bool b11),(.str s10),(.int .i64 n28),(.int .i64 n29),(.int .i64 n30),(.int .i64 n31),(.int .i64 n32),(.str s11),v13,v14,v15] Aq) (K n27 b10 b11 s10 n28 n29 n30 n31 n32 s11 v13 v14 v15 st6)))
   (Ad PR CT [.str s] [.agg [.int .i64,.int .i64,.int .i64,.int .i64],.one (.int .i64)] st5 (fun (n33:Int) (n34:Int) (n35:Int) (n36:Int) (n37:Int) (st7:St)=>BIf (decide (n37=(0:Int))) (Ad PR ET [(.agg [(.int .i64 n33),(.int .i64 n34),(.int .i64 n35),(.int .i64 n36)])] [.agg Uo] st7 (fun (n38:Int) (b12:Bool) (b13:Bool) (s12:B8) (n39:Int) (n40:Int) (n41:Int) (n42:Int) (n43:Int) (s13:B8) (v16:TV) (v17:TV) (v18:TV) (st8:St)=>need (List.all [(.int .i64 n38),(.bool b12),(.bool b13),(.str s12),(.int .i64 n39),(.int .i64 n40),(.int .i64 n41),(.int .i64 n42),(.int .i64 n43),(.str s13),v16,v17,v18] Aq) (K n38 b12 b13 s12 n39 n40 n41 n42 n43 s13 v16 v17 v18 st8)))
    (Ad PR CX [.str s] [.agg Uo] st7 (fun (n44:Int) (b14:Bool) (b15:Bool) (s14:B8) (n45:Int) (n46:Int) (n47:Int) (n48:Int) (n49:Int) (s15:B8) (v19:TV) (v20:TV) (v21:TV) (st9:St)=>need (List.all [(.int .i64 n44),(.bool b14),(.bool b15),(.str s14),(.int .i64 n45),(.int .i64 n46),(.int .i64 n47),(.int .i64 n48),(.int .i64 n49),(.str s15),v19,v20,v21] Aq) (K n44 b14 b15 s14 n45 n46 n47 n48 n49 s15 v19 v20 v21 st9)))))):=by
  intro h1 h2 h3
  rw[if_neg h1,if_neg h2,if_neg h3]at hk
  refine dP_ok hl ?_
  unfold KD
  generalize dcP s=d at*
  refine Aa (fun h4=>P0 _ _ _ st _ (Ab (Ef rfl rfl rfl) ?_)) fun h4=>tP_ok hl fun st1 e1=>?_
  ·rw[if_pos h4]at hk;exact hk st e0
  rw[if_neg h4]at hk
  unfold KT
  generalize tmP s=t at*
  refine Aa (fun h5=>OH _ _ _ _ st1 _ (Ab (Ef rfl rfl rfl) ?_)) fun h5=>GE s st1 _ (Ab (Ef rfl rfl rfl) ?_)
  ·rw[if_pos h5]at hk;exact hk st1 e1
  ·rw[if_neg h5]at hk;exact hk st1 e1
 refine Aa (fun h1=>OI st _ (Ab (Ef rfl rfl rfl) ?_)) fun h1=>Aa (fun h2=>Aa (fun _=>JI _ st _ (Ab (Ef rfl rfl rfl) ?_)) fun h=>absurd h2 h) fun h2=>Aa (fun h3=>JI _ st _ (Ab (Ef rfl rfl rfl) ?_)) fun h3=>tail h1 h2 h3
 ·rw[if_pos h1]at hk;exact hk st e0
 ·rw[if_neg h1,if_pos (show s=Mm from h2)]at hk
  rw[decide_eq_true h2];exact hk st e0
 ·rw[if_neg h1,if_neg (show ¬s=Mm from h2),if_pos (show s=LG from h3)]at hk
  rw[decide_eq_false h2];exact hk st e0
theorem Pn {s:B8} {qd:Bool} (hl:s.length<=1000000) {K:KG13} (hk:KC K (DI ty qd s) st):
  Ad PR Cj [.str s,.bool qd,.agg [.int .u8 a,.int .u8 q,.bool hd,.bool ty]] [.agg Uo] st K:=by
 unfold DI at hk
 refine Iz s qd a q hd ty st K (Ar (fun g=>?_) fun g=>Ar (fun g2=>?_) fun g2=>?_)
 ·rw[if_pos (.inr g)]at hk;exact hk
 ·have:ty=false:=by simpa using g2
  rw[if_pos (.inl this)]at hk;exact hk
 have g2:ty=true:=by simpa using g2
 rw[if_neg (by rw[g,g2];simp)]at hk
 refine⟨fun s' _ _ _ _ _ _ _ _ _ _ _ _ _ n7 b3 b4 s3 n8 n9 n10 n11 n12 s4 v4 v5 v6 st'=>s=s'/\4=n7/\false=b3/\false=b4/\[]=s3/\0=n8/\0=n9/\0=n10/\0=n11/\0=n12/\s=s4/\.nilSlice=v4/\.nilSlice=v5/\.nilSlice=v6/\st=st'/\s≠ []/\s≠Mm/\s≠LG,
  Aa (fun h1=>?_) fun h1=>Aa (fun h2=>Aa (fun _=>?_) fun h=>absurd h2 h) fun h2=>Aa (fun h3=>?_) fun h3=>⟨rfl,rfl,rfl,rfl,rfl,rfl,rfl,rfl,rfl,rfl,rfl,rfl,rfl,rfl,rfl,h1,h2,h3⟩,?_⟩
 ·rw[if_pos h1]at hk;exact hk
 ·rw[if_neg h1,if_pos (show s=Mm from h2)]at hk
  rw[decide_eq_true h2];exact hk
 ·rw[if_neg h1,if_neg (show ¬s=Mm from h2),if_pos (show s=LG from h3)]at hk
  rw[decide_eq_false h2];exact hk
 rintro _ _ _ _ _ _ _ _ _ _ _ _ _ _ _ _ _ _ _ _ _ _ _ _ _ _ _ _ ⟨rfl,rfl,rfl,rfl,rfl,rfl,rfl,rfl,rfl,rfl,rfl,rfl,rfl,rfl,rfl,h1,h2,h3⟩
 rw[if_neg h1,if_neg h2,if_neg h3]at hk
 refine W4 hl fun b2=>Aa (fun hn=>rP_ok hl ?_) fun hn=>rtP_ok hl ?_
 ·have ht:=VF hn
  rw[if_neg ht]at hk
  unfold KD
  generalize dcP s=d at*
  refine Aa (fun h4=>?_) fun h4=>Ab (Ef rfl rfl rfl) ?_
  ·rw[if_pos h4]at hk;exact hk
  ·rw[if_neg h4]at hk;exact hk
 ·have he:=(QH s).2 hn
  rw[if_neg (by omega)]at hk
  unfold KT
  generalize tmP s=t at*
  refine Aa (fun h4=>?_) fun h4=>Ab (Ef rfl rfl rfl) ?_
  ·rw[if_pos h4]at hk;exact hk
  ·rw[if_neg h4]at hk;exact hk
end
end
section
structure Un (a q:Int) (rs:List Nd) (W:Nat):Prop where
 form:∀r,r∈rs->RecF a q r
 wid:∀r,r∈rs->(AC r).length=W
 len:∀r,r∈rs->∀k,k∈AC r->(txt q (A6 k)).length<=65536/\(A6 k).length<=2000000
 cnt:rs.length<=2000000
 wlen:W<=10000000
def Ej (q:Int) (hd ty:Bool):List (List B8)->List Vl
 | []=>[]
 | h::t=>if hd then t.map fun r=>RH (h.map (txt q)) (CY q ty r)else(h::t).map fun r=>CS ((CY q ty r).map Bw)
theorem EI (q:Int) (ty:Bool) (l:List (List B8)):Ej q false ty l=l.map fun r=>CS ((CY q ty r).map Bw):=by
 cases l<;>rfl
theorem Nm {q:Int} {ty:Bool} {l:List (List B8)} {j:Nat} {row:List B8} (h:l[j]? =some row):Ej q false ty (l.take (j+1))=Ej q false ty (l.take j)++[CS ((CY q ty row).map Bw)]:=by
 rw[EI,EI,List.take_add_one,h,List.map_append];rfl
theorem Q5 (q:Int) (ty:Bool) (l:List (List B8)):Ej q true ty (l.take 1)=[]:=by
 cases l<;>rfl
theorem Nl {q:Int} {ty:Bool} {l:List (List B8)} {j:Nat} {row h0:List B8} (h:l[j]? =some row) (hj:0<j) (h1:l[0]? =some h0):Ej q true ty (l.take (j+1))=Ej q true ty (l.take j)++[RH (h0.map (txt q)) (CY q ty row)]:=by
 cases l with
 | nil=>cases h1
 | cons x t=>
  obtain⟨i,rfl⟩:∃i,j=i+1:=⟨j-1,by omega⟩
  simp only[List.getElem?_cons_zero,Option.some.injEq]at h1
  subst h1
  simp only[List.getElem?_cons_succ]at h
  show(t.take (i+1)).map _=(t.take i).map _++_
  rw[List.take_add_one,h,List.map_append];rfl
theorem vr_leaf (s:Sc) (h:s.bytes=[]):VlR St.zero (Bw s) (Bk s .nilSlice .nilSlice .nilSlice):=SQ St.zero s h
theorem Uu {l:List Vl} {u:TV} {xs:List TV} (h:Rd 13 u l.length xs) (hv:VsR St.zero l xs):VlR St.zero (CS l) (Bk (scW 6) .nilSlice u .nilSlice):=by
 unfold CS VlR
 exact⟨_,_,_,xs,[],rfl,.of_rd (.inl ⟨rfl,rfl,rfl⟩),.of_rd h,hv,.of_rd (.inl ⟨rfl,rfl,rfl⟩),by unfold FsR;rfl⟩
theorem vr_map {f:List Fd} {u:TV} {xs:List TV} (h:Rd 14 u f.length xs) (hv:FsR St.zero f xs):VlR St.zero (P4 f) (Bk (scW 7) .nilSlice .nilSlice u):=by
 unfold P4 VlR
 exact⟨_,_,_,[],xs,rfl,.of_rd (.inl ⟨rfl,rfl,rfl⟩),.of_rd (.inl ⟨rfl,rfl,rfl⟩),by unfold VsR;rfl,.of_rd h,hv⟩
theorem Wz {q:Int} {ty:Bool} {ks:List Nd} {m:Nat} {k:Nd} (h:ks[m]? =some k):(CY q ty (ks.map A6))[m]? =some (DI ty (BE q (A6 k)) (txt q (A6 k))):=by
 unfold CY
 rw[List.getElem?_map,List.getElem?_map,h];rfl
theorem Ry (q:Int) (ty:Bool) (l:List B8):(CY q ty l).length=l.length:=by unfold CY;rw[List.length_map]
theorem Vi {q:Int} {ty:Bool} {ks:List Nd} {m:Nat} {k:Nd} (h:ks[m]? =some k):((CY q ty (ks.map A6)).take (m+1)).map Bw=((CY q ty (ks.map A6)).take m).map Bw++[Bw (DI ty (BE q (A6 k)) (txt q (A6 k)))]:=by
 rw[List.take_add_one,Wz h,List.map_append];rfl
def GU (names:List B8) (row:List Sc):List Fd:=List.zipWith (fun k s=>Fd.mk k (Bw s)) names row
theorem Vj {names:List B8} {row:List Sc} {m:Nat} {nm:B8} {s:Sc} (h1:names[m]? =some nm) (h2:row[m]? =some s):GU (names.take (m+1)) (row.take (m+1))=GU (names.take m) (row.take m)++[Fd.mk nm (Bw s)]:=by
 unfold GU
 rw[<-List.take_zipWith,<-List.take_zipWith,List.take_add_one]
 congr 1
 rw[List.getElem?_zipWith,h1,h2];rfl
section
variable {a q:Int} {hd ty:Bool} {st:St}
end
end
section
theorem Jh.nil (v:TV):Jh .nilSlice v:=fun id h=>by cases h
section
variable {a q:Int} {hd ty:Bool} {st:St}
theorem gOf_ok {rs:List Nd} {cs:List TV} {W:Nat} (hc:NdC (.mk 1 [] [] rs []) cs) (hT:Un a q rs W) {K:KG13}
  (hk2:∀u xs st',AN st st'->Rd 13 u (Ej q hd ty (BX rs)).length xs->VsR St.zero (Ej q hd ty (BX rs)) xs->K 6 false false [] 0 0 0 0 0 [] .nilSlice u .nilSlice st'):
  Ad PR D5 [.agg cs,.agg [.int .u8 a,.int .u8 q,.bool hd,.bool ty]] [.agg Uo] st K:=by
 have w1:∀k:Nat,k<=100000000->i64.wrap ((k:Int)+1)=((k+1:Nat):Int):=fun k hk=>by rw[Al _ (by omega) (by omega)];omega
 have tn:∀k:Nat,Int.toNat (k:Int)=k:=fun k=>rfl
 unfold NdC at hc
 obtain⟨v,xs,rfl,hr,hx⟩:=hc
 have hcnt:=hT.cnt
 have hwl:=hT.wlen
 have hraw:∀{j:Nat} {r:Nd},rs[j]? =some r->(BX rs)[j]? =some ((AC r).map A6):=fun {j r} h=>by unfold BX;rw[List.getElem?_map,h];rfl
 have hrawl:(BX rs).length=rs.length:=by unfold BX;rw[List.length_map]
 refine J9 _ _ _ _ _ a q hd ty st K ⟨fun zn zi y0 y1 y2 zv y3 c1 c2 b1 b2 kA boA ngA dgA exA tkA tdA tnA tzA txA u0A u1A u2A kB boB ngB dgB exB tkB tdB tnB tzB txB u0B u1B u2B st'=>v=zv/\a=c1/\q=c2/\hd=b1/\ty=b2/\6=kB/\false=boB/\false=ngB/\[]=dgB/\0=exB/\0=tkB/\0=tdB/\0=tnB/\0=tzB/\[]=txB/\.nilSlice=u0B/\.nilSlice=u2B/\AN st st'/\∃j:Nat,zi=(j:Int)/\j<=rs.length/\(0<j->hd=true->∀r0,rs[0]? =some r0->Rd 1 zn W (((AC r0).map fun k=>txt q (A6 k)).map TV.str))/\∃xs,Own st.nt 13 st' u1B (Ej q hd ty ((BX rs).take j)).length xs/\VsR St.zero (Ej q hd ty ((BX rs).take j)) xs,
  fun _ zi _ _ _ _ _ _ _ _ _ _ _ _ _ _ _ _ _ _ _ _ _ _ _ _ _ _ _ _ _ _ _ _ _ _ _ _=>(rs.length-zi).toNat,⟨rfl,rfl,rfl,rfl,rfl,rfl,rfl,rfl,rfl,rfl,rfl,rfl,rfl,rfl,rfl,rfl,rfl,AN.refl _,0,rfl,Nat.zero_le _,fun h=>absurd h (Nat.lt_irrefl _),[],by rw[List.take_zero];exact Own.nil _ _ _,by rw[List.take_zero];exact VsR.nil _⟩,?_⟩
 rintro nmT _ y0 y1 y2 _ y3 _ _ _ _ kA boA ngA dgA exA tkA tdA tnA tzA txA u0A u1A u2A _ _ _ _ _ _ _ _ _ _ _ vB _ st1 ⟨rfl,rfl,rfl,rfl,rfl,rfl,rfl,rfl,rfl,rfl,rfl,rfl,rfl,rfl,rfl,rfl,rfl,e1,j,rfl,hj,hnm,zs,hB,hBv⟩
 refine Ab hr.isSl ?_
 rw[hr.lenS]
 refine Aa (fun g=>?_) fun g=>?_
 case refine_2=>
  have hjl:(BX rs).take j=BX rs:=List.take_of_length_le (by omega)
  rw[hjl]at hB hBv
  exact Ab (Ef rfl hB.rd.one rfl) (hk2 _ zs _ e1 hB.rd hBv)
 have hjlt:j<rs.length:=by omega
 obtain⟨r,hjr⟩:∃r,rs[j]? =some r:=⟨_,List.getElem?_eq_getElem hjlt⟩
 have hmem:=List.mem_of_getElem? hjr
 have hwid:=hT.wid r hmem
 obtain⟨ents,tail,hrE,hne,hents⟩:=hT.form r hmem
 obtain⟨hp1,rc,u,ys0,hrc,hld,hu,hy,_⟩:=UO hr hx hjr
 have hke:AC r=ents:=by rw[hrE];rfl
 rw[hke]at hu hy
 refine⟨fun zt zk zn zi y0 y1 y2 zv y3 c1 c2 b7 b8 kA boA ngA dgA exA tkA tdA tnA tzA txA u0A u1A u2A kB boB ngB dgB exB tkB tdB tnB tzB txB u0B u1B u2B kC boC ngC dgC exC tkC tdC tnC tzC txC u0C u1C u2C st'=>nmT=zn/\(j:Int)=zi/\v=zv/\a=c1/\q=c2/\hd=b7/\ty=b8/\6=kB/\false=boB/\false=ngB/\[]=dgB/\0=exB/\0=tkB/\0=tdB/\0=tnB/\0=tzB/\[]=txB/\.nilSlice=u0B/\.nilSlice=u2B/\vB=u1B/\6=kC/\false=boC/\false=ngC/\[]=dgC/\0=exC/\0=tkC/\0=tdC/\0=tnC/\0=tzC/\[]=txC/\.nilSlice=u0C/\.nilSlice=u2C/\AN st1 st'/\∃m':Nat,zk=(m':Int)/\m'<=W/\Own st1.nt 1 st' zt m' ((((AC r).take m').map fun k=>txt q (A6 k)).map TV.str)/\Jh zt u1C/\∃ys,Own st1.nt 13 st' u1C m' ys/\VsR St.zero (((CY q ty ((AC r).map A6)).take m').map Bw) ys,
  fun _ zk _ _ _ _ _ _ _ _ _ _ _ _ _ _ _ _ _ _ _ _ _ _ _ _ _ _ _ _ _ _ _ _ _ _ _ _ _ _ _ _ _ _ _ _ _ _ _ _ _ _ _=>(W-zk).toNat,⟨rfl,rfl,rfl,rfl,rfl,rfl,rfl,rfl,rfl,rfl,rfl,rfl,rfl,rfl,rfl,rfl,rfl,rfl,rfl,rfl,rfl,rfl,rfl,rfl,rfl,rfl,rfl,rfl,rfl,rfl,rfl,rfl,AN.refl _,0,rfl,Nat.zero_le _,Own.nil _ _ _,Jh.nil _,[],Own.nil _ _ _,by rw[List.take_zero];exact VsR.nil _⟩,?_⟩
 rintro vt _ _ _ z0 z1 z2 _ z3 _ _ _ _ kA boA ngA dgA exA tkA tdA tnA tzA txA u0A u1A u2A _ _ _ _ _ _ _ _ _ _ _ _ _ _ _ _ _ _ _ _ _ _ _ _ vC _ st2 ⟨rfl,rfl,rfl,rfl,rfl,rfl,rfl,rfl,rfl,rfl,rfl,rfl,rfl,rfl,rfl,rfl,rfl,rfl,rfl,rfl,rfl,rfl,rfl,rfl,rfl,rfl,rfl,rfl,rfl,rfl,rfl,rfl,e2,m,rfl,hm,hvt,hap,ys,hC,hCv⟩
 rw[hr.lenZ,tn]
 refine⟨⟨by omega,by omega⟩,Ab hp1 (Ae (hld _) (Ab hu.isSl ?_))⟩
 rw[hu.lenS]
 refine Aa (fun g2=>?_) fun g2=>?_
 ·have hmlt:m<ents.length:=by omega
  have hmWl:m<W:=by rw[<-hwid,hke];exact hmlt
  obtain⟨en,hem⟩:∃k,ents[m]? =some k:=⟨_,List.getElem?_eq_getElem hmlt⟩
  have hef:=hents en (List.mem_of_getElem? hem)
  have hkl:=hT.len r hmem en (by rw[hke];exact List.mem_of_getElem? hem)
  have hkm:(AC r)[m]? =some en:=by rw[hke];exact hem
  obtain⟨hp2,ec,w,ws,hec,hld2,hw,hz,hw3⟩:=UO hu hy hem
  obtain⟨w',ws',rfl,hw',hpos,hwl2,hwp⟩:=ent_ld hef hec
  simp only[List.getElem?_cons_succ,List.getElem?_cons_zero,Option.some.injEq]at hw3
  subst hw3
  refine⟨⟨by omega,by omega⟩,Ab hp1 (Ae (hld _) ?_)⟩
  rw[hu.lenZ,tn]
  refine⟨⟨by omega,by omega⟩,Ab hp2 (Ae (hld2 _) ?_)⟩
  rw[hw.lenZ]
  refine⟨⟨by omega,by omega⟩,Ab hwp (Ae (hwl2 _) (AB ?_))⟩
  have hcw:J1 q (A6 en):=by
   obtain⟨c,mark,rfl,hcw,_⟩:=hef
   exact hcw
  refine O7 hcw (by omega) ?_
  refine Lo e2 hvt hC hap (by omega) (fun h=>by cases h) fun v5 st5 e5 _ o5 hC5 hap5=>?_
  have htk:(((AC r).take m).map fun k=>txt q (A6 k)).map TV.str++[TV.str (txt q (A6 en))]=(((AC r).take (m+1)).map fun k=>txt q (A6 k)).map TV.str:=by
   rw[List.take_add_one,hkm];simp
  have hq1:A6 en≠ []->decide ((((A6 en).getD 0 0).toNat:Int)=q)=BE q (A6 en):=fun h=>by
   unfold BE
   exact decide_eq_decide.2 ⟨fun g=>fun h'=>h'.elim h fun h''=>h'' g,fun g=>Decidable.not_not.1 fun h'=>g (.inr h')⟩
  have hq0:¬A6 en≠ []->false=BE q (A6 en):=fun h=>by
   unfold BE
   exact(decide_eq_false fun g=>g (.inl (Decidable.not_not.1 h))).symm
  have hcb:=Jd ty (BE q (A6 en)) (txt q (A6 en))
  refine Aa (fun g3=>⟨⟨by omega,by have:=List.length_pos_iff.2 g3;omega⟩,Pn (by omega) ?qa⟩) fun g3=>Pn (by omega) ?qb
  case qa | qb=>
   first
    | rw[show decide ((((A6 en).getD (Int.toNat 0) 0).toNat:Int)=q)=BE q (A6 en)from hq1 g3]
    | rw[hq0 g3]
   unfold KC
   refine Ab (Ef rfl rfl rfl) ?_
   refine Lo e5 hC5 o5 hap5.symm (by omega) (fun h=>by cases h) fun v6 st6 e6 _ o6 o56 hap6=>Ab (List.all_eq_true.2 fun x hx=>by rw[List.mem_singleton.1 hx];exact o6.rd.one) ?_
   rw[w1 m (by omega)]
   rw[htk]at o56
   refine⟨⟨rfl,rfl,rfl,rfl,rfl,rfl,rfl,rfl,rfl,rfl,rfl,rfl,rfl,rfl,rfl,rfl,rfl,rfl,rfl,rfl,rfl,rfl,rfl,rfl,rfl,rfl,rfl,rfl,rfl,rfl,rfl,rfl,e6,m+1,rfl,by omega,o56,hap6.symm,_,o6,?_⟩,by dsimp only;omega⟩
   rw[Vi hkm]
   exact hCv.snoc (vr_leaf _ hcb)
 ·have hmW:m=W:=by rw[hke]at hwid;omega
  subst hmW
  have hrl:(CY q ty ((AC r).map A6)).length=m:=by rw[Ry,List.length_map];exact hwid
  have hfull:(CY q ty ((AC r).map A6)).take m=CY q ty ((AC r).map A6):=List.take_of_length_le (by omega)
  have hkfull:(AC r).take m=AC r:=List.take_of_length_le (by omega)
  rw[hfull]at hCv
  rw[hkfull]at hvt
  refine Ar (fun hh=>?_) fun hh=>Aa (fun g0=>?_) fun g0=>?_
  ·have hhd:hd=false:=by simpa using hh
   subst hhd
   have hx:VlR St.zero (CS ((CY q ty ((AC r).map A6)).map Bw)) (Bk (scW 6) .nilSlice vC .nilSlice):=Uu (by rw[List.length_map,hrl];exact hC.rd) hCv
   refine Ab (Ef rfl hC.rd.one rfl) ?_
   have hlen:(Ej q false ty ((BX rs).take j)).length<=2000000:=by rw[EI,List.length_map,List.length_take];omega
   refine CV (e1.trans e2) rfl (hB.ext e2) (by omega) (fun h=>by cases h) fun v' st6 e6 _ ho'=>Ab (List.all_eq_true.2 fun x hx=>by rw[List.mem_singleton.1 hx];exact ho'.rd.one) ?_
   rw[w1 j (by omega)]
   refine⟨⟨rfl,rfl,rfl,rfl,rfl,rfl,rfl,rfl,rfl,rfl,rfl,rfl,rfl,rfl,rfl,rfl,rfl,e6,j+1,rfl,by omega,fun _ h=>(by cases h),zs++Bk (scW 6) .nilSlice vC .nilSlice,?_,?_⟩,by dsimp only;omega⟩
   ·rw[Nm (hraw hjr),List.length_append];exact ho'
   ·rw[Nm (hraw hjr)];exact hBv.snoc hx
  ·have hhd:hd=true:=by cases hd;exact absurd hh (by decide);rfl
   subst hhd
   have hj0:j=0:=by omega
   subst hj0
   rw[w1 0 (by omega)]
   refine⟨⟨rfl,rfl,rfl,rfl,rfl,rfl,rfl,rfl,rfl,rfl,rfl,rfl,rfl,rfl,rfl,rfl,rfl,e1.trans e2,1,rfl,by omega,fun _ _ r0 h0=>?_,zs,?_,?_⟩,by dsimp only;omega⟩
   ·rw[hjr]at h0
    cases h0
    exact hvt.rd
   ·rw[Q5]
    rw[List.take_zero]at hB
    exact hB.ext e2
   ·rw[Q5]
    rw[List.take_zero]at hBv
    exact hBv
  ·have hhd:hd=true:=by cases hd;exact absurd hh (by decide);rfl
   subst hhd
   obtain⟨r0,hj0⟩:∃r,rs[0]? =some r:=⟨_,List.getElem?_eq_getElem (by omega)⟩
   have hN:=hnm (by omega) rfl r0 hj0
   have hmem0:=List.mem_of_getElem? hj0
   have hwid0:=hT.wid r0 hmem0
   refine⟨fun zk zn zi y0 y1 y2 zv y3 c1 c2 b7 b8 kA boA ngA dgA exA tkA tdA tnA tzA txA u0A u1A u2A kB boB ngB dgB exB tkB tdB tnB tzB txB u0B u1B u2B kC boC ngC dgC exC tkC tdC tnC tzC txC u0C u1C u2C kD boD ngD dgD exD tkD tdD tnD tzD txD u0D u1D u2D st'=>nmT=zn/\(j:Int)=zi/\v=zv/\a=c1/\q=c2/\true=b7/\ty=b8/\6=kB/\false=boB/\false=ngB/\[]=dgB/\0=exB/\0=tkB/\0=tdB/\0=tnB/\0=tzB/\[]=txB/\.nilSlice=u0B/\.nilSlice=u2B/\vB=u1B/\6=kC/\false=boC/\false=ngC/\[]=dgC/\0=exC/\0=tkC/\0=tdC/\0=tnC/\0=tzC/\[]=txC/\.nilSlice=u0C/\.nilSlice=u2C/\vC=u1C/\7=kD/\false=boD/\false=ngD/\[]=dgD/\0=exD/\0=tkD/\0=tdD/\0=tnD/\0=tzD/\[]=txD/\.nilSlice=u0D/\.nilSlice=u1D/\AN st2 st'/\∃p:Nat,zk=(p:Int)/\p<=m/\∃ws,Own st2.nt 14 st' u2D p ws/\FsR St.zero (GU ((((AC r0).map A6).map (txt q)).take p) ((CY q ty ((AC r).map A6)).take p)) ws,
    fun zk _ _ _ _ _ _ _ _ _ _ _ _ _ _ _ _ _ _ _ _ _ _ _ _ _ _ _ _ _ _ _ _ _ _ _ _ _ _ _ _ _ _ _ _ _ _ _ _ _ _ _ _ _ _ _ _ _ _ _ _ _ _ _ _=>(m-zk).toNat,⟨rfl,rfl,rfl,rfl,rfl,rfl,rfl,rfl,rfl,rfl,rfl,rfl,rfl,rfl,rfl,rfl,rfl,rfl,rfl,rfl,rfl,rfl,rfl,rfl,rfl,rfl,rfl,rfl,rfl,rfl,rfl,rfl,rfl,rfl,rfl,rfl,rfl,rfl,rfl,rfl,rfl,rfl,rfl,rfl,rfl,AN.refl _,0,rfl,Nat.zero_le _,[],Own.nil _ _ _,by rw[List.take_zero,List.take_zero];exact FsR.nil _⟩,?_⟩
   rintro _ _ _ x0 x1 x2 _ x3 _ _ _ _ kA boA ngA dgA exA tkA tdA tnA tzA txA u0A u1A u2A _ _ _ _ _ _ _ _ _ _ _ _ _ _ _ _ _ _ _ _ _ _ _ _ _ _ _ _ _ _ _ _ _ _ _ _ _ _ vD st3 ⟨rfl,rfl,rfl,rfl,rfl,rfl,rfl,rfl,rfl,rfl,rfl,rfl,rfl,rfl,rfl,rfl,rfl,rfl,rfl,rfl,rfl,rfl,rfl,rfl,rfl,rfl,rfl,rfl,rfl,rfl,rfl,rfl,rfl,rfl,rfl,rfl,rfl,rfl,rfl,rfl,rfl,rfl,rfl,rfl,rfl,e3,p,rfl,hp,ws,hD,hDv⟩
   refine Ab hN.isSl ?_
   rw[hN.lenS,tn]
   refine Aa (fun g5=>?_) fun g5=>?_
   ·obtain⟨k0,hk0⟩:∃k,(AC r0)[p]? =some k:=⟨_,List.getElem?_eq_getElem (by omega)⟩
    have l0:Ac st3 [] (.t (ixT 1 nmT p)) 0=some (.str (txt q (A6 k0))):=hN.ldx st3 p 0 (by rw[Nat.mul_one,Nat.add_zero,List.getElem?_map,List.getElem?_map,hk0];rfl)
    refine⟨⟨by omega,by rw[hN.lenZ];omega⟩,Ae l0 (AB ?_)⟩
    refine el13 (L0 _) (l:=(CY q ty ((AC r).map A6)).map Bw) (.of_rd (by rw[List.length_map,hrl];exact hC.rd)) hCv rfl (by rw[List.length_map,hrl];omega) fun s' l' f' ub1 ul1 uf1 gw hw on=>?_
    refine Ab on ?_
    refine CV e3 rfl hD (by omega) (fun h=>by cases h) fun v' st6 e6 _ ho'=>Ab (List.all_eq_true.2 fun x hx=>by rw[List.mem_singleton.1 hx];exact ho'.rd.one) ?_
    rw[w1 p (by omega)]
    refine⟨⟨rfl,rfl,rfl,rfl,rfl,rfl,rfl,rfl,rfl,rfl,rfl,rfl,rfl,rfl,rfl,rfl,rfl,rfl,rfl,rfl,rfl,rfl,rfl,rfl,rfl,rfl,rfl,rfl,rfl,rfl,rfl,rfl,rfl,rfl,rfl,rfl,rfl,rfl,rfl,rfl,rfl,rfl,rfl,rfl,rfl,e6,p+1,rfl,by omega,_,ho',?_⟩,by dsimp only;omega⟩
    rw[List.getElem?_map]at gw
    obtain⟨sc,hsc,hle⟩:=Option.map_eq_some_iff.1 gw
    rw[Vj (nm:=txt q (A6 k0)) (by rw[List.getElem?_map,List.getElem?_map,hk0];rfl) hsc]
    refine hDv.snoc0 ?_
    unfold FdR
    exact⟨_,rfl,by rw[hle];exact hw⟩
   ·have hpW:p=m:=by omega
    subst hpW
    have hfull0:(((AC r0).map A6).map (txt q)).take p=((AC r0).map A6).map (txt q):=List.take_of_length_le (by rw[List.length_map,List.length_map];omega)
    rw[hfull,hfull0]at hDv
    have hfl:(GU (((AC r0).map A6).map (txt q)) (CY q ty ((AC r).map A6))).length=p:=by unfold GU;rw[List.length_zipWith,hrl,List.length_map,List.length_map];omega
    have hx:VlR St.zero (RH (((AC r0).map A6).map (txt q)) (CY q ty ((AC r).map A6))) (Bk (scW 7) .nilSlice .nilSlice vD):=vr_map (f:=GU (((AC r0).map A6).map (txt q)) (CY q ty ((AC r).map A6))) (by rw[hfl];exact hD.rd) hDv
    refine Ab (Ef rfl rfl hD.rd.one) ?_
    have hlen:(Ej q true ty ((BX rs).take j)).length<=2000000:=by
     cases hb:(BX rs).take j with
     | nil=>exact Nat.zero_le _
     | cons x y=>
      have:=congrArg List.length hb
      rw[List.length_take,List.length_cons]at this
      show(y.map _).length<=_
      rw[List.length_map];omega
    have e23:=e2.trans e3
    refine CV (e1.trans e23) rfl (hB.ext e23) (by omega) (fun h=>by cases h) fun v' st6 e6 _ ho'=>Ab (List.all_eq_true.2 fun x hx=>by rw[List.mem_singleton.1 hx];exact ho'.rd.one) ?_
    rw[w1 j (by omega)]
    refine⟨⟨rfl,rfl,rfl,rfl,rfl,rfl,rfl,rfl,rfl,rfl,rfl,rfl,rfl,rfl,rfl,rfl,rfl,e6,j+1,rfl,by omega,fun _ _ r0' h0'=>?_,zs++Bk (scW 7) .nilSlice .nilSlice vD,?_,?_⟩,by dsimp only;omega⟩
    ·rw[hj0]at h0'
     cases h0'
     exact hN
    ·rw[Nl (hraw hjr) (by omega) (hraw hj0),List.length_append];exact ho'
    ·rw[Nl (hraw hjr) (by omega) (hraw hj0)];exact hBv.snoc hx
end
end
theorem Wq (s:Sc):(Bw s).sz=1+s.bytes.length+s.text.length+s.dg.length:=szl' s
theorem Xw (ty qd:Bool) (s:B8):(Bw (DI ty qd s)).sz<=1+s.length:=by
 have hd:=dcP_len s
 rw[Wq,Jd]
 unfold DI
 by_cases h1:ty=false∨qd=true
 ·rw[if_pos h1];simp[tkT]
 rw[if_neg h1]
 by_cases h2:s=[]
 ·rw[if_pos h2];simp[scK]
 rw[if_neg h2]
 by_cases h3:s=Mm
 ·rw[if_pos h3];simp[tkB]
 rw[if_neg h3]
 by_cases h4:s=LG
 ·rw[if_pos h4];simp[tkB]
 rw[if_neg h4]
 by_cases h5:(dcP s).2.2.2=0
 ·rw[if_pos h5];simp[tkN];omega
 rw[if_neg h5]
 by_cases h6:(tmP s).2.2.2.2=0
 ·rw[if_pos h6];simp[tkM]
 rw[if_neg h6];simp[tkT]
theorem Qf (q:Int) (ty:Bool):∀r:List B8,Cw ((CY q ty r).map Bw)<=r.length+MQ r
 | []=>by simp[CY,Cw,MQ]
 | c::r=>by
  have h1:=Qf q ty r
  have h2:=Xw ty (BE q c) (txt q c)
  have h3:=Ux q c
  unfold CY at h1⊢
  simp only[List.map_cons,Cw,List.length_cons,MQ]at h1⊢;omega
theorem Us (M:Nat):∀(names:List B8) (row:List Sc),(∀t,t∈names->t.length<=M)->DJ (GU names row)<=row.length*M+Cw (row.map Bw)
 | [],row,h=>by simp[GU,DJ]
 | _::_,[],h=>by simp[GU,DJ]
 | t::ns,s::r,h=>by
  have h1:=Us M ns r fun x hx=>h x (.tail _ hx)
  have h2:=h t (.head _)
  unfold GU at h1⊢
  simp only[List.zipWith_cons_cons,DJ,Fd.sz,List.length_cons,List.map_cons,Cw,Nat.add_mul,Nat.one_mul]at h1⊢;omega
theorem Q7 (l:List Vl):(CS l).sz=1+Cw l:=by unfold CS;rw[szs];simp[scZ,DJ]
theorem vMap_sz (f:List Fd):(P4 f).sz=1+DJ f:=by unfold P4;rw[szs];simp[scZ,Cw]
theorem valL_sz {q:Int} {hd ty:Bool} {M:Nat} {l:List (List B8)} (h:hd=true->∀r,l.head? =some r->∀c,c∈r->(txt q c).length<=M):Cw (Ej q hd ty l)<=l.length+JE l*(1+M)+KM l:=by
 cases hd with
 | false=>
  rw[EI]
  clear h
  induction l with
  | nil=>simp[Cw]
  | cons r t ih=>
   have h1:=Qf q ty r
   simp only[List.map_cons,Cw,Q7,List.length_cons,JE,KM,Nat.add_mul,Nat.mul_add,Nat.mul_one]at ih⊢;omega
 | true=>
  cases l with
  | nil=>simp[Ej,Cw]
  | cons h0 t=>
   have hM:=h rfl h0 rfl
   have key:∀t:List (List B8),Cw (t.map fun r=>RH (h0.map (txt q)) (CY q ty r))<=t.length+JE t*(1+M)+KM t:=by
    intro t
    induction t with
    | nil=>simp[Cw]
    | cons r t ih=>
     have h1:=Qf q ty r
     have h2:=Us M (h0.map (txt q)) (CY q ty r) fun x hx=>by
      obtain⟨c,hc,rfl⟩:=List.mem_map.1 hx
      exact hM c hc
     rw[Ry]at h2
     have h3:(RH (h0.map (txt q)) (CY q ty r)).sz=1+DJ (GU (h0.map (txt q)) (CY q ty r)):=vMap_sz _
     simp only[List.map_cons,Cw,h3,List.length_cons,JE,KM,Nat.add_mul,Nat.mul_add,Nat.mul_one]at ih⊢;omega
   have:=key t
   show Cw (t.map fun r=>RH (h0.map (txt q)) (CY q ty r))<=_
   simp only[List.length_cons,JE,KM,Nat.add_mul]at this⊢;omega
theorem Xm {a q:Int} {s:B8} {i:Nat} {ks:List Nd} {e n:Nat} (h:Mf a q s i ks e n):i<=s.length->MQ (ks.map A6)+i<=e:=by
 induction h with
 | @last i e n h1 h2 h3=>
  intro hi
  have hl:=DY hi h1
  simp only[List.map_cons,List.map_nil,Ha,MQ]
  rw[MZ hl.1 hl.2];omega
 | @more i e e' n ks h1 h2 h3 h4 ih=>
  intro hi
  have hl:=DY hi h1
  have:=ih (by omega)
  simp only[List.map_cons,Ha,MQ]
  rw[MZ hl.1 hl.2];omega
theorem RD {a q:Int} {s:B8} {i:Nat} {rs:List Nd} (h:Me a q s i rs):i<=s.length->KM (BX rs)+i<=s.length/\JE (BX rs)+i<=s.length+1/\(i<s.length∨rs=[]->True)/\rs.length+i<=s.length:=by
 induction h with
 | nil h=>intro hi;simp[BX,KM,JE];omega
 | @cons i e n ks rs h1 h2 h3 ih=>
  intro hi
  have hle:=h2.le hi
  have hs:=Xm h2 hi
  have hn:=(F4 (by omega) hle.2.2.2.2).2.1
  obtain⟨a1,a2,_,a4⟩:=ih (by omega)
  have hk:BX (.mk 8 [] [] ks (slc s e (e+n))::rs)=ks.map A6::BX rs:=rfl
  rw[hk]
  simp only[KM,JE,List.length_map,List.length_cons]
  have hc:n=0->rs=[]:=fun h0=>by
   have:=hn h0
   cases rs with
   | nil=>rfl
   | cons x y=>simp only[List.length_cons]at a4;omega
  refine⟨by omega,?_,fun _=>trivial,?_⟩
  ·rcases Nat.eq_zero_or_pos n with h0 | h0
   ·rw[hc h0];simp[BX,JE];omega
   ·omega
  ·rcases Nat.eq_zero_or_pos n with h0 | h0
   ·rw[hc h0];simp;omega
   ·omega
theorem tree_of {a q:Int} {s:B8} {rs:List Nd} (h:Me a q s 0 rs) (hs:s.length<=1400000) (hlen:∀r,r∈rs->∀k,k∈AC r->(txt q (A6 k)).length<=65536) (hW:∃W:Int,∀r,r∈rs->((AC r).length:Int)=W):∃W,Un a q rs W:=by
 obtain⟨W,hW⟩:=hW
 obtain⟨h1,h2,_,h4⟩:=RD h (Nat.zero_le _)
 have mem:∀r,r∈rs->MQ ((AC r).map A6)<=s.length/\(AC r).length<=s.length+1:=by
  intro r hr
  obtain⟨j,hj⟩:=List.getElem?_of_mem hr
  have hj2:(BX rs)[j]? =some ((AC r).map A6):=by unfold BX;rw[List.getElem?_map,hj];rfl
  have:=Wt hj2
  rw[List.length_map]at this
  omega
 by_cases hne:rs=[]
 ·subst hne
  exact⟨0,⟨fun r hr=>(by cases hr),fun r hr=>(by cases hr),fun r hr=>(by cases hr),by simp,by omega⟩⟩
 refine⟨W.toNat,⟨h.form (Nat.zero_le _),fun r hr=>by have:=hW r hr;omega,fun r hr k hk=>⟨hlen r hr k hk,?_⟩,by omega,?_⟩⟩
 ·have h5:=Wr (List.mem_map.2 ⟨k,hk,rfl⟩:A6 k∈(AC r).map A6)
  have:=(mem r hr).1;omega
 ·obtain⟨r,t,rfl⟩:=List.exists_cons_of_ne_nil hne
  have:=hW r (.head _)
  have:=(mem r (.head _)).2
  omega
theorem Pa {n:Nd} {a q:Int} {hd:Bool} (h:WM n a q hd):∃rs W,n= .mk 1 [] [] rs []/\Un a q rs W:=by
 obtain⟨rs,rfl,_,_,_,_,_,hr,hl,hW⟩:=D3 h.2
 have hlen:=Xu h.1
 have hn:=LV (.mk 1 [] [] rs [])
 obtain⟨W,hT⟩:=tree_of hr (by show(IR (.mk 1 [] [] rs [])).length<=_;omega) hl hW
 exact⟨rs,W,rfl,hT⟩
theorem Gw {x:Cx} {hd:Bool} {l2 l3 l4:Int} {n:Nd} (h:CA x hd l2 l3 l4= .ok n):Ql x.s x.a x.q hd= .ok n:=by
 obtain⟨rs,rfl,hd1,hl,hle,hv,hdoc,hr,hlen,hW⟩:=D3 h
 unfold lOk at hl
 rw[decide_eq_true_eq]at hl
 obtain⟨rs1,q1,_,_,_,q6⟩:=Oh _ (Nat.zero_le _) hdoc
 rw[List.nil_append]at q1
 subst q1
 obtain⟨rs2,j1,j2,_,_⟩:=Xo (d':=48) (n':=65536) _ hdoc
 rw[List.nil_append]at j1
 subst j1
 have hdoc2:=j2 (.inr (by decide)) (by rcases q6 with q6 | q6<;>omega)
 show CA (xU x.s x.a x.q) hd 1048576 1024 65536=_
 unfold CA
 rw[if_neg (show ¬dOk x.a x.q=false by rw[hd1];decide),if_neg (show ¬lOk 48 65536 1048576 1024 65536=false by decide),if_neg (show ¬(1048576:Int)<(x.s.length:Int) by omega),if_neg (show ¬A5 x.s≠x.s.length by rw[hv];simp)]
 rw[show Em (xU x.s x.a x.q) hd ((xU x.s x.a x.q).s.length+1) [] 0 1 [] 0= .ok rs from hdoc2]
theorem val_sz {a q:Int} {hd ty:Bool} {rs:List Nd} {n:Nd} (h:WM n a q hd) (hn:n= .mk 1 [] [] rs []) (hcn:JE (BX rs)<=1600):(CS (Ej q hd ty (BX rs))).sz<=1+rs.length+JE (BX rs)*1025+KM (BX rs):=by
 subst hn
 obtain⟨rs',hn,_,_,_,_,hdoc,_⟩:=D3 h.2
 cases hn
 rw[Q7]
 have:=valL_sz (q:=q) (hd:=hd) (ty:=ty) (M:=1024) (l:=BX rs) (fun hb r hr c hc=>by
  subst hb
  cases rs with
  | nil=>cases hr
  | cons r0 t=>
   have hr:(AC r0).map A6=r:=by simpa [BX]using hr
   have:=(TO _ hdoc (Nat.zero_le _) r0 rfl).2
   subst hr
   obtain⟨k,hk,rfl⟩:=List.mem_map.1 hc
   exact this _ (List.mem_map.2 ⟨k,hk,rfl⟩))
 have hl:(BX rs).length=rs.length:=by unfold BX;rw[List.length_map]
 omega
theorem UI {a q:Int} {hd ty:Bool} {rs:List Nd} {s:B8} (h:Ql s a q hd= .ok (.mk 1 [] [] rs [])) (hs:s.length<=1500):(CS (Ej q hd ty (BX rs))).sz<=1600000:=by
 obtain⟨ht,_,ho⟩:=NN (by omega) h
 obtain⟨rs',hn,_,_,_,_,_,hr,_⟩:=D3 h
 cases hn
 obtain⟨h1,h2,_,h4⟩:=RD hr (Nat.zero_le _)
 have h1:KM (BX rs)+0<=s.length:=h1
 have h2:JE (BX rs)+0<=s.length+1:=h2
 have h4:rs.length+0<=s.length:=h4
 have:=val_sz (ty:=ty) ho rfl (by omega)
 omega
section
section
variable {a q:Int} {hd ty:Bool} {st:St}
theorem VP {s:B8} {l0 l1 l2 l3 l4:Int} (hl:s.length<=70000) {K:Int->Bool->Bool->B8->Int->Int->Int->Int->Int->B8->TV->TV->TV->Int->Int->St->Prop}
  (hk1:∀(p:Nat×Int) st',AN st st'->CA ⟨s,a,q,l0,l1⟩ hd l2 l3 l4= .error p->p.2≠0->K 0 false false [] 0 0 0 0 0 [] .nilSlice .nilSlice .nilSlice p.1 p.2 st')
  (hk2:∀rs u xs st',AN st st'->CA ⟨s,a,q,l0,l1⟩ hd l2 l3 l4= .ok (.mk 1 [] [] rs [])->Rd 13 u (Ej q hd ty (BX rs)).length xs->VsR St.zero (Ej q hd ty (BX rs)) xs->K 6 false false [] 0 0 0 0 0 [] .nilSlice u .nilSlice 0 0 st'):
  Ad PR Dv [.str s,.agg [.int .u8 a,.int .u8 q,.bool hd,.bool ty],.agg [.int .i64 l0,.int .i64 l1,.int .i64 l2,.int .i64 l3,.int .i64 l4]] [.agg Uo,.one (.int .i64),.one (.int .i64)] st K:=by
 refine Iy s a q hd ty l0 l1 l2 l3 l4 st K (Vt (x:=⟨s,a,q,l0,l1⟩) (by show s.length<=_;omega) fun k kv st1 e1 hn=>?_)
 obtain⟨_,_,_,_,_,h5,ho⟩:=hn.five
 cases h5
 rcases hP:CA ⟨s,a,q,l0,l1⟩ hd l2 l3 l4 with p | n
 ·rw[hP]at hk1
  have hne:=Tm hP
  exact Ab (Kg ho) (Aa (fun _=>hk1 p st1 e1 rfl hne) fun g=>absurd hne g)
 ·rw[hP]at hn hk2
  obtain⟨rs,hrs,_⟩:=D3 hP
  subst hrs
  have hU:=Gw hP
  obtain⟨htx,_,hou⟩:=NN (show s.length<=70000 from hl) hU
  obtain⟨rs',W,he,hT⟩:=Pa hou
  have he:Nd.mk 1 [] [] rs []= .mk 1 [] [] rs' []:=he
  cases he
  exact Ab (Kg ho) (Aa (fun g=>absurd rfl g) fun _=>gOf_ok hn hT fun u xs st2 e2 hu hx=>Ab (Ef rfl hu.one rfl) (hk2 rs u xs st2 (e1.trans e2) rfl hu hx))
end
end
theorem dA:dOk 44 34=true:=by decide
theorem Wj (l m:List Vl):Cw (l++m)=Cw l+Cw m:=by
 induction l with
 | nil=>simp[Cw]
 | cons v r ih=>simp only[List.cons_append,Cw,ih];omega
theorem Xc (l m:List Fd):DJ (l++m)=DJ l+DJ m:=by
 induction l with
 | nil=>simp[DJ]
 | cons v r ih=>simp only[List.cons_append,DJ,ih];omega
structure SC where
 a:Int
 q:Int
 hd:Bool
 ty:Bool
 dep:Int
 nod:Int
 win:Nat
inductive Ev where
 | ls
 | le
 | ms
 | me
 | key (k:B8)
 | val (s:Sc)
structure RA where
 ph:Nat
 within:Bool
 rows:Nat
 cells:Nat
 width:Nat
 names:List B8
 told:Bool
 nodes:Int
 frm:Int
 line:Int
 late:Int
 out:List Ev
 off:Int
 err:Int
 held:B8
def RA.start:RA:=⟨0,false,0,0,0,[],false,1,0,0,0,[],0,0,[]⟩
def Bd (A:RA) (off e:Int):RA:=if A.err=0 then {A with off:=off,err:=e,held:=[]} else {A with held:=[]}
def BK (A:RA) (e:Int):RA:=if A.late=0 then {A with late:=e} else A
def AR (c:SC) (A:RA):Bool:=c.hd&&decide (A.rows=0)
def Fi (A:RA):RA:={A with nodes:=A.nodes+1}
def BG (c:SC) (A:RA) (d:Int):RA:=Fi (if c.dep<d then BK A 9 else if c.nod<=A.nodes then BK A 10 else A)
def AI (c:SC) (A:RA) (at_:Int):RA:=
 if A.within=true then {A with frm:=at_} else if AR c A=true then {A with frm:=at_,within:=true,cells:=0} else BG c {A with frm:=at_,within:=true,cells:=0} 2
def Cs (A:RA):RA:=if 0<A.rows/\A.width<=A.cells then BK A 10 else A
def D6 (c:SC) (A:RA):RA:=if AR c A=true then A else BG c A 3
def AJ (c:SC) (A:RA) (at_:Int):RA:=D6 c (Cs (AI c A at_))
def CC (c:SC) (b:UInt8) (A:RA):RA:=if c.win<=A.held.length then Bd A A.frm 28 else {A with held:=A.held++[b]}
def AX (c:SC) (A:RA):RA:=
 if A.late≠0 then Bd {A with held:=[]} A.frm A.late
 else if AR c A=true then
  let B:=if 1024<(txt c.q A.held).length then Bd {A with held:=[]} A.frm 10 else if txt c.q A.held∈A.names then Bd {A with held:=[]} A.frm 8 else {A with held:=[]}
  {B with names:=A.names++[txt c.q A.held],cells:=A.cells+1}
 else if 65536<(txt c.q A.held).length then Bd {A with held:=[]} A.frm 10
 else {A with held:=[],cells:=A.cells+1,out:=A.out++((if A.cells=0 then [if c.hd then .ms else .ls]else [])++((if c.hd then [Ev.key (A.names.getD A.cells [])]else [])++[.val (DI c.ty (BE c.q A.held) (txt c.q A.held))]))}
def Cu (A:RA):RA:=if A.rows=0 then {A with width:=A.cells,told:=true} else A
def CG (c:SC) (B:RA) (at_:Int):RA:=if B.cells<B.width then Bd B at_ 10
 else {B with out:=B.out++(if AR c B=true then []else [if c.hd then .me else .le]),rows:=B.rows+1,within:=false,ph:=0}
def AH (c:SC) (A:RA) (at_:Int):RA:=if A.err≠0 then A else CG c (Cu A) at_
def Dk (c:SC) (b:UInt8) (at_:Int) (A:RA):RA:=
 if (AX c A).err≠0 then AX c A
 else if (b.toNat:Int)=c.a then {AX c A with ph:=0}
 else if (b.toNat:Int)=10 then AH c (AX c A) at_
 else if (b.toNat:Int)=13 then {AX c A with ph:=4,line:=at_}
 else Bd (AX c A) at_ 3
def Fm (A:RA) (at_ e:Int):RA:=Bd (if A.late≠0 then Bd A A.frm A.late else A) at_ e
def CI (c:SC) (b:UInt8) (at_:Int) (A:RA):RA:=
 if (b.toNat:Int)=c.a∨(b.toNat:Int)=10∨(b.toNat:Int)=13 then Dk c b at_ A
 else if (b.toNat:Int)=c.q then Fm A at_ 3 else CC c b A
def Bj (c:SC) (b:UInt8) (at_:Int) (A:RA):RA:=
 if A.ph=0 then(if (b.toNat:Int)=c.q then CC c b {AJ c A at_ with ph:=2} else CI c b at_ {AJ c A at_ with ph:=1})
 else if A.ph=1 then CI c b at_ A
 else if A.ph=2 then CC c b (if (b.toNat:Int)=c.q then {A with ph:=3} else A)
 else if A.ph=3 then(if (b.toNat:Int)=c.q then CC c b {A with ph:=2} else Dk c b at_ A)
 else if (b.toNat:Int)≠10 then Bd A A.line 3 else AH c A A.line
def EB (c:SC) (size:Int) (A:RA):RA:=
 if A.ph=2∨A.ph=4 then Fm A size 4
 else if A.ph=0 then(if A.within=true then AH c (AX c (AJ c A size)) size else A)
 else AH c (AX c A) size
def Cp (c:SC):B8->Int->RA->RA
 | [],_,A=>A
 | b::r,i,A=>if A.err≠0 then A else Cp c r (i+1) (Bj c b i A)
def Qx (c:SC) (size:Int) (A:RA):RA:=if A.err=0 then EB c size A else A
def Bi (c:SC) (s:B8) (i:Nat) (A:RA):RA:=Qx c s.length (Cp c (s.drop i) i A)
def obs (A:RA):Except (Int×Int) (List Ev×List B8):=if A.err=0 then .ok (A.out,A.names)else .error (A.off,A.err)
theorem Jm {A:RA} (h:A.err≠0):obs A= .error (A.off,A.err):=if_neg h
theorem NB {c:SC} {A:RA} (h:A.err≠0):∀(l:B8) (i:Int),Cp c l i A=A
 | [],_=>rfl
 | b::r,i=>by rw[Cp,if_pos h]
theorem Jr {c:SC} {s:B8} {i:Nat} {A:RA} (h:A.err≠0):Bi c s i A=A:=by
 unfold Bi Qx
 rw[NB h,if_neg h]
theorem Cm {c:SC} {s:B8} {i:Nat} {A:RA} (hi:i<s.length) (h:A.err=0):Bi c s i A=Bi c s (i+1) (Bj c (s.getD i 0) i A):=by
 unfold Bi
 have hd:s.drop i=s.getD i 0::s.drop (i+1):=by
  rw[List.drop_eq_getElem_cons hi,List.getD_eq_getElem?_getD,List.getElem?_eq_getElem hi];rfl
 rw[hd,Cp,if_neg (by omega)];rfl
theorem HJ {c:SC} {s:B8} {i:Nat} {A:RA} (hi:s.length<=i) (h:A.err=0):Bi c s i A=EB c s.length A:=by
 unfold Bi Qx
 rw[List.drop_of_length_le hi,Cp,if_pos h]
theorem Bu {A:RA} {o e:Int} (h:A.err=0) (he:e≠0):(Bd A o e).err=e/\(Bd A o e).off=o:=by
 unfold Bd;rw[if_pos h];exact⟨rfl,rfl⟩
theorem K0 {A:RA} {o e:Int} (h:A.err=0) (he:e≠0):obs (Bd A o e)= .error (o,e):=by
 obtain⟨h1,h2⟩:=Bu (o:=o) h he
 rw[Jm (by rw[h1];exact he),h1,h2]
theorem N5 {A:RA} {o e:Int} (h:A.err≠0):(Bd A o e).err=A.err/\(Bd A o e).off=A.off:=by
 unfold Bd;rw[if_neg h];exact⟨rfl,rfl⟩
theorem NL {A:RA} {o e:Int} (h:A.err=0) (he:e≠0):obs (Fm A o e)=if A.late≠0 then .error (A.frm,A.late)else .error (o,e):=by
 unfold Fm
 by_cases hl:A.late≠0
 ·rw[if_pos hl,if_pos hl]
  obtain⟨h1,h2⟩:=Bu (o:=A.frm) h hl
  obtain⟨h3,h4⟩:=N5 (A:=Bd A A.frm A.late) (o:=o) (e:=e) (by rw[h1];exact hl)
  rw[Jm (by rw[h3,h1];exact hl),h3,h4,h1,h2]
 ·rw[if_neg hl,if_neg hl]
  exact K0 h he
theorem Pl {A:RA} {o e:Int} (h:A.err=0) (he:e≠0):(Fm A o e).err≠0:=by
 unfold Fm
 by_cases hl:A.late≠0
 ·rw[if_pos hl]
  obtain⟨h1,_⟩:=Bu (o:=A.frm) h hl
  rw[(N5 (A:=Bd A A.frm A.late) (o:=o) (e:=e) (by rw[h1];exact hl)).1,h1];exact hl
 ·rw[if_neg hl,(Bu h he).1];exact he
theorem G1 {s:B8} {i e:Nat} (h:i<e) (he:e<=s.length):slc s i e=s.getD i 0::slc s (i+1) e:=by
 unfold slc
 rw[List.drop_eq_getElem_cons (by rw[List.length_take];omega),List.getElem_take,List.getD_eq_getElem?_getD,List.getElem?_eq_getElem (by omega)];rfl
theorem MY {s:B8} {i:Nat}:slc s i i=[]:=by
 unfold slc
 exact List.drop_of_length_le (by rw[List.length_take];omega)
theorem Do (s:B8) (i:Nat):((s.getD i 0).toNat:Int)=by_ s i:=rfl
theorem EN {c:SC} {b:UInt8} {A:RA} (h:c.win<=A.held.length) (he:A.err=0) (s:B8) (i:Nat):obs (Bi c s i (CC c b A))= .error (A.frm,28):=by
 have h1:CC c b A=Bd A A.frm 28:=if_pos h
 rw[h1,Jr (by rw[(Bu he (by decide)).1];decide),K0 he (by decide)]
theorem Jp {c:SC} {b:UInt8} {A:RA} (h:A.held.length<c.win):CC c b A={A with held:=A.held++[b]}:=if_neg (by omega)
def Eq:Except Nat Nat->Nat | .ok e=>e | .error o=>o
theorem VB {c:SC} {s:B8}:∀(n i:Nat) (A:RA),s.length-i<=n->i<=s.length->A.ph=1->A.err=0->A.held.length<=c.win->
  i<=Eq (PE c.a c.q s i)/\Eq (PE c.a c.q s i)<=s.length/\(c.win<A.held.length+(Eq (PE c.a c.q s i)-i)->obs (Bi c s i A)= .error (A.frm,28))/\
  (A.held.length+(Eq (PE c.a c.q s i)-i)<=c.win->Bi c s i A=Bi c s (Eq (PE c.a c.q s i)) {A with held:=A.held++slc s i (Eq (PE c.a c.q s i))}):=by
 intro n
 induction n with
 | zero=>
  intro i A hn hi hp he hw
  rw[HT (by omega)]
  exact⟨Nat.le_refl _,hi,fun h=>by show _;have:Eq (.ok i)=i:=rfl;omega,fun _=>by show _=Bi c s i {A with held:=A.held++slc s i i};rw[MY,List.append_nil]⟩
 | succ n ih=>
  intro i A hn hi hp he hw
  have stop:∀P:Except Nat Nat,Eq P=i->i<=Eq P/\Eq P<=s.length/\(c.win<A.held.length+(Eq P-i)->obs (Bi c s i A)= .error (A.frm,28))/\(A.held.length+(Eq P-i)<=c.win->Bi c s i A=Bi c s (Eq P) {A with held:=A.held++slc s i (Eq P)}):=fun P hP=>by
   rw[hP]
   exact⟨Nat.le_refl _,hi,fun h=>by omega,fun _=>by rw[MY,List.append_nil]⟩
  by_cases hl:s.length<=i
  ·exact stop _ (by rw[HT hl];rfl)
  by_cases h1:by_ s i=c.a∨by_ s i=10∨by_ s i=13
  ·exact stop _ (by rw[HS (by omega) h1];rfl)
  by_cases h2:by_ s i=c.q
  ·exact stop _ (by rw[Lr (by omega) h1 h2];rfl)
  have hne:Bj c (s.getD i 0) i A=CC c (s.getD i 0) A:=by
   unfold Bj CI
   rw[hp,if_neg (by decide),if_pos rfl,Do,if_neg h1,if_neg h2]
  rw[Lq (by omega) h1 h2,Cm (by omega) he,hne]
  by_cases hf:c.win<=A.held.length
  ·have hg:=(ih (i+1) {A with held:=[]} (by omega) (by omega) hp he (Nat.zero_le _)).1
   have hg2:=(ih (i+1) {A with held:=[]} (by omega) (by omega) hp he (Nat.zero_le _)).2.1
   exact⟨by omega,hg2,fun _=>EN hf he _ _,fun h=>by omega⟩
  ·rw[Jp (by omega)]
   obtain⟨g1,g2,g3,g4⟩:=ih (i+1) {A with held:=A.held++[s.getD i 0]} (by omega) (by omega) hp he (by simp only[List.length_append,List.length_singleton];omega)
   simp only[List.length_append,List.length_singleton]at g3 g4
   refine⟨by omega,g2,fun h=>g3 (by omega),fun h=>?_⟩
   rw[g4 (by omega),G1 (i:=i) (by omega) g2]
   simp
theorem Tj {c:SC} {s:B8}:∀(n i:Nat) (A:RA),s.length-i<=n->i<=s.length->A.ph=2->A.err=0->A.held.length<=c.win->
  (∀e,QE c.q s i=some e->(c.win<A.held.length+(e-i)->obs (Bi c s i A)= .error (A.frm,28))/\(A.held.length+(e-i)<=c.win->Bi c s i A=Bi c s e {A with held:=A.held++slc s i e,ph:=3})/\(e<s.length->by_ s e≠c.q))/\
  (QE c.q s i=none->(c.win<A.held.length+(s.length-i)->obs (Bi c s i A)= .error (A.frm,28))/\(A.held.length+(s.length-i)<=c.win->obs (Bi c s i A)=if A.late≠0 then .error (A.frm,A.late)else .error ((s.length:Int),4))):=by
 intro n
 induction n using Nat.strongRecOn with
 | _ n ih=>
  intro i A hn hi hp he hw
  by_cases hl:s.length<=i
  ·refine⟨fun e h=>(by rw[OF hl]at h;cases h),fun _=>⟨fun h=>by omega,fun _=>?_⟩⟩
   rw[HJ hl he]
   unfold EB
   rw[if_pos (.inl hp)]
   exact NL he (by decide)
  by_cases hq:by_ s i=c.q
  ·have hne:Bj c (s.getD i 0) i A=CC c (s.getD i 0) {A with ph:=3}:=by
    unfold Bj
    rw[hp,if_neg (by decide),if_neg (by decide),if_pos rfl,Do,if_pos hq]
   rw[Cm (by omega) he,hne]
   by_cases h2:i+1<s.length/\by_ s (i+1)=c.q
   ·have hQ:=Na h2.1 hq h2.2
    rw[hQ]
    have ih2:=fun A' h1 h2 h3=>ih (s.length-(i+2)) (by omega) (i+2) A' (Nat.le_refl _) (by omega) h1 h2 h3
    by_cases hf:c.win<=A.held.length
    ·refine⟨fun e h=>?_,fun h=>⟨fun _=>EN (A:={A with ph:=3}) hf he _ _,fun h=>by omega⟩⟩
     have hle:=MG _ _ _ (Nat.le_refl _) h
     have hb:=((ih2 {A with held:=[]} hp he (Nat.zero_le _)).1 e h).2.2
     exact⟨fun _=>EN (A:={A with ph:=3}) hf he _ _,fun h=>by omega,hb⟩
    ·rw[Jp (A:={A with ph:=3}) (by show A.held.length<_;omega)]
     have hne2:Bj c (s.getD (i+1) 0) ((i+1:Nat):Int) {A with ph:=3,held:=A.held++[s.getD i 0]}=CC c (s.getD (i+1) 0) {A with ph:=2,held:=A.held++[s.getD i 0]}:=by
      unfold Bj
      rw[if_neg (by show ¬(3:Nat)=0;decide),if_neg (by show ¬(3:Nat)=1;decide),if_neg (by show ¬(3:Nat)=2;decide),if_pos rfl,Do,if_pos h2.2]
     have hst:Bi c s (i+1) {A with ph:=3,held:=A.held++[s.getD i 0]}=Bi c s (i+2) (CC c (s.getD (i+1) 0) {A with ph:=2,held:=A.held++[s.getD i 0]}):=by
      rw[Cm (A:={A with ph:=3,held:=A.held++[s.getD i 0]}) h2.1 he,hne2]
     show(∀e,_->(_->obs (Bi c s (i+1) {A with ph:=3,held:=A.held++[s.getD i 0]})=_)/\(_->Bi c s (i+1) {A with ph:=3,held:=A.held++[s.getD i 0]}=_)/\_)/\(_->(_->obs (Bi c s (i+1) {A with ph:=3,held:=A.held++[s.getD i 0]})=_)/\(_->obs (Bi c s (i+1) {A with ph:=3,held:=A.held++[s.getD i 0]})=_))
     rw[hst]
     by_cases hf2:c.win<=A.held.length+1
     ·have full:=fun t j=>EN (c:=c) (b:=s.getD (i+1) 0) (A:={A with ph:=2,held:=A.held++[s.getD i 0]}) (by show c.win<=(A.held++[s.getD i 0]).length;rw[List.length_append,List.length_singleton];exact hf2) he t j
      refine⟨fun e h=>?_,fun h=>⟨fun _=>full _ _,fun h=>by omega⟩⟩
      have hle:=MG _ _ _ (Nat.le_refl _) h
      have hb:=((ih2 {A with held:=[]} hp he (Nat.zero_le _)).1 e h).2.2
      exact⟨fun _=>full _ _,fun h=>by omega,hb⟩
     ·rw[Jp (A:={A with ph:=2,held:=A.held++[s.getD i 0]}) (by show(A.held++[s.getD i 0]).length<_;rw[List.length_append,List.length_singleton];omega)]
      obtain⟨g1,g2⟩:=ih2 {A with ph:=2,held:=A.held++[s.getD i 0]++[s.getD (i+1) 0]} rfl he (by simp only[List.length_append,List.length_singleton];omega)
      simp only[List.length_append,List.length_singleton]at g1 g2
      refine⟨fun e h=>?_,fun h=>?_⟩
      ·have hle:=MG _ _ _ (Nat.le_refl _) h
       obtain⟨k1,k2,k3⟩:=g1 e h
       refine⟨fun h=>k1 (by omega),fun h=>?_,k3⟩
       rw[k2 (by omega),G1 (i:=i) (by omega) hle.2,G1 (i:=i+1) (by omega) hle.2]
       simp
      ·obtain⟨k1,k2⟩:=g2 h
       exact⟨fun h=>k1 (by omega),fun h=>k2 (by omega)⟩
   ·have hQ:=Nb (q:=c.q) (by omega:i<s.length) hq fun h h3=>h2 ⟨h,h3⟩
    rw[hQ]
    refine⟨fun e h=>?_,fun h=>by cases h⟩
    cases h
    refine⟨fun h=>EN (A:={A with ph:=3}) (by show c.win<=A.held.length;omega) he _ _,fun h=>?_,fun h h3=>h2 ⟨h,h3⟩⟩
    rw[Jp (A:={A with ph:=3}) (by show A.held.length<_;omega),G1 (by omega) (by omega),MY]
  ·have hne:Bj c (s.getD i 0) i A=CC c (s.getD i 0) A:=by
    unfold Bj
    rw[hp,if_neg (by decide),if_neg (by decide),if_pos rfl,Do,if_neg hq]
   rw[Cm (by omega) he,hne,Lp (by omega) hq]
   have ih1:=fun A' h1 h2 h3=>ih (s.length-(i+1)) (by omega) (i+1) A' (Nat.le_refl _) (by omega) h1 h2 h3
   by_cases hf:c.win<=A.held.length
   ·refine⟨fun e h=>?_,fun h=>⟨fun _=>EN hf he _ _,fun h=>by omega⟩⟩
    have hle:=MG _ _ _ (Nat.le_refl _) h
    have hb:=((ih1 {A with held:=[]} hp he (Nat.zero_le _)).1 e h).2.2
    exact⟨fun _=>EN hf he _ _,fun h=>by omega,hb⟩
   ·rw[Jp (by omega)]
    obtain⟨g1,g2⟩:=ih1 {A with held:=A.held++[s.getD i 0]} hp he (by simp only[List.length_append,List.length_singleton];omega)
    simp only[List.length_append,List.length_singleton]at g1 g2
    refine⟨fun e h=>?_,fun h=>?_⟩
    ·have hle:=MG _ _ _ (Nat.le_refl _) h
     obtain⟨k1,k2,k3⟩:=g1 e h
     refine⟨fun h=>k1 (by omega),fun h=>?_,k3⟩
     rw[k2 (by omega),G1 (i:=i) (by omega) hle.2]
     simp
    ·obtain⟨k1,k2⟩:=g2 h
     exact⟨fun h=>k1 (by omega),fun h=>k2 (by omega)⟩
def F5 (c:SC) (d v:Int):Int:=if c.dep<d then 9 else if c.nod<=v then 10 else 0
theorem O0 {c:SC} {A:RA} {d:Int} (h:A.late=0):BG c A d={A with late:=F5 c d A.nodes,nodes:=A.nodes+1}:=by
 unfold BG BK Fi F5
 by_cases h1:c.dep<d
 ·rw[if_pos h1,if_pos h1,if_pos h]
 ·rw[if_neg h1,if_neg h1]
  by_cases h2:c.nod<=A.nodes
  ·rw[if_pos h2,if_pos h2,if_pos h]
  ·rw[if_neg h2,if_neg h2,<-h]
theorem J5 {A:RA} {e:Int} (h:A.late≠0):BK A e=A:=if_neg h
theorem Mh {c:SC} {A:RA} {d:Int} (h:A.late≠0):BG c A d={A with nodes:=A.nodes+1}:=by
 unfold BG
 rw[J5 h,J5 h,ite_self,ite_self];rfl
structure Gi (A B:RA):Prop where
 ph:B.ph=A.ph
 rows:B.rows=A.rows
 width:B.width=A.width
 names:B.names=A.names
 told:B.told=A.told
 line:B.line=A.line
 out:B.out=A.out
 off:B.off=A.off
 err:B.err=A.err
 held:B.held=A.held
theorem Gi.refl (A:RA):Gi A A:=⟨rfl,rfl,rfl,rfl,rfl,rfl,rfl,rfl,rfl,rfl⟩
theorem Gi.trans {A B C:RA} (h:Gi A B) (k:Gi B C):Gi A C:=⟨k.ph.trans h.ph,k.rows.trans h.rows,k.width.trans h.width,k.names.trans h.names,k.told.trans h.told,k.line.trans h.line,k.out.trans h.out,k.off.trans h.off,k.err.trans h.err,k.held.trans h.held⟩
theorem D1 (A:RA) (e:Int):Gi A (BK A e)/\(BK A e).frm=A.frm/\(BK A e).within=A.within/\(BK A e).cells=A.cells/\(BK A e).nodes=A.nodes:=by
 unfold BK
 split<;>exact⟨⟨rfl,rfl,rfl,rfl,rfl,rfl,rfl,rfl,rfl,rfl⟩,rfl,rfl,rfl,rfl⟩
theorem Mg (c:SC) (A:RA) (d:Int):Gi A (BG c A d)/\(BG c A d).frm=A.frm/\(BG c A d).within=A.within/\(BG c A d).cells=A.cells:=by
 have h:∀B:RA,Gi B (Fi B)/\(Fi B).frm=B.frm/\(Fi B).within=B.within/\(Fi B).cells=B.cells:=fun B=>⟨⟨rfl,rfl,rfl,rfl,rfl,rfl,rfl,rfl,rfl,rfl⟩,rfl,rfl,rfl⟩
 unfold BG
 split
 ·obtain⟨h1,h2,h3,h4,_⟩:=D1 A 9
  obtain⟨k1,k2,k3,k4⟩:=h (BK A 9)
  exact⟨h1.trans k1,k2.trans h2,k3.trans h3,k4.trans h4⟩
 split
 ·obtain⟨h1,h2,h3,h4,_⟩:=D1 A 10
  obtain⟨k1,k2,k3,k4⟩:=h (BK A 10)
  exact⟨h1.trans k1,k2.trans h2,k3.trans h3,k4.trans h4⟩
 ·exact h A
theorem I0 (c:SC) (A:RA) (at_:Int):Gi A (AI c A at_)/\(AI c A at_).frm=at_/\(AI c A at_).within=true/\(AI c A at_).cells=if A.within=true then A.cells else 0:=by
 unfold AI
 split
 ·rename_i h;exact⟨⟨rfl,rfl,rfl,rfl,rfl,rfl,rfl,rfl,rfl,rfl⟩,rfl,h,rfl⟩
 split
 ·exact⟨⟨rfl,rfl,rfl,rfl,rfl,rfl,rfl,rfl,rfl,rfl⟩,rfl,rfl,rfl⟩
 ·obtain⟨k1,k2,k3,k4⟩:=Mg c {A with frm:=at_,within:=true,cells:=0} 2
  exact⟨Gi.trans (B:={A with frm:=at_,within:=true,cells:=0}) ⟨rfl,rfl,rfl,rfl,rfl,rfl,rfl,rfl,rfl,rfl⟩ k1,k2,k3,k4⟩
theorem Cn (c:SC) (A:RA) (at_:Int):Gi A (AJ c A at_)/\(AJ c A at_).frm=at_/\(AJ c A at_).within=true/\(AJ c A at_).cells=if A.within=true then A.cells else 0:=by
 obtain⟨h1,h2,h3,h4⟩:=I0 c A at_
 have e2:Gi (AI c A at_) (Cs (AI c A at_))/\(Cs (AI c A at_)).frm=(AI c A at_).frm/\(Cs (AI c A at_)).within=(AI c A at_).within/\(Cs (AI c A at_)).cells=(AI c A at_).cells:=by
  unfold Cs
  split
  ·obtain⟨k1,k2,k3,k4,_⟩:=D1 (AI c A at_) 10
   exact⟨k1,k2,k3,k4⟩
  ·exact⟨Gi.refl _,rfl,rfl,rfl⟩
 obtain⟨k1,k2,k3,k4⟩:=e2
 unfold AJ D6
 split
 ·exact⟨h1.trans k1,k2.trans h2,k3.trans h3,k4.trans h4⟩
 ·obtain⟨j1,j2,j3,j4⟩:=Mg c (Cs (AI c A at_)) 3
  exact⟨(h1.trans k1).trans j1,j2.trans (k2.trans h2),j3.trans (k3.trans h3),j4.trans (k4.trans h4)⟩
theorem TE {c:SC} {A B:RA} (h:Gi A B):AR c B=AR c A:=by unfold AR;rw[h.rows]
theorem VU {c:SC} {A:RA} {at_:Int} (hw:A.within=true) (hl:A.late=0):
  (AJ c A at_).late=(if 0<A.rows/\A.width<=A.cells then 10 else if AR c A=true then 0 else F5 c 3 A.nodes)/\(AJ c A at_).nodes=(if AR c A=true then A.nodes else A.nodes+1):=by
 have h1:AI c A at_={A with frm:=at_}:=if_pos hw
 unfold AJ
 rw[h1]
 by_cases h2:0<A.rows/\A.width<=A.cells
 ·have e2:Cs {A with frm:=at_}={A with frm:=at_,late:=10}:=by
   unfold Cs
   rw[if_pos h2]
   exact if_pos hl
  rw[e2,if_pos h2]
  unfold D6
  have hh:AR c {A with frm:=at_,late:=10}=AR c A:=rfl
  rw[hh]
  by_cases h3:AR c A=true
  ·rw[if_pos h3,if_pos h3];exact⟨rfl,rfl⟩
  ·rw[if_neg h3,if_neg h3,Mh (by show(10:Int)≠0;decide)];exact⟨rfl,rfl⟩
 ·have e2:Cs {A with frm:=at_}={A with frm:=at_}:=if_neg h2
  rw[e2,if_neg h2]
  unfold D6
  have hh:AR c {A with frm:=at_}=AR c A:=rfl
  rw[hh]
  by_cases h3:AR c A=true
  ·rw[if_pos h3,if_pos h3,if_pos h3];exact⟨hl,rfl⟩
  ·rw[if_neg h3,if_neg h3,if_neg h3,O0 (A:={A with frm:=at_}) hl];exact⟨rfl,rfl⟩
def exE (c:SC) (s:B8) (i:Nat):Nat:=match Be c.a c.q s i with | .ok e=>e | .error p=>p.1
def A7 (c:SC) (s:B8) (e:Nat) (B:RA):RA:=if e<s.length then Bi c s (e+1) (Dk c (s.getD e 0) e B)else AH c (AX c B) s.length
theorem PE_err {a q:Int} {s:B8} {i o:Nat} (h:PE a q s i= .error o):o<s.length/\¬(by_ s o=a∨by_ s o=10∨by_ s o=13)/\by_ s o=q:=by
 have:∀(n i:Nat),s.length-i<=n->PE a q s i= .error o->o<s.length/\¬(by_ s o=a∨by_ s o=10∨by_ s o=13)/\by_ s o=q:=by
  intro n
  induction n with
  | zero=>intro i hn h;rw[HT (by omega)]at h;cases h
  | succ n ih=>
   intro i hn h
   by_cases hl:s.length<=i
   ·rw[HT hl]at h;cases h
   by_cases h1:by_ s i=a∨by_ s i=10∨by_ s i=13
   ·rw[HS (by omega) h1]at h;cases h
   by_cases h2:by_ s i=q
   ·rw[Lr (by omega) h1 h2]at h;cases h;exact⟨by omega,h1,h2⟩
   ·rw[Lq (by omega) h1 h2]at h;exact ih (i+1) (by omega) h
 exact this _ i (Nat.le_refl _) h
theorem WG {q:Int} {s:B8} {i e:Nat} (h:QE q s i=some e):i<e/\e<=s.length:=MG _ _ _ (Nat.le_refl _) h
theorem Os {c:SC} {s:B8} {i:Nat} {A:RA} (hwin:1<=c.win) (hi:i<=s.length) (hw:i<s.length∨A.within=true) (hp:A.ph=0) (he:A.err=0) (hh:A.held=[]):
  i<=exE c s i/\exE c s i<=s.length/\
  (c.win<exE c s i-i->obs (Bi c s i A)= .error ((i:Int),28))/\
  (exE c s i-i<=c.win->
   (∀p d,Be c.a c.q s i= .error (p,d)->obs (Bi c s i A)=if (AJ c A i).late≠0 then .error ((i:Int),(AJ c A i).late)else .error ((p:Int),d))/\
   (∀e,Be c.a c.q s i= .ok e->∃ph,Bi c s i A=A7 c s e {AJ c A i with held:=slc s i e,ph:=ph})):=by
 obtain⟨hS,hf,hwi,hcl⟩:=Cn c A i
 have hE:(AJ c A i).err=0:=hS.err.trans he
 have hH:(AJ c A i).held=[]:=hS.held.trans hh
 generalize hB:AJ c A i=B at*
 by_cases hl:i<s.length
 ·by_cases hq:by_ s i=c.q
  ·--a quoted cell
   have hne:Bj c (s.getD i 0) i A=CC c (s.getD i 0) {B with ph:=2}:=by
    unfold Bj
    rw[if_pos hp,Do,if_pos hq,hB]
   have hst:Bi c s i A=Bi c s (i+1) {B with ph:=2,held:=[s.getD i 0]}:=by
    rw[Cm hl he,hne,Jp (A:={B with ph:=2}) (by show B.held.length<_;rw[hH];exact hwin)]
    show Bi c s (i+1) {B with ph:=2,held:=B.held++[s.getD i 0]}=_
    rw[hH];rfl
   obtain⟨g1,g2⟩:=Tj (c:=c) (s:=s) _ (i+1) {B with ph:=2,held:=[s.getD i 0]} (Nat.le_refl _) (by omega) rfl hE (by show [s.getD i 0].length<=_;exact hwin)
   rw[<-hst]at g1 g2
   have hl1:({B with ph:=2,held:=[s.getD i 0]}:RA).held.length=1:=rfl
   rw[hl1]at g1 g2
   have hc:Be c.a c.q s i=match QE c.q s (i+1)with | some e=> .ok e | none=> .error (s.length,4):=by
    unfold Be
    rw[if_pos ⟨hl,hq⟩];rfl
   unfold exE
   cases hQ:QE c.q s (i+1)with
   | some e=>
    rw[hQ]at hc
    replace hc:Be c.a c.q s i= .ok e:=hc
    obtain⟨k1,k2,k3⟩:=g1 e hQ
    have hle:=WG hQ
    rw[hc]
    replace k1:c.win<1+(e-(i+1))->obs (Bi c s i A)= .error (B.frm,28):=k1
    rw[hf]at k1
    refine⟨by show i<=e;omega,hle.2,fun h=>k1 (by have h:c.win<e-i:=h;omega),fun h=>⟨fun p d h2=>(by cases h2),fun e' h2=>?_⟩⟩
    cases h2
    have h:e-i<=c.win:=h
    refine⟨3,?_⟩
    rw[k2 (by omega),G1 (i:=i) (by omega) hle.2]
    unfold A7
    by_cases hel:e<s.length
    ·rw[if_pos hel]
     rw[Cm (A:={B with ph:=3,held:=[s.getD i 0]++slc s (i+1) e}) hel hE]
     unfold Bj
     rw[if_neg (by show ¬(3:Nat)=0;decide),if_neg (by show ¬(3:Nat)=1;decide),if_neg (by show ¬(3:Nat)=2;decide),if_pos rfl,Do,if_neg (k3 hel)]
     rfl
    ·rw[if_neg hel]
     rw[HJ (A:={B with ph:=3,held:=[s.getD i 0]++slc s (i+1) e}) (by omega) hE]
     unfold EB
     rw[if_neg (by show ¬((3:Nat)=2∨(3:Nat)=4);decide),if_neg (by show ¬(3:Nat)=0;decide)]
     rfl
   | none=>
    rw[hQ]at hc
    replace hc:Be c.a c.q s i= .error (s.length,4):=hc
    obtain⟨k1,k2⟩:=g2 hQ
    rw[hc]
    replace k1:c.win<1+(s.length-(i+1))->obs (Bi c s i A)= .error (B.frm,28):=k1
    replace k2:1+(s.length-(i+1))<=c.win->obs (Bi c s i A)=if B.late≠0 then .error (B.frm,B.late)else .error ((s.length:Int),4):=k2
    rw[hf]at k1 k2
    refine⟨by show i<=s.length;omega,Nat.le_refl _,fun h=>k1 (by have h:c.win<s.length-i:=h;omega),fun h=>⟨fun p d h2=>?_,fun e h2=>by cases h2⟩⟩
    cases h2
    exact k2 (by have h:s.length-i<=c.win:=h;omega)
  ·--a plain cell
   have hA1:∀b,Bj c b i {B with ph:=1}=CI c b i {B with ph:=1}:=fun b=>by
    unfold Bj
    rw[if_neg (by show ¬(1:Nat)=0;decide),if_pos rfl]
   have hne:Bj c (s.getD i 0) i A=Bj c (s.getD i 0) i {B with ph:=1}:=by
    rw[hA1]
    conv=>lhs;unfold Bj
    rw[if_pos hp,Do,if_neg hq,hB]
   have hst:Bi c s i A=Bi c s i {B with ph:=1}:=by
    rw[Cm hl he,hne,<-Cm (A:={B with ph:=1}) hl hE]
   obtain⟨j1,j2,j3,j4⟩:=VB (c:=c) (s:=s) _ i {B with ph:=1} (Nat.le_refl _) (by omega) rfl hE (by show B.held.length<=_;rw[hH];exact Nat.zero_le _)
   rw[<-hst]at j3 j4
   have hl0:({B with ph:=1}:RA).held=[]:=hH
   rw[hl0]at j3 j4
   simp only[List.length_nil,Nat.zero_add,List.nil_append]at j3 j4
   replace j3:_->obs (Bi c s i A)= .error (B.frm,28):=j3
   rw[hf]at j3
   have hc:Be c.a c.q s i=match PE c.a c.q s i with | .ok e=> .ok e | .error o=> .error (o,3):=by
    unfold Be
    rw[if_neg fun h=>hq h.2];rfl
   unfold exE
   cases hP:PE c.a c.q s i with
   | ok e=>
    rw[hP]at hc j1 j2 j3 j4
    replace hc:Be c.a c.q s i= .ok e:=hc
    rw[hc]
    replace j1:i<=e:=j1
    replace j2:e<=s.length:=j2
    obtain⟨_,_,hby,_⟩:=XJ _ _ _ (Nat.le_refl _) (by omega:i<=s.length) hP
    refine⟨j1,j2,j3,fun h=>⟨fun p d h2=>(by cases h2),fun e' h2=>?_⟩⟩
    cases h2
    refine⟨1,?_⟩
    have j4:=j4 h
    rw[j4]
    show Bi c s e {B with ph:=1,held:=slc s i e}=_
    unfold A7
    by_cases hel:e<s.length
    ·rw[if_pos hel,Cm (A:={B with ph:=1,held:=slc s i e}) hel hE]
     have:Bj c (s.getD e 0) e {B with ph:=1,held:=slc s i e}=CI c (s.getD e 0) e {B with ph:=1,held:=slc s i e}:=by
      unfold Bj
      rw[if_neg (by show ¬(1:Nat)=0;decide),if_pos rfl]
     rw[this]
     unfold CI
     rw[Do,if_pos (hby hel)]
    ·rw[if_neg hel,HJ (A:={B with ph:=1,held:=slc s i e}) (by omega) hE]
     unfold EB
     rw[if_neg (by show ¬((1:Nat)=2∨(1:Nat)=4);decide),if_neg (by show ¬(1:Nat)=0;decide)]
   | error o=>
    rw[hP]at hc j1 j2 j3 j4
    replace hc:Be c.a c.q s i= .error (o,3):=hc
    rw[hc]
    replace j1:i<=o:=j1
    replace j2:o<=s.length:=j2
    refine⟨j1,j2,j3,fun h=>⟨fun p d h2=>?_,fun e' h2=>by cases h2⟩⟩
    cases h2
    have j4:=j4 h
    rw[j4]
    show obs (Bi c s o {B with ph:=1,held:=slc s i o})=_
    obtain⟨ho1,ho2,ho3⟩:=PE_err hP
    rw[Cm (A:={B with ph:=1,held:=slc s i o}) ho1 hE]
    have:Bj c (s.getD o 0) o {B with ph:=1,held:=slc s i o}=Fm {B with ph:=1,held:=slc s i o} o 3:=by
     unfold Bj
     rw[if_neg (by show ¬(1:Nat)=0;decide),if_pos rfl]
     unfold CI
     rw[Do,if_neg ho2,if_pos ho3]
    rw[this,Jr (Pl (A:={B with ph:=1,held:=slc s i o}) (e:=3) hE (by decide)),NL (A:={B with ph:=1,held:=slc s i o}) hE (by decide)]
    show(if B.late≠0 then Except.error (B.frm,B.late)else _)=_
    rw[hf]
 ·--the empty cell at the end
  have hi2:i=s.length:=by omega
  have hwt:A.within=true:=hw.resolve_left hl
  have hc:Be c.a c.q s i= .ok i:=by
   unfold Be
   rw[if_neg fun h=>hl h.1,HT (by omega)]
  unfold exE
  rw[hc]
  refine⟨Nat.le_refl _,hi,fun h=>by have h:c.win<i-i:=h;omega,fun h=>⟨fun p d h2=>(by cases h2),fun e h2=>?_⟩⟩
  cases h2
  refine⟨0,?_⟩
  rw[HJ (by omega) he]
  unfold A7
  rw[if_neg hl,MY]
  unfold EB
  rw[if_neg (by rw[hp];decide),if_pos hp,if_pos hwt,<-hi2,hB]
  have:({B with held:=[],ph:=0}:RA)=B:=by
   have h1:B.ph=0:=hS.ph.trans hp
   rw[<-hH,<-h1]
  rw[this]
def IV (c:SC) (s:B8):Nat->Nat->Option Nat
 | 0,_=>none
 | n+1,i=>if s.length<=i then none else if c.win<exE c s i-i then some i
  else if exE c s i<s.length/\by_ s (exE c s i)=c.a then IV c s n (exE c s i+1)
  else if exE c s i<s.length/\by_ s (exE c s i)=10 then IV c s n (exE c s i+1)
  else if exE c s i+1<s.length/\by_ s (exE c s i)=13/\by_ s (exE c s i+1)=10 then IV c s n (exE c s i+2)else none
theorem Qy {c:SC} {s:B8} {i:Nat} (hi:i<=s.length):i<=exE c s i/\exE c s i<=s.length:=by
 obtain⟨h1,h2,_⟩:=Os (c:={c with win:=c.win+1}) (s:=s) (i:=i) (A:={RA.start with within:=true}) (by show 1<=c.win+1;omega) hi (.inr rfl) rfl rfl rfl
 exact⟨h1,h2⟩
theorem VJ {c:SC} {s:B8}:∀(n m i:Nat),s.length<i+n->s.length<i+m->i<=s.length+1->IV c s n i=IV c s m i:=by
 intro n
 induction n with
 | zero=>
  intro m i h1 h2 h3
  cases m with
  | zero=>rfl
  | succ m=>rw[IV,IV,if_pos (by omega)]
 | succ n ih=>
  intro m i h1 h2 h3
  cases m with
  | zero=>rw[IV,IV,if_pos (by omega)]
  | succ m=>
   rw[IV,IV]
   by_cases hl:s.length<=i
   ·rw[if_pos hl,if_pos hl]
   obtain⟨g1,g2⟩:=Qy (c:=c) (s:=s) (i:=i) (by omega)
   rw[if_neg hl,if_neg hl,ih m (exE c s i+1) (by omega) (by omega) (by omega)]
   by_cases h13:exE c s i+1<s.length/\by_ s (exE c s i)=13/\by_ s (exE c s i+1)=10
   ·rw[if_pos h13,if_pos h13,ih m (exE c s i+2) (by omega) (by omega) (by omega)]
   ·rw[if_neg h13,if_neg h13]
def C9 (c:SC) (s:B8) (i:Nat):Option Nat:=IV c s (s.length+1-i) i
def MS (c:SC) (s:B8) (e:Nat):Option Nat:=
 if e<s.length/\by_ s e=10 then C9 c s (e+1)else if e+1<s.length/\by_ s e=13/\by_ s (e+1)=10 then C9 c s (e+2)else none
theorem G6 {c:SC} {s:B8} {i:Nat} (h:s.length<=i):C9 c s i=none:=by
 unfold C9
 cases hn:s.length+1-i with
 | zero=>rfl
 | succ n=>rw[IV,if_pos h]
theorem EL {c:SC} {s:B8} {i:Nat} (h:i<s.length):C9 c s i=if c.win<exE c s i-i then some i else if exE c s i<s.length/\by_ s (exE c s i)=c.a then C9 c s (exE c s i+1)else MS c s (exE c s i):=by
 obtain⟨g1,g2⟩:=Qy (c:=c) (s:=s) (i:=i) (by omega)
 have f:∀j,i<j->j<=s.length+1->IV c s (s.length-i) j=C9 c s j:=fun j h1 h2=>VJ _ _ _ (by omega) (by omega) h2
 conv=>lhs;unfold C9
 rw[show s.length+1-i=(s.length-i)+1 by omega,IV,if_neg (by omega),f _ (by omega) (by omega)]
 unfold MS
 by_cases h1:c.win<exE c s i-i
 ·rw[if_pos h1,if_pos h1]
 rw[if_neg h1,if_neg h1]
 by_cases h2:exE c s i<s.length/\by_ s (exE c s i)=c.a
 ·rw[if_pos h2,if_pos h2]
 rw[if_neg h2,if_neg h2]
 by_cases h3:exE c s i<s.length/\by_ s (exE c s i)=10
 ·rw[if_pos h3,if_pos h3]
 rw[if_neg h3,if_neg h3]
 by_cases h4:exE c s i+1<s.length/\by_ s (exE c s i)=13/\by_ s (exE c s i+1)=10
 ·rw[if_pos h4,if_pos h4,f _ (by omega) (by omega)]
 ·rw[if_neg h4,if_neg h4]
theorem memF_ge {c:SC} {s:B8}:∀(n i:Nat) {m:Nat},IV c s n i=some m->i<=m:=by
 intro n
 induction n with
 | zero=>intro i m h;cases h
 | succ n ih=>
  intro i m h
  rw[IV]at h
  by_cases hl:s.length<=i
  ·rw[if_pos hl]at h;cases h
  obtain⟨g1,g2⟩:=Qy (c:=c) (s:=s) (i:=i) (by omega)
  rw[if_neg hl]at h
  by_cases h1:c.win<exE c s i-i
  ·rw[if_pos h1]at h;cases h;exact Nat.le_refl _
  rw[if_neg h1]at h
  by_cases h2:exE c s i<s.length/\by_ s (exE c s i)=c.a
  ·rw[if_pos h2]at h;have:=ih _ h;omega
  rw[if_neg h2]at h
  by_cases h3:exE c s i<s.length/\by_ s (exE c s i)=10
  ·rw[if_pos h3]at h;have:=ih _ h;omega
  rw[if_neg h3]at h
  by_cases h4:exE c s i+1<s.length/\by_ s (exE c s i)=13/\by_ s (exE c s i+1)=10
  ·rw[if_pos h4]at h;have:=ih _ h;omega
  ·rw[if_neg h4]at h;cases h
theorem M6 {c:SC} {s:B8} {i m:Nat} (h:C9 c s i=some m):i<=m:=memF_ge _ _ h
theorem Qp {c:SC} {s:B8} {i m:Nat} (h:MS c s i=some m):i<m:=by
 unfold MS at h
 split at h
 ·have:=M6 h;omega
 split at h
 ·have:=M6 h;omega
 ·cases h
def Jc (p:Nat×Int) (m:Option Nat):Int×Int:=match m with | none=>((p.1:Int),p.2) | some m=>if m<=p.1 then((m:Int),28)else((p.1:Int),p.2)
theorem Lk {p:Nat×Int} {m:Option Nat} (h:∀k,m=some k->p.1<k):Jc p m=((p.1:Int),p.2):=by
 unfold Jc
 cases m with
 | none=>rfl
 | some k=>simp only;rw[if_neg (by have:=h k rfl;omega)]
theorem Ge {p:Nat×Int} {k:Nat} (h:k<=p.1):Jc p (some k)=((k:Int),28):=by
 unfold Jc;simp only;rw[if_pos h]
def evC (c:SC) (names:List B8) (j:Nat) (t:B8):List Ev:=(if j=0 then [if c.hd then .ms else .ls]else [])++((if c.hd then [Ev.key (names.getD j [])]else [])++[.val (DI c.ty (BE c.q t) (txt c.q t))])
def evK (c:SC) (names:List B8):Nat->List Nd->List Ev
 | _,[]=>[]
 | j,k::ks=>evC c names j (A6 k)++evK c names (j+1) ks
theorem Sg (c:SC) (names:List B8) (k:Nd):∀(ks:List Nd) (j:Nat),evK c names j (ks++[k])=evK c names j ks++evC c names (j+ks.length) (A6 k)
 | [],j=>by simp[evK]
 | x::r,j=>by
  rw[List.cons_append,evK,evK,Sg c names k r (j+1),List.length_cons,List.append_assoc]
  congr 3;omega
structure InR (c:SC) (hdr:Bool) (names0:List B8) (out0:List Ev) (rows width:Nat) (acc:List Nd) (v:Int) (ns:List B8) (A:RA):Prop where
 within:A.within=true
 err:A.err=0
 late:A.late=0
 held:A.held=[]
 rows:A.rows=rows
 width:A.width=width
 cells:A.cells=acc.length
 nodes:A.nodes=v
 names:A.names=if hdr=true then Er c.q acc else names0
 nsr:hdr=true->ns=A.names.reverse
 out:A.out=if hdr=true then out0 else out0++evK c names0 0 acc
theorem Ku {c:SC} {s:B8} {e:Nat} {B:RA} (h:(AX c B).err≠0):A7 c s e B=AX c B:=by
 unfold A7
 split
 ·unfold Dk
  rw[if_pos h,Jr h]
 ·unfold AH
  rw[if_pos h]
theorem Kt {c:SC} {B:RA} (h:B.late≠0) (he:B.err=0):(AX c B).err=B.late/\(AX c B).off=B.frm:=by
 unfold AX
 rw[if_pos h]
 exact Bu (A:={B with held:=[]}) he h
def TL (c:SC) (s:B8) (e:Nat) (C:RA):RA:=if e<s.length then(if by_ s e=10 then Bi c s (e+1) (AH c C e)else Bi c s (e+1) {C with ph:=4,line:=e})else AH c C s.length
theorem Ox {c:SC} {s:B8} {e:Nat} {B:RA} (h:(AX c B).err=0) (ha:e<s.length->by_ s e≠c.a) (hb:e<s.length->by_ s e=10∨by_ s e=13):A7 c s e B=TL c s e (AX c B):=by
 unfold A7 TL
 by_cases hl:e<s.length
 ·rw[if_pos hl,if_pos hl]
  unfold Dk
  rw[if_neg (by omega),Do,if_neg (ha hl)]
  by_cases h10:by_ s e=10
  ·rw[if_pos h10,if_pos h10]
  ·rw[if_neg h10,if_neg h10,if_pos ((hb hl).resolve_left h10)]
 ·rw[if_neg hl,if_neg hl]
theorem Ui {c:SC} {s:B8} {e:Nat} {B:RA} (h:(AX c B).err=0) (hl:e<s.length) (ha:by_ s e=c.a):A7 c s e B=Bi c s (e+1) {AX c B with ph:=0}:=by
 unfold A7
 rw[if_pos hl]
 unfold Dk
 rw[if_neg (by omega),Do,if_pos ha]
theorem Uj {c:SC} {s:B8} {e:Nat} {B:RA} (h:(AX c B).err=0) (hl:e<s.length) (ha:by_ s e≠c.a) (h1:by_ s e≠10) (h2:by_ s e≠13):obs (A7 c s e B)= .error ((e:Int),3):=by
 unfold A7
 rw[if_pos hl]
 unfold Dk
 rw[if_neg (by omega),Do,if_neg ha,if_neg h1,if_neg h2,Jr (by rw[(Bu h (by decide)).1];decide)]
 exact K0 h (by decide)
theorem Eg {c:SC} {s:B8} {e:Nat} (h:¬(e<s.length/\by_ s e=10)) (h2:¬(e+1<s.length/\by_ s e=13/\by_ s (e+1)=10)):MS c s e=none:=by
 unfold MS
 rw[if_neg h,if_neg h2]
section
def cxA (c:SC) (s:B8):Cx:=⟨s,c.a,c.q,c.dep,c.nod⟩
theorem SB {c:SC} {d:Int} {i:Nat} {v:Int}:EQ c.dep c.nod d i v=if F5 c d v≠0 then .error (i,F5 c d v)else .ok (v+1):=by
 unfold EQ F5
 by_cases h1:c.dep<d
 ·rw[if_pos h1,if_pos h1];rfl
 ·rw[if_neg h1,if_neg h1]
  by_cases h2:c.nod<=v
  ·rw[if_pos h2,if_pos h2];rfl
  ·rw[if_neg h2,if_neg h2];rfl
theorem limA_ne {c:SC} {d v:Int} (h:F5 c d v≠0):F5 c d v=9∨F5 c d v=10:=by
 unfold F5 at h⊢
 by_cases h1:c.dep<d
 ·rw[if_pos h1];exact .inl rfl
 ·rw[if_neg h1]at h⊢
  by_cases h2:c.nod<=v
  ·rw[if_pos h2];exact .inr rfl
  ·rw[if_neg h2]at h;exact absurd rfl h
theorem RT (q:Int) (ks:List Nd) (k:Nd):Er q (ks++[k])=Er q ks++[txt q (A6 k)]:=by unfold Er;rw[List.map_append];rfl
section
variable {c:SC} {s:B8} {hdr:Bool} {names0:List B8} {out0:List Ev} {rows width:Nat}
theorem InR.head {acc:List Nd} {v:Int} {ns:List B8} {A:RA} (h:InR c hdr names0 out0 rows width acc v ns A) (hh:hdr=(c.hd&&decide (rows=0))):AR c A=hdr:=by
 unfold AR;rw[h.rows,hh]
def E5 (c:SC) (hdr:Bool) (names:List B8) (t:B8):Int:=if hdr=true then(if 1024<t.length then 10 else if t∈names then 8 else 0)else if 65536<t.length then 10 else 0
theorem PP {A:RA} {i e ph:Nat} (he:A.err=0) (hl:A.late=0) (hT:E5 c (AR c A) A.names (txt c.q A.held)≠0):(AX c A).err=E5 c (AR c A) A.names (txt c.q A.held)/\(AX c A).off=A.frm:=by
 unfold E5 at hT⊢
 unfold AX
 rw[if_neg (by omega)]
 by_cases hh:AR c A=true
 ·rw[if_pos hh]at hT⊢
  rw[if_pos hh]
  by_cases h1:1024<(txt c.q A.held).length
  ·rw[if_pos h1,if_pos h1]
   exact Bu (A:={A with held:=[]}) he (by decide)
  ·rw[if_neg h1]at hT⊢
   rw[if_neg h1]
   by_cases h2:txt c.q A.held∈A.names
   ·rw[if_pos h2,if_pos h2]
    exact Bu (A:={A with held:=[]}) he (by decide)
   ·rw[if_neg h2]at hT;exact absurd rfl hT
 ·rw[if_neg hh]at hT⊢
  rw[if_neg hh]
  by_cases h1:65536<(txt c.q A.held).length
  ·rw[if_pos h1,if_pos h1]
   exact Bu (A:={A with held:=[]}) he (by decide)
  ·rw[if_neg h1]at hT;exact absurd rfl hT
theorem Ov {A:RA} (he:A.err=0) (hl:A.late=0) (hT:E5 c (AR c A) A.names (txt c.q A.held)=0):
  AX c A=if AR c A=true then {A with held:=[],names:=A.names++[txt c.q A.held],cells:=A.cells+1} else {A with held:=[],cells:=A.cells+1,out:=A.out++evC c A.names A.cells A.held}:=by
 unfold E5 at hT
 unfold AX
 rw[if_neg (by omega)]
 by_cases hh:AR c A=true
 ·rw[if_pos hh]at hT
  rw[if_pos hh,if_pos hh]
  by_cases h1:1024<(txt c.q A.held).length
  ·rw[if_pos h1]at hT;cases hT
  ·rw[if_neg h1]at hT⊢
   by_cases h2:txt c.q A.held∈A.names
   ·rw[if_pos h2]at hT;cases hT
   ·rw[if_neg h2]
 ·rw[if_neg hh]at hT
  rw[if_neg hh,if_neg hh]
  by_cases h1:65536<(txt c.q A.held).length
  ·rw[if_pos h1]at hT;cases hT
  ·rw[if_neg h1];rfl
theorem TK {i:Nat} {v:Int} {ns:List B8} {names:List B8} (hn:hdr=true->ns=names.reverse):
  E0 (cxA c s) hdr i v ns=if hdr=false/\F5 c 3 v≠0 then .error (i,F5 c 3 v)else match Be c.a c.q s i with
   | .error p=> .error p
   | .ok e=>if E5 c hdr names (txt c.q (slc s i e))≠0 then .error (i,E5 c hdr names (txt c.q (slc s i e)))else .ok (e,if hdr=true then v else v+1,if hdr=true then txt c.q (slc s i e)::ns else ns):=by
 rw[QA]
 have hR:∀v1,MU (cxA c s) hdr i v1 ns=match Be c.a c.q s i with
   | .error p=> .error p
   | .ok e=>if E5 c hdr names (txt c.q (slc s i e))≠0 then .error (i,E5 c hdr names (txt c.q (slc s i e)))else .ok (e,v1,if hdr=true then txt c.q (slc s i e)::ns else ns):=by
  intro v1
  unfold MU
  show(match Be c.a c.q s i with | .error e=>Except.error e | .ok e=>_)=_
  cases hc:Be c.a c.q s i with
  | error p=>rfl
  | ok e=>
   simp only
   show(if (if hdr=true then 1024 else 65536)<(txt c.q (slc s i e)).length then Except.error (i,(10:Int))else if hdr=true/\txt c.q (slc s i e)∈ns then .error (i,8)else .ok (e,v1,if hdr=true then txt c.q (slc s i e)::ns else ns))=_
   unfold E5
   cases hdr with
   | true=>
    rw[hn rfl]
    simp only[if_true,true_and,List.mem_reverse]
    by_cases h1:1024<(txt c.q (slc s i e)).length
    ·rw[if_pos h1,if_pos h1,if_pos (by decide)]
    ·rw[if_neg h1,if_neg h1]
     by_cases h2:txt c.q (slc s i e)∈names
     ·rw[if_pos h2,if_pos h2,if_pos (by decide)]
     ·rw[if_neg h2,if_neg h2,if_neg (by decide)]
   | false=>
    simp only[Bool.false_eq_true,if_false,false_and]
    by_cases h1:65536<(txt c.q (slc s i e)).length
    ·rw[if_pos h1,if_pos h1,if_pos (by decide)]
    ·rw[if_neg h1,if_neg h1,if_neg (by decide)]
 cases hdr with
 | true=>rw[if_pos rfl,hR,if_neg (fun h=>by cases h.1)];rfl
 | false=>
  rw[if_neg (by decide)]
  show(match EQ c.dep c.nod 3 i v with | .error e=>Except.error e | .ok v1=>MU (cxA c s) false i v1 ns)=_
  rw[SB]
  by_cases hl:F5 c 3 v≠0
  ·rw[if_pos hl,if_pos ⟨rfl,hl⟩]
  ·rw[if_neg hl,if_neg fun h=>hl h.2]
   show MU (cxA c s) false i (v+1) ns=_
   rw[hR];rfl
theorem rec_run (hwin:1<=c.win) (hac:c.a≠10/\c.a≠13) (hh:hdr=(c.hd&&decide (rows=0))):∀(n:Nat) (acc:List Nd) (i:Nat) (A:RA) (v:Int) (ns:List B8),
  i<=s.length->s.length<i+n->A.ph=0->InR c hdr names0 out0 rows width acc v ns A->
  (∀p d,Cd (cxA c s) (decide (0<rows)) (width:Int) hdr n acc i v ns= .error (p,d)->i<=p/\obs (Bi c s i A)= .error (Jc (p,d) (C9 c s i)))/\
  (∀e v' ns' ks,Cd (cxA c s) (decide (0<rows)) (width:Int) hdr n acc i v ns= .ok (e,v',ns',ks)->i<=e/\e<=s.length/\acc.length<ks.length/\
   ((∃m,C9 c s i=some m/\m<=e/\obs (Bi c s i A)= .error ((m:Int),28))∨
    (C9 c s i=MS c s e/\∃C,Bi c s i A=TL c s e C/\InR c hdr names0 out0 rows width ks v' ns' C))):=by
 intro n
 induction n with
 | zero=>intro acc i A v ns h1 h2;omega
 | succ n ih=>
  intro acc i A v ns hi hn hp hI
  have hH:=hI.head hh
  obtain⟨hS,hf,hwi,hcl⟩:=Cn c A i
  obtain⟨hlate,hnodes⟩:=VU (c:=c) (at_:=(i:Int)) hI.within hI.late
  rw[hH,hI.rows,hI.width,hI.cells,hI.nodes]at hlate
  rw[hH,hI.nodes]at hnodes
  rw[if_pos hI.within,hI.cells]at hcl
  obtain⟨x1,x2,x3,x4⟩:=Os hwin hi (.inr hI.within) hp hI.err hI.held
  have hEh:AR c (AJ c A i)=hdr:=(TE hS).trans hH
  have hEn:(AJ c A i).names=A.names:=hS.names
  have hEe:(AJ c A i).err=0:=hS.err.trans hI.err
  generalize hB:AJ c A i=B at*
  rw[LM]
  --the window
  have hM:∀P:Int×Int,c.win<exE c s i-i->C9 c s i=some i:=fun _ h=>by
   rw[EL (by omega),if_pos h]
  have hM2:¬c.win<exE c s i-i->∀k,C9 c s i=some k->exE c s i<k:=fun h k hk=>by
   by_cases hl:i<s.length
   ·rw[EL hl,if_neg h]at hk
    split at hk
    ·have:=M6 hk;omega
    ·exact Qp hk
   ·rw[G6 (by omega)]at hk;cases hk
  --an error at the cell itself
  have here:∀d,d≠28->(exE c s i-i<=c.win->obs (Bi c s i A)= .error ((i:Int),d))->obs (Bi c s i A)= .error (Jc (i,d) (C9 c s i)):=fun d _ hg=>by
   by_cases hw:c.win<exE c s i-i
   ·rw[hM (0,0) hw,Ge (p:=(i,d)) (Nat.le_refl _)];exact x3 hw
   ·rw[Lk (p:=(i,d)) fun k hk=>by have:=hM2 hw k hk;show i<k;omega]
    exact hg (by omega)
  have late_obs:B.late≠0->exE c s i-i<=c.win->obs (Bi c s i A)= .error ((i:Int),B.late):=fun hl hw=>by
   obtain⟨y1,y2⟩:=x4 hw
   cases hc:Be c.a c.q s i with
   | error p=>rw[y1 p.1 p.2 hc,if_pos hl]
   | ok e=>
    obtain⟨ph,hy⟩:=y2 e hc
    obtain⟨z1,z2⟩:=Kt (c:=c) (B:={B with held:=slc s i e,ph:=ph}) hl hEe
    rw[hy,Ku (by rw[z1];exact hl),Jm (by rw[z1];exact hl),z1,z2]
    show Except.error (B.frm,B.late)=_
    rw[hf]
  by_cases hnum:decide (0<rows)=true/\(width:Int)<=(acc.length:Int)
  ·have hL:B.late=10:=by
    rw[hlate,if_pos ⟨by simpa using hnum.1,by omega⟩]
   rw[if_pos hnum]
   refine⟨fun p d h=>?_,fun e v' ns' ks h=>by cases h⟩
   cases h
   exact⟨Nat.le_refl _,here 10 (by decide) fun hw=>by rw[late_obs (by rw[hL];decide) hw,hL]⟩
  rw[if_neg hnum]
  have hlate':B.late=if hdr=true then 0 else F5 c 3 v:=by
   rw[hlate,if_neg fun h=>hnum ⟨by simpa using h.1,by omega⟩]
  rw[TK (names:=A.names) hI.nsr]
  by_cases hlim:hdr=false/\F5 c 3 v≠0
  ·have hL:B.late=F5 c 3 v:=by rw[hlate',if_neg (by rw[hlim.1];decide)]
   rw[if_pos hlim]
   refine⟨fun p d h=>?_,fun e v' ns' ks h=>by cases h⟩
   cases h
   refine⟨Nat.le_refl _,here _ (by rcases limA_ne hlim.2 with h | h<;>rw[h]<;>decide) fun hw=>by rw[late_obs (by rw[hL];exact hlim.2) hw,hL]⟩
  rw[if_neg hlim]
  have hL0:B.late=0:=by
   rw[hlate']
   cases hdr with
   | true=>rfl
   | false=>exact Decidable.not_not.1 fun h=>hlim ⟨rfl,h⟩
  cases hc:Be c.a c.q s i with
  | error p=>
   obtain⟨p,d⟩:=p
   have hex:exE c s i=p:=by unfold exE;rw[hc]
   refine⟨fun p' d' h=>?_,fun e v' ns' ks h=>by cases h⟩
   cases h
   refine⟨by omega,?_⟩
   by_cases hw:c.win<exE c s i-i
   ·rw[hM (0,0) hw,Ge (p:=(p,d)) (by show i<=p;omega)];exact x3 hw
   ·have:=(x4 (by omega)).1 p d hc
    rw[this,if_neg (by omega)]
    rw[Lk (p:=(p,d)) fun k hk=>by have:=hM2 hw k hk;show p<k;omega]
  | ok e=>
   have hex:exE c s i=e:=by unfold exE;rw[hc]
   have hle:=DY hi hc
   simp only
   by_cases hT:E5 c hdr A.names (txt c.q (slc s i e))≠0
   ·rw[if_pos hT]
    refine⟨fun p d h=>?_,fun e v' ns' ks h=>by cases h⟩
    cases h
    refine⟨Nat.le_refl _,here _ (fun h28=>?_) fun hw=>?_⟩
    ·unfold E5 at h28
     repeat' split at h28
     all_goals revert h28;decide
    ·obtain⟨ph,hy⟩:=(x4 hw).2 e hc
     have hT2:E5 c (AR c {B with held:=slc s i e,ph:=ph}) ({B with held:=slc s i e,ph:=ph}:RA).names (txt c.q ({B with held:=slc s i e,ph:=ph}:RA).held)=E5 c hdr A.names (txt c.q (slc s i e)):=by
      show E5 c (AR c B) B.names _=_
      rw[hEh,hEn]
     obtain⟨z1,z2⟩:=PP (c:=c) (A:={B with held:=slc s i e,ph:=ph}) (i:=0) (e:=0) (ph:=0) hEe hL0 (by rw[hT2];exact hT)
     rw[hT2]at z1
     rw[hy,Ku (by rw[z1];exact hT),Jm (by rw[z1];exact hT),z1,z2]
     show Except.error (B.frm,_)=_
     rw[hf]
   rw[if_neg hT]
   have hT:=Decidable.not_not.1 hT
   simp only
   --the state A7 the cell
   have hC:∀ph,∃C,AX c {B with held:=slc s i e,ph:=ph}=C/\InR c hdr names0 out0 rows width (acc++[FD (cxA c s) i e]) (if hdr=true then v else v+1) (if hdr=true then txt c.q (slc s i e)::ns else ns) C/\∀k,InR c hdr names0 out0 rows width (acc++[FD (cxA c s) i e]) (if hdr=true then v else v+1) (if hdr=true then txt c.q (slc s i e)::ns else ns) {C with ph:=k}:=by
    intro ph
    have hg:=Ov (c:=c) (A:={B with held:=slc s i e,ph:=ph}) hEe hL0 (by show E5 c (AR c B) B.names (txt c.q (slc s i e))=0;rw[hEh,hEn];exact hT)
    have hg:AX c {B with held:=slc s i e,ph:=ph}=if AR c B=true then {B with ph:=ph,held:=[],names:=B.names++[txt c.q (slc s i e)],cells:=B.cells+1} else {B with ph:=ph,held:=[],cells:=B.cells+1,out:=B.out++evC c B.names B.cells (slc s i e)}:=hg
    rw[hEh]at hg
    have hent:A6 (FD (cxA c s) i e)=slc s i e:=rfl
    have hall:∀k,InR c hdr names0 out0 rows width (acc++[FD (cxA c s) i e]) (if hdr=true then v else v+1) (if hdr=true then txt c.q (slc s i e)::ns else ns) {AX c {B with held:=slc s i e,ph:=ph} with ph:=k}:=by
     intro k
     rw[hg]
     cases hdr with
     | true=>
      rw[if_pos rfl]
      refine⟨hwi,hEe,hL0,rfl,hS.rows.trans hI.rows,hS.width.trans hI.width,?_,hnodes,?_,fun _=>?_,?_⟩
      ·show B.cells+1=_
       rw[hcl,List.length_append];rfl
      ·show B.names++_=_
       rw[hEn,hI.names,if_pos rfl,if_pos rfl,RT,hent]
      ·show(if true=true then txt c.q (slc s i e)::ns else ns)=(B.names++[txt c.q (slc s i e)]).reverse
       rw[if_pos rfl,hEn,hI.nsr rfl,List.reverse_append];rfl
      ·show B.out=_
       rw[hS.out,hI.out];rfl
     | false=>
      rw[if_neg (by decide)]
      refine⟨hwi,hEe,hL0,rfl,hS.rows.trans hI.rows,hS.width.trans hI.width,?_,hnodes,?_,fun h=>(by cases h),?_⟩
      ·show B.cells+1=_
       rw[hcl,List.length_append];rfl
      ·show B.names=_
       rw[hEn,hI.names];rfl
      ·show B.out++evC c B.names B.cells (slc s i e)=_
       rw[hS.out,hI.out,hEn,hI.names,if_neg (by decide),if_neg (by decide),if_neg (by decide),Sg,hcl,hent,Nat.zero_add,List.append_assoc]
    refine⟨_,rfl,?_,hall⟩
    have:=hall (AX c {B with held:=slc s i e,ph:=ph}).ph
    exact this
   show(∀p d,(if e<s.length/\by_ s e=c.a then Cd (cxA c s) (decide (0<rows)) (width:Int) hdr n (acc++[FD (cxA c s) i e]) (e+1) (if hdr=true then v else v+1) (if hdr=true then txt c.q (slc s i e)::ns else ns)else match BZ s e with
     | .error e=> .error e
     | .ok _=> .ok (e,if hdr=true then v else v+1,if hdr=true then txt c.q (slc s i e)::ns else ns,acc++[FD (cxA c s) i e]))= .error (p,d)->_)/\(∀e' v' ns' ks,(if e<s.length/\by_ s e=c.a then Cd (cxA c s) (decide (0<rows)) (width:Int) hdr n (acc++[FD (cxA c s) i e]) (e+1) (if hdr=true then v else v+1) (if hdr=true then txt c.q (slc s i e)::ns else ns)else match BZ s e with
     | .error e=> .error e
     | .ok _=> .ok (e,if hdr=true then v else v+1,if hdr=true then txt c.q (slc s i e)::ns else ns,acc++[FD (cxA c s) i e]))= .ok (e',v',ns',ks)->_)
   have hfit:¬c.win<exE c s i-i->∃ph,Bi c s i A=A7 c s e {B with held:=slc s i e,ph:=ph}:=fun hw=>(x4 (by omega)).2 e hc
   by_cases hsep:e<s.length/\by_ s e=c.a
   ·rw[if_pos hsep]
    obtain⟨C0,_,_,hk0⟩:=hC 0
    obtain⟨r1,r2⟩:=ih (acc++[FD (cxA c s) i e]) (e+1) {C0 with ph:=0} _ _ (by omega) (by omega) rfl (hk0 0)
    by_cases hw:c.win<exE c s i-i
    ·refine⟨fun p d h=>?_,fun e' v' ns' ks h=>?_⟩
     ·have:=(r1 p d h).1
      refine⟨by omega,?_⟩
      rw[hM (0,0) hw,Ge (p:=(p,d)) (by show i<=p;omega)];exact x3 hw
     ·obtain⟨g1,g2,g3,_⟩:=r2 e' v' ns' ks h
      rw[List.length_append]at g3
      exact⟨by omega,g2,by omega,.inl ⟨i,hM (0,0) hw,by omega,x3 hw⟩⟩
    ·obtain⟨ph,hy⟩:=hfit hw
     obtain⟨C,hC1,hC2,hk⟩:=hC ph
     have hsp:=Ui (c:=c) (B:={B with held:=slc s i e,ph:=ph}) (by rw[hC1];exact hC2.err) hsep.1 hsep.2
     rw[hC1]at hsp
     have hmem:C9 c s i=C9 c s (e+1):=by rw[EL (by omega),if_neg hw,hex,if_pos hsep]
     obtain⟨r1,r2⟩:=ih (acc++[FD (cxA c s) i e]) (e+1) {C with ph:=0} _ _ (by omega) (by omega) rfl (hk 0)
     rw[<-hsp,<-hy]at r1 r2
     rw[hmem]
     refine⟨fun p d h=>?_,fun e' v' ns' ks h=>?_⟩
     ·obtain⟨g1,g2⟩:=r1 p d h
      exact⟨by omega,g2⟩
     ·obtain⟨g1,g2,g3,g4⟩:=r2 e' v' ns' ks h
      rw[List.length_append]at g3
      exact⟨by omega,g2,by omega,g4⟩
   ·rw[if_neg hsep]
    have hmem:¬c.win<exE c s i-i->C9 c s i=MS c s e:=fun hw=>by
     by_cases hl:i<s.length
     ·rw[EL hl,if_neg hw,hex,if_neg hsep]
     ·rw[G6 (by omega)]
      exact(Eg (fun h=>by omega) fun h=>by omega).symm
    cases hln:BZ s e with
    | error pd=>
     obtain⟨p,d⟩:=pd
     refine⟨fun p' d' h=>?_,fun e' v' ns' ks h=>by cases h⟩
     cases h
     have hpd:=Jo hln
     have hpe:i<=p:=by rcases hpd with h | h<;>omega
     refine⟨hpe,?_⟩
     by_cases hw:c.win<exE c s i-i
     ·rw[hM (0,0) hw,Ge (p:=(p,d)) hpe];exact x3 hw
     ·obtain⟨ph,hy⟩:=hfit hw
      obtain⟨C,hC1,hC2,_⟩:=hC ph
      have hCe:(AX c {B with held:=slc s i e,ph:=ph}).err=0:=by rw[hC1];exact hC2.err
      unfold BZ at hln
      by_cases hl:s.length<=e
      ·rw[if_pos hl]at hln;cases hln
      rw[if_neg hl]at hln
      have hna:by_ s e≠c.a:=fun h=>hsep ⟨by omega,h⟩
      by_cases h10:by_ s e=10
      ·rw[if_pos h10]at hln;cases hln
      rw[if_neg h10]at hln
      by_cases h13:by_ s e≠13
      ·rw[if_pos h13]at hln
       cases hln
       rw[hy,Uj hCe (by omega) hna h10 h13,hmem hw,Eg (fun h=>h10 h.2) (fun h=>h13 h.2.1)];rfl
      ·rw[if_neg h13]at hln
       have h13:=Decidable.not_not.1 h13
       have hend:Bi c s i A=Bi c s (e+1) {C with ph:=4,line:=e}:=by
        rw[hy,Ox hCe (fun _=>hna) (fun _=> .inr h13),hC1]
        unfold TL
        rw[if_pos (by omega),if_neg h10]
       by_cases hlast:s.length<=e+1
       ·rw[if_pos hlast]at hln
        cases hln
        rw[hend,HJ hlast (by exact hC2.err),hmem hw,Eg (fun h=>h10 h.2) (fun h=>by omega)]
        have hl4:EB c s.length {C with ph:=4,line:=e}=Fm {C with ph:=4,line:=e} s.length 4:=by
         unfold EB
         rw[if_pos (.inr rfl)]
        rw[hl4,NL (A:={C with ph:=4,line:=e}) hC2.err (by decide),if_neg (fun h=>h hC2.late)];rfl
       ·rw[if_neg hlast]at hln
        by_cases h10':by_ s (e+1)=10
        ·rw[if_pos h10']at hln;cases hln
        rw[if_neg h10']at hln
        cases hln
        have hnx:Bj c (s.getD (e+1) 0) ((e+1:Nat):Int) {C with ph:=4,line:=e}=Bd {C with ph:=4,line:=e} e 3:=by
         unfold Bj
         rw[if_neg (by show ¬(4:Nat)=0;decide),if_neg (by show ¬(4:Nat)=1;decide),if_neg (by show ¬(4:Nat)=2;decide),if_neg (by show ¬(4:Nat)=3;decide),Do,if_pos h10']
        rw[hend,Cm (A:={C with ph:=4,line:=e}) (by omega) hC2.err,hnx,Jr (by rw[(Bu (A:={C with ph:=4,line:=e}) hC2.err (by decide)).1];decide),K0 (A:={C with ph:=4,line:=e}) hC2.err (by decide),hmem hw,Eg (fun h=>h10 h.2) (fun h=>h10' h.2.2)];rfl
    | ok m=>
     refine⟨fun p d h=>(by cases h),fun e' v' ns' ks h=>?_⟩
     cases h
     refine⟨hle.1,hle.2,by rw[List.length_append];simp,?_⟩
     by_cases hw:c.win<exE c s i-i
     ·exact .inl ⟨i,hM (0,0) hw,hle.1,x3 hw⟩
     ·obtain⟨ph,hy⟩:=hfit hw
      obtain⟨C,hC1,hC2,_⟩:=hC ph
      have hCe:(AX c {B with held:=slc s i e,ph:=ph}).err=0:=by rw[hC1];exact hC2.err
      obtain⟨_,_,_,hby⟩:=F4 hle.2 hln
      exact .inr ⟨hmem hw,C,by rw[hy,Ox hCe (fun hl h=>hsep ⟨hl,h⟩) hby,hC1],hC2⟩
end
end
def CZ (c:SC) (acc:List Nd):List B8:=if c.hd=true then(match acc.head? with | some r=>Er c.q (AC r) | none=>[])else []
def evD (c:SC) (acc:List Nd):List Ev:=(if c.hd=true then acc.tail else acc).flatMap fun r=>evK c (CZ c acc) 0 (AC r)++[if c.hd then .me else .le]
structure InD (c:SC) (acc:List Nd) (v:Int) (ns:List B8) (wid:Int) (A:RA):Prop where
 ph:A.ph=0
 within:A.within=false
 err:A.err=0
 late:A.late=0
 held:A.held=[]
 rows:A.rows=acc.length
 width:(A.width:Int)=wid
 nodes:A.nodes=v
 names:A.names=CZ c acc
 nsr:acc=[]->ns=[]
 out:A.out=evD c acc
theorem InD.start (c:SC):InD c [] 1 [] 0 RA.start:=⟨rfl,rfl,rfl,rfl,rfl,rfl,rfl,rfl,by unfold CZ;split<;>rfl,fun _=>rfl,by unfold evD;split<;>rfl⟩
theorem W1 {c:SC} {s:B8} {i:Nat} {A:RA} (hwin:1<=c.win) (hi:i<s.length) (hp:A.ph=0) (he:A.err=0) (hh:A.held=[]) (hl:(AJ c A i).late≠0):
  obs (Bi c s i A)= .error (Jc (i,(AJ c A i).late) (C9 c s i)):=by
 obtain⟨x1,x2,x3,x4⟩:=Os hwin (Nat.le_of_lt hi) (.inl hi) hp he hh
 obtain⟨hS,hf,_,_⟩:=Cn c A i
 have hEe:(AJ c A i).err=0:=hS.err.trans he
 generalize hB:AJ c A i=B at*
 by_cases hw:c.win<exE c s i-i
 ·rw[EL hi,if_pos hw,Ge (p:=(i,B.late)) (Nat.le_refl _)];exact x3 hw
 ·have hM2:∀k,C9 c s i=some k->i<k:=fun k hk=>by
   rw[EL hi,if_neg hw]at hk
   split at hk
   ·have:=M6 hk;omega
   ·have:=Qp hk;omega
  rw[Lk (p:=(i,B.late)) hM2]
  obtain⟨y1,y2⟩:=x4 (by omega)
  cases hc:Be c.a c.q s i with
  | error p=>rw[y1 p.1 p.2 hc,if_pos hl]
  | ok e=>
   obtain⟨ph,hy⟩:=y2 e hc
   obtain⟨z1,z2⟩:=Kt (c:=c) (B:={B with held:=slc s i e,ph:=ph}) hl hEe
   rw[hy,Ku (by rw[z1];exact hl),Jm (by rw[z1];exact hl),z1,z2]
   show Except.error (B.frm,B.late)=_
   rw[hf]
theorem Sj {c:SC} {A:RA} {at_:Int} (h:(AI c A at_).late≠0):(AJ c A at_).late=(AI c A at_).late:=by
 unfold AJ Cs
 rw[J5 h,ite_self]
 unfold D6
 split
 ·rfl
 ·rw[Mh h]
theorem Td {c:SC} {hdr:Bool} {names0:List B8} {out0:List Ev} {rows width:Nat} {ks:List Nd} {v:Int} {ns:List B8} {C:RA} {at_:Int} (h:InR c hdr names0 out0 rows width ks v ns C) (hh:hdr=(c.hd&&decide (rows=0)))
  (hw:¬ks.length<(if rows=0 then ks.length else width)):(AH c C at_).ph=0/\(AH c C at_).within=false/\(AH c C at_).err=0/\(AH c C at_).late=0/\(AH c C at_).held=[]/\(AH c C at_).rows=rows+1/\(AH c C at_).width=(if rows=0 then ks.length else width)/\(AH c C at_).nodes=v/\(AH c C at_).names=C.names/\(AH c C at_).out=C.out++(if hdr=true then []else [if c.hd then .me else .le]):=by
 have e0:AH c C at_=CG c (Cu C) at_:=by unfold AH;rw[if_neg (by rw[h.err];decide)]
 rw[e0]
 have hr:=h.rows
 have hwd:=h.width
 have hcl:=h.cells
 by_cases h0:rows=0
 ·have e1:Cu C={C with width:=C.cells,told:=true}:=by unfold Cu;rw[if_pos (by omega)]
  have hd:AR c {C with width:=C.cells,told:=true}=hdr:=by
   have:AR c {C with width:=C.cells,told:=true}=AR c C:=rfl
   rw[this];exact h.head hh
  rw[e1,if_pos h0]
  unfold CG
  rw[if_neg (by show ¬C.cells<C.cells;omega),hd]
  exact⟨rfl,rfl,h.err,h.late,h.held,by show C.rows+1=_;omega,hcl,h.nodes,rfl,rfl⟩
 ·have e1:Cu C=C:=by unfold Cu;rw[if_neg (by omega)]
  rw[if_neg h0]at hw
  rw[e1,if_neg h0]
  unfold CG
  rw[if_neg (by omega),h.head hh]
  exact⟨rfl,rfl,h.err,h.late,h.held,by show C.rows+1=_;omega,hwd,h.nodes,rfl,rfl⟩
theorem RG {c:SC} {hdr:Bool} {names0:List B8} {out0:List Ev} {rows width:Nat} {ks:List Nd} {v:Int} {ns:List B8} {C:RA} {at_:Int} (h:InR c hdr names0 out0 rows width ks v ns C)
  (hw:ks.length<(if rows=0 then ks.length else width)):(AH c C at_).err=10/\(AH c C at_).off=at_:=by
 have h0:rows≠0:=fun h0=>by rw[if_pos h0]at hw;omega
 rw[if_neg h0]at hw
 have hr:=h.rows
 have hwd:=h.width
 have hcl:=h.cells
 have e1:Cu C=C:=by unfold Cu;rw[if_neg (by omega)]
 have e0:AH c C at_=CG c (Cu C) at_:=by unfold AH;rw[if_neg (by rw[h.err];decide)]
 rw[e0,e1]
 unfold CG
 rw[if_pos (by omega)]
 exact Bu h.err (by decide)
theorem InR.move {c:SC} {hdr:Bool} {names0:List B8} {out0:List Ev} {rows width:Nat} {ks:List Nd} {v:Int} {ns:List B8} {C:RA} (h:InR c hdr names0 out0 rows width ks v ns C) (p:Nat) (l:Int):InR c hdr names0 out0 rows width ks v ns {C with ph:=p,line:=l}:=
 ⟨h.within,h.err,h.late,h.held,h.rows,h.width,h.cells,h.nodes,h.names,h.nsr,h.out⟩
theorem UT {c:SC} {s:B8} {e m:Nat} {hdr:Bool} {names0:List B8} {out0:List Ev} {rows width:Nat} {ks:List Nd} {v:Int} {ns:List B8} {C:RA} (hE:e<=s.length) (h:InR c hdr names0 out0 rows width ks v ns C) (hln:BZ s e= .ok m):
  MS c s e=C9 c s (e+m)/\∃C',InR c hdr names0 out0 rows width ks v ns C'/\(TL c s e C=Bi c s (e+m) (AH c C' e)∨(e+m=s.length/\TL c s e C=AH c C' e)):=by
 unfold BZ at hln
 unfold TL MS
 by_cases hl:s.length<=e
 ·rw[if_pos hl]at hln
  cases hln
  rw[if_neg (by omega),if_neg (by omega),if_neg (by omega)]
  exact⟨(G6 (by omega)).symm,C,h,.inr ⟨by omega,by rw[show e=s.length by omega]⟩⟩
 rw[if_neg hl]at hln
 by_cases h10:by_ s e=10
 ·rw[if_pos h10]at hln
  cases hln
  rw[if_pos ⟨by omega,h10⟩,if_pos (by omega),if_pos h10]
  exact⟨rfl,C,h,.inl rfl⟩
 rw[if_neg h10]at hln
 by_cases h13:by_ s e≠13
 ·rw[if_pos h13]at hln;cases hln
 rw[if_neg h13]at hln
 have h13:=Decidable.not_not.1 h13
 by_cases hlast:s.length<=e+1
 ·rw[if_pos hlast]at hln;cases hln
 rw[if_neg hlast]at hln
 by_cases h10':by_ s (e+1)=10
 ·rw[if_pos h10']at hln
  cases hln
  rw[if_neg (fun h=>h10 h.2),if_pos ⟨by omega,h13,h10'⟩,if_pos (by omega),if_neg h10]
  refine⟨rfl,{C with ph:=4,line:=e},h.move 4 e,.inl ?_⟩
  rw[Cm (A:={C with ph:=4,line:=e}) (by omega) h.err]
  unfold Bj
  rw[if_neg (by show ¬(4:Nat)=0;decide),if_neg (by show ¬(4:Nat)=1;decide),if_neg (by show ¬(4:Nat)=2;decide),if_neg (by show ¬(4:Nat)=3;decide),Do,if_neg (by rw[h10'];decide)]
 ·rw[if_neg h10']at hln;cases hln
theorem Xj {c:SC} {acc:List Nd} {r:Nd}:evD c (acc++[r])=evD c acc++(if (c.hd&&acc.isEmpty)=true then []else evK c (CZ c (acc++[r])) 0 (AC r)++[if c.hd then .me else .le])/\(acc≠ []->CZ c (acc++[r])=CZ c acc):=by
 have hn:acc≠ []->CZ c (acc++[r])=CZ c acc:=fun hne=>by
  unfold CZ
  cases acc with
  | nil=>exact absurd rfl hne
  | cons x t=>rfl
 refine⟨?_,hn⟩
 cases acc with
 | nil=>
  unfold evD
  cases hc:c.hd with
  | true=>simp
  | false=>simp
 | cons x t=>
  have h1:=hn (by simp)
  unfold evD
  rw[h1]
  cases hc:c.hd with
  | true=>simp
  | false=>simp
theorem doc_run {c:SC} {s:B8} (hwin:1<=c.win) (hac:c.a≠10/\c.a≠13):∀(n:Nat) (acc:List Nd) (i:Nat) (A:RA) (v:Int) (ns:List B8) (wid:Int),i<=s.length->s.length<i+n->InD c acc v ns wid A->
  (∀p d,Em (cxA c s) c.hd n acc i v ns wid= .error (p,d)->i<=p/\obs (Bi c s i A)= .error (Jc (p,d) (C9 c s i)))/\
  (∀rs,Em (cxA c s) c.hd n acc i v ns wid= .ok rs->(C9 c s i=none/\obs (Bi c s i A)= .ok (evD c rs,CZ c rs))∨∃m,C9 c s i=some m/\obs (Bi c s i A)= .error ((m:Int),28)):=by
 intro n
 induction n with
 | zero=>intro acc i A v ns wid h1 h2;omega
 | succ n ih=>
  intro acc i A v ns wid hi hn hI
  simp only[Em]
  by_cases hl:s.length<=i
  ·rw[if_pos (show(cxA c s).s.length<=i from hl)]
   refine⟨fun p d h=>(by cases h),fun rs h=>?_⟩
   cases h
   refine .inl ⟨G6 hl,?_⟩
   rw[HJ hl hI.err]
   unfold EB
   rw[if_neg (by rw[hI.ph];decide),if_pos hI.ph,if_neg (by rw[hI.within];decide)]
   unfold obs
   rw[if_pos hI.err,hI.out,hI.names]
  rw[if_neg (show ¬(cxA c s).s.length<=i from hl)]
  have hil:i<s.length:=by omega
  generalize hhd:(c.hd&&acc.isEmpty)=hdr
  have hrow0:decide (acc.length=0)=acc.isEmpty:=by cases acc<;>simp
  have hhr:hdr=(c.hd&&decide (acc.length=0)):=by rw[hrow0,hhd]
  have hnum:(!acc.isEmpty)=decide (0<acc.length):=by cases acc<;>simp
  have hH:AR c A=hdr:=by unfold AR;rw[hI.rows,hhr]
  --the state in which the record has begun
  have hE1:=I0 c A i
  obtain⟨e1,e2,e3,e4⟩:=hE1
  rw[if_neg (by rw[hI.within];decide)]at e4
  have hfin:Bi c s i A=Bi c s i (AI c A i):=by
   have hee:(AI c A i).err=0:=e1.err.trans hI.err
   have hpp:(AI c A i).ph=0:=e1.ph.trans hI.ph
   have hent:AJ c (AI c A i) i=AJ c A i:=by
    unfold AJ
    have:AI c (AI c A i) i=AI c A i:=by
     have h1:AI c (AI c A i) i={AI c A i with frm:=(i:Int)}:=by
      conv=>lhs;unfold AI
      exact if_pos e3
     have key:∀(B:RA) (k:Int),B.frm=k->({B with frm:=k}:RA)=B:=fun B k h=>by subst h;rfl
     exact h1.trans (key _ _ e2)
    rw[this]
   rw[Cm hil hI.err,Cm hil hee]
   have:Bj c (s.getD i 0) i A=Bj c (s.getD i 0) i (AI c A i):=by
    unfold Bj
    rw[if_pos hI.ph,if_pos hpp,hent]
   rw[this]
  have hv:(AI c A i).late=(if hdr=true then 0 else F5 c 2 v)/\(AI c A i).nodes=(if hdr=true then v else v+1):=by
   unfold AI
   rw[if_neg (by rw[hI.within];decide),hH]
   by_cases hh:hdr=true
   ·rw[if_pos hh,if_pos hh,if_pos hh];exact⟨hI.late,hI.nodes⟩
   ·rw[if_neg hh,if_neg hh,if_neg hh,O0 (A:={A with frm:=(i:Int),within:=true,cells:=0}) hI.late]
    exact⟨by show F5 c 2 A.nodes=_;rw[hI.nodes],by show A.nodes+1=_;rw[hI.nodes]⟩
  have hrec:G3 (cxA c s) (!acc.isEmpty) wid hdr i v ns=if hdr=false/\F5 c 2 v≠0 then .error (i,F5 c 2 v)else Hz s (decide (0<acc.length)) (A.width:Int) (Cd (cxA c s) (decide (0<acc.length)) (A.width:Int) hdr (s.length+1) [] i (if hdr=true then v else v+1) ns):=by
   rw[HA,hnum,<-hI.width]
   cases hdr with
   | true=>rw[if_pos rfl,if_neg (fun h=>by cases h.1)];rfl
   | false=>
    rw[if_neg (by decide)]
    show(match EQ c.dep c.nod 2 i v with | .error e=>Except.error e | .ok v1=>_)=_
    rw[SB]
    by_cases hlim:F5 c 2 v≠0
    ·rw[if_pos hlim,if_pos ⟨rfl,hlim⟩]
    ·rw[if_neg hlim,if_neg fun h=>hlim h.2];rfl
  simp only[bind,Except.bind]
  rw[hrec]
  by_cases hlim:hdr=false/\F5 c 2 v≠0
  ·rw[if_pos hlim]
   refine⟨fun p d h=>?_,fun rs h=>by cases h⟩
   cases h
   have hlt:(AI c A i).late=F5 c 2 v:=by rw[hv.1,if_neg (by rw[hlim.1];decide)]
   have hla:=Sj (c:=c) (A:=A) (at_:=(i:Int)) (by rw[hlt];exact hlim.2)
   have:=W1 hwin hil hI.ph hI.err hI.held (by rw[hla,hlt];exact hlim.2)
   rw[hla,hlt]at this
   exact⟨Nat.le_refl _,this⟩
  rw[if_neg hlim]
  have hl0:(AI c A i).late=0:=by
   rw[hv.1]
   cases hdr with
   | true=>rfl
   | false=>exact Decidable.not_not.1 fun h=>hlim ⟨rfl,h⟩
  have hin:InR c hdr A.names A.out acc.length A.width [] (if hdr=true then v else v+1) ns (AI c A i):=by
   have hnil:hdr=true->acc=[]:=fun h=>by
    rw[h]at hhd
    cases acc with
    | nil=>rfl
    | cons x t=>simp at hhd
   have hA0:acc=[]->A.names=[]:=fun h=>by rw[hI.names,h];unfold CZ;split<;>rfl
   refine⟨e3,e1.err.trans hI.err,hl0,e1.held.trans hI.held,e1.rows.trans hI.rows,e1.width,e4,hv.2,?_,fun h=>?_,?_⟩
   ·rw[e1.names]
    split
    ·rename_i h;rw[hA0 (hnil h)];rfl
    ·rfl
   ·rw[e1.names,hA0 (hnil h),hI.nsr (hnil h)];rfl
   ·rw[e1.out]
    split
    ·rfl
    ·rw[evK,List.append_nil]
  obtain⟨r1,r2⟩:=rec_run (s:=s) hwin hac hhr (s.length+1) [] i (AI c A i) _ ns hi (by omega) (e1.ph.trans hI.ph) hin
  rw[<-hfin]at r1 r2
  cases hR:Cd (cxA c s) (decide (0<acc.length)) (A.width:Int) hdr (s.length+1) [] i (if hdr=true then v else v+1) ns with
  | error p=>
   refine⟨fun p' d h=>?_,fun rs h=>by cases h⟩
   cases h
   exact r1 _ _ hR
  | ok p=>
   obtain⟨e,v',ns',ks⟩:=p
   obtain⟨g1,g2,g3,g4⟩:=r2 e v' ns' ks hR
   obtain⟨ks',m,q1,q2,_⟩:=RI _ hi hR
   have hln:BZ s e= .ok m:=(q2.le hi).2.2.2.2
   have hlm:=F4 g2 hln
   unfold Hz
   simp only[hln]
   have hwd:(if decide (0<acc.length)=true then(A.width:Int)else(ks.length:Int))=(((if acc.length=0 then ks.length else A.width):Nat):Int):=by
    by_cases h0:acc.length=0
    ·rw[if_pos h0,if_neg (by simp[h0])]
    ·rw[if_neg h0,if_pos (by simp;omega)]
   rw[hwd]
   by_cases hw:ks.length<(if acc.length=0 then ks.length else A.width)
   ·rw[if_pos (by omega)]
    refine⟨fun p d h=>?_,fun rs h=>by cases h⟩
    cases h
    refine⟨g1,?_⟩
    rcases g4 with⟨k,k1,k2,k3⟩ | ⟨k1,C,k2,k3⟩
    ·rw[k1,Ge (p:=(e,10)) k2];exact k3
    ·obtain⟨m1,C',m2,m3⟩:=UT g2 k3 hln
     obtain⟨b1,b2⟩:=RG (at_:=(e:Int)) m2 hw
     rw[k1,Lk (p:=(e,10)) fun k hk=>Qp hk,k2]
     have hob:obs (AH c C' e)= .error ((e:Int),10):=by rw[Jm (by rw[b1];decide),b1,b2]
     rcases m3 with m3 | ⟨_,m3⟩
     ·rw[m3,Jr (by rw[b1];decide),hob]
     ·rw[m3,hob]
   ·rw[if_neg (by omega)]
    simp only
    have hpos:i<e+m:=by
     rcases Nat.eq_zero_or_pos m with h0 | h0
     ·have:=hlm.2.1 h0;omega
     ·omega
    --the state A7 the record
    have after:∀C',InR c hdr A.names A.out acc.length A.width ks v' ns' C'->InD c (acc++[.mk 8 [] [] ks (slc s e (e+m))]) v' ns' (((if acc.length=0 then ks.length else A.width):Nat):Int) (AH c C' e):=by
     intro C' hC
     obtain⟨f1,f2,f3,f4,f5,f6,f7,f8,f9,f10⟩:=Td (at_:=(e:Int)) hC hhr hw
     have hkid:AC (.mk 8 [] [] ks (slc s e (e+m)))=ks:=rfl
     obtain⟨s1,s2⟩:=Xj (c:=c) (acc:=acc) (r:= .mk 8 [] [] ks (slc s e (e+m)))
     have hnm:C'.names=CZ c (acc++[.mk 8 [] [] ks (slc s e (e+m))]):=by
      rw[hC.names]
      by_cases hh:hdr=true
      ·rw[if_pos hh]
       rw[hh]at hhd
       have hne:acc=[]:=by cases acc with | nil=>rfl | cons x t=>simp at hhd
       have hcd:c.hd=true:=by simp at hhd;exact hhd.1
       subst hne
       unfold CZ
       rw[if_pos hcd];rfl
      ·rw[if_neg hh,hI.names]
       by_cases hne:acc=[]
       ·subst hne
        have hcd:c.hd=false:=by
         cases hc:c.hd with
         | false=>rfl
         | true=>rw[hc]at hhd;exact absurd hhd.symm hh
        unfold CZ
        rw[hcd];rfl
       ·exact(s2 hne).symm
     refine⟨f1,f2,f3,f4,f5,by rw[f6,List.length_append];rfl,by rw[f7],f8,by rw[f9,hnm],fun h=>by simp at h,?_⟩
     ·rw[f10,hC.out,s1,hhd,hI.out,hkid]
      by_cases hh:hdr=true
      ·rw[if_pos hh,if_pos hh,if_pos hh]
      ·rw[if_neg hh,if_neg hh,if_neg hh,List.append_assoc]
       congr 3
       rw[hI.names]
       by_cases hne:acc=[]
       ·subst hne
        have hcd:c.hd=false:=by
         cases hc:c.hd with
         | false=>rfl
         | true=>rw[hc]at hhd;exact absurd hhd.symm hh
        unfold CZ
        rw[hcd];rfl
       ·exact(s2 hne).symm
    rcases g4 with⟨k,k1,k2,k3⟩ | ⟨k1,C,k2,k3⟩
    ·--the window's error
     obtain⟨h1,h2⟩:=ih (acc++[.mk 8 [] [] ks (slc s e (e+m))]) (e+m) {RA.start with rows:=(acc++[Nd.mk 8 [] [] ks (slc s e (e+m))]).length,width:=(if acc.length=0 then ks.length else A.width),nodes:=v',names:=CZ c (acc++[.mk 8 [] [] ks (slc s e (e+m))]),out:=evD c (acc++[.mk 8 [] [] ks (slc s e (e+m))])} v' ns' (((if acc.length=0 then ks.length else A.width):Nat):Int) (by omega) (by omega) ⟨rfl,rfl,rfl,rfl,rfl,rfl,rfl,rfl,rfl,fun h=>by simp at h,rfl⟩
     refine⟨fun p d h=>?_,fun rs h=> .inr ⟨k,k1,k3⟩⟩
     have:=(h1 p d h).1
     exact⟨by omega,by rw[k1,Ge (p:=(p,d)) (by show k<=p;omega)];exact k3⟩
    ·obtain⟨m1,C',m2,m3⟩:=UT g2 k3 hln
     have hD:=after C' m2
     have hf:Bi c s i A=Bi c s (e+m) (AH c C' e):=by
      rcases m3 with m3 | ⟨m4,m3⟩
      ·rw[k2,m3]
      ·rw[k2,m3,HJ (by omega) hD.err]
       unfold EB
       rw[if_neg (by rw[hD.ph];decide),if_pos hD.ph,if_neg (by rw[hD.within];decide)]
     rw[hf,k1,m1]
     obtain⟨h1,h2⟩:=ih _ (e+m) _ v' ns' _ (by omega) (by omega) hD
     exact⟨fun p d h=>⟨by have:=(h1 p d h).1;omega,(h1 p d h).2⟩,h2⟩
section
structure RX where
 begun:Bool
 size:Int
 text:Int
 cut:B8
 ended:Bool
 lb:Int
 lk:Int
 lt:Int
def Ir:List TV:=Bk scZ .nilSlice .nilSlice .nilSlice
def evT:Ev->List TV
 | .ls=> .int .i64 2:: .str []::Ir
 | .le=> .int .i64 3:: .str []::Ir
 | .ms=> .int .i64 4:: .str []::Ir
 | .me=> .int .i64 5:: .str []::Ir
 | .key k=> .int .i64 6:: .str k::Ir
 | .val s=> .int .i64 1:: .str []::Bk s .nilSlice .nilSlice .nilSlice
def Ek (l:List Ev):List TV:=l.flatMap evT
theorem Le (l m:List Ev):Ek (l++m)=Ek l++Ek m:=by unfold Ek;rw[List.flatMap_append]
def DC (sz:Nat) (st:St) (v:TV) (n:Nat) (xs:List TV) (I:List Nat):Prop:=
 (v= .nilSlice/\n=0/\xs=[]/\I=[])∨(v= .list sz .full n xs/\I=[])∨∃id,v= .list sz (.own id) n xs/\I=[id]/\id<st.nt/\st.live id=true
theorem DC.nil (sz:Nat) (st:St):DC sz st .nilSlice 0 [] []:= .inl ⟨rfl,rfl,rfl,rfl⟩
theorem DC.rd {sz:Nat} {st:St} {v:TV} {n:Nat} {xs:List TV} {I:List Nat} (h:DC sz st v n xs I):Rd sz v n xs:=by
 rcases h with⟨rfl,rfl,rfl,_⟩ | ⟨rfl,_⟩ | ⟨id,rfl,_⟩
 ·exact .inl ⟨rfl,rfl,rfl⟩
 ·exact .inr ⟨_,rfl⟩
 ·exact .inr ⟨_,rfl⟩
theorem DC.lt {sz:Nat} {st:St} {v:TV} {n:Nat} {xs:List TV} {I:List Nat} (h:DC sz st v n xs I):∀id,id∈I->id<st.nt:=by
 rcases h with⟨_,_,_,rfl⟩ | ⟨_,rfl⟩ | ⟨id,_,rfl,h,_⟩
 ·intro x hx;cases hx
 ·intro x hx;cases hx
 ·intro x hx;rw[List.mem_singleton.1 hx];exact h
structure FrT (I:List Nat) (st st':St):Prop where
 nt:st.nt<=st'.nt
 live:∀id,id<st.nt->id∉I->st'.live id=st.live id
theorem DC.keep {sz:Nat} {st st':St} {v:TV} {n:Nat} {xs:List TV} {I J:List Nat} (h:DC sz st v n xs I) (f:FrT J st st') (hd:∀id,id∈I->id∉J):DC sz st' v n xs I:=by
 rcases h with h | h | ⟨id,h1,h2,h3,h4⟩
 ·exact .inl h
 ·exact .inr (.inl h)
 ·exact .inr (.inr ⟨id,h1,h2,Nat.lt_of_lt_of_le h3 f.nt,(f.live id h3 (hd id (by rw[h2];exact .head _))).trans h4⟩)
theorem FrT.refl (I:List Nat) (st:St):FrT I st st:=⟨Nat.le_refl _,fun _ _ _=>rfl⟩
theorem Kv {T sz bytes:Nat} {st:St} {v:TV} {n k:Nat} {xs ys:List TV} {I:List Nat} {K:TV->St->Prop} (h:DC sz st v n xs I) (hby:(n+k)*bytes<=140737488355328) (hys:k=0->ys=[])
  (hK:∀v' st' I',DC sz st' v' (n+k) (xs++ys) I'->FrT I st st'->(I'=I∨I'=[st.nt])->st'.box=st.box->st'.nb=st.nb->st'.bt=st.bt->K v' st'):AG T sz bytes v k ys st K:=by
 rcases h with⟨rfl,rfl,rfl,rfl⟩ | ⟨rfl,rfl⟩ | ⟨id,rfl,rfl,h3,h4⟩
 ·simp only[AG]
  cases k with
  | zero=>rw[hys rfl]at hK;exact hK _ st [] (.nil _ _) (FrT.refl _ _) (.inl rfl) rfl rfl rfl
  | succ m=>
   refine Ab (by rw[Nat.ble_eq];rw[Nat.zero_add]at hby;exact hby) (hK _ _ [st.nt] (.inr (.inr ⟨st.nt,by rw[Nat.zero_add,List.nil_append],rfl,by simp[St.fresh],by simp[St.fresh]⟩)) ⟨by simp[St.fresh],fun id h _=>by simp[St.fresh];omega⟩ (.inr rfl) rfl rfl rfl)
 ·simp only[AG,Nat.beq_refl]
  refine⟨hby,?_⟩
  cases k with
  | zero=>rw[hys rfl]at hK;exact hK _ st [] (.inr (.inl ⟨by rw[Nat.add_zero,List.append_nil],rfl⟩)) (FrT.refl _ _) (.inl rfl) rfl rfl rfl
  | succ m=>exact hK _ _ [st.nt] (.inr (.inr ⟨st.nt,rfl,rfl,by simp[St.fresh],by simp[St.fresh]⟩)) ⟨by simp[St.fresh],fun id h _=>by simp[St.fresh];omega⟩ (.inr rfl) rfl rfl rfl
 ·simp only[AG,Nat.beq_refl]
  refine⟨hby,h4,hK _ _ [st.nt] (.inr (.inr ⟨st.nt,rfl,rfl,by simp[St.fresh,St.retire],by simp[St.fresh,St.retire]⟩)) ⟨by simp[St.fresh,St.retire],fun i hi hn=>?_⟩ (.inr rfl) rfl rfl rfl⟩
  have h1:i≠id:=fun e=>hn (by rw[e];exact .head _)
  have h2:i≠st.nt:=by omega
  simp[St.fresh,St.retire,h1,h2]
def rdC (c:SC) (X:RX) (A:RA) (w m:Nat) (nv ov:TV):List TV:=
 [.box w 0,.int .u8 c.a,.int .u8 c.q,.bool c.hd,.bool c.ty,.int .i64 c.dep,.int .i64 c.nod,.int .i64 X.lb,.int .i64 X.lk,.int .i64 X.lt,.int .i64 (A.ph:Int),.bool X.begun,.bool A.within,.int .i64 (A.rows:Int),.int .i64 (A.cells:Int),.int .i64 (A.width:Int),nv,.map m,.bool A.told,.int .i64 A.nodes,.int .i64 A.frm,.int .i64 A.line,.int .i64 A.late,.int .i64 X.size,.int .i64 X.text,.str X.cut,ov,.int .i64 A.off,.int .i64 A.err,.bool X.ended]
def KnM (es:List (B8×TV)) (names:List B8):Prop:=∀t,DH t es=if t∈names then some (.bool true)else none
structure RB (c:SC) (X:RX) (A:RA) (r w m:Nat) (I:List Nat) (st:St):Prop where
 rb:r<st.nb
 wb:w<st.nb
 mb:m<st.nb
 rw_:r≠w
 rm:r≠m
 wm:w≠m
 ex:∃nv ov hv wo es I1 I2 I3,st.box r= .cells (rdC c X A w m nv ov)/\st.box w= .cells [.int .i64 (c.win:Int),hv,.int .i64 wo,.bool false]/\st.box m= .map es/\KnM es A.names/\
  DC 1 st nv A.names.length (A.names.map TV.str) I1/\DC 15 st ov A.out.length (Ek A.out) I2/\DC 1 st hv A.held.length (A3 A.held) I3/\(I1++I2++I3).Nodup/\I=I1++I2++I3
structure FrB (r w m:Nat) (I I':List Nat) (st st':St):Prop where
 nb:st.nb<=st'.nb
 nt:st.nt<=st'.nt
 box:∀b,b≠r->b≠w->b≠m->b<st.nb->st'.box b=st.box b
 live:∀id,id<st.nt->id∉I->st'.live id=st.live id
 sub:∀id,id∈I'->id∈I∨st.nt<=id
theorem FrB.refl (r w m:Nat) (I:List Nat) (st:St):FrB r w m I I st st:=⟨Nat.le_refl _,Nat.le_refl _,fun _ _ _ _ _=>rfl,fun _ _ _=>rfl,fun _ h=> .inl h⟩
theorem FrB.trans {r w m:Nat} {I I1 I2:List Nat} {a b d:St} (h:FrB r w m I I1 a b) (k:FrB r w m I1 I2 b d):FrB r w m I I2 a d:=
 ⟨Nat.le_trans h.nb k.nb,Nat.le_trans h.nt k.nt,fun x h1 h2 h3 h4=>(k.box x h1 h2 h3 (Nat.lt_of_lt_of_le h4 h.nb)).trans (h.box x h1 h2 h3 h4),
  fun id h1 h2=>(k.live id (Nat.lt_of_lt_of_le h1 h.nt) fun hm=>(h.sub id hm).elim h2 fun h3=>by omega).trans (h.live id h1 h2),
  fun id hm=>(k.sub id hm).elim (h.sub id) fun h1=> .inr (Nat.le_trans h.nt h1)⟩
section
variable {c:SC} {X:RX} {A:RA} {r w m:Nat} {I:List Nat} {st:St}
theorem RB.ld (h:RB c X A r w m I st) {k:Nat} {x:TV} {f:TV->Prop} (hx:∀nv ov,(rdC c X A w m nv ov)[k]? =some x) (hf:f x):Ah (Ac st [] (.t (.box r k)) 0) f:=by
 obtain⟨nv,ov,hv,wo,es,I1,I2,I3,h1,_⟩:=h.ex
 refine Ae ?_ hf
 simp only[Ac,h1]
 exact hx nv ov
theorem RB.put (h:RB c X A r w m I st) {k:Nat} {x:TV} {K:St->Prop} (X':RX) (A':RA) (hlt:k<30) (hn:A'.names=A.names) (ho:A'.out=A.out) (hh:A'.held=A.held) (hs:∀nv ov,(rdC c X A w m nv ov).set k x=rdC c X' A' w m nv ov)
  (hk:∀st',RB c X' A' r w m I st'->FrB r w m I I st st'->K st'):stB st (.box r k) [x] K:=by
 obtain⟨nv,ov,hv,wo,es,I1,I2,I3,h1,h2,h3,h4,h5,h6,h7,h8,h9⟩:=h.ex
 refine⟨_,h1,by simp only[List.length_singleton];show k+1<=30;omega,?_⟩
 rw[show setAll (rdC c X A w m nv ov) k [x]=rdC c X' A' w m nv ov from hs nv ov]
 have f:FrT [] st (st.put r (.cells (rdC c X' A' w m nv ov))):=⟨Nat.le_refl _,fun _ _ _=>rfl⟩
 refine hk _ ⟨h.rb,h.wb,h.mb,h.rw_,h.rm,h.wm,nv,ov,hv,wo,es,I1,I2,I3,by simp[St.put],?_,?_,by rw[hn];exact h4,?_,?_,?_,h8,h9⟩ ⟨Nat.le_refl _,Nat.le_refl _,fun b hb _ _ _=>by simp[St.put,hb],fun _ _ _=>rfl,fun _ h=> .inl h⟩
 ·have:=h.rw_;simp[St.put,Ne.symm this];exact h2
 ·have:=h.rm;simp[St.put,Ne.symm this];exact h3
 ·rw[hn];exact h5.keep f fun _ _ h=>by cases h
 ·rw[ho];exact h6.keep f fun _ _ h=>by cases h
 ·rw[hh];exact h7.keep f fun _ _ h=>by cases h
theorem Od (h:RB c X A r w m I st) {e:Int} {K:St->Prop} (hk:∀st',RB c X (BK A e) r w m I st'->FrB r w m I I st st'->K st'):Ad PR AL [.box r 0,.int .i64 e] [] st K:=by
 refine FP r e st K (h.ld (k:=22) (fun _ _=>rfl) (Am (Aa (fun g=>?_) fun g=>?_)))
 ·have:BK A e={A with late:=e}:=if_pos g
  rw[this]at hk
  exact h.put X {A with late:=e} (by decide) rfl rfl rfl (fun _ _=>rfl) hk
 ·have:BK A e=A:=if_neg g
  rw[this]at hk
  exact hk st h (FrB.refl _ _ _ _ _)
theorem HM (h:RB c X A r w m I st) {K:Bool->St->Prop} (hk:K (AR c A) st):Ad PR Ao [.box r 0] [.one .bool] st K:=by
 unfold AR at hk
 refine E8 r st K (h.ld (k:=3) (x:= .bool c.hd) (fun _ _=>rfl) (BC (Ar (fun g=>?_) fun g=>?_)))
 ·refine h.ld (k:=13) (x:= .int .i64 (A.rows:Int)) (fun _ _=>rfl) (Am ?_)
  rw[g,Bool.true_and]at hk
  have:decide ((A.rows:Int)=0)=decide (A.rows=0):=decide_eq_decide.2 ⟨fun h=>by omega,fun h=>by omega⟩
  rw[this];exact hk
 ·rw[g,Bool.false_and]at hk;exact hk
theorem PA (h:RB c X A r w m I st) (hb:0<=A.nodes/\A.nodes<=100000000) {d:Int} {K:St->Prop} (hk:∀st',RB c X (BG c A d) r w m I st'->FrB r w m I I st st'->K st'):Ad PR Ap [.box r 0,.int .i64 d] [] st K:=by
 have cnt:∀{B:RA} {st1:St} {K:St->Prop},B.nodes=A.nodes->RB c X B r w m I st1->(∀st',RB c X (Fi B) r w m I st'->FrB r w m I I st1 st'->K st')->Ah (Ac st1 [] (.t (.box r 19)) 0) fun x=>Ak (.int .i64) x fun n=>stB st1 (.box r 19) [.int .i64 (i64.wrap (n+1))] fun st2=>K st2:=by
  intro B st1 K hn hB hk
  refine hB.ld (k:=19) (x:= .int .i64 B.nodes) (fun _ _=>rfl) (Am ?_)
  rw[Al _ (by omega) (by omega)]
  exact hB.put X (Fi B) (by decide) rfl rfl rfl (fun _ _=>rfl) hk
 unfold BG at hk
 refine Fn r d st K (h.ld (k:=5) (x:= .int .i64 c.dep) (fun _ _=>rfl) (Am (Aa (fun g=>?_) fun g=>?_)))
 ·rw[if_pos g]at hk
  refine Od h fun st1 h1 f1=>cnt (D1 A 9).2.2.2.2 h1 fun st2 h2 f2=>hk st2 h2 (f1.trans f2)
 ·rw[if_neg g]at hk
  refine h.ld (k:=19) (x:= .int .i64 A.nodes) (fun _ _=>rfl) (Am (h.ld (k:=6) (x:= .int .i64 c.nod) (fun _ _=>rfl) (Am (Aa (fun g2=>?_) fun g2=>?_))))
  ·rw[if_pos g2]at hk
   exact Od h fun st1 h1 f1=>cnt (D1 A 10).2.2.2.2 h1 fun st2 h2 f2=>hk st2 h2 (f1.trans f2)
  ·rw[if_neg g2]at hk
   exact cnt rfl h hk
end
end
section
section
variable {c:SC} {X:RX} {A:RA} {r w m:Nat} {I:List Nat} {st:St}
theorem RB.at (h:RB c X A r w m I st) {k:Nat} {x:TV} (hx:∀nv ov,(rdC c X A w m nv ov)[k]? =some x):Ac st [] (.t (.box r k)) 0=some x:=by
 obtain⟨nv,ov,hv,wo,es,I1,I2,I3,h1,_⟩:=h.ex
 simp only[Ac,h1]
 exact hx nv ov
theorem RB.win (h:RB c X A r w m I st):Ac st [] (.t (.box r 0)) 0=some (.box w 0):=h.at fun _ _=>rfl
theorem MX (h:RB c X A r w m I st) {K:Int->St->Prop} (hk:K (A.held.length:Int) st):Ad PR AW [.box w 0] [.one (.int .i64)] st K:=by
 obtain⟨nv,ov,hv,wo,es,I1,I2,I3,h1,h2,h3,h4,h5,h6,h7,h8,h9⟩:=h.ex
 refine Iu w st K (Ae (x:=hv) (by simp[Ac,h2]) (Ab h7.rd.isSl ?_))
 rw[h7.rd.lenS];exact hk
theorem Tr {α:Type} {a b:List α} (h:(a++b).Nodup):a.Nodup:=(List.nodup_append.1 h).1
theorem Kz (h:RB c X A r w m I st) (hl:A.held.length<=100000000) {K:B8->Int->St->Prop} (hk:∀st' I',RB c X {A with held:=[]} r w m I' st'->FrB r w m I I' st st'->K A.held 0 st'):
  Ad PR AQ [.box w 0,.int .i64 (A.held.length:Int)] [.one .str,.one (.int .i64)] st K:=by
 obtain⟨nv,ov,hv,wo,es,I1,I2,I3,h1,h2,h3,h4,h5,h6,h7,h8,h9⟩:=h.ex
 have hld:Ac st [] (.t (.box w 1)) 0=some hv:=by simp[Ac,h2]
 have hS:=h7.rd.lenS
 have hlst:HX 1 hv=true:=by
  rcases h7 with⟨rfl,_⟩ | ⟨rfl,_⟩ | ⟨id,rfl,_⟩<;>rfl
 have htb:(toBytes st (slT 1 .full hv 0 (Int.toNat (A.held.length:Int)))).map TV.str=some (.str A.held):=by
  rw[Int.toNat_natCast]
  have hb:∀xs,xs=A3 A.held->DZ ((xs.take (A.held.length*1)).drop (0*1))=some A.held:=fun xs hx=>by
   rw[hx,Nat.mul_one]
   simp only[Nat.zero_mul,List.drop_zero]
   rw[List.take_of_length_le (by rw[JR];omega),Dz]
  rcases h7 with⟨rfl,e1,_,_⟩ | ⟨rfl,_⟩ | ⟨id,rfl,_⟩
  ·have:A.held=[]:=List.eq_nil_of_length_eq_zero e1
   rw[this];rfl
  ·show(DZ _).map TV.str=_
   rw[hb _ rfl];rfl
  ·show(DZ _).map TV.str=_
   rw[hb _ rfl];rfl
 have hsrc:BJ st 1 (slT 1 .non hv (Int.toNat (A.held.length:Int)) (lenS hv))=some (0,[]):=by
  rw[Int.toNat_natCast,hS]
  have hb:∀xs,xs=A3 A.held->(xs.take (A.held.length*1)).drop (A.held.length*1)=[]:=fun xs hx=>by
   rw[List.drop_of_length_le]
   rw[List.length_take];omega
  rcases h7 with⟨rfl,e1,_,_⟩ | ⟨rfl,_⟩ | ⟨id,rfl,_⟩
  ·rfl
  ·show BJ st 1 (.list 1 .non (A.held.length-A.held.length) _)=_
   rw[hb _ rfl,Nat.sub_self];rfl
  ·show BJ st 1 (.list 1 .non (A.held.length-A.held.length) _)=_
   rw[hb _ rfl,Nat.sub_self];rfl
 have hrw:=h.rw_
 have hwm:=h.wm
 refine HZ w _ st K (Aa (fun g=>by omega) fun _=>Ae hld (Ab h7.rd.isSl (Aa (fun g=>by rw[hS]at g;omega) fun _=>Ae hld ⟨⟨hlst,by omega,by rw[hS];omega,rfl⟩,Ae htb (AB (Ae hld ⟨⟨hlst,by omega,by rw[hS];omega⟩,Ae hsrc (Ab rfl ?_)⟩))⟩)))
 simp only[AG,Nat.beq_refl]
 refine⟨by show(0+0)*1<=_;omega,Ab rfl ⟨_,h2,by simp,?_⟩⟩
 have e1:setAll [TV.int .i64 (c.win:Int),hv,.int .i64 wo,.bool false] 1 [.list 1 .full 0 []]=[TV.int .i64 (c.win:Int),.list 1 .full 0 [],.int .i64 wo,.bool false]:=rfl
 have e2:∀x,setAll [TV.int .i64 (c.win:Int),.list 1 .full 0 [],.int .i64 wo,.bool false] 2 [x]=[TV.int .i64 (c.win:Int),.list 1 .full 0 [],x,.bool false]:=fun _=>rfl
 rw[e1]
 refine Ae (x:= .int .i64 wo) (by simp[Ac,St.put]) (Am ⟨_,box_put _ _ _,by simp,?_⟩)
 rw[e2]
 have f:FrT [] st ((st.put w (.cells [TV.int .i64 (c.win:Int),.list 1 .full 0 [],.int .i64 wo,.bool false])).put w (.cells [TV.int .i64 (c.win:Int),.list 1 .full 0 [],.int .i64 (i64.wrap (wo+(A.held.length:Int))),.bool false])):=⟨Nat.le_refl _,fun _ _ _=>rfl⟩
 refine hk _ (I1++I2) ⟨h.rb,h.wb,h.mb,h.rw_,h.rm,h.wm,nv,ov,.list 1 .full 0 [],i64.wrap (wo+(A.held.length:Int)),es,I1,I2,[],?_,by simp[St.put],?_,h4,h5.keep f (fun _ _ h=>by cases h),h6.keep f (fun _ _ h=>by cases h),.inr (.inl ⟨rfl,rfl⟩),by rw[List.append_nil];exact Tr h8,by rw[List.append_nil]⟩ ⟨Nat.le_refl _,Nat.le_refl _,fun b _ hb _ _=>by simp[St.put,hb],fun _ _ _=>rfl,fun id hid=> .inl (by rw[h9];exact List.mem_append.2 (.inl hid))⟩
 ·simp[St.put,hrw];exact h1
 ·simp[St.put,Ne.symm hwm];exact h3
theorem Wi (h:RB c X A r w m I st) (hl:A.held.length<=100000000) (hwb:c.win<=100000000) {b:UInt8} {K:Int->St->Prop} (hk1:c.win<=A.held.length->K 28 st) (hk2:A.held.length<c.win->∀st' I',RB c X {A with held:=A.held++[b]} r w m I' st'->FrB r w m I I' st st'->K 0 st'):
  Ad PR Da [.box w 0,.str [b]] [.one (.int .i64)] st K:=by
 obtain⟨nv,ov,hv,wo,es,I1,I2,I3,h1,h2,h3,h4,h5,h6,h7,h8,h9⟩:=h.ex
 have hld:Ac st [] (.t (.box w 1)) 0=some hv:=by simp[Ac,h2]
 have hrw:=h.rw_
 have hwm:=h.wm
 refine H2 w [b] st K (Ae (x:= .bool false) (by simp[Ac,h2]) (BC (Ar (fun g=>by cases g) fun _=>?_)))
 refine H1 w st _ (Ae (x:= .int .i64 (c.win:Int)) (by simp[Ac,h2]) (Am (Ae hld (Ab h7.rd.isSl ?_))))
 rw[h7.rd.lenS,Al _ (by omega) (by omega)]
 refine Aa (fun g=>hk1 (by simp only[List.length_singleton]at g;omega)) fun g=>?_
 have hlt:A.held.length<c.win:=by simp only[List.length_singleton]at g;omega
 refine Ae hld (Ae (src_str st [b]) (Ab (V5 [b]) ?_))
 refine Kv h7 (by simp;omega) (fun h=>by cases h) fun v' st1 I' ho f hI hbx hnb hbt=>Ab (by exact ho.rd.one |> fun h=>by rw[List.all_cons,h];rfl) ?_
 have h2':st1.box w= .cells [TV.int .i64 (c.win:Int),hv,.int .i64 wo,.bool false]:=by rw[hbx];exact h2
 refine⟨_,h2',by simp,?_⟩
 have e1:setAll [TV.int .i64 (c.win:Int),hv,.int .i64 wo,.bool false] 1 [v']=[TV.int .i64 (c.win:Int),v',.int .i64 wo,.bool false]:=rfl
 rw[e1]
 have hnd:=List.nodup_append.1 h8
 have f':FrT I3 st (st1.put w (.cells [TV.int .i64 (c.win:Int),v',.int .i64 wo,.bool false])):=⟨f.nt,f.live⟩
 have d1:∀id,id∈I1->id∉I3:=fun id h h'=>hnd.2.2 id (List.mem_append.2 (.inl h)) id h' rfl
 have d2:∀id,id∈I2->id∉I3:=fun id h h'=>hnd.2.2 id (List.mem_append.2 (.inr h)) id h' rfl
 have hlt12:∀id,id∈I1++I2->id<st.nt:=fun id h=>(List.mem_append.1 h).elim (h5.lt id) (h6.lt id)
 refine hk2 hlt _ (I1++I2++I') ⟨Nat.lt_of_lt_of_le h.rb (Nat.le_of_eq hnb.symm),Nat.lt_of_lt_of_le h.wb (Nat.le_of_eq hnb.symm),Nat.lt_of_lt_of_le h.mb (Nat.le_of_eq hnb.symm),h.rw_,h.rm,h.wm,nv,ov,v',wo,es,I1,I2,I',?_,by simp[St.put],?_,h4,h5.keep f' d1,h6.keep f' d2,?_,?_,rfl⟩ ⟨Nat.le_of_eq hnb.symm,f.nt,fun x _ hx _ _=>by simp[St.put,hx,hbx],fun id h1 h2=>f.live id h1 fun h3=>h2 (by rw[h9];exact List.mem_append.2 (.inr h3)),fun id hid=>?_⟩
 ·simp[St.put,hrw,hbx];exact h1
 ·simp[St.put,Ne.symm hwm,hbx];exact h3
 ·have:=ho
  simp only[List.length_append,List.length_singleton]at this⊢
  rw[<-OY]
  rcases this with h | h | ⟨id,q1,q2,q3,q4⟩
  ·exact .inl h
  ·exact .inr (.inl h)
  ·exact .inr (.inr ⟨id,q1,q2,q3,q4⟩)
 ·rcases hI with rfl | rfl
  ·exact h8
  ·rw[List.nodup_append]
   refine⟨hnd.1,by simp,fun a ha b' hb e=>?_⟩
   rw[List.mem_singleton]at hb
   have:=hlt12 a ha
   omega
 ·rcases List.mem_append.1 hid with hid | hid
  ·exact .inl (by rw[h9];exact List.mem_append.2 (.inl hid))
  ·rcases hI with rfl | rfl
   ·exact .inl (by rw[h9];exact List.mem_append.2 (.inr hid))
   ·rw[List.mem_singleton.1 hid];exact .inr (Nat.le_refl _)
theorem Co (h:RB c X A r w m I st) (hl:A.held.length<=100000000) {o e:Int} {K:St->Prop} (hk:∀st' I',RB c X (Bd A o e) r w m I' st'->FrB r w m I I' st st'->K st'):Ad PR Ag [.box r 0,.int .i64 o,.int .i64 e] [] st K:=by
 refine FT r o e st K (h.ld (k:=28) (x:= .int .i64 A.err) (fun _ _=>rfl) (Am (Aa (fun g=>?_) fun g=>?_)))
 ·have hf:Bd A o e={A with off:=o,err:=e,held:=[]}:=if_pos g
  rw[hf]at hk
  refine h.put X {A with off:=o} (by decide) rfl rfl rfl (fun _ _=>rfl) fun st1 h1 f1=>h1.put X {A with off:=o,err:=e} (by decide) rfl rfl rfl (fun _ _=>rfl) fun st2 h2 f2=>?_
  refine Ae h2.win (Ae h2.win (MX h2 ⟨h2.win,Kz (A:={A with off:=o,err:=e}) h2 hl fun st3 I' h3 f3=>⟨h3.win,hk st3 I' h3 ((f1.trans f2).trans f3)⟩⟩))
 ·have hf:Bd A o e={A with held:=[]}:=if_neg g
  rw[hf]at hk
  refine Ae h.win (Ae h.win (MX h ⟨h.win,Kz h hl fun st3 I' h3 f3=>⟨h3.win,hk st3 I' h3 f3⟩⟩))
theorem Ja (h:RB c X A r w m I st) (hl:A.held.length<=100000000) (hwb:c.win<=100000000) {b:UInt8} {C:Int} (hC:C=(b.toNat:Int)) {K:St->Prop} (hk:∀st' I',RB c X (CC c b A) r w m I' st'->FrB r w m I I' st st'->K st'):Ad PR AF [.box r 0,.int .u8 C] [] st K:=by
 subst hC
 refine FS r _ st K (Ae h.win (Ae (Vf _ b rfl) (AB (Wi h hl hwb (fun g=>?_) fun g st1 I1 h1 f1=>?_))))
 ·have hf:CC c b A=Bd A A.frm 28:=if_pos g
  rw[hf]at hk
  refine Aa (fun _=>h.ld (k:=20) (x:= .int .i64 A.frm) (fun _ _=>rfl) (Am (Co h hl hk))) fun g=>absurd (by decide) g
 ·have hf:CC c b A={A with held:=A.held++[b]}:=if_neg (by omega)
  rw[hf]at hk
  exact Aa (fun g=>absurd rfl g) fun _=>hk st1 I1 h1 f1
end
end
section
section
variable {c:SC} {X:RX} {A:RA} {r w m:Nat} {I:List Nat} {st:St}
theorem RB.outK (h:RB c X A r w m I st) (hl:A.out.length<=100000000) {evs:List Ev} (hle:evs.length<=1000):∃v,Ac st [] (.t (.box r 26)) 0=some v/\
  ∀(K':TV->St->Prop),(∀v' st1,Aq v'=true->(∀K:St->Prop,(∀st' I',RB c X {A with out:=A.out++evs} r w m I' st'->FrB r w m I I' st st'->K st')->stB st1 (.box r 26) [v'] K)->K' v' st1)->∀T,AG T 15 192 v evs.length (Ek evs) st K':=by
 obtain⟨nv,ov,hv,wo,es,I1,I2,I3,h1,h2,h3,h4,h5,h6,h7,h8,h9⟩:=h.ex
 refine⟨ov,by simp only[Ac,h1];rfl,fun K' hK T=>?_⟩
 refine Kv h6 (by omega) (fun h=>by
  have:evs=[]:=List.eq_nil_of_length_eq_zero h
  rw[this];rfl) fun v' st1 I' ho f hI hbx hnb hbt=>hK v' st1 ho.rd.one fun K hk=>?_
 have h1':st1.box r= .cells (rdC c X A w m nv ov):=by rw[hbx];exact h1
 refine⟨_,h1',by show 26+1<=30;decide,?_⟩
 have e1:setAll (rdC c X A w m nv ov) 26 [v']=rdC c X {A with out:=A.out++evs} w m nv v':=rfl
 rw[e1]
 have hrw:=h.rw_
 have hrm:=h.rm
 have hnd:=List.nodup_append.1 h8
 have hnd1:=List.nodup_append.1 hnd.1
 have f':FrT I2 st (st1.put r (.cells (rdC c X {A with out:=A.out++evs} w m nv v'))):=⟨f.nt,f.live⟩
 have d1:∀id,id∈I1->id∉I2:=fun id h h'=>hnd1.2.2 id h id h' rfl
 have d3:∀id,id∈I3->id∉I2:=fun id h h'=>hnd.2.2 id (List.mem_append.2 (.inr h')) id h rfl
 have hsub:∀id,id∈I'->id∈I2∨st.nt<=id:=fun id hid=>by
  rcases hI with rfl | rfl
  ·exact .inl hid
  ·rw[List.mem_singleton.1 hid];exact .inr (Nat.le_refl _)
 refine hk _ (I1++I'++I3) ⟨Nat.lt_of_lt_of_le h.rb (Nat.le_of_eq hnb.symm),Nat.lt_of_lt_of_le h.wb (Nat.le_of_eq hnb.symm),Nat.lt_of_lt_of_le h.mb (Nat.le_of_eq hnb.symm),h.rw_,h.rm,h.wm,nv,v',hv,wo,es,I1,I',I3,by simp[St.put],?_,?_,h4,h5.keep f' d1,?_,h7.keep f' d3,?_,rfl⟩ ⟨Nat.le_of_eq hnb.symm,f.nt,fun x hx _ _ _=>by simp[St.put,hx,hbx],fun id g1 g2=>f.live id g1 fun g3=>g2 (by rw[h9];exact List.mem_append.2 (.inl (List.mem_append.2 (.inr g3)))),fun id hid=>?_⟩
 ·simp[St.put,Ne.symm hrw,hbx];exact h2
 ·simp[St.put,Ne.symm hrm,hbx];exact h3
 ·have:=ho
  show DC 15 _ v' (A.out++evs).length (Ek (A.out++evs)) I'
  rw[List.length_append,Le]
  rcases this with h | h | ⟨id,q1,q2,q3,q4⟩
  ·exact .inl h
  ·exact .inr (.inl h)
  ·exact .inr (.inr ⟨id,q1,q2,q3,q4⟩)
 ·rcases hI with rfl | rfl
  ·exact h8
  ·rw[List.nodup_append,List.nodup_append]
   refine⟨⟨hnd1.1,by simp,fun a ha b' hb e=>?_⟩,hnd.2.1,fun a ha b' hb e=>?_⟩
   ·rw[List.mem_singleton]at hb
    have:=h5.lt a ha
    omega
   ·have:=h7.lt b' hb
    rcases List.mem_append.1 ha with ha | ha
    ·exact hnd.2.2 a (List.mem_append.2 (.inl ha)) b' hb e
    ·rw[List.mem_singleton]at ha;omega
 ·rcases List.mem_append.1 hid with hid | hid
  ·rcases List.mem_append.1 hid with hid | hid
   ·exact .inl (by rw[h9];exact List.mem_append.2 (.inl (List.mem_append.2 (.inl hid))))
   ·exact(hsub id hid).imp (fun g=>by rw[h9];exact List.mem_append.2 (.inl (List.mem_append.2 (.inr g)))) fun g=>g
  ·exact .inl (by rw[h9];exact List.mem_append.2 (.inr hid))
theorem RB.nameK (h:RB c X A r w m I st) (hl:A.names.length<=100000000) {t:B8}:
  ∃es v,Ac st [] (.t (.box r 17)) 0=some (.map m)/\st.box m= .map es/\KnM es A.names/\Ac (st.put m (.map (Hx t (.bool true) es))) [] (.t (.box r 16)) 0=some v/\
   ∀(K':TV->St->Prop),(∀v' st1,Aq v'=true->(∀K:St->Prop,(∀st' I',RB c X {A with names:=A.names++[t]} r w m I' st'->FrB r w m I I' st st'->K st')->stB st1 (.box r 16) [v'] K)->K' v' st1)->∀T,AG T 1 16 v 1 [.str t] (st.put m (.map (Hx t (.bool true) es))) K':=by
 obtain⟨nv,ov,hv,wo,es,I1,I2,I3,h1,h2,h3,h4,h5,h6,h7,h8,h9⟩:=h.ex
 have hrw:=h.rw_
 have hrm:=h.rm
 have hwm:=h.wm
 have h1p:(st.put m (.map (Hx t (.bool true) es))).box r= .cells (rdC c X A w m nv ov):=by simp[St.put,hrm];exact h1
 refine⟨es,nv,h.at (fun _ _=>rfl),h3,h4,by simp only[Ac,h1p];rfl,fun K' hK T=>?_⟩
 have h5p:DC 1 (st.put m (.map (Hx t (.bool true) es))) nv A.names.length (A.names.map TV.str) I1:=h5.keep (J:=[]) ⟨Nat.le_refl _,fun _ _ _=>rfl⟩ fun _ _ h=>by cases h
 refine Kv h5p (by omega) (fun h=>by cases h) fun v' st1 I' ho f hI hbx hnb hbt=>hK v' st1 ho.rd.one fun K hk=>?_
 have h1':st1.box r= .cells (rdC c X A w m nv ov):=by rw[hbx];exact h1p
 refine⟨_,h1',by show 16+1<=30;decide,?_⟩
 have e1:setAll (rdC c X A w m nv ov) 16 [v']=rdC c X {A with names:=A.names++[t]} w m v' ov:=rfl
 rw[e1]
 have hnd:=List.nodup_append.1 h8
 have hnd1:=List.nodup_append.1 hnd.1
 have hnb:st1.nb=st.nb:=hnb
 have f':FrT I1 st (st1.put r (.cells (rdC c X {A with names:=A.names++[t]} w m v' ov))):=⟨f.nt,f.live⟩
 have d2:∀id,id∈I2->id∉I1:=fun id h h'=>hnd1.2.2 id h' id h rfl
 have d3:∀id,id∈I3->id∉I1:=fun id h h'=>hnd.2.2 id (List.mem_append.2 (.inl h')) id h rfl
 have hsub:∀id,id∈I'->id∈I1∨st.nt<=id:=fun id hid=>by
  rcases hI with rfl | rfl
  ·exact .inl hid
  ·rw[List.mem_singleton.1 hid];exact .inr (Nat.le_refl _)
 refine hk _ (I'++I2++I3) ⟨Nat.lt_of_lt_of_le h.rb (Nat.le_of_eq hnb.symm),Nat.lt_of_lt_of_le h.wb (Nat.le_of_eq hnb.symm),Nat.lt_of_lt_of_le h.mb (Nat.le_of_eq hnb.symm),h.rw_,h.rm,h.wm,v',ov,hv,wo,Hx t (.bool true) es,I',I2,I3,by simp[St.put],?_,?_,?_,?_,h6.keep f' d2,h7.keep f' d3,?_,rfl⟩ ⟨Nat.le_of_eq hnb.symm,f.nt,fun x hx _ hm _=>by simp[St.put,hx,hbx,hm],fun id g1 g2=>f.live id g1 fun g3=>g2 (by rw[h9];exact List.mem_append.2 (.inl (List.mem_append.2 (.inl g3)))),fun id hid=>?_⟩
 ·simp[St.put,Ne.symm hrw,hbx,hwm];exact h2
 ·simp[St.put,Ne.symm hrm,hbx]
 ·intro t'
  have:=h4 t'
  rw[N0]
  by_cases he:t'=t
  ·rw[if_pos he,if_pos (List.mem_append.2 (.inr (List.mem_singleton.2 he)))]
  ·rw[if_neg he,this]
   by_cases hm:t'∈A.names
   ·rw[if_pos hm,if_pos (List.mem_append.2 (.inl hm))]
   ·rw[if_neg hm,if_neg (fun h=>(List.mem_append.1 h).elim hm fun h=>he (List.mem_singleton.1 h))]
 ·have:=ho
  show DC 1 _ v' (A.names++[t]).length ((A.names++[t]).map TV.str) I'
  rw[List.length_append,List.map_append]
  rcases this with h | h | ⟨id,q1,q2,q3,q4⟩
  ·exact .inl h
  ·exact .inr (.inl h)
  ·exact .inr (.inr ⟨id,q1,q2,q3,q4⟩)
 ·rcases hI with rfl | rfl
  ·exact h8
  ·rw[List.nodup_append,List.nodup_append]
   refine⟨⟨by simp,hnd1.2.1,fun a ha b' hb e=>?_⟩,hnd.2.1,fun a ha b' hb e=>?_⟩
   ·rw[List.mem_singleton]at ha
    have:=h6.lt b' hb
    have ha:a=st.nt:=ha
    omega
   ·have:=h7.lt b' hb
    rcases List.mem_append.1 ha with ha | ha
    ·rw[List.mem_singleton]at ha
     have ha:a=st.nt:=ha
     omega
    ·exact hnd.2.2 a (List.mem_append.2 (.inr ha)) b' hb e
 ·rcases List.mem_append.1 hid with hid | hid
  ·rcases List.mem_append.1 hid with hid | hid
   ·exact(hsub id hid).imp (fun g=>by rw[h9];exact List.mem_append.2 (.inl (List.mem_append.2 (.inl g)))) fun g=>g
   ·exact .inl (by rw[h9];exact List.mem_append.2 (.inl (List.mem_append.2 (.inr hid))))
  ·exact .inl (by rw[h9];exact List.mem_append.2 (.inr hid))
end
end
section
section
variable {c:SC} {X:RX} {A:RA} {r w m:Nat} {I:List Nat} {st:St}
theorem Kp (h:RB c X A r w m I st) (hb:0<=A.nodes/\A.nodes<=100000000) {K:St->Prop} (hk:∀st',RB c X (D6 c A) r w m I st'->FrB r w m I I st st'->K st'):
  Ad PR Ao [.box r 0] [.one .bool] st fun (b:Bool) (st1:St)=>BIf (!b) (Ad PR Ap [.box r 0,.int .i64 3] [] st1 fun (st2:St)=>K st2) (K st1):=by
 refine HM h (Ar (fun g=>?_) fun g=>?_)
 ·have g':AR c A=false:=by simpa using g
  have e:D6 c A=BG c A 3:=by unfold D6;rw[if_neg (by rw[g'];decide)]
  rw[e]at hk
  exact PA h hb hk
 ·have g':AR c A=true:=by simpa using g
  have e:D6 c A=A:=if_pos g'
  rw[e]at hk
  exact hk st h (FrB.refl _ _ _ _ _)
theorem It (A:RA) (e:Int):(BK A e).nodes=A.nodes:=(D1 A e).2.2.2.2
theorem Kq (h:RB c X A r w m I st) (hb:0<=A.nodes/\A.nodes<=100000000) {K:St->Prop} (hk:∀st',RB c X (D6 c (Cs A)) r w m I st'->FrB r w m I I st st'->K st'):
  Ah (Ac st [] (.t (.box r 13)) 0) fun x=>Ak (.int .i64) x fun (n:Int)=>BIf (decide ((0:Int)<n))
   (Ah (Ac st [] (.t (.box r 14)) 0) fun y=>Ak (.int .i64) y fun (n2:Int)=>Ah (Ac st [] (.t (.box r 15)) 0) fun z=>Ak (.int .i64) z fun (n3:Int)=>BIf (decide (n3<=n2))
    (Ad PR AL [.box r 0,.int .i64 10] [] st fun (st1:St)=>Ad PR Ao [.box r 0] [.one .bool] st1 fun (b:Bool) (st2:St)=>BIf (!b) (Ad PR Ap [.box r 0,.int .i64 3] [] st2 fun (st3:St)=>K st3) (K st2))
    (Ad PR Ao [.box r 0] [.one .bool] st fun (b:Bool) (st2:St)=>BIf (!b) (Ad PR Ap [.box r 0,.int .i64 3] [] st2 fun (st3:St)=>K st3) (K st2)))
   (Ad PR Ao [.box r 0] [.one .bool] st fun (b:Bool) (st2:St)=>BIf (!b) (Ad PR Ap [.box r 0,.int .i64 3] [] st2 fun (st3:St)=>K st3) (K st2)):=by
 refine h.ld (k:=13) (x:= .int .i64 (A.rows:Int)) (fun _ _=>rfl) (Am (Aa (fun g=>?_) fun g=>?_))
 ·refine h.ld (k:=14) (x:= .int .i64 (A.cells:Int)) (fun _ _=>rfl) (Am (h.ld (k:=15) (x:= .int .i64 (A.width:Int)) (fun _ _=>rfl) (Am (Aa (fun g2=>?_) fun g2=>?_))))
  ·have e:Cs A=BK A 10:=if_pos ⟨by omega,by omega⟩
   rw[e]at hk
   exact Od h fun st1 h1 f1=>Kp h1 (by rw[It];exact hb) fun st2 h2 f2=>hk st2 h2 (f1.trans f2)
  ·have e:Cs A=A:=if_neg (fun q=>by omega)
   rw[e]at hk
   exact Kp h hb hk
 ·have e:Cs A=A:=if_neg (fun q=>by omega)
  rw[e]at hk
  exact Kp h hb hk
theorem P3 (c:SC) (A:RA) (d:Int):(BG c A d).nodes=A.nodes+1:=by
 unfold BG Fi
 split
 ·show(BK A 9).nodes+1=_;rw[It]
 ·split
  ·show(BK A 10).nodes+1=_;rw[It]
  ·rfl
theorem PF (h:RB c X A r w m I st) (hb:0<=A.nodes/\A.nodes<=90000000) {o:Int} {K:St->Prop} (hk:∀st',RB c X (AJ c A o) r w m I st'->FrB r w m I I st st'->K st'):
  Ad PR AZ [.box r 0,.int .i64 o] [] st K:=by
 unfold AJ at hk
 refine Fo r o st K (h.put X {A with frm:=o} (by decide) rfl rfl rfl (fun _ _=>rfl) fun st1 h1 f1=>?_)
 refine h1.ld (k:=12) (x:= .bool A.within) (fun _ _=>rfl) (BC (Ar (fun g=>?_) fun g=>?_))
 ·have g':¬A.within=true:=by simpa using g
  refine h1.put X {A with frm:=o,within:=true} (by decide) rfl rfl rfl (fun _ _=>rfl) fun st2 h2 f2=>h2.put X {A with frm:=o,within:=true,cells:=0} (by decide) rfl rfl rfl (fun _ _=>rfl) fun st3 h3 f3=>?_
  refine HM h3 (Ar (fun g2=>?_) fun g2=>?_)
  ·have g2':AR c A=false:=(Bool.not_eq_true' _).mp g2
   have e:AI c A o=BG c {A with frm:=o,within:=true,cells:=0} 2:=by unfold AI;rw[if_neg g',if_neg (by rw[g2'];decide)]
   rw[e]at hk
   exact PA h3 ⟨hb.1,by show A.nodes<=_;omega⟩ fun st4 h4 f4=>Kq h4 (by rw[P3];exact⟨by show 0<=A.nodes+1;omega,by show A.nodes+1<=_;omega⟩) fun st5 h5 f5=>hk st5 h5 ((((f1.trans f2).trans f3).trans f4).trans f5)
  ·have g2':AR c A=true:=(Bool.not_eq_false' _).mp g2
   have e:AI c A o={A with frm:=o,within:=true,cells:=0}:=by unfold AI;rw[if_neg g',if_pos g2']
   rw[e]at hk
   exact Kq h3 ⟨hb.1,by show A.nodes<=_;omega⟩ fun st5 h5 f5=>hk st5 h5 (((f1.trans f2).trans f3).trans f5)
 ·have g':A.within=true:=by simpa using g
  have e:AI c A o={A with frm:=o}:=if_pos g'
  rw[e]at hk
  exact Kq h1 ⟨hb.1,by show A.nodes<=_;omega⟩ fun st5 h5 f5=>hk st5 h5 (f1.trans f5)
end
end
section
section
variable {c:SC} {X:RX} {A:RA} {r w m:Nat} {I:List Nat} {st:St}
def Xt (B:RA):RA:={B with rows:=B.rows+1,within:=false,ph:=0}
theorem Mb (h:RB c X A r w m I st) (hr:A.rows<=100000000) {K:St->Prop} (hk:∀st',RB c X (Xt A) r w m I st'->FrB r w m I I st st'->K st'):
  need (isPtr (.box r 0)) (need (isPtr (.box r 0)) (Ah (Ac st [] (.t (Af (.box r 0) 13)) 0) fun (x:TV)=>Ak (.int .i64) x fun (n:Int)=>
   need (isPtr (.box r 0)) (need (isPtr (.box r 0)) (stB st (Af (.box r 0) 13) [.int .i64 (i64.wrap (n+1))] fun (st1:St)=>
   need (isPtr (.box r 0)) (need (isPtr (.box r 0)) (stB st1 (Af (.box r 0) 12) [.bool false] fun (st2:St)=>
   need (isPtr (.box r 0)) (need (isPtr (.box r 0)) (stB st2 (Af (.box r 0) 10) [.int .i64 0] fun (st3:St)=>K st3)))))))):=by
 refine Ab rfl (Ab rfl (h.ld (k:=13) (x:= .int .i64 (A.rows:Int)) (fun _ _=>rfl) (Am ?_)))
 rw[Al _ (by omega) (by omega)]
 refine Ab rfl (Ab rfl (h.put (k:=13) X {A with rows:=A.rows+1} (by decide) rfl rfl rfl (fun _ _=>rfl) fun st1 h1 f1=>?_))
 refine Ab rfl (Ab rfl (h1.put (k:=12) X {A with rows:=A.rows+1,within:=false} (by decide) rfl rfl rfl (fun _ _=>rfl) fun st2 h2 f2=>?_))
 refine Ab rfl (Ab rfl (h2.put (k:=10) X (Xt A) (by decide) rfl rfl rfl (fun _ _=>rfl) fun st3 h3 f3=>?_))
 exact hk st3 h3 ((f1.trans f2).trans f3)
theorem Ve (A:RA):(Cu A).held=A.held/\(Cu A).out=A.out/\(Cu A).rows=A.rows:=by
 unfold Cu;split<;>exact⟨rfl,rfl,rfl⟩
theorem Ko (h:RB c X A r w m I st) (hl:A.held.length<=100000000) (hr:A.rows<=100000000) (ho:A.out.length<=100000000) {o:Int} {K:St->Prop} (hk:∀st' I',RB c X (AH c A o) r w m I' st'->FrB r w m I I' st st'->K st'):
  Ad PR Au [.box r 0,.int .i64 o] [] st K:=by
 refine E7 r o st K (h.ld (k:=28) (x:= .int .i64 A.err) (fun _ _=>rfl) (Am (Aa (fun g=>?_) fun g=>?_)))
 ·have e:AH c A o=A:=if_pos g
  rw[e]at hk
  exact hk st I h (FrB.refl _ _ _ _ _)
 have e:AH c A o=CG c (Cu A) o:=if_neg g
 rw[e]at hk
 refine⟨fun r1 o1 st1=>r1= .box r 0/\o1=o/\RB c X (Cu A) r w m I st1/\FrB r w m I I st st1,h.ld (k:=13) (x:= .int .i64 (A.rows:Int)) (fun _ _=>rfl) (Am (Aa (fun g2=>?_) fun g2=>?_)),?_⟩
 ·have ew:Cu A={A with width:=A.cells,told:=true}:=if_pos (by omega)
  rw[ew]
  refine h.ld (k:=14) (x:= .int .i64 (A.cells:Int)) (fun _ _=>rfl) (Am (h.put X {A with width:=A.cells} (by decide) rfl rfl rfl (fun _ _=>rfl) fun st1 h1 f1=>h1.put X {A with width:=A.cells,told:=true} (by decide) rfl rfl rfl (fun _ _=>rfl) fun st2 h2 f2=>⟨rfl,rfl,h2,f1.trans f2⟩))
 ·have ew:Cu A=A:=if_neg (by omega)
  rw[ew]
  exact⟨rfl,rfl,h,FrB.refl _ _ _ _ _⟩
 rintro r1 o1 st3 ⟨rfl,rfl,h3,f3⟩
 obtain⟨w1,w2,w3⟩:=Ve A
 generalize Cu A=B at*
 refine Ab rfl (Ab rfl (h3.ld (k:=14) (x:= .int .i64 (B.cells:Int)) (fun _ _=>rfl) (Am (Ab rfl (Ab rfl (h3.ld (k:=15) (x:= .int .i64 (B.width:Int)) (fun _ _=>rfl) (Am (Aa (fun g2=>?_) fun g2=>?_))))))))
 ·have e2:CG c B o1=Bd B o1 10:=if_pos (by omega)
  rw[e2]at hk
  exact Co h3 (by rw[w1];exact hl) fun st4 I' h4 f4=>hk st4 I' h4 (f3.trans f4)
 have e2:CG c B o1={B with out:=B.out++(if AR c B=true then []else [if c.hd then .me else .le]),rows:=B.rows+1,within:=false,ph:=0}:=if_neg (by omega)
 rw[e2]at hk
 have hout:B.out.length<=100000000:=by rw[w2];exact ho
 refine HM h3 (Ar (fun g3=>?_) fun g3=>?_)
 ·have g3':AR c B=false:=(Bool.not_eq_true' _).mp g3
  rw[if_neg (by rw[g3'];decide)]at hk
  refine Ab rfl (Ab rfl (Ab rfl (h3.ld (k:=3) (x:= .bool c.hd) (fun _ _=>rfl) (BC (Ar (fun g4=>?_) fun g4=>?_)))))
  ·rw[if_pos g4]at hk
   obtain⟨v,hv,hA⟩:=h3.outK hout (evs:=[Ev.me]) (by decide)
   refine Ab rfl (Ab rfl (Ae hv (hA _ (fun v' st6 h1 hst=>?_) _)))
   refine Ab rfl (Ab rfl (Ab (by rw[List.all_cons,h1];rfl) (hst _ fun st7 I' h7 f7=>?_)))
   exact Mb h7 (by show B.rows<=_;rw[w3];exact hr) fun st8 h8 f8=>hk st8 I' h8 ((f3.trans f7).trans f8)
  ·rw[if_neg (by rw[g4];decide)]at hk
   obtain⟨v,hv,hA⟩:=h3.outK hout (evs:=[Ev.le]) (by decide)
   refine Ab rfl (Ab rfl (Ae hv (hA _ (fun v' st6 h1 hst=>?_) _)))
   refine Ab rfl (Ab rfl (Ab (by rw[List.all_cons,h1];rfl) (hst _ fun st7 I' h7 f7=>?_)))
   exact Mb h7 (by show B.rows<=_;rw[w3];exact hr) fun st8 h8 f8=>hk st8 I' h8 ((f3.trans f7).trans f8)
 ·have g3':AR c B=true:=(Bool.not_eq_false' _).mp g3
  rw[if_pos g3',List.append_nil]at hk
  exact Mb h3 (by rw[w3];exact hr) fun st8 h8 f8=>hk st8 I h8 (f3.trans f8)
end
end
section
theorem decA4 {a q:Int} {hd ty:Bool} {f:Int->Int->Bool->Bool->Prop} (h:f a q hd ty):DF [.int .u8,.int .u8,.bool,.bool] (.agg [.int .u8 a,.int .u8 q,.bool hd,.bool ty]) f:=h
section
variable {c:SC} {X:RX} {A:RA} {r w m:Nat} {I:List Nat} {st:St}
theorem RB.ext {st':St} (h:RB c X A r w m I st) (e:AN st st'):RB c X A r w m I st'/\FrB r w m I I st st':=by
 obtain⟨nv,ov,hv,wo,es,I1,I2,I3,h1,h2,h3,h4,h5,h6,h7,h8,h9⟩:=h.ex
 have f:FrT [] st st':=⟨e.nt,fun id hi _=>e.live id hi⟩
 refine⟨⟨Nat.lt_of_lt_of_le h.rb e.nb,Nat.lt_of_lt_of_le h.wb e.nb,Nat.lt_of_lt_of_le h.mb e.nb,h.rw_,h.rm,h.wm,nv,ov,hv,wo,es,I1,I2,I3,by rw[e.box _ h.rb];exact h1,by rw[e.box _ h.wb];exact h2,by rw[e.box _ h.mb];exact h3,h4,h5.keep f (fun _ _ h=>by cases h),h6.keep f (fun _ _ h=>by cases h),h7.keep f (fun _ _ h=>by cases h),h8,h9⟩,
  ⟨e.nb,e.nt,fun b _ _ _ hb=>e.box b hb,fun id hi _=>e.live id hi,fun _ h=> .inl h⟩⟩
theorem Oi (h:RB c X A r w m I st) (hl:A.names.length<=100000000) (hc:A.cells<=100000000) {t:B8} {K:St->Prop}
  (hk:∀st' I',RB c X {A with names:=A.names++[t],cells:=A.cells+1} r w m I' st'->FrB r w m I I' st st'->K st'):
  need (isPtr (.box r 0)) (need (isPtr (.box r 0)) (Ah (Ac st [] (.t (Af (.box r 0) 17)) 0) fun (v3:TV)=>muK v3 t (.bool true) st fun (st8:St)=>
   need (isPtr (.box r 0)) (need (isPtr (.box r 0)) (Ah (Ac st8 [] (.t (Af (.box r 0) 16)) 0) fun (v4:TV)=>AG 9 1 16 v4 1 [.str t] st8 fun (v5:TV) (st9:St)=>
   need (isPtr (.box r 0)) (need (isPtr (.box r 0)) (need (List.all [v5] Aq) (stB st9 (Af (.box r 0) 16) [v5] fun (st10:St)=>
   need (isPtr (.box r 0)) (need (isPtr (.box r 0)) (Ah (Ac st10 [] (.t (Af (.box r 0) 14)) 0) fun (x12:TV)=>Ak (.int .i64) x12 fun (n9:Int)=>
   need (isPtr (.box r 0)) (need (isPtr (.box r 0)) (stB st10 (Af (.box r 0) 14) [.int .i64 (i64.wrap (n9+1))] fun (st11:St)=>K st11))))))))))):=by
 obtain⟨es,v,q1,q2,q3,q4,hA⟩:=h.nameK hl (t:=t)
 refine Ab rfl (Ab rfl (Ae q1 ⟨es,q2,Ab rfl (Ab rfl (Ae q4 (hA _ (fun v' st9 h1 hst=>?_) _)))⟩))
 refine Ab rfl (Ab rfl (Ab (by rw[List.all_cons,h1];rfl) (hst _ fun st10 I' h10 f10=>?_)))
 refine Ab rfl (Ab rfl (h10.ld (k:=14) (x:= .int .i64 (A.cells:Int)) (fun _ _=>rfl) (Am ?_)))
 rw[Al _ (by omega) (by omega)]
 exact Ab rfl (Ab rfl (h10.put (k:=14) X {A with names:=A.names++[t],cells:=A.cells+1} (by decide) rfl rfl rfl (fun _ _=>rfl) fun st11 h11 f11=>hk st11 I' h11 (f10.trans f11)))
theorem UU (h:RB c X A r w m I st) (hl:A.out.length<=100000000) (hc:A.cells<=100000000) {t:B8} (ht:t.length<=1000000) {qd:Bool} {K:St->Prop}
  (hk:∀st' I',RB c X {A with out:=A.out++[.val (DI c.ty qd t)],cells:=A.cells+1} r w m I' st'->FrB r w m I I' st st'->K st'):
  need (isPtr (.box r 0)) (need (isPtr (.box r 0)) (Ah (Ac st [] (.t (Af (.box r 0) 26)) 0) fun (v18:TV)=>
   need (isPtr (.box r 0)) (need (isPtr (.box r 0)) (Ah ((Av st [] (.t (Af (.box r 0) 1)) 0 4).map TV.agg) fun (x31:TV)=>DF [.int .u8,.int .u8,.bool,.bool] x31 fun (n16:Int) (n17:Int) (b5:Bool) (b6:Bool)=>
   Ad PR AE [.str t,.bool qd,.agg [.int .u8 n16,.int .u8 n17,.bool b5,.bool b6]] [.agg [.int .i64,.bool,.bool,.str,.int .i64,.int .i64,.int .i64,.int .i64,.int .i64,.str,.tv,.tv,.tv]] st
    fun (n18:Int) (b7:Bool) (b8:Bool) (s5:B8) (n19:Int) (n20:Int) (n21:Int) (n22:Int) (n23:Int) (s6:B8) (v19:TV) (v20:TV) (v21:TV) (st26:St)=>(Ac st26 [] (.t (Af (.box r 0) 26)) 0=some v18/\
    need (List.all [(.int .i64 (1:Int)),(.str ([]:B8)),(.int .i64 n18),(.bool b7),(.bool b8),(.str s5),(.int .i64 n19),(.int .i64 n20),(.int .i64 n21),(.int .i64 n22),(.int .i64 n23),(.str s6),v19,v20,v21] Aq)
     (AG 118 15 192 v18 1 [(.int .i64 (1:Int)),(.str ([]:B8)),(.int .i64 n18),(.bool b7),(.bool b8),(.str s5),(.int .i64 n19),(.int .i64 n20),(.int .i64 n21),(.int .i64 n22),(.int .i64 n23),(.str s6),v19,v20,v21] st26 fun (v22:TV) (st27:St)=>
     need (isPtr (.box r 0)) (need (isPtr (.box r 0)) (need (List.all [v22] Aq) (stB st27 (Af (.box r 0) 26) [v22] fun (st28:St)=>
     need (isPtr (.box r 0)) (need (isPtr (.box r 0)) (Ah (Ac st28 [] (.t (Af (.box r 0) 14)) 0) fun (x32:TV)=>Ak (.int .i64) x32 fun (n24:Int)=>
     need (isPtr (.box r 0)) (need (isPtr (.box r 0)) (stB st28 (Af (.box r 0) 14) [.int .i64 (i64.wrap (n24+1))] fun (st29:St)=>K st29))))))))))))):=by
 obtain⟨v,q1,_⟩:=h.outK hl (evs:=[Ev.val (DI c.ty qd t)]) (by simp)
 have l1:=h.at (k:=1) (x:= .int .u8 c.a) fun _ _=>rfl
 have l2:=h.at (k:=2) (x:= .int .u8 c.q) fun _ _=>rfl
 have l3:=h.at (k:=3) (x:= .bool c.hd) fun _ _=>rfl
 have l4:=h.at (k:=4) (x:= .bool c.ty) fun _ _=>rfl
 refine Ab rfl (Ab rfl (Ae q1 (Ab rfl (Ab rfl (Ae (x:= .agg [.int .u8 c.a,.int .u8 c.q,.bool c.hd,.bool c.ty]) ?_ (decA4 ?_))))))
 ·obtain⟨nv,ov,hv,wo,es,I1,I2,I3,h1,_⟩:=h.ex
  have g:∀k j,Ac st [] (.t (Af (.box r 0) k)) j=Ac st [] (.t (.box r (k+j))) 0:=fun k j=>by simp[Ac,Af,h1]
  simp only[Av,g,l1,l2,l3,l4,Option.map,Nat.reduceAdd]
 refine Xb ht fun st1 e1=>?_
 obtain⟨h1,f1⟩:=h.ext e1
 obtain⟨v',q1',hA⟩:=h1.outK hl (evs:=[Ev.val (DI c.ty qd t)]) (by simp)
 have hb:st1.box r=st.box r:=e1.box _ h.rb
 have hq:Ac st1 [] (.t (.box r 26)) 0=Ac st [] (.t (.box r 26)) 0:=by simp only[Ac,hb]
 have hv:v'=v:=Option.some.inj (by rw[<-q1',hq];exact q1)
 subst hv
 refine⟨q1',Ab rfl (hA _ (fun v' st9 o1 hst=>?_) _)⟩
 refine Ab rfl (Ab rfl (Ab (by rw[List.all_cons,o1];rfl) (hst _ fun st10 I' h10 f10=>?_)))
 refine Ab rfl (Ab rfl (h10.ld (k:=14) (x:= .int .i64 (A.cells:Int)) (fun _ _=>rfl) (Am ?_)))
 rw[Al _ (by omega) (by omega)]
 exact Ab rfl (Ab rfl (h10.put (k:=14) X {A with out:=A.out++[.val (DI c.ty qd t)],cells:=A.cells+1} (by decide) rfl rfl rfl (fun _ _=>rfl) fun st11 h11 f11=>hk st11 I' h11 ((f1.trans f10).trans f11)))
end
end
section
section
variable {c:SC} {X:RX} {A:RA} {r w m:Nat} {I:List Nat} {st:St}
theorem RB.nm (h:RB c X A r w m I st) (hn:A.cells<A.names.length):∃v,Ac st [] (.t (.box r 16)) 0=some v/\A.cells<lenZ 1 v/\Ac st [] (.t (ixT 1 v A.cells)) 0=some (.str (A.names.getD A.cells [])):=by
 obtain⟨nv,ov,hv,wo,es,I1,I2,I3,h1,h2,h3,h4,h5,h6,h7,h8,h9⟩:=h.ex
 refine⟨nv,by simp only[Ac,h1];rfl,by rw[h5.rd.lenZ];exact hn,?_⟩
 rw[h5.rd.ld st A.cells 0 (by simp;exact hn)]
 simp[List.getD_eq_getElem?_getD,hn]
theorem Of (h:RB c X A r w m I st) (hl:A.out.length<=90000000) (hc:A.cells<=100000000) {t:B8} (ht:t.length<=1000000) {qd:Bool} {K:St->Prop} (hn:c.hd=true->A.cells<A.names.length)
  (hk:∀st' I',RB c X {A with cells:=A.cells+1,out:=A.out++((if c.hd then [Ev.key (A.names.getD A.cells [])]else [])++[.val (DI c.ty qd t)])} r w m I' st'->FrB r w m I I' st st'->K st'):
  (need (isPtr (.box r 0)) (need (isPtr (.box r 0)) (need (isPtr (Af (.box r 0) 1)) (Ah (Ac st [] (.t (Af (Af (.box r 0) 1) 2)) 0) (fun (x48:TV)=>Ak (.bool) x48 (fun (b22:Bool)=>BIf b22 (need (isPtr (.box r 0)) (need (isPtr (.box r 0)) (Ah (Ac st [] (.t (Af (.box r 0) 26)) 0) (fun (v43:TV)=>need (isPtr (.box r 0)) (need (isPtr (.box r 0)) (Ah (Ac st [] (.t (Af (.box r 0) 16)) 0) (fun (v44:TV)=>need (isPtr (.box r 0)) (need (isPtr (.box r 0)) (Ah (Ac st [] (.t (Af (.box r 0) 14)) 0) (fun (x51:TV)=>Ak (.int .i64) x51 (fun (n53:Int)=>((0<=n53/\n53<(lenZ 1 v44:Int))/\Ah (Ac st [] (.t (ixT 1 v44 (Int.toNat n53))) 0) (fun (x52:TV)=>Ak (.str) x52 (fun (s14:B8)=>AG 118 15 192 v43 1 [(.int .i64 (6:Int)),(.str s14),(.int .i64 (0:Int)),(.bool false),(.bool false),(.str ([]:B8)),(.int .i64 (0:Int)),(.int .i64 (0:Int)),(.int .i64 (0:Int)),(.int .i64 (0:Int)),(.int .i64 (0:Int)),(.str ([]:B8)),.nilSlice,.nilSlice,.nilSlice] st (fun (v45:TV) (st46:St)=>need (isPtr (.box r 0)) (need (isPtr (.box r 0)) (need (List.all [v45] Aq) (stB st46 (Af (.box r 0) 26) [v45] (fun (st47:St)=>need (isPtr (.box r 0)) (need (isPtr (.box r 0)) (Ah (Ac st47 [] (.t (Af (.box r 0) 26)) 0) (fun (v46:TV)=>need (isPtr (.box r 0)) (need (isPtr (.box r 0)) (Ah ((Av st47 [] (.t (Af (.box r 0) 1)) 0 4).map TV.agg) (fun (x54:TV)=>DF [.int .u8,.int .u8,.bool,.bool] x54 (fun (n54:Int) (n55:Int) (b23:Bool) (b24:Bool)=>Ad PR AE [(.str t),(.bool qd),(.agg [(.int .u8 n54),(.int .u8 n55),(.bool b23),(.bool b24)])] [.agg [.int .i64,.bool,.bool,.str,.int .i64,.int .i64,.int .i64,.int .i64,.int .i64,.str,.tv,.tv,.tv]] st47 (fun (n56:Int) (b25:Bool) (b26:Bool) (s15:B8) (n57:Int) (n58:Int) (n59:Int) (n60:Int) (n61:Int) (s16:B8) (v47:TV) (v48:TV) (v49:TV) (st48:St)=>(Ac st48 [] (.t (Af (.box r 0) 26)) 0=some v46/\need (List.all [(.int .i64 (1:Int)),(.str ([]:B8)),(.int .i64 n56),(.bool b25),(.bool b26),(.str s15),(.int .i64 n57),(.int .i64 n58),(.int .i64 n59),(.int .i64 n60),(.int .i64 n61),(.str s16),v47,v48,v49] Aq) (AG 118 15 192 v46 1 [(.int .i64 (1:Int)),(.str ([]:B8)),(.int .i64 n56),(.bool b25),(.bool b26),(.str s15),(.int .i64 n57),(.int .i64 n58),(.int .i64 n59),(.int .i64 n60),(.int .i64 n61),(.str s16),v47,v48,v49] st48 (fun (v50:TV) (st49:St)=>need (isPtr (.box r 0)) (need (isPtr (.box r 0)) (need (List.all [v50] Aq) (stB st49 (Af (.box r 0) 26) [v50] (fun (st50:St)=>need (isPtr (.box r 0)) (need (isPtr (.box r 0)) (Ah (Ac st50 [] (.t (Af (.box r 0) 14)) 0) (fun (x55:TV)=>Ak (.int .i64) x55 (fun (n62:Int)=>need (isPtr (.box r 0)) (need (isPtr (.box r 0)) (stB st50 (Af (.box r 0) 14) [(.int .i64 (i64.wrap (n62+(1:Int))))] (fun (st51:St)=>K st51))))))))))))))))))))))))))))))))))))))))) (need (isPtr (.box r 0)) (need (isPtr (.box r 0)) (Ah (Ac st [] (.t (Af (.box r 0) 26)) 0) (fun (v51:TV)=>need (isPtr (.box r 0)) (need (isPtr (.box r 0)) (Ah ((Av st [] (.t (Af (.box r 0) 1)) 0 4).map TV.agg) (fun (x57:TV)=>DF [.int .u8,.int .u8,.bool,.bool] x57 (fun (n63:Int) (n64:Int) (b27:Bool) (b28:Bool)=>Ad PR AE [(.str t),(.bool qd),(.agg [(.int .u8 n63),(.int .u8 n64),(.bool b27),(.bool b28)])] [.agg [.int .i64,.bool,.bool,.str,.int .i64,.int .i64,.int .i64,.int .i64,.int .i64,.str,.tv,.tv,.tv]] st (fun (n65:Int) (b29:Bool) (b30:Bool) (s17:B8) (n66:Int) (n67:Int) (n68:Int) (n69:Int) (n70:Int) (s18:B8) (v52:TV) (v53:TV) (v54:TV) (st52:St)=>(Ac st52 [] (.t (Af (.box r 0) 26)) 0=some v51/\need (List.all [(.int .i64 (1:Int)),(.str ([]:B8)),(.int .i64 n65),(.bool b29),(.bool b30),(.str s17),(.int .i64 n66),(.int .i64 n67),(.int .i64 n68),(.int .i64 n69),(.int .i64 n70),(.str s18),v52,v53,v54] Aq) (AG 118 15 192 v51 1 [(.int .i64 (1:Int)),(.str ([]:B8)),(.int .i64 n65),(.bool b29),(.bool b30),(.str s17),(.int .i64 n66),(.int .i64 n67),(.int .i64 n68),(.int .i64 n69),(.int .i64 n70),(.str s18),v52,v53,v54] st52 (fun (v55:TV) (st53:St)=>need (isPtr (.box r 0)) (need (isPtr (.box r 0)) (need (List.all [v55] Aq) (stB st53 (Af (.box r 0) 26) [v55] (fun (st54:St)=>need (isPtr (.box r 0)) (need (isPtr (.box r 0)) (Ah (Ac st54 [] (.t (Af (.box r 0) 14)) 0) (fun (x58:TV)=>Ak (.int .i64) x58 (fun (n71:Int)=>need (isPtr (.box r 0)) (need (isPtr (.box r 0)) (stB st54 (Af (.box r 0) 14) [(.int .i64 (i64.wrap (n71+(1:Int))))] (fun (st55:St)=>K st55))))))))))))))))))))))))))))):=by
 refine Ab rfl (Ab rfl (Ab rfl (h.ld (k:=3) (x:= .bool c.hd) (fun _ _=>rfl) (BC (Ar (fun g=>?_) fun g=>?_)))))
 ·rw[if_pos g]at hk
  obtain⟨nv,n1,n2,n3⟩:=h.nm (hn g)
  obtain⟨v,q1,hA⟩:=h.outK (by omega) (evs:=[Ev.key (A.names.getD A.cells [])]) (by simp)
  refine Ab rfl (Ab rfl (Ae q1 (Ab rfl (Ab rfl (Ae n1 (Ab rfl (Ab rfl (h.ld (k:=14) (x:= .int .i64 (A.cells:Int)) (fun _ _=>rfl) (Am ⟨⟨by omega,by omega⟩,Ae (by rw[Int.toNat_natCast];exact n3) (AB (hA _ (fun v' st9 o1 hst=>?_) _))⟩)))))))))
  refine Ab rfl (Ab rfl (Ab (by rw[List.all_cons,o1];rfl) (hst _ fun st10 I' h10 f10=>?_)))
  refine UU h10 (by show(A.out++[_]).length<=_;simp only[List.length_append,List.length_singleton];omega) hc ht fun st11 I2 h11 f11=>hk st11 I2 ?_ (f10.trans f11)
  rw[<-List.append_assoc];exact h11
 ·rw[if_neg (by rw[g];decide),List.nil_append]at hk
  exact UU h (by omega) hc ht hk
def Mj (c:SC) (A:RA) (t:B8) (qd:Bool):RA:=
 if AR c A=true then
  let B:=if 1024<t.length then Bd A A.frm 10 else if t∈A.names then Bd A A.frm 8 else A
  {B with names:=A.names++[t],cells:=A.cells+1}
 else if 65536<t.length then Bd A A.frm 10
 else {A with cells:=A.cells+1,out:=A.out++((if A.cells=0 then [if c.hd then .ms else .ls]else [])++((if c.hd then [Ev.key (A.names.getD A.cells [])]else [])++[.val (DI c.ty qd t)]))}
theorem Ks (c:SC) (A:RA) (h:¬A.late≠0):AX c A=Mj c {A with held:=[]} (txt c.q A.held) (BE c.q A.held):=by
 unfold AX
 rw[if_neg h]
 rfl
theorem R9 (A:RA) (o e:Int):(Bd A o e).names=A.names/\(Bd A o e).cells=A.cells:=by
 unfold Bd;split<;>exact⟨rfl,rfl⟩
theorem Sk (h:RB c X A r w m I st) (hh:A.held=[]) (hl:A.out.length<=80000000) (hc:A.cells<=100000000) (hnl:A.names.length<=100000000) {t:B8} (ht:t.length<=1000000) {qd:Bool} {K:St->Prop}
  (hn:c.hd=true->AR c A=false->A.cells<A.names.length)
  (hk:∀st' I',RB c X (Mj c A t qd) r w m I' st'->FrB r w m I I' st st'->K st'):
  (Ad PR Ao [(.box r 0)] [.one (.bool)] st (fun (b1:Bool) (st6:St)=>BIf b1 (BIf (decide ((1024:Int)<((t).length:Int))) (need (isPtr (.box r 0)) (need (isPtr (.box r 0)) (Ah (Ac st6 [] (.t (Af (.box r 0) 20)) 0) (fun (x9:TV)=>Ak (.int .i64) x9 (fun (n8:Int)=>Ad PR Ag [(.box r 0),(.int .i64 n8),(.int .i64 (10:Int))] [] st6 (fun (st7:St)=>need (isPtr (.box r 0)) (need (isPtr (.box r 0)) (Ah (Ac st7 [] (.t (Af (.box r 0) 17)) 0) (fun (v3:TV)=>muK v3 t (.bool true) st7 (fun (st8:St)=>need (isPtr (.box r 0)) (need (isPtr (.box r 0)) (Ah (Ac st8 [] (.t (Af (.box r 0) 16)) 0) (fun (v4:TV)=>AG 9 1 16 v4 1 [(.str t)] st8 (fun (v5:TV) (st9:St)=>need (isPtr (.box r 0)) (need (isPtr (.box r 0)) (need (List.all [v5] Aq) (stB st9 (Af (.box r 0) 16) [v5] (fun (st10:St)=>need (isPtr (.box r 0)) (need (isPtr (.box r 0)) (Ah (Ac st10 [] (.t (Af (.box r 0) 14)) 0) (fun (x12:TV)=>Ak (.int .i64) x12 (fun (n9:Int)=>need (isPtr (.box r 0)) (need (isPtr (.box r 0)) (stB st10 (Af (.box r 0) 14) [(.int .i64 (i64.wrap (n9+(1:Int))))] (fun (st11:St)=>K st11))))))))))))))))))))))))) (need (isPtr (.box r 0)) (need (isPtr (.box r 0)) (Ah (Ac st6 [] (.t (Af (.box r 0) 17)) 0) (fun (v6:TV)=>Ah (JP st6 v6) (fun (es1:List (B8×TV))=>Ak (.bool) (LS (.bool false) (DH t es1)) (fun (b2:Bool)=>BIf b2 (need (isPtr (.box r 0)) (need (isPtr (.box r 0)) (Ah (Ac st6 [] (.t (Af (.box r 0) 20)) 0) (fun (x14:TV)=>Ak (.int .i64) x14 (fun (n10:Int)=>Ad PR Ag [(.box r 0),(.int .i64 n10),(.int .i64 (8:Int))] [] st6 (fun (st12:St)=>need (isPtr (.box r 0)) (need (isPtr (.box r 0)) (Ah (Ac st12 [] (.t (Af (.box r 0) 17)) 0) (fun (v7:TV)=>muK v7 t (.bool true) st12 (fun (st13:St)=>need (isPtr (.box r 0)) (need (isPtr (.box r 0)) (Ah (Ac st13 [] (.t (Af (.box r 0) 16)) 0) (fun (v8:TV)=>AG 9 1 16 v8 1 [(.str t)] st13 (fun (v9:TV) (st14:St)=>need (isPtr (.box r 0)) (need (isPtr (.box r 0)) (need (List.all [v9] Aq) (stB st14 (Af (.box r 0) 16) [v9] (fun (st15:St)=>need (isPtr (.box r 0)) (need (isPtr (.box r 0)) (Ah (Ac st15 [] (.t (Af (.box r 0) 14)) 0) (fun (x17:TV)=>Ak (.int .i64) x17 (fun (n11:Int)=>need (isPtr (.box r 0)) (need (isPtr (.box r 0)) (stB st15 (Af (.box r 0) 14) [(.int .i64 (i64.wrap (n11+(1:Int))))] (fun (st16:St)=>K st16))))))))))))))))))))))))) (need (isPtr (.box r 0)) (need (isPtr (.box r 0)) (Ah (Ac st6 [] (.t (Af (.box r 0) 17)) 0) (fun (v10:TV)=>muK v10 t (.bool true) st6 (fun (st17:St)=>need (isPtr (.box r 0)) (need (isPtr (.box r 0)) (Ah (Ac st17 [] (.t (Af (.box r 0) 16)) 0) (fun (v11:TV)=>AG 9 1 16 v11 1 [(.str t)] st17 (fun (v12:TV) (st18:St)=>need (isPtr (.box r 0)) (need (isPtr (.box r 0)) (need (List.all [v12] Aq) (stB st18 (Af (.box r 0) 16) [v12] (fun (st19:St)=>need (isPtr (.box r 0)) (need (isPtr (.box r 0)) (Ah (Ac st19 [] (.t (Af (.box r 0) 14)) 0) (fun (x20:TV)=>Ak (.int .i64) x20 (fun (n12:Int)=>need (isPtr (.box r 0)) (need (isPtr (.box r 0)) (stB st19 (Af (.box r 0) 14) [(.int .i64 (i64.wrap (n12+(1:Int))))] (fun (st20:St)=>K st20))))))))))))))))))))))))))) (BIf (decide ((65536:Int)<((t).length:Int))) (need (isPtr (.box r 0)) (need (isPtr (.box r 0)) (Ah (Ac st6 [] (.t (Af (.box r 0) 20)) 0) (fun (x21:TV)=>Ak (.int .i64) x21 (fun (n13:Int)=>Ad PR Ag [(.box r 0),(.int .i64 n13),(.int .i64 (10:Int))] [] st6 (fun (st21:St)=>K st21)))))) (need (isPtr (.box r 0)) (need (isPtr (.box r 0)) (Ah (Ac st6 [] (.t (Af (.box r 0) 14)) 0) (fun (x22:TV)=>Ak (.int .i64) x22 (fun (n14:Int)=>BIf (decide (n14=(0:Int))) (need (isPtr (.box r 0)) (need (isPtr (.box r 0)) (need (isPtr (Af (.box r 0) 1)) (Ah (Ac st6 [] (.t (Af (Af (.box r 0) 1) 2)) 0) (fun (x23:TV)=>Ak (.bool) x23 (fun (b3:Bool)=>BIf b3 (need (isPtr (.box r 0)) (need (isPtr (.box r 0)) (Ah (Ac st6 [] (.t (Af (.box r 0) 26)) 0) (fun (v13:TV)=>AG 118 15 192 v13 1 [(.int .i64 (4:Int)),(.str ([]:B8)),(.int .i64 (0:Int)),(.bool false),(.bool false),(.str ([]:B8)),(.int .i64 (0:Int)),(.int .i64 (0:Int)),(.int .i64 (0:Int)),(.int .i64 (0:Int)),(.int .i64 (0:Int)),(.str ([]:B8)),.nilSlice,.nilSlice,.nilSlice] st6 (fun (v14:TV) (st22:St)=>need (isPtr (.box r 0)) (need (isPtr (.box r 0)) (need (List.all [v14] Aq) (stB st22 (Af (.box r 0) 26) [v14] (fun (st23:St)=>need (isPtr (.box r 0)) (need (isPtr (.box r 0)) (need (isPtr (Af (.box r 0) 1)) (Ah (Ac st23 [] (.t (Af (Af (.box r 0) 1) 2)) 0) (fun (x25:TV)=>Ak (.bool) x25 (fun (b4:Bool)=>BIf b4 (need (isPtr (.box r 0)) (need (isPtr (.box r 0)) (Ah (Ac st23 [] (.t (Af (.box r 0) 26)) 0) (fun (v15:TV)=>need (isPtr (.box r 0)) (need (isPtr (.box r 0)) (Ah (Ac st23 [] (.t (Af (.box r 0) 16)) 0) (fun (v16:TV)=>need (isPtr (.box r 0)) (need (isPtr (.box r 0)) (Ah (Ac st23 [] (.t (Af (.box r 0) 14)) 0) (fun (x28:TV)=>Ak (.int .i64) x28 (fun (n15:Int)=>((0<=n15/\n15<(lenZ 1 v16:Int))/\Ah (Ac st23 [] (.t (ixT 1 v16 (Int.toNat n15))) 0) (fun (x29:TV)=>Ak (.str) x29 (fun (s4:B8)=>AG 118 15 192 v15 1 [(.int .i64 (6:Int)),(.str s4),(.int .i64 (0:Int)),(.bool false),(.bool false),(.str ([]:B8)),(.int .i64 (0:Int)),(.int .i64 (0:Int)),(.int .i64 (0:Int)),(.int .i64 (0:Int)),(.int .i64 (0:Int)),(.str ([]:B8)),.nilSlice,.nilSlice,.nilSlice] st23 (fun (v17:TV) (st24:St)=>need (isPtr (.box r 0)) (need (isPtr (.box r 0)) (need (List.all [v17] Aq) (stB st24 (Af (.box r 0) 26) [v17] (fun (st25:St)=>need (isPtr (.box r 0)) (need (isPtr (.box r 0)) (Ah (Ac st25 [] (.t (Af (.box r 0) 26)) 0) (fun (v18:TV)=>need (isPtr (.box r 0)) (need (isPtr (.box r 0)) (Ah ((Av st25 [] (.t (Af (.box r 0) 1)) 0 4).map TV.agg) (fun (x31:TV)=>DF [.int .u8,.int .u8,.bool,.bool] x31 (fun (n16:Int) (n17:Int) (b5:Bool) (b6:Bool)=>Ad PR AE [(.str t),(.bool qd),(.agg [(.int .u8 n16),(.int .u8 n17),(.bool b5),(.bool b6)])] [.agg [.int .i64,.bool,.bool,.str,.int .i64,.int .i64,.int .i64,.int .i64,.int .i64,.str,.tv,.tv,.tv]] st25 (fun (n18:Int) (b7:Bool) (b8:Bool) (s5:B8) (n19:Int) (n20:Int) (n21:Int) (n22:Int) (n23:Int) (s6:B8) (v19:TV) (v20:TV) (v21:TV) (st26:St)=>(Ac st26 [] (.t (Af (.box r 0) 26)) 0=some v18/\need (List.all [(.int .i64 (1:Int)),(.str ([]:B8)),(.int .i64 n18),(.bool b7),(.bool b8),(.str s5),(.int .i64 n19),(.int .i64 n20),(.int .i64 n21),(.int .i64 n22),(.int .i64 n23),(.str s6),v19,v20,v21] Aq) (AG 118 15 192 v18 1 [(.int .i64 (1:Int)),(.str ([]:B8)),(.int .i64 n18),(.bool b7),(.bool b8),(.str s5),(.int .i64 n19),(.int .i64 n20),(.int .i64 n21),(.int .i64 n22),(.int .i64 n23),(.str s6),v19,v20,v21] st26 (fun (v22:TV) (st27:St)=>need (isPtr (.box r 0)) (need (isPtr (.box r 0)) (need (List.all [v22] Aq) (stB st27 (Af (.box r 0) 26) [v22] (fun (st28:St)=>need (isPtr (.box r 0)) (need (isPtr (.box r 0)) (Ah (Ac st28 [] (.t (Af (.box r 0) 14)) 0) (fun (x32:TV)=>Ak (.int .i64) x32 (fun (n24:Int)=>need (isPtr (.box r 0)) (need (isPtr (.box r 0)) (stB st28 (Af (.box r 0) 14) [(.int .i64 (i64.wrap (n24+(1:Int))))] (fun (st29:St)=>K st29))))))))))))))))))))))))))))))))))))))))) (need (isPtr (.box r 0)) (need (isPtr (.box r 0)) (Ah (Ac st23 [] (.t (Af (.box r 0) 26)) 0) (fun (v23:TV)=>need (isPtr (.box r 0)) (need (isPtr (.box r 0)) (Ah ((Av st23 [] (.t (Af (.box r 0) 1)) 0 4).map TV.agg) (fun (x34:TV)=>DF [.int .u8,.int .u8,.bool,.bool] x34 (fun (n25:Int) (n26:Int) (b9:Bool) (b10:Bool)=>Ad PR AE [(.str t),(.bool qd),(.agg [(.int .u8 n25),(.int .u8 n26),(.bool b9),(.bool b10)])] [.agg [.int .i64,.bool,.bool,.str,.int .i64,.int .i64,.int .i64,.int .i64,.int .i64,.str,.tv,.tv,.tv]] st23 (fun (n27:Int) (b11:Bool) (b12:Bool) (s7:B8) (n28:Int) (n29:Int) (n30:Int) (n31:Int) (n32:Int) (s8:B8) (v24:TV) (v25:TV) (v26:TV) (st30:St)=>(Ac st30 [] (.t (Af (.box r 0) 26)) 0=some v23/\need (List.all [(.int .i64 (1:Int)),(.str ([]:B8)),(.int .i64 n27),(.bool b11),(.bool b12),(.str s7),(.int .i64 n28),(.int .i64 n29),(.int .i64 n30),(.int .i64 n31),(.int .i64 n32),(.str s8),v24,v25,v26] Aq) (AG 118 15 192 v23 1 [(.int .i64 (1:Int)),(.str ([]:B8)),(.int .i64 n27),(.bool b11),(.bool b12),(.str s7),(.int .i64 n28),(.int .i64 n29),(.int .i64 n30),(.int .i64 n31),(.int .i64 n32),(.str s8),v24,v25,v26] st30 (fun (v27:TV) (st31:St)=>need (isPtr (.box r 0)) (need (isPtr (.box r 0)) (need (List.all [v27] Aq) (stB st31 (Af (.box r 0) 26) [v27] (fun (st32:St)=>need (isPtr (.box r 0)) (need (isPtr (.box r 0)) (Ah (Ac st32 [] (.t (Af (.box r 0) 14)) 0) (fun (x35:TV)=>Ak (.int .i64) x35 (fun (n33:Int)=>need (isPtr (.box r 0)) (need (isPtr (.box r 0)) (stB st32 (Af (.box r 0) 14) [(.int .i64 (i64.wrap (n33+(1:Int))))] (fun (st33:St)=>K st33))))))))))))))))))))))))))))))))))))) (need (isPtr (.box r 0)) (need (isPtr (.box r 0)) (Ah (Ac st6 [] (.t (Af (.box r 0) 26)) 0) (fun (v28:TV)=>AG 118 15 192 v28 1 [(.int .i64 (2:Int)),(.str ([]:B8)),(.int .i64 (0:Int)),(.bool false),(.bool false),(.str ([]:B8)),(.int .i64 (0:Int)),(.int .i64 (0:Int)),(.int .i64 (0:Int)),(.int .i64 (0:Int)),(.int .i64 (0:Int)),(.str ([]:B8)),.nilSlice,.nilSlice,.nilSlice] st6 (fun (v29:TV) (st34:St)=>need (isPtr (.box r 0)) (need (isPtr (.box r 0)) (need (List.all [v29] Aq) (stB st34 (Af (.box r 0) 26) [v29] (fun (st35:St)=>need (isPtr (.box r 0)) (need (isPtr (.box r 0)) (need (isPtr (Af (.box r 0) 1)) (Ah (Ac st35 [] (.t (Af (Af (.box r 0) 1) 2)) 0) (fun (x37:TV)=>Ak (.bool) x37 (fun (b13:Bool)=>BIf b13 (need (isPtr (.box r 0)) (need (isPtr (.box r 0)) (Ah (Ac st35 [] (.t (Af (.box r 0) 26)) 0) (fun (v30:TV)=>need (isPtr (.box r 0)) (need (isPtr (.box r 0)) (Ah (Ac st35 [] (.t (Af (.box r 0) 16)) 0) (fun (v31:TV)=>need (isPtr (.box r 0)) (need (isPtr (.box r 0)) (Ah (Ac st35 [] (.t (Af (.box r 0) 14)) 0) (fun (x40:TV)=>Ak (.int .i64) x40 (fun (n34:Int)=>((0<=n34/\n34<(lenZ 1 v31:Int))/\Ah (Ac st35 [] (.t (ixT 1 v31 (Int.toNat n34))) 0) (fun (x41:TV)=>Ak (.str) x41 (fun (s9:B8)=>AG 118 15 192 v30 1 [(.int .i64 (6:Int)),(.str s9),(.int .i64 (0:Int)),(.bool false),(.bool false),(.str ([]:B8)),(.int .i64 (0:Int)),(.int .i64 (0:Int)),(.int .i64 (0:Int)),(.int .i64 (0:Int)),(.int .i64 (0:Int)),(.str ([]:B8)),.nilSlice,.nilSlice,.nilSlice] st35 (fun (v32:TV) (st36:St)=>need (isPtr (.box r 0)) (need (isPtr (.box r 0)) (need (List.all [v32] Aq) (stB st36 (Af (.box r 0) 26) [v32] (fun (st37:St)=>need (isPtr (.box r 0)) (need (isPtr (.box r 0)) (Ah (Ac st37 [] (.t (Af (.box r 0) 26)) 0) (fun (v33:TV)=>need (isPtr (.box r 0)) (need (isPtr (.box r 0)) (Ah ((Av st37 [] (.t (Af (.box r 0) 1)) 0 4).map TV.agg) (fun (x43:TV)=>DF [.int .u8,.int .u8,.bool,.bool] x43 (fun (n35:Int) (n36:Int) (b14:Bool) (b15:Bool)=>Ad PR AE [(.str t),(.bool qd),(.agg [(.int .u8 n35),(.int .u8 n36),(.bool b14),(.bool b15)])] [.agg [.int .i64,.bool,.bool,.str,.int .i64,.int .i64,.int .i64,.int .i64,.int .i64,.str,.tv,.tv,.tv]] st37 (fun (n37:Int) (b16:Bool) (b17:Bool) (s10:B8) (n38:Int) (n39:Int) (n40:Int) (n41:Int) (n42:Int) (s11:B8) (v34:TV) (v35:TV) (v36:TV) (st38:St)=>(Ac st38 [] (.t (Af (.box r 0) 26)) 0=some v33/\need (List.all [(.int .i64 (1:Int)),(.str ([]:B8)),(.int .i64 n37),(.bool b16),(.bool b17),(.str s10),(.int .i64 n38),(.int .i64 n39),(.int .i64 n40),(.int .i64 n41),(.int .i64 n42),(.str s11),v34,v35,v36] Aq) (AG 118 15 192 v33 1 [(.int .i64 (1:Int)),(.str ([]:B8)),(.int .i64 n37),(.bool b16),(.bool b17),(.str s10),(.int .i64 n38),(.int .i64 n39),(.int .i64 n40),(.int .i64 n41),(.int .i64 n42),(.str s11),v34,v35,v36] st38 (fun (v37:TV) (st39:St)=>need (isPtr (.box r 0)) (need (isPtr (.box r 0)) (need (List.all [v37] Aq) (stB st39 (Af (.box r 0) 26) [v37] (fun (st40:St)=>need (isPtr (.box r 0)) (need (isPtr (.box r 0)) (Ah (Ac st40 [] (.t (Af (.box r 0) 14)) 0) (fun (x44:TV)=>Ak (.int .i64) x44 (fun (n43:Int)=>need (isPtr (.box r 0)) (need (isPtr (.box r 0)) (stB st40 (Af (.box r 0) 14) [(.int .i64 (i64.wrap (n43+(1:Int))))] (fun (st41:St)=>K st41))))))))))))))))))))))))))))))))))))))))) (need (isPtr (.box r 0)) (need (isPtr (.box r 0)) (Ah (Ac st35 [] (.t (Af (.box r 0) 26)) 0) (fun (v38:TV)=>need (isPtr (.box r 0)) (need (isPtr (.box r 0)) (Ah ((Av st35 [] (.t (Af (.box r 0) 1)) 0 4).map TV.agg) (fun (x46:TV)=>DF [.int .u8,.int .u8,.bool,.bool] x46 (fun (n44:Int) (n45:Int) (b18:Bool) (b19:Bool)=>Ad PR AE [(.str t),(.bool qd),(.agg [(.int .u8 n44),(.int .u8 n45),(.bool b18),(.bool b19)])] [.agg [.int .i64,.bool,.bool,.str,.int .i64,.int .i64,.int .i64,.int .i64,.int .i64,.str,.tv,.tv,.tv]] st35 (fun (n46:Int) (b20:Bool) (b21:Bool) (s12:B8) (n47:Int) (n48:Int) (n49:Int) (n50:Int) (n51:Int) (s13:B8) (v39:TV) (v40:TV) (v41:TV) (st42:St)=>(Ac st42 [] (.t (Af (.box r 0) 26)) 0=some v38/\need (List.all [(.int .i64 (1:Int)),(.str ([]:B8)),(.int .i64 n46),(.bool b20),(.bool b21),(.str s12),(.int .i64 n47),(.int .i64 n48),(.int .i64 n49),(.int .i64 n50),(.int .i64 n51),(.str s13),v39,v40,v41] Aq) (AG 118 15 192 v38 1 [(.int .i64 (1:Int)),(.str ([]:B8)),(.int .i64 n46),(.bool b20),(.bool b21),(.str s12),(.int .i64 n47),(.int .i64 n48),(.int .i64 n49),(.int .i64 n50),(.int .i64 n51),(.str s13),v39,v40,v41] st42 (fun (v42:TV) (st43:St)=>need (isPtr (.box r 0)) (need (isPtr (.box r 0)) (need (List.all [v42] Aq) (stB st43 (Af (.box r 0) 26) [v42] (fun (st44:St)=>need (isPtr (.box r 0)) (need (isPtr (.box r 0)) (Ah (Ac st44 [] (.t (Af (.box r 0) 14)) 0) (fun (x47:TV)=>Ak (.int .i64) x47 (fun (n52:Int)=>need (isPtr (.box r 0)) (need (isPtr (.box r 0)) (stB st44 (Af (.box r 0) 14) [(.int .i64 (i64.wrap (n52+(1:Int))))] (fun (st45:St)=>K st45))))))))))))))))))))))))))))))))))))))))))) (need (isPtr (.box r 0)) (need (isPtr (.box r 0)) (need (isPtr (Af (.box r 0) 1)) (Ah (Ac st6 [] (.t (Af (Af (.box r 0) 1) 2)) 0) (fun (x48:TV)=>Ak (.bool) x48 (fun (b22:Bool)=>BIf b22 (need (isPtr (.box r 0)) (need (isPtr (.box r 0)) (Ah (Ac st6 [] (.t (Af (.box r 0) 26)) 0) (fun (v43:TV)=>need (isPtr (.box r 0)) (need (isPtr (.box r 0)) (Ah (Ac st6 [] (.t (Af (.box r 0) 16)) 0) (fun (v44:TV)=>need (isPtr (.box r 0)) (need (isPtr (.box r 0)) (Ah (Ac st6 [] (.t (Af (.box r 0) 14)) 0) (fun (x51:TV)=>Ak (.int .i64) x51 (fun (n53:Int)=>((0<=n53/\n53<(lenZ 1 v44:Int))/\Ah (Ac st6 [] (.t (ixT 1 v44 (Int.toNat n53))) 0) (fun (x52:TV)=>Ak (.str) x52 (fun (s14:B8)=>AG 118 15 192 v43 1 [(.int .i64 (6:Int)),(.str s14),(.int .i64 (0:Int)),(.bool false),(.bool false),(.str ([]:B8)),(.int .i64 (0:Int)),(.int .i64 (0:Int)),(.int .i64 (0:Int)),(.int .i64 (0:Int)),(.int .i64 (0:Int)),(.str ([]:B8)),.nilSlice,.nilSlice,.nilSlice] st6 (fun (v45:TV) (st46:St)=>need (isPtr (.box r 0)) (need (isPtr (.box r 0)) (need (List.all [v45] Aq) (stB st46 (Af (.box r 0) 26) [v45] (fun (st47:St)=>need (isPtr (.box r 0)) (need (isPtr (.box r 0)) (Ah (Ac st47 [] (.t (Af (.box r 0) 26)) 0) (fun (v46:TV)=>need (isPtr (.box r 0)) (need (isPtr (.box r 0)) (Ah ((Av st47 [] (.t (Af (.box r 0) 1)) 0 4).map TV.agg) (fun (x54:TV)=>DF [.int .u8,.int .u8,.bool,.bool] x54 (fun (n54:Int) (n55:Int) (b23:Bool) (b24:Bool)=>Ad PR AE [(.str t),(.bool qd),(.agg [(.int .u8 n54),(.int .u8 n55),(.bool b23),(.bool b24)])] [.agg [.int .i64,.bool,.bool,.str,.int .i64,.int .i64,.int .i64,.int .i64,.int .i64,.str,.tv,.tv,.tv]] st47 (fun (n56:Int) (b25:Bool) (b26:Bool) (s15:B8) (n57:Int) (n58:Int) (n59:Int) (n60:Int) (n61:Int) (s16:B8) (v47:TV) (v48:TV) (v49:TV) (st48:St)=>(Ac st48 [] (.t (Af (.box r 0) 26)) 0=some v46/\need (List.all [(.int .i64 (1:Int)),(.str ([]:B8)),(.int .i64 n56),(.bool b25),(.bool b26),(.str s15),(.int .i64 n57),(.int .i64 n58),(.int .i64 n59),(.int .i64 n60),(.int .i64 n61),(.str s16),v47,v48,v49] Aq) (AG 118 15 192 v46 1 [(.int .i64 (1:Int)),(.str ([]:B8)),(.int .i64 n56),(.bool b25),(.bool b26),(.str s15),(.int .i64 n57),(.int .i64 n58),(.int .i64 n59),(.int .i64 n60),(.int .i64 n61),(.str s16),v47,v48,v49] st48 (fun (v50:TV) (st49:St)=>need (isPtr (.box r 0)) (need (isPtr (.box r 0)) (need (List.all [v50] Aq) (stB st49 (Af (.box r 0) 26) [v50] (fun (st50:St)=>need (isPtr (.box r 0)) (need (isPtr (.box r 0)) (Ah (Ac st50 [] (.t (Af (.box r 0) 14)) 0) (fun (x55:TV)=>Ak (.int .i64) x55 (fun (n62:Int)=>need (isPtr (.box r 0)) (need (isPtr (.box r 0)) (stB st50 (Af (.box r 0) 14) [(.int .i64 (i64.wrap (n62+(1:Int))))] (fun (st51:St)=>K st51))))))))))))))))))))))))))))))))))))))))) (need (isPtr (.box r 0)) (need (isPtr (.box r 0)) (Ah (Ac st6 [] (.t (Af (.box r 0) 26)) 0) (fun (v51:TV)=>need (isPtr (.box r 0)) (need (isPtr (.box r 0)) (Ah ((Av st6 [] (.t (Af (.box r 0) 1)) 0 4).map TV.agg) (fun (x57:TV)=>DF [.int .u8,.int .u8,.bool,.bool] x57 (fun (n63:Int) (n64:Int) (b27:Bool) (b28:Bool)=>Ad PR AE [(.str t),(.bool qd),(.agg [(.int .u8 n63),(.int .u8 n64),(.bool b27),(.bool b28)])] [.agg [.int .i64,.bool,.bool,.str,.int .i64,.int .i64,.int .i64,.int .i64,.int .i64,.str,.tv,.tv,.tv]] st6 (fun (n65:Int) (b29:Bool) (b30:Bool) (s17:B8) (n66:Int) (n67:Int) (n68:Int) (n69:Int) (n70:Int) (s18:B8) (v52:TV) (v53:TV) (v54:TV) (st52:St)=>(Ac st52 [] (.t (Af (.box r 0) 26)) 0=some v51/\need (List.all [(.int .i64 (1:Int)),(.str ([]:B8)),(.int .i64 n65),(.bool b29),(.bool b30),(.str s17),(.int .i64 n66),(.int .i64 n67),(.int .i64 n68),(.int .i64 n69),(.int .i64 n70),(.str s18),v52,v53,v54] Aq) (AG 118 15 192 v51 1 [(.int .i64 (1:Int)),(.str ([]:B8)),(.int .i64 n65),(.bool b29),(.bool b30),(.str s17),(.int .i64 n66),(.int .i64 n67),(.int .i64 n68),(.int .i64 n69),(.int .i64 n70),(.str s18),v52,v53,v54] st52 (fun (v55:TV) (st53:St)=>need (isPtr (.box r 0)) (need (isPtr (.box r 0)) (need (List.all [v55] Aq) (stB st53 (Af (.box r 0) 26) [v55] (fun (st54:St)=>need (isPtr (.box r 0)) (need (isPtr (.box r 0)) (Ah (Ac st54 [] (.t (Af (.box r 0) 14)) 0) (fun (x58:TV)=>Ak (.int .i64) x58 (fun (n71:Int)=>need (isPtr (.box r 0)) (need (isPtr (.box r 0)) (stB st54 (Af (.box r 0) 14) [(.int .i64 (i64.wrap (n71+(1:Int))))] (fun (st55:St)=>K st55))))))))))))))))))))))))))))))))))))):=by
 have hh0:A.held.length<=100000000:=by rw[hh];exact Nat.zero_le _
 unfold Mj at hk
 refine HM h (Ar (fun g=>?_) fun g=>?_)
 ·rw[if_pos g]at hk
  refine Aa (fun g2=>?_) fun g2=>?_
  ·rw[if_pos (by omega)]at hk
   obtain⟨e1,e2⟩:=R9 A A.frm 10
   refine Ab rfl (Ab rfl (h.ld (k:=20) (x:= .int .i64 A.frm) (fun _ _=>rfl) (Am (Co h hh0 fun st1 I1 h1 f1=>?_))))
   refine Oi h1 (by rw[e1];exact hnl) (by rw[e2];exact hc) fun st2 I2 h2 f2=>hk st2 I2 ?_ (f1.trans f2)
   rw[e1,e2]at h2;exact h2
  ·rw[if_neg (by omega)]at hk
   obtain⟨es,v,q1,q2,q3,q4,hA⟩:=h.nameK hnl (t:=t)
   have hf:=q3 t
   refine Ab rfl (Ab rfl (Ae q1 (Ae (x:=es) (by simp only[JP,q2]) ?_)))
   by_cases hm:t∈A.names
   ·rw[if_pos hm]at hf hk
    rw[hf]
    obtain⟨e1,e2⟩:=R9 A A.frm 8
    refine show Ak .bool (.bool true) _ from BC (Ar (fun _=>?_) fun g=>by cases g)
    refine Ab rfl (Ab rfl (h.ld (k:=20) (x:= .int .i64 A.frm) (fun _ _=>rfl) (Am (Co h hh0 fun st1 I1 h1 f1=>?_))))
    refine Oi h1 (by rw[e1];exact hnl) (by rw[e2];exact hc) fun st2 I2 h2 f2=>hk st2 I2 ?_ (f1.trans f2)
    rw[e1,e2]at h2;exact h2
   ·rw[if_neg hm]at hf hk
    rw[hf]
    refine show Ak .bool (.bool false) _ from BC (Ar (fun g=>by cases g) fun _=>?_)
    exact Oi h hnl hc hk
 ·rw[if_neg (by rw[g];decide)]at hk
  refine Aa (fun g2=>?_) fun g2=>?_
  ·rw[if_pos (by omega)]at hk
   exact Ab rfl (Ab rfl (h.ld (k:=20) (x:= .int .i64 A.frm) (fun _ _=>rfl) (Am (Co h hh0 hk))))
  ·rw[if_neg (by omega)]at hk
   refine Ab rfl (Ab rfl (h.ld (k:=14) (x:= .int .i64 (A.cells:Int)) (fun _ _=>rfl) (Am (Aa (fun g3=>?_) fun g3=>?_))))
   ·have g3':A.cells=0:=by omega
    rw[if_pos g3']at hk
    refine Ab rfl (Ab rfl (Ab rfl (h.ld (k:=3) (x:= .bool c.hd) (fun _ _=>rfl) (BC (Ar (fun g4=>?_) fun g4=>?_)))))
    ·rw[if_pos g4]at hk
     obtain⟨v,q1,hA⟩:=h.outK (by omega) (evs:=[Ev.ms]) (by simp)
     refine Ab rfl (Ab rfl (Ae q1 (hA _ (fun v' st9 o1 hst=>?_) _)))
     refine Ab rfl (Ab rfl (Ab (by rw[List.all_cons,o1];rfl) (hst _ fun st10 I' h10 f10=>?_)))
     refine Of h10 (by show(A.out++[_]).length<=_;simp only[List.length_append,List.length_singleton];omega) hc ht (fun _=>hn g4 g) fun st11 I2 h11 f11=>hk st11 I2 ?_ (f10.trans f11)
     rw[<-List.append_assoc,if_pos g4]
     rw[if_pos g4]at h11
     exact h11
    ·rw[if_neg (by rw[g4];decide)]at hk
     obtain⟨v,q1,hA⟩:=h.outK (by omega) (evs:=[Ev.ls]) (by simp)
     refine Ab rfl (Ab rfl (Ae q1 (hA _ (fun v' st9 o1 hst=>?_) _)))
     refine Ab rfl (Ab rfl (Ab (by rw[List.all_cons,o1];rfl) (hst _ fun st10 I' h10 f10=>?_)))
     refine Of h10 (by show(A.out++[_]).length<=_;simp only[List.length_append,List.length_singleton];omega) hc ht (fun g5=>by rw[g4]at g5;cases g5) fun st11 I2 h11 f11=>hk st11 I2 ?_ (f10.trans f11)
     rw[<-List.append_assoc]
     exact h11
   ·have g3':¬A.cells=0:=by omega
    rw[if_neg g3',List.nil_append]at hk
    exact Of h (by omega) hc ht (fun g4=>hn g4 g) hk
end
end
section
section
variable {c:SC} {X:RX} {A:RA} {r w m:Nat} {I:List Nat} {st:St}
structure Sm (c:SC) (A:RA):Prop where
 hl:A.held.length<=1000000
 ol:A.out.length<=80000000
 cl:A.cells<=90000000
 nl:A.names.length<=90000000
 rl:A.rows<=90000000
 n0:0<=A.nodes
 n1:A.nodes<=90000000
 win:c.win<=100000000
theorem Sr (h:RB c X A r w m I st) (s:Sm c A) (hw:J1 c.q A.held) {K:St->Prop} (hn:c.hd=true->AR c A=false->A.late=0->A.cells<A.names.length)
  (hk:∀st' I',RB c X (AX c A) r w m I' st'->FrB r w m I I' st st'->K st'):Ad PR Ax [.box r 0] [] st K:=by
 have hhl:=s.hl
 have hol:=s.ol
 have hcl:=s.cl
 have hnl:=s.nl
 refine FU r st K (Ae h.win (Ae h.win (MX h ⟨h.win,Kz h (by omega) fun st2 I2 h2 f2=>⟨h2.win,h2.ld (k:=22) (x:= .int .i64 A.late) (fun _ _=>rfl) (Am (Aa (fun g=>?_) fun g=>?_))⟩⟩)))
 ·have e:AX c A=Bd {A with held:=[]} A.frm A.late:=by unfold AX;rw[if_pos g]
  rw[e]at hk
  exact h2.ld (k:=20) (x:= .int .i64 A.frm) (fun _ _=>rfl) (Am (h2.ld (k:=22) (x:= .int .i64 A.late) (fun _ _=>rfl) (Am (Co h2 (Nat.zero_le _) fun st3 I3 h3 f3=>hk st3 I3 h3 (f2.trans f3)))))
 rw[Ks c A g]at hk
 have htl:(txt c.q A.held).length<=1000000:=Nat.le_trans (Ux _ _) hhl
 have tl:∀{st3:St},RB c X {A with held:=[]} r w m I2 st3->FrB r w m I I2 st st3->∀st' I',RB c X (Mj c {A with held:=[]} (txt c.q A.held) (BE c.q A.held)) r w m I' st'->FrB r w m I2 I' st3 st'->K st':=fun h3 f3 st' I' h' f'=>hk st' I' h' (f3.trans f')
 have g0:A.late=0:=by omega
 refine Aa (fun g1=>?_) fun g1=>?_
 ·refine⟨⟨by omega,?_⟩,h2.ld (k:=2) (x:= .int .u8 c.q) (fun _ _=>rfl) (Am ⟨fun s1 r1 q1 st5=>s1=txt c.q A.held/\r1= .box r 0/\q1=BE c.q A.held/\st5=st2,Aa (fun g2=>?_) fun g2=>?_,?_⟩)⟩
  ·cases hc:A.held with
   | nil=>exact absurd hc g1
   | cons b l=>simp
  ·have g2':by_ A.held 0=c.q:=g2
   rcases hw with hw | hw | ⟨b,t,hb,hw⟩
   ·exact absurd hw g1
   ·exact absurd g2' hw
   have e1:txt c.q A.held=t:=by rw[hw];exact Nq hb
   have e2:decide (((List.getD A.held (Int.toNat (0:Int)) 0).toNat:Int)=c.q)=BE c.q A.held:=by
    unfold BE
    rw[decide_eq_true g2,decide_eq_true]
    exact fun hh=>hh.elim g1 fun hh=>hh g2'
   rw[e2]
   have htb:toBytes st2 (.list 1 .full 1 [.int .u8 c.q])=some [b]:=by
    have:UInt8.ofNat c.q.toNat=b:=by rw[<-hb];simp
    rw[<-this];rfl
   have hlen:A.held.length=(dbl b t).length+2:=by rw[hw];simp
   have hw64:i64.wrap ((A.held.length:Int)-1)=(((dbl b t).length+1:Nat):Int):=by
    rw[hlen,Al _ (by omega) (by omega)];omega
   refine h2.ld (k:=2) (x:= .int .u8 c.q) (fun _ _=>rfl) (Am ?_)
   rw[htb]
   refine Ae rfl (show Ak .str (.str [b]) _ from⟨⟨by omega,by rw[hw64];omega,by rw[hw64,hlen];omega⟩,by simp,?_⟩)
   rw[hw64]
   have hin:List.drop (Int.toNat 1) (List.take (Int.toNat (((dbl b t).length+1:Nat):Int)) A.held)=dbl b t:=by
    rw[hw];simp
   rw[hin]
   exact Q9 rfl (by omega) ⟨e1.symm,rfl,rfl,rfl⟩
  ·have g2':by_ A.held 0≠c.q:=g2
   refine⟨?_,rfl,?_,rfl⟩
   ·unfold txt;rw[if_pos (.inr g2')]
   ·unfold BE
    rw[decide_eq_false g2,decide_eq_false]
    exact fun hh=>hh (.inr g2')
  ·rintro s1 r1 q1 st5 ⟨rfl,rfl,rfl,rfl⟩
   exact Sk h2 rfl hol (by show A.cells<=_;omega) (by show A.names.length<=_;omega) htl (fun x y=>hn x y g0) (tl h2 f2)
 ·have g1':A.held=[]:=by
   by_cases hc:A.held=[]
   ·exact hc
   ·exact absurd hc g1
  refine⟨fun s1 r1 q1 st5=>s1=txt c.q A.held/\r1= .box r 0/\q1=BE c.q A.held/\st5=st2,⟨?_,rfl,?_,rfl⟩,?_⟩
  ·unfold txt;rw[if_pos (.inl g1')]
  ·unfold BE
   rw[decide_eq_false]
   exact fun hh=>hh (.inl g1')
  ·rintro s1 r1 q1 st5 ⟨rfl,rfl,rfl,rfl⟩
   exact Sk h2 rfl hol (by show A.cells<=_;omega) (by show A.names.length<=_;omega) htl (fun x y=>hn x y g0) (tl h2 f2)
end
end
section
structure Sz (k:Nat) (A:RA):Prop where
 hl:A.held.length<=k
 ol:A.out.length<=4*k
 cl:A.cells<=k
 nl:A.names.length<=k
 rl:A.rows<=k
 n0:0<=A.nodes
 n1:A.nodes<=2*k+1
variable {c:SC} {A:RA} {k:Nat}
theorem Sz.mono {j:Nat} (h:Sz k A) (hj:k<=j):Sz j A:=
 ⟨Nat.le_trans h.hl hj,Nat.le_trans h.ol (by omega),Nat.le_trans h.cl hj,Nat.le_trans h.nl hj,Nat.le_trans h.rl hj,h.n0,by have:=h.n1;omega⟩
theorem Sz.fail (h:Sz k A) (o e:Int):Sz k (Bd A o e):=by
 unfold Bd
 split<;>exact⟨Nat.zero_le _,h.ol,h.cl,h.nl,h.rl,h.n0,h.n1⟩
theorem Sz.empty (h:Sz k A):Sz k {A with held:=[]}:=⟨Nat.zero_le _,h.ol,h.cl,h.nl,h.rl,h.n0,h.n1⟩
theorem Sz.hold (h:Sz k A) (b:UInt8):Sz (k+1) (CC c b A):=by
 unfold CC
 split
 ·exact(h.fail _ _).mono (by omega)
 ·have:=h.hl
  have:=h.mono (show k<=k+1 by omega)
  exact⟨by show(A.held++[b]).length<=_;simp only[List.length_append,List.length_singleton];omega,this.ol,this.cl,this.nl,this.rl,this.n0,this.n1⟩
theorem Ki (A:RA) (e:Int):(BK A e).nodes=A.nodes:=(D1 A e).2.2.2.2
theorem Mq (c:SC) (A:RA) (d:Int):(BG c A d).nodes=A.nodes+1:=by
 unfold BG Fi
 split
 ·show(BK A 9).nodes+1=_;rw[Ki]
 ·split
  ·show(BK A 10).nodes+1=_;rw[Ki]
  ·rfl
theorem RR (c:SC) (A:RA) (o:Int):A.nodes<=(AJ c A o).nodes/\(AJ c A o).nodes<=A.nodes+2:=by
 have e1:A.nodes<=(AI c A o).nodes/\(AI c A o).nodes<=A.nodes+1:=by
  unfold AI
  split
  ·exact⟨Int.le_refl _,by show A.nodes<=_;omega⟩
  split
  ·exact⟨Int.le_refl _,by show A.nodes<=_;omega⟩
  ·rw[Mq];exact⟨by show A.nodes<=A.nodes+1;omega,Int.le_refl _⟩
 have e2:(Cs (AI c A o)).nodes=(AI c A o).nodes:=by
  unfold Cs
  split
  ·exact Ki _ _
  ·rfl
 unfold AJ D6
 split
 ·rw[e2];exact⟨e1.1,by omega⟩
 ·rw[Mq,e2];exact⟨by omega,by omega⟩
theorem Sz.enter (h:Sz k A) (o:Int):Sz (k+1) (AJ c A o):=by
 obtain⟨hS,hf,hw,hc⟩:=Cn c A o
 obtain⟨n1,n2⟩:=RR c A o
 have g:=h.mono (show k<=k+1 by omega)
 have h1:=h.n1
 have h0:=h.n0
 refine⟨by rw[hS.held];exact g.hl,by rw[hS.out];exact g.ol,?_,by rw[hS.names];exact g.nl,by rw[hS.rows];exact g.rl,by omega,by omega⟩
 rw[hc]
 split
 ·exact g.cl
 ·exact Nat.zero_le _
theorem Sz.cell (h:Sz k A):Sz (k+1) (AX c A):=by
 have g:=h.empty.mono (show k<=k+1 by omega)
 have nb:∀{B:RA},Sz k B->∀t:B8,Sz (k+1) {B with names:=A.names++[t],cells:=A.cells+1}:=fun {B} hB t=>by
  have hB:=hB.mono (show k<=k+1 by omega)
  have h1:=h.nl
  have h2:=h.cl
  exact⟨hB.hl,hB.ol,by show A.cells+1<=_;omega,by show(A.names++[t]).length<=_;simp only[List.length_append,List.length_singleton];omega,hB.rl,hB.n0,hB.n1⟩
 unfold AX
 split
 ·exact g.fail _ _
 split
 ·refine nb (?_:Sz k _) _
  split
  ·exact h.empty.fail _ _
  split
  ·exact h.empty.fail _ _
  ·exact h.empty
 split
 ·exact g.fail _ _
 ·have h1:=h.ol
  have h2:=h.cl
  refine⟨g.hl,?_,by show A.cells+1<=_;omega,g.nl,g.rl,g.n0,g.n1⟩
  show(A.out++_).length<=_
  simp only[List.length_append]
  split<;>split<;>simp<;>omega
theorem Sz.wid (h:Sz k A):Sz k (Cu A):=by
 unfold Cu
 split
 ·exact⟨h.hl,h.ol,h.cl,h.nl,h.rl,h.n0,h.n1⟩
 ·exact h
theorem Sz.record (h:Sz k A) (o:Int):Sz (k+1) (AH c A o):=by
 have g:=h.mono (show k<=k+1 by omega)
 unfold AH
 split
 ·exact g
 have hw:=h.wid
 have gw:=hw.mono (show k<=k+1 by omega)
 unfold CG
 split
 ·exact gw.fail _ _
 ·have h1:=hw.ol
  have h2:=hw.rl
  refine⟨gw.hl,?_,gw.cl,gw.nl,by show(Cu A).rows+1<=_;omega,gw.n0,gw.n1⟩
  show((Cu A).out++_).length<=_
  simp only[List.length_append]
  split<;>simp<;>omega
theorem Sz.late (h:Sz k A) (o e:Int):Sz k (Fm A o e):=by
 unfold Fm
 split
 ·exact(h.fail _ _).fail _ _
 ·exact h.fail _ _
theorem Sz.ph (h:Sz k A) (p:Nat):Sz k {A with ph:=p}:=⟨h.hl,h.ol,h.cl,h.nl,h.rl,h.n0,h.n1⟩
theorem Sz.after (h:Sz k A) (b:UInt8) (o:Int):Sz (k+2) (Dk c b o A):=by
 have hc:=(Sz.cell (c:=c) h).mono (show k+1<=k+2 by omega)
 unfold Dk
 split
 ·exact hc
 split
 ·exact hc.ph _
 split
 ·exact Sz.record (Sz.cell h) o
 split
 ·exact⟨hc.hl,hc.ol,hc.cl,hc.nl,hc.rl,hc.n0,hc.n1⟩
 ·exact hc.fail _ _
theorem Sz.plain (h:Sz k A) (b:UInt8) (o:Int):Sz (k+2) (CI c b o A):=by
 unfold CI
 split
 ·exact h.after b o
 split
 ·exact(h.late o 3).mono (by omega)
 ·exact(h.hold b).mono (by omega)
theorem Sz.next (h:Sz k A) (b:UInt8) (o:Int):Sz (k+3) (Bj c b o A):=by
 unfold Bj
 split
 ·split
  ·exact(((h.enter o).ph 2).hold b).mono (by omega)
  ·exact((h.enter o).ph 1).plain b o
 split
 ·exact(h.plain b o).mono (by omega)
 split
 ·split
  ·exact((h.ph 3).hold b).mono (by omega)
  ·exact(h.hold b).mono (by omega)
 split
 ·split
  ·exact((h.ph 2).hold b).mono (by omega)
  ·exact(h.after b o).mono (by omega)
 split
 ·exact(h.fail _ _).mono (by omega)
 ·exact(h.record _).mono (by omega)
end
end Go.TVF
