/- What the laws below rest on: a framework for Go programs, and contracts of the functions that they reach. -/
import Derived.Test.YtpfhcnpnngjpnaaGreatDoorHcD
set_option maxRecDepth 20000
set_option linter.unusedVariables false
set_option linter.unusedSimpArgs false
namespace Go.TVF
open Go.IntKind(i64 u8)
open Go Go.Proofs
structure DlOk (a q:Int):Prop where
 a0:0<=a
 a1:a<128
 q0:0<=q
 q1:q<128
 aq:a≠q
 q10:q≠10
 q13:q≠13
 a10:a≠10
 sa:Gn a=false
 sq:Gn q=false
theorem dlOk {a q:Int} (h:dOk a q=true):DlOk a q:=by
 have hk:=dOk_inv h
 unfold dOk at h
 rw[decide_eq_true_eq]at h
 exact⟨by omega,by omega,by omega,by omega,by omega,by omega,by omega,by omega,h.2.1,h.2.2⟩
theorem Ry {x:Cx} {i:Nat} {v:Int} {ns:List B8} {e:Nat} {v1:Int} {ns1:List B8} (h:Et x true i v ns= .ok (e,v1,ns1)):
  txt x.q (slc x.s i e)∉ns/\ns1=txt x.q (slc x.s i e)::ns/\(txt x.q (slc x.s i e)).length<=1024:=by
 simp only[Et,if_true,true_and,bind,Except.bind]at h
 split at h
 ·cases h
 ·split at h
  ·cases h
  ·rename_i h2 h1
   split at h
   ·cases h
   ·rename_i h3
    cases h
    exact⟨h3,rfl,by omega⟩
def CX (q:Int) (ks:List Nd):List B8:=ks.map fun k=>txt q (Cy k)
theorem Q8 {x:Cx} {num:Bool} {wid:Int}:∀(n:Nat) {acc:List Nd} {i:Nat} {v:Int} {ns:List B8} {e:Nat} {v':Int} {ns':List B8} {out:List Nd},
  BS x num wid true n acc i v ns= .ok (e,v',ns',out)->∃ks,out=acc++ks/\(CX x.q ks).Nodup/\∀t,t∈CX x.q ks->t.length<=1024/\t∉ns:=by
 intro n
 induction n with
 | zero=>intro acc i v ns e v' ns' out h;simp only[BS]at h;cases h
 | succ n ih=>
  intro acc i v ns e v' ns' out h
  simp only[BS]at h
  split at h
  ·cases h
  simp only[bind,Except.bind]at h
  split at h
  ·cases h
  rename_i p he
  obtain⟨e1,v1,ns1⟩:=p
  obtain⟨c1,c2,c3⟩:=Ry he
  simp only at h
  split at h
  ·obtain⟨ks,k1,k2,k3⟩:=ih h
   refine⟨_::ks,by rw[k1,List.append_assoc];rfl,?_,?_⟩
   ·show(txt x.q (Cy _)::CX x.q ks).Nodup
    rw[Fx]
    refine List.nodup_cons.2 ⟨fun hm=>?_,k2⟩
    exact(k3 _ hm).2 (by rw[c2];exact List.mem_cons_self ..)
   ·intro t ht
    rcases List.mem_cons.1 ht with rfl | ht
    ·dsimp only;rw[Fx];exact⟨c3,c1⟩
    ·exact⟨(k3 t ht).1,fun hm=>(k3 t ht).2 (by rw[c2];exact List.mem_cons_of_mem _ hm)⟩
  ·split at h
   ·cases h
   cases h
   refine⟨_,rfl,by simp[CX],fun t ht=>?_⟩
   rw[List.mem_singleton.1 ht]
   dsimp only
   rw[Fx]
   exact⟨c3,c1⟩
theorem PV {x:Cx} (n:Nat) {out:List Nd} {v:Int} {ns:List B8} {wid:Int} {i:Nat} (h:DN x true n [] i v ns wid= .ok out) (hi:i<=x.s.length):∀r,out.head? =some r->(CX x.q (A2 r)).Nodup/\∀t,t∈CX x.q (A2 r)->t.length<=1024:=by
 intro r hr
 cases n with
 | zero=>simp only[DN]at h;cases h
 | succ n=>
 simp only[DN]at h
 split at h
 ·cases h;cases hr
 simp only[bind,Except.bind]at h
 split at h
 ·cases h
 rename_i p h1
 obtain⟨i',v',ns',r1,wid'⟩:=p
 simp only[List.isEmpty_nil,Bool.and_true,Bool.not_true,List.nil_append]at h h1
 obtain⟨ks,e,m,rfl,rfl,k2,_⟩:=Oc hi h1
 have hle:=k2.le hi
 obtain⟨rs,j1,_⟩:=KZ n (by omega) h
 rw[j1]at hr
 simp only[List.cons_append,List.nil_append,List.head?_cons,Option.some.injEq]at hr
 subst hr
 obtain⟨v1,_,h4⟩:=En h1
 obtain⟨e2,v2,ns2,ks2,m2,h2,_,_,hp⟩:=H7 h4
 simp only[Prod.mk.injEq]at hp
 obtain⟨_,_,_,hk,_⟩:=hp
 simp only[Nd.mk.injEq,true_and]at hk
 obtain⟨ks3,q1,q2,q3⟩:=Q8 _ h2
 rw[List.nil_append]at q1
 show(CX x.q ks).Nodup/\∀t,t∈CX x.q ks->t.length<=1024
 rw[hk.1,q1]
 exact⟨q2,fun t ht=>(q3 t ht).1⟩
def Ch (s:Sc):Vl:= .mk s [] []
def EY (q:Int) (ty:Bool) (r:List B8):List Sc:=r.map fun c=>Dj ty (Ct q c) (txt q c)
def Q5 (names:List B8) (row:List Sc):Vl:=Pa (List.zipWith (fun k s=>Fd.mk k (Ch s)) names row)
def CT (rs:List Nd):List (List B8):=rs.map fun r=>(A2 r).map Cy
section
abbrev KG13:=Int->Bool->Bool->B8->Int->Int->Int->Int->Int->B8->TV->TV->TV->St->Prop
def KC (K:KG13) (x:Sc) (st:St):Prop:=K x.kind x.b x.neg x.dg x.ex x.tk x.td x.tn x.tz x.text .nilSlice .nilSlice .nilSlice st
abbrev SG13:List CTy:=[.int .i64,.bool,.bool,.str,.int .i64,.int .i64,.int .i64,.int .i64,.int .i64,.str,.tv,.tv,.tv]
section
variable {a q:Int} {hd ty:Bool} {st:St}
theorem SJ {s:B8} {qd:Bool} (hl:s.length<=1000000) {K:KG13} (hk:∀st',Cq st st'->KC K (Dj ty qd s) st'):
  Ae PR Ax [.str s,.bool qd,.agg [.int .u8 a,.int .u8 q,.bool hd,.bool ty]] [.agg SG13] st K:=by
 have e0:=Cq.refl st
 unfold Dj at hk
 refine MB s qd a q hd ty st K (AI (fun g=>EV s st _ (Ac (Jr rfl rfl rfl) ?_)) fun g=>AI (fun g2=>EV s st _ (Ac (Jr rfl rfl rfl) ?_)) fun g2=>?_)
 ·have:ty=false:=by simpa using g
  rw[if_pos (.inl this)]at hk;exact hk st e0
 ·rw[if_pos (.inr g2)]at hk;exact hk st e0
 have g:ty=true:=by simpa using g
 rw[if_neg (by rw[g,g2];simp)]at hk
 have tail:s≠ []->s≠N3->s≠MN->Ae PR BP [.str s] [.agg [.bool,.str,.int .i64],.one (.int .i64)] st (fun (b9:Bool) (s9:B8) (n25:Int) (n26:Int) (st5:St)=>BIf (decide (n26=(0:Int))) (Ae PR D3 [(.agg [(.bool b9),(.str s9),(.int .i64 n25)])] [.agg SG13] st5 (fun (n27:Int) (b10:Bool) (b11:Bool) (s10:B8) (n28:Int) (n29:Int) (n30:Int) (n31:Int) (n32:Int) (s11:B8) (v13:TV) (v14:TV) (v15:TV) (st6:St)=>need (List.all [(.int .i64 n27),(.bool b10),(.bool b11),(.str s10),(.int .i64 n28),(.int .i64 n29),(.int .i64 n30),(.int .i64 n31),(.int .i64 n32),(.str s11),v13,v14,v15] Aw) (K n27 b10 b11 s10 n28 n29 n30 n31 n32 s11 v13 v14 v15 st6)))
   (Ae PR BX [.str s] [.agg [.int .i64,.int .i64,.int .i64,.int .i64],.one (.int .i64)] st5 (fun (n33:Int) (n34:Int) (n35:Int) (n36:Int) (n37:Int) (st7:St)=>BIf (decide (n37=(0:Int))) (Ae PR Du [(.agg [(.int .i64 n33),(.int .i64 n34),(.int .i64 n35),(.int .i64 n36)])] [.agg SG13] st7 (fun (n38:Int) (b12:Bool) (b13:Bool) (s12:B8) (n39:Int) (n40:Int) (n41:Int) (n42:Int) (n43:Int) (s13:B8) (v16:TV) (v17:TV) (v18:TV) (st8:St)=>need (List.all [(.int .i64 n38),(.bool b12),(.bool b13),(.str s12),(.int .i64 n39),(.int .i64 n40),(.int .i64 n41),(.int .i64 n42),(.int .i64 n43),(.str s13),v16,v17,v18] Aw) (K n38 b12 b13 s12 n39 n40 n41 n42 n43 s13 v16 v17 v18 st8)))
    (Ae PR B2 [.str s] [.agg SG13] st7 (fun (n44:Int) (b14:Bool) (b15:Bool) (s14:B8) (n45:Int) (n46:Int) (n47:Int) (n48:Int) (n49:Int) (s15:B8) (v19:TV) (v20:TV) (v21:TV) (st9:St)=>need (List.all [(.int .i64 n44),(.bool b14),(.bool b15),(.str s14),(.int .i64 n45),(.int .i64 n46),(.int .i64 n47),(.int .i64 n48),(.int .i64 n49),(.str s15),v19,v20,v21] Aw) (K n44 b14 b15 s14 n45 n46 n47 n48 n49 s15 v19 v20 v21 st9)))))):=by
  intro h1 h2 h3
  rw[if_neg h1,if_neg h2,if_neg h3]at hk
  refine dP_ok hl ?_
  unfold KD
  generalize dcP s=d at*
  refine Ad (fun h4=>Mz _ _ _ st _ (Ac (Jr rfl rfl rfl) ?_)) fun h4=>tP_ok hl fun st1 e1=>?_
  ·rw[if_pos h4]at hk;exact hk st e0
  rw[if_neg h4]at hk
  unfold KT
  generalize tmP s=t at*
  refine Ad (fun h5=>Lq _ _ _ _ st1 _ (Ac (Jr rfl rfl rfl) ?_)) fun h5=>EV s st1 _ (Ac (Jr rfl rfl rfl) ?_)
  ·rw[if_pos h5]at hk;exact hk st1 e1
  ·rw[if_neg h5]at hk;exact hk st1 e1
 refine Ad (fun h1=>Lr st _ (Ac (Jr rfl rfl rfl) ?_)) fun h1=>Ad (fun h2=>Ad (fun _=>G2 _ st _ (Ac (Jr rfl rfl rfl) ?_)) fun h=>absurd h2 h) fun h2=>Ad (fun h3=>G2 _ st _ (Ac (Jr rfl rfl rfl) ?_)) fun h3=>tail h1 h2 h3
 ·rw[if_pos h1]at hk;exact hk st e0
 ·rw[if_neg h1,if_pos (show s=N3 from h2)]at hk
  rw[decide_eq_true h2];exact hk st e0
 ·rw[if_neg h1,if_neg (show ¬s=N3 from h2),if_pos (show s=MN from h3)]at hk
  rw[decide_eq_false h2];exact hk st e0
end
end
section
structure Tn (a q:Int) (rs:List Nd) (W:Nat):Prop where
 form:∀r,r∈rs->RecF a q r
 wid:∀r,r∈rs->(A2 r).length=W
 len:∀r,r∈rs->∀k,k∈A2 r->(txt q (Cy k)).length<=65536/\(Cy k).length<=2000000
 cnt:rs.length<=2000000
 wlen:W<=10000000
def GY (q:Int) (hd ty:Bool):List (List B8)->List Vl
 | []=>[]
 | h::t=>if hd then t.map fun r=>Q5 (h.map (txt q)) (EY q ty r)else(h::t).map fun r=>CN ((EY q ty r).map Ch)
theorem Hn (q:Int) (ty:Bool) (l:List (List B8)):GY q false ty l=l.map fun r=>CN ((EY q ty r).map Ch):=by
 cases l<;>rfl
theorem R8 (q:Int) (ty:Bool) (l:List B8):(EY q ty l).length=l.length:=by unfold EY;rw[List.length_map]
def Iu (names:List B8) (row:List Sc):List Fd:=List.zipWith (fun k s=>Fd.mk k (Ch s)) names row
section
variable {a q:Int} {hd ty:Bool} {st:St}
end
end
theorem R0 (s:Sc):(Ch s).sz=1+s.bytes.length+s.text.length+s.dg.length:=szl' s
theorem S7 (ty qd:Bool) (s:B8):(Ch (Dj ty qd s)).sz<=1+s.length:=by
 have hd:=dcP_len s
 rw[R0,JG]
 unfold Dj
 by_cases h1:ty=false∨qd=true
 ·rw[if_pos h1];simp[tkT]
 rw[if_neg h1]
 by_cases h2:s=[]
 ·rw[if_pos h2];simp[scK]
 rw[if_neg h2]
 by_cases h3:s=N3
 ·rw[if_pos h3];simp[tkB]
 rw[if_neg h3]
 by_cases h4:s=MN
 ·rw[if_pos h4];simp[tkB]
 rw[if_neg h4]
 by_cases h5:(dcP s).2.2.2=0
 ·rw[if_pos h5];simp[tkN];omega
 rw[if_neg h5]
 by_cases h6:(tmP s).2.2.2.2=0
 ·rw[if_pos h6];simp[tkM]
 rw[if_neg h6];simp[tkT]
theorem MO (q:Int) (ty:Bool):∀r:List B8,Da ((EY q ty r).map Ch)<=r.length+JU r
 | []=>by simp[EY,Da,JU]
 | c::r=>by
  have h1:=MO q ty r
  have h2:=S7 ty (Ct q c) (txt q c)
  have h3:=Qo q c
  unfold EY at h1⊢
  simp only[List.map_cons,Da,List.length_cons,JU]at h1⊢;omega
theorem Qm (M:Nat):∀(names:List B8) (row:List Sc),(∀t,t∈names->t.length<=M)->Fv (Iu names row)<=row.length*M+Da (row.map Ch)
 | [],row,h=>by simp[Iu,Fv]
 | _::_,[],h=>by simp[Iu,Fv]
 | t::ns,s::r,h=>by
  have h1:=Qm M ns r fun x hx=>h x (.tail _ hx)
  have h2:=h t (.head _)
  unfold Iu at h1⊢
  simp only[List.zipWith_cons_cons,Fv,Fd.sz,List.length_cons,List.map_cons,Da,Nat.add_mul,Nat.one_mul]at h1⊢;omega
theorem NG (l:List Vl):(CN l).sz=1+Da l:=by unfold CN;rw[szs];simp[scZ,Fv]
theorem vMap_sz (f:List Fd):(Pa f).sz=1+Fv f:=by unfold Pa;rw[szs];simp[scZ,Da]
theorem valL_sz {q:Int} {hd ty:Bool} {M:Nat} {l:List (List B8)} (h:hd=true->∀r,l.head? =some r->∀c,c∈r->(txt q c).length<=M):Da (GY q hd ty l)<=l.length+G0 l*(1+M)+HW l:=by
 cases hd with
 | false=>
  rw[Hn]
  clear h
  induction l with
  | nil=>simp[Da]
  | cons r t ih=>
   have h1:=MO q ty r
   simp only[List.map_cons,Da,NG,List.length_cons,G0,HW,Nat.add_mul,Nat.mul_add,Nat.mul_one]at ih⊢;omega
 | true=>
  cases l with
  | nil=>simp[GY,Da]
  | cons h0 t=>
   have hM:=h rfl h0 rfl
   have key:∀t:List (List B8),Da (t.map fun r=>Q5 (h0.map (txt q)) (EY q ty r))<=t.length+G0 t*(1+M)+HW t:=by
    intro t
    induction t with
    | nil=>simp[Da]
    | cons r t ih=>
     have h1:=MO q ty r
     have h2:=Qm M (h0.map (txt q)) (EY q ty r) fun x hx=>by
      obtain⟨c,hc,rfl⟩:=List.mem_map.1 hx
      exact hM c hc
     rw[R8]at h2
     have h3:(Q5 (h0.map (txt q)) (EY q ty r)).sz=1+Fv (Iu (h0.map (txt q)) (EY q ty r)):=vMap_sz _
     simp only[List.map_cons,Da,h3,List.length_cons,G0,HW,Nat.add_mul,Nat.mul_add,Nat.mul_one]at ih⊢;omega
   have:=key t
   show Da (t.map fun r=>Q5 (h0.map (txt q)) (EY q ty r))<=_
   simp only[List.length_cons,G0,HW,Nat.add_mul]at this⊢;omega
theorem ST {a q:Int} {s:B8} {i:Nat} {ks:List Nd} {e n:Nat} (h:Jf a q s i ks e n):i<=s.length->JU (ks.map Cy)+i<=e:=by
 induction h with
 | @last i e n h1 h2 h3=>
  intro hi
  have hl:=DC hi h1
  simp only[List.map_cons,List.map_nil,Fx,JU]
  rw[MJ hl.1 hl.2];omega
 | @more i e e' n ks h1 h2 h3 h4 ih=>
  intro hi
  have hl:=DC hi h1
  have:=ih (by omega)
  simp only[List.map_cons,Fx,JU]
  rw[MJ hl.1 hl.2];omega
theorem N7 {a q:Int} {s:B8} {i:Nat} {rs:List Nd} (h:Je a q s i rs):i<=s.length->HW (CT rs)+i<=s.length/\G0 (CT rs)+i<=s.length+1/\(i<s.length∨rs=[]->True)/\rs.length+i<=s.length:=by
 induction h with
 | nil h=>intro hi;simp[CT,HW,G0];omega
 | @cons i e n ks rs h1 h2 h3 ih=>
  intro hi
  have hle:=h2.le hi
  have hs:=ST h2 hi
  have hn:=(GB (by omega) hle.2.2.2.2).2.1
  obtain⟨a1,a2,_,a4⟩:=ih (by omega)
  have hk:CT (.mk 8 [] [] ks (slc s e (e+n))::rs)=ks.map Cy::CT rs:=rfl
  rw[hk]
  simp only[HW,G0,List.length_map,List.length_cons]
  have hc:n=0->rs=[]:=fun h0=>by
   have:=hn h0
   cases rs with
   | nil=>rfl
   | cons x y=>simp only[List.length_cons]at a4;omega
  refine⟨by omega,?_,fun _=>trivial,?_⟩
  ·rcases Nat.eq_zero_or_pos n with h0 | h0
   ·rw[hc h0];simp[CT,G0];omega
   ·omega
  ·rcases Nat.eq_zero_or_pos n with h0 | h0
   ·rw[hc h0];simp;omega
   ·omega
theorem tree_of {a q:Int} {s:B8} {rs:List Nd} (h:Je a q s 0 rs) (hs:s.length<=1400000) (hlen:∀r,r∈rs->∀k,k∈A2 r->(txt q (Cy k)).length<=65536) (hW:∃W:Int,∀r,r∈rs->((A2 r).length:Int)=W):∃W,Tn a q rs W:=by
 obtain⟨W,hW⟩:=hW
 obtain⟨h1,h2,_,h4⟩:=N7 h (Nat.zero_le _)
 have mem:∀r,r∈rs->JU ((A2 r).map Cy)<=s.length/\(A2 r).length<=s.length+1:=by
  intro r hr
  obtain⟨j,hj⟩:=List.getElem?_of_mem hr
  have hj2:(CT rs)[j]? =some ((A2 r).map Cy):=by unfold CT;rw[List.getElem?_map,hj];rfl
  have:=R2 hj2
  rw[List.length_map]at this
  omega
 by_cases hne:rs=[]
 ·subst hne
  exact⟨0,⟨fun r hr=>(by cases hr),fun r hr=>(by cases hr),fun r hr=>(by cases hr),by simp,by omega⟩⟩
 refine⟨W.toNat,⟨h.form (Nat.zero_le _),fun r hr=>by have:=hW r hr;omega,fun r hr k hk=>⟨hlen r hr k hk,?_⟩,by omega,?_⟩⟩
 ·have h5:=R1 (List.mem_map.2 ⟨k,hk,rfl⟩:Cy k∈(A2 r).map Cy)
  have:=(mem r hr).1;omega
 ·obtain⟨r,t,rfl⟩:=List.exists_cons_of_ne_nil hne
  have:=hW r (.head _)
  have:=(mem r (.head _)).2
  omega
theorem Rj {n:Nd} {a q:Int} {hd:Bool} (h:Si n a q hd):∃rs W,n= .mk 1 [] [] rs []/\Tn a q rs W:=by
 obtain⟨rs,rfl,_,_,_,_,_,hr,hl,hW⟩:=Do h.2
 have hlen:=S5 h.1
 have hn:=IT (.mk 1 [] [] rs [])
 obtain⟨W,hT⟩:=tree_of hr (by show(Gw (.mk 1 [] [] rs [])).length<=_;omega) hl hW
 exact⟨rs,W,rfl,hT⟩
theorem Jp {x:Cx} {hd:Bool} {l2 l3 l4:Int} {n:Nd} (h:EZ x hd l2 l3 l4= .ok n):MT x.s x.a x.q hd= .ok n:=by
 obtain⟨rs,rfl,hd1,hl,hle,hv,hdoc,hr,hlen,hW⟩:=Do h
 unfold lOk at hl
 rw[decide_eq_true_eq]at hl
 obtain⟨rs1,q1,_,_,_,q6⟩:=KZ _ (Nat.zero_le _) hdoc
 rw[List.nil_append]at q1
 subst q1
 obtain⟨rs2,j1,j2,_,_⟩:=SW (d':=48) (n':=65536) _ hdoc
 rw[List.nil_append]at j1
 subst j1
 have hdoc2:=j2 (.inr (by decide)) (by rcases q6 with q6 | q6<;>omega)
 show EZ (xU x.s x.a x.q) hd 1048576 1024 65536=_
 unfold EZ
 rw[if_neg (show ¬dOk x.a x.q=false by rw[hd1];decide),if_neg (show ¬lOk 48 65536 1048576 1024 65536=false by decide),if_neg (show ¬(1048576:Int)<(x.s.length:Int) by omega),if_neg (show ¬A8 x.s≠x.s.length by rw[hv];simp)]
 rw[show DN (xU x.s x.a x.q) hd ((xU x.s x.a x.q).s.length+1) [] 0 1 [] 0= .ok rs from hdoc2]
theorem val_sz {a q:Int} {hd ty:Bool} {rs:List Nd} {n:Nd} (h:Si n a q hd) (hn:n= .mk 1 [] [] rs []) (hcn:G0 (CT rs)<=1600):(CN (GY q hd ty (CT rs))).sz<=1+rs.length+G0 (CT rs)*1025+HW (CT rs):=by
 subst hn
 obtain⟨rs',hn,_,_,_,_,hdoc,_⟩:=Do h.2
 cases hn
 rw[NG]
 have:=valL_sz (q:=q) (hd:=hd) (ty:=ty) (M:=1024) (l:=CT rs) (fun hb r hr c hc=>by
  subst hb
  cases rs with
  | nil=>cases hr
  | cons r0 t=>
   have hr:(A2 r0).map Cy=r:=by simpa [CT]using hr
   have:=(PV _ hdoc (Nat.zero_le _) r0 rfl).2
   subst hr
   obtain⟨k,hk,rfl⟩:=List.mem_map.1 hc
   exact this _ (List.mem_map.2 ⟨k,hk,rfl⟩))
 have hl:(CT rs).length=rs.length:=by unfold CT;rw[List.length_map]
 omega
theorem read_sz {a q:Int} {hd ty:Bool} {rs:List Nd} {s:B8} (h:MT s a q hd= .ok (.mk 1 [] [] rs [])) (hs:s.length<=1500):(CN (GY q hd ty (CT rs))).sz<=1600000:=by
 obtain⟨ht,_,ho⟩:=On (by omega) h
 obtain⟨rs',hn,_,_,_,_,_,hr,_⟩:=Do h
 cases hn
 obtain⟨h1,h2,_,h4⟩:=N7 hr (Nat.zero_le _)
 have h1:HW (CT rs)+0<=s.length:=h1
 have h2:G0 (CT rs)+0<=s.length+1:=h2
 have h4:rs.length+0<=s.length:=h4
 have:=val_sz (ty:=ty) ho rfl (by omega)
 omega
theorem dA:dOk 44 34=true:=by decide
structure SC where
 a:Int
 q:Int
 hd:Bool
 ty:Bool
 dep:Int
 nod:Int
 win:Nat
inductive Ev where
 | ls
 | le
 | ms
 | me
 | key (k:B8)
 | val (s:Sc)
structure RA where
 ph:Nat
 within:Bool
 rows:Nat
 cells:Nat
 width:Nat
 names:List B8
 told:Bool
 nodes:Int
 frm:Int
 line:Int
 late:Int
 out:List Ev
 off:Int
 err:Int
 held:B8
def RA.start:RA:=⟨0,false,0,0,0,[],false,1,0,0,0,[],0,0,[]⟩
def AZ (A:RA) (off e:Int):RA:=if A.err=0 then {A with off:=off,err:=e,held:=[]} else {A with held:=[]}
def Bk (A:RA) (e:Int):RA:=if A.late=0 then {A with late:=e} else A
def AK (c:SC) (A:RA):Bool:=c.hd&&decide (A.rows=0)
def DP (A:RA):RA:={A with nodes:=A.nodes+1}
def Bj (c:SC) (A:RA) (d:Int):RA:=DP (if c.dep<d then Bk A 9 else if c.nod<=A.nodes then Bk A 10 else A)
def AC (c:SC) (A:RA) (at_:Int):RA:=
 if A.within=true then {A with frm:=at_} else if AK c A=true then {A with frm:=at_,within:=true,cells:=0} else Bj c {A with frm:=at_,within:=true,cells:=0} 2
def BJ (A:RA):RA:=if 0<A.rows/\A.width<=A.cells then Bk A 10 else A
def CK (c:SC) (A:RA):RA:=if AK c A=true then A else Bj c A 3
def AD (c:SC) (A:RA) (at_:Int):RA:=CK c (BJ (AC c A at_))
def BO (c:SC) (b:UInt8) (A:RA):RA:=if c.win<=A.held.length then AZ A A.frm 28 else {A with held:=A.held++[b]}
def AO (c:SC) (A:RA):RA:=
 if A.late≠0 then AZ {A with held:=[]} A.frm A.late
 else if AK c A=true then
  let B:=if 1024<(txt c.q A.held).length then AZ {A with held:=[]} A.frm 10 else if txt c.q A.held∈A.names then AZ {A with held:=[]} A.frm 8 else {A with held:=[]}
  {B with names:=A.names++[txt c.q A.held],cells:=A.cells+1}
 else if 65536<(txt c.q A.held).length then AZ {A with held:=[]} A.frm 10
 else {A with held:=[],cells:=A.cells+1,out:=A.out++((if A.cells=0 then [if c.hd then .ms else .ls]else [])++((if c.hd then [Ev.key (A.names.getD A.cells [])]else [])++[.val (Dj c.ty (Ct c.q A.held) (txt c.q A.held))]))}
def BL (A:RA):RA:=if A.rows=0 then {A with width:=A.cells,told:=true} else A
def BR (c:SC) (B:RA) (at_:Int):RA:=if B.cells<B.width then AZ B at_ 10
 else {B with out:=B.out++(if AK c B=true then []else [if c.hd then .me else .le]),rows:=B.rows+1,within:=false,ph:=0}
def AB (c:SC) (A:RA) (at_:Int):RA:=if A.err≠0 then A else BR c (BL A) at_
def B7 (c:SC) (b:UInt8) (at_:Int) (A:RA):RA:=
 if (AO c A).err≠0 then AO c A
 else if (b.toNat:Int)=c.a then {AO c A with ph:=0}
 else if (b.toNat:Int)=10 then AB c (AO c A) at_
 else if (b.toNat:Int)=13 then {AO c A with ph:=4,line:=at_}
 else AZ (AO c A) at_ 3
def DR (A:RA) (at_ e:Int):RA:=AZ (if A.late≠0 then AZ A A.frm A.late else A) at_ e
def BU (c:SC) (b:UInt8) (at_:Int) (A:RA):RA:=
 if (b.toNat:Int)=c.a∨(b.toNat:Int)=10∨(b.toNat:Int)=13 then B7 c b at_ A
 else if (b.toNat:Int)=c.q then DR A at_ 3 else BO c b A
def A4 (c:SC) (b:UInt8) (at_:Int) (A:RA):RA:=
 if A.ph=0 then(if (b.toNat:Int)=c.q then BO c b {AD c A at_ with ph:=2} else BU c b at_ {AD c A at_ with ph:=1})
 else if A.ph=1 then BU c b at_ A
 else if A.ph=2 then BO c b (if (b.toNat:Int)=c.q then {A with ph:=3} else A)
 else if A.ph=3 then(if (b.toNat:Int)=c.q then BO c b {A with ph:=2} else B7 c b at_ A)
 else if (b.toNat:Int)≠10 then AZ A A.line 3 else AB c A A.line
def Dd (c:SC) (size:Int) (A:RA):RA:=
 if A.ph=2∨A.ph=4 then DR A size 4
 else if A.ph=0 then(if A.within=true then AB c (AO c (AD c A size)) size else A)
 else AB c (AO c A) size
def BH (c:SC):B8->Int->RA->RA
 | [],_,A=>A
 | b::r,i,A=>if A.err≠0 then A else BH c r (i+1) (A4 c b i A)
def Nb (c:SC) (size:Int) (A:RA):RA:=if A.err=0 then Dd c size A else A
def A3 (c:SC) (s:B8) (i:Nat) (A:RA):RA:=Nb c s.length (BH c (s.drop i) i A)
def obs (A:RA):Except (Int×Int) (List Ev×List B8):=if A.err=0 then .ok (A.out,A.names)else .error (A.off,A.err)
theorem GP {A:RA} (h:A.err≠0):obs A= .error (A.off,A.err):=if_neg h
theorem Kr {c:SC} {A:RA} (h:A.err≠0):∀(l:B8) (i:Int),BH c l i A=A
 | [],_=>rfl
 | b::r,i=>by rw[BH,if_pos h]
theorem GT {c:SC} {s:B8} {i:Nat} {A:RA} (h:A.err≠0):A3 c s i A=A:=by
 unfold A3 Nb
 rw[Kr h,if_neg h]
theorem BD {c:SC} {s:B8} {i:Nat} {A:RA} (hi:i<s.length) (h:A.err=0):A3 c s i A=A3 c s (i+1) (A4 c (s.getD i 0) i A):=by
 unfold A3
 have hd:s.drop i=s.getD i 0::s.drop (i+1):=by
  rw[List.drop_eq_getElem_cons hi,List.getD_eq_getElem?_getD,List.getElem?_eq_getElem hi];rfl
 rw[hd,BH,if_neg (by omega)];rfl
theorem FR {c:SC} {s:B8} {i:Nat} {A:RA} (hi:s.length<=i) (h:A.err=0):A3 c s i A=Dd c s.length A:=by
 unfold A3 Nb
 rw[List.drop_of_length_le hi,BH,if_pos h]
theorem Bc {A:RA} {o e:Int} (h:A.err=0) (he:e≠0):(AZ A o e).err=e/\(AZ A o e).off=o:=by
 unfold AZ;rw[if_pos h];exact⟨rfl,rfl⟩
theorem Ia {A:RA} {o e:Int} (h:A.err=0) (he:e≠0):obs (AZ A o e)= .error (o,e):=by
 obtain⟨h1,h2⟩:=Bc (o:=o) h he
 rw[GP (by rw[h1];exact he),h1,h2]
theorem KN {A:RA} {o e:Int} (h:A.err≠0):(AZ A o e).err=A.err/\(AZ A o e).off=A.off:=by
 unfold AZ;rw[if_neg h];exact⟨rfl,rfl⟩
theorem Kx {A:RA} {o e:Int} (h:A.err=0) (he:e≠0):obs (DR A o e)=if A.late≠0 then .error (A.frm,A.late)else .error (o,e):=by
 unfold DR
 by_cases hl:A.late≠0
 ·rw[if_pos hl,if_pos hl]
  obtain⟨h1,h2⟩:=Bc (o:=A.frm) h hl
  obtain⟨h3,h4⟩:=KN (A:=AZ A A.frm A.late) (o:=o) (e:=e) (by rw[h1];exact hl)
  rw[GP (by rw[h3,h1];exact hl),h3,h4,h1,h2]
 ·rw[if_neg hl,if_neg hl]
  exact Ia h he
theorem LX {A:RA} {o e:Int} (h:A.err=0) (he:e≠0):(DR A o e).err≠0:=by
 unfold DR
 by_cases hl:A.late≠0
 ·rw[if_pos hl]
  obtain⟨h1,_⟩:=Bc (o:=A.frm) h hl
  rw[(KN (A:=AZ A A.frm A.late) (o:=o) (e:=e) (by rw[h1];exact hl)).1,h1];exact hl
 ·rw[if_neg hl,(Bc h he).1];exact he
theorem Fo {s:B8} {i e:Nat} (h:i<e) (he:e<=s.length):slc s i e=s.getD i 0::slc s (i+1) e:=by
 unfold slc
 rw[List.drop_eq_getElem_cons (by rw[List.length_take];omega),List.getElem_take,List.getD_eq_getElem?_getD,List.getElem?_eq_getElem (by omega)];rfl
theorem J1 {s:B8} {i:Nat}:slc s i i=[]:=by
 unfold slc
 exact List.drop_of_length_le (by rw[List.length_take];omega)
theorem Cb (s:B8) (i:Nat):((s.getD i 0).toNat:Int)=by_ s i:=rfl
theorem Dq {c:SC} {b:UInt8} {A:RA} (h:c.win<=A.held.length) (he:A.err=0) (s:B8) (i:Nat):obs (A3 c s i (BO c b A))= .error (A.frm,28):=by
 have h1:BO c b A=AZ A A.frm 28:=if_pos h
 rw[h1,GT (by rw[(Bc he (by decide)).1];decide),Ia he (by decide)]
theorem GR {c:SC} {b:UInt8} {A:RA} (h:A.held.length<c.win):BO c b A={A with held:=A.held++[b]}:=if_neg (by omega)
def CW:Except Nat Nat->Nat | .ok e=>e | .error o=>o
theorem Rf {c:SC} {s:B8}:∀(n i:Nat) (A:RA),s.length-i<=n->i<=s.length->A.ph=1->A.err=0->A.held.length<=c.win->
  i<=CW (PE c.a c.q s i)/\CW (PE c.a c.q s i)<=s.length/\(c.win<A.held.length+(CW (PE c.a c.q s i)-i)->obs (A3 c s i A)= .error (A.frm,28))/\
  (A.held.length+(CW (PE c.a c.q s i)-i)<=c.win->A3 c s i A=A3 c s (CW (PE c.a c.q s i)) {A with held:=A.held++slc s i (CW (PE c.a c.q s i))}):=by
 intro n
 induction n with
 | zero=>
  intro i A hn hi hp he hw
  rw[HL (by omega)]
  exact⟨Nat.le_refl _,hi,fun h=>by show _;have:CW (.ok i)=i:=rfl;omega,fun _=>by show _=A3 c s i {A with held:=A.held++slc s i i};rw[J1,List.append_nil]⟩
 | succ n ih=>
  intro i A hn hi hp he hw
  have stop:∀P:Except Nat Nat,CW P=i->i<=CW P/\CW P<=s.length/\(c.win<A.held.length+(CW P-i)->obs (A3 c s i A)= .error (A.frm,28))/\(A.held.length+(CW P-i)<=c.win->A3 c s i A=A3 c s (CW P) {A with held:=A.held++slc s i (CW P)}):=fun P hP=>by
   rw[hP]
   exact⟨Nat.le_refl _,hi,fun h=>by omega,fun _=>by rw[J1,List.append_nil]⟩
  by_cases hl:s.length<=i
  ·exact stop _ (by rw[HL hl];rfl)
  by_cases h1:by_ s i=c.a∨by_ s i=10∨by_ s i=13
  ·exact stop _ (by rw[Nt (by omega) h1];rfl)
  by_cases h2:by_ s i=c.q
  ·exact stop _ (by rw[Nv (by omega) h1 h2];rfl)
  have hne:A4 c (s.getD i 0) i A=BO c (s.getD i 0) A:=by
   unfold A4 BU
   rw[hp,if_neg (by decide),if_pos rfl,Cb,if_neg h1,if_neg h2]
  rw[Nu (by omega) h1 h2,BD (by omega) he,hne]
  by_cases hf:c.win<=A.held.length
  ·have hg:=(ih (i+1) {A with held:=[]} (by omega) (by omega) hp he (Nat.zero_le _)).1
   have hg2:=(ih (i+1) {A with held:=[]} (by omega) (by omega) hp he (Nat.zero_le _)).2.1
   exact⟨by omega,hg2,fun _=>Dq hf he _ _,fun h=>by omega⟩
  ·rw[GR (by omega)]
   obtain⟨g1,g2,g3,g4⟩:=ih (i+1) {A with held:=A.held++[s.getD i 0]} (by omega) (by omega) hp he (by simp only[List.length_append,List.length_singleton];omega)
   simp only[List.length_append,List.length_singleton]at g3 g4
   refine⟨by omega,g2,fun h=>g3 (by omega),fun h=>?_⟩
   rw[g4 (by omega),Fo (i:=i) (by omega) g2]
   simp
theorem Pt {c:SC} {s:B8}:∀(n i:Nat) (A:RA),s.length-i<=n->i<=s.length->A.ph=2->A.err=0->A.held.length<=c.win->
  (∀e,QE c.q s i=some e->(c.win<A.held.length+(e-i)->obs (A3 c s i A)= .error (A.frm,28))/\(A.held.length+(e-i)<=c.win->A3 c s i A=A3 c s e {A with held:=A.held++slc s i e,ph:=3})/\(e<s.length->by_ s e≠c.q))/\
  (QE c.q s i=none->(c.win<A.held.length+(s.length-i)->obs (A3 c s i A)= .error (A.frm,28))/\(A.held.length+(s.length-i)<=c.win->obs (A3 c s i A)=if A.late≠0 then .error (A.frm,A.late)else .error ((s.length:Int),4))):=by
 intro n
 induction n using Nat.strongRecOn with
 | _ n ih=>
  intro i A hn hi hp he hw
  by_cases hl:s.length<=i
  ·refine⟨fun e h=>(by rw[Qi hl]at h;cases h),fun _=>⟨fun h=>by omega,fun _=>?_⟩⟩
   rw[FR hl he]
   unfold Dd
   rw[if_pos (.inl hp)]
   exact Kx he (by decide)
  by_cases hq:by_ s i=c.q
  ·have hne:A4 c (s.getD i 0) i A=BO c (s.getD i 0) {A with ph:=3}:=by
    unfold A4
    rw[hp,if_neg (by decide),if_neg (by decide),if_pos rfl,Cb,if_pos hq]
   rw[BD (by omega) he,hne]
   by_cases h2:i+1<s.length/\by_ s (i+1)=c.q
   ·have hQ:=QS h2.1 hq h2.2
    rw[hQ]
    have ih2:=fun A' h1 h2 h3=>ih (s.length-(i+2)) (by omega) (i+2) A' (Nat.le_refl _) (by omega) h1 h2 h3
    by_cases hf:c.win<=A.held.length
    ·refine⟨fun e h=>?_,fun h=>⟨fun _=>Dq (A:={A with ph:=3}) hf he _ _,fun h=>by omega⟩⟩
     have hle:=JK _ _ _ (Nat.le_refl _) h
     have hb:=((ih2 {A with held:=[]} hp he (Nat.zero_le _)).1 e h).2.2
     exact⟨fun _=>Dq (A:={A with ph:=3}) hf he _ _,fun h=>by omega,hb⟩
    ·rw[GR (A:={A with ph:=3}) (by show A.held.length<_;omega)]
     have hne2:A4 c (s.getD (i+1) 0) ((i+1:Nat):Int) {A with ph:=3,held:=A.held++[s.getD i 0]}=BO c (s.getD (i+1) 0) {A with ph:=2,held:=A.held++[s.getD i 0]}:=by
      unfold A4
      rw[if_neg (by show ¬(3:Nat)=0;decide),if_neg (by show ¬(3:Nat)=1;decide),if_neg (by show ¬(3:Nat)=2;decide),if_pos rfl,Cb,if_pos h2.2]
     have hst:A3 c s (i+1) {A with ph:=3,held:=A.held++[s.getD i 0]}=A3 c s (i+2) (BO c (s.getD (i+1) 0) {A with ph:=2,held:=A.held++[s.getD i 0]}):=by
      rw[BD (A:={A with ph:=3,held:=A.held++[s.getD i 0]}) h2.1 he,hne2]
     show(∀e,_->(_->obs (A3 c s (i+1) {A with ph:=3,held:=A.held++[s.getD i 0]})=_)/\(_->A3 c s (i+1) {A with ph:=3,held:=A.held++[s.getD i 0]}=_)/\_)/\(_->(_->obs (A3 c s (i+1) {A with ph:=3,held:=A.held++[s.getD i 0]})=_)/\(_->obs (A3 c s (i+1) {A with ph:=3,held:=A.held++[s.getD i 0]})=_))
     rw[hst]
     by_cases hf2:c.win<=A.held.length+1
     ·have full:=fun t j=>Dq (c:=c) (b:=s.getD (i+1) 0) (A:={A with ph:=2,held:=A.held++[s.getD i 0]}) (by show c.win<=(A.held++[s.getD i 0]).length;rw[List.length_append,List.length_singleton];exact hf2) he t j
      refine⟨fun e h=>?_,fun h=>⟨fun _=>full _ _,fun h=>by omega⟩⟩
      have hle:=JK _ _ _ (Nat.le_refl _) h
      have hb:=((ih2 {A with held:=[]} hp he (Nat.zero_le _)).1 e h).2.2
      exact⟨fun _=>full _ _,fun h=>by omega,hb⟩
     ·rw[GR (A:={A with ph:=2,held:=A.held++[s.getD i 0]}) (by show(A.held++[s.getD i 0]).length<_;rw[List.length_append,List.length_singleton];omega)]
      obtain⟨g1,g2⟩:=ih2 {A with ph:=2,held:=A.held++[s.getD i 0]++[s.getD (i+1) 0]} rfl he (by simp only[List.length_append,List.length_singleton];omega)
      simp only[List.length_append,List.length_singleton]at g1 g2
      refine⟨fun e h=>?_,fun h=>?_⟩
      ·have hle:=JK _ _ _ (Nat.le_refl _) h
       obtain⟨k1,k2,k3⟩:=g1 e h
       refine⟨fun h=>k1 (by omega),fun h=>?_,k3⟩
       rw[k2 (by omega),Fo (i:=i) (by omega) hle.2,Fo (i:=i+1) (by omega) hle.2]
       simp
      ·obtain⟨k1,k2⟩:=g2 h
       exact⟨fun h=>k1 (by omega),fun h=>k2 (by omega)⟩
   ·have hQ:=QT (q:=c.q) (by omega:i<s.length) hq fun h h3=>h2 ⟨h,h3⟩
    rw[hQ]
    refine⟨fun e h=>?_,fun h=>by cases h⟩
    cases h
    refine⟨fun h=>Dq (A:={A with ph:=3}) (by show c.win<=A.held.length;omega) he _ _,fun h=>?_,fun h h3=>h2 ⟨h,h3⟩⟩
    rw[GR (A:={A with ph:=3}) (by show A.held.length<_;omega),Fo (by omega) (by omega),J1]
  ·have hne:A4 c (s.getD i 0) i A=BO c (s.getD i 0) A:=by
    unfold A4
    rw[hp,if_neg (by decide),if_neg (by decide),if_pos rfl,Cb,if_neg hq]
   rw[BD (by omega) he,hne,O4 (by omega) hq]
   have ih1:=fun A' h1 h2 h3=>ih (s.length-(i+1)) (by omega) (i+1) A' (Nat.le_refl _) (by omega) h1 h2 h3
   by_cases hf:c.win<=A.held.length
   ·refine⟨fun e h=>?_,fun h=>⟨fun _=>Dq hf he _ _,fun h=>by omega⟩⟩
    have hle:=JK _ _ _ (Nat.le_refl _) h
    have hb:=((ih1 {A with held:=[]} hp he (Nat.zero_le _)).1 e h).2.2
    exact⟨fun _=>Dq hf he _ _,fun h=>by omega,hb⟩
   ·rw[GR (by omega)]
    obtain⟨g1,g2⟩:=ih1 {A with held:=A.held++[s.getD i 0]} hp he (by simp only[List.length_append,List.length_singleton];omega)
    simp only[List.length_append,List.length_singleton]at g1 g2
    refine⟨fun e h=>?_,fun h=>?_⟩
    ·have hle:=JK _ _ _ (Nat.le_refl _) h
     obtain⟨k1,k2,k3⟩:=g1 e h
     refine⟨fun h=>k1 (by omega),fun h=>?_,k3⟩
     rw[k2 (by omega),Fo (i:=i) (by omega) hle.2]
     simp
    ·obtain⟨k1,k2⟩:=g2 h
     exact⟨fun h=>k1 (by omega),fun h=>k2 (by omega)⟩
def Eq (c:SC) (d v:Int):Int:=if c.dep<d then 9 else if c.nod<=v then 10 else 0
theorem LG {c:SC} {A:RA} {d:Int} (h:A.late=0):Bj c A d={A with late:=Eq c d A.nodes,nodes:=A.nodes+1}:=by
 unfold Bj Bk DP Eq
 by_cases h1:c.dep<d
 ·rw[if_pos h1,if_pos h1,if_pos h]
 ·rw[if_neg h1,if_neg h1]
  by_cases h2:c.nod<=A.nodes
  ·rw[if_pos h2,if_pos h2,if_pos h]
  ·rw[if_neg h2,if_neg h2,<-h]
theorem Hl {A:RA} {e:Int} (h:A.late≠0):Bk A e=A:=if_neg h
theorem Jh {c:SC} {A:RA} {d:Int} (h:A.late≠0):Bj c A d={A with nodes:=A.nodes+1}:=by
 unfold Bj
 rw[Hl h,Hl h,ite_self,ite_self];rfl
structure EE (A B:RA):Prop where
 ph:B.ph=A.ph
 rows:B.rows=A.rows
 width:B.width=A.width
 names:B.names=A.names
 told:B.told=A.told
 line:B.line=A.line
 out:B.out=A.out
 off:B.off=A.off
 err:B.err=A.err
 held:B.held=A.held
theorem EE.refl (A:RA):EE A A:=⟨rfl,rfl,rfl,rfl,rfl,rfl,rfl,rfl,rfl,rfl⟩
theorem EE.trans {A B C:RA} (h:EE A B) (k:EE B C):EE A C:=⟨k.ph.trans h.ph,k.rows.trans h.rows,k.width.trans h.width,k.names.trans h.names,k.told.trans h.told,k.line.trans h.line,k.out.trans h.out,k.off.trans h.off,k.err.trans h.err,k.held.trans h.held⟩
theorem CJ (A:RA) (e:Int):EE A (Bk A e)/\(Bk A e).frm=A.frm/\(Bk A e).within=A.within/\(Bk A e).cells=A.cells/\(Bk A e).nodes=A.nodes:=by
 unfold Bk
 split<;>exact⟨⟨rfl,rfl,rfl,rfl,rfl,rfl,rfl,rfl,rfl,rfl⟩,rfl,rfl,rfl,rfl⟩
theorem Jg (c:SC) (A:RA) (d:Int):EE A (Bj c A d)/\(Bj c A d).frm=A.frm/\(Bj c A d).within=A.within/\(Bj c A d).cells=A.cells:=by
 have h:∀B:RA,EE B (DP B)/\(DP B).frm=B.frm/\(DP B).within=B.within/\(DP B).cells=B.cells:=fun B=>⟨⟨rfl,rfl,rfl,rfl,rfl,rfl,rfl,rfl,rfl,rfl⟩,rfl,rfl,rfl⟩
 unfold Bj
 split
 ·obtain⟨h1,h2,h3,h4,_⟩:=CJ A 9
  obtain⟨k1,k2,k3,k4⟩:=h (Bk A 9)
  exact⟨h1.trans k1,k2.trans h2,k3.trans h3,k4.trans h4⟩
 split
 ·obtain⟨h1,h2,h3,h4,_⟩:=CJ A 10
  obtain⟨k1,k2,k3,k4⟩:=h (Bk A 10)
  exact⟨h1.trans k1,k2.trans h2,k3.trans h3,k4.trans h4⟩
 ·exact h A
theorem GG (c:SC) (A:RA) (at_:Int):EE A (AC c A at_)/\(AC c A at_).frm=at_/\(AC c A at_).within=true/\(AC c A at_).cells=if A.within=true then A.cells else 0:=by
 unfold AC
 split
 ·rename_i h;exact⟨⟨rfl,rfl,rfl,rfl,rfl,rfl,rfl,rfl,rfl,rfl⟩,rfl,h,rfl⟩
 split
 ·exact⟨⟨rfl,rfl,rfl,rfl,rfl,rfl,rfl,rfl,rfl,rfl⟩,rfl,rfl,rfl⟩
 ·obtain⟨k1,k2,k3,k4⟩:=Jg c {A with frm:=at_,within:=true,cells:=0} 2
  exact⟨EE.trans (B:={A with frm:=at_,within:=true,cells:=0}) ⟨rfl,rfl,rfl,rfl,rfl,rfl,rfl,rfl,rfl,rfl⟩ k1,k2,k3,k4⟩
theorem BE (c:SC) (A:RA) (at_:Int):EE A (AD c A at_)/\(AD c A at_).frm=at_/\(AD c A at_).within=true/\(AD c A at_).cells=if A.within=true then A.cells else 0:=by
 obtain⟨h1,h2,h3,h4⟩:=GG c A at_
 have e2:EE (AC c A at_) (BJ (AC c A at_))/\(BJ (AC c A at_)).frm=(AC c A at_).frm/\(BJ (AC c A at_)).within=(AC c A at_).within/\(BJ (AC c A at_)).cells=(AC c A at_).cells:=by
  unfold BJ
  split
  ·obtain⟨k1,k2,k3,k4,_⟩:=CJ (AC c A at_) 10
   exact⟨k1,k2,k3,k4⟩
  ·exact⟨EE.refl _,rfl,rfl,rfl⟩
 obtain⟨k1,k2,k3,k4⟩:=e2
 unfold AD CK
 split
 ·exact⟨h1.trans k1,k2.trans h2,k3.trans h3,k4.trans h4⟩
 ·obtain⟨j1,j2,j3,j4⟩:=Jg c (BJ (AC c A at_)) 3
  exact⟨(h1.trans k1).trans j1,j2.trans (k2.trans h2),j3.trans (k3.trans h3),j4.trans (k4.trans h4)⟩
theorem PK {c:SC} {A B:RA} (h:EE A B):AK c B=AK c A:=by unfold AK;rw[h.rows]
theorem Rx {c:SC} {A:RA} {at_:Int} (hw:A.within=true) (hl:A.late=0):
  (AD c A at_).late=(if 0<A.rows/\A.width<=A.cells then 10 else if AK c A=true then 0 else Eq c 3 A.nodes)/\(AD c A at_).nodes=(if AK c A=true then A.nodes else A.nodes+1):=by
 have h1:AC c A at_={A with frm:=at_}:=if_pos hw
 unfold AD
 rw[h1]
 by_cases h2:0<A.rows/\A.width<=A.cells
 ·have e2:BJ {A with frm:=at_}={A with frm:=at_,late:=10}:=by
   unfold BJ
   rw[if_pos h2]
   exact if_pos hl
  rw[e2,if_pos h2]
  unfold CK
  have hh:AK c {A with frm:=at_,late:=10}=AK c A:=rfl
  rw[hh]
  by_cases h3:AK c A=true
  ·rw[if_pos h3,if_pos h3];exact⟨rfl,rfl⟩
  ·rw[if_neg h3,if_neg h3,Jh (by show(10:Int)≠0;decide)];exact⟨rfl,rfl⟩
 ·have e2:BJ {A with frm:=at_}={A with frm:=at_}:=if_neg h2
  rw[e2,if_neg h2]
  unfold CK
  have hh:AK c {A with frm:=at_}=AK c A:=rfl
  rw[hh]
  by_cases h3:AK c A=true
  ·rw[if_pos h3,if_pos h3,if_pos h3];exact⟨hl,rfl⟩
  ·rw[if_neg h3,if_neg h3,if_neg h3,LG (A:={A with frm:=at_}) hl];exact⟨rfl,rfl⟩
def exE (c:SC) (s:B8) (i:Nat):Nat:=match Bm c.a c.q s i with | .ok e=>e | .error p=>p.1
def AX (c:SC) (s:B8) (e:Nat) (B:RA):RA:=if e<s.length then A3 c s (e+1) (B7 c (s.getD e 0) e B)else AB c (AO c B) s.length
theorem PE_err {a q:Int} {s:B8} {i o:Nat} (h:PE a q s i= .error o):o<s.length/\¬(by_ s o=a∨by_ s o=10∨by_ s o=13)/\by_ s o=q:=by
 have:∀(n i:Nat),s.length-i<=n->PE a q s i= .error o->o<s.length/\¬(by_ s o=a∨by_ s o=10∨by_ s o=13)/\by_ s o=q:=by
  intro n
  induction n with
  | zero=>intro i hn h;rw[HL (by omega)]at h;cases h
  | succ n ih=>
   intro i hn h
   by_cases hl:s.length<=i
   ·rw[HL hl]at h;cases h
   by_cases h1:by_ s i=a∨by_ s i=10∨by_ s i=13
   ·rw[Nt (by omega) h1]at h;cases h
   by_cases h2:by_ s i=q
   ·rw[Nv (by omega) h1 h2]at h;cases h;exact⟨by omega,h1,h2⟩
   ·rw[Nu (by omega) h1 h2]at h;exact ih (i+1) (by omega) h
 exact this _ i (Nat.le_refl _) h
theorem Sd {q:Int} {s:B8} {i e:Nat} (h:QE q s i=some e):i<e/\e<=s.length:=JK _ _ _ (Nat.le_refl _) h
theorem Lb {c:SC} {s:B8} {i:Nat} {A:RA} (hwin:1<=c.win) (hi:i<=s.length) (hw:i<s.length∨A.within=true) (hp:A.ph=0) (he:A.err=0) (hh:A.held=[]):
  i<=exE c s i/\exE c s i<=s.length/\
  (c.win<exE c s i-i->obs (A3 c s i A)= .error ((i:Int),28))/\
  (exE c s i-i<=c.win->
   (∀p d,Bm c.a c.q s i= .error (p,d)->obs (A3 c s i A)=if (AD c A i).late≠0 then .error ((i:Int),(AD c A i).late)else .error ((p:Int),d))/\
   (∀e,Bm c.a c.q s i= .ok e->∃ph,A3 c s i A=AX c s e {AD c A i with held:=slc s i e,ph:=ph})):=by
 obtain⟨hS,hf,hwi,hcl⟩:=BE c A i
 have hE:(AD c A i).err=0:=hS.err.trans he
 have hH:(AD c A i).held=[]:=hS.held.trans hh
 generalize hB:AD c A i=B at*
 by_cases hl:i<s.length
 ·by_cases hq:by_ s i=c.q
  ·--a quoted cell
   have hne:A4 c (s.getD i 0) i A=BO c (s.getD i 0) {B with ph:=2}:=by
    unfold A4
    rw[if_pos hp,Cb,if_pos hq,hB]
   have hst:A3 c s i A=A3 c s (i+1) {B with ph:=2,held:=[s.getD i 0]}:=by
    rw[BD hl he,hne,GR (A:={B with ph:=2}) (by show B.held.length<_;rw[hH];exact hwin)]
    show A3 c s (i+1) {B with ph:=2,held:=B.held++[s.getD i 0]}=_
    rw[hH];rfl
   obtain⟨g1,g2⟩:=Pt (c:=c) (s:=s) _ (i+1) {B with ph:=2,held:=[s.getD i 0]} (Nat.le_refl _) (by omega) rfl hE (by show [s.getD i 0].length<=_;exact hwin)
   rw[<-hst]at g1 g2
   have hl1:({B with ph:=2,held:=[s.getD i 0]}:RA).held.length=1:=rfl
   rw[hl1]at g1 g2
   have hc:Bm c.a c.q s i=match QE c.q s (i+1)with | some e=> .ok e | none=> .error (s.length,4):=by
    unfold Bm
    rw[if_pos ⟨hl,hq⟩];rfl
   unfold exE
   cases hQ:QE c.q s (i+1)with
   | some e=>
    rw[hQ]at hc
    replace hc:Bm c.a c.q s i= .ok e:=hc
    obtain⟨k1,k2,k3⟩:=g1 e hQ
    have hle:=Sd hQ
    rw[hc]
    replace k1:c.win<1+(e-(i+1))->obs (A3 c s i A)= .error (B.frm,28):=k1
    rw[hf]at k1
    refine⟨by show i<=e;omega,hle.2,fun h=>k1 (by have h:c.win<e-i:=h;omega),fun h=>⟨fun p d h2=>(by cases h2),fun e' h2=>?_⟩⟩
    cases h2
    have h:e-i<=c.win:=h
    refine⟨3,?_⟩
    rw[k2 (by omega),Fo (i:=i) (by omega) hle.2]
    unfold AX
    by_cases hel:e<s.length
    ·rw[if_pos hel]
     rw[BD (A:={B with ph:=3,held:=[s.getD i 0]++slc s (i+1) e}) hel hE]
     unfold A4
     rw[if_neg (by show ¬(3:Nat)=0;decide),if_neg (by show ¬(3:Nat)=1;decide),if_neg (by show ¬(3:Nat)=2;decide),if_pos rfl,Cb,if_neg (k3 hel)]
     rfl
    ·rw[if_neg hel]
     rw[FR (A:={B with ph:=3,held:=[s.getD i 0]++slc s (i+1) e}) (by omega) hE]
     unfold Dd
     rw[if_neg (by show ¬((3:Nat)=2∨(3:Nat)=4);decide),if_neg (by show ¬(3:Nat)=0;decide)]
     rfl
   | none=>
    rw[hQ]at hc
    replace hc:Bm c.a c.q s i= .error (s.length,4):=hc
    obtain⟨k1,k2⟩:=g2 hQ
    rw[hc]
    replace k1:c.win<1+(s.length-(i+1))->obs (A3 c s i A)= .error (B.frm,28):=k1
    replace k2:1+(s.length-(i+1))<=c.win->obs (A3 c s i A)=if B.late≠0 then .error (B.frm,B.late)else .error ((s.length:Int),4):=k2
    rw[hf]at k1 k2
    refine⟨by show i<=s.length;omega,Nat.le_refl _,fun h=>k1 (by have h:c.win<s.length-i:=h;omega),fun h=>⟨fun p d h2=>?_,fun e h2=>by cases h2⟩⟩
    cases h2
    exact k2 (by have h:s.length-i<=c.win:=h;omega)
  ·--a plain cell
   have hA1:∀b,A4 c b i {B with ph:=1}=BU c b i {B with ph:=1}:=fun b=>by
    unfold A4
    rw[if_neg (by show ¬(1:Nat)=0;decide),if_pos rfl]
   have hne:A4 c (s.getD i 0) i A=A4 c (s.getD i 0) i {B with ph:=1}:=by
    rw[hA1]
    conv=>lhs;unfold A4
    rw[if_pos hp,Cb,if_neg hq,hB]
   have hst:A3 c s i A=A3 c s i {B with ph:=1}:=by
    rw[BD hl he,hne,<-BD (A:={B with ph:=1}) hl hE]
   obtain⟨j1,j2,j3,j4⟩:=Rf (c:=c) (s:=s) _ i {B with ph:=1} (Nat.le_refl _) (by omega) rfl hE (by show B.held.length<=_;rw[hH];exact Nat.zero_le _)
   rw[<-hst]at j3 j4
   have hl0:({B with ph:=1}:RA).held=[]:=hH
   rw[hl0]at j3 j4
   simp only[List.length_nil,Nat.zero_add,List.nil_append]at j3 j4
   replace j3:_->obs (A3 c s i A)= .error (B.frm,28):=j3
   rw[hf]at j3
   have hc:Bm c.a c.q s i=match PE c.a c.q s i with | .ok e=> .ok e | .error o=> .error (o,3):=by
    unfold Bm
    rw[if_neg fun h=>hq h.2];rfl
   unfold exE
   cases hP:PE c.a c.q s i with
   | ok e=>
    rw[hP]at hc j1 j2 j3 j4
    replace hc:Bm c.a c.q s i= .ok e:=hc
    rw[hc]
    replace j1:i<=e:=j1
    replace j2:e<=s.length:=j2
    obtain⟨_,_,hby,_⟩:=To _ _ _ (Nat.le_refl _) (by omega:i<=s.length) hP
    refine⟨j1,j2,j3,fun h=>⟨fun p d h2=>(by cases h2),fun e' h2=>?_⟩⟩
    cases h2
    refine⟨1,?_⟩
    have j4:=j4 h
    rw[j4]
    show A3 c s e {B with ph:=1,held:=slc s i e}=_
    unfold AX
    by_cases hel:e<s.length
    ·rw[if_pos hel,BD (A:={B with ph:=1,held:=slc s i e}) hel hE]
     have:A4 c (s.getD e 0) e {B with ph:=1,held:=slc s i e}=BU c (s.getD e 0) e {B with ph:=1,held:=slc s i e}:=by
      unfold A4
      rw[if_neg (by show ¬(1:Nat)=0;decide),if_pos rfl]
     rw[this]
     unfold BU
     rw[Cb,if_pos (hby hel)]
    ·rw[if_neg hel,FR (A:={B with ph:=1,held:=slc s i e}) (by omega) hE]
     unfold Dd
     rw[if_neg (by show ¬((1:Nat)=2∨(1:Nat)=4);decide),if_neg (by show ¬(1:Nat)=0;decide)]
   | error o=>
    rw[hP]at hc j1 j2 j3 j4
    replace hc:Bm c.a c.q s i= .error (o,3):=hc
    rw[hc]
    replace j1:i<=o:=j1
    replace j2:o<=s.length:=j2
    refine⟨j1,j2,j3,fun h=>⟨fun p d h2=>?_,fun e' h2=>by cases h2⟩⟩
    cases h2
    have j4:=j4 h
    rw[j4]
    show obs (A3 c s o {B with ph:=1,held:=slc s i o})=_
    obtain⟨ho1,ho2,ho3⟩:=PE_err hP
    rw[BD (A:={B with ph:=1,held:=slc s i o}) ho1 hE]
    have:A4 c (s.getD o 0) o {B with ph:=1,held:=slc s i o}=DR {B with ph:=1,held:=slc s i o} o 3:=by
     unfold A4
     rw[if_neg (by show ¬(1:Nat)=0;decide),if_pos rfl]
     unfold BU
     rw[Cb,if_neg ho2,if_pos ho3]
    rw[this,GT (LX (A:={B with ph:=1,held:=slc s i o}) (e:=3) hE (by decide)),Kx (A:={B with ph:=1,held:=slc s i o}) hE (by decide)]
    show(if B.late≠0 then Except.error (B.frm,B.late)else _)=_
    rw[hf]
 ·--the empty cell at the end
  have hi2:i=s.length:=by omega
  have hwt:A.within=true:=hw.resolve_left hl
  have hc:Bm c.a c.q s i= .ok i:=by
   unfold Bm
   rw[if_neg fun h=>hl h.1,HL (by omega)]
  unfold exE
  rw[hc]
  refine⟨Nat.le_refl _,hi,fun h=>by have h:c.win<i-i:=h;omega,fun h=>⟨fun p d h2=>(by cases h2),fun e h2=>?_⟩⟩
  cases h2
  refine⟨0,?_⟩
  rw[FR (by omega) he]
  unfold AX
  rw[if_neg hl,J1]
  unfold Dd
  rw[if_neg (by rw[hp];decide),if_pos hp,if_pos hwt,<-hi2,hB]
  have:({B with held:=[],ph:=0}:RA)=B:=by
   have h1:B.ph=0:=hS.ph.trans hp
   rw[<-hH,<-h1]
  rw[this]
def GA (c:SC) (s:B8):Nat->Nat->Option Nat
 | 0,_=>none
 | n+1,i=>if s.length<=i then none else if c.win<exE c s i-i then some i
  else if exE c s i<s.length/\by_ s (exE c s i)=c.a then GA c s n (exE c s i+1)
  else if exE c s i<s.length/\by_ s (exE c s i)=10 then GA c s n (exE c s i+1)
  else if exE c s i+1<s.length/\by_ s (exE c s i)=13/\by_ s (exE c s i+1)=10 then GA c s n (exE c s i+2)else none
theorem PN {c:SC} {s:B8} {i:Nat} (hi:i<=s.length):i<=exE c s i/\exE c s i<=s.length:=by
 obtain⟨h1,h2,_⟩:=Lb (c:={c with win:=c.win+1}) (s:=s) (i:=i) (A:={RA.start with within:=true}) (by show 1<=c.win+1;omega) hi (.inr rfl) rfl rfl rfl
 exact⟨h1,h2⟩
theorem Ro {c:SC} {s:B8}:∀(n m i:Nat),s.length<i+n->s.length<i+m->i<=s.length+1->GA c s n i=GA c s m i:=by
 intro n
 induction n with
 | zero=>
  intro m i h1 h2 h3
  cases m with
  | zero=>rfl
  | succ m=>rw[GA,GA,if_pos (by omega)]
 | succ n ih=>
  intro m i h1 h2 h3
  cases m with
  | zero=>rw[GA,GA,if_pos (by omega)]
  | succ m=>
   rw[GA,GA]
   by_cases hl:s.length<=i
   ·rw[if_pos hl,if_pos hl]
   obtain⟨g1,g2⟩:=PN (c:=c) (s:=s) (i:=i) (by omega)
   rw[if_neg hl,if_neg hl,ih m (exE c s i+1) (by omega) (by omega) (by omega)]
   by_cases h13:exE c s i+1<s.length/\by_ s (exE c s i)=13/\by_ s (exE c s i+1)=10
   ·rw[if_pos h13,if_pos h13,ih m (exE c s i+2) (by omega) (by omega) (by omega)]
   ·rw[if_neg h13,if_neg h13]
def CU (c:SC) (s:B8) (i:Nat):Option Nat:=GA c s (s.length+1-i) i
def Lx (c:SC) (s:B8) (e:Nat):Option Nat:=
 if e<s.length/\by_ s e=10 then CU c s (e+1)else if e+1<s.length/\by_ s e=13/\by_ s (e+1)=10 then CU c s (e+2)else none
theorem Id {c:SC} {s:B8} {i:Nat} (h:s.length<=i):CU c s i=none:=by
 unfold CU
 cases hn:s.length+1-i with
 | zero=>rfl
 | succ n=>rw[GA,if_pos h]
theorem D9 {c:SC} {s:B8} {i:Nat} (h:i<s.length):CU c s i=if c.win<exE c s i-i then some i else if exE c s i<s.length/\by_ s (exE c s i)=c.a then CU c s (exE c s i+1)else Lx c s (exE c s i):=by
 obtain⟨g1,g2⟩:=PN (c:=c) (s:=s) (i:=i) (by omega)
 have f:∀j,i<j->j<=s.length+1->GA c s (s.length-i) j=CU c s j:=fun j h1 h2=>Ro _ _ _ (by omega) (by omega) h2
 conv=>lhs;unfold CU
 rw[show s.length+1-i=(s.length-i)+1 by omega,GA,if_neg (by omega),f _ (by omega) (by omega)]
 unfold Lx
 by_cases h1:c.win<exE c s i-i
 ·rw[if_pos h1,if_pos h1]
 rw[if_neg h1,if_neg h1]
 by_cases h2:exE c s i<s.length/\by_ s (exE c s i)=c.a
 ·rw[if_pos h2,if_pos h2]
 rw[if_neg h2,if_neg h2]
 by_cases h3:exE c s i<s.length/\by_ s (exE c s i)=10
 ·rw[if_pos h3,if_pos h3]
 rw[if_neg h3,if_neg h3]
 by_cases h4:exE c s i+1<s.length/\by_ s (exE c s i)=13/\by_ s (exE c s i+1)=10
 ·rw[if_pos h4,if_pos h4,f _ (by omega) (by omega)]
 ·rw[if_neg h4,if_neg h4]
theorem memF_ge {c:SC} {s:B8}:∀(n i:Nat) {m:Nat},GA c s n i=some m->i<=m:=by
 intro n
 induction n with
 | zero=>intro i m h;cases h
 | succ n ih=>
  intro i m h
  rw[GA]at h
  by_cases hl:s.length<=i
  ·rw[if_pos hl]at h;cases h
  obtain⟨g1,g2⟩:=PN (c:=c) (s:=s) (i:=i) (by omega)
  rw[if_neg hl]at h
  by_cases h1:c.win<exE c s i-i
  ·rw[if_pos h1]at h;cases h;exact Nat.le_refl _
  rw[if_neg h1]at h
  by_cases h2:exE c s i<s.length/\by_ s (exE c s i)=c.a
  ·rw[if_pos h2]at h;have:=ih _ h;omega
  rw[if_neg h2]at h
  by_cases h3:exE c s i<s.length/\by_ s (exE c s i)=10
  ·rw[if_pos h3]at h;have:=ih _ h;omega
  rw[if_neg h3]at h
  by_cases h4:exE c s i+1<s.length/\by_ s (exE c s i)=13/\by_ s (exE c s i+1)=10
  ·rw[if_pos h4]at h;have:=ih _ h;omega
  ·rw[if_neg h4]at h;cases h
theorem J8 {c:SC} {s:B8} {i m:Nat} (h:CU c s i=some m):i<=m:=memF_ge _ _ h
theorem MZ {c:SC} {s:B8} {i m:Nat} (h:Lx c s i=some m):i<m:=by
 unfold Lx at h
 split at h
 ·have:=J8 h;omega
 split at h
 ·have:=J8 h;omega
 ·cases h
def Hi (p:Nat×Int) (m:Option Nat):Int×Int:=match m with | none=>((p.1:Int),p.2) | some m=>if m<=p.1 then((m:Int),28)else((p.1:Int),p.2)
theorem In {p:Nat×Int} {m:Option Nat} (h:∀k,m=some k->p.1<k):Hi p m=((p.1:Int),p.2):=by
 unfold Hi
 cases m with
 | none=>rfl
 | some k=>simp only;rw[if_neg (by have:=h k rfl;omega)]
theorem EB {p:Nat×Int} {k:Nat} (h:k<=p.1):Hi p (some k)=((k:Int),28):=by
 unfold Hi;simp only;rw[if_pos h]
def evC (c:SC) (names:List B8) (j:Nat) (t:B8):List Ev:=(if j=0 then [if c.hd then .ms else .ls]else [])++((if c.hd then [Ev.key (names.getD j [])]else [])++[.val (Dj c.ty (Ct c.q t) (txt c.q t))])
def evK (c:SC) (names:List B8):Nat->List Nd->List Ev
 | _,[]=>[]
 | j,k::ks=>evC c names j (Cy k)++evK c names (j+1) ks
theorem OG (c:SC) (names:List B8) (k:Nd):∀(ks:List Nd) (j:Nat),evK c names j (ks++[k])=evK c names j ks++evC c names (j+ks.length) (Cy k)
 | [],j=>by simp[evK]
 | x::r,j=>by
  rw[List.cons_append,evK,evK,OG c names k r (j+1),List.length_cons,List.append_assoc]
  congr 3;omega
structure InR (c:SC) (hdr:Bool) (names0:List B8) (out0:List Ev) (rows width:Nat) (acc:List Nd) (v:Int) (ns:List B8) (A:RA):Prop where
 within:A.within=true
 err:A.err=0
 late:A.late=0
 held:A.held=[]
 rows:A.rows=rows
 width:A.width=width
 cells:A.cells=acc.length
 nodes:A.nodes=v
 names:A.names=if hdr=true then CX c.q acc else names0
 nsr:hdr=true->ns=A.names.reverse
 out:A.out=if hdr=true then out0 else out0++evK c names0 0 acc
theorem HH {c:SC} {s:B8} {e:Nat} {B:RA} (h:(AO c B).err≠0):AX c s e B=AO c B:=by
 unfold AX
 split
 ·unfold B7
  rw[if_pos h,GT h]
 ·unfold AB
  rw[if_pos h]
theorem HG {c:SC} {B:RA} (h:B.late≠0) (he:B.err=0):(AO c B).err=B.late/\(AO c B).off=B.frm:=by
 unfold AO
 rw[if_pos h]
 exact Bc (A:={B with held:=[]}) he h
def PU (c:SC) (s:B8) (e:Nat) (C:RA):RA:=if e<s.length then(if by_ s e=10 then A3 c s (e+1) (AB c C e)else A3 c s (e+1) {C with ph:=4,line:=e})else AB c C s.length
theorem Lf {c:SC} {s:B8} {e:Nat} {B:RA} (h:(AO c B).err=0) (ha:e<s.length->by_ s e≠c.a) (hb:e<s.length->by_ s e=10∨by_ s e=13):AX c s e B=PU c s e (AO c B):=by
 unfold AX PU
 by_cases hl:e<s.length
 ·rw[if_pos hl,if_pos hl]
  unfold B7
  rw[if_neg (by omega),Cb,if_neg (ha hl)]
  by_cases h10:by_ s e=10
  ·rw[if_pos h10,if_pos h10]
  ·rw[if_neg h10,if_neg h10,if_pos ((hb hl).resolve_left h10)]
 ·rw[if_neg hl,if_neg hl]
theorem Qd {c:SC} {s:B8} {e:Nat} {B:RA} (h:(AO c B).err=0) (hl:e<s.length) (ha:by_ s e=c.a):AX c s e B=A3 c s (e+1) {AO c B with ph:=0}:=by
 unfold AX
 rw[if_pos hl]
 unfold B7
 rw[if_neg (by omega),Cb,if_pos ha]
theorem Qe {c:SC} {s:B8} {e:Nat} {B:RA} (h:(AO c B).err=0) (hl:e<s.length) (ha:by_ s e≠c.a) (h1:by_ s e≠10) (h2:by_ s e≠13):obs (AX c s e B)= .error ((e:Int),3):=by
 unfold AX
 rw[if_pos hl]
 unfold B7
 rw[if_neg (by omega),Cb,if_neg ha,if_neg h1,if_neg h2,GT (by rw[(Bc h (by decide)).1];decide)]
 exact Ia h (by decide)
theorem GQ {c:SC} {s:B8} {e:Nat} (h:¬(e<s.length/\by_ s e=10)) (h2:¬(e+1<s.length/\by_ s e=13/\by_ s (e+1)=10)):Lx c s e=none:=by
 unfold Lx
 rw[if_neg h,if_neg h2]
section
def cxA (c:SC) (s:B8):Cx:=⟨s,c.a,c.q,c.dep,c.nod⟩
theorem OY {c:SC} {d:Int} {i:Nat} {v:Int}:FA c.dep c.nod d i v=if Eq c d v≠0 then .error (i,Eq c d v)else .ok (v+1):=by
 unfold FA Eq
 by_cases h1:c.dep<d
 ·rw[if_pos h1,if_pos h1];rfl
 ·rw[if_neg h1,if_neg h1]
  by_cases h2:c.nod<=v
  ·rw[if_pos h2,if_pos h2];rfl
  ·rw[if_neg h2,if_neg h2];rfl
theorem limA_ne {c:SC} {d v:Int} (h:Eq c d v≠0):Eq c d v=9∨Eq c d v=10:=by
 unfold Eq at h⊢
 by_cases h1:c.dep<d
 ·rw[if_pos h1];exact .inl rfl
 ·rw[if_neg h1]at h⊢
  by_cases h2:c.nod<=v
  ·rw[if_pos h2];exact .inr rfl
  ·rw[if_neg h2]at h;exact absurd rfl h
theorem Oj (q:Int) (ks:List Nd) (k:Nd):CX q (ks++[k])=CX q ks++[txt q (Cy k)]:=by unfold CX;rw[List.map_append];rfl
section
variable {c:SC} {s:B8} {hdr:Bool} {names0:List B8} {out0:List Ev} {rows width:Nat}
theorem InR.head {acc:List Nd} {v:Int} {ns:List B8} {A:RA} (h:InR c hdr names0 out0 rows width acc v ns A) (hh:hdr=(c.hd&&decide (rows=0))):AK c A=hdr:=by
 unfold AK;rw[h.rows,hh]
def DB (c:SC) (hdr:Bool) (names:List B8) (t:B8):Int:=if hdr=true then(if 1024<t.length then 10 else if t∈names then 8 else 0)else if 65536<t.length then 10 else 0
theorem Mo {A:RA} {i e ph:Nat} (he:A.err=0) (hl:A.late=0) (hT:DB c (AK c A) A.names (txt c.q A.held)≠0):(AO c A).err=DB c (AK c A) A.names (txt c.q A.held)/\(AO c A).off=A.frm:=by
 unfold DB at hT⊢
 unfold AO
 rw[if_neg (by omega)]
 by_cases hh:AK c A=true
 ·rw[if_pos hh]at hT⊢
  rw[if_pos hh]
  by_cases h1:1024<(txt c.q A.held).length
  ·rw[if_pos h1,if_pos h1]
   exact Bc (A:={A with held:=[]}) he (by decide)
  ·rw[if_neg h1]at hT⊢
   rw[if_neg h1]
   by_cases h2:txt c.q A.held∈A.names
   ·rw[if_pos h2,if_pos h2]
    exact Bc (A:={A with held:=[]}) he (by decide)
   ·rw[if_neg h2]at hT;exact absurd rfl hT
 ·rw[if_neg hh]at hT⊢
  rw[if_neg hh]
  by_cases h1:65536<(txt c.q A.held).length
  ·rw[if_pos h1,if_pos h1]
   exact Bc (A:={A with held:=[]}) he (by decide)
  ·rw[if_neg h1]at hT;exact absurd rfl hT
theorem Le {A:RA} (he:A.err=0) (hl:A.late=0) (hT:DB c (AK c A) A.names (txt c.q A.held)=0):
  AO c A=if AK c A=true then {A with held:=[],names:=A.names++[txt c.q A.held],cells:=A.cells+1} else {A with held:=[],cells:=A.cells+1,out:=A.out++evC c A.names A.cells A.held}:=by
 unfold DB at hT
 unfold AO
 rw[if_neg (by omega)]
 by_cases hh:AK c A=true
 ·rw[if_pos hh]at hT
  rw[if_pos hh,if_pos hh]
  by_cases h1:1024<(txt c.q A.held).length
  ·rw[if_pos h1]at hT;cases hT
  ·rw[if_neg h1]at hT⊢
   by_cases h2:txt c.q A.held∈A.names
   ·rw[if_pos h2]at hT;cases hT
   ·rw[if_neg h2]
 ·rw[if_neg hh]at hT
  rw[if_neg hh,if_neg hh]
  by_cases h1:65536<(txt c.q A.held).length
  ·rw[if_pos h1]at hT;cases hT
  ·rw[if_neg h1];rfl
theorem PT {i:Nat} {v:Int} {ns:List B8} {names:List B8} (hn:hdr=true->ns=names.reverse):
  Et (cxA c s) hdr i v ns=if hdr=false/\Eq c 3 v≠0 then .error (i,Eq c 3 v)else match Bm c.a c.q s i with
   | .error p=> .error p
   | .ok e=>if DB c hdr names (txt c.q (slc s i e))≠0 then .error (i,DB c hdr names (txt c.q (slc s i e)))else .ok (e,if hdr=true then v else v+1,if hdr=true then txt c.q (slc s i e)::ns else ns):=by
 rw[entE_eq]
 have hR:∀v1,PS (cxA c s) hdr i v1 ns=match Bm c.a c.q s i with
   | .error p=> .error p
   | .ok e=>if DB c hdr names (txt c.q (slc s i e))≠0 then .error (i,DB c hdr names (txt c.q (slc s i e)))else .ok (e,v1,if hdr=true then txt c.q (slc s i e)::ns else ns):=by
  intro v1
  unfold PS
  show(match Bm c.a c.q s i with | .error e=>Except.error e | .ok e=>_)=_
  cases hc:Bm c.a c.q s i with
  | error p=>rfl
  | ok e=>
   simp only
   show(if (if hdr=true then 1024 else 65536)<(txt c.q (slc s i e)).length then Except.error (i,(10:Int))else if hdr=true/\txt c.q (slc s i e)∈ns then .error (i,8)else .ok (e,v1,if hdr=true then txt c.q (slc s i e)::ns else ns))=_
   unfold DB
   cases hdr with
   | true=>
    rw[hn rfl]
    simp only[if_true,true_and,List.mem_reverse]
    by_cases h1:1024<(txt c.q (slc s i e)).length
    ·rw[if_pos h1,if_pos h1,if_pos (by decide)]
    ·rw[if_neg h1,if_neg h1]
     by_cases h2:txt c.q (slc s i e)∈names
     ·rw[if_pos h2,if_pos h2,if_pos (by decide)]
     ·rw[if_neg h2,if_neg h2,if_neg (by decide)]
   | false=>
    simp only[Bool.false_eq_true,if_false,false_and]
    by_cases h1:65536<(txt c.q (slc s i e)).length
    ·rw[if_pos h1,if_pos h1,if_pos (by decide)]
    ·rw[if_neg h1,if_neg h1,if_neg (by decide)]
 cases hdr with
 | true=>rw[if_pos rfl,hR,if_neg (fun h=>by cases h.1)];rfl
 | false=>
  rw[if_neg (by decide)]
  show(match FA c.dep c.nod 3 i v with | .error e=>Except.error e | .ok v1=>PS (cxA c s) false i v1 ns)=_
  rw[OY]
  by_cases hl:Eq c 3 v≠0
  ·rw[if_pos hl,if_pos ⟨rfl,hl⟩]
  ·rw[if_neg hl,if_neg fun h=>hl h.2]
   show PS (cxA c s) false i (v+1) ns=_
   rw[hR];rfl
theorem rec_run (hwin:1<=c.win) (hac:c.a≠10/\c.a≠13) (hh:hdr=(c.hd&&decide (rows=0))):∀(n:Nat) (acc:List Nd) (i:Nat) (A:RA) (v:Int) (ns:List B8),
  i<=s.length->s.length<i+n->A.ph=0->InR c hdr names0 out0 rows width acc v ns A->
  (∀p d,BS (cxA c s) (decide (0<rows)) (width:Int) hdr n acc i v ns= .error (p,d)->i<=p/\obs (A3 c s i A)= .error (Hi (p,d) (CU c s i)))/\
  (∀e v' ns' ks,BS (cxA c s) (decide (0<rows)) (width:Int) hdr n acc i v ns= .ok (e,v',ns',ks)->i<=e/\e<=s.length/\acc.length<ks.length/\
   ((∃m,CU c s i=some m/\m<=e/\obs (A3 c s i A)= .error ((m:Int),28))∨
    (CU c s i=Lx c s e/\∃C,A3 c s i A=PU c s e C/\InR c hdr names0 out0 rows width ks v' ns' C))):=by
 intro n
 induction n with
 | zero=>intro acc i A v ns h1 h2;omega
 | succ n ih=>
  intro acc i A v ns hi hn hp hI
  have hH:=hI.head hh
  obtain⟨hS,hf,hwi,hcl⟩:=BE c A i
  obtain⟨hlate,hnodes⟩:=Rx (c:=c) (at_:=(i:Int)) hI.within hI.late
  rw[hH,hI.rows,hI.width,hI.cells,hI.nodes]at hlate
  rw[hH,hI.nodes]at hnodes
  rw[if_pos hI.within,hI.cells]at hcl
  obtain⟨x1,x2,x3,x4⟩:=Lb hwin hi (.inr hI.within) hp hI.err hI.held
  have hEh:AK c (AD c A i)=hdr:=(PK hS).trans hH
  have hEn:(AD c A i).names=A.names:=hS.names
  have hEe:(AD c A i).err=0:=hS.err.trans hI.err
  generalize hB:AD c A i=B at*
  rw[Q6]
  --the window
  have hM:∀P:Int×Int,c.win<exE c s i-i->CU c s i=some i:=fun _ h=>by
   rw[D9 (by omega),if_pos h]
  have hM2:¬c.win<exE c s i-i->∀k,CU c s i=some k->exE c s i<k:=fun h k hk=>by
   by_cases hl:i<s.length
   ·rw[D9 hl,if_neg h]at hk
    split at hk
    ·have:=J8 hk;omega
    ·exact MZ hk
   ·rw[Id (by omega)]at hk;cases hk
  --an error at the cell itself
  have here:∀d,d≠28->(exE c s i-i<=c.win->obs (A3 c s i A)= .error ((i:Int),d))->obs (A3 c s i A)= .error (Hi (i,d) (CU c s i)):=fun d _ hg=>by
   by_cases hw:c.win<exE c s i-i
   ·rw[hM (0,0) hw,EB (p:=(i,d)) (Nat.le_refl _)];exact x3 hw
   ·rw[In (p:=(i,d)) fun k hk=>by have:=hM2 hw k hk;show i<k;omega]
    exact hg (by omega)
  have late_obs:B.late≠0->exE c s i-i<=c.win->obs (A3 c s i A)= .error ((i:Int),B.late):=fun hl hw=>by
   obtain⟨y1,y2⟩:=x4 hw
   cases hc:Bm c.a c.q s i with
   | error p=>rw[y1 p.1 p.2 hc,if_pos hl]
   | ok e=>
    obtain⟨ph,hy⟩:=y2 e hc
    obtain⟨z1,z2⟩:=HG (c:=c) (B:={B with held:=slc s i e,ph:=ph}) hl hEe
    rw[hy,HH (by rw[z1];exact hl),GP (by rw[z1];exact hl),z1,z2]
    show Except.error (B.frm,B.late)=_
    rw[hf]
  by_cases hnum:decide (0<rows)=true/\(width:Int)<=(acc.length:Int)
  ·have hL:B.late=10:=by
    rw[hlate,if_pos ⟨by simpa using hnum.1,by omega⟩]
   rw[if_pos hnum]
   refine⟨fun p d h=>?_,fun e v' ns' ks h=>by cases h⟩
   cases h
   exact⟨Nat.le_refl _,here 10 (by decide) fun hw=>by rw[late_obs (by rw[hL];decide) hw,hL]⟩
  rw[if_neg hnum]
  have hlate':B.late=if hdr=true then 0 else Eq c 3 v:=by
   rw[hlate,if_neg fun h=>hnum ⟨by simpa using h.1,by omega⟩]
  rw[PT (names:=A.names) hI.nsr]
  by_cases hlim:hdr=false/\Eq c 3 v≠0
  ·have hL:B.late=Eq c 3 v:=by rw[hlate',if_neg (by rw[hlim.1];decide)]
   rw[if_pos hlim]
   refine⟨fun p d h=>?_,fun e v' ns' ks h=>by cases h⟩
   cases h
   refine⟨Nat.le_refl _,here _ (by rcases limA_ne hlim.2 with h | h<;>rw[h]<;>decide) fun hw=>by rw[late_obs (by rw[hL];exact hlim.2) hw,hL]⟩
  rw[if_neg hlim]
  have hL0:B.late=0:=by
   rw[hlate']
   cases hdr with
   | true=>rfl
   | false=>exact Decidable.not_not.1 fun h=>hlim ⟨rfl,h⟩
  cases hc:Bm c.a c.q s i with
  | error p=>
   obtain⟨p,d⟩:=p
   have hex:exE c s i=p:=by unfold exE;rw[hc]
   refine⟨fun p' d' h=>?_,fun e v' ns' ks h=>by cases h⟩
   cases h
   refine⟨by omega,?_⟩
   by_cases hw:c.win<exE c s i-i
   ·rw[hM (0,0) hw,EB (p:=(p,d)) (by show i<=p;omega)];exact x3 hw
   ·have:=(x4 (by omega)).1 p d hc
    rw[this,if_neg (by omega)]
    rw[In (p:=(p,d)) fun k hk=>by have:=hM2 hw k hk;show p<k;omega]
  | ok e=>
   have hex:exE c s i=e:=by unfold exE;rw[hc]
   have hle:=DC hi hc
   simp only
   by_cases hT:DB c hdr A.names (txt c.q (slc s i e))≠0
   ·rw[if_pos hT]
    refine⟨fun p d h=>?_,fun e v' ns' ks h=>by cases h⟩
    cases h
    refine⟨Nat.le_refl _,here _ (fun h28=>?_) fun hw=>?_⟩
    ·unfold DB at h28
     repeat' split at h28
     all_goals revert h28;decide
    ·obtain⟨ph,hy⟩:=(x4 hw).2 e hc
     have hT2:DB c (AK c {B with held:=slc s i e,ph:=ph}) ({B with held:=slc s i e,ph:=ph}:RA).names (txt c.q ({B with held:=slc s i e,ph:=ph}:RA).held)=DB c hdr A.names (txt c.q (slc s i e)):=by
      show DB c (AK c B) B.names _=_
      rw[hEh,hEn]
     obtain⟨z1,z2⟩:=Mo (c:=c) (A:={B with held:=slc s i e,ph:=ph}) (i:=0) (e:=0) (ph:=0) hEe hL0 (by rw[hT2];exact hT)
     rw[hT2]at z1
     rw[hy,HH (by rw[z1];exact hT),GP (by rw[z1];exact hT),z1,z2]
     show Except.error (B.frm,_)=_
     rw[hf]
   rw[if_neg hT]
   have hT:=Decidable.not_not.1 hT
   simp only
   --the state AX the cell
   have hC:∀ph,∃C,AO c {B with held:=slc s i e,ph:=ph}=C/\InR c hdr names0 out0 rows width (acc++[Ik (cxA c s) i e]) (if hdr=true then v else v+1) (if hdr=true then txt c.q (slc s i e)::ns else ns) C/\∀k,InR c hdr names0 out0 rows width (acc++[Ik (cxA c s) i e]) (if hdr=true then v else v+1) (if hdr=true then txt c.q (slc s i e)::ns else ns) {C with ph:=k}:=by
    intro ph
    have hg:=Le (c:=c) (A:={B with held:=slc s i e,ph:=ph}) hEe hL0 (by show DB c (AK c B) B.names (txt c.q (slc s i e))=0;rw[hEh,hEn];exact hT)
    have hg:AO c {B with held:=slc s i e,ph:=ph}=if AK c B=true then {B with ph:=ph,held:=[],names:=B.names++[txt c.q (slc s i e)],cells:=B.cells+1} else {B with ph:=ph,held:=[],cells:=B.cells+1,out:=B.out++evC c B.names B.cells (slc s i e)}:=hg
    rw[hEh]at hg
    have hent:Cy (Ik (cxA c s) i e)=slc s i e:=rfl
    have hall:∀k,InR c hdr names0 out0 rows width (acc++[Ik (cxA c s) i e]) (if hdr=true then v else v+1) (if hdr=true then txt c.q (slc s i e)::ns else ns) {AO c {B with held:=slc s i e,ph:=ph} with ph:=k}:=by
     intro k
     rw[hg]
     cases hdr with
     | true=>
      rw[if_pos rfl]
      refine⟨hwi,hEe,hL0,rfl,hS.rows.trans hI.rows,hS.width.trans hI.width,?_,hnodes,?_,fun _=>?_,?_⟩
      ·show B.cells+1=_
       rw[hcl,List.length_append];rfl
      ·show B.names++_=_
       rw[hEn,hI.names,if_pos rfl,if_pos rfl,Oj,hent]
      ·show(if true=true then txt c.q (slc s i e)::ns else ns)=(B.names++[txt c.q (slc s i e)]).reverse
       rw[if_pos rfl,hEn,hI.nsr rfl,List.reverse_append];rfl
      ·show B.out=_
       rw[hS.out,hI.out];rfl
     | false=>
      rw[if_neg (by decide)]
      refine⟨hwi,hEe,hL0,rfl,hS.rows.trans hI.rows,hS.width.trans hI.width,?_,hnodes,?_,fun h=>(by cases h),?_⟩
      ·show B.cells+1=_
       rw[hcl,List.length_append];rfl
      ·show B.names=_
       rw[hEn,hI.names];rfl
      ·show B.out++evC c B.names B.cells (slc s i e)=_
       rw[hS.out,hI.out,hEn,hI.names,if_neg (by decide),if_neg (by decide),if_neg (by decide),OG,hcl,hent,Nat.zero_add,List.append_assoc]
    refine⟨_,rfl,?_,hall⟩
    have:=hall (AO c {B with held:=slc s i e,ph:=ph}).ph
    exact this
   show(∀p d,(if e<s.length/\by_ s e=c.a then BS (cxA c s) (decide (0<rows)) (width:Int) hdr n (acc++[Ik (cxA c s) i e]) (e+1) (if hdr=true then v else v+1) (if hdr=true then txt c.q (slc s i e)::ns else ns)else match CE s e with
     | .error e=> .error e
     | .ok _=> .ok (e,if hdr=true then v else v+1,if hdr=true then txt c.q (slc s i e)::ns else ns,acc++[Ik (cxA c s) i e]))= .error (p,d)->_)/\(∀e' v' ns' ks,(if e<s.length/\by_ s e=c.a then BS (cxA c s) (decide (0<rows)) (width:Int) hdr n (acc++[Ik (cxA c s) i e]) (e+1) (if hdr=true then v else v+1) (if hdr=true then txt c.q (slc s i e)::ns else ns)else match CE s e with
     | .error e=> .error e
     | .ok _=> .ok (e,if hdr=true then v else v+1,if hdr=true then txt c.q (slc s i e)::ns else ns,acc++[Ik (cxA c s) i e]))= .ok (e',v',ns',ks)->_)
   have hfit:¬c.win<exE c s i-i->∃ph,A3 c s i A=AX c s e {B with held:=slc s i e,ph:=ph}:=fun hw=>(x4 (by omega)).2 e hc
   by_cases hsep:e<s.length/\by_ s e=c.a
   ·rw[if_pos hsep]
    obtain⟨C0,_,_,hk0⟩:=hC 0
    obtain⟨r1,r2⟩:=ih (acc++[Ik (cxA c s) i e]) (e+1) {C0 with ph:=0} _ _ (by omega) (by omega) rfl (hk0 0)
    by_cases hw:c.win<exE c s i-i
    ·refine⟨fun p d h=>?_,fun e' v' ns' ks h=>?_⟩
     ·have:=(r1 p d h).1
      refine⟨by omega,?_⟩
      rw[hM (0,0) hw,EB (p:=(p,d)) (by show i<=p;omega)];exact x3 hw
     ·obtain⟨g1,g2,g3,_⟩:=r2 e' v' ns' ks h
      rw[List.length_append]at g3
      exact⟨by omega,g2,by omega,.inl ⟨i,hM (0,0) hw,by omega,x3 hw⟩⟩
    ·obtain⟨ph,hy⟩:=hfit hw
     obtain⟨C,hC1,hC2,hk⟩:=hC ph
     have hsp:=Qd (c:=c) (B:={B with held:=slc s i e,ph:=ph}) (by rw[hC1];exact hC2.err) hsep.1 hsep.2
     rw[hC1]at hsp
     have hmem:CU c s i=CU c s (e+1):=by rw[D9 (by omega),if_neg hw,hex,if_pos hsep]
     obtain⟨r1,r2⟩:=ih (acc++[Ik (cxA c s) i e]) (e+1) {C with ph:=0} _ _ (by omega) (by omega) rfl (hk 0)
     rw[<-hsp,<-hy]at r1 r2
     rw[hmem]
     refine⟨fun p d h=>?_,fun e' v' ns' ks h=>?_⟩
     ·obtain⟨g1,g2⟩:=r1 p d h
      exact⟨by omega,g2⟩
     ·obtain⟨g1,g2,g3,g4⟩:=r2 e' v' ns' ks h
      rw[List.length_append]at g3
      exact⟨by omega,g2,by omega,g4⟩
   ·rw[if_neg hsep]
    have hmem:¬c.win<exE c s i-i->CU c s i=Lx c s e:=fun hw=>by
     by_cases hl:i<s.length
     ·rw[D9 hl,if_neg hw,hex,if_neg hsep]
     ·rw[Id (by omega)]
      exact(GQ (fun h=>by omega) fun h=>by omega).symm
    cases hln:CE s e with
    | error pd=>
     obtain⟨p,d⟩:=pd
     refine⟨fun p' d' h=>?_,fun e' v' ns' ks h=>by cases h⟩
     cases h
     have hpd:=Rq hln
     have hpe:i<=p:=by rcases hpd with h | h<;>omega
     refine⟨hpe,?_⟩
     by_cases hw:c.win<exE c s i-i
     ·rw[hM (0,0) hw,EB (p:=(p,d)) hpe];exact x3 hw
     ·obtain⟨ph,hy⟩:=hfit hw
      obtain⟨C,hC1,hC2,_⟩:=hC ph
      have hCe:(AO c {B with held:=slc s i e,ph:=ph}).err=0:=by rw[hC1];exact hC2.err
      unfold CE at hln
      by_cases hl:s.length<=e
      ·rw[if_pos hl]at hln;cases hln
      rw[if_neg hl]at hln
      have hna:by_ s e≠c.a:=fun h=>hsep ⟨by omega,h⟩
      by_cases h10:by_ s e=10
      ·rw[if_pos h10]at hln;cases hln
      rw[if_neg h10]at hln
      by_cases h13:by_ s e≠13
      ·rw[if_pos h13]at hln
       cases hln
       rw[hy,Qe hCe (by omega) hna h10 h13,hmem hw,GQ (fun h=>h10 h.2) (fun h=>h13 h.2.1)];rfl
      ·rw[if_neg h13]at hln
       have h13:=Decidable.not_not.1 h13
       have hend:A3 c s i A=A3 c s (e+1) {C with ph:=4,line:=e}:=by
        rw[hy,Lf hCe (fun _=>hna) (fun _=> .inr h13),hC1]
        unfold PU
        rw[if_pos (by omega),if_neg h10]
       by_cases hlast:s.length<=e+1
       ·rw[if_pos hlast]at hln
        cases hln
        rw[hend,FR hlast (by exact hC2.err),hmem hw,GQ (fun h=>h10 h.2) (fun h=>by omega)]
        have hl4:Dd c s.length {C with ph:=4,line:=e}=DR {C with ph:=4,line:=e} s.length 4:=by
         unfold Dd
         rw[if_pos (.inr rfl)]
        rw[hl4,Kx (A:={C with ph:=4,line:=e}) hC2.err (by decide),if_neg (fun h=>h hC2.late)];rfl
       ·rw[if_neg hlast]at hln
        by_cases h10':by_ s (e+1)=10
        ·rw[if_pos h10']at hln;cases hln
        rw[if_neg h10']at hln
        cases hln
        have hnx:A4 c (s.getD (e+1) 0) ((e+1:Nat):Int) {C with ph:=4,line:=e}=AZ {C with ph:=4,line:=e} e 3:=by
         unfold A4
         rw[if_neg (by show ¬(4:Nat)=0;decide),if_neg (by show ¬(4:Nat)=1;decide),if_neg (by show ¬(4:Nat)=2;decide),if_neg (by show ¬(4:Nat)=3;decide),Cb,if_pos h10']
        rw[hend,BD (A:={C with ph:=4,line:=e}) (by omega) hC2.err,hnx,GT (by rw[(Bc (A:={C with ph:=4,line:=e}) hC2.err (by decide)).1];decide),Ia (A:={C with ph:=4,line:=e}) hC2.err (by decide),hmem hw,GQ (fun h=>h10 h.2) (fun h=>h10' h.2.2)];rfl
    | ok m=>
     refine⟨fun p d h=>(by cases h),fun e' v' ns' ks h=>?_⟩
     cases h
     refine⟨hle.1,hle.2,by rw[List.length_append];simp,?_⟩
     by_cases hw:c.win<exE c s i-i
     ·exact .inl ⟨i,hM (0,0) hw,hle.1,x3 hw⟩
     ·obtain⟨ph,hy⟩:=hfit hw
      obtain⟨C,hC1,hC2,_⟩:=hC ph
      have hCe:(AO c {B with held:=slc s i e,ph:=ph}).err=0:=by rw[hC1];exact hC2.err
      obtain⟨_,_,_,hby⟩:=GB hle.2 hln
      exact .inr ⟨hmem hw,C,by rw[hy,Lf hCe (fun hl h=>hsep ⟨hl,h⟩) hby,hC1],hC2⟩
end
end
def B3 (c:SC) (acc:List Nd):List B8:=if c.hd=true then(match acc.head? with | some r=>CX c.q (A2 r) | none=>[])else []
def evD (c:SC) (acc:List Nd):List Ev:=(if c.hd=true then acc.tail else acc).flatMap fun r=>evK c (B3 c acc) 0 (A2 r)++[if c.hd then .me else .le]
structure InD (c:SC) (acc:List Nd) (v:Int) (ns:List B8) (wid:Int) (A:RA):Prop where
 ph:A.ph=0
 within:A.within=false
 err:A.err=0
 late:A.late=0
 held:A.held=[]
 rows:A.rows=acc.length
 width:(A.width:Int)=wid
 nodes:A.nodes=v
 names:A.names=B3 c acc
 nsr:acc=[]->ns=[]
 out:A.out=evD c acc
theorem InD.start (c:SC):InD c [] 1 [] 0 RA.start:=⟨rfl,rfl,rfl,rfl,rfl,rfl,rfl,rfl,by unfold B3;split<;>rfl,fun _=>rfl,by unfold evD;split<;>rfl⟩
theorem Sy {c:SC} {s:B8} {i:Nat} {A:RA} (hwin:1<=c.win) (hi:i<s.length) (hp:A.ph=0) (he:A.err=0) (hh:A.held=[]) (hl:(AD c A i).late≠0):
  obs (A3 c s i A)= .error (Hi (i,(AD c A i).late) (CU c s i)):=by
 obtain⟨x1,x2,x3,x4⟩:=Lb hwin (Nat.le_of_lt hi) (.inl hi) hp he hh
 obtain⟨hS,hf,_,_⟩:=BE c A i
 have hEe:(AD c A i).err=0:=hS.err.trans he
 generalize hB:AD c A i=B at*
 by_cases hw:c.win<exE c s i-i
 ·rw[D9 hi,if_pos hw,EB (p:=(i,B.late)) (Nat.le_refl _)];exact x3 hw
 ·have hM2:∀k,CU c s i=some k->i<k:=fun k hk=>by
   rw[D9 hi,if_neg hw]at hk
   split at hk
   ·have:=J8 hk;omega
   ·have:=MZ hk;omega
  rw[In (p:=(i,B.late)) hM2]
  obtain⟨y1,y2⟩:=x4 (by omega)
  cases hc:Bm c.a c.q s i with
  | error p=>rw[y1 p.1 p.2 hc,if_pos hl]
  | ok e=>
   obtain⟨ph,hy⟩:=y2 e hc
   obtain⟨z1,z2⟩:=HG (c:=c) (B:={B with held:=slc s i e,ph:=ph}) hl hEe
   rw[hy,HH (by rw[z1];exact hl),GP (by rw[z1];exact hl),z1,z2]
   show Except.error (B.frm,B.late)=_
   rw[hf]
theorem OJ {c:SC} {A:RA} {at_:Int} (h:(AC c A at_).late≠0):(AD c A at_).late=(AC c A at_).late:=by
 unfold AD BJ
 rw[Hl h,ite_self]
 unfold CK
 split
 ·rfl
 ·rw[Jh h]
theorem Ps {c:SC} {hdr:Bool} {names0:List B8} {out0:List Ev} {rows width:Nat} {ks:List Nd} {v:Int} {ns:List B8} {C:RA} {at_:Int} (h:InR c hdr names0 out0 rows width ks v ns C) (hh:hdr=(c.hd&&decide (rows=0)))
  (hw:¬ks.length<(if rows=0 then ks.length else width)):(AB c C at_).ph=0/\(AB c C at_).within=false/\(AB c C at_).err=0/\(AB c C at_).late=0/\(AB c C at_).held=[]/\(AB c C at_).rows=rows+1/\(AB c C at_).width=(if rows=0 then ks.length else width)/\(AB c C at_).nodes=v/\(AB c C at_).names=C.names/\(AB c C at_).out=C.out++(if hdr=true then []else [if c.hd then .me else .le]):=by
 have e0:AB c C at_=BR c (BL C) at_:=by unfold AB;rw[if_neg (by rw[h.err];decide)]
 rw[e0]
 have hr:=h.rows
 have hwd:=h.width
 have hcl:=h.cells
 by_cases h0:rows=0
 ·have e1:BL C={C with width:=C.cells,told:=true}:=by unfold BL;rw[if_pos (by omega)]
  have hd:AK c {C with width:=C.cells,told:=true}=hdr:=by
   have:AK c {C with width:=C.cells,told:=true}=AK c C:=rfl
   rw[this];exact h.head hh
  rw[e1,if_pos h0]
  unfold BR
  rw[if_neg (by show ¬C.cells<C.cells;omega),hd]
  exact⟨rfl,rfl,h.err,h.late,h.held,by show C.rows+1=_;omega,hcl,h.nodes,rfl,rfl⟩
 ·have e1:BL C=C:=by unfold BL;rw[if_neg (by omega)]
  rw[if_neg h0]at hw
  rw[e1,if_neg h0]
  unfold BR
  rw[if_neg (by omega),h.head hh]
  exact⟨rfl,rfl,h.err,h.late,h.held,by show C.rows+1=_;omega,hwd,h.nodes,rfl,rfl⟩
theorem Oa {c:SC} {hdr:Bool} {names0:List B8} {out0:List Ev} {rows width:Nat} {ks:List Nd} {v:Int} {ns:List B8} {C:RA} {at_:Int} (h:InR c hdr names0 out0 rows width ks v ns C)
  (hw:ks.length<(if rows=0 then ks.length else width)):(AB c C at_).err=10/\(AB c C at_).off=at_:=by
 have h0:rows≠0:=fun h0=>by rw[if_pos h0]at hw;omega
 rw[if_neg h0]at hw
 have hr:=h.rows
 have hwd:=h.width
 have hcl:=h.cells
 have e1:BL C=C:=by unfold BL;rw[if_neg (by omega)]
 have e0:AB c C at_=BR c (BL C) at_:=by unfold AB;rw[if_neg (by rw[h.err];decide)]
 rw[e0,e1]
 unfold BR
 rw[if_pos (by omega)]
 exact Bc h.err (by decide)
theorem InR.move {c:SC} {hdr:Bool} {names0:List B8} {out0:List Ev} {rows width:Nat} {ks:List Nd} {v:Int} {ns:List B8} {C:RA} (h:InR c hdr names0 out0 rows width ks v ns C) (p:Nat) (l:Int):InR c hdr names0 out0 rows width ks v ns {C with ph:=p,line:=l}:=
 ⟨h.within,h.err,h.late,h.held,h.rows,h.width,h.cells,h.nodes,h.names,h.nsr,h.out⟩
theorem QF {c:SC} {s:B8} {e m:Nat} {hdr:Bool} {names0:List B8} {out0:List Ev} {rows width:Nat} {ks:List Nd} {v:Int} {ns:List B8} {C:RA} (hE:e<=s.length) (h:InR c hdr names0 out0 rows width ks v ns C) (hln:CE s e= .ok m):
  Lx c s e=CU c s (e+m)/\∃C',InR c hdr names0 out0 rows width ks v ns C'/\(PU c s e C=A3 c s (e+m) (AB c C' e)∨(e+m=s.length/\PU c s e C=AB c C' e)):=by
 unfold CE at hln
 unfold PU Lx
 by_cases hl:s.length<=e
 ·rw[if_pos hl]at hln
  cases hln
  rw[if_neg (by omega),if_neg (by omega),if_neg (by omega)]
  exact⟨(Id (by omega)).symm,C,h,.inr ⟨by omega,by rw[show e=s.length by omega]⟩⟩
 rw[if_neg hl]at hln
 by_cases h10:by_ s e=10
 ·rw[if_pos h10]at hln
  cases hln
  rw[if_pos ⟨by omega,h10⟩,if_pos (by omega),if_pos h10]
  exact⟨rfl,C,h,.inl rfl⟩
 rw[if_neg h10]at hln
 by_cases h13:by_ s e≠13
 ·rw[if_pos h13]at hln;cases hln
 rw[if_neg h13]at hln
 have h13:=Decidable.not_not.1 h13
 by_cases hlast:s.length<=e+1
 ·rw[if_pos hlast]at hln;cases hln
 rw[if_neg hlast]at hln
 by_cases h10':by_ s (e+1)=10
 ·rw[if_pos h10']at hln
  cases hln
  rw[if_neg (fun h=>h10 h.2),if_pos ⟨by omega,h13,h10'⟩,if_pos (by omega),if_neg h10]
  refine⟨rfl,{C with ph:=4,line:=e},h.move 4 e,.inl ?_⟩
  rw[BD (A:={C with ph:=4,line:=e}) (by omega) h.err]
  unfold A4
  rw[if_neg (by show ¬(4:Nat)=0;decide),if_neg (by show ¬(4:Nat)=1;decide),if_neg (by show ¬(4:Nat)=2;decide),if_neg (by show ¬(4:Nat)=3;decide),Cb,if_neg (by rw[h10'];decide)]
 ·rw[if_neg h10']at hln;cases hln
theorem SQ {c:SC} {acc:List Nd} {r:Nd}:evD c (acc++[r])=evD c acc++(if (c.hd&&acc.isEmpty)=true then []else evK c (B3 c (acc++[r])) 0 (A2 r)++[if c.hd then .me else .le])/\(acc≠ []->B3 c (acc++[r])=B3 c acc):=by
 have hn:acc≠ []->B3 c (acc++[r])=B3 c acc:=fun hne=>by
  unfold B3
  cases acc with
  | nil=>exact absurd rfl hne
  | cons x t=>rfl
 refine⟨?_,hn⟩
 cases acc with
 | nil=>
  unfold evD
  cases hc:c.hd with
  | true=>simp
  | false=>simp
 | cons x t=>
  have h1:=hn (by simp)
  unfold evD
  rw[h1]
  cases hc:c.hd with
  | true=>simp
  | false=>simp
theorem doc_run {c:SC} {s:B8} (hwin:1<=c.win) (hac:c.a≠10/\c.a≠13):∀(n:Nat) (acc:List Nd) (i:Nat) (A:RA) (v:Int) (ns:List B8) (wid:Int),i<=s.length->s.length<i+n->InD c acc v ns wid A->
  (∀p d,DN (cxA c s) c.hd n acc i v ns wid= .error (p,d)->i<=p/\obs (A3 c s i A)= .error (Hi (p,d) (CU c s i)))/\
  (∀rs,DN (cxA c s) c.hd n acc i v ns wid= .ok rs->(CU c s i=none/\obs (A3 c s i A)= .ok (evD c rs,B3 c rs))∨∃m,CU c s i=some m/\obs (A3 c s i A)= .error ((m:Int),28)):=by
 intro n
 induction n with
 | zero=>intro acc i A v ns wid h1 h2;omega
 | succ n ih=>
  intro acc i A v ns wid hi hn hI
  simp only[DN]
  by_cases hl:s.length<=i
  ·rw[if_pos (show(cxA c s).s.length<=i from hl)]
   refine⟨fun p d h=>(by cases h),fun rs h=>?_⟩
   cases h
   refine .inl ⟨Id hl,?_⟩
   rw[FR hl hI.err]
   unfold Dd
   rw[if_neg (by rw[hI.ph];decide),if_pos hI.ph,if_neg (by rw[hI.within];decide)]
   unfold obs
   rw[if_pos hI.err,hI.out,hI.names]
  rw[if_neg (show ¬(cxA c s).s.length<=i from hl)]
  have hil:i<s.length:=by omega
  generalize hhd:(c.hd&&acc.isEmpty)=hdr
  have hrow0:decide (acc.length=0)=acc.isEmpty:=by cases acc<;>simp
  have hhr:hdr=(c.hd&&decide (acc.length=0)):=by rw[hrow0,hhd]
  have hnum:(!acc.isEmpty)=decide (0<acc.length):=by cases acc<;>simp
  have hH:AK c A=hdr:=by unfold AK;rw[hI.rows,hhr]
  --the state in which the record has begun
  have hE1:=GG c A i
  obtain⟨e1,e2,e3,e4⟩:=hE1
  rw[if_neg (by rw[hI.within];decide)]at e4
  have hfin:A3 c s i A=A3 c s i (AC c A i):=by
   have hee:(AC c A i).err=0:=e1.err.trans hI.err
   have hpp:(AC c A i).ph=0:=e1.ph.trans hI.ph
   have hent:AD c (AC c A i) i=AD c A i:=by
    unfold AD
    have:AC c (AC c A i) i=AC c A i:=by
     have h1:AC c (AC c A i) i={AC c A i with frm:=(i:Int)}:=by
      conv=>lhs;unfold AC
      exact if_pos e3
     have key:∀(B:RA) (k:Int),B.frm=k->({B with frm:=k}:RA)=B:=fun B k h=>by subst h;rfl
     exact h1.trans (key _ _ e2)
    rw[this]
   rw[BD hil hI.err,BD hil hee]
   have:A4 c (s.getD i 0) i A=A4 c (s.getD i 0) i (AC c A i):=by
    unfold A4
    rw[if_pos hI.ph,if_pos hpp,hent]
   rw[this]
  have hv:(AC c A i).late=(if hdr=true then 0 else Eq c 2 v)/\(AC c A i).nodes=(if hdr=true then v else v+1):=by
   unfold AC
   rw[if_neg (by rw[hI.within];decide),hH]
   by_cases hh:hdr=true
   ·rw[if_pos hh,if_pos hh,if_pos hh];exact⟨hI.late,hI.nodes⟩
   ·rw[if_neg hh,if_neg hh,if_neg hh,LG (A:={A with frm:=(i:Int),within:=true,cells:=0}) hI.late]
    exact⟨by show Eq c 2 A.nodes=_;rw[hI.nodes],by show A.nodes+1=_;rw[hI.nodes]⟩
  have hrec:IM (cxA c s) (!acc.isEmpty) wid hdr i v ns=if hdr=false/\Eq c 2 v≠0 then .error (i,Eq c 2 v)else IL s (decide (0<acc.length)) (A.width:Int) (BS (cxA c s) (decide (0<acc.length)) (A.width:Int) hdr (s.length+1) [] i (if hdr=true then v else v+1) ns):=by
   rw[H8,hnum,<-hI.width]
   cases hdr with
   | true=>rw[if_pos rfl,if_neg (fun h=>by cases h.1)];rfl
   | false=>
    rw[if_neg (by decide)]
    show(match FA c.dep c.nod 2 i v with | .error e=>Except.error e | .ok v1=>_)=_
    rw[OY]
    by_cases hlim:Eq c 2 v≠0
    ·rw[if_pos hlim,if_pos ⟨rfl,hlim⟩]
    ·rw[if_neg hlim,if_neg fun h=>hlim h.2];rfl
  simp only[bind,Except.bind]
  rw[hrec]
  by_cases hlim:hdr=false/\Eq c 2 v≠0
  ·rw[if_pos hlim]
   refine⟨fun p d h=>?_,fun rs h=>by cases h⟩
   cases h
   have hlt:(AC c A i).late=Eq c 2 v:=by rw[hv.1,if_neg (by rw[hlim.1];decide)]
   have hla:=OJ (c:=c) (A:=A) (at_:=(i:Int)) (by rw[hlt];exact hlim.2)
   have:=Sy hwin hil hI.ph hI.err hI.held (by rw[hla,hlt];exact hlim.2)
   rw[hla,hlt]at this
   exact⟨Nat.le_refl _,this⟩
  rw[if_neg hlim]
  have hl0:(AC c A i).late=0:=by
   rw[hv.1]
   cases hdr with
   | true=>rfl
   | false=>exact Decidable.not_not.1 fun h=>hlim ⟨rfl,h⟩
  have hin:InR c hdr A.names A.out acc.length A.width [] (if hdr=true then v else v+1) ns (AC c A i):=by
   have hnil:hdr=true->acc=[]:=fun h=>by
    rw[h]at hhd
    cases acc with
    | nil=>rfl
    | cons x t=>simp at hhd
   have hA0:acc=[]->A.names=[]:=fun h=>by rw[hI.names,h];unfold B3;split<;>rfl
   refine⟨e3,e1.err.trans hI.err,hl0,e1.held.trans hI.held,e1.rows.trans hI.rows,e1.width,e4,hv.2,?_,fun h=>?_,?_⟩
   ·rw[e1.names]
    split
    ·rename_i h;rw[hA0 (hnil h)];rfl
    ·rfl
   ·rw[e1.names,hA0 (hnil h),hI.nsr (hnil h)];rfl
   ·rw[e1.out]
    split
    ·rfl
    ·rw[evK,List.append_nil]
  obtain⟨r1,r2⟩:=rec_run (s:=s) hwin hac hhr (s.length+1) [] i (AC c A i) _ ns hi (by omega) (e1.ph.trans hI.ph) hin
  rw[<-hfin]at r1 r2
  cases hR:BS (cxA c s) (decide (0<acc.length)) (A.width:Int) hdr (s.length+1) [] i (if hdr=true then v else v+1) ns with
  | error p=>
   refine⟨fun p' d h=>?_,fun rs h=>by cases h⟩
   cases h
   exact r1 _ _ hR
  | ok p=>
   obtain⟨e,v',ns',ks⟩:=p
   obtain⟨g1,g2,g3,g4⟩:=r2 e v' ns' ks hR
   obtain⟨ks',m,q1,q2,_⟩:=Ob _ hi hR
   have hln:CE s e= .ok m:=(q2.le hi).2.2.2.2
   have hlm:=GB g2 hln
   unfold IL
   simp only[hln]
   have hwd:(if decide (0<acc.length)=true then(A.width:Int)else(ks.length:Int))=(((if acc.length=0 then ks.length else A.width):Nat):Int):=by
    by_cases h0:acc.length=0
    ·rw[if_pos h0,if_neg (by simp[h0])]
    ·rw[if_neg h0,if_pos (by simp;omega)]
   rw[hwd]
   by_cases hw:ks.length<(if acc.length=0 then ks.length else A.width)
   ·rw[if_pos (by omega)]
    refine⟨fun p d h=>?_,fun rs h=>by cases h⟩
    cases h
    refine⟨g1,?_⟩
    rcases g4 with⟨k,k1,k2,k3⟩ | ⟨k1,C,k2,k3⟩
    ·rw[k1,EB (p:=(e,10)) k2];exact k3
    ·obtain⟨m1,C',m2,m3⟩:=QF g2 k3 hln
     obtain⟨b1,b2⟩:=Oa (at_:=(e:Int)) m2 hw
     rw[k1,In (p:=(e,10)) fun k hk=>MZ hk,k2]
     have hob:obs (AB c C' e)= .error ((e:Int),10):=by rw[GP (by rw[b1];decide),b1,b2]
     rcases m3 with m3 | ⟨_,m3⟩
     ·rw[m3,GT (by rw[b1];decide),hob]
     ·rw[m3,hob]
   ·rw[if_neg (by omega)]
    simp only
    have hpos:i<e+m:=by
     rcases Nat.eq_zero_or_pos m with h0 | h0
     ·have:=hlm.2.1 h0;omega
     ·omega
    --the state AX the record
    have after:∀C',InR c hdr A.names A.out acc.length A.width ks v' ns' C'->InD c (acc++[.mk 8 [] [] ks (slc s e (e+m))]) v' ns' (((if acc.length=0 then ks.length else A.width):Nat):Int) (AB c C' e):=by
     intro C' hC
     obtain⟨f1,f2,f3,f4,f5,f6,f7,f8,f9,f10⟩:=Ps (at_:=(e:Int)) hC hhr hw
     have hkid:A2 (.mk 8 [] [] ks (slc s e (e+m)))=ks:=rfl
     obtain⟨s1,s2⟩:=SQ (c:=c) (acc:=acc) (r:= .mk 8 [] [] ks (slc s e (e+m)))
     have hnm:C'.names=B3 c (acc++[.mk 8 [] [] ks (slc s e (e+m))]):=by
      rw[hC.names]
      by_cases hh:hdr=true
      ·rw[if_pos hh]
       rw[hh]at hhd
       have hne:acc=[]:=by cases acc with | nil=>rfl | cons x t=>simp at hhd
       have hcd:c.hd=true:=by simp at hhd;exact hhd.1
       subst hne
       unfold B3
       rw[if_pos hcd];rfl
      ·rw[if_neg hh,hI.names]
       by_cases hne:acc=[]
       ·subst hne
        have hcd:c.hd=false:=by
         cases hc:c.hd with
         | false=>rfl
         | true=>rw[hc]at hhd;exact absurd hhd.symm hh
        unfold B3
        rw[hcd];rfl
       ·exact(s2 hne).symm
     refine⟨f1,f2,f3,f4,f5,by rw[f6,List.length_append];rfl,by rw[f7],f8,by rw[f9,hnm],fun h=>by simp at h,?_⟩
     ·rw[f10,hC.out,s1,hhd,hI.out,hkid]
      by_cases hh:hdr=true
      ·rw[if_pos hh,if_pos hh,if_pos hh]
      ·rw[if_neg hh,if_neg hh,if_neg hh,List.append_assoc]
       congr 3
       rw[hI.names]
       by_cases hne:acc=[]
       ·subst hne
        have hcd:c.hd=false:=by
         cases hc:c.hd with
         | false=>rfl
         | true=>rw[hc]at hhd;exact absurd hhd.symm hh
        unfold B3
        rw[hcd];rfl
       ·exact(s2 hne).symm
    rcases g4 with⟨k,k1,k2,k3⟩ | ⟨k1,C,k2,k3⟩
    ·--the window's error
     obtain⟨h1,h2⟩:=ih (acc++[.mk 8 [] [] ks (slc s e (e+m))]) (e+m) {RA.start with rows:=(acc++[Nd.mk 8 [] [] ks (slc s e (e+m))]).length,width:=(if acc.length=0 then ks.length else A.width),nodes:=v',names:=B3 c (acc++[.mk 8 [] [] ks (slc s e (e+m))]),out:=evD c (acc++[.mk 8 [] [] ks (slc s e (e+m))])} v' ns' (((if acc.length=0 then ks.length else A.width):Nat):Int) (by omega) (by omega) ⟨rfl,rfl,rfl,rfl,rfl,rfl,rfl,rfl,rfl,fun h=>by simp at h,rfl⟩
     refine⟨fun p d h=>?_,fun rs h=> .inr ⟨k,k1,k3⟩⟩
     have:=(h1 p d h).1
     exact⟨by omega,by rw[k1,EB (p:=(p,d)) (by show k<=p;omega)];exact k3⟩
    ·obtain⟨m1,C',m2,m3⟩:=QF g2 k3 hln
     have hD:=after C' m2
     have hf:A3 c s i A=A3 c s (e+m) (AB c C' e):=by
      rcases m3 with m3 | ⟨m4,m3⟩
      ·rw[k2,m3]
      ·rw[k2,m3,FR (by omega) hD.err]
       unfold Dd
       rw[if_neg (by rw[hD.ph];decide),if_pos hD.ph,if_neg (by rw[hD.within];decide)]
     rw[hf,k1,m1]
     obtain⟨h1,h2⟩:=ih _ (e+m) _ v' ns' _ (by omega) (by omega) hD
     exact⟨fun p d h=>⟨by have:=(h1 p d h).1;omega,(h1 p d h).2⟩,h2⟩
section
structure RX where
 begun:Bool
 size:Int
 text:Int
 cut:B8
 ended:Bool
 lb:Int
 lk:Int
 lt:Int
def Kb:List TV:=Jb scZ .nilSlice .nilSlice .nilSlice
def evT:Ev->List TV
 | .ls=> .int .i64 2:: .str []::Kb
 | .le=> .int .i64 3:: .str []::Kb
 | .ms=> .int .i64 4:: .str []::Kb
 | .me=> .int .i64 5:: .str []::Kb
 | .key k=> .int .i64 6:: .str k::Kb
 | .val s=> .int .i64 1:: .str []::Jb s .nilSlice .nilSlice .nilSlice
def CV (l:List Ev):List TV:=l.flatMap evT
theorem Ij (l m:List Ev):CV (l++m)=CV l++CV m:=by unfold CV;rw[List.flatMap_append]
def Cr (sz:Nat) (st:St) (v:TV) (n:Nat) (xs:List TV) (I:List Nat):Prop:=
 (v= .nilSlice/\n=0/\xs=[]/\I=[])∨(v= .list sz .full n xs/\I=[])∨∃id,v= .list sz (.own id) n xs/\I=[id]/\id<st.nt/\st.live id=true
theorem Cr.nil (sz:Nat) (st:St):Cr sz st .nilSlice 0 [] []:= .inl ⟨rfl,rfl,rfl,rfl⟩
theorem Cr.rd {sz:Nat} {st:St} {v:TV} {n:Nat} {xs:List TV} {I:List Nat} (h:Cr sz st v n xs I):Rd sz v n xs:=by
 rcases h with⟨rfl,rfl,rfl,_⟩ | ⟨rfl,_⟩ | ⟨id,rfl,_⟩
 ·exact .inl ⟨rfl,rfl,rfl⟩
 ·exact .inr ⟨_,rfl⟩
 ·exact .inr ⟨_,rfl⟩
theorem Cr.lt {sz:Nat} {st:St} {v:TV} {n:Nat} {xs:List TV} {I:List Nat} (h:Cr sz st v n xs I):∀id,id∈I->id<st.nt:=by
 rcases h with⟨_,_,_,rfl⟩ | ⟨_,rfl⟩ | ⟨id,_,rfl,h,_⟩
 ·intro x hx;cases hx
 ·intro x hx;cases hx
 ·intro x hx;rw[List.mem_singleton.1 hx];exact h
structure FrT (I:List Nat) (st st':St):Prop where
 nt:st.nt<=st'.nt
 live:∀id,id<st.nt->id∉I->st'.live id=st.live id
theorem Cr.keep {sz:Nat} {st st':St} {v:TV} {n:Nat} {xs:List TV} {I J:List Nat} (h:Cr sz st v n xs I) (f:FrT J st st') (hd:∀id,id∈I->id∉J):Cr sz st' v n xs I:=by
 rcases h with h | h | ⟨id,h1,h2,h3,h4⟩
 ·exact .inl h
 ·exact .inr (.inl h)
 ·exact .inr (.inr ⟨id,h1,h2,Nat.lt_of_lt_of_le h3 f.nt,(f.live id h3 (hd id (by rw[h2];exact .head _))).trans h4⟩)
theorem FrT.refl (I:List Nat) (st:St):FrT I st st:=⟨Nat.le_refl _,fun _ _ _=>rfl⟩
theorem HI {T sz bytes:Nat} {st:St} {v:TV} {n k:Nat} {xs ys:List TV} {I:List Nat} {K:TV->St->Prop} (h:Cr sz st v n xs I) (hby:(n+k)*bytes<=140737488355328) (hys:k=0->ys=[])
  (hK:∀v' st' I',Cr sz st' v' (n+k) (xs++ys) I'->FrT I st st'->(I'=I∨I'=[st.nt])->st'.box=st.box->st'.nb=st.nb->st'.bt=st.bt->K v' st'):AU T sz bytes v k ys st K:=by
 rcases h with⟨rfl,rfl,rfl,rfl⟩ | ⟨rfl,rfl⟩ | ⟨id,rfl,rfl,h3,h4⟩
 ·simp only[AU]
  cases k with
  | zero=>rw[hys rfl]at hK;exact hK _ st [] (.nil _ _) (FrT.refl _ _) (.inl rfl) rfl rfl rfl
  | succ m=>
   refine Ac (by rw[Nat.ble_eq];rw[Nat.zero_add]at hby;exact hby) (hK _ _ [st.nt] (.inr (.inr ⟨st.nt,by rw[Nat.zero_add,List.nil_append],rfl,by simp[St.fresh],by simp[St.fresh]⟩)) ⟨by simp[St.fresh],fun id h _=>by simp[St.fresh];omega⟩ (.inr rfl) rfl rfl rfl)
 ·simp only[AU,Nat.beq_refl]
  refine⟨hby,?_⟩
  cases k with
  | zero=>rw[hys rfl]at hK;exact hK _ st [] (.inr (.inl ⟨by rw[Nat.add_zero,List.append_nil],rfl⟩)) (FrT.refl _ _) (.inl rfl) rfl rfl rfl
  | succ m=>exact hK _ _ [st.nt] (.inr (.inr ⟨st.nt,rfl,rfl,by simp[St.fresh],by simp[St.fresh]⟩)) ⟨by simp[St.fresh],fun id h _=>by simp[St.fresh];omega⟩ (.inr rfl) rfl rfl rfl
 ·simp only[AU,Nat.beq_refl]
  refine⟨hby,h4,hK _ _ [st.nt] (.inr (.inr ⟨st.nt,rfl,rfl,by simp[St.fresh,St.retire],by simp[St.fresh,St.retire]⟩)) ⟨by simp[St.fresh,St.retire],fun i hi hn=>?_⟩ (.inr rfl) rfl rfl rfl⟩
  have h1:i≠id:=fun e=>hn (by rw[e];exact .head _)
  have h2:i≠st.nt:=by omega
  simp[St.fresh,St.retire,h1,h2]
def rdC (c:SC) (X:RX) (A:RA) (w m:Nat) (nv ov:TV):List TV:=
 [.box w 0,.int .u8 c.a,.int .u8 c.q,.bool c.hd,.bool c.ty,.int .i64 c.dep,.int .i64 c.nod,.int .i64 X.lb,.int .i64 X.lk,.int .i64 X.lt,.int .i64 (A.ph:Int),.bool X.begun,.bool A.within,.int .i64 (A.rows:Int),.int .i64 (A.cells:Int),.int .i64 (A.width:Int),nv,.map m,.bool A.told,.int .i64 A.nodes,.int .i64 A.frm,.int .i64 A.line,.int .i64 A.late,.int .i64 X.size,.int .i64 X.text,.str X.cut,ov,.int .i64 A.off,.int .i64 A.err,.bool X.ended]
def KnM (es:List (B8×TV)) (names:List B8):Prop:=∀t,Cv t es=if t∈names then some (.bool true)else none
structure RB (c:SC) (X:RX) (A:RA) (r w m:Nat) (I:List Nat) (st:St):Prop where
 rb:r<st.nb
 wb:w<st.nb
 mb:m<st.nb
 rw_:r≠w
 rm:r≠m
 wm:w≠m
 ex:∃nv ov hv wo es I1 I2 I3,st.box r= .cells (rdC c X A w m nv ov)/\st.box w= .cells [.int .i64 (c.win:Int),hv,.int .i64 wo,.bool false]/\st.box m= .map es/\KnM es A.names/\
  Cr 1 st nv A.names.length (A.names.map TV.str) I1/\Cr 15 st ov A.out.length (CV A.out) I2/\Cr 1 st hv A.held.length (A5 A.held) I3/\(I1++I2++I3).Nodup/\I=I1++I2++I3
structure FrB (r w m:Nat) (I I':List Nat) (st st':St):Prop where
 nb:st.nb<=st'.nb
 nt:st.nt<=st'.nt
 box:∀b,b≠r->b≠w->b≠m->b<st.nb->st'.box b=st.box b
 live:∀id,id<st.nt->id∉I->st'.live id=st.live id
 sub:∀id,id∈I'->id∈I∨st.nt<=id
theorem FrB.refl (r w m:Nat) (I:List Nat) (st:St):FrB r w m I I st st:=⟨Nat.le_refl _,Nat.le_refl _,fun _ _ _ _ _=>rfl,fun _ _ _=>rfl,fun _ h=> .inl h⟩
theorem FrB.trans {r w m:Nat} {I I1 I2:List Nat} {a b d:St} (h:FrB r w m I I1 a b) (k:FrB r w m I1 I2 b d):FrB r w m I I2 a d:=
 ⟨Nat.le_trans h.nb k.nb,Nat.le_trans h.nt k.nt,fun x h1 h2 h3 h4=>(k.box x h1 h2 h3 (Nat.lt_of_lt_of_le h4 h.nb)).trans (h.box x h1 h2 h3 h4),
  fun id h1 h2=>(k.live id (Nat.lt_of_lt_of_le h1 h.nt) fun hm=>(h.sub id hm).elim h2 fun h3=>by omega).trans (h.live id h1 h2),
  fun id hm=>(k.sub id hm).elim (h.sub id) fun h1=> .inr (Nat.le_trans h.nt h1)⟩
section
variable {c:SC} {X:RX} {A:RA} {r w m:Nat} {I:List Nat} {st:St}
theorem RB.ld (h:RB c X A r w m I st) {k:Nat} {x:TV} {f:TV->Prop} (hx:∀nv ov,(rdC c X A w m nv ov)[k]? =some x) (hf:f x):Ai (Ab st [] (.t (.box r k)) 0) f:=by
 obtain⟨nv,ov,hv,wo,es,I1,I2,I3,h1,_⟩:=h.ex
 refine Ag ?_ hf
 simp only[Ab,h1]
 exact hx nv ov
theorem RB.put (h:RB c X A r w m I st) {k:Nat} {x:TV} {K:St->Prop} (X':RX) (A':RA) (hlt:k<30) (hn:A'.names=A.names) (ho:A'.out=A.out) (hh:A'.held=A.held) (hs:∀nv ov,(rdC c X A w m nv ov).set k x=rdC c X' A' w m nv ov)
  (hk:∀st',RB c X' A' r w m I st'->FrB r w m I I st st'->K st'):stB st (.box r k) [x] K:=by
 obtain⟨nv,ov,hv,wo,es,I1,I2,I3,h1,h2,h3,h4,h5,h6,h7,h8,h9⟩:=h.ex
 refine⟨_,h1,by simp only[List.length_singleton];show k+1<=30;omega,?_⟩
 rw[show setAll (rdC c X A w m nv ov) k [x]=rdC c X' A' w m nv ov from hs nv ov]
 have f:FrT [] st (st.put r (.cells (rdC c X' A' w m nv ov))):=⟨Nat.le_refl _,fun _ _ _=>rfl⟩
 refine hk _ ⟨h.rb,h.wb,h.mb,h.rw_,h.rm,h.wm,nv,ov,hv,wo,es,I1,I2,I3,by simp[St.put],?_,?_,by rw[hn];exact h4,?_,?_,?_,h8,h9⟩ ⟨Nat.le_refl _,Nat.le_refl _,fun b hb _ _ _=>by simp[St.put,hb],fun _ _ _=>rfl,fun _ h=> .inl h⟩
 ·have:=h.rw_;simp[St.put,Ne.symm this];exact h2
 ·have:=h.rm;simp[St.put,Ne.symm this];exact h3
 ·rw[hn];exact h5.keep f fun _ _ h=>by cases h
 ·rw[ho];exact h6.keep f fun _ _ h=>by cases h
 ·rw[hh];exact h7.keep f fun _ _ h=>by cases h
theorem KV (h:RB c X A r w m I st) {e:Int} {K:St->Prop} (hk:∀st',RB c X (Bk A e) r w m I st'->FrB r w m I I st st'->K st'):Ae PR AF [.box r 0,.int .i64 e] [] st K:=by
 refine Ee r e st K (h.ld (k:=22) (fun _ _=>rfl) (Ak (Ad (fun g=>?_) fun g=>?_)))
 ·have:Bk A e={A with late:=e}:=if_pos g
  rw[this]at hk
  exact h.put X {A with late:=e} (by decide) rfl rfl rfl (fun _ _=>rfl) hk
 ·have:Bk A e=A:=if_neg g
  rw[this]at hk
  exact hk st h (FrB.refl _ _ _ _ _)
theorem FU (h:RB c X A r w m I st) {K:Bool->St->Prop} (hk:K (AK c A) st):Ae PR Al [.box r 0] [.one .bool] st K:=by
 unfold AK at hk
 refine DF r st K (h.ld (k:=3) (x:= .bool c.hd) (fun _ _=>rfl) (Bg (AI (fun g=>?_) fun g=>?_)))
 ·refine h.ld (k:=13) (x:= .int .i64 (A.rows:Int)) (fun _ _=>rfl) (Ak ?_)
  rw[g,Bool.true_and]at hk
  have:decide ((A.rows:Int)=0)=decide (A.rows=0):=decide_eq_decide.2 ⟨fun h=>by omega,fun h=>by omega⟩
  rw[this];exact hk
 ·rw[g,Bool.false_and]at hk;exact hk
theorem Mb (h:RB c X A r w m I st) (hb:0<=A.nodes/\A.nodes<=100000000) {d:Int} {K:St->Prop} (hk:∀st',RB c X (Bj c A d) r w m I st'->FrB r w m I I st st'->K st'):Ae PR Ao [.box r 0,.int .i64 d] [] st K:=by
 have cnt:∀{B:RA} {st1:St} {K:St->Prop},B.nodes=A.nodes->RB c X B r w m I st1->(∀st',RB c X (DP B) r w m I st'->FrB r w m I I st1 st'->K st')->Ai (Ab st1 [] (.t (.box r 19)) 0) fun x=>Aj (.int .i64) x fun n=>stB st1 (.box r 19) [.int .i64 (i64.wrap (n+1))] fun st2=>K st2:=by
  intro B st1 K hn hB hk
  refine hB.ld (k:=19) (x:= .int .i64 B.nodes) (fun _ _=>rfl) (Ak ?_)
  rw[Ar _ (by omega) (by omega)]
  exact hB.put X (DP B) (by decide) rfl rfl rfl (fun _ _=>rfl) hk
 unfold Bj at hk
 refine DS r d st K (h.ld (k:=5) (x:= .int .i64 c.dep) (fun _ _=>rfl) (Ak (Ad (fun g=>?_) fun g=>?_)))
 ·rw[if_pos g]at hk
  refine KV h fun st1 h1 f1=>cnt (CJ A 9).2.2.2.2 h1 fun st2 h2 f2=>hk st2 h2 (f1.trans f2)
 ·rw[if_neg g]at hk
  refine h.ld (k:=19) (x:= .int .i64 A.nodes) (fun _ _=>rfl) (Ak (h.ld (k:=6) (x:= .int .i64 c.nod) (fun _ _=>rfl) (Ak (Ad (fun g2=>?_) fun g2=>?_))))
  ·rw[if_pos g2]at hk
   exact KV h fun st1 h1 f1=>cnt (CJ A 10).2.2.2.2 h1 fun st2 h2 f2=>hk st2 h2 (f1.trans f2)
  ·rw[if_neg g2]at hk
   exact cnt rfl h hk
end
end
section
section
variable {c:SC} {X:RX} {A:RA} {r w m:Nat} {I:List Nat} {st:St}
theorem RB.at (h:RB c X A r w m I st) {k:Nat} {x:TV} (hx:∀nv ov,(rdC c X A w m nv ov)[k]? =some x):Ab st [] (.t (.box r k)) 0=some x:=by
 obtain⟨nv,ov,hv,wo,es,I1,I2,I3,h1,_⟩:=h.ex
 simp only[Ab,h1]
 exact hx nv ov
theorem RB.win (h:RB c X A r w m I st):Ab st [] (.t (.box r 0)) 0=some (.box w 0):=h.at fun _ _=>rfl
theorem J0 (h:RB c X A r w m I st) {K:Int->St->Prop} (hk:K (A.held.length:Int) st):Ae PR AN [.box w 0] [.one (.int .i64)] st K:=by
 obtain⟨nv,ov,hv,wo,es,I1,I2,I3,h1,h2,h3,h4,h5,h6,h7,h8,h9⟩:=h.ex
 refine Gk w st K (Ag (x:=hv) (by simp[Ab,h2]) (Ac h7.rd.isSl ?_))
 rw[h7.rd.lenS];exact hk
theorem Pz {α:Type} {a b:List α} (h:(a++b).Nodup):a.Nodup:=(List.nodup_append.1 h).1
theorem HN (h:RB c X A r w m I st) (hl:A.held.length<=100000000) {K:B8->Int->St->Prop} (hk:∀st' I',RB c X {A with held:=[]} r w m I' st'->FrB r w m I I' st st'->K A.held 0 st'):
  Ae PR AJ [.box w 0,.int .i64 (A.held.length:Int)] [.one .str,.one (.int .i64)] st K:=by
 obtain⟨nv,ov,hv,wo,es,I1,I2,I3,h1,h2,h3,h4,h5,h6,h7,h8,h9⟩:=h.ex
 have hld:Ab st [] (.t (.box w 1)) 0=some hv:=by simp[Ab,h2]
 have hS:=h7.rd.lenS
 have hlst:F5 1 hv=true:=by
  rcases h7 with⟨rfl,_⟩ | ⟨rfl,_⟩ | ⟨id,rfl,_⟩<;>rfl
 have htb:(CG st (slT 1 .full hv 0 (Int.toNat (A.held.length:Int)))).map TV.str=some (.str A.held):=by
  rw[Int.toNat_natCast]
  have hb:∀xs,xs=A5 A.held->CH ((xs.take (A.held.length*1)).drop (0*1))=some A.held:=fun xs hx=>by
   rw[hx,Nat.mul_one]
   simp only[Nat.zero_mul,List.drop_zero]
   rw[List.take_of_length_le (by rw[Lz];omega),GK]
  rcases h7 with⟨rfl,e1,_,_⟩ | ⟨rfl,_⟩ | ⟨id,rfl,_⟩
  ·have:A.held=[]:=List.eq_nil_of_length_eq_zero e1
   rw[this];rfl
  ·show(CH _).map TV.str=_
   rw[hb _ rfl];rfl
  ·show(CH _).map TV.str=_
   rw[hb _ rfl];rfl
 have hsrc:BW st 1 (slT 1 .non hv (Int.toNat (A.held.length:Int)) (lenS hv))=some (0,[]):=by
  rw[Int.toNat_natCast,hS]
  have hb:∀xs,xs=A5 A.held->(xs.take (A.held.length*1)).drop (A.held.length*1)=[]:=fun xs hx=>by
   rw[List.drop_of_length_le]
   rw[List.length_take];omega
  rcases h7 with⟨rfl,e1,_,_⟩ | ⟨rfl,_⟩ | ⟨id,rfl,_⟩
  ·rfl
  ·show BW st 1 (.list 1 .non (A.held.length-A.held.length) _)=_
   rw[hb _ rfl,Nat.sub_self];rfl
  ·show BW st 1 (.list 1 .non (A.held.length-A.held.length) _)=_
   rw[hb _ rfl,Nat.sub_self];rfl
 have hrw:=h.rw_
 have hwm:=h.wm
 refine F7 w _ st K (Ad (fun g=>by omega) fun _=>Ag hld (Ac h7.rd.isSl (Ad (fun g=>by rw[hS]at g;omega) fun _=>Ag hld ⟨⟨hlst,by omega,by rw[hS];omega,rfl⟩,Ag htb (AG (Ag hld ⟨⟨hlst,by omega,by rw[hS];omega⟩,Ag hsrc (Ac rfl ?_)⟩))⟩)))
 simp only[AU,Nat.beq_refl]
 refine⟨by show(0+0)*1<=_;omega,Ac rfl ⟨_,h2,by simp,?_⟩⟩
 have e1:setAll [TV.int .i64 (c.win:Int),hv,.int .i64 wo,.bool false] 1 [.list 1 .full 0 []]=[TV.int .i64 (c.win:Int),.list 1 .full 0 [],.int .i64 wo,.bool false]:=rfl
 have e2:∀x,setAll [TV.int .i64 (c.win:Int),.list 1 .full 0 [],.int .i64 wo,.bool false] 2 [x]=[TV.int .i64 (c.win:Int),.list 1 .full 0 [],x,.bool false]:=fun _=>rfl
 rw[e1]
 refine Ag (x:= .int .i64 wo) (by simp[Ab,St.put]) (Ak ⟨_,box_put _ _ _,by simp,?_⟩)
 rw[e2]
 have f:FrT [] st ((st.put w (.cells [TV.int .i64 (c.win:Int),.list 1 .full 0 [],.int .i64 wo,.bool false])).put w (.cells [TV.int .i64 (c.win:Int),.list 1 .full 0 [],.int .i64 (i64.wrap (wo+(A.held.length:Int))),.bool false])):=⟨Nat.le_refl _,fun _ _ _=>rfl⟩
 refine hk _ (I1++I2) ⟨h.rb,h.wb,h.mb,h.rw_,h.rm,h.wm,nv,ov,.list 1 .full 0 [],i64.wrap (wo+(A.held.length:Int)),es,I1,I2,[],?_,by simp[St.put],?_,h4,h5.keep f (fun _ _ h=>by cases h),h6.keep f (fun _ _ h=>by cases h),.inr (.inl ⟨rfl,rfl⟩),by rw[List.append_nil];exact Pz h8,by rw[List.append_nil]⟩ ⟨Nat.le_refl _,Nat.le_refl _,fun b _ hb _ _=>by simp[St.put,hb],fun _ _ _=>rfl,fun id hid=> .inl (by rw[h9];exact List.mem_append.2 (.inl hid))⟩
 ·simp[St.put,hrw];exact h1
 ·simp[St.put,Ne.symm hwm];exact h3
theorem RS (h:RB c X A r w m I st) (hl:A.held.length<=100000000) (hwb:c.win<=100000000) {b:UInt8} {K:Int->St->Prop} (hk1:c.win<=A.held.length->K 28 st) (hk2:A.held.length<c.win->∀st' I',RB c X {A with held:=A.held++[b]} r w m I' st'->FrB r w m I I' st st'->K 0 st'):
  Ae PR B4 [.box w 0,.str [b]] [.one (.int .i64)] st K:=by
 obtain⟨nv,ov,hv,wo,es,I1,I2,I3,h1,h2,h3,h4,h5,h6,h7,h8,h9⟩:=h.ex
 have hld:Ab st [] (.t (.box w 1)) 0=some hv:=by simp[Ab,h2]
 have hrw:=h.rw_
 have hwm:=h.wm
 refine F9 w [b] st K (Ag (x:= .bool false) (by simp[Ab,h2]) (Bg (AI (fun g=>by cases g) fun _=>?_)))
 refine F8 w st _ (Ag (x:= .int .i64 (c.win:Int)) (by simp[Ab,h2]) (Ak (Ag hld (Ac h7.rd.isSl ?_))))
 rw[h7.rd.lenS,Ar _ (by omega) (by omega)]
 refine Ad (fun g=>hk1 (by simp only[List.length_singleton]at g;omega)) fun g=>?_
 have hlt:A.held.length<c.win:=by simp only[List.length_singleton]at g;omega
 refine Ag hld (Ag (src_str st [b]) (Ac (RI [b]) ?_))
 refine HI h7 (by simp;omega) (fun h=>by cases h) fun v' st1 I' ho f hI hbx hnb hbt=>Ac (by exact ho.rd.one |> fun h=>by rw[List.all_cons,h];rfl) ?_
 have h2':st1.box w= .cells [TV.int .i64 (c.win:Int),hv,.int .i64 wo,.bool false]:=by rw[hbx];exact h2
 refine⟨_,h2',by simp,?_⟩
 have e1:setAll [TV.int .i64 (c.win:Int),hv,.int .i64 wo,.bool false] 1 [v']=[TV.int .i64 (c.win:Int),v',.int .i64 wo,.bool false]:=rfl
 rw[e1]
 have hnd:=List.nodup_append.1 h8
 have f':FrT I3 st (st1.put w (.cells [TV.int .i64 (c.win:Int),v',.int .i64 wo,.bool false])):=⟨f.nt,f.live⟩
 have d1:∀id,id∈I1->id∉I3:=fun id h h'=>hnd.2.2 id (List.mem_append.2 (.inl h)) id h' rfl
 have d2:∀id,id∈I2->id∉I3:=fun id h h'=>hnd.2.2 id (List.mem_append.2 (.inr h)) id h' rfl
 have hlt12:∀id,id∈I1++I2->id<st.nt:=fun id h=>(List.mem_append.1 h).elim (h5.lt id) (h6.lt id)
 refine hk2 hlt _ (I1++I2++I') ⟨Nat.lt_of_lt_of_le h.rb (Nat.le_of_eq hnb.symm),Nat.lt_of_lt_of_le h.wb (Nat.le_of_eq hnb.symm),Nat.lt_of_lt_of_le h.mb (Nat.le_of_eq hnb.symm),h.rw_,h.rm,h.wm,nv,ov,v',wo,es,I1,I2,I',?_,by simp[St.put],?_,h4,h5.keep f' d1,h6.keep f' d2,?_,?_,rfl⟩ ⟨Nat.le_of_eq hnb.symm,f.nt,fun x _ hx _ _=>by simp[St.put,hx,hbx],fun id h1 h2=>f.live id h1 fun h3=>h2 (by rw[h9];exact List.mem_append.2 (.inr h3)),fun id hid=>?_⟩
 ·simp[St.put,hrw,hbx];exact h1
 ·simp[St.put,Ne.symm hwm,hbx];exact h3
 ·have:=ho
  simp only[List.length_append,List.length_singleton]at this⊢
  rw[<-LF]
  rcases this with h | h | ⟨id,q1,q2,q3,q4⟩
  ·exact .inl h
  ·exact .inr (.inl h)
  ·exact .inr (.inr ⟨id,q1,q2,q3,q4⟩)
 ·rcases hI with rfl | rfl
  ·exact h8
  ·rw[List.nodup_append]
   refine⟨hnd.1,by simp,fun a ha b' hb e=>?_⟩
   rw[List.mem_singleton]at hb
   have:=hlt12 a ha
   omega
 ·rcases List.mem_append.1 hid with hid | hid
  ·exact .inl (by rw[h9];exact List.mem_append.2 (.inl hid))
  ·rcases hI with rfl | rfl
   ·exact .inl (by rw[h9];exact List.mem_append.2 (.inr hid))
   ·rw[List.mem_singleton.1 hid];exact .inr (Nat.le_refl _)
theorem BF (h:RB c X A r w m I st) (hl:A.held.length<=100000000) {o e:Int} {K:St->Prop} (hk:∀st' I',RB c X (AZ A o e) r w m I' st'->FrB r w m I I' st st'->K st'):Ae PR Af [.box r 0,.int .i64 o,.int .i64 e] [] st K:=by
 refine Ei r o e st K (h.ld (k:=28) (x:= .int .i64 A.err) (fun _ _=>rfl) (Ak (Ad (fun g=>?_) fun g=>?_)))
 ·have hf:AZ A o e={A with off:=o,err:=e,held:=[]}:=if_pos g
  rw[hf]at hk
  refine h.put X {A with off:=o} (by decide) rfl rfl rfl (fun _ _=>rfl) fun st1 h1 f1=>h1.put X {A with off:=o,err:=e} (by decide) rfl rfl rfl (fun _ _=>rfl) fun st2 h2 f2=>?_
  refine Ag h2.win (Ag h2.win (J0 h2 ⟨h2.win,HN (A:={A with off:=o,err:=e}) h2 hl fun st3 I' h3 f3=>⟨h3.win,hk st3 I' h3 ((f1.trans f2).trans f3)⟩⟩))
 ·have hf:AZ A o e={A with held:=[]}:=if_neg g
  rw[hf]at hk
  refine Ag h.win (Ag h.win (J0 h ⟨h.win,HN h hl fun st3 I' h3 f3=>⟨h3.win,hk st3 I' h3 f3⟩⟩))
theorem GH (h:RB c X A r w m I st) (hl:A.held.length<=100000000) (hwb:c.win<=100000000) {b:UInt8} {C:Int} (hC:C=(b.toNat:Int)) {K:St->Prop} (hk:∀st' I',RB c X (BO c b A) r w m I' st'->FrB r w m I I' st st'->K st'):Ae PR Ay [.box r 0,.int .u8 C] [] st K:=by
 subst hC
 refine Eh r _ st K (Ag h.win (Ag (QX _ b rfl) (AG (RS h hl hwb (fun g=>?_) fun g st1 I1 h1 f1=>?_))))
 ·have hf:BO c b A=AZ A A.frm 28:=if_pos g
  rw[hf]at hk
  refine Ad (fun _=>h.ld (k:=20) (x:= .int .i64 A.frm) (fun _ _=>rfl) (Ak (BF h hl hk))) fun g=>absurd (by decide) g
 ·have hf:BO c b A={A with held:=A.held++[b]}:=if_neg (by omega)
  rw[hf]at hk
  exact Ad (fun g=>absurd rfl g) fun _=>hk st1 I1 h1 f1
end
end
section
section
variable {c:SC} {X:RX} {A:RA} {r w m:Nat} {I:List Nat} {st:St}
theorem RB.outK (h:RB c X A r w m I st) (hl:A.out.length<=100000000) {evs:List Ev} (hle:evs.length<=1000):∃v,Ab st [] (.t (.box r 26)) 0=some v/\
  ∀(K':TV->St->Prop),(∀v' st1,Aw v'=true->(∀K:St->Prop,(∀st' I',RB c X {A with out:=A.out++evs} r w m I' st'->FrB r w m I I' st st'->K st')->stB st1 (.box r 26) [v'] K)->K' v' st1)->∀T,AU T 15 192 v evs.length (CV evs) st K':=by
 obtain⟨nv,ov,hv,wo,es,I1,I2,I3,h1,h2,h3,h4,h5,h6,h7,h8,h9⟩:=h.ex
 refine⟨ov,by simp only[Ab,h1];rfl,fun K' hK T=>?_⟩
 refine HI h6 (by omega) (fun h=>by
  have:evs=[]:=List.eq_nil_of_length_eq_zero h
  rw[this];rfl) fun v' st1 I' ho f hI hbx hnb hbt=>hK v' st1 ho.rd.one fun K hk=>?_
 have h1':st1.box r= .cells (rdC c X A w m nv ov):=by rw[hbx];exact h1
 refine⟨_,h1',by show 26+1<=30;decide,?_⟩
 have e1:setAll (rdC c X A w m nv ov) 26 [v']=rdC c X {A with out:=A.out++evs} w m nv v':=rfl
 rw[e1]
 have hrw:=h.rw_
 have hrm:=h.rm
 have hnd:=List.nodup_append.1 h8
 have hnd1:=List.nodup_append.1 hnd.1
 have f':FrT I2 st (st1.put r (.cells (rdC c X {A with out:=A.out++evs} w m nv v'))):=⟨f.nt,f.live⟩
 have d1:∀id,id∈I1->id∉I2:=fun id h h'=>hnd1.2.2 id h id h' rfl
 have d3:∀id,id∈I3->id∉I2:=fun id h h'=>hnd.2.2 id (List.mem_append.2 (.inr h')) id h rfl
 have hsub:∀id,id∈I'->id∈I2∨st.nt<=id:=fun id hid=>by
  rcases hI with rfl | rfl
  ·exact .inl hid
  ·rw[List.mem_singleton.1 hid];exact .inr (Nat.le_refl _)
 refine hk _ (I1++I'++I3) ⟨Nat.lt_of_lt_of_le h.rb (Nat.le_of_eq hnb.symm),Nat.lt_of_lt_of_le h.wb (Nat.le_of_eq hnb.symm),Nat.lt_of_lt_of_le h.mb (Nat.le_of_eq hnb.symm),h.rw_,h.rm,h.wm,nv,v',hv,wo,es,I1,I',I3,by simp[St.put],?_,?_,h4,h5.keep f' d1,?_,h7.keep f' d3,?_,rfl⟩ ⟨Nat.le_of_eq hnb.symm,f.nt,fun x hx _ _ _=>by simp[St.put,hx,hbx],fun id g1 g2=>f.live id g1 fun g3=>g2 (by rw[h9];exact List.mem_append.2 (.inl (List.mem_append.2 (.inr g3)))),fun id hid=>?_⟩
 ·simp[St.put,Ne.symm hrw,hbx];exact h2
 ·simp[St.put,Ne.symm hrm,hbx];exact h3
 ·have:=ho
  show Cr 15 _ v' (A.out++evs).length (CV (A.out++evs)) I'
  rw[List.length_append,Ij]
  rcases this with h | h | ⟨id,q1,q2,q3,q4⟩
  ·exact .inl h
  ·exact .inr (.inl h)
  ·exact .inr (.inr ⟨id,q1,q2,q3,q4⟩)
 ·rcases hI with rfl | rfl
  ·exact h8
  ·rw[List.nodup_append,List.nodup_append]
   refine⟨⟨hnd1.1,by simp,fun a ha b' hb e=>?_⟩,hnd.2.1,fun a ha b' hb e=>?_⟩
   ·rw[List.mem_singleton]at hb
    have:=h5.lt a ha
    omega
   ·have:=h7.lt b' hb
    rcases List.mem_append.1 ha with ha | ha
    ·exact hnd.2.2 a (List.mem_append.2 (.inl ha)) b' hb e
    ·rw[List.mem_singleton]at ha;omega
 ·rcases List.mem_append.1 hid with hid | hid
  ·rcases List.mem_append.1 hid with hid | hid
   ·exact .inl (by rw[h9];exact List.mem_append.2 (.inl (List.mem_append.2 (.inl hid))))
   ·exact(hsub id hid).imp (fun g=>by rw[h9];exact List.mem_append.2 (.inl (List.mem_append.2 (.inr g)))) fun g=>g
  ·exact .inl (by rw[h9];exact List.mem_append.2 (.inr hid))
theorem RB.nameK (h:RB c X A r w m I st) (hl:A.names.length<=100000000) {t:B8}:
  ∃es v,Ab st [] (.t (.box r 17)) 0=some (.map m)/\st.box m= .map es/\KnM es A.names/\Ab (st.put m (.map (FG t (.bool true) es))) [] (.t (.box r 16)) 0=some v/\
   ∀(K':TV->St->Prop),(∀v' st1,Aw v'=true->(∀K:St->Prop,(∀st' I',RB c X {A with names:=A.names++[t]} r w m I' st'->FrB r w m I I' st st'->K st')->stB st1 (.box r 16) [v'] K)->K' v' st1)->∀T,AU T 1 16 v 1 [.str t] (st.put m (.map (FG t (.bool true) es))) K':=by
 obtain⟨nv,ov,hv,wo,es,I1,I2,I3,h1,h2,h3,h4,h5,h6,h7,h8,h9⟩:=h.ex
 have hrw:=h.rw_
 have hrm:=h.rm
 have hwm:=h.wm
 have h1p:(st.put m (.map (FG t (.bool true) es))).box r= .cells (rdC c X A w m nv ov):=by simp[St.put,hrm];exact h1
 refine⟨es,nv,h.at (fun _ _=>rfl),h3,h4,by simp only[Ab,h1p];rfl,fun K' hK T=>?_⟩
 have h5p:Cr 1 (st.put m (.map (FG t (.bool true) es))) nv A.names.length (A.names.map TV.str) I1:=h5.keep (J:=[]) ⟨Nat.le_refl _,fun _ _ _=>rfl⟩ fun _ _ h=>by cases h
 refine HI h5p (by omega) (fun h=>by cases h) fun v' st1 I' ho f hI hbx hnb hbt=>hK v' st1 ho.rd.one fun K hk=>?_
 have h1':st1.box r= .cells (rdC c X A w m nv ov):=by rw[hbx];exact h1p
 refine⟨_,h1',by show 16+1<=30;decide,?_⟩
 have e1:setAll (rdC c X A w m nv ov) 16 [v']=rdC c X {A with names:=A.names++[t]} w m v' ov:=rfl
 rw[e1]
 have hnd:=List.nodup_append.1 h8
 have hnd1:=List.nodup_append.1 hnd.1
 have hnb:st1.nb=st.nb:=hnb
 have f':FrT I1 st (st1.put r (.cells (rdC c X {A with names:=A.names++[t]} w m v' ov))):=⟨f.nt,f.live⟩
 have d2:∀id,id∈I2->id∉I1:=fun id h h'=>hnd1.2.2 id h' id h rfl
 have d3:∀id,id∈I3->id∉I1:=fun id h h'=>hnd.2.2 id (List.mem_append.2 (.inl h')) id h rfl
 have hsub:∀id,id∈I'->id∈I1∨st.nt<=id:=fun id hid=>by
  rcases hI with rfl | rfl
  ·exact .inl hid
  ·rw[List.mem_singleton.1 hid];exact .inr (Nat.le_refl _)
 refine hk _ (I'++I2++I3) ⟨Nat.lt_of_lt_of_le h.rb (Nat.le_of_eq hnb.symm),Nat.lt_of_lt_of_le h.wb (Nat.le_of_eq hnb.symm),Nat.lt_of_lt_of_le h.mb (Nat.le_of_eq hnb.symm),h.rw_,h.rm,h.wm,v',ov,hv,wo,FG t (.bool true) es,I',I2,I3,by simp[St.put],?_,?_,?_,?_,h6.keep f' d2,h7.keep f' d3,?_,rfl⟩ ⟨Nat.le_of_eq hnb.symm,f.nt,fun x hx _ hm _=>by simp[St.put,hx,hbx,hm],fun id g1 g2=>f.live id g1 fun g3=>g2 (by rw[h9];exact List.mem_append.2 (.inl (List.mem_append.2 (.inl g3)))),fun id hid=>?_⟩
 ·simp[St.put,Ne.symm hrw,hbx,hwm];exact h2
 ·simp[St.put,Ne.symm hrm,hbx]
 ·intro t'
  have:=h4 t'
  rw[KI]
  by_cases he:t'=t
  ·rw[if_pos he,if_pos (List.mem_append.2 (.inr (List.mem_singleton.2 he)))]
  ·rw[if_neg he,this]
   by_cases hm:t'∈A.names
   ·rw[if_pos hm,if_pos (List.mem_append.2 (.inl hm))]
   ·rw[if_neg hm,if_neg (fun h=>(List.mem_append.1 h).elim hm fun h=>he (List.mem_singleton.1 h))]
 ·have:=ho
  show Cr 1 _ v' (A.names++[t]).length ((A.names++[t]).map TV.str) I'
  rw[List.length_append,List.map_append]
  rcases this with h | h | ⟨id,q1,q2,q3,q4⟩
  ·exact .inl h
  ·exact .inr (.inl h)
  ·exact .inr (.inr ⟨id,q1,q2,q3,q4⟩)
 ·rcases hI with rfl | rfl
  ·exact h8
  ·rw[List.nodup_append,List.nodup_append]
   refine⟨⟨by simp,hnd1.2.1,fun a ha b' hb e=>?_⟩,hnd.2.1,fun a ha b' hb e=>?_⟩
   ·rw[List.mem_singleton]at ha
    have:=h6.lt b' hb
    have ha:a=st.nt:=ha
    omega
   ·have:=h7.lt b' hb
    rcases List.mem_append.1 ha with ha | ha
    ·rw[List.mem_singleton]at ha
     have ha:a=st.nt:=ha
     omega
    ·exact hnd.2.2 a (List.mem_append.2 (.inr ha)) b' hb e
 ·rcases List.mem_append.1 hid with hid | hid
  ·rcases List.mem_append.1 hid with hid | hid
   ·exact(hsub id hid).imp (fun g=>by rw[h9];exact List.mem_append.2 (.inl (List.mem_append.2 (.inl g)))) fun g=>g
   ·exact .inl (by rw[h9];exact List.mem_append.2 (.inl (List.mem_append.2 (.inr hid))))
  ·exact .inl (by rw[h9];exact List.mem_append.2 (.inr hid))
end
end
section
section
variable {c:SC} {X:RX} {A:RA} {r w m:Nat} {I:List Nat} {st:St}
theorem HC (h:RB c X A r w m I st) (hb:0<=A.nodes/\A.nodes<=100000000) {K:St->Prop} (hk:∀st',RB c X (CK c A) r w m I st'->FrB r w m I I st st'->K st'):
  Ae PR Al [.box r 0] [.one .bool] st fun (b:Bool) (st1:St)=>BIf (!b) (Ae PR Ao [.box r 0,.int .i64 3] [] st1 fun (st2:St)=>K st2) (K st1):=by
 refine FU h (AI (fun g=>?_) fun g=>?_)
 ·have g':AK c A=false:=by simpa using g
  have e:CK c A=Bj c A 3:=by unfold CK;rw[if_neg (by rw[g'];decide)]
  rw[e]at hk
  exact Mb h hb hk
 ·have g':AK c A=true:=by simpa using g
  have e:CK c A=A:=if_pos g'
  rw[e]at hk
  exact hk st h (FrB.refl _ _ _ _ _)
theorem Gj (A:RA) (e:Int):(Bk A e).nodes=A.nodes:=(CJ A e).2.2.2.2
theorem HD (h:RB c X A r w m I st) (hb:0<=A.nodes/\A.nodes<=100000000) {K:St->Prop} (hk:∀st',RB c X (CK c (BJ A)) r w m I st'->FrB r w m I I st st'->K st'):
  Ai (Ab st [] (.t (.box r 13)) 0) fun x=>Aj (.int .i64) x fun (n:Int)=>BIf (decide ((0:Int)<n))
   (Ai (Ab st [] (.t (.box r 14)) 0) fun y=>Aj (.int .i64) y fun (n2:Int)=>Ai (Ab st [] (.t (.box r 15)) 0) fun z=>Aj (.int .i64) z fun (n3:Int)=>BIf (decide (n3<=n2))
    (Ae PR AF [.box r 0,.int .i64 10] [] st fun (st1:St)=>Ae PR Al [.box r 0] [.one .bool] st1 fun (b:Bool) (st2:St)=>BIf (!b) (Ae PR Ao [.box r 0,.int .i64 3] [] st2 fun (st3:St)=>K st3) (K st2))
    (Ae PR Al [.box r 0] [.one .bool] st fun (b:Bool) (st2:St)=>BIf (!b) (Ae PR Ao [.box r 0,.int .i64 3] [] st2 fun (st3:St)=>K st3) (K st2)))
   (Ae PR Al [.box r 0] [.one .bool] st fun (b:Bool) (st2:St)=>BIf (!b) (Ae PR Ao [.box r 0,.int .i64 3] [] st2 fun (st3:St)=>K st3) (K st2)):=by
 refine h.ld (k:=13) (x:= .int .i64 (A.rows:Int)) (fun _ _=>rfl) (Ak (Ad (fun g=>?_) fun g=>?_))
 ·refine h.ld (k:=14) (x:= .int .i64 (A.cells:Int)) (fun _ _=>rfl) (Ak (h.ld (k:=15) (x:= .int .i64 (A.width:Int)) (fun _ _=>rfl) (Ak (Ad (fun g2=>?_) fun g2=>?_))))
  ·have e:BJ A=Bk A 10:=if_pos ⟨by omega,by omega⟩
   rw[e]at hk
   exact KV h fun st1 h1 f1=>HC h1 (by rw[Gj];exact hb) fun st2 h2 f2=>hk st2 h2 (f1.trans f2)
  ·have e:BJ A=A:=if_neg (fun q=>by omega)
   rw[e]at hk
   exact HC h hb hk
 ·have e:BJ A=A:=if_neg (fun q=>by omega)
  rw[e]at hk
  exact HC h hb hk
theorem MC (c:SC) (A:RA) (d:Int):(Bj c A d).nodes=A.nodes+1:=by
 unfold Bj DP
 split
 ·show(Bk A 9).nodes+1=_;rw[Gj]
 ·split
  ·show(Bk A 10).nodes+1=_;rw[Gj]
  ·rfl
theorem Mf (h:RB c X A r w m I st) (hb:0<=A.nodes/\A.nodes<=90000000) {o:Int} {K:St->Prop} (hk:∀st',RB c X (AD c A o) r w m I st'->FrB r w m I I st st'->K st'):
  Ae PR AQ [.box r 0,.int .i64 o] [] st K:=by
 unfold AD at hk
 refine DT r o st K (h.put X {A with frm:=o} (by decide) rfl rfl rfl (fun _ _=>rfl) fun st1 h1 f1=>?_)
 refine h1.ld (k:=12) (x:= .bool A.within) (fun _ _=>rfl) (Bg (AI (fun g=>?_) fun g=>?_))
 ·have g':¬A.within=true:=by simpa using g
  refine h1.put X {A with frm:=o,within:=true} (by decide) rfl rfl rfl (fun _ _=>rfl) fun st2 h2 f2=>h2.put X {A with frm:=o,within:=true,cells:=0} (by decide) rfl rfl rfl (fun _ _=>rfl) fun st3 h3 f3=>?_
  refine FU h3 (AI (fun g2=>?_) fun g2=>?_)
  ·have g2':AK c A=false:=(Bool.not_eq_true' _).mp g2
   have e:AC c A o=Bj c {A with frm:=o,within:=true,cells:=0} 2:=by unfold AC;rw[if_neg g',if_neg (by rw[g2'];decide)]
   rw[e]at hk
   exact Mb h3 ⟨hb.1,by show A.nodes<=_;omega⟩ fun st4 h4 f4=>HD h4 (by rw[MC];exact⟨by show 0<=A.nodes+1;omega,by show A.nodes+1<=_;omega⟩) fun st5 h5 f5=>hk st5 h5 ((((f1.trans f2).trans f3).trans f4).trans f5)
  ·have g2':AK c A=true:=(Bool.not_eq_false' _).mp g2
   have e:AC c A o={A with frm:=o,within:=true,cells:=0}:=by unfold AC;rw[if_neg g',if_pos g2']
   rw[e]at hk
   exact HD h3 ⟨hb.1,by show A.nodes<=_;omega⟩ fun st5 h5 f5=>hk st5 h5 (((f1.trans f2).trans f3).trans f5)
 ·have g':A.within=true:=by simpa using g
  have e:AC c A o={A with frm:=o}:=if_pos g'
  rw[e]at hk
  exact HD h1 ⟨hb.1,by show A.nodes<=_;omega⟩ fun st5 h5 f5=>hk st5 h5 (f1.trans f5)
end
end
section
section
variable {c:SC} {X:RX} {A:RA} {r w m:Nat} {I:List Nat} {st:St}
def S4 (B:RA):RA:={B with rows:=B.rows+1,within:=false,ph:=0}
theorem Ja (h:RB c X A r w m I st) (hr:A.rows<=100000000) {K:St->Prop} (hk:∀st',RB c X (S4 A) r w m I st'->FrB r w m I I st st'->K st'):
  need (Aa (.box r 0)) (need (Aa (.box r 0)) (Ai (Ab st [] (.t (Ah (.box r 0) 13)) 0) fun (x:TV)=>Aj (.int .i64) x fun (n:Int)=>
   need (Aa (.box r 0)) (need (Aa (.box r 0)) (stB st (Ah (.box r 0) 13) [.int .i64 (i64.wrap (n+1))] fun (st1:St)=>
   need (Aa (.box r 0)) (need (Aa (.box r 0)) (stB st1 (Ah (.box r 0) 12) [.bool false] fun (st2:St)=>
   need (Aa (.box r 0)) (need (Aa (.box r 0)) (stB st2 (Ah (.box r 0) 10) [.int .i64 0] fun (st3:St)=>K st3)))))))):=by
 refine Ac rfl (Ac rfl (h.ld (k:=13) (x:= .int .i64 (A.rows:Int)) (fun _ _=>rfl) (Ak ?_)))
 rw[Ar _ (by omega) (by omega)]
 refine Ac rfl (Ac rfl (h.put (k:=13) X {A with rows:=A.rows+1} (by decide) rfl rfl rfl (fun _ _=>rfl) fun st1 h1 f1=>?_))
 refine Ac rfl (Ac rfl (h1.put (k:=12) X {A with rows:=A.rows+1,within:=false} (by decide) rfl rfl rfl (fun _ _=>rfl) fun st2 h2 f2=>?_))
 refine Ac rfl (Ac rfl (h2.put (k:=10) X (S4 A) (by decide) rfl rfl rfl (fun _ _=>rfl) fun st3 h3 f3=>?_))
 exact hk st3 h3 ((f1.trans f2).trans f3)
theorem QV (A:RA):(BL A).held=A.held/\(BL A).out=A.out/\(BL A).rows=A.rows:=by
 unfold BL;split<;>exact⟨rfl,rfl,rfl⟩
theorem HA (h:RB c X A r w m I st) (hl:A.held.length<=100000000) (hr:A.rows<=100000000) (ho:A.out.length<=100000000) {o:Int} {K:St->Prop} (hk:∀st' I',RB c X (AB c A o) r w m I' st'->FrB r w m I I' st st'->K st'):
  Ae PR Aq [.box r 0,.int .i64 o] [] st K:=by
 refine DE r o st K (h.ld (k:=28) (x:= .int .i64 A.err) (fun _ _=>rfl) (Ak (Ad (fun g=>?_) fun g=>?_)))
 ·have e:AB c A o=A:=if_pos g
  rw[e]at hk
  exact hk st I h (FrB.refl _ _ _ _ _)
 have e:AB c A o=BR c (BL A) o:=if_neg g
 rw[e]at hk
 refine⟨fun r1 o1 st1=>r1= .box r 0/\o1=o/\RB c X (BL A) r w m I st1/\FrB r w m I I st st1,h.ld (k:=13) (x:= .int .i64 (A.rows:Int)) (fun _ _=>rfl) (Ak (Ad (fun g2=>?_) fun g2=>?_)),?_⟩
 ·have ew:BL A={A with width:=A.cells,told:=true}:=if_pos (by omega)
  rw[ew]
  refine h.ld (k:=14) (x:= .int .i64 (A.cells:Int)) (fun _ _=>rfl) (Ak (h.put X {A with width:=A.cells} (by decide) rfl rfl rfl (fun _ _=>rfl) fun st1 h1 f1=>h1.put X {A with width:=A.cells,told:=true} (by decide) rfl rfl rfl (fun _ _=>rfl) fun st2 h2 f2=>⟨rfl,rfl,h2,f1.trans f2⟩))
 ·have ew:BL A=A:=if_neg (by omega)
  rw[ew]
  exact⟨rfl,rfl,h,FrB.refl _ _ _ _ _⟩
 rintro r1 o1 st3 ⟨rfl,rfl,h3,f3⟩
 obtain⟨w1,w2,w3⟩:=QV A
 generalize BL A=B at*
 refine Ac rfl (Ac rfl (h3.ld (k:=14) (x:= .int .i64 (B.cells:Int)) (fun _ _=>rfl) (Ak (Ac rfl (Ac rfl (h3.ld (k:=15) (x:= .int .i64 (B.width:Int)) (fun _ _=>rfl) (Ak (Ad (fun g2=>?_) fun g2=>?_))))))))
 ·have e2:BR c B o1=AZ B o1 10:=if_pos (by omega)
  rw[e2]at hk
  exact BF h3 (by rw[w1];exact hl) fun st4 I' h4 f4=>hk st4 I' h4 (f3.trans f4)
 have e2:BR c B o1={B with out:=B.out++(if AK c B=true then []else [if c.hd then .me else .le]),rows:=B.rows+1,within:=false,ph:=0}:=if_neg (by omega)
 rw[e2]at hk
 have hout:B.out.length<=100000000:=by rw[w2];exact ho
 refine FU h3 (AI (fun g3=>?_) fun g3=>?_)
 ·have g3':AK c B=false:=(Bool.not_eq_true' _).mp g3
  rw[if_neg (by rw[g3'];decide)]at hk
  refine Ac rfl (Ac rfl (Ac rfl (h3.ld (k:=3) (x:= .bool c.hd) (fun _ _=>rfl) (Bg (AI (fun g4=>?_) fun g4=>?_)))))
  ·rw[if_pos g4]at hk
   obtain⟨v,hv,hA⟩:=h3.outK hout (evs:=[Ev.me]) (by decide)
   refine Ac rfl (Ac rfl (Ag hv (hA _ (fun v' st6 h1 hst=>?_) _)))
   refine Ac rfl (Ac rfl (Ac (by rw[List.all_cons,h1];rfl) (hst _ fun st7 I' h7 f7=>?_)))
   exact Ja h7 (by show B.rows<=_;rw[w3];exact hr) fun st8 h8 f8=>hk st8 I' h8 ((f3.trans f7).trans f8)
  ·rw[if_neg (by rw[g4];decide)]at hk
   obtain⟨v,hv,hA⟩:=h3.outK hout (evs:=[Ev.le]) (by decide)
   refine Ac rfl (Ac rfl (Ag hv (hA _ (fun v' st6 h1 hst=>?_) _)))
   refine Ac rfl (Ac rfl (Ac (by rw[List.all_cons,h1];rfl) (hst _ fun st7 I' h7 f7=>?_)))
   exact Ja h7 (by show B.rows<=_;rw[w3];exact hr) fun st8 h8 f8=>hk st8 I' h8 ((f3.trans f7).trans f8)
 ·have g3':AK c B=true:=(Bool.not_eq_false' _).mp g3
  rw[if_pos g3',List.append_nil]at hk
  exact Ja h3 (by rw[w3];exact hr) fun st8 h8 f8=>hk st8 I h8 (f3.trans f8)
end
end
section
theorem decA4 {a q:Int} {hd ty:Bool} {f:Int->Int->Bool->Bool->Prop} (h:f a q hd ty):EK [.int .u8,.int .u8,.bool,.bool] (.agg [.int .u8 a,.int .u8 q,.bool hd,.bool ty]) f:=h
section
variable {c:SC} {X:RX} {A:RA} {r w m:Nat} {I:List Nat} {st:St}
theorem RB.ext {st':St} (h:RB c X A r w m I st) (e:Cq st st'):RB c X A r w m I st'/\FrB r w m I I st st':=by
 obtain⟨nv,ov,hv,wo,es,I1,I2,I3,h1,h2,h3,h4,h5,h6,h7,h8,h9⟩:=h.ex
 have f:FrT [] st st':=⟨e.nt,fun id hi _=>e.live id hi⟩
 refine⟨⟨Nat.lt_of_lt_of_le h.rb e.nb,Nat.lt_of_lt_of_le h.wb e.nb,Nat.lt_of_lt_of_le h.mb e.nb,h.rw_,h.rm,h.wm,nv,ov,hv,wo,es,I1,I2,I3,by rw[e.box _ h.rb];exact h1,by rw[e.box _ h.wb];exact h2,by rw[e.box _ h.mb];exact h3,h4,h5.keep f (fun _ _ h=>by cases h),h6.keep f (fun _ _ h=>by cases h),h7.keep f (fun _ _ h=>by cases h),h8,h9⟩,
  ⟨e.nb,e.nt,fun b _ _ _ hb=>e.box b hb,fun id hi _=>e.live id hi,fun _ h=> .inl h⟩⟩
theorem K0 (h:RB c X A r w m I st) (hl:A.names.length<=100000000) (hc:A.cells<=100000000) {t:B8} {K:St->Prop}
  (hk:∀st' I',RB c X {A with names:=A.names++[t],cells:=A.cells+1} r w m I' st'->FrB r w m I I' st st'->K st'):
  need (Aa (.box r 0)) (need (Aa (.box r 0)) (Ai (Ab st [] (.t (Ah (.box r 0) 17)) 0) fun (v3:TV)=>muK v3 t (.bool true) st fun (st8:St)=>
   need (Aa (.box r 0)) (need (Aa (.box r 0)) (Ai (Ab st8 [] (.t (Ah (.box r 0) 16)) 0) fun (v4:TV)=>AU 9 1 16 v4 1 [.str t] st8 fun (v5:TV) (st9:St)=>
   need (Aa (.box r 0)) (need (Aa (.box r 0)) (need (List.all [v5] Aw) (stB st9 (Ah (.box r 0) 16) [v5] fun (st10:St)=>
   need (Aa (.box r 0)) (need (Aa (.box r 0)) (Ai (Ab st10 [] (.t (Ah (.box r 0) 14)) 0) fun (x12:TV)=>Aj (.int .i64) x12 fun (n9:Int)=>
   need (Aa (.box r 0)) (need (Aa (.box r 0)) (stB st10 (Ah (.box r 0) 14) [.int .i64 (i64.wrap (n9+1))] fun (st11:St)=>K st11))))))))))):=by
 obtain⟨es,v,q1,q2,q3,q4,hA⟩:=h.nameK hl (t:=t)
 refine Ac rfl (Ac rfl (Ag q1 ⟨es,q2,Ac rfl (Ac rfl (Ag q4 (hA _ (fun v' st9 h1 hst=>?_) _)))⟩))
 refine Ac rfl (Ac rfl (Ac (by rw[List.all_cons,h1];rfl) (hst _ fun st10 I' h10 f10=>?_)))
 refine Ac rfl (Ac rfl (h10.ld (k:=14) (x:= .int .i64 (A.cells:Int)) (fun _ _=>rfl) (Ak ?_)))
 rw[Ar _ (by omega) (by omega)]
 exact Ac rfl (Ac rfl (h10.put (k:=14) X {A with names:=A.names++[t],cells:=A.cells+1} (by decide) rfl rfl rfl (fun _ _=>rfl) fun st11 h11 f11=>hk st11 I' h11 (f10.trans f11)))
theorem QG (h:RB c X A r w m I st) (hl:A.out.length<=100000000) (hc:A.cells<=100000000) {t:B8} (ht:t.length<=1000000) {qd:Bool} {K:St->Prop}
  (hk:∀st' I',RB c X {A with out:=A.out++[.val (Dj c.ty qd t)],cells:=A.cells+1} r w m I' st'->FrB r w m I I' st st'->K st'):
  need (Aa (.box r 0)) (need (Aa (.box r 0)) (Ai (Ab st [] (.t (Ah (.box r 0) 26)) 0) fun (v18:TV)=>
   need (Aa (.box r 0)) (need (Aa (.box r 0)) (Ai ((AA st [] (.t (Ah (.box r 0) 1)) 0 4).map TV.agg) fun (x31:TV)=>EK [.int .u8,.int .u8,.bool,.bool] x31 fun (n16:Int) (n17:Int) (b5:Bool) (b6:Bool)=>
   Ae PR Ax [.str t,.bool qd,.agg [.int .u8 n16,.int .u8 n17,.bool b5,.bool b6]] [.agg [.int .i64,.bool,.bool,.str,.int .i64,.int .i64,.int .i64,.int .i64,.int .i64,.str,.tv,.tv,.tv]] st
    fun (n18:Int) (b7:Bool) (b8:Bool) (s5:B8) (n19:Int) (n20:Int) (n21:Int) (n22:Int) (n23:Int) (s6:B8) (v19:TV) (v20:TV) (v21:TV) (st26:St)=>(Ab st26 [] (.t (Ah (.box r 0) 26)) 0=some v18/\
    need (List.all [(.int .i64 (1:Int)),(.str ([]:B8)),(.int .i64 n18),(.bool b7),(.bool b8),(.str s5),(.int .i64 n19),(.int .i64 n20),(.int .i64 n21),(.int .i64 n22),(.int .i64 n23),(.str s6),v19,v20,v21] Aw)
     (AU 118 15 192 v18 1 [(.int .i64 (1:Int)),(.str ([]:B8)),(.int .i64 n18),(.bool b7),(.bool b8),(.str s5),(.int .i64 n19),(.int .i64 n20),(.int .i64 n21),(.int .i64 n22),(.int .i64 n23),(.str s6),v19,v20,v21] st26 fun (v22:TV) (st27:St)=>
     need (Aa (.box r 0)) (need (Aa (.box r 0)) (need (List.all [v22] Aw) (stB st27 (Ah (.box r 0) 26) [v22] fun (st28:St)=>
     need (Aa (.box r 0)) (need (Aa (.box r 0)) (Ai (Ab st28 [] (.t (Ah (.box r 0) 14)) 0) fun (x32:TV)=>Aj (.int .i64) x32 fun (n24:Int)=>
     need (Aa (.box r 0)) (need (Aa (.box r 0)) (stB st28 (Ah (.box r 0) 14) [.int .i64 (i64.wrap (n24+1))] fun (st29:St)=>K st29))))))))))))):=by
 obtain⟨v,q1,_⟩:=h.outK hl (evs:=[Ev.val (Dj c.ty qd t)]) (by simp)
 have l1:=h.at (k:=1) (x:= .int .u8 c.a) fun _ _=>rfl
 have l2:=h.at (k:=2) (x:= .int .u8 c.q) fun _ _=>rfl
 have l3:=h.at (k:=3) (x:= .bool c.hd) fun _ _=>rfl
 have l4:=h.at (k:=4) (x:= .bool c.ty) fun _ _=>rfl
 refine Ac rfl (Ac rfl (Ag q1 (Ac rfl (Ac rfl (Ag (x:= .agg [.int .u8 c.a,.int .u8 c.q,.bool c.hd,.bool c.ty]) ?_ (decA4 ?_))))))
 ·obtain⟨nv,ov,hv,wo,es,I1,I2,I3,h1,_⟩:=h.ex
  have g:∀k j,Ab st [] (.t (Ah (.box r 0) k)) j=Ab st [] (.t (.box r (k+j))) 0:=fun k j=>by simp[Ab,Ah,h1]
  simp only[AA,g,l1,l2,l3,l4,Option.map,Nat.reduceAdd]
 refine SJ ht fun st1 e1=>?_
 obtain⟨h1,f1⟩:=h.ext e1
 obtain⟨v',q1',hA⟩:=h1.outK hl (evs:=[Ev.val (Dj c.ty qd t)]) (by simp)
 have hb:st1.box r=st.box r:=e1.box _ h.rb
 have hq:Ab st1 [] (.t (.box r 26)) 0=Ab st [] (.t (.box r 26)) 0:=by simp only[Ab,hb]
 have hv:v'=v:=Option.some.inj (by rw[<-q1',hq];exact q1)
 subst hv
 refine⟨q1',Ac rfl (hA _ (fun v' st9 o1 hst=>?_) _)⟩
 refine Ac rfl (Ac rfl (Ac (by rw[List.all_cons,o1];rfl) (hst _ fun st10 I' h10 f10=>?_)))
 refine Ac rfl (Ac rfl (h10.ld (k:=14) (x:= .int .i64 (A.cells:Int)) (fun _ _=>rfl) (Ak ?_)))
 rw[Ar _ (by omega) (by omega)]
 exact Ac rfl (Ac rfl (h10.put (k:=14) X {A with out:=A.out++[.val (Dj c.ty qd t)],cells:=A.cells+1} (by decide) rfl rfl rfl (fun _ _=>rfl) fun st11 h11 f11=>hk st11 I' h11 ((f1.trans f10).trans f11)))
end
end
section
section
variable {c:SC} {X:RX} {A:RA} {r w m:Nat} {I:List Nat} {st:St}
theorem RB.nm (h:RB c X A r w m I st) (hn:A.cells<A.names.length):∃v,Ab st [] (.t (.box r 16)) 0=some v/\A.cells<lenZ 1 v/\Ab st [] (.t (ixT 1 v A.cells)) 0=some (.str (A.names.getD A.cells [])):=by
 obtain⟨nv,ov,hv,wo,es,I1,I2,I3,h1,h2,h3,h4,h5,h6,h7,h8,h9⟩:=h.ex
 refine⟨nv,by simp only[Ab,h1];rfl,by rw[h5.rd.lenZ];exact hn,?_⟩
 rw[h5.rd.ld st A.cells 0 (by simp;exact hn)]
 simp[List.getD_eq_getElem?_getD,hn]
theorem KX (h:RB c X A r w m I st) (hl:A.out.length<=90000000) (hc:A.cells<=100000000) {t:B8} (ht:t.length<=1000000) {qd:Bool} {K:St->Prop} (hn:c.hd=true->A.cells<A.names.length)
  (hk:∀st' I',RB c X {A with cells:=A.cells+1,out:=A.out++((if c.hd then [Ev.key (A.names.getD A.cells [])]else [])++[.val (Dj c.ty qd t)])} r w m I' st'->FrB r w m I I' st st'->K st'):
  (need (Aa (.box r 0)) (need (Aa (.box r 0)) (need (Aa (Ah (.box r 0) 1)) (Ai (Ab st [] (.t (Ah (Ah (.box r 0) 1) 2)) 0) (fun (x48:TV)=>Aj (.bool) x48 (fun (b22:Bool)=>BIf b22 (need (Aa (.box r 0)) (need (Aa (.box r 0)) (Ai (Ab st [] (.t (Ah (.box r 0) 26)) 0) (fun (v43:TV)=>need (Aa (.box r 0)) (need (Aa (.box r 0)) (Ai (Ab st [] (.t (Ah (.box r 0) 16)) 0) (fun (v44:TV)=>need (Aa (.box r 0)) (need (Aa (.box r 0)) (Ai (Ab st [] (.t (Ah (.box r 0) 14)) 0) (fun (x51:TV)=>Aj (.int .i64) x51 (fun (n53:Int)=>((0<=n53/\n53<(lenZ 1 v44:Int))/\Ai (Ab st [] (.t (ixT 1 v44 (Int.toNat n53))) 0) (fun (x52:TV)=>Aj (.str) x52 (fun (s14:B8)=>AU 118 15 192 v43 1 [(.int .i64 (6:Int)),(.str s14),(.int .i64 (0:Int)),(.bool false),(.bool false),(.str ([]:B8)),(.int .i64 (0:Int)),(.int .i64 (0:Int)),(.int .i64 (0:Int)),(.int .i64 (0:Int)),(.int .i64 (0:Int)),(.str ([]:B8)),.nilSlice,.nilSlice,.nilSlice] st (fun (v45:TV) (st46:St)=>need (Aa (.box r 0)) (need (Aa (.box r 0)) (need (List.all [v45] Aw) (stB st46 (Ah (.box r 0) 26) [v45] (fun (st47:St)=>need (Aa (.box r 0)) (need (Aa (.box r 0)) (Ai (Ab st47 [] (.t (Ah (.box r 0) 26)) 0) (fun (v46:TV)=>need (Aa (.box r 0)) (need (Aa (.box r 0)) (Ai ((AA st47 [] (.t (Ah (.box r 0) 1)) 0 4).map TV.agg) (fun (x54:TV)=>EK [.int .u8,.int .u8,.bool,.bool] x54 (fun (n54:Int) (n55:Int) (b23:Bool) (b24:Bool)=>Ae PR Ax [(.str t),(.bool qd),(.agg [(.int .u8 n54),(.int .u8 n55),(.bool b23),(.bool b24)])] [.agg [.int .i64,.bool,.bool,.str,.int .i64,.int .i64,.int .i64,.int .i64,.int .i64,.str,.tv,.tv,.tv]] st47 (fun (n56:Int) (b25:Bool) (b26:Bool) (s15:B8) (n57:Int) (n58:Int) (n59:Int) (n60:Int) (n61:Int) (s16:B8) (v47:TV) (v48:TV) (v49:TV) (st48:St)=>(Ab st48 [] (.t (Ah (.box r 0) 26)) 0=some v46/\need (List.all [(.int .i64 (1:Int)),(.str ([]:B8)),(.int .i64 n56),(.bool b25),(.bool b26),(.str s15),(.int .i64 n57),(.int .i64 n58),(.int .i64 n59),(.int .i64 n60),(.int .i64 n61),(.str s16),v47,v48,v49] Aw) (AU 118 15 192 v46 1 [(.int .i64 (1:Int)),(.str ([]:B8)),(.int .i64 n56),(.bool b25),(.bool b26),(.str s15),(.int .i64 n57),(.int .i64 n58),(.int .i64 n59),(.int .i64 n60),(.int .i64 n61),(.str s16),v47,v48,v49] st48 (fun (v50:TV) (st49:St)=>need (Aa (.box r 0)) (need (Aa (.box r 0)) (need (List.all [v50] Aw) (stB st49 (Ah (.box r 0) 26) [v50] (fun (st50:St)=>need (Aa (.box r 0)) (need (Aa (.box r 0)) (Ai (Ab st50 [] (.t (Ah (.box r 0) 14)) 0) (fun (x55:TV)=>Aj (.int .i64) x55 (fun (n62:Int)=>need (Aa (.box r 0)) (need (Aa (.box r 0)) (stB st50 (Ah (.box r 0) 14) [(.int .i64 (i64.wrap (n62+(1:Int))))] (fun (st51:St)=>K st51))))))))))))))))))))))))))))))))))))))))) (need (Aa (.box r 0)) (need (Aa (.box r 0)) (Ai (Ab st [] (.t (Ah (.box r 0) 26)) 0) (fun (v51:TV)=>need (Aa (.box r 0)) (need (Aa (.box r 0)) (Ai ((AA st [] (.t (Ah (.box r 0) 1)) 0 4).map TV.agg) (fun (x57:TV)=>EK [.int .u8,.int .u8,.bool,.bool] x57 (fun (n63:Int) (n64:Int) (b27:Bool) (b28:Bool)=>Ae PR Ax [(.str t),(.bool qd),(.agg [(.int .u8 n63),(.int .u8 n64),(.bool b27),(.bool b28)])] [.agg [.int .i64,.bool,.bool,.str,.int .i64,.int .i64,.int .i64,.int .i64,.int .i64,.str,.tv,.tv,.tv]] st (fun (n65:Int) (b29:Bool) (b30:Bool) (s17:B8) (n66:Int) (n67:Int) (n68:Int) (n69:Int) (n70:Int) (s18:B8) (v52:TV) (v53:TV) (v54:TV) (st52:St)=>(Ab st52 [] (.t (Ah (.box r 0) 26)) 0=some v51/\need (List.all [(.int .i64 (1:Int)),(.str ([]:B8)),(.int .i64 n65),(.bool b29),(.bool b30),(.str s17),(.int .i64 n66),(.int .i64 n67),(.int .i64 n68),(.int .i64 n69),(.int .i64 n70),(.str s18),v52,v53,v54] Aw) (AU 118 15 192 v51 1 [(.int .i64 (1:Int)),(.str ([]:B8)),(.int .i64 n65),(.bool b29),(.bool b30),(.str s17),(.int .i64 n66),(.int .i64 n67),(.int .i64 n68),(.int .i64 n69),(.int .i64 n70),(.str s18),v52,v53,v54] st52 (fun (v55:TV) (st53:St)=>need (Aa (.box r 0)) (need (Aa (.box r 0)) (need (List.all [v55] Aw) (stB st53 (Ah (.box r 0) 26) [v55] (fun (st54:St)=>need (Aa (.box r 0)) (need (Aa (.box r 0)) (Ai (Ab st54 [] (.t (Ah (.box r 0) 14)) 0) (fun (x58:TV)=>Aj (.int .i64) x58 (fun (n71:Int)=>need (Aa (.box r 0)) (need (Aa (.box r 0)) (stB st54 (Ah (.box r 0) 14) [(.int .i64 (i64.wrap (n71+(1:Int))))] (fun (st55:St)=>K st55))))))))))))))))))))))))))))):=by
 refine Ac rfl (Ac rfl (Ac rfl (h.ld (k:=3) (x:= .bool c.hd) (fun _ _=>rfl) (Bg (AI (fun g=>?_) fun g=>?_)))))
 ·rw[if_pos g]at hk
  obtain⟨nv,n1,n2,n3⟩:=h.nm (hn g)
  obtain⟨v,q1,hA⟩:=h.outK (by omega) (evs:=[Ev.key (A.names.getD A.cells [])]) (by simp)
  refine Ac rfl (Ac rfl (Ag q1 (Ac rfl (Ac rfl (Ag n1 (Ac rfl (Ac rfl (h.ld (k:=14) (x:= .int .i64 (A.cells:Int)) (fun _ _=>rfl) (Ak ⟨⟨by omega,by omega⟩,Ag (by rw[Int.toNat_natCast];exact n3) (AG (hA _ (fun v' st9 o1 hst=>?_) _))⟩)))))))))
  refine Ac rfl (Ac rfl (Ac (by rw[List.all_cons,o1];rfl) (hst _ fun st10 I' h10 f10=>?_)))
  refine QG h10 (by show(A.out++[_]).length<=_;simp only[List.length_append,List.length_singleton];omega) hc ht fun st11 I2 h11 f11=>hk st11 I2 ?_ (f10.trans f11)
  rw[<-List.append_assoc];exact h11
 ·rw[if_neg (by rw[g];decide),List.nil_append]at hk
  exact QG h (by omega) hc ht hk
def Jj (c:SC) (A:RA) (t:B8) (qd:Bool):RA:=
 if AK c A=true then
  let B:=if 1024<t.length then AZ A A.frm 10 else if t∈A.names then AZ A A.frm 8 else A
  {B with names:=A.names++[t],cells:=A.cells+1}
 else if 65536<t.length then AZ A A.frm 10
 else {A with cells:=A.cells+1,out:=A.out++((if A.cells=0 then [if c.hd then .ms else .ls]else [])++((if c.hd then [Ev.key (A.names.getD A.cells [])]else [])++[.val (Dj c.ty qd t)]))}
theorem HF (c:SC) (A:RA) (h:¬A.late≠0):AO c A=Jj c {A with held:=[]} (txt c.q A.held) (Ct c.q A.held):=by
 unfold AO
 rw[if_neg h]
 rfl
theorem OB (A:RA) (o e:Int):(AZ A o e).names=A.names/\(AZ A o e).cells=A.cells:=by
 unfold AZ;split<;>exact⟨rfl,rfl⟩
theorem OL (h:RB c X A r w m I st) (hh:A.held=[]) (hl:A.out.length<=80000000) (hc:A.cells<=100000000) (hnl:A.names.length<=100000000) {t:B8} (ht:t.length<=1000000) {qd:Bool} {K:St->Prop}
  (hn:c.hd=true->AK c A=false->A.cells<A.names.length)
  (hk:∀st' I',RB c X (Jj c A t qd) r w m I' st'->FrB r w m I I' st st'->K st'):
  (Ae PR Al [(.box r 0)] [.one (.bool)] st (fun (b1:Bool) (st6:St)=>BIf b1 (BIf (decide ((1024:Int)<((t).length:Int))) (need (Aa (.box r 0)) (need (Aa (.box r 0)) (Ai (Ab st6 [] (.t (Ah (.box r 0) 20)) 0) (fun (x9:TV)=>Aj (.int .i64) x9 (fun (n8:Int)=>Ae PR Af [(.box r 0),(.int .i64 n8),(.int .i64 (10:Int))] [] st6 (fun (st7:St)=>need (Aa (.box r 0)) (need (Aa (.box r 0)) (Ai (Ab st7 [] (.t (Ah (.box r 0) 17)) 0) (fun (v3:TV)=>muK v3 t (.bool true) st7 (fun (st8:St)=>need (Aa (.box r 0)) (need (Aa (.box r 0)) (Ai (Ab st8 [] (.t (Ah (.box r 0) 16)) 0) (fun (v4:TV)=>AU 9 1 16 v4 1 [(.str t)] st8 (fun (v5:TV) (st9:St)=>need (Aa (.box r 0)) (need (Aa (.box r 0)) (need (List.all [v5] Aw) (stB st9 (Ah (.box r 0) 16) [v5] (fun (st10:St)=>need (Aa (.box r 0)) (need (Aa (.box r 0)) (Ai (Ab st10 [] (.t (Ah (.box r 0) 14)) 0) (fun (x12:TV)=>Aj (.int .i64) x12 (fun (n9:Int)=>need (Aa (.box r 0)) (need (Aa (.box r 0)) (stB st10 (Ah (.box r 0) 14) [(.int .i64 (i64.wrap (n9+(1:Int))))] (fun (st11:St)=>K st11))))))))))))))))))))))))) (need (Aa (.box r 0)) (need (Aa (.box r 0)) (Ai (Ab st6 [] (.t (Ah (.box r 0) 17)) 0) (fun (v6:TV)=>Ai (G9 st6 v6) (fun (es1:List (B8×TV))=>Aj (.bool) (IQ (.bool false) (Cv t es1)) (fun (b2:Bool)=>BIf b2 (need (Aa (.box r 0)) (need (Aa (.box r 0)) (Ai (Ab st6 [] (.t (Ah (.box r 0) 20)) 0) (fun (x14:TV)=>Aj (.int .i64) x14 (fun (n10:Int)=>Ae PR Af [(.box r 0),(.int .i64 n10),(.int .i64 (8:Int))] [] st6 (fun (st12:St)=>need (Aa (.box r 0)) (need (Aa (.box r 0)) (Ai (Ab st12 [] (.t (Ah (.box r 0) 17)) 0) (fun (v7:TV)=>muK v7 t (.bool true) st12 (fun (st13:St)=>need (Aa (.box r 0)) (need (Aa (.box r 0)) (Ai (Ab st13 [] (.t (Ah (.box r 0) 16)) 0) (fun (v8:TV)=>AU 9 1 16 v8 1 [(.str t)] st13 (fun (v9:TV) (st14:St)=>need (Aa (.box r 0)) (need (Aa (.box r 0)) (need (List.all [v9] Aw) (stB st14 (Ah (.box r 0) 16) [v9] (fun (st15:St)=>need (Aa (.box r 0)) (need (Aa (.box r 0)) (Ai (Ab st15 [] (.t (Ah (.box r 0) 14)) 0) (fun (x17:TV)=>Aj (.int .i64) x17 (fun (n11:Int)=>need (Aa (.box r 0)) (need (Aa (.box r 0)) (stB st15 (Ah (.box r 0) 14) [(.int .i64 (i64.wrap (n11+(1:Int))))] (fun (st16:St)=>K st16))))))))))))))))))))))))) (need (Aa (.box r 0)) (need (Aa (.box r 0)) (Ai (Ab st6 [] (.t (Ah (.box r 0) 17)) 0) (fun (v10:TV)=>muK v10 t (.bool true) st6 (fun (st17:St)=>need (Aa (.box r 0)) (need (Aa (.box r 0)) (Ai (Ab st17 [] (.t (Ah (.box r 0) 16)) 0) (fun (v11:TV)=>AU 9 1 16 v11 1 [(.str t)] st17 (fun (v12:TV) (st18:St)=>need (Aa (.box r 0)) (need (Aa (.box r 0)) (need (List.all [v12] Aw) (stB st18 (Ah (.box r 0) 16) [v12] (fun (st19:St)=>need (Aa (.box r 0)) (need (Aa (.box r 0)) (Ai (Ab st19 [] (.t (Ah (.box r 0) 14)) 0) (fun (x20:TV)=>Aj (.int .i64) x20 (fun (n12:Int)=>need (Aa (.box r 0)) (need (Aa (.box r 0)) (stB st19 (Ah (.box r 0) 14) [(.int .i64 (i64.wrap (n12+(1:Int))))] (fun (st20:St)=>K st20))))))))))))))))))))))))))) (BIf (decide ((65536:Int)<((t).length:Int))) (need (Aa (.box r 0)) (need (Aa (.box r 0)) (Ai (Ab st6 [] (.t (Ah (.box r 0) 20)) 0) (fun (x21:TV)=>Aj (.int .i64) x21 (fun (n13:Int)=>Ae PR Af [(.box r 0),(.int .i64 n13),(.int .i64 (10:Int))] [] st6 (fun (st21:St)=>K st21)))))) (need (Aa (.box r 0)) (need (Aa (.box r 0)) (Ai (Ab st6 [] (.t (Ah (.box r 0) 14)) 0) (fun (x22:TV)=>Aj (.int .i64) x22 (fun (n14:Int)=>BIf (decide (n14=(0:Int))) (need (Aa (.box r 0)) (need (Aa (.box r 0)) (need (Aa (Ah (.box r 0) 1)) (Ai (Ab st6 [] (.t (Ah (Ah (.box r 0) 1) 2)) 0) (fun (x23:TV)=>Aj (.bool) x23 (fun (b3:Bool)=>BIf b3 (need (Aa (.box r 0)) (need (Aa (.box r 0)) (Ai (Ab st6 [] (.t (Ah (.box r 0) 26)) 0) (fun (v13:TV)=>AU 118 15 192 v13 1 [(.int .i64 (4:Int)),(.str ([]:B8)),(.int .i64 (0:Int)),(.bool false),(.bool false),(.str ([]:B8)),(.int .i64 (0:Int)),(.int .i64 (0:Int)),(.int .i64 (0:Int)),(.int .i64 (0:Int)),(.int .i64 (0:Int)),(.str ([]:B8)),.nilSlice,.nilSlice,.nilSlice] st6 (fun (v14:TV) (st22:St)=>need (Aa (.box r 0)) (need (Aa (.box r 0)) (need (List.all [v14] Aw) (stB st22 (Ah (.box r 0) 26) [v14] (fun (st23:St)=>need (Aa (.box r 0)) (need (Aa (.box r 0)) (need (Aa (Ah (.box r 0) 1)) (Ai (Ab st23 [] (.t (Ah (Ah (.box r 0) 1) 2)) 0) (fun (x25:TV)=>Aj (.bool) x25 (fun (b4:Bool)=>BIf b4 (need (Aa (.box r 0)) (need (Aa (.box r 0)) (Ai (Ab st23 [] (.t (Ah (.box r 0) 26)) 0) (fun (v15:TV)=>need (Aa (.box r 0)) (need (Aa (.box r 0)) (Ai (Ab st23 [] (.t (Ah (.box r 0) 16)) 0) (fun (v16:TV)=>need (Aa (.box r 0)) (need (Aa (.box r 0)) (Ai (Ab st23 [] (.t (Ah (.box r 0) 14)) 0) (fun (x28:TV)=>Aj (.int .i64) x28 (fun (n15:Int)=>((0<=n15/\n15<(lenZ 1 v16:Int))/\Ai (Ab st23 [] (.t (ixT 1 v16 (Int.toNat n15))) 0) (fun (x29:TV)=>Aj (.str) x29 (fun (s4:B8)=>AU 118 15 192 v15 1 [(.int .i64 (6:Int)),(.str s4),(.int .i64 (0:Int)),(.bool false),(.bool false),(.str ([]:B8)),(.int .i64 (0:Int)),(.int .i64 (0:Int)),(.int .i64 (0:Int)),(.int .i64 (0:Int)),(.int .i64 (0:Int)),(.str ([]:B8)),.nilSlice,.nilSlice,.nilSlice] st23 (fun (v17:TV) (st24:St)=>need (Aa (.box r 0)) (need (Aa (.box r 0)) (need (List.all [v17] Aw) (stB st24 (Ah (.box r 0) 26) [v17] (fun (st25:St)=>need (Aa (.box r 0)) (need (Aa (.box r 0)) (Ai (Ab st25 [] (.t (Ah (.box r 0) 26)) 0) (fun (v18:TV)=>need (Aa (.box r 0)) (need (Aa (.box r 0)) (Ai ((AA st25 [] (.t (Ah (.box r 0) 1)) 0 4).map TV.agg) (fun (x31:TV)=>EK [.int .u8,.int .u8,.bool,.bool] x31 (fun (n16:Int) (n17:Int) (b5:Bool) (b6:Bool)=>Ae PR Ax [(.str t),(.bool qd),(.agg [(.int .u8 n16),(.int .u8 n17),(.bool b5),(.bool b6)])] [.agg [.int .i64,.bool,.bool,.str,.int .i64,.int .i64,.int .i64,.int .i64,.int .i64,.str,.tv,.tv,.tv]] st25 (fun (n18:Int) (b7:Bool) (b8:Bool) (s5:B8) (n19:Int) (n20:Int) (n21:Int) (n22:Int) (n23:Int) (s6:B8) (v19:TV) (v20:TV) (v21:TV) (st26:St)=>(Ab st26 [] (.t (Ah (.box r 0) 26)) 0=some v18/\need (List.all [(.int .i64 (1:Int)),(.str ([]:B8)),(.int .i64 n18),(.bool b7),(.bool b8),(.str s5),(.int .i64 n19),(.int .i64 n20),(.int .i64 n21),(.int .i64 n22),(.int .i64 n23),(.str s6),v19,v20,v21] Aw) (AU 118 15 192 v18 1 [(.int .i64 (1:Int)),(.str ([]:B8)),(.int .i64 n18),(.bool b7),(.bool b8),(.str s5),(.int .i64 n19),(.int .i64 n20),(.int .i64 n21),(.int .i64 n22),(.int .i64 n23),(.str s6),v19,v20,v21] st26 (fun (v22:TV) (st27:St)=>need (Aa (.box r 0)) (need (Aa (.box r 0)) (need (List.all [v22] Aw) (stB st27 (Ah (.box r 0) 26) [v22] (fun (st28:St)=>need (Aa (.box r 0)) (need (Aa (.box r 0)) (Ai (Ab st28 [] (.t (Ah (.box r 0) 14)) 0) (fun (x32:TV)=>Aj (.int .i64) x32 (fun (n24:Int)=>need (Aa (.box r 0)) (need (Aa (.box r 0)) (stB st28 (Ah (.box r 0) 14) [(.int .i64 (i64.wrap (n24+(1:Int))))] (fun (st29:St)=>K st29))))))))))))))))))))))))))))))))))))))))) (need (Aa (.box r 0)) (need (Aa (.box r 0)) (Ai (Ab st23 [] (.t (Ah (.box r 0) 26)) 0) (fun (v23:TV)=>need (Aa (.box r 0)) (need (Aa (.box r 0)) (Ai ((AA st23 [] (.t (Ah (.box r 0) 1)) 0 4).map TV.agg) (fun (x34:TV)=>EK [.int .u8,.int .u8,.bool,.bool] x34 (fun (n25:Int) (n26:Int) (b9:Bool) (b10:Bool)=>Ae PR Ax [(.str t),(.bool qd),(.agg [(.int .u8 n25),(.int .u8 n26),(.bool b9),(.bool b10)])] [.agg [.int .i64,.bool,.bool,.str,.int .i64,.int .i64,.int .i64,.int .i64,.int .i64,.str,.tv,.tv,.tv]] st23 (fun (n27:Int) (b11:Bool) (b12:Bool) (s7:B8) (n28:Int) (n29:Int) (n30:Int) (n31:Int) (n32:Int) (s8:B8) (v24:TV) (v25:TV) (v26:TV) (st30:St)=>(Ab st30 [] (.t (Ah (.box r 0) 26)) 0=some v23/\need (List.all [(.int .i64 (1:Int)),(.str ([]:B8)),(.int .i64 n27),(.bool b11),(.bool b12),(.str s7),(.int .i64 n28),(.int .i64 n29),(.int .i64 n30),(.int .i64 n31),(.int .i64 n32),(.str s8),v24,v25,v26] Aw) (AU 118 15 192 v23 1 [(.int .i64 (1:Int)),(.str ([]:B8)),(.int .i64 n27),(.bool b11),(.bool b12),(.str s7),(.int .i64 n28),(.int .i64 n29),(.int .i64 n30),(.int .i64 n31),(.int .i64 n32),(.str s8),v24,v25,v26] st30 (fun (v27:TV) (st31:St)=>need (Aa (.box r 0)) (need (Aa (.box r 0)) (need (List.all [v27] Aw) (stB st31 (Ah (.box r 0) 26) [v27] (fun (st32:St)=>need (Aa (.box r 0)) (need (Aa (.box r 0)) (Ai (Ab st32 [] (.t (Ah (.box r 0) 14)) 0) (fun (x35:TV)=>Aj (.int .i64) x35 (fun (n33:Int)=>need (Aa (.box r 0)) (need (Aa (.box r 0)) (stB st32 (Ah (.box r 0) 14) [(.int .i64 (i64.wrap (n33+(1:Int))))] (fun (st33:St)=>K st33))))))))))))))))))))))))))))))))))))) (need (Aa (.box r 0)) (need (Aa (.box r 0)) (Ai (Ab st6 [] (.t (Ah (.box r 0) 26)) 0) (fun (v28:TV)=>AU 118 15 192 v28 1 [(.int .i64 (2:Int)),(.str ([]:B8)),(.int .i64 (0:Int)),(.bool false),(.bool false),(.str ([]:B8)),(.int .i64 (0:Int)),(.int .i64 (0:Int)),(.int .i64 (0:Int)),(.int .i64 (0:Int)),(.int .i64 (0:Int)),(.str ([]:B8)),.nilSlice,.nilSlice,.nilSlice] st6 (fun (v29:TV) (st34:St)=>need (Aa (.box r 0)) (need (Aa (.box r 0)) (need (List.all [v29] Aw) (stB st34 (Ah (.box r 0) 26) [v29] (fun (st35:St)=>need (Aa (.box r 0)) (need (Aa (.box r 0)) (need (Aa (Ah (.box r 0) 1)) (Ai (Ab st35 [] (.t (Ah (Ah (.box r 0) 1) 2)) 0) (fun (x37:TV)=>Aj (.bool) x37 (fun (b13:Bool)=>BIf b13 (need (Aa (.box r 0)) (need (Aa (.box r 0)) (Ai (Ab st35 [] (.t (Ah (.box r 0) 26)) 0) (fun (v30:TV)=>need (Aa (.box r 0)) (need (Aa (.box r 0)) (Ai (Ab st35 [] (.t (Ah (.box r 0) 16)) 0) (fun (v31:TV)=>need (Aa (.box r 0)) (need (Aa (.box r 0)) (Ai (Ab st35 [] (.t (Ah (.box r 0) 14)) 0) (fun (x40:TV)=>Aj (.int .i64) x40 (fun (n34:Int)=>((0<=n34/\n34<(lenZ 1 v31:Int))/\Ai (Ab st35 [] (.t (ixT 1 v31 (Int.toNat n34))) 0) (fun (x41:TV)=>Aj (.str) x41 (fun (s9:B8)=>AU 118 15 192 v30 1 [(.int .i64 (6:Int)),(.str s9),(.int .i64 (0:Int)),(.bool false),(.bool false),(.str ([]:B8)),(.int .i64 (0:Int)),(.int .i64 (0:Int)),(.int .i64 (0:Int)),(.int .i64 (0:Int)),(.int .i64 (0:Int)),(.str ([]:B8)),.nilSlice,.nilSlice,.nilSlice] st35 (fun (v32:TV) (st36:St)=>need (Aa (.box r 0)) (need (Aa (.box r 0)) (need (List.all [v32] Aw) (stB st36 (Ah (.box r 0) 26) [v32] (fun (st37:St)=>need (Aa (.box r 0)) (need (Aa (.box r 0)) (Ai (Ab st37 [] (.t (Ah (.box r 0) 26)) 0) (fun (v33:TV)=>need (Aa (.box r 0)) (need (Aa (.box r 0)) (Ai ((AA st37 [] (.t (Ah (.box r 0) 1)) 0 4).map TV.agg) (fun (x43:TV)=>EK [.int .u8,.int .u8,.bool,.bool] x43 (fun (n35:Int) (n36:Int) (b14:Bool) (b15:Bool)=>Ae PR Ax [(.str t),(.bool qd),(.agg [(.int .u8 n35),(.int .u8 n36),(.bool b14),(.bool b15)])] [.agg [.int .i64,.bool,.bool,.str,.int .i64,.int .i64,.int .i64,.int .i64,.int .i64,.str,.tv,.tv,.tv]] st37 (fun (n37:Int) (b16:Bool) (b17:Bool) (s10:B8) (n38:Int) (n39:Int) (n40:Int) (n41:Int) (n42:Int) (s11:B8) (v34:TV) (v35:TV) (v36:TV) (st38:St)=>(Ab st38 [] (.t (Ah (.box r 0) 26)) 0=some v33/\need (List.all [(.int .i64 (1:Int)),(.str ([]:B8)),(.int .i64 n37),(.bool b16),(.bool b17),(.str s10),(.int .i64 n38),(.int .i64 n39),(.int .i64 n40),(.int .i64 n41),(.int .i64 n42),(.str s11),v34,v35,v36] Aw) (AU 118 15 192 v33 1 [(.int .i64 (1:Int)),(.str ([]:B8)),(.int .i64 n37),(.bool b16),(.bool b17),(.str s10),(.int .i64 n38),(.int .i64 n39),(.int .i64 n40),(.int .i64 n41),(.int .i64 n42),(.str s11),v34,v35,v36] st38 (fun (v37:TV) (st39:St)=>need (Aa (.box r 0)) (need (Aa (.box r 0)) (need (List.all [v37] Aw) (stB st39 (Ah (.box r 0) 26) [v37] (fun (st40:St)=>need (Aa (.box r 0)) (need (Aa (.box r 0)) (Ai (Ab st40 [] (.t (Ah (.box r 0) 14)) 0) (fun (x44:TV)=>Aj (.int .i64) x44 (fun (n43:Int)=>need (Aa (.box r 0)) (need (Aa (.box r 0)) (stB st40 (Ah (.box r 0) 14) [(.int .i64 (i64.wrap (n43+(1:Int))))] (fun (st41:St)=>K st41))))))))))))))))))))))))))))))))))))))))) (need (Aa (.box r 0)) (need (Aa (.box r 0)) (Ai (Ab st35 [] (.t (Ah (.box r 0) 26)) 0) (fun (v38:TV)=>need (Aa (.box r 0)) (need (Aa (.box r 0)) (Ai ((AA st35 [] (.t (Ah (.box r 0) 1)) 0 4).map TV.agg) (fun (x46:TV)=>EK [.int .u8,.int .u8,.bool,.bool] x46 (fun (n44:Int) (n45:Int) (b18:Bool) (b19:Bool)=>Ae PR Ax [(.str t),(.bool qd),(.agg [(.int .u8 n44),(.int .u8 n45),(.bool b18),(.bool b19)])] [.agg [.int .i64,.bool,.bool,.str,.int .i64,.int .i64,.int .i64,.int .i64,.int .i64,.str,.tv,.tv,.tv]] st35 (fun (n46:Int) (b20:Bool) (b21:Bool) (s12:B8) (n47:Int) (n48:Int) (n49:Int) (n50:Int) (n51:Int) (s13:B8) (v39:TV) (v40:TV) (v41:TV) (st42:St)=>(Ab st42 [] (.t (Ah (.box r 0) 26)) 0=some v38/\need (List.all [(.int .i64 (1:Int)),(.str ([]:B8)),(.int .i64 n46),(.bool b20),(.bool b21),(.str s12),(.int .i64 n47),(.int .i64 n48),(.int .i64 n49),(.int .i64 n50),(.int .i64 n51),(.str s13),v39,v40,v41] Aw) (AU 118 15 192 v38 1 [(.int .i64 (1:Int)),(.str ([]:B8)),(.int .i64 n46),(.bool b20),(.bool b21),(.str s12),(.int .i64 n47),(.int .i64 n48),(.int .i64 n49),(.int .i64 n50),(.int .i64 n51),(.str s13),v39,v40,v41] st42 (fun (v42:TV) (st43:St)=>need (Aa (.box r 0)) (need (Aa (.box r 0)) (need (List.all [v42] Aw) (stB st43 (Ah (.box r 0) 26) [v42] (fun (st44:St)=>need (Aa (.box r 0)) (need (Aa (.box r 0)) (Ai (Ab st44 [] (.t (Ah (.box r 0) 14)) 0) (fun (x47:TV)=>Aj (.int .i64) x47 (fun (n52:Int)=>need (Aa (.box r 0)) (need (Aa (.box r 0)) (stB st44 (Ah (.box r 0) 14) [(.int .i64 (i64.wrap (n52+(1:Int))))] (fun (st45:St)=>K st45))))))))))))))))))))))))))))))))))))))))))) (need (Aa (.box r 0)) (need (Aa (.box r 0)) (need (Aa (Ah (.box r 0) 1)) (Ai (Ab st6 [] (.t (Ah (Ah (.box r 0) 1) 2)) 0) (fun (x48:TV)=>Aj (.bool) x48 (fun (b22:Bool)=>BIf b22 (need (Aa (.box r 0)) (need (Aa (.box r 0)) (Ai (Ab st6 [] (.t (Ah (.box r 0) 26)) 0) (fun (v43:TV)=>need (Aa (.box r 0)) (need (Aa (.box r 0)) (Ai (Ab st6 [] (.t (Ah (.box r 0) 16)) 0) (fun (v44:TV)=>need (Aa (.box r 0)) (need (Aa (.box r 0)) (Ai (Ab st6 [] (.t (Ah (.box r 0) 14)) 0) (fun (x51:TV)=>Aj (.int .i64) x51 (fun (n53:Int)=>((0<=n53/\n53<(lenZ 1 v44:Int))/\Ai (Ab st6 [] (.t (ixT 1 v44 (Int.toNat n53))) 0) (fun (x52:TV)=>Aj (.str) x52 (fun (s14:B8)=>AU 118 15 192 v43 1 [(.int .i64 (6:Int)),(.str s14),(.int .i64 (0:Int)),(.bool false),(.bool false),(.str ([]:B8)),(.int .i64 (0:Int)),(.int .i64 (0:Int)),(.int .i64 (0:Int)),(.int .i64 (0:Int)),(.int .i64 (0:Int)),(.str ([]:B8)),.nilSlice,.nilSlice,.nilSlice] st6 (fun (v45:TV) (st46:St)=>need (Aa (.box r 0)) (need (Aa (.box r 0)) (need (List.all [v45] Aw) (stB st46 (Ah (.box r 0) 26) [v45] (fun (st47:St)=>need (Aa (.box r 0)) (need (Aa (.box r 0)) (Ai (Ab st47 [] (.t (Ah (.box r 0) 26)) 0) (fun (v46:TV)=>need (Aa (.box r 0)) (need (Aa (.box r 0)) (Ai ((AA st47 [] (.t (Ah (.box r 0) 1)) 0 4).map TV.agg) (fun (x54:TV)=>EK [.int .u8,.int .u8,.bool,.bool] x54 (fun (n54:Int) (n55:Int) (b23:Bool) (b24:Bool)=>Ae PR Ax [(.str t),(.bool qd),(.agg [(.int .u8 n54),(.int .u8 n55),(.bool b23),(.bool b24)])] [.agg [.int .i64,.bool,.bool,.str,.int .i64,.int .i64,.int .i64,.int .i64,.int .i64,.str,.tv,.tv,.tv]] st47 (fun (n56:Int) (b25:Bool) (b26:Bool) (s15:B8) (n57:Int) (n58:Int) (n59:Int) (n60:Int) (n61:Int) (s16:B8) (v47:TV) (v48:TV) (v49:TV) (st48:St)=>(Ab st48 [] (.t (Ah (.box r 0) 26)) 0=some v46/\need (List.all [(.int .i64 (1:Int)),(.str ([]:B8)),(.int .i64 n56),(.bool b25),(.bool b26),(.str s15),(.int .i64 n57),(.int .i64 n58),(.int .i64 n59),(.int .i64 n60),(.int .i64 n61),(.str s16),v47,v48,v49] Aw) (AU 118 15 192 v46 1 [(.int .i64 (1:Int)),(.str ([]:B8)),(.int .i64 n56),(.bool b25),(.bool b26),(.str s15),(.int .i64 n57),(.int .i64 n58),(.int .i64 n59),(.int .i64 n60),(.int .i64 n61),(.str s16),v47,v48,v49] st48 (fun (v50:TV) (st49:St)=>need (Aa (.box r 0)) (need (Aa (.box r 0)) (need (List.all [v50] Aw) (stB st49 (Ah (.box r 0) 26) [v50] (fun (st50:St)=>need (Aa (.box r 0)) (need (Aa (.box r 0)) (Ai (Ab st50 [] (.t (Ah (.box r 0) 14)) 0) (fun (x55:TV)=>Aj (.int .i64) x55 (fun (n62:Int)=>need (Aa (.box r 0)) (need (Aa (.box r 0)) (stB st50 (Ah (.box r 0) 14) [(.int .i64 (i64.wrap (n62+(1:Int))))] (fun (st51:St)=>K st51))))))))))))))))))))))))))))))))))))))))) (need (Aa (.box r 0)) (need (Aa (.box r 0)) (Ai (Ab st6 [] (.t (Ah (.box r 0) 26)) 0) (fun (v51:TV)=>need (Aa (.box r 0)) (need (Aa (.box r 0)) (Ai ((AA st6 [] (.t (Ah (.box r 0) 1)) 0 4).map TV.agg) (fun (x57:TV)=>EK [.int .u8,.int .u8,.bool,.bool] x57 (fun (n63:Int) (n64:Int) (b27:Bool) (b28:Bool)=>Ae PR Ax [(.str t),(.bool qd),(.agg [(.int .u8 n63),(.int .u8 n64),(.bool b27),(.bool b28)])] [.agg [.int .i64,.bool,.bool,.str,.int .i64,.int .i64,.int .i64,.int .i64,.int .i64,.str,.tv,.tv,.tv]] st6 (fun (n65:Int) (b29:Bool) (b30:Bool) (s17:B8) (n66:Int) (n67:Int) (n68:Int) (n69:Int) (n70:Int) (s18:B8) (v52:TV) (v53:TV) (v54:TV) (st52:St)=>(Ab st52 [] (.t (Ah (.box r 0) 26)) 0=some v51/\need (List.all [(.int .i64 (1:Int)),(.str ([]:B8)),(.int .i64 n65),(.bool b29),(.bool b30),(.str s17),(.int .i64 n66),(.int .i64 n67),(.int .i64 n68),(.int .i64 n69),(.int .i64 n70),(.str s18),v52,v53,v54] Aw) (AU 118 15 192 v51 1 [(.int .i64 (1:Int)),(.str ([]:B8)),(.int .i64 n65),(.bool b29),(.bool b30),(.str s17),(.int .i64 n66),(.int .i64 n67),(.int .i64 n68),(.int .i64 n69),(.int .i64 n70),(.str s18),v52,v53,v54] st52 (fun (v55:TV) (st53:St)=>need (Aa (.box r 0)) (need (Aa (.box r 0)) (need (List.all [v55] Aw) (stB st53 (Ah (.box r 0) 26) [v55] (fun (st54:St)=>need (Aa (.box r 0)) (need (Aa (.box r 0)) (Ai (Ab st54 [] (.t (Ah (.box r 0) 14)) 0) (fun (x58:TV)=>Aj (.int .i64) x58 (fun (n71:Int)=>need (Aa (.box r 0)) (need (Aa (.box r 0)) (stB st54 (Ah (.box r 0) 14) [(.int .i64 (i64.wrap (n71+(1:Int))))] (fun (st55:St)=>K st55))))))))))))))))))))))))))))))))))))):=by
 have hh0:A.held.length<=100000000:=by rw[hh];exact Nat.zero_le _
 unfold Jj at hk
 refine FU h (AI (fun g=>?_) fun g=>?_)
 ·rw[if_pos g]at hk
  refine Ad (fun g2=>?_) fun g2=>?_
  ·rw[if_pos (by omega)]at hk
   obtain⟨e1,e2⟩:=OB A A.frm 10
   refine Ac rfl (Ac rfl (h.ld (k:=20) (x:= .int .i64 A.frm) (fun _ _=>rfl) (Ak (BF h hh0 fun st1 I1 h1 f1=>?_))))
   refine K0 h1 (by rw[e1];exact hnl) (by rw[e2];exact hc) fun st2 I2 h2 f2=>hk st2 I2 ?_ (f1.trans f2)
   rw[e1,e2]at h2;exact h2
  ·rw[if_neg (by omega)]at hk
   obtain⟨es,v,q1,q2,q3,q4,hA⟩:=h.nameK hnl (t:=t)
   have hf:=q3 t
   refine Ac rfl (Ac rfl (Ag q1 (Ag (x:=es) (by simp only[G9,q2]) ?_)))
   by_cases hm:t∈A.names
   ·rw[if_pos hm]at hf hk
    rw[hf]
    obtain⟨e1,e2⟩:=OB A A.frm 8
    refine show Aj .bool (.bool true) _ from Bg (AI (fun _=>?_) fun g=>by cases g)
    refine Ac rfl (Ac rfl (h.ld (k:=20) (x:= .int .i64 A.frm) (fun _ _=>rfl) (Ak (BF h hh0 fun st1 I1 h1 f1=>?_))))
    refine K0 h1 (by rw[e1];exact hnl) (by rw[e2];exact hc) fun st2 I2 h2 f2=>hk st2 I2 ?_ (f1.trans f2)
    rw[e1,e2]at h2;exact h2
   ·rw[if_neg hm]at hf hk
    rw[hf]
    refine show Aj .bool (.bool false) _ from Bg (AI (fun g=>by cases g) fun _=>?_)
    exact K0 h hnl hc hk
 ·rw[if_neg (by rw[g];decide)]at hk
  refine Ad (fun g2=>?_) fun g2=>?_
  ·rw[if_pos (by omega)]at hk
   exact Ac rfl (Ac rfl (h.ld (k:=20) (x:= .int .i64 A.frm) (fun _ _=>rfl) (Ak (BF h hh0 hk))))
  ·rw[if_neg (by omega)]at hk
   refine Ac rfl (Ac rfl (h.ld (k:=14) (x:= .int .i64 (A.cells:Int)) (fun _ _=>rfl) (Ak (Ad (fun g3=>?_) fun g3=>?_))))
   ·have g3':A.cells=0:=by omega
    rw[if_pos g3']at hk
    refine Ac rfl (Ac rfl (Ac rfl (h.ld (k:=3) (x:= .bool c.hd) (fun _ _=>rfl) (Bg (AI (fun g4=>?_) fun g4=>?_)))))
    ·rw[if_pos g4]at hk
     obtain⟨v,q1,hA⟩:=h.outK (by omega) (evs:=[Ev.ms]) (by simp)
     refine Ac rfl (Ac rfl (Ag q1 (hA _ (fun v' st9 o1 hst=>?_) _)))
     refine Ac rfl (Ac rfl (Ac (by rw[List.all_cons,o1];rfl) (hst _ fun st10 I' h10 f10=>?_)))
     refine KX h10 (by show(A.out++[_]).length<=_;simp only[List.length_append,List.length_singleton];omega) hc ht (fun _=>hn g4 g) fun st11 I2 h11 f11=>hk st11 I2 ?_ (f10.trans f11)
     rw[<-List.append_assoc,if_pos g4]
     rw[if_pos g4]at h11
     exact h11
    ·rw[if_neg (by rw[g4];decide)]at hk
     obtain⟨v,q1,hA⟩:=h.outK (by omega) (evs:=[Ev.ls]) (by simp)
     refine Ac rfl (Ac rfl (Ag q1 (hA _ (fun v' st9 o1 hst=>?_) _)))
     refine Ac rfl (Ac rfl (Ac (by rw[List.all_cons,o1];rfl) (hst _ fun st10 I' h10 f10=>?_)))
     refine KX h10 (by show(A.out++[_]).length<=_;simp only[List.length_append,List.length_singleton];omega) hc ht (fun g5=>by rw[g4]at g5;cases g5) fun st11 I2 h11 f11=>hk st11 I2 ?_ (f10.trans f11)
     rw[<-List.append_assoc]
     exact h11
   ·have g3':¬A.cells=0:=by omega
    rw[if_neg g3',List.nil_append]at hk
    exact KX h (by omega) hc ht (fun g4=>hn g4 g) hk
end
end
section
section
variable {c:SC} {X:RX} {A:RA} {r w m:Nat} {I:List Nat} {st:St}
structure Sm (c:SC) (A:RA):Prop where
 hl:A.held.length<=1000000
 ol:A.out.length<=80000000
 cl:A.cells<=90000000
 nl:A.names.length<=90000000
 rl:A.rows<=90000000
 n0:0<=A.nodes
 n1:A.nodes<=90000000
 win:c.win<=100000000
theorem OQ (h:RB c X A r w m I st) (s:Sm c A) (hw:Lo c.q A.held) {K:St->Prop} (hn:c.hd=true->AK c A=false->A.late=0->A.cells<A.names.length)
  (hk:∀st' I',RB c X (AO c A) r w m I' st'->FrB r w m I I' st st'->K st'):Ae PR As [.box r 0] [] st K:=by
 have hhl:=s.hl
 have hol:=s.ol
 have hcl:=s.cl
 have hnl:=s.nl
 refine Ej r st K (Ag h.win (Ag h.win (J0 h ⟨h.win,HN h (by omega) fun st2 I2 h2 f2=>⟨h2.win,h2.ld (k:=22) (x:= .int .i64 A.late) (fun _ _=>rfl) (Ak (Ad (fun g=>?_) fun g=>?_))⟩⟩)))
 ·have e:AO c A=AZ {A with held:=[]} A.frm A.late:=by unfold AO;rw[if_pos g]
  rw[e]at hk
  exact h2.ld (k:=20) (x:= .int .i64 A.frm) (fun _ _=>rfl) (Ak (h2.ld (k:=22) (x:= .int .i64 A.late) (fun _ _=>rfl) (Ak (BF h2 (Nat.zero_le _) fun st3 I3 h3 f3=>hk st3 I3 h3 (f2.trans f3)))))
 rw[HF c A g]at hk
 have htl:(txt c.q A.held).length<=1000000:=Nat.le_trans (Qo _ _) hhl
 have tl:∀{st3:St},RB c X {A with held:=[]} r w m I2 st3->FrB r w m I I2 st st3->∀st' I',RB c X (Jj c {A with held:=[]} (txt c.q A.held) (Ct c.q A.held)) r w m I' st'->FrB r w m I2 I' st3 st'->K st':=fun h3 f3 st' I' h' f'=>hk st' I' h' (f3.trans f')
 have g0:A.late=0:=by omega
 refine Ad (fun g1=>?_) fun g1=>?_
 ·refine⟨⟨by omega,?_⟩,h2.ld (k:=2) (x:= .int .u8 c.q) (fun _ _=>rfl) (Ak ⟨fun s1 r1 q1 st5=>s1=txt c.q A.held/\r1= .box r 0/\q1=Ct c.q A.held/\st5=st2,Ad (fun g2=>?_) fun g2=>?_,?_⟩)⟩
  ·cases hc:A.held with
   | nil=>exact absurd hc g1
   | cons b l=>simp
  ·have g2':by_ A.held 0=c.q:=g2
   rcases hw with hw | hw | ⟨b,t,hb,hw⟩
   ·exact absurd hw g1
   ·exact absurd g2' hw
   have e1:txt c.q A.held=t:=by rw[hw];exact Pd hb
   have e2:decide (((List.getD A.held (Int.toNat (0:Int)) 0).toNat:Int)=c.q)=Ct c.q A.held:=by
    unfold Ct
    rw[decide_eq_true g2,decide_eq_true]
    exact fun hh=>hh.elim g1 fun hh=>hh g2'
   rw[e2]
   have htb:CG st2 (.list 1 .full 1 [.int .u8 c.q])=some [b]:=by
    have:UInt8.ofNat c.q.toNat=b:=by rw[<-hb];simp
    rw[<-this];rfl
   have hlen:A.held.length=(dbl b t).length+2:=by rw[hw];simp
   have hw64:i64.wrap ((A.held.length:Int)-1)=(((dbl b t).length+1:Nat):Int):=by
    rw[hlen,Ar _ (by omega) (by omega)];omega
   refine h2.ld (k:=2) (x:= .int .u8 c.q) (fun _ _=>rfl) (Ak ?_)
   rw[htb]
   refine Ag rfl (show Aj .str (.str [b]) _ from⟨⟨by omega,by rw[hw64];omega,by rw[hw64,hlen];omega⟩,by simp,?_⟩)
   rw[hw64]
   have hin:List.drop (Int.toNat 1) (List.take (Int.toNat (((dbl b t).length+1:Nat):Int)) A.held)=dbl b t:=by
    rw[hw];simp
   rw[hin]
   exact NI rfl (by omega) ⟨e1.symm,rfl,rfl,rfl⟩
  ·have g2':by_ A.held 0≠c.q:=g2
   refine⟨?_,rfl,?_,rfl⟩
   ·unfold txt;rw[if_pos (.inr g2')]
   ·unfold Ct
    rw[decide_eq_false g2,decide_eq_false]
    exact fun hh=>hh (.inr g2')
  ·rintro s1 r1 q1 st5 ⟨rfl,rfl,rfl,rfl⟩
   exact OL h2 rfl hol (by show A.cells<=_;omega) (by show A.names.length<=_;omega) htl (fun x y=>hn x y g0) (tl h2 f2)
 ·have g1':A.held=[]:=by
   by_cases hc:A.held=[]
   ·exact hc
   ·exact absurd hc g1
  refine⟨fun s1 r1 q1 st5=>s1=txt c.q A.held/\r1= .box r 0/\q1=Ct c.q A.held/\st5=st2,⟨?_,rfl,?_,rfl⟩,?_⟩
  ·unfold txt;rw[if_pos (.inl g1')]
  ·unfold Ct
   rw[decide_eq_false]
   exact fun hh=>hh (.inl g1')
  ·rintro s1 r1 q1 st5 ⟨rfl,rfl,rfl,rfl⟩
   exact OL h2 rfl hol (by show A.cells<=_;omega) (by show A.names.length<=_;omega) htl (fun x y=>hn x y g0) (tl h2 f2)
end
end
section
structure Sz (k:Nat) (A:RA):Prop where
 hl:A.held.length<=k
 ol:A.out.length<=4*k
 cl:A.cells<=k
 nl:A.names.length<=k
 rl:A.rows<=k
 n0:0<=A.nodes
 n1:A.nodes<=2*k+1
variable {c:SC} {A:RA} {k:Nat}
theorem Sz.mono {j:Nat} (h:Sz k A) (hj:k<=j):Sz j A:=
 ⟨Nat.le_trans h.hl hj,Nat.le_trans h.ol (by omega),Nat.le_trans h.cl hj,Nat.le_trans h.nl hj,Nat.le_trans h.rl hj,h.n0,by have:=h.n1;omega⟩
theorem Sz.fail (h:Sz k A) (o e:Int):Sz k (AZ A o e):=by
 unfold AZ
 split<;>exact⟨Nat.zero_le _,h.ol,h.cl,h.nl,h.rl,h.n0,h.n1⟩
theorem Sz.empty (h:Sz k A):Sz k {A with held:=[]}:=⟨Nat.zero_le _,h.ol,h.cl,h.nl,h.rl,h.n0,h.n1⟩
theorem Sz.hold (h:Sz k A) (b:UInt8):Sz (k+1) (BO c b A):=by
 unfold BO
 split
 ·exact(h.fail _ _).mono (by omega)
 ·have:=h.hl
  have:=h.mono (show k<=k+1 by omega)
  exact⟨by show(A.held++[b]).length<=_;simp only[List.length_append,List.length_singleton];omega,this.ol,this.cl,this.nl,this.rl,this.n0,this.n1⟩
theorem Ht (A:RA) (e:Int):(Bk A e).nodes=A.nodes:=(CJ A e).2.2.2.2
theorem Js (c:SC) (A:RA) (d:Int):(Bj c A d).nodes=A.nodes+1:=by
 unfold Bj DP
 split
 ·show(Bk A 9).nodes+1=_;rw[Ht]
 ·split
  ·show(Bk A 10).nodes+1=_;rw[Ht]
  ·rfl
theorem Oh (c:SC) (A:RA) (o:Int):A.nodes<=(AD c A o).nodes/\(AD c A o).nodes<=A.nodes+2:=by
 have e1:A.nodes<=(AC c A o).nodes/\(AC c A o).nodes<=A.nodes+1:=by
  unfold AC
  split
  ·exact⟨Int.le_refl _,by show A.nodes<=_;omega⟩
  split
  ·exact⟨Int.le_refl _,by show A.nodes<=_;omega⟩
  ·rw[Js];exact⟨by show A.nodes<=A.nodes+1;omega,Int.le_refl _⟩
 have e2:(BJ (AC c A o)).nodes=(AC c A o).nodes:=by
  unfold BJ
  split
  ·exact Ht _ _
  ·rfl
 unfold AD CK
 split
 ·rw[e2];exact⟨e1.1,by omega⟩
 ·rw[Js,e2];exact⟨by omega,by omega⟩
theorem Sz.enter (h:Sz k A) (o:Int):Sz (k+1) (AD c A o):=by
 obtain⟨hS,hf,hw,hc⟩:=BE c A o
 obtain⟨n1,n2⟩:=Oh c A o
 have g:=h.mono (show k<=k+1 by omega)
 have h1:=h.n1
 have h0:=h.n0
 refine⟨by rw[hS.held];exact g.hl,by rw[hS.out];exact g.ol,?_,by rw[hS.names];exact g.nl,by rw[hS.rows];exact g.rl,by omega,by omega⟩
 rw[hc]
 split
 ·exact g.cl
 ·exact Nat.zero_le _
theorem Sz.cell (h:Sz k A):Sz (k+1) (AO c A):=by
 have g:=h.empty.mono (show k<=k+1 by omega)
 have nb:∀{B:RA},Sz k B->∀t:B8,Sz (k+1) {B with names:=A.names++[t],cells:=A.cells+1}:=fun {B} hB t=>by
  have hB:=hB.mono (show k<=k+1 by omega)
  have h1:=h.nl
  have h2:=h.cl
  exact⟨hB.hl,hB.ol,by show A.cells+1<=_;omega,by show(A.names++[t]).length<=_;simp only[List.length_append,List.length_singleton];omega,hB.rl,hB.n0,hB.n1⟩
 unfold AO
 split
 ·exact g.fail _ _
 split
 ·refine nb (?_:Sz k _) _
  split
  ·exact h.empty.fail _ _
  split
  ·exact h.empty.fail _ _
  ·exact h.empty
 split
 ·exact g.fail _ _
 ·have h1:=h.ol
  have h2:=h.cl
  refine⟨g.hl,?_,by show A.cells+1<=_;omega,g.nl,g.rl,g.n0,g.n1⟩
  show(A.out++_).length<=_
  simp only[List.length_append]
  split<;>split<;>simp<;>omega
theorem Sz.wid (h:Sz k A):Sz k (BL A):=by
 unfold BL
 split
 ·exact⟨h.hl,h.ol,h.cl,h.nl,h.rl,h.n0,h.n1⟩
 ·exact h
theorem Sz.record (h:Sz k A) (o:Int):Sz (k+1) (AB c A o):=by
 have g:=h.mono (show k<=k+1 by omega)
 unfold AB
 split
 ·exact g
 have hw:=h.wid
 have gw:=hw.mono (show k<=k+1 by omega)
 unfold BR
 split
 ·exact gw.fail _ _
 ·have h1:=hw.ol
  have h2:=hw.rl
  refine⟨gw.hl,?_,gw.cl,gw.nl,by show(BL A).rows+1<=_;omega,gw.n0,gw.n1⟩
  show((BL A).out++_).length<=_
  simp only[List.length_append]
  split<;>simp<;>omega
theorem Sz.late (h:Sz k A) (o e:Int):Sz k (DR A o e):=by
 unfold DR
 split
 ·exact(h.fail _ _).fail _ _
 ·exact h.fail _ _
theorem Sz.ph (h:Sz k A) (p:Nat):Sz k {A with ph:=p}:=⟨h.hl,h.ol,h.cl,h.nl,h.rl,h.n0,h.n1⟩
theorem Sz.after (h:Sz k A) (b:UInt8) (o:Int):Sz (k+2) (B7 c b o A):=by
 have hc:=(Sz.cell (c:=c) h).mono (show k+1<=k+2 by omega)
 unfold B7
 split
 ·exact hc
 split
 ·exact hc.ph _
 split
 ·exact Sz.record (Sz.cell h) o
 split
 ·exact⟨hc.hl,hc.ol,hc.cl,hc.nl,hc.rl,hc.n0,hc.n1⟩
 ·exact hc.fail _ _
theorem Sz.plain (h:Sz k A) (b:UInt8) (o:Int):Sz (k+2) (BU c b o A):=by
 unfold BU
 split
 ·exact h.after b o
 split
 ·exact(h.late o 3).mono (by omega)
 ·exact(h.hold b).mono (by omega)
theorem Sz.next (h:Sz k A) (b:UInt8) (o:Int):Sz (k+3) (A4 c b o A):=by
 unfold A4
 split
 ·split
  ·exact(((h.enter o).ph 2).hold b).mono (by omega)
  ·exact((h.enter o).ph 1).plain b o
 split
 ·exact(h.plain b o).mono (by omega)
 split
 ·split
  ·exact((h.ph 3).hold b).mono (by omega)
  ·exact(h.hold b).mono (by omega)
 split
 ·split
  ·exact((h.ph 2).hold b).mono (by omega)
  ·exact(h.after b o).mono (by omega)
 split
 ·exact(h.fail _ _).mono (by omega)
 ·exact(h.record _).mono (by omega)
end
section
def nmP (c:SC) (A:RA):Prop:=c.hd=true->(A.rows=0->A.names.length=if A.within=true then A.cells else 0)/\(0<A.rows->A.width=A.names.length)
def cwP (A:RA):Prop:=A.late=0->0<A.rows->A.cells<A.width
def HeldW (q:Int) (ph:Nat) (held:B8):Prop:=
 (ph=0∨ph=4->held=[])/\(ph=1->held=[]∨by_ held 0≠q)/\(ph=2->∃(b:UInt8) (t:B8),(b.toNat:Int)=q/\held=b::dbl b t)/\(ph=3->∃(b:UInt8) (t:B8),(b.toNat:Int)=q/\held=b::(dbl b t++[b]))
structure W (c:SC) (A:RA):Prop where
 ph:A.ph<=4
 wi:A.ph≠0->A.within=true
 held:HeldW c.q A.ph A.held
 nm:nmP c A
 cw:A.ph≠0->A.ph≠4->cwP A
variable {c:SC} {A:RA}
theorem W.start (c:SC):W c RA.start:=⟨by decide,fun h=>absurd rfl h,⟨fun _=>rfl,fun h=>(by cases h),fun h=>(by cases h),fun h=>(by cases h)⟩,fun _=>⟨fun _=>rfl,fun h=>(by cases h)⟩,fun h=>absurd rfl h⟩
theorem LW {e:Int} (he:e≠0) (A:RA):(Bk A e).late≠0:=by
 unfold Bk
 split
 ·exact he
 ·assumption
theorem KF (h:A.late≠0) (e:Int):(Bk A e).late≠0:=by
 unfold Bk
 rw[if_neg h];exact h
theorem PG (h:A.late≠0) (d:Int):(Bj c A d).late≠0:=by
 unfold Bj DP
 split
 ·exact KF h _
 split
 ·exact KF h _
 ·exact h
theorem KS (c:SC) (A:RA) (o:Int):cwP (AD c A o):=by
 intro hl hr
 obtain⟨hS,hf,hw,hc⟩:=BE c A o
 obtain⟨h1S,h1f,h1w,h1c⟩:=GG c A o
 rw[hS.rows]at hr
 rw[hc,hS.width]
 rw[<-h1c,<-h1S.width]
 by_cases h:(AC c A o).width<=(AC c A o).cells
 ·exfalso
  have e:BJ (AC c A o)=Bk (AC c A o) 10:=if_pos ⟨by rw[h1S.rows];exact hr,h⟩
  unfold AD CK at hl
  rw[e]at hl
  split at hl
  ·exact LW (by decide) _ hl
  ·exact PG (LW (by decide) _) _ hl
 ·omega
theorem KR (h:nmP c A) (o:Int):nmP c (AD c A o):=by
 intro hd
 obtain⟨hS,hf,hw,hc⟩:=BE c A o
 obtain⟨n1,n2⟩:=h hd
 rw[hS.rows,hS.names,hS.width,hw,hc]
 refine⟨fun hr=>?_,n2⟩
 rw[n1 hr,if_pos rfl]
theorem P6 (he:A.err=0) (h:(AO c A).err=0):A.late=0/\AO c A=if AK c A=true then {A with held:=[],names:=A.names++[txt c.q A.held],cells:=A.cells+1} else {A with held:=[],cells:=A.cells+1,out:=A.out++evC c A.names A.cells A.held}:=by
 have hl:A.late=0:=by
  by_cases hl:A.late=0
  ·exact hl
  ·have:=(HG (c:=c) hl he).1
   omega
 refine⟨hl,Le he hl ?_⟩
 by_cases hT:DB c (AK c A) A.names (txt c.q A.held)=0
 ·exact hT
 ·have:=(Mo (i:=0) (e:=0) (ph:=0) he hl hT).1
  omega
theorem cell_nm (he:A.err=0) (h:(AO c A).err=0) (hw:A.within=true) (hn:nmP c A):nmP c (AO c A)/\(AO c A).within=true/\(AO c A).held=[]:=by
 obtain⟨hl,e⟩:=P6 he h
 rw[e]
 by_cases hh:AK c A=true
 ·rw[if_pos hh]
  refine⟨fun hd=>?_,hw,rfl⟩
  obtain⟨n1,n2⟩:=hn hd
  have hr:A.rows=0:=by
   unfold AK at hh
   rw[hd,Bool.true_and]at hh
   exact of_decide_eq_true hh
  refine⟨fun _=>?_,fun h0=>?_⟩
  ·have:=n1 hr
   rw[if_pos hw]at this
   show(A.names++[_]).length=if A.within=true then A.cells+1 else 0
   rw[if_pos hw,List.length_append,this];rfl
  ·have h0:0<A.rows:=h0
   omega
 ·rw[if_neg hh]
  refine⟨fun hd=>?_,hw,rfl⟩
  obtain⟨n1,n2⟩:=hn hd
  have hr:A.rows≠0:=by
   intro hr
   apply hh
   unfold AK
   rw[hd,hr];rfl
  exact⟨fun h0=>absurd h0 hr,n2⟩
theorem N8 (he:A.err=0) {o:Int} (h:(AB c A o).err=0):¬(BL A).cells<(BL A).width/\AB c A o={BL A with out:=(BL A).out++(if AK c (BL A)=true then []else [if c.hd then .me else .le]),rows:=(BL A).rows+1,within:=false,ph:=0}:=by
 have e:AB c A o=BR c (BL A) o:=if_neg (by omega)
 have hwe:(BL A).err=0:=by unfold BL;split<;>exact he
 rw[e]at h⊢
 unfold BR at h⊢
 by_cases hc:(BL A).cells<(BL A).width
 ·rw[if_pos hc]at h
  have:=(Bc (A:=BL A) (o:=o) (e:=10) hwe (by decide)).1
  omega
 ·rw[if_neg hc];exact⟨hc,rfl⟩
theorem N9 (he:A.err=0) {o:Int} (h:(AB c A o).err=0) (hw:A.within=true) (hh:A.held=[]) (hn:nmP c A):W c (AB c A o):=by
 obtain⟨hc,e⟩:=N8 he h
 have eh:(BL A).held=[]:=by unfold BL;split<;>exact hh
 rw[e]
 refine⟨by show 0<=4;decide,fun h=>absurd rfl h,⟨fun _=>eh,fun h=>(by cases h),fun h=>(by cases h),fun h=>(by cases h)⟩,fun hd=>?_,fun h=>absurd rfl h⟩
 obtain⟨n1,n2⟩:=hn hd
 refine⟨fun h0=>?_,fun _=>?_⟩
 ·cases h0
 ·show(BL A).width=(BL A).names.length
  unfold BL
  split
  ·rename_i h0
   have:=n1 h0
   rw[if_pos hw]at this
   exact this.symm
  ·exact n2 (by omega)
theorem QR (he:A.err=0) {b:UInt8} {o:Int} (h:(B7 c b o A).err=0) (hw:A.within=true) (hn:nmP c A):W c (B7 c b o A):=by
 have hce:(AO c A).err=0:=by
  by_cases hc:(AO c A).err=0
  ·exact hc
  ·unfold B7 at h
   rw[if_pos hc]at h
   exact absurd h hc
 obtain⟨k1,k2,k3⟩:=cell_nm he hce hw hn
 unfold B7 at h⊢
 rw[if_neg (fun g=>g hce)]at h⊢
 split
 ·exact⟨by show 0<=4;decide,fun h=>absurd rfl h,⟨fun _=>k3,fun h=>(by cases h),fun h=>(by cases h),fun h=>(by cases h)⟩,k1,fun h=>absurd rfl h⟩
 rename_i g1
 rw[if_neg g1]at h
 split
 ·rename_i g2
  rw[if_pos g2]at h
  exact N9 hce h k2 k3 k1
 rename_i g2
 rw[if_neg g2]at h
 split
 ·exact⟨by show 4<=4;decide,fun _=>k2,⟨fun _=>k3,fun h=>(by cases h),fun h=>(by cases h),fun h=>(by cases h)⟩,k1,fun _ h=>absurd rfl h⟩
 ·rename_i g3
  rw[if_neg g3,(Bc hce (by decide)).1]at h
  cases h
theorem Fu {b:UInt8} (he:A.err=0) (h:(BO c b A).err=0):BO c b A={A with held:=A.held++[b]}:=by
 unfold BO at h⊢
 split
 ·rename_i g
  rw[if_pos g,(Bc he (by decide)).1]at h
  cases h
 ·rfl
theorem Qv (he:A.err=0) {b:UInt8} {o:Int} (h:(BU c b o A).err=0) (hp:A.ph=1) (hw:A.within=true) (hn:nmP c A) (hc:cwP A) (hh:A.held=[]∨by_ A.held 0≠c.q):W c (BU c b o A):=by
 unfold BU at h⊢
 split
 ·rename_i g;rw[if_pos g]at h;exact QR he h hw hn
 rename_i g;rw[if_neg g]at h
 split
 ·rename_i g2;rw[if_pos g2]at h
  exact absurd h (LX he (by decide))
 rename_i g2;rw[if_neg g2]at h
 rw[Fu he h]
 refine⟨by show A.ph<=4;omega,fun _=>hw,⟨fun h=>by have h:A.ph=0∨A.ph=4:=h;omega,fun _=> .inr ?_,fun h=>by have h:A.ph=2:=h;omega,fun h=>by have h:A.ph=3:=h;omega⟩,hn,fun _ _=>hc⟩
 show by_ (A.held++[b]) 0≠c.q
 rcases hh with hh | hh
 ·rw[hh];exact g2
 ·cases hd:A.held with
  | nil=>exact g2
  | cons x l=>rw[hd]at hh;exact hh
theorem OR (b:UInt8) (t:B8) (x:UInt8):dbl b (t++[x])=dbl b t++(if x=b then [b,b]else [x]):=by
 unfold dbl
 rw[List.flatMap_append]
 simp[R3]
theorem next_W (hW:W c A) (he:A.err=0) {b:UInt8} {o:Int} (h:(A4 c b o A).err=0):W c (A4 c b o A):=by
 have hp:=hW.ph
 unfold A4 at h⊢
 by_cases p0:A.ph=0
 ·rw[if_pos p0]at h⊢
  obtain⟨hS,hf,hw,hc⟩:=BE c A o
  have hhe:(AD c A o).held=[]:=hS.held.trans (hW.held.1 (.inl p0))
  have hee:(AD c A o).err=0:=hS.err.trans he
  have hnm:=KR hW.nm o
  have hcw:=KS c A o
  split
  ·rename_i g;rw[if_pos g]at h
   rw[Fu (A:={AD c A o with ph:=2}) hee h]
   refine⟨by show 2<=4;decide,fun _=>hw,⟨fun h=>(by rcases h with h | h<;>cases h),fun h=>(by cases h),fun _=>⟨b,[],g,?_⟩,fun h=>(by cases h)⟩,hnm,fun _ _=>hcw⟩
   show(AD c A o).held++[b]=_
   rw[hhe];rfl
  ·rename_i g;rw[if_neg g]at h
   exact Qv (A:={AD c A o with ph:=1}) hee h rfl hw hnm hcw (.inl hhe)
 rw[if_neg p0]at h⊢
 have hwi:=hW.wi p0
 by_cases p1:A.ph=1
 ·rw[if_pos p1]at h⊢
  exact Qv he h p1 hwi hW.nm (hW.cw p0 (by omega)) (hW.held.2.1 p1)
 rw[if_neg p1]at h⊢
 by_cases p2:A.ph=2
 ·rw[if_pos p2]at h⊢
  obtain⟨x,t,hx,ht⟩:=hW.held.2.2.1 p2
  have hcw:=hW.cw p0 (by omega)
  split
  ·rename_i g;rw[if_pos g]at h
   have hbx:b=x:=UInt8.toNat_inj.1 (by omega)
   rw[Fu (A:={A with ph:=3}) he h]
   refine⟨by show 3<=4;decide,fun _=>hwi,⟨fun h=>(by rcases h with h | h<;>cases h),fun h=>(by cases h),fun h=>(by cases h),fun _=>⟨x,t,hx,?_⟩⟩,hW.nm,fun _ _=>hcw⟩
   show A.held++[b]=_
   rw[ht,hbx];rfl
  ·rename_i g;rw[if_neg g]at h
   have hbx:b≠x:=fun e=>g (by rw[e];exact hx)
   rw[Fu he h]
   refine⟨hp,fun _=>hwi,⟨fun h=>by have h:A.ph=0∨A.ph=4:=h;omega,fun h=>by have h:A.ph=1:=h;omega,fun _=>⟨x,t++[b],hx,?_⟩,fun h=>by have h:A.ph=3:=h;omega⟩,hW.nm,fun _ _=>hcw⟩
   show A.held++[b]=_
   rw[ht,OR,if_neg hbx];rfl
 rw[if_neg p2]at h⊢
 by_cases p3:A.ph=3
 ·rw[if_pos p3]at h⊢
  obtain⟨x,t,hx,ht⟩:=hW.held.2.2.2 p3
  have hcw:=hW.cw p0 (by omega)
  split
  ·rename_i g;rw[if_pos g]at h
   have hbx:b=x:=UInt8.toNat_inj.1 (by omega)
   rw[Fu (A:={A with ph:=2}) he h]
   refine⟨by show 2<=4;decide,fun _=>hwi,⟨fun h=>(by rcases h with h | h<;>cases h),fun h=>(by cases h),fun _=>⟨x,t++[x],hx,?_⟩,fun h=>(by cases h)⟩,hW.nm,fun _ _=>hcw⟩
   show A.held++[b]=_
   rw[ht,hbx,OR,if_pos rfl]
   simp
  ·rename_i g;rw[if_neg g]at h
   exact QR he h hwi hW.nm
 rw[if_neg p3]at h⊢
 have p4:A.ph=4:=by omega
 split
 ·rename_i g;rw[if_pos g,(Bc he (by decide)).1]at h
  cases h
 ·rename_i g;rw[if_neg g]at h
  exact N9 he h hwi (hW.held.1 (.inr p4)) hW.nm
end
section
section
variable {c:SC} {X:RX} {A:RA} {r w m k:Nat} {I:List Nat} {st:St}
theorem Sz.sm (z:Sz k A) (hk:k<=1000000) (hwin:c.win<=100000000):Sm c A:=
 ⟨Nat.le_trans z.hl hk,Nat.le_trans z.ol (by omega),Nat.le_trans z.cl (by omega),Nat.le_trans z.nl (by omega),Nat.le_trans z.rl (by omega),z.n0,by have:=z.n1;omega,hwin⟩
theorem Oy (hn:nmP c A) (hc:cwP A):c.hd=true->AK c A=false->A.late=0->A.cells<A.names.length:=by
 intro hd hh hl
 have hr:0<A.rows:=by
  unfold AK at hh
  rw[hd,Bool.true_and]at hh
  have:=of_decide_eq_false hh
  omega
 rw[<-(hn hd).2 hr]
 exact hc hl hr
theorem Mi (h:RB c X A r w m I st) (z:Sz k A) (hk8:k<=900000) (hwin:c.win<=100000000) (hcw:Lo c.q A.held) (hN:c.hd=true->AK c A=false->A.late=0->A.cells<A.names.length) {b:UInt8} {C:Int} (hC:C=(b.toNat:Int)) {o:Int} {K:St->Prop}
  (hk:∀st' I',RB c X (B7 c b o A) r w m I' st'->FrB r w m I I' st st'->K st'):Ae PR AH [.box r 0,.int .u8 C,.int .i64 o] [] st K:=by
 subst hC
 have zc:Sz (k+1) (AO c A):=z.cell
 have sc:Sm c (AO c A):=zc.sm (by omega) hwin
 unfold B7 at hk
 refine DW r _ o st K (OQ h (z.sm (by omega) hwin) hcw hN fun st1 I1 h1 f1=>h1.ld (k:=28) (x:= .int .i64 (AO c A).err) (fun _ _=>rfl) (Ak (Ad (fun g=>?_) fun g=>?_)))
 ·rw[if_pos g]at hk
  exact hk st1 I1 h1 f1
 rw[if_neg g]at hk
 refine h1.ld (k:=1) (x:= .int .u8 c.a) (fun _ _=>rfl) (Ak (Ad (fun g1=>?_) fun g1=>Ad (fun g2=>?_) fun g2=>Ad (fun g3=>?_) fun g3=>?_))
 ·rw[if_pos g1]at hk
  exact h1.put X {AO c A with ph:=0} (by decide) rfl rfl rfl (fun _ _=>rfl) fun st2 h2 f2=>hk st2 I1 h2 (f1.trans f2)
 ·rw[if_neg g1,if_pos g2]at hk
  have:=sc.hl
  have:=sc.ol
  have:=sc.rl
  exact HA h1 (by omega) (by omega) (by omega) fun st2 I2 h2 f2=>hk st2 I2 h2 (f1.trans f2)
 ·rw[if_neg g1,if_neg g2,if_pos g3]at hk
  exact h1.put X {AO c A with ph:=4} (by decide) rfl rfl rfl (fun _ _=>rfl) fun st2 h2 f2=>h2.put X {AO c A with ph:=4,line:=o} (by decide) rfl rfl rfl (fun _ _=>rfl) fun st3 h3 f3=>hk st3 I1 h3 ((f1.trans f2).trans f3)
 ·rw[if_neg g1,if_neg g2,if_neg g3]at hk
  have:=sc.hl
  exact BF h1 (by omega) fun st2 I2 h2 f2=>hk st2 I2 h2 (f1.trans f2)
theorem SY (h:RB c X A r w m I st) (hl:A.held.length<=100000000) {o e:Int} {K:St->Prop} (hk:∀st' I',RB c X (DR A o e) r w m I' st'->FrB r w m I I' st st'->K st'):
  (A.late≠0->∀(K1:St->Prop),(∀st1,(Ae PR Af [.box r 0,.int .i64 o,.int .i64 e] [] st1 K)->K1 st1)->Ae PR Af [.box r 0,.int .i64 A.frm,.int .i64 A.late] [] st K1)/\
  (¬A.late≠0->Ae PR Af [.box r 0,.int .i64 o,.int .i64 e] [] st K):=by
 unfold DR at hk
 refine⟨fun g K1 hK1=>?_,fun g=>?_⟩
 ·rw[if_pos g]at hk
  refine BF h hl fun st1 I1 h1 f1=>hK1 st1 (BF h1 ?_ fun st2 I2 h2 f2=>hk st2 I2 h2 (f1.trans f2))
  unfold AZ
  split<;>exact Nat.zero_le _
 ·rw[if_neg g]at hk
  exact BF h hl hk
theorem Md (h:RB c X A r w m I st) (z:Sz k A) (hk8:k<=900000) (hwin:c.win<=100000000) (hcw:Lo c.q A.held) (hN:c.hd=true->AK c A=false->A.late=0->A.cells<A.names.length) {b:UInt8} {C:Int} (hC:C=(b.toNat:Int)) {o:Int} {K:St->Prop}
  (hk:∀st' I',RB c X (BU c b o A) r w m I' st'->FrB r w m I I' st st'->K st'):Ae PR A0 [.box r 0,.int .u8 C,.int .i64 o] [] st K:=by
 have hl:A.held.length<=100000000:=Nat.le_trans z.hl (by omega)
 subst hC
 unfold BU at hk
 have aft:((b.toNat:Int)=c.a∨(b.toNat:Int)=10∨(b.toNat:Int)=13)->Ae PR AH [.box r 0,.int .u8 (b.toNat:Int),.int .i64 o] [] st fun (st1:St)=>K st1:=fun g=>by
  rw[if_pos g]at hk
  exact Mi h z hk8 hwin hcw hN rfl hk
 refine Dv r _ o st K (h.ld (k:=1) (x:= .int .u8 c.a) (fun _ _=>rfl) (Ak (Ad (fun g1=>Ad (fun _=>aft (.inl g1)) fun g=>absurd g1 g) fun g1=>Ad (fun g2=>Ad (fun _=>aft (.inr (.inl g2))) fun g=>absurd g2 g) fun g2=>Ad (fun g3=>aft (.inr (.inr g3))) fun g3=>?_)))
 rw[if_neg (by omega)]at hk
 refine h.ld (k:=2) (x:= .int .u8 c.q) (fun _ _=>rfl) (Ak (Ad (fun g4=>?_) fun g4=>?_))
 ·rw[if_pos g4]at hk
  obtain⟨l1,l2⟩:=SY h hl hk
  refine h.ld (k:=22) (x:= .int .i64 A.late) (fun _ _=>rfl) (Ak (Ad (fun g=>?_) fun g=>l2 g))
  exact h.ld (k:=20) (x:= .int .i64 A.frm) (fun _ _=>rfl) (Ak (h.ld (k:=22) (x:= .int .i64 A.late) (fun _ _=>rfl) (Ak (l1 g _ fun _ h=>h))))
 ·rw[if_neg g4]at hk
  exact GH h hl hwin rfl hk
theorem JL {q:Int} {l:B8} (h:l=[]∨by_ l 0≠q):Lo q l:=h.elim .inl fun h=> .inr (.inl h)
theorem SX (h:RB c X A r w m I st) (z:Sz k A) (hk8:k<=800000) (hwin:c.win<=100000000) (hW:W c A) {b:UInt8} {C:Int} (hC:C=(b.toNat:Int)) {o:Int} {K:St->Prop}
  (hk:∀st' I',RB c X (A4 c b o A) r w m I' st'->FrB r w m I I' st st'->K st'):Ae PR Bt [.box r 0,.int .u8 C,.int .i64 o] [] st K:=by
 have hl:A.held.length<=100000000:=Nat.le_trans z.hl (by omega)
 have hp:=hW.ph
 have zn:=z.n1
 subst hC
 unfold A4 at hk
 refine Ef r _ o st K (h.ld (k:=10) (x:= .int .i64 (A.ph:Int)) (fun _ _=>rfl) (Ak (Ad (fun g0=>?_) fun g0=>Ad (fun g1=>?_) fun g1=>Ad (fun g2=>?_) fun g2=>Ad (fun g3=>?_) fun g3=>Ad (fun g4=>?_) fun g4=>absurd hp (by omega))))
 ·have p0:A.ph=0:=by omega
  rw[if_pos p0]at hk
  have ze:Sz (k+1) (AD c A o):=z.enter o
  obtain⟨hS,hf,hw,hc⟩:=BE c A o
  have hhe:(AD c A o).held=[]:=hS.held.trans (hW.held.1 (.inl p0))
  refine Mf h ⟨z.n0,by omega⟩ fun st1 h1 f1=>h1.ld (k:=2) (x:= .int .u8 c.q) (fun _ _=>rfl) (Ak (Ad (fun g=>?_) fun g=>?_))
  ·rw[if_pos g]at hk
   exact h1.put X {AD c A o with ph:=2} (by decide) rfl rfl rfl (fun _ _=>rfl) fun st2 h2 f2=>GH h2 (by show(AD c A o).held.length<=_;rw[hhe];exact Nat.zero_le _) hwin rfl fun st3 I3 h3 f3=>hk st3 I3 h3 ((f1.trans f2).trans f3)
  ·rw[if_neg g]at hk
   exact h1.put X {AD c A o with ph:=1} (by decide) rfl rfl rfl (fun _ _=>rfl) fun st2 h2 f2=>Md h2 (ze.ph 1) (by omega) hwin (.inl hhe) (Oy (A:={AD c A o with ph:=1}) (KR hW.nm o) (KS c A o)) rfl fun st3 I3 h3 f3=>hk st3 I3 h3 ((f1.trans f2).trans f3)
 ·have p1:A.ph=1:=by omega
  rw[if_neg (by omega),if_pos p1]at hk
  exact Md h z (by omega) hwin (JL (hW.held.2.1 p1)) (Oy hW.nm (hW.cw (by omega) (by omega))) rfl hk
 ·have p2:A.ph=2:=by omega
  rw[if_neg (by omega),if_neg (by omega),if_pos p2]at hk
  refine h.ld (k:=2) (x:= .int .u8 c.q) (fun _ _=>rfl) (Ak (Ad (fun g=>?_) fun g=>?_))
  ·rw[if_pos g]at hk
   exact h.put X {A with ph:=3} (by decide) rfl rfl rfl (fun _ _=>rfl) fun st2 h2 f2=>GH h2 hl hwin rfl fun st3 I3 h3 f3=>hk st3 I3 h3 (f2.trans f3)
  ·rw[if_neg g]at hk
   exact GH h hl hwin rfl hk
 ·have p3:A.ph=3:=by omega
  rw[if_neg (by omega),if_neg (by omega),if_neg (by omega),if_pos p3]at hk
  obtain⟨x,t,hx,ht⟩:=hW.held.2.2.2 p3
  refine h.ld (k:=2) (x:= .int .u8 c.q) (fun _ _=>rfl) (Ak (Ad (fun g=>?_) fun g=>?_))
  ·rw[if_pos g]at hk
   exact h.put X {A with ph:=2} (by decide) rfl rfl rfl (fun _ _=>rfl) fun st2 h2 f2=>GH h2 hl hwin rfl fun st3 I3 h3 f3=>hk st3 I3 h3 (f2.trans f3)
  ·rw[if_neg g]at hk
   exact Mi h z (by omega) hwin (.inr (.inr ⟨x,t,hx,ht⟩)) (Oy hW.nm (hW.cw (by omega) (by omega))) rfl hk
 ·have p4:A.ph=4:=by omega
  rw[if_neg (by omega),if_neg (by omega),if_neg (by omega),if_neg (by omega)]at hk
  refine Ad (fun g=>?_) fun g=>?_
  ·rw[if_pos g]at hk
   exact h.ld (k:=21) (x:= .int .i64 A.line) (fun _ _=>rfl) (Ak (BF h hl hk))
  ·rw[if_neg g]at hk
   have z1:=z.ol
   have z2:=z.rl
   exact h.ld (k:=21) (x:= .int .i64 A.line) (fun _ _=>rfl) (Ak (HA h hl (by omega) (by omega) hk))
end
end
section
section
variable {c:SC} {X:RX} {A:RA} {r w m k:Nat} {I:List Nat} {st:St}
theorem JD (h:RB c X A r w m I st) (z:Sz k A) (hk8:k<=900000) (hwin:c.win<=100000000) (hcw:Lo c.q A.held) (hN:c.hd=true->AK c A=false->A.late=0->A.cells<A.names.length) {K:St->Prop}
  (hk:∀st' I',RB c X (AB c (AO c A) X.size) r w m I' st'->FrB r w m I I' st st'->K st'):
  Ae PR As [.box r 0] [] st fun (st1:St)=>Ai (Ab st1 [] (.t (.box r 23)) 0) fun (x:TV)=>Aj (.int .i64) x fun (n:Int)=>Ae PR Aq [.box r 0,.int .i64 n] [] st1 fun (st2:St)=>K st2:=by
 have sc:Sm c (AO c A):=(Sz.cell (c:=c) z).sm (by omega) hwin
 have:=sc.hl
 have:=sc.ol
 have:=sc.rl
 exact OQ h (z.sm (by omega) hwin) hcw hN fun st1 I1 h1 f1=>h1.ld (k:=23) (x:= .int .i64 X.size) (fun _ _=>rfl) (Ak (HA h1 (by omega) (by omega) (by omega) fun st2 I2 h2 f2=>hk st2 I2 h2 (f1.trans f2)))
theorem SZ (h:RB c X A r w m I st) (z:Sz k A) (hk8:k<=800000) (hwin:c.win<=100000000) (hW:W c A) {K:St->Prop}
  (hk:∀st' I',RB c X (Dd c X.size A) r w m I' st'->FrB r w m I I' st st'->K st'):Ae PR Bu [.box r 0] [] st K:=by
 have hl:A.held.length<=100000000:=Nat.le_trans z.hl (by omega)
 have hp:=hW.ph
 have zn:=z.n1
 unfold Dd at hk
 have lt:(A.ph=2∨A.ph=4)->Ai (Ab st [] (.t (.box r 22)) 0) fun (x:TV)=>Aj (.int .i64) x fun (n:Int)=>BIf (decide (n≠(0:Int)))
   (Ai (Ab st [] (.t (.box r 20)) 0) fun (x3:TV)=>Aj (.int .i64) x3 fun (n3:Int)=>Ai (Ab st [] (.t (.box r 22)) 0) fun (x4:TV)=>Aj (.int .i64) x4 fun (n4:Int)=>
    Ae PR Af [.box r 0,.int .i64 n3,.int .i64 n4] [] st fun (st1:St)=>Ai (Ab st1 [] (.t (.box r 23)) 0) fun (x5:TV)=>Aj (.int .i64) x5 fun (n5:Int)=>Ae PR Af [.box r 0,.int .i64 n5,.int .i64 4] [] st1 fun (st2:St)=>K st2)
   (Ai (Ab st [] (.t (.box r 23)) 0) fun (x6:TV)=>Aj (.int .i64) x6 fun (n6:Int)=>Ae PR Af [.box r 0,.int .i64 n6,.int .i64 4] [] st fun (st3:St)=>K st3):=fun g=>by
  rw[if_pos g]at hk
  unfold DR at hk
  refine h.ld (k:=22) (x:= .int .i64 A.late) (fun _ _=>rfl) (Ak (Ad (fun g=>?_) fun g=>?_))
  ·rw[if_pos g]at hk
   refine h.ld (k:=20) (x:= .int .i64 A.frm) (fun _ _=>rfl) (Ak (h.ld (k:=22) (x:= .int .i64 A.late) (fun _ _=>rfl) (Ak (BF h hl fun st1 I1 h1 f1=>h1.ld (k:=23) (x:= .int .i64 X.size) (fun _ _=>rfl) (Ak (BF h1 ?_ fun st2 I2 h2 f2=>hk st2 I2 h2 (f1.trans f2)))))))
   unfold AZ
   split<;>exact Nat.zero_le _
  ·rw[if_neg g]at hk
   exact h.ld (k:=23) (x:= .int .i64 X.size) (fun _ _=>rfl) (Ak (BF h hl hk))
 have c13:(A.ph=1∨A.ph=3)->Ae PR As [.box r 0] [] st fun (st1:St)=>Ai (Ab st1 [] (.t (.box r 23)) 0) fun (x:TV)=>Aj (.int .i64) x fun (n:Int)=>Ae PR Aq [.box r 0,.int .i64 n] [] st1 fun (st2:St)=>K st2:=fun g=>by
  rw[if_neg (by omega),if_neg (by omega)]at hk
  refine JD h z (by omega) hwin ?_ (Oy hW.nm (hW.cw (by omega) (by omega))) hk
  rcases g with g | g
  ·exact JL (hW.held.2.1 g)
  ·obtain⟨x,t,hx,ht⟩:=hW.held.2.2.2 g
   exact .inr (.inr ⟨x,t,hx,ht⟩)
 have c0:A.ph=0->Ai (Ab st [] (.t (.box r 12)) 0) fun (x:TV)=>Aj .bool x fun (b:Bool)=>BIf (!b) (K st) (Ai (Ab st [] (.t (.box r 23)) 0) fun (x8:TV)=>Aj (.int .i64) x8 fun (n7:Int)=>
   Ae PR AQ [.box r 0,.int .i64 n7] [] st fun (st4:St)=>Ae PR As [.box r 0] [] st4 fun (st1:St)=>Ai (Ab st1 [] (.t (.box r 23)) 0) fun (x:TV)=>Aj (.int .i64) x fun (n:Int)=>Ae PR Aq [.box r 0,.int .i64 n] [] st1 fun (st2:St)=>K st2):=fun g=>by
  rw[if_neg (by omega),if_pos g]at hk
  refine h.ld (k:=12) (x:= .bool A.within) (fun _ _=>rfl) (Bg (AI (fun g1=>?_) fun g1=>?_))
  ·have g1':A.within=false:=(Bool.not_eq_true' _).mp g1
   rw[if_neg (by rw[g1'];decide)]at hk
   exact hk st I h (FrB.refl _ _ _ _ _)
  ·have g1':A.within=true:=(Bool.not_eq_false' _).mp g1
   rw[if_pos g1']at hk
   obtain⟨hS,hf,hw,hc⟩:=BE c A X.size
   have hhe:(AD c A X.size).held=[]:=hS.held.trans (hW.held.1 (.inl g))
   refine h.ld (k:=23) (x:= .int .i64 X.size) (fun _ _=>rfl) (Ak (Mf h ⟨z.n0,by omega⟩ fun st4 h4 f4=>?_))
   exact JD h4 (z.enter X.size) (by omega) hwin (.inl hhe) (Oy (KR hW.nm _) (KS c A _)) fun st5 I5 h5 f5=>hk st5 I5 h5 (f4.trans f5)
 refine Eg r st K (h.ld (k:=10) (x:= .int .i64 (A.ph:Int)) (fun _ _=>rfl) (Ak (Ad (fun g2=>Ad (fun _=>lt (.inl (by omega))) fun g=>absurd g2 g) fun g2=>Ad (fun g4=>lt (.inr (by omega))) fun g4=>Ad (fun g0=>c0 (by omega)) fun g0=>Ad (fun g1=>Ad (fun _=>c13 (.inl (by omega))) fun g=>absurd g1 g) fun g1=>Ad (fun g3=>c13 (.inr (by omega))) fun g3=>absurd hp (by omega))))
end
end
section
def Bp (X:RX):RX:={X with begun:=true}
def BA (X:RX) (A:RA):RA:=if X.begun=true then A else {A with out:=A.out++[.ls]}
theorem LI {c:SC}:∀(l:B8) (i:Nat) (o:Int) (A:RA),i<l.length->BH c (l.take (i+1)) o A=if (BH c (l.take i) o A).err≠0 then BH c (l.take i) o A else A4 c (l.getD i 0) (o+i) (BH c (l.take i) o A)
 | [],i,o,A,h=>by cases h
 | b::r,0,o,A,h=>by
  simp only[List.take_succ_cons,List.take_zero,BH]
  split
  ·rfl
  ·show A4 c b o A=A4 c b (o+(0:Nat)) A
   rw[Int.natCast_zero,Int.add_zero]
 | b::r,i+1,o,A,h=>by
  have ih:=LI (c:=c) r i (o+1) (A4 c b o A) (by simpa using h)
  simp only[List.take_succ_cons,BH]
  by_cases he:A.err≠0
  ·rw[if_pos he,if_pos he,if_pos he]
  ·rw[if_neg he,if_neg he]
   rw[ih]
   have e:o+1+(i:Int)=o+((i+1:Nat):Int):=by omega
   rw[e];rfl
theorem Q4 {c:SC} {l:B8} {i:Nat} {o:Int} {A:RA} (he:(BH c (l.take i) o A).err≠0):BH c l o A=BH c (l.take i) o A:=by
 have:∀(a b:B8) (o:Int) (A:RA),(BH c a o A).err≠0->BH c (a++b) o A=BH c a o A:=by
  intro a
  induction a with
  | nil=>intro b o A he;exact Kr he b o
  | cons x a ih=>
   intro b o A he
   simp only[List.cons_append,BH]at he⊢
   by_cases h:A.err≠0
   ·rw[if_pos h,if_pos h]
   ·rw[if_neg h,if_neg h]
    rw[if_neg h]at he
    exact ih b _ _ he
 have h2:=this (l.take i) (l.drop i) o A he
 rwa [List.take_append_drop]at h2
section
variable {c:SC} {X:RX} {A:RA} {r w m k:Nat} {I:List Nat} {st:St}
theorem Sz.run:∀(l:B8) (o:Int) {A:RA} {k:Nat},Sz k A->Sz (k+3*l.length) (BH c l o A)
 | [],o,A,k,h=>h
 | b::r,o,A,k,h=>by
  unfold BH
  split
  ·exact h.mono (by omega)
  ·exact(Sz.run r (o+1) (h.next b o)).mono (by simp only[List.length_cons];omega)
theorem W.run:∀(l:B8) (o:Int) {A:RA},(A.err=0->W c A)->(BH c l o A).err=0->W c (BH c l o A)
 | [],o,A,h,he=>h he
 | b::r,o,A,h,he=>by
  unfold BH at he⊢
  by_cases h1:A.err≠0
  ·rw[if_pos h1]at he;exact absurd he h1
  ·rw[if_neg h1]at he⊢
   exact W.run r (o+1) (fun hn=>next_W (h (by omega)) (by omega) hn) he
theorem Mh (h:RB c X A r w m I st) (hl:A.out.length<=90000000) {K:St->Prop} (hk:∀st' I',RB c (Bp X) (BA X A) r w m I' st'->FrB r w m I I' st st'->K st'):
  Ae PR A7 [.box r 0] [] st K:=by
 unfold BA at hk
 refine DV r st K (h.ld (k:=11) (x:= .bool X.begun) (fun _ _=>rfl) (Bg (AI (fun g=>?_) fun g=>?_)))
 ·have g':X.begun=false:=(Bool.not_eq_true' _).mp g
  rw[if_neg (by rw[g'];decide)]at hk
  refine h.put (Bp X) A (by decide) rfl rfl rfl (fun _ _=>rfl) fun st1 h1 f1=>?_
  obtain⟨v,q1,hA⟩:=h1.outK (by omega) (evs:=[Ev.ls]) (by simp)
  exact Ag q1 (hA _ (fun v' st2 o1 hst=>Ac (by rw[List.all_cons,o1];rfl) (hst _ fun st3 I3 h3 f3=>hk st3 I3 h3 (f1.trans f3))) _)
 ·have g':X.begun=true:=(Bool.not_eq_false' _).mp g
  rw[if_pos g']at hk
  have e:Bp X=X:=by unfold Bp;rw[<-g']
  rw[e]at hk
  exact hk st I h (FrB.refl _ _ _ _ _)
theorem K4 (h:RB c X A r w m I st) {K:TV->St->Prop} (hk:∀v st' I' J,RB c X {A with out:=[]} r w m I' st'->FrB r w m I I' st st'->Cr 15 st' v A.out.length (CV A.out) J->(∀id,id∈J->id∈I/\id∉I')->K v st'):
  Ae PR At [.box r 0] [.one .tv] st K:=by
 obtain⟨nv,ov,hv,wo,es,I1,I2,I3,h1,h2,h3,h4,h5,h6,h7,h8,h9⟩:=h.ex
 refine DG r st K (Ag (x:=ov) (by simp only[Ab,h1];rfl) ⟨_,h1,by show 26+1<=30;decide,?_⟩)
 have e1:setAll (rdC c X A w m nv ov) 26 [.nilSlice]=rdC c X {A with out:=[]} w m nv .nilSlice:=rfl
 rw[e1]
 have hrw:=h.rw_
 have hrm:=h.rm
 have f:FrT [] st (st.put r (.cells (rdC c X {A with out:=[]} w m nv .nilSlice))):=⟨Nat.le_refl _,fun _ _ _=>rfl⟩
 have hno:∀{L:List Nat} (id:Nat),id∈L->id∉([]:List Nat):=fun _ _ h=>by cases h
 have hnd:=List.nodup_append.1 h8
 have hnd1:=List.nodup_append.1 hnd.1
 refine hk ov _ (I1++[]++I3) I2 ⟨h.rb,h.wb,h.mb,h.rw_,h.rm,h.wm,nv,.nilSlice,hv,wo,es,I1,[],I3,by simp[St.put],by simp[St.put,Ne.symm hrw];exact h2,by simp[St.put,Ne.symm hrm];exact h3,h4,h5.keep f hno,Cr.nil _ _,h7.keep f hno,?_,rfl⟩ ⟨Nat.le_refl _,Nat.le_refl _,fun b hb _ _ _=>by simp[St.put,hb],fun _ _ _=>rfl,fun id hid=> .inl ?_⟩ (h6.keep f hno) fun id hid=>⟨by rw[h9];exact List.mem_append.2 (.inl (List.mem_append.2 (.inr hid))),fun hm=>?_⟩
 ·rw[List.append_nil]
  exact List.nodup_append.2 ⟨hnd1.1,hnd.2.1,fun a ha b hb=>hnd.2.2 a (List.mem_append.2 (.inl ha)) b hb⟩
 ·rw[List.append_nil]at hid
  rw[h9]
  exact(List.mem_append.1 hid).elim (fun g=>List.mem_append.2 (.inl (List.mem_append.2 (.inl g)))) fun g=>List.mem_append.2 (.inr g)
 ·rw[List.append_nil]at hm
  exact(List.mem_append.1 hm).elim (fun g=>hnd1.2.2 id g id hid rfl) fun g=>hnd.2.2 id (List.mem_append.2 (.inr hid)) id g rfl
end
end
def RL (N L H:Int) (s:B8):Bool:=
 if N<=(s.length:Int)then false else if 1<s.length/\(bt s 1:Int)<L then false else if 1<s.length/\H<(bt s 1:Int)then false
 else if s.length<3 then true else if 128<=bt s 2 then decide (bt s 2<=191)else false
def nN (b:Nat):Int:=if 194<=b/\b<=223 then 2 else if 224<=b/\b<=239 then 3 else if 240<=b/\b<=244 then 4 else 0
def loN (b:Nat):Int:=if b=224 then 160 else if b=240 then 144 else 128
def hiN (b:Nat):Int:=if b=237 then 159 else if b=244 then 143 else 191
def Lg (s:B8):Bool:=RL (nN (bt s 0)) (loN (bt s 0)) (hiN (bt s 0)) s
theorem Iq {s:B8} {N L H:Int} {st:St} {K:Bool->St->Prop} (hk:K (RL N L H s) st):
  (BIf (decide (N<=((s).length:Int))) (K (false) st) (BIf (decide ((1:Int)<((s).length:Int))) (((0<=(1:Int)/\(1:Int)<((s).length:Int))/\BIf (decide (((List.getD s (Int.toNat (1:Int)) 0).toNat:Int)<L)) (K (false) st) (((0<=(1:Int)/\(1:Int)<((s).length:Int))/\BIf (decide (H<((List.getD s (Int.toNat (1:Int)) 0).toNat:Int))) (K (false) st) (BIf (decide (((s).length:Int)<(3:Int))) (K (true) st) (((0<=(2:Int)/\(2:Int)<((s).length:Int))/\BIf (decide ((128:Int)<=((List.getD s (Int.toNat (2:Int)) 0).toNat:Int))) (((0<=(2:Int)/\(2:Int)<((s).length:Int))/\K ((decide (((List.getD s (Int.toNat (2:Int)) 0).toNat:Int)<=(191:Int)))) st)) (K (false) st)))))))) (BIf (decide (((s).length:Int)<(3:Int))) (K (true) st) (((0<=(2:Int)/\(2:Int)<((s).length:Int))/\BIf (decide ((128:Int)<=((List.getD s (Int.toNat (2:Int)) 0).toNat:Int))) (((0<=(2:Int)/\(2:Int)<((s).length:Int))/\K ((decide (((List.getD s (Int.toNat (2:Int)) 0).toNat:Int)<=(191:Int)))) st)) (K (false) st)))))):=by
 unfold RL at hk
 have tl:¬N<=(s.length:Int)->¬(1<s.length/\(bt s 1:Int)<L)->¬(1<s.length/\H<(bt s 1:Int))->K (if s.length<3 then true else if 128<=bt s 2 then decide (bt s 2<=191)else false) st:=fun h1 h2 h3=>by
  rw[if_neg h1,if_neg h2,if_neg h3]at hk;exact hk
 have e1:(((List.getD s (Int.toNat (1:Int)) 0).toNat:Nat):Int)=(bt s 1:Int):=rfl
 have e2:(((List.getD s (Int.toNat (2:Int)) 0).toNat:Nat):Int)=(bt s 2:Int):=rfl
 rw[e1,e2]
 have t3:¬N<=(s.length:Int)->¬(1<s.length/\(bt s 1:Int)<L)->¬(1<s.length/\H<(bt s 1:Int))->BIf (decide (((s).length:Int)<(3:Int))) (K (true) st) (((0<=(2:Int)/\(2:Int)<((s).length:Int))/\BIf (decide ((128:Int)<=(bt s 2:Int))) (((0<=(2:Int)/\(2:Int)<((s).length:Int))/\K ((decide ((bt s 2:Int)<=(191:Int)))) st)) (K (false) st))):=fun h1 h2 h3=>by
  have hk:=tl h1 h2 h3
  refine Ad (fun g=>?_) fun g=>⟨⟨by omega,by omega⟩,Ad (fun g2=>⟨⟨by omega,by omega⟩,?_⟩) fun g2=>?_⟩
  ·rw[if_pos (by omega)]at hk;exact hk
  ·rw[if_neg (by omega),if_pos (by omega)]at hk
   have:decide ((bt s 2:Int)<=191)=decide (bt s 2<=191):=decide_eq_decide.2 ⟨fun h=>by omega,fun h=>by omega⟩
   rw[this];exact hk
  ·rw[if_neg (by omega),if_neg (by omega)]at hk;exact hk
 refine Ad (fun g=>?_) fun g=>Ad (fun g1=>⟨⟨by omega,by omega⟩,Ad (fun g2=>?_) fun g2=>⟨⟨by omega,by omega⟩,Ad (fun g3=>?_) fun g3=>?_⟩⟩) fun g1=>?_
 ·rw[if_pos g]at hk;exact hk
 ·rw[if_neg g,if_pos ⟨by omega,g2⟩]at hk;exact hk
 ·rw[if_neg g,if_neg (fun q=>g2 q.2),if_pos ⟨by omega,g3⟩]at hk;exact hk
 ·exact t3 g (fun q=>g2 q.2) (fun q=>g3 q.2)
 ·exact t3 g (fun q=>by omega) (fun q=>by omega)
theorem RK {s:B8} (h0:s≠ []) {st:St} {K:Bool->St->Prop} (hk:K (Lg s) st):Ae PR Be [.str s] [.one .bool] st K:=by
 have hl:0<s.length:=List.length_pos_iff.2 h0
 have e0:(((List.getD s (Int.toNat (0:Int)) 0).toNat:Nat):Int)=(bt s 0:Int):=rfl
 unfold Lg at hk
 refine Gc s st K ⟨fun n s1 lo hi st1=>n=nN (bt s 0)/\s1=s/\lo=128/\hi=191/\st1=st,⟨⟨by omega,by omega⟩,?_⟩,?_⟩
 ·rw[e0]
  unfold nN
  have z:∀{n:Int},n=(if 194<=bt s 0/\bt s 0<=223 then 2 else if 224<=bt s 0/\bt s 0<=239 then 3 else if 240<=bt s 0/\bt s 0<=244 then 4 else 0)->n=(if 194<=bt s 0/\bt s 0<=223 then 2 else if 224<=bt s 0/\bt s 0<=239 then 3 else if 240<=bt s 0/\bt s 0<=244 then 4 else 0)/\s=s/\(128:Int)=128/\(191:Int)=191/\st=st:=fun h=>⟨h,rfl,rfl,rfl,rfl⟩
  repeat' first | refine Ad (fun _=>?_) fun _=>?_ | (refine z ?_;split<;>(try split)<;>(try split)<;>omega)
 ·rintro n s1 lo hi st1 ⟨rfl,rfl,rfl,rfl,rfl⟩
  refine⟨⟨by omega,by omega⟩,?_⟩
  rw[e0]
  unfold loN hiN at hk
  refine Ad (fun g=>?_) fun g=>Ad (fun g2=>?_) fun g2=>Ad (fun g3=>?_) fun g3=>Ad (fun g4=>?_) fun g4=>?_
  ·rw[if_pos (show bt s1 0=224 by omega),if_neg (show ¬bt s1 0=237 by omega),if_neg (show ¬bt s1 0=244 by omega)]at hk
   exact Iq hk
  ·rw[if_neg (show ¬bt s1 0=224 by omega),if_neg (show ¬bt s1 0=240 by omega),if_pos (show bt s1 0=237 by omega)]at hk
   exact Iq hk
  ·rw[if_neg (show ¬bt s1 0=224 by omega),if_pos (show bt s1 0=240 by omega),if_neg (show ¬bt s1 0=237 by omega),if_neg (show ¬bt s1 0=244 by omega)]at hk
   exact Iq hk
  ·rw[if_neg (show ¬bt s1 0=224 by omega),if_neg (show ¬bt s1 0=240 by omega),if_neg (show ¬bt s1 0=237 by omega),if_pos (show bt s1 0=244 by omega)]at hk
   exact Iq hk
  ·rw[if_neg (show ¬bt s1 0=224 by omega),if_neg (show ¬bt s1 0=240 by omega),if_neg (show ¬bt s1 0=237 by omega),if_neg (show ¬bt s1 0=244 by omega)]at hk
   exact Iq hk
theorem Qa {l ext:B8} {j:Nat} (h:j<l.length):bt (l++ext) j=bt l j:=by
 unfold bt
 rw[List.getD_eq_getElem?_getD,List.getD_eq_getElem?_getD,List.getElem?_append_left h]
theorem begB_of {l ext:B8} (h0:l≠ []) (h:ul l=0) (hu:ul (l++ext)≠0):Lg l=true:=by
 have hL0:l++ext≠ []:=by simp[h0]
 have hpos:=List.length_pos_iff.2 h0
 have hlt:l.length<ul (l++ext):=by
  by_cases hm:ul (l++ext)<=l.length
  ·have:=(Qn hu hm).1
   rw[List.take_left]at this
   omega
  ·omega
 have b0:bt (l++ext) 0=bt l 0:=Qa hpos
 have b1:1<l.length->bt (l++ext) 1=bt l 1:=Qa
 have b2:2<l.length->bt (l++ext) 2=bt l 2:=Qa
 have hd:dN (l++ext)≠(65533,1):=fun e=>hu (by unfold ul;rw[if_pos (.inr e)])
 have hn:ul (l++ext)=(dN (l++ext)).2:=by unfold ul;rw[if_neg (not_or.2 ⟨hL0,hd⟩)]
 rw[hn]at hlt
 have l0:=Dk l 0
 have l1:=Dk (l++ext) 1
 have l2:=Dk (l++ext) 2
 have l3:=Dk (l++ext) 3
 generalize e:dN (l++ext)=d at hd hlt
 unfold dN Lib.decodeN at e
 rw[b0]at e
 generalize bt (l++ext) 1=x1 at*
 generalize bt (l++ext) 2=x2 at*
 generalize bt (l++ext) 3=x3 at*
 generalize (l++ext).length=nn at*
 split at e
 ·subst e
  have hlt:l.length<1:=hlt
  omega
 split at e
 ·rename_i c1
  split at e
  ·rename_i c2
   subst e
   have hlt:l.length<2:=hlt
   have en:nN (bt l 0)=2:=if_pos ⟨by omega,by omega⟩
   unfold Lg RL
   rw[en,if_neg (by omega),if_neg (by omega),if_neg (by omega),if_pos (by omega)]
  ·exact absurd e.symm hd
 split at e
 ·rename_i c1
  split at e
  ·rename_i c2
   subst e
   have hlt:l.length<3:=hlt
   have en:nN (bt l 0)=3:=by unfold nN;rw[if_neg (by omega),if_pos ⟨by omega,by omega⟩]
   unfold Lg RL
   rw[en,if_neg (by omega),if_neg (fun q=>?_),if_neg (fun q=>?_),if_pos (by omega)]
   ·have e1:=b1 q.1
    have q2:=q.2
    unfold hiN at q2
    split at q2
    ·omega
    ·split at q2<;>omega
   ·have e1:=b1 q.1
    have q2:=q.2
    unfold loN at q2
    split at q2
    ·omega
    ·split at q2<;>omega
  ·exact absurd e.symm hd
 split at e
 ·rename_i c1
  split at e
  ·rename_i c2
   subst e
   have hlt:l.length<4:=hlt
   have en:nN (bt l 0)=4:=by unfold nN;rw[if_neg (by omega),if_neg (by omega),if_pos ⟨by omega,by omega⟩]
   unfold Lg RL
   rw[en,if_neg (by omega),if_neg (fun q=>?_),if_neg (fun q=>?_)]
   ·by_cases h3:l.length<3
    ·rw[if_pos h3]
    ·have e2:=b2 (by omega)
     rw[if_neg h3,if_pos (by omega)]
     exact decide_eq_true (by omega)
   ·have e1:=b1 q.1
    have q2:=q.2
    unfold hiN at q2
    split at q2
    ·omega
    ·split at q2<;>omega
   ·have e1:=b1 q.1
    have q2:=q.2
    unfold loN at q2
    split at q2
    ·omega
    ·split at q2<;>omega
  ·exact absurd e.symm hd
 ·exact absurd e.symm hd
theorem O8 {l:B8} (h0:l≠ []) (h:ul l=0) (hb:Lg l=false) (ext:B8):A8 (l++ext)=0:=by
 refine Dm _ ?_
 by_cases hu:ul (l++ext)=0
 ·exact hu
 ·rw[begB_of h0 h hu]at hb;cases hb
end Go.TVF
