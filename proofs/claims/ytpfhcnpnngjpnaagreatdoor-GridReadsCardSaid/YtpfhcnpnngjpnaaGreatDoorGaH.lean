/- What the laws below rest on: a framework for Go programs, and contracts of the functions that they reach. -/
import Derived.Test.YtpfhcnpnngjpnaaGreatDoorGaG
set_option maxRecDepth 20000
set_option linter.unusedVariables false
set_option linter.unusedSimpArgs false
namespace Go.TVF
open Go.IntKind(i64 u8)
open Go Go.Proofs
section
def Kr (l:List (List B8)):Nat:=match l with | []=>0 | r::rs=>Mr r+Kr rs
def GR (l:List (List B8)):Nat:=match l with | []=>0 | r::rs=>r.length+GR rs
theorem VE {l:List (List B8)} {j:Nat} {r:List B8} (h:l[j]? =some r):Mr r<=Kr l/\r.length<=GR l:=by
 induction l generalizing j with
 | nil=>simp at h
 | cons d rs ih=>
  cases j with
  | zero=>simp only[List.getElem?_cons_zero,Option.some.injEq]at h;subst h;simp[Kr,GR]
  | succ j=>
   have:=ih (j:=j) (by simpa using h)
   simp only[Kr,GR];omega
section
variable {a q:Int} {hd ty:Bool} {st:St}
end
end
section
theorem NA {s:B8} {a q:Int} {hd:Bool} {n:Nd} (hl:s.length<=70000) (h:Lv s a q hd= .ok n):Dd n=s/\KV n=0/\HF n a q hd:=by
 obtain⟨rs,rfl,_,_,_,_,_,hr,_⟩:=Cc h
 have ht:Dd (.mk 1 [] [] rs [])=s:=by
  have:=IT.text hr (Nat.zero_le _)
  simp only[Dd,List.nil_append,List.append_nil]
  rw[this];rfl
 have hlen:D5 (.mk 1 [] [] rs [])=s.length:=by rw[<-Eg,ht]
 have hc:KV (.mk 1 [] [] rs [])=0:=by
  have hs0:(xU s a q).s.length=s.length:=rfl
  obtain⟨s',h1,h2,h3⟩:=Vk hr (Nat.zero_le _) (s:=1) (by rw[hs0];omega)
  have h4:chk (.mk 1 [] [] rs []) 1 0= .ok s':=by
   have l1:JF 1=false:=by decide
   simp only[chk,l1]
   rw[if_neg (by omega),if_neg (by omega),if_neg (by omega),if_neg (by simp)]
   exact h1
  unfold KV
  rw[h4]
  simp only
  rw[if_neg (by omega)]
 exact⟨ht,hc,hc,by rw[ht];exact h⟩
theorem Rx {s:B8} {i:Nat} {p:Nat×Int} (h:BZ s i= .error p):p.2≠0:=by
 obtain⟨o,c⟩:=p
 rcases LC h with h | h<;>simp[h.2]
theorem entE_ne {x:Cx} {hd:Bool} {i:Nat} {v:Int} {ns:List B8} {p:Nat×Int} (h:DL x hd i v ns= .error p):p.2≠0:=by
 have hR:∀v,Oy x hd i v ns= .error p->p.2≠0:=fun v h=>by
  unfold Oy at h
  split at h
  ·rename_i e he
   cases h
   exact Ps (o:=p.1) (c:=p.2) he
  ·rename_i e he
   by_cases h1:(if hd then 1024 else 65536)<(txt x.q (slc x.s i e)).length
   ·rw[if_pos h1]at h;cases h;simp
   ·by_cases h2:hd=true/\txt x.q (slc x.s i e)∈ns
    ·rw[if_neg h1,if_pos h2]at h;cases h;simp
    ·rw[if_neg h1,if_neg h2]at h;cases h
 rw[MH]at h
 split at h
 ·exact hR v h
 ·split at h
  ·rename_i e he
   cases h
   exact KX (o:=p.1) (c:=p.2) he
  ·exact hR _ h
theorem TW {x:Cx} {num hd:Bool} {wid:Int}:∀(n:Nat) {acc:List Nd} {i:Nat} {v:Int} {ns:List B8} {p:Nat×Int},i<=x.s.length->x.s.length<i+n->BM x num wid hd n acc i v ns= .error p->p.2≠0
 | 0,acc,i,v,ns,p,h1,h2,h=>by omega
 | n+1,acc,i,v,ns,p,h1,h2,h=>by
  rw[Lr]at h
  split at h
  ·cases h;simp
  split at h
  ·rename_i e he;cases h;exact entE_ne he
  ·rename_i e v1 ns1 he
   have hle:=Ue h1 he
   split at h
   ·exact TW n (by omega) (by omega) h
   ·split at h
    ·rename_i e2 he2;cases h;exact Rx he2
    ·cases h
theorem recD_ne {x:Cx} {num hd:Bool} {wid:Int} {i:Nat} {v:Int} {ns:List B8} {p:Nat×Int} (hi:i<=x.s.length) (h:EY x num wid hd i v ns= .error p):p.2≠0:=by
 have hK:∀v,Gg x.s num wid (BM x num wid hd (x.s.length+1) [] i v ns)= .error p->p.2≠0:=fun v h=>by
  unfold Gg at h
  rcases hr:BM x num wid hd (x.s.length+1) [] i v ns with e | ⟨e,v2,ns2,ks⟩
  ·rw[hr]at h;cases h;exact TW _ hi (by omega) hr
  ·rw[hr]at h
   simp only at h
   cases hn7:BZ x.s e with
   | error e2=>rw[hn7]at h;cases h;exact Rx hn7
   | ok n7=>
    rw[hn7]at h
    simp only at h
    by_cases hw:(ks.length:Int)<(if num then wid else(ks.length:Int))
    ·rw[if_pos hw]at h;cases h;simp
    ·rw[if_neg hw]at h;cases h
 rw[EX]at h
 split at h
 ·exact hK v h
 ·split at h
  ·rename_i e he;cases h;exact KX (o:=p.1) (c:=p.2) he
  ·exact hK _ h
theorem Uj {x:Cx} {hdr:Bool}:∀(n:Nat) {acc:List Nd} {i:Nat} {v:Int} {ns:List B8} {wid:Int} {p:Nat×Int},i<=x.s.length->x.s.length<i+n->Ds x hdr n acc i v ns wid= .error p->p.2≠0
 | 0,acc,i,v,ns,wid,p,h1,h2,h=>by omega
 | n+1,acc,i,v,ns,wid,p,h1,h2,h=>by
  rw[LO]at h
  split at h
  ·cases h
  split at h
  ·rename_i e he;cases h;exact recD_ne h1 he
  ·rename_i i' v' ns' r wid' he
   have hle:=PZ (by omega) he
   exact Uj n (by omega) (by omega) h
theorem Nv {x:Cx} {hd:Bool} {l2 l3 l4:Int} {p:Nat×Int} (h:AV x hd l2 l3 l4= .error p):p.2≠0:=by
 unfold AV at h
 split at h
 ·cases h;simp
 split at h
 ·cases h;simp
 split at h
 ·cases h;simp
 split at h
 ·cases h;simp
 split at h
 ·rename_i e he;cases h;exact Uj _ (by omega) (by omega) he
 ·cases h
section
variable {a q:Int} {hd ty:Bool} {st:St}
theorem Nr {K:Int->Int->Bool->Bool->St->Prop} (hk:K 44 34 true true st):CallT PR BI [] [.agg [.int .u8,.int .u8,.bool,.bool]] st K:=HQ st K hk
end
end
section
theorem VD {cs:List B8} {c:B8} (h:c∈cs):c.length<=Mr cs:=by
 induction cs with
 | nil=>cases h
 | cons d r ih=>
  simp only[Mr]
  rcases List.mem_cons.1 h with rfl | h
  ·omega
  ·have:=ih h;omega
section
variable {a q:Int} {hd ty:Bool} {st:St}
end
end
def IW (a q:Int) (c:B8):Prop:=∀(pre:B8) (b:UInt8) (post:B8),((b.toNat:Int)=a∨(b.toNat:Int)=10)->Bq a q (pre++c++b::post) pre.length= .ok (pre.length+c.length)
structure Vr (a q:Int):Prop where
 a0:0<=a
 a1:a<128
 q0:0<=q
 q1:q<128
 aq:a≠q
 q10:q≠10
 q13:q≠13
 a10:a≠10
 sa:B2 a=false
 sq:B2 q=false
theorem dlOk {a q:Int} (h:dOk a q=true):Vr a q:=by
 have hk:=Uv h
 unfold dOk at h
 rw[decide_eq_true_eq]at h
 exact⟨by omega,by omega,by omega,by omega,by omega,by omega,by omega,by omega,h.2.1,h.2.2⟩
theorem RT {a q:Int} (d:Vr a q) (s:B8):IW a q (DO a q s):=fun pre b post hb=>Tm d.q0 (by have:=d.q1;omega) d.aq d.q10 d.q13 pre s b post hb
theorem Qo {a q:Int} (d:Vr a q) {c:B8} (h:FW a q c=false):IW a q c:=by
 have:=RT d c
 unfold DO at this
 rwa [if_neg (by rw[h];decide)]at this
def Ms (q:Int) (s:B8):B8:=UInt8.ofNat q.toNat::(dbl (UInt8.ofNat q.toNat) s++[UInt8.ofNat q.toNat])
theorem RS {a q:Int} (d:Vr a q) (c:B8):IW a q (Ms q c):=by
 intro pre b post hb
 have hq1:=d.q1
 have hqb:=I8 d.q0 (by omega:q<=255)
 have hd:(pre++Ms q c++b::post).drop pre.length=Ms q c++b::post:=by rw[List.append_assoc,List.drop_left]
 have hby:by_ (pre++Ms q c++b::post) pre.length=q:=by
  have:(pre++Ms q c++b::post).getD pre.length 0=((pre++Ms q c++b::post).drop pre.length).getD 0 0:=by rw[GM];rfl
  unfold by_
  rw[this,hd];exact hqb
 have hlen:pre.length<(pre++Ms q c++b::post).length:=by simp only[List.length_append,List.length_cons];omega
 have hQ:QE q (pre++Ms q c++b::post) (pre.length+1)=some (pre.length+(Ms q c).length):=by
  unfold QE
  rw[<-List.drop_drop,hd]
  have:=MB hqb c (b::post) (pre.length+1) (fun b' l' h=>by cases h;have:=d.aq;have:=d.q10;omega)
  unfold Ms
  simp only[List.cons_append,List.drop_succ_cons,List.drop_zero,List.append_assoc,List.nil_append]
  rw[this]
  congr 1
  simp;omega
 unfold Bq
 rw[if_pos ⟨hlen,hby⟩,hQ]
def Dm (a:Int):List B8->B8
 | []=>[10]
 | [c]=>c++[10]
 | c::r=>c++UInt8.ofNat a.toNat::Dm a r
theorem NQ {a q:Int} (d:Vr a q):∀(cs:List B8) (pre post:B8),cs≠ []->(∀c,c∈cs->IW a q c)->
  ∃ks e,Ib a q (pre++Dm a cs++post) pre.length ks e 1/\e+1=pre.length+(Dm a cs).length/\ks.map AA=cs/\slc (pre++Dm a cs++post) e (e+1)=[10]
 | [],pre,post,h,_=>absurd rfl h
 | [c],pre,post,_,hok=>by
  have hs:pre++Dm a [c]++post=pre++c++10::post:=by simp[Dm]
  have hc:=hok c (by simp) pre 10 post (.inr rfl)
  rw[hs]
  have hlt:pre.length+c.length<(pre++c++10::post).length:=by simp
  have hb:(pre++c++10::post).getD (pre.length+c.length) 0=10:=by
   have:(pre++c).length=pre.length+c.length:=by simp
   rw[<-this,List.getD_eq_getElem?_getD,List.getElem?_append_right (Nat.le_refl _)]
   simp
  have hby:by_ (pre++c++10::post) (pre.length+c.length)=10:=by unfold by_;rw[hb];rfl
  refine⟨_,_,.last hc (by rintro⟨_,h⟩;rw[hby]at h;exact d.a10 h.symm) ?_,?_,?_,?_⟩
  ·unfold BZ;rw[if_neg (by omega),if_pos hby]
  ·simp[Dm];omega
  ·simp only[List.map_cons,List.map_nil,BR]
   congr 1
   unfold slc
   rw[show pre.length+c.length=(pre++c).length by simp,List.take_left,List.drop_left]
  ·rw[PP hlt,hb]
 | c::c2::r,pre,post,_,hok=>by
  have hs:pre++Dm a (c::c2::r)++post=pre++c++UInt8.ofNat a.toNat::(Dm a (c2::r)++post):=by simp[Dm]
  have hs2:pre++c++UInt8.ofNat a.toNat::(Dm a (c2::r)++post)=(pre++c++[UInt8.ofNat a.toNat])++Dm a (c2::r)++post:=by simp
  have hab:=I8 d.a0 (by have:=d.a1;omega:a<=255)
  have hc:=hok c (by simp) pre (UInt8.ofNat a.toNat) (Dm a (c2::r)++post) (.inl hab)
  obtain⟨ks,e,h1,h2,h3,h4⟩:=NQ d (c2::r) (pre++c++[UInt8.ofNat a.toNat]) post (by simp) fun x hx=>hok x (.tail _ hx)
  rw[<-hs2]at h1 h4
  rw[hs]
  have hlt:pre.length+c.length<(pre++c++UInt8.ofNat a.toNat::(Dm a (c2::r)++post)).length:=by simp
  have hb:(pre++c++UInt8.ofNat a.toNat::(Dm a (c2::r)++post)).getD (pre.length+c.length) 0=UInt8.ofNat a.toNat:=by
   have:(pre++c).length=pre.length+c.length:=by simp
   rw[<-this,List.getD_eq_getElem?_getD,List.getElem?_append_right (Nat.le_refl _)]
   simp
  have hpl:(pre++c++[UInt8.ofNat a.toNat]).length=pre.length+c.length+1:=by simp;omega
  rw[hpl]at h1 h2
  refine⟨_,_,.more hc hlt (by unfold by_;rw[hb];exact hab) h1,?_,?_,h4⟩
  ·simp only[Dm,List.length_append,List.length_cons];omega
  ·simp only[List.map_cons,BR]
   rw[h3]
   congr 1
   unfold slc
   rw[show pre.length+c.length=(pre++c).length by simp,List.take_left,List.drop_left]
def DE (a:Int) (l:List (List B8)):B8:=l.flatMap (Dm a)
theorem Np {a q:Int} (d:Vr a q):∀(l:List (List B8)) (pre:B8),(∀cs,cs∈l->cs≠ []/\∀c,c∈cs->IW a q c)->
  ∃rs,IT a q (pre++DE a l) pre.length rs/\rs.map (fun r=>(At r).map AA)=l
 | [],pre,h=>⟨[],.nil (by simp[DE]),rfl⟩
 | cs::l,pre,h=>by
  have hs:pre++DE a (cs::l)=pre++Dm a cs++DE a l:=by simp[DE]
  obtain⟨ks,e,h1,h2,h3,h4⟩:=NQ d cs pre (DE a l) (h cs (by simp)).1 (h cs (by simp)).2
  obtain⟨rs,h5,h6⟩:=Np d l (pre++Dm a cs) (fun c hc=>h c (.tail _ hc))
  rw[hs]
  rw[List.length_append]at h5
  have hle:=h1.le (by simp)
  refine⟨_,.cons (by simp only[List.length_append]at hle⊢;omega) h1 (by rw[h2];exact h5),?_⟩
  rw[List.map_cons,h6]
  show ks.map AA::_=_
  rw[h3]
theorem MP {a:Int} (h0:0<=a) (h1:a<128):∀cs:List B8,(∀c,c∈cs->Bh c=c.length)->Bh (Dm a cs)=(Dm a cs).length
 | [],_=>Ec [10] rfl
 | [c],h=>Ic (h c (by simp)) (Ec [10] rfl)
 | c::c2::r,h=>by
  have hab:=I8 h0 (by omega:a<=255)
  exact Ic (h c (by simp)) (OH (by omega) (MP h0 h1 (c2::r) fun x hx=>h x (.tail _ hx)))
theorem MO {a:Int} (h0:0<=a) (h1:a<128):∀l:List (List B8),(∀r,r∈l->∀c,c∈r->Bh c=c.length)->Bh (DE a l)=(DE a l).length
 | [],_=>OG
 | r::l,h=>Ic (MP h0 h1 r (h r (by simp))) (MO h0 h1 l fun x hx=>h x (.tail _ hx))
theorem RG {x:Cx} {i:Nat} {v:Int} {ns:List B8} {e:Nat} (h3:Bq x.a x.q x.s i= .ok e) (h4:(txt x.q (slc x.s i e)).length<=1024) (h5:txt x.q (slc x.s i e)∉ns):
  DL x true i v ns= .ok (e,v,txt x.q (slc x.s i e)::ns):=by
 simp only[DL,if_true,true_and,bind,Except.bind,h3]
 rw[if_neg (by omega),if_neg h5]
theorem Vd {x:Cx} {i:Nat} {v:Int} {ns:List B8} {e:Nat} {v1:Int} {ns1:List B8} (h:DL x true i v ns= .ok (e,v1,ns1)):
  txt x.q (slc x.s i e)∉ns/\ns1=txt x.q (slc x.s i e)::ns/\(txt x.q (slc x.s i e)).length<=1024:=by
 simp only[DL,if_true,true_and,bind,Except.bind]at h
 split at h
 ·cases h
 ·split at h
  ·cases h
  ·rename_i h2 h1
   split at h
   ·cases h
   ·rename_i h3
    cases h
    exact⟨h3,rfl,by omega⟩
def Cd (q:Int) (ks:List Nd):List B8:=ks.map fun k=>txt q (AA k)
theorem VP {x:Cx} {num:Bool} {wid:Int}:∀{i:Nat} {ks:List Nd} {e m:Nat},Ib x.a x.q x.s i ks e m->∀(n:Nat) {acc:List Nd} {v:Int} {ns:List B8},
  i<=x.s.length->x.s.length<i+n->(∀t,t∈Cd x.q ks->t.length<=1024/\t∉ns)->(Cd x.q ks).Nodup->(num=true->((acc.length+ks.length:Nat):Int)<=wid)->∃ns',BM x num wid true n acc i v ns= .ok (e,v,ns',acc++ks):=by
 intro i ks e m h
 induction h with
 | @last i e m h1 h2 h3=>
  intro n acc v ns hi hn hk hnd hw
  cases n with
  | zero=>omega
  | succ n=>
  simp only[BM]
  rw[if_neg (by rintro⟨h,h'⟩;have:=hw h;simp at this;omega)]
  have hc:=hk _ (List.mem_singleton.2 rfl)
  dsimp only at hc
  rw[BR]at hc
  rw[RG h1 hc.1 hc.2]
  simp only[bind,Except.bind]
  rw[if_neg h2,h3]
  exact⟨_,rfl⟩
 | @more i e e' m ks h1 h2 h3 h4 ih=>
  intro n acc v ns hi hn hk hnd hw
  cases n with
  | zero=>omega
  | succ n=>
  simp only[BM]
  simp only[List.length_cons]at hw
  rw[if_neg (by rintro⟨h,h'⟩;have:=hw h;omega)]
  have hc:=hk _ (List.mem_cons_self ..)
  dsimp only at hc
  rw[BR]at hc
  rw[RG h1 hc.1 hc.2]
  simp only[bind,Except.bind]
  rw[if_pos ⟨h2,h3⟩]
  have hnd2:txt x.q (slc x.s i e)∉Cd x.q ks/\(Cd x.q ks).Nodup:=by
   have:=List.nodup_cons.1 hnd
   dsimp only at this
   rwa [BR]at this
  have hle:=Cq hi h1
  obtain⟨ns',hr⟩:=ih n (acc:=acc++[IK x.s i e [.mk 11 [] [x.s.getD e 0] [] []]]) (v:=v) (ns:=txt x.q (slc x.s i e)::ns) (by omega) (by omega) (fun t ht=>⟨(hk t (List.mem_cons_of_mem _ ht)).1,fun hm=>by
   rcases List.mem_cons.1 hm with rfl | hm
   ·exact hnd2.1 ht
   ·exact(hk t (List.mem_cons_of_mem _ ht)).2 hm⟩) hnd2.2 (fun hn=>by have:=hw hn;simp;omega)
  rw[hr,List.append_assoc]
  exact⟨ns',rfl⟩
theorem UP {x:Cx} {num:Bool} {wid:Int}:∀(n:Nat) {acc:List Nd} {i:Nat} {v:Int} {ns:List B8} {e:Nat} {v':Int} {ns':List B8} {out:List Nd},
  BM x num wid true n acc i v ns= .ok (e,v',ns',out)->∃ks,out=acc++ks/\(Cd x.q ks).Nodup/\∀t,t∈Cd x.q ks->t.length<=1024/\t∉ns:=by
 intro n
 induction n with
 | zero=>intro acc i v ns e v' ns' out h;simp only[BM]at h;cases h
 | succ n ih=>
  intro acc i v ns e v' ns' out h
  simp only[BM]at h
  split at h
  ·cases h
  simp only[bind,Except.bind]at h
  split at h
  ·cases h
  rename_i p he
  obtain⟨e1,v1,ns1⟩:=p
  obtain⟨c1,c2,c3⟩:=Vd he
  simp only at h
  split at h
  ·obtain⟨ks,k1,k2,k3⟩:=ih h
   refine⟨_::ks,by rw[k1,List.append_assoc];rfl,?_,?_⟩
   ·show(txt x.q (AA _)::Cd x.q ks).Nodup
    rw[BR]
    refine List.nodup_cons.2 ⟨fun hm=>?_,k2⟩
    exact(k3 _ hm).2 (by rw[c2];exact List.mem_cons_self ..)
   ·intro t ht
    rcases List.mem_cons.1 ht with rfl | ht
    ·dsimp only;rw[BR];exact⟨c3,c1⟩
    ·exact⟨(k3 t ht).1,fun hm=>(k3 t ht).2 (by rw[c2];exact List.mem_cons_of_mem _ hm)⟩
  ·split at h
   ·cases h
   cases h
   refine⟨_,rfl,by simp[Cd],fun t ht=>?_⟩
   rw[List.mem_singleton.1 ht]
   dsimp only
   rw[BR]
   exact⟨c3,c1⟩
theorem VS {x:Cx} {num:Bool} {wid:Int} {i:Nat} {ks:List Nd} {e m:Nat} (h:Ib x.a x.q x.s i ks e m) {v:Int} {ns:List B8}
  (hi:i<=x.s.length) (hk:∀t,t∈Cd x.q ks->t.length<=1024/\t∉ns) (hnd:(Cd x.q ks).Nodup) (hw:num=true->(ks.length:Int)=wid):
  ∃ns',EY x num wid true i v ns= .ok (e+m,v,ns',.mk 8 [] [] ks (slc x.s e (e+m)),(ks.length:Int)):=by
 have hl:=h.le hi
 obtain⟨ns',hr⟩:=VP (num:=num) (wid:=wid) h (x.s.length+1) (acc:=[]) (v:=v) (ns:=ns) hi (by omega) hk hnd (fun hn=>by rw[List.length_nil,Nat.zero_add,hw hn];omega)
 refine⟨ns',?_⟩
 rw[EX,if_pos rfl,hr]
 unfold Gg
 simp only[hl.2.2.2.2]
 cases num with
 | true=>have:=hw rfl;simp only[if_true,List.nil_append];rw[<-this,if_neg (by omega)]
 | false=>simp only[Bool.false_eq_true,if_false,List.nil_append];rw[if_neg (by omega)]
theorem S9 {x:Cx} (n:Nat) {out:List Nd} {v:Int} {ns:List B8} {wid:Int} {i:Nat} (h:Ds x true n [] i v ns wid= .ok out) (hi:i<=x.s.length):∀r,out.head? =some r->(Cd x.q (At r)).Nodup/\∀t,t∈Cd x.q (At r)->t.length<=1024:=by
 intro r hr
 cases n with
 | zero=>simp only[Ds]at h;cases h
 | succ n=>
 simp only[Ds]at h
 split at h
 ·cases h;cases hr
 simp only[bind,Except.bind]at h
 split at h
 ·cases h
 rename_i p h1
 obtain⟨i',v',ns',r1,wid'⟩:=p
 simp only[List.isEmpty_nil,Bool.and_true,Bool.not_true,List.nil_append]at h h1
 obtain⟨ks,e,m,rfl,rfl,k2,_⟩:=Nq hi h1
 have hle:=k2.le hi
 obtain⟨rs,j1,_⟩:=NT n (by omega) h
 rw[j1]at hr
 simp only[List.cons_append,List.nil_append,List.head?_cons,Option.some.injEq]at hr
 subst hr
 obtain⟨v1,_,h4⟩:=Fx h1
 obtain⟨e2,v2,ns2,ks2,m2,h2,_,_,hp⟩:=KF h4
 simp only[Prod.mk.injEq]at hp
 obtain⟨_,_,_,hk,_⟩:=hp
 simp only[Nd.mk.injEq,true_and]at hk
 obtain⟨ks3,q1,q2,q3⟩:=UP _ h2
 rw[List.nil_append]at q1
 show(Cd x.q ks).Nodup/\∀t,t∈Cd x.q ks->t.length<=1024
 rw[hk.1,q1]
 exact⟨q2,fun t ht=>(q3 t ht).1⟩
theorem WK {x:Cx} (hdep:3<=x.dep) {W:Int} {hdr:Bool} {rs:List Nd} (h:IT x.a x.q x.s 0 rs) (n:Nat) (hn:x.s.length<n)
  (hk:∀r,r∈rs->∀k,k∈At r->(txt x.q (AA k)).length<=65536) (hW:∀r,r∈rs->((At r).length:Int)=W) (hv:1+D1 hdr rs<=x.nod)
  (hh:hdr=true->∀r,rs.head? =some r->(Cd x.q (At r)).Nodup/\∀t,t∈Cd x.q (At r)->t.length<=1024):Ds x hdr n [] 0 1 [] 0= .ok rs:=by
 cases hdr with
 | false=>exact Ui hdep h n (acc:=[]) (Nat.zero_le _) (by omega) hk (fun h=>absurd rfl h) hW hv
 | true=>
  cases h with
  | nil h=>
   cases n with
   | zero=>omega
   | succ n=>simp only[Ds];rw[if_pos h]
  | @cons _ e m ks rs h1 h2 h3=>
   cases n with
   | zero=>omega
   | succ n=>
   have hle:=h2.le (Nat.zero_le _)
   obtain⟨hnd,hl⟩:=hh rfl _ rfl
   have hks:(ks.length:Int)=W:=hW _ (List.mem_cons_self ..)
   have hm:0<e+m:=by
    rcases Nat.eq_zero_or_pos m with h0 | h0
    ·have:=(Ey (by omega) hle.2.2.2.2).2.1 h0;omega
    ·omega
   obtain⟨ns',hr⟩:=VS (num:=false) (wid:=0) h2 (v:=1) (ns:=[]) (Nat.zero_le _) (fun t ht=>⟨hl t ht,by simp⟩) hnd (fun h=>by cases h)
   simp only[Ds,List.isEmpty_nil,Bool.and_true,Bool.not_true]
   rw[if_neg (by omega),hr]
   simp only[bind,Except.bind,List.nil_append]
   have:=Ui hdep h3 n (acc:=[.mk 8 [] [] ks (slc x.s e (e+m))]) (v:=1) (ns:=ns') (wid:=(ks.length:Int)) (by omega) (by omega) (fun r hr=>hk r (List.mem_cons_of_mem _ hr)) (fun _=>hks) (fun r hr=>hW r (List.mem_cons_of_mem _ hr)) (by
    unfold D1 at hv;simpa using hv)
   have e2:∀(n:Nat) (acc:List Nd) (i:Nat) (v:Int) (ns:List B8) (wid:Int),acc≠ []->Ds x true n acc i v ns wid=Ds x false n acc i v ns wid:=by
    intro n
    induction n with
    | zero=>intros;rfl
    | succ n ih=>
     intro acc i v ns wid ha
     have hb:acc.isEmpty=false:=by cases acc;exact absurd rfl ha;rfl
     simp only[Ds,hb,Bool.and_false,Bool.not_false]
     split
     ·rfl
     ·simp only[bind,Except.bind]
      split
      ·rfl
      ·exact ih _ _ _ _ _ (by simp)
   rw[e2 _ _ _ _ _ _ (by simp),this]
   rfl
theorem Po:∀(rs:List Nd) (l:List (List B8)),rs.map (fun r=>(At r).map AA)=l->EC rs=(l.length:Int)+GR l
 | [],[],h=>by simp[EC,GR]
 | [],_::_,h=>by simp at h
 | _::_,[],h=>by simp at h
 | r::rs,c::l,h=>by
  simp only[List.map_cons,List.cons.injEq]at h
  have h1:=congrArg List.length h.1
  rw[List.length_map]at h1
  have ih:=Po rs l h.2
  simp only[EC,KU,GR,List.length_cons];omega
theorem Td (hd:Bool) (rs:List Nd):D1 hd rs<=EC rs:=by
 unfold D1
 split
 ·cases rs with
  | nil=>simp[EC]
  | cons r rs=>simp only[List.tail_cons,EC,KU];omega
 ·omega
theorem readX {a q:Int} (hd:dOk a q=true) (hdr:Bool) {l:List (List B8)} {W:Nat} (h:∀r,r∈l->r≠ []/\r.length=W/\∀c,c∈r->IW a q c/\Bh c=c.length/\(txt q c).length<=65536)
  (hs:(DE a l).length<=1048576) (hc:l.length+GR l<=65535) (hh:hdr=true->∀r,l.head? =some r->(r.map (txt q)).Nodup/\∀c,c∈r->(txt q c).length<=1024):
  ∃rs,Lv (DE a l) a q hdr= .ok (.mk 1 [] [] rs [])/\rs.map (fun r=>(At r).map AA)=l:=by
 have d:=dlOk hd
 obtain⟨rs,hr,hm⟩:=Np d l [] fun cs hcs=>⟨(h cs hcs).1,fun c hc=>((h cs hcs).2.2 c hc).1⟩
 rw[List.nil_append,List.length_nil]at hr
 have hv:=MO d.a0 d.a1 l fun r hr c hc=>((h r hr).2.2 c hc).2.1
 have hmem:∀r,r∈rs->(At r).map AA∈l:=by
  intro r hr1
  rw[<-hm];exact List.mem_map.2 ⟨r,hr1,rfl⟩
 have hnk:∀r,Cd q (At r)=((At r).map AA).map (txt q):=fun r=>by unfold Cd;rw[List.map_map];rfl
 have hdoc:=WK (x:=xU (DE a l) a q) (show(3:Int)<=48 by decide) (W:=(W:Int)) (hdr:=hdr) hr ((DE a l).length+1) (by show(DE a l).length<_;omega) (fun r hr1 k hk1=>
   ((h _ (hmem r hr1)).2.2 _ (List.mem_map.2 ⟨k,hk1,rfl⟩)).2.2) (fun r hr1=>by
   have:=(h _ (hmem r hr1)).2.1
   rw[List.length_map]at this;omega) (by
   have h1:=Po rs l hm
   have h2:=Td hdr rs
   show _<=(65536:Int);omega) (fun hb r hr1=>by
   have hl:l.head? =some ((At r).map AA):=by rw[<-hm,List.head?_map,hr1];rfl
   have:=hh hb _ hl
   show(Cd q (At r)).Nodup/\_
   rw[hnk]
   exact⟨this.1,fun t ht=>by
    obtain⟨c,hc,rfl⟩:=List.mem_map.1 ht
    exact this.2 c hc⟩)
 refine⟨rs,?_,hm⟩
 show AV (xU (DE a l) a q) hdr 1048576 1024 65536=_
 unfold AV
 rw[if_neg (show ¬dOk a q=false by rw[hd];decide),if_neg (show ¬lOk 48 65536 1048576 1024 65536=false by decide),if_neg (show ¬(1048576:Int)<((DE a l).length:Int) by omega),if_neg (show ¬Bh (DE a l)≠(DE a l).length by rw[hv];simp)]
 rw[show Ds (xU (DE a l) a q) hdr ((xU (DE a l) a q).s.length+1) [] 0 1 [] 0= .ok rs from hdoc]
noncomputable def Kv (a q:Int) (ty:Bool) (s:Sc):B8:=
 if s.kind=4 then(if DO a q s.text=s.text/\(GU ty false s.text).kind≠4 then Ms q s.text else DO a q s.text)else plT s
def Jv (ty:Bool) (k:Int):Int:=if (ty=false/\k≠4)∨k=5∨k=6∨k=7 then 27 else 0
def Bz (s:Sc):Vl:= .mk s [] []
def Ca (q:Int) (ty:Bool) (r:List B8):List Sc:=r.map fun c=>GU ty (Bi q c) (txt q c)
def Sp (names:List B8) (row:List Sc):Vl:=R6 (List.zipWith (fun k s=>Fd.mk k (Bz s)) names row)
def Bl (rs:List Nd):List (List B8):=rs.map fun r=>(At r).map AA
theorem Me.own {s:Sc} {l:List Vl} {f:List Fd} (h:Me (.mk s l f)):Py s l f/\LR l/\LS f:=by unfold Me at h;exact h
def scW (k:Int):Sc:=⟨k,false,false,[],0,0,0,0,0,[],[]⟩
section
abbrev KG13:=Int->Bool->Bool->B8->Int->Int->Int->Int->Int->B8->TV->TV->TV->St->Prop
def KC (K:KG13) (x:Sc) (st:St):Prop:=K x.kind x.b x.neg x.dg x.ex x.tk x.td x.tn x.tz x.text .nilSlice .nilSlice .nilSlice st
abbrev OE:List CTy:=[.int .i64,.bool,.bool,.str,.int .i64,.int .i64,.int .i64,.int .i64,.int .i64,.str,.tv,.tv,.tv]
section
variable {a q:Int} {hd ty:Bool} {st:St}
theorem NJ {s:B8} {qd:Bool} (hl:s.length<=1000000) {K:KG13} (hk:∀st',As st st'->KC K (GU ty qd s) st'):
  CallT PR Ce [.str s,.bool qd,.agg [.int .u8 a,.int .u8 q,.bool hd,.bool ty]] [.agg OE] st K:=by
 have e0:=As.refl st
 unfold GU at hk
 refine PJ s qd a q hd ty st K (Am (fun g=>Gb s st _ (Ab (BY rfl rfl rfl) ?_)) fun g=>Am (fun g2=>Gb s st _ (Ab (BY rfl rfl rfl) ?_)) fun g2=>?_)
 ·have:ty=false:=by simpa using g
  rw[if_pos (.inl this)]at hk;exact hk st e0
 ·rw[if_pos (.inr g2)]at hk;exact hk st e0
 have g:ty=true:=by simpa using g
 rw[if_neg (by rw[g,g2];simp)]at hk
 have tail:s≠ []->s≠Jy->s≠Ix->CallT PR B4 [.str s] [.agg [.bool,.str,.int .i64],.one (.int .i64)] st (fun (b9:Bool) (s9:B8) (n25:Int) (n26:Int) (st5:St)=>BIf (decide (n26=(0:Int))) (CallT PR E8 [(.agg [(.bool b9),(.str s9),(.int .i64 n25)])] [.agg OE] st5 (fun (n27:Int) (b10:Bool) (b11:Bool) (s10:B8) (n28:Int) (n29:Int) (n30:Int) (n31:Int) (n32:Int) (s11:B8) (v13:TV) (v14:TV) (v15:TV) (st6:St)=>need (List.all [(.int .i64 n27),(.bool b10),(.bool b11),(.str s10),(.int .i64 n28),(.int .i64 n29),(.int .i64 n30),(.int .i64 n31),(.int .i64 n32),(.str s11),v13,v14,v15] Ap) (K n27 b10 b11 s10 n28 n29 n30 n31 n32 s11 v13 v14 v15 st6)))
   (CallT PR Cn [.str s] [.agg [.int .i64,.int .i64,.int .i64,.int .i64],.one (.int .i64)] st5 (fun (n33:Int) (n34:Int) (n35:Int) (n36:Int) (n37:Int) (st7:St)=>BIf (decide (n37=(0:Int))) (CallT PR Er [(.agg [(.int .i64 n33),(.int .i64 n34),(.int .i64 n35),(.int .i64 n36)])] [.agg OE] st7 (fun (n38:Int) (b12:Bool) (b13:Bool) (s12:B8) (n39:Int) (n40:Int) (n41:Int) (n42:Int) (n43:Int) (s13:B8) (v16:TV) (v17:TV) (v18:TV) (st8:St)=>need (List.all [(.int .i64 n38),(.bool b12),(.bool b13),(.str s12),(.int .i64 n39),(.int .i64 n40),(.int .i64 n41),(.int .i64 n42),(.int .i64 n43),(.str s13),v16,v17,v18] Ap) (K n38 b12 b13 s12 n39 n40 n41 n42 n43 s13 v16 v17 v18 st8)))
    (CallT PR Cs [.str s] [.agg OE] st7 (fun (n44:Int) (b14:Bool) (b15:Bool) (s14:B8) (n45:Int) (n46:Int) (n47:Int) (n48:Int) (n49:Int) (s15:B8) (v19:TV) (v20:TV) (v21:TV) (st9:St)=>need (List.all [(.int .i64 n44),(.bool b14),(.bool b15),(.str s14),(.int .i64 n45),(.int .i64 n46),(.int .i64 n47),(.int .i64 n48),(.int .i64 n49),(.str s15),v19,v20,v21] Ap) (K n44 b14 b15 s14 n45 n46 n47 n48 n49 s15 v19 v20 v21 st9)))))):=by
  intro h1 h2 h3
  rw[if_neg h1,if_neg h2,if_neg h3]at hk
  refine dP_ok hl ?_
  unfold KD
  generalize dcP s=d at*
  refine Aa (fun h4=>PA _ _ _ st _ (Ab (BY rfl rfl rfl) ?_)) fun h4=>tP_ok hl fun st1 e1=>?_
  ·rw[if_pos h4]at hk;exact hk st e0
  rw[if_neg h4]at hk
  unfold KT
  generalize tmP s=t at*
  refine Aa (fun h5=>Od _ _ _ _ st1 _ (Ab (BY rfl rfl rfl) ?_)) fun h5=>Gb s st1 _ (Ab (BY rfl rfl rfl) ?_)
  ·rw[if_pos h5]at hk;exact hk st1 e1
  ·rw[if_neg h5]at hk;exact hk st1 e1
 refine Aa (fun h1=>Oe st _ (Ab (BY rfl rfl rfl) ?_)) fun h1=>Aa (fun h2=>Aa (fun _=>Jq _ st _ (Ab (BY rfl rfl rfl) ?_)) fun h=>absurd h2 h) fun h2=>Aa (fun h3=>Jq _ st _ (Ab (BY rfl rfl rfl) ?_)) fun h3=>tail h1 h2 h3
 ·rw[if_pos h1]at hk;exact hk st e0
 ·rw[if_neg h1,if_pos (show s=Jy from h2)]at hk
  rw[decide_eq_true h2];exact hk st e0
 ·rw[if_neg h1,if_neg (show ¬s=Jy from h2),if_pos (show s=Ix from h3)]at hk
  rw[decide_eq_false h2];exact hk st e0
theorem Pg {s:B8} {qd:Bool} (hl:s.length<=1000000) {K:KG13} (hk:KC K (GU ty qd s) st):
  CallT PR BU [.str s,.bool qd,.agg [.int .u8 a,.int .u8 q,.bool hd,.bool ty]] [.agg OE] st K:=by
 unfold GU at hk
 refine Ij s qd a q hd ty st K (Am (fun g=>?_) fun g=>Am (fun g2=>?_) fun g2=>?_)
 ·rw[if_pos (.inr g)]at hk;exact hk
 ·have:ty=false:=by simpa using g2
  rw[if_pos (.inl this)]at hk;exact hk
 have g2:ty=true:=by simpa using g2
 rw[if_neg (by rw[g,g2];simp)]at hk
 refine⟨fun s' _ _ _ _ _ _ _ _ _ _ _ _ _ n7 b3 b4 s3 n8 n9 n10 n11 n12 s4 v4 v5 v6 st'=>s=s'/\4=n7/\false=b3/\false=b4/\[]=s3/\0=n8/\0=n9/\0=n10/\0=n11/\0=n12/\s=s4/\.nilSlice=v4/\.nilSlice=v5/\.nilSlice=v6/\st=st'/\s≠ []/\s≠Jy/\s≠Ix,
  Aa (fun h1=>?_) fun h1=>Aa (fun h2=>Aa (fun _=>?_) fun h=>absurd h2 h) fun h2=>Aa (fun h3=>?_) fun h3=>⟨rfl,rfl,rfl,rfl,rfl,rfl,rfl,rfl,rfl,rfl,rfl,rfl,rfl,rfl,rfl,h1,h2,h3⟩,?_⟩
 ·rw[if_pos h1]at hk;exact hk
 ·rw[if_neg h1,if_pos (show s=Jy from h2)]at hk
  rw[decide_eq_true h2];exact hk
 ·rw[if_neg h1,if_neg (show ¬s=Jy from h2),if_pos (show s=Ix from h3)]at hk
  rw[decide_eq_false h2];exact hk
 rintro _ _ _ _ _ _ _ _ _ _ _ _ _ _ _ _ _ _ _ _ _ _ _ _ _ _ _ _ ⟨rfl,rfl,rfl,rfl,rfl,rfl,rfl,rfl,rfl,rfl,rfl,rfl,rfl,rfl,rfl,h1,h2,h3⟩
 rw[if_neg h1,if_neg h2,if_neg h3]at hk
 refine Wn hl fun b2=>Aa (fun hn=>rP_ok hl ?_) fun hn=>rtP_ok hl ?_
 ·have ht:=U0 hn
  rw[if_neg ht]at hk
  unfold KD
  generalize dcP s=d at*
  refine Aa (fun h4=>?_) fun h4=>Ab (BY rfl rfl rfl) ?_
  ·rw[if_pos h4]at hk;exact hk
  ·rw[if_neg h4]at hk;exact hk
 ·have he:=(Qi s).2 hn
  rw[if_neg (by omega)]at hk
  unfold KT
  generalize tmP s=t at*
  refine Aa (fun h4=>?_) fun h4=>Ab (BY rfl rfl rfl) ?_
  ·rw[if_pos h4]at hk;exact hk
  ·rw[if_neg h4]at hk;exact hk
end
end
section
noncomputable def shE (a q:Int) (ty:Bool) (v:Vl):Int:=if dOk a q=false then 1 else if IO v≠0 then(IO v:Int)else Jv ty v.sc.kind
noncomputable def shT (a q:Int) (ty:Bool) (v:Vl):B8:=if shE a q ty v=0 then Kv a q ty v.sc else []
theorem UU {a q:Int} {s:B8} (hd:dOk a q=true) (hv:Bh s=s.length):Ns a q s= .ok (DO a q s):=by
 unfold Ns
 rw[if_neg (by rw[hd];decide),if_pos hv]
section
variable {a q:Int} {hd ty:Bool} {st:St}
theorem Ww {s:Sc} {ub ul uf:TV} (hdo:dOk a q=true) (hk0:0<=s.kind) (hk7:s.kind<=7) (hdec:s.kind=2->ET s.neg s.dg s.ex) (htm:s.kind=3->EO s.tk s.td s.tn s.tz) (hu:s.kind=4->Bh s.text=s.text.length) (hl:s.text.length<=1000000)
  {K:B8->Int->St->Prop} (hk:∀st',As st st'->K (if Jv ty s.kind=0 then Kv a q ty s else []) (Jv ty s.kind) st'):
  CallT PR Hs [.agg (Bf s ub ul uf),.agg [.int .u8 a,.int .u8 q,.bool hd,.bool ty]] [.one .str,.one (.int .i64)] st K:=by
 have e0:=As.refl st
 have d:=dlOk hdo
 have ok:Jv ty s.kind=0->∀st',As st st'->K (Kv a q ty s) 0 st':=fun he st' e=>by have:=hk st' e;rwa [if_pos he,he]at this
 have bad:Jv ty s.kind=27->K [] 27 st:=fun he=>by have:=hk st e0;rwa [he,if_neg (by decide)]at this
 refine PG _ _ _ _ _ _ _ _ _ _ _ _ _ a q hd ty st K (Am (fun g=>Aa (fun g1=>bad ?_) fun g1=>?sw1) fun g=>?sw2)
 ·have hty:ty=false:=by simpa using g
  unfold Jv;rw[if_pos (.inl ⟨hty,g1⟩)]
 case sw1 | sw2=>
  have hE:s.kind<=4->Jv ty s.kind=0:=fun h4=>by
   unfold Jv
   rw[if_neg]
   rintro(⟨h,h'⟩ | h)
   ·first
     | exact g1 h'
     | (rw[h]at g;cases g)
   ·omega
  have hP:∀t,s.kind≠4->plT s=t->Kv a q ty s=t:=fun t h4 h=>by unfold Kv;rw[if_neg h4];exact h
  refine Aa (fun k0=>?_) fun k0=>Aa (fun k1=>Am (fun hb=>?_) fun hb=>?_) fun k1=>Aa (fun k2=>WN (hdec k2) fun st1 e1=>?_) fun k2=>Aa (fun k3=>Wd (htm k3) fun st1 e1=>?_) fun k3=>Aa (fun k4=>?_) fun k4=>bad ?_
  ·have:=ok (hE (by omega)) st e0
   rwa [hP [] (by omega) (by unfold plT;rw[if_neg (by omega),if_neg (by omega),if_neg (by omega)])]at this
  ·have:=ok (hE (by omega)) st e0
   rwa [hP Jy (by omega) (by unfold plT;rw[if_pos k1,if_pos hb])]at this
  ·have:=ok (hE (by omega)) st e0
   rwa [hP Ix (by omega) (by unfold plT;rw[if_pos k1,if_neg (by rw[hb];decide)])]at this
  ·have:=ok (hE (by omega)) st1 e1
   rwa [hP _ (by omega) (by unfold plT;rw[if_neg (by omega),if_pos k2])]at this
  ·have:=ok (hE (by omega)) st1 e1
   rwa [hP _ (by omega) (by unfold plT;rw[if_neg (by omega),if_neg (by omega),if_pos k3])]at this
  ·have hu:=hu k4
   have ok:=ok (hE (by omega))
   have hS:Kv a q ty s=if DO a q s.text=s.text/\(GU ty false s.text).kind≠4 then Ms q s.text else DO a q s.text:=by unfold Kv;rw[if_pos k4]
   refine UW (by omega) ?_
   rw[UU hdo hu]
   refine Aa (fun h=>absurd rfl h) fun _=>Aa (fun h1=>?_) fun h1=>?_
   ·have:=ok st e0
    rwa [hS,if_neg fun h=>h1 h.1]at this
   ·have h1:DO a q s.text=s.text:=Decidable.not_not.1 h1
    show CallT PR Ce [.str (DO a q s.text),.bool false,.agg [.int .u8 a,.int .u8 q,.bool hd,.bool ty]] [.agg OE] st _
    rw[h1]
    refine NJ hl fun st1 e1=>Aa (fun h2=>?_) fun h2=>?_
    ·have:=ok st1 e1
     rwa [hS,if_neg fun h=>h.2 h2,h1]at this
    ·have hq1:=d.q1
     have hqn:=I8 (q:=q) d.q0 (by omega)
     refine Ad (Lf st1 (UInt8.ofNat q.toNat) hqn) (Al ⟨by simp,JA (s:=s.text) (by simp) (by omega) ?_⟩)
     have hdl:=Qj (UInt8.ofNat q.toNat) s.text
     unfold dbl at hdl
     refine⟨by simp only[List.length_cons,List.length_nil];omega,by simp only[List.length_append,List.length_cons,List.length_nil];omega,?_⟩
     have:=ok st1 e1
     rwa [hS,if_pos ⟨h1,h2⟩]at this
  ·unfold Jv;rw[if_pos (by omega)]
theorem Wx {v:Vl} (hN:v.sz<=1000000) {cs:List TV} {K:B8->Int->St->Prop} (h:VlR St.zero v cs) (hk:∀st',As st st'->K (shT a q ty v) (shE a q ty v) st'):
  CallT PR Ht [.agg cs,.agg [.int .u8 a,.int .u8 q,.bool hd,.bool ty]] [.one .str,.one (.int .i64)] st K:=by
 obtain⟨s,l,f⟩:=v
 obtain⟨ub,ul,uf,xl,xf,rfl,_⟩:=h.cells
 unfold shT at hk
 refine PH _ _ _ _ _ _ _ _ _ _ _ _ _ a q hd ty st K (LN (Am (fun g=>?_) fun g=>?_))
 ·have he:shE a q ty (.mk s l f)=1:=by unfold shE;rw[if_pos (by simpa using g)]
  have:=hk st (As.refl _)
  rwa [he,if_neg (by decide)]at this
 have g:dOk a q=true:=by simpa using g
 refine W4 (v:= .mk s l f) (by omega) h (P6 _) fun st1 e1=>Aa (fun g1=>?_) fun g1=>?_
 ·have he:shE a q ty (.mk s l f)=(IO (.mk s l f):Int):=by unfold shE;rw[if_neg (by rw[g];decide),if_pos (by omega)]
  have:=hk st1 e1
  rwa [he,if_neg (by omega)]at this
 have g1:IO (.mk s l f)=0:=by omega
 have he:shE a q ty (.mk s l f)=Jv ty s.kind:=by unfold shE;rw[if_neg (by rw[g];decide),if_neg (by omega)];rfl
 rw[he]at hk
 have ho:=(RR g1).own.1
 have hsz:=szs s l f
 refine Ww g ho.own.k0 ho.own.k7 (fun _=>ho.dec) ho.time (fun _=>ho.text) (by omega) fun st2 e2=>?_
 exact hk st2 (e1.trans e2)
end
end
section
structure Qu (a q:Int) (rs:List Nd) (W:Nat):Prop where
 form:∀r,r∈rs->RecF a q r
 wid:∀r,r∈rs->(At r).length=W
 len:∀r,r∈rs->∀k,k∈At r->(txt q (AA k)).length<=65536/\(AA k).length<=2000000
 cnt:rs.length<=2000000
 wlen:W<=10000000
def DK (q:Int) (hd ty:Bool):List (List B8)->List Vl
 | []=>[]
 | h::t=>if hd then t.map fun r=>Sp (h.map (txt q)) (Ca q ty r)else(h::t).map fun r=>FR ((Ca q ty r).map Bz)
theorem Fs (q:Int) (ty:Bool) (l:List (List B8)):DK q false ty l=l.map fun r=>FR ((Ca q ty r).map Bz):=by
 cases l<;>rfl
theorem He {q:Int} {ty:Bool} {l:List (List B8)} {j:Nat} {row:List B8} (h:l[j]? =some row):DK q false ty (l.take (j+1))=DK q false ty (l.take j)++[FR ((Ca q ty row).map Bz)]:=by
 rw[Fs,Fs,List.take_add_one,h,List.map_append];rfl
theorem Kk (q:Int) (ty:Bool) (l:List (List B8)):DK q true ty (l.take 1)=[]:=by
 cases l<;>rfl
theorem Hd {q:Int} {ty:Bool} {l:List (List B8)} {j:Nat} {row h0:List B8} (h:l[j]? =some row) (hj:0<j) (h1:l[0]? =some h0):DK q true ty (l.take (j+1))=DK q true ty (l.take j)++[Sp (h0.map (txt q)) (Ca q ty row)]:=by
 cases l with
 | nil=>cases h1
 | cons x t=>
  obtain⟨i,rfl⟩:∃i,j=i+1:=⟨j-1,by omega⟩
  simp only[List.getElem?_cons_zero,Option.some.injEq]at h1
  subst h1
  simp only[List.getElem?_cons_succ]at h
  show(t.take (i+1)).map _=(t.take i).map _++_
  rw[List.take_add_one,h,List.map_append];rfl
theorem GY.ldA {α:Type} {f:α->TV} {v:TV} {rows:List (List α)} (h:GY f v rows) {i:Nat} {row:List α} (hr:rows[i]? =some row):∃u,(∀st,Ac st [] (.t (ixT 1 v i)) 0=some u)/\LT f u row:=by
 obtain⟨vs,h1,h2,h3⟩:=h
 have hlt:i<vs.length:=by rw[h2];exact(List.getElem?_eq_some_iff.1 hr).1
 have hu:=List.getElem?_eq_getElem hlt
 exact⟨vs[i],fun st=>Rd.ldx h1 st i 0 (by rw[Nat.mul_one,Nat.add_zero];exact hu),h3 i _ row hu hr⟩
theorem Kb (s:Sc) (h:s.bytes=[]):VlR St.zero (Bz s) (Bf s .nilSlice .nilSlice .nilSlice):=vlLeaf St.zero s h
theorem Mz {l:List Vl} {u:TV} {xs:List TV} (h:Rd 13 u l.length xs) (hv:VsR St.zero l xs):VlR St.zero (FR l) (Bf (scW 6) .nilSlice u .nilSlice):=by
 unfold FR VlR
 exact⟨_,_,_,xs,[],rfl,.of_rd (.inl ⟨rfl,rfl,rfl⟩),.of_rd h,hv,.of_rd (.inl ⟨rfl,rfl,rfl⟩),by unfold FsR;rfl⟩
theorem Vw {f:List Fd} {u:TV} {xs:List TV} (h:Rd 14 u f.length xs) (hv:FsR St.zero f xs):VlR St.zero (R6 f) (Bf (scW 7) .nilSlice .nilSlice u):=by
 unfold R6 VlR
 exact⟨_,_,_,[],xs,rfl,.of_rd (.inl ⟨rfl,rfl,rfl⟩),.of_rd (.inl ⟨rfl,rfl,rfl⟩),by unfold VsR;rfl,.of_rd h,hv⟩
theorem Ra {q:Int} {ty:Bool} {ks:List Nd} {m:Nat} {k:Nd} (h:ks[m]? =some k):(Ca q ty (ks.map AA))[m]? =some (GU ty (Bi q (AA k)) (txt q (AA k))):=by
 unfold Ca
 rw[List.getElem?_map,List.getElem?_map,h];rfl
theorem GE (q:Int) (ty:Bool) (l:List B8):(Ca q ty l).length=l.length:=by unfold Ca;rw[List.length_map]
theorem OO {q:Int} {ty:Bool} {ks:List Nd} {m:Nat} {k:Nd} (h:ks[m]? =some k):((Ca q ty (ks.map AA)).take (m+1)).map Bz=((Ca q ty (ks.map AA)).take m).map Bz++[Bz (GU ty (Bi q (AA k)) (txt q (AA k)))]:=by
 rw[List.take_add_one,Ra h,List.map_append];rfl
def Jf (names:List B8) (row:List Sc):List Fd:=List.zipWith (fun k s=>Fd.mk k (Bz s)) names row
theorem OP {names:List B8} {row:List Sc} {m:Nat} {nm:B8} {s:Sc} (h1:names[m]? =some nm) (h2:row[m]? =some s):Jf (names.take (m+1)) (row.take (m+1))=Jf (names.take m) (row.take m)++[Fd.mk nm (Bz s)]:=by
 unfold Jf
 rw[<-List.take_zipWith,<-List.take_zipWith,List.take_add_one]
 congr 1
 rw[List.getElem?_zipWith,h1,h2];rfl
section
variable {a q:Int} {hd ty:Bool} {st:St}
theorem U7 {n:Nd} {cs:List TV} (hc:NdC n cs) (hl:D5 n<=100000000000000) (hcn:EG n<=1000000000000000) (ht:HF n a q hd->∃W,Qu a q (Lq n) W) {K:Int->Bool->Bool->B8->Int->Int->Int->Int->Int->B8->TV->TV->TV->Int->St->Prop}
  (hk1:¬HF n a q hd->∀st',As st st'->K 0 false false [] 0 0 0 0 0 [] .nilSlice .nilSlice .nilSlice 1 st')
  (hk2:HF n a q hd->∀u xs st',As st st'->Rd 13 u (DK q hd ty (Bl (Lq n))).length xs->VsR St.zero (DK q hd ty (Bl (Lq n))) xs->K 6 false false [] 0 0 0 0 0 [] .nilSlice u .nilSlice 0 st'):
  CallT PR Gp [.agg cs,.agg [.int .u8 a,.int .u8 q,.bool hd,.bool ty]] [.agg OE,.one (.int .i64)] st K:=by
 have w1:∀k:Nat,k<=100000000->i64.wrap ((k:Int)+1)=((k+1:Nat):Int):=fun k hk=>by rw[Ah _ (by omega) (by omega)];omega
 have tn:∀k:Nat,Int.toNat (k:Int)=k:=fun k=>rfl
 obtain⟨kd,t0,t1,kv,tl,rfl,_⟩:=hc.five
 refine Ok kd t0 t1 kv tl a q hd ty st K (Rm hc hl hcn fun v1 st1 e1 g1=>?_)
 by_cases ho:HF n a q hd
 case neg=>
  have he:JC n a q hd=1:=by unfold JC;rw[if_neg ho]
  rw[he]
  exact Aa (fun _=>hk1 ho st1 e1) fun h=>absurd (by decide) h
 have he:JC n a q hd=0:=by unfold JC;rw[if_pos ho]
 have hg:∀{α:Type} (g:B8->α),F4 g n a q hd=D3 g (Lq n):=fun g=>by unfold F4;rw[if_pos ho]
 rw[he]
 refine Aa (fun h=>absurd rfl h) fun _=>Sy hc hl hcn fun v2 st2 e2 g2=>?_
 rw[hg]at g1 g2
 obtain⟨W,hT⟩:=ht ho
 clear ht
 have hk2:=hk2 ho
 generalize hrs:Lq n=rs at*
 have e12:=e1.trans e2
 have hcnt:=hT.cnt
 have hwl:=hT.wlen
 obtain⟨vs1,hr1⟩:=g1.rd
 obtain⟨vs2,hr2⟩:=g2.rd
 have hL:∀{α:Type} (g:B8->α),(D3 g rs).length=rs.length:=fun g=>by unfold D3;rw[List.length_map]
 rw[hL]at hr1 hr2
 have hget:∀{α:Type} (g:B8->α) {j:Nat} {r:Nd},rs[j]? =some r->(D3 g rs)[j]? =some ((At r).map fun k=>g (AA k)):=fun g j r h=>by unfold D3;rw[List.getElem?_map,h];rfl
 have hraw:∀{j:Nat} {r:Nd},rs[j]? =some r->(Bl rs)[j]? =some ((At r).map AA):=fun {j r} h=>by unfold Bl;rw[List.getElem?_map,h];rfl
 have hrawl:(Bl rs).length=rs.length:=by unfold Bl;rw[List.length_map]
 refine Ab hr1.isSl ?_
 refine⟨fun zn zr zq zv zm c1 c2 b1 b2 kA boA ngA dgA exA tkA tdA tnA tzA txA u0A u1A u2A kB boB ngB dgB exB tkB tdB tnB tzB txB u0B u1B u2B st'=>v1=zr/\v2=zq/\v1=zv/\(rs.length:Int)=zm/\a=c1/\q=c2/\hd=b1/\ty=b2/\6=kB/\false=boB/\false=ngB/\[]=dgB/\0=exB/\0=tkB/\0=tdB/\0=tnB/\0=tzB/\[]=txB/\.nilSlice=u0B/\.nilSlice=u2B/\As st2 st'/\∃j:Nat,zn=(j:Int)/\j<=rs.length/\∃xs,Own st2.nt 13 st' u1B (DK q hd ty ((Bl rs).take j)).length xs/\VsR St.zero (DK q hd ty ((Bl rs).take j)) xs,
  fun n _ _ _ _ _ _ _ _ _ _ _ _ _ _ _ _ _ _ _ _ _ _ _ _ _ _ _ _ _ _ _ _ _ _ _=>(rs.length-n).toNat,⟨rfl,rfl,rfl,by rw[hr1.lenS],rfl,rfl,rfl,rfl,rfl,rfl,rfl,rfl,rfl,rfl,rfl,rfl,rfl,rfl,rfl,rfl,As.refl _,0,rfl,Nat.zero_le _,[],by rw[List.take_zero];exact Own.nil _ _ _,by rw[List.take_zero];exact VsR.nil _⟩,?_⟩
 rintro _ _ _ _ _ _ _ _ _ kA boA ngA dgA exA tkA tdA tnA tzA txA u0A u1A u2A _ _ _ _ _ _ _ _ _ _ _ vB _ st3 ⟨rfl,rfl,rfl,rfl,rfl,rfl,rfl,rfl,rfl,rfl,rfl,rfl,rfl,rfl,rfl,rfl,rfl,rfl,rfl,rfl,e3,j,rfl,hj,xs,hB,hBv⟩
 rw[tn]
 refine Aa (fun g=>?_) fun g=>?_
 case refine_2=>
  have hjl:(Bl rs).take j=Bl rs:=List.take_of_length_le (by omega)
  rw[hjl]at hB hBv
  refine Ab (BY rfl hB.rd.one rfl) (hk2 _ xs _ (e12.trans e3) hB.rd hBv)
 have hjlt:j<rs.length:=by omega
 obtain⟨r,hjr⟩:∃r,rs[j]? =some r:=⟨_,List.getElem?_eq_getElem hjlt⟩
 have hmem:=List.mem_of_getElem? hjr
 have hwid:=hT.wid r hmem
 obtain⟨uj,hlj,rj⟩:=g1.ldA (hget (txt q) hjr)
 obtain⟨qj,hlq,rq⟩:=g2.ldA (hget (Bi q) hjr)
 have hrjl:=Rd.lenS rj
 have hrjz:=Rd.lenZ rj
 have hrqz:=Rd.lenZ rq
 rw[List.length_map,hwid]at hrjl hrjz hrqz
 refine⟨⟨by omega,by rw[hr1.lenZ];omega⟩,Ad (hlj _) (Am (fun hh=>Ab (Rd.isSl rj) ?_) fun hh=>Aa (fun g0=>Ab (Rd.isSl rj) ?_) fun g0=>?_)⟩
 ·have hhd:hd=false:=by simpa using hh
  subst hhd
  refine⟨fun zn zr zq zi zv zm n5 v3 n6 c1 c2 b7 b8 kA boA ngA dgA exA tkA tdA tnA tzA txA u0A u1A u2A kB boB ngB dgB exB tkB tdB tnB tzB txB u0B u1B u2B kC boC ngC dgC exC tkC tdC tnC tzC txC u0C u1C u2C st'=>v1=zr/\v2=zq/\(j:Int)=zi/\v1=zv/\(rs.length:Int)=zm/\(j:Int)=n5/\uj=v3/\(W:Int)=n6/\a=c1/\q=c2/\false=b7/\ty=b8/\6=kB/\false=boB/\false=ngB/\[]=dgB/\0=exB/\0=tkB/\0=tdB/\0=tnB/\0=tzB/\[]=txB/\.nilSlice=u0B/\.nilSlice=u2B/\vB=u1B/\6=kC/\false=boC/\false=ngC/\[]=dgC/\0=exC/\0=tkC/\0=tdC/\0=tnC/\0=tzC/\[]=txC/\.nilSlice=u0C/\.nilSlice=u2C/\As st3 st'/\∃m':Nat,zn=(m':Int)/\m'<=W/\∃ys,Own st3.nt 13 st' u1C m' ys/\VsR St.zero (((Ca q ty ((At r).map AA)).take m').map Bz) ys,
   fun n _ _ _ _ _ _ _ _ _ _ _ _ _ _ _ _ _ _ _ _ _ _ _ _ _ _ _ _ _ _ _ _ _ _ _ _ _ _ _ _ _ _ _ _ _ _ _ _ _ _ _ _=>(W-n).toNat,⟨rfl,rfl,rfl,rfl,rfl,rfl,rfl,by rw[hrjl],rfl,rfl,rfl,rfl,rfl,rfl,rfl,rfl,rfl,rfl,rfl,rfl,rfl,rfl,rfl,rfl,rfl,rfl,rfl,rfl,rfl,rfl,rfl,rfl,rfl,rfl,rfl,rfl,rfl,As.refl _,0,rfl,Nat.zero_le _,[],Own.nil _ _ _,by rw[List.take_zero];exact VsR.nil _⟩,?_⟩
  rintro _ _ _ _ _ _ _ _ _ _ _ _ _ kA boA ngA dgA exA tkA tdA tnA tzA txA u0A u1A u2A _ _ _ _ _ _ _ _ _ _ _ _ _ _ _ _ _ _ _ _ _ _ _ _ vC _ st4 ⟨rfl,rfl,rfl,rfl,rfl,rfl,rfl,rfl,rfl,rfl,rfl,rfl,rfl,rfl,rfl,rfl,rfl,rfl,rfl,rfl,rfl,rfl,rfl,rfl,rfl,rfl,rfl,rfl,rfl,rfl,rfl,rfl,rfl,rfl,rfl,rfl,rfl,e4,m,rfl,hm,ys,hC,hCv⟩
  rw[tn,tn]
  refine Aa (fun g=>?_) fun g=>?_
  ·have hmlt:m<(At r).length:=by omega
   obtain⟨k,hkm⟩:∃k,(At r)[m]? =some k:=⟨_,List.getElem?_eq_getElem hmlt⟩
   have hkl:=hT.len r hmem k (List.mem_of_getElem? hkm)
   have l1:=LT.ld rj st4 (i:=m) (a:=txt q (AA k)) (by rw[List.getElem?_map,hkm];rfl)
   have l2:=LT.ld rq st4 (i:=m) (a:=Bi q (AA k)) (by rw[List.getElem?_map,hkm];rfl)
   refine⟨⟨by omega,by rw[hrjz];omega⟩,Ad l1 (Al ⟨⟨by omega,by rw[hr2.lenZ];omega⟩,Ad (hlq _) ⟨⟨by omega,by rw[hrqz];omega⟩,Ad l2 (Aq ?_)⟩⟩)⟩
   refine NJ (by omega) fun st5 e5=>⟨hlq _,Ab (BY rfl rfl rfl) ?_⟩
   have hcb:=F5 ty (Bi q (AA k)) (txt q (AA k))
   refine BF (e4.trans e5) rfl (hC.ext e5) (by omega) (fun h=>by cases h) fun v' st6 e6 _ ho'=>Ab (List.all_eq_true.2 fun x hx=>by rw[List.mem_singleton.1 hx];exact ho'.rd.one) ?_
   rw[w1 m (by omega)]
   refine⟨⟨rfl,rfl,rfl,rfl,rfl,rfl,rfl,rfl,rfl,rfl,rfl,rfl,rfl,rfl,rfl,rfl,rfl,rfl,rfl,rfl,rfl,rfl,rfl,rfl,rfl,rfl,rfl,rfl,rfl,rfl,rfl,rfl,rfl,rfl,rfl,rfl,rfl,e6,m+1,rfl,by omega,_,ho',?_⟩,by dsimp only;omega⟩
   rw[OO hkm]
   exact hCv.snoc (Kb _ hcb)
  ·have hmW:m=W:=by omega
   subst hmW
   have hfull:(Ca q ty ((At r).map AA)).take (At r).length=Ca q ty ((At r).map AA):=List.take_of_length_le (by rw[GE,List.length_map];omega)
   rw[<-hwid]at hC hCv
   rw[hfull]at hCv
   have hx:VlR St.zero (FR ((Ca q ty ((At r).map AA)).map Bz)) (Bf (scW 6) .nilSlice vC .nilSlice):=Mz (by rw[List.length_map,GE,List.length_map];exact hC.rd) hCv
   refine Ab (BY rfl hC.rd.one rfl) ?_
   have hlen:(DK q false ty ((Bl rs).take j)).length<=2000000:=by rw[Fs,List.length_map,List.length_take];omega
   refine BF (e3.trans e4) rfl (hB.ext e4) (by omega) (fun h=>by cases h) fun v' st6 e6 _ ho'=>Ab (List.all_eq_true.2 fun x hx=>by rw[List.mem_singleton.1 hx];exact ho'.rd.one) ?_
   rw[w1 j (by omega)]
   refine⟨⟨rfl,rfl,rfl,rfl,rfl,rfl,rfl,rfl,rfl,rfl,rfl,rfl,rfl,rfl,rfl,rfl,rfl,rfl,rfl,rfl,e6,j+1,rfl,by omega,xs++Bf (scW 6) .nilSlice vC .nilSlice,?_,?_⟩,by dsimp only;omega⟩
   ·rw[He (hraw hjr),List.length_append];exact ho'
   ·rw[He (hraw hjr)];exact hBv.snoc hx
 ·have hhd:hd=true:=by cases hd;exact absurd hh (by decide);rfl
  subst hhd
  obtain⟨r0,hj0⟩:∃r,rs[0]? =some r:=⟨_,List.getElem?_eq_getElem (by omega)⟩
  have hmem0:=List.mem_of_getElem? hj0
  have hwid0:=hT.wid r0 hmem0
  obtain⟨u0,hl0,rr0⟩:=g1.ldA (hget (txt q) hj0)
  have hr0z:=Rd.lenZ rr0
  rw[List.length_map,hwid0]at hr0z
  refine⟨fun zn zr zq zi zv zm n5 v3 n6 c1 c2 b7 b8 kA boA ngA dgA exA tkA tdA tnA tzA txA u0A u1A u2A kB boB ngB dgB exB tkB tdB tnB tzB txB u0B u1B u2B kC boC ngC dgC exC tkC tdC tnC tzC txC u0C u1C u2C st'=>v1=zr/\v2=zq/\(j:Int)=zi/\v1=zv/\(rs.length:Int)=zm/\(j:Int)=n5/\uj=v3/\(W:Int)=n6/\a=c1/\q=c2/\true=b7/\ty=b8/\6=kB/\false=boB/\false=ngB/\[]=dgB/\0=exB/\0=tkB/\0=tdB/\0=tnB/\0=tzB/\[]=txB/\.nilSlice=u0B/\.nilSlice=u2B/\vB=u1B/\7=kC/\false=boC/\false=ngC/\[]=dgC/\0=exC/\0=tkC/\0=tdC/\0=tnC/\0=tzC/\[]=txC/\.nilSlice=u0C/\.nilSlice=u1C/\As st3 st'/\∃m':Nat,zn=(m':Int)/\m'<=W/\∃ys,Own st3.nt 14 st' u2C m' ys/\FsR St.zero (Jf ((((At r0).map AA).map (txt q)).take m') ((Ca q ty ((At r).map AA)).take m')) ys,
   fun n _ _ _ _ _ _ _ _ _ _ _ _ _ _ _ _ _ _ _ _ _ _ _ _ _ _ _ _ _ _ _ _ _ _ _ _ _ _ _ _ _ _ _ _ _ _ _ _ _ _ _ _=>(W-n).toNat,⟨rfl,rfl,rfl,rfl,rfl,rfl,rfl,by rw[hrjl],rfl,rfl,rfl,rfl,rfl,rfl,rfl,rfl,rfl,rfl,rfl,rfl,rfl,rfl,rfl,rfl,rfl,rfl,rfl,rfl,rfl,rfl,rfl,rfl,rfl,rfl,rfl,rfl,rfl,As.refl _,0,rfl,Nat.zero_le _,[],Own.nil _ _ _,by rw[List.take_zero,List.take_zero];exact FsR.nil _⟩,?_⟩
  rintro _ _ _ _ _ _ _ _ _ _ _ _ _ kA boA ngA dgA exA tkA tdA tnA tzA txA u0A u1A u2A _ _ _ _ _ _ _ _ _ _ _ _ _ _ _ _ _ _ _ _ _ _ _ _ _ vC st4 ⟨rfl,rfl,rfl,rfl,rfl,rfl,rfl,rfl,rfl,rfl,rfl,rfl,rfl,rfl,rfl,rfl,rfl,rfl,rfl,rfl,rfl,rfl,rfl,rfl,rfl,rfl,rfl,rfl,rfl,rfl,rfl,rfl,rfl,rfl,rfl,rfl,rfl,e4,m,rfl,hm,ys,hC,hCv⟩
  rw[tn,tn]
  refine Aa (fun g=>?_) fun g=>?_
  ·have hmlt:m<(At r).length:=by omega
   have hmlt0:m<(At r0).length:=by omega
   obtain⟨k,hkm⟩:∃k,(At r)[m]? =some k:=⟨_,List.getElem?_eq_getElem hmlt⟩
   obtain⟨k0,hkm0⟩:∃k,(At r0)[m]? =some k:=⟨_,List.getElem?_eq_getElem hmlt0⟩
   have hkl:=hT.len r hmem k (List.mem_of_getElem? hkm)
   have l1:=LT.ld rj st4 (i:=m) (a:=txt q (AA k)) (by rw[List.getElem?_map,hkm];rfl)
   have l0:∀st,Ac st [] (.t (ixT 1 u0 m)) 0=some (.str (txt q (AA k0))):=fun st=>LT.ld rr0 st (i:=m) (a:=txt q (AA k0)) (by rw[List.getElem?_map,hkm0];rfl)
   have l2:=LT.ld rq st4 (i:=m) (a:=Bi q (AA k)) (by rw[List.getElem?_map,hkm];rfl)
   refine⟨⟨by omega,by rw[hrjz];omega⟩,Ad l1 (Al ⟨⟨by omega,by rw[hr1.lenZ];omega⟩,Ad (hl0 _) ⟨⟨by omega,by rw[hr0z];omega⟩,Ad (l0 _) (Al ⟨⟨by omega,by rw[hr2.lenZ];omega⟩,Ad (hlq _) ⟨⟨by omega,by rw[hrqz];omega⟩,Ad l2 (Aq ?_)⟩⟩)⟩⟩)⟩
   refine NJ (by omega) fun st5 e5=>⟨hlq _,l0 _,hl0 _,Ab (one14 rfl rfl rfl) ?_⟩
   have hcb:=F5 ty (Bi q (AA k)) (txt q (AA k))
   refine BF (e4.trans e5) rfl (hC.ext e5) (by omega) (fun h=>by cases h) fun v' st6 e6 _ ho'=>Ab (List.all_eq_true.2 fun x hx=>by rw[List.mem_singleton.1 hx];exact ho'.rd.one) ?_
   rw[w1 m (by omega)]
   refine⟨⟨rfl,rfl,rfl,rfl,rfl,rfl,rfl,rfl,rfl,rfl,rfl,rfl,rfl,rfl,rfl,rfl,rfl,rfl,rfl,rfl,rfl,rfl,rfl,rfl,rfl,rfl,rfl,rfl,rfl,rfl,rfl,rfl,rfl,rfl,rfl,rfl,rfl,e6,m+1,rfl,by omega,_,ho',?_⟩,by dsimp only;omega⟩
   rw[OP (nm:=txt q (AA k0)) (by rw[List.getElem?_map,List.getElem?_map,hkm0];rfl) (Ra hkm)]
   exact hCv.snoc0 (by unfold FdR;exact⟨_,rfl,Kb _ hcb⟩)
  ·have hmW:m=W:=by omega
   subst hmW
   rw[<-hwid]at hC hCv
   have hfull:(Ca q ty ((At r).map AA)).take (At r).length=Ca q ty ((At r).map AA):=List.take_of_length_le (by rw[GE,List.length_map];omega)
   have hfull0:(((At r0).map AA).map (txt q)).take (At r).length=((At r0).map AA).map (txt q):=List.take_of_length_le (by rw[List.length_map,List.length_map];omega)
   rw[hfull,hfull0]at hCv
   have hfl:(Jf (((At r0).map AA).map (txt q)) (Ca q ty ((At r).map AA))).length=(At r).length:=by unfold Jf;rw[List.length_zipWith,GE,List.length_map,List.length_map,List.length_map];omega
   have hx:VlR St.zero (Sp (((At r0).map AA).map (txt q)) (Ca q ty ((At r).map AA))) (Bf (scW 7) .nilSlice .nilSlice vC):=Vw (f:=Jf (((At r0).map AA).map (txt q)) (Ca q ty ((At r).map AA))) (by rw[hfl];exact hC.rd) hCv
   refine Ab (BY rfl rfl hC.rd.one) ?_
   have hlen:(DK q true ty ((Bl rs).take j)).length<=2000000:=by
    cases hb:(Bl rs).take j with
    | nil=>exact Nat.zero_le _
    | cons x y=>
     have:=congrArg List.length hb
     rw[List.length_take,List.length_cons]at this
     show(y.map _).length<=_
     rw[List.length_map];omega
   refine BF (e3.trans e4) rfl (hB.ext e4) (by omega) (fun h=>by cases h) fun v' st6 e6 _ ho'=>Ab (List.all_eq_true.2 fun x hx=>by rw[List.mem_singleton.1 hx];exact ho'.rd.one) ?_
   rw[w1 j (by omega)]
   refine⟨⟨rfl,rfl,rfl,rfl,rfl,rfl,rfl,rfl,rfl,rfl,rfl,rfl,rfl,rfl,rfl,rfl,rfl,rfl,rfl,rfl,e6,j+1,rfl,by omega,xs++Bf (scW 7) .nilSlice .nilSlice vC,?_,?_⟩,by dsimp only;omega⟩
   ·rw[Hd (hraw hjr) (by omega) (hraw hj0),List.length_append];exact ho'
   ·rw[Hd (hraw hjr) (by omega) (hraw hj0)];exact hBv.snoc hx
 ·have hhd:hd=true:=by cases hd;exact absurd hh (by decide);rfl
  subst hhd
  have hj0:j=0:=by omega
  subst hj0
  rw[w1 0 (by omega)]
  refine⟨⟨rfl,rfl,rfl,rfl,rfl,rfl,rfl,rfl,rfl,rfl,rfl,rfl,rfl,rfl,rfl,rfl,rfl,rfl,rfl,rfl,e3,1,rfl,by omega,xs,?_,?_⟩,by dsimp only;omega⟩
  ·rw[Kk]
   rw[List.take_zero]at hB
   exact hB
  ·rw[Kk]
   rw[List.take_zero]at hBv
   exact hBv
end
end
section
theorem IX.nil (v:TV):IX .nilSlice v:=fun id h=>by cases h
section
variable {a q:Int} {hd ty:Bool} {st:St}
theorem gOf_ok {rs:List Nd} {cs:List TV} {W:Nat} (hc:NdC (.mk 1 [] [] rs []) cs) (hT:Qu a q rs W) {K:KG13}
  (hk2:∀u xs st',As st st'->Rd 13 u (DK q hd ty (Bl rs)).length xs->VsR St.zero (DK q hd ty (Bl rs)) xs->K 6 false false [] 0 0 0 0 0 [] .nilSlice u .nilSlice st'):
  CallT PR Dx [.agg cs,.agg [.int .u8 a,.int .u8 q,.bool hd,.bool ty]] [.agg OE] st K:=by
 have w1:∀k:Nat,k<=100000000->i64.wrap ((k:Int)+1)=((k+1:Nat):Int):=fun k hk=>by rw[Ah _ (by omega) (by omega)];omega
 have tn:∀k:Nat,Int.toNat (k:Int)=k:=fun k=>rfl
 unfold NdC at hc
 obtain⟨v,xs,rfl,hr,hx⟩:=hc
 have hcnt:=hT.cnt
 have hwl:=hT.wlen
 have hraw:∀{j:Nat} {r:Nd},rs[j]? =some r->(Bl rs)[j]? =some ((At r).map AA):=fun {j r} h=>by unfold Bl;rw[List.getElem?_map,h];rfl
 have hrawl:(Bl rs).length=rs.length:=by unfold Bl;rw[List.length_map]
 refine JR _ _ _ _ _ a q hd ty st K ⟨fun zn zi y0 y1 y2 zv y3 c1 c2 b1 b2 kA boA ngA dgA exA tkA tdA tnA tzA txA u0A u1A u2A kB boB ngB dgB exB tkB tdB tnB tzB txB u0B u1B u2B st'=>v=zv/\a=c1/\q=c2/\hd=b1/\ty=b2/\6=kB/\false=boB/\false=ngB/\[]=dgB/\0=exB/\0=tkB/\0=tdB/\0=tnB/\0=tzB/\[]=txB/\.nilSlice=u0B/\.nilSlice=u2B/\As st st'/\∃j:Nat,zi=(j:Int)/\j<=rs.length/\(0<j->hd=true->∀r0,rs[0]? =some r0->Rd 1 zn W (((At r0).map fun k=>txt q (AA k)).map TV.str))/\∃xs,Own st.nt 13 st' u1B (DK q hd ty ((Bl rs).take j)).length xs/\VsR St.zero (DK q hd ty ((Bl rs).take j)) xs,
  fun _ zi _ _ _ _ _ _ _ _ _ _ _ _ _ _ _ _ _ _ _ _ _ _ _ _ _ _ _ _ _ _ _ _ _ _ _ _=>(rs.length-zi).toNat,⟨rfl,rfl,rfl,rfl,rfl,rfl,rfl,rfl,rfl,rfl,rfl,rfl,rfl,rfl,rfl,rfl,rfl,As.refl _,0,rfl,Nat.zero_le _,fun h=>absurd h (Nat.lt_irrefl _),[],by rw[List.take_zero];exact Own.nil _ _ _,by rw[List.take_zero];exact VsR.nil _⟩,?_⟩
 rintro nmT _ y0 y1 y2 _ y3 _ _ _ _ kA boA ngA dgA exA tkA tdA tnA tzA txA u0A u1A u2A _ _ _ _ _ _ _ _ _ _ _ vB _ st1 ⟨rfl,rfl,rfl,rfl,rfl,rfl,rfl,rfl,rfl,rfl,rfl,rfl,rfl,rfl,rfl,rfl,rfl,e1,j,rfl,hj,hnm,zs,hB,hBv⟩
 refine Ab hr.isSl ?_
 rw[hr.lenS]
 refine Aa (fun g=>?_) fun g=>?_
 case refine_2=>
  have hjl:(Bl rs).take j=Bl rs:=List.take_of_length_le (by omega)
  rw[hjl]at hB hBv
  exact Ab (BY rfl hB.rd.one rfl) (hk2 _ zs _ e1 hB.rd hBv)
 have hjlt:j<rs.length:=by omega
 obtain⟨r,hjr⟩:∃r,rs[j]? =some r:=⟨_,List.getElem?_eq_getElem hjlt⟩
 have hmem:=List.mem_of_getElem? hjr
 have hwid:=hT.wid r hmem
 obtain⟨ents,tail,hrE,hne,hents⟩:=hT.form r hmem
 obtain⟨hp1,rc,u,ys0,hrc,hld,hu,hy,_⟩:=T8 hr hx hjr
 have hke:At r=ents:=by rw[hrE];rfl
 rw[hke]at hu hy
 refine⟨fun zt zk zn zi y0 y1 y2 zv y3 c1 c2 b7 b8 kA boA ngA dgA exA tkA tdA tnA tzA txA u0A u1A u2A kB boB ngB dgB exB tkB tdB tnB tzB txB u0B u1B u2B kC boC ngC dgC exC tkC tdC tnC tzC txC u0C u1C u2C st'=>nmT=zn/\(j:Int)=zi/\v=zv/\a=c1/\q=c2/\hd=b7/\ty=b8/\6=kB/\false=boB/\false=ngB/\[]=dgB/\0=exB/\0=tkB/\0=tdB/\0=tnB/\0=tzB/\[]=txB/\.nilSlice=u0B/\.nilSlice=u2B/\vB=u1B/\6=kC/\false=boC/\false=ngC/\[]=dgC/\0=exC/\0=tkC/\0=tdC/\0=tnC/\0=tzC/\[]=txC/\.nilSlice=u0C/\.nilSlice=u2C/\As st1 st'/\∃m':Nat,zk=(m':Int)/\m'<=W/\Own st1.nt 1 st' zt m' ((((At r).take m').map fun k=>txt q (AA k)).map TV.str)/\IX zt u1C/\∃ys,Own st1.nt 13 st' u1C m' ys/\VsR St.zero (((Ca q ty ((At r).map AA)).take m').map Bz) ys,
  fun _ zk _ _ _ _ _ _ _ _ _ _ _ _ _ _ _ _ _ _ _ _ _ _ _ _ _ _ _ _ _ _ _ _ _ _ _ _ _ _ _ _ _ _ _ _ _ _ _ _ _ _ _=>(W-zk).toNat,⟨rfl,rfl,rfl,rfl,rfl,rfl,rfl,rfl,rfl,rfl,rfl,rfl,rfl,rfl,rfl,rfl,rfl,rfl,rfl,rfl,rfl,rfl,rfl,rfl,rfl,rfl,rfl,rfl,rfl,rfl,rfl,rfl,As.refl _,0,rfl,Nat.zero_le _,Own.nil _ _ _,IX.nil _,[],Own.nil _ _ _,by rw[List.take_zero];exact VsR.nil _⟩,?_⟩
 rintro vt _ _ _ z0 z1 z2 _ z3 _ _ _ _ kA boA ngA dgA exA tkA tdA tnA tzA txA u0A u1A u2A _ _ _ _ _ _ _ _ _ _ _ _ _ _ _ _ _ _ _ _ _ _ _ _ vC _ st2 ⟨rfl,rfl,rfl,rfl,rfl,rfl,rfl,rfl,rfl,rfl,rfl,rfl,rfl,rfl,rfl,rfl,rfl,rfl,rfl,rfl,rfl,rfl,rfl,rfl,rfl,rfl,rfl,rfl,rfl,rfl,rfl,rfl,e2,m,rfl,hm,hvt,hap,ys,hC,hCv⟩
 rw[hr.lenZ,tn]
 refine⟨⟨by omega,by omega⟩,Ab hp1 (Ad (hld _) (Ab hu.isSl ?_))⟩
 rw[hu.lenS]
 refine Aa (fun g2=>?_) fun g2=>?_
 ·have hmlt:m<ents.length:=by omega
  have hmWl:m<W:=by rw[<-hwid,hke];exact hmlt
  obtain⟨en,hem⟩:∃k,ents[m]? =some k:=⟨_,List.getElem?_eq_getElem hmlt⟩
  have hef:=hents en (List.mem_of_getElem? hem)
  have hkl:=hT.len r hmem en (by rw[hke];exact List.mem_of_getElem? hem)
  have hkm:(At r)[m]? =some en:=by rw[hke];exact hem
  obtain⟨hp2,ec,w,ws,hec,hld2,hw,hz,hw3⟩:=T8 hu hy hem
  obtain⟨w',ws',rfl,hw',hpos,hwl2,hwp⟩:=S7 hef hec
  simp only[List.getElem?_cons_succ,List.getElem?_cons_zero,Option.some.injEq]at hw3
  subst hw3
  refine⟨⟨by omega,by omega⟩,Ab hp1 (Ad (hld _) ?_)⟩
  rw[hu.lenZ,tn]
  refine⟨⟨by omega,by omega⟩,Ab hp2 (Ad (hld2 _) ?_)⟩
  rw[hw.lenZ]
  refine⟨⟨by omega,by omega⟩,Ab hwp (Ad (hwl2 _) (Al ?_))⟩
  have hcw:Mf q (AA en):=by
   obtain⟨c,mark,rfl,hcw,_⟩:=hef
   exact hcw
  refine OS hcw (by omega) ?_
  refine KZ e2 hvt hC hap (by omega) (fun h=>by cases h) fun v5 st5 e5 _ o5 hC5 hap5=>?_
  have htk:(((At r).take m).map fun k=>txt q (AA k)).map TV.str++[TV.str (txt q (AA en))]=(((At r).take (m+1)).map fun k=>txt q (AA k)).map TV.str:=by
   rw[List.take_add_one,hkm];simp
  have hq1:AA en≠ []->decide ((((AA en).getD 0 0).toNat:Int)=q)=Bi q (AA en):=fun h=>by
   unfold Bi
   exact decide_eq_decide.2 ⟨fun g=>fun h'=>h'.elim h fun h''=>h'' g,fun g=>Decidable.not_not.1 fun h'=>g (.inr h')⟩
  have hq0:¬AA en≠ []->false=Bi q (AA en):=fun h=>by
   unfold Bi
   exact(decide_eq_false fun g=>g (.inl (Decidable.not_not.1 h))).symm
  have hcb:=F5 ty (Bi q (AA en)) (txt q (AA en))
  refine Aa (fun g3=>⟨⟨by omega,by have:=List.length_pos_iff.2 g3;omega⟩,Pg (by omega) ?qa⟩) fun g3=>Pg (by omega) ?qb
  case qa | qb=>
   first
    | rw[show decide ((((AA en).getD (Int.toNat 0) 0).toNat:Int)=q)=Bi q (AA en)from hq1 g3]
    | rw[hq0 g3]
   unfold KC
   refine Ab (BY rfl rfl rfl) ?_
   refine KZ e5 hC5 o5 hap5.symm (by omega) (fun h=>by cases h) fun v6 st6 e6 _ o6 o56 hap6=>Ab (List.all_eq_true.2 fun x hx=>by rw[List.mem_singleton.1 hx];exact o6.rd.one) ?_
   rw[w1 m (by omega)]
   rw[htk]at o56
   refine⟨⟨rfl,rfl,rfl,rfl,rfl,rfl,rfl,rfl,rfl,rfl,rfl,rfl,rfl,rfl,rfl,rfl,rfl,rfl,rfl,rfl,rfl,rfl,rfl,rfl,rfl,rfl,rfl,rfl,rfl,rfl,rfl,rfl,e6,m+1,rfl,by omega,o56,hap6.symm,_,o6,?_⟩,by dsimp only;omega⟩
   rw[OO hkm]
   exact hCv.snoc (Kb _ hcb)
 ·have hmW:m=W:=by rw[hke]at hwid;omega
  subst hmW
  have hrl:(Ca q ty ((At r).map AA)).length=m:=by rw[GE,List.length_map];exact hwid
  have hfull:(Ca q ty ((At r).map AA)).take m=Ca q ty ((At r).map AA):=List.take_of_length_le (by omega)
  have hkfull:(At r).take m=At r:=List.take_of_length_le (by omega)
  rw[hfull]at hCv
  rw[hkfull]at hvt
  refine Am (fun hh=>?_) fun hh=>Aa (fun g0=>?_) fun g0=>?_
  ·have hhd:hd=false:=by simpa using hh
   subst hhd
   have hx:VlR St.zero (FR ((Ca q ty ((At r).map AA)).map Bz)) (Bf (scW 6) .nilSlice vC .nilSlice):=Mz (by rw[List.length_map,hrl];exact hC.rd) hCv
   refine Ab (BY rfl hC.rd.one rfl) ?_
   have hlen:(DK q false ty ((Bl rs).take j)).length<=2000000:=by rw[Fs,List.length_map,List.length_take];omega
   refine BF (e1.trans e2) rfl (hB.ext e2) (by omega) (fun h=>by cases h) fun v' st6 e6 _ ho'=>Ab (List.all_eq_true.2 fun x hx=>by rw[List.mem_singleton.1 hx];exact ho'.rd.one) ?_
   rw[w1 j (by omega)]
   refine⟨⟨rfl,rfl,rfl,rfl,rfl,rfl,rfl,rfl,rfl,rfl,rfl,rfl,rfl,rfl,rfl,rfl,rfl,e6,j+1,rfl,by omega,fun _ h=>(by cases h),zs++Bf (scW 6) .nilSlice vC .nilSlice,?_,?_⟩,by dsimp only;omega⟩
   ·rw[He (hraw hjr),List.length_append];exact ho'
   ·rw[He (hraw hjr)];exact hBv.snoc hx
  ·have hhd:hd=true:=by cases hd;exact absurd hh (by decide);rfl
   subst hhd
   have hj0:j=0:=by omega
   subst hj0
   rw[w1 0 (by omega)]
   refine⟨⟨rfl,rfl,rfl,rfl,rfl,rfl,rfl,rfl,rfl,rfl,rfl,rfl,rfl,rfl,rfl,rfl,rfl,e1.trans e2,1,rfl,by omega,fun _ _ r0 h0=>?_,zs,?_,?_⟩,by dsimp only;omega⟩
   ·rw[hjr]at h0
    cases h0
    exact hvt.rd
   ·rw[Kk]
    rw[List.take_zero]at hB
    exact hB.ext e2
   ·rw[Kk]
    rw[List.take_zero]at hBv
    exact hBv
  ·have hhd:hd=true:=by cases hd;exact absurd hh (by decide);rfl
   subst hhd
   obtain⟨r0,hj0⟩:∃r,rs[0]? =some r:=⟨_,List.getElem?_eq_getElem (by omega)⟩
   have hN:=hnm (by omega) rfl r0 hj0
   have hmem0:=List.mem_of_getElem? hj0
   have hwid0:=hT.wid r0 hmem0
   refine⟨fun zk zn zi y0 y1 y2 zv y3 c1 c2 b7 b8 kA boA ngA dgA exA tkA tdA tnA tzA txA u0A u1A u2A kB boB ngB dgB exB tkB tdB tnB tzB txB u0B u1B u2B kC boC ngC dgC exC tkC tdC tnC tzC txC u0C u1C u2C kD boD ngD dgD exD tkD tdD tnD tzD txD u0D u1D u2D st'=>nmT=zn/\(j:Int)=zi/\v=zv/\a=c1/\q=c2/\true=b7/\ty=b8/\6=kB/\false=boB/\false=ngB/\[]=dgB/\0=exB/\0=tkB/\0=tdB/\0=tnB/\0=tzB/\[]=txB/\.nilSlice=u0B/\.nilSlice=u2B/\vB=u1B/\6=kC/\false=boC/\false=ngC/\[]=dgC/\0=exC/\0=tkC/\0=tdC/\0=tnC/\0=tzC/\[]=txC/\.nilSlice=u0C/\.nilSlice=u2C/\vC=u1C/\7=kD/\false=boD/\false=ngD/\[]=dgD/\0=exD/\0=tkD/\0=tdD/\0=tnD/\0=tzD/\[]=txD/\.nilSlice=u0D/\.nilSlice=u1D/\As st2 st'/\∃p:Nat,zk=(p:Int)/\p<=m/\∃ws,Own st2.nt 14 st' u2D p ws/\FsR St.zero (Jf ((((At r0).map AA).map (txt q)).take p) ((Ca q ty ((At r).map AA)).take p)) ws,
    fun zk _ _ _ _ _ _ _ _ _ _ _ _ _ _ _ _ _ _ _ _ _ _ _ _ _ _ _ _ _ _ _ _ _ _ _ _ _ _ _ _ _ _ _ _ _ _ _ _ _ _ _ _ _ _ _ _ _ _ _ _ _ _ _ _=>(m-zk).toNat,⟨rfl,rfl,rfl,rfl,rfl,rfl,rfl,rfl,rfl,rfl,rfl,rfl,rfl,rfl,rfl,rfl,rfl,rfl,rfl,rfl,rfl,rfl,rfl,rfl,rfl,rfl,rfl,rfl,rfl,rfl,rfl,rfl,rfl,rfl,rfl,rfl,rfl,rfl,rfl,rfl,rfl,rfl,rfl,rfl,rfl,As.refl _,0,rfl,Nat.zero_le _,[],Own.nil _ _ _,by rw[List.take_zero,List.take_zero];exact FsR.nil _⟩,?_⟩
   rintro _ _ _ x0 x1 x2 _ x3 _ _ _ _ kA boA ngA dgA exA tkA tdA tnA tzA txA u0A u1A u2A _ _ _ _ _ _ _ _ _ _ _ _ _ _ _ _ _ _ _ _ _ _ _ _ _ _ _ _ _ _ _ _ _ _ _ _ _ _ vD st3 ⟨rfl,rfl,rfl,rfl,rfl,rfl,rfl,rfl,rfl,rfl,rfl,rfl,rfl,rfl,rfl,rfl,rfl,rfl,rfl,rfl,rfl,rfl,rfl,rfl,rfl,rfl,rfl,rfl,rfl,rfl,rfl,rfl,rfl,rfl,rfl,rfl,rfl,rfl,rfl,rfl,rfl,rfl,rfl,rfl,rfl,e3,p,rfl,hp,ws,hD,hDv⟩
   refine Ab hN.isSl ?_
   rw[hN.lenS,tn]
   refine Aa (fun g5=>?_) fun g5=>?_
   ·obtain⟨k0,hk0⟩:∃k,(At r0)[p]? =some k:=⟨_,List.getElem?_eq_getElem (by omega)⟩
    have l0:Ac st3 [] (.t (ixT 1 nmT p)) 0=some (.str (txt q (AA k0))):=hN.ldx st3 p 0 (by rw[Nat.mul_one,Nat.add_zero,List.getElem?_map,List.getElem?_map,hk0];rfl)
    refine⟨⟨by omega,by rw[hN.lenZ];omega⟩,Ad l0 (Al ?_)⟩
    refine el13 (P6 _) (l:=(Ca q ty ((At r).map AA)).map Bz) (.of_rd (by rw[List.length_map,hrl];exact hC.rd)) hCv rfl (by rw[List.length_map,hrl];omega) fun s' l' f' ub1 ul1 uf1 gw hw on=>?_
    refine Ab on ?_
    refine BF e3 rfl hD (by omega) (fun h=>by cases h) fun v' st6 e6 _ ho'=>Ab (List.all_eq_true.2 fun x hx=>by rw[List.mem_singleton.1 hx];exact ho'.rd.one) ?_
    rw[w1 p (by omega)]
    refine⟨⟨rfl,rfl,rfl,rfl,rfl,rfl,rfl,rfl,rfl,rfl,rfl,rfl,rfl,rfl,rfl,rfl,rfl,rfl,rfl,rfl,rfl,rfl,rfl,rfl,rfl,rfl,rfl,rfl,rfl,rfl,rfl,rfl,rfl,rfl,rfl,rfl,rfl,rfl,rfl,rfl,rfl,rfl,rfl,rfl,rfl,e6,p+1,rfl,by omega,_,ho',?_⟩,by dsimp only;omega⟩
    rw[List.getElem?_map]at gw
    obtain⟨sc,hsc,hle⟩:=Option.map_eq_some_iff.1 gw
    rw[OP (nm:=txt q (AA k0)) (by rw[List.getElem?_map,List.getElem?_map,hk0];rfl) hsc]
    refine hDv.snoc0 ?_
    unfold FdR
    exact⟨_,rfl,by rw[hle];exact hw⟩
   ·have hpW:p=m:=by omega
    subst hpW
    have hfull0:(((At r0).map AA).map (txt q)).take p=((At r0).map AA).map (txt q):=List.take_of_length_le (by rw[List.length_map,List.length_map];omega)
    rw[hfull,hfull0]at hDv
    have hfl:(Jf (((At r0).map AA).map (txt q)) (Ca q ty ((At r).map AA))).length=p:=by unfold Jf;rw[List.length_zipWith,hrl,List.length_map,List.length_map];omega
    have hx:VlR St.zero (Sp (((At r0).map AA).map (txt q)) (Ca q ty ((At r).map AA))) (Bf (scW 7) .nilSlice .nilSlice vD):=Vw (f:=Jf (((At r0).map AA).map (txt q)) (Ca q ty ((At r).map AA))) (by rw[hfl];exact hD.rd) hDv
    refine Ab (BY rfl rfl hD.rd.one) ?_
    have hlen:(DK q true ty ((Bl rs).take j)).length<=2000000:=by
     cases hb:(Bl rs).take j with
     | nil=>exact Nat.zero_le _
     | cons x y=>
      have:=congrArg List.length hb
      rw[List.length_take,List.length_cons]at this
      show(y.map _).length<=_
      rw[List.length_map];omega
    have e23:=e2.trans e3
    refine BF (e1.trans e23) rfl (hB.ext e23) (by omega) (fun h=>by cases h) fun v' st6 e6 _ ho'=>Ab (List.all_eq_true.2 fun x hx=>by rw[List.mem_singleton.1 hx];exact ho'.rd.one) ?_
    rw[w1 j (by omega)]
    refine⟨⟨rfl,rfl,rfl,rfl,rfl,rfl,rfl,rfl,rfl,rfl,rfl,rfl,rfl,rfl,rfl,rfl,rfl,e6,j+1,rfl,by omega,fun _ _ r0' h0'=>?_,zs++Bf (scW 7) .nilSlice .nilSlice vD,?_,?_⟩,by dsimp only;omega⟩
    ·rw[hj0]at h0'
     cases h0'
     exact hN
    ·rw[Hd (hraw hjr) (by omega) (hraw hj0),List.length_append];exact ho'
    ·rw[Hd (hraw hjr) (by omega) (hraw hj0)];exact hBv.snoc hx
end
end
theorem TP (s:Sc):(Bz s).sz=1+s.bytes.length+s.text.length+s.dg.length:=szl' s
theorem WT (ty qd:Bool) (s:B8):(Bz (GU ty qd s)).sz<=1+s.length:=by
 have hd:=dcP_len s
 rw[TP,F5]
 unfold GU
 by_cases h1:ty=false∨qd=true
 ·rw[if_pos h1];simp[tkT]
 rw[if_neg h1]
 by_cases h2:s=[]
 ·rw[if_pos h2];simp[scK]
 rw[if_neg h2]
 by_cases h3:s=Jy
 ·rw[if_pos h3];simp[tkB]
 rw[if_neg h3]
 by_cases h4:s=Ix
 ·rw[if_pos h4];simp[tkB]
 rw[if_neg h4]
 by_cases h5:(dcP s).2.2.2=0
 ·rw[if_pos h5];simp[tkN];omega
 rw[if_neg h5]
 by_cases h6:(tmP s).2.2.2.2=0
 ·rw[if_pos h6];simp[tkM]
 rw[if_neg h6];simp[tkT]
theorem PV (q:Int) (ty:Bool):∀r:List B8,DM ((Ca q ty r).map Bz)<=r.length+Mr r
 | []=>by simp[Ca,DM,Mr]
 | c::r=>by
  have h1:=PV q ty r
  have h2:=WT ty (Bi q c) (txt q c)
  have h3:=txt_len q c
  unfold Ca at h1⊢
  simp only[List.map_cons,DM,List.length_cons,Mr]at h1⊢;omega
theorem TF (M:Nat):∀(names:List B8) (row:List Sc),(∀t,t∈names->t.length<=M)->E6 (Jf names row)<=row.length*M+DM (row.map Bz)
 | [],row,h=>by simp[Jf,E6]
 | _::_,[],h=>by simp[Jf,E6]
 | t::ns,s::r,h=>by
  have h1:=TF M ns r fun x hx=>h x (.tail _ hx)
  have h2:=h t (.head _)
  unfold Jf at h1⊢
  simp only[List.zipWith_cons_cons,E6,Fd.sz,List.length_cons,List.map_cons,DM,Nat.add_mul,Nat.one_mul]at h1⊢;omega
theorem QN (l:List Vl):(FR l).sz=1+DM l:=by unfold FR;rw[szs];simp[scZ,E6]
theorem vMap_sz (f:List Fd):(R6 f).sz=1+E6 f:=by unfold R6;rw[szs];simp[scZ,DM]
theorem valL_sz {q:Int} {hd ty:Bool} {M:Nat} {l:List (List B8)} (h:hd=true->∀r,l.head? =some r->∀c,c∈r->(txt q c).length<=M):DM (DK q hd ty l)<=l.length+GR l*(1+M)+Kr l:=by
 cases hd with
 | false=>
  rw[Fs]
  clear h
  induction l with
  | nil=>simp[DM]
  | cons r t ih=>
   have h1:=PV q ty r
   simp only[List.map_cons,DM,QN,List.length_cons,GR,Kr,Nat.add_mul,Nat.mul_add,Nat.mul_one]at ih⊢;omega
 | true=>
  cases l with
  | nil=>simp[DK,DM]
  | cons h0 t=>
   have hM:=h rfl h0 rfl
   have key:∀t:List (List B8),DM (t.map fun r=>Sp (h0.map (txt q)) (Ca q ty r))<=t.length+GR t*(1+M)+Kr t:=by
    intro t
    induction t with
    | nil=>simp[DM]
    | cons r t ih=>
     have h1:=PV q ty r
     have h2:=TF M (h0.map (txt q)) (Ca q ty r) fun x hx=>by
      obtain⟨c,hc,rfl⟩:=List.mem_map.1 hx
      exact hM c hc
     rw[GE]at h2
     have h3:(Sp (h0.map (txt q)) (Ca q ty r)).sz=1+E6 (Jf (h0.map (txt q)) (Ca q ty r)):=vMap_sz _
     simp only[List.map_cons,DM,h3,List.length_cons,GR,Kr,Nat.add_mul,Nat.mul_add,Nat.mul_one]at ih⊢;omega
   have:=key t
   show DM (t.map fun r=>Sp (h0.map (txt q)) (Ca q ty r))<=_
   simp only[List.length_cons,GR,Kr,Nat.add_mul]at this⊢;omega
theorem WI {a q:Int} {s:B8} {i:Nat} {ks:List Nd} {e n:Nat} (h:Ib a q s i ks e n):i<=s.length->Mr (ks.map AA)+i<=e:=by
 induction h with
 | @last i e n h1 h2 h3=>
  intro hi
  have hl:=Cq hi h1
  simp only[List.map_cons,List.map_nil,BR,Mr]
  rw[IZ hl.1 hl.2];omega
 | @more i e e' n ks h1 h2 h3 h4 ih=>
  intro hi
  have hl:=Cq hi h1
  have:=ih (by omega)
  simp only[List.map_cons,BR,Mr]
  rw[IZ hl.1 hl.2];omega
theorem Rf {a q:Int} {s:B8} {i:Nat} {rs:List Nd} (h:IT a q s i rs):i<=s.length->Kr (Bl rs)+i<=s.length/\GR (Bl rs)+i<=s.length+1/\(i<s.length∨rs=[]->True)/\rs.length+i<=s.length:=by
 induction h with
 | nil h=>intro hi;simp[Bl,Kr,GR];omega
 | @cons i e n ks rs h1 h2 h3 ih=>
  intro hi
  have hle:=h2.le hi
  have hs:=WI h2 hi
  have hn:=(Ey (by omega) hle.2.2.2.2).2.1
  obtain⟨a1,a2,_,a4⟩:=ih (by omega)
  have hk:Bl (.mk 8 [] [] ks (slc s e (e+n))::rs)=ks.map AA::Bl rs:=rfl
  rw[hk]
  simp only[Kr,GR,List.length_map,List.length_cons]
  have hc:n=0->rs=[]:=fun h0=>by
   have:=hn h0
   cases rs with
   | nil=>rfl
   | cons x y=>simp only[List.length_cons]at a4;omega
  refine⟨by omega,?_,fun _=>trivial,?_⟩
  ·rcases Nat.eq_zero_or_pos n with h0 | h0
   ·rw[hc h0];simp[Bl,GR];omega
   ·omega
  ·rcases Nat.eq_zero_or_pos n with h0 | h0
   ·rw[hc h0];simp;omega
   ·omega
theorem tree_of {a q:Int} {s:B8} {rs:List Nd} (h:IT a q s 0 rs) (hs:s.length<=1400000) (hlen:∀r,r∈rs->∀k,k∈At r->(txt q (AA k)).length<=65536) (hW:∃W:Int,∀r,r∈rs->((At r).length:Int)=W):∃W,Qu a q rs W:=by
 obtain⟨W,hW⟩:=hW
 obtain⟨h1,h2,_,h4⟩:=Rf h (Nat.zero_le _)
 have mem:∀r,r∈rs->Mr ((At r).map AA)<=s.length/\(At r).length<=s.length+1:=by
  intro r hr
  obtain⟨j,hj⟩:=List.getElem?_of_mem hr
  have hj2:(Bl rs)[j]? =some ((At r).map AA):=by unfold Bl;rw[List.getElem?_map,hj];rfl
  have:=VE hj2
  rw[List.length_map]at this
  omega
 by_cases hne:rs=[]
 ·subst hne
  exact⟨0,⟨fun r hr=>(by cases hr),fun r hr=>(by cases hr),fun r hr=>(by cases hr),by simp,by omega⟩⟩
 refine⟨W.toNat,⟨h.form (Nat.zero_le _),fun r hr=>by have:=hW r hr;omega,fun r hr k hk=>⟨hlen r hr k hk,?_⟩,by omega,?_⟩⟩
 ·have h5:=VD (List.mem_map.2 ⟨k,hk,rfl⟩:AA k∈(At r).map AA)
  have:=(mem r hr).1;omega
 ·obtain⟨r,t,rfl⟩:=List.exists_cons_of_ne_nil hne
  have:=hW r (.head _)
  have:=(mem r (.head _)).2
  omega
theorem OZ {n:Nd} {a q:Int} {hd:Bool} (h:HF n a q hd):∃rs W,n= .mk 1 [] [] rs []/\Qu a q rs W:=by
 obtain⟨rs,rfl,_,_,_,_,_,hr,hl,hW⟩:=Cc h.2
 have hlen:=N1 h.1
 have hn:=Eg (.mk 1 [] [] rs [])
 obtain⟨W,hT⟩:=tree_of hr (by show(Dd (.mk 1 [] [] rs [])).length<=_;omega) hl hW
 exact⟨rs,W,rfl,hT⟩
theorem IC {x:Cx} {hd:Bool} {l2 l3 l4:Int} {n:Nd} (h:AV x hd l2 l3 l4= .ok n):Lv x.s x.a x.q hd= .ok n:=by
 obtain⟨rs,rfl,hd1,hl,hle,hv,hdoc,hr,hlen,hW⟩:=Cc h
 unfold lOk at hl
 rw[decide_eq_true_eq]at hl
 obtain⟨rs1,q1,_,_,_,q6⟩:=NT _ (Nat.zero_le _) hdoc
 rw[List.nil_append]at q1
 subst q1
 obtain⟨rs2,j1,j2,_,_⟩:=WL (d':=48) (n':=65536) _ hdoc
 rw[List.nil_append]at j1
 subst j1
 have hdoc2:=j2 (.inr (by decide)) (by rcases q6 with q6 | q6<;>omega)
 show AV (xU x.s x.a x.q) hd 1048576 1024 65536=_
 unfold AV
 rw[if_neg (show ¬dOk x.a x.q=false by rw[hd1];decide),if_neg (show ¬lOk 48 65536 1048576 1024 65536=false by decide),if_neg (show ¬(1048576:Int)<(x.s.length:Int) by omega),if_neg (show ¬Bh x.s≠x.s.length by rw[hv];simp)]
 rw[show Ds (xU x.s x.a x.q) hd ((xU x.s x.a x.q).s.length+1) [] 0 1 [] 0= .ok rs from hdoc2]
theorem val_sz {a q:Int} {hd ty:Bool} {rs:List Nd} {n:Nd} (h:HF n a q hd) (hn:n= .mk 1 [] [] rs []) (hcn:GR (Bl rs)<=1600):(FR (DK q hd ty (Bl rs))).sz<=1+rs.length+GR (Bl rs)*1025+Kr (Bl rs):=by
 subst hn
 obtain⟨rs',hn,_,_,_,_,hdoc,_⟩:=Cc h.2
 cases hn
 rw[QN]
 have:=valL_sz (q:=q) (hd:=hd) (ty:=ty) (M:=1024) (l:=Bl rs) (fun hb r hr c hc=>by
  subst hb
  cases rs with
  | nil=>cases hr
  | cons r0 t=>
   have hr:(At r0).map AA=r:=by simpa [Bl]using hr
   have:=(S9 _ hdoc (Nat.zero_le _) r0 rfl).2
   subst hr
   obtain⟨k,hk,rfl⟩:=List.mem_map.1 hc
   exact this _ (List.mem_map.2 ⟨k,hk,rfl⟩))
 have hl:(Bl rs).length=rs.length:=by unfold Bl;rw[List.length_map]
 omega
theorem read_sz {a q:Int} {hd ty:Bool} {rs:List Nd} {s:B8} (h:Lv s a q hd= .ok (.mk 1 [] [] rs [])) (hs:s.length<=1500):(FR (DK q hd ty (Bl rs))).sz<=1600000:=by
 obtain⟨ht,_,ho⟩:=NA (by omega) h
 obtain⟨rs',hn,_,_,_,_,_,hr,_⟩:=Cc h
 cases hn
 obtain⟨h1,h2,_,h4⟩:=Rf hr (Nat.zero_le _)
 have h1:Kr (Bl rs)+0<=s.length:=h1
 have h2:GR (Bl rs)+0<=s.length+1:=h2
 have h4:rs.length+0<=s.length:=h4
 have:=val_sz (ty:=ty) ho rfl (by omega)
 omega
section
section
variable {a q:Int} {hd ty:Bool} {st:St}
theorem RD {s:B8} {l0 l1 l2 l3 l4:Int} (hl:s.length<=70000) {K:Int->Bool->Bool->B8->Int->Int->Int->Int->Int->B8->TV->TV->TV->Int->Int->St->Prop}
  (hk1:∀(p:Nat×Int) st',As st st'->AV ⟨s,a,q,l0,l1⟩ hd l2 l3 l4= .error p->p.2≠0->K 0 false false [] 0 0 0 0 0 [] .nilSlice .nilSlice .nilSlice p.1 p.2 st')
  (hk2:∀rs u xs st',As st st'->AV ⟨s,a,q,l0,l1⟩ hd l2 l3 l4= .ok (.mk 1 [] [] rs [])->Rd 13 u (DK q hd ty (Bl rs)).length xs->VsR St.zero (DK q hd ty (Bl rs)) xs->K 6 false false [] 0 0 0 0 0 [] .nilSlice u .nilSlice 0 0 st'):
  CallT PR Fa [.str s,.agg [.int .u8 a,.int .u8 q,.bool hd,.bool ty],.agg [.int .i64 l0,.int .i64 l1,.int .i64 l2,.int .i64 l3,.int .i64 l4]] [.agg OE,.one (.int .i64),.one (.int .i64)] st K:=by
 refine PI s a q hd ty l0 l1 l2 l3 l4 st K (OY (x:=⟨s,a,q,l0,l1⟩) (by show s.length<=_;omega) fun k kv st1 e1 hn=>?_)
 obtain⟨_,_,_,_,_,h5,ho⟩:=hn.five
 cases h5
 have hcn:EG (pN (AV ⟨s,a,q,l0,l1⟩ hd l2 l3 l4))<=1000000000000000:=V2 (by show s.length<=_;omega)
 rcases hP:AV ⟨s,a,q,l0,l1⟩ hd l2 l3 l4 with p | n
 ·rw[hP]at hk1
  have hne:=Nv hP
  exact Ab (B1 ho) (Aa (fun _=>hk1 p st1 e1 rfl hne) fun g=>absurd hne g)
 ·rw[hP]at hn hcn hk2
  obtain⟨rs,hrs,_⟩:=Cc hP
  subst hrs
  have hU:=IC hP
  obtain⟨htx,_,hou⟩:=NA (show s.length<=70000 from hl) hU
  have hnl:=Eg (.mk 1 [] [] rs [])
  rw[htx]at hnl
  have hl':s.length<=70000:=hl
  refine Ab (B1 ho) (Aa (fun g=>absurd rfl g) fun _=>U7 hn (by show D5 (.mk 1 [] [] rs [])<=_;rw[<-hnl];show s.length<=_;omega) hcn (fun ho=>?_) (fun h=>absurd hou h) fun _ u xs st2 e2 hu hx=>?_)
  ·obtain⟨rs',W,he,hT⟩:=OZ ho
   have he:Nd.mk 1 [] [] rs []= .mk 1 [] [] rs' []:=he
   cases he
   exact⟨W,hT⟩
  ·exact Ab (BY rfl hu.one rfl) (Ab (BY rfl hu.one rfl) (hk2 rs u xs st2 (e1.trans e2) rfl hu hx))
theorem Pf {s:B8} {l0 l1 l2 l3 l4:Int} (hl:s.length<=70000) {K:Int->Bool->Bool->B8->Int->Int->Int->Int->Int->B8->TV->TV->TV->Int->Int->St->Prop}
  (hk1:∀(p:Nat×Int) st',As st st'->AV ⟨s,a,q,l0,l1⟩ hd l2 l3 l4= .error p->p.2≠0->K 0 false false [] 0 0 0 0 0 [] .nilSlice .nilSlice .nilSlice p.1 p.2 st')
  (hk2:∀rs u xs st',As st st'->AV ⟨s,a,q,l0,l1⟩ hd l2 l3 l4= .ok (.mk 1 [] [] rs [])->Rd 13 u (DK q hd ty (Bl rs)).length xs->VsR St.zero (DK q hd ty (Bl rs)) xs->K 6 false false [] 0 0 0 0 0 [] .nilSlice u .nilSlice 0 0 st'):
  CallT PR CS [.str s,.agg [.int .u8 a,.int .u8 q,.bool hd,.bool ty],.agg [.int .i64 l0,.int .i64 l1,.int .i64 l2,.int .i64 l3,.int .i64 l4]] [.agg OE,.one (.int .i64),.one (.int .i64)] st K:=by
 refine Ii s a q hd ty l0 l1 l2 l3 l4 st K (UN (x:=⟨s,a,q,l0,l1⟩) (by show s.length<=_;omega) fun k kv st1 e1 hn=>?_)
 obtain⟨_,_,_,_,_,h5,ho⟩:=hn.five
 cases h5
 rcases hP:AV ⟨s,a,q,l0,l1⟩ hd l2 l3 l4 with p | n
 ·rw[hP]at hk1
  have hne:=Nv hP
  exact Ab (B1 ho) (Aa (fun _=>hk1 p st1 e1 rfl hne) fun g=>absurd hne g)
 ·rw[hP]at hn hk2
  obtain⟨rs,hrs,_⟩:=Cc hP
  subst hrs
  have hU:=IC hP
  obtain⟨htx,_,hou⟩:=NA (show s.length<=70000 from hl) hU
  obtain⟨rs',W,he,hT⟩:=OZ hou
  have he:Nd.mk 1 [] [] rs []= .mk 1 [] [] rs' []:=he
  cases he
  exact Ab (B1 ho) (Aa (fun g=>absurd rfl g) fun _=>gOf_ok hn hT fun u xs st2 e2 hu hx=>Ab (BY rfl hu.one rfl) (hk2 rs u xs st2 (e1.trans e2) rfl hu hx))
end
theorem SlR.zero {sz n:Nat} {v:TV} {xs:List TV} (h:SlR St.zero sz v n xs):Rd sz v n xs:=by
 rcases h with h | ⟨b,_,_,_,_,hb,_⟩
 ·exact h
 ·exact absurd hb (Nat.not_lt_zero _)
theorem TO {xs:List TV} {k n j:Nat} {cs:List TV} (h:(xs.drop k).take n=cs) {x:TV} (hx:cs[j]? =some x):xs[k+j]? =some x:=by
 rw[<-h,List.getElem?_take]at hx
 split at hx
 ·rwa [List.getElem?_drop]at hx
 ·cases hx
theorem Rd.isP {sz n i:Nat} {u:TV} {xs:List TV} (h:Rd sz u n xs) (hi:i<n):isPtr (ixT sz u i)=true:=(SlR.of_rd (st:=St.zero) h).isPtr hi
theorem ld13 {u:TV} {xs:List TV} {l:List Vl} (hr:Rd 13 u l.length xs) (hv:VsR St.zero l xs) {i:Nat} {s':Sc} {l':List Vl} {f':List Fd} (hi:l[i]? =some (.mk s' l' f')):
  isPtr (ixT 13 u i)=true/\∃ub ul uf xl xf,(∀st (j:Nat) x,(Bf s' ub ul uf)[j]? =some x->Ac st [] (.t (Ao (ixT 13 u i) j)) 0=some x)/\Rd 13 ul l'.length xl/\VsR St.zero l' xl/\Rd 14 uf f'.length xf/\FsR St.zero f' xf:=by
 obtain⟨hlt,_⟩:=List.getElem?_eq_some_iff.1 hi
 obtain⟨cs,hc,hcx,_⟩:=hv.get hi
 obtain⟨ub,ul,uf,xl,xf,rfl,_,h2,h3,h4,h5⟩:=hc.cells
 exact⟨hr.isP hlt,ub,ul,uf,xl,xf,fun st j x hx=>hr.ldfx st i j (TO hcx hx),h2.zero,h3,h4.zero,h5⟩
theorem Ud {sz n i:Nat} {u:TV} {xs:List TV} (h:Rd sz u n xs) (hi:i<n) (a b:Nat):Ao (Ao (ixT sz u i) a) b=Ao (ixT sz u i) (a+b)/\isPtr (Ao (ixT sz u i) a)=true:=by
 rcases h with⟨rfl,rfl,_⟩ | ⟨tip,rfl⟩
 ·omega
 ·refine⟨?_,rfl⟩
  simp only[ixT,Ao,Nat.beq_refl,List.drop_drop,Nat.add_assoc]
theorem ld14 {u:TV} {xs:List TV} {l:List Fd} (hr:Rd 14 u l.length xs) (hv:FsR St.zero l xs) {i:Nat} {k:B8} {s':Sc} {l':List Vl} {f':List Fd} (hi:l[i]? =some (.mk k (.mk s' l' f'))):
  isPtr (ixT 14 u i)=true/\isPtr (Ao (ixT 14 u i) 1)=true/\∃ub ul uf,∀st (j:Nat) x,(Bf s' ub ul uf)[j]? =some x->Ac st [] (.t (Ao (Ao (ixT 14 u i) 1) j)) 0=some x:=by
 obtain⟨hlt,_⟩:=List.getElem?_eq_some_iff.1 hi
 obtain⟨cs,hc,hcx,_⟩:=hv.get hi
 unfold FdR at hc
 obtain⟨c,rfl,hc⟩:=hc
 obtain⟨ub,ul,uf,xl,xf,rfl,_⟩:=hc.cells
 refine⟨hr.isP hlt,(Ud hr hlt 1 0).2,ub,ul,uf,fun st j x hx=>?_⟩
 rw[(Ud hr hlt 1 j).1]
 exact hr.ldfx st i (1+j) (TO hcx (by rw[Nat.add_comm 1 j];exact hx))
end
theorem V3 {s:B8} (hu:U8 s) (hl:s.length<=65536):Py (tkT s) [] [] where
 own:=⟨(by decide:(0:Int)<=4),(by decide:(4:Int)<=7),fun _=>rfl,fun _=>⟨rfl,rfl,rfl⟩,fun _=>⟨rfl,rfl,rfl,rfl⟩,fun h=>absurd rfl h,fun _=>rfl,fun _=>rfl,fun _=>rfl⟩
 dec:=by show ET false [] 0;decide
 time:=fun h=>by cases h
 text:=hu
 tlen:=hl
 blen:=Nat.zero_le _
 keys:=rfl
theorem Tj {s:Sc} (h:Py s [] []):IO (Bz s)=0:=by
 have h0:=O2.2 h
 unfold Bz IO D6
 rw[if_neg (by omega),if_neg (by omega),if_neg (by omega)]
 unfold GC GS GT
 rfl
def UT:List (List B8):=[[[97],[98]],[[49],[120]],[[34,49,34],[]]]
theorem textA:DE 44 UT=UG:=by decide
theorem dA:dOk 44 34=true:=by decide
theorem plA (c:B8) (h:FW 44 34 c=false/\(c.all fun x=>decide (x.toNat<128))=true/\(txt 34 c).length<=65536):IW 44 34 c/\Bh c=c.length/\(txt 34 c).length<=65536:=⟨Qo (dlOk dA) h.1,Ec c h.2.1,h.2.2⟩
theorem parseG:∃rs,Lv UG 44 34 true= .ok (.mk 1 [] [] rs [])/\Bl rs=UT:=by
 have hF:IW 44 34 [34,49,34]/\Bh [34,49,34]=([34,49,34]:B8).length/\(txt 34 [34,49,34]).length<=65536:=⟨RS (dlOk dA) [49],Ec _ rfl,by decide⟩
 have:=readX (a:=44) (q:=34) dA true (l:=UT) (W:=2) (fun r hr=>by
  simp only[UT,List.mem_cons,List.not_mem_nil,or_false]at hr
  rcases hr with rfl | rfl | rfl
  ·exact⟨by decide,rfl,fun c hc=>by
    simp only[List.mem_cons,List.not_mem_nil,or_false]at hc
    rcases hc with rfl | rfl<;>exact plA _ (by decide)⟩
  ·exact⟨by decide,rfl,fun c hc=>by
    simp only[List.mem_cons,List.not_mem_nil,or_false]at hc
    rcases hc with rfl | rfl<;>exact plA _ (by decide)⟩
  ·exact⟨by decide,rfl,fun c hc=>by
    simp only[List.mem_cons,List.not_mem_nil,or_false]at hc
    rcases hc with rfl | rfl
    ·exact hF
    ·exact plA _ (by decide)⟩) (by rw[textA];decide) (by decide) (fun _ r hr=>by
  simp only[UT,List.head?_cons,Option.some.injEq]at hr
  subst hr
  refine⟨by decide,fun c hc=>?_⟩
  simp only[List.mem_cons,List.not_mem_nil,or_false]at hc
  rcases hc with rfl | rfl<;>decide)
 rwa [textA]at this
def lA:List Vl:=[R6 [.mk [97] (Bz (tkN false [49] 0)),.mk [98] (Bz (tkT [120]))],R6 [.mk [97] (Bz (tkT [49])),.mk [98] (Bz (scK 0))]]
theorem valA:DK 34 true true UT=lA:=by kernel_rfl
theorem LJ {st:St} {K:Bool->St->Prop} (hk:∀st',As st st'->K true st'):CallT PR BL [] [.one .bool] st K:=by
 obtain⟨rs,hp,hraw⟩:=parseG
 refine H6 st K (Nr (Ri (RD (s:=UG) (by decide) (fun p st1 e1 h _=>?_) fun rs' u xs st1 e1 h hu hx=>?_)))
 ·rw[show AV ⟨UG,44,34,48,65536⟩ true 1048576 1024 65536=_ from hp]at h;cases h
 rw[show AV ⟨UG,44,34,48,65536⟩ true 1048576 1024 65536=_ from hp]at h
 cases h
 rw[hraw,valA]at hu hx
 have hu:Rd 13 u 2 xs:=hu
 obtain⟨p1,_,_,f1,_,xf1,ld1,_,_,hf1,hfx1⟩:=ld13 (l:=lA) hu hx (i:=1) rfl
 obtain⟨p0,_,_,f0,_,xf0,ld0,_,_,hf0,hfx0⟩:=ld13 (l:=lA) hu hx (i:=0) rfl
 obtain⟨a1,a2,_,_,_,la⟩:=ld14 hf1 hfx1 (i:=0) rfl
 obtain⟨b1,b2,_,_,_,lb⟩:=ld14 hf0 hfx0 (i:=0) rfl
 obtain⟨c1,c2,_,_,_,lc⟩:=ld14 hf1 hfx1 (i:=1) rfl
 have hf1:Rd 14 f1 2 xf1:=hf1
 have hf0:Rd 14 f0 2 xf0:=hf0
 have h49:Py (tkT [49]) [] []:=V3 (Ec [49] rfl) (by decide)
 have hE:shE 44 34 true (Bz (tkT [49]))=0:=by
  unfold shE
  rw[if_neg (by rw[dA];decide),if_neg (by rw[Tj h49];decide)]
  decide
 have hT:shT 44 34 true (Bz (tkT [49]))=str11:=by
  unfold shT
  rw[if_pos hE]
  show Kv 44 34 true (tkT [49])=_
  unfold Kv
  rw[if_pos (show(tkT [49]).kind=4 from rfl),if_pos (by decide)]
  decide
 have hv:VlR St.zero (Bz (tkT [49])) (Bf (tkT [49]) .nilSlice .nilSlice .nilSlice):=Kb _ rfl
 refine Ab (BY rfl hu.one rfl) (Nr (Wx (v:=Bz (tkT [49])) (by rw[TP];decide) hv fun st2 e2=>?_))
 rw[hE,hT]
 refine Aa (fun _=>Ab hu.isSl (Aa (fun _=>⟨⟨by decide,by rw[hu.lenZ];decide⟩,Ab p1 (Ad (ld1 _ 12 _ rfl) (Ab hf1.isSl (Aa (fun _=>⟨⟨by decide,by rw[hu.lenZ];decide⟩,Ab p1 (Ad (ld1 _ 12 _ rfl)
  ⟨⟨by decide,by rw[hf1.lenZ];decide⟩,Ab a1 (Ab a2 (Ad (la _ 9 _ rfl) (Al (Aa (fun _=>⟨⟨by decide,by rw[hu.lenZ];decide⟩,Ab p0 (Ad (ld0 _ 12 _ rfl)
   ⟨⟨by decide,by rw[hf0.lenZ];decide⟩,Ab b1 (Ab b2 (Ad (lb _ 0 _ rfl) (AB (Aa (fun _=>⟨⟨by decide,by rw[hu.lenZ];decide⟩,Ab p1 (Ad (ld1 _ 12 _ rfl)
    ⟨⟨by decide,by rw[hf1.lenZ];decide⟩,Ab c1 (Ab c2 (Ad (lc _ 0 _ rfl) (AB (Aa (fun _=>Aa (fun _=>hk st2 (e1.trans e2)) fun g=>absurd rfl g) fun g=>absurd rfl g))))⟩)⟩) fun g=>absurd rfl g))))⟩)⟩) fun g=>absurd rfl g))))⟩)⟩) fun g=>absurd (by rw[hf1.lenS];rfl) g)))⟩) fun g=>absurd (by rw[hu.lenS];rfl) g)) fun g=>absurd rfl g
theorem TI:VlR St.zero (Bz (scK 0)) (Bf (scK 0) .nilSlice .nilSlice .nilSlice):=Kb _ rfl
theorem lreadsG_ok {s:B8} {a q:Int} {hd ty:Bool} {l0 l1 l2 l3 l4:Int} {st:St} {K:Bool->St->Prop} (hk:∀st',K true st'):
  CallT PR fn_datakitlaw28_GridReads [.str s,.agg [.int .u8 a,.int .u8 q,.bool hd,.bool ty],.agg [.int .i64 l0,.int .i64 l1,.int .i64 l2,.int .i64 l3,.int .i64 l4]] [.one .bool] st K:=by
 refine FQ s a q hd ty l0 l1 l2 l3 l4 st K (Aa (fun _=>LJ fun _ _=>hk _) fun g=>?_)
 refine RD (s:=s) (by omega) (fun p st1 e1 hp _=>?_) fun rs u xs st1 e1 hp hu hx=>?_
 ·refine Ab (BY rfl rfl rfl) (Pf (s:=s) (by omega) (fun p' st2 e2 hp' _=>?_) fun rs u xs st2 e2 hp' _ _=>by rw[hp]at hp';cases hp')
  rw[hp]at hp'
  cases hp'
  refine Ab (BY rfl rfl rfl) (Uz 2000000 (Bz (scK 0)) (Bz (scK 0)) (by rw[TP];decide) (by rw[TP];decide) (Nat.le_refl _) TI TI (P6 _) fun r hr=>?_)
  rw[hr.2 rfl]
  exact Am (fun _=>Aa (fun _=>Aa (fun _=>LJ fun _ _=>hk _) fun g=>absurd rfl g) fun g=>absurd rfl g) fun g=>by cases g
 ·refine Ab (BY rfl hu.one rfl) (Pf (s:=s) (by omega) (fun p' st2 e2 hp' _=>by rw[hp]at hp';cases hp') fun rs' u' xs' st2 e2 hp' hu' hx'=>?_)
  rw[hp]at hp'
  cases hp'
  have hz:(FR (DK q hd ty (Bl rs))).sz<=1600000:=read_sz (ty:=ty) (IC hp) (show s.length<=1500 by omega)
  refine Ab (BY rfl hu'.one rfl) (Uz 2000000 (FR (DK q hd ty (Bl rs))) (FR (DK q hd ty (Bl rs))) (by omega) (by omega) (Nat.le_refl _) (Mz hu hx) (Mz hu' hx') (P6 _) fun r hr=>?_)
  rw[hr.2 rfl]
  exact Am (fun _=>Aa (fun _=>Aa (fun _=>LJ fun _ _=>hk _) fun g=>absurd rfl g) fun g=>absurd rfl g) fun g=>by cases g
end Go.TVF
