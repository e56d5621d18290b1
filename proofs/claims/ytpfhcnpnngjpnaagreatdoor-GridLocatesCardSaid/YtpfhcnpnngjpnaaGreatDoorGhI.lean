/- What the laws below rest on: a framework for Go programs, and contracts of the functions that they reach. -/
import Derived.Test.YtpfhcnpnngjpnaaGreatDoorGhH
set_option maxRecDepth 20000
set_option linter.unusedVariables false
set_option linter.unusedSimpArgs false
namespace Go.TVF
open Go.IntKind(i64 u8)
open Go Go.Proofs
section
theorem Td:∀{ss:List BA} {w x:Vl} {acc ks:List Int},Gc w ss acc= .ok (x,ks)->∃t,ks=acc++t/\t.length=ss.length
 | [],w,x,acc,ks,h=>by
  rw[Gc]at h
  simp only[Except.ok.injEq,Prod.mk.injEq]at h
  exact⟨[],by rw[List.append_nil];exact h.2.symm,rfl⟩
 | s::r,w,x,acc,ks,h=>by
  rw[Gc]at h
  split at h
  ·cases h
  ·rename_i y k _
   obtain⟨t,h1,h2⟩:=Td h
   exact⟨k::t,by rw[h1];simp,by rw[List.length_cons,h2,List.length_cons]⟩
theorem MP {w x:Vl} {s:BA} {i:Int} (h:Ci w s= .ok (x,i)):(w.sc.kind=6/\s.1=true/\i=s.2.2/\w.list[s.2.2.toNat]? =some x)∨(w.sc.kind=7/\s.1=false/\∃j:Nat,i=j/\Ia w.flds s.2.1 0=some (x,j)):=by
 unfold Ci at h
 by_cases hb:s.1=true
 ·rw[if_pos hb]at h
  by_cases hk:w.sc.kind=6
  ·rw[if_pos hk]at h
   split at h
   ·rename_i y hy
    simp only[Except.ok.injEq,Prod.mk.injEq]at h
    exact .inl ⟨hk,hb,h.2.symm,h.1▸hy⟩
   ·cases h
  ·rw[if_neg hk]at h;cases h
 ·rw[if_neg hb]at h
  by_cases hk:w.sc.kind=7
  ·rw[if_pos hk]at h
   split at h
   ·rename_i y k hy
    simp only[Except.ok.injEq,Prod.mk.injEq]at h
    exact .inr ⟨hk,by simpa using hb,k,h.2.symm,h.1▸hy⟩
   ·cases h
  ·rw[if_neg hk]at h;cases h
theorem SlR.ld1 {st:St} {u:TV} {n k:Nat} {xs:List TV} {x:TV} (h:SlR st 1 u n xs) (hl:xs.length=n) (hx:xs[k]? =some x):Ac st [] (.t (ixT 1 u k)) 0=some x:=by
 obtain⟨hk,hx'⟩:=List.getElem?_eq_some_iff.1 hx
 have:=h.ldc (i:=k) (by omega) (by omega)
 rw[Nat.mul_one,List.drop_eq_getElem_cons hk,hx']at this
 simp only[Aj,List.take_succ_cons,List.take_zero]at this
 cases hq:Ac st [] (.t (ixT 1 u k)) 0 with
 | none=>rw[hq]at this;cases this
 | some y=>
  rw[hq]at this
  simp only[Option.map_some,Option.some.injEq,List.cons.injEq,and_true]at this
  rw[this]
theorem Yi {w x:Vl} {s:BA} {i:Int} (hs:EJ s) (hN:w.sz<=2000000) (h:Ci w s= .ok (x,i)):0<=i/\i<=2000000:=by
 rcases MP h with⟨_,hb,rfl,_⟩ | ⟨_,_,j,rfl,hk⟩
 ·have:=hs.1 hb;omega
 ·obtain⟨j',d,h1,h2,_⟩:=Hw hk
  obtain⟨sc,l,f⟩:=w
  have:=szs sc l f
  have:=Fa f
  have h2:f[j']? =some d:=h2
  have:=(List.getElem?_eq_some_iff.1 h2).1
  omega
open Classical in
noncomputable def Hs (n:Nd) (a q:Int) (hd ty:Bool) (ss:List BA):Except Int (Int×Int):=
 if ¬(Ef n a q hd/\Mv ss)then .error 1 else match Gc (Dg (CK q hd ty (A3 (CS n)))) ss []with
 | .error e=> .error e
 | .ok (_,ks)=>if ss.length<2 then .error 26 else .ok (ks.getD 0 0+(if hd then 1 else 0),ks.getD 1 0)
def locT:Except Int (Int×Int)->TV | .ok (x,y)=> .list 1 .full 3 [.int .i64 x,.int .i64 y,.int .i64 0] | .error _=> .nilSlice
def locE:Except Int (Int×Int)->Int | .ok _=>0 | .error e=>e
section
variable {a q:Int} {hd ty:Bool} {st:St}
theorem UI {n:Nd} {cs:List TV} (hc:NdC n cs) (hl:Ce n<=100000000000000) (hcn:BZ n<=1000000000000000) (hz:Ef n a q hd->(Dg (CK q hd ty (A3 (CS n)))).sz<=2000000) {p:TV} {ss:List BA} (hp:Hc p ss)
  {K:TV->Int->St->Prop} (hk:∀st',K (locT (Hs n a q hd ty ss)) (locE (Hs n a q hd ty ss)) st'):
  CallT PR Gi [.agg cs,.agg [.int .u8 a,.int .u8 q,.bool hd,.bool ty],p] [.one .tv,.one (.int .i64)] st K:=by
 obtain⟨kd,t0,t1,kv,tl,rfl,_⟩:=hc.five
 have err:∀e,Hs n a q hd ty ss= .error e->∀st',K .nilSlice e st':=fun e he st'=>by have:=hk st';rwa [he]at this
 refine Nr kd t0 t1 kv tl a q hd ty p st K (Qv hc hl hcn (fun ho=>by obtain⟨rs,W,rfl,hT⟩:=Mx ho;exact⟨W,hT⟩) (fun ho st1 e1=>?_) fun ho u xs st1 e1 hu hx=>?_)
 ·refine Ab (BK rfl rfl rfl) (Aa (fun _=>err 1 ?_ _) fun g=>absurd (by decide) g)
  unfold Hs
  rw[if_pos fun h=>ho h.1]
 ·have hz:=hz ho
  refine Ab (BK rfl hu.one rfl) (Aa (fun g=>absurd rfl g) fun _=>path_ok hp (fun hok=>Ak (fun h=>by cases h) fun _=>?_) fun hok=>Ak (fun _=>err 1 ?_ _) fun h=>by cases h)
  case refine_2=>
   unfold Hs
   rw[if_pos fun h=>hok h.2]
  have hL:Hs n a q hd ty ss=match Gc (Dg (CK q hd ty (A3 (CS n)))) ss []with
    | .error e=> .error e
    | .ok (_,ks)=>if ss.length<2 then .error 26 else .ok (ks.getD 0 0+(if hd then 1 else 0),ks.getD 1 0):=by
   unfold Hs
   rw[if_neg fun h=>h ⟨ho,hok⟩]
  have hv:=NI hu hx
  generalize Dg (CK q hd ty (A3 (CS n)))=V at hL hz hv
  refine Ab (Rd.isSl hp) ?_
  refine⟨fun ks i p1 v1 m n8 n9 b4 b5 n1 b1 b2 s1 n2 n3 n4 n5 n6 s2 u1 u2 u3 st'=>p=p1/\p=v1/\(ss.length:Int)=m/\a=n8/\q=n9/\hd=b4/\ty=b5/\∃(k:Nat) (w:Vl) (kl:List Int) (bs:List Nat),i=k/\k<=ss.length/\kl.length=k/\(∀x,x∈kl->0<=x/\x<=2000000)/\Gc V ss []=Gc w (ss.drop k) kl/\w.sz<=2000000/\VlR St.zero w [.int .i64 n1,.bool b1,.bool b2,.str s1,.int .i64 n2,.int .i64 n3,.int .i64 n4,.int .i64 n5,.int .i64 n6,.str s2,u1,u2,u3]/\GR st' 1 ks k (kl.map (TV.int .i64)) bs,
   fun _ i _ _ _ _ _ _ _ _ _ _ _ _ _ _ _ _ _ _ _ _ _=>(ss.length-i).toNat,⟨rfl,rfl,by rw[Rd.lenS hp],rfl,rfl,rfl,rfl,0,V,[],[],rfl,Nat.zero_le _,rfl,fun x hx=>(by cases hx),rfl,hz,hv,GR.nil _ _⟩,?_⟩
  rintro ks _ _ _ _ _ _ _ _ n1 b1 b2 s1 n2 n3 n4 n5 n6 s2 u1 u2 u3 st3 ⟨rfl,rfl,rfl,rfl,rfl,rfl,rfl,k,w,kl,bs,rfl,hkl,hkll,hB,hE,hwz,hw,hO⟩
  have h48:=hok.1
  refine Aa (fun g=>?_) fun g=>Ab (Rd.isSl hp) ?_
  ·obtain⟨s,hs⟩:∃s,ss[k]? =some s:=⟨_,List.getElem?_eq_getElem (by omega)⟩
   have hso:=hok.2 s (List.mem_of_getElem? hs)
   have hdr:ss.drop k=s::ss.drop (k+1):=Hz hs
   obtain⟨sw,lw,fw⟩:=w
   have on:List.all [.int .i64 n1,.bool b1,.bool b2,.str s1,.int .i64 n2,.int .i64 n3,.int .i64 n4,.int .i64 n5,.int .i64 n6,.str s2,u1,u2,u3] Ap=true:=by
    obtain⟨_,_,_,_,_,hc,w1,w2,_,w4,_⟩:=hw.cells
    cases hc
    exact BK w1.zero.one w2.zero.one w4.zero.one
   refine el3 hp rfl hs (X4 hw hwz hso (fun e k1 b1 b2 s1 k2 k3 k4 k5 k6 s2 u1 u2 u3 on he=>Ab on (Aa (fun _=>err e ?_ _) fun g=>absurd (Decidable.not_not.1 g) (MQ he))) fun x i ub ul uf hd hx=>?_)
   ·rw[hL,hE,hdr,Gc,he]
   ·obtain⟨sx,lx,fx⟩:=x
    have on2:List.all (A7 sx ub ul uf) Ap=true:=by
     obtain⟨_,_,_,_,_,hc,w1,w2,_,w4,_⟩:=hx.cells
     cases hc
     exact BK w1.zero.one w2.zero.one w4.zero.one
    refine Ab on2 (Aa (fun g=>absurd rfl g) fun _=>QL hO (by omega) rfl (by omega) fun u' st5 bs' ho' e5 _=>?_)
    rw[Ah _ (by omega) (by omega)]
    refine⟨⟨rfl,rfl,rfl,rfl,rfl,rfl,rfl,k+1,.mk sx lx fx,kl++[i],bs',by omega,by omega,by rw[List.length_append,hkll];rfl,fun y hy=>?_,?_,by have:=Tj hd;omega,hx,?_⟩,by dsimp only;omega⟩
    ·rcases List.mem_append.1 hy with hy | hy
     ·exact hB y hy
     ·rw[List.mem_singleton.1 hy];exact Yi hso hwz hd
    ·rw[hE,hdr,Gc,hd]
    ·rw[List.map_append];exact ho'
  ·have hkk:k=ss.length:=by omega
   rw[hkk,List.drop_length,Gc]at hE
   rw[hE]at hL
   replace hL:Hs n a q hd ty ss=if ss.length<2 then .error 26 else .ok (kl.getD 0 0+(if hd then 1 else 0),kl.getD 1 0):=hL
   rw[Rd.lenS hp]
   refine Aa (fun g1=>err 26 (by rw[hL,if_pos (by omega)]) _) fun g1=>?_
   rw[if_neg (by omega)]at hL
   obtain⟨x0,x1,xr,rfl⟩:∃x0 x1 xr,kl=x0::x1::xr:=by
    match kl,hkll with
    | [],h=>simp at h;omega
    | [x],h=>simp at h;omega
    | x0::x1::xr,_=>exact⟨x0,x1,xr,rfl⟩
   have hb0:=hB x0 (.head _)
   have hlx:∀y:TV,(((x0::x1::xr).map (TV.int .i64)).set 0 y).length=k:=fun y=>by rw[List.length_set,List.length_map,hkll]
   have hk2:2<=k:=by rw[<-hkll];simp
   refine Ak (fun hh=>?_) fun hh=>?_
   ·subst hh
    refine⟨⟨by omega,by rw[hO.rd.lenZ];omega⟩,Ad (hO.rd.ld1 (k:=0) (x:= .int .i64 x0) (by rw[List.length_map,hkll]) rfl) (Ax ⟨⟨by omega,by rw[hO.rd.lenZ];omega⟩,hO.set (by omega) fun st6 hO6 _=>⟨⟨by omega,by rw[hO6.rd.lenZ];omega⟩,Ad (hO6.rd.ld1 (k:=0) (x:= .int .i64 (i64.wrap (x0+1))) (hlx _) rfl) (Ax ⟨⟨by omega,by rw[hO6.rd.lenZ];omega⟩,Ad (hO6.rd.ld1 (k:=1) (x:= .int .i64 x1) (hlx _) rfl) (Ax ?_)⟩)⟩⟩)⟩
    have:=hk st6
    rw[hL]at this
    rw[Ah _ (by omega) (by omega)]
    exact this
   ·subst hh
    refine⟨⟨by omega,by rw[hO.rd.lenZ];omega⟩,Ad (hO.rd.ld1 (k:=0) (x:= .int .i64 x0) (by rw[List.length_map,hkll]) rfl) (Ax ⟨⟨by omega,by rw[hO.rd.lenZ];omega⟩,Ad (hO.rd.ld1 (k:=1) (x:= .int .i64 x1) (by rw[List.length_map,hkll]) rfl) (Ax ?_)⟩)⟩
    have:=hk st3
    rw[hL]at this
    have e:x0+(if false=true then 1 else 0)=x0:=Int.add_zero _
    rw[List.getD_cons_zero,e]at this
    exact this
theorem X3 {L:List Vl} {s0 s1:BA} {r:List BA} {y:Vl} {ks:List Int} (h:Gc (Dg L) (s0::s1::r) []= .ok (y,ks)):∃x,L[s0.2.2.toNat]? =some x/\ks.getD 0 0=s0.2.2/\((x.sc.kind=6/\ks.getD 1 0=s1.2.2)∨(x.sc.kind=7/\∃(j:Nat) (z:Vl),ks.getD 1 0=j/\Ia x.flds s1.2.1 0=some (z,j))):=by
 rw[Gc]at h
 split at h
 ·cases h
 rename_i x k0 hd0
 rw[Gc]at h
 split at h
 ·cases h
 rename_i z k1 hd1
 obtain⟨tl,rfl,_⟩:=Td h
 rcases MP hd0 with⟨_,_,rfl,hx⟩ | ⟨hk,_⟩
 ·refine⟨x,hx,rfl,?_⟩
  rcases MP hd1 with⟨g1,_,rfl,_⟩ | ⟨g1,_,j,rfl,g2⟩
  ·exact .inl ⟨g1,rfl⟩
  ·exact .inr ⟨g1,j,z,rfl,g2⟩
 ·have hk:(6:Int)=7:=hk
  exact absurd hk (by decide)
theorem Ua {n:Nd} {cs:List TV} (hc:NdC n cs) (hl:Ce n<=100000000000000) (hcn:BZ n<=1000000000000000) (hz:Ef n a q hd->(Dg (CK q hd ty (A3 (CS n)))).sz<=2000000) {p:TV} {ss:List BA} (hp:Hc p ss)
  {K:TV->Int->St->Prop} (hk:∀st',K (locT (Hs n a q hd ty ss)) (locE (Hs n a q hd ty ss)) st'):
  CallT PR CC [.agg cs,.agg [.int .u8 a,.int .u8 q,.bool hd,.bool ty],p] [.one .tv,.one (.int .i64)] st K:=by
 have hc0:=hc
 obtain⟨kd,t0,t1,kv,tl,rfl,_⟩:=hc.five
 have err:∀e,Hs n a q hd ty ss= .error e->∀st',K .nilSlice e st':=fun e he st'=>by have:=hk st';rwa [he]at this
 refine HN kd t0 t1 kv tl a q hd ty p st K (Xi hc hl hcn (fun st1 e1 ho=>Ak (fun h=>by cases h) fun _=>?_) fun st1 e1 ho=>Ak (fun _=>err 1 ?_ _) fun h=>by cases h)
 case refine_2=>
  unfold Hs
  rw[if_pos fun h=>ho h.1]
 refine SH hp (fun hok st2 e2=>Ak (fun h=>by cases h) fun _=>?_) fun hok st2 e2=>Ak (fun _=>err 1 ?_ _) fun h=>by cases h
 case refine_2=>
  unfold Hs
  rw[if_pos fun h=>hok h.2]
 have hz:=hz ho
 have hL:Hs n a q hd ty ss=match Gc (Dg (CK q hd ty (A3 (CS n)))) ss []with
   | .error e=> .error e
   | .ok (_,ks)=>if ss.length<2 then .error 26 else .ok (ks.getD 0 0+(if hd then 1 else 0),ks.getD 1 0):=by
  unfold Hs
  rw[if_neg fun h=>h ⟨ho,hok⟩]
 obtain⟨rs,W,rfl,hT⟩:=Mx ho
 obtain⟨W',okR,_⟩:=rows_of ho.2
 replace hL:Hs (.mk 1 [] [] rs []) a q hd ty ss=match Gc (Dg (CK q hd ty (A3 rs))) ss []with
   | .error e=> .error e
   | .ok (_,ks)=>if ss.length<2 then .error 26 else .ok (ks.getD 0 0+(if hd then 1 else 0),ks.getD 1 0):=hL
 replace hz:(Dg (CK q hd ty (A3 rs))).sz<=2000000:=hz
 refine gOf_ok hc0 hT fun u xs st3 e3 hu hx=>?_
 have hv:=NI hu hx
 refine rGet_ok hp hok hv hz (fun e st4 he hne e4=>Ab (BK rfl rfl rfl) (Aa (fun _=>err e (by rw[hL,he]) _) fun g=>absurd hne g)) fun k1 b1 b2 s1 k2 k3 k4 k5 k6 s2 u1 u2 u3 st4 x ks hg on e4=>Ab on (Aa (fun g=>absurd rfl g) fun _=>Ab (Rd.isSl hp) ?_)
 rw[hg]at hL
 replace hL:Hs (.mk 1 [] [] rs []) a q hd ty ss=if ss.length<2 then .error 26 else .ok (ks.getD 0 0+(if hd then 1 else 0),ks.getD 1 0):=hL
 rw[Rd.lenS hp]
 refine Aa (fun g1=>err 26 (by rw[hL,if_pos (by omega)]) _) fun g1=>?_
 rw[if_neg (by omega)]at hL
 obtain⟨s0,s1',r,rfl⟩:∃s0 s1 r,ss=s0::s1::r:=by
  match ss,g1 with
  | [],h=>simp at h
  | [x],h=>simp at h
  | x0::x1::xr,_=>exact⟨x0,x1,xr,rfl⟩
 obtain⟨y,hy,h0,h1⟩:=X3 hg
 have hmem:=List.mem_of_getElem? hy
 have hs0:=hok.2 s0 (.head _)
 have l2:∀{f:Int->Prop} {stx:St} {i:Int} {k:Nat} {s:BA},i=k->(s0::s1'::r)[k]? =some s->f s.2.2->(0<=i/\i<(lenZ 3 p:Int))/\need (TVF.isPtr (ixT 3 p (Int.toNat i))) (Ag (Ac stx [] (.t (Ao (ixT 3 p (Int.toNat i)) 2)) 0) fun x=>Af (.int .i64) x f):=fun hi hs hf=>fl3 hp hi hs (by decide) (x:= .int .i64 _) rfl (Ax hf)
 refine Ak (fun hh=>?_) fun hh=>?_
 ·have hh:hd=false:=by simpa using hh
  subst hh
  rcases h1 with⟨_,h1⟩ | ⟨h7,_⟩
  ·refine l2 (k:=0) rfl rfl (l2 (k:=1) rfl rfl ?_)
   have:=hk st4
   rw[hL,h0,h1]at this
   have e:s0.2.2+(if false=true then 1 else 0)=s0.2.2:=Int.add_zero _
   rw[e]at this
   exact this
  ·rcases Sg hmem with⟨_,r',_,rfl⟩ | ⟨h,_⟩
   ·have h7:(6:Int)=7:=h7
    exact absurd h7 (by decide)
   ·cases h
 ·have hh:hd=true:=by cases hd;exact absurd hh (by decide);rfl
  subst hh
  obtain⟨hrow,t,r',hraw,_,hyv,hkeys⟩:=okR.keys y hmem
  rcases h1 with⟨h6,_⟩ | ⟨_,j,z,h1,hkey⟩
  ·rw[hyv]at h6
   have h6:(7:Int)=6:=h6
   exact absurd h6 (by decide)
  obtain⟨j',dd,g2,g3,g4,_,g6⟩:=Hw hkey
  have hj':j=j':=by omega
  subst hj'
  have hcols:Pb (.mk 1 [] [] rs []) a q true=y.flds.map Fd.key:=by
   unfold Pb
   rw[if_pos ho,if_pos rfl,hkeys]
   cases rs with
   | nil=>cases hraw
   | cons r0 rs'=>
    have hraw':A3 (r0::rs')=(As r0).map AB::A3 rs':=rfl
    rw[hraw']at hraw
    cases hraw
    show(As r0).map (fun k=>txt q (AB k))=_
    rw[List.map_map];rfl
  have hylen:y.flds.length<=2000000:=by
   have g5:=R8 hmem
   obtain⟨ys,yl,yf⟩:=y
   have:=szs ys yl yf
   have:=Fa yf
   have g7:=szs {scZ with kind:=6} (CK q true ty (A3 rs)) []
   have g7:(Dg (CK q true ty (A3 rs))).sz=_:=g7
   show yf.length<=_
   omega
  have hjl:=(List.getElem?_eq_some_iff.1 g3).1
  refine Rx hc0 hl hcn fun v st5 e5 hcol=>?_
  rw[hcols]at hcol
  refine⟨fun i p1 l1 st'=>p=p1/\v=l1/\∃k:Nat,i=k/\k<=j,fun i _ _ _=>(j-i).toNat,⟨rfl,rfl,0,rfl,Nat.zero_le _⟩,?_⟩
  rintro _ _ _ st6 ⟨rfl,rfl,k,rfl,hkj⟩
  obtain⟨dk,hdk⟩:∃d,y.flds[k]? =some d:=⟨_,List.getElem?_eq_getElem (by omega)⟩
  refine⟨⟨by omega,by rw[Rd.lenZ hcol,List.length_map];omega⟩,Ad (JR.ld hcol st6 (a:=dk.key) (by rw[Int.toNat_natCast,List.getElem?_map,hdk];rfl)) (Am ?_)⟩
  refine fl3 hp (k:=1) rfl rfl (by decide) (x:= .str s1'.2.1) rfl ?_
  show Af .str (.str s1'.2.1) _
  refine Am (Aa (fun g7=>?_) fun g7=>?_)
  ·have hne:k≠j:=fun e=>by
    subst e
    rw[g3]at hdk
    cases hdk
    exact g7 g4
   rw[Ah _ (by omega) (by omega)]
   exact⟨⟨rfl,rfl,k+1,by omega,by omega⟩,by dsimp only;omega⟩
  ·have hkj2:k=j:=Decidable.byContradiction fun hne=>g6 k dk (by omega) hdk (Decidable.not_not.1 g7)
   subst hkj2
   refine l2 (k:=0) rfl rfl ?_
   have hb:0<=s0.2.2/\s0.2.2<=65536∨s0.2.2=0:=by
    cases hb:s0.1 with
    | true=>exact .inl (hs0.1 hb).2
    | false=>exact .inr (hs0.2 hb).1
   rw[Ah _ (by omega) (by omega)]
   have:=hk st6
   rw[hL,h0,h1]at this
   exact this
end
theorem llocatesG_ok {n:Nd} {cs:List TV} (hc:NdC n cs) {p:TV} {ss:List BA} (hp:Hc p ss) {a q:Int} {hd ty:Bool} {st:St} {K:Bool->St->Prop} (hk:∀st',K true st'):
  CallT PR fn_datakitlaw28_GridLocates [.agg cs,.agg [.int .u8 a,.int .u8 q,.bool hd,.bool ty],p] [.one .bool] st K:=by
 obtain⟨kd,t0,t1,kv,tl,rfl,_⟩:=hc.five
 refine FF kd t0 t1 kv tl a q hd ty p st K (Xb hc (Ak (fun _=>ML fun _ _=>hk _) fun g=>Ab (Rd.isSl hp) (Aa (fun _=>ML fun _ _=>hk _) fun _=>?_)))
 have g:0<=Ej n 600 10 1500:=by simpa using g
 have hcnt:=P8 n (left:=600) (d:=10) (long:=1500) (by decide) g
 have hlen:=P6 n (left:=600) (d:=10) (long:=1500) (by decide) g
 rw[show Ej n 600 10 ((1500:Nat):Int)=Ej n 600 10 1500 from rfl]at hlen
 have hn1:Ce n<=100000000000000:=by omega
 have hn2:BZ n<=1000000000000000:=by omega
 have hz:Ef n a q hd->(Dg (CK q hd ty (A3 (CS n)))).sz<=2000000:=fun ho=>by
  obtain⟨rs,hrs,_,_,_,_,_,hr,_⟩:=Cy ho.2
  have hnl:=CP n
  have hck:=JM ho.1
  obtain⟨h1,_,_,h4⟩:=SN hr (Nat.zero_le _)
  subst hrs
  have h1:Lr (A3 rs)+0<=(BF (.mk 1 [] [] rs [])).length:=h1
  have h4:rs.length+0<=(BF (.mk 1 [] [] rs [])).length:=h4
  have h5:=Tp rs
  have h6:BZ (.mk 1 [] [] rs [])=1+Gv rs:=by simp only[BZ]
  have:=val_sz (ty:=ty) ho rfl (by omega)
  show(Dg (CK q hd ty (A3 rs))).sz<=_
  omega
 refine UI (ty:=ty) hc hn1 hn2 hz hp fun st1=>Ua hc hn1 hn2 hz hp fun st2=>?_
 obtain⟨m,xs,hR,hxs⟩:∃(m:Nat) (xs:List Int),Rd 1 (locT (Hs n a q hd ty ss)) m (xs.map (TV.int .i64))/\xs.length=m/\m<=3:=by
  rcases Hs n a q hd ty ss with e | ⟨x,y⟩
  ·exact⟨0,[],.inl ⟨rfl,rfl,rfl⟩,rfl,by decide⟩
  ·exact⟨3,[x,y,0],.inr ⟨.full,rfl⟩,rfl,by decide⟩
 generalize locT (Hs n a q hd ty ss)=v at hR
 refine Ab (Rd.isSl hR) (Ab (Rd.isSl hR) (Aa (fun g=>absurd rfl g) fun _=>Aa (fun g=>absurd rfl g) fun _=>?_))
 refine⟨fun i x y st'=>v=x/\v=y/\∃k:Nat,i=k/\k<=m,fun i _ _ _=>(m-i).toNat,⟨rfl,rfl,0,rfl,Nat.zero_le _⟩,?_⟩
 rintro _ _ _ st3 ⟨rfl,rfl,k,rfl,hkm⟩
 refine Ab (Rd.isSl hR) (Aa (fun g=>?_) fun g=>ML fun _ _=>hk _)
 rw[Rd.lenS hR]at g
 obtain⟨x,hx⟩:∃x,xs[k]? =some x:=⟨_,List.getElem?_eq_getElem (by omega)⟩
 have hld:Ac st3 [] (.t (ixT 1 v k)) 0=some (.int .i64 x):=(SlR.of_rd (st:=st3) hR).ld1 (by rw[List.length_map];exact hxs.1) (by rw[List.getElem?_map,hx];rfl)
 refine⟨⟨by omega,by rw[Rd.lenZ hR];omega⟩,Ad hld (Ax ⟨⟨by omega,by rw[Rd.lenZ hR];omega⟩,Ad hld (Ax (Aa (fun g=>absurd rfl g) fun _=>?_))⟩)⟩
 rw[Ah _ (by omega) (by omega)]
 exact⟨⟨rfl,rfl,k+1,by omega,by omega⟩,by dsimp only;omega⟩
end
section
theorem SlS.kids {v:TV} (h:SlS 5 (fun tv=>∃nd,NdC nd tv) v):∃ks xs,Rd 5 v ks.length xs/\AU ks xs:=by
 rcases h with rfl | ⟨cks,rfl,h⟩
 ·exact⟨[],[],.inl ⟨rfl,rfl,rfl⟩,by unfold AU;rfl⟩
 ·have:∃ks:List Nd,ks.length=cks.length/\AU ks cks.flatten:=by
   induction cks with
   | nil=>exact⟨[],rfl,by unfold AU;rfl⟩
   | cons c r ih=>
    obtain⟨ks,h1,h2⟩:=ih (fun ck hk=>h ck (.tail _ hk))
    obtain⟨_,nd,hn⟩:=h c (.head _)
    exact⟨nd::ks,by simp[h1],by unfold AU;exact⟨c,_,by simp,hn,h2⟩⟩
  obtain⟨ks,h1,h2⟩:=this
  exact⟨ks,_,.inr ⟨.non,by rw[h1]⟩,h2⟩
def nodeS:List (List TV->Prop):=[flatIs [.int .i64],flatIs [.str],flatIs [.str],fun tv=>∃v,tv=[v]/\SlS 5 (fun tv=>∃nd,NdC nd tv) v,flatIs [.str]]
theorem each_node {tv:List TV} (h:Po nodeS tv):∃nd,NdC nd tv:=by
 obtain⟨_,_,rfl,⟨k,_,h1,_,_⟩,_,_,rfl,⟨l,_,h2,_,_⟩,_,_,rfl,⟨t,_,h3,_,_⟩,_,_,rfl,⟨v,h4,hs⟩,_,_,rfl,⟨tl,_,h5,_,_⟩,rfl⟩:=h
 simp only[List.cons.injEq]at h1 h2 h3 h4 h5
 obtain⟨rfl,_⟩:=h1
 obtain⟨rfl,_⟩:=h2
 obtain⟨rfl,_⟩:=h3
 obtain⟨rfl,_⟩:=h4
 obtain⟨rfl,_⟩:=h5
 obtain⟨ks,xs,h6,h7⟩:=hs.kids
 exact⟨.mk k l t ks tl,by unfold NdC;exact⟨_,xs,rfl,h6,h7⟩⟩
def IsNode (v:TV):Prop:=∃nd cs,v= .agg cs/\NdC nd cs
section
variable {H:Type} {enc:TypeId×Value->H} {P:Program} {w:World} {base b0:Nat} {held:Bool}
theorem open_node {t:TypeId} {fs:Array Field} {v:Value} {d:DataW H} {p:List MemPlace} (ht:P.underlying t=some (.struct fs)) (hop:∀n,Op enc P w base held n 5 (fun tv=>∃nd,NdC nd tv) t)
  (hval:Value.okWide P w .any b0 t v) (h:DataW.Trod enc P w base (fun _=>true) held t v d p):∃tv,Rel (Ghost.start w) w tv v/\IsNode tv:=by
 simp only[Value.okWide,ht]at hval
 obtain⟨vs,rfl,_,_⟩:=hval
 obtain⟨n,hn⟩:=h
 obtain⟨cs,hr,_,nd,hnd⟩:=(hop n).2 _ _ hn
 have:=Rel.agg cs vs.toList hr.1 hr.2
 rw[Array.toArray_toList]at this
 exact⟨_,this,nd,cs,rfl,hnd⟩
end
end
section
def stepS:List (List TV->Prop):=[flatIs [.bool],flatIs [.str],flatIs [.int .i64]]
theorem WM {tv:List TV} (h:Po stepS tv):∃s:BA,tv=Fv s:=by
 obtain⟨_,_,rfl,⟨b,_,h1,_,_⟩,_,_,rfl,⟨l,_,h2,_,_⟩,_,_,rfl,⟨n,_,h3,_,_⟩,rfl⟩:=h
 simp only[List.cons.injEq]at h1 h2 h3
 obtain⟨rfl,_⟩:=h1
 obtain⟨rfl,_⟩:=h2
 obtain⟨rfl,_⟩:=h3
 exact⟨(b,l,n),rfl⟩
theorem SlS.steps {v:TV} (h:SlS 3 (Po stepS) v):∃ss,Hc v ss:=by
 rcases h with rfl | ⟨cks,rfl,h⟩
 ·exact⟨[],.inl ⟨rfl,rfl,rfl⟩⟩
 ·have:∃ss:List BA,ss.length=cks.length/\cks.flatten=ss.flatMap Fv:=by
   induction cks with
   | nil=>exact⟨[],rfl,rfl⟩
   | cons c r ih=>
    obtain⟨ss,h1,h2⟩:=ih (fun ck hk=>h ck (.tail _ hk))
    obtain⟨s,rfl⟩:=WM (h c (.head _)).2
    exact⟨s::ss,by simp[h1],by rw[List.flatten_cons,h2,List.flatMap_cons]⟩
  obtain⟨ss,h1,h2⟩:=this
  exact⟨ss,.inr ⟨.non,by rw[h1,h2]⟩⟩
def IsSteps (v:TV):Prop:=∃ss,Hc v ss
section
variable {H:Type} {enc:TypeId×Value->H} {P:Program} {w:World} {base b0:Nat} {held:Bool}
theorem open_steps {t e:TypeId} {v:Value} {d:DataW H} {p:List MemPlace} (ht:P.underlying t=some (.slice e)) (hop:∀n,Op enc P w base held n 1 (fun tv=>∃v,tv=[v]/\SlS 3 (Po stepS) v) t)
  (hval:Value.okWide P w .any b0 t v) (h:DataW.Trod enc P w base (fun _=>true) held t v d p):∃tv,Rel (Ghost.start w) w tv v/\IsSteps tv:=by
 obtain⟨n,hn⟩:=h
 have hv:v.cells.toList=[v]:=by
  simp only[Value.okWide,ht,Cell.okWide,Cell.ok]at hval
  split at hval<;>first | rfl | (simp_all) | exact hval.elim
 rw[hv]at hn
 obtain⟨cs,hr,_,u,rfl,hs⟩:=(hop n).2 _ _ hn
 obtain⟨ss,hg⟩:=hs.steps
 exact⟨u,hr.2 0 (by simp),ss,hg⟩
end
end
end Go.TVF
