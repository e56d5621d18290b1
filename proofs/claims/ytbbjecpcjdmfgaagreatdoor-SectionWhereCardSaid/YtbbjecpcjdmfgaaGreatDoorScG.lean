/- What the laws below rest on: a framework for Go programs, and contracts of the functions that they reach. -/
import Derived.Test.YtbbjecpcjdmfgaaGreatDoorScF
set_option maxRecDepth 20000
set_option linter.unusedVariables false
set_option linter.unusedSimpArgs false
namespace Go.TVF
open Go.IntKind(i64 u8)
open Go Go.Proofs
section
theorem Q4 (st st':St):C4 st st' .nilSlice .nilSlice:=fun g' w' u _ h=>by cases h;exact .nilSlice
theorem PF {st st':St} {sz n:Nat} {tip:Tip} {xs:List TV} (hx:BQ st st' xs xs):C4 st st' (.list sz tip n xs) (.list sz tip n xs):=fun g' w' u s h=>by
 cases h with
 | list _ _ _ _ b o cap us hl hn hc hr ht=>
  refine .list sz tip n xs b o cap us hl hn (fun i hi=>⟨.inl (hc i hi).1,(hc i hi).2⟩) (fun i hi=>?_) ht
  have hg:∀i,i<xs.length->((List.range xs.length).map us).getD i Go.undef=us i:=fun i hi=>by
   rw[List.getD_eq_getElem?_getD,List.getElem?_map,List.getElem?_range hi];rfl
  have:=(hx.2 g' w' s ((List.range xs.length).map us) ⟨by simp,fun i hi=>by rw[hg i hi];exact hr i hi⟩).2 i hi
  rw[hg i hi]at this
  exact this
 | listE _ _ a ht=>exact .listE sz tip a ht
theorem El {st st':St} {sz n:Nat} {u:TV} {xs:List TV} (h:Rd sz u n xs) (hx:BQ st st' xs xs):C4 st st' u u:=by
 rcases h with⟨rfl,_⟩ | ⟨tip,rfl⟩
 ·exact Q4 _ _
 ·exact PF hx
mutual
theorem VlR.setl {st st':St}:∀{v:Vl} {cs:List TV},VlR St.zero v cs->BQ st st' cs cs
 | .mk s l f,cs,h=>by
  unfold VlR at h
  obtain⟨ub,ul,uf,xl,xf,rfl,h1,h2,h3,h4,h5⟩:=h
  have c:∀{x x':TV} {l l':List TV},C4 st st' x x'->BQ st st' l l'->BQ st st' (x::l) (x'::l'):=fun h k=>(BQ.one h).app k
  exact c (AG _ _ _ _) (c (Cy _ _ _) (c (Cy _ _ _) (c (Ci _ _ _) (c (AG _ _ _ _) (c (AG _ _ _ _) (c (AG _ _ _ _) (c (AG _ _ _ _) (c (AG _ _ _ _) (c (Ci _ _ _)
   (c (El h1.zero (BQ.bytes _ _ _)) (c (El h2.zero (VsR.setl h3)) (c (El h4.zero (FsR.setl h5)) (BQ.nil _ _)))))))))))))
theorem VsR.setl {st st':St}:∀{l:List Vl} {cs:List TV},VsR St.zero l cs->BQ st st' cs cs
 | [],cs,h=>by unfold VsR at h;subst h;exact BQ.nil _ _
 | v::r,cs,h=>by
  unfold VsR at h
  obtain⟨a,b,rfl,h1,h2⟩:=h
  exact(VlR.setl h1).app (VsR.setl h2)
theorem FdR.setl {st st':St}:∀{d:Fd} {cs:List TV},FdR St.zero d cs->BQ st st' cs cs
 | .mk k v,cs,h=>by
  unfold FdR at h
  obtain⟨c,rfl,h1⟩:=h
  exact(BQ.one (Ci _ _ _)).app (VlR.setl h1)
theorem FsR.setl {st st':St}:∀{l:List Fd} {cs:List TV},FsR St.zero l cs->BQ st st' cs cs
 | [],cs,h=>by unfold FsR at h;subst h;exact BQ.nil _ _
 | d::r,cs,h=>by
  unfold FsR at h
  obtain⟨a,b,rfl,h1,h2⟩:=h
  exact(FdR.setl h1).app (FsR.setl h2)
end
def sv:Stp->AT
 | .key k=>(false,k,0)
 | .idx i=>(true,[],(i:Int))
def EN (p:TV) (q:List Stp):Prop:=BA p (q.map sv)
theorem EN.isSl {p:TV} {q:List Stp} (h:EN p q):isSl p=true:=Rd.isSl h
theorem EN.lenS {p:TV} {q:List Stp} (h:EN p q):lenS p=q.length:=by have:=Rd.lenS h;rw[List.length_map]at this;exact this
theorem sv_at {q:List Stp} {k:Nat} {s:Stp} (h:q[k]? =some s):(q.map sv)[k]? =some (sv s):=by rw[List.getElem?_map,h];rfl
theorem NZ:∀(f:List Fd) (k:B8),I5 k f=if (E4 f k).2=true then some (E4 f k).1 else none
 | [],k=>rfl
 | .mk k' v::r,k=>by
  unfold I5 E4
  by_cases h:k'=k
  ·rw[if_pos h];simp[Fd.key,h,Fd.val]
  ·rw[if_neg h,NZ r k]
   have:List.find? (fun d=>decide (Fd.key d=k)) (.mk k' v::r)=List.find? (fun d=>decide (Fd.key d=k)) r:=List.find?_cons_of_neg (by rw[decide_eq_true_eq];exact h)
   rw[this];rfl
theorem Rc {s:Sc} {l:List Vl} {f:List Fd} (hN:(Vl.mk s l f).sz<=2000000) {key:B8} {st:St} {cs:List TV}
  {K:Int->Bool->Bool->B8->Int->Int->Int->Int->Int->B8->TV->TV->TV->Bool->St->Prop} (h:VlR St.zero (.mk s l f) cs)
  (hk:∀ub ul uf w b,E4 f key=(w,b)->VlR St.zero w (Aq w.sc ub ul uf)->Ah ub=true->Ah ul=true->Ah uf=true->K w.sc.kind w.sc.b w.sc.neg w.sc.dg w.sc.ex w.sc.tk w.sc.td w.sc.tn w.sc.tz w.sc.text ub ul uf b st):
  CallT PR CT [.agg cs,.str key] [.agg RX,.one .bool] st K:=by
 have hsz:=szs s l f
 have hfl:=Bq f
 have hke:=BS st
 obtain⟨ub,ul,uf,xl,xf,rfl,h1,h2,h3,h4,h5⟩:=VlR.cells h
 refine HC _ _ _ _ _ _ _ _ _ _ _ _ _ key st K ⟨fun i y k1 b1 b2 s1 k2 k3 k4 k5 k6 s2 v1 v2 v3 k7 b3 b4 s3 k8 k9 k10 k11 k12 s4 v4 v5 v6 st'=>key=y/\uf=v3/\st=st'/\∃k:Nat,i=k/\k<=f.length/\E4 f key=E4 (f.drop k) key,
  fun i _ _ _ _ _ _ _ _ _ _ _ _ _ _ _ _ _ _ _ _ _ _ _ _ _ _ _ _=>(f.length-i).toNat,⟨rfl,rfl,rfl,0,rfl,Nat.zero_le _,rfl⟩,?_⟩
 rintro _ _ k1 b1 b2 s1 k2 k3 k4 k5 k6 s2 v1 v2 _ k7 b3 b4 s3 k8 k9 k10 k11 k12 s4 v4 v5 v6 _ ⟨rfl,rfl,rfl,k,rfl,hkf,hE⟩
 refine Aa h4.isSl (Ab (fun g=>?_) fun g=>?_)
 ·rw[h4.lenS]at g
  have gd:f[k]? =some f[k]:=List.getElem?_eq_getElem (by omega)
  generalize f[k]=d at gd
  refine K9 hke h4 h5 rfl gd (Ab (fun g3=>?_) fun g3=>?_)
  ·refine LW hke h4 h5 rfl (by omega) fun k1 s1 l1 f1 ub1 ul1 uf1 gw hw on=>Aa on ?_
   rw[gd]at gw
   have:=Option.some.inj gw
   subst this
   obtain⟨_,_,_,_,_,hc,w1,w2,_,w4,_⟩:=VlR.cells hw
   cases hc
   exact hk ub1 ul1 uf1 (.mk s1 l1 f1) true (UD gd g3 hE) hw w1.one w2.one w4.one
  ·rw[Am _ (by omega) (by omega)]
   exact⟨⟨rfl,rfl,rfl,k+1,by omega,by omega,Tl gd g3 hE⟩,by dsimp only;omega⟩
 ·rw[h4.lenS]at g
  have hkk:k=f.length:=by omega
  rw[hkk,List.drop_length]at hE
  exact hk .nilSlice .nilSlice .nilSlice vlZ false hE (R5 _ scZ rfl) rfl rfl rfl
theorem UE {w:Vl} {q:List Stp} {k:Nat} {s:Stp} (h:q[k]? =some s):D4 w (q.drop k)=match s with | .idx i=>(match w.list[i]? with | some u=>D4 u (q.drop (k+1)) | none=>none) | .key y=>(match I5 y w.flds with | some u=>D4 u (q.drop (k+1)) | none=>none):=by
 rw[Bt h]
 obtain⟨s',l,f⟩:=w
 cases s with
 | idx i=>rw[D4];rfl
 | key y=>rw[D4];rfl
theorem OS {w:Vl} {cs:List TV} {p:TV} {q:List Stp} {st:St} (h:VlR St.zero w cs) (hN:w.sz<=2000000) (hp:EN p q) (hq:q.length<=1000000) (hi:∀i,.idx i∈q->i<=2000000)
  {K:Int->Bool->Bool->B8->Int->Int->Int->Int->Int->B8->TV->TV->TV->Bool->St->Prop}
  (hk1:∀x ub ul uf,D4 w q=some x->VlR St.zero x (Aq x.sc ub ul uf)->List.all (Aq x.sc ub ul uf) Ah=true->K x.sc.kind x.sc.b x.sc.neg x.sc.dg x.sc.ex x.sc.tk x.sc.td x.sc.tn x.sc.tz x.sc.text ub ul uf true st)
  (hk2:D4 w q=none->K 0 false false [] 0 0 0 0 0 [] .nilSlice .nilSlice .nilSlice false st):
  CallT PR Ce [.agg cs,p] [.agg RX,.one .bool] st K:=by
 have h0:=h
 obtain⟨sc,l,f⟩:=w
 obtain⟨ub,ul,uf,xl,xf,rfl,_⟩:=VlR.cells h
 refine HR _ _ _ _ _ _ _ _ _ _ _ _ _ p st K ⟨fun i u n1 b1 b2 s1 n2 n3 n4 n5 n6 s2 v1 v2 v3 m1 c1 c2 t1 m2 m3 m4 m5 m6 t2 w1 w2 w3 st'=>p=u/\st=st'/\∃(k:Nat) (w:Vl),i=k/\k<=q.length/\D4 (.mk sc l f) q=D4 w (q.drop k)/\w.sz<=2000000/\VlR St.zero w [.int .i64 n1,.bool b1,.bool b2,.str s1,.int .i64 n2,.int .i64 n3,.int .i64 n4,.int .i64 n5,.int .i64 n6,.str s2,v1,v2,v3],
  fun i _ _ _ _ _ _ _ _ _ _ _ _ _ _ _ _ _ _ _ _ _ _ _ _ _ _ _ _=>(q.length-i).toNat,⟨rfl,rfl,0,.mk sc l f,rfl,Nat.zero_le _,rfl,hN,h0⟩,?_⟩
 rintro _ _ n1 b1 b2 s1 n2 n3 n4 n5 n6 s2 v1 v2 v3 m1 c1 c2 t1 m2 m3 m4 m5 m6 t2 w1 w2 w3 _ ⟨rfl,rfl,k,w,rfl,hkl,hE,hz,hw⟩
 refine Aa hp.isSl ?_
 rw[hp.lenS]
 obtain⟨sw,lw,fw⟩:=w
 have hw0:=hw
 obtain⟨_,_,_,xl',xf',hc,z1,z2,z3,z4,z5⟩:=VlR.cells hw
 cases hc
 have hsz:=szs sw lw fw
 have hll:=Cn lw
 refine Ab (fun g=>?_) fun g=>?_
 ·obtain⟨s,hs⟩:∃s,q[k]? =some s:=⟨_,List.getElem?_eq_getElem (by omega)⟩
  have hsv:=sv_at hs
  rw[UE hs]at hE
  refine fl3 hp rfl hsv (by decide) (x:= .bool (sv s).1) rfl ?_
  cases s with
  | idx i=>
   have hib:=hi i (List.mem_of_getElem? hs)
   refine fl3 hp rfl hsv (by decide) (x:= .int .i64 i) rfl (AV (Aa z2.isSl ?_))
   rw[z2.lenS]
   refine Ab (fun g1=>?_) fun g1=>?_
   ·refine hk2 ?_
    have:lw[i]? =none:=List.getElem?_eq_none (by omega)
    simp only[Vl.list,this]at hE
    exact hE
   ·refine fl3 hp rfl hsv (by decide) (x:= .int .i64 i) rfl (AV ?_)
    refine Nl (BS _) z2 z3 rfl (by omega) fun s' l' f' ub1 ul1 uf1 gw hw1 on=>Aa on ?_
    have hwsz:=DL gw
    rw[Am _ (by omega) (by omega)]
    refine⟨⟨rfl,rfl,k+1,.mk s' l' f',by omega,by omega,?_,by omega,hw1⟩,by dsimp only;omega⟩
    simp only[Vl.list,gw]at hE
    exact hE
  | key y=>
   refine fl3 hp rfl hsv (by decide) (x:= .str y) rfl (Ct ?_)
   refine Rc hz hw0 fun ub1 ul1 uf1 w b hf hw1 o1 o2 o3=>Aa (Bi o1 o2 o3) ?_
   have hg:=NZ fw y
   rw[hf]at hg
   simp only at hg
   simp only[Vl.flds,hg]at hE
   refine As (fun hb=>?_) fun hb=>Aa (Bi o1 o2 o3) ?_
   ·have hb:b=false:=by simpa using hb
    subst hb
    exact hk2 (by simpa using hE)
   ·have hb:b=true:=by simpa using hb
    subst hb
    rw[Am _ (by omega) (by omega)]
    refine⟨⟨rfl,rfl,k+1,w,by omega,by omega,by simpa using hE,?_,hw1⟩,by dsimp only;omega⟩
    have:w∈fw.map Fd.val:=by
     unfold E4 at hf
     cases hq2:List.find? (fun d=>decide (d.key=y)) fw with
     | none=>rw[hq2]at hf;cases hf
     | some d=>
      rw[hq2]at hf
      cases hf
      exact List.mem_map.2 ⟨d,List.mem_of_find?_eq_some hq2,rfl⟩
    obtain⟨d,hd,rfl⟩:=List.mem_map.1 this
    have hdz:d.sz<=Bv fw:=Ip hd
    have:d.val.sz<=d.sz:=by cases d;rw[szd];simp only[Fd.val];omega
    omega
 ·have hkk:k=q.length:=by omega
  rw[hkk,List.drop_length]at hE
  rw[D4]at hE
  refine Aa (Bi z1.one z2.one z4.one) (hk1 (.mk sw lw fw) _ _ _ hE hw0 (Bi z1.one z2.one z4.one))
end
theorem N6 {T sz bytes:Nat} {st:St} {k:Nat} {ys:List TV} {K:TV->St->Prop} (hy:ys.length=k*sz) (hby:k*bytes<=140737488355328)
  (hK:∀u' st' bs',Bx st' sz u' k ys bs'->Aj st st'->(∀x,x∈bs'->st.nb<=x)->K u' st'):Gu T sz bytes (.list sz .full 0 []) k ys st K:=by
 rcases Nat.eq_zero_or_pos k with rfl | h0
 ·have:ys=[]:=List.eq_nil_of_length_eq_zero (by omega)
  subst this
  simp only[Gu,Nat.beq_refl]
  exact⟨by simp,hK _ _ [] (.inl ⟨rfl,rfl,rfl,.inr rfl⟩) (Aj.refl _) fun x hx=>by cases hx⟩
 ·refine Fm (u:= .list sz .full 0 []) (n:=0) (xs:=[]) (bs:=[]) (.inl ⟨rfl,rfl,rfl,.inr rfl⟩) h0 hy (by rw[Nat.zero_add];exact hby) fun u' st' bs' h1 h2 h3=>?_
  have e:Aj st st':=⟨h2.nb,fun i hi=>h2.box i hi (by simp),h2.nt,h2.live,h2.ty,h2.bt⟩
  have:=hK u' st' bs'
  rw[Nat.zero_add,List.nil_append]at h1
  refine this h1 e fun x hx=>?_
  rcases h3 with⟨h4,h5⟩ | h4
  ·exact absurd rfl h5
  ·rw[h4]at hx;rw[List.mem_singleton.1 hx];exact Nat.le_refl _
def C6:Vl->List Stp->Prop
 | _,[]=>True
 | .mk s l f,.idx i::p=>i<=l.length/\C6 ((if i=l.length then l++[vlO]else l).getD i vlO) p
 | .mk s l f,.key k::p=>C6 ((I5 k f).getD vlO) p
theorem VsR.mid:∀{l:List Vl} {xs:List TV} {i:Nat} {v:Vl},VsR St.zero l xs->l[i]? =some v->∃A c B,xs=A++c++B/\A.length=i*13/\c.length=13/\VlR St.zero v c/\∀x cs,VlR St.zero x cs->VsR St.zero (l.set i x) (A++cs++B)
 | [],xs,i,v,h,hi=>by simp at hi
 | w::r,xs,i,v,h,hi=>by
  unfold VsR at h
  obtain⟨a,b,rfl,h1,h2⟩:=h
  cases i with
  | zero=>
   simp only[List.getElem?_cons_zero,Option.some.injEq]at hi
   subst hi
   refine⟨[],a,b,rfl,by simp,h1.len,h1,fun x cs hx=>?_⟩
   rw[List.set_cons_zero,List.nil_append]
   unfold VsR
   exact⟨cs,b,rfl,hx,h2⟩
  | succ i=>
   obtain⟨A,c,B,e1,e2,e3,e4,e5⟩:=VsR.mid h2 (by simpa using hi)
   refine⟨a++A,c,B,by rw[e1];simp,by rw[List.length_append,h1.len,e2];omega,e3,e4,fun x cs hx=>?_⟩
   rw[List.set_cons_succ]
   unfold VsR
   exact⟨a,A++cs++B,by simp,h1,e5 x cs hx⟩
theorem FsR.mid:∀{l:List Fd} {xs:List TV} {i:Nat} {k:B8} {v:Vl},FsR St.zero l xs->l[i]? =some (.mk k v)->∃A c B,xs=A++c++B/\A.length=i*14+1/\c.length=13/\VlR St.zero v c/\∀x cs,VlR St.zero x cs->FsR St.zero (l.set i (.mk k x)) (A++cs++B)
 | [],xs,i,k,v,h,hi=>by simp at hi
 | w::r,xs,i,k,v,h,hi=>by
  unfold FsR at h
  obtain⟨a,b,rfl,h1,h2⟩:=h
  cases i with
  | zero=>
   simp only[List.getElem?_cons_zero,Option.some.injEq]at hi
   subst hi
   unfold FdR at h1
   obtain⟨cs0,rfl,h1⟩:=h1
   refine⟨[.str k],cs0,b,rfl,by simp,h1.len,h1,fun x cs hx=>?_⟩
   rw[List.set_cons_zero]
   unfold FsR
   exact⟨.str k::cs,b,rfl,by unfold FdR;exact⟨cs,rfl,hx⟩,h2⟩
  | succ i=>
   obtain⟨A,c,B,e1,e2,e3,e4,e5⟩:=FsR.mid h2 (by simpa using hi)
   refine⟨a++A,c,B,by rw[e1];simp,by rw[List.length_append,h1.len,e2];omega,e3,e4,fun x cs hx=>?_⟩
   rw[List.set_cons_succ]
   unfold FsR
   exact⟨a,A++cs++B,by simp,h1,e5 x cs hx⟩
theorem EN.tail {p:TV} {s:Stp} {r:List Stp} (h:EN p (s::r)):TVF.isLst 3 p=true/\EN (slT 3 .non p (Int.toNat 1) (TVF.lenS p)) r:=by
 have h0:=h
 refine⟨Rd.isLst h,?_⟩
 rcases h with⟨rfl,h1,_⟩ | ⟨tip,rfl⟩
 ·simp at h1
 ·have hl:=Dr ((s::r).map sv)
  refine .inr ⟨.non,?_⟩
  show TV.list 3 .non (((s::r).map sv).length-1) (((((s::r).map sv).flatMap Ca).take (((s::r).map sv).length*3)).drop (1*3))=_
  rw[List.take_of_length_le (by omega)]
  simp only[List.map_cons,List.length_cons,Nat.add_sub_cancel]
  rfl
theorem QR:VlR St.zero vlO [.int .i64 0,.bool false,.bool false,.str [],.int .i64 0,.int .i64 0,.int .i64 0,.int .i64 0,.int .i64 0,.str [],.nilSlice,.nilSlice,.nilSlice]:=by
 unfold vlO VlR
 refine⟨.nilSlice,.nilSlice,.nilSlice,[],[],rfl,.of_rd (.inl ⟨rfl,rfl,rfl⟩),.of_rd (.inl ⟨rfl,rfl,rfl⟩),by unfold VsR;rfl,.of_rd (.inl ⟨rfl,rfl,rfl⟩),by unfold FsR;rfl⟩
theorem I7 {st st':St} {s:Sc} {l:List Vl} {f:List Fd} {ub ul uf:TV} {xl xf:List TV} {bs:List Nat} (h1:SlR St.zero 1 ub s.bytes.length (AR s.bytes)) (h2:Bx st' 13 ul l.length xl bs) (h3:VsR St.zero l xl) (h4:SlR St.zero 14 uf f.length xf) (h5:FsR St.zero f xf) (hb:∀x,x∈bs->st.nb<=x):
  ∃ul',VlR St.zero (.mk s l f) (Aq s ub ul' uf)/\Ah ul'=true/\C4 st st' (.agg (Aq s ub ul uf)) (.agg (Aq s ub ul' uf)):=by
 obtain⟨ul',q1,q2⟩:=h2.settle hb (VsR.setl h3)
 refine⟨ul',?_,q1.one,Jq ?_⟩
 ·unfold VlR
  exact⟨ub,ul',uf,xl,xf,rfl,h1,.of_rd q1,h3,h4,h5⟩
 ·have c:∀{x x':TV} {l l':List TV},C4 st st' x x'->BQ st st' l l'->BQ st st' (x::l) (x'::l'):=fun h k=>(BQ.one h).app k
  exact c (AG _ _ _ _) (c (Cy _ _ _) (c (Cy _ _ _) (c (Ci _ _ _) (c (AG _ _ _ _) (c (AG _ _ _ _) (c (AG _ _ _ _) (c (AG _ _ _ _) (c (AG _ _ _ _) (c (Ci _ _ _)
   (c (El h1.zero (BQ.bytes _ _ _)) (c q2 (c (El h4.zero (FsR.setl h5)) (BQ.nil _ _)))))))))))))
theorem I8 {st st':St} {s:Sc} {l:List Vl} {f:List Fd} {ub ul uf:TV} {xl xf:List TV} {bs:List Nat} (h1:SlR St.zero 1 ub s.bytes.length (AR s.bytes)) (h2:SlR St.zero 13 ul l.length xl) (h3:VsR St.zero l xl) (h4:Bx st' 14 uf f.length xf bs) (h5:FsR St.zero f xf) (hb:∀x,x∈bs->st.nb<=x):
  ∃uf',VlR St.zero (.mk s l f) (Aq s ub ul uf')/\Ah uf'=true/\C4 st st' (.agg (Aq s ub ul uf)) (.agg (Aq s ub ul uf')):=by
 obtain⟨uf',q1,q2⟩:=h4.settle hb (FsR.setl h5)
 refine⟨uf',?_,q1.one,Jq ?_⟩
 ·unfold VlR
  exact⟨ub,ul,uf',xl,xf,rfl,h1,h2,h3,.of_rd q1,h5⟩
 ·have c:∀{x x':TV} {l l':List TV},C4 st st' x x'->BQ st st' l l'->BQ st st' (x::l) (x'::l'):=fun h k=>(BQ.one h).app k
  exact c (AG _ _ _ _) (c (Cy _ _ _) (c (Cy _ _ _) (c (Ci _ _ _) (c (AG _ _ _ _) (c (AG _ _ _ _) (c (AG _ _ _ _) (c (AG _ _ _ _) (c (AG _ _ _ _) (c (Ci _ _ _)
   (c (El h1.zero (BQ.bytes _ _ _)) (c (El h2.zero (VsR.setl h3)) (c q2 (BQ.nil _ _)))))))))))))
theorem ld0 {st:St} {sz n i:Nat} {u:TV} {A c B:List TV} {bs:List Nat} (h:Bx st sz u n (A++c++B) bs) (hA:A.length=i*sz) (hc:0<c.length):Al st [] (.t (ixT sz u i)) 0 c.length=some c:=by
 have:=h.ld (o:=0) (by omega) hc
 rcases h with⟨_,h1,_⟩ | ⟨b,cap,tail,rfl,_⟩
 ·simp only[List.append_eq_nil_iff]at h1
  rw[h1.1.2]at hc
  exact absurd hc (by simp)
 ·exact this
theorem TN {st:St} {sz n i:Nat} {u:TV} {A c B ys:List TV} {bs:List Nat} (h:Bx st sz u n (A++c++B) bs) (hA:A.length=i*sz) (hc:0<c.length) (hy:ys.length=c.length) {k:St->Prop} (hk:∀st',Bx st' sz u n (A++ys++B) bs->StX (·∈bs) st st'->k st'):stB st (ixT sz u i) ys k:=by
 have:=h.store (o:=0) (by omega) hc hy hk
 rcases h with⟨_,h1,_⟩ | ⟨b,cap,tail,rfl,_⟩
 ·simp only[List.append_eq_nil_iff]at h1
  rw[h1.1.2]at hc
  exact absurd hc (by simp)
 ·exact this
theorem Sv:∀{f:List Fd} {k:B8} {i:Nat} {v x:Vl},f[i]? =some (.mk k v)->(∀(j:Nat) d,j<i->f[j]? =some d->d.key≠k)->I5 k f=some v/\J9 k x f=f.set i (.mk k x)
 | [],k,i,v,x,h,_=>by simp at h
 | .mk k' v'::r,k,0,v,x,h,_=>by
  simp only[List.getElem?_cons_zero,Option.some.injEq,Fd.mk.injEq]at h
  obtain⟨rfl,rfl⟩:=h
  rw[I5,if_pos rfl,J9,if_pos rfl,List.set_cons_zero];exact⟨rfl,rfl⟩
 | .mk k' v'::r,k,i+1,v,x,h,hn=>by
  have h0:k'≠k:=hn 0 _ (by omega) rfl
  obtain⟨h1,h2⟩:=Sv (f:=r) (k:=k) (i:=i) (v:=v) (x:=x) (by simpa using h) fun j d hj hd=>hn (j+1) d (by omega) (by simpa using hd)
  rw[I5,if_neg h0,J9,if_neg h0,List.set_cons_succ,h2];exact⟨h1,rfl⟩
theorem Qi:∀{f:List Fd} {k:B8} {x:Vl},(∀(j:Nat) d,f[j]? =some d->d.key≠k)->I5 k f=none/\J9 k x f=f++[.mk k x]
 | [],k,x,_=>⟨rfl,rfl⟩
 | .mk k' v'::r,k,x,hn=>by
  have h0:k'≠k:=hn 0 _ rfl
  obtain⟨h1,h2⟩:=Qi (f:=r) (k:=k) (x:=x) fun j d hd=>hn (j+1) d (by simpa using hd)
  rw[I5,if_neg h0,J9,if_neg h0,h2];exact⟨h1,rfl⟩
theorem Sf {b:Bool} {o:Option TV} {y:TV} (h:need b (Ai o fun x=>x=y)):o=some y:=by
 obtain⟨_,h⟩:=Ak.1 h
 cases o with
 | none=>exact h.elim
 | some x=>exact congrArg some h
theorem Cx {x y:Prop} (h:x):BIf true x y:=h
theorem A9 {x y:Prop} (h:y):BIf false x y:=h
theorem KH:∀(q:List Stp) {w x:Vl} {cs ds:List TV} {p:TV} {st:St} {K:Int->Bool->Bool->B8->Int->Int->Int->Int->Int->B8->TV->TV->TV->St->Prop},VlR St.zero w cs->w.sz<=2000000->VlR St.zero x ds->EN p q->C6 w q->
  (∀ub ul uf st',VlR St.zero (Bn w q x) (Aq (Bn w q x).sc ub ul uf)->List.all (Aq (Bn w q x).sc ub ul uf) Ah=true->Aj st st'->K (Bn w q x).sc.kind (Bn w q x).sc.b (Bn w q x).sc.neg (Bn w q x).sc.dg (Bn w q x).sc.ex (Bn w q x).sc.tk (Bn w q x).sc.td (Bn w q x).sc.tn (Bn w q x).sc.tz (Bn w q x).sc.text ub ul uf st')->
  CallT PR Az [.agg cs,p,.agg ds] [.agg RX] st K:=by
 intro q
 induction q with
 | nil=>
  intro w x cs ds p st K h hN hx hp hok hk
  obtain⟨sx,lx,fx⟩:=x
  obtain⟨sw,lw,fw⟩:=w
  obtain⟨a,b,c,_,_,rfl,_⟩:=VlR.cells h
  have hx0:=hx
  obtain⟨ub,ul,uf,_,_,rfl,w1,w2,_,w4,_⟩:=VlR.cells hx
  refine EZ _ _ _ _ _ _ _ _ _ _ _ _ _ p _ _ _ _ _ _ _ _ _ _ _ _ _ st K (Aa hp.isSl ?_)
  rw[hp.lenS]
  refine Ab (fun _=>Aa (Bi w1.one w2.one w4.one) ?_) fun g=>absurd rfl g
  exact hk ub ul uf st hx0 (Bi w1.one w2.one w4.one) (Aj.refl st)
 | cons s r ih=>
  intro w x cs ds p st K h hN hx hp hok hk
  have hx0:=hx
  obtain⟨sx,lx,fx⟩:=x
  obtain⟨sw,lw,fw⟩:=w
  have hsz:=szs sw lw fw
  have hll:=Cn lw
  have hfl:=Bq fw
  obtain⟨ub,ul,uf,xl,xf,rfl,h1,h2,h3,h4,h5⟩:=VlR.cells h
  obtain⟨xb,xl1,xf1,_,_,rfl,_⟩:=VlR.cells hx
  obtain⟨t1,t2⟩:=hp.tail
  have hs0:(((s::r).map sv))[0]? =some (sv s):=rfl
  refine CallT.settle (EZ _ _ _ _ _ _ _ _ _ _ _ _ _ p _ _ _ _ _ _ _ _ _ _ _ _ _ st _ (Aa hp.isSl ?_))
  have hl1:(lenS p:Int)≠0:=by rw[hp.lenS,List.length_cons];omega
  refine Ab (fun g=>absurd g hl1) fun _=>?_
  have hl2:1<=lenS p:=by rw[hp.lenS,List.length_cons];omega
  refine fl3 (k:=0) hp rfl hs0 (by decide) (x:= .bool (sv s).1) rfl (GM ?_)
  cases s with
  | idx i=>
   unfold C6 at hok
   obtain⟨hi,hok⟩:=hok
   refine Cx ?_
   refine Ad (x:=(lw.length,xl)) (h2.zero.src (by rw[h3.len]) st) (Aa h3.all_one ?_)
   refine N6 (by rw[h3.len]) (by omega) fun v1 st1 bs ho0 e1 hb1=>?_
   refine fl3 (k:=0) hp rfl hs0 (by decide) (x:= .int .i64 i) rfl (AV (Aa ho0.rd.isSl ?_))
   rw[ho0.rd.lenS]
   refine Ab (fun g=>?_) fun g=>?_
   ·have g:i=lw.length:=by omega
    refine Fm ho0 (by omega) rfl (by omega) fun v2 st2 bs2 ho he2 hbs2=>?_
    have hL:(if i=lw.length then lw++[vlO]else lw)=lw++[vlO]:=if_pos g
    have hv:VsR St.zero (lw++[vlO]) (xl++[.int .i64 0,.bool false,.bool false,.str [],.int .i64 0,.int .i64 0,.int .i64 0,.int .i64 0,.int .i64 0,.str [],.nilSlice,.nilSlice,.nilSlice]):=VsR.snoc h3 QR
    have hll2:(lw++[vlO]).length=lw.length+1:=by simp
    rw[<-hll2]at ho
    have hb2:∀x,x∈bs2->st.nb<=x:=fun x hx=>by
     rcases hbs2 with⟨h6,_⟩ | h6
     ·rw[h6]at hx;exact hb1 x hx
     ·rw[h6]at hx;rw[List.mem_singleton.1 hx];exact e1.nb
    have e2:Aj st st2:=StX.ext e1 he2 hb1
    have hgi:(lw++[vlO])[i]? =some vlO:=by rw[g];simp
    have hgd:(lw++[vlO]).getD i vlO=vlO:=by rw[List.getD_eq_getElem?_getD,hgi];rfl
    have husz:vlO.sz<=2000000:=by unfold vlO Vl.sz BB Bv;simp[scO]
    obtain⟨L,hLe⟩:∃L,L=lw++[vlO]:=⟨_,rfl⟩
    replace hL:=hL.trans hLe.symm
    rw[<-hLe]at hgi hgd ho hv
    obtain⟨u,hue⟩:∃u,u=vlO:=⟨_,rfl⟩
    replace hgi:L[i]? =some u:=by rw[hue];exact hgi
    replace hgd:L.getD i vlO=u:=by rw[hue];exact hgd
    rw[<-hue]at husz
    refine fl3 (k:=0) hp rfl hs0 (by decide) (x:= .int .i64 i) rfl (AV ?_)
    refine fl3 (k:=0) hp rfl hs0 (by decide) (x:= .int .i64 i) rfl (AV ?_)
    have hiL:i<L.length:=(List.getElem?_eq_some_iff.1 hgi).1
    have hzl:=ho.rd.lenZ
    refine⟨⟨by omega,by rw[hzl];omega⟩,?_⟩
    rw[hL,hgd]at hok
    obtain⟨A,c,B,q1,q2,q3,q4,q5⟩:=VsR.mid hv hgi
    rw[q1]at ho
    have hld:=ld0 ho q2 (by omega)
    rw[q3]at hld
    rw[Int.toNat_natCast,hld]
    have q40:=q4
    obtain⟨su,lu,fu⟩:=u
    obtain⟨au,bu,cu,_,_,rfl,y1,y2,_,y4,_⟩:=VlR.cells q4
    refine Ad rfl (Hk ⟨⟨t1,by omega,by omega⟩,?_⟩)
    refine ih q40 husz hx0 t2 hok fun ub' ul' uf' st3 hv' ho' e'=>?_
    have ho3:=ho.frame (StX.of (S:=fun _=>False) e') (fun x _ h=>h)
    have hl2:Ac st3 [] (.t (At (ixT 3 p (Int.toNat 0)) 2)) 0=some (.int .i64 i):=Sf (fl3 (k:=0) (j:=2) (st:=st3) hp rfl hs0 (by decide) (x:= .int .i64 i) rfl (f:=fun y=>y= .int .i64 i) rfl).2
    refine⟨hl2,hl2,⟨by omega,by rw[hzl];omega⟩,Aa ho' ?_⟩
    refine TN (ys:=Aq (Bn (.mk su lu fu) r (.mk sx lx fx)).sc ub' ul' uf') ho3 q2 (by omega) rfl fun st4 ho4 e4=>?_
    refine Aa (by simp[ho4.rd.one]) (Aa (Bi h1.one ho4.rd.one h4.one) ?_)
    have hput:Bn (.mk sw lw fw) (.idx i::r) (.mk sx lx fx)= .mk sw (L.set i (Bn (.mk su lu fu) r (.mk sx lx fx))) fw:=by rw[Bn,hL,hgd]
    rw[hput]at hk
    have hT:Aj st st4:=StX.ext (e2.trans e') e4 hb2
    have hlen:L.length=(L.set i (Bn (.mk su lu fu) r (.mk sx lx fx))).length:=by simp
    rw[hlen]at ho4
    obtain⟨ul2,z1,z2,z3⟩:=I7 (st:=st) h1 ho4 (q5 _ _ hv') h4 h5 hb2
    exact⟨hT,.agg (Aq sw ub ul2 uf),z3,hk ub ul2 uf (st4.upto st) z1 (Bi h1.one z2 h4.one) (H8 hT)⟩
   ·have g':i<lw.length:=by omega
    have hL:(if i=lw.length then lw++[vlO]else lw)=lw:=if_neg (by omega)
    obtain⟨u,hgi⟩:∃u,lw[i]? =some u:=⟨_,List.getElem?_eq_getElem g'⟩
    have hgd:lw.getD i vlO=u:=by rw[List.getD_eq_getElem?_getD,hgi];rfl
    have husz:u.sz<=2000000:=by have:=DL hgi;omega
    have hv:=h3
    have ho:=ho0
    have hb2:=hb1
    have e2:=e1
    obtain⟨bs2,rfl⟩:∃b,b=bs:=⟨bs,rfl⟩
    obtain⟨v2,rfl⟩:∃b,b=v1:=⟨v1,rfl⟩
    obtain⟨st2,rfl⟩:∃b,b=st1:=⟨st1,rfl⟩
    obtain⟨L,hLe⟩:∃L,L=lw:=⟨lw,rfl⟩
    replace hL:=hL.trans hLe.symm
    rw[<-hLe]at hgi hgd hv ho
    refine fl3 (k:=0) hp rfl hs0 (by decide) (x:= .int .i64 i) rfl (AV ?_)
    refine fl3 (k:=0) hp rfl hs0 (by decide) (x:= .int .i64 i) rfl (AV ?_)
    have hiL:i<L.length:=(List.getElem?_eq_some_iff.1 hgi).1
    have hzl:=ho.rd.lenZ
    refine⟨⟨by omega,by rw[hzl];omega⟩,?_⟩
    rw[hL,hgd]at hok
    obtain⟨A,c,B,q1,q2,q3,q4,q5⟩:=VsR.mid hv hgi
    rw[q1]at ho
    have hld:=ld0 ho q2 (by omega)
    rw[q3]at hld
    rw[Int.toNat_natCast,hld]
    have q40:=q4
    obtain⟨su,lu,fu⟩:=u
    obtain⟨au,bu,cu,_,_,rfl,y1,y2,_,y4,_⟩:=VlR.cells q4
    refine Ad rfl (Hk ⟨⟨t1,by omega,by omega⟩,?_⟩)
    refine ih q40 husz hx0 t2 hok fun ub' ul' uf' st3 hv' ho' e'=>?_
    have ho3:=ho.frame (StX.of (S:=fun _=>False) e') (fun x _ h=>h)
    have hl2:Ac st3 [] (.t (At (ixT 3 p (Int.toNat 0)) 2)) 0=some (.int .i64 i):=Sf (fl3 (k:=0) (j:=2) (st:=st3) hp rfl hs0 (by decide) (x:= .int .i64 i) rfl (f:=fun y=>y= .int .i64 i) rfl).2
    refine⟨hl2,hl2,⟨by omega,by rw[hzl];omega⟩,Aa ho' ?_⟩
    refine TN (ys:=Aq (Bn (.mk su lu fu) r (.mk sx lx fx)).sc ub' ul' uf') ho3 q2 (by omega) rfl fun st4 ho4 e4=>?_
    refine Aa (by simp[ho4.rd.one]) (Aa (Bi h1.one ho4.rd.one h4.one) ?_)
    have hput:Bn (.mk sw lw fw) (.idx i::r) (.mk sx lx fx)= .mk sw (L.set i (Bn (.mk su lu fu) r (.mk sx lx fx))) fw:=by rw[Bn,hL,hgd]
    rw[hput]at hk
    have hT:Aj st st4:=StX.ext (e2.trans e') e4 hb2
    have hlen:L.length=(L.set i (Bn (.mk su lu fu) r (.mk sx lx fx))).length:=by simp
    rw[hlen]at ho4
    obtain⟨ul2,z1,z2,z3⟩:=I7 (st:=st) h1 ho4 (q5 _ _ hv') h4 h5 hb2
    exact⟨hT,.agg (Aq sw ub ul2 uf),z3,hk ub ul2 uf (st4.upto st) z1 (Bi h1.one z2 h4.one) (H8 hT)⟩
  | key y=>
   unfold C6 at hok
   refine A9 ?_
   refine Ad (x:=(fw.length,xf)) (h4.zero.src (by rw[h5.len]) st) (Aa h5.all_one ?_)
   refine N6 (k:=fw.length) (ys:=xf) (by rw[h5.len]) (by omega) fun v1 st1 bs ho0 e1 hb1=>?_
   refine⟨fun i u f1 a0 a1 a2 a3 a4 a5 a6 a7 a8 a9 a10 a11 a12 b0 b1 b2 b3 b4 b5 b6 b7 b8 b9 b10 b11 b12 c0 c1 c2 c3 c4 c5 c6 c7 c8 c9 c10 c11 c12 st'=>p=u/\v1=f1/\(sw.kind=a0/\sw.b=a1/\sw.neg=a2/\sw.dg=a3/\sw.ex=a4/\sw.tk=a5/\sw.td=a6/\sw.tn=a7/\sw.tz=a8/\sw.text=a9/\ub=a10/\ul=a11/\uf=a12)/\(sx.kind=b0/\sx.b=b1/\sx.neg=b2/\sx.dg=b3/\sx.ex=b4/\sx.tk=b5/\sx.td=b6/\sx.tn=b7/\sx.tz=b8/\sx.text=b9/\xb=b10/\xl1=b11/\xf1=b12)/\st1=st'/\∃k:Nat,i=k/\k<=fw.length/\∀(j:Nat) d,j<k->fw[j]? =some d->d.key≠y,
    fun i _ _ _ _ _ _ _ _ _ _ _ _ _ _ _ _ _ _ _ _ _ _ _ _ _ _ _ _ _ _ _ _ _ _ _ _ _ _ _ _ _ _=>(fw.length-i).toNat,⟨rfl,rfl,⟨rfl,rfl,rfl,rfl,rfl,rfl,rfl,rfl,rfl,rfl,rfl,rfl,rfl⟩,⟨rfl,rfl,rfl,rfl,rfl,rfl,rfl,rfl,rfl,rfl,rfl,rfl,rfl⟩,rfl,0,rfl,Nat.zero_le _,fun j d hj=>by omega⟩,?_⟩
   rintro _ _ _ _ _ _ _ _ _ _ _ _ _ _ _ _ _ _ _ _ _ _ _ _ _ _ _ _ _ c0 c1 c2 c3 c4 c5 c6 c7 c8 c9 c10 c11 c12 _ ⟨rfl,rfl,⟨rfl,rfl,rfl,rfl,rfl,rfl,rfl,rfl,rfl,rfl,rfl,rfl,rfl⟩,⟨rfl,rfl,rfl,rfl,rfl,rfl,rfl,rfl,rfl,rfl,rfl,rfl,rfl⟩,rfl,k,rfl,hkf,hne⟩
   have hself:Bm st1 st1:=⟨Nat.le_refl _,fun _ _=>rfl⟩
   refine Aa ho0.rd.isSl ?_
   rw[ho0.rd.lenS]
   refine Ab (fun g=>?_) fun g=>?_
   ·have gd:fw[k]? =some fw[k]:=List.getElem?_eq_getElem (by omega)
    generalize fw[k]=d at gd
    refine K9 hself ho0.rd (FsR.keep (BS st1) h5) rfl gd (fl3 (k:=0) hp rfl hs0 (by decide) (x:= .str y) rfl (Ct (Ab (fun g3=>?_) fun g3=>?_)))
    ·rw[Am _ (by omega) (by omega)]
     refine⟨⟨rfl,rfl,⟨rfl,rfl,rfl,rfl,rfl,rfl,rfl,rfl,rfl,rfl,rfl,rfl,rfl⟩,⟨rfl,rfl,rfl,rfl,rfl,rfl,rfl,rfl,rfl,rfl,rfl,rfl,rfl⟩,rfl,k+1,by omega,by omega,fun j d' hj hd'=>?_⟩,by dsimp only;omega⟩
     by_cases hjk:j=k
     ·subst hjk;rw[gd]at hd';cases hd';exact g3
     ·exact hne j d' (by omega) hd'
    ·refine Aa ho0.rd.isSl ?_
     refine Ab (fun h=>absurd h (by omega)) fun _=>?_
     obtain⟨k0,u⟩:=d
     have g3':k0=y:=Decidable.not_not.1 g3
     subst g3'
     obtain⟨w1,w2⟩:=Sv (x:=Bn u r (.mk sx lx fx)) gd hne
     rw[w1]at hok
     have hput0:Bn (.mk sw lw fw) (.key k0::r) (.mk sx lx fx)= .mk sw lw (fw.set k (Fd.mk k0 (Bn u r (.mk sx lx fx)))):=by rw[Bn,w1,<-w2];rfl
     have husz:u.sz<=2000000:=by have:=EH gd;rw[szd]at this;omega
     obtain⟨i,rfl⟩:∃i,i=k:=⟨k,rfl⟩
     obtain⟨y,rfl⟩:∃y,y=k0:=⟨k0,rfl⟩
     obtain⟨bs2,rfl⟩:∃b,b=bs:=⟨bs,rfl⟩
     obtain⟨v2,rfl⟩:∃b,b=v1:=⟨v1,rfl⟩
     obtain⟨st2,rfl⟩:∃b,b=st1:=⟨st1,rfl⟩
     obtain⟨L,hLe⟩:∃L,L=fw:=⟨fw,rfl⟩
     have hgi:=gd
     have hv:=h5
     have ho:=ho0
     have hb2:=hb1
     have e2:=e1
     have hput:=hput0
     replace hput:Bn (.mk sw lw fw) (.key y::r) (.mk sx lx fx)= .mk sw lw (L.set i (Fd.mk y (Bn u r (.mk sx lx fx)))):=by rw[hLe];exact hput0
     rw[<-hLe]at hgi hv ho
     have hiL:i<L.length:=(List.getElem?_eq_some_iff.1 hgi).1
     have hzl:=ho.rd.lenZ
     obtain⟨A,c,B,q1,q2,q3,q4,q5⟩:=FsR.mid hv hgi
     rw[q1]at ho
     have hip:=ho.rd.isPtr hiL
     refine⟨⟨by omega,by rw[hzl];omega⟩,Aa (by rw[Int.toNat_natCast];exact hip) ?_⟩
     have hld:=ho.ld q2 (by omega)
     rw[q3]at hld
     rw[Int.toNat_natCast,hld]
     have q40:=q4
     obtain⟨su,lu,fu⟩:=u
     obtain⟨au,bu,cu,_,_,rfl,y1,y2,_,y4,_⟩:=VlR.cells q4
     refine Ad rfl (Hk ⟨⟨t1,by omega,by omega⟩,?_⟩)
     refine ih q40 husz hx0 t2 hok fun ub' ul' uf' st3 hv' ho' e'=>?_
     have ho3:=ho.frame (StX.of (S:=fun _=>False) e') (fun x _ h=>h)
     refine⟨⟨by omega,by rw[hzl];omega⟩,Aa hip (Aa ho' ?_)⟩
     refine ho3.store (ys:=Aq (Bn (.mk su lu fu) r (.mk sx lx fx)).sc ub' ul' uf') q2 (by omega) rfl fun st4 ho4 e4=>?_
     refine Aa (by simp[ho4.rd.one]) (Aa (Bi h1.one h2.one ho4.rd.one) ?_)
     rw[hput]at hk
     have hT:Aj st st4:=StX.ext (e2.trans e') e4 hb2
     have hlen:L.length=(L.set i (Fd.mk y (Bn (.mk su lu fu) r (.mk sx lx fx)))).length:=by simp
     rw[hlen]at ho4
     obtain⟨uf2,z1,z2,z3⟩:=I8 (st:=st) h1 h2 h3 ho4 (q5 _ _ hv') hb2
     exact⟨hT,.agg (Aq sw ub ul uf2),z3,hk ub ul uf2 (st4.upto st) z1 (Bi h1.one h2.one z2) (H8 hT)⟩
   ·have hkk:k=fw.length:=by omega
    subst hkk
    refine Aa ho0.rd.isSl ?_
    refine Ab (fun _=>?_) fun h=>absurd rfl h
    refine fl3 (k:=0) hp rfl hs0 (by decide) (x:= .str y) rfl (Ct ?_)
    refine Fm ho0 (by omega) rfl (by omega) fun v2 st2 bs2 ho he2 hbs2=>?_
    obtain⟨w1,w2⟩:=Qi (f:=fw) (k:=y) (x:=Bn vlO r (.mk sx lx fx)) fun j d hj=>hne j d (List.getElem?_eq_some_iff.1 hj).1 hj
    rw[w1]at hok
    have hok:C6 vlO r:=hok
    have hgi:(fw++[Fd.mk y vlO])[fw.length]? =some (.mk y vlO):=by simp
    have hput:Bn (.mk sw lw fw) (.key y::r) (.mk sx lx fx)= .mk sw lw ((fw++[Fd.mk y vlO]).set fw.length (Fd.mk y (Bn vlO r (.mk sx lx fx)))):=by
     rw[Bn,w1]
     show Vl.mk sw lw (J9 y (Bn vlO r (.mk sx lx fx)) fw)=_
     rw[w2];simp
    have hv:FsR St.zero (fw++[Fd.mk y vlO]) (xf++[.str y,.int .i64 0,.bool false,.bool false,.str [],.int .i64 0,.int .i64 0,.int .i64 0,.int .i64 0,.int .i64 0,.str [],.nilSlice,.nilSlice,.nilSlice]):=FsR.snoc h5 (by unfold FdR;exact⟨_,rfl,QR⟩)
    have hll2:(fw++[Fd.mk y vlO]).length=fw.length+1:=by simp
    rw[<-hll2]at ho
    have hb2:∀x,x∈bs2->st.nb<=x:=fun x hx=>by
     rcases hbs2 with⟨h6,_⟩ | h6
     ·rw[h6]at hx;exact hb1 x hx
     ·rw[h6]at hx;rw[List.mem_singleton.1 hx];exact e1.nb
    have e2:Aj st st2:=StX.ext e1 he2 hb1
    have husz:vlO.sz<=2000000:=by unfold vlO Vl.sz BB Bv;simp[scO]
    obtain⟨L,hLe⟩:∃L,L=fw++[Fd.mk y vlO]:=⟨_,rfl⟩
    obtain⟨i,hie⟩:∃i,i=fw.length:=⟨_,rfl⟩
    rw[<-hLe,<-hie]at hgi hput
    rw[<-hLe]at hv ho
    obtain⟨u,hue⟩:∃u,u=vlO:=⟨_,rfl⟩
    rw[<-hue]at husz hgi hput hok
    rw[<-hie]
    have hiL:i<L.length:=(List.getElem?_eq_some_iff.1 hgi).1
    have hzl:=ho.rd.lenZ
    obtain⟨A,c,B,q1,q2,q3,q4,q5⟩:=FsR.mid hv hgi
    rw[q1]at ho
    have hip:=ho.rd.isPtr hiL
    refine⟨⟨by omega,by rw[hzl];omega⟩,Aa (by rw[Int.toNat_natCast];exact hip) ?_⟩
    have hld:=ho.ld q2 (by omega)
    rw[q3]at hld
    rw[Int.toNat_natCast,hld]
    have q40:=q4
    obtain⟨su,lu,fu⟩:=u
    obtain⟨au,bu,cu,_,_,rfl,y1,y2,_,y4,_⟩:=VlR.cells q4
    refine Ad rfl (Hk ⟨⟨t1,by omega,by omega⟩,?_⟩)
    refine ih q40 husz hx0 t2 hok fun ub' ul' uf' st3 hv' ho' e'=>?_
    have ho3:=ho.frame (StX.of (S:=fun _=>False) e') (fun x _ h=>h)
    refine⟨⟨by omega,by rw[hzl];omega⟩,Aa hip (Aa ho' ?_)⟩
    refine ho3.store (ys:=Aq (Bn (.mk su lu fu) r (.mk sx lx fx)).sc ub' ul' uf') q2 (by omega) rfl fun st4 ho4 e4=>?_
    refine Aa (by simp[ho4.rd.one]) (Aa (Bi h1.one h2.one ho4.rd.one) ?_)
    rw[hput]at hk
    have hT:Aj st st4:=StX.ext (e2.trans e') e4 hb2
    have hlen:L.length=(L.set i (Fd.mk y (Bn (.mk su lu fu) r (.mk sx lx fx)))).length:=by simp
    rw[hlen]at ho4
    obtain⟨uf2,z1,z2,z3⟩:=I8 (st:=st) h1 h2 h3 ho4 (q5 _ _ hv') hb2
    exact⟨hT,.agg (Aq sw ub ul uf2),z3,hk ub ul uf2 (st4.upto st) z1 (Bi h1.one h2.one z2) (H8 hT)⟩
abbrev Plc:=List Stp×Nat×Nat
def PlR:List Plc->List TV->Prop
 | [],xs=>xs=[]
 | (q,w,i)::r,xs=>∃pv d,xs=pv:: .int .i64 w:: .int .i64 i::d/\EN pv q/\PlR r d
theorem PlR.len:∀{l:List Plc} {xs:List TV},PlR l xs->xs.length=l.length*3
 | [],xs,h=>by unfold PlR at h;subst h;rfl
 | (q,w,i)::r,xs,h=>by
  unfold PlR at h
  obtain⟨pv,d,rfl,h1,h2⟩:=h
  simp only[List.length_cons,PlR.len h2];omega
theorem PlR.get:∀{l:List Plc} {xs:List TV} {k:Nat} {q:List Stp} {w i:Nat},PlR l xs->l[k]? =some (q,w,i)->∃pv,xs[k*3+0]? =some pv/\xs[k*3+1]? =some (.int .i64 w)/\xs[k*3+2]? =some (.int .i64 i)/\EN pv q
 | [],xs,k,q,w,i,h,hk=>by simp at hk
 | (q',w',i')::r,xs,k,q,w,i,h,hk=>by
  unfold PlR at h
  obtain⟨pv,d,rfl,h1,h2⟩:=h
  cases k with
  | zero=>
   simp only[List.getElem?_cons_zero,Option.some.injEq,Prod.mk.injEq]at hk
   obtain⟨rfl,rfl,rfl⟩:=hk
   exact⟨pv,rfl,rfl,rfl,h1⟩
  | succ k=>
   obtain⟨p',g1,g2,g3,g4⟩:=PlR.get h2 (by simpa using hk)
   refine⟨p',?_,?_,?_,g4⟩
   ·rw[show(k+1)*3+0=k*3+0+1+1+1 by omega];simpa using g1
   ·rw[show(k+1)*3+1=k*3+1+1+1+1 by omega];simpa using g2
   ·rw[show(k+1)*3+2=k*3+2+1+1+1 by omega];simpa using g3
theorem PlR.snoc:∀{l:List Plc} {xs:List TV} {q:List Stp} {w i:Nat} {pv:TV},PlR l xs->EN pv q->PlR (l++[(q,w,i)]) (xs++[pv,.int .i64 w,.int .i64 i])
 | [],xs,q,w,i,pv,h,hp=>by
  unfold PlR at h
  subst h
  rw[List.nil_append,List.nil_append]
  unfold PlR PlR
  exact⟨pv,[],rfl,hp,rfl⟩
 | (q',w',i')::r,xs,q,w,i,pv,h,hp=>by
  unfold PlR at h
  obtain⟨p',d,rfl,h1,h2⟩:=h
  rw[List.cons_append]
  unfold PlR
  exact⟨p',d++[pv,.int .i64 w,.int .i64 i],rfl,h1,PlR.snoc h2 hp⟩
theorem PlR.one:∀{l:List Plc} {xs:List TV},PlR l xs->List.all xs Ah=true
 | [],xs,h=>by unfold PlR at h;subst h;rfl
 | (q,w,i)::r,xs,h=>by
  unfold PlR at h
  obtain⟨pv,d,rfl,h1,h2⟩:=h
  have h3:=PlR.one h2
  show(Ah pv&&(true&&(true&&List.all d Ah)))=true
  rw[Rd.one h1,h3];rfl
theorem IC:∀ss:List AT,List.all (ss.flatMap Ca) Ah=true
 | []=>rfl
 | s::r=>by
  rw[List.flatMap_cons,List.all_append,IC r]
  rfl
theorem NF {a b:TV} {ss tt:List AT} {st:St} {K:Bool->St->Prop} (ha:BA a ss) (hb:BA b tt) (hl:ss.length<=1000000) (hk:K (decide (ss=tt)) st):CallT PR BY [a,b] [.one .bool] st K:=by
 refine HB a b st K (Aa (Rd.isSl ha) (Aa (Rd.isSl hb) ?_))
 rw[Rd.lenS ha,Rd.lenS hb]
 refine Ab (fun g=>?_) fun g=>?_
 ·have:ss≠tt:=fun e=>g (by rw[e])
  rw[decide_eq_false this]at hk;exact hk
 have hlen:ss.length=tt.length:=by omega
 refine⟨fun i x y st'=>a=x/\b=y/\st=st'/\∃k:Nat,i=k/\k<=ss.length/\ss.take k=tt.take k,fun i _ _ _=>(ss.length-i).toNat,⟨rfl,rfl,rfl,0,rfl,Nat.zero_le _,rfl⟩,?_⟩
 rintro _ _ _ _ ⟨rfl,rfl,rfl,k,rfl,hkl,hE⟩
 refine Aa (Rd.isSl ha) ?_
 rw[Rd.lenS ha]
 refine Ab (fun g=>?_) fun g=>?_
 ·have hs:ss[k]? =some ss[k]:=List.getElem?_eq_getElem (by omega)
  have ht:tt[k]? =some tt[k]:=List.getElem?_eq_getElem (by omega)
  generalize ss[k]=s at hs
  generalize tt[k]=t at ht
  refine el3 ha rfl hs (el3 hb rfl ht ?_)
  refine As (fun hne=>?_) fun he=>?_
  ·have:ss≠tt:=fun e=>by
    subst e
    rw[hs]at ht
    cases ht
    simp at hne
   rw[decide_eq_false this]at hk;exact hk
  ·have:s=t:=by
    obtain⟨s1,s2,s3⟩:=s
    obtain⟨t1,t2,t3⟩:=t
    simp only[Bool.not_eq_false',Bool.and_eq_true,beq_iff_eq,decide_eq_true_eq,Bool.and_true]at he
    rw[he.1,he.2.1,he.2.2]
   subst this
   rw[Am _ (by omega) (by omega)]
   refine⟨⟨rfl,rfl,rfl,k+1,by omega,by omega,?_⟩,by dsimp only;omega⟩
   rw[List.take_add_one,List.take_add_one,hE,hs,ht]
 ·have hkk:k=ss.length:=by omega
  rw[hkk,List.take_length,hlen,List.take_length]at hE
  rw[decide_eq_true hE]at hk;exact hk
theorem sv_inj:∀{a b:Stp},sv a=sv b->a=b
 | .key k,.key k',h=>by cases h;rfl
 | .idx i,.idx j,h=>by
  unfold sv at h
  simp only[Prod.mk.injEq,true_and]at h
  have:i=j:=by omega
  rw[this]
 | .key k,.idx i,h=>by cases h
 | .idx i,.key k,h=>by cases h
theorem Ug:∀{p q:List Stp},p.map sv=q.map sv->p=q
 | [],[],_=>rfl
 | [],_::_,h=>by cases h
 | _::_,[],h=>by cases h
 | a::p,b::q,h=>by
  rw[List.map_cons,List.map_cons,List.cons.injEq]at h
  rw[sv_inj h.1,Ug h.2]
theorem Lv {p:TV} {q:List Stp} {s:Stp} {st:St} {K:TV->St->Prop} (hp:EN p q) (hl:q.length<=1000000) (hk:∀v st',EN v (q++[s])->Aj st st'->K v st'):CallT PR A4 [p,.agg (Ca (sv s))] [.one .tv] st K:=by
 have h3:=Dr (q.map sv)
 rw[List.length_map]at h3
 refine HQ p _ _ _ st K (Ad (x:=((q.map sv).length,(q.map sv).flatMap Ca)) (Rd.src hp (Dr _) st) (Aa (IC _) ?_))
 refine CM (Aj.refl st) rfl (Own.full _ _ _ 0 []) (by rw[List.length_map];omega) (fun h0=>?_) fun v1 st1 e1 _ ho1=>?_
 ·rw[List.length_map]at h0
  have:q=[]:=List.eq_nil_of_length_eq_zero h0
  rw[this];rfl
 refine CM e1 rfl ho1 (by rw[List.length_map];omega) (fun h=>by cases h) fun v2 st2 e2 _ ho2=>?_
 refine hk v2 st2 ?_ e2
 unfold EN BA
 have:=ho2.rd
 rw[Nat.zero_add,List.nil_append]at this
 rw[List.map_append,List.flatMap_append,List.length_append]
 exact this
def AM (q:List Stp):List Plc->Option (Nat×Nat)
 | []=>none
 | (p,w,i)::r=>if p=q then some (w,i)else AM q r
theorem PP {q p:List Stp} {pl:List Plc} {k w i:Nat} (h:pl[k]? =some (p,w,i)):AM q (pl.drop k)=if p=q then some (w,i)else AM q (pl.drop (k+1)):=by
 rw[Bt h,AM]
theorem Ju {q p:List Stp} {w i:Nat}:∀{pl:List Plc},AM q (pl++[(p,w,i)])=match AM q pl with | some x=>some x | none=>if p=q then some (w,i)else none
 | []=>by simp[AM]
 | (p',w',i')::r=>by
  rw[List.cons_append,AM,AM]
  split
  ·rfl
  ·exact Ju
theorem GS {p cv plv:TV} {q:List Stp} {pl:List Plc} {xs:List TV} {st:St} {k0:Int} {b0 b1:Bool} {s0:B8} {k1 k2 k3 k4 k5:Int} {s1:B8} {u1 u2 u3:TV} {K:Int->Int->St->Prop} (hp:EN p q) (hq:q.length<=1000000) (hpl:Rd 3 plv pl.length xs) (hx:PlR pl xs) (hl:pl.length<=1000000) (hql:∀x,x∈pl->x.1.length<=1000000)
  (hk1:∀w i (k:Nat),AM q pl=some (w,i)->K w k st) (hk2:AM q pl=none->K 0 (-1) st):
  CallT PR Bf [.agg [.int .i64 k0,.bool b0,.bool b1,.str s0,.int .i64 k1,.int .i64 k2,.int .i64 k3,.int .i64 k4,.int .i64 k5,.str s1,u1,u2,u3,cv,plv],p] [.one (.int .i64),.one (.int .i64)] st K:=by
 refine Fs _ _ _ _ _ _ _ _ _ _ _ _ _ cv plv p st K ⟨fun i x a0 a1 a2 a3 a4 a5 a6 a7 a8 a9 a10 a11 a12 c y st'=>p=x/\plv=y/\st=st'/\∃k:Nat,i=k/\k<=pl.length/\AM q pl=AM q (pl.drop k),
  fun i _ _ _ _ _ _ _ _ _ _ _ _ _ _ _ _ _=>(pl.length-i).toNat,⟨rfl,rfl,rfl,0,rfl,Nat.zero_le _,rfl⟩,?_⟩
 rintro _ _ a0 a1 a2 a3 a4 a5 a6 a7 a8 a9 a10 a11 a12 c _ _ ⟨rfl,rfl,rfl,k,rfl,hkl,hE⟩
 refine Aa (Rd.isSl hpl) ?_
 rw[Rd.lenS hpl]
 refine Ab (fun g=>?_) fun g=>?_
 ·have hs:pl[k]? =some pl[k]:=List.getElem?_eq_getElem (by omega)
  generalize pl[k]=x at hs
  obtain⟨q',w,i⟩:=x
  obtain⟨pv,g1,g2,g3,g4⟩:=hx.get hs
  have hlq:=hql _ (List.mem_of_getElem? hs)
  rw[PP hs]at hE
  have hip:=hpl.isP (show k<pl.length by omega)
  have hz:=Rd.lenZ hpl
  refine⟨⟨by omega,by rw[hz];omega⟩,Aa (by rw[Int.toNat_natCast];exact hip) (Ad (x:=pv) (by rw[Int.toNat_natCast];exact hpl.ldfx st k 0 g1) ?_)⟩
  refine NF g4 hp (by rw[List.length_map];exact hlq) ?_
  have hde:decide (q'.map sv=q.map sv)=decide (q'=q):=decide_eq_decide.2 ⟨Ug,fun e=>by rw[e]⟩
  rw[hde]
  refine Ab (fun he=>?_) fun he=>?_
  ·rw[if_pos he]at hE
   refine⟨⟨by omega,by rw[hz];omega⟩,Aa (by rw[Int.toNat_natCast];exact hip) (Ad (x:= .int .i64 w) (by rw[Int.toNat_natCast];exact hpl.ldfx st k 1 g2) (AV ?_))⟩
   exact hk1 w i k hE
  ·rw[if_neg he]at hE
   rw[Am _ (by omega) (by omega)]
   exact⟨⟨rfl,rfl,rfl,k+1,by omega,by omega,hE⟩,by dsimp only;omega⟩
 ·have hkk:k=pl.length:=by omega
  rw[hkk,List.drop_length,AM]at hE
  exact hk2 hE
theorem LA {p cv plv:TV} {q:List Stp} {pl:List Plc} {xs:List TV} {st:St} {k0:Int} {b0 b1:Bool} {s0:B8} {k1 k2 k3 k4 k5:Int} {s1:B8} {u1 u2 u3:TV} {w i:Nat} {K:Int->Bool->Bool->B8->Int->Int->Int->Int->Int->B8->TV->TV->TV->TV->TV->St->Prop}
  (hone:List.all [.int .i64 k0,.bool b0,.bool b1,.str s0,.int .i64 k1,.int .i64 k2,.int .i64 k3,.int .i64 k4,.int .i64 k5,.str s1,u1,u2,u3] Ah=true) (hcv:Ah cv=true) (hp:EN p q) (hpl:Rd 3 plv pl.length xs) (hx:PlR pl xs) (hl:pl.length<=1000000)
  (hk:∀v xs' st',Rd 3 v (pl.length+1) xs'->PlR (pl++[(q,w,i)]) xs'->Aj st st'->K k0 b0 b1 s0 k1 k2 k3 k4 k5 s1 u1 u2 u3 cv v st'):
  CallT PR AQ [.agg [.int .i64 k0,.bool b0,.bool b1,.str s0,.int .i64 k1,.int .i64 k2,.int .i64 k3,.int .i64 k4,.int .i64 k5,.str s1,u1,u2,u3,cv,plv],p,.int .i64 w,.int .i64 i] [.agg [.int .i64,.bool,.bool,.str,.int .i64,.int .i64,.int .i64,.int .i64,.int .i64,.str,.tv,.tv,.tv,.tv,.tv]] st K:=by
 refine Ft _ _ _ _ _ _ _ _ _ _ _ _ _ cv plv p w i st K (Ad (x:=(pl.length,xs)) (Rd.src hpl hx.len st) (Aa hx.one ?_))
 refine CM (Aj.refl st) rfl (Own.full _ _ _ 0 []) (by omega) (fun h0=>?_) fun v1 st1 e1 _ ho1=>?_
 ·have:pl=[]:=List.eq_nil_of_length_eq_zero h0
  subst this
  unfold PlR at hx
  exact hx
 refine Aa (by rw[List.all_cons,Rd.one hp];rfl) (Aa (by rw[List.all_cons,Rd.one hp];rfl) ?_)
 refine CM e1 rfl ho1 (by omega) (fun h=>by cases h) fun v2 st2 e2 _ ho2=>?_
 have hr:=ho2.rd
 rw[Nat.zero_add,List.nil_append]at hr
 refine Aa (by rw[List.all_cons,hr.one];rfl) (Aa ?_ (hk v2 _ st2 hr (hx.snoc hp) e2))
 have:List.all ([.int .i64 k0,.bool b0,.bool b1,.str s0,.int .i64 k1,.int .i64 k2,.int .i64 k3,.int .i64 k4,.int .i64 k5,.str s1,u1,u2,u3]++[cv,v2]) Ah=true:=by
  rw[List.all_append,hone,List.all_cons,hcv,List.all_cons,hr.one];rfl
 exact this
end Go.TVF
section
namespace Go.TVF
open Go.IntKind(i64 u8)
theorem Lp:∀h:List Hop,(stp h).length=dpH h
 | []=>rfl
 | (k,none)::h=>by rw[stp,dpH,List.length_cons,Lp h]
 | (k,some i)::h=>by rw[stp,dpH,List.length_cons,List.length_cons,Lp h]
theorem H9 (h:List Hop) (k:B8):stp (h++[(k,none)])=stp h++[.key k]:=by rw[Lr];rfl
theorem LZ (h:List Hop) (k:B8) (i:Nat):stp (h++[(k,some i)])=stp h++[.key k]++[.idx i]:=by rw[Lr,List.append_assoc];rfl
theorem cnt_sub {t u:Tb} {k:B8} {eb:Nat} (h:Ag k t.es=some (eb,.opn u)):(Ae u).cnt<=(Ae t).cnt:=by
 have:=(SE (x:= .opn u) h).lvu
 obtain⟨F,G,h1,_⟩:=CD h
 rw[B1 t,h1]
 simp only[Vl.cnt,D2,AI,Fd.cnt,AA]
 omega
theorem UW {t u:Tb} {k:B8} {eb i:Nat} {l:List Tb} (h:Ag k t.es=some (eb,.lst l)) (hi:l[i]? =some u):(Ae u).cnt<=(Ae t).cnt/\i<=(Ae t).cnt:=by
 obtain⟨F,G,h1,_⟩:=CD h
 have h2:=UV hi
 have h3:=Mn h
 have h4:=(List.getElem?_eq_some_iff.1 hi).1
 rw[B1 t,h1]at h3⊢
 simp only[Vl.cnt,D2,AI,Fd.cnt,AA]at h3⊢
 omega
theorem Lq:∀{h:List Hop} {T t:Tb},atT T h=some t->∀i,.idx i∈stp h->i<=(Ae T).cnt
 | [],T,t,hA,i,hi=>by cases hi
 | (k,none)::h,.mk b m hd es,t,hA,i,hi=>by
  rw[atT]at hA
  rcases hl:Ag k es with _ | ⟨eb,u | l | ⟨v,j⟩⟩<;>rw[hl]at hA<;>simp only at hA<;>try (cases hA;done)
  rw[stp]at hi
  have h1:=cnt_sub (t:= .mk b m hd es) (show Ag k (Tb.mk b m hd es).es=some (eb,.opn u)from hl)
  rcases List.mem_cons.1 hi with h2 | h2
  ·cases h2
  ·have:=Lq hA i h2;omega
 | (k,some j)::h,.mk b m hd es,t,hA,i,hi=>by
  rw[atT]at hA
  rcases hl:Ag k es with _ | ⟨eb,u | l | ⟨v,i'⟩⟩<;>rw[hl]at hA<;>simp only at hA<;>try (cases hA;done)
  cases hj:l[j]? with
  | none=>simp[hj]at hA
  | some u=>
  rw[hj]at hA
  simp only at hA
  rw[stp]at hi
  have h1:=UW (t:= .mk b m hd es) (show Ag k (Tb.mk b m hd es).es=some (eb,.lst l)from hl) hj
  rcases List.mem_cons.1 hi with h2 | h2
  ·cases h2
  ·rcases List.mem_cons.1 h2 with h3 | h3
   ·cases h3;exact h1.2
   ·have:=Lq hA i h3;omega
theorem Qk {T t:Tb} {h:List Hop} (hA:atT T h=some t) (k:B8):D4 (Ae T) (stp h++[.key k])=(Ag k t.es).map fun p=>AA p.2:=by
 rw[OU h hA,B1 t,D4,Cs]
 cases Ag k t.es with
 | none=>rfl
 | some p=>simp only[Option.map_some,D4]
theorem KS {T t:Tb} {h:List Hop} (hA:atT T h=some t) (k:B8) (p:List Stp):Aw T (stp h++ .key k::p)=match Ag k t.es with | some (_,e)=>Hr e p | none=>(0,0):=by
 rw[LC h hA]
 obtain⟨b,m,hd,es⟩:=t
 rw[Cr]
 rfl
theorem Ti (nu:Nu) (p:List Stp):Hr (.opn (AB nu false)) p=(0,0):=by
 unfold AB
 match p with
 | []=>rfl
 | .key k::p=>rw[Hr,Cr];rfl
 | .idx i::p=>rfl
theorem Uw {T t:Tb} {h:List Hop} {k:B8} {nu:Nu} (hA:atT T h=some t) (hl:Ag k t.es=none) (q:List Stp):Aw (Ax T h (AS t k nu.eb (.opn (AB nu false)))) q=Aw T q:=by
 rw[KR (t':=AS t k nu.eb (.opn (AB nu false))) (k:=k) (e':=(nu.eb,.opn (AB nu false))) hA rfl fun k2=>GH hl]
 cases hs:AW (stp h++[.key k]) q with
 | none=>rfl
 | some p=>
  have hq:=Ej hs
  rw[hq,List.append_assoc]
  show Hr _ p=Aw T (stp h++ .key k::p)
  rw[Ti,KS hA,hl]
theorem Ux {nu:Nu} {hd:Bool} {T T' t:Tb} {h h':List Hop} {k:B8} (hA:atT T h=some t) (hh:DD nu hd T h k=some (T',h')) (q:List Stp):Aw T' q=Aw T q:=by
 unfold DD at hh
 rw[hA]at hh
 simp only at hh
 rcases hl:Ag k t.es with _ | ⟨eb,e⟩
 ·rw[hl]at hh
  simp only[Option.some.injEq,Prod.mk.injEq]at hh
  rw[<-hh.1];exact Uw hA hl q
 ·rw[hl]at hh
  cases e with
  | opn w=>simp only[Option.some.injEq,Prod.mk.injEq]at hh;rw[<-hh.1]
  | lst l=>
   simp only at hh
   cases hd with
   | false=>simp at hh
   | true=>simp only[if_true,Option.some.injEq,Prod.mk.injEq]at hh;rw[<-hh.1]
  | clo v i=>simp at hh
theorem KT {nu:Nat->Nu} {hd:Bool}:∀(ks:List B8) (j:Nat) {T T' t:Tb} {h h':List Hop},atT T h=some t->NeL (shT 1 T)->BJ nu hd j T h ks=some (T',h')->∀q,Aw T' q=Aw T q
 | [],j,T,T',t,h,h',hA,hn,hh,q=>by unfold BJ at hh;cases hh;rfl
 | k::ks,j,T,T',t,h,h',hA,hn,hh,q=>by
  unfold BJ at hh
  cases h1:DD (nu j) hd T h k with
  | none=>rw[h1]at hh;cases hh
  | some p=>
   obtain⟨T1,h1'⟩:=p
   rw[h1]at hh
   obtain⟨t1,hA1⟩:=(OP hA (fun eb l=>PX hA hn) h1).at_
   rw[KT ks (j+1) hA1 (Ru hA h1 hn) hh q,Ux hA h1 q]
def JK (pl:List Plc) (T:Tb):Prop:=∀q,match AM q pl with
 | some (w,i)=>w≠0/\Aw T q=(w,if w=1 then i else 0)
 | none=>(Aw T q).1=0
theorem JK.congr {pl:List Plc} {T T':Tb} (h:JK pl T) (e:∀q,Aw T' q=Aw T q):JK pl T':=fun q=>by rw[e q];exact h q
theorem JK.has {pl:List Plc} {T:Tb} (h:JK pl T) {q:List Stp} {w i:Nat} (hq:AM q pl=some (w,i)):w≠0/\Aw T q=(w,if w=1 then i else 0):=by
 have:=h q
 rw[hq]at this;exact this
theorem JK.not {pl:List Plc} {T:Tb} (h:JK pl T) {q:List Stp} (hq:AM q pl=none):(Aw T q).1=0:=by
 have:=h q
 rw[hq]at this;exact this
theorem EC:∀(h:List Hop) {T t:Tb},atT T h=some t->∀p,C6 (Ae t) p->C6 (Ae T) (stp h++p)
 | [],T,t,hA,p,hp=>by cases T;cases hA;exact hp
 | (k,none)::h,.mk b m hd es,t,hA,p,hp=>by
  rw[atT]at hA
  rcases hl:Ag k es with _ | ⟨eb,u | l | ⟨v,i⟩⟩<;>rw[hl]at hA<;>simp only at hA<;>try (cases hA;done)
  rw[stp,List.cons_append,Ae]
  unfold C6
  rw[Cs,hl]
  simp only[Option.map_some,Option.getD_some,AA]
  exact EC h hA p hp
 | (k,some i)::h,.mk b m hd es,t,hA,p,hp=>by
  rw[atT]at hA
  rcases hl:Ag k es with _ | ⟨eb,u | l | ⟨v,j⟩⟩<;>rw[hl]at hA<;>simp only at hA<;>try (cases hA;done)
  cases hi:l[i]? with
  | none=>simp[hi]at hA
  | some u=>
  rw[hi]at hA
  simp only at hA
  have hlt:=(List.getElem?_eq_some_iff.1 hi).1
  rw[stp,List.cons_append,List.cons_append,Ae]
  unfold C6
  rw[Cs,hl]
  simp only[Option.map_some,Option.getD_some,AA]
  unfold C6
  have hne:¬i=(A1 l).length:=by rw[AU,List.length_map];omega
  refine⟨by rw[AU,List.length_map];omega,?_⟩
  rw[if_neg hne]
  have hg:(A1 l).getD i vlO=Ae u:=by rw[AU,List.getD_eq_getElem?_getD,List.getElem?_map,hi];rfl
  rw[hg]
  exact EC h hA p hp
theorem IH (t:Tb) (k:B8):C6 (Ae t) [.key k]:=by
 rw[B1]
 unfold C6 C6
 trivial
theorem Lu {T t:Tb} {h:List Hop} {k:B8} (hA:atT T h=some t) (hl:Ag k t.es=none) (eb:Nat) (e:En):Bn (Ae T) (stp h++[.key k]) (AA e)=Ae (Ax T h (AS t k eb e)):=by
 refine KI h hA ?_
 rw[B1 t,Bn,Cs,hl]
 simp only[Option.map_none,Option.getD_none]
 show Vl.mk scM [] (J9 k (AA e) (AD t.es))=_
 rw[Qh hl eb e rfl]
 unfold AS
 rw[Ae]
theorem Sa {T t:Tb} {h:List Hop} {k:B8} {eb:Nat} {e0:En} (hA:atT T h=some t) (hl:Ag k t.es=some (eb,e0)) (e:En) {p:List Stp} {x:Vl} (hx:Bn (AA e0) p x=AA e):Bn (Ae T) (stp h++ .key k::p) x=Ae (Ax T h (B6 t k e)):=by
 refine KI h hA ?_
 rw[B1 t,Bn,Cs,hl]
 simp only[Option.map_some,Option.getD_some]
 rw[hx,J8 hl]
 unfold B6
 rw[Ae]
end Go.TVF
end
namespace Go.TVF
open Go.IntKind(i64 u8)
open Go Go.Proofs
theorem KB (T:Tb):(Ae T).sc=scM:=by rw[B1];rfl
theorem SN {T:Tb} {cs:List TV} (h:VlR St.zero (Ae T) cs):∃ub ul uf,cs=Aq scM ub ul uf/\List.all (Aq scM ub ul uf) Ah=true:=by
 have h0:=h
 rw[B1]at h0
 obtain⟨ub,ul,uf,_,_,rfl,w1,w2,_,w4,_⟩:=VlR.cells h0
 exact⟨ub,ul,uf,rfl,Bi w1.one w2.one w4.one⟩
theorem Sm {ks:List B8} (j:Nat):kz (ks.take j)<=kz ks:=by
 have:=KQ (ks.take j) (ks.drop j)
 rw[List.take_append_drop]at this
 omega
theorem kz_get {ks:List B8} {j:Nat} (h:j<ks.length):(ks.getD j []).length+1<=kz ks:=by
 have h1:=Sm (ks:=ks) (j+1)
 rw[Co h,KQ]at h1
 have:kz [ks.getD j []]=(ks.getD j []).length+1:=by simp[kz]
 omega
theorem vmap13:VlR St.zero (AA (.opn (AB n0 false))) [.int .i64 7,.bool false,.bool false,.str [],.int .i64 0,.int .i64 0,.int .i64 0,.int .i64 0,.int .i64 0,.str [],.nilSlice,.nilSlice,.nilSlice]:=by
 rw[AA,AB,Ae,AD]
 unfold VlR
 exact⟨.nilSlice,.nilSlice,.nilSlice,[],[],rfl,.of_rd (.inl ⟨rfl,rfl,rfl⟩),.of_rd (.inl ⟨rfl,rfl,rfl⟩),by unfold VsR;rfl,.of_rd (.inl ⟨rfl,rfl,rfl⟩),by unfold FsR;rfl⟩
theorem S6 {T t:Tb} {h0:List Hop} {ks:List B8} {hd:Bool} {ub ul uf cv plv fv kv:TV} {pl:List Plc} {xs:List TV} {st:St}
  {K:Int->Bool->Bool->B8->Int->Int->Int->Int->Int->B8->TV->TV->TV->TV->TV->TV->Int->St->Prop}
  (hA:atT T h0=some t) (hN:NeL (shT 1 T)) (hv:VlR St.zero (Ae T) (Aq scM ub ul uf)) (hf:EN fv (stp h0)) (hr:Rd 1 kv ks.length (ks.map TV.str)) (hks:ks≠ []) (hcv:Ah cv=true) (hpl:Rd 3 plv pl.length xs) (hx:PlR pl xs) (hll:pl.length<=100000) (hql:∀x,x∈pl->x.1.length<=1000000)
  (hP:JK pl T) (hc:(Ae T).cnt+ks.length<=900000) (hz:(Ae T).sz+kz ks<=1000000)
  (hk1:∀T1 h t1 ub ul uf pv st',BJ (fun _=>n0) hd 0 T h0 ks.dropLast=some (T1,h)->atT T1 h=some t1->VlR St.zero (Ae T1) (Aq scM ub ul uf)->List.all (Aq scM ub ul uf) Ah=true->EN pv (stp h++[.key (ks.getLastD [])])->Aj st st'->K 7 false false [] 0 0 0 0 0 [] ub ul uf cv plv pv 0 st')
  (hk2:∀ub ul uf st',BJ (fun _=>n0) hd 0 T h0 ks.dropLast=none->List.all (Aq scM ub ul uf) Ah=true->Aj st st'->K 7 false false [] 0 0 0 0 0 [] ub ul uf cv plv .nilSlice 8 st'):
  CallT PR CP [.agg (Aq scM ub ul uf++[cv,plv]),fv,kv,.bool hd] [.agg [.int .i64,.bool,.bool,.str,.int .i64,.int .i64,.int .i64,.int .i64,.int .i64,.str,.tv,.tv,.tv,.tv,.tv],.one .tv,.one (.int .i64)] st K:=by
 have klen:0<ks.length:=List.length_pos_iff.2 hks
 have hpo:Ah plv=true:=Rd.one hpl
 refine Hv _ _ _ _ _ _ _ _ _ _ ub ul uf cv plv fv kv hd st K ⟨fun p i k h a0 a1 a2 a3 a4 a5 a6 a7 a8 a9 a10 a11 a12 c y b0 b1 b2 b3 b4 b5 b6 b7 b8 b9 b10 b11 b12 z1 z2 st'=>kv=k/\hd=h/\cv=c/\plv=y/\Aj st st'/\∃(j:Nat) (T':Tb) (h':List Hop) (t':Tb),i=j/\j<ks.length/\BJ (fun _=>n0) hd 0 T h0 (ks.take j)=some (T',h')/\atT T' h'=some t'/\EN p (stp h')/\VlR St.zero (Ae T') [.int .i64 a0,.bool a1,.bool a2,.str a3,.int .i64 a4,.int .i64 a5,.int .i64 a6,.int .i64 a7,.int .i64 a8,.str a9,a10,a11,a12],
  fun _ i _ _ _ _ _ _ _ _ _ _ _ _ _ _ _ _ _ _ _ _ _ _ _ _ _ _ _ _ _ _ _ _ _=>(ks.length-i).toNat,⟨rfl,rfl,rfl,rfl,Aj.refl st,0,T,h0,t,rfl,klen,rfl,hA,hf,hv⟩,?_⟩
 rintro p _ _ _ a0 a1 a2 a3 a4 a5 a6 a7 a8 a9 a10 a11 a12 _ _ b0 b1 b2 b3 b4 b5 b6 b7 b8 b9 b10 b11 b12 z1 z2 st1 ⟨rfl,rfl,rfl,rfl,e1,j,T',h',t',rfl,hj,hh,hA',hp,hv'⟩
 obtain⟨W,hN'⟩:=FD (ks.take j) 0 hA hN hh (Nat.le_refl _)
 have w1:=W.cnt
 have w2:=W.sz
 have hkt:=Sm (ks:=ks) j
 have hkg:=kz_get hj
 have hlt:(ks.take j).length=j:=by rw[List.length_take];omega
 have hdp:=JF hA'
 have hsl:=Lp h'
 have hP':=hP.congr (KT (ks.take j) 0 hA hN hh)
 obtain⟨ub1,ul1,uf1,hc1,on1⟩:=SN hv'
 cases hc1
 have hcs:=FM (Ae T')
 have next:∀{T2 h2},DD n0 hd T' h' (ks.getD j [])=some (T2,h2)->BJ (fun _=>n0) hd 0 T h0 (ks.take (j+1))=some (T2,h2):=fun {T2 h2} hq=>by
  rw[Co hj,IL,hh];exact hq
 have stop:DD n0 hd T' h' (ks.getD j [])=none->j+1<ks.length->BJ (fun _=>n0) hd 0 T h0 ks.dropLast=none:=fun hq hlt2=>by
  have h3:ks.dropLast=ks.take (j+1)++(ks.dropLast).drop (j+1):=by
   have:=(List.take_append_drop (j+1) ks.dropLast).symm
   rw[List.dropLast_eq_take,List.take_take,Nat.min_eq_left (by omega)]at this
   rw[List.dropLast_eq_take];exact this
  rw[h3]
  refine IM _ _ _ _ _ ?_
  rw[Co hj,IL,hh];exact hq
 refine Aa (Rd.isSl hr) ?_
 rw[Rd.lenS hr]
 refine Ab (fun _=>?_) fun g=>absurd (by omega) g
 refine⟨⟨by omega,by rw[Rd.lenZ hr];omega⟩,Ad (x:= .str (ks.getD j [])) ?_ (Ct ?_)⟩
 ·have:=Ds hj
  rw[Int.toNat_natCast]
  exact hr.ldx st1 j 0 (by rw[Nat.mul_one];exact this)
 refine Lv (s:= .key (ks.getD j [])) hp (by omega) fun v11 st2 hp2 e2=>Aa (Rd.isSl hr) ?_
 rw[Am _ (by omega) (by omega)]
 refine Ab (fun g=>?_) fun g=>?_
 ·have g:j+1=ks.length:=by omega
  have hdl:ks.dropLast=ks.take j:=by rw[List.dropLast_eq_take];congr 1;omega
  have hgl:ks.getLastD []=ks.getD j []:=by
   rw[List.getLastD_eq_getLast?,List.getLast?_eq_getElem?,List.getD_eq_getElem?_getD,show ks.length-1=j by omega]
  rw[<-hdl]at hh
  rw[<-hgl]at hp2
  refine Aa ?_ (hk1 T' h' t' a10 a11 a12 v11 st2 hh hA' hv' on1 hp2 (e1.trans e2))
  have:List.all (Aq scM a10 a11 a12++[cv,plv]) Ah=true:=by rw[List.all_append,on1,List.all_cons,hcv,List.all_cons,hpo];rfl
  exact this
 have g:j+1<ks.length:=by omega
 have hplen:(stp h'++[Stp.key (ks.getD j [])]).length=dpH h'+1:=by rw[List.length_append,hsl];rfl
 have ons:List.all (Aq scM a10 a11 a12++[cv,plv]) Ah=true:=by rw[List.all_append,on1,List.all_cons,hcv,List.all_cons,hpo];rfl
 have hfk:=Qk hA' (ks.getD j [])
 have hik:=KS hA' (ks.getD j []) []
 refine OS hv' (by omega) hp2 (by omega) (fun i hi=>?_) (fun x ub2 ul2 uf2 hf2 hv2 on2=>Aa on2 (A9 ?_)) fun hf2=>Aa rfl (Cx ?_)
 ·rcases List.mem_append.1 hi with h1 | h1
  ·have:=Lq hA' i h1;omega
  ·cases List.mem_singleton.1 h1
 ·--something stands there
  rw[hfk]at hf2
  rcases hl:Ag (ks.getD j []) t'.es with _ | ⟨eb,e⟩
  ·rw[hl]at hf2;cases hf2
  rw[hl]at hf2 hik
  simp only[Option.map_some,Option.some.injEq]at hf2
  simp only at hik
  have kind:∀w i,AM (stp h'++[.key (ks.getD j [])]) pl=some (w,i)->w=(Dy e).1:=fun w i hq=>by
   have:=(hP'.has hq).2
   rw[hik]at this
   have:(Dy e)=(w,if w=1 then i else 0):=by cases e<;>exact this
   rw[this]
  have kind0:AM (stp h'++[.key (ks.getD j [])]) pl=none->(Dy e).1=0:=fun hq=>by
   have:=hP'.not hq
   rw[hik]at this
   cases e<;>exact this
  have nxt:∀{o:Option Nat} {u:Tb} {pv:TV} {st3:St} {s:List (B8×Option Nat)},DD n0 hd T' h' (ks.getD j [])=some (T',h'++[(ks.getD j [],o)])->atT T' (h'++[(ks.getD j [],o)])=some u->EN pv (stp (h'++[(ks.getD j [],o)]))->Aj st2 st3->
    (kv=kv/\hd=hd/\cv=cv/\plv=plv/\Aj st st3/\∃(j2:Nat) (T2:Tb) (h2:List Hop) (t2:Tb),(j:Int)+1=j2/\j2<ks.length/\BJ (fun _=>n0) hd 0 T h0 (ks.take j2)=some (T2,h2)/\atT T2 h2=some t2/\EN pv (stp h2)/\VlR St.zero (Ae T2) (Aq scM a10 a11 a12))/\(ks.length-((j:Int)+1)).toNat<(ks.length-(j:Int)).toNat:=fun {o u pv st3 s} q1 q2 q3 q4=>
   ⟨⟨rfl,rfl,rfl,rfl,(e1.trans e2).trans q4,j+1,T',_,u,by omega,g,next q1,q2,q3,hv'⟩,by omega⟩
  refine GS hp2 (by omega) hpl hx (by omega) hql (fun w i k hq=>?_) fun hq=>?_
  ·have hw:=kind w i hq
   cases e with
   | clo v i'=>
    have hw:w=1:=hw
    subst hw
    refine Ab (fun _=>Aa ons (hk2 a10 a11 a12 st2 (stop ?_ g) on1 (e1.trans e2))) fun h=>absurd rfl h
    unfold DD;rw[hA'];simp only[hl]
   | lst l=>
    have hw:w=3:=hw
    subst hw
    refine Ab (fun h=>absurd h (by decide)) fun _=>Ab (fun _=>?_) fun h=>absurd rfl h
    cases hd with
    | false=>
     refine Cx (Aa ons (hk2 a10 a11 a12 st2 (stop ?_ g) on1 (e1.trans e2)))
     unfold DD;rw[hA'];simp only[hl];rfl
    | true=>
     refine A9 (Ab (fun _=>?_) fun h=>absurd rfl h)
     have hle:l≠ []:=PX hA' hN' hl
     have hl0:0<l.length:=List.length_pos_iff.2 hle
     have hll2:=Mn hl
     have hat:=(Ob hA').1
     rw[<-hf2,AA]at hv2
     obtain⟨_,_,_,_,_,hc2,y1,y2,_,y4,_⟩:=VlR.cells hv2
     cases hc2
     refine Aa y2.isSl ?_
     rw[y2.lenS,AU,List.length_map,Am _ (by omega) (by omega)]
     have hpl2:((l.length:Int)-1)=((l.length-1:Nat):Int):=by omega
     rw[hpl2]
     refine Lv (s:= .idx (l.length-1)) hp2 (by omega) fun v18 st3 hp3 e3=>?_
     rw[<-LZ]at hp3
     refine nxt (s:=[]) (o:=some (l.length-1)) (u:=l[l.length-1]'(by omega)) ?_ (Iv hA' hl (List.getElem?_eq_getElem (by omega))) hp3 e3
     unfold DD;rw[hA'];simp only[hl];rfl
   | opn u=>
    have hw1:w≠1/\w≠3:=by
     have:w=if u.hd=true then 2 else 0:=hw
     split at this<;>omega
    refine Ab (fun h=>absurd h (by omega)) fun _=>Ab (fun h=>absurd h (by omega)) fun _=>Ab (fun h=>absurd h (by omega)) fun _=>?_
    refine nxt (s:=[]) (o:=none) (u:=u) ?_ (JH hA' hl) (by rw[H9];exact hp2) (Aj.refl st2)
    unfold DD;rw[hA'];simp only[hl]
  ·have hw:=kind0 hq
   cases e with
   | clo v i'=>exact absurd hw (by simp[Dy])
   | lst l=>exact absurd hw (by simp[Dy])
   | opn u=>
    refine Ab (fun h=>absurd h (by decide)) fun _=>Ab (fun h=>absurd h (by decide)) fun _=>Ab (fun h=>absurd h (by decide)) fun _=>?_
    refine nxt (s:=[]) (o:=none) (u:=u) ?_ (JH hA' hl) (by rw[H9];exact hp2) (Aj.refl st2)
    unfold DD;rw[hA'];simp only[hl]
 ·rw[hfk]at hf2
  have hl:Ag (ks.getD j []) t'.es=none:=by
   cases hq:Ag (ks.getD j []) t'.es with
   | none=>rfl
   | some p=>rw[hq]at hf2;cases hf2
  have hput:=Lu hA' hl 0 (.opn (AB n0 false))
  refine KH (stp h'++[.key (ks.getD j [])]) hv' (by omega) vmap13 hp2 (EC h' hA' _ (IH t' _)) fun ub3 ul3 uf3 st3 hv3 on3 e3=>?_
  rw[hput]at hv3 on3⊢
  rw[KB]at hv3 on3⊢
  refine Aa on3 ⟨⟨rfl,rfl,rfl,rfl,(e1.trans e2).trans e3,j+1,_,h'++[(ks.getD j [],none)],_,by omega,g,next ?_,K1 (nu:=n0) hA' hl,by rw[H9];exact hp2,hv3⟩,by dsimp only;omega⟩
  unfold DD;rw[hA'];simp only[hl]
theorem S4:∀(N:Nat) (v:Vl),v.sz<=N->N<=2000000->∀{st0 st:St} {cs:List TV} {K:Int->Bool->Bool->B8->Int->Int->Int->Int->Int->B8->TV->TV->TV->St->Prop},VlR st0 v cs->Bm st0 st->
  (∀ub ul uf st',VlR St.zero v (Aq v.sc ub ul uf)->Ah ub=true->Ah ul=true->Ah uf=true->Aj st st'->K v.sc.kind v.sc.b v.sc.neg v.sc.dg v.sc.ex v.sc.tk v.sc.td v.sc.tn v.sc.tz v.sc.text ub ul uf st')->
  CallT PR Bs [.agg cs] [.agg [.int .i64,.bool,.bool,.str,.int .i64,.int .i64,.int .i64,.int .i64,.int .i64,.str,.tv,.tv,.tv]] st K:=by
 intro N
 induction N with
 | zero=>intro v h;have:=v.sz_pos;omega
 | succ N ih=>
 intro v hN hN2 st0 st cs K h hke hk
 cases v with
 | mk s l f=>
 have hsz:=szs s l f
 have hll:=Cn l
 have hfl:=Bq f
 obtain⟨ub0,ul,uf,xl,xf,rfl,h1,h2,h3,h4,h5⟩:=h.cells
 refine HZ _ _ _ _ _ _ _ _ _ _ _ _ _ st K (Aa (Bi h1.one h2.one h4.one) (Ad ((h1.keep hke).src (by rw[Je];omega)) (Aa (TA _) ?_)))
 refine Ix (Aj.refl st) rfl (Own.full st.nt 1 st 0 []) (by omega) (fun h0=>by
  have:s.bytes=[]:=List.length_eq_zero_iff.1 h0
  rw[this];rfl) fun ub st0' e0 _ hob=>Aa (by simp[hob.rd.one]) ?_
 simp only[List.nil_append,Nat.zero_add]at hob
 have hkb:=hke.trans e0.keeps
 refine⟨fun i k1 b1 b2 s1 k2 k3 k4 k5 k6 s2 v1 v2 v3 k7 b3 b4 s3 k8 k9 k10 k11 k12 s4 v4 v5 v6 k13 b5 b6 s5 k14 k15 k16 k17 k18 s6 v7 v8 v9 st'=>
   ul=v2/\uf=v3/\s.kind=k13/\s.b=b5/\s.neg=b6/\s.dg=s5/\s.ex=k14/\s.tk=k15/\s.td=k16/\s.tn=k17/\s.tz=k18/\s.text=s6/\ub=v7/\TV.nilSlice=v9/\∃(k:Nat) (xs:List TV),i=k/\k<=l.length/\Aj st0' st'/\Own st0'.nt 13 st' v8 k xs/\VsR St.zero (l.take k) xs,
  fun i _ _ _ _ _ _ _ _ _ _ _ _ _ _ _ _ _ _ _ _ _ _ _ _ _ _ _ _ _ _ _ _ _ _ _ _ _ _ _ _=>(l.length-i).toNat,
  ⟨rfl,rfl,rfl,rfl,rfl,rfl,rfl,rfl,rfl,rfl,rfl,rfl,rfl,rfl,0,[],rfl,Nat.zero_le _,Aj.refl _,Own.nil _ _ _,by simp only[List.take_zero];unfold VsR;rfl⟩,?_⟩
 rintro _ k1 b1 b2 s1 k2 k3 k4 k5 k6 s2 v1 _ _ k7 b3 b4 s3 k8 k9 k10 k11 k12 s4 v4 v5 v6 _ _ _ _ _ _ _ _ _ _ _ v8 _ st1 ⟨rfl,rfl,rfl,rfl,rfl,rfl,rfl,rfl,rfl,rfl,rfl,rfl,rfl,rfl,k,xs,rfl,hkl,e1,ho,hv⟩
 have hke1:=hkb.trans e1.keeps
 refine Aa h2.isSl (Ab (fun g=>?_) fun g=>?_)
 ·rw[h2.lenS]at g
  refine Nl hke1 h2 h3 rfl (by omega) fun s1 l1 f1 ub1 ul1 uf1 gw hw on=>?_
  have hwsz:=DL gw
  refine ih (.mk s1 l1 f1) (by omega) (by omega) hw hke1 fun wb wl wf st2 hw2 o1 o2 o3 e2=>Aa (Bi o1 o2 o3) ?_
  refine CM (e1.trans e2) rfl (ho.ext e2) (by omega) (fun h=>by cases h) fun v9 st3 e3 e3' ho3=>Aa (by simp[ho3.rd.one]) ?_
  rw[Am _ (by omega) (by omega)]
  refine⟨⟨rfl,rfl,rfl,rfl,rfl,rfl,rfl,rfl,rfl,rfl,rfl,rfl,rfl,rfl,k+1,_,by omega,by omega,e3,ho3,?_⟩,by dsimp only;omega⟩
  rw[Dq gw]
  exact VsR.snoc hv hw2
 ·rw[h2.lenS]at g
  have hkk:k=l.length:=by omega
  subst hkk
  rw[List.take_length]at hv
  refine⟨fun i k1 b1 b2 s1 k2 k3 k4 k5 k6 s2 v1 v2 v3 k7 b3 b4 s3 k8 k9 k10 k11 k12 s4 v4 v5 v6 k13 b5 b6 s5 k14 k15 k16 k17 k18 s6 v7 w1 w2 st'=>
   uf=v3/\s.kind=k13/\s.b=b5/\s.neg=b6/\s.dg=s5/\s.ex=k14/\s.tk=k15/\s.td=k16/\s.tn=k17/\s.tz=k18/\s.text=s6/\ub=v7/\v8=w1/\∃(k:Nat) (ys:List TV),i=k/\k<=f.length/\Aj st1 st'/\Own st1.nt 14 st' w2 k ys/\FsR St.zero (f.take k) ys,
   fun i _ _ _ _ _ _ _ _ _ _ _ _ _ _ _ _ _ _ _ _ _ _ _ _ _ _ _ _ _ _ _ _ _ _ _ _ _ _ _ _=>(f.length-i).toNat,
   ⟨rfl,rfl,rfl,rfl,rfl,rfl,rfl,rfl,rfl,rfl,rfl,rfl,rfl,0,[],rfl,Nat.zero_le _,Aj.refl _,Own.nil _ _ _,by simp only[List.take_zero];unfold FsR;rfl⟩,?_⟩
  rintro _ k1 b1 b2 s1 k2 k3 k4 k5 k6 s2 v1 v2 _ k7 b3 b4 s3 k8 k9 k10 k11 k12 s4 v4 v5 v6 _ _ _ _ _ _ _ _ _ _ _ _ w8 st5 ⟨rfl,rfl,rfl,rfl,rfl,rfl,rfl,rfl,rfl,rfl,rfl,rfl,rfl,q,ys,rfl,hql,e5,ho5,hv5⟩
  have hke5:=hke1.trans e5.keeps
  refine Aa h4.isSl (Ab (fun g2=>?_) fun g2=>?_)
  ·rw[h4.lenS]at g2
   have gd:f[q]? =some f[q]:=List.getElem?_eq_getElem (by omega)
   generalize f[q]=d at gd
   refine K9 hke5 h4 h5 rfl gd ?_
   refine LW hke5 h4 h5 rfl (by omega) fun key s1 l1 f1 ub1 ul1 uf1 gw hw on=>?_
   rw[gd]at gw
   have hde:=Option.some.inj gw
   subst hde
   have hsa:=Ip (FA gd)
   have hzd:=szd key (.mk s1 l1 f1)
   refine ih (.mk s1 l1 f1) (by omega) (by omega) hw hke5 fun wb wl wf st6 hw2 o1 o2 o3 e6=>⟨Uq (hke5.trans e6.keeps) h4 h5 gd,Aa (Se o1 o2 o3) ?_⟩
   refine CM (e5.trans e6) rfl (ho5.ext e6) (by omega) (fun h=>by cases h) fun v9 st7 e7 e7' ho7=>Aa (by simp[ho7.rd.one]) ?_
   rw[Am _ (by omega) (by omega)]
   refine⟨⟨rfl,rfl,rfl,rfl,rfl,rfl,rfl,rfl,rfl,rfl,rfl,rfl,rfl,q+1,_,by omega,by omega,e7,ho7,?_⟩,by dsimp only;omega⟩
   rw[Dq gd]
   refine FsR.snoc hv5 ?_
   unfold FdR
   exact⟨_,rfl,hw2⟩
  ·rw[h4.lenS]at g2
   have hqq:q=f.length:=by omega
   subst hqq
   rw[List.take_length]at hv5
   refine Aa (Bi hob.rd.one ho.rd.one ho5.rd.one) (hk ub v8 w8 st5 ?_ hob.rd.one ho.rd.one ho5.rd.one ((e0.trans e1).trans e5))
   unfold VlR
   exact⟨ub,v8,w8,xs,ys,rfl,.of_rd hob.rd,.of_rd ho.rd,hv,.of_rd ho5.rd,hv5⟩
theorem SY {v:Vl} {st0 st:St} {cs:List TV} {K:Bool->St->Prop} (h:VlR st0 v cs) (hk:K (Gw v) st):CallT PR Bk [.agg cs] [.one .bool] st K:=by
 obtain⟨s,l,f⟩:=v
 obtain⟨ub,ul,uf,xl,xf,rfl,h1,h2,_,h3,_⟩:=h.cells
 have kf:¬(s=scO/\l=[]/\f=[])->K false st:=fun hn=>by
  have:Gw (.mk s l f)=false:=by
   rw[Bool.eq_false_iff]
   intro e
   unfold Gw at e
   simp only[Bool.and_eq_true,decide_eq_true_eq,List.isEmpty_iff]at e
   exact hn ⟨e.1.1,e.1.2,e.2⟩
  rw[<-this];exact hk
 refine Hu s.kind s.b s.neg s.dg s.ex s.tk s.td s.tn s.tz s.text ub ul uf st K (Ab (fun g1=>?_) fun g1=>kf fun e=>g1 (by rw[e.1];rfl))
 refine As (fun g2=>?_) fun g2=>kf fun e=>by rw[e.1]at g2;simp[scO]at g2
 refine As (fun g3=>?_) fun g3=>kf fun e=>by rw[e.1]at g3;simp[scO]at g3
 refine As (fun g4=>?_) fun g4=>kf fun e=>by rw[e.1]at g4;simp[scO]at g4
 refine Ab (fun g5=>?_) fun g5=>kf fun e=>g5 (by rw[e.1];rfl)
 refine Aa h1.isSl ?_
 rw[h1.lenS]
 refine Ab (fun g6=>?_) fun g6=>kf fun e=>g6 (by rw[e.1];rfl)
 refine Aa h2.isSl ?_
 rw[h2.lenS]
 refine Ab (fun g7=>?_) fun g7=>kf fun e=>g7 (by rw[e.2.1];rfl)
 refine Aa h3.isSl ?_
 rw[h3.lenS]
 have hs:s=scO:=by
  obtain⟨kind,b,neg,dg,ex,tk,td,tn,tz,text,bytes⟩:=s
  simp only[Bool.not_eq_true',Bool.and_true,Bool.and_eq_true,beq_iff_eq,decide_eq_true_eq]at g1 g2 g3 g4 g5 g6
  have:bytes=[]:=List.eq_nil_of_length_eq_zero (by omega)
  unfold scO
  simp only[g1,g2,g3.1,g3.2.1,g3.2.2,g4.1,g4.2.1,g4.2.2.1,g4.2.2.2,g5,this]
 have hl:l=[]:=List.eq_nil_of_length_eq_zero (by omega)
 have:decide ((f.length:Int)=0)=Gw (.mk s l f):=by
  unfold Gw
  rw[hs,hl]
  cases f<;>simp[Vl.sc,Vl.list,Vl.flds]<;>omega
 rw[this];exact hk
theorem Q8 {a_0 a_1:Bool} {a_2:TV} {ks:List B8} {v:Vl} {st0 st:St} {cs:List TV} {K:Bool->St->Prop} (hr:Rd 1 a_2 ks.length (ks.map TV.str)) (h:VlR st0 v cs)
  (hk:K (Cm ⟨a_0,a_1,ks,v⟩) st):CallT PR BK [.agg (.bool a_0:: .bool a_1::a_2::cs)] [.one .bool] st K:=by
 have hz:∀{K:Bool->St->Prop},K (Gw v) st->CallT PR Bk [.agg cs] [.one .bool] st K:=fun hk=>SY h hk
 obtain⟨s,l,f⟩:=v
 obtain⟨ub,ul,uf,xl,xf,rfl,_⟩:=h.cells
 have hsl:isSl a_2=true:=by rcases hr with⟨rfl,_⟩ | ⟨tip,rfl⟩<;>rfl
 have hle:lenS a_2=ks.length:=by
  rcases hr with⟨rfl,e,_⟩ | ⟨tip,rfl⟩
  ·exact e.symm
  ·rfl
 unfold Cm at hk
 refine GU a_0 a_1 a_2 s.kind s.b s.neg s.dg s.ex s.tk s.td s.tn s.tz s.text ub ul uf st K (Aa hsl ?_)
 rw[hle]
 refine Ab (fun g=>?_) fun g=>?_
 ·have hne:ks.isEmpty=false:=by cases ks with | nil=>simp at g | cons a b=>rfl
  simp only[hne,Bool.not_false,Bool.true_and]at hk
  cases a_0 with
  | true=>exact hz (by simpa using hk)
  | false=>
   cases a_1 with
   | true=>exact(show K false st from by simpa using hk)
   | false=>exact(show K true st from by simpa using hk)
 ·have hne:ks=[]:=List.eq_nil_of_length_eq_zero (by omega)
  simp only[hne,List.isEmpty_nil,Bool.not_true,Bool.false_and]at hk
  exact hk
structure RSt (T:Tb) (cur:List Hop) (pl:List Plc) (ub ul uf cv plv:TV):Prop where
 v:VlR St.zero (Ae T) (Aq scM ub ul uf)
 on:List.all (Aq scM ub ul uf) Ah=true
 cv:EN cv (stp cur)
 row:∃xs,Rd 3 plv pl.length xs/\PlR pl xs
 ok:JK pl T
 ql:∀x,x∈pl->x.1.length<=1000000
 nd:(pl.map fun x=>x.1).Nodup
theorem RSt.on15 {T:Tb} {cur:List Hop} {pl:List Plc} {ub ul uf cv plv:TV} (h:RSt T cur pl ub ul uf cv plv):List.all (Aq scM ub ul uf++[cv,plv]) Ah=true:=by
 obtain⟨xs,h1,_⟩:=h.row
 rw[List.all_append,h.on,List.all_cons,Rd.one h.cv,List.all_cons,Rd.one h1];rfl
theorem on15 {ub ul uf cv plv:TV} (h:List.all (Aq scM ub ul uf) Ah=true) (h1:Ah cv=true) (h2:Ah plv=true):List.all (Aq scM ub ul uf++[cv,plv]) Ah=true:=by
 rw[List.all_append,h,List.all_cons,h1,List.all_cons,h2];rfl
theorem JK.turn {pl pl':List Plc} {T T':Tb} {q0:List Stp} (h:JK pl T) (hi:∀q,Aw T' q=match AW q0 q with | some p=>(if p=[]then(match AM q0 pl' with | some (w,i)=>(w,if w=1 then i else 0) | none=>(0,0))else Aw T q) | none=>Aw T q)
  (hp:∀q,q≠q0->AM q pl'=AM q pl) (hw:∀w i,AM q0 pl'=some (w,i)->w≠0):JK pl' T':=fun q=>by
 by_cases e:q=q0
 ·subst e
  have h1:=hi q
  have h2:AW q q=some []:=by have:=NA q [];rwa [List.append_nil]at this
  rw[h2]at h1
  simp only[if_true]at h1
  cases hq:AM q pl' with
  | none=>rw[hq]at h1;simp only;rw[h1]
  | some x=>
   obtain⟨w,i⟩:=x
   rw[hq]at h1
   exact⟨hw w i hq,h1⟩
 ·have h1:Aw T' q=Aw T q:=by
   rw[hi q]
   cases hs:AW q0 q with
   | none=>rfl
   | some p=>
    have:=Ej hs
    have hne:p≠ []:=fun e2=>e (by rw[this,e2,List.append_nil])
    simp only[if_neg hne]
  have:=h q
  rw[hp q e,h1];exact this
theorem S9 {q q0:List Stp} {w i:Nat} {pl:List Plc} (h:q≠q0):AM q (pl++[(q0,w,i)])=AM q pl:=by
 rw[Ju]
 cases AM q pl with
 | none=>simp only;rw[if_neg fun e=>h e.symm]
 | some x=>rfl
theorem Me {q:List Stp}:∀{pl:List Plc},AM q pl=none->q∉pl.map fun x=>x.1
 | [],_,h=>by cases h
 | (p,w,i)::r,hn,h=>by
  rw[AM]at hn
  split at hn
  ·cases hn
  ·rename_i hp
   rcases List.mem_cons.1 h with h | h
   ·exact hp h.symm
   ·exact Me hn h
theorem Lz {q:List Stp} {w i:Nat} {pl:List Plc} (hn:AM q pl=none) (h:(pl.map fun x=>x.1).Nodup):((pl++[(q,w,i)]).map fun x=>x.1).Nodup:=by
 rw[List.map_append]
 refine List.nodup_append.2 ⟨h,by simp,fun x hx y hy e=>?_⟩
 simp only[List.map_cons,List.map_nil,List.mem_singleton]at hy
 subst hy;subst e
 exact Me hn hx
theorem Mf {q0:List Stp} {w i:Nat} {pl:List Plc} (h:AM q0 pl=none):AM q0 (pl++[(q0,w,i)])=some (w,i):=by
 rw[Ju,h];simp
theorem Lw {pl:List Plc} {T t t':Tb} {h:List Hop} {k:B8} {eb w i:Nat} {e':En} (hP:JK pl T) (hA:atT T h=some t) (hd:t'.hd=t.hd) (hl:∀k2,Ag k2 t'.es=if k2=k then some (eb,e')else Ag k2 t.es)
  (hb:∀p,p≠ []->Hr e' p=Aw T (stp h++ .key k::p)) (hk:Dy e'=(w,if w=1 then i else 0)) (hw:w≠0) (hn:AM (stp h++[.key k]) pl=none):JK (pl++[(stp h++[.key k],w,i)]) (Ax T h t'):=by
 refine JK.turn (q0:=stp h++[.key k]) hP (fun q=>?_) (fun q hq=>S9 hq) fun w' i' hq=>?_
 ·rw[KR hA hd hl]
  cases hs:AW (stp h++[.key k]) q with
  | none=>rfl
  | some p=>
   simp only
   by_cases hp:p=[]
   ·rw[if_pos hp,hp,Mf hn]
    have:Hr e' []=Dy e':=by cases e'<;>rfl
    rw[this,hk]
   ·rw[if_neg hp,hb p hp,Ej hs,List.append_assoc];rfl
 ·rw[Mf hn]at hq
  cases hq;exact hw
theorem pl_same {T t t':Tb} {h:List Hop} {k:B8} {eb:Nat} {e':En} (hA:atT T h=some t) (hd:t'.hd=t.hd) (hl:∀k2,Ag k2 t'.es=if k2=k then some (eb,e')else Ag k2 t.es)
  (hb:∀p,Hr e' p=Aw T (stp h++ .key k::p)) (q:List Stp):Aw (Ax T h t') q=Aw T q:=by
 rw[KR hA hd hl]
 cases hs:AW (stp h++[.key k]) q with
 | none=>rfl
 | some p=>
  simp only
  rw[hb p,Ej hs,List.append_assoc];rfl
theorem IK (nu:Nu) (hd:Bool) (p:List Stp):Aw (AB nu hd) p=(0,0):=by
 unfold AB
 match p with
 | []=>rfl
 | .key k::p=>rw[Cr];rfl
 | .idx i::p=>rfl
theorem Th (u:Tb) (p:List Stp):Aw (BT u) p=Aw u p:=by
 obtain⟨b,m,hd,es⟩:=u
 unfold BT
 match p with
 | []=>rfl
 | .key k::p=>rw[Cr,Cr]
 | .idx i::p=>rfl
theorem Pt {i:Nat} {T T' u:Tb} {cur cur':List Hop} {a:Asg} (hu:atT T cur=some u) (hn:NdL (shT 1 T)) (hne:NeL (shT 1 T)) (hs:BC i T cur a= .ok (T',cur')):
  (∃u',atT T' cur'=some u')/\NdL (shT 1 T')/\NeL (shT 1 T')/\(Ae T').cnt<=(Ae T).cnt+a.keys.length+2+a.val.cnt/\(Ae T').sz<=(Ae T).sz+kz a.keys+a.val.sz+2:=by
 unfold BC DZ at hs
 split at hs
 ·cases hs
 rename_i hp
 split at hs
 ·cases hs
 rename_i T1 h hh
 have hks:a.keys≠ []:=fun e=>by
  have:Cm a=true:=by simpa using hp
  unfold Cm at this
  rw[e]at this;simp at this
 obtain⟨u0,hu0⟩:∃u0,atT T (if a.tab=true then []else cur)=some u0:=by
  split
  ·exact⟨T,by cases T;rfl⟩
  ·exact⟨u,hu⟩
 obtain⟨W,hne1⟩:=FD _ 0 hu0 hne hh (Nat.le_refl _)
 obtain⟨F,_⟩:=Io hne1 hs
 have w1:=W.cnt
 have w2:=W.sz
 have f1:=F.cnt
 have f2:=F.sz
 obtain⟨ks',kl,hkl⟩:∃ks' kl,a.keys=ks'++[kl]:=⟨a.keys.dropLast,a.keys.getLast hks,(List.dropLast_concat_getLast hks).symm⟩
 have hgl:a.keys.getLastD []=kl:=by rw[hkl];simp
 have hdl:a.keys.dropLast=ks':=by rw[hkl];simp
 have hkz:kz a.keys=kz ks'+(kl.length+1):=by rw[hkl,KQ];simp[kz]
 have hlen:a.keys.length=ks'.length+1:=by rw[hkl];simp
 rw[hdl]at w1 w2
 rw[hgl]at f2
 refine⟨?_,F.nd (W.nd hn),F.ne hne1,by omega,?_⟩
 ·obtain⟨t,hA⟩:=W.at_
  unfold Cc at hs
  rw[hA]at hs
  simp only at hs
  split at hs
  ·rcases hl:Ag (a.keys.getLastD []) t.es with _ | ⟨eb,w | l | ⟨v,j⟩⟩<;>rw[hl]at hs<;>simp only[Except.ok.injEq,Prod.mk.injEq,reduceCtorEq]at hs
   ·obtain⟨rfl,rfl⟩:=hs
    have:=GH (k2:=a.keys.getLastD []) (eb:=n0.eb) (e:= .lst [AB n0 false]) hl
    rw[if_pos rfl]at this
    exact⟨_,Iv (DW h hA) this rfl⟩
   ·obtain⟨rfl,rfl⟩:=hs
    exact⟨AB n0 false,Iv (DW h hA) (KO hl) (by simp)⟩
  ·split at hs
   ·rcases hl:Ag (a.keys.getLastD []) t.es with _ | ⟨eb,w | l | ⟨v,j⟩⟩<;>rw[hl]at hs<;>simp only[Except.ok.injEq,Prod.mk.injEq,reduceCtorEq]at hs
    ·obtain⟨rfl,rfl⟩:=hs
     exact⟨_,K1 (nu:=n0) hA hl⟩
    ·split at hs
     ·cases hs
     ·simp only[Except.ok.injEq,Prod.mk.injEq]at hs
      obtain⟨rfl,rfl⟩:=hs
      exact⟨BT w,JH (DW h hA) (KO hl)⟩
   ·rename_i ht
    rcases hl:Ag (a.keys.getLastD []) t.es with _ | ⟨eb,e⟩<;>rw[hl]at hs<;>simp only[Except.ok.injEq,Prod.mk.injEq,reduceCtorEq]at hs
    obtain⟨rfl,rfl⟩:=hs
    rw[if_neg ht]at hh hu0
    have:=Mw (g:=cur) (r:=[]) (u:=u) _ 0 hu (by rw[List.append_nil];exact hu) hne (by rw[List.append_nil];exact hh)
    obtain⟨r,u1,rfl,hu1,_⟩:=this
    obtain⟨u',q1,_⟩:=RS (x:=AS t (a.keys.getLastD []) n0.eb (.clo a.val i)) hu1 hA rfl
    exact⟨u',q1⟩
 ·omega
theorem vlist13:VlR St.zero (AA (.lst [])) [.int .i64 6,.bool false,.bool false,.str [],.int .i64 0,.int .i64 0,.int .i64 0,.int .i64 0,.int .i64 0,.str [],.nilSlice,.nilSlice,.nilSlice]:=by
 rw[AA,A1]
 unfold VlR
 exact⟨.nilSlice,.nilSlice,.nilSlice,[],[],rfl,.of_rd (.inl ⟨rfl,rfl,rfl⟩),.of_rd (.inl ⟨rfl,rfl,rfl⟩),by unfold VsR;rfl,.of_rd (.inl ⟨rfl,rfl,rfl⟩),by unfold FsR;rfl⟩
theorem R3 (nu:Nu) (hd:Bool):VlR St.zero (Ae (AB nu hd)) [.int .i64 7,.bool false,.bool false,.str [],.int .i64 0,.int .i64 0,.int .i64 0,.int .i64 0,.int .i64 0,.str [],.nilSlice,.nilSlice,.nilSlice]:=by
 rw[AB,Ae,AD]
 unfold VlR
 exact⟨.nilSlice,.nilSlice,.nilSlice,[],[],rfl,.of_rd (.inl ⟨rfl,rfl,rfl⟩),.of_rd (.inl ⟨rfl,rfl,rfl⟩),by unfold VsR;rfl,.of_rd (.inl ⟨rfl,rfl,rfl⟩),by unfold FsR;rfl⟩
theorem R9 (l:List Tb) (nu:Nu):Bn (AA (.lst l)) [.idx l.length] (Ae (AB nu false))=AA (.lst (l++[AB nu false])):=by
 rw[Sd,AA,Bn]
 have:l.length=(A1 l).length:=by rw[AU,List.length_map]
 rw[if_pos this,this]
 simp[Bn]
def T4 (T:Tb) (cur:List Hop) (a:Asg):List Stp:=match BJ (fun _=>n0) a.tab 0 T (if a.tab=true then []else cur) a.keys.dropLast with
 | some (_,h)=>stp h++[.key (a.keys.getLastD [])]
 | none=>[]
theorem Kz {k:B8}:∀{es:List Kn} {eb:Nat} {e:En},Ag k es=some (eb,e)->BR k e es=es
 | .mk k' eb' e'::r,eb,e,h=>by
  unfold Ag at h
  unfold BR
  split at h
  ·rename_i hk;cases h;subst hk;rw[if_pos rfl]
  ·rename_i hk;rw[if_neg hk,Kz h]
theorem L7:∀(h:List Hop) {T t:Tb},atT T h=some t->Ax T h t=T
 | [],T,t,hA=>by cases T;cases hA;rfl
 | (k,none)::h,.mk b m hd es,t,hA=>by
  rw[atT]at hA
  rw[Ax]
  rcases hl:Ag k es with _ | ⟨eb,u | l | ⟨v,i⟩⟩<;>rw[hl]at hA<;>simp only at hA⊢<;>try (cases hA;done)
  ·rw[L7 h hA,Kz hl]
 | (k,some i)::h,.mk b m hd es,t,hA=>by
  rw[atT]at hA
  rw[Ax]
  rcases hl:Ag k es with _ | ⟨eb,u | l | ⟨v,j⟩⟩<;>rw[hl]at hA<;>simp only at hA⊢<;>try (cases hA;done)
  ·cases hi:l[i]? with
   | none=>simp[hi]at hA
   | some u=>
    rw[hi]at hA
    simp only at hA⊢
    have:l.set i u=l:=by
     obtain⟨hlt,hu⟩:=List.getElem?_eq_some_iff.1 hi
     rw[<-hu];exact List.set_getElem_self hlt
    rw[L7 h hA,this,Kz hl]
theorem TY {T u:Tb} {cur:List Hop} {pl:List Plc} {ub ul uf cv plv a_2:TV} {i:Nat} {a:Asg} {cs:List TV} {st:St}
  {K:Int->Bool->Bool->B8->Int->Int->Int->Int->Int->B8->TV->TV->TV->TV->TV->TV->Int->St->Prop}
  (H:RSt T cur pl ub ul uf cv plv) (hu:atT T cur=some u) (hNe:NeL (shT 1 T)) (hl:pl.length<=90000) (hc:(Ae T).cnt+a.keys.length+a.val.cnt<=500000) (hz:(Ae T).sz+kz a.keys+a.val.sz+2<=1000000)
  (hr:Rd 1 a_2 a.keys.length (a.keys.map TV.str)) (hv:VlR St.zero a.val cs)
  (hk1:∀T' cur' pl' ub ul uf cv plv pv q st',BC i T cur a= .ok (T',cur')->RSt T' cur' pl' ub ul uf cv plv->pl'.length<=pl.length+1->EN pv q->(a.tab=true->q=stp cur')->(a.tab=false->q=T4 T cur a)->Aj st st'->K 7 false false [] 0 0 0 0 0 [] ub ul uf cv plv pv 0 st')
  (hk2:∀e st',BC i T cur a= .error e->Aj st st'->K 7 false false [] 0 0 0 0 0 [] ub ul uf cv plv .nilSlice e st'):
  CallT PR Dg [.agg (Aq scM ub ul uf++[cv,plv]),.int .i64 i,.agg (.bool a.tab:: .bool a.elem::a_2::cs)] [.agg [.int .i64,.bool,.bool,.str,.int .i64,.int .i64,.int .i64,.int .i64,.int .i64,.str,.tv,.tv,.tv,.tv,.tv],.one .tv,.one (.int .i64)] st K:=by
 obtain⟨tab,elem,ks,v⟩:=a
 simp only at*
 have hpz:∀{K:Bool->St->Prop},K (Cm ⟨tab,elem,ks,v⟩) st->CallT PR BK [.agg (.bool tab:: .bool elem::a_2::cs)] [.one .bool] st K:=fun h=>Q8 hr hv h
 have hv0:=hv
 have hvc:=FM v
 have hcT:=FM (Ae T)
 obtain⟨s,l,f⟩:=v
 obtain⟨vb,vl,vf,xl,xf,rfl,_⟩:=VlR.cells hv0
 have H15:=H.on15
 obtain⟨pxs,hpl,hpx⟩:=H.row
 have hcv:Ah cv=true:=Rd.one H.cv
 have hplo:Ah plv=true:=Rd.one hpl
 refine HS _ _ _ _ _ _ _ _ _ _ ub ul uf cv plv i tab elem a_2 s.kind s.b s.neg s.dg s.ex s.tk s.td s.tn s.tz s.text vb vl vf st K (hpz (As (fun hp=>?_) fun hp=>?_))
 ·refine Aa H15 (hk2 1 st ?_ (Aj.refl st))
  unfold BC DZ
  rw[if_pos (by simpa using hp)]
 have hp':Cm ⟨tab,elem,ks,.mk s l f⟩=true:=by simpa using hp
 have hks:ks≠ []:=fun e=>by subst e;unfold Cm at hp';simp at hp'
 generalize hh0:(if tab=true then []else cur)=h0
 obtain⟨u0,fv,hu0,hfv,hfe⟩:∃u0 fv,atT T h0=some u0/\EN fv (stp h0)/\(if tab=true then TV.nilSlice else cv)=fv:=by
  subst hh0
  cases tab with
  | true=>exact⟨T,.nilSlice,by cases T;rfl,.inl ⟨rfl,rfl,rfl⟩,rfl⟩
  | false=>exact⟨u,cv,hu,H.cv,rfl⟩
 refine⟨fun fr ii x0 x1 x2 x3 x4 x5 x6 x7 x8 x9 x10 x11 x12 c y tb eb k a0 a1 a2 a3 a4 a5 a6 a7 a8 a9 a10 a11 a12 z0 z1 z2 z3 z4 z5 z6 z7 z8 z9 z10 z11 z12 z1 z2 st'=>fv=fr/\(i:Int)=ii/\scM.kind=x0/\scM.b=x1/\scM.neg=x2/\scM.dg=x3/\scM.ex=x4/\scM.tk=x5/\scM.td=x6/\scM.tn=x7/\scM.tz=x8/\scM.text=x9/\ub=x10/\ul=x11/\uf=x12/\cv=c/\plv=y/\tab=tb/\elem=eb/\a_2=k/\s.kind=a0/\s.b=a1/\s.neg=a2/\s.dg=a3/\s.ex=a4/\s.tk=a5/\s.td=a6/\s.tn=a7/\s.tz=a8/\s.text=a9/\vb=a10/\vl=a11/\vf=a12/\st=st',?_,?_⟩
 ·refine As (fun ht=>?_) fun ht=>?_
  ·rw[if_pos (by simpa using ht)]at hfe;subst hfe
   exact⟨rfl,rfl,rfl,rfl,rfl,rfl,rfl,rfl,rfl,rfl,rfl,rfl,rfl,rfl,rfl,rfl,rfl,rfl,rfl,rfl,rfl,rfl,rfl,rfl,rfl,rfl,rfl,rfl,rfl,rfl,rfl,rfl,rfl,rfl⟩
  ·rw[if_neg (by simpa using ht)]at hfe;subst hfe
   exact⟨rfl,rfl,rfl,rfl,rfl,rfl,rfl,rfl,rfl,rfl,rfl,rfl,rfl,rfl,rfl,rfl,rfl,rfl,rfl,rfl,rfl,rfl,rfl,rfl,rfl,rfl,rfl,rfl,rfl,rfl,rfl,rfl,rfl,rfl⟩
 rintro _ _ _ _ _ _ _ _ _ _ _ _ _ _ _ _ _ _ _ _ _ _ _ _ _ _ _ _ _ _ _ _ _ z0 z1 z2 z3 z4 z5 z6 z7 z8 z9 z10 z11 z12 z1 z2 _ ⟨rfl,rfl,rfl,rfl,rfl,rfl,rfl,rfl,rfl,rfl,rfl,rfl,rfl,rfl,rfl,rfl,rfl,rfl,rfl,rfl,rfl,rfl,rfl,rfl,rfl,rfl,rfl,rfl,rfl,rfl,rfl,rfl,rfl,rfl⟩
 have step0':BJ (fun _=>n0) tab 0 T h0 ks.dropLast=none->BC i T cur ⟨tab,elem,ks,.mk s l f⟩= .error 8:=fun hh=>by
  unfold BC DZ
  rw[if_neg (by rw[hp'];simp)]
  simp only[hh0,hh]
 refine S6 hu0 hNe H.v hfv hr hks hcv hpl hpx (by omega) H.ql H.ok (by omega) (by omega) (fun T1 h t ub1 ul1 uf1 pv st2 hh hA hv1 on1 hp1 e2=>?_) fun ub2 ul2 uf2 st2 hh on2 e2=>Aa (on15 on2 hcv hplo) (Ab (fun _=>Aa H15 (hk2 8 st2 (step0' hh) e2)) fun h=>absurd (by decide) h)
 refine Aa (on15 on1 hcv hplo) (Ab (fun h=>absurd rfl h) fun _=>?_)
 have step:BC i T cur ⟨tab,elem,ks,.mk s l f⟩=Cc n0 ⟨tab,elem,ks,.mk s l f⟩ i T1 h cur (ks.getLastD []):=by
  unfold BC DZ
  rw[if_neg (by rw[hp'];simp)]
  simp only[hh0,hh]
 have hpath:T4 T cur ⟨tab,elem,ks,.mk s l f⟩=stp h++[.key (ks.getLastD [])]:=by
  unfold T4
  simp only[hh0,hh]
 have klen:1<=ks.length:=List.length_pos_iff.2 hks
 obtain⟨ks',kl,hkl⟩:∃ks' kl,ks=ks'++[kl]:=⟨ks.dropLast,ks.getLast hks,(List.dropLast_concat_getLast hks).symm⟩
 have hgl:ks.getLastD []=kl:=by rw[hkl];simp
 have hdl:ks.dropLast=ks':=by rw[hkl];simp
 have hkzz:kz ks=kz ks'+(kl.length+1):=by rw[hkl,KQ];simp[kz]
 have hkl2:ks.length=ks'.length+1:=by rw[hkl];simp
 rw[hdl]at hh
 rw[hgl]at hp1 step hpath
 obtain⟨W,hNe1⟩:=FD ks' 0 hu0 hNe hh (Nat.le_refl _)
 have w1:=W.cnt
 have w2:=W.sz
 have hdp:=JF hA
 have hsl:=Lp h
 have hcs1:=FM (Ae T1)
 have hP1:=H.ok.congr (KT ks' 0 hu0 hNe hh)
 have hplen:(stp h++[Stp.key kl]).length=dpH h+1:=by rw[List.length_append,hsl];rfl
 have hfk:=Qk hA kl
 have hik:=KS hA kl
 have hidx:∀i,Stp.idx i∈stp h++[Stp.key kl]->i<=2000000:=fun i hi=>by
  rcases List.mem_append.1 hi with h1 | h1
  ·have:=Lq hA i h1;omega
  ·cases List.mem_singleton.1 h1
 have hql1:∀{w i:Nat},∀x,x∈pl++[(stp h++[Stp.key kl],w,i)]->x.1.length<=1000000:=fun {w i} x hx=>by
  rcases List.mem_append.1 hx with h1 | h1
  ·exact H.ql x h1
  ·rw[List.mem_singleton.1 h1];simp only;omega
 have elemt:tab=false->elem=false:=fun ht=>by
  subst ht
  unfold Cm at hp'
  cases elem with
  | false=>rfl
  | true=>simp at hp'
 rcases hlk:Ag kl t.es with _ | ⟨eb,e⟩
 ·--nothing stands there
  rw[hlk]at hfk hik
  simp only[Option.map_none]at hfk
  simp only at hik
  have hpn:AM (stp h++[Stp.key kl]) pl=none:=by
   cases hq:AM (stp h++[Stp.key kl]) pl with
   | none=>rfl
   | some x=>
    obtain⟨w,i'⟩:=x
    have h1:=hP1.has hq
    have h2:=hik []
    rw[show stp h++Stp.key kl::[]=stp h++[Stp.key kl]from rfl,h1.2]at h2
    exact absurd (Prod.mk.inj h2).1 h1.1
  have hadd:∀(e':En) (eb:Nat) k2,Ag k2 (AS t kl eb e').es=if k2=kl then some (eb,e')else Ag k2 t.es:=fun e' eb k2=>GH hlk
  refine OS hv1 (by omega) hp1 (by omega) hidx (fun x ub2 ul2 uf2 hf2 hv2 on2=>by rw[hfk]at hf2;cases hf2) fun hf2=>Aa rfl ?_
  refine GS hp1 (by omega) hpl hpx (by omega) H.ql (fun w i' k' hq=>by rw[hpn]at hq;cases hq) fun _=>?_
  refine⟨_,?_,fun _ _ _ _ _ _ _ _ _ _ _ _ _ _ _ _ _ _ _ _ _ _ _ _ _ _ _ _ _ _ _ _ _ _ _ _ _ _ _ _ _ _ _ _ _ _ _ _ _ _ _ _ _ _ _ _ _ _ _ _ _ _ _ _ _ _ _ _ _ _ _ _ _ _ _ _ _ _ _ _ _ h=>h⟩
  cases htab:tab with
  | false=>
   subst htab
   have he:=elemt rfl
   subst he
   refine Cx (A9 (Cx ?_))
   have hst:BC i T cur ⟨false,false,ks,.mk s l f⟩= .ok (Ax T1 h (AS t kl 0 (.clo (.mk s l f) i)),cur):=by
    rw[step];unfold Cc;rw[hA];simp only[hlk];rfl
   refine S4 2000000 (.mk s l f) (by omega) (by omega) hv (BS st2) fun cb cl cf st3 hc3 o1 o2 o3 e3=>?_
   have hput:=Lu hA hlk 0 (.clo (.mk s l f) i)
   have hve:AA (.clo (.mk s l f) i)= .mk s l f:=by rw[AA]
   rw[hve]at hput
   refine KH (stp h++[.key kl]) hv1 (by omega) hc3 hp1 (EC h hA _ (IH t kl)) fun ub3 ul3 uf3 st4 hv4 on4 e4=>?_
   rw[hput]at hv4 on4⊢
   rw[KB]at hv4 on4⊢
   refine Aa on4 (LA (w:=1) (i:=i) on4 hcv hp1 hpl hpx (by omega) fun v' xs' st5 q1 q2 e5=>?_)
   have hR:RSt (Ax T1 h (AS t kl 0 (.clo (.mk s l f) i))) cur (pl++[(stp h++[Stp.key kl],1,i)]) ub3 ul3 uf3 cv v':=by
    refine⟨hv4,on4,H.cv,⟨xs',by rw[List.length_append];exact q1,q2⟩,?_,hql1,Lz hpn H.nd⟩
    refine Lw (eb:=0) (e':= .clo (.mk s l f) i) hP1 hA rfl (hadd _ 0) (fun p hp=>?_) rfl (by decide) hpn
    rw[hik p]
    cases p with
    | nil=>exact absurd rfl hp
    | cons a b=>cases a<;>rfl
   exact Aa hR.on15 (hk1 _ _ _ ub3 ul3 uf3 cv v' pv _ st5 hst hR (by simp) hp1 (fun h=>by cases h) (fun _=>hpath.symm) (((e2.trans e3).trans e4).trans e5))
  | true=>
   subst htab
   refine A9 (A9 (A9 ⟨_,?_,fun _ _ _ _ _ _ _ _ _ _ _ _ _ _ _ _ _ _ _ _ _ _ _ _ _ _ _ _ _ _ _ _ _ _ _ _ _ _ _ _ _ _ _ _ _ _ _ _ _ _ _ _ _ _ _ _ _ _ _ _ _ _ _ _ _ _ _ _ _ _ _ _ _ _ _ _ _ _ _ _ h=>h⟩))
   cases helem:elem with
   | true=>
    subst helem
    refine Cx (A9 (A9 (Cx (Cx ?_))))
    have hst:BC i T cur ⟨true,true,ks,.mk s l f⟩= .ok (Ax T1 h (AS t kl 0 (.lst [AB n0 false])),h++[(kl,some 0)]):=by
     rw[step];unfold Cc;rw[hA];simp only[hlk];rfl
    have hput:=Lu hA hlk 0 (.lst [])
    refine KH (stp h++[.key kl]) hv1 (by omega) vlist13 hp1 (EC h hA _ (IH t kl)) fun ub3 ul3 uf3 st4 hv4 on4 e4=>?_
    rw[hput]at hv4 on4⊢
    rw[KB]at hv4 on4⊢
    refine Aa on4 (LA (w:=3) (i:=i) on4 hcv hp1 hpl hpx (by omega) fun v' xs' st5 q1 q2 e5=>?_)
    refine Aa (on15 on4 hcv q1.one) (Aa rfl ?_)
    refine Lv (s:= .idx 0) hp1 (by omega) fun pv2 st6 hp6 e6=>?_
    have hA2:=DW h (x:=AS t kl 0 (.lst [])) hA
    have hlk2:Ag kl (AS t kl 0 (.lst [])).es=some (0,.lst []):=by rw[hadd];rw[if_pos rfl]
    have hput2:=Sa (p:=[.idx 0]) (x:=Ae (AB n0 false)) hA2 hlk2 (.lst [AB n0 false]) (R9 [] n0)
    have hTT:Ax (Ax T1 h (AS t kl 0 (.lst []))) h (B6 (AS t kl 0 (.lst [])) kl (.lst [AB n0 false]))=Ax T1 h (AS t kl 0 (.lst [AB n0 false])):=by
     rw[ID h hA,SF hlk]
    rw[hTT]at hput2
    have hsz2:(Ae (Ax T1 h (AS t kl 0 (.lst [])))).sz<=2000000:=by
     have c:=(DV h hA (AS t kl 0 (.lst []))).sz
     rw[QZ]at c
     have:(AA (.lst [])).sz=1:=by rw[AA,A1];simp[Vl.sz,BB,Bv,scL]
     omega
    have hok2:C6 (Ae (Ax T1 h (AS t kl 0 (.lst [])))) ((stp h++[Stp.key kl])++[.idx 0]):=by
     rw[List.append_assoc]
     refine EC h hA2 _ ?_
     rw[B1]
     show C6 _ (Stp.key kl::[.idx 0])
     unfold C6
     rw[Cs,hlk2]
     simp only[Option.map_some,Option.getD_some,AA,A1]
     unfold C6 C6
     exact⟨Nat.le_refl _,trivial⟩
    refine KH ((stp h++[Stp.key kl])++[.idx 0]) hv4 hsz2 (R3 n0 false) hp6 hok2 fun ub7 ul7 uf7 st7 hv7 on7 e7=>?_
    have hput3:Bn (Ae (Ax T1 h (AS t kl 0 (.lst [])))) ((stp h++[Stp.key kl])++[.idx 0]) (Ae (AB n0 false))=Ae (Ax T1 h (AS t kl 0 (.lst [AB n0 false]))):=by
     rw[List.append_assoc];exact hput2
    rw[hput3]at hv7 on7⊢
    rw[KB]at hv7 on7⊢
    have hq:(stp h++[Stp.key kl])++[.idx 0]=stp (h++[(kl,some 0)]):=(LZ h kl 0).symm
    rw[hq]at hp6
    have hR:RSt (Ax T1 h (AS t kl 0 (.lst [AB n0 false]))) (h++[(kl,some 0)]) (pl++[(stp h++[Stp.key kl],3,i)]) ub7 ul7 uf7 pv2 v':=by
     refine⟨hv7,on7,hp6,⟨xs',by rw[List.length_append];exact q1,q2⟩,?_,hql1,Lz hpn H.nd⟩
     refine Lw (eb:=0) (e':= .lst [AB n0 false]) hP1 hA rfl (hadd _ 0) (fun p hp=>?_) rfl (by decide) hpn
     rw[hik p]
     match p with
     | []=>exact absurd rfl hp
     | .key k::r=>rfl
     | .idx 0::r=>exact IK n0 false r
     | .idx (j+1)::r=>rfl
    exact Aa on7 (Aa (by rw[List.all_cons,Rd.one hp6];rfl) (Aa hR.on15 (hk1 _ _ _ ub7 ul7 uf7 pv2 v' pv2 _ st7 hst hR (by simp) hp6 (fun _=>rfl) (fun h=>by cases h) ((((e2.trans e4).trans e5).trans e6).trans e7))))
   | false=>
    subst helem
    refine A9 (A9 (A9 (Ab (fun h=>absurd h (by decide)) fun _=>Cx ?_)))
    have hst:BC i T cur ⟨true,false,ks,.mk s l f⟩= .ok (Ax T1 h (AS t kl 0 (.opn (AB n0 true))),h++[(kl,none)]):=by
     rw[step];unfold Cc;rw[hA];simp only[hlk];rfl
    have hput:=Lu hA hlk 0 (.opn (AB n0 true))
    rw[AA]at hput
    refine KH (stp h++[.key kl]) hv1 (by omega) (R3 n0 true) hp1 (EC h hA _ (IH t kl)) fun ub3 ul3 uf3 st4 hv4 on4 e4=>?_
    rw[hput]at hv4 on4⊢
    rw[KB]at hv4 on4⊢
    refine Aa on4 (LA (w:=2) (i:=i) on4 hcv hp1 hpl hpx (by omega) fun v' xs' st5 q1 q2 e5=>?_)
    have hp6:=hp1
    rw[<-H9]at hp6
    have hR:RSt (Ax T1 h (AS t kl 0 (.opn (AB n0 true)))) (h++[(kl,none)]) (pl++[(stp h++[Stp.key kl],2,i)]) ub3 ul3 uf3 pv v':=by
     refine⟨hv4,on4,hp6,⟨xs',by rw[List.length_append];exact q1,q2⟩,?_,hql1,Lz hpn H.nd⟩
     refine Lw (eb:=0) (e':= .opn (AB n0 true)) hP1 hA rfl (hadd _ 0) (fun p hp=>?_) rfl (by decide) hpn
     rw[hik p]
     match p with
     | []=>exact absurd rfl hp
     | .key k::r=>exact IK n0 true _
     | .idx j::r=>rfl
    exact Aa (on15 on4 hcv q1.one) (Aa (by rw[List.all_cons,Rd.one hp1];rfl) (Aa hR.on15 (hk1 _ _ _ ub3 ul3 uf3 pv v' pv _ st5 hst hR (by simp) hp6 (fun _=>rfl) (fun h=>by cases h) ((e2.trans e4).trans e5))))
 ·--something stands there
  rw[hlk]at hfk hik
  simp only[Option.map_some]at hfk
  simp only at hik
  have kind:∀w i,AM (stp h++[.key kl]) pl=some (w,i)->w=(Dy e).1:=fun w i hq=>by
   have h1:=(hP1.has hq).2
   have h2:=hik []
   rw[show stp h++Stp.key kl::[]=stp h++[Stp.key kl]from rfl,h1]at h2
   have:(Dy e)=(w,if w=1 then i else 0):=by cases e<;>exact h2.symm
   rw[this]
  have kind0:AM (stp h++[.key kl]) pl=none->(Dy e).1=0:=fun hq=>by
   have h1:=hP1.not hq
   have h2:=hik []
   rw[show stp h++Stp.key kl::[]=stp h++[Stp.key kl]from rfl]at h2
   rw[h2]at h1
   cases e<;>exact h1
  have hchg:∀(e':En) k2,Ag k2 (B6 t kl e').es=if k2=kl then some (eb,e')else Ag k2 t.es:=fun e' k2=>P0 hlk
  refine OS hv1 (by omega) hp1 (by omega) hidx (fun x ub2 ul2 uf2 hf2 hv2 on2=>?_) fun hf2=>by rw[hfk]at hf2;cases hf2
  rw[hfk]at hf2
  have hf2:AA e=x:=Option.some.inj hf2
  subst hf2
  refine Aa on2 ?_
  cases htab:tab with
  | false=>
   subst htab
   have he:=elemt rfl
   subst he
   have hst:BC i T cur ⟨false,false,ks,.mk s l f⟩= .error 8:=by
    rw[step];unfold Cc;rw[hA];simp only[hlk];rfl
   have fin:need (List.all (Aq scM ub ul uf++[cv,plv]) Ah) (K 7 false false [] 0 0 0 0 0 [] ub ul uf cv plv .nilSlice 8 st2):=Aa H15 (hk2 8 st2 hst e2)
   refine GS hp1 (by omega) hpl hpx (by omega) H.ql (fun w i' k' hq=>⟨_,?_,fun _ _ _ _ _ _ _ _ _ _ _ _ _ _ _ _ _ _ _ _ _ _ _ _ _ _ _ _ _ _ _ _ _ _ _ _ _ _ _ _ _ _ _ _ _ _ _ _ _ _ _ _ _ _ _ _ _ _ _ _ _ _ _ _ _ _ _ _ _ _ _ _ _ _ _ _ _ _ _ _ _ h=>h⟩) fun _=>⟨_,?_,fun _ _ _ _ _ _ _ _ _ _ _ _ _ _ _ _ _ _ _ _ _ _ _ _ _ _ _ _ _ _ _ _ _ _ _ _ _ _ _ _ _ _ _ _ _ _ _ _ _ _ _ _ _ _ _ _ _ _ _ _ _ _ _ _ _ _ _ _ _ _ _ _ _ _ _ _ _ _ _ _ _ h=>h⟩
   ·exact Cx (Cx fin)
   ·exact Cx (Cx fin)
  | true=>
   subst htab
   cases helem:elem with
   | true=>
    subst helem
    by_cases hlst:∃L,e= .lst L
    ·obtain⟨L,rfl⟩:=hlst
     have hw:∀w i',AM (stp h++[.key kl]) pl=some (w,i')->w=3:=fun w i' hq=>kind w i' hq
     refine GS hp1 (by omega) hpl hpx (by omega) H.ql (fun w i' k' hq=>?_) fun hq=>absurd (kind0 hq) (by simp[Dy])
     have hw3:=hw w i' hq
     subst hw3
     refine⟨_,?_,fun _ _ _ _ _ _ _ _ _ _ _ _ _ _ _ _ _ _ _ _ _ _ _ _ _ _ _ _ _ _ _ _ _ _ _ _ _ _ _ _ _ _ _ _ _ _ _ _ _ _ _ _ _ _ _ _ _ _ _ _ _ _ _ _ _ _ _ _ _ _ _ _ _ _ _ _ _ _ _ _ _ h=>h⟩
     refine A9 (A9 (A9 ⟨_,?_,fun _ _ _ _ _ _ _ _ _ _ _ _ _ _ _ _ _ _ _ _ _ _ _ _ _ _ _ _ _ _ _ _ _ _ _ _ _ _ _ _ _ _ _ _ _ _ _ _ _ _ _ _ _ _ _ _ _ _ _ _ _ _ _ _ _ _ _ _ _ _ _ _ _ _ _ _ _ _ _ _ h=>h⟩))
     refine Cx (Cx (Ab (fun h=>absurd rfl h) fun _=>Cx (A9 ?_)))
     have hst:BC i T cur ⟨true,true,ks,.mk s l f⟩= .ok (Ax T1 h (B6 t kl (.lst (L++[AB n0 false]))),h++[(kl,some L.length)]):=by
      rw[step];unfold Cc;rw[hA];simp only[hlk];rfl
     have hll2:=Mn hlk
     have hat:=(Ob hA).1
     rw[AA]at hv2
     obtain⟨_,_,_,_,_,hc2,y1,y2,_,y4,_⟩:=VlR.cells hv2
     rw[show(Vl.mk scL (A1 L) []).sc=scL from rfl]at hc2
     cases hc2
     refine Aa y2.isSl ?_
     rw[y2.lenS,AU,List.length_map]
     refine Lv (s:= .idx L.length) hp1 (by omega) fun pv2 st6 hp6 e6=>?_
     have hput2:=Sa (p:=[.idx L.length]) (x:=Ae (AB n0 false)) hA hlk (.lst (L++[AB n0 false])) (R9 L n0)
     have hok2:C6 (Ae T1) ((stp h++[Stp.key kl])++[.idx L.length]):=by
      rw[List.append_assoc]
      refine EC h hA _ ?_
      rw[B1]
      show C6 _ (Stp.key kl::[.idx L.length])
      unfold C6
      rw[Cs,hlk]
      simp only[Option.map_some,Option.getD_some,AA]
      unfold C6 C6
      exact⟨by rw[AU,List.length_map];exact Nat.le_refl _,trivial⟩
     refine KH ((stp h++[Stp.key kl])++[.idx L.length]) hv1 (by omega) (R3 n0 false) hp6 hok2 fun ub7 ul7 uf7 st7 hv7 on7 e7=>?_
     have hput3:Bn (Ae T1) ((stp h++[Stp.key kl])++[.idx L.length]) (Ae (AB n0 false))=Ae (Ax T1 h (B6 t kl (.lst (L++[AB n0 false])))):=by
      rw[List.append_assoc];exact hput2
     rw[hput3]at hv7 on7⊢
     rw[KB]at hv7 on7⊢
     have hq2:(stp h++[Stp.key kl])++[.idx L.length]=stp (h++[(kl,some L.length)]):=(LZ h kl L.length).symm
     rw[hq2]at hp6
     have hR:RSt (Ax T1 h (B6 t kl (.lst (L++[AB n0 false])))) (h++[(kl,some L.length)]) pl ub7 ul7 uf7 pv2 plv:=by
      refine⟨hv7,on7,hp6,⟨pxs,hpl,hpx⟩,hP1.congr fun q=>?_,H.ql,H.nd⟩
      refine pl_same (t':=B6 t kl (.lst (L++[AB n0 false]))) (eb:=eb) (e':= .lst (L++[AB n0 false])) hA rfl (hchg _) (fun p=>?_) q
      rw[hik p]
      match p with
      | []=>rfl
      | .key k::r=>rfl
      | .idx j::r=>
       show(match (L++[AB n0 false])[j]? with | some u=>Aw u r | none=>(0,0))=match L[j]? with | some u=>Aw u r | none=>(0,0)
       by_cases hj:j<L.length
       ·rw[List.getElem?_append_left hj]
       ·rw[List.getElem?_append_right (by omega),List.getElem?_eq_none (l:=L) (by omega)]
        cases hd:j-L.length with
        | zero=>exact IK n0 false r
        | succ m=>rfl
     exact Aa on7 (Aa (by rw[List.all_cons,Rd.one hp6];rfl) (Aa hR.on15 (hk1 _ _ _ ub7 ul7 uf7 pv2 plv pv2 _ st7 hst hR (by omega) hp6 (fun _=>rfl) (fun h=>by cases h) ((e2.trans e6).trans e7))))
    ·have hst:BC i T cur ⟨true,true,ks,.mk s l f⟩= .error 6:=by
      rw[step];unfold Cc;rw[hA];simp only[hlk]
      cases e with
      | lst L=>exact absurd ⟨L,rfl⟩ hlst
      | opn w=>rfl
      | clo w j=>rfl
     have fin:need (List.all (Aq scM ub ul uf++[cv,plv]) Ah) (K 7 false false [] 0 0 0 0 0 [] ub ul uf cv plv .nilSlice 6 st2):=Aa H15 (hk2 6 st2 hst e2)
     have k3:(Dy e).1≠3:=by
      cases e with
      | lst L=>exact absurd ⟨L,rfl⟩ hlst
      | opn w=>simp only[Dy];split<;>decide
      | clo w j=>simp[Dy]
     refine GS hp1 (by omega) hpl hpx (by omega) H.ql (fun w i' k' hq=>⟨_,?_,fun _ _ _ _ _ _ _ _ _ _ _ _ _ _ _ _ _ _ _ _ _ _ _ _ _ _ _ _ _ _ _ _ _ _ _ _ _ _ _ _ _ _ _ _ _ _ _ _ _ _ _ _ _ _ _ _ _ _ _ _ _ _ _ _ _ _ _ _ _ _ _ _ _ _ _ _ _ _ _ _ _ h=>h⟩) fun _=>⟨_,?_,fun _ _ _ _ _ _ _ _ _ _ _ _ _ _ _ _ _ _ _ _ _ _ _ _ _ _ _ _ _ _ _ _ _ _ _ _ _ _ _ _ _ _ _ _ _ _ _ _ _ _ _ _ _ _ _ _ _ _ _ _ _ _ _ _ _ _ _ _ _ _ _ _ _ _ _ _ _ _ _ _ _ h=>h⟩
     ·refine A9 (A9 (A9 ⟨_,?_,fun _ _ _ _ _ _ _ _ _ _ _ _ _ _ _ _ _ _ _ _ _ _ _ _ _ _ _ _ _ _ _ _ _ _ _ _ _ _ _ _ _ _ _ _ _ _ _ _ _ _ _ _ _ _ _ _ _ _ _ _ _ _ _ _ _ _ _ _ _ _ _ _ _ _ _ _ _ _ _ _ h=>h⟩))
      have hw:=kind w i' hq
      exact Cx (Cx (Ab (fun _=>fin) fun h=>absurd (show(w:Int)≠3 by omega) h))
     ·refine A9 (A9 (A9 ⟨_,?_,fun _ _ _ _ _ _ _ _ _ _ _ _ _ _ _ _ _ _ _ _ _ _ _ _ _ _ _ _ _ _ _ _ _ _ _ _ _ _ _ _ _ _ _ _ _ _ _ _ _ _ _ _ _ _ _ _ _ _ _ _ _ _ _ _ _ _ _ _ _ _ _ _ _ _ _ _ _ _ _ _ h=>h⟩))
      exact Cx (Cx (Ab (fun _=>fin) fun h=>absurd (by decide) h))
   | false=>
    subst helem
    by_cases hop:∃w,e= .opn w/\w.hd=false
    ·obtain⟨w,rfl,hwd⟩:=hop
     have hpn:AM (stp h++[Stp.key kl]) pl=none:=by
      cases hq:AM (stp h++[Stp.key kl]) pl with
      | none=>rfl
      | some x=>
       obtain⟨w',i'⟩:=x
       have h1:=kind w' i' hq
       simp only[Dy,hwd]at h1
       exact absurd h1 (hP1.has hq).1
     refine GS hp1 (by omega) hpl hpx (by omega) H.ql (fun w' i' k' hq=>by rw[hpn]at hq;cases hq) fun _=>⟨_,?_,fun _ _ _ _ _ _ _ _ _ _ _ _ _ _ _ _ _ _ _ _ _ _ _ _ _ _ _ _ _ _ _ _ _ _ _ _ _ _ _ _ _ _ _ _ _ _ _ _ _ _ _ _ _ _ _ _ _ _ _ _ _ _ _ _ _ _ _ _ _ _ _ _ _ _ _ _ _ _ _ _ _ h=>h⟩
     refine A9 (A9 (A9 ⟨_,?_,fun _ _ _ _ _ _ _ _ _ _ _ _ _ _ _ _ _ _ _ _ _ _ _ _ _ _ _ _ _ _ _ _ _ _ _ _ _ _ _ _ _ _ _ _ _ _ _ _ _ _ _ _ _ _ _ _ _ _ _ _ _ _ _ _ _ _ _ _ _ _ _ _ _ _ _ _ _ _ _ _ h=>h⟩))
     refine A9 (A9 (A9 (Ab (fun h=>absurd h (by decide)) fun _=>A9 ?_)))
     have hst:BC i T cur ⟨true,false,ks,.mk s l f⟩= .ok (Ax T1 h (B6 t kl (.opn (BT w))),h++[(kl,none)]):=by
      rw[step];unfold Cc;rw[hA];simp only[hlk,hwd];rfl
     have hval:Ae (Ax T1 h (B6 t kl (.opn (BT w))))=Ae T1:=by
      have h1:Ae (B6 t kl (.opn (BT w)))=Ae t:=by
       obtain⟨F,G,g1,g2⟩:=CD hlk
       unfold B6
       rw[Ae,g2,B1 t,g1,AA,AA,H7]
      have:=KI h hA (p:=[]) (x:=Ae t) (t':=B6 t kl (.opn (BT w))) (by rw[h1];cases Ae t;rfl)
      have h3:=KI h hA (p:=[]) (x:=Ae t) (t':=t) (by cases Ae t;rfl)
      rw[<-this,h3]
      have h4:Ax T1 h t=T1:=L7 h hA
      rw[h4]
     refine LA (w:=2) (i:=i) on1 hcv hp1 hpl hpx (by omega) fun v' xs' st5 q1 q2 e5=>?_
     have hp6:=hp1
     rw[<-H9]at hp6
     have hR:RSt (Ax T1 h (B6 t kl (.opn (BT w)))) (h++[(kl,none)]) (pl++[(stp h++[Stp.key kl],2,i)]) ub1 ul1 uf1 pv v':=by
      refine⟨by rw[hval];exact hv1,on1,hp6,⟨xs',by rw[List.length_append];exact q1,q2⟩,?_,hql1,Lz hpn H.nd⟩
      refine Lw (eb:=eb) (e':= .opn (BT w)) hP1 hA rfl (hchg _) (fun p hp=>?_) ?_ (by decide) hpn
      ·rw[hik p]
       match p with
       | []=>exact absurd rfl hp
       | .key k::r=>exact Th w _
       | .idx j::r=>rfl
      ·cases w;rfl
     exact Aa (on15 on1 hcv q1.one) (Aa (by rw[List.all_cons,Rd.one hp1];rfl) (Aa hR.on15 (hk1 _ _ _ ub1 ul1 uf1 pv v' pv _ st5 hst hR (by simp) hp6 (fun _=>rfl) (fun h=>by cases h) (e2.trans e5))))
    ·have hst:BC i T cur ⟨true,false,ks,.mk s l f⟩= .error 8:=by
      rw[step];unfold Cc;rw[hA];simp only[hlk]
      cases e with
      | opn w=>
       have:w.hd=true:=by
        cases hq:w.hd with
        | true=>rfl
        | false=>exact absurd ⟨w,rfl,hq⟩ hop
       simp only[this,if_true];rfl
      | lst L=>rfl
      | clo w j=>rfl
     have k0:(Dy e).1≠0:=by
      cases e with
      | opn w=>
       have:w.hd=true:=by
        cases hq:w.hd with
        | true=>rfl
        | false=>exact absurd ⟨w,rfl,hq⟩ hop
       simp[Dy,this]
      | lst L=>simp[Dy]
      | clo w j=>simp[Dy]
     refine GS hp1 (by omega) hpl hpx (by omega) H.ql (fun w' i' k' hq=>⟨_,?_,fun _ _ _ _ _ _ _ _ _ _ _ _ _ _ _ _ _ _ _ _ _ _ _ _ _ _ _ _ _ _ _ _ _ _ _ _ _ _ _ _ _ _ _ _ _ _ _ _ _ _ _ _ _ _ _ _ _ _ _ _ _ _ _ _ _ _ _ _ _ _ _ _ _ _ _ _ _ _ _ _ _ h=>h⟩) fun hq=>absurd (kind0 hq) k0
     refine A9 (A9 (A9 ⟨_,?_,fun _ _ _ _ _ _ _ _ _ _ _ _ _ _ _ _ _ _ _ _ _ _ _ _ _ _ _ _ _ _ _ _ _ _ _ _ _ _ _ _ _ _ _ _ _ _ _ _ _ _ _ _ _ _ _ _ _ _ _ _ _ _ _ _ _ _ _ _ _ _ _ _ _ _ _ _ _ _ _ _ h=>h⟩))
     exact A9 (A9 (A9 (Ab (fun _=>Aa H15 (hk2 8 st2 hst e2)) fun h=>absurd (by omega) h)))
theorem vmap00:VlR St.zero (Ae T00) (Aq scM .nilSlice .nilSlice .nilSlice):=R3 n0 false
theorem RSt.start:RSt T00 [] [] .nilSlice .nilSlice .nilSlice .nilSlice .nilSlice:=
 ⟨vmap00,rfl,.inl ⟨rfl,rfl,rfl⟩,⟨[],.inl ⟨rfl,rfl,rfl⟩,by unfold PlR;rfl⟩,fun q=>IK n0 false q |> fun h=>by show(Aw T00 q).1=0;rw[show Aw T00 q=(0,0)from h],(fun x hx=>by cases hx),List.nodup_nil⟩
theorem QJ:∀l:List Asg,l.length<=Dm l
 | []=>by simp
 | a::r=>by have:=QJ r;rw[Dm,List.length_cons];unfold asz;omega
structure Ran (l:List Asg) (T:Tb) (cur:List Hop):Prop where
 run:If l= .ok (T,cur)
 at_:∃u,atT T cur=some u
 nd:NdL (shT 1 T)
 ne:NeL (shT 1 T)
 ck:AY (Ae T)=0
 sz:(Ae T).sz<=1+Dm l
theorem rAll_ok {l:List Asg} {v:TV} {xs:List TV} {st:St} {K:Int->Bool->Bool->B8->Int->Int->Int->Int->Int->B8->TV->TV->TV->TV->TV->Int->Int->St->Prop} (hr:Rd 16 v l.length xs) (ha:Dp l xs) (hz:Dm l<=900000) (hln:l.length<=80000) (hc:∀a,a∈l->a.keys.length+a.val.cnt<=100000)
  (hk1:∀T cur pl ub ul uf cv plv st',Ran l T cur->RSt T cur pl ub ul uf cv plv->pl.length<=l.length->Aj st st'->K 7 false false [] 0 0 0 0 0 [] ub ul uf cv plv 0 0 st')
  (hk2:∀(i e:Nat) ub ul uf cv plv st',If l= .error (i,e)->e≠0->List.all (Aq scM ub ul uf++[cv,plv]) Ah=true->Aj st st'->K 7 false false [] 0 0 0 0 0 [] ub ul uf cv plv i e st'):
  CallT PR DE [v] [.agg [.int .i64,.bool,.bool,.str,.int .i64,.int .i64,.int .i64,.int .i64,.int .i64,.str,.tv,.tv,.tv,.tv,.tv],.one (.int .i64),.one (.int .i64)] st K:=by
 have hll:=QJ l
 refine IY v st K (Hx st _ (Aa rfl ?_))
 refine⟨fun i u z0 z1 z2 z3 z4 z5 z6 z7 z8 z9 z10 z11 z12 z1 z2 x0 x1 x2 x3 x4 x5 x6 x7 x8 x9 x10 x11 x12 c y st'=>v=u/\Aj st st'/\∃(j:Nat) (T:Tb) (cur:List Hop) (pl:List Plc) (u:Tb),i=j/\j<=l.length/\If l=GN j T cur (l.drop j)/\atT T cur=some u/\NdL (shT 1 T)/\NeL (shT 1 T)/\AY (Ae T)=0/\(Ae T).sz+Dm (l.drop j)<=1+Dm l/\pl.length<=j/\
   (x0=7/\x1=false/\x2=false/\x3=[]/\x4=0/\x5=0/\x6=0/\x7=0/\x8=0/\x9=[])/\RSt T cur pl x10 x11 x12 c y,
  fun i _ _ _ _ _ _ _ _ _ _ _ _ _ _ _ _ _ _ _ _ _ _ _ _ _ _ _ _ _ _ _ _=>(l.length-i).toNat,⟨rfl,Aj.refl st,0,T00,[],[],T00,rfl,Nat.zero_le _,rfl,rfl,G9 1 n0 false,G8 1 n0 false,?_,?_,Nat.le_refl _,⟨rfl,rfl,rfl,rfl,rfl,rfl,rfl,rfl,rfl,rfl⟩,RSt.start⟩,?_⟩
 ·exact Du.2 ⟨DT n0 false,by rw[show lvV (Ae T00)=1 from LB n0 false];omega,by have:=EM n0 false;rw[AA]at this;rw[show(Ae T00).cnt=1 from this];omega⟩
 ·rw[show(Ae T00).sz=1 from Lo n0 false,List.drop_zero];omega
 rintro _ _ z0 z1 z2 z3 z4 z5 z6 z7 z8 z9 z10 z11 z12 z1 z2 _ _ _ _ _ _ _ _ _ _ x10 x11 x12 cv plv st1 ⟨rfl,e1,j,T,cur,pl,u,rfl,hj,hrun,hu,hN,hNe,hV,hsz,hpl,⟨rfl,rfl,rfl,rfl,rfl,rfl,rfl,rfl,rfl,rfl⟩,H⟩
 refine Aa hr.isSl ?_
 rw[hr.lenS]
 refine Ab (fun g=>?_) fun g=>?_
 ·have hlt:j<l.length:=by omega
  obtain⟨a,hja⟩:∃a,l[j]? =some a:=⟨_,List.getElem?_eq_getElem hlt⟩
  have hmem:=List.mem_of_getElem? hja
  refine⟨⟨by omega,by rw[hr.lenZ];omega⟩,?_⟩
  rw[Int.toNat_natCast]
  rw[Oc hja]at hsz
  have hle:=O5 l (j+1)
  unfold asz at hsz
  rw[Bt hja]at hrun
  have hcT:=Dv hV
  have hca:=hc a hmem
  refine ldA hr ha hja fun kv ub' ul uf h1 h2 h3=>?_
  refine TY H hu hNe (by omega) (by omega) (by omega) h1 h2 (fun T' cur' pl' ub2 ul2 uf2 cv2 plv2 pv q st2 hs H' hpl' hpv _ _ e2=>?_) fun e st2 hs e2=>?_
  ·obtain⟨⟨u',hu'⟩,hN',hNe',_,hsz'⟩:=Pt hu hN hNe hs
   refine Aa H'.on15 (Ab (fun _=>?_) fun h=>absurd rfl h)
   refine S5 (v:=Ae T') (by omega) H'.v (BS st2) fun st3 e3=>?_
   refine Ab (fun hne=>Aa H.on15 ?_) fun heq=>Aa H'.on15 ?_
   ·have hne':AY (Ae T')≠0:=fun e=>hne (by rw[e];rfl)
    refine hk2 j (AY (Ae T')) _ _ _ _ _ st3 ?_ hne' H.on15 ((e1.trans e2).trans e3)
    rw[hrun,GN,hs]
    simp only
    rw[if_neg hne']
   ·have hcv:AY (Ae T')=0:=by omega
    rw[Am _ (by omega) (by omega)]
    refine⟨⟨rfl,(e1.trans e2).trans e3,j+1,T',cur',pl',u',by omega,hlt,?_,hu',hN',hNe',hcv,by omega,by omega,⟨rfl,rfl,rfl,rfl,rfl,rfl,rfl,rfl,rfl,rfl⟩,H'⟩,by dsimp only;omega⟩
    rw[hrun,GN,hs]
    simp only
    rw[if_pos hcv]
  ·have he:=Pu hs ⟨u,hu⟩ hNe
   refine Aa H.on15 (Ab (fun h=>absurd h (by omega)) fun _=>Ab (fun _=>Aa H.on15 ?_) fun h=>absurd (by omega) h)
   have:=hk2 j e.toNat _ _ _ _ _ st2 ?_ (by omega) H.on15 (e1.trans e2)
   ·have e2:((e.toNat:Nat):Int)=e:=by omega
    rw[e2]at this;exact this
   ·rw[hrun,GN,hs]
 ·have hjj:j=l.length:=by omega
  subst hjj
  rw[List.drop_length,GN]at hrun
  rw[List.drop_length,Dm]at hsz
  exact Aa H.on15 (hk1 T cur pl _ _ _ _ _ st1 ⟨hrun,⟨u,hu⟩,hN,hNe,hV,by omega⟩ H (by omega) e1)
theorem Ot {xs:List TV} {k n j:Nat} {cs:List TV} (h:(xs.drop k).take n=cs) {x:TV} (hx:cs[j]? =some x):xs[k+j]? =some x:=by
 rw[<-h,List.getElem?_take]at hx
 split at hx
 ·rwa [List.getElem?_drop]at hx
 ·cases hx
theorem Dp.at_ {l:List Asg} {xs:List TV} {i:Nat} {a:Asg} (h:Dp l xs) (hi:l[i]? =some a):∃kv vc,xs[i*16+2]? =some kv/\Rd 1 kv a.keys.length (a.keys.map TV.str)/\(xs.drop (i*16+3)).take 13=vc/\VlR St.zero a.val vc/\xs[i*16+0]? =some (.bool a.tab)/\xs[i*16+1]? =some (.bool a.elem):=by
 obtain⟨kv,vc,h1,h2,h3⟩:=h.get hi
 refine⟨kv,vc,Ot h1 rfl,h2,?_,h3,Ot h1 rfl,Ot h1 rfl⟩
 have:((xs.drop (i*16)).take 16).drop 3=vc:=by rw[h1];rfl
 rw[List.drop_take,List.drop_drop]at this
 exact this
def SmA (a:Asg):Prop:=a.keys.length<=60/\kz a.keys<=2060/\a.val.sz<=20150/\a.val.cnt<=150
theorem SR {l:List Asg} {v:TV} {xs:List TV} {st:St} {K:Bool->St->Prop} (hr:Rd 16 v l.length xs) (ha:Dp l xs) (hk:∀b:Bool,(b=true->l.length<=30/\∀a,a∈l->SmA a)->K b st):CallT PR C0 [v] [.one .bool] st K:=by
 have no:K false st:=hk false fun h=>by cases h
 refine HK v st K ⟨fun i u st'=>v=u/\st=st'/\∃k:Nat,i=k/\k<=l.length/\k<=30/\∀(j:Nat) a,j<k->l[j]? =some a->SmA a,fun i _ _=>(l.length-i).toNat,⟨rfl,rfl,0,rfl,Nat.zero_le _,by omega,fun j a hj=>by omega⟩,?_⟩
 rintro _ _ _ ⟨rfl,rfl,k,rfl,hkl,hk30,hok⟩
 have hlz:=hr.lenZ
 refine Aa hr.isSl ?_
 rw[hr.lenS]
 refine Ab (fun g=>Ab (fun _=>no) fun g1=>?_) fun g=>?_
 ·have hlt:k<l.length:=by omega
  obtain⟨a,hja⟩:∃a,l[k]? =some a:=⟨_,List.getElem?_eq_getElem hlt⟩
  obtain⟨kv,vc,h1,h2,h3,h4,_,_⟩:=ha.at_ hja
  have hip:=hr.isP hlt
  refine⟨⟨by omega,by rw[hlz];omega⟩,Aa (by rw[Int.toNat_natCast];exact hip) (Ad (x:=kv) (by rw[Int.toNat_natCast];exact hr.ldfx st k 2 h1) (Aa h2.isSl ?_))⟩
  rw[h2.lenS]
  refine Ab (fun _=>no) fun g2=>⟨⟨by omega,by rw[hlz];omega⟩,Aa (by rw[Int.toNat_natCast];exact hip) ?_⟩
  rw[Int.toNat_natCast,(SlR.of_rd (st:=st) hr).ldcf ha.len hlt (by omega:3+13<=16),h3]
  obtain⟨tab,elem,ks,av⟩:=a
  obtain⟨s,lv,fv⟩:=av
  simp only at h2 h4 g2
  have h40:=h4
  obtain⟨ub,ul,uf,_,_,rfl,_⟩:=VlR.cells h4
  refine Ad rfl (Hk (Q1 h40 fun b hb=>As (fun _=>no) fun hb0=>?_))
  have hb1:=hb (by simpa using hb0)
  refine⟨fun n k2 u i st'=>v=u/\i=(k:Int)/\st=st'/\∃m:Nat,k2=m/\m<=ks.length/\0<=n/\n<=2000/\n+m=kz (ks.take m),fun _ k2 _ _ _=>(ks.length-k2).toNat,⟨rfl,rfl,rfl,0,rfl,Nat.zero_le _,by omega,by omega,by simp[kz]⟩,?_⟩
  rintro n _ _ _ _ ⟨rfl,rfl,rfl,m,rfl,hm,hn0,hn1,hn2⟩
  have ldk:∀{f:TV->Prop},f kv->(0<=(k:Int)/\(k:Int)<(lenZ 16 v:Int))/\need (isPtr (ixT 16 v (Int.toNat (k:Int)))) (Ai (Ac st [] (.t (At (ixT 16 v (Int.toNat (k:Int))) 2)) 0) f):=fun hf=>
   ⟨⟨by omega,by rw[hlz];omega⟩,Aa (by rw[Int.toNat_natCast];exact hip) (Ad (x:=kv) (by rw[Int.toNat_natCast];exact hr.ldfx st k 2 h1) hf)⟩
  refine ldk (Aa h2.isSl ?_)
  rw[h2.lenS]
  refine Ab (fun g3=>?_) fun g3=>?_
  ·have hmk:m<ks.length:=by omega
   have hkg:=Ds hmk
   have ldm:∀{f:B8->Prop},f (ks.getD m [])->(0<=(m:Int)/\(m:Int)<(lenZ 1 kv:Int))/\Ai (Ac st [] (.t (ixT 1 kv (Int.toNat (m:Int)))) 0) fun x=>AE .str x f:=fun hf=>
    ⟨⟨by omega,by rw[h2.lenZ];omega⟩,Ad (x:= .str (ks.getD m [])) (by rw[Int.toNat_natCast];exact h2.ldx st m 0 (by rw[Nat.mul_one];exact hkg)) (Ct hf)⟩
   refine ldk (ldm ?_)
   rw[Am (2000-n) (by omega) (by omega)]
   refine Ab (fun _=>no) fun g4=>ldk (ldm ?_)
   rw[Am _ (by omega) (by omega),Am _ (by omega) (by omega)]
   refine⟨⟨rfl,rfl,rfl,m+1,by omega,hmk,by omega,by omega,?_⟩,by dsimp only;omega⟩
   rw[Co hmk,KQ]
   have:kz [ks.getD m []]=(ks.getD m []).length+1:=by simp[kz]
   omega
  ·have hmm:m=ks.length:=by omega
   rw[hmm,List.take_length]at hn2
   rw[Am _ (by omega) (by omega)]
   refine⟨⟨rfl,rfl,k+1,by omega,hlt,by omega,fun j a hj hja2=>?_⟩,by dsimp only;omega⟩
   by_cases hjk:j=k
   ·subst hjk
    rw[hja]at hja2
    cases hja2
    exact⟨by simp only;omega,by simp only;omega,hb1.1,hb1.2⟩
   ·exact hok j a (by omega) hja2
 ·have hkk:k=l.length:=by omega
  refine hk true fun _=>⟨by omega,fun a hma=>?_⟩
  obtain⟨j,hj⟩:=List.getElem?_of_mem hma
  exact hok j a (by have:=(List.getElem?_eq_some_iff.1 hj).1;omega) hj
theorem SmA.sum {l:List Asg} (hl:l.length<=30) (h:∀a,a∈l->SmA a):Dm l<=900000/\l.length<=80000/\∀a,a∈l->a.keys.length+a.val.cnt<=100000:=by
 have:∀m:List Asg,(∀a,a∈m->SmA a)->Dm m<=m.length*22212:=by
  intro m
  induction m with
  | nil=>intro _;simp[Dm]
  | cons a r ih=>
   intro hm
   have h1:=ih fun x hx=>hm x (.tail _ hx)
   obtain⟨h2,h3,h4,h5⟩:=hm a (.head _)
   rw[Dm,List.length_cons];unfold asz;omega
 have:=this l h
 refine⟨by omega,by omega,fun a ha=>?_⟩
 obtain⟨h2,h3,h4,h5⟩:=h a ha
 omega
theorem u8_nil:U8 []:=by unfold U8;rw[B7 _ (by simp[ul])];rfl
theorem SM {c:UInt8} (h:D5 false [c] 0):AZ (Ll c):=by
 unfold Ll AZ
 exact⟨⟨⟨by simp,by simp,by simp[scZ],by simp,by simp[scZ],by simp[scZ],by simp[scZ],by simp,by simp⟩,h,by simp,u8_nil,by simp[scZ],by simp[scZ],rfl⟩,by unfold Cv;trivial,by unfold Cw;trivial⟩
theorem dec49:D5 false [49] 0:=by decide
theorem sz_int (c:UInt8):(Ll c).sz=2:=by unfold Ll Vl.sz BB Bv;simp[scZ]
theorem cnt_int (c:UInt8):(Ll c).cnt=1:=by unfold Ll Vl.cnt AF AI;rfl
theorem SK:DM []=0:=B7 _ (by simp[ul])
theorem SL {c:UInt8} {l:B8} (hc:c.toNat<128) (hl:DM l=l.length):DM (c::l)=(c::l).length:=by
 have h:=TL (c::l) (by simp) hc
 rw[Gy _ (by omega),h.1]
 simp only[List.drop_succ_cons,List.drop_zero,List.length_cons];omega
theorem LL:∀l:B8,(l.all fun c=>decide (c.toNat<128))=true->DM l=l.length
 | [],_=>SK
 | c::l,h=>by
  simp only[List.all_cons,Bool.and_eq_true,decide_eq_true_eq]at h
  exact SL h.1 (LL l h.2)
theorem Q0 {i:Nat} {T T' u:Tb} {cur cur':List Hop} {a:Asg} (hu:atT T cur=some u) (hne:NeL (shT 1 T)) (hs:BC i T cur a= .ok (T',cur')) (hv:AZ (Ae T)) (hk:∀k,k∈a.keys->U8 k/\k.length<=1024) (ha:a.elem=false->a.tab=false->AZ a.val):AZ (Ae T'):=by
 unfold BC DZ at hs
 split at hs
 ·cases hs
 rename_i hp
 split at hs
 ·cases hs
 rename_i T1 h hh
 have hks:a.keys≠ []:=fun e=>by
  have:Cm a=true:=by simpa using hp
  unfold Cm at this
  rw[e]at this;simp at this
 obtain⟨u0,hu0⟩:∃u0,atT T (if a.tab=true then []else cur)=some u0:=by
  split
  ·exact⟨T,by cases T;rfl⟩
  ·exact⟨u,hu⟩
 obtain⟨W,hne1⟩:=FD _ 0 hu0 hne hh (Nat.le_refl _)
 obtain⟨F,_⟩:=Io hne1 hs
 have hl:a.keys.getLastD []∈a.keys:=by
  rw[List.getLastD_eq_getLast?,List.getLast?_eq_some_getLast hks]
  exact List.getLast_mem hks
 exact F.va ⟨(hk _ hl).1,(hk _ hl).2,ha⟩ (W.va (fun k hk'=>hk k (List.dropLast_subset _ hk')) hv)
structure Nr (T:Tb) (cur:List Hop) (n:Nat):Prop where
 at_:∃u,atT T cur=some u
 nd:NdL (shT 1 T)
 ne:NeL (shT 1 T)
 va:AZ (Ae T)
 cnt:(Ae T).cnt<=n
theorem Nr.ck {T:Tb} {cur:List Hop} {n:Nat} (h:Nr T cur n) (hn:n<=48):AY (Ae T)=0:=
 Du.2 ⟨h.va,by have:=Mk (Ae T);have:=h.cnt;omega,by have:=h.cnt;omega⟩
theorem Nr.start:Nr T00 [] 1:=
 ⟨⟨T00,rfl⟩,G9 1 n0 false,G8 1 n0 false,DT n0 false,by have:=EM n0 false;rw[AA]at this;rw[show(Ae T00).cnt=1 from this];omega⟩
theorem Nr.step {i n:Nat} {T T':Tb} {cur cur':List Hop} {a:Asg} (h:Nr T cur n) (hs:BC i T cur a= .ok (T',cur')) (hk:∀k,k∈a.keys->U8 k/\k.length<=1024) (ha:a.elem=false->a.tab=false->AZ a.val):Nr T' cur' (n+a.keys.length+2+a.val.cnt):=by
 obtain⟨u,hu⟩:=h.at_
 obtain⟨h1,h2,h3,h4,_⟩:=Pt hu h.nd h.ne hs
 exact⟨h1,h2,h3,Q0 hu h.ne hs h.va hk ha,by have:=h.cnt;omega⟩
theorem QV {c:UInt8} (h:c.toNat<128):U8 [c]/\[c].length<=1024:=⟨LL [c] (by simp[h]),by simp⟩
def aP (ks:List B8):Asg:=⟨false,false,ks,Ll 49⟩
def aT (ks:List B8):Asg:=⟨true,false,ks,vlO⟩
def aE (ks:List B8):Asg:=⟨true,true,ks,vlO⟩
theorem QK {kv:TV} {ks:List B8} (h:Rd 1 kv ks.length (ks.map TV.str)):QQ (aP ks) [.bool false,.bool false,kv,.int .i64 2,.bool false,.bool false,.str [49],.int .i64 0,.int .i64 0,.int .i64 0,.int .i64 0,.int .i64 0,.str [],.nilSlice,.nilSlice,.nilSlice]:=
 ⟨kv,_,rfl,h,R5 St.zero _ rfl⟩
theorem asg_T {kv:TV} {e:Bool} {ks:List B8} (h:Rd 1 kv ks.length (ks.map TV.str)):QQ ⟨true,e,ks,vlO⟩ [.bool true,.bool e,kv,.int .i64 0,.bool false,.bool false,.str [],.int .i64 0,.int .i64 0,.int .i64 0,.int .i64 0,.int .i64 0,.str [],.nilSlice,.nilSlice,.nilSlice]:=
 ⟨kv,_,rfl,h,QR⟩
theorem FP {a:Asg} {c:List TV} {r:List Asg} {d:List TV} (h:QQ a c) (k:Dp r d):Dp (a::r) (c++d):=by unfold Dp;exact⟨c,d,rfl,h,k⟩
theorem O6:Dp [] []:=by unfold Dp;rfl
def kA:B8:=[97]
def kB:B8:=[98]
def kX:B8:=[120]
def kY:B8:=[121]
def kZ:B8:=[122]
def Na (es:List Kn):Tb:= .mk 0 0 false es
theorem vP:AZ (Ll 49):=SM dec49
theorem Tv:(Ll 49).cnt=1:=cnt_int 49
theorem cntO:vlO.cnt=1:=by unfold vlO Vl.cnt AF AI;rfl
def En.v1 (i:Nat):En:= .clo (Ll 49) i
def T1a:Tb:=Na [.mk kA 0 (.opn (Na [.mk kB 0 (.v1 0)]))]
def T2a:Tb:=Na [.mk kA 0 (.opn (Na [.mk kB 0 (.v1 0)])),.mk kX 0 (.opn (Na [.mk kY 0 (.opn (.mk 0 0 true []))]))]
def T3a:Tb:=Na [.mk kA 0 (.opn (Na [.mk kB 0 (.v1 0)])),.mk kX 0 (.opn (Na [.mk kY 0 (.opn (.mk 0 0 true [.mk kZ 0 (.v1 2)]))]))]
def T1b:Tb:=Na [.mk kA 0 (.v1 0)]
theorem run_a:If [aP [kA,kB],aT [kX,kY],aP [kZ]]= .ok (T3a,[(kX,none),(kY,none)]):=by
 have s1:BC 0 T00 [] (aP [kA,kB])= .ok (T1a,[]):=rfl
 have s2:BC 1 T1a [] (aT [kX,kY])= .ok (T2a,[(kX,none),(kY,none)]):=rfl
 have s3:BC 2 T2a [(kX,none),(kY,none)] (aP [kZ])= .ok (T3a,[(kX,none),(kY,none)]):=rfl
 have hk:∀(ks:List B8),(∀k,k∈ks->k=kA∨k=kB∨k=kX∨k=kY∨k=kZ)->∀k,k∈ks->U8 k/\k.length<=1024:=fun ks h k hm=>by
  rcases h k hm with rfl | rfl | rfl | rfl | rfl<;>exact QV (by decide)
 have w1:=Nr.start.step s1 (hk _ (by simp[aP])) (fun _ _=>vP)
 have w2:=w1.step s2 (hk _ (by simp[aT])) (fun _ h=>by cases h)
 have w3:=w2.step s3 (hk _ (by simp[aP])) (fun _ _=>vP)
 have c1:=w1.ck (by simp[aP,Tv])
 have c2:=w2.ck (by simp[aP,aT,Tv,cntO])
 have c3:=w3.ck (by simp[aP,aT,Tv,cntO])
 unfold If
 rw[GN,s1]
 simp only
 rw[if_pos c1,GN,s2]
 simp only
 rw[if_pos c2,GN,s3]
 simp only
 rw[if_pos c3,GN]
theorem run_b:If [aP [kA],aP [kA,kB]]= .error (1,8):=by
 have s1:BC 0 T00 [] (aP [kA])= .ok (T1b,[]):=rfl
 have s2:BC 1 T1b [] (aP [kA,kB])= .error 8:=rfl
 have w1:=Nr.start.step s1 (fun k hm=>by rw[List.mem_singleton.1 hm];exact QV (by decide)) (fun _ _=>vP)
 have c1:=w1.ck (by simp[aP,Tv])
 unfold If
 rw[GN,s1]
 simp only
 rw[if_pos c1,GN,s2]
 rfl
theorem run_c:If [aP [kA],aE [kA]]= .error (1,6):=by
 have s1:BC 0 T00 [] (aP [kA])= .ok (T1b,[]):=rfl
 have s2:BC 1 T1b [] (aE [kA])= .error 6:=rfl
 have w1:=Nr.start.step s1 (fun k hm=>by rw[List.mem_singleton.1 hm];exact QV (by decide)) (fun _ _=>vP)
 have c1:=w1.ck (by simp[aP,Tv])
 unfold If
 rw[GN,s1]
 simp only
 rw[if_pos c1,GN,s2]
 rfl
theorem Ij {kv:TV} {st:St} {K:Bool->Bool->TV->Int->Bool->Bool->B8->Int->Int->Int->Int->Int->B8->TV->TV->TV->St->Prop} (hk1:Ah kv=true) (hk:K false false kv 2 false false str5 0 0 0 0 0 [] .nilSlice .nilSlice .nilSlice st):
  CallT PR AX [kv] [.agg [.bool,.bool,.tv,.int .i64,.bool,.bool,.str,.int .i64,.int .i64,.int .i64,.int .i64,.int .i64,.str,.tv,.tv,.tv]] st K:=by
 refine HL kv st K (GZ st _ (Aa (by simp[hk1]) (Aa ?_ hk)))
 show(true&&(true&&(Ah kv&&true)))=true
 rw[hk1];rfl
theorem valT3a:∃F1:List Fd,Ae T3a= .mk scM [] [.mk kA (.mk scM [] F1),.mk kX (.mk scM [] [.mk kY (.mk scM [] [.mk kZ (Ll 49)])])]:=by
 unfold T3a Na En.v1
 simp only[Ae,AD,AA]
 exact⟨_,rfl⟩
theorem IU {st:St} {K:Bool->St->Prop} (hk:∀st',K true st'):CallT PR Bl [] [.one .bool] st K:=by
 have hb:∀(a:Asg),a=aP [kA,kB]∨a=aT [kX,kY]∨a=aP [kZ]∨a=aP [kA]∨a=aE [kA]->asz a<=20/\a.keys.length+a.val.cnt<=100000:=fun a ha=>by
  have h1:(Ll 49).sz=2:=sz_int 49
  have h2:vlO.sz=1:=by unfold vlO Vl.sz BB Bv;simp[scO]
  rcases ha with rfl | rfl | rfl | rfl | rfl<;>simp[asz,aP,aT,aE,kz,kA,kB,kX,kY,kZ,h1,h2,Tv,cntO]
 have hA:Dp [aP [kA,kB],aT [kX,kY],aP [kZ]] _:=FP (QK (kv:= .list 1 .full 2 [.str Nb,.str str1]) (.inr ⟨_,rfl⟩)) (FP (asg_T (e:=false) (ks:=[kX,kY]) (kv:= .list 1 .full 2 [.str str2,.str str3]) (.inr ⟨_,rfl⟩)) (FP (QK (ks:=[kZ]) (kv:= .list 1 .full 1 [.str str4]) (.inr ⟨_,rfl⟩)) O6))
 have hB:Dp [aP [kA],aP [kA,kB]] _:=FP (QK (kv:= .list 1 .full 1 [.str Nb]) (.inr ⟨_,rfl⟩)) (FP (QK (ks:=[kA,kB]) (kv:= .list 1 .full 2 [.str Nb,.str str1]) (.inr ⟨_,rfl⟩)) O6)
 have hC:Dp [aP [kA],aE [kA]] _:=FP (QK (kv:= .list 1 .full 1 [.str Nb]) (.inr ⟨_,rfl⟩)) (FP (asg_T (e:=true) (ks:=[kA]) (kv:= .list 1 .full 1 [.str Nb]) (.inr ⟨_,rfl⟩)) O6)
 have z3:∀{a b c:Asg},asz a<=20->asz b<=20->asz c<=20->Dm [a,b,c]<=900000:=fun h1 h2 h3=>by simp only[Dm];omega
 have z2:∀{a b:Asg},asz a<=20->asz b<=20->Dm [a,b]<=900000:=fun h1 h2=>by simp only[Dm];omega
 have a1:=hb _ (.inl rfl)
 have a2:=hb _ (.inr (.inl rfl))
 have a3:=hb _ (.inr (.inr (.inl rfl)))
 have a4:=hb _ (.inr (.inr (.inr (.inl rfl))))
 have a5:=hb _ (.inr (.inr (.inr (.inr rfl))))
 refine HM st K (Ij rfl (Ij rfl ?_))
 refine TH (l:=[aP [kA,kB],aT [kX,kY],aP [kZ]]) (.inr ⟨_,rfl⟩) hA (z3 a1.1 a2.1 a3.1) (fun a ha=>?_) (fun T cur ub ul uf st1 hrun _ _ hv on=>Aa on ?_) fun i e st1 hrun _=>by rw[run_a]at hrun;cases hrun
 ·simp only[List.mem_cons,List.not_mem_nil,or_false]at ha
  rcases ha with rfl | rfl | rfl
  ·exact a1.2
  ·exact a2.2
  ·exact a3.2
 rw[run_a]at hrun
 have hT:T=T3a:=by cases hrun;rfl
 subst hT
 refine Ij rfl (Ij rfl ?_)
 refine Oj (l:=[aP [kA],aP [kA,kB]]) (.inr ⟨_,rfl⟩) hB (z2 a4.1 a1.1) (fun a ha=>?_) (fun T cur st2 h2=>by rw[run_b]at h2;cases h2) fun i e st2 h2 _=>?_
 ·simp only[List.mem_cons,List.not_mem_nil,or_false]at ha
  rcases ha with rfl | rfl
  ·exact a4.2
  ·exact a1.2
 rw[run_b]at h2
 have h2':i=1/\e=8:=by cases h2;exact⟨rfl,rfl⟩
 obtain⟨rfl,rfl⟩:=h2'
 refine Ij rfl ?_
 refine Oj (l:=[aP [kA],aE [kA]]) (.inr ⟨_,rfl⟩) hC (z2 a4.1 a5.1) (fun a ha=>?_) (fun T cur st3 h3=>by rw[run_c]at h3;cases h3) fun i e st3 h3 _=>?_
 ·simp only[List.mem_cons,List.not_mem_nil,or_false]at ha
  rcases ha with rfl | rfl
  ·exact a4.2
  ·exact a5.2
 rw[run_c]at h3
 have h3':i=1/\e=6:=by cases h3;exact⟨rfl,rfl⟩
 obtain⟨rfl,rfl⟩:=h3'
 obtain⟨F1,hval⟩:=valT3a
 rw[hval]at hv
 obtain⟨_,_,_,xl,xf,hc,w1,w2,w3,w4,w5⟩:=VlR.cells hv
 replace hc:Aq scM ub ul uf=Aq scM _ _ _:=hc
 cases hc
 unfold FsR at w5
 obtain⟨c1,d1,rfl,f1,w5⟩:=w5
 unfold FsR at w5
 obtain⟨c2,d2,rfl,f2,w5⟩:=w5
 unfold FsR at w5
 subst w5
 unfold FdR at f1 f2
 obtain⟨v1,rfl,f1⟩:=f1
 obtain⟨v2,rfl,f2⟩:=f2
 obtain⟨p1,p2,p3,p4,p5,rfl,_⟩:=VlR.cells f1
 obtain⟨q1,q2,q3,q4,q5,rfl,g1,g2,g3,g4,g5⟩:=VlR.cells f2
 unfold FsR at g5
 obtain⟨c3,d3,rfl,f3,g5⟩:=g5
 unfold FsR at g5
 subst g5
 unfold FdR at f3
 obtain⟨v3,rfl,f3⟩:=f3
 obtain⟨r1,r2,r3,r4,r5,rfl,k1,k2,k3,k4,k5⟩:=VlR.cells f3
 rcases w4.zero with⟨_,h0,_⟩ | ⟨t1,rfl⟩
 ·simp at h0
 rcases g4.zero with⟨_,h0,_⟩ | ⟨t2,rfl⟩
 ·simp at h0
 have hkx:str2=kX:=rfl
 have l2:(0:Int)<=1/\(1:Int)<((2:Nat):Int):=⟨by decide,by decide⟩
 have l1:(0:Int)<=0/\(0:Int)<((1:Nat):Int):=⟨by decide,by decide⟩
 refine Ab (fun _=>Aa rfl ?_) fun h=>absurd rfl h
 refine Ab (fun _=>?_) fun h=>absurd rfl h
 refine⟨l2,Aa rfl (Ad (x:= .str kX) rfl (Ct ?_))⟩
 refine Ab (fun _=>?_) fun h=>absurd rfl h
 refine⟨l2,Aa rfl (Aa rfl (Ad (x:= .list 14 t2 1 _) rfl (Aa rfl ?_)))⟩
 refine Ab (fun _=>?_) fun h=>absurd rfl h
 refine⟨l2,Aa rfl (Aa rfl (Ad (x:= .list 14 t2 1 _) rfl ?_))⟩
 refine⟨l1,Aa rfl (Aa rfl (Ad (x:=r3) rfl (Aa k4.isSl ?_)))⟩
 rw[k4.lenS]
 refine Ab (fun _=>?_) fun h=>absurd rfl h
 refine Ab (fun _=>?_) fun h=>absurd rfl h
 refine Ab (fun _=>?_) fun h=>absurd rfl h
 refine Ab (fun _=>?_) fun h=>absurd rfl h
 exact hk st3
theorem OI {w:Vl} {cs:List TV} (h:VlR St.zero w cs):List.all cs Ah=true:=by
 obtain⟨s,l,f⟩:=w
 obtain⟨ub,ul,uf,_,_,rfl,w1,w2,_,w4,_⟩:=VlR.cells h
 exact Bi w1.one w2.one w4.one
theorem IO {w x:Vl} {s:AT} {i:Int} (h:BZ w s= .ok (x,i)):(w.sc.kind=6/\s.1=true/\i=s.2.2/\w.list[s.2.2.toNat]? =some x)∨(w.sc.kind=7/\s.1=false/\∃j:Nat,i=j/\FU w.flds s.2.1 0=some (x,j)):=by
 unfold BZ at h
 by_cases hb:s.1=true
 ·rw[if_pos hb]at h
  by_cases hk:w.sc.kind=6
  ·rw[if_pos hk]at h
   split at h
   ·rename_i y hy
    simp only[Except.ok.injEq,Prod.mk.injEq]at h
    exact .inl ⟨hk,hb,h.2.symm,h.1▸hy⟩
   ·cases h
  ·rw[if_neg hk]at h;cases h
 ·rw[if_neg hb]at h
  by_cases hk:w.sc.kind=7
  ·rw[if_pos hk]at h
   split at h
   ·rename_i y k hy
    simp only[Except.ok.injEq,Prod.mk.injEq]at h
    exact .inr ⟨hk,by simpa using hb,k,h.2.symm,h.1▸hy⟩
   ·cases h
  ·rw[if_neg hk]at h;cases h
theorem TE {s:Sc} {l:List Vl} {f:List Fd} {key:B8} {cs:List TV} {st:St} {K:Int->St->Prop} (h:VlR St.zero (.mk s l f) cs) (hN:(Vl.mk s l f).sz<=2000000)
  (hk1:∀x k,FU f key 0=some (x,k)->K k st) (hk2:FU f key 0=none->K (-1) st):CallT PR EV [.agg cs,.str key] [.one (.int .i64)] st K:=by
 have hsz:=szs s l f
 have hfl:=Bq f
 obtain⟨ub,ul,uf,xl,xf,rfl,h1,h2,h3,h4,h5⟩:=VlR.cells h
 refine Lk _ _ _ _ _ _ _ _ _ _ ub ul uf key st K (Aa h4.isSl ?_)
 rw[h4.lenS]
 refine⟨fun i ky a n st'=>key=ky/\uf=a/\(f.length:Int)=n/\st=st'/\∃k:Nat,i=k/\k<=f.length/\FU f key 0=FU (f.drop k) key k,fun i _ _ _ _=>(f.length-i).toNat,⟨rfl,rfl,rfl,rfl,0,rfl,Nat.zero_le _,rfl⟩,?_⟩
 rintro _ _ _ _ _ ⟨rfl,rfl,rfl,rfl,k,rfl,hkl,hE⟩
 refine Ab (fun g=>?_) fun g=>?_
 ·refine el14 (BS st) h4 h5 rfl (by omega) fun ky s' l' f' ub1 ul1 uf1 gw hw on=>Aa on ?_
  rw[NT gw]at hE
  replace hE:FU f key 0=if ky=key then some (.mk s' l' f',k)else FU (f.drop (k+1)) key (k+1):=hE
  refine Ab (fun g2=>?_) fun g2=>?_
  ·rw[if_pos g2]at hE
   exact hk1 _ k hE
  ·rw[if_neg g2]at hE
   rw[Am _ (by omega) (by omega)]
   exact⟨⟨rfl,rfl,rfl,rfl,k+1,by omega,by omega,hE⟩,by dsimp only;omega⟩
 ·have:k=f.length:=by omega
  subst this
  rw[List.drop_length,FU]at hE
  exact hk2 hE
theorem Vd {w:Vl} {cs:List TV} {s:AT} {st:St} {K:Int->Int->St->Prop} (h:VlR St.zero w cs) (hN:w.sz<=2000000) (hs:Ek s)
  (hk1:∀e,BZ w s= .error e->K 0 e st) (hk2:∀x i,BZ w s= .ok (x,i)->K i 0 st):CallT PR FG [.agg cs,.agg [.bool s.1,.str s.2.1,.int .i64 s.2.2]] [.one (.int .i64),.one (.int .i64)] st K:=by
 have h0:=h
 obtain⟨sc,l,f⟩:=w
 have hsz:=szs sc l f
 have hll:=Cn l
 have hfl:=Bq f
 obtain⟨ub,ul,uf,xl,xf,rfl,h1,h2,h3,h4,h5⟩:=VlR.cells h
 refine LT _ _ _ _ _ _ _ _ _ _ ub ul uf s.1 s.2.1 s.2.2 st K (LS _ _ _ _ _ _ _ _ _ _ ub ul uf s.1 s.2.1 s.2.2 st _ (As (fun hb=>?_) fun hb=>?_))
 ·obtain⟨p1,p2,p3⟩:=hs.1 hb
  have hd:BZ (.mk sc l f) s=if sc.kind=6 then(match l[s.2.2.toNat]? with | some x=> .ok (x,s.2.2) | none=> .error 7)else .error 6:=by
   unfold BZ;rw[if_pos hb];rfl
  refine As (fun hk=>?_) fun hk=>?_
  ·have hk:¬sc.kind=6:=by simpa using hk
   rw[if_neg hk]at hd
   exact hk1 6 hd
  ·have hk:sc.kind=6:=by simpa using hk
   rw[if_pos hk]at hd
   rw[hb]
   refine A9 (Ab (fun g=>absurd g (by omega)) fun _=>Cx (Aa h2.isSl ?_))
   rw[h2.lenS]
   refine Ab (fun g=>?_) fun g=>?_
   ·have:l[s.2.2.toNat]? =none:=List.getElem?_eq_none (by omega)
    rw[this]at hd
    exact hk1 7 hd
   ·have:l[s.2.2.toNat]? =some (l[s.2.2.toNat]'(by omega)):=List.getElem?_eq_getElem (by omega)
    rw[this]at hd
    exact hk2 _ _ hd
 ·have hd:BZ (.mk sc l f) s=if sc.kind=7 then(match FU f s.2.1 0 with | some (x,k)=> .ok (x,(k:Int)) | none=> .error 7)else .error 6:=by
   unfold BZ;rw[if_neg (by rw[hb];simp)];rfl
  refine As (fun hk=>?_) fun hk=>?_
  ·have hk:¬sc.kind=7:=by simpa using hk
   rw[if_neg hk]at hd
   exact hk1 6 hd
  ·have hk:sc.kind=7:=by simpa using hk
   rw[if_pos hk]at hd
   rw[hb]
   refine Cx (TE h0 hN (fun x k hq=>?_) fun hq=>?_)
   ·rw[hq]at hd
    exact Ab (fun g=>absurd g (by omega)) fun _=>A9 (hk2 x k hd)
   ·rw[hq]at hd
    exact Ab (fun _=>hk1 7 hd) fun g=>absurd (by decide) g
theorem aat_ok {w:Vl} {cs:List TV} {p:TV} {ss:List AT} {st:St} (hp:BA p ss) (hok:ER ss) (h:VlR St.zero w cs) (hN:w.sz<=2000000)
  {K:Int->Bool->Bool->B8->Int->Int->Int->Int->Int->B8->TV->TV->TV->Int->St->Prop}
  (hk1:∀e,ES w ss []= .error e->e≠0->K 0 false false [] 0 0 0 0 0 [] .nilSlice .nilSlice .nilSlice e st)
  (hk2:∀x0 x1 x2 x3 x4 x5 x6 x7 x8 x9 x10 x11 x12 x ks,ES w ss []= .ok (x,ks)->x.sz<=2000000->VlR St.zero x [.int .i64 x0,.bool x1,.bool x2,.str x3,.int .i64 x4,.int .i64 x5,.int .i64 x6,.int .i64 x7,.int .i64 x8,.str x9,x10,x11,x12]->K x0 x1 x2 x3 x4 x5 x6 x7 x8 x9 x10 x11 x12 0 st):
  CallT PR Hg [.agg cs,p] [.agg RX,.one (.int .i64)] st K:=by
 have h0:=h
 obtain⟨sc,l,f⟩:=w
 obtain⟨ub,ul,uf,xl,xf,rfl,_⟩:=VlR.cells h
 refine On _ _ _ _ _ _ _ _ _ _ ub ul uf p st K (Aa (Rd.isSl hp) ?_)
 rw[Rd.lenS hp]
 refine⟨fun i u n x0 x1 x2 x3 x4 x5 x6 x7 x8 x9 x10 x11 x12 z0 z1 z2 z3 z4 z5 z6 z7 z8 z9 z10 z11 z12 st'=>p=u/\(ss.length:Int)=n/\st=st'/\∃(k:Nat) (w:Vl) (ks:List Int),i=k/\k<=ss.length/\ES (.mk sc l f) ss []=ES w (ss.drop k) ks/\w.sz<=2000000/\VlR St.zero w [.int .i64 x0,.bool x1,.bool x2,.str x3,.int .i64 x4,.int .i64 x5,.int .i64 x6,.int .i64 x7,.int .i64 x8,.str x9,x10,x11,x12],
  fun i _ _ _ _ _ _ _ _ _ _ _ _ _ _ _ _ _ _ _ _ _ _ _ _ _ _ _ _ _=>(ss.length-i).toNat,⟨rfl,rfl,rfl,0,.mk sc l f,[],rfl,Nat.zero_le _,rfl,hN,h0⟩,?_⟩
 rintro _ _ _ x0 x1 x2 x3 x4 x5 x6 x7 x8 x9 x10 x11 x12 z0 z1 z2 z3 z4 z5 z6 z7 z8 z9 z10 z11 z12 _ ⟨rfl,rfl,rfl,k,w,ks,rfl,hkl,hE,hz,hw⟩
 refine Ab (fun g=>?_) fun g=>?_
 ·obtain⟨s,hs⟩:∃s,ss[k]? =some s:=⟨_,List.getElem?_eq_getElem (by omega)⟩
  have hso:=hok.2 s (List.mem_of_getElem? hs)
  have h48:=hok.1
  have hdr:ss.drop k=s::ss.drop (k+1):=Bt hs
  rw[hdr,ES]at hE
  refine el3 hp rfl hs (Vd hw hz hso (fun e he=>Ab (fun _=>?_) fun g=>absurd (Decidable.not_not.1 g) (IQ he)) fun x i hd=>Ab (fun g=>absurd rfl g) fun _=>?_)
  ·refine hk1 e ?_ (IQ he)
   rw[hE,he]
  ·rw[hd]at hE
   have hxz:=Qr hd
   obtain⟨sw,lw,fw⟩:=w
   have hszw:=szs sw lw fw
   have hllw:=Cn lw
   have hflw:=Bq fw
   obtain⟨_,_,_,xl',xf',hc,z1,z2,z3,z4,z5⟩:=VlR.cells hw
   cases hc
   rw[Am _ (by omega) (by omega)]
   rcases IO hd with⟨hk6,hb,hi,hx⟩ | ⟨hk7,hb,j,hi,hkey⟩
   ·rw[hb]
    obtain⟨p1,p2,p3⟩:=hso.1 hb
    have hlt:=(List.getElem?_eq_some_iff.1 hx).1
    replace hlt:s.2.2.toNat<lw.length:=hlt
    refine Cx (Nl (k:=s.2.2.toNat) (BS st) z2 z3 (by omega) hlt fun s' l' f' ub1 ul1 uf1 gw hw1 on=>Aa on ?_)
    have hx':x= .mk s' l' f':=by rw[show(Vl.mk sw lw fw).list=lw from rfl,gw]at hx;exact(Option.some.inj hx).symm
    subst hx'
    exact⟨⟨rfl,rfl,rfl,k+1,_,_,by omega,by omega,hE,by omega,hw1⟩,by dsimp only;omega⟩
   ·rw[hb]
    obtain⟨j',d,hj',hd1,hd2,hd3,_⟩:=GJ hkey
    have hjj:j=j':=by omega
    subst hjj
    have hlt:=(List.getElem?_eq_some_iff.1 hd1).1
    replace hlt:j<fw.length:=hlt
    refine A9 (LW (k:=j) (BS st) z4 z5 (by omega) hlt fun key s' l' f' ub1 ul1 uf1 gw hw1 on=>Aa ?_ ?_)
    ·exact OI hw1
    ·have hx':x= .mk s' l' f':=by
      rw[show(Vl.mk sw lw fw).flds=fw from rfl,gw]at hd1
      cases hd1
      exact hd3.symm
     subst hx'
     exact⟨⟨rfl,rfl,rfl,k+1,_,_,by omega,by omega,hE,by omega,hw1⟩,by dsimp only;omega⟩
 ·have hkk:k=ss.length:=by omega
  rw[hkk,List.drop_length,ES]at hE
  exact Aa (OI hw) (hk2 _ _ _ _ _ _ _ _ _ _ _ _ _ w ks hE hz hw)
theorem Tp {w x:Vl} {s:AT} {i:Int} (h:BZ w s= .ok (x,i)):x.cnt<=w.cnt:=by
 rcases IO h with⟨_,_,_,hx⟩ | ⟨_,_,j,_,hkey⟩
 ·obtain⟨sw,lw,fw⟩:=w
  have:x.cnt<=AF lw:=by
   have gen:∀(l:List Vl) (v:Vl),v∈l->v.cnt<=AF l:=by
    intro l
    induction l with
    | nil=>intro v hv;cases hv
    | cons a r ih=>
     intro v hv
     unfold AF
     rcases List.mem_cons.1 hv with rfl | hv
     ·omega
     ·have:=ih v hv;omega
   exact gen lw x (List.mem_of_getElem? hx)
  rw[vcnt];omega
 ·obtain⟨j',d,_,hd1,_,hd3,_⟩:=GJ hkey
  obtain⟨sw,lw,fw⟩:=w
  have:d.cnt<=AI fw:=by
   have gen:∀(l:List Fd) (v:Fd),v∈l->v.cnt<=AI l:=by
    intro l
    induction l with
    | nil=>intro v hv;cases hv
    | cons a r ih=>
     intro v hv
     unfold AI
     rcases List.mem_cons.1 hv with rfl | hv
     ·omega
     ·have:=ih v hv;omega
   exact gen fw d (List.mem_of_getElem? hd1)
  have:d.cnt=x.cnt:=by cases d;rw[fcnt];rw[<-hd3];rfl
  rw[vcnt];omega
theorem Qf:∀{ss:List AT} {w x:Vl} {acc ks:List Int},ES w ss acc= .ok (x,ks)->x.cnt<=w.cnt
 | [],w,x,acc,ks,h=>by rw[ES]at h;cases h;exact Nat.le_refl _
 | s::r,w,x,acc,ks,h=>by
  rw[ES]at h
  cases hd:BZ w s with
  | error e=>rw[hd]at h;cases h
  | ok p=>
   obtain⟨y,i⟩:=p
   rw[hd]at h
   have h1:=Qf h
   have h2:=Tp hd
   omega
theorem aGet_ok {w:Vl} {cs:List TV} {p:TV} {ss:List AT} {st:St} (hp:BA p ss) (hok:ER ss) (h:VlR St.zero w cs) (hN:w.sz<=2000000) (hC:AY w=0)
  {K:Int->Bool->Bool->B8->Int->Int->Int->Int->Int->B8->TV->TV->TV->Int->St->Prop}
  (hk1:∀e,ES w ss []= .error e->e≠0->K 0 false false [] 0 0 0 0 0 [] .nilSlice .nilSlice .nilSlice e st)
  (hk2:∀ub ul uf st' x ks,ES w ss []= .ok (x,ks)->VlR St.zero x (Aq x.sc ub ul uf)->Aj st st'->K x.sc.kind x.sc.b x.sc.neg x.sc.dg x.sc.ex x.sc.tk x.sc.td x.sc.tn x.sc.tz x.sc.text ub ul uf 0 st'):
  CallT PR Gq [.agg cs,p] [.agg RX,.one (.int .i64)] st K:=by
 have h0:=h
 obtain⟨sc,l,f⟩:=w
 obtain⟨ub,ul,uf,xl,xf,rfl,_⟩:=VlR.cells h
 refine M8 _ _ _ _ _ _ _ _ _ _ ub ul uf p st K (Sb hp (fun _=>A9 ?_) fun hn=>absurd hok hn)
 refine aat_ok hp hok h0 hN (fun e he hne=>Aa rfl (Ab (fun _=>hk1 e he hne) fun g=>absurd hne g)) fun x0 x1 x2 x3 x4 x5 x6 x7 x8 x9 x10 x11 x12 x ks hx hxz hxv=>?_
 refine Aa (OI hxv) (Ab (fun g=>absurd rfl g) fun _=>?_)
 refine Kf (v:=x) hxz ?_ (VlR.keep (BS st) hxv) fun ub' ul' uf' st' hv' o1 o2 o3 e _=>Aa (Bi o1 o2 o3) (hk2 ub' ul' uf' st' x ks hx hv' e)
 have:=Qf hx
 have:=Dv hC
 omega
def B0 (t:Tb) (ss:List AT):Option (Nat×List AT):=
 match ss with
 | []=>none
 | s::r=>match Ag s.2.1 t.es with
  | some (_,.opn u)=>B0 u r
  | some (_,.clo _ i)=>some (i,r)
  | some (_,.lst l)=>(match r with
   | []=>none
   | s2::r2=>(match l[s2.2.2.toNat]? with
    | some u=>B0 u r2
    | none=>none))
  | none=>none
termination_by ss.length
decreasing_by all_goals (simp_wf;try omega)
theorem Tf {f:List Fd} {key:B8} {x:Vl}:∀{i k:Nat},FU f key i=some (x,k)->I5 key f=some x:=by
 induction f with
 | nil=>intro i k h;cases h
 | cons d r ih=>
  intro i k h
  obtain⟨k',v⟩:=d
  rw[FU]at h
  rw[I5]
  by_cases hk:k'=key
  ·rw[if_pos (show(Fd.mk k' v).key=key from hk)]at h
   rw[if_pos hk]
   cases h;rfl
  ·rw[if_neg (show ¬(Fd.mk k' v).key=key from hk)]at h
   rw[if_neg hk]
   exact ih h
theorem Qp {t:Tb} {s:AT} {x:Vl} {i:Int} (h:BZ (Ae t) s= .ok (x,i)):s.1=false/\∃eb e,Ag s.2.1 t.es=some (eb,e)/\x=AA e:=by
 rw[B1]at h
 rcases IO h with⟨hk,_⟩ | ⟨_,hb,j,_,hkey⟩
 ·exact absurd (show(7:Int)=6 from hk) (by decide)
 ·refine⟨hb,?_⟩
  have:=Tf hkey
  rw[show(Vl.mk scM [] (AD t.es)).flds=AD t.es from rfl,Cs]at this
  cases hl:Ag s.2.1 t.es with
  | none=>rw[hl]at this;cases this
  | some p=>
   obtain⟨eb,e⟩:=p
   rw[hl]at this
   exact⟨eb,e,rfl,(Option.some.inj this).symm⟩
theorem Qq {l:List Tb} {s:AT} {x:Vl} {i:Int} (h:BZ (AA (.lst l)) s= .ok (x,i)):s.1=true/\∃u,l[s.2.2.toNat]? =some u/\x=Ae u:=by
 rw[AA]at h
 rcases IO h with⟨_,hb,_,hx⟩ | ⟨hk,_⟩
 ·refine⟨hb,?_⟩
  rw[show(Vl.mk scL (A1 l) []).list=A1 l from rfl,AU,List.getElem?_map]at hx
  cases hl:l[s.2.2.toNat]? with
  | none=>rw[hl]at hx;cases hx
  | some u=>rw[hl]at hx;exact⟨u,rfl,(Option.some.inj hx).symm⟩
 ·exact absurd (show(6:Int)=7 from hk) (by decide)
def QO (v:Vl) (ss:List AT):Prop:=∃acc z,ES v ss acc= .ok z
theorem Ha {v:Vl} {s:AT} {r:List AT} (h:QO v (s::r)):∃x i,BZ v s= .ok (x,i)/\QO x r:=by
 obtain⟨acc,z,h⟩:=h
 rw[ES]at h
 cases hd:BZ v s with
 | error e=>rw[hd]at h;cases h
 | ok p=>
  obtain⟨x,i⟩:=p
  rw[hd]at h
  exact⟨x,i,rfl,_,z,h⟩
theorem E6:∀(n:Nat) {ss:List AT} {t:Tb} {i:Nat} {r:List AT},ss.length<=n->QO (Ae t) ss->(∀s,s∈ss->Ek s)->B0 t ss=some (i,r)->∃q:List Stp,ss=q.map sv++r/\Aw t q=(1,i)
 | n,[],t,i,r,_,_,_,h=>by rw[B0]at h;cases h
 | 0,s::ss,t,i,r,hn,_,_,_=>by simp at hn
 | n+1,s::ss,t,i,r,hn,hL,hok,h=>by
  obtain⟨x,i0,hd,hL2⟩:=Ha hL
  obtain⟨hb,eb,e,hl,rfl⟩:=Qp hd
  have hs:=hok s (.head _)
  have hsv:s=sv (.key s.2.1):=by
   obtain⟨s1,s2,s3⟩:=s
   have:=(hs.2 hb).1
   simp only at hb this
   rw[hb,this];rfl
  rw[List.length_cons]at hn
  obtain⟨b,m,hd0,es⟩:=t
  rw[B0]at h
  simp only[Tb.es]at hl h
  rw[hl]at h
  cases e with
  | opn u=>
   simp only at h
   rw[AA]at hL2
   obtain⟨q,h1,h2⟩:=E6 n (by omega) hL2 (fun y hy=>hok y (.tail _ hy)) h
   refine⟨.key s.2.1::q,by rw[List.map_cons,List.cons_append,<-hsv,<-h1],?_⟩
   rw[Cr,hl]
   cases q with
   | nil=>rw[EG]at h2;cases h2
   | cons y q=>cases y with
    | key k=>exact h2
    | idx j=>rw[Dd]at h2;cases h2
  | clo v j=>
   simp only[Option.some.injEq,Prod.mk.injEq]at h
   obtain⟨rfl,rfl⟩:=h
   refine⟨[.key s.2.1],by rw[List.map_cons,List.map_nil,List.cons_append,List.nil_append,<-hsv],?_⟩
   rw[Cr,hl];rfl
  | lst l=>
   simp only at h
   cases ss with
   | nil=>cases h
   | cons s2 r2=>
    simp only at h
    obtain⟨x2,i2,hd2,hL3⟩:=Ha hL2
    obtain⟨hb2,u,hu,rfl⟩:=Qq hd2
    rw[hu]at h
    simp only at h
    have hs2:=hok s2 (.tail _ (.head _))
    have hsv2:s2=sv (.idx s2.2.2.toNat):=by
     obtain⟨s1,s2,s3⟩:=s2
     have:=hs2.1 hb2
     simp only at hb2 this
     obtain⟨h5,h6,h7⟩:=this
     rw[hb2,h5]
     show(true,[],s3)=(true,[],((s3.toNat:Nat):Int))
     rw[Int.toNat_of_nonneg h6]
    rw[List.length_cons]at hn
    obtain⟨q,h1,h2⟩:=E6 n (by omega) hL3 (fun y hy=>hok y (.tail _ (.tail _ hy))) h
    refine⟨.key s.2.1:: .idx s2.2.2.toNat::q,by rw[List.map_cons,List.map_cons,List.cons_append,List.cons_append,<-hsv,<-hsv2,<-h1],?_⟩
    rw[Cr,hl]
    simp only[Hr,hu]
    exact h2
theorem Kk:∀(n:Nat) {q:List Stp} {t:Tb} {i:Nat} {r:List AT},q.length<=n->Aw t q=(1,i)->B0 t (q.map sv++r)=some (i,r)
 | n,[],t,i,r,_,h=>by rw[EG]at h;cases h
 | n,.idx j::q,t,i,r,_,h=>by rw[Dd]at h;cases h
 | 0,.key k::q,t,i,r,hn,h=>by simp at hn
 | n+1,.key k::q,t,i,r,hn,h=>by
  rw[List.length_cons]at hn
  obtain⟨b,m,hd0,es⟩:=t
  rw[Cr]at h
  rw[List.map_cons,List.cons_append,B0]
  simp only[Tb.es,sv]
  rcases hl:Ag k es with _ | ⟨eb,e⟩
  ·rw[hl]at h;cases h
  ·rw[hl]at h
   simp only at h⊢
   cases e with
   | clo v j=>
    cases q with
    | nil=>
     have:j=i:=by
      have:=(Prod.mk.inj h).2
      exact this
     subst this
     rfl
    | cons y q=>cases y<;>cases h
   | opn u=>
    simp only
    cases q with
    | nil=>
     have:=(Prod.mk.inj h).1
     split at this<;>cases this
    | cons y q=>cases y with
     | key k2=>exact Kk n (by omega) h
     | idx j=>cases h
   | lst l=>
    simp only
    cases q with
    | nil=>cases h
    | cons y q=>cases y with
     | key k2=>cases h
     | idx j=>
      simp only[Hr]at h
      rw[List.map_cons,List.cons_append]
      simp only[sv,Int.toNat_natCast]
      cases hj:l[j]? with
      | none=>rw[hj]at h;cases h
      | some u=>
       rw[hj]at h
       simp only at h⊢
       rw[List.length_cons]at hn
       exact Kk n (by omega) h
theorem BH.entAt {bb ub nodes eb i:Nat} {now:TV} {T t:Tb} {σ:Nat->TV} {st:St} {h:List Hop} {k:B8} {v:Vl} (H:BH bb ub now T nodes σ st) (hA:atT T h=some t) (hl:Ag k t.es=some (eb,.clo v i)):Ac st [] (.t (.box eb 15)) 0=some (.int .i64 i):=by
 obtain⟨cs,_,hcl,h1,_⟩:=H.ent hA hl
 simp only[Ac,h1]
 have:∀(cs:List TV) (x:TV),cs.length=13->(TV.nilPtr::TV.nilSlice::(cs++[x]))[15+0]? =some x:=fun cs x hc=>by
  show(cs++[x])[13]? =some x
  rw[List.getElem?_append_right (by omega),hc];rfl
 exact this cs _ hcl
theorem TO {p:TV} {ss:List AT} (h:BA p ss) {j:Nat} (hj:j<=ss.length):TVF.isLst 3 p=true/\BA (slT 3 .non p (Int.toNat (j:Int)) (TVF.lenS p)) (ss.drop j):=by
 refine⟨Rd.isLst h,?_⟩
 rw[Int.toNat_natCast]
 rcases h with⟨rfl,h1,_⟩ | ⟨tip,rfl⟩
 ·have:ss=[]:=List.eq_nil_of_length_eq_zero h1
  subst this
  refine .inl ⟨rfl,?_,?_⟩<;>simp
 ·have hl:=Dr ss
  refine .inr ⟨.non,?_⟩
  show TV.list 3 .non (ss.length-j) (((ss.flatMap Ca).take (ss.length*3)).drop (j*3))=_
  rw[List.take_of_length_le (by omega),List.length_drop]
  congr 1
  have:∀(ss:List AT) (j:Nat),(ss.flatMap Ca).drop (j*3)=(ss.drop j).flatMap Ca:=by
   intro ss
   induction ss with
   | nil=>intro j;simp
   | cons s r ih=>
    intro j
    cases j with
    | zero=>simp
    | succ j=>
     rw[List.drop_succ_cons,<-ih j,List.flatMap_cons,show(j+1)*3=3+j*3 by omega,<-List.drop_drop]
     rfl
  exact this ss j
theorem Tx {p:TV} {ss:List AT} {st:St} {K:TV->St->Prop} (h:BA p ss) (hl:ss.length<=1000000) (hk:∀v st',BA v ss->Aj st st'->K v st'):CallT PR A8 [p] [.one .tv] st K:=by
 refine DB p st K (Aa (Rd.isSl h) ?_)
 have hsl:=Dr ss
 rcases h with⟨rfl,h1,h2⟩ | ⟨tip,rfl⟩
 ·refine Cx (hk .nilSlice st (.inl ⟨rfl,h1,h2⟩) (Aj.refl st))
 ·refine A9 (Ad (x:=(ss.length,ss.flatMap Ca)) rfl (Aa (IC ss) ?_))
  refine CM (Aj.refl st) rfl (Own.full _ _ _ 0 []) (by omega) (fun h0=>?_) fun v1 st1 e1 _ ho1=>?_
  ·have:ss=[]:=List.eq_nil_of_length_eq_zero h0
   rw[this];rfl
  ·rw[Nat.zero_add,List.nil_append]at ho1
   exact hk v1 st1 ho1.rd e1
noncomputable def Fp (l:List Asg) (ss:List AT):Except Int (Nat×List AT):=match If l with
 | .error (_,e)=> .error e
 | .ok (T,_)=>open Classical in if ER ss then(match ES (Ae T) ss []with
  | .error e=> .error e
  | .ok _=>match B0 T ss with
   | some x=> .ok x
   | none=> .error 26)else .error 1
theorem Kl:∀(n:Nat) {ss:List AT} {t:Tb},ss.length<=n->B0 (erT t) ss=B0 t ss
 | n,[],t,_=>by rw[B0,B0]
 | 0,s::ss,t,hn=>by simp at hn
 | n+1,s::ss,t,hn=>by
  rw[List.length_cons]at hn
  rw[B0,B0,Ql,FZ]
  rcases Ag s.2.1 t.es with _ | ⟨eb,u | l | ⟨v,i⟩⟩
  ·rfl
  ·simp only[Option.map_some,erE];exact Kl n (by omega)
  ·simp only[Option.map_some,erE]
   cases ss with
   | nil=>rfl
   | cons s2 r2=>
    simp only[EK,List.getElem?_map]
    rw[List.length_cons]at hn
    cases l[s2.2.2.toNat]? with
    | none=>rfl
    | some u=>exact Kl n (by omega)
  ·simp only[Option.map_some,erE]
theorem Ve {l:List Asg} {v p:TV} {xs:List TV} {ss:List AT} {st:St} {K:Int->TV->Int->St->Prop} (hr:Rd 16 v l.length xs) (ha:Dp l xs) (hz:Dm l<=900000) (hc:∀a,a∈l->a.keys.length+a.val.cnt<=100000) (hp:BA p ss)
  (hk1:∀(i:Nat) r w st',Fp l ss= .ok (i,r)->BA w r->K i w 0 st') (hk2:∀e st',Fp l ss= .error e->e≠0->K 0 .nilSlice e st'):CallT PR Ep [v,p] [.one (.int .i64),.one .tv,.one (.int .i64)] st K:=by
 refine Km v p st K (Pa hr ha hz hc (fun bb ub T cur u σ st1 hrun hu H hN hNe hV hsz=>?_) fun i e st1 hrun he=>Ab (fun _=>hk2 e st1 (by unfold Fp;rw[hrun]) (by omega)) fun h=>absurd (by omega) h)
 have hW:Fp l ss=open Classical in if ER ss then(match ES (Ae T) ss []with
  | .error e=> .error e
  | .ok _=>match B0 T ss with
   | some x=> .ok x
   | none=> .error 26)else .error 1:=by
  unfold Fp
  rw[hrun]
  simp only[Kr,Kl ss.length (Nat.le_refl _)]
 refine Ab (fun h=>absurd rfl h) fun _=>Sb hp (fun hok=>A9 ?_) fun hok=>Cx (hk2 1 st1 (by rw[hW,if_neg hok]) (by decide))
 rw[if_pos hok]at hW
 refine Aa rfl (Aa rfl (Ad (x:= .box T.b 0) (by simp only[Ac,At,H.cell];rfl) ?_))
 refine K0 (Ae T).cnt T 1 (Nat.le_refl _) (by have:=Dv hV;omega) H.hp.sh hN H.hp.lt fun uf st2 hv ho e2=>?_
 refine aGet_ok hp hok hv (by omega) hV (fun e he hne=>Aa rfl (Ab (fun _=>hk2 e st2 (by rw[hW,he]) hne) fun h=>absurd hne h)) fun ub3 ul3 uf3 st4 x ks hx hvx e4=>?_
 refine Aa (OI hvx) (Ab (fun h=>absurd rfl h) fun _=>?_)
 rw[hx]at hW
 simp only at hW
 have H4:=H.ext (e2.trans e4)
 have h48:=hok.1
 refine Aa rfl (Aa rfl (Ad (x:= .box T.b 0) (by simp only[Ac,At,H4.cell];rfl) ?_))
 refine⟨fun t i u st'=>p=u/\st4=st'/\∃(j:Nat) (h:List Hop) (t':Tb),i=j/\j<=ss.length/\t= .box t'.b 0/\atT T h=some t'/\QO (Ae t') (ss.drop j)/\B0 T ss=B0 t' (ss.drop j),fun _ i _ _=>(ss.length-i).toNat,
  ⟨rfl,rfl,0,[],T,rfl,Nat.zero_le _,rfl,by cases T;rfl,⟨[],(x,ks),hx⟩,rfl⟩,?_⟩
 rintro _ _ _ _ ⟨rfl,rfl,j,h,t,rfl,hj,rfl,hA,hL,hwt⟩
 refine Aa (Rd.isSl hp) ?_
 rw[Rd.lenS hp]
 refine Ab (fun g=>?_) fun g=>?_
 case refine_2=>
  have hjj:j=ss.length:=by omega
  rw[hjj,List.drop_length,B0]at hwt
  exact hk2 26 st4 (by rw[hW,hwt]) (by decide)
 obtain⟨s,hs⟩:∃s,ss[j]? =some s:=⟨_,List.getElem?_eq_getElem (by omega)⟩
 have hdr:ss.drop j=s::ss.drop (j+1):=Bt hs
 rw[hdr]at hL hwt
 obtain⟨y,i0,hd,hL2⟩:=Ha hL
 obtain⟨hb,eb,e,hl,rfl⟩:=Qp hd
 rw[B0,hl]at hwt
 rw[Am _ (by omega) (by omega)]
 refine Aa rfl (Aa rfl (H4.ldm hA (fl3 hp rfl hs (by decide) (x:= .str s.2.1) rfl (Ct (H4.map hA fun es hes=>?_)))))
 rw[hes s.2.1,hl]
 refine Aa rfl (Aa rfl (H4.ent0 hA hl ?_))
 cases e with
 | opn u2=>
  refine Aa rfl (Cx (Aa rfl (Aa rfl (H4.ent0 hA hl ?_))))
  rw[AA]at hL2
  exact⟨⟨rfl,rfl,j+1,h++[(s.2.1,none)],u2,by omega,by omega,rfl,JH hA hl,hL2,hwt⟩,by dsimp only;omega⟩
 | clo v i=>
  refine Aa rfl (A9 (Aa rfl (Aa rfl (H4.ent1 hA hl fun w hw=>Aa hw.sl ?_))))
  rw[hw.len]
  refine Ab (fun _=>?_) fun h=>absurd rfl h
  have hat:=H4.entAt hA hl
  refine Aa rfl (Aa rfl ?_)
  show Ai (Ac st4 [] (.t (.box eb 15)) 0) _
  refine Ad (x:= .int .i64 i) hat (AV ?_)
  have hjl:j+1<=ss.length:=by omega
  obtain⟨q1,q2⟩:=TO hp hjl
  rw[Rd.lenS hp]at q2
  have hj1:((j:Int)+1)=((j+1:Nat):Int):=by omega
  rw[hj1]
  refine⟨⟨q1,by omega,by omega⟩,Tx q2 (by rw[List.length_drop];omega) fun v14 st6 hv6 e6=>⟨?_,?_⟩⟩
  ·show Ac st6 [] (.t (.box eb 15)) 0=_
   exact(H4.ext e6).entAt hA hl
  ·exact hk1 i _ v14 st6 (by rw[hW,hwt]) hv6
 | lst L=>
  have hne:=PX hA hNe hl
  have hlp:0<L.length:=List.length_pos_iff.2 hne
  refine Aa rfl (A9 (Aa rfl (Aa rfl (H4.ent1 hA hl fun w hw=>Aa hw.sl ?_))))
  rw[hw.len,show(KE (.lst L)).length=L.length by rw[KE,List.length_map]]
  refine Ab (fun h=>absurd h (by omega)) fun _=>Aa (Rd.isSl hp) ?_
  have hj1:((j:Int)+1)=((j+1:Nat):Int):=by omega
  rw[hj1]
  refine Ab (fun g2=>?_) fun g2=>?_
  ·obtain⟨s2,hs2⟩:∃s,ss[j+1]? =some s:=⟨_,List.getElem?_eq_getElem (by omega)⟩
   have hdr2:ss.drop (j+1)=s2::ss.drop (j+1+1):=Bt hs2
   rw[hdr2]at hL2 hwt
   obtain⟨y2,i2,hd2,hL3⟩:=Ha hL2
   obtain⟨hb2,u2,hu2,rfl⟩:=Qq hd2
   have hso2:=(hok.2 s2 (List.mem_of_getElem? hs2)).1 hb2
   have hlt:=(List.getElem?_eq_some_iff.1 hu2).1
   simp only[hu2]at hwt
   refine Aa rfl (Aa rfl (H4.ent1 hA hl fun w2 hw2=>fl3 hp rfl hs2 (by decide) (x:= .int .i64 s2.2.2) rfl (AV ?_)))
   have hlz:=hw2.lenZ
   rw[show(KE (.lst L)).length=L.length by rw[KE,List.length_map]]at hlz
   refine⟨⟨hso2.2.1,by rw[hlz];omega⟩,hw2.get (x:= .box u2.b 0) ?_ ?_⟩
   ·rw[KE,List.getElem?_map,hu2];rfl
   ·rw[Am _ (by omega) (by omega)]
    exact⟨⟨rfl,rfl,j+1+1,h++[(s.2.1,some s2.2.2.toNat)],u2,by omega,by omega,rfl,Iv hA hl hu2,hL3,hwt⟩,by dsimp only;omega⟩
  ·have hje:j+1=ss.length:=by omega
   have hdd:ss.drop (j+1)=[]:=by rw[hje,List.drop_length]
   rw[hdd]at hwt
   refine⟨⟨rfl,rfl,j+1,h,t,by omega,by omega,rfl,hA,?_,?_⟩,by dsimp only;omega⟩
   ·rw[hdd];exact⟨[],(Ae t,[]),by rw[ES]⟩
   ·rw[hdd,B0];exact hwt
theorem stepsP {p:TV} {ss:List AT} (h:BA p ss) {j:Nat} (hj:j<=ss.length):TVF.isLst 3 p=true/\BA (slT 3 .non p (Int.toNat (0:Int)) (Int.toNat (j:Int))) (ss.take j):=by
 refine⟨Rd.isLst h,?_⟩
 rw[Int.toNat_natCast]
 rcases h with⟨rfl,h1,_⟩ | ⟨tip,rfl⟩
 ·have:ss=[]:=List.eq_nil_of_length_eq_zero h1
  subst this
  refine .inl ⟨rfl,?_,?_⟩<;>simp
 ·have hl:=Dr ss
  refine .inr ⟨.non,?_⟩
  show TV.list 3 .non (j-0) (((ss.flatMap Ca).take (j*3)).drop (0*3))=_
  rw[Nat.zero_mul,List.drop_zero,List.length_take,Nat.min_eq_left hj,Nat.sub_zero]
  congr 1
  have:∀(ss:List AT) (j:Nat),(ss.flatMap Ca).take (j*3)=(ss.take j).flatMap Ca:=by
   intro ss
   induction ss with
   | nil=>intro j;simp
   | cons s r ih=>
    intro j
    cases j with
    | zero=>simp
    | succ j=>
     rw[List.take_succ_cons,List.flatMap_cons,List.flatMap_cons,<-ih j,show(j+1)*3=(Ca s).length+j*3 by show _=3+_;omega,List.take_length_add_append]
  exact this ss j
theorem S3 {p b:TV} {ss:List AT} {q:List Stp} {st:St} {K:Bool->St->Prop} (hp:BA p ss) (hb:EN b q) (hl:ss.length<=1000000) (hk:∀r:Bool,(r=true↔∃t,ss=q.map sv++t)->K r st):CallT PR CS [p,b] [.one .bool] st K:=by
 refine HA p b st K (Aa (Rd.isSl hp) (Aa hb.isSl ?_))
 rw[Rd.lenS hp,hb.lenS]
 refine Ab (fun g=>Aa hb.isSl ?_) fun g=>?_
 ·have hj:q.length<=ss.length:=by omega
  obtain⟨q1,q2⟩:=stepsP hp hj
  refine⟨⟨q1,by omega,by omega⟩,NF q2 hb (by rw[List.length_take];omega) (hk _ ?_)⟩
  rw[decide_eq_true_eq]
  constructor
  ·intro h;exact⟨ss.drop q.length,by rw[<-h,List.take_append_drop]⟩
  ·rintro⟨t,rfl⟩
   rw[List.take_left' (by rw[List.length_map])]
 ·refine hk false ⟨fun h=>Bool.noConfusion h,fun ⟨t,ht⟩=>?_⟩
  rw[ht,List.length_append,List.length_map]at g
  omega
theorem Rf {pl:List Plc} {q:List Stp} {w i:Nat}:(pl.map fun x=>x.1).Nodup->(q,w,i)∈pl->AM q pl=some (w,i):=by
 induction pl with
 | nil=>intro _ h;cases h
 | cons x r ih=>
  obtain⟨p,w',i'⟩:=x
  intro hn h
  rw[List.map_cons,List.nodup_cons]at hn
  rw[AM]
  rcases List.mem_cons.1 h with h | h
  ·cases h;rw[if_pos rfl]
  ·have hne:¬p=q:=fun e=>by
    subst e
    exact hn.1 (List.mem_map.2 ⟨_,h,rfl⟩)
   rw[if_neg hne]
   exact ih hn.2 h
theorem NH {q:List Stp} {w i:Nat}:∀{pl:List Plc},AM q pl=some (w,i)->(q,w,i)∈pl
 | [],h=>by cases h
 | (p,w',i')::r,h=>by
  rw[AM]at h
  split at h
  ·rename_i hp;subst hp;cases h;exact .head _
  ·exact .tail _ (NH h)
theorem NE {l:List Asg} {v p:TV} {xs:List TV} {ss:List AT} {st:St} {K:Int->TV->Int->St->Prop} (hr:Rd 16 v l.length xs) (ha:Dp l xs) (hz:Dm l<=900000) (hln:l.length<=80000) (hc:∀a,a∈l->a.keys.length+a.val.cnt<=100000) (hp:BA p ss)
  (hk1:∀(i:Nat) r w st',Fp l ss= .ok (i,r)->BA w r->K i w 0 st') (hk2:∀e st',Fp l ss= .error e->e≠0->K 0 .nilSlice e st'):CallT PR CQ [v,p] [.one (.int .i64),.one .tv,.one (.int .i64)] st K:=by
 refine Hw v p st K (rAll_ok hr ha hz hln hc (fun T cur pl ub ul uf cv plv st1 R H hpl e1=>?_) fun i e ub ul uf cv plv st1 hrun he on ex=>Aa on (Ab (fun _=>hk2 e st1 (by unfold Fp;rw[hrun]) (by omega)) fun h=>absurd (by omega) h))
 have hW:Fp l ss=open Classical in if ER ss then(match ES (Ae T) ss []with
  | .error e=> .error e
  | .ok _=>match B0 T ss with
   | some x=> .ok x
   | none=> .error 26)else .error 1:=by
  unfold Fp
  rw[R.run]
  all_goals rfl
 refine Aa H.on15 (Ab (fun h=>absurd rfl h) fun _=>PK hp (fun hok st2 e2=>A9 ?_) fun hok st2 e2=>Cx (hk2 1 st2 (by rw[hW,if_neg hok]) (by decide)))
 rw[if_pos hok]at hW
 have hsz:=R.sz
 have h48:=hok.1
 refine rGet_ok hp hok H.v (by omega) (fun e st3 he hne e3=>Aa rfl (Ab (fun _=>hk2 e st3 (by rw[hW,he]) hne) fun h=>absurd hne h)) fun k1 b1 b2 s1 k2 k3 k4 k5 k6 s2 u1 u2 u3 st3 x ks hx hxv on e3=>?_
 refine Aa on (Ab (fun h=>absurd rfl h) fun _=>?_)
 rw[hx]at hW
 simp only at hW
 obtain⟨pxs,hplr,hpx⟩:=H.row
 have hplz:=Rd.lenZ hplr
 have hL:QO (Ae T) ss:=⟨[],_,hx⟩
 refine⟨fun i u x0 x1 x2 x3 x4 x5 x6 x7 x8 x9 x10 x11 x12 c y st'=>p=u/\plv=y/\st3=st'/\∃k:Nat,i=k/\k<=pl.length/\∀(j:Nat) q ix,j<k->pl[j]? =some (q,1,ix)->¬∃t,ss=q.map sv++t,fun i _ _ _ _ _ _ _ _ _ _ _ _ _ _ _ _ _=>(pl.length-i).toNat,
  ⟨rfl,rfl,rfl,0,rfl,Nat.zero_le _,fun j q ix hj=>by omega⟩,?_⟩
 rintro _ _ _ _ _ _ _ _ _ _ _ _ _ _ _ c _ _ ⟨rfl,rfl,rfl,k,rfl,hkl,hno⟩
 refine Aa (Rd.isSl hplr) ?_
 rw[Rd.lenS hplr]
 refine Ab (fun g=>?_) fun g=>?_
 ·have hs:pl[k]? =some pl[k]:=List.getElem?_eq_getElem (by omega)
  generalize pl[k]=y at hs
  obtain⟨q,w,ix⟩:=y
  obtain⟨pv,g1,g2,g3,g4⟩:=hpx.get hs
  have hmem:=List.mem_of_getElem? hs
  have hip:=hplr.isP (show k<pl.length by omega)
  have ld:∀{j:Nat} {x:TV} {st:St} {f:TV->Prop},pxs[k*3+j]? =some x->f x->(0<=(k:Int)/\(k:Int)<(lenZ 3 plv:Int))/\need (isPtr (ixT 3 plv (Int.toNat (k:Int)))) (Ai (Ac st [] (.t (At (ixT 3 plv (Int.toNat (k:Int))) j)) 0) f):=fun {j x st f} hx hf=>
   ⟨⟨by omega,by rw[hplz];omega⟩,Aa (by rw[Int.toNat_natCast];exact hip) (Ad (by rw[Int.toNat_natCast];exact hplr.ldfx st k j hx) hf)⟩
  have next:(w=1->¬∃t,ss=q.map sv++t)->∀(j:Nat) q' ix',j<k+1->pl[j]? =some (q',1,ix')->¬∃t,ss=q'.map sv++t:=fun hn j q' ix' hj hq'=>by
   by_cases hjk:j=k
   ·subst hjk
    rw[hs]at hq'
    cases hq'
    exact hn rfl
   ·exact hno j q' ix' (by omega) hq'
  rw[Am _ (by omega) (by omega)]
  refine ld g2 (AV (Ab (fun hw=>?_) fun hw=>?_))
  ·have hw:w=1:=by omega
   subst hw
   refine ld g1 (S3 hp g4 (by omega) fun b hb=>As (fun hbt=>?_) fun hbf=>?_)
   ·obtain⟨t,ht⟩:=hb.1 hbt
    have hqp:=Rf H.nd hmem
    have hin:=(H.ok.has hqp).2
    simp only[if_true]at hin
    have hwt:=Kk q.length (r:=t) (Nat.le_refl _) hin
    rw[<-ht]at hwt
    rw[hwt]at hW
    have hql:q.length<=ss.length:=by rw[ht,List.length_append,List.length_map];omega
    have hdt:ss.drop q.length=t:=by rw[ht,List.drop_left' (by rw[List.length_map])]
    obtain⟨q1,q2⟩:=TO hp hql
    rw[Rd.lenS hp,hdt]at q2
    have htl:t.length<=48:=by rw[<-hdt,List.length_drop];omega
    refine ld g3 (AV (ld g1 (Aa g4.isSl ?_)))
    rw[g4.lenS,Rd.lenS hp]
    refine⟨⟨q1,by omega,by omega⟩,Ad (x:=(t.length,t.flatMap Ca)) (Rd.src q2 (Dr t) st3) (Aa (IC t) ?_)⟩
    refine CM (Aj.refl st3) rfl (Own.full _ _ _ 0 []) (by simp only;omega) (fun h0=>?_) fun v16 st6 e6 _ ho6=>?_
    ·have:t=[]:=List.eq_nil_of_length_eq_zero h0
     rw[this];rfl
    ·rw[Nat.zero_add,List.nil_append]at ho6
     exact hk1 ix t v16 st6 hW ho6.rd
   ·exact⟨⟨rfl,rfl,rfl,k+1,by omega,by omega,next fun _ h=>by rw[hb.2 h]at hbf;cases hbf⟩,by dsimp only;omega⟩
  ·exact⟨⟨rfl,rfl,rfl,k+1,by omega,by omega,next fun h=>absurd (by omega) hw⟩,by dsimp only;omega⟩
 ·have hkk:k=pl.length:=by omega
  cases hwt:B0 T ss with
  | none=>exact hk2 26 st3 (by rw[hW,hwt]) (by decide)
  | some z=>
   obtain⟨i,r⟩:=z
   obtain⟨q,hq1,hq2⟩:=E6 ss.length (Nat.le_refl _) hL hok.2 hwt
   exfalso
   cases hpq:AM q pl with
   | none=>have:=H.ok.not hpq;rw[hq2]at this;cases this
   | some z=>
    obtain⟨w,ix⟩:=z
    have h1:=(H.ok.has hpq).2
    rw[hq2]at h1
    have hw1:w=1:=(Prod.mk.inj h1).1.symm
    subst hw1
    obtain⟨j,hj⟩:=List.getElem?_of_mem (NH hpq)
    exact hno j q ix (by have:=(List.getElem?_eq_some_iff.1 hj).1;omega) hj ⟨r,hq1⟩
theorem lswhere_ok {l:List Asg} {v p:TV} {xs:List TV} {ss:List AT} (hr:Rd 16 v l.length xs) (ha:Dp l xs) (hp:BA p ss) {st:St} {K:Bool->St->Prop} (hk:∀st',K true st'):CallT PR fn_datakitlaw25_SectionWhere [v,p] [.one .bool] st K:=by
 refine EQ v p st K (SR hr ha fun b hb=>As (fun _=>IU hk) fun hb0=>Aa (Rd.isSl hp) ?_)
 rw[Rd.lenS hp]
 obtain⟨hl,hs⟩:=hb (by simpa using hb0)
 obtain⟨h1,h2,h3⟩:=SmA.sum hl hs
 refine Ab (fun _=>IU hk) fun g60=>?_
 refine Ve hr ha h1 h3 hp (fun i r w st1 hW hw=>?_) fun e st1 hW hne=>?_
 ·refine NE hr ha h1 h2 h3 hp (fun i2 r2 w2 st2 hW2 hw2=>?_) fun e2 st2 hW2 _=>by rw[hW]at hW2;cases hW2
  rw[hW]at hW2
  cases hW2
  refine Ab (fun h=>absurd rfl h) fun _=>Aa (Rd.isSl hw) (Aa (Rd.isSl hw2) ?_)
  rw[Rd.lenS hw,Rd.lenS hw2]
  refine Ab (fun h=>absurd rfl h) fun _=>Ab (fun h=>absurd rfl h) fun _=>?_
  have hrl:r.length<=1000000:=by
   unfold Fp at hW
   split at hW
   ·cases hW
   ·split at hW
    ·split at hW
     ·cases hW
     ·rename_i hx
      split at hW
      ·rename_i x hwt
       have hok:ER ss:=‹ER ss›
       cases hW
       obtain⟨q,hq,_⟩:=E6 ss.length (Nat.le_refl _) ⟨[],_,hx⟩ hok.2 hwt
       have:=congrArg List.length hq
       rw[List.length_append]at this
       have:=hok.1
       omega
      ·cases hW
    ·cases hW
  refine⟨fun j x y st'=>w=x/\w2=y/\st2=st'/\∃k:Nat,j=k/\k<=r.length,fun j _ _ _=>(r.length-j).toNat,⟨rfl,rfl,rfl,0,rfl,Nat.zero_le _⟩,?_⟩
  rintro _ _ _ _ ⟨rfl,rfl,rfl,k,rfl,hkl⟩
  refine Aa (Rd.isSl hw) ?_
  rw[Rd.lenS hw]
  refine Ab (fun g=>?_) fun g=>IU hk
  obtain⟨s,hsk⟩:∃s,r[k]? =some s:=⟨_,List.getElem?_eq_getElem (by omega)⟩
  refine el3 hw rfl hsk (el3 hw2 rfl hsk (As (fun h=>by simp at h) fun _=>?_))
  rw[Am _ (by omega) (by omega)]
  exact⟨⟨rfl,rfl,rfl,k+1,by omega,by omega⟩,by dsimp only;omega⟩
 ·refine NE hr ha h1 h2 h3 hp (fun i2 r2 w2 st2 hW2 hw2=>by rw[hW]at hW2;cases hW2) fun e2 st2 hW2 _=>?_
  rw[hW]at hW2
  cases hW2
  refine Ab (fun h=>absurd rfl h) fun _=>Aa rfl (Aa rfl (Ab (fun h=>absurd rfl h) fun _=>Ab (fun h=>absurd rfl h) fun _=>?_))
  refine⟨fun j x y st'=>x= .nilSlice/\j=0,fun j _ _ _=>0,⟨rfl,rfl⟩,?_⟩
  rintro _ _ _ _ ⟨rfl,rfl⟩
  exact Aa rfl (Ab (fun h=>absurd h (by decide)) fun _=>IU hk)
end Go.TVF
