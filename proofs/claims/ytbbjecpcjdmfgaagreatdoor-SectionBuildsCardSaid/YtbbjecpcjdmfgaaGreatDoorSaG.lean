/- What the laws below rest on: a framework for Go programs, and contracts of the functions that they reach. -/
import Derived.Test.YtbbjecpcjdmfgaaGreatDoorSaF
set_option maxRecDepth 20000
set_option linter.unusedVariables false
set_option linter.unusedSimpArgs false
namespace Go.TVF
open Go.IntKind(i64 u8)
open Go Go.Proofs
theorem Nq {T sz bytes:Nat} {st:St} {k:Nat} {ys:List TV} {K:TV->St->Prop} (hy:ys.length=k*sz) (hby:k*bytes<=140737488355328)
  (hK:∀u' st' bs',Bt st' sz u' k ys bs'->Aj st st'->(∀x,x∈bs'->st.nb<=x)->K u' st'):FY T sz bytes (.list sz .full 0 []) k ys st K:=by
 rcases Nat.eq_zero_or_pos k with rfl | h0
 ·have:ys=[]:=List.eq_nil_of_length_eq_zero (by omega)
  subst this
  simp only[FY,Nat.beq_refl]
  exact⟨by simp,hK _ _ [] (.inl ⟨rfl,rfl,rfl,.inr rfl⟩) (Aj.refl _) fun x hx=>by cases hx⟩
 ·refine EZ (u:= .list sz .full 0 []) (n:=0) (xs:=[]) (bs:=[]) (.inl ⟨rfl,rfl,rfl,.inr rfl⟩) h0 hy (by rw[Nat.zero_add];exact hby) fun u' st' bs' h1 h2 h3=>?_
  have e:Aj st st':=⟨h2.nb,fun i hi=>h2.box i hi (by simp),h2.nt,h2.live,h2.ty,h2.bt⟩
  have:=hK u' st' bs'
  rw[Nat.zero_add,List.nil_append]at h1
  refine this h1 e fun x hx=>?_
  rcases h3 with⟨h4,h5⟩ | h4
  ·exact absurd rfl h5
  ·rw[h4]at hx;rw[List.mem_singleton.1 hx];exact Nat.le_refl _
def CT:Vl->List Stp->Prop
 | _,[]=>True
 | .mk s l f,.idx i::p=>i<=l.length/\CT ((if i=l.length then l++[vlO]else l).getD i vlO) p
 | .mk s l f,.key k::p=>CT ((JI k f).getD vlO) p
theorem VsR.mid:∀{l:List Vl} {xs:List TV} {i:Nat} {v:Vl},VsR St.zero l xs->l[i]? =some v->∃A c B,xs=A++c++B/\A.length=i*13/\c.length=13/\VlR St.zero v c/\∀x cs,VlR St.zero x cs->VsR St.zero (l.set i x) (A++cs++B)
 | [],xs,i,v,h,hi=>by simp at hi
 | w::r,xs,i,v,h,hi=>by
  unfold VsR at h
  obtain⟨a,b,rfl,h1,h2⟩:=h
  cases i with
  | zero=>
   simp only[List.getElem?_cons_zero,Option.some.injEq]at hi
   subst hi
   refine⟨[],a,b,rfl,by simp,h1.len,h1,fun x cs hx=>?_⟩
   rw[List.set_cons_zero,List.nil_append]
   unfold VsR
   exact⟨cs,b,rfl,hx,h2⟩
  | succ i=>
   obtain⟨A,c,B,e1,e2,e3,e4,e5⟩:=VsR.mid h2 (by simpa using hi)
   refine⟨a++A,c,B,by rw[e1];simp,by rw[List.length_append,h1.len,e2];omega,e3,e4,fun x cs hx=>?_⟩
   rw[List.set_cons_succ]
   unfold VsR
   exact⟨a,A++cs++B,by simp,h1,e5 x cs hx⟩
theorem FsR.mid:∀{l:List Fd} {xs:List TV} {i:Nat} {k:B8} {v:Vl},FsR St.zero l xs->l[i]? =some (.mk k v)->∃A c B,xs=A++c++B/\A.length=i*14+1/\c.length=13/\VlR St.zero v c/\∀x cs,VlR St.zero x cs->FsR St.zero (l.set i (.mk k x)) (A++cs++B)
 | [],xs,i,k,v,h,hi=>by simp at hi
 | w::r,xs,i,k,v,h,hi=>by
  unfold FsR at h
  obtain⟨a,b,rfl,h1,h2⟩:=h
  cases i with
  | zero=>
   simp only[List.getElem?_cons_zero,Option.some.injEq]at hi
   subst hi
   unfold FdR at h1
   obtain⟨cs0,rfl,h1⟩:=h1
   refine⟨[.str k],cs0,b,rfl,by simp,h1.len,h1,fun x cs hx=>?_⟩
   rw[List.set_cons_zero]
   unfold FsR
   exact⟨.str k::cs,b,rfl,by unfold FdR;exact⟨cs,rfl,hx⟩,h2⟩
  | succ i=>
   obtain⟨A,c,B,e1,e2,e3,e4,e5⟩:=FsR.mid h2 (by simpa using hi)
   refine⟨a++A,c,B,by rw[e1];simp,by rw[List.length_append,h1.len,e2];omega,e3,e4,fun x cs hx=>?_⟩
   rw[List.set_cons_succ]
   unfold FsR
   exact⟨a,A++cs++B,by simp,h1,e5 x cs hx⟩
theorem EB.tail {p:TV} {s:Stp} {r:List Stp} (h:EB p (s::r)):TVF.isLst 3 p=true/\EB (slT 3 .non p (Int.toNat 1) (TVF.lenS p)) r:=by
 have h0:=h
 refine⟨Rd.isLst h,?_⟩
 rcases h with⟨rfl,h1,_⟩ | ⟨tip,rfl⟩
 ·simp at h1
 ·have hl:=Gb ((s::r).map sv)
  refine .inr ⟨.non,?_⟩
  show TV.list 3 .non (((s::r).map sv).length-1) (((((s::r).map sv).flatMap D1).take (((s::r).map sv).length*3)).drop (1*3))=_
  rw[List.take_of_length_le (by omega)]
  simp only[List.map_cons,List.length_cons,Nat.add_sub_cancel]
  rfl
theorem K5:VlR St.zero vlO [.int .i64 0,.bool false,.bool false,.str [],.int .i64 0,.int .i64 0,.int .i64 0,.int .i64 0,.int .i64 0,.str [],.nilSlice,.nilSlice,.nilSlice]:=by
 unfold vlO VlR
 refine⟨.nilSlice,.nilSlice,.nilSlice,[],[],rfl,.of_rd (.inl ⟨rfl,rfl,rfl⟩),.of_rd (.inl ⟨rfl,rfl,rfl⟩),by unfold VsR;rfl,.of_rd (.inl ⟨rfl,rfl,rfl⟩),by unfold FsR;rfl⟩
theorem Iv {st st':St} {s:Sc} {l:List Vl} {f:List Fd} {ub ul uf:TV} {xl xf:List TV} {bs:List Nat} (h1:SlR St.zero 1 ub s.bytes.length (AN s.bytes)) (h2:Bt st' 13 ul l.length xl bs) (h3:VsR St.zero l xl) (h4:SlR St.zero 14 uf f.length xf) (h5:FsR St.zero f xf) (hb:∀x,x∈bs->st.nb<=x):
  ∃ul',VlR St.zero (.mk s l f) (Aq s ub ul' uf)/\Ah ul'=true/\CR st st' (.agg (Aq s ub ul uf)) (.agg (Aq s ub ul' uf)):=by
 obtain⟨ul',q1,q2⟩:=h2.settle hb (VsR.setl h3)
 refine⟨ul',?_,q1.one,IO ?_⟩
 ·unfold VlR
  exact⟨ub,ul',uf,xl,xf,rfl,h1,.of_rd q1,h3,h4,h5⟩
 ·have c:∀{x x':TV} {l l':List TV},CR st st' x x'->BK st st' l l'->BK st st' (x::l) (x'::l'):=fun h k=>(BK.one h).app k
  exact c (AE _ _ _ _) (c (Cm _ _ _) (c (Cm _ _ _) (c (Ca _ _ _) (c (AE _ _ _ _) (c (AE _ _ _ _) (c (AE _ _ _ _) (c (AE _ _ _ _) (c (AE _ _ _ _) (c (Ca _ _ _)
   (c (D8 h1.zero (BK.bytes _ _ _)) (c q2 (c (D8 h4.zero (FsR.setl h5)) (BK.nil _ _)))))))))))))
theorem Iw {st st':St} {s:Sc} {l:List Vl} {f:List Fd} {ub ul uf:TV} {xl xf:List TV} {bs:List Nat} (h1:SlR St.zero 1 ub s.bytes.length (AN s.bytes)) (h2:SlR St.zero 13 ul l.length xl) (h3:VsR St.zero l xl) (h4:Bt st' 14 uf f.length xf bs) (h5:FsR St.zero f xf) (hb:∀x,x∈bs->st.nb<=x):
  ∃uf',VlR St.zero (.mk s l f) (Aq s ub ul uf')/\Ah uf'=true/\CR st st' (.agg (Aq s ub ul uf)) (.agg (Aq s ub ul uf')):=by
 obtain⟨uf',q1,q2⟩:=h4.settle hb (FsR.setl h5)
 refine⟨uf',?_,q1.one,IO ?_⟩
 ·unfold VlR
  exact⟨ub,ul,uf',xl,xf,rfl,h1,h2,h3,.of_rd q1,h5⟩
 ·have c:∀{x x':TV} {l l':List TV},CR st st' x x'->BK st st' l l'->BK st st' (x::l) (x'::l'):=fun h k=>(BK.one h).app k
  exact c (AE _ _ _ _) (c (Cm _ _ _) (c (Cm _ _ _) (c (Ca _ _ _) (c (AE _ _ _ _) (c (AE _ _ _ _) (c (AE _ _ _ _) (c (AE _ _ _ _) (c (AE _ _ _ _) (c (Ca _ _ _)
   (c (D8 h1.zero (BK.bytes _ _ _)) (c (D8 h2.zero (VsR.setl h3)) (c q2 (BK.nil _ _)))))))))))))
theorem ld0 {st:St} {sz n i:Nat} {u:TV} {A c B:List TV} {bs:List Nat} (h:Bt st sz u n (A++c++B) bs) (hA:A.length=i*sz) (hc:0<c.length):Al st [] (.t (ixT sz u i)) 0 c.length=some c:=by
 have:=h.ld (o:=0) (by omega) hc
 rcases h with⟨_,h1,_⟩ | ⟨b,cap,tail,rfl,_⟩
 ·simp only[List.append_eq_nil_iff]at h1
  rw[h1.1.2]at hc
  exact absurd hc (by simp)
 ·exact this
theorem SR {st:St} {sz n i:Nat} {u:TV} {A c B ys:List TV} {bs:List Nat} (h:Bt st sz u n (A++c++B) bs) (hA:A.length=i*sz) (hc:0<c.length) (hy:ys.length=c.length) {k:St->Prop} (hk:∀st',Bt st' sz u n (A++ys++B) bs->StX (·∈bs) st st'->k st'):stB st (ixT sz u i) ys k:=by
 have:=h.store (o:=0) (by omega) hc hy hk
 rcases h with⟨_,h1,_⟩ | ⟨b,cap,tail,rfl,_⟩
 ·simp only[List.append_eq_nil_iff]at h1
  rw[h1.1.2]at hc
  exact absurd hc (by simp)
 ·exact this
theorem Rz:∀{f:List Fd} {k:B8} {i:Nat} {v x:Vl},f[i]? =some (.mk k v)->(∀(j:Nat) d,j<i->f[j]? =some d->d.key≠k)->JI k f=some v/\JD k x f=f.set i (.mk k x)
 | [],k,i,v,x,h,_=>by simp at h
 | .mk k' v'::r,k,0,v,x,h,_=>by
  simp only[List.getElem?_cons_zero,Option.some.injEq,Fd.mk.injEq]at h
  obtain⟨rfl,rfl⟩:=h
  rw[JI,if_pos rfl,JD,if_pos rfl,List.set_cons_zero];exact⟨rfl,rfl⟩
 | .mk k' v'::r,k,i+1,v,x,h,hn=>by
  have h0:k'≠k:=hn 0 _ (by omega) rfl
  obtain⟨h1,h2⟩:=Rz (f:=r) (k:=k) (i:=i) (v:=v) (x:=x) (by simpa using h) fun j d hj hd=>hn (j+1) d (by omega) (by simpa using hd)
  rw[JI,if_neg h0,JD,if_neg h0,List.set_cons_succ,h2];exact⟨h1,rfl⟩
theorem Px:∀{f:List Fd} {k:B8} {x:Vl},(∀(j:Nat) d,f[j]? =some d->d.key≠k)->JI k f=none/\JD k x f=f++[.mk k x]
 | [],k,x,_=>⟨rfl,rfl⟩
 | .mk k' v'::r,k,x,hn=>by
  have h0:k'≠k:=hn 0 _ rfl
  obtain⟨h1,h2⟩:=Px (f:=r) (k:=k) (x:=x) fun j d hd=>hn (j+1) d (by simpa using hd)
  rw[JI,if_neg h0,JD,if_neg h0,h2];exact⟨h1,rfl⟩
theorem Rl {b:Bool} {o:Option TV} {y:TV} (h:need b (Ak o fun x=>x=y)):o=some y:=by
 obtain⟨_,h⟩:=Ai.1 h
 cases o with
 | none=>exact h.elim
 | some x=>exact congrArg some h
theorem Dl {x y:Prop} (h:x):BIf true x y:=h
theorem Bp {x y:Prop} (h:y):BIf false x y:=h
theorem J2:∀(q:List Stp) {w x:Vl} {cs ds:List TV} {p:TV} {st:St} {K:Int->Bool->Bool->B8->Int->Int->Int->Int->Int->B8->TV->TV->TV->St->Prop},VlR St.zero w cs->w.sz<=2000000->VlR St.zero x ds->EB p q->CT w q->
  (∀ub ul uf st',VlR St.zero (Bj w q x) (Aq (Bj w q x).sc ub ul uf)->List.all (Aq (Bj w q x).sc ub ul uf) Ah=true->Aj st st'->K (Bj w q x).sc.kind (Bj w q x).sc.b (Bj w q x).sc.neg (Bj w q x).sc.dg (Bj w q x).sc.ex (Bj w q x).sc.tk (Bj w q x).sc.td (Bj w q x).sc.tn (Bj w q x).sc.tz (Bj w q x).sc.text ub ul uf st')->
  CallT PR Ay [.agg cs,p,.agg ds] [.agg SG13] st K:=by
 intro q
 induction q with
 | nil=>
  intro w x cs ds p st K h hN hx hp hok hk
  obtain⟨sx,lx,fx⟩:=x
  obtain⟨sw,lw,fw⟩:=w
  obtain⟨a,b,c,_,_,rfl,_⟩:=VlR.cells h
  have hx0:=hx
  obtain⟨ub,ul,uf,_,_,rfl,w1,w2,_,w4,_⟩:=VlR.cells hx
  refine ED _ _ _ _ _ _ _ _ _ _ _ _ _ p _ _ _ _ _ _ _ _ _ _ _ _ _ st K (Aa hp.isSl ?_)
  rw[hp.lenS]
  refine Ab (fun _=>Aa (Br w1.one w2.one w4.one) ?_) fun g=>absurd rfl g
  exact hk ub ul uf st hx0 (Br w1.one w2.one w4.one) (Aj.refl st)
 | cons s r ih=>
  intro w x cs ds p st K h hN hx hp hok hk
  have hx0:=hx
  obtain⟨sx,lx,fx⟩:=x
  obtain⟨sw,lw,fw⟩:=w
  have hsz:=szs sw lw fw
  have hll:=CW lw
  have hfl:=B1 fw
  obtain⟨ub,ul,uf,xl,xf,rfl,h1,h2,h3,h4,h5⟩:=VlR.cells h
  obtain⟨xb,xl1,xf1,_,_,rfl,_⟩:=VlR.cells hx
  obtain⟨t1,t2⟩:=hp.tail
  have hs0:(((s::r).map sv))[0]? =some (sv s):=rfl
  refine CallT.settle (ED _ _ _ _ _ _ _ _ _ _ _ _ _ p _ _ _ _ _ _ _ _ _ _ _ _ _ st _ (Aa hp.isSl ?_))
  have hl1:(lenS p:Int)≠0:=by rw[hp.lenS,List.length_cons];omega
  refine Ab (fun g=>absurd g hl1) fun _=>?_
  have hl2:1<=lenS p:=by rw[hp.lenS,List.length_cons];omega
  refine fl3 (k:=0) hp rfl hs0 (by decide) (x:= .bool (sv s).1) rfl (Gp ?_)
  cases s with
  | idx i=>
   unfold CT at hok
   obtain⟨hi,hok⟩:=hok
   refine Dl ?_
   refine Ad (x:=(lw.length,xl)) (h2.zero.src (by rw[h3.len]) st) (Aa h3.all_one ?_)
   refine Nq (by rw[h3.len]) (by omega) fun v1 st1 bs ho0 e1 hb1=>?_
   refine fl3 (k:=0) hp rfl hs0 (by decide) (x:= .int .i64 i) rfl (Ba (Aa ho0.rd.isSl ?_))
   rw[ho0.rd.lenS]
   refine Ab (fun g=>?_) fun g=>?_
   ·have g:i=lw.length:=by omega
    refine EZ ho0 (by omega) rfl (by omega) fun v2 st2 bs2 ho he2 hbs2=>?_
    have hL:(if i=lw.length then lw++[vlO]else lw)=lw++[vlO]:=if_pos g
    have hv:VsR St.zero (lw++[vlO]) (xl++[.int .i64 0,.bool false,.bool false,.str [],.int .i64 0,.int .i64 0,.int .i64 0,.int .i64 0,.int .i64 0,.str [],.nilSlice,.nilSlice,.nilSlice]):=VsR.snoc h3 K5
    have hll2:(lw++[vlO]).length=lw.length+1:=by simp
    rw[<-hll2]at ho
    have hb2:∀x,x∈bs2->st.nb<=x:=fun x hx=>by
     rcases hbs2 with⟨h6,_⟩ | h6
     ·rw[h6]at hx;exact hb1 x hx
     ·rw[h6]at hx;rw[List.mem_singleton.1 hx];exact e1.nb
    have e2:Aj st st2:=StX.ext e1 he2 hb1
    have hgi:(lw++[vlO])[i]? =some vlO:=by rw[g];simp
    have hgd:(lw++[vlO]).getD i vlO=vlO:=by rw[List.getD_eq_getElem?_getD,hgi];rfl
    have husz:vlO.sz<=2000000:=by unfold vlO Vl.sz Bw Bq;simp[scO]
    obtain⟨L,hLe⟩:∃L,L=lw++[vlO]:=⟨_,rfl⟩
    replace hL:=hL.trans hLe.symm
    rw[<-hLe]at hgi hgd ho hv
    obtain⟨u,hue⟩:∃u,u=vlO:=⟨_,rfl⟩
    replace hgi:L[i]? =some u:=by rw[hue];exact hgi
    replace hgd:L.getD i vlO=u:=by rw[hue];exact hgd
    rw[<-hue]at husz
    refine fl3 (k:=0) hp rfl hs0 (by decide) (x:= .int .i64 i) rfl (Ba ?_)
    refine fl3 (k:=0) hp rfl hs0 (by decide) (x:= .int .i64 i) rfl (Ba ?_)
    have hiL:i<L.length:=(List.getElem?_eq_some_iff.1 hgi).1
    have hzl:=ho.rd.lenZ
    refine⟨⟨by omega,by rw[hzl];omega⟩,?_⟩
    rw[hL,hgd]at hok
    obtain⟨A,c,B,q1,q2,q3,q4,q5⟩:=VsR.mid hv hgi
    rw[q1]at ho
    have hld:=ld0 ho q2 (by omega)
    rw[q3]at hld
    rw[Int.toNat_natCast,hld]
    have q40:=q4
    obtain⟨su,lu,fu⟩:=u
    obtain⟨au,bu,cu,_,_,rfl,y1,y2,_,y4,_⟩:=VlR.cells q4
    refine Ad rfl (GW ⟨⟨t1,by omega,by omega⟩,?_⟩)
    refine ih q40 husz hx0 t2 hok fun ub' ul' uf' st3 hv' ho' e'=>?_
    have ho3:=ho.frame (StX.of (S:=fun _=>False) e') (fun x _ h=>h)
    have hl2:Ac st3 [] (.t (Au (ixT 3 p (Int.toNat 0)) 2)) 0=some (.int .i64 i):=Rl (fl3 (k:=0) (j:=2) (st:=st3) hp rfl hs0 (by decide) (x:= .int .i64 i) rfl (f:=fun y=>y= .int .i64 i) rfl).2
    refine⟨hl2,hl2,⟨by omega,by rw[hzl];omega⟩,Aa ho' ?_⟩
    refine SR (ys:=Aq (Bj (.mk su lu fu) r (.mk sx lx fx)).sc ub' ul' uf') ho3 q2 (by omega) rfl fun st4 ho4 e4=>?_
    refine Aa (by simp[ho4.rd.one]) (Aa (Br h1.one ho4.rd.one h4.one) ?_)
    have hput:Bj (.mk sw lw fw) (.idx i::r) (.mk sx lx fx)= .mk sw (L.set i (Bj (.mk su lu fu) r (.mk sx lx fx))) fw:=by rw[Bj,hL,hgd]
    rw[hput]at hk
    have hT:Aj st st4:=StX.ext (e2.trans e') e4 hb2
    have hlen:L.length=(L.set i (Bj (.mk su lu fu) r (.mk sx lx fx))).length:=by simp
    rw[hlen]at ho4
    obtain⟨ul2,z1,z2,z3⟩:=Iv (st:=st) h1 ho4 (q5 _ _ hv') h4 h5 hb2
    exact⟨hT,.agg (Aq sw ub ul2 uf),z3,hk ub ul2 uf (st4.upto st) z1 (Br h1.one z2 h4.one) (HA hT)⟩
   ·have g':i<lw.length:=by omega
    have hL:(if i=lw.length then lw++[vlO]else lw)=lw:=if_neg (by omega)
    obtain⟨u,hgi⟩:∃u,lw[i]? =some u:=⟨_,List.getElem?_eq_getElem g'⟩
    have hgd:lw.getD i vlO=u:=by rw[List.getD_eq_getElem?_getD,hgi];rfl
    have husz:u.sz<=2000000:=by have:=Ct hgi;omega
    have hv:=h3
    have ho:=ho0
    have hb2:=hb1
    have e2:=e1
    obtain⟨bs2,rfl⟩:∃b,b=bs:=⟨bs,rfl⟩
    obtain⟨v2,rfl⟩:∃b,b=v1:=⟨v1,rfl⟩
    obtain⟨st2,rfl⟩:∃b,b=st1:=⟨st1,rfl⟩
    obtain⟨L,hLe⟩:∃L,L=lw:=⟨lw,rfl⟩
    replace hL:=hL.trans hLe.symm
    rw[<-hLe]at hgi hgd hv ho
    refine fl3 (k:=0) hp rfl hs0 (by decide) (x:= .int .i64 i) rfl (Ba ?_)
    refine fl3 (k:=0) hp rfl hs0 (by decide) (x:= .int .i64 i) rfl (Ba ?_)
    have hiL:i<L.length:=(List.getElem?_eq_some_iff.1 hgi).1
    have hzl:=ho.rd.lenZ
    refine⟨⟨by omega,by rw[hzl];omega⟩,?_⟩
    rw[hL,hgd]at hok
    obtain⟨A,c,B,q1,q2,q3,q4,q5⟩:=VsR.mid hv hgi
    rw[q1]at ho
    have hld:=ld0 ho q2 (by omega)
    rw[q3]at hld
    rw[Int.toNat_natCast,hld]
    have q40:=q4
    obtain⟨su,lu,fu⟩:=u
    obtain⟨au,bu,cu,_,_,rfl,y1,y2,_,y4,_⟩:=VlR.cells q4
    refine Ad rfl (GW ⟨⟨t1,by omega,by omega⟩,?_⟩)
    refine ih q40 husz hx0 t2 hok fun ub' ul' uf' st3 hv' ho' e'=>?_
    have ho3:=ho.frame (StX.of (S:=fun _=>False) e') (fun x _ h=>h)
    have hl2:Ac st3 [] (.t (Au (ixT 3 p (Int.toNat 0)) 2)) 0=some (.int .i64 i):=Rl (fl3 (k:=0) (j:=2) (st:=st3) hp rfl hs0 (by decide) (x:= .int .i64 i) rfl (f:=fun y=>y= .int .i64 i) rfl).2
    refine⟨hl2,hl2,⟨by omega,by rw[hzl];omega⟩,Aa ho' ?_⟩
    refine SR (ys:=Aq (Bj (.mk su lu fu) r (.mk sx lx fx)).sc ub' ul' uf') ho3 q2 (by omega) rfl fun st4 ho4 e4=>?_
    refine Aa (by simp[ho4.rd.one]) (Aa (Br h1.one ho4.rd.one h4.one) ?_)
    have hput:Bj (.mk sw lw fw) (.idx i::r) (.mk sx lx fx)= .mk sw (L.set i (Bj (.mk su lu fu) r (.mk sx lx fx))) fw:=by rw[Bj,hL,hgd]
    rw[hput]at hk
    have hT:Aj st st4:=StX.ext (e2.trans e') e4 hb2
    have hlen:L.length=(L.set i (Bj (.mk su lu fu) r (.mk sx lx fx))).length:=by simp
    rw[hlen]at ho4
    obtain⟨ul2,z1,z2,z3⟩:=Iv (st:=st) h1 ho4 (q5 _ _ hv') h4 h5 hb2
    exact⟨hT,.agg (Aq sw ub ul2 uf),z3,hk ub ul2 uf (st4.upto st) z1 (Br h1.one z2 h4.one) (HA hT)⟩
  | key y=>
   unfold CT at hok
   refine Bp ?_
   refine Ad (x:=(fw.length,xf)) (h4.zero.src (by rw[h5.len]) st) (Aa h5.all_one ?_)
   refine Nq (k:=fw.length) (ys:=xf) (by rw[h5.len]) (by omega) fun v1 st1 bs ho0 e1 hb1=>?_
   refine⟨fun i u f1 a0 a1 a2 a3 a4 a5 a6 a7 a8 a9 a10 a11 a12 b0 b1 b2 b3 b4 b5 b6 b7 b8 b9 b10 b11 b12 c0 c1 c2 c3 c4 c5 c6 c7 c8 c9 c10 c11 c12 st'=>p=u/\v1=f1/\(sw.kind=a0/\sw.b=a1/\sw.neg=a2/\sw.dg=a3/\sw.ex=a4/\sw.tk=a5/\sw.td=a6/\sw.tn=a7/\sw.tz=a8/\sw.text=a9/\ub=a10/\ul=a11/\uf=a12)/\(sx.kind=b0/\sx.b=b1/\sx.neg=b2/\sx.dg=b3/\sx.ex=b4/\sx.tk=b5/\sx.td=b6/\sx.tn=b7/\sx.tz=b8/\sx.text=b9/\xb=b10/\xl1=b11/\xf1=b12)/\st1=st'/\∃k:Nat,i=k/\k<=fw.length/\∀(j:Nat) d,j<k->fw[j]? =some d->d.key≠y,
    fun i _ _ _ _ _ _ _ _ _ _ _ _ _ _ _ _ _ _ _ _ _ _ _ _ _ _ _ _ _ _ _ _ _ _ _ _ _ _ _ _ _ _=>(fw.length-i).toNat,⟨rfl,rfl,⟨rfl,rfl,rfl,rfl,rfl,rfl,rfl,rfl,rfl,rfl,rfl,rfl,rfl⟩,⟨rfl,rfl,rfl,rfl,rfl,rfl,rfl,rfl,rfl,rfl,rfl,rfl,rfl⟩,rfl,0,rfl,Nat.zero_le _,fun j d hj=>by omega⟩,?_⟩
   rintro _ _ _ _ _ _ _ _ _ _ _ _ _ _ _ _ _ _ _ _ _ _ _ _ _ _ _ _ _ c0 c1 c2 c3 c4 c5 c6 c7 c8 c9 c10 c11 c12 _ ⟨rfl,rfl,⟨rfl,rfl,rfl,rfl,rfl,rfl,rfl,rfl,rfl,rfl,rfl,rfl,rfl⟩,⟨rfl,rfl,rfl,rfl,rfl,rfl,rfl,rfl,rfl,rfl,rfl,rfl,rfl⟩,rfl,k,rfl,hkf,hne⟩
   have hself:Bg st1 st1:=⟨Nat.le_refl _,fun _ _=>rfl⟩
   refine Aa ho0.rd.isSl ?_
   rw[ho0.rd.lenS]
   refine Ab (fun g=>?_) fun g=>?_
   ·have gd:fw[k]? =some fw[k]:=List.getElem?_eq_getElem (by omega)
    generalize fw[k]=d at gd
    refine JA hself ho0.rd (FsR.keep (C0 st1) h5) rfl gd (fl3 (k:=0) hp rfl hs0 (by decide) (x:= .str y) rfl (B4 (Ab (fun g3=>?_) fun g3=>?_)))
    ·rw[Ao _ (by omega) (by omega)]
     refine⟨⟨rfl,rfl,⟨rfl,rfl,rfl,rfl,rfl,rfl,rfl,rfl,rfl,rfl,rfl,rfl,rfl⟩,⟨rfl,rfl,rfl,rfl,rfl,rfl,rfl,rfl,rfl,rfl,rfl,rfl,rfl⟩,rfl,k+1,by omega,by omega,fun j d' hj hd'=>?_⟩,by dsimp only;omega⟩
     by_cases hjk:j=k
     ·subst hjk;rw[gd]at hd';cases hd';exact g3
     ·exact hne j d' (by omega) hd'
    ·refine Aa ho0.rd.isSl ?_
     refine Ab (fun h=>absurd h (by omega)) fun _=>?_
     obtain⟨k0,u⟩:=d
     have g3':k0=y:=Decidable.not_not.1 g3
     subst g3'
     obtain⟨w1,w2⟩:=Rz (x:=Bj u r (.mk sx lx fx)) gd hne
     rw[w1]at hok
     have hput0:Bj (.mk sw lw fw) (.key k0::r) (.mk sx lx fx)= .mk sw lw (fw.set k (Fd.mk k0 (Bj u r (.mk sx lx fx)))):=by rw[Bj,w1,<-w2];rfl
     have husz:u.sz<=2000000:=by have:=Dy gd;rw[szd]at this;omega
     obtain⟨i,rfl⟩:∃i,i=k:=⟨k,rfl⟩
     obtain⟨y,rfl⟩:∃y,y=k0:=⟨k0,rfl⟩
     obtain⟨bs2,rfl⟩:∃b,b=bs:=⟨bs,rfl⟩
     obtain⟨v2,rfl⟩:∃b,b=v1:=⟨v1,rfl⟩
     obtain⟨st2,rfl⟩:∃b,b=st1:=⟨st1,rfl⟩
     obtain⟨L,hLe⟩:∃L,L=fw:=⟨fw,rfl⟩
     have hgi:=gd
     have hv:=h5
     have ho:=ho0
     have hb2:=hb1
     have e2:=e1
     have hput:=hput0
     replace hput:Bj (.mk sw lw fw) (.key y::r) (.mk sx lx fx)= .mk sw lw (L.set i (Fd.mk y (Bj u r (.mk sx lx fx)))):=by rw[hLe];exact hput0
     rw[<-hLe]at hgi hv ho
     have hiL:i<L.length:=(List.getElem?_eq_some_iff.1 hgi).1
     have hzl:=ho.rd.lenZ
     obtain⟨A,c,B,q1,q2,q3,q4,q5⟩:=FsR.mid hv hgi
     rw[q1]at ho
     have hip:=ho.rd.isPtr hiL
     refine⟨⟨by omega,by rw[hzl];omega⟩,Aa (by rw[Int.toNat_natCast];exact hip) ?_⟩
     have hld:=ho.ld q2 (by omega)
     rw[q3]at hld
     rw[Int.toNat_natCast,hld]
     have q40:=q4
     obtain⟨su,lu,fu⟩:=u
     obtain⟨au,bu,cu,_,_,rfl,y1,y2,_,y4,_⟩:=VlR.cells q4
     refine Ad rfl (GW ⟨⟨t1,by omega,by omega⟩,?_⟩)
     refine ih q40 husz hx0 t2 hok fun ub' ul' uf' st3 hv' ho' e'=>?_
     have ho3:=ho.frame (StX.of (S:=fun _=>False) e') (fun x _ h=>h)
     refine⟨⟨by omega,by rw[hzl];omega⟩,Aa hip (Aa ho' ?_)⟩
     refine ho3.store (ys:=Aq (Bj (.mk su lu fu) r (.mk sx lx fx)).sc ub' ul' uf') q2 (by omega) rfl fun st4 ho4 e4=>?_
     refine Aa (by simp[ho4.rd.one]) (Aa (Br h1.one h2.one ho4.rd.one) ?_)
     rw[hput]at hk
     have hT:Aj st st4:=StX.ext (e2.trans e') e4 hb2
     have hlen:L.length=(L.set i (Fd.mk y (Bj (.mk su lu fu) r (.mk sx lx fx)))).length:=by simp
     rw[hlen]at ho4
     obtain⟨uf2,z1,z2,z3⟩:=Iw (st:=st) h1 h2 h3 ho4 (q5 _ _ hv') hb2
     exact⟨hT,.agg (Aq sw ub ul uf2),z3,hk ub ul uf2 (st4.upto st) z1 (Br h1.one h2.one z2) (HA hT)⟩
   ·have hkk:k=fw.length:=by omega
    subst hkk
    refine Aa ho0.rd.isSl ?_
    refine Ab (fun _=>?_) fun h=>absurd rfl h
    refine fl3 (k:=0) hp rfl hs0 (by decide) (x:= .str y) rfl (B4 ?_)
    refine EZ ho0 (by omega) rfl (by omega) fun v2 st2 bs2 ho he2 hbs2=>?_
    obtain⟨w1,w2⟩:=Px (f:=fw) (k:=y) (x:=Bj vlO r (.mk sx lx fx)) fun j d hj=>hne j d (List.getElem?_eq_some_iff.1 hj).1 hj
    rw[w1]at hok
    have hok:CT vlO r:=hok
    have hgi:(fw++[Fd.mk y vlO])[fw.length]? =some (.mk y vlO):=by simp
    have hput:Bj (.mk sw lw fw) (.key y::r) (.mk sx lx fx)= .mk sw lw ((fw++[Fd.mk y vlO]).set fw.length (Fd.mk y (Bj vlO r (.mk sx lx fx)))):=by
     rw[Bj,w1]
     show Vl.mk sw lw (JD y (Bj vlO r (.mk sx lx fx)) fw)=_
     rw[w2];simp
    have hv:FsR St.zero (fw++[Fd.mk y vlO]) (xf++[.str y,.int .i64 0,.bool false,.bool false,.str [],.int .i64 0,.int .i64 0,.int .i64 0,.int .i64 0,.int .i64 0,.str [],.nilSlice,.nilSlice,.nilSlice]):=FsR.snoc h5 (by unfold FdR;exact⟨_,rfl,K5⟩)
    have hll2:(fw++[Fd.mk y vlO]).length=fw.length+1:=by simp
    rw[<-hll2]at ho
    have hb2:∀x,x∈bs2->st.nb<=x:=fun x hx=>by
     rcases hbs2 with⟨h6,_⟩ | h6
     ·rw[h6]at hx;exact hb1 x hx
     ·rw[h6]at hx;rw[List.mem_singleton.1 hx];exact e1.nb
    have e2:Aj st st2:=StX.ext e1 he2 hb1
    have husz:vlO.sz<=2000000:=by unfold vlO Vl.sz Bw Bq;simp[scO]
    obtain⟨L,hLe⟩:∃L,L=fw++[Fd.mk y vlO]:=⟨_,rfl⟩
    obtain⟨i,hie⟩:∃i,i=fw.length:=⟨_,rfl⟩
    rw[<-hLe,<-hie]at hgi hput
    rw[<-hLe]at hv ho
    obtain⟨u,hue⟩:∃u,u=vlO:=⟨_,rfl⟩
    rw[<-hue]at husz hgi hput hok
    rw[<-hie]
    have hiL:i<L.length:=(List.getElem?_eq_some_iff.1 hgi).1
    have hzl:=ho.rd.lenZ
    obtain⟨A,c,B,q1,q2,q3,q4,q5⟩:=FsR.mid hv hgi
    rw[q1]at ho
    have hip:=ho.rd.isPtr hiL
    refine⟨⟨by omega,by rw[hzl];omega⟩,Aa (by rw[Int.toNat_natCast];exact hip) ?_⟩
    have hld:=ho.ld q2 (by omega)
    rw[q3]at hld
    rw[Int.toNat_natCast,hld]
    have q40:=q4
    obtain⟨su,lu,fu⟩:=u
    obtain⟨au,bu,cu,_,_,rfl,y1,y2,_,y4,_⟩:=VlR.cells q4
    refine Ad rfl (GW ⟨⟨t1,by omega,by omega⟩,?_⟩)
    refine ih q40 husz hx0 t2 hok fun ub' ul' uf' st3 hv' ho' e'=>?_
    have ho3:=ho.frame (StX.of (S:=fun _=>False) e') (fun x _ h=>h)
    refine⟨⟨by omega,by rw[hzl];omega⟩,Aa hip (Aa ho' ?_)⟩
    refine ho3.store (ys:=Aq (Bj (.mk su lu fu) r (.mk sx lx fx)).sc ub' ul' uf') q2 (by omega) rfl fun st4 ho4 e4=>?_
    refine Aa (by simp[ho4.rd.one]) (Aa (Br h1.one h2.one ho4.rd.one) ?_)
    rw[hput]at hk
    have hT:Aj st st4:=StX.ext (e2.trans e') e4 hb2
    have hlen:L.length=(L.set i (Fd.mk y (Bj (.mk su lu fu) r (.mk sx lx fx)))).length:=by simp
    rw[hlen]at ho4
    obtain⟨uf2,z1,z2,z3⟩:=Iw (st:=st) h1 h2 h3 ho4 (q5 _ _ hv') hb2
    exact⟨hT,.agg (Aq sw ub ul uf2),z3,hk ub ul uf2 (st4.upto st) z1 (Br h1.one h2.one z2) (HA hT)⟩
abbrev Plc:=List Stp×Nat×Nat
def PlR:List Plc->List TV->Prop
 | [],xs=>xs=[]
 | (q,w,i)::r,xs=>∃pv d,xs=pv:: .int .i64 w:: .int .i64 i::d/\EB pv q/\PlR r d
theorem PlR.len:∀{l:List Plc} {xs:List TV},PlR l xs->xs.length=l.length*3
 | [],xs,h=>by unfold PlR at h;subst h;rfl
 | (q,w,i)::r,xs,h=>by
  unfold PlR at h
  obtain⟨pv,d,rfl,h1,h2⟩:=h
  simp only[List.length_cons,PlR.len h2];omega
theorem PlR.get:∀{l:List Plc} {xs:List TV} {k:Nat} {q:List Stp} {w i:Nat},PlR l xs->l[k]? =some (q,w,i)->∃pv,xs[k*3+0]? =some pv/\xs[k*3+1]? =some (.int .i64 w)/\xs[k*3+2]? =some (.int .i64 i)/\EB pv q
 | [],xs,k,q,w,i,h,hk=>by simp at hk
 | (q',w',i')::r,xs,k,q,w,i,h,hk=>by
  unfold PlR at h
  obtain⟨pv,d,rfl,h1,h2⟩:=h
  cases k with
  | zero=>
   simp only[List.getElem?_cons_zero,Option.some.injEq,Prod.mk.injEq]at hk
   obtain⟨rfl,rfl,rfl⟩:=hk
   exact⟨pv,rfl,rfl,rfl,h1⟩
  | succ k=>
   obtain⟨p',g1,g2,g3,g4⟩:=PlR.get h2 (by simpa using hk)
   refine⟨p',?_,?_,?_,g4⟩
   ·rw[show(k+1)*3+0=k*3+0+1+1+1 by omega];simpa using g1
   ·rw[show(k+1)*3+1=k*3+1+1+1+1 by omega];simpa using g2
   ·rw[show(k+1)*3+2=k*3+2+1+1+1 by omega];simpa using g3
theorem PlR.snoc:∀{l:List Plc} {xs:List TV} {q:List Stp} {w i:Nat} {pv:TV},PlR l xs->EB pv q->PlR (l++[(q,w,i)]) (xs++[pv,.int .i64 w,.int .i64 i])
 | [],xs,q,w,i,pv,h,hp=>by
  unfold PlR at h
  subst h
  rw[List.nil_append,List.nil_append]
  unfold PlR PlR
  exact⟨pv,[],rfl,hp,rfl⟩
 | (q',w',i')::r,xs,q,w,i,pv,h,hp=>by
  unfold PlR at h
  obtain⟨p',d,rfl,h1,h2⟩:=h
  rw[List.cons_append]
  unfold PlR
  exact⟨p',d++[pv,.int .i64 w,.int .i64 i],rfl,h1,PlR.snoc h2 hp⟩
theorem PlR.one:∀{l:List Plc} {xs:List TV},PlR l xs->List.all xs Ah=true
 | [],xs,h=>by unfold PlR at h;subst h;rfl
 | (q,w,i)::r,xs,h=>by
  unfold PlR at h
  obtain⟨pv,d,rfl,h1,h2⟩:=h
  have h3:=PlR.one h2
  show(Ah pv&&(true&&(true&&List.all d Ah)))=true
  rw[Rd.one h1,h3];rfl
theorem MS:∀ss:List G5,List.all (ss.flatMap D1) Ah=true
 | []=>rfl
 | s::r=>by
  rw[List.flatMap_cons,List.all_append,MS r]
  rfl
theorem R8 {a b:TV} {ss tt:List G5} {st:St} {K:Bool->St->Prop} (ha:Kp a ss) (hb:Kp b tt) (hl:ss.length<=1000000) (hk:K (decide (ss=tt)) st):CallT PR CH [a,b] [.one .bool] st K:=by
 refine Hc a b st K (Aa (Rd.isSl ha) (Aa (Rd.isSl hb) ?_))
 rw[Rd.lenS ha,Rd.lenS hb]
 refine Ab (fun g=>?_) fun g=>?_
 ·have:ss≠tt:=fun e=>g (by rw[e])
  rw[decide_eq_false this]at hk;exact hk
 have hlen:ss.length=tt.length:=by omega
 refine⟨fun i x y st'=>a=x/\b=y/\st=st'/\∃k:Nat,i=k/\k<=ss.length/\ss.take k=tt.take k,fun i _ _ _=>(ss.length-i).toNat,⟨rfl,rfl,rfl,0,rfl,Nat.zero_le _,rfl⟩,?_⟩
 rintro _ _ _ _ ⟨rfl,rfl,rfl,k,rfl,hkl,hE⟩
 refine Aa (Rd.isSl ha) ?_
 rw[Rd.lenS ha]
 refine Ab (fun g=>?_) fun g=>?_
 ·have hs:ss[k]? =some ss[k]:=List.getElem?_eq_getElem (by omega)
  have ht:tt[k]? =some tt[k]:=List.getElem?_eq_getElem (by omega)
  generalize ss[k]=s at hs
  generalize tt[k]=t at ht
  refine el3 ha rfl hs (el3 hb rfl ht ?_)
  refine As (fun hne=>?_) fun he=>?_
  ·have:ss≠tt:=fun e=>by
    subst e
    rw[hs]at ht
    cases ht
    simp at hne
   rw[decide_eq_false this]at hk;exact hk
  ·have:s=t:=by
    obtain⟨s1,s2,s3⟩:=s
    obtain⟨t1,t2,t3⟩:=t
    simp only[Bool.not_eq_false',Bool.and_eq_true,beq_iff_eq,decide_eq_true_eq,Bool.and_true]at he
    rw[he.1,he.2.1,he.2.2]
   subst this
   rw[Ao _ (by omega) (by omega)]
   refine⟨⟨rfl,rfl,rfl,k+1,by omega,by omega,?_⟩,by dsimp only;omega⟩
   rw[List.take_add_one,List.take_add_one,hE,hs,ht]
 ·have hkk:k=ss.length:=by omega
  rw[hkk,List.take_length,hlen,List.take_length]at hE
  rw[decide_eq_true hE]at hk;exact hk
theorem sv_inj:∀{a b:Stp},sv a=sv b->a=b
 | .key k,.key k',h=>by cases h;rfl
 | .idx i,.idx j,h=>by
  unfold sv at h
  simp only[Prod.mk.injEq,true_and]at h
  have:i=j:=by omega
  rw[this]
 | .key k,.idx i,h=>by cases h
 | .idx i,.key k,h=>by cases h
theorem Ti:∀{p q:List Stp},p.map sv=q.map sv->p=q
 | [],[],_=>rfl
 | [],_::_,h=>by cases h
 | _::_,[],h=>by cases h
 | a::p,b::q,h=>by
  rw[List.map_cons,List.map_cons,List.cons.injEq]at h
  rw[sv_inj h.1,Ti h.2]
theorem KR {p:TV} {q:List Stp} {s:Stp} {st:St} {K:TV->St->Prop} (hp:EB p q) (hl:q.length<=1000000) (hk:∀v st',EB v (q++[s])->Aj st st'->K v st'):CallT PR A0 [p,.agg (D1 (sv s))] [.one .tv] st K:=by
 have h3:=Gb (q.map sv)
 rw[List.length_map]at h3
 refine Hq p _ _ _ st K (Ad (x:=((q.map sv).length,(q.map sv).flatMap D1)) (Rd.src hp (Gb _) st) (Aa (MS _) ?_))
 refine DN (Aj.refl st) rfl (Own.full _ _ _ 0 []) (by rw[List.length_map];omega) (fun h0=>?_) fun v1 st1 e1 _ ho1=>?_
 ·rw[List.length_map]at h0
  have:q=[]:=List.eq_nil_of_length_eq_zero h0
  rw[this];rfl
 refine DN e1 rfl ho1 (by rw[List.length_map];omega) (fun h=>by cases h) fun v2 st2 e2 _ ho2=>?_
 refine hk v2 st2 ?_ e2
 unfold EB Kp
 have:=ho2.rd
 rw[Nat.zero_add,List.nil_append]at this
 rw[List.map_append,List.flatMap_append,List.length_append]
 exact this
def AQ (q:List Stp):List Plc->Option (Nat×Nat)
 | []=>none
 | (p,w,i)::r=>if p=q then some (w,i)else AQ q r
theorem O9 {q p:List Stp} {pl:List Plc} {k w i:Nat} (h:pl[k]? =some (p,w,i)):AQ q (pl.drop k)=if p=q then some (w,i)else AQ q (pl.drop (k+1)):=by
 rw[CA h,AQ]
theorem IU {q p:List Stp} {w i:Nat}:∀{pl:List Plc},AQ q (pl++[(p,w,i)])=match AQ q pl with | some x=>some x | none=>if p=q then some (w,i)else none
 | []=>by simp[AQ]
 | (p',w',i')::r=>by
  rw[List.cons_append,AQ,AQ]
  split
  ·rfl
  ·exact IU
theorem Gv {p cv plv:TV} {q:List Stp} {pl:List Plc} {xs:List TV} {st:St} {k0:Int} {b0 b1:Bool} {s0:B8} {k1 k2 k3 k4 k5:Int} {s1:B8} {u1 u2 u3:TV} {K:Int->Int->St->Prop} (hp:EB p q) (hq:q.length<=1000000) (hpl:Rd 3 plv pl.length xs) (hx:PlR pl xs) (hl:pl.length<=1000000) (hql:∀x,x∈pl->x.1.length<=1000000)
  (hk1:∀w i (k:Nat),AQ q pl=some (w,i)->K w k st) (hk2:AQ q pl=none->K 0 (-1) st):
  CallT PR Bd [.agg [.int .i64 k0,.bool b0,.bool b1,.str s0,.int .i64 k1,.int .i64 k2,.int .i64 k3,.int .i64 k4,.int .i64 k5,.str s1,u1,u2,u3,cv,plv],p] [.one (.int .i64),.one (.int .i64)] st K:=by
 refine E5 _ _ _ _ _ _ _ _ _ _ _ _ _ cv plv p st K ⟨fun i x a0 a1 a2 a3 a4 a5 a6 a7 a8 a9 a10 a11 a12 c y st'=>p=x/\plv=y/\st=st'/\∃k:Nat,i=k/\k<=pl.length/\AQ q pl=AQ q (pl.drop k),
  fun i _ _ _ _ _ _ _ _ _ _ _ _ _ _ _ _ _=>(pl.length-i).toNat,⟨rfl,rfl,rfl,0,rfl,Nat.zero_le _,rfl⟩,?_⟩
 rintro _ _ a0 a1 a2 a3 a4 a5 a6 a7 a8 a9 a10 a11 a12 c _ _ ⟨rfl,rfl,rfl,k,rfl,hkl,hE⟩
 refine Aa (Rd.isSl hpl) ?_
 rw[Rd.lenS hpl]
 refine Ab (fun g=>?_) fun g=>?_
 ·have hs:pl[k]? =some pl[k]:=List.getElem?_eq_getElem (by omega)
  generalize pl[k]=x at hs
  obtain⟨q',w,i⟩:=x
  obtain⟨pv,g1,g2,g3,g4⟩:=hx.get hs
  have hlq:=hql _ (List.mem_of_getElem? hs)
  rw[O9 hs]at hE
  have hip:=hpl.isP (show k<pl.length by omega)
  have hz:=Rd.lenZ hpl
  refine⟨⟨by omega,by rw[hz];omega⟩,Aa (by rw[Int.toNat_natCast];exact hip) (Ad (x:=pv) (by rw[Int.toNat_natCast];exact hpl.ldfx st k 0 g1) ?_)⟩
  refine R8 g4 hp (by rw[List.length_map];exact hlq) ?_
  have hde:decide (q'.map sv=q.map sv)=decide (q'=q):=decide_eq_decide.2 ⟨Ti,fun e=>by rw[e]⟩
  rw[hde]
  refine Ab (fun he=>?_) fun he=>?_
  ·rw[if_pos he]at hE
   refine⟨⟨by omega,by rw[hz];omega⟩,Aa (by rw[Int.toNat_natCast];exact hip) (Ad (x:= .int .i64 w) (by rw[Int.toNat_natCast];exact hpl.ldfx st k 1 g2) (Ba ?_))⟩
   exact hk1 w i k hE
  ·rw[if_neg he]at hE
   rw[Ao _ (by omega) (by omega)]
   exact⟨⟨rfl,rfl,rfl,k+1,by omega,by omega,hE⟩,by dsimp only;omega⟩
 ·have hkk:k=pl.length:=by omega
  rw[hkk,List.drop_length,AQ]at hE
  exact hk2 hE
theorem KW {p cv plv:TV} {q:List Stp} {pl:List Plc} {xs:List TV} {st:St} {k0:Int} {b0 b1:Bool} {s0:B8} {k1 k2 k3 k4 k5:Int} {s1:B8} {u1 u2 u3:TV} {w i:Nat} {K:Int->Bool->Bool->B8->Int->Int->Int->Int->Int->B8->TV->TV->TV->TV->TV->St->Prop}
  (hone:List.all [.int .i64 k0,.bool b0,.bool b1,.str s0,.int .i64 k1,.int .i64 k2,.int .i64 k3,.int .i64 k4,.int .i64 k5,.str s1,u1,u2,u3] Ah=true) (hcv:Ah cv=true) (hp:EB p q) (hpl:Rd 3 plv pl.length xs) (hx:PlR pl xs) (hl:pl.length<=1000000)
  (hk:∀v xs' st',Rd 3 v (pl.length+1) xs'->PlR (pl++[(q,w,i)]) xs'->Aj st st'->K k0 b0 b1 s0 k1 k2 k3 k4 k5 s1 u1 u2 u3 cv v st'):
  CallT PR AP [.agg [.int .i64 k0,.bool b0,.bool b1,.str s0,.int .i64 k1,.int .i64 k2,.int .i64 k3,.int .i64 k4,.int .i64 k5,.str s1,u1,u2,u3,cv,plv],p,.int .i64 w,.int .i64 i] [.agg [.int .i64,.bool,.bool,.str,.int .i64,.int .i64,.int .i64,.int .i64,.int .i64,.str,.tv,.tv,.tv,.tv,.tv]] st K:=by
 refine E6 _ _ _ _ _ _ _ _ _ _ _ _ _ cv plv p w i st K (Ad (x:=(pl.length,xs)) (Rd.src hpl hx.len st) (Aa hx.one ?_))
 refine DN (Aj.refl st) rfl (Own.full _ _ _ 0 []) (by omega) (fun h0=>?_) fun v1 st1 e1 _ ho1=>?_
 ·have:pl=[]:=List.eq_nil_of_length_eq_zero h0
  subst this
  unfold PlR at hx
  exact hx
 refine Aa (by rw[List.all_cons,Rd.one hp];rfl) (Aa (by rw[List.all_cons,Rd.one hp];rfl) ?_)
 refine DN e1 rfl ho1 (by omega) (fun h=>by cases h) fun v2 st2 e2 _ ho2=>?_
 have hr:=ho2.rd
 rw[Nat.zero_add,List.nil_append]at hr
 refine Aa (by rw[List.all_cons,hr.one];rfl) (Aa ?_ (hk v2 _ st2 hr (hx.snoc hp) e2))
 have:List.all ([.int .i64 k0,.bool b0,.bool b1,.str s0,.int .i64 k1,.int .i64 k2,.int .i64 k3,.int .i64 k4,.int .i64 k5,.str s1,u1,u2,u3]++[cv,v2]) Ah=true:=by
  rw[List.all_append,hone,List.all_cons,hcv,List.all_cons,hr.one];rfl
 exact this
end Go.TVF
section
namespace Go.TVF
open Go.IntKind(i64 u8)
theorem KL:∀h:List Hop,(stp h).length=dpH h
 | []=>rfl
 | (k,none)::h=>by rw[stp,dpH,List.length_cons,KL h]
 | (k,some i)::h=>by rw[stp,dpH,List.length_cons,List.length_cons,KL h]
theorem HB (h:List Hop) (k:B8):stp (h++[(k,none)])=stp h++[.key k]:=by rw[KN];rfl
theorem Lk (h:List Hop) (k:B8) (i:Nat):stp (h++[(k,some i)])=stp h++[.key k]++[.idx i]:=by rw[KN,List.append_assoc];rfl
theorem cnt_sub {t u:Tb} {k:B8} {eb:Nat} (h:Ag k t.es=some (eb,.opn u)):(Ae u).cnt<=(Ae t).cnt:=by
 have:=(RJ (x:= .opn u) h).lvu
 obtain⟨F,G,h1,_⟩:=Cr h
 rw[B9 t,h1]
 simp only[Vl.cnt,DK,AJ,Fd.cnt,AC]
 omega
theorem TX {t u:Tb} {k:B8} {eb i:Nat} {l:List Tb} (h:Ag k t.es=some (eb,.lst l)) (hi:l[i]? =some u):(Ae u).cnt<=(Ae t).cnt/\i<=(Ae t).cnt:=by
 obtain⟨F,G,h1,_⟩:=Cr h
 have h2:=TW hi
 have h3:=LH h
 have h4:=(List.getElem?_eq_some_iff.1 hi).1
 rw[B9 t,h1]at h3⊢
 simp only[Vl.cnt,DK,AJ,Fd.cnt,AC]at h3⊢
 omega
theorem KM:∀{h:List Hop} {T t:Tb},atT T h=some t->∀i,.idx i∈stp h->i<=(Ae T).cnt
 | [],T,t,hA,i,hi=>by cases hi
 | (k,none)::h,.mk b m hd es,t,hA,i,hi=>by
  rw[atT]at hA
  rcases hl:Ag k es with _ | ⟨eb,u | l | ⟨v,j⟩⟩<;>rw[hl]at hA<;>simp only at hA<;>try (cases hA;done)
  rw[stp]at hi
  have h1:=cnt_sub (t:= .mk b m hd es) (show Ag k (Tb.mk b m hd es).es=some (eb,.opn u)from hl)
  rcases List.mem_cons.1 hi with h2 | h2
  ·cases h2
  ·have:=KM hA i h2;omega
 | (k,some j)::h,.mk b m hd es,t,hA,i,hi=>by
  rw[atT]at hA
  rcases hl:Ag k es with _ | ⟨eb,u | l | ⟨v,i'⟩⟩<;>rw[hl]at hA<;>simp only at hA<;>try (cases hA;done)
  cases hj:l[j]? with
  | none=>simp[hj]at hA
  | some u=>
  rw[hj]at hA
  simp only at hA
  rw[stp]at hi
  have h1:=TX (t:= .mk b m hd es) (show Ag k (Tb.mk b m hd es).es=some (eb,.lst l)from hl) hj
  rcases List.mem_cons.1 hi with h2 | h2
  ·cases h2
  ·rcases List.mem_cons.1 h2 with h3 | h3
   ·cases h3;exact h1.2
   ·have:=KM hA i h3;omega
theorem Pz {T t:Tb} {h:List Hop} (hA:atT T h=some t) (k:B8):DM (Ae T) (stp h++[.key k])=(Ag k t.es).map fun p=>AC p.2:=by
 rw[Oc h hA,B9 t,DM,Cy]
 cases Ag k t.es with
 | none=>rfl
 | some p=>simp only[Option.map_some,DM]
theorem Kd {T t:Tb} {h:List Hop} (hA:atT T h=some t) (k:B8) (p:List Stp):Ax T (stp h++ .key k::p)=match Ag k t.es with | some (_,e)=>ID e p | none=>(0,0):=by
 rw[KY h hA]
 obtain⟨b,m,hd,es⟩:=t
 rw[DS]
 rfl
theorem Sn (nu:Nu) (p:List Stp):ID (.opn (AA nu false)) p=(0,0):=by
 unfold AA
 match p with
 | []=>rfl
 | .key k::p=>rw[ID,DS];rfl
 | .idx i::p=>rfl
theorem Tw {T t:Tb} {h:List Hop} {k:B8} {nu:Nu} (hA:atT T h=some t) (hl:Ag k t.es=none) (q:List Stp):Ax (Av T h (AR t k nu.eb (.opn (AA nu false)))) q=Ax T q:=by
 rw[Kc (t':=AR t k nu.eb (.opn (AA nu false))) (k:=k) (e':=(nu.eb,.opn (AA nu false))) hA rfl fun k2=>Gj hl]
 cases hs:AT (stp h++[.key k]) q with
 | none=>rfl
 | some p=>
  have hq:=D7 hs
  rw[hq,List.append_assoc]
  show ID _ p=Ax T (stp h++ .key k::p)
  rw[Sn,Kd hA,hl]
theorem Tx {nu:Nu} {hd:Bool} {T T' t:Tb} {h h':List Hop} {k:B8} (hA:atT T h=some t) (hh:Dp nu hd T h k=some (T',h')) (q:List Stp):Ax T' q=Ax T q:=by
 unfold Dp at hh
 rw[hA]at hh
 simp only at hh
 rcases hl:Ag k t.es with _ | ⟨eb,e⟩
 ·rw[hl]at hh
  simp only[Option.some.injEq,Prod.mk.injEq]at hh
  rw[<-hh.1];exact Tw hA hl q
 ·rw[hl]at hh
  cases e with
  | opn w=>simp only[Option.some.injEq,Prod.mk.injEq]at hh;rw[<-hh.1]
  | lst l=>
   simp only at hh
   cases hd with
   | false=>simp at hh
   | true=>simp only[if_true,Option.some.injEq,Prod.mk.injEq]at hh;rw[<-hh.1]
  | clo v i=>simp at hh
theorem Ke {nu:Nat->Nu} {hd:Bool}:∀(ks:List B8) (j:Nat) {T T' t:Tb} {h h':List Hop},atT T h=some t->NeL (shT 1 T)->BC nu hd j T h ks=some (T',h')->∀q,Ax T' q=Ax T q
 | [],j,T,T',t,h,h',hA,hn,hh,q=>by unfold BC at hh;cases hh;rfl
 | k::ks,j,T,T',t,h,h',hA,hn,hh,q=>by
  unfold BC at hh
  cases h1:Dp (nu j) hd T h k with
  | none=>rw[h1]at hh;cases hh
  | some p=>
   obtain⟨T1,h1'⟩:=p
   rw[h1]at hh
   obtain⟨t1,hA1⟩:=(N7 hA (fun eb l=>Rm hA hn) h1).at_
   rw[Ke ks (j+1) hA1 (QC hA h1 hn) hh q,Tx hA h1 q]
def Jd (pl:List Plc) (T:Tb):Prop:=∀q,match AQ q pl with
 | some (w,i)=>w≠0/\Ax T q=(w,if w=1 then i else 0)
 | none=>(Ax T q).1=0
theorem Jd.congr {pl:List Plc} {T T':Tb} (h:Jd pl T) (e:∀q,Ax T' q=Ax T q):Jd pl T':=fun q=>by rw[e q];exact h q
theorem Jd.has {pl:List Plc} {T:Tb} (h:Jd pl T) {q:List Stp} {w i:Nat} (hq:AQ q pl=some (w,i)):w≠0/\Ax T q=(w,if w=1 then i else 0):=by
 have:=h q
 rw[hq]at this;exact this
theorem Jd.not {pl:List Plc} {T:Tb} (h:Jd pl T) {q:List Stp} (hq:AQ q pl=none):(Ax T q).1=0:=by
 have:=h q
 rw[hq]at this;exact this
theorem Em:∀(h:List Hop) {T t:Tb},atT T h=some t->∀p,CT (Ae t) p->CT (Ae T) (stp h++p)
 | [],T,t,hA,p,hp=>by cases T;cases hA;exact hp
 | (k,none)::h,.mk b m hd es,t,hA,p,hp=>by
  rw[atT]at hA
  rcases hl:Ag k es with _ | ⟨eb,u | l | ⟨v,i⟩⟩<;>rw[hl]at hA<;>simp only at hA<;>try (cases hA;done)
  rw[stp,List.cons_append,Ae]
  unfold CT
  rw[Cy,hl]
  simp only[Option.map_some,Option.getD_some,AC]
  exact Em h hA p hp
 | (k,some i)::h,.mk b m hd es,t,hA,p,hp=>by
  rw[atT]at hA
  rcases hl:Ag k es with _ | ⟨eb,u | l | ⟨v,j⟩⟩<;>rw[hl]at hA<;>simp only at hA<;>try (cases hA;done)
  cases hi:l[i]? with
  | none=>simp[hi]at hA
  | some u=>
  rw[hi]at hA
  simp only at hA
  have hlt:=(List.getElem?_eq_some_iff.1 hi).1
  rw[stp,List.cons_append,List.cons_append,Ae]
  unfold CT
  rw[Cy,hl]
  simp only[Option.map_some,Option.getD_some,AC]
  unfold CT
  have hne:¬i=(A2 l).length:=by rw[AS,List.length_map];omega
  refine⟨by rw[AS,List.length_map];omega,?_⟩
  rw[if_neg hne]
  have hg:(A2 l).getD i vlO=Ae u:=by rw[AS,List.getD_eq_getElem?_getD,List.getElem?_map,hi];rfl
  rw[hg]
  exact Em h hA p hp
theorem Ia (t:Tb) (k:B8):CT (Ae t) [.key k]:=by
 rw[B9]
 unfold CT CT
 trivial
theorem KQ {T t:Tb} {h:List Hop} {k:B8} (hA:atT T h=some t) (hl:Ag k t.es=none) (eb:Nat) (e:En):Bj (Ae T) (stp h++[.key k]) (AC e)=Ae (Av T h (AR t k eb e)):=by
 refine J3 h hA ?_
 rw[B9 t,Bj,Cy,hl]
 simp only[Option.map_none,Option.getD_none]
 show Vl.mk scM [] (JD k (AC e) (AD t.es))=_
 rw[Pw hl eb e rfl]
 unfold AR
 rw[Ae]
theorem Rh {T t:Tb} {h:List Hop} {k:B8} {eb:Nat} {e0:En} (hA:atT T h=some t) (hl:Ag k t.es=some (eb,e0)) (e:En) {p:List Stp} {x:Vl} (hx:Bj (AC e0) p x=AC e):Bj (Ae T) (stp h++ .key k::p) x=Ae (Av T h (BV t k e)):=by
 refine J3 h hA ?_
 rw[B9 t,Bj,Cy,hl]
 simp only[Option.map_some,Option.getD_some]
 rw[hx,JC hl]
 unfold BV
 rw[Ae]
end Go.TVF
end
namespace Go.TVF
open Go.IntKind(i64 u8)
open Go Go.Proofs
theorem IR (T:Tb):(Ae T).sc=scM:=by rw[B9];rfl
theorem RT {T:Tb} {cs:List TV} (h:VlR St.zero (Ae T) cs):∃ub ul uf,cs=Aq scM ub ul uf/\List.all (Aq scM ub ul uf) Ah=true:=by
 have h0:=h
 rw[B9]at h0
 obtain⟨ub,ul,uf,_,_,rfl,w1,w2,_,w4,_⟩:=VlR.cells h0
 exact⟨ub,ul,uf,rfl,Br w1.one w2.one w4.one⟩
theorem Rs {ks:List B8} (j:Nat):kz (ks.take j)<=kz ks:=by
 have:=Kb (ks.take j) (ks.drop j)
 rw[List.take_append_drop]at this
 omega
theorem kz_get {ks:List B8} {j:Nat} (h:j<ks.length):(ks.getD j []).length+1<=kz ks:=by
 have h1:=Rs (ks:=ks) (j+1)
 rw[Cd h,Kb]at h1
 have:kz [ks.getD j []]=(ks.getD j []).length+1:=by simp[kz]
 omega
theorem vmap13:VlR St.zero (AC (.opn (AA n0 false))) [.int .i64 7,.bool false,.bool false,.str [],.int .i64 0,.int .i64 0,.int .i64 0,.int .i64 0,.int .i64 0,.str [],.nilSlice,.nilSlice,.nilSlice]:=by
 rw[AC,AA,Ae,AD]
 unfold VlR
 exact⟨.nilSlice,.nilSlice,.nilSlice,[],[],rfl,.of_rd (.inl ⟨rfl,rfl,rfl⟩),.of_rd (.inl ⟨rfl,rfl,rfl⟩),by unfold VsR;rfl,.of_rd (.inl ⟨rfl,rfl,rfl⟩),by unfold FsR;rfl⟩
theorem Sb {T t:Tb} {h0:List Hop} {ks:List B8} {hd:Bool} {ub ul uf cv plv fv kv:TV} {pl:List Plc} {xs:List TV} {st:St}
  {K:Int->Bool->Bool->B8->Int->Int->Int->Int->Int->B8->TV->TV->TV->TV->TV->TV->Int->St->Prop}
  (hA:atT T h0=some t) (hN:NeL (shT 1 T)) (hv:VlR St.zero (Ae T) (Aq scM ub ul uf)) (hf:EB fv (stp h0)) (hr:Rd 1 kv ks.length (ks.map TV.str)) (hks:ks≠ []) (hcv:Ah cv=true) (hpl:Rd 3 plv pl.length xs) (hx:PlR pl xs) (hll:pl.length<=100000) (hql:∀x,x∈pl->x.1.length<=1000000)
  (hP:Jd pl T) (hc:(Ae T).cnt+ks.length<=900000) (hz:(Ae T).sz+kz ks<=1000000)
  (hk1:∀T1 h t1 ub ul uf pv st',BC (fun _=>n0) hd 0 T h0 ks.dropLast=some (T1,h)->atT T1 h=some t1->VlR St.zero (Ae T1) (Aq scM ub ul uf)->List.all (Aq scM ub ul uf) Ah=true->EB pv (stp h++[.key (ks.getLastD [])])->Aj st st'->K 7 false false [] 0 0 0 0 0 [] ub ul uf cv plv pv 0 st')
  (hk2:∀ub ul uf st',BC (fun _=>n0) hd 0 T h0 ks.dropLast=none->List.all (Aq scM ub ul uf) Ah=true->Aj st st'->K 7 false false [] 0 0 0 0 0 [] ub ul uf cv plv .nilSlice 8 st'):
  CallT PR CE [.agg (Aq scM ub ul uf++[cv,plv]),fv,kv,.bool hd] [.agg [.int .i64,.bool,.bool,.str,.int .i64,.int .i64,.int .i64,.int .i64,.int .i64,.str,.tv,.tv,.tv,.tv,.tv],.one .tv,.one (.int .i64)] st K:=by
 have klen:0<ks.length:=List.length_pos_iff.2 hks
 have hpo:Ah plv=true:=Rd.one hpl
 refine G8 _ _ _ _ _ _ _ _ _ _ ub ul uf cv plv fv kv hd st K ⟨fun p i k h a0 a1 a2 a3 a4 a5 a6 a7 a8 a9 a10 a11 a12 c y b0 b1 b2 b3 b4 b5 b6 b7 b8 b9 b10 b11 b12 z1 z2 st'=>kv=k/\hd=h/\cv=c/\plv=y/\Aj st st'/\∃(j:Nat) (T':Tb) (h':List Hop) (t':Tb),i=j/\j<ks.length/\BC (fun _=>n0) hd 0 T h0 (ks.take j)=some (T',h')/\atT T' h'=some t'/\EB p (stp h')/\VlR St.zero (Ae T') [.int .i64 a0,.bool a1,.bool a2,.str a3,.int .i64 a4,.int .i64 a5,.int .i64 a6,.int .i64 a7,.int .i64 a8,.str a9,a10,a11,a12],
  fun _ i _ _ _ _ _ _ _ _ _ _ _ _ _ _ _ _ _ _ _ _ _ _ _ _ _ _ _ _ _ _ _ _ _=>(ks.length-i).toNat,⟨rfl,rfl,rfl,rfl,Aj.refl st,0,T,h0,t,rfl,klen,rfl,hA,hf,hv⟩,?_⟩
 rintro p _ _ _ a0 a1 a2 a3 a4 a5 a6 a7 a8 a9 a10 a11 a12 _ _ b0 b1 b2 b3 b4 b5 b6 b7 b8 b9 b10 b11 b12 z1 z2 st1 ⟨rfl,rfl,rfl,rfl,e1,j,T',h',t',rfl,hj,hh,hA',hp,hv'⟩
 obtain⟨W,hN'⟩:=Ff (ks.take j) 0 hA hN hh (Nat.le_refl _)
 have w1:=W.cnt
 have w2:=W.sz
 have hkt:=Rs (ks:=ks) j
 have hkg:=kz_get hj
 have hlt:(ks.take j).length=j:=by rw[List.length_take];omega
 have hdp:=I8 hA'
 have hsl:=KL h'
 have hP':=hP.congr (Ke (ks.take j) 0 hA hN hh)
 obtain⟨ub1,ul1,uf1,hc1,on1⟩:=RT hv'
 cases hc1
 have hcs:=Fo (Ae T')
 have next:∀{T2 h2},Dp n0 hd T' h' (ks.getD j [])=some (T2,h2)->BC (fun _=>n0) hd 0 T h0 (ks.take (j+1))=some (T2,h2):=fun {T2 h2} hq=>by
  rw[Cd hj,If,hh];exact hq
 have stop:Dp n0 hd T' h' (ks.getD j [])=none->j+1<ks.length->BC (fun _=>n0) hd 0 T h0 ks.dropLast=none:=fun hq hlt2=>by
  have h3:ks.dropLast=ks.take (j+1)++(ks.dropLast).drop (j+1):=by
   have:=(List.take_append_drop (j+1) ks.dropLast).symm
   rw[List.dropLast_eq_take,List.take_take,Nat.min_eq_left (by omega)]at this
   rw[List.dropLast_eq_take];exact this
  rw[h3]
  refine Ig _ _ _ _ _ ?_
  rw[Cd hj,If,hh];exact hq
 refine Aa (Rd.isSl hr) ?_
 rw[Rd.lenS hr]
 refine Ab (fun _=>?_) fun g=>absurd (by omega) g
 refine⟨⟨by omega,by rw[Rd.lenZ hr];omega⟩,Ad (x:= .str (ks.getD j [])) ?_ (B4 ?_)⟩
 ·have:=Dc hj
  rw[Int.toNat_natCast]
  exact hr.ldx st1 j 0 (by rw[Nat.mul_one];exact this)
 refine KR (s:= .key (ks.getD j [])) hp (by omega) fun v11 st2 hp2 e2=>Aa (Rd.isSl hr) ?_
 rw[Ao _ (by omega) (by omega)]
 refine Ab (fun g=>?_) fun g=>?_
 ·have g:j+1=ks.length:=by omega
  have hdl:ks.dropLast=ks.take j:=by rw[List.dropLast_eq_take];congr 1;omega
  have hgl:ks.getLastD []=ks.getD j []:=by
   rw[List.getLastD_eq_getLast?,List.getLast?_eq_getElem?,List.getD_eq_getElem?_getD,show ks.length-1=j by omega]
  rw[<-hdl]at hh
  rw[<-hgl]at hp2
  refine Aa ?_ (hk1 T' h' t' a10 a11 a12 v11 st2 hh hA' hv' on1 hp2 (e1.trans e2))
  have:List.all (Aq scM a10 a11 a12++[cv,plv]) Ah=true:=by rw[List.all_append,on1,List.all_cons,hcv,List.all_cons,hpo];rfl
  exact this
 have g:j+1<ks.length:=by omega
 have hplen:(stp h'++[Stp.key (ks.getD j [])]).length=dpH h'+1:=by rw[List.length_append,hsl];rfl
 have ons:List.all (Aq scM a10 a11 a12++[cv,plv]) Ah=true:=by rw[List.all_append,on1,List.all_cons,hcv,List.all_cons,hpo];rfl
 have hfk:=Pz hA' (ks.getD j [])
 have hik:=Kd hA' (ks.getD j []) []
 refine Oa hv' (by omega) hp2 (by omega) (fun i hi=>?_) (fun x ub2 ul2 uf2 hf2 hv2 on2=>Aa on2 (Bp ?_)) fun hf2=>Aa rfl (Dl ?_)
 ·rcases List.mem_append.1 hi with h1 | h1
  ·have:=KM hA' i h1;omega
  ·cases List.mem_singleton.1 h1
 ·--something stands there
  rw[hfk]at hf2
  rcases hl:Ag (ks.getD j []) t'.es with _ | ⟨eb,e⟩
  ·rw[hl]at hf2;cases hf2
  rw[hl]at hf2 hik
  simp only[Option.map_some,Option.some.injEq]at hf2
  simp only at hik
  have kind:∀w i,AQ (stp h'++[.key (ks.getD j [])]) pl=some (w,i)->w=(Dj e).1:=fun w i hq=>by
   have:=(hP'.has hq).2
   rw[hik]at this
   have:(Dj e)=(w,if w=1 then i else 0):=by cases e<;>exact this
   rw[this]
  have kind0:AQ (stp h'++[.key (ks.getD j [])]) pl=none->(Dj e).1=0:=fun hq=>by
   have:=hP'.not hq
   rw[hik]at this
   cases e<;>exact this
  have nxt:∀{o:Option Nat} {u:Tb} {pv:TV} {st3:St} {s:List (B8×Option Nat)},Dp n0 hd T' h' (ks.getD j [])=some (T',h'++[(ks.getD j [],o)])->atT T' (h'++[(ks.getD j [],o)])=some u->EB pv (stp (h'++[(ks.getD j [],o)]))->Aj st2 st3->
    (kv=kv/\hd=hd/\cv=cv/\plv=plv/\Aj st st3/\∃(j2:Nat) (T2:Tb) (h2:List Hop) (t2:Tb),(j:Int)+1=j2/\j2<ks.length/\BC (fun _=>n0) hd 0 T h0 (ks.take j2)=some (T2,h2)/\atT T2 h2=some t2/\EB pv (stp h2)/\VlR St.zero (Ae T2) (Aq scM a10 a11 a12))/\(ks.length-((j:Int)+1)).toNat<(ks.length-(j:Int)).toNat:=fun {o u pv st3 s} q1 q2 q3 q4=>
   ⟨⟨rfl,rfl,rfl,rfl,(e1.trans e2).trans q4,j+1,T',_,u,by omega,g,next q1,q2,q3,hv'⟩,by omega⟩
  refine Gv hp2 (by omega) hpl hx (by omega) hql (fun w i k hq=>?_) fun hq=>?_
  ·have hw:=kind w i hq
   cases e with
   | clo v i'=>
    have hw:w=1:=hw
    subst hw
    refine Ab (fun _=>Aa ons (hk2 a10 a11 a12 st2 (stop ?_ g) on1 (e1.trans e2))) fun h=>absurd rfl h
    unfold Dp;rw[hA'];simp only[hl]
   | lst l=>
    have hw:w=3:=hw
    subst hw
    refine Ab (fun h=>absurd h (by decide)) fun _=>Ab (fun _=>?_) fun h=>absurd rfl h
    cases hd with
    | false=>
     refine Dl (Aa ons (hk2 a10 a11 a12 st2 (stop ?_ g) on1 (e1.trans e2)))
     unfold Dp;rw[hA'];simp only[hl];rfl
    | true=>
     refine Bp (Ab (fun _=>?_) fun h=>absurd rfl h)
     have hle:l≠ []:=Rm hA' hN' hl
     have hl0:0<l.length:=List.length_pos_iff.2 hle
     have hll2:=LH hl
     have hat:=(Nw hA').1
     rw[<-hf2,AC]at hv2
     obtain⟨_,_,_,_,_,hc2,y1,y2,_,y4,_⟩:=VlR.cells hv2
     cases hc2
     refine Aa y2.isSl ?_
     rw[y2.lenS,AS,List.length_map,Ao _ (by omega) (by omega)]
     have hpl2:((l.length:Int)-1)=((l.length-1:Nat):Int):=by omega
     rw[hpl2]
     refine KR (s:= .idx (l.length-1)) hp2 (by omega) fun v18 st3 hp3 e3=>?_
     rw[<-Lk]at hp3
     refine nxt (s:=[]) (o:=some (l.length-1)) (u:=l[l.length-1]'(by omega)) ?_ (Ja hA' hl (List.getElem?_eq_getElem (by omega))) hp3 e3
     unfold Dp;rw[hA'];simp only[hl];rfl
   | opn u=>
    have hw1:w≠1/\w≠3:=by
     have:w=if u.hd=true then 2 else 0:=hw
     split at this<;>omega
    refine Ab (fun h=>absurd h (by omega)) fun _=>Ab (fun h=>absurd h (by omega)) fun _=>Ab (fun h=>absurd h (by omega)) fun _=>?_
    refine nxt (s:=[]) (o:=none) (u:=u) ?_ (Km hA' hl) (by rw[HB];exact hp2) (Aj.refl st2)
    unfold Dp;rw[hA'];simp only[hl]
  ·have hw:=kind0 hq
   cases e with
   | clo v i'=>exact absurd hw (by simp[Dj])
   | lst l=>exact absurd hw (by simp[Dj])
   | opn u=>
    refine Ab (fun h=>absurd h (by decide)) fun _=>Ab (fun h=>absurd h (by decide)) fun _=>Ab (fun h=>absurd h (by decide)) fun _=>?_
    refine nxt (s:=[]) (o:=none) (u:=u) ?_ (Km hA' hl) (by rw[HB];exact hp2) (Aj.refl st2)
    unfold Dp;rw[hA'];simp only[hl]
 ·rw[hfk]at hf2
  have hl:Ag (ks.getD j []) t'.es=none:=by
   cases hq:Ag (ks.getD j []) t'.es with
   | none=>rfl
   | some p=>rw[hq]at hf2;cases hf2
  have hput:=KQ hA' hl 0 (.opn (AA n0 false))
  refine J2 (stp h'++[.key (ks.getD j [])]) hv' (by omega) vmap13 hp2 (Em h' hA' _ (Ia t' _)) fun ub3 ul3 uf3 st3 hv3 on3 e3=>?_
  rw[hput]at hv3 on3⊢
  rw[IR]at hv3 on3⊢
  refine Aa on3 ⟨⟨rfl,rfl,rfl,rfl,(e1.trans e2).trans e3,j+1,_,h'++[(ks.getD j [],none)],_,by omega,g,next ?_,Ko (nu:=n0) hA' hl,by rw[HB];exact hp2,hv3⟩,by dsimp only;omega⟩
  unfold Dp;rw[hA'];simp only[hl]
theorem R9:∀(N:Nat) (v:Vl),v.sz<=N->N<=2000000->∀{st0 st:St} {cs:List TV} {K:Int->Bool->Bool->B8->Int->Int->Int->Int->Int->B8->TV->TV->TV->St->Prop},VlR st0 v cs->Bg st0 st->
  (∀ub ul uf st',VlR St.zero v (Aq v.sc ub ul uf)->Ah ub=true->Ah ul=true->Ah uf=true->Aj st st'->K v.sc.kind v.sc.b v.sc.neg v.sc.dg v.sc.ex v.sc.tk v.sc.td v.sc.tn v.sc.tz v.sc.text ub ul uf st')->
  CallT PR Bn [.agg cs] [.agg [.int .i64,.bool,.bool,.str,.int .i64,.int .i64,.int .i64,.int .i64,.int .i64,.str,.tv,.tv,.tv]] st K:=by
 intro N
 induction N with
 | zero=>intro v h;have:=v.sz_pos;omega
 | succ N ih=>
 intro v hN hN2 st0 st cs K h hke hk
 cases v with
 | mk s l f=>
 have hsz:=szs s l f
 have hll:=CW l
 have hfl:=B1 f
 obtain⟨ub0,ul,uf,xl,xf,rfl,h1,h2,h3,h4,h5⟩:=h.cells
 refine Hy _ _ _ _ _ _ _ _ _ _ _ _ _ st K (Aa (Br h1.one h2.one h4.one) (Ad ((h1.keep hke).src (by rw[FM];omega)) (Aa (SF _) ?_)))
 refine HU (Aj.refl st) rfl (Own.full st.nt 1 st 0 []) (by omega) (fun h0=>by
  have:s.bytes=[]:=List.length_eq_zero_iff.1 h0
  rw[this];rfl) fun ub st0' e0 _ hob=>Aa (by simp[hob.rd.one]) ?_
 simp only[List.nil_append,Nat.zero_add]at hob
 have hkb:=hke.trans e0.keeps
 refine⟨fun i k1 b1 b2 s1 k2 k3 k4 k5 k6 s2 v1 v2 v3 k7 b3 b4 s3 k8 k9 k10 k11 k12 s4 v4 v5 v6 k13 b5 b6 s5 k14 k15 k16 k17 k18 s6 v7 v8 v9 st'=>
   ul=v2/\uf=v3/\s.kind=k13/\s.b=b5/\s.neg=b6/\s.dg=s5/\s.ex=k14/\s.tk=k15/\s.td=k16/\s.tn=k17/\s.tz=k18/\s.text=s6/\ub=v7/\TV.nilSlice=v9/\∃(k:Nat) (xs:List TV),i=k/\k<=l.length/\Aj st0' st'/\Own st0'.nt 13 st' v8 k xs/\VsR St.zero (l.take k) xs,
  fun i _ _ _ _ _ _ _ _ _ _ _ _ _ _ _ _ _ _ _ _ _ _ _ _ _ _ _ _ _ _ _ _ _ _ _ _ _ _ _ _=>(l.length-i).toNat,
  ⟨rfl,rfl,rfl,rfl,rfl,rfl,rfl,rfl,rfl,rfl,rfl,rfl,rfl,rfl,0,[],rfl,Nat.zero_le _,Aj.refl _,Own.nil _ _ _,by simp only[List.take_zero];unfold VsR;rfl⟩,?_⟩
 rintro _ k1 b1 b2 s1 k2 k3 k4 k5 k6 s2 v1 _ _ k7 b3 b4 s3 k8 k9 k10 k11 k12 s4 v4 v5 v6 _ _ _ _ _ _ _ _ _ _ _ v8 _ st1 ⟨rfl,rfl,rfl,rfl,rfl,rfl,rfl,rfl,rfl,rfl,rfl,rfl,rfl,rfl,k,xs,rfl,hkl,e1,ho,hv⟩
 have hke1:=hkb.trans e1.keeps
 refine Aa h2.isSl (Ab (fun g=>?_) fun g=>?_)
 ·rw[h2.lenS]at g
  refine MD hke1 h2 h3 rfl (by omega) fun s1 l1 f1 ub1 ul1 uf1 gw hw on=>?_
  have hwsz:=Ct gw
  refine ih (.mk s1 l1 f1) (by omega) (by omega) hw hke1 fun wb wl wf st2 hw2 o1 o2 o3 e2=>Aa (Br o1 o2 o3) ?_
  refine DN (e1.trans e2) rfl (ho.ext e2) (by omega) (fun h=>by cases h) fun v9 st3 e3 e3' ho3=>Aa (by simp[ho3.rd.one]) ?_
  rw[Ao _ (by omega) (by omega)]
  refine⟨⟨rfl,rfl,rfl,rfl,rfl,rfl,rfl,rfl,rfl,rfl,rfl,rfl,rfl,rfl,k+1,_,by omega,by omega,e3,ho3,?_⟩,by dsimp only;omega⟩
  rw[Ce gw]
  exact VsR.snoc hv hw2
 ·rw[h2.lenS]at g
  have hkk:k=l.length:=by omega
  subst hkk
  rw[List.take_length]at hv
  refine⟨fun i k1 b1 b2 s1 k2 k3 k4 k5 k6 s2 v1 v2 v3 k7 b3 b4 s3 k8 k9 k10 k11 k12 s4 v4 v5 v6 k13 b5 b6 s5 k14 k15 k16 k17 k18 s6 v7 w1 w2 st'=>
   uf=v3/\s.kind=k13/\s.b=b5/\s.neg=b6/\s.dg=s5/\s.ex=k14/\s.tk=k15/\s.td=k16/\s.tn=k17/\s.tz=k18/\s.text=s6/\ub=v7/\v8=w1/\∃(k:Nat) (ys:List TV),i=k/\k<=f.length/\Aj st1 st'/\Own st1.nt 14 st' w2 k ys/\FsR St.zero (f.take k) ys,
   fun i _ _ _ _ _ _ _ _ _ _ _ _ _ _ _ _ _ _ _ _ _ _ _ _ _ _ _ _ _ _ _ _ _ _ _ _ _ _ _ _=>(f.length-i).toNat,
   ⟨rfl,rfl,rfl,rfl,rfl,rfl,rfl,rfl,rfl,rfl,rfl,rfl,rfl,0,[],rfl,Nat.zero_le _,Aj.refl _,Own.nil _ _ _,by simp only[List.take_zero];unfold FsR;rfl⟩,?_⟩
  rintro _ k1 b1 b2 s1 k2 k3 k4 k5 k6 s2 v1 v2 _ k7 b3 b4 s3 k8 k9 k10 k11 k12 s4 v4 v5 v6 _ _ _ _ _ _ _ _ _ _ _ _ w8 st5 ⟨rfl,rfl,rfl,rfl,rfl,rfl,rfl,rfl,rfl,rfl,rfl,rfl,rfl,q,ys,rfl,hql,e5,ho5,hv5⟩
  have hke5:=hke1.trans e5.keeps
  refine Aa h4.isSl (Ab (fun g2=>?_) fun g2=>?_)
  ·rw[h4.lenS]at g2
   have gd:f[q]? =some f[q]:=List.getElem?_eq_getElem (by omega)
   generalize f[q]=d at gd
   refine JA hke5 h4 h5 rfl gd ?_
   refine Lh hke5 h4 h5 rfl (by omega) fun key s1 l1 f1 ub1 ul1 uf1 gw hw on=>?_
   rw[gd]at gw
   have hde:=Option.some.inj gw
   subst hde
   have hsa:=JE (Fc gd)
   have hzd:=szd key (.mk s1 l1 f1)
   refine ih (.mk s1 l1 f1) (by omega) (by omega) hw hke5 fun wb wl wf st6 hw2 o1 o2 o3 e6=>⟨LO (hke5.trans e6.keeps) h4 h5 gd,Aa (Rj o1 o2 o3) ?_⟩
   refine DN (e5.trans e6) rfl (ho5.ext e6) (by omega) (fun h=>by cases h) fun v9 st7 e7 e7' ho7=>Aa (by simp[ho7.rd.one]) ?_
   rw[Ao _ (by omega) (by omega)]
   refine⟨⟨rfl,rfl,rfl,rfl,rfl,rfl,rfl,rfl,rfl,rfl,rfl,rfl,rfl,q+1,_,by omega,by omega,e7,ho7,?_⟩,by dsimp only;omega⟩
   rw[Ce gd]
   refine FsR.snoc hv5 ?_
   unfold FdR
   exact⟨_,rfl,hw2⟩
  ·rw[h4.lenS]at g2
   have hqq:q=f.length:=by omega
   subst hqq
   rw[List.take_length]at hv5
   refine Aa (Br hob.rd.one ho.rd.one ho5.rd.one) (hk ub v8 w8 st5 ?_ hob.rd.one ho.rd.one ho5.rd.one ((e0.trans e1).trans e5))
   unfold VlR
   exact⟨ub,v8,w8,xs,ys,rfl,.of_rd hob.rd,.of_rd ho.rd,hv,.of_rd ho5.rd,hv5⟩
theorem R5 {v:Vl} {st0 st:St} {cs:List TV} {K:Bool->St->Prop} (h:VlR st0 v cs) (hk:K (F0 v) st):CallT PR Bi [.agg cs] [.one .bool] st K:=by
 obtain⟨s,l,f⟩:=v
 obtain⟨ub,ul,uf,xl,xf,rfl,h1,h2,_,h3,_⟩:=h.cells
 have kf:¬(s=scO/\l=[]/\f=[])->K false st:=fun hn=>by
  have:F0 (.mk s l f)=false:=by
   rw[Bool.eq_false_iff]
   intro e
   unfold F0 at e
   simp only[Bool.and_eq_true,decide_eq_true_eq,List.isEmpty_iff]at e
   exact hn ⟨e.1.1,e.1.2,e.2⟩
  rw[<-this];exact hk
 refine G7 s.kind s.b s.neg s.dg s.ex s.tk s.td s.tn s.tz s.text ub ul uf st K (Ab (fun g1=>?_) fun g1=>kf fun e=>g1 (by rw[e.1];rfl))
 refine As (fun g2=>?_) fun g2=>kf fun e=>by rw[e.1]at g2;simp[scO]at g2
 refine As (fun g3=>?_) fun g3=>kf fun e=>by rw[e.1]at g3;simp[scO]at g3
 refine As (fun g4=>?_) fun g4=>kf fun e=>by rw[e.1]at g4;simp[scO]at g4
 refine Ab (fun g5=>?_) fun g5=>kf fun e=>g5 (by rw[e.1];rfl)
 refine Aa h1.isSl ?_
 rw[h1.lenS]
 refine Ab (fun g6=>?_) fun g6=>kf fun e=>g6 (by rw[e.1];rfl)
 refine Aa h2.isSl ?_
 rw[h2.lenS]
 refine Ab (fun g7=>?_) fun g7=>kf fun e=>g7 (by rw[e.2.1];rfl)
 refine Aa h3.isSl ?_
 rw[h3.lenS]
 have hs:s=scO:=by
  obtain⟨kind,b,neg,dg,ex,tk,td,tn,tz,text,bytes⟩:=s
  simp only[Bool.not_eq_true',Bool.and_true,Bool.and_eq_true,beq_iff_eq,decide_eq_true_eq]at g1 g2 g3 g4 g5 g6
  have:bytes=[]:=List.eq_nil_of_length_eq_zero (by omega)
  unfold scO
  simp only[g1,g2,g3.1,g3.2.1,g3.2.2,g4.1,g4.2.1,g4.2.2.1,g4.2.2.2,g5,this]
 have hl:l=[]:=List.eq_nil_of_length_eq_zero (by omega)
 have:decide ((f.length:Int)=0)=F0 (.mk s l f):=by
  unfold F0
  rw[hs,hl]
  cases f<;>simp[Vl.sc,Vl.list,Vl.flds]<;>omega
 rw[this];exact hk
theorem Qj {a_0 a_1:Bool} {a_2:TV} {ks:List B8} {v:Vl} {st0 st:St} {cs:List TV} {K:Bool->St->Prop} (hr:Rd 1 a_2 ks.length (ks.map TV.str)) (h:VlR st0 v cs)
  (hk:K (Cc ⟨a_0,a_1,ks,v⟩) st):CallT PR BD [.agg (.bool a_0:: .bool a_1::a_2::cs)] [.one .bool] st K:=by
 have hz:∀{K:Bool->St->Prop},K (F0 v) st->CallT PR Bi [.agg cs] [.one .bool] st K:=fun hk=>R5 h hk
 obtain⟨s,l,f⟩:=v
 obtain⟨ub,ul,uf,xl,xf,rfl,_⟩:=h.cells
 have hsl:isSl a_2=true:=by rcases hr with⟨rfl,_⟩ | ⟨tip,rfl⟩<;>rfl
 have hle:lenS a_2=ks.length:=by
  rcases hr with⟨rfl,e,_⟩ | ⟨tip,rfl⟩
  ·exact e.symm
  ·rfl
 unfold Cc at hk
 refine Gx a_0 a_1 a_2 s.kind s.b s.neg s.dg s.ex s.tk s.td s.tn s.tz s.text ub ul uf st K (Aa hsl ?_)
 rw[hle]
 refine Ab (fun g=>?_) fun g=>?_
 ·have hne:ks.isEmpty=false:=by cases ks with | nil=>simp at g | cons a b=>rfl
  simp only[hne,Bool.not_false,Bool.true_and]at hk
  cases a_0 with
  | true=>exact hz (by simpa using hk)
  | false=>
   cases a_1 with
   | true=>exact(show K false st from by simpa using hk)
   | false=>exact(show K true st from by simpa using hk)
 ·have hne:ks=[]:=List.eq_nil_of_length_eq_zero (by omega)
  simp only[hne,List.isEmpty_nil,Bool.not_true,Bool.false_and]at hk
  exact hk
structure RSt (T:Tb) (cur:List Hop) (pl:List Plc) (ub ul uf cv plv:TV):Prop where
 v:VlR St.zero (Ae T) (Aq scM ub ul uf)
 on:List.all (Aq scM ub ul uf) Ah=true
 cv:EB cv (stp cur)
 row:∃xs,Rd 3 plv pl.length xs/\PlR pl xs
 ok:Jd pl T
 ql:∀x,x∈pl->x.1.length<=1000000
 nd:(pl.map fun x=>x.1).Nodup
theorem RSt.on15 {T:Tb} {cur:List Hop} {pl:List Plc} {ub ul uf cv plv:TV} (h:RSt T cur pl ub ul uf cv plv):List.all (Aq scM ub ul uf++[cv,plv]) Ah=true:=by
 obtain⟨xs,h1,_⟩:=h.row
 rw[List.all_append,h.on,List.all_cons,Rd.one h.cv,List.all_cons,Rd.one h1];rfl
theorem on15 {ub ul uf cv plv:TV} (h:List.all (Aq scM ub ul uf) Ah=true) (h1:Ah cv=true) (h2:Ah plv=true):List.all (Aq scM ub ul uf++[cv,plv]) Ah=true:=by
 rw[List.all_append,h,List.all_cons,h1,List.all_cons,h2];rfl
theorem Jd.turn {pl pl':List Plc} {T T':Tb} {q0:List Stp} (h:Jd pl T) (hi:∀q,Ax T' q=match AT q0 q with | some p=>(if p=[]then(match AQ q0 pl' with | some (w,i)=>(w,if w=1 then i else 0) | none=>(0,0))else Ax T q) | none=>Ax T q)
  (hp:∀q,q≠q0->AQ q pl'=AQ q pl) (hw:∀w i,AQ q0 pl'=some (w,i)->w≠0):Jd pl' T':=fun q=>by
 by_cases e:q=q0
 ·subst e
  have h1:=hi q
  have h2:AT q q=some []:=by have:=MR q [];rwa [List.append_nil]at this
  rw[h2]at h1
  simp only[if_true]at h1
  cases hq:AQ q pl' with
  | none=>rw[hq]at h1;simp only;rw[h1]
  | some x=>
   obtain⟨w,i⟩:=x
   rw[hq]at h1
   exact⟨hw w i hq,h1⟩
 ·have h1:Ax T' q=Ax T q:=by
   rw[hi q]
   cases hs:AT q0 q with
   | none=>rfl
   | some p=>
    have:=D7 hs
    have hne:p≠ []:=fun e2=>e (by rw[this,e2,List.append_nil])
    simp only[if_neg hne]
  have:=h q
  rw[hp q e,h1];exact this
theorem Sf {q q0:List Stp} {w i:Nat} {pl:List Plc} (h:q≠q0):AQ q (pl++[(q0,w,i)])=AQ q pl:=by
 rw[IU]
 cases AQ q pl with
 | none=>simp only;rw[if_neg fun e=>h e.symm]
 | some x=>rfl
theorem Ly {q:List Stp}:∀{pl:List Plc},AQ q pl=none->q∉pl.map fun x=>x.1
 | [],_,h=>by cases h
 | (p,w,i)::r,hn,h=>by
  rw[AQ]at hn
  split at hn
  ·cases hn
  ·rename_i hp
   rcases List.mem_cons.1 h with h | h
   ·exact hp h.symm
   ·exact Ly hn h
theorem KV {q:List Stp} {w i:Nat} {pl:List Plc} (hn:AQ q pl=none) (h:(pl.map fun x=>x.1).Nodup):((pl++[(q,w,i)]).map fun x=>x.1).Nodup:=by
 rw[List.map_append]
 refine List.nodup_append.2 ⟨h,by simp,fun x hx y hy e=>?_⟩
 simp only[List.map_cons,List.map_nil,List.mem_singleton]at hy
 subst hy;subst e
 exact Ly hn hx
theorem Lz {q0:List Stp} {w i:Nat} {pl:List Plc} (h:AQ q0 pl=none):AQ q0 (pl++[(q0,w,i)])=some (w,i):=by
 rw[IU,h];simp
theorem KS {pl:List Plc} {T t t':Tb} {h:List Hop} {k:B8} {eb w i:Nat} {e':En} (hP:Jd pl T) (hA:atT T h=some t) (hd:t'.hd=t.hd) (hl:∀k2,Ag k2 t'.es=if k2=k then some (eb,e')else Ag k2 t.es)
  (hb:∀p,p≠ []->ID e' p=Ax T (stp h++ .key k::p)) (hk:Dj e'=(w,if w=1 then i else 0)) (hw:w≠0) (hn:AQ (stp h++[.key k]) pl=none):Jd (pl++[(stp h++[.key k],w,i)]) (Av T h t'):=by
 refine Jd.turn (q0:=stp h++[.key k]) hP (fun q=>?_) (fun q hq=>Sf hq) fun w' i' hq=>?_
 ·rw[Kc hA hd hl]
  cases hs:AT (stp h++[.key k]) q with
  | none=>rfl
  | some p=>
   simp only
   by_cases hp:p=[]
   ·rw[if_pos hp,hp,Lz hn]
    have:ID e' []=Dj e':=by cases e'<;>rfl
    rw[this,hk]
   ·rw[if_neg hp,hb p hp,D7 hs,List.append_assoc];rfl
 ·rw[Lz hn]at hq
  cases hq;exact hw
theorem pl_same {T t t':Tb} {h:List Hop} {k:B8} {eb:Nat} {e':En} (hA:atT T h=some t) (hd:t'.hd=t.hd) (hl:∀k2,Ag k2 t'.es=if k2=k then some (eb,e')else Ag k2 t.es)
  (hb:∀p,ID e' p=Ax T (stp h++ .key k::p)) (q:List Stp):Ax (Av T h t') q=Ax T q:=by
 rw[Kc hA hd hl]
 cases hs:AT (stp h++[.key k]) q with
 | none=>rfl
 | some p=>
  simp only
  rw[hb p,D7 hs,List.append_assoc];rfl
theorem Ie (nu:Nu) (hd:Bool) (p:List Stp):Ax (AA nu hd) p=(0,0):=by
 unfold AA
 match p with
 | []=>rfl
 | .key k::p=>rw[DS];rfl
 | .idx i::p=>rfl
theorem Sm (u:Tb) (p:List Stp):Ax (BM u) p=Ax u p:=by
 obtain⟨b,m,hd,es⟩:=u
 unfold BM
 match p with
 | []=>rfl
 | .key k::p=>rw[DS,DS]
 | .idx i::p=>rfl
theorem OM {i:Nat} {T T' u:Tb} {cur cur':List Hop} {a:Asg} (hu:atT T cur=some u) (hn:NdL (shT 1 T)) (hne:NeL (shT 1 T)) (hs:Bx i T cur a= .ok (T',cur')):
  (∃u',atT T' cur'=some u')/\NdL (shT 1 T')/\NeL (shT 1 T')/\(Ae T').cnt<=(Ae T).cnt+a.keys.length+2+a.val.cnt/\(Ae T').sz<=(Ae T).sz+kz a.keys+a.val.sz+2:=by
 unfold Bx DH at hs
 split at hs
 ·cases hs
 rename_i hp
 split at hs
 ·cases hs
 rename_i T1 h hh
 have hks:a.keys≠ []:=fun e=>by
  have:Cc a=true:=by simpa using hp
  unfold Cc at this
  rw[e]at this;simp at this
 obtain⟨u0,hu0⟩:∃u0,atT T (if a.tab=true then []else cur)=some u0:=by
  split
  ·exact⟨T,by cases T;rfl⟩
  ·exact⟨u,hu⟩
 obtain⟨W,hne1⟩:=Ff _ 0 hu0 hne hh (Nat.le_refl _)
 obtain⟨F,_⟩:=HQ hne1 hs
 have w1:=W.cnt
 have w2:=W.sz
 have f1:=F.cnt
 have f2:=F.sz
 obtain⟨ks',kl,hkl⟩:∃ks' kl,a.keys=ks'++[kl]:=⟨a.keys.dropLast,a.keys.getLast hks,(List.dropLast_concat_getLast hks).symm⟩
 have hgl:a.keys.getLastD []=kl:=by rw[hkl];simp
 have hdl:a.keys.dropLast=ks':=by rw[hkl];simp
 have hkz:kz a.keys=kz ks'+(kl.length+1):=by rw[hkl,Kb];simp[kz]
 have hlen:a.keys.length=ks'.length+1:=by rw[hkl];simp
 rw[hdl]at w1 w2
 rw[hgl]at f2
 refine⟨?_,F.nd (W.nd hn),F.ne hne1,by omega,?_⟩
 ·obtain⟨t,hA⟩:=W.at_
  unfold BZ at hs
  rw[hA]at hs
  simp only at hs
  split at hs
  ·rcases hl:Ag (a.keys.getLastD []) t.es with _ | ⟨eb,w | l | ⟨v,j⟩⟩<;>rw[hl]at hs<;>simp only[Except.ok.injEq,Prod.mk.injEq,reduceCtorEq]at hs
   ·obtain⟨rfl,rfl⟩:=hs
    have:=Gj (k2:=a.keys.getLastD []) (eb:=n0.eb) (e:= .lst [AA n0 false]) hl
    rw[if_pos rfl]at this
    exact⟨_,Ja (DE h hA) this rfl⟩
   ·obtain⟨rfl,rfl⟩:=hs
    exact⟨AA n0 false,Ja (DE h hA) (J9 hl) (by simp)⟩
  ·split at hs
   ·rcases hl:Ag (a.keys.getLastD []) t.es with _ | ⟨eb,w | l | ⟨v,j⟩⟩<;>rw[hl]at hs<;>simp only[Except.ok.injEq,Prod.mk.injEq,reduceCtorEq]at hs
    ·obtain⟨rfl,rfl⟩:=hs
     exact⟨_,Ko (nu:=n0) hA hl⟩
    ·split at hs
     ·cases hs
     ·simp only[Except.ok.injEq,Prod.mk.injEq]at hs
      obtain⟨rfl,rfl⟩:=hs
      exact⟨BM w,Km (DE h hA) (J9 hl)⟩
   ·rename_i ht
    rcases hl:Ag (a.keys.getLastD []) t.es with _ | ⟨eb,e⟩<;>rw[hl]at hs<;>simp only[Except.ok.injEq,Prod.mk.injEq,reduceCtorEq]at hs
    obtain⟨rfl,rfl⟩:=hs
    rw[if_neg ht]at hh hu0
    have:=LS (g:=cur) (r:=[]) (u:=u) _ 0 hu (by rw[List.append_nil];exact hu) hne (by rw[List.append_nil];exact hh)
    obtain⟨r,u1,rfl,hu1,_⟩:=this
    obtain⟨u',q1,_⟩:=Q0 (x:=AR t (a.keys.getLastD []) n0.eb (.clo a.val i)) hu1 hA rfl
    exact⟨u',q1⟩
 ·omega
theorem vlist13:VlR St.zero (AC (.lst [])) [.int .i64 6,.bool false,.bool false,.str [],.int .i64 0,.int .i64 0,.int .i64 0,.int .i64 0,.int .i64 0,.str [],.nilSlice,.nilSlice,.nilSlice]:=by
 rw[AC,A2]
 unfold VlR
 exact⟨.nilSlice,.nilSlice,.nilSlice,[],[],rfl,.of_rd (.inl ⟨rfl,rfl,rfl⟩),.of_rd (.inl ⟨rfl,rfl,rfl⟩),by unfold VsR;rfl,.of_rd (.inl ⟨rfl,rfl,rfl⟩),by unfold FsR;rfl⟩
theorem Q9 (nu:Nu) (hd:Bool):VlR St.zero (Ae (AA nu hd)) [.int .i64 7,.bool false,.bool false,.str [],.int .i64 0,.int .i64 0,.int .i64 0,.int .i64 0,.int .i64 0,.str [],.nilSlice,.nilSlice,.nilSlice]:=by
 rw[AA,Ae,AD]
 unfold VlR
 exact⟨.nilSlice,.nilSlice,.nilSlice,[],[],rfl,.of_rd (.inl ⟨rfl,rfl,rfl⟩),.of_rd (.inl ⟨rfl,rfl,rfl⟩),by unfold VsR;rfl,.of_rd (.inl ⟨rfl,rfl,rfl⟩),by unfold FsR;rfl⟩
theorem Rg (l:List Tb) (nu:Nu):Bj (AC (.lst l)) [.idx l.length] (Ae (AA nu false))=AC (.lst (l++[AA nu false])):=by
 rw[Ri,AC,Bj]
 have:l.length=(A2 l).length:=by rw[AS,List.length_map]
 rw[if_pos this,this]
 simp[Bj]
def S5 (T:Tb) (cur:List Hop) (a:Asg):List Stp:=match BC (fun _=>n0) a.tab 0 T (if a.tab=true then []else cur) a.keys.dropLast with
 | some (_,h)=>stp h++[.key (a.keys.getLastD [])]
 | none=>[]
theorem JX {k:B8}:∀{es:List Kn} {eb:Nat} {e:En},Ag k es=some (eb,e)->BL k e es=es
 | .mk k' eb' e'::r,eb,e,h=>by
  unfold Ag at h
  unfold BL
  split at h
  ·rename_i hk;cases h;subst hk;rw[if_pos rfl]
  ·rename_i hk;rw[if_neg hk,JX h]
theorem Lr:∀(h:List Hop) {T t:Tb},atT T h=some t->Av T h t=T
 | [],T,t,hA=>by cases T;cases hA;rfl
 | (k,none)::h,.mk b m hd es,t,hA=>by
  rw[atT]at hA
  rw[Av]
  rcases hl:Ag k es with _ | ⟨eb,u | l | ⟨v,i⟩⟩<;>rw[hl]at hA<;>simp only at hA⊢<;>try (cases hA;done)
  ·rw[Lr h hA,JX hl]
 | (k,some i)::h,.mk b m hd es,t,hA=>by
  rw[atT]at hA
  rw[Av]
  rcases hl:Ag k es with _ | ⟨eb,u | l | ⟨v,j⟩⟩<;>rw[hl]at hA<;>simp only at hA⊢<;>try (cases hA;done)
  ·cases hi:l[i]? with
   | none=>simp[hi]at hA
   | some u=>
    rw[hi]at hA
    simp only at hA⊢
    have:l.set i u=l:=by
     obtain⟨hlt,hu⟩:=List.getElem?_eq_some_iff.1 hi
     rw[<-hu];exact List.set_getElem_self hlt
    rw[Lr h hA,this,JX hl]
theorem S3 {T u:Tb} {cur:List Hop} {pl:List Plc} {ub ul uf cv plv a_2:TV} {i:Nat} {a:Asg} {cs:List TV} {st:St}
  {K:Int->Bool->Bool->B8->Int->Int->Int->Int->Int->B8->TV->TV->TV->TV->TV->TV->Int->St->Prop}
  (H:RSt T cur pl ub ul uf cv plv) (hu:atT T cur=some u) (hNe:NeL (shT 1 T)) (hl:pl.length<=90000) (hc:(Ae T).cnt+a.keys.length+a.val.cnt<=500000) (hz:(Ae T).sz+kz a.keys+a.val.sz+2<=1000000)
  (hr:Rd 1 a_2 a.keys.length (a.keys.map TV.str)) (hv:VlR St.zero a.val cs)
  (hk1:∀T' cur' pl' ub ul uf cv plv pv q st',Bx i T cur a= .ok (T',cur')->RSt T' cur' pl' ub ul uf cv plv->pl'.length<=pl.length+1->EB pv q->(a.tab=true->q=stp cur')->(a.tab=false->q=S5 T cur a)->Aj st st'->K 7 false false [] 0 0 0 0 0 [] ub ul uf cv plv pv 0 st')
  (hk2:∀e st',Bx i T cur a= .error e->Aj st st'->K 7 false false [] 0 0 0 0 0 [] ub ul uf cv plv .nilSlice e st'):
  CallT PR C6 [.agg (Aq scM ub ul uf++[cv,plv]),.int .i64 i,.agg (.bool a.tab:: .bool a.elem::a_2::cs)] [.agg [.int .i64,.bool,.bool,.str,.int .i64,.int .i64,.int .i64,.int .i64,.int .i64,.str,.tv,.tv,.tv,.tv,.tv],.one .tv,.one (.int .i64)] st K:=by
 obtain⟨tab,elem,ks,v⟩:=a
 simp only at*
 have hpz:∀{K:Bool->St->Prop},K (Cc ⟨tab,elem,ks,v⟩) st->CallT PR BD [.agg (.bool tab:: .bool elem::a_2::cs)] [.one .bool] st K:=fun h=>Qj hr hv h
 have hv0:=hv
 have hvc:=Fo v
 have hcT:=Fo (Ae T)
 obtain⟨s,l,f⟩:=v
 obtain⟨vb,vl,vf,xl,xf,rfl,_⟩:=VlR.cells hv0
 have H15:=H.on15
 obtain⟨pxs,hpl,hpx⟩:=H.row
 have hcv:Ah cv=true:=Rd.one H.cv
 have hplo:Ah plv=true:=Rd.one hpl
 refine Hs _ _ _ _ _ _ _ _ _ _ ub ul uf cv plv i tab elem a_2 s.kind s.b s.neg s.dg s.ex s.tk s.td s.tn s.tz s.text vb vl vf st K (hpz (As (fun hp=>?_) fun hp=>?_))
 ·refine Aa H15 (hk2 1 st ?_ (Aj.refl st))
  unfold Bx DH
  rw[if_pos (by simpa using hp)]
 have hp':Cc ⟨tab,elem,ks,.mk s l f⟩=true:=by simpa using hp
 have hks:ks≠ []:=fun e=>by subst e;unfold Cc at hp';simp at hp'
 generalize hh0:(if tab=true then []else cur)=h0
 obtain⟨u0,fv,hu0,hfv,hfe⟩:∃u0 fv,atT T h0=some u0/\EB fv (stp h0)/\(if tab=true then TV.nilSlice else cv)=fv:=by
  subst hh0
  cases tab with
  | true=>exact⟨T,.nilSlice,by cases T;rfl,.inl ⟨rfl,rfl,rfl⟩,rfl⟩
  | false=>exact⟨u,cv,hu,H.cv,rfl⟩
 refine⟨fun fr ii x0 x1 x2 x3 x4 x5 x6 x7 x8 x9 x10 x11 x12 c y tb eb k a0 a1 a2 a3 a4 a5 a6 a7 a8 a9 a10 a11 a12 z0 z1 z2 z3 z4 z5 z6 z7 z8 z9 z10 z11 z12 z1 z2 st'=>fv=fr/\(i:Int)=ii/\scM.kind=x0/\scM.b=x1/\scM.neg=x2/\scM.dg=x3/\scM.ex=x4/\scM.tk=x5/\scM.td=x6/\scM.tn=x7/\scM.tz=x8/\scM.text=x9/\ub=x10/\ul=x11/\uf=x12/\cv=c/\plv=y/\tab=tb/\elem=eb/\a_2=k/\s.kind=a0/\s.b=a1/\s.neg=a2/\s.dg=a3/\s.ex=a4/\s.tk=a5/\s.td=a6/\s.tn=a7/\s.tz=a8/\s.text=a9/\vb=a10/\vl=a11/\vf=a12/\st=st',?_,?_⟩
 ·refine As (fun ht=>?_) fun ht=>?_
  ·rw[if_pos (by simpa using ht)]at hfe;subst hfe
   exact⟨rfl,rfl,rfl,rfl,rfl,rfl,rfl,rfl,rfl,rfl,rfl,rfl,rfl,rfl,rfl,rfl,rfl,rfl,rfl,rfl,rfl,rfl,rfl,rfl,rfl,rfl,rfl,rfl,rfl,rfl,rfl,rfl,rfl,rfl⟩
  ·rw[if_neg (by simpa using ht)]at hfe;subst hfe
   exact⟨rfl,rfl,rfl,rfl,rfl,rfl,rfl,rfl,rfl,rfl,rfl,rfl,rfl,rfl,rfl,rfl,rfl,rfl,rfl,rfl,rfl,rfl,rfl,rfl,rfl,rfl,rfl,rfl,rfl,rfl,rfl,rfl,rfl,rfl⟩
 rintro _ _ _ _ _ _ _ _ _ _ _ _ _ _ _ _ _ _ _ _ _ _ _ _ _ _ _ _ _ _ _ _ _ z0 z1 z2 z3 z4 z5 z6 z7 z8 z9 z10 z11 z12 z1 z2 _ ⟨rfl,rfl,rfl,rfl,rfl,rfl,rfl,rfl,rfl,rfl,rfl,rfl,rfl,rfl,rfl,rfl,rfl,rfl,rfl,rfl,rfl,rfl,rfl,rfl,rfl,rfl,rfl,rfl,rfl,rfl,rfl,rfl,rfl,rfl⟩
 have step0':BC (fun _=>n0) tab 0 T h0 ks.dropLast=none->Bx i T cur ⟨tab,elem,ks,.mk s l f⟩= .error 8:=fun hh=>by
  unfold Bx DH
  rw[if_neg (by rw[hp'];simp)]
  simp only[hh0,hh]
 refine Sb hu0 hNe H.v hfv hr hks hcv hpl hpx (by omega) H.ql H.ok (by omega) (by omega) (fun T1 h t ub1 ul1 uf1 pv st2 hh hA hv1 on1 hp1 e2=>?_) fun ub2 ul2 uf2 st2 hh on2 e2=>Aa (on15 on2 hcv hplo) (Ab (fun _=>Aa H15 (hk2 8 st2 (step0' hh) e2)) fun h=>absurd (by decide) h)
 refine Aa (on15 on1 hcv hplo) (Ab (fun h=>absurd rfl h) fun _=>?_)
 have step:Bx i T cur ⟨tab,elem,ks,.mk s l f⟩=BZ n0 ⟨tab,elem,ks,.mk s l f⟩ i T1 h cur (ks.getLastD []):=by
  unfold Bx DH
  rw[if_neg (by rw[hp'];simp)]
  simp only[hh0,hh]
 have hpath:S5 T cur ⟨tab,elem,ks,.mk s l f⟩=stp h++[.key (ks.getLastD [])]:=by
  unfold S5
  simp only[hh0,hh]
 have klen:1<=ks.length:=List.length_pos_iff.2 hks
 obtain⟨ks',kl,hkl⟩:∃ks' kl,ks=ks'++[kl]:=⟨ks.dropLast,ks.getLast hks,(List.dropLast_concat_getLast hks).symm⟩
 have hgl:ks.getLastD []=kl:=by rw[hkl];simp
 have hdl:ks.dropLast=ks':=by rw[hkl];simp
 have hkzz:kz ks=kz ks'+(kl.length+1):=by rw[hkl,Kb];simp[kz]
 have hkl2:ks.length=ks'.length+1:=by rw[hkl];simp
 rw[hdl]at hh
 rw[hgl]at hp1 step hpath
 obtain⟨W,hNe1⟩:=Ff ks' 0 hu0 hNe hh (Nat.le_refl _)
 have w1:=W.cnt
 have w2:=W.sz
 have hdp:=I8 hA
 have hsl:=KL h
 have hcs1:=Fo (Ae T1)
 have hP1:=H.ok.congr (Ke ks' 0 hu0 hNe hh)
 have hplen:(stp h++[Stp.key kl]).length=dpH h+1:=by rw[List.length_append,hsl];rfl
 have hfk:=Pz hA kl
 have hik:=Kd hA kl
 have hidx:∀i,Stp.idx i∈stp h++[Stp.key kl]->i<=2000000:=fun i hi=>by
  rcases List.mem_append.1 hi with h1 | h1
  ·have:=KM hA i h1;omega
  ·cases List.mem_singleton.1 h1
 have hql1:∀{w i:Nat},∀x,x∈pl++[(stp h++[Stp.key kl],w,i)]->x.1.length<=1000000:=fun {w i} x hx=>by
  rcases List.mem_append.1 hx with h1 | h1
  ·exact H.ql x h1
  ·rw[List.mem_singleton.1 h1];simp only;omega
 have elemt:tab=false->elem=false:=fun ht=>by
  subst ht
  unfold Cc at hp'
  cases elem with
  | false=>rfl
  | true=>simp at hp'
 rcases hlk:Ag kl t.es with _ | ⟨eb,e⟩
 ·--nothing stands there
  rw[hlk]at hfk hik
  simp only[Option.map_none]at hfk
  simp only at hik
  have hpn:AQ (stp h++[Stp.key kl]) pl=none:=by
   cases hq:AQ (stp h++[Stp.key kl]) pl with
   | none=>rfl
   | some x=>
    obtain⟨w,i'⟩:=x
    have h1:=hP1.has hq
    have h2:=hik []
    rw[show stp h++Stp.key kl::[]=stp h++[Stp.key kl]from rfl,h1.2]at h2
    exact absurd (Prod.mk.inj h2).1 h1.1
  have hadd:∀(e':En) (eb:Nat) k2,Ag k2 (AR t kl eb e').es=if k2=kl then some (eb,e')else Ag k2 t.es:=fun e' eb k2=>Gj hlk
  refine Oa hv1 (by omega) hp1 (by omega) hidx (fun x ub2 ul2 uf2 hf2 hv2 on2=>by rw[hfk]at hf2;cases hf2) fun hf2=>Aa rfl ?_
  refine Gv hp1 (by omega) hpl hpx (by omega) H.ql (fun w i' k' hq=>by rw[hpn]at hq;cases hq) fun _=>?_
  refine⟨_,?_,fun _ _ _ _ _ _ _ _ _ _ _ _ _ _ _ _ _ _ _ _ _ _ _ _ _ _ _ _ _ _ _ _ _ _ _ _ _ _ _ _ _ _ _ _ _ _ _ _ _ _ _ _ _ _ _ _ _ _ _ _ _ _ _ _ _ _ _ _ _ _ _ _ _ _ _ _ _ _ _ _ _ h=>h⟩
  cases htab:tab with
  | false=>
   subst htab
   have he:=elemt rfl
   subst he
   refine Dl (Bp (Dl ?_))
   have hst:Bx i T cur ⟨false,false,ks,.mk s l f⟩= .ok (Av T1 h (AR t kl 0 (.clo (.mk s l f) i)),cur):=by
    rw[step];unfold BZ;rw[hA];simp only[hlk];rfl
   refine R9 2000000 (.mk s l f) (by omega) (by omega) hv (C0 st2) fun cb cl cf st3 hc3 o1 o2 o3 e3=>?_
   have hput:=KQ hA hlk 0 (.clo (.mk s l f) i)
   have hve:AC (.clo (.mk s l f) i)= .mk s l f:=by rw[AC]
   rw[hve]at hput
   refine J2 (stp h++[.key kl]) hv1 (by omega) hc3 hp1 (Em h hA _ (Ia t kl)) fun ub3 ul3 uf3 st4 hv4 on4 e4=>?_
   rw[hput]at hv4 on4⊢
   rw[IR]at hv4 on4⊢
   refine Aa on4 (KW (w:=1) (i:=i) on4 hcv hp1 hpl hpx (by omega) fun v' xs' st5 q1 q2 e5=>?_)
   have hR:RSt (Av T1 h (AR t kl 0 (.clo (.mk s l f) i))) cur (pl++[(stp h++[Stp.key kl],1,i)]) ub3 ul3 uf3 cv v':=by
    refine⟨hv4,on4,H.cv,⟨xs',by rw[List.length_append];exact q1,q2⟩,?_,hql1,KV hpn H.nd⟩
    refine KS (eb:=0) (e':= .clo (.mk s l f) i) hP1 hA rfl (hadd _ 0) (fun p hp=>?_) rfl (by decide) hpn
    rw[hik p]
    cases p with
    | nil=>exact absurd rfl hp
    | cons a b=>cases a<;>rfl
   exact Aa hR.on15 (hk1 _ _ _ ub3 ul3 uf3 cv v' pv _ st5 hst hR (by simp) hp1 (fun h=>by cases h) (fun _=>hpath.symm) (((e2.trans e3).trans e4).trans e5))
  | true=>
   subst htab
   refine Bp (Bp (Bp ⟨_,?_,fun _ _ _ _ _ _ _ _ _ _ _ _ _ _ _ _ _ _ _ _ _ _ _ _ _ _ _ _ _ _ _ _ _ _ _ _ _ _ _ _ _ _ _ _ _ _ _ _ _ _ _ _ _ _ _ _ _ _ _ _ _ _ _ _ _ _ _ _ _ _ _ _ _ _ _ _ _ _ _ _ h=>h⟩))
   cases helem:elem with
   | true=>
    subst helem
    refine Dl (Bp (Bp (Dl (Dl ?_))))
    have hst:Bx i T cur ⟨true,true,ks,.mk s l f⟩= .ok (Av T1 h (AR t kl 0 (.lst [AA n0 false])),h++[(kl,some 0)]):=by
     rw[step];unfold BZ;rw[hA];simp only[hlk];rfl
    have hput:=KQ hA hlk 0 (.lst [])
    refine J2 (stp h++[.key kl]) hv1 (by omega) vlist13 hp1 (Em h hA _ (Ia t kl)) fun ub3 ul3 uf3 st4 hv4 on4 e4=>?_
    rw[hput]at hv4 on4⊢
    rw[IR]at hv4 on4⊢
    refine Aa on4 (KW (w:=3) (i:=i) on4 hcv hp1 hpl hpx (by omega) fun v' xs' st5 q1 q2 e5=>?_)
    refine Aa (on15 on4 hcv q1.one) (Aa rfl ?_)
    refine KR (s:= .idx 0) hp1 (by omega) fun pv2 st6 hp6 e6=>?_
    have hA2:=DE h (x:=AR t kl 0 (.lst [])) hA
    have hlk2:Ag kl (AR t kl 0 (.lst [])).es=some (0,.lst []):=by rw[hadd];rw[if_pos rfl]
    have hput2:=Rh (p:=[.idx 0]) (x:=Ae (AA n0 false)) hA2 hlk2 (.lst [AA n0 false]) (Rg [] n0)
    have hTT:Av (Av T1 h (AR t kl 0 (.lst []))) h (BV (AR t kl 0 (.lst [])) kl (.lst [AA n0 false]))=Av T1 h (AR t kl 0 (.lst [AA n0 false])):=by
     rw[HZ h hA,RK hlk]
    rw[hTT]at hput2
    have hsz2:(Ae (Av T1 h (AR t kl 0 (.lst [])))).sz<=2000000:=by
     have c:=(DD h hA (AR t kl 0 (.lst []))).sz
     rw[Qb]at c
     have:(AC (.lst [])).sz=1:=by rw[AC,A2];simp[Vl.sz,Bw,Bq,scL]
     omega
    have hok2:CT (Ae (Av T1 h (AR t kl 0 (.lst [])))) ((stp h++[Stp.key kl])++[.idx 0]):=by
     rw[List.append_assoc]
     refine Em h hA2 _ ?_
     rw[B9]
     show CT _ (Stp.key kl::[.idx 0])
     unfold CT
     rw[Cy,hlk2]
     simp only[Option.map_some,Option.getD_some,AC,A2]
     unfold CT CT
     exact⟨Nat.le_refl _,trivial⟩
    refine J2 ((stp h++[Stp.key kl])++[.idx 0]) hv4 hsz2 (Q9 n0 false) hp6 hok2 fun ub7 ul7 uf7 st7 hv7 on7 e7=>?_
    have hput3:Bj (Ae (Av T1 h (AR t kl 0 (.lst [])))) ((stp h++[Stp.key kl])++[.idx 0]) (Ae (AA n0 false))=Ae (Av T1 h (AR t kl 0 (.lst [AA n0 false]))):=by
     rw[List.append_assoc];exact hput2
    rw[hput3]at hv7 on7⊢
    rw[IR]at hv7 on7⊢
    have hq:(stp h++[Stp.key kl])++[.idx 0]=stp (h++[(kl,some 0)]):=(Lk h kl 0).symm
    rw[hq]at hp6
    have hR:RSt (Av T1 h (AR t kl 0 (.lst [AA n0 false]))) (h++[(kl,some 0)]) (pl++[(stp h++[Stp.key kl],3,i)]) ub7 ul7 uf7 pv2 v':=by
     refine⟨hv7,on7,hp6,⟨xs',by rw[List.length_append];exact q1,q2⟩,?_,hql1,KV hpn H.nd⟩
     refine KS (eb:=0) (e':= .lst [AA n0 false]) hP1 hA rfl (hadd _ 0) (fun p hp=>?_) rfl (by decide) hpn
     rw[hik p]
     match p with
     | []=>exact absurd rfl hp
     | .key k::r=>rfl
     | .idx 0::r=>exact Ie n0 false r
     | .idx (j+1)::r=>rfl
    exact Aa on7 (Aa (by rw[List.all_cons,Rd.one hp6];rfl) (Aa hR.on15 (hk1 _ _ _ ub7 ul7 uf7 pv2 v' pv2 _ st7 hst hR (by simp) hp6 (fun _=>rfl) (fun h=>by cases h) ((((e2.trans e4).trans e5).trans e6).trans e7))))
   | false=>
    subst helem
    refine Bp (Bp (Bp (Ab (fun h=>absurd h (by decide)) fun _=>Dl ?_)))
    have hst:Bx i T cur ⟨true,false,ks,.mk s l f⟩= .ok (Av T1 h (AR t kl 0 (.opn (AA n0 true))),h++[(kl,none)]):=by
     rw[step];unfold BZ;rw[hA];simp only[hlk];rfl
    have hput:=KQ hA hlk 0 (.opn (AA n0 true))
    rw[AC]at hput
    refine J2 (stp h++[.key kl]) hv1 (by omega) (Q9 n0 true) hp1 (Em h hA _ (Ia t kl)) fun ub3 ul3 uf3 st4 hv4 on4 e4=>?_
    rw[hput]at hv4 on4⊢
    rw[IR]at hv4 on4⊢
    refine Aa on4 (KW (w:=2) (i:=i) on4 hcv hp1 hpl hpx (by omega) fun v' xs' st5 q1 q2 e5=>?_)
    have hp6:=hp1
    rw[<-HB]at hp6
    have hR:RSt (Av T1 h (AR t kl 0 (.opn (AA n0 true)))) (h++[(kl,none)]) (pl++[(stp h++[Stp.key kl],2,i)]) ub3 ul3 uf3 pv v':=by
     refine⟨hv4,on4,hp6,⟨xs',by rw[List.length_append];exact q1,q2⟩,?_,hql1,KV hpn H.nd⟩
     refine KS (eb:=0) (e':= .opn (AA n0 true)) hP1 hA rfl (hadd _ 0) (fun p hp=>?_) rfl (by decide) hpn
     rw[hik p]
     match p with
     | []=>exact absurd rfl hp
     | .key k::r=>exact Ie n0 true _
     | .idx j::r=>rfl
    exact Aa (on15 on4 hcv q1.one) (Aa (by rw[List.all_cons,Rd.one hp1];rfl) (Aa hR.on15 (hk1 _ _ _ ub3 ul3 uf3 pv v' pv _ st5 hst hR (by simp) hp6 (fun _=>rfl) (fun h=>by cases h) ((e2.trans e4).trans e5))))
 ·--something stands there
  rw[hlk]at hfk hik
  simp only[Option.map_some]at hfk
  simp only at hik
  have kind:∀w i,AQ (stp h++[.key kl]) pl=some (w,i)->w=(Dj e).1:=fun w i hq=>by
   have h1:=(hP1.has hq).2
   have h2:=hik []
   rw[show stp h++Stp.key kl::[]=stp h++[Stp.key kl]from rfl,h1]at h2
   have:(Dj e)=(w,if w=1 then i else 0):=by cases e<;>exact h2.symm
   rw[this]
  have kind0:AQ (stp h++[.key kl]) pl=none->(Dj e).1=0:=fun hq=>by
   have h1:=hP1.not hq
   have h2:=hik []
   rw[show stp h++Stp.key kl::[]=stp h++[Stp.key kl]from rfl]at h2
   rw[h2]at h1
   cases e<;>exact h1
  have hchg:∀(e':En) k2,Ag k2 (BV t kl e').es=if k2=kl then some (eb,e')else Ag k2 t.es:=fun e' k2=>Pi hlk
  refine Oa hv1 (by omega) hp1 (by omega) hidx (fun x ub2 ul2 uf2 hf2 hv2 on2=>?_) fun hf2=>by rw[hfk]at hf2;cases hf2
  rw[hfk]at hf2
  have hf2:AC e=x:=Option.some.inj hf2
  subst hf2
  refine Aa on2 ?_
  cases htab:tab with
  | false=>
   subst htab
   have he:=elemt rfl
   subst he
   have hst:Bx i T cur ⟨false,false,ks,.mk s l f⟩= .error 8:=by
    rw[step];unfold BZ;rw[hA];simp only[hlk];rfl
   have fin:need (List.all (Aq scM ub ul uf++[cv,plv]) Ah) (K 7 false false [] 0 0 0 0 0 [] ub ul uf cv plv .nilSlice 8 st2):=Aa H15 (hk2 8 st2 hst e2)
   refine Gv hp1 (by omega) hpl hpx (by omega) H.ql (fun w i' k' hq=>⟨_,?_,fun _ _ _ _ _ _ _ _ _ _ _ _ _ _ _ _ _ _ _ _ _ _ _ _ _ _ _ _ _ _ _ _ _ _ _ _ _ _ _ _ _ _ _ _ _ _ _ _ _ _ _ _ _ _ _ _ _ _ _ _ _ _ _ _ _ _ _ _ _ _ _ _ _ _ _ _ _ _ _ _ _ h=>h⟩) fun _=>⟨_,?_,fun _ _ _ _ _ _ _ _ _ _ _ _ _ _ _ _ _ _ _ _ _ _ _ _ _ _ _ _ _ _ _ _ _ _ _ _ _ _ _ _ _ _ _ _ _ _ _ _ _ _ _ _ _ _ _ _ _ _ _ _ _ _ _ _ _ _ _ _ _ _ _ _ _ _ _ _ _ _ _ _ _ h=>h⟩
   ·exact Dl (Dl fin)
   ·exact Dl (Dl fin)
  | true=>
   subst htab
   cases helem:elem with
   | true=>
    subst helem
    by_cases hlst:∃L,e= .lst L
    ·obtain⟨L,rfl⟩:=hlst
     have hw:∀w i',AQ (stp h++[.key kl]) pl=some (w,i')->w=3:=fun w i' hq=>kind w i' hq
     refine Gv hp1 (by omega) hpl hpx (by omega) H.ql (fun w i' k' hq=>?_) fun hq=>absurd (kind0 hq) (by simp[Dj])
     have hw3:=hw w i' hq
     subst hw3
     refine⟨_,?_,fun _ _ _ _ _ _ _ _ _ _ _ _ _ _ _ _ _ _ _ _ _ _ _ _ _ _ _ _ _ _ _ _ _ _ _ _ _ _ _ _ _ _ _ _ _ _ _ _ _ _ _ _ _ _ _ _ _ _ _ _ _ _ _ _ _ _ _ _ _ _ _ _ _ _ _ _ _ _ _ _ _ h=>h⟩
     refine Bp (Bp (Bp ⟨_,?_,fun _ _ _ _ _ _ _ _ _ _ _ _ _ _ _ _ _ _ _ _ _ _ _ _ _ _ _ _ _ _ _ _ _ _ _ _ _ _ _ _ _ _ _ _ _ _ _ _ _ _ _ _ _ _ _ _ _ _ _ _ _ _ _ _ _ _ _ _ _ _ _ _ _ _ _ _ _ _ _ _ h=>h⟩))
     refine Dl (Dl (Ab (fun h=>absurd rfl h) fun _=>Dl (Bp ?_)))
     have hst:Bx i T cur ⟨true,true,ks,.mk s l f⟩= .ok (Av T1 h (BV t kl (.lst (L++[AA n0 false]))),h++[(kl,some L.length)]):=by
      rw[step];unfold BZ;rw[hA];simp only[hlk];rfl
     have hll2:=LH hlk
     have hat:=(Nw hA).1
     rw[AC]at hv2
     obtain⟨_,_,_,_,_,hc2,y1,y2,_,y4,_⟩:=VlR.cells hv2
     rw[show(Vl.mk scL (A2 L) []).sc=scL from rfl]at hc2
     cases hc2
     refine Aa y2.isSl ?_
     rw[y2.lenS,AS,List.length_map]
     refine KR (s:= .idx L.length) hp1 (by omega) fun pv2 st6 hp6 e6=>?_
     have hput2:=Rh (p:=[.idx L.length]) (x:=Ae (AA n0 false)) hA hlk (.lst (L++[AA n0 false])) (Rg L n0)
     have hok2:CT (Ae T1) ((stp h++[Stp.key kl])++[.idx L.length]):=by
      rw[List.append_assoc]
      refine Em h hA _ ?_
      rw[B9]
      show CT _ (Stp.key kl::[.idx L.length])
      unfold CT
      rw[Cy,hlk]
      simp only[Option.map_some,Option.getD_some,AC]
      unfold CT CT
      exact⟨by rw[AS,List.length_map];exact Nat.le_refl _,trivial⟩
     refine J2 ((stp h++[Stp.key kl])++[.idx L.length]) hv1 (by omega) (Q9 n0 false) hp6 hok2 fun ub7 ul7 uf7 st7 hv7 on7 e7=>?_
     have hput3:Bj (Ae T1) ((stp h++[Stp.key kl])++[.idx L.length]) (Ae (AA n0 false))=Ae (Av T1 h (BV t kl (.lst (L++[AA n0 false])))):=by
      rw[List.append_assoc];exact hput2
     rw[hput3]at hv7 on7⊢
     rw[IR]at hv7 on7⊢
     have hq2:(stp h++[Stp.key kl])++[.idx L.length]=stp (h++[(kl,some L.length)]):=(Lk h kl L.length).symm
     rw[hq2]at hp6
     have hR:RSt (Av T1 h (BV t kl (.lst (L++[AA n0 false])))) (h++[(kl,some L.length)]) pl ub7 ul7 uf7 pv2 plv:=by
      refine⟨hv7,on7,hp6,⟨pxs,hpl,hpx⟩,hP1.congr fun q=>?_,H.ql,H.nd⟩
      refine pl_same (t':=BV t kl (.lst (L++[AA n0 false]))) (eb:=eb) (e':= .lst (L++[AA n0 false])) hA rfl (hchg _) (fun p=>?_) q
      rw[hik p]
      match p with
      | []=>rfl
      | .key k::r=>rfl
      | .idx j::r=>
       show(match (L++[AA n0 false])[j]? with | some u=>Ax u r | none=>(0,0))=match L[j]? with | some u=>Ax u r | none=>(0,0)
       by_cases hj:j<L.length
       ·rw[List.getElem?_append_left hj]
       ·rw[List.getElem?_append_right (by omega),List.getElem?_eq_none (l:=L) (by omega)]
        cases hd:j-L.length with
        | zero=>exact Ie n0 false r
        | succ m=>rfl
     exact Aa on7 (Aa (by rw[List.all_cons,Rd.one hp6];rfl) (Aa hR.on15 (hk1 _ _ _ ub7 ul7 uf7 pv2 plv pv2 _ st7 hst hR (by omega) hp6 (fun _=>rfl) (fun h=>by cases h) ((e2.trans e6).trans e7))))
    ·have hst:Bx i T cur ⟨true,true,ks,.mk s l f⟩= .error 6:=by
      rw[step];unfold BZ;rw[hA];simp only[hlk]
      cases e with
      | lst L=>exact absurd ⟨L,rfl⟩ hlst
      | opn w=>rfl
      | clo w j=>rfl
     have fin:need (List.all (Aq scM ub ul uf++[cv,plv]) Ah) (K 7 false false [] 0 0 0 0 0 [] ub ul uf cv plv .nilSlice 6 st2):=Aa H15 (hk2 6 st2 hst e2)
     have k3:(Dj e).1≠3:=by
      cases e with
      | lst L=>exact absurd ⟨L,rfl⟩ hlst
      | opn w=>simp only[Dj];split<;>decide
      | clo w j=>simp[Dj]
     refine Gv hp1 (by omega) hpl hpx (by omega) H.ql (fun w i' k' hq=>⟨_,?_,fun _ _ _ _ _ _ _ _ _ _ _ _ _ _ _ _ _ _ _ _ _ _ _ _ _ _ _ _ _ _ _ _ _ _ _ _ _ _ _ _ _ _ _ _ _ _ _ _ _ _ _ _ _ _ _ _ _ _ _ _ _ _ _ _ _ _ _ _ _ _ _ _ _ _ _ _ _ _ _ _ _ h=>h⟩) fun _=>⟨_,?_,fun _ _ _ _ _ _ _ _ _ _ _ _ _ _ _ _ _ _ _ _ _ _ _ _ _ _ _ _ _ _ _ _ _ _ _ _ _ _ _ _ _ _ _ _ _ _ _ _ _ _ _ _ _ _ _ _ _ _ _ _ _ _ _ _ _ _ _ _ _ _ _ _ _ _ _ _ _ _ _ _ _ h=>h⟩
     ·refine Bp (Bp (Bp ⟨_,?_,fun _ _ _ _ _ _ _ _ _ _ _ _ _ _ _ _ _ _ _ _ _ _ _ _ _ _ _ _ _ _ _ _ _ _ _ _ _ _ _ _ _ _ _ _ _ _ _ _ _ _ _ _ _ _ _ _ _ _ _ _ _ _ _ _ _ _ _ _ _ _ _ _ _ _ _ _ _ _ _ _ h=>h⟩))
      have hw:=kind w i' hq
      exact Dl (Dl (Ab (fun _=>fin) fun h=>absurd (show(w:Int)≠3 by omega) h))
     ·refine Bp (Bp (Bp ⟨_,?_,fun _ _ _ _ _ _ _ _ _ _ _ _ _ _ _ _ _ _ _ _ _ _ _ _ _ _ _ _ _ _ _ _ _ _ _ _ _ _ _ _ _ _ _ _ _ _ _ _ _ _ _ _ _ _ _ _ _ _ _ _ _ _ _ _ _ _ _ _ _ _ _ _ _ _ _ _ _ _ _ _ h=>h⟩))
      exact Dl (Dl (Ab (fun _=>fin) fun h=>absurd (by decide) h))
   | false=>
    subst helem
    by_cases hop:∃w,e= .opn w/\w.hd=false
    ·obtain⟨w,rfl,hwd⟩:=hop
     have hpn:AQ (stp h++[Stp.key kl]) pl=none:=by
      cases hq:AQ (stp h++[Stp.key kl]) pl with
      | none=>rfl
      | some x=>
       obtain⟨w',i'⟩:=x
       have h1:=kind w' i' hq
       simp only[Dj,hwd]at h1
       exact absurd h1 (hP1.has hq).1
     refine Gv hp1 (by omega) hpl hpx (by omega) H.ql (fun w' i' k' hq=>by rw[hpn]at hq;cases hq) fun _=>⟨_,?_,fun _ _ _ _ _ _ _ _ _ _ _ _ _ _ _ _ _ _ _ _ _ _ _ _ _ _ _ _ _ _ _ _ _ _ _ _ _ _ _ _ _ _ _ _ _ _ _ _ _ _ _ _ _ _ _ _ _ _ _ _ _ _ _ _ _ _ _ _ _ _ _ _ _ _ _ _ _ _ _ _ _ h=>h⟩
     refine Bp (Bp (Bp ⟨_,?_,fun _ _ _ _ _ _ _ _ _ _ _ _ _ _ _ _ _ _ _ _ _ _ _ _ _ _ _ _ _ _ _ _ _ _ _ _ _ _ _ _ _ _ _ _ _ _ _ _ _ _ _ _ _ _ _ _ _ _ _ _ _ _ _ _ _ _ _ _ _ _ _ _ _ _ _ _ _ _ _ _ h=>h⟩))
     refine Bp (Bp (Bp (Ab (fun h=>absurd h (by decide)) fun _=>Bp ?_)))
     have hst:Bx i T cur ⟨true,false,ks,.mk s l f⟩= .ok (Av T1 h (BV t kl (.opn (BM w))),h++[(kl,none)]):=by
      rw[step];unfold BZ;rw[hA];simp only[hlk,hwd];rfl
     have hval:Ae (Av T1 h (BV t kl (.opn (BM w))))=Ae T1:=by
      have h1:Ae (BV t kl (.opn (BM w)))=Ae t:=by
       obtain⟨F,G,g1,g2⟩:=Cr hlk
       unfold BV
       rw[Ae,g2,B9 t,g1,AC,AC,Hz]
      have:=J3 h hA (p:=[]) (x:=Ae t) (t':=BV t kl (.opn (BM w))) (by rw[h1];cases Ae t;rfl)
      have h3:=J3 h hA (p:=[]) (x:=Ae t) (t':=t) (by cases Ae t;rfl)
      rw[<-this,h3]
      have h4:Av T1 h t=T1:=Lr h hA
      rw[h4]
     refine KW (w:=2) (i:=i) on1 hcv hp1 hpl hpx (by omega) fun v' xs' st5 q1 q2 e5=>?_
     have hp6:=hp1
     rw[<-HB]at hp6
     have hR:RSt (Av T1 h (BV t kl (.opn (BM w)))) (h++[(kl,none)]) (pl++[(stp h++[Stp.key kl],2,i)]) ub1 ul1 uf1 pv v':=by
      refine⟨by rw[hval];exact hv1,on1,hp6,⟨xs',by rw[List.length_append];exact q1,q2⟩,?_,hql1,KV hpn H.nd⟩
      refine KS (eb:=eb) (e':= .opn (BM w)) hP1 hA rfl (hchg _) (fun p hp=>?_) ?_ (by decide) hpn
      ·rw[hik p]
       match p with
       | []=>exact absurd rfl hp
       | .key k::r=>exact Sm w _
       | .idx j::r=>rfl
      ·cases w;rfl
     exact Aa (on15 on1 hcv q1.one) (Aa (by rw[List.all_cons,Rd.one hp1];rfl) (Aa hR.on15 (hk1 _ _ _ ub1 ul1 uf1 pv v' pv _ st5 hst hR (by simp) hp6 (fun _=>rfl) (fun h=>by cases h) (e2.trans e5))))
    ·have hst:Bx i T cur ⟨true,false,ks,.mk s l f⟩= .error 8:=by
      rw[step];unfold BZ;rw[hA];simp only[hlk]
      cases e with
      | opn w=>
       have:w.hd=true:=by
        cases hq:w.hd with
        | true=>rfl
        | false=>exact absurd ⟨w,rfl,hq⟩ hop
       simp only[this,if_true];rfl
      | lst L=>rfl
      | clo w j=>rfl
     have k0:(Dj e).1≠0:=by
      cases e with
      | opn w=>
       have:w.hd=true:=by
        cases hq:w.hd with
        | true=>rfl
        | false=>exact absurd ⟨w,rfl,hq⟩ hop
       simp[Dj,this]
      | lst L=>simp[Dj]
      | clo w j=>simp[Dj]
     refine Gv hp1 (by omega) hpl hpx (by omega) H.ql (fun w' i' k' hq=>⟨_,?_,fun _ _ _ _ _ _ _ _ _ _ _ _ _ _ _ _ _ _ _ _ _ _ _ _ _ _ _ _ _ _ _ _ _ _ _ _ _ _ _ _ _ _ _ _ _ _ _ _ _ _ _ _ _ _ _ _ _ _ _ _ _ _ _ _ _ _ _ _ _ _ _ _ _ _ _ _ _ _ _ _ _ h=>h⟩) fun hq=>absurd (kind0 hq) k0
     refine Bp (Bp (Bp ⟨_,?_,fun _ _ _ _ _ _ _ _ _ _ _ _ _ _ _ _ _ _ _ _ _ _ _ _ _ _ _ _ _ _ _ _ _ _ _ _ _ _ _ _ _ _ _ _ _ _ _ _ _ _ _ _ _ _ _ _ _ _ _ _ _ _ _ _ _ _ _ _ _ _ _ _ _ _ _ _ _ _ _ _ h=>h⟩))
     exact Bp (Bp (Bp (Ab (fun _=>Aa H15 (hk2 8 st2 hst e2)) fun h=>absurd (by omega) h)))
theorem vmap00:VlR St.zero (Ae T00) (Aq scM .nilSlice .nilSlice .nilSlice):=Q9 n0 false
theorem RSt.start:RSt T00 [] [] .nilSlice .nilSlice .nilSlice .nilSlice .nilSlice:=
 ⟨vmap00,rfl,.inl ⟨rfl,rfl,rfl⟩,⟨[],.inl ⟨rfl,rfl,rfl⟩,by unfold PlR;rfl⟩,fun q=>Ie n0 false q |> fun h=>by show(Ax T00 q).1=0;rw[show Ax T00 q=(0,0)from h],(fun x hx=>by cases hx),List.nodup_nil⟩
theorem PV:∀l:List Asg,l.length<=Df l
 | []=>by simp
 | a::r=>by have:=PV r;rw[Df,List.length_cons];unfold asz;omega
structure Ran (l:List Asg) (T:Tb) (cur:List Hop):Prop where
 run:HH l= .ok (T,cur)
 at_:∃u,atT T cur=some u
 nd:NdL (shT 1 T)
 ne:NeL (shT 1 T)
 ck:AX (Ae T)=0
 sz:(Ae T).sz<=1+Df l
theorem rAll_ok {l:List Asg} {v:TV} {xs:List TV} {st:St} {K:Int->Bool->Bool->B8->Int->Int->Int->Int->Int->B8->TV->TV->TV->TV->TV->Int->Int->St->Prop} (hr:Rd 16 v l.length xs) (ha:Dh l xs) (hz:Df l<=900000) (hln:l.length<=80000) (hc:∀a,a∈l->a.keys.length+a.val.cnt<=100000)
  (hk1:∀T cur pl ub ul uf cv plv st',Ran l T cur->RSt T cur pl ub ul uf cv plv->pl.length<=l.length->Aj st st'->K 7 false false [] 0 0 0 0 0 [] ub ul uf cv plv 0 0 st')
  (hk2:∀(i e:Nat) ub ul uf cv plv st',HH l= .error (i,e)->e≠0->List.all (Aq scM ub ul uf++[cv,plv]) Ah=true->Aj st st'->K 7 false false [] 0 0 0 0 0 [] ub ul uf cv plv i e st'):
  CallT PR Dq [v] [.agg [.int .i64,.bool,.bool,.str,.int .i64,.int .i64,.int .i64,.int .i64,.int .i64,.str,.tv,.tv,.tv,.tv,.tv],.one (.int .i64),.one (.int .i64)] st K:=by
 have hll:=PV l
 refine Iq v st K (G9 st _ (Aa rfl ?_))
 refine⟨fun i u z0 z1 z2 z3 z4 z5 z6 z7 z8 z9 z10 z11 z12 z1 z2 x0 x1 x2 x3 x4 x5 x6 x7 x8 x9 x10 x11 x12 c y st'=>v=u/\Aj st st'/\∃(j:Nat) (T:Tb) (cur:List Hop) (pl:List Plc) (u:Tb),i=j/\j<=l.length/\HH l=Gq j T cur (l.drop j)/\atT T cur=some u/\NdL (shT 1 T)/\NeL (shT 1 T)/\AX (Ae T)=0/\(Ae T).sz+Df (l.drop j)<=1+Df l/\pl.length<=j/\
   (x0=7/\x1=false/\x2=false/\x3=[]/\x4=0/\x5=0/\x6=0/\x7=0/\x8=0/\x9=[])/\RSt T cur pl x10 x11 x12 c y,
  fun i _ _ _ _ _ _ _ _ _ _ _ _ _ _ _ _ _ _ _ _ _ _ _ _ _ _ _ _ _ _ _ _=>(l.length-i).toNat,⟨rfl,Aj.refl st,0,T00,[],[],T00,rfl,Nat.zero_le _,rfl,rfl,GM 1 n0 false,GL 1 n0 false,?_,?_,Nat.le_refl _,⟨rfl,rfl,rfl,rfl,rfl,rfl,rfl,rfl,rfl,rfl⟩,RSt.start⟩,?_⟩
 ·exact De.2 ⟨DB n0 false,by rw[show lvV (Ae T00)=1 from KX n0 false];omega,by have:=Eu n0 false;rw[AC]at this;rw[show(Ae T00).cnt=1 from this];omega⟩
 ·rw[show(Ae T00).sz=1 from KK n0 false,List.drop_zero];omega
 rintro _ _ z0 z1 z2 z3 z4 z5 z6 z7 z8 z9 z10 z11 z12 z1 z2 _ _ _ _ _ _ _ _ _ _ x10 x11 x12 cv plv st1 ⟨rfl,e1,j,T,cur,pl,u,rfl,hj,hrun,hu,hN,hNe,hV,hsz,hpl,⟨rfl,rfl,rfl,rfl,rfl,rfl,rfl,rfl,rfl,rfl⟩,H⟩
 refine Aa hr.isSl ?_
 rw[hr.lenS]
 refine Ab (fun g=>?_) fun g=>?_
 ·have hlt:j<l.length:=by omega
  obtain⟨a,hja⟩:∃a,l[j]? =some a:=⟨_,List.getElem?_eq_getElem hlt⟩
  have hmem:=List.mem_of_getElem? hja
  refine⟨⟨by omega,by rw[hr.lenZ];omega⟩,?_⟩
  rw[Int.toNat_natCast]
  rw[Nx hja]at hsz
  have hle:=Oo l (j+1)
  unfold asz at hsz
  rw[CA hja]at hrun
  have hcT:=Ed hV
  have hca:=hc a hmem
  refine ldA hr ha hja fun kv ub' ul uf h1 h2 h3=>?_
  refine S3 H hu hNe (by omega) (by omega) (by omega) h1 h2 (fun T' cur' pl' ub2 ul2 uf2 cv2 plv2 pv q st2 hs H' hpl' hpv _ _ e2=>?_) fun e st2 hs e2=>?_
  ·obtain⟨⟨u',hu'⟩,hN',hNe',_,hsz'⟩:=OM hu hN hNe hs
   refine Aa H'.on15 (Ab (fun _=>?_) fun h=>absurd rfl h)
   refine Sa (v:=Ae T') (by omega) H'.v (C0 st2) fun st3 e3=>?_
   refine Ab (fun hne=>Aa H.on15 ?_) fun heq=>Aa H'.on15 ?_
   ·have hne':AX (Ae T')≠0:=fun e=>hne (by rw[e];rfl)
    refine hk2 j (AX (Ae T')) _ _ _ _ _ st3 ?_ hne' H.on15 ((e1.trans e2).trans e3)
    rw[hrun,Gq,hs]
    simp only
    rw[if_neg hne']
   ·have hcv:AX (Ae T')=0:=by omega
    rw[Ao _ (by omega) (by omega)]
    refine⟨⟨rfl,(e1.trans e2).trans e3,j+1,T',cur',pl',u',by omega,hlt,?_,hu',hN',hNe',hcv,by omega,by omega,⟨rfl,rfl,rfl,rfl,rfl,rfl,rfl,rfl,rfl,rfl⟩,H'⟩,by dsimp only;omega⟩
    rw[hrun,Gq,hs]
    simp only
    rw[if_pos hcv]
  ·have he:=ON hs ⟨u,hu⟩ hNe
   refine Aa H.on15 (Ab (fun h=>absurd h (by omega)) fun _=>Ab (fun _=>Aa H.on15 ?_) fun h=>absurd (by omega) h)
   have:=hk2 j e.toNat _ _ _ _ _ st2 ?_ (by omega) H.on15 (e1.trans e2)
   ·have e2:((e.toNat:Nat):Int)=e:=by omega
    rw[e2]at this;exact this
   ·rw[hrun,Gq,hs]
 ·have hjj:j=l.length:=by omega
  subst hjj
  rw[List.drop_length,Gq]at hrun
  rw[List.drop_length,Df]at hsz
  exact Aa H.on15 (hk1 T cur pl _ _ _ _ _ st1 ⟨hrun,⟨u,hu⟩,hN,hNe,hV,by omega⟩ H (by omega) e1)
theorem MX {l:List Asg} {v:TV} {xs:List TV} {st:St} {K:Int->Bool->Bool->B8->Int->Int->Int->Int->Int->B8->TV->TV->TV->Int->Int->St->Prop} (hr:Rd 16 v l.length xs) (ha:Dh l xs) (hz:Df l<=900000) (hln:l.length<=80000) (hc:∀a,a∈l->a.keys.length+a.val.cnt<=100000)
  (hk1:∀T cur ub ul uf st',Ran l T cur->VlR St.zero (Ae T) (Aq scM ub ul uf)->List.all (Aq scM ub ul uf) Ah=true->Aj st st'->K 7 false false [] 0 0 0 0 0 [] ub ul uf 0 0 st')
  (hk2:∀(i e:Nat) st',HH l= .error (i,e)->e≠0->Aj st st'->K 0 false false [] 0 0 0 0 0 [] .nilSlice .nilSlice .nilSlice i e st'):
  CallT PR CF [v] [.agg SG13,.one (.int .i64),.one (.int .i64)] st K:=by
 refine Ha v st K (rAll_ok hr ha hz hln hc (fun T cur pl ub ul uf cv plv st' hR H _ e=>?_) fun i e ub ul uf cv plv st' h he on ex=>Aa on (Ab (fun _=>hk2 i e st' h he ex) fun h0=>absurd (by omega) h0))
 exact Aa H.on15 (Ab (fun h=>absurd rfl h) fun _=>Aa H.on (hk1 T cur ub ul uf st' hR H.v H.on e))
theorem NL {xs:List TV} {k n j:Nat} {cs:List TV} (h:(xs.drop k).take n=cs) {x:TV} (hx:cs[j]? =some x):xs[k+j]? =some x:=by
 rw[<-h,List.getElem?_take]at hx
 split at hx
 ·rwa [List.getElem?_drop]at hx
 ·cases hx
theorem Dh.at_ {l:List Asg} {xs:List TV} {i:Nat} {a:Asg} (h:Dh l xs) (hi:l[i]? =some a):∃kv vc,xs[i*16+2]? =some kv/\Rd 1 kv a.keys.length (a.keys.map TV.str)/\(xs.drop (i*16+3)).take 13=vc/\VlR St.zero a.val vc/\xs[i*16+0]? =some (.bool a.tab)/\xs[i*16+1]? =some (.bool a.elem):=by
 obtain⟨kv,vc,h1,h2,h3⟩:=h.get hi
 refine⟨kv,vc,NL h1 rfl,h2,?_,h3,NL h1 rfl,NL h1 rfl⟩
 have:((xs.drop (i*16)).take 16).drop 3=vc:=by rw[h1];rfl
 rw[List.drop_take,List.drop_drop]at this
 exact this
def SmA (a:Asg):Prop:=a.keys.length<=60/\kz a.keys<=2060/\a.val.sz<=20150/\a.val.cnt<=150
theorem RX {l:List Asg} {v:TV} {xs:List TV} {st:St} {K:Bool->St->Prop} (hr:Rd 16 v l.length xs) (ha:Dh l xs) (hk:∀b:Bool,(b=true->l.length<=30/\∀a,a∈l->SmA a)->K b st):CallT PR CP [v] [.one .bool] st K:=by
 have no:K false st:=hk false fun h=>by cases h
 refine Hl v st K ⟨fun i u st'=>v=u/\st=st'/\∃k:Nat,i=k/\k<=l.length/\k<=30/\∀(j:Nat) a,j<k->l[j]? =some a->SmA a,fun i _ _=>(l.length-i).toNat,⟨rfl,rfl,0,rfl,Nat.zero_le _,by omega,fun j a hj=>by omega⟩,?_⟩
 rintro _ _ _ ⟨rfl,rfl,k,rfl,hkl,hk30,hok⟩
 have hlz:=hr.lenZ
 refine Aa hr.isSl ?_
 rw[hr.lenS]
 refine Ab (fun g=>Ab (fun _=>no) fun g1=>?_) fun g=>?_
 ·have hlt:k<l.length:=by omega
  obtain⟨a,hja⟩:∃a,l[k]? =some a:=⟨_,List.getElem?_eq_getElem hlt⟩
  obtain⟨kv,vc,h1,h2,h3,h4,_,_⟩:=ha.at_ hja
  have hip:=hr.isP hlt
  refine⟨⟨by omega,by rw[hlz];omega⟩,Aa (by rw[Int.toNat_natCast];exact hip) (Ad (x:=kv) (by rw[Int.toNat_natCast];exact hr.ldfx st k 2 h1) (Aa h2.isSl ?_))⟩
  rw[h2.lenS]
  refine Ab (fun _=>no) fun g2=>⟨⟨by omega,by rw[hlz];omega⟩,Aa (by rw[Int.toNat_natCast];exact hip) ?_⟩
  rw[Int.toNat_natCast,(SlR.of_rd (st:=st) hr).ldcf ha.len hlt (by omega:3+13<=16),h3]
  obtain⟨tab,elem,ks,av⟩:=a
  obtain⟨s,lv,fv⟩:=av
  simp only at h2 h4 g2
  have h40:=h4
  obtain⟨ub,ul,uf,_,_,rfl,_⟩:=VlR.cells h4
  refine Ad rfl (GW (Qd h40 fun b hb=>As (fun _=>no) fun hb0=>?_))
  have hb1:=hb (by simpa using hb0)
  refine⟨fun n k2 u i st'=>v=u/\i=(k:Int)/\st=st'/\∃m:Nat,k2=m/\m<=ks.length/\0<=n/\n<=2000/\n+m=kz (ks.take m),fun _ k2 _ _ _=>(ks.length-k2).toNat,⟨rfl,rfl,rfl,0,rfl,Nat.zero_le _,by omega,by omega,by simp[kz]⟩,?_⟩
  rintro n _ _ _ _ ⟨rfl,rfl,rfl,m,rfl,hm,hn0,hn1,hn2⟩
  have ldk:∀{f:TV->Prop},f kv->(0<=(k:Int)/\(k:Int)<(lenZ 16 v:Int))/\need (isPtr (ixT 16 v (Int.toNat (k:Int)))) (Ak (Ac st [] (.t (Au (ixT 16 v (Int.toNat (k:Int))) 2)) 0) f):=fun hf=>
   ⟨⟨by omega,by rw[hlz];omega⟩,Aa (by rw[Int.toNat_natCast];exact hip) (Ad (x:=kv) (by rw[Int.toNat_natCast];exact hr.ldfx st k 2 h1) hf)⟩
  refine ldk (Aa h2.isSl ?_)
  rw[h2.lenS]
  refine Ab (fun g3=>?_) fun g3=>?_
  ·have hmk:m<ks.length:=by omega
   have hkg:=Dc hmk
   have ldm:∀{f:B8->Prop},f (ks.getD m [])->(0<=(m:Int)/\(m:Int)<(lenZ 1 kv:Int))/\Ak (Ac st [] (.t (ixT 1 kv (Int.toNat (m:Int)))) 0) fun x=>AO .str x f:=fun hf=>
    ⟨⟨by omega,by rw[h2.lenZ];omega⟩,Ad (x:= .str (ks.getD m [])) (by rw[Int.toNat_natCast];exact h2.ldx st m 0 (by rw[Nat.mul_one];exact hkg)) (B4 hf)⟩
   refine ldk (ldm ?_)
   rw[Ao (2000-n) (by omega) (by omega)]
   refine Ab (fun _=>no) fun g4=>ldk (ldm ?_)
   rw[Ao _ (by omega) (by omega),Ao _ (by omega) (by omega)]
   refine⟨⟨rfl,rfl,rfl,m+1,by omega,hmk,by omega,by omega,?_⟩,by dsimp only;omega⟩
   rw[Cd hmk,Kb]
   have:kz [ks.getD m []]=(ks.getD m []).length+1:=by simp[kz]
   omega
  ·have hmm:m=ks.length:=by omega
   rw[hmm,List.take_length]at hn2
   rw[Ao _ (by omega) (by omega)]
   refine⟨⟨rfl,rfl,k+1,by omega,hlt,by omega,fun j a hj hja2=>?_⟩,by dsimp only;omega⟩
   by_cases hjk:j=k
   ·subst hjk
    rw[hja]at hja2
    cases hja2
    exact⟨by simp only;omega,by simp only;omega,hb1.1,hb1.2⟩
   ·exact hok j a (by omega) hja2
 ·have hkk:k=l.length:=by omega
  refine hk true fun _=>⟨by omega,fun a hma=>?_⟩
  obtain⟨j,hj⟩:=List.getElem?_of_mem hma
  exact hok j a (by have:=(List.getElem?_eq_some_iff.1 hj).1;omega) hj
theorem SmA.sum {l:List Asg} (hl:l.length<=30) (h:∀a,a∈l->SmA a):Df l<=900000/\l.length<=80000/\∀a,a∈l->a.keys.length+a.val.cnt<=100000:=by
 have:∀m:List Asg,(∀a,a∈m->SmA a)->Df m<=m.length*22212:=by
  intro m
  induction m with
  | nil=>intro _;simp[Df]
  | cons a r ih=>
   intro hm
   have h1:=ih fun x hx=>hm x (.tail _ hx)
   obtain⟨h2,h3,h4,h5⟩:=hm a (.head _)
   rw[Df,List.length_cons];unfold asz;omega
 have:=this l h
 refine⟨by omega,by omega,fun a ha=>?_⟩
 obtain⟨h2,h3,h4,h5⟩:=h a ha
 omega
theorem u8_nil:U8 []:=by unfold U8;rw[BW _ (by simp[ul])];rfl
theorem RS {c:UInt8} (h:DO false [c] 0):AV (KH c):=by
 unfold KH AV
 exact⟨⟨⟨by simp,by simp,by simp[scZ],by simp,by simp[scZ],by simp[scZ],by simp[scZ],by simp,by simp⟩,h,by simp,u8_nil,by simp[scZ],by simp[scZ],rfl⟩,by unfold Ci;trivial,by unfold Cj;trivial⟩
theorem dec49:DO false [49] 0:=by decide
theorem sz_int (c:UInt8):(KH c).sz=2:=by unfold KH Vl.sz Bw Bq;simp[scZ]
theorem cnt_int (c:UInt8):(KH c).cnt=1:=by unfold KH Vl.cnt AF AJ;rfl
theorem RQ:D0 []=0:=BW _ (by simp[ul])
theorem RR {c:UInt8} {l:B8} (hc:c.toNat<128) (hl:D0 l=l.length):D0 (c::l)=(c::l).length:=by
 have h:=SP (c::l) (by simp) hc
 rw[F9 _ (by omega),h.1]
 simp only[List.drop_succ_cons,List.drop_zero,List.length_cons];omega
theorem K7:∀l:B8,(l.all fun c=>decide (c.toNat<128))=true->D0 l=l.length
 | [],_=>RQ
 | c::l,h=>by
  simp only[List.all_cons,Bool.and_eq_true,decide_eq_true_eq]at h
  exact RR h.1 (K7 l h.2)
theorem Qc {i:Nat} {T T' u:Tb} {cur cur':List Hop} {a:Asg} (hu:atT T cur=some u) (hne:NeL (shT 1 T)) (hs:Bx i T cur a= .ok (T',cur')) (hv:AV (Ae T)) (hk:∀k,k∈a.keys->U8 k/\k.length<=1024) (ha:a.elem=false->a.tab=false->AV a.val):AV (Ae T'):=by
 unfold Bx DH at hs
 split at hs
 ·cases hs
 rename_i hp
 split at hs
 ·cases hs
 rename_i T1 h hh
 have hks:a.keys≠ []:=fun e=>by
  have:Cc a=true:=by simpa using hp
  unfold Cc at this
  rw[e]at this;simp at this
 obtain⟨u0,hu0⟩:∃u0,atT T (if a.tab=true then []else cur)=some u0:=by
  split
  ·exact⟨T,by cases T;rfl⟩
  ·exact⟨u,hu⟩
 obtain⟨W,hne1⟩:=Ff _ 0 hu0 hne hh (Nat.le_refl _)
 obtain⟨F,_⟩:=HQ hne1 hs
 have hl:a.keys.getLastD []∈a.keys:=by
  rw[List.getLastD_eq_getLast?,List.getLast?_eq_some_getLast hks]
  exact List.getLast_mem hks
 exact F.va ⟨(hk _ hl).1,(hk _ hl).2,ha⟩ (W.va (fun k hk'=>hk k (List.dropLast_subset _ hk')) hv)
structure MI (T:Tb) (cur:List Hop) (n:Nat):Prop where
 at_:∃u,atT T cur=some u
 nd:NdL (shT 1 T)
 ne:NeL (shT 1 T)
 va:AV (Ae T)
 cnt:(Ae T).cnt<=n
theorem MI.ck {T:Tb} {cur:List Hop} {n:Nat} (h:MI T cur n) (hn:n<=48):AX (Ae T)=0:=
 De.2 ⟨h.va,by have:=LE (Ae T);have:=h.cnt;omega,by have:=h.cnt;omega⟩
theorem MI.start:MI T00 [] 1:=
 ⟨⟨T00,rfl⟩,GM 1 n0 false,GL 1 n0 false,DB n0 false,by have:=Eu n0 false;rw[AC]at this;rw[show(Ae T00).cnt=1 from this];omega⟩
theorem MI.step {i n:Nat} {T T':Tb} {cur cur':List Hop} {a:Asg} (h:MI T cur n) (hs:Bx i T cur a= .ok (T',cur')) (hk:∀k,k∈a.keys->U8 k/\k.length<=1024) (ha:a.elem=false->a.tab=false->AV a.val):MI T' cur' (n+a.keys.length+2+a.val.cnt):=by
 obtain⟨u,hu⟩:=h.at_
 obtain⟨h1,h2,h3,h4,_⟩:=OM hu h.nd h.ne hs
 exact⟨h1,h2,h3,Qc hu h.ne hs h.va hk ha,by have:=h.cnt;omega⟩
theorem P6 {c:UInt8} (h:c.toNat<128):U8 [c]/\[c].length<=1024:=⟨K7 [c] (by simp[h]),by simp⟩
def aP (ks:List B8):Asg:=⟨false,false,ks,KH 49⟩
def aT (ks:List B8):Asg:=⟨true,false,ks,vlO⟩
def aE (ks:List B8):Asg:=⟨true,true,ks,vlO⟩
theorem PW {kv:TV} {ks:List B8} (h:Rd 1 kv ks.length (ks.map TV.str)):P1 (aP ks) [.bool false,.bool false,kv,.int .i64 2,.bool false,.bool false,.str [49],.int .i64 0,.int .i64 0,.int .i64 0,.int .i64 0,.int .i64 0,.str [],.nilSlice,.nilSlice,.nilSlice]:=
 ⟨kv,_,rfl,h,Rb St.zero _ rfl⟩
theorem asg_T {kv:TV} {e:Bool} {ks:List B8} (h:Rd 1 kv ks.length (ks.map TV.str)):P1 ⟨true,e,ks,vlO⟩ [.bool true,.bool e,kv,.int .i64 0,.bool false,.bool false,.str [],.int .i64 0,.int .i64 0,.int .i64 0,.int .i64 0,.int .i64 0,.str [],.nilSlice,.nilSlice,.nilSlice]:=
 ⟨kv,_,rfl,h,K5⟩
theorem Fq {a:Asg} {c:List TV} {r:List Asg} {d:List TV} (h:P1 a c) (k:Dh r d):Dh (a::r) (c++d):=by unfold Dh;exact⟨c,d,rfl,h,k⟩
theorem Oq:Dh [] []:=by unfold Dh;rfl
def kA:B8:=[97]
def kB:B8:=[98]
def kX:B8:=[120]
def kY:B8:=[121]
def kZ:B8:=[122]
def Mt (es:List Kn):Tb:= .mk 0 0 false es
theorem vP:AV (KH 49):=RS dec49
theorem SA:(KH 49).cnt=1:=cnt_int 49
theorem cntO:vlO.cnt=1:=by unfold vlO Vl.cnt AF AJ;rfl
def En.v1 (i:Nat):En:= .clo (KH 49) i
def T1a:Tb:=Mt [.mk kA 0 (.opn (Mt [.mk kB 0 (.v1 0)]))]
def T2a:Tb:=Mt [.mk kA 0 (.opn (Mt [.mk kB 0 (.v1 0)])),.mk kX 0 (.opn (Mt [.mk kY 0 (.opn (.mk 0 0 true []))]))]
def T3a:Tb:=Mt [.mk kA 0 (.opn (Mt [.mk kB 0 (.v1 0)])),.mk kX 0 (.opn (Mt [.mk kY 0 (.opn (.mk 0 0 true [.mk kZ 0 (.v1 2)]))]))]
def T1b:Tb:=Mt [.mk kA 0 (.v1 0)]
theorem run_a:HH [aP [kA,kB],aT [kX,kY],aP [kZ]]= .ok (T3a,[(kX,none),(kY,none)]):=by
 have s1:Bx 0 T00 [] (aP [kA,kB])= .ok (T1a,[]):=rfl
 have s2:Bx 1 T1a [] (aT [kX,kY])= .ok (T2a,[(kX,none),(kY,none)]):=rfl
 have s3:Bx 2 T2a [(kX,none),(kY,none)] (aP [kZ])= .ok (T3a,[(kX,none),(kY,none)]):=rfl
 have hk:∀(ks:List B8),(∀k,k∈ks->k=kA∨k=kB∨k=kX∨k=kY∨k=kZ)->∀k,k∈ks->U8 k/\k.length<=1024:=fun ks h k hm=>by
  rcases h k hm with rfl | rfl | rfl | rfl | rfl<;>exact P6 (by decide)
 have w1:=MI.start.step s1 (hk _ (by simp[aP])) (fun _ _=>vP)
 have w2:=w1.step s2 (hk _ (by simp[aT])) (fun _ h=>by cases h)
 have w3:=w2.step s3 (hk _ (by simp[aP])) (fun _ _=>vP)
 have c1:=w1.ck (by simp[aP,SA])
 have c2:=w2.ck (by simp[aP,aT,SA,cntO])
 have c3:=w3.ck (by simp[aP,aT,SA,cntO])
 unfold HH
 rw[Gq,s1]
 simp only
 rw[if_pos c1,Gq,s2]
 simp only
 rw[if_pos c2,Gq,s3]
 simp only
 rw[if_pos c3,Gq]
theorem run_b:HH [aP [kA],aP [kA,kB]]= .error (1,8):=by
 have s1:Bx 0 T00 [] (aP [kA])= .ok (T1b,[]):=rfl
 have s2:Bx 1 T1b [] (aP [kA,kB])= .error 8:=rfl
 have w1:=MI.start.step s1 (fun k hm=>by rw[List.mem_singleton.1 hm];exact P6 (by decide)) (fun _ _=>vP)
 have c1:=w1.ck (by simp[aP,SA])
 unfold HH
 rw[Gq,s1]
 simp only
 rw[if_pos c1,Gq,s2]
 rfl
theorem run_c:HH [aP [kA],aE [kA]]= .error (1,6):=by
 have s1:Bx 0 T00 [] (aP [kA])= .ok (T1b,[]):=rfl
 have s2:Bx 1 T1b [] (aE [kA])= .error 6:=rfl
 have w1:=MI.start.step s1 (fun k hm=>by rw[List.mem_singleton.1 hm];exact P6 (by decide)) (fun _ _=>vP)
 have c1:=w1.ck (by simp[aP,SA])
 unfold HH
 rw[Gq,s1]
 simp only
 rw[if_pos c1,Gq,s2]
 rfl
theorem HL {kv:TV} {st:St} {K:Bool->Bool->TV->Int->Bool->Bool->B8->Int->Int->Int->Int->Int->B8->TV->TV->TV->St->Prop} (hk1:Ah kv=true) (hk:K false false kv 2 false false str5 0 0 0 0 0 [] .nilSlice .nilSlice .nilSlice st):
  CallT PR AU [kv] [.agg [.bool,.bool,.tv,.int .i64,.bool,.bool,.str,.int .i64,.int .i64,.int .i64,.int .i64,.int .i64,.str,.tv,.tv,.tv]] st K:=by
 refine Hm kv st K (GC st _ (Aa (by simp[hk1]) (Aa ?_ hk)))
 show(true&&(true&&(Ah kv&&true)))=true
 rw[hk1];rfl
theorem valT3a:∃F1:List Fd,Ae T3a= .mk scM [] [.mk kA (.mk scM [] F1),.mk kX (.mk scM [] [.mk kY (.mk scM [] [.mk kZ (KH 49)])])]:=by
 unfold T3a Mt En.v1
 simp only[Ae,AD,AC]
 exact⟨_,rfl⟩
theorem Kl {st:St} {K:Bool->St->Prop} (hk:∀st',K true st'):CallT PR BQ [] [.one .bool] st K:=by
 have hb:∀(a:Asg),a=aP [kA,kB]∨a=aT [kX,kY]∨a=aP [kZ]∨a=aP [kA]∨a=aE [kA]->asz a<=20/\a.keys.length+a.val.cnt<=100000:=fun a ha=>by
  have h1:(KH 49).sz=2:=sz_int 49
  have h2:vlO.sz=1:=by unfold vlO Vl.sz Bw Bq;simp[scO]
  rcases ha with rfl | rfl | rfl | rfl | rfl<;>simp[asz,aP,aT,aE,kz,kA,kB,kX,kY,kZ,h1,h2,SA,cntO]
 have hA:Dh [aP [kA,kB],aT [kX,kY],aP [kZ]] _:=Fq (PW (kv:= .list 1 .full 2 [.str Mu,.str str1]) (.inr ⟨_,rfl⟩)) (Fq (asg_T (e:=false) (ks:=[kX,kY]) (kv:= .list 1 .full 2 [.str str2,.str str3]) (.inr ⟨_,rfl⟩)) (Fq (PW (ks:=[kZ]) (kv:= .list 1 .full 1 [.str str4]) (.inr ⟨_,rfl⟩)) Oq))
 have hB:Dh [aP [kA],aP [kA,kB]] _:=Fq (PW (kv:= .list 1 .full 1 [.str Mu]) (.inr ⟨_,rfl⟩)) (Fq (PW (ks:=[kA,kB]) (kv:= .list 1 .full 2 [.str Mu,.str str1]) (.inr ⟨_,rfl⟩)) Oq)
 have hC:Dh [aP [kA],aE [kA]] _:=Fq (PW (kv:= .list 1 .full 1 [.str Mu]) (.inr ⟨_,rfl⟩)) (Fq (asg_T (e:=true) (ks:=[kA]) (kv:= .list 1 .full 1 [.str Mu]) (.inr ⟨_,rfl⟩)) Oq)
 have z3:∀{a b c:Asg},asz a<=20->asz b<=20->asz c<=20->Df [a,b,c]<=900000:=fun h1 h2 h3=>by simp only[Df];omega
 have z2:∀{a b:Asg},asz a<=20->asz b<=20->Df [a,b]<=900000:=fun h1 h2=>by simp only[Df];omega
 have a1:=hb _ (.inl rfl)
 have a2:=hb _ (.inr (.inl rfl))
 have a3:=hb _ (.inr (.inr (.inl rfl)))
 have a4:=hb _ (.inr (.inr (.inr (.inl rfl))))
 have a5:=hb _ (.inr (.inr (.inr (.inr rfl))))
 refine Hn st K (HL rfl (HL rfl ?_))
 refine NE (l:=[aP [kA,kB],aT [kX,kY],aP [kZ]]) (.inr ⟨_,rfl⟩) hA (z3 a1.1 a2.1 a3.1) (fun a ha=>?_) (fun T cur ub ul uf st1 hrun _ _ hv on=>Aa on ?_) fun i e st1 hrun _=>by rw[run_a]at hrun;cases hrun
 ·simp only[List.mem_cons,List.not_mem_nil,or_false]at ha
  rcases ha with rfl | rfl | rfl
  ·exact a1.2
  ·exact a2.2
  ·exact a3.2
 rw[run_a]at hrun
 have hT:T=T3a:=by cases hrun;rfl
 subst hT
 refine HL rfl (HL rfl ?_)
 refine Ip (l:=[aP [kA],aP [kA,kB]]) (.inr ⟨_,rfl⟩) hB (z2 a4.1 a1.1) (fun a ha=>?_) (fun T cur st2 h2=>by rw[run_b]at h2;cases h2) fun i e st2 h2 _=>?_
 ·simp only[List.mem_cons,List.not_mem_nil,or_false]at ha
  rcases ha with rfl | rfl
  ·exact a4.2
  ·exact a1.2
 rw[run_b]at h2
 have h2':i=1/\e=8:=by cases h2;exact⟨rfl,rfl⟩
 obtain⟨rfl,rfl⟩:=h2'
 refine HL rfl ?_
 refine Ip (l:=[aP [kA],aE [kA]]) (.inr ⟨_,rfl⟩) hC (z2 a4.1 a5.1) (fun a ha=>?_) (fun T cur st3 h3=>by rw[run_c]at h3;cases h3) fun i e st3 h3 _=>?_
 ·simp only[List.mem_cons,List.not_mem_nil,or_false]at ha
  rcases ha with rfl | rfl
  ·exact a4.2
  ·exact a5.2
 rw[run_c]at h3
 have h3':i=1/\e=6:=by cases h3;exact⟨rfl,rfl⟩
 obtain⟨rfl,rfl⟩:=h3'
 obtain⟨F1,hval⟩:=valT3a
 rw[hval]at hv
 obtain⟨_,_,_,xl,xf,hc,w1,w2,w3,w4,w5⟩:=VlR.cells hv
 replace hc:Aq scM ub ul uf=Aq scM _ _ _:=hc
 cases hc
 unfold FsR at w5
 obtain⟨c1,d1,rfl,f1,w5⟩:=w5
 unfold FsR at w5
 obtain⟨c2,d2,rfl,f2,w5⟩:=w5
 unfold FsR at w5
 subst w5
 unfold FdR at f1 f2
 obtain⟨v1,rfl,f1⟩:=f1
 obtain⟨v2,rfl,f2⟩:=f2
 obtain⟨p1,p2,p3,p4,p5,rfl,_⟩:=VlR.cells f1
 obtain⟨q1,q2,q3,q4,q5,rfl,g1,g2,g3,g4,g5⟩:=VlR.cells f2
 unfold FsR at g5
 obtain⟨c3,d3,rfl,f3,g5⟩:=g5
 unfold FsR at g5
 subst g5
 unfold FdR at f3
 obtain⟨v3,rfl,f3⟩:=f3
 obtain⟨r1,r2,r3,r4,r5,rfl,k1,k2,k3,k4,k5⟩:=VlR.cells f3
 rcases w4.zero with⟨_,h0,_⟩ | ⟨t1,rfl⟩
 ·simp at h0
 rcases g4.zero with⟨_,h0,_⟩ | ⟨t2,rfl⟩
 ·simp at h0
 have hkx:str2=kX:=rfl
 have l2:(0:Int)<=1/\(1:Int)<((2:Nat):Int):=⟨by decide,by decide⟩
 have l1:(0:Int)<=0/\(0:Int)<((1:Nat):Int):=⟨by decide,by decide⟩
 refine Ab (fun _=>Aa rfl ?_) fun h=>absurd rfl h
 refine Ab (fun _=>?_) fun h=>absurd rfl h
 refine⟨l2,Aa rfl (Ad (x:= .str kX) rfl (B4 ?_))⟩
 refine Ab (fun _=>?_) fun h=>absurd rfl h
 refine⟨l2,Aa rfl (Aa rfl (Ad (x:= .list 14 t2 1 _) rfl (Aa rfl ?_)))⟩
 refine Ab (fun _=>?_) fun h=>absurd rfl h
 refine⟨l2,Aa rfl (Aa rfl (Ad (x:= .list 14 t2 1 _) rfl ?_))⟩
 refine⟨l1,Aa rfl (Aa rfl (Ad (x:=r3) rfl (Aa k4.isSl ?_)))⟩
 rw[k4.lenS]
 refine Ab (fun _=>?_) fun h=>absurd rfl h
 refine Ab (fun _=>?_) fun h=>absurd rfl h
 refine Ab (fun _=>?_) fun h=>absurd rfl h
 refine Ab (fun _=>?_) fun h=>absurd rfl h
 exact hk st3
theorem O2 {w:Vl} {cs ds:List TV} {st:St} {K:Bool->St->Prop} (hz:w.sz<=2000000) (q1:VlR St.zero w cs) (q2:VlR St.zero w ds) (hK:K true st):CallT PR A9 [.agg cs,.agg ds] [.one .bool] st K:=
 Same_ok 2000000 w w hz hz (Nat.le_refl _) q1 q2 (C0 st) fun r hr=>by rw[hr.2 rfl];exact hK
theorem lsbuilds_ok {l:List Asg} {v:TV} {xs:List TV} (hr:Rd 16 v l.length xs) (ha:Dh l xs) {st:St} {K:Bool->St->Prop} (hk:∀st',K true st'):CallT PR fn_datakitlaw25_SectionBuilds [v] [.one .bool] st K:=by
 refine Ek v st K (RX hr ha fun b hb=>As (fun _=>Kl hk) fun hb0=>?_)
 obtain⟨hl,hs⟩:=hb (by simpa using hb0)
 obtain⟨h1,h2,h3⟩:=SmA.sum hl hs
 refine NE hr ha h1 h3 (fun T cur ub ul uf st1 hrun hck hsz hv on=>Aa on ?_) fun i e st1 hrun he=>Aa rfl ?_
 ·refine MX hr ha h1 h2 h3 (fun T2 cur2 ub2 ul2 uf2 st2 hR hv2 on2 _=>Aa on2 ?_) fun i e st2 hrun2 _ _=>by rw[hrun]at hrun2;cases hrun2
  have hT:=hR.run
  rw[hrun]at hT
  cases hT
  refine Ip hr ha h1 h3 (fun T3 cur3 st3 hrun3=>?_) fun i e st3 hrun3 _=>by rw[hrun]at hrun3;cases hrun3
  rw[IR]at hv⊢
  refine O2 (w:=Ae T) (by omega) hv hv2 ?_
  exact Dl (Ab (fun _=>Ab (fun _=>Ab (fun _=>Ab (fun _=>Kl hk) fun h=>absurd rfl h) fun h=>absurd rfl h) fun h=>absurd rfl h) fun h=>absurd rfl h)
 ·refine MX hr ha h1 h2 h3 (fun T2 cur2 ub2 ul2 uf2 st2 hR hv2 on2 _=>by have:=hR.run;rw[hrun]at this;cases this) fun i2 e2 st2 hrun2 _ _=>Aa rfl ?_
  rw[hrun]at hrun2
  cases hrun2
  refine Ip hr ha h1 h3 (fun T3 cur3 st3 hrun3=>by rw[hrun]at hrun3;cases hrun3) fun i3 e3 st3 hrun3 _=>?_
  rw[hrun]at hrun3
  cases hrun3
  refine O2 (w:=vlO) (by unfold vlO Vl.sz Bw Bq;simp[scO]) K5 K5 ?_
  exact Dl (Ab (fun _=>Ab (fun _=>Ab (fun _=>Ab (fun _=>Kl hk) fun h=>absurd rfl h) fun h=>absurd rfl h) fun h=>absurd rfl h) fun h=>absurd rfl h)
end Go.TVF
