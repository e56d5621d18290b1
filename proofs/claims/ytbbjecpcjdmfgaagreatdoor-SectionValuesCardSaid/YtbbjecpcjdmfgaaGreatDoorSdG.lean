/- What the laws below rest on: a framework for Go programs, and contracts of the functions that they reach. -/
import Derived.Test.YtbbjecpcjdmfgaaGreatDoorSdF
set_option maxRecDepth 20000
set_option linter.unusedVariables false
set_option linter.unusedSimpArgs false
namespace Go.TVF
open Go.IntKind(i64 u8)
open Go Go.Proofs
theorem Ho {kv:TV} {st:St} {K:Bool->Bool->TV->Int->Bool->Bool->B8->Int->Int->Int->Int->Int->B8->TV->TV->TV->St->Prop} (hk1:Au kv=true) (hk:K false false kv 2 false false str5 0 0 0 0 0 [] .nilSlice .nilSlice .nilSlice st):
  CallT PR AW [kv] [.agg [.bool,.bool,.tv,.int .i64,.bool,.bool,.str,.int .i64,.int .i64,.int .i64,.int .i64,.int .i64,.str,.tv,.tv,.tv]] st K:=by
 refine G5 kv st K (Gy st _ (Aa (by simp[hk1]) (Aa ?_ hk)))
 show(true&&(true&&(Au kv&&true)))=true
 rw[hk1];rfl
theorem valT3a:∃F1:List Fd,Ag T3a= .mk scM [] [.mk kA (.mk scM [] F1),.mk kX (.mk scM [] [.mk kY (.mk scM [] [.mk kZ (Kz 49)])])]:=by
 unfold T3a Ml En.v1
 simp only[Ag,AM,AP]
 exact⟨_,rfl⟩
theorem Gr {st:St} {K:Bool->St->Prop} (hk:∀st',K true st'):CallT PR AI [] [.one .bool] st K:=by
 have hb:∀(a:Asg),a=aP [kA,kB]∨a=aT [kX,kY]∨a=aP [kZ]∨a=aP [kA]∨a=aE [kA]->asz a<=20/\a.keys.length+a.val.cnt<=100000:=fun a ha=>by
  have h1:(Kz 49).sz=2:=sz_int 49
  have h2:vlO.sz=1:=by unfold vlO Vl.sz BV BW;simp[scO]
  rcases ha with rfl | rfl | rfl | rfl | rfl<;>simp[asz,aP,aT,aE,kz,kA,kB,kX,kY,kZ,h1,h2,Sw,cntO]
 have hA:CZ [aP [kA,kB],aT [kX,kY],aP [kZ]] _:=Fj (PU (kv:= .list 1 .full 2 [.str Mm,.str str1]) (.inr ⟨_,rfl⟩)) (Fj (asg_T (e:=false) (ks:=[kX,kY]) (kv:= .list 1 .full 2 [.str str2,.str str3]) (.inr ⟨_,rfl⟩)) (Fj (PU (ks:=[kZ]) (kv:= .list 1 .full 1 [.str str4]) (.inr ⟨_,rfl⟩)) On))
 have hB:CZ [aP [kA],aP [kA,kB]] _:=Fj (PU (kv:= .list 1 .full 1 [.str Mm]) (.inr ⟨_,rfl⟩)) (Fj (PU (ks:=[kA,kB]) (kv:= .list 1 .full 2 [.str Mm,.str str1]) (.inr ⟨_,rfl⟩)) On)
 have hC:CZ [aP [kA],aE [kA]] _:=Fj (PU (kv:= .list 1 .full 1 [.str Mm]) (.inr ⟨_,rfl⟩)) (Fj (asg_T (e:=true) (ks:=[kA]) (kv:= .list 1 .full 1 [.str Mm]) (.inr ⟨_,rfl⟩)) On)
 have z3:∀{a b c:Asg},asz a<=20->asz b<=20->asz c<=20->DT [a,b,c]<=900000:=fun h1 h2 h3=>by simp only[DT];omega
 have z2:∀{a b:Asg},asz a<=20->asz b<=20->DT [a,b]<=900000:=fun h1 h2=>by simp only[DT];omega
 have a1:=hb _ (.inl rfl)
 have a2:=hb _ (.inr (.inl rfl))
 have a3:=hb _ (.inr (.inr (.inl rfl)))
 have a4:=hb _ (.inr (.inr (.inr (.inl rfl))))
 have a5:=hb _ (.inr (.inr (.inr (.inr rfl))))
 refine G6 st K (Ho rfl (Ho rfl ?_))
 refine Nv (l:=[aP [kA,kB],aT [kX,kY],aP [kZ]]) (.inr ⟨_,rfl⟩) hA (z3 a1.1 a2.1 a3.1) (fun a ha=>?_) (fun T cur ub ul uf st1 hrun _ _ hv on=>Aa on ?_) fun i e st1 hrun _=>by rw[run_a]at hrun;cases hrun
 ·simp only[List.mem_cons,List.not_mem_nil,or_false]at ha
  rcases ha with rfl | rfl | rfl
  ·exact a1.2
  ·exact a2.2
  ·exact a3.2
 rw[run_a]at hrun
 have hT:T=T3a:=by cases hrun;rfl
 subst hT
 refine Ho rfl (Ho rfl ?_)
 refine Nt (l:=[aP [kA],aP [kA,kB]]) (.inr ⟨_,rfl⟩) hB (z2 a4.1 a1.1) (fun a ha=>?_) (fun T cur st2 h2=>by rw[run_b]at h2;cases h2) fun i e st2 h2 _=>?_
 ·simp only[List.mem_cons,List.not_mem_nil,or_false]at ha
  rcases ha with rfl | rfl
  ·exact a4.2
  ·exact a1.2
 rw[run_b]at h2
 have h2':i=1/\e=8:=by cases h2;exact⟨rfl,rfl⟩
 obtain⟨rfl,rfl⟩:=h2'
 refine Ho rfl ?_
 refine Nt (l:=[aP [kA],aE [kA]]) (.inr ⟨_,rfl⟩) hC (z2 a4.1 a5.1) (fun a ha=>?_) (fun T cur st3 h3=>by rw[run_c]at h3;cases h3) fun i e st3 h3 _=>?_
 ·simp only[List.mem_cons,List.not_mem_nil,or_false]at ha
  rcases ha with rfl | rfl
  ·exact a4.2
  ·exact a5.2
 rw[run_c]at h3
 have h3':i=1/\e=6:=by cases h3;exact⟨rfl,rfl⟩
 obtain⟨rfl,rfl⟩:=h3'
 obtain⟨F1,hval⟩:=valT3a
 rw[hval]at hv
 obtain⟨_,_,_,xl,xf,hc,w1,w2,w3,w4,w5⟩:=VlR.cells hv
 replace hc:AJ scM ub ul uf=AJ scM _ _ _:=hc
 cases hc
 unfold FsR at w5
 obtain⟨c1,d1,rfl,f1,w5⟩:=w5
 unfold FsR at w5
 obtain⟨c2,d2,rfl,f2,w5⟩:=w5
 unfold FsR at w5
 subst w5
 unfold FdR at f1 f2
 obtain⟨v1,rfl,f1⟩:=f1
 obtain⟨v2,rfl,f2⟩:=f2
 obtain⟨p1,p2,p3,p4,p5,rfl,_⟩:=VlR.cells f1
 obtain⟨q1,q2,q3,q4,q5,rfl,g1,g2,g3,g4,g5⟩:=VlR.cells f2
 unfold FsR at g5
 obtain⟨c3,d3,rfl,f3,g5⟩:=g5
 unfold FsR at g5
 subst g5
 unfold FdR at f3
 obtain⟨v3,rfl,f3⟩:=f3
 obtain⟨r1,r2,r3,r4,r5,rfl,k1,k2,k3,k4,k5⟩:=VlR.cells f3
 rcases w4.zero with⟨_,h0,_⟩ | ⟨t1,rfl⟩
 ·simp at h0
 rcases g4.zero with⟨_,h0,_⟩ | ⟨t2,rfl⟩
 ·simp at h0
 have hkx:str2=kX:=rfl
 have l2:(0:Int)<=1/\(1:Int)<((2:Nat):Int):=⟨by decide,by decide⟩
 have l1:(0:Int)<=0/\(0:Int)<((1:Nat):Int):=⟨by decide,by decide⟩
 refine Ab (fun _=>Aa rfl ?_) fun h=>absurd rfl h
 refine Ab (fun _=>?_) fun h=>absurd rfl h
 refine⟨l2,Aa rfl (Ad (x:= .str kX) rfl (Dw ?_))⟩
 refine Ab (fun _=>?_) fun h=>absurd rfl h
 refine⟨l2,Aa rfl (Aa rfl (Ad (x:= .list 14 t2 1 _) rfl (Aa rfl ?_)))⟩
 refine Ab (fun _=>?_) fun h=>absurd rfl h
 refine⟨l2,Aa rfl (Aa rfl (Ad (x:= .list 14 t2 1 _) rfl ?_))⟩
 refine⟨l1,Aa rfl (Aa rfl (Ad (x:=r3) rfl (Aa k4.isSl ?_)))⟩
 rw[k4.lenS]
 refine Ab (fun _=>?_) fun h=>absurd rfl h
 refine Ab (fun _=>?_) fun h=>absurd rfl h
 refine Ab (fun _=>?_) fun h=>absurd rfl h
 refine Ab (fun _=>?_) fun h=>absurd rfl h
 exact hk st3
theorem NV {w:Vl} {cs:List TV} (h:VlR St.zero w cs):List.all cs Au=true:=by
 obtain⟨s,l,f⟩:=w
 obtain⟨ub,ul,uf,_,_,rfl,w1,w2,_,w4,_⟩:=VlR.cells h
 exact Dn w1.one w2.one w4.one
theorem HM {w x:Vl} {s:AU} {i:Int} (h:Br w s= .ok (x,i)):(w.sc.kind=6/\s.1=true/\i=s.2.2/\w.list[s.2.2.toNat]? =some x)∨(w.sc.kind=7/\s.1=false/\∃j:Nat,i=j/\Fo w.flds s.2.1 0=some (x,j)):=by
 unfold Br at h
 by_cases hb:s.1=true
 ·rw[if_pos hb]at h
  by_cases hk:w.sc.kind=6
  ·rw[if_pos hk]at h
   split at h
   ·rename_i y hy
    simp only[Except.ok.injEq,Prod.mk.injEq]at h
    exact .inl ⟨hk,hb,h.2.symm,h.1▸hy⟩
   ·cases h
  ·rw[if_neg hk]at h;cases h
 ·rw[if_neg hb]at h
  by_cases hk:w.sc.kind=7
  ·rw[if_pos hk]at h
   split at h
   ·rename_i y k hy
    simp only[Except.ok.injEq,Prod.mk.injEq]at h
    exact .inr ⟨hk,by simpa using hb,k,h.2.symm,h.1▸hy⟩
   ·cases h
  ·rw[if_neg hk]at h;cases h
theorem SG {s:Sc} {l:List Vl} {f:List Fd} {key:B8} {cs:List TV} {st:St} {K:Int->St->Prop} (h:VlR St.zero (.mk s l f) cs) (hN:(Vl.mk s l f).sz<=2000000)
  (hk1:∀x k,Fo f key 0=some (x,k)->K k st) (hk2:Fo f key 0=none->K (-1) st):CallT PR Eo [.agg cs,.str key] [.one (.int .i64)] st K:=by
 have hsz:=szs s l f
 have hfl:=BS f
 obtain⟨ub,ul,uf,xl,xf,rfl,h1,h2,h3,h4,h5⟩:=VlR.cells h
 refine Ky _ _ _ _ _ _ _ _ _ _ ub ul uf key st K (Aa h4.isSl ?_)
 rw[h4.lenS]
 refine⟨fun i ky a n st'=>key=ky/\uf=a/\(f.length:Int)=n/\st=st'/\∃k:Nat,i=k/\k<=f.length/\Fo f key 0=Fo (f.drop k) key k,fun i _ _ _ _=>(f.length-i).toNat,⟨rfl,rfl,rfl,rfl,0,rfl,Nat.zero_le _,rfl⟩,?_⟩
 rintro _ _ _ _ _ ⟨rfl,rfl,rfl,rfl,k,rfl,hkl,hE⟩
 refine Ab (fun g=>?_) fun g=>?_
 ·refine Sm (B9 st) h4 h5 rfl (by omega) fun ky s' l' f' ub1 ul1 uf1 gw hw on=>Aa on ?_
  rw[M0 gw]at hE
  replace hE:Fo f key 0=if ky=key then some (.mk s' l' f',k)else Fo (f.drop (k+1)) key (k+1):=hE
  refine Ab (fun g2=>?_) fun g2=>?_
  ·rw[if_pos g2]at hE
   exact hk1 _ k hE
  ·rw[if_neg g2]at hE
   rw[Ah _ (by omega) (by omega)]
   exact⟨⟨rfl,rfl,rfl,rfl,k+1,by omega,by omega,hE⟩,by dsimp only;omega⟩
 ·have:k=f.length:=by omega
  subst this
  rw[List.drop_length,Fo]at hE
  exact hk2 hE
theorem Uf {w:Vl} {cs:List TV} {s:AU} {st:St} {K:Int->Int->St->Prop} (h:VlR St.zero w cs) (hN:w.sz<=2000000) (hs:DH s)
  (hk1:∀e,Br w s= .error e->K 0 e st) (hk2:∀x i,Br w s= .ok (x,i)->K i 0 st):CallT PR E8 [.agg cs,.agg [.bool s.1,.str s.2.1,.int .i64 s.2.2]] [.one (.int .i64),.one (.int .i64)] st K:=by
 have h0:=h
 obtain⟨sc,l,f⟩:=w
 have hsz:=szs sc l f
 have hll:=Cw l
 have hfl:=BS f
 obtain⟨ub,ul,uf,xl,xf,rfl,h1,h2,h3,h4,h5⟩:=VlR.cells h
 refine KW _ _ _ _ _ _ _ _ _ _ ub ul uf s.1 s.2.1 s.2.2 st K (KV _ _ _ _ _ _ _ _ _ _ ub ul uf s.1 s.2.1 s.2.2 st _ (Aw (fun hb=>?_) fun hb=>?_))
 ·obtain⟨p1,p2,p3⟩:=hs.1 hb
  have hd:Br (.mk sc l f) s=if sc.kind=6 then(match l[s.2.2.toNat]? with | some x=> .ok (x,s.2.2) | none=> .error 7)else .error 6:=by
   unfold Br;rw[if_pos hb];rfl
  refine Aw (fun hk=>?_) fun hk=>?_
  ·have hk:¬sc.kind=6:=by simpa using hk
   rw[if_neg hk]at hd
   exact hk1 6 hd
  ·have hk:sc.kind=6:=by simpa using hk
   rw[if_pos hk]at hd
   rw[hb]
   refine Js (Ab (fun g=>absurd g (by omega)) fun _=>L6 (Aa h2.isSl ?_))
   rw[h2.lenS]
   refine Ab (fun g=>?_) fun g=>?_
   ·have:l[s.2.2.toNat]? =none:=List.getElem?_eq_none (by omega)
    rw[this]at hd
    exact hk1 7 hd
   ·have:l[s.2.2.toNat]? =some (l[s.2.2.toNat]'(by omega)):=List.getElem?_eq_getElem (by omega)
    rw[this]at hd
    exact hk2 _ _ hd
 ·have hd:Br (.mk sc l f) s=if sc.kind=7 then(match Fo f s.2.1 0 with | some (x,k)=> .ok (x,(k:Int)) | none=> .error 7)else .error 6:=by
   unfold Br;rw[if_neg (by rw[hb];simp)];rfl
  refine Aw (fun hk=>?_) fun hk=>?_
  ·have hk:¬sc.kind=7:=by simpa using hk
   rw[if_neg hk]at hd
   exact hk1 6 hd
  ·have hk:sc.kind=7:=by simpa using hk
   rw[if_pos hk]at hd
   rw[hb]
   refine L6 (SG h0 hN (fun x k hq=>?_) fun hq=>?_)
   ·rw[hq]at hd
    exact Ab (fun g=>absurd g (by omega)) fun _=>Js (hk2 x k hd)
   ·rw[hq]at hd
    exact Ab (fun _=>hk1 7 hd) fun g=>absurd (by decide) g
theorem aat_ok {w:Vl} {cs:List TV} {p:TV} {ss:List AU} {st:St} (hp:CY p ss) (hok:FJ ss) (h:VlR St.zero w cs) (hN:w.sz<=2000000)
  {K:Int->Bool->Bool->B8->Int->Int->Int->Int->Int->B8->TV->TV->TV->Int->St->Prop}
  (hk1:∀e,Cu w ss []= .error e->e≠0->K 0 false false [] 0 0 0 0 0 [] .nilSlice .nilSlice .nilSlice e st)
  (hk2:∀x0 x1 x2 x3 x4 x5 x6 x7 x8 x9 x10 x11 x12 x ks,Cu w ss []= .ok (x,ks)->x.sz<=2000000->VlR St.zero x [.int .i64 x0,.bool x1,.bool x2,.str x3,.int .i64 x4,.int .i64 x5,.int .i64 x6,.int .i64 x7,.int .i64 x8,.str x9,x10,x11,x12]->K x0 x1 x2 x3 x4 x5 x6 x7 x8 x9 x10 x11 x12 0 st):
  CallT PR GP [.agg cs,p] [.agg SG13,.one (.int .i64)] st K:=by
 have h0:=h
 obtain⟨sc,l,f⟩:=w
 obtain⟨ub,ul,uf,xl,xf,rfl,_⟩:=VlR.cells h
 refine Nz _ _ _ _ _ _ _ _ _ _ ub ul uf p st K (Aa (Rd.isSl hp) ?_)
 rw[Rd.lenS hp]
 refine⟨fun i u n x0 x1 x2 x3 x4 x5 x6 x7 x8 x9 x10 x11 x12 z0 z1 z2 z3 z4 z5 z6 z7 z8 z9 z10 z11 z12 st'=>p=u/\(ss.length:Int)=n/\st=st'/\∃(k:Nat) (w:Vl) (ks:List Int),i=k/\k<=ss.length/\Cu (.mk sc l f) ss []=Cu w (ss.drop k) ks/\w.sz<=2000000/\VlR St.zero w [.int .i64 x0,.bool x1,.bool x2,.str x3,.int .i64 x4,.int .i64 x5,.int .i64 x6,.int .i64 x7,.int .i64 x8,.str x9,x10,x11,x12],
  fun i _ _ _ _ _ _ _ _ _ _ _ _ _ _ _ _ _ _ _ _ _ _ _ _ _ _ _ _ _=>(ss.length-i).toNat,⟨rfl,rfl,rfl,0,.mk sc l f,[],rfl,Nat.zero_le _,rfl,hN,h0⟩,?_⟩
 rintro _ _ _ x0 x1 x2 x3 x4 x5 x6 x7 x8 x9 x10 x11 x12 z0 z1 z2 z3 z4 z5 z6 z7 z8 z9 z10 z11 z12 _ ⟨rfl,rfl,rfl,k,w,ks,rfl,hkl,hE,hz,hw⟩
 refine Ab (fun g=>?_) fun g=>?_
 ·obtain⟨s,hs⟩:∃s,ss[k]? =some s:=⟨_,List.getElem?_eq_getElem (by omega)⟩
  have hso:=hok.2 s (List.mem_of_getElem? hs)
  have h48:=hok.1
  have hdr:ss.drop k=s::ss.drop (k+1):=Db hs
  rw[hdr,Cu]at hE
  refine el3 hp rfl hs (Uf hw hz hso (fun e he=>Ab (fun _=>?_) fun g=>absurd (Decidable.not_not.1 g) (HN he)) fun x i hd=>Ab (fun g=>absurd rfl g) fun _=>?_)
  ·refine hk1 e ?_ (HN he)
   rw[hE,he]
  ·rw[hd]at hE
   have hxz:=LL hd
   obtain⟨sw,lw,fw⟩:=w
   have hszw:=szs sw lw fw
   have hllw:=Cw lw
   have hflw:=BS fw
   obtain⟨_,_,_,xl',xf',hc,z1,z2,z3,z4,z5⟩:=VlR.cells hw
   cases hc
   rw[Ah _ (by omega) (by omega)]
   rcases HM hd with⟨hk6,hb,hi,hx⟩ | ⟨hk7,hb,j,hi,hkey⟩
   ·rw[hb]
    obtain⟨p1,p2,p3⟩:=hso.1 hb
    have hlt:=(List.getElem?_eq_some_iff.1 hx).1
    replace hlt:s.2.2.toNat<lw.length:=hlt
    refine L6 (Oc (k:=s.2.2.toNat) (B9 st) z2 z3 (by omega) hlt fun s' l' f' ub1 ul1 uf1 gw hw1 on=>Aa on ?_)
    have hx':x= .mk s' l' f':=by rw[show(Vl.mk sw lw fw).list=lw from rfl,gw]at hx;exact(Option.some.inj hx).symm
    subst hx'
    exact⟨⟨rfl,rfl,rfl,k+1,_,_,by omega,by omega,hE,by omega,hw1⟩,by dsimp only;omega⟩
   ·rw[hb]
    obtain⟨j',d,hj',hd1,hd2,hd3,_⟩:=Gk hkey
    have hjj:j=j':=by omega
    subst hjj
    have hlt:=(List.getElem?_eq_some_iff.1 hd1).1
    replace hlt:j<fw.length:=hlt
    refine Js (Rc (k:=j) (B9 st) z4 z5 (by omega) hlt fun key s' l' f' ub1 ul1 uf1 gw hw1 on=>Aa ?_ ?_)
    ·exact NV hw1
    ·have hx':x= .mk s' l' f':=by
      rw[show(Vl.mk sw lw fw).flds=fw from rfl,gw]at hd1
      cases hd1
      exact hd3.symm
     subst hx'
     exact⟨⟨rfl,rfl,rfl,k+1,_,_,by omega,by omega,hE,by omega,hw1⟩,by dsimp only;omega⟩
 ·have hkk:k=ss.length:=by omega
  rw[hkk,List.drop_length,Cu]at hE
  exact Aa (NV hw) (hk2 _ _ _ _ _ _ _ _ _ _ _ _ _ w ks hE hz hw)
theorem So {w x:Vl} {s:AU} {i:Int} (h:Br w s= .ok (x,i)):x.cnt<=w.cnt:=by
 rcases HM h with⟨_,_,_,hx⟩ | ⟨_,_,j,_,hkey⟩
 ·obtain⟨sw,lw,fw⟩:=w
  have:x.cnt<=AB lw:=by
   have gen:∀(l:List Vl) (v:Vl),v∈l->v.cnt<=AB l:=by
    intro l
    induction l with
    | nil=>intro v hv;cases hv
    | cons a r ih=>
     intro v hv
     unfold AB
     rcases List.mem_cons.1 hv with rfl | hv
     ·omega
     ·have:=ih v hv;omega
   exact gen lw x (List.mem_of_getElem? hx)
  rw[vcnt];omega
 ·obtain⟨j',d,_,hd1,_,hd3,_⟩:=Gk hkey
  obtain⟨sw,lw,fw⟩:=w
  have:d.cnt<=AE fw:=by
   have gen:∀(l:List Fd) (v:Fd),v∈l->v.cnt<=AE l:=by
    intro l
    induction l with
    | nil=>intro v hv;cases hv
    | cons a r ih=>
     intro v hv
     unfold AE
     rcases List.mem_cons.1 hv with rfl | hv
     ·omega
     ·have:=ih v hv;omega
   exact gen fw d (List.mem_of_getElem? hd1)
  have:d.cnt=x.cnt:=by cases d;rw[fcnt];rw[<-hd3];rfl
  rw[vcnt];omega
theorem Lz:∀{ss:List AU} {w x:Vl} {acc ks:List Int},Cu w ss acc= .ok (x,ks)->x.cnt<=w.cnt
 | [],w,x,acc,ks,h=>by rw[Cu]at h;cases h;exact Nat.le_refl _
 | s::r,w,x,acc,ks,h=>by
  rw[Cu]at h
  cases hd:Br w s with
  | error e=>rw[hd]at h;cases h
  | ok p=>
   obtain⟨y,i⟩:=p
   rw[hd]at h
   have h1:=Lz h
   have h2:=So hd
   omega
theorem aGet_ok {w:Vl} {cs:List TV} {p:TV} {ss:List AU} {st:St} (hp:CY p ss) (hok:FJ ss) (h:VlR St.zero w cs) (hN:w.sz<=2000000) (hC:A9 w=0)
  {K:Int->Bool->Bool->B8->Int->Int->Int->Int->Int->B8->TV->TV->TV->Int->St->Prop}
  (hk1:∀e,Cu w ss []= .error e->e≠0->K 0 false false [] 0 0 0 0 0 [] .nilSlice .nilSlice .nilSlice e st)
  (hk2:∀ub ul uf st' x ks,Cu w ss []= .ok (x,ks)->VlR St.zero x (AJ x.sc ub ul uf)->Am st st'->K x.sc.kind x.sc.b x.sc.neg x.sc.dg x.sc.ex x.sc.tk x.sc.td x.sc.tn x.sc.tz x.sc.text ub ul uf 0 st'):
  CallT PR FU [.agg cs,p] [.agg SG13,.one (.int .i64)] st K:=by
 have h0:=h
 obtain⟨sc,l,f⟩:=w
 obtain⟨ub,ul,uf,xl,xf,rfl,_⟩:=VlR.cells h
 refine Mj _ _ _ _ _ _ _ _ _ _ ub ul uf p st K (Rh hp (fun _=>Js ?_) fun hn=>absurd hok hn)
 refine aat_ok hp hok h0 hN (fun e he hne=>Aa rfl (Ab (fun _=>hk1 e he hne) fun g=>absurd hne g)) fun x0 x1 x2 x3 x4 x5 x6 x7 x8 x9 x10 x11 x12 x ks hx hxz hxv=>?_
 refine Aa (NV hxv) (Ab (fun g=>absurd rfl g) fun _=>?_)
 refine Jp (v:=x) hxz ?_ (VlR.keep (B9 st) hxv) fun ub' ul' uf' st' hv' o1 o2 o3 e _=>Aa (Dn o1 o2 o3) (hk2 ub' ul' uf' st' x ks hx hv' e)
 have:=Lz hx
 have:=CO hC
 omega
def BU (t:Tb) (ss:List AU):Option (Nat×List AU):=
 match ss with
 | []=>none
 | s::r=>match Ak s.2.1 t.es with
  | some (_,.opn u)=>BU u r
  | some (_,.clo _ i)=>some (i,r)
  | some (_,.lst l)=>(match r with
   | []=>none
   | s2::r2=>(match l[s2.2.2.toNat]? with
    | some u=>BU u r2
    | none=>none))
  | none=>none
termination_by ss.length
decreasing_by all_goals (simp_wf;try omega)
theorem Sd {f:List Fd} {key:B8} {x:Vl}:∀{i k:Nat},Fo f key i=some (x,k)->TG key f=some x:=by
 induction f with
 | nil=>intro i k h;cases h
 | cons d r ih=>
  intro i k h
  obtain⟨k',v⟩:=d
  rw[Fo]at h
  rw[TG]
  by_cases hk:k'=key
  ·rw[if_pos (show(Fd.mk k' v).key=key from hk)]at h
   rw[if_pos hk]
   cases h;rfl
  ·rw[if_neg (show ¬(Fd.mk k' v).key=key from hk)]at h
   rw[if_neg hk]
   exact ih h
theorem LI {t:Tb} {s:AU} {x:Vl} {i:Int} (h:Br (Ag t) s= .ok (x,i)):s.1=false/\∃eb e,Ak s.2.1 t.es=some (eb,e)/\x=AP e:=by
 rw[EU]at h
 rcases HM h with⟨hk,_⟩ | ⟨_,hb,j,_,hkey⟩
 ·exact absurd (show(7:Int)=6 from hk) (by decide)
 ·refine⟨hb,?_⟩
  have:=Sd hkey
  rw[show(Vl.mk scM [] (AM t.es)).flds=AM t.es from rfl,Pw]at this
  cases hl:Ak s.2.1 t.es with
  | none=>rw[hl]at this;cases this
  | some p=>
   obtain⟨eb,e⟩:=p
   rw[hl]at this
   exact⟨eb,e,rfl,(Option.some.inj this).symm⟩
theorem LJ {l:List Tb} {s:AU} {x:Vl} {i:Int} (h:Br (AP (.lst l)) s= .ok (x,i)):s.1=true/\∃u,l[s.2.2.toNat]? =some u/\x=Ag u:=by
 rw[AP]at h
 rcases HM h with⟨_,hb,_,hx⟩ | ⟨hk,_⟩
 ·refine⟨hb,?_⟩
  rw[show(Vl.mk scL (Bn l) []).list=Bn l from rfl,Ch,List.getElem?_map]at hx
  cases hl:l[s.2.2.toNat]? with
  | none=>rw[hl]at hx;cases hx
  | some u=>rw[hl]at hx;exact⟨u,rfl,(Option.some.inj hx).symm⟩
 ·exact absurd (show(6:Int)=7 from hk) (by decide)
def RL (v:Vl) (ss:List AU):Prop:=∃acc z,Cu v ss acc= .ok z
theorem GK {v:Vl} {s:AU} {r:List AU} (h:RL v (s::r)):∃x i,Br v s= .ok (x,i)/\RL x r:=by
 obtain⟨acc,z,h⟩:=h
 rw[Cu]at h
 cases hd:Br v s with
 | error e=>rw[hd]at h;cases h
 | ok p=>
  obtain⟨x,i⟩:=p
  rw[hd]at h
  exact⟨x,i,rfl,_,z,h⟩
theorem Gt:∀(n:Nat) {ss:List AU} {t:Tb} {i:Nat} {r:List AU},ss.length<=n->RL (Ag t) ss->(∀s,s∈ss->DH s)->BU t ss=some (i,r)->∃q:List Stp,ss=q.map sv++r/\Ht t q=(1,i)
 | n,[],t,i,r,_,_,_,h=>by rw[BU]at h;cases h
 | 0,s::ss,t,i,r,hn,_,_,_=>by simp at hn
 | n+1,s::ss,t,i,r,hn,hL,hok,h=>by
  obtain⟨x,i0,hd,hL2⟩:=GK hL
  obtain⟨hb,eb,e,hl,rfl⟩:=LI hd
  have hs:=hok s (.head _)
  have hsv:s=sv (.key s.2.1):=by
   obtain⟨s1,s2,s3⟩:=s
   have:=(hs.2 hb).1
   simp only at hb this
   rw[hb,this];rfl
  rw[List.length_cons]at hn
  obtain⟨b,m,hd0,es⟩:=t
  rw[BU]at h
  simp only[Tb.es]at hl h
  rw[hl]at h
  cases e with
  | opn u=>
   simp only at h
   rw[AP]at hL2
   obtain⟨q,h1,h2⟩:=Gt n (by omega) hL2 (fun y hy=>hok y (.tail _ hy)) h
   refine⟨.key s.2.1::q,by rw[List.map_cons,List.cons_append,<-hsv,<-h1],?_⟩
   rw[Lw,hl]
   cases q with
   | nil=>rw[Tx]at h2;cases h2
   | cons y q=>cases y with
    | key k=>exact h2
    | idx j=>rw[Ty]at h2;cases h2
  | clo v j=>
   simp only[Option.some.injEq,Prod.mk.injEq]at h
   obtain⟨rfl,rfl⟩:=h
   refine⟨[.key s.2.1],by rw[List.map_cons,List.map_nil,List.cons_append,List.nil_append,<-hsv],?_⟩
   rw[Lw,hl];rfl
  | lst l=>
   simp only at h
   cases ss with
   | nil=>cases h
   | cons s2 r2=>
    simp only at h
    obtain⟨x2,i2,hd2,hL3⟩:=GK hL2
    obtain⟨hb2,u,hu,rfl⟩:=LJ hd2
    rw[hu]at h
    simp only at h
    have hs2:=hok s2 (.tail _ (.head _))
    have hsv2:s2=sv (.idx s2.2.2.toNat):=by
     obtain⟨s1,s2,s3⟩:=s2
     have:=hs2.1 hb2
     simp only at hb2 this
     obtain⟨h5,h6,h7⟩:=this
     rw[hb2,h5]
     show(true,[],s3)=(true,[],((s3.toNat:Nat):Int))
     rw[Int.toNat_of_nonneg h6]
    rw[List.length_cons]at hn
    obtain⟨q,h1,h2⟩:=Gt n (by omega) hL3 (fun y hy=>hok y (.tail _ (.tail _ hy))) h
    refine⟨.key s.2.1:: .idx s2.2.2.toNat::q,by rw[List.map_cons,List.map_cons,List.cons_append,List.cons_append,<-hsv,<-hsv2,<-h1],?_⟩
    rw[Lw,hl]
    simp only[infoK,hu]
    exact h2
theorem BH.entAt {bb ub nodes eb i:Nat} {now:TV} {T t:Tb} {σ:Nat->TV} {st:St} {h:List Hop} {k:B8} {v:Vl} (H:BH bb ub now T nodes σ st) (hA:atT T h=some t) (hl:Ak k t.es=some (eb,.clo v i)):Ac st [] (.t (.box eb 15)) 0=some (.int .i64 i):=by
 obtain⟨cs,_,hcl,h1,_⟩:=H.ent hA hl
 simp only[Ac,h1]
 have:∀(cs:List TV) (x:TV),cs.length=13->(TV.nilPtr::TV.nilSlice::(cs++[x]))[15+0]? =some x:=fun cs x hc=>by
  show(cs++[x])[13]? =some x
  rw[List.getElem?_append_right (by omega),hc];rfl
 exact this cs _ hcl
theorem stepsT {p:TV} {ss:List AU} (h:CY p ss) {j:Nat} (hj:j<=ss.length):TVF.isLst 3 p=true/\CY (slT 3 .non p (Int.toNat (j:Int)) (TVF.lenS p)) (ss.drop j):=by
 refine⟨Rd.isLst h,?_⟩
 rw[Int.toNat_natCast]
 rcases h with⟨rfl,h1,_⟩ | ⟨tip,rfl⟩
 ·have:ss=[]:=List.eq_nil_of_length_eq_zero h1
  subst this
  refine .inl ⟨rfl,?_,?_⟩<;>simp
 ·have hl:=HE ss
  refine .inr ⟨.non,?_⟩
  show TV.list 3 .non (ss.length-j) (((ss.flatMap C4).take (ss.length*3)).drop (j*3))=_
  rw[List.take_of_length_le (by omega),List.length_drop]
  congr 1
  have:∀(ss:List AU) (j:Nat),(ss.flatMap C4).drop (j*3)=(ss.drop j).flatMap C4:=by
   intro ss
   induction ss with
   | nil=>intro j;simp
   | cons s r ih=>
    intro j
    cases j with
    | zero=>simp
    | succ j=>
     rw[List.drop_succ_cons,<-ih j,List.flatMap_cons,show(j+1)*3=3+j*3 by omega,<-List.drop_drop]
     rfl
  exact this ss j
theorem Sy {p:TV} {ss:List AU} {st:St} {K:TV->St->Prop} (h:CY p ss) (hl:ss.length<=1000000) (hk:∀v st',CY v ss->Am st st'->K v st'):CallT PR A5 [p] [.one .tv] st K:=by
 refine CT p st K (Aa (Rd.isSl h) ?_)
 have hsl:=HE ss
 rcases h with⟨rfl,h1,h2⟩ | ⟨tip,rfl⟩
 ·refine L6 (hk .nilSlice st (.inl ⟨rfl,h1,h2⟩) (Am.refl st))
 ·refine Js (Ad (x:=(ss.length,ss.flatMap C4)) rfl (Aa (MH ss) ?_))
  refine J8 (Am.refl st) rfl (Own.full _ _ _ 0 []) (by omega) (fun h0=>?_) fun v1 st1 e1 _ ho1=>?_
  ·have:ss=[]:=List.eq_nil_of_length_eq_zero h0
   rw[this];rfl
  ·rw[Nat.zero_add,List.nil_append]at ho1
   exact hk v1 st1 ho1.rd e1
noncomputable def G9 (l:List Asg) (ss:List AU):Except Int (Nat×List AU):=match Iq l with
 | .error (_,e)=> .error e
 | .ok (T,_)=>open Classical in if FJ ss then(match Cu (Ag T) ss []with
  | .error e=> .error e
  | .ok _=>match BU T ss with
   | some x=> .ok x
   | none=> .error 26)else .error 1
theorem Ju:∀(n:Nat) {ss:List AU} {t:Tb},ss.length<=n->BU (erT t) ss=BU t ss
 | n,[],t,_=>by rw[BU,BU]
 | 0,s::ss,t,hn=>by simp at hn
 | n+1,s::ss,t,hn=>by
  rw[List.length_cons]at hn
  rw[BU,BU,Px,Fv]
  rcases Ak s.2.1 t.es with _ | ⟨eb,u | l | ⟨v,i⟩⟩
  ·rfl
  ·simp only[Option.map_some,erE];exact Ju n (by omega)
  ·simp only[Option.map_some,erE]
   cases ss with
   | nil=>rfl
   | cons s2 r2=>
    simp only[Ed,List.getElem?_map]
    rw[List.length_cons]at hn
    cases l[s2.2.2.toNat]? with
    | none=>rfl
    | some u=>exact Ju n (by omega)
  ·simp only[Option.map_some,erE]
theorem PY {l:List Asg} {v p:TV} {xs:List TV} {ss:List AU} {st:St} {K:Int->TV->Int->St->Prop} (hr:Rd 16 v l.length xs) (ha:CZ l xs) (hz:DT l<=900000) (hc:∀a,a∈l->a.keys.length+a.val.cnt<=100000) (hp:CY p ss)
  (hk1:∀(i:Nat) r w st',G9 l ss= .ok (i,r)->CY w r->K i w 0 st') (hk2:∀e st',G9 l ss= .error e->e≠0->K 0 .nilSlice e st'):CallT PR DO [v,p] [.one (.int .i64),.one .tv,.one (.int .i64)] st K:=by
 refine Jw v p st K (Ot hr ha hz hc (fun bb ub T cur u σ st1 hrun hu H hN hNe hV hsz=>?_) fun i e st1 hrun he=>Ab (fun _=>hk2 e st1 (by unfold G9;rw[hrun]) (by omega)) fun h=>absurd (by omega) h)
 have hW:G9 l ss=open Classical in if FJ ss then(match Cu (Ag T) ss []with
  | .error e=> .error e
  | .ok _=>match BU T ss with
   | some x=> .ok x
   | none=> .error 26)else .error 1:=by
  unfold G9
  rw[hrun]
  simp only[JA,Ju ss.length (Nat.le_refl _)]
 refine Ab (fun h=>absurd rfl h) fun _=>Rh hp (fun hok=>Js ?_) fun hok=>L6 (hk2 1 st1 (by rw[hW,if_neg hok]) (by decide))
 rw[if_pos hok]at hW
 refine Aa rfl (Aa rfl (Ad (x:= .box T.b 0) (by simp only[Ac,Az,H.cell];rfl) ?_))
 refine J7 (Ag T).cnt T 1 (Nat.le_refl _) (by have:=CO hV;omega) H.hp.sh hN H.hp.lt fun uf st2 hv ho e2=>?_
 refine aGet_ok hp hok hv (by omega) hV (fun e he hne=>Aa rfl (Ab (fun _=>hk2 e st2 (by rw[hW,he]) hne) fun h=>absurd hne h)) fun ub3 ul3 uf3 st4 x ks hx hvx e4=>?_
 refine Aa (NV hvx) (Ab (fun h=>absurd rfl h) fun _=>?_)
 rw[hx]at hW
 simp only at hW
 have H4:=H.ext (e2.trans e4)
 have h48:=hok.1
 refine Aa rfl (Aa rfl (Ad (x:= .box T.b 0) (by simp only[Ac,Az,H4.cell];rfl) ?_))
 refine⟨fun t i u st'=>p=u/\st4=st'/\∃(j:Nat) (h:List Hop) (t':Tb),i=j/\j<=ss.length/\t= .box t'.b 0/\atT T h=some t'/\RL (Ag t') (ss.drop j)/\BU T ss=BU t' (ss.drop j),fun _ i _ _=>(ss.length-i).toNat,
  ⟨rfl,rfl,0,[],T,rfl,Nat.zero_le _,rfl,by cases T;rfl,⟨[],(x,ks),hx⟩,rfl⟩,?_⟩
 rintro _ _ _ _ ⟨rfl,rfl,j,h,t,rfl,hj,rfl,hA,hL,hwt⟩
 refine Aa (Rd.isSl hp) ?_
 rw[Rd.lenS hp]
 refine Ab (fun g=>?_) fun g=>?_
 case refine_2=>
  have hjj:j=ss.length:=by omega
  rw[hjj,List.drop_length,BU]at hwt
  exact hk2 26 st4 (by rw[hW,hwt]) (by decide)
 obtain⟨s,hs⟩:∃s,ss[j]? =some s:=⟨_,List.getElem?_eq_getElem (by omega)⟩
 have hdr:ss.drop j=s::ss.drop (j+1):=Db hs
 rw[hdr]at hL hwt
 obtain⟨y,i0,hd,hL2⟩:=GK hL
 obtain⟨hb,eb,e,hl,rfl⟩:=LI hd
 rw[BU,hl]at hwt
 rw[Ah _ (by omega) (by omega)]
 refine Aa rfl (Aa rfl (H4.ldm hA (fl3 hp rfl hs (by decide) (x:= .str s.2.1) rfl (Dw (H4.map hA fun es hes=>?_)))))
 rw[hes s.2.1,hl]
 refine Aa rfl (Aa rfl (H4.ent0 hA hl ?_))
 cases e with
 | opn u2=>
  refine Aa rfl (L6 (Aa rfl (Aa rfl (H4.ent0 hA hl ?_))))
  rw[AP]at hL2
  exact⟨⟨rfl,rfl,j+1,h++[(s.2.1,none)],u2,by omega,by omega,rfl,LW hA hl,hL2,hwt⟩,by dsimp only;omega⟩
 | clo v i=>
  refine Aa rfl (Js (Aa rfl (Aa rfl (H4.ent1 hA hl fun w hw=>Aa hw.sl ?_))))
  rw[hw.len]
  refine Ab (fun _=>?_) fun h=>absurd rfl h
  have hat:=H4.entAt hA hl
  refine Aa rfl (Aa rfl ?_)
  show Aj (Ac st4 [] (.t (.box eb 15)) 0) _
  refine Ad (x:= .int .i64 i) hat (Bh ?_)
  have hjl:j+1<=ss.length:=by omega
  obtain⟨q1,q2⟩:=stepsT hp hjl
  rw[Rd.lenS hp]at q2
  have hj1:((j:Int)+1)=((j+1:Nat):Int):=by omega
  rw[hj1]
  refine⟨⟨q1,by omega,by omega⟩,Sy q2 (by rw[List.length_drop];omega) fun v14 st6 hv6 e6=>⟨?_,?_⟩⟩
  ·show Ac st6 [] (.t (.box eb 15)) 0=_
   exact(H4.ext e6).entAt hA hl
  ·exact hk1 i _ v14 st6 (by rw[hW,hwt]) hv6
 | lst L=>
  have hne:=Ri hA hNe hl
  have hlp:0<L.length:=List.length_pos_iff.2 hne
  refine Aa rfl (Js (Aa rfl (Aa rfl (H4.ent1 hA hl fun w hw=>Aa hw.sl ?_))))
  rw[hw.len,show(JN (.lst L)).length=L.length by rw[JN,List.length_map]]
  refine Ab (fun h=>absurd h (by omega)) fun _=>Aa (Rd.isSl hp) ?_
  have hj1:((j:Int)+1)=((j+1:Nat):Int):=by omega
  rw[hj1]
  refine Ab (fun g2=>?_) fun g2=>?_
  ·obtain⟨s2,hs2⟩:∃s,ss[j+1]? =some s:=⟨_,List.getElem?_eq_getElem (by omega)⟩
   have hdr2:ss.drop (j+1)=s2::ss.drop (j+1+1):=Db hs2
   rw[hdr2]at hL2 hwt
   obtain⟨y2,i2,hd2,hL3⟩:=GK hL2
   obtain⟨hb2,u2,hu2,rfl⟩:=LJ hd2
   have hso2:=(hok.2 s2 (List.mem_of_getElem? hs2)).1 hb2
   have hlt:=(List.getElem?_eq_some_iff.1 hu2).1
   simp only[hu2]at hwt
   refine Aa rfl (Aa rfl (H4.ent1 hA hl fun w2 hw2=>fl3 hp rfl hs2 (by decide) (x:= .int .i64 s2.2.2) rfl (Bh ?_)))
   have hlz:=hw2.lenZ
   rw[show(JN (.lst L)).length=L.length by rw[JN,List.length_map]]at hlz
   refine⟨⟨hso2.2.1,by rw[hlz];omega⟩,hw2.get (x:= .box u2.b 0) ?_ ?_⟩
   ·rw[JN,List.getElem?_map,hu2];rfl
   ·rw[Ah _ (by omega) (by omega)]
    exact⟨⟨rfl,rfl,j+1+1,h++[(s.2.1,some s2.2.2.toNat)],u2,by omega,by omega,rfl,IH hA hl hu2,hL3,hwt⟩,by dsimp only;omega⟩
  ·have hje:j+1=ss.length:=by omega
   have hdd:ss.drop (j+1)=[]:=by rw[hje,List.drop_length]
   rw[hdd]at hwt
   refine⟨⟨rfl,rfl,j+1,h,t,by omega,by omega,rfl,hA,?_,?_⟩,by dsimp only;omega⟩
   ·rw[hdd];exact⟨[],(Ag t,[]),by rw[Cu]⟩
   ·rw[hdd,BU];exact hwt
section
def EsL (P:ShE->Prop) (L:List Sh):Prop:=∀s,s∈L->∀x,x∈s.es->P x.2.2
section
variable {P:ShE->Prop}
theorem EsL.app {A B:List Sh}:EsL P (A++B)↔EsL P A/\EsL P B:=
 ⟨fun h=>⟨fun s hs=>h s (List.mem_append_left _ hs),fun s hs=>h s (List.mem_append_right _ hs)⟩,fun h s hs=>(List.mem_append.1 hs).elim (h.1 s) (h.2 s)⟩
theorem EsL.cons {s:Sh} {B:List Sh}:EsL P (s::B)↔(∀x,x∈s.es->P x.2.2)/\EsL P B:=
 ⟨fun h=>⟨h s (.head _),fun x hx=>h x (.tail _ hx)⟩,fun h x hx=>(List.mem_cons.1 hx).elim (fun e=>e▸h.1) (h.2 x)⟩
theorem TJ {T t t':Tb} {h:List Hop} (hA:atT T h=some t) (hb:t'.b=t.b) (hn:EsL P (shT 1 T)) (ht:EsL P (shT (1+dpH h) t)->EsL P (shT (1+dpH h) t')):EsL P (shT 1 (AN T h t')):=by
 obtain⟨A,B,e1,e2⟩:=Hf h hA 1
 rw[e1]at hn
 rw[e2 t' hb]
 obtain⟨h1,h2⟩:=EsL.app.1 hn
 obtain⟨h3,h4⟩:=EsL.app.1 h2
 exact EsL.app.2 ⟨h1,EsL.app.2 ⟨ht h3,h4⟩⟩
theorem Ob {T t:Tb} {h:List Hop} {k:B8} {eb:Nat} {e:En} (hA:atT T h=some t) (hn:EsL P (shT 1 T)) (h0:P (shE e)) (he:EsL P (AV (1+dpH h) e)):EsL P (shT 1 (AN T h (Bb t k eb e))):=by
 refine TJ (t':=Bb t k eb e) hA rfl hn fun ht=>?_
 rw[Dm]at ht
 rw[La]
 obtain⟨h1,h2⟩:=EsL.cons.1 ht
 refine EsL.cons.2 ⟨fun x hx=>?_,EsL.app.2 ⟨h2,he⟩⟩
 rcases List.mem_append.1 hx with h3 | h3
 ·exact h1 x h3
 ·rw[List.mem_singleton.1 h3];exact h0
theorem TK {T t:Tb} {h:List Hop} {k:B8} {eb:Nat} {e x:En} (hA:atT T h=some t) (hl:Ak k t.es=some (eb,e)) (hn:EsL P (shT 1 T)) (h0:P (shE x)) (he:EsL P (AV (1+dpH h) e)->EsL P (AV (1+dpH h) x)):EsL P (shT 1 (AN T h (CN t k x))):=by
 refine TJ (t':=CN t k x) hA rfl hn fun ht=>?_
 rw[Dm]at ht
 obtain⟨P',Q,p1,p2⟩:=EX (1+dpH h) hl
 obtain⟨F,G,f1,f2⟩:=JH hl
 unfold CN
 rw[shT,p2,f2]
 obtain⟨h1,h2⟩:=EsL.cons.1 ht
 rw[p1]at h2
 obtain⟨h3,h4⟩:=EsL.app.1 h2
 obtain⟨h5,h6⟩:=EsL.app.1 h4
 refine EsL.cons.2 ⟨fun y hy=>?_,EsL.app.2 ⟨h3,EsL.app.2 ⟨he h5,h6⟩⟩⟩
 simp only at h1 hy
 rw[f1]at h1
 rcases List.mem_append.1 hy with h7 | h7
 ·exact h1 y (List.mem_append_left _ h7)
 ·rcases List.mem_cons.1 h7 with rfl | h7
  ·exact h0
  ·exact h1 y (List.mem_append_right _ (.tail _ h7))
theorem Jm (d:Nat) (nu:Nu) (hd:Bool):EsL P (shT d (AR nu hd)):=by
 rw[AR,shT,BK]
 intro s hs
 rw[List.mem_singleton.1 hs]
 intro x hx
 cases hx
theorem es_head (d:Nat) (u:Tb):EsL P (shT d u)->EsL P (shT d (Cp u)):=by
 rw[K9,Dm]
 intro h
 obtain⟨h1,h2⟩:=EsL.cons.1 h
 exact EsL.cons.2 ⟨h1,h2⟩
theorem es_hop {nu:Nu} {hd:Bool} {T T' t:Tb} {h h':List Hop} {k:B8} (hP:∀e,(∀v i,e≠ShE.clo v i)->P e) (hA:atT T h=some t) (hh:EF nu hd T h k=some (T',h')) (hn:EsL P (shT 1 T)):EsL P (shT 1 T'):=by
 unfold EF at hh
 rw[hA]at hh
 simp only at hh
 rcases hl:Ak k t.es with _ | ⟨eb,e⟩
 ·rw[hl]at hh
  simp only[Option.some.injEq,Prod.mk.injEq]at hh
  obtain⟨rfl,rfl⟩:=hh
  exact Ob hA hn (hP _ fun v i h=>by cases h) (by rw[AV];exact Jm _ _ _)
 ·rw[hl]at hh
  cases e with
  | opn u=>simp only[Option.some.injEq,Prod.mk.injEq]at hh;rw[<-hh.1];exact hn
  | lst l=>
   simp only at hh
   cases hd with
   | false=>simp at hh
   | true=>simp only[if_true,Option.some.injEq,Prod.mk.injEq]at hh;rw[<-hh.1];exact hn
  | clo v i=>simp at hh
theorem Ry {nu:Nat->Nu} {hd:Bool} (hP:∀e,(∀v i,e≠ShE.clo v i)->P e):∀(ks:List B8) (j:Nat) {T T' t:Tb} {h h':List Hop},atT T h=some t->NeL (shT 1 T)->B1 nu hd j T h ks=some (T',h')->EsL P (shT 1 T)->EsL P (shT 1 T')
 | [],j,T,T',t,h,h',hA,hn,hh,he=>by unfold B1 at hh;cases hh;exact he
 | k::ks,j,T,T',t,h,h',hA,hn,hh,he=>by
  unfold B1 at hh
  cases h1:EF (nu j) hd T h k with
  | none=>rw[h1]at hh;cases hh
  | some p=>
   obtain⟨T1,h1'⟩:=p
   rw[h1]at hh
   obtain⟨t1,hA1⟩:=(N5 hA (fun eb l=>Ri hA hn) h1).at_
   exact Ry hP ks (j+1) hA1 (QC hA h1 hn) hh (es_hop hP hA h1 he)
theorem es_step {i:Nat} {T T' u:Tb} {cur cur':List Hop} {a:Asg} (hP:∀e,(∀v i,e≠ShE.clo v i)->P e) (hPa:a.tab=false->P (.clo a.val i)) (hu:atT T cur=some u) (hne:NeL (shT 1 T)) (hs:C5 i T cur a= .ok (T',cur')) (he:EsL P (shT 1 T)):EsL P (shT 1 T'):=by
 unfold C5 DB at hs
 split at hs
 ·cases hs
 split at hs
 ·cases hs
 rename_i T1 h hh
 obtain⟨u0,hu0⟩:∃u0,atT T (if a.tab=true then []else cur)=some u0:=by
  split
  ·exact⟨T,by cases T;rfl⟩
  ·exact⟨u,hu⟩
 obtain⟨W,_⟩:=Gl _ 0 hu0 hne hh (Nat.le_refl _)
 obtain⟨t,hA⟩:=W.at_
 have h1:=Ry hP _ 0 hu0 hne hh he
 have nc:∀{e:En},(∀v i,e≠.clo v i)->P (shE e):=fun {e} hc=>hP _ fun v i h=>by
  cases e with
  | clo v' i'=>exact hc v' i' rfl
  | opn u=>cases h
  | lst l=>cases h
 unfold C8 at hs
 rw[hA]at hs
 simp only at hs
 split at hs
 ·rcases hl:Ak (a.keys.getLastD []) t.es with _ | ⟨eb,w | l | ⟨v,j⟩⟩<;>rw[hl]at hs<;>simp only[Except.ok.injEq,Prod.mk.injEq,reduceCtorEq]at hs
  ·obtain⟨rfl,rfl⟩:=hs
   exact Ob hA h1 (nc fun v i h=>by cases h) (by rw[AV,CU,CU,List.append_nil];exact Jm _ _ _)
  ·obtain⟨rfl,rfl⟩:=hs
   refine TK hA hl h1 (nc fun v i h=>by cases h) fun h2=>?_
   rw[AV]at h2⊢
   rw[Hg,CU,CU,List.append_nil]
   exact EsL.app.2 ⟨h2,Jm _ _ _⟩
 ·split at hs
  ·rcases hl:Ak (a.keys.getLastD []) t.es with _ | ⟨eb,w | l | ⟨v,j⟩⟩<;>rw[hl]at hs<;>simp only[Except.ok.injEq,Prod.mk.injEq,reduceCtorEq]at hs
   ·obtain⟨rfl,rfl⟩:=hs
    exact Ob hA h1 (nc fun v i h=>by cases h) (by rw[AV];exact Jm _ _ _)
   ·split at hs
    ·cases hs
    ·simp only[Except.ok.injEq,Prod.mk.injEq]at hs
     obtain⟨rfl,rfl⟩:=hs
     refine TK hA hl h1 (nc fun v i h=>by cases h) fun h2=>?_
     rw[AV]at h2⊢
     exact es_head _ _ h2
  ·rename_i ht
   rcases hl:Ak (a.keys.getLastD []) t.es with _ | ⟨eb,e⟩<;>rw[hl]at hs<;>simp only[Except.ok.injEq,Prod.mk.injEq,reduceCtorEq]at hs
   obtain⟨rfl,rfl⟩:=hs
   exact Ob hA h1 (hPa (by simpa using ht)) (by rw[AV];intro s hs;cases hs)
end
def CloP (l:List Asg) (e:ShE):Prop:=∀v i,e= .clo v i->∃a,l[i]? =some a/\a.tab=false/\a.val=v
theorem PW {l:List Asg}:∀(r:List Asg) (j:Nat) {T T' u:Tb} {cur cur':List Hop},l.drop j=r->atT T cur=some u->NdL (shT 1 T)->NeL (shT 1 T)->EsL (CloP l) (shT 1 T)->G8 j T cur r= .ok (T',cur')->EsL (CloP l) (shT 1 T')
 | [],j,T,T',u,cur,cur',hr,hu,hd,hn,he,h=>by rw[G8]at h;cases h;exact he
 | a::r,j,T,T',u,cur,cur',hr,hu,hd,hn,he,h=>by
  rw[G8]at h
  have hj:l[j]? =some a:=by
   have:=congrArg (fun x=>x[0]?) hr
   simp only[List.getElem?_drop,List.getElem?_cons_zero,Nat.add_zero]at this
   exact this
  cases hs:C5 j T cur a with
  | error e=>rw[hs]at h;cases h
  | ok p=>
   obtain⟨T1,cur1⟩:=p
   rw[hs]at h
   simp only at h
   split at h
   ·obtain⟨⟨u1,hu1⟩,hd1,hn1,_,_⟩:=OM hu hd hn hs
    refine PW r (j+1) ?_ hu1 hd1 hn1 (es_step (fun e hne v i h=>absurd h (hne v i)) (fun ht v i h=>?_) hu hn hs he) h
    ·have:=congrArg (List.drop 1) hr
     rw[List.drop_drop]at this
     simpa using this
    ·cases h;exact⟨a,hj,ht,rfl⟩
   ·cases h
theorem run_clo {l:List Asg} {T:Tb} {cur:List Hop} (h:Iq l= .ok (T,cur)):EsL (CloP l) (shT 1 T):=
 PW l 0 (u:=T00) (by simp) rfl (GJ 1 n0 false) (GI 1 n0 false) (Jm 1 n0 false) h
theorem Pt:∀{ss:List AU} {w x:Vl} {acc ks:List Int},Cu w ss acc= .ok (x,ks)->∀acc2,∃ks2,Cu w ss acc2= .ok (x,ks2)
 | [],w,x,acc,ks,h,acc2=>by rw[Cu]at h;cases h;exact⟨acc2,by rw[Cu]⟩
 | s::r,w,x,acc,ks,h,acc2=>by
  rw[Cu]at h⊢
  cases hd:Br w s with
  | error e=>rw[hd]at h;cases h
  | ok p=>
   obtain⟨y,i⟩:=p
   rw[hd]at h
   exact Pt h _
theorem Rv:∀{ss:List AU} {w x:Vl} {acc ks:List Int},Cu w ss acc= .ok (x,ks)->x.sz<=w.sz
 | [],w,x,acc,ks,h=>by rw[Cu]at h;cases h;exact Nat.le_refl _
 | s::r,w,x,acc,ks,h=>by
  rw[Cu]at h
  cases hd:Br w s with
  | error e=>rw[hd]at h;cases h
  | ok p=>
   obtain⟨y,i⟩:=p
   rw[hd]at h
   have h1:=Rv h
   have h2:=LL hd
   omega
theorem Ij {P:ShE->Prop}:∀(n:Nat) {ss:List AU} {t:Tb} {i d:Nat} {r:List AU} {acc:List Int} {x:Vl} {ks:List Int},ss.length<=n->EsL P (shT d t)->Cu (Ag t) ss acc= .ok (x,ks)->BU t ss=some (i,r)->∃v,P (.clo v i)/\∃ks2,Cu v r []= .ok (x,ks2)
 | n,[],t,i,d,r,acc,x,ks,_,_,_,h=>by rw[BU]at h;cases h
 | 0,s::ss,t,i,d,r,acc,x,ks,hn,_,_,_=>by simp at hn
 | n+1,s::ss,t,i,d,r,acc,x,ks,hn,hE,hg,h=>by
  rw[List.length_cons]at hn
  rw[Cu]at hg
  cases hd:Br (Ag t) s with
  | error e=>rw[hd]at hg;cases hg
  | ok p=>
   obtain⟨y,i0⟩:=p
   rw[hd]at hg
   simp only at hg
   obtain⟨hb,eb,e,hl,rfl⟩:=LI hd
   rw[BU,hl]at h
   have hmem:=Gj hl
   obtain⟨j,hj⟩:=List.getElem?_of_mem hmem
   rw[Dm]at hE
   obtain⟨hE1,hE2⟩:=EsL.cons.1 hE
   cases e with
   | opn u=>
    simp only at h
    rw[AP]at hg
    exact Ij n (by omega) (fun s hs=>hE2 s (Hh hj s (by rw[AV];exact hs))) hg h
   | clo v j'=>
    simp only[Option.some.injEq,Prod.mk.injEq]at h
    obtain⟨rfl,rfl⟩:=h
    rw[AP]at hg
    exact⟨v,hE1 (s.2.1,eb,.clo v j') (List.mem_map.2 ⟨_,hmem,rfl⟩),Pt hg []⟩
   | lst L=>
    simp only at h
    cases ss with
    | nil=>cases h
    | cons s2 r2=>
     simp only at h
     rw[Cu]at hg
     cases hd2:Br (AP (.lst L)) s2 with
     | error e=>rw[hd2]at hg;cases hg
     | ok p2=>
      obtain⟨y2,i2⟩:=p2
      rw[hd2]at hg
      simp only at hg
      obtain⟨hb2,u,hu,rfl⟩:=LJ hd2
      rw[hu]at h
      simp only at h
      rw[List.length_cons]at hn
      exact Ij n (by omega) (fun s hs=>hE2 s (Hh hj s (by rw[AV];exact Lb hu s hs))) hg h
theorem lsvalues_ok {l:List Asg} {v p:TV} {xs:List TV} {ss:List AU} (hr:Rd 16 v l.length xs) (ha:CZ l xs) (hp:CY p ss) {st:St} {K:Bool->St->Prop} (hk:∀st',K true st'):CallT PR fn_datakitlaw25_SectionValues [v,p] [.one .bool] st K:=by
 refine D3 v p st K (RV hr ha fun b hb=>Aw (fun _=>Gr hk) fun hb0=>Aa (Rd.isSl hp) ?_)
 rw[Rd.lenS hp]
 obtain⟨hl,hs⟩:=hb (by simpa using hb0)
 obtain⟨h1,h2,h3⟩:=SmA.sum hl hs
 refine Ab (fun _=>Gr hk) fun g60=>?_
 refine Nv hr ha h1 h3 (fun T cur ub ul uf st1 hrun hck hsz hv on=>Aa on ?_) fun i e st1 hrun he=>Aa rfl ?_
 case refine_2=>
  refine PY hr ha h1 h3 hp (fun i2 r w st2 hW hw=>?_) fun e2 st2 hW hne=>?_
  ·unfold G9 at hW;rw[hrun]at hW;cases hW
  ·unfold G9 at hW;rw[hrun]at hW
   have:e2=(e:Int):=by cases hW;rfl
   subst this
   refine Ab (fun _=>Ab (fun h=>absurd h (by omega)) fun _=>Ab (fun _=>Gr hk) fun h=>absurd rfl h) fun h=>absurd (by omega) h
 refine PY hr ha h1 h3 hp (fun i r w st2 hW hw=>?_) fun e st2 hW hne=>?_
 case refine_2=>
  exact Ab (fun h=>absurd rfl h) fun _=>Ab (fun _=>Ab (fun _=>Gr hk) fun h=>absurd rfl h) fun h=>absurd hne h
 refine Ab (fun h=>absurd rfl h) fun _=>Ab (fun h=>absurd rfl h) fun _=>?_
 unfold G9 at hW
 rw[hrun]at hW
 simp only at hW
 split at hW
 case isFalse=>cases hW
 rename_i hok
 split at hW
 ·cases hW
 rename_i z hget
 obtain⟨x,ks⟩:=z
 split at hW
 case h_2=>cases hW
 rename_i z2 hwt
 cases hW
 obtain⟨vv,hPc,ks2,hgv⟩:=Ij (P:=CloP l) ss.length (Nat.le_refl _) (run_clo hrun) hget hwt
 obtain⟨a,hia,htab,hval⟩:=hPc vv i rfl
 have hlt:=(List.getElem?_eq_some_iff.1 hia).1
 obtain⟨q,hq,_⟩:=Gt ss.length (Nat.le_refl _) ⟨[],_,hget⟩ hok.2 hwt
 have hrok:FJ r:=by
  refine⟨?_,fun s hs=>hok.2 s (by rw[hq];exact List.mem_append_right _ hs)⟩
  have:=congrArg List.length hq
  rw[List.length_append]at this
  have:=hok.1
  omega
 have ham:=hs a (List.mem_of_getElem? hia)
 obtain⟨kv,vc,g1,g2,g3,g4,g5,g6⟩:=ha.at_ hia
 have hlz:=hr.lenZ
 have hip:=hr.isP hlt
 refine Ab (fun h=>absurd h (by omega)) fun _=>Aa hr.isSl ?_
 rw[hr.lenS]
 refine Ab (fun h=>absurd h (by omega)) fun _=>?_
 refine⟨⟨by omega,by rw[hlz];omega⟩,Aa (by rw[Int.toNat_natCast];exact hip) (Ad (x:= .bool a.tab) (by rw[Int.toNat_natCast];exact hr.ldfx st2 i 0 g5) (DR ?_))⟩
 rw[htab]
 refine Js ?_
 refine Rg hp hok hv (by omega) (fun e st3 he _ _=>by rw[hget]at he;cases he) fun c1 d1 d2 t1 c2 c3 c4 c5 c6 t2 y1 y2 y3 st3 x' ks' hx' hxv on3 e3=>?_
 rw[hget]at hx'
 cases hx'
 refine Aa on3 ⟨⟨by omega,by rw[hlz];omega⟩,Aa (by rw[Int.toNat_natCast];exact hip) ?_⟩
 rw[Int.toNat_natCast,(SlR.of_rd (st:=st3) hr).ldcf ha.len hlt (by omega:3+13<=16),g3]
 rw[hval]at g4
 have g40:=g4
 have hvz:vv.sz<=20150:=by have:=ham.2.2.1;rw[hval]at this;exact this
 obtain⟨sv',lv',fv'⟩:=vv
 obtain⟨a1,a2,a3,_,_,rfl,_⟩:=VlR.cells g4
 refine Ad rfl (J5 ?_)
 refine Rg hw hrok g40 (by omega) (fun e st4 he _ _=>by rw[hgv]at he;cases he) fun c1' d1' d2' t1' c2' c3' c4' c5' c6' t2' y1' y2' y3' st4 x'' ks'' hx'' hxv' on4 e4=>?_
 rw[hgv]at hx''
 cases hx''
 refine Aa on4 (Ab (fun _=>Ab (fun _=>?_) fun h=>absurd rfl h) fun h=>absurd rfl h)
 have hxs:=Rv hget
 have hxc:=Lz hget
 have hcc:=CO hck
 exact S6 (v:=x) (w:=x) (by omega) (by omega) (by omega) hxv hxv' (B9 st4) fun rr st5 e5 hrr=>by rw[hrr.2 rfl];exact L6 (Gr hk)
end
end Go.TVF
