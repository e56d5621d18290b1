/- What the laws below rest on: a framework for Go programs, and contracts of the functions that they reach. -/
import Derived.Test.YtpfhcnpnngjpnaaGreatDoorGeH
set_option maxRecDepth 20000
set_option linter.unusedVariables false
set_option linter.unusedSimpArgs false
namespace Go.TVF
open Go.IntKind(i64 u8)
open Go Go.Proofs
section
open Classical in
noncomputable def DP (a q:Int) (hd ty:Bool) (v:Vl):Int:=if dOk a q=false then 1 else if B6 v≠0 then(B6 v:Int)else if FH hd v/\Fv hd ty v then 0 else 27
noncomputable def NV (a q:Int) (hd ty:Bool) (v:Vl):B8:=if DP a q hd ty v=0 then AT a (wrX a q hd ty v)else []
noncomputable def Em (a q:Int) (hd ty:Bool) (v:Vl):Int:=if DP a q hd ty v=0 then(if 1048576<(NV a q hd ty v).length then 10 else 0)else DP a q hd ty v
noncomputable def JK (a q:Int) (hd ty:Bool) (v:Vl):B8:=if Em a q hd ty v=0 then NV a q hd ty v else []
theorem Wv {a q:Int} {hd ty:Bool} {v:Vl} (h:DP a q hd ty v=0):dOk a q=true/\B6 v=0/\FH hd v/\Fv hd ty v:=by
 unfold DP at h
 by_cases h1:dOk a q=false
 ·rw[if_pos h1]at h;cases h
 rw[if_neg h1]at h
 by_cases h2:B6 v=0
 ·rw[if_neg (by omega)]at h
  split at h
  ·rename_i h3;exact⟨by simpa using h1,h2,h3⟩
  ·cases h
 ·rw[if_pos h2]at h;omega
theorem UX {a q:Int} {hd ty:Bool} {v:Vl} (h1:dOk a q=true) (h2:B6 v=0) (h3:FH hd v) (h4:Fv hd ty v):DP a q hd ty v=0:=by
 unfold DP
 rw[if_neg (by rw[h1];decide),if_neg (by omega),if_pos ⟨h3,h4⟩]
theorem Qq {a q:Int} {hd ty:Bool} {v:Vl} (h1:dOk a q=true) (h2:B6 v=0) (h3:¬(FH hd v/\Fv hd ty v)):DP a q hd ty v=27:=by
 unfold DP
 rw[if_neg (by rw[h1];decide),if_neg (by omega),if_neg h3]
section
variable {a q:Int} {hd ty:Bool} {st:St}
theorem Ut {v:Vl} {cs:List TV} (hN:v.sz<=1000000) (h:VlR St.zero v cs) {K:B8->Int->St->Prop} (hk:∀st',Al st st'->K (NV a q hd ty v) (DP a q hd ty v) st'):
  CallT PR Ga [.agg cs,.agg [.int .u8 a,.int .u8 q,.bool hd,.bool ty]] [.one .str,.one (.int .i64)] st K:=by
 have h0:=h
 obtain⟨s,l,f⟩:=v
 obtain⟨ub,ul,uf,xl,xf,rfl,_⟩:=h.cells
 unfold NV at hk
 refine R8 _ _ _ _ _ _ _ _ _ _ _ _ _ a q hd ty st K (H5 (Aj (fun g=>?_) fun g=>?_))
 ·have he:DP a q hd ty (.mk s l f)=1:=by unfold DP;rw[if_pos (by simpa using g)]
  have:=hk st (Al.refl _)
  rwa [he,if_neg (by decide)]at this
 have g:dOk a q=true:=by simpa using g
 refine U0 (v:= .mk s l f) (by omega) h0 (Dj _) fun st1 e1=>Aa (fun g1=>?_) fun g1=>?_
 ·have he:DP a q hd ty (.mk s l f)=(B6 (.mk s l f):Int):=by unfold DP;rw[if_neg (by rw[g];decide),if_pos (by omega)]
  have:=hk st1 e1
  rwa [he,if_neg (by omega)]at this
 have g1:B6 (.mk s l f)=0:=by omega
 have hV:=FF g1
 refine VU hV (by omega) h0 (fun hS st2 e2=>?_) fun hS st2 e2=>?_
 ·refine Aj (fun h=>by cases h) fun _=>ZC g hV hS hN h0 (fun hC st3 e3=>?_) fun hC st3 e3=>?_
  ·have:=hk st3 ((e1.trans e2).trans e3)
   rwa [UX g g1 hS hC,if_pos rfl]at this
  ·have:=hk st3 ((e1.trans e2).trans e3)
   rwa [Qq g g1 fun h=>hC h.2,if_neg (by decide)]at this
 ·refine Aj (fun _=>?_) fun h=>by cases h
  have:=hk st2 (e1.trans e2)
  rwa [Qq g g1 fun h=>hS h.1,if_neg (by decide)]at this
theorem ZF {v:Vl} {cs:List TV} (hN:v.sz<=1000000) (h:VlR St.zero v cs) {K:Int->St->Prop} (hk:∀st',Al st st'->K (DP a q hd ty v) st'):
  CallT PR IM [.agg cs,.agg [.int .u8 a,.int .u8 q,.bool hd,.bool ty]] [.one (.int .i64)] st K:=by
 have h0:=h
 obtain⟨s,l,f⟩:=v
 obtain⟨ub,ul,uf,xl,xf,rfl,_⟩:=h.cells
 exact Sf _ _ _ _ _ _ _ _ _ _ _ _ _ a q hd ty st K (Ut hN h0 hk)
theorem XZ {v:Vl} {cs:List TV} (hN:v.sz<=1000000) (h:VlR St.zero v cs) {K:B8->Int->St->Prop} (hk:∀st',Al st st'->K (JK a q hd ty v) (Em a q hd ty v) st'):
  CallT PR Hw [.agg cs,.agg [.int .u8 a,.int .u8 q,.bool hd,.bool ty]] [.one .str,.one (.int .i64)] st K:=by
 have h0:=h
 obtain⟨s,l,f⟩:=v
 obtain⟨ub,ul,uf,xl,xf,rfl,_⟩:=h.cells
 refine QB _ _ _ _ _ _ _ _ _ _ _ _ _ a q hd ty st K (Ut hN h0 fun st1 e1=>Aa (fun g=>Aa (fun g1=>?_) fun g1=>?_) fun g=>?_)
 ·have hw:Em a q hd ty (.mk s l f)=10:=by unfold Em;rw[if_pos g,if_pos (by omega)]
  have:=hk st1 e1
  unfold JK at this
  rwa [hw,if_neg (by decide)]at this
 ·have hw:Em a q hd ty (.mk s l f)=0:=by unfold Em;rw[if_pos g,if_neg (by omega)]
  have:=hk st1 e1
  unfold JK at this
  rw[hw,if_pos rfl]at this
  rw[g];exact this
 ·have hw:Em a q hd ty (.mk s l f)=DP a q hd ty (.mk s l f):=by unfold Em;rw[if_neg g]
  have:=hk st1 e1
  unfold JK at this
  rw[hw,if_neg g]at this
  rw[show NV a q hd ty (.mk s l f)=[] by unfold NV;rw[if_neg g]];exact this
theorem RD {v:TV} {cs:List B8} {K:B8->St->Prop} (hdo:dOk a q=true) (hr:GU TV.str v cs) (hl:Cm cs<=900000000) (hn:cs.length<=10000000) (hk:K (Bu a cs) st):
  CallT PR Cp [v,.agg [.int .u8 a,.int .u8 q,.bool hd,.bool ty]] [.one .str] st K:=by
 have d:=UC hdo
 have hab:=EF (q:=a) d.a0 (by have:=d.a1;omega)
 refine JR v a q hd ty st K ⟨fun o i u n1 n2 b1 b2 st'=>v=u/\a=n1/\q=n2/\hd=b1/\ty=b2/\st=st'/\∃k:Nat,i=k/\k<=cs.length/\o=FA a (cs.take k),fun _ i _ _ _ _ _ _=>(cs.length-i).toNat,⟨rfl,rfl,rfl,rfl,rfl,rfl,0,rfl,Nat.zero_le _,rfl⟩,?_⟩
 rintro _ _ _ _ _ _ _ _ ⟨rfl,rfl,rfl,rfl,rfl,rfl,k,rfl,hkl,rfl⟩
 have h1:=NF a (cs.take k)
 have h2:=J7 cs k
 rw[List.length_take]at h1
 refine Ab (Rd.isSl hr) ?_
 rw[Rd.lenS hr]
 refine Aa (fun g=>?_) fun g=>?_
 ·obtain⟨c,hc⟩:∃c,cs[k]? =some c:=⟨_,List.getElem?_eq_getElem (by omega)⟩
  have hs:=Q4 cs hc
  have hjt:=PV (a:=a) hc
  rw[Af _ (by omega) (by omega)]
  refine Aa (fun g1=>?_) fun g1=>?_
  ·refine Ac (HR st (UInt8.ofNat a.toNat) hab) (Ak ⟨by simp only[List.length_singleton];omega,⟨by omega,by rw[Rd.lenZ hr];omega⟩,Ac (GU.ld hr st hc) (Ak ⟨by simp only[List.length_append,List.length_singleton];omega,⟨rfl,rfl,rfl,rfl,rfl,rfl,k+1,by omega,by omega,?_⟩,by dsimp only;omega⟩)⟩)
   rw[hjt,if_neg (by omega)]
  ·have hk0:k=0:=by omega
   subst hk0
   refine⟨⟨by omega,by rw[Rd.lenZ hr];omega⟩,Ac (GU.ld hr st hc) (Ak ⟨by omega,⟨rfl,rfl,rfl,rfl,rfl,rfl,0+1,by omega,by omega,?_⟩,by dsimp only;omega⟩)⟩
   rw[hjt,if_pos rfl];rfl
 ·have:k=cs.length:=by omega
  subst this
  rw[List.take_length]at h1⊢
  refine⟨by show _+1<=_;omega,?_⟩
  rw[LM]at hk;exact hk
theorem Vr {s:Sc} {l:List Vl} {f:List Fd} (hN:(Vl.mk s l f).sz<=2000000) {key:B8} {st:St} {cs:List TV}
  {K:Int->Bool->Bool->B8->Int->Int->Int->Int->Int->B8->TV->TV->TV->Bool->St->Prop} (h:VlR St.zero (.mk s l f) cs)
  (hk:∀ub ul uf w b,Bh f key=(w,b)->VlR St.zero w (A0 w.sc ub ul uf)->K w.sc.kind w.sc.b w.sc.neg w.sc.dg w.sc.ex w.sc.tk w.sc.td w.sc.tn w.sc.tz w.sc.text ub ul uf b st):
  CallT PR Dp [.agg cs,.str key] [.agg [.int .i64,.bool,.bool,.str,.int .i64,.int .i64,.int .i64,.int .i64,.int .i64,.str,.tv,.tv,.tv],.one .bool] st K:=by
 have hsz:=szs s l f
 have hfl:=CD f
 have hke:=Dj st
 obtain⟨ub,ul,uf,xl,xf,rfl,h1,h2,h3,h4,h5⟩:=h.cells
 refine Jn _ _ _ _ _ _ _ _ _ _ _ _ _ key st K ⟨fun i y k1 b1 b2 s1 k2 k3 k4 k5 k6 s2 v1 v2 v3 k7 b3 b4 s3 k8 k9 k10 k11 k12 s4 v4 v5 v6 st'=>key=y/\uf=v3/\st=st'/\∃k:Nat,i=k/\k<=f.length/\Bh f key=Bh (f.drop k) key,
  fun i _ _ _ _ _ _ _ _ _ _ _ _ _ _ _ _ _ _ _ _ _ _ _ _ _ _ _ _=>(f.length-i).toNat,⟨rfl,rfl,rfl,0,rfl,Nat.zero_le _,rfl⟩,?_⟩
 rintro _ _ k1 b1 b2 s1 k2 k3 k4 k5 k6 s2 v1 v2 _ k7 b3 b4 s3 k8 k9 k10 k11 k12 s4 v4 v5 v6 _ ⟨rfl,rfl,rfl,k,rfl,hkf,hE⟩
 refine Ab h4.isSl (Aa (fun g=>?_) fun g=>?_)
 ·rw[h4.lenS]at g
  have gd:f[k]? =some f[k]:=List.getElem?_eq_getElem (by omega)
  generalize f[k]=d at gd
  refine PU hke h4 h5 rfl gd (Aa (fun g3=>?_) fun g3=>?_)
  ·refine WF hke h4 h5 rfl (by omega) fun k1 s1 l1 f1 ub1 ul1 uf1 gw hw on=>Ab on ?_
   rw[gd]at gw
   have:=Option.some.inj gw
   subst this
   exact hk ub1 ul1 uf1 (.mk s1 l1 f1) true (ZJ gd g3 hE) hw
  ·rw[Af _ (by omega) (by omega)]
   exact⟨⟨rfl,rfl,rfl,k+1,by omega,by omega,X5 gd g3 hE⟩,by dsimp only;omega⟩
 ·rw[h4.lenS]at g
  have hkk:k=f.length:=by omega
  rw[hkk,List.drop_length]at hE
  exact hk .nilSlice .nilSlice .nilSlice vlZ false hE (vl_leaf St.zero scZ rfl)
theorem VZ {f:List Fd} {key:B8} {w:Vl} (h:Bh f key=(w,true)):key∈f.map Fd.key/\∃d,d∈f/\d.val=w:=by
 unfold Bh at h
 split at h
 ·rename_i d hd
  have hm:=List.mem_of_find?_eq_some hd
  have hk:=List.find?_some hd
  simp only[decide_eq_true_eq]at hk
  simp only[Prod.mk.injEq,and_true]at h
  exact⟨List.mem_map.2 ⟨d,hm,hk⟩,d,hm,h⟩
 ·cases h
theorem ZL {f:List Fd} {key:B8} {w:Vl} (h:Bh f key=(w,false)):key∉f.map Fd.key:=by
 unfold Bh at h
 split at h
 ·cases h
 ·rename_i hd
  intro hm
  obtain⟨d,hd2,rfl⟩:=List.mem_map.1 hm
  have:=List.find?_eq_none.1 hd d hd2
  simp at this
theorem NE {f g:List Fd} (hf:DQ f) (hl:f.length=g.length) (h:∀d,d∈f->d.key∈g.map Fd.key):∀t,t∈g.map Fd.key->t∈f.map Fd.key:=by
 have:=Mv (f.map Fd.key) (g.map Fd.key) hf (by rw[List.length_map,List.length_map];omega) fun t ht=>by
  obtain⟨d,hd,rfl⟩:=List.mem_map.1 ht
  exact h d hd
 exact fun t ht=>this.symm.subset ht
theorem PZ {x first:Vl} {cx cf:List TV} (hx:Br x) (hf:Br first) (hzx:x.sz<=1000000) (hzf:first.sz<=1000000) (h:VlR St.zero x cx) (h':VlR St.zero first cf) {K:TV->Bool->St->Prop}
  (hk1:ShX hd first x->∀u xs st',Al st st'->Rd 13 u (A1 hd first x).length xs->VsR St.zero (A1 hd first x) xs->K u true st') (hk2:¬ShX hd first x->∀u st',Al st st'->K u false st'):
  CallT PR Ca [.agg cx,.agg cf,.agg [.int .u8 a,.int .u8 q,.bool hd,.bool ty]] [.one .tv,.one .bool] st K:=by
 have hnx:=Gq hx
 have hnf:=Gq hf
 have h0:=h
 obtain⟨s,l,f⟩:=x
 obtain⟨s',l',f'⟩:=first
 obtain⟨ub,ul,uf,xl,xf,rfl,_,h2,h3,h4,h5⟩:=h.cells
 obtain⟨ub',ul',uf',xl',xf',rfl,_,p2,p3,p4,p5⟩:=h'.cells
 have hsz:=szs s l f
 have hsz':=szs s' l' f'
 have hfl:=CD f
 have hfl':=CD f'
 replace hnx:DQ f:=hnx
 replace hnf:DQ f':=hnf
 have e0:=Al.refl st
 refine Je _ _ _ _ _ _ _ _ _ _ _ _ _ _ _ _ _ _ _ _ _ _ _ _ _ _ a q hd ty st K (Aj (fun hh=>?_) fun hh=>?_)
 ·have hh:hd=false:=by simpa using hh
  subst hh
  have iff:ShX false (.mk s' l' f') (.mk s l f)↔s.kind=6/\l≠ []/\l.length=l'.length:=⟨fun h=>h.1 rfl,fun h=>⟨fun _=>h,fun e=>by cases e⟩⟩
  refine Aa (fun g1=>Ab h2.isSl (Aa (fun g2=>Ab h2.isSl (Ab p2.isSl ?_)) fun g2=>?_)) fun g1=>?_
  ·rw[h2.lenS,p2.lenS]
   rw[h2.lenS]at g2
   by_cases g3:l.length=l'.length
   ·rw[decide_eq_true (by omega:(l.length:Int)=(l'.length:Int))]
    exact hk1 (iff.2 ⟨g1,fun e=>by rw[e]at g2;simp at g2,g3⟩) ul xl st e0 h2.zero h3
   ·rw[decide_eq_false (by omega:¬(l.length:Int)=(l'.length:Int))]
    exact hk2 (fun h=>g3 (iff.1 h).2.2) ul st e0
  ·rw[h2.lenS]at g2
   exact hk2 (fun h=>(iff.1 h).2.1 (List.eq_nil_of_length_eq_zero (by omega))) ul st e0
  ·exact hk2 (fun h=>g1 (iff.1 h).1) ul st e0
 ·have hh:hd=true:=by cases hd;exact absurd hh (by decide);rfl
  subst hh
  have iff:ShX true (.mk s' l' f') (.mk s l f)↔s.kind=7/\f≠ []/\f.length=f'.length/\∀d,d∈f->d.key∈f'.map Fd.key:=⟨fun h=>h.2 rfl,fun h=>⟨fun e=>(by cases e),fun _=>h⟩⟩
  have hcw:A1 true (.mk s' l' f') (.mk s l f)=f'.map fun d=>(Bh f d.key).1:=by unfold A1;rw[if_pos rfl];rfl
  rw[hcw]at hk1
  refine⟨fun o i n1 b1 b2 s1 n2 n3 n4 n5 n6 s2 v1 v2 v3 m1 c1 c2 t1 m2 m3 m4 m5 m6 t2 w1 w2 w3 st'=>s.kind=n1/\s.b=b1/\s.neg=b2/\s.dg=s1/\s.ex=n2/\s.tk=n3/\s.td=n4/\s.tn=n5/\s.tz=n6/\s.text=s2/\ub=v1/\ul=v2/\uf=v3/\uf'=w3/\∃(k:Nat) (xs:List TV),i=k/\k<=f'.length/\Al st st'/\Own st.nt 13 st' o k xs/\VsR St.zero ((f'.take k).map fun d=>(Bh f d.key).1) xs/\∀d,d∈f'.take k->d.key∈f.map Fd.key,
   fun _ i _ _ _ _ _ _ _ _ _ _ _ _ _ _ _ _ _ _ _ _ _ _ _ _ _ _ _=>(f'.length-i).toNat,⟨rfl,rfl,rfl,rfl,rfl,rfl,rfl,rfl,rfl,rfl,rfl,rfl,rfl,rfl,0,[],rfl,Nat.zero_le _,e0,Own.nil _ _ _,VsR.nil _,fun d hd=>by cases hd⟩,?_⟩
  rintro o _ _ _ _ _ _ _ _ _ _ _ _ _ _ m1 c1 c2 t1 m2 m3 m4 m5 m6 t2 w1 w2 _ st1 ⟨rfl,rfl,rfl,rfl,rfl,rfl,rfl,rfl,rfl,rfl,rfl,rfl,rfl,rfl,k,xs,rfl,hk,e1,hO,hxs,hin⟩
  refine Ab p4.isSl (Aa (fun g=>?_) fun g=>?_)
  ·rw[p4.lenS]at g
   have gd:f'[k]? =some f'[k]:=List.getElem?_eq_getElem (by omega)
   generalize f'[k]=d at gd
   refine PU (Dj _) p4 p5 rfl gd ?_
   refine Vr (s:=s) (l:=l) (f:=f) (by omega) h0 fun ub1 ul1 uf1 w b hb hw=>?_
   obtain⟨sw,lw,fw⟩:=w
   have on:List.all (A0 sw ub1 ul1 uf1) As=true:=by
    obtain⟨_,_,_,_,_,hc,w1,w2,_,w4,_⟩:=hw.cells
    cases hc
    exact Ey w1.zero.one w2.zero.one w4.zero.one
   refine Ab on (Aj (fun gb=>?_) fun gb=>Ab on ?_)
   ·have gb:b=false:=by simpa using gb
    subst gb
    refine hk2 (fun hs=>ZL hb ?_) _ _ e1
    obtain⟨_,_,m3,m4⟩:=iff.1 hs
    exact NE hnx m3 m4 _ (List.mem_map.2 ⟨d,AP gd,rfl⟩)
   ·have gb:b=true:=by cases b;exact absurd gb (by decide);rfl
    subst gb
    rw[Af _ (by omega) (by omega)]
    refine CJ e1 rfl hO (by omega) (fun h=>by cases h) fun v' st3 e3 _ ho=>?_
    refine⟨⟨rfl,rfl,rfl,rfl,rfl,rfl,rfl,rfl,rfl,rfl,rfl,rfl,rfl,rfl,k+1,_,by omega,by omega,e3,ho,?_,fun d' hd'=>?_⟩,by dsimp only;omega⟩
    ·rw[List.take_add_one,gd,List.map_append]
     have:(Option.some d).toList.map (fun d=>(Bh f d.key).1)=[Vl.mk sw lw fw]:=by
      show [(Bh f d.key).1]=_
      rw[hb]
     rw[this]
     exact hxs.snoc hw
    ·rw[List.take_add_one,gd]at hd'
     rcases List.mem_append.1 hd' with h | h
     ·exact hin d' h
     ·obtain rfl:d'=d:=by simpa using h
      exact(VZ hb).1
  ·rw[p4.lenS]at g
   have hkl:k=f'.length:=by omega
   subst hkl
   rw[List.take_length]at hxs hin
   refine Aa (fun g1=>Ab hO.rd.isSl (Aa (fun g2=>Ab h4.isSl (Ab hO.rd.isSl ?_)) fun g2=>?_)) fun g1=>?_
   ·rw[h4.lenS,hO.rd.lenS]
    rw[hO.rd.lenS]at g2
    by_cases g3:f.length=f'.length
    ·rw[decide_eq_true (by omega:(f.length:Int)=(f'.length:Int))]
     refine hk1 (iff.2 ⟨g1,fun e=>by rw[e]at g3;simp at g3;omega,g3,fun d hd=>?_⟩) o xs st1 e1 (by rw[List.length_map];exact hO.rd) hxs
     exact NE hnf g3.symm hin _ (List.mem_map.2 ⟨d,hd,rfl⟩)
    ·rw[decide_eq_false (by omega:¬(f.length:Int)=(f'.length:Int))]
     exact hk2 (fun h=>g3 (iff.1 h).2.2.1) o st1 e1
   ·rw[hO.rd.lenS]at g2
    refine hk2 (fun h=>?_) o st1 e1
    obtain⟨_,m2,m3,_⟩:=iff.1 h
    exact m2 (List.eq_nil_of_length_eq_zero (by omega))
   ·exact hk2 (fun h=>g1 (iff.1 h).1) o st1 e1
end
end
section
theorem Sk {a q:Int} {ty:Bool} {y:Vl} (hdo:dOk a q=true) (h:Br y):(shE a q ty y=0↔Ba ty y.sc.kind=0):=by
 refine⟨fun h=>(YK h).2.2,fun he=>?_⟩
 have hk:y.sc.kind<6:=by
  obtain⟨s,l,f⟩:=y
  have:=h.own.1.own.k7
  show s.kind<6
  replace he:Ba ty s.kind=0:=he
  unfold Ba at he
  split at he
  ·cases he
  ·omega
 obtain⟨h1,h2⟩:=O8 h hk
 unfold shE
 rw[if_neg (by rw[hdo];decide),if_neg (by rw[h1,Qk h2];decide)]
 exact he
section
variable {a q:Int} {hd ty:Bool} {st:St}
theorem RE {v:Vl} {cs:List TV} (hN:v.sz<=1000000) (h:VlR St.zero v cs) {K:Int->St->Prop} (hk:∀st',Al st st'->K (DP a q hd ty v) st'):
  CallT PR Cr [.agg cs,.agg [.int .u8 a,.int .u8 q,.bool hd,.bool ty]] [.one (.int .i64)] st K:=by
 have h0:=h
 obtain⟨s,l,f⟩:=v
 obtain⟨ub,ul,uf,xl,xf,rfl,_,h2,h3,h4,h5⟩:=h.cells
 have hsz:=szs s l f
 have hll:=Cz l
 have hk0:∀st',BB St.zero st':=Dj
 refine JU _ _ _ _ _ _ _ _ _ _ _ _ _ a q hd ty st K (LE (Aj (fun g=>?_) fun g=>?_))
 ·have he:DP a q hd ty (.mk s l f)=1:=by unfold DP;rw[if_pos (by simpa using g)]
  have:=hk st (Al.refl _)
  rwa [he]at this
 have hdo:dOk a q=true:=by simpa using g
 refine Rg (v:= .mk s l f) (by omega) h0 (Dj _) fun st1 e1=>Aa (fun g1=>?_) fun g1=>?_
 ·have he:DP a q hd ty (.mk s l f)=(B6 (.mk s l f):Int):=by unfold DP;rw[if_neg (by rw[hdo];decide),if_pos (by omega)]
  have:=hk st1 e1
  rwa [he]at this
 have g1:B6 (.mk s l f)=0:=by omega
 have hV:=FF g1
 have bad:¬(FH hd (.mk s l f)/\Fv hd ty (.mk s l f))->∀st',Al st st'->K 27 st':=fun hn st' e=>by
  have:=hk st' e
  rwa [Qq hdo g1 hn]at this
 refine Aa (fun g2=>bad (fun h=>g2 h.1.kind) _ e1) fun g2=>?_
 have hk6:s.kind=6:=Decidable.not_not.1 g2
 have hval:∀x,x∈l->Br x:=(CL hV hk6).2
 have iff:FH hd (.mk s l f)↔s.kind=6/\∀x,x∈l->ShX hd (l.headD vlZ) x:=Ng
 have hcok:Fv hd ty (.mk s l f)=∀x,x∈l->∀y,y∈A1 hd (l.headD vlZ) x->Ba ty y.sc.kind=0:=rfl
 refine⟨fun i n1 b1 b2 s1 n2 n3 n4 n5 n6 s2 v1 v2 v3 n7 n8 b3 b4 st'=>SmV s ub ul uf a q hd ty n1 b1 b2 s1 n2 n3 n4 n5 n6 s2 v1 v2 v3 n7 n8 b3 b4/\Al st st'/\∃k:Nat,i=k/\k<=l.length/\∀(j:Nat) x,j<k->l[j]? =some x->ShX hd (l.headD vlZ) x/\∀y,y∈A1 hd (l.headD vlZ) x->Ba ty y.sc.kind=0,
  fun i _ _ _ _ _ _ _ _ _ _ _ _ _ _ _ _ _ _=>(l.length-i).toNat,⟨SmV.refl ..,e1,0,rfl,Nat.zero_le _,fun j x hj=>by omega⟩,?_⟩
 rintro _ _ _ _ _ _ _ _ _ _ _ _ _ _ _ _ _ _ st2 ⟨⟨rfl,rfl,rfl,rfl,rfl,rfl,rfl,rfl,rfl,rfl,rfl,rfl,rfl,rfl,rfl,rfl,rfl⟩,e2,k,rfl,hkl,hdone⟩
 refine Ab h2.isSl (Aa (fun g3=>?_) fun g3=>?_)
 ·rw[h2.lenS]at g3
  refine LR (hk0 _) h2 h3 rfl (by omega) fun s' l' f' ub1 ul1 uf1 gx hx on=>?_
  refine LR (i:=0) (k:=0) (hk0 _) h2 h3 rfl (by omega) fun s0 l0 f0 ub0 ul0 uf0 g0 hx0 on0=>?_
  have hfirst:l.headD vlZ= .mk s0 l0 f0:=by
   cases l with
   | nil=>cases g0
   | cons y r=>simp only[List.getElem?_cons_zero,Option.some.injEq]at g0;exact g0
  rw[hfirst]at hdone iff hcok
  have hmx:=AP gx
  have hm0:=AP g0
  have hzx:=CZ hmx
  have hz0:=CZ hm0
  refine PZ (hval _ hmx) (hval _ hm0) (by omega) (by omega) hx hx0 (fun hS u xs st3 e3 hu hxs=>?_) fun hS u st3 e3=>?_
  case refine_2=>exact Aj (fun _=>bad (fun h=>hS ((iff.1 h.1).2 _ hmx)) _ (e2.trans e3)) fun h=>by cases h
  refine Aj (fun h=>by cases h) fun _=>?_
  have hcv:∀y,y∈A1 hd (.mk s0 l0 f0) (.mk s' l' f')->Br y/\y.sz<=1000000:=by
   intro y hy
   unfold A1 at hy
   cases hd with
   | false=>
    rw[if_neg (by decide)]at hy
    have h6:=(hS.1 rfl).1
    have:=CZ (l:=l') hy
    have:=szs s' l' f'
    exact⟨(CL (hval _ hmx) h6).2 y hy,by omega⟩
   | true=>
    rw[if_pos rfl]at hy
    obtain⟨d,hd,rfl⟩:=List.mem_map.1 hy
    obtain⟨m1,m2,m3,m4⟩:=hS.2 rfl
    have hk:=NE (f:=f') (g:=f0) (Gq (hval _ hmx)) m3 m4 d.key (List.mem_map.2 ⟨d,hd,rfl⟩)
    obtain⟨d',hd',he⟩:=List.mem_map.1 hk
    have hn:DQ f':=Gq (hval _ hmx)
    have hff:=NK hn hd'
    rw[he]at hff
    show Br (Bh f' d.key).1/\(Bh f' d.key).1.sz<=_
    rw[hff]
    have h7:=(En (hval _ hmx) m1).2.1 d' hd'
    have:=Uv (l:=f') hd'
    have:=szs s' l' f'
    obtain⟨k',v'⟩:=d'
    have:=szd k' v'
    exact⟨h7,by show v'.sz<=_;omega⟩
  generalize hcl0:A1 hd (.mk s0 l0 f0) (.mk s' l' f')=cl at hu hxs hcv
  have hcll:cl.length<=1000000:=by
   cases hd with
   | false=>
    have h8:cl=l':=by rw[<-hcl0];unfold A1;rw[if_neg (by decide)];rfl
    have:=Cz l'
    have:=szs s' l' f'
    rw[h8];omega
   | true=>
    have h8:cl=f0.map fun d=>(Bh f' d.key).1:=by rw[<-hcl0];unfold A1;rw[if_pos rfl];rfl
    have h9:=CD f0
    have:=szs s0 l0 f0
    rw[h8,List.length_map];omega
  refine⟨fun m i u' n1 b1 b2 s1 n2 n3 n4 n5 n6 s2 v1 v2 v3 n7 n8 b3 b4 st'=>u=u'/\(k:Int)=i/\SmV s ub ul uf a q hd ty n1 b1 b2 s1 n2 n3 n4 n5 n6 s2 v1 v2 v3 n7 n8 b3 b4/\Al st st'/\∃j:Nat,m=j/\j<=cl.length/\∀(i:Nat) y,i<j->cl[i]? =some y->Ba ty y.sc.kind=0,
   fun m _ _ _ _ _ _ _ _ _ _ _ _ _ _ _ _ _ _ _ _=>(cl.length-m).toNat,⟨rfl,rfl,SmV.refl ..,e2.trans e3,0,rfl,Nat.zero_le _,fun i y hi=>by omega⟩,?_⟩
  rintro _ _ _ _ _ _ _ _ _ _ _ _ _ _ _ _ _ _ _ _ st4 ⟨rfl,rfl,⟨rfl,rfl,rfl,rfl,rfl,rfl,rfl,rfl,rfl,rfl,rfl,rfl,rfl,rfl,rfl,rfl,rfl⟩,e4,j,rfl,hj,hsh⟩
  refine Ab hu.isSl (Aa (fun g4=>?_) fun g4=>?_)
  ·rw[hu.lenS]at g4
   refine LR (hk0 _) (.of_rd hu) hxs rfl (by omega) fun s2 l2 f2 ub2 ul2 uf2 gy hy on2=>?_
   have hmy:=AP gy
   obtain⟨hvy,hzy⟩:=hcv _ hmy
   refine RC hzy hy fun st5 e5=>Aa (fun g5=>?_) fun g5=>?_
   ·refine bad (fun h=>g5 ((Sk hdo hvy).2 ?_)) _ (e4.trans e5)
    have:=h.2
    rw[hcok]at this
    exact this _ hmx _ (by rw[hcl0];exact hmy)
   ·rw[Af _ (by omega) (by omega)]
    refine⟨⟨rfl,rfl,SmV.refl ..,e4.trans e5,j+1,by omega,by omega,fun i y hi hy'=>?_⟩,by dsimp only;omega⟩
    by_cases hij:i=j
    ·subst hij
     rw[gy]at hy'
     cases hy'
     exact(Sk hdo hvy).1 (Decidable.not_not.1 g5)
    ·exact hsh i y (by omega) hy'
  ·rw[hu.lenS]at g4
   have hjl:j=cl.length:=by omega
   subst hjl
   rw[Af _ (by omega) (by omega)]
   refine⟨⟨SmV.refl ..,e4,k+1,by omega,by omega,fun i x hi hx'=>?_⟩,by dsimp only;omega⟩
   by_cases hik:i=k
   ·subst hik
    rw[gx]at hx'
    cases hx'
    rw[hfirst]
    refine⟨hS,fun y hy=>?_⟩
    rw[hcl0]at hy
    obtain⟨p,hp⟩:=List.getElem?_of_mem hy
    exact hsh p y (List.getElem?_eq_some_iff.1 hp).1 hp
   ·rw[hfirst]
    exact hdone i x (by omega) hx'
 ·rw[h2.lenS]at g3
  have hall:∀x,x∈l->ShX hd (l.headD vlZ) x/\∀y,y∈A1 hd (l.headD vlZ) x->Ba ty y.sc.kind=0:=by
   intro x hx
   obtain⟨p,hp⟩:=List.getElem?_of_mem hx
   exact hdone p x (by have:=(List.getElem?_eq_some_iff.1 hp).1;omega) hp
  have:=hk st2 e2
  rwa [UX hdo g1 (iff.2 ⟨hk6,fun x hx=>(hall x hx).1⟩) (by rw[hcok];exact fun x hx=>(hall x hx).2)]at this
theorem VV {v:Vl} {cs:List TV} (hN:v.sz<=1000000) (h:VlR St.zero v cs) {K:B8->Int->St->Prop} (hk:∀st',Al st st'->K (JK a q hd ty v) (Em a q hd ty v) st'):
  CallT PR Dl [.agg cs,.agg [.int .u8 a,.int .u8 q,.bool hd,.bool ty]] [.one .str,.one (.int .i64)] st K:=by
 have h0:=h
 obtain⟨s,l,f⟩:=v
 obtain⟨ub,ul,uf,xl,xf,rfl,_,h2,h3,h4,h5⟩:=h.cells
 refine Jf _ _ _ _ _ _ _ _ _ _ _ _ _ a q hd ty st K (RE hN h0 fun st1 e1=>Aa (fun g=>?_) fun g=>?_)
 ·have hw:Em a q hd ty (.mk s l f)=DP a q hd ty (.mk s l f):=by unfold Em;rw[if_neg g]
  have:=hk st1 e1
  unfold JK at this
  rwa [hw,if_neg g]at this
 have hE:DP a q hd ty (.mk s l f)=0:=Decidable.not_not.1 g
 obtain⟨hdo,g1,hS,hC⟩:=Wv hE
 have d:=UC hdo
 have hV:=FF g1
 have hrl:=Q9 (a:=a) (q:=q) (ty:=ty) hV hS
 have hhl:=Rz (a:=a) (q:=q) (hd:=hd) (v:= .mk s l f)
 have hrs:=fun x hx=>Pq (a:=a) (q:=q) (ty:=ty) hV hS (x:=x) hx
 have hcv:=fun x hx=>IU hV hS (x:=x) hx
 have hcz:=fun x hx=>NQ hV hS (x:=x) hx
 have hget:=fun k x hx=>Ra (a:=a) (q:=q) (hd:=hd) (ty:=ty) (v:= .mk s l f) (k:=k) (x:=x) hx
 have hval:=(CL hV hS.kind).2
 have hwx:=Yu a q hd ty (.mk s l f)
 have hsz:=szs s l f
 have hll:=Cz l
 have hk0:∀st',BB St.zero st':=Dj
 replace hval:∀x,x∈l->Br x:=hval
 have hsx:=(Ng.1 hS).2
 replace hsx:∀x,x∈l->ShX hd (l.headD vlZ) x:=hsx
 have htl:=Md a (FX a q hd ty (.mk s l f))
 have hRl:(FX a q hd ty (.mk s l f)).length=l.length:=by unfold FX;rw[List.length_map];rfl
 have hhead:Kr a q hd (.mk s l f)=if hd=true/\l≠ []then [(l.headD vlZ).flds.map fun d=>Bb a q d.key]else []:=rfl
 generalize hR:FX a q hd ty (.mk s l f)=R at hrl hget hwx htl hRl
 generalize hH:AT a (Kr a q hd (.mk s l f))=H at hhl
 replace hrl:(AT a R).length<=206*BC l/\_:=hrl
 replace hget:∀(k:Nat) x,l[k]? =some x->R[k]? =some (HT a q hd ty (l.headD vlZ) x):=hget
 replace hrs:∀x,x∈l->Cm (HT a q hd ty (l.headD vlZ) x)<=204*x.sz/\(HT a q hd ty (l.headD vlZ) x).length<=x.sz:=hrs
 replace hcv:∀x,x∈l->∀y,y∈A1 hd (l.headD vlZ) x->Br y:=hcv
 replace hcz:∀x,x∈l->BC (A1 hd (l.headD vlZ) x)<=x.sz:=hcz
 replace hhl:H.length<=6*(Vl.mk s l f).sz/\_:=hhl
 replace hC:∀x,x∈l->∀y,y∈A1 hd (l.headD vlZ) x->Ba ty y.sc.kind=0:=hC
 refine⟨fun o i n1 b1 b2 s1 n2 n3 n4 n5 n6 s2 v1 v2 v3 n7 n8 b3 b4 st'=>SmV s ub ul uf a q hd ty n1 b1 b2 s1 n2 n3 n4 n5 n6 s2 v1 v2 v3 n7 n8 b3 b4/\Al st st'/\∃k:Nat,i=k/\k<=l.length/\o=if k=0 then []else H++AT a (R.take k),
  fun _ i _ _ _ _ _ _ _ _ _ _ _ _ _ _ _ _ _ _=>(l.length-i).toNat,⟨SmV.refl ..,e1,0,rfl,Nat.zero_le _,rfl⟩,?_⟩
 rintro o _ _ _ _ _ _ _ _ _ _ _ _ _ _ _ _ _ _ st2 ⟨⟨rfl,rfl,rfl,rfl,rfl,rfl,rfl,rfl,rfl,rfl,rfl,rfl,rfl,rfl,rfl,rfl,rfl⟩,e2,k,rfl,hkl,ho⟩
 have htk:=htl k
 refine Ab h2.isSl (Aa (fun g3=>?_) fun g3=>?_)
 ·rw[h2.lenS]at g3
  refine⟨fun o3 i3 n1 b1 b2 s1 n2 n3 n4 n5 n6 s2 v1 v2 v3 n7 n8 b3 b4 st'=>o3=H++AT a (R.take k)/\(k:Int)=i3/\SmV s ub ul uf a q hd ty n1 b1 b2 s1 n2 n3 n4 n5 n6 s2 v1 v2 v3 n7 n8 b3 b4/\Al st st',Aa (fun g4=>?_) fun g4=>?_,?_⟩
  ·have hk0':k=0:=by omega
   subst hk0'
   rw[if_pos rfl]at ho
   subst ho
   have hH0:hd=false->H=[]:=fun e=>by rw[<-hH,hhead,if_neg (by rw[e];intro h;cases h.1)];rfl
   refine Aj (fun hh=>?_) fun hh=>⟨by rw[hH0 hh];rfl,rfl,SmV.refl ..,e2⟩
   subst hh
   obtain⟨w0,g0⟩:∃w,l[0]? =some w:=⟨_,List.getElem?_eq_getElem (by omega)⟩
   obtain⟨s0,l0,f0⟩:=w0
   have hfirst:l.headD vlZ= .mk s0 l0 f0:=by
    cases l with
    | nil=>cases g0
    | cons y r=>simp only[List.getElem?_cons_zero,Option.some.injEq]at g0;exact g0
   have hm0:=AP g0
   have hz0:=CZ hm0
   have hsz0:=szs s0 l0 f0
   have hks0:=Kq f0
   obtain⟨i1,_,_,uf1,_,xf1,ld1,_,_,hf1,hfx1⟩:=ld13 h2.zero h3 (i:=0) g0
   obtain⟨_,_,_,hkv⟩:=En (hval _ hm0) ((hsx _ hm0).2 rfl).1
   replace hkv:∀d,d∈f0->U8 d.key/\d.key.length<=1024:=hkv
   replace hf1:Rd 14 uf1 f0.length xf1:=hf1
   replace hfx1:FsR St.zero f0 xf1:=hfx1
   have hH':H=Bu a (f0.map fun d=>Bb a q d.key):=by
    rw[<-hH,hhead,if_pos ⟨rfl,fun e=>by rw[e]at g0;cases g0⟩,hfirst]
    unfold AT;simp;rfl
   refine⟨fun ks n o' i' n1 b1 b2 s1 n2 n3 n4 n5 n6 s2 v1 v2 v3 n7 n8 b3 b4 st'=>[]=o'/\(0:Int)=i'/\SmV s ub ul uf a q true ty n1 b1 b2 s1 n2 n3 n4 n5 n6 s2 v1 v2 v3 n7 n8 b3 b4/\Al st2 st'/\∃j:Nat,n=(j:Int)/\j<=f0.length/\Own st2.nt 1 st' ks j (((f0.take j).map fun d=>Bb a q d.key).map TV.str),
    fun _ n _ _ _ _ _ _ _ _ _ _ _ _ _ _ _ _ _ _ _ _=>(f0.length-n).toNat,⟨rfl,rfl,SmV.refl ..,Al.refl _,0,rfl,Nat.zero_le _,Own.nil _ _ _⟩,?_⟩
   rintro ks _ _ _ _ _ _ _ _ _ _ _ _ _ _ _ _ _ _ _ _ st3 ⟨rfl,rfl,⟨rfl,rfl,rfl,rfl,rfl,rfl,rfl,rfl,rfl,rfl,rfl,rfl,rfl,rfl,rfl,rfl,rfl⟩,e3,j,rfl,hj,hO⟩
   have l1:∀st',Ad st' [] (.t (Ao (ixT 13 ul (Int.toNat 0)) 12)) 0=some uf1:=fun st'=>ld1 st' 12 uf1 rfl
   refine⟨⟨by omega,by rw[h2.lenZ];omega⟩,Ab i1 (Ac (l1 st3) (Ab hf1.isSl (Aa (fun g5=>?_) fun g5=>?_)))⟩
   ·rw[hf1.lenS]at g5
    have gd:f0[j]? =some f0[j]:=List.getElem?_eq_getElem (by omega)
    generalize f0[j]=dd at gd
    have hdd:=hkv dd (AP gd)
    refine⟨⟨by omega,by rw[h2.lenZ];omega⟩,Ab i1 (Ac (l1 st3) (PU (hk0 _) (.of_rd hf1) hfx1 rfl gd ?_))⟩
    refine Pp (by omega) fun st4 e4=>⟨l1 st4,?_⟩
    rw[Nr hdo hdd.1]
    refine CJ (e3.trans e4) rfl (hO.ext e4) (by omega) (fun h=>by cases h) fun v' st5 e5 _ ho=>?_
    rw[Af _ (by omega) (by omega)]
    refine⟨⟨rfl,rfl,SmV.refl ..,e5,j+1,by omega,by omega,?_⟩,by dsimp only;omega⟩
    rw[List.take_add_one,gd,List.map_append,List.map_append]
    exact ho
   ·rw[hf1.lenS]at g5
    have:j=f0.length:=by omega
    subst this
    rw[List.take_length]at hO
    have hrow:GU TV.str ks (f0.map fun d=>Bb a q d.key):=by
     unfold GU
     rw[List.length_map]
     exact hO.rd
    have hq:=Px a q f0
    refine RD hdo hrow (by omega) (by rw[List.length_map];omega) ⟨?_,?_,rfl,SmV.refl ..,e2.trans e3⟩
    ·show 0+(Bu a _).length<=_
     rw[<-hH'];omega
    ·show []++Bu a _=H++[]
     rw[hH'];simp
  ·have:k≠0:=by omega
   rw[if_neg this]at ho
   exact⟨ho,rfl,SmV.refl ..,e2⟩
  ·rintro _ _ _ _ _ _ _ _ _ _ _ _ _ _ _ _ _ _ _ st7 ⟨rfl,rfl,⟨rfl,rfl,rfl,rfl,rfl,rfl,rfl,rfl,rfl,rfl,rfl,rfl,rfl,rfl,rfl,rfl,rfl⟩,e7⟩
   refine LR (hk0 _) h2 h3 rfl (by omega) fun s' l' f' ub1 ul1 uf1 gx hx on=>?_
   refine LR (i:=0) (k:=0) (hk0 _) h2 h3 rfl (by omega) fun s0 l0 f0 ub0 ul0 uf0 g0 hx0 on0=>?_
   have hfirst:l.headD vlZ= .mk s0 l0 f0:=by
    cases l with
    | nil=>cases g0
    | cons y r=>simp only[List.getElem?_cons_zero,Option.some.injEq]at g0;exact g0
   have hmx:=AP gx
   have hm0:=AP g0
   have hzx:=CZ hmx
   have hz0:=CZ hm0
   have hgx:=hget k _ gx
   have hrx:=hrs _ hmx
   have hcx:=hcv _ hmx
   have hczx:=hcz _ hmx
   have hCx:=hC _ hmx
   have hSx:=hsx _ hmx
   rw[hfirst]at hgx hrx hcx hczx hCx hSx
   refine PZ (hval _ hmx) (hval _ hm0) (by omega) (by omega) hx hx0 (fun _ u xs st8 e8 hu hxs=>?_) fun hS'=>absurd hSx hS'
   have hrow:HT a q hd ty (.mk s0 l0 f0) (.mk s' l' f')=(A1 hd (.mk s0 l0 f0) (.mk s' l' f')).map fun y=>Cj a q ty y.sc:=rfl
   generalize A1 hd (.mk s0 l0 f0) (.mk s' l' f')=cl at hu hxs hcx hczx hCx hrow
   generalize HT a q hd ty (.mk s0 l0 f0) (.mk s' l' f')=row at hgx hrx hrow
   have hcll:=Cz cl
   have hrgl:row.length=cl.length:=by rw[hrow,List.length_map]
   refine⟨fun tv m o' i' u' n1 b1 b2 s1 n2 n3 n4 n5 n6 s2 v1 v2 v3 n7 n8 b3 b4 st'=>H++AT a (R.take k)=o'/\(k:Int)=i'/\u=u'/\SmV s ub ul uf a q hd ty n1 b1 b2 s1 n2 n3 n4 n5 n6 s2 v1 v2 v3 n7 n8 b3 b4/\Al st8 st'/\∃j:Nat,m=(j:Int)/\j<=cl.length/\Own st8.nt 1 st' tv j ((row.take j).map TV.str),
    fun _ m _ _ _ _ _ _ _ _ _ _ _ _ _ _ _ _ _ _ _ _ _=>(cl.length-m).toNat,⟨rfl,rfl,rfl,SmV.refl ..,Al.refl _,0,rfl,Nat.zero_le _,Own.nil _ _ _⟩,?_⟩
   rintro tv _ _ _ _ _ _ _ _ _ _ _ _ _ _ _ _ _ _ _ _ _ st9 ⟨rfl,rfl,rfl,⟨rfl,rfl,rfl,rfl,rfl,rfl,rfl,rfl,rfl,rfl,rfl,rfl,rfl,rfl,rfl,rfl,rfl⟩,e9,j,rfl,hj,hO⟩
   refine Ab hu.isSl (Aa (fun g5=>?_) fun g5=>?_)
   ·rw[hu.lenS]at g5
    refine LR (hk0 _) (.of_rd hu) hxs rfl (by omega) fun s2 l2 f2 ub2 ul2 uf2 gy hy on2=>?_
    have hmy:=AP gy
    have hzy:=CZ hmy
    have hE2:=(Sk (q:=q) hdo (hcx _ hmy)).2 (hCx _ hmy)
    have hgy:row[j]? =some (Cj a q ty s2):=by rw[hrow,List.getElem?_map,gy];rfl
    refine RC (by omega) hy fun st10 e10=>?_
    have hT:shT a q ty (.mk s2 l2 f2)=Cj a q ty s2:=by unfold shT;rw[if_pos hE2];rfl
    rw[hT]
    refine CJ (e9.trans e10) rfl (hO.ext e10) (by omega) (fun h=>by cases h) fun v' st11 e11 _ ho=>?_
    rw[Af _ (by omega) (by omega)]
    refine⟨⟨rfl,rfl,rfl,SmV.refl ..,e11,j+1,by omega,by omega,?_⟩,by dsimp only;omega⟩
    rw[List.take_add_one,hgy,List.map_append]
    exact ho
   ·rw[hu.lenS]at g5
    have:j=cl.length:=by omega
    subst this
    rw[<-hrgl,List.take_length]at hO
    have hrowR:GU TV.str tv row:=hO.rd
    have hl1:=Ny a row
    refine RD hdo hrowR (by omega) (by omega) ⟨?_,?_⟩
    ·rw[List.length_append];omega
    ·rw[Af _ (by omega) (by omega)]
     refine⟨⟨SmV.refl ..,(e7.trans e8).trans e9,k+1,by omega,by omega,?_⟩,by dsimp only;omega⟩
     rw[if_neg (by omega),Pg hgx,List.append_assoc]
 ·rw[h2.lenS]at g3
  have hkk:k=l.length:=by omega
  have ho:o=AT a (wrX a q hd ty (.mk s l f)):=by
   rw[ho,hwx,Iq,hH]
   by_cases hl0:k=0
   ·rw[if_pos hl0]
    have hl:l=[]:=List.eq_nil_of_length_eq_zero (by omega)
    have h1:R=[]:=List.eq_nil_of_length_eq_zero (by omega)
    have h2':H=[]:=by rw[<-hH,hhead,if_neg (fun h=>h.2 hl)];rfl
    rw[h1,h2'];rfl
   ·rw[if_neg hl0,hkk,<-hRl,List.take_length]
  have hTW:NV a q hd ty (.mk s l f)=o:=by unfold NV;rw[if_pos hE,ho]
  refine Aa (fun g4=>?_) fun g4=>?_
  ·have hw:Em a q hd ty (.mk s l f)=10:=by unfold Em;rw[if_pos hE,hTW,if_pos (by omega)]
   have:=hk st2 e2
   unfold JK at this
   rwa [hw,if_neg (by decide)]at this
  ·have hw:Em a q hd ty (.mk s l f)=0:=by unfold Em;rw[if_pos hE,hTW,if_neg (by omega)]
   have:=hk st2 e2
   unfold JK at this
   rwa [hw,if_pos rfl,hTW]at this
end
theorem lwritesG_ok {v:Vl} {cs:List TV} {a q:Int} {hd ty:Bool} {st:St} {K:Bool->St->Prop} (h:VlR St.zero v cs) (hk:∀st',K true st'):
  CallT PR fn_datakitlaw28_GridWrites [.agg cs,.agg [.int .u8 a,.int .u8 q,.bool hd,.bool ty]] [.one .bool] st K:=by
 have h0:=h
 obtain⟨s',l,f⟩:=v
 obtain⟨ub,ul,uf,xl,xf,rfl,_⟩:=h.cells
 refine Gp _ _ _ _ _ _ _ _ _ _ _ _ _ a q hd ty st K (Vd h0 fun b hb=>Aj (fun _=>RB fun _ _=>hk _) fun g2=>?_)
 have hz:=hb (by simpa using g2)
 refine XZ (by omega) h0 fun st1 e1=>VV (by omega) h0 fun st2 e2=>Aa (fun _=>Aa (fun _=>?_) fun g=>absurd rfl g) fun g=>absurd rfl g
 refine ZF (by omega) h0 fun st3 e3=>RE (by omega) h0 fun st4 e4=>Aa (fun _=>RB fun _ _=>hk _) fun g=>absurd rfl g
end
end Go.TVF
