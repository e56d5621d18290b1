/- What the laws below rest on: a framework for Go programs, and contracts of the functions that they reach. -/
import Derived.Test.YtpfhcnpnngjpnaaGreatDoorGgG
set_option maxRecDepth 20000
set_option linter.unusedVariables false
set_option linter.unusedSimpArgs false
namespace Go.TVF
open Go.IntKind(i64 u8)
open Go Go.Proofs
def EO (hd ty:Bool) (v:Vl):Prop:=∀x,x∈v.list->∀y,y∈AT hd (v.list.headD vlZ) x->BV ty y.sc.kind=0
theorem RU {a q:Int} {hd ty:Bool} {v:Vl} (d:NK a q) (hv:AS v) (hs:Ev hd v) (hc:EO hd ty v):∀x,x∈v.list->∀y,y∈AT hd (v.list.headD vlZ) x->ShOk a q ty y.sc (BB a q ty y.sc)/\y=A2 y.sc/\AS y:=by
 intro x hx y hy
 have hval:=(BY hv hs.kind).2
 have hvx:=hval x hx
 have hvy:AS y:=by
  unfold AT at hy
  cases hd with
  | false=>
   rw[if_neg (by decide)]at hy
   exact(BY hvx (hs.lst rfl x hx).1).2 y hy
  | true=>
   rw[if_pos rfl]at hy
   obtain⟨f,hf,rfl⟩:=List.mem_map.1 hy
   obtain⟨h1,h2,h3,h4⟩:=hs.map rfl x hx
   obtain⟨_,q2,q3,_⟩:=Cl hvx h1
   have hvf:=hval (v.list.headD vlZ) (by
    cases hl:v.list with
    | nil=>rw[hl]at hx;cases hx
    | cons a r=>exact .head _)
   have hk0:=(hs.map rfl (v.list.headD vlZ) (by
    cases hl:v.list with
    | nil=>rw[hl]at hx;cases hx
    | cons a r=>exact .head _)).1
   obtain⟨_,_,g3,_⟩:=Cl hvf hk0
   have hp:=SC q3 g3 h3 h4
   have hm:Fd.mk f.key (Dz x.flds f.key).1∈x.flds:=hp.subset (List.mem_map.2 ⟨f,hf,rfl⟩)
   exact q2 _ hm
 obtain⟨h1,h2⟩:=VE d hvy (hc x hx y hy)
 exact⟨h1,h2,hvy⟩
theorem N4 {a q:Int} {hd ty:Bool} {v f:Vl} {r:List Vl} (h:v.list=f::r):wrX a q hd ty v=(if hd then [f.flds.map fun d=>AO a q d.key]else [])++(f::r).map fun x=>(AT hd f x).map fun y=>BB a q ty y.sc:=by
 unfold wrX;rw[h]
theorem NL {a q:Int} {hd ty:Bool} {v:Vl} (h:v.list=[]):wrX a q hd ty v=[]:=by
 unfold wrX;rw[h]
theorem wr_val {a q:Int} {hd ty:Bool} {v:Vl} (d:NK a q) (hv:AS v) (hs:Ev hd v) (hc:EO hd ty v):DQ (Zu q hd ty (wrX a q hd ty v))=DQ v/\(hd=false->Zu q hd ty (wrX a q hd ty v)=v):=by
 have hok:=RU d hv hs hc
 obtain⟨he,hval⟩:=BY hv hs.kind
 cases hl:v.list with
 | nil=>
  rw[NL hl]
  have:Zu q hd ty []=v:=by rw[he,hl];rfl
  exact⟨by rw[this],fun _=>this⟩
 | cons f r=>
  rw[N4 hl]
  have hh:v.list.headD vlZ=f:=by rw[hl];rfl
  rw[hh]at hok
  cases hd with
  | false=>
   have key:Zu q false ty ((if false=true then [f.flds.map fun d=>AO a q d.key]else [])++(f::r).map fun x=>(AT false f x).map fun y=>BB a q ty y.sc)=v:=by
    conv=>rhs;rw[he,hl]
    show A7 (((f::r).map fun x=>x.list.map fun y=>BB a q ty y.sc).map fun r=>A7 ((Cm q ty r).map A2))=_
    congr 1
    rw[List.map_map]
    conv=>rhs;rw[<-List.map_id (f::r)]
    refine List.map_congr_left fun x hx=>?_
    rw[<-hl]at hx
    simp only[Function.comp_apply,id]
    rw[Q4 (l:=x.list) fun y hy=>(hok x hx y hy).1,map_leaf (l:=x.list) fun y hy=>(hok x hx y hy).2.1]
    exact(BY (hval x hx) (hs.lst rfl x hx).1).1.symm
   exact⟨by rw[key],fun _=>key⟩
  | true=>
   refine⟨?_,fun h=>by cases h⟩
   have hf:f∈v.list:=by rw[hl];exact .head _
   obtain⟨_,_,g3,_⟩:=Cl (hval f hf) (hs.map rfl f hf).1
   have hq1:=d.q1
   have hn:(f.flds.map fun d=>AO a q d.key).map (txt q)=f.flds.map Fd.key:=by
    rw[List.map_map]
    exact List.map_congr_left fun x _=>Hp d.q0 (by omega) x.key
   have hrec:∀x,x∈v.list->OT ((f.flds.map fun d=>AO a q d.key).map (txt q)) (Cm q ty ((AT true f x).map fun y=>BB a q ty y.sc))=HW (f.flds.map fun d=>Fd.mk d.key (Dz x.flds d.key).1):=by
    intro x hx
    unfold OT
    rw[hn,Q4 fun y hy=>(hok x hx y hy).1]
    congr 1
    exact zip_map Vl.sc fun d hd=>(hok x hx _ (List.mem_map.2 ⟨d,hd,rfl⟩)).2.1
   show DQ (A7 (((f::r).map fun x=>(AT true f x).map fun y=>BB a q ty y.sc).map fun r=>OT ((f.flds.map fun d=>AO a q d.key).map (txt q)) (Cm q ty r)))=_
   conv=>rhs;rw[he,hl]
   rw[OH,OH]
   congr 1
   rw[List.map_map,List.map_map]
   refine List.map_congr_left fun x hx=>?_
   rw[<-hl]at hx
   simp only[Function.comp_apply]
   rw[hrec x hx]
   obtain⟨h1,h2,h3,h4⟩:=hs.map rfl x hx
   obtain⟨q1,_,q3,_⟩:=Cl (hval x hx) h1
   rw[hh]at h3 h4
   conv=>rhs;rw[q1]
   exact VM q3 (SC q3 g3 h3 h4)
theorem wr_read {a q:Int} {hd ty:Bool} {v:Vl} (hdo:dOk a q=true) (hv:AS v) (hs:Ev hd v) (hc:EO hd ty v) (hlen:(AU a (wrX a q hd ty v)).length<=1048576) (hcnt:(wrX a q hd ty v).length+Bz (wrX a q hd ty v)<=65535):
  ∃rs,Ex (AU a (wrX a q hd ty v)) a q hd= .ok (.mk 1 [] [] rs [])/\A5 rs=wrX a q hd ty v:=by
 have d:=U2 hdo
 have hok:=RU d hv hs hc
 obtain⟨he,hval⟩:=BY hv hs.kind
 cases hl:v.list with
 | nil=>
  rw[NL hl]
  exact Xq hdo hd (W:=0) (fun r hr=>by cases hr) (show 0<=1048576 by decide) (show 0<=65535 by decide) (fun _ r hr=>by cases hr)
 | cons f r=>
  have hf:f∈v.list:=by rw[hl];exact .head _
  have hh:v.list.headD vlZ=f:=by rw[hl];rfl
  rw[hh]at hok
  have hq1:=d.q1
  have hrow:∀W,(∀x,x∈v.list->(AT hd f x).length=W)->0<W->∀x,x∈v.list->((AT hd f x).map fun y=>BB a q ty y.sc)≠ []/\((AT hd f x).map fun y=>BB a q ty y.sc).length=W/\∀c,c∈((AT hd f x).map fun y=>BB a q ty y.sc)->Hi a q c/\vlen c=c.length/\(txt q c).length<=65536:=by
   intro W hW hp x hx
   refine⟨fun h=>?_,by rw[List.length_map];exact hW x hx,fun c hc=>?_⟩
   ·have:=congrArg List.length h
    rw[List.length_map,hW x hx]at this
    simp at this;omega
   ·obtain⟨y,hy,rfl⟩:=List.mem_map.1 hc
    have:=(hok x hx y hy).1
    exact⟨this.cell,this.val,this.tlen⟩
  rw[N4 hl]at hlen hcnt⊢
  cases hd with
  | false=>
   refine Xq hdo false (W:=f.list.length) (fun r' hr=>?_) hlen hcnt (fun h=>by cases h)
   obtain⟨x,hx,rfl⟩:=List.mem_map.1 hr
   rw[<-hl]at hx
   refine hrow f.list.length (fun x hx=>?_) (List.length_pos_iff.2 (hs.lst rfl f hf).2.1) x hx
   have:=(hs.lst rfl x hx).2.2
   rwa [hh]at this
  | true=>
   obtain⟨_,_,g3,g4⟩:=Cl (hval f hf) (hs.map rfl f hf).1
   have hne:=(hs.map rfl f hf).2.1
   have hn:(f.flds.map fun d=>AO a q d.key).map (txt q)=f.flds.map Fd.key:=by
    rw[List.map_map]
    exact List.map_congr_left fun x _=>Hp d.q0 (by omega) x.key
   refine Xq hdo true (W:=f.flds.length) (fun r' hr=>?_) hlen hcnt (fun _ r' hr=>?_)
   ·rcases List.mem_cons.1 hr with rfl | hr
    ·refine⟨by simpa using hne,by rw[List.length_map],fun c hc=>?_⟩
     obtain⟨x,hx,rfl⟩:=List.mem_map.1 hc
     obtain⟨u1,u2⟩:=g4 x hx
     exact⟨Nm d _,LT d.q0 (by omega) u1,by rw[Hp d.q0 (by omega)];omega⟩
    ·obtain⟨x,hx,rfl⟩:=List.mem_map.1 hr
     rw[<-hl]at hx
     exact hrow f.flds.length (fun x _=>by unfold AT;rw[if_pos rfl,List.length_map]) (List.length_pos_iff.2 hne) x hx
   ·simp only[if_true,List.cons_append,List.nil_append,List.head?_cons,Option.some.injEq]at hr
    subst hr
    rw[hn]
    refine⟨g3,fun c hc=>?_⟩
    obtain⟨x,hx,rfl⟩:=List.mem_map.1 hc
    rw[Hp d.q0 (by omega)]
    exact(g4 x hx).2
section
abbrev KG13:=Int->Bool->Bool->B8->Int->Int->Int->Int->Int->B8->TV->TV->TV->St->Prop
def KC (K:KG13) (x:Sc) (st:St):Prop:=K x.kind x.b x.neg x.dg x.ex x.tk x.td x.tn x.tz x.text .nilSlice .nilSlice .nilSlice st
abbrev Vv:List CTy:=[.int .i64,.bool,.bool,.str,.int .i64,.int .i64,.int .i64,.int .i64,.int .i64,.str,.tv,.tv,.tv]
section
variable {a q:Int} {hd ty:Bool} {st:St}
theorem Pt {s:B8} {qd:Bool} (hl:s.length<=1000000) {K:KG13} (hk:∀st',Am st st'->KC K (CZ ty qd s) st'):
  CallT PR CN [.str s,.bool qd,.agg [.int .u8 a,.int .u8 q,.bool hd,.bool ty]] [.agg Vv] st K:=by
 have e0:=Am.refl st
 unfold CZ at hk
 refine Sf s qd a q hd ty st K (Ap (fun g=>GY s st _ (Ab (Dg rfl rfl rfl) ?_)) fun g=>Ap (fun g2=>GY s st _ (Ab (Dg rfl rfl rfl) ?_)) fun g2=>?_)
 ·have:ty=false:=by simpa using g
  rw[if_pos (.inl this)]at hk;exact hk st e0
 ·rw[if_pos (.inr g2)]at hk;exact hk st e0
 have g:ty=true:=by simpa using g
 rw[if_neg (by rw[g,g2];simp)]at hk
 have tail:s≠ []->s≠Lk->s≠Jl->CallT PR Cz [.str s] [.agg [.bool,.str,.int .i64],.one (.int .i64)] st (fun (b9:Bool) (s9:B8) (n25:Int) (n26:Int) (st5:St)=>BIf (decide (n26=(0:Int))) (CallT PR FV [(.agg [(.bool b9),(.str s9),(.int .i64 n25)])] [.agg Vv] st5 (fun (n27:Int) (b10:Bool) (b11:Bool) (s10:B8) (n28:Int) (n29:Int) (n30:Int) (n31:Int) (n32:Int) (s11:B8) (v13:TV) (v14:TV) (v15:TV) (st6:St)=>need (List.all [(.int .i64 n27),(.bool b10),(.bool b11),(.str s10),(.int .i64 n28),(.int .i64 n29),(.int .i64 n30),(.int .i64 n31),(.int .i64 n32),(.str s11),v13,v14,v15] As) (K n27 b10 b11 s10 n28 n29 n30 n31 n32 s11 v13 v14 v15 st6)))
   (CallT PR CX [.str s] [.agg [.int .i64,.int .i64,.int .i64,.int .i64],.one (.int .i64)] st5 (fun (n33:Int) (n34:Int) (n35:Int) (n36:Int) (n37:Int) (st7:St)=>BIf (decide (n37=(0:Int))) (CallT PR E5 [(.agg [(.int .i64 n33),(.int .i64 n34),(.int .i64 n35),(.int .i64 n36)])] [.agg Vv] st7 (fun (n38:Int) (b12:Bool) (b13:Bool) (s12:B8) (n39:Int) (n40:Int) (n41:Int) (n42:Int) (n43:Int) (s13:B8) (v16:TV) (v17:TV) (v18:TV) (st8:St)=>need (List.all [(.int .i64 n38),(.bool b12),(.bool b13),(.str s12),(.int .i64 n39),(.int .i64 n40),(.int .i64 n41),(.int .i64 n42),(.int .i64 n43),(.str s13),v16,v17,v18] As) (K n38 b12 b13 s12 n39 n40 n41 n42 n43 s13 v16 v17 v18 st8)))
    (CallT PR C9 [.str s] [.agg Vv] st7 (fun (n44:Int) (b14:Bool) (b15:Bool) (s14:B8) (n45:Int) (n46:Int) (n47:Int) (n48:Int) (n49:Int) (s15:B8) (v19:TV) (v20:TV) (v21:TV) (st9:St)=>need (List.all [(.int .i64 n44),(.bool b14),(.bool b15),(.str s14),(.int .i64 n45),(.int .i64 n46),(.int .i64 n47),(.int .i64 n48),(.int .i64 n49),(.str s15),v19,v20,v21] As) (K n44 b14 b15 s14 n45 n46 n47 n48 n49 s15 v19 v20 v21 st9)))))):=by
  intro h1 h2 h3
  rw[if_neg h1,if_neg h2,if_neg h3]at hk
  refine dP_ok hl ?_
  unfold KD
  generalize dcP s=d at*
  refine Aa (fun h4=>R5 _ _ _ st _ (Ab (Dg rfl rfl rfl) ?_)) fun h4=>tP_ok hl fun st1 e1=>?_
  ·rw[if_pos h4]at hk;exact hk st e0
  rw[if_neg h4]at hk
  unfold KT
  generalize tmP s=t at*
  refine Aa (fun h5=>Qd _ _ _ _ st1 _ (Ab (Dg rfl rfl rfl) ?_)) fun h5=>GY s st1 _ (Ab (Dg rfl rfl rfl) ?_)
  ·rw[if_pos h5]at hk;exact hk st1 e1
  ·rw[if_neg h5]at hk;exact hk st1 e1
 refine Aa (fun h1=>Qf st _ (Ab (Dg rfl rfl rfl) ?_)) fun h1=>Aa (fun h2=>Aa (fun _=>Ka _ st _ (Ab (Dg rfl rfl rfl) ?_)) fun h=>absurd h2 h) fun h2=>Aa (fun h3=>Ka _ st _ (Ab (Dg rfl rfl rfl) ?_)) fun h3=>tail h1 h2 h3
 ·rw[if_pos h1]at hk;exact hk st e0
 ·rw[if_neg h1,if_pos (show s=Lk from h2)]at hk
  rw[decide_eq_true h2];exact hk st e0
 ·rw[if_neg h1,if_neg (show ¬s=Lk from h2),if_pos (show s=Jl from h3)]at hk
  rw[decide_eq_false h2];exact hk st e0
end
end
section
noncomputable def shE (a q:Int) (ty:Bool) (v:Vl):Int:=if dOk a q=false then 1 else if CC v≠0 then(CC v:Int)else BV ty v.sc.kind
noncomputable def shT (a q:Int) (ty:Bool) (v:Vl):B8:=if shE a q ty v=0 then BB a q ty v.sc else []
theorem YF {a q:Int} {s:B8} (hd:dOk a q=true) (hv:vlen s=s.length):Ky a q s= .ok (AO a q s):=by
 unfold Ky
 rw[if_neg (by rw[hd];decide),if_pos hv]
section
variable {a q:Int} {hd ty:Bool} {st:St}
theorem UT {s:Sc} {ub ul uf:TV} (hdo:dOk a q=true) (hk0:0<=s.kind) (hk7:s.kind<=7) (hdec:s.kind=2->Dk s.neg s.dg s.ex) (htm:s.kind=3->DW s.tk s.td s.tn s.tz) (hu:s.kind=4->vlen s.text=s.text.length) (hl:s.text.length<=1000000)
  {K:B8->Int->St->Prop} (hk:∀st',Am st st'->K (if BV ty s.kind=0 then BB a q ty s else []) (BV ty s.kind) st'):
  CallT PR DJ [.agg (Bo s ub ul uf),.agg [.int .u8 a,.int .u8 q,.bool hd,.bool ty]] [.one .str,.one (.int .i64)] st K:=by
 have e0:=Am.refl st
 have d:=U2 hdo
 have ok:BV ty s.kind=0->∀st',Am st st'->K (BB a q ty s) 0 st':=fun he st' e=>by have:=hk st' e;rwa [if_pos he,he]at this
 have bad:BV ty s.kind=27->K [] 27 st:=fun he=>by have:=hk st e0;rwa [he,if_neg (by decide)]at this
 refine Sb _ _ _ _ _ _ _ _ _ _ _ _ _ a q hd ty st K (Ap (fun g=>Aa (fun g1=>bad ?_) fun g1=>?sw1) fun g=>?sw2)
 ·have hty:ty=false:=by simpa using g
  unfold BV;rw[if_pos (.inl ⟨hty,g1⟩)]
 case sw1 | sw2=>
  have hE:s.kind<=4->BV ty s.kind=0:=fun h4=>by
   unfold BV
   rw[if_neg]
   rintro(⟨h,h'⟩ | h)
   ·first
     | exact g1 h'
     | (rw[h]at g;cases g)
   ·omega
  have hP:∀t,s.kind≠4->plT s=t->BB a q ty s=t:=fun t h4 h=>by unfold BB;rw[if_neg h4];exact h
  refine Aa (fun k0=>?_) fun k0=>Aa (fun k1=>Ap (fun hb=>?_) fun hb=>?_) fun k1=>Aa (fun k2=>dText_ok (hdec k2) fun st1 e1=>?_) fun k2=>Aa (fun k3=>mText_ok (htm k3) fun st1 e1=>?_) fun k3=>Aa (fun k4=>?_) fun k4=>bad ?_
  ·have:=ok (hE (by omega)) st e0
   rwa [hP [] (by omega) (by unfold plT;rw[if_neg (by omega),if_neg (by omega),if_neg (by omega)])]at this
  ·have:=ok (hE (by omega)) st e0
   rwa [hP Lk (by omega) (by unfold plT;rw[if_pos k1,if_pos hb])]at this
  ·have:=ok (hE (by omega)) st e0
   rwa [hP Jl (by omega) (by unfold plT;rw[if_pos k1,if_neg (by rw[hb];decide)])]at this
  ·have:=ok (hE (by omega)) st1 e1
   rwa [hP _ (by omega) (by unfold plT;rw[if_neg (by omega),if_pos k2])]at this
  ·have:=ok (hE (by omega)) st1 e1
   rwa [hP _ (by omega) (by unfold plT;rw[if_neg (by omega),if_neg (by omega),if_pos k3])]at this
  ·have hu:=hu k4
   have ok:=ok (hE (by omega))
   have hS:BB a q ty s=if AO a q s.text=s.text/\(CZ ty false s.text).kind≠4 then Gy q s.text else AO a q s.text:=by unfold BB;rw[if_pos k4]
   refine Mq (by omega) ?_
   rw[YF hdo hu]
   refine Aa (fun h=>absurd rfl h) fun _=>Aa (fun h1=>?_) fun h1=>?_
   ·have:=ok st e0
    rwa [hS,if_neg fun h=>h1 h.1]at this
   ·have h1:AO a q s.text=s.text:=Decidable.not_not.1 h1
    show CallT PR CN [.str (AO a q s.text),.bool false,.agg [.int .u8 a,.int .u8 q,.bool hd,.bool ty]] [.agg Vv] st _
    rw[h1]
    refine Pt hl fun st1 e1=>Aa (fun h2=>?_) fun h2=>?_
    ·have:=ok st1 e1
     rwa [hS,if_neg fun h=>h.2 h2,h1]at this
    ·have hq1:=d.q1
     have hqn:=CL (q:=q) d.q0 (by omega)
     refine Ac (L9 st1 (UInt8.ofNat q.toNat) hqn) (Al ⟨by simp,Kg (s:=s.text) (by simp) (by omega) ?_⟩)
     have hdl:=JZ (UInt8.ofNat q.toNat) s.text
     unfold dbl at hdl
     refine⟨by simp only[List.length_cons,List.length_nil];omega,by simp only[List.length_append,List.length_cons,List.length_nil];omega,?_⟩
     have:=ok st1 e1
     rwa [hS,if_pos ⟨h1,h2⟩]at this
  ·unfold BV;rw[if_pos (by omega)]
theorem gShow_ok {v:Vl} (hN:v.sz<=2000000) {cs:List TV} {K:B8->Int->St->Prop} (h:VlR St.zero v cs) (hk:∀st',Am st st'->K (shT a q ty v) (shE a q ty v) st'):
  CallT PR Im [.agg cs,.agg [.int .u8 a,.int .u8 q,.bool hd,.bool ty]] [.one .str,.one (.int .i64)] st K:=by
 obtain⟨s,l,f⟩:=v
 obtain⟨ub,ul,uf,xl,xf,rfl,_⟩:=h.cells
 unfold shT at hk
 refine Se _ _ _ _ _ _ _ _ _ _ _ _ _ a q hd ty st K (HG (Ap (fun g=>?_) fun g=>?_))
 ·have he:shE a q ty (.mk s l f)=1:=by unfold shE;rw[if_pos (by simpa using g)]
  have:=hk st (Am.refl _)
  rwa [he,if_neg (by decide)]at this
 have g:dOk a q=true:=by simpa using g
 refine P8 (v:= .mk s l f) (by omega) h (Db _) fun st1 e1=>Aa (fun g1=>?_) fun g1=>?_
 ·have he:shE a q ty (.mk s l f)=(CC (.mk s l f):Int):=by unfold shE;rw[if_neg (by rw[g];decide),if_pos (by omega)]
  have:=hk st1 e1
  rwa [he,if_neg (by omega)]at this
 have g1:CC (.mk s l f)=0:=by omega
 have he:shE a q ty (.mk s l f)=BV ty s.kind:=by unfold shE;rw[if_neg (by rw[g];decide),if_neg (by omega)];rfl
 rw[he]at hk
 have ho:=(Fp g1).own.1
 have hsz:=szs s l f
 refine UT g ho.own.k0 ho.own.k7 (fun _=>ho.dec) ho.time (fun _=>ho.text) (by have:=ho.tlen;omega) fun st2 e2=>?_
 exact hk st2 (e1.trans e2)
end
end
section
structure W6 (a q:Int) (rs:List Nd) (W:Nat):Prop where
 form:∀r,r∈rs->RecF a q r
 wid:∀r,r∈rs->(Au r).length=W
 len:∀r,r∈rs->∀k,k∈Au r->(txt q (AL k)).length<=65536/\(AL k).length<=2000000
 cnt:rs.length<=2000000
 wlen:W<=10000000
def Cb (q:Int) (hd ty:Bool):List (List B8)->List Vl
 | []=>[]
 | h::t=>if hd then t.map fun r=>OT (h.map (txt q)) (Cm q ty r)else(h::t).map fun r=>A7 ((Cm q ty r).map A2)
theorem valX_eq (q:Int) (hd ty:Bool) (l:List (List B8)):Zu q hd ty l=A7 (Cb q hd ty l):=by
 cases l with
 | nil=>rfl
 | cons h t=>cases hd<;>rfl
theorem F8 (q:Int) (ty:Bool) (l:List (List B8)):Cb q false ty l=l.map fun r=>A7 ((Cm q ty r).map A2):=by
 cases l<;>rfl
theorem Ov {q:Int} {ty:Bool} {l:List (List B8)} {j:Nat} {row:List B8} (h:l[j]? =some row):Cb q false ty (l.take (j+1))=Cb q false ty (l.take j)++[A7 ((Cm q ty row).map A2)]:=by
 rw[F8,F8,List.take_add_one,h,List.map_append];rfl
theorem TG (q:Int) (ty:Bool) (l:List (List B8)):Cb q true ty (l.take 1)=[]:=by
 cases l<;>rfl
theorem Ou {q:Int} {ty:Bool} {l:List (List B8)} {j:Nat} {row h0:List B8} (h:l[j]? =some row) (hj:0<j) (h1:l[0]? =some h0):Cb q true ty (l.take (j+1))=Cb q true ty (l.take j)++[OT (h0.map (txt q)) (Cm q ty row)]:=by
 cases l with
 | nil=>cases h1
 | cons x t=>
  obtain⟨i,rfl⟩:∃i,j=i+1:=⟨j-1,by omega⟩
  simp only[List.getElem?_cons_zero,Option.some.injEq]at h1
  subst h1
  simp only[List.getElem?_cons_succ]at h
  show(t.take (i+1)).map _=(t.take i).map _++_
  rw[List.take_add_one,h,List.map_append];rfl
theorem HQ.ldA {α:Type} {f:α->TV} {v:TV} {rows:List (List α)} (h:HQ f v rows) {i:Nat} {row:List α} (hr:rows[i]? =some row):∃u,(∀st,Ad st [] (.t (ixT 1 v i)) 0=some u)/\J6 f u row:=by
 obtain⟨vs,h1,h2,h3⟩:=h
 have hlt:i<vs.length:=by rw[h2];exact(List.getElem?_eq_some_iff.1 hr).1
 have hu:=List.getElem?_eq_getElem hlt
 exact⟨vs[i],fun st=>Rd.ldx h1 st i 0 (by rw[Nat.mul_one,Nat.add_zero];exact hu),h3 i _ row hu hr⟩
theorem R3 (s:Sc) (h:s.bytes=[]):VlR St.zero (A2 s) (Bo s .nilSlice .nilSlice .nilSlice):=vlLeaf St.zero s h
theorem KW {l:List Vl} {u:TV} {xs:List TV} (h:Rd 13 u l.length xs) (hv:VsR St.zero l xs):VlR St.zero (A7 l) (Bo (scW 6) .nilSlice u .nilSlice):=by
 unfold A7 VlR
 exact⟨_,_,_,xs,[],rfl,.of_rd (.inl ⟨rfl,rfl,rfl⟩),.of_rd h,hv,.of_rd (.inl ⟨rfl,rfl,rfl⟩),by unfold FsR;rfl⟩
theorem vr_map {f:List Fd} {u:TV} {xs:List TV} (h:Rd 14 u f.length xs) (hv:FsR St.zero f xs):VlR St.zero (HW f) (Bo (scW 7) .nilSlice .nilSlice u):=by
 unfold HW VlR
 exact⟨_,_,_,[],xs,rfl,.of_rd (.inl ⟨rfl,rfl,rfl⟩),.of_rd (.inl ⟨rfl,rfl,rfl⟩),by unfold VsR;rfl,.of_rd h,hv⟩
theorem Uj {q:Int} {ty:Bool} {ks:List Nd} {m:Nat} {k:Nd} (h:ks[m]? =some k):(Cm q ty (ks.map AL))[m]? =some (CZ ty (BL q (AL k)) (txt q (AL k))):=by
 unfold Cm
 rw[List.getElem?_map,List.getElem?_map,h];rfl
theorem Do (q:Int) (ty:Bool) (l:List B8):(Cm q ty l).length=l.length:=by unfold Cm;rw[List.length_map]
theorem Yk {q:Int} {ty:Bool} {ks:List Nd} {m:Nat} {k:Nd} (h:ks[m]? =some k):((Cm q ty (ks.map AL)).take (m+1)).map A2=((Cm q ty (ks.map AL)).take m).map A2++[A2 (CZ ty (BL q (AL k)) (txt q (AL k)))]:=by
 rw[List.take_add_one,Uj h,List.map_append];rfl
def Gw (names:List B8) (row:List Sc):List Fd:=List.zipWith (fun k s=>Fd.mk k (A2 s)) names row
theorem Yl {names:List B8} {row:List Sc} {m:Nat} {nm:B8} {s:Sc} (h1:names[m]? =some nm) (h2:row[m]? =some s):Gw (names.take (m+1)) (row.take (m+1))=Gw (names.take m) (row.take m)++[Fd.mk nm (A2 s)]:=by
 unfold Gw
 rw[<-List.take_zipWith,<-List.take_zipWith,List.take_add_one]
 congr 1
 rw[List.getElem?_zipWith,h1,h2];rfl
section
variable {a q:Int} {hd ty:Bool} {st:St}
theorem MF {n:Nd} {cs:List TV} (hc:NdC n cs) (hl:DS n<=100000000000000) (hcn:ES n<=1000000000000000) (ht:Hy n a q hd->∃W,W6 a q (Mo n) W) {K:Int->Bool->Bool->B8->Int->Int->Int->Int->Int->B8->TV->TV->TV->Int->St->Prop}
  (hk1:¬Hy n a q hd->∀st',Am st st'->K 0 false false [] 0 0 0 0 0 [] .nilSlice .nilSlice .nilSlice 1 st')
  (hk2:Hy n a q hd->∀u xs st',Am st st'->Rd 13 u (Cb q hd ty (A5 (Mo n))).length xs->VsR St.zero (Cb q hd ty (A5 (Mo n))) xs->K 6 false false [] 0 0 0 0 0 [] .nilSlice u .nilSlice 0 st'):
  CallT PR Fb [.agg cs,.agg [.int .u8 a,.int .u8 q,.bool hd,.bool ty]] [.agg Vv,.one (.int .i64)] st K:=by
 have w1:∀k:Nat,k<=100000000->i64.wrap ((k:Int)+1)=((k+1:Nat):Int):=fun k hk=>by rw[Ai _ (by omega) (by omega)];omega
 have tn:∀k:Nat,Int.toNat (k:Int)=k:=fun k=>rfl
 obtain⟨kd,t0,t1,kv,tl,rfl,_⟩:=hc.five
 refine Qo kd t0 t1 kv tl a q hd ty st K (Uw hc hl hcn fun v1 st1 e1 g1=>?_)
 by_cases ho:Hy n a q hd
 case neg=>
  have he:Ki n a q hd=1:=by unfold Ki;rw[if_neg ho]
  rw[he]
  exact Aa (fun _=>hk1 ho st1 e1) fun h=>absurd (by decide) h
 have he:Ki n a q hd=0:=by unfold Ki;rw[if_pos ho]
 have hg:∀{α:Type} (g:B8->α),GO g n a q hd=DU g (Mo n):=fun g=>by unfold GO;rw[if_pos ho]
 rw[he]
 refine Aa (fun h=>absurd rfl h) fun _=>V3 hc hl hcn fun v2 st2 e2 g2=>?_
 rw[hg]at g1 g2
 obtain⟨W,hT⟩:=ht ho
 clear ht
 have hk2:=hk2 ho
 generalize hrs:Mo n=rs at*
 have e12:=e1.trans e2
 have hcnt:=hT.cnt
 have hwl:=hT.wlen
 obtain⟨vs1,hr1⟩:=g1.rd
 obtain⟨vs2,hr2⟩:=g2.rd
 have hL:∀{α:Type} (g:B8->α),(DU g rs).length=rs.length:=fun g=>by unfold DU;rw[List.length_map]
 rw[hL]at hr1 hr2
 have hget:∀{α:Type} (g:B8->α) {j:Nat} {r:Nd},rs[j]? =some r->(DU g rs)[j]? =some ((Au r).map fun k=>g (AL k)):=fun g j r h=>by unfold DU;rw[List.getElem?_map,h];rfl
 have hraw:∀{j:Nat} {r:Nd},rs[j]? =some r->(A5 rs)[j]? =some ((Au r).map AL):=fun {j r} h=>by unfold A5;rw[List.getElem?_map,h];rfl
 have hrawl:(A5 rs).length=rs.length:=by unfold A5;rw[List.length_map]
 refine Ab hr1.isSl ?_
 refine⟨fun zn zr zq zv zm c1 c2 b1 b2 kA boA ngA dgA exA tkA tdA tnA tzA txA u0A u1A u2A kB boB ngB dgB exB tkB tdB tnB tzB txB u0B u1B u2B st'=>v1=zr/\v2=zq/\v1=zv/\(rs.length:Int)=zm/\a=c1/\q=c2/\hd=b1/\ty=b2/\6=kB/\false=boB/\false=ngB/\[]=dgB/\0=exB/\0=tkB/\0=tdB/\0=tnB/\0=tzB/\[]=txB/\.nilSlice=u0B/\.nilSlice=u2B/\Am st2 st'/\∃j:Nat,zn=(j:Int)/\j<=rs.length/\∃xs,Own st2.nt 13 st' u1B (Cb q hd ty ((A5 rs).take j)).length xs/\VsR St.zero (Cb q hd ty ((A5 rs).take j)) xs,
  fun n _ _ _ _ _ _ _ _ _ _ _ _ _ _ _ _ _ _ _ _ _ _ _ _ _ _ _ _ _ _ _ _ _ _ _=>(rs.length-n).toNat,⟨rfl,rfl,rfl,by rw[hr1.lenS],rfl,rfl,rfl,rfl,rfl,rfl,rfl,rfl,rfl,rfl,rfl,rfl,rfl,rfl,rfl,rfl,Am.refl _,0,rfl,Nat.zero_le _,[],by rw[List.take_zero];exact Own.nil _ _ _,by rw[List.take_zero];exact VsR.nil _⟩,?_⟩
 rintro _ _ _ _ _ _ _ _ _ kA boA ngA dgA exA tkA tdA tnA tzA txA u0A u1A u2A _ _ _ _ _ _ _ _ _ _ _ vB _ st3 ⟨rfl,rfl,rfl,rfl,rfl,rfl,rfl,rfl,rfl,rfl,rfl,rfl,rfl,rfl,rfl,rfl,rfl,rfl,rfl,rfl,e3,j,rfl,hj,xs,hB,hBv⟩
 rw[tn]
 refine Aa (fun g=>?_) fun g=>?_
 case refine_2=>
  have hjl:(A5 rs).take j=A5 rs:=List.take_of_length_le (by omega)
  rw[hjl]at hB hBv
  refine Ab (Dg rfl hB.rd.one rfl) (hk2 _ xs _ (e12.trans e3) hB.rd hBv)
 have hjlt:j<rs.length:=by omega
 obtain⟨r,hjr⟩:∃r,rs[j]? =some r:=⟨_,List.getElem?_eq_getElem hjlt⟩
 have hmem:=List.mem_of_getElem? hjr
 have hwid:=hT.wid r hmem
 obtain⟨uj,hlj,rj⟩:=g1.ldA (hget (txt q) hjr)
 obtain⟨qj,hlq,rq⟩:=g2.ldA (hget (BL q) hjr)
 have hrjl:=Rd.lenS rj
 have hrjz:=Rd.lenZ rj
 have hrqz:=Rd.lenZ rq
 rw[List.length_map,hwid]at hrjl hrjz hrqz
 refine⟨⟨by omega,by rw[hr1.lenZ];omega⟩,Ac (hlj _) (Ap (fun hh=>Ab (Rd.isSl rj) ?_) fun hh=>Aa (fun g0=>Ab (Rd.isSl rj) ?_) fun g0=>?_)⟩
 ·have hhd:hd=false:=by simpa using hh
  subst hhd
  refine⟨fun zn zr zq zi zv zm n5 v3 n6 c1 c2 b7 b8 kA boA ngA dgA exA tkA tdA tnA tzA txA u0A u1A u2A kB boB ngB dgB exB tkB tdB tnB tzB txB u0B u1B u2B kC boC ngC dgC exC tkC tdC tnC tzC txC u0C u1C u2C st'=>v1=zr/\v2=zq/\(j:Int)=zi/\v1=zv/\(rs.length:Int)=zm/\(j:Int)=n5/\uj=v3/\(W:Int)=n6/\a=c1/\q=c2/\false=b7/\ty=b8/\6=kB/\false=boB/\false=ngB/\[]=dgB/\0=exB/\0=tkB/\0=tdB/\0=tnB/\0=tzB/\[]=txB/\.nilSlice=u0B/\.nilSlice=u2B/\vB=u1B/\6=kC/\false=boC/\false=ngC/\[]=dgC/\0=exC/\0=tkC/\0=tdC/\0=tnC/\0=tzC/\[]=txC/\.nilSlice=u0C/\.nilSlice=u2C/\Am st3 st'/\∃m':Nat,zn=(m':Int)/\m'<=W/\∃ys,Own st3.nt 13 st' u1C m' ys/\VsR St.zero (((Cm q ty ((Au r).map AL)).take m').map A2) ys,
   fun n _ _ _ _ _ _ _ _ _ _ _ _ _ _ _ _ _ _ _ _ _ _ _ _ _ _ _ _ _ _ _ _ _ _ _ _ _ _ _ _ _ _ _ _ _ _ _ _ _ _ _ _=>(W-n).toNat,⟨rfl,rfl,rfl,rfl,rfl,rfl,rfl,by rw[hrjl],rfl,rfl,rfl,rfl,rfl,rfl,rfl,rfl,rfl,rfl,rfl,rfl,rfl,rfl,rfl,rfl,rfl,rfl,rfl,rfl,rfl,rfl,rfl,rfl,rfl,rfl,rfl,rfl,rfl,Am.refl _,0,rfl,Nat.zero_le _,[],Own.nil _ _ _,by rw[List.take_zero];exact VsR.nil _⟩,?_⟩
  rintro _ _ _ _ _ _ _ _ _ _ _ _ _ kA boA ngA dgA exA tkA tdA tnA tzA txA u0A u1A u2A _ _ _ _ _ _ _ _ _ _ _ _ _ _ _ _ _ _ _ _ _ _ _ _ vC _ st4 ⟨rfl,rfl,rfl,rfl,rfl,rfl,rfl,rfl,rfl,rfl,rfl,rfl,rfl,rfl,rfl,rfl,rfl,rfl,rfl,rfl,rfl,rfl,rfl,rfl,rfl,rfl,rfl,rfl,rfl,rfl,rfl,rfl,rfl,rfl,rfl,rfl,rfl,e4,m,rfl,hm,ys,hC,hCv⟩
  rw[tn,tn]
  refine Aa (fun g=>?_) fun g=>?_
  ·have hmlt:m<(Au r).length:=by omega
   obtain⟨k,hkm⟩:∃k,(Au r)[m]? =some k:=⟨_,List.getElem?_eq_getElem hmlt⟩
   have hkl:=hT.len r hmem k (List.mem_of_getElem? hkm)
   have l1:=J6.ld rj st4 (i:=m) (a:=txt q (AL k)) (by rw[List.getElem?_map,hkm];rfl)
   have l2:=J6.ld rq st4 (i:=m) (a:=BL q (AL k)) (by rw[List.getElem?_map,hkm];rfl)
   refine⟨⟨by omega,by rw[hrjz];omega⟩,Ac l1 (Al ⟨⟨by omega,by rw[hr2.lenZ];omega⟩,Ac (hlq _) ⟨⟨by omega,by rw[hrqz];omega⟩,Ac l2 (Aq ?_)⟩⟩)⟩
   refine Pt (by omega) fun st5 e5=>⟨hlq _,Ab (Dg rfl rfl rfl) ?_⟩
   have hcb:=JC ty (BL q (AL k)) (txt q (AL k))
   refine Fs (e4.trans e5) rfl (hC.ext e5) (by omega) (fun h=>by cases h) fun v' st6 e6 _ ho'=>Ab (List.all_eq_true.2 fun x hx=>by rw[List.mem_singleton.1 hx];exact ho'.rd.one) ?_
   rw[w1 m (by omega)]
   refine⟨⟨rfl,rfl,rfl,rfl,rfl,rfl,rfl,rfl,rfl,rfl,rfl,rfl,rfl,rfl,rfl,rfl,rfl,rfl,rfl,rfl,rfl,rfl,rfl,rfl,rfl,rfl,rfl,rfl,rfl,rfl,rfl,rfl,rfl,rfl,rfl,rfl,rfl,e6,m+1,rfl,by omega,_,ho',?_⟩,by dsimp only;omega⟩
   rw[Yk hkm]
   exact hCv.snoc (R3 _ hcb)
  ·have hmW:m=W:=by omega
   subst hmW
   have hfull:(Cm q ty ((Au r).map AL)).take (Au r).length=Cm q ty ((Au r).map AL):=List.take_of_length_le (by rw[Do,List.length_map];omega)
   rw[<-hwid]at hC hCv
   rw[hfull]at hCv
   have hx:VlR St.zero (A7 ((Cm q ty ((Au r).map AL)).map A2)) (Bo (scW 6) .nilSlice vC .nilSlice):=KW (by rw[List.length_map,Do,List.length_map];exact hC.rd) hCv
   refine Ab (Dg rfl hC.rd.one rfl) ?_
   have hlen:(Cb q false ty ((A5 rs).take j)).length<=2000000:=by rw[F8,List.length_map,List.length_take];omega
   refine Fs (e3.trans e4) rfl (hB.ext e4) (by omega) (fun h=>by cases h) fun v' st6 e6 _ ho'=>Ab (List.all_eq_true.2 fun x hx=>by rw[List.mem_singleton.1 hx];exact ho'.rd.one) ?_
   rw[w1 j (by omega)]
   refine⟨⟨rfl,rfl,rfl,rfl,rfl,rfl,rfl,rfl,rfl,rfl,rfl,rfl,rfl,rfl,rfl,rfl,rfl,rfl,rfl,rfl,e6,j+1,rfl,by omega,xs++Bo (scW 6) .nilSlice vC .nilSlice,?_,?_⟩,by dsimp only;omega⟩
   ·rw[Ov (hraw hjr),List.length_append];exact ho'
   ·rw[Ov (hraw hjr)];exact hBv.snoc hx
 ·have hhd:hd=true:=by cases hd;exact absurd hh (by decide);rfl
  subst hhd
  obtain⟨r0,hj0⟩:∃r,rs[0]? =some r:=⟨_,List.getElem?_eq_getElem (by omega)⟩
  have hmem0:=List.mem_of_getElem? hj0
  have hwid0:=hT.wid r0 hmem0
  obtain⟨u0,hl0,rr0⟩:=g1.ldA (hget (txt q) hj0)
  have hr0z:=Rd.lenZ rr0
  rw[List.length_map,hwid0]at hr0z
  refine⟨fun zn zr zq zi zv zm n5 v3 n6 c1 c2 b7 b8 kA boA ngA dgA exA tkA tdA tnA tzA txA u0A u1A u2A kB boB ngB dgB exB tkB tdB tnB tzB txB u0B u1B u2B kC boC ngC dgC exC tkC tdC tnC tzC txC u0C u1C u2C st'=>v1=zr/\v2=zq/\(j:Int)=zi/\v1=zv/\(rs.length:Int)=zm/\(j:Int)=n5/\uj=v3/\(W:Int)=n6/\a=c1/\q=c2/\true=b7/\ty=b8/\6=kB/\false=boB/\false=ngB/\[]=dgB/\0=exB/\0=tkB/\0=tdB/\0=tnB/\0=tzB/\[]=txB/\.nilSlice=u0B/\.nilSlice=u2B/\vB=u1B/\7=kC/\false=boC/\false=ngC/\[]=dgC/\0=exC/\0=tkC/\0=tdC/\0=tnC/\0=tzC/\[]=txC/\.nilSlice=u0C/\.nilSlice=u1C/\Am st3 st'/\∃m':Nat,zn=(m':Int)/\m'<=W/\∃ys,Own st3.nt 14 st' u2C m' ys/\FsR St.zero (Gw ((((Au r0).map AL).map (txt q)).take m') ((Cm q ty ((Au r).map AL)).take m')) ys,
   fun n _ _ _ _ _ _ _ _ _ _ _ _ _ _ _ _ _ _ _ _ _ _ _ _ _ _ _ _ _ _ _ _ _ _ _ _ _ _ _ _ _ _ _ _ _ _ _ _ _ _ _ _=>(W-n).toNat,⟨rfl,rfl,rfl,rfl,rfl,rfl,rfl,by rw[hrjl],rfl,rfl,rfl,rfl,rfl,rfl,rfl,rfl,rfl,rfl,rfl,rfl,rfl,rfl,rfl,rfl,rfl,rfl,rfl,rfl,rfl,rfl,rfl,rfl,rfl,rfl,rfl,rfl,rfl,Am.refl _,0,rfl,Nat.zero_le _,[],Own.nil _ _ _,by rw[List.take_zero,List.take_zero];exact FsR.nil _⟩,?_⟩
  rintro _ _ _ _ _ _ _ _ _ _ _ _ _ kA boA ngA dgA exA tkA tdA tnA tzA txA u0A u1A u2A _ _ _ _ _ _ _ _ _ _ _ _ _ _ _ _ _ _ _ _ _ _ _ _ _ vC st4 ⟨rfl,rfl,rfl,rfl,rfl,rfl,rfl,rfl,rfl,rfl,rfl,rfl,rfl,rfl,rfl,rfl,rfl,rfl,rfl,rfl,rfl,rfl,rfl,rfl,rfl,rfl,rfl,rfl,rfl,rfl,rfl,rfl,rfl,rfl,rfl,rfl,rfl,e4,m,rfl,hm,ys,hC,hCv⟩
  rw[tn,tn]
  refine Aa (fun g=>?_) fun g=>?_
  ·have hmlt:m<(Au r).length:=by omega
   have hmlt0:m<(Au r0).length:=by omega
   obtain⟨k,hkm⟩:∃k,(Au r)[m]? =some k:=⟨_,List.getElem?_eq_getElem hmlt⟩
   obtain⟨k0,hkm0⟩:∃k,(Au r0)[m]? =some k:=⟨_,List.getElem?_eq_getElem hmlt0⟩
   have hkl:=hT.len r hmem k (List.mem_of_getElem? hkm)
   have l1:=J6.ld rj st4 (i:=m) (a:=txt q (AL k)) (by rw[List.getElem?_map,hkm];rfl)
   have l0:∀st,Ad st [] (.t (ixT 1 u0 m)) 0=some (.str (txt q (AL k0))):=fun st=>J6.ld rr0 st (i:=m) (a:=txt q (AL k0)) (by rw[List.getElem?_map,hkm0];rfl)
   have l2:=J6.ld rq st4 (i:=m) (a:=BL q (AL k)) (by rw[List.getElem?_map,hkm];rfl)
   refine⟨⟨by omega,by rw[hrjz];omega⟩,Ac l1 (Al ⟨⟨by omega,by rw[hr1.lenZ];omega⟩,Ac (hl0 _) ⟨⟨by omega,by rw[hr0z];omega⟩,Ac (l0 _) (Al ⟨⟨by omega,by rw[hr2.lenZ];omega⟩,Ac (hlq _) ⟨⟨by omega,by rw[hrqz];omega⟩,Ac l2 (Aq ?_)⟩⟩)⟩⟩)⟩
   refine Pt (by omega) fun st5 e5=>⟨hlq _,l0 _,hl0 _,Ab (one14 rfl rfl rfl) ?_⟩
   have hcb:=JC ty (BL q (AL k)) (txt q (AL k))
   refine Fs (e4.trans e5) rfl (hC.ext e5) (by omega) (fun h=>by cases h) fun v' st6 e6 _ ho'=>Ab (List.all_eq_true.2 fun x hx=>by rw[List.mem_singleton.1 hx];exact ho'.rd.one) ?_
   rw[w1 m (by omega)]
   refine⟨⟨rfl,rfl,rfl,rfl,rfl,rfl,rfl,rfl,rfl,rfl,rfl,rfl,rfl,rfl,rfl,rfl,rfl,rfl,rfl,rfl,rfl,rfl,rfl,rfl,rfl,rfl,rfl,rfl,rfl,rfl,rfl,rfl,rfl,rfl,rfl,rfl,rfl,e6,m+1,rfl,by omega,_,ho',?_⟩,by dsimp only;omega⟩
   rw[Yl (nm:=txt q (AL k0)) (by rw[List.getElem?_map,List.getElem?_map,hkm0];rfl) (Uj hkm)]
   exact hCv.snoc0 (by unfold FdR;exact⟨_,rfl,R3 _ hcb⟩)
  ·have hmW:m=W:=by omega
   subst hmW
   rw[<-hwid]at hC hCv
   have hfull:(Cm q ty ((Au r).map AL)).take (Au r).length=Cm q ty ((Au r).map AL):=List.take_of_length_le (by rw[Do,List.length_map];omega)
   have hfull0:(((Au r0).map AL).map (txt q)).take (Au r).length=((Au r0).map AL).map (txt q):=List.take_of_length_le (by rw[List.length_map,List.length_map];omega)
   rw[hfull,hfull0]at hCv
   have hfl:(Gw (((Au r0).map AL).map (txt q)) (Cm q ty ((Au r).map AL))).length=(Au r).length:=by unfold Gw;rw[List.length_zipWith,Do,List.length_map,List.length_map,List.length_map];omega
   have hx:VlR St.zero (OT (((Au r0).map AL).map (txt q)) (Cm q ty ((Au r).map AL))) (Bo (scW 7) .nilSlice .nilSlice vC):=vr_map (f:=Gw (((Au r0).map AL).map (txt q)) (Cm q ty ((Au r).map AL))) (by rw[hfl];exact hC.rd) hCv
   refine Ab (Dg rfl rfl hC.rd.one) ?_
   have hlen:(Cb q true ty ((A5 rs).take j)).length<=2000000:=by
    cases hb:(A5 rs).take j with
    | nil=>exact Nat.zero_le _
    | cons x y=>
     have:=congrArg List.length hb
     rw[List.length_take,List.length_cons]at this
     show(y.map _).length<=_
     rw[List.length_map];omega
   refine Fs (e3.trans e4) rfl (hB.ext e4) (by omega) (fun h=>by cases h) fun v' st6 e6 _ ho'=>Ab (List.all_eq_true.2 fun x hx=>by rw[List.mem_singleton.1 hx];exact ho'.rd.one) ?_
   rw[w1 j (by omega)]
   refine⟨⟨rfl,rfl,rfl,rfl,rfl,rfl,rfl,rfl,rfl,rfl,rfl,rfl,rfl,rfl,rfl,rfl,rfl,rfl,rfl,rfl,e6,j+1,rfl,by omega,xs++Bo (scW 7) .nilSlice .nilSlice vC,?_,?_⟩,by dsimp only;omega⟩
   ·rw[Ou (hraw hjr) (by omega) (hraw hj0),List.length_append];exact ho'
   ·rw[Ou (hraw hjr) (by omega) (hraw hj0)];exact hBv.snoc hx
 ·have hhd:hd=true:=by cases hd;exact absurd hh (by decide);rfl
  subst hhd
  have hj0:j=0:=by omega
  subst hj0
  rw[w1 0 (by omega)]
  refine⟨⟨rfl,rfl,rfl,rfl,rfl,rfl,rfl,rfl,rfl,rfl,rfl,rfl,rfl,rfl,rfl,rfl,rfl,rfl,rfl,rfl,e3,1,rfl,by omega,xs,?_,?_⟩,by dsimp only;omega⟩
  ·rw[TG]
   rw[List.take_zero]at hB
   exact hB
  ·rw[TG]
   rw[List.take_zero]at hBv
   exact hBv
end
end
theorem szl'' (s:Sc):(A2 s).sz=1+s.bytes.length+s.text.length+s.dg.length:=szl' s
theorem cellG_sz (ty qd:Bool) (s:B8):(A2 (CZ ty qd s)).sz<=1+s.length:=by
 have hd:=dcP_len s
 rw[szl'',JC]
 unfold CZ
 by_cases h1:ty=false∨qd=true
 ·rw[if_pos h1];simp[tkT]
 rw[if_neg h1]
 by_cases h2:s=[]
 ·rw[if_pos h2];simp[scK]
 rw[if_neg h2]
 by_cases h3:s=Lk
 ·rw[if_pos h3];simp[tkB]
 rw[if_neg h3]
 by_cases h4:s=Jl
 ·rw[if_pos h4];simp[tkB]
 rw[if_neg h4]
 by_cases h5:(dcP s).2.2.2=0
 ·rw[if_pos h5];simp[tkN];omega
 rw[if_neg h5]
 by_cases h6:(tmP s).2.2.2.2=0
 ·rw[if_pos h6];simp[tkM]
 rw[if_neg h6];simp[tkT]
theorem Sy (q:Int) (ty:Bool):∀r:List B8,A3 ((Cm q ty r).map A2)<=r.length+BU r
 | []=>by simp[Cm,A3,BU]
 | c::r=>by
  have h1:=Sy q ty r
  have h2:=cellG_sz ty (BL q c) (txt q c)
  have h3:=txt_len q c
  unfold Cm at h1⊢
  simp only[List.map_cons,A3,List.length_cons,BU]at h1⊢;omega
theorem Xd (M:Nat):∀(names:List B8) (row:List Sc),(∀t,t∈names->t.length<=M)->BC (Gw names row)<=row.length*M+A3 (row.map A2)
 | [],row,h=>by simp[Gw,BC]
 | _::_,[],h=>by simp[Gw,BC]
 | t::ns,s::r,h=>by
  have h1:=Xd M ns r fun x hx=>h x (.tail _ hx)
  have h2:=h t (.head _)
  unfold Gw at h1⊢
  simp only[List.zipWith_cons_cons,BC,Fd.sz,List.length_cons,List.map_cons,A3,Nat.add_mul,Nat.one_mul]at h1⊢;omega
theorem TH (l:List Vl):(A7 l).sz=1+A3 l:=by unfold A7;rw[szs];simp[scZ,BC]
theorem vMap_sz (f:List Fd):(HW f).sz=1+BC f:=by unfold HW;rw[szs];simp[scZ,A3]
theorem valL_sz {q:Int} {hd ty:Bool} {M:Nat} {l:List (List B8)} (h:hd=true->∀r,l.head? =some r->∀c,c∈r->(txt q c).length<=M):A3 (Cb q hd ty l)<=l.length+Bz l*(1+M)+Fg l:=by
 cases hd with
 | false=>
  rw[F8]
  clear h
  induction l with
  | nil=>simp[A3]
  | cons r t ih=>
   have h1:=Sy q ty r
   simp only[List.map_cons,A3,TH,List.length_cons,Bz,Fg,Nat.add_mul,Nat.mul_add,Nat.mul_one]at ih⊢;omega
 | true=>
  cases l with
  | nil=>simp[Cb,A3]
  | cons h0 t=>
   have hM:=h rfl h0 rfl
   have key:∀t:List (List B8),A3 (t.map fun r=>OT (h0.map (txt q)) (Cm q ty r))<=t.length+Bz t*(1+M)+Fg t:=by
    intro t
    induction t with
    | nil=>simp[A3]
    | cons r t ih=>
     have h1:=Sy q ty r
     have h2:=Xd M (h0.map (txt q)) (Cm q ty r) fun x hx=>by
      obtain⟨c,hc,rfl⟩:=List.mem_map.1 hx
      exact hM c hc
     rw[Do]at h2
     have h3:(OT (h0.map (txt q)) (Cm q ty r)).sz=1+BC (Gw (h0.map (txt q)) (Cm q ty r)):=vMap_sz _
     simp only[List.map_cons,A3,h3,List.length_cons,Bz,Fg,Nat.add_mul,Nat.mul_add,Nat.mul_one]at ih⊢;omega
   have:=key t
   show A3 (t.map fun r=>OT (h0.map (txt q)) (Cm q ty r))<=_
   simp only[List.length_cons,Bz,Fg,Nat.add_mul]at this⊢;omega
theorem ents_sum {a q:Int} {s:B8} {i:Nat} {ks:List Nd} {e n:Nat} (h:Hh a q s i ks e n):i<=s.length->BU (ks.map AL)+i<=e:=by
 induction h with
 | @last i e n h1 h2 h3=>
  intro hi
  have hl:=Cj hi h1
  simp only[List.map_cons,List.map_nil,BQ,BU]
  rw[Lh hl.1 hl.2];omega
 | @more i e e' n ks h1 h2 h3 h4 ih=>
  intro hi
  have hl:=Cj hi h1
  have:=ih (by omega)
  simp only[List.map_cons,BQ,BU]
  rw[Lh hl.1 hl.2];omega
theorem Uq {a q:Int} {s:B8} {i:Nat} {rs:List Nd} (h:Gz a q s i rs):i<=s.length->Fg (A5 rs)+i<=s.length/\Bz (A5 rs)+i<=s.length+1/\(i<s.length∨rs=[]->True)/\rs.length+i<=s.length:=by
 induction h with
 | nil h=>intro hi;simp[A5,Fg,Bz];omega
 | @cons i e n ks rs h1 h2 h3 ih=>
  intro hi
  have hle:=h2.le hi
  have hs:=ents_sum h2 hi
  have hn:=(Fi (by omega) hle.2.2.2.2).2.1
  obtain⟨a1,a2,_,a4⟩:=ih (by omega)
  have hk:A5 (.mk 8 [] [] ks (slc s e (e+n))::rs)=ks.map AL::A5 rs:=rfl
  rw[hk]
  simp only[Fg,Bz,List.length_map,List.length_cons]
  have hc:n=0->rs=[]:=fun h0=>by
   have:=hn h0
   cases rs with
   | nil=>rfl
   | cons x y=>simp only[List.length_cons]at a4;omega
  refine⟨by omega,?_,fun _=>trivial,?_⟩
  ·rcases Nat.eq_zero_or_pos n with h0 | h0
   ·rw[hc h0];simp[A5,Bz];omega
   ·omega
  ·rcases Nat.eq_zero_or_pos n with h0 | h0
   ·rw[hc h0];simp;omega
   ·omega
theorem tree_of {a q:Int} {s:B8} {rs:List Nd} (h:Gz a q s 0 rs) (hs:s.length<=1400000) (hlen:∀r,r∈rs->∀k,k∈Au r->(txt q (AL k)).length<=65536) (hW:∃W:Int,∀r,r∈rs->((Au r).length:Int)=W):∃W,W6 a q rs W:=by
 obtain⟨W,hW⟩:=hW
 obtain⟨h1,h2,_,h4⟩:=Uq h (Nat.zero_le _)
 have mem:∀r,r∈rs->BU ((Au r).map AL)<=s.length/\(Au r).length<=s.length+1:=by
  intro r hr
  obtain⟨j,hj⟩:=List.getElem?_of_mem hr
  have hj2:(A5 rs)[j]? =some ((Au r).map AL):=by unfold A5;rw[List.getElem?_map,hj];rfl
  have:=TT hj2
  rw[List.length_map]at this
  omega
 by_cases hne:rs=[]
 ·subst hne
  exact⟨0,⟨fun r hr=>(by cases hr),fun r hr=>(by cases hr),fun r hr=>(by cases hr),by simp,by omega⟩⟩
 refine⟨W.toNat,⟨h.form (Nat.zero_le _),fun r hr=>by have:=hW r hr;omega,fun r hr k hk=>⟨hlen r hr k hk,?_⟩,by omega,?_⟩⟩
 ·have h5:=TS (List.mem_map.2 ⟨k,hk,rfl⟩:AL k∈(Au r).map AL)
  have:=(mem r hr).1;omega
 ·obtain⟨r,t,rfl⟩:=List.exists_cons_of_ne_nil hne
  have:=hW r (.head _)
  have:=(mem r (.head _)).2
  omega
theorem Mr {n:Nd} {a q:Int} {hd:Bool} (h:Hy n a q hd):∃rs W,n= .mk 1 [] [] rs []/\W6 a q rs W:=by
 obtain⟨rs,rfl,_,_,_,_,_,hr,hl,hW⟩:=B2 h.2
 have hlen:=PV h.1
 have hn:=C8 (.mk 1 [] [] rs [])
 obtain⟨W,hT⟩:=tree_of hr (by show(CF (.mk 1 [] [] rs [])).length<=_;omega) hl hW
 exact⟨rs,W,rfl,hT⟩
theorem M6 {x:Cx} {hd:Bool} {l2 l3 l4:Int} {n:Nd} (h:Bc x hd l2 l3 l4= .ok n):Ex x.s x.a x.q hd= .ok n:=by
 obtain⟨rs,rfl,hd1,hl,hle,hv,hdoc,hr,hlen,hW⟩:=B2 h
 unfold lOk at hl
 rw[decide_eq_true_eq]at hl
 obtain⟨rs1,q1,_,_,_,q6⟩:=LL _ (Nat.zero_le _) hdoc
 rw[List.nil_append]at q1
 subst q1
 obtain⟨rs2,j1,j2,_,_⟩:=docE_lim (d':=48) (n':=65536) _ hdoc
 rw[List.nil_append]at j1
 subst j1
 have hdoc2:=j2 (.inr (by decide)) (by rcases q6 with q6 | q6<;>omega)
 show Bc (xU x.s x.a x.q) hd 1048576 1024 65536=_
 unfold Bc
 rw[if_neg (show ¬dOk x.a x.q=false by rw[hd1];decide),if_neg (show ¬lOk 48 65536 1048576 1024 65536=false by decide),if_neg (show ¬(1048576:Int)<(x.s.length:Int) by omega),if_neg (show ¬vlen x.s≠x.s.length by rw[hv];simp)]
 rw[show D9 (xU x.s x.a x.q) hd ((xU x.s x.a x.q).s.length+1) [] 0 1 [] 0= .ok rs from hdoc2]
theorem val_sz {a q:Int} {hd ty:Bool} {rs:List Nd} {n:Nd} (h:Hy n a q hd) (hn:n= .mk 1 [] [] rs []) (hcn:Bz (A5 rs)<=1600):(A7 (Cb q hd ty (A5 rs))).sz<=1+rs.length+Bz (A5 rs)*1025+Fg (A5 rs):=by
 subst hn
 obtain⟨rs',hn,_,_,_,_,hdoc,_⟩:=B2 h.2
 cases hn
 rw[TH]
 have:=valL_sz (q:=q) (hd:=hd) (ty:=ty) (M:=1024) (l:=A5 rs) (fun hb r hr c hc=>by
  subst hb
  cases rs with
  | nil=>cases hr
  | cons r0 t=>
   have hr:(Au r0).map AL=r:=by simpa [A5]using hr
   have:=(PI _ hdoc (Nat.zero_le _) r0 rfl).2
   subst hr
   obtain⟨k,hk,rfl⟩:=List.mem_map.1 hc
   exact this _ (List.mem_map.2 ⟨k,hk,rfl⟩))
 have hl:(A5 rs).length=rs.length:=by unfold A5;rw[List.length_map]
 omega
theorem read_sz {a q:Int} {hd ty:Bool} {rs:List Nd} {s:B8} (h:Ex s a q hd= .ok (.mk 1 [] [] rs [])) (hs:s.length<=1500):(A7 (Cb q hd ty (A5 rs))).sz<=1600000:=by
 obtain⟨ht,_,ho⟩:=Pf (by omega) h
 obtain⟨rs',hn,_,_,_,_,_,hr,_⟩:=B2 h
 cases hn
 obtain⟨h1,h2,_,h4⟩:=Uq hr (Nat.zero_le _)
 have h1:Fg (A5 rs)+0<=s.length:=h1
 have h2:Bz (A5 rs)+0<=s.length+1:=h2
 have h4:rs.length+0<=s.length:=h4
 have:=val_sz (ty:=ty) ho rfl (by omega)
 omega
section
section
variable {a q:Int} {hd ty:Bool} {st:St}
theorem UU {s:B8} {l0 l1 l2 l3 l4:Int} (hl:s.length<=70000) {K:Int->Bool->Bool->B8->Int->Int->Int->Int->Int->B8->TV->TV->TV->Int->Int->St->Prop}
  (hk1:∀(p:Nat×Int) st',Am st st'->Bc ⟨s,a,q,l0,l1⟩ hd l2 l3 l4= .error p->p.2≠0->K 0 false false [] 0 0 0 0 0 [] .nilSlice .nilSlice .nilSlice p.1 p.2 st')
  (hk2:∀rs u xs st',Am st st'->Bc ⟨s,a,q,l0,l1⟩ hd l2 l3 l4= .ok (.mk 1 [] [] rs [])->Rd 13 u (Cb q hd ty (A5 rs)).length xs->VsR St.zero (Cb q hd ty (A5 rs)) xs->K 6 false false [] 0 0 0 0 0 [] .nilSlice u .nilSlice 0 0 st'):
  CallT PR CM [.str s,.agg [.int .u8 a,.int .u8 q,.bool hd,.bool ty],.agg [.int .i64 l0,.int .i64 l1,.int .i64 l2,.int .i64 l3,.int .i64 l4]] [.agg Vv,.one (.int .i64),.one (.int .i64)] st K:=by
 refine KZ s a q hd ty l0 l1 l2 l3 l4 st K (JM (x:=⟨s,a,q,l0,l1⟩) (by show s.length<=_;omega) fun k kv st1 e1 hn=>?_)
 obtain⟨_,_,_,_,_,h5,ho⟩:=hn.five
 cases h5
 have hcn:ES (pN (Bc ⟨s,a,q,l0,l1⟩ hd l2 l3 l4))<=1000000000000000:=SG (by show s.length<=_;omega)
 rcases hP:Bc ⟨s,a,q,l0,l1⟩ hd l2 l3 l4 with p | n
 ·rw[hP]at hk1
  have hne:=V7 hP
  exact Ab (Ey ho) (Aa (fun _=>hk1 p st1 e1 rfl hne) fun g=>absurd hne g)
 ·rw[hP]at hn hcn hk2
  obtain⟨rs,hrs,_⟩:=B2 hP
  subst hrs
  have hU:=M6 hP
  obtain⟨htx,_,hou⟩:=Pf (show s.length<=70000 from hl) hU
  have hnl:=C8 (.mk 1 [] [] rs [])
  rw[htx]at hnl
  have hl':s.length<=70000:=hl
  refine Ab (Ey ho) (Aa (fun g=>absurd rfl g) fun _=>MF hn (by show DS (.mk 1 [] [] rs [])<=_;rw[<-hnl];show s.length<=_;omega) hcn (fun ho=>?_) (fun h=>absurd hou h) fun _ u xs st2 e2 hu hx=>?_)
  ·obtain⟨rs',W,he,hT⟩:=Mr ho
   have he:Nd.mk 1 [] [] rs []= .mk 1 [] [] rs' []:=he
   cases he
   exact⟨W,hT⟩
  ·exact Ab (Dg rfl hu.one rfl) (Ab (Dg rfl hu.one rfl) (hk2 rs u xs st2 (e1.trans e2) rfl hu hx))
end
theorem SlR.zero {sz n:Nat} {v:TV} {xs:List TV} (h:SlR St.zero sz v n xs):Rd sz v n xs:=by
 rcases h with h | ⟨b,_,_,_,_,hb,_⟩
 ·exact h
 ·exact absurd hb (Nat.not_lt_zero _)
theorem Xj {xs:List TV} {k n j:Nat} {cs:List TV} (h:(xs.drop k).take n=cs) {x:TV} (hx:cs[j]? =some x):xs[k+j]? =some x:=by
 rw[<-h,List.getElem?_take]at hx
 split at hx
 ·rwa [List.getElem?_drop]at hx
 ·cases hx
theorem Rd.isP {sz n i:Nat} {u:TV} {xs:List TV} (h:Rd sz u n xs) (hi:i<n):isPtr (ixT sz u i)=true:=(SlR.of_rd (st:=St.zero) h).isPtr hi
theorem ld13 {u:TV} {xs:List TV} {l:List Vl} (hr:Rd 13 u l.length xs) (hv:VsR St.zero l xs) {i:Nat} {s':Sc} {l':List Vl} {f':List Fd} (hi:l[i]? =some (.mk s' l' f')):
  isPtr (ixT 13 u i)=true/\∃ub ul uf xl xf,(∀st (j:Nat) x,(Bo s' ub ul uf)[j]? =some x->Ad st [] (.t (Ao (ixT 13 u i) j)) 0=some x)/\Rd 13 ul l'.length xl/\VsR St.zero l' xl/\Rd 14 uf f'.length xf/\FsR St.zero f' xf:=by
 obtain⟨hlt,_⟩:=List.getElem?_eq_some_iff.1 hi
 obtain⟨cs,hc,hcx,_⟩:=hv.get hi
 obtain⟨ub,ul,uf,xl,xf,rfl,_,h2,h3,h4,h5⟩:=hc.cells
 exact⟨hr.isP hlt,ub,ul,uf,xl,xf,fun st j x hx=>hr.ldfx st i j (Xj hcx hx),h2.zero,h3,h4.zero,h5⟩
theorem XF {sz n i:Nat} {u:TV} {xs:List TV} (h:Rd sz u n xs) (hi:i<n) (a b:Nat):Ao (Ao (ixT sz u i) a) b=Ao (ixT sz u i) (a+b)/\isPtr (Ao (ixT sz u i) a)=true:=by
 rcases h with⟨rfl,rfl,_⟩ | ⟨tip,rfl⟩
 ·omega
 ·refine⟨?_,rfl⟩
  simp only[ixT,Ao,Nat.beq_refl,List.drop_drop,Nat.add_assoc]
theorem ld14 {u:TV} {xs:List TV} {l:List Fd} (hr:Rd 14 u l.length xs) (hv:FsR St.zero l xs) {i:Nat} {k:B8} {s':Sc} {l':List Vl} {f':List Fd} (hi:l[i]? =some (.mk k (.mk s' l' f'))):
  isPtr (ixT 14 u i)=true/\isPtr (Ao (ixT 14 u i) 1)=true/\∃ub ul uf,∀st (j:Nat) x,(Bo s' ub ul uf)[j]? =some x->Ad st [] (.t (Ao (Ao (ixT 14 u i) 1) j)) 0=some x:=by
 obtain⟨hlt,_⟩:=List.getElem?_eq_some_iff.1 hi
 obtain⟨cs,hc,hcx,_⟩:=hv.get hi
 unfold FdR at hc
 obtain⟨c,rfl,hc⟩:=hc
 obtain⟨ub,ul,uf,xl,xf,rfl,_⟩:=hc.cells
 refine⟨hr.isP hlt,(XF hr hlt 1 0).2,ub,ul,uf,fun st j x hx=>?_⟩
 rw[(XF hr hlt 1 j).1]
 exact hr.ldfx st i (1+j) (Xj hcx (by rw[Nat.add_comm 1 j];exact hx))
end
theorem O6 {s:B8} (hu:U8 s) (hl:s.length<=65536):Eb (tkT s) [] [] where
 own:=⟨(by decide:(0:Int)<=4),(by decide:(4:Int)<=7),fun _=>rfl,fun _=>⟨rfl,rfl,rfl⟩,fun _=>⟨rfl,rfl,rfl,rfl⟩,fun h=>absurd rfl h,fun _=>rfl,fun _=>rfl,fun _=>rfl⟩
 dec:=by show Dk false [] 0;decide
 time:=fun h=>by cases h
 text:=hu
 tlen:=hl
 blen:=Nat.zero_le _
 keys:=rfl
theorem WP {s:Sc} (h:Eb s [] []):CC (A2 s)=0:=by
 have h0:=Mt.2 h
 unfold A2 CC DD
 rw[if_neg (by omega),if_neg (by omega),if_neg (by omega)]
 unfold Hs Dj CG
 rfl
def YE:List (List B8):=[[[97],[98]],[[49],[120]],[[34,49,34],[]]]
theorem textA:AU 44 YE=Yn:=by decide
theorem dA:dOk 44 34=true:=by decide
theorem plA (c:B8) (h:Ez 44 34 c=false/\(c.all fun x=>decide (x.toNat<128))=true/\(txt 34 c).length<=65536):Hi 44 34 c/\vlen c=c.length/\(txt 34 c).length<=65536:=⟨Iz (U2 dA) h.1,Eg c h.2.1,h.2.2⟩
theorem parseG:∃rs,Ex Yn 44 34 true= .ok (.mk 1 [] [] rs [])/\A5 rs=YE:=by
 have hF:Hi 44 34 [34,49,34]/\vlen [34,49,34]=([34,49,34]:B8).length/\(txt 34 [34,49,34]).length<=65536:=⟨Nl (U2 dA) [49],Eg _ rfl,by decide⟩
 have:=Xq (a:=44) (q:=34) dA true (l:=YE) (W:=2) (fun r hr=>by
  simp only[YE,List.mem_cons,List.not_mem_nil,or_false]at hr
  rcases hr with rfl | rfl | rfl
  ·exact⟨by decide,rfl,fun c hc=>by
    simp only[List.mem_cons,List.not_mem_nil,or_false]at hc
    rcases hc with rfl | rfl<;>exact plA _ (by decide)⟩
  ·exact⟨by decide,rfl,fun c hc=>by
    simp only[List.mem_cons,List.not_mem_nil,or_false]at hc
    rcases hc with rfl | rfl<;>exact plA _ (by decide)⟩
  ·exact⟨by decide,rfl,fun c hc=>by
    simp only[List.mem_cons,List.not_mem_nil,or_false]at hc
    rcases hc with rfl | rfl
    ·exact hF
    ·exact plA _ (by decide)⟩) (by rw[textA];decide) (by decide) (fun _ r hr=>by
  simp only[YE,List.head?_cons,Option.some.injEq]at hr
  subst hr
  refine⟨by decide,fun c hc=>?_⟩
  simp only[List.mem_cons,List.not_mem_nil,or_false]at hc
  rcases hc with rfl | rfl<;>decide)
 rwa [textA]at this
def lA:List Vl:=[HW [.mk [97] (A2 (tkN false [49] 0)),.mk [98] (A2 (tkT [120]))],HW [.mk [97] (A2 (tkT [49])),.mk [98] (A2 (scK 0))]]
theorem valA:Cb 34 true true YE=lA:=by kernel_rfl
theorem Es {st:St} {K:Bool->St->Prop} (hk:∀st',Am st st'->K true st'):CallT PR AI [] [.one .bool] st K:=by
 obtain⟨rs,hp,hraw⟩:=parseG
 refine IO st K (OW (Us (UU (s:=Yn) (by decide) (fun p st1 e1 h _=>?_) fun rs' u xs st1 e1 h hu hx=>?_)))
 ·rw[show Bc ⟨Yn,44,34,48,65536⟩ true 1048576 1024 65536=_ from hp]at h;cases h
 rw[show Bc ⟨Yn,44,34,48,65536⟩ true 1048576 1024 65536=_ from hp]at h
 cases h
 rw[hraw,valA]at hu hx
 have hu:Rd 13 u 2 xs:=hu
 obtain⟨p1,_,_,f1,_,xf1,ld1,_,_,hf1,hfx1⟩:=ld13 (l:=lA) hu hx (i:=1) rfl
 obtain⟨p0,_,_,f0,_,xf0,ld0,_,_,hf0,hfx0⟩:=ld13 (l:=lA) hu hx (i:=0) rfl
 obtain⟨a1,a2,_,_,_,la⟩:=ld14 hf1 hfx1 (i:=0) rfl
 obtain⟨b1,b2,_,_,_,lb⟩:=ld14 hf0 hfx0 (i:=0) rfl
 obtain⟨c1,c2,_,_,_,lc⟩:=ld14 hf1 hfx1 (i:=1) rfl
 have hf1:Rd 14 f1 2 xf1:=hf1
 have hf0:Rd 14 f0 2 xf0:=hf0
 have h49:Eb (tkT [49]) [] []:=O6 (Eg [49] rfl) (by decide)
 have hE:shE 44 34 true (A2 (tkT [49]))=0:=by
  unfold shE
  rw[if_neg (by rw[dA];decide),if_neg (by rw[WP h49];decide)]
  decide
 have hT:shT 44 34 true (A2 (tkT [49]))=str11:=by
  unfold shT
  rw[if_pos hE]
  show BB 44 34 true (tkT [49])=_
  unfold BB
  rw[if_pos (show(tkT [49]).kind=4 from rfl),if_pos (by decide)]
  decide
 have hv:VlR St.zero (A2 (tkT [49])) (Bo (tkT [49]) .nilSlice .nilSlice .nilSlice):=R3 _ rfl
 refine Ab (Dg rfl hu.one rfl) (OW (gShow_ok (v:=A2 (tkT [49])) (by rw[szl''];decide) hv fun st2 e2=>?_))
 rw[hE,hT]
 refine Aa (fun _=>Ab hu.isSl (Aa (fun _=>⟨⟨by decide,by rw[hu.lenZ];decide⟩,Ab p1 (Ac (ld1 _ 12 _ rfl) (Ab hf1.isSl (Aa (fun _=>⟨⟨by decide,by rw[hu.lenZ];decide⟩,Ab p1 (Ac (ld1 _ 12 _ rfl)
  ⟨⟨by decide,by rw[hf1.lenZ];decide⟩,Ab a1 (Ab a2 (Ac (la _ 9 _ rfl) (Al (Aa (fun _=>⟨⟨by decide,by rw[hu.lenZ];decide⟩,Ab p0 (Ac (ld0 _ 12 _ rfl)
   ⟨⟨by decide,by rw[hf0.lenZ];decide⟩,Ab b1 (Ab b2 (Ac (lb _ 0 _ rfl) (AA (Aa (fun _=>⟨⟨by decide,by rw[hu.lenZ];decide⟩,Ab p1 (Ac (ld1 _ 12 _ rfl)
    ⟨⟨by decide,by rw[hf1.lenZ];decide⟩,Ab c1 (Ab c2 (Ac (lc _ 0 _ rfl) (AA (Aa (fun _=>Aa (fun _=>hk st2 (e1.trans e2)) fun g=>absurd rfl g) fun g=>absurd rfl g))))⟩)⟩) fun g=>absurd rfl g))))⟩)⟩) fun g=>absurd rfl g))))⟩)⟩) fun g=>absurd (by rw[hf1.lenS];rfl) g)))⟩) fun g=>absurd (by rw[hu.lenS];rfl) g)) fun g=>absurd rfl g
theorem Ty (l m:List Vl):A3 (l++m)=A3 l+A3 m:=by
 induction l with
 | nil=>simp[A3]
 | cons v r ih=>simp only[List.cons_append,A3,ih];omega
theorem UV (l m:List Fd):BC (l++m)=BC l+BC m:=by
 induction l with
 | nil=>simp[BC]
 | cons v r ih=>simp only[List.cons_append,BC,ih];omega
theorem RB (l m:List Fd):Bg (l++m)=Bg l+Bg m:=by
 induction l with
 | nil=>simp[Bg]
 | cons v r ih=>simp only[List.cons_append,Bg,ih];omega
theorem QN {l:List Vl} {k:Nat} {w:Vl} (h:l[k]? =some w):A3 (l.take (k+1))=A3 (l.take k)+w.sz:=by
 rw[List.take_add_one,h,Ty];simp[A3]
theorem Ry {l:List Fd} {k:Nat} {w:Fd} (h:l[k]? =some w):BC (l.take (k+1))=BC (l.take k)+w.sz:=by
 rw[List.take_add_one,h,UV];simp[BC]
theorem Pv {l:List Fd} {k:Nat} {w:Fd} (h:l[k]? =some w):Bg (l.take (k+1))=Bg (l.take k)+w.cnt:=by
 rw[List.take_add_one,h,RB];simp[Bg]
theorem Zt (s:Sc) (l:List Vl) (f:List Fd):(Vl.mk s l f).cnt=1+AX l+Bg f:=by unfold Vl.cnt;rfl
theorem fcnt (k:B8) (v:Vl):(Fd.mk k v).cnt=v.cnt:=by unfold Fd.cnt;rfl
def RmOk (v:Vl) (n r:Int):Prop:=r= -1∨(0<=r/\(v.sz:Int)+3000+r*12001<=n*12001/\(v.cnt:Int)+r<=n)
theorem Yy:∀(N:Nat) (v:Vl),v.sz<=N->∀{st:St} {cs:List TV} {D n:Int} {K:Int->St->Prop},VlR St.zero v cs-> -1000<=D->D<=1000-> -1<=n->n<=1000->(∀r,RmOk v n r->K r st)->
  CallT PR Bh [.agg cs,.int .i64 D,.int .i64 n,.int .i64 3000] [.one (.int .i64)] st K:=by
 intro N
 induction N with
 | zero=>intro v h;have:=v.sz_pos;omega
 | succ N ih=>
 intro v hN st cs D n K h hD1 hD2 hn1 hn2 hk
 cases v with
 | mk s l f=>
 have hsz:=szs s l f
 have hct:=Zt s l f
 obtain⟨ub,ul,uf,xl,xf,rfl,h1,h2,h3,h4,h5⟩:=h.cells
 have no:K (-1) st:=hk _ (.inl rfl)
 refine I6 _ _ _ _ _ _ _ _ _ _ _ _ _ D n 3000 st K (Aa (fun _=>no) fun g1=>Aa (fun _=>no) fun g2=>Aa (fun _=>no) fun g3=>Ab h1.isSl (Aa (fun _=>no) fun g4=>Aa (fun _=>no) fun g5=>Ab h2.isSl (Aa (fun _=>no) fun g6=>Ab h4.isSl (Aa (fun _=>no) fun g7=>?_))))
 rw[h1.lenS]at g4
 rw[h2.lenS]at g6
 rw[h4.lenS]at g7
 rw[Ai (n-1) (by omega) (by omega)]
 refine⟨fun zn zi zd zb k bo ng dg ex tk td tn tz tx u0 u1 u2 st'=>ul=u1/\uf=u2/\D=zd/\3000=zb/\st=st'/\∃k:Nat,zi=(k:Int)/\k<=l.length/\ -1<=zn/\zn<=n-1/\(0<=zn->(A3 (l.take k):Int)+zn*12001<=(n-1)*12001/\(AX (l.take k):Int)+zn<=n-1),
  fun _ zi _ _ _ _ _ _ _ _ _ _ _ _ _ _ _ _=>(l.length-zi).toNat,⟨rfl,rfl,rfl,rfl,rfl,0,rfl,Nat.zero_le _,by omega,by omega,fun _=>by rw[List.take_zero];simp[A3,AX]⟩,?_⟩
 rintro zn _ _ _ _ _ _ _ _ _ _ _ _ _ _ _ _ _ ⟨rfl,rfl,rfl,rfl,rfl,k,rfl,hkl,z1,z2,z3⟩
 refine Ab h2.isSl (Aa (fun g=>Aa (fun g0=>?_) fun g0=>?q1) fun g=>?q2)
 ·rw[h2.lenS]at g
  refine QG (Db _) h2 h3 rfl (by omega) fun s' l' f' ub1 ul1 uf1 gw hw on=>?_
  have hwsz:=IV gw
  have e1:=QN gw
  have e2:=N5 gw
  obtain⟨z4,z5⟩:=z3 g0
  rw[Ai ((k:Int)+1) (by omega) (by omega),Ai (D-1) (by omega) (by omega)]
  refine ih _ (by omega) hw (by omega) (by omega) (by omega) (by omega) fun r hr=>⟨⟨rfl,rfl,rfl,rfl,rfl,k+1,by omega,by omega,?_,?_,?_⟩,by dsimp only;omega⟩
  ·rcases hr with hr | hr<;>omega
  ·rcases hr with hr | hr
   ·omega
   ·have:=Vl.sz_pos (.mk s' l' f');omega
  ·intro hr0
   rcases hr with hr | hr
   ·omega
   ·rw[e1,e2];omega
 case q1 | q2=>
  have zz:zn= -1∨(A3 l:Int)+zn*12001<=(n-1)*12001/\(AX l:Int)+zn<=n-1:=by
   by_cases hz:0<=zn
   ·right
    have hkk:k=l.length:=by
     first
      | (exfalso;exact g0 hz)
      | (rw[h2.lenS]at g;omega)
    rw[hkk,List.take_of_length_le (Nat.le_refl _)]at z3
    exact z3 hz
   ·left;omega
  refine⟨fun yn zi zd zb k bo ng dg ex tk td tn tz tx u0 u1 u2 st'=>uf=u2/\D=zd/\3000=zb/\st=st'/\∃k:Nat,zi=(k:Int)/\k<=f.length/\ -1<=yn/\yn<=n-1/\(0<=yn->(A3 l:Int)+BC (f.take k)+yn*12001<=(n-1)*12001/\(AX l:Int)+Bg (f.take k)+yn<=n-1),
   fun _ zi _ _ _ _ _ _ _ _ _ _ _ _ _ _ _ _=>(f.length-zi).toNat,⟨rfl,rfl,rfl,rfl,0,rfl,Nat.zero_le _,by omega,by omega,fun hz=>by rw[List.take_zero];simp only[BC,Bg];omega⟩,?_⟩
  rintro yn _ _ _ _ _ _ _ _ _ _ _ _ _ _ _ _ _ ⟨rfl,rfl,rfl,rfl,k2,rfl,hkl2,y1,y2,y3⟩
  have fin:(k2=f.length∨¬0<=yn)->K yn st:=by
   intro hor
   refine hk _ ?_
   by_cases hy:0<=yn
   ·rcases hor with hor | hor
    ·obtain⟨y4,y5⟩:=y3 hy
     rw[hor,List.take_of_length_le (Nat.le_refl _)]at y4 y5
     exact .inr ⟨hy,by rw[hsz];omega,by rw[hct];omega⟩
    ·exact absurd hy hor
   ·exact .inl (by omega)
  refine Ab h4.isSl (Aa (fun g8=>Aa (fun g9=>?_) fun g9=>fin (.inr g9)) fun g8=>fin (.inl (by rw[h4.lenS]at g8;omega)))
  rw[h4.lenS]at g8
  have hlt:k2<f.length:=by omega
  obtain⟨dd,hdd⟩:∃d,f[k2]? =some d:=⟨_,List.getElem?_eq_getElem hlt⟩
  obtain⟨key,w⟩:=dd
  obtain⟨s',l',f'⟩:=w
  have hky:=keyLd (st:=st) (Db st) h4 h5 hdd
  refine⟨⟨by omega,by rw[h4.lenZ];omega⟩,Ab (h4.isPtr hlt) (Ac hky (Al (Aa (fun _=>no) fun g10=>?_)))⟩
  refine val14 (Db _) h4 h5 rfl hlt fun key' s' l' f' ub1 ul1 uf1 gw hw on=>?_
  rw[hdd]at gw
  cases gw
  have hwsz:=Jv hdd
  have e1:=Ry hdd
  have e2:=Pv hdd
  have e3:=szd key (.mk s' l' f')
  have e4:=fcnt key (.mk s' l' f')
  obtain⟨y4,y5⟩:=y3 g9
  have g10:¬3000<(key.length:Int):=g10
  rw[Ai ((k2:Int)+1) (by omega) (by omega),Ai (D-1) (by omega) (by omega)]
  refine ih _ (by omega) hw (by omega) (by omega) (by omega) (by omega) fun r hr=>⟨⟨rfl,rfl,rfl,rfl,k2+1,by omega,by omega,?_,?_,?_⟩,by dsimp only;omega⟩
  ·rcases hr with hr | hr<;>omega
  ·rcases hr with hr | hr
   ·omega
   ·have:=Vl.sz_pos (.mk s' l' f');omega
  ·intro hr0
   rcases hr with hr | hr
   ·omega
   ·rw[e1,e2];omega
theorem Tw:∀(N:Nat) (v:Vl),v.sz<=N->N<=2000000->∀{st:St} {cs:List TV} {K:Int->St->Prop},VlR St.zero v cs->(∀w:Int,(v.cnt:Int)+w=v.sz->K w st)->
  CallT PR Bn [.agg cs] [.one (.int .i64)] st K:=by
 intro N
 induction N with
 | zero=>intro v h;have:=v.sz_pos;omega
 | succ N ih=>
 intro v hN hN2 st cs K h hk
 cases v with
 | mk s l f=>
 have hsz:=szs s l f
 have hct:=Zt s l f
 have hll:=DY l
 have hfl:=EC f
 have hc1:=NV l
 have hc2:=NW f
 obtain⟨ub,ul,uf,xl,xf,rfl,h1,h2,h3,h4,h5⟩:=h.cells
 refine HU _ _ _ _ _ _ _ _ _ _ _ _ _ st K (Ab h1.isSl ?_)
 refine⟨fun zn zi k bo ng dg ex tk td tn tz tx u0 u1 u2 st'=>ul=u1/\uf=u2/\st=st'/\∃k:Nat,zi=(k:Int)/\k<=l.length/\zn+(AX (l.take k):Int)=(s.bytes.length:Int)+s.text.length+s.dg.length+A3 (l.take k),
  fun _ zi _ _ _ _ _ _ _ _ _ _ _ _ _ _=>(l.length-zi).toNat,⟨rfl,rfl,rfl,0,rfl,Nat.zero_le _,?_⟩,?_⟩
 ·rw[h1.lenS,Ai ((s.text.length:Int)+(s.bytes.length:Nat)) (by omega) (by omega),Ai _ (by omega) (by omega),List.take_zero]
  simp only[AX,A3];omega
 rintro zn _ _ _ _ _ _ _ _ _ _ _ _ _ _ _ ⟨rfl,rfl,rfl,k,rfl,hkl,z1⟩
 have b1:=Qa l k
 have b2:A3 (l.take k)<=A3 l:=by
  conv=>rhs;rw[<-List.take_append_drop k l,Ty]
  omega
 have b3:=NV (l.take k)
 refine Ab h2.isSl (Aa (fun g=>?_) fun g=>?_)
 ·rw[h2.lenS]at g
  refine QG (Db _) h2 h3 rfl (by omega) fun s' l' f' ub1 ul1 uf1 gw hw on=>?_
  have hwsz:=IV gw
  have e1:=QN gw
  have e2:=N5 gw
  have e3:=S7 (.mk s' l' f')
  rw[Ai ((k:Int)+1) (by omega) (by omega)]
  refine ih _ (by omega) (by omega) hw fun r hr=>⟨⟨rfl,rfl,rfl,k+1,by omega,by omega,?_⟩,by dsimp only;omega⟩
  rw[Ai _ (by omega) (by omega),e1,e2];omega
 ·have hkk:k=l.length:=by rw[h2.lenS]at g;omega
  rw[hkk,List.take_of_length_le (Nat.le_refl _)]at z1
  refine⟨fun yn zi k bo ng dg ex tk td tn tz tx u0 u1 u2 st'=>uf=u2/\st=st'/\∃k:Nat,zi=(k:Int)/\k<=f.length/\yn+(AX l:Int)+Bg (f.take k)=(s.bytes.length:Int)+s.text.length+s.dg.length+A3 l+BC (f.take k),
   fun _ zi _ _ _ _ _ _ _ _ _ _ _ _ _ _=>(f.length-zi).toNat,⟨rfl,rfl,0,rfl,Nat.zero_le _,by rw[List.take_zero];simp only[Bg,BC];omega⟩,?_⟩
  rintro yn _ _ _ _ _ _ _ _ _ _ _ _ _ _ _ ⟨rfl,rfl,k2,rfl,hkl2,y1⟩
  have b4:Bg (f.take k2)<=Bg f:=by
   conv=>rhs;rw[<-List.take_append_drop k2 f,RB]
   omega
  have b5:BC (f.take k2)<=BC f:=by
   conv=>rhs;rw[<-List.take_append_drop k2 f,UV]
   omega
  have b6:=NW (f.take k2)
  refine Ab h4.isSl (Aa (fun g8=>?_) fun g8=>?_)
  case refine_2=>
   have hkk2:k2=f.length:=by rw[h4.lenS]at g8;omega
   rw[hkk2,List.take_of_length_le (Nat.le_refl _)]at y1
   exact hk _ (by rw[hsz,hct];omega)
  rw[h4.lenS]at g8
  have hlt:k2<f.length:=by omega
  obtain⟨dd,hdd⟩:∃d,f[k2]? =some d:=⟨_,List.getElem?_eq_getElem hlt⟩
  obtain⟨key,w⟩:=dd
  obtain⟨s',l',f'⟩:=w
  have hky:∀st,Ad st [] (.t (Ao (ixT 14 uf k2) 0)) 0=some (.str key):=fun st=>keyLd (st:=st) (Db st) h4 h5 hdd
  refine⟨⟨by omega,by rw[h4.lenZ];omega⟩,Ab (h4.isPtr hlt) (Ac (hky _) (Al ?_))⟩
  refine val14 (Db _) h4 h5 rfl hlt fun key' s' l' f' ub1 ul1 uf1 gw hw on=>?_
  rw[hdd]at gw
  cases gw
  have hwsz:=Jv hdd
  have e1:=Ry hdd
  have e2:=Pv hdd
  have e3:=szd key (.mk s' l' f')
  have e4:=fcnt key (.mk s' l' f')
  have e5:=S7 (.mk s' l' f')
  rw[Ai ((k2:Int)+1) (by omega) (by omega)]
  refine ih _ (by omega) (by omega) hw fun r hr=>⟨hky _,⟨rfl,rfl,k2+1,by omega,by omega,?_⟩,by dsimp only;omega⟩
  rw[Ai (yn+_) (by omega) (by omega),Ai _ (by omega) (by omega),e1,e2];omega
theorem VN {v:Vl} {cs:List TV} {st:St} {K:Bool->St->Prop} (h:VlR St.zero v cs) (hk:∀b:Bool,(b=true->v.sz<=20150/\v.cnt<=150)->K b st):
  CallT PR De [.agg cs] [.one .bool] st K:=by
 have h0:=h
 obtain⟨s,l,f⟩:=v
 obtain⟨ub,ul,uf,xl,xf,rfl,_⟩:=h.cells
 refine IM _ _ _ _ _ _ _ _ _ _ _ _ _ st K (Yy _ _ (Nat.le_refl _) h0 (by decide) (by decide) (by decide) (by decide) fun r hr=>Aa (fun g=>?_) fun g=>hk false (fun h=>by cases h))
 rcases hr with hr | ⟨hr0,hr1,hr2⟩
 ·omega
 refine Tw 2000000 _ (by omega) (Nat.le_refl _) h0 fun w hw=>hk _ fun hb=>?_
 rw[decide_eq_true_eq]at hb
 omega
def Tn (es:List (B8×TV)) (ks:List B8):Prop:=(∀(i:Nat) t,ks[i]? =some t->BP t es=some (.int .i64 i))/\∀t,t∉ks->BP t es=none
theorem Tn.nil:Tn [] []:=⟨fun i t h=>by simp at h,fun t _=>rfl⟩
theorem Tn.add {es:List (B8×TV)} {ks:List B8} (h:Tn es ks) {t:B8} (hn:t∉ks):Tn (Ji t (.int .i64 ks.length) es) (ks++[t]):=by
 refine⟨fun i u hu=>?_,fun u hu=>?_⟩
 ·rw[Io]
  by_cases hi:i<ks.length
  ·rw[List.getElem?_append_left hi]at hu
   rw[if_neg fun e=>hn (by subst e;exact List.mem_of_getElem? hu)]
   exact h.1 i u hu
  ·rw[List.getElem?_append_right (by omega)]at hu
   obtain⟨h1,h2⟩:=List.getElem?_eq_some_iff.1 hu
   simp only[List.length_singleton]at h1
   have:i=ks.length:=by omega
   subst this
   simp only[Nat.sub_self,List.getElem_cons_zero]at h2
   rw[if_pos h2.symm]
 ·rw[List.mem_append,List.mem_singleton,not_or]at hu
  rw[Io,if_neg hu.2]
  exact h.2 u hu.1
theorem Ng {st0 st:St} {s:Sc} {ub ul uf:TV} {xf:List TV} {f:List Fd} (hke:BG st0 st) (h4:SlR st0 14 uf f.length xf) (h5:FsR st0 f xf) (hN:f.length<=2000000) (hnd:(f.map Fd.key).Nodup) {K:TV->St->Prop} (hk:∀st' es,Am st st'->st.nb<st'.nb->st'.box st.nb= .map es->Tn es (f.map Fd.key)->K (.map st.nb) st'):
  CallT PR BS [.agg (Bo s ub ul uf)] [.one .tv] st K:=by
 refine Nx _ _ _ _ _ _ _ _ _ _ _ _ _ st K (Ab h4.isSl ⟨fun i m u n st'=> .map st.nb=m/\uf=u/\(f.length:Int)=n/\∃(k:Nat) (es:List (B8×TV)),i=k/\k<=f.length/\Am st st'/\st.nb<st'.nb/\st'.box st.nb= .map es/\Tn es ((f.take k).map Fd.key),fun i _ _ _ _=>(f.length-i).toNat,
  ⟨rfl,rfl,by rw[h4.lenS],0,[],rfl,Nat.zero_le _,(Am.refl st).push _ _,by simp[St.push],by simp[St.push],Tn.nil⟩,?_⟩)
 rintro _ _ _ _ st1 ⟨rfl,rfl,rfl,k,es,rfl,hkf,e1,hb,hm,hI⟩
 refine Aa (fun g=>?_) fun g=>?_
 ·refine U0 (hke.trans e1.keeps) h4 h5 rfl (by omega) fun key s' l' f' ub1 ul1 uf1 gw hw on=>Ab on ⟨es,hm,?_⟩
  rw[Ai _ (by omega) (by omega)]
  have hks:(f.take (k+1)).map Fd.key=(f.take k).map Fd.key++[key]:=by
   rw[List.take_add_one,gw,List.map_append];rfl
  have hni:key∉(f.take k).map Fd.key:=by
   have h1:((f.take (k+1)).map Fd.key).Nodup:=by rw[List.map_take];exact hnd.sublist (List.take_sublist _ _)
   rw[hks,List.nodup_append]at h1
   exact fun hm=>h1.2.2 key hm key (List.mem_singleton.2 rfl) rfl
  have hI2:=hI.add hni
  rw[<-hks,List.length_map,List.length_take,Nat.min_eq_left hkf]at hI2
  exact⟨⟨rfl,rfl,rfl,k+1,_,by omega,by omega,StX.ext e1 (StX.put (S:=fun i=>i=st.nb) rfl _) (fun i hi=>by rw[hi];exact Nat.le_refl _),hb,by simp[St.put],hI2⟩,by dsimp only;omega⟩
 ·have:k=f.length:=by omega
  subst this
  rw[List.take_length]at hI
  exact hk st1 es e1 hb hm hI
theorem Oi (x_0:Int) (x_1:Bool) (x_2:Bool) (x_3:B8) (x_4:Int) (x_5:Int) (x_6:Int) (x_7:Int) (x_8:Int) (x_9:B8) (x_10:TV) (x_11:TV) (x_12:TV) (columns:TV) (st:St) (K:TV->St->Prop) (h:BId (x_0=6) (K x_11 st) (need (isSl x_12) (((0<=(lenS x_12:Int)/\(lenS x_12:Int)<=(lenS x_12:Int)/\Int.toNat (lenS x_12:Int)*168<=140737488355328)/\need (isSl x_12) (∃(I1:Int->TV->TV->TV->Int->St->Prop) (M1:Int->TV->TV->TV->Int->St->Nat),(I1 0 columns ((.ms 13 st.nb 0 (Int.toNat (lenS x_12:Int)) (Int.toNat (lenS x_12:Int)))) x_12 ((lenS x_12:Int)) (st.push (.cells (GX (cV 0 false false [] 0 0 0 0 0 [] .nilSlice .nilSlice .nilSlice) (Int.toNat (lenS x_12:Int)*13))) (some 63)))/\∀b a c e f d,I1 b a c e f d->(BId (b<f) (((0<=b/\b<(lenZ 14 e:Int))/\Ae ((Ah d [] (.t (ixT 14 e b.toNat)) 0 14).map TV.agg) (fun (x1:TV)=>AK [.str,.int .i64,.bool,.bool,.str,.int .i64,.int .i64,.int .i64,.int .i64,.int .i64,.str,.tv,.tv,.tv] x1 (fun (s1:B8) (n1:Int) (b1 b2:Bool) (s2:B8) (n2 n3 n4 n5 n6:Int) (s3:B8) (v1 v2 v3:TV)=>need (List.all [.str s1,.int .i64 n1,.bool b1,.bool b2,.str s2,.int .i64 n2,.int .i64 n3,.int .i64 n4,.int .i64 n5,.int .i64 n6,.str s3,v1,v2,v3] As) (Ae (EA d a) (fun (es1:List (B8×TV))=>Af (.int .i64) (Ge (.int .i64 0) (BP s1 es1)) (fun (n7:Int)=>((0<=n7/\n7<(lenZ 13 c:Int))/\need (List.all (cV n1 b1 b2 s2 n2 n3 n4 n5 n6 s3 v1 v2 v3) As) (stB d (ixT 13 c n7.toNat) (cV n1 b1 b2 s2 n2 n3 n4 n5 n6 s3 v1 v2 v3) (fun g=>(I1 ((i64.wrap (b+(1:Int)))) a c e f g/\M1 ((i64.wrap (b+(1:Int)))) a c e f g<M1 b a c e f d))))))))))) (K c d))))))):CallT PR G9 [(.agg (cV x_0 x_1 x_2 x_3 x_4 x_5 x_6 x_7 x_8 x_9 x_10 x_11 x_12)),columns] [.one .tv] st K:=
 Ag (cfg:=⟨[2,7],[16],[]⟩) (h:=(.seq .none (.seq .none (.seq .none (.seq (.seq .none (.block (.loop ⟨[(20,.int .i64),(1,.tv),(5,.tv),(18,.tv),(19,.int .i64)],[],[],[]⟩ .none))) .none))))) mixed (fun _ _=>Tryz.call259 _ _) Tryz.func259 (by kernel_rfl) (by kernel_rfl) h
theorem WA:∀{cks:List (List TV)} {i:Nat} {c:List TV},(∀c,c∈cks->c.length=13)->cks[i]? =some c->∃A B,cks.flatten=A++c++B/\A.length=i*13/\∀d:List TV,(cks.set i d).flatten=A++d++B
 | [],i,c,_,hi=>by simp at hi
 | x::r,0,c,h,hi=>by
  simp only[List.getElem?_cons_zero,Option.some.injEq]at hi
  subst hi
  exact⟨[],r.flatten,by simp,by simp,fun d=>by simp⟩
 | x::r,i+1,c,h,hi=>by
  simp only[List.getElem?_cons_succ]at hi
  obtain⟨A,B,h1,h2,h3⟩:=WA (fun c hc=>h c (.tail _ hc)) hi
  have hx:=h x (.head _)
  exact⟨x++A,B,by simp[h1],by rw[List.length_append,h2,hx];omega,fun d=>by simp[h3]⟩
theorem In:∀{cks:List (List TV)},(∀c,c∈cks->c.length=13)->cks.flatten.length=cks.length*13
 | [],_=>rfl
 | x::r,h=>by
  rw[List.flatten_cons,List.length_append,In fun c hc=>h c (.tail _ hc),h x (.head _),List.length_cons];omega
theorem zrep13 {z:List TV} (hz:z.length=13) (n:Nat):GX z (n*13)=(List.replicate n z).flatten:=by
 refine List.ext_getElem? fun i=>?_
 unfold GX
 rw[List.getElem?_map]
 have hlen:=In (cks:=List.replicate n z) (fun c hc=>by rw[(List.mem_replicate.1 hc).2];exact hz)
 rw[List.length_replicate]at hlen
 by_cases hi:i<n*13
 ·rw[List.getElem?_range hi]
  have hr:(List.replicate n z)[i/13]? =some z:=by rw[List.getElem?_replicate,if_pos (by omega)]
  obtain⟨A,B,h1,h2,_⟩:=WA (fun c hc=>by rw[(List.mem_replicate.1 hc).2];exact hz) hr
  have hm:i%13<z.length:=by rw[hz];omega
  rw[h1,List.append_assoc,List.getElem?_append_right (by omega),show i-A.length=i%13 by omega,List.getElem?_append_left hm,List.getElem?_eq_getElem hm]
  simp[List.getD,hz,hm,List.getElem?_eq_getElem hm]
 ·rw[List.getElem?_eq_none (by rw[List.length_range];omega),List.getElem?_eq_none (by rw[hlen];omega)];rfl
theorem vs_of {st:St}:∀{vs:List Vl} {cks:List (List TV)},vs.length=cks.length->(∀(i:Nat) (v:Vl),vs[i]? =some v->∃c,cks[i]? =some c/\VlR st v c)->VsR st vs cks.flatten
 | [],[],_,_=>VsR.nil _
 | v::vs,c::cks,hl,h=>by
  obtain⟨c',h1,h2⟩:=h 0 v rfl
  simp only[List.getElem?_cons_zero,Option.some.injEq]at h1
  subst h1
  rw[List.flatten_cons]
  exact VsR.cons h2 (vs_of (by simpa using hl) fun i v hv=>h (i+1) v hv)
 | [],_::_,hl,_=>by simp at hl
 | _::_,[],hl,_=>by simp at hl
theorem YP {st st':St} {b:Nat} {es:List (B8×TV)} (e:Am st st') (hb:b<st.nb) (h:st.box b= .map es):EA st' (.map b)=some es:=by
 have:st'.box b= .map es:=(e.box b hb).trans h
 simp only[EA,this]
theorem back_key {f:List Fd} {ks:List B8} (hfn:BT f) (hkn:ks.Nodup) (hl:f.length=ks.length) (hsub:∀d,d∈f->d.key∈ks) {t:B8} (ht:t∈ks):∃d,d∈f/\d.key=t:=by
 have hp:ks.Perm (f.map Fd.key):=by
  refine(O2 _ _ hfn (by rw[List.length_map];omega) fun t ht=>?_).symm
  obtain⟨d,hd,rfl⟩:=List.mem_map.1 ht
  exact hsub d hd
 obtain⟨d,hd,h⟩:=List.mem_map.1 (hp.subset ht)
 exact⟨d,hd,h⟩
theorem SlR.box13 {st:St} {b n:Nat} {xs:List TV} (hb:b<st.nb) (h:st.box b= .cells xs) (hl:xs.length=n*13):SlR st 13 (.ms 13 b 0 n n) n xs:=
 .inr ⟨b,0,n,xs,rfl,hb,h,by omega,Nat.le_refl _,by rw[List.drop_zero,List.take_of_length_le (by omega)]⟩
def ClR (m:Nat) (st:St) (u:TV) (n:Nat) (xs:List TV):Prop:=Rd 13 u n xs∨∃b,u= .ms 13 b 0 n n/\m<=b/\b<st.nb/\st.box b= .cells xs/\xs.length=n*13
theorem ClR.sl {m:Nat} {st:St} {u:TV} {n:Nat} {xs:List TV} (h:ClR m st u n xs):SlR st 13 u n xs:=by
 rcases h with h | ⟨b,rfl,_,h1,h2,h3⟩
 ·exact .inl h
 ·exact SlR.box13 h1 h2 h3
theorem ClR.but {m b:Nat} {st st':St} {u:TV} {n:Nat} {xs:List TV} (h:ClR m st u n xs) (hb:b<m) (k:But b st st'):ClR m st' u n xs:=by
 rcases h with h | ⟨c,rfl,h0,h1,h2,h3⟩
 ·exact .inl h
 ·exact .inr ⟨c,rfl,h0,Nat.lt_of_lt_of_le h1 k.1,by rw[k.2 c (by omega) h1];exact h2,h3⟩
def zV13:List TV:=[.int .i64 0,.bool false,.bool false,.str [],.int .i64 0,.int .i64 0,.int .i64 0,.int .i64 0,.int .i64 0,.str [],.nilSlice,.nilSlice,.nilSlice]
theorem YV {st:St} {s:Sc} {l:List Vl} {f:List Fd} {ub ul uf:TV} {mb:Nat} {xl xf:List TV} {es:List (B8×TV)} {ks:List B8} (hke:BG St.zero st) (h2:SlR St.zero 13 ul l.length xl) (h3:VsR St.zero l xl) (h4:SlR St.zero 14 uf f.length xf) (h5:FsR St.zero f xf) (hN:f.length<=2000000)
  (hmb:mb<st.nb) (hm:st.box mb= .map es) (hI:Tn es ks) (hkn:ks.Nodup) (hfn:BT f) (hlen:s.kind≠6->f.length=ks.length/\∀d,d∈f->d.key∈ks)
  {K:TV->St->Prop} (hk:∀st' u xs,Am st st'->ClR st.nb st' u (if s.kind=6 then l else ks.map fun k=>(Dz f k).1).length xs->VsR St.zero (if s.kind=6 then l else ks.map fun k=>(Dz f k).1) xs->K u st'):
  CallT PR G9 [.agg (Bo s ub ul uf),.map mb] [.one .tv] st K:=by
 refine Oi _ _ _ _ _ _ _ _ _ _ _ _ _ (.map mb) st K (Aa (fun g=>?_) fun g=>?_)
 ·rw[if_pos g]at hk
  exact hk st ul xl (Am.refl st) (.inl h2.zero) h3
 rw[if_neg g]at hk
 obtain⟨hl1,hsub⟩:=hlen g
 refine Ab h4.isSl ⟨by rw[h4.lenS];exact⟨by omega,by omega,by omega⟩,Ab h4.isSl ?_⟩
 rw[h4.lenS,Int.toNat_natCast,zrep13 rfl]
 have hz13:zV13.length=13:=rfl
 refine⟨fun i c u v n st'=> .map mb=c/\.ms 13 st.nb 0 f.length f.length=u/\uf=v/\(f.length:Int)=n/\∃(k:Nat) (cks:List (List TV)),i=k/\k<=f.length/\Am st st'/\st.nb<st'.nb/\st'.box st.nb= .cells cks.flatten/\cks.length=f.length/\(∀c,c∈cks->c.length=13)/\
   ∀(j:Nat) (d:Fd) (i':Nat),j<k->f[j]? =some d->ks[i']? =some d.key->∃c,cks[i']? =some c/\VlR St.zero d.val c,fun i _ _ _ _ _=>(f.length-i).toNat,
  ⟨rfl,rfl,rfl,rfl,0,List.replicate f.length zV13,rfl,Nat.zero_le _,(Am.refl st).push _ _,by simp[St.push],Fq _ _ _,List.length_replicate,fun c hc=>by rw[(List.mem_replicate.1 hc).2];exact hz13,fun j d i' hj=>by omega⟩,?_⟩
 rintro _ _ _ _ _ st1 ⟨rfl,rfl,rfl,rfl,k,cks,rfl,hkf,e1,hb,hbx,hcl,hc13,hin⟩
 refine Aa (fun g=>?_) fun g=>?_
 ·refine U0 (hke.trans e1.keeps) h4 h5 rfl (by omega) fun key s' l' f' ub1 ul1 uf1 gw hw on=>Ab on ?_
  have hmem:=Bl gw
  obtain⟨p,hp⟩:=List.getElem?_of_mem (hsub _ hmem)
  replace hp:ks[p]? =some key:=hp
  have hplt:p<ks.length:=(List.getElem?_eq_some_iff.1 hp).1
  refine Ac (YP e1 hmb hm) ?_
  rw[hI.1 p key hp]
  refine AA ⟨⟨by omega,by show(p:Int)<((f.length:Nat):Int);omega⟩,Ab (by have:=on;rw[List.all_cons,Bool.and_eq_true]at this;exact this.2) ?_⟩
  obtain⟨c,hc⟩:∃c,cks[p]? =some c:=⟨_,List.getElem?_eq_getElem (by omega)⟩
  obtain⟨A,B,hA,hAl,hset⟩:=WA hc13 hc
  have hcc:=hc13 c (List.mem_of_getElem? hc)
  refine ZL (b:=st.nb) (off:=0+p*13) hbx ?_ fun st2 e2 b2=>?_
  ·rw[In hc13,hcl];show 0+p*13+13<=_;omega
  rw[Nat.zero_add,<-hAl,hA,H9 _ A c B (by rw[hcc];rfl),<-hset]at b2
  rw[Ai _ (by omega) (by omega)]
  refine⟨⟨rfl,rfl,rfl,rfl,k+1,_,by omega,by omega,StX.ext e1 e2 (fun i hi=>by rw[hi];exact Nat.le_refl _),Nat.lt_of_lt_of_le hb e2.nb,b2,by rw[List.length_set];exact hcl,fun x hx=>?_,fun j d i' hj hd hi'=>?_⟩,by dsimp only;omega⟩
  ·rcases List.mem_or_eq_of_mem_set hx with hx | rfl
   ·exact hc13 x hx
   ·rfl
  ·by_cases hjk:j=k
   ·subst hjk
    rw[gw]at hd
    cases hd
    have:i'=p:=by
     have h1:=(List.getElem?_eq_some_iff.1 hi').1
     exact(List.getElem?_inj h1 hkn).1 (hi'.trans hp.symm)
    subst this
    exact⟨Bo s' ub1 ul1 uf1,by rw[List.getElem?_set_self (by omega)];rfl,hw⟩
   ·obtain⟨c2,h6,h7⟩:=hin j d i' (by omega) hd hi'
    refine⟨c2,?_,h7⟩
    rw[List.getElem?_set_ne (fun e=>?_)]
    ·exact h6
    ·subst e
     have:d.key=key:=Option.some.inj (hi'.symm.trans hp)
     have hidx:(f.map Fd.key)[j]? =(f.map Fd.key)[k]? :=by rw[List.getElem?_map,List.getElem?_map,hd,gw];simp only[Option.map_some,Option.some.injEq];exact this
     exact hjk ((List.getElem?_inj (by rw[List.length_map];exact(List.getElem?_eq_some_iff.1 hd).1) hfn).1 hidx)
 ·have:k=f.length:=by omega
  subst this
  refine hk st1 _ cks.flatten e1 ?_ ?_
  ·rw[List.length_map,<-hl1]
   exact .inr ⟨st.nb,rfl,Nat.le_refl _,hb,hbx,by rw[In hc13,hcl]⟩
  ·refine vs_of (by rw[List.length_map];omega) fun i v hv=>?_
   rw[List.getElem?_map,Option.map_eq_some_iff]at hv
   obtain⟨t,ht,rfl⟩:=hv
   obtain⟨d,hd,rfl⟩:=back_key hfn hkn hl1 hsub (List.mem_of_getElem? ht)
   rw[RD hfn hd]
   obtain⟨j,hj⟩:=List.getElem?_of_mem hd
   obtain⟨c,h6,h7⟩:=hin j d i (List.getElem?_eq_some_iff.1 hj).1 hj ht
   exact⟨c,h6,h7⟩
def ShX (hd:Bool) (first x:Vl):Prop:=(hd=false->x.sc.kind=6/\x.list≠ []/\x.list.length=first.list.length)/\(hd=true->x.sc.kind=7/\x.flds≠ []/\x.flds.length=first.flds.length/\∀f,f∈x.flds->f.key∈first.flds.map Fd.key)
theorem Yt {hd:Bool} {v:Vl}:Ev hd v↔v.sc.kind=6/\∀x,x∈v.list->ShX hd (v.list.headD vlZ) x:=
 ⟨fun h=>⟨h.kind,fun x hx=>⟨fun e=>h.lst e x hx,fun e=>h.map e x hx⟩⟩,fun h=>⟨h.1,fun e x hx=>(h.2 x hx).1 e,fun e x hx=>(h.2 x hx).2 e⟩⟩
def SmV (s:Sc) (ub ul uf:TV) (a q:Int) (hd ty:Bool) (n1:Int) (b1 b2:Bool) (s1:B8) (n2 n3 n4 n5 n6:Int) (s2:B8) (v1 v2 v3:TV) (n7 n8:Int) (b3 b4:Bool):Prop:=
 s.kind=n1/\s.b=b1/\s.neg=b2/\s.dg=s1/\s.ex=n2/\s.tk=n3/\s.td=n4/\s.tn=n5/\s.tz=n6/\s.text=s2/\ub=v1/\ul=v2/\uf=v3/\a=n7/\q=n8/\hd=b3/\ty=b4
theorem SmV.refl (s:Sc) (ub ul uf:TV) (a q:Int) (hd ty:Bool):SmV s ub ul uf a q hd ty s.kind s.b s.neg s.dg s.ex s.tk s.td s.tn s.tz s.text ub ul uf a q hd ty:=⟨rfl,rfl,rfl,rfl,rfl,rfl,rfl,rfl,rfl,rfl,rfl,rfl,rfl,rfl,rfl,rfl,rfl⟩
theorem len_ne {α:Type} {l:List α} (h:(l.length:Int)≠0):l≠ []:=fun e=>h (by rw[e];rfl)
theorem Oq {v:Vl} (h:AS v):BT v.flds:=by
 by_cases h7:v.sc.kind=7
 ·exact(Cl h h7).2.2.1
 ·obtain⟨s,l,f⟩:=v
  have hf:f=[]:=h.own.1.own.fs h7
  subst hf
  exact List.nodup_nil
theorem Wx {v:Vl} {cs:List TV} {a q:Int} {hd ty:Bool} {st:St} {K:Bool->St->Prop} (hV:AS v) (hN:v.sz<=2000000) (h:VlR St.zero v cs) (hk1:Ev hd v->∀st',Am st st'->K true st') (hk2:¬Ev hd v->∀st',Am st st'->K false st'):
  CallT PR Gm [.agg cs,.agg [.int .u8 a,.int .u8 q,.bool hd,.bool ty]] [.one .bool] st K:=by
 obtain⟨s,l,f⟩:=v
 obtain⟨ub,ul,uf,xl,xf,rfl,_,h2,h3,h4,h5⟩:=h.cells
 have hsz:=szs s l f
 have hll:=DY l
 refine Oh _ _ _ _ _ _ _ _ _ _ _ _ _ a q hd ty st K (Aa (fun g=>hk2 (fun hs=>g hs.kind) _ (Am.refl _)) fun g=>?_)
 have hk6:s.kind=6:=by omega
 obtain⟨_,hval⟩:=BY hV hk6
 replace hval:∀x,x∈l->AS x:=hval
 have iff:Ev hd (.mk s l f)↔s.kind=6/\∀x,x∈l->ShX hd (l.headD vlZ) x:=Yt
 refine Ab h2.isSl ⟨fun i u n n1 b1 b2 s1 n2 n3 n4 n5 n6 s2 v1 v2 v3 n7 n8 b3 b4 st'=>ul=u/\(l.length:Int)=n/\SmV s ub ul uf a q hd ty n1 b1 b2 s1 n2 n3 n4 n5 n6 s2 v1 v2 v3 n7 n8 b3 b4/\∃k:Nat,i=k/\k<=l.length/\Am st st'/\∀(j:Nat) x,j<k->l[j]? =some x->ShX hd (l.headD vlZ) x,fun i _ _ _ _ _ _ _ _ _ _ _ _ _ _ _ _ _ _ _ _=>(l.length-i).toNat,
  ⟨rfl,by rw[h2.lenS],SmV.refl ..,0,rfl,Nat.zero_le _,Am.refl _,fun j x hj=>by omega⟩,?_⟩
 rintro _ _ _ _ _ _ _ _ _ _ _ _ _ _ _ _ _ _ _ _ st1 ⟨rfl,rfl,⟨rfl,rfl,rfl,rfl,rfl,rfl,rfl,rfl,rfl,rfl,rfl,rfl,rfl,rfl,rfl,rfl,rfl⟩,k,rfl,hkl,e1,hall⟩
 refine Aa (fun g1=>?_) fun g1=>?_
 ·have hk0:BG St.zero st1:=Db _
  refine QG hk0 h2 h3 rfl (by omega) fun s' l' f' ub1 ul1 uf1 gx hx on=>Ab on ?_
  refine QG (i:=0) (k:=0) hk0 h2 h3 rfl (by omega) fun s0 l0 f0 ub0 ul0 uf0 g0 hx0 on0=>?_
  have hfirst:l.headD vlZ= .mk s0 l0 f0:=by
   cases l with
   | nil=>cases g0
   | cons y r=>simp only[List.getElem?_cons_zero,Option.some.injEq]at g0;exact g0
  rw[hfirst]at hall iff
  have bad:¬ShX hd (.mk s0 l0 f0) (.mk s' l' f')->∀st',Am st st'->K false st':=fun hn=>hk2 fun hs=>hn ((iff.1 hs).2 _ (Bl gx))
  have next:ShX hd (.mk s0 l0 f0) (.mk s' l' f')->∀(j:Nat) x,j<k+1->l[j]? =some x->ShX hd (.mk s0 l0 f0) x:=fun hy j x hj hjx=>by
   by_cases hjk:j=k
   ·subst hjk;rw[gx]at hjx;cases hjx;exact hy
   ·exact hall j x (by omega) hjx
  obtain⟨_,_,_,_,_,hc1,_,q2,q3,q4,q5⟩:=hx.cells
  obtain⟨_,_,_,_,_,hc0,_,p2,p3,p4,p5⟩:=hx0.cells
  cases hc1
  cases hc0
  refine Ab on0 (Ap (fun gh=>?_) fun gh=>?_)
  ·have hh:hd=false:=by simpa using gh
   subst hh
   refine Aa (fun g2=>bad (fun hs=>g2 (hs.1 rfl).1) _ e1) fun g2=>Ab q2.isSl ?_
   rw[q2.lenS]
   refine Aa (fun g3=>bad (fun hs=>(hs.1 rfl).2.1 (Rn.1 g3)) _ e1) fun g3=>Ab q2.isSl (Ab p2.isSl ?_)
   rw[p2.lenS]
   refine Aa (fun g4=>bad (fun hs=>g4 (by rw[show l'.length=l0.length from(hs.1 rfl).2.2])) _ e1) fun g4=>?_
   rw[Ai _ (by omega) (by omega)]
   exact⟨⟨rfl,rfl,SmV.refl ..,k+1,by omega,by omega,e1,fun j x hj hjx=>by
    rw[hfirst]
    exact next ⟨fun _=>⟨by show s'.kind=6;omega,len_ne g3,by show l'.length=l0.length;omega⟩,fun h=>by cases h⟩ j x hj hjx⟩,by dsimp only;omega⟩
  ·have hh:hd=true:=by simpa using gh
   subst hh
   refine Ap (fun _=>?_) fun g=>by cases g
   refine Aa (fun g2=>bad (fun hs=>g2 (hs.2 rfl).1) _ e1) fun g2=>Ab q4.isSl ?_
   rw[q4.lenS]
   refine Aa (fun g3=>bad (fun hs=>(hs.2 rfl).2.1 (Rn.1 g3)) _ e1) fun g3=>Ab q4.isSl (Ab p4.isSl ?_)
   rw[p4.lenS]
   refine Aa (fun g4=>bad (fun hs=>g4 (by rw[show f'.length=f0.length from(hs.2 rfl).2.2.1])) _ e1) fun g4=>Ap (fun _=>?_) fun g=>by cases g
   have hnd:BT f0:=Oq (hval _ (Bl g0))
   have hsz0:=Ff (Bl g0)
   have hsz1:=Ff (Bl gx)
   have hs0:=szs s0 l0 f0
   have hs1:=szs s' l' f'
   have hf0:=EC f0
   have hf1:=EC f'
   refine Ng hk0 p4 p5 (by omega) hnd fun st2 es e2 hb2 hm2 hI=>Ab q4.isSl ⟨fun i c u n n' u' m n1 b1 b2 s1 n2 n3 n4 n5 n6 s2 v1 v2 v3 n7 n8 b3 b4 st'=> .map st1.nb=c/\ul=u/\(l.length:Int)=n/\(k:Int)=n'/\uf1=u'/\(f'.length:Int)=m/\SmV s ub ul uf a q true ty n1 b1 b2 s1 n2 n3 n4 n5 n6 s2 v1 v2 v3 n7 n8 b3 b4/\st2=st'/\∃p:Nat,i=p/\p<=f'.length/\∀(j:Nat) d,j<p->f'[j]? =some d->d.key∈f0.map Fd.key,
    fun i _ _ _ _ _ _ _ _ _ _ _ _ _ _ _ _ _ _ _ _ _ _ _ _=>(f'.length-i).toNat,⟨rfl,rfl,rfl,rfl,rfl,by first | rfl | rw[q4.lenS],SmV.refl ..,rfl,0,rfl,Nat.zero_le _,fun j d hj=>by omega⟩,?_⟩
   rintro _ _ _ _ _ _ _ _ _ _ _ _ _ _ _ _ _ _ _ _ _ _ _ _ _ ⟨rfl,rfl,rfl,rfl,rfl,rfl,⟨rfl,rfl,rfl,rfl,rfl,rfl,rfl,rfl,rfl,rfl,rfl,rfl,rfl,rfl,rfl,rfl,rfl⟩,rfl,p,rfl,hpf,hin⟩
   refine Aa (fun g5=>?_) fun g5=>?_
   ·refine U0 (Db _) q4 q5 rfl (by omega) fun key sx lx fx ubx ulx ufx gw hw onx=>Ab onx (Ac (x:=es) (by simp only[EA,hm2]) ?_)
    by_cases hkey:key∈f0.map Fd.key
    ·obtain⟨r,hr⟩:=List.getElem?_of_mem hkey
     rw[hI.1 r key hr]
     refine AA (Ap (fun h=>by cases h) fun _=>?_)
     rw[Ai _ (by omega) (by omega)]
     exact⟨⟨rfl,rfl,rfl,rfl,rfl,rfl,SmV.refl ..,rfl,p+1,by omega,by omega,fun j d hj hd=>by
      by_cases hjp:j=p
      ·subst hjp;rw[gw]at hd;cases hd;exact hkey
      ·exact hin j d (by omega) hd⟩,by dsimp only;omega⟩
    ·rw[hI.2 key hkey]
     exact AA (Ap (fun _=>bad (fun hs=>hkey ((hs.2 rfl).2.2.2 _ (Bl gw))) _ (e1.trans e2)) fun h=>by cases h)
   ·have:p=f'.length:=by omega
    subst this
    rw[Ai _ (by omega) (by omega)]
    exact⟨⟨rfl,rfl,SmV.refl ..,k+1,by omega,by omega,e1.trans e2,fun j x hj hjx=>by
     rw[hfirst]
     refine next ⟨fun h=>(by cases h),fun _=>⟨by show s'.kind=7;omega,len_ne g3,by show f'.length=f0.length;omega,fun d hd=>?_⟩⟩ j x hj hjx
     obtain⟨j2,hj2⟩:=List.getElem?_of_mem (show d∈f' from hd)
     exact hin j2 d (List.getElem?_eq_some_iff.1 hj2).1 hj2⟩,by dsimp only;omega⟩
 ·have:k=l.length:=by omega
  subst this
  exact hk1 (iff.2 ⟨hk6,fun x hx=>by
   obtain⟨j,hj⟩:=List.getElem?_of_mem hx
   exact hall j x (List.getElem?_eq_some_iff.1 hj).1 hj⟩) _ e1
def FN (a:Int):List B8->B8
 | []=>[]
 | [c]=>c
 | c::r=>c++UInt8.ofNat a.toNat::FN a r
theorem Pi (a:Int):∀cs:List B8,BW a cs=FN a cs++[10]
 | []=>rfl
 | [c]=>rfl
 | c::d::r=>by
  rw[BW,FN,Pi a (d::r)]
  ·simp
  ·simp
  ·simp
theorem Pr (a:Int) (c:B8):∀cs:List B8,FN a (cs++[c])=if cs=[]then c else FN a cs++UInt8.ofNat a.toNat::c
 | []=>rfl
 | [d]=>rfl
 | d::e::r=>by
  have ih:=Pr a c (e::r)
  rw[if_neg (by simp)]at ih⊢
  show d++UInt8.ofNat a.toNat::FN a ((e::r)++[c])=(d++UInt8.ofNat a.toNat::FN a (e::r))++_
  rw[ih];simp
theorem Wo {a:Int} {cs:List B8} {k:Nat} {c:B8} (h:cs[k]? =some c):FN a (cs.take (k+1))=(if k=0 then []else FN a (cs.take k)++[UInt8.ofNat a.toNat])++c:=by
 have hk:=(List.getElem?_eq_some_iff.1 h).1
 rw[List.take_add_one,h,Option.toList_some,Pr]
 by_cases h0:k=0
 ·subst h0;simp
 ·rw[if_neg h0,if_neg (fun e=>?_)]
  ·simp
  ·have:=congrArg List.length e
   rw[List.length_take,List.length_nil]at this;omega
theorem VI {a:Int} {l:List (List B8)} {k:Nat} {r:List B8} (h:l[k]? =some r):AU a (l.take (k+1))=AU a (l.take k)++BW a r:=by
 unfold AU
 rw[List.take_add_one,h,Option.toList_some,List.flatMap_append];simp
theorem UQ {v:Vl} {x:Vl} (hx:x∈v.list):v.list.headD vlZ∈v.list:=by
 cases hl:v.list with
 | nil=>rw[hl]at hx;cases hx
 | cons a r=>exact .head _
theorem PZ {v:Vl} (hv:AS v) (hs:Ev true v) {x:Vl} (hx:x∈v.list):((v.list.headD vlZ).flds.map fun d=>Fd.mk d.key (Dz x.flds d.key).1).Perm x.flds:=by
 have hval:=(BY hv hs.kind).2
 obtain⟨h1,h2,h3,h4⟩:=hs.map rfl x hx
 obtain⟨_,q2,q3,_⟩:=Cl (hval x hx) h1
 have hk0:=(hs.map rfl _ (UQ hx)).1
 obtain⟨_,_,g3,_⟩:=Cl (hval _ (UQ hx)) hk0
 exact SC q3 g3 h3 h4
theorem Ix {hd:Bool} {v:Vl} (hv:AS v) (hs:Ev hd v) {x:Vl} (hx:x∈v.list):∀y,y∈AT hd (v.list.headD vlZ) x->AS y:=by
 intro y hy
 have hvx:=(BY hv hs.kind).2 x hx
 unfold AT at hy
 cases hd with
 | false=>
  rw[if_neg (by decide)]at hy
  exact(BY hvx (hs.lst rfl x hx).1).2 y hy
 | true=>
  rw[if_pos rfl]at hy
  obtain⟨f,hf,rfl⟩:=List.mem_map.1 hy
  have hm:Fd.mk f.key (Dz x.flds f.key).1∈x.flds:=(PZ hv hs hx).subset (List.mem_map.2 ⟨f,hf,rfl⟩)
  exact(Cl hvx (hs.map rfl x hx).1).2.1 _ hm
theorem QM:∀f:List Fd,A3 (f.map Fd.val)<=BC f
 | []=>Nat.zero_le _
 | .mk k v::r=>by
  have ih:=QM r
  rw[List.map_cons,A3,BC,szd]
  show v.sz+_<=_
  omega
theorem MO {hd:Bool} {v:Vl} (hv:AS v) (hs:Ev hd v) {x:Vl} (hx:x∈v.list):A3 (AT hd (v.list.headD vlZ) x)<=x.sz:=by
 unfold AT
 cases hd with
 | false=>
  rw[if_neg (by decide)]
  obtain⟨s,l,f⟩:=x
  have:=szs s l f
  show A3 l<=_
  omega
 | true=>
  rw[if_pos rfl]
  have h1:=Rz (PZ hv hs hx)
  have h2:=QM ((v.list.headD vlZ).flds.map fun d=>Fd.mk d.key (Dz x.flds d.key).1)
  rw[List.map_map]at h2
  have h3:(Fd.val∘fun d:Fd=>Fd.mk d.key (Dz x.flds d.key).1)=fun f=>(Dz x.flds f.key).1:=rfl
  rw[h3]at h2
  obtain⟨s,l,f⟩:=x
  have:=szs s l f
  have h1:_=BC f:=h1
  omega
theorem Mh {a q:Int} {ty:Bool} {y:Vl} (h:AS y):(BB a q ty y.sc).length<=2*y.sc.text.length+202:=by
 unfold BB
 by_cases h4:y.sc.kind=4
 ·rw[if_pos h4]
  have h1:=Jr a q y.sc.text
  have h2:=JZ (UInt8.ofNat q.toNat) y.sc.text
  split
  ·unfold Gy
   simp only[List.length_cons,List.length_append,List.length_nil];omega
  ·omega
 ·rw[if_neg h4]
  by_cases h6:y.sc.kind<=3
  ·have:=(Z1 (Ot h (by omega)).2).2;omega
  ·unfold plT
   rw[if_neg (by omega),if_neg (by omega),if_neg (by omega)]
   exact Nat.zero_le _
theorem TP {a q:Int} {ty:Bool}:∀(ys:List Vl),(∀y,y∈ys->AS y)->BU (ys.map fun y=>BB a q ty y.sc)<=204*A3 ys
 | [],_=>Nat.zero_le _
 | y::r,h=>by
  have ih:=TP (a:=a) (q:=q) (ty:=ty) r fun y hy=>h y (.tail _ hy)
  have h1:=Mh (a:=a) (q:=q) (ty:=ty) (h y (.head _))
  obtain⟨s,l,f⟩:=y
  have h2:=szs s l f
  have h1:(BB a q ty s).length<=2*s.text.length+202:=h1
  rw[List.map_cons,BU,A3]
  show(BB a q ty s).length+_<=_
  omega
theorem MX:∀(cs:List B8) (k:Nat),BU (cs.take k)<=BU cs
 | [],k=>by simp[BU]
 | c::r,0=>by simp[BU]
 | c::r,k+1=>by
  have:=MX r k
  rw[List.take_succ_cons,BU,BU];omega
theorem Ru (a:Int):∀cs:List B8,(FN a cs).length<=BU cs+cs.length
 | []=>Nat.zero_le _
 | [c]=>by simp[FN,BU]
 | c::d::r=>by
  have:=Ru a (d::r)
  rw[FN]
  ·simp only[List.length_append,List.length_cons,BU]at this⊢;omega
  ·simp
theorem H1 (a:Int) (l m:List (List B8)):AU a (l++m)=AU a l++AU a m:=by
 unfold AU;rw[List.flatMap_append]
theorem Sm (a:Int) (l:List (List B8)) (k:Nat):(AU a (l.take k)).length<=(AU a l).length:=by
 have:AU a l=AU a (l.take k)++AU a (l.drop k):=by rw[<-H1,List.take_append_drop]
 rw[this,List.length_append];omega
theorem Nb (a q:Int):∀cs:List B8,B4 a q cs=BW a (cs.map (AO a q))
 | []=>rfl
 | [c]=>rfl
 | c::d::r=>by
  have ih:=Nb a q (d::r)
  show AO a q c++UInt8.ofNat a.toNat::B4 a q (d::r)=AO a q c++UInt8.ofNat a.toNat::BW a ((d::r).map (AO a q))
  rw[ih]
noncomputable def Hw (a q:Int) (hd ty:Bool) (first x:Vl):List B8:=(AT hd first x).map fun y=>BB a q ty y.sc
noncomputable def Gb (a q:Int) (hd ty:Bool) (v:Vl):List (List B8):=v.list.map (Hw a q hd ty (v.list.headD vlZ))
def HF (a q:Int) (hd:Bool) (v:Vl):List (List B8):=if hd=true/\v.list≠ []then [(v.list.headD vlZ).flds.map fun d=>AO a q d.key]else []
theorem Zp (a q:Int) (hd ty:Bool) (v:Vl):wrX a q hd ty v=HF a q hd v++Gb a q hd ty v:=by
 unfold HF Gb Hw
 cases h:v.list with
 | nil=>rw[NL h];simp
 | cons f r=>
  rw[N4 h]
  cases hd with
  | true=>rw[if_pos rfl,if_pos ⟨rfl,by simp⟩];rfl
  | false=>rw[if_neg (by decide),if_neg (fun h=>by cases h.1)];rfl
theorem Uk {a q:Int} {hd ty:Bool} {v:Vl} (hv:AS v) (hs:Ev hd v) {x:Vl} (hx:x∈v.list):BU (Hw a q hd ty (v.list.headD vlZ) x)<=204*x.sz/\(Hw a q hd ty (v.list.headD vlZ) x).length<=x.sz:=by
 have h1:=MO hv hs hx
 have h2:=TP (a:=a) (q:=q) (ty:=ty) _ (Ix hv hs hx)
 have h3:=DY (AT hd (v.list.headD vlZ) x)
 unfold Hw
 rw[List.length_map]
 exact⟨by omega,by omega⟩
theorem TQ {a q:Int} {hd ty:Bool} {first:Vl}:∀(l:List Vl),(∀x,x∈l->BU (Hw a q hd ty first x)<=204*x.sz/\(Hw a q hd ty first x).length<=x.sz)->Fg (l.map (Hw a q hd ty first))<=204*A3 l/\Bz (l.map (Hw a q hd ty first))<=A3 l
 | [],_=>⟨Nat.zero_le _,Nat.zero_le _⟩
 | x::r,h=>by
  obtain⟨i1,i2⟩:=TQ r fun x hx=>h x (.tail _ hx)
  obtain⟨h1,h2⟩:=h x (.head _)
  rw[List.map_cons,Fg,Bz,A3]
  exact⟨by omega,by omega⟩
theorem Yv {a q:Int} {hd ty:Bool} {v:Vl} (hv:AS v) (hs:Ev hd v):(AU a (Gb a q hd ty v)).length<=206*A3 v.list/\(Gb a q hd ty v).length+Bz (Gb a q hd ty v)<=2*A3 v.list:=by
 obtain⟨h1,h2⟩:=TQ (a:=a) (q:=q) (hd:=hd) (ty:=ty) (first:=v.list.headD vlZ) v.list fun x hx=>Uk hv hs hx
 have h3:=Ht a (Gb a q hd ty v)
 have h4:=DY v.list
 unfold Gb at h3⊢
 rw[List.length_map]at h3⊢
 exact⟨by omega,by omega⟩
theorem Ju:∀f:List Fd,BU (f.map Fd.key)<=BC f/\f.length<=BC f
 | []=>⟨Nat.zero_le _,Nat.zero_le _⟩
 | .mk k v::r=>by
  obtain⟨h1,h2⟩:=Ju r
  have h3:=v.sz_pos
  rw[List.map_cons,BU,BC,szd,List.length_cons]
  show k.length+_<=_/\_
  exact⟨by omega,by omega⟩
theorem OY (a q:Int):∀f:List Fd,BU (f.map fun d=>AO a q d.key)<=2*BU (f.map Fd.key)+2*f.length
 | []=>Nat.zero_le _
 | d::r=>by
  have ih:=OY a q r
  have:=Jr a q d.key
  simp only[List.map_cons,BU,List.length_cons];omega
theorem YU {a q:Int} {hd:Bool} {v:Vl}:(AU a (HF a q hd v)).length<=6*v.sz/\(HF a q hd v).length+Bz (HF a q hd v)<=1+v.sz:=by
 unfold HF
 split
 ·rename_i h
  obtain⟨s,l,f⟩:=v
  have h2:=h.2
  replace h2:l≠ []:=h2
  cases l with
  | nil=>exact absurd rfl h2
  | cons x r=>
   obtain⟨s',l',f'⟩:=x
   show(AU a [f'.map fun d=>AO a q d.key]).length<=_/\1+Bz [f'.map fun d=>AO a q d.key]<=_
   have h3:=Ht a [f'.map fun d=>AO a q d.key]
   have h4:=OY a q f'
   have h5:=Ju f'
   have h6:=szs s (.mk s' l' f'::r) f
   have h7:=szs s' l' f'
   simp only[A3]at h6
   simp only[Fg,Bz,List.length_cons,List.length_nil,List.length_map]at h3⊢
   exact⟨by omega,by omega⟩
 ·exact⟨Nat.zero_le _,by show 0+0<=_;omega⟩
section
theorem Vm {hd ty:Bool} {v:Vl} (h:v.list=[]):EO hd ty v:=fun x hx=>by rw[h]at hx;cases hx
theorem Yw {a q:Int} {hd ty:Bool} {v:Vl} {k:Nat} {x:Vl} (h:v.list[k]? =some x):(Gb a q hd ty v)[k]? =some (Hw a q hd ty (v.list.headD vlZ) x):=by
 unfold Gb;rw[List.getElem?_map,h];rfl
theorem Zk {f:List Fd} (h:∀d,d∈f->U8 d.key/\d.key.length<=1024):JF (f.map Fd.key)=true:=by
 unfold JF
 refine List.all_eq_true.2 fun c hc=>?_
 obtain⟨d,hd,rfl⟩:=List.mem_map.1 hc
 exact decide_eq_true (h d hd).1
theorem Wi {a q:Int} {f:List Fd} (hdo:dOk a q=true) (hne:f≠ []) (h:∀d,d∈f->U8 d.key/\d.key.length<=1024):UH a q (f.map Fd.key)= .ok (BW a (f.map fun d=>AO a q d.key)):=by
 unfold UH
 rw[if_neg (by rw[hdo];decide),if_neg (by simpa using hne),Zk h,if_pos rfl,Nb,List.map_map];rfl
theorem Td {hd:Bool} {v x:Vl} (hs:Ev hd v) (hx:x∈v.list):(if x.sc.kind=6 then x.list else((v.list.headD vlZ).flds.map Fd.key).map fun k=>(Dz x.flds k).1)=AT hd (v.list.headD vlZ) x:=by
 unfold AT
 cases hd with
 | false=>rw[if_pos (hs.lst rfl x hx).1,if_neg (by decide)]
 | true=>rw[if_neg (by rw[(hs.map rfl x hx).1];decide),if_pos rfl,List.map_map];rfl
theorem ZN {ty:Bool} {k:Int} (h:BV ty k≠0):BV ty k=27:=by
 unfold BV at h⊢
 split at h
 ·rename_i g;rw[if_pos g]
 ·exact absurd rfl h
section
variable {a q:Int} {hd ty:Bool} {st:St}
theorem Rv {s:Sc} {l:List Vl} {f:List Fd} {ub ul uf:TV} (hdo:dOk a q=true) (hv:AS (.mk s l f)) (hz:(Vl.mk s l f).sz<=1700000) {K:B8->Int->St->Prop} (hk:∀st',Am st st'->K (if BV ty s.kind=0 then BB a q ty s else []) (BV ty s.kind) st'):
  CallT PR DJ [.agg (Bo s ub ul uf),.agg [.int .u8 a,.int .u8 q,.bool hd,.bool ty]] [.one .str,.one (.int .i64)] st K:=by
 have ho:=hv.own.1
 have hsz:=szs s l f
 exact UT hdo ho.own.k0 ho.own.k7 (fun _=>ho.dec) ho.time (fun _=>ho.text) (by have:=ho.tlen;omega) hk
theorem grows_ok {v:Vl} {cs:List TV} (hdo:dOk a q=true) (hV:AS v) (hS:Ev hd v) (hN:v.sz<=1700000) (h:VlR St.zero v cs) {K:B8->Int->St->Prop}
  (hk1:EO hd ty v->∀st',Am st st'->K (AU a (wrX a q hd ty v)) 0 st') (hk2:¬EO hd ty v->∀st',Am st st'->K [] 27 st'):
  CallT PR Il [.agg cs,.agg [.int .u8 a,.int .u8 q,.bool hd,.bool ty]] [.one .str,.one (.int .i64)] st K:=by
 have d:=U2 hdo
 have hab:=CL (q:=a) d.a0 (by have:=d.a1;omega)
 have hrl:=Yv (a:=a) (q:=q) (ty:=ty) hV hS
 have hhl:=YU (a:=a) (q:=q) (hd:=hd) (v:=v)
 have hrs:=fun x hx=>Uk (a:=a) (q:=q) (ty:=ty) hV hS (x:=x) hx
 have hcv:=fun x hx=>Ix hV hS (x:=x) hx
 have hcz:=fun x hx=>MO hV hS (x:=x) hx
 have hck:=fun x hx=>Td hS (x:=x) hx
 have hget:=fun k x hx=>Yw (a:=a) (q:=q) (hd:=hd) (ty:=ty) (v:=v) (k:=k) (x:=x) hx
 have hval:=(BY hV hS.kind).2
 have hwx:=Zp a q hd ty v
 obtain⟨s,l,f⟩:=v
 obtain⟨ub,ul,uf,xl,xf,rfl,_,h2,h3,h4,h5⟩:=h.cells
 have hsz:=szs s l f
 have hll:=DY l
 have hk0:∀st',BG St.zero st':=Db
 replace hval:∀x,x∈l->AS x:=hval
 refine Sd _ _ _ _ _ _ _ _ _ _ _ _ _ a q hd ty st K (Ab h2.isSl (Aa (fun g=>?_) fun g=>?_))
 ·have hl:l=[]:=List.eq_nil_of_length_eq_zero (by rw[h2.lenS]at g;omega)
  have:=hk1 (Vm hl) st (Am.refl _)
  rwa [NL (v:= .mk s l f) hl]at this
 rw[h2.lenS]at g
 refine QG (i:=0) (k:=0) (hk0 _) h2 h3 rfl (by omega) fun s0 l0 f0 ub0 ul0 uf0 g0 hx0 on0=>?_
 have hfirst:l.headD vlZ= .mk s0 l0 f0:=by
  cases l with
  | nil=>cases g0
  | cons y r=>simp only[List.getElem?_cons_zero,Option.some.injEq]at g0;exact g0
 have hm0:Vl.mk s0 l0 f0∈l:=Bl g0
 have hv0:=hval _ hm0
 have hnd0:BT f0:=Oq hv0
 have hz0:=Ff hm0
 have hsz0:=szs s0 l0 f0
 have hks0:=Ju f0
 have hhead:HF a q hd (.mk s l f)=if hd=true then [f0.map fun d=>AO a q d.key]else []:=by
  unfold HF
  show(if hd=true/\l≠ []then [(l.headD vlZ).flds.map fun d=>AO a q d.key]else [])=_
  rw[hfirst]
  have:l≠ []:=fun e=>by rw[e]at g0;cases g0
  by_cases hh:hd=true
  ·rw[if_pos ⟨hh,this⟩,if_pos hh];rfl
  ·rw[if_neg (fun h=>hh h.1),if_neg hh]
 obtain⟨_,_,_,_,_,hc0,_,p2,p3,p4,p5⟩:=hx0.cells
 cases hc0
 have hBn:=Bld.new (Am.refl st)
 refine Ng (hk0 _) p4 p5 (by omega) hnd0 fun st1 es e1 hb1 hm1 hI=>?_
 have hB1:=hBn.keep e1
 generalize hmb:(st.push (.cells [.nilPtr,.nilSlice]) (some 188)).nb=mb at hb1 hm1
 have hbm:st.nb<mb:=by rw[<-hmb];exact Nat.lt_succ_self _
 generalize hH:AU a (HF a q hd (.mk s l f))=H at hhl
 refine⟨fun w c n1 b1 b2 s1 n2 n3 n4 n5 n6 s2 v1 v2 v3 n7 n8 b3 b4 st'=> .box st.nb 0=w/\.map mb=c/\SmV s ub ul uf a q hd ty n1 b1 b2 s1 n2 n3 n4 n5 n6 s2 v1 v2 v3 n7 n8 b3 b4/\Bld st st.nb st' H/\mb<st'.nb/\st'.box mb= .map es,Ap (fun hh=>?_) fun hh=>?_,?_⟩
 ·obtain⟨i1,_,_,uf1,_,xf1,ld1,_,_,hf1,hfx1⟩:=ld13 h2.zero h3 (i:=0) g0
  subst hh
  obtain⟨_,hne0,_,_⟩:=hS.map rfl _ hm0
  obtain⟨_,_,_,hkv⟩:=Cl hv0 (hS.map rfl _ hm0).1
  replace hkv:∀d,d∈f0->U8 d.key/\d.key.length<=1024:=hkv
  replace hne0:f0≠ []:=hne0
  replace hf1:Rd 14 uf1 f0.length xf1:=hf1
  replace hfx1:FsR St.zero f0 xf1:=hfx1
  refine⟨⟨by omega,by rw[h2.lenZ];omega⟩,Ab i1 (Ac (ld1 st1 12 uf1 rfl) (Ab hf1.isSl ?_))⟩
  refine⟨fun ks n w c v n2' n1 b1 b2 s1 n2 n3 n4 n5 n6 s2 v1 v2 v3 n7 n8 b3 b4 st'=>uf1=v/\(f0.length:Int)=n2'/\.box st.nb 0=w/\.map mb=c/\SmV s ub ul uf a q true ty n1 b1 b2 s1 n2 n3 n4 n5 n6 s2 v1 v2 v3 n7 n8 b3 b4/\Am st1 st'/\∃j:Nat,n=(j:Int)/\j<=f0.length/\Own st1.nt 1 st' ks j (((f0.take j).map Fd.key).map TV.str),
   fun _ n _ _ _ _ _ _ _ _ _ _ _ _ _ _ _ _ _ _ _ _ _ _=>(f0.length-n).toNat,⟨rfl,by rw[hf1.lenS],rfl,rfl,SmV.refl ..,Am.refl _,0,rfl,Nat.zero_le _,Own.nil _ _ _⟩,?_⟩
  rintro ks _ _ _ _ _ _ _ _ _ _ _ _ _ _ _ _ _ _ _ _ _ _ st2 ⟨rfl,rfl,rfl,rfl,⟨rfl,rfl,rfl,rfl,rfl,rfl,rfl,rfl,rfl,rfl,rfl,rfl,rfl,rfl,rfl,rfl,rfl⟩,e2,j,rfl,hj,hO⟩
  refine Aa (fun g1=>?_) fun g1=>?_
  ·refine U0 (hk0 _) (.of_rd hf1) hfx1 rfl (by omega) fun key s' l' f' ub2 ul2 uf2 gw hw on=>Ab on ?_
   refine Fs e2 rfl hO (by omega) (fun h=>by cases h) fun v' st3 e3 _ ho=>?_
   rw[Ai _ (by omega) (by omega)]
   refine⟨⟨rfl,rfl,rfl,rfl,SmV.refl ..,e3,j+1,by omega,by omega,?_⟩,by dsimp only;omega⟩
   rw[List.take_add_one,gw,List.map_append,List.map_append]
   exact ho
  ·have:j=f0.length:=by omega
   subst this
   rw[List.take_length]at hO
   have hrow:J6 TV.str ks (f0.map Fd.key):=by
    unfold J6
    rw[List.length_map]
    exact hO.rd
   refine Z0 hrow (by omega) (by rw[List.length_map];omega) fun st4 e4=>?_
   rw[Wi hdo hne0 hkv]
   have hH':H=BW a (f0.map fun d=>AO a q d.key):=by
    rw[<-hH,hhead,if_pos rfl]
    unfold AU;simp
   refine Aa (fun h=>absurd rfl h) fun _=>?_
   have e24:=e2.trans e4
   refine F6 (hB1.keep e24) (by show 0+(BW a _).length<=_;rw[<-hH'];omega) fun st5 hB5 k5=>?_
   refine⟨rfl,rfl,SmV.refl ..,?_,Nat.lt_of_lt_of_le hb1 (Nat.le_trans e24.nb k5.1),?_⟩
   ·rw[hH'];exact hB5
   ·rw[k5.2 mb (by omega) (Nat.lt_of_lt_of_le hb1 e24.nb),e24.box mb hb1];exact hm1
 ·refine⟨rfl,rfl,SmV.refl ..,?_,hb1,hm1⟩
  have:H=[]:=by rw[<-hH,hhead,if_neg (by rw[hh];decide)];rfl
  rw[this];exact hB1
 rintro _ _ _ _ _ _ _ _ _ _ _ _ _ _ _ _ _ _ _ st6 ⟨rfl,rfl,⟨rfl,rfl,rfl,rfl,rfl,rfl,rfl,rfl,rfl,rfl,rfl,rfl,rfl,rfl,rfl,rfl,rfl⟩,hB6,hb6,hm6⟩
 have htl:=Sm a (Gb a q hd ty (.mk s l f))
 generalize hR:Gb a q hd ty (.mk s l f)=R at hrl hget hwx htl
 replace hrl:(AU a R).length<=206*A3 l/\_:=hrl
 replace hget:∀(k:Nat) x,l[k]? =some x->R[k]? =some (Hw a q hd ty (l.headD vlZ) x):=hget
 replace hrs:∀x,x∈l->BU (Hw a q hd ty (l.headD vlZ) x)<=204*x.sz/\(Hw a q hd ty (l.headD vlZ) x).length<=x.sz:=hrs
 replace hcv:∀x,x∈l->∀y,y∈AT hd (l.headD vlZ) x->AS y:=hcv
 replace hcz:∀x,x∈l->A3 (AT hd (l.headD vlZ) x)<=x.sz:=hcz
 replace hck:∀x:Vl,x∈l->(if x.sc.kind=6 then x.list else((l.headD vlZ).flds.map Fd.key).map fun k=>(Dz x.flds k).1)=AT hd (l.headD vlZ) x:=hck
 replace hhl:H.length<=6*(Vl.mk s l f).sz/\_:=hhl
 have hcok:EO hd ty (.mk s l f)=∀x,x∈l->∀y,y∈AT hd (l.headD vlZ) x->BV ty y.sc.kind=0:=rfl
 rw[hfirst]at hget hrs hcv hcz hck hcok
 refine Ab h2.isSl ⟨fun n w c v n4 n31 n32 b13 b14 st'=> .box st.nb 0=w/\.map mb=c/\ul=v/\(l.length:Int)=n4/\a=n31/\q=n32/\hd=b13/\ty=b14/\∃k:Nat,n=k/\k<=l.length/\Bld st st.nb st' (H++AU a (R.take k))/\mb<st'.nb/\st'.box mb= .map es/\∀(j:Nat) x,j<k->l[j]? =some x->∀y,y∈AT hd (.mk s0 l0 f0) x->BV ty y.sc.kind=0,
  fun n _ _ _ _ _ _ _ _ _=>(l.length-n).toNat,⟨rfl,rfl,rfl,by rw[h2.lenS],rfl,rfl,rfl,rfl,0,rfl,Nat.zero_le _,by rw[List.take_zero,show AU a []=[]from rfl,List.append_nil];exact hB6,hb6,hm6,fun j x hj=>by omega⟩,?_⟩
 rintro _ _ _ _ _ _ _ _ _ st7 ⟨rfl,rfl,rfl,rfl,rfl,rfl,rfl,rfl,k,rfl,hk,hB7,hb7,hm7,hsh⟩
 have htk:=htl k
 refine Aa (fun g1=>?_) fun g1=>?_
 ·refine QG (hk0 _) h2 h3 rfl (by omega) fun s' l' f' ub1 ul1 uf1 gx hx on=>Ab on ?_
  have hmx:=Bl gx
  have hvx:=hval _ hmx
  have hzx:=Ff hmx
  have hszx:=szs s' l' f'
  have hfx:=Ju f'
  obtain⟨_,_,_,_,_,hc1,_,q2,q3,q4,q5⟩:=hx.cells
  cases hc1
  have hgx:=hget k _ gx
  have hrx:=hrs _ hmx
  have hcx:=hcv _ hmx
  have hczx:=hcz _ hmx
  have hckx:=hck _ hmx
  replace hckx:(if s'.kind=6 then l' else(f0.map Fd.key).map fun k=>(Dz f' k).1)=AT hd (.mk s0 l0 f0) (.mk s' l' f'):=hckx
  refine YV (hk0 _) q2 q3 q4 q5 (by omega) hb7 hm7 hI hnd0 (Oq hvx) (fun h6=>?_) fun st8 u xs e8 hcl hvs=>?_
  ·cases hd with
   | false=>exact absurd (hS.lst rfl _ hmx).1 h6
   | true=>
    obtain⟨_,_,m3,m4⟩:=hS.map rfl _ hmx
    replace m3:f'.length=(l.headD vlZ).flds.length:=m3
    replace m4:∀f,f∈f'->f.key∈(l.headD vlZ).flds.map Fd.key:=m4
    rw[hfirst]at m3 m4
    exact⟨by rw[List.length_map];exact m3,m4⟩
  rw[hckx]at hcl hvs
  have hrow:Hw a q hd ty (.mk s0 l0 f0) (.mk s' l' f')=(AT hd (.mk s0 l0 f0) (.mk s' l' f')).map fun y=>BB a q ty y.sc:=rfl
  generalize hcl0:AT hd (.mk s0 l0 f0) (.mk s' l' f')=cl at hcl hvs hcx hczx hrow
  generalize Hw a q hd ty (.mk s0 l0 f0) (.mk s' l' f')=row at hgx hrx hrow
  have hcll:=DY cl
  have hB8:=hB7.keep e8
  have hm8:st8.box mb= .map es:=(e8.box mb hb7).trans hm7
  have hrgl:row.length=cl.length:=by rw[hrow,List.length_map]
  have hbb:st.nb<st7.nb:=by omega
  generalize hT:H++AU a (R.take k)=T at hB8
  have hTl:T.length<=370000000:=by rw[<-hT,List.length_append];omega
  refine Ab hcl.sl.isSl ⟨fun n5 w c v3 n6 n7 v4 n8 n39 n40 b17 b18 st'=> .box st.nb 0=w/\.map mb=c/\ul=v3/\(l.length:Int)=n6/\(k:Int)=n7/\u=v4/\(cl.length:Int)=n8/\a=n39/\q=n40/\hd=b17/\ty=b18/\∃m:Nat,n5=m/\m<=cl.length/\Bld st st.nb st' (T++FN a (row.take m))/\mb<st'.nb/\st'.box mb= .map es/\ClR st7.nb st' u cl.length xs/\∀(j:Nat) y,j<m->cl[j]? =some y->BV ty y.sc.kind=0,
   fun n _ _ _ _ _ _ _ _ _ _ _ _=>(cl.length-n).toNat,⟨rfl,rfl,rfl,rfl,rfl,rfl,by rw[hcl.sl.lenS],rfl,rfl,rfl,rfl,0,rfl,Nat.zero_le _,by rw[List.take_zero,show FN a []=[]from rfl,List.append_nil];exact hB8,Nat.lt_of_lt_of_le hb7 e8.nb,hm8,hcl,fun j y hj=>by omega⟩,?_⟩
  rintro _ _ _ _ _ _ _ _ _ _ _ _ st9 ⟨rfl,rfl,rfl,rfl,rfl,rfl,rfl,rfl,rfl,rfl,rfl,m,rfl,hm,hB9,hb9,hm9,hcl9,hsh9⟩
  have hj1:=Ru a (row.take m)
  have hj2:=MX row m
  rw[List.length_take]at hj1
  have hJl:(T++FN a (row.take m)).length<=730000000:=by rw[List.length_append];omega
  refine Aa (fun g2=>?_) fun g2=>?_
  ·refine QG (BG.refl st9) hcl9.sl (hvs.keep (Db st9)) rfl (by omega) fun s2 l2 f2 ub2 ul2 uf2 gy hy on2=>Ab on2 ?_
   have hmy:=Bl gy
   have hvy:=hcx _ hmy
   have hzy:=Ff hmy
   have hszy:=szs s2 l2 f2
   have hgy:row[m]? =some (BB a q ty s2):=by rw[hrow,List.getElem?_map,gy];rfl
   have hsl:(BB a q ty s2).length<=2*s2.text.length+202:=Mh (y:= .mk s2 l2 f2) hvy
   have hjt:=Wo (a:=a) hgy
   have bad:BV ty s2.kind≠0->∀st',Am st st'->K [] (BV ty s2.kind) st':=fun he st' e=>by
    rw[ZN he]
    refine hk2 (fun hc=>he ?_) st' e
    rw[hcok]at hc
    exact hc _ hmx (.mk s2 l2 f2) (by rw[hcl0];exact hmy)
   have next:BV ty s2.kind=0->∀(j:Nat) y,j<m+1->cl[j]? =some y->BV ty y.sc.kind=0:=fun he j y hj hy=>by
    by_cases hjm:j=m
    ·subst hjm;rw[gy]at hy;cases hy;exact he
    ·exact hsh9 j y (by omega) hy
   rw[Ai _ (by omega) (by omega)]
   refine Aa (fun g3=>?_) fun g3=>?_
   ·refine KV (UInt8.ofNat a.toNat) hab.symm hB9 (by omega) fun st10 hB10 k10=>Rv hdo hvy (by omega) fun st11 e11=>Aa (fun g4=>bad g4 st11 (hB10.keep e11).ext) fun g4=>?_
    have he:=Decidable.not_not.1 g4
    rw[if_pos he]
    refine F6 (hB10.keep e11) (by rw[List.length_append,List.length_singleton];omega) fun st12 hB12 k12=>?_
    have kk:=(k10.trans (But.of e11)).trans k12
    refine⟨⟨rfl,rfl,rfl,rfl,rfl,rfl,rfl,rfl,rfl,rfl,rfl,m+1,by omega,by omega,?_,Nat.lt_of_lt_of_le hb9 kk.1,(kk.2 mb (by omega) hb9).trans hm9,hcl9.but hbb kk,next he⟩,by dsimp only;omega⟩
    rw[hjt,if_neg (by omega)]
    simpa using hB12
   ·refine Rv hdo hvy (by omega) fun st11 e11=>Aa (fun g4=>bad g4 st11 (hB9.keep e11).ext) fun g4=>?_
    have he:=Decidable.not_not.1 g4
    have hm0:m=0:=by omega
    subst hm0
    rw[if_pos he]
    refine F6 (hB9.keep e11) (by omega) fun st12 hB12 k12=>?_
    have kk:=(But.of e11).trans k12
    refine⟨⟨rfl,rfl,rfl,rfl,rfl,rfl,rfl,rfl,rfl,rfl,rfl,0+1,by omega,by omega,?_,Nat.lt_of_lt_of_le hb9 kk.1,(kk.2 mb (by omega) hb9).trans hm9,hcl9.but hbb kk,next he⟩,by dsimp only;omega⟩
    rw[hjt,if_pos rfl]
    simpa [FN]using hB12
  ·have hmc:m=cl.length:=by omega
   subst hmc
   rw[<-hrgl,List.take_length]at hB9 hJl
   refine KV 10 rfl hB9 (by omega) fun st10 hB10 k10=>?_
   rw[Ai _ (by omega) (by omega)]
   refine⟨⟨rfl,rfl,rfl,rfl,rfl,rfl,rfl,rfl,k+1,by omega,by omega,?_,Nat.lt_of_lt_of_le hb9 k10.1,(k10.2 mb (by omega) hb9).trans hm9,fun j x hj hx y hy=>?_⟩,by dsimp only;omega⟩
   ·rw[VI hgx,Pi,<-List.append_assoc,<-List.append_assoc,hT];exact hB10
   ·by_cases hjk:j=k
    ·subst hjk
     rw[gx]at hx
     cases hx
     rw[hcl0]at hy
     obtain⟨i,hi⟩:=List.getElem?_of_mem hy
     exact hsh9 i y (List.getElem?_eq_some_iff.1 hi).1 hi
    ·exact hsh j x (by omega) hx y hy
 ·have hkl:k=l.length:=by omega
  subst hkl
  have hRl:R.length=l.length:=by rw[<-hR];unfold Gb;rw[List.length_map];rfl
  rw[<-hRl,List.take_length]at hB7 htk
  refine MQ hB7 (by rw[List.length_append];omega) fun st' e=>?_
  rw[<-hH,<-H1,<-hwx]
  refine hk1 ?_ st' e
  rw[hcok]
  intro x hx y hy
  obtain⟨i,hi⟩:=List.getElem?_of_mem hx
  exact hsh i x (List.getElem?_eq_some_iff.1 hi).1 hi y hy
end
end
section
open Classical in
noncomputable def DH (a q:Int) (hd ty:Bool) (v:Vl):Int:=if dOk a q=false then 1 else if CC v≠0 then(CC v:Int)else if Ev hd v/\EO hd ty v then 0 else 27
noncomputable def MV (a q:Int) (hd ty:Bool) (v:Vl):B8:=if DH a q hd ty v=0 then AU a (wrX a q hd ty v)else []
noncomputable def Ew (a q:Int) (hd ty:Bool) (v:Vl):Int:=if DH a q hd ty v=0 then(if 1048576<(MV a q hd ty v).length then 10 else 0)else DH a q hd ty v
noncomputable def IU (a q:Int) (hd ty:Bool) (v:Vl):B8:=if Ew a q hd ty v=0 then MV a q hd ty v else []
theorem P3 {a q:Int} {hd ty:Bool} {v:Vl} (h:DH a q hd ty v=0):dOk a q=true/\CC v=0/\Ev hd v/\EO hd ty v:=by
 unfold DH at h
 by_cases h1:dOk a q=false
 ·rw[if_pos h1]at h;cases h
 rw[if_neg h1]at h
 by_cases h2:CC v=0
 ·rw[if_neg (by omega)]at h
  split at h
  ·rename_i h3;exact⟨by simpa using h1,h2,h3⟩
  ·cases h
 ·rw[if_pos h2]at h;omega
theorem ableE_ok {a q:Int} {hd ty:Bool} {v:Vl} (h1:dOk a q=true) (h2:CC v=0) (h3:Ev hd v) (h4:EO hd ty v):DH a q hd ty v=0:=by
 unfold DH
 rw[if_neg (by rw[h1];decide),if_neg (by omega),if_pos ⟨h3,h4⟩]
theorem Vu {a q:Int} {hd ty:Bool} {v:Vl} (h1:dOk a q=true) (h2:CC v=0) (h3:¬(Ev hd v/\EO hd ty v)):DH a q hd ty v=27:=by
 unfold DH
 rw[if_neg (by rw[h1];decide),if_neg (by omega),if_neg h3]
section
variable {a q:Int} {hd ty:Bool} {st:St}
theorem US {v:Vl} {cs:List TV} (hN:v.sz<=1700000) (h:VlR St.zero v cs) {K:B8->Int->St->Prop} (hk:∀st',Am st st'->K (MV a q hd ty v) (DH a q hd ty v) st'):
  CallT PR FX [.agg cs,.agg [.int .u8 a,.int .u8 q,.bool hd,.bool ty]] [.one .str,.one (.int .i64)] st K:=by
 have h0:=h
 obtain⟨s,l,f⟩:=v
 obtain⟨ub,ul,uf,xl,xf,rfl,_⟩:=h.cells
 unfold MV at hk
 refine Sa _ _ _ _ _ _ _ _ _ _ _ _ _ a q hd ty st K (HG (Ap (fun g=>?_) fun g=>?_))
 ·have he:DH a q hd ty (.mk s l f)=1:=by unfold DH;rw[if_pos (by simpa using g)]
  have:=hk st (Am.refl _)
  rwa [he,if_neg (by decide)]at this
 have g:dOk a q=true:=by simpa using g
 refine P8 (v:= .mk s l f) (by omega) h0 (Db _) fun st1 e1=>Aa (fun g1=>?_) fun g1=>?_
 ·have he:DH a q hd ty (.mk s l f)=(CC (.mk s l f):Int):=by unfold DH;rw[if_neg (by rw[g];decide),if_pos (by omega)]
  have:=hk st1 e1
  rwa [he,if_neg (by omega)]at this
 have g1:CC (.mk s l f)=0:=by omega
 have hV:=Fp g1
 refine Wx hV (by omega) h0 (fun hS st2 e2=>?_) fun hS st2 e2=>?_
 ·refine Ap (fun h=>by cases h) fun _=>grows_ok g hV hS hN h0 (fun hC st3 e3=>?_) fun hC st3 e3=>?_
  ·have:=hk st3 ((e1.trans e2).trans e3)
   rwa [ableE_ok g g1 hS hC,if_pos rfl]at this
  ·have:=hk st3 ((e1.trans e2).trans e3)
   rwa [Vu g g1 fun h=>hC h.2,if_neg (by decide)]at this
 ·refine Ap (fun _=>?_) fun h=>by cases h
  have:=hk st2 (e1.trans e2)
  rwa [Vu g g1 fun h=>hS h.1,if_neg (by decide)]at this
theorem LE {v:Vl} {cs:List TV} (hN:v.sz<=1700000) (h:VlR St.zero v cs) {K:Int->St->Prop} (hk:∀st',Am st st'->K (DH a q hd ty v) st'):
  CallT PR DK [.agg cs,.agg [.int .u8 a,.int .u8 q,.bool hd,.bool ty]] [.one (.int .i64)] st K:=by
 have h0:=h
 obtain⟨s,l,f⟩:=v
 obtain⟨ub,ul,uf,xl,xf,rfl,_⟩:=h.cells
 exact Sg _ _ _ _ _ _ _ _ _ _ _ _ _ a q hd ty st K (US hN h0 hk)
theorem Rw {v:Vl} {cs:List TV} (hN:v.sz<=1700000) (h:VlR St.zero v cs) {K:B8->Int->St->Prop} (hk:∀st',Am st st'->K (IU a q hd ty v) (Ew a q hd ty v) st'):
  CallT PR Fa [.agg cs,.agg [.int .u8 a,.int .u8 q,.bool hd,.bool ty]] [.one .str,.one (.int .i64)] st K:=by
 have h0:=h
 obtain⟨s,l,f⟩:=v
 obtain⟨ub,ul,uf,xl,xf,rfl,_⟩:=h.cells
 refine Qm _ _ _ _ _ _ _ _ _ _ _ _ _ a q hd ty st K (US hN h0 fun st1 e1=>Aa (fun g=>Aa (fun g1=>?_) fun g1=>?_) fun g=>?_)
 ·have hw:Ew a q hd ty (.mk s l f)=10:=by unfold Ew;rw[if_pos g,if_pos (by omega)]
  have:=hk st1 e1
  unfold IU at this
  rwa [hw,if_neg (by decide)]at this
 ·have hw:Ew a q hd ty (.mk s l f)=0:=by unfold Ew;rw[if_pos g,if_neg (by omega)]
  have:=hk st1 e1
  unfold IU at this
  rw[hw,if_pos rfl]at this
  rw[g];exact this
 ·have hw:Ew a q hd ty (.mk s l f)=DH a q hd ty (.mk s l f):=by unfold Ew;rw[if_neg g]
  have:=hk st1 e1
  unfold IU at this
  rw[hw,if_neg g]at this
  rw[show MV a q hd ty (.mk s l f)=[] by unfold MV;rw[if_neg g]];exact this
end
end
theorem Ya {s:B8} {k:Nat} (hv:vlen s=s.length) (hb:Bd s k):vlen (s.drop k)=(s.drop k).length:=by
 have h1:=KX _ s k (Nat.le_refl _) hv hb
 have h2:=TC _ (s.take k) (s.drop k) (Nat.le_refl _) (by rw[h1,List.length_take];have:=hb.1;omega)
 rw[List.take_append_drop,hv,List.length_take,Nat.min_eq_left hb.1]at h2
 rw[List.length_drop];omega
theorem Tz {s:B8} {i e:Nat} (hv:vlen s=s.length) (hi:Bd s i) (he:Bd s e) (hie:i<=e):U8 (slc s i e):=by
 have h1:=KX _ s e (Nat.le_refl _) hv he
 have hl:(s.take e).length=e:=by rw[List.length_take];have:=he.1;omega
 unfold slc U8
 refine Ya (by rw[h1,hl]) ⟨by omega,?_⟩
 rw[hl,NX]
 by_cases h:i=e
 ·exact .inl h
 ·right
  rw[if_pos (by omega)]
  rcases hi.2 with h2 | h2
  ·have:=he.1;omega
  ·exact h2
theorem bd_zero {s:B8} (hv:vlen s=s.length):Bd s 0:=by
 refine⟨Nat.zero_le _,?_⟩
 by_cases h:s.length=0
 ·exact .inl h.symm
 ·exact .inr (Xf fun h0=>by rw[BI _ h0]at hv;omega)
theorem bt_by {s:B8} {e:Nat} {b:Int} (h:by_ s e=b):(bt s e:Int)=b:=h
theorem bd_at {s:B8} {e:Nat} {b:Int} (he:e<s.length) (h:by_ s e=b) (hb:b<128):Bd s e:=⟨by omega,.inr fun hc=>by
 have:=bt_by h
 unfold PS at hc;omega⟩
theorem Hh.u8 {a q:Int} (ha:a<128) {s:B8} (hv:vlen s=s.length) {i:Nat} {ks:List Nd} {e n:Nat} (h:Hh a q s i ks e n):Bd s i->(∀k,k∈ks->U8 (AL k))/\Bd s (e+n):=by
 induction h with
 | @last i e n h1 h2 h3=>
  intro hi
  have hc:=Cj hi.1 h1
  obtain⟨g1,g2,g3,g4⟩:=Fi hc.2 h3
  have he:Bd s e:=by
   by_cases h:e=s.length
   ·exact⟨by omega,.inl h⟩
   ·rcases g4 (by omega)with h | h
    ·exact bd_at (by omega) h (by decide)
    ·exact bd_at (by omega) h (by decide)
  refine⟨fun k hk=>?_,?_⟩
  ·obtain rfl:=List.mem_singleton.1 hk
   exact Tz hv hi he hc.1
  ·by_cases h0:n=0
   ·subst h0;exact he
   ·have h5:=bt_by (g3 (by omega))
    have hb:=Vp _ s (e+n-1) (Nat.le_refl _) hv (by omega) (by omega)
    rwa [show e+n-1+1=e+n by omega]at hb
 | @more i e f n ks h1 h2 h3 h4 ih=>
  intro hi
  have hc:=Cj hi.1 h1
  have he:Bd s e:=bd_at h2 h3 ha
  have h5:=bt_by h3
  have hb:=Vp _ s e (Nat.le_refl _) hv h2 (by omega)
  obtain⟨i1,i2⟩:=ih hb
  refine⟨fun k hk=>?_,i2⟩
  rcases List.mem_cons.1 hk with rfl | hk
  ·exact Tz hv hi he hc.1
  ·exact i1 k hk
theorem Gz.u8 {a q:Int} (ha:a<128) {s:B8} (hv:vlen s=s.length) {i:Nat} {rs:List Nd} (h:Gz a q s i rs):Bd s i->∀r,r∈rs->∀k,k∈Au r->U8 (AL k):=by
 induction h with
 | nil h=>intro _ r hr;cases hr
 | @cons i e n ks rs h1 h2 h3 ih=>
  intro hi r hr
  obtain⟨i1,i2⟩:=h2.u8 ha hv hi
  rcases List.mem_cons.1 hr with rfl | hr
  ·exact i1
  ·exact ih i2 r hr
theorem RL {c:UInt8}:∀(m:Nat) (t:B8),m<=(dbl c t).length->(∀j,j<m->(dbl c t).getD j 0≠c)->m<=t.length/\(dbl c t).take m=t.take m/\(dbl c t).drop m=dbl c (t.drop m)
 | 0,t,_,_=>⟨Nat.zero_le _,rfl,rfl⟩
 | m+1,[],h,_=>by simp[dbl]at h
 | m+1,b::t,h,hn=>by
  rw[CB]at h hn⊢
  by_cases hb:b=c
  ·rw[if_pos hb]at hn
   exact absurd rfl (hn 0 (by omega))
  ·rw[if_neg hb]at h hn⊢
   have h':m<=(dbl c t).length:=by simpa using h
   obtain⟨i1,i2,i3⟩:=RL m t h' fun j hj=>by
    have:=hn (j+1) (by omega)
    simpa using this
   refine⟨by rw[List.length_cons];omega,?_,?_⟩
   ·show b::(dbl c t).take m=b::t.take m
    rw[i2]
   ·exact i3
theorem JI {c:UInt8} {l:B8} (hc:c.toNat<128) (h:vlen (c::l)=(c::l).length):vlen l=l.length:=by
 have h1:=K9 (c::l) (by simp) hc
 rw[BJ _ (by omega),h1.1]at h
 simp only[List.drop_succ_cons,List.drop_zero,List.length_cons]at h;omega
theorem VC {c:UInt8} (hc:c.toNat<128):∀(n:Nat) (t:B8),t.length<=n->vlen (dbl c t)=(dbl c t).length->vlen t=t.length:=by
 intro n
 induction n with
 | zero=>intro t h _;rw[List.eq_nil_of_length_eq_zero (by omega:t.length=0),Hl];rfl
 | succ n ih=>
  intro t h hv
  cases t with
  | nil=>rw[Hl];rfl
  | cons b t=>
   rw[List.length_cons]at h
   by_cases hb:b=c
   ·subst hb
    rw[CB,if_pos rfl]at hv
    have:=JI hc (JI hc hv)
    exact BK hc (ih t (by omega) this)
   ·by_cases hb2:b.toNat<128
    ·rw[CB,if_neg hb]at hv
     exact BK hb2 (ih t (by omega) (JI hb2 hv))
    ·have hD:dbl c (b::t)=b::dbl c t:=by rw[CB,if_neg hb];rfl
     generalize hd:dbl c (b::t)=D at hv
     have hne:D≠ []:=by rw[<-hd,hD];simp
     have hpos:0<D.length:=List.length_pos_iff.2 hne
     have h0:ul D≠0:=fun h0=>by rw[BI D h0]at hv;omega
     have hle:=I7 D
     have hsp:=RL (c:=c) (ul D) (b::t) (by rw[hd];exact hle) (fun j hj=>by
      rw[hd]
      by_cases hj0:j=0
      ·subst hj0
       rw[<-hd,hD];exact hb
      ·have h9:=(NN D j (by omega) hj).1
       intro he
       have:bt D j=c.toNat:=by unfold bt;rw[he]
       omega)
     rw[hd]at hsp
     obtain⟨g1,g2,g3⟩:=hsp
     have hu:=Sj (l:=D) (m:=ul D) h0 (Nat.le_refl _)
     have hut:ul (b::t)=ul D:=by
      have:=Ox (l:=b::t) (m:=ul D) (by rw[<-g2,hu.1];exact h0)
      rw[this,<-g2,hu.1]
     rw[BJ _ h0,g3]at hv
     have hdl:(dbl c ((b::t).drop (ul D))).length=D.length-ul D:=by rw[<-g3,List.length_drop]
     have hr:=ih ((b::t).drop (ul D)) (by rw[List.length_drop,List.length_cons];omega) (by rw[hdl];omega)
     rw[BJ _ (by rw[hut];exact h0),hut,hr,List.length_drop];omega
theorem u8_txt {q:Int} (hq:q<128) {c:B8} (hw:P9 q c) (hu:U8 c):U8 (txt q c):=by
 rcases hw with rfl | h | ⟨b,t,hb,rfl⟩
 ·have:txt q []=[]:=by unfold txt;rw[if_pos (.inl rfl)]
  rw[this];exact hu
 ·have:txt q c=c:=by unfold txt;rw[if_pos (.inr h)]
  rw[this];exact hu
 ·rw[HX hb]
  have hb1:b.toNat<128:=by omega
  have h1:=JI hb1 hu
  have hbd:Bd (dbl b t++[b]) (dbl b t).length:=⟨by simp,.inr fun hc=>by
   have:bt (dbl b t++[b]) (dbl b t).length=b.toNat:=by unfold bt;rw[List.getD_eq_getElem?_getD,List.getElem?_append_right (Nat.le_refl _)];simp
   unfold PS at hc;omega⟩
  have h2:=KX _ _ _ (Nat.le_refl _) h1 hbd
  rw[List.take_left]at h2
  exact VC hb1 _ t (Nat.le_refl _) h2
theorem VA:∀(n:Nat) (s:B8),s.length<=n->A4 (s.take (s.length-A4 s))=0:=by
 intro n
 induction n with
 | zero=>intro s h;rw[List.eq_nil_of_length_eq_zero (by omega:s.length=0)];rfl
 | succ n ih=>
  intro s h
  by_cases hne:s=[]
  ·subst hne;rfl
  have hl:=List.dropLast_concat_getLast hne
  generalize s.dropLast=a at hl
  generalize s.getLast hne=c at hl
  subst hl
  rw[GA]
  rw[List.length_append,List.length_singleton]at h⊢
  by_cases h0:c=48
  ·rw[if_pos h0,show a.length+1-(A4 a+1)=a.length-A4 a by omega,List.take_append_of_le_length (by omega)]
   exact ih a (by omega)
  ·rw[if_neg h0,List.take_of_length_le (by simp),GA,if_neg h0]
theorem Tt:∀(n:Nat) (s:B8),s.length<=n->A4 s=s.length->∀c,c∈s->c=48:=by
 intro n
 induction n with
 | zero=>intro s h _ c hc;rw[List.eq_nil_of_length_eq_zero (by omega:s.length=0)]at hc;cases hc
 | succ n ih=>
  intro s h hz x hx
  have hne:s≠ []:=fun e=>by rw[e]at hx;cases hx
  have hl:=List.dropLast_concat_getLast hne
  generalize s.dropLast=a at hl
  generalize s.getLast hne=c at hl
  subst hl
  rw[GA]at hz
  rw[List.length_append,List.length_singleton]at h hz
  by_cases h0:c=48
  ·rw[if_pos h0]at hz
   rcases List.mem_append.1 hx with hx | hx
   ·exact ih a (by omega) (by omega) x hx
   ·rw[List.mem_singleton.1 hx];exact h0
  ·rw[if_neg h0]at hz;omega
def JH (r:Bool×B8×Int×Int):Prop:=r.2.2.2=0->Dk r.1 r.2.1 r.2.2.1
theorem Ir:JH LM:=fun h=>absurd h (by decide)
theorem dcN_good {neg:Bool} {s:B8} {ex:Int} (hd:∀c,c∈s->AF c) (h0:s.getD 0 0≠48):JH (dcN neg s ex):=by
 unfold dcN
 split
 ·exact fun _=>⟨fun _=>⟨rfl,rfl⟩,fun h=>absurd rfl h⟩
 rename_i hne
 split
 ·exact fun h=>absurd h (by decide)
 rename_i hb
 intro _
 have hz:=VA _ s (Nat.le_refl _)
 have hzl:=N1 s
 have hlt:A4 s<s.length:=by
  apply Decidable.byContradiction
  intro hn
  have:=Tt _ s (Nat.le_refl _) (by omega)
  cases s with
  | nil=>exact hne rfl
  | cons c t=>exact h0 (this c (.head _))
 refine⟨fun he=>?_,fun _=>⟨?_,fun c hc=>hd c (List.mem_of_mem_take hc),?_,hz,by show-400<=ex+_;omega,by show ex+_<=400;omega⟩⟩
 ·have:=congrArg List.length he
  replace this:(s.take (s.length-A4 s)).length=0:=this
  rw[List.length_take]at this;omega
 ·show(s.take (s.length-A4 s)).length<=120
  rw[List.length_take];omega
 ·show(s.take (s.length-A4 s)).getD 0 0≠48
  obtain⟨k,hk⟩:∃k,s.length-A4 s=k+1:=⟨s.length-A4 s-1,by omega⟩
  rw[hk]
  cases s with
  | nil=>exact absurd rfl hne
  | cons c t=>exact h0
theorem VJ {l:B8} {c:UInt8} (h:c∈Bt l):c∈l:=(List.dropWhile_sublist _).subset h
theorem U5 {neg:Bool} {all:B8} {ex:Int} (h:∀c,c∈all->AF c):JH (dcN neg (Bt all) ex):=dcN_good (fun c hc=>h c (VJ hc)) (Jc all)
theorem PN {neg:Bool} {all:B8} {ex:Int} {less:Bool} {r:B8} (h:∀c,c∈all->AF c):JH (dcX neg all ex less r):=by
 unfold dcX
 split
 ·exact Ir
 ·exact U5 h
theorem U6 {neg:Bool} {all:B8} {ex:Int} {r:B8} (h:∀c,c∈all->AF c):JH (dcE neg all ex r):=by
 unfold dcE
 split
 ·exact U5 h
 split
 ·split
  ·exact PN h
  split
  ·exact PN h
  ·exact PN h
 ·exact Ir
theorem dcF_good {neg:Bool} {a r:B8} (h:∀c,c∈a->AF c):JH (dcF neg a r):=by
 unfold dcF
 split
 ·split
  ·exact Ir
  ·exact U6 fun c hc=>(List.mem_append.1 hc).elim (h c) (HH _ c)
 ·exact U6 h
theorem dcQ_good {neg:Bool} {s:B8}:JH (dcQ neg s):=by
 unfold dcQ
 split
 ·exact Ir
 ·exact dcF_good (HH s)
theorem dcP_good (s:B8):JH (dcP s):=by
 unfold dcP
 split<;>exact dcQ_good
def P4 (r:TmR):Prop:=r.2.2.2.2=0->DW r.1 r.2.1 r.2.2.1 r.2.2.2.1
theorem F9:P4 Hr:=fun h=>absurd h (by decide)
theorem HZ:P4 Hq:=fun h=>absurd h (by decide)
theorem S5 {y m d:Nat} (h:okD y m d):It y m d<=3652058:=by
 obtain⟨h1,h2,h3,h4,h5,h6⟩:=h
 have g1:=Er y h3
 have g2:=JP y (show m+1<=13 by omega)
 have g3:ET y 13=ET y 12+KF y 12:=rfl
 have g4:=IT h1
 have g5:=N2 (show 1<=y+1 by omega) (show y+1<=10000 by omega)
 have g6:yrS 10000=3652059:=by decide
 unfold It;omega
theorem Pc {h m s f:Nat} (hc:okC h m s) (hf:f<1000000000):Ep h m s f<=86399999999999:=by
 obtain⟨h1,h2,h3⟩:=hc
 unfold Ep;omega
theorem XX {s:B8} {h m sc f:Nat} {r:B8} (hc:HL s=some (h,m,sc,f,r)):f<1000000000:=by
 unfold HL at hc
 split at hc
 ·split at hc
  ·split at hc
   ·cases hc
   ·rename_i h1
    simp only[Option.some.injEq,Prod.mk.injEq]at hc
    obtain⟨_,_,_,rfl,_⟩:=hc
    exact fracN_lt (HH _) (by omega)
  ·simp only[Option.some.injEq,Prod.mk.injEq]at hc
   obtain⟨_,_,_,rfl,_⟩:=hc
   decide
 ·cases hc
theorem ZE {y mo d h m s f:Nat} {r:B8} (hf:f<1000000000):P4 (tmO y mo d h m s f r):=by
 unfold tmO
 split
 ·split
  ·rename_i g
   have h1:=S5 g.1
   have h2:=Pc g.2 hf
   intro _
   exact⟨by show(1:Int)<=3;decide,by show(3:Int)<=4;decide,Int.natCast_nonneg _,by show((It y mo d:Nat):Int)<=_;omega,Int.natCast_nonneg _,by show((Ep h m s f:Nat):Int)<=_;omega,by show(-1439:Int)<=0;decide,by show(0:Int)<=1439;decide,fun h=>absurd h (by show ¬(3:Int)=2;decide),fun h=>absurd h (by show ¬(3:Int)=1;decide),fun _=>rfl⟩
  ·exact HZ
 ·split
  ·exact F9
  ·rename_i ls oh om _
   split
   ·rename_i g
    obtain⟨g1,g2,g3,g4⟩:=g
    have h1:=S5 g1
    have h2:=Pc g2 hf
    intro _
    have hz: -1439<=(if ls then-((oh*60+om:Nat):Int)else((oh*60+om:Nat):Int))/\(if ls then-((oh*60+om:Nat):Int)else((oh*60+om:Nat):Int))<=1439:=by split<;>omega
    exact⟨by show(1:Int)<=4;decide,by show(4:Int)<=4;decide,Int.natCast_nonneg _,by show((It y mo d:Nat):Int)<=_;omega,Int.natCast_nonneg _,by show((Ep h m s f:Nat):Int)<=_;omega,hz.1,hz.2,fun h=>absurd h (by show ¬(4:Int)=2;decide),fun h=>absurd h (by show ¬(4:Int)=1;decide),fun h=>absurd rfl h⟩
   ·exact HZ
theorem ZF {y mo d:Nat} {r:B8}:P4 (tmD y mo d r):=by
 unfold tmD
 split
 ·split
  ·rename_i g
   have h1:=S5 g
   intro _
   exact⟨by show(1:Int)<=1;decide,by show(1:Int)<=4;decide,Int.natCast_nonneg _,by show((It y mo d:Nat):Int)<=_;omega,by show(0:Int)<=0;decide,by show(0:Int)<=_;decide,by show(-1439:Int)<=0;decide,by show(0:Int)<=1439;decide,fun h=>absurd h (by show ¬(1:Int)=2;decide),fun _=>rfl,fun _=>rfl⟩
  ·exact HZ
 split
 ·split
  ·exact F9
  ·rename_i hc
   exact ZE (XX hc)
 ·exact F9
theorem ZD (s:B8):P4 (tmP s):=by
 unfold tmP
 split
 ·exact ZF
 split
 ·exact F9
 ·rename_i h m sc f r hc
  split
  ·split
   ·rename_i g
    have h2:=Pc g (XX hc)
    intro _
    exact⟨by show(1:Int)<=2;decide,by show(2:Int)<=4;decide,by show(0:Int)<=0;decide,by show(0:Int)<=_;decide,Int.natCast_nonneg _,by show((Ep h m sc f:Nat):Int)<=_;omega,by show(-1439:Int)<=0;decide,by show(0:Int)<=1439;decide,fun _=>rfl,fun h=>absurd h (by show ¬(2:Int)=1;decide),fun _=>rfl⟩
   ·exact HZ
  ·exact F9
theorem dec0:Dk false [] 0:=⟨fun _=>⟨rfl,rfl⟩,fun h=>absurd rfl h⟩
theorem Zb {ty qd:Bool} {s:B8} (hu:U8 s) (hl:s.length<=65536):Eb (CZ ty qd s) [] []:=by
 have hn:U8 []:=VF
 unfold CZ
 split
 ·exact O6 hu hl
 split
 ·exact⟨⟨by decide,by decide,fun _=>rfl,fun _=>⟨rfl,rfl,rfl⟩,fun _=>⟨rfl,rfl,rfl,rfl⟩,fun _=>rfl,fun _=>rfl,fun _=>rfl,fun _=>rfl⟩,dec0,fun h=>absurd h (by decide),hn,Nat.zero_le _,Nat.zero_le _,rfl⟩
 have hB:∀b,Eb (tkB b) [] []:=fun b=>⟨⟨by show(0:Int)<=1;decide,by show(1:Int)<=7;decide,fun h=>absurd rfl h,fun _=>⟨rfl,rfl,rfl⟩,fun _=>⟨rfl,rfl,rfl,rfl⟩,fun _=>rfl,fun _=>rfl,fun _=>rfl,fun _=>rfl⟩,dec0,fun h=>absurd h (by show ¬(1:Int)=3;decide),hn,Nat.zero_le _,Nat.zero_le _,rfl⟩
 split
 ·exact hB true
 split
 ·exact hB false
 split
 ·rename_i h
  exact⟨⟨by show(0:Int)<=2;decide,by show(2:Int)<=7;decide,fun _=>rfl,fun h=>absurd rfl h,fun _=>⟨rfl,rfl,rfl,rfl⟩,fun _=>rfl,fun _=>rfl,fun _=>rfl,fun _=>rfl⟩,dcP_good s h,fun h=>absurd h (by show ¬(2:Int)=3;decide),hn,Nat.zero_le _,Nat.zero_le _,rfl⟩
 split
 ·rename_i h
  exact⟨⟨by show(0:Int)<=3;decide,by show(3:Int)<=7;decide,fun _=>rfl,fun _=>⟨rfl,rfl,rfl⟩,fun h=>absurd rfl h,fun _=>rfl,fun _=>rfl,fun _=>rfl,fun _=>rfl⟩,dec0,fun _=>ZD s h,hn,Nat.zero_le _,Nat.zero_le _,rfl⟩
 ·exact O6 hu hl
theorem WS (ty qd:Bool) (s:B8):BV ty (CZ ty qd s).kind=0:=by
 have h4:∀b:Bool,BV b (tkT s).kind=0:=fun b=>by
  show BV b 4=0
  cases b<;>decide
 unfold CZ
 split
 ·exact h4 ty
 rename_i h
 have ht:ty=true:=by cases ty;exact absurd (.inl rfl) h;rfl
 subst ht
 split
 ·decide
 split
 ·decide
 split
 ·decide
 split
 ·show BV true 2=0;decide
 split
 ·show BV true 3=0;decide
 ·exact h4 true
section
theorem PX {a q:Int}:∀(rs:List Nd),(∀r,r∈rs->RecF a q r)->∀{s:Int},s+rs.length+3*Bz (A5 rs)<=524288->∃s',HN rs 2 s= .ok s'/\s<=s'/\s'<=s+rs.length+3*Bz (A5 rs)
 | [],_,s,hs=>⟨s,rfl,by omega,by simp[A5,Bz]⟩
 | r::rs,hF,s,hs=>by
  obtain⟨ks,t,rfl,_,hk⟩:=hF r (.head _)
  have e:A5 (.mk 8 [] [] ks t::rs)=ks.map AL::A5 rs:=rfl
  rw[e]at hs⊢
  simp only[Bz,List.length_map,List.length_cons]at hs⊢
  obtain⟨s1,j1,j2,j3⟩:=MN ks hk (s:=s+1) (by omega)
  obtain⟨s2,j4,j5,j6⟩:=PX rs (fun r hr=>hF r (.tail _ hr)) (s:=s1) (by omega)
  have l8:IE 8=false:=by decide
  refine⟨s2,?_,by omega,by omega⟩
  simp only[HN,chk,l8]
  rw[if_neg (by omega),if_neg (by omega),if_neg (by omega),if_neg (by simp)]
  simp only[Int.reduceAdd]
  rw[j1]
  exact j4
theorem YQ {s:B8} {a q:Int} {hd:Bool} {rs:List Nd} (hc:1+rs.length+3*Bz (A5 rs)<=524288) (h:Ex s a q hd= .ok (.mk 1 [] [] rs [])):CF (.mk 1 [] [] rs [])=s/\HM (.mk 1 [] [] rs [])=0/\Hy (.mk 1 [] [] rs []) a q hd:=by
 obtain⟨rs',hn,_,_,hle,_,_,hr,_⟩:=B2 h
 cases hn
 have hle:(s.length:Int)<=1048576:=hle
 have ht:CF (.mk 1 [] [] rs [])=s:=by
  have:=Gz.text hr (Nat.zero_le _)
  simp only[CF,List.nil_append,List.append_nil]
  rw[this];rfl
 have hlen:DS (.mk 1 [] [] rs [])=s.length:=by rw[<-C8,ht]
 have hc:HM (.mk 1 [] [] rs [])=0:=by
  obtain⟨s',h1,h2,h3⟩:=PX rs (hr.form (Nat.zero_le _)) (s:=1) (by omega)
  have h4:chk (.mk 1 [] [] rs []) 1 0= .ok s':=by
   have l1:IE 1=false:=by decide
   simp only[chk,l1]
   rw[if_neg (by omega),if_neg (by omega),if_neg (by omega),if_neg (by simp)]
   exact h1
  unfold HM
  rw[h4]
  simp only
  rw[if_neg (by omega)]
 exact⟨ht,hc,hc,by rw[ht];exact h⟩
mutual
theorem Tb:∀(v:Vl) (d n:Nat),AS v->d+lvV v<=49->n+v.cnt<=65536->DD d n v=(n+v.cnt,0)
 | .mk s l f,d,n,h,h1,h2=>by
  unfold AS at h
  obtain⟨g1,g2,g3⟩:=h
  unfold lvV at h1
  unfold Vl.cnt at h2⊢
  have e1:=Vf l (d+1) (n+1) g2 (by omega) (by omega)
  have e2:=Vj f (d+1) (n+1+AX l) g3 (by omega) (by omega)
  rw[XY (by omega) (by omega) (Mt.2 g1),e1,CU rfl]
  show CG (d+1) (n+1+AX l) f=_
  rw[e2]
  congr 1;omega
theorem Vf:∀(l:List Vl) (d n:Nat),Cp l->(l≠ []->d+QA l<=49)->n+AX l<=65536->Dj d n l=(n+AX l,0)
 | [],d,n,_,_,_=>by unfold Dj AX;rfl
 | v::r,d,n,h,h1,h2=>by
  unfold Cp at h
  have h1:=h1 (by simp)
  unfold QA at h1
  unfold AX at h2⊢
  have e1:=Tb v d n h.1 (by omega) (by omega)
  have e2:=Vf r d (n+v.cnt) h.2 (fun _=>by omega) (by omega)
  rw[PU,e1,CU rfl]
  show Dj d (n+v.cnt) r=_
  rw[e2]
  congr 1;omega
theorem chkD_of:∀(x:Fd) (d n:Nat),Gt x->d+lvD x<=49->n+x.cnt<=65536->NI d n x=(n+x.cnt,0)
 | .mk k v,d,n,h,h1,h2=>by
  unfold Gt at h
  unfold lvD at h1
  unfold Fd.cnt at h2⊢
  unfold NI
  exact Tb v d n h h1 h2
theorem Vj:∀(l:List Fd) (d n:Nat),CE l->(l≠ []->d+QB l<=49)->n+Bg l<=65536->CG d n l=(n+Bg l,0)
 | [],d,n,_,_,_=>by unfold CG Bg;rfl
 | x::r,d,n,h,h1,h2=>by
  unfold CE at h
  have h1:=h1 (by simp)
  unfold QB at h1
  unfold Bg at h2⊢
  have e1:=chkD_of x d n h.1 (by omega) (by omega)
  have e2:=Vj r d (n+x.cnt) h.2 (fun _=>by omega) (by omega)
  unfold CG
  rw[e1,CU rfl]
  show CG d (n+x.cnt) r=_
  rw[e2]
  congr 1;omega
end
theorem check_of {v:Vl} (h:AS v) (hl:lvV v<=48) (hc:v.cnt<=65536):CC v=0:=by
 unfold CC
 rw[Tb v 1 0 h (by omega) (by omega)]
theorem QP {l:List Vl} (h:∀x,x∈l->AS x):Cp l:=by
 induction l with
 | nil=>unfold Cp;trivial
 | cons x r ih=>unfold Cp;exact⟨h x (.head _),ih fun y hy=>h y (.tail _ hy)⟩
theorem Yb {l:List Fd} (h:∀x,x∈l->AS x.val):CE l:=by
 induction l with
 | nil=>unfold CE;trivial
 | cons x r ih=>
  unfold CE
  refine⟨?_,ih fun y hy=>h y (.tail _ hy)⟩
  cases x
  unfold Gt
  exact h _ (.head _)
theorem MT {s:Sc} (h:Eb s [] []):AS (A2 s):=by
 unfold A2 AS Cp CE
 exact⟨h,trivial,trivial⟩
theorem UJ:∀(f:List Fd) (seen:List B8),BT f->(∀d,d∈f->d.key∉seen/\U8 d.key/\d.key.length<=1024)->Fj seen f=0
 | [],seen,_,_=>rfl
 | d::r,seen,hn,h=>by
  obtain⟨h1,h2,h3⟩:=h d (.head _)
  unfold Fj
  unfold BT at hn
  rw[List.map_cons,List.nodup_cons]at hn
  rw[if_pos h2,if_neg (by omega),if_neg h1]
  refine UJ r _ hn.2 fun x hx=>?_
  obtain⟨g1,g2,g3⟩:=h x (.tail _ hx)
  refine⟨fun hm=>?_,g2,g3⟩
  rcases List.mem_cons.1 hm with he | hm
  ·exact hn.1 (he▸List.mem_map.2 ⟨x,hx,rfl⟩)
  ·exact g1 hm
theorem Yc {f:List Fd} (hn:BT f) (hk:∀d,d∈f->U8 d.key/\d.key.length<=1024) (h:∀x,x∈f->AS x.val):AS (HW f):=by
 unfold HW AS
 exact⟨⟨⟨by simp,by simp,by simp[scZ],by simp[scZ],by simp[scZ],by simp[scZ],by simp[scZ],by simp,by simp⟩,by constructor<;>simp[scZ],by simp,VF,by simp[scZ],by simp[scZ],UJ f [] hn fun d hd=>⟨by simp,hk d hd⟩⟩,by unfold Cp;trivial,Yb h⟩
theorem X6 {names:List B8} {row:List Sc} (h:names.length=row.length):(Gw names row).map Fd.key=names:=by
 unfold Gw
 rw[List.map_zipWith]
 show List.zipWith (fun k _=>k) names row=names
 refine List.ext_getElem? fun i=>?_
 rw[List.getElem?_zipWith]
 by_cases hi:i<names.length
 ·rw[List.getElem?_eq_getElem hi,List.getElem?_eq_getElem (by omega)]
 ·rw[List.getElem?_eq_none (by omega)]
theorem Zl {names:List B8} {row:List Sc} {d:Fd} (h:d∈Gw names row):∃s,s∈row/\d.val=A2 s:=by
 unfold Gw at h
 obtain⟨i,hi⟩:=List.getElem?_of_mem h
 rw[List.getElem?_zipWith]at hi
 split at hi
 ·rename_i k s h1 h2
  cases hi
  exact⟨s,List.mem_of_getElem? h2,rfl⟩
 ·cases hi
structure FJ (q:Int) (hd:Bool) (W:Nat) (l:List (List B8)):Prop where
 txt:∀r,r∈l->∀c,c∈r->U8 (txt q c)/\(TVF.txt q c).length<=65536
 wid:∀r,r∈l->r.length=W
 pos:l≠ []->0<W
 names:hd=true->∀r,l.head? =some r->(r.map (TVF.txt q)).Nodup/\∀c,c∈r->(TVF.txt q c).length<=1024
theorem Ui {q:Int} {ty:Bool} {r:List B8} (h:∀c,c∈r->U8 (txt q c)/\(txt q c).length<=65536):∀s,s∈Cm q ty r->Eb s [] []/\BV ty s.kind=0:=by
 intro s hs
 obtain⟨c,hc,rfl⟩:=List.mem_map.1 hs
 obtain⟨h1,h2⟩:=h c hc
 exact⟨Zb h1 h2,WS _ _ _⟩
theorem Ow {q:Int} {hd ty:Bool} {l:List (List B8)} {x:Vl} (hx:x∈Cb q hd ty l):(hd=false/\∃r,r∈l/\x=A7 ((Cm q ty r).map A2))∨(hd=true/\∃h t r,l=h::t/\r∈t/\x=HW (Gw (h.map (txt q)) (Cm q ty r))):=by
 cases hd with
 | false=>
  rw[F8]at hx
  obtain⟨r,hr,rfl⟩:=List.mem_map.1 hx
  exact .inl ⟨rfl,r,hr,rfl⟩
 | true=>
  cases l with
  | nil=>cases hx
  | cons h t=>
   have hx:x∈t.map fun r=>OT (h.map (txt q)) (Cm q ty r):=hx
   obtain⟨r,hr,rfl⟩:=List.mem_map.1 hx
   exact .inr ⟨rfl,h,t,r,rfl,hr,rfl⟩
section
variable {q:Int} {hd ty:Bool} {W:Nat} {l:List (List B8)}
theorem FJ.fld (ok:FJ q hd W l) {h r:List B8} {t:List (List B8)} (hl:l=h::t) (hr:r∈t):(Gw (h.map (TVF.txt q)) (Cm q ty r)).map Fd.key=h.map (TVF.txt q)/\h.length=W/\r.length=W:=by
 have h1:=ok.wid h (by rw[hl];exact .head _)
 have h2:=ok.wid r (by rw[hl];exact .tail _ hr)
 exact⟨X6 (by rw[List.length_map,Do,h1,h2]),h1,h2⟩
theorem FJ.valid (ok:FJ q hd W l):∀x,x∈Cb q hd ty l->AS x:=by
 intro x hx
 rcases Ow hx with⟨rfl,r,hr,rfl⟩ | ⟨rfl,h,t,r,hl,hr,rfl⟩
 ·refine Os (QP fun y hy=>?_)
  obtain⟨s,hs,rfl⟩:=List.mem_map.1 hy
  exact MT (Ui (ok.txt r hr) s hs).1
 ·obtain⟨h1,h2,h3⟩:=ok.fld (ty:=ty) hl hr
  obtain⟨n1,n2⟩:=ok.names rfl h (by rw[hl];rfl)
  have hm:h∈l:=by rw[hl];exact .head _
  refine Yc (by unfold BT;rw[h1];exact n1) (fun d hd=>?_) fun d hd=>?_
  ·have:d.key∈h.map (TVF.txt q):=by rw[<-h1];exact List.mem_map.2 ⟨d,hd,rfl⟩
   obtain⟨c,hc,he⟩:=List.mem_map.1 this
   rw[<-he]
   exact⟨(ok.txt h hm c hc).1,n2 c hc⟩
  ·obtain⟨s,hs,he⟩:=Zl hd
   rw[he]
   exact MT (Ui (ok.txt r (by rw[hl];exact .tail _ hr)) s hs).1
theorem Xy (s:Sc):lvV (A2 s)=1:=by unfold A2 lvV QA QB;rfl
theorem FJ.lv (ok:FJ q hd W l):∀x,x∈Cb q hd ty l->lvV x=2:=by
 have hleaf:∀(r:List B8),0<r.length->QA ((Cm q ty r).map A2)=1:=by
  intro r
  unfold Cm
  rw[List.map_map]
  induction r with
  | nil=>intro h;exact absurd h (by simp)
  | cons c r ih=>
   intro _
   rw[List.map_cons,QA]
   show max (lvV (A2 _)) _=1
   rw[Xy]
   cases r with
   | nil=>rfl
   | cons c' r'=>rw[ih (by simp)];rfl
 have hflds:∀(names:List B8) (row:List Sc),names.length=row.length->0<row.length->QB (Gw names row)=1:=by
  intro names row
  induction row generalizing names with
  | nil=>intro _ h;exact absurd h (by simp)
  | cons s row ih=>
   intro h1 _
   cases names with
   | nil=>simp at h1
   | cons k names=>
    show QB (Fd.mk k (A2 s)::Gw names row)=1
    rw[QB,lvD,Xy]
    cases row with
    | nil=>cases names<;>rfl
    | cons s' row'=>rw[ih names (by simpa using h1) (by simp)];rfl
 intro x hx
 have hne:l≠ []:=fun e=>by rw[e]at hx;cases hx
 have hW:=ok.pos hne
 rcases Ow hx with⟨rfl,r,hr,rfl⟩ | ⟨rfl,h,t,r,hl,hr,rfl⟩
 ·unfold A7 lvV QB
  rw[hleaf r (by rw[ok.wid r hr];exact hW)];rfl
 ·obtain⟨h1,h2,h3⟩:=ok.fld (ty:=ty) hl hr
  unfold HW lvV QA
  rw[hflds _ _ (by rw[List.length_map,Do,h2,h3]) (by rw[Do,h3];exact hW)];rfl
theorem Vb (s:Sc):(A2 s).cnt=1:=by unfold A2 Vl.cnt AX Bg;rfl
theorem FJ.cnt (ok:FJ q hd W l):∀x,x∈Cb q hd ty l->x.cnt=1+W:=by
 have hleaf:∀(row:List Sc),AX (row.map A2)=row.length:=by
  intro row
  induction row with
  | nil=>rfl
  | cons s row ih=>rw[List.map_cons,AX,Vb,ih,List.length_cons];omega
 have hflds:∀(names:List B8) (row:List Sc),names.length=row.length->Bg (Gw names row)=row.length:=by
  intro names row
  induction row generalizing names with
  | nil=>intro h;cases names with | nil=>rfl | cons k n=>simp at h
  | cons s row ih=>
   intro h1
   cases names with
   | nil=>simp at h1
   | cons k names=>
    show Bg (Fd.mk k (A2 s)::Gw names row)=_
    rw[Bg,Fd.cnt,Vb,ih names (by simpa using h1),List.length_cons];omega
 intro x hx
 rcases Ow hx with⟨rfl,r,hr,rfl⟩ | ⟨rfl,h,t,r,hl,hr,rfl⟩
 ·unfold A7 Vl.cnt
  rw[hleaf,Do,ok.wid r hr];simp[Bg]
 ·obtain⟨h1,h2,h3⟩:=ok.fld (ty:=ty) hl hr
  unfold HW Vl.cnt
  rw[hflds _ _ (by rw[List.length_map,Do,h2,h3]),Do,h3];simp[AX]
end
theorem MS {c:Nat}:∀{l:List Vl},(∀x,x∈l->x.cnt=c)->AX l=l.length*c
 | [],_=>by rw[AX,List.length_nil,Nat.zero_mul]
 | x::r,h=>by
  rw[AX,h x (.head _),MS fun y hy=>h y (.tail _ hy),List.length_cons,Nat.add_mul,Nat.one_mul,Nat.add_comm]
theorem Pe {c:Nat}:∀{l:List Vl},(∀x,x∈l->lvV x=c)->QA l=if l=[]then 0 else c
 | [],_=>rfl
 | x::r,h=>by
  rw[QA,h x (.head _),Pe fun y hy=>h y (.tail _ hy),if_neg (List.cons_ne_nil _ _)]
  split
  ·exact Nat.max_zero _
  ·exact Nat.max_self _
end
section
theorem entC_W {a q:Int} {k:Nd} (h:Xa a q k):P9 q (AL k):=by
 obtain⟨c,mark,rfl,hw,_⟩:=h
 exact hw
theorem rows_of {s:B8} {a q:Int} {hd:Bool} {rs:List Nd} (h:Ex s a q hd= .ok (.mk 1 [] [] rs [])):∃W,FJ q hd W (A5 rs)/\∀r,r∈rs->(Au r).length=W:=by
 obtain⟨rs',hn,hdo,_,_,hv,hdoc,hr,hsz,W,hW⟩:=B2 h
 cases hn
 have d:=U2 (a:=a) (q:=q) hdo
 have hv:vlen s=s.length:=hv
 have hu:=Gz.u8 (show(xU s a q).a<128 from d.a1) hv hr (bd_zero hv)
 have hf:=hr.form (Nat.zero_le _)
 have hK:∀r,r∈rs->(Au r).length=W.toNat:=fun r hr=>by have:=hW r hr;omega
 refine⟨W.toNat,⟨fun r hr c hc=>?_,fun r hr=>?_,fun hne=>?_,fun hh r hr=>?_⟩,hK⟩
 ·unfold A5 at hr
  obtain⟨x,hx,rfl⟩:=List.mem_map.1 hr
  obtain⟨k,hk,rfl⟩:=List.mem_map.1 hc
  obtain⟨ks,t,rfl,_,hks⟩:=hf x hx
  exact⟨u8_txt d.q1 (entC_W (hks k hk)) (hu _ hx k hk),hsz _ hx k hk⟩
 ·unfold A5 at hr
  obtain⟨x,hx,rfl⟩:=List.mem_map.1 hr
  rw[List.length_map,hK x hx]
 ·cases rs with
  | nil=>exact absurd rfl hne
  | cons x t=>
   obtain⟨ks,t',rfl,h1,_⟩:=hf x (.head _)
   have:=hK _ (List.Mem.head t)
   have this:ks.length=_:=this
   omega
 ·subst hh
  unfold A5 at hr
  rw[List.head?_map,Option.map_eq_some_iff]at hr
  obtain⟨x,hx,rfl⟩:=hr
  obtain⟨n1,n2⟩:=PI _ hdoc (Nat.zero_le _) x hx
  have he:((Au x).map AL).map (txt q)=Cc q (Au x):=by unfold Cc;rw[List.map_map];rfl
  refine⟨by rw[he];exact n1,fun c hc=>?_⟩
  have:txt q c∈Cc q (Au x):=by rw[<-he];exact List.mem_map.2 ⟨c,hc,rfl⟩
  exact n2 _ this
theorem S6 {W:Nat}:∀{rs:List Nd},(∀r,r∈rs->(Au r).length=W)->DB rs=((rs.length*(1+W):Nat):Int)
 | [],_=>by simp[DB]
 | r::rs,h=>by
  rw[DB,S6 fun x hx=>h x (.tail _ hx),JA,h r (.head _),List.length_cons,Nat.add_mul];omega
theorem Zx (q:Int) (hd ty:Bool) (l:List (List B8)):(Cb q hd ty l).length=if hd=true then l.length-1 else l.length:=by
 cases l with
 | nil=>cases hd<;>rfl
 | cons h t=>
  cases hd with
  | true=>
   show(t.map _).length=_
   rw[List.length_map];simp
  | false=>
   show((h::t).map _).length=_
   rw[List.length_map];simp
theorem val_cnt {q:Int} {hd ty:Bool} {W:Nat} {rs:List Nd} (ok:FJ q hd W (A5 rs)) (hK:∀r,r∈rs->(Au r).length=W):(((A7 (Cb q hd ty (A5 rs))).cnt:Nat):Int)=1+DR hd rs:=by
 have h1:(A7 (Cb q hd ty (A5 rs))).cnt=1+(Cb q hd ty (A5 rs)).length*(1+W):=by
  unfold A7 Vl.cnt
  rw[MS ok.cnt];simp[Bg]
 rw[h1,Zx,show(A5 rs).length=rs.length by unfold A5;rw[List.length_map]]
 unfold DR
 cases hd with
 | false=>rw[if_neg (by decide),if_neg (by decide),S6 hK];omega
 | true=>
  rw[if_pos rfl,if_pos rfl,S6 (W:=W) fun r hr=>hK r (List.mem_of_mem_tail hr),List.length_tail];omega
theorem val_lv {q:Int} {hd ty:Bool} {W:Nat} {l:List (List B8)} (ok:FJ q hd W l):lvV (A7 (Cb q hd ty l))=if Cb q hd ty l=[]then 1 else 3:=by
 unfold A7 lvV QB
 rw[Pe ok.lv]
 split<;>rfl
theorem Yd {q:Int} {hd ty:Bool} {W:Nat} {l:List (List B8)} (ok:FJ q hd W l):AS (A7 (Cb q hd ty l)):=Os (QP ok.valid)
theorem OV {s:B8} {a q:Int} {hd ty:Bool} {rs:List Nd} (h:Ex s a q hd= .ok (.mk 1 [] [] rs [])):CC (A7 (Cb q hd ty (A5 rs)))=0:=by
 obtain⟨W,ok,hK⟩:=rows_of h
 have h1:=val_cnt (ty:=ty) ok hK
 have h2:=costH_le h
 refine check_of (Yd ok) ?_ (by omega)
 rw[val_lv ok]
 split<;>omega
section
variable {q:Int} {hd ty:Bool} {W:Nat} {l:List (List B8)}
end
def txs (l:List Vl):Nat:=(l.map fun y=>y.sc.text.length).sum
theorem QW {a q:Int} {ty:Bool}:∀(ys:List Vl),(∀y,y∈ys->AS y)->BU (ys.map fun y=>BB a q ty y.sc)<=2*txs ys+202*ys.length
 | [],_=>Nat.zero_le _
 | y::r,h=>by
  have ih:=QW (a:=a) (q:=q) (ty:=ty) r fun y hy=>h y (.tail _ hy)
  have h1:=Mh (a:=a) (q:=q) (ty:=ty) (h y (.head _))
  unfold txs at ih⊢
  rw[List.map_cons,BU,List.map_cons,List.sum_cons,List.length_cons]
  omega
theorem Q3 {a q:Int} {hd ty:Bool} {first:Vl}:∀(l:List Vl),(∀x,x∈l->∀y,y∈AT hd first x->AS y)->Fg (l.map (Hw a q hd ty first))<=2*(l.map fun x=>txs (AT hd first x)).sum+202*(l.map fun x=>(AT hd first x).length).sum/\Bz (l.map (Hw a q hd ty first))=(l.map fun x=>(AT hd first x).length).sum
 | [],_=>⟨Nat.zero_le _,rfl⟩
 | x::r,h=>by
  obtain⟨i1,i2⟩:=Q3 (a:=a) (q:=q) (ty:=ty) r fun x hx=>h x (.tail _ hx)
  have h1:=QW (a:=a) (q:=q) (ty:=ty) _ (h x (.head _))
  have h1:BU (Hw a q hd ty first x)<=_:=h1
  have h2:(Hw a q hd ty first x).length=(AT hd first x).length:=by unfold Hw;rw[List.length_map]
  simp only[List.map_cons,Fg,Bz,List.sum_cons]
  omega
theorem Vc:∀l m:List (List B8),Bz (l++m)=Bz l+Bz m
 | [],m=>by simp[Bz]
 | x::r,m=>by rw[List.cons_append,Bz,Bz,Vc r m];omega
theorem Zo {a q:Int} {hd ty:Bool} {v:Vl} (hv:AS v) (hs:Ev hd v) {T C H N:Nat} (hT:(v.list.map fun x=>txs (AT hd (v.list.headD vlZ) x)).sum<=T) (hC:(v.list.map fun x=>(AT hd (v.list.headD vlZ) x).length).sum<=C)
  (hH:hd=true->v.list≠ []->BU ((v.list.headD vlZ).flds.map Fd.key)<=H/\(v.list.headD vlZ).flds.length<=N):
  (AU a (wrX a q hd ty v)).length<=2*T+203*C+v.list.length+2*H+3*N+1/\(wrX a q hd ty v).length+Bz (wrX a q hd ty v)<=v.list.length+C+1+N:=by
 obtain⟨h1,h2⟩:=Q3 (a:=a) (q:=q) (ty:=ty) (first:=v.list.headD vlZ) v.list fun x hx=>Ix hv hs hx
 have h3:=Ht a (Gb a q hd ty v)
 have h4:(AU a (HF a q hd v)).length<=2*H+3*N+1/\(HF a q hd v).length+Bz (HF a q hd v)<=1+N:=by
  unfold HF
  split
  ·rename_i h
   obtain⟨g1,g2⟩:=hH h.1 h.2
   have h5:=Ht a [(v.list.headD vlZ).flds.map fun d=>AO a q d.key]
   have h6:=OY a q (v.list.headD vlZ).flds
   simp only[Fg,Bz,List.length_cons,List.length_nil,List.length_map]at h5⊢
   exact⟨by omega,by omega⟩
  ·exact⟨Nat.zero_le _,by show 0+0<=_;omega⟩
 unfold Gb at h3
 rw[List.length_map]at h3
 rw[Zp,H1,List.length_append,List.length_append,Vc]
 unfold Gb
 rw[List.length_map]
 exact⟨by omega,by omega⟩
theorem ZA:∀l:List Vl,txs l<=A3 l
 | []=>Nat.zero_le _
 | y::r=>by
  have ih:=ZA r
  unfold txs at ih⊢
  obtain⟨s,l,f⟩:=y
  have:=szs s l f
  rw[List.map_cons,List.sum_cons,A3]
  show s.text.length+_<=_
  omega
theorem QL {a q:Int} {hd ty:Bool} {v:Vl} (hv:AS v) (hs:Ev hd v):(AU a (wrX a q hd ty v)).length<=4*v.sz+210*v.cnt+1/\(wrX a q hd ty v).length+Bz (wrX a q hd ty v)<=1+2*v.cnt:=by
 have hT:∀l:List Vl,(∀x,x∈l->x∈v.list)->(l.map fun x=>txs (AT hd (v.list.headD vlZ) x)).sum<=A3 l:=by
  intro l
  induction l with
  | nil=>intro _;exact Nat.zero_le _
  | cons x r ih=>
   intro h
   have:=ih fun y hy=>h y (.tail _ hy)
   have h1:=MO hv hs (h x (.head _))
   have h2:=ZA (AT hd (v.list.headD vlZ) x)
   rw[List.map_cons,List.sum_cons,A3];omega
 have hlen:∀x,x∈v.list->(AT hd (v.list.headD vlZ) x).length+1<=x.cnt:=by
  intro x hx
  obtain⟨s,l,f⟩:=x
  have h1:=X8 l
  have h3:f.length<=Bg f:=by
   have:∀g:List Fd,g.length<=Bg g:=by
    intro g
    induction g with
    | nil=>exact Nat.zero_le _
    | cons d r ih=>
     obtain⟨k,w⟩:=d
     have:=w.cnt_pos
     rw[Bg,Fd.cnt,List.length_cons];omega
   exact this f
  rw[Zt]
  unfold AT
  cases hd with
  | false=>rw[if_neg (by decide)];show l.length+1<=_;omega
  | true=>
   rw[if_pos rfl,List.length_map]
   have:=(hs.map rfl _ hx).2.2.1
   have this:f.length=(v.list.headD vlZ).flds.length:=this
   omega
 have hC:∀l:List Vl,(∀x,x∈l->x∈v.list)->(l.map fun x=>(AT hd (v.list.headD vlZ) x).length).sum+l.length<=AX l:=by
  intro l
  induction l with
  | nil=>intro _;exact Nat.zero_le _
  | cons x r ih=>
   intro h
   have:=ih fun y hy=>h y (.tail _ hy)
   have:=hlen x (h x (.head _))
   rw[List.map_cons,List.sum_cons,AX,List.length_cons];omega
 have t1:=hT v.list fun _ h=>h
 have t2:=hC v.list fun _ h=>h
 have t3:A3 v.list<=v.sz/\AX v.list+1<=v.cnt:=by
  obtain⟨s,l,f⟩:=v
  have:=szs s l f
  have:=Zt s l f
  show A3 l<=_/\AX l+1<=_
  exact⟨by omega,by omega⟩
 have h5:=Zo (a:=a) (q:=q) (hd:=hd) (ty:=ty) (T:=v.sz) (C:=v.cnt-1-v.list.length) (H:=v.sz) (N:=v.cnt-1) hv hs (by omega) (by omega) fun hh hne=>by
  have hm:v.list.headD vlZ∈v.list:=by
   cases hl:v.list with
   | nil=>exact absurd hl hne
   | cons x r=>exact .head _
  have g1:=Ff hm
  have g2:=hlen _ hm
  subst hh
  have g3:(AT true (v.list.headD vlZ) (v.list.headD vlZ)).length=(v.list.headD vlZ).flds.length:=by unfold AT;rw[if_pos rfl,List.length_map]
  have g5:(v.list.headD vlZ).cnt<=AX v.list:=by
   have:∀l:List Vl,∀x,x∈l->x.cnt<=AX l:=by
    intro l
    induction l with
    | nil=>intro x h;cases h
    | cons y r ih=>
     intro x h
     rw[AX]
     rcases List.mem_cons.1 h with rfl | h
     ·omega
     ·have:=ih x h;omega
   exact this _ _ hm
  generalize v.list.headD vlZ=x0 at*
  obtain⟨s,l,f⟩:=x0
  have g4:=Ju f
  have:=szs s l f
  have:=Zt s l f
  refine⟨?_,?_⟩
  ·show BU (f.map Fd.key)<=_;omega
  ·show f.length<=_
   have g3:_=f.length:=g3
   omega
 omega
end
section
section
variable {a q:Int} {hd ty:Bool} {st:St}
theorem Rx {s:B8} {l0 l1 l2 l3 l4:Int} (hl:s.length<=2000000) {rs:List Nd} (hP:Bc ⟨s,a,q,l0,l1⟩ hd l2 l3 l4= .ok (.mk 1 [] [] rs [])) (hcnt:1+rs.length+3*Bz (A5 rs)<=524288) {K:Int->Bool->Bool->B8->Int->Int->Int->Int->Int->B8->TV->TV->TV->Int->Int->St->Prop}
  (hk2:∀u xs st',Am st st'->Rd 13 u (Cb q hd ty (A5 rs)).length xs->VsR St.zero (Cb q hd ty (A5 rs)) xs->K 6 false false [] 0 0 0 0 0 [] .nilSlice u .nilSlice 0 0 st'):
  CallT PR CM [.str s,.agg [.int .u8 a,.int .u8 q,.bool hd,.bool ty],.agg [.int .i64 l0,.int .i64 l1,.int .i64 l2,.int .i64 l3,.int .i64 l4]] [.agg Vv,.one (.int .i64),.one (.int .i64)] st K:=by
 refine KZ s a q hd ty l0 l1 l2 l3 l4 st K (JM (x:=⟨s,a,q,l0,l1⟩) (by show s.length<=_;omega) fun k kv st1 e1 hn=>?_)
 obtain⟨_,_,_,_,_,h5,ho⟩:=hn.five
 cases h5
 have hcn:ES (pN (Bc ⟨s,a,q,l0,l1⟩ hd l2 l3 l4))<=1000000000000000:=SG (by show s.length<=_;omega)
 rw[hP]at hn hcn⊢
 have hU:=M6 hP
 obtain⟨htx,_,hou⟩:=YQ hcnt hU
 have hnl:=C8 (.mk 1 [] [] rs [])
 rw[htx]at hnl
 have hl':s.length<=2000000:=hl
 refine Ab (Ey ho) (Aa (fun g=>absurd rfl g) fun _=>MF hn (by show DS (.mk 1 [] [] rs [])<=_;rw[<-hnl];show s.length<=_;omega) hcn (fun ho=>?_) (fun h=>absurd hou h) fun _ u xs st2 e2 hu hx=>?_)
 ·obtain⟨rs',W,he,hT⟩:=Mr ho
  have he:Nd.mk 1 [] [] rs []= .mk 1 [] [] rs' []:=he
  cases he
  exact⟨W,hT⟩
 ·exact Ab (Dg rfl hu.one rfl) (Ab (Dg rfl hu.one rfl) (hk2 u xs st2 (e1.trans e2) hu hx))
end
theorem llosslessG_ok {s:B8} {v:Vl} {cs:List TV} {a q:Int} {hd ty:Bool} {st:St} {K:Bool->St->Prop} (h:VlR St.zero v cs) (hk:∀st',K true st'):
  CallT PR fn_datakitlaw28_GridLossless [.str s,.agg cs,.agg [.int .u8 a,.int .u8 q,.bool hd,.bool ty]] [.one .bool] st K:=by
 have h0:=h
 obtain⟨s',l,f⟩:=v
 obtain⟨ub,ul,uf,xl,xf,rfl,_⟩:=h.cells
 refine Fy s _ _ _ _ _ _ _ _ _ _ _ _ _ a q hd ty st K (Aa (fun _=>Es fun _ _=>hk _) fun g=>VN h0 fun b hb=>Ap (fun _=>Es fun _ _=>hk _) fun g2=>Rq ?_)
 have hs:s.length<=1500:=by omega
 obtain⟨hz,hcn⟩:=hb (by simpa using g2)
 have hable:∀ha:DH a q hd ty (.mk s' l f)=0,(AU a (wrX a q hd ty (.mk s' l f))).length<=120000/\Ew a q hd ty (.mk s' l f)=0/\IU a q hd ty (.mk s' l f)=AU a (wrX a q hd ty (.mk s' l f)):=fun ha=>by
  obtain⟨hdo,hck,hS,hC⟩:=P3 ha
  obtain⟨w1,w2⟩:=QL (a:=a) (q:=q) (ty:=ty) (Fp hck) hS
  have htw:MV a q hd ty (.mk s' l f)=AU a (wrX a q hd ty (.mk s' l f)):=by unfold MV;rw[if_pos ha]
  have hwe:Ew a q hd ty (.mk s' l f)=0:=by unfold Ew;rw[if_pos ha,htw,if_neg (by omega)]
  exact⟨by omega,hwe,by unfold IU;rw[if_pos hwe,htw]⟩
 have hbad:∀ha:¬DH a q hd ty (.mk s' l f)=0,Ew a q hd ty (.mk s' l f)=DH a q hd ty (.mk s' l f)/\IU a q hd ty (.mk s' l f)=[]:=fun ha=>by
  have hw:Ew a q hd ty (.mk s' l f)=DH a q hd ty (.mk s' l f):=by unfold Ew;rw[if_neg ha]
  exact⟨hw,by unfold IU;rw[hw,if_neg ha]⟩
 have hgood:∀ha:DH a q hd ty (.mk s' l f)=0,∃rs2,Ex (AU a (wrX a q hd ty (.mk s' l f))) a q hd= .ok (.mk 1 [] [] rs2 [])/\1+rs2.length+3*Bz (A5 rs2)<=524288/\DQ (A7 (Cb q hd ty (A5 rs2)))=DQ (.mk s' l f)/\(hd=false->A7 (Cb q hd ty (A5 rs2))= .mk s' l f)/\KNd (.mk s' l f)/\KNd (A7 (Cb q hd ty (A5 rs2)))/\(A7 (Cb q hd ty (A5 rs2))).sz<=2000000/\(A7 (Cb q hd ty (A5 rs2))).cnt<=65536:=fun ha=>by
  obtain⟨hdo,hck,hS,hC⟩:=P3 ha
  have hV:=Fp hck
  obtain⟨w1,w2⟩:=QL (a:=a) (q:=q) (ty:=ty) hV hS
  obtain⟨rs2,hp2,hraw2⟩:=wr_read hdo hV hS hC (by omega) (by omega)
  obtain⟨x1,x2⟩:=wr_val (U2 hdo) hV hS hC
  have hck2:=OV (ty:=ty) hp2
  rw[valX_eq,<-hraw2]at x1 x2
  refine⟨rs2,hp2,?_,x1,x2,hV.ok.2,(Fp hck2).ok.2,?_,RT hck2⟩
  ·have:rs2.length=(A5 rs2).length:=by unfold A5;rw[List.length_map]
   rw[this,hraw2];omega
  ·have:=congrArg Vl.sz x1
   rw[Lg,Lg]at this
   omega
 have hpb:s.length<=2000000:=by omega
 refine JM (x:=⟨s,a,q,48,65536⟩) hpb fun k kv st1 e1 hn=>?_
 obtain⟨_,_,_,_,_,h5,ho⟩:=hn.five
 cases h5
 have hcn2:ES (pN (Bc ⟨s,a,q,48,65536⟩ hd 1048576 1024 65536))<=1000000000000000:=SG hpb
 refine Ab (Ey ho) (UU (s:=s) (by omega) (fun p st2 e2 hp hne=>?_) fun rs u xs st2 e2 hp hu hx=>?_)
 ·rw[hp]
  refine Ab (Dg rfl rfl rfl) (Aa (fun g=>absurd rfl g) fun _=>Aa (fun g=>absurd g hne) fun _=>?_)
  refine Rw (by omega) h0 fun stA eA=>?_
  by_cases ha:DH a q hd ty (.mk s' l f)=0
  ·obtain⟨t1,t2,t3⟩:=hable ha
   obtain⟨rs2,hp2,hc2,hs2,hd2,k1,k2,hz2,hcn3⟩:=hgood ha
   rw[t2,t3]
   generalize AU a (wrX a q hd ty (.mk s' l f))=t at t1 hp2
   refine Aa (fun g=>absurd rfl g) fun _=>Rx (s:=t) (by omega) hp2 hc2 fun u2 xs2 stB eB hu2 hx2=>?_
   have hv2:=KW hu2 hx2
   refine Ab (Dg rfl hu2.one rfl) (LE (by omega) h0 fun stC eC=>?_)
   rw[ha]
   refine Aa (fun _=>Aa (fun _=>?_) fun g=>absurd rfl g) fun g=>absurd rfl g
   refine Ra (v:=A7 (Cb q hd ty (A5 rs2))) (w:= .mk s' l f) hz2 (by omega) hcn3 k2 k1 hv2 h0 (Db _) fun r stD eD hr=>?_
   rw[hr.2 hs2]
   refine Ap (fun _=>Ap (fun _=>Es fun _ _=>hk _) fun hh=>?_) fun g=>by cases g
   refine O4 (v:=A7 (Cb q hd ty (A5 rs2))) (w:= .mk s' l f) hz2 (by omega) hcn3 hv2 h0 (Db _) fun r stE eE hr=>?_
   rw[hr.2 (hd2 hh)]
   exact Ap (fun _=>Es fun _ _=>hk _) fun g=>by cases g
  ·obtain⟨t2,t3⟩:=hbad ha
   rw[t2,t3]
   exact Aa (fun _=>LE (by omega) h0 fun stB eB=>Aa (fun _=>Aa (fun _=>Es fun _ _=>hk _) fun g=>absurd rfl g) fun g=>absurd rfl g) fun g=>absurd ha g
 ·rw[hp]at hn hcn2⊢
  have hU:Ex s a q hd= .ok (.mk 1 [] [] rs []):=hp
  obtain⟨htx,hc0,hou⟩:=Pf (show s.length<=70000 by omega) hU
  have hnl:=C8 (.mk 1 [] [] rs [])
  rw[htx]at hnl
  have hck:=OV (ty:=ty) hU
  have hz1:=read_sz (ty:=ty) hU hs
  have hvx:=KW hu hx
  refine Ab (Dg rfl hu.one rfl) (Aa (fun g=>absurd rfl g) fun _=>Aa (fun _=>?_) fun g=>absurd rfl g)
  refine MF hn (by show DS (.mk 1 [] [] rs [])<=_;rw[<-hnl];omega) hcn2 (fun ho=>?_) (fun h=>absurd hou h) fun _ u3 xs3 st3 e3 hu3 hx3=>?_
  ·obtain⟨rs',W,he,hT⟩:=Mr ho
   have he:Nd.mk 1 [] [] rs []= .mk 1 [] [] rs' []:=he
   cases he
   exact⟨W,hT⟩
  refine Ab (Dg rfl hu3.one rfl) (QV hn (by show DS (.mk 1 [] [] rs [])<=_;rw[<-hnl];omega) hcn2 fun st4 e4=>?_)
  rw[show HM (pN (.ok (.mk 1 [] [] rs [])))=0 from hc0]
  refine Aa (fun g=>absurd rfl g) fun _=>QS hn (by show DS (.mk 1 [] [] rs [])<=_;rw[<-hnl];omega) hcn2 fun st5 e5=>?_
  rw[show CF (pN (.ok (.mk 1 [] [] rs [])))=s from htx]
  refine Aa (fun g=>absurd rfl g) fun _=>Aa (fun g=>absurd rfl g) fun _=>?_
  refine O4 (v:=A7 (Cb q hd ty (A5 rs))) (w:=A7 (Cb q hd ty (A5 rs))) (by omega) (by omega) (RT hck) hvx (KW hu3 hx3) (Db _) fun r st6 e6 hr=>?_
  rw[hr.2 rfl]
  refine Ap (fun g=>by cases g) fun _=>P8 (v:=A7 (Cb q hd ty (A5 rs))) (by omega) hvx (Db _) fun st7 e7=>?_
  rw[hck]
  refine Aa (fun g=>absurd rfl g) fun _=>?_
  refine Rw (by omega) h0 fun stA eA=>?_
  by_cases ha:DH a q hd ty (.mk s' l f)=0
  ·obtain⟨t1,t2,t3⟩:=hable ha
   obtain⟨rs2,hp2,hc2,hs2,hd2,k1,k2,hz2,hcn3⟩:=hgood ha
   rw[t2,t3]
   generalize AU a (wrX a q hd ty (.mk s' l f))=t at t1 hp2
   refine Aa (fun g=>absurd rfl g) fun _=>Rx (s:=t) (by omega) hp2 hc2 fun u2 xs2 stB eB hu2 hx2=>?_
   have hv2:=KW hu2 hx2
   refine Ab (Dg rfl hu2.one rfl) (LE (by omega) h0 fun stC eC=>?_)
   rw[ha]
   refine Aa (fun _=>Aa (fun _=>?_) fun g=>absurd rfl g) fun g=>absurd rfl g
   refine Ra (v:=A7 (Cb q hd ty (A5 rs2))) (w:= .mk s' l f) hz2 (by omega) hcn3 k2 k1 hv2 h0 (Db _) fun r stD eD hr=>?_
   rw[hr.2 hs2]
   refine Ap (fun _=>Ap (fun _=>Es fun _ _=>hk _) fun hh=>?_) fun g=>by cases g
   refine O4 (v:=A7 (Cb q hd ty (A5 rs2))) (w:= .mk s' l f) hz2 (by omega) hcn3 hv2 h0 (Db _) fun r stE eE hr=>?_
   rw[hr.2 (hd2 hh)]
   exact Ap (fun _=>Es fun _ _=>hk _) fun g=>by cases g
  ·obtain⟨t2,t3⟩:=hbad ha
   rw[t2,t3]
   exact Aa (fun _=>LE (by omega) h0 fun stB eB=>Aa (fun _=>Aa (fun _=>Es fun _ _=>hk _) fun g=>absurd rfl g) fun g=>absurd rfl g) fun g=>absurd ha g
end
end Go.TVF
