/- What the laws below rest on: a framework for Go programs, and contracts of the functions that they reach. -/
import Derived.Test.YtpfhcnpnngjpnaaGreatDoorHaG
import Derived.SizedLaws
set_option maxRecDepth 20000
set_option linter.unusedVariables false
set_option linter.unusedSimpArgs false
namespace Go.TVF
open Go.IntKind(i64 u8)
open Go Go.Proofs
section
def nmP (c:SC) (A:RA):Prop:=c.hd=true->(A.rows=0->A.names.length=if A.within=true then A.cells else 0)/\(0<A.rows->A.width=A.names.length)
def cwP (A:RA):Prop:=A.late=0->0<A.rows->A.cells<A.width
def HeldW (q:Int) (ph:Nat) (held:B8):Prop:=
 (ph=0∨ph=4->held=[])/\(ph=1->held=[]∨by_ held 0≠q)/\(ph=2->∃(b:UInt8) (t:B8),(b.toNat:Int)=q/\held=b::dbl b t)/\(ph=3->∃(b:UInt8) (t:B8),(b.toNat:Int)=q/\held=b::(dbl b t++[b]))
structure W (c:SC) (A:RA):Prop where
 ph:A.ph<=4
 wi:A.ph≠0->A.within=true
 held:HeldW c.q A.ph A.held
 nm:nmP c A
 cw:A.ph≠0->A.ph≠4->cwP A
variable {c:SC} {A:RA}
theorem W.start (c:SC):W c RA.start:=⟨by decide,fun h=>absurd rfl h,⟨fun _=>rfl,fun h=>(by cases h),fun h=>(by cases h),fun h=>(by cases h)⟩,fun _=>⟨fun _=>rfl,fun h=>(by cases h)⟩,fun h=>absurd rfl h⟩
theorem Pk {e:Int} (he:e≠0) (A:RA):(BK A e).late≠0:=by
 unfold BK
 split
 ·exact he
 ·assumption
theorem NT (h:A.late≠0) (e:Int):(BK A e).late≠0:=by
 unfold BK
 rw[if_neg h];exact h
theorem TA (h:A.late≠0) (d:Int):(BG c A d).late≠0:=by
 unfold BG Fi
 split
 ·exact NT h _
 split
 ·exact NT h _
 ·exact h
theorem Oc (c:SC) (A:RA) (o:Int):cwP (AJ c A o):=by
 intro hl hr
 obtain⟨hS,hf,hw,hc⟩:=Cn c A o
 obtain⟨h1S,h1f,h1w,h1c⟩:=I0 c A o
 rw[hS.rows]at hr
 rw[hc,hS.width]
 rw[<-h1c,<-h1S.width]
 by_cases h:(AI c A o).width<=(AI c A o).cells
 ·exfalso
  have e:Cs (AI c A o)=BK (AI c A o) 10:=if_pos ⟨by rw[h1S.rows];exact hr,h⟩
  unfold AJ D6 at hl
  rw[e]at hl
  split at hl
  ·exact Pk (by decide) _ hl
  ·exact TA (Pk (by decide) _) _ hl
 ·omega
theorem Ob (h:nmP c A) (o:Int):nmP c (AJ c A o):=by
 intro hd
 obtain⟨hS,hf,hw,hc⟩:=Cn c A o
 obtain⟨n1,n2⟩:=h hd
 rw[hS.rows,hS.names,hS.width,hw,hc]
 refine⟨fun hr=>?_,n2⟩
 rw[n1 hr,if_pos rfl]
theorem Ua (he:A.err=0) (h:(AX c A).err=0):A.late=0/\AX c A=if AR c A=true then {A with held:=[],names:=A.names++[txt c.q A.held],cells:=A.cells+1} else {A with held:=[],cells:=A.cells+1,out:=A.out++evC c A.names A.cells A.held}:=by
 have hl:A.late=0:=by
  by_cases hl:A.late=0
  ·exact hl
  ·have:=(Kt (c:=c) hl he).1
   omega
 refine⟨hl,Ov he hl ?_⟩
 by_cases hT:E5 c (AR c A) A.names (txt c.q A.held)=0
 ·exact hT
 ·have:=(PP (i:=0) (e:=0) (ph:=0) he hl hT).1
  omega
theorem cell_nm (he:A.err=0) (h:(AX c A).err=0) (hw:A.within=true) (hn:nmP c A):nmP c (AX c A)/\(AX c A).within=true/\(AX c A).held=[]:=by
 obtain⟨hl,e⟩:=Ua he h
 rw[e]
 by_cases hh:AR c A=true
 ·rw[if_pos hh]
  refine⟨fun hd=>?_,hw,rfl⟩
  obtain⟨n1,n2⟩:=hn hd
  have hr:A.rows=0:=by
   unfold AR at hh
   rw[hd,Bool.true_and]at hh
   exact of_decide_eq_true hh
  refine⟨fun _=>?_,fun h0=>?_⟩
  ·have:=n1 hr
   rw[if_pos hw]at this
   show(A.names++[_]).length=if A.within=true then A.cells+1 else 0
   rw[if_pos hw,List.length_append,this];rfl
  ·have h0:0<A.rows:=h0
   omega
 ·rw[if_neg hh]
  refine⟨fun hd=>?_,hw,rfl⟩
  obtain⟨n1,n2⟩:=hn hd
  have hr:A.rows≠0:=by
   intro hr
   apply hh
   unfold AR
   rw[hd,hr];rfl
  exact⟨fun h0=>absurd h0 hr,n2⟩
theorem RE (he:A.err=0) {o:Int} (h:(AH c A o).err=0):¬(Cu A).cells<(Cu A).width/\AH c A o={Cu A with out:=(Cu A).out++(if AR c (Cu A)=true then []else [if c.hd then .me else .le]),rows:=(Cu A).rows+1,within:=false,ph:=0}:=by
 have e:AH c A o=CG c (Cu A) o:=if_neg (by omega)
 have hwe:(Cu A).err=0:=by unfold Cu;split<;>exact he
 rw[e]at h⊢
 unfold CG at h⊢
 by_cases hc:(Cu A).cells<(Cu A).width
 ·rw[if_pos hc]at h
  have:=(Bu (A:=Cu A) (o:=o) (e:=10) hwe (by decide)).1
  omega
 ·rw[if_neg hc];exact⟨hc,rfl⟩
theorem RF (he:A.err=0) {o:Int} (h:(AH c A o).err=0) (hw:A.within=true) (hh:A.held=[]) (hn:nmP c A):W c (AH c A o):=by
 obtain⟨hc,e⟩:=RE he h
 have eh:(Cu A).held=[]:=by unfold Cu;split<;>exact hh
 rw[e]
 refine⟨by show 0<=4;decide,fun h=>absurd rfl h,⟨fun _=>eh,fun h=>(by cases h),fun h=>(by cases h),fun h=>(by cases h)⟩,fun hd=>?_,fun h=>absurd rfl h⟩
 obtain⟨n1,n2⟩:=hn hd
 refine⟨fun h0=>?_,fun _=>?_⟩
 ·cases h0
 ·show(Cu A).width=(Cu A).names.length
  unfold Cu
  split
  ·rename_i h0
   have:=n1 h0
   rw[if_pos hw]at this
   exact this.symm
  ·exact n2 (by omega)
theorem Vc (he:A.err=0) {b:UInt8} {o:Int} (h:(Dk c b o A).err=0) (hw:A.within=true) (hn:nmP c A):W c (Dk c b o A):=by
 have hce:(AX c A).err=0:=by
  by_cases hc:(AX c A).err=0
  ·exact hc
  ·unfold Dk at h
   rw[if_pos hc]at h
   exact absurd h hc
 obtain⟨k1,k2,k3⟩:=cell_nm he hce hw hn
 unfold Dk at h⊢
 rw[if_neg (fun g=>g hce)]at h⊢
 split
 ·exact⟨by show 0<=4;decide,fun h=>absurd rfl h,⟨fun _=>k3,fun h=>(by cases h),fun h=>(by cases h),fun h=>(by cases h)⟩,k1,fun h=>absurd rfl h⟩
 rename_i g1
 rw[if_neg g1]at h
 split
 ·rename_i g2
  rw[if_pos g2]at h
  exact RF hce h k2 k3 k1
 rename_i g2
 rw[if_neg g2]at h
 split
 ·exact⟨by show 4<=4;decide,fun _=>k2,⟨fun _=>k3,fun h=>(by cases h),fun h=>(by cases h),fun h=>(by cases h)⟩,k1,fun _ h=>absurd rfl h⟩
 ·rename_i g3
  rw[if_neg g3,(Bu hce (by decide)).1]at h
  cases h
theorem G8 {b:UInt8} (he:A.err=0) (h:(CC c b A).err=0):CC c b A={A with held:=A.held++[b]}:=by
 unfold CC at h⊢
 split
 ·rename_i g
  rw[if_pos g,(Bu he (by decide)).1]at h
  cases h
 ·rfl
theorem UK (he:A.err=0) {b:UInt8} {o:Int} (h:(CI c b o A).err=0) (hp:A.ph=1) (hw:A.within=true) (hn:nmP c A) (hc:cwP A) (hh:A.held=[]∨by_ A.held 0≠c.q):W c (CI c b o A):=by
 unfold CI at h⊢
 split
 ·rename_i g;rw[if_pos g]at h;exact Vc he h hw hn
 rename_i g;rw[if_neg g]at h
 split
 ·rename_i g2;rw[if_pos g2]at h
  exact absurd h (Pl he (by decide))
 rename_i g2;rw[if_neg g2]at h
 rw[G8 he h]
 refine⟨by show A.ph<=4;omega,fun _=>hw,⟨fun h=>by have h:A.ph=0∨A.ph=4:=h;omega,fun _=> .inr ?_,fun h=>by have h:A.ph=2:=h;omega,fun h=>by have h:A.ph=3:=h;omega⟩,hn,fun _ _=>hc⟩
 show by_ (A.held++[b]) 0≠c.q
 rcases hh with hh | hh
 ·rw[hh];exact g2
 ·cases hd:A.held with
  | nil=>exact g2
  | cons x l=>rw[hd]at hh;exact hh
theorem Su (b:UInt8) (t:B8) (x:UInt8):dbl b (t++[x])=dbl b t++(if x=b then [b,b]else [x]):=by
 unfold dbl
 rw[List.flatMap_append]
 simp[SX]
theorem next_W (hW:W c A) (he:A.err=0) {b:UInt8} {o:Int} (h:(Bj c b o A).err=0):W c (Bj c b o A):=by
 have hp:=hW.ph
 unfold Bj at h⊢
 by_cases p0:A.ph=0
 ·rw[if_pos p0]at h⊢
  obtain⟨hS,hf,hw,hc⟩:=Cn c A o
  have hhe:(AJ c A o).held=[]:=hS.held.trans (hW.held.1 (.inl p0))
  have hee:(AJ c A o).err=0:=hS.err.trans he
  have hnm:=Ob hW.nm o
  have hcw:=Oc c A o
  split
  ·rename_i g;rw[if_pos g]at h
   rw[G8 (A:={AJ c A o with ph:=2}) hee h]
   refine⟨by show 2<=4;decide,fun _=>hw,⟨fun h=>(by rcases h with h | h<;>cases h),fun h=>(by cases h),fun _=>⟨b,[],g,?_⟩,fun h=>(by cases h)⟩,hnm,fun _ _=>hcw⟩
   show(AJ c A o).held++[b]=_
   rw[hhe];rfl
  ·rename_i g;rw[if_neg g]at h
   exact UK (A:={AJ c A o with ph:=1}) hee h rfl hw hnm hcw (.inl hhe)
 rw[if_neg p0]at h⊢
 have hwi:=hW.wi p0
 by_cases p1:A.ph=1
 ·rw[if_pos p1]at h⊢
  exact UK he h p1 hwi hW.nm (hW.cw p0 (by omega)) (hW.held.2.1 p1)
 rw[if_neg p1]at h⊢
 by_cases p2:A.ph=2
 ·rw[if_pos p2]at h⊢
  obtain⟨x,t,hx,ht⟩:=hW.held.2.2.1 p2
  have hcw:=hW.cw p0 (by omega)
  split
  ·rename_i g;rw[if_pos g]at h
   have hbx:b=x:=UInt8.toNat_inj.1 (by omega)
   rw[G8 (A:={A with ph:=3}) he h]
   refine⟨by show 3<=4;decide,fun _=>hwi,⟨fun h=>(by rcases h with h | h<;>cases h),fun h=>(by cases h),fun h=>(by cases h),fun _=>⟨x,t,hx,?_⟩⟩,hW.nm,fun _ _=>hcw⟩
   show A.held++[b]=_
   rw[ht,hbx];rfl
  ·rename_i g;rw[if_neg g]at h
   have hbx:b≠x:=fun e=>g (by rw[e];exact hx)
   rw[G8 he h]
   refine⟨hp,fun _=>hwi,⟨fun h=>by have h:A.ph=0∨A.ph=4:=h;omega,fun h=>by have h:A.ph=1:=h;omega,fun _=>⟨x,t++[b],hx,?_⟩,fun h=>by have h:A.ph=3:=h;omega⟩,hW.nm,fun _ _=>hcw⟩
   show A.held++[b]=_
   rw[ht,Su,if_neg hbx];rfl
 rw[if_neg p2]at h⊢
 by_cases p3:A.ph=3
 ·rw[if_pos p3]at h⊢
  obtain⟨x,t,hx,ht⟩:=hW.held.2.2.2 p3
  have hcw:=hW.cw p0 (by omega)
  split
  ·rename_i g;rw[if_pos g]at h
   have hbx:b=x:=UInt8.toNat_inj.1 (by omega)
   rw[G8 (A:={A with ph:=2}) he h]
   refine⟨by show 2<=4;decide,fun _=>hwi,⟨fun h=>(by rcases h with h | h<;>cases h),fun h=>(by cases h),fun _=>⟨x,t++[x],hx,?_⟩,fun h=>(by cases h)⟩,hW.nm,fun _ _=>hcw⟩
   show A.held++[b]=_
   rw[ht,hbx,Su,if_pos rfl]
   simp
  ·rename_i g;rw[if_neg g]at h
   exact Vc he h hwi hW.nm
 rw[if_neg p3]at h⊢
 have p4:A.ph=4:=by omega
 split
 ·rename_i g;rw[if_pos g,(Bu he (by decide)).1]at h
  cases h
 ·rename_i g;rw[if_neg g]at h
  exact RF he h hwi (hW.held.1 (.inr p4)) hW.nm
end
section
section
variable {c:SC} {X:RX} {A:RA} {r w m k:Nat} {I:List Nat} {st:St}
theorem Sz.sm (z:Sz k A) (hk:k<=1000000) (hwin:c.win<=100000000):Sm c A:=
 ⟨Nat.le_trans z.hl hk,Nat.le_trans z.ol (by omega),Nat.le_trans z.cl (by omega),Nat.le_trans z.nl (by omega),Nat.le_trans z.rl (by omega),z.n0,by have:=z.n1;omega,hwin⟩
theorem R7 (hn:nmP c A) (hc:cwP A):c.hd=true->AR c A=false->A.late=0->A.cells<A.names.length:=by
 intro hd hh hl
 have hr:0<A.rows:=by
  unfold AR at hh
  rw[hd,Bool.true_and]at hh
  have:=of_decide_eq_false hh
  omega
 rw[<-(hn hd).2 hr]
 exact hc hl hr
theorem PI (h:RB c X A r w m I st) (z:Sz k A) (hk8:k<=900000) (hwin:c.win<=100000000) (hcw:J1 c.q A.held) (hN:c.hd=true->AR c A=false->A.late=0->A.cells<A.names.length) {b:UInt8} {C:Int} (hC:C=(b.toNat:Int)) {o:Int} {K:St->Prop}
  (hk:∀st' I',RB c X (Dk c b o A) r w m I' st'->FrB r w m I I' st st'->K st'):Ad PR AO [.box r 0,.int .u8 C,.int .i64 o] [] st K:=by
 subst hC
 have zc:Sz (k+1) (AX c A):=z.cell
 have sc:Sm c (AX c A):=zc.sm (by omega) hwin
 unfold Dk at hk
 refine Fs r _ o st K (Sr h (z.sm (by omega) hwin) hcw hN fun st1 I1 h1 f1=>h1.ld (k:=28) (x:= .int .i64 (AX c A).err) (fun _ _=>rfl) (Am (Aa (fun g=>?_) fun g=>?_)))
 ·rw[if_pos g]at hk
  exact hk st1 I1 h1 f1
 rw[if_neg g]at hk
 refine h1.ld (k:=1) (x:= .int .u8 c.a) (fun _ _=>rfl) (Am (Aa (fun g1=>?_) fun g1=>Aa (fun g2=>?_) fun g2=>Aa (fun g3=>?_) fun g3=>?_))
 ·rw[if_pos g1]at hk
  exact h1.put X {AX c A with ph:=0} (by decide) rfl rfl rfl (fun _ _=>rfl) fun st2 h2 f2=>hk st2 I1 h2 (f1.trans f2)
 ·rw[if_neg g1,if_pos g2]at hk
  have:=sc.hl
  have:=sc.ol
  have:=sc.rl
  exact Ko h1 (by omega) (by omega) (by omega) fun st2 I2 h2 f2=>hk st2 I2 h2 (f1.trans f2)
 ·rw[if_neg g1,if_neg g2,if_pos g3]at hk
  exact h1.put X {AX c A with ph:=4} (by decide) rfl rfl rfl (fun _ _=>rfl) fun st2 h2 f2=>h2.put X {AX c A with ph:=4,line:=o} (by decide) rfl rfl rfl (fun _ _=>rfl) fun st3 h3 f3=>hk st3 I1 h3 ((f1.trans f2).trans f3)
 ·rw[if_neg g1,if_neg g2,if_neg g3]at hk
  have:=sc.hl
  exact Co h1 (by omega) fun st2 I2 h2 f2=>hk st2 I2 h2 (f1.trans f2)
theorem Xq (h:RB c X A r w m I st) (hl:A.held.length<=100000000) {o e:Int} {K:St->Prop} (hk:∀st' I',RB c X (Fm A o e) r w m I' st'->FrB r w m I I' st st'->K st'):
  (A.late≠0->∀(K1:St->Prop),(∀st1,(Ad PR Ag [.box r 0,.int .i64 o,.int .i64 e] [] st1 K)->K1 st1)->Ad PR Ag [.box r 0,.int .i64 A.frm,.int .i64 A.late] [] st K1)/\
  (¬A.late≠0->Ad PR Ag [.box r 0,.int .i64 o,.int .i64 e] [] st K):=by
 unfold Fm at hk
 refine⟨fun g K1 hK1=>?_,fun g=>?_⟩
 ·rw[if_pos g]at hk
  refine Co h hl fun st1 I1 h1 f1=>hK1 st1 (Co h1 ?_ fun st2 I2 h2 f2=>hk st2 I2 h2 (f1.trans f2))
  unfold Bd
  split<;>exact Nat.zero_le _
 ·rw[if_neg g]at hk
  exact Co h hl hk
theorem PC (h:RB c X A r w m I st) (z:Sz k A) (hk8:k<=900000) (hwin:c.win<=100000000) (hcw:J1 c.q A.held) (hN:c.hd=true->AR c A=false->A.late=0->A.cells<A.names.length) {b:UInt8} {C:Int} (hC:C=(b.toNat:Int)) {o:Int} {K:St->Prop}
  (hk:∀st' I',RB c X (CI c b o A) r w m I' st'->FrB r w m I I' st st'->K st'):Ad PR Bf [.box r 0,.int .u8 C,.int .i64 o] [] st K:=by
 have hl:A.held.length<=100000000:=Nat.le_trans z.hl (by omega)
 subst hC
 unfold CI at hk
 have aft:((b.toNat:Int)=c.a∨(b.toNat:Int)=10∨(b.toNat:Int)=13)->Ad PR AO [.box r 0,.int .u8 (b.toNat:Int),.int .i64 o] [] st fun (st1:St)=>K st1:=fun g=>by
  rw[if_pos g]at hk
  exact PI h z hk8 hwin hcw hN rfl hk
 refine EU r _ o st K (h.ld (k:=1) (x:= .int .u8 c.a) (fun _ _=>rfl) (Am (Aa (fun g1=>Aa (fun _=>aft (.inl g1)) fun g=>absurd g1 g) fun g1=>Aa (fun g2=>Aa (fun _=>aft (.inr (.inl g2))) fun g=>absurd g2 g) fun g2=>Aa (fun g3=>aft (.inr (.inr g3))) fun g3=>?_)))
 rw[if_neg (by omega)]at hk
 refine h.ld (k:=2) (x:= .int .u8 c.q) (fun _ _=>rfl) (Am (Aa (fun g4=>?_) fun g4=>?_))
 ·rw[if_pos g4]at hk
  obtain⟨l1,l2⟩:=Xq h hl hk
  refine h.ld (k:=22) (x:= .int .i64 A.late) (fun _ _=>rfl) (Am (Aa (fun g=>?_) fun g=>l2 g))
  exact h.ld (k:=20) (x:= .int .i64 A.frm) (fun _ _=>rfl) (Am (h.ld (k:=22) (x:= .int .i64 A.late) (fun _ _=>rfl) (Am (l1 g _ fun _ h=>h))))
 ·rw[if_neg g4]at hk
  exact Ja h hl hwin rfl hk
theorem MH {q:Int} {l:B8} (h:l=[]∨by_ l 0≠q):J1 q l:=h.elim .inl fun h=> .inr (.inl h)
theorem Xp (h:RB c X A r w m I st) (z:Sz k A) (hk8:k<=800000) (hwin:c.win<=100000000) (hW:W c A) {b:UInt8} {C:Int} (hC:C=(b.toNat:Int)) {o:Int} {K:St->Prop}
  (hk:∀st' I',RB c X (Bj c b o A) r w m I' st'->FrB r w m I I' st st'->K st'):Ad PR B0 [.box r 0,.int .u8 C,.int .i64 o] [] st K:=by
 have hl:A.held.length<=100000000:=Nat.le_trans z.hl (by omega)
 have hp:=hW.ph
 have zn:=z.n1
 subst hC
 unfold Bj at hk
 refine FQ r _ o st K (h.ld (k:=10) (x:= .int .i64 (A.ph:Int)) (fun _ _=>rfl) (Am (Aa (fun g0=>?_) fun g0=>Aa (fun g1=>?_) fun g1=>Aa (fun g2=>?_) fun g2=>Aa (fun g3=>?_) fun g3=>Aa (fun g4=>?_) fun g4=>absurd hp (by omega))))
 ·have p0:A.ph=0:=by omega
  rw[if_pos p0]at hk
  have ze:Sz (k+1) (AJ c A o):=z.enter o
  obtain⟨hS,hf,hw,hc⟩:=Cn c A o
  have hhe:(AJ c A o).held=[]:=hS.held.trans (hW.held.1 (.inl p0))
  refine PF h ⟨z.n0,by omega⟩ fun st1 h1 f1=>h1.ld (k:=2) (x:= .int .u8 c.q) (fun _ _=>rfl) (Am (Aa (fun g=>?_) fun g=>?_))
  ·rw[if_pos g]at hk
   exact h1.put X {AJ c A o with ph:=2} (by decide) rfl rfl rfl (fun _ _=>rfl) fun st2 h2 f2=>Ja h2 (by show(AJ c A o).held.length<=_;rw[hhe];exact Nat.zero_le _) hwin rfl fun st3 I3 h3 f3=>hk st3 I3 h3 ((f1.trans f2).trans f3)
  ·rw[if_neg g]at hk
   exact h1.put X {AJ c A o with ph:=1} (by decide) rfl rfl rfl (fun _ _=>rfl) fun st2 h2 f2=>PC h2 (ze.ph 1) (by omega) hwin (.inl hhe) (R7 (A:={AJ c A o with ph:=1}) (Ob hW.nm o) (Oc c A o)) rfl fun st3 I3 h3 f3=>hk st3 I3 h3 ((f1.trans f2).trans f3)
 ·have p1:A.ph=1:=by omega
  rw[if_neg (by omega),if_pos p1]at hk
  exact PC h z (by omega) hwin (MH (hW.held.2.1 p1)) (R7 hW.nm (hW.cw (by omega) (by omega))) rfl hk
 ·have p2:A.ph=2:=by omega
  rw[if_neg (by omega),if_neg (by omega),if_pos p2]at hk
  refine h.ld (k:=2) (x:= .int .u8 c.q) (fun _ _=>rfl) (Am (Aa (fun g=>?_) fun g=>?_))
  ·rw[if_pos g]at hk
   exact h.put X {A with ph:=3} (by decide) rfl rfl rfl (fun _ _=>rfl) fun st2 h2 f2=>Ja h2 hl hwin rfl fun st3 I3 h3 f3=>hk st3 I3 h3 (f2.trans f3)
  ·rw[if_neg g]at hk
   exact Ja h hl hwin rfl hk
 ·have p3:A.ph=3:=by omega
  rw[if_neg (by omega),if_neg (by omega),if_neg (by omega),if_pos p3]at hk
  obtain⟨x,t,hx,ht⟩:=hW.held.2.2.2 p3
  refine h.ld (k:=2) (x:= .int .u8 c.q) (fun _ _=>rfl) (Am (Aa (fun g=>?_) fun g=>?_))
  ·rw[if_pos g]at hk
   exact h.put X {A with ph:=2} (by decide) rfl rfl rfl (fun _ _=>rfl) fun st2 h2 f2=>Ja h2 hl hwin rfl fun st3 I3 h3 f3=>hk st3 I3 h3 (f2.trans f3)
  ·rw[if_neg g]at hk
   exact PI h z (by omega) hwin (.inr (.inr ⟨x,t,hx,ht⟩)) (R7 hW.nm (hW.cw (by omega) (by omega))) rfl hk
 ·have p4:A.ph=4:=by omega
  rw[if_neg (by omega),if_neg (by omega),if_neg (by omega),if_neg (by omega)]at hk
  refine Aa (fun g=>?_) fun g=>?_
  ·rw[if_pos g]at hk
   exact h.ld (k:=21) (x:= .int .i64 A.line) (fun _ _=>rfl) (Am (Co h hl hk))
  ·rw[if_neg g]at hk
   have z1:=z.ol
   have z2:=z.rl
   exact h.ld (k:=21) (x:= .int .i64 A.line) (fun _ _=>rfl) (Am (Ko h hl (by omega) (by omega) hk))
end
end
section
section
variable {c:SC} {X:RX} {A:RA} {r w m k:Nat} {I:List Nat} {st:St}
theorem MB (h:RB c X A r w m I st) (z:Sz k A) (hk8:k<=900000) (hwin:c.win<=100000000) (hcw:J1 c.q A.held) (hN:c.hd=true->AR c A=false->A.late=0->A.cells<A.names.length) {K:St->Prop}
  (hk:∀st' I',RB c X (AH c (AX c A) X.size) r w m I' st'->FrB r w m I I' st st'->K st'):
  Ad PR Ax [.box r 0] [] st fun (st1:St)=>Ah (Ac st1 [] (.t (.box r 23)) 0) fun (x:TV)=>Ak (.int .i64) x fun (n:Int)=>Ad PR Au [.box r 0,.int .i64 n] [] st1 fun (st2:St)=>K st2:=by
 have sc:Sm c (AX c A):=(Sz.cell (c:=c) z).sm (by omega) hwin
 have:=sc.hl
 have:=sc.ol
 have:=sc.rl
 exact Sr h (z.sm (by omega) hwin) hcw hN fun st1 I1 h1 f1=>h1.ld (k:=23) (x:= .int .i64 X.size) (fun _ _=>rfl) (Am (Ko h1 (by omega) (by omega) (by omega) fun st2 I2 h2 f2=>hk st2 I2 h2 (f1.trans f2)))
theorem Xr (h:RB c X A r w m I st) (z:Sz k A) (hk8:k<=800000) (hwin:c.win<=100000000) (hW:W c A) {K:St->Prop}
  (hk:∀st' I',RB c X (EB c X.size A) r w m I' st'->FrB r w m I I' st st'->K st'):Ad PR B1 [.box r 0] [] st K:=by
 have hl:A.held.length<=100000000:=Nat.le_trans z.hl (by omega)
 have hp:=hW.ph
 have zn:=z.n1
 unfold EB at hk
 have lt:(A.ph=2∨A.ph=4)->Ah (Ac st [] (.t (.box r 22)) 0) fun (x:TV)=>Ak (.int .i64) x fun (n:Int)=>BIf (decide (n≠(0:Int)))
   (Ah (Ac st [] (.t (.box r 20)) 0) fun (x3:TV)=>Ak (.int .i64) x3 fun (n3:Int)=>Ah (Ac st [] (.t (.box r 22)) 0) fun (x4:TV)=>Ak (.int .i64) x4 fun (n4:Int)=>
    Ad PR Ag [.box r 0,.int .i64 n3,.int .i64 n4] [] st fun (st1:St)=>Ah (Ac st1 [] (.t (.box r 23)) 0) fun (x5:TV)=>Ak (.int .i64) x5 fun (n5:Int)=>Ad PR Ag [.box r 0,.int .i64 n5,.int .i64 4] [] st1 fun (st2:St)=>K st2)
   (Ah (Ac st [] (.t (.box r 23)) 0) fun (x6:TV)=>Ak (.int .i64) x6 fun (n6:Int)=>Ad PR Ag [.box r 0,.int .i64 n6,.int .i64 4] [] st fun (st3:St)=>K st3):=fun g=>by
  rw[if_pos g]at hk
  unfold Fm at hk
  refine h.ld (k:=22) (x:= .int .i64 A.late) (fun _ _=>rfl) (Am (Aa (fun g=>?_) fun g=>?_))
  ·rw[if_pos g]at hk
   refine h.ld (k:=20) (x:= .int .i64 A.frm) (fun _ _=>rfl) (Am (h.ld (k:=22) (x:= .int .i64 A.late) (fun _ _=>rfl) (Am (Co h hl fun st1 I1 h1 f1=>h1.ld (k:=23) (x:= .int .i64 X.size) (fun _ _=>rfl) (Am (Co h1 ?_ fun st2 I2 h2 f2=>hk st2 I2 h2 (f1.trans f2)))))))
   unfold Bd
   split<;>exact Nat.zero_le _
  ·rw[if_neg g]at hk
   exact h.ld (k:=23) (x:= .int .i64 X.size) (fun _ _=>rfl) (Am (Co h hl hk))
 have c13:(A.ph=1∨A.ph=3)->Ad PR Ax [.box r 0] [] st fun (st1:St)=>Ah (Ac st1 [] (.t (.box r 23)) 0) fun (x:TV)=>Ak (.int .i64) x fun (n:Int)=>Ad PR Au [.box r 0,.int .i64 n] [] st1 fun (st2:St)=>K st2:=fun g=>by
  rw[if_neg (by omega),if_neg (by omega)]at hk
  refine MB h z (by omega) hwin ?_ (R7 hW.nm (hW.cw (by omega) (by omega))) hk
  rcases g with g | g
  ·exact MH (hW.held.2.1 g)
  ·obtain⟨x,t,hx,ht⟩:=hW.held.2.2.2 g
   exact .inr (.inr ⟨x,t,hx,ht⟩)
 have c0:A.ph=0->Ah (Ac st [] (.t (.box r 12)) 0) fun (x:TV)=>Ak .bool x fun (b:Bool)=>BIf (!b) (K st) (Ah (Ac st [] (.t (.box r 23)) 0) fun (x8:TV)=>Ak (.int .i64) x8 fun (n7:Int)=>
   Ad PR AZ [.box r 0,.int .i64 n7] [] st fun (st4:St)=>Ad PR Ax [.box r 0] [] st4 fun (st1:St)=>Ah (Ac st1 [] (.t (.box r 23)) 0) fun (x:TV)=>Ak (.int .i64) x fun (n:Int)=>Ad PR Au [.box r 0,.int .i64 n] [] st1 fun (st2:St)=>K st2):=fun g=>by
  rw[if_neg (by omega),if_pos g]at hk
  refine h.ld (k:=12) (x:= .bool A.within) (fun _ _=>rfl) (BC (Ar (fun g1=>?_) fun g1=>?_))
  ·have g1':A.within=false:=(Bool.not_eq_true' _).mp g1
   rw[if_neg (by rw[g1'];decide)]at hk
   exact hk st I h (FrB.refl _ _ _ _ _)
  ·have g1':A.within=true:=(Bool.not_eq_false' _).mp g1
   rw[if_pos g1']at hk
   obtain⟨hS,hf,hw,hc⟩:=Cn c A X.size
   have hhe:(AJ c A X.size).held=[]:=hS.held.trans (hW.held.1 (.inl g))
   refine h.ld (k:=23) (x:= .int .i64 X.size) (fun _ _=>rfl) (Am (PF h ⟨z.n0,by omega⟩ fun st4 h4 f4=>?_))
   exact MB h4 (z.enter X.size) (by omega) hwin (.inl hhe) (R7 (Ob hW.nm _) (Oc c A _)) fun st5 I5 h5 f5=>hk st5 I5 h5 (f4.trans f5)
 refine FR r st K (h.ld (k:=10) (x:= .int .i64 (A.ph:Int)) (fun _ _=>rfl) (Am (Aa (fun g2=>Aa (fun _=>lt (.inl (by omega))) fun g=>absurd g2 g) fun g2=>Aa (fun g4=>lt (.inr (by omega))) fun g4=>Aa (fun g0=>c0 (by omega)) fun g0=>Aa (fun g1=>Aa (fun _=>c13 (.inl (by omega))) fun g=>absurd g1 g) fun g1=>Aa (fun g3=>c13 (.inr (by omega))) fun g3=>absurd hp (by omega))))
end
end
section
def BU (X:RX):RX:={X with begun:=true}
def Ch (X:RX) (A:RA):RA:=if X.begun=true then A else {A with out:=A.out++[.ls]}
theorem O5 {c:SC}:∀(l:B8) (i:Nat) (o:Int) (A:RA),i<l.length->Cp c (l.take (i+1)) o A=if (Cp c (l.take i) o A).err≠0 then Cp c (l.take i) o A else Bj c (l.getD i 0) (o+i) (Cp c (l.take i) o A)
 | [],i,o,A,h=>by cases h
 | b::r,0,o,A,h=>by
  simp only[List.take_succ_cons,List.take_zero,Cp]
  split
  ·rfl
  ·show Bj c b o A=Bj c b (o+(0:Nat)) A
   rw[Int.natCast_zero,Int.add_zero]
 | b::r,i+1,o,A,h=>by
  have ih:=O5 (c:=c) r i (o+1) (Bj c b o A) (by simpa using h)
  simp only[List.take_succ_cons,Cp]
  by_cases he:A.err≠0
  ·rw[if_pos he,if_pos he,if_pos he]
  ·rw[if_neg he,if_neg he]
   rw[ih]
   have e:o+1+(i:Int)=o+((i+1:Nat):Int):=by omega
   rw[e];rfl
theorem Vr {c:SC} {l:B8} {i:Nat} {o:Int} {A:RA} (he:(Cp c (l.take i) o A).err≠0):Cp c l o A=Cp c (l.take i) o A:=by
 have:∀(a b:B8) (o:Int) (A:RA),(Cp c a o A).err≠0->Cp c (a++b) o A=Cp c a o A:=by
  intro a
  induction a with
  | nil=>intro b o A he;exact NB he b o
  | cons x a ih=>
   intro b o A he
   simp only[List.cons_append,Cp]at he⊢
   by_cases h:A.err≠0
   ·rw[if_pos h,if_pos h]
   ·rw[if_neg h,if_neg h]
    rw[if_neg h]at he
    exact ih b _ _ he
 have h2:=this (l.take i) (l.drop i) o A he
 rwa [List.take_append_drop]at h2
section
variable {c:SC} {X:RX} {A:RA} {r w m k:Nat} {I:List Nat} {st:St}
theorem Sz.run:∀(l:B8) (o:Int) {A:RA} {k:Nat},Sz k A->Sz (k+3*l.length) (Cp c l o A)
 | [],o,A,k,h=>h
 | b::r,o,A,k,h=>by
  unfold Cp
  split
  ·exact h.mono (by omega)
  ·exact(Sz.run r (o+1) (h.next b o)).mono (by simp only[List.length_cons];omega)
theorem W.run:∀(l:B8) (o:Int) {A:RA},(A.err=0->W c A)->(Cp c l o A).err=0->W c (Cp c l o A)
 | [],o,A,h,he=>h he
 | b::r,o,A,h,he=>by
  unfold Cp at he⊢
  by_cases h1:A.err≠0
  ·rw[if_pos h1]at he;exact absurd he h1
  ·rw[if_neg h1]at he⊢
   exact W.run r (o+1) (fun hn=>next_W (h (by omega)) (by omega) hn) he
theorem PH (h:RB c X A r w m I st) (hl:A.out.length<=90000000) {K:St->Prop} (hk:∀st' I',RB c (BU X) (Ch X A) r w m I' st'->FrB r w m I I' st st'->K st'):
  Ad PR Bp [.box r 0] [] st K:=by
 unfold Ch at hk
 refine Fq r st K (h.ld (k:=11) (x:= .bool X.begun) (fun _ _=>rfl) (BC (Ar (fun g=>?_) fun g=>?_)))
 ·have g':X.begun=false:=(Bool.not_eq_true' _).mp g
  rw[if_neg (by rw[g'];decide)]at hk
  refine h.put (BU X) A (by decide) rfl rfl rfl (fun _ _=>rfl) fun st1 h1 f1=>?_
  obtain⟨v,q1,hA⟩:=h1.outK (by omega) (evs:=[Ev.ls]) (by simp)
  exact Ae q1 (hA _ (fun v' st2 o1 hst=>Ab (by rw[List.all_cons,o1];rfl) (hst _ fun st3 I3 h3 f3=>hk st3 I3 h3 (f1.trans f3))) _)
 ·have g':X.begun=true:=(Bool.not_eq_false' _).mp g
  rw[if_pos g']at hk
  have e:BU X=X:=by unfold BU;rw[<-g']
  rw[e]at hk
  exact hk st I h (FrB.refl _ _ _ _ _)
theorem Oj (h:RB c X A r w m I st) {K:TV->St->Prop} (hk:∀v st' I' J,RB c X {A with out:=[]} r w m I' st'->FrB r w m I I' st st'->DC 15 st' v A.out.length (Ek A.out) J->(∀id,id∈J->id∈I/\id∉I')->K v st'):
  Ad PR Ay [.box r 0] [.one .tv] st K:=by
 obtain⟨nv,ov,hv,wo,es,I1,I2,I3,h1,h2,h3,h4,h5,h6,h7,h8,h9⟩:=h.ex
 refine E9 r st K (Ae (x:=ov) (by simp only[Ac,h1];rfl) ⟨_,h1,by show 26+1<=30;decide,?_⟩)
 have e1:setAll (rdC c X A w m nv ov) 26 [.nilSlice]=rdC c X {A with out:=[]} w m nv .nilSlice:=rfl
 rw[e1]
 have hrw:=h.rw_
 have hrm:=h.rm
 have f:FrT [] st (st.put r (.cells (rdC c X {A with out:=[]} w m nv .nilSlice))):=⟨Nat.le_refl _,fun _ _ _=>rfl⟩
 have hno:∀{L:List Nat} (id:Nat),id∈L->id∉([]:List Nat):=fun _ _ h=>by cases h
 have hnd:=List.nodup_append.1 h8
 have hnd1:=List.nodup_append.1 hnd.1
 refine hk ov _ (I1++[]++I3) I2 ⟨h.rb,h.wb,h.mb,h.rw_,h.rm,h.wm,nv,.nilSlice,hv,wo,es,I1,[],I3,by simp[St.put],by simp[St.put,Ne.symm hrw];exact h2,by simp[St.put,Ne.symm hrm];exact h3,h4,h5.keep f hno,DC.nil _ _,h7.keep f hno,?_,rfl⟩ ⟨Nat.le_refl _,Nat.le_refl _,fun b hb _ _ _=>by simp[St.put,hb],fun _ _ _=>rfl,fun id hid=> .inl ?_⟩ (h6.keep f hno) fun id hid=>⟨by rw[h9];exact List.mem_append.2 (.inl (List.mem_append.2 (.inr hid))),fun hm=>?_⟩
 ·rw[List.append_nil]
  exact List.nodup_append.2 ⟨hnd1.1,hnd.2.1,fun a ha b hb=>hnd.2.2 a (List.mem_append.2 (.inl ha)) b hb⟩
 ·rw[List.append_nil]at hid
  rw[h9]
  exact(List.mem_append.1 hid).elim (fun g=>List.mem_append.2 (.inl (List.mem_append.2 (.inl g)))) fun g=>List.mem_append.2 (.inr g)
 ·rw[List.append_nil]at hm
  exact(List.mem_append.1 hm).elim (fun g=>hnd1.2.2 id g id hid rfl) fun g=>hnd.2.2 id (List.mem_append.2 (.inr hid)) id g rfl
end
end
def V8 (N L H:Int) (s:B8):Bool:=
 if N<=(s.length:Int)then false else if 1<s.length/\(bt s 1:Int)<L then false else if 1<s.length/\H<(bt s 1:Int)then false
 else if s.length<3 then true else if 128<=bt s 2 then decide (bt s 2<=191)else false
def nN (b:Nat):Int:=if 194<=b/\b<=223 then 2 else if 224<=b/\b<=239 then 3 else if 240<=b/\b<=244 then 4 else 0
def loN (b:Nat):Int:=if b=224 then 160 else if b=240 then 144 else 128
def hiN (b:Nat):Int:=if b=237 then 159 else if b=244 then 143 else 191
def Oy (s:B8):Bool:=V8 (nN (bt s 0)) (loN (bt s 0)) (hiN (bt s 0)) s
theorem Ll {s:B8} {N L H:Int} {st:St} {K:Bool->St->Prop} (hk:K (V8 N L H s) st):
  (BIf (decide (N<=((s).length:Int))) (K (false) st) (BIf (decide ((1:Int)<((s).length:Int))) (((0<=(1:Int)/\(1:Int)<((s).length:Int))/\BIf (decide (((List.getD s (Int.toNat (1:Int)) 0).toNat:Int)<L)) (K (false) st) (((0<=(1:Int)/\(1:Int)<((s).length:Int))/\BIf (decide (H<((List.getD s (Int.toNat (1:Int)) 0).toNat:Int))) (K (false) st) (BIf (decide (((s).length:Int)<(3:Int))) (K (true) st) (((0<=(2:Int)/\(2:Int)<((s).length:Int))/\BIf (decide ((128:Int)<=((List.getD s (Int.toNat (2:Int)) 0).toNat:Int))) (((0<=(2:Int)/\(2:Int)<((s).length:Int))/\K ((decide (((List.getD s (Int.toNat (2:Int)) 0).toNat:Int)<=(191:Int)))) st)) (K (false) st)))))))) (BIf (decide (((s).length:Int)<(3:Int))) (K (true) st) (((0<=(2:Int)/\(2:Int)<((s).length:Int))/\BIf (decide ((128:Int)<=((List.getD s (Int.toNat (2:Int)) 0).toNat:Int))) (((0<=(2:Int)/\(2:Int)<((s).length:Int))/\K ((decide (((List.getD s (Int.toNat (2:Int)) 0).toNat:Int)<=(191:Int)))) st)) (K (false) st)))))):=by
 unfold V8 at hk
 have tl:¬N<=(s.length:Int)->¬(1<s.length/\(bt s 1:Int)<L)->¬(1<s.length/\H<(bt s 1:Int))->K (if s.length<3 then true else if 128<=bt s 2 then decide (bt s 2<=191)else false) st:=fun h1 h2 h3=>by
  rw[if_neg h1,if_neg h2,if_neg h3]at hk;exact hk
 have e1:(((List.getD s (Int.toNat (1:Int)) 0).toNat:Nat):Int)=(bt s 1:Int):=rfl
 have e2:(((List.getD s (Int.toNat (2:Int)) 0).toNat:Nat):Int)=(bt s 2:Int):=rfl
 rw[e1,e2]
 have t3:¬N<=(s.length:Int)->¬(1<s.length/\(bt s 1:Int)<L)->¬(1<s.length/\H<(bt s 1:Int))->BIf (decide (((s).length:Int)<(3:Int))) (K (true) st) (((0<=(2:Int)/\(2:Int)<((s).length:Int))/\BIf (decide ((128:Int)<=(bt s 2:Int))) (((0<=(2:Int)/\(2:Int)<((s).length:Int))/\K ((decide ((bt s 2:Int)<=(191:Int)))) st)) (K (false) st))):=fun h1 h2 h3=>by
  have hk:=tl h1 h2 h3
  refine Aa (fun g=>?_) fun g=>⟨⟨by omega,by omega⟩,Aa (fun g2=>⟨⟨by omega,by omega⟩,?_⟩) fun g2=>?_⟩
  ·rw[if_pos (by omega)]at hk;exact hk
  ·rw[if_neg (by omega),if_pos (by omega)]at hk
   have:decide ((bt s 2:Int)<=191)=decide (bt s 2<=191):=decide_eq_decide.2 ⟨fun h=>by omega,fun h=>by omega⟩
   rw[this];exact hk
  ·rw[if_neg (by omega),if_neg (by omega)]at hk;exact hk
 refine Aa (fun g=>?_) fun g=>Aa (fun g1=>⟨⟨by omega,by omega⟩,Aa (fun g2=>?_) fun g2=>⟨⟨by omega,by omega⟩,Aa (fun g3=>?_) fun g3=>?_⟩⟩) fun g1=>?_
 ·rw[if_pos g]at hk;exact hk
 ·rw[if_neg g,if_pos ⟨by omega,g2⟩]at hk;exact hk
 ·rw[if_neg g,if_neg (fun q=>g2 q.2),if_pos ⟨by omega,g3⟩]at hk;exact hk
 ·exact t3 g (fun q=>g2 q.2) (fun q=>g3 q.2)
 ·exact t3 g (fun q=>by omega) (fun q=>by omega)
theorem V7 {s:B8} (h0:s≠ []) {st:St} {K:Bool->St->Prop} (hk:K (Oy s) st):Ad PR Bx [.str s] [.one .bool] st K:=by
 have hl:0<s.length:=List.length_pos_iff.2 h0
 have e0:(((List.getD s (Int.toNat (0:Int)) 0).toNat:Nat):Int)=(bt s 0:Int):=rfl
 unfold Oy at hk
 refine H5 s st K ⟨fun n s1 lo hi st1=>n=nN (bt s 0)/\s1=s/\lo=128/\hi=191/\st1=st,⟨⟨by omega,by omega⟩,?_⟩,?_⟩
 ·rw[e0]
  unfold nN
  have z:∀{n:Int},n=(if 194<=bt s 0/\bt s 0<=223 then 2 else if 224<=bt s 0/\bt s 0<=239 then 3 else if 240<=bt s 0/\bt s 0<=244 then 4 else 0)->n=(if 194<=bt s 0/\bt s 0<=223 then 2 else if 224<=bt s 0/\bt s 0<=239 then 3 else if 240<=bt s 0/\bt s 0<=244 then 4 else 0)/\s=s/\(128:Int)=128/\(191:Int)=191/\st=st:=fun h=>⟨h,rfl,rfl,rfl,rfl⟩
  repeat' first | refine Aa (fun _=>?_) fun _=>?_ | (refine z ?_;split<;>(try split)<;>(try split)<;>omega)
 ·rintro n s1 lo hi st1 ⟨rfl,rfl,rfl,rfl,rfl⟩
  refine⟨⟨by omega,by omega⟩,?_⟩
  rw[e0]
  unfold loN hiN at hk
  refine Aa (fun g=>?_) fun g=>Aa (fun g2=>?_) fun g2=>Aa (fun g3=>?_) fun g3=>Aa (fun g4=>?_) fun g4=>?_
  ·rw[if_pos (show bt s1 0=224 by omega),if_neg (show ¬bt s1 0=237 by omega),if_neg (show ¬bt s1 0=244 by omega)]at hk
   exact Ll hk
  ·rw[if_neg (show ¬bt s1 0=224 by omega),if_neg (show ¬bt s1 0=240 by omega),if_pos (show bt s1 0=237 by omega)]at hk
   exact Ll hk
  ·rw[if_neg (show ¬bt s1 0=224 by omega),if_pos (show bt s1 0=240 by omega),if_neg (show ¬bt s1 0=237 by omega),if_neg (show ¬bt s1 0=244 by omega)]at hk
   exact Ll hk
  ·rw[if_neg (show ¬bt s1 0=224 by omega),if_neg (show ¬bt s1 0=240 by omega),if_neg (show ¬bt s1 0=237 by omega),if_pos (show bt s1 0=244 by omega)]at hk
   exact Ll hk
  ·rw[if_neg (show ¬bt s1 0=224 by omega),if_neg (show ¬bt s1 0=240 by omega),if_neg (show ¬bt s1 0=237 by omega),if_neg (show ¬bt s1 0=244 by omega)]at hk
   exact Ll hk
theorem Ue {l ext:B8} {j:Nat} (h:j<l.length):bt (l++ext) j=bt l j:=by
 unfold bt
 rw[List.getD_eq_getElem?_getD,List.getD_eq_getElem?_getD,List.getElem?_append_left h]
theorem begB_of {l ext:B8} (h0:l≠ []) (h:ul l=0) (hu:ul (l++ext)≠0):Oy l=true:=by
 have hL0:l++ext≠ []:=by simp[h0]
 have hpos:=List.length_pos_iff.2 h0
 have hlt:l.length<ul (l++ext):=by
  by_cases hm:ul (l++ext)<=l.length
  ·have:=(Uw hu hm).1
   rw[List.take_left]at this
   omega
  ·omega
 have b0:bt (l++ext) 0=bt l 0:=Ue hpos
 have b1:1<l.length->bt (l++ext) 1=bt l 1:=Ue
 have b2:2<l.length->bt (l++ext) 2=bt l 2:=Ue
 have hd:dN (l++ext)≠(65533,1):=fun e=>hu (by unfold ul;rw[if_pos (.inr e)])
 have hn:ul (l++ext)=(dN (l++ext)).2:=by unfold ul;rw[if_neg (not_or.2 ⟨hL0,hd⟩)]
 rw[hn]at hlt
 have l0:=Ei l 0
 have l1:=Ei (l++ext) 1
 have l2:=Ei (l++ext) 2
 have l3:=Ei (l++ext) 3
 generalize e:dN (l++ext)=d at hd hlt
 unfold dN Lib.decodeN at e
 rw[b0]at e
 generalize bt (l++ext) 1=x1 at*
 generalize bt (l++ext) 2=x2 at*
 generalize bt (l++ext) 3=x3 at*
 generalize (l++ext).length=nn at*
 split at e
 ·subst e
  have hlt:l.length<1:=hlt
  omega
 split at e
 ·rename_i c1
  split at e
  ·rename_i c2
   subst e
   have hlt:l.length<2:=hlt
   have en:nN (bt l 0)=2:=if_pos ⟨by omega,by omega⟩
   unfold Oy V8
   rw[en,if_neg (by omega),if_neg (by omega),if_neg (by omega),if_pos (by omega)]
  ·exact absurd e.symm hd
 split at e
 ·rename_i c1
  split at e
  ·rename_i c2
   subst e
   have hlt:l.length<3:=hlt
   have en:nN (bt l 0)=3:=by unfold nN;rw[if_neg (by omega),if_pos ⟨by omega,by omega⟩]
   unfold Oy V8
   rw[en,if_neg (by omega),if_neg (fun q=>?_),if_neg (fun q=>?_),if_pos (by omega)]
   ·have e1:=b1 q.1
    have q2:=q.2
    unfold hiN at q2
    split at q2
    ·omega
    ·split at q2<;>omega
   ·have e1:=b1 q.1
    have q2:=q.2
    unfold loN at q2
    split at q2
    ·omega
    ·split at q2<;>omega
  ·exact absurd e.symm hd
 split at e
 ·rename_i c1
  split at e
  ·rename_i c2
   subst e
   have hlt:l.length<4:=hlt
   have en:nN (bt l 0)=4:=by unfold nN;rw[if_neg (by omega),if_neg (by omega),if_pos ⟨by omega,by omega⟩]
   unfold Oy V8
   rw[en,if_neg (by omega),if_neg (fun q=>?_),if_neg (fun q=>?_)]
   ·by_cases h3:l.length<3
    ·rw[if_pos h3]
    ·have e2:=b2 (by omega)
     rw[if_neg h3,if_pos (by omega)]
     exact decide_eq_true (by omega)
   ·have e1:=b1 q.1
    have q2:=q.2
    unfold hiN at q2
    split at q2
    ·omega
    ·split at q2<;>omega
   ·have e1:=b1 q.1
    have q2:=q.2
    unfold loN at q2
    split at q2
    ·omega
    ·split at q2<;>omega
  ·exact absurd e.symm hd
 ·exact absurd e.symm hd
theorem SO {l:B8} (h0:l≠ []) (h:ul l=0) (hb:Oy l=false) (ext:B8):A5 (l++ext)=0:=by
 refine Cy _ ?_
 by_cases hu:ul (l++ext)=0
 ·exact hu
 ·rw[begB_of h0 h hu]at hb;cases hb
section
def MV (t:B8) (i:Nat) (last:Bool) (o:Int) (X:RX):RX:=
 if t.drop i≠ []/\(last=true∨Oy (t.drop i)=false)then {X with text:=o+i,cut:=[]} else {X with cut:=t.drop i}
def BT (s:B8) (last:Bool) (X:RX):RX:=if 0<=X.text then X else MV (X.cut++s) (A5 (X.cut++s)) last (X.size-(X.cut.length:Int)) X
section
variable {c:SC} {X:RX} {A:RA} {r w m k:Nat} {I:List Nat} {st:St}
theorem U0 (h:RB c X A r w m I st) {t:B8} {i:Nat} (hi:i<=t.length) (hl:t.length<=2000000) {last:Bool} {o:Int} (ho:0<=o/\o<=100000000) {K:St->Prop}
  (hk:∀st',RB c (MV t i last o X) A r w m I st'->FrB r w m I I st st'->K st'):
  ((0<=(i:Int)/\(i:Int)<=(t.length:Int))/\need (isPtr (.box r 0)) (need (isPtr (.box r 0)) (stB st (Af (.box r 0) 25) [.str (List.drop (Int.toNat (i:Int)) t)] fun (st3:St)=>
   need (isPtr (.box r 0)) (need (isPtr (.box r 0)) (Ah (Ac st3 [] (.t (Af (.box r 0) 25)) 0) fun (x5:TV)=>Ak .str x5 fun (s3:B8)=>BIf (decide (s3≠([]:B8)))
    (BIf last (need (isPtr (.box r 0)) (need (isPtr (.box r 0)) (stB st3 (Af (.box r 0) 24) [.int .i64 (i64.wrap (o+(i:Int)))] fun (st4:St)=>need (isPtr (.box r 0)) (need (isPtr (.box r 0)) (stB st4 (Af (.box r 0) 25) [.str ([]:B8)] fun (st5:St)=>K st5)))))
     (need (isPtr (.box r 0)) (need (isPtr (.box r 0)) (Ah (Ac st3 [] (.t (Af (.box r 0) 25)) 0) fun (x6:TV)=>Ak .str x6 fun (s4:B8)=>Ad PR Bx [.str s4] [.one .bool] st3 fun (b1:Bool) (st6:St)=>
      BIf (!b1) (need (isPtr (.box r 0)) (need (isPtr (.box r 0)) (stB st6 (Af (.box r 0) 24) [.int .i64 (i64.wrap (o+(i:Int)))] fun (st7:St)=>need (isPtr (.box r 0)) (need (isPtr (.box r 0)) (stB st7 (Af (.box r 0) 25) [.str ([]:B8)] fun (st8:St)=>K st8))))) (K st6)))))
    (K st3)))))):=by
 rw[Int.toNat_natCast]
 unfold MV at hk
 refine⟨⟨by omega,by omega⟩,Ab rfl (Ab rfl (h.put (k:=25) {X with cut:=t.drop i} A (by decide) rfl rfl rfl (fun _ _=>rfl) fun st3 h3 f3=>Ab rfl (Ab rfl (h3.ld (k:=25) (x:= .str (t.drop i)) (fun _ _=>rfl) (AB (Aa (fun g=>?_) fun g=>?_))))))⟩
 ·have two:(last=true∨Oy (t.drop i)=false)->∀{st6:St},RB c {X with cut:=t.drop i} A r w m I st6->FrB r w m I I st st6->need (isPtr (.box r 0)) (need (isPtr (.box r 0)) (stB st6 (Af (.box r 0) 24) [.int .i64 (i64.wrap (o+(i:Int)))] fun (st7:St)=>need (isPtr (.box r 0)) (need (isPtr (.box r 0)) (stB st7 (Af (.box r 0) 25) [.str ([]:B8)] fun (st8:St)=>K st8)))):=fun g2 st6 h6 f6=>by
   rw[if_pos ⟨g,g2⟩]at hk
   rw[Al _ (by omega) (by omega)]
   exact Ab rfl (Ab rfl (h6.put (k:=24) {X with cut:=t.drop i,text:=o+i} A (by decide) rfl rfl rfl (fun _ _=>rfl) fun st7 h7 f7=>Ab rfl (Ab rfl (h7.put (k:=25) {X with cut:=[],text:=o+i} A (by decide) rfl rfl rfl (fun _ _=>rfl) fun st8 h8 f8=>hk st8 h8 ((f6.trans f7).trans f8)))))
  refine Ar (fun g2=>two (.inl g2) h3 f3) fun g2=>Ab rfl (Ab rfl (h3.ld (k:=25) (x:= .str (t.drop i)) (fun _ _=>rfl) (AB (V7 g (Ar (fun g3=>?_) fun g3=>?_)))))
  ·exact two (.inr ((Bool.not_eq_true' _).mp g3)) h3 f3
  ·have g3':=(Bool.not_eq_false' _).mp g3
   rw[if_neg (fun q=>q.2.elim (fun q=>by rw[g2]at q;cases q) fun q=>by rw[g3']at q;cases q)]at hk
   exact hk st3 h3 f3
 ·rw[if_neg (fun q=>g q.1)]at hk
  exact hk st3 h3 f3
theorem PG (h:RB c X A r w m I st) {s:B8} {last:Bool} (hl:X.cut.length+s.length<=2000000) (hs:(X.cut.length:Int)<=X.size/\X.size<=100000000) {K:St->Prop}
  (hk:∀st',RB c (BT s last X) A r w m I st'->FrB r w m I I st st'->K st'):Ad PR Bo [.box r 0,.str s,.bool last] [] st K:=by
 unfold BT at hk
 refine Fp r s last st K (h.ld (k:=24) (x:= .int .i64 X.text) (fun _ _=>rfl) (Am (Aa (fun g=>?_) fun g=>?_)))
 ·rw[if_pos g]at hk
  exact hk st h (FrB.refl _ _ _ _ _)
 rw[if_neg g]at hk
 refine h.ld (k:=23) (x:= .int .i64 X.size) (fun _ _=>rfl) (Am (h.ld (k:=25) (x:= .str X.cut) (fun _ _=>rfl) (AB (h.ld (k:=25) (x:= .str X.cut) (fun _ _=>rfl) (AB ⟨by omega,?_⟩)))))
 have hlen:(X.cut++s).length<=2000000:=by rw[List.length_append];exact hl
 rw[Al _ (by omega) (by omega)]
 generalize X.cut++s=t at*
 refine⟨fun i r1 s1 l1 o1 st1=>∃j:Nat,i=(j:Int)/\r1= .box r 0/\s1=t/\l1=last/\o1=X.size-(X.cut.length:Int)/\st1=st/\j<=t.length/\j+A5 (t.drop j)=A5 t,fun i _ s1 _ _ _=>s1.length-i.toNat,⟨0,rfl,rfl,rfl,rfl,rfl,rfl,Nat.zero_le _,by rw[Nat.zero_add];rfl⟩,?_⟩
 rintro i r1 s1 l1 o1 st1 ⟨j,rfl,rfl,rfl,rfl,rfl,rfl,hj,hv⟩
 refine Aa (fun g1=>?_) fun g1=>?_
 ·refine SS rfl hlen hj (Aa (fun g2=>?_) fun g2=>?_)
  ·have hu:ul (s1.drop j)=0:=by
    unfold rD at g2
    split at g2
    ·assumption
    ·have g2:((ul (s1.drop j):Nat):Int)=0:=g2
     omega
   rw[Cy _ hu]at hv
   have hv':A5 s1=j:=by omega
   rw[hv']at hk
   exact U0 h hj hlen ⟨by omega,by omega⟩ hk
  ·have hu:ul (s1.drop j)≠0:=fun q=>g2 (by unfold rD;rw[if_pos q];rfl)
   have e2:(rD (s1.drop j)).2=ul (s1.drop j):=by unfold rD;rw[if_neg hu]
   rw[e2]
   have hle:=Nn (s1.drop j)
   rw[List.length_drop]at hle
   rw[Al _ (by omega) (by omega)]
   have e3:((j:Int)+(ul (s1.drop j):Int))=((j+ul (s1.drop j):Nat):Int):=by omega
   rw[e3]
   refine⟨⟨j+ul (s1.drop j),rfl,rfl,rfl,rfl,rfl,rfl,by omega,?_⟩,by show s1.length-Int.toNat _<s1.length-Int.toNat _;rw[Int.toNat_natCast,Int.toNat_natCast];omega⟩
   rw[<-List.drop_drop,<-hv,EH _ hu]
   omega
 ·have hj':j=s1.length:=by omega
  have hd:s1.drop j=[]:=List.drop_of_length_le (by omega)
  rw[hd,GX]at hv
  have hv':A5 s1=j:=by omega
  rw[hv']at hk
  exact U0 h hj hlen ⟨by omega,by omega⟩ hk
end
end
section
def Ct (c:SC) (s:B8) (X:RX) (A:RA):RA:=Cp c s X.size (Ch X A)
def Rs (n:Nat) (X:RX):RX:={X with size:=X.size+n}
def Ew (s:B8) (X:RX):RX:=Rs s.length (BT s false (BU X))
theorem V3 (t:B8) (i:Nat) (last:Bool) (o:Int) (X:RX):(MV t i last o X).size=X.size:=by
 unfold MV;split<;>rfl
theorem GC (s:B8) (last:Bool) (X:RX):(BT s last X).size=X.size:=by
 unfold BT
 split
 ·rfl
 ·exact V3 ..
theorem Sz.begin {k:Nat} {A:RA} (z:Sz k A) (X:RX):Sz (k+1) (Ch X A):=by
 have g:=z.mono (show k<=k+1 by omega)
 have:=z.ol
 unfold Ch
 split
 ·exact g
 ·exact⟨g.hl,by show(A.out++[_]).length<=_;simp only[List.length_append,List.length_singleton];omega,g.cl,g.nl,g.rl,g.n0,g.n1⟩
theorem Md (X:RX) (A:RA):(Ch X A).err=A.err:=by unfold Ch;split<;>rfl
theorem W.begin {c:SC} {A:RA} (h:W c A) (X:RX):W c (Ch X A):=by
 unfold Ch
 split
 ·exact h
 ·exact⟨h.ph,h.wi,h.held,h.nm,h.cw⟩
section
variable {c:SC} {X:RX} {A:RA} {r w m k:Nat} {I:List Nat} {st:St}
theorem So (h:RB c X A r w m I st) {n:Nat} (hn:n<=100000000) (hs:0<=X.size/\X.size<=100000000) {K:TV->Int->St->Prop}
  (hk:∀v st' I' J,RB c (Rs n X) {A with out:=[]} r w m I' st'->FrB r w m I I' st st'->DC 15 st' v A.out.length (Ek A.out) J->(∀id,id∈J->id∈I/\id∉I')->K v 0 st'):
  need (isPtr (.box r 0)) (need (isPtr (.box r 0)) (Ah (Ac st [] (.t (Af (.box r 0) 23)) 0) fun (x:TV)=>Ak (.int .i64) x fun (n3:Int)=>need (isPtr (.box r 0)) (need (isPtr (.box r 0)) (stB st (Af (.box r 0) 23) [.int .i64 (i64.wrap (n3+(n:Int)))] fun (st5:St)=>
   Ad PR Ay [.box r 0] [.one .tv] st5 fun (v2:TV) (st6:St)=>K v2 0 st6)))):=by
 refine Ab rfl (Ab rfl (h.ld (k:=23) (x:= .int .i64 X.size) (fun _ _=>rfl) (Am ?_)))
 rw[Al _ (by omega) (by omega)]
 exact Ab rfl (Ab rfl (h.put (k:=23) (Rs n X) A (by decide) rfl rfl rfl (fun _ _=>rfl) fun st5 h5 f5=>Oj h5 fun v st6 I' J h6 f6 o6 d6=>hk v st6 I' J h6 (f5.trans f6) o6 d6))
theorem Lh (h:RB c X A r w m I st) (z:Sz k A) (hwin:c.win<=100000000) (hW:A.err=0->W c A) {s:B8} (hk8:k+3*s.length<=700000) (hl:X.cut.length+s.length<=2000000) (hs:(X.cut.length:Int)<=X.size/\X.size<=100000000) {K:TV->Int->St->Prop}
  (hk1:X.ended=true->K .nilSlice 29 st)
  (hk:X.ended=false->∀v st' I' J,RB c (Ew s X) {Ct c s X A with out:=[]} r w m I' st'->FrB r w m I I' st st'->DC 15 st' v (Ct c s X A).out.length (Ek (Ct c s X A).out) J->(∀id,id∈J->id∉I')->K v 0 st'):
  Ad PR AP [.box r 0,.str s] [.one .tv,.one (.int .i64)] st K:=by
 have zo:=z.ol
 refine FV r s st K (Ae h.win (Ab rfl (show BIf false _ _ from ?_)))
 refine h.ld (k:=29) (x:= .bool X.ended) (fun _ _=>rfl) (BC (Ar hk1 fun g=>?_))
 have hk:=hk g
 have zb:=z.begin X
 have hWb:(Ch X A).err=0->W c (Ch X A):=fun he=>(hW (by rw[<-Md X A];exact he)).begin X
 refine PH h (by omega) fun st1 I1 h1 f1=>PG h1 hl hs fun st2 h2 f2=>?_
 have hsz:(BT s false (BU X)).size=X.size:=GC ..
 unfold Ew Ct at hk
 generalize BT s false (BU X)=X2 at*
 generalize Ch X A=B at*
 have f12:=f1.trans f2
 refine⟨fun i r1 s1 st3=>∃j I3,i=((j:Nat):Int)/\r1= .box r 0/\s1=s/\j<=s.length/\RB c X2 (Cp c (s.take j) X.size B) r w m I3 st3/\FrB r w m I I3 st st3,fun i _ _ _=>s.length-i.toNat,⟨0,I1,rfl,rfl,rfl,Nat.zero_le _,by rw[List.take_zero];exact h2,f12⟩,?_⟩
 rintro i r1 s1 st3 ⟨j,I3,rfl,rfl,rfl,hj,h3,f3⟩
 have fin:Cp c s1 X.size B=Cp c (s1.take j) X.size B->need (isPtr (.box r 0)) (need (isPtr (.box r 0)) (Ah (Ac st3 [] (.t (Af (.box r 0) 23)) 0) fun (x:TV)=>Ak (.int .i64) x fun (n3:Int)=>need (isPtr (.box r 0)) (need (isPtr (.box r 0)) (stB st3 (Af (.box r 0) 23) [.int .i64 (i64.wrap (n3+(s1.length:Int)))] fun (st5:St)=>
   Ad PR Ay [.box r 0] [.one .tv] st5 fun (v2:TV) (st6:St)=>K v2 0 st6)))):=fun e=>by
  rw[e]at hk
  exact So h3 (by omega) ⟨by omega,by omega⟩ fun v st6 I' J h6 f6 o6 d6=>hk v st6 I' J h6 (f3.trans f6) o6 fun id hid=>(d6 id hid).2
 refine Aa (fun g1=>?_) fun g1=>?_
 ·have hj1:j<s1.length:=by omega
  refine Ab rfl (Ab rfl (h3.ld (k:=28) (x:= .int .i64 (Cp c (s1.take j) X.size B).err) (fun _ _=>rfl) (Am (Aa (fun g2=>?_) fun g2=>?_))))
  ·have zr:=Sz.run (c:=c) (s1.take j) X.size zb
   rw[List.length_take,Nat.min_eq_left hj]at zr
   have hWr:=W.run (s1.take j) X.size hWb g2
   refine⟨⟨by omega,by omega⟩,Ab rfl (Ab rfl (h3.ld (k:=23) (x:= .int .i64 X2.size) (fun _ _=>rfl) (Am ?_)))⟩
   rw[Al _ (by omega) (by omega)]
   refine Xp (b:=s1.getD j 0) h3 zr (by omega) hwin hWr rfl fun st4 I4 h4 f4=>⟨h4.at (k:=23) (fun _ _=>rfl),⟨j+1,I4,?_,rfl,rfl,hj1,?_,f3.trans f4⟩,?_⟩
   ·rw[Al _ (by omega) (by omega)];omega
   ·rw[O5 s1 j X.size B hj1,if_neg (fun q=>q g2)];rw[hsz]at h4;exact h4
   ·show s1.length-Int.toNat _<s1.length-Int.toNat _
    rw[Al _ (by omega) (by omega)]
    omega
  ·exact fin (Vr g2)
 ·exact fin (by rw[List.take_of_length_le (by omega)])
end
end
section
def UE (X:RX):RX:={X with ended:=true}
def Wv (A:RA):RA:={A with out:=[],held:=[],told:=true}
section
variable {c:SC} {X:RX} {A:RA} {r w m k:Nat} {I:List Nat} {st:St}
theorem RB.frt {J:List Nat} {st':St} (h:RB c X A r w m I st) (f:FrT J st st') (hb:st'.box=st.box) (hn:st'.nb=st.nb) (hd:∀id,id∈I->id∉J):RB c X A r w m I st':=by
 obtain⟨nv,ov,hv,wo,es,I1,I2,I3,h1,h2,h3,h4,h5,h6,h7,h8,h9⟩:=h.ex
 subst h9
 exact⟨by rw[hn];exact h.rb,by rw[hn];exact h.wb,by rw[hn];exact h.mb,h.rw_,h.rm,h.wm,nv,ov,hv,wo,es,I1,I2,I3,by rw[hb];exact h1,by rw[hb];exact h2,by rw[hb];exact h3,h4,
  h5.keep f (fun id hi=>hd id (List.mem_append.2 (.inl (List.mem_append.2 (.inl hi))))),h6.keep f (fun id hi=>hd id (List.mem_append.2 (.inl (List.mem_append.2 (.inr hi))))),h7.keep f (fun id hi=>hd id (List.mem_append.2 (.inr hi))),h8,rfl⟩
theorem Oe (h:RB c X A r w m I st) (hl:A.held.length<=100000000) (ho:A.out.length<=90000000) {K:TV->Int->St->Prop}
  (hk:∀v st' I',RB c (UE X) (Wv A) r w m I' st'->st.nb<=st'.nb->FrT I st st'->(∀b,b≠r->b≠w->b≠m->b<st.nb->st'.box b=st.box b)->(if A.err≠0 then v= .nilSlice else Rd 15 v (A.out++[Ev.le]).length (Ek (A.out++[Ev.le])))->K v A.err st'):
  (Ad PR Ay [(.box r 0)] [.one (.tv)] st (fun (v10:TV) (st21:St)=>need (isPtr (.box r 0)) (need (isPtr (.box r 0)) (Ah (Ac st21 [] (.t (Af (.box r 0) 0)) 0) (fun (v11:TV)=>need (isPtr (.box r 0)) (need (isPtr (.box r 0)) (Ah (Ac st21 [] (.t (Af (.box r 0) 0)) 0) (fun (v12:TV)=>Ad PR AW [v12] [.one (.int .i64)] st21 (fun (n14:Int) (st22:St)=>(Ac st22 [] (.t (Af (.box r 0) 0)) 0=some v11/\Ad PR AQ [v11,(.int .i64 n14)] [.one (.str),.one (.int .i64)] st22 (fun (s3:B8) (n15:Int) (st23:St)=>(Ac st23 [] (.t (Af (.box r 0) 0)) 0=some v12/\need (isPtr (.box r 0)) (need (isPtr (.box r 0)) (stB st23 (Af (.box r 0) 29) [(.bool true)] (fun (st24:St)=>need (isPtr (.box r 0)) (need (isPtr (.box r 0)) (stB st24 (Af (.box r 0) 18) [(.bool true)] (fun (st25:St)=>need (isPtr (.box r 0)) (need (isPtr (.box r 0)) (Ah (Ac st25 [] (.t (Af (.box r 0) 28)) 0) (fun (x18:TV)=>Ak (.int .i64) x18 (fun (n16:Int)=>BIf (decide (n16≠(0:Int))) (need (isPtr (.box r 0)) (need (isPtr (.box r 0)) (Ah (Ac st25 [] (.t (Af (.box r 0) 28)) 0) (fun (x19:TV)=>Ak (.int .i64) x19 (fun (n17:Int)=>K (.nilSlice) (n17) st25))))) (AG 118 15 192 v10 1 [(.int .i64 (3:Int)),(.str ([]:B8)),(.int .i64 (0:Int)),(.bool false),(.bool false),(.str ([]:B8)),(.int .i64 (0:Int)),(.int .i64 (0:Int)),(.int .i64 (0:Int)),(.int .i64 (0:Int)),(.int .i64 (0:Int)),(.str ([]:B8)),.nilSlice,.nilSlice,.nilSlice] st25 (fun (v13:TV) (st26:St)=>K (v13) ((0:Int)) st26)))))))))))))))))))))))):=by
 refine Oj h fun v st1 I1 J h1 f1 o1 d1=>Ab rfl (Ab rfl (Ae h1.win (Ab rfl (Ab rfl (Ae h1.win (MX h1 ⟨h1.win,Kz h1 hl fun st2 I2 h2 f2=>⟨h2.win,?_⟩⟩))))))
 refine Ab rfl (Ab rfl (h2.put (k:=29) (UE X) {A with out:=[],held:=[]} (by decide) rfl rfl rfl (fun _ _=>rfl) fun st3 h3 f3=>Ab rfl (Ab rfl (h3.put (k:=18) (UE X) (Wv A) (by decide) rfl rfl rfl (fun _ _=>rfl) fun st4 h4 f4=>?_))))
 have f14:=(f2.trans f3).trans f4
 have o4:DC 15 st4 v A.out.length (Ek A.out) J:=o1.keep (J:=I1) ⟨f14.nt,f14.live⟩ fun id hid=>(d1 id hid).2
 have ft:=f1.trans f14
 refine Ab rfl (Ab rfl (h4.ld (k:=28) (x:= .int .i64 A.err) (fun _ _=>rfl) (Am (Aa (fun g=>?_) fun g=>?_))))
 ·refine Ab rfl (Ab rfl (h4.ld (k:=28) (x:= .int .i64 A.err) (fun _ _=>rfl) (Am (hk .nilSlice st4 I2 h4 ft.nb ⟨ft.nt,ft.live⟩ ft.box ?_))))
  rw[if_pos g]
 ·have hk:=fun v' st' I' a b x d e=>hk v' st' I' a b x d (by rw[if_neg g];exact e)
  have e0:A.err=0:=by omega
  rw[e0]at hk
  refine Kv o4 (by omega) (fun h=>by cases h) fun v' st5 J' o5 f5 hJ hb5 hn5 hbt5=>?_
  have hdis:∀id,id∈I2->id∉J:=fun id hi hj=>by
   have hlt:=o1.lt id hj
   rcases f14.sub id hi with q | q
   ·exact(d1 id hj).2 q
   ·omega
  refine hk v' st5 I2 (h4.frt f5 hb5 hn5 hdis) (by rw[hn5];exact ft.nb) ⟨Nat.le_trans ft.nt f5.nt,fun id hi hn=>(f5.live id (Nat.lt_of_lt_of_le hi ft.nt) fun hj=>hn (d1 id hj).1).trans (ft.live id hi hn)⟩ (fun b x1 x2 x3 x4=>by rw[hb5];exact ft.box b x1 x2 x3 x4) ?_
  have:=o5.rd
  rw[List.length_append,Le]
  exact this
end
end
section
def Fg (c:SC) (X:RX) (A:RA):RA:=if (Ch X A).err=0 then EB c X.size (Ch X A)else Ch X A
def GQ (X:RX):RX:=BT [] true (BU X)
def JC (c:SC) (X:RX) (A:RA):RA:=if X.lb<X.size then {Fg c X A with off:=0,err:=10} else if 0<=(GQ X).text then {Fg c X A with off:=(GQ X).text,err:=5} else Fg c X A
theorem Sz.last {c:SC} {A:RA} {k:Nat} (z:Sz k A) (o:Int):Sz (k+3) (EB c o A):=by
 unfold EB
 split
 ·exact(z.late o 4).mono (by omega)
 split
 ·split
  ·exact((z.enter o).cell).record o
  ·exact z.mono (by omega)
 ·exact((z.cell).record o).mono (by omega)
theorem PN (s:B8) (last:Bool) (X:RX):(BT s last X).lb=X.lb:=by
 unfold BT MV
 split
 ·rfl
 ·split<;>rfl
theorem frK {r w m:Nat} {I I4:List Nat} {st a b:St} (f:FrB r w m I I4 st a) (l:FrT I4 a b):FrT I st b:=
 ⟨Nat.le_trans f.nt l.nt,fun id hi hn=>(l.live id (Nat.lt_of_lt_of_le hi f.nt) fun hj=>(f.sub id hj).elim hn fun q=>by omega).trans (f.live id hi hn)⟩
section
variable {c:SC} {X:RX} {A:RA} {r w m k:Nat} {I:List Nat} {st:St}
theorem Va (h:RB c X A r w m I st) (z:Sz k A) (hwin:c.win<=100000000) (hW:A.err=0->W c A) (hk8:k<=700000) (hl:X.cut.length<=2000000) (hs:(X.cut.length:Int)<=X.size/\X.size<=100000000) {K:TV->Int->St->Prop}
  (hk1:X.ended=true->K .nilSlice 29 st)
  (hk:X.ended=false->∀v st' I',RB c (UE (GQ X)) (Wv (JC c X A)) r w m I' st'->st.nb<=st'.nb->FrT I st st'->(∀b,b≠r->b≠w->b≠m->b<st.nb->st'.box b=st.box b)->
   (if (JC c X A).err≠0 then v= .nilSlice else Rd 15 v ((JC c X A).out++[Ev.le]).length (Ek ((JC c X A).out++[Ev.le])))->K v (JC c X A).err st'):
  Ad PR Bv [.box r 0] [.one .tv,.one (.int .i64)] st K:=by
 have zo:=z.ol
 refine Gl r st K (Ae h.win (Ab rfl (show BIf false _ _ from ?_)))
 refine h.ld (k:=29) (x:= .bool X.ended) (fun _ _=>rfl) (BC (Ar hk1 fun g=>?_))
 have hk:=hk g
 have zb:=z.begin X
 have hWb:(Ch X A).err=0->W c (Ch X A):=fun he=>(hW (by rw[<-Md X A];exact he)).begin X
 refine PH h (by omega) fun st1 I1 h1 f1=>PG h1 (s:=[]) (show X.cut.length+0<=2000000 from hl) hs fun st2 h2 f2=>?_
 have hsz:(GQ X).size=X.size:=GC ..
 have hlb:(GQ X).lb=X.lb:=PN ..
 have zl:Sz (k+4) (Fg c X A):=by
  unfold Fg
  split
  ·exact(zb.last X.size)
  ·exact zb.mono (by omega)
 have h2:RB c (GQ X) (Ch X A) r w m I1 st2:=h2
 have f12:=f1.trans f2
 refine⟨fun r1 st4=>∃I4,r1= .box r 0/\RB c (GQ X) (Fg c X A) r w m I4 st4/\FrB r w m I I4 st st4,h2.ld (k:=28) (x:= .int .i64 (Ch X A).err) (fun _ _=>rfl) (Am (Aa (fun g2=>?_) fun g2=>?_)),?_⟩
 ·refine Xr h2 zb (by omega) hwin (hWb g2) fun st3 I3 h3 f3=>⟨I3,rfl,?_,f12.trans f3⟩
  rw[hsz]at h3
  unfold Fg
  rw[if_pos g2];exact h3
 ·refine⟨I1,rfl,?_,f12⟩
  unfold Fg
  rw[if_neg g2];exact h2
 rintro r1 st4 ⟨I4,rfl,h4,f4⟩
 unfold JC at hk
 generalize Fg c X A=L at*
 have zlh:=zl.hl
 have zlo:=zl.ol
 refine Ab rfl (Ab rfl (h4.ld (k:=23) (x:= .int .i64 (GQ X).size) (fun _ _=>rfl) (Am (Ab rfl (Ab rfl (Ab rfl (h4.ld (k:=7) (x:= .int .i64 (GQ X).lb) (fun _ _=>rfl) (Am (Aa (fun g3=>?_) fun g3=>?_)))))))))
 ·rw[hsz,hlb]at g3
  rw[if_pos g3]at hk
  refine Ab rfl (Ab rfl (h4.put (k:=27) (GQ X) {L with off:=0} (by decide) rfl rfl rfl (fun _ _=>rfl) fun st5 h5 f5=>Ab rfl (Ab rfl (h5.put (k:=28) (GQ X) {L with off:=0,err:=10} (by decide) rfl rfl rfl (fun _ _=>rfl) fun st6 h6 f6=>?_))))
  have ft:=(f4.trans f5).trans f6
  exact Oe h6 (by show L.held.length<=_;omega) (by show L.out.length<=_;omega) fun v st7 I7 h7 nb7 l7 b7 hv=>hk v st7 I7 h7 (Nat.le_trans ft.nb nb7) (frK ft l7) (fun b x1 x2 x3 x4=>(b7 b x1 x2 x3 (Nat.lt_of_lt_of_le x4 ft.nb)).trans (ft.box b x1 x2 x3 x4)) hv
 ·rw[hsz,hlb]at g3
  rw[if_neg g3]at hk
  refine Ab rfl (Ab rfl (h4.ld (k:=24) (x:= .int .i64 (GQ X).text) (fun _ _=>rfl) (Am (Aa (fun g5=>?_) fun g5=>?_))))
  ·rw[if_pos g5]at hk
   refine Ab rfl (Ab rfl (h4.ld (k:=24) (x:= .int .i64 (GQ X).text) (fun _ _=>rfl) (Am (Ab rfl (Ab rfl (h4.put (k:=27) (GQ X) {L with off:=(GQ X).text} (by decide) rfl rfl rfl (fun _ _=>rfl) fun st5 h5 f5=>Ab rfl (Ab rfl (h5.put (k:=28) (GQ X) {L with off:=(GQ X).text,err:=5} (by decide) rfl rfl rfl (fun _ _=>rfl) fun st6 h6 f6=>?_))))))))
   have ft:=(f4.trans f5).trans f6
   exact Oe h6 (by show L.held.length<=_;omega) (by show L.out.length<=_;omega) fun v st7 I7 h7 nb7 l7 b7 hv=>hk v st7 I7 h7 (Nat.le_trans ft.nb nb7) (frK ft l7) (fun b x1 x2 x3 x4=>(b7 b x1 x2 x3 (Nat.lt_of_lt_of_le x4 ft.nb)).trans (ft.box b x1 x2 x3 x4)) hv
  ·rw[if_neg g5]at hk
   exact Oe h4 (by omega) (by omega) fun v st7 I7 h7 nb7 l7 b7 hv=>hk v st7 I7 h7 (Nat.le_trans f4.nb nb7) (frK f4 l7) (fun b x1 x2 x3 x4=>(b7 b x1 x2 x3 (Nat.lt_of_lt_of_le x4 f4.nb)).trans (f4.box b x1 x2 x3 x4)) hv
end
end
theorem SP:∀(n:Nat) (l:B8),l.length<=n->A5 l<=l.length/\ul (l.drop (A5 l))=0/\A5 (l.take (A5 l))=A5 l:=by
 intro n
 induction n with
 | zero=>
  intro l hl
  have:l=[]:=List.eq_nil_of_length_eq_zero (by omega)
  subst this
  rw[GX]
  exact⟨Nat.le_refl _,by simp[ul],GX⟩
 | succ n ih=>
  intro l hl
  by_cases hu:ul l=0
  ·rw[Cy _ hu]
   exact⟨Nat.zero_le _,hu,by rw[List.take_zero];exact GX⟩
  ·have hle:=Nn l
   obtain⟨h1,h2,h3⟩:=ih (l.drop (ul l)) (by rw[List.length_drop];omega)
   rw[EH _ hu]
   rw[List.length_drop]at h1
   refine⟨by omega,by rw[<-List.drop_drop];exact h2,?_⟩
   have ht:=(Uw (m:=ul l+A5 (l.drop (ul l))) hu (by omega)).1
   rw[EH _ (by rw[ht];exact hu),ht]
   congr 1
   rw[List.drop_take]
   have:ul l+A5 (l.drop (ul l))-ul l=A5 (l.drop (ul l)):=by omega
   rw[this];exact h3
structure TxP (P:B8) (X:RX):Prop where
 size:X.size=P.length
 st:(X.text<0/\∃a,P=a++X.cut/\A5 a=a.length/\ul X.cut=0)∨(0<=X.text/\X.cut=[]/\∀ext,(A5 (P++ext):Int)=X.text/\X.text<P.length)
theorem TxP.feed {P s:B8} {X:RX} (h:TxP P X):TxP (P++s) (Ew s X):=by
 have hsz:(Ew s X).size=(P++s).length:=by
  show(BT s false (BU X)).size+(s.length:Int)=_
  rw[GC,List.length_append]
  show X.size+(s.length:Int)=_
  rw[h.size];omega
 refine⟨hsz,?_⟩
 show((BT s false (BU X)).text<0/\_)∨_
 rcases h.st with⟨h1,a,rfl,h3,h4⟩ | ⟨h1,h2,h3⟩
 ·have e:BT s false (BU X)=MV (X.cut++s) (A5 (X.cut++s)) false (X.size-(X.cut.length:Int)) (BU X):=if_neg (by show ¬0<=X.text;omega)
  have hz:X.size-(X.cut.length:Int)=a.length:=by rw[h.size,List.length_append];omega
  show _∨(0<=(BT s false (BU X)).text/\(BT s false (BU X)).cut=[]/\_)
  unfold Ew Rs
  rw[e,hz]
  obtain⟨v1,v2,v3⟩:=SP _ (X.cut++s) (Nat.le_refl _)
  generalize ht:X.cut++s=t at*
  have hP:a++X.cut++s=(a++t.take (A5 t))++t.drop (A5 t):=by rw[List.append_assoc,ht,List.append_assoc,List.take_append_drop]
  have ha:A5 (a++t.take (A5 t))=(a++t.take (A5 t)).length:=Q1 h3 (by rw[v3,List.length_take];omega)
  have hal:(a++t.take (A5 t)).length=a.length+A5 t:=by rw[List.length_append,List.length_take];omega
  unfold MV
  by_cases hc:t.drop (A5 t)≠ []/\(false=true∨Oy (t.drop (A5 t))=false)
  ·rw[if_pos hc]
   have hb:Oy (t.drop (A5 t))=false:=hc.2.elim (fun q=>by cases q) id
   refine .inr ⟨by show(0:Int)<=(a.length:Int)+(A5 t:Int);omega,rfl,fun ext=>?_⟩
   show((A5 (a++X.cut++s++ext):Nat):Int)=(a.length:Int)+(A5 t:Int)/\(a.length:Int)+(A5 t:Int)<_
   rw[hP,List.append_assoc (a++t.take (A5 t)),Nh _ _ _ (Nat.le_refl _) ha,SO hc.1 v2 hb ext,hal]
   have hpos:=List.length_pos_iff.2 hc.1
   refine⟨by omega,?_⟩
   rw[List.length_append,hal];omega
  ·rw[if_neg hc]
   exact .inl ⟨h1,a++t.take (A5 t),hP,ha,v2⟩
 ·have e:BT s false (BU X)=BU X:=if_pos h1
  unfold Ew Rs
  rw[e]
  refine .inr ⟨h1,h2,fun ext=>?_⟩
  obtain⟨k1,k2⟩:=h3 (s++ext)
  rw[<-List.append_assoc]at k1
  exact⟨k1,by show X.text<_;rw[List.length_append];omega⟩
theorem TxP.done {P:B8} {X:RX} (h:TxP P X):if A5 P=P.length then(GQ X).text<0 else(GQ X).text=A5 P:=by
 unfold GQ
 rcases h.st with⟨h1,a,rfl,h3,h4⟩ | ⟨h1,h2,h3⟩
 ·have e:BT [] true (BU X)=MV (X.cut++[]) (A5 (X.cut++[])) true (X.size-(X.cut.length:Int)) (BU X):=if_neg (by show ¬0<=X.text;omega)
  rw[e,List.append_nil,Cy _ h4]
  unfold MV
  have hv:A5 (a++X.cut)=a.length:=by rw[Nh _ _ _ (Nat.le_refl _) h3,Cy _ h4];rfl
  have hz:X.size-(X.cut.length:Int)=a.length:=by rw[h.size,List.length_append];omega
  rw[List.drop_zero,hv,hz,List.length_append]
  by_cases hc:X.cut=[]
  ·rw[if_pos (by rw[hc];rfl),if_neg (fun q=>q.1 hc)]
   exact h1
  ·have hpos:=List.length_pos_iff.2 hc
   rw[if_neg (by omega),if_pos ⟨hc,.inl rfl⟩]
   show(a.length:Int)+((0:Nat):Int)=_
   omega
 ·have e:BT [] true (BU X)=BU X:=if_pos h1
  rw[e]
  obtain⟨k1,k2⟩:=h3 []
  rw[List.append_nil]at k1
  rw[if_neg (by omega)]
  exact k1.symm
section
def D4 (a q:Int) (hd ty:Bool) (l0 l1 size:Int):SC:=⟨a,q,hd,ty,l0,l1,size.toNat⟩
def K2 (l2 l3 l4:Int):RX:=⟨false,0, -1,[],false,l2,l3,l4⟩
def Fk (a q l0 l1 l2 l3 l4 size:Int):Prop:=(1<=size/\size<=65536)/\dOk a q=true/\lOk l0 l1 l2 l3 l4=true
theorem TxP.start (l2 l3 l4:Int):TxP [] (K2 l2 l3 l4):=⟨rfl,.inl ⟨by show(-1:Int)<0;decide,[],rfl,GX,by simp[ul,K2]⟩⟩
theorem N6 (st:St) (o:Lu) (T:Option Nat):AN st (st.push o T):=
 ⟨Nat.le_succ _,fun i hi=>by simp[St.push,Nat.ne_of_lt hi],Nat.le_refl _,fun _ _=>rfl,fun _ _=>rfl,fun i hi=>by simp[St.push,Nat.ne_of_lt hi]⟩
theorem U9 {a q:Int} {hd ty:Bool} {l0 l1 l2 l3 l4 size:Int} {st:St} {K:TV->Int->St->Prop}
  (hk0:¬Fk a q l0 l1 l2 l3 l4 size->∀st',AN st st'->K .nilPtr 1 st')
  (hk1:Fk a q l0 l1 l2 l3 l4 size->∀st',AN st st'->RB (D4 a q hd ty l0 l1 size) (K2 l2 l3 l4) RA.start (st.nb+2) st.nb (st.nb+1) [] st'->K (.box (st.nb+2) 0) 0 st'):
  Ad PR CJ [.agg [.int .u8 a,.int .u8 q,.bool hd,.bool ty],.agg [.int .i64 l0,.int .i64 l1,.int .i64 l2,.int .i64 l3,.int .i64 l4],.int .i64 size] [.one .tv,.one (.int .i64)] st K:=by
 refine J8 a q hd ty l0 l1 l2 l3 l4 size st K (OG size st _ (Aa (fun g=>?_) fun g=>Aa (fun g1=>?_) fun g1=>?_))
 ·exact Aa (fun _=>hk0 (fun h=>by have:=h.1.1;omega) st (AN.refl st)) fun h=>absurd (by decide) h
 ·exact Aa (fun _=>hk0 (fun h=>by have:=h.1.2;omega) st (AN.refl st)) fun h=>absurd (by decide) h
 have e1:=N6 st (.cells [.int .i64 size,.nilSlice,.int .i64 0,.bool false]) (some 194)
 refine Aa (fun h=>absurd rfl h) fun _=>VX (Ar (fun g2=>?_) fun g2=>Tv (Ar (fun g3=>?_) fun g3=>?_))
 ·have g2':=(Bool.not_eq_true' _).mp g2
  exact hk0 (fun h=>by rw[h.2.1]at g2';cases g2') _ e1
 ·have g3':=(Bool.not_eq_true' _).mp g3
  exact hk0 (fun h=>by rw[h.2.2]at g3';cases g3') _ e1
 have g2':=(Bool.not_eq_false' _).mp g2
 have g3':=(Bool.not_eq_false' _).mp g3
 refine Ab rfl (hk1 ⟨⟨by omega,by omega⟩,g2',g3'⟩ _ ((e1.trans (N6 _ _ _)).trans (N6 _ _ _)) ?_)
 have hsz:((size.toNat:Nat):Int)=size:=Int.toNat_of_nonneg (by omega)
 refine⟨by simp[St.push],by simp[St.push];omega,by simp[St.push],by omega,by omega,by omega,.nilSlice,.nilSlice,.nilSlice,0,[],[],[],[],?_,?_,?_,fun t=>by simp[DH,RA.start],DC.nil _ _,DC.nil _ _,DC.nil _ _,by simp,rfl⟩
 ·simp[St.push];rfl
 ·simp[St.push,D4,hsz];omega
 ·simp[St.push]
section
variable {c:SC} {X:RX} {A:RA} {r w m k:Nat} {I:List Nat} {st:St}
end
end
section
structure FI (c:SC) (P:B8) (k:Nat) (X:RX) (A:RA):Prop where
 tx:TxP P X
 ended:X.ended=false
 sz:Sz k A
 w:A.err=0->W c A
def Gq (A:RA):RA:={A with out:=[]}
theorem FI.start (c:SC) (l2 l3 l4:Int):FI c [] 1 (K2 l2 l3 l4) RA.start:=
 ⟨TxP.start l2 l3 l4,rfl,⟨Nat.zero_le _,Nat.zero_le _,Nat.zero_le _,Nat.zero_le _,Nat.zero_le _,by decide,by decide⟩,fun _=>W.start c⟩
theorem QI (s:B8) (last:Bool) (X:RX):(BT s last X).ended=X.ended:=by
 unfold BT MV
 split
 ·rfl
 ·split<;>rfl
theorem FI.feed {c:SC} {P s:B8} {k:Nat} {X:RX} {A:RA} (h:FI c P k X A):FI c (P++s) (k+1+3*s.length) (Ew s X) (Gq (Ct c s X A)):=by
 have z:=Sz.run (c:=c) s X.size (h.sz.begin X)
 refine⟨h.tx.feed,?_,⟨z.hl,Nat.zero_le _,z.cl,z.nl,z.rl,z.n0,z.n1⟩,fun he=>?_⟩
 ·show(BT s false (BU X)).ended=false
  rw[QI];exact h.ended
 ·have hw:=W.run (c:=c) s X.size (fun he=>(h.w (by rw[<-Md X A];exact he)).begin X) (show(Cp c s X.size (Ch X A)).err=0 from he)
  exact⟨hw.ph,hw.wi,hw.held,hw.nm,hw.cw⟩
theorem FI.cut {c:SC} {P:B8} {k:Nat} {X:RX} {A:RA} (h:FI c P k X A):X.cut.length<=P.length:=by
 rcases h.tx.st with⟨_,a,e,_⟩ | ⟨_,e,_⟩
 ·have:=congrArg List.length e
  rw[List.length_append]at this
  omega
 ·rw[e];exact Nat.zero_le _
def Cg (c:SC):List B8->RX×RA×List Ev->RX×RA×List Ev
 | [],p=>p
 | s::r,(X,A,o)=>Cg c r (Ew s X,Gq (Ct c s X A),o++(Ct c s X A).out)
theorem My (c:SC) (s:B8):∀(l:List B8) (p:RX×RA×List Ev),Cg c (l++[s]) p=(Ew s (Cg c l p).1,Gq (Ct c s (Cg c l p).1 (Cg c l p).2.1),(Cg c l p).2.2++(Ct c s (Cg c l p).1 (Cg c l p).2.1).out)
 | [],(X,A,o)=>rfl
 | x::l,(X,A,o)=>My c s l _
section
variable {c:SC} {X:RX} {A:RA} {r w m k:Nat} {I:List Nat} {st:St}
theorem Sw (h:RB c X A r w m I st) (hl:A.names.length<=90000000) {K:TV->St->Prop} (hk1:(A.told=false∨c.hd=false)->K .nilSlice st)
  (hk:A.told=true->c.hd=true->∀v st1,Rd 1 v A.names.length (A.names.map TV.str)->RB c X A r w m I st1->FrB r w m I I st st1->K v st1):
  Ad PR BH [.box r 0] [.one .tv] st K:=by
 obtain⟨nv,ov,hv,wo,es,I1,I2,I3,h1,h2,h3,h4,h5,h6,h7,h8,h9⟩:=h.ex
 refine EV r st K (h.ld (k:=18) (x:= .bool A.told) (fun _ _=>rfl) (BC (Ar (fun g=>hk1 (.inl ((Bool.not_eq_true' _).mp g))) fun g=>?_)))
 refine h.ld (k:=3) (x:= .bool c.hd) (fun _ _=>rfl) (BC (Ar (fun g2=>hk1 (.inr ((Bool.not_eq_true' _).mp g2))) fun g2=>?_))
 have hk:=hk ((Bool.not_eq_false' _).mp g) ((Bool.not_eq_false' _).mp g2)
 have hsrc:BJ st 1 nv=some (A.names.length,A.names.map TV.str):=by
  rcases h5 with⟨rfl,e1,e2,_⟩ | ⟨rfl,_⟩ | ⟨id,rfl,_⟩
  ·rw[e1,e2];rfl
  ·rfl
  ·rfl
 have hall:List.all (A.names.map TV.str) Aq=true:=by
  rw[List.all_eq_true]
  intro x hx
  obtain⟨t,_,rfl⟩:=List.mem_map.1 hx
  rfl
 have ho:DC 1 st (.list 1 .full 0 []) 0 [] []:= .inr (.inl ⟨rfl,rfl⟩)
 refine Ae (x:=nv) (by simp only[Ac,h1];rfl) (Ae hsrc (Ab hall ?_))
 refine Kv ho (by omega) (fun g=>by rw[List.eq_nil_of_length_eq_zero g];rfl) fun v st1 J o1 f1 hJ hb hn hbt=>?_
 have e:=o1.rd
 rw[Nat.zero_add,List.nil_append]at e
 exact hk v st1 e (h.frt f1 hb hn fun _ _ q=>by cases q) ⟨Nat.le_of_eq hn.symm,f1.nt,fun b _ _ _ _=>by rw[hb],fun id hi _=>f1.live id hi fun q=>(by cases q),fun _ q=> .inl q⟩
end
end
section
theorem Se (l:List Ev):List.all (Ek l) Aq=true:=by
 induction l with
 | nil=>rfl
 | cons e l ih=>
  show List.all (evT e++Ek l) Aq=true
  rw[List.all_append,ih,Bool.and_true]
  cases e<;>rfl
theorem WL {st st':St} {v:TV} {l:List Ev} {J:List Nat} (h:DC 15 st v l.length (Ek l) J):BJ st' 15 v=some (l.length,Ek l):=by
 rcases h with⟨rfl,e1,e2,_⟩ | ⟨rfl,_⟩ | ⟨id,rfl,_⟩
 ·rw[e1,e2];rfl
 ·rfl
 ·rfl
theorem rd_src {st':St} {v:TV} {l:List Ev} (h:Rd 15 v l.length (Ek l)):BJ st' 15 v=some (l.length,Ek l):=by
 rcases h with⟨rfl,e1,e2⟩ | ⟨tip,rfl⟩
 ·rw[e1,e2];rfl
 ·rfl
section
variable {c:SC} {X:RX} {A:RA} {r w m k:Nat} {I:List Nat} {st:St}
theorem RB.lt (h:RB c X A r w m I st):∀id,id∈I->id<st.nt:=by
 obtain⟨nv,ov,hv,wo,es,I1,I2,I3,h1,h2,h3,h4,h5,h6,h7,h8,rfl⟩:=h.ex
 intro id hid
 rcases List.mem_append.1 hid with hid | hid
 ·exact(List.mem_append.1 hid).elim (h5.lt id) (h6.lt id)
 ·exact h7.lt id hid
theorem TS (h:RB c X A r w m I st) {P s:B8} (f:FI c P k X A) (hwin:c.win<=100000000) (hk8:k+1+3*s.length<=700000) (hP:P.length<=1000000) {out:TV} {o:List Ev} {Io:List Nat} (ho:DC 15 st out o.length (Ek o) Io) (hol:o.length<=100000000000) (hd:∀id,id∈Io->id∉I) {K:TV->St->Prop}
  (hk:∀v st' I' J,RB c (Ew s X) (Gq (Ct c s X A)) r w m I' st'->DC 15 st' v (o++(Ct c s X A).out).length (Ek (o++(Ct c s X A).out)) J->(∀id,id∈J->id∉I')->st.nb<=st'.nb->(∀b,b≠r->b≠w->b≠m->b<st.nb->st'.box b=st.box b)->K v st'):
  Ad PR AP [.box r 0,.str s] [.one .tv,.one (.int .i64)] st fun (v2:TV) (n2:Int) (st3:St)=>Ah (BJ st3 15 v2) fun (q1:Nat×List TV)=>need (List.all q1.2 Aq) (AG 118 15 192 out q1.1 q1.2 st3 fun (v3:TV) (st4:St)=>K v3 st4):=by
 have hc:=f.cut
 have hs:=f.tx.size
 have zf:=Sz.run (c:=c) s X.size (f.sz.begin X)
 have zo:=zf.ol
 refine Lh h f.sz hwin f.w (by omega) (by omega) ⟨by omega,by omega⟩ (fun g=>by rw[f.ended]at g;cases g) fun _ v st3 I' J h3 f3 o3 d3=>?_
 refine Ae (WL o3) (Ab (Se _) ?_)
 have ho3:DC 15 st3 out o.length (Ek o) Io:=ho.keep (J:=I) ⟨f3.nt,f3.live⟩ hd
 have hfo:(Ct c s X A).out.length<=3000000:=Nat.le_trans zo (by omega)
 have hdis:∀id,id∈I'->id∉Io:=fun id hi hj=>by
  have hlt:=ho.lt id hj
  rcases f3.sub id hi with q | q
  ·exact hd id hj q
  ·omega
 refine Kv ho3 (by omega) (fun g=>by rw[List.eq_nil_of_length_eq_zero g];rfl) fun v' st4 J' o4 f4 hJ hb hn hbt=>?_
 refine hk v' st4 I' J' (h3.frt f4 hb hn hdis) ?_ (fun id hid hi=>?_) (by rw[hn];exact f3.nb) (fun b x1 x2 x3 x4=>by rw[hb];exact f3.box b x1 x2 x3 x4)
 ·rw[List.length_append,Le];exact o4
 ·rcases hJ with rfl | rfl
  ·exact hdis id hi hid
  ·rw[List.mem_singleton]at hid
   have:=h3.lt id hi
   omega
end
end
def F3 (c:SC) (l2 l3 l4:Int) (ps:List B8):RX×RA×List Ev:=Cg c ps (K2 l2 l3 l4,RA.start,[])
theorem Pp (ps:List B8) (j:Nat) (h:j<ps.length):((ps.take (j+1)).flatten).length=((ps.take j).flatten).length+(ps.getD j []).length:=by
 rw[DE _ _ [] h];simp
theorem NX (ps:List B8) (j:Nat):((ps.take j).flatten).length<=ps.flatten.length:=by
 have:ps.flatten=(ps.take j).flatten++(ps.drop j).flatten:=by rw[<-List.flatten_append,List.take_append_drop]
 rw[this,List.length_append];omega
theorem TU {ps:List B8} {parts:TV} (hp:Rd 1 parts ps.length (ps.map TV.str)) (hsz:ps.length+3*ps.flatten.length<=30000) {a q:Int} {hd ty:Bool} {l0 l1 l2 l3 l4 size:Int} {st:St} {K:TV->Int->Int->St->Prop}
  (hk0:¬Fk a q l0 l1 l2 l3 l4 size->∀st',AN st st'->K .nilSlice 0 1 st')
  (hk1:Fk a q l0 l1 l2 l3 l4 size->∀p E,p=F3 (D4 a q hd ty l0 l1 size) l2 l3 l4 ps->E=JC (D4 a q hd ty l0 l1 size) p.1 p.2.1->∀v st',st.nb<=st'.nb->(∀b,b<st.nb->st'.box b=st.box b)->
   (if E.err≠0 then v= .nilSlice else Rd 15 v (p.2.2++(E.out++[Ev.le])).length (Ek (p.2.2++(E.out++[Ev.le]))))->K v (if E.err≠0 then E.off else 0) E.err st'):
  Ad PR Bg [parts,.agg [.int .u8 a,.int .u8 q,.bool hd,.bool ty],.agg [.int .i64 l0,.int .i64 l1,.int .i64 l2,.int .i64 l3,.int .i64 l4],.int .i64 size] [.one .tv,.one (.int .i64),.one (.int .i64)] st K:=by
 refine H6 parts a q hd ty l0 l1 l2 l3 l4 size st K (U9 (fun g st1 e1=>Aa (fun _=>hk0 g st1 e1) fun h=>absurd (by decide) h) fun g st1 e1 hR=>Aa (fun h=>absurd rfl h) fun _=>Ab hp.isSl ?_)
 have hk:=fun p E=>hk1 g p E
 have hwin:(D4 a q hd ty l0 l1 size).win<=100000000:=by show size.toNat<=_;have:=g.1;omega
 generalize D4 a q hd ty l0 l1 size=c at*
 refine⟨fun out n r v n2 st2=>∃(j k:Nat) (I Io:List Nat) (X:RX) (A:RA) (o:List Ev),n=(j:Int)/\r= .box (st.nb+2) 0/\v=parts/\n2=(ps.length:Int)/\j<=ps.length/\k<=1+j+3*((ps.take j).flatten).length/\FI c (ps.take j).flatten k X A/\RB c X A (st.nb+2) st.nb (st.nb+1) I st2/\DC 15 st2 out o.length (Ek o) Io/\
   o.length<=j*3000000/\(∀id,id∈Io->id∉I)/\st.nb<=st2.nb/\(∀b,b<st.nb->st2.box b=st.box b)/\Cg c (ps.take j) (K2 l2 l3 l4,RA.start,[])=(X,A,o),fun _ n _ _ _ _=>ps.length-n.toNat,
  ⟨0,1,[],[],_,_,[],rfl,rfl,rfl,by rw[hp.lenS],Nat.zero_le _,by simp,FI.start c l2 l3 l4,hR,DC.nil _ _,Nat.zero_le _,fun _ h=>(by cases h),e1.nb,e1.box,rfl⟩,?_⟩
 rintro out n r v n2 st2 ⟨j,k,I,Io,X,A,o,rfl,rfl,rfl,rfl,hj,hk8,hF,hB,ho,hol,hdis,hnb,hbx,hfe⟩
 have hfl:=NX ps j
 refine Aa (fun g1=>?_) fun g1=>?_
 ·have hj1:j<ps.length:=by omega
  have hf1:=Pp ps j hj1
  have hf2:=NX ps (j+1)
  refine⟨⟨by omega,by rw[hp.lenZ];omega⟩,Ae (x:= .str (ps.getD j [])) ?_ (AB ?_)⟩
  ·rw[Int.toNat_natCast,hp.ld st2 j 0 (by simp;exact hj1)]
   simp[List.getD_eq_getElem?_getD,hj1]
  refine TS hB hF hwin (by omega) (by omega) ho (by omega) hdis fun v' st3 I3 J3 h3 o3 d3 nb3 b3=>⟨⟨j+1,k+1+3*(ps.getD j []).length,I3,J3,_,_,_,?_,rfl,rfl,rfl,hj1,by omega,?_,h3,o3,?_,d3,Nat.le_trans hnb nb3,fun b hb=>?_,?_⟩,?_⟩
  ·rw[Al _ (by omega) (by omega)];omega
  ·have:=hF.feed (s:=ps.getD j [])
   rw[DE _ _ [] hj1]
   simpa using this
  ·have zf:=(Sz.run (c:=c) (ps.getD j []) X.size (hF.sz.begin X)).ol
   have:(Ct c (ps.getD j []) X A).out.length<=4*(k+1+3*(ps.getD j []).length):=zf
   rw[List.length_append];omega
  ·rw[b3 b (by omega) (by omega) (by omega) (by omega)];exact hbx b hb
  ·rw[DE _ _ [] hj1,My,hfe]
  ·show ps.length-Int.toNat _<ps.length-Int.toNat _
   rw[Al _ (by omega) (by omega)];omega
 ·have hj':j=ps.length:=by omega
  have hall:ps.take j=ps:=List.take_of_length_le (by omega)
  rw[hall]at hfe hF
  have hs:=hF.tx.size
  have hc:=hF.cut
  have hk:=hk (X,A,o) (JC c X A) hfe.symm rfl
  have zo:(JC c X A).out.length<=4000000:=by
   have zb:=hF.sz.begin X
   have zl:Sz (k+4) (Fg c X A):=by
    unfold Fg
    split
    ·exact zb.last X.size
    ·exact zb.mono (by omega)
   have:=zl.ol
   unfold JC
   split
   ·show(Fg c X A).out.length<=_;omega
   split
   ·show(Fg c X A).out.length<=_;omega
   ·omega
  refine Va hB hF.sz hwin hF.w (by omega) (by omega) ⟨by omega,by omega⟩ (fun g=>by rw[hF.ended]at g;cases g) fun _ v' st3 I3 h3 nb3 l3 b3 hv=>Aa (fun g3=>?_) fun g3=>?_
  ·rw[if_pos g3]at hk
   exact Ab rfl (Ab rfl (h3.ld (k:=27) (x:= .int .i64 (JC c X A).off) (fun _ _=>rfl) (Am (hk .nilSlice st3 (Nat.le_trans hnb nb3) (fun b hb=>by rw[b3 b (by omega) (by omega) (by omega) (by omega)];exact hbx b hb) (by rw[if_pos g3])))))
  ·rw[if_neg g3]at hk hv
   have e0:(JC c X A).err=0:=by omega
   have ho3:=ho.keep l3 hdis
   refine Ae (rd_src hv) (Ab (Se _) (Kv ho3 ?_ (fun h=>?_) fun v5 st6 J6 o6 f6 hJ6 hb6 hn6 hbt6=>?_))
   ·rw[List.length_append,List.length_singleton];omega
   ·rw[List.length_append,List.length_singleton]at h;omega
   ·have o6r:=o6.rd
    rw[<-Le,<-List.length_append]at o6r
    have hf:=hk v5 st6 (by rw[hn6];exact Nat.le_trans hnb nb3) (fun b hb=>by rw[hb6,b3 b (by omega) (by omega) (by omega) (by omega)];exact hbx b hb) (by rw[if_neg g3];exact o6r)
    rw[e0]at hf
    exact hf
section
def AY (p:List Ev) (A:RA):RA:={A with out:=p++A.out}
variable {c:SC} {A:RA} {p:List Ev}
theorem DA (o e:Int):Bd (AY p A) o e=AY p (Bd A o e):=by
 unfold Bd
 show(if A.err=0 then _ else _)=_
 split<;>rfl
theorem OC (e:Int):BK (AY p A) e=AY p (BK A e):=by
 unfold BK
 show(if A.late=0 then _ else _)=_
 split<;>rfl
theorem PU (d:Int):BG c (AY p A) d=AY p (BG c A d):=by
 unfold BG
 show Fi (if c.dep<d then BK (AY p A) 9 else if c.nod<=A.nodes then BK (AY p A) 10 else AY p A)=_
 rw[OC,OC]
 split
 ·rfl
 ·split<;>rfl
theorem PW (o:Int):AJ c (AY p A) o=AY p (AJ c A o):=by
 have e1:AI c (AY p A) o=AY p (AI c A o):=by
  unfold AI
  show(if A.within=true then _ else if AR c A=true then _ else BG c (AY p {A with frm:=o,within:=true,cells:=0}) 2)=_
  rw[PU]
  split
  ·rfl
  ·split<;>rfl
 have e2:∀B:RA,Cs (AY p B)=AY p (Cs B):=fun B=>by
  unfold Cs
  show(if 0<B.rows/\B.width<=B.cells then BK (AY p B) 10 else _)=_
  rw[OC]
  split<;>rfl
 have e3:∀B:RA,D6 c (AY p B)=AY p (D6 c B):=fun B=>by
  unfold D6
  show(if AR c B=true then _ else BG c (AY p B) 3)=_
  rw[PU]
  split<;>rfl
 unfold AJ
 rw[e1,e2,e3]
theorem OD (b:UInt8):CC c b (AY p A)=AY p (CC c b A):=by
 unfold CC
 show(if c.win<=A.held.length then Bd (AY p A) A.frm 28 else _)=_
 rw[DA]
 split<;>rfl
theorem SJ (o e:Int):Fm (AY p A) o e=AY p (Fm A o e):=by
 unfold Fm
 show Bd (if A.late≠0 then Bd (AY p A) A.frm A.late else AY p A) o e=_
 rw[DA]
 split
 ·rw[DA]
 ·rw[DA]
theorem HQ (o:Int):AH c (AY p A) o=AY p (AH c A o):=by
 have e1:Cu (AY p A)=AY p (Cu A):=by
  unfold Cu
  show(if A.rows=0 then _ else _)=_
  split<;>rfl
 have e2:∀B:RA,CG c (AY p B) o=AY p (CG c B o):=fun B=>by
  unfold CG
  show(if B.cells<B.width then Bd (AY p B) o 10 else _)=_
  rw[DA]
  split
  ·rfl
  ·unfold AY
   simp only[List.append_assoc]
   rfl
 unfold AH
 show(if A.err≠0 then _ else _)=_
 rw[e1,e2]
 split<;>rfl
theorem XH (t:B8) (qd:Bool):Mj c (AY p A) t qd=AY p (Mj c A t qd):=by
 by_cases hh:AR c A=true
 ·have hh':AR c (AY p A)=true:=hh
  unfold Mj
  rw[if_pos hh,if_pos hh']
  by_cases h1:1024<t.length
  ·simp only[if_pos h1,DA];rfl
  ·by_cases h2:t∈A.names
   ·have h2':t∈(AY p A).names:=h2
    simp only[if_neg h1,if_pos h2,if_pos h2',DA];rfl
   ·have h2':¬t∈(AY p A).names:=h2
    simp only[if_neg h1,if_neg h2,if_neg h2'];rfl
 ·have hh':¬AR c (AY p A)=true:=hh
  unfold Mj
  rw[if_neg hh,if_neg hh']
  by_cases h1:65536<t.length
  ·rw[if_pos h1,if_pos h1,DA];rfl
  ·rw[if_neg h1,if_neg h1]
   unfold AY
   simp only[List.append_assoc]
theorem OE:AX c (AY p A)=AY p (AX c A):=by
 by_cases hl:A.late≠0
 ·unfold AX
  rw[if_pos hl,if_pos (show(AY p A).late≠0 from hl)]
  exact DA (A:={A with held:=[]}) A.frm A.late
 ·rw[Ks c A hl,Ks c (AY p A) hl]
  exact XH (A:={A with held:=[]}) _ _
theorem PX (b:UInt8) (o:Int):Dk c b o (AY p A)=AY p (Dk c b o A):=by
 unfold Dk
 rw[OE]
 show(if (AX c A).err≠0 then _ else if (b.toNat:Int)=c.a then _ else if (b.toNat:Int)=10 then AH c (AY p (AX c A)) o else if (b.toNat:Int)=13 then _ else Bd (AY p (AX c A)) o 3)=_
 rw[HQ,DA]
 split
 ·rfl
 split
 ·rfl
 split
 ·rfl
 split<;>rfl
theorem PV (b:UInt8) (o:Int):CI c b o (AY p A)=AY p (CI c b o A):=by
 unfold CI
 rw[PX,SJ,OD]
 split
 ·rfl
 split<;>rfl
theorem XI (b:UInt8) (o:Int):Bj c b o (AY p A)=AY p (Bj c b o A):=by
 have h1:∀(B:RA) (k:Nat),CC c b {AY p B with ph:=k}=AY p (CC c b {B with ph:=k}):=fun B k=>OD (A:={B with ph:=k}) b
 have h2:∀(B:RA) (k:Nat),CI c b o {AY p B with ph:=k}=AY p (CI c b o {B with ph:=k}):=fun B k=>PV (A:={B with ph:=k}) b o
 unfold Bj
 rw[PW,h1,h2,PV,h1,PX,DA]
 show(if A.ph=0 then _ else if A.ph=1 then _ else if A.ph=2 then CC c b (if (b.toNat:Int)=c.q then {AY p A with ph:=3} else AY p A)else if A.ph=3 then _ else if (b.toNat:Int)≠10 then _ else AH c (AY p A) A.line)=_
 rw[HQ]
 split
 ·split<;>rfl
 split
 ·rfl
 split
 ·split
  ·exact h1 A 3
  ·exact OD b
 split
 ·split<;>rfl
 split<;>rfl
theorem M9:∀(l:B8) (o:Int) (A:RA),Cp c l o (AY p A)=AY p (Cp c l o A)
 | [],o,A=>rfl
 | b::r,o,A=>by
  unfold Cp
  show(if A.err≠0 then _ else _)=_
  rw[XI,M9 r]
  split<;>rfl
theorem SK (o:Int):EB c o (AY p A)=AY p (EB c o A):=by
 unfold EB
 show(if A.ph=2∨A.ph=4 then _ else if A.ph=0 then(if A.within=true then _ else _)else _)=_
 rw[SJ,PW,OE,HQ,OE,HQ]
 split
 ·rfl
 split
 ·split<;>rfl
 ·rfl
end
theorem NC {c:SC}:∀(a b:B8) (o:Int) (A:RA),Cp c (a++b) o A=Cp c b (o+a.length) (Cp c a o A)
 | [],b,o,A=>by rw[List.nil_append,Cp];simp
 | x::a,b,o,A=>by
  rw[List.cons_append,Cp,Cp]
  by_cases h:A.err≠0
  ·rw[if_pos h,if_pos h,NB h]
  ·rw[if_neg h,if_neg h,NC a b]
   have e:o+1+(a.length:Int)=o+((x::a).length:Int):=by rw[List.length_cons];omega
   rw[e]
theorem SI (F:RA):AY F.out (Gq F)=F:=by
 unfold AY Gq
 cases F
 simp
theorem add_add (p q:List Ev) (A:RA):AY p (AY q A)=AY (p++q) A:=by
 unfold AY
 simp only[List.append_assoc]
theorem Mz (s:B8) (X:RX):(Ew s X).begun=true:=by
 show(BT s false (BU X)).begun=true
 unfold BT MV
 split
 ·rfl
 ·split<;>rfl
theorem Kn (s:B8) (X:RX):(Ew s X).size=X.size+s.length:=by
 show(BT s false (BU X)).size+(s.length:Int)=_
 rw[GC];rfl
theorem Pr (c:SC):∀(ps:List B8) (X:RX) (A:RA) (o:List Ev),X.begun=true->
  AY (Cg c ps (X,A,o)).2.2 (Cg c ps (X,A,o)).2.1=AY o (Cp c ps.flatten X.size A)/\(Cg c ps (X,A,o)).1.begun=true/\(Cg c ps (X,A,o)).1.size=X.size+ps.flatten.length
 | [],X,A,o,h=>⟨rfl,h,by show X.size=X.size+(0:Nat);omega⟩
 | s::r,X,A,o,h=>by
  obtain⟨h1,h2,h3⟩:=Pr c r (Ew s X) (Gq (Ct c s X A)) (o++(Ct c s X A).out) (Mz s X)
  have hf:Ct c s X A=Cp c s X.size A:=by unfold Ct Ch;rw[if_pos h]
  refine⟨?_,h2,?_⟩
  ·show AY (Cg c r _).2.2 (Cg c r _).2.1=_
   rw[h1,<-add_add,<-M9,SI,Kn,hf,List.flatten_cons,NC]
  ·show(Cg c r _).1.size=_
   rw[h3,Kn,List.flatten_cons,List.length_append];omega
def S0:RA:={RA.start with out:=[.ls]}
theorem end_add {c:SC} {X:RX} {A:RA} {o:List Ev} (hb:X.begun=true):AY o (Fg c X A)=Qx c X.size (AY o A):=by
 unfold Fg Qx Ch
 rw[if_pos hb]
 show _=if A.err=0 then _ else _
 rw[SK]
 split<;>rfl
theorem VE (c:SC) (l2 l3 l4:Int) (ps:List B8):
  AY (F3 c l2 l3 l4 ps).2.2 (Fg c (F3 c l2 l3 l4 ps).1 (F3 c l2 l3 l4 ps).2.1)=Qx c (ps.flatten.length:Int) (Cp c ps.flatten 0 S0):=by
 cases ps with
 | nil=>rfl
 | cons s r=>
  have hF:Ct c s (K2 l2 l3 l4) RA.start=Cp c s 0 S0:=rfl
  obtain⟨h1,h2,h3⟩:=Pr c r (Ew s (K2 l2 l3 l4)) (Gq (Ct c s (K2 l2 l3 l4) RA.start)) ([]++(Ct c s (K2 l2 l3 l4) RA.start).out) (Mz _ _)
  show AY (Cg c r _).2.2 (Fg c (Cg c r _).1 (Cg c r _).2.1)=_
  rw[end_add h2,h1,h3,List.nil_append,<-M9,SI,hF,Kn]
  have e0:(K2 l2 l3 l4).size=0:=rfl
  rw[e0,List.flatten_cons,NC,List.length_append]
  have e:(0:Int)+(s.length:Int)+(r.flatten.length:Int)=((s.length+r.flatten.length:Nat):Int):=by omega
  rw[e]
def evR (c:SC) (l2:Int) (s:B8):Except (Int×Int) (List Ev):=
 if l2<s.length then .error (0,10)else if A5 s≠s.length then .error ((A5 s:Int),5)
 else match Em (cxA c s) c.hd (s.length+1) [] 0 1 [] 0 with
  | .error p=> .error (Jc p (C9 c s 0))
  | .ok rs=>match C9 c s 0 with | some m=> .error ((m:Int),28) | none=> .ok ([Ev.ls]++(evD c rs++[Ev.le]))
def Pz (E:RA) (o:List Ev):Except (Int×Int) (List Ev):=if E.err≠0 then .error (E.off,E.err)else .ok (o++(E.out++[Ev.le]))
theorem Ra (c:SC):∀(ps:List B8) (X:RX) (A:RA) (o:List Ev) (P:B8),TxP P X->TxP (P++ps.flatten) (Cg c ps (X,A,o)).1
 | [],X,A,o,P,h=>by rw[List.flatten_nil,List.append_nil];exact h
 | s::r,X,A,o,P,h=>by
  rw[List.flatten_cons,<-List.append_assoc]
  exact Ra c r (Ew s X) (Gq (Ct c s X A)) (o++(Ct c s X A).out) (P++s) h.feed
theorem R0 (c:SC):∀(ps:List B8) (X:RX) (A:RA) (o:List Ev),(Cg c ps (X,A,o)).1.lb=X.lb
 | [],X,A,o=>rfl
 | s::r,X,A,o=>(R0 c r (Ew s X) (Gq (Ct c s X A)) (o++(Ct c s X A).out)).trans (PN s false (BU X))
theorem add_fin {c:SC} {n:Int} {p:List Ev} {A:RA}:Qx c n (AY p A)=AY p (Qx c n A):=by
 unfold Qx
 show(if A.err=0 then _ else _)=_
 rw[SK]
 split<;>rfl
theorem VC (c:SC) (l2 l3 l4:Int) (ps:List B8):
  AY (F3 c l2 l3 l4 ps).2.2 (Fg c (F3 c l2 l3 l4 ps).1 (F3 c l2 l3 l4 ps).2.1)=AY [Ev.ls] (Bi c ps.flatten 0 RA.start):=by
 rw[VE]
 have h1:S0=AY [Ev.ls] RA.start:=rfl
 rw[h1,M9,add_fin]
 rfl
theorem VD {c:SC} {l2 l3 l4:Int} {ps:List B8} (hwin:1<=c.win) (hac:c.a≠10/\c.a≠13) {p:RX×RA×List Ev} (hp:p=F3 c l2 l3 l4 ps):
  Pz (JC c p.1 p.2.1) p.2.2=evR c l2 ps.flatten:=by
 subst hp
 have ht:TxP ps.flatten (F3 c l2 l3 l4 ps).1:=by
  have:=Ra c ps (K2 l2 l3 l4) RA.start [] [] (TxP.start l2 l3 l4)
  rw[List.nil_append]at this
  exact this
 have hlb:(F3 c l2 l3 l4 ps).1.lb=l2:=R0 c ps (K2 l2 l3 l4) RA.start []
 have hf:=VC c l2 l3 l4 ps
 generalize F3 c l2 l3 l4 ps=p at*
 obtain⟨X,A,o⟩:=p
 simp only at*
 unfold JC evR
 rw[ht.size,hlb]
 have hd:=ht.done
 by_cases g1:l2<ps.flatten.length
 ·rw[if_pos g1,if_pos g1]
  unfold Pz
  rw[if_pos (by show(10:Int)≠0;decide)]
 rw[if_neg g1,if_neg g1]
 by_cases g2:A5 ps.flatten=ps.flatten.length
 case neg=>
  rw[if_neg g2]at hd
  rw[if_pos (by omega),if_pos g2]
  unfold Pz
  rw[if_pos (by show(5:Int)≠0;decide)]
  show Except.error ((GQ X).text,(5:Int))=_
  rw[hd]
 rw[if_pos g2]at hd
 rw[if_neg (by omega),if_neg (fun h=>h g2)]
 generalize hF:Bi c ps.flatten 0 RA.start=F at hf
 have e1:(Fg c X A).err=F.err:=show(AY o (Fg c X A)).err=(AY [Ev.ls] F).err from by rw[hf]
 have e2:(Fg c X A).off=F.off:=show(AY o (Fg c X A)).off=(AY [Ev.ls] F).off from by rw[hf]
 have e3:o++(Fg c X A).out=[Ev.ls]++F.out:=show(AY o (Fg c X A)).out=(AY [Ev.ls] F).out from by rw[hf]
 have hE:Pz (Fg c X A) o=match obs F with | .error x=> .error x | .ok y=> .ok ([Ev.ls]++(y.1++[Ev.le])):=by
  unfold Pz obs
  rw[e1,e2,<-List.append_assoc,e3,List.append_assoc]
  by_cases h0:F.err=0
  ·rw[if_pos h0,if_neg (fun h=>h h0)]
  ·rw[if_neg h0,if_pos h0]
 rw[hE,<-hF]
 obtain⟨d1,d2⟩:=doc_run (s:=ps.flatten) hwin hac (ps.flatten.length+1) [] 0 RA.start 1 [] 0 (Nat.zero_le _) (by omega) (InD.start c)
 cases hD:Em (cxA c ps.flatten) c.hd (ps.flatten.length+1) [] 0 1 [] 0 with
 | error x=>
  rw[(d1 x.1 x.2 hD).2]
 | ok rs=>
  rcases d2 rs hD with⟨h1,h2⟩ | ⟨m,h1,h2⟩
  ·rw[h2,h1]
  ·rw[h2,h1]
section
theorem Km {α β:Type} {f g:α->List β}:∀{l:List α},(∀x,x∈l->f x=g x)->l.flatMap f=l.flatMap g
 | [],_=>rfl
 | x::r,h=>by rw[List.flatMap_cons,List.flatMap_cons,h x (.head _),Km fun y hy=>h y (.tail _ hy)]
mutual
def evV:Vl->List Ev
 | .mk s l f=>if s.kind<6 then [.val s]else [if s.kind=6 then .ls else .ms]++(DN l++(El f++[if s.kind=6 then .le else .me]))
def DN:List Vl->List Ev
 | []=>[]
 | v::r=>evV v++DN r
def El:List Fd->List Ev
 | []=>[]
 | .mk k v::r=>[.key k]++(evV v++El r)
end
theorem Sb:∀l m:List Vl,DN (l++m)=DN l++DN m
 | [],m=>by simp[DN]
 | v::r,m=>by rw[List.cons_append,DN,DN,Sb r m,List.append_assoc]
theorem Sh:∀l m:List Fd,El (l++m)=El l++El m
 | [],m=>by simp[El]
 | .mk k v::r,m=>by rw[List.cons_append,El,El,Sh r m,List.append_assoc,List.append_assoc]
theorem N7 {α:Type} (g:α->Vl):∀l:List α,DN (l.map g)=l.flatMap fun x=>evV (g x)
 | []=>rfl
 | x::r=>by rw[List.map_cons,DN,N7 g r,List.flatMap_cons]
theorem N8 {s:Sc} (h:s.kind<6):evV (Bw s)=[.val s]:=by
 unfold Bw evV
 rw[if_pos h]
theorem Sd (l:List Vl):evV (CS l)=[.ls]++(DN l++[.le]):=by
 unfold CS evV
 rw[if_neg (by show ¬(6:Int)<6;decide),if_pos (by rfl),if_pos (by rfl),El,List.nil_append]
theorem evV_map (f:List Fd):evV (P4 f)=[.ms]++(El f++[.me]):=by
 unfold P4 evV
 rw[if_neg (by show ¬(7:Int)<6;decide),if_neg (by show ¬(7:Int)=6;decide),if_neg (by show ¬(7:Int)=6;decide),DN,List.nil_append]
theorem Ou (ty qd:Bool) (s:B8):(DI ty qd s).kind<6:=by
 unfold DI
 repeat' split
 all_goals first | decide | (show(4:Int)<6;decide) | (show(2:Int)<6;decide) | (show(3:Int)<6;decide)
theorem Qz (c:SC) (names:List B8):∀(ks:List Nd) (j:Nat),(c.hd=true->j+ks.length<=names.length)->
  evK c names j ks=(if j=0/\ks≠ []then [if c.hd then Ev.ms else .ls]else [])++(if c.hd=true then El (GU (names.drop j) (CY c.q c.ty (ks.map A6)))else DN ((CY c.q c.ty (ks.map A6)).map Bw))
 | [],j,h=>by
  rw[evK,if_neg (fun h=>h.2 rfl)]
  have e0:CY c.q c.ty (([]:List Nd).map A6)=[]:=rfl
  rw[e0]
  cases c.hd with
  | true=>rw[if_pos rfl];unfold GU;rw[List.zipWith_nil_right];rfl
  | false=>rfl
 | k::ks,j,h=>by
  have ih:=Qz c names ks (j+1) (fun h2=>by have:=h h2;rw[List.length_cons]at this;omega)
  rw[if_neg (fun h=>by omega),List.nil_append]at ih
  rw[evK,ih]
  unfold evC
  have e1:(CY c.q c.ty ((k::ks).map A6))=DI c.ty (BE c.q (A6 k)) (txt c.q (A6 k))::CY c.q c.ty (ks.map A6):=rfl
  rw[e1,List.append_assoc]
  have e2:(if j=0/\(k::ks)≠ []then [if c.hd=true then Ev.ms else Ev.ls]else [])=(if j=0 then [if c.hd=true then Ev.ms else Ev.ls]else []):=by
   by_cases h0:j=0
   ·rw[if_pos h0,if_pos ⟨h0,by simp⟩]
   ·rw[if_neg h0,if_neg (fun h=>h0 h.1)]
  rw[e2]
  congr 1
  cases hh:c.hd with
  | false=>
   rw[if_neg (by decide),if_neg (by decide),if_neg (by decide),List.map_cons,DN,N8 (Ou ..)]
   rfl
  | true=>
   have hl:=h hh
   rw[List.length_cons]at hl
   have hj:j<names.length:=by omega
   rw[if_pos rfl,if_pos rfl,if_pos rfl,List.drop_eq_getElem_cons hj]
   unfold GU
   rw[List.zipWith_cons_cons,El,N8 (Ou ..),List.getD_eq_getElem?_getD,List.getElem?_eq_getElem hj]
   simp
theorem UR {c:SC} {rs:List Nd} {W:Nat} (hW:1<=W) (hw:∀r,r∈rs->(AC r).length=W):evV (CS (Ej c.q c.hd c.ty (BX rs)))=[Ev.ls]++(evD c rs++[Ev.le]):=by
 rw[Sd]
 congr 2
 unfold evD BX
 have hne:∀r,r∈rs->AC r≠ []:=fun r hr h=>by
  have:=hw r hr
  rw[h,List.length_nil]at this
  omega
 cases hh:c.hd with
 | false=>
  rw[EI,N7,List.flatMap_map,if_neg (by decide)]
  refine Km fun r hr=>?_
  rw[Qz c _ _ 0 (fun h=>by rw[hh]at h;cases h),if_pos ⟨rfl,hne r hr⟩,hh,Sd]
  simp
 | true=>
  cases rs with
  | nil=>rfl
  | cons r0 t=>
   rw[if_pos rfl]
   show DN (((t.map fun r=>(AC r).map A6)).map fun r=>RH (((AC r0).map A6).map (txt c.q)) (CY c.q c.ty r))=_
   have hn:CZ c (r0::t)=((AC r0).map A6).map (txt c.q):=by
    unfold CZ Er
    rw[if_pos hh]
    simp
   rw[N7,List.flatMap_map,List.tail_cons,hn]
   refine Km fun r hr=>?_
   have hlen:(((AC r0).map A6).map (txt c.q)).length=(AC r).length:=by
    rw[List.length_map,List.length_map,hw r0 (.head _),hw r (.tail _ hr)]
   rw[Qz c _ _ 0 (fun _=>by omega),if_pos ⟨rfl,hne r (.tail _ hr)⟩,hh,List.drop_zero]
   unfold RH
   rw[evV_map]
   simp[GU]
end
section
theorem UL {parts:TV} {ps:List B8} (hp:Rd 1 parts ps.length (ps.map TV.str)) (st:St) {j:Nat} (hj:j<ps.length):Ac st [] (.t (ixT 1 parts ((j:Nat):Int).toNat)) 0=some (.str (ps.getD j [])):=by
 rw[Int.toNat_natCast,hp.ld st j 0 (by simp;exact hj)]
 simp[List.getD_eq_getElem?_getD,hj]
theorem Nt {ps:List B8} {j:Nat} (hj:j<ps.length):((ps.take (j+1)).flatten).length=((ps.take j).flatten).length+(ps.getD j []).length:=Pp ps j hj
theorem NW {ps:List B8} {M:Nat} (hb:∀s,s∈ps->s.length<=M):∀j,((ps.take j).flatten).length<=j*M:=by
 intro j
 induction j with
 | zero=>simp
 | succ j ih=>
  rw[Nat.succ_mul]
  by_cases hj:j<ps.length
  ·rw[Nt hj]
   have:ps.getD j []∈ps:=by
    rw[List.getD_eq_getElem?_getD,List.getElem?_eq_getElem hj];exact List.getElem_mem hj
   have:=hb _ this
   omega
  ·rw[List.take_of_length_le (by omega)]
   rw[List.take_of_length_le (by omega)]at ih
   omega
theorem S3 {parts:TV} {ps:List B8} (hp:Rd 1 parts ps.length (ps.map TV.str)) (hb:∀s,s∈ps->s.length<=140737488351232) {st:St} {K:Bool->St->Prop} (hk:∀r:Bool,(r=true->ps.length<=60/\ps.flatten.length<=1500)->K r st):
  Ad PR Dj [parts] [.one .bool] st K:=by
 refine In parts st K ⟨fun n i p st'=>p=parts/\st'=st/\∃j:Nat,i=j/\j<=ps.length/\j<=61/\n=((ps.take j).flatten.length:Int),fun _ i _ _=>61-i.toNat,⟨rfl,rfl,0,rfl,Nat.zero_le _,by omega,by simp⟩,?_⟩
 rintro n i p st' ⟨rfl,rfl,j,rfl,hj,hj2,rfl⟩
 have fin:(j=ps.length∨j=61)->need (isSl p) (BIf (decide ((lenS p:Int)<=60)) (K (decide (((ps.take j).flatten.length:Int)<=1500)) st') (K false st')):=fun h=>by
  refine Ab hp.isSl (Aa (fun g=>hk _ fun h2=>?_) fun g=>hk false fun h=>by cases h)
  rw[hp.lenS]at g
  have h2:=of_decide_eq_true h2
  have hjl:j=ps.length:=by omega
  rw[hjl,List.take_of_length_le (Nat.le_refl _)]at h2
  exact⟨by omega,by omega⟩
 refine Ab hp.isSl (Aa (fun g=>Aa (fun g2=>?_) fun g2=>fin (.inr (by omega))) fun g=>fin (.inl (by rw[hp.lenS]at g;omega)))
 rw[hp.lenS]at g
 have hj1:j<ps.length:=by omega
 refine⟨⟨by omega,by rw[hp.lenZ];omega⟩,Ae (UL hp st' hj1) (AB ?_)⟩
 have hb1:=NW hb j
 have hb2:=NW hb (j+1)
 have hs:=Nt hj1
 have e1:i64.wrap (((ps.take j).flatten.length:Int)+((ps.getD j []).length:Int))=(((ps.take (j+1)).flatten.length:Nat):Int):=by
  rw[Al _ (by omega) (by omega)];omega
 have e2:i64.wrap ((j:Int)+1)=((j+1:Nat):Int):=by rw[Al _ (by omega) (by omega)];omega
 rw[e1,e2]
 refine⟨⟨rfl,rfl,j+1,rfl,hj1,by omega,rfl⟩,?_⟩
 show 61-Int.toNat _<61-Int.toNat _
 omega
theorem VO {parts:TV} {ps:List B8} (hp:Rd 1 parts ps.length (ps.map TV.str)) (hl:ps.length<=60/\ps.flatten.length<=1500) {st:St} {K:B8->St->Prop} (hk:K ps.flatten st):
  Ad PR Du [parts] [.one .str] st K:=by
 refine Ix parts st K ⟨fun s i p st'=>p=parts/\st'=st/\∃j:Nat,i=j/\j<=ps.length/\s=(ps.take j).flatten,fun _ i _ _=>ps.length-i.toNat,⟨rfl,rfl,0,rfl,Nat.zero_le _,by simp⟩,?_⟩
 rintro s i p st' ⟨rfl,rfl,j,rfl,hj,rfl⟩
 refine Ab hp.isSl (Aa (fun g=>?_) fun g=>?_)
 ·rw[hp.lenS]at g
  have hj1:j<ps.length:=by omega
  refine⟨⟨by omega,by rw[hp.lenZ];omega⟩,Ae (UL hp st' hj1) (AB ?_)⟩
  have hs:=Nt hj1
  have hle:=NX ps (j+1)
  have e2:i64.wrap ((j:Int)+1)=((j+1:Nat):Int):=by rw[Al _ (by omega) (by omega)];omega
  rw[e2]
  refine⟨by omega,⟨rfl,rfl,j+1,rfl,hj1,?_⟩,?_⟩
  ·rw[DE _ _ [] hj1];simp
  ·show ps.length-Int.toNat _<ps.length-Int.toNat _
   omega
 ·rw[hp.lenS]at g
  rw[List.take_of_length_le (by omega)];exact hk
section
variable {a q:Int} {hd ty:Bool} {st:St}
theorem SD {s:B8} {l0 l1 l2 l3 l4:Int} (hl:s.length<=70000) {K:Int->Int->St->Prop}
  (hk:∀st',AN st st'->K (if l2<s.length then 0 else if A5 s≠s.length then(A5 s:Int)else 0) (if l2<s.length then 10 else if A5 s≠s.length then 5 else 0) st'):
  Ad PR CK [.str s,.agg [.int .i64 l0,.int .i64 l1,.int .i64 l2,.int .i64 l3,.int .i64 l4]] [.one (.int .i64),.one (.int .i64)] st K:=by
 have hv:=Ng s
 refine Hg s l0 l1 l2 l3 l4 st K (Aa (fun g=>?_) fun g=>UJ (by omega) fun st1 e1=>Aa (fun g2=>?_) fun g2=>?_)
 ·have:=hk st (AN.refl st)
  rw[if_pos g,if_pos g]at this;exact this
 ·have:=hk st1 e1
  rw[if_neg g,if_neg g,if_pos (by omega),if_pos (by omega)]at this;exact this
 ·have:=hk st1 e1
  rw[if_neg g,if_neg g,if_neg (by omega),if_neg (by omega)]at this;exact this
theorem WT {l0 l1 l2 l3 l4 win:Int} {K:Int->St->Prop} (hk0:¬Fk a q l0 l1 l2 l3 l4 win->K 1 st) (hk1:Fk a q l0 l1 l2 l3 l4 win->K 0 st):
  Ad PR DL [.agg [.int .u8 a,.int .u8 q,.bool hd,.bool ty],.agg [.int .i64 l0,.int .i64 l1,.int .i64 l2,.int .i64 l3,.int .i64 l4],.int .i64 win] [.one (.int .i64)] st K:=by
 refine Jw a q hd ty l0 l1 l2 l3 l4 win st K (NG (Ar (fun g2=>?_) fun g2=>ND (Ar (fun g3=>?_) fun g3=>?_)))
 ·have g2':=(Bool.not_eq_true' _).mp g2
  exact hk0 fun h=>by rw[h.2.1]at g2';cases g2'
 ·have g3':=(Bool.not_eq_true' _).mp g3
  exact hk0 fun h=>by rw[h.2.2]at g3';cases g3'
 have g2':=(Bool.not_eq_false' _).mp g2
 have g3':=(Bool.not_eq_false' _).mp g3
 refine Aa (fun g=>hk0 fun h=>by have:=h.1.1;omega) fun g=>Aa (fun g1=>hk0 fun h=>by have:=h.1.2;omega) fun g1=>hk1 ⟨⟨by omega,by omega⟩,g2',g3'⟩
end
end
section
theorem wr1 {k:Nat} (h:k<=100000000):i64.wrap ((k:Int)+1)=((k+1:Nat):Int):=by rw[Al _ (by omega) (by omega)];omega
theorem wr2 {k:Nat} (h:k<=100000000):i64.wrap ((k:Int)+2)=((k+2:Nat):Int):=by rw[Al _ (by omega) (by omega)];omega
theorem wrS {k i:Nat} (h:k<=100000000) (hi:i<=k):i64.wrap ((k:Int)-(i:Int))=((k-i:Nat):Int):=by rw[Al _ (by omega) (by omega)];omega
theorem wrA {k i:Nat} (h:k+i<=100000000):i64.wrap ((k:Int)+(i:Int))=((k+i:Nat):Int):=by rw[Al _ (by omega) (by omega)];omega
section
variable {c:SC} {hd ty:Bool} {st:St}
theorem VS {s:B8} {i k:Nat} (hq:¬(i<s.length/\by_ s i=c.q)) (h:PE c.a c.q s i=PE c.a c.q s k) (hk:k<=s.length) (hst:s.length<=k∨by_ s k=c.a∨by_ s k=c.q∨by_ s k=10∨by_ s k=13):exE c s i=k:=by
 unfold exE Be
 rw[if_neg hq,h]
 by_cases hl:s.length<=k
 ·rw[HT hl]
 by_cases h1:by_ s k=c.a∨by_ s k=10∨by_ s k=13
 ·rw[HS (by omega) h1]
 ·have hq2:by_ s k=c.q:=by
   rcases hst with h | h | h | h | h
   ·omega
   ·exact absurd (.inl h) h1
   ·exact h
   ·exact absurd (.inr (.inl h)) h1
   ·exact absurd (.inr (.inr h)) h1
  rw[Lr (by omega) h1 hq2]
theorem Sa {s:B8} (hl:s.length<=70000) {i:Nat} (hi:i<=s.length) {K:Int->St->Prop} (hk:K ((exE c s i-i:Nat):Int) st):
  Ad PR CL [.str s,.agg [.int .u8 c.a,.int .u8 c.q,.bool hd,.bool ty],.int .i64 (i:Int)] [.one (.int .i64)] st K:=by
 have pl:¬(i<s.length/\by_ s i=c.q)->∀k:Nat,k<=s.length->i<=k->PE c.a c.q s i=PE c.a c.q s k->(s.length<=k∨by_ s k=c.a∨by_ s k=c.q∨by_ s k=10∨by_ s k=13)->K (i64.wrap ((k:Int)-(i:Int))) st:=fun hq k h1 h2 h3 h4=>by
  rw[wrS (by omega) h2,<-VS hq h3 h1 h4];exact hk
 have tn:∀k:Nat,Int.toNat (k:Int)=k:=fun k=>rfl
 have loop:¬(i<s.length/\by_ s i=c.q)->∀(I:Int->B8->Int->Int->Int->Bool->Bool->St->Prop) (M:Int->B8->Int->Int->Int->Bool->Bool->St->Nat),True:=fun _ _ _=>trivial
 refine Hi s c.a c.q hd ty i st K (Aa (fun g=>⟨⟨by omega,g⟩,Aa (fun g2=>?_) fun g2=>?_⟩) fun g=>?_)
 ·rw[tn]at g2
  have hq:i<s.length/\by_ s i=c.q:=⟨by omega,g2⟩
  have hex:exE c s i=match QE c.q s (i+1)with | some e=>e | none=>s.length:=by
   unfold exE Be
   rw[if_pos hq]
   cases QE c.q s (i+1)<;>rfl
  refine⟨fun k s1 a1 n1 n2 b1 b2 st'=>s=s1/\(i:Int)=a1/\c.a=n1/\c.q=n2/\st=st'/\∃j:Nat,k=j/\i<j/\j<=s.length/\QE c.q s (i+1)=QE c.q s j,fun k _ _ _ _ _ _ _=>s.length-k.toNat,⟨rfl,rfl,rfl,rfl,rfl,i+1,wr1 (by omega),by omega,by omega,rfl⟩,?_⟩
  rintro _ _ _ _ _ b1 b2 _ ⟨rfl,rfl,rfl,rfl,rfl,j,rfl,hij,hj,hQ⟩
  refine Aa (fun g3=>⟨⟨by omega,g3⟩,?_⟩) fun g3=>?_
  ·rw[tn,wr1 (by omega),wr2 (by omega),tn]
   refine Aa (fun g4=>⟨⟨rfl,rfl,rfl,rfl,rfl,j+1,rfl,by omega,by omega,?_⟩,?_⟩) fun g4=>?_
   ·rw[hQ,Lp (by omega) g4]
   ·show s.length-(j+1)<s.length-j;omega
   have g4:by_ s j=c.q:=Decidable.not_not.1 g4
   have last:(j+1<s.length->by_ s (j+1)≠c.q)->K (i64.wrap (((j+1:Nat):Int)-(i:Int))) st:=fun h=>by
    rw[wrS (by omega) (by omega)]
    have:exE c s i=j+1:=by rw[hex,hQ,Nb (by omega) g4 h]
    rw[<-this];exact hk
   refine Aa (fun g5=>⟨⟨by omega,g5⟩,Aa (fun g6=>⟨⟨rfl,rfl,rfl,rfl,rfl,j+2,rfl,by omega,by omega,?_⟩,?_⟩) fun g6=>last fun _=>g6⟩) fun g5=>last fun h=>by omega
   ·rw[hQ,Na (by omega) g4 g6]
   ·show s.length-(j+2)<s.length-j;omega
  ·rw[wrS (by omega) hi]
   have:exE c s i=s.length:=by rw[hex,hQ,OF (by omega)]
   rw[<-this];exact hk
 ·rw[tn]at g2
  have hq:¬(i<s.length/\by_ s i=c.q):=fun h=>g2 h.2
  refine⟨fun k s1 a1 n1 n2 b1 b2 st'=>s=s1/\(i:Int)=a1/\c.a=n1/\c.q=n2/\st=st'/\∃j:Nat,k=j/\i<=j/\j<=s.length/\PE c.a c.q s i=PE c.a c.q s j,fun k _ _ _ _ _ _ _=>s.length-k.toNat,⟨rfl,rfl,rfl,rfl,rfl,i,rfl,Nat.le_refl _,hi,rfl⟩,?_⟩
  rintro _ _ _ _ _ b1 b2 _ ⟨rfl,rfl,rfl,rfl,rfl,j,rfl,hij,hj,hP⟩
  have pl:=pl hq j hj hij hP
  refine Aa (fun g3=>⟨⟨by omega,g3⟩,Aa (fun g4=>⟨⟨by omega,g3⟩,Aa (fun g5=>⟨⟨by omega,g3⟩,Aa (fun g6=>⟨⟨by omega,g3⟩,Aa (fun g7=>?_) fun g7=>?_⟩) fun g6=>?_⟩) fun g5=>?_⟩) fun g4=>?_⟩) fun g3=>pl (.inl (by omega))
  ·rw[tn]at g4 g5 g6 g7
   rw[wr1 (by omega)]
   refine⟨⟨rfl,rfl,rfl,rfl,rfl,j+1,rfl,by omega,by omega,?_⟩,?_⟩
   ·rw[hP,Lq (by omega) (fun h=>h.elim g4 fun h=>h.elim g6 g7) g5]
   ·show s.length-(j+1)<s.length-j;omega
  ·exact pl (.inr (.inr (.inr (.inr (Decidable.not_not.1 g7)))))
  ·exact pl (.inr (.inr (.inr (.inl (Decidable.not_not.1 g6)))))
  ·exact pl (.inr (.inr (.inl (Decidable.not_not.1 g5))))
  ·exact pl (.inr (.inl (Decidable.not_not.1 g4)))
 ·have hq:¬(i<s.length/\by_ s i=c.q):=fun h=>by omega
  have pl:=pl hq i hi (Nat.le_refl _) rfl (.inl (by omega))
  refine⟨fun k s1 a1 n1 n2 b1 b2 st'=>s=s1/\(i:Int)=a1/\c.a=n1/\c.q=n2/\st=st'/\k=(i:Int),fun k _ _ _ _ _ _ _=>0,⟨rfl,rfl,rfl,rfl,rfl,rfl⟩,?_⟩
  rintro _ _ _ _ _ b1 b2 _ ⟨rfl,rfl,rfl,rfl,rfl,rfl⟩
  exact Aa (fun g3=>by omega) fun g3=>pl
def memI (m:Option Nat):Int:=match m with | none=> -1 | some k=>(k:Int)
theorem RU {s:B8} (hl:s.length<=70000) {K:Int->St->Prop} (hk:K (memI (C9 c s 0)) st):
  Ad PR BP [.str s,.agg [.int .u8 c.a,.int .u8 c.q,.bool hd,.bool ty],.int .i64 (c.win:Int)] [.one (.int .i64)] st K:=by
 have tn:∀k:Nat,Int.toNat (k:Int)=k:=fun k=>rfl
 refine Hh s c.a c.q hd ty c.win st K ⟨fun k s1 w1 n1 n2 b1 b2 st'=>s=s1/\(c.win:Int)=w1/\c.a=n1/\c.q=n2/\st=st'/\∃j:Nat,k=j/\j<=s.length/\C9 c s 0=C9 c s j,fun k _ _ _ _ _ _ _=>s.length-k.toNat,⟨rfl,rfl,rfl,rfl,rfl,0,rfl,Nat.zero_le _,rfl⟩,?_⟩
 rintro _ _ _ _ _ b1 b2 _ ⟨rfl,rfl,rfl,rfl,rfl,j,rfl,hj,hM⟩
 have none_:C9 c s j=none->K (-1) st:=fun h=>by
  rw[hM,h]at hk;exact hk
 refine Aa (fun g=>?_) fun g=>none_ (G6 (by omega))
 obtain⟨x1,x2⟩:=Qy (c:=c) (s:=s) (i:=j) hj
 have hstep:=EL (c:=c) (s:=s) (i:=j) (by omega)
 refine Sa hl hj (Aa (fun g2=>?_) fun g2=>?_)
 ·rw[if_pos (by omega)]at hstep
  rw[hM,hstep]at hk;exact hk
 rw[if_neg (by omega)]at hstep
 have e1:i64.wrap ((j:Int)+((exE c s j-j:Nat):Int))=((exE c s j:Nat):Int):=by rw[wrA (by omega)];congr 1;omega
 rw[e1,wr1 (by omega),wr2 (by omega),tn,tn]
 generalize exE c s j=e at*
 have hem:e<j+1->False∨True:=fun _=> .inr trivial
 refine Aa (fun g3=>none_ ?_) fun g3=>⟨⟨by omega,by omega⟩,Aa (fun g4=>Aa (fun g5=>none_ ?_) fun g5=>?_) fun g4=>⟨⟨by omega,by omega⟩,Aa (fun g5=>?_) fun g5=>⟨⟨by omega,by omega⟩,Aa (fun g6=>Aa (fun g7=>⟨⟨by omega,g7⟩,Aa (fun g8=>?_) fun g8=>none_ ?_⟩) fun g7=>none_ ?_) fun g6=>none_ ?_⟩⟩⟩
 ·rw[hstep,if_neg (by omega),Eg (fun h=>by omega) (fun h=>by omega)]
 ·rw[hstep,if_pos ⟨by omega,g4⟩,G6 (by omega)]
 ·refine⟨⟨rfl,rfl,rfl,rfl,rfl,e+1,rfl,by omega,?_⟩,?_⟩
  ·rw[hM,hstep,if_pos ⟨by omega,g4⟩]
  ·show s.length-(e+1)<s.length-j;omega
 ·refine⟨⟨rfl,rfl,rfl,rfl,rfl,e+1,rfl,by omega,?_⟩,?_⟩
  ·rw[hM,hstep,if_neg (fun h=>g4 h.2)]
   unfold MS
   rw[if_pos ⟨by omega,g5⟩]
  ·show s.length-(e+1)<s.length-j;omega
 ·refine⟨⟨rfl,rfl,rfl,rfl,rfl,e+2,rfl,by omega,?_⟩,?_⟩
  ·rw[hM,hstep,if_neg (fun h=>g4 h.2)]
   unfold MS
   rw[if_neg (fun h=>g5 h.2),if_pos ⟨by omega,g6,g8⟩]
  ·show s.length-(e+2)<s.length-j;omega
 ·rw[hstep,if_neg (fun h=>g4 h.2),Eg (fun h=>g5 h.2) (fun h=>g8 h.2.2)]
 ·rw[hstep,if_neg (fun h=>g4 h.2),Eg (fun h=>g5 h.2) (fun h=>by omega)]
 ·rw[hstep,if_neg (fun h=>g4 h.2),Eg (fun h=>g5 h.2) (fun h=>g6 h.2.1)]
end
end
def Ev.kind:Ev->Int | .ls=>2 | .le=>3 | .ms=>4 | .me=>5 | .key _=>6 | .val _=>1
def Ev.ky:Ev->B8 | .key k=>k | _=>[]
def Ev.sc:Ev->Sc | .val s=>s | _=>scZ
def EvR (st:St) (e:Ev) (cs:List TV):Prop:=∃ub ul uf,cs= .int .i64 e.kind:: .str e.ky::Bk e.sc ub ul uf/\VlR st (Bw e.sc) (Bk e.sc ub ul uf)
def En (st:St):List Ev->List TV->Prop
 | [],xs=>xs=[]
 | e::r,xs=>∃a b,xs=a++b/\EvR st e a/\En st r b
theorem EvR.len {st:St} {e:Ev} {cs:List TV} (h:EvR st e cs):cs.length=15:=by
 obtain⟨ub,ul,uf,rfl,_⟩:=h;rfl
theorem EvR.keep {st st':St} (k:He st st') {e:Ev} {cs:List TV} (h:EvR st e cs):EvR st' e cs:=by
 obtain⟨ub,ul,uf,h1,h2⟩:=h
 exact⟨ub,ul,uf,h1,h2.keep k⟩
theorem En.keep {st st':St} (k:He st st'):∀{l:List Ev} {xs:List TV},En st l xs->En st' l xs
 | [],xs,h=>h
 | e::r,xs,⟨a,b,h1,h2,h3⟩=>⟨a,b,h1,h2.keep k,h3.keep k⟩
theorem En.app {st:St}:∀{l m:List Ev} {xs ys:List TV},En st l xs->En st m ys->En st (l++m) (xs++ys)
 | [],m,xs,ys,h,hm=>by
  have h:xs=[]:=h
  subst h;exact hm
 | e::r,m,xs,ys,⟨a,b,h1,h2,h3⟩,hm=>⟨a,b++ys,by rw[h1,List.append_assoc],h2,h3.app hm⟩
theorem En.one {st:St} {e:Ev} {cs:List TV} (h:EvR st e cs):En st [e] cs:=⟨cs,[],by rw[List.append_nil],h,rfl⟩
theorem En.len {st:St}:∀{l:List Ev} {xs:List TV},En st l xs->xs.length=l.length*15
 | [],xs,h=>by
  have h:xs=[]:=h
  subst h;rfl
 | e::r,xs,⟨a,b,h1,h2,h3⟩=>by rw[h1,List.length_append,h2.len,h3.len,List.length_cons];omega
theorem DW (st:St) (e:Ev) (h:e.sc=scZ) (hk:∀s,e≠.val s):EvR st e (evT e):=by
 have hz:VlR st (Bw scZ) (Bk scZ .nilSlice .nilSlice .nilSlice):=SQ st scZ rfl
 cases e<;>first | exact⟨_,_,_,rfl,hz⟩ | exact absurd rfl (hk _)
theorem evR_val (st:St) (s:Sc) (h:s.bytes=[]):EvR st (.val s) (evT (.val s)):=⟨_,_,_,rfl,SQ st s h⟩
def NoB (l:List Ev):Prop:=∀s,Ev.val s∈l->s.bytes=[]
theorem Ps (st:St):∀{l:List Ev},NoB l->En st l (Ek l)
 | [],h=>rfl
 | e::r,h=>by
  refine⟨evT e,Ek r,rfl,?_,Ps st fun s hs=>h s (.tail _ hs)⟩
  cases e with
  | val s=>exact evR_val st s (h s (.head _))
  | ls=>exact DW st _ rfl fun s h=>by cases h
  | le=>exact DW st _ rfl fun s h=>by cases h
  | ms=>exact DW st _ rfl fun s h=>by cases h
  | me=>exact DW st _ rfl fun s h=>by cases h
  | key k=>exact DW st _ rfl fun s h=>by cases h
theorem VlR.leaf {st:St} {s:Sc} {ub ul uf:TV} (h:VlR st (Bw s) (Bk s ub ul uf)):Aq ub=true/\Aq ul=true/\Aq uf=true:=by
 obtain⟨ub',ul',uf',xl,xf,e,h1,h2,_,h4,_⟩:=h.cells
 have e:Bk s ub ul uf=Bk s ub' ul' uf':=e
 unfold Bk at e
 simp only[List.cons.injEq,and_true,true_and]at e
 obtain⟨rfl,rfl,rfl⟩:=e
 exact⟨h1.one,h2.one,h4.one⟩
theorem EvR.ones {st:St} {e:Ev} {cs:List TV} (h:EvR st e cs):List.all cs Aq=true:=by
 obtain⟨ub,ul,uf,rfl,h2⟩:=h
 obtain⟨h1,h2,h3⟩:=h2.leaf
 show(_&&(_&&List.all (Bk e.sc ub ul uf) Aq))=true
 unfold Bk
 rw[Ef h1 h2 h3];rfl
theorem En.ones {st:St}:∀{l:List Ev} {xs:List TV},En st l xs->List.all xs Aq=true
 | [],xs,h=>by
  have h:xs=[]:=h
  subst h;rfl
 | e::r,xs,⟨a,b,h1,h2,h3⟩=>by rw[h1,List.all_append,h2.ones,h3.ones];rfl
theorem En.get {st:St}:∀{l:List Ev} {xs:List TV} {i:Nat} {e:Ev},En st l xs->l[i]? =some e->EvR st e ((xs.drop (i*15)).take 15)
 | [],xs,i,e,h,hi=>by simp at hi
 | d::r,xs,0,e,⟨a,b,h1,h2,h3⟩,hi=>by
  simp only[List.getElem?_cons_zero,Option.some.injEq]at hi
  subst hi
  rw[h1,Nat.zero_mul,List.drop_zero,List.take_append_of_le_length (by rw[h2.len];exact Nat.le_refl _),List.take_of_length_le (by rw[h2.len];exact Nat.le_refl _)]
  exact h2
 | d::r,xs,i+1,e,⟨a,b,h1,h2,h3⟩,hi=>by
  have:=En.get h3 (i:=i) (e:=e) (by simpa using hi)
  rw[h1,Nat.succ_mul,Nat.add_comm,<-List.drop_drop,List.drop_append_of_le_length (by rw[h2.len];exact Nat.le_refl _),List.drop_of_length_le (l:=a) (by rw[h2.len];exact Nat.le_refl _),List.nil_append]
  exact this
theorem ev_ld {st:St} {u:TV} {xs:List TV} {l:List Ev} (hr:Rd 15 u l.length xs) (hx:En st l xs) {i:Nat} {e:Ev} (hi:l[i]? =some e):
  (0<=((i:Nat):Int)/\((i:Nat):Int)<(lenZ 15 u:Int))/\isPtr (ixT 15 u ((i:Nat):Int).toNat)=true/\(∀st1,Ac st1 [] (.t (Af (ixT 15 u ((i:Nat):Int).toNat) 0)) 0=some (.int .i64 e.kind))/\(∀st1,Ac st1 [] (.t (Af (ixT 15 u ((i:Nat):Int).toNat) 1)) 0=some (.str e.ky))/\
  ∃ub ul uf,VlR st (Bw e.sc) (Bk e.sc ub ul uf)/\∀st1,(Av st1 [] (.t (Af (ixT 15 u ((i:Nat):Int).toNat) 2)) 0 13).map TV.agg=some (.agg (Bk e.sc ub ul uf)):=by
 have hlt:=(List.getElem?_eq_some_iff.1 hi).1
 have hlen:=hx.len
 obtain⟨ub,ul,uf,hcs,hv⟩:=hx.get hi
 rw[Int.toNat_natCast]
 have hat:∀k x,k<15->(TV.int .i64 e.kind::TV.str e.ky::Bk e.sc ub ul uf)[k]? =some x->xs[i*15+k]? =some x:=fun k x hk h=>by
  rw[<-hcs,List.getElem?_take,if_pos hk,List.getElem?_drop]at h
  exact h
 refine⟨⟨by omega,by rw[hr.lenZ];omega⟩,(SlR.of_rd (st:=st) hr).isPtr hlt,fun st1=>hr.ldfx st1 i 0 (hat 0 _ (by decide) rfl),fun st1=>hr.ldfx st1 i 1 (hat 1 _ (by decide) rfl),ub,ul,uf,hv,fun st1=>?_⟩
 rw[(SlR.of_rd (st:=st1) hr).ldcf (f:=2) (m:=13) hlen hlt (by omega)]
 have e1:(xs.drop (i*15+2)).take 13=Bk e.sc ub ul uf:=by
  have:=congrArg (fun z=>(z.drop 2).take 13) hcs
  simp only[List.drop_take,List.drop_drop]at this
  rw[List.take_take]at this
  simpa [Bk]using this
 rw[e1];rfl
theorem O4 {u v:TV} {xs ys:List TV} {l:List Ev} {st:St} (hu:Rd 15 u l.length xs) (hx:En st l xs) (hv:Rd 15 v l.length ys) (hy:En st l ys) (hsz:∀e,e∈l->(Bw e.sc).sz<=2000000) (hl:l.length<=100000000) {K:Bool->St->Prop} (hk:K true st):
  Ad PR Cl [u,v] [.one .bool] st K:=by
 refine ID u v st K (Ab hu.isSl (Ab hv.isSl (Aa (fun g=>by rw[hu.lenS,hv.lenS]at g;exact absurd rfl g) fun _=>?_)))
 refine⟨fun i a b st'=>a=u/\b=v/\st'=st/\∃j:Nat,i=j/\j<=l.length,fun i _ _ _=>l.length-i.toNat,⟨rfl,rfl,rfl,0,rfl,Nat.zero_le _⟩,?_⟩
 rintro _ _ _ _ ⟨rfl,rfl,rfl,j,rfl,hj⟩
 refine Ab hu.isSl (Aa (fun g=>?_) fun g=>hk)
 rw[hu.lenS]at g
 obtain⟨e,he⟩:∃e,l[j]? =some e:=⟨_,List.getElem?_eq_getElem (by omega)⟩
 obtain⟨a1,a2,a3,a4,ub,ul,uf,a5,a6⟩:=ev_ld hu hx he
 obtain⟨b1,b2,b3,b4,vb,vl,vf,b5,b6⟩:=ev_ld hv hy he
 have hz:=hsz e (List.mem_of_getElem? he)
 refine⟨a1,Ab a2 (Ae (a3 _) (Am ⟨b1,Ab b2 (Ae (b3 _) (Am (Aa (fun g=>absurd rfl g) fun _=>⟨a1,Ab a2 (Ae (a4 _) (AB ⟨b1,Ab b2 (Ae (b4 _) (AB (Aa (fun g=>absurd rfl g) fun _=>⟨a1,Ab a2 (Ae (a6 _) (QD ⟨b1,Ab b2 (Ae (b6 _) (QD ?_))⟩))⟩)))⟩))⟩)))⟩))⟩
 refine Same_ok 2000000 (Bw e.sc) (Bw e.sc) hz hz (Nat.le_refl _) a5 b5 ⟨Nat.le_refl _,fun _ _=>rfl⟩ fun r hr=>?_
 rw[hr.2 rfl]
 refine⟨b4 _,a4 _,b3 _,a3 _,Ar (fun g=>by cases g) fun _=>?_⟩
 rw[wr1 (by omega)]
 refine⟨⟨rfl,rfl,rfl,j+1,rfl,by omega⟩,?_⟩
 show l.length-(j+1)<l.length-j
 omega
section
mutual
def TrE:Vl->Prop
 | .mk s l f=>((s.kind<6/\l=[]/\f=[]/\s.bytes=[])∨(s.kind=6/\f=[])∨(s.kind=7/\l=[]))/\JF l/\JG f
def JF:List Vl->Prop
 | []=>True
 | v::r=>TrE v/\JF r
def JG:List Fd->Prop
 | []=>True
 | .mk k v::r=>TrE v/\JG r
end
theorem JF.get:∀{l:List Vl} {i:Nat} {v:Vl},JF l->l[i]? =some v->TrE v
 | [],i,v,h,hi=>by simp at hi
 | w::r,0,v,h,hi=>by simp only[List.getElem?_cons_zero,Option.some.injEq]at hi;subst hi;unfold JF at h;exact h.1
 | w::r,i+1,v,h,hi=>by unfold JF at h;exact JF.get h.2 (by simpa using hi)
theorem JG.get:∀{l:List Fd} {i:Nat} {k:B8} {v:Vl},JG l->l[i]? =some (.mk k v)->TrE v
 | [],i,k,v,h,hi=>by simp at hi
 | .mk k' w::r,0,k,v,h,hi=>by simp only[List.getElem?_cons_zero,Option.some.injEq]at hi;cases hi;unfold JG at h;exact h.1
 | .mk k' w::r,i+1,k,v,h,hi=>by unfold JG at h;exact JG.get h.2 (by simpa using hi)
mutual
theorem Jt:∀v:Vl,(evV v).length+1<=3*v.sz
 | .mk s l f=>by
  have h1:=Ld l
  have h2:=Oa f
  rw[szs]
  unfold evV
  split
  ·simp only[List.length_singleton];omega
  ·simp only[List.length_append,List.length_singleton];omega
theorem Ld:∀l:List Vl,(DN l).length<=3*Cw l
 | []=>by simp[DN,Cw]
 | v::r=>by
  have h1:=Jt v
  have h2:=Ld r
  simp only[DN,Cw,List.length_append];omega
theorem Oa:∀l:List Fd,(El l).length<=3*DJ l
 | []=>by simp[El,DJ]
 | .mk k v::r=>by
  have h1:=Jt v
  have h2:=Oa r
  simp only[El,DJ,szd,List.length_append,List.length_singleton];omega
end
theorem Pt {l:List Vl} {k:Nat} {w:Vl} (h:l[k]? =some w):DN (l.take (k+1))=DN (l.take k)++evV w:=by
 rw[List.take_add_one,h,Sb]
 simp[DN]
theorem Pw {l:List Fd} {k:Nat} {key:B8} {w:Vl} (h:l[k]? =some (.mk key w)):El (l.take (k+1))=El (l.take k)++([.key key]++evV w):=by
 rw[List.take_add_one,h,Sh]
 simp[El]
theorem OS (l:List Vl) (k:Nat):(DN (l.take k)).length<=3*Cw l:=by
 have h1:=Ld (l.take k)
 have h2:Cw (l.take k)<=Cw l:=by
  conv=>rhs;rw[<-List.take_append_drop k l,Wj]
  omega
 omega
theorem OU (l:List Fd) (k:Nat):(El (l.take k)).length<=3*DJ l:=by
 have h1:=Oa (l.take k)
 have h2:DJ (l.take k)<=DJ l:=by
  conv=>rhs;rw[<-List.take_append_drop k l,Xc]
  omega
 omega
theorem RL {st st':St} {u:TV} {xs:List TV} {l:List Ev} (hr:Rd 15 u l.length xs) (hx:En st l xs):BJ st' 15 u=some (l.length,xs):=hr.src hx.len st'
theorem Own.cast {b sz:Nat} {st:St} {v:TV} {n m:Nat} {xs:List TV} (h:Own b sz st v n xs) (e:n=m):Own b sz st v m xs:=e▸h
theorem VM {k:Int} (h:k=6∨k=7):i64.wrap (i64.wrap (k*2)-10)=(if k=6 then(2:Int)else 4)/\i64.wrap (i64.wrap (k*2)-9)=(if k=6 then(3:Int)else 5):=by
 rcases h with rfl | rfl<;>exact⟨by decide,by decide⟩
theorem evB {st:St} {k:Int} (h:k=6∨k=7):En st [if k=6 then Ev.ls else .ms] (.int .i64 (if k=6 then(2:Int)else 4):: .str []::Ir)/\En st [if k=6 then Ev.le else .me] (.int .i64 (if k=6 then(3:Int)else 5):: .str []::Ir):=by
 rcases h with rfl | rfl
 ·exact⟨.one (DW st .ls rfl fun s h=>by cases h),.one (DW st .le rfl fun s h=>by cases h)⟩
 ·exact⟨.one (DW st .ms rfl fun s h=>by cases h),.one (DW st .me rfl fun s h=>by cases h)⟩
theorem evK1 (st:St) (k:B8):En st [.key k] (.int .i64 6:: .str k::Ir):= .one (DW st (.key k) rfl fun s h=>by cases h)
theorem rOf_ok:∀(N:Nat) (v:Vl),v.sz<=N->N<=2000000->TrE v->∀{st:St} {cs:List TV} {K:TV->St->Prop},VlR St.zero v cs->
  (∀u xs st',AN st st'->Rd 15 u (evV v).length xs->En St.zero (evV v) xs->K u st')->Ad PR BB [.agg cs] [.one .tv] st K:=by
 intro N
 induction N with
 | zero=>intro v h;have:=v.sz_pos;omega
 | succ N ih=>
 intro v hN hN2 hT st cs K h hk
 have hlen:=Jt v
 cases v with
 | mk s l f=>
 have hsz:=szs s l f
 have hll:=KA l
 have hfl:=K9 f
 unfold TrE at hT
 obtain⟨hT1,hTl,hTf⟩:=hT
 obtain⟨ub,ul,uf,xl,xf,rfl,h1,h2,h3,h4,h5⟩:=h.cells
 have hk0:=hk
 refine Ka _ _ _ _ _ _ _ _ _ _ _ _ _ st K (Aa (fun g=>?_) fun g=>?_)
 ·obtain⟨_,rfl,rfl,hb⟩:s.kind<6/\l=[]/\f=[]/\s.bytes=[]:=by
   rcases hT1 with h | h | h
   ·exact h
   ·omega
   ·omega
  have e:evV (.mk s [] [])=[.val s]:=N8 g
  rw[e]at hk
  exact hk _ _ st (AN.refl _) (.inr ⟨.full,rfl⟩) (.one ⟨ub,ul,uf,rfl,h⟩)
 have hkk:s.kind=6∨s.kind=7:=by
  rcases hT1 with h | h | h
  ·omega
  ·exact .inl h.1
  ·exact .inr h.1
 have e:evV (.mk s l f)=[if s.kind=6 then .ls else .ms]++(DN l++(El f++[if s.kind=6 then .le else .me])):=by
  rw[evV,if_neg g]
 obtain⟨k1,k2⟩:=VM hkk
 obtain⟨b1,b2⟩:=evB (st:=St.zero) hkk
 generalize hB:(if s.kind=6 then Ev.ls else .ms)=B at*
 generalize hE:(if s.kind=6 then Ev.le else .me)=E at*
 rw[k1]
 refine⟨fun out i kA boA ngA dgA exA tkA tdA tnA tzA txA u0A u1A u2A st'=>s.kind=kA/\ul=u1A/\uf=u2A/\AN st st'/\∃(j:Nat) (xs:List TV),i=j/\j<=l.length/\Own st.nt 15 st' out ([B]++DN (l.take j)).length xs/\En St.zero ([B]++DN (l.take j)) xs,
  fun _ i _ _ _ _ _ _ _ _ _ _ _ _ _ _=>l.length-i.toNat,⟨rfl,rfl,rfl,AN.refl _,0,_,rfl,Nat.zero_le _,Own.full _ _ _ _ _,b1⟩,?_⟩
 rintro out _ _ boA ngA dgA exA tkA tdA tnA tzA txA u0A _ _ st1 ⟨rfl,rfl,rfl,e1,j,xs,rfl,hj,ho,hx⟩
 have t1:=OS l j
 refine Ab h2.isSl (Aa (fun g2=>?_) fun g2=>?_)
 ·rw[h2.lenS]at g2
  refine el13 (L0 _) h2 h3 rfl (by omega) fun s' l' f' ub1 ul1 uf1 gw hw on=>?_
  have hwsz:=KB gw
  have hwl:=Jt (.mk s' l' f')
  refine ih _ (by omega) (by omega) (hTl.get gw) hw fun u ys st2 e2 hu hy=>Ae (RL hu hy) (Ab hy.ones ?_)
  refine CV (e1.trans e2) rfl (ho.ext e2) ?_ (fun h=>?_) fun v' st3 e3 _ o3=>⟨⟨rfl,rfl,rfl,e3,j+1,_,wr1 (by omega),by omega,o3.cast ?_,?_⟩,?_⟩
  ·simp only[List.length_append,List.length_singleton];omega
  ·have h9:=hy.len
   have h8:∀z:List Ev,z.length=0->ys.length=z.length*15->ys=[]:=fun z a b=>List.eq_nil_of_length_eq_zero (by omega)
   exact h8 _ h h9
  ·rw[Pt gw];simp only[List.length_append];omega
  ·rw[Pt gw,<-List.append_assoc];exact hx.app hy
  ·rw[wr1 (by omega)];show l.length-(j+1)<l.length-j;omega
 rw[h2.lenS]at g2
 have hjl:l.take j=l:=List.take_of_length_le (by omega)
 rw[hjl]at ho hx
 refine⟨fun out i kA boA ngA dgA exA tkA tdA tnA tzA txA u0A u1A u2A st'=>s.kind=kA/\uf=u2A/\AN st st'/\∃(j:Nat) (xs:List TV),i=j/\j<=f.length/\Own st.nt 15 st' out ([B]++(DN l++El (f.take j))).length xs/\En St.zero ([B]++(DN l++El (f.take j))) xs,
  fun _ i _ _ _ _ _ _ _ _ _ _ _ _ _ _=>f.length-i.toNat,⟨rfl,rfl,e1,0,xs,rfl,Nat.zero_le _,by rw[List.take_zero,El,List.append_nil];exact ho,by rw[List.take_zero,El,List.append_nil];exact hx⟩,?_⟩
 rintro out _ _ boB ngB dgB exB tkB tdB tnB tzB txB u0B u1B _ st4 ⟨rfl,rfl,e4,m,xs,rfl,hm,ho,hx⟩
 have t2:=OU f m
 have t3:=Ld l
 refine Ab h4.isSl (Aa (fun g3=>?_) fun g3=>?_)
 ·rw[h4.lenS]at g3
  obtain⟨d,hd⟩:∃d,f[m]? =some d:=⟨_,List.getElem?_eq_getElem (by omega)⟩
  obtain⟨key,w⟩:=d
  have hwsz:=La hd
  rw[szd]at hwsz
  have hwl:=Jt w
  have hlt:m<f.length:=by omega
  refine⟨⟨by omega,by rw[h4.lenZ];omega⟩,Ab (h4.isPtr hlt) (Ae (R1 (L0 _) h4 h5 hd) (AB ?_))⟩
  refine CV e4 rfl ho (by simp only[List.length_append,List.length_singleton];omega) (fun h=>by cases h) fun v5 st5 e5 _ o5=>?_
  refine Wl (L0 _) h4 h5 rfl hlt fun key' s' l' f' ub1 ul1 uf1 gw hw on=>?_
  rw[hd]at gw
  cases gw
  refine ih _ (by omega) (by omega) (hTf.get hd) hw fun u ys st6 e6 hu hy=>Ae (RL hu hy) (Ab hy.ones ?_)
  refine CV (e5.trans e6) rfl (o5.ext e6) ?_ (fun h=>?_) fun v' st7 e7 _ o7=>⟨⟨rfl,rfl,e7,m+1,_,wr1 (by omega),by omega,o7.cast ?_,?_⟩,?_⟩
  ·simp only[List.length_append,List.length_singleton];omega
  ·have h9:=hy.len
   have h8:∀z:List Ev,z.length=0->ys.length=z.length*15->ys=[]:=fun z a b=>List.eq_nil_of_length_eq_zero (by omega)
   exact h8 _ h h9
  ·rw[Pw hd];simp only[List.length_append,List.length_singleton];omega
  ·rw[Pw hd,<-List.append_assoc,<-List.append_assoc,<-List.append_assoc]
   rw[<-List.append_assoc]at hx
   exact(hx.app (evK1 _ key)).app hy
  ·rw[wr1 (by omega)];show f.length-(m+1)<f.length-m;omega
 ·rw[h4.lenS]at g3
  have hml:f.take m=f:=List.take_of_length_le (by omega)
  rw[hml]at ho hx t2
  rw[k2]
  have e0:evV (.mk s l f)=([B]++(DN l++El f))++[E]:=by
   rw[e];simp only[List.append_assoc]
  refine CV e4 rfl ho (by simp only[List.length_append,List.length_singleton];omega) (fun h=>by cases h) fun v5 st5 e5 _ o5=>?_
  refine hk0 v5 _ st5 e5 ?_ (by rw[e0];exact hx.app b2)
  have o6:=o5.rd
  rw[e0]
  have e9:(([B]++(DN l++El f))++[E]).length=([B]++(DN l++El f)).length+1:=by rw[List.length_append,List.length_singleton]
  rw[e9];exact o6
end
section
mutual
theorem N9:∀v:Vl,TrE v->∀e,e∈evV v->e.sc.bytes=[]/\(Bw e.sc).sz<=v.sz
 | .mk s l f,hT,e,he=>by
  have hz:(Bw scZ).sz=1:=by rw[Wq];rfl
  have hs:=szs s l f
  unfold TrE at hT
  obtain⟨h1,h2,h3⟩:=hT
  unfold evV at he
  split at he
  ·rename_i hk
   obtain⟨_,rfl,rfl,hb⟩:s.kind<6/\l=[]/\f=[]/\s.bytes=[]:=by
    rcases h1 with h | h | h
    ·exact h
    ·omega
    ·omega
   rw[List.mem_singleton]at he
   subst he
   exact⟨hb,Nat.le_refl _⟩
  ·have flat:∀d:Ev,d.sc=scZ->d.sc.bytes=[]/\(Bw d.sc).sz<=(Vl.mk s l f).sz:=fun d h=>by rw[h,hz];exact⟨rfl,by omega⟩
   have hb:∀(p:Prop) [Decidable p] (x y:Ev),x.sc=scZ->y.sc=scZ->(if p then x else y).sc=scZ:=fun p _ x y hx hy=>by split<;>assumption
   rcases List.mem_append.1 he with he | he
   ·rw[List.mem_singleton]at he
    subst he
    exact flat _ (hb _ _ _ rfl rfl)
   rcases List.mem_append.1 he with he | he
   ·obtain⟨a,b⟩:=Pu l h2 e he
    exact⟨a,by omega⟩
   rcases List.mem_append.1 he with he | he
   ·obtain⟨a,b⟩:=Px f h3 e he
    exact⟨a,by omega⟩
   ·rw[List.mem_singleton]at he
    subst he
    exact flat _ (hb _ _ _ rfl rfl)
theorem Pu:∀l:List Vl,JF l->∀e,e∈DN l->e.sc.bytes=[]/\(Bw e.sc).sz<=Cw l
 | [],hT,e,he=>by unfold DN at he;cases he
 | v::r,hT,e,he=>by
  unfold JF at hT
  unfold DN at he
  unfold Cw
  rcases List.mem_append.1 he with he | he
  ·obtain⟨a,b⟩:=N9 v hT.1 e he
   exact⟨a,by omega⟩
  ·obtain⟨a,b⟩:=Pu r hT.2 e he
   exact⟨a,by omega⟩
theorem Px:∀l:List Fd,JG l->∀e,e∈El l->e.sc.bytes=[]/\(Bw e.sc).sz<=DJ l
 | [],hT,e,he=>by unfold El at he;cases he
 | .mk k v::r,hT,e,he=>by
  have hz:(Bw scZ).sz=1:=by rw[Wq];rfl
  unfold JG at hT
  unfold El at he
  unfold DJ
  rw[szd]
  have hp:=v.sz_pos
  rcases List.mem_append.1 he with he | he
  ·rw[List.mem_singleton]at he
   subst he
   show scZ.bytes=[]/\(Bw scZ).sz<=_
   rw[hz]
   exact⟨rfl,by omega⟩
  rcases List.mem_append.1 he with he | he
  ·obtain⟨a,b⟩:=N9 v hT.1 e he
   exact⟨a,by omega⟩
  ·obtain⟨a,b⟩:=Px r hT.2 e he
   exact⟨a,by omega⟩
end
theorem Re {s:Sc} (h:s.kind<6) (hb:s.bytes=[]):TrE (Bw s):=by
 unfold Bw TrE
 exact⟨.inl ⟨h,rfl,rfl,hb⟩,by unfold JF;trivial,by unfold JG;trivial⟩
theorem Rc {l:List Vl} (h:JF l):TrE (CS l):=by
 unfold CS TrE
 exact⟨.inr (.inl ⟨rfl,rfl⟩),h,by unfold JG;trivial⟩
theorem trE_map {f:List Fd} (h:JG f):TrE (P4 f):=by
 unfold P4 TrE
 exact⟨.inr (.inr ⟨rfl,rfl⟩),by unfold JF;trivial,h⟩
theorem KI {α:Type} {g:α->Vl}:∀{l:List α},(∀x,x∈l->TrE (g x))->JF (l.map g)
 | [],_=>by unfold List.map JF;trivial
 | x::r,h=>by
  rw[List.map_cons]
  unfold JF
  exact⟨h x (.head _),KI fun y hy=>h y (.tail _ hy)⟩
theorem Rb:∀(n:List B8) (r:List Sc),(∀s,s∈r->s.kind<6/\s.bytes=[])->JG (GU n r)
 | [],r,h=>by unfold GU;rw[List.zipWith_nil_left];unfold JG;trivial
 | k::n,[],h=>by unfold GU;rw[List.zipWith_nil_right];unfold JG;trivial
 | k::n,s::r,h=>by
  unfold GU
  rw[List.zipWith_cons_cons]
  unfold JG
  obtain⟨a,b⟩:=h s (.head _)
  exact⟨Re a b,Rb n r fun t ht=>h t (.tail _ ht)⟩
theorem LI (q:Int) (ty:Bool) (r:List B8):∀s,s∈CY q ty r->s.kind<6/\s.bytes=[]:=fun s hs=>by
 unfold CY at hs
 obtain⟨c,_,rfl⟩:=List.mem_map.1 hs
 exact⟨Ou ..,Jd ..⟩
theorem Uy (q:Int) (hd ty:Bool) (L:List (List B8)):TrE (CS (Ej q hd ty L)):=by
 refine Rc ?_
 cases hd with
 | false=>
  rw[EI]
  exact KI fun r _=>Rc (KI fun s hs=>Re (LI _ _ _ s hs).1 (LI _ _ _ s hs).2)
 | true=>
  cases L with
  | nil=>unfold Ej JF;trivial
  | cons h t=>exact KI fun r _=>trE_map (Rb _ _ (LI _ _ _))
section
variable {a q:Int} {hd ty:Bool} {l0 l1 l2 l3 l4 size:Int} {s:B8}
theorem Pv (hok:Fk a q l0 l1 l2 l3 l4 size) (hs:s.length<=70000):evR (D4 a q hd ty l0 l1 size) l2 s=
  if l2<s.length then .error (0,10)else if A5 s≠s.length then .error ((A5 s:Int),5)else match CA ⟨s,a,q,l0,l1⟩ hd l2 l3 l4 with
   | .error p=> .error (Jc p (C9 (D4 a q hd ty l0 l1 size) s 0))
   | .ok n=>match C9 (D4 a q hd ty l0 l1 size) s 0 with | some m=> .error ((m:Int),28) | none=> .ok (evV (CS (Ej q hd ty (BX (recsOf n))))):=by
 obtain⟨h1,h2,h3⟩:=hok
 unfold evR
 by_cases g1:l2<s.length
 ·rw[if_pos g1,if_pos g1]
 rw[if_neg g1,if_neg g1]
 by_cases g2:A5 s≠s.length
 ·rw[if_pos g2,if_pos g2]
 rw[if_neg g2,if_neg g2]
 have hP:CA ⟨s,a,q,l0,l1⟩ hd l2 l3 l4=match Em ⟨s,a,q,l0,l1⟩ hd (s.length+1) [] 0 1 [] 0 with | .error e=> .error e | .ok rs=> .ok (.mk 1 [] [] rs []):=by
  unfold CA
  rw[if_neg (by rw[h2];decide),if_neg (by rw[h3];decide),if_neg g1,if_neg g2]
  rfl
 have hc:Em (cxA (D4 a q hd ty l0 l1 size) s) (D4 a q hd ty l0 l1 size).hd (s.length+1) [] 0 1 [] 0=Em ⟨s,a,q,l0,l1⟩ hd (s.length+1) [] 0 1 [] 0:=rfl
 rw[hc]
 cases hD:Em ⟨s,a,q,l0,l1⟩ hd (s.length+1) [] 0 1 [] 0 with
 | error p=>rw[hD]at hP;rw[hP]
 | ok rs=>
  rw[hD]at hP
  rw[hP]
  have hU:=Gw hP
  obtain⟨htx,_,hou⟩:=NN hs hU
  obtain⟨rs',W,he,hT⟩:=Pa hou
  have he:Nd.mk 1 [] [] rs []= .mk 1 [] [] rs' []:=he
  cases he
  have hE:evV (CS (Ej q hd ty (BX rs)))=[Ev.ls]++(evD (D4 a q hd ty l0 l1 size) rs++[Ev.le]):=by
   cases rs with
   | nil=>exact UR (c:=D4 a q hd ty l0 l1 size) (rs:=[]) (W:=1) (Nat.le_refl _) fun r hr=>by cases hr
   | cons r t=>
    have hW:1<=W:=by
     have h4:=hT.wid r (.head _)
     obtain⟨ents,tail,hrE,hne,hents⟩:=hT.form r (.head _)
     have hke:AC r=ents:=by rw[hrE];rfl
     rw[<-h4,hke];exact hne
    exact UR (c:=D4 a q hd ty l0 l1 size) hW fun r' hr=>hT.wid r' hr
  show(match C9 (D4 a q hd ty l0 l1 size) s 0 with | some m=>_ | none=>_)=match C9 (D4 a q hd ty l0 l1 size) s 0 with | some m=>_ | none=>Except.ok (evV (CS (Ej q hd ty (BX rs))))
  rw[hE]
theorem Sf (hok:Fk a q l0 l1 l2 l3 l4 size) (hs:s.length<=1500) {es:List Ev} (h:evR (D4 a q hd ty l0 l1 size) l2 s= .ok es):es.length<=6000000/\(∀e,e∈es->(Bw e.sc).sz<=2000000)/\NoB es/\
  ∃rs,CA ⟨s,a,q,l0,l1⟩ hd l2 l3 l4= .ok (.mk 1 [] [] rs [])/\es=evV (CS (Ej q hd ty (BX rs)))/\(CS (Ej q hd ty (BX rs))).sz<=1600000:=by
 rw[Pv (l3:=l3) (l4:=l4) hok (by omega)]at h
 split at h
 ·cases h
 split at h
 ·cases h
 split at h
 ·cases h
 ·rename_i n hP
  split at h
  ·cases h
  ·cases h
   obtain⟨rs,rfl,_⟩:=D3 hP
   have hz:(CS (Ej q hd ty (BX rs))).sz<=1600000:=UI (ty:=ty) (Gw hP) hs
   have hl:=Jt (CS (Ej q hd ty (BX rs)))
   have hf:=N9 _ (Uy q hd ty (BX rs))
   refine⟨by show(evV (CS (Ej q hd ty (BX rs)))).length<=_;omega,fun e he=>?_,fun s' hs'=>(hf _ hs').1,rs,hP,rfl,hz⟩
   have:=(hf e he).2
   omega
end
section
variable {a q:Int} {hd ty:Bool} {l0 l1 l2 l3 l4 size:Int} {st:St}
theorem dOk_13 {a q:Int} (h:dOk a q=true):a≠13:=fun e=>by
 subst e
 unfold dOk at h
 simp at h
theorem TW {ps:List B8} {parts:TV} (hp:Rd 1 parts ps.length (ps.map TV.str)) (hsz:ps.length<=60/\ps.flatten.length<=1500) {K:TV->Int->Int->St->Prop}
  (hk0:¬Fk a q l0 l1 l2 l3 l4 size->∀st',K .nilSlice 0 1 st')
  (hk1:Fk a q l0 l1 l2 l3 l4 size->∀o e st',e≠0->evR (D4 a q hd ty l0 l1 size) l2 ps.flatten= .error (o,e)->K .nilSlice o e st')
  (hk2:Fk a q l0 l1 l2 l3 l4 size->∀es u xs st',evR (D4 a q hd ty l0 l1 size) l2 ps.flatten= .ok es->Rd 15 u es.length xs->En St.zero es xs->K u 0 0 st'):
  Ad PR Bg [parts,.agg [.int .u8 a,.int .u8 q,.bool hd,.bool ty],.agg [.int .i64 l0,.int .i64 l1,.int .i64 l2,.int .i64 l3,.int .i64 l4],.int .i64 size] [.one .tv,.one (.int .i64),.one (.int .i64)] st K:=by
 refine TU hp (by omega) (fun g st' _=>hk0 g st') fun g p E hpp hE v st' _ _ hv=>?_
 have hwin:1<=(D4 a q hd ty l0 l1 size).win:=by show 1<=size.toNat;have:=g.1;omega
 have hdl:=dlOk g.2.1
 have hR:=VD (l2:=l2) (l3:=l3) (l4:=l4) (ps:=ps) hwin (show a≠10/\a≠13 from⟨hdl.a10,dOk_13 g.2.1⟩) hpp
 rw[<-hE]at hR
 unfold Pz at hR
 by_cases h0:E.err≠0
 ·rw[if_pos h0]at hR hv
  rw[if_pos h0,hv]
  exact hk1 g _ _ st' h0 hR.symm
 ·rw[if_neg h0]at hR hv
  have e0:E.err=0:=Decidable.not_not.1 h0
  obtain⟨f1,f2,f3,_⟩:=Sf (l3:=l3) (l4:=l4) g hsz.2 hR.symm
  rw[if_neg h0,e0]
  exact hk2 g _ v _ st' hR.symm hv (Ps _ f3)
theorem Th {ps:List B8} {parts:TV} (hp:Rd 1 parts ps.length (ps.map TV.str)) (hsz:ps.length<=60/\ps.flatten.length<=1500) {K:TV->Int->Int->St->Prop}
  (hk0:¬Fk a q l0 l1 l2 l3 l4 size->∀st',K .nilSlice 0 1 st')
  (hk1:Fk a q l0 l1 l2 l3 l4 size->∀o e st',e≠0->evR (D4 a q hd ty l0 l1 size) l2 ps.flatten= .error (o,e)->K .nilSlice o e st')
  (hk2:Fk a q l0 l1 l2 l3 l4 size->∀es u xs st',evR (D4 a q hd ty l0 l1 size) l2 ps.flatten= .ok es->Rd 15 u es.length xs->En St.zero es xs->K u 0 0 st'):
  Ad PR CM [parts,.agg [.int .u8 a,.int .u8 q,.bool hd,.bool ty],.agg [.int .i64 l0,.int .i64 l1,.int .i64 l2,.int .i64 l3,.int .i64 l4],.int .i64 size] [.one .tv,.one (.int .i64),.one (.int .i64)] st K:=by
 refine Hj parts a q hd ty l0 l1 l2 l3 l4 size st K (WT (fun g=>Aa (fun _=>hk0 g st) fun h=>absurd (by decide) h) fun g=>Aa (fun h=>absurd rfl h) fun _=>VO hp hsz (SD (by omega) fun st1 e1=>?_))
 have hR:=Pv (hd:=hd) (ty:=ty) (s:=ps.flatten) g (by omega)
 have hk1:=hk1 g
 have hk2:=hk2 g
 generalize hF:evR (D4 a q hd ty l0 l1 size) l2 ps.flatten=F at hR hk1 hk2
 by_cases g1:l2<ps.flatten.length
 ·rw[if_pos g1]at hR
  rw[if_pos g1,if_pos g1]
  exact Aa (fun h=>hk1 0 10 st1 h hR) fun h=>absurd (by decide) h
 rw[if_neg g1]at hR
 rw[if_neg g1,if_neg g1]
 by_cases g2:A5 ps.flatten≠ps.flatten.length
 ·rw[if_pos g2]at hR
  rw[if_pos g2,if_pos g2]
  exact Aa (fun h=>hk1 _ 5 st1 h hR) fun h=>absurd (by decide) h
 rw[if_neg g2]at hR
 rw[if_neg g2,if_neg g2]
 refine Aa (fun h=>absurd rfl h) fun _=>?_
 have hwin:((D4 a q hd ty l0 l1 size).win:Int)=size:=by show((size.toNat:Nat):Int)=size;have:=g.1;omega
 have mem:∀{st:St} {K:Int->St->Prop},K (memI (C9 (D4 a q hd ty l0 l1 size) ps.flatten 0)) st->Ad PR BP [.str ps.flatten,.agg [.int .u8 a,.int .u8 q,.bool hd,.bool ty],.int .i64 size] [.one (.int .i64)] st K:=fun {st K} h=>by
  have:=RU (c:=D4 a q hd ty l0 l1 size) (hd:=hd) (ty:=ty) (s:=ps.flatten) (by omega) h
  rw[hwin]at this
  exact this
 refine VP (by omega) (fun p st2 e2 hp he=>Ab (Ef rfl rfl rfl) (mem ?_)) fun rs u xs st2 e2 hp hu hx=>Ab (Ef rfl hu.one rfl) (mem ?_)
 ·rw[hp]at hR
  simp only at hR
  cases hM:C9 (D4 a q hd ty l0 l1 size) ps.flatten 0 with
  | none=>
   rw[hM]at hR
   exact Aa (fun h=>absurd h (by show ¬(0:Int)<= -1;decide)) fun _=>Aa (fun _=>hk1 _ _ st2 he hR) fun h=>absurd he h
  | some m=>
   rw[hM]at hR
   unfold Jc at hR
   simp only at hR
   refine Aa (fun _=>Aa (fun h=>absurd h he) fun _=>Aa (fun h=>?_) fun h=>?_) fun h=>absurd (show(0:Int)<=(m:Int) by omega) h
   ·rw[if_pos (by have h:(m:Int)<=(p.1:Int):=h;omega)]at hR
    exact hk1 _ 28 st2 (by decide) hR
   ·rw[if_neg (by have h:¬(m:Int)<=(p.1:Int):=h;omega)]at hR
    exact Aa (fun _=>hk1 _ _ st2 he hR) fun h=>absurd he h
 ·rw[hp]at hR
  simp only at hR
  cases hM:C9 (D4 a q hd ty l0 l1 size) ps.flatten 0 with
  | none=>
   rw[hM]at hR
   have hz:(CS (Ej q hd ty (BX rs))).sz<=1600000:=UI (ty:=ty) (Gw hp) hsz.2
   exact Aa (fun h=>absurd h (by show ¬(0:Int)<= -1;decide)) fun _=>Aa (fun h=>absurd rfl h) fun _=>rOf_ok 2000000 _ (by omega) (Nat.le_refl _) (Uy q hd ty (BX rs)) (Uu hu hx) fun u' ys st3 _ hu' hy=>hk2 _ u' ys st3 hR hu' hy
  | some m=>
   rw[hM]at hR
   exact Aa (fun _=>Aa (fun _=>hk1 _ 28 st2 (by decide) hR) fun h=>absurd rfl h) fun h=>absurd (show(0:Int)<=(m:Int) by omega) h
end
end
section
def wC:SC:=D4 44 34 true true 48 65536 10
def wX0:RX:=K2 1048576 1024 65536
def wX1:RX:=Ew Nu wX0
def wA1:RA:=Ct wC Nu wX0 RA.start
def wX2:RX:=Ew P8 wX1
def wA2:RA:=Ct wC P8 wX1 (Gq wA1)
def wX3:RX:=Ew SZ wX2
def wA3:RA:=Ct wC SZ wX2 (Gq wA2)
def wE:RA:=JC wC wX3 (Gq wA3)
theorem w1:wA1.out.length=1:=by kernel_rfl
theorem w1t:(Gq wA1).told=true:=by kernel_rfl
theorem w1n:(Gq wA1).names=[[97],[98]]:=by kernel_rfl
theorem w2:wA2.out.length=3:=by kernel_rfl
theorem w3:wA3.out.length=0:=by kernel_rfl
theorem wEe:wE.err=0:=by kernel_rfl
theorem wEl:(wE.out++[Ev.le]).length=4:=by kernel_rfl
theorem wP:evR (D4 44 34 true true 48 65536 3) 1048576 [str5,str6].flatten= .error (2,28):=by kernel_rfl
theorem wQ:evR (D4 44 34 true true 48 65536 3) 1048576 [str7].flatten= .error (1,3):=by kernel_rfl
theorem wOk:Fk 44 34 48 65536 1048576 1024 65536 10:=⟨by decide,by decide,by decide⟩
theorem wOk3:Fk 44 34 48 65536 1048576 1024 65536 3:=⟨by decide,by decide,by decide⟩
theorem GB {st:St} {K:Bool->St->Prop} (hk:∀st',K true st'):Ad PR Cb [] [.one .bool] st K:=by
 refine Im st K (H8 st _ (Id st _ (U9 (fun g=>absurd wOk g) fun _ st3 e3 hR=>Aa (fun h=>absurd rfl h) fun _=>?_)))
 have hR:RB wC wX0 RA.start (st.nb+2) st.nb (st.nb+1) [] st3:=hR
 have f0:FI wC [] 1 wX0 RA.start:=FI.start wC 1048576 1024 65536
 have hwin:wC.win<=100000000:=by decide
 have f1:FI wC ([]++Nu) (1+1+3*Nu.length) wX1 (Gq wA1):=f0.feed
 have f2:FI wC ([]++Nu++P8) (1+1+3*Nu.length+1+3*P8.length) wX2 (Gq wA2):=f1.feed
 have f3:FI wC ([]++Nu++P8++SZ) (1+1+3*Nu.length+1+3*P8.length+1+3*SZ.length) wX3 (Gq wA3):=f2.feed
 have room:∀{P:B8} {k:Nat} {X:RX} {A:RA},FI wC P k X A->P.length<=100->X.cut.length<=100/\((X.cut.length:Int)<=X.size/\X.size<=100000000):=fun f h=>by
  have:=f.cut
  have:=f.tx.size
  exact⟨by omega,by omega,by omega⟩
 have r0:=room f0 (by decide)
 have r1:=room f1 (by decide)
 have r2:=room f2 (by decide)
 have r3:=room f3 (by decide)
 refine Lh hR f0.sz hwin f0.w (s:=Nu) (by decide) (by have:Nu.length=4:=rfl;omega) r0.2 (fun g=>by rw[f0.ended]at g;cases g) fun _ v2 st4 I4 J4 h4 _ o4 _=>?_
 have h4:RB wC wX1 (Gq wA1) (st.nb+2) st.nb (st.nb+1) I4 st4:=h4
 have o4:DC 15 st4 v2 wA1.out.length (Ek wA1.out) J4:=o4
 refine Sw h4 (by rw[w1n];decide) (fun g=>g.elim (fun g=>by rw[w1t]at g;cases g) fun g=>by cases g) fun _ _ v3 st5 hv3 h5 _=>?_
 rw[w1n]at hv3
 refine Lh h5 f1.sz hwin f1.w (s:=P8) (by decide) (by have:P8.length=2:=rfl;omega) r1.2 (fun g=>by rw[f1.ended]at g;cases g) fun _ v4 st6 I6 J6 h6 _ o6 _=>?_
 have h6:RB wC wX2 (Gq wA2) (st.nb+2) st.nb (st.nb+1) I6 st6:=h6
 have o6:DC 15 st6 v4 wA2.out.length (Ek wA2.out) J6:=o6
 refine Lh h6 f2.sz hwin f2.w (s:=SZ) (by decide) (by have:SZ.length=1:=rfl;omega) r2.2 (fun g=>by rw[f2.ended]at g;cases g) fun _ v5 st7 I7 J7 h7 _ o7 _=>?_
 have h7:RB wC wX3 (Gq wA3) (st.nb+2) st.nb (st.nb+1) I7 st7:=h7
 have o7:DC 15 st7 v5 wA3.out.length (Ek wA3.out) J7:=o7
 refine Va h7 f3.sz hwin f3.w (by decide) (by omega) r3.2 (fun g=>by rw[f3.ended]at g;cases g) fun _ v6 st8 I8 h8 _ _ _ hv6=>?_
 have hv6:(if wE.err≠0 then v6= .nilSlice else Rd 15 v6 (wE.out++[Ev.le]).length (Ek (wE.out++[Ev.le]))):=hv6
 rw[if_neg (by rw[wEe];decide)]at hv6
 rw[show(JC wC wX3 (Gq wA3)).err=0 from wEe]
 refine TW (ps:=[str5,str6]) (.inr ⟨.full,rfl⟩) ⟨by decide,by decide⟩ (fun g=>absurd wOk3 g) (fun _ o e st9 _ hE=>?_) fun _ es u xs st9 hE _ _=>by rw[wP]at hE;cases hE
 rw[wP]at hE
 cases hE
 refine TW (ps:=[str7]) (.inr ⟨.full,rfl⟩) ⟨by decide,by decide⟩ (fun g=>absurd wOk3 g) (fun _ o e st10 _ hE=>?_) fun _ es u xs st9 hE _ _=>by rw[wQ]at hE;cases hE
 rw[wQ]at hE
 cases hE
 have ok:∀{n m:Int} {p q:Prop},n=m->q->BIf (decide (n≠m)) p q:=fun h hq=>Aa (fun g=>absurd h g) fun _=>hq
 have yes:∀{n m:Int} {p q:Prop},n=m->p->BIf (decide (n=m)) p q:=fun h hp=>Aa (fun _=>hp) fun g=>absurd h g
 refine ok rfl (ok rfl (ok rfl (ok rfl (Ab o4.rd.isSl (ok (by rw[o4.rd.lenS,w1];rfl) (Ab o6.rd.isSl (ok (by rw[o6.rd.lenS,w2];rfl) (Ab o7.rd.isSl (ok (by rw[o7.rd.lenS,w3];rfl) (Ab hv6.isSl (ok (by rw[hv6.lenS,wEl];rfl) (Ab hv3.isSl (ok (by rw[hv3.lenS];rfl)
  ⟨⟨by decide,by rw[hv3.lenZ];decide⟩,Ae (hv3.ldx _ 1 0 rfl) (AB (Aa (fun g=>absurd (show([98]:B8)=str8 from rfl) g) fun _=>yes rfl (yes rfl (yes rfl (hk _)))))⟩)))))))))))))
section
variable {a q:Int} {hd ty:Bool} {l0 l1 l2 l3 l4 size:Int} {st:St}
theorem Rw {st:St} {K:Bool->St->Prop} (hk:K true st):Ad PR Cl [.nilSlice,.nilSlice] [.one .bool] st K:=
 O4 (l:=[]) (xs:=[]) (ys:=[]) (.inl ⟨rfl,rfl,rfl⟩) rfl (.inl ⟨rfl,rfl,rfl⟩) rfl (fun e h=>by cases h) (by decide) hk
theorem Tw {parts:TV} {ps:List B8} (hp:Rd 1 parts ps.length (ps.map TV.str)) (hb:∀s,s∈ps->s.length<=140737488351232) {K:Bool->St->Prop} (hk:∀st',K true st'):
  Ad PR Bs [parts,.agg [.int .u8 a,.int .u8 q,.bool hd,.bool ty],.agg [.int .i64 l0,.int .i64 l1,.int .i64 l2,.int .i64 l3,.int .i64 l4,.int .i64 size]] [.one .bool] st K:=by
 have yes:∀{n m:Int} {p q:Prop},n=m->p->BIf (decide (n=m)) p q:=fun h hp=>Aa (fun _=>hp) fun g=>absurd h g
 refine Eo parts a q hd ty l0 l1 l2 l3 l4 size st K (S3 hp hb fun r hr=>Ar (fun _=>GB hk) fun g=>?_)
 have hsz:=hr ((Bool.not_eq_false' _).mp g)
 refine TW hp hsz (fun n0 st1=>?_) (fun n0 o e st1 _ hE=>?_) fun n0 es u xs st1 hE hu hx=>?_
 ·refine Th hp hsz (fun _ st2=>?_) (fun n1=>absurd n1 n0) fun n1=>absurd n1 n0
  exact Rw (Ar (fun _=>yes rfl (yes rfl (GB hk))) fun g=>by cases g)
 ·refine Th hp hsz (fun n1=>absurd n0 n1) (fun _ o' e' st2 _ hE'=>?_) fun _ es u xs st2 hE'=>by rw[hE]at hE';cases hE'
  rw[hE]at hE'
  cases hE'
  exact Rw (Ar (fun _=>yes rfl (yes rfl (GB hk))) fun g=>by cases g)
 ·refine Th hp hsz (fun n1=>absurd n0 n1) (fun _ o' e' st2 _ hE'=>by rw[hE]at hE';cases hE') fun _ es' u' xs' st2 hE' hu' hx'=>?_
  rw[hE]at hE'
  cases hE'
  obtain⟨f1,f2,_⟩:=Sf (l3:=l3) (l4:=l4) n0 hsz.2 hE
  exact O4 hu (hx.keep (L0 st2)) hu' (hx'.keep (L0 st2)) f2 (by omega) (Ar (fun _=>yes rfl (yes rfl (GB hk))) fun g=>by cases g)
end
end
section
theorem one_str {ck:List TV} (h:flatIs [.str] ck):∃s,ck=[.str s]:=by
 obtain⟨s,ys,rfl,_,rfl⟩:=h
 exact⟨s,rfl⟩
theorem SlS.row {v:TV} (h:SlS 1 (flatIs [.str]) v):∃row:List B8,RowR TV.str v row:=by
 rcases h with rfl | ⟨cks,rfl,h⟩
 ·exact⟨[],.inl ⟨rfl,rfl,rfl⟩⟩
 ·have:∃row:List B8,row.length=cks.length/\cks.flatten=row.map TV.str:=by
   induction cks with
   | nil=>exact⟨[],rfl,rfl⟩
   | cons c r ih=>
    obtain⟨row,h1,h2⟩:=ih (fun ck hk=>h ck (.tail _ hk))
    obtain⟨s,rfl⟩:=one_str (h c (.head _)).2
    exact⟨s::row,by simp[h1],by simp[h2]⟩
  obtain⟨row,h1,h2⟩:=this
  exact⟨row,.inr ⟨.non,by rw[h1,h2]⟩⟩
section
variable {H:Type} {enc:TypeId×Value->H} {P:Program} {w:World} {base b0:Nat} {held:Bool}
end
end
end Go.TVF
section
namespace Go.TVF
open Go.IntKind(i64 u8)
open Go Go.Proofs Go.ChangeShapes
def IsStrsB (v:TV):Prop:=∃ps:List B8,Rd 1 v ps.length (ps.map TV.str)/\∀s,s∈ps->s.length<=140737488351232
def IsBnd (v:TV):Prop:=∃l0 l1 l2 l3 l4 n:Int,v= .agg [.int .i64 l0,.int .i64 l1,.int .i64 l2,.int .i64 l3,.int .i64 l4,.int .i64 n]
theorem KX {g:Ghost} {w:World} {sz:Nat} {tip:Tip} {n:Nat} {xs:List TV} {v:Value} (h:Rel g w (.list sz tip n xs) v):(n=0/\xs=[])∨∃(b o cap:Nat) (us:Nat->Value),v= .slice (some ⟨b,o,none⟩) n cap/\xs.length=n*sz/\n<=cap/\(∀i,i<xs.length->g.S ⟨b,o+i,none⟩/\w.cell? ⟨b,o+i,none⟩=some (us i))/\∀i (h:i<xs.length),Rel g w xs[i] (us i):=by
 cases h with
 | listE=>exact .inl ⟨rfl,rfl⟩
 | list _ _ _ _ b o cap us hl hn hc hr ht=>exact .inr ⟨b,o,cap,us,rfl,hl,hn,hc,hr⟩
theorem relStr {g:Ghost} {w:World} {l:B8} {v:Value} (h:Rel g w (.str l) v):v= .string ⟨l.toArray⟩:=by cases h;rfl
section
variable {H:Type} {enc:TypeId×Value->H} {P:Program} {w:World} {base b0:Nat} {held:Bool}
theorem IU {e:TypeId}:∀{l:List (DataW H)} {i:Nat} {b:B8},l[i]? =some (.lit (.string b))->b.length∈DataW.weightsAll P e l
 | [],i,b,h=>by simp at h
 | d::r,0,b,h=>by
  simp only[List.getElem?_cons_zero,Option.some.injEq]at h
  subst h
  simp[DataW.weightsAll,DataW.weights]
 | d::r,i+1,b,h=>by
  rw[DataW.weightsAll,List.mem_append]
  exact .inr (IU (i:=i) (by simpa using h))
theorem SY {t e:TypeId} (ht:P.underlying t=some (.slice e)) (he:P.underlying e=some .string) (hc:P.cellsOf e=1) {v:Value} {u:TV} {ps:List B8} (hr:Rel (Ghost.start w) w u v) (hp:Rd 1 u ps.length (ps.map TV.str)) {n:Nat} {x:DataW H×List MemPlace}
  (hd:DataW.trod enc P w base (fun _=>true) held n t [v]=some x) (hw:∀k,k∈x.1.weights P t->k<=reachBytes):∀s,s∈ps->s.length<=140737488351232:=by
 intro s hs
 obtain⟨i,hi,hsi⟩:=List.getElem_of_mem hs
 rcases hp with⟨_,h0,_⟩ | ⟨tip,rfl⟩
 ·omega
 rcases DataW.trod_slice ht hd with⟨h1,_⟩ | ⟨a,len,cap,elems,rest,m,_,h1,rfl,_,hlc,_,hel,hix,_,_⟩
 ·simp only[List.cons.injEq,and_true]at h1
  rw[h1]at hr
  rcases KX hr with⟨h0,_⟩ | ⟨b,o,cap',us,h2,_⟩
  ·omega
  ·cases h2
 ·simp only[List.cons.injEq,and_true]at h1
  rw[h1]at hr
  rcases KX hr with⟨h0,_⟩ | ⟨b,o,cap',us,h2,hl,hn,hcl,hrl⟩
  ·omega
  ·obtain⟨rfl,rfl,rfl⟩:a=⟨b,o,none⟩/\len=ps.length/\cap=cap':=by
    simp only[Value.slice.injEq,Option.some.injEq]at h2
    exact h2
   have hxi:(ps.map TV.str)[i]? =some (.str s):=by rw[List.getElem?_map,List.getElem?_eq_getElem hi,hsi];rfl
   obtain⟨hlt,hxe⟩:=List.getElem?_eq_some_iff.1 hxi
   have hR:=hrl i hlt
   rw[hxe]at hR
   have hus:=relStr hR
   have hcell:=(hcl i hlt).2
   have hb:=hix i (by omega)
   rw[hc,Nat.mul_one,List.getElem?_eq_getElem (by omega)]at hb
   obtain⟨vs,hb1,hb2⟩:=Option.bind_eq_some_iff.1 hb
   obtain⟨_,hvl,hvc⟩:=World.cells?_some hb1
   have h0:=hvc 0 (by omega)
   obtain⟨s',rfl,hx,_⟩:=DataW.trod_string he hb2
   have e1:((⟨b,o,none⟩:Addr).add i).add 0=⟨b,o+i,none⟩:=by rw[HR,HR,Nat.add_zero]
   rw[e1,hcell,hus]at h0
   simp only[List.getElem?_cons_zero,Option.some.injEq,Value.string.injEq]at h0
   subst h0
   have hm:s.length∈DataW.weightsAll P e (elems.map (·.1)):=by
    refine IU (i:=i) ?_
    rw[List.getElem?_map,List.getElem?_eq_getElem (by omega),hx]
    simp
   exact hw _ (by simp only[DataW.weights,ht];exact .tail _ (List.mem_append_left _ hm))
theorem open_strs {t e:TypeId} (ht:P.underlying t=some (.slice e)) (he:P.underlying e=some .string) (hc:P.cellsOf e=1) (ht1:P.cellsOf t=1) {v:Value} {d:DataW H} {p:List MemPlace}
  (hval:Value.okWide P w .any b0 t v) (h:DataW.Trod enc P w base (fun _=>true) held t v d p) (hw:∀k,k∈d.weights P t->k<=reachBytes):∃tv,Rel (Ghost.start w) w tv v/\IsStrsB tv:=by
 obtain⟨n,hn⟩:=h
 have hv:v.cells.toList=[v]:=by
  simp only[Value.okWide,ht,Cell.okWide,Cell.ok]at hval
  split at hval<;>first | rfl | (simp_all) | exact hval.elim
 rw[hv]at hn
 have hop:Op enc P w base held n 1 (fun tv=>∃v,tv=[v]/\SlS 1 (flatIs [.str]) v) t:=WN (c:=1) ht ht1 (Nat.le_refl _) fun m hm=>op_cell (c:= .str) he hc
 obtain⟨cs,hr,_,u,rfl,hs⟩:=hop.2 _ _ hn
 obtain⟨row,hrow⟩:=hs.row
 have hr0:Rel (Ghost.start w) w u v:=hr.2 0 (by simp)
 exact⟨u,hr0,row,hrow,SY ht he hc hr0 hrow hn hw⟩
def bndQ:List (Nat×(Nat->List TV->Prop)):=[(5,fun k tv=>∃k',k'+1<=k/\EachQ [(1,cellQ (.int .i64)),(1,cellQ (.int .i64)),(1,cellQ (.int .i64)),(1,cellQ (.int .i64)),(1,cellQ (.int .i64))] k' tv),(1,cellQ (.int .i64))]
theorem FM {k:Nat} {tv:List TV} (h:cellQ (.int .i64) k tv):∃n:Int,tv=[.int .i64 n]:=by
 obtain⟨⟨n,ys,rfl,_,rfl⟩,_⟩:=h
 exact⟨n,rfl⟩
theorem bnd_of {k:Nat} {tv:List TV} (h:EachQ bndQ k tv):∃l0 l1 l2 l3 l4 n:Int,tv=[.int .i64 l0,.int .i64 l1,.int .i64 l2,.int .i64 l3,.int .i64 l4,.int .i64 n]:=by
 obtain⟨a,b,_,_,rfl,_,⟨_,_,h5⟩,h6,_⟩:=h
 obtain⟨c,r,_,_,rfl,_,h7,h8,_⟩:=h6
 have h8:r=[]:=h8
 subst h8
 obtain⟨a0,r0,_,_,rfl,_,g0,h5,_⟩:=h5
 obtain⟨a1,r1,_,_,rfl,_,g1,h5,_⟩:=h5
 obtain⟨a2,r2,_,_,rfl,_,g2,h5,_⟩:=h5
 obtain⟨a3,r3,_,_,rfl,_,g3,h5,_⟩:=h5
 obtain⟨a4,r4,_,_,rfl,_,g4,h5,_⟩:=h5
 have h5:r4=[]:=h5
 subst h5
 obtain⟨n0,rfl⟩:=FM g0
 obtain⟨n1,rfl⟩:=FM g1
 obtain⟨n2,rfl⟩:=FM g2
 obtain⟨n3,rfl⟩:=FM g3
 obtain⟨n4,rfl⟩:=FM g4
 obtain⟨n5,rfl⟩:=FM h7
 exact⟨n0,n1,n2,n3,n4,n5,rfl⟩
theorem open_bnd {bk:DataW H->Nat} {t:TypeId} {fs:Array Field} (ht:P.underlying t=some (.struct fs)) (hop:∀n,OpQ bk enc P w base held n 6 (fun k tv=>∃k',k'+1<=k/\EachQ bndQ k' tv) t) {v:Value} {d:DataW H} {p:List MemPlace}
  (hval:Value.okWide P w .any b0 t v) (h:DataW.Trod enc P w base (fun _=>true) held t v d p):∃tv,Rel (Ghost.start w) w tv v/\IsBnd tv:=by
 simp only[Value.okWide,ht]at hval
 obtain⟨vs,rfl,_,_⟩:=hval
 obtain⟨n,hn⟩:=h
 obtain⟨tv,hr,_,_,_,hb⟩:=(hop n).2 _ _ hn
 obtain⟨l0,l1,l2,l3,l4,m,rfl⟩:=bnd_of hb
 have:=Rel.agg _ vs.toList hr.1 hr.2
 rw[Array.toArray_toList]at this
 exact⟨_,this,l0,l1,l2,l3,l4,m,rfl⟩
end
theorem lreadsS_okF {t0:TV} {t1:List TV} {t2:TV} {K:Bool->St->Prop} (h0:IsStrsB t0) (h1:flatIs [.int .u8,.int .u8,.bool,.bool] t1) (h2:IsBnd t2) (hk:∀st',K true st'):
  Ad PR Bs [t0,.agg t1,t2] [.one .bool] St.zero K:=by
 obtain⟨ps,hp,hb⟩:=h0
 obtain⟨a,_,rfl,_,q,_,rfl,_,hd,_,rfl,ty,_,rfl,rfl⟩:=h1
 obtain⟨l0,l1,l2,l3,l4,n,rfl⟩:=h2
 exact Tw hp hb hk
end Go.TVF
end
