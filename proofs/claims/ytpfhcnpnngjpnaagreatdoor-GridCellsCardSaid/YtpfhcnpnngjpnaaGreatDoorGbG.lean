/- What the laws below rest on: a framework for Go programs, and contracts of the functions that they reach. -/
import Derived.Test.YtpfhcnpnngjpnaaGreatDoorGbF
import Derived.Shelf.Strings.Builder2
import Derived.Shelf.Strings.Replace
import Derived.Test.YtpfhcnpnngjpnaaGreatDoorProg
set_option maxRecDepth 20000
set_option linter.unusedVariables false
set_option linter.unusedSimpArgs false
namespace Go.TVF
open Go.IntKind(i64 u8)
open Go Go.Proofs
section
mutual
theorem P5:∀(n:Nd) {d s s':Int},s<=524288->chk n d s= .ok s'->s<=s'/\s'<=524288
 | .mk k l t ks tl,d,s,s',hs,h=>by
  unfold chk at h
  split at h
  ·cases h
  split at h
  ·cases h
  split at h
  ·cases h
  split at h
  ·cases h
  have:=OL ks (by omega) h
  omega
theorem OL:∀(ks:List Nd) {d s s':Int},s<=524288->IJ ks d s= .ok s'->s<=s'/\s'<=524288
 | [],d,s,s',hs,h=>by unfold IJ at h;cases h;omega
 | n::r,d,s,s',hs,h=>by
  unfold IJ at h
  split at h
  ·cases h
  ·rename_i s1 h1
   have h2:=P5 n hs h1
   have h3:=OL r h2.2 h
   omega
end
mutual
theorem H3:∀(n:Nd) {d s e:Int},chk n d s= .error e->e≠0
 | .mk k l t ks tl,d,s,e,h=>by
  unfold chk at h
  split at h
  ·cases h;decide
  split at h
  ·cases h;decide
  split at h
  ·cases h;decide
  split at h
  ·cases h;decide
  exact MT ks h
theorem MT:∀(ks:List Nd) {d s e:Int},IJ ks d s= .error e->e≠0
 | [],d,s,e,h=>by unfold IJ at h;cases h
 | n::r,d,s,e,h=>by
  unfold IJ at h
  split at h
  ·rename_i e1 h1;cases h;exact H3 n h1
  ·exact MT r h
end
theorem Aq {k:IntKind} {n:Int} {f:Int->Prop} (h:f n):Ag (.int k) (.int k n) f:=Ab (by simp) h
def Ve (st0:St) (b:Nat) (st:St) (s:Int):Prop:=Ap st0 st/\st0.nb<=b/\st.box b= .cells [.int .i64 s]
theorem Pq:∀(n:Nd) {cs:List TV} (hc:NdC n cs) {d s:Int} (hd0:0<=d) (hd:d<=200) (hs0:0<=s) (hs:s<=524288) (hcn:Fe n<=1000000000000000) {st0 st:St} {b:Nat} (hb:Ve st0 b st s) {K:Int->St->Prop}
  (hk1:∀s' st',chk n d s= .ok s'->Ve st0 b st' s'->K 0 st') (hk2:∀e st',chk n d s= .error e->Ap st0 st'->K e st'),CallT PR DL [.agg cs,.int .i64 d,.box b 0] [.one (.int .i64)] st K
 | .mk k l t ks tl,cs,hc,d,s,hd0,hd,hs0,hs,hcn,st0,st,b,hb,K,hk1,hk2=>by
  simp only[Fe]at hcn
  have hkl0:=Hk ks
  unfold NdC at hc
  obtain⟨v,xs,rfl,hr,hx⟩:=hc
  unfold chk at hk1 hk2
  obtain⟨hb1,hb2,hb3⟩:=hb
  refine OY k l t v tl d b st K (Aa (fun g=>?_) fun g=>?_)
  ·rw[if_pos g]at hk2;exact hk2 _ _ rfl hb1
  rw[if_neg g]at hk1 hk2
  refine Ad (x:= .int .i64 s) (by simp[Ac,hb3]) ?_
  refine Aq (UB hb3 (by simp) ?_)
  rw[Af (s+1) (by omega) (by omega)]
  obtain⟨st1,hst1⟩:∃st1,st1=st.put b (.cells (setAll [.int .i64 s] 0 [.int .i64 (s+1)])):=⟨_,rfl⟩
  have hb4:st1.box b= .cells [.int .i64 (s+1)]:=by rw[hst1,EW];rfl
  have hb5:Ve st0 b st1 (s+1):=⟨by rw[hst1];exact hb1.put hb2 _,hb2,hb4⟩
  rw[<-hst1]
  refine Ad (x:= .int .i64 (s+1)) (by simp[Ac,hb4]) (Aq (Aa (fun g2=>?_) fun g2=>?_))
  ·rw[if_pos (by omega)]at hk2;exact hk2 _ _ rfl hb5.1
  rw[if_neg (by omega)]at hk1 hk2
  refine Aa (fun g3=>?_) fun g3=>Aa (fun g4=>?_) fun g4=>?_
  ·rw[if_pos (by omega)]at hk2;exact hk2 _ _ rfl hb5.1
  ·rw[if_pos (by omega)]at hk2;exact hk2 _ _ rfl hb5.1
  rw[if_neg (by omega)]at hk1 hk2
  refine leaf_ok (Al (fun hl=>Ab hr.isSl ?_) fun hl=>Ab hr.isSl ?_)
  case' refine_1=>
   rw[hr.lenS]
   refine Aa (fun g5=>?_) fun g5=>Aa (fun g6=>?_) fun g6=>Ab hr.isSl ?_
   ·rw[if_pos ⟨hl,.inl (by omega)⟩]at hk2;exact hk2 _ _ rfl hb5.1
   ·rw[if_pos ⟨hl,.inr g6⟩]at hk2;exact hk2 _ _ rfl hb5.1
   rw[if_neg (by rintro⟨_,h | h⟩;omega;exact g6 h)]at hk1 hk2
  case' refine_2=>rw[if_neg (by rintro⟨h,_⟩;rw[hl]at h;cases h)]at hk1 hk2
  all_goals
   refine⟨fun i d' sn v' n st'=>v=v'/\TV.box b 0=sn/\d=d'/\n=(ks.length:Int)/\∃(j:Nat) (s1:Int),i=(j:Int)/\j<=ks.length/\Ve st0 b st' s1/\IJ ks (d+1) (s+1)=IJ (ks.drop j) (d+1) s1/\0<=s1/\s1<=524288,
    fun i _ _ _ _ _=>(ks.length-i).toNat,⟨rfl,rfl,rfl,by first | rw[hr.lenS] | rfl,0,s+1,rfl,by omega,hb5,rfl,by omega,by omega⟩,?_⟩
   rintro _ _ _ _ _ st2 ⟨rfl,rfl,rfl,rfl,j,s1,rfl,h1,hb6,heq,h2,h3⟩
   rw[hr.lenZ,show Int.toNat (j:Int)=j from rfl]
   refine Aa (fun q=>?_) fun q=>?_
   ·have hlt:j<ks.length:=by omega
    have hget:=List.getElem?_eq_getElem hlt
    have hdrop:=List.drop_eq_getElem_cons hlt
    generalize hn:ks[j]=n at hget hdrop
    obtain⟨k',l',t',js,tl'⟩:=n
    obtain⟨u,ys,hld,hu1,hu2,hu3⟩:=Mk hr hx st2 hget
    have hcm:=Hj ks hget
    rw[hdrop,IJ]at heq
    refine⟨⟨by omega,by omega⟩,Ad hld (Ab (EH hu3) ?_)⟩
    rw[Af (d+1) (by omega) (by omega),Af ((j:Int)+1) (by omega) (by omega)]
    refine Pq (.mk k' l' t' js tl') (by unfold NdC;exact⟨u,ys,rfl,hu1,hu2⟩) (by omega) (by omega) h2 h3 (by omega) hb6 (fun s' st3 hc hb7=>?_) fun e st3 hc hb7=>?_
    ·rw[hc]at heq
     have:=P5 _ h3 hc
     exact Aa (fun h=>absurd rfl h) fun _=>⟨⟨rfl,rfl,rfl,rfl,j+1,s',by omega,by omega,hb7,heq,by omega,by omega⟩,by dsimp only;omega⟩
    ·rw[hc]at heq
     exact Aa (fun _=>hk2 e st3 heq hb7) fun h=>absurd (Decidable.not_not.1 h) (H3 _ hc)
   ·rw[List.drop_of_length_le (by omega),IJ]at heq
    exact hk1 _ _ heq hb6
termination_by n=>SizeOf.sizeOf n
decreasing_by
 all_goals
  have:=List.sizeOf_lt_of_mem (Bi hget)
  simp only[Nd.mk.sizeOf_spec]at this⊢
  omega
def LC (n:Nd):Int:=match chk n 1 0 with
 | .error e=>e
 | .ok _=>if 1048576<Eu n then 10 else 0
theorem Vq {n:Nd} {cs:List TV} (hc:NdC n cs) (hl:Eu n<=1000000000000000) (hcn:Fe n<=1000000000000000) {st:St} {K:Int->St->Prop} (hk:∀st',Ap st st'->K (LC n) st'):CallT PR GU [.agg cs] [.one (.int .i64)] st K:=by
 have hc0:=hc
 obtain⟨k,l,t,ks,tl⟩:=n
 unfold NdC at hc
 obtain⟨v,xs,rfl,hr,hx⟩:=hc
 unfold LC at hk
 refine O0 k l t v tl st K (UB (Ho st _ _) (by simp) (Pq _ hc0 (d:=1) (s:=0) (by decide) (by decide) (by decide) (by decide) hcn (st0:=st) ⟨?_,Nat.le_refl _,by rw[EW];rfl⟩ (fun s' st' hc hb=>?_) fun e st' hc hb=>?_))
 ·exact((Ap.refl st).push _ _).put (Nat.le_refl _) _
 ·rw[hc]at hk
  refine Aa (fun h=>absurd rfl h) fun _=>Uy _ hc0 hl hcn (Aa (fun g=>?_) fun g=>?_)
  ·have:=hk _ hb.1
   rw[if_pos (by omega)]at this;exact this
  ·have:=hk _ hb.1
   rw[if_neg (by omega)]at this;exact this
 ·rw[hc]at hk
  exact Aa (fun _=>hk _ hb) fun h=>absurd (Decidable.not_not.1 h) (H3 _ hc)
end
theorem Rx:∀(a b:Nd) {cs ds:List TV} (hc:NdC a cs) (hd:NdC b ds) (hcn:Fe a<=1000000000000000) {st:St} {K:Bool->St->Prop} (hk1:a=b->K true st) (hk2:a≠b->K false st),
  CallT PR FD [.agg cs,.agg ds] [.one (.bool)] st K
 | .mk k l t ks tl,.mk k' l' t' js tl',cs,ds,hc,hd,hcn,st,K,hk1,hk2=>by
  simp only[Fe]at hcn
  have hkl0:=Hk ks
  unfold NdC at hc hd
  obtain⟨v,xs,rfl,hr,hx⟩:=hc
  obtain⟨u,ys,rfl,hr',hy⟩:=hd
  refine Qk k l t v tl k' l' t' u tl' st K (Aa (fun g=>hk2 fun h=>by cases h;exact g rfl) fun g1=>Aa (fun g=>hk2 fun h=>by cases h;exact g rfl) fun g2=>Aa (fun g=>hk2 fun h=>by cases h;exact g rfl) fun g3=>
   Aa (fun g=>hk2 fun h=>by cases h;exact g rfl) fun g4=>Ab hr.isSl (Ab hr'.isSl ?_))
  have g1:=Decidable.not_not.1 g1
  have g2:=Decidable.not_not.1 g2
  have g3:=Decidable.not_not.1 g3
  have g4:=Decidable.not_not.1 g4
  subst g1 g2 g3 g4
  rw[hr.lenS,hr'.lenS]
  refine Aa (fun g=>hk2 fun h=>by cases h;exact g rfl) fun g5=>Ab hr.isSl ?_
  have hlen:ks.length=js.length:=by omega
  refine⟨fun i n k1 l1 t1 v1 tl1 k2 l2 t2 v2 tl2 st'=>n=(ks.length:Int)/\v=v1/\u=v2/\st=st'/\∃j:Nat,i=(j:Int)/\j<=ks.length/\ks.take j=js.take j,fun i _ _ _ _ _ _ _ _ _ _ _ _=>(ks.length-i).toNat,
   ⟨rfl,rfl,rfl,rfl,0,rfl,by omega,by simp⟩,?_⟩
  rintro _ _ _ _ _ _ _ _ _ _ _ _ _ ⟨rfl,rfl,rfl,rfl,j,rfl,h1,heq⟩
  rw[hr.lenZ,hr'.lenZ,show Int.toNat (j:Int)=j from rfl]
  refine Aa (fun q=>?_) fun q=>?_
  ·have hlt:j<ks.length:=by omega
   have hlt':j<js.length:=by omega
   have hget:=List.getElem?_eq_getElem hlt
   have hget':=List.getElem?_eq_getElem hlt'
   generalize hn:ks[j]=n at hget
   generalize hm:js[j]=m at hget'
   obtain⟨k1,l1,t1,a1,tl1⟩:=n
   obtain⟨k2,l2,t2,a2,tl2⟩:=m
   have hcm:=Hj ks hget
   obtain⟨u1,ys1,hld,hu1,hu2,hu3⟩:=Mk hr hx GD hget
   obtain⟨u2,ys2,hld',hv1,hv2,hv3⟩:=Mk hr' hy GD hget'
   refine⟨⟨by omega,by omega⟩,Ad hld ⟨⟨by omega,by omega⟩,Ad hld' ?_⟩⟩
   refine Rx (.mk k1 l1 t1 a1 tl1) (.mk k2 l2 t2 a2 tl2) (by unfold NdC;exact⟨u1,ys1,rfl,hu1,hu2⟩) (by unfold NdC;exact⟨u2,ys2,rfl,hv1,hv2⟩) (by omega) (fun he=>?_) fun he=>?_
   ·refine Al (fun h=>by cases h) fun _=>?_
    rw[Af ((j:Int)+1) (by omega) (by omega)]
    exact⟨⟨rfl,rfl,rfl,rfl,j+1,by omega,by omega,by rw[List.take_add_one,List.take_add_one,heq,hget,hget',he]⟩,by dsimp only;omega⟩
   ·refine Al (fun _=>hk2 fun h=>he ?_) fun h=>by cases h
    cases h
    rw[hget]at hget'
    exact Option.some.inj hget'
  ·rw[List.take_of_length_le (by omega),List.take_of_length_le (by omega)]at heq
   exact hk1 (by rw[heq])
termination_by a=>SizeOf.sizeOf a
decreasing_by
 have:=List.sizeOf_lt_of_mem (Bi hget)
 simp only[Nd.mk.sizeOf_spec]at this⊢
 omega
end Go.TVF
section
namespace Go.Proofs
open Go.Shelf
def Tryz.lays155_ren:Go.Shelf.Ren:=⟨fun | 155=>146 | 154=>226 | 138=>280 | 165=>275 | 143=>281 | 166=>196 | 197=>282 | 169=>123 | 195=>308 | 218=>309 | 240=>266 | 241=>305 | 219=>310 | 260=>311 | 276=>300 | 277=>321 | 217=>322 | 225=>323 | 224=>324 | 267=>325 | 266=>330 | 314=>331 | n=>n,fun | 9=>9 | 3=>3 | 4=>4 | 72=>188 | 0=>0 | 76=>254 | 105=>308 | 21=>21 | 5=>5 | 70=>186 | 20=>20 | 37=>59 | 75=>253 | 127=>256 | 164=>315 | 46=>267 | 119=>330 | 139=>333 | 138=>332 | 146=>319 | 51=>318 | 80=>190 | n=>n,fun | 1=>0 | 3=>1 | 4=>2 | n=>n⟩
theorem Tryz.lays155:Go.Proofs.Lays.n155 Tryz.prog Tryz.lays155_ren:={
 mixed:=by kernel_rfl
 f138:=Tryz.func280.trans (congrArg some (by kernel_rfl))
 f143:=Tryz.func281.trans (congrArg some (by kernel_rfl))
 f154:=Tryz.func226.trans (congrArg some (by kernel_rfl))
 f155:=Tryz.func146.trans (congrArg some (by kernel_rfl))
 f165:=Tryz.func275.trans (congrArg some (by kernel_rfl))
 f166:=Tryz.func196.trans (congrArg some (by kernel_rfl))
 f169:=Tryz.func123.trans (congrArg some (by kernel_rfl))
 f195:=Tryz.func308.trans (congrArg some (by kernel_rfl))
 f197:=Tryz.func282.trans (congrArg some (by kernel_rfl))
 f217:=Tryz.func322.trans (congrArg some (by kernel_rfl))
 f218:=Tryz.func309.trans (congrArg some (by kernel_rfl))
 f219:=Tryz.func310.trans (congrArg some (by kernel_rfl))
 f224:=Tryz.func324.trans (congrArg some (by kernel_rfl))
 f225:=Tryz.func323.trans (congrArg some (by kernel_rfl))
 f240:=Tryz.func266.trans (congrArg some (by kernel_rfl))
 f241:=Tryz.func305.trans (congrArg some (by kernel_rfl))
 f260:=Tryz.func311.trans (congrArg some (by kernel_rfl))
 f266:=Tryz.func330.trans (congrArg some (by kernel_rfl))
 f267:=Tryz.func325.trans (congrArg some (by kernel_rfl))
 f276:=Tryz.func300.trans (congrArg some (by kernel_rfl))
 f277:=Tryz.func321.trans (congrArg some (by kernel_rfl))
 f314:=Tryz.func331.trans (congrArg some (by kernel_rfl))
 t0:=Tryz.underlying0
 a0:=Tryz.isAgg0
 z0:=Tryz.sizeOf0
 v0:=Tryz.zeroValue0
 t3:=Tryz.underlying3
 a3:=Tryz.isAgg3
 z3:=Tryz.sizeOf3
 v3:=Tryz.zeroValue3
 t4:=Tryz.underlying4
 a4:=Tryz.isAgg4
 z4:=Tryz.sizeOf4
 v4:=Tryz.zeroValue4
 t5:=Tryz.underlying5
 a5:=Tryz.isAgg5
 z5:=Tryz.sizeOf5
 v5:=Tryz.zeroValue5
 t9:=Tryz.underlying9
 a9:=Tryz.isAgg9
 z9:=Tryz.sizeOf9
 v9:=Tryz.zeroValue9
 t20:=Tryz.underlying20
 a20:=Tryz.isAgg20
 z20:=Tryz.sizeOf20
 v20:=Tryz.zeroValue20
 t21:=Tryz.underlying21
 a21:=Tryz.isAgg21
 z21:=Tryz.sizeOf21
 v21:=Tryz.zeroValue21
 t37:=Tryz.underlying59
 a37:=Tryz.isAgg59
 z37:=Tryz.sizeOf59
 v37:=Tryz.zeroValue59
 t46:=Tryz.underlying267
 a46:=Tryz.isAgg267
 z46:=Tryz.sizeOf267
 v46:=Tryz.zeroValue267
 t51:=Tryz.underlying318
 a51:=Tryz.isAgg318
 z51:=Tryz.sizeOf318
 v51:=Tryz.zeroValue318
 t70:=Tryz.underlying186
 a70:=Tryz.isAgg186
 z70:=Tryz.sizeOf186
 v70:=Tryz.zeroValue186
 t72:=Tryz.underlying188
 a72:=Tryz.isAgg188
 z72:=Tryz.sizeOf188
 v72:=Tryz.zeroValue188
 t75:=Tryz.underlying253
 a75:=Tryz.isAgg253
 z75:=Tryz.sizeOf253
 v75:=Tryz.zeroValue253
 t76:=Tryz.underlying254
 a76:=Tryz.isAgg254
 z76:=Tryz.sizeOf254
 v76:=Tryz.zeroValue254
 t105:=Tryz.underlying308
 a105:=Tryz.isAgg308
 z105:=Tryz.sizeOf308
 v105:=Tryz.zeroValue308
 t119:=Tryz.underlying330
 a119:=Tryz.isAgg330
 z119:=Tryz.sizeOf330
 t127:=Tryz.underlying256
 a127:=Tryz.isAgg256
 z127:=Tryz.sizeOf256
 v127:=Tryz.zeroValue256
 t138:=Tryz.underlying332
 a138:=Tryz.isAgg332
 z138:=Tryz.sizeOf332
 v138:=Tryz.zeroValue332
 t139:=Tryz.underlying333
 a139:=Tryz.isAgg333
 z139:=Tryz.sizeOf333
 v139:=Tryz.zeroValue333
 t146:=Tryz.underlying319
 a146:=Tryz.isAgg319
 z146:=Tryz.sizeOf319
 v146:=Tryz.zeroValue319
 t164:=Tryz.underlying315
 a164:=Tryz.isAgg315
 z164:=Tryz.sizeOf315
 v164:=Tryz.zeroValue315
 g1:=by kernel_rfl
 g3:=by kernel_rfl
 g4:=by kernel_rfl}
theorem Tryz.Builder_Extra_155:Builder.Extra Tryz.prog Tryz.lays155_ren:={
 sizeBuilder:=by kernel_rfl
 liesBuilder:=by kernel_rfl
 t5:=Tryz.underlying5
 a5:=Tryz.isAgg5
 z5:=Tryz.sizeOf5
 v5:=Tryz.zeroValue5
 infoByte:=by kernel_rfl
 cellsByte:=by kernel_rfl
 sizeByte:=by kernel_rfl
 neB5:=by decide}
open Go.RowKit Go.Lib in
theorem Tryz.strings_ReplaceAll (s old new:ByteArray) (m:Int) (w:World) (hs:s.size<4294967281) (hm:w.cell? ⟨0,0,none⟩=some (.int .i64 m)) (h1:1<=old.size) (hlen:s.size+Lib.countB s old*new.size<=140737488355328):
  Calls Tryz.prog 146 #[.string s,.string old,.string new] w fun e w'=>
   e= .returned (.string ⟨(Lib.replaceAll s.data.toList old.data.toList new.data.toList).toArray⟩)/\Below w.heap.size w w':=Any.strings_ReplaceAll Tryz.lays155 Tryz.Builder_Extra_155 s old new m w hs hm h1 hlen
end Go.Proofs
end
section
namespace Go.TVF
open Go.IntKind(i64 u8)
open Go Go.Proofs
open Go.RowKit (Below)
def NU (q:UInt8) (new:B8) (c:UInt8):B8:=if c=q then new else [c]
theorem Xi (q:UInt8):∀s:B8,(Lib.index s [q]= -1/\q∉s)∨∃i:Nat,Lib.index s [q]=i/\q∉s.take i/\i<s.length/\s=s.take i++q::s.drop (i+1)
 | []=> .inl ⟨by simp[Lib.index],by simp⟩
 | c::l=>by
  have hp: [q].isPrefixOf (c::l)=(q==c):=by simp[List.isPrefixOf]
  unfold Lib.index
  rw[hp]
  by_cases hc:q=c
  ·subst hc
   exact .inr ⟨0,by simp,by simp,by simp,by simp⟩
  ·have hb:(q==c)=false:=by simpa using hc
   rw[hb]
   rcases Xi q l with⟨h1,h2⟩ | ⟨i,h1,h2,h3,h4⟩
   ·left
    rw[h1]
    exact⟨by simp,by simp[hc,h2]⟩
   ·right
    refine⟨i+1,?_,?_,by simp;omega,?_⟩
    ·rw[h1]
     have:((i:Int)== -1)=false:=by simp
     simp[this]
    ·simp[hc,h2]
    ·simp only[List.take_succ_cons,List.drop_succ_cons,List.cons_append]
     rw[<-h4]
theorem JT (q:UInt8) (new:B8):∀s:B8,q∉s->s.flatMap (NU q new)=s
 | [],_=>rfl
 | c::l,h=>by
  simp only[List.mem_cons,not_or]at h
  rw[List.flatMap_cons,JT q new l h.2]
  simp[NU,Ne.symm h.1]
theorem count1 (q:UInt8) (new:B8):∀(n:Nat) (s:B8),s.length<=n->Lib.count s [q]<=s.length/\Lib.replaceK [q] new (Lib.count s [q]) s=s.flatMap (NU q new):=by
 intro n
 induction n with
 | zero=>
  intro s hs
  have:s=[]:=List.eq_nil_of_length_eq_zero (by omega)
  subst this
  rw[Lib.count_miss (by simp[Lib.index])]
  exact⟨by simp,rfl⟩
 | succ n ih=>
  intro s hs
  rcases Xi q s with⟨h1,h2⟩ | ⟨i,h1,h2,h3,h4⟩
  ·rw[Lib.count_miss h1]
   exact⟨by simp,by rw[JT q new s h2];rfl⟩
  ·rw[Lib.count_hit (by simp) h1]
   obtain⟨c1,c2⟩:=ih (s.drop (i+1)) (by simp;omega)
   have hl: [q].length=1:=rfl
   rw[hl]
   refine⟨by simp at c1⊢;omega,?_⟩
   rw[Nat.add_comm,Lib.replaceK_hit _ _ _ _ i h1,hl,c2]
   conv=>rhs;rw[h4]
   rw[List.flatMap_append,List.flatMap_cons,JT q new _ h2]
   simp[NU]
theorem N6 {g:Ghost} {w:World} {x y z:TV} {vs:List Value} (h:AK g w [x,y,z] vs):∃v u t,vs=[v,u,t]/\Rel g w x v/\Rel g w y u/\Rel g w z t:=by
 obtain⟨v,h1,h2⟩:=h.get? (i:=0) rfl
 obtain⟨u,h3,h4⟩:=h.get? (i:=1) rfl
 obtain⟨t,h5,h6⟩:=h.get? (i:=2) rfl
 have hl:=h.1
 match vs,hl with
 | [a,b,c],_=>simp at h1 h3 h5;subst h1 h3 h5;exact⟨_,_,_,rfl,h2,h4,h6⟩
theorem Kg {s:B8} {q a b:UInt8} {st:St} {K:B8->St->Prop} (hne: [q]≠ [a,b]) (hl:s.length<=2000000000) (hk:K (s.flatMap (NU q [a,b])) st):
  CallT PR AE [.str s,.str [q],.str [a,b]] [.one (.str)] st K:=by
 refine Dn (fun _ _=>Tryz.call146 _ _) fun g w vargs sim hr=>?_
 obtain⟨v1,v2,v3,rfl,h1,h2,h3⟩:=N6 hr
 rw[Bq h1,Bq h2,Bq h3]
 obtain⟨_,m,hm⟩:=sim.glob w sim.below
 obtain⟨c1,c2⟩:=count1 q [a,b] s.length s (Nat.le_refl _)
 have hcB:Lib.countB ⟨s.toArray⟩ ⟨#[q]⟩=Lib.count s [q]:=rfl
 refine Calls.mono (Tryz.strings_ReplaceAll ⟨s.toArray⟩ ⟨#[q]⟩ ⟨#[a,b]⟩ m w ?_ hm ?_ ?_) ?_
 ·show s.toArray.size<_
  simp;omega
 ·show 1<=(#[q]:Array UInt8).size
  simp
 ·rw[hcB]
  show s.toArray.size+_*(#[a,b]:Array UInt8).size<=_
  simp;omega
 ·rintro e w' ⟨rfl,hb⟩
  obtain⟨s',e'⟩:=sim.grown hb
  have hv:Lib.replaceAll s [q] [a,b]=s.flatMap (NU q [a,b]):=by
   unfold Lib.replaceAll Lib.replace
   rw[if_neg (by simp),<-c2]
   congr 1
  refine⟨_,rfl,.str (s.flatMap (NU q [a,b])),st,g,hk,s',?_,e'⟩
  show Rel g w' _ (.string ⟨(Lib.replaceAll s [q] [a,b]).toArray⟩)
  rw[hv]
  exact Rel.str _
end Go.TVF
end
namespace Go.TVF
open Go.IntKind(i64 u8)
open Go Go.Proofs
def letB (c:Int):Bool:=decide (97<=c/\c<=122∨65<=c/\c<=90)
def Cc (c:Int):Bool:=decide (97<=c/\c<=122∨65<=c/\c<=90∨48<=c/\c<=57∨c=43∨c=45∨c=46∨c=58)
def dOk (a b:Int):Bool:=decide (((a=9∨(32<=a/\a<=126))/\33<=b/\b<=126/\a≠b)/\Cc a=false/\Cc b=false)
def lOk (a b c d e:Int):Bool:=decide (1<=a/\a<=48/\1<=b/\b<=65536/\1<=c/\c<=1048576/\0<=d/\d<=1024/\0<=e/\e<=65536)
theorem TQ {c:Int} {st:St} {K:Bool->St->Prop} (hk:K (letB c) st):CallT PR Fh [.int .u8 c] [.one (.bool)] st K:=by
 unfold letB at hk
 refine M8 c st K ?_
 repeat' first
  | exact BJ (decide_eq_true (by omega)).symm hk
  | exact BJ (decide_eq_false (by omega)).symm hk
  | exact BJ (decide_eq_decide.2 (by omega)) hk
  | refine Aa (fun _=>?_) fun _=>?_
theorem NX {c:Int} {st:St} {K:Bool->St->Prop} (hk:K (Cc c) st):CallT PR BI [.int .u8 c] [.one (.bool)] st K:=by
 unfold Cc at hk
 refine LJ c st K (TQ (Al (fun h=>?_) fun h=>?_))
 ·have h:=of_decide_eq_true h
  exact BJ (decide_eq_true (by omega)).symm hk
 ·have h:=of_decide_eq_false h
  repeat' first
   | exact BJ (decide_eq_true (by omega)).symm hk
   | exact BJ (decide_eq_false (by omega)).symm hk
   | exact BJ (decide_eq_decide.2 (by omega)) hk
   | refine Aa (fun _=>?_) fun _=>?_
theorem Ms {a b:Int} {x y:Bool} {st:St} {K:Bool->St->Prop} (hk:K (dOk a b) st):CallT PR Dd [.agg [.int .u8 a,.int .u8 b,.bool x,.bool y]] [.one (.bool)] st K:=by
 unfold dOk at hk
 have no:¬(((a=9∨(32<=a/\a<=126))/\33<=b/\b<=126/\a≠b)/\Cc a=false/\Cc b=false)->K false st:=fun h=>BJ (decide_eq_false h).symm hk
 have yes:((a=9∨(32<=a/\a<=126))/\33<=b/\b<=126/\a≠b)->Cc a=false->K (!Cc b) st:=fun h h1=>by
  cases hb:Cc b with
  | true=>exact no fun hh=>by rw[hb]at hh;exact absurd hh.2.2 (by decide)
  | false=>exact BJ (decide_eq_true ⟨h,h1,hb⟩).symm hk
 refine NK a b x y st K ?_
 repeat' first
  | exact no (by omega)
  | refine Aa (fun _=>?_) fun _=>?_
 all_goals
  refine NX (Al (fun h=>?_) fun h=>no fun hh=>by rw[hh.2.1]at h;cases h)
  simp only[Bool.not_eq_true']at h
  exact NX (yes (by omega) h)
theorem UJ {c:Int} {st:St} {K:Bool->St->Prop} (hk:K (!Cc c) st):CallT PR A7 [.int .u8 c] [.one (.bool)] st K:=by
 have e:∀b,b= !Cc c->K b st:=fun b h=>h▸hk
 unfold Cc at e
 refine IW c st K (VQ (Al (fun h=>Su (Al (fun h2=>?_) fun h2=>?_)) fun h=>?_))
 all_goals simp only[Lp,Jy,Bool.not_eq_true',Bool.not_eq_false',decide_eq_true_eq,decide_eq_false_iff_not]at h
 ·simp only[Lp,Jy,Bool.not_eq_true',Bool.not_eq_false',decide_eq_true_eq,decide_eq_false_iff_not]at h2
  repeat' first
   | refine Aa (fun _=>?_) fun _=>?_
  all_goals
   refine e _ ?_
   rw[<-decide_not]
   first
    | exact decide_eq_decide.2 (by omega)
    | exact(decide_eq_false (by omega)).symm
 ·simp only[Lp,Jy,Bool.not_eq_true',Bool.not_eq_false',decide_eq_true_eq,decide_eq_false_iff_not]at h2
  exact e _ (by rw[<-decide_not];exact(decide_eq_false (by omega)).symm)
 ·exact e _ (by rw[<-decide_not];exact(decide_eq_false (by omega)).symm)
theorem N8 {a b:Int} {x y:Bool} {st:St} {K:Bool->St->Prop} (hk:K (dOk a b) st):CallT PR BQ [.agg [.int .u8 a,.int .u8 b,.bool x,.bool y]] [.one (.bool)] st K:=by
 unfold dOk at hk
 have no:¬(((a=9∨(32<=a/\a<=126))/\33<=b/\b<=126/\a≠b)/\Cc a=false/\Cc b=false)->K false st:=fun h=>BJ (decide_eq_false h).symm hk
 have yes:((a=9∨(32<=a/\a<=126))/\33<=b/\b<=126/\a≠b)->Cc a=false->K (!Cc b) st:=fun h h1=>by
  cases hb:Cc b with
  | true=>exact no fun hh=>by rw[hb]at hh;exact absurd hh.2.2 (by decide)
  | false=>exact BJ (decide_eq_true ⟨h,h1,hb⟩).symm hk
 refine Ii a b x y st K ?_
 repeat' first
  | exact no (by omega)
  | refine Aa (fun _=>?_) fun _=>?_
 all_goals
  refine UJ (Al (fun h=>?_) fun h=>no fun hh=>by rw[hh.2.1]at h;cases h)
  simp only[Bool.not_eq_true']at h
  exact UJ (yes (by omega) h)
theorem Tw {a b c d e:Int} {st:St} {K:Bool->St->Prop} (hk:K (lOk a b c d e) st):CallT PR F4 [.agg [.int .i64 a,.int .i64 b,.int .i64 c,.int .i64 d,.int .i64 e]] [.one (.bool)] st K:=by
 unfold lOk at hk
 refine NI a b c d e st K ?_
 repeat' first
  | exact BJ (decide_eq_false (by omega)).symm hk
  | exact BJ (decide_eq_decide.2 (by omega)) hk
  | refine Aa (fun _=>?_) fun _=>?_
def Jh:B8:=[116,114,117,101]
def HL:B8:=[102,97,108,115,101]
def Ft (ty qd:Bool) (s:B8):Sc:=
 if ty=false∨qd=true then tkT s else if s=[]then scK 0 else if s=Jh then tkB true else if s=HL then tkB false
 else if (dcP s).2.2.2=0 then tkN (dcP s).1 (dcP s).2.1 (dcP s).2.2.1
 else if (tmP s).2.2.2.2=0 then tkM (tmP s).1 (tmP s).2.1 (tmP s).2.2.1 (tmP s).2.2.2.1 else tkT s
theorem E8 (ty qd:Bool) (s:B8):(Ft ty qd s).bytes=[]:=by
 unfold Ft
 repeat' split
 all_goals rfl
theorem SI {s:B8} {k:Nat} {c:UInt8} (hc:c≠0) (h:b0 s k=c):s=s.take k++c::s.drop (k+1):=by
 have hk:=LE hc h
 have h1:s.drop k=c::s.drop (k+1):=by
  rw[List.drop_eq_getElem_cons hk]
  congr 1
  unfold b0 at h
  rw[List.getD_eq_getElem?_getD,List.getElem?_eq_getElem hk]at h
  exact h
 rw[<-h1,List.take_append_drop]
theorem Uz {s:B8} {k:Nat} (h:∀i,i<k->AP (b0 s i)):∀d,d∈s.take k->AP d:=by
 intro d hd
 obtain⟨i,hi,rfl⟩:=List.mem_iff_getElem.1 hd
 rw[List.length_take]at hi
 have:=h i (by omega)
 unfold b0 at this
 rw[List.getD_eq_getElem?_getD,List.getElem?_eq_getElem (by omega)]at this
 rw[List.getElem_take]
 exact this
theorem Vm {s:B8} (h:(tmP s).2.2.2.2=0):(dcP s).2.2.2=3:=by
 have key:∃a c r,s=a++c::r/\a≠ []/\(∀d,d∈a->AP d)/\(c=45∨c=58):=by
  by_cases hd:DJ s
  ·obtain⟨⟨h0,h1⟩,⟨h2,h3⟩,h4,_⟩:=hd
   have e:=SI (by decide) h4
   refine⟨_,_,_,e,fun h=>?_,Uz fun i hi=>?_,.inl rfl⟩
   ·have:=LE (by decide) h4
    have h':=congrArg List.length h
    rw[List.length_take,List.length_nil]at h';omega
   ·have:i=0∨i=1∨i=2∨i=3:=by omega
    rcases this with rfl | rfl | rfl | rfl<;>assumption
  ·have hc:Jv s:=by
    apply Decidable.byContradiction
    intro hn
    unfold tmP at h
    rw[if_neg hd]at h
    have:Gb s=none:=by unfold Gb;rw[if_neg hn]
    rw[this]at h
    exact absurd h (by decide)
   obtain⟨⟨h0,h1⟩,h4,_⟩:=hc
   have e:=SI (by decide) h4
   refine⟨_,_,_,e,fun h=>?_,Uz fun i hi=>?_,.inr rfl⟩
   ·have:=LE (by decide) h4
    have h':=congrArg List.length h
    rw[List.length_take,List.length_nil]at h';omega
   ·have:i=0∨i=1:=by omega
    rcases this with rfl | rfl<;>assumption
 obtain⟨a,c,r,e,h1,h2,h3⟩:=key
 have hh:AP (s.getD 0 0):=by rw[e];exact headDg h2 h1
 refine(QU _).2 ?_
 rw[show DQ s=0 from if_neg fun e=>by rw[e]at hh;revert hh;decide,List.drop_zero,e]
 exact not_isQ h2 h3
theorem VM {s:B8} (h:isQ (s.drop (DQ s))):(tmP s).2.2.2.2≠0:=fun h2=>by
 have h3:=Vm h2
 have h4:=(QU s).1 h
 unfold okE at h4;omega
theorem s45:Cc ((45:UInt8).toNat:Int)=true:=by decide
theorem s46:Cc ((46:UInt8).toNat:Int)=true:=by decide
theorem s58:Cc ((58:UInt8).toNat:Int)=true:=by decide
theorem s101:Cc ((101:UInt8).toNat:Int)=true:=by decide
theorem s84:Cc ((84:UInt8).toNat:Int)=true:=by decide
theorem s90:Cc ((90:UInt8).toNat:Int)=true:=by decide
theorem s43:Cc ((43:UInt8).toNat:Int)=true:=by decide
theorem s48:Cc ((48:UInt8).toNat:Int)=true:=by decide
noncomputable def plT (s:Sc):B8:=if s.kind=1 then(if s.b then Jh else HL)else if s.kind=2 then dcT s.neg s.dg s.ex else if s.kind=3 then NS s.tk s.td s.tn s.tz else []
def by_ (s:B8) (i:Nat):Int:=((s.getD i 0).toNat:Int)
def IH (q:Int):B8->Nat->Option Nat
 | [],_=>none
 | [c],i=>if (c.toNat:Int)=q then some (i+1)else none
 | c::c2::l,i=>if (c.toNat:Int)=q then(if (c2.toNat:Int)=q then IH q l (i+2)else some (i+1))else IH q (c2::l) (i+1)
def R6 (a q:Int):B8->Nat->Except Nat Nat
 | [],i=> .ok i
 | c::l,i=>if (c.toNat:Int)=a∨(c.toNat:Int)=10∨(c.toNat:Int)=13 then .ok i else if (c.toNat:Int)=q then .error i else R6 a q l (i+1)
def QE (q:Int) (s:B8) (i:Nat):Option Nat:=IH q (s.drop i) i
def PE (a q:Int) (s:B8) (i:Nat):Except Nat Nat:=R6 a q (s.drop i) i
theorem Gz {s:B8} {i:Nat} (h:i<s.length):∃c,s.drop i=c::s.drop (i+1)/\(c.toNat:Int)=by_ s i:=by
 refine⟨s[i],List.drop_eq_getElem_cons h,?_⟩
 unfold by_
 rw[List.getD_eq_getElem?_getD,List.getElem?_eq_getElem h];rfl
theorem Ur {q:Int} {s:B8} {i:Nat} (h:s.length<=i):QE q s i=none:=by
 unfold QE;rw[List.drop_of_length_le h];rfl
theorem SM {q:Int} {s:B8} {i:Nat} (h:i<s.length) (hb:by_ s i≠q):QE q s i=QE q s (i+1):=by
 obtain⟨c,hd,hc⟩:=Gz h
 unfold QE
 rw[hd]
 cases hr:s.drop (i+1)with
 | nil=>simp only[IH];rw[if_neg (by omega)]
 | cons c2 l=>simp only[IH];rw[if_neg (by omega)]
theorem Ra {q:Int} {s:B8} {i:Nat} (h:i<s.length) (hb:by_ s i=q) (h2:i+1<s.length->by_ s (i+1)≠q):QE q s i=some (i+1):=by
 obtain⟨c,hd,hc⟩:=Gz h
 unfold QE
 rw[hd]
 by_cases hl:i+1<s.length
 ·obtain⟨c2,hd2,hc2⟩:=Gz hl
  rw[hd2]
  simp only[IH]
  rw[if_pos (by omega),if_neg (by have:=h2 hl;omega)]
 ·rw[List.drop_of_length_le (by omega)]
  simp only[IH];rw[if_pos (by omega)]
theorem Vf {q:Int} {s:B8} {i:Nat} (h:i+1<s.length) (hb:by_ s i=q) (h2:by_ s (i+1)=q):QE q s i=QE q s (i+2):=by
 obtain⟨c,hd,hc⟩:=Gz (show i<s.length by omega)
 obtain⟨c2,hd2,hc2⟩:=Gz h
 unfold QE
 rw[hd,hd2]
 simp only[IH]
 rw[if_pos (by omega),if_pos (by omega)]
theorem Rb {a q:Int} {s:B8} {i:Nat} (h:s.length<=i):PE a q s i= .ok i:=by
 unfold PE;rw[List.drop_of_length_le h];rfl
theorem Ny {a q:Int} {s:B8} {i:Nat} (h:i<s.length) (hb:by_ s i=a∨by_ s i=10∨by_ s i=13):PE a q s i= .ok i:=by
 obtain⟨c,hd,hc⟩:=Gz h
 unfold PE;rw[hd];simp only[R6];rw[if_pos (by rw[hc];exact hb)]
theorem Vh {a q:Int} {s:B8} {i:Nat} (h:i<s.length) (hb:¬(by_ s i=a∨by_ s i=10∨by_ s i=13)) (hq:by_ s i=q):PE a q s i= .error i:=by
 obtain⟨c,hd,hc⟩:=Gz h
 unfold PE;rw[hd];simp only[R6];rw[if_neg (by rw[hc];exact hb),if_pos (by omega)]
theorem Vg {a q:Int} {s:B8} {i:Nat} (h:i<s.length) (hb:¬(by_ s i=a∨by_ s i=10∨by_ s i=13)) (hq:by_ s i≠q):PE a q s i=PE a q s (i+1):=by
 obtain⟨c,hd,hc⟩:=Gz h
 unfold PE;rw[hd];simp only[R6];rw[if_neg (by rw[hc];exact hb),if_neg (by omega)]
def Cj (a q:Int) (s:B8) (i:Nat):Except (Nat×Int) Nat:=
 if i<s.length/\by_ s i=q then(match QE q s (i+1)with | some e=> .ok e | none=> .error (s.length,4))
 else match PE a q s i with | .ok e=> .ok e | .error o=> .error (o,3)
def slc (s:B8) (i e:Nat):B8:=(s.take e).drop i
def ST (q:Int):B8->B8
 | []=>[]
 | [c]=>[c]
 | c::c2::l=>if (c.toNat:Int)=q then c::ST q l else c::ST q (c2::l)
def txt (q:Int) (c:B8):B8:=if c=[]∨by_ c 0≠q then c else ST q ((c.take (c.length-1)).drop 1)
def D2 (s:B8) (i:Nat):Except (Nat×Int) Nat:=
 if s.length<=i then .ok 0 else if by_ s i=10 then .ok 1 else if by_ s i≠13 then .error (i,3)else if s.length<=i+1 then .error (s.length,4)else if by_ s (i+1)=10 then .ok 2 else .error (i,3)
def Ge (dep nod:Int) (d:Int) (i:Nat) (v:Int):Except (Nat×Int) Int:=if dep<d then .error (i,9)else if nod<=v then .error (i,10)else .ok (v+1)
structure Cx where
 s:B8
 a:Int
 q:Int
 dep:Int
 nod:Int
def EP (x:Cx) (hd:Bool) (i:Nat) (v:Int) (ns:List B8):Except (Nat×Int) (Nat×Int×List B8):=do
 let v1<-if hd then .ok v else Ge x.dep x.nod 3 i v
 let e<-Cj x.a x.q x.s i
 let t:=txt x.q (slc x.s i e)
 if (if hd then 1024 else 65536)<t.length then .error (i,10)
 else if hd/\t∈ns then .error (i,8)
 else .ok (e,v1,if hd then t::ns else ns)
def KP (s:B8) (i e:Nat) (mark:List Nd):Nd:= .mk 5 [] [] (.mk 2 [] (slc s i e) [] []::mark) []
def Ck (x:Cx) (num:Bool) (wid:Int) (hd:Bool):Nat->List Nd->Nat->Int->List B8->Except (Nat×Int) (Nat×Int×List B8×List Nd)
 | 0,_,_,_,_=> .error (0,0)
 | n+1,acc,i,v,ns=>
  if num/\wid<=acc.length then .error (i,10)else do
   let (e,v1,ns1)<-EP x hd i v ns
   if e<x.s.length/\by_ x.s e=x.a then Ck x num wid hd n (acc++[KP x.s i e [.mk 11 [] [x.s.getD e 0] [] []]]) (e+1) v1 ns1
   else do
    let _<-D2 x.s e
    .ok (e,v1,ns1,acc++[KP x.s i e []])
def dbl (c:UInt8) (t:B8):B8:=t.flatMap (NU c [c,c])
theorem En (c b:UInt8) (t:B8):dbl c (b::t)=(if b=c then [c,c]else [b])++dbl c t:=by
 simp[dbl,NU]
theorem VH {q:Int} {c:UInt8} (hc:(c.toNat:Int)=q):∀(n:Nat) (l:B8) (i e:Nat),l.length<=n->IH q l i=some e->∃t rest,l=dbl c t++c::rest/\e=i+(dbl c t).length+1:=by
 have heq:∀b:UInt8,(b.toNat:Int)=q↔b=c:=fun b=>⟨fun h=>UInt8.toNat_inj.1 (by omega),fun h=>by rw[h];exact hc⟩
 intro n
 induction n with
 | zero=>intro l i e hl h;have:l=[]:=List.eq_nil_of_length_eq_zero (by omega);subst this;simp[IH]at h
 | succ n ih=>
  intro l i e hl h
  match l,hl,h with
  | [],_,h=>simp[IH]at h
  | [b],_,h=>
   simp only[IH]at h
   split at h
   ·rename_i hb
    cases h
    exact⟨[],[],by rw[(heq b).1 hb];rfl,rfl⟩
   ·cases h
  | b::b2::l,hl,h=>
   simp only[IH]at h
   split at h
   ·rename_i hb
    have hb:=(heq b).1 hb
    split at h
    ·rename_i hb2
     have hb2:=(heq b2).1 hb2
     obtain⟨t,rest,h1,h2⟩:=ih l (i+2) e (by simp at hl;omega) h
     refine⟨c::t,rest,?_,?_⟩
     ·rw[hb,hb2,h1,En];simp
     ·rw[h2,En];simp;omega
    ·cases h
     exact⟨[],b2::l,by rw[hb];rfl,rfl⟩
   ·rename_i hb
    have hb:b≠c:=fun h=>hb ((heq b).2 h)
    obtain⟨t,rest,h1,h2⟩:=ih (b2::l) (i+1) e (by simp at hl⊢;omega) h
    refine⟨b::t,rest,?_,?_⟩
    ·rw[h1,En,if_neg hb];simp
    ·rw[h2,En,if_neg hb];simp;omega
theorem Ru {q:Int} {c:UInt8} (hc:(c.toNat:Int)=q):∀t:B8,ST q (dbl c t)=t
 | []=>rfl
 | b::t=>by
  have ih:=Ru hc t
  rw[En]
  by_cases hb:b=c
  ·subst hb
   simp only[if_true,List.cons_append,List.nil_append,ST]
   rw[if_pos hc,ih]
  ·rw[if_neg hb]
   have hb':(b.toNat:Int)≠q:=fun h=>hb (UInt8.toNat_inj.1 (by omega))
   simp only[List.cons_append,List.nil_append]
   cases hd:dbl c t with
   | nil=>rw[hd]at ih;simp only[ST]at ih⊢;rw[<-ih]
   | cons b2 l=>simp only[ST];rw[if_neg hb',<-hd,ih]
theorem MC (c:UInt8):∀t:B8,c∉t∨∃a b,t=a++c::b/\c∉a
 | []=> .inl (by simp)
 | d::t=>by
  by_cases h:d=c
  ·exact .inr ⟨[],t,by rw[h];rfl,by simp⟩
  ·rcases MC c t with h1 | ⟨a,b,h1,h2⟩
   ·exact .inl (by simp[Ne.symm h,h1])
   ·exact .inr ⟨d::a,b,by rw[h1];rfl,by simp[Ne.symm h,h2]⟩
theorem Sx {c:UInt8} {t:B8} (h:c∉t):dbl c t=t:=JT c [c,c] t h
theorem QV (c:UInt8) (a b:B8):dbl c (a++b)=dbl c a++dbl c b:=by simp[dbl]
theorem Ml (c:UInt8) (l:B8):∀a:B8,c∉a->Lib.index (a++l) [c,c]=if Lib.index l [c,c]= -1 then-1 else Lib.index l [c,c]+a.length
 | [],_=>by simp
 | d::a,h=>by
  simp only[List.mem_cons,not_or]at h
  have hp: [c,c].isPrefixOf (d::(a++l))=false:=by simp[List.isPrefixOf,h.1]
  rw[List.cons_append,Lib.index,hp,Ml c l a h.2]
  have hge:=Lib.index_ge l [c,c]
  by_cases hm:Lib.index l [c,c]= -1
  ·simp[hm]
  ·have:¬(Lib.index l [c,c]+(a.length:Int)= -1):=by omega
   simp[hm,this];omega
theorem count2 (c:UInt8):∀(n:Nat) (t:B8),t.length<=n->Lib.count (dbl c t) [c,c]<=t.length/\Lib.replaceK [c,c] [c] (Lib.count (dbl c t) [c,c]) (dbl c t)=t:=by
 intro n
 induction n with
 | zero=>
  intro t ht
  have:t=[]:=List.eq_nil_of_length_eq_zero (by omega)
  subst this
  have h0:Lib.count (dbl c []) [c,c]=0:=Lib.count_miss (by simp[dbl,Lib.index])
  rw[h0];exact⟨by simp,rfl⟩
 | succ n ih=>
  intro t ht
  rcases MC c t with h | ⟨a,b,h1,h2⟩
  ·rw[Sx h]
   have:Lib.index t [c,c]= -1:=by
    have:=Ml c [] t h
    simpa [Lib.index]using this
   rw[Lib.count_miss this]
   exact⟨by simp,rfl⟩
  ·have hd:dbl c t=a++(c::c::dbl c b):=by rw[h1,QV,Sx h2,En,if_pos rfl];rfl
   have hi:Lib.index (dbl c t) [c,c]=(a.length:Nat):=by
    have h0:Lib.index (c::c::dbl c b) [c,c]=0:=by simp[Lib.index,List.isPrefixOf]
    rw[hd,Ml c _ a h2,h0];simp
   have hdr:(dbl c t).drop (a.length+ [c,c].length)=dbl c b:=by
    rw[hd,<-List.drop_drop,List.drop_left];rfl
   have hlen:t.length=a.length+1+b.length:=by rw[h1];simp;omega
   obtain⟨c1,c2⟩:=ih b (by omega)
   rw[Lib.count_hit (by simp) hi,hdr]
   refine⟨by omega,?_⟩
   rw[Nat.add_comm,Lib.replaceK_hit _ _ _ _ _ hi,hdr,c2,hd,List.take_left,h1]
   simp
theorem Rv {s t:B8} {c:UInt8} {st:St} {K:B8->St->Prop} (hs:s=dbl c t) (hl:s.length<=2000000000) (hk:K t st):
  CallT PR AE [.str s,.str [c,c],.str [c]] [.one (.str)] st K:=by
 refine Dn (fun _ _=>Tryz.call146 _ _) fun g w vargs sim hr=>?_
 obtain⟨v1,v2,v3,rfl,h1,h2,h3⟩:=N6 hr
 rw[Bq h1,Bq h2,Bq h3]
 obtain⟨_,m,hm⟩:=sim.glob w sim.below
 obtain⟨c1,c2⟩:=count2 c t.length t (Nat.le_refl _)
 have hcB:Lib.countB ⟨s.toArray⟩ ⟨#[c,c]⟩=Lib.count s [c,c]:=rfl
 have hts:t.length<=s.length:=by
  rw[hs]
  clear hs hl h1 c1 c2 hk hcB
  induction t with
  | nil=>simp
  | cons b t ih=>rw[En];split<;>simp<;>omega
 refine Calls.mono (Tryz.strings_ReplaceAll ⟨s.toArray⟩ ⟨#[c,c]⟩ ⟨#[c]⟩ m w ?_ hm ?_ ?_) ?_
 ·show s.toArray.size<_
  simp;omega
 ·show 1<=(#[c,c]:Array UInt8).size
  simp
 ·rw[hcB]
  show s.toArray.size+_*(#[c]:Array UInt8).size<=_
  rw[hs]at hl hts⊢
  simp;omega
 ·rintro e w' ⟨rfl,hb⟩
  obtain⟨s',e'⟩:=sim.grown hb
  have hv:Lib.replaceAll s [c,c] [c]=t:=by
   unfold Lib.replaceAll Lib.replace
   rw[if_neg (by simp),hs]
   exact c2
  refine⟨_,rfl,.str t,st,g,hk,s',?_,e'⟩
  show Rel g w' _ (.string ⟨(Lib.replaceAll s [c,c] [c]).toArray⟩)
  rw[hv]
  exact Rel.str _
def SO (q:Int) (cl:B8):Prop:=cl=[]∨by_ cl 0≠q∨∃c t,(c.toNat:Int)=q/\cl=c::(dbl c t++[c])
theorem SX {q:Int} {c:UInt8} {t:B8} (hc:(c.toNat:Int)=q):txt q (c::(dbl c t++[c]))=t:=by
 unfold txt
 rw[if_neg (by simp[by_,hc])]
 have:((c::(dbl c t++[c])).take ((c::(dbl c t++[c])).length-1)).drop 1=dbl c t:=by
  simp
 rw[this,Ru hc]
theorem NT {cl:B8} {a q:Int} {x y:Bool} (hw:SO q cl) (hl:cl.length<=2000000) {st:St} {K:B8->Bool->St->Prop} (hk:∀st',Ap st st'->K (txt q cl) (decide (¬(cl=[]∨by_ cl 0≠q))) st'):
  CallT PR CF [.str cl,.agg [.int .u8 a,.int .u8 q,.bool x,.bool y]] [.one (.str),.one (.bool)] st K:=by
 have hk:=hk st (Ap.refl st)
 refine O3 cl a q x y st K (Aa (fun g=>?_) fun g=>⟨⟨by omega,?_⟩,Aa (fun g2=>?_) fun g2=>?_⟩)
 ·subst g
  unfold txt at hk
  simpa using hk
 ·cases cl with
  | nil=>exact absurd rfl g
  | cons b l=>simp
 ·have g2':by_ cl 0≠q:=g2
  unfold txt at hk
  rw[if_pos (.inr g2')]at hk
  simpa [g2']using hk
 ·have g2':¬by_ cl 0≠q:=g2
  rcases hw with h | h | ⟨c,t,hc,h⟩
  ·exact absurd h g
  ·exact absurd h g2'
  subst h
  rw[SX hc]at hk
  have htb:toBytes st (.list 1 .full 1 [.int .u8 q])=some [c]:=by
   have:UInt8.ofNat q.toNat=c:=by rw[<-hc];simp
   rw[<-this];rfl
  have hlen:(c::(dbl c t++[c])).length=(dbl c t).length+2:=by simp
  rw[hlen]at hl
  have hw64:i64.wrap (((c::(dbl c t++[c])).length:Int)-1)=(((dbl c t).length+1:Nat):Int):=by
   rw[hlen,Af _ (by omega) (by omega)];omega
  rw[htb]
  refine Ad rfl (show Ag .str (.str [c]) _ from⟨⟨by omega,by rw[hw64];omega,by rw[hw64,hlen];omega⟩,by simp,?_⟩)
  rw[hw64]
  have hin:List.drop (Int.toNat 1) (List.take (Int.toNat (((dbl c t).length+1:Nat):Int)) (c::(dbl c t++[c])))=dbl c t:=by
   simp
  rw[hin]
  refine Rv rfl (by omega) ?_
  simpa [g2',hc,by_]using hk
def GM (x:Cx) (num:Bool) (wid:Int) (hd:Bool) (i:Nat) (v:Int) (ns:List B8):Except (Nat×Int) (Nat×Int×List B8×Nd×Int):=do
 let v1<-if hd then .ok v else Ge x.dep x.nod 2 i v
 let (e,v2,ns2,ks)<-Ck x num wid hd (x.s.length+1) [] i v1 ns
 let n<-D2 x.s e
 let wid':=if num then wid else(ks.length:Int)
 if (ks.length:Int)<wid' then .error (e,10)else .ok (e+n,v2,ns2,.mk 8 [] [] ks (slc x.s e (e+n)),wid')
def Ev (x:Cx) (hdr:Bool):Nat->List Nd->Nat->Int->List B8->Int->Except (Nat×Int) (List Nd)
 | 0,_,_,_,_,_=> .error (0,0)
 | n+1,acc,i,v,ns,wid=>
  if x.s.length<=i then .ok acc else do
   let (i',v',ns',r,wid')<-GM x (!acc.isEmpty) wid (hdr&&acc.isEmpty) i v ns
   Ev x hdr n (acc++[r]) i' v' ns' wid'
section
theorem Own.extXD {S:Nat->Prop} {b sz:Nat} {st st':St} {v:TV} {n:Nat} {xs:List TV} (h:Own b sz st v n xs) (e:StX S st st'):Own b sz st' v n xs:=by
 rcases h with h | ⟨tip,h,ht | ⟨id,h1,h2,h3,h4⟩⟩
 ·exact .inl h
 ·exact .inr ⟨tip,h,.inl ht⟩
 ·exact .inr ⟨tip,h,.inr ⟨id,h1,h2,Nat.lt_of_lt_of_le h3 e.nt,by rw[e.live _ h3];exact h4⟩⟩
theorem ldB {st:St} {b i:Nat} {l:List TV} {x:TV} (hb:st.box b= .cells l) (hx:l[i]? =some x):Ac st [] (.t (.box b i)) 0=some x:=by
 simp only[Ac,hb,Nat.add_zero];exact hx
theorem Fo {st:St} {b off:Nat} {x:TV} {l:List TV} {k:St->Prop} (hb:st.box b= .cells l) (hl:Nat.ble (off+1) l.length=true) (hk:∀st',StX (·=b) st st'->st'.box b= .cells (l.set off x)->k st'):stB st (.box b off) [x] k:=by
 have hl:=Nat.le_of_ble_eq_true hl
 refine⟨l,hb,by simpa using hl,hk _ (StX.put (S:=(·=b)) rfl _) ?_⟩
 rw[EW]
 rfl
def MV (st:St) (p i:Nat):Int:=match st.box p with | .cells l=>(match l[i]? with | some (TV.int _ k)=>k | _=>0) | _=>0
theorem DN {st:St} {p i:Nat} {l:List TV} {kd:IntKind} {k:Int} (hb:st.box p= .cells l) (hx:l[i]? =some (.int kd k)):MV st p i=k:=by
 simp only[MV,hb,hx]
def pcl (x:Cx) (hd ty:Bool) (l2 l3 l4:Int) (m:Nat) (i n w o e:Int):List TV:=
 [.str x.s,.int .u8 x.a,.int .u8 x.q,.bool hd,.bool ty,.int .i64 x.dep,.int .i64 x.nod,.int .i64 l2,.int .i64 l3,.int .i64 l4,.int .i64 i,.int .i64 n,.int .i64 w,.map m,.int .i64 o,.int .i64 e]
structure PSD (p m:Nat) (x:Cx) (hd ty:Bool) (l2 l3 l4:Int) (ns:List B8) (i n w o e:Int) (st:St):Prop where
 ne:p≠m
 lp:p<st.nb
 lm:m<st.nb
 bx:st.box p= .cells (pcl x hd ty l2 l3 l4 m i n w o e)
 mp:∃es,st.box m= .map es/\XW es ns
abbrev PM (p m:Nat):Nat->Prop:=fun i=>i=p∨i=m
theorem PSD.of {p m:Nat} {x:Cx} {hd ty:Bool} {l2 l3 l4:Int} {ns:List B8} {i n w o e i' n' w' o' e':Int} {st st':St} (h:PSD p m x hd ty l2 l3 l4 ns i n w o e st) (k:StX (·=p) st st')
  (b:st'.box p= .cells (pcl x hd ty l2 l3 l4 m i' n' w' o' e')):PSD p m x hd ty l2 l3 l4 ns i' n' w' o' e' st':=by
 obtain⟨es,h1,h2⟩:=h.mp
 exact⟨h.ne,Nat.lt_of_lt_of_le h.lp k.nb,Nat.lt_of_lt_of_le h.lm k.nb,b,es,by rw[k.box _ h.lm (fun g=>h.ne g.symm)];exact h1,h2⟩
theorem PSD.keep {S:Nat->Prop} {p m:Nat} {x:Cx} {hd ty:Bool} {l2 l3 l4:Int} {ns:List B8} {i n w o e:Int} {st st':St} (h:PSD p m x hd ty l2 l3 l4 ns i n w o e st) (k:StX S st st') (hp:¬S p) (hm:¬S m):
  PSD p m x hd ty l2 l3 l4 ns i n w o e st':=by
 obtain⟨es,h1,h2⟩:=h.mp
 exact⟨h.ne,Nat.lt_of_lt_of_le h.lp k.nb,Nat.lt_of_lt_of_le h.lm k.nb,by rw[k.box _ h.lp hp];exact h.bx,es,by rw[k.box _ h.lm hm];exact h1,h2⟩
theorem StX.pm {p m:Nat} {a b:St} (h:StX (·=p) a b):StX (PM p m) a b:=h.mono fun _=> .inl
section
variable {p m:Nat} {x:Cx} {hd ty:Bool} {l2 l3 l4:Int} {ns:List B8} {I n w o e:Int} {st:St}
theorem CY {o' e':Int} {K:Bool->St->Prop} (h:PSD p m x hd ty l2 l3 l4 ns I n w o e st) (hk:∀st',StX (PM p m) st st'->PSD p m x hd ty l2 l3 l4 ns I n w o' e' st'->K false st'):
  CallT PR Ak [.box p 0,.int .i64 o',.int .i64 e'] [.one .bool] st K:=by
 refine IS p o' e' st K (Fo h.bx rfl fun st1 e1 b1=>Fo b1 rfl fun st2 e2 b2=>?_)
 exact hk st2 (e1.trans e2).pm (h.of (e1.trans e2) b2)
theorem PA {d v:Int} {i:Nat} {K:Bool->St->Prop} (hI:I=(i:Int)) (hv0:0<=v) (hv:v<1000000000) (h:PSD p m x hd ty l2 l3 l4 ns I v w o e st)
  (h0:∀v' st',Ge x.dep x.nod d i v= .ok v'->StX (PM p m) st st'->PSD p m x hd ty l2 l3 l4 ns I v' w o e st'->K true st')
  (h1:∀(o':Nat) e' st',Ge x.dep x.nod d i v= .error (o',e')->StX (PM p m) st st'->PSD p m x hd ty l2 l3 l4 ns I v w o' e' st'->K false st'):
  CallT PR Bj [.box p 0,.int .i64 d] [.one .bool] st K:=by
 unfold Ge at h0 h1
 subst hI
 have hb:=h.bx
 refine Ig p d st K ?_
 repeat' first
  | (guard_target=~need _ _;refine Ab rfl ?_)
  | (guard_target=~Ah (Ac _ _ _ _) _;refine Ad (ldB hb rfl) ?_)
  | (guard_target=~Ag (.int _) _ _;refine Aq ?_)
  | (guard_target=~Ag .str _ _;refine Aj ?_)
  | (guard_target=~Ag .bool _ _;refine Ao ?_)
 refine Aa (fun g=>?_) fun g=>?_
 ·rw[if_pos g]at h1
  repeat' first
   | (guard_target=~need _ _;refine Ab rfl ?_)
   | (guard_target=~Ah (Ac _ _ _ _) _;refine Ad (ldB hb rfl) ?_)
   | (guard_target=~Ag (.int _) _ _;refine Aq ?_)
   | (guard_target=~Ag .str _ _;refine Aj ?_)
   | (guard_target=~Ag .bool _ _;refine Ao ?_)
  exact CY h fun st' e1 k1=>h1 _ _ st' rfl e1 k1
 rw[if_neg g]at h0 h1
 repeat' first
  | (guard_target=~need _ _;refine Ab rfl ?_)
  | (guard_target=~Ah (Ac _ _ _ _) _;refine Ad (ldB hb rfl) ?_)
  | (guard_target=~Ag (.int _) _ _;refine Aq ?_)
  | (guard_target=~Ag .str _ _;refine Aj ?_)
  | (guard_target=~Ag .bool _ _;refine Ao ?_)
 refine Aa (fun g2=>?_) fun g2=>?_
 ·rw[if_pos g2]at h1
  repeat' first
   | (guard_target=~need _ _;refine Ab rfl ?_)
   | (guard_target=~Ah (Ac _ _ _ _) _;refine Ad (ldB hb rfl) ?_)
   | (guard_target=~Ag (.int _) _ _;refine Aq ?_)
   | (guard_target=~Ag .str _ _;refine Aj ?_)
   | (guard_target=~Ag .bool _ _;refine Ao ?_)
  exact CY h fun st' e1 k1=>h1 _ _ st' rfl e1 k1
 rw[if_neg g2]at h0
 repeat' first
  | (guard_target=~need _ _;refine Ab rfl ?_)
  | (guard_target=~Ah (Ac _ _ _ _) _;refine Ad (ldB hb rfl) ?_)
  | (guard_target=~Ag (.int _) _ _;refine Aq ?_)
  | (guard_target=~Ag .str _ _;refine Aj ?_)
  | (guard_target=~Ag .bool _ _;refine Ao ?_)
 refine Fo hb rfl fun st1 e1 b1=>?_
 rw[Af _ (by omega) (by omega)]at b1
 exact h0 _ st1 rfl e1.pm (h.of e1 b1)
theorem Tl {i:Nat} {K:Bool->St->Prop} (hI:I=(i:Int)) (hi:i<x.s.length) (hl:x.s.length<=2000000) (h:PSD p m x hd ty l2 l3 l4 ns I n w o e st)
  (h0:∀(k:Nat) st',QE x.q x.s (i+1)=some k->StX (PM p m) st st'->PSD p m x hd ty l2 l3 l4 ns k n w o e st'->K true st')
  (h1:∀(k:Int) st',QE x.q x.s (i+1)=none->StX (PM p m) st st'->PSD p m x hd ty l2 l3 l4 ns k n w (x.s.length:Nat) 4 st'->K false st'):
  CallT PR Co [.box p 0] [.one .bool] st K:=by
 subst hI
 have hb:=h.bx
 have tn:∀k:Nat,Int.toNat (k:Int)=k:=fun k=>rfl
 have w1:∀k:Nat,k<=x.s.length->i64.wrap ((k:Int)+1)=((k+1:Nat):Int):=fun k hk=>by rw[Af _ (by omega) (by omega)];omega
 refine Hv p st K ?_
 repeat' first
  | (guard_target=~need _ _;refine Ab rfl ?_)
  | (guard_target=~Ah (Ac _ _ _ _) _;refine Ad (ldB hb rfl) ?_)
  | (guard_target=~Ag (.int _) _ _;refine Aq ?_)
  | (guard_target=~Ag .str _ _;refine Aj ?_)
  | (guard_target=~Ag .bool _ _;refine Ao ?_)
 refine Fo hb rfl fun st1 e1 b1=>?_
 rw[w1 i (by omega)]at b1
 refine⟨fun p' st'=>TV.box p 0=p'/\StX (PM p m) st st'/\∃k:Nat,PSD p m x hd ty l2 l3 l4 ns k n w o e st'/\i<k/\k<=x.s.length/\QE x.q x.s (i+1)=QE x.q x.s k,
  fun _ st'=>(x.s.length-MV st' p 10).toNat,⟨rfl,e1.pm,i+1,h.of e1 b1,by omega,by omega,rfl⟩,?_⟩
 rintro _ st2 ⟨rfl,e2,k,h2,hk1,hk2,hq⟩
 have hb2:=h2.bx
 repeat' first
  | (guard_target=~need _ _;refine Ab rfl ?_)
  | (guard_target=~Ah (Ac _ _ _ _) _;refine Ad (ldB hb2 rfl) ?_)
  | (guard_target=~Ag (.int _) _ _;refine Aq ?_)
  | (guard_target=~Ag .str _ _;refine Aj ?_)
  | (guard_target=~Ag .bool _ _;refine Ao ?_)
 refine Aa (fun q1=>?_) fun q1=>?_
 ·repeat' first
   | (guard_target=~need _ _;refine Ab rfl ?_)
   | (guard_target=~Ah (Ac _ _ _ _) _;refine Ad (ldB hb2 rfl) ?_)
   | (guard_target=~Ag (.int _) _ _;refine Aq ?_)
   | (guard_target=~Ag .str _ _;refine Aj ?_)
   | (guard_target=~Ag .bool _ _;refine Ao ?_)
  refine⟨⟨by omega,by omega⟩,?_⟩
  repeat' first
   | (guard_target=~need _ _;refine Ab rfl ?_)
   | (guard_target=~Ah (Ac _ _ _ _) _;refine Ad (ldB hb2 rfl) ?_)
   | (guard_target=~Ag (.int _) _ _;refine Aq ?_)
   | (guard_target=~Ag .str _ _;refine Aj ?_)
   | (guard_target=~Ag .bool _ _;refine Ao ?_)
  rw[tn]
  refine Aa (fun q2=>?_) fun q2=>?_
  ·repeat' first
    | (guard_target=~need _ _;refine Ab rfl ?_)
    | (guard_target=~Ah (Ac _ _ _ _) _;refine Ad (ldB hb2 rfl) ?_)
    | (guard_target=~Ag (.int _) _ _;refine Aq ?_)
    | (guard_target=~Ag .str _ _;refine Aj ?_)
    | (guard_target=~Ag .bool _ _;refine Ao ?_)
   refine Fo hb2 rfl fun st3 e3 b3=>?_
   rw[w1 k (by omega)]at b3
   rw[SM (by omega) q2]at hq
   refine⟨⟨rfl,e2.trans e3.pm,k+1,h2.of e3 b3,by omega,by omega,hq⟩,?_⟩
   dsimp only
   rw[DN b3 rfl,DN hb2 rfl]
   omega
  ·have q2:by_ x.s k=x.q:=Decidable.not_not.1 q2
   repeat' first
    | (guard_target=~need _ _;refine Ab rfl ?_)
    | (guard_target=~Ah (Ac _ _ _ _) _;refine Ad (ldB hb2 rfl) ?_)
    | (guard_target=~Ag (.int _) _ _;refine Aq ?_)
    | (guard_target=~Ag .str _ _;refine Aj ?_)
    | (guard_target=~Ag .bool _ _;refine Ao ?_)
   refine Fo hb2 rfl fun st3 e3 b3=>?_
   rw[w1 k (by omega)]at b3
   have h3:=h2.of e3 b3
   repeat' first
    | (guard_target=~need _ _;refine Ab rfl ?_)
    | (guard_target=~Ah (Ac _ _ _ _) _;refine Ad (ldB b3 rfl) ?_)
    | (guard_target=~Ag (.int _) _ _;refine Aq ?_)
    | (guard_target=~Ag .str _ _;refine Aj ?_)
    | (guard_target=~Ag .bool _ _;refine Ao ?_)
   refine Aa (fun q3=>?_) fun q3=>?_
   ·rw[Ra (by omega) q2 (fun h=>absurd h (by omega))]at hq
    exact h0 _ st3 hq (e2.trans e3.pm) h3
   ·repeat' first
     | (guard_target=~need _ _;refine Ab rfl ?_)
     | (guard_target=~Ah (Ac _ _ _ _) _;refine Ad (ldB b3 rfl) ?_)
     | (guard_target=~Ag (.int _) _ _;refine Aq ?_)
     | (guard_target=~Ag .str _ _;refine Aj ?_)
     | (guard_target=~Ag .bool _ _;refine Ao ?_)
    refine⟨⟨by omega,by omega⟩,?_⟩
    repeat' first
     | (guard_target=~need _ _;refine Ab rfl ?_)
     | (guard_target=~Ah (Ac _ _ _ _) _;refine Ad (ldB b3 rfl) ?_)
     | (guard_target=~Ag (.int _) _ _;refine Aq ?_)
     | (guard_target=~Ag .str _ _;refine Aj ?_)
     | (guard_target=~Ag .bool _ _;refine Ao ?_)
    rw[tn]
    refine Aa (fun q4=>?_) fun q4=>?_
    ·rw[Ra (by omega) q2 (fun h=>q4)]at hq
     exact h0 _ st3 hq (e2.trans e3.pm) h3
    ·repeat' first
      | (guard_target=~need _ _;refine Ab rfl ?_)
      | (guard_target=~Ah (Ac _ _ _ _) _;refine Ad (ldB b3 rfl) ?_)
      | (guard_target=~Ag (.int _) _ _;refine Aq ?_)
      | (guard_target=~Ag .str _ _;refine Aj ?_)
      | (guard_target=~Ag .bool _ _;refine Ao ?_)
     refine Fo b3 rfl fun st4 e4 b4=>?_
     rw[w1 (k+1) (by omega)]at b4
     rw[Vf (by omega) q2 (Decidable.not_not.1 q4)]at hq
     refine⟨⟨rfl,(e2.trans e3.pm).trans e4.pm,k+2,h3.of e4 b4,by omega,by omega,hq⟩,?_⟩
     dsimp only
     rw[DN b4 rfl,DN hb2 rfl]
     omega
 ·repeat' first
   | (guard_target=~need _ _;refine Ab rfl ?_)
   | (guard_target=~Ah (Ac _ _ _ _) _;refine Ad (ldB hb2 rfl) ?_)
   | (guard_target=~Ag (.int _) _ _;refine Aq ?_)
   | (guard_target=~Ag .str _ _;refine Aj ?_)
   | (guard_target=~Ag .bool _ _;refine Ao ?_)
  rw[Ur (i:=k) (by omega)]at hq
  exact CY h2 fun st' e3 k3=>h1 _ st' hq (e2.trans e3) k3
end
end
theorem QE_le {q:Int} {s:B8}:∀(n i e:Nat),s.length-i<=n->QE q s i=some e->i<e/\e<=s.length:=by
 intro n
 induction n with
 | zero=>intro i e h he;rw[Ur (by omega)]at he;cases he
 | succ n ih=>
  intro i e h he
  by_cases hi:i<s.length
  ·by_cases hb:by_ s i=q
   ·by_cases h2:i+1<s.length/\by_ s (i+1)=q
    ·rw[Vf h2.1 hb h2.2]at he
     have:=ih (i+2) e (by omega) he
     omega
    ·rw[Ra hi hb (fun h3 h4=>h2 ⟨h3,h4⟩)]at he
     cases he;omega
   ·rw[SM hi hb]at he
    have:=ih (i+1) e (by omega) he
    omega
  ·rw[Ur (by omega)]at he;cases he
theorem Le {s:B8} {i e:Nat} (h:i<=e) (h2:e<=s.length):(slc s i e).length=e-i:=by
 unfold slc;rw[List.length_drop,List.length_take];omega
theorem FL {s:B8} {i e:Nat} (h:i<=e):s.drop i=slc s i e++s.drop e:=by
 unfold slc
 rw[EQ]
 have:s.drop e=(s.drop i).drop (e-i):=by rw[List.drop_drop];congr 1;omega
 rw[this,List.take_append_drop]
theorem slc_get {s:B8} {i e:Nat} (h:i<e) (h2:e<=s.length):by_ (slc s i e) 0=by_ s i:=by
 unfold by_ slc
 rw[JS,List.getD_eq_getElem?_getD,List.getD_eq_getElem?_getD,List.getElem?_take,if_pos (by omega)]
 rfl
theorem Qu {s:B8} {e:Nat} (h:e<s.length):slc s e (e+1)=[s.getD e 0]:=by
 unfold slc
 rw[EQ,P0 _ _ 0 h]
 simp
theorem PE_le {a q:Int} {s:B8}:∀(n i e:Nat),s.length-i<=n->i<=s.length->PE a q s i= .ok e->i<=e/\e<=s.length/\(e<s.length->by_ s e=a∨by_ s e=10∨by_ s e=13)/\(i<e->by_ s i≠q):=by
 intro n
 induction n with
 | zero=>intro i e h hi he;rw[Rb (by omega)]at he;cases he;exact⟨by omega,by omega,fun h=>absurd h (by omega),fun h=>absurd h (by omega)⟩
 | succ n ih=>
  intro i e h hi he
  by_cases hl:i<s.length
  ·by_cases hb:by_ s i=a∨by_ s i=10∨by_ s i=13
   ·rw[Ny hl hb]at he;cases he;exact⟨by omega,by omega,fun _=>hb,fun h=>absurd h (by omega)⟩
   ·by_cases hq:by_ s i=q
    ·rw[Vh hl hb hq]at he;cases he
    ·rw[Vg hl hb hq]at he
     obtain⟨h1,h2,h3,_⟩:=ih (i+1) e (by omega) (by omega) he
     exact⟨by omega,h2,h3,fun _=>hq⟩
  ·rw[Rb (by omega)]at he;cases he;exact⟨by omega,by omega,fun h=>absurd h (by omega),fun h=>absurd h (by omega)⟩
theorem CC {a q:Int} {s:B8} {i e:Nat} (hi:i<=s.length) (h:Cj a q s i= .ok e):i<=e/\e<=s.length:=by
 unfold Cj at h
 split at h
 ·split at h
  ·rename_i e' he;cases h;have:=QE_le _ _ _ (Nat.le_refl _) he;omega
  ·cases h
 ·split at h
  ·rename_i e' he;cases h;have:=PE_le _ _ _ (Nat.le_refl _) hi he;omega
  ·cases h
theorem byte_of (q:Int) (s:B8) (i:Nat) (h:i<s.length) (hq:by_ s i=q):∃c:UInt8,(c.toNat:Int)=q/\s.getD i 0=c:=⟨s.getD i 0,hq,rfl⟩
theorem Q3 {a q:Int} {s:B8} {i e:Nat} (hi:i<=s.length) (h:Cj a q s i= .ok e):SO q (slc s i e):=by
 unfold Cj at h
 split at h
 ·rename_i hc
  split at h
  ·rename_i e' he
   cases h
   obtain⟨c,hc1,hc2⟩:=byte_of q s i hc.1 hc.2
   obtain⟨t,rest,h1,h2⟩:=VH hc1 _ _ _ _ (Nat.le_refl _) he
   right;right
   refine⟨c,t,hc1,?_⟩
   have hle:=QE_le _ _ _ (Nat.le_refl _) he
   unfold slc
   rw[EQ,P0 _ _ 0 hc.1,hc2,h1,show e-i=(dbl c t++[c]).length+1 by simp;omega,List.take_succ_cons]
   congr 1
   rw[show dbl c t++c::rest=(dbl c t++[c])++rest by simp,List.take_left]
  ·cases h
 ·rename_i hc
  split at h
  ·rename_i e' he
   cases h
   have hle:=PE_le _ _ _ (Nat.le_refl _) hi he
   by_cases hlt:i<e
   ·right;left
    rw[slc_get hlt hle.2.1]
    exact hle.2.2.2 hlt
   ·left
    apply List.eq_nil_of_length_eq_zero
    rw[Le hle.1 hle.2.1];omega
  ·cases h
theorem FZ {s:B8} {e n:Nat} (he:e<=s.length) (h:D2 s e= .ok n):e+n<=s.length/\(n=0->e=s.length)/\(0<n->by_ s (e+n-1)=10)/\(e<s.length->by_ s e=10∨by_ s e=13):=by
 unfold D2 at h
 split at h
 ·cases h;exact⟨by omega,fun _=>by omega,fun h=>by omega,fun h=>by omega⟩
 split at h
 ·rename_i h1 h2;cases h;exact⟨by omega,fun h=>by omega,fun _=>by simpa using h2,fun _=> .inl h2⟩
 split at h
 ·cases h
 split at h
 ·cases h
 split at h
 ·rename_i h1 h2 h3 h4 h5;cases h;exact⟨by omega,fun h=>by omega,fun _=>by simpa using h5,fun _=> .inr (Decidable.not_not.1 h3)⟩
 ·cases h
inductive IL (a q:Int) (s:B8):Nat->List Nd->Nat->Nat->Prop where
 | last {i e n:Nat}:Cj a q s i= .ok e->¬(e<s.length/\by_ s e=a)->D2 s e= .ok n->IL a q s i [KP s i e []] e n
 | more {i e f n:Nat} {ks:List Nd}:Cj a q s i= .ok e->e<s.length->by_ s e=a->IL a q s (e+1) ks f n->IL a q s i (KP s i e [.mk 11 [] [s.getD e 0] [] []]::ks) f n
inductive JE (a q:Int) (s:B8):Nat->List Nd->Prop where
 | nil {i:Nat}:s.length<=i->JE a q s i []
 | cons {i e n:Nat} {ks rs:List Nd}:i<s.length->IL a q s i ks e n->JE a q s (e+n) rs->JE a q s i (.mk 8 [] [] ks (slc s e (e+n))::rs)
theorem IL.le {a q:Int} {s:B8} {i:Nat} {ks:List Nd} {e n:Nat} (h:IL a q s i ks e n):i<=s.length->i<=e/\e+n<=s.length/\1<=ks.length/\ks.length<=e-i+1/\D2 s e= .ok n:=by
 induction h with
 | last h1 h2 h3=>intro hi;have:=CC hi h1;have:=FZ this.2 h3;exact⟨by omega,by omega,by simp,by simp,h3⟩
 | more h1 h2 h3 h4 ih=>intro hi;have:=CC hi h1;have ih:=ih (by omega);refine⟨by omega,by omega,by simp,?_,ih.2.2.2.2⟩;rw[List.length_cons];omega
theorem IL.text {a q:Int} {s:B8} {i:Nat} {ks:List Nd} {e n:Nat} (h:IL a q s i ks e n):i<=s.length->F0 ks=slc s i e:=by
 induction h with
 | last h1 h2 h3=>intro hi;simp[F0,Du,KP]
 | @more i e e' n ks h1 h2 h3 h4 ih=>
  intro hi
  have hl:=CC hi h1
  have hl2:=h4.le (by omega)
  simp only[F0,Du,KP,List.nil_append,List.append_nil]
  rw[ih (by omega),<-Qu h2]
  have e1:=FL (s:=s) (i:=i) (e:=e') (by omega)
  have e2:=FL (s:=s) (i:=i) (e:=e) (by omega)
  have e3:=FL (s:=s) (i:=e) (e:=e+1) (by omega)
  have e4:=FL (s:=s) (i:=e+1) (e:=e') (by omega)
  rw[e2,e3,e4,<-List.append_assoc,<-List.append_assoc]at e1
  have:=List.append_inj_left' e1 rfl
  rw[<-this,List.append_assoc]
theorem JE.text {a q:Int} {s:B8} {i:Nat} {rs:List Nd} (h:JE a q s i rs):i<=s.length->F0 rs=s.drop i:=by
 induction h with
 | nil h=>intro hi;rw[List.drop_of_length_le h];rfl
 | @cons i e n ks rs h1 h2 h3 ih=>
  intro hi
  have hl:=h2.le (by omega)
  simp only[F0,Du,List.nil_append]
  rw[ih (by omega),h2.text (by omega),List.append_assoc,<-FL (by omega),<-FL (by omega)]
def We (a q:Int) (n:Nd):Prop:=∃c mark,n= .mk 5 [] [] (.mk 2 [] c [] []::mark) []/\SO q c/\(mark=[]∨∃b:UInt8,(b.toNat:Int)=a/\mark=[.mk 11 [] [b] [] []])
def RecF (a q:Int) (n:Nd):Prop:=∃ks t,n= .mk 8 [] [] ks t/\1<=ks.length/\∀k∈ks,We a q k
theorem IL.form {a q:Int} {s:B8} {i:Nat} {ks:List Nd} {e n:Nat} (h:IL a q s i ks e n):i<=s.length->∀k∈ks,We a q k:=by
 induction h with
 | last h1 h2 h3=>intro hi k hk;rw[List.mem_singleton]at hk;subst hk;exact⟨_,_,rfl,Q3 hi h1,.inl rfl⟩
 | @more i e e' n ks h1 h2 h3 h4 ih=>
  intro hi k hk
  have hl:=CC hi h1
  rcases List.mem_cons.1 hk with rfl | hk
  ·exact⟨_,_,rfl,Q3 hi h1,.inr ⟨s.getD e 0,h3,rfl⟩⟩
  ·exact ih (by omega) k hk
theorem JE.form {a q:Int} {s:B8} {i:Nat} {rs:List Nd} (h:JE a q s i rs):i<=s.length->∀r∈rs,RecF a q r:=by
 induction h with
 | nil h=>intro hi r hr;cases hr
 | @cons i e n ks rs h1 h2 h3 ih=>
  intro hi r hr
  have hl:=h2.le (by omega)
  rcases List.mem_cons.1 hr with rfl | hr
  ·exact⟨_,_,rfl,hl.2.2.1,h2.form (by omega)⟩
  ·exact ih (by omega) r hr
section
theorem ldsB {st:St} {b i n:Nat} {l xs:List TV} (hb:st.box b= .cells l) (hx:(l.drop i).take n=xs) (hn:xs.length=n):Ai st [] (.t (.box b i)) 0 n=some xs:=by
 have gen:∀n j,j+n<=(l.drop i).length->Ai st [] (.t (.box b i)) j n=some (((l.drop i).drop j).take n):=by
  intro n
  induction n with
  | zero=>intro j h;simp[Ai]
  | succ n ih=>
   intro j h
   have hj:j<(l.drop i).length:=by omega
   have h1:Ac st [] (.t (.box b i)) j=some (l.drop i)[j]:=by
    simp only[Ac,hb]
    rw[List.getElem_drop,List.getElem?_eq_getElem]
   simp only[Ai,h1,ih (j+1) (by omega)]
   rw[List.drop_eq_getElem_cons hj]
   rfl
 rw[gen n 0 (by rw[<-hx,List.length_take]at hn;omega),<-hx]
 rfl
section
variable {p m:Nat} {x:Cx} {hd ty:Bool} {l2 l3 l4:Int} {ns:List B8} {I n w o e:Int} {st:St}
theorem WP {i:Nat} {K:Bool->St->Prop} (hI:I=(i:Int)) (hi:i<=x.s.length) (hl:x.s.length<=2000000) (h:PSD p m x hd ty l2 l3 l4 ns I n w o e st)
  (h0:∀(k:Nat) st',Cj x.a x.q x.s i= .ok k->StX (PM p m) st st'->PSD p m x hd ty l2 l3 l4 ns k n w o e st'->K true st')
  (h1:∀(o':Nat) e' (k:Int) st',Cj x.a x.q x.s i= .error (o',e')->StX (PM p m) st st'->PSD p m x hd ty l2 l3 l4 ns k n w o' e' st'->K false st'):
  CallT PR B4 [.box p 0] [.one .bool] st K:=by
 subst hI
 have hb:=h.bx
 have tn:∀k:Nat,Int.toNat (k:Int)=k:=fun k=>rfl
 have w1:∀k:Nat,k<=x.s.length->i64.wrap ((k:Int)+1)=((k+1:Nat):Int):=fun k hk=>by rw[Af _ (by omega) (by omega)];omega
 have loop:∀k:Nat,(i<x.s.length/\by_ x.s i=x.q->False)->Cj x.a x.q x.s i=match PE x.a x.q x.s i with | .ok e=> .ok e | .error o=> .error (o,3):=fun k hc=>by
  unfold Cj;rw[if_neg hc]<;>(cases PE x.a x.q x.s i<;>rfl)
 refine IT p st K ?_
 repeat' first
  | (guard_target=~need _ _;refine Ab rfl ?_)
  | (guard_target=~Ah (Ac _ _ _ _) _;refine Ad (ldB hb rfl) ?_)
  | (guard_target=~Ag (.int _) _ _;refine Aq ?_)
  | (guard_target=~Ag .str _ _;refine Aj ?_)
  | (guard_target=~Ag .bool _ _;refine Ao ?_)
 refine Aa (fun g=>?_) fun g=>?_
 ·repeat' first
   | (guard_target=~need _ _;refine Ab rfl ?_)
   | (guard_target=~Ah (Ac _ _ _ _) _;refine Ad (ldB hb rfl) ?_)
   | (guard_target=~Ag (.int _) _ _;refine Aq ?_)
   | (guard_target=~Ag .str _ _;refine Aj ?_)
   | (guard_target=~Ag .bool _ _;refine Ao ?_)
  refine⟨⟨by omega,by omega⟩,?_⟩
  repeat' first
   | (guard_target=~need _ _;refine Ab rfl ?_)
   | (guard_target=~Ah (Ac _ _ _ _) _;refine Ad (ldB hb rfl) ?_)
   | (guard_target=~Ag (.int _) _ _;refine Aq ?_)
   | (guard_target=~Ag .str _ _;refine Aj ?_)
   | (guard_target=~Ag .bool _ _;refine Ao ?_)
  rw[tn]
  refine Aa (fun g2=>?_) fun g2=>?_
  ·have hc:Cj x.a x.q x.s i=match QE x.q x.s (i+1)with | some e=> .ok e | none=> .error (x.s.length,4):=by
    unfold Cj;rw[if_pos ⟨by omega,g2⟩]<;>(cases QE x.q x.s (i+1)<;>rfl)
   exact Tl rfl (by omega) hl h (fun k st' hq=>h0 k st' (by rw[hc,hq])) fun k st' hq=>h1 _ _ k st' (by rw[hc,hq])
  have hc:=loop i fun hh=>g2 hh.2
  refine⟨fun p' st'=>TV.box p 0=p'/\StX (PM p m) st st'/\∃k:Nat,PSD p m x hd ty l2 l3 l4 ns k n w o e st'/\k<=x.s.length/\PE x.a x.q x.s i=PE x.a x.q x.s k,
   fun _ st'=>(x.s.length-MV st' p 10).toNat,⟨rfl,StX.refl _ _,i,h,by omega,rfl⟩,?_⟩
  rintro _ st2 ⟨rfl,e2,k,h2,hk2,hq⟩
  have hb2:=h2.bx
  have next:¬(by_ x.s k=x.a∨by_ x.s k=10∨by_ x.s k=13)->k<x.s.length->by_ x.s k≠x.q->∀st3,StX (·=p) st2 st3->st3.box p= .cells ((pcl x hd ty l2 l3 l4 m k n w o e).set 10 (.int .i64 (i64.wrap ((k:Int)+1))))->
    (TV.box p 0=TV.box p 0/\StX (PM p m) st st3/\∃k:Nat,PSD p m x hd ty l2 l3 l4 ns k n w o e st3/\k<=x.s.length/\PE x.a x.q x.s i=PE x.a x.q x.s k)/\(x.s.length-MV st3 p 10).toNat<(x.s.length-MV st2 p 10).toNat:=fun c1 c2 c3 st3 e3 b3=>by
   rw[w1 k (by omega)]at b3
   rw[Vg c2 c1 c3]at hq
   refine⟨⟨rfl,e2.trans e3.pm,k+1,h2.of e3 b3,by omega,hq⟩,?_⟩
   rw[DN b3 rfl,DN hb2 rfl]
   omega
  repeat' first
   | (guard_target=~need _ _;refine Ab rfl ?_)
   | (guard_target=~Ah (Ac _ _ _ _) _;refine Ad (ldB hb2 rfl) ?_)
   | (guard_target=~Ag (.int _) _ _;refine Aq ?_)
   | (guard_target=~Ag .str _ _;refine Aj ?_)
   | (guard_target=~Ag .bool _ _;refine Ao ?_)
  refine Aa (fun q1=>?_) fun q1=>?_
  ·repeat' first
    | (guard_target=~need _ _;refine Ab rfl ?_)
    | (guard_target=~Ah (Ac _ _ _ _) _;refine Ad (ldB hb2 rfl) ?_)
    | (guard_target=~Ag (.int _) _ _;refine Aq ?_)
    | (guard_target=~Ag .str _ _;refine Aj ?_)
    | (guard_target=~Ag .bool _ _;refine Ao ?_)
   refine⟨⟨by omega,by omega⟩,?_⟩
   repeat' first
    | (guard_target=~need _ _;refine Ab rfl ?_)
    | (guard_target=~Ah (Ac _ _ _ _) _;refine Ad (ldB hb2 rfl) ?_)
    | (guard_target=~Ag (.int _) _ _;refine Aq ?_)
    | (guard_target=~Ag .str _ _;refine Aj ?_)
    | (guard_target=~Ag .bool _ _;refine Ao ?_)
   rw[tn]
   refine Aa (fun q2=>Aa (fun _=>?_) fun q3=>absurd q2 q3) fun q2=>Aa (fun q3=>Aa (fun _=>?_) fun q4=>absurd q3 q4) fun q3=>Aa (fun q4=>?_) fun q4=>?_
   ·rw[Ny (by omega) (.inl q2)]at hq;exact h0 k st2 (by rw[hc,hq]) e2 h2
   ·rw[Ny (by omega) (.inr (.inl q3))]at hq;exact h0 k st2 (by rw[hc,hq]) e2 h2
   ·rw[Ny (by omega) (.inr (.inr q4))]at hq;exact h0 k st2 (by rw[hc,hq]) e2 h2
   ·have hno:¬(by_ x.s k=x.a∨by_ x.s k=10∨by_ x.s k=13):=by rintro(h | h | h);exact q2 h;exact q3 h;exact q4 h
    repeat' first
     | (guard_target=~need _ _;refine Ab rfl ?_)
     | (guard_target=~Ah (Ac _ _ _ _) _;refine Ad (ldB hb2 rfl) ?_)
     | (guard_target=~Ag (.int _) _ _;refine Aq ?_)
     | (guard_target=~Ag .str _ _;refine Aj ?_)
     | (guard_target=~Ag .bool _ _;refine Ao ?_)
    refine Aa (fun q5=>?_) fun q5=>?_
    ·repeat' first
      | (guard_target=~need _ _;refine Ab rfl ?_)
      | (guard_target=~Ah (Ac _ _ _ _) _;refine Ad (ldB hb2 rfl) ?_)
      | (guard_target=~Ag (.int _) _ _;refine Aq ?_)
      | (guard_target=~Ag .str _ _;refine Aj ?_)
      | (guard_target=~Ag .bool _ _;refine Ao ?_)
     rw[Vh (by omega) hno q5]at hq
     exact CY h2 fun st' e3 k3=>h1 _ _ _ st' (by rw[hc,hq]) (e2.trans e3) k3
    ·repeat' first
      | (guard_target=~need _ _;refine Ab rfl ?_)
      | (guard_target=~Ah (Ac _ _ _ _) _;refine Ad (ldB hb2 rfl) ?_)
      | (guard_target=~Ag (.int _) _ _;refine Aq ?_)
      | (guard_target=~Ag .str _ _;refine Aj ?_)
      | (guard_target=~Ag .bool _ _;refine Ao ?_)
     exact Fo hb2 rfl fun st3 e3 b3=>next hno (by omega) q5 st3 e3 b3
  ·rw[Rb (i:=k) (by omega)]at hq;exact h0 k st2 (by rw[hc,hq]) e2 h2
 ·--at the end
  have hc:=loop i fun hh=>by omega
  rw[Rb (i:=i) (by omega)]at hc
  refine⟨fun p' st'=>TV.box p 0=p'/\st=st',fun _ st'=>0,⟨rfl,rfl⟩,?_⟩
  rintro _ _ ⟨rfl,rfl⟩
  repeat' first
   | (guard_target=~need _ _;refine Ab rfl ?_)
   | (guard_target=~Ah (Ac _ _ _ _) _;refine Ad (ldB hb rfl) ?_)
   | (guard_target=~Ag (.int _) _ _;refine Aq ?_)
   | (guard_target=~Ag .str _ _;refine Aj ?_)
   | (guard_target=~Ag .bool _ _;refine Ao ?_)
  refine Aa (fun q1=>absurd q1 g) fun q1=>?_
  exact h0 i st hc (StX.refl _ _) h
abbrev PM3 (p m r:Nat):Nat->Prop:=fun i=>i=p∨i=m∨i=r
theorem StX.pm3 {p m r:Nat} {a b:St} (h:StX (PM p m) a b):StX (PM3 p m r) a b:=h.mono fun _ g=>g.elim .inl fun g=> .inr (.inl g)
theorem PSD.other {p m r:Nat} {x:Cx} {hd ty:Bool} {l2 l3 l4:Int} {ns:List B8} {i n w o e:Int} {st st':St} (h:PSD p m x hd ty l2 l3 l4 ns i n w o e st) (k:StX (·=r) st st') (hp:p≠r) (hm:m≠r):
  PSD p m x hd ty l2 l3 l4 ns i n w o e st':=h.keep k hp hm
theorem R3 {i r:Nat} {c0 c1 c2 c3:TV} {K:Bool->St->Prop} (hI:I=(i:Int)) (hi:i<=x.s.length) (hl:x.s.length<=2000000) (h:PSD p m x hd ty l2 l3 l4 ns I n w o e st)
  (hrp:p≠r) (hrm:m≠r) (hrl:r<st.nb) (hr:st.box r= .cells [c0,c1,c2,c3,.str []])
  (h0:∀(k:Nat) st',D2 x.s i= .ok k->StX (PM3 p m r) st st'->PSD p m x hd ty l2 l3 l4 ns ((i+k:Nat):Int) n w o e st'->st'.box r= .cells [c0,c1,c2,c3,.str (slc x.s i (i+k))]->K true st')
  (h1:∀(o':Nat) e' (k:Int) st',D2 x.s i= .error (o',e')->StX (PM3 p m r) st st'->PSD p m x hd ty l2 l3 l4 ns k n w o' e' st'->st'.box r= .cells [c0,c1,c2,c3,.str []]->K false st'):
  CallT PR AG [.box p 0,.box r 0] [.one .bool] st K:=by
 subst hI
 have hb:=h.bx
 have tn:∀k:Nat,Int.toNat (k:Int)=k:=fun k=>rfl
 have w1:∀k:Nat,k<=x.s.length->i64.wrap ((k:Int)+1)=((k+1:Nat):Int):=fun k hk=>by rw[Af _ (by omega) (by omega)];omega
 have rk:∀st',StX (·=p) st st'->st'.box r= .cells [c0,c1,c2,c3,.str []]:=fun st' e=>by rw[e.box r hrl (fun h=>hrp h.symm)];exact hr
 have rk2:∀st',StX (PM p m) st st'->st'.box r= .cells [c0,c1,c2,c3,.str []]:=fun st' e=>by rw[e.box r hrl (fun h=>h.elim (fun h=>hrp h.symm) fun h=>hrm h.symm)];exact hr
 have hp3:∀st1 st2,StX (PM p m) st st1->StX (·=r) st1 st2->StX (PM3 p m r) st st2:=fun st1 st2 e1 e2=>e1.pm3.trans (e2.mono fun _ g=> .inr (.inr g))
 unfold D2 at h0 h1
 refine G7 p r st K ?_
 repeat' first
  | (guard_target=~need _ _;refine Ab rfl ?_)
  | (guard_target=~Ah (Ac _ _ _ _) _;refine Ad (ldB hb rfl) ?_)
  | (guard_target=~Ag (.int _) _ _;refine Aq ?_)
  | (guard_target=~Ag .str _ _;refine Aj ?_)
  | (guard_target=~Ag .bool _ _;refine Ao ?_)
 refine Aa (fun g=>?_) fun g=>?_
 ·rw[if_pos (by omega)]at h0
  refine h0 0 st rfl (StX.refl _ _) h ?_
  rw[hr]
  have:slc x.s i (i+0)=[]:=List.eq_nil_of_length_eq_zero (by rw[Le (by omega) (by omega)];omega)
  rw[this]
 rw[if_neg (by omega)]at h0 h1
 repeat' first
  | (guard_target=~need _ _;refine Ab rfl ?_)
  | (guard_target=~Ah (Ac _ _ _ _) _;refine Ad (ldB hb rfl) ?_)
  | (guard_target=~Ag (.int _) _ _;refine Aq ?_)
  | (guard_target=~Ag .str _ _;refine Aj ?_)
  | (guard_target=~Ag .bool _ _;refine Ao ?_)
 refine⟨⟨by omega,by omega⟩,?_⟩
 rw[tn]
 refine Aa (fun g2=>?_) fun g2=>Aa (fun g3=>?_) fun g3=>?_
 ·have g2':by_ x.s i=13:=g2
  rw[if_neg (by omega),if_neg (by omega)]at h0 h1
  repeat' first
   | (guard_target=~need _ _;refine Ab rfl ?_)
   | (guard_target=~Ah (Ac _ _ _ _) _;refine Ad (ldB hb rfl) ?_)
   | (guard_target=~Ag (.int _) _ _;refine Aq ?_)
   | (guard_target=~Ag .str _ _;refine Aj ?_)
   | (guard_target=~Ag .bool _ _;refine Ao ?_)
  refine Fo hb rfl fun st1 e1 b1=>?_
  rw[w1 i (by omega)]at b1
  have k1:=h.of e1 b1
  repeat' first
   | (guard_target=~need _ _;refine Ab rfl ?_)
   | (guard_target=~Ah (Ac _ _ _ _) _;refine Ad (ldB b1 rfl) ?_)
   | (guard_target=~Ag (.int _) _ _;refine Aq ?_)
   | (guard_target=~Ag .str _ _;refine Aj ?_)
   | (guard_target=~Ag .bool _ _;refine Ao ?_)
  refine Aa (fun g3=>?_) fun g3=>?_
  ·rw[if_pos (by omega)]at h1
   repeat' first
    | (guard_target=~need _ _;refine Ab rfl ?_)
    | (guard_target=~Ah (Ac _ _ _ _) _;refine Ad (ldB b1 rfl) ?_)
    | (guard_target=~Ag (.int _) _ _;refine Aq ?_)
    | (guard_target=~Ag .str _ _;refine Aj ?_)
    | (guard_target=~Ag .bool _ _;refine Ao ?_)
   have e3:((i+1:Nat):Int)=(x.s.length:Int):=g3
   rw[e3]
   exact CY k1 fun st2 e2 k2=>h1 _ _ _ st2 rfl (e1.pm.trans e2).pm3 k2 (rk2 _ (e1.pm.trans e2))
  rw[if_neg (by omega)]at h0 h1
  repeat' first
   | (guard_target=~need _ _;refine Ab rfl ?_)
   | (guard_target=~Ah (Ac _ _ _ _) _;refine Ad (ldB b1 rfl) ?_)
   | (guard_target=~Ag (.int _) _ _;refine Aq ?_)
   | (guard_target=~Ag .str _ _;refine Aj ?_)
   | (guard_target=~Ag .bool _ _;refine Ao ?_)
  refine⟨⟨by omega,by omega⟩,?_⟩
  rw[tn]
  refine Aa (fun g4=>?_) fun g4=>?_
  ·have g4':by_ x.s (i+1)≠10:=g4
   rw[if_neg g4']at h1
   exact CY k1 fun st2 e2 k2=>h1 _ _ _ st2 rfl (e1.pm.trans e2).pm3 k2 (rk2 _ (e1.pm.trans e2))
  ·have g4':by_ x.s (i+1)=10:=Decidable.not_not.1 g4
   rw[if_pos g4']at h0
   repeat' first
    | (guard_target=~need _ _;refine Ab rfl ?_)
    | (guard_target=~Ah (Ac _ _ _ _) _;refine Ad (ldB b1 rfl) ?_)
    | (guard_target=~Ag (.int _) _ _;refine Aq ?_)
    | (guard_target=~Ag .str _ _;refine Aj ?_)
    | (guard_target=~Ag .bool _ _;refine Ao ?_)
   refine Fo b1 rfl fun st2 e2 b2=>?_
   rw[w1 (i+1) (by omega)]at b2
   have k2:=k1.of e2 b2
   repeat' first
    | (guard_target=~need _ _;refine Ab rfl ?_)
    | (guard_target=~Ah (Ac _ _ _ _) _;refine Ad (ldB b2 rfl) ?_)
    | (guard_target=~Ag (.int _) _ _;refine Aq ?_)
    | (guard_target=~Ag .str _ _;refine Aj ?_)
    | (guard_target=~Ag .bool _ _;refine Ao ?_)
   refine⟨⟨by omega,by omega,by omega⟩,Fo (rk st2 (e1.trans e2)) rfl fun st3 e3 b3=>?_⟩
   exact h0 2 st3 rfl (hp3 _ _ (e1.pm.trans e2.pm) e3) (k2.other e3 hrp hrm) b3
 ·have g3':by_ x.s i=10:=g3
  rw[if_pos g3']at h0
  repeat' first
   | (guard_target=~need _ _;refine Ab rfl ?_)
   | (guard_target=~Ah (Ac _ _ _ _) _;refine Ad (ldB hb rfl) ?_)
   | (guard_target=~Ag (.int _) _ _;refine Aq ?_)
   | (guard_target=~Ag .str _ _;refine Aj ?_)
   | (guard_target=~Ag .bool _ _;refine Ao ?_)
  refine Fo hb rfl fun st1 e1 b1=>?_
  rw[w1 i (by omega)]at b1
  have k1:=h.of e1 b1
  repeat' first
   | (guard_target=~need _ _;refine Ab rfl ?_)
   | (guard_target=~Ah (Ac _ _ _ _) _;refine Ad (ldB b1 rfl) ?_)
   | (guard_target=~Ag (.int _) _ _;refine Aq ?_)
   | (guard_target=~Ag .str _ _;refine Aj ?_)
   | (guard_target=~Ag .bool _ _;refine Ao ?_)
  refine⟨⟨by omega,by omega,by omega⟩,Fo (rk st1 e1) rfl fun st3 e3 b3=>?_⟩
  exact h0 1 st3 rfl (hp3 _ _ e1.pm e3) (k1.other e3 hrp hrm) b3
 ·have g2':by_ x.s i≠13:=g2
  have g3':by_ x.s i≠10:=g3
  rw[if_neg g3',if_pos g2']at h1
  exact CY h fun st2 e2 k2=>h1 _ _ _ st2 rfl e2.pm3 k2 (rk2 _ e2)
end
end
def Av:Nd->List Nd | .mk _ _ _ ks _=>ks
def AR (n:Nd):B8:=match Av n with | .mk _ _ c _ _::_=>c | []=>[]
theorem Dr (s:B8) (i e:Nat) (m:List Nd):AR (KP s i e m)=slc s i e:=rfl
theorem Lw {x:Cx} {i:Nat} {v:Int} {ns:List B8} {e:Nat} {v1:Int} {ns1:List B8} (h:EP x false i v ns= .ok (e,v1,ns1)):
  3<=x.dep/\v<x.nod/\v1=v+1/\ns1=ns/\Cj x.a x.q x.s i= .ok e/\(txt x.q (slc x.s i e)).length<=65536:=by
 simp only[EP,Ge,Bool.false_eq_true,if_false,false_and]at h
 split at h
 ·cases h
 ·split at h
  ·cases h
  ·simp only[bind,Except.bind]at h
   split at h
   ·cases h
   ·rename_i e' he
    split at h
    ·cases h
    ·cases h
     exact⟨by omega,by omega,rfl,rfl,he,by omega⟩
theorem QO {x:Cx} {i:Nat} {v:Int} {ns:List B8} {e:Nat} (h1:3<=x.dep) (h2:v<x.nod) (h3:Cj x.a x.q x.s i= .ok e) (h4:(txt x.q (slc x.s i e)).length<=65536):
  EP x false i v ns= .ok (e,v+1,ns):=by
 simp only[EP,Ge,Bool.false_eq_true,if_false,false_and]
 rw[if_neg (by omega),if_neg (by omega)]
 simp only[bind,Except.bind,h3]
 rw[if_neg (by omega)]
theorem entE_9 {x:Cx} {i:Nat} {v:Int} {ns:List B8} (h:x.dep<3):EP x false i v ns= .error (i,9):=by
 simp only[EP,Ge,Bool.false_eq_true,if_false]
 rw[if_pos h];rfl
theorem entE_10 {x:Cx} {i:Nat} {v:Int} {ns:List B8} (h:3<=x.dep) (h2:x.nod<=v):EP x false i v ns= .error (i,10):=by
 simp only[EP,Ge,Bool.false_eq_true,if_false]
 rw[if_neg (by omega),if_pos h2];rfl
theorem Mr {x:Cx} {i:Nat} {v:Int} {ns:List B8} {e:Nat} {v1:Int} {ns1:List B8} (h:EP x true i v ns= .ok (e,v1,ns1)):
  v1=v/\Cj x.a x.q x.s i= .ok e/\(txt x.q (slc x.s i e)).length<=1024:=by
 simp only[EP,if_true,true_and]at h
 simp only[bind,Except.bind]at h
 split at h
 ·cases h
 ·rename_i e' he
  split at h
  ·cases h
  ·split at h
   ·cases h
   ·cases h
    exact⟨rfl,he,by omega⟩
abbrev Cx.lim (x:Cx) (d n:Int):Cx:={x with dep:=d,nod:=n}
theorem WG {x:Cx} {num hd:Bool} {wid:Int}:∀(n:Nat) {acc:List Nd} {i:Nat} {v:Int} {ns:List B8} {e:Nat} {v':Int} {ns':List B8} {out:List Nd},
  i<=x.s.length->Ck x num wid hd n acc i v ns= .ok (e,v',ns',out)->∃ks m,out=acc++ks/\IL x.a x.q x.s i ks e m/\v'=v+(if hd then 0 else(ks.length:Int))/\
   (∀k∈ks,(txt x.q (AR k)).length<=65536)/\(num=true->(out.length:Int)<=wid)/\(hd=false->3<=x.dep/\v'<=x.nod/\ns'=ns):=by
 intro n
 induction n with
 | zero=>intro acc i v ns e v' ns' out hi h;simp only[Ck]at h;cases h
 | succ n ih=>
  intro acc i v ns e v' ns' out hi h
  simp only[Ck]at h
  split at h
  ·cases h
  rename_i hw
  simp only[bind,Except.bind]at h
  split at h
  ·cases h
  rename_i p he
  obtain⟨e1,v1,ns1⟩:=p
  have hent:Cj x.a x.q x.s i= .ok e1/\(txt x.q (slc x.s i e1)).length<=65536/\v1=v+(if hd then 0 else 1)/\(hd=false->3<=x.dep/\v1<=x.nod/\ns1=ns):=by
   cases hd with
   | false=>have:=Lw he;exact⟨this.2.2.2.2.1,this.2.2.2.2.2,by simpa using this.2.2.1,fun _=>⟨this.1,by omega,this.2.2.2.1⟩⟩
   | true=>have:=Mr he;exact⟨this.2.1,by omega,by simpa using this.1,fun h=>by cases h⟩
  obtain⟨c1,c2,c3,c4⟩:=hent
  have hle:=CC hi c1
  simp only at h
  split at h
  ·rename_i hm
   obtain⟨ks,m,k1,k2,k3,k4,k5,k6⟩:=ih (by omega) h
   refine⟨_::ks,m,by rw[k1,List.append_assoc];rfl,.more c1 hm.1 hm.2 k2,?_,?_,k5,fun hh=>?_⟩
   ·rw[k3,c3];cases hd<;>simp<;>omega
   ·intro k hk
    rcases List.mem_cons.1 hk with rfl | hk
    ·exact c2
    ·exact k4 k hk
   ·have:=k6 hh;have:=c4 hh;exact⟨by omega,by omega,by rw[(k6 hh).2.2,this.2.2]⟩
  ·rename_i hm
   split at h
   ·cases h
   rename_i m hm2
   cases h
   refine⟨_,_,rfl,.last c1 hm hm2,by rw[c3];cases hd<;>simp,?_,?_,fun hh=>⟨(c4 hh).1,(c4 hh).2.1,(c4 hh).2.2⟩⟩
   ·intro k hk
    rw[List.mem_singleton]at hk;subst hk;exact c2
   ·intro hn
    rw[List.length_append,List.length_singleton]
    have:¬wid<=(acc.length:Int):=fun h=>hw ⟨hn,h⟩
    omega
theorem recE_of {x:Cx} {num:Bool} {wid:Int} (hdep:3<=x.dep):∀{i:Nat} {ks:List Nd} {e m:Nat},IL x.a x.q x.s i ks e m->∀(n:Nat) {acc:List Nd} {v:Int} {ns:List B8},
  i<=x.s.length->x.s.length<i+n->(∀k∈ks,(txt x.q (AR k)).length<=65536)->(num=true->((acc.length+ks.length:Nat):Int)<=wid)->v+(ks.length:Int)<=x.nod->Ck x num wid false n acc i v ns= .ok (e,v+(ks.length:Int),ns,acc++ks):=by
 intro i ks e m h
 induction h with
 | @last i e m h1 h2 h3=>
  intro n acc v ns hi hn hk hw hv
  cases n with
  | zero=>omega
  | succ n=>
  simp only[Ck]
  rw[if_neg (by rintro⟨h,h'⟩;have:=hw h;simp at this;omega)]
  have hc:=hk _ (List.mem_singleton.2 rfl)
  rw[Dr]at hc
  rw[QO hdep (by simp at hv;omega) h1 hc]
  simp only[bind,Except.bind]
  rw[if_neg h2,h3]
  rfl
 | @more i e e' m ks h1 h2 h3 h4 ih=>
  intro n acc v ns hi hn hk hw hv
  cases n with
  | zero=>omega
  | succ n=>
  simp only[Ck]
  simp only[List.length_cons]at hw hv
  rw[if_neg (by rintro⟨h,h'⟩;have:=hw h;omega)]
  have hc:=hk _ (List.mem_cons_self ..)
  rw[Dr]at hc
  rw[QO hdep (by omega) h1 hc]
  simp only[bind,Except.bind]
  have hle:=CC hi h1
  rw[if_pos ⟨h2,h3⟩,ih n (by omega) (by omega) (fun k hk2=>hk k (List.mem_cons_of_mem _ hk2)) (fun h=>by have:=hw h;rw[List.length_append,List.length_singleton];omega) (by omega),List.append_assoc,List.length_cons]
  congr 2
  have:v+1+(ks.length:Int)=v+((ks.length+1:Nat):Int):=by omega
  rw[this];rfl
theorem Vz {x:Cx} {num:Bool} {wid:Int} (d' n':Int):∀(n:Nat) {acc:List Nd} {i:Nat} {v:Int} {ns:List B8},
  Ck (x.lim d' n') num wid true n acc i v ns=Ck x num wid true n acc i v ns:=by
 intro n
 induction n with
 | zero=>intros;rfl
 | succ n ih=>
  intro acc i v ns
  simp only[Ck]
  have:EP (x.lim d' n') true i v ns=EP x true i v ns:=rfl
  rw[this]
  simp only[ih]
theorem WF {x:Cx} {num:Bool} {wid:Int} {d' n':Int}:∀(n:Nat) {acc:List Nd} {i:Nat} {v:Int} {ns:List B8} {e:Nat} {v':Int} {ns':List B8} {out:List Nd},
  Ck x num wid false n acc i v ns= .ok (e,v',ns',out)->v<v'/\(3<=d'->v'<=n'->Ck (x.lim d' n') num wid false n acc i v ns= .ok (e,v',ns',out))/\
   (3<=d'->n'<v'->∃o,Ck (x.lim d' n') num wid false n acc i v ns= .error (o,10))/\(d'<3->∃o,Ck (x.lim d' n') num wid false n acc i v ns= .error (o,9)):=by
 intro n
 induction n with
 | zero=>intro acc i v ns e v' ns' out h;simp only[Ck]at h;cases h
 | succ n ih=>
  intro acc i v ns e v' ns' out h
  simp only[Ck]at h⊢
  split at h
  ·cases h
  rename_i hw
  rw[if_neg hw]
  simp only[bind,Except.bind]at h⊢
  split at h
  ·cases h
  rename_i p he
  obtain⟨e1,v1,ns1⟩:=p
  obtain⟨c1,c2,rfl,rfl,c3,c4⟩:=Lw he
  simp only at h
  have e9:d'<3->EP (x.lim d' n') false i v ns1= .error (i,9):=fun h=>entE_9 h
  have e10:3<=d'->n'<=v->EP (x.lim d' n') false i v ns1= .error (i,10):=fun h h2=>entE_10 h h2
  have eok:3<=d'->v<n'->EP (x.lim d' n') false i v ns1= .ok (e1,v+1,ns1):=fun h h2=>QO h h2 c3 c4
  split at h
  ·rename_i hm
   obtain⟨k0,k1,k2,k3⟩:=ih h
   refine⟨by omega,fun h1 h2=>?_,fun h1 h2=>?_,fun h1=>?_⟩
   ·rw[eok h1 (by omega)]
    simp only
    rw[if_pos hm];exact k1 h1 h2
   ·by_cases hv:n'<=v
    ·rw[e10 h1 hv];exact⟨_,rfl⟩
    ·rw[eok h1 (by omega)]
     simp only
     rw[if_pos hm];exact k2 h1 h2
   ·rw[e9 h1];exact⟨_,rfl⟩
  ·rename_i hm
   split at h
   ·cases h
   rename_i m hm2
   cases h
   refine⟨by omega,fun h1 h2=>?_,fun h1 h2=>?_,fun h1=>?_⟩
   ·rw[eok h1 (by omega)]
    simp only
    rw[if_neg hm,hm2]
   ·rw[e10 h1 (by omega)];exact⟨_,rfl⟩
   ·rw[e9 h1];exact⟨_,rfl⟩
def Jl (s:B8) (num:Bool) (wid:Int) (R:Except (Nat×Int) (Nat×Int×List B8×List Nd)):Except (Nat×Int) (Nat×Int×List B8×Nd×Int):=
 match R with
 | .error e=> .error e
 | .ok (e,v2,ns2,ks)=>match D2 s e with
  | .error e=> .error e
  | .ok n=>if (ks.length:Int)<(if num then wid else(ks.length:Int))then .error (e,10)else .ok (e+n,v2,ns2,.mk 8 [] [] ks (slc s e (e+n)),if num then wid else(ks.length:Int))
theorem Gr (x:Cx) (num:Bool) (wid:Int) (hd:Bool) (i:Nat) (v:Int) (ns:List B8):GM x num wid hd i v ns=
  if hd=true then Jl x.s num wid (Ck x num wid hd (x.s.length+1) [] i v ns)else match Ge x.dep x.nod 2 i v with
   | .error e=> .error e
   | .ok v1=>Jl x.s num wid (Ck x num wid hd (x.s.length+1) [] i v1 ns):=by
 unfold GM Jl
 cases hd with
 | true=>
  simp only[if_true,bind,Except.bind]
  rcases Ck x num wid true (x.s.length+1) [] i v ns with e | ⟨e,v2,ns2,ks⟩
  ·rfl
  ·cases h:D2 x.s e<;>simp[h]
 | false=>
  simp only[Bool.false_eq_true,if_false,bind,Except.bind]
  cases Ge x.dep x.nod 2 i v with
  | error e=>rfl
  | ok v1=>
   simp only
   rcases Ck x num wid false (x.s.length+1) [] i v1 ns with e | ⟨e,v2,ns2,ks⟩
   ·rfl
   ·cases h:D2 x.s e<;>simp[h]
theorem Vd {dep nod d:Int} {i:Nat} {v v1:Int} (h:Ge dep nod d i v= .ok v1):v1=v+1:=by
 unfold Ge at h
 split at h
 ·cases h
 split at h
 ·cases h
 ·cases h;rfl
theorem HM {x:Cx} {num hd:Bool} {wid:Int} {i:Nat} {v:Int} {ns:List B8} {p:Nat×Int×List B8×Nd×Int} (h:GM x num wid hd i v ns= .ok p):
  ∃v1,v1=v+(if hd then 0 else 1)/\Jl x.s num wid (Ck x num wid hd (x.s.length+1) [] i v1 ns)= .ok p:=by
 rw[Gr]at h
 cases hd with
 | true=>exact⟨v,by simp,by simpa using h⟩
 | false=>
  simp only[Bool.false_eq_true,if_false]at h
  split at h
  ·cases h
  ·rename_i v1 h1
   exact⟨v1,by simpa using Vd h1,h⟩
theorem Nm {s:B8} {num:Bool} {wid:Int} {R:Except (Nat×Int) (Nat×Int×List B8×List Nd)} {p:Nat×Int×List B8×Nd×Int} (h:Jl s num wid R= .ok p):
  ∃e v2 ns2 ks m,R= .ok (e,v2,ns2,ks)/\D2 s e= .ok m/\¬(ks.length:Int)<(if num then wid else(ks.length:Int))/\p=(e+m,v2,ns2,.mk 8 [] [] ks (slc s e (e+m)),if num then wid else(ks.length:Int)):=by
 unfold Jl at h
 split at h
 ·cases h
 rename_i e v2 ns2 ks
 split at h
 ·cases h
 rename_i m hm
 by_cases hw:(ks.length:Int)<(if num then wid else(ks.length:Int))
 ·rw[if_pos hw]at h;cases h
 ·rw[if_neg hw]at h
  exact⟨e,v2,ns2,ks,m,rfl,hm,hw,(Except.ok.inj h).symm⟩
section
theorem JJ (st:St) {a:Int} (c:UInt8) (hc:(c.toNat:Int)=a):(toBytes st (.list 1 .full 1 [.int .u8 a])).map TV.str=some (.str [c]):=by
 have:UInt8.ofNat a.toNat=c:=by rw[<-hc];simp
 rw[<-this];rfl
def OC (x:Cx) (i e:Nat):Nd:=KP x.s i e (if e<x.s.length/\by_ x.s e=x.a then [.mk 11 [] [x.s.getD e 0] [] []]else [])
def Lx (x:Cx) (e:Nat):Nat:=if e<x.s.length/\by_ x.s e=x.a then e+1 else e
def Ww (c:B8):List TV:=[.int .i64 2,.str [],.str c,.nilSlice,.str []]
def mrkC (c:UInt8):List TV:=[.int .i64 11,.str [],.str [c],.nilSlice,.str []]
theorem NdC.leaf (k:Int) (t:B8):NdC (.mk k [] t [] []) [.int .i64 k,.str [],.str t,.nilSlice,.str []]:=by
 unfold NdC;exact⟨_,[],rfl,.inl ⟨rfl,rfl,rfl⟩,Bs.nil⟩
theorem NdC.ent1 {s:B8} {i e:Nat} {v:TV} (h:Rd 5 v 1 (Ww (slc s i e))):NdC (KP s i e []) [.int .i64 5,.str [],.str [],v,.str []]:=by
 unfold KP NdC
 exact⟨v,_,rfl,h,Bs.one (NdC.leaf 2 _)⟩
theorem NdC.ent2 {s:B8} {i e:Nat} {c:UInt8} {v:TV} (h:Rd 5 v 2 (Ww (slc s i e)++mrkC c)):NdC (KP s i e [.mk 11 [] [c] [] []]) [.int .i64 5,.str [],.str [],v,.str []]:=by
 unfold KP NdC
 exact⟨v,_,rfl,h,Bs.append (Bs.one (NdC.leaf 2 _)) (Bs.one (NdC.leaf 11 _))⟩
theorem JW {S:Nat->Prop} {T sz bytes:Nat} {st0 st:St} {v:TV} {n k:Nat} {xs ys:List TV} {K:TV->St->Prop} (e:StX S st0 st) (h:Own st0.nt sz st v n xs) (hby:(n+k)*bytes<=140737488355328) (hys:k=0->ys=[])
  (hK:∀v' st',StX S st0 st'->st'.box=st.box->st'.nb=st.nb->Own st0.nt sz st' v' (n+k) (xs++ys)->K v' st'):BZ T sz bytes v k ys st K:=by
 have ef:∀st' T,StX S st0 st'->StX S st0 (st'.fresh T):=fun st' T h=>h.trans (StX.of ((Ap.refl st').fresh _))
 rcases h with⟨rfl,rfl,rfl⟩ | ⟨tip,rfl,ht⟩
 ·simp only[BZ]
  cases k with
  | zero=>rw[hys rfl]at hK;exact hK _ _ e rfl rfl (.nil _ _ _)
  | succ m=>
   simp only[Ar]
   refine⟨by simpa using hby,hK _ _ (ef _ _ e) rfl rfl ?_⟩
   simp only[List.nil_append,Nat.zero_add]
   exact Own.fresh _ _ e.nt
 ·simp only[BZ,Nat.beq_refl]
  refine⟨hby,?_⟩
  rcases ht with rfl | ⟨id,rfl,h1,h2,h3⟩
  ·cases k with
   | zero=>rw[hys rfl]at hK;simp only[List.append_nil]at hK;exact hK _ _ e rfl rfl (Own.full _ _ _ _ _)
   | succ m=>exact hK _ _ (ef _ _ e) rfl rfl (Own.fresh _ _ e.nt)
  ·have er:StX S st0 (st.retire id):=⟨e.nb,e.box,e.nt,fun i hi=>by simp only[St.retire];rw[if_neg (by omega)];exact e.live i hi,e.ty,e.bt⟩
   exact⟨h3,hK _ _ (ef _ _ er) rfl rfl (Own.fresh (st:=st.retire id) _ _ e.nt)⟩
theorem PSD.same {p m:Nat} {x:Cx} {hd ty:Bool} {l2 l3 l4:Int} {ns:List B8} {i n w o e:Int} {st st':St} (h:PSD p m x hd ty l2 l3 l4 ns i n w o e st) (hb:st'.box=st.box) (hn:st'.nb=st.nb):
  PSD p m x hd ty l2 l3 l4 ns i n w o e st':=by
 obtain⟨es,h1,h2⟩:=h.mp
 exact⟨h.ne,by rw[hn];exact h.lp,by rw[hn];exact h.lm,by rw[hb];exact h.bx,es,by rw[hb];exact h1,h2⟩
theorem Of {v:TV} (h:At v=true):List.all [v] At=true:=by simp[h]
def TO (x:Cx) (hd:Bool) (i:Nat) (v1:Int) (ns:List B8):Except (Nat×Int) (Nat×Int×List B8):=
 match Cj x.a x.q x.s i with
 | .error e=> .error e
 | .ok e=>if (if hd then 1024 else 65536)<(txt x.q (slc x.s i e)).length then .error (i,10)else if hd/\txt x.q (slc x.s i e)∈ns then .error (i,8)
  else .ok (e,v1,if hd then txt x.q (slc x.s i e)::ns else ns)
theorem QP (x:Cx) (hd:Bool) (i:Nat) (v:Int) (ns:List B8):EP x hd i v ns=if hd=true then TO x hd i v ns else match Ge x.dep x.nod 3 i v with
  | .error e=> .error e
  | .ok v1=>TO x hd i v1 ns:=by
 unfold EP TO
 cases hd with
 | true=>simp only[if_true,bind,Except.bind];cases Cj x.a x.q x.s i<;>rfl
 | false=>
  simp only[Bool.false_eq_true,if_false,bind,Except.bind]
  cases Ge x.dep x.nod 3 i v with
  | error e=>rfl
  | ok v1=>simp only;cases Cj x.a x.q x.s i<;>rfl
section
variable {p m:Nat} {x:Cx} {hd ty:Bool} {l2 l3 l4:Int} {ns:List B8} {I v w o e:Int} {st:St}
theorem VK {i:Nat} {header:Bool} {K:Int->B8->B8->TV->B8->Bool->St->Prop} (hI:I=(i:Int)) (hi:i<=x.s.length) (hl:x.s.length<=2000000) (hv0:0<=v) (hv:v<1000000000)
  (h:PSD p m x hd ty l2 l3 l4 ns I v w o e st)
  (h0:∀(k:Nat) v1 ns1 kv st',EP x header i v ns= .ok (k,v1,ns1)->StX (PM p m) st st'->PSD p m x hd ty l2 l3 l4 ns1 (Lx x k:Nat) v1 w o e st'->NdC (OC x i k) [.int .i64 5,.str [],.str [],kv,.str []]->Rd 5 kv (if k<x.s.length/\by_ x.s k=x.a then 2 else 1) (if k<x.s.length/\by_ x.s k=x.a then Ww (slc x.s i k)++mrkC (x.s.getD k 0)else Ww (slc x.s i k))->K 5 [] [] kv [] true st')
  (h1:∀(o':Nat) e' (k v1:Int) kv st',EP x header i v ns= .error (o',e')->StX (PM p m) st st'->PSD p m x hd ty l2 l3 l4 ns k v1 w o' e' st'->At kv=true->K 5 [] [] kv [] false st'):
  CallT PR AL [.box p 0,.bool header] [.agg [.int .i64,.str,.str,.tv,.str],.one .bool] st K:=by
 subst hI
 have hb:=h.bx
 have tn:∀k:Nat,Int.toNat (k:Int)=k:=fun k=>rfl
 have w1:∀k:Nat,k<=x.s.length->i64.wrap ((k:Int)+1)=((k+1:Nat):Int):=fun k hk=>by rw[Af _ (by omega) (by omega)];omega
 --behind the checks
 have fin:∀(k:Nat) (v1:Int) ns1,i<=k->k<=x.s.length->EP x header i v ns= .ok (k,v1,ns1)->
   ∀(v4:TV) (st8:St),StX (PM p m) st st8->PSD p m x hd ty l2 l3 l4 ns1 k v1 w o e st8->Own st.nt 5 st8 v4 1 (Ww (slc x.s i k))->
    (k<x.s.length->by_ x.s k=x.a->∀st9,StX (·=p) st8 st9->st9.box p= .cells ((pcl x hd ty l2 l3 l4 m k v1 w o e).set 10 (.int .i64 (i64.wrap ((k:Int)+1))))->BZ 79 5 80 v4 1 (mrkC (x.s.getD k 0)) st9 fun v5 st10=>need (List.all [v5] At) (need (List.all [.int .i64 5,.str [],.str [],v5,.str []] At) (K 5 [] [] v5 [] true st10)))/\
    (¬(k<x.s.length/\by_ x.s k=x.a)->K 5 [] [] v4 [] true st8):=by
  intro k v1 ns1 hik hk he v4 st8 e8 k8 o8
  refine⟨fun c1 c2 st9 e9 b9=>?_,fun c=>?_⟩
  ·rw[w1 k (by omega)]at b9
   have hen:OC x i k=KP x.s i k [.mk 11 [] [x.s.getD k 0] [] []]:=by unfold OC;rw[if_pos ⟨c1,c2⟩]
   refine JW (e8.trans e9.pm) (o8.extXD e9) (by omega) (fun h=>by cases h) fun v5 st10 e10 hbx hnb o10=>Ab (Of o10.rd.one) (Ab (EH o10.rd.one) ?_)
   refine h0 k v1 ns1 v5 st10 he e10 ?_ (by rw[hen];exact NdC.ent2 o10.rd) (by rw[if_pos ⟨c1,c2⟩,if_pos ⟨c1,c2⟩];exact o10.rd)
   have:Lx x k=k+1:=by unfold Lx;rw[if_pos ⟨c1,c2⟩]
   rw[this]
   exact(k8.of e9 b9).same hbx hnb
  ·have hen:OC x i k=KP x.s i k []:=by unfold OC;rw[if_neg c]
   refine h0 k v1 ns1 v4 st8 he e8 ?_ (by rw[hen];exact NdC.ent1 o8.rd) (by rw[if_neg c,if_neg c];exact o8.rd)
   have:Lx x k=k:=by unfold Lx;rw[if_neg c]
   rw[this]
   exact k8
 refine Ih p header st K (Al (fun hh=>?_) fun hh=>?_)
 case' refine_1=>
  have hh:header=false:=by simpa using hh
  rw[QP,if_neg (by rw[hh];decide)]at h0 h1 fin
  refine PA rfl hv0 hv h (fun v' st1 hb1 e1 k1=>?_) fun o' e' st1 hb1 e1 k1=>?_
  case' refine_2=>
   rw[hb1]at h1
   exact Al (fun _=>h1 _ _ _ _ _ st1 rfl e1 k1 rfl) fun h=>by cases h
  rw[hb1]at h0 h1 fin
  refine Al (fun h=>by cases h) fun _=>?_
  simp only at h0 h1 fin
 case' refine_2=>
  have hh:header=true:=by simpa using hh
  rw[QP,if_pos hh]at h0 h1 fin
  obtain⟨v',hv'⟩:∃v',v'=v:=⟨_,rfl⟩
  obtain⟨st1,hst1⟩:∃st1,st1=st:=⟨_,rfl⟩
  have e1:StX (PM p m) st st1:=hst1▸StX.refl _ _
  have k1:PSD p m x hd ty l2 l3 l4 ns i v' w o e st1:=by rw[hst1,hv'];exact h
  rw[<-hst1]
  rw[<-hv']at h0 h1 fin
 all_goals
  have b1:=k1.bx
  repeat' first
   | (guard_target=~need _ _;refine Ab rfl ?_)
   | (guard_target=~Ah (Ac _ _ _ _) _;refine Ad (ldB b1 rfl) ?_)
   | (guard_target=~Ag (.int _) _ _;refine Aq ?_)
   | (guard_target=~Ag .str _ _;refine Aj ?_)
   | (guard_target=~Ag .bool _ _;refine Ao ?_)
  refine WP rfl hi hl k1 (fun k st2 hc e2 k2=>?_) fun o' e' k st2 hc e2 k2=>?_
  case' refine_2=>
   unfold TO at h1
   rw[hc]at h1
   exact Al (fun _=>h1 _ _ _ _ _ st2 rfl (e1.trans e2) k2 rfl) fun h=>by cases h
  refine Al (fun h=>by cases h) fun _=>?_
  have hle:=CC hi hc
  have hW:=Q3 hi hc
  have b2:=k2.bx
  unfold TO at h0 h1 fin
  rw[hc]at h0 h1 fin
  simp only at h0 h1 fin
  repeat' first
   | (guard_target=~need _ _;refine Ab rfl ?_)
   | (guard_target=~Ah (Ac _ _ _ _) _;refine Ad (ldB b2 rfl) ?_)
   | (guard_target=~Ag (.int _) _ _;refine Aq ?_)
   | (guard_target=~Ag .str _ _;refine Aj ?_)
   | (guard_target=~Ag .bool _ _;refine Ao ?_)
  refine⟨⟨by omega,by omega,by omega⟩,Ad (x:= .agg [.int .u8 x.a,.int .u8 x.q,.bool hd,.bool ty]) (by rw[ldsB b2 rfl rfl];rfl) ?_⟩
  rw[tn,tn]
  refine NT hW (by show(slc x.s i k).length<=_;rw[Le hle.1 hle.2];omega) fun st3 e3=>?_
  have k3:=k2.keep (StX.of (S:=fun _=>False) e3) (fun h=>h) (fun h=>h)
  have e4:=(e1.trans e2).trans (StX.of e3)
  refine⟨fun mo p' hd' fr c t kd ld tx kv tl st'=>mo=(if header then 1024 else 65536)/\TV.box p 0=p'/\header=hd'/\(i:Int)=fr/\slc x.s i k=c/\txt x.q (slc x.s i k)=t/\5=kd/\[]=ld/\[]=tx/\TV.nilSlice=kv/\[]=tl/\st3=st',
   Al (fun h=>⟨by rw[h];rfl,rfl,rfl,rfl,rfl,rfl,rfl,rfl,rfl,rfl,rfl,rfl⟩) (fun h=>⟨by rw[h];rfl,rfl,rfl,rfl,rfl,rfl,rfl,rfl,rfl,rfl,rfl,rfl⟩),?_⟩
  rintro _ _ _ _ _ _ _ _ _ _ _ _ ⟨rfl,rfl,rfl,rfl,rfl,rfl,rfl,rfl,rfl,rfl,rfl,rfl⟩
  refine Aa (fun g=>?_) fun g=>?_
  ·rw[if_pos (by cases header<;>simp at g⊢<;>omega)]at h1
   exact CY k3 fun st4 e5 k4=>Ab rfl (h1 _ _ _ _ _ st4 rfl (e4.trans e5) k4 rfl)
  rw[if_neg (by cases header<;>simp at g⊢<;>omega)]at h0 h1 fin
  have b3:=k3.bx
  obtain⟨es,hm1,hm2⟩:=k3.mp
  refine Al (fun g2=>?_) fun g2=>?_
  case' refine_1=>
   repeat' first
    | (guard_target=~need _ _;refine Ab rfl ?_)
    | (guard_target=~Ah (Ac _ _ _ _) _;refine Ad (ldB b3 rfl) ?_)
    | (guard_target=~Ag (.int _) _ _;refine Aq ?_)
    | (guard_target=~Ag .str _ _;refine Aj ?_)
    | (guard_target=~Ag .bool _ _;refine Ao ?_)
   refine Ad (x:=es) (by simp only[Js,hm1]) ?_
   rw[hm2]
   by_cases hin:txt x.q (slc x.s i k)∈ns
   case' pos=>
    rw[if_pos hin]
    rw[if_pos ⟨g2,hin⟩]at h1
    refine Ao (Al (fun _=>?_) fun h=>by cases h)
    exact CY k3 fun st4 e5 k4=>Ab rfl (h1 _ _ _ _ _ st4 rfl (e4.trans e5) k4 rfl)
   rw[if_neg hin]
   rw[if_neg (by rintro⟨_,h⟩;exact hin h),if_pos g2]at h0 fin
   refine Ao (Al (fun h=>by cases h) fun _=>?_)
   repeat' first
    | (guard_target=~need _ _;refine Ab rfl ?_)
    | (guard_target=~Ah (Ac _ _ _ _) _;refine Ad (ldB b3 rfl) ?_)
    | (guard_target=~Ag (.int _) _ _;refine Aq ?_)
    | (guard_target=~Ag .str _ _;refine Aj ?_)
    | (guard_target=~Ag .bool _ _;refine Ao ?_)
   refine⟨es,hm1,?_⟩
   obtain⟨st7,hst7⟩:∃st7,st7=st3.put m (.map (J5 (txt x.q (slc x.s i k)) (.bool true) es)):=⟨_,rfl⟩
   rw[<-hst7]
   have e7:StX (PM p m) st st7:=by rw[hst7];exact e4.trans (StX.put (.inr rfl) _)
   have k7:PSD p m x hd ty l2 l3 l4 (txt x.q (slc x.s i k)::ns) k v' w o e st7:=by
    refine⟨k3.ne,by rw[hst7];exact k3.lp,by rw[hst7];exact k3.lm,?_,_,?_,hm2.add _⟩
    ·rw[hst7];simp only[St.put];rw[if_neg k3.ne];exact k3.bx
    ·rw[hst7,EW]
  case' refine_2=>
   rw[if_neg (by rintro⟨h,_⟩;rw[g2]at h;cases h),if_neg (by rw[g2];decide)]at h0 fin
   obtain⟨st7,hst7⟩:∃st7,st7=st3:=⟨_,rfl⟩
   rw[<-hst7]
   have e7:StX (PM p m) st st7:=by rw[hst7];exact e4
   have k7:PSD p m x hd ty l2 l3 l4 ns k v' w o e st7:=by rw[hst7];exact k3
  all_goals
   refine JW e7 (Own.nil _ _ _) (by omega) (fun h=>by cases h) fun v4 st8 e8 hbx hnb o8=>Ab (Of o8.rd.one) ?_
   have k8:=k7.same hbx hnb
   have b8:=k8.bx
   obtain⟨f1,f2⟩:=fin k v' _ hle.1 hle.2 rfl v4 st8 e8 k8 o8
   repeat' first
    | (guard_target=~need _ _;refine Ab rfl ?_)
    | (guard_target=~Ah (Ac _ _ _ _) _;refine Ad (ldB b8 rfl) ?_)
    | (guard_target=~Ag (.int _) _ _;refine Aq ?_)
    | (guard_target=~Ag .str _ _;refine Aj ?_)
    | (guard_target=~Ag .bool _ _;refine Ao ?_)
   refine Aa (fun q1=>?_) fun q1=>?_
   ·repeat' first
     | (guard_target=~need _ _;refine Ab rfl ?_)
     | (guard_target=~Ah (Ac _ _ _ _) _;refine Ad (ldB b8 rfl) ?_)
     | (guard_target=~Ag (.int _) _ _;refine Aq ?_)
     | (guard_target=~Ag .str _ _;refine Aj ?_)
     | (guard_target=~Ag .bool _ _;refine Ao ?_)
    refine⟨⟨by omega,by omega⟩,?_⟩
    repeat' first
     | (guard_target=~need _ _;refine Ab rfl ?_)
     | (guard_target=~Ah (Ac _ _ _ _) _;refine Ad (ldB b8 rfl) ?_)
     | (guard_target=~Ag (.int _) _ _;refine Aq ?_)
     | (guard_target=~Ag .str _ _;refine Aj ?_)
     | (guard_target=~Ag .bool _ _;refine Ao ?_)
    rw[tn]
    refine Aa (fun q2=>?_) fun q2=>?_
    ·repeat' first
      | (guard_target=~need _ _;refine Ab rfl ?_)
      | (guard_target=~Ah (Ac _ _ _ _) _;refine Ad (ldB b8 rfl) ?_)
      | (guard_target=~Ag (.int _) _ _;refine Aq ?_)
      | (guard_target=~Ag .str _ _;refine Aj ?_)
      | (guard_target=~Ag .bool _ _;refine Ao ?_)
     refine Fo b8 rfl fun st9 e9 b9=>?_
     repeat' first
      | (guard_target=~need _ _;refine Ab rfl ?_)
      | (guard_target=~Ah (Ac _ _ _ _) _;refine Ad (ldB b9 rfl) ?_)
      | (guard_target=~Ag (.int _) _ _;refine Aq ?_)
      | (guard_target=~Ag .str _ _;refine Aj ?_)
      | (guard_target=~Ag .bool _ _;refine Ao ?_)
     refine Ad (JJ _ (x.s.getD k 0) q2) ?_
     exact f1 (by omega) q2 st9 e9 b9
    ·exact Ab (EH o8.rd.one) (f2 fun h=>q2 h.2)
   ·exact Ab (EH o8.rd.one) (f2 fun h=>absurd h.1 (by omega))
end
end
section
theorem Pw (x:Cx) (num:Bool) (wid:Int) (hd:Bool) (n:Nat) (acc:List Nd) (i:Nat) (v:Int) (ns:List B8):Ck x num wid hd (n+1) acc i v ns=
  if num=true/\wid<=(acc.length:Int)then .error (i,10)else match EP x hd i v ns with
   | .error e=> .error e
   | .ok (e,v1,ns1)=>if e<x.s.length/\by_ x.s e=x.a then Ck x num wid hd n (acc++[OC x i e]) (e+1) v1 ns1 else match D2 x.s e with
    | .error e=> .error e
    | .ok _=> .ok (e,v1,ns1,acc++[OC x i e]):=by
 simp only[Ck]
 by_cases hw:num=true/\wid<=(acc.length:Int)
 ·rw[if_pos hw,if_pos hw]
 rw[if_neg hw,if_neg hw]
 simp only[bind,Except.bind]
 rcases EP x hd i v ns with e | ⟨e,v1,ns1⟩
 ·rfl
 simp only
 by_cases hm:e<x.s.length/\by_ x.s e=x.a
 ·rw[if_pos hm,if_pos hm]
  unfold OC;rw[if_pos hm]
 ·rw[if_neg hm,if_neg hm]
  unfold OC;rw[if_neg hm]
  cases D2 x.s e<;>rfl
theorem UQ {x:Cx} {hd:Bool} {i:Nat} {v:Int} {ns:List B8} {e:Nat} {v1:Int} {ns1:List B8} (hi:i<=x.s.length) (h:EP x hd i v ns= .ok (e,v1,ns1)):i<=e/\e<=x.s.length/\v<=v1/\v1<=v+1:=by
 cases hd with
 | true=>have:=Mr h;have h2:=CC hi this.2.1;omega
 | false=>have:=Lw h;have h2:=CC hi this.2.2.2.2.1;omega
theorem StX.out {p m r:Nat} {a b c:St} (h:StX (PM p m) a b) (k:StX (PM3 p m r) b c) (hr:a.nb<=r):StX (PM p m) a c:=
 ⟨Nat.le_trans h.nb k.nb,fun i hi hs=>(k.box i (Nat.lt_of_lt_of_le hi h.nb) (by rintro(g | g | g);exact hs (.inl g);exact hs (.inr g);omega)).trans (h.box i hi hs),Nat.le_trans h.nt k.nt,fun i hi=>(k.live i (Nat.lt_of_lt_of_le hi h.nt)).trans (h.live i hi),fun i hi=>(k.ty i (Nat.lt_of_lt_of_le hi h.nt)).trans (h.ty i hi),fun i hi=>(k.bt i (Nat.lt_of_lt_of_le hi h.nb)).trans (h.bt i hi)⟩
theorem StX.r3 {p m r:Nat} {a b:St} (h:StX (·=r) a b):StX (PM3 p m r) a b:=h.mono fun _ g=> .inr (.inr g)
theorem stB_A {st:St} {b off:Nat} {xs:List TV} {l:List TV} {k:St->Prop} (hb:st.box b= .cells l) (hl:off+xs.length<=l.length) (hk:∀st',StX (·=b) st st'->st'.box b= .cells (setAll l off xs)->k st'):stB st (.box b off) xs k:=
 ⟨l,hb,hl,hk _ (StX.put (S:=(·=b)) rfl _) (EW _ _ _)⟩
theorem Om {st:St} {b:Nat} {c0 c1 c2 c3 c4:TV} (hb:st.box b= .cells [c0,c1,c2,c3,c4]):(Ai st [] (.t (.box b 0)) 0 5).map TV.agg=some (.agg [c0,c1,c2,c3,c4]):=by
 rw[show Ai st [] (.t (.box b 0)) 0 5=some [c0,c1,c2,c3,c4]from ldsB hb rfl rfl];rfl
theorem JA {k:Int} {l t tl:B8} {u:TV} {f:Int->B8->B8->TV->B8->Prop} (h:f k l t u tl):AU [.int .i64,.str,.str,.tv,.str] (.agg [.int .i64 k,.str l,.str t,u,.str tl]) f:=h
theorem XY {p H:Prop} [Decidable p] {A X:Prop} (t:H->X) (h1:p->(H->X)->A) (h2:¬p->H):BIf (decide p) A X:=Aa (fun q=>h1 q t) fun q=>t (h2 q)
section
variable {p m:Nat} {x:Cx} {hd ty:Bool} {l2 l3 l4:Int} {ns:List B8} {I v w o e:Int} {st:St}
theorem Tj {i:Nat} {N:Int} {K:Int->B8->B8->TV->B8->Bool->St->Prop} (hI:I=(i:Int)) (hi:i<=x.s.length) (hl:x.s.length<=2000000) (hv0:0<=v) (hv:v<=100000000) (hN:0<=N)
  (h:PSD p m x hd ty l2 l3 l4 ns I v w o e st)
  (h0:∀(k:Nat) v1 ns1 r w1 kv tl st',GM x (decide (N≠0)) w (decide (N=0)&&hd) i v ns= .ok (k,v1,ns1,r,w1)->StX (PM p m) st st'->PSD p m x hd ty l2 l3 l4 ns1 k v1 w1 o e st'->NdC r [.int .i64 8,.str [],.str [],kv,.str tl]->K 8 [] [] kv tl true st')
  (h1:∀(o':Nat) e' ns1 (k v1 w1:Int) kv tl st',GM x (decide (N≠0)) w (decide (N=0)&&hd) i v ns= .error (o',e')->StX (PM p m) st st'->PSD p m x hd ty l2 l3 l4 ns1 k v1 w1 o' e' st'->At kv=true->K 8 [] [] kv tl false st'):
  CallT PR Cn [.box p 0,.int .i64 N] [.agg [.int .i64,.str,.str,.tv,.str],.one .bool] st K:=by
 subst hI
 have hb:=h.bx
 have tn:∀k:Nat,Int.toNat (k:Int)=k:=fun k=>rfl
 obtain⟨header,hhd⟩:∃b,b=(decide (N=0)&&hd):=⟨_,rfl⟩
 rw[<-hhd]at h0 h1
 --the record's own box
 obtain⟨r,hr⟩:∃r,r=st.nb:=⟨_,rfl⟩
 have hrp:p≠r:=by have:=h.lp;omega
 have hrm:m≠r:=by have:=h.lm;omega
 have start:∀st1,StX (·=r) (st.push (.cells [.int .i64 0,.str [],.str [],.nilSlice,.str []]) (some 79)) st1->st1.box r= .cells [.int .i64 8,.str [],.str [],.nilSlice,.str []]->
   StX (PM p m) st st1/\PSD p m x hd ty l2 l3 l4 ns i v w o e st1/\r<st1.nb:=fun st1 e1 b1=>by
  have e0:StX (PM3 p m r) (st.push (.cells [.int .i64 0,.str [],.str [],.nilSlice,.str []]) (some 79)) st1:=e1.r3
  have ep:StX (PM p m) st (st.push (.cells [.int .i64 0,.str [],.str [],.nilSlice,.str []]) (some 79)):=StX.of ((Ap.refl st).push _ _)
  refine⟨ep.out e0 (by omega),(h.keep (StX.of (S:=fun _=>False) ((Ap.refl st).push _ _)) (fun h=>h) fun h=>h).other e1 hrp hrm,?_⟩
  have:=e1.nb
  simp only[St.push]at this
  omega
 have rk:∀sta stb L,StX (PM p m) sta stb->r<sta.nb->sta.box r= .cells L->stb.box r= .cells L:=fun sta stb L e hlt h=>by
  rw[e.box r hlt (fun h=>h.elim (fun h=>hrp h.symm) fun h=>hrm h.symm)];exact h
 obtain⟨num,hnum⟩:∃b,b=decide (N≠0):=⟨_,rfl⟩
 have hnum1:num=true↔N≠0:=by rw[hnum];simp
 rw[<-hnum]at h0 h1
 generalize hD:GM x num w header i v ns=D0 at h0 h1
 rw[Gr]at hD
 --the loop's start:behind the first value
 refine Hu p N st K (Aa (fun hn=>?_) fun hn=>?_)
 case' refine_1=>
  repeat' first
   | (guard_target=~need _ _;refine Ab rfl ?_)
   | (guard_target=~Ah (Ac _ _ _ _) _;refine Ad (ldB hb rfl) ?_)
   | (guard_target=~Ag (.int _) _ _;refine Aq ?_)
   | (guard_target=~Ag .str _ _;refine Aj ?_)
   | (guard_target=~Ag .bool _ _;refine Ao ?_)
  rw[<-hr]
  refine stB_A (b:=r) (by rw[hr];exact Ho _ _ _) (by simp) fun st1 e1 b1=>?_
  have b1:st1.box r= .cells [.int .i64 8,.str [],.str [],.nilSlice,.str []]:=b1
  obtain⟨f1,k1,lr1⟩:=start st1 e1 b1
  refine Al (fun hh=>?_) fun hh=>?_
 case' refine_2=>
  rw[<-hr]
  refine stB_A (b:=r) (by rw[hr];exact Ho _ _ _) (by simp) fun st1 e1 b1=>?_
  have b1:st1.box r= .cells [.int .i64 8,.str [],.str [],.nilSlice,.str []]:=b1
  obtain⟨f1,k1,lr1⟩:=start st1 e1 b1
 case' refine_1.refine_1=>
  have hhd':header=hd:=by rw[hhd,hn];simp
  have hhf:header=false:=by rw[hhd'];simpa using hh
 case' refine_2=>
  have hhf:header=false:=by rw[hhd];simp[hn]
  have hhd':header=false:=hhf
 case' refine_1.refine_2=>
  have hhd':header=hd:=by rw[hhd,hn];simp
  have hht:header=true:=by rw[hhd'];simpa using hh
  rw[if_pos hht]at hD
  have hv1:v<=v/\v<=v+1:=by omega
  have f2:=f1
  have k2:=k1
  have lr2:=lr1
  have b2:=b1
 case' refine_1.refine_1 | refine_2=>
  rw[if_neg (by rw[hhf];decide)]at hD
  refine PA rfl hv0 (by omega) k1 (fun v' st2 hb1 e2 k2=>?_) fun o' e' st2 hb1 e2 k2=>?_
 case' refine_1.refine_1.refine_2 | refine_2.refine_2=>
  rw[hb1]at hD
  refine Al (fun _=>?_) fun h=>by cases h
  have b2:=rk _ _ _ e2 lr1 b1
  refine Ad (Om b2) (JA ?_)
  exact Ab (EH (u:= .nilSlice) rfl) (h1 _ _ _ _ _ _ .nilSlice [] st2 hD.symm (f1.trans e2) k2 rfl)
 case' refine_1.refine_1.refine_1 | refine_2.refine_1=>
  rw[hb1]at hD
  simp only at hD
  refine Al (fun h=>by cases h) fun _=>?_
  have b2:=rk _ _ _ e2 lr1 b1
  have hv1:v<=v'/\v'<=v+1:=by have:=Vd hb1;omega
  have f2:=f1.trans e2
  have lr2:r<st2.nb:=Nat.lt_of_lt_of_le lr1 e2.nb
 all_goals
  refine⟨fun p' N' hd' r' st'=>TV.box p 0=p'/\N=N'/\header=hd'/\TV.box r 0=r'/\∃(j n:Nat) (acc:List Nd) (v1:Int) (ns1:List B8) (kv:TV) (xs:List TV),StX (PM p m) st st'/\r<st'.nb/\PSD p m x hd ty l2 l3 l4 ns1 j v1 w o e st'/\
    st'.box r= .cells [.int .i64 8,.str [],.str [],kv,.str []]/\Own st.nt 5 st' kv acc.length xs/\Bs acc xs/\j<=x.s.length/\x.s.length<j+n/\acc.length<=j/\0<=v1/\v1<=v+1+j/\Jl x.s num w (Ck x num w header n acc j v1 ns1)=D0,
   fun _ _ _ _ st'=>(x.s.length-MV st' p 10).toNat,⟨rfl,rfl,hhd',rfl,i,x.s.length+1,[],_,ns,.nilSlice,[],f2,lr2,k2,b2,Own.nil _ _ _,Bs.nil,hi,by omega,by simp,by omega,by omega,hD⟩,?_⟩
  rintro _ _ _ _ st3 ⟨rfl,rfl,rfl,rfl,j,n,acc,v1,ns1,kv,xs,f3,lr3,k3,b3,o3,hx,hj,hjn,hac,hv3,hv4,hE⟩
  cases n with
  | zero=>omega
  | succ n=>
  rw[Pw]at hE
  have bp3:=k3.bx
  refine XY (H:=¬(num=true/\w<=(acc.length:Int))) (fun hw=>?_) (fun q t=>?_) (fun q=>by rintro⟨h,_⟩;have:=hnum1.1 h;omega)
  ·rw[if_neg hw]at hE
   refine VK rfl hj hl (by omega) (by omega) k3 (fun k v2 ns2 v4 st4 he e4 k4 hc4 hr4=>?_) fun o' e' k' v' v4 st4 he e4 k4 ho4=>?_
   ·rw[he]at hE
    simp only at hE
    have hle:=UQ hj he
    refine Ab (EH hr4.one) (Al (fun h=>by cases h) fun _=>?_)
    have b4:=rk _ _ _ e4 lr3 b3
    repeat' first
     | (guard_target=~need _ _;refine Ab rfl ?_)
     | (guard_target=~Ah (Ac _ _ _ _) _;refine Ad (ldB b4 rfl) ?_)
     | (guard_target=~Ag (.int _) _ _;refine Aq ?_)
     | (guard_target=~Ag .str _ _;refine Aj ?_)
     | (guard_target=~Ag .bool _ _;refine Ao ?_)
    refine Ab o3.rd.isSl ?_
    repeat' first
     | (guard_target=~need _ _;refine Ab rfl ?_)
     | (guard_target=~Ah (Ac _ _ _ _) _;refine Ad (ldB b4 rfl) ?_)
     | (guard_target=~Ag (.int _) _ _;refine Aq ?_)
     | (guard_target=~Ag .str _ _;refine Aj ?_)
     | (guard_target=~Ag .bool _ _;refine Ao ?_)
    refine Ab (EH hr4.one) ⟨rfl,?_⟩
    refine JW (f3.trans e4) (o3.extXD e4) (by omega) (fun h=>by cases h) fun v5 st5 e5 hbx hnb o5=>?_
    have b5:st5.box r= .cells [.int .i64 8,.str [],.str [],kv,.str []]:=by rw[hbx];exact b4
    refine Fo b5 rfl fun st6 e6 b6=>?_
    have k6:=(k4.same hbx hnb).other e6 hrp hrm
    have f6:StX (PM p m) st st6:=e5.out e6.r3 (by omega)
    have lr6:r<st6.nb:=by have h1:=e4.nb;have h2:=e6.nb;omega
    have hx6:=hx.append (Bs.one hc4)
    have o6:=o5.extXD e6
    have hlen:(acc++[OC x j k]).length=acc.length+1:=by simp
    refine Ab hr4.isSl ?_
    rw[hr4.lenS]
    by_cases hmk:k<x.s.length/\by_ x.s k=x.a
    ·rw[if_pos hmk]at hE
     rw[if_pos hmk]
     refine Aa (fun h=>absurd h (by decide)) fun _=>?_
     have hat:Lx x k=k+1:=by unfold Lx;rw[if_pos hmk]
     rw[hat]at k6
     refine⟨⟨rfl,rfl,rfl,rfl,k+1,n,_,v2,ns2,v5,_,f6,lr6,k6,b6,by rw[hlen];exact o6,hx6,by omega,by omega,by omega,by omega,by omega,hE⟩,?_⟩
     dsimp only
     rw[DN k6.bx rfl,DN bp3 rfl]
     omega
    ·rw[if_neg hmk]at hE
     rw[if_neg hmk]
     refine Aa (fun _=>?_) fun h=>absurd rfl h
     have hat:Lx x k=k:=by unfold Lx;rw[if_neg hmk]
     rw[hat]at k6
     have bp6:=k6.bx
     repeat' first
      | (guard_target=~need _ _;refine Ab rfl ?_)
      | (guard_target=~Ah (Ac _ _ _ _) _;refine Ad (ldB bp6 rfl) ?_)
      | (guard_target=~Ag (.int _) _ _;refine Aq ?_)
      | (guard_target=~Ag .str _ _;refine Aj ?_)
      | (guard_target=~Ag .bool _ _;refine Ao ?_)
     refine R3 rfl hle.2.1 hl k6 hrp hrm lr6 b6 (fun n7 st7 hle7 e7 k7 b7=>?_) fun o' e' k' st7 hle7 e7 k7 b7=>?_
     ·rw[hle7]at hE
      simp only[Jl,hle7]at hE
      rw[hlen]at hE
      have f7:=f6.out e7 (by omega)
      have lr7:r<st7.nb:=Nat.lt_of_lt_of_le lr6 e7.nb
      have o7:=o6.extXD e7
      have bp7:=k7.bx
      have hnd:NdC (.mk 8 [] [] (acc++[OC x j k]) (slc x.s k (k+n7))) [.int .i64 8,.str [],.str [],v5,.str (slc x.s k (k+n7))]:=by
       unfold NdC;exact⟨v5,_,rfl,by rw[hlen];exact o7.rd,hx6⟩
      refine Al (fun h=>by cases h) fun _=>Aa (fun q0=>?_) fun q0=>?_
      ·have hn0:num=false:=by cases hb:num with | true=>exact absurd q0 (hnum1.1 hb) | false=>rfl
       rw[hn0,if_neg (by simp)]at hE
       repeat' first
        | (guard_target=~need _ _;refine Ab rfl ?_)
        | (guard_target=~Ah (Ac _ _ _ _) _;refine Ad (ldB b7 rfl) ?_)
        | (guard_target=~Ag (.int _) _ _;refine Aq ?_)
        | (guard_target=~Ag .str _ _;refine Aj ?_)
        | (guard_target=~Ag .bool _ _;refine Ao ?_)
       refine Ab o7.rd.isSl ?_
       rw[o7.rd.lenS]
       repeat' first
        | (guard_target=~need _ _;refine Ab rfl ?_)
        | (guard_target=~Ah (Ac _ _ _ _) _;refine Ad (ldB b7 rfl) ?_)
        | (guard_target=~Ag (.int _) _ _;refine Aq ?_)
        | (guard_target=~Ag .str _ _;refine Aj ?_)
        | (guard_target=~Ag .bool _ _;refine Ao ?_)
       refine Fo bp7 rfl fun st8 e8 bp8=>?_
       have b8:st8.box r= .cells [.int .i64 8,.str [],.str [],v5,.str (slc x.s k (k+n7))]:=by rw[e8.box r lr7 fun h=>hrp h.symm];exact b7
       have k8:=k7.of e8 bp8
       repeat' first
        | (guard_target=~need _ _;refine Ab rfl ?_)
        | (guard_target=~Ah (Ac _ _ _ _) _;refine Ad (ldB b8 rfl) ?_)
        | (guard_target=~Ag (.int _) _ _;refine Aq ?_)
        | (guard_target=~Ag .str _ _;refine Aj ?_)
        | (guard_target=~Ag .bool _ _;refine Ao ?_)
       refine Ab o7.rd.isSl ?_
       rw[o7.rd.lenS]
       repeat' first
        | (guard_target=~need _ _;refine Ab rfl ?_)
        | (guard_target=~Ah (Ac _ _ _ _) _;refine Ad (ldB bp8 rfl) ?_)
        | (guard_target=~Ag (.int _) _ _;refine Aq ?_)
        | (guard_target=~Ag .str _ _;refine Aj ?_)
        | (guard_target=~Ag .bool _ _;refine Ao ?_)
       refine Aa (fun h=>absurd h (by omega)) fun _=>?_
       refine Ad (Om b8) (JA ?_)
       refine Ab (EH o7.rd.one) (h0 _ _ _ _ _ _ _ st8 hE.symm (f7.trans e8.pm) ?_ hnd)
       exact k8
      ·have hn1:num=true:=hnum1.2 q0
       rw[hn1,if_pos rfl]at hE
       repeat' first
        | (guard_target=~need _ _;refine Ab rfl ?_)
        | (guard_target=~Ah (Ac _ _ _ _) _;refine Ad (ldB b7 rfl) ?_)
        | (guard_target=~Ag (.int _) _ _;refine Aq ?_)
        | (guard_target=~Ag .str _ _;refine Aj ?_)
        | (guard_target=~Ag .bool _ _;refine Ao ?_)
       refine Ab o7.rd.isSl ?_
       rw[o7.rd.lenS]
       repeat' first
        | (guard_target=~need _ _;refine Ab rfl ?_)
        | (guard_target=~Ah (Ac _ _ _ _) _;refine Ad (ldB bp7 rfl) ?_)
        | (guard_target=~Ag (.int _) _ _;refine Aq ?_)
        | (guard_target=~Ag .str _ _;refine Aj ?_)
        | (guard_target=~Ag .bool _ _;refine Ao ?_)
       refine Aa (fun q1=>?_) fun q1=>?_
       ·rw[if_pos q1]at hE
        refine Ad (Om b7) (JA ?_)
        refine CY k7 fun st8 e8 k8=>⟨?_,Ab (EH o7.rd.one) (h1 _ _ _ _ _ _ _ _ st8 hE.symm (f7.trans e8) k8 o7.rd.one)⟩
        rw[ldsB (rk _ _ _ e8 lr7 b7) rfl rfl];rfl
       ·rw[if_neg q1]at hE
        refine Ad (Om b7) (JA ?_)
        exact Ab (EH o7.rd.one) (h0 _ _ _ _ _ _ _ st7 hE.symm f7 k7 hnd)
     ·rw[hle7]at hE
      refine Al (fun _=>?_) fun h=>by cases h
      refine Ad (Om b7) (JA ?_)
      exact Ab (EH o6.rd.one) (h1 _ _ _ _ _ _ _ _ st7 hE.symm (f6.out e7 (by omega)) k7 o6.rd.one)
   ·rw[he]at hE
    refine Ab (EH ho4) (Al (fun _=>?_) fun h=>by cases h)
    have b4:=rk _ _ _ e4 lr3 b3
    refine Ad (Om b4) (JA ?_)
    exact Ab (EH o3.rd.one) (h1 _ _ _ _ _ _ _ _ st4 hE.symm (f3.trans e4) k4 o3.rd.one)
  ·have hnm:num=true:=hnum1.2 (by omega)
   repeat' first
    | (guard_target=~need _ _;refine Ab rfl ?_)
    | (guard_target=~Ah (Ac _ _ _ _) _;refine Ad (ldB b3 rfl) ?_)
    | (guard_target=~Ag (.int _) _ _;refine Aq ?_)
    | (guard_target=~Ag .str _ _;refine Aj ?_)
    | (guard_target=~Ag .bool _ _;refine Ao ?_)
   refine Ab o3.rd.isSl ?_
   repeat' first
    | (guard_target=~need _ _;refine Ab rfl ?_)
    | (guard_target=~Ah (Ac _ _ _ _) _;refine Ad (ldB bp3 rfl) ?_)
    | (guard_target=~Ag (.int _) _ _;refine Aq ?_)
    | (guard_target=~Ag .str _ _;refine Aj ?_)
    | (guard_target=~Ag .bool _ _;refine Ao ?_)
   rw[o3.rd.lenS]
   refine Aa (fun q2=>?_) fun q2=>?_
   ·rw[if_pos ⟨hnm,q2⟩]at hE
    refine Ad (Om b3) (JA ?_)
    repeat' first
     | (guard_target=~need _ _;refine Ab rfl ?_)
     | (guard_target=~Ah (Ac _ _ _ _) _;refine Ad (ldB bp3 rfl) ?_)
     | (guard_target=~Ag (.int _) _ _;refine Aq ?_)
     | (guard_target=~Ag .str _ _;refine Aj ?_)
     | (guard_target=~Ag .bool _ _;refine Ao ?_)
    refine CY k3 fun st4 e4 k4=>⟨?_,Ab (EH o3.rd.one) (h1 _ _ _ _ _ _ _ _ st4 hE.symm (f3.trans e4) k4 o3.rd.one)⟩
    rw[ldsB (rk _ _ _ e4 lr3 b3) rfl rfl];rfl
   ·exact t fun h=>q2 h.2
end
end
theorem RT {x:Cx} {num hd:Bool} {wid:Int} {i:Nat} {v:Int} {ns:List B8} {i':Nat} {v':Int} {ns':List B8} {r:Nd} {wid':Int} (hi:i<=x.s.length)
  (h:GM x num wid hd i v ns= .ok (i',v',ns',r,wid')):∃ks e m,r= .mk 8 [] [] ks (slc x.s e (e+m))/\i'=e+m/\IL x.a x.q x.s i ks e m/\v'=v+(if hd then 0 else 1+(ks.length:Int))/\
   (∀k∈ks,(txt x.q (AR k)).length<=65536)/\(ks.length:Int)=wid'/\(num=true->wid'=wid)/\(hd=false->3<=x.dep/\v'<=x.nod/\ns'=ns):=by
 obtain⟨v1,h1,h⟩:=HM h
 obtain⟨e,v2,ns2,ks,m',h2,h3,hw,hp⟩:=Nm h
 simp only[Prod.mk.injEq]at hp
 obtain⟨rfl,rfl,rfl,rfl,rfl⟩:=hp
 obtain⟨ks',m,k1,k2,k3,k4,k5,k6⟩:=WG _ hi h2
 rw[List.nil_append]at k1
 subst k1
 have hl:=k2.le hi
 rw[hl.2.2.2.2]at h3
 cases h3
 refine⟨_,e,_,rfl,rfl,k2,?_,k4,?_,?_,k6⟩
 ·rw[k3,h1];cases hd<;>simp;omega
 ·cases num with
  | true=>simp only[if_true]at hw⊢;have:=k5 rfl;omega
  | false=>rfl
 ·intro hn;rw[hn];rfl
theorem recD_of {x:Cx} {num:Bool} {wid:Int} (hdep:3<=x.dep) {i:Nat} {ks:List Nd} {e m:Nat} (h:IL x.a x.q x.s i ks e m) {v:Int} {ns:List B8}
  (hi:i<=x.s.length) (hk:∀k∈ks,(txt x.q (AR k)).length<=65536) (hw:num=true->(ks.length:Int)=wid) (hv:v+1+(ks.length:Int)<=x.nod):
  GM x num wid false i v ns= .ok (e+m,v+1+(ks.length:Int),ns,.mk 8 [] [] ks (slc x.s e (e+m)),(ks.length:Int)):=by
 have hl:=h.le hi
 have hb:Ge x.dep x.nod 2 i v= .ok (v+1):=by unfold Ge;rw[if_neg (by omega),if_neg (by omega)]
 rw[Gr]
 simp only[Bool.false_eq_true,if_false,hb]
 unfold Jl
 rw[recE_of hdep h (x.s.length+1) (acc:=[]) (v:=v+1) (ns:=ns) hi (by omega) hk (fun hn=>by rw[List.length_nil,Nat.zero_add,hw hn];omega) (by omega)]
 simp only[hl.2.2.2.2]
 cases num with
 | true=>have:=hw rfl;simp only[if_true,List.nil_append];rw[<-this,if_neg (by omega)]
 | false=>simp only[Bool.false_eq_true,if_false,List.nil_append];rw[if_neg (by omega)]
theorem VA {x:Cx} {num:Bool} {wid:Int} (d' n':Int) {i:Nat} {v:Int} {ns:List B8}:GM (x.lim d' n') num wid true i v ns=GM x num wid true i v ns:=by
 rw[Gr,Gr,if_pos rfl,if_pos rfl]
 have:=Vz (x:=x) (num:=num) (wid:=wid) d' n' (x.s.length+1) (acc:=[]) (i:=i) (v:=v) (ns:=ns)
 show Jl x.s num wid (Ck (x.lim d' n') num wid true (x.s.length+1) [] i v ns)=_
 rw[this]
theorem WI {x:Cx} {num:Bool} {wid:Int} {d' n':Int} {i:Nat} {v:Int} {ns:List B8} {i':Nat} {v':Int} {ns':List B8} {r:Nd} {wid':Int}
  (h:GM x num wid false i v ns= .ok (i',v',ns',r,wid')):v+1<v'/\(3<=d'->v'<=n'->GM (x.lim d' n') num wid false i v ns= .ok (i',v',ns',r,wid'))/\
   (3<=d'->n'<v'->∃o,GM (x.lim d' n') num wid false i v ns= .error (o,10))/\(d'=2->v<n'->∃o,GM (x.lim d' n') num wid false i v ns= .error (o,9)):=by
 obtain⟨v1,h1,h⟩:=HM h
 have h1:v1=v+1:=by simpa using h1
 subst h1
 obtain⟨e,v2,ns2,ks,m,h2,h3,hw,hp⟩:=Nm h
 simp only[Prod.mk.injEq]at hp
 obtain⟨rfl,rfl,rfl,rfl,rfl⟩:=hp
 obtain⟨k0,k1,k2,k3⟩:=WF (d':=d') (n':=n') _ h2
 have b1:2<=d'->v<n'->Ge d' n' 2 i v= .ok (v+1):=fun g1 g2=>by unfold Ge;rw[if_neg (by omega),if_neg (by omega)]
 have b2:2<=d'->n'<=v->Ge d' n' 2 i v= .error (i,10):=fun g1 g2=>by unfold Ge;rw[if_neg (by omega),if_pos g2]
 rw[Gr]
 simp only[Bool.false_eq_true,if_false]
 refine⟨by omega,fun g1 g2=>?_,fun g1 g2=>?_,fun g1 g2=>?_⟩
 ·rw[b1 (by omega) (by omega)]
  show Jl x.s num wid (Ck (x.lim d' n') num wid false (x.s.length+1) [] i (v+1) ns)=_
  rw[k1 g1 g2]
  simp only[Jl,h3]
  rw[if_neg hw]
 ·by_cases hv:n'<=v
  ·rw[b2 (by omega) hv];exact⟨_,rfl⟩
  ·rw[b1 (by omega) (by omega)]
   obtain⟨o,ho⟩:=k2 g1 g2
   exact⟨o,by show Jl x.s num wid (Ck (x.lim d' n') num wid false (x.s.length+1) [] i (v+1) ns)=_;rw[ho];rfl⟩
 ·rw[b1 (by omega) (by omega)]
  obtain⟨o,ho⟩:=k3 (by omega)
  exact⟨o,by show Jl x.s num wid (Ck (x.lim d' n') num wid false (x.s.length+1) [] i (v+1) ns)=_;rw[ho];rfl⟩
def LB (r:Nd):Int:=1+((Av r).length:Int)
def E7:List Nd->Int
 | []=>0
 | r::rs=>LB r+E7 rs
theorem FG:∀rs,0<=E7 rs
 | []=>by simp[E7]
 | r::rs=>by have:=FG rs;simp only[E7,LB];omega
def Eo (hd:Bool) (rs:List Nd):Int:=if hd then E7 rs.tail else E7 rs
theorem Px {x:Cx} {num hd:Bool} {wid:Int}:∀(n:Nat) {acc:List Nd} {i:Nat} {v:Int} {ns:List B8} {e:Nat} {v':Int} {ns':List B8} {out:List Nd},
  Ck x num wid hd n acc i v ns= .ok (e,v',ns',out)->v'=v+(if hd then 0 else(out.length:Int)-acc.length):=by
 intro n
 induction n with
 | zero=>intro acc i v ns e v' ns' out h;simp only[Ck]at h;cases h
 | succ n ih=>
  intro acc i v ns e v' ns' out h
  simp only[Ck]at h
  split at h
  ·cases h
  simp only[bind,Except.bind]at h
  split at h
  ·cases h
  rename_i p he
  obtain⟨e1,v1,ns1⟩:=p
  have c3:v1=v+(if hd then 0 else 1):=by
   cases hd with
   | false=>simpa using (Lw he).2.2.1
   | true=>simpa using (Mr he).1
  simp only at h
  split at h
  ·have:=ih h
   rw[this,c3]
   cases hd<;>simp
   omega
  ·split at h
   ·cases h
   cases h
   rw[c3]
   cases hd<;>simp
   omega
theorem recE_v1 {x:Cx} {num:Bool} {wid:Int} (n:Nat) {acc:List Nd} {i:Nat} {v:Int} {ns:List B8} {e:Nat} {v':Int} {ns':List B8} {out:List Nd}
  (h:Ck x num wid true n acc i v ns= .ok (e,v',ns',out)):v'=v:=by simpa using Px n h
theorem VB {x:Cx} {num:Bool} {wid:Int} {i:Nat} {v:Int} {ns:List B8} {i':Nat} {v':Int} {ns':List B8} {r:Nd} {wid':Int}
  (h:GM x num wid false i v ns= .ok (i',v',ns',r,wid')):v'=v+LB r:=by
 obtain⟨v1,h1,h⟩:=HM h
 have h1:v1=v+1:=by simpa using h1
 subst h1
 obtain⟨e,v2,ns2,ks,m,h2,h3,hw,hp⟩:=Nm h
 simp only[Prod.mk.injEq]at hp
 obtain⟨rfl,rfl,rfl,rfl,rfl⟩:=hp
 have:=Px _ h2
 simp only[Bool.false_eq_true,if_false,List.length_nil]at this
 simp only[LB,Av];omega
theorem Sr {x:Cx} {hdr:Bool}:∀(n:Nat) {acc:List Nd} {i:Nat} {v:Int} {ns:List B8} {wid:Int} {out:List Nd},i<=x.s.length->Ev x hdr n acc i v ns wid= .ok out->
  ∃rs,out=acc++rs/\JE x.a x.q x.s i rs/\(∀r∈rs,∀k∈Av r,(txt x.q (AR k)).length<=65536)/\(∃W:Int,(acc≠ []->W=wid)/\∀r∈rs,((Av r).length:Int)=W)/\
   (Eo (hdr&&acc.isEmpty) rs=0∨3<=x.dep/\v+Eo (hdr&&acc.isEmpty) rs<=x.nod):=by
 intro n
 induction n with
 | zero=>intro acc i v ns wid out hi h;simp only[Ev]at h;cases h
 | succ n ih=>
  intro acc i v ns wid out hi h
  simp only[Ev]at h
  split at h
  ·rename_i hl
   cases h
   exact⟨[],by simp,.nil hl,fun r hr=>(by cases hr),⟨wid,fun _=>rfl,fun r hr=>(by cases hr)⟩,.inl (by unfold Eo;cases (hdr&&acc.isEmpty)<;>rfl)⟩
  rename_i hl
  simp only[bind,Except.bind]at h
  split at h
  ·cases h
  rename_i p h1
  obtain⟨i',v',ns',r,wid'⟩:=p
  obtain⟨ks,e,m,rfl,rfl,k2,k3,k4,k5,k6,k7⟩:=RT hi h1
  have hle:=k2.le hi
  obtain⟨rs,j1,j2,j3,⟨W,j4,j5⟩,j6⟩:=ih (by omega) h
  have hW:W=wid':=j4 (by simp)
  refine⟨_::rs,by rw[j1,List.append_assoc];rfl,.cons (by omega) k2 j2,?_,⟨W,fun hne=>?_,?_⟩,?_⟩
  ·intro r hr
   rcases List.mem_cons.1 hr with rfl | hr
   ·exact k4
   ·exact j3 r hr
  ·rw[hW];exact k6 (by cases acc;exact absurd rfl hne;rfl)
  ·intro r hr
   rcases List.mem_cons.1 hr with rfl | hr
   ·rw[hW];exact k5
   ·exact j5 r hr
  ·have hnil:(hdr&&(acc++[Nd.mk 8 [] [] ks (slc x.s e (e+m))]).isEmpty)=false:=by cases acc<;>simp
   rw[hnil]at j6
   have hcn:=FG rs
   cases hh:(hdr&&acc.isEmpty)with
   | true=>
    rw[hh]at k3 k7
    simp only[Eo,if_true,List.tail_cons,Bool.false_eq_true,if_false]at j6 k3⊢
    rcases j6 with j6 | j6
    ·exact .inl j6
    ·right;omega
   | false=>
    rw[hh]at k3 k7
    have k7:=k7 rfl
    simp only[Eo,Bool.false_eq_true,if_false,E7,LB,Av]at j6 k3⊢
    right
    rcases j6 with j6 | j6
    ·exact⟨k7.1,by omega⟩
    ·exact⟨k7.1,by omega⟩
theorem UT {x:Cx} (hdep:3<=x.dep) {W:Int}:∀{i:Nat} {rs:List Nd},JE x.a x.q x.s i rs->∀(n:Nat) {acc:List Nd} {v:Int} {ns:List B8} {wid:Int},i<=x.s.length->x.s.length<i+n->
  (∀r∈rs,∀k∈Av r,(txt x.q (AR k)).length<=65536)->(acc≠ []->wid=W)->(∀r∈rs,((Av r).length:Int)=W)->v+E7 rs<=x.nod->Ev x false n acc i v ns wid= .ok (acc++rs):=by
 intro i rs h
 induction h with
 | nil h=>
  intro n acc v ns wid hi hn hk hw hW hv
  cases n with
  | zero=>omega
  | succ n=>simp only[Ev];rw[if_pos h,List.append_nil]
 | @cons i e m ks rs h1 h2 h3 ih=>
  intro n acc v ns wid hi hn hk hw hW hv
  cases n with
  | zero=>omega
  | succ n=>
  have hle:=h2.le hi
  have hks:(ks.length:Int)=W:=hW _ (List.mem_cons_self ..)
  have hm:0<e+m-i:=by
   rcases Nat.eq_zero_or_pos m with h0 | h0
   ·have:=(FZ (by omega) hle.2.2.2.2).2.1 h0;omega
   ·omega
  simp only[E7,LB,Av]at hv
  have hcn:=FG rs
  simp only[Ev,Bool.false_and]
  rw[if_neg (by omega),recD_of hdep h2 hi (hk _ (List.mem_cons_self ..)) (fun hn=>by rw[hks];exact(hw (by rintro rfl;simp at hn)).symm) (by omega)]
  simp only[bind,Except.bind]
  rw[ih n (by omega) (by omega) (fun r hr=>hk r (List.mem_cons_of_mem _ hr)) (fun _=>hks) (fun r hr=>hW r (List.mem_cons_of_mem _ hr)) (by omega),List.append_assoc]
  rfl
theorem XB {x:Cx} {hdr:Bool} {d' n':Int}:∀(n:Nat) {acc:List Nd} {i:Nat} {v:Int} {ns:List B8} {wid:Int} {out:List Nd},Ev x hdr n acc i v ns wid= .ok out->
  ∃rs,out=acc++rs/\((Eo (hdr&&acc.isEmpty) rs=0∨3<=d')->v+Eo (hdr&&acc.isEmpty) rs<=n'->Ev (x.lim d' n') hdr n acc i v ns wid= .ok out)/\
   (0<Eo (hdr&&acc.isEmpty) rs->3<=d'->n'<v+Eo (hdr&&acc.isEmpty) rs->∃o,Ev (x.lim d' n') hdr n acc i v ns wid= .error (o,10))/\
   (0<Eo (hdr&&acc.isEmpty) rs->d'=2->v+Eo (hdr&&acc.isEmpty) rs<=n'->∃o,Ev (x.lim d' n') hdr n acc i v ns wid= .error (o,9)):=by
 intro n
 induction n with
 | zero=>intro acc i v ns wid out h;simp only[Ev]at h;cases h
 | succ n ih=>
  intro acc i v ns wid out h
  simp only[Ev]at h⊢
  split at h
  ·rename_i hl
   cases h
   have h0:Eo (hdr&&acc.isEmpty) []=0:=by unfold Eo;cases (hdr&&acc.isEmpty)<;>rfl
   refine⟨[],by simp,?_⟩
   rw[h0]
   exact⟨fun _ _=>by rw[if_pos hl],fun h=>absurd h (by decide),fun h=>absurd h (by decide)⟩
  rename_i hl
  rw[if_neg hl]
  simp only[bind,Except.bind]at h⊢
  split at h
  ·cases h
  rename_i p h1
  obtain⟨i',v',ns',r,wid'⟩:=p
  obtain⟨rs,j1,j2,j3,j4⟩:=ih h
  have hnil:(hdr&&(acc++[r]).isEmpty)=false:=by cases acc<;>simp
  rw[hnil]at j2 j3 j4
  have hcn:=FG rs
  refine⟨r::rs,by rw[j1,List.append_assoc];rfl,?_⟩
  cases hh:(hdr&&acc.isEmpty)with
  | true=>
   rw[hh]at h1
   rw[VA,h1]
   have hv:v'=v:=by
    obtain⟨v1,h3,h4⟩:=HM h1
    have h3:v1=v:=by simpa using h3
    subst h3
    obtain⟨e,v2,ns2,ks,m,h2,h5,hw,hp⟩:=Nm h4
    simp only[Prod.mk.injEq]at hp
    obtain⟨rfl,rfl,rfl,rfl,rfl⟩:=hp
    exact recE_v1 _ h2
   subst hv
   simp only[Eo,if_true,List.tail_cons,Bool.false_eq_true,if_false]at j2 j3 j4⊢
   exact⟨j2,j3,j4⟩
  | false=>
   rw[hh]at h1
   have hc:v'=v+LB r:=VB h1
   obtain⟨k0,k1,k2,k3⟩:=WI (d':=d') (n':=n') h1
   simp only[Eo,Bool.false_eq_true,if_false,E7]at j2 j3 j4⊢
   refine⟨fun g1 g2=>?_,fun g0 g1 g2=>?_,fun g0 g1 g2=>?_⟩
   ·have:3<=d':=by rcases g1 with g1 | g1;omega;exact g1
    rw[k1 this (by omega)]
    exact j2 (.inr this) (by omega)
   ·by_cases hv:n'<v'
    ·obtain⟨o,ho⟩:=k2 g1 hv
     rw[ho];exact⟨_,rfl⟩
    ·rw[k1 g1 (by omega)]
     by_cases h0:0<E7 rs
     ·exact j3 h0 g1 (by omega)
     ·omega
   ·obtain⟨o,ho⟩:=k3 g1 (by omega)
    rw[ho];exact⟨_,rfl⟩
def Bl (x:Cx) (hd:Bool) (l2 l3 l4:Int):Except (Nat×Int) Nd:=
 if dOk x.a x.q=false then .error (0,1)else if lOk x.dep x.nod l2 l3 l4=false then .error (0,1)else if l2<x.s.length then .error (0,10)else if Bo x.s≠x.s.length then .error (Bo x.s,5)
 else match Ev x hd (x.s.length+1) [] 0 1 [] 0 with
  | .error e=> .error e
  | .ok rs=> .ok (.mk 1 [] [] rs [])
def pN:Except (Nat×Int) Nd->Nd | .ok n=>n | .error _=> .mk 0 [] [] [] []
def pO:Except (Nat×Int) Nd->Int | .ok _=>0 | .error e=>e.1
def pE:Except (Nat×Int) Nd->Int | .ok _=>0 | .error e=>e.2
theorem P1 (x:Cx) (hdr:Bool) (n:Nat) (acc:List Nd) (i:Nat) (v:Int) (ns:List B8) (wid:Int):Ev x hdr (n+1) acc i v ns wid=
  if x.s.length<=i then .ok acc else match GM x (!acc.isEmpty) wid (hdr&&acc.isEmpty) i v ns with
   | .error e=> .error e
   | .ok (i',v',ns',r,wid')=>Ev x hdr n (acc++[r]) i' v' ns' wid':=by
 simp only[Ev,bind,Except.bind]
 by_cases h:x.s.length<=i
 ·rw[if_pos h,if_pos h]
 ·rw[if_neg h,if_neg h]
  rcases GM x (!acc.isEmpty) wid (hdr&&acc.isEmpty) i v ns with e | ⟨i',v',ns',r,wid'⟩<;>rfl
theorem UE {x:Cx} {num hd:Bool} {wid:Int} {i:Nat} {v:Int} {ns:List B8} {i':Nat} {v':Int} {ns':List B8} {r:Nd} {wid':Int} (hi:i<x.s.length)
  (h:GM x num wid hd i v ns= .ok (i',v',ns',r,wid')):i<i'/\i'<=x.s.length/\v<=v'/\v'<=v+3*(i'-i:Nat)/\1<=wid':=by
 obtain⟨ks,e,m,rfl,rfl,k2,k3,k4,k5,k6,k7⟩:=RT (by omega) h
 have hle:=k2.le (by omega)
 have hpos:1<=e+m-i:=by
  have:=(FZ (by omega) hle.2.2.2.2).2.1
  rcases Nat.eq_zero_or_pos m with h0 | h0
  ·have:=this h0;omega
  ·omega
 cases hd<;>simp at k3<;>omega
theorem PC {x:Cx} {hd ty:Bool} {l2 l3 l4:Int} {st:St} {K:Int->B8->B8->TV->B8->Int->Int->St->Prop} (hl:x.s.length<=2000000)
  (hk:∀k kv st',Ap st st'->NdC (pN (Bl x hd l2 l3 l4)) [.int .i64 k,.str [],.str [],kv,.str []]->K k [] [] kv [] (pO (Bl x hd l2 l3 l4)) (pE (Bl x hd l2 l3 l4)) st'):
  CallT PR Ek [.str x.s,.agg [.int .u8 x.a,.int .u8 x.q,.bool hd,.bool ty],.agg [.int .i64 x.dep,.int .i64 x.nod,.int .i64 l2,.int .i64 l3,.int .i64 l4]] [.agg [.int .i64,.str,.str,.tv,.str],.one (.int .i64),.one (.int .i64)] st K:=by
 generalize hP:Bl x hd l2 l3 l4=P at hk
 unfold Bl at hP
 have hnil:NdC (.mk 0 [] [] [] []) [.int .i64 0,.str [],.str [],.nilSlice,.str []]:=by unfold NdC;exact⟨_,[],rfl,.inl ⟨rfl,rfl,rfl⟩,Bs.nil⟩
 have bad:∀(o:Nat) (e:Int) st',P= .error (o,e)->Ap st st'->K 0 [] [] .nilSlice [] o e st':=fun o e st' h he=>by
  have:=hk 0 .nilSlice st' he (by rw[h];exact hnil)
  rwa [h]at this
 refine NM x.s x.a x.q hd ty x.dep x.nod l2 l3 l4 st K (Ms (Al (fun g=>?_) fun g=>?_))
 ·have g:dOk x.a x.q=false:=by simpa using g
  rw[if_pos g]at hP
  exact bad _ _ st hP.symm (Ap.refl _)
 have g:dOk x.a x.q=true:=by simpa using g
 rw[if_neg (by rw[g];decide)]at hP
 refine Tw (Al (fun g=>?_) fun g=>?_)
 ·have g:lOk x.dep x.nod l2 l3 l4=false:=by simpa using g
  rw[if_pos g]at hP
  exact bad _ _ st hP.symm (Ap.refl _)
 have g:lOk x.dep x.nod l2 l3 l4=true:=by simpa using g
 rw[if_neg (by rw[g];decide)]at hP
 refine Aa (fun g=>?_) fun g=>?_
 ·rw[if_pos g]at hP
  exact bad _ _ st hP.symm (Ap.refl _)
 rw[if_neg g]at hP
 refine TF hl (Aa (fun g=>?_) fun g=>?_)
 ·have h2:Bo x.s≠x.s.length:=fun h=>by rw[if_pos h]at g;omega
  rw[if_neg h2]
  rw[if_pos h2]at hP
  exact bad _ _ st hP.symm (Ap.refl _)
 have h2:Bo x.s=x.s.length:=Decidable.byContradiction fun h=>by rw[if_neg h]at g;omega
 rw[if_neg (by rw[h2];simp)]at hP
 refine Ab rfl ?_
 obtain⟨m,hm⟩:∃m,m=st.nb:=⟨_,rfl⟩
 obtain⟨p,hp⟩:∃p,p=(st.push (.map []) none).nb:=⟨_,rfl⟩
 rw[<-hm,<-hp]
 have hpm:p=m+1:=by rw[hp,hm];rfl
 obtain⟨sa,hsa⟩:∃sa,sa=st.push (.map []) none:=⟨_,rfl⟩
 rw[<-hsa]at hp⊢
 obtain⟨sb,hsb⟩:∃sb,sb=sa.push (.cells (pcl x hd ty l2 l3 l4 m 0 1 0 0 0)) (some 180):=⟨_,rfl⟩
 have e0:Ap st sb:=by rw[hsb,hsa];exact((Ap.refl st).push _ _).push _ _
 have k0:PSD p m x hd ty l2 l3 l4 [] 0 1 0 0 0 sb:=by
  refine⟨by omega,by rw[hsb,hp];simp[St.push],by rw[hsb,hsa,hm];simp[St.push];omega,by rw[hsb,hp];exact Ho _ _ _,[],?_,fun t=>by simp[Di]⟩
  rw[hsb,hsa,hm]
  simp[St.push]
 have lim:∀st',StX (PM p m) sb st'->Ap st st':=fun st' h=>StX.ext e0 h fun i hi=>by rcases hi with h | h<;>omega
 refine⟨fun s' p' kd le tx kv tl st'=>x.s=s'/\TV.box p 0=p'/\1=kd/\[]=le/\[]=tx/\[]=tl/\∃(j n:Nat) (acc:List Nd) (v w:Int) (ns:List B8) (xs:List TV),StX (PM p m) sb st'/\PSD p m x hd ty l2 l3 l4 ns j v w 0 0 st'/\
   Own sb.nt 5 st' kv acc.length xs/\Bs acc xs/\j<=x.s.length/\x.s.length<j+n/\acc.length<=j/\0<=v/\v<=1+3*j/\(match Ev x hd n acc j v ns w with | .error e=> .error e | .ok rs=> .ok (.mk 1 [] [] rs []))=P,
  fun _ _ _ _ _ _ _ st'=>(x.s.length-MV st' p 10).toNat,⟨rfl,rfl,rfl,rfl,rfl,rfl,0,x.s.length+1,[],1,0,[],[],hsb▸StX.refl _ _,hsb▸k0,Own.nil _ _ _,Bs.nil,by omega,by omega,by simp,by omega,by omega,hP⟩,?_⟩
 rintro _ _ _ _ _ kv _ st3 ⟨rfl,rfl,rfl,rfl,rfl,rfl,j,n,acc,v,w,ns,xs,f3,k3,o3,hx,hj,hjn,hac,hv0,hv,hE⟩
 have b3:=k3.bx
 cases n with
 | zero=>omega
 | succ n=>
 rw[P1]at hE
 repeat' first
  | (guard_target=~need _ _;refine Ab rfl ?_)
  | (guard_target=~Ah (Ac _ _ _ _) _;refine Ad (ldB b3 rfl) ?_)
  | (guard_target=~Ag (.int _) _ _;refine Aq ?_)
  | (guard_target=~Ag .str _ _;refine Aj ?_)
  | (guard_target=~Ag .bool _ _;refine Ao ?_)
 refine Aa (fun q=>Ab o3.rd.isSl ?_) fun q=>?_
 ·rw[if_neg (by omega)]at hE
  rw[o3.rd.lenS]
  have hN1:decide (((acc.length:Nat):Int)≠0)= !acc.isEmpty:=by
   cases acc with
   | nil=>rfl
   | cons a l=>exact decide_eq_true (by simp only[List.length_cons];omega)
  have hN2:(decide (((acc.length:Nat):Int)=0)&&hd)=(hd&&acc.isEmpty):=by
   cases acc with
   | nil=>cases hd<;>rfl
   | cons a l=>rw[decide_eq_false (by simp only[List.length_cons];omega)];cases hd<;>rfl
  refine Tj rfl hj hl hv0 (by omega) (by omega) k3 (fun k v1 ns1 r w1 kv1 tl st4 hr e4 k4 hc4=>?_) fun o' e' ns1 k v1 w1 kv1 tl st4 hr e4 k4 ho4=>?_
  ·rw[hN1,hN2]at hr
   rw[hr]at hE
   simp only at hE
   have hle:=UE (by omega) hr
   have hone:At kv1=true:=by
    obtain⟨a,b,c,d,f⟩:=r
    unfold NdC at hc4
    obtain⟨u,ys,hu,hu2,_⟩:=hc4
    cases hu
    exact hu2.one
   refine Ab (EH hone) (Al (fun h=>by cases h) fun _=>Ab (EH hone) ?_)
   refine JW (f3.trans e4) (o3.extXD e4) (by omega) (fun h=>by cases h) fun v5 st5 e5 hbx hnb o5=>Ab (Of o5.rd.one) ?_
   have hlen:(acc++[r]).length=acc.length+1:=by simp
   refine⟨⟨rfl,rfl,rfl,rfl,rfl,rfl,k,n,acc++[r],v1,w1,ns1,_,e5,k4.same hbx hnb,by rw[hlen];exact o5,hx.append (Bs.one hc4),by omega,by omega,by omega,by omega,by omega,hE⟩,?_⟩
   dsimp only
   rw[DN (k4.same hbx hnb).bx rfl,DN b3 rfl]
   omega
  ·rw[hN1,hN2]at hr
   rw[hr]at hE
   simp only at hE
   refine Ab (EH ho4) (Al (fun _=>?_) fun h=>by cases h)
   have b4:=k4.bx
   repeat' first
    | (guard_target=~need _ _;refine Ab rfl ?_)
    | (guard_target=~Ah (Ac _ _ _ _) _;refine Ad (ldB b4 rfl) ?_)
    | (guard_target=~Ag (.int _) _ _;refine Aq ?_)
    | (guard_target=~Ag .str _ _;refine Aj ?_)
    | (guard_target=~Ag .bool _ _;refine Ao ?_)
   exact bad _ _ st4 hE.symm (lim _ (f3.trans e4))
 ·rw[if_pos (by omega)]at hE
  simp only at hE
  subst hE
  exact Ab (EH o3.rd.one) (hk 1 kv st3 (lim _ f3) (by unfold pN NdC;exact⟨kv,xs,rfl,o3.rd,hx⟩))
theorem VP {s:B8} {i o:Nat} {c:Int} (h:D2 s i= .error (o,c)):(o=i/\c=3)∨(o=s.length/\c=4):=by
 unfold D2 at h
 repeat' split at h
 all_goals first | cases h | skip
 all_goals simp
section
theorem SH {dep nod d:Int} {i:Nat} {v:Int} {o:Nat} {c:Int} (h:Ge dep nod d i v= .error (o,c)):c≠0:=by
 unfold Ge at h
 split at h
 ·cases h;decide
 split at h
 ·cases h;decide
 ·cases h
theorem V9 {a q:Int} {s:B8} {i o:Nat} {c:Int} (h:Cj a q s i= .error (o,c)):c≠0:=by
 unfold Cj at h
 split at h<;>split at h<;>cases h<;>decide
section
variable {x:Cx} {hd ty:Bool} {l2 l3 l4:Int} {st:St}
end
end
theorem Np {q:Int} {c:UInt8} (hc:(c.toNat:Int)=q):∀(t rest:B8) (i:Nat),(∀b l,rest=b::l->(b.toNat:Int)≠q)->IH q (dbl c t++c::rest) i=some (i+(dbl c t).length+1)
 | [],rest,i,h=>by
  simp only[dbl,List.flatMap_nil,List.nil_append,List.length_nil,Nat.add_zero]
  cases rest with
  | nil=>simp only[IH];rw[if_pos hc]
  | cons b l=>simp only[IH];rw[if_pos hc,if_neg (h b l rfl)]
 | b::t,rest,i,h=>by
  rw[En]
  by_cases hb:b=c
  ·rw[if_pos hb]
   have ih:=Np hc t rest (i+2) h
   simp only[List.cons_append,List.nil_append,List.length_cons,IH]
   rw[if_pos hc,if_pos hc,ih]
   congr 1;omega
  ·rw[if_neg hb]
   have hb':(b.toNat:Int)≠q:=fun h=>hb (UInt8.toNat_inj.1 (by omega))
   have ih:=Np hc t rest (i+1) h
   simp only[List.cons_append,List.nil_append,List.length_cons]
   cases hr:dbl c t++c::rest with
   | nil=>simp at hr
   | cons b2 l2=>
    rw[hr]at ih
    simp only[IH]
    rw[if_neg hb',ih]
    congr 1;omega
theorem UG {a q:Int} (ha:a≠q) (hq:q≠10) (hq2:q≠13):∀(t:B8) (b:UInt8) (rest:B8) (i:Nat),(∀c∈t,(c.toNat:Int)≠a/\(c.toNat:Int)≠q/\(c.toNat:Int)≠10/\(c.toNat:Int)≠13)->
  ((b.toNat:Int)=a∨(b.toNat:Int)=10)->R6 a q (t++b::rest) i= .ok (i+t.length)
 | [],b,rest,i,h,hb=>by simp only[List.nil_append,R6];rw[if_pos (by omega)];rfl
 | c::t,b,rest,i,h,hb=>by
  have hc:=h c (List.mem_cons_self ..)
  simp only[List.cons_append,R6]
  rw[if_neg (by omega),if_neg hc.2.1,UG ha hq hq2 t b rest (i+1) (fun d hd=>h d (List.mem_cons_of_mem _ hd)) hb]
  simp;omega
def Fq (a q:Int) (s:B8):Bool:=s.any fun c=>decide ((c.toNat:Int)=a∨(c.toNat:Int)=q∨(c.toNat:Int)=10∨(c.toNat:Int)=13)
def CX (a q:Int) (s:B8):B8:=if Fq a q s then UInt8.ofNat q.toNat::(dbl (UInt8.ofNat q.toNat) s++[UInt8.ofNat q.toNat])else s
theorem WZ {a q:Int} {s:B8} (h:Fq a q s=false):∀c∈s,(c.toNat:Int)≠a/\(c.toNat:Int)≠q/\(c.toNat:Int)≠10/\(c.toNat:Int)≠13:=by
 intro c hc
 unfold Fq at h
 rw[List.any_eq_false]at h
 have:=h c hc
 rw[decide_eq_true_eq]at this
 omega
theorem Gs {q:Int} (h:0<=q) (h2:q<=255):((UInt8.ofNat q.toNat).toNat:Int)=q:=by
 rw[UInt8.toNat_ofNat'];omega
theorem Ub {a q:Int} (hq0:0<=q) (hq1:q<=255) (ha:a≠q) (hq:q≠10) (hq2:q≠13) (pre c:B8) (b:UInt8) (post:B8) (hb:(b.toNat:Int)=a∨(b.toNat:Int)=10):
  Cj a q (pre++CX a q c++b::post) pre.length= .ok (pre.length+(CX a q c).length):=by
 have hd:(pre++CX a q c++b::post).drop pre.length=CX a q c++b::post:=by rw[List.append_assoc,List.drop_left]
 have hby:∀d l,CX a q c++b::post=d::l->by_ (pre++CX a q c++b::post) pre.length=(d.toNat:Int):=fun d l h=>by
  have:(pre++CX a q c++b::post).getD pre.length 0=((pre++CX a q c++b::post).drop pre.length).getD 0 0:=by rw[JS];rfl
  unfold by_
  rw[this,hd,h];rfl
 have hlen:pre.length<(pre++CX a q c++b::post).length:=by simp only[List.length_append,List.length_cons];omega
 have hqb:=Gs hq0 hq1
 unfold Cj
 by_cases hn:Fq a q c=true
 ·have hqc:CX a q c=UInt8.ofNat q.toNat::(dbl (UInt8.ofNat q.toNat) c++[UInt8.ofNat q.toNat]):=by unfold CX;rw[if_pos hn]
  have:=hby (UInt8.ofNat q.toNat) (dbl (UInt8.ofNat q.toNat) c++[UInt8.ofNat q.toNat]++b::post) (by rw[hqc];rfl)
  rw[if_pos ⟨hlen,by rw[this];exact hqb⟩]
  have hQ:QE q (pre++CX a q c++b::post) (pre.length+1)=some (pre.length+(CX a q c).length):=by
   unfold QE
   rw[<-List.drop_drop,hd,hqc]
   have:=Np hqb c (b::post) (pre.length+1) (fun b' l' h=>by cases h;omega)
   simp only[List.cons_append,List.drop_succ_cons,List.drop_zero,List.append_assoc,List.nil_append]
   rw[this]
   congr 1
   simp;omega
  rw[hQ]
 ·have hn:Fq a q c=false:=by simpa using hn
  have hqc:CX a q c=c:=by unfold CX;rw[if_neg (by rw[hn];decide)]
  have hno:=WZ hn
  have hP:PE a q (pre++CX a q c++b::post) pre.length= .ok (pre.length+(CX a q c).length):=by
   unfold PE
   rw[hd,hqc]
   exact UG ha hq hq2 c b post pre.length hno hb
  rw[if_neg,hP]
  rintro⟨_,h2⟩
  cases hc:c with
  | nil=>rw[hby b post (by rw[hqc,hc];rfl)]at h2;omega
  | cons d l=>rw[hby d (l++b::post) (by rw[hqc,hc];rfl)]at h2;exact(hno d (by rw[hc];exact List.mem_cons_self ..)).2.1 h2
theorem chk_ent {a q:Int} {k:Nd} (h:We a q k) {s:Int} (hs:s+3<=524288):∃s',chk k 3 s= .ok s'/\s<=s'/\s'<=s+3:=by
 obtain⟨c,mark,rfl,_,hm⟩:=h
 rcases hm with rfl | ⟨b,_,rfl⟩
 ·refine⟨s+1+1,?_,by omega,by omega⟩
  have l2:Kk 2=true:=by decide
  have l5:Kk 5=false:=by decide
  simp only[chk,IJ,l2,l5,List.length_nil]
  rw[if_neg (by omega),if_neg (by omega),if_neg (by omega),if_neg (by simp),if_neg (by omega),if_neg (by omega),if_neg (by omega),if_neg (by simp)]
 ·refine⟨s+1+1+1,?_,by omega,by omega⟩
  have l2:Kk 2=true:=by decide
  have l5:Kk 5=false:=by decide
  have l11:Kk 11=true:=by decide
  simp only[chk,IJ,l2,l5,l11,List.length_nil]
  rw[if_neg (by omega),if_neg (by omega),if_neg (by omega),if_neg (by simp),if_neg (by omega),if_neg (by omega),if_neg (by omega),if_neg (by simp)]
  simp only
  rw[if_neg (by omega),if_neg (by omega),if_neg (by omega),if_neg (by simp)]
theorem P6 {a q:Int}:∀(ks:List Nd) (h:∀k∈ks,We a q k) {s:Int} (hs:s+3*ks.length<=524288),∃s',IJ ks 3 s= .ok s'/\s<=s'/\s'<=s+3*ks.length
 | [],h,s,hs=>⟨s,rfl,by omega,by simp⟩
 | k::ks,h,s,hs=>by
  rw[List.length_cons]at hs
  obtain⟨s1,h1,h2,h3⟩:=chk_ent (h k (List.mem_cons_self ..)) (s:=s) (by omega)
  obtain⟨s2,h4,h5,h6⟩:=P6 ks (fun k hk=>h k (List.mem_cons_of_mem _ hk)) (s:=s1) (by omega)
  refine⟨s2,?_,by omega,by rw[List.length_cons];omega⟩
  simp only[IJ,h1,h4]
theorem V8 {a q:Int} {src:B8} {i:Nat} {rs:List Nd} (h:JE a q src i rs):i<=src.length->∀{s:Int},s+7*(src.length-i:Nat)<=524288->∃s',IJ rs 2 s= .ok s'/\s<=s'/\s'<=s+7*(src.length-i:Nat):=by
 induction h with
 | nil h=>intro hi s hs;exact⟨s,rfl,by omega,by omega⟩
 | @cons i e n ks rs h1 h2 h3 ih=>
  intro hi s hs
  have hle:=h2.le hi
  have hpos:1<=e+n-i:=by
   have:=(FZ (by omega) hle.2.2.2.2).2.1
   rcases Nat.eq_zero_or_pos n with h0 | h0
   ·have:=this h0;omega
   ·omega
  obtain⟨s1,j1,j2,j3⟩:=P6 ks (h2.form hi) (s:=s+1) (by omega)
  obtain⟨s2,j4,j5,j6⟩:=ih (by omega) (s:=s1) (by omega)
  have l8:Kk 8=false:=by decide
  refine⟨s2,?_,by omega,by omega⟩
  simp only[IJ,chk,l8]
  rw[if_neg (by omega),if_neg (by omega),if_neg (by omega),if_neg (by simp)]
  simp only[Int.reduceAdd]
  rw[j1]
  exact j4
theorem PU {a q:Int}:∀(ks:List Nd) (h:∀k∈ks,We a q k),KN ks<=3*ks.length
 | [],h=>by simp[KN]
 | k::ks,h=>by
  have ih:=PU ks fun k hk=>h k (List.mem_cons_of_mem _ hk)
  obtain⟨c,mark,rfl,_,hm⟩:=h k (List.mem_cons_self ..)
  rcases hm with rfl | ⟨b,_,rfl⟩<;>simp only[KN,Fe,List.length_cons]<;>omega
theorem PT {a q:Int} {src:B8} {i:Nat} {rs:List Nd} (h:JE a q src i rs):i<=src.length->KN rs<=7*(src.length-i)/\rs.length<=src.length-i:=by
 induction h with
 | nil h=>intro hi;simp[KN]
 | @cons i e n ks rs h1 h2 h3 ih=>
  intro hi
  have hle:=h2.le hi
  have hpos:1<=e+n-i:=by
   have:=(FZ (by omega) hle.2.2.2.2).2.1
   rcases Nat.eq_zero_or_pos n with h0 | h0
   ·have:=this h0;omega
   ·omega
  have:=PU ks (h2.form hi)
  have ih:=ih (by omega)
  simp only[KN,Fe,List.length_cons]
  omega
theorem EG {x:Cx} {hd:Bool} {l2 l3 l4:Int} {n:Nd} (h:Bl x hd l2 l3 l4= .ok n):∃rs,n= .mk 1 [] [] rs []/\dOk x.a x.q=true/\lOk x.dep x.nod l2 l3 l4=true/\(x.s.length:Int)<=l2/\Bo x.s=x.s.length/\Ev x hd (x.s.length+1) [] 0 1 [] 0= .ok rs/\
  JE x.a x.q x.s 0 rs/\(∀r∈rs,∀k∈Av r,(txt x.q (AR k)).length<=65536)/\(∃W:Int,∀r∈rs,((Av r).length:Int)=W):=by
 unfold Bl at h
 split at h
 ·cases h
 rename_i h1
 split at h
 ·cases h
 rename_i h2
 split at h
 ·cases h
 rename_i h3
 split at h
 ·cases h
 rename_i h4
 split at h
 ·cases h
 rename_i rs hr
 cases h
 obtain⟨rs',j1,j2,j3,⟨W,j4,j5⟩,j6⟩:=Sr _ (by omega) hr
 rw[List.nil_append]at j1
 subst j1
 exact⟨_,rfl,by simpa using h1,by simpa using h2,by omega,Decidable.not_not.1 h4,hr,j2,j3,W,j5⟩
abbrev xU (s:B8) (a q:Int):Cx:=⟨s,a,q,48,65536⟩
abbrev Oc (s:B8) (a q:Int) (hd:Bool):Except (Nat×Int) Nd:=Bl (xU s a q) hd 1048576 1024 65536
def Jo (n:Nd) (a q:Int) (hd:Bool):Prop:=LC n=0/\Oc (Du n) a q hd= .ok n
theorem OK {n:Nd} (h:LC n=0):Eu n<=1048576:=by
 unfold LC at h
 split at h
 ·rename_i e he;exact absurd h (H3 n he)
 ·split at h
  ·cases h
  ·omega
theorem WR {x:Cx} {hd:Bool} {l2 l3 l4:Int} (hl:x.s.length<=2000000):Fe (pN (Bl x hd l2 l3 l4))<=1000000000000000:=by
 cases h:Bl x hd l2 l3 l4 with
 | error e=>simp[pN,Fe,KN]
 | ok n=>
  obtain⟨rs,rfl,_,_,_,_,_,hr,_⟩:=EG h
  have:=(PT hr (by omega)).1
  simp only[pN,Fe];omega
theorem NdC.five {n:Nd} {cs:List TV} (h:NdC n cs):∃k l t v tl,cs=[.int .i64 k,.str l,.str t,v,.str tl]/\At v=true:=by
 cases n
 unfold NdC at h
 obtain⟨v,xs,rfl,hr,_⟩:=h
 exact⟨_,_,_,v,_,rfl,hr.one⟩
theorem VT {st:St} {K:Int->Int->Int->Int->Int->St->Prop} (hk:K 48 65536 1048576 1024 65536 st):CallT PR F5 [] [.agg [.int .i64,.int .i64,.int .i64,.int .i64,.int .i64]] st K:=NJ st K hk
theorem RY {st:St} {K:Int->Int->Int->Int->Int->St->Prop} (hk:K 48 65536 1048576 1024 65536 st):CallT PR CL [] [.agg [.int .i64,.int .i64,.int .i64,.int .i64,.int .i64]] st K:=Io st K hk
theorem RX {st:St} {K:Int->Int->Int->Int->Int->St->Prop} (hk:K 48 65536 1048576 1024 65536 st):CallT PR CJ [] [.agg [.int .i64,.int .i64,.int .i64,.int .i64,.int .i64]] st K:=Il st K (RY hk)
theorem UH {n:Nd} {cs:List TV} {a q:Int} {hd ty:Bool} (hc:NdC n cs) (hl:Eu n<=100000000000000) (hcn:Fe n<=1000000000000000) {st:St} {K:Bool->St->Prop}
  (hk1:∀st',Ap st st'->Jo n a q hd->K true st') (hk2:∀st',Ap st st'->¬Jo n a q hd->K false st'):
  CallT PR EV [.agg cs,.agg [.int .u8 a,.int .u8 q,.bool hd,.bool ty]] [.one .bool] st K:=by
 obtain⟨k,l,t,v,tl,rfl,_⟩:=hc.five
 refine O4 k l t v tl a q hd ty st K (Vq hc (by omega) hcn fun st1 e1=>Aa (fun g=>hk2 st1 e1 fun h=>g h.1) fun g=>?_)
 have g:LC n=0:=Decidable.not_not.1 g
 have hlen:=OK g
 have htl:=EI n
 refine Vk hc hl hcn fun st2 e2=>VT ?_
 refine PC (x:=xU (Du n) a q) (by show(Du n).length<=_;omega) fun kd kv st3 e3 hn=>?_
 have e13:=(e1.trans e2).trans e3
 obtain⟨_,_,_,_,_,h5,ho⟩:=hn.five
 cases h5
 refine Ab (EH ho) (Aa (fun g2=>?_) fun g2=>?_)
 ·refine Rx _ _ hn hc (WR (by show(Du n).length<=_;omega)) (fun he=>hk1 _ e13 ⟨g,?_⟩) fun he=>hk2 _ e13 fun h=>he ?_
  ·show Bl _ _ _ _ _=_
   revert he g2
   cases hp:Bl (xU (Du n) a q) hd 1048576 1024 65536 with
   | error e=>
    intro _ he
    simp only[pN]at he
    rw[<-he]at g
    exact absurd g (by decide)
   | ok m=>intro _ he;simp only[pN]at he;rw[he]
  ·rw[show Bl (xU (Du n) a q) hd 1048576 1024 65536= .ok n from h.2];rfl
 ·refine hk2 _ e13 fun h=>g2 ?_
  rw[show Bl (xU (Du n) a q) hd 1048576 1024 65536= .ok n from h.2];rfl
def Mz {α:Type} (f:α->TV) (v:TV) (row:List α):Prop:=Rd 1 v row.length (row.map f)
def Hs {α:Type} (f:α->TV) (v:TV) (rows:List (List α)):Prop:=∃vs:List TV,Rd 1 v rows.length vs/\vs.length=rows.length/\∀(i:Nat) (u:TV) (row:List α),vs[i]? =some u->rows[i]? =some row->Mz f u row
theorem Mz.ld {α:Type} {f:α->TV} {v:TV} {row:List α} (h:Mz f v row) (st:St) {i:Nat} {a:α} (ha:row[i]? =some a):Ac st [] (.t (ixT 1 v i)) 0=some (f a):=
 Rd.ldx h st i 0 (by rw[Nat.mul_one,Nat.add_zero,List.getElem?_map,ha];rfl)
theorem Hs.rd {α:Type} {f:α->TV} {v:TV} {rows:List (List α)} (h:Hs f v rows):∃vs,Rd 1 v rows.length vs:=by obtain⟨vs,h1,_⟩:=h;exact⟨vs,h1⟩
theorem Hs.nil {α:Type} (f:α->TV):Hs f .nilSlice []:=⟨[],.inl ⟨rfl,rfl,rfl⟩,rfl,fun i u row h=>by simp at h⟩
def GF {α:Type} (f:α->TV) (b:Nat) (st:St) (v:TV) (rows:List (List α)):Prop:=∃vs:List TV,Own b 1 st v rows.length vs/\vs.length=rows.length/\∀(i:Nat) (u:TV) (row:List α),vs[i]? =some u->rows[i]? =some row->Mz f u row
theorem GF.rd {α:Type} {f:α->TV} {b:Nat} {st:St} {v:TV} {rows:List (List α)} (h:GF f b st v rows):Hs f v rows:=by
 obtain⟨vs,h1,h2,h3⟩:=h;exact⟨vs,h1.rd,h2,h3⟩
def Er {α:Type} (g:B8->α) (rs:List Nd):List (List α):=rs.map fun r=>(Av r).map fun k=>g (AR k)
theorem Xy {a q:Int} {k:Nd} (hk:We a q k) {cs:List TV} (hc:NdC k cs):∃u ys,cs=[.int .i64 5,.str [],.str [],u,.str []]/\Rd 5 u (Av k).length ys/\0<(Av k).length/\(∀st,Ac st [] (.t (Am (ixT 5 u 0) 2)) 0=some (.str (AR k)))/\isPtr (ixT 5 u 0)=true:=by
 obtain⟨c,mark,rfl,_,_⟩:=hk
 unfold NdC at hc
 obtain⟨u,ys,rfl,h1,h2⟩:=hc
 refine⟨u,ys,rfl,h1,by simp[Av],fun st=>?_,?_⟩
 ·obtain⟨cs,h3,h4⟩:=h2.get (i:=0) rfl
  unfold NdC at h3
  obtain⟨w,zs,rfl,_⟩:=h3
  exact h1.ldfx st 0 2 (h4 2 _ rfl)
 ·rcases h1 with⟨rfl,h,_⟩ | ⟨tip,rfl⟩
  ·simp at h
  ·rfl
theorem Nt {v:TV} {ks:List Nd} {xs:List TV} (hr:Rd 5 v ks.length xs) (hk:Bs ks xs) (st:St) {i:Nat} {k:Nd} (hi:ks[i]? =some k):
  ∃cs,NdC k cs/\(Ai st [] (.t (ixT 5 v i)) 0 5).map TV.agg=some (.agg cs):=by
 obtain⟨a,b,c,d,e⟩:=k
 obtain⟨u,ys,h1,h2,h3,h4⟩:=Mk hr hk st hi
 exact⟨_,by unfold NdC;exact⟨u,ys,rfl,h2,h3⟩,h1⟩
section
def L8:Nd->List Nd | .mk _ _ _ ks _=>ks
def CT (q:Int) (c:B8):Bool:=decide (¬(c=[]∨by_ c 0≠q))
open Classical in
noncomputable def GA {α:Type} (g:B8->α) (n:Nd) (a q:Int) (hd:Bool):List (List α):=if Jo n a q hd then Er g (L8 n)else []
open Classical in
noncomputable def Ki (n:Nd) (a q:Int) (hd:Bool):Int:=if Jo n a q hd then 0 else 1
theorem R7 {n:Nd} {a q:Int} {hd:Bool} (h:Jo n a q hd):∃rs,n= .mk 1 [] [] rs []/\(∀r∈rs,RecF a q r)/\Eu n<=1048576/\rs.length<=Eu n/\∀r∈rs,(Av r).length<=10000000/\∀k∈Av r,(AR k).length<=1048576:=by
 obtain⟨rs,rfl,_,_,_,_,_,hr,_⟩:=EG h.2
 have hn:=EI (.mk 1 [] [] rs [])
 have hlen:=OK h.1
 have hkc:=PT hr (Nat.zero_le _)
 have hs0:(xU (Du (.mk 1 [] [] rs [])) a q).s.length=Eu (.mk 1 [] [] rs []):=hn
 rw[hs0]at hkc
 refine⟨rs,rfl,hr.form (Nat.zero_le _),hlen,by have:=hkc.2;omega,fun r hr1=>?_⟩
 obtain⟨i,hi⟩:=List.getElem?_of_mem hr1
 have h1:=Hj rs hi
 have h2:=Lr rs i r hi
 obtain⟨a1,b1,c1,ks,e1⟩:=r
 have h3:=Hk ks
 simp only[Fe,Eu,Av]at h1 h2⊢
 have hk1:=hkc.1
 simp only[Eu]at hlen hk1
 refine⟨by omega,fun k hk=>?_⟩
 obtain⟨j,hj⟩:=List.getElem?_of_mem hk
 have h4:=Lr ks j k hj
 have h5:(AR k).length<=Eu k:=by
  obtain⟨a2,b2,c2,js,e2⟩:=k
  cases js with
  | nil=>simp[AR,Av]
  | cons y ys=>
   obtain⟨a3,b3,c3,zs,e3⟩:=y
   simp only[AR,Av,Eu,Hi];omega
 omega
section
variable {n:Nd} {cs:List TV} {a q:Int} {hd ty:Bool} {st:St}
theorem GF.add {α:Type} {f:α->TV} {T by_:Nat} {st0 st:St} {v u:TV} {rows:List (List α)} {row:List α} {K:TV->St->Prop} (e:Ap st0 st) (h:GF f st0.nt st v rows) (hu:Mz f u row) (hby:(rows.length+1)*by_<=140737488355328)
  (hk:∀v' st',Ap st0 st'->GF f st0.nt st' v' (rows++[row])->K v' st'):BZ T 1 by_ v 1 [u] st K:=by
 obtain⟨vs,h1,h2,h3⟩:=h
 refine Et e rfl h1 hby (fun h=>by cases h) fun v' st' e' _ ho=>hk v' st' e' ⟨vs++[u],by rw[List.length_append];exact ho,by simp[h2],fun i u' row' hi hr=>?_⟩
 by_cases hlt:i<vs.length
 ·rw[List.getElem?_append_left hlt]at hi
  rw[List.getElem?_append_left (by omega)]at hr
  exact h3 i u' row' hi hr
 ·rw[List.getElem?_append_right (by omega)]at hi
  rw[List.getElem?_append_right (by omega)]at hr
  have h0:i-vs.length=0:=by
   have:=(List.getElem?_eq_some_iff.1 hi).1
   simp at this;omega
  rw[h0]at hi
  rw[show i-rows.length=0 by omega]at hr
  simp only[List.getElem?_cons_zero,Option.some.injEq]at hi hr
  subst hi hr;exact hu
theorem GF.ext {α:Type} {f:α->TV} {b:Nat} {st st':St} {v:TV} {rows:List (List α)} (h:GF f b st v rows) (e:Ap st st'):GF f b st' v rows:=by
 obtain⟨vs,h1,h2,h3⟩:=h;exact⟨vs,h1.ext e,h2,h3⟩
theorem GF.nil {α:Type} (f:α->TV) (b:Nat) (st:St):GF f b st .nilSlice []:=⟨[],Own.nil _ _ _,rfl,fun i u row h=>by simp at h⟩
theorem R0 {K:TV->Int->St->Prop} (hc:NdC n cs) (hl:Eu n<=100000000000000) (hcn:Fe n<=1000000000000000)
  (hk:∀v st',Ap st st'->Hs TV.str v (GA (txt q) n a q hd)->K v (Ki n a q hd) st'):
  CallT PR EL [.agg cs,.agg [.int .u8 a,.int .u8 q,.bool hd,.bool ty]] [.one .tv,.one (.int .i64)] st K:=by
 have tn:∀k:Nat,Int.toNat (k:Int)=k:=fun k=>rfl
 have w1:∀k:Nat,k<=100000000->i64.wrap ((k:Int)+1)=((k+1:Nat):Int):=fun k hk=>by rw[Af _ (by omega) (by omega)];omega
 have hc0:=hc
 obtain⟨k,l,t,ks,tl⟩:=n
 unfold NdC at hc
 obtain⟨v,xs,rfl,hr,hx⟩:=hc
 refine LM k l t v tl a q hd ty st K (UH hc0 hl hcn (fun st1 e1 ho=>?_) fun st1 e1 ho=>?_)
 case' refine_2=>
  refine Al (fun _=>?_) fun h=>by cases h
  have:=hk .nilSlice st1 e1 (by unfold GA;rw[if_neg ho];exact Hs.nil _)
  unfold Ki at this
  rwa [if_neg ho]at this
 refine Al (fun h=>by cases h) fun _=>Ab hr.isSl ?_
 have hfin:∀v st',Ap st st'->Hs TV.str v (Er (txt q) ks)->K v 0 st':=fun v st' e h=>by
  have:=hk v st' e (by unfold GA;rw[if_pos ho];exact h)
  unfold Ki at this
  rwa [if_pos ho]at this
 obtain⟨rs,hn,hform,hlen,hrl,hkl⟩:=R7 ho
 cases hn
 rw[hr.lenS]
 refine⟨fun out i v' n' a' q' b1 b2 st'=>v=v'/\(ks.length:Int)=n'/\a=a'/\q=q'/\hd=b1/\ty=b2/\Ap st st'/\∃j:Nat,i=(j:Int)/\j<=ks.length/\GF TV.str st.nt st' out (Er (txt q) (ks.take j)),
  fun _ i _ _ _ _ _ _ _=>(ks.length-i).toNat,⟨rfl,rfl,rfl,rfl,rfl,rfl,e1,0,rfl,by omega,by rw[List.take_zero];exact GF.nil _ _ _⟩,?_⟩
 rintro out _ _ _ _ _ _ _ st2 ⟨rfl,rfl,rfl,rfl,rfl,rfl,e2,j,rfl,hj,hg⟩
 rw[hr.lenZ,tn]
 refine Aa (fun g=>?_) fun g=>?_
 case' refine_2=>
  rw[List.take_of_length_le (by omega)]at hg
  exact hfin _ _ e2 hg.rd
 have hlt:j<ks.length:=by omega
 have hget:=List.getElem?_eq_getElem hlt
 generalize ks[j]=r at hget
 have hrf:=hform r (Bi hget)
 have hrk:=hkl r (Bi hget)
 obtain⟨ents,tail,rfl,hne,hents⟩:=hrf
 obtain⟨rc,hrc,hld⟩:=Nt hr hx st2 hget
 unfold NdC at hrc
 obtain⟨u,ys,rfl,hu,hy⟩:=hrc
 refine⟨⟨by omega,by omega⟩,Ad hld (JA (Ab (EH hu.one) (Ab hu.isSl ?_)))⟩
 rw[hu.lenS]
 simp only[Av]at hrk
 refine⟨fun li m out' v' n' i' u' m' a' q' b1 b2 st'=>out=out'/\v=v'/\(ks.length:Int)=n'/\(j:Int)=i'/\u=u'/\(ents.length:Int)=m'/\a=a'/\q=q'/\hd=b1/\ty=b2/\Ap st2 st'/\∃p:Nat,m=(p:Int)/\p<=ents.length/\Own st2.nt 1 st' li p (((ents.take p).map fun k=>txt q (AR k)).map TV.str),
  fun _ m _ _ _ _ _ _ _ _ _ _ _=>(ents.length-m).toNat,⟨rfl,rfl,rfl,rfl,rfl,rfl,rfl,rfl,rfl,rfl,Ap.refl _,0,rfl,by omega,Own.nil _ _ _⟩,?_⟩
 rintro li _ _ _ _ _ _ _ _ _ _ _ st3 ⟨rfl,rfl,rfl,rfl,rfl,rfl,rfl,rfl,rfl,rfl,e3,p,rfl,hp,hli⟩
 rw[hu.lenZ,tn]
 refine Aa (fun g2=>?_) fun g2=>?_
 ·have hlt2:p<ents.length:=by omega
  have hget2:=List.getElem?_eq_getElem hlt2
  generalize ents[p]=en at hget2
  have hef:=hents en (Bi hget2)
  obtain⟨ec,hec,hld2⟩:=Nt hu hy st3 hget2
  obtain⟨w,zs,rfl,hw,hpos,hwl,hwp⟩:=Xy hef hec
  refine⟨⟨by omega,by omega⟩,Ad hld2 (JA (Ab (EH hw.one) ?_))⟩
  rw[hw.lenZ]
  refine⟨⟨by omega,by omega⟩,Ab hwp (Ad (hwl _) (Aj ?_))⟩
  have hcl:=hrk.2 en (Bi hget2)
  have hcw:SO q (AR en):=by
   obtain⟨c,mark,rfl,hcw,_⟩:=hef
   exact hcw
  refine NT hcw (by omega) fun st4 e4=>?_
  refine Et (e3.trans e4) rfl (hli.ext e4) (by omega) (fun h=>by cases h) fun v5 st5 e5 _ o5=>?_
  rw[w1 p (by omega)]
  refine⟨⟨rfl,rfl,rfl,rfl,rfl,rfl,rfl,rfl,rfl,rfl,e5,p+1,rfl,by omega,?_⟩,by dsimp only;omega⟩
  rw[List.take_add_one,hget2]
  simpa using o5
 ·have hpe:p=ents.length:=by omega
  rw[hpe,List.take_of_length_le (by omega)]at hli
  refine Ab (Of hli.rd.one) (Ab (Of hli.rd.one) ?_)
  refine(hg.ext e3).add (e2.trans e3) (row:=ents.map fun k=>txt q (AR k)) (by unfold Mz;rw[List.length_map];exact hli.rd) (by simp only[Er,List.length_map,List.length_take];omega) fun v' st' e' hg'=>?_
  rw[w1 j (by omega)]
  refine⟨⟨rfl,rfl,rfl,rfl,rfl,rfl,e',j+1,rfl,by omega,?_⟩,by dsimp only;omega⟩
  rw[List.take_add_one,hget]
  simpa [Er,Av]using hg'
end
end
section
section
variable {n:Nd} {cs:List TV} {a q:Int} {hd ty:Bool} {st:St}
theorem Tk {K:TV->Int->St->Prop} (hc:NdC n cs) (hl:Eu n<=100000000000000) (hcn:Fe n<=1000000000000000)
  (hk:∀v st',Ap st st'->Hs TV.bool v (GA (CT q) n a q hd)->K v (Ki n a q hd) st'):
  CallT PR Fi [.agg cs,.agg [.int .u8 a,.int .u8 q,.bool hd,.bool ty]] [.one .tv,.one (.int .i64)] st K:=by
 have tn:∀k:Nat,Int.toNat (k:Int)=k:=fun k=>rfl
 have w1:∀k:Nat,k<=100000000->i64.wrap ((k:Int)+1)=((k+1:Nat):Int):=fun k hk=>by rw[Af _ (by omega) (by omega)];omega
 have hc0:=hc
 obtain⟨k,l,t,ks,tl⟩:=n
 unfold NdC at hc
 obtain⟨v,xs,rfl,hr,hx⟩:=hc
 refine M9 k l t v tl a q hd ty st K (UH hc0 hl hcn (fun st1 e1 ho=>?_) fun st1 e1 ho=>?_)
 case' refine_2=>
  refine Al (fun _=>?_) fun h=>by cases h
  have:=hk .nilSlice st1 e1 (by unfold GA;rw[if_neg ho];exact Hs.nil _)
  unfold Ki at this
  rwa [if_neg ho]at this
 refine Al (fun h=>by cases h) fun _=>Ab hr.isSl ?_
 have hfin:∀v st',Ap st st'->Hs TV.bool v (Er (CT q) ks)->K v 0 st':=fun v st' e h=>by
  have:=hk v st' e (by unfold GA;rw[if_pos ho];exact h)
  unfold Ki at this
  rwa [if_pos ho]at this
 obtain⟨rs,hn,hform,hlen,hrl,hkl⟩:=R7 ho
 cases hn
 rw[hr.lenS]
 refine⟨fun out i v' n' a' q' b1 b2 st'=>v=v'/\(ks.length:Int)=n'/\a=a'/\q=q'/\hd=b1/\ty=b2/\Ap st st'/\∃j:Nat,i=(j:Int)/\j<=ks.length/\GF TV.bool st.nt st' out (Er (CT q) (ks.take j)),
  fun _ i _ _ _ _ _ _ _=>(ks.length-i).toNat,⟨rfl,rfl,rfl,rfl,rfl,rfl,e1,0,rfl,by omega,by rw[List.take_zero];exact GF.nil _ _ _⟩,?_⟩
 rintro out _ _ _ _ _ _ _ st2 ⟨rfl,rfl,rfl,rfl,rfl,rfl,e2,j,rfl,hj,hg⟩
 rw[hr.lenZ,tn]
 refine Aa (fun g=>?_) fun g=>?_
 case' refine_2=>
  rw[List.take_of_length_le (by omega)]at hg
  exact hfin _ _ e2 hg.rd
 have hlt:j<ks.length:=by omega
 have hget:=List.getElem?_eq_getElem hlt
 generalize ks[j]=r at hget
 have hrf:=hform r (Bi hget)
 have hrk:=hkl r (Bi hget)
 obtain⟨ents,tail,rfl,hne,hents⟩:=hrf
 obtain⟨rc,hrc,hld⟩:=Nt hr hx st2 hget
 unfold NdC at hrc
 obtain⟨u,ys,rfl,hu,hy⟩:=hrc
 refine⟨⟨by omega,by omega⟩,Ad hld (JA (Ab (EH hu.one) (Ab hu.isSl ?_)))⟩
 rw[hu.lenS]
 simp only[Av]at hrk
 refine⟨fun li m out' v' n' i' u' m' a' q' b1 b2 st'=>out=out'/\v=v'/\(ks.length:Int)=n'/\(j:Int)=i'/\u=u'/\(ents.length:Int)=m'/\a=a'/\q=q'/\hd=b1/\ty=b2/\Ap st2 st'/\∃p:Nat,m=(p:Int)/\p<=ents.length/\Own st2.nt 1 st' li p (((ents.take p).map fun k=>CT q (AR k)).map TV.bool),
  fun _ m _ _ _ _ _ _ _ _ _ _ _=>(ents.length-m).toNat,⟨rfl,rfl,rfl,rfl,rfl,rfl,rfl,rfl,rfl,rfl,Ap.refl _,0,rfl,by omega,Own.nil _ _ _⟩,?_⟩
 rintro li _ _ _ _ _ _ _ _ _ _ _ st3 ⟨rfl,rfl,rfl,rfl,rfl,rfl,rfl,rfl,rfl,rfl,e3,p,rfl,hp,hli⟩
 rw[hu.lenZ,tn]
 refine Aa (fun g2=>?_) fun g2=>?_
 ·have hlt2:p<ents.length:=by omega
  have hget2:=List.getElem?_eq_getElem hlt2
  generalize ents[p]=en at hget2
  have hef:=hents en (Bi hget2)
  obtain⟨ec,hec,hld2⟩:=Nt hu hy st3 hget2
  obtain⟨w,zs,rfl,hw,hpos,hwl,hwp⟩:=Xy hef hec
  refine⟨⟨by omega,by omega⟩,Ad hld2 (JA (Ab (EH hw.one) ?_))⟩
  rw[hw.lenZ]
  refine⟨⟨by omega,by omega⟩,Ab hwp (Ad (hwl _) (Aj ?_))⟩
  have hcl:=hrk.2 en (Bi hget2)
  have hcw:SO q (AR en):=by
   obtain⟨c,mark,rfl,hcw,_⟩:=hef
   exact hcw
  refine NT hcw (by omega) fun st4 e4=>?_
  rw[show decide (¬(AR en=[]∨by_ (AR en) 0≠q))=CT q (AR en)from rfl]
  refine Et (e3.trans e4) rfl (hli.ext e4) (by omega) (fun h=>by cases h) fun v5 st5 e5 _ o5=>?_
  rw[w1 p (by omega)]
  refine⟨⟨rfl,rfl,rfl,rfl,rfl,rfl,rfl,rfl,rfl,rfl,e5,p+1,rfl,by omega,?_⟩,by dsimp only;omega⟩
  rw[List.take_add_one,hget2]
  simpa using o5
 ·have hpe:p=ents.length:=by omega
  rw[hpe,List.take_of_length_le (by omega)]at hli
  refine Ab (Of hli.rd.one) (Ab (Of hli.rd.one) ?_)
  refine(hg.ext e3).add (e2.trans e3) (row:=ents.map fun k=>CT q (AR k)) (by unfold Mz;rw[List.length_map];exact hli.rd) (by simp only[Er,List.length_map,List.length_take];omega) fun v' st' e' hg'=>?_
  rw[w1 j (by omega)]
  refine⟨⟨rfl,rfl,rfl,rfl,rfl,rfl,e',j+1,rfl,by omega,?_⟩,by dsimp only;omega⟩
  rw[List.take_add_one,hget]
  simpa [Er,Av]using hg'
end
end
section
def Jn (a q:Int) (s:B8):Except Int B8:=if dOk a q=false then .error 1 else if Bo s=s.length then .ok (CX a q s)else .error 5
def xT:Except Int B8->B8 | .ok t=>t | .error _=>[]
def xE:Except Int B8->Int | .ok _=>0 | .error e=>e
theorem QW {a q:Int} (h:dOk a q=true):(a=9∨(32<=a/\a<=126))/\33<=q/\q<=126/\a≠q:=by
 unfold dOk at h
 exact(of_decide_eq_true h).1
theorem Oh {a q:Int} {s:B8} {j:Nat} (h:j<s.length):Fq a q (s.take (j+1))=(Fq a q (s.take j) || decide (by_ s j=a∨by_ s j=q∨by_ s j=10∨by_ s j=13)):=by
 unfold Fq
 rw[D3 s j 0 h,List.any_append]
 simp only[List.any_cons,List.any_nil,Bool.or_false]
 rfl
theorem D1 {a q:Int} {s:B8} {j:Nat} (h:j<s.length) (hb:by_ s j=a∨by_ s j=q∨by_ s j=10∨by_ s j=13):Fq a q s=true:=by
 unfold Fq
 rw[List.any_eq_true]
 refine⟨s.getD j 0,?_,decide_eq_true hb⟩
 rw[List.getD_eq_getElem?_getD,List.getElem?_eq_getElem h]
 exact List.getElem_mem h
theorem Ly (c:UInt8):∀t:B8,(dbl c t).length<=2*t.length
 | []=>by simp[dbl]
 | b::t=>by
  have:=Ly c t
  rw[En,List.length_append,List.length_cons]
  split<;>simp<;>omega
section
variable {a q:Int} {hd ty:Bool} {st:St}
theorem VI {s:B8} {K:B8->Int->St->Prop} (hl:s.length<=2000000) (hk:K (xT (Jn a q s)) (xE (Jn a q s)) st):
  CallT PR Ej [.str s,.agg [.int .u8 a,.int .u8 q,.bool hd,.bool ty]] [.one .str,.one (.int .i64)] st K:=by
 have tn:∀k:Nat,Int.toNat (k:Int)=k:=fun k=>rfl
 have w1:∀k:Nat,k<=100000000->i64.wrap ((k:Int)+1)=((k+1:Nat):Int):=fun k hk=>by rw[Af _ (by omega) (by omega)];omega
 unfold Jn at hk
 refine NL s a q hd ty st K (Ms (Al (fun g=>?_) fun g=>?_))
 ·rw[if_pos (by simpa using g)]at hk;exact hk
 have gd:dOk a q=true:=by simpa using g
 rw[if_neg (by rw[gd];decide)]at hk
 have hdk:=QW gd
 refine LT hl (Al (fun g=>?_) fun g=>?_)
 ·rw[if_neg (by simpa using g)]at hk;exact hk
 rw[if_pos (by simpa using g)]at hk
 have hqn:=Gs (q:=q) (by omega) (by omega)
 generalize hc:UInt8.ofNat q.toNat=c at hqn
 refine Ad (JJ st c hqn) (Aj ?_)
 refine⟨fun i s' q' n1 n2 b1 b2 st'=>s=s'/\[c]=q'/\a=n1/\q=n2/\hd=b1/\ty=b2/\st=st'/\∃j:Nat,i=(j:Int)/\j<=s.length/\Fq a q (s.take j)=false,
  fun i _ _ _ _ _ _ _=>(s.length-i).toNat,⟨rfl,rfl,rfl,rfl,rfl,rfl,rfl,0,rfl,by omega,rfl⟩,?_⟩
 rintro _ _ _ _ _ _ _ _ ⟨rfl,rfl,rfl,rfl,rfl,rfl,rfl,j,rfl,hj,hnq⟩
 rw[tn]
 refine Aa (fun g1=>⟨⟨by omega,by omega⟩,?_⟩) fun g1=>?_
 ·have fin:Fq a q s=true->CallT PR AE [.str s,.str [c],.str ([c]++[c])] [.one .str] st fun s4 st6=>(([c].length+s4.length<=9223372036854775807)/\((([c]++s4).length+ [c].length<=9223372036854775807)/\K ([c]++s4++[c]) 0 st6)):=fun hn=>by
   refine Kg (by simp) (by omega) ?_
   have hdl:=Ly c s
   unfold dbl at hdl
   refine⟨by simp only[List.length_cons,List.length_nil];omega,by simp only[List.length_append,List.length_cons,List.length_nil];omega,?_⟩
   unfold CX at hk
   rw[if_pos hn,hc]at hk
   exact hk
  refine Aa (fun q1=>⟨by simp,fin (D1 (j:=j) (by omega) (.inl q1))⟩) fun q1=>Aa (fun q2=>⟨by simp,fin (D1 (j:=j) (by omega) (.inr (.inl q2)))⟩) fun q2=>Aa (fun q3=>⟨by simp,fin (D1 (j:=j) (by omega) (.inr (.inr (.inl q3))))⟩) fun q3=>
   Aa (fun q4=>⟨by simp,fin (D1 (j:=j) (by omega) (.inr (.inr (.inr q4))))⟩) fun q4=>?_
  rw[w1 j (by omega)]
  refine⟨⟨rfl,rfl,rfl,rfl,rfl,rfl,rfl,j+1,rfl,by omega,?_⟩,by dsimp only;omega⟩
  rw[Oh (by omega),hnq,Bool.false_or]
  exact decide_eq_false (by rintro(h | h | h | h);exact q1 h;exact q2 h;exact q3 h;exact q4 h)
 ·rw[List.take_of_length_le (by omega)]at hnq
  unfold CX at hk
  rw[if_neg (by rw[hnq];decide)]at hk
  exact hk
theorem MO {s:B8} {c:UInt8} {K:B8->St->Prop} (hc:(c.toNat:Int)=q) (hl:s.length<=2000000) (hk:K (c::(dbl c s++[c])) st):
  CallT PR AB [.str s,.agg [.int .u8 a,.int .u8 q,.bool hd,.bool ty]] [.one .str] st K:=by
 have tn:∀k:Nat,Int.toNat (k:Int)=k:=fun k=>rfl
 have w1:∀k:Nat,k<=100000000->i64.wrap ((k:Int)+1)=((k+1:Nat):Int):=fun k hk=>by rw[Af _ (by omega) (by omega)];omega
 refine GI s a q hd ty st K (Ad (JJ st c hc) (Aj ?_))
 refine⟨fun out i s' q' n1 n2 b1 b2 st'=>s=s'/\[c]=q'/\a=n1/\q=n2/\hd=b1/\ty=b2/\st=st'/\∃j:Nat,i=(j:Int)/\j<=s.length/\out=c::dbl c (s.take j),
  fun _ i _ _ _ _ _ _ _=>(s.length-i).toNat,⟨rfl,rfl,rfl,rfl,rfl,rfl,rfl,0,rfl,by omega,rfl⟩,?_⟩
 rintro _ _ _ _ _ _ _ _ _ ⟨rfl,rfl,rfl,rfl,rfl,rfl,rfl,j,rfl,hj,rfl⟩
 have hdl:=Ly c (s.take j)
 rw[List.length_take]at hdl
 refine Aa (fun g1=>?_) fun g1=>?_
 ·have hlt:j<s.length:=by omega
  rw[w1 j (by omega),tn,tn,show List.drop j (List.take (j+1) s)=[s.getD j 0]from Qu hlt]
  have hst:=D3 s j 0 hlt
  refine⟨⟨by omega,by omega,by omega⟩,by simp only[List.length_cons,List.length_nil];omega,⟨by omega,by omega⟩,Aa (fun g2=>⟨by simp only[List.length_cons,List.length_append,List.length_nil];omega,?_⟩) fun g2=>?_⟩
  ·have hb:s.getD j 0=c:=UInt8.toNat_inj.1 (by omega)
   refine⟨⟨rfl,rfl,rfl,rfl,rfl,rfl,rfl,j+1,rfl,by omega,?_⟩,by dsimp only;omega⟩
   rw[hst,QV,hb];simp[dbl,NU]
  ·have hb:s.getD j 0≠c:=fun h=>g2 (by rw[h];exact hc)
   refine⟨⟨rfl,rfl,rfl,rfl,rfl,rfl,rfl,j+1,rfl,by omega,?_⟩,by dsimp only;omega⟩
   have h1:dbl c [s.getD j 0]=[s.getD j 0]:=by
    simp only[dbl,List.flatMap_cons,List.flatMap_nil,NU,List.append_nil]
    rw[if_neg hb]
   rw[hst,QV,h1];rfl
 ·rw[List.take_of_length_le (by omega)]
  have hdl2:=Ly c s
  refine⟨?_,hk⟩
  rw[List.take_of_length_le (by omega)]at hdl
  simp only[List.length_cons,List.length_nil];omega
theorem Tb {s:B8} {K:B8->Int->St->Prop} (hl:s.length<=2000000) (hk:∀st',Ap st st'->K (xT (Jn a q s)) (xE (Jn a q s)) st'):
  CallT PR BS [.str s,.agg [.int .u8 a,.int .u8 q,.bool hd,.bool ty]] [.one .str,.one (.int .i64)] st K:=by
 have tn:∀k:Nat,Int.toNat (k:Int)=k:=fun k=>rfl
 have w1:∀k:Nat,k<=100000000->i64.wrap ((k:Int)+1)=((k+1:Nat):Int):=fun k hk=>by rw[Af _ (by omega) (by omega)];omega
 unfold Jn at hk
 refine Ik s a q hd ty st K (N8 (Al (fun g=>?_) fun g=>?_))
 ·rw[if_pos (by simpa using g)]at hk;exact hk st (Ap.refl _)
 have gd:dOk a q=true:=by simpa using g
 rw[if_neg (by rw[gd];decide)]at hk
 have hdk:=QW gd
 refine L4 hl fun st1 e1=>Al (fun g=>?_) fun g=>?_
 ·rw[if_neg (by simpa using g)]at hk;exact hk st1 e1
 rw[if_pos (by simpa using g)]at hk
 have hqn:=Gs (q:=q) (by omega) (by omega)
 generalize hc:UInt8.ofNat q.toNat=c at hqn
 refine⟨fun i s' n1 n2 b1 b2 st'=>s=s'/\a=n1/\q=n2/\hd=b1/\ty=b2/\st1=st'/\∃j:Nat,i=(j:Int)/\j<=s.length/\Fq a q (s.take j)=false,
  fun i _ _ _ _ _ _=>(s.length-i).toNat,⟨rfl,rfl,rfl,rfl,rfl,rfl,0,rfl,by omega,rfl⟩,?_⟩
 rintro _ _ _ _ _ _ _ ⟨rfl,rfl,rfl,rfl,rfl,rfl,j,rfl,hj,hnq⟩
 rw[tn]
 refine Aa (fun g1=>⟨⟨by omega,by omega⟩,?_⟩) fun g1=>?_
 ·have fin:Fq a q s=true->CallT PR AB [.str s,.agg [.int .u8 a,.int .u8 q,.bool hd,.bool ty]] [.one .str] st1 fun s4 st6=>K s4 0 st6:=fun hn=>by
   refine MO hqn hl ?_
   have:=hk st1 e1
   unfold CX at this
   rw[if_pos hn,hc]at this
   exact this
  refine Aa (fun q1=>fin (D1 (j:=j) (by omega) (.inl q1))) fun q1=>⟨⟨by omega,by omega⟩,Aa (fun q2=>fin (D1 (j:=j) (by omega) (.inr (.inl q2)))) fun q2=>⟨⟨by omega,by omega⟩,Aa (fun q3=>fin (D1 (j:=j) (by omega) (.inr (.inr (.inl q3))))) fun q3=>
   ⟨⟨by omega,by omega⟩,Aa (fun q4=>fin (D1 (j:=j) (by omega) (.inr (.inr (.inr q4))))) fun q4=>?_⟩⟩⟩
  rw[w1 j (by omega)]
  refine⟨⟨rfl,rfl,rfl,rfl,rfl,rfl,j+1,rfl,by omega,?_⟩,by dsimp only;omega⟩
  rw[Oh (by omega),hnq,Bool.false_or]
  exact decide_eq_false (by rintro(h | h | h | h);exact q1 h;exact q2 h;exact q3 h;exact q4 h)
 ·rw[List.take_of_length_le (by omega)]at hnq
  have:=hk st1 e1
  unfold CX at this
  rw[if_neg (by rw[hnq];decide)]at this
  exact this
end
end
section
def Qs (cs:List B8):Nat:=match cs with | []=>0 | c::r=>c.length+Qs r
section
variable {a q:Int} {hd ty:Bool} {st:St}
end
end
section
def S3 (l:List (List B8)):Nat:=match l with | []=>0 | r::rs=>Qs r+S3 rs
def Ni (l:List (List B8)):Nat:=match l with | []=>0 | r::rs=>r.length+Ni rs
theorem Wt {l:List (List B8)} {j:Nat} {r:List B8} (h:l[j]? =some r):Qs r<=S3 l/\r.length<=Ni l:=by
 induction l generalizing j with
 | nil=>simp at h
 | cons d rs ih=>
  cases j with
  | zero=>simp only[List.getElem?_cons_zero,Option.some.injEq]at h;subst h;simp[S3,Ni]
  | succ j=>
   have:=ih (j:=j) (by simpa using h)
   simp only[S3,Ni];omega
section
variable {a q:Int} {hd ty:Bool} {st:St}
end
end
section
theorem W4 {s:B8} {a q:Int} {hd:Bool} {n:Nd} (hl:s.length<=70000) (h:Oc s a q hd= .ok n):Du n=s/\LC n=0/\Jo n a q hd:=by
 obtain⟨rs,rfl,_,_,_,_,_,hr,_⟩:=EG h
 have ht:Du (.mk 1 [] [] rs [])=s:=by
  have:=JE.text hr (Nat.zero_le _)
  simp only[Du,List.nil_append,List.append_nil]
  rw[this];rfl
 have hlen:Eu (.mk 1 [] [] rs [])=s.length:=by rw[<-EI,ht]
 have hc:LC (.mk 1 [] [] rs [])=0:=by
  have hs0:(xU s a q).s.length=s.length:=rfl
  obtain⟨s',h1,h2,h3⟩:=V8 hr (Nat.zero_le _) (s:=1) (by rw[hs0];omega)
  have h4:chk (.mk 1 [] [] rs []) 1 0= .ok s':=by
   have l1:Kk 1=false:=by decide
   simp only[chk,l1]
   rw[if_neg (by omega),if_neg (by omega),if_neg (by omega),if_neg (by simp)]
   exact h1
  unfold LC
  rw[h4]
  simp only
  rw[if_neg (by omega)]
 exact⟨ht,hc,hc,by rw[ht];exact h⟩
theorem Sf {s:B8} {i:Nat} {p:Nat×Int} (h:D2 s i= .error p):p.2≠0:=by
 obtain⟨o,c⟩:=p
 rcases VP h with h | h<;>simp[h.2]
theorem entE_ne {x:Cx} {hd:Bool} {i:Nat} {v:Int} {ns:List B8} {p:Nat×Int} (h:EP x hd i v ns= .error p):p.2≠0:=by
 have hR:∀v,TO x hd i v ns= .error p->p.2≠0:=fun v h=>by
  unfold TO at h
  split at h
  ·rename_i e he
   cases h
   exact V9 (o:=p.1) (c:=p.2) he
  ·rename_i e he
   by_cases h1:(if hd then 1024 else 65536)<(txt x.q (slc x.s i e)).length
   ·rw[if_pos h1]at h;cases h;simp
   ·by_cases h2:hd=true/\txt x.q (slc x.s i e)∈ns
    ·rw[if_neg h1,if_pos h2]at h;cases h;simp
    ·rw[if_neg h1,if_neg h2]at h;cases h
 rw[QP]at h
 split at h
 ·exact hR v h
 ·split at h
  ·rename_i e he
   cases h
   exact SH (o:=p.1) (c:=p.2) he
  ·exact hR _ h
theorem UD {x:Cx} {num hd:Bool} {wid:Int}:∀(n:Nat) {acc:List Nd} {i:Nat} {v:Int} {ns:List B8} {p:Nat×Int},i<=x.s.length->x.s.length<i+n->Ck x num wid hd n acc i v ns= .error p->p.2≠0
 | 0,acc,i,v,ns,p,h1,h2,h=>by omega
 | n+1,acc,i,v,ns,p,h1,h2,h=>by
  rw[Pw]at h
  split at h
  ·cases h;simp
  split at h
  ·rename_i e he;cases h;exact entE_ne he
  ·rename_i e v1 ns1 he
   have hle:=UQ h1 he
   split at h
   ·exact UD n (by omega) (by omega) h
   ·split at h
    ·rename_i e2 he2;cases h;exact Sf he2
    ·cases h
theorem recD_ne {x:Cx} {num hd:Bool} {wid:Int} {i:Nat} {v:Int} {ns:List B8} {p:Nat×Int} (hi:i<=x.s.length) (h:GM x num wid hd i v ns= .error p):p.2≠0:=by
 have hK:∀v,Jl x.s num wid (Ck x num wid hd (x.s.length+1) [] i v ns)= .error p->p.2≠0:=fun v h=>by
  unfold Jl at h
  rcases hr:Ck x num wid hd (x.s.length+1) [] i v ns with e | ⟨e,v2,ns2,ks⟩
  ·rw[hr]at h;cases h;exact UD _ hi (by omega) hr
  ·rw[hr]at h
   simp only at h
   cases hn7:D2 x.s e with
   | error e2=>rw[hn7]at h;cases h;exact Sf hn7
   | ok n7=>
    rw[hn7]at h
    simp only at h
    by_cases hw:(ks.length:Int)<(if num then wid else(ks.length:Int))
    ·rw[if_pos hw]at h;cases h;simp
    ·rw[if_neg hw]at h;cases h
 rw[Gr]at h
 split at h
 ·exact hK v h
 ·split at h
  ·rename_i e he;cases h;exact SH (o:=p.1) (c:=p.2) he
  ·exact hK _ h
theorem UU {x:Cx} {hdr:Bool}:∀(n:Nat) {acc:List Nd} {i:Nat} {v:Int} {ns:List B8} {wid:Int} {p:Nat×Int},i<=x.s.length->x.s.length<i+n->Ev x hdr n acc i v ns wid= .error p->p.2≠0
 | 0,acc,i,v,ns,wid,p,h1,h2,h=>by omega
 | n+1,acc,i,v,ns,wid,p,h1,h2,h=>by
  rw[P1]at h
  split at h
  ·cases h
  split at h
  ·rename_i e he;cases h;exact recD_ne h1 he
  ·rename_i i' v' ns' r wid' he
   have hle:=UE (by omega) he
   exact UU n (by omega) (by omega) h
theorem To {x:Cx} {hd:Bool} {l2 l3 l4:Int} {p:Nat×Int} (h:Bl x hd l2 l3 l4= .error p):p.2≠0:=by
 unfold Bl at h
 split at h
 ·cases h;simp
 split at h
 ·cases h;simp
 split at h
 ·cases h;simp
 split at h
 ·cases h;simp
 split at h
 ·rename_i e he;cases h;exact UU _ (by omega) (by omega) he
 ·cases h
section
variable {a q:Int} {hd ty:Bool} {st:St}
theorem N9 {K:Int->Int->Bool->Bool->St->Prop} (hk:K 44 34 true true st):CallT PR BR [] [.agg [.int .u8,.int .u8,.bool,.bool]] st K:=Ij st K hk
end
end
section
theorem Wr {cs:List B8} {c:B8} (h:c∈cs):c.length<=Qs cs:=by
 induction cs with
 | nil=>cases h
 | cons d r ih=>
  simp only[Qs]
  rcases List.mem_cons.1 h with rfl | h
  ·omega
  ·have:=ih h;omega
section
variable {a q:Int} {hd ty:Bool} {st:St}
end
end
def JH (a q:Int) (c:B8):Prop:=∀(pre:B8) (b:UInt8) (post:B8),((b.toNat:Int)=a∨(b.toNat:Int)=10)->Cj a q (pre++c++b::post) pre.length= .ok (pre.length+c.length)
structure Wf (a q:Int):Prop where
 a0:0<=a
 a1:a<128
 q0:0<=q
 q1:q<128
 aq:a≠q
 q10:q≠10
 q13:q≠13
 a10:a≠10
 sa:Cc a=false
 sq:Cc q=false
theorem XC {a q:Int} (h:dOk a q=true):Wf a q:=by
 have hk:=QW h
 unfold dOk at h
 rw[decide_eq_true_eq]at h
 exact⟨by omega,by omega,by omega,by omega,by omega,by omega,by omega,by omega,h.2.1,h.2.2⟩
theorem SF {a q:Int} (d:Wf a q) (s:B8):JH a q (CX a q s):=fun pre b post hb=>Ub d.q0 (by have:=d.q1;omega) d.aq d.q10 d.q13 pre s b post hb
theorem Q2 {a q:Int} (d:Wf a q) {c:B8} (h:Fq a q c=false):JH a q c:=by
 have:=SF d c
 unfold CX at this
 rwa [if_neg (by rw[h];decide)]at this
def Ma (q:Int) (s:B8):B8:=UInt8.ofNat q.toNat::(dbl (UInt8.ofNat q.toNat) s++[UInt8.ofNat q.toNat])
theorem SE {a q:Int} (d:Wf a q) (c:B8):JH a q (Ma q c):=by
 intro pre b post hb
 have hq1:=d.q1
 have hqb:=Gs d.q0 (by omega:q<=255)
 have hd:(pre++Ma q c++b::post).drop pre.length=Ma q c++b::post:=by rw[List.append_assoc,List.drop_left]
 have hby:by_ (pre++Ma q c++b::post) pre.length=q:=by
  have:(pre++Ma q c++b::post).getD pre.length 0=((pre++Ma q c++b::post).drop pre.length).getD 0 0:=by rw[JS];rfl
  unfold by_
  rw[this,hd];exact hqb
 have hlen:pre.length<(pre++Ma q c++b::post).length:=by simp only[List.length_append,List.length_cons];omega
 have hQ:QE q (pre++Ma q c++b::post) (pre.length+1)=some (pre.length+(Ma q c).length):=by
  unfold QE
  rw[<-List.drop_drop,hd]
  have:=Np hqb c (b::post) (pre.length+1) (fun b' l' h=>by cases h;have:=d.aq;have:=d.q10;omega)
  unfold Ma
  simp only[List.cons_append,List.drop_succ_cons,List.drop_zero,List.append_assoc,List.nil_append]
  rw[this]
  congr 1
  simp;omega
 unfold Cj
 rw[if_pos ⟨hlen,hby⟩,hQ]
def DH (a:Int):List B8->B8
 | []=>[10]
 | [c]=>c++[10]
 | c::r=>c++UInt8.ofNat a.toNat::DH a r
theorem OB {a q:Int} (d:Wf a q):∀(cs:List B8) (pre post:B8),cs≠ []->(∀c,c∈cs->JH a q c)->
  ∃ks e,IL a q (pre++DH a cs++post) pre.length ks e 1/\e+1=pre.length+(DH a cs).length/\ks.map AR=cs/\slc (pre++DH a cs++post) e (e+1)=[10]
 | [],pre,post,h,_=>absurd rfl h
 | [c],pre,post,_,hok=>by
  have hs:pre++DH a [c]++post=pre++c++10::post:=by simp[DH]
  have hc:=hok c (by simp) pre 10 post (.inr rfl)
  rw[hs]
  have hlt:pre.length+c.length<(pre++c++10::post).length:=by simp
  have hb:(pre++c++10::post).getD (pre.length+c.length) 0=10:=by
   have:(pre++c).length=pre.length+c.length:=by simp
   rw[<-this,List.getD_eq_getElem?_getD,List.getElem?_append_right (Nat.le_refl _)]
   simp
  have hby:by_ (pre++c++10::post) (pre.length+c.length)=10:=by unfold by_;rw[hb];rfl
  refine⟨_,_,.last hc (by rintro⟨_,h⟩;rw[hby]at h;exact d.a10 h.symm) ?_,?_,?_,?_⟩
  ·unfold D2;rw[if_neg (by omega),if_pos hby]
  ·simp[DH];omega
  ·simp only[List.map_cons,List.map_nil,Dr]
   congr 1
   unfold slc
   rw[show pre.length+c.length=(pre++c).length by simp,List.take_left,List.drop_left]
  ·rw[Qu hlt,hb]
 | c::c2::r,pre,post,_,hok=>by
  have hs:pre++DH a (c::c2::r)++post=pre++c++UInt8.ofNat a.toNat::(DH a (c2::r)++post):=by simp[DH]
  have hs2:pre++c++UInt8.ofNat a.toNat::(DH a (c2::r)++post)=(pre++c++[UInt8.ofNat a.toNat])++DH a (c2::r)++post:=by simp
  have hab:=Gs d.a0 (by have:=d.a1;omega:a<=255)
  have hc:=hok c (by simp) pre (UInt8.ofNat a.toNat) (DH a (c2::r)++post) (.inl hab)
  obtain⟨ks,e,h1,h2,h3,h4⟩:=OB d (c2::r) (pre++c++[UInt8.ofNat a.toNat]) post (by simp) fun x hx=>hok x (.tail _ hx)
  rw[<-hs2]at h1 h4
  rw[hs]
  have hlt:pre.length+c.length<(pre++c++UInt8.ofNat a.toNat::(DH a (c2::r)++post)).length:=by simp
  have hb:(pre++c++UInt8.ofNat a.toNat::(DH a (c2::r)++post)).getD (pre.length+c.length) 0=UInt8.ofNat a.toNat:=by
   have:(pre++c).length=pre.length+c.length:=by simp
   rw[<-this,List.getD_eq_getElem?_getD,List.getElem?_append_right (Nat.le_refl _)]
   simp
  have hpl:(pre++c++[UInt8.ofNat a.toNat]).length=pre.length+c.length+1:=by simp;omega
  rw[hpl]at h1 h2
  refine⟨_,_,.more hc hlt (by unfold by_;rw[hb];exact hab) h1,?_,?_,h4⟩
  ·simp only[DH,List.length_append,List.length_cons];omega
  ·simp only[List.map_cons,Dr]
   rw[h3]
   congr 1
   unfold slc
   rw[show pre.length+c.length=(pre++c).length by simp,List.take_left,List.drop_left]
def DX (a:Int) (l:List (List B8)):B8:=l.flatMap (DH a)
theorem N7 {a q:Int} (d:Wf a q):∀(l:List (List B8)) (pre:B8),(∀cs,cs∈l->cs≠ []/\∀c,c∈cs->JH a q c)->
  ∃rs,JE a q (pre++DX a l) pre.length rs/\rs.map (fun r=>(Av r).map AR)=l
 | [],pre,h=>⟨[],.nil (by simp[DX]),rfl⟩
 | cs::l,pre,h=>by
  have hs:pre++DX a (cs::l)=pre++DH a cs++DX a l:=by simp[DX]
  obtain⟨ks,e,h1,h2,h3,h4⟩:=OB d cs pre (DX a l) (h cs (by simp)).1 (h cs (by simp)).2
  obtain⟨rs,h5,h6⟩:=N7 d l (pre++DH a cs) (fun c hc=>h c (.tail _ hc))
  rw[hs]
  rw[List.length_append]at h5
  have hle:=h1.le (by simp)
  refine⟨_,.cons (by simp only[List.length_append]at hle⊢;omega) h1 (by rw[h2];exact h5),?_⟩
  rw[List.map_cons,h6]
  show ks.map AR::_=_
  rw[h3]
theorem NC {a:Int} (h0:0<=a) (h1:a<128):∀cs:List B8,(∀c,c∈cs->Bo c=c.length)->Bo (DH a cs)=(DH a cs).length
 | [],_=>EB [10] rfl
 | [c],h=>IN (h c (by simp)) (EB [10] rfl)
 | c::c2::r,h=>by
  have hab:=Gs h0 (by omega:a<=255)
  exact IN (h c (by simp)) (Pk (by omega) (NC h0 h1 (c2::r) fun x hx=>h x (.tail _ hx)))
theorem NB {a:Int} (h0:0<=a) (h1:a<128):∀l:List (List B8),(∀r,r∈l->∀c,c∈r->Bo c=c.length)->Bo (DX a l)=(DX a l).length
 | [],_=>Pj
 | r::l,h=>IN (NC h0 h1 r (h r (by simp))) (NB h0 h1 l fun x hx=>h x (.tail _ hx))
theorem Sp {x:Cx} {i:Nat} {v:Int} {ns:List B8} {e:Nat} (h3:Cj x.a x.q x.s i= .ok e) (h4:(txt x.q (slc x.s i e)).length<=1024) (h5:txt x.q (slc x.s i e)∉ns):
  EP x true i v ns= .ok (e,v,txt x.q (slc x.s i e)::ns):=by
 simp only[EP,if_true,true_and,bind,Except.bind,h3]
 rw[if_neg (by omega),if_neg h5]
def FY (q:Int) (ks:List Nd):List B8:=ks.map fun k=>txt q (AR k)
theorem WE {x:Cx} {num:Bool} {wid:Int}:∀{i:Nat} {ks:List Nd} {e m:Nat},IL x.a x.q x.s i ks e m->∀(n:Nat) {acc:List Nd} {v:Int} {ns:List B8},
  i<=x.s.length->x.s.length<i+n->(∀t,t∈FY x.q ks->t.length<=1024/\t∉ns)->(FY x.q ks).Nodup->(num=true->((acc.length+ks.length:Nat):Int)<=wid)->∃ns',Ck x num wid true n acc i v ns= .ok (e,v,ns',acc++ks):=by
 intro i ks e m h
 induction h with
 | @last i e m h1 h2 h3=>
  intro n acc v ns hi hn hk hnd hw
  cases n with
  | zero=>omega
  | succ n=>
  simp only[Ck]
  rw[if_neg (by rintro⟨h,h'⟩;have:=hw h;simp at this;omega)]
  have hc:=hk _ (List.mem_singleton.2 rfl)
  dsimp only at hc
  rw[Dr]at hc
  rw[Sp h1 hc.1 hc.2]
  simp only[bind,Except.bind]
  rw[if_neg h2,h3]
  exact⟨_,rfl⟩
 | @more i e e' m ks h1 h2 h3 h4 ih=>
  intro n acc v ns hi hn hk hnd hw
  cases n with
  | zero=>omega
  | succ n=>
  simp only[Ck]
  simp only[List.length_cons]at hw
  rw[if_neg (by rintro⟨h,h'⟩;have:=hw h;omega)]
  have hc:=hk _ (List.mem_cons_self ..)
  dsimp only at hc
  rw[Dr]at hc
  rw[Sp h1 hc.1 hc.2]
  simp only[bind,Except.bind]
  rw[if_pos ⟨h2,h3⟩]
  have hnd2:txt x.q (slc x.s i e)∉FY x.q ks/\(FY x.q ks).Nodup:=by
   have:=List.nodup_cons.1 hnd
   dsimp only at this
   rwa [Dr]at this
  have hle:=CC hi h1
  obtain⟨ns',hr⟩:=ih n (acc:=acc++[KP x.s i e [.mk 11 [] [x.s.getD e 0] [] []]]) (v:=v) (ns:=txt x.q (slc x.s i e)::ns) (by omega) (by omega) (fun t ht=>⟨(hk t (List.mem_cons_of_mem _ ht)).1,fun hm=>by
   rcases List.mem_cons.1 hm with rfl | hm
   ·exact hnd2.1 ht
   ·exact(hk t (List.mem_cons_of_mem _ ht)).2 hm⟩) hnd2.2 (fun hn=>by have:=hw hn;simp;omega)
  rw[hr,List.append_assoc]
  exact⟨ns',rfl⟩
theorem WH {x:Cx} {num:Bool} {wid:Int} {i:Nat} {ks:List Nd} {e m:Nat} (h:IL x.a x.q x.s i ks e m) {v:Int} {ns:List B8}
  (hi:i<=x.s.length) (hk:∀t,t∈FY x.q ks->t.length<=1024/\t∉ns) (hnd:(FY x.q ks).Nodup) (hw:num=true->(ks.length:Int)=wid):
  ∃ns',GM x num wid true i v ns= .ok (e+m,v,ns',.mk 8 [] [] ks (slc x.s e (e+m)),(ks.length:Int)):=by
 have hl:=h.le hi
 obtain⟨ns',hr⟩:=WE (num:=num) (wid:=wid) h (x.s.length+1) (acc:=[]) (v:=v) (ns:=ns) hi (by omega) hk hnd (fun hn=>by rw[List.length_nil,Nat.zero_add,hw hn];omega)
 refine⟨ns',?_⟩
 rw[Gr,if_pos rfl,hr]
 unfold Jl
 simp only[hl.2.2.2.2]
 cases num with
 | true=>have:=hw rfl;simp only[if_true,List.nil_append];rw[<-this,if_neg (by omega)]
 | false=>simp only[Bool.false_eq_true,if_false,List.nil_append];rw[if_neg (by omega)]
theorem XA {x:Cx} (hdep:3<=x.dep) {W:Int} {hdr:Bool} {rs:List Nd} (h:JE x.a x.q x.s 0 rs) (n:Nat) (hn:x.s.length<n)
  (hk:∀r,r∈rs->∀k,k∈Av r->(txt x.q (AR k)).length<=65536) (hW:∀r,r∈rs->((Av r).length:Int)=W) (hv:1+Eo hdr rs<=x.nod)
  (hh:hdr=true->∀r,rs.head? =some r->(FY x.q (Av r)).Nodup/\∀t,t∈FY x.q (Av r)->t.length<=1024):Ev x hdr n [] 0 1 [] 0= .ok rs:=by
 cases hdr with
 | false=>exact UT hdep h n (acc:=[]) (Nat.zero_le _) (by omega) hk (fun h=>absurd rfl h) hW hv
 | true=>
  cases h with
  | nil h=>
   cases n with
   | zero=>omega
   | succ n=>simp only[Ev];rw[if_pos h]
  | @cons _ e m ks rs h1 h2 h3=>
   cases n with
   | zero=>omega
   | succ n=>
   have hle:=h2.le (Nat.zero_le _)
   obtain⟨hnd,hl⟩:=hh rfl _ rfl
   have hks:(ks.length:Int)=W:=hW _ (List.mem_cons_self ..)
   have hm:0<e+m:=by
    rcases Nat.eq_zero_or_pos m with h0 | h0
    ·have:=(FZ (by omega) hle.2.2.2.2).2.1 h0;omega
    ·omega
   obtain⟨ns',hr⟩:=WH (num:=false) (wid:=0) h2 (v:=1) (ns:=[]) (Nat.zero_le _) (fun t ht=>⟨hl t ht,by simp⟩) hnd (fun h=>by cases h)
   simp only[Ev,List.isEmpty_nil,Bool.and_true,Bool.not_true]
   rw[if_neg (by omega),hr]
   simp only[bind,Except.bind,List.nil_append]
   have:=UT hdep h3 n (acc:=[.mk 8 [] [] ks (slc x.s e (e+m))]) (v:=1) (ns:=ns') (wid:=(ks.length:Int)) (by omega) (by omega) (fun r hr=>hk r (List.mem_cons_of_mem _ hr)) (fun _=>hks) (fun r hr=>hW r (List.mem_cons_of_mem _ hr)) (by
    unfold Eo at hv;simpa using hv)
   have e2:∀(n:Nat) (acc:List Nd) (i:Nat) (v:Int) (ns:List B8) (wid:Int),acc≠ []->Ev x true n acc i v ns wid=Ev x false n acc i v ns wid:=by
    intro n
    induction n with
    | zero=>intros;rfl
    | succ n ih=>
     intro acc i v ns wid ha
     have hb:acc.isEmpty=false:=by cases acc;exact absurd rfl ha;rfl
     simp only[Ev,hb,Bool.and_false,Bool.not_false]
     split
     ·rfl
     ·simp only[bind,Except.bind]
      split
      ·rfl
      ·exact ih _ _ _ _ _ (by simp)
   rw[e2 _ _ _ _ _ _ (by simp),this]
   rfl
theorem P3:∀(rs:List Nd) (l:List (List B8)),rs.map (fun r=>(Av r).map AR)=l->E7 rs=(l.length:Int)+Ni l
 | [],[],h=>by simp[E7,Ni]
 | [],_::_,h=>by simp at h
 | _::_,[],h=>by simp at h
 | r::rs,c::l,h=>by
  simp only[List.map_cons,List.cons.injEq]at h
  have h1:=congrArg List.length h.1
  rw[List.length_map]at h1
  have ih:=P3 rs l h.2
  simp only[E7,LB,Ni,List.length_cons];omega
theorem TU (hd:Bool) (rs:List Nd):Eo hd rs<=E7 rs:=by
 unfold Eo
 split
 ·cases rs with
  | nil=>simp[E7]
  | cons r rs=>simp only[List.tail_cons,E7,LB];omega
 ·omega
theorem readX {a q:Int} (hd:dOk a q=true) (hdr:Bool) {l:List (List B8)} {W:Nat} (h:∀r,r∈l->r≠ []/\r.length=W/\∀c,c∈r->JH a q c/\Bo c=c.length/\(txt q c).length<=65536)
  (hs:(DX a l).length<=1048576) (hc:l.length+Ni l<=65535) (hh:hdr=true->∀r,l.head? =some r->(r.map (txt q)).Nodup/\∀c,c∈r->(txt q c).length<=1024):
  ∃rs,Oc (DX a l) a q hdr= .ok (.mk 1 [] [] rs [])/\rs.map (fun r=>(Av r).map AR)=l:=by
 have d:=XC hd
 obtain⟨rs,hr,hm⟩:=N7 d l [] fun cs hcs=>⟨(h cs hcs).1,fun c hc=>((h cs hcs).2.2 c hc).1⟩
 rw[List.nil_append,List.length_nil]at hr
 have hv:=NB d.a0 d.a1 l fun r hr c hc=>((h r hr).2.2 c hc).2.1
 have hmem:∀r,r∈rs->(Av r).map AR∈l:=by
  intro r hr1
  rw[<-hm];exact List.mem_map.2 ⟨r,hr1,rfl⟩
 have hnk:∀r,FY q (Av r)=((Av r).map AR).map (txt q):=fun r=>by unfold FY;rw[List.map_map];rfl
 have hdoc:=XA (x:=xU (DX a l) a q) (show(3:Int)<=48 by decide) (W:=(W:Int)) (hdr:=hdr) hr ((DX a l).length+1) (by show(DX a l).length<_;omega) (fun r hr1 k hk1=>
   ((h _ (hmem r hr1)).2.2 _ (List.mem_map.2 ⟨k,hk1,rfl⟩)).2.2) (fun r hr1=>by
   have:=(h _ (hmem r hr1)).2.1
   rw[List.length_map]at this;omega) (by
   have h1:=P3 rs l hm
   have h2:=TU hdr rs
   show _<=(65536:Int);omega) (fun hb r hr1=>by
   have hl:l.head? =some ((Av r).map AR):=by rw[<-hm,List.head?_map,hr1];rfl
   have:=hh hb _ hl
   show(FY q (Av r)).Nodup/\_
   rw[hnk]
   exact⟨this.1,fun t ht=>by
    obtain⟨c,hc,rfl⟩:=List.mem_map.1 ht
    exact this.2 c hc⟩)
 refine⟨rs,?_,hm⟩
 show Bl (xU (DX a l) a q) hdr 1048576 1024 65536=_
 unfold Bl
 rw[if_neg (show ¬dOk a q=false by rw[hd];decide),if_neg (show ¬lOk 48 65536 1048576 1024 65536=false by decide),if_neg (show ¬(1048576:Int)<((DX a l).length:Int) by omega),if_neg (show ¬Bo (DX a l)≠(DX a l).length by rw[hv];simp)]
 rw[show Ev (xU (DX a l) a q) hdr ((xU (DX a l) a q).s.length+1) [] 0 1 [] 0= .ok rs from hdoc]
noncomputable def FV (a q:Int) (ty:Bool) (s:Sc):B8:=
 if s.kind=4 then(if CX a q s.text=s.text/\(Ft ty false s.text).kind≠4 then Ma q s.text else CX a q s.text)else plT s
def DE (ty:Bool) (k:Int):Int:=if (ty=false/\k≠4)∨k=5∨k=6∨k=7 then 27 else 0
def Ce (s:Sc):Vl:= .mk s [] []
def GL (q:Int) (ty:Bool) (r:List B8):List Sc:=r.map fun c=>Ft ty (CT q c) (txt q c)
def recV (names:List B8) (row:List Sc):Vl:=Wl (List.zipWith (fun k s=>Fd.mk k (Ce s)) names row)
def Fx (rs:List Nd):List (List B8):=rs.map fun r=>(Av r).map AR
theorem MY.own {s:Sc} {l:List Vl} {f:List Fd} (h:MY (.mk s l f)):Qe s l f/\Mx l/\My f:=by unfold MY at h;exact h
def scW (k:Int):Sc:=⟨k,false,false,[],0,0,0,0,0,[],[]⟩
section
abbrev KG13:=Int->Bool->Bool->B8->Int->Int->Int->Int->Int->B8->TV->TV->TV->St->Prop
def KC (K:KG13) (x:Sc) (st:St):Prop:=K x.kind x.b x.neg x.dg x.ex x.tk x.td x.tn x.tz x.text .nilSlice .nilSlice .nilSlice st
abbrev Q9:List CTy:=[.int .i64,.bool,.bool,.str,.int .i64,.int .i64,.int .i64,.int .i64,.int .i64,.str,.tv,.tv,.tv]
section
variable {a q:Int} {hd ty:Bool} {st:St}
theorem Ju {s:B8} {qd:Bool} (hl:s.length<=1000000) {K:KG13} (hk:∀st',Ap st st'->KC K (Ft ty qd s) st'):
  CallT PR BD [.str s,.bool qd,.agg [.int .u8 a,.int .u8 q,.bool hd,.bool ty]] [.agg Q9] st K:=by
 have e0:=Ap.refl st
 unfold Ft at hk
 refine Qo s qd a q hd ty st K (Al (fun g=>GG s st _ (Ab (D8 rfl rfl rfl) ?_)) fun g=>Al (fun g2=>GG s st _ (Ab (D8 rfl rfl rfl) ?_)) fun g2=>?_)
 ·have:ty=false:=by simpa using g
  rw[if_pos (.inl this)]at hk;exact hk st e0
 ·rw[if_pos (.inr g2)]at hk;exact hk st e0
 have g:ty=true:=by simpa using g
 rw[if_neg (by rw[g,g2];simp)]at hk
 have tail:s≠ []->s≠Jh->s≠HL->CallT PR Cf [.str s] [.agg [.bool,.str,.int .i64],.one (.int .i64)] st (fun (b9:Bool) (s9:B8) (n25:Int) (n26:Int) (st5:St)=>BIf (decide (n26=(0:Int))) (CallT PR FC [(.agg [(.bool b9),(.str s9),(.int .i64 n25)])] [.agg Q9] st5 (fun (n27:Int) (b10:Bool) (b11:Bool) (s10:B8) (n28:Int) (n29:Int) (n30:Int) (n31:Int) (n32:Int) (s11:B8) (v13:TV) (v14:TV) (v15:TV) (st6:St)=>need (List.all [(.int .i64 n27),(.bool b10),(.bool b11),(.str s10),(.int .i64 n28),(.int .i64 n29),(.int .i64 n30),(.int .i64 n31),(.int .i64 n32),(.str s11),v13,v14,v15] At) (K n27 b10 b11 s10 n28 n29 n30 n31 n32 s11 v13 v14 v15 st6)))
   (CallT PR CA [.str s] [.agg [.int .i64,.int .i64,.int .i64,.int .i64],.one (.int .i64)] st5 (fun (n33:Int) (n34:Int) (n35:Int) (n36:Int) (n37:Int) (st7:St)=>BIf (decide (n37=(0:Int))) (CallT PR ET [(.agg [(.int .i64 n33),(.int .i64 n34),(.int .i64 n35),(.int .i64 n36)])] [.agg Q9] st7 (fun (n38:Int) (b12:Bool) (b13:Bool) (s12:B8) (n39:Int) (n40:Int) (n41:Int) (n42:Int) (n43:Int) (s13:B8) (v16:TV) (v17:TV) (v18:TV) (st8:St)=>need (List.all [(.int .i64 n38),(.bool b12),(.bool b13),(.str s12),(.int .i64 n39),(.int .i64 n40),(.int .i64 n41),(.int .i64 n42),(.int .i64 n43),(.str s13),v16,v17,v18] At) (K n38 b12 b13 s12 n39 n40 n41 n42 n43 s13 v16 v17 v18 st8)))
    (CallT PR CE [.str s] [.agg Q9] st7 (fun (n44:Int) (b14:Bool) (b15:Bool) (s14:B8) (n45:Int) (n46:Int) (n47:Int) (n48:Int) (n49:Int) (s15:B8) (v19:TV) (v20:TV) (v21:TV) (st9:St)=>need (List.all [(.int .i64 n44),(.bool b14),(.bool b15),(.str s14),(.int .i64 n45),(.int .i64 n46),(.int .i64 n47),(.int .i64 n48),(.int .i64 n49),(.str s15),v19,v20,v21] At) (K n44 b14 b15 s14 n45 n46 n47 n48 n49 s15 v19 v20 v21 st9)))))):=by
  intro h1 h2 h3
  rw[if_neg h1,if_neg h2,if_neg h3]at hk
  refine dP_ok hl ?_
  unfold KD
  generalize dcP s=d at*
  refine Aa (fun h4=>Qg _ _ _ st _ (Ab (D8 rfl rfl rfl) ?_)) fun h4=>tP_ok hl fun st1 e1=>?_
  ·rw[if_pos h4]at hk;exact hk st e0
  rw[if_neg h4]at hk
  unfold KT
  generalize tmP s=t at*
  refine Aa (fun h5=>OU _ _ _ _ st1 _ (Ab (D8 rfl rfl rfl) ?_)) fun h5=>GG s st1 _ (Ab (D8 rfl rfl rfl) ?_)
  ·rw[if_pos h5]at hk;exact hk st1 e1
  ·rw[if_neg h5]at hk;exact hk st1 e1
 refine Aa (fun h1=>OV st _ (Ab (D8 rfl rfl rfl) ?_)) fun h1=>Aa (fun h2=>Aa (fun _=>Ka _ st _ (Ab (D8 rfl rfl rfl) ?_)) fun h=>absurd h2 h) fun h2=>Aa (fun h3=>Ka _ st _ (Ab (D8 rfl rfl rfl) ?_)) fun h3=>tail h1 h2 h3
 ·rw[if_pos h1]at hk;exact hk st e0
 ·rw[if_neg h1,if_pos (show s=Jh from h2)]at hk
  rw[decide_eq_true h2];exact hk st e0
 ·rw[if_neg h1,if_neg (show ¬s=Jh from h2),if_pos (show s=HL from h3)]at hk
  rw[decide_eq_false h2];exact hk st e0
theorem Mp {s:B8} {qd:Bool} (hl:s.length<=1000000) {K:KG13} (hk:KC K (Ft ty qd s) st):
  CallT PR AZ [.str s,.bool qd,.agg [.int .u8 a,.int .u8 q,.bool hd,.bool ty]] [.agg Q9] st K:=by
 unfold Ft at hk
 refine IV s qd a q hd ty st K (Al (fun g=>?_) fun g=>Al (fun g2=>?_) fun g2=>?_)
 ·rw[if_pos (.inr g)]at hk;exact hk
 ·have:ty=false:=by simpa using g2
  rw[if_pos (.inl this)]at hk;exact hk
 have g2:ty=true:=by simpa using g2
 rw[if_neg (by rw[g,g2];simp)]at hk
 refine⟨fun s' _ _ _ _ _ _ _ _ _ _ _ _ _ n7 b3 b4 s3 n8 n9 n10 n11 n12 s4 v4 v5 v6 st'=>s=s'/\4=n7/\false=b3/\false=b4/\[]=s3/\0=n8/\0=n9/\0=n10/\0=n11/\0=n12/\s=s4/\.nilSlice=v4/\.nilSlice=v5/\.nilSlice=v6/\st=st'/\s≠ []/\s≠Jh/\s≠HL,
  Aa (fun h1=>?_) fun h1=>Aa (fun h2=>Aa (fun _=>?_) fun h=>absurd h2 h) fun h2=>Aa (fun h3=>?_) fun h3=>⟨rfl,rfl,rfl,rfl,rfl,rfl,rfl,rfl,rfl,rfl,rfl,rfl,rfl,rfl,rfl,h1,h2,h3⟩,?_⟩
 ·rw[if_pos h1]at hk;exact hk
 ·rw[if_neg h1,if_pos (show s=Jh from h2)]at hk
  rw[decide_eq_true h2];exact hk
 ·rw[if_neg h1,if_neg (show ¬s=Jh from h2),if_pos (show s=HL from h3)]at hk
  rw[decide_eq_false h2];exact hk
 rintro _ _ _ _ _ _ _ _ _ _ _ _ _ _ _ _ _ _ _ _ _ _ _ _ _ _ _ _ ⟨rfl,rfl,rfl,rfl,rfl,rfl,rfl,rfl,rfl,rfl,rfl,rfl,rfl,rfl,rfl,h1,h2,h3⟩
 rw[if_neg h1,if_neg h2,if_neg h3]at hk
 refine Xe hl fun b2=>Aa (fun hn=>rP_ok hl ?_) fun hn=>rtP_ok hl ?_
 ·have ht:=VM hn
  rw[if_neg ht]at hk
  unfold KD
  generalize dcP s=d at*
  refine Aa (fun h4=>?_) fun h4=>Ab (D8 rfl rfl rfl) ?_
  ·rw[if_pos h4]at hk;exact hk
  ·rw[if_neg h4]at hk;exact hk
 ·have he:=(QU s).2 hn
  rw[if_neg (by omega)]at hk
  unfold KT
  generalize tmP s=t at*
  refine Aa (fun h4=>?_) fun h4=>Ab (D8 rfl rfl rfl) ?_
  ·rw[if_pos h4]at hk;exact hk
  ·rw[if_neg h4]at hk;exact hk
end
end
end Go.TVF
