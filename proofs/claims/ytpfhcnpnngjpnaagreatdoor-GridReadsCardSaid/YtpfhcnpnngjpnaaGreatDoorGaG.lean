/- What the laws below rest on: a framework for Go programs, and contracts of the functions that they reach. -/
import Derived.Test.YtpfhcnpnngjpnaaGreatDoorGaF
import Derived.Shelf.Strings.Builder2
import Derived.Shelf.Strings.Replace
import Derived.Test.YtpfhcnpnngjpnaaGreatDoorProg
set_option maxRecDepth 20000
set_option linter.unusedVariables false
set_option linter.unusedSimpArgs false
namespace Go.TVF
open Go.IntKind(i64 u8)
open Go Go.Proofs
theorem QR:∀(a b:Nd) {cs ds:List TV} (hc:NdC a cs) (hd:NdC b ds) (hcn:EG a<=1000000000000000) {st:St} {K:Bool->St->Prop} (hk1:a=b->K true st) (hk2:a≠b->K false st),
  CallT PR E9 [.agg cs,.agg ds] [.one (.bool)] st K
 | .mk k l t ks tl,.mk k' l' t' js tl',cs,ds,hc,hd,hcn,st,K,hk1,hk2=>by
  simp only[EG]at hcn
  have hkl0:=GL ks
  unfold NdC at hc hd
  obtain⟨v,xs,rfl,hr,hx⟩:=hc
  obtain⟨u,ys,rfl,hr',hy⟩:=hd
  refine PF k l t v tl k' l' t' u tl' st K (Aa (fun g=>hk2 fun h=>by cases h;exact g rfl) fun g1=>Aa (fun g=>hk2 fun h=>by cases h;exact g rfl) fun g2=>Aa (fun g=>hk2 fun h=>by cases h;exact g rfl) fun g3=>
   Aa (fun g=>hk2 fun h=>by cases h;exact g rfl) fun g4=>Ab hr.isSl (Ab hr'.isSl ?_))
  have g1:=Decidable.not_not.1 g1
  have g2:=Decidable.not_not.1 g2
  have g3:=Decidable.not_not.1 g3
  have g4:=Decidable.not_not.1 g4
  subst g1 g2 g3 g4
  rw[hr.lenS,hr'.lenS]
  refine Aa (fun g=>hk2 fun h=>by cases h;exact g rfl) fun g5=>Ab hr.isSl ?_
  have hlen:ks.length=js.length:=by omega
  refine⟨fun i n k1 l1 t1 v1 tl1 k2 l2 t2 v2 tl2 st'=>n=(ks.length:Int)/\v=v1/\u=v2/\st=st'/\∃j:Nat,i=(j:Int)/\j<=ks.length/\ks.take j=js.take j,fun i _ _ _ _ _ _ _ _ _ _ _ _=>(ks.length-i).toNat,
   ⟨rfl,rfl,rfl,rfl,0,rfl,by omega,by simp⟩,?_⟩
  rintro _ _ _ _ _ _ _ _ _ _ _ _ _ ⟨rfl,rfl,rfl,rfl,j,rfl,h1,heq⟩
  rw[hr.lenZ,hr'.lenZ,show Int.toNat (j:Int)=j from rfl]
  refine Aa (fun q=>?_) fun q=>?_
  ·have hlt:j<ks.length:=by omega
   have hlt':j<js.length:=by omega
   have hget:=List.getElem?_eq_getElem hlt
   have hget':=List.getElem?_eq_getElem hlt'
   generalize hn:ks[j]=n at hget
   generalize hm:js[j]=m at hget'
   obtain⟨k1,l1,t1,a1,tl1⟩:=n
   obtain⟨k2,l2,t2,a2,tl2⟩:=m
   have hcm:=GK ks hget
   obtain⟨u1,ys1,hld,hu1,hu2,hu3⟩:=LF hr hx F8 hget
   obtain⟨u2,ys2,hld',hv1,hv2,hv3⟩:=LF hr' hy F8 hget'
   refine⟨⟨by omega,by omega⟩,Ad hld ⟨⟨by omega,by omega⟩,Ad hld' ?_⟩⟩
   refine QR (.mk k1 l1 t1 a1 tl1) (.mk k2 l2 t2 a2 tl2) (by unfold NdC;exact⟨u1,ys1,rfl,hu1,hu2⟩) (by unfold NdC;exact⟨u2,ys2,rfl,hv1,hv2⟩) (by omega) (fun he=>?_) fun he=>?_
   ·refine Am (fun h=>by cases h) fun _=>?_
    rw[Ah ((j:Int)+1) (by omega) (by omega)]
    exact⟨⟨rfl,rfl,rfl,rfl,j+1,by omega,by omega,by rw[List.take_add_one,List.take_add_one,heq,hget,hget',he]⟩,by dsimp only;omega⟩
   ·refine Am (fun _=>hk2 fun h=>he ?_) fun h=>by cases h
    cases h
    rw[hget]at hget'
    exact Option.some.inj hget'
  ·rw[List.take_of_length_le (by omega),List.take_of_length_le (by omega)]at heq
   exact hk1 (by rw[heq])
termination_by a=>SizeOf.sizeOf a
decreasing_by
 have:=List.sizeOf_lt_of_mem (Ba hget)
 simp only[Nd.mk.sizeOf_spec]at this⊢
 omega
end Go.TVF
section
namespace Go.Proofs
open Go.Shelf
def Tryz.lays155_ren:Go.Shelf.Ren:=⟨fun | 155=>146 | 154=>226 | 138=>280 | 165=>275 | 143=>281 | 166=>196 | 197=>282 | 169=>123 | 195=>308 | 218=>309 | 240=>266 | 241=>305 | 219=>310 | 260=>311 | 276=>300 | 277=>321 | 217=>322 | 225=>323 | 224=>324 | 267=>325 | 266=>330 | 314=>331 | n=>n,fun | 9=>9 | 3=>3 | 4=>4 | 72=>188 | 0=>0 | 76=>254 | 105=>308 | 21=>21 | 5=>5 | 70=>186 | 20=>20 | 37=>59 | 75=>253 | 127=>256 | 164=>315 | 46=>267 | 119=>330 | 139=>333 | 138=>332 | 146=>319 | 51=>318 | 80=>190 | n=>n,fun | 1=>0 | 3=>1 | 4=>2 | n=>n⟩
theorem Tryz.lays155:Go.Proofs.Lays.n155 Tryz.prog Tryz.lays155_ren:={
 mixed:=by kernel_rfl
 f138:=Tryz.func280.trans (congrArg some (by kernel_rfl))
 f143:=Tryz.func281.trans (congrArg some (by kernel_rfl))
 f154:=Tryz.func226.trans (congrArg some (by kernel_rfl))
 f155:=Tryz.func146.trans (congrArg some (by kernel_rfl))
 f165:=Tryz.func275.trans (congrArg some (by kernel_rfl))
 f166:=Tryz.func196.trans (congrArg some (by kernel_rfl))
 f169:=Tryz.func123.trans (congrArg some (by kernel_rfl))
 f195:=Tryz.func308.trans (congrArg some (by kernel_rfl))
 f197:=Tryz.func282.trans (congrArg some (by kernel_rfl))
 f217:=Tryz.func322.trans (congrArg some (by kernel_rfl))
 f218:=Tryz.func309.trans (congrArg some (by kernel_rfl))
 f219:=Tryz.func310.trans (congrArg some (by kernel_rfl))
 f224:=Tryz.func324.trans (congrArg some (by kernel_rfl))
 f225:=Tryz.func323.trans (congrArg some (by kernel_rfl))
 f240:=Tryz.func266.trans (congrArg some (by kernel_rfl))
 f241:=Tryz.func305.trans (congrArg some (by kernel_rfl))
 f260:=Tryz.func311.trans (congrArg some (by kernel_rfl))
 f266:=Tryz.func330.trans (congrArg some (by kernel_rfl))
 f267:=Tryz.func325.trans (congrArg some (by kernel_rfl))
 f276:=Tryz.func300.trans (congrArg some (by kernel_rfl))
 f277:=Tryz.func321.trans (congrArg some (by kernel_rfl))
 f314:=Tryz.func331.trans (congrArg some (by kernel_rfl))
 t0:=Tryz.underlying0
 a0:=Tryz.isAgg0
 z0:=Tryz.sizeOf0
 v0:=Tryz.zeroValue0
 t3:=Tryz.underlying3
 a3:=Tryz.isAgg3
 z3:=Tryz.sizeOf3
 v3:=Tryz.zeroValue3
 t4:=Tryz.underlying4
 a4:=Tryz.isAgg4
 z4:=Tryz.sizeOf4
 v4:=Tryz.zeroValue4
 t5:=Tryz.underlying5
 a5:=Tryz.isAgg5
 z5:=Tryz.sizeOf5
 v5:=Tryz.zeroValue5
 t9:=Tryz.underlying9
 a9:=Tryz.isAgg9
 z9:=Tryz.sizeOf9
 v9:=Tryz.zeroValue9
 t20:=Tryz.underlying20
 a20:=Tryz.isAgg20
 z20:=Tryz.sizeOf20
 v20:=Tryz.zeroValue20
 t21:=Tryz.underlying21
 a21:=Tryz.isAgg21
 z21:=Tryz.sizeOf21
 v21:=Tryz.zeroValue21
 t37:=Tryz.underlying59
 a37:=Tryz.isAgg59
 z37:=Tryz.sizeOf59
 v37:=Tryz.zeroValue59
 t46:=Tryz.underlying267
 a46:=Tryz.isAgg267
 z46:=Tryz.sizeOf267
 v46:=Tryz.zeroValue267
 t51:=Tryz.underlying318
 a51:=Tryz.isAgg318
 z51:=Tryz.sizeOf318
 v51:=Tryz.zeroValue318
 t70:=Tryz.underlying186
 a70:=Tryz.isAgg186
 z70:=Tryz.sizeOf186
 v70:=Tryz.zeroValue186
 t72:=Tryz.underlying188
 a72:=Tryz.isAgg188
 z72:=Tryz.sizeOf188
 v72:=Tryz.zeroValue188
 t75:=Tryz.underlying253
 a75:=Tryz.isAgg253
 z75:=Tryz.sizeOf253
 v75:=Tryz.zeroValue253
 t76:=Tryz.underlying254
 a76:=Tryz.isAgg254
 z76:=Tryz.sizeOf254
 v76:=Tryz.zeroValue254
 t105:=Tryz.underlying308
 a105:=Tryz.isAgg308
 z105:=Tryz.sizeOf308
 v105:=Tryz.zeroValue308
 t119:=Tryz.underlying330
 a119:=Tryz.isAgg330
 z119:=Tryz.sizeOf330
 t127:=Tryz.underlying256
 a127:=Tryz.isAgg256
 z127:=Tryz.sizeOf256
 v127:=Tryz.zeroValue256
 t138:=Tryz.underlying332
 a138:=Tryz.isAgg332
 z138:=Tryz.sizeOf332
 v138:=Tryz.zeroValue332
 t139:=Tryz.underlying333
 a139:=Tryz.isAgg333
 z139:=Tryz.sizeOf333
 v139:=Tryz.zeroValue333
 t146:=Tryz.underlying319
 a146:=Tryz.isAgg319
 z146:=Tryz.sizeOf319
 v146:=Tryz.zeroValue319
 t164:=Tryz.underlying315
 a164:=Tryz.isAgg315
 z164:=Tryz.sizeOf315
 v164:=Tryz.zeroValue315
 g1:=by kernel_rfl
 g3:=by kernel_rfl
 g4:=by kernel_rfl}
theorem Tryz.Builder_Extra_155:Builder.Extra Tryz.prog Tryz.lays155_ren:={
 sizeBuilder:=by kernel_rfl
 liesBuilder:=by kernel_rfl
 t5:=Tryz.underlying5
 a5:=Tryz.isAgg5
 z5:=Tryz.sizeOf5
 v5:=Tryz.zeroValue5
 infoByte:=by kernel_rfl
 cellsByte:=by kernel_rfl
 sizeByte:=by kernel_rfl
 neB5:=by decide}
open Go.RowKit Go.Lib in
theorem Tryz.strings_ReplaceAll (s old new:ByteArray) (m:Int) (w:World) (hs:s.size<4294967281) (hm:w.cell? ⟨0,0,none⟩=some (.int .i64 m)) (h1:1<=old.size) (hlen:s.size+Lib.countB s old*new.size<=140737488355328):
  Calls Tryz.prog 146 #[.string s,.string old,.string new] w fun e w'=>
   e= .returned (.string ⟨(Lib.replaceAll s.data.toList old.data.toList new.data.toList).toArray⟩)/\Below w.heap.size w w':=Any.strings_ReplaceAll Tryz.lays155 Tryz.Builder_Extra_155 s old new m w hs hm h1 hlen
end Go.Proofs
end
section
namespace Go.TVF
open Go.IntKind(i64 u8)
open Go Go.Proofs
open Go.RowKit (Below)
def M9 (q:UInt8) (new:B8) (c:UInt8):B8:=if c=q then new else [c]
theorem Wr (q:UInt8):∀s:B8,(Lib.index s [q]= -1/\q∉s)∨∃i:Nat,Lib.index s [q]=i/\q∉s.take i/\i<s.length/\s=s.take i++q::s.drop (i+1)
 | []=> .inl ⟨by simp[Lib.index],by simp⟩
 | c::l=>by
  have hp: [q].isPrefixOf (c::l)=(q==c):=by simp[List.isPrefixOf]
  unfold Lib.index
  rw[hp]
  by_cases hc:q=c
  ·subst hc
   exact .inr ⟨0,by simp,by simp,by simp,by simp⟩
  ·have hb:(q==c)=false:=by simpa using hc
   rw[hb]
   rcases Wr q l with⟨h1,h2⟩ | ⟨i,h1,h2,h3,h4⟩
   ·left
    rw[h1]
    exact⟨by simp,by simp[hc,h2]⟩
   ·right
    refine⟨i+1,?_,?_,by simp;omega,?_⟩
    ·rw[h1]
     have:((i:Int)== -1)=false:=by simp
     simp[this]
    ·simp[hc,h2]
    ·simp only[List.take_succ_cons,List.drop_succ_cons,List.cons_append]
     rw[<-h4]
theorem Jb (q:UInt8) (new:B8):∀s:B8,q∉s->s.flatMap (M9 q new)=s
 | [],_=>rfl
 | c::l,h=>by
  simp only[List.mem_cons,not_or]at h
  rw[List.flatMap_cons,Jb q new l h.2]
  simp[M9,Ne.symm h.1]
theorem count1 (q:UInt8) (new:B8):∀(n:Nat) (s:B8),s.length<=n->Lib.count s [q]<=s.length/\Lib.replaceK [q] new (Lib.count s [q]) s=s.flatMap (M9 q new):=by
 intro n
 induction n with
 | zero=>
  intro s hs
  have:s=[]:=List.eq_nil_of_length_eq_zero (by omega)
  subst this
  rw[Lib.count_miss (by simp[Lib.index])]
  exact⟨by simp,rfl⟩
 | succ n ih=>
  intro s hs
  rcases Wr q s with⟨h1,h2⟩ | ⟨i,h1,h2,h3,h4⟩
  ·rw[Lib.count_miss h1]
   exact⟨by simp,by rw[Jb q new s h2];rfl⟩
  ·rw[Lib.count_hit (by simp) h1]
   obtain⟨c1,c2⟩:=ih (s.drop (i+1)) (by simp;omega)
   have hl: [q].length=1:=rfl
   rw[hl]
   refine⟨by simp at c1⊢;omega,?_⟩
   rw[Nat.add_comm,Lib.replaceK_hit _ _ _ _ i h1,hl,c2]
   conv=>rhs;rw[h4]
   rw[List.flatMap_append,List.flatMap_cons,Jb q new _ h2]
   simp[M9]
theorem Nn {g:Ghost} {w:World} {x y z:TV} {vs:List Value} (h:AL g w [x,y,z] vs):∃v u t,vs=[v,u,t]/\Rel g w x v/\Rel g w y u/\Rel g w z t:=by
 obtain⟨v,h1,h2⟩:=h.get? (i:=0) rfl
 obtain⟨u,h3,h4⟩:=h.get? (i:=1) rfl
 obtain⟨t,h5,h6⟩:=h.get? (i:=2) rfl
 have hl:=h.1
 match vs,hl with
 | [a,b,c],_=>simp at h1 h3 h5;subst h1 h3 h5;exact⟨_,_,_,rfl,h2,h4,h6⟩
theorem JA {s:B8} {q a b:UInt8} {st:St} {K:B8->St->Prop} (hne: [q]≠ [a,b]) (hl:s.length<=2000000000) (hk:K (s.flatMap (M9 q [a,b])) st):
  CallT PR AE [.str s,.str [q],.str [a,b]] [.one (.str)] st K:=by
 refine CZ (fun _ _=>Tryz.call146 _ _) fun g w vargs sim hr=>?_
 obtain⟨v1,v2,v3,rfl,h1,h2,h3⟩:=Nn hr
 rw[Bk h1,Bk h2,Bk h3]
 obtain⟨_,m,hm⟩:=sim.glob w sim.below
 obtain⟨c1,c2⟩:=count1 q [a,b] s.length s (Nat.le_refl _)
 have hcB:Lib.countB ⟨s.toArray⟩ ⟨#[q]⟩=Lib.count s [q]:=rfl
 refine Calls.mono (Tryz.strings_ReplaceAll ⟨s.toArray⟩ ⟨#[q]⟩ ⟨#[a,b]⟩ m w ?_ hm ?_ ?_) ?_
 ·show s.toArray.size<_
  simp;omega
 ·show 1<=(#[q]:Array UInt8).size
  simp
 ·rw[hcB]
  show s.toArray.size+_*(#[a,b]:Array UInt8).size<=_
  simp;omega
 ·rintro e w' ⟨rfl,hb⟩
  obtain⟨s',e'⟩:=sim.grown hb
  have hv:Lib.replaceAll s [q] [a,b]=s.flatMap (M9 q [a,b]):=by
   unfold Lib.replaceAll Lib.replace
   rw[if_neg (by simp),<-c2]
   congr 1
  refine⟨_,rfl,.str (s.flatMap (M9 q [a,b])),st,g,hk,s',?_,e'⟩
  show Rel g w' _ (.string ⟨(Lib.replaceAll s [q] [a,b]).toArray⟩)
  rw[hv]
  exact Rel.str _
end Go.TVF
end
namespace Go.TVF
open Go.IntKind(i64 u8)
open Go Go.Proofs
def letB (c:Int):Bool:=decide (97<=c/\c<=122∨65<=c/\c<=90)
def B2 (c:Int):Bool:=decide (97<=c/\c<=122∨65<=c/\c<=90∨48<=c/\c<=57∨c=43∨c=45∨c=46∨c=58)
def dOk (a b:Int):Bool:=decide (((a=9∨(32<=a/\a<=126))/\33<=b/\b<=126/\a≠b)/\B2 a=false/\B2 b=false)
def lOk (a b c d e:Int):Bool:=decide (1<=a/\a<=48/\1<=b/\b<=65536/\1<=c/\c<=1048576/\0<=d/\d<=1024/\0<=e/\e<=65536)
theorem Ta {c:Int} {st:St} {K:Bool->St->Prop} (hk:K (letB c) st):CallT PR EJ [.int .u8 c] [.one (.bool)] st K:=by
 unfold letB at hk
 refine Ml c st K ?_
 repeat' first
  | exact B7 (decide_eq_true (by omega)).symm hk
  | exact B7 (decide_eq_false (by omega)).symm hk
  | exact B7 (decide_eq_decide.2 (by omega)) hk
  | refine Aa (fun _=>?_) fun _=>?_
theorem Nf {c:Int} {st:St} {K:Bool->St->Prop} (hk:K (B2 c) st):CallT PR BB [.int .u8 c] [.one (.bool)] st K:=by
 unfold B2 at hk
 refine K3 c st K (Ta (Am (fun h=>?_) fun h=>?_))
 ·have h:=of_decide_eq_true h
  exact B7 (decide_eq_true (by omega)).symm hk
 ·have h:=of_decide_eq_false h
  repeat' first
   | exact B7 (decide_eq_true (by omega)).symm hk
   | exact B7 (decide_eq_false (by omega)).symm hk
   | exact B7 (decide_eq_decide.2 (by omega)) hk
   | refine Aa (fun _=>?_) fun _=>?_
theorem LN {a b:Int} {x y:Bool} {st:St} {K:Bool->St->Prop} (hk:K (dOk a b) st):CallT PR CQ [.agg [.int .u8 a,.int .u8 b,.bool x,.bool y]] [.one (.bool)] st K:=by
 unfold dOk at hk
 have no:¬(((a=9∨(32<=a/\a<=126))/\33<=b/\b<=126/\a≠b)/\B2 a=false/\B2 b=false)->K false st:=fun h=>B7 (decide_eq_false h).symm hk
 have yes:((a=9∨(32<=a/\a<=126))/\33<=b/\b<=126/\a≠b)->B2 a=false->K (!B2 b) st:=fun h h1=>by
  cases hb:B2 b with
  | true=>exact no fun hh=>by rw[hb]at hh;exact absurd hh.2.2 (by decide)
  | false=>exact B7 (decide_eq_true ⟨h,h1,hb⟩).symm hk
 refine MW a b x y st K ?_
 repeat' first
  | exact no (by omega)
  | refine Aa (fun _=>?_) fun _=>?_
 all_goals
  refine Nf (Am (fun h=>?_) fun h=>no fun hh=>by rw[hh.2.1]at h;cases h)
  simp only[Bool.not_eq_true']at h
  exact Nf (yes (by omega) h)
theorem T0 {c:Int} {st:St} {K:Bool->St->Prop} (hk:K (!B2 c) st):CallT PR A3 [.int .u8 c] [.one (.bool)] st K:=by
 have e:∀b,b= !B2 c->K b st:=fun b h=>h▸hk
 unfold B2 at e
 refine Ik c st K (U3 (Am (fun h=>RI (Am (fun h2=>?_) fun h2=>?_)) fun h=>?_))
 all_goals simp only[KI,IL,Bool.not_eq_true',Bool.not_eq_false',decide_eq_true_eq,decide_eq_false_iff_not]at h
 ·simp only[KI,IL,Bool.not_eq_true',Bool.not_eq_false',decide_eq_true_eq,decide_eq_false_iff_not]at h2
  repeat' first
   | refine Aa (fun _=>?_) fun _=>?_
  all_goals
   refine e _ ?_
   rw[<-decide_not]
   first
    | exact decide_eq_decide.2 (by omega)
    | exact(decide_eq_false (by omega)).symm
 ·simp only[KI,IL,Bool.not_eq_true',Bool.not_eq_false',decide_eq_true_eq,decide_eq_false_iff_not]at h2
  exact e _ (by rw[<-decide_not];exact(decide_eq_false (by omega)).symm)
 ·exact e _ (by rw[<-decide_not];exact(decide_eq_false (by omega)).symm)
theorem Sq {a b:Int} {x y:Bool} {st:St} {K:Bool->St->Prop} (hk:K (dOk a b) st):CallT PR Cv [.agg [.int .u8 a,.int .u8 b,.bool x,.bool y]] [.one (.bool)] st K:=by
 unfold dOk at hk
 have no:¬(((a=9∨(32<=a/\a<=126))/\33<=b/\b<=126/\a≠b)/\B2 a=false/\B2 b=false)->K false st:=fun h=>B7 (decide_eq_false h).symm hk
 have yes:((a=9∨(32<=a/\a<=126))/\33<=b/\b<=126/\a≠b)->B2 a=false->K (!B2 b) st:=fun h h1=>by
  cases hb:B2 b with
  | true=>exact no fun hh=>by rw[hb]at hh;exact absurd hh.2.2 (by decide)
  | false=>exact B7 (decide_eq_true ⟨h,h1,hb⟩).symm hk
 refine HP a b x y st K ?_
 repeat' first
  | exact no (by omega)
  | refine Aa (fun _=>?_) fun _=>?_
 all_goals
  refine T0 (Am (fun h=>?_) fun h=>no fun hh=>by rw[hh.2.1]at h;cases h)
  simp only[Bool.not_eq_true']at h
  exact T0 (yes (by omega) h)
theorem SL {a b c d e:Int} {st:St} {K:Bool->St->Prop} (hk:K (lOk a b c d e) st):CallT PR FD [.agg [.int .i64 a,.int .i64 b,.int .i64 c,.int .i64 d,.int .i64 e]] [.one (.bool)] st K:=by
 unfold lOk at hk
 refine MU a b c d e st K ?_
 repeat' first
  | exact B7 (decide_eq_false (by omega)).symm hk
  | exact B7 (decide_eq_decide.2 (by omega)) hk
  | refine Aa (fun _=>?_) fun _=>?_
theorem Sl {a b c d e:Int} {st:St} {K:Bool->St->Prop} (hk:K (lOk a b c d e) st):CallT PR Cz [.agg [.int .i64 a,.int .i64 b,.int .i64 c,.int .i64 d,.int .i64 e]] [.one (.bool)] st K:=by
 unfold lOk at hk
 refine HV a b c d e st K ?_
 repeat' first
  | exact B7 (decide_eq_false (by omega)).symm hk
  | exact B7 (decide_eq_decide.2 (by omega)) hk
  | refine Aa (fun _=>?_) fun _=>?_
def Jy:B8:=[116,114,117,101]
def Ix:B8:=[102,97,108,115,101]
def GU (ty qd:Bool) (s:B8):Sc:=
 if ty=false∨qd=true then tkT s else if s=[]then scK 0 else if s=Jy then tkB true else if s=Ix then tkB false
 else if (dcP s).2.2.2=0 then tkN (dcP s).1 (dcP s).2.1 (dcP s).2.2.1
 else if (tmP s).2.2.2.2=0 then tkM (tmP s).1 (tmP s).2.1 (tmP s).2.2.1 (tmP s).2.2.2.1 else tkT s
theorem F5 (ty qd:Bool) (s:B8):(GU ty qd s).bytes=[]:=by
 unfold GU
 repeat' split
 all_goals rfl
theorem RV {s:B8} {k:Nat} {c:UInt8} (hc:c≠0) (h:b0 s k=c):s=s.take k++c::s.drop (k+1):=by
 have hk:=KY hc h
 have h1:s.drop k=c::s.drop (k+1):=by
  rw[List.drop_eq_getElem_cons hk]
  congr 1
  unfold b0 at h
  rw[List.getD_eq_getElem?_getD,List.getElem?_eq_getElem hk]at h
  exact h
 rw[<-h1,List.take_append_drop]
theorem TN {s:B8} {k:Nat} (h:∀i,i<k->AR (b0 s i)):∀d,d∈s.take k->AR d:=by
 intro d hd
 obtain⟨i,hi,rfl⟩:=List.mem_iff_getElem.1 hd
 rw[List.length_take]at hi
 have:=h i (by omega)
 unfold b0 at this
 rw[List.getD_eq_getElem?_getD,List.getElem?_eq_getElem (by omega)]at this
 rw[List.getElem_take]
 exact this
theorem UD {s:B8} (h:(tmP s).2.2.2.2=0):(dcP s).2.2.2=3:=by
 have key:∃a c r,s=a++c::r/\a≠ []/\(∀d,d∈a->AR d)/\(c=45∨c=58):=by
  by_cases hd:Do s
  ·obtain⟨⟨h0,h1⟩,⟨h2,h3⟩,h4,_⟩:=hd
   have e:=RV (by decide) h4
   refine⟨_,_,_,e,fun h=>?_,TN fun i hi=>?_,.inl rfl⟩
   ·have:=KY (by decide) h4
    have h':=congrArg List.length h
    rw[List.length_take,List.length_nil]at h';omega
   ·have:i=0∨i=1∨i=2∨i=3:=by omega
    rcases this with rfl | rfl | rfl | rfl<;>assumption
  ·have hc:II s:=by
    apply Decidable.byContradiction
    intro hn
    unfold tmP at h
    rw[if_neg hd]at h
    have:FJ s=none:=by unfold FJ;rw[if_neg hn]
    rw[this]at h
    exact absurd h (by decide)
   obtain⟨⟨h0,h1⟩,h4,_⟩:=hc
   have e:=RV (by decide) h4
   refine⟨_,_,_,e,fun h=>?_,TN fun i hi=>?_,.inr rfl⟩
   ·have:=KY (by decide) h4
    have h':=congrArg List.length h
    rw[List.length_take,List.length_nil]at h';omega
   ·have:i=0∨i=1:=by omega
    rcases this with rfl | rfl<;>assumption
 obtain⟨a,c,r,e,h1,h2,h3⟩:=key
 have hh:AR (s.getD 0 0):=by rw[e];exact headDg h2 h1
 refine(Qi _).2 ?_
 rw[show Dw s=0 from if_neg fun e=>by rw[e]at hh;revert hh;decide,List.drop_zero,e]
 exact not_isQ h2 h3
theorem U0 {s:B8} (h:isQ (s.drop (Dw s))):(tmP s).2.2.2.2≠0:=fun h2=>by
 have h3:=UD h2
 have h4:=(Qi s).1 h
 unfold okE at h4;omega
theorem s45:B2 ((45:UInt8).toNat:Int)=true:=by decide
theorem s46:B2 ((46:UInt8).toNat:Int)=true:=by decide
theorem s58:B2 ((58:UInt8).toNat:Int)=true:=by decide
theorem s101:B2 ((101:UInt8).toNat:Int)=true:=by decide
theorem s84:B2 ((84:UInt8).toNat:Int)=true:=by decide
theorem s90:B2 ((90:UInt8).toNat:Int)=true:=by decide
theorem s43:B2 ((43:UInt8).toNat:Int)=true:=by decide
theorem s48:B2 ((48:UInt8).toNat:Int)=true:=by decide
noncomputable def plT (s:Sc):B8:=if s.kind=1 then(if s.b then Jy else Ix)else if s.kind=2 then dcT s.neg s.dg s.ex else if s.kind=3 then Sd s.tk s.td s.tn s.tz else []
def by_ (s:B8) (i:Nat):Int:=((s.getD i 0).toNat:Int)
def H8 (q:Int):B8->Nat->Option Nat
 | [],_=>none
 | [c],i=>if (c.toNat:Int)=q then some (i+1)else none
 | c::c2::l,i=>if (c.toNat:Int)=q then(if (c2.toNat:Int)=q then H8 q l (i+2)else some (i+1))else H8 q (c2::l) (i+1)
def Rp (a q:Int):B8->Nat->Except Nat Nat
 | [],i=> .ok i
 | c::l,i=>if (c.toNat:Int)=a∨(c.toNat:Int)=10∨(c.toNat:Int)=13 then .ok i else if (c.toNat:Int)=q then .error i else Rp a q l (i+1)
def QE (q:Int) (s:B8) (i:Nat):Option Nat:=H8 q (s.drop i) i
def PE (a q:Int) (s:B8) (i:Nat):Except Nat Nat:=Rp a q (s.drop i) i
theorem F3 {s:B8} {i:Nat} (h:i<s.length):∃c,s.drop i=c::s.drop (i+1)/\(c.toNat:Int)=by_ s i:=by
 refine⟨s[i],List.drop_eq_getElem_cons h,?_⟩
 unfold by_
 rw[List.getD_eq_getElem?_getD,List.getElem?_eq_getElem h];rfl
theorem Qw {q:Int} {s:B8} {i:Nat} (h:s.length<=i):QE q s i=none:=by
 unfold QE;rw[List.drop_of_length_le h];rfl
theorem N7 {q:Int} {s:B8} {i:Nat} (h:i<s.length) (hb:by_ s i≠q):QE q s i=QE q s (i+1):=by
 obtain⟨c,hd,hc⟩:=F3 h
 unfold QE
 rw[hd]
 cases hr:s.drop (i+1)with
 | nil=>simp only[H8];rw[if_neg (by omega)]
 | cons c2 l=>simp only[H8];rw[if_neg (by omega)]
theorem MM {q:Int} {s:B8} {i:Nat} (h:i<s.length) (hb:by_ s i=q) (h2:i+1<s.length->by_ s (i+1)≠q):QE q s i=some (i+1):=by
 obtain⟨c,hd,hc⟩:=F3 h
 unfold QE
 rw[hd]
 by_cases hl:i+1<s.length
 ·obtain⟨c2,hd2,hc2⟩:=F3 hl
  rw[hd2]
  simp only[H8]
  rw[if_pos (by omega),if_neg (by have:=h2 hl;omega)]
 ·rw[List.drop_of_length_le (by omega)]
  simp only[H8];rw[if_pos (by omega)]
theorem Qv {q:Int} {s:B8} {i:Nat} (h:i+1<s.length) (hb:by_ s i=q) (h2:by_ s (i+1)=q):QE q s i=QE q s (i+2):=by
 obtain⟨c,hd,hc⟩:=F3 (show i<s.length by omega)
 obtain⟨c2,hd2,hc2⟩:=F3 h
 unfold QE
 rw[hd,hd2]
 simp only[H8]
 rw[if_pos (by omega),if_pos (by omega)]
theorem N8 {a q:Int} {s:B8} {i:Nat} (h:s.length<=i):PE a q s i= .ok i:=by
 unfold PE;rw[List.drop_of_length_le h];rfl
theorem Hz {a q:Int} {s:B8} {i:Nat} (h:i<s.length) (hb:by_ s i=a∨by_ s i=10∨by_ s i=13):PE a q s i= .ok i:=by
 obtain⟨c,hd,hc⟩:=F3 h
 unfold PE;rw[hd];simp only[Rp];rw[if_pos (by rw[hc];exact hb)]
theorem Qy {a q:Int} {s:B8} {i:Nat} (h:i<s.length) (hb:¬(by_ s i=a∨by_ s i=10∨by_ s i=13)) (hq:by_ s i=q):PE a q s i= .error i:=by
 obtain⟨c,hd,hc⟩:=F3 h
 unfold PE;rw[hd];simp only[Rp];rw[if_neg (by rw[hc];exact hb),if_pos (by omega)]
theorem Qx {a q:Int} {s:B8} {i:Nat} (h:i<s.length) (hb:¬(by_ s i=a∨by_ s i=10∨by_ s i=13)) (hq:by_ s i≠q):PE a q s i=PE a q s (i+1):=by
 obtain⟨c,hd,hc⟩:=F3 h
 unfold PE;rw[hd];simp only[Rp];rw[if_neg (by rw[hc];exact hb),if_neg (by omega)]
def Bq (a q:Int) (s:B8) (i:Nat):Except (Nat×Int) Nat:=
 if i<s.length/\by_ s i=q then(match QE q s (i+1)with | some e=> .ok e | none=> .error (s.length,4))
 else match PE a q s i with | .ok e=> .ok e | .error o=> .error (o,3)
def slc (s:B8) (i e:Nat):B8:=(s.take e).drop i
def Mq (q:Int):B8->B8
 | []=>[]
 | [c]=>[c]
 | c::c2::l=>if (c.toNat:Int)=q then c::Mq q l else c::Mq q (c2::l)
def txt (q:Int) (c:B8):B8:=if c=[]∨by_ c 0≠q then c else Mq q ((c.take (c.length-1)).drop 1)
def BZ (s:B8) (i:Nat):Except (Nat×Int) Nat:=
 if s.length<=i then .ok 0 else if by_ s i=10 then .ok 1 else if by_ s i≠13 then .error (i,3)else if s.length<=i+1 then .error (s.length,4)else if by_ s (i+1)=10 then .ok 2 else .error (i,3)
def D7 (dep nod:Int) (d:Int) (i:Nat) (v:Int):Except (Nat×Int) Int:=if dep<d then .error (i,9)else if nod<=v then .error (i,10)else .ok (v+1)
structure Cx where
 s:B8
 a:Int
 q:Int
 dep:Int
 nod:Int
def DL (x:Cx) (hd:Bool) (i:Nat) (v:Int) (ns:List B8):Except (Nat×Int) (Nat×Int×List B8):=do
 let v1<-if hd then .ok v else D7 x.dep x.nod 3 i v
 let e<-Bq x.a x.q x.s i
 let t:=txt x.q (slc x.s i e)
 if (if hd then 1024 else 65536)<t.length then .error (i,10)
 else if hd/\t∈ns then .error (i,8)
 else .ok (e,v1,if hd then t::ns else ns)
def IK (s:B8) (i e:Nat) (mark:List Nd):Nd:= .mk 5 [] [] (.mk 2 [] (slc s i e) [] []::mark) []
def BM (x:Cx) (num:Bool) (wid:Int) (hd:Bool):Nat->List Nd->Nat->Int->List B8->Except (Nat×Int) (Nat×Int×List B8×List Nd)
 | 0,_,_,_,_=> .error (0,0)
 | n+1,acc,i,v,ns=>
  if num/\wid<=acc.length then .error (i,10)else do
   let (e,v1,ns1)<-DL x hd i v ns
   if e<x.s.length/\by_ x.s e=x.a then BM x num wid hd n (acc++[IK x.s i e [.mk 11 [] [x.s.getD e 0] [] []]]) (e+1) v1 ns1
   else do
    let _<-BZ x.s e
    .ok (e,v1,ns1,acc++[IK x.s i e []])
def dbl (c:UInt8) (t:B8):B8:=t.flatMap (M9 c [c,c])
theorem Cp (c b:UInt8) (t:B8):dbl c (b::t)=(if b=c then [c,c]else [b])++dbl c t:=by
 simp[dbl,M9]
theorem UV {q:Int} {c:UInt8} (hc:(c.toNat:Int)=q):∀(n:Nat) (l:B8) (i e:Nat),l.length<=n->H8 q l i=some e->∃t rest,l=dbl c t++c::rest/\e=i+(dbl c t).length+1:=by
 have heq:∀b:UInt8,(b.toNat:Int)=q↔b=c:=fun b=>⟨fun h=>UInt8.toNat_inj.1 (by omega),fun h=>by rw[h];exact hc⟩
 intro n
 induction n with
 | zero=>intro l i e hl h;have:l=[]:=List.eq_nil_of_length_eq_zero (by omega);subst this;simp[H8]at h
 | succ n ih=>
  intro l i e hl h
  match l,hl,h with
  | [],_,h=>simp[H8]at h
  | [b],_,h=>
   simp only[H8]at h
   split at h
   ·rename_i hb
    cases h
    exact⟨[],[],by rw[(heq b).1 hb];rfl,rfl⟩
   ·cases h
  | b::b2::l,hl,h=>
   simp only[H8]at h
   split at h
   ·rename_i hb
    have hb:=(heq b).1 hb
    split at h
    ·rename_i hb2
     have hb2:=(heq b2).1 hb2
     obtain⟨t,rest,h1,h2⟩:=ih l (i+2) e (by simp at hl;omega) h
     refine⟨c::t,rest,?_,?_⟩
     ·rw[hb,hb2,h1,Cp];simp
     ·rw[h2,Cp];simp;omega
    ·cases h
     exact⟨[],b2::l,by rw[hb];rfl,rfl⟩
   ·rename_i hb
    have hb:b≠c:=fun h=>hb ((heq b).2 h)
    obtain⟨t,rest,h1,h2⟩:=ih (b2::l) (i+1) e (by simp at hl⊢;omega) h
    refine⟨b::t,rest,?_,?_⟩
    ·rw[h1,Cp,if_neg hb];simp
    ·rw[h2,Cp,if_neg hb];simp;omega
theorem QO {q:Int} {c:UInt8} (hc:(c.toNat:Int)=q):∀t:B8,Mq q (dbl c t)=t
 | []=>rfl
 | b::t=>by
  have ih:=QO hc t
  rw[Cp]
  by_cases hb:b=c
  ·subst hb
   simp only[if_true,List.cons_append,List.nil_append,Mq]
   rw[if_pos hc,ih]
  ·rw[if_neg hb]
   have hb':(b.toNat:Int)≠q:=fun h=>hb (UInt8.toNat_inj.1 (by omega))
   simp only[List.cons_append,List.nil_append]
   cases hd:dbl c t with
   | nil=>rw[hd]at ih;simp only[Mq]at ih⊢;rw[<-ih]
   | cons b2 l=>simp only[Mq];rw[if_neg hb',<-hd,ih]
theorem LV (c:UInt8):∀t:B8,c∉t∨∃a b,t=a++c::b/\c∉a
 | []=> .inl (by simp)
 | d::t=>by
  by_cases h:d=c
  ·exact .inr ⟨[],t,by rw[h];rfl,by simp⟩
  ·rcases LV c t with h1 | ⟨a,b,h1,h2⟩
   ·exact .inl (by simp[Ne.symm h,h1])
   ·exact .inr ⟨d::a,b,by rw[h1];rfl,by simp[Ne.symm h,h2]⟩
theorem RL {c:UInt8} {t:B8} (h:c∉t):dbl c t=t:=Jb c [c,c] t h
theorem MI (c:UInt8) (a b:B8):dbl c (a++b)=dbl c a++dbl c b:=by simp[dbl]
theorem LG (c:UInt8) (l:B8):∀a:B8,c∉a->Lib.index (a++l) [c,c]=if Lib.index l [c,c]= -1 then-1 else Lib.index l [c,c]+a.length
 | [],_=>by simp
 | d::a,h=>by
  simp only[List.mem_cons,not_or]at h
  have hp: [c,c].isPrefixOf (d::(a++l))=false:=by simp[List.isPrefixOf,h.1]
  rw[List.cons_append,Lib.index,hp,LG c l a h.2]
  have hge:=Lib.index_ge l [c,c]
  by_cases hm:Lib.index l [c,c]= -1
  ·simp[hm]
  ·have:¬(Lib.index l [c,c]+(a.length:Int)= -1):=by omega
   simp[hm,this];omega
theorem count2 (c:UInt8):∀(n:Nat) (t:B8),t.length<=n->Lib.count (dbl c t) [c,c]<=t.length/\Lib.replaceK [c,c] [c] (Lib.count (dbl c t) [c,c]) (dbl c t)=t:=by
 intro n
 induction n with
 | zero=>
  intro t ht
  have:t=[]:=List.eq_nil_of_length_eq_zero (by omega)
  subst this
  have h0:Lib.count (dbl c []) [c,c]=0:=Lib.count_miss (by simp[dbl,Lib.index])
  rw[h0];exact⟨by simp,rfl⟩
 | succ n ih=>
  intro t ht
  rcases LV c t with h | ⟨a,b,h1,h2⟩
  ·rw[RL h]
   have:Lib.index t [c,c]= -1:=by
    have:=LG c [] t h
    simpa [Lib.index]using this
   rw[Lib.count_miss this]
   exact⟨by simp,rfl⟩
  ·have hd:dbl c t=a++(c::c::dbl c b):=by rw[h1,MI,RL h2,Cp,if_pos rfl];rfl
   have hi:Lib.index (dbl c t) [c,c]=(a.length:Nat):=by
    have h0:Lib.index (c::c::dbl c b) [c,c]=0:=by simp[Lib.index,List.isPrefixOf]
    rw[hd,LG c _ a h2,h0];simp
   have hdr:(dbl c t).drop (a.length+ [c,c].length)=dbl c b:=by
    rw[hd,<-List.drop_drop,List.drop_left];rfl
   have hlen:t.length=a.length+1+b.length:=by rw[h1];simp;omega
   obtain⟨c1,c2⟩:=ih b (by omega)
   rw[Lib.count_hit (by simp) hi,hdr]
   refine⟨by omega,?_⟩
   rw[Nat.add_comm,Lib.replaceK_hit _ _ _ _ _ hi,hdr,c2,hd,List.take_left,h1]
   simp
theorem QP {s t:B8} {c:UInt8} {st:St} {K:B8->St->Prop} (hs:s=dbl c t) (hl:s.length<=2000000000) (hk:K t st):
  CallT PR AE [.str s,.str [c,c],.str [c]] [.one (.str)] st K:=by
 refine CZ (fun _ _=>Tryz.call146 _ _) fun g w vargs sim hr=>?_
 obtain⟨v1,v2,v3,rfl,h1,h2,h3⟩:=Nn hr
 rw[Bk h1,Bk h2,Bk h3]
 obtain⟨_,m,hm⟩:=sim.glob w sim.below
 obtain⟨c1,c2⟩:=count2 c t.length t (Nat.le_refl _)
 have hcB:Lib.countB ⟨s.toArray⟩ ⟨#[c,c]⟩=Lib.count s [c,c]:=rfl
 have hts:t.length<=s.length:=by
  rw[hs]
  clear hs hl h1 c1 c2 hk hcB
  induction t with
  | nil=>simp
  | cons b t ih=>rw[Cp];split<;>simp<;>omega
 refine Calls.mono (Tryz.strings_ReplaceAll ⟨s.toArray⟩ ⟨#[c,c]⟩ ⟨#[c]⟩ m w ?_ hm ?_ ?_) ?_
 ·show s.toArray.size<_
  simp;omega
 ·show 1<=(#[c,c]:Array UInt8).size
  simp
 ·rw[hcB]
  show s.toArray.size+_*(#[c]:Array UInt8).size<=_
  rw[hs]at hl hts⊢
  simp;omega
 ·rintro e w' ⟨rfl,hb⟩
  obtain⟨s',e'⟩:=sim.grown hb
  have hv:Lib.replaceAll s [c,c] [c]=t:=by
   unfold Lib.replaceAll Lib.replace
   rw[if_neg (by simp),hs]
   exact c2
  refine⟨_,rfl,.str t,st,g,hk,s',?_,e'⟩
  show Rel g w' _ (.string ⟨(Lib.replaceAll s [c,c] [c]).toArray⟩)
  rw[hv]
  exact Rel.str _
def Mf (q:Int) (cl:B8):Prop:=cl=[]∨by_ cl 0≠q∨∃c t,(c.toNat:Int)=q/\cl=c::(dbl c t++[c])
theorem M5 {q:Int} {c:UInt8} {t:B8} (hc:(c.toNat:Int)=q):txt q (c::(dbl c t++[c]))=t:=by
 unfold txt
 rw[if_neg (by simp[by_,hc])]
 have:((c::(dbl c t++[c])).take ((c::(dbl c t++[c])).length-1)).drop 1=dbl c t:=by
  simp
 rw[this,QO hc]
theorem M8 {cl:B8} {a q:Int} {x y:Bool} (hw:Mf q cl) (hl:cl.length<=2000000) {st:St} {K:B8->Bool->St->Prop} (hk:∀st',As st st'->K (txt q cl) (decide (¬(cl=[]∨by_ cl 0≠q))) st'):
  CallT PR Ct [.str cl,.agg [.int .u8 a,.int .u8 q,.bool x,.bool y]] [.one (.str),.one (.bool)] st K:=by
 have hk:=hk st (As.refl st)
 refine Om cl a q x y st K (Aa (fun g=>?_) fun g=>⟨⟨by omega,?_⟩,Aa (fun g2=>?_) fun g2=>?_⟩)
 ·subst g
  unfold txt at hk
  simpa using hk
 ·cases cl with
  | nil=>exact absurd rfl g
  | cons b l=>simp
 ·have g2':by_ cl 0≠q:=g2
  unfold txt at hk
  rw[if_pos (.inr g2')]at hk
  simpa [g2']using hk
 ·have g2':¬by_ cl 0≠q:=g2
  rcases hw with h | h | ⟨c,t,hc,h⟩
  ·exact absurd h g
  ·exact absurd h g2'
  subst h
  rw[M5 hc]at hk
  have htb:toBytes st (.list 1 .full 1 [.int .u8 q])=some [c]:=by
   have:UInt8.ofNat q.toNat=c:=by rw[<-hc];simp
   rw[<-this];rfl
  have hlen:(c::(dbl c t++[c])).length=(dbl c t).length+2:=by simp
  rw[hlen]at hl
  have hw64:i64.wrap (((c::(dbl c t++[c])).length:Int)-1)=(((dbl c t).length+1:Nat):Int):=by
   rw[hlen,Ah _ (by omega) (by omega)];omega
  rw[htb]
  refine Ad rfl (show Af .str (.str [c]) _ from⟨⟨by omega,by rw[hw64];omega,by rw[hw64,hlen];omega⟩,by simp,?_⟩)
  rw[hw64]
  have hin:List.drop (Int.toNat 1) (List.take (Int.toNat (((dbl c t).length+1:Nat):Int)) (c::(dbl c t++[c])))=dbl c t:=by
   simp
  rw[hin]
  refine QP rfl (by omega) ?_
  simpa [g2',hc,by_]using hk
def EY (x:Cx) (num:Bool) (wid:Int) (hd:Bool) (i:Nat) (v:Int) (ns:List B8):Except (Nat×Int) (Nat×Int×List B8×Nd×Int):=do
 let v1<-if hd then .ok v else D7 x.dep x.nod 2 i v
 let (e,v2,ns2,ks)<-BM x num wid hd (x.s.length+1) [] i v1 ns
 let n<-BZ x.s e
 let wid':=if num then wid else(ks.length:Int)
 if (ks.length:Int)<wid' then .error (e,10)else .ok (e+n,v2,ns2,.mk 8 [] [] ks (slc x.s e (e+n)),wid')
def Ds (x:Cx) (hdr:Bool):Nat->List Nd->Nat->Int->List B8->Int->Except (Nat×Int) (List Nd)
 | 0,_,_,_,_,_=> .error (0,0)
 | n+1,acc,i,v,ns,wid=>
  if x.s.length<=i then .ok acc else do
   let (i',v',ns',r,wid')<-EY x (!acc.isEmpty) wid (hdr&&acc.isEmpty) i v ns
   Ds x hdr n (acc++[r]) i' v' ns' wid'
theorem Uf {s:B8} {I:Int} {i:Nat} (hI:I=(i:Int)) (hi:i<=s.length) (hl:s.length<=2000000) {st:St} {K:Int->St->Prop}
  (hk:K (match BZ s i with | .ok n=>(n:Int) | .error (_,e)=>if e=4 then-2 else-1) st):CallT PR AD [.str s,.int .i64 I] [.one (.int .i64)] st K:=by
 subst hI
 unfold BZ by_ at hk
 have hw:i64.wrap ((i:Int)+1)=((i+1:Nat):Int):=by rw[Ah _ (by omega) (by omega)];omega
 refine Il s (i:Int) st K ?_
 rw[hw,show Int.toNat (i:Int)=i from rfl,show Int.toNat ((i+1:Nat):Int)=i+1 from rfl]
 refine Aa (fun g=>?_) fun g=>⟨⟨by omega,by omega⟩,Aa (fun g2=>?_) fun g2=>⟨⟨by omega,by omega⟩,Aa (fun g3=>?_) fun g3=>Aa (fun g4=>?_) fun g4=>⟨⟨by omega,by omega⟩,Aa (fun g5=>?_) fun g5=>?_⟩⟩⟩
 ·rw[if_pos (by omega)]at hk;exact hk
 ·rw[if_neg (by omega),if_pos g2]at hk;exact hk
 ·rw[if_neg (by omega),if_neg g2,if_pos g3]at hk;exact hk
 ·rw[if_neg (by omega),if_neg g2,if_neg g3,if_pos (by omega)]at hk;exact hk
 ·rw[if_neg (by omega),if_neg g2,if_neg g3,if_neg (by omega),if_pos g5]at hk;exact hk
 ·rw[if_neg (by omega),if_neg g2,if_neg g3,if_neg (by omega),if_neg g5]at hk;exact hk
section
theorem Own.extXD {S:Nat->Prop} {b sz:Nat} {st st':St} {v:TV} {n:Nat} {xs:List TV} (h:Own b sz st v n xs) (e:StX S st st'):Own b sz st' v n xs:=by
 rcases h with h | ⟨tip,h,ht | ⟨id,h1,h2,h3,h4⟩⟩
 ·exact .inl h
 ·exact .inr ⟨tip,h,.inl ht⟩
 ·exact .inr ⟨tip,h,.inr ⟨id,h1,h2,Nat.lt_of_lt_of_le h3 e.nt,by rw[e.live _ h3];exact h4⟩⟩
theorem ldB {st:St} {b i:Nat} {l:List TV} {x:TV} (hb:st.box b= .cells l) (hx:l[i]? =some x):Ac st [] (.t (.box b i)) 0=some x:=by
 simp only[Ac,hb,Nat.add_zero];exact hx
theorem EQ {st:St} {b off:Nat} {x:TV} {l:List TV} {k:St->Prop} (hb:st.box b= .cells l) (hl:Nat.ble (off+1) l.length=true) (hk:∀st',StX (·=b) st st'->st'.box b= .cells (l.set off x)->k st'):stB st (.box b off) [x] k:=by
 have hl:=Nat.le_of_ble_eq_true hl
 refine⟨l,hb,by simpa using hl,hk _ (StX.put (S:=(·=b)) rfl _) ?_⟩
 rw[Eu]
 rfl
def Mb (st:St) (p i:Nat):Int:=match st.box p with | .cells l=>(match l[i]? with | some (TV.int _ k)=>k | _=>0) | _=>0
theorem Dt {st:St} {p i:Nat} {l:List TV} {kd:IntKind} {k:Int} (hb:st.box p= .cells l) (hx:l[i]? =some (.int kd k)):Mb st p i=k:=by
 simp only[Mb,hb,hx]
def pcl (x:Cx) (hd ty:Bool) (l2 l3 l4:Int) (m:Nat) (i n w o e:Int):List TV:=
 [.str x.s,.int .u8 x.a,.int .u8 x.q,.bool hd,.bool ty,.int .i64 x.dep,.int .i64 x.nod,.int .i64 l2,.int .i64 l3,.int .i64 l4,.int .i64 i,.int .i64 n,.int .i64 w,.map m,.int .i64 o,.int .i64 e]
structure PSD (p m:Nat) (x:Cx) (hd ty:Bool) (l2 l3 l4:Int) (ns:List B8) (i n w o e:Int) (st:St):Prop where
 ne:p≠m
 lp:p<st.nb
 lm:m<st.nb
 bx:st.box p= .cells (pcl x hd ty l2 l3 l4 m i n w o e)
 mp:∃es,st.box m= .map es/\W3 es ns
abbrev PM (p m:Nat):Nat->Prop:=fun i=>i=p∨i=m
theorem PSD.of {p m:Nat} {x:Cx} {hd ty:Bool} {l2 l3 l4:Int} {ns:List B8} {i n w o e i' n' w' o' e':Int} {st st':St} (h:PSD p m x hd ty l2 l3 l4 ns i n w o e st) (k:StX (·=p) st st')
  (b:st'.box p= .cells (pcl x hd ty l2 l3 l4 m i' n' w' o' e')):PSD p m x hd ty l2 l3 l4 ns i' n' w' o' e' st':=by
 obtain⟨es,h1,h2⟩:=h.mp
 exact⟨h.ne,Nat.lt_of_lt_of_le h.lp k.nb,Nat.lt_of_lt_of_le h.lm k.nb,b,es,by rw[k.box _ h.lm (fun g=>h.ne g.symm)];exact h1,h2⟩
theorem PSD.keep {S:Nat->Prop} {p m:Nat} {x:Cx} {hd ty:Bool} {l2 l3 l4:Int} {ns:List B8} {i n w o e:Int} {st st':St} (h:PSD p m x hd ty l2 l3 l4 ns i n w o e st) (k:StX S st st') (hp:¬S p) (hm:¬S m):
  PSD p m x hd ty l2 l3 l4 ns i n w o e st':=by
 obtain⟨es,h1,h2⟩:=h.mp
 exact⟨h.ne,Nat.lt_of_lt_of_le h.lp k.nb,Nat.lt_of_lt_of_le h.lm k.nb,by rw[k.box _ h.lp hp];exact h.bx,es,by rw[k.box _ h.lm hm];exact h1,h2⟩
theorem StX.pm {p m:Nat} {a b:St} (h:StX (·=p) a b):StX (PM p m) a b:=h.mono fun _=> .inl
section
variable {p m:Nat} {x:Cx} {hd ty:Bool} {l2 l3 l4:Int} {ns:List B8} {I n w o e:Int} {st:St}
theorem CJ {o' e':Int} {K:Bool->St->Prop} (h:PSD p m x hd ty l2 l3 l4 ns I n w o e st) (hk:∀st',StX (PM p m) st st'->PSD p m x hd ty l2 l3 l4 ns I n w o' e' st'->K false st'):
  CallT PR Ak [.box p 0,.int .i64 o',.int .i64 e'] [.one .bool] st K:=by
 refine Ig p o' e' st K (EQ h.bx rfl fun st1 e1 b1=>EQ b1 rfl fun st2 e2 b2=>?_)
 exact hk st2 (e1.trans e2).pm (h.of (e1.trans e2) b2)
theorem OW {d v:Int} {i:Nat} {K:Bool->St->Prop} (hI:I=(i:Int)) (hv0:0<=v) (hv:v<1000000000) (h:PSD p m x hd ty l2 l3 l4 ns I v w o e st)
  (h0:∀v' st',D7 x.dep x.nod d i v= .ok v'->StX (PM p m) st st'->PSD p m x hd ty l2 l3 l4 ns I v' w o e st'->K true st')
  (h1:∀(o':Nat) e' st',D7 x.dep x.nod d i v= .error (o',e')->StX (PM p m) st st'->PSD p m x hd ty l2 l3 l4 ns I v w o' e' st'->K false st'):
  CallT PR Bb [.box p 0,.int .i64 d] [.one .bool] st K:=by
 unfold D7 at h0 h1
 subst hI
 have hb:=h.bx
 refine HN p d st K ?_
 repeat' first
  | (guard_target=~need _ _;refine Ab rfl ?_)
  | (guard_target=~Ag (Ac _ _ _ _) _;refine Ad (ldB hb rfl) ?_)
  | (guard_target=~Af (.int _) _ _;refine Ar ?_)
  | (guard_target=~Af .str _ _;refine Al ?_)
  | (guard_target=~Af .bool _ _;refine Aq ?_)
 refine Aa (fun g=>?_) fun g=>?_
 ·rw[if_pos g]at h1
  repeat' first
   | (guard_target=~need _ _;refine Ab rfl ?_)
   | (guard_target=~Ag (Ac _ _ _ _) _;refine Ad (ldB hb rfl) ?_)
   | (guard_target=~Af (.int _) _ _;refine Ar ?_)
   | (guard_target=~Af .str _ _;refine Al ?_)
   | (guard_target=~Af .bool _ _;refine Aq ?_)
  exact CJ h fun st' e1 k1=>h1 _ _ st' rfl e1 k1
 rw[if_neg g]at h0 h1
 repeat' first
  | (guard_target=~need _ _;refine Ab rfl ?_)
  | (guard_target=~Ag (Ac _ _ _ _) _;refine Ad (ldB hb rfl) ?_)
  | (guard_target=~Af (.int _) _ _;refine Ar ?_)
  | (guard_target=~Af .str _ _;refine Al ?_)
  | (guard_target=~Af .bool _ _;refine Aq ?_)
 refine Aa (fun g2=>?_) fun g2=>?_
 ·rw[if_pos g2]at h1
  repeat' first
   | (guard_target=~need _ _;refine Ab rfl ?_)
   | (guard_target=~Ag (Ac _ _ _ _) _;refine Ad (ldB hb rfl) ?_)
   | (guard_target=~Af (.int _) _ _;refine Ar ?_)
   | (guard_target=~Af .str _ _;refine Al ?_)
   | (guard_target=~Af .bool _ _;refine Aq ?_)
  exact CJ h fun st' e1 k1=>h1 _ _ st' rfl e1 k1
 rw[if_neg g2]at h0
 repeat' first
  | (guard_target=~need _ _;refine Ab rfl ?_)
  | (guard_target=~Ag (Ac _ _ _ _) _;refine Ad (ldB hb rfl) ?_)
  | (guard_target=~Af (.int _) _ _;refine Ar ?_)
  | (guard_target=~Af .str _ _;refine Al ?_)
  | (guard_target=~Af .bool _ _;refine Aq ?_)
 refine EQ hb rfl fun st1 e1 b1=>?_
 rw[Ah _ (by omega) (by omega)]at b1
 exact h0 _ st1 rfl e1.pm (h.of e1 b1)
theorem Sz {i:Nat} {K:Bool->St->Prop} (hI:I=(i:Int)) (hi:i<x.s.length) (hl:x.s.length<=2000000) (h:PSD p m x hd ty l2 l3 l4 ns I n w o e st)
  (h0:∀(k:Nat) st',QE x.q x.s (i+1)=some k->StX (PM p m) st st'->PSD p m x hd ty l2 l3 l4 ns k n w o e st'->K true st')
  (h1:∀(k:Int) st',QE x.q x.s (i+1)=none->StX (PM p m) st st'->PSD p m x hd ty l2 l3 l4 ns k n w (x.s.length:Nat) 4 st'->K false st'):
  CallT PR Cg [.box p 0] [.one .bool] st K:=by
 subst hI
 have hb:=h.bx
 have tn:∀k:Nat,Int.toNat (k:Int)=k:=fun k=>rfl
 have w1:∀k:Nat,k<=x.s.length->i64.wrap ((k:Int)+1)=((k+1:Nat):Int):=fun k hk=>by rw[Ah _ (by omega) (by omega)];omega
 refine G1 p st K ?_
 repeat' first
  | (guard_target=~need _ _;refine Ab rfl ?_)
  | (guard_target=~Ag (Ac _ _ _ _) _;refine Ad (ldB hb rfl) ?_)
  | (guard_target=~Af (.int _) _ _;refine Ar ?_)
  | (guard_target=~Af .str _ _;refine Al ?_)
  | (guard_target=~Af .bool _ _;refine Aq ?_)
 refine EQ hb rfl fun st1 e1 b1=>?_
 rw[w1 i (by omega)]at b1
 refine⟨fun p' st'=>TV.box p 0=p'/\StX (PM p m) st st'/\∃k:Nat,PSD p m x hd ty l2 l3 l4 ns k n w o e st'/\i<k/\k<=x.s.length/\QE x.q x.s (i+1)=QE x.q x.s k,
  fun _ st'=>(x.s.length-Mb st' p 10).toNat,⟨rfl,e1.pm,i+1,h.of e1 b1,by omega,by omega,rfl⟩,?_⟩
 rintro _ st2 ⟨rfl,e2,k,h2,hk1,hk2,hq⟩
 have hb2:=h2.bx
 repeat' first
  | (guard_target=~need _ _;refine Ab rfl ?_)
  | (guard_target=~Ag (Ac _ _ _ _) _;refine Ad (ldB hb2 rfl) ?_)
  | (guard_target=~Af (.int _) _ _;refine Ar ?_)
  | (guard_target=~Af .str _ _;refine Al ?_)
  | (guard_target=~Af .bool _ _;refine Aq ?_)
 refine Aa (fun q1=>?_) fun q1=>?_
 ·repeat' first
   | (guard_target=~need _ _;refine Ab rfl ?_)
   | (guard_target=~Ag (Ac _ _ _ _) _;refine Ad (ldB hb2 rfl) ?_)
   | (guard_target=~Af (.int _) _ _;refine Ar ?_)
   | (guard_target=~Af .str _ _;refine Al ?_)
   | (guard_target=~Af .bool _ _;refine Aq ?_)
  refine⟨⟨by omega,by omega⟩,?_⟩
  repeat' first
   | (guard_target=~need _ _;refine Ab rfl ?_)
   | (guard_target=~Ag (Ac _ _ _ _) _;refine Ad (ldB hb2 rfl) ?_)
   | (guard_target=~Af (.int _) _ _;refine Ar ?_)
   | (guard_target=~Af .str _ _;refine Al ?_)
   | (guard_target=~Af .bool _ _;refine Aq ?_)
  rw[tn]
  refine Aa (fun q2=>?_) fun q2=>?_
  ·repeat' first
    | (guard_target=~need _ _;refine Ab rfl ?_)
    | (guard_target=~Ag (Ac _ _ _ _) _;refine Ad (ldB hb2 rfl) ?_)
    | (guard_target=~Af (.int _) _ _;refine Ar ?_)
    | (guard_target=~Af .str _ _;refine Al ?_)
    | (guard_target=~Af .bool _ _;refine Aq ?_)
   refine EQ hb2 rfl fun st3 e3 b3=>?_
   rw[w1 k (by omega)]at b3
   rw[N7 (by omega) q2]at hq
   refine⟨⟨rfl,e2.trans e3.pm,k+1,h2.of e3 b3,by omega,by omega,hq⟩,?_⟩
   dsimp only
   rw[Dt b3 rfl,Dt hb2 rfl]
   omega
  ·have q2:by_ x.s k=x.q:=Decidable.not_not.1 q2
   repeat' first
    | (guard_target=~need _ _;refine Ab rfl ?_)
    | (guard_target=~Ag (Ac _ _ _ _) _;refine Ad (ldB hb2 rfl) ?_)
    | (guard_target=~Af (.int _) _ _;refine Ar ?_)
    | (guard_target=~Af .str _ _;refine Al ?_)
    | (guard_target=~Af .bool _ _;refine Aq ?_)
   refine EQ hb2 rfl fun st3 e3 b3=>?_
   rw[w1 k (by omega)]at b3
   have h3:=h2.of e3 b3
   repeat' first
    | (guard_target=~need _ _;refine Ab rfl ?_)
    | (guard_target=~Ag (Ac _ _ _ _) _;refine Ad (ldB b3 rfl) ?_)
    | (guard_target=~Af (.int _) _ _;refine Ar ?_)
    | (guard_target=~Af .str _ _;refine Al ?_)
    | (guard_target=~Af .bool _ _;refine Aq ?_)
   refine Aa (fun q3=>?_) fun q3=>?_
   ·rw[MM (by omega) q2 (fun h=>absurd h (by omega))]at hq
    exact h0 _ st3 hq (e2.trans e3.pm) h3
   ·repeat' first
     | (guard_target=~need _ _;refine Ab rfl ?_)
     | (guard_target=~Ag (Ac _ _ _ _) _;refine Ad (ldB b3 rfl) ?_)
     | (guard_target=~Af (.int _) _ _;refine Ar ?_)
     | (guard_target=~Af .str _ _;refine Al ?_)
     | (guard_target=~Af .bool _ _;refine Aq ?_)
    refine⟨⟨by omega,by omega⟩,?_⟩
    repeat' first
     | (guard_target=~need _ _;refine Ab rfl ?_)
     | (guard_target=~Ag (Ac _ _ _ _) _;refine Ad (ldB b3 rfl) ?_)
     | (guard_target=~Af (.int _) _ _;refine Ar ?_)
     | (guard_target=~Af .str _ _;refine Al ?_)
     | (guard_target=~Af .bool _ _;refine Aq ?_)
    rw[tn]
    refine Aa (fun q4=>?_) fun q4=>?_
    ·rw[MM (by omega) q2 (fun h=>q4)]at hq
     exact h0 _ st3 hq (e2.trans e3.pm) h3
    ·repeat' first
      | (guard_target=~need _ _;refine Ab rfl ?_)
      | (guard_target=~Ag (Ac _ _ _ _) _;refine Ad (ldB b3 rfl) ?_)
      | (guard_target=~Af (.int _) _ _;refine Ar ?_)
      | (guard_target=~Af .str _ _;refine Al ?_)
      | (guard_target=~Af .bool _ _;refine Aq ?_)
     refine EQ b3 rfl fun st4 e4 b4=>?_
     rw[w1 (k+1) (by omega)]at b4
     rw[Qv (by omega) q2 (Decidable.not_not.1 q4)]at hq
     refine⟨⟨rfl,(e2.trans e3.pm).trans e4.pm,k+2,h3.of e4 b4,by omega,by omega,hq⟩,?_⟩
     dsimp only
     rw[Dt b4 rfl,Dt hb2 rfl]
     omega
 ·repeat' first
   | (guard_target=~need _ _;refine Ab rfl ?_)
   | (guard_target=~Ag (Ac _ _ _ _) _;refine Ad (ldB hb2 rfl) ?_)
   | (guard_target=~Af (.int _) _ _;refine Ar ?_)
   | (guard_target=~Af .str _ _;refine Al ?_)
   | (guard_target=~Af .bool _ _;refine Aq ?_)
  rw[Qw (i:=k) (by omega)]at hq
  exact CJ h2 fun st' e3 k3=>h1 _ st' hq (e2.trans e3) k3
end
end
def rst (s:B8) (a q:Int) (hd ty:Bool) (l0 l1 l2 l3 l4 i v off err:Int):TV:=
 .agg [.str s,.int .u8 a,.int .u8 q,.bool hd,.bool ty,.int .i64 l0,.int .i64 l1,.int .i64 l2,.int .i64 l3,.int .i64 l4,.int .i64 i,.int .i64 v,.int .i64 off,.int .i64 err]
abbrev rsh:RTy:= .agg [.str,.int .u8,.int .u8,.bool,.bool,.int .i64,.int .i64,.int .i64,.int .i64,.int .i64,.int .i64,.int .i64,.int .i64,.int .i64]
theorem DH {s:B8} {a q:Int} {hd ty:Bool} {l0 l1 l2 l3 l4 i v off err o e:Int} {st:St} {K:B8->Int->Int->Bool->Bool->Int->Int->Int->Int->Int->Int->Int->Int->Int->St->Prop}
  (h0:err=0->K s a q hd ty l0 l1 l2 l3 l4 i v o e st) (h1:err≠0->K s a q hd ty l0 l1 l2 l3 l4 i v off err st):
  CallT PR Ai [rst s a q hd ty l0 l1 l2 l3 l4 i v off err,.int .i64 o,.int .i64 e] [rsh] st K:=
 Fn s a q hd ty l0 l1 l2 l3 l4 i v off err o e st K (Aa h0 h1)
theorem Ls {s:B8} {a q:Int} {hd ty:Bool} {l0 l1 l2 l3 l4 i off d:Int} {v:Int} {k:Nat} (hi:i=(k:Int)) (hv:v<1000000000) (hv0:0<=v) {st:St} {K:B8->Int->Int->Bool->Bool->Int->Int->Int->Int->Int->Int->Int->Int->Int->St->Prop}
  (h0:∀v',D7 l0 l1 d k v= .ok v'->K s a q hd ty l0 l1 l2 l3 l4 i v' off 0 st) (h1:∀o e,D7 l0 l1 d k v= .error (o,e)->K s a q hd ty l0 l1 l2 l3 l4 i v (o:Int) e st):
  CallT PR AM [rst s a q hd ty l0 l1 l2 l3 l4 i v off 0,.int .i64 d] [rsh] st K:=by
 unfold D7 at h0 h1
 subst hi
 refine EU s a q hd ty l0 l1 l2 l3 l4 (k:Int) v off 0 d st K (Aa (fun g=>?_) fun g=>Aa (fun g2=>?_) fun g2=>?_)
 ·rw[if_pos g]at h1
  exact DH (fun _=>h1 _ _ rfl) fun h=>absurd rfl h
 ·rw[if_neg g,if_pos g2]at h1
  exact DH (fun _=>h1 _ _ rfl) fun h=>absurd rfl h
 ·rw[if_neg g,if_neg g2]at h0
  rw[Ah _ (by omega) (by omega)]
  exact h0 _ rfl
theorem QE_le {q:Int} {s:B8}:∀(n i e:Nat),s.length-i<=n->QE q s i=some e->i<e/\e<=s.length:=by
 intro n
 induction n with
 | zero=>intro i e h he;rw[Qw (by omega)]at he;cases he
 | succ n ih=>
  intro i e h he
  by_cases hi:i<s.length
  ·by_cases hb:by_ s i=q
   ·by_cases h2:i+1<s.length/\by_ s (i+1)=q
    ·rw[Qv h2.1 hb h2.2]at he
     have:=ih (i+2) e (by omega) he
     omega
    ·rw[MM hi hb (fun h3 h4=>h2 ⟨h3,h4⟩)]at he
     cases he;omega
   ·rw[N7 hi hb]at he
    have:=ih (i+1) e (by omega) he
    omega
  ·rw[Qw (by omega)]at he;cases he
theorem VU {s:B8} {a q:Int} {hd ty:Bool} {l0 l1 l2 l3 l4 I off err:Int} {v:Int} {i:Nat} (hI:I=(i:Int)) (hi:i<=s.length) (hl:s.length<=2000000) {st:St} {K:B8->Int->Int->Bool->Bool->Int->Int->Int->Int->Int->Int->Int->Int->Int->B8->St->Prop}
  (h0:∀e,Bq a q s i= .ok e->i<=e->e<=s.length->K s a q hd ty l0 l1 l2 l3 l4 (e:Int) v off err (slc s i e) st)
  (h1:∀o c (k:Nat),Bq a q s i= .error (o,c)->k<=s.length->K s a q hd ty l0 l1 l2 l3 l4 (k:Int) v (if err=0 then(o:Int)else off) (if err=0 then c else err) [] st):
  CallT PR BV [rst s a q hd ty l0 l1 l2 l3 l4 I v off err] [rsh,.one .str] st K:=by
 subst hI
 have fin:∀o c (k:Nat),Bq a q s i= .error (o,c)->k<=s.length->CallT PR Ai [rst s a q hd ty l0 l1 l2 l3 l4 (k:Int) v off err,.int .i64 (o:Int),.int .i64 c] [rsh] st
   (fun s2 n12 n13 b3 b4 n14 n15 n16 n17 n18 n19 n20 n21 n22 st2=>K s2 n12 n13 b3 b4 n14 n15 n16 n17 n18 n19 n20 n21 n22 [] st2):=fun o c k h hk=>
  DH (fun h2=>by have:=h1 o c k h hk;rwa [if_pos h2,if_pos h2]at this) fun h2=>by have:=h1 o c k h hk;rwa [if_neg h2,if_neg h2]at this
 have w1:∀k:Nat,k<=s.length->i64.wrap ((k:Int)+1)=((k+1:Nat):Int):=fun k hk=>by rw[Ah _ (by omega) (by omega)];omega
 have tn:∀k:Nat,Int.toNat (k:Int)=k:=fun k=>rfl
 refine Im s a q hd ty l0 l1 l2 l3 l4 (i:Int) v off err st K (Aa (fun g=>⟨⟨by omega,by omega⟩,Aa (fun g2=>?_) fun g2=>?_⟩) fun g=>?_)
 ·--quoted
  have hc:Bq a q s i=match QE q s (i+1)with | some e=> .ok e | none=> .error (s.length,4):=by
   unfold Bq;rw[if_pos ⟨by omega,g2⟩]<;>(cases QE q s (i+1)<;>rfl)
  rw[w1 i hi]
  refine⟨fun fr s1 n1 n2 b1 b2 n3 n4 n5 n6 n7 n8 n9 n10 n11 st1=>(i:Int)=fr/\s=s1/\a=n1/\q=n2/\hd=b1/\ty=b2/\l0=n3/\l1=n4/\l2=n5/\l3=n6/\l4=n7/\v=n9/\off=n10/\err=n11/\st=st1/\∃k:Nat,n8=(k:Int)/\i<k/\k<=s.length/\QE q s (i+1)=QE q s k,
   fun _ _ _ _ _ _ _ _ _ _ _ n8 _ _ _ _=>(s.length-n8).toNat,⟨rfl,rfl,rfl,rfl,rfl,rfl,rfl,rfl,rfl,rfl,rfl,rfl,rfl,rfl,rfl,i+1,rfl,by omega,by omega,rfl⟩,?_⟩
  rintro _ _ _ _ _ _ _ _ _ _ _ _ _ _ _ _ ⟨rfl,rfl,rfl,rfl,rfl,rfl,rfl,rfl,rfl,rfl,rfl,rfl,rfl,rfl,rfl,k,rfl,hk1,hk2,hq⟩
  rw[w1 k hk2,tn,tn]
  have stop:(k:Int)<s.length->by_ s k=q->(k+1<s.length->by_ s (k+1)≠q)->K s a q hd ty l0 l1 l2 l3 l4 ((k+1:Nat):Int) v off err (slc s i (k+1)) st:=fun h h2 h3=>by
   rw[MM (by omega) h2 h3]at hq
   rw[hq]at hc
   exact h0 _ hc (by omega) (by omega)
  refine Aa (fun q1=>⟨⟨by omega,by omega⟩,Aa (fun q2=>⟨⟨by omega,by omega⟩,Aa (fun q3=>absurd q3 q2) fun _=>?_⟩) fun q2=>Aa (fun q3=>⟨⟨by omega,by omega⟩,Aa (fun q4=>⟨⟨by omega,by omega⟩,Aa (fun q5=>?_) fun q5=>absurd (Decidable.not_not.1 q2) q5⟩) fun q4=>Aa (fun q5=>?_) fun q5=>⟨⟨by omega,by omega,by omega⟩,?_⟩⟩) fun q3=>Aa (fun q5=>?_) fun q5=>⟨⟨by omega,by omega,by omega⟩,?_⟩⟩) fun q1=>Aa (fun q5=>?_) fun q5=>absurd (by omega) q5
  ·rw[N7 (by omega) q2]at hq
   exact⟨⟨rfl,rfl,rfl,rfl,rfl,rfl,rfl,rfl,rfl,rfl,rfl,rfl,rfl,rfl,rfl,k+1,rfl,by omega,by omega,hq⟩,by dsimp only;omega⟩
  ·rw[Qv (by omega) (Decidable.not_not.1 q2) q4]at hq
   rw[w1 (k+1) (by omega)]
   exact⟨⟨rfl,rfl,rfl,rfl,rfl,rfl,rfl,rfl,rfl,rfl,rfl,rfl,rfl,rfl,rfl,k+2,rfl,by omega,by omega,hq⟩,by dsimp only;omega⟩
  ·omega
  ·exact stop q1 (Decidable.not_not.1 q2) fun _=>q4
  ·omega
  ·exact stop q1 (Decidable.not_not.1 q2) fun h=>absurd (by omega) q3
  ·refine fin s.length 4 k ?_ hk2
   rw[hc,hq,Qw (by omega)]
 all_goals
  have hc:Bq a q s i=match PE a q s i with | .ok e=> .ok e | .error o=> .error (o,3):=by
   unfold Bq
   rw[if_neg (by first | (rintro⟨_,h⟩;exact g2 h) | (rintro⟨h,_⟩;omega))]<;>(cases PE a q s i<;>rfl)
  refine⟨fun fr s1 n1 n2 b1 b2 n3 n4 n5 n6 n7 n8 n9 n10 n11 st1=>(i:Int)=fr/\s=s1/\a=n1/\q=n2/\hd=b1/\ty=b2/\l0=n3/\l1=n4/\l2=n5/\l3=n6/\l4=n7/\v=n9/\off=n10/\err=n11/\st=st1/\∃k:Nat,n8=(k:Int)/\i<=k/\k<=s.length/\PE a q s i=PE a q s k,
   fun _ _ _ _ _ _ _ _ _ _ _ n8 _ _ _ _=>(s.length-n8).toNat,⟨rfl,rfl,rfl,rfl,rfl,rfl,rfl,rfl,rfl,rfl,rfl,rfl,rfl,rfl,rfl,i,rfl,by omega,by omega,rfl⟩,?_⟩
  rintro _ _ _ _ _ _ _ _ _ _ _ _ _ _ _ _ ⟨rfl,rfl,rfl,rfl,rfl,rfl,rfl,rfl,rfl,rfl,rfl,rfl,rfl,rfl,rfl,k,rfl,hk1,hk2,hq⟩
  rw[w1 k hk2,tn]
  have stop:PE a q s k= .ok k->K s a q hd ty l0 l1 l2 l3 l4 (k:Int) v off err (slc s i k) st:=fun h=>by
   rw[h]at hq
   rw[hq]at hc
   exact h0 _ hc hk1 hk2
  refine Aa (fun q1=>⟨⟨by omega,by omega⟩,Aa (fun q2=>⟨⟨by omega,by omega⟩,Aa (fun q3=>⟨⟨by omega,by omega⟩,Aa (fun q4=>⟨⟨by omega,by omega⟩,Aa (fun q5=>?_) fun q5=>?_⟩) fun q4=>?_⟩) fun q3=>?_⟩) fun q2=>?_⟩) fun q1=>?_
  ·refine fin k 3 k ?_ hk2
   rw[hc,hq,Qy (by omega) (by rintro(h | h | h);exact q2 h;exact q3 h;exact q4 h) q5]
  ·rw[Qx (by omega) (by rintro(h | h | h);exact q2 h;exact q3 h;exact q4 h) q5]at hq
   exact⟨⟨rfl,rfl,rfl,rfl,rfl,rfl,rfl,rfl,rfl,rfl,rfl,rfl,rfl,rfl,rfl,k+1,rfl,by omega,by omega,hq⟩,by dsimp only;omega⟩
  ·exact⟨⟨by omega,by omega,by omega⟩,stop (Hz (by omega) (.inr (.inr (Decidable.not_not.1 q4))))⟩
  ·exact⟨⟨by omega,by omega,by omega⟩,stop (Hz (by omega) (.inr (.inl (Decidable.not_not.1 q3))))⟩
  ·exact⟨⟨by omega,by omega,by omega⟩,stop (Hz (by omega) (.inl (Decidable.not_not.1 q2)))⟩
  ·exact⟨⟨by omega,by omega,by omega⟩,stop (N8 (by omega))⟩
theorem IZ {s:B8} {i e:Nat} (h:i<=e) (h2:e<=s.length):(slc s i e).length=e-i:=by
 unfold slc;rw[List.length_drop,List.length_take];omega
theorem Fj {s:B8} {i e:Nat} (h:i<=e):s.drop i=slc s i e++s.drop e:=by
 unfold slc
 rw[Eo]
 have:s.drop e=(s.drop i).drop (e-i):=by rw[List.drop_drop];congr 1;omega
 rw[this,List.take_append_drop]
theorem slc_get {s:B8} {i e:Nat} (h:i<e) (h2:e<=s.length):by_ (slc s i e) 0=by_ s i:=by
 unfold by_ slc
 rw[GM,List.getD_eq_getElem?_getD,List.getD_eq_getElem?_getD,List.getElem?_take,if_pos (by omega)]
 rfl
theorem PP {s:B8} {e:Nat} (h:e<s.length):slc s e (e+1)=[s.getD e 0]:=by
 unfold slc
 rw[Eo,Pk _ _ 0 h]
 simp
theorem PE_le {a q:Int} {s:B8}:∀(n i e:Nat),s.length-i<=n->i<=s.length->PE a q s i= .ok e->i<=e/\e<=s.length/\(e<s.length->by_ s e=a∨by_ s e=10∨by_ s e=13)/\(i<e->by_ s i≠q):=by
 intro n
 induction n with
 | zero=>intro i e h hi he;rw[N8 (by omega)]at he;cases he;exact⟨by omega,by omega,fun h=>absurd h (by omega),fun h=>absurd h (by omega)⟩
 | succ n ih=>
  intro i e h hi he
  by_cases hl:i<s.length
  ·by_cases hb:by_ s i=a∨by_ s i=10∨by_ s i=13
   ·rw[Hz hl hb]at he;cases he;exact⟨by omega,by omega,fun _=>hb,fun h=>absurd h (by omega)⟩
   ·by_cases hq:by_ s i=q
    ·rw[Qy hl hb hq]at he;cases he
    ·rw[Qx hl hb hq]at he
     obtain⟨h1,h2,h3,_⟩:=ih (i+1) e (by omega) (by omega) he
     exact⟨by omega,h2,h3,fun _=>hq⟩
  ·rw[N8 (by omega)]at he;cases he;exact⟨by omega,by omega,fun h=>absurd h (by omega),fun h=>absurd h (by omega)⟩
theorem Cq {a q:Int} {s:B8} {i e:Nat} (hi:i<=s.length) (h:Bq a q s i= .ok e):i<=e/\e<=s.length:=by
 unfold Bq at h
 split at h
 ·split at h
  ·rename_i e' he;cases h;have:=QE_le _ _ _ (Nat.le_refl _) he;omega
  ·cases h
 ·split at h
  ·rename_i e' he;cases h;have:=PE_le _ _ _ (Nat.le_refl _) hi he;omega
  ·cases h
theorem byte_of (q:Int) (s:B8) (i:Nat) (h:i<s.length) (hq:by_ s i=q):∃c:UInt8,(c.toNat:Int)=q/\s.getD i 0=c:=⟨s.getD i 0,hq,rfl⟩
theorem MJ {a q:Int} {s:B8} {i e:Nat} (hi:i<=s.length) (h:Bq a q s i= .ok e):Mf q (slc s i e):=by
 unfold Bq at h
 split at h
 ·rename_i hc
  split at h
  ·rename_i e' he
   cases h
   obtain⟨c,hc1,hc2⟩:=byte_of q s i hc.1 hc.2
   obtain⟨t,rest,h1,h2⟩:=UV hc1 _ _ _ _ (Nat.le_refl _) he
   right;right
   refine⟨c,t,hc1,?_⟩
   have hle:=QE_le _ _ _ (Nat.le_refl _) he
   unfold slc
   rw[Eo,Pk _ _ 0 hc.1,hc2,h1,show e-i=(dbl c t++[c]).length+1 by simp;omega,List.take_succ_cons]
   congr 1
   rw[show dbl c t++c::rest=(dbl c t++[c])++rest by simp,List.take_left]
  ·cases h
 ·rename_i hc
  split at h
  ·rename_i e' he
   cases h
   have hle:=PE_le _ _ _ (Nat.le_refl _) hi he
   by_cases hlt:i<e
   ·right;left
    rw[slc_get hlt hle.2.1]
    exact hle.2.2.2 hlt
   ·left
    apply List.eq_nil_of_length_eq_zero
    rw[IZ hle.1 hle.2.1];omega
  ·cases h
theorem Vy (q:Int):∀(n:Nat) (l:B8),l.length<=n->(Mq q l).length<=l.length:=by
 intro n
 induction n with
 | zero=>intro l h;have:l=[]:=List.eq_nil_of_length_eq_zero (by omega);subst this;simp[Mq]
 | succ n ih=>
  intro l h
  match l,h with
  | [],_=>simp[Mq]
  | [c],_=>simp[Mq]
  | c::c2::l,h=>
   simp only[Mq]
   split
   ·have:=ih l (by simp at h;omega);simp;omega
   ·have:=ih (c2::l) (by simp at h⊢;omega);simp at this⊢;omega
theorem txt_len (q:Int) (c:B8):(txt q c).length<=c.length:=by
 unfold txt
 split
 ·omega
 ·have:=Vy q _ ((c.take (c.length-1)).drop 1) (Nat.le_refl _)
  simp at this⊢;omega
theorem Ey {s:B8} {e n:Nat} (he:e<=s.length) (h:BZ s e= .ok n):e+n<=s.length/\(n=0->e=s.length)/\(0<n->by_ s (e+n-1)=10)/\(e<s.length->by_ s e=10∨by_ s e=13):=by
 unfold BZ at h
 split at h
 ·cases h;exact⟨by omega,fun _=>by omega,fun h=>by omega,fun h=>by omega⟩
 split at h
 ·rename_i h1 h2;cases h;exact⟨by omega,fun h=>by omega,fun _=>by simpa using h2,fun _=> .inl h2⟩
 split at h
 ·cases h
 split at h
 ·cases h
 split at h
 ·rename_i h1 h2 h3 h4 h5;cases h;exact⟨by omega,fun h=>by omega,fun _=>by simpa using h5,fun _=> .inr (Decidable.not_not.1 h3)⟩
 ·cases h
inductive Ib (a q:Int) (s:B8):Nat->List Nd->Nat->Nat->Prop where
 | last {i e n:Nat}:Bq a q s i= .ok e->¬(e<s.length/\by_ s e=a)->BZ s e= .ok n->Ib a q s i [IK s i e []] e n
 | more {i e f n:Nat} {ks:List Nd}:Bq a q s i= .ok e->e<s.length->by_ s e=a->Ib a q s (e+1) ks f n->Ib a q s i (IK s i e [.mk 11 [] [s.getD e 0] [] []]::ks) f n
inductive IT (a q:Int) (s:B8):Nat->List Nd->Prop where
 | nil {i:Nat}:s.length<=i->IT a q s i []
 | cons {i e n:Nat} {ks rs:List Nd}:i<s.length->Ib a q s i ks e n->IT a q s (e+n) rs->IT a q s i (.mk 8 [] [] ks (slc s e (e+n))::rs)
theorem Ib.le {a q:Int} {s:B8} {i:Nat} {ks:List Nd} {e n:Nat} (h:Ib a q s i ks e n):i<=s.length->i<=e/\e+n<=s.length/\1<=ks.length/\ks.length<=e-i+1/\BZ s e= .ok n:=by
 induction h with
 | last h1 h2 h3=>intro hi;have:=Cq hi h1;have:=Ey this.2 h3;exact⟨by omega,by omega,by simp,by simp,h3⟩
 | more h1 h2 h3 h4 ih=>intro hi;have:=Cq hi h1;have ih:=ih (by omega);refine⟨by omega,by omega,by simp,?_,ih.2.2.2.2⟩;rw[List.length_cons];omega
theorem Ib.text {a q:Int} {s:B8} {i:Nat} {ks:List Nd} {e n:Nat} (h:Ib a q s i ks e n):i<=s.length->Fz ks=slc s i e:=by
 induction h with
 | last h1 h2 h3=>intro hi;simp[Fz,Dd,IK]
 | @more i e e' n ks h1 h2 h3 h4 ih=>
  intro hi
  have hl:=Cq hi h1
  have hl2:=h4.le (by omega)
  simp only[Fz,Dd,IK,List.nil_append,List.append_nil]
  rw[ih (by omega),<-PP h2]
  have e1:=Fj (s:=s) (i:=i) (e:=e') (by omega)
  have e2:=Fj (s:=s) (i:=i) (e:=e) (by omega)
  have e3:=Fj (s:=s) (i:=e) (e:=e+1) (by omega)
  have e4:=Fj (s:=s) (i:=e+1) (e:=e') (by omega)
  rw[e2,e3,e4,<-List.append_assoc,<-List.append_assoc]at e1
  have:=List.append_inj_left' e1 rfl
  rw[<-this,List.append_assoc]
theorem IT.text {a q:Int} {s:B8} {i:Nat} {rs:List Nd} (h:IT a q s i rs):i<=s.length->Fz rs=s.drop i:=by
 induction h with
 | nil h=>intro hi;rw[List.drop_of_length_le h];rfl
 | @cons i e n ks rs h1 h2 h3 ih=>
  intro hi
  have hl:=h2.le (by omega)
  simp only[Fz,Dd,List.nil_append]
  rw[ih (by omega),h2.text (by omega),List.append_assoc,<-Fj (by omega),<-Fj (by omega)]
def Vq (a q:Int) (n:Nd):Prop:=∃c mark,n= .mk 5 [] [] (.mk 2 [] c [] []::mark) []/\Mf q c/\(mark=[]∨∃b:UInt8,(b.toNat:Int)=a/\mark=[.mk 11 [] [b] [] []])
def RecF (a q:Int) (n:Nd):Prop:=∃ks t,n= .mk 8 [] [] ks t/\1<=ks.length/\∀k∈ks,Vq a q k
theorem Ib.form {a q:Int} {s:B8} {i:Nat} {ks:List Nd} {e n:Nat} (h:Ib a q s i ks e n):i<=s.length->∀k∈ks,Vq a q k:=by
 induction h with
 | last h1 h2 h3=>intro hi k hk;rw[List.mem_singleton]at hk;subst hk;exact⟨_,_,rfl,MJ hi h1,.inl rfl⟩
 | @more i e e' n ks h1 h2 h3 h4 ih=>
  intro hi k hk
  have hl:=Cq hi h1
  rcases List.mem_cons.1 hk with rfl | hk
  ·exact⟨_,_,rfl,MJ hi h1,.inr ⟨s.getD e 0,h3,rfl⟩⟩
  ·exact ih (by omega) k hk
theorem IT.form {a q:Int} {s:B8} {i:Nat} {rs:List Nd} (h:IT a q s i rs):i<=s.length->∀r∈rs,RecF a q r:=by
 induction h with
 | nil h=>intro hi r hr;cases hr
 | @cons i e n ks rs h1 h2 h3 ih=>
  intro hi r hr
  have hl:=h2.le (by omega)
  rcases List.mem_cons.1 hr with rfl | hr
  ·exact⟨_,_,rfl,hl.2.2.1,h2.form (by omega)⟩
  ·exact ih (by omega) r hr
section
theorem ldsB {st:St} {b i n:Nat} {l xs:List TV} (hb:st.box b= .cells l) (hx:(l.drop i).take n=xs) (hn:xs.length=n):Aj st [] (.t (.box b i)) 0 n=some xs:=by
 have gen:∀n j,j+n<=(l.drop i).length->Aj st [] (.t (.box b i)) j n=some (((l.drop i).drop j).take n):=by
  intro n
  induction n with
  | zero=>intro j h;simp[Aj]
  | succ n ih=>
   intro j h
   have hj:j<(l.drop i).length:=by omega
   have h1:Ac st [] (.t (.box b i)) j=some (l.drop i)[j]:=by
    simp only[Ac,hb]
    rw[List.getElem_drop,List.getElem?_eq_getElem]
   simp only[Aj,h1,ih (j+1) (by omega)]
   rw[List.drop_eq_getElem_cons hj]
   rfl
 rw[gen n 0 (by rw[<-hx,List.length_take]at hn;omega),<-hx]
 rfl
section
variable {p m:Nat} {x:Cx} {hd ty:Bool} {l2 l3 l4:Int} {ns:List B8} {I n w o e:Int} {st:St}
theorem V0 {i:Nat} {K:Bool->St->Prop} (hI:I=(i:Int)) (hi:i<=x.s.length) (hl:x.s.length<=2000000) (h:PSD p m x hd ty l2 l3 l4 ns I n w o e st)
  (h0:∀(k:Nat) st',Bq x.a x.q x.s i= .ok k->StX (PM p m) st st'->PSD p m x hd ty l2 l3 l4 ns k n w o e st'->K true st')
  (h1:∀(o':Nat) e' (k:Int) st',Bq x.a x.q x.s i= .error (o',e')->StX (PM p m) st st'->PSD p m x hd ty l2 l3 l4 ns k n w o' e' st'->K false st'):
  CallT PR BT [.box p 0] [.one .bool] st K:=by
 subst hI
 have hb:=h.bx
 have tn:∀k:Nat,Int.toNat (k:Int)=k:=fun k=>rfl
 have w1:∀k:Nat,k<=x.s.length->i64.wrap ((k:Int)+1)=((k+1:Nat):Int):=fun k hk=>by rw[Ah _ (by omega) (by omega)];omega
 have loop:∀k:Nat,(i<x.s.length/\by_ x.s i=x.q->False)->Bq x.a x.q x.s i=match PE x.a x.q x.s i with | .ok e=> .ok e | .error o=> .error (o,3):=fun k hc=>by
  unfold Bq;rw[if_neg hc]<;>(cases PE x.a x.q x.s i<;>rfl)
 refine Ih p st K ?_
 repeat' first
  | (guard_target=~need _ _;refine Ab rfl ?_)
  | (guard_target=~Ag (Ac _ _ _ _) _;refine Ad (ldB hb rfl) ?_)
  | (guard_target=~Af (.int _) _ _;refine Ar ?_)
  | (guard_target=~Af .str _ _;refine Al ?_)
  | (guard_target=~Af .bool _ _;refine Aq ?_)
 refine Aa (fun g=>?_) fun g=>?_
 ·repeat' first
   | (guard_target=~need _ _;refine Ab rfl ?_)
   | (guard_target=~Ag (Ac _ _ _ _) _;refine Ad (ldB hb rfl) ?_)
   | (guard_target=~Af (.int _) _ _;refine Ar ?_)
   | (guard_target=~Af .str _ _;refine Al ?_)
   | (guard_target=~Af .bool _ _;refine Aq ?_)
  refine⟨⟨by omega,by omega⟩,?_⟩
  repeat' first
   | (guard_target=~need _ _;refine Ab rfl ?_)
   | (guard_target=~Ag (Ac _ _ _ _) _;refine Ad (ldB hb rfl) ?_)
   | (guard_target=~Af (.int _) _ _;refine Ar ?_)
   | (guard_target=~Af .str _ _;refine Al ?_)
   | (guard_target=~Af .bool _ _;refine Aq ?_)
  rw[tn]
  refine Aa (fun g2=>?_) fun g2=>?_
  ·have hc:Bq x.a x.q x.s i=match QE x.q x.s (i+1)with | some e=> .ok e | none=> .error (x.s.length,4):=by
    unfold Bq;rw[if_pos ⟨by omega,g2⟩]<;>(cases QE x.q x.s (i+1)<;>rfl)
   exact Sz rfl (by omega) hl h (fun k st' hq=>h0 k st' (by rw[hc,hq])) fun k st' hq=>h1 _ _ k st' (by rw[hc,hq])
  have hc:=loop i fun hh=>g2 hh.2
  refine⟨fun p' st'=>TV.box p 0=p'/\StX (PM p m) st st'/\∃k:Nat,PSD p m x hd ty l2 l3 l4 ns k n w o e st'/\k<=x.s.length/\PE x.a x.q x.s i=PE x.a x.q x.s k,
   fun _ st'=>(x.s.length-Mb st' p 10).toNat,⟨rfl,StX.refl _ _,i,h,by omega,rfl⟩,?_⟩
  rintro _ st2 ⟨rfl,e2,k,h2,hk2,hq⟩
  have hb2:=h2.bx
  have next:¬(by_ x.s k=x.a∨by_ x.s k=10∨by_ x.s k=13)->k<x.s.length->by_ x.s k≠x.q->∀st3,StX (·=p) st2 st3->st3.box p= .cells ((pcl x hd ty l2 l3 l4 m k n w o e).set 10 (.int .i64 (i64.wrap ((k:Int)+1))))->
    (TV.box p 0=TV.box p 0/\StX (PM p m) st st3/\∃k:Nat,PSD p m x hd ty l2 l3 l4 ns k n w o e st3/\k<=x.s.length/\PE x.a x.q x.s i=PE x.a x.q x.s k)/\(x.s.length-Mb st3 p 10).toNat<(x.s.length-Mb st2 p 10).toNat:=fun c1 c2 c3 st3 e3 b3=>by
   rw[w1 k (by omega)]at b3
   rw[Qx c2 c1 c3]at hq
   refine⟨⟨rfl,e2.trans e3.pm,k+1,h2.of e3 b3,by omega,hq⟩,?_⟩
   rw[Dt b3 rfl,Dt hb2 rfl]
   omega
  repeat' first
   | (guard_target=~need _ _;refine Ab rfl ?_)
   | (guard_target=~Ag (Ac _ _ _ _) _;refine Ad (ldB hb2 rfl) ?_)
   | (guard_target=~Af (.int _) _ _;refine Ar ?_)
   | (guard_target=~Af .str _ _;refine Al ?_)
   | (guard_target=~Af .bool _ _;refine Aq ?_)
  refine Aa (fun q1=>?_) fun q1=>?_
  ·repeat' first
    | (guard_target=~need _ _;refine Ab rfl ?_)
    | (guard_target=~Ag (Ac _ _ _ _) _;refine Ad (ldB hb2 rfl) ?_)
    | (guard_target=~Af (.int _) _ _;refine Ar ?_)
    | (guard_target=~Af .str _ _;refine Al ?_)
    | (guard_target=~Af .bool _ _;refine Aq ?_)
   refine⟨⟨by omega,by omega⟩,?_⟩
   repeat' first
    | (guard_target=~need _ _;refine Ab rfl ?_)
    | (guard_target=~Ag (Ac _ _ _ _) _;refine Ad (ldB hb2 rfl) ?_)
    | (guard_target=~Af (.int _) _ _;refine Ar ?_)
    | (guard_target=~Af .str _ _;refine Al ?_)
    | (guard_target=~Af .bool _ _;refine Aq ?_)
   rw[tn]
   refine Aa (fun q2=>Aa (fun _=>?_) fun q3=>absurd q2 q3) fun q2=>Aa (fun q3=>Aa (fun _=>?_) fun q4=>absurd q3 q4) fun q3=>Aa (fun q4=>?_) fun q4=>?_
   ·rw[Hz (by omega) (.inl q2)]at hq;exact h0 k st2 (by rw[hc,hq]) e2 h2
   ·rw[Hz (by omega) (.inr (.inl q3))]at hq;exact h0 k st2 (by rw[hc,hq]) e2 h2
   ·rw[Hz (by omega) (.inr (.inr q4))]at hq;exact h0 k st2 (by rw[hc,hq]) e2 h2
   ·have hno:¬(by_ x.s k=x.a∨by_ x.s k=10∨by_ x.s k=13):=by rintro(h | h | h);exact q2 h;exact q3 h;exact q4 h
    repeat' first
     | (guard_target=~need _ _;refine Ab rfl ?_)
     | (guard_target=~Ag (Ac _ _ _ _) _;refine Ad (ldB hb2 rfl) ?_)
     | (guard_target=~Af (.int _) _ _;refine Ar ?_)
     | (guard_target=~Af .str _ _;refine Al ?_)
     | (guard_target=~Af .bool _ _;refine Aq ?_)
    refine Aa (fun q5=>?_) fun q5=>?_
    ·repeat' first
      | (guard_target=~need _ _;refine Ab rfl ?_)
      | (guard_target=~Ag (Ac _ _ _ _) _;refine Ad (ldB hb2 rfl) ?_)
      | (guard_target=~Af (.int _) _ _;refine Ar ?_)
      | (guard_target=~Af .str _ _;refine Al ?_)
      | (guard_target=~Af .bool _ _;refine Aq ?_)
     rw[Qy (by omega) hno q5]at hq
     exact CJ h2 fun st' e3 k3=>h1 _ _ _ st' (by rw[hc,hq]) (e2.trans e3) k3
    ·repeat' first
      | (guard_target=~need _ _;refine Ab rfl ?_)
      | (guard_target=~Ag (Ac _ _ _ _) _;refine Ad (ldB hb2 rfl) ?_)
      | (guard_target=~Af (.int _) _ _;refine Ar ?_)
      | (guard_target=~Af .str _ _;refine Al ?_)
      | (guard_target=~Af .bool _ _;refine Aq ?_)
     exact EQ hb2 rfl fun st3 e3 b3=>next hno (by omega) q5 st3 e3 b3
  ·rw[N8 (i:=k) (by omega)]at hq;exact h0 k st2 (by rw[hc,hq]) e2 h2
 ·--at the end
  have hc:=loop i fun hh=>by omega
  rw[N8 (i:=i) (by omega)]at hc
  refine⟨fun p' st'=>TV.box p 0=p'/\st=st',fun _ st'=>0,⟨rfl,rfl⟩,?_⟩
  rintro _ _ ⟨rfl,rfl⟩
  repeat' first
   | (guard_target=~need _ _;refine Ab rfl ?_)
   | (guard_target=~Ag (Ac _ _ _ _) _;refine Ad (ldB hb rfl) ?_)
   | (guard_target=~Af (.int _) _ _;refine Ar ?_)
   | (guard_target=~Af .str _ _;refine Al ?_)
   | (guard_target=~Af .bool _ _;refine Aq ?_)
  refine Aa (fun q1=>absurd q1 g) fun q1=>?_
  exact h0 i st hc (StX.refl _ _) h
abbrev PM3 (p m r:Nat):Nat->Prop:=fun i=>i=p∨i=m∨i=r
theorem StX.pm3 {p m r:Nat} {a b:St} (h:StX (PM p m) a b):StX (PM3 p m r) a b:=h.mono fun _ g=>g.elim .inl fun g=> .inr (.inl g)
theorem PSD.other {p m r:Nat} {x:Cx} {hd ty:Bool} {l2 l3 l4:Int} {ns:List B8} {i n w o e:Int} {st st':St} (h:PSD p m x hd ty l2 l3 l4 ns i n w o e st) (k:StX (·=r) st st') (hp:p≠r) (hm:m≠r):
  PSD p m x hd ty l2 l3 l4 ns i n w o e st':=h.keep k hp hm
theorem Rn {i r:Nat} {c0 c1 c2 c3:TV} {K:Bool->St->Prop} (hI:I=(i:Int)) (hi:i<=x.s.length) (hl:x.s.length<=2000000) (h:PSD p m x hd ty l2 l3 l4 ns I n w o e st)
  (hrp:p≠r) (hrm:m≠r) (hrl:r<st.nb) (hr:st.box r= .cells [c0,c1,c2,c3,.str []])
  (h0:∀(k:Nat) st',BZ x.s i= .ok k->StX (PM3 p m r) st st'->PSD p m x hd ty l2 l3 l4 ns ((i+k:Nat):Int) n w o e st'->st'.box r= .cells [c0,c1,c2,c3,.str (slc x.s i (i+k))]->K true st')
  (h1:∀(o':Nat) e' (k:Int) st',BZ x.s i= .error (o',e')->StX (PM3 p m r) st st'->PSD p m x hd ty l2 l3 l4 ns k n w o' e' st'->st'.box r= .cells [c0,c1,c2,c3,.str []]->K false st'):
  CallT PR AH [.box p 0,.box r 0] [.one .bool] st K:=by
 subst hI
 have hb:=h.bx
 have tn:∀k:Nat,Int.toNat (k:Int)=k:=fun k=>rfl
 have w1:∀k:Nat,k<=x.s.length->i64.wrap ((k:Int)+1)=((k+1:Nat):Int):=fun k hk=>by rw[Ah _ (by omega) (by omega)];omega
 have rk:∀st',StX (·=p) st st'->st'.box r= .cells [c0,c1,c2,c3,.str []]:=fun st' e=>by rw[e.box r hrl (fun h=>hrp h.symm)];exact hr
 have rk2:∀st',StX (PM p m) st st'->st'.box r= .cells [c0,c1,c2,c3,.str []]:=fun st' e=>by rw[e.box r hrl (fun h=>h.elim (fun h=>hrp h.symm) fun h=>hrm h.symm)];exact hr
 have hp3:∀st1 st2,StX (PM p m) st st1->StX (·=r) st1 st2->StX (PM3 p m r) st st2:=fun st1 st2 e1 e2=>e1.pm3.trans (e2.mono fun _ g=> .inr (.inr g))
 unfold BZ at h0 h1
 refine GA p r st K ?_
 repeat' first
  | (guard_target=~need _ _;refine Ab rfl ?_)
  | (guard_target=~Ag (Ac _ _ _ _) _;refine Ad (ldB hb rfl) ?_)
  | (guard_target=~Af (.int _) _ _;refine Ar ?_)
  | (guard_target=~Af .str _ _;refine Al ?_)
  | (guard_target=~Af .bool _ _;refine Aq ?_)
 refine Aa (fun g=>?_) fun g=>?_
 ·rw[if_pos (by omega)]at h0
  refine h0 0 st rfl (StX.refl _ _) h ?_
  rw[hr]
  have:slc x.s i (i+0)=[]:=List.eq_nil_of_length_eq_zero (by rw[IZ (by omega) (by omega)];omega)
  rw[this]
 rw[if_neg (by omega)]at h0 h1
 repeat' first
  | (guard_target=~need _ _;refine Ab rfl ?_)
  | (guard_target=~Ag (Ac _ _ _ _) _;refine Ad (ldB hb rfl) ?_)
  | (guard_target=~Af (.int _) _ _;refine Ar ?_)
  | (guard_target=~Af .str _ _;refine Al ?_)
  | (guard_target=~Af .bool _ _;refine Aq ?_)
 refine⟨⟨by omega,by omega⟩,?_⟩
 rw[tn]
 refine Aa (fun g2=>?_) fun g2=>Aa (fun g3=>?_) fun g3=>?_
 ·have g2':by_ x.s i=13:=g2
  rw[if_neg (by omega),if_neg (by omega)]at h0 h1
  repeat' first
   | (guard_target=~need _ _;refine Ab rfl ?_)
   | (guard_target=~Ag (Ac _ _ _ _) _;refine Ad (ldB hb rfl) ?_)
   | (guard_target=~Af (.int _) _ _;refine Ar ?_)
   | (guard_target=~Af .str _ _;refine Al ?_)
   | (guard_target=~Af .bool _ _;refine Aq ?_)
  refine EQ hb rfl fun st1 e1 b1=>?_
  rw[w1 i (by omega)]at b1
  have k1:=h.of e1 b1
  repeat' first
   | (guard_target=~need _ _;refine Ab rfl ?_)
   | (guard_target=~Ag (Ac _ _ _ _) _;refine Ad (ldB b1 rfl) ?_)
   | (guard_target=~Af (.int _) _ _;refine Ar ?_)
   | (guard_target=~Af .str _ _;refine Al ?_)
   | (guard_target=~Af .bool _ _;refine Aq ?_)
  refine Aa (fun g3=>?_) fun g3=>?_
  ·rw[if_pos (by omega)]at h1
   repeat' first
    | (guard_target=~need _ _;refine Ab rfl ?_)
    | (guard_target=~Ag (Ac _ _ _ _) _;refine Ad (ldB b1 rfl) ?_)
    | (guard_target=~Af (.int _) _ _;refine Ar ?_)
    | (guard_target=~Af .str _ _;refine Al ?_)
    | (guard_target=~Af .bool _ _;refine Aq ?_)
   have e3:((i+1:Nat):Int)=(x.s.length:Int):=g3
   rw[e3]
   exact CJ k1 fun st2 e2 k2=>h1 _ _ _ st2 rfl (e1.pm.trans e2).pm3 k2 (rk2 _ (e1.pm.trans e2))
  rw[if_neg (by omega)]at h0 h1
  repeat' first
   | (guard_target=~need _ _;refine Ab rfl ?_)
   | (guard_target=~Ag (Ac _ _ _ _) _;refine Ad (ldB b1 rfl) ?_)
   | (guard_target=~Af (.int _) _ _;refine Ar ?_)
   | (guard_target=~Af .str _ _;refine Al ?_)
   | (guard_target=~Af .bool _ _;refine Aq ?_)
  refine⟨⟨by omega,by omega⟩,?_⟩
  rw[tn]
  refine Aa (fun g4=>?_) fun g4=>?_
  ·have g4':by_ x.s (i+1)≠10:=g4
   rw[if_neg g4']at h1
   exact CJ k1 fun st2 e2 k2=>h1 _ _ _ st2 rfl (e1.pm.trans e2).pm3 k2 (rk2 _ (e1.pm.trans e2))
  ·have g4':by_ x.s (i+1)=10:=Decidable.not_not.1 g4
   rw[if_pos g4']at h0
   repeat' first
    | (guard_target=~need _ _;refine Ab rfl ?_)
    | (guard_target=~Ag (Ac _ _ _ _) _;refine Ad (ldB b1 rfl) ?_)
    | (guard_target=~Af (.int _) _ _;refine Ar ?_)
    | (guard_target=~Af .str _ _;refine Al ?_)
    | (guard_target=~Af .bool _ _;refine Aq ?_)
   refine EQ b1 rfl fun st2 e2 b2=>?_
   rw[w1 (i+1) (by omega)]at b2
   have k2:=k1.of e2 b2
   repeat' first
    | (guard_target=~need _ _;refine Ab rfl ?_)
    | (guard_target=~Ag (Ac _ _ _ _) _;refine Ad (ldB b2 rfl) ?_)
    | (guard_target=~Af (.int _) _ _;refine Ar ?_)
    | (guard_target=~Af .str _ _;refine Al ?_)
    | (guard_target=~Af .bool _ _;refine Aq ?_)
   refine⟨⟨by omega,by omega,by omega⟩,EQ (rk st2 (e1.trans e2)) rfl fun st3 e3 b3=>?_⟩
   exact h0 2 st3 rfl (hp3 _ _ (e1.pm.trans e2.pm) e3) (k2.other e3 hrp hrm) b3
 ·have g3':by_ x.s i=10:=g3
  rw[if_pos g3']at h0
  repeat' first
   | (guard_target=~need _ _;refine Ab rfl ?_)
   | (guard_target=~Ag (Ac _ _ _ _) _;refine Ad (ldB hb rfl) ?_)
   | (guard_target=~Af (.int _) _ _;refine Ar ?_)
   | (guard_target=~Af .str _ _;refine Al ?_)
   | (guard_target=~Af .bool _ _;refine Aq ?_)
  refine EQ hb rfl fun st1 e1 b1=>?_
  rw[w1 i (by omega)]at b1
  have k1:=h.of e1 b1
  repeat' first
   | (guard_target=~need _ _;refine Ab rfl ?_)
   | (guard_target=~Ag (Ac _ _ _ _) _;refine Ad (ldB b1 rfl) ?_)
   | (guard_target=~Af (.int _) _ _;refine Ar ?_)
   | (guard_target=~Af .str _ _;refine Al ?_)
   | (guard_target=~Af .bool _ _;refine Aq ?_)
  refine⟨⟨by omega,by omega,by omega⟩,EQ (rk st1 e1) rfl fun st3 e3 b3=>?_⟩
  exact h0 1 st3 rfl (hp3 _ _ e1.pm e3) (k1.other e3 hrp hrm) b3
 ·have g2':by_ x.s i≠13:=g2
  have g3':by_ x.s i≠10:=g3
  rw[if_neg g3',if_pos g2']at h1
  exact CJ h fun st2 e2 k2=>h1 _ _ _ st2 rfl e2.pm3 k2 (rk2 _ e2)
end
end
def At:Nd->List Nd | .mk _ _ _ ks _=>ks
def AA (n:Nd):B8:=match At n with | .mk _ _ c _ _::_=>c | []=>[]
theorem BR (s:B8) (i e:Nat) (m:List Nd):AA (IK s i e m)=slc s i e:=rfl
theorem KP {x:Cx} {i:Nat} {v:Int} {ns:List B8} {e:Nat} {v1:Int} {ns1:List B8} (h:DL x false i v ns= .ok (e,v1,ns1)):
  3<=x.dep/\v<x.nod/\v1=v+1/\ns1=ns/\Bq x.a x.q x.s i= .ok e/\(txt x.q (slc x.s i e)).length<=65536:=by
 simp only[DL,D7,Bool.false_eq_true,if_false,false_and]at h
 split at h
 ·cases h
 ·split at h
  ·cases h
  ·simp only[bind,Except.bind]at h
   split at h
   ·cases h
   ·rename_i e' he
    split at h
    ·cases h
    ·cases h
     exact⟨by omega,by omega,rfl,rfl,he,by omega⟩
theorem Qd {x:Cx} {i:Nat} {v:Int} {ns:List B8} {e:Nat} (h1:3<=x.dep) (h2:v<x.nod) (h3:Bq x.a x.q x.s i= .ok e) (h4:(txt x.q (slc x.s i e)).length<=65536):
  DL x false i v ns= .ok (e,v+1,ns):=by
 simp only[DL,D7,Bool.false_eq_true,if_false,false_and]
 rw[if_neg (by omega),if_neg (by omega)]
 simp only[bind,Except.bind,h3]
 rw[if_neg (by omega)]
theorem entE_9 {x:Cx} {i:Nat} {v:Int} {ns:List B8} (h:x.dep<3):DL x false i v ns= .error (i,9):=by
 simp only[DL,D7,Bool.false_eq_true,if_false]
 rw[if_pos h];rfl
theorem entE_10 {x:Cx} {i:Nat} {v:Int} {ns:List B8} (h:3<=x.dep) (h2:x.nod<=v):DL x false i v ns= .error (i,10):=by
 simp only[DL,D7,Bool.false_eq_true,if_false]
 rw[if_neg (by omega),if_pos h2];rfl
theorem LM {x:Cx} {i:Nat} {v:Int} {ns:List B8} {e:Nat} {v1:Int} {ns1:List B8} (h:DL x true i v ns= .ok (e,v1,ns1)):
  v1=v/\Bq x.a x.q x.s i= .ok e/\(txt x.q (slc x.s i e)).length<=1024:=by
 simp only[DL,if_true,true_and]at h
 simp only[bind,Except.bind]at h
 split at h
 ·cases h
 ·rename_i e' he
  split at h
  ·cases h
  ·split at h
   ·cases h
   ·cases h
    exact⟨rfl,he,by omega⟩
abbrev Cx.lim (x:Cx) (d n:Int):Cx:={x with dep:=d,nod:=n}
theorem VR {x:Cx} {num hd:Bool} {wid:Int}:∀(n:Nat) {acc:List Nd} {i:Nat} {v:Int} {ns:List B8} {e:Nat} {v':Int} {ns':List B8} {out:List Nd},
  i<=x.s.length->BM x num wid hd n acc i v ns= .ok (e,v',ns',out)->∃ks m,out=acc++ks/\Ib x.a x.q x.s i ks e m/\v'=v+(if hd then 0 else(ks.length:Int))/\
   (∀k∈ks,(txt x.q (AA k)).length<=65536)/\(num=true->(out.length:Int)<=wid)/\(hd=false->3<=x.dep/\v'<=x.nod/\ns'=ns):=by
 intro n
 induction n with
 | zero=>intro acc i v ns e v' ns' out hi h;simp only[BM]at h;cases h
 | succ n ih=>
  intro acc i v ns e v' ns' out hi h
  simp only[BM]at h
  split at h
  ·cases h
  rename_i hw
  simp only[bind,Except.bind]at h
  split at h
  ·cases h
  rename_i p he
  obtain⟨e1,v1,ns1⟩:=p
  have hent:Bq x.a x.q x.s i= .ok e1/\(txt x.q (slc x.s i e1)).length<=65536/\v1=v+(if hd then 0 else 1)/\(hd=false->3<=x.dep/\v1<=x.nod/\ns1=ns):=by
   cases hd with
   | false=>have:=KP he;exact⟨this.2.2.2.2.1,this.2.2.2.2.2,by simpa using this.2.2.1,fun _=>⟨this.1,by omega,this.2.2.2.1⟩⟩
   | true=>have:=LM he;exact⟨this.2.1,by omega,by simpa using this.1,fun h=>by cases h⟩
  obtain⟨c1,c2,c3,c4⟩:=hent
  have hle:=Cq hi c1
  simp only at h
  split at h
  ·rename_i hm
   obtain⟨ks,m,k1,k2,k3,k4,k5,k6⟩:=ih (by omega) h
   refine⟨_::ks,m,by rw[k1,List.append_assoc];rfl,.more c1 hm.1 hm.2 k2,?_,?_,k5,fun hh=>?_⟩
   ·rw[k3,c3];cases hd<;>simp<;>omega
   ·intro k hk
    rcases List.mem_cons.1 hk with rfl | hk
    ·exact c2
    ·exact k4 k hk
   ·have:=k6 hh;have:=c4 hh;exact⟨by omega,by omega,by rw[(k6 hh).2.2,this.2.2]⟩
  ·rename_i hm
   split at h
   ·cases h
   rename_i m hm2
   cases h
   refine⟨_,_,rfl,.last c1 hm hm2,by rw[c3];cases hd<;>simp,?_,?_,fun hh=>⟨(c4 hh).1,(c4 hh).2.1,(c4 hh).2.2⟩⟩
   ·intro k hk
    rw[List.mem_singleton]at hk;subst hk;exact c2
   ·intro hn
    rw[List.length_append,List.length_singleton]
    have:¬wid<=(acc.length:Int):=fun h=>hw ⟨hn,h⟩
    omega
theorem recE_of {x:Cx} {num:Bool} {wid:Int} (hdep:3<=x.dep):∀{i:Nat} {ks:List Nd} {e m:Nat},Ib x.a x.q x.s i ks e m->∀(n:Nat) {acc:List Nd} {v:Int} {ns:List B8},
  i<=x.s.length->x.s.length<i+n->(∀k∈ks,(txt x.q (AA k)).length<=65536)->(num=true->((acc.length+ks.length:Nat):Int)<=wid)->v+(ks.length:Int)<=x.nod->BM x num wid false n acc i v ns= .ok (e,v+(ks.length:Int),ns,acc++ks):=by
 intro i ks e m h
 induction h with
 | @last i e m h1 h2 h3=>
  intro n acc v ns hi hn hk hw hv
  cases n with
  | zero=>omega
  | succ n=>
  simp only[BM]
  rw[if_neg (by rintro⟨h,h'⟩;have:=hw h;simp at this;omega)]
  have hc:=hk _ (List.mem_singleton.2 rfl)
  rw[BR]at hc
  rw[Qd hdep (by simp at hv;omega) h1 hc]
  simp only[bind,Except.bind]
  rw[if_neg h2,h3]
  rfl
 | @more i e e' m ks h1 h2 h3 h4 ih=>
  intro n acc v ns hi hn hk hw hv
  cases n with
  | zero=>omega
  | succ n=>
  simp only[BM]
  simp only[List.length_cons]at hw hv
  rw[if_neg (by rintro⟨h,h'⟩;have:=hw h;omega)]
  have hc:=hk _ (List.mem_cons_self ..)
  rw[BR]at hc
  rw[Qd hdep (by omega) h1 hc]
  simp only[bind,Except.bind]
  have hle:=Cq hi h1
  rw[if_pos ⟨h2,h3⟩,ih n (by omega) (by omega) (fun k hk2=>hk k (List.mem_cons_of_mem _ hk2)) (fun h=>by have:=hw h;rw[List.length_append,List.length_singleton];omega) (by omega),List.append_assoc,List.length_cons]
  congr 2
  have:v+1+(ks.length:Int)=v+((ks.length+1:Nat):Int):=by omega
  rw[this];rfl
theorem UO {x:Cx} {num:Bool} {wid:Int} (d' n':Int):∀(n:Nat) {acc:List Nd} {i:Nat} {v:Int} {ns:List B8},
  BM (x.lim d' n') num wid true n acc i v ns=BM x num wid true n acc i v ns:=by
 intro n
 induction n with
 | zero=>intros;rfl
 | succ n ih=>
  intro acc i v ns
  simp only[BM]
  have:DL (x.lim d' n') true i v ns=DL x true i v ns:=rfl
  rw[this]
  simp only[ih]
theorem VQ {x:Cx} {num:Bool} {wid:Int} {d' n':Int}:∀(n:Nat) {acc:List Nd} {i:Nat} {v:Int} {ns:List B8} {e:Nat} {v':Int} {ns':List B8} {out:List Nd},
  BM x num wid false n acc i v ns= .ok (e,v',ns',out)->v<v'/\(3<=d'->v'<=n'->BM (x.lim d' n') num wid false n acc i v ns= .ok (e,v',ns',out))/\
   (3<=d'->n'<v'->∃o,BM (x.lim d' n') num wid false n acc i v ns= .error (o,10))/\(d'<3->∃o,BM (x.lim d' n') num wid false n acc i v ns= .error (o,9)):=by
 intro n
 induction n with
 | zero=>intro acc i v ns e v' ns' out h;simp only[BM]at h;cases h
 | succ n ih=>
  intro acc i v ns e v' ns' out h
  simp only[BM]at h⊢
  split at h
  ·cases h
  rename_i hw
  rw[if_neg hw]
  simp only[bind,Except.bind]at h⊢
  split at h
  ·cases h
  rename_i p he
  obtain⟨e1,v1,ns1⟩:=p
  obtain⟨c1,c2,rfl,rfl,c3,c4⟩:=KP he
  simp only at h
  have e9:d'<3->DL (x.lim d' n') false i v ns1= .error (i,9):=fun h=>entE_9 h
  have e10:3<=d'->n'<=v->DL (x.lim d' n') false i v ns1= .error (i,10):=fun h h2=>entE_10 h h2
  have eok:3<=d'->v<n'->DL (x.lim d' n') false i v ns1= .ok (e1,v+1,ns1):=fun h h2=>Qd h h2 c3 c4
  split at h
  ·rename_i hm
   obtain⟨k0,k1,k2,k3⟩:=ih h
   refine⟨by omega,fun h1 h2=>?_,fun h1 h2=>?_,fun h1=>?_⟩
   ·rw[eok h1 (by omega)]
    simp only
    rw[if_pos hm];exact k1 h1 h2
   ·by_cases hv:n'<=v
    ·rw[e10 h1 hv];exact⟨_,rfl⟩
    ·rw[eok h1 (by omega)]
     simp only
     rw[if_pos hm];exact k2 h1 h2
   ·rw[e9 h1];exact⟨_,rfl⟩
  ·rename_i hm
   split at h
   ·cases h
   rename_i m hm2
   cases h
   refine⟨by omega,fun h1 h2=>?_,fun h1 h2=>?_,fun h1=>?_⟩
   ·rw[eok h1 (by omega)]
    simp only
    rw[if_neg hm,hm2]
   ·rw[e10 h1 (by omega)];exact⟨_,rfl⟩
   ·rw[e9 h1];exact⟨_,rfl⟩
def Gg (s:B8) (num:Bool) (wid:Int) (R:Except (Nat×Int) (Nat×Int×List B8×List Nd)):Except (Nat×Int) (Nat×Int×List B8×Nd×Int):=
 match R with
 | .error e=> .error e
 | .ok (e,v2,ns2,ks)=>match BZ s e with
  | .error e=> .error e
  | .ok n=>if (ks.length:Int)<(if num then wid else(ks.length:Int))then .error (e,10)else .ok (e+n,v2,ns2,.mk 8 [] [] ks (slc s e (e+n)),if num then wid else(ks.length:Int))
theorem EX (x:Cx) (num:Bool) (wid:Int) (hd:Bool) (i:Nat) (v:Int) (ns:List B8):EY x num wid hd i v ns=
  if hd=true then Gg x.s num wid (BM x num wid hd (x.s.length+1) [] i v ns)else match D7 x.dep x.nod 2 i v with
   | .error e=> .error e
   | .ok v1=>Gg x.s num wid (BM x num wid hd (x.s.length+1) [] i v1 ns):=by
 unfold EY Gg
 cases hd with
 | true=>
  simp only[if_true,bind,Except.bind]
  rcases BM x num wid true (x.s.length+1) [] i v ns with e | ⟨e,v2,ns2,ks⟩
  ·rfl
  ·cases h:BZ x.s e<;>simp[h]
 | false=>
  simp only[Bool.false_eq_true,if_false,bind,Except.bind]
  cases D7 x.dep x.nod 2 i v with
  | error e=>rfl
  | ok v1=>
   simp only
   rcases BM x num wid false (x.s.length+1) [] i v1 ns with e | ⟨e,v2,ns2,ks⟩
   ·rfl
   ·cases h:BZ x.s e<;>simp[h]
theorem ML {dep nod d:Int} {i:Nat} {v v1:Int} (h:D7 dep nod d i v= .ok v1):v1=v+1:=by
 unfold D7 at h
 split at h
 ·cases h
 split at h
 ·cases h
 ·cases h;rfl
theorem Fx {x:Cx} {num hd:Bool} {wid:Int} {i:Nat} {v:Int} {ns:List B8} {p:Nat×Int×List B8×Nd×Int} (h:EY x num wid hd i v ns= .ok p):
  ∃v1,v1=v+(if hd then 0 else 1)/\Gg x.s num wid (BM x num wid hd (x.s.length+1) [] i v1 ns)= .ok p:=by
 rw[EX]at h
 cases hd with
 | true=>exact⟨v,by simp,by simpa using h⟩
 | false=>
  simp only[Bool.false_eq_true,if_false]at h
  split at h
  ·cases h
  ·rename_i v1 h1
   exact⟨v1,by simpa using ML h1,h⟩
theorem KF {s:B8} {num:Bool} {wid:Int} {R:Except (Nat×Int) (Nat×Int×List B8×List Nd)} {p:Nat×Int×List B8×Nd×Int} (h:Gg s num wid R= .ok p):
  ∃e v2 ns2 ks m,R= .ok (e,v2,ns2,ks)/\BZ s e= .ok m/\¬(ks.length:Int)<(if num then wid else(ks.length:Int))/\p=(e+m,v2,ns2,.mk 8 [] [] ks (slc s e (e+m)),if num then wid else(ks.length:Int)):=by
 unfold Gg at h
 split at h
 ·cases h
 rename_i e v2 ns2 ks
 split at h
 ·cases h
 rename_i m hm
 by_cases hw:(ks.length:Int)<(if num then wid else(ks.length:Int))
 ·rw[if_pos hw]at h;cases h
 ·rw[if_neg hw]at h
  exact⟨e,v2,ns2,ks,m,rfl,hm,hw,(Except.ok.inj h).symm⟩
section
theorem Lf (st:St) {a:Int} (c:UInt8) (hc:(c.toNat:Int)=a):(toBytes st (.list 1 .full 1 [.int .u8 a])).map TV.str=some (.str [c]):=by
 have:UInt8.ofNat a.toNat=c:=by rw[<-hc];simp
 rw[<-this];rfl
def Gs (x:Cx) (i e:Nat):Nd:=IK x.s i e (if e<x.s.length/\by_ x.s e=x.a then [.mk 11 [] [x.s.getD e 0] [] []]else [])
def KQ (x:Cx) (e:Nat):Nat:=if e<x.s.length/\by_ x.s e=x.a then e+1 else e
def VI (c:B8):List TV:=[.int .i64 2,.str [],.str c,.nilSlice,.str []]
def mrkC (c:UInt8):List TV:=[.int .i64 11,.str [],.str [c],.nilSlice,.str []]
theorem NdC.leaf (k:Int) (t:B8):NdC (.mk k [] t [] []) [.int .i64 k,.str [],.str t,.nilSlice,.str []]:=by
 unfold NdC;exact⟨_,[],rfl,.inl ⟨rfl,rfl,rfl⟩,AY.nil⟩
theorem NdC.ent1 {s:B8} {i e:Nat} {v:TV} (h:Rd 5 v 1 (VI (slc s i e))):NdC (IK s i e []) [.int .i64 5,.str [],.str [],v,.str []]:=by
 unfold IK NdC
 exact⟨v,_,rfl,h,AY.one (NdC.leaf 2 _)⟩
theorem NdC.ent2 {s:B8} {i e:Nat} {c:UInt8} {v:TV} (h:Rd 5 v 2 (VI (slc s i e)++mrkC c)):NdC (IK s i e [.mk 11 [] [c] [] []]) [.int .i64 5,.str [],.str [],v,.str []]:=by
 unfold IK NdC
 exact⟨v,_,rfl,h,AY.append (AY.one (NdC.leaf 2 _)) (AY.one (NdC.leaf 11 _))⟩
theorem Jd {S:Nat->Prop} {T sz bytes:Nat} {st0 st:St} {v:TV} {n k:Nat} {xs ys:List TV} {K:TV->St->Prop} (e:StX S st0 st) (h:Own st0.nt sz st v n xs) (hby:(n+k)*bytes<=140737488355328) (hys:k=0->ys=[])
  (hK:∀v' st',StX S st0 st'->st'.box=st.box->st'.nb=st.nb->Own st0.nt sz st' v' (n+k) (xs++ys)->K v' st'):AT T sz bytes v k ys st K:=by
 have ef:∀st' T,StX S st0 st'->StX S st0 (st'.fresh T):=fun st' T h=>h.trans (StX.of ((As.refl st').fresh _))
 rcases h with⟨rfl,rfl,rfl⟩ | ⟨tip,rfl,ht⟩
 ·simp only[AT]
  cases k with
  | zero=>rw[hys rfl]at hK;exact hK _ _ e rfl rfl (.nil _ _ _)
  | succ m=>
   simp only[Au]
   refine⟨by simpa using hby,hK _ _ (ef _ _ e) rfl rfl ?_⟩
   simp only[List.nil_append,Nat.zero_add]
   exact Own.fresh _ _ e.nt
 ·simp only[AT,Nat.beq_refl]
  refine⟨hby,?_⟩
  rcases ht with rfl | ⟨id,rfl,h1,h2,h3⟩
  ·cases k with
   | zero=>rw[hys rfl]at hK;simp only[List.append_nil]at hK;exact hK _ _ e rfl rfl (Own.full _ _ _ _ _)
   | succ m=>exact hK _ _ (ef _ _ e) rfl rfl (Own.fresh _ _ e.nt)
  ·have er:StX S st0 (st.retire id):=⟨e.nb,e.box,e.nt,fun i hi=>by simp only[St.retire];rw[if_neg (by omega)];exact e.live i hi,e.ty,e.bt⟩
   exact⟨h3,hK _ _ (ef _ _ er) rfl rfl (Own.fresh (st:=st.retire id) _ _ e.nt)⟩
theorem PSD.same {p m:Nat} {x:Cx} {hd ty:Bool} {l2 l3 l4:Int} {ns:List B8} {i n w o e:Int} {st st':St} (h:PSD p m x hd ty l2 l3 l4 ns i n w o e st) (hb:st'.box=st.box) (hn:st'.nb=st.nb):
  PSD p m x hd ty l2 l3 l4 ns i n w o e st':=by
 obtain⟨es,h1,h2⟩:=h.mp
 exact⟨h.ne,by rw[hn];exact h.lp,by rw[hn];exact h.lm,by rw[hb];exact h.bx,es,by rw[hb];exact h1,h2⟩
theorem HG {v:TV} (h:Ap v=true):List.all [v] Ap=true:=by simp[h]
def Oy (x:Cx) (hd:Bool) (i:Nat) (v1:Int) (ns:List B8):Except (Nat×Int) (Nat×Int×List B8):=
 match Bq x.a x.q x.s i with
 | .error e=> .error e
 | .ok e=>if (if hd then 1024 else 65536)<(txt x.q (slc x.s i e)).length then .error (i,10)else if hd/\txt x.q (slc x.s i e)∈ns then .error (i,8)
  else .ok (e,v1,if hd then txt x.q (slc x.s i e)::ns else ns)
theorem MH (x:Cx) (hd:Bool) (i:Nat) (v:Int) (ns:List B8):DL x hd i v ns=if hd=true then Oy x hd i v ns else match D7 x.dep x.nod 3 i v with
  | .error e=> .error e
  | .ok v1=>Oy x hd i v1 ns:=by
 unfold DL Oy
 cases hd with
 | true=>simp only[if_true,bind,Except.bind];cases Bq x.a x.q x.s i<;>rfl
 | false=>
  simp only[Bool.false_eq_true,if_false,bind,Except.bind]
  cases D7 x.dep x.nod 3 i v with
  | error e=>rfl
  | ok v1=>simp only;cases Bq x.a x.q x.s i<;>rfl
section
variable {p m:Nat} {x:Cx} {hd ty:Bool} {l2 l3 l4:Int} {ns:List B8} {I v w o e:Int} {st:St}
theorem UY {i:Nat} {header:Bool} {K:Int->B8->B8->TV->B8->Bool->St->Prop} (hI:I=(i:Int)) (hi:i<=x.s.length) (hl:x.s.length<=2000000) (hv0:0<=v) (hv:v<1000000000)
  (h:PSD p m x hd ty l2 l3 l4 ns I v w o e st)
  (h0:∀(k:Nat) v1 ns1 kv st',DL x header i v ns= .ok (k,v1,ns1)->StX (PM p m) st st'->PSD p m x hd ty l2 l3 l4 ns1 (KQ x k:Nat) v1 w o e st'->NdC (Gs x i k) [.int .i64 5,.str [],.str [],kv,.str []]->Rd 5 kv (if k<x.s.length/\by_ x.s k=x.a then 2 else 1) (if k<x.s.length/\by_ x.s k=x.a then VI (slc x.s i k)++mrkC (x.s.getD k 0)else VI (slc x.s i k))->K 5 [] [] kv [] true st')
  (h1:∀(o':Nat) e' (k v1:Int) kv st',DL x header i v ns= .error (o',e')->StX (PM p m) st st'->PSD p m x hd ty l2 l3 l4 ns k v1 w o' e' st'->Ap kv=true->K 5 [] [] kv [] false st'):
  CallT PR AN [.box p 0,.bool header] [.agg [.int .i64,.str,.str,.tv,.str],.one .bool] st K:=by
 subst hI
 have hb:=h.bx
 have tn:∀k:Nat,Int.toNat (k:Int)=k:=fun k=>rfl
 have w1:∀k:Nat,k<=x.s.length->i64.wrap ((k:Int)+1)=((k+1:Nat):Int):=fun k hk=>by rw[Ah _ (by omega) (by omega)];omega
 --behind the checks
 have fin:∀(k:Nat) (v1:Int) ns1,i<=k->k<=x.s.length->DL x header i v ns= .ok (k,v1,ns1)->
   ∀(v4:TV) (st8:St),StX (PM p m) st st8->PSD p m x hd ty l2 l3 l4 ns1 k v1 w o e st8->Own st.nt 5 st8 v4 1 (VI (slc x.s i k))->
    (k<x.s.length->by_ x.s k=x.a->∀st9,StX (·=p) st8 st9->st9.box p= .cells ((pcl x hd ty l2 l3 l4 m k v1 w o e).set 10 (.int .i64 (i64.wrap ((k:Int)+1))))->AT 79 5 80 v4 1 (mrkC (x.s.getD k 0)) st9 fun v5 st10=>need (List.all [v5] Ap) (need (List.all [.int .i64 5,.str [],.str [],v5,.str []] Ap) (K 5 [] [] v5 [] true st10)))/\
    (¬(k<x.s.length/\by_ x.s k=x.a)->K 5 [] [] v4 [] true st8):=by
  intro k v1 ns1 hik hk he v4 st8 e8 k8 o8
  refine⟨fun c1 c2 st9 e9 b9=>?_,fun c=>?_⟩
  ·rw[w1 k (by omega)]at b9
   have hen:Gs x i k=IK x.s i k [.mk 11 [] [x.s.getD k 0] [] []]:=by unfold Gs;rw[if_pos ⟨c1,c2⟩]
   refine Jd (e8.trans e9.pm) (o8.extXD e9) (by omega) (fun h=>by cases h) fun v5 st10 e10 hbx hnb o10=>Ab (HG o10.rd.one) (Ab (B1 o10.rd.one) ?_)
   refine h0 k v1 ns1 v5 st10 he e10 ?_ (by rw[hen];exact NdC.ent2 o10.rd) (by rw[if_pos ⟨c1,c2⟩,if_pos ⟨c1,c2⟩];exact o10.rd)
   have:KQ x k=k+1:=by unfold KQ;rw[if_pos ⟨c1,c2⟩]
   rw[this]
   exact(k8.of e9 b9).same hbx hnb
  ·have hen:Gs x i k=IK x.s i k []:=by unfold Gs;rw[if_neg c]
   refine h0 k v1 ns1 v4 st8 he e8 ?_ (by rw[hen];exact NdC.ent1 o8.rd) (by rw[if_neg c,if_neg c];exact o8.rd)
   have:KQ x k=k:=by unfold KQ;rw[if_neg c]
   rw[this]
   exact k8
 refine HO p header st K (Am (fun hh=>?_) fun hh=>?_)
 case' refine_1=>
  have hh:header=false:=by simpa using hh
  rw[MH,if_neg (by rw[hh];decide)]at h0 h1 fin
  refine OW rfl hv0 hv h (fun v' st1 hb1 e1 k1=>?_) fun o' e' st1 hb1 e1 k1=>?_
  case' refine_2=>
   rw[hb1]at h1
   exact Am (fun _=>h1 _ _ _ _ _ st1 rfl e1 k1 rfl) fun h=>by cases h
  rw[hb1]at h0 h1 fin
  refine Am (fun h=>by cases h) fun _=>?_
  simp only at h0 h1 fin
 case' refine_2=>
  have hh:header=true:=by simpa using hh
  rw[MH,if_pos hh]at h0 h1 fin
  obtain⟨v',hv'⟩:∃v',v'=v:=⟨_,rfl⟩
  obtain⟨st1,hst1⟩:∃st1,st1=st:=⟨_,rfl⟩
  have e1:StX (PM p m) st st1:=hst1▸StX.refl _ _
  have k1:PSD p m x hd ty l2 l3 l4 ns i v' w o e st1:=by rw[hst1,hv'];exact h
  rw[<-hst1]
  rw[<-hv']at h0 h1 fin
 all_goals
  have b1:=k1.bx
  repeat' first
   | (guard_target=~need _ _;refine Ab rfl ?_)
   | (guard_target=~Ag (Ac _ _ _ _) _;refine Ad (ldB b1 rfl) ?_)
   | (guard_target=~Af (.int _) _ _;refine Ar ?_)
   | (guard_target=~Af .str _ _;refine Al ?_)
   | (guard_target=~Af .bool _ _;refine Aq ?_)
  refine V0 rfl hi hl k1 (fun k st2 hc e2 k2=>?_) fun o' e' k st2 hc e2 k2=>?_
  case' refine_2=>
   unfold Oy at h1
   rw[hc]at h1
   exact Am (fun _=>h1 _ _ _ _ _ st2 rfl (e1.trans e2) k2 rfl) fun h=>by cases h
  refine Am (fun h=>by cases h) fun _=>?_
  have hle:=Cq hi hc
  have hW:=MJ hi hc
  have b2:=k2.bx
  unfold Oy at h0 h1 fin
  rw[hc]at h0 h1 fin
  simp only at h0 h1 fin
  repeat' first
   | (guard_target=~need _ _;refine Ab rfl ?_)
   | (guard_target=~Ag (Ac _ _ _ _) _;refine Ad (ldB b2 rfl) ?_)
   | (guard_target=~Af (.int _) _ _;refine Ar ?_)
   | (guard_target=~Af .str _ _;refine Al ?_)
   | (guard_target=~Af .bool _ _;refine Aq ?_)
  refine⟨⟨by omega,by omega,by omega⟩,Ad (x:= .agg [.int .u8 x.a,.int .u8 x.q,.bool hd,.bool ty]) (by rw[ldsB b2 rfl rfl];rfl) ?_⟩
  rw[tn,tn]
  refine M8 hW (by show(slc x.s i k).length<=_;rw[IZ hle.1 hle.2];omega) fun st3 e3=>?_
  have k3:=k2.keep (StX.of (S:=fun _=>False) e3) (fun h=>h) (fun h=>h)
  have e4:=(e1.trans e2).trans (StX.of e3)
  refine⟨fun mo p' hd' fr c t kd ld tx kv tl st'=>mo=(if header then 1024 else 65536)/\TV.box p 0=p'/\header=hd'/\(i:Int)=fr/\slc x.s i k=c/\txt x.q (slc x.s i k)=t/\5=kd/\[]=ld/\[]=tx/\TV.nilSlice=kv/\[]=tl/\st3=st',
   Am (fun h=>⟨by rw[h];rfl,rfl,rfl,rfl,rfl,rfl,rfl,rfl,rfl,rfl,rfl,rfl⟩) (fun h=>⟨by rw[h];rfl,rfl,rfl,rfl,rfl,rfl,rfl,rfl,rfl,rfl,rfl,rfl⟩),?_⟩
  rintro _ _ _ _ _ _ _ _ _ _ _ _ ⟨rfl,rfl,rfl,rfl,rfl,rfl,rfl,rfl,rfl,rfl,rfl,rfl⟩
  refine Aa (fun g=>?_) fun g=>?_
  ·rw[if_pos (by cases header<;>simp at g⊢<;>omega)]at h1
   exact CJ k3 fun st4 e5 k4=>Ab rfl (h1 _ _ _ _ _ st4 rfl (e4.trans e5) k4 rfl)
  rw[if_neg (by cases header<;>simp at g⊢<;>omega)]at h0 h1 fin
  have b3:=k3.bx
  obtain⟨es,hm1,hm2⟩:=k3.mp
  refine Am (fun g2=>?_) fun g2=>?_
  case' refine_1=>
   repeat' first
    | (guard_target=~need _ _;refine Ab rfl ?_)
    | (guard_target=~Ag (Ac _ _ _ _) _;refine Ad (ldB b3 rfl) ?_)
    | (guard_target=~Af (.int _) _ _;refine Ar ?_)
    | (guard_target=~Af .str _ _;refine Al ?_)
    | (guard_target=~Af .bool _ _;refine Aq ?_)
   refine Ad (x:=es) (by simp only[IE,hm1]) ?_
   rw[hm2]
   by_cases hin:txt x.q (slc x.s i k)∈ns
   case' pos=>
    rw[if_pos hin]
    rw[if_pos ⟨g2,hin⟩]at h1
    refine Aq (Am (fun _=>?_) fun h=>by cases h)
    exact CJ k3 fun st4 e5 k4=>Ab rfl (h1 _ _ _ _ _ st4 rfl (e4.trans e5) k4 rfl)
   rw[if_neg hin]
   rw[if_neg (by rintro⟨_,h⟩;exact hin h),if_pos g2]at h0 fin
   refine Aq (Am (fun h=>by cases h) fun _=>?_)
   repeat' first
    | (guard_target=~need _ _;refine Ab rfl ?_)
    | (guard_target=~Ag (Ac _ _ _ _) _;refine Ad (ldB b3 rfl) ?_)
    | (guard_target=~Af (.int _) _ _;refine Ar ?_)
    | (guard_target=~Af .str _ _;refine Al ?_)
    | (guard_target=~Af .bool _ _;refine Aq ?_)
   refine⟨es,hm1,?_⟩
   obtain⟨st7,hst7⟩:∃st7,st7=st3.put m (.map (Jl (txt x.q (slc x.s i k)) (.bool true) es)):=⟨_,rfl⟩
   rw[<-hst7]
   have e7:StX (PM p m) st st7:=by rw[hst7];exact e4.trans (StX.put (.inr rfl) _)
   have k7:PSD p m x hd ty l2 l3 l4 (txt x.q (slc x.s i k)::ns) k v' w o e st7:=by
    refine⟨k3.ne,by rw[hst7];exact k3.lp,by rw[hst7];exact k3.lm,?_,_,?_,hm2.add _⟩
    ·rw[hst7];simp only[St.put];rw[if_neg k3.ne];exact k3.bx
    ·rw[hst7,Eu]
  case' refine_2=>
   rw[if_neg (by rintro⟨h,_⟩;rw[g2]at h;cases h),if_neg (by rw[g2];decide)]at h0 fin
   obtain⟨st7,hst7⟩:∃st7,st7=st3:=⟨_,rfl⟩
   rw[<-hst7]
   have e7:StX (PM p m) st st7:=by rw[hst7];exact e4
   have k7:PSD p m x hd ty l2 l3 l4 ns k v' w o e st7:=by rw[hst7];exact k3
  all_goals
   refine Jd e7 (Own.nil _ _ _) (by omega) (fun h=>by cases h) fun v4 st8 e8 hbx hnb o8=>Ab (HG o8.rd.one) ?_
   have k8:=k7.same hbx hnb
   have b8:=k8.bx
   obtain⟨f1,f2⟩:=fin k v' _ hle.1 hle.2 rfl v4 st8 e8 k8 o8
   repeat' first
    | (guard_target=~need _ _;refine Ab rfl ?_)
    | (guard_target=~Ag (Ac _ _ _ _) _;refine Ad (ldB b8 rfl) ?_)
    | (guard_target=~Af (.int _) _ _;refine Ar ?_)
    | (guard_target=~Af .str _ _;refine Al ?_)
    | (guard_target=~Af .bool _ _;refine Aq ?_)
   refine Aa (fun q1=>?_) fun q1=>?_
   ·repeat' first
     | (guard_target=~need _ _;refine Ab rfl ?_)
     | (guard_target=~Ag (Ac _ _ _ _) _;refine Ad (ldB b8 rfl) ?_)
     | (guard_target=~Af (.int _) _ _;refine Ar ?_)
     | (guard_target=~Af .str _ _;refine Al ?_)
     | (guard_target=~Af .bool _ _;refine Aq ?_)
    refine⟨⟨by omega,by omega⟩,?_⟩
    repeat' first
     | (guard_target=~need _ _;refine Ab rfl ?_)
     | (guard_target=~Ag (Ac _ _ _ _) _;refine Ad (ldB b8 rfl) ?_)
     | (guard_target=~Af (.int _) _ _;refine Ar ?_)
     | (guard_target=~Af .str _ _;refine Al ?_)
     | (guard_target=~Af .bool _ _;refine Aq ?_)
    rw[tn]
    refine Aa (fun q2=>?_) fun q2=>?_
    ·repeat' first
      | (guard_target=~need _ _;refine Ab rfl ?_)
      | (guard_target=~Ag (Ac _ _ _ _) _;refine Ad (ldB b8 rfl) ?_)
      | (guard_target=~Af (.int _) _ _;refine Ar ?_)
      | (guard_target=~Af .str _ _;refine Al ?_)
      | (guard_target=~Af .bool _ _;refine Aq ?_)
     refine EQ b8 rfl fun st9 e9 b9=>?_
     repeat' first
      | (guard_target=~need _ _;refine Ab rfl ?_)
      | (guard_target=~Ag (Ac _ _ _ _) _;refine Ad (ldB b9 rfl) ?_)
      | (guard_target=~Af (.int _) _ _;refine Ar ?_)
      | (guard_target=~Af .str _ _;refine Al ?_)
      | (guard_target=~Af .bool _ _;refine Aq ?_)
     refine Ad (Lf _ (x.s.getD k 0) q2) ?_
     exact f1 (by omega) q2 st9 e9 b9
    ·exact Ab (B1 o8.rd.one) (f2 fun h=>q2 h.2)
   ·exact Ab (B1 o8.rd.one) (f2 fun h=>absurd h.1 (by omega))
end
end
section
theorem Lr (x:Cx) (num:Bool) (wid:Int) (hd:Bool) (n:Nat) (acc:List Nd) (i:Nat) (v:Int) (ns:List B8):BM x num wid hd (n+1) acc i v ns=
  if num=true/\wid<=(acc.length:Int)then .error (i,10)else match DL x hd i v ns with
   | .error e=> .error e
   | .ok (e,v1,ns1)=>if e<x.s.length/\by_ x.s e=x.a then BM x num wid hd n (acc++[Gs x i e]) (e+1) v1 ns1 else match BZ x.s e with
    | .error e=> .error e
    | .ok _=> .ok (e,v1,ns1,acc++[Gs x i e]):=by
 simp only[BM]
 by_cases hw:num=true/\wid<=(acc.length:Int)
 ·rw[if_pos hw,if_pos hw]
 rw[if_neg hw,if_neg hw]
 simp only[bind,Except.bind]
 rcases DL x hd i v ns with e | ⟨e,v1,ns1⟩
 ·rfl
 simp only
 by_cases hm:e<x.s.length/\by_ x.s e=x.a
 ·rw[if_pos hm,if_pos hm]
  unfold Gs;rw[if_pos hm]
 ·rw[if_neg hm,if_neg hm]
  unfold Gs;rw[if_neg hm]
  cases BZ x.s e<;>rfl
theorem Ue {x:Cx} {hd:Bool} {i:Nat} {v:Int} {ns:List B8} {e:Nat} {v1:Int} {ns1:List B8} (hi:i<=x.s.length) (h:DL x hd i v ns= .ok (e,v1,ns1)):i<=e/\e<=x.s.length/\v<=v1/\v1<=v+1:=by
 cases hd with
 | true=>have:=LM h;have h2:=Cq hi this.2.1;omega
 | false=>have:=KP h;have h2:=Cq hi this.2.2.2.2.1;omega
theorem StX.out {p m r:Nat} {a b c:St} (h:StX (PM p m) a b) (k:StX (PM3 p m r) b c) (hr:a.nb<=r):StX (PM p m) a c:=
 ⟨Nat.le_trans h.nb k.nb,fun i hi hs=>(k.box i (Nat.lt_of_lt_of_le hi h.nb) (by rintro(g | g | g);exact hs (.inl g);exact hs (.inr g);omega)).trans (h.box i hi hs),Nat.le_trans h.nt k.nt,fun i hi=>(k.live i (Nat.lt_of_lt_of_le hi h.nt)).trans (h.live i hi),fun i hi=>(k.ty i (Nat.lt_of_lt_of_le hi h.nt)).trans (h.ty i hi),fun i hi=>(k.bt i (Nat.lt_of_lt_of_le hi h.nb)).trans (h.bt i hi)⟩
theorem StX.r3 {p m r:Nat} {a b:St} (h:StX (·=r) a b):StX (PM3 p m r) a b:=h.mono fun _ g=> .inr (.inr g)
theorem stB_A {st:St} {b off:Nat} {xs:List TV} {l:List TV} {k:St->Prop} (hb:st.box b= .cells l) (hl:off+xs.length<=l.length) (hk:∀st',StX (·=b) st st'->st'.box b= .cells (setAll l off xs)->k st'):stB st (.box b off) xs k:=
 ⟨l,hb,hl,hk _ (StX.put (S:=(·=b)) rfl _) (Eu _ _ _)⟩
theorem NE {st:St} {b:Nat} {c0 c1 c2 c3 c4:TV} (hb:st.box b= .cells [c0,c1,c2,c3,c4]):(Aj st [] (.t (.box b 0)) 0 5).map TV.agg=some (.agg [c0,c1,c2,c3,c4]):=by
 rw[show Aj st [] (.t (.box b 0)) 0 5=some [c0,c1,c2,c3,c4]from ldsB hb rfl rfl];rfl
theorem IN {k:Int} {l t tl:B8} {u:TV} {f:Int->B8->B8->TV->B8->Prop} (h:f k l t u tl):A1 [.int .i64,.str,.str,.tv,.str] (.agg [.int .i64 k,.str l,.str t,u,.str tl]) f:=h
theorem Ob {p H:Prop} [Decidable p] {A X:Prop} (t:H->X) (h1:p->(H->X)->A) (h2:¬p->H):BIf (decide p) A X:=Aa (fun q=>h1 q t) fun q=>t (h2 q)
section
variable {p m:Nat} {x:Cx} {hd ty:Bool} {l2 l3 l4:Int} {ns:List B8} {I v w o e:Int} {st:St}
theorem Sx {i:Nat} {N:Int} {K:Int->B8->B8->TV->B8->Bool->St->Prop} (hI:I=(i:Int)) (hi:i<=x.s.length) (hl:x.s.length<=2000000) (hv0:0<=v) (hv:v<=100000000) (hN:0<=N)
  (h:PSD p m x hd ty l2 l3 l4 ns I v w o e st)
  (h0:∀(k:Nat) v1 ns1 r w1 kv tl st',EY x (decide (N≠0)) w (decide (N=0)&&hd) i v ns= .ok (k,v1,ns1,r,w1)->StX (PM p m) st st'->PSD p m x hd ty l2 l3 l4 ns1 k v1 w1 o e st'->NdC r [.int .i64 8,.str [],.str [],kv,.str tl]->K 8 [] [] kv tl true st')
  (h1:∀(o':Nat) e' ns1 (k v1 w1:Int) kv tl st',EY x (decide (N≠0)) w (decide (N=0)&&hd) i v ns= .error (o',e')->StX (PM p m) st st'->PSD p m x hd ty l2 l3 l4 ns1 k v1 w1 o' e' st'->Ap kv=true->K 8 [] [] kv tl false st'):
  CallT PR Cf [.box p 0,.int .i64 N] [.agg [.int .i64,.str,.str,.tv,.str],.one .bool] st K:=by
 subst hI
 have hb:=h.bx
 have tn:∀k:Nat,Int.toNat (k:Int)=k:=fun k=>rfl
 obtain⟨header,hhd⟩:∃b,b=(decide (N=0)&&hd):=⟨_,rfl⟩
 rw[<-hhd]at h0 h1
 --the record's own box
 obtain⟨r,hr⟩:∃r,r=st.nb:=⟨_,rfl⟩
 have hrp:p≠r:=by have:=h.lp;omega
 have hrm:m≠r:=by have:=h.lm;omega
 have start:∀st1,StX (·=r) (st.push (.cells [.int .i64 0,.str [],.str [],.nilSlice,.str []]) (some 79)) st1->st1.box r= .cells [.int .i64 8,.str [],.str [],.nilSlice,.str []]->
   StX (PM p m) st st1/\PSD p m x hd ty l2 l3 l4 ns i v w o e st1/\r<st1.nb:=fun st1 e1 b1=>by
  have e0:StX (PM3 p m r) (st.push (.cells [.int .i64 0,.str [],.str [],.nilSlice,.str []]) (some 79)) st1:=e1.r3
  have ep:StX (PM p m) st (st.push (.cells [.int .i64 0,.str [],.str [],.nilSlice,.str []]) (some 79)):=StX.of ((As.refl st).push _ _)
  refine⟨ep.out e0 (by omega),(h.keep (StX.of (S:=fun _=>False) ((As.refl st).push _ _)) (fun h=>h) fun h=>h).other e1 hrp hrm,?_⟩
  have:=e1.nb
  simp only[St.push]at this
  omega
 have rk:∀sta stb L,StX (PM p m) sta stb->r<sta.nb->sta.box r= .cells L->stb.box r= .cells L:=fun sta stb L e hlt h=>by
  rw[e.box r hlt (fun h=>h.elim (fun h=>hrp h.symm) fun h=>hrm h.symm)];exact h
 obtain⟨num,hnum⟩:∃b,b=decide (N≠0):=⟨_,rfl⟩
 have hnum1:num=true↔N≠0:=by rw[hnum];simp
 rw[<-hnum]at h0 h1
 generalize hD:EY x num w header i v ns=D0 at h0 h1
 rw[EX]at hD
 --the loop's start:behind the first value
 refine G0 p N st K (Aa (fun hn=>?_) fun hn=>?_)
 case' refine_1=>
  repeat' first
   | (guard_target=~need _ _;refine Ab rfl ?_)
   | (guard_target=~Ag (Ac _ _ _ _) _;refine Ad (ldB hb rfl) ?_)
   | (guard_target=~Af (.int _) _ _;refine Ar ?_)
   | (guard_target=~Af .str _ _;refine Al ?_)
   | (guard_target=~Af .bool _ _;refine Aq ?_)
  rw[<-hr]
  refine stB_A (b:=r) (by rw[hr];exact GV _ _ _) (by simp) fun st1 e1 b1=>?_
  have b1:st1.box r= .cells [.int .i64 8,.str [],.str [],.nilSlice,.str []]:=b1
  obtain⟨f1,k1,lr1⟩:=start st1 e1 b1
  refine Am (fun hh=>?_) fun hh=>?_
 case' refine_2=>
  rw[<-hr]
  refine stB_A (b:=r) (by rw[hr];exact GV _ _ _) (by simp) fun st1 e1 b1=>?_
  have b1:st1.box r= .cells [.int .i64 8,.str [],.str [],.nilSlice,.str []]:=b1
  obtain⟨f1,k1,lr1⟩:=start st1 e1 b1
 case' refine_1.refine_1=>
  have hhd':header=hd:=by rw[hhd,hn];simp
  have hhf:header=false:=by rw[hhd'];simpa using hh
 case' refine_2=>
  have hhf:header=false:=by rw[hhd];simp[hn]
  have hhd':header=false:=hhf
 case' refine_1.refine_2=>
  have hhd':header=hd:=by rw[hhd,hn];simp
  have hht:header=true:=by rw[hhd'];simpa using hh
  rw[if_pos hht]at hD
  have hv1:v<=v/\v<=v+1:=by omega
  have f2:=f1
  have k2:=k1
  have lr2:=lr1
  have b2:=b1
 case' refine_1.refine_1 | refine_2=>
  rw[if_neg (by rw[hhf];decide)]at hD
  refine OW rfl hv0 (by omega) k1 (fun v' st2 hb1 e2 k2=>?_) fun o' e' st2 hb1 e2 k2=>?_
 case' refine_1.refine_1.refine_2 | refine_2.refine_2=>
  rw[hb1]at hD
  refine Am (fun _=>?_) fun h=>by cases h
  have b2:=rk _ _ _ e2 lr1 b1
  refine Ad (NE b2) (IN ?_)
  exact Ab (B1 (u:= .nilSlice) rfl) (h1 _ _ _ _ _ _ .nilSlice [] st2 hD.symm (f1.trans e2) k2 rfl)
 case' refine_1.refine_1.refine_1 | refine_2.refine_1=>
  rw[hb1]at hD
  simp only at hD
  refine Am (fun h=>by cases h) fun _=>?_
  have b2:=rk _ _ _ e2 lr1 b1
  have hv1:v<=v'/\v'<=v+1:=by have:=ML hb1;omega
  have f2:=f1.trans e2
  have lr2:r<st2.nb:=Nat.lt_of_lt_of_le lr1 e2.nb
 all_goals
  refine⟨fun p' N' hd' r' st'=>TV.box p 0=p'/\N=N'/\header=hd'/\TV.box r 0=r'/\∃(j n:Nat) (acc:List Nd) (v1:Int) (ns1:List B8) (kv:TV) (xs:List TV),StX (PM p m) st st'/\r<st'.nb/\PSD p m x hd ty l2 l3 l4 ns1 j v1 w o e st'/\
    st'.box r= .cells [.int .i64 8,.str [],.str [],kv,.str []]/\Own st.nt 5 st' kv acc.length xs/\AY acc xs/\j<=x.s.length/\x.s.length<j+n/\acc.length<=j/\0<=v1/\v1<=v+1+j/\Gg x.s num w (BM x num w header n acc j v1 ns1)=D0,
   fun _ _ _ _ st'=>(x.s.length-Mb st' p 10).toNat,⟨rfl,rfl,hhd',rfl,i,x.s.length+1,[],_,ns,.nilSlice,[],f2,lr2,k2,b2,Own.nil _ _ _,AY.nil,hi,by omega,by simp,by omega,by omega,hD⟩,?_⟩
  rintro _ _ _ _ st3 ⟨rfl,rfl,rfl,rfl,j,n,acc,v1,ns1,kv,xs,f3,lr3,k3,b3,o3,hx,hj,hjn,hac,hv3,hv4,hE⟩
  cases n with
  | zero=>omega
  | succ n=>
  rw[Lr]at hE
  have bp3:=k3.bx
  refine Ob (H:=¬(num=true/\w<=(acc.length:Int))) (fun hw=>?_) (fun q t=>?_) (fun q=>by rintro⟨h,_⟩;have:=hnum1.1 h;omega)
  ·rw[if_neg hw]at hE
   refine UY rfl hj hl (by omega) (by omega) k3 (fun k v2 ns2 v4 st4 he e4 k4 hc4 hr4=>?_) fun o' e' k' v' v4 st4 he e4 k4 ho4=>?_
   ·rw[he]at hE
    simp only at hE
    have hle:=Ue hj he
    refine Ab (B1 hr4.one) (Am (fun h=>by cases h) fun _=>?_)
    have b4:=rk _ _ _ e4 lr3 b3
    repeat' first
     | (guard_target=~need _ _;refine Ab rfl ?_)
     | (guard_target=~Ag (Ac _ _ _ _) _;refine Ad (ldB b4 rfl) ?_)
     | (guard_target=~Af (.int _) _ _;refine Ar ?_)
     | (guard_target=~Af .str _ _;refine Al ?_)
     | (guard_target=~Af .bool _ _;refine Aq ?_)
    refine Ab o3.rd.isSl ?_
    repeat' first
     | (guard_target=~need _ _;refine Ab rfl ?_)
     | (guard_target=~Ag (Ac _ _ _ _) _;refine Ad (ldB b4 rfl) ?_)
     | (guard_target=~Af (.int _) _ _;refine Ar ?_)
     | (guard_target=~Af .str _ _;refine Al ?_)
     | (guard_target=~Af .bool _ _;refine Aq ?_)
    refine Ab (B1 hr4.one) ⟨rfl,?_⟩
    refine Jd (f3.trans e4) (o3.extXD e4) (by omega) (fun h=>by cases h) fun v5 st5 e5 hbx hnb o5=>?_
    have b5:st5.box r= .cells [.int .i64 8,.str [],.str [],kv,.str []]:=by rw[hbx];exact b4
    refine EQ b5 rfl fun st6 e6 b6=>?_
    have k6:=(k4.same hbx hnb).other e6 hrp hrm
    have f6:StX (PM p m) st st6:=e5.out e6.r3 (by omega)
    have lr6:r<st6.nb:=by have h1:=e4.nb;have h2:=e6.nb;omega
    have hx6:=hx.append (AY.one hc4)
    have o6:=o5.extXD e6
    have hlen:(acc++[Gs x j k]).length=acc.length+1:=by simp
    refine Ab hr4.isSl ?_
    rw[hr4.lenS]
    by_cases hmk:k<x.s.length/\by_ x.s k=x.a
    ·rw[if_pos hmk]at hE
     rw[if_pos hmk]
     refine Aa (fun h=>absurd h (by decide)) fun _=>?_
     have hat:KQ x k=k+1:=by unfold KQ;rw[if_pos hmk]
     rw[hat]at k6
     refine⟨⟨rfl,rfl,rfl,rfl,k+1,n,_,v2,ns2,v5,_,f6,lr6,k6,b6,by rw[hlen];exact o6,hx6,by omega,by omega,by omega,by omega,by omega,hE⟩,?_⟩
     dsimp only
     rw[Dt k6.bx rfl,Dt bp3 rfl]
     omega
    ·rw[if_neg hmk]at hE
     rw[if_neg hmk]
     refine Aa (fun _=>?_) fun h=>absurd rfl h
     have hat:KQ x k=k:=by unfold KQ;rw[if_neg hmk]
     rw[hat]at k6
     have bp6:=k6.bx
     repeat' first
      | (guard_target=~need _ _;refine Ab rfl ?_)
      | (guard_target=~Ag (Ac _ _ _ _) _;refine Ad (ldB bp6 rfl) ?_)
      | (guard_target=~Af (.int _) _ _;refine Ar ?_)
      | (guard_target=~Af .str _ _;refine Al ?_)
      | (guard_target=~Af .bool _ _;refine Aq ?_)
     refine Rn rfl hle.2.1 hl k6 hrp hrm lr6 b6 (fun n7 st7 hle7 e7 k7 b7=>?_) fun o' e' k' st7 hle7 e7 k7 b7=>?_
     ·rw[hle7]at hE
      simp only[Gg,hle7]at hE
      rw[hlen]at hE
      have f7:=f6.out e7 (by omega)
      have lr7:r<st7.nb:=Nat.lt_of_lt_of_le lr6 e7.nb
      have o7:=o6.extXD e7
      have bp7:=k7.bx
      have hnd:NdC (.mk 8 [] [] (acc++[Gs x j k]) (slc x.s k (k+n7))) [.int .i64 8,.str [],.str [],v5,.str (slc x.s k (k+n7))]:=by
       unfold NdC;exact⟨v5,_,rfl,by rw[hlen];exact o7.rd,hx6⟩
      refine Am (fun h=>by cases h) fun _=>Aa (fun q0=>?_) fun q0=>?_
      ·have hn0:num=false:=by cases hb:num with | true=>exact absurd q0 (hnum1.1 hb) | false=>rfl
       rw[hn0,if_neg (by simp)]at hE
       repeat' first
        | (guard_target=~need _ _;refine Ab rfl ?_)
        | (guard_target=~Ag (Ac _ _ _ _) _;refine Ad (ldB b7 rfl) ?_)
        | (guard_target=~Af (.int _) _ _;refine Ar ?_)
        | (guard_target=~Af .str _ _;refine Al ?_)
        | (guard_target=~Af .bool _ _;refine Aq ?_)
       refine Ab o7.rd.isSl ?_
       rw[o7.rd.lenS]
       repeat' first
        | (guard_target=~need _ _;refine Ab rfl ?_)
        | (guard_target=~Ag (Ac _ _ _ _) _;refine Ad (ldB b7 rfl) ?_)
        | (guard_target=~Af (.int _) _ _;refine Ar ?_)
        | (guard_target=~Af .str _ _;refine Al ?_)
        | (guard_target=~Af .bool _ _;refine Aq ?_)
       refine EQ bp7 rfl fun st8 e8 bp8=>?_
       have b8:st8.box r= .cells [.int .i64 8,.str [],.str [],v5,.str (slc x.s k (k+n7))]:=by rw[e8.box r lr7 fun h=>hrp h.symm];exact b7
       have k8:=k7.of e8 bp8
       repeat' first
        | (guard_target=~need _ _;refine Ab rfl ?_)
        | (guard_target=~Ag (Ac _ _ _ _) _;refine Ad (ldB b8 rfl) ?_)
        | (guard_target=~Af (.int _) _ _;refine Ar ?_)
        | (guard_target=~Af .str _ _;refine Al ?_)
        | (guard_target=~Af .bool _ _;refine Aq ?_)
       refine Ab o7.rd.isSl ?_
       rw[o7.rd.lenS]
       repeat' first
        | (guard_target=~need _ _;refine Ab rfl ?_)
        | (guard_target=~Ag (Ac _ _ _ _) _;refine Ad (ldB bp8 rfl) ?_)
        | (guard_target=~Af (.int _) _ _;refine Ar ?_)
        | (guard_target=~Af .str _ _;refine Al ?_)
        | (guard_target=~Af .bool _ _;refine Aq ?_)
       refine Aa (fun h=>absurd h (by omega)) fun _=>?_
       refine Ad (NE b8) (IN ?_)
       refine Ab (B1 o7.rd.one) (h0 _ _ _ _ _ _ _ st8 hE.symm (f7.trans e8.pm) ?_ hnd)
       exact k8
      ·have hn1:num=true:=hnum1.2 q0
       rw[hn1,if_pos rfl]at hE
       repeat' first
        | (guard_target=~need _ _;refine Ab rfl ?_)
        | (guard_target=~Ag (Ac _ _ _ _) _;refine Ad (ldB b7 rfl) ?_)
        | (guard_target=~Af (.int _) _ _;refine Ar ?_)
        | (guard_target=~Af .str _ _;refine Al ?_)
        | (guard_target=~Af .bool _ _;refine Aq ?_)
       refine Ab o7.rd.isSl ?_
       rw[o7.rd.lenS]
       repeat' first
        | (guard_target=~need _ _;refine Ab rfl ?_)
        | (guard_target=~Ag (Ac _ _ _ _) _;refine Ad (ldB bp7 rfl) ?_)
        | (guard_target=~Af (.int _) _ _;refine Ar ?_)
        | (guard_target=~Af .str _ _;refine Al ?_)
        | (guard_target=~Af .bool _ _;refine Aq ?_)
       refine Aa (fun q1=>?_) fun q1=>?_
       ·rw[if_pos q1]at hE
        refine Ad (NE b7) (IN ?_)
        refine CJ k7 fun st8 e8 k8=>⟨?_,Ab (B1 o7.rd.one) (h1 _ _ _ _ _ _ _ _ st8 hE.symm (f7.trans e8) k8 o7.rd.one)⟩
        rw[ldsB (rk _ _ _ e8 lr7 b7) rfl rfl];rfl
       ·rw[if_neg q1]at hE
        refine Ad (NE b7) (IN ?_)
        exact Ab (B1 o7.rd.one) (h0 _ _ _ _ _ _ _ st7 hE.symm f7 k7 hnd)
     ·rw[hle7]at hE
      refine Am (fun _=>?_) fun h=>by cases h
      refine Ad (NE b7) (IN ?_)
      exact Ab (B1 o6.rd.one) (h1 _ _ _ _ _ _ _ _ st7 hE.symm (f6.out e7 (by omega)) k7 o6.rd.one)
   ·rw[he]at hE
    refine Ab (B1 ho4) (Am (fun _=>?_) fun h=>by cases h)
    have b4:=rk _ _ _ e4 lr3 b3
    refine Ad (NE b4) (IN ?_)
    exact Ab (B1 o3.rd.one) (h1 _ _ _ _ _ _ _ _ st4 hE.symm (f3.trans e4) k4 o3.rd.one)
  ·have hnm:num=true:=hnum1.2 (by omega)
   repeat' first
    | (guard_target=~need _ _;refine Ab rfl ?_)
    | (guard_target=~Ag (Ac _ _ _ _) _;refine Ad (ldB b3 rfl) ?_)
    | (guard_target=~Af (.int _) _ _;refine Ar ?_)
    | (guard_target=~Af .str _ _;refine Al ?_)
    | (guard_target=~Af .bool _ _;refine Aq ?_)
   refine Ab o3.rd.isSl ?_
   repeat' first
    | (guard_target=~need _ _;refine Ab rfl ?_)
    | (guard_target=~Ag (Ac _ _ _ _) _;refine Ad (ldB bp3 rfl) ?_)
    | (guard_target=~Af (.int _) _ _;refine Ar ?_)
    | (guard_target=~Af .str _ _;refine Al ?_)
    | (guard_target=~Af .bool _ _;refine Aq ?_)
   rw[o3.rd.lenS]
   refine Aa (fun q2=>?_) fun q2=>?_
   ·rw[if_pos ⟨hnm,q2⟩]at hE
    refine Ad (NE b3) (IN ?_)
    repeat' first
     | (guard_target=~need _ _;refine Ab rfl ?_)
     | (guard_target=~Ag (Ac _ _ _ _) _;refine Ad (ldB bp3 rfl) ?_)
     | (guard_target=~Af (.int _) _ _;refine Ar ?_)
     | (guard_target=~Af .str _ _;refine Al ?_)
     | (guard_target=~Af .bool _ _;refine Aq ?_)
    refine CJ k3 fun st4 e4 k4=>⟨?_,Ab (B1 o3.rd.one) (h1 _ _ _ _ _ _ _ _ st4 hE.symm (f3.trans e4) k4 o3.rd.one)⟩
    rw[ldsB (rk _ _ _ e4 lr3 b3) rfl rfl];rfl
   ·exact t fun h=>q2 h.2
end
end
theorem Nq {x:Cx} {num hd:Bool} {wid:Int} {i:Nat} {v:Int} {ns:List B8} {i':Nat} {v':Int} {ns':List B8} {r:Nd} {wid':Int} (hi:i<=x.s.length)
  (h:EY x num wid hd i v ns= .ok (i',v',ns',r,wid')):∃ks e m,r= .mk 8 [] [] ks (slc x.s e (e+m))/\i'=e+m/\Ib x.a x.q x.s i ks e m/\v'=v+(if hd then 0 else 1+(ks.length:Int))/\
   (∀k∈ks,(txt x.q (AA k)).length<=65536)/\(ks.length:Int)=wid'/\(num=true->wid'=wid)/\(hd=false->3<=x.dep/\v'<=x.nod/\ns'=ns):=by
 obtain⟨v1,h1,h⟩:=Fx h
 obtain⟨e,v2,ns2,ks,m',h2,h3,hw,hp⟩:=KF h
 simp only[Prod.mk.injEq]at hp
 obtain⟨rfl,rfl,rfl,rfl,rfl⟩:=hp
 obtain⟨ks',m,k1,k2,k3,k4,k5,k6⟩:=VR _ hi h2
 rw[List.nil_append]at k1
 subst k1
 have hl:=k2.le hi
 rw[hl.2.2.2.2]at h3
 cases h3
 refine⟨_,e,_,rfl,rfl,k2,?_,k4,?_,?_,k6⟩
 ·rw[k3,h1];cases hd<;>simp;omega
 ·cases num with
  | true=>simp only[if_true]at hw⊢;have:=k5 rfl;omega
  | false=>rfl
 ·intro hn;rw[hn];rfl
theorem recD_of {x:Cx} {num:Bool} {wid:Int} (hdep:3<=x.dep) {i:Nat} {ks:List Nd} {e m:Nat} (h:Ib x.a x.q x.s i ks e m) {v:Int} {ns:List B8}
  (hi:i<=x.s.length) (hk:∀k∈ks,(txt x.q (AA k)).length<=65536) (hw:num=true->(ks.length:Int)=wid) (hv:v+1+(ks.length:Int)<=x.nod):
  EY x num wid false i v ns= .ok (e+m,v+1+(ks.length:Int),ns,.mk 8 [] [] ks (slc x.s e (e+m)),(ks.length:Int)):=by
 have hl:=h.le hi
 have hb:D7 x.dep x.nod 2 i v= .ok (v+1):=by unfold D7;rw[if_neg (by omega),if_neg (by omega)]
 rw[EX]
 simp only[Bool.false_eq_true,if_false,hb]
 unfold Gg
 rw[recE_of hdep h (x.s.length+1) (acc:=[]) (v:=v+1) (ns:=ns) hi (by omega) hk (fun hn=>by rw[List.length_nil,Nat.zero_add,hw hn];omega) (by omega)]
 simp only[hl.2.2.2.2]
 cases num with
 | true=>have:=hw rfl;simp only[if_true,List.nil_append];rw[<-this,if_neg (by omega)]
 | false=>simp only[Bool.false_eq_true,if_false,List.nil_append];rw[if_neg (by omega)]
theorem UQ {x:Cx} {num:Bool} {wid:Int} (d' n':Int) {i:Nat} {v:Int} {ns:List B8}:EY (x.lim d' n') num wid true i v ns=EY x num wid true i v ns:=by
 rw[EX,EX,if_pos rfl,if_pos rfl]
 have:=UO (x:=x) (num:=num) (wid:=wid) d' n' (x.s.length+1) (acc:=[]) (i:=i) (v:=v) (ns:=ns)
 show Gg x.s num wid (BM (x.lim d' n') num wid true (x.s.length+1) [] i v ns)=_
 rw[this]
theorem VT {x:Cx} {num:Bool} {wid:Int} {d' n':Int} {i:Nat} {v:Int} {ns:List B8} {i':Nat} {v':Int} {ns':List B8} {r:Nd} {wid':Int}
  (h:EY x num wid false i v ns= .ok (i',v',ns',r,wid')):v+1<v'/\(3<=d'->v'<=n'->EY (x.lim d' n') num wid false i v ns= .ok (i',v',ns',r,wid'))/\
   (3<=d'->n'<v'->∃o,EY (x.lim d' n') num wid false i v ns= .error (o,10))/\(d'=2->v<n'->∃o,EY (x.lim d' n') num wid false i v ns= .error (o,9)):=by
 obtain⟨v1,h1,h⟩:=Fx h
 have h1:v1=v+1:=by simpa using h1
 subst h1
 obtain⟨e,v2,ns2,ks,m,h2,h3,hw,hp⟩:=KF h
 simp only[Prod.mk.injEq]at hp
 obtain⟨rfl,rfl,rfl,rfl,rfl⟩:=hp
 obtain⟨k0,k1,k2,k3⟩:=VQ (d':=d') (n':=n') _ h2
 have b1:2<=d'->v<n'->D7 d' n' 2 i v= .ok (v+1):=fun g1 g2=>by unfold D7;rw[if_neg (by omega),if_neg (by omega)]
 have b2:2<=d'->n'<=v->D7 d' n' 2 i v= .error (i,10):=fun g1 g2=>by unfold D7;rw[if_neg (by omega),if_pos g2]
 rw[EX]
 simp only[Bool.false_eq_true,if_false]
 refine⟨by omega,fun g1 g2=>?_,fun g1 g2=>?_,fun g1 g2=>?_⟩
 ·rw[b1 (by omega) (by omega)]
  show Gg x.s num wid (BM (x.lim d' n') num wid false (x.s.length+1) [] i (v+1) ns)=_
  rw[k1 g1 g2]
  simp only[Gg,h3]
  rw[if_neg hw]
 ·by_cases hv:n'<=v
  ·rw[b2 (by omega) hv];exact⟨_,rfl⟩
  ·rw[b1 (by omega) (by omega)]
   obtain⟨o,ho⟩:=k2 g1 g2
   exact⟨o,by show Gg x.s num wid (BM (x.lim d' n') num wid false (x.s.length+1) [] i (v+1) ns)=_;rw[ho];rfl⟩
 ·rw[b1 (by omega) (by omega)]
  obtain⟨o,ho⟩:=k3 (by omega)
  exact⟨o,by show Gg x.s num wid (BM (x.lim d' n') num wid false (x.s.length+1) [] i (v+1) ns)=_;rw[ho];rfl⟩
def KU (r:Nd):Int:=1+((At r).length:Int)
def EC:List Nd->Int
 | []=>0
 | r::rs=>KU r+EC rs
theorem Fc:∀rs,0<=EC rs
 | []=>by simp[EC]
 | r::rs=>by have:=Fc rs;simp only[EC,KU];omega
def D1 (hd:Bool) (rs:List Nd):Int:=if hd then EC rs.tail else EC rs
theorem OU {x:Cx} {num hd:Bool} {wid:Int}:∀(n:Nat) {acc:List Nd} {i:Nat} {v:Int} {ns:List B8} {e:Nat} {v':Int} {ns':List B8} {out:List Nd},
  BM x num wid hd n acc i v ns= .ok (e,v',ns',out)->v'=v+(if hd then 0 else(out.length:Int)-acc.length):=by
 intro n
 induction n with
 | zero=>intro acc i v ns e v' ns' out h;simp only[BM]at h;cases h
 | succ n ih=>
  intro acc i v ns e v' ns' out h
  simp only[BM]at h
  split at h
  ·cases h
  simp only[bind,Except.bind]at h
  split at h
  ·cases h
  rename_i p he
  obtain⟨e1,v1,ns1⟩:=p
  have c3:v1=v+(if hd then 0 else 1):=by
   cases hd with
   | false=>simpa using (KP he).2.2.1
   | true=>simpa using (LM he).1
  simp only at h
  split at h
  ·have:=ih h
   rw[this,c3]
   cases hd<;>simp
   omega
  ·split at h
   ·cases h
   cases h
   rw[c3]
   cases hd<;>simp
   omega
theorem recE_v1 {x:Cx} {num:Bool} {wid:Int} (n:Nat) {acc:List Nd} {i:Nat} {v:Int} {ns:List B8} {e:Nat} {v':Int} {ns':List B8} {out:List Nd}
  (h:BM x num wid true n acc i v ns= .ok (e,v',ns',out)):v'=v:=by simpa using OU n h
theorem UR {x:Cx} {num:Bool} {wid:Int} {i:Nat} {v:Int} {ns:List B8} {i':Nat} {v':Int} {ns':List B8} {r:Nd} {wid':Int}
  (h:EY x num wid false i v ns= .ok (i',v',ns',r,wid')):v'=v+KU r:=by
 obtain⟨v1,h1,h⟩:=Fx h
 have h1:v1=v+1:=by simpa using h1
 subst h1
 obtain⟨e,v2,ns2,ks,m,h2,h3,hw,hp⟩:=KF h
 simp only[Prod.mk.injEq]at hp
 obtain⟨rfl,rfl,rfl,rfl,rfl⟩:=hp
 have:=OU _ h2
 simp only[Bool.false_eq_true,if_false,List.length_nil]at this
 simp only[KU,At];omega
theorem NT {x:Cx} {hdr:Bool}:∀(n:Nat) {acc:List Nd} {i:Nat} {v:Int} {ns:List B8} {wid:Int} {out:List Nd},i<=x.s.length->Ds x hdr n acc i v ns wid= .ok out->
  ∃rs,out=acc++rs/\IT x.a x.q x.s i rs/\(∀r∈rs,∀k∈At r,(txt x.q (AA k)).length<=65536)/\(∃W:Int,(acc≠ []->W=wid)/\∀r∈rs,((At r).length:Int)=W)/\
   (D1 (hdr&&acc.isEmpty) rs=0∨3<=x.dep/\v+D1 (hdr&&acc.isEmpty) rs<=x.nod):=by
 intro n
 induction n with
 | zero=>intro acc i v ns wid out hi h;simp only[Ds]at h;cases h
 | succ n ih=>
  intro acc i v ns wid out hi h
  simp only[Ds]at h
  split at h
  ·rename_i hl
   cases h
   exact⟨[],by simp,.nil hl,fun r hr=>(by cases hr),⟨wid,fun _=>rfl,fun r hr=>(by cases hr)⟩,.inl (by unfold D1;cases (hdr&&acc.isEmpty)<;>rfl)⟩
  rename_i hl
  simp only[bind,Except.bind]at h
  split at h
  ·cases h
  rename_i p h1
  obtain⟨i',v',ns',r,wid'⟩:=p
  obtain⟨ks,e,m,rfl,rfl,k2,k3,k4,k5,k6,k7⟩:=Nq hi h1
  have hle:=k2.le hi
  obtain⟨rs,j1,j2,j3,⟨W,j4,j5⟩,j6⟩:=ih (by omega) h
  have hW:W=wid':=j4 (by simp)
  refine⟨_::rs,by rw[j1,List.append_assoc];rfl,.cons (by omega) k2 j2,?_,⟨W,fun hne=>?_,?_⟩,?_⟩
  ·intro r hr
   rcases List.mem_cons.1 hr with rfl | hr
   ·exact k4
   ·exact j3 r hr
  ·rw[hW];exact k6 (by cases acc;exact absurd rfl hne;rfl)
  ·intro r hr
   rcases List.mem_cons.1 hr with rfl | hr
   ·rw[hW];exact k5
   ·exact j5 r hr
  ·have hnil:(hdr&&(acc++[Nd.mk 8 [] [] ks (slc x.s e (e+m))]).isEmpty)=false:=by cases acc<;>simp
   rw[hnil]at j6
   have hcn:=Fc rs
   cases hh:(hdr&&acc.isEmpty)with
   | true=>
    rw[hh]at k3 k7
    simp only[D1,if_true,List.tail_cons,Bool.false_eq_true,if_false]at j6 k3⊢
    rcases j6 with j6 | j6
    ·exact .inl j6
    ·right;omega
   | false=>
    rw[hh]at k3 k7
    have k7:=k7 rfl
    simp only[D1,Bool.false_eq_true,if_false,EC,KU,At]at j6 k3⊢
    right
    rcases j6 with j6 | j6
    ·exact⟨k7.1,by omega⟩
    ·exact⟨k7.1,by omega⟩
theorem Ui {x:Cx} (hdep:3<=x.dep) {W:Int}:∀{i:Nat} {rs:List Nd},IT x.a x.q x.s i rs->∀(n:Nat) {acc:List Nd} {v:Int} {ns:List B8} {wid:Int},i<=x.s.length->x.s.length<i+n->
  (∀r∈rs,∀k∈At r,(txt x.q (AA k)).length<=65536)->(acc≠ []->wid=W)->(∀r∈rs,((At r).length:Int)=W)->v+EC rs<=x.nod->Ds x false n acc i v ns wid= .ok (acc++rs):=by
 intro i rs h
 induction h with
 | nil h=>
  intro n acc v ns wid hi hn hk hw hW hv
  cases n with
  | zero=>omega
  | succ n=>simp only[Ds];rw[if_pos h,List.append_nil]
 | @cons i e m ks rs h1 h2 h3 ih=>
  intro n acc v ns wid hi hn hk hw hW hv
  cases n with
  | zero=>omega
  | succ n=>
  have hle:=h2.le hi
  have hks:(ks.length:Int)=W:=hW _ (List.mem_cons_self ..)
  have hm:0<e+m-i:=by
   rcases Nat.eq_zero_or_pos m with h0 | h0
   ·have:=(Ey (by omega) hle.2.2.2.2).2.1 h0;omega
   ·omega
  simp only[EC,KU,At]at hv
  have hcn:=Fc rs
  simp only[Ds,Bool.false_and]
  rw[if_neg (by omega),recD_of hdep h2 hi (hk _ (List.mem_cons_self ..)) (fun hn=>by rw[hks];exact(hw (by rintro rfl;simp at hn)).symm) (by omega)]
  simp only[bind,Except.bind]
  rw[ih n (by omega) (by omega) (fun r hr=>hk r (List.mem_cons_of_mem _ hr)) (fun _=>hks) (fun r hr=>hW r (List.mem_cons_of_mem _ hr)) (by omega),List.append_assoc]
  rfl
theorem WL {x:Cx} {hdr:Bool} {d' n':Int}:∀(n:Nat) {acc:List Nd} {i:Nat} {v:Int} {ns:List B8} {wid:Int} {out:List Nd},Ds x hdr n acc i v ns wid= .ok out->
  ∃rs,out=acc++rs/\((D1 (hdr&&acc.isEmpty) rs=0∨3<=d')->v+D1 (hdr&&acc.isEmpty) rs<=n'->Ds (x.lim d' n') hdr n acc i v ns wid= .ok out)/\
   (0<D1 (hdr&&acc.isEmpty) rs->3<=d'->n'<v+D1 (hdr&&acc.isEmpty) rs->∃o,Ds (x.lim d' n') hdr n acc i v ns wid= .error (o,10))/\
   (0<D1 (hdr&&acc.isEmpty) rs->d'=2->v+D1 (hdr&&acc.isEmpty) rs<=n'->∃o,Ds (x.lim d' n') hdr n acc i v ns wid= .error (o,9)):=by
 intro n
 induction n with
 | zero=>intro acc i v ns wid out h;simp only[Ds]at h;cases h
 | succ n ih=>
  intro acc i v ns wid out h
  simp only[Ds]at h⊢
  split at h
  ·rename_i hl
   cases h
   have h0:D1 (hdr&&acc.isEmpty) []=0:=by unfold D1;cases (hdr&&acc.isEmpty)<;>rfl
   refine⟨[],by simp,?_⟩
   rw[h0]
   exact⟨fun _ _=>by rw[if_pos hl],fun h=>absurd h (by decide),fun h=>absurd h (by decide)⟩
  rename_i hl
  rw[if_neg hl]
  simp only[bind,Except.bind]at h⊢
  split at h
  ·cases h
  rename_i p h1
  obtain⟨i',v',ns',r,wid'⟩:=p
  obtain⟨rs,j1,j2,j3,j4⟩:=ih h
  have hnil:(hdr&&(acc++[r]).isEmpty)=false:=by cases acc<;>simp
  rw[hnil]at j2 j3 j4
  have hcn:=Fc rs
  refine⟨r::rs,by rw[j1,List.append_assoc];rfl,?_⟩
  cases hh:(hdr&&acc.isEmpty)with
  | true=>
   rw[hh]at h1
   rw[UQ,h1]
   have hv:v'=v:=by
    obtain⟨v1,h3,h4⟩:=Fx h1
    have h3:v1=v:=by simpa using h3
    subst h3
    obtain⟨e,v2,ns2,ks,m,h2,h5,hw,hp⟩:=KF h4
    simp only[Prod.mk.injEq]at hp
    obtain⟨rfl,rfl,rfl,rfl,rfl⟩:=hp
    exact recE_v1 _ h2
   subst hv
   simp only[D1,if_true,List.tail_cons,Bool.false_eq_true,if_false]at j2 j3 j4⊢
   exact⟨j2,j3,j4⟩
  | false=>
   rw[hh]at h1
   have hc:v'=v+KU r:=UR h1
   obtain⟨k0,k1,k2,k3⟩:=VT (d':=d') (n':=n') h1
   simp only[D1,Bool.false_eq_true,if_false,EC]at j2 j3 j4⊢
   refine⟨fun g1 g2=>?_,fun g0 g1 g2=>?_,fun g0 g1 g2=>?_⟩
   ·have:3<=d':=by rcases g1 with g1 | g1;omega;exact g1
    rw[k1 this (by omega)]
    exact j2 (.inr this) (by omega)
   ·by_cases hv:n'<v'
    ·obtain⟨o,ho⟩:=k2 g1 hv
     rw[ho];exact⟨_,rfl⟩
    ·rw[k1 g1 (by omega)]
     by_cases h0:0<EC rs
     ·exact j3 h0 g1 (by omega)
     ·omega
   ·obtain⟨o,ho⟩:=k3 g1 (by omega)
    rw[ho];exact⟨_,rfl⟩
def AV (x:Cx) (hd:Bool) (l2 l3 l4:Int):Except (Nat×Int) Nd:=
 if dOk x.a x.q=false then .error (0,1)else if lOk x.dep x.nod l2 l3 l4=false then .error (0,1)else if l2<x.s.length then .error (0,10)else if Bh x.s≠x.s.length then .error (Bh x.s,5)
 else match Ds x hd (x.s.length+1) [] 0 1 [] 0 with
  | .error e=> .error e
  | .ok rs=> .ok (.mk 1 [] [] rs [])
def pN:Except (Nat×Int) Nd->Nd | .ok n=>n | .error _=> .mk 0 [] [] [] []
def pO:Except (Nat×Int) Nd->Int | .ok _=>0 | .error e=>e.1
def pE:Except (Nat×Int) Nd->Int | .ok _=>0 | .error e=>e.2
theorem LO (x:Cx) (hdr:Bool) (n:Nat) (acc:List Nd) (i:Nat) (v:Int) (ns:List B8) (wid:Int):Ds x hdr (n+1) acc i v ns wid=
  if x.s.length<=i then .ok acc else match EY x (!acc.isEmpty) wid (hdr&&acc.isEmpty) i v ns with
   | .error e=> .error e
   | .ok (i',v',ns',r,wid')=>Ds x hdr n (acc++[r]) i' v' ns' wid':=by
 simp only[Ds,bind,Except.bind]
 by_cases h:x.s.length<=i
 ·rw[if_pos h,if_pos h]
 ·rw[if_neg h,if_neg h]
  rcases EY x (!acc.isEmpty) wid (hdr&&acc.isEmpty) i v ns with e | ⟨i',v',ns',r,wid'⟩<;>rfl
theorem PZ {x:Cx} {num hd:Bool} {wid:Int} {i:Nat} {v:Int} {ns:List B8} {i':Nat} {v':Int} {ns':List B8} {r:Nd} {wid':Int} (hi:i<x.s.length)
  (h:EY x num wid hd i v ns= .ok (i',v',ns',r,wid')):i<i'/\i'<=x.s.length/\v<=v'/\v'<=v+3*(i'-i:Nat)/\1<=wid':=by
 obtain⟨ks,e,m,rfl,rfl,k2,k3,k4,k5,k6,k7⟩:=Nq (by omega) h
 have hle:=k2.le (by omega)
 have hpos:1<=e+m-i:=by
  have:=(Ey (by omega) hle.2.2.2.2).2.1
  rcases Nat.eq_zero_or_pos m with h0 | h0
  ·have:=this h0;omega
  ·omega
 cases hd<;>simp at k3<;>omega
theorem OY {x:Cx} {hd ty:Bool} {l2 l3 l4:Int} {st:St} {K:Int->B8->B8->TV->B8->Int->Int->St->Prop} (hl:x.s.length<=2000000)
  (hk:∀k kv st',As st st'->NdC (pN (AV x hd l2 l3 l4)) [.int .i64 k,.str [],.str [],kv,.str []]->K k [] [] kv [] (pO (AV x hd l2 l3 l4)) (pE (AV x hd l2 l3 l4)) st'):
  CallT PR DW [.str x.s,.agg [.int .u8 x.a,.int .u8 x.q,.bool hd,.bool ty],.agg [.int .i64 x.dep,.int .i64 x.nod,.int .i64 l2,.int .i64 l3,.int .i64 l4]] [.agg [.int .i64,.str,.str,.tv,.str],.one (.int .i64),.one (.int .i64)] st K:=by
 generalize hP:AV x hd l2 l3 l4=P at hk
 unfold AV at hP
 have hnil:NdC (.mk 0 [] [] [] []) [.int .i64 0,.str [],.str [],.nilSlice,.str []]:=by unfold NdC;exact⟨_,[],rfl,.inl ⟨rfl,rfl,rfl⟩,AY.nil⟩
 have bad:∀(o:Nat) (e:Int) st',P= .error (o,e)->As st st'->K 0 [] [] .nilSlice [] o e st':=fun o e st' h he=>by
  have:=hk 0 .nilSlice st' he (by rw[h];exact hnil)
  rwa [h]at this
 refine MY x.s x.a x.q hd ty x.dep x.nod l2 l3 l4 st K (LN (Am (fun g=>?_) fun g=>?_))
 ·have g:dOk x.a x.q=false:=by simpa using g
  rw[if_pos g]at hP
  exact bad _ _ st hP.symm (As.refl _)
 have g:dOk x.a x.q=true:=by simpa using g
 rw[if_neg (by rw[g];decide)]at hP
 refine SL (Am (fun g=>?_) fun g=>?_)
 ·have g:lOk x.dep x.nod l2 l3 l4=false:=by simpa using g
  rw[if_pos g]at hP
  exact bad _ _ st hP.symm (As.refl _)
 have g:lOk x.dep x.nod l2 l3 l4=true:=by simpa using g
 rw[if_neg (by rw[g];decide)]at hP
 refine Aa (fun g=>?_) fun g=>?_
 ·rw[if_pos g]at hP
  exact bad _ _ st hP.symm (As.refl _)
 rw[if_neg g]at hP
 refine SX hl (Aa (fun g=>?_) fun g=>?_)
 ·have h2:Bh x.s≠x.s.length:=fun h=>by rw[if_pos h]at g;omega
  rw[if_neg h2]
  rw[if_pos h2]at hP
  exact bad _ _ st hP.symm (As.refl _)
 have h2:Bh x.s=x.s.length:=Decidable.byContradiction fun h=>by rw[if_neg h]at g;omega
 rw[if_neg (by rw[h2];simp)]at hP
 refine Ab rfl ?_
 obtain⟨m,hm⟩:∃m,m=st.nb:=⟨_,rfl⟩
 obtain⟨p,hp⟩:∃p,p=(st.push (.map []) none).nb:=⟨_,rfl⟩
 rw[<-hm,<-hp]
 have hpm:p=m+1:=by rw[hp,hm];rfl
 obtain⟨sa,hsa⟩:∃sa,sa=st.push (.map []) none:=⟨_,rfl⟩
 rw[<-hsa]at hp⊢
 obtain⟨sb,hsb⟩:∃sb,sb=sa.push (.cells (pcl x hd ty l2 l3 l4 m 0 1 0 0 0)) (some 180):=⟨_,rfl⟩
 have e0:As st sb:=by rw[hsb,hsa];exact((As.refl st).push _ _).push _ _
 have k0:PSD p m x hd ty l2 l3 l4 [] 0 1 0 0 0 sb:=by
  refine⟨by omega,by rw[hsb,hp];simp[St.push],by rw[hsb,hsa,hm];simp[St.push];omega,by rw[hsb,hp];exact GV _ _ _,[],?_,fun t=>by simp[CT]⟩
  rw[hsb,hsa,hm]
  simp[St.push]
 have lim:∀st',StX (PM p m) sb st'->As st st':=fun st' h=>StX.ext e0 h fun i hi=>by rcases hi with h | h<;>omega
 refine⟨fun s' p' kd le tx kv tl st'=>x.s=s'/\TV.box p 0=p'/\1=kd/\[]=le/\[]=tx/\[]=tl/\∃(j n:Nat) (acc:List Nd) (v w:Int) (ns:List B8) (xs:List TV),StX (PM p m) sb st'/\PSD p m x hd ty l2 l3 l4 ns j v w 0 0 st'/\
   Own sb.nt 5 st' kv acc.length xs/\AY acc xs/\j<=x.s.length/\x.s.length<j+n/\acc.length<=j/\0<=v/\v<=1+3*j/\(match Ds x hd n acc j v ns w with | .error e=> .error e | .ok rs=> .ok (.mk 1 [] [] rs []))=P,
  fun _ _ _ _ _ _ _ st'=>(x.s.length-Mb st' p 10).toNat,⟨rfl,rfl,rfl,rfl,rfl,rfl,0,x.s.length+1,[],1,0,[],[],hsb▸StX.refl _ _,hsb▸k0,Own.nil _ _ _,AY.nil,by omega,by omega,by simp,by omega,by omega,hP⟩,?_⟩
 rintro _ _ _ _ _ kv _ st3 ⟨rfl,rfl,rfl,rfl,rfl,rfl,j,n,acc,v,w,ns,xs,f3,k3,o3,hx,hj,hjn,hac,hv0,hv,hE⟩
 have b3:=k3.bx
 cases n with
 | zero=>omega
 | succ n=>
 rw[LO]at hE
 repeat' first
  | (guard_target=~need _ _;refine Ab rfl ?_)
  | (guard_target=~Ag (Ac _ _ _ _) _;refine Ad (ldB b3 rfl) ?_)
  | (guard_target=~Af (.int _) _ _;refine Ar ?_)
  | (guard_target=~Af .str _ _;refine Al ?_)
  | (guard_target=~Af .bool _ _;refine Aq ?_)
 refine Aa (fun q=>Ab o3.rd.isSl ?_) fun q=>?_
 ·rw[if_neg (by omega)]at hE
  rw[o3.rd.lenS]
  have hN1:decide (((acc.length:Nat):Int)≠0)= !acc.isEmpty:=by
   cases acc with
   | nil=>rfl
   | cons a l=>exact decide_eq_true (by simp only[List.length_cons];omega)
  have hN2:(decide (((acc.length:Nat):Int)=0)&&hd)=(hd&&acc.isEmpty):=by
   cases acc with
   | nil=>cases hd<;>rfl
   | cons a l=>rw[decide_eq_false (by simp only[List.length_cons];omega)];cases hd<;>rfl
  refine Sx rfl hj hl hv0 (by omega) (by omega) k3 (fun k v1 ns1 r w1 kv1 tl st4 hr e4 k4 hc4=>?_) fun o' e' ns1 k v1 w1 kv1 tl st4 hr e4 k4 ho4=>?_
  ·rw[hN1,hN2]at hr
   rw[hr]at hE
   simp only at hE
   have hle:=PZ (by omega) hr
   have hone:Ap kv1=true:=by
    obtain⟨a,b,c,d,f⟩:=r
    unfold NdC at hc4
    obtain⟨u,ys,hu,hu2,_⟩:=hc4
    cases hu
    exact hu2.one
   refine Ab (B1 hone) (Am (fun h=>by cases h) fun _=>Ab (B1 hone) ?_)
   refine Jd (f3.trans e4) (o3.extXD e4) (by omega) (fun h=>by cases h) fun v5 st5 e5 hbx hnb o5=>Ab (HG o5.rd.one) ?_
   have hlen:(acc++[r]).length=acc.length+1:=by simp
   refine⟨⟨rfl,rfl,rfl,rfl,rfl,rfl,k,n,acc++[r],v1,w1,ns1,_,e5,k4.same hbx hnb,by rw[hlen];exact o5,hx.append (AY.one hc4),by omega,by omega,by omega,by omega,by omega,hE⟩,?_⟩
   dsimp only
   rw[Dt (k4.same hbx hnb).bx rfl,Dt b3 rfl]
   omega
  ·rw[hN1,hN2]at hr
   rw[hr]at hE
   simp only at hE
   refine Ab (B1 ho4) (Am (fun _=>?_) fun h=>by cases h)
   have b4:=k4.bx
   repeat' first
    | (guard_target=~need _ _;refine Ab rfl ?_)
    | (guard_target=~Ag (Ac _ _ _ _) _;refine Ad (ldB b4 rfl) ?_)
    | (guard_target=~Af (.int _) _ _;refine Ar ?_)
    | (guard_target=~Af .str _ _;refine Al ?_)
    | (guard_target=~Af .bool _ _;refine Aq ?_)
   exact bad _ _ st4 hE.symm (lim _ (f3.trans e4))
 ·rw[if_pos (by omega)]at hE
  simp only at hE
  subst hE
  exact Ab (B1 o3.rd.one) (hk 1 kv st3 (lim _ f3) (by unfold pN NdC;exact⟨kv,xs,rfl,o3.rd,hx⟩))
def Vb (a:Int) (s:B8) (i:Nat):Except (Nat×Int) Unit:=if i<s.length/\by_ s i≠a then(match BZ s i with | .ok _=> .ok () | .error e=> .error e)else .ok ()
theorem LC {s:B8} {i o:Nat} {c:Int} (h:BZ s i= .error (o,c)):(o=i/\c=3)∨(o=s.length/\c=4):=by
 unfold BZ at h
 repeat' split at h
 all_goals first | cases h | skip
 all_goals simp
theorem PW {s:B8} {a q:Int} {hd ty:Bool} {l0 l1 l2 l3 l4 I off err:Int} {v:Int} {i:Nat} (hI:I=(i:Int)) (hi:i<=s.length) (hl:s.length<=2000000) {st:St} {K:B8->Int->Int->Bool->Bool->Int->Int->Int->Int->Int->Int->Int->Int->Int->St->Prop}
  (h0:Vb a s i= .ok ()->K s a q hd ty l0 l1 l2 l3 l4 (i:Int) v off err st)
  (h1:∀o c,Vb a s i= .error (o,c)->K s a q hd ty l0 l1 l2 l3 l4 (i:Int) v (if err=0 then(o:Int)else off) (if err=0 then c else err) st):
  CallT PR AS [rst s a q hd ty l0 l1 l2 l3 l4 I v off err] [rsh] st K:=by
 subst hI
 unfold Vb at h0 h1
 have fin:∀(o:Nat) (c:Int),(K s a q hd ty l0 l1 l2 l3 l4 (i:Int) v (if err=0 then(o:Int)else off) (if err=0 then c else err) st)->CallT PR Ai [rst s a q hd ty l0 l1 l2 l3 l4 (i:Int) v off err,.int .i64 (o:Int),.int .i64 c] [rsh] st K:=fun o c h=>
  DH (fun h2=>by rwa [if_pos h2,if_pos h2]at h) fun h2=>by rwa [if_neg h2,if_neg h2]at h
 refine Gd s a q hd ty l0 l1 l2 l3 l4 (i:Int) v off err st K (Aa (fun g=>⟨⟨by omega,by omega⟩,Aa (fun g2=>Uf rfl hi hl ?_) fun g2=>?_⟩) fun g=>?_)
 ·have hc:i<s.length/\by_ s i≠a:=⟨by omega,g2⟩
  rw[if_pos hc]at h0 h1
  cases hle:BZ s i with
  | ok n=>
   rw[hle]at h0
   exact Aa (fun h=>by simp at h) fun _=>Aa (fun h=>by simp at h) fun _=>h0 rfl
  | error p=>
   obtain⟨o,c⟩:=p
   rw[hle]at h1
   rcases LC hle with⟨rfl,rfl⟩ | ⟨rfl,rfl⟩
   ·exact Aa (fun _=>fin _ _ (h1 _ _ rfl)) fun h=>absurd rfl h
   ·exact Aa (fun h=>by simp at h) fun _=>Aa (fun _=>fin _ _ (h1 _ _ rfl)) fun h=>absurd rfl h
 ·rw[if_neg (by rintro⟨_,h⟩;exact g2 h)]at h0;exact h0 rfl
 ·rw[if_neg (by rintro⟨h,_⟩;omega)]at h0;exact h0 rfl
theorem OS {s:B8} {a q:Int} {x y:Bool} (hw:Mf q s) (hl:s.length<=2000000) {st:St} {K:B8->St->Prop} (hk:K (txt q s) st):
  CallT PR Bc [.str s,.agg [.int .u8 a,.int .u8 q,.bool x,.bool y]] [.one (.str)] st K:=by
 refine HR s a q x y st K (Aa (fun g=>?_) fun g=>⟨⟨by omega,?_⟩,Aa (fun g2=>?_) fun g2=>?_⟩)
 ·subst g;simpa [txt]using hk
 ·cases s with
  | nil=>exact absurd rfl g
  | cons b l=>simp
 ·have g2':by_ s 0≠q:=g2
  unfold txt at hk
  rw[if_pos (.inr g2')]at hk;exact hk
 ·have g2':¬by_ s 0≠q:=g2
  rcases hw with h | h | ⟨c,t,hc,h⟩
  ·exact absurd h g
  ·exact absurd h g2'
  rw[h,M5 hc]at hk
  have hlen:s.length=(dbl c t).length+2:=by rw[h];simp
  refine⟨fun out i s1 n1 n2 b1 b2 st1=>s=s1/\q=n2/\st=st1/\∃t1 t2,t=t1++t2/\out=t1/\i=((1+(dbl c t1).length:Nat):Int),fun _ i _ _ _ _ _ _=>(s.length-i).toNat,⟨rfl,rfl,rfl,[],t,rfl,rfl,rfl⟩,?_⟩
  rintro t1 _ _ _ _ _ _ _ ⟨rfl,rfl,rfl,_,t2,rfl,rfl,rfl⟩
  have hd:dbl c (t1++t2)=dbl c t1++dbl c t2:=MI c t1 t2
  rw[hd,List.length_append]at hlen
  generalize hi:1+(dbl c t1).length=i at*
  have hdrop:s.drop i=dbl c t2++[c]:=by
   rw[h,<-hi,hd,Nat.add_comm,List.drop_succ_cons,List.append_assoc,List.drop_left]
  have ht1:t1.length<=(dbl c t1).length:=by
   clear hdrop hi hlen hd h hk
   induction t1 with
   | nil=>simp
   | cons b t ih=>rw[Cp];split<;>simp<;>omega
  rw[Ah ((i:Int)+1) (by omega) (by omega),show Int.toNat (i:Int)=i from rfl]
  cases t2 with
  | nil=>
   refine Aa (fun q1=>?_) fun q1=>?_
   ·exfalso
    have h0:(dbl c []).length=0:=rfl
    omega
   ·simpa using hk
  | cons b t2=>
   have hb:s.drop i=b::s.drop (i+1):=by
    have:i<s.length:=by omega
    rw[List.drop_eq_getElem_cons this]
    congr 1
    have h2:s.getD i 0=(s.drop i).getD 0 0:=by rw[GM];rfl
    have h3:s.getD i 0=s[i]:=by rw[List.getD_eq_getElem?_getD,List.getElem?_eq_getElem this];rfl
    rw[<-h3,h2,hdrop,Cp]
    split
    ·rename_i hbc;simp[hbc]
    ·simp
   have hget:(s.getD i 0)=b:=by
    have:(s.drop i).getD 0 0=b:=by rw[hb];rfl
    simpa [List.getD_eq_getElem?_getD]using this
   have hsl:List.drop i (List.take (Int.toNat ((i:Int)+1)) s)=[b]:=by
    rw[show Int.toNat ((i:Int)+1)=i+1 by omega,List.drop_take,hb]
    simp
   have hlc:=congrArg List.length (Cp c b t2)
   refine Aa (fun q1=>⟨⟨by omega,by omega,by omega⟩,?_,⟨by omega,by omega⟩,Aa (fun q2=>?_) fun q2=>?_⟩) fun q1=>?_
   ·rw[hsl];simp only[List.length_cons,List.length_nil];omega
   ·rw[hget]at q2
    have hbc:b=c:=UInt8.toNat_inj.1 (by omega)
    rw[hsl,Ah ((i:Int)+1+1) (by omega) (by omega)]
    rw[if_pos hbc]at hlc
    refine⟨⟨rfl,rfl,rfl,t1++[b],t2,by simp,rfl,?_⟩,by dsimp only;omega⟩
    have h0:(dbl c [b]).length=2:=by rw[hbc];simp[dbl,M9]
    rw[MI,List.length_append];omega
   ·rw[hget]at q2
    have hbc:b≠c:=fun hh=>q2 (by rw[hh];exact hc)
    rw[hsl]
    refine⟨⟨rfl,rfl,rfl,t1++[b],t2,by simp,rfl,?_⟩,by dsimp only;omega⟩
    have h0:(dbl c [b]).length=1:=by simp[dbl,M9,hbc]
    rw[MI,List.length_append];omega
   ·rw[hlc]at hlen
    split at hlen<;>simp at hlen<;>omega
section
def RSD (x:Cx) (hd ty:Bool) (l2 l3 l4:Int) (s:B8) (a q:Int) (h t:Bool) (m0 m1 m2 m3 m4:Int):Prop:=x.s=s/\x.a=a/\x.q=q/\hd=h/\ty=t/\x.dep=m0/\x.nod=m1/\l2=m2/\l3=m3/\l4=m4
theorem RSD.refl (x:Cx) (hd ty:Bool) (l2 l3 l4:Int):RSD x hd ty l2 l3 l4 x.s x.a x.q hd ty x.dep x.nod l2 l3 l4:=⟨rfl,rfl,rfl,rfl,rfl,rfl,rfl,rfl,rfl,rfl⟩
def QB {α:Type} (E:Except (Nat×Int) α) (off err:Int):Prop:=err≠0/\∃o:Nat,off=(o:Int)/\E= .error (o,err)
theorem KX {dep nod d:Int} {i:Nat} {v:Int} {o:Nat} {c:Int} (h:D7 dep nod d i v= .error (o,c)):c≠0:=by
 unfold D7 at h
 split at h
 ·cases h;decide
 split at h
 ·cases h;decide
 ·cases h
theorem Ps {a q:Int} {s:B8} {i o:Nat} {c:Int} (h:Bq a q s i= .error (o,c)):c≠0:=by
 unfold Bq at h
 split at h<;>split at h<;>cases h<;>decide
theorem strs_ld {v:TV} {L:List B8} (h:Rd 1 v L.length (L.map TV.str)) (st:St) {i:Nat} {t:B8} (ht:L[i]? =some t):Ac st [] (.t (ixT 1 v i)) 0=some (.str t):=
 h.ldx st i 0 (by rw[Nat.mul_one,Nat.add_zero,List.getElem?_map,ht];rfl)
theorem Vs {b:Bool} {H A X:Prop} (t:H->X) (h1:b=true->(H->X)->A) (h2:b=false->H):BIf b A X:=Am (fun q=>h1 q t) fun q=>t (h2 q)
theorem WB {a:Int} {s:B8} {i o:Nat} {c:Int} (h:Vb a s i= .error (o,c)):c≠0/\by_ s i≠a/\BZ s i= .error (o,c):=by
 unfold Vb at h
 split at h
 ·rename_i hc
  split at h
  ·cases h
  ·rename_i e he
   cases h
   refine⟨?_,hc.2,he⟩
   rcases LC he with h | h<;>rw[h.2]<;>decide
 ·cases h
def TL:TV->Option Nat
 | .list _ (.own id) _ _=>some id
 | _=>none
def IX (u v:TV):Prop:=∀id,TL u=some id->TL v≠some id
theorem IX.symm {u v:TV} (h:IX u v):IX v u:=fun id h1 h2=>h id h2 h1
theorem Own.tip_lt {b sz:Nat} {st:St} {v:TV} {n:Nat} {xs:List TV} (h:Own b sz st v n xs) {id:Nat} (hi:TL v=some id):id<st.nt:=by
 rcases h with⟨rfl,_⟩ | ⟨tip,rfl,rfl | ⟨id',rfl,h1,h2,h3⟩⟩
 ·cases hi
 ·cases hi
 ·cases hi;exact h2
theorem Own.keep {b sz:Nat} {st st':St} {v:TV} {n:Nat} {xs:List TV} (h:Own b sz st v n xs) (hn:st.nt<=st'.nt) (hl:∀id,TL v=some id->st'.live id=st.live id):Own b sz st' v n xs:=by
 rcases h with h | ⟨tip,rfl,rfl | ⟨id,rfl,h1,h2,h3⟩⟩
 ·exact .inl h
 ·exact .inr ⟨_,rfl,.inl rfl⟩
 ·exact .inr ⟨_,rfl,.inr ⟨id,rfl,h1,by omega,by rw[hl id rfl];exact h3⟩⟩
theorem KZ {T sz sz2 bytes:Nat} {st0 st:St} {v u:TV} {n k n2:Nat} {xs ys ys2:List TV} {K:TV->St->Prop} (e:As st0 st) (h:Own st0.nt sz st v n xs) (hu:Own st0.nt sz2 st u n2 ys2) (ha:IX v u) (hby:(n+k)*bytes<=140737488355328) (hys:k=0->ys=[])
  (hK:∀v' st',As st0 st'->st'.box=st.box->Own st0.nt sz st' v' (n+k) (xs++ys)->Own st0.nt sz2 st' u n2 ys2->IX v' u->K v' st'):AT T sz bytes v k ys st K:=by
 have fr:∀T,Own st0.nt sz2 (st.fresh T) u n2 ys2:=fun T=>hu.ext ((As.refl st).fresh T)
 have ap:∀m l,IX (.list sz (.own st.nt) m l) u:=fun m l id h1 h2=>by cases h1;have:=hu.tip_lt h2;omega
 rcases h with⟨rfl,rfl,rfl⟩ | ⟨tip,rfl,ht⟩
 ·simp only[AT]
  cases k with
  | zero=>rw[hys rfl]at hK;exact hK _ _ e rfl (.nil _ _ _) hu ha
  | succ m=>
   simp only[Au]
   refine⟨by simpa using hby,hK _ _ (e.fresh _) rfl ?_ (fr _) (ap _ _)⟩
   simp only[List.nil_append,Nat.zero_add]
   exact Own.fresh _ _ e.nt
 ·simp only[AT,Nat.beq_refl]
  refine⟨hby,?_⟩
  rcases ht with rfl | ⟨id,rfl,h1,h2,h3⟩
  ·cases k with
   | zero=>rw[hys rfl]at hK;simp only[List.append_nil]at hK;exact hK _ _ e rfl (Own.full _ _ _ _ _) hu ha
   | succ m=>exact hK _ _ (e.fresh _) rfl (Own.fresh _ _ e.nt) (fr _) (ap _ _)
  ·refine⟨h3,hK _ _ ((e.retire h1).fresh _) rfl (Own.fresh (st:=st.retire id) _ _ e.nt) (hu.keep (Nat.le_succ _) fun id' h'=>?_) (ap _ _)⟩
   have hne:id'≠id:=fun h=>ha id rfl (by rw[<-h];exact h')
   have hlt:=hu.tip_lt h'
   simp only[St.fresh,St.retire]
   rw[if_neg hne]
   exact if_neg (by omega)
section
variable {x:Cx} {hd ty:Bool} {l2 l3 l4:Int} {st:St}
theorem Sk {header num:Bool} {I off v many wid:Int} {i:Nat} {ns:List B8} (hI:I=(i:Int)) (hi:i<=x.s.length) (hl:x.s.length<=2000000) (hv0:0<=v) (hv:v<=100000000)
  (hm:many=if num then wid else 0) (hw:num=true->1<=wid) (hns:header=true->ns=[])
  {K:B8->Int->Int->Bool->Bool->Int->Int->Int->Int->Int->Int->Int->Int->Int->Int->B8->B8->TV->B8->Int->St->Prop}
  (h0:∀(k:Nat) v1 ns1 r w1 off1 kv tl st',EY x num wid header i v ns= .ok (k,v1,ns1,r,w1)->As st st'->NdC r [.int .i64 8,.str [],.str [],kv,.str tl]->K x.s x.a x.q hd ty x.dep x.nod l2 l3 l4 k v1 off1 0 8 [] [] kv tl w1 st')
  (h1:∀(o:Nat) e (k v1:Int) r kv tl st',EY x num wid header i v ns= .error (o,e)->e≠0->As st st'->NdC r [.int .i64 8,.str [],.str [],kv,.str tl]->K x.s x.a x.q hd ty x.dep x.nod l2 l3 l4 k v1 o e 8 [] [] kv tl 0 st'):
  CallT PR Bw [rst x.s x.a x.q hd ty x.dep x.nod l2 l3 l4 I v off 0,.int .i64 many,.bool header] [rsh,.agg [.int .i64,.str,.str,.tv,.str],.one (.int .i64)] st K:=by
 subst hI
 have tn:∀k:Nat,Int.toNat (k:Int)=k:=fun k=>rfl
 have w1:∀k:Nat,k<=x.s.length+2->i64.wrap ((k:Int)+1)=((k+1:Nat):Int):=fun k hk=>by rw[Ah _ (by omega) (by omega)];omega
 generalize hD:EY x num wid header i v ns=D0 at h0 h1
 rw[EX]at hD
 refine G2 x.s x.a x.q hd ty x.dep x.nod l2 l3 l4 i v off 0 many header st K ⟨fun mn hh nm s a q b1 b2 m0 m1 m2 m3 m4 at_ v' off' err kd le tx kv tl st'=>RSD x hd ty l2 l3 l4 s a q b1 b2 m0 m1 m2 m3 m4/\many=mn/\header=hh/\TV.nilSlice=nm/\8=kd/\[]=le/\[]=tx/\TV.nilSlice=kv/\[]=tl/\st=st'/\(i:Int)=at_/\
   ((err=0/\v<=v'/\v'<=v+1/\Gg x.s num wid (BM x num wid header (x.s.length+1) [] i v' ns)=D0)∨QB D0 off' err),Am (fun hh=>?_) (fun hh=>?_),?_⟩
 ·have hh:header=false:=by simpa using hh
  rw[if_neg (by rw[hh];decide)]at hD
  refine Ls rfl (by omega) hv0 (fun v' hb=>?_) fun o e hb=>?_
  ·rw[hb]at hD
   have:=ML hb
   exact⟨RSD.refl ..,rfl,rfl,rfl,rfl,rfl,rfl,rfl,rfl,rfl,rfl,.inl ⟨rfl,by omega,by omega,hD⟩⟩
  ·rw[hb]at hD
   exact⟨RSD.refl ..,rfl,rfl,rfl,rfl,rfl,rfl,rfl,rfl,rfl,rfl,.inr ⟨KX hb,o,rfl,hD.symm⟩⟩
 ·have hh:header=true:=by simpa using hh
  rw[if_pos hh]at hD
  exact⟨RSD.refl ..,rfl,rfl,rfl,rfl,rfl,rfl,rfl,rfl,rfl,rfl,.inl ⟨rfl,by omega,by omega,hD⟩⟩
 clear hD
 rintro _ _ _ _ _ _ _ _ _ _ _ _ _ _ v1 off1 err1 _ _ _ _ _ _ ⟨⟨rfl,rfl,rfl,rfl,rfl,rfl,rfl,rfl,rfl,rfl⟩,rfl,rfl,rfl,rfl,rfl,rfl,rfl,rfl,rfl,rfl,hS⟩
 refine⟨fun nm k mn hh s a q b1 b2 m0 m1 m2 m3 m4 at_ v' off' err kd le tx kv tl st'=>RSD x hd ty l2 l3 l4 s a q b1 b2 m0 m1 m2 m3 m4/\many=mn/\header=hh/\8=kd/\[]=le/\[]=tx/\[]=tl/\As st st'/\
   ∃(j n:Nat) (acc:List Nd) (L nsL:List B8) (xs:List TV),at_=(j:Int)/\j<=x.s.length/\k=(acc.length:Int)/\L.length=acc.length/\acc.length<=j/\(num=true->(acc.length:Int)<=wid)/\Own st.nt 1 st' nm L.length (L.map TV.str)/\Own st.nt 5 st' kv acc.length xs/\IX nm kv/\AY acc xs/\
    ((err=0/\x.s.length<j+n/\0<=v'/\v'<=v+1+j/\(header=true->nsL=L.reverse)/\Gg x.s num wid (BM x num wid header n acc j v' nsL)=D0)∨QB D0 off' err),
  fun _ _ _ _ _ _ _ _ _ _ _ _ _ _ at_ _ _ _ _ _ _ _ _ _=>(x.s.length-at_).toNat,?_,?_⟩
 ·refine⟨RSD.refl ..,rfl,rfl,rfl,rfl,rfl,rfl,As.refl _,i,x.s.length+1,[],[],ns,[],rfl,hi,rfl,rfl,by simp,fun hn=>(by have:=hw hn;simp;omega),Own.nil _ _ _,Own.nil _ _ _,(fun _ h=>by cases h),AY.nil,?_⟩
  rcases hS with⟨h,h2,h3,h4⟩ | h
  ·exact .inl ⟨h,by omega,by omega,by omega,fun hh=>by rw[hns hh];rfl,h4⟩
  ·exact .inr h
 rintro nm _ _ _ _ _ _ _ _ _ _ _ _ _ _ v2 off2 err2 _ _ _ kv _ st3 ⟨⟨rfl,rfl,rfl,rfl,rfl,rfl,rfl,rfl,rfl,rfl⟩,rfl,rfl,rfl,rfl,rfl,rfl,e3,j,n,acc,L,nsL,xs,rfl,hj,rfl,hL,hac,hac2,oN,oK,hap,hx,hS2⟩
 have ndc:∀kv st' acc xs,Own st.nt 5 st' kv acc.length xs->AY acc xs->NdC (.mk 8 [] [] acc []) [.int .i64 8,.str [],.str [],kv,.str []]:=fun kv st' acc xs o h=>by unfold NdC;exact⟨kv,xs,rfl,o.rd,h⟩
 refine Aa (fun q0=>?_) fun q0=>?_
 case' refine_2=>
  rcases hS2 with⟨h,_⟩ | ⟨h,o,rfl,hE⟩
  ·exact absurd h q0
  ·exact Ab (B1 oK.rd.one) (h1 _ _ _ _ _ _ _ _ hE h e3 (ndc _ _ _ _ oK hx))
 subst q0
 obtain⟨hjn,hv2,hv3,hnL,hE⟩:x.s.length<j+n/\0<=v2/\v2<=v+1+j/\(header=true->nsL=L.reverse)/\Gg x.s num wid (BM x num wid header n acc j v2 nsL)=D0:=by
  rcases hS2 with⟨_,h⟩ | ⟨h,_⟩
  ·exact h
  ·exact absurd rfl h
 clear hS2 hS
 cases n with
 | zero=>omega
 | succ n=>
 rw[Lr]at hE
 refine Ob (H:=¬(num=true/\wid<=(acc.length:Int))) (fun hnw=>?_) (fun q t=>Aa (fun q2=>?_) fun q2=>t ?_) (fun q=>?_)
 ·rw[if_neg hnw]at hE
  generalize hEe:DL x header j v2 nsL=E at hE
  rw[MH]at hEe
  refine⟨fun mn hh nm' k fr s a q b1 b2 m0 m1 m2 m3 m4 at_ v' off' err kd le tx kv' tl st'=>RSD x hd ty l2 l3 l4 s a q b1 b2 m0 m1 m2 m3 m4/\many=mn/\header=hh/\nm=nm'/\(acc.length:Int)=k/\(j:Int)=fr/\8=kd/\[]=le/\[]=tx/\kv=kv'/\[]=tl/\st3=st'/\(j:Int)=at_/\
    ((err=0/\v2<=v'/\v'<=v2+1/\Oy x header j v' nsL=E)∨QB E off' err),Am (fun hh=>?_) (fun hh=>?_),?_⟩
  ·have hh:header=false:=by simpa using hh
   rw[if_neg (by rw[hh];decide)]at hEe
   refine Ls rfl (by omega) hv2 (fun v' hb=>?_) fun o e hb=>?_
   ·rw[hb]at hEe
    have:=ML hb
    exact⟨RSD.refl ..,rfl,rfl,rfl,rfl,rfl,rfl,rfl,rfl,rfl,rfl,rfl,rfl,.inl ⟨rfl,by omega,by omega,hEe⟩⟩
   ·rw[hb]at hEe
    exact⟨RSD.refl ..,rfl,rfl,rfl,rfl,rfl,rfl,rfl,rfl,rfl,rfl,rfl,rfl,.inr ⟨KX hb,o,rfl,hEe.symm⟩⟩
  ·have hh:header=true:=by simpa using hh
   rw[if_pos hh]at hEe
   exact⟨RSD.refl ..,rfl,rfl,rfl,rfl,rfl,rfl,rfl,rfl,rfl,rfl,rfl,rfl,.inl ⟨rfl,by omega,by omega,hEe⟩⟩
  clear hEe
  rintro _ _ _ _ _ _ _ _ _ _ _ _ _ _ _ _ v3 off3 err3 _ _ _ _ _ _ ⟨⟨rfl,rfl,rfl,rfl,rfl,rfl,rfl,rfl,rfl,rfl⟩,rfl,rfl,rfl,rfl,rfl,rfl,rfl,rfl,rfl,rfl,rfl,rfl,hS3⟩
  --behind the cell
  refine VU rfl hj hl (fun kk hc hk1 hk2=>?_) fun o cc kk hc hkk=>?_
  case' refine_1=>
   have hW:=MJ hj hc
   have hcl:(slc x.s j kk).length<=x.s.length:=by rw[IZ hk1 hk2];omega
   have hkk:kk<=x.s.length:=hk2
   have hS4:(err3=0/\v2<=v3/\v3<=v2+1/\j<=kk/\slc x.s j kk=slc x.s j kk/\(if (if header then 1024 else 65536)<(txt x.q (slc x.s j kk)).length then .error (j,10)else if header=true/\txt x.q (slc x.s j kk)∈nsL then .error (j,8)else .ok (kk,v3,if header then txt x.q (slc x.s j kk)::nsL else nsL))=E)∨QB E off3 err3:=by
    rcases hS3 with⟨h,h2,h3,h4⟩ | h
    ·refine .inl ⟨h,h2,h3,hk1,rfl,?_⟩
     unfold Oy at h4
     rw[hc]at h4
     exact h4
    ·exact .inr h
   generalize off3=off4 at hS4⊢
   generalize err3=err4 at hS4⊢
  case' refine_2=>
   have hW:Mf x.q []:= .inl rfl
   have hcl:([]:B8).length<=x.s.length:=by simp
   have hS4:((if err3=0 then cc else err3)=0/\v2<=v3/\v3<=v2+1/\j<=kk/\slc x.s j kk=[]/\(if (if header then 1024 else 65536)<(txt x.q []).length then .error (j,10)else if header=true/\txt x.q []∈nsL then .error (j,8)else .ok (kk,v3,if header then txt x.q []::nsL else nsL))=E)∨QB E (if err3=0 then(o:Int)else off3) (if err3=0 then cc else err3):=by
    right
    rcases hS3 with⟨h,h2,h3,h4⟩ | ⟨h,o',h2,h3⟩
    ·rw[if_pos h,if_pos h]
     unfold Oy at h4
     rw[hc]at h4
     exact⟨Ps hc,o,rfl,h4.symm⟩
    ·rw[if_neg h,if_neg h];exact⟨h,o',h2,h3⟩
   generalize (if err3=0 then(o:Int)else off3)=off4 at hS4⊢
   generalize (if err3=0 then cc else err3)=err4 at hS4⊢
  all_goals
   clear hS3
   refine OS hW (by omega) ?_
   refine⟨fun mn hh nm' k fr c' t' s a q b1 b2 m0 m1 m2 m3 m4 at_ v' off' err kd le tx kv' tl st'=>RSD x hd ty l2 l3 l4 s a q b1 b2 m0 m1 m2 m3 m4/\many=mn/\header=hh/\nm=nm'/\(acc.length:Int)=k/\(j:Int)=fr/\8=kd/\[]=le/\[]=tx/\kv=kv'/\[]=tl/\st3=st'/\
     ∃kk:Nat,at_=(kk:Int)/\kk<=x.s.length/\((err=0/\v2<=v'/\v'<=v2+1/\j<=kk/\slc x.s j kk=c'/\(if header=true/\t'∈nsL then .error (j,8)else .ok (kk,v',if header then t'::nsL else nsL))=E)∨QB E off' err),?_,?_⟩
   ·refine Am (fun hh=>Aa (fun g=>?_) fun g=>Aa (fun g2=>absurd g2 (by omega)) fun g2=>?_) (fun hh=>Aa (fun g=>?_) fun g=>?_)
    all_goals first
     | (refine DH (fun h=>⟨RSD.refl ..,rfl,rfl,rfl,rfl,rfl,rfl,rfl,rfl,rfl,rfl,rfl,kk,rfl,hkk,.inr ?_⟩) (fun h=>⟨RSD.refl ..,rfl,rfl,rfl,rfl,rfl,rfl,rfl,rfl,rfl,rfl,rfl,kk,rfl,hkk,.inr ?_⟩)
        ·rcases hS4 with⟨_,_,_,_,_,h6⟩ | h6
         ·rw[if_pos (by rw[hh];simp;omega)]at h6
          exact⟨by decide,j,rfl,h6.symm⟩
         ·exact absurd h h6.1
        ·rcases hS4 with⟨h6,_⟩ | h6
         ·exact absurd h6 h
         ·exact h6)
     | (refine⟨RSD.refl ..,rfl,rfl,rfl,rfl,rfl,rfl,rfl,rfl,rfl,rfl,rfl,kk,rfl,hkk,?_⟩
        rcases hS4 with⟨h6,h7,h8,h9,h10,h11⟩ | h6
        ·rw[if_neg (by rw[hh];simp;omega)]at h11
         exact .inl ⟨h6,h7,h8,h9,h10,h11⟩
        ·exact .inr h6)
   clear hS4 hkk hW hcl
   rintro _ _ _ _ _ cs ts _ _ _ _ _ _ _ _ _ _ _ v4 off5 err5 _ _ _ _ _ _ ⟨⟨rfl,rfl,rfl,rfl,rfl,rfl,rfl,rfl,rfl,rfl⟩,rfl,rfl,rfl,rfl,rfl,rfl,rfl,rfl,rfl,rfl,rfl,k5,rfl,hk5,hS5⟩
   refine⟨fun mm mn hh nm' k fr c' t' s a q b1 b2 m0 m1 m2 m3 m4 at_ v' off' err kd le tx kv' tl st'=>RSD x hd ty l2 l3 l4 s a q b1 b2 m0 m1 m2 m3 m4/\many=mn/\header=hh/\nm=nm'/\(acc.length:Int)=k/\(j:Int)=fr/\8=kd/\[]=le/\[]=tx/\kv=kv'/\[]=tl/\st3=st'/\(k5:Int)=at_/\cs=c'/\ts=t'/\v4=v'/\
     ∃mi:Nat,mm=(mi:Int)/\mi<=L.length/\((err=0/\v2<=v'/\v'<=v2+1/\j<=k5/\slc x.s j k5=c'/\(header=true->ts∉L.take mi)/\(if header=true/\t'∈nsL then .error (j,8)else .ok (k5,v',if header then t'::nsL else nsL))=E)∨QB E off' err),
    fun mm _ _ _ _ _ _ _ _ _ _ _ _ _ _ _ _ _ _ _ _ _ _ _ _ _ _ _=>(L.length-mm).toNat,⟨RSD.refl ..,rfl,rfl,rfl,rfl,rfl,rfl,rfl,rfl,rfl,rfl,rfl,rfl,rfl,rfl,rfl,0,rfl,by omega,?_⟩,?_⟩
   ·rcases hS5 with⟨h6,h7,h8,h9,h10,h11⟩ | h6
    ·exact .inl ⟨h6,h7,h8,h9,h10,by simp,h11⟩
    ·exact .inr h6
   clear hS5
   rintro _ _ _ _ _ _ _ _ _ _ _ _ _ _ _ _ _ _ _ _ off6 err6 _ _ _ _ _ _ ⟨⟨rfl,rfl,rfl,rfl,rfl,rfl,rfl,rfl,rfl,rfl⟩,rfl,rfl,rfl,rfl,rfl,rfl,rfl,rfl,rfl,rfl,rfl,rfl,rfl,rfl,rfl,mi,rfl,hmi,hS6⟩
   refine Vs (H:=(err6=0/\v2<=v4/\v4<=v2+1/\j<=k5/\slc x.s j k5=cs/\.ok (k5,v4,if header then ts::nsL else nsL)=E)∨QB E off6 err6) (fun hS7=>?_) (fun hh t=>?_) (fun hh=>?_)
   ·clear hS6
    refine KZ e3 oN oK hap (by omega) (fun h=>by cases h) fun v6 st15 e15 hbx o15 oK15 hap15=>?_
    have hLl:(L++[ts]).length=acc.length+1:=by simp[hL]
    refine PW rfl hk5 hl (fun hf=>?_) fun o cc hf=>?_
    ·refine Aa (fun q=>?_) fun q=>?_
     ·rcases hS7 with⟨h,_⟩ | ⟨h,o,rfl,hE7⟩
      ·exact absurd h q
      ·rw[hE7]at hE
       exact Ab (B1 oK.rd.one) (h1 _ _ _ _ _ _ _ _ hE.symm h e15 (ndc _ _ _ _ oK hx))
     rcases hS7 with⟨h6,h7,h8,h9,h10,h11⟩ | h7
     case' inr=>exact absurd h7.1 q
     subst h6
     rw[<-h11]at hE
     simp only at hE
     have hlen:(acc++[Gs x j k5]).length=acc.length+1:=by simp
     refine Ob (H:=¬(k5<x.s.length/\by_ x.s k5=x.a)) (fun hmk=>?_) (fun q1 t=>⟨⟨by omega,by omega⟩,Aa (fun q2=>?_) fun q2=>t fun h=>q2 h.2⟩) (fun q h=>q (by omega))
     ·rw[if_neg hmk]at hE
      obtain⟨n7,hn7⟩:∃n7,BZ x.s k5= .ok n7:=by
       unfold Vb at hf
       by_cases hc:k5<x.s.length/\by_ x.s k5≠x.a
       ·rw[if_pos hc]at hf
        cases hle:BZ x.s k5 with
        | ok n7=>exact⟨n7,rfl⟩
        | error e=>rw[hle]at hf;cases hf
       ·refine⟨0,?_⟩
        unfold BZ
        rw[if_pos]
        apply Decidable.byContradiction
        intro hlt
        exact hmk ⟨by omega,Decidable.byContradiction fun hb=>hc ⟨by omega,hb⟩⟩
      rw[hn7]at hE
      simp only[Gg,hn7]at hE
      rw[hlen]at hE
      have hle:=Ey hk5 hn7
      have hent:Gs x j k5=IK x.s j k5 []:=by unfold Gs;rw[if_neg hmk]
      have hcE:NdC (Gs x j k5) [.int .i64 5,.str [],.str [],.list 5 .full 1 [.int .i64 2,.str [],.str cs,.nilSlice,.str []],.str []]:=by
       rw[hent];exact NdC.ent1 (by rw[h10];exact .inr ⟨_,rfl⟩)
      refine BF e15 rfl oK15 (by omega) (fun h=>by cases h) fun v9 st19 e19 hbx9 o19=>Ab (HG o19.rd.one) ?_
      have hx9:=hx.append (AY.one hcE)
      have hnd:∀tl,NdC (.mk 8 [] [] (acc++[Gs x j k5]) tl) [.int .i64 8,.str [],.str [],v9,.str tl]:=fun tl=>by unfold NdC;exact⟨v9,_,rfl,by rw[hlen];exact o19.rd,hx9⟩
      rw[w1 acc.length (by omega)]
      refine Aa (fun q8=>?_) fun q8=>?_
      ·have hn:num=true:=by cases hb:num with | true=>rfl | false=>rw[hb]at hm;simp at hm;omega
       rw[hn,if_pos rfl]at hm
       rw[hn,if_pos rfl,if_pos (by omega)]at hE
       exact DH (fun _=>Ab (B1 o19.rd.one) (h1 _ _ _ _ _ _ _ _ hE.symm (by decide) e19 (hnd _))) fun h=>absurd rfl h
      ·have hE2: .ok (k5+n7,v4,if header=true then ts::nsL else nsL,Nd.mk 8 [] [] (acc++[Gs x j k5]) (slc x.s k5 (k5+n7)),((acc.length+1:Nat):Int))=D0:=by
        cases hb:num with
        | true=>
         rw[hb,if_pos rfl]at hm
         rw[hb,if_pos rfl,if_neg (by omega)]at hE
         rw[<-hE]
         have hnw':¬wid<=(acc.length:Int):=fun h=>hnw ⟨hb,h⟩
         have:wid=((acc.length+1:Nat):Int):=by omega
         rw[this]
        | false=>
         rw[hb,if_neg (by simp)]at hE
         rw[<-hE]
         rfl
       refine Uf rfl hk5 hl ?_
       rw[hn7]
       have w2:i64.wrap ((k5:Int)+((n7:Nat):Int))=((k5+n7:Nat):Int):=by rw[Ah _ (by omega) (by omega)];omega
       simp only[w2]
       exact⟨⟨by omega,by omega,by omega⟩,Ab (B1 o19.rd.one) (h0 _ _ _ _ _ _ _ _ _ hE2.symm e19 (hnd _))⟩
     ·rw[if_pos ⟨by omega,q2⟩]at hE
      rw[w1 k5 (by omega),w1 acc.length (by omega)]
      have hent:Gs x j k5=IK x.s j k5 [.mk 11 [] [x.s.getD k5 0] [] []]:=by unfold Gs;rw[if_pos ⟨by omega,q2⟩]
      refine⟨⟨by omega,by omega,by omega⟩,?_⟩
      rw[tn,tn,show List.drop k5 (List.take (k5+1) x.s)=[x.s.getD k5 0]from PP (by omega)]
      refine BF (As.refl st15) rfl (Own.full _ _ _ _ _) (by omega) (fun h=>by cases h) fun v7 st17 e17 hbx7 o17=>Ab (HG o17.rd.one) (Ab (B1 o17.rd.one) ?_)
      have hcE:NdC (Gs x j k5) [.int .i64 5,.str [],.str [],v7,.str []]:=by
       rw[hent];exact NdC.ent2 (by rw[h10];exact o17.rd)
      refine KZ (e15.trans e17) (oK15.ext e17) (o15.ext e17) hap15.symm (by omega) (fun h=>by cases h) fun v8 st18 e18 hbx8 o18 oN18 hap18=>Ab (HG o18.rd.one) ?_
      refine⟨⟨RSD.refl ..,rfl,rfl,rfl,rfl,rfl,rfl,e18,k5+1,n,acc++[Gs x j k5],L++[ts],if header then ts::nsL else nsL,_,rfl,by omega,by rw[hlen],by rw[hlen,hLl],by rw[hlen];omega,fun hn=>?_,by rw[hLl,List.map_append,<-hL];exact oN18,by rw[hlen];exact o18,hap18.symm,hx.append (AY.one hcE),.inl ⟨rfl,by omega,by omega,by omega,fun hh=>?_,hE⟩⟩,by dsimp only;omega⟩
      ·have:¬wid<=(acc.length:Int):=fun h=>hnw ⟨hn,h⟩
       rw[hlen];omega
      ·rw[hh,if_pos rfl,hnL hh];simp
    ·have hce:=WB hf
     refine Aa (fun q=>?_) fun q=>?_
     ·by_cases h0':err6=0
      ·rw[if_pos h0',if_pos h0']
       rcases hS7 with⟨h6,h7,h8,h9,h10,h11⟩ | h7
       case' inr=>exact absurd h0' h7.1
       rw[<-h11]at hE
       simp only at hE
       rw[if_neg (fun h=>hce.2.1 h.2),hce.2.2]at hE
       exact Ab (B1 oK.rd.one) (h1 _ _ _ _ _ _ _ _ hE.symm hce.1 e15 (ndc _ _ _ _ oK hx))
      ·rw[if_neg h0',if_neg h0']
       rcases hS7 with⟨h,_⟩ | ⟨h,o,rfl,hE7⟩
       ·exact absurd h h0'
       ·rw[hE7]at hE
        exact Ab (B1 oK.rd.one) (h1 _ _ _ _ _ _ _ _ hE.symm h e15 (ndc _ _ _ _ oK hx))
     ·exfalso
      apply q
      by_cases h0':err6=0
      ·rw[if_pos h0'];exact hce.1
      ·rw[if_neg h0'];exact h0'
   ·refine Ab oN.rd.isSl ?_
    rw[oN.rd.lenS,oN.rd.lenZ,tn]
    refine Aa (fun q=>?_) fun q=>t ?_
    ·have hlt:mi<L.length:=by omega
     have hget:=List.getElem?_eq_getElem hlt
     generalize L[mi]=tm at hget
     refine⟨⟨by omega,by omega⟩,Ad (strs_ld oN.rd st3 hget) (Al ?_)⟩
     rw[w1 mi (by omega)]
     refine Aa (fun q2=>?_) fun q2=>?_
     ·subst q2
      refine DH (fun h=>⟨⟨RSD.refl ..,rfl,rfl,rfl,rfl,rfl,rfl,rfl,rfl,rfl,rfl,rfl,rfl,rfl,rfl,rfl,mi+1,rfl,by omega,.inr ?_⟩,by dsimp only;omega⟩) (fun h=>⟨⟨RSD.refl ..,rfl,rfl,rfl,rfl,rfl,rfl,rfl,rfl,rfl,rfl,rfl,rfl,rfl,rfl,rfl,mi+1,rfl,by omega,.inr ?_⟩,by dsimp only;omega⟩)
      ·rcases hS6 with⟨_,_,_,_,_,_,h6⟩ | h6
       ·rw[if_pos ⟨hh,by rw[hnL hh];simpa using List.mem_of_getElem? hget⟩]at h6
        exact⟨by decide,j,rfl,h6.symm⟩
       ·exact absurd h h6.1
      ·rcases hS6 with⟨h6,_⟩ | h6
       ·exact absurd h6 h
       ·exact h6
     ·refine⟨⟨RSD.refl ..,rfl,rfl,rfl,rfl,rfl,rfl,rfl,rfl,rfl,rfl,rfl,rfl,rfl,rfl,rfl,mi+1,rfl,by omega,?_⟩,by dsimp only;omega⟩
      rcases hS6 with⟨h6,h7,h8,h9,h10,h11,h12⟩ | h6
      ·refine .inl ⟨h6,h7,h8,h9,h10,fun hh=>?_,h12⟩
       rw[List.take_add_one,hget]
       simp only[Option.toList_some,List.mem_append,List.mem_singleton,not_or]
       exact⟨h11 hh,fun h=>q2 h.symm⟩
      ·exact .inr h6
    ·rcases hS6 with⟨h6,h7,h8,h9,h10,h11,h12⟩ | h6
     ·refine .inl ⟨h6,h7,h8,h9,h10,?_⟩
      have:=h11 hh
      rw[List.take_of_length_le (by omega)]at this
      rwa [if_neg (by rintro⟨_,h⟩;rw[hnL hh]at h;simp at h;exact this h)]at h12
     ·exact .inr h6
   ·rcases hS6 with⟨h6,h7,h8,h9,h10,h11,h12⟩ | h6
    ·exact .inl ⟨h6,h7,h8,h9,h10,by rwa [if_neg (by rintro⟨h,_⟩;rw[hh]at h;cases h)]at h12⟩
    ·exact .inr h6
 ·have hn:num=true:=by cases hb:num with | true=>rfl | false=>rw[hb]at hm;simp at hm;omega
  rw[hn,if_pos rfl]at hm
  rw[if_pos ⟨hn,by omega⟩]at hE
  exact DH (fun _=>Ab (B1 oK.rd.one) (h1 _ _ _ _ _ _ _ _ hE.symm (by decide) e3 (ndc _ _ _ _ oK hx))) fun h=>absurd rfl h
 ·rintro⟨hn,h⟩
  have:=hac2 hn
  rw[hn,if_pos rfl]at hm
  omega
 ·rintro⟨hn,_⟩
  rw[hn,if_pos rfl]at hm
  have:=hw hn;omega
end
end
section
section
variable {x:Cx} {hd ty:Bool} {l2 l3 l4:Int} {st:St}
theorem UN {K:Int->B8->B8->TV->B8->Int->Int->St->Prop} (hl:x.s.length<=2000000)
  (hk:∀k kv st',As st st'->NdC (pN (AV x hd l2 l3 l4)) [.int .i64 k,.str [],.str [],kv,.str []]->K k [] [] kv [] (pO (AV x hd l2 l3 l4)) (pE (AV x hd l2 l3 l4)) st'):
  CallT PR Cw [.str x.s,.agg [.int .u8 x.a,.int .u8 x.q,.bool hd,.bool ty],.agg [.int .i64 x.dep,.int .i64 x.nod,.int .i64 l2,.int .i64 l3,.int .i64 l4]] [.agg [.int .i64,.str,.str,.tv,.str],.one (.int .i64),.one (.int .i64)] st K:=by
 generalize hP:AV x hd l2 l3 l4=P at hk
 unfold AV at hP
 have hnil:NdC (.mk 0 [] [] [] []) [.int .i64 0,.str [],.str [],.nilSlice,.str []]:=by unfold NdC;exact⟨_,[],rfl,.inl ⟨rfl,rfl,rfl⟩,AY.nil⟩
 have bad:∀(o:Nat) (e:Int) st',P= .error (o,e)->As st st'->K 0 [] [] .nilSlice [] o e st':=fun o e st' h he=>by
  have:=hk 0 .nilSlice st' he (by rw[h];exact hnil)
  rwa [h]at this
 refine HS x.s x.a x.q hd ty x.dep x.nod l2 l3 l4 st K (Sq (Am (fun g=>?_) fun g=>?_))
 ·have g:dOk x.a x.q=false:=by simpa using g
  rw[if_pos g]at hP
  exact bad _ _ st hP.symm (As.refl _)
 have g:dOk x.a x.q=true:=by simpa using g
 rw[if_neg (by rw[g];decide)]at hP
 refine G3 x.s x.dep x.nod l2 l3 l4 st _ (Sl (Am (fun g=>?_) fun g=>?_))
 ·have g:lOk x.dep x.nod l2 l3 l4=false:=by simpa using g
  rw[if_pos g]at hP
  exact Aa (fun _=>bad 0 _ st hP.symm (As.refl _)) fun h=>absurd (by decide) h
 have glim:lOk x.dep x.nod l2 l3 l4=true:=by simpa using g
 rw[if_neg (by rw[glim];decide)]at hP
 refine Aa (fun g=>?_) fun g=>?_
 ·rw[if_pos g]at hP
  exact Aa (fun _=>bad 0 _ st hP.symm (As.refl _)) fun h=>absurd (by decide) h
 rw[if_neg g]at hP
 have hv:=Kd x.s
 refine rbad_ok hl fun st1 e1=>Aa (fun g=>?_) fun g=>?_
 ·rw[if_pos (by omega)]at hP
  exact Aa (fun _=>bad _ _ st1 hP.symm e1) fun h=>absurd (by decide) h
 rw[if_neg (by omega)]at hP
 refine Aa (fun h=>absurd rfl h) fun _=>?_
 have hbeg:D7 x.dep x.nod 1 0 0= .ok 1:=by
  unfold lOk at glim
  have:=of_decide_eq_true glim
  unfold D7
  rw[if_neg (by omega),if_neg (by omega)];rfl
 refine Ls (k:=0) rfl (by decide) (by decide) (fun v' hb=>?_) fun o e hb=>by rw[hbeg]at hb;cases hb
 rw[hbeg]at hb
 cases hb
 refine⟨fun mn s' a' q' h' t' s a q b1 b2 m0 m1 m2 m3 m4 at_ v' off' err kd le tx kv tl st'=>x.s=s'/\x.a=a'/\x.q=q'/\hd=h'/\ty=t'/\RSD x hd ty l2 l3 l4 s a q b1 b2 m0 m1 m2 m3 m4/\1=kd/\[]=le/\[]=tx/\[]=tl/\As st st'/\
   ∃(acc:List Nd) (xs:List TV),Own st.nt 5 st' kv acc.length xs/\AY acc xs/\acc.length<=x.s.length+1/\
    ((err=0/\∃(j n:Nat) (w:Int) (ns:List B8),at_=(j:Int)/\j<=x.s.length/\x.s.length<j+n/\acc.length<=j/\0<=v'/\v'<=1+3*j/\mn=(if !acc.isEmpty then w else 0)/\((!acc.isEmpty)=true->1<=w)/\(acc=[]->ns=[])/\(match Ds x hd n acc j v' ns w with | .error e=> .error e | .ok rs=> .ok (.mk 1 [] [] rs []))=P)∨QB P off' err),
  fun _ _ _ _ _ _ _ _ _ _ _ _ _ _ _ _ at_ _ _ err _ _ _ _ _ _=>if err=0 then(x.s.length-at_).toNat+1 else 0,?_,?_⟩
 ·refine⟨rfl,rfl,rfl,rfl,rfl,RSD.refl ..,rfl,rfl,rfl,rfl,e1,[],[],Own.nil _ _ _,AY.nil,by simp,.inl ⟨rfl,0,x.s.length+1,0,[],rfl,by omega,by omega,by simp,by omega,by omega,rfl,fun h=>(by cases h),fun _=>rfl,hP⟩⟩
 rintro mn _ _ _ _ _ _ _ _ _ _ _ _ _ _ _ at3 v3 off3 err3 _ _ _ kv _ st3 ⟨rfl,rfl,rfl,rfl,rfl,⟨rfl,rfl,rfl,rfl,rfl,rfl,rfl,rfl,rfl,rfl⟩,rfl,rfl,rfl,rfl,e3,acc,xs,o3,hx,hlen,hS⟩
 refine Aa (fun q0=>?_) fun q0=>?_
 case' refine_2=>
  rcases hS with⟨h,_⟩ | ⟨h,o,rfl,hE⟩
  ·exact absurd h q0
  ·exact Aa (fun _=>bad _ _ st3 hE e3) fun h=>absurd q0 h
 subst q0
 rcases hS with⟨_,j,n,w,ns,rfl,hj,hjn,hac,hv0,hv1,hmn,hw,hns,hE⟩ | ⟨h,_⟩
 case' inr=>exact absurd rfl h
 cases n with
 | zero=>omega
 | succ n=>
 rw[LO]at hE
 refine Aa (fun q=>?_) fun q=>?_
 case' refine_2=>
  rw[if_pos (by omega)]at hE
  simp only at hE
  subst hE
  exact Aa (fun h=>absurd rfl h) fun _=>Ab (B1 o3.rd.one) (hk 1 kv st3 e3 (by unfold pN NdC;exact⟨kv,xs,rfl,o3.rd,hx⟩))
 rw[if_neg (by omega)]at hE
 have hN2:(hd=true->decide (((acc.length:Nat):Int)=0)=(hd&&acc.isEmpty)):=fun h=>by
  rw[h]
  cases acc with
  | nil=>rfl
  | cons a l=>exact decide_eq_false (by simp only[List.length_cons];omega)
 refine Am (fun hh=>Ab o3.rd.isSl ?_) fun hh=>?_
 case' refine_1=>rw[o3.rd.lenS,hN2 hh]
 case' refine_2=>
  have hN3:false=(hd&&acc.isEmpty):=by rw[hh];rfl
  rw[hN3]
 all_goals
  have hnsx:(hd&&acc.isEmpty)=true->ns=[]:=fun h=>hns (by simp only[Bool.and_eq_true]at h;simpa using h.2)
  refine Sk rfl hj hl hv0 (by omega) hmn hw hnsx (fun k v1 ns1 r w1 off1 kv1 tl st4 hr e4 hc4=>?_) fun o e k v1 r kv1 tl st4 hr he e4 hc4=>?_
  ·rw[hr]at hE
   simp only at hE
   have hle:=PZ (by omega) hr
   have hone:Ap kv1=true:=by
    obtain⟨a,b,c,d,f⟩:=r
    unfold NdC at hc4
    obtain⟨u,ys,hu,hu2,_⟩:=hc4
    cases hu
    exact hu2.one
   refine Ab (B1 hone) (Ab (B1 hone) ?_)
   refine BF (e3.trans e4) rfl (o3.ext e4) (by omega) (fun h=>by cases h) fun v5 st5 e5 hbx o5=>Ab (HG o5.rd.one) ?_
   have hl1:(acc++[r]).length=acc.length+1:=by simp
   have hne:(!(acc++[r]).isEmpty)=true:=by cases acc<;>rfl
   refine⟨⟨rfl,rfl,rfl,rfl,rfl,RSD.refl ..,rfl,rfl,rfl,rfl,e5,acc++[r],_,by rw[hl1];exact o5,hx.append (AY.one hc4),by omega,.inl ⟨rfl,k,n,w1,ns1,rfl,by omega,by omega,by omega,by omega,by omega,by rw[hne];rfl,fun _=>hle.2.2.2.2,fun h=>(by simp at h),hE⟩⟩,?_⟩
   simp only[if_true]
   omega
  ·rw[hr]at hE
   simp only at hE
   have hone:Ap kv1=true:=by
    obtain⟨a,b,c,d,f⟩:=r
    unfold NdC at hc4
    obtain⟨u,ys,hu,hu2,_⟩:=hc4
    cases hu
    exact hu2.one
   refine Ab (B1 hone) (Ab (B1 hone) ?_)
   refine BF (e3.trans e4) rfl (o3.ext e4) (by omega) (fun h=>by cases h) fun v5 st5 e5 hbx o5=>Ab (HG o5.rd.one) ?_
   have hl1:(acc++[r]).length=acc.length+1:=by simp
   refine⟨⟨rfl,rfl,rfl,rfl,rfl,RSD.refl ..,rfl,rfl,rfl,rfl,e5,acc++[r],_,by rw[hl1];exact o5,hx.append (AY.one hc4),by omega,.inr ⟨he,o,rfl,hE.symm⟩⟩,?_⟩
   simp only[if_true]
   rw[if_neg he];omega
end
end
theorem MB {q:Int} {c:UInt8} (hc:(c.toNat:Int)=q):∀(t rest:B8) (i:Nat),(∀b l,rest=b::l->(b.toNat:Int)≠q)->H8 q (dbl c t++c::rest) i=some (i+(dbl c t).length+1)
 | [],rest,i,h=>by
  simp only[dbl,List.flatMap_nil,List.nil_append,List.length_nil,Nat.add_zero]
  cases rest with
  | nil=>simp only[H8];rw[if_pos hc]
  | cons b l=>simp only[H8];rw[if_pos hc,if_neg (h b l rfl)]
 | b::t,rest,i,h=>by
  rw[Cp]
  by_cases hb:b=c
  ·rw[if_pos hb]
   have ih:=MB hc t rest (i+2) h
   simp only[List.cons_append,List.nil_append,List.length_cons,H8]
   rw[if_pos hc,if_pos hc,ih]
   congr 1;omega
  ·rw[if_neg hb]
   have hb':(b.toNat:Int)≠q:=fun h=>hb (UInt8.toNat_inj.1 (by omega))
   have ih:=MB hc t rest (i+1) h
   simp only[List.cons_append,List.nil_append,List.length_cons]
   cases hr:dbl c t++c::rest with
   | nil=>simp at hr
   | cons b2 l2=>
    rw[hr]at ih
    simp only[H8]
    rw[if_neg hb',ih]
    congr 1;omega
theorem TX {a q:Int} (ha:a≠q) (hq:q≠10) (hq2:q≠13):∀(t:B8) (b:UInt8) (rest:B8) (i:Nat),(∀c∈t,(c.toNat:Int)≠a/\(c.toNat:Int)≠q/\(c.toNat:Int)≠10/\(c.toNat:Int)≠13)->
  ((b.toNat:Int)=a∨(b.toNat:Int)=10)->Rp a q (t++b::rest) i= .ok (i+t.length)
 | [],b,rest,i,h,hb=>by simp only[List.nil_append,Rp];rw[if_pos (by omega)];rfl
 | c::t,b,rest,i,h,hb=>by
  have hc:=h c (List.mem_cons_self ..)
  simp only[List.cons_append,Rp]
  rw[if_neg (by omega),if_neg hc.2.1,TX ha hq hq2 t b rest (i+1) (fun d hd=>h d (List.mem_cons_of_mem _ hd)) hb]
  simp;omega
def FW (a q:Int) (s:B8):Bool:=s.any fun c=>decide ((c.toNat:Int)=a∨(c.toNat:Int)=q∨(c.toNat:Int)=10∨(c.toNat:Int)=13)
def DO (a q:Int) (s:B8):B8:=if FW a q s then UInt8.ofNat q.toNat::(dbl (UInt8.ofNat q.toNat) s++[UInt8.ofNat q.toNat])else s
theorem V9 {a q:Int} {s:B8} (h:FW a q s=false):∀c∈s,(c.toNat:Int)≠a/\(c.toNat:Int)≠q/\(c.toNat:Int)≠10/\(c.toNat:Int)≠13:=by
 intro c hc
 unfold FW at h
 rw[List.any_eq_false]at h
 have:=h c hc
 rw[decide_eq_true_eq]at this
 omega
theorem I8 {q:Int} (h:0<=q) (h2:q<=255):((UInt8.ofNat q.toNat).toNat:Int)=q:=by
 rw[UInt8.toNat_ofNat'];omega
theorem Tm {a q:Int} (hq0:0<=q) (hq1:q<=255) (ha:a≠q) (hq:q≠10) (hq2:q≠13) (pre c:B8) (b:UInt8) (post:B8) (hb:(b.toNat:Int)=a∨(b.toNat:Int)=10):
  Bq a q (pre++DO a q c++b::post) pre.length= .ok (pre.length+(DO a q c).length):=by
 have hd:(pre++DO a q c++b::post).drop pre.length=DO a q c++b::post:=by rw[List.append_assoc,List.drop_left]
 have hby:∀d l,DO a q c++b::post=d::l->by_ (pre++DO a q c++b::post) pre.length=(d.toNat:Int):=fun d l h=>by
  have:(pre++DO a q c++b::post).getD pre.length 0=((pre++DO a q c++b::post).drop pre.length).getD 0 0:=by rw[GM];rfl
  unfold by_
  rw[this,hd,h];rfl
 have hlen:pre.length<(pre++DO a q c++b::post).length:=by simp only[List.length_append,List.length_cons];omega
 have hqb:=I8 hq0 hq1
 unfold Bq
 by_cases hn:FW a q c=true
 ·have hqc:DO a q c=UInt8.ofNat q.toNat::(dbl (UInt8.ofNat q.toNat) c++[UInt8.ofNat q.toNat]):=by unfold DO;rw[if_pos hn]
  have:=hby (UInt8.ofNat q.toNat) (dbl (UInt8.ofNat q.toNat) c++[UInt8.ofNat q.toNat]++b::post) (by rw[hqc];rfl)
  rw[if_pos ⟨hlen,by rw[this];exact hqb⟩]
  have hQ:QE q (pre++DO a q c++b::post) (pre.length+1)=some (pre.length+(DO a q c).length):=by
   unfold QE
   rw[<-List.drop_drop,hd,hqc]
   have:=MB hqb c (b::post) (pre.length+1) (fun b' l' h=>by cases h;omega)
   simp only[List.cons_append,List.drop_succ_cons,List.drop_zero,List.append_assoc,List.nil_append]
   rw[this]
   congr 1
   simp;omega
  rw[hQ]
 ·have hn:FW a q c=false:=by simpa using hn
  have hqc:DO a q c=c:=by unfold DO;rw[if_neg (by rw[hn];decide)]
  have hno:=V9 hn
  have hP:PE a q (pre++DO a q c++b::post) pre.length= .ok (pre.length+(DO a q c).length):=by
   unfold PE
   rw[hd,hqc]
   exact TX ha hq hq2 c b post pre.length hno hb
  rw[if_neg,hP]
  rintro⟨_,h2⟩
  cases hc:c with
  | nil=>rw[hby b post (by rw[hqc,hc];rfl)]at h2;omega
  | cons d l=>rw[hby d (l++b::post) (by rw[hqc,hc];rfl)]at h2;exact(hno d (by rw[hc];exact List.mem_cons_self ..)).2.1 h2
theorem chk_ent {a q:Int} {k:Nd} (h:Vq a q k) {s:Int} (hs:s+3<=524288):∃s',chk k 3 s= .ok s'/\s<=s'/\s'<=s+3:=by
 obtain⟨c,mark,rfl,_,hm⟩:=h
 rcases hm with rfl | ⟨b,_,rfl⟩
 ·refine⟨s+1+1,?_,by omega,by omega⟩
  have l2:JF 2=true:=by decide
  have l5:JF 5=false:=by decide
  simp only[chk,H9,l2,l5,List.length_nil]
  rw[if_neg (by omega),if_neg (by omega),if_neg (by omega),if_neg (by simp),if_neg (by omega),if_neg (by omega),if_neg (by omega),if_neg (by simp)]
 ·refine⟨s+1+1+1,?_,by omega,by omega⟩
  have l2:JF 2=true:=by decide
  have l5:JF 5=false:=by decide
  have l11:JF 11=true:=by decide
  simp only[chk,H9,l2,l5,l11,List.length_nil]
  rw[if_neg (by omega),if_neg (by omega),if_neg (by omega),if_neg (by simp),if_neg (by omega),if_neg (by omega),if_neg (by omega),if_neg (by simp)]
  simp only
  rw[if_neg (by omega),if_neg (by omega),if_neg (by omega),if_neg (by simp)]
theorem Pr {a q:Int}:∀(ks:List Nd) (h:∀k∈ks,Vq a q k) {s:Int} (hs:s+3*ks.length<=524288),∃s',H9 ks 3 s= .ok s'/\s<=s'/\s'<=s+3*ks.length
 | [],h,s,hs=>⟨s,rfl,by omega,by simp⟩
 | k::ks,h,s,hs=>by
  rw[List.length_cons]at hs
  obtain⟨s1,h1,h2,h3⟩:=chk_ent (h k (List.mem_cons_self ..)) (s:=s) (by omega)
  obtain⟨s2,h4,h5,h6⟩:=Pr ks (fun k hk=>h k (List.mem_cons_of_mem _ hk)) (s:=s1) (by omega)
  refine⟨s2,?_,by omega,by rw[List.length_cons];omega⟩
  simp only[H9,h1,h4]
theorem Vk {a q:Int} {src:B8} {i:Nat} {rs:List Nd} (h:IT a q src i rs):i<=src.length->∀{s:Int},s+7*(src.length-i:Nat)<=524288->∃s',H9 rs 2 s= .ok s'/\s<=s'/\s'<=s+7*(src.length-i:Nat):=by
 induction h with
 | nil h=>intro hi s hs;exact⟨s,rfl,by omega,by omega⟩
 | @cons i e n ks rs h1 h2 h3 ih=>
  intro hi s hs
  have hle:=h2.le hi
  have hpos:1<=e+n-i:=by
   have:=(Ey (by omega) hle.2.2.2.2).2.1
   rcases Nat.eq_zero_or_pos n with h0 | h0
   ·have:=this h0;omega
   ·omega
  obtain⟨s1,j1,j2,j3⟩:=Pr ks (h2.form hi) (s:=s+1) (by omega)
  obtain⟨s2,j4,j5,j6⟩:=ih (by omega) (s:=s1) (by omega)
  have l8:JF 8=false:=by decide
  refine⟨s2,?_,by omega,by omega⟩
  simp only[H9,chk,l8]
  rw[if_neg (by omega),if_neg (by omega),if_neg (by omega),if_neg (by simp)]
  simp only[Int.reduceAdd]
  rw[j1]
  exact j4
theorem Pe {a q:Int}:∀(ks:List Nd) (h:∀k∈ks,Vq a q k),J2 ks<=3*ks.length
 | [],h=>by simp[J2]
 | k::ks,h=>by
  have ih:=Pe ks fun k hk=>h k (List.mem_cons_of_mem _ hk)
  obtain⟨c,mark,rfl,_,hm⟩:=h k (List.mem_cons_self ..)
  rcases hm with rfl | ⟨b,_,rfl⟩<;>simp only[J2,EG,List.length_cons]<;>omega
theorem Pd {a q:Int} {src:B8} {i:Nat} {rs:List Nd} (h:IT a q src i rs):i<=src.length->J2 rs<=7*(src.length-i)/\rs.length<=src.length-i:=by
 induction h with
 | nil h=>intro hi;simp[J2]
 | @cons i e n ks rs h1 h2 h3 ih=>
  intro hi
  have hle:=h2.le hi
  have hpos:1<=e+n-i:=by
   have:=(Ey (by omega) hle.2.2.2.2).2.1
   rcases Nat.eq_zero_or_pos n with h0 | h0
   ·have:=this h0;omega
   ·omega
  have:=Pe ks (h2.form hi)
  have ih:=ih (by omega)
  simp only[J2,EG,List.length_cons]
  omega
theorem Cc {x:Cx} {hd:Bool} {l2 l3 l4:Int} {n:Nd} (h:AV x hd l2 l3 l4= .ok n):∃rs,n= .mk 1 [] [] rs []/\dOk x.a x.q=true/\lOk x.dep x.nod l2 l3 l4=true/\(x.s.length:Int)<=l2/\Bh x.s=x.s.length/\Ds x hd (x.s.length+1) [] 0 1 [] 0= .ok rs/\
  IT x.a x.q x.s 0 rs/\(∀r∈rs,∀k∈At r,(txt x.q (AA k)).length<=65536)/\(∃W:Int,∀r∈rs,((At r).length:Int)=W):=by
 unfold AV at h
 split at h
 ·cases h
 rename_i h1
 split at h
 ·cases h
 rename_i h2
 split at h
 ·cases h
 rename_i h3
 split at h
 ·cases h
 rename_i h4
 split at h
 ·cases h
 rename_i rs hr
 cases h
 obtain⟨rs',j1,j2,j3,⟨W,j4,j5⟩,j6⟩:=NT _ (by omega) hr
 rw[List.nil_append]at j1
 subst j1
 exact⟨_,rfl,by simpa using h1,by simpa using h2,by omega,Decidable.not_not.1 h4,hr,j2,j3,W,j5⟩
abbrev xU (s:B8) (a q:Int):Cx:=⟨s,a,q,48,65536⟩
abbrev Lv (s:B8) (a q:Int) (hd:Bool):Except (Nat×Int) Nd:=AV (xU s a q) hd 1048576 1024 65536
def HF (n:Nd) (a q:Int) (hd:Bool):Prop:=KV n=0/\Lv (Dd n) a q hd= .ok n
theorem N1 {n:Nd} (h:KV n=0):D5 n<=1048576:=by
 unfold KV at h
 split at h
 ·rename_i e he;exact absurd h (Hw n he)
 ·split at h
  ·cases h
  ·omega
theorem V2 {x:Cx} {hd:Bool} {l2 l3 l4:Int} (hl:x.s.length<=2000000):EG (pN (AV x hd l2 l3 l4))<=1000000000000000:=by
 cases h:AV x hd l2 l3 l4 with
 | error e=>simp[pN,EG,J2]
 | ok n=>
  obtain⟨rs,rfl,_,_,_,_,_,hr,_⟩:=Cc h
  have:=(Pd hr (by omega)).1
  simp only[pN,EG];omega
theorem NdC.five {n:Nd} {cs:List TV} (h:NdC n cs):∃k l t v tl,cs=[.int .i64 k,.str l,.str t,v,.str tl]/\Ap v=true:=by
 cases n
 unfold NdC at h
 obtain⟨v,xs,rfl,hr,_⟩:=h
 exact⟨_,_,_,v,_,rfl,hr.one⟩
theorem U5 {st:St} {K:Int->Int->Int->Int->Int->St->Prop} (hk:K 48 65536 1048576 1024 65536 st):CallT PR FE [] [.agg [.int .i64,.int .i64,.int .i64,.int .i64,.int .i64]] st K:=MV st K hk
theorem Rj {st:St} {K:Int->Int->Int->Int->Int->St->Prop} (hk:K 48 65536 1048576 1024 65536 st):CallT PR CA [] [.agg [.int .i64,.int .i64,.int .i64,.int .i64,.int .i64]] st K:=HW st K hk
theorem Ri {st:St} {K:Int->Int->Int->Int->Int->St->Prop} (hk:K 48 65536 1048576 1024 65536 st):CallT PR Cy [] [.agg [.int .i64,.int .i64,.int .i64,.int .i64,.int .i64]] st K:=HT st K (Rj hk)
theorem TY {n:Nd} {cs:List TV} {a q:Int} {hd ty:Bool} (hc:NdC n cs) (hl:D5 n<=100000000000000) (hcn:EG n<=1000000000000000) {st:St} {K:Bool->St->Prop}
  (hk1:∀st',As st st'->HF n a q hd->K true st') (hk2:∀st',As st st'->¬HF n a q hd->K false st'):
  CallT PR Et [.agg cs,.agg [.int .u8 a,.int .u8 q,.bool hd,.bool ty]] [.one .bool] st K:=by
 obtain⟨k,l,t,v,tl,rfl,_⟩:=hc.five
 refine On k l t v tl a q hd ty st K (UF hc (by omega) hcn fun st1 e1=>Aa (fun g=>hk2 st1 e1 fun h=>g h.1) fun g=>?_)
 have g:KV n=0:=Decidable.not_not.1 g
 have hlen:=N1 g
 have htl:=Eg n
 refine UC hc hl hcn fun st2 e2=>U5 ?_
 refine OY (x:=xU (Dd n) a q) (by show(Dd n).length<=_;omega) fun kd kv st3 e3 hn=>?_
 have e13:=(e1.trans e2).trans e3
 obtain⟨_,_,_,_,_,h5,ho⟩:=hn.five
 cases h5
 refine Ab (B1 ho) (Aa (fun g2=>?_) fun g2=>?_)
 ·refine QR _ _ hn hc (V2 (by show(Dd n).length<=_;omega)) (fun he=>hk1 _ e13 ⟨g,?_⟩) fun he=>hk2 _ e13 fun h=>he ?_
  ·show AV _ _ _ _ _=_
   revert he g2
   cases hp:AV (xU (Dd n) a q) hd 1048576 1024 65536 with
   | error e=>
    intro _ he
    simp only[pN]at he
    rw[<-he]at g
    exact absurd g (by decide)
   | ok m=>intro _ he;simp only[pN]at he;rw[he]
  ·rw[show AV (xU (Dd n) a q) hd 1048576 1024 65536= .ok n from h.2];rfl
 ·refine hk2 _ e13 fun h=>g2 ?_
  rw[show AV (xU (Dd n) a q) hd 1048576 1024 65536= .ok n from h.2];rfl
def LT {α:Type} (f:α->TV) (v:TV) (row:List α):Prop:=Rd 1 v row.length (row.map f)
def GY {α:Type} (f:α->TV) (v:TV) (rows:List (List α)):Prop:=∃vs:List TV,Rd 1 v rows.length vs/\vs.length=rows.length/\∀(i:Nat) (u:TV) (row:List α),vs[i]? =some u->rows[i]? =some row->LT f u row
theorem LT.ld {α:Type} {f:α->TV} {v:TV} {row:List α} (h:LT f v row) (st:St) {i:Nat} {a:α} (ha:row[i]? =some a):Ac st [] (.t (ixT 1 v i)) 0=some (f a):=
 Rd.ldx h st i 0 (by rw[Nat.mul_one,Nat.add_zero,List.getElem?_map,ha];rfl)
theorem GY.rd {α:Type} {f:α->TV} {v:TV} {rows:List (List α)} (h:GY f v rows):∃vs,Rd 1 v rows.length vs:=by obtain⟨vs,h1,_⟩:=h;exact⟨vs,h1⟩
theorem GY.nil {α:Type} (f:α->TV):GY f .nilSlice []:=⟨[],.inl ⟨rfl,rfl,rfl⟩,rfl,fun i u row h=>by simp at h⟩
def Ga {α:Type} (f:α->TV) (b:Nat) (st:St) (v:TV) (rows:List (List α)):Prop:=∃vs:List TV,Own b 1 st v rows.length vs/\vs.length=rows.length/\∀(i:Nat) (u:TV) (row:List α),vs[i]? =some u->rows[i]? =some row->LT f u row
theorem Ga.rd {α:Type} {f:α->TV} {b:Nat} {st:St} {v:TV} {rows:List (List α)} (h:Ga f b st v rows):GY f v rows:=by
 obtain⟨vs,h1,h2,h3⟩:=h;exact⟨vs,h1.rd,h2,h3⟩
def D3 {α:Type} (g:B8->α) (rs:List Nd):List (List α):=rs.map fun r=>(At r).map fun k=>g (AA k)
theorem S7 {a q:Int} {k:Nd} (hk:Vq a q k) {cs:List TV} (hc:NdC k cs):∃u ys,cs=[.int .i64 5,.str [],.str [],u,.str []]/\Rd 5 u (At k).length ys/\0<(At k).length/\(∀st,Ac st [] (.t (Ao (ixT 5 u 0) 2)) 0=some (.str (AA k)))/\isPtr (ixT 5 u 0)=true:=by
 obtain⟨c,mark,rfl,_,_⟩:=hk
 unfold NdC at hc
 obtain⟨u,ys,rfl,h1,h2⟩:=hc
 refine⟨u,ys,rfl,h1,by simp[At],fun st=>?_,?_⟩
 ·obtain⟨cs,h3,h4⟩:=h2.get (i:=0) rfl
  unfold NdC at h3
  obtain⟨w,zs,rfl,_⟩:=h3
  exact h1.ldfx st 0 2 (h4 2 _ rfl)
 ·rcases h1 with⟨rfl,h,_⟩ | ⟨tip,rfl⟩
  ·simp at h
  ·rfl
theorem T8 {v:TV} {ks:List Nd} {xs:List TV} (hr:Rd 5 v ks.length xs) (hk:AY ks xs) {i:Nat} {k:Nd} (hi:ks[i]? =some k):
  isPtr (ixT 5 v i)=true/\∃cs u ys,NdC k cs/\(∀st,Ac st [] (.t (Ao (ixT 5 v i) 3)) 0=some u)/\Rd 5 u (At k).length ys/\AY (At k) ys/\cs[3]? =some u:=by
 obtain⟨cs,h1,h2⟩:=hk.get hi
 refine⟨?_,?_⟩
 ·rcases hr with⟨rfl,h,_⟩ | ⟨tip,rfl⟩
  ·have:=(List.getElem?_eq_some_iff.1 hi).1;omega
  ·rfl
 ·obtain⟨a,b,c,d,e⟩:=k
  have h3:=h1
  unfold NdC at h3
  obtain⟨u,ys,rfl,h4,h5⟩:=h3
  exact⟨_,u,ys,h1,fun st=>hr.ldfx st i 3 (h2 3 _ rfl),h4,h5,rfl⟩
theorem MF {v:TV} {ks:List Nd} {xs:List TV} (hr:Rd 5 v ks.length xs) (hk:AY ks xs) (st:St) {i:Nat} {k:Nd} (hi:ks[i]? =some k):
  ∃cs,NdC k cs/\(Aj st [] (.t (ixT 5 v i)) 0 5).map TV.agg=some (.agg cs):=by
 obtain⟨a,b,c,d,e⟩:=k
 obtain⟨u,ys,h1,h2,h3,h4⟩:=LF hr hk st hi
 exact⟨_,by unfold NdC;exact⟨u,ys,rfl,h2,h3⟩,h1⟩
section
def Lq:Nd->List Nd | .mk _ _ _ ks _=>ks
def Bi (q:Int) (c:B8):Bool:=decide (¬(c=[]∨by_ c 0≠q))
open Classical in
noncomputable def F4 {α:Type} (g:B8->α) (n:Nd) (a q:Int) (hd:Bool):List (List α):=if HF n a q hd then D3 g (Lq n)else []
open Classical in
noncomputable def JC (n:Nd) (a q:Int) (hd:Bool):Int:=if HF n a q hd then 0 else 1
theorem Rq {n:Nd} {a q:Int} {hd:Bool} (h:HF n a q hd):∃rs,n= .mk 1 [] [] rs []/\(∀r∈rs,RecF a q r)/\D5 n<=1048576/\rs.length<=D5 n/\∀r∈rs,(At r).length<=10000000/\∀k∈At r,(AA k).length<=1048576:=by
 obtain⟨rs,rfl,_,_,_,_,_,hr,_⟩:=Cc h.2
 have hn:=Eg (.mk 1 [] [] rs [])
 have hlen:=N1 h.1
 have hkc:=Pd hr (Nat.zero_le _)
 have hs0:(xU (Dd (.mk 1 [] [] rs [])) a q).s.length=D5 (.mk 1 [] [] rs []):=hn
 rw[hs0]at hkc
 refine⟨rs,rfl,hr.form (Nat.zero_le _),hlen,by have:=hkc.2;omega,fun r hr1=>?_⟩
 obtain⟨i,hi⟩:=List.getElem?_of_mem hr1
 have h1:=GK rs hi
 have h2:=KK rs i r hi
 obtain⟨a1,b1,c1,ks,e1⟩:=r
 have h3:=GL ks
 simp only[EG,D5,At]at h1 h2⊢
 have hk1:=hkc.1
 simp only[D5]at hlen hk1
 refine⟨by omega,fun k hk=>?_⟩
 obtain⟨j,hj⟩:=List.getElem?_of_mem hk
 have h4:=KK ks j k hj
 have h5:(AA k).length<=D5 k:=by
  obtain⟨a2,b2,c2,js,e2⟩:=k
  cases js with
  | nil=>simp[AA,At]
  | cons y ys=>
   obtain⟨a3,b3,c3,zs,e3⟩:=y
   simp only[AA,At,D5,GI];omega
 omega
section
variable {n:Nd} {cs:List TV} {a q:Int} {hd ty:Bool} {st:St}
theorem Ga.add {α:Type} {f:α->TV} {T by_:Nat} {st0 st:St} {v u:TV} {rows:List (List α)} {row:List α} {K:TV->St->Prop} (e:As st0 st) (h:Ga f st0.nt st v rows) (hu:LT f u row) (hby:(rows.length+1)*by_<=140737488355328)
  (hk:∀v' st',As st0 st'->Ga f st0.nt st' v' (rows++[row])->K v' st'):AT T 1 by_ v 1 [u] st K:=by
 obtain⟨vs,h1,h2,h3⟩:=h
 refine BF e rfl h1 hby (fun h=>by cases h) fun v' st' e' _ ho=>hk v' st' e' ⟨vs++[u],by rw[List.length_append];exact ho,by simp[h2],fun i u' row' hi hr=>?_⟩
 by_cases hlt:i<vs.length
 ·rw[List.getElem?_append_left hlt]at hi
  rw[List.getElem?_append_left (by omega)]at hr
  exact h3 i u' row' hi hr
 ·rw[List.getElem?_append_right (by omega)]at hi
  rw[List.getElem?_append_right (by omega)]at hr
  have h0:i-vs.length=0:=by
   have:=(List.getElem?_eq_some_iff.1 hi).1
   simp at this;omega
  rw[h0]at hi
  rw[show i-rows.length=0 by omega]at hr
  simp only[List.getElem?_cons_zero,Option.some.injEq]at hi hr
  subst hi hr;exact hu
theorem Ga.ext {α:Type} {f:α->TV} {b:Nat} {st st':St} {v:TV} {rows:List (List α)} (h:Ga f b st v rows) (e:As st st'):Ga f b st' v rows:=by
 obtain⟨vs,h1,h2,h3⟩:=h;exact⟨vs,h1.ext e,h2,h3⟩
theorem Ga.nil {α:Type} (f:α->TV) (b:Nat) (st:St):Ga f b st .nilSlice []:=⟨[],Own.nil _ _ _,rfl,fun i u row h=>by simp at h⟩
theorem Rm {K:TV->Int->St->Prop} (hc:NdC n cs) (hl:D5 n<=100000000000000) (hcn:EG n<=1000000000000000)
  (hk:∀v st',As st st'->GY TV.str v (F4 (txt q) n a q hd)->K v (JC n a q hd) st'):
  CallT PR Ek [.agg cs,.agg [.int .u8 a,.int .u8 q,.bool hd,.bool ty]] [.one .tv,.one (.int .i64)] st K:=by
 have tn:∀k:Nat,Int.toNat (k:Int)=k:=fun k=>rfl
 have w1:∀k:Nat,k<=100000000->i64.wrap ((k:Int)+1)=((k+1:Nat):Int):=fun k hk=>by rw[Ah _ (by omega) (by omega)];omega
 have hc0:=hc
 obtain⟨k,l,t,ks,tl⟩:=n
 unfold NdC at hc
 obtain⟨v,xs,rfl,hr,hx⟩:=hc
 refine K5 k l t v tl a q hd ty st K (TY hc0 hl hcn (fun st1 e1 ho=>?_) fun st1 e1 ho=>?_)
 case' refine_2=>
  refine Am (fun _=>?_) fun h=>by cases h
  have:=hk .nilSlice st1 e1 (by unfold F4;rw[if_neg ho];exact GY.nil _)
  unfold JC at this
  rwa [if_neg ho]at this
 refine Am (fun h=>by cases h) fun _=>Ab hr.isSl ?_
 have hfin:∀v st',As st st'->GY TV.str v (D3 (txt q) ks)->K v 0 st':=fun v st' e h=>by
  have:=hk v st' e (by unfold F4;rw[if_pos ho];exact h)
  unfold JC at this
  rwa [if_pos ho]at this
 obtain⟨rs,hn,hform,hlen,hrl,hkl⟩:=Rq ho
 cases hn
 rw[hr.lenS]
 refine⟨fun out i v' n' a' q' b1 b2 st'=>v=v'/\(ks.length:Int)=n'/\a=a'/\q=q'/\hd=b1/\ty=b2/\As st st'/\∃j:Nat,i=(j:Int)/\j<=ks.length/\Ga TV.str st.nt st' out (D3 (txt q) (ks.take j)),
  fun _ i _ _ _ _ _ _ _=>(ks.length-i).toNat,⟨rfl,rfl,rfl,rfl,rfl,rfl,e1,0,rfl,by omega,by rw[List.take_zero];exact Ga.nil _ _ _⟩,?_⟩
 rintro out _ _ _ _ _ _ _ st2 ⟨rfl,rfl,rfl,rfl,rfl,rfl,e2,j,rfl,hj,hg⟩
 rw[hr.lenZ,tn]
 refine Aa (fun g=>?_) fun g=>?_
 case' refine_2=>
  rw[List.take_of_length_le (by omega)]at hg
  exact hfin _ _ e2 hg.rd
 have hlt:j<ks.length:=by omega
 have hget:=List.getElem?_eq_getElem hlt
 generalize ks[j]=r at hget
 have hrf:=hform r (Ba hget)
 have hrk:=hkl r (Ba hget)
 obtain⟨ents,tail,rfl,hne,hents⟩:=hrf
 obtain⟨rc,hrc,hld⟩:=MF hr hx st2 hget
 unfold NdC at hrc
 obtain⟨u,ys,rfl,hu,hy⟩:=hrc
 refine⟨⟨by omega,by omega⟩,Ad hld (IN (Ab (B1 hu.one) (Ab hu.isSl ?_)))⟩
 rw[hu.lenS]
 simp only[At]at hrk
 refine⟨fun li m out' v' n' i' u' m' a' q' b1 b2 st'=>out=out'/\v=v'/\(ks.length:Int)=n'/\(j:Int)=i'/\u=u'/\(ents.length:Int)=m'/\a=a'/\q=q'/\hd=b1/\ty=b2/\As st2 st'/\∃p:Nat,m=(p:Int)/\p<=ents.length/\Own st2.nt 1 st' li p (((ents.take p).map fun k=>txt q (AA k)).map TV.str),
  fun _ m _ _ _ _ _ _ _ _ _ _ _=>(ents.length-m).toNat,⟨rfl,rfl,rfl,rfl,rfl,rfl,rfl,rfl,rfl,rfl,As.refl _,0,rfl,by omega,Own.nil _ _ _⟩,?_⟩
 rintro li _ _ _ _ _ _ _ _ _ _ _ st3 ⟨rfl,rfl,rfl,rfl,rfl,rfl,rfl,rfl,rfl,rfl,e3,p,rfl,hp,hli⟩
 rw[hu.lenZ,tn]
 refine Aa (fun g2=>?_) fun g2=>?_
 ·have hlt2:p<ents.length:=by omega
  have hget2:=List.getElem?_eq_getElem hlt2
  generalize ents[p]=en at hget2
  have hef:=hents en (Ba hget2)
  obtain⟨ec,hec,hld2⟩:=MF hu hy st3 hget2
  obtain⟨w,zs,rfl,hw,hpos,hwl,hwp⟩:=S7 hef hec
  refine⟨⟨by omega,by omega⟩,Ad hld2 (IN (Ab (B1 hw.one) ?_))⟩
  rw[hw.lenZ]
  refine⟨⟨by omega,by omega⟩,Ab hwp (Ad (hwl _) (Al ?_))⟩
  have hcl:=hrk.2 en (Ba hget2)
  have hcw:Mf q (AA en):=by
   obtain⟨c,mark,rfl,hcw,_⟩:=hef
   exact hcw
  refine M8 hcw (by omega) fun st4 e4=>?_
  refine BF (e3.trans e4) rfl (hli.ext e4) (by omega) (fun h=>by cases h) fun v5 st5 e5 _ o5=>?_
  rw[w1 p (by omega)]
  refine⟨⟨rfl,rfl,rfl,rfl,rfl,rfl,rfl,rfl,rfl,rfl,e5,p+1,rfl,by omega,?_⟩,by dsimp only;omega⟩
  rw[List.take_add_one,hget2]
  simpa using o5
 ·have hpe:p=ents.length:=by omega
  rw[hpe,List.take_of_length_le (by omega)]at hli
  refine Ab (HG hli.rd.one) (Ab (HG hli.rd.one) ?_)
  refine(hg.ext e3).add (e2.trans e3) (row:=ents.map fun k=>txt q (AA k)) (by unfold LT;rw[List.length_map];exact hli.rd) (by simp only[D3,List.length_map,List.length_take];omega) fun v' st' e' hg'=>?_
  rw[w1 j (by omega)]
  refine⟨⟨rfl,rfl,rfl,rfl,rfl,rfl,e',j+1,rfl,by omega,?_⟩,by dsimp only;omega⟩
  rw[List.take_add_one,hget]
  simpa [D3,At]using hg'
end
end
section
section
variable {n:Nd} {cs:List TV} {a q:Int} {hd ty:Bool} {st:St}
theorem Sy {K:TV->Int->St->Prop} (hc:NdC n cs) (hl:D5 n<=100000000000000) (hcn:EG n<=1000000000000000)
  (hk:∀v st',As st st'->GY TV.bool v (F4 (Bi q) n a q hd)->K v (JC n a q hd) st'):
  CallT PR EK [.agg cs,.agg [.int .u8 a,.int .u8 q,.bool hd,.bool ty]] [.one .tv,.one (.int .i64)] st K:=by
 have tn:∀k:Nat,Int.toNat (k:Int)=k:=fun k=>rfl
 have w1:∀k:Nat,k<=100000000->i64.wrap ((k:Int)+1)=((k+1:Nat):Int):=fun k hk=>by rw[Ah _ (by omega) (by omega)];omega
 have hc0:=hc
 obtain⟨k,l,t,ks,tl⟩:=n
 unfold NdC at hc
 obtain⟨v,xs,rfl,hr,hx⟩:=hc
 refine Mm k l t v tl a q hd ty st K (TY hc0 hl hcn (fun st1 e1 ho=>?_) fun st1 e1 ho=>?_)
 case' refine_2=>
  refine Am (fun _=>?_) fun h=>by cases h
  have:=hk .nilSlice st1 e1 (by unfold F4;rw[if_neg ho];exact GY.nil _)
  unfold JC at this
  rwa [if_neg ho]at this
 refine Am (fun h=>by cases h) fun _=>Ab hr.isSl ?_
 have hfin:∀v st',As st st'->GY TV.bool v (D3 (Bi q) ks)->K v 0 st':=fun v st' e h=>by
  have:=hk v st' e (by unfold F4;rw[if_pos ho];exact h)
  unfold JC at this
  rwa [if_pos ho]at this
 obtain⟨rs,hn,hform,hlen,hrl,hkl⟩:=Rq ho
 cases hn
 rw[hr.lenS]
 refine⟨fun out i v' n' a' q' b1 b2 st'=>v=v'/\(ks.length:Int)=n'/\a=a'/\q=q'/\hd=b1/\ty=b2/\As st st'/\∃j:Nat,i=(j:Int)/\j<=ks.length/\Ga TV.bool st.nt st' out (D3 (Bi q) (ks.take j)),
  fun _ i _ _ _ _ _ _ _=>(ks.length-i).toNat,⟨rfl,rfl,rfl,rfl,rfl,rfl,e1,0,rfl,by omega,by rw[List.take_zero];exact Ga.nil _ _ _⟩,?_⟩
 rintro out _ _ _ _ _ _ _ st2 ⟨rfl,rfl,rfl,rfl,rfl,rfl,e2,j,rfl,hj,hg⟩
 rw[hr.lenZ,tn]
 refine Aa (fun g=>?_) fun g=>?_
 case' refine_2=>
  rw[List.take_of_length_le (by omega)]at hg
  exact hfin _ _ e2 hg.rd
 have hlt:j<ks.length:=by omega
 have hget:=List.getElem?_eq_getElem hlt
 generalize ks[j]=r at hget
 have hrf:=hform r (Ba hget)
 have hrk:=hkl r (Ba hget)
 obtain⟨ents,tail,rfl,hne,hents⟩:=hrf
 obtain⟨rc,hrc,hld⟩:=MF hr hx st2 hget
 unfold NdC at hrc
 obtain⟨u,ys,rfl,hu,hy⟩:=hrc
 refine⟨⟨by omega,by omega⟩,Ad hld (IN (Ab (B1 hu.one) (Ab hu.isSl ?_)))⟩
 rw[hu.lenS]
 simp only[At]at hrk
 refine⟨fun li m out' v' n' i' u' m' a' q' b1 b2 st'=>out=out'/\v=v'/\(ks.length:Int)=n'/\(j:Int)=i'/\u=u'/\(ents.length:Int)=m'/\a=a'/\q=q'/\hd=b1/\ty=b2/\As st2 st'/\∃p:Nat,m=(p:Int)/\p<=ents.length/\Own st2.nt 1 st' li p (((ents.take p).map fun k=>Bi q (AA k)).map TV.bool),
  fun _ m _ _ _ _ _ _ _ _ _ _ _=>(ents.length-m).toNat,⟨rfl,rfl,rfl,rfl,rfl,rfl,rfl,rfl,rfl,rfl,As.refl _,0,rfl,by omega,Own.nil _ _ _⟩,?_⟩
 rintro li _ _ _ _ _ _ _ _ _ _ _ st3 ⟨rfl,rfl,rfl,rfl,rfl,rfl,rfl,rfl,rfl,rfl,e3,p,rfl,hp,hli⟩
 rw[hu.lenZ,tn]
 refine Aa (fun g2=>?_) fun g2=>?_
 ·have hlt2:p<ents.length:=by omega
  have hget2:=List.getElem?_eq_getElem hlt2
  generalize ents[p]=en at hget2
  have hef:=hents en (Ba hget2)
  obtain⟨ec,hec,hld2⟩:=MF hu hy st3 hget2
  obtain⟨w,zs,rfl,hw,hpos,hwl,hwp⟩:=S7 hef hec
  refine⟨⟨by omega,by omega⟩,Ad hld2 (IN (Ab (B1 hw.one) ?_))⟩
  rw[hw.lenZ]
  refine⟨⟨by omega,by omega⟩,Ab hwp (Ad (hwl _) (Al ?_))⟩
  have hcl:=hrk.2 en (Ba hget2)
  have hcw:Mf q (AA en):=by
   obtain⟨c,mark,rfl,hcw,_⟩:=hef
   exact hcw
  refine M8 hcw (by omega) fun st4 e4=>?_
  rw[show decide (¬(AA en=[]∨by_ (AA en) 0≠q))=Bi q (AA en)from rfl]
  refine BF (e3.trans e4) rfl (hli.ext e4) (by omega) (fun h=>by cases h) fun v5 st5 e5 _ o5=>?_
  rw[w1 p (by omega)]
  refine⟨⟨rfl,rfl,rfl,rfl,rfl,rfl,rfl,rfl,rfl,rfl,e5,p+1,rfl,by omega,?_⟩,by dsimp only;omega⟩
  rw[List.take_add_one,hget2]
  simpa using o5
 ·have hpe:p=ents.length:=by omega
  rw[hpe,List.take_of_length_le (by omega)]at hli
  refine Ab (HG hli.rd.one) (Ab (HG hli.rd.one) ?_)
  refine(hg.ext e3).add (e2.trans e3) (row:=ents.map fun k=>Bi q (AA k)) (by unfold LT;rw[List.length_map];exact hli.rd) (by simp only[D3,List.length_map,List.length_take];omega) fun v' st' e' hg'=>?_
  rw[w1 j (by omega)]
  refine⟨⟨rfl,rfl,rfl,rfl,rfl,rfl,e',j+1,rfl,by omega,?_⟩,by dsimp only;omega⟩
  rw[List.take_add_one,hget]
  simpa [D3,At]using hg'
end
end
section
def Ns (a q:Int) (s:B8):Except Int B8:=if dOk a q=false then .error 1 else if Bh s=s.length then .ok (DO a q s)else .error 5
def xT:Except Int B8->B8 | .ok t=>t | .error _=>[]
def xE:Except Int B8->Int | .ok _=>0 | .error e=>e
theorem Uv {a q:Int} (h:dOk a q=true):(a=9∨(32<=a/\a<=126))/\33<=q/\q<=126/\a≠q:=by
 unfold dOk at h
 exact(of_decide_eq_true h).1
theorem SH {a q:Int} {s:B8} {j:Nat} (h:j<s.length):FW a q (s.take (j+1))=(FW a q (s.take j) || decide (by_ s j=a∨by_ s j=q∨by_ s j=10∨by_ s j=13)):=by
 unfold FW
 rw[Ei s j 0 h,List.any_append]
 simp only[List.any_cons,List.any_nil,Bool.or_false]
 rfl
theorem I9 {a q:Int} {s:B8} {j:Nat} (h:j<s.length) (hb:by_ s j=a∨by_ s j=q∨by_ s j=10∨by_ s j=13):FW a q s=true:=by
 unfold FW
 rw[List.any_eq_true]
 refine⟨s.getD j 0,?_,decide_eq_true hb⟩
 rw[List.getD_eq_getElem?_getD,List.getElem?_eq_getElem h]
 exact List.getElem_mem h
theorem Qj (c:UInt8):∀t:B8,(dbl c t).length<=2*t.length
 | []=>by simp[dbl]
 | b::t=>by
  have:=Qj c t
  rw[Cp,List.length_append,List.length_cons]
  split<;>simp<;>omega
section
variable {a q:Int} {hd ty:Bool} {st:St}
theorem UW {s:B8} {K:B8->Int->St->Prop} (hl:s.length<=2000000) (hk:K (xT (Ns a q s)) (xE (Ns a q s)) st):
  CallT PR DV [.str s,.agg [.int .u8 a,.int .u8 q,.bool hd,.bool ty]] [.one .str,.one (.int .i64)] st K:=by
 have tn:∀k:Nat,Int.toNat (k:Int)=k:=fun k=>rfl
 have w1:∀k:Nat,k<=100000000->i64.wrap ((k:Int)+1)=((k+1:Nat):Int):=fun k hk=>by rw[Ah _ (by omega) (by omega)];omega
 unfold Ns at hk
 refine MX s a q hd ty st K (LN (Am (fun g=>?_) fun g=>?_))
 ·rw[if_pos (by simpa using g)]at hk;exact hk
 have gd:dOk a q=true:=by simpa using g
 rw[if_neg (by rw[gd];decide)]at hk
 have hdk:=Uv gd
 refine Lc hl (Am (fun g=>?_) fun g=>?_)
 ·rw[if_neg (by simpa using g)]at hk;exact hk
 rw[if_pos (by simpa using g)]at hk
 have hqn:=I8 (q:=q) (by omega) (by omega)
 generalize hc:UInt8.ofNat q.toNat=c at hqn
 refine Ad (Lf st c hqn) (Al ?_)
 refine⟨fun i s' q' n1 n2 b1 b2 st'=>s=s'/\[c]=q'/\a=n1/\q=n2/\hd=b1/\ty=b2/\st=st'/\∃j:Nat,i=(j:Int)/\j<=s.length/\FW a q (s.take j)=false,
  fun i _ _ _ _ _ _ _=>(s.length-i).toNat,⟨rfl,rfl,rfl,rfl,rfl,rfl,rfl,0,rfl,by omega,rfl⟩,?_⟩
 rintro _ _ _ _ _ _ _ _ ⟨rfl,rfl,rfl,rfl,rfl,rfl,rfl,j,rfl,hj,hnq⟩
 rw[tn]
 refine Aa (fun g1=>⟨⟨by omega,by omega⟩,?_⟩) fun g1=>?_
 ·have fin:FW a q s=true->CallT PR AE [.str s,.str [c],.str ([c]++[c])] [.one .str] st fun s4 st6=>(([c].length+s4.length<=9223372036854775807)/\((([c]++s4).length+ [c].length<=9223372036854775807)/\K ([c]++s4++[c]) 0 st6)):=fun hn=>by
   refine JA (by simp) (by omega) ?_
   have hdl:=Qj c s
   unfold dbl at hdl
   refine⟨by simp only[List.length_cons,List.length_nil];omega,by simp only[List.length_append,List.length_cons,List.length_nil];omega,?_⟩
   unfold DO at hk
   rw[if_pos hn,hc]at hk
   exact hk
  refine Aa (fun q1=>⟨by simp,fin (I9 (j:=j) (by omega) (.inl q1))⟩) fun q1=>Aa (fun q2=>⟨by simp,fin (I9 (j:=j) (by omega) (.inr (.inl q2)))⟩) fun q2=>Aa (fun q3=>⟨by simp,fin (I9 (j:=j) (by omega) (.inr (.inr (.inl q3))))⟩) fun q3=>
   Aa (fun q4=>⟨by simp,fin (I9 (j:=j) (by omega) (.inr (.inr (.inr q4))))⟩) fun q4=>?_
  rw[w1 j (by omega)]
  refine⟨⟨rfl,rfl,rfl,rfl,rfl,rfl,rfl,j+1,rfl,by omega,?_⟩,by dsimp only;omega⟩
  rw[SH (by omega),hnq,Bool.false_or]
  exact decide_eq_false (by rintro(h | h | h | h);exact q1 h;exact q2 h;exact q3 h;exact q4 h)
 ·rw[List.take_of_length_le (by omega)]at hnq
  unfold DO at hk
  rw[if_neg (by rw[hnq];decide)]at hk
  exact hk
end
end
section
def Mr (cs:List B8):Nat:=match cs with | []=>0 | c::r=>c.length+Mr r
section
variable {a q:Int} {hd ty:Bool} {st:St}
end
end
end Go.TVF
