/- What the laws below rest on: a framework for Go programs, and contracts of the functions that they reach. -/
import Derived.Shelf.Small.Strs
import Derived.Shelf.Strings.Repeat
import Derived.Shelf.Strings.Trim
import Derived.Test.YtahjbepjlconkaaGreatDoorProg
import Derived.Below
import Derived.Shelf.Unicode.DecodeSlow
import Derived.Tactics
import Derived.Lib.UnsafeStr
import Derived.Laws.Cells
import Derived.Laws.Entries
import Derived.Laws.Strings
import Derived.Laws.StructEq
import Derived.Laws.Small
import Derived.Laws.Pointers
import Derived.Laws.Cover3
import Derived.Laws.BytesArg
import Derived.Laws.Strings2
import Derived.Laws.AppendOwn
import Derived.Laws.IdiomCopy
set_option maxRecDepth 20000
set_option linter.unusedVariables false
set_option linter.unusedSimpArgs false
namespace Go.TVF
abbrev B8:=List UInt8
end Go.TVF
section
namespace Go.Proofs
open Go.Shelf
def Tryz.lays161_ren:Go.Shelf.Ren:=⟨λ| 161=>375 | 231=>387 | 227=>343 | 233=>388 | 235=>389 | 228=>369 | 197=>157 | 151=>371 | 260=>220 | 152=>385 | 137=>185 | 119=>396 | 224=>361 | 225=>360 | 217=>263 | 266=>322 | n=>n,λ| 9=>9 | 4=>4 | 3=>3 | 5=>5 | 117=>383 | 116=>382 | 0=>0 | 124=>386 | 105=>237 | 21=>21 | 119=>351 | 46=>277 | 139=>354 | 138=>353 | n=>n,λ| 3=>0 | 4=>1 | n=>n⟩
theorem Tryz.lays161:Go.Proofs.Lays.n161 Tryz.prog Tryz.lays161_ren:={
 mixed:=by kernel_rfl
 f119:=Tryz.func396.trans (congrArg some (by kernel_rfl))
 f137:=Tryz.func185.trans (congrArg some (by kernel_rfl))
 f151:=Tryz.func371.trans (congrArg some (by kernel_rfl))
 f152:=Tryz.func385.trans (congrArg some (by kernel_rfl))
 f161:=Tryz.func375.trans (congrArg some (by kernel_rfl))
 f197:=Tryz.func157.trans (congrArg some (by kernel_rfl))
 f217:=Tryz.func263.trans (congrArg some (by kernel_rfl))
 f224:=Tryz.func361.trans (congrArg some (by kernel_rfl))
 f225:=Tryz.func360.trans (congrArg some (by kernel_rfl))
 f227:=Tryz.func343.trans (congrArg some (by kernel_rfl))
 f228:=Tryz.func369.trans (congrArg some (by kernel_rfl))
 f231:=Tryz.func387.trans (congrArg some (by kernel_rfl))
 f233:=Tryz.func388.trans (congrArg some (by kernel_rfl))
 f235:=Tryz.func389.trans (congrArg some (by kernel_rfl))
 f260:=Tryz.func220.trans (congrArg some (by kernel_rfl))
 f266:=Tryz.func322.trans (congrArg some (by kernel_rfl))
 t0:=Tryz.underlying0
 a0:=Tryz.isAgg0
 z0:=Tryz.sizeOf0
 v0:=Tryz.zeroValue0
 t3:=Tryz.underlying3
 a3:=Tryz.isAgg3
 z3:=Tryz.sizeOf3
 v3:=Tryz.zeroValue3
 t4:=Tryz.underlying4
 a4:=Tryz.isAgg4
 z4:=Tryz.sizeOf4
 v4:=Tryz.zeroValue4
 t5:=Tryz.underlying5
 a5:=Tryz.isAgg5
 z5:=Tryz.sizeOf5
 v5:=Tryz.zeroValue5
 t9:=Tryz.underlying9
 a9:=Tryz.isAgg9
 z9:=Tryz.sizeOf9
 v9:=Tryz.zeroValue9
 t21:=Tryz.underlying21
 a21:=Tryz.isAgg21
 z21:=Tryz.sizeOf21
 v21:=Tryz.zeroValue21
 t46:=Tryz.underlying277
 a46:=Tryz.isAgg277
 z46:=Tryz.sizeOf277
 v46:=Tryz.zeroValue277
 t105:=Tryz.underlying237
 a105:=Tryz.isAgg237
 z105:=Tryz.sizeOf237
 v105:=Tryz.zeroValue237
 t116:=Tryz.underlying382
 a116:=Tryz.isAgg382
 z116:=Tryz.sizeOf382
 t117:=Tryz.underlying383
 a117:=Tryz.isAgg383
 z117:=Tryz.sizeOf383
 v117:=Tryz.zeroValue383
 t119:=Tryz.underlying351
 a119:=Tryz.isAgg351
 z119:=Tryz.sizeOf351
 t124:=Tryz.underlying386
 a124:=Tryz.isAgg386
 z124:=Tryz.sizeOf386
 v124:=Tryz.zeroValue386
 t138:=Tryz.underlying353
 a138:=Tryz.isAgg353
 z138:=Tryz.sizeOf353
 v138:=Tryz.zeroValue353
 t139:=Tryz.underlying354
 a139:=Tryz.isAgg354
 z139:=Tryz.sizeOf354
 v139:=Tryz.zeroValue354
 g3:=by kernel_rfl
 g4:=by kernel_rfl}
open Go.RowKit in
theorem Tryz.strings_TrimLeft_one (s:ByteArray) (c:UInt8) (hc:c.toNat<128) (w:World):
  Calls Tryz.prog 375 #[.string s,.string ⟨#[c]⟩] w λe w'=>e= .returned (.string ⟨(Lib.trimLeftB s.data.toList c).toArray⟩)/\w'=w:=Any.strings_TrimLeft_one Tryz.lays161 s c hc w
def Tryz.lays162_ren:Go.Shelf.Ren:=⟨λ| 162=>295 | 232=>342 | 227=>343 | 234=>344 | 236=>345 | 228=>369 | 271=>370 | 151=>371 | 120=>384 | 197=>157 | 152=>385 | 260=>220 | 137=>185 | 119=>396 | 224=>361 | 225=>360 | 217=>263 | 266=>322 | n=>n,λ| 9=>9 | 4=>4 | 3=>3 | 5=>5 | 117=>383 | 116=>382 | 0=>0 | 124=>386 | 21=>21 | 105=>237 | 46=>277 | 119=>351 | 139=>354 | 138=>353 | n=>n,λ| 3=>0 | 4=>1 | n=>n⟩
theorem Tryz.lays162:Go.Proofs.Lays.n162 Tryz.prog Tryz.lays162_ren:={
 mixed:=by kernel_rfl
 f119:=Tryz.func396.trans (congrArg some (by kernel_rfl))
 f120:=Tryz.func384.trans (congrArg some (by kernel_rfl))
 f137:=Tryz.func185.trans (congrArg some (by kernel_rfl))
 f151:=Tryz.func371.trans (congrArg some (by kernel_rfl))
 f152:=Tryz.func385.trans (congrArg some (by kernel_rfl))
 f162:=Tryz.func295.trans (congrArg some (by kernel_rfl))
 f197:=Tryz.func157.trans (congrArg some (by kernel_rfl))
 f217:=Tryz.func263.trans (congrArg some (by kernel_rfl))
 f224:=Tryz.func361.trans (congrArg some (by kernel_rfl))
 f225:=Tryz.func360.trans (congrArg some (by kernel_rfl))
 f227:=Tryz.func343.trans (congrArg some (by kernel_rfl))
 f228:=Tryz.func369.trans (congrArg some (by kernel_rfl))
 f232:=Tryz.func342.trans (congrArg some (by kernel_rfl))
 f234:=Tryz.func344.trans (congrArg some (by kernel_rfl))
 f236:=Tryz.func345.trans (congrArg some (by kernel_rfl))
 f260:=Tryz.func220.trans (congrArg some (by kernel_rfl))
 f266:=Tryz.func322.trans (congrArg some (by kernel_rfl))
 f271:=Tryz.func370.trans (congrArg some (by kernel_rfl))
 t0:=Tryz.underlying0
 a0:=Tryz.isAgg0
 z0:=Tryz.sizeOf0
 v0:=Tryz.zeroValue0
 t3:=Tryz.underlying3
 a3:=Tryz.isAgg3
 z3:=Tryz.sizeOf3
 v3:=Tryz.zeroValue3
 t4:=Tryz.underlying4
 a4:=Tryz.isAgg4
 z4:=Tryz.sizeOf4
 v4:=Tryz.zeroValue4
 t5:=Tryz.underlying5
 a5:=Tryz.isAgg5
 z5:=Tryz.sizeOf5
 v5:=Tryz.zeroValue5
 t9:=Tryz.underlying9
 a9:=Tryz.isAgg9
 z9:=Tryz.sizeOf9
 v9:=Tryz.zeroValue9
 t21:=Tryz.underlying21
 a21:=Tryz.isAgg21
 z21:=Tryz.sizeOf21
 v21:=Tryz.zeroValue21
 t46:=Tryz.underlying277
 a46:=Tryz.isAgg277
 z46:=Tryz.sizeOf277
 v46:=Tryz.zeroValue277
 t105:=Tryz.underlying237
 a105:=Tryz.isAgg237
 z105:=Tryz.sizeOf237
 v105:=Tryz.zeroValue237
 t116:=Tryz.underlying382
 a116:=Tryz.isAgg382
 z116:=Tryz.sizeOf382
 t117:=Tryz.underlying383
 a117:=Tryz.isAgg383
 z117:=Tryz.sizeOf383
 v117:=Tryz.zeroValue383
 t119:=Tryz.underlying351
 a119:=Tryz.isAgg351
 z119:=Tryz.sizeOf351
 t124:=Tryz.underlying386
 a124:=Tryz.isAgg386
 z124:=Tryz.sizeOf386
 v124:=Tryz.zeroValue386
 t138:=Tryz.underlying353
 a138:=Tryz.isAgg353
 z138:=Tryz.sizeOf353
 v138:=Tryz.zeroValue353
 t139:=Tryz.underlying354
 a139:=Tryz.isAgg354
 z139:=Tryz.sizeOf354
 v139:=Tryz.zeroValue354
 g3:=by kernel_rfl
 g4:=by kernel_rfl}
open Go.RowKit in
theorem Tryz.strings_TrimRight_one (s:ByteArray) (c:UInt8) (hc:c.toNat<128) (w:World) (hs:s.size<=9223372036854775807):
  Calls Tryz.prog 295 #[.string s,.string ⟨#[c]⟩] w λe w'=>e= .returned (.string ⟨(Lib.trimRightB s.data.toList c).toArray⟩)/\w'=w:=Any.strings_TrimRight_one Tryz.lays162 s c hc w hs
end Go.Proofs
end
section
namespace Go.TVF
open Go.IntKind(i64 u8)
def UA (w:Go.World):Prop:=Lib.Utf8Tabs 0 1 w
end Go.TVF
end
section
namespace Go.TVF
open Go.IntKind(i64 u8)
open Go.RowKit (Below)
inductive Tip where
 | non
 | full
 | own (id:Nat)
inductive TV where
 | undef
 | junk
 | int (k:IntKind) (n:Int)
 | bool (b:Bool)
 | str (l:B8)
 | nilPtr
 | nilSlice
 | nilMap
 | nilFunc
 | nilIface
 | list (sz:Nat) (tip:Tip) (n:Nat) (xs:List TV)
 | ms (sz b off n cap:Nat)
 | box (b off:Nat)
 | rptr (xs:List TV)
 | agg (xs:List TV)
 | tuple (xs:List TV)
 | func (f:Nat) (cap:List TV)
 | iface (t:Nat) (v:TV)
 | map (b:Nat)
 | sptr (v:TV)
inductive JQ where
 | dead
 | cells (l:List TV)
 | iter (s:B8) (pos:Nat)
 | map (es:List (B8×TV))
 | pmap (es:List (Nat×TV))
structure St where
 nb:Nat
 box:Nat->JQ
 nt:Nat
 live:Nat->Bool
 ty:Nat->Option Nat
 bt:Nat->Option Nat
inductive SV where
 | t (v:TV)
 | loc (i off:Nat)
structure Be where
 n:Nat
 f:Nat->SV
def Be.set (s:Be) (d:Nat) (v:SV):Be:=⟨s.n,λi=>match i.beq d with | true=>(match (Nat.succ d).ble s.n with | true=>v | false=>s.f i) | false=>s.f i⟩
theorem Be.set_n (s:Be) (d:Nat) (v:SV):(s.set d v).n=s.n:=rfl
theorem HX {i d:Nat} (h:i≠d):i.beq d=false:=by
 grind [Nat.eq_of_beq_eq_true]
theorem Be.set_ne {s:Be} {d i:Nat} {v:SV} (h:i≠d):(s.set d v).f i=s.f i:=by
 grind [Be.set,HX]
theorem Be.set_eq {s:Be} {d:Nat} {v:SV} (h:d<s.n):(s.set d v).f d=v:=by
 grind [Be.set,Nat.ble_eq_true_of_le,Nat.beq_refl]
theorem Be.set_out {s:Be} {d:Nat} {v:SV} (h:¬d<s.n):s.set d v=s:=by
 obtain⟨n,f⟩:=s;simp[Be.set,Be.mk.injEq,true_and];have:(Nat.succ d).ble n=false:=by
  cases hb:(Nat.succ d).ble n with
  | false=>rfl
  | true=>exact absurd (Nat.le_of_ble_eq_true hb) h
 grind
theorem Be.set_self {s:Be} {d:Nat} {v:SV} (h:s.f d=v):s.set d v=s:=by
 obtain⟨n,f⟩:=s;grind [Be.set,Be.mk.injEq,Nat.eq_of_beq_eq_true]
theorem Be.set_comm {s:Be} {d e:Nat} (v u:SV) (h:d≠e):(s.set d v).set e u=(s.set e u).set d v:=by
 simp[Be.set,Be.mk.injEq,true_and];grind [Nat.eq_of_beq_eq_true]
structure Fr where
 slots:Be
 loc:List (Option (List TV))
structure Ak where
 base:Nat
 w0:World
 nb:Nat
 bk:Nat->Nat
 lam:Nat->Nat
 nt:Nat
 sp:Nat->Option (Nat×Nat×Nat)
 S:Addr->Prop
 prot:Nat->Prop
def S4 (g:Ak):Tip->Addr->(n cap sz:Nat)->Prop
 | .non,_,_,_,_=>True
 | .full,_,n,cap,_=>cap=n
 | .own id,a,n,cap,sz=>id<g.nt/\∀r,g.sp id=some r->r=(a.block,a.off+n*sz,a.off+cap*sz)
inductive Rel (g:Ak) (w:World):TV->Value->Prop
 | undef:Rel g w .undef Go.undef
 | junk (v:Value):Rel g w .junk v
 | int (k:IntKind) (n:Int):Rel g w (.int k n) (.int k n)
 | bool (b:Bool):Rel g w (.bool b) (.bool b)
 | str (l:B8):Rel g w (.str l) (.string ⟨l.toArray⟩)
 | nilPtr:Rel g w .nilPtr (.pointer none)
 | nilSlice:Rel g w .nilSlice (.slice none 0 0)
 | nilMap:Rel g w .nilMap (.map none)
 | nilFunc:Rel g w .nilFunc .nilFunc
 | nilIface:Rel g w .nilIface .nilIface
 | list (sz:Nat) (tip:Tip) (n:Nat) (xs:List TV) (b o cap:Nat) (us:Nat->Value) (hl:xs.length=n*sz) (hn:n<=cap)
   (hc:∀i,i<xs.length->g.S ⟨b,o+i,none⟩/\w.cell? ⟨b,o+i,none⟩=some (us i))
   (hr:∀i (h:i<xs.length),Rel g w xs[i] (us i)) (ht:S4 g tip ⟨b,o,none⟩ n cap sz):Rel g w (.list sz tip n xs) (.slice (some ⟨b,o,none⟩) n cap)
 | listE (sz:Nat) (tip:Tip) (a:Addr) (ht:∀id,tip≠.own id):Rel g w (.list sz tip 0 []) (.slice (some a) 0 0)
 | ms (sz b off n cap:Nat) (h:b<g.nb) (hn:n<=cap):Rel g w (.ms sz b off n cap) (.slice (some ⟨g.bk b,off,none⟩) n cap)
 | box (b off:Nat) (h:b<g.nb):Rel g w (.box b off) (.pointer (some ⟨g.bk b,off,none⟩))
 | rptr (xs:List TV) (b o:Nat) (us:Nat->Value)
   (hc:∀i,i<xs.length->g.S ⟨b,o+i,none⟩/\w.cell? ⟨b,o+i,none⟩=some (us i))
   (hr:∀i (h:i<xs.length),Rel g w xs[i] (us i)):Rel g w (.rptr xs) (.pointer (some ⟨b,o,none⟩))
 | agg (xs:List TV) (vs:List Value) (hl:xs.length=vs.length) (hr:∀i (h:i<xs.length),Rel g w xs[i] (vs.getD i Go.undef)):Rel g w (.agg xs) (.agg vs.toArray)
 | tuple (xs:List TV) (vs:List Value) (hl:xs.length=vs.length) (hr:∀i (h:i<xs.length),Rel g w xs[i] (vs.getD i Go.undef)):Rel g w (.tuple xs) (.tuple vs.toArray)
 | func (f:Nat) (xs:List TV) (vs:List Value) (hl:xs.length=vs.length) (hr:∀i (h:i<xs.length),Rel g w xs[i] (vs.getD i Go.undef)):Rel g w (.func f xs) (.func (.func f) #[] vs.toArray)
 | iface (t:Nat) (v:TV) (u:Value) (h:Rel g w v u):Rel g w (.iface t v) (.iface t u)
 | map (b:Nat) (h:b<g.nb):Rel g w (.map b) (.map (some (g.bk b)))
 | sptr (v:TV) (a:Addr) (n cap:Nat) (hc:cap≠0) (h:Rel g w v (.slice (some a) n cap)):Rel g w (.sptr v) (.pointer (some a))
structure R8 (g:Ak) (w:World) (g':Ak) (w':World):Prop where
 nb:g.nb<=g'.nb
 bk:∀b,b<g.nb->g'.bk b=g.bk b
 nt:g.nt<=g'.nt
 sp:∀id,id<g.nt->g'.sp id=g.sp id∨g'.sp id=none
 S:∀a,g.S a->g'.S a/\w'.cell? a=w.cell? a
structure Ext (g:Ak) (w:World) (g':Ak) (w':World):Prop where
 base:g'.base=g.base
 w0:g'.w0=g.w0
 size:w.heap.size<=w'.heap.size
 nb:g.nb<=g'.nb
 bk:∀b,b<g.nb->g'.bk b=g.bk b
 nt:g.nt<=g'.nt
 sp:∀id,id<g.nt->g'.sp id=g.sp id∨g'.sp id=none
 S:∀a,g.S a->g'.S a/\w'.cell? a=w.cell? a
 prot:g'.prot=g.prot
 protEq:∀b,g.prot b->w'.heap[b]? =w.heap[b]?
theorem Ext.to0 {g g':Ak} {w w':World} (e:Ext g w g' w'):R8 g w g' w':=⟨e.nb,e.bk,e.nt,e.sp,e.S⟩
theorem Ext.refl (g:Ak) (w:World):Ext g w g w:=
 ⟨rfl,rfl,Nat.le_refl _,Nat.le_refl _,λ_ _=>rfl,Nat.le_refl _,λ_ _=> .inl rfl,λ_ h=>⟨h,rfl⟩,rfl,λ_ _=>rfl⟩
theorem Ext.trans {g g' g'':Ak} {w w' w'':World} (h:Ext g w g' w') (k:Ext g' w' g'' w''):Ext g w g'' w'' where
 base:=k.base.trans h.base
 w0:=k.w0.trans h.w0
 size:=Nat.le_trans h.size k.size
 nb:=Nat.le_trans h.nb k.nb
 bk b hb:=(k.bk b (Nat.lt_of_lt_of_le hb h.nb)).trans (h.bk b hb)
 nt:=Nat.le_trans h.nt k.nt
 sp id hi:=by
  rcases k.sp id (Nat.lt_of_lt_of_le hi h.nt)with e | e
  all_goals grind [Ext.sp]
 S a ha:=⟨(k.S a (h.S a ha).1).1,((k.S a (h.S a ha).1).2).trans (h.S a ha).2⟩
 prot:=k.prot.trans h.prot
 protEq b hb:=(k.protEq b (by grind [Ext.prot])).trans (h.protEq b hb)
theorem S4.ext {g g':Ak} {w w':World} (e:R8 g w g' w') {tip:Tip} {a:Addr} {n cap sz:Nat} (h:S4 g tip a n cap sz):S4 g' tip a n cap sz:=by
 cases tip with
 | non=>trivial
 | full=>exact h
 | own id=>
  refine⟨Nat.lt_of_lt_of_le h.1 e.nt,λr hr=>?_⟩;rcases e.sp id h.1 with f | f
  ·exact h.2 r (by simp_all)
  simp_all
theorem Rel.ext0 {g g':Ak} {w w':World} (e:R8 g w g' w') {v:TV} {u:Value} (h:Rel g w v u):Rel g' w' v u:=by
 induction h with
 | undef=>exact .undef
 | junk v=>exact .junk v
 | int k n=>exact .int k n
 | bool b=>exact .bool b
 | str l=>exact .str l
 | nilPtr=>exact .nilPtr
 | nilSlice=>exact .nilSlice
 | nilMap=>exact .nilMap
 | nilFunc=>exact .nilFunc
 | nilIface=>exact .nilIface
 | list sz tip n xs b o cap us hl hn hc _ ht ih=>
  exact .list sz tip n xs b o cap us hl hn (λi hi=>⟨(e.S _ (hc i hi).1).1,((e.S _ (hc i hi).1).2).trans (hc i hi).2⟩) ih (ht.ext e)
 | listE sz tip a ht=>exact .listE sz tip a ht
 | ms sz b off n cap h hn=>rw[<-e.bk b h];exact .ms sz b off n cap (Nat.lt_of_lt_of_le h e.nb) hn
 | box b off h=>rw[<-e.bk b h];exact .box b off (Nat.lt_of_lt_of_le h e.nb)
 | rptr xs b o us hc _ ih=>exact .rptr xs b o us (λi hi=>⟨(e.S _ (hc i hi).1).1,((e.S _ (hc i hi).1).2).trans (hc i hi).2⟩) ih
 | agg xs vs hl _ ih=>exact .agg xs vs hl ih
 | tuple xs vs hl _ ih=>exact .tuple xs vs hl ih
 | func f xs vs hl _ ih=>exact .func f xs vs hl ih
 | iface t v u _ ih=>exact .iface t v u ih
 | map b h=>rw[<-e.bk b h];exact .map b (Nat.lt_of_lt_of_le h e.nb)
 | sptr v a n cap hc _ ih=>exact .sptr v a n cap hc ih
theorem Rel.ext {g g':Ak} {w w':World} (e:Ext g w g' w') {v:TV} {u:Value} (h:Rel g w v u):Rel g' w' v u:=h.ext0 e.to0
def AP (g:Ak) (w:World) (xs:List TV) (vs:List Value):Prop:=xs.length=vs.length/\∀i (h:i<xs.length),Rel g w (xs[i]'h) (vs.getD i Go.undef)
theorem AP.ext0 {g g':Ak} {w w':World} (e:R8 g w g' w') {xs:List TV} {vs:List Value} (h:AP g w xs vs):AP g' w' xs vs:=⟨h.1,λi hi=>(h.2 i hi).ext0 e⟩
theorem AP.ext {g g':Ak} {w w':World} (e:Ext g w g' w') {xs:List TV} {vs:List Value} (h:AP g w xs vs):AP g' w' xs vs:=h.ext0 e.to0
theorem AP.nil (g:Ak) (w:World):AP g w [] []:=⟨rfl,λi h=>absurd h (Nat.not_lt_zero _)⟩
theorem AP.cons {g:Ak} {w:World} {x:TV} {v:Value} {xs:List TV} {vs:List Value} (h:Rel g w x v) (k:AP g w xs vs):AP g w (x::xs) (v::vs):=by
 refine⟨by simp[k.1],λi hi=>?_⟩;cases i with
 | zero=>exact h
 | succ i=>exact k.2 i (by simp_all)
theorem AP.append {g:Ak} {w:World} {xs ys:List TV} {vs us:List Value} (h:AP g w xs vs) (k:AP g w ys us):AP g w (xs++ys) (vs++us):=by
 refine⟨by simp[h.1,k.1],λi hi=>?_⟩;have e:=h.1;by_cases hlt:i<xs.length
 ·have:=h.2 i hlt
  grind
 ·have:=k.2 (i-xs.length) (by grind)
  grind
theorem AP.get? {g:Ak} {w:World} {xs:List TV} {vs:List Value} (h:AP g w xs vs) {i:Nat} {x:TV} (hx:xs[i]? =some x):∃v,vs[i]? =some v/\Rel g w x v:=by
 obtain⟨hi,rfl⟩:=List.getElem?_eq_some_iff.1 hx;have hi':=h.1▸hi;have:=h.2 i hi;grind
theorem AP.set {g:Ak} {w:World} {xs:List TV} {vs:List Value} (h:AP g w xs vs) {x:TV} {v:Value} (hx:Rel g w x v) (i:Nat):AP g w (xs.set i x) (vs.set i v):=by
 refine⟨by simp[h.1],λj hj=>?_⟩;have hj':j<xs.length:=by simp_all
 have hjv:=h.1▸hj';by_cases hij:i=j
 ·simp_all
 ·have:=h.2 j hj'
  grind
theorem AP.drop {g:Ak} {w:World} {xs:List TV} {vs:List Value} (h:AP g w xs vs) (n:Nat):AP g w (xs.drop n) (vs.drop n):=by
 refine⟨by simp[h.1],λi hi=>?_⟩;have:=h.2 (n+i) (by grind);grind
theorem AP.take {g:Ak} {w:World} {xs:List TV} {vs:List Value} (h:AP g w xs vs) (n:Nat):AP g w (xs.take n) (vs.take n):=by
 refine⟨by simp[h.1],λi hi=>?_⟩;have hi':i<n/\i<xs.length:=by grind
 have:=h.2 i hi'.2;grind
def BX (w:World) (b:Nat) (cs:List Value):Prop:=
 ∃T lo hi,w.heap[b]? =some (.cells cs.toArray T (lo,hi))/\∀o,o<=cs.length->¬(lo<=o/\o<hi)
def G4 (g:Ak) (w:World) (b:Nat):JQ->Prop
 | .dead=>True
 | .cells l=>∃cs,BX w b cs/\AP g w l cs
 | .iter s pos=>w.heap[b]? =some (.stringIter ⟨s.toArray⟩ pos)
 | .map es=>∃ms clock,w.heap[b]? =some (.map ms clock)/\es.length=ms.toList.length/\∀(i:Nat) (k:B8) (v:TV),es[i]? =some (k,v)->∃e:MapEntry,ms.toList[i]? =some e/\e.key=Value.string ⟨k.toArray⟩/\Rel g w v e.val
 | .pmap es=>∃ms clock,w.heap[b]? =some (.map ms clock)/\es.length=ms.toList.length/\∀(i k:Nat) (v:TV),es[i]? =some (k,v)->k<g.nb/\∃e:MapEntry,ms.toList[i]? =some e/\e.key=Value.pointer (some ⟨g.bk k,0,none⟩)/\Rel g w v e.val
inductive Key where
 | box (b:Nat)
 | loc (i:Nat)
def Ak.at (g:Ak):Key->Nat
 | .box b=>g.bk b
 | .loc i=>g.lam i
def Dom (st:St) (loc:List (Option (List TV))):Key->Prop
 | .box b=>b<st.nb
 | .loc i=>∃l,loc[i]? =some (some l)
def BO (st:St) (loc:List (Option (List TV))):Key->JQ
 | .box b=>st.box b
 | .loc i=>match loc[i]? with | some (some l)=> .cells l | _=> .dead
def FM (w:World) (b T:Nat):Prop:=∃c fz,w.heap[b]? =some (.cells c T fz)
theorem FM.same {w w':World} {b T:Nat} (h:FM w b T) (e:w'.heap[b]? =w.heap[b]?):FM w' b T:=by obtain⟨c,fz,h⟩:=h;exact⟨c,fz,e.trans h⟩
def TopOk (g:Ak) (id b:Nat):Prop:=∀j r,j≠id->g.sp j=some r->r.1≠b
structure Sim (g:Ak) (st:St) (loc:List (Option (List TV))) (w:World):Prop where
 nb:g.nb=st.nb
 nt:g.nt=st.nt
 below:Below g.base g.w0 w
 fits:g.base<=w.heap.size
 obj:∀k,Dom st loc k->G4 g w (g.at k) (BO st loc k)
 inj:∀k k',Dom st loc k->Dom st loc k'->g.at k=g.at k'->k=k'
 lo:∀k,Dom st loc k->g.base<=g.at k/\g.at k<w.heap.size
 own:∀id,id<st.nt->st.live id=true->g.sp id≠none
 spCell:∀id b l h,g.sp id=some (b,l,h)->g.base<=b/\b<w.heap.size/\l<=h/\(∀k,Dom st loc k->g.at k≠b)/\
  ∀o,l<=o->o<h->(∃v,w.cell? ⟨b,o,none⟩=some v)/\w.frozen? ⟨b,o,none⟩=false
 spApart:∀i j b l h l' h',i≠j->g.sp i=some (b,l,h)->g.sp j=some (b,l',h')->h<=l'∨h'<=l∨l=h∨l'=h'
 spLt:∀id,g.nt<=id->g.sp id=none
 sCell:∀a,g.S a->a.spot=none/\(∃v,w.cell? a=some v)/\(∀k,Dom st loc k->g.at k≠a.block)/\
  ∀id l h,g.sp id=some (a.block,l,h)->¬(l<=a.off/\a.off<h)
 protOk:∀b,g.prot b->b<w.heap.size/\(∀k,Dom st loc k->g.at k≠b)/\(∀id l h,g.sp id≠some (b,l,h))/\∀a,g.S a->a.block≠b
 spTop:∀id b l h,g.sp id=some (b,l,h)->TopOk g id b
 spTy:∀id b l h T,g.sp id=some (b,l,h)->st.ty id=some T->FM w b T
 bTy:∀b T,b<st.nb->st.bt b=some T->FM w (g.bk b) T
 glob:∀w',Below g.base g.w0 w'->UA w'
def Cd (g:Ak) (w:World) (loc:List (Option (List TV))):SV->Value->Prop
 | .t v,u=>Rel g w v u
 | .loc i off,u=>(∃l,loc[i]? =some (some l))/\u= .pointer (some ⟨g.lam i,off,none⟩)
def DM (g:Ak) (w:World) (fr:Fr) (tmps:Array Value):Prop:=
 fr.slots.n=tmps.size/\∀i,Cd g w fr.loc (fr.slots.f i) (tmps.getD i Go.undef)
def Free (g:Ak) (st:St) (loc:List (Option (List TV))) (b:Nat):Prop:=
 g.base<=b/\(∀k,Dom st loc k->g.at k≠b)/\(∀a,g.S a->a.block≠b)/\(∀id l h,g.sp id≠some (b,l,h))/\¬g.prot b
theorem BX.same {w w':World} {b:Nat} {cs:List Value} (h:BX w b cs) (e:w'.heap[b]? =w.heap[b]?):BX w' b cs:=by
 obtain⟨T,lo,hi,hh,hf⟩:=h;exact⟨T,lo,hi,e.trans hh,hf⟩
theorem G4.ext0 {g g':Ak} {w w':World} (e:R8 g w g' w') {b:Nat} (hb:w'.heap[b]? =w.heap[b]?) {o:JQ} (h:G4 g w b o):G4 g' w' b o:=by
 cases o with
 | dead=>trivial
 | cells l=>obtain⟨cs,hc,hr⟩:=h;exact⟨cs,hc.same hb,hr.ext0 e⟩
 | iter s pos=>exact hb.trans h
 | map es=>obtain⟨ms,c,hc,hr,hm⟩:=h;exact⟨ms,c,hb.trans hc,hr,λi k v hi=>by grind [Rel.ext0]⟩
 | pmap es=>obtain⟨ms,c,hc,hr,hm⟩:=h;exact⟨ms,c,hb.trans hc,hr,λi k v hi=>by obtain⟨hk,e',h1,h2,h3⟩:=hm i k v hi;exact⟨Nat.lt_of_lt_of_le hk e.nb,e',h1,by rw[h2,e.bk k hk],h3.ext0 e⟩⟩
theorem G4.ext {g g':Ak} {w w':World} (e:Ext g w g' w') {b:Nat} (hb:w'.heap[b]? =w.heap[b]?) {o:JQ} (h:G4 g w b o):G4 g' w' b o:=h.ext0 e.to0 hb
theorem Er {w w':World} {a:Addr} (h:w'.heap[a.block]? =w.heap[a.block]?):w'.cell? a=w.cell? a:=World.cell?_of_block (w:=w) h
theorem GV {w w':World} {a:Addr} (h:w'.heap[a.block]? =w.heap[a.block]?):w'.frozen? a=w.frozen? a:=World.frozen?_of_block (w:=w) h
theorem RY (w:World) (o:Obj) {k:Nat} (h:k<w.heap.size):(w.alloc o).heap[k]? =w.heap[k]? :=Below.heap_alloc w o k h
theorem CL (w:World) (o:Obj):(w.alloc o).heap[w.heap.size]? =some o:=by
 show(w.heap.push o)[w.heap.size]? =_;simp
theorem Xj {g:Ak} {st:St} {loc:List (Option (List TV))} {w:World} (s:Sim g st loc w) {a:Addr} (h:g.S a):a.block<w.heap.size:=by
 obtain⟨_,⟨v,hv⟩,_⟩:=s.sCell a h;exact World.block_lt_of_cell? w a hv
theorem Sim.world {g:Ak} {st:St} {loc:List (Option (List TV))} {w w':World} (s:Sim g st loc w) (hs:w.heap.size<=w'.heap.size) (hb:Below g.base g.w0 w')
  (hk:∀k,k<w.heap.size->w'.heap[k]? =w.heap[k]?):Sim g st loc w'/\Ext g w g w':=by
 have e:Ext g w g w':=⟨rfl,rfl,hs,Nat.le_refl _,λ_ _=>rfl,Nat.le_refl _,λ_ _=> .inl rfl,λa ha=>⟨ha,Er (hk _ (Xj s ha))⟩,rfl,
  λb hb=>hk b (s.protOk b hb).1⟩
 refine⟨⟨s.nb,s.nt,hb,Nat.le_trans s.fits hs,λk d=>(s.obj k d).ext e (hk _ (s.lo k d).2),s.inj,λk d=>⟨(s.lo k d).1,Nat.lt_of_lt_of_le (s.lo k d).2 hs⟩,s.own,?_,s.spApart,s.spLt,?_,?_,s.spTop,λid b l h T hh hT=>(s.spTy id b l h T hh hT).same (hk b (s.spCell id b l h hh).2.1),λb T hb hT=>(s.bTy b T hb hT).same (hk _ (s.lo (.box b) hb).2),s.glob⟩,e⟩
 ·intro id b l h hsp
  obtain⟨h1,h2,h3,h4,h5⟩:=s.spCell id b l h hsp;grind [Er,GV]
 ·grind [Sim.sCell,Er,Xj]
 ·intro b hb
  obtain⟨h1,h2,h3⟩:=s.protOk b hb;grind
theorem Sim.drew {g:Ak} {st:St} {loc:List (Option (List TV))} {w:World} (s:Sim g st loc w):Sim g st loc w.drew/\Ext g w g w.drew:=
 s.world (Nat.le_refl _) s.below.drew (λ_ _=>rfl)
theorem Sim.alloc {g:Ak} {st:St} {loc:List (Option (List TV))} {w:World} (s:Sim g st loc w) (o:Obj):
  Sim g st loc (w.alloc o)/\Ext g w g (w.alloc o)/\Free g st loc w.heap.size:=by
 have h:=s.world (w':=w.alloc o) (by simp) (s.below.alloc s.fits o) (λk hk=>RY w o hk);refine⟨h.1,h.2,s.fits,λk d e=>?_,λa ha e=>?_,λid l h e=>?_,λhp=>?_⟩
 ·have:=(s.lo k d).2;omega
 ·have:=Xj s ha;omega
 ·have:=(s.spCell id _ l h e).2.1;omega
 ·have:=(s.protOk _ hp).1;omega
def St.push (st:St) (o:JQ) (T:Option Nat):St:={st with nb:=st.nb+1,box:=λb=>if b=st.nb then o else st.box b,bt:=λb=>if b=st.nb then T else st.bt b}
def Ak.push (g:Ak) (b:Nat):Ak:={g with nb:=g.nb+1,bk:=λi=>if i=g.nb then b else g.bk i}
theorem Sim.push {g:Ak} {st:St} {loc:List (Option (List TV))} {w:World} (s:Sim g st loc w) {b:Nat} (fr:Free g st loc b) (hb:b<w.heap.size) {o:JQ} (ho:G4 g w b o) {T:Option Nat} (hT:∀t,T=some t->FM w b t):
  Sim (g.push b) (st.push o T) loc w/\Ext g w (g.push b) w/\(g.push b).bk st.nb=b:=by
 have e:Ext g w (g.push b) w:=⟨rfl,rfl,Nat.le_refl _,Nat.le_succ _,λi hi=>by grind [Ak.push],Nat.le_refl _,λ_ _=> .inl rfl,λa ha=>⟨ha,rfl⟩,rfl,λ_ _=>rfl⟩;have hbk:(g.push b).bk st.nb=b:=by simp[Ak.push,s.nb]
 have hold:∀k,Dom (st.push o T) loc k->k= .box st.nb∨(Dom st loc k/\(g.push b).at k=g.at k/\BO (st.push o T) loc k=BO st loc k):=by
  intro k d;cases k<;>grind [Dom,Ak.at,Ak.push,BO,St.push,Sim.nb]
 refine⟨⟨?_,s.nt,s.below,s.fits,?_,?_,?_,s.own,?_,s.spApart,s.spLt,?_,?_,s.spTop,s.spTy,?_,s.glob⟩,e,hbk⟩
 ·show g.nb+1=st.nb+1;rw[s.nb]
 ·intro k d
  rcases hold k d with rfl | ⟨d',h1,h2⟩
  ·show G4 (g.push b) w ((g.push b).bk st.nb) _
   grind [BO,St.push,G4.ext]
  grind [G4.ext,Sim.obj]
 ·intro k k' d d' heq
  rcases hold k d with rfl | ⟨d1,h1,_⟩<;>rcases hold k' d' with rfl | ⟨d2,h2,_⟩
  ·rfl
  ·rw[h2]at heq;exact absurd (heq.symm.trans hbk) (fr.2.1 k' d2)
  ·rw[h1]at heq;exact absurd (heq.trans hbk) (fr.2.1 k d1)
  ·exact s.inj k k' d1 d2 (by omega)
 ·intro k d
  rcases hold k d with rfl | ⟨d1,h1,_⟩
  ·show g.base<=(g.push b).bk st.nb/\(g.push b).bk st.nb<_
   rw[hbk];exact⟨fr.1,hb⟩
  ·rw[h1];exact s.lo k d1
 ·intro id b' l h hsp
  obtain⟨h1,h2,h3,h4,h5⟩:=s.spCell id b' l h hsp;refine⟨h1,h2,h3,λk d=>?_,h5⟩;rcases hold k d with rfl | ⟨d1,e1,_⟩
  ·show(g.push b).bk st.nb≠b'
   rw[hbk];intro hh;subst hh;exact fr.2.2.2.1 id l h hsp
  simp_all
 ·intro a ha
  obtain⟨h1,h2,h3,h4⟩:=s.sCell a ha;refine⟨h1,h2,λk d=>?_,h4⟩;rcases hold k d with rfl | ⟨d1,e1,_⟩
  ·show(g.push b).bk st.nb≠a.block
   rw[hbk];intro hh;exact fr.2.2.1 a ha hh.symm
  simp_all
 ·intro b' hb'
  obtain⟨h1,h2,h3⟩:=s.protOk b' hb';refine⟨h1,λk d=>?_,h3⟩;rcases hold k d with rfl | ⟨d1,e1,_⟩
  ·show(g.push b).bk st.nb≠b'
   rw[hbk];intro hh;subst hh;exact fr.2.2.2.2 hb'
  simp_all
 grind [St.push,Ak.push,Sim.nb,Sim.bTy]
def Ak.pushLoc (g:Ak) (n b:Nat):Ak:={g with lam:=λi=>if i=n then b else g.lam i}
theorem Sim.putLoc {g:Ak} {st:St} {loc loc':List (Option (List TV))} {w:World} (s:Sim g st loc w) {b n:Nat} (fr:Free g st loc b) (hb:b<w.heap.size) {l:List TV} (ho:G4 g w b (.cells l))
  (h1:loc'[n]? =some (some l)) (h2:∀j:Nat,j≠n->∀x:List TV,loc'[j]? =some (some x)↔loc[j]? =some (some x)):
  Sim (g.pushLoc n b) st loc' w/\Ext g w (g.pushLoc n b) w:=by
 have e:Ext g w (g.pushLoc n b) w:=⟨rfl,rfl,Nat.le_refl _,Nat.le_refl _,λi hi=>rfl,Nat.le_refl _,λ_ _=> .inl rfl,λa ha=>⟨ha,rfl⟩,rfl,λ_ _=>rfl⟩;have hbk:(g.pushLoc n b).at (.loc n)=b:=by simp[Ak.pushLoc,Ak.at]
 have hold:∀k,Dom st loc' k->k= .loc n∨(Dom st loc k/\(g.pushLoc n b).at k=g.at k/\BO st loc' k=BO st loc k):=by
  intro k d;cases k with
  | box i=>exact .inr ⟨d,rfl,rfl⟩
  | loc i=>
   by_cases hi:i=n
   ·simp_all
   ·right
    obtain⟨x,hx⟩:=d;have hx':=(h2 i hi x).1 hx;refine⟨⟨x,hx'⟩,?_,?_⟩
    all_goals grind [Ak.at,Ak.pushLoc,BO]
 refine⟨⟨s.nb,s.nt,s.below,s.fits,?_,?_,?_,s.own,?_,s.spApart,s.spLt,?_,?_,s.spTop,s.spTy,s.bTy,s.glob⟩,e⟩
 ·grind [BO,G4.ext,Sim.obj]
 ·intro k k' d d' heq
  rcases hold k d with rfl | ⟨d1,h1',_⟩<;>rcases hold k' d' with rfl | ⟨d2,h2',_⟩
  ·rfl
  ·rw[h2']at heq;exact absurd (heq.symm.trans hbk) (fr.2.1 k' d2)
  ·rw[h1']at heq;exact absurd (heq.trans hbk) (fr.2.1 k d1)
  ·exact s.inj k k' d1 d2 (by omega)
 ·intro k d
  rcases hold k d with rfl | ⟨d1,h1',_⟩
  ·rw[hbk];exact⟨fr.1,hb⟩
  ·rw[h1'];exact s.lo k d1
 ·intro id b' l' h hsp
  obtain⟨c1,c2,c3,c4,c5⟩:=s.spCell id b' l' h hsp;refine⟨c1,c2,c3,λk d=>?_,c5⟩;rcases hold k d with rfl | ⟨d1,e1,_⟩
  ·rw[hbk];intro hh;subst hh;exact fr.2.2.2.1 id l' h hsp
  simp_all
 ·intro a ha
  obtain⟨c1,c2,c3,c4⟩:=s.sCell a ha;refine⟨c1,c2,λk d=>?_,c4⟩;rcases hold k d with rfl | ⟨d1,e1,_⟩
  ·rw[hbk];intro hh;exact fr.2.2.1 a ha hh.symm
  simp_all
 ·intro b' hb'
  obtain⟨c1,c2,c3⟩:=s.protOk b' hb';refine⟨c1,λk d=>?_,c3⟩;rcases hold k d with rfl | ⟨d1,e1,_⟩
  ·rw[hbk];intro hh;subst hh;exact fr.2.2.2.2 hb'
  simp_all
theorem Sim.dropLoc {g:Ak} {st:St} {loc loc':List (Option (List TV))} {w:World} (s:Sim g st loc w) (h:∀(j:Nat) (x:List TV),loc'[j]? =some (some x)->loc[j]? =some (some x)):Sim g st loc' w:=by
 have hd:∀k,Dom st loc' k->Dom st loc k/\BO st loc' k=BO st loc k:=by
  intro k d;cases k with
  | box i=>exact⟨d,rfl⟩
  | loc i=>obtain⟨x,hx⟩:=d;exact⟨⟨x,h i x hx⟩,by grind [BO]⟩
 refine⟨s.nb,s.nt,s.below,s.fits,λk d=>?_,λk k' d d'=>s.inj k k' (hd k d).1 (hd k' d').1,λk d=>s.lo k (hd k d).1,s.own,?_,s.spApart,s.spLt,?_,?_,s.spTop,s.spTy,s.bTy,s.glob⟩
 ·grind [Sim.obj]
 ·intro id b l h' hsp
  obtain⟨c1,c2,c3,c4,c5⟩:=s.spCell id b l h' hsp;simp_all
 ·grind [Sim.sCell]
 ·intro b hb
  obtain⟨c1,c2,c3⟩:=s.protOk b hb;simp_all
end Go.TVF
end
section
namespace Go.TVF
open Go.IntKind(i64 u8)
open Go.RowKit (Below)
def Ak.settle (g:Ak) (X:Addr->Prop):Ak:={g with S:=λa=>g.S a∨X a}
theorem Sim.settle {g:Ak} {st:St} {loc:List (Option (List TV))} {w:World} (s:Sim g st loc w) (X:Addr->Prop)
  (hX:∀a,X a->a.spot=none/\(∃v,w.cell? a=some v)/\(∀k,Dom st loc k->g.at k≠a.block)/\∀id l h,g.sp id=some (a.block,l,h)->¬(l<=a.off/\a.off<h))
  (hXp:∀a,X a->¬g.prot a.block):
  Sim (g.settle X) st loc w/\Ext g w (g.settle X) w:=by
 have e:Ext g w (g.settle X) w:=⟨rfl,rfl,Nat.le_refl _,Nat.le_refl _,λi hi=>rfl,Nat.le_refl _,λ_ _=> .inl rfl,λa ha=>⟨.inl ha,rfl⟩,rfl,λ_ _=>rfl⟩;refine⟨⟨s.nb,s.nt,s.below,s.fits,λk d=>(s.obj k d).ext e rfl,s.inj,s.lo,s.own,s.spCell,s.spApart,s.spLt,?_,?_,s.spTop,s.spTy,s.bTy,s.glob⟩,e⟩
 ·intro a ha
  rcases ha with ha | ha
  ·exact s.sCell a ha
  ·exact hX a ha
 ·intro b hb
  obtain⟨h1,h2,h3,h4⟩:=s.protOk b hb;refine⟨h1,h2,h3,λa ha=>?_⟩;rcases ha with ha | ha
  ·simp_all
  ·intro h;subst h;exact hXp a ha hb
def St.retire (st:St) (id:Nat):St:={st with live:=λi=>if i=id then false else st.live i}
def Ak.retire (g:Ak) (id:Nat):Ak:={g with sp:=λi=>if i=id then none else g.sp i}
theorem Sim.retire {g:Ak} {st:St} {loc:List (Option (List TV))} {w:World} (s:Sim g st loc w) (id:Nat):Sim (g.retire id) (st.retire id) loc w/\Ext g w (g.retire id) w:=by
 have hsp:∀i r,(g.retire id).sp i=some r->g.sp i=some r:=by
  grind [Ak.retire]
 have e:Ext g w (g.retire id) w:=⟨rfl,rfl,Nat.le_refl _,Nat.le_refl _,λi hi=>rfl,Nat.le_refl _,λi _=>by
   grind [Ak.retire],λa ha=>⟨ha,rfl⟩,rfl,λ_ _=>rfl⟩
 refine⟨⟨s.nb,s.nt,s.below,s.fits,λk d=>(s.obj k d).ext e rfl,s.inj,s.lo,?_,λi b l h hh=>s.spCell i b l h (hsp _ _ hh),
  λi j b l h l' h' hne h1 h2=>s.spApart i j b l h l' h' hne (hsp _ _ h1) (hsp _ _ h2),?_,?_,?_,λid b l h hh j r hj hr=>s.spTop id b l h (hsp _ _ hh) j r hj (hsp _ _ hr),λid b l h T hh hT=>s.spTy id b l h T (hsp _ _ hh) hT,s.bTy,s.glob⟩,e⟩
 ·grind [St.retire,Ak.retire,Sim.own]
 ·grind [Ak.retire,Sim.spLt]
 ·intro a ha
  obtain⟨h1,h2,h3,h4⟩:=s.sCell a ha;exact⟨h1,h2,h3,λi l h hh=>h4 i l h (hsp _ _ hh)⟩
 ·intro b hb
  obtain⟨h1,h2,h3,h4⟩:=s.protOk b hb;exact⟨h1,h2,λi l h hh=>h3 i l h (hsp _ _ hh),h4⟩
def St.fresh (st:St) (T:Option Nat):St:={st with nt:=st.nt+1,live:=λi=>if i=st.nt then true else st.live i,ty:=λi=>if i=st.nt then T else st.ty i}
def Ak.fresh (g:Ak) (r:Nat×Nat×Nat):Ak:={g with nt:=g.nt+1,sp:=λi=>if i=g.nt then some r else g.sp i}
theorem Sim.fresh {g:Ak} {st:St} {loc:List (Option (List TV))} {w:World} (s:Sim g st loc w) (b l h:Nat) (hb:g.base<=b∨l=h) (hb':g.base<=b) (hlt:b<w.heap.size) (hlh:l<=h)
  (hk:∀k,Dom st loc k->g.at k≠b) (hc:∀o,l<=o->o<h->(∃v,w.cell? ⟨b,o,none⟩=some v)/\w.frozen? ⟨b,o,none⟩=false)
  (hS:∀a,g.S a->a.block=b->¬(l<=a.off/\a.off<h)) (hp:¬g.prot b)
  (hap:∀i l' h',g.sp i=some (b,l',h')->h<=l'∨h'<=l∨l=h∨l'=h') (hone:∀i r,g.sp i=some r->r.1≠b) {T:Option Nat} (hT:∀t,T=some t->FM w b t):
  Sim (g.fresh (b,l,h)) (st.fresh T) loc w/\Ext g w (g.fresh (b,l,h)) w/\(g.fresh (b,l,h)).sp st.nt=some (b,l,h):=by
 have hsp:∀i r,(g.fresh (b,l,h)).sp i=some r->(i=g.nt/\r=(b,l,h))∨(i≠g.nt/\g.sp i=some r):=by
  grind [Ak.fresh]
 have e:Ext g w (g.fresh (b,l,h)) w:=⟨rfl,rfl,Nat.le_refl _,Nat.le_refl _,λi hi=>rfl,Nat.le_succ _,λi hi=>by
   grind [Ak.fresh],λa ha=>⟨ha,rfl⟩,rfl,λ_ _=>rfl⟩
 have htop:∀i b' l' h',(g.fresh (b,l,h)).sp i=some (b',l',h')->TopOk (g.fresh (b,l,h)) i b':=by
  intro i b' l' h' hh;rcases hsp i _ hh with⟨hi,hr⟩ | ⟨hi,hr⟩
  ·intro j r hj hr'
   grind
  ·intro j r hj hr'
   rcases hsp j _ hr' with⟨hj',hq⟩ | ⟨_,hq⟩
   ·grind
   ·exact s.spTop i b' l' h' hr j r hj hq
 refine⟨⟨s.nb,?_,s.below,s.fits,λk d=>(s.obj k d).ext e rfl,s.inj,s.lo,?_,?_,?_,?_,?_,?_,htop,?_,s.bTy,s.glob⟩,e,by simp[Ak.fresh,s.nt]⟩
 ·show g.nt+1=st.nt+1;rw[s.nt]
 ·grind [St.fresh,Ak.fresh,Sim.nt,Sim.own]
 ·intro i b' l' h' hh
  rcases hsp i _ hh with⟨_,hr⟩ | ⟨_,hr⟩
  ·cases hr;exact⟨hb',hlt,hlh,hk,hc⟩
  ·exact s.spCell i b' l' h' hr
 ·intro i j b' l1 h1 l2 h2 hne hi hj
  rcases hsp i _ hi with⟨ei,hr⟩ | ⟨ei,hr⟩<;>rcases hsp j _ hj with⟨ej,hq⟩ | ⟨ej,hq⟩
  ·omega
  ·grind
  ·grind
  ·exact s.spApart i j b' l1 h1 l2 h2 hne hr hq
 ·grind [Ak.fresh,Sim.spLt]
 ·intro a ha
  obtain⟨h1,h2,h3,h4⟩:=s.sCell a ha;refine⟨h1,h2,h3,λi l' h' hh=>?_⟩;rcases hsp i _ hh with⟨_,hr⟩ | ⟨_,hr⟩
  ·simp at hr
   obtain⟨e1,rfl,rfl⟩:=hr;exact hS a ha e1
  grind
 ·intro b' hb''
  obtain⟨h1,h2,h3,h4⟩:=s.protOk b' hb'';refine⟨h1,h2,λi l' h' hh=>?_,h4⟩;rcases hsp i _ hh with⟨_,hr⟩ | ⟨_,hr⟩
  ·obtain⟨rfl,rfl,rfl⟩:=hr
   exact hp hb''
  simp_all
 grind [St.fresh,Sim.nt,Sim.spTy]
theorem Sim.spWrite {g:Ak} {st:St} {loc:List (Option (List TV))} {w w':World} (s:Sim g st loc w) {id b l h:Nat} (hid:g.sp id=some (b,l,h)) (hlt:l<h)
  (hsz:w'.heap.size=w.heap.size) (hk:∀k,k≠b->w'.heap[k]? =w.heap[k]?)
  (hout:∀o,¬(l<=o/\o<h)->w'.cell? ⟨b,o,none⟩=w.cell? ⟨b,o,none⟩)
  (hin:∀o,l<=o->o<h->∃v,w'.cell? ⟨b,o,none⟩=some v) (hfz:∀o,w'.frozen? ⟨b,o,none⟩=w.frozen? ⟨b,o,none⟩)
  (hbel:Below g.base g.w0 w') (hrow:∀T,FM w b T->FM w' b T):Sim g st loc w'/\Ext g w g w':=by
 obtain⟨c1,c2,c3,c4,c5⟩:=s.spCell id b l h hid;have hcell:∀a,g.S a->w'.cell? a=w.cell? a:=by
  intro a ha;obtain⟨h1,_,_,h4⟩:=s.sCell a ha;by_cases hb:a.block=b
  ·subst hb
   have:=hout a.off (h4 id l h hid);cases a;simp_all
  grind [Er]
 have e:Ext g w g w':=⟨rfl,rfl,by omega,Nat.le_refl _,λ_ _=>rfl,Nat.le_refl _,λ_ _=> .inl rfl,λa ha=>⟨ha,hcell a ha⟩,rfl,λb' hb'=>hk _ (by
  grind [Sim.protOk])⟩
 refine⟨⟨s.nb,s.nt,hbel,by omega,λk d=>(s.obj k d).ext e (hk _ (c4 k d)),s.inj,λk d=>⟨(s.lo k d).1,by grind [Sim.lo]⟩,s.own,?_,s.spApart,s.spLt,?_,?_,s.spTop,λi b' l' h' T hh hT=>(by
  by_cases hb:b'=b
  ·grind [Sim.spTy]
  ·exact(s.spTy i b' l' h' T hh hT).same (hk b' hb)),λi T hi hT=>(s.bTy i T hi hT).same (hk _ (c4 (.box i) hi)),s.glob⟩,e⟩
 ·intro i b' l' h' hi
  obtain⟨h1,h2,h3,h4,h5⟩:=s.spCell i b' l' h' hi;grind [Er,GV]
 ·grind [Sim.sCell]
 ·intro b' hb'
  obtain⟨h1,h2,h3⟩:=s.protOk b' hb';simp_all
theorem Sim.putKey {g:Ak} {st st':St} {loc loc':List (Option (List TV))} {w w':World} (s:Sim g st loc w) (k0:Key) (d0:Dom st loc k0)
  (hnb:st'.nb=st.nb) (hnt:st'.nt=st.nt) (hlv:st'.live=st.live) (hty:st'.ty=st.ty) (hbt:st'.bt=st.bt) (hdom:∀k,Dom st' loc' k->Dom st loc k) (hoth:∀k,Dom st loc k->k≠k0->BO st' loc' k=BO st loc k)
  (hsz:w'.heap.size=w.heap.size) (hk:∀k,k≠g.at k0->w'.heap[k]? =w.heap[k]?) (hbel:Below g.base g.w0 w')
  (hnew:∀_:Ext g w g w',G4 g w' (g.at k0) (BO st' loc' k0)) (hrow:∀T,FM w (g.at k0) T->FM w' (g.at k0) T):Sim g st' loc' w'/\Ext g w g w':=by
 have e:Ext g w g w':=⟨rfl,rfl,by omega,Nat.le_refl _,λ_ _=>rfl,Nat.le_refl _,λ_ _=> .inl rfl,
  λa ha=>⟨ha,Er (hk _ (λh=>(s.sCell a ha).2.2.1 k0 d0 h.symm))⟩,rfl,λb' hb'=>hk _ (λh=>(s.protOk b' hb').2.1 k0 d0 h.symm)⟩
 refine⟨⟨s.nb.trans hnb.symm,s.nt.trans hnt.symm,hbel,by have:=s.fits;omega,?_,λk k' d d'=>s.inj k k' (hdom k d) (hdom k' d'),λk d=>⟨(s.lo k (hdom k d)).1,by grind [Sim.lo]⟩,
  λi hi hl=>s.own i (by omega) (by simp_all),?_,s.spApart,s.spLt,?_,?_,s.spTop,λi b' l' h' T hh hT=>(s.spTy i b' l' h' T hh (by simp_all)).same (hk b' (λhb=>(s.spCell i b' l' h' hh).2.2.2.1 k0 d0 hb.symm)),λi T hi hT=>(by
  by_cases hkk:Key.box i=k0
  ·have:=hrow T (by rw[<-hkk];exact s.bTy i T (hnb▸hi) (by simp_all));rw[<-hkk]at this;exact this
  ·exact(s.bTy i T (hnb▸hi) (by simp_all)).same (hk _ (λh=>hkk (s.inj (.box i) k0 (hdom _ hi) d0 h)))),s.glob⟩,e⟩
 ·intro k d
  by_cases hkk:k=k0
  ·simp_all
  ·rw[hoth k (hdom k d) hkk]
   exact(s.obj k (hdom k d)).ext e (hk _ (λh=>hkk (s.inj k k0 (hdom k d) d0 h)))
 ·intro i b l h hi
  obtain⟨h1,h2,h3,h4,h5⟩:=s.spCell i b l h hi;grind [Er,GV]
 ·grind [Sim.sCell,Ext.S]
 ·intro b hb
  obtain⟨h1,h2,h3⟩:=s.protOk b hb;simp_all
def St.put (st:St) (b:Nat) (o:JQ):St:={st with box:=λi=>if i=b then o else st.box i}
theorem BX.get {w:World} {b:Nat} {cs:List Value} (h:BX w b cs) {o:Nat} {v:Value} (hv:cs[o]? =some v):w.cell? ⟨b,o,none⟩=some v:=by
 obtain⟨T,lo,hi,hh,_⟩:=h;simp[World.cell?,hh,hv]
theorem BX.unfrozen {w:World} {b:Nat} {cs:List Value} (h:BX w b cs) {o:Nat} (ho:o<cs.length):w.frozen? ⟨b,o,none⟩=false:=by
 obtain⟨T,lo,hi,hh,hf⟩:=h;grind [Nat.le_of_lt,Go.World.frozen?]
theorem BX.setCell {w:World} {b:Nat} {cs:List Value} (h:BX w b cs) (o:Nat) (v:Value):BX (w.setCell ⟨b,o,none⟩ v) b (cs.set o v):=by
 obtain⟨T,lo,hi,hh,hf⟩:=h;refine⟨T,lo,hi,?_,by simp_all⟩;grind [Go.World.setCell]
theorem FM.setCell {w:World} {b T o:Nat} {v:Value} (h:FM w b T):FM (w.setCell ⟨b,o,none⟩ v) b T:=by
 obtain⟨c,fz,h⟩:=h;exact⟨c.setIfInBounds o v,fz,by grind [Go.World.setCell]⟩
theorem BX.alloc (w:World) (cs:List Value) (T:TypeId):BX (w.alloc (.cells cs.toArray T)) w.heap.size cs:=
 ⟨T,0,0,CL _ _,λo _=>by omega⟩
theorem Sim.storeBox {g:Ak} {st:St} {loc:List (Option (List TV))} {w:World} (s:Sim g st loc w) {b o:Nat} {l:List TV} (hb:b<st.nb) (hbox:st.box b= .cells l) (ho:o<l.length) {x:TV} {v:Value}
  (hx:Rel g w x v):Sim g (st.put b (.cells (l.set o x))) loc (w.setCell ⟨g.bk b,o,none⟩ v)/\Ext g w g (w.setCell ⟨g.bk b,o,none⟩ v):=by
 have ob:=s.obj (.box b) hb;simp[BO,hbox,Ak.at]at ob;obtain⟨cs,hc,hr⟩:=ob;refine s.putKey (.box b) hb rfl rfl rfl rfl rfl (λk d=>?_) (λk _ hne=>?_) (by simp) (λk hk=>Below.heap_setCell _ _ _ _ hk) (s.below.setCell (s.lo (.box b) hb).1 _) (λe=>?_) (λT=>FM.setCell)
 ·cases k<;>exact d
 ·cases k<;>grind [BO,St.put]
 ·simp[BO,St.put,if_true,Ak.at]
  exact⟨_,hc.setCell o v,(hr.ext e).set (hx.ext e) o⟩
theorem Sim.storeLoc {g:Ak} {st:St} {loc:List (Option (List TV))} {w:World} (s:Sim g st loc w) {i o:Nat} {l:List TV} (hl:loc[i]? =some (some l)) (ho:o<l.length) {x:TV} {v:Value}
  (hx:Rel g w x v):Sim g st (loc.set i (some (l.set o x))) (w.setCell ⟨g.lam i,o,none⟩ v)/\Ext g w g (w.setCell ⟨g.lam i,o,none⟩ v):=by
 obtain⟨hi,hli⟩:=List.getElem?_eq_some_iff.1 hl;have hd:Dom st loc (.loc i):=⟨l,hl⟩;have ob:=s.obj (.loc i) hd;simp[BO,hl,Ak.at]at ob;obtain⟨cs,hc,hr⟩:=ob;refine s.putKey (.loc i) hd rfl rfl rfl rfl rfl (λk d=>?_) (λk _ hne=>?_) (by simp) (λk hk=>Below.heap_setCell _ _ _ _ hk) (s.below.setCell (s.lo (.loc i) hd).1 _) (λe=>?_) (λT=>FM.setCell)
 ·cases k with
  | box _=>exact d
  | loc j=>
   by_cases hij:i=j
   ·simp_all
   ·obtain⟨x,hx⟩:=d
    rw[List.getElem?_set_ne hij]at hx;exact⟨x,hx⟩
 ·cases k<;>grind [BO]
 ·simp[BO,Ak.at]
  rw[List.getElem?_set_self hi];exact⟨_,hc.setCell o v,(hr.ext e).set (hx.ext e) o⟩
theorem Sim.refreeze {g:Ak} {st:St} {loc:List (Option (List TV))} {w:World} (s:Sim g st loc w) {b:Nat} (hb:g.base<=b) (hk:∀k,Dom st loc k->g.at k≠b) (hns:∀id l h,g.sp id≠some (b,l,h)) (hp:¬g.prot b)
  {w':World} (hsz:w'.heap.size=w.heap.size) (hoth:∀k,k≠b->w'.heap[k]? =w.heap[k]?) (hcell:∀a:Addr,a.block=b->w'.cell? a=w.cell? a) (hbel:Below g.base g.w0 w'):
  Sim g st loc w'/\Ext g w g w':=by
 have hc:∀a,w'.cell? a=w.cell? a:=λa=>by
  grind [Er]
 have e:Ext g w g w':=⟨rfl,rfl,by omega,Nat.le_refl _,λ_ _=>rfl,Nat.le_refl _,λ_ _=> .inl rfl,λa ha=>⟨ha,hc a⟩,rfl,λb' hb'=>hoth _ (λh=>by simp_all)⟩;refine⟨⟨s.nb,s.nt,hbel,by have:=s.fits;omega,λk d=>(s.obj k d).ext e (hoth _ (hk k d)),s.inj,λk d=>⟨(s.lo k d).1,by grind [Sim.lo]⟩,s.own,?_,s.spApart,s.spLt,?_,?_,s.spTop,
  λid b' l h T hh hT=>(s.spTy id b' l h T hh hT).same (hoth _ (λhbb=>by grind)),λi T hi hT=>(s.bTy i T hi hT).same (hoth _ (hk (.box i) hi)),s.glob⟩,e⟩
 ·intro id b' l h hi
  obtain⟨h1,h2,h3,h4,h5⟩:=s.spCell id b' l h hi;grind [GV]
 ·grind [Sim.sCell]
 ·intro b' hb'
  obtain⟨h1,h2,h3⟩:=s.protOk b' hb';simp_all
theorem Uq (w:World) (p:Addr) (n:Nat) (a:Addr):(w.freeze p n).cell? a=w.cell? a:=by
 grind [Go.World.freeze,Go.World.cell?]
theorem VZ (w:World) (p:Addr) (n k:Nat) (h:k≠p.block):(w.freeze p n).heap[k]? =w.heap[k]? :=by
 grind [Go.World.freeze]
theorem U4 (w:World) (p:Addr) (n:Nat):(w.freeze p n).heap.size=w.heap.size:=by
 grind [Go.World.freeze]
theorem Sim.freezeTip {g:Ak} {st:St} {loc:List (Option (List TV))} {w:World} (s:Sim g st loc w) {id b l h:Nat} (hid:g.sp id=some (b,l,h)) (o n:Nat):
  Sim (g.retire id) (st.retire id) loc (w.freeze ⟨b,o,none⟩ n)/\Ext g w (g.retire id) (w.freeze ⟨b,o,none⟩ n):=by
 obtain⟨c1,c2,c3,c4,c5⟩:=s.spCell id b l h hid;obtain⟨s1,e1⟩:=s.retire id;have hsp:∀i r,(g.retire id).sp i=some r->i≠id/\g.sp i=some r:=by
  grind [Ak.retire]
 obtain⟨s2,e2⟩:=s1.refreeze (b:=b) c1 c4 (λi l' h' hh=>by obtain⟨h1,h2⟩:=hsp i _ hh;exact s.spTop id b l h hid i _ h1 h2 rfl) (λhp=>(s.protOk b hp).2.2.1 id l h hid)
  (w':=w.freeze ⟨b,o,none⟩ n) (U4 _ _ _) (λk hk=>VZ _ _ _ _ hk) (λa _=>Uq _ _ _ _) (Lib.below_freeze s.below c1 n)
 grind [Ext.trans]
end Go.TVF
end
section
namespace Go.TVF
open Go.IntKind(i64 u8)
open Go.RowKit (Below)
inductive CTy where
 | int (k:IntKind)
 | bool
 | str
 | tv
@[reducible] def CTy.I:CTy->Type
 | .int _=>Int
 | .bool=>Bool
 | .str=>B8
 | .tv=>TV
def enc:(c:CTy)->c.I->TV
 | .int k,n=> .int k n
 | .bool,b=> .bool b
 | .str,l=> .str l
 | .tv,v=>v
def need (b:Bool) (k:Prop):Prop:=match b with | true=>k | false=>False
def BIf (b:Bool) (x y:Prop):Prop:=match b with | true=>x | false=>y
def AS {α:Type} (o:Option α) (k:α->Prop):Prop:=match o with | some x=>k x | none=>False
theorem Al {b:Bool} {k:Prop}:need b k↔b=true/\k:=by cases b<;>simp[need]
theorem DF {α:Type} {o:Option α} {k:α->Prop}:AS o k↔∃x,o=some x/\k x:=by cases o<;>simp[AS]
def CG:(c:CTy)->TV->(c.I->Prop)->Prop
 | .int k,v,f=>match v with | .int k' n=>need (decide (k=k')) (f n) | _=>False
 | .bool,v,f=>match v with | .bool b=>f b | _=>False
 | .str,v,f=>match v with | .str l=>f l | _=>False
 | .tv,v,f=>f v
theorem E9 {c:CTy} {v:TV} {f:c.I->Prop} (h:CG c v f):∃y,v=enc c y/\f y:=by
 cases c with
 | int k=>
  cases v<;>simp[CG]at h<;>first | exact h.elim | skip
  rename_i k' n;rw[Al]at h;obtain⟨h1,h2⟩:=h;have:=of_decide_eq_true h1;subst this;exact⟨n,rfl,h2⟩
 | bool=>cases v<;>simp[CG]at h<;>first | exact h.elim | exact⟨_,rfl,h⟩
 | str=>cases v<;>simp[CG]at h<;>first | exact h.elim | exact⟨_,rfl,h⟩
 | tv=>exact⟨v,rfl,h⟩
@[reducible] def Fun:List CTy->Type->Type
 | [],R=>R
 | c::cs,R=>c.I->Fun cs R
def decL:(cs:List CTy)->List TV->Fun cs Prop->Prop
 | [],[],f=>f
 | [],_::_,_=>False
 | _::_,[],_=>False
 | c::cs,v::vs,f=>CG c v λy=>decL cs vs (f y)
def Q9:(cs:List CTy)->{R:Type}->(List TV->R)->Fun cs R
 | [],_,F=>F []
 | c::cs,_,F=>λy=>Q9 cs λl=>F (enc c y::l)
theorem Q7:∀{cs:List CTy} {vs:List TV} {F:List TV->Prop},decL cs vs (Q9 cs F)->F vs
 | [],[],F,h=>h
 | [],_::_,F,h=>h.elim
 | _::_,[],F,h=>h.elim
 | c::cs,v::vs,F,h=>by
  obtain⟨y,rfl,h2⟩:=E9 h;exact Q7 (F:=λl=>F (enc c y::l)) h2
inductive RTy where
 | one (c:CTy)
 | agg (cs:List CTy)
def ctyOf (P:Program) (t:TypeId):CTy:=
 match P.underlying t with
 | some (.int k)=> .int k
 | some .bool=> .bool
 | some .string=> .str
 | _=> .tv
def Up (P:Program):Nat->TypeId->List CTy
 | 0,_=>[]
 | n+1,t=>
  match P.underlying t with
  | some (.struct fs)=>fs.toList.flatMap λf=>Up P n f.type
  | some (.array len e)=>(List.replicate len (Up P n e)).flatten
  | _=>[ctyOf P t]
def MJ (P:Program) (t:TypeId):Option Bool:=
 match P.underlying t with
 | some (.struct _)=>some true
 | some (.array _ _)=>some true
 | some _=>some false
 | none=>none
def rtyOf (P:Program) (t:TypeId):RTy:=
 match MJ P t with
 | some true=> .agg (Up P 8 t)
 | _=> .one (ctyOf P t)
def decV:RTy->TV->(TV->Prop)->Prop
 | .one c,v,f=>CG c v λy=>f (enc c y)
 | .agg cs,v,f=>match v with | .agg l=>decL cs l (Q9 cs λl'=>f (.agg l')) | _=>False
theorem X5 {r:RTy} {v:TV} {f:TV->Prop} (h:decV r v f):f v:=by
 cases r with
 | one c=>obtain⟨y,rfl,h2⟩:=E9 h;exact h2
 | agg cs=>
  cases v<;>simp[decV]at h<;>first | exact h.elim | skip
  grind [Q7]
def Nj:Value->TV
 | .bool b=> .bool b
 | .int k n=> .int k n
 | .string s=> .str s.data.toList
 | .pointer none=> .nilPtr
 | .slice none 0 0=> .nilSlice
 | .map none=> .nilMap
 | .nilFunc=> .nilFunc
 | .nilIface=> .nilIface
 | _=> .junk
def ofV:Value->TV
 | .agg cs=> .agg (cs.toList.map Nj)
 | v=>Nj v
theorem Ni (g:Ak) (w:World) (v:Value):Rel g w (Nj v) v:=by
 unfold Nj;split
 ·exact .bool _
 ·exact .int _ _
 ·rename_i s;exact .str s.data.toList
 ·exact .nilPtr
 ·exact .nilSlice
 ·exact .nilMap
 ·exact .nilFunc
 ·exact .nilIface
 ·exact .junk _
theorem Ld (g:Ak) (w:World) (vs:List Value):AP g w (vs.map Nj) vs:=by
 refine⟨by simp,λi h=>?_⟩;grind [Ni]
theorem rel_ofV (g:Ak) (w:World) (v:Value):Rel g w (ofV v) v:=by
 unfold ofV;split
 ·rename_i cs
  have:=Ld g w cs.toList;exact .agg _ cs.toList this.1 this.2
 grind [Ni]
def opS (slots:Be):Operand->SV
 | .tmp t=>slots.f t
 | .const v=> .t (ofV v)
 | .global _=> .t .junk
 | .func f=> .t (.func f [])
def SV.tv:SV->TV
 | .t v=>v
 | .loc _ _=> .junk
theorem Cd.tv {g:Ak} {w:World} {loc:List (Option (List TV))} {s:SV} {u:Value} (h:Cd g w loc s u):Rel g w s.tv u:=by
 cases s with
 | t v=>exact h
 | loc i off=>exact .junk _
theorem Px {g:Ak} {w:World} {fr:Fr} {a:Act} (h:DM g w fr a.tmps) (x:Operand):Cd g w fr.loc (opS fr.slots x) (a.eval x):=by
 cases x with
 | tmp t=>exact h.2 t
 | const v=>exact rel_ofV g w v
 | global n=>exact Rel.junk _
 | func f=>exact Rel.func f [] [] rfl (λi hi=>absurd hi (Nat.not_lt_zero _))
def Af (st:St) (loc:List (Option (List TV))) (p:SV) (j:Nat):Option TV:=
 match p with
 | .loc i off=>match loc[i]? with | some (some l)=>l[off+j]? | _=>none
 | .t (.box b off)=>match st.box b with | .cells l=>l[off+j]? | _=>none
 | .t (.rptr xs)=>xs[j]?
 | _=>none
def AE (st:St) (loc:List (Option (List TV))) (p:SV):Nat->Nat->Option (List TV)
 | _,0=>some []
 | j,n+1=>match Af st loc p j with
  | some x=>(AE st loc p (j+1) n).map (x::·)
  | none=>none
theorem GU {g:Ak} {st:St} {loc:List (Option (List TV))} {w:World} (s:Sim g st loc w) {p:SV} {pv:Value} (hp:Cd g w loc p pv) {j:Nat} {x:TV} (h:Af st loc p j=some x):
  ∃b o v,pv= .pointer (some ⟨b,o,none⟩)/\w.cell? ⟨b,o+j,none⟩=some v/\Rel g w x v:=by
 unfold Af at h;split at h
 ·rename_i i off
  obtain⟨⟨l,hl⟩,rfl⟩:=hp;have ob:=s.obj (.loc i) ⟨l,hl⟩;simp[BO,hl,Ak.at]at ob;obtain⟨cs,hc,hr⟩:=ob;grind [AP.get?,BX.get]
 ·rename_i b off
  cases hp with
  | box _ _ hb=>
   split at h
   ·rename_i l hl
    have ob:=s.obj (.box b) (show b<st.nb from s.nb▸hb);simp[BO,hl,Ak.at]at ob;obtain⟨cs,hc,hr⟩:=ob;grind [AP.get?,BX.get]
   ·cases h
 ·cases hp<;>grind
 ·cases h
theorem Iu {g:Ak} {st:St} {loc:List (Option (List TV))} {w:World} (s:Sim g st loc w) {p:SV} {b o:Nat} (hp:Cd g w loc p (.pointer (some ⟨b,o,none⟩))):
  ∀(n j:Nat) (xs:List TV),AE st loc p j n=some xs->∃vs:List Value,vs.length=n/\AP g w xs vs/\∀i v,vs[i]? =some v->w.cell? ⟨b,o+j+i,none⟩=some v:=by
 intro n;induction n with
 | zero=>simp_all[AE,AP.nil]
 | succ n ih=>
  intro j xs h;simp[AE]at h;split at h
  ·rename_i x hx
   obtain⟨ys,hys,rfl⟩:=Option.map_eq_some_iff.1 h;obtain⟨b',o',v,hpv,hv,hrel⟩:=GU s hp hx;obtain⟨vs,hlen,hr,hc⟩:=ih (j+1) ys hys;refine⟨v::vs,by simp[hlen],.cons hrel hr,λi u hu=>?_⟩;grind
  ·cases h
inductive Cl where
 | bad
 | ok (v:SV)
 | chk (b:Bool) (v:SV)
 | pre (c:Prop) (v:SV)
 | opt (o:Option TV)
 | optm (o:Option (List (B8×TV))) (f:List (B8×TV)->TV)
def Cl.K:Cl->(SV->Prop)->Prop
 | .bad,_=>False
 | .ok v,k=>k v
 | .chk b v,k=>need b (k v)
 | .pre c v,k=>c/\k v
 | .opt o,k=>AS o λv=>k (.t v)
 | .optm o f,k=>AS o λv=>k (.t (f v))
def Cl.Is:Cl->SV->Prop
 | .bad,_=>False
 | .ok v,u=>u=v
 | .chk b v,u=>b=true/\u=v
 | .pre c v,u=>c/\u=v
 | .opt o,u=>∃v,o=some v/\u= .t v
 | .optm o f,u=>∃v,o=some v/\u= .t (f v)
theorem Cl.K_iff {r:Cl} {k:SV->Prop}:r.K k↔∃v,r.Is v/\k v:=by
 cases r<;>grind [Cl.K,Cl.Is,Al,DF]
def lenS:TV->Nat
 | .list _ _ n _=>n
 | .ms _ _ _ n _=>n
 | _=>0
def isSl:TV->Bool
 | .nilSlice=>true
 | .list _ _ _ _=>true
 | .ms _ _ _ _ _=>true
 | _=>false
def lenZ (sz:Nat):TV->Nat
 | .list s _ n _=>match s.beq sz with | true=>n | false=>0
 | .ms s _ _ n _=>match s.beq sz with | true=>n | false=>0
 | _=>0
def ixT (sz:Nat):TV->Nat->TV
 | .list _ _ _ xs,i=> .rptr (xs.drop (i*sz))
 | .ms _ b off _ _,i=> .box b (off+i*sz)
 | _,_=> .junk
def AU:TV->Nat->TV
 | .box b off,f=> .box b (off+f)
 | .rptr xs,f=> .rptr (xs.drop f)
 | _,_=> .junk
def isPtr:TV->Bool
 | .box _ _=>true
 | .rptr _=>true
 | _=>false
def CV:TV->Bool
 | .box _ _=>true
 | .rptr _=>true
 | .nilPtr=>true
 | _=>false
def Cj:TV->Bool
 | .nilPtr=>true
 | .nilSlice=>true
 | .nilMap=>true
 | .nilFunc=>true
 | .nilIface=>true
 | _=>false
def slT (sz:Nat) (tip:Tip):TV->Nat->Nat->TV
 | .list s _ _ xs,l,h=> .list s tip (h-l) ((xs.take (h*sz)).drop (l*sz))
 | .nilSlice,_,_=> .nilSlice
 | _,_,_=> .junk
def JU (sz:Nat):TV->Bool
 | .nilSlice=>true
 | .list s _ _ _=>s.beq sz
 | _=>false
def L7 (c:UInt8):TV:= .int .u8 (c.toNat:Int)
def AV (l:B8):List TV:=l.map L7
def Yp:TV->Option UInt8
 | .int .u8 n=>some (UInt8.ofNat n.toNat)
 | _=>none
def G1:List TV->Option B8
 | []=>some []
 | x::xs=>match Yp x with
  | some c=>(G1 xs).map (c::·)
  | none=>none
def toBytes (st:St):TV->Option B8
 | .nilSlice=>some []
 | .list sz _ _ xs=>match sz.beq 1 with | true=>G1 xs | false=>none
 | .ms sz b off n _=>match sz.beq 1 with
  | true=>match AE st [] (.t (.box b off)) 0 n with | some xs=>G1 xs | none=>none
  | false=>none
 | _=>none
def cmpI:BinOp->Int->Int->Option Bool
 | .eql,x,y=>some (decide (x=y))
 | .neq,x,y=>some (decide (x≠y))
 | .lss,x,y=>some (decide (x<y))
 | .leq,x,y=>some (decide (x<=y))
 | .gtr,x,y=>some (decide (y<x))
 | .geq,x,y=>some (decide (y<=x))
 | _,_,_=>none
def AI (op:BinOp) (k:IntKind) (x y:Int):Int:=
 match op with
 | .and=>k.wrap (BitVec.ofInt k.bits x&&&BitVec.ofInt k.bits y).toNat
 | .or=>k.wrap (BitVec.ofInt k.bits x ||| BitVec.ofInt k.bits y).toNat
 | .xor=>k.wrap (BitVec.ofInt k.bits x^^^BitVec.ofInt k.bits y).toNat
 | _=>k.wrap (BitVec.ofInt k.bits x&&& ~~~BitVec.ofInt k.bits y).toNat
def binI (op:BinOp) (k:IntKind) (x y:Int):Cl:=
 match op with
 | .add=> .ok (.t (.int k (k.wrap (x+y))))
 | .sub=> .ok (.t (.int k (k.wrap (x-y))))
 | .mul=> .ok (.t (.int k (k.wrap (x*y))))
 | .quo=> .chk (decide (y≠0)) (.t (.int k (k.wrap (x.tdiv y))))
 | .rem=> .chk (decide (y≠0)) (.t (.int k (x.tmod y)))
 | .and=> .ok (.t (.int k (AI .and k x y)))
 | .or=> .ok (.t (.int k (AI .or k x y)))
 | .xor=> .ok (.t (.int k (AI .xor k x y)))
 | .andNot=> .ok (.t (.int k (AI .andNot k x y)))
 | op=>match cmpI op x y with
  | some b=> .ok (.t (.bool b))
  | none=> .bad
def shI (op:BinOp) (k:IntKind) (x y:Int):Cl:=
 match op with
 | .shl=> .chk (decide (0<=y)) (.t (.int k (k.wrap (x*2^(min y.toNat k.bits)))))
 | .shr=> .chk (decide (0<=y)) (.t (.int k (x.fdiv (2^(min y.toNat k.bits)))))
 | _=> .bad
def binS (op:BinOp) (x y:B8):Cl:=
 match op with
 | .add=> .pre (x.length+y.length<=9223372036854775807) (.t (.str (x++y)))
 | .eql=> .ok (.t (.bool (decide (x=y))))
 | .neq=> .ok (.t (.bool (decide (x≠y))))
 | .lss=> .ok (.t (.bool (Op.bytesLess x y)))
 | .gtr=> .ok (.t (.bool (!(Op.bytesLess x y || decide (x=y)))))
 | .leq=> .ok (.t (.bool (Op.bytesLess x y || decide (x=y))))
 | .geq=> .ok (.t (.bool (!Op.bytesLess x y)))
 | _=> .bad
def nilP (P:Program) (t:TypeId) (x:TV) (want:Option Bool):Cl:=
 match want with
 | none=> .bad
 | some eq=>
  match P.underlying t with
  | some (.pointer _)=> .chk (CV x) (.t (.bool (match eq with | true=>Cj x | false=> !Cj x)))
  | _=> .bad
def nilS (P:Program) (t:TypeId) (x:TV) (want:Option Bool):Cl:=
 match want with
 | none=> .bad
 | some eq=>
  match P.underlying t with
  | some (.slice _)=> .chk (isSl x) (.t (.bool (match eq with | true=>Cj x | false=> !Cj x)))
  | _=> .bad
def FE:BinOp->Option Bool
 | .eql=>some true
 | .neq=>some false
 | _=>none
def Zd:BinOp->Bool
 | .shl=>true
 | .shr=>true
 | _=>false
def binV (P:Program) (op:BinOp) (t:TypeId) (x y:TV):Cl:=
 match x,y with
 | .int k a,.int k' b=>match Zd op with
  | true=>shI op k a b
  | false=>match decide (k=k')with | true=>binI op k a b | false=> .bad
 | .str a,.str b=>binS op a b
 | .bool a,.bool b=>match P.underlying t with
  | some .bool=>match op with
   | .eql=> .ok (.t (.bool (a==b)))
   | .neq=> .ok (.t (.bool (!(a==b))))
   | _=> .bad
  | _=> .bad
 | _,_=> .bad
def XX (P:Program) (t:TypeId):TV->TV->Option Bool
 | .int k a,.int k' b=>match P.underlying t with
  | some (.int _)=>match decide (k=k')with | true=>some (decide (a=b)) | false=>none
  | _=>none
 | .bool a,.bool b=>match P.underlying t with
  | some .bool=>some (a==b)
  | _=>none
 | .str a,.str b=>match P.underlying t with
  | some .string=>some (decide (a=b))
  | _=>none
 | _,_=>none
def eqFT (P:Program) (xs ys:List TV):List Field->Option Bool
 | []=>some true
 | f :: fs => match decide (f.name ≠ "_"), MJ P f.type, xs[f.offset]?, ys[f.offset]? with
  | true,some false,some x,some y=>match XX P f.type x y with
   | some b=>match eqFT P xs ys fs with
    | some r=>some (b&&r)
    | none=>none
   | none=>none
  | _,_,_,_=>none
def aggN (P:Program) (t:TypeId) (x:TV) (ys:List TV) (want:Option Bool):Cl:=
 match want,x,P.underlying t with
 | some eq,.agg xs,some (.struct fs)=>match (P.eqGuardType P.depth t).or (P.stoodInHeld t)with
  | false=>match eqFT P xs ys fs.toList with
   | some b=> .ok (.t (.bool (match eq with | true=>b | false=> !b)))
   | none=> .bad
  | true=> .bad
 | _,_,_=> .bad
def ptrN (P:Program) (t:TypeId) (x:TV) (b o:Nat) (want:Option Bool):Cl:=
 match want,P.underlying t with
 | some eq,some (.pointer e)=>match P.cellsOf e with
  | 0=> .bad
  | _=> .pre (x= .box b o) (.t (.bool eq))
 | _,_=> .bad
def binT (P:Program) (op:BinOp) (t:TypeId) (x y:TV):Cl:=
 match y with
 | .nilPtr=>nilP P t x (FE op)
 | .nilSlice=>nilS P t x (FE op)
 | .agg ys=>aggN P t x ys (FE op)
 | .box b o=>ptrN P t x b o (FE op)
 | y=>binV P op t x y
def NF (P:Program) (t:TypeId) (f:Nat):Option Field:=
 match P.underlying t with
 | some (.struct fs)=>fs[f]?
 | _=>none
def partT (P:Program) (t:TypeId) (xs:List TV) (off:Nat):Option TV:=
 match MJ P t with
 | some true=>match (off+P.cellsOf t).ble xs.length with | true=>some (.agg ((xs.drop off).take (P.cellsOf t))) | false=>none
 | some false=>xs[off]?
 | none=>none
def DK (P:Program) (t:TypeId):Option TypeId:=
 match P.underlying t with
 | some (.slice e)=>some e
 | _=>none
def Fk (P:Program) (st:St) (loc:List (Option (List TV))) (t:TypeId) (p:SV):Cl:=
 match MJ P t with
 | some true=> .opt (match P.cellsOf t with | 0=>none | n=>(AE st loc p 0 n).map .agg)
 | some false=> .opt (Af st loc p 0)
 | none=> .bad
def Fs (P:Program) (t:TypeId):Option Nat:=match P.info? t with | some i=>some i.size | none=>none
def Qg (P:Program) (t:TypeId) (x:TV) (lo hi mx:Option TV):Cl:=
 match P.underlying t,x with
 | some .string,.str s=>match lo,hi,mx with
  | none,none,none=> .ok (.t (.str s))
  | some (.int _ l),none,none=> .pre (0<=l/\l<=s.length) (.t (.str (s.drop l.toNat)))
  | none,some (.int _ h),none=> .pre (0<=h/\h<=s.length) (.t (.str (s.take h.toNat)))
  | some (.int _ l),some (.int _ h),none=> .pre (0<=l/\l<=h/\h<=s.length) (.t (.str ((s.take h.toNat).drop l.toNat)))
  | _,_,_=> .bad
 | some (.slice e),v=>match Fs P e with
  | none=> .bad
  | some sz=>match lo,hi,mx with
   | some (.int _ l),none,none=> .pre (JU sz v=true/\0<=l/\l<=lenS v) (.t (slT sz .non v l.toNat (lenS v)))
   | none,some (.int _ h),none=> .pre (JU sz v=true/\0<=h/\h<=lenS v) (.t (slT sz .non v 0 h.toNat))
   | some (.int _ l),some (.int _ h),none=> .pre (JU sz v=true/\0<=l/\l<=h/\h<=lenS v) (.t (slT sz .non v l.toNat h.toNat))
   | none,some (.int _ h),some (.int _ m)=> .pre (JU sz v=true/\0<=h/\h<=lenS v/\m=h) (.t (slT sz .full v 0 h.toNat))
   | some (.int _ l),some (.int _ h),some (.int _ m)=> .pre (JU sz v=true/\0<=l/\l<=h/\h<=lenS v/\m=h) (.t (slT sz .full v l.toNat h.toNat))
   | _,_,_=> .bad
 | _,_=> .bad
def SQ (P:Program) (st:St) (src dst:TypeId) (x:TV):Cl:=
 match P.underlying src,P.underlying dst,x with
 | some _,some (.int k),.int _ n=> .ok (.t (.int k (k.wrap n)))
 | some .string,some .string,.str l=> .ok (.t (.str l))
 | some (.slice e),some .string,v=>match P.underlying e with
  | some (.int .u8)=> .opt ((toBytes st v).map .str)
  | _=> .bad
 | some (.pointer t),some .unsafePointer,.box b off=>match P.cellsOf t with
  | 0=> .bad
  | _=> .pre ((Af st [] (.t (.box b off)) 0).isSome=true) (.t (.box b off))
 | _,_,_=> .bad
def lenN (P:Program) (t:TypeId) (x:TV):Cl:=
 match P.underlying t,x with
 | some .string,.str l=> .ok (.t (.int .i64 (l.length:Int)))
 | some (.slice _),v=> .chk (isSl v) (.t (.int .i64 (lenS v:Int)))
 | _,_=> .bad
def Xi (x:TV):Option TV:=
 match x with
 | .nilSlice=>some .nilPtr
 | .list sz tip n xs=>match n.beq 0 with | true=>none | false=>some (.sptr (.list sz tip n xs))
 | _=>none
def AG (k:B8):List (B8×TV)->Option TV
 | []=>none
 | (k',v)::es=>match decide (k=k')with | true=>some v | false=>AG k es
def DY (st:St):TV->Option (List (B8×TV))
 | .nilMap=>some []
 | .map b=>match st.box b with | .map es=>some es | _=>none
 | _=>none
def AD (z:TV):Option TV->TV
 | some v=>v
 | none=>z
def Yx (P:Program) (t:TypeId):Option TV:=
 match P.info? t with
 | some i=>match i.zero with
  | some (.agg _)=>none
  | some z=>some (Nj z)
  | none=>none
 | none=>none
def okT (ok:Bool) (z:TV) (o:Option TV):TV:=match ok with | true=> .tuple [AD z o,.bool o.isSome] | false=>AD z o
def CF (k:Nat):List (Nat×TV)->Option TV
 | []=>none
 | (k',v')::es=>match Nat.beq k k' with | true=>some v' | false=>CF k es
def pkey:TV->Option Nat
 | .box b off=>match Nat.beq off 0 with | true=>some b | false=>none
 | _=>none
def Au (st:St) (b:Nat):Bool:=match st.box b with | .cells (_::_)=>true | _=>false
def Qr (st:St):TV->Option (List (Nat×TV))
 | .map b=>match st.box b with | .pmap es=>some es | _=>none
 | _=>none
def Qu (st:St) (x i:TV):Option (List (Nat×TV)×Nat):=
 match Qr st x,pkey i with
 | some es,some k=>match (Au st k).and (es.all λp=>Au st p.1)with | true=>some (es,k) | false=>none
 | _,_=>none
def plook (st:St) (x i:TV) (ok:Bool) (z:TV):Option TV:=(Qu st x i).map λp=>okT ok z (CF p.2 p.1)
def SB (P:Program) (st:St) (t:TypeId) (x i:TV) (ok:Bool):Cl:=
 match P.underlying t with
 | some (.map kt e)=>match P.underlying kt with
  | some .string=>match i,Yx P e with
   | .str k,some z=> .optm (DY st x) λes=>okT ok z (AG k es)
   | _,_=> .bad
  | some (.pointer pe)=>match P.cellsOf pe,Yx P e with
   | _+1,some z=> .opt (plook st x i ok z)
   | _,_=> .bad
  | _=> .bad
 | _=> .bad
def minN (mx:Bool):TV->TV->Cl
 | .int k a,.int k' b=>match decide (k=k')with
  | true=> .ok (.t (.int k (match mx with | true=>max a b | false=>min a b)))
  | false=> .bad
 | _,_=> .bad
def arrOf (P:Program) (t:TypeId):Option (Nat×TypeId):=match P.underlying t with
 | some (.array m e)=>some (m,e)
 | _=>none
def Av:TV->Bool
 | .undef=>false
 | .junk=>false
 | .agg _=>false
 | .tuple _=>false
 | _=>true
def setAll {α:Type}:List α->Nat->List α->List α
 | l,_,[]=>l
 | l,off,x::xs=>setAll (l.set off x) (off+1) xs
def GN (P:Program) (t:TypeId):Option (List TV):=
 match P.info? t with
 | some i=>match i.zero with
  | some z=>some (z.cells.toList.map Nj)
  | none=>none
 | none=>none
def HE:TV->Option (List TV)
 | .agg l=>some l
 | .undef=>none
 | .junk=>none
 | .tuple _=>none
 | v=>some [v]
def Yg (b:Bool) (v:TV):Option (List TV):=match b with | true=>some [v] | false=>HE v
def ND (place:Nat->Option (Nat×Nat)) (scal:Nat->Bool):List TV->List (Nat×TV)->Option (List TV)
 | cells,[]=>some cells
 | cells,(i,v)::rest=>
  match place i,Yg (scal i) v with
  | some (off,size),some cs=>match (cs.length.beq size).and ((off+size).ble cells.length)with
   | true=>ND place scal (setAll cells off cs) rest
   | false=>none
  | _,_=>none
def ON (scal:Nat->Bool) (parts:List (Nat×TV)):Bool:=parts.all λp=>(!(scal p.1)).or (Av p.2)
def ML (z:List TV) (n:Nat):List TV:=(List.range n).map λi=>z.getD (i%z.length) .junk
def Nc (P:Program) (t:TypeId):Bool:=match MJ P t with | some false=>true | _=>false
def TD (P:Program) (fs:Array Field) (i:Nat):Option (Nat×Nat):=
 match fs[i]? with
 | some f=>match Fs P f.type with
  | some n=>some (f.offset,n)
  | none=>none
 | none=>none
def YP (P:Program) (fs:Array Field) (i:Nat):Bool:=match fs[i]? with | some f=>Nc P f.type | none=>false
def bldN (P:Program) (t:TypeId) (ps:List (Nat×TV)):Cl:=
 match GN P t,P.underlying t with
 | some z,some (.struct fs)=>match ND (TD P fs) (YP P fs) z ps with
  | some cells=> .chk ((fs.toList.all λf=>(Fs P f.type).isSome).and (ON (YP P fs) ps)) (.t (.agg cells))
  | none=> .bad
 | some z,some (.array _ e)=>match Fs P e with
  | some sz=>match ND (λi=>some (i*sz,sz)) (λ_=>Nc P e) z ps with
   | some cells=> .chk (ON (λ_=>Nc P e) ps) (.t (.agg cells))
   | none=> .bad
  | none=> .bad
 | _,_=> .bad
def bslN (P:Program) (t:TypeId) (len:Nat) (ps:List (Nat×TV)):Cl:=
 match DK P t with
 | some e=>match Fs P e,GN P e with
  | some sz,some z=>match ND (λi=>some (i*sz,sz)) (λ_=>Nc P e) (ML z (len*sz)) ps with
   | some cells=> .chk ((((len*sz).ble 16777216).and ((z.length.beq sz).and (Nat.ble 1 sz))).and (ON (λ_=>Nc P e) ps)) (.t (.list sz .full len cells))
   | none=> .bad
  | _,_=> .bad
 | none=> .bad
def Cu (P:Program) (st:St) (loc:List (Option (List TV))) (ρ:Operand->SV) (op:Op):Cl:=
 match op with
 | .move x=> .ok (ρ x)
 | .assign x=> .ok (ρ x)
 | .pick c a b=>match (ρ c).tv,ρ a,ρ b with
  | .bool true,x,_=> .ok x
  | .bool false,_,y=> .ok y
  | _,_,_=> .bad
 | .load t a=>Fk P st loc t (ρ a)
 | .nilCheck x=>match ρ x with
  | .loc i off=> .ok (.loc i off)
  | .t v=> .chk (isPtr v) (.t v)
 | .binOp op t x y _=>match ρ x with
  | .loc _ _=>match (ρ y).tv,P.underlying t,FE op with
   | .nilPtr,some (.pointer _),some eq=> .ok (.t (.bool (!eq)))
   | _,_,_=> .bad
  | .t a=>binT P op t a (ρ y).tv
 | .unOp .not _ x=>match (ρ x).tv with
  | .bool b=> .ok (.t (.bool (!b)))
  | _=> .bad
 | .unOp .neg _ x=>match (ρ x).tv with
  | .int k n=> .ok (.t (.int k (k.wrap (0-n))))
  | _=> .bad
 | .convert s d x=>SQ P st s d (ρ x).tv
 | .makeFunc (.func f) first cap=>match first.size with
  | 0=> .ok (.t (.func f (cap.toList.map λx=>(ρ x).tv)))
  | _=> .bad
 | .slice t x lo hi mx=>Qg P t (ρ x).tv (lo.map λx=>(ρ x).tv) (hi.map λx=>(ρ x).tv) (mx.map λx=>(ρ x).tv)
 | .fieldAddr t x f=>match NF P t f with
  | some fd=>match P.cellsOf fd.type with
   | 0=> .bad
   | _=>match ρ x with
    | .loc i off=> .ok (.loc i (off+fd.offset))
    | .t v=> .chk (isPtr v) (.t (AU v fd.offset))
  | none=> .bad
 | .field t x f=>match NF P t f,(ρ x).tv with
  | some fd,.agg xs=> .opt (partT P fd.type xs fd.offset)
  | _,_=> .bad
 | .indexAddr t x i=>match ρ x with
  | .loc k off=>match arrOf P t,(ρ i).tv with
   | some (m,e),.int _ n=>match Fs P e with
    | some sz=> .pre (0<=n/\n<(m:Int)) (.loc k (off+n.toNat*sz))
    | none=> .bad
   | _,_=> .bad
  | .t v=>match DK P t,(ρ i).tv with
   | some e,.int _ n=>match Fs P e with
    | some sz=> .pre (0<=n/\n<lenZ sz v) (.t (ixT sz v n.toNat))
    | none=> .bad
   | _,_=> .bad
 | .index t x i=>match P.underlying t,(ρ x).tv,(ρ i).tv with
  | some .string,.str s,.int _ n=> .pre (0<=n/\n<s.length) (.t (.int .u8 ((s.getD n.toNat 0).toNat:Int)))
  | _,_,_=> .bad
 | .extract x i=>match (ρ x).tv with
  | .tuple xs=> .opt xs[i]?
  | _=> .bad
 | .call {callee:= .builtin .len,args,argTypes}=>match args[0]?,argTypes[0]? with
  | some x,some t=>lenN P t (ρ x).tv
  | _,_=> .bad
 | .call {callee:= .builtin .unsafeSliceData,args,argTypes}=>match args.toList with
  | [x]=> .opt (Xi (ρ x).tv)
  | _=> .bad
 | .lookup t x i ok=>SB P st t (ρ x).tv (ρ i).tv ok
 | .buildSlice t len parts=>bslN P t len (parts.toList.map λp=>(p.1,(ρ p.2).tv))
 | .build t parts=>bldN P t (parts.toList.map λp=>(p.1,(ρ p.2).tv))
 | .call {callee:= .builtin .min,args,argTypes}=>match args.toList with
  | [x,y]=>minN false (ρ x).tv (ρ y).tv
  | _=> .bad
 | .call {callee:= .builtin .max,args,argTypes}=>match args.toList with
  | [x,y]=>minN true (ρ x).tv (ρ y).tv
  | _=> .bad
 | _=> .bad
end Go.TVF
end
section
namespace Go.TVF
open Go.IntKind(i64 u8)
open Go.RowKit (Below)
def Gives (P:Program) (s:Sem Next) (w:World) (g:Ak) (loc:List (Option (List TV))) (v:SV):Prop:=
 ∃u,s.run P w= .ok (.value u) w/\Cd g w loc v u
section
variable {P:Program} {g:Ak} {st:St} {loc:List (Option (List TV))} {w:World}
theorem Ax {t:TypeId} {d:TypeDesc} (h:P.underlying t=some d) (w:World):(underlying t).run P w= .ok d w:=run_underlying h w
theorem binI_run (op:BinOp) (k:IntKind) (a b:Int) (v:SV) (h:(binI op k a b).Is v) (hs:Zd op=false) (t:TypeId) (x y:Operand):
  ∃u,(do eqGuard op t x y (.int k a) (.int k b);Go.binOp op t (.int k a) (.int k b)).run P w= .ok u w/\Cd g w loc v u:=by
 cases op<;>first | (exact absurd hs (by decide)) | skip
 all_goals simp only[Go.binOp,ne_eq,not_true_eq_false,if_false,Op.intArith,Op.intDiv,Op.intBits,Op.intCmp]
 case quo=>obtain⟨h1,rfl⟩:=h;have:=of_decide_eq_true h1;rw[if_neg this];exact⟨_,rfl,Rel.int _ _⟩
 case rem=>obtain⟨h1,rfl⟩:=h;have:=of_decide_eq_true h1;rw[if_neg this];exact⟨_,rfl,Rel.int _ _⟩
 all_goals subst h
 case add=>exact⟨_,rfl,Rel.int _ _⟩
 case sub=>exact⟨_,rfl,Rel.int _ _⟩
 case mul=>exact⟨_,rfl,Rel.int _ _⟩
 case and=>exact⟨_,rfl,Rel.int _ _⟩
 case or=>exact⟨_,rfl,Rel.int _ _⟩
 case xor=>exact⟨_,rfl,Rel.int _ _⟩
 case andNot=>exact⟨_,rfl,Rel.int _ _⟩
 all_goals (refine⟨_,rfl,?_⟩)
 case eql=>exact Rel.bool _
 case neq=>rw[show(a !=b)=decide (a≠b)from by grind];exact Rel.bool _
 case lss=>exact Rel.bool _
 case leq=>exact Rel.bool _
 case gtr=>exact Rel.bool _
 case geq=>exact Rel.bool _
theorem shI_run (op:BinOp) (k k':IntKind) (a b:Int) (v:SV) (h:(shI op k a b).Is v) (t:TypeId) (x y:Operand):
  ∃u,(do eqGuard op t x y (.int k a) (.int k' b);Go.binOp op t (.int k a) (.int k' b)).run P w= .ok u w/\Cd g w loc v u:=by
 cases op<;>simp only[shI,Cl.Is]at h
 case shl=>
  obtain⟨h1,rfl⟩:=h;have:=of_decide_eq_true h1;simp only[Go.binOp,Op.shift];rw[if_neg (by omega)];exact⟨_,rfl,Rel.int _ _⟩
 case shr=>
  obtain⟨h1,rfl⟩:=h;have:=of_decide_eq_true h1;simp only[Go.binOp,Op.shift];rw[if_neg (by omega)];exact⟨_,rfl,Rel.int _ _⟩
theorem K9 (l:B8):(ByteArray.mk l.toArray).toList=l:=by
 simp_all
theorem binS_run (op:BinOp) (a b:B8) (v:SV) (h:(binS op a b).Is v) (t:TypeId) (x y:Operand):
  ∃u,(do eqGuard op t x y (.string ⟨a.toArray⟩) (.string ⟨b.toArray⟩);Go.binOp op t (.string ⟨a.toArray⟩) (.string ⟨b.toArray⟩)).run P w= .ok u w/\Cd g w loc v u:=by
 cases op<;>simp only[binS,Cl.Is]at h
 case add=>
  obtain⟨h1,rfl⟩:=h;simp only[Go.binOp,Op.stringOp];rw[if_neg (by
   have e1:(ByteArray.mk a.toArray).size=a.length:=by simp[ByteArray.size]
   have e2:(ByteArray.mk b.toArray).size=b.length:=by simp[ByteArray.size]
   have:IntKind.i64.max=9223372036854775807:=by decide
   omega)]
  refine⟨_,rfl,?_⟩;exact Rel.str _
 all_goals subst h
 all_goals simp only[Go.binOp,Op.stringOp,K9]
 all_goals refine⟨_,rfl,?_⟩
 case eql=>rw[show(a==b)=decide (a=b)from by grind];exact Rel.bool _
 case neq=>rw[show(!(a==b))=decide (a≠b)from by grind];exact Rel.bool _
 case lss=>exact Rel.bool _
 case leq=>rw[show(a==b)=decide (a=b)from by grind];exact Rel.bool _
 case gtr=>rw[show(a==b)=decide (a=b)from by grind];exact Rel.bool _
 case geq=>exact Rel.bool _
theorem binB_run (op:BinOp) (a b:Bool) (v:SV) (t:TypeId) (ht:P.underlying t=some .bool) (x y:Operand)
  (h:(match op with | .eql=>Cl.ok (.t (.bool (a==b))) | .neq=> .ok (.t (.bool (!(a==b)))) | _=> .bad:Cl).Is v):
  ∃u,(do eqGuard op t x y (.bool a) (.bool b);Go.binOp op t (.bool a) (.bool b)).run P w= .ok u w/\Cd g w loc v u:=by
 cases op<;>simp[Cl.Is]at h
 case eql=>subst h;exact⟨_,run_eql_bool w t a b ht,Rel.bool _⟩
 case neq=>subst h;exact⟨_,run_neq_bool w t a b ht,Rel.bool _⟩
theorem OV (op:BinOp) (t:TypeId) (x y:Operand) (a b:Value) (h:match a,b with | .nilIface,.nilIface=>False | .agg _,.agg _=>False | _,_=>True):
  (eqGuard op t x y a b).run P w= .ok () w:=by
 unfold eqGuard;cases op<;>simp<;>first | rfl | skip
 all_goals
  split
  all_goals simp_all
theorem JF (t e:TypeId) (p:Option Addr) (ht:P.underlying t=some (.pointer e)):(Go.binOp .eql t (.pointer p) (.pointer none)).run P w= .ok (.bool p.isNone) w/\
  (Go.binOp .neq t (.pointer p) (.pointer none)).run P w= .ok (.bool (!p.isNone)) w:=by
 grind [Go.Program.pointee,Go.run_eql_pointer_nil,Go.run_neq_pointer_nil]
theorem SK (t e:TypeId) (p:Option Addr) (l c:Nat) (ht:P.underlying t=some (.slice e)):(Go.binOp .eql t (.slice p l c) (.slice none 0 0)).run P w= .ok (.bool p.isNone) w/\
  (Go.binOp .neq t (.slice p l c) (.slice none 0 0)).run P w= .ok (.bool (!p.isNone)) w:=by
 refine⟨?_,run_neq_slice_nil w t e p l c ht⟩;have:=run_equal_slice_nil w t e p l c ht;show(do pure (Value.bool (<-Op.equal t (.slice p l c) (.slice none 0 0)))).run P w=_;simp_all
theorem nilP_run (op:BinOp) (t:TypeId) (x:TV) (xv:Value) (hx:Rel g w x xv) (v:SV) (xo yo:Operand) (h:(nilP P t x (FE op)).Is v):
  ∃u,(do eqGuard op t xo yo xv (.pointer none);Go.binOp op t xv (.pointer none)).run P w= .ok u w/\Cd g w loc v u:=by
 unfold nilP at h;split at h
 ·exact h.elim
 ·rename_i eq heq
  split at h
  ·rename_i e ht
   obtain⟨h1,rfl⟩:=h;cases op<;>simp[FE,Option.some.injEq,reduceCtorEq]at heq
   all_goals subst heq
   all_goals cases x<;>simp[CV,Bool.false_eq_true]at h1
   all_goals cases hx
   all_goals first
    | exact⟨_,(JF t e _ ht).1,Rel.bool _⟩
    | exact⟨_,(JF t e _ ht).2,Rel.bool _⟩
  ·exact h.elim
theorem nilS_run (op:BinOp) (t:TypeId) (x:TV) (xv:Value) (hx:Rel g w x xv) (v:SV) (xo yo:Operand) (h:(nilS P t x (FE op)).Is v):
  ∃u,(do eqGuard op t xo yo xv (.slice none 0 0);Go.binOp op t xv (.slice none 0 0)).run P w= .ok u w/\Cd g w loc v u:=by
 unfold nilS at h;split at h
 ·exact h.elim
 ·rename_i eq heq
  split at h
  ·rename_i e ht
   obtain⟨h1,rfl⟩:=h;cases op<;>simp[FE,Option.some.injEq,reduceCtorEq]at heq
   all_goals subst heq
   all_goals cases x<;>simp[isSl,Bool.false_eq_true]at h1
   all_goals cases hx
   all_goals first
    | exact⟨_,(SK t e _ _ _ ht).1,Rel.bool _⟩
    | exact⟨_,(SK t e _ _ _ ht).2,Rel.bool _⟩
  ·exact h.elim
theorem binV_run (op:BinOp) (t:TypeId) (x y:TV) (xv yv:Value) (hx:Rel g w x xv) (hy:Rel g w y yv) (v:SV) (xo yo:Operand) (h:(binV P op t x y).Is v):
  ∃u,(do eqGuard op t xo yo xv yv;Go.binOp op t xv yv).run P w= .ok u w/\Cd g w loc v u:=by
 unfold binV at h;split at h
 ·cases hx;cases hy
  split at h
  ·exact shI_run _ _ _ _ _ _ h _ _ _
  ·split at h
   ·rename_i hk
    have:=of_decide_eq_true hk;subst this;exact binI_run _ _ _ _ _ h ‹_› _ _ _
   ·exact h.elim
 ·cases hx;cases hy
  exact binS_run _ _ _ _ h _ _ _
 ·cases hx;cases hy
  split at h
  ·exact binB_run _ _ _ _ _ ‹_› _ _ h
  ·exact h.elim
 ·exact h.elim
theorem VW {t:TypeId} {d:TypeDesc} (h:P.underlying t=some d):∃i,P.info? t=some i:=by
 grind [Go.Program.underlying]
theorem KE {t:TypeId} {d:TypeDesc} (h:P.underlying t=some d) (w:World):(sizeOf t).run P w= .ok (P.cellsOf t) w:=by
 obtain⟨i,hi⟩:=VW h;simp[sizeOf,typeInfo,hi,Program.cellsOf]
theorem IW {t:TypeId} {b:Bool} (h:MJ P t=some b) (w:World):(isAgg t).run P w= .ok b w/\∃d,P.underlying t=some d:=by
 unfold MJ at h;split at h
 all_goals simp_all[Ax,Go.isAgg]
theorem Vv {t:TypeId} (h:MJ P t=some false) {xs:List TV} {vs:List Value} (hr:AP g w xs vs) {off:Nat} {x:TV} (hx:xs[off]? =some x):
  ∃u,(part t vs.toArray off).run P w= .ok u w/\Rel g w x u:=by
 obtain⟨u,hu,hrel⟩:=hr.get? hx;simp_all[IW,Go.part]
theorem XW (d:Nat) {t:TypeId} {x y:TV} {a b:Value} (hx:Rel g w x a) (hy:Rel g w y b) {r:Bool} (h:XX P t x y=some r):(Op.equalIn (d+1) t a b).run P w= .ok r w:=by
 unfold XX at h;split at h
 ·split at h
  ·split at h
   ·cases hx;cases hy
    grind [Go.run_equalIn_int]
   ·cases h
  ·cases h
 ·split at h
  ·cases hx;cases hy
   grind [Go.run_equalIn_bool']
  ·cases h
 ·split at h
  ·cases hx;cases hy
   grind [K9,Go.run_equalIn_string]
  ·cases h
 ·cases h
theorem V9 (d:Nat) {xs ys:List TV} {vs us:List Value} (hx:AP g w xs vs) (hy:AP g w ys us):∀(fs:List Field) {r:Bool},eqFT P xs ys fs=some r->(Op.eqFields (d+1) vs.toArray us.toArray fs).run P w= .ok r w
 | [],r,h=>by simp[eqFT,Option.some.injEq]at h;subst h;rfl
 | f::fs,r,h=>by
  simp only[eqFT]at h;split at h
  ·rename_i x y hn ha h1 h2
   split at h
   ·rename_i b hb
    split at h
    ·rename_i r' hr'
     simp at h;subst h;obtain⟨u,hu,ru⟩:=Vv (P:=P) ha hx h1;obtain⟨u',hu',ru'⟩:=Vv (P:=P) ha hy h2;have ih:=V9 d hx hy fs hr';have hc:=XW (P:=P) d ru ru' hb;simp[Op.eqFields,if_pos (of_decide_eq_true hn),Sem.run_bind,hu,hu',hc,Result.andThen_ok];cases b
     ·simp
     ·simp[ih]
    ·cases h
   ·cases h
  ·cases h
theorem aggN_run (op:BinOp) (t:TypeId) (x:TV) (xv:Value) (hx:Rel g w x xv) (ys:List TV) (us:List Value) (hl:ys.length=us.length) (hr:∀i (h:i<ys.length),Rel g w ys[i] (us.getD i Go.undef)) (v:SV) (xo yo:Operand)
  (h:(aggN P t x ys (FE op)).Is v):∃u,(do eqGuard op t xo yo xv (.agg us.toArray);Go.binOp op t xv (.agg us.toArray)).run P w= .ok u w/\Cd g w loc v u:=by
 unfold aggN at h;split at h
 ·rename_i eq xs fs hw ht
  cases hx with
  | agg _ vs hl' hr'=>
   split at h
   ·split at h
    ·rename_i b hb
     subst h;have hf:P.fieldsOf t=fs:=by simp[Program.fieldsOf,ht]
     have hg':P.eqGuardType P.depth t=false/\P.stoodInHeld t=false:=by
      simp_all
     have hrun:(Op.equalIn 10000 t (.agg vs.toArray) (.agg us.toArray)).run P w= .ok b w:=by
      rw[run_equalIn_struct w 9999 t _ _ (by simp_all) hg'.2,hf];exact V9 9998 ⟨hl',hr'⟩ ⟨hl,hr⟩ fs.toList hb
     simp[Sem.run_bind,run_eqGuard_agg w op t xo yo _ _ hg'.1,Result.andThen_ok];cases op<;>simp[FE,Option.some.injEq,reduceCtorEq]at hw
     ·subst hw
      refine⟨_,by rw[run_eql_struct,hrun];rfl,Rel.bool _⟩
     ·subst hw
      refine⟨_,by rw[run_neq_struct,hrun];rfl,Rel.bool _⟩
    ·exact h.elim
   ·exact h.elim
 ·exact h.elim
theorem Ob (d:Nat) {t e:TypeId} (ht:P.underlying t=some (.pointer e)) (hn:P.cellsOf e≠0) (a:Addr):(Op.equalIn (d+1) t (.pointer (some a)) (.pointer (some a))).run P w= .ok true w:=by
 have hs:(sizeOf e).run P w= .ok (P.cellsOf e) w:=by
  unfold Program.cellsOf at hn⊢;cases hi:P.info? e<;>simp_all[Go.sizeOf,Go.typeInfo]
 simp[Op.equalIn,Sem.run_bind,Ax ht,Result.andThen_ok,hs];simp_all[Go.sameAddr]
theorem ptrN_run (op:BinOp) (t:TypeId) (x:TV) (xv:Value) (hx:Rel g w x xv) (b o:Nat) (v:SV) (xo yo:Operand) (h:(ptrN P t x b o (FE op)).Is v):
  ∃u,(do eqGuard op t xo yo xv (.pointer (some ⟨g.bk b,o,none⟩));Go.binOp op t xv (.pointer (some ⟨g.bk b,o,none⟩))).run P w= .ok u w/\Cd g w loc v u:=by
 unfold ptrN at h;split at h
 ·rename_i eq e hw ht
  split at h
  ·exact h.elim
  ·rename_i hn
   obtain⟨rfl,rfl⟩:=h;cases hx;have hg:(eqGuard op t xo yo (.pointer (some ⟨g.bk b,o,none⟩)) (.pointer (some ⟨g.bk b,o,none⟩))).run P w= .ok () w:=by grind [OV]
   have heq:(Op.equal t (.pointer (some ⟨g.bk b,o,none⟩)) (.pointer (some ⟨g.bk b,o,none⟩))).run P w= .ok true w:=by
    exact Ob 9999 ht hn _
   simp[Sem.run_bind,hg,Result.andThen_ok];cases op<;>simp[FE,Option.some.injEq,reduceCtorEq]at hw
   ·subst hw;exact⟨_,by simp[Go.binOp,Sem.run_bind,heq,Result.andThen_ok,Sem.run_pure],Rel.bool _⟩
   ·exact⟨_,by grind [Go.binOp,Go.Sem.run_bind,Go.Result.andThen_ok,Go.Sem.run_pure],Rel.bool _⟩
 ·exact h.elim
theorem binT_run (op:BinOp) (t:TypeId) (x y:TV) (xv yv:Value) (hx:Rel g w x xv) (hy:Rel g w y yv) (v:SV) (xo yo:Operand) (h:(binT P op t x y).Is v):
  ∃u,(do eqGuard op t xo yo xv yv;Go.binOp op t xv yv).run P w= .ok u w/\Cd g w loc v u:=by
 unfold binT at h;split at h
 ·cases hy;exact nilP_run op t _ xv hx v xo yo h
 ·cases hy;exact nilS_run op t _ xv hx v xo yo h
 ·cases hy with
  | agg _ us hl hr=>exact aggN_run op t x xv hx _ us hl hr v xo yo h
 ·cases hy;exact ptrN_run op t x xv hx _ _ v xo yo h
 ·exact binV_run op t x _ xv yv hx hy v xo yo h
theorem Cf (b o i:Nat):(⟨b,o,none⟩:Addr).add i=⟨b,o+i,none⟩:=by grind [Go.Addr.add]
theorem QK (s:Sim g st loc w) {t:TypeId} {p:SV} {pv:Value} (hp:Cd g w loc p pv) {v:SV} (h:(Fk P st loc t p).Is v):
  ∃u,(Instr.loadAt t pv).run P w= .ok u w/\Cd g w loc v u:=by
 unfold Fk at h;split at h
 ·rename_i ha
  obtain⟨x,hx,rfl⟩:=h;obtain⟨hag,d,hd⟩:=IW ha w;split at hx
  ·cases hx
  ·obtain⟨xs,hxs,rfl⟩:=Option.map_eq_some_iff.1 hx
   cases hc:P.cellsOf t with
   | zero=>grind
   | succ m=>
    have hxs':=hxs;rw[hc]at hxs';simp[AE]at hxs';split at hxs'
    ·rename_i y hy
     obtain⟨b,o,_,rfl,_,_⟩:=GU s hp hy;obtain⟨vs,hl,hr,hcell⟩:=Iu s hp _ _ _ hxs;refine⟨.agg vs.toArray,?_,Rel.agg _ _ hr.1 hr.2⟩;have:=run_loadCells_list (P:=P) w ⟨b,o,none⟩ vs (λj u hj=>by grind [Cf]);simp_all[KE,Go.Instr.loadAt,Go.Instr.sureAddr,Go.loadVar]
    simp_all
 ·rename_i ha
  obtain⟨x,hx,rfl⟩:=h;obtain⟨hag,d,hd⟩:=IW ha w;obtain⟨b,o,u,rfl,hc,hr⟩:=GU s hp hx;refine⟨u,?_,hr⟩;simp_all[Go.Instr.loadAt,Go.Instr.sureAddr,Go.loadVar]
 ·exact h.elim
theorem Rel.int_inv {k:IntKind} {n:Int} {u:Value} (h:Rel g w (.int k n) u):u= .int k n:=by cases h;rfl
theorem FU (st:St) (l1 l2:List (Option (List TV))) (v:TV) (j:Nat):Af st l1 (.t v) j=Af st l2 (.t v) j:=by
 cases v<;>rfl
theorem Gm (st:St) (l1 l2:List (Option (List TV))) (v:TV):∀(n j:Nat),AE st l1 (.t v) j n=AE st l2 (.t v) j n:=by
 intro n;induction n<;>grind [AE,FU]
theorem G0:∀{xs:List TV} {l:B8},G1 xs=some l->∃ns:List Int,xs=ns.map (TV.int .u8)/\l=ns.map λn=>UInt8.ofNat n.toNat
 | [],l,h=>by simp_all[G1]
 | x::xs,l,h=>by
  simp[G1]at h;split at h
  ·rename_i c hc
   obtain⟨l',hl',rfl⟩:=Option.map_eq_some_iff.1 h;obtain⟨ns,rfl,rfl⟩:=G0 hl';unfold Yp at hc;split at hc
   ·rename_i n;simp at hc;subst hc;exact⟨n::ns,rfl,rfl⟩
   ·cases hc
  ·cases h
theorem X9 (s:Sim g st loc w) {src dst e:TypeId} (hs:P.underlying src=some (.slice e)) (he:P.underlying e=some (.int .u8)) (hd:P.underlying dst=some .string)
  {x:TV} {xv:Value} (hx:Rel g w x xv) {l:B8} (h:toBytes st x=some l):(Go.convert src dst xv).run P w= .ok (.string ⟨l.toArray⟩) w:=by
 unfold toBytes at h;split at h
 ·simp at h;subst h;cases hx;exact run_convert_bytes_nil w src e hs he _ _ dst hd
 ·rename_i sz tip n xs
  split at h
  ·obtain⟨ns,hxs,rfl⟩:=G0 h
   cases hx with
   | listE _ _ a _=>
    have h0:ns=[]:=by simp_all
    subst h0;have hl:(loadCells a 0).run P w= .ok (([]:List Int).map (Value.int .u8)).toArray w:=by
     have:=run_loadCells_list (P:=P) w a [] (λj v hj=>by simp at hj);simp_all
    rw[run_convert_bytes_string w src dst e _ 0 0 hs he hd,run_bytesToString w _ 0 0 [] hl,foldl_push_bytes];rfl
   | list _ _ _ _ b o cap us hl hn hc hr ht=>
    have hlen:ns.length=n:=by simp_all
    have:=run_convert_bytes_arg (P:=P) w src e hs he b o n cap ns hlen (λi hi=>by
     grind [Rel.int_inv]) dst hd
    exact this
  ·cases h
 ·rename_i sz b off n cap
  split at h
  ·split at h
   ·rename_i xs hxs
    obtain⟨ns,rfl,rfl⟩:=G0 h;cases hx with
    | ms _ _ _ _ _ hb hn=>
     have hp:Cd g w loc (.t (.box b off)) (.pointer (some ⟨g.bk b,off,none⟩)):=Rel.box b off hb;rw[Gm st [] loc]at hxs;obtain⟨vs,hl,hr,hcell⟩:=Iu s hp n 0 _ hxs;have hlen:ns.length=n:=by have:=hr.1;simp_all
     exact run_convert_bytes_arg (P:=P) w src e hs he _ off n cap ns hlen (λi hi=>by
      obtain⟨v,hv,hrel⟩:=hr.get? (i:=i) (x:= .int .u8 (ns.getD i 0)) (by
       grind)
      grind [Rel.int_inv]) dst hd
   ·cases h
  ·cases h
 ·cases h
theorem Rel.box_inv' {b o:Nat} {u:Value} (h:Rel g w (.box b o) u):b<g.nb/\u= .pointer (some ⟨g.bk b,o,none⟩):=by cases h;grind
theorem Ml {t:TypeId} (hn:P.cellsOf t≠0) (w:World):(sizeOf t).run P w= .ok (P.cellsOf t) w:=by
 unfold Program.cellsOf at hn⊢;cases hi:P.info? t<;>simp_all[Go.sizeOf,Go.typeInfo]
theorem Nb {b o:Nat} {c:Array Value} {T:TypeId} {fz:Nat×Nat} (hh:w.heap[b]? =some (.cells c T fz)):(Conv.seenAt ⟨b,o,none⟩).run P w= .ok ⟨b,o,none⟩ w:=by
 have hsh:w.shape? b=some (T,c.size):=by simp[World.shape?,hh]
 simp[Conv.seenAt,viewAt,hsh]
theorem R5 {src dst t:TypeId} (hs:P.underlying src=some (.pointer t)) (hd:P.underlying dst=some .unsafePointer) (hn:P.cellsOf t≠0) {b o:Nat} {u:Value} (hc:w.cell? ⟨b,o,none⟩=some u):
  (Go.convert src dst (.pointer (some ⟨b,o,none⟩))).run P w= .ok (.pointer (some ⟨b,o,none⟩)) w:=by
 have hcell:∃c T fz,w.heap[b]? =some (.cells c T fz)/\o<c.size:=by
  grind [Go.World.cell?]
 obtain⟨c,T,fz,hh,ho⟩:=hcell;have hsh:w.shape? b=some (T,c.size):=by simp[World.shape?,hh]
 have hci:(cellsIn b).run P w= .ok (some c.size) w:=by simp[cellsIn,hsh]
 simp only[Go.convert,Sem.run_bind,Ax hs,Ax hd,Result.andThen_ok,Conv.unsafePointer,Nb hh,hci,Ml hn];simp_all[if_neg]
theorem R6 {src dst u:TypeId} (hs:P.underlying src=some .unsafePointer) (hd:P.underlying dst=some (.pointer u)) (hn:P.cellsOf u≠0) {b:Nat} {c:Array Value} {fz:Nat×Nat} (hh:w.heap[b]? =some (.cells c u fz)) (hsz:c.size=P.cellsOf u):
  (Go.convert src dst (.pointer (some ⟨b,0,none⟩))).run P w= .ok (.pointer (some ⟨b,0,none⟩)) w:=by
 have hsh:w.shape? b=some (u,c.size):=by simp[World.shape?,hh]
 have hl:liesAt P P.depth u (c.size/P.cellsOf u) 0 u 1=true:=by
  rw[hsz,Nat.div_self (Nat.pos_of_ne_zero hn)];have hdp:P.depth=(2*(P.types.size+Made.depth)+1)+1:=rfl;rw[hdp];simp[liesAt,Bool.or_eq_true];rw[hdp];simp[rowAt,hn,sameLayout]
 have hva:(variablesAt ⟨b,0,none⟩ u 1).run P w= .ok true w:=by
  simp[variablesAt,hsh,hl]
 simp only[Go.convert,Sem.run_bind,Ax hs,Ax hd,Result.andThen_ok,Conv.unsafePointer,Nb hh,Ml hn,hva];simp
theorem X8 (s:Sim g st loc w) {src dst:TypeId} {x:TV} {xv:Value} (hx:Rel g w x xv) {v:SV} (h:(SQ P st src dst x).Is v):
  ∃u,(Go.convert src dst xv).run P w= .ok u w/\Cd g w loc v u:=by
 unfold SQ at h;split at h
 ·cases hx
  subst h;refine⟨_,?_,Rel.int _ _⟩;simp_all[Ax,Go.convert,Go.Conv.intToInt]
 ·cases hx
  subst h;refine⟨_,?_,Rel.str _⟩;simp_all[Ax,Go.convert]
 ·rename_i e hs hd
  split at h
  ·rename_i he
   obtain⟨y,hy,rfl⟩:=h;obtain⟨l,hl,rfl⟩:=Option.map_eq_some_iff.1 hy;exact⟨_,X9 s hs he hd hx hl,Rel.str _⟩
  ·exact h.elim
 ·rename_i t b off hs hd
  split at h
  ·exact h.elim
  ·obtain⟨hy,rfl⟩:=h
   obtain⟨c,hc⟩:=Option.isSome_iff_exists.1 hy;obtain⟨hb,rfl⟩:=hx.box_inv';obtain⟨b1,o1,u,e1,e2,_⟩:=GU (s.dropLoc (loc':=[]) (λj x hx=>by simp at hx)) (p:= .t (.box b off)) (Rel.box b off hb) hc;refine⟨_,?_,Rel.box b off hb⟩;grind [R5]
 ·exact h.elim
end
end Go.TVF
end
section
namespace Go.TVF
open Go.IntKind(i64 u8)
open Go.RowKit (Below)
section
variable {P:Program} {g:Ak} {st:St} {loc:List (Option (List TV))} {w:World}
theorem CM (k:IntKind) (i:Int) (y:Nat) (c:BoundsCode) (h0:0<=i) (h1:i<=y):(Instr.sliceBound (.int k i) y c).run P w= .ok i.toNat w:=by
 simp[Instr.sliceBound,asIntOf,h0,h1]
theorem FR {t:TypeId} {n:Nat} (h:Fs P t=some n) (w:World):(sizeOf t).run P w= .ok n w:=by
 unfold Fs at h;split at h
 all_goals simp_all[Go.sizeOf,Go.typeInfo]
theorem Id (s:B8) (l h:Nat):(ByteArray.mk s.toArray).extract l h=⟨((s.take h).drop l).toArray⟩:=by
 rw[ByteArray.extract_mk,List.drop_take]
theorem FP (s:B8):(ByteArray.mk s.toArray).size=s.length:=by simp[ByteArray.size]
theorem M7 {sz:Nat} {v:TV} {a:Option Addr} {n cap:Nat} (hv:Rel g w v (.slice a n cap)) (hl:JU sz v=true) (l h m:Nat) (h1:l<=h) (h2:h<=lenS v) (h3:h<=m) (hm:m<=cap)
  (tip:Tip) (ht:tip= .non∨(tip= .full/\m=h)):
  Rel g w (slT sz tip v l h) (.slice (if m=l then a else a.map (·.add (l*sz))) (h-l) (m-l)):=by
 cases v<;>simp only[JU,Bool.false_eq_true]at hl
 ·cases hv
  simp[lenS,Nat.le_zero]at h2;subst h2;have:l=0:=by omega
  have:m=0:=by omega
  subst l m;exact Rel.nilSlice
 ·rename_i s tip0 n0 xs
  have hsz:=Nat.eq_of_beq_eq_true hl;subst hsz;cases hv with
  | listE _ _ a _=>
   simp[slT,if_true];have:=Rel.listE (g:=g) (w:=w) s tip a (by grind);simp_all
  | list _ _ _ _ b o _ us hlen hn hc hr htip=>
   simp[lenS]at h2;have hle:h*s<=xs.length:=by simp_all[Nat.mul_le_mul_right]
   have hdl:((xs.take (h*s)).drop (l*s)).length=(h-l)*s:=by
    grind [Nat.sub_mul]
   have htk:S4 g tip ⟨b,o,none⟩ (h-l) (m-l) s/\S4 g tip ⟨b,o+l*s,none⟩ (h-l) (m-l) s:=by
    rcases ht with rfl | ⟨rfl,rfl⟩
    ·exact⟨trivial,trivial⟩
    ·exact⟨rfl,rfl⟩
   by_cases hml:m=l
   ·rw[if_pos hml]
    refine Rel.list _ _ _ _ b o _ us hdl (by omega) (λi hi=>?_) (λi hi=>?_) htk.1
    all_goals grind
   ·rw[if_neg hml]
    simp[Option.map_some,Cf];refine Rel.list _ _ _ _ b (o+l*s) _ (λi=>us (l*s+i)) hdl (by omega) (λi hi=>?_) (λi hi=>?_) htk.2
    all_goals grind
theorem Gp {sz:Nat} {v:TV} {xv:Value} (hx:Rel g w v xv) (h:JU sz v=true):∃a n cap,xv= .slice a n cap/\lenS v=n/\n<=cap:=by
 cases v<;>simp[JU,Bool.false_eq_true]at h
 ·cases hx;exact⟨_,_,_,rfl,rfl,Nat.le_refl _⟩
 ·cases hx with
  | listE _ _ a _=>exact⟨_,_,_,rfl,rfl,Nat.le_refl _⟩
  | list _ _ _ _ b o cap us hlen hn hc hr htip=>exact⟨_,_,_,rfl,rfl,hn⟩
def Jc (g:Ak) (w:World) (x:Option TV) (xv:Option Value):Prop:=
 match x,xv with
 | none,none=>True
 | some t,some u=>Rel g w t u
 | _,_=>False
theorem U1 {t:TypeId} {x:TV} {xv:Value} (hx:Rel g w x xv) {lo hi mx:Option TV} {lov hiv mxv:Option Value} (hlo:Jc g w lo lov) (hhi:Jc g w hi hiv) (hmx:Jc g w mx mxv)
  {v:SV} (h:(Qg P t x lo hi mx).Is v):∃u,(Instr.sliceAt t xv lov hiv mxv).run P w= .ok u w/\Cd g w loc v u:=by
 unfold Qg at h;split at h
 ·rename_i s hu
  cases hx;have h0:∀lov hiv mxv,(Instr.sliceAt t (.string ⟨s.toArray⟩) lov hiv mxv).run P w=(Instr.slice t (.string ⟨s.toArray⟩) lov hiv mxv).run P w:=by
   simp_all[Ax,Go.Instr.sliceAt]
  rw[h0];split at h
  ·cases lov<;>cases hiv<;>cases mxv<;>simp[Jc]at hlo hhi hmx
   simp[Cl.Is]at h;subst h;refine⟨_,?_,Rel.str _⟩;simp[Instr.slice,Ax hu,Instr.sliceBounds]
  ·rename_i k l
   cases lov<;>cases hiv<;>cases mxv<;>simp[Jc]at hlo hhi hmx;obtain⟨⟨h1,h2⟩,rfl⟩:=h;cases hlo;refine⟨_,?_,Rel.str _⟩;simp[Instr.slice,Ax hu,Instr.sliceBounds,Id,FP,CM _ _ _ _ h1 h2]
  ·rename_i k h'
   cases lov<;>cases hiv<;>cases mxv<;>simp[Jc]at hlo hhi hmx;obtain⟨⟨h1,h2⟩,rfl⟩:=h;cases hhi;refine⟨_,?_,Rel.str _⟩;simp[Instr.slice,Ax hu,Instr.sliceBounds,Id,FP,CM _ _ _ _ h1 h2]
  ·rename_i k l k' h'
   cases lov<;>cases hiv<;>cases mxv<;>simp[Jc]at hlo hhi hmx;obtain⟨⟨h1,h2,h3⟩,rfl⟩:=h;cases hhi;cases hlo;refine⟨_,?_,Rel.str _⟩;simp[Instr.slice,Ax hu,Instr.sliceBounds,Id,FP,CM _ _ _ _ (Int.le_trans h1 h2) h3,CM _ _ _ _ h1 (show l<=((h'.toNat:Nat):Int) by omega)]
  ·exact h.elim
 ·rename_i x _ _ e hu
  have h0:∀lov hiv mxv,(Instr.sliceAt t xv lov hiv mxv).run P w=(Instr.slice t xv lov hiv mxv).run P w:=by
   simp_all[Ax,Go.Instr.sliceAt]
  rw[h0];split at h
  ·exact h.elim
  ·rename_i sz hsz
   have hrs:=FR hsz w;split at h
   ·rename_i k l
    cases lov<;>cases hiv<;>cases mxv<;>simp[Jc]at hlo hhi hmx;obtain⟨⟨hl,h1,h2⟩,rfl⟩:=h;obtain⟨a,n,cap,rfl,hn,hc⟩:=Gp hx hl;cases hlo;refine⟨_,?_,M7 hx hl l.toNat (lenS x) cap (by omega) (Nat.le_refl _) (by omega) (Nat.le_refl _) .non (.inl rfl)⟩;simp[Instr.slice,Ax hu,Instr.sliceBounds,CM _ _ _ _ h1 (show l<=(n:Int) by omega),hrs,hn]
   ·rename_i k h'
    cases lov<;>cases hiv<;>cases mxv<;>simp[Jc]at hlo hhi hmx;obtain⟨⟨hl,h1,h2⟩,rfl⟩:=h;obtain⟨a,n,cap,rfl,hn,hc⟩:=Gp hx hl;cases hhi;refine⟨_,?_,M7 hx hl 0 h'.toNat cap (by omega) (by omega) (by omega) (Nat.le_refl _) .non (.inl rfl)⟩;simp[Instr.slice,Ax hu,Instr.sliceBounds,CM _ _ _ _ h1 (show h'<=(cap:Int) by omega),hrs]
   ·rename_i k l k' h'
    cases lov<;>cases hiv<;>cases mxv<;>simp[Jc]at hlo hhi hmx;obtain⟨⟨hl,h1,h2,h3⟩,rfl⟩:=h;obtain⟨a,n,cap,rfl,hn,hc⟩:=Gp hx hl;cases hhi;cases hlo;refine⟨_,?_,M7 hx hl l.toNat h'.toNat cap (by omega) (by omega) (by omega) (Nat.le_refl _) .non (.inl rfl)⟩;simp[Instr.slice,Ax hu,Instr.sliceBounds,CM _ _ _ _ (Int.le_trans h1 h2) (show h'<=(cap:Int) by omega),CM _ _ _ _ h1 (show l<=((h'.toNat:Nat):Int) by omega),hrs]
   ·rename_i k h' k' m
    cases lov<;>cases hiv<;>cases mxv<;>simp[Jc]at hlo hhi hmx;obtain⟨⟨hl,h1,h2,rfl⟩,rfl⟩:=h;obtain⟨a,n,cap,rfl,hn,hc⟩:=Gp hx hl;cases hhi;cases hmx;refine⟨_,?_,M7 hx hl 0 m.toNat m.toNat (by omega) (by omega) (by omega) (by omega) .full (.inr ⟨rfl,rfl⟩)⟩;simp[Instr.slice,Ax hu,Instr.sliceBounds,CM _ _ _ _ h1 (show m<=(cap:Int) by omega),CM _ _ _ _ h1 (show m<=((m.toNat:Nat):Int) by omega),hrs]
   ·rename_i k l k' h' k'' m
    cases lov<;>cases hiv<;>cases mxv<;>simp[Jc]at hlo hhi hmx;obtain⟨⟨hl,h1,h2,h3,rfl⟩,rfl⟩:=h;obtain⟨a,n,cap,rfl,hn,hc⟩:=Gp hx hl;cases hhi;cases hlo;cases hmx;refine⟨_,?_,M7 hx hl l.toNat m.toNat m.toNat (by omega) (by omega) (by omega) (by omega) .full (.inr ⟨rfl,rfl⟩)⟩;simp[Instr.slice,Ax hu,Instr.sliceBounds,CM _ _ _ _ (Int.le_trans h1 h2) (show m<=(cap:Int) by omega),CM _ _ _ _ (Int.le_trans h1 h2) (show m<=((m.toNat:Nat):Int) by omega),CM _ _ _ _ h1 (show l<=((m.toNat:Nat):Int) by omega),hrs]
   ·exact h.elim
 ·exact h.elim
theorem VX {t:TypeId} {s:B8} {k:IntKind} {n:Int} (hu:P.underlying t=some .string) (h0:0<=n) (h1:n<s.length):
  (Instr.index t (.string ⟨s.toArray⟩) (.int k n)).run P w= .ok (.int .u8 ((s.getD n.toNat 0).toNat:Int)) w:=by
 have hlt:n.toNat<s.length:=by omega
 have hb:(ByteArray.mk s.toArray)[n.toNat]? =some (s.getD n.toNat 0):=by
  rw[List.getD_eq_getElem?_getD,List.getElem?_eq_getElem hlt,Option.getD_some];have hsz:n.toNat<(ByteArray.mk s.toArray).size:=by grind [FP]
  rw[getElem?_pos (ByteArray.mk s.toArray) n.toNat hsz];rfl
 simp_all[Ax,Go.Instr.index,Go.asIntOf]
theorem Sr {xs:List TV} {b o:Nat} {us:Nat->Value} (hc:∀i,i<xs.length->g.S ⟨b,o+i,none⟩/\w.cell? ⟨b,o+i,none⟩=some (us i)) (hr:∀i (h:i<xs.length),Rel g w xs[i] (us i)) (d:Nat):
  Rel g w (.rptr (xs.drop d)) (.pointer (some ⟨b,o+d,none⟩)):=by
 refine Rel.rptr _ b (o+d) (λi=>us (d+i)) (λi hi=>?_) (λi hi=>?_)
 all_goals grind
theorem TS {t e:TypeId} {m sz:Nat} {k:IntKind} {n:Int} {b o:Nat} (hu:P.underlying t=some (.array m e)) (hsz:Fs P e=some sz) (h0:0<=n) (h1:n<(m:Int)):
  (Instr.indexAt t (.pointer (some ⟨b,o,none⟩)) (.int k n)).run P w= .ok (.pointer (some ⟨b,o+n.toNat*sz,none⟩)) w:=by
 have hrs:=FR hsz w;simp[Instr.indexAt,asIntOf,Instr.sureAddr,Ax hu,h0,h1,hrs,Cf]
theorem Pp {t e:TypeId} {sz:Nat} {x:TV} {xv:Value} (hx:Rel g w x xv) {k:IntKind} {n:Int} (hu:P.underlying t=some (.slice e)) (hsz:Fs P e=some sz) (h0:0<=n) (h1:n<lenZ sz x):
  ∃u,(Instr.indexAt t xv (.int k n)).run P w= .ok u w/\Rel g w (ixT sz x n.toNat) u:=by
 have hrs:=FR hsz w;cases x<;>simp[lenZ]at h1<;>try omega
 ·rename_i s tip m xs
  split at h1
  ·rename_i hs
   have hs':=Nat.eq_of_beq_eq_true hs;subst hs';cases hx with
   | listE _ _ a _=>omega
   | list _ _ _ _ b o cap us hlen hn hc hr htip=>
    refine⟨.pointer (some ⟨b,o+n.toNat*s,none⟩),?_,Sr hc hr _⟩;simp[Instr.indexAt,asIntOf,Ax hu,h0,h1,hrs,Cf]
  ·omega
 ·rename_i s b off m cap
  split at h1
  ·rename_i hs
   have hs':=Nat.eq_of_beq_eq_true hs;subst hs';cases hx with
   | ms _ _ _ _ _ hb hn=>
    refine⟨.pointer (some ⟨g.bk b,off+n.toNat*s,none⟩),?_,Rel.box _ _ hb⟩;simp[Instr.indexAt,asIntOf,Ax hu,h0,h1,hrs,Cf]
  ·omega
theorem NE {t:TypeId} {f:Nat} {fd:Field} (h:NF P t f=some fd):∃fs,P.underlying t=some (.struct fs)/\fs[f]? =some fd:=by
 grind [NF]
theorem Vg {t:TypeId} (h:P.cellsOf t≠0) (w:World):(sizeOf t).run P w= .ok (P.cellsOf t) w:=by
 cases hi:P.info? t<;>simp_all[Go.Program.cellsOf,Go.sizeOf,Go.typeInfo]
theorem IB {t:TypeId} {f:Nat} {fd:Field} (h:NF P t f=some fd) (hz:P.cellsOf fd.type≠0) (b o:Nat):
  (Instr.fieldAt t (.pointer (some ⟨b,o,none⟩)) f).run P w= .ok (.pointer (some ⟨b,o+fd.offset,none⟩)) w:=by
 obtain⟨fs,hu,hf⟩:=NE h;simp[Instr.fieldAt,Ax hu,hf,Instr.sureAddr,fieldPlace,Vg hz,hz,Cf]
theorem Xp {t:TypeId} {xs:List TV} {vs:List Value} (hr:AP g w xs vs) {off:Nat} {v:TV} (h:partT P t xs off=some v):∃u,(part t vs.toArray off).run P w= .ok u w/\Rel g w v u:=by
 unfold partT at h;split at h
 ·rename_i ha
  obtain⟨hag,d,hd⟩:=IW ha w;split at h
  ·simp at h
   subst h;have:=(hr.drop off).take (P.cellsOf t);refine⟨.agg ((vs.drop off).take (P.cellsOf t)).toArray,?_,Rel.agg _ _ this.1 this.2⟩;simp[part,hag,KE hd]
  ·cases h
 ·rename_i ha
  obtain⟨hag,d,hd⟩:=IW ha w;obtain⟨u,hu,hrel⟩:=hr.get? h;simp_all[Go.part]
 ·cases h
theorem XF {x:TV} {xv:Value} (hx:Rel g w x xv) (h1:isSl x=true):∃a c,xv= .slice a (lenS x) c:=by
 cases x<;>simp[isSl,Bool.false_eq_true]at h1
 ·cases hx;exact⟨_,_,rfl⟩
 ·cases hx<;>exact⟨_,_,rfl⟩
 ·cases hx;exact⟨_,_,rfl⟩
theorem Aat {t:TypeId} {x:TV} {xv:Value} (hx:Rel g w x xv) {v:SV} (h:(lenN P t x).Is v) (ts:Array TypeId) (ht:ts[0]? =some t) (ty:TypeId):
  ∃u,(Builtin.len_ ts ty #[xv]).run P w= .ok u w/\Cd g w loc v u:=by
 unfold lenN at h;split at h
 ·rename_i l hu
  cases hx;subst h;refine⟨_,?_,Rel.int _ _⟩;simp[Builtin.len_,ht,Ax hu,goInt,FP]
 ·rename_i e hu
  obtain⟨h1,rfl⟩:=h;obtain⟨a,c,rfl⟩:=XF hx h1;refine⟨_,?_,Rel.int _ _⟩;simp[Builtin.len_,ht,Ax hu,goInt]
 ·exact h.elim
theorem Sz {mx:Bool} {x y:TV} {xv yv:Value} (hx:Rel g w x xv) (hy:Rel g w y yv) {v:SV} (h:(minN mx x y).Is v) (ts:Array TypeId) (ty:TypeId):
  ∃u,(match mx with | true=>Builtin.max_ ts ty #[xv,yv] | false=>Builtin.min_ ts ty #[xv,yv]).run P w= .ok u w/\Cd g w loc v u:=by
 unfold minN at h;split at h
 ·rename_i k a k' b
  split at h
  ·subst h
   cases hx;cases hy;cases mx
   ·refine⟨.int k (min a b),?_,Rel.int _ _⟩
    simp[Builtin.min_,Builtin.min2];omega
   ·refine⟨.int k (max a b),?_,Rel.int _ _⟩
    simp[Builtin.max_,Builtin.max2];omega
  ·exact h.elim
 ·exact h.elim
end
end Go.TVF
end
section
namespace Go.TVF
open Go.IntKind(i64 u8)
open Go.RowKit (Below)
section
variable {P:Program} {g:Ak} {st:St} {loc:List (Option (List TV))} {w:World}
theorem Da {s:Sem Value} {v:SV} (h:∃u,s.run P w= .ok u w/\Cd g w loc v u):Gives P (do pure (Next.value (<-s))) w g loc v:=by
 obtain⟨u,h1,h2⟩:=h;exact⟨u,by simp[h1],h2⟩
theorem Xm {ρ:Operand->SV} {ρc:Operand->Value} (x:Option Operand) (h:∀y,x=some y->Cd g w loc (ρ y) (ρc y)):Jc g w (x.map λy=>(ρ y).tv) (x.map ρc):=by
 cases x with
 | none=>trivial
 | some y=>exact(h y rfl).tv
set_option maxHeartbeats 1000000 in
theorem LY {k:B8}:∀{es:List (B8×TV)} {ms:List MapEntry},es.length=ms.length->
  (∀(i:Nat) (k:B8) (v:TV),es[i]? =some (k,v)->∃e:MapEntry,ms[i]? =some e/\e.key=Value.string ⟨k.toArray⟩/\Rel g w v e.val)->∀n,
  (AG k es=none/\Instr.findNow .string (.string ⟨k.toArray⟩) ms n=some none)∨∃v i e,AG k es=some v/\Instr.findNow .string (.string ⟨k.toArray⟩) ms n=some (some (n+i,e.val))/\ms[i]? =some e/\e.key=Value.string ⟨k.toArray⟩/\Rel g w v e.val/\(∃kk,es[i]? =some (kk,v)/\k=kk)/\∀j,j<i->∀kk vv,es[j]? =some (kk,vv)->k≠kk
 | [],[],_,_,n=> .inl ⟨rfl,rfl⟩
 | [],_::_,hl,_,n=>by simp at hl
 | _::_,[],hl,_,n=>by simp at hl
 | (k',v')::es,m::ms,hl,h,n=>by
  obtain⟨e,he,hk,hr⟩:=h 0 k' v' rfl;simp only[List.getElem?_cons_zero,Option.some.injEq]at he;subst he;have hnow:Instr.sameNow .string (.string ⟨k.toArray⟩) m.key=some (decide (k=k')):=by
   rw[hk];simp only[Instr.sameNow,Option.some.injEq];rw[beq_toListBytes,K9,K9,Bool.eq_iff_iff];simp
  by_cases hkk:k=k'
  ·right
   exact⟨v',0,m,by simp[AG,hkk],by subst hkk;simp only[Instr.findNow,hnow,decide_true,Nat.add_zero],rfl,by rw[hkk];exact hk,hr,⟨k',rfl,hkk⟩,λj hj=>absurd hj (Nat.not_lt_zero _)⟩
  ·have ih:=LY (k:=k) (es:=es) (ms:=ms) (by simpa using hl) (λi kk vv hi=>h (i+1) kk vv (by simpa using hi)) (n+1)
   rcases ih with⟨h1,h2⟩ | ⟨v,i,e,h1,h2,h3,h4,h5,h6,h7⟩
   ·left;exact⟨by simp[AG,hkk,h1],by simp[Instr.findNow,hnow,hkk,h2]⟩
   ·right
    refine⟨v,i+1,e,by simp[AG,hkk,h1],by simp only[Instr.findNow,hnow,hkk,decide_false];rw[h2,show n+1+i=n+(i+1) by omega],by simpa using h3,h4,h5,by simpa using h6,λj hj kk vv hjv=>?_⟩;cases j with
    | zero=>simp only[List.getElem?_cons_zero,Option.some.injEq,Prod.mk.injEq]at hjv;rw[<-hjv.1];exact hkk
    | succ j=>exact h7 j (by omega) kk vv (by simpa using hjv)
theorem LZ {kt:TypeId} (hk:P.underlying kt=some .string) {k:B8} {es:List (B8×TV)} {ms:List MapEntry} (hl:es.length=ms.length)
  (h:∀(i:Nat) (k:B8) (v:TV),es[i]? =some (k,v)->∃e:MapEntry,ms[i]? =some e/\e.key=Value.string ⟨k.toArray⟩/\Rel g w v e.val):
  (AG k es=none/\(Instr.findKey kt (.string ⟨k.toArray⟩) ms).run P w= .ok none w)∨∃v i e,AG k es=some v/\(Instr.findKey kt (.string ⟨k.toArray⟩) ms).run P w= .ok (some (i,e.val)) w/\ms[i]? =some e/\e.key=Value.string ⟨k.toArray⟩/\Rel g w v e.val/\(∃kk,es[i]? =some (kk,v)/\k=kk)/\∀j,j<i->∀kk vv,es[j]? =some (kk,vv)->k≠kk:=by
 rcases LY (k:=k) hl h 0 with⟨h1,h2⟩ | ⟨v,i,e,h1,h2,h3⟩
 ·simp_all[Ax,Go.Instr.findKey]
 ·right;exact⟨v,i,e,h1,by simp_all[Ax,Go.Instr.findKey],h3⟩
theorem FH {kt:TypeId} (hk:P.underlying kt=some .string) (b:Bool) (n:Nat) (v:ByteArray):(Instr.checkKey b (n+1) kt (.string v)).run P w= .ok () w:=by
 simp_all[Ax,Go.Instr.checkKey]
theorem R9 {t:TypeId} {z:TV} (h:Yx P t=some z):∃v,(zeroValue t).run P w= .ok v w/\Rel g w z v:=by
 unfold Yx at h;split at h
 ·split at h
  ·cases h
  ·simp at h
   subst h;simp_all[Ni,Go.zeroValue,Go.typeInfo]
  ·cases h
 ·cases h
theorem VG (s:Sim g st loc w) {x:TV} {xv:Value} (hx:Rel g w x xv) {es:List (B8×TV)} (h:DY st x=some es):
  (xv= .map none/\es=[])∨∃b ms c,xv= .map (some b)/\w.heap[b]? =some (.map ms c)/\es.length=ms.toList.length/\∀(i:Nat) (k:B8) (v:TV),es[i]? =some (k,v)->∃e:MapEntry,ms.toList[i]? =some e/\e.key=Value.string ⟨k.toArray⟩/\Rel g w v e.val:=by
 unfold DY at h;split at h
 ·cases hx;grind
 ·rename_i b
  split at h
  ·rename_i es' hb
   cases hx with
   | map _ hlt=>
    have hlt':b<st.nb:=by grind [Sim.nb]
    have ob:=s.obj (.box b) hlt';simp[BO,hb,Ak.at]at ob;obtain⟨ms,c,h1,h2,h3⟩:=ob;grind
  ·cases h
 ·cases h
theorem WB (s:Sim g st loc w) {b:Nat} (hb:b<st.nb) (h:Au st b=true):∃c T lo hi,w.heap[g.bk b]? =some (.cells c T (lo,hi))/\c.size≠0/\∀o,o<=c.size->¬(lo<=o/\o<hi):=by
 unfold Au at h;split at h
 ·rename_i x l hx
  have ob:=s.obj (.box b) hb;simp[BO,hx,Ak.at]at ob;obtain⟨cs,⟨T,lo,hi,h1,h2⟩,h3⟩:=ob;have:=h3.1;grind
 ·cases h
theorem sameBox (s:Sim g st loc w) {b b':Nat} (hb:b<st.nb) (hb':b'<st.nb) (h:Au st b=true) (h':Au st b'=true):
  (sameAddr ⟨g.bk b,0,none⟩ ⟨g.bk b',0,none⟩).run P w= .ok (Nat.beq b b') w:=by
 by_cases hbb:b=b'
 ·simp_all[Go.sameAddr]
 ·have hne:g.bk b≠g.bk b':=λe=>by have:=s.inj (.box b) (.box b') hb hb' e;grind
  obtain⟨c,T,lo,hi,h1,h2,h3⟩:=WB s hb h;obtain⟨c',T',lo',hi',h1',h2',h3'⟩:=WB s hb' h';rw[HX hbb];have g1:∀o,o<=c.size->w.frozen? ⟨g.bk b,o,none⟩=false:=λo ho=>by grind [Go.World.frozen?]
  have g2:∀o,o<=c'.size->w.frozen? ⟨g.bk b',o,none⟩=false:=λo ho=>by grind [Go.World.frozen?]
  simp[sameAddr,hne,g1 0 (Nat.zero_le _),g2 0 (Nat.zero_le _),noView,viewAt,World.shape?,mayBeOne,stringish,h1,h1',g1 c.size (Nat.le_refl _),g2 c'.size (Nat.le_refl _),h2']
theorem XV (s:Sim g st loc w) {kt pe:TypeId} (hk:P.underlying kt=some (.pointer pe)) (hp:P.cellsOf pe≠0) {b b':Nat} (hb:b<st.nb) (hb':b'<st.nb) (h:Au st b=true) (h':Au st b'=true) (d:Nat):
  (Op.equalIn (d+1) kt (.pointer (some ⟨g.bk b,0,none⟩)) (.pointer (some ⟨g.bk b',0,none⟩))).run P w= .ok (Nat.beq b b') w:=by
 have hs:=Ml hp w;simp[Op.equalIn,Sem.run_bind,Ax hk,Result.andThen_ok,hs,if_pos hp];grind [sameBox]
theorem equalBox (s:Sim g st loc w) {kt pe:TypeId} (hk:P.underlying kt=some (.pointer pe)) (hp:P.cellsOf pe≠0) {b b':Nat} (hb:b<st.nb) (hb':b'<st.nb) (h:Au st b=true) (h':Au st b'=true):
  (Op.equal kt (.pointer (some ⟨g.bk b,0,none⟩)) (.pointer (some ⟨g.bk b',0,none⟩))).run P w= .ok (Nat.beq b b') w:=by
 grind [XV,Go.Op.equal,Go.Op.maxDepth]
theorem I6 (s:Sim g st loc w) {kt pe:TypeId} (hk:P.underlying kt=some (.pointer pe)) (hp:P.cellsOf pe≠0) {k:Nat} (hkb:k<st.nb) (hkc:Au st k=true):∀{es:List (Nat×TV)} {ms:List MapEntry},es.length=ms.length->
  (∀(i k:Nat) (v:TV),es[i]? =some (k,v)->k<g.nb/\∃e:MapEntry,ms[i]? =some e/\e.key=Value.pointer (some ⟨g.bk k,0,none⟩)/\Rel g w v e.val)->(es.all λp=>Au st p.1)=true->∀n,
  (CF k es=none/\(Instr.findAsking kt (.pointer (some ⟨g.bk k,0,none⟩)) ms n).run P w= .ok none w)∨∃v i e,CF k es=some v/\(Instr.findAsking kt (.pointer (some ⟨g.bk k,0,none⟩)) ms n).run P w= .ok (some (n+i,e.val)) w/\ms[i]? =some e/\e.key=Value.pointer (some ⟨g.bk k,0,none⟩)/\Rel g w v e.val/\es[i]? =some (k,v)/\∀j,j<i->∀kk vv,es[j]? =some (kk,vv)->k≠kk
 | [],[],_,_,_,n=> .inl ⟨rfl,by simp[Instr.findAsking]⟩
 | [],_::_,hl,_,_,n=>by simp at hl
 | _::_,[],hl,_,_,n=>by simp at hl
 | (k',v')::es,m::ms,hl,h,hc,n=>by
  obtain⟨hlt,e,he,hke,hr⟩:=h 0 k' v' rfl;simp at he;subst he;rw[List.all_cons,Bool.and_eq_true]at hc;have hlt':k'<st.nb:=by rw[<-s.nb];exact hlt
  have hq:=equalBox (P:=P) s hk hp hkb hlt' hkc hc.1;rw[<-hke]at hq;by_cases hkk:k=k'
  ·right
   subst hkk;rw[Nat.beq_refl]at hq;refine⟨v',0,m,by simp[CF],?_,rfl,hke,hr,rfl,λj hj=>absurd hj (Nat.not_lt_zero _)⟩;simp[Instr.findAsking,Sem.run_bind,hq,Result.andThen_ok,if_true,Sem.run_pure,Nat.add_zero]
  ·rw[HX hkk]at hq
   have ih:=I6 s hk hp hkb hkc (es:=es) (ms:=ms) (by simpa using hl) (λi kk vv hi=>h (i+1) kk vv (by simpa using hi)) hc.2 (n+1);rcases ih with⟨h1,h2⟩ | ⟨v,i,e,h1,h2,h3,h4,h5,h6,h7⟩
   ·left
    refine⟨by simp[CF,HX hkk];exact h1,?_⟩;simp[Instr.findAsking,Sem.run_bind,hq,Result.andThen_ok];simpa using h2
   ·right
    refine⟨v,i+1,e,by simp[CF,HX hkk];exact h1,?_,by simpa using h3,h4,h5,by simpa using h6,λj hj kk vv hjv=>?_⟩
    ·simp[Instr.findAsking,Sem.run_bind,hq,Result.andThen_ok]
     rw[show n+(i+1)=n+1+i by omega];simpa using h2
    ·cases j with
     | zero=>simp at hjv;rw[<-hjv.1];exact hkk
     | succ j=>exact h7 j (by omega) kk vv (by simpa using hjv)
theorem IA (s:Sim g st loc w) {kt pe:TypeId} (hk:P.underlying kt=some (.pointer pe)) (hp:P.cellsOf pe≠0) {k:Nat} (hkb:k<st.nb) (hkc:Au st k=true) {es:List (Nat×TV)} {ms:List MapEntry} (hl:es.length=ms.length)
  (h:∀(i k:Nat) (v:TV),es[i]? =some (k,v)->k<g.nb/\∃e:MapEntry,ms[i]? =some e/\e.key=Value.pointer (some ⟨g.bk k,0,none⟩)/\Rel g w v e.val) (hc:(es.all λp=>Au st p.1)=true):
  (CF k es=none/\(Instr.findKey kt (.pointer (some ⟨g.bk k,0,none⟩)) ms).run P w= .ok none w)∨∃v i e,CF k es=some v/\(Instr.findKey kt (.pointer (some ⟨g.bk k,0,none⟩)) ms).run P w= .ok (some (i,e.val)) w/\ms[i]? =some e/\e.key=Value.pointer (some ⟨g.bk k,0,none⟩)/\Rel g w v e.val/\es[i]? =some (k,v)/\∀j,j<i->∀kk vv,es[j]? =some (kk,vv)->k≠kk:=by
 have hnow:∀n,ms≠ []->Instr.findNow (.pointer pe) (.pointer (some ⟨g.bk k,0,none⟩)) ms n=none:=λn hne=>by
  cases ms<;>grind [Go.Instr.findNow,Go.Instr.sameNow]
 by_cases hne:ms=[]
 ·subst hne
  have:=List.eq_nil_of_length_eq_zero (by omega);subst this;left;exact⟨rfl,by simp[Instr.findKey,Ax hk,Instr.findNow]⟩
 ·have hf:(Instr.findKey kt (.pointer (some ⟨g.bk k,0,none⟩)) ms).run P w=(Instr.findAsking kt (.pointer (some ⟨g.bk k,0,none⟩)) ms 0).run P w:=by
   simp_all[Ax,Go.Instr.findKey]
  grind [I6]
theorem EB {kt pe:TypeId} (hk:P.underlying kt=some (.pointer pe)) (b:Bool) (n:Nat) (a:Option Addr):(Instr.checkKey b (n+1) kt (.pointer a)).run P w= .ok () w:=by
 simp_all[Ax,Go.Instr.checkKey]
theorem Mt (s:Sim g st loc w) {x i:TV} {xv iv:Value} (hx:Rel g w x xv) (hi:Rel g w i iv) {es:List (Nat×TV)} {k:Nat} (h:Qu st x i=some (es,k)):
  iv= .pointer (some ⟨g.bk k,0,none⟩)/\k<st.nb/\Au st k=true/\(es.all λp=>Au st p.1)=true/\∃m b ms c,x= .map m/\m<st.nb/\st.box m= .pmap es/\b=g.bk m/\xv= .map (some b)/\w.heap[b]? =some (.map ms c)/\es.length=ms.toList.length/\∀(i k:Nat) (v:TV),es[i]? =some (k,v)->k<g.nb/\∃e:MapEntry,ms.toList[i]? =some e/\e.key=Value.pointer (some ⟨g.bk k,0,none⟩)/\Rel g w v e.val:=by
 unfold Qu at h;split at h
 ·rename_i es' k' hes hk
  split at h
  ·rename_i hc
   simp at h;obtain⟨rfl,rfl⟩:=h;simp only[Bool.and_eq_true]at hc;have hkey:∃off,i= .box k' off/\off=0:=by
    unfold pkey at hk;grind [Nat.eq_of_beq_eq_true]
   obtain⟨off,rfl,rfl⟩:=hkey;cases hi with
   | box _ _ hlt=>
    refine⟨rfl,by grind [Sim.nb],hc.1,hc.2,?_⟩;unfold Qr at hes;split at hes
    ·rename_i m
     split at hes
     ·rename_i es2 hb
      cases hx with
      | map _ hlt2=>
       have hlt':m<st.nb:=by grind [Sim.nb]
       have ob:=s.obj (.box m) hlt';simp[BO,hb,Ak.at]at ob;obtain⟨ms,c,h1,h2,h3⟩:=ob;grind
     simp_all
    simp_all
  ·cases h
 ·cases h
theorem Xz (s:Sim g st loc w) {t:TypeId} {x i:TV} {xv iv:Value} (hx:Rel g w x xv) (hi:Rel g w i iv) {ok:Bool} {v:SV} (h:(SB P st t x i ok).Is v):
  ∃u,(Instr.lookup t xv iv ok).run P w= .ok u w/\Cd g w loc v u:=by
 unfold SB at h;have fin:∀{e:TypeId} {z:TV} {zv:Value},(zeroValue e).run P w= .ok zv w->Rel g w z zv->∀(o:Option TV) (ov:Value),(match o with | some v=>Rel g w v ov | none=>ov=zv)->Cd g w loc (.t (okT ok z o)) (if ok=true then .tuple #[ov,.bool o.isSome]else ov):=by
  intro e z zv hzv hzr o ov ho;have h1:Rel g w (AD z o) ov:=by
   cases o with
   | none=>simp only at ho;rw[ho];exact hzr
   | some v=>exact ho
  cases ok with
  | false=>exact h1
  | true=>exact Rel.tuple _ [ov,.bool o.isSome] rfl (AP.cons h1 (AP.cons (Rel.bool _) (AP.nil _ _))).2
 split at h
 ·rename_i kt e ht
  split at h
  ·rename_i hkt
   split at h
   ·rename_i k z hz
    obtain⟨es,hes,rfl⟩:=h;obtain⟨zv,hzv,hzr⟩:=R9 (P:=P) (g:=g) (w:=w) hz;cases hi;have fin:=fin hzv hzr;show ∃u,(Instr.lookup t xv (.string ⟨k.toArray⟩) ok).run P w= .ok u w/\Cd g w loc (.t (okT ok z (AG k es))) u;rcases VG s hx hes with⟨rfl,rfl⟩ | ⟨b,ms,c,rfl,hb,hl,hm⟩
    ·refine⟨_,?_,fin none zv rfl⟩
     simp_all[Ax,FH,Go.Instr.findKey,Go.Instr.findNow,Go.Instr.lookup]
    ·rcases LZ (P:=P) hkt (k:=k) hl hm with⟨h1,h2⟩ | ⟨v,i,e',h1,h2,h3,h4,h5,_⟩
     ·rw[h1]
      refine⟨_,?_,fin none zv rfl⟩;simp_all[Ax,FH,Go.getObj,Go.Sem.run,Go.Instr.lookup]
     ·rw[h1]
      refine⟨_,?_,fin (some v) e'.val h5⟩;simp_all[Ax,FH,Go.getObj,Go.Sem.run,Go.Instr.lookup]
   ·exact h.elim
  ·rename_i pe hkt
   split at h
   ·rename_i n z hn hz
    obtain⟨y,hy,rfl⟩:=h;unfold plook at hy;obtain⟨⟨es,k⟩,hp,rfl⟩:=Option.map_eq_some_iff.1 hy;obtain⟨rfl,hk1,hk2,hc,m,b,ms,c,_,_,_,_,rfl,hb,hl,hm⟩:=Mt s hx hi hp;obtain⟨zv,hzv,hzr⟩:=R9 (P:=P) (g:=g) (w:=w) hz;have fin:=fin hzv hzr;have hg:(getObj b).run P w= .ok (.map ms c) w:=by simp[getObj,Sem.run,hb]
    have hp0:P.cellsOf pe≠0:=by omega
    rcases IA (P:=P) s hkt hp0 hk1 hk2 hl hm hc with⟨h1,h2⟩ | ⟨v,i,e',h1,h2,h3,h4,h5,_⟩
    ·refine⟨_,?_,by rw[h1];exact fin none zv rfl⟩
     simp_all[Ax,EB,Go.Instr.lookup]
    ·refine⟨_,?_,by rw[h1];exact fin (some v) e'.val h5⟩
     simp_all[Ax,EB,Go.Instr.lookup]
   ·exact h.elim
  ·exact h.elim
 ·exact h.elim
theorem Ve {x:TV} {xv:Value} (hx:Rel g w x xv) {v:SV} (h:(Cl.opt (Xi x)).Is v) (ts:Array TypeId) (ty:TypeId):∃u,(Builtin.unsafeSliceData_ ts ty #[xv]).run P w= .ok u w/\Cd g w loc v u:=by
 obtain⟨y,h,rfl⟩:=h;unfold Xi at h;split at h
 ·simp at h;subst h
  cases hx;exact⟨_,Lib.run_unsafeSliceData_nil w ts ty 0 0,Rel.nilPtr⟩
 ·rename_i sz tip n xs
  split at h
  ·cases h
  ·simp at h
   subst h;have hn:n≠0:=λh0=>by simp_all
   cases hx with
   | listE _ _ a _=>omega
   | list _ _ _ _ b o cap us hl hnc hc hr ht=>
    have hcap:cap≠0:=by omega
    exact⟨_,Lib.run_unsafeSliceData_row w ts ty _ n cap hcap,Rel.sptr _ _ n cap hcap (Rel.list sz tip n xs b o cap us hl hnc hc hr ht)⟩
 ·cases h
def VU:Op->Bool
 | .buildSlice _ _ _=>true
 | .build _ _=>true
 | _=>false
theorem Jv (s:Sim g st loc w) {ρ:Operand->SV} {ρc:Operand->Value} (o:Oper) (hbsl:VU o.op=false) (hρ:∀x,x∈o.op.operands->Cd g w loc (ρ x) (ρc x)) {v:SV} (h:(Cu P st loc ρ o.op).Is v):
  Gives P (execOp ρc o) w g loc v:=by
 obtain⟨dst,op,type,pos,after,guard⟩:=o;simp only at hρ h hbsl;unfold Cu at h;split at h
 ·--move
  simp[Cl.Is]at h;subst h;exact⟨_,rfl,hρ _ (by simp[Op.operands])⟩
 ·simp[Cl.Is]at h;subst h
  exact⟨_,rfl,hρ _ (by simp[Op.operands])⟩
 ·--pick
  rename_i c a b;have hc:=hρ c (by simp[Op.operands]);have ha:=hρ a (by simp[Op.operands]);have hb:=hρ b (by simp[Op.operands]);split at h
  ·rename_i hcv
   simp[Cl.Is]at h;subst h;have:=hc.tv;rw[hcv]at this;have hcc:ρc c= .bool true:=by generalize ρc c=q at this;cases this;rfl
   exact⟨_,by simp[execOp,hcc,asBool],ha⟩
  ·rename_i hcv
   simp[Cl.Is]at h;subst h;have:=hc.tv;rw[hcv]at this;have hcc:ρc c= .bool false:=by generalize ρc c=q at this;cases this;rfl
   exact⟨_,by simp[execOp,hcc,asBool],hb⟩
  ·exact h.elim
 ·--load
  rename_i t a;exact Da (QK s (hρ a (by simp[Op.operands])) h)
 ·--nilCheck
  rename_i x;have hx:=hρ x (by simp[Op.operands]);split at h
  ·rename_i i off he
   simp[Cl.Is]at h;subst h;rw[he]at hx;obtain⟨hl,hxc⟩:=hx;exact⟨_,by simp_all[Go.execOp],⟨hl,rfl⟩⟩
  ·rename_i u he
   obtain⟨h1,rfl⟩:=h;rw[he]at hx;have hx':=hx;cases u<;>simp[isPtr,Bool.false_eq_true]at h1
   ·generalize hq:ρc x=q at hx'
    cases hx' with
    | box _ _ hb=>exact⟨_,by simp_all[Go.execOp],Rel.box _ _ hb⟩
   ·generalize hq:ρc x=q at hx'
    cases hx' with
    | rptr _ b o us hc hr=>exact⟨_,by simp_all[Go.execOp],Rel.rptr _ b o us hc hr⟩
 ·--binOp
  rename_i op t x y yt;have hx:=hρ x (by simp[Op.operands]);have hy:=(hρ y (by simp[Op.operands])).tv;split at h
  ·rename_i i off he
   rw[he]at hx;obtain⟨hl,hxc⟩:=hx;split at h
   ·rename_i e eq hyv hu heq
    simp[Cl.Is]at h;subst h;rw[hyv]at hy;have hyc:ρc y= .pointer none:=by generalize ρc y=q at hy;cases hy;rfl
    apply Da;simp[hxc,hyc];have hg:(eqGuard op t x y (.pointer (some ⟨g.lam i,off,none⟩)) (.pointer none)).run P w= .ok () w:=by grind [OV]
    simp[Sem.run_bind,hg,Result.andThen_ok];cases op<;>simp[FE,Option.some.injEq,reduceCtorEq]at heq
    ·subst heq;exact⟨_,(JF t e _ hu).1,Rel.bool _⟩
    ·subst heq;exact⟨_,(JF t e _ hu).2,Rel.bool _⟩
   ·exact h.elim
  ·rename_i a he
   rw[he]at hx;exact Da (binT_run op t a _ _ _ hx hy v x y h)
 ·--not
  rename_i t x;have hx:=(hρ x (by simp[Op.operands])).tv;split at h
  ·rename_i b hb
   simp[Cl.Is]at h;subst h;rw[hb]at hx;have hxc:ρc x= .bool b:=by generalize ρc x=q at hx;cases hx;rfl
   exact Da ⟨_,by rw[hxc];rfl,Rel.bool _⟩
  ·exact h.elim
 ·--neg
  rename_i t x;have hx:=(hρ x (by simp[Op.operands])).tv;split at h
  ·rename_i k n hb
   simp only[Cl.Is]at h;subst h;rw[hb]at hx;have hxc:ρc x= .int k n:=by generalize ρc x=q at hx;cases hx;rfl
   exact Da ⟨_,by rw[hxc];rfl,Rel.int _ _⟩
  ·exact h.elim
 ·--convert
  rename_i sr d x;exact Da (X8 s (hρ x (by simp[Op.operands])).tv h)
 ·--makeFunc
  rename_i f first cap
  split at h
  ·rename_i hsz
   simp[Cl.Is]at h;subst h;have hf:=Array.eq_empty_of_size_eq_zero hsz;subst hf;refine Da ⟨.func (.func f) #[] (cap.toList.map ρc).toArray,?_,?_⟩
   ·simp only[Instr.makeFunc];show Result.ok (Value.func (.func f) (#[].map ρc) (cap.map ρc)) w=_;rw[show cap.map ρc=(cap.toList.map ρc).toArray from Array.ext' (by simp)];simp
   ·refine Rel.func f _ _ (by simp) (λi hi=>?_)
    grind [Cd.tv,Go.Op.operands]
  ·exact h.elim
 ·--slice
  rename_i t x lo hi mx;exact Da (U1 (hρ x (by simp[Op.operands])).tv (Xm lo λy hy=>hρ y (by simp[Op.operands,hy])) (Xm hi λy hy=>hρ y (by simp[Op.operands,hy])) (Xm mx λy hy=>hρ y (by simp[Op.operands,hy])) h)
 ·--fieldAddr
  rename_i t x f;have hx:=hρ x (by simp[Op.operands]);split at h
  ·rename_i fd hfd
   split at h
   ·exact h.elim
   ·rename_i hz
    split at h
    ·rename_i i off he
     simp[Cl.Is]at h;subst h;rw[he]at hx;obtain⟨hl,hxc⟩:=hx;exact Da ⟨_,by grind [IB],⟨hl,rfl⟩⟩
    ·rename_i u he
     obtain⟨h1,rfl⟩:=h;rw[he]at hx;have hx':=hx;generalize hq:ρc x=q at hx';cases u<;>simp[isPtr,Bool.false_eq_true]at h1
     ·cases hx' with
      | box _ _ hb=>exact Da ⟨_,by grind [IB],Rel.box _ _ hb⟩
     ·cases hx' with
      | rptr xs b o us hc hr=>exact Da ⟨_,by grind [IB],Sr hc hr _⟩
  ·exact h.elim
 ·--field
  rename_i t x f;have hx:=(hρ x (by simp[Op.operands])).tv;split at h
  ·rename_i fd xs hfd hxs
   obtain⟨y,hy,rfl⟩:=h;rw[hxs]at hx;generalize hq:ρc x=q at hx;cases hx with
   | agg _ vs hl hr=>
    obtain⟨u,hu,hrel⟩:=Xp (P:=P) (w:=w) ⟨hl,hr⟩ hy;obtain⟨fs,hus,hf⟩:=NE hfd;refine Da ⟨u,?_,hrel⟩;simp_all[Ax,Go.Instr.field,Go.asAgg]
  ·exact h.elim
 ·--indexAddr
  rename_i t x i;have hx:=hρ x (by simp[Op.operands]);have hi:=(hρ i (by simp[Op.operands])).tv;split at h
  ·rename_i kl off he
   rw[he]at hx;obtain⟨hl,hxc⟩:=hx;split at h
   ·rename_i m e k n hel hn
    split at h
    ·rename_i sz hsz
     obtain⟨⟨h0,h1⟩,rfl⟩:=h;rw[hn]at hi;have hic:ρc i= .int k n:=by generalize ρc i=q at hi;cases hi;rfl
     have hu:P.underlying t=some (.array m e):=by
      grind [arrOf]
     exact Da ⟨_,by grind [TS],⟨hl,rfl⟩⟩
    ·exact h.elim
   ·exact h.elim
  ·rename_i u he
   rw[he]at hx;have hx':=hx;split at h
   ·rename_i e k n hel hn
    split at h
    ·rename_i sz hsz
     obtain⟨⟨h0,h1⟩,rfl⟩:=h;rw[hn]at hi;have hic:ρc i= .int k n:=by generalize ρc i=q at hi;cases hi;rfl
     have hu:P.underlying t=some (.slice e):=by
      grind [DK]
     refine Da ?_;rw[hic];exact Pp hx' hu hsz h0 h1
    ·exact h.elim
   ·exact h.elim
 ·--index
  rename_i t x i;have hx:=(hρ x (by simp[Op.operands])).tv;have hi:=(hρ i (by simp[Op.operands])).tv;split at h
  ·rename_i sl k n hu hsl hn
   obtain⟨⟨h0,h1⟩,rfl⟩:=h;rw[hn]at hi;rw[hsl]at hx;have hic:ρc i= .int k n:=by generalize ρc i=q at hi;cases hi;rfl
   have hxc:ρc x= .string ⟨sl.toArray⟩:=by generalize ρc x=q at hx;cases hx;rfl
   refine Da ⟨_,?_,Rel.int _ _⟩;grind [VX]
  ·exact h.elim
 ·--extract
  rename_i x i;have hx:=(hρ x (by simp[Op.operands])).tv;split at h
  ·rename_i xs hxs
   obtain⟨y,hy,rfl⟩:=h;rw[hxs]at hx;generalize hq:ρc x=q at hx;cases hx with
   | tuple _ vs hl hr=>
    obtain⟨u,hu,hrel⟩:=AP.get? ⟨hl,hr⟩ hy;refine Da ⟨u,?_,hrel⟩;simp_all[Go.Instr.extract]
  ·exact h.elim
 ·--len
  rename_i args ts;split at h
  ·rename_i x t hx ht
   have hx':=(hρ x (by grind [Go.Op.operands,Go.Call.operands])).tv;obtain⟨u,hu,hrel⟩:=Aat hx' h ts ht type;refine⟨u,?_,hrel⟩;have h1:(Builtin.len_ ts type (args.map ρc)).run P w=(Builtin.len_ ts type #[ρc x]).run P w:=by
    simp[Builtin.len_,ht,hx]
   simp[execOp,resolve,invoke,Go.builtin,h1,hu]
  ·exact h.elim
 ·--sliceData
  rename_i args ts;split at h
  ·rename_i x hx
   have ha:args= #[x]:=by grind
   subst ha;have hx':=(hρ x (by simp[Op.operands,Call.operands])).tv;obtain⟨u,hu,hrel⟩:=Ve (P:=P) (loc:=loc) hx' h ts type;refine⟨u,?_,hrel⟩;simp[execOp,resolve,invoke,Go.builtin,hu]
  ·exact h.elim
 ·--lookup
  rename_i t x i ok;exact Da (Xz s (hρ x (by simp[Op.operands])).tv (hρ i (by simp[Op.operands])).tv h)
 ·--buildSlice
  grind [VU]
 ·--build
  grind [VU]
 ·--min
  rename_i args ts;split at h
  ·rename_i x y hxy
   have ha:args= #[x,y]:=by grind
   subst ha;have hx':=(hρ x (by simp[Op.operands,Call.operands])).tv;have hy':=(hρ y (by simp[Op.operands,Call.operands])).tv;obtain⟨u,hu,hrel⟩:=Sz (P:=P) (loc:=loc) hx' hy' h ts type;refine⟨u,?_,hrel⟩;simp_all[Go.execOp,Go.resolve,Go.invoke,Go.builtin]
  ·exact h.elim
 ·--max
  rename_i args ts;split at h
  ·rename_i x y hxy
   have ha:args= #[x,y]:=by grind
   subst ha;have hx':=(hρ x (by simp[Op.operands,Call.operands])).tv;have hy':=(hρ y (by simp[Op.operands,Call.operands])).tv;obtain⟨u,hu,hrel⟩:=Sz (P:=P) (loc:=loc) hx' hy' h ts type;refine⟨u,?_,hrel⟩;simp_all[Go.execOp,Go.resolve,Go.invoke,Go.builtin]
  ·exact h.elim
 ·exact h.elim
end
end Go.TVF
end
section
namespace Go.TVF
open Go.IntKind(i64 u8)
open Go.RowKit (Below)
theorem RV {α:Type}:∀(xs l:List α) (off:Nat),(setAll l off xs).length=l.length
 :=by intro a0;induction a0<;>simp_all[setAll]
section
variable {P:Program} {g:Ak} {st:St} {loc:List (Option (List TV))} {w:World}
theorem Lc {t:TypeId} {l:List TV} (h:GN P t=some l) (w:World):∃z,(zeroValue t).run P w= .ok z w/\l=z.cells.toList.map Nj:=by
 unfold GN at h;split at h
 ·split at h
  all_goals simp_all[Go.zeroValue,Go.typeInfo]
 ·cases h
theorem Xq {x:TV} {v:Value} (h:Rel g w x v) (h1:Av x=true):v.oneCell'=true:=by
 cases h<;>first | rfl | grind [Av]
theorem JJ {x:TV} {v:Value} (h:Rel g w x v) {l:List TV} (hl:HE x=some l):AP g w l v.cells.toList:=by
 cases h<;>simp[HE,Option.some.injEq,reduceCtorEq]at hl<;>subst hl
 all_goals first
  | (rename_i xs vs hlen hr;exact⟨hlen,hr⟩)
  | skip
 all_goals refine .cons ?_ (.nil _ _)
 ·exact .int _ _
 ·exact .bool _
 ·exact .str _
 ·exact .nilPtr
 ·exact .nilSlice
 ·exact .nilMap
 ·exact .nilFunc
 ·exact .nilIface
 ·exact .list _ _ _ _ _ _ _ _ ‹_› ‹_› ‹_› ‹_› ‹_›
 ·exact .listE _ _ _ ‹_›
 ·exact .ms _ _ _ _ _ ‹_› ‹_›
 ·exact .box _ _ ‹_›
 ·exact .rptr _ _ _ _ ‹_› ‹_›
 ·exact .func _ _ _ ‹_› ‹_›
 ·exact .iface _ _ _ ‹_›
 ·exact .map _ ‹_›
 ·exact .sptr _ _ _ _ ‹_› ‹_›
theorem AP.setAll {xs ys:List TV} {vs us:List Value} (h:AP g w xs vs) (k:AP g w ys us) (off:Nat):AP g w (TVF.setAll xs off ys) (TVF.setAll vs off us):=by
 induction ys generalizing xs vs us off with
 | nil=>cases us with
  | nil=>exact h
  | cons u us=>have:=k.1;simp_all
 | cons y ys ih=>cases us with
  | nil=>have:=k.1;simp_all
  | cons u us=>
   have hy:=k.2 0 (by simp);have hys:AP g w ys us:=⟨by have:=k.1;simp_all,λi hi=>k.2 (i+1) (by simp_all)⟩;exact ih (h.set hy off) hys (off+1)
def OU (place:Nat->Option (Nat×Nat)):List TV->List (Nat×TV)->Option (List TV)
 | cells,[]=>some cells
 | cells,(i,v)::rest=>
  match place i,HE v with
  | some (off,size),some cs=>match (cs.length.beq size).and ((off+size).ble cells.length)with
   | true=>OU place (setAll cells off cs) rest
   | false=>none
  | _,_=>none
theorem MG {v:TV} (h:Av v=true):HE v=some [v]:=by cases v<;>simp_all[Av,HE]
theorem Yf {b:Bool} {v:TV} {l:List TV} (h1:(!b).or (Av v)=true) (h:Yg b v=some l):HE v=some l:=by
 cases b<;>grind [Yg,MG]
theorem Ou (place:Nat->Option (Nat×Nat)) (scal:Nat->Bool):∀(parts:List (Nat×TV)) (cells out:List TV),ON scal parts=true->ND place scal cells parts=some out->OU place cells parts=some out
 :=by intro a0;induction a0<;>grind [ON,ND,OU,Yf]
theorem Aax (vs:List Value):∀(k off:Nat) (cs:Array Value),((vs.zipIdx k).foldl (λcs p=>cs.setIfInBounds (off+p.2) p.1) cs).toList=setAll cs.toList (off+k) vs:=by
 induction vs<;>simp_all[setAll,Nat.add_assoc]
def PRel (g:Ak) (w:World):List (Nat×TV)->List (Nat×Value)->Prop
 | [],[]=>True
 | (i,x)::xs,(j,v)::vs=>i=j/\Rel g w x v/\PRel g w xs vs
 | _,_=>False
theorem JE (place:Nat->Option (Nat×Nat)):∀(parts:List (Nat×TV)) (vparts:List (Nat×Value)) (cells:List TV) (vs:Array Value) (out:List TV),PRel g w parts vparts->AP g w cells vs.toList->
  OU place cells parts=some out->∃us,Instr.fill place vs vparts=some us/\AP g w out us.toList
 | [],[],cells,vs,out,_,hr,h=>by simp[OU,Option.some.injEq]at h;subst h;exact⟨vs,rfl,hr⟩
 | [],_::_,cells,vs,out,hp,hr,h=>hp.elim
 | _::_,[],cells,vs,out,hp,hr,h=>by exact(by exact hp.elim)
 | (i,x)::parts,(j,v)::vparts,cells,vs,out,hp,hr,h=>by
  obtain⟨rfl,hx,hp'⟩:=hp;simp[OU]at h;split at h
  ·rename_i off size cs hpl hcs
   split at h
   ·rename_i hchk
    simp only[Bool.and_eq_true]at hchk;obtain⟨h1,h2⟩:=hchk;have e1:=Nat.eq_of_beq_eq_true h1;have e2:=Nat.le_of_ble_eq_true h2;have hc:=JJ hx hcs;have hsz:v.cells.size=size:=by have:=hc.1;simp at this;omega
    have hvs:cells.length=vs.size:=by simpa using hr.1
    simp only[Instr.fill,hpl];rw[if_neg (by simp;omega)];refine JE place parts vparts _ _ out hp' ?_ h;have:=Aax v.cells.toList 0 off vs;have e3:(v.cells.zipIdx.foldl (λcs x=>match x with | (c,j)=>cs.setIfInBounds (off+j) c) vs).toList=setAll vs.toList off v.cells.toList:=by
     rw[<-Array.foldl_toList];simpa using this
    rw[e3];exact hr.setAll hc off
   ·cases h
  ·cases h
theorem St.put_put (st:St) (b:Nat) (x y:JQ):(st.put b x).put b y=st.put b y:=by
 simp_all[St.put]
theorem St.put_self (st:St) (b:Nat) (x:JQ) (h:st.box b=x):st.put b x=st:=by
 simp[St.put];congr 1;grind
theorem Rl {xs:List TV} {vs:List Value} (h:AP g w xs vs) (h1:xs.all Av=true):∀v∈vs,v.oneCell'=true:=by
 intro v hv;obtain⟨i,hi,rfl⟩:=List.getElem_of_mem hv;have hx:=h.1▸hi;have:=h.2 i hx;grind [Xq,List.getElem_mem]
theorem GT:∀(xs:List TV) (vs:List Value) (st:St) (l:List TV) (w:World) (b o:Nat),Sim g st loc w->b<st.nb->st.box b= .cells l->o+xs.length<=l.length->AP g w xs vs->
  Sim g (st.put b (.cells (setAll l o xs))) loc (w.setCells (g.bk b) o vs)/\Ext g w g (w.setCells (g.bk b) o vs)
 | [],[],st,l,w,b,o,s,hb,hl,ho,hr=>by
  grind [setAll,St.put_self,Ext.refl,Go.World.setCells]
 | [],_::_,st,l,w,b,o,s,hb,hl,ho,hr=>by have:=hr.1;simp_all
 | _::_,[],st,l,w,b,o,s,hb,hl,ho,hr=>by have:=hr.1;simp_all
 | x::xs,v::vs,st,l,w,b,o,s,hb,hl,ho,hr=>by
  have hx:=hr.2 0 (by simp);have hxs:AP g w xs vs:=⟨by have:=hr.1;simpa using this,λi hi=>hr.2 (i+1) (by simpa using hi)⟩;simp at ho;obtain⟨s1,e1⟩:=s.storeBox (o:=o) hb hl (by omega) hx;have:=GT xs vs (st.put b (.cells (l.set o x))) (l.set o x) (w.setCell ⟨g.bk b,o,none⟩ v) b (o+1) s1 hb (by simp[St.put]) (by simp;omega) (hxs.ext e1);rw[St.put_put]at this;exact⟨this.1,e1.trans this.2⟩
theorem Jq:∀(xs:List TV) (vs:List Value) (loc:List (Option (List TV))) (l:List TV) (w:World) (i o:Nat),Sim g st loc w->loc[i]? =some (some l)->o+xs.length<=l.length->AP g w xs vs->
  Sim g st (loc.set i (some (setAll l o xs))) (w.setCells (g.lam i) o vs)/\Ext g w g (w.setCells (g.lam i) o vs)
 | [],[],loc,l,w,i,o,s,hl,ho,hr=>by
  grind [setAll,Ext.refl,Go.World.setCells,List.set_getElem_self]
 | [],_::_,loc,l,w,i,o,s,hl,ho,hr=>by have:=hr.1;simp_all
 | _::_,[],loc,l,w,i,o,s,hl,ho,hr=>by have:=hr.1;simp_all
 | x::xs,v::vs,loc,l,w,i,o,s,hl,ho,hr=>by
  have hx:=hr.2 0 (by simp);have hxs:AP g w xs vs:=⟨by have:=hr.1;simpa using this,λi hi=>hr.2 (i+1) (by simpa using hi)⟩;simp at ho;obtain⟨hi,hli⟩:=List.getElem?_eq_some_iff.1 hl;obtain⟨s1,e1⟩:=s.storeLoc (o:=o) hl (by omega) hx;have:=Jq xs vs (loc.set i (some (l.set o x))) (l.set o x) (w.setCell ⟨g.lam i,o,none⟩ v) i (o+1) s1 (by rw[List.getElem?_set_self hi]) (by simp;omega) (hxs.ext e1);rw[List.set_set]at this;exact⟨this.1,e1.trans this.2⟩
theorem Nf {k:Key} (s:Sim g st loc w) (d:Dom st loc k) {l:List TV} (hl:BO st loc k= .cells l) {o:Nat} {xs:List TV} {vs:List Value} (ho:o+xs.length<=l.length) (hr:AP g w xs vs) (h1:xs.all Av=true):
  (storeCells ⟨g.at k,o,none⟩ vs).run P w= .ok () (w.setCells (g.at k) o vs):=by
 have ob:=s.obj k d;rw[hl]at ob;obtain⟨cs,hc,hrc⟩:=ob;have hlen:=hrc.1.symm;have hvl:=hr.1.symm;have:=run_storeCells_cells (P:=P) (g.at k) o vs 0 w (λj hj=>by
   have:o+0+j<cs.length:=by omega
   rw[hc.get (List.getElem?_eq_getElem this)];rfl) (λj hj=>hc.unfrozen (by omega)) (Rl hr h1)
 omega
def stK (st:St) (loc:List (Option (List TV))) (p:SV) (xs:List TV) (k:List (Option (List TV))->St->Prop):Prop:=
 match p with
 | .loc i off=>match loc[i]? with
  | some (some l)=>need ((off+xs.length).ble l.length) (k (loc.set i (some (setAll l off xs))) st)
  | _=>False
 | .t (.box b off)=>∃l,st.box b= .cells l/\off+xs.length<=l.length/\k loc (st.put b (.cells (setAll l off xs)))
 | _=>False
theorem UX {t:TypeId} {d:TypeDesc} (hd:P.underlying t=some d) (s:Sim g st loc w) {p:SV} {pv:Value} (hp:Cd g w loc p pv) {x:TV} {v:Value} (hx:Rel g w x v) {xs:List TV} (hxs:HE x=some xs)
  (hlen:xs.length=P.cellsOf t) (h1:xs.all Av=true) {k:List (Option (List TV))->St->Prop} (h:stK st loc p xs k):
  ∃w' loc' st',(Instr.storeAt t pv v).run P w= .ok () w'/\k loc' st'/\Sim g st' loc' w'/\Ext g w g w'/\(∀(i:Nat) (y:List TV),loc[i]? =some (some y)->∃z,loc'[i]? =some (some z)):=by
 have hcs:=JJ hx hxs;have hsz:¬(v.cells.size≠P.cellsOf t):=by have:=hcs.1;simp_all
 unfold stK at h;split at h
 ·rename_i i off
  obtain⟨⟨l,hl⟩,rfl⟩:=hp;rw[hl]at h;simp only[Al]at h;obtain⟨hle,hk⟩:=h;have hle':=Nat.le_of_ble_eq_true hle;obtain⟨s',e'⟩:=Jq xs v.cells.toList loc l w i off s hl hle' hcs;refine⟨_,_,_,?_,hk,s',e',λj y hj=>?_⟩
  ·have:=Nf (P:=P) (k:= .loc i) s ⟨l,hl⟩ (by grind [BO]) hle' hcs h1
   simp_all[KE,Ak.at,Go.Instr.storeAt,Go.Instr.sureAddr,Go.storeVar]
  grind
 ·rename_i b off
  cases hp with
  | box _ _ hb=>
   obtain⟨l,hl,hle,hk⟩:=h;have hb':=s.nb▸hb;obtain⟨s',e'⟩:=GT xs v.cells.toList st l w b off s hb' hl hle hcs;refine⟨_,_,_,?_,hk,s',e',λj y hj=>⟨y,hj⟩⟩;have:=Nf (P:=P) (k:= .box b) s hb' (by grind [BO]) hle hcs h1;simp_all[KE,Ak.at,Go.Instr.storeAt,Go.Instr.sureAddr,Go.storeVar]
 simp_all
def Ce (g:Ak) (loc:List (Option (List TV))) (g':Ak) (loc':List (Option (List TV))):Prop:=
 ∀(i:Nat) (x:List TV),loc[i]? =some (some x)->g'.lam i=g.lam i/\∃y,loc'[i]? =some (some y)
theorem Ce.refl (g:Ak) (loc:List (Option (List TV))):Ce g loc g loc:=λi x h=>⟨rfl,x,h⟩
theorem Cd.keep {g g':Ak} {w w':World} {loc loc':List (Option (List TV))} (e:Ext g w g' w') (k:Ce g loc g' loc') {v:SV} {u:Value} (h:Cd g w loc v u):Cd g' w' loc' v u:=by
 cases v with
 | t v=>exact Rel.ext e h
 | loc i off=>
  obtain⟨⟨l,hl⟩,rfl⟩:=h;obtain⟨h1,h2⟩:=k i l hl;exact⟨h2,by rw[h1]⟩
def GL (g:Ak) (w:World) (loc:List (Option (List TV))) (K:SV->List (Option (List TV))->St->Prop) (v:Value) (w':World):Prop:=
 ∃sv loc' st' g',K sv loc' st'/\Sim g' st' loc' w'/\Cd g' w' loc' sv v/\Ext g w g' w'/\Ce g loc g' loc'
def Es (T:Nat) (ix:Option Nat) (cells:List TV) (loc:List (Option (List TV))) (st:St) (K:SV->List (Option (List TV))->St->Prop):Prop:=
 match ix with
 | some k=>match loc[k]? with
  | some none=>K (.loc k 0) (loc.set k (some cells)) st
  | _=>False
 | none=>K (.t (.box st.nb 0)) loc (st.push (.cells cells) (some T))
theorem Ih (s:Sim g st loc w) {ix:Option Nat} {cells:List TV} {vs:Array Value} (T:TypeId) (hr:AP g w cells vs.toList) {K:SV->List (Option (List TV))->St->Prop} (h:Es T ix cells loc st K):
  GL g w loc K (.pointer (some ⟨w.heap.size,0,none⟩)) (w.alloc (.cells vs T)):=by
 obtain⟨s1,e1,fr⟩:=s.alloc (.cells vs T);have hb:w.heap.size<(w.alloc (.cells vs T)).heap.size:=by simp
 have ho:G4 g (w.alloc (.cells vs T)) w.heap.size (.cells cells):=⟨vs.toList,by simpa using BX.alloc w vs.toList T,hr.ext e1⟩;cases ix with
 | some k=>
  simp[Es]at h;split at h
  ·rename_i hk
   obtain⟨hlt,hkv⟩:=List.getElem?_eq_some_iff.1 hk;obtain⟨s2,e2⟩:=s1.putLoc (loc':=loc.set k (some cells)) (n:=k) fr hb ho (List.getElem?_set_self hlt) (λj hj x=>by grind);refine⟨_,_,_,_,h,s2,⟨⟨cells,List.getElem?_set_self hlt⟩,by simp[Ak.pushLoc]⟩,e1.trans e2,λi x hi=>⟨?_,x,?_⟩⟩
   all_goals grind [Ak.pushLoc]
  simp_all
 | none=>
  obtain⟨s2,e2,hbk⟩:=s1.push fr hb ho (T:=some T) (λt ht=>by cases ht;exact⟨vs,(0,0),CL _ _⟩);refine⟨_,_,_,_,h,s2,?_,e1.trans e2,λi x hi=>⟨rfl,x,hi⟩⟩;show Rel _ _ (.box st.nb 0) _;have hlt:st.nb<(g.push w.heap.size).nb:=by grind [Ak.push,Sim.nb]
  have:=Rel.box (g:=g.push w.heap.size) (w:=w.alloc (.cells vs T)) st.nb 0 hlt;simp_all
theorem KZ (w:World) (c:Array Value) (t:TypeId) (fz:Nat×Nat) (i:Nat):(w.alloc (.cells c t fz)).cell? ⟨w.heap.size,i,none⟩=c[i]? :=by
 grind [CL,Go.World.cell?]
theorem Os (w:World) (c:Array Value) (t:TypeId) (fz:Nat×Nat) (i:Nat) (h:¬(fz.1<=i/\i<fz.2)):(w.alloc (.cells c t fz)).frozen? ⟨w.heap.size,i,none⟩=false:=by
 grind [CL,Go.World.frozen?]
theorem OL (s:Sim g st loc w) {cells:List TV} {vs:Array Value} (T:TypeId) (fz:Nat×Nat) (hr:AP g w cells (vs.toList.take cells.length)) (hle:cells.length<=vs.size):
  ∃g',Sim g' st loc (w.alloc (.cells vs T fz))/\Ext g w g' (w.alloc (.cells vs T fz))/\g'.lam=g.lam/\g'.sp=g.sp/\g'.nt=g.nt/\g'.base=g.base/\g'.prot=g.prot/\
   (∀k,Dom st loc k->g'.at k≠w.heap.size)/\(∀id l h,g.sp id≠some (w.heap.size,l,h))/\(¬g.prot w.heap.size)/\
   (∀a,g'.S a->a.block=w.heap.size->a.off<cells.length)/\
   (∀i,i<cells.length->g'.S ⟨w.heap.size,0+i,none⟩/\(w.alloc (.cells vs T fz)).cell? ⟨w.heap.size,0+i,none⟩=some (vs.getD i Go.undef))/\
   (∀i (h:i<cells.length),Rel g' (w.alloc (.cells vs T fz)) cells[i] (vs.getD i Go.undef)):=by
 obtain⟨s1,e1,fr⟩:=s.alloc (.cells vs T fz);have hc:∀i,i<cells.length->(w.alloc (.cells vs T fz)).cell? ⟨w.heap.size,i,none⟩=some (vs.getD i Go.undef):=by
  intro i hi;rw[KZ];have:i<vs.size:=by omega
  simp[this]
 obtain⟨s2,e2⟩:=s1.settle (λa=>a.block=w.heap.size/\a.off<cells.length/\a.spot=none) (λa ha=>by
  obtain⟨h1,h2,h3⟩:=ha;refine⟨h3,⟨vs.getD a.off Go.undef,?_⟩,λk d=>?_,λid l h hh=>?_⟩
  ·cases a;simp_all
  ·rw[h1];exact fr.2.1 k d
  ·rw[h1]at hh;exact absurd hh (fr.2.2.2.1 id l h)) (λa ha=>by rw[ha.1];exact fr.2.2.2.2)
 refine⟨_,s2,e1.trans e2,rfl,rfl,rfl,rfl,rfl,fr.2.1,fr.2.2.2.1,fr.2.2.2.2,λa ha hb=>?_,λi hi=>⟨.inr ⟨rfl,by simp_all,rfl⟩,by simp_all⟩,λi hi=>?_⟩
 ·rcases ha with ha | ha
  ·exact absurd hb (fr.2.2.1 a ha)
  omega
 ·have:=hr.2 i hi
  rw[List.getD_eq_getElem?_getD,List.getElem?_take,if_pos hi]at this;have h2:=this.ext (e1.trans e2);simp_all
theorem Fm (s:Sim g st loc w) {sz n cap:Nat} {cells:List TV} {vs:Array Value} (T:TypeId) (fz:Nat×Nat) (hr:AP g w cells (vs.toList.take cells.length)) (hlen:cells.length=n*sz) (hcap:n<=cap) (hsz:vs.size=cap*sz) (hfz:∀o,o<vs.size->¬(fz.1<=o/\o<fz.2))
  {T':Option Nat} (hT':∀t,T'=some t->t=T) {K:SV->List (Option (List TV))->St->Prop} (h:K (.t (.list sz (.own st.nt) n cells)) loc (st.fresh T')):
  GL g w loc K (.slice (some ⟨w.heap.size,0,none⟩) n cap) (w.alloc (.cells vs T fz)):=by
 have hle:cells.length<=vs.size:=by simp_all[Nat.mul_le_mul_right]
 obtain⟨g1,s1,e1,hlam,hsp,hnt,hbase,hprot,hk,hns,hnp,hS,hc,hrel⟩:=OL s T fz hr hle;have hcell:∀o,n*sz<=o->o<cap*sz->(∃v,(w.alloc (.cells vs T fz)).cell? ⟨w.heap.size,o,none⟩=some v)/\(w.alloc (.cells vs T fz)).frozen? ⟨w.heap.size,o,none⟩=false:=by
  grind [KZ,Os]
 obtain⟨s2,e2,hsp2⟩:=s1.fresh w.heap.size (n*sz) (cap*sz) (.inl (by rw[hbase];exact s.fits)) (by rw[hbase];exact s.fits) (by simp) (Nat.mul_le_mul_right _ hcap) hk hcell
  (λa ha hb hh=>by grind) (by simp_all) (λi l' h' hh=>by simp_all) (T:=T') (hT:=λt ht=>by rw[hT' t ht];exact⟨vs,fz,CL _ _⟩) (hone:=λi r hr hb=>by rw[hsp]at hr;grind)
 refine⟨_,_,_,_,h,s2,?_,e1.trans e2,λi x hi=>⟨?_,x,hi⟩⟩
 ·refine Rel.list sz (.own st.nt) n cells w.heap.size 0 cap (λi=>vs.getD i Go.undef) hlen hcap (λi hi=>(e2.S _ (hc i hi).1).imp id (λ_=>(hc i hi).2)) (λi hi=>(hrel i hi).ext e2) ⟨?_,λr hr'=>?_⟩
  ·show st.nt<g1.nt+1
   grind [Sim.nt]
  grind
 ·show g1.lam i=g.lam i
  rw[hlam]
theorem XP (s:Sim g st loc w) {sz n:Nat} {cells:List TV} {vs:Array Value} (T:TypeId) (hr:AP g w cells vs.toList) (hlen:cells.length=n*sz)
  {K:SV->List (Option (List TV))->St->Prop} (h:K (.t (.list sz .full n cells)) loc st):
  GL g w loc K (.slice (some ⟨w.heap.size,0,none⟩) n n) (w.alloc (.cells vs T)):=by
 have hvs:vs.size=cells.length:=by have:=hr.1;simp_all
 obtain⟨g1,s1,e1,hlam,hsp,hnt,hbase,hprot,hk,hns,hnp,hS,hc,hrel⟩:=OL s (vs:=vs) (cells:=cells) T (0,0) (by grind [Array.length_toList]) (by omega);exact⟨_,_,_,_,h,s1,Rel.list sz .full n cells w.heap.size 0 n (λi=>vs.getD i Go.undef) hlen (Nat.le_refl _) (λi hi=>hc i hi) hrel rfl,e1,λi x hi=>⟨by rw[hlam],x,hi⟩⟩
def DW (st:St) (sz:Nat):TV->Option (Nat×List TV)
 | .nilSlice=>some (0,[])
 | .list s _ n xs=>match s.beq sz with | true=>some (n,xs) | false=>none
 | .ms s b off n _=>match s.beq sz with
  | true=>match AE st [] (.t (.box b off)) 0 (n*sz)with | some xs=>some (n,xs) | none=>none
  | false=>none
 | .str l=>match sz.beq 1 with | true=>some (l.length,AV l) | false=>none
 | _=>none
def P0 (T:Nat):Option Nat->Option Nat
 | some t=>match t.beq T with | true=>some T | false=>none
 | none=>none
theorem Ff {T t:Nat} {o:Option Nat} (h:P0 T o=some t):t=T/\o=some T:=by
 cases o<;>grind [P0,Nat.eq_of_beq_eq_true]
def Bn (T sz bytes:Nat) (v:TV) (k:Nat) (ys:List TV) (st:St) (K:TV->St->Prop):Prop:=
 match v with
 | .nilSlice=>match k with
  | 0=>K .nilSlice st
  | m+1=>need (((m+1)*bytes).ble 140737488355328) (K (.list sz (.own st.nt) (m+1) ys) (st.fresh (some T)))
 | .list s tip n xs=>match s.beq sz with
  | true=>(n+k)*bytes<=140737488355328/\match tip with
   | .full=>match k with
    | 0=>K (.list sz .full n xs) st
    | m+1=>K (.list sz (.own st.nt) (n+(m+1)) (xs++ys)) (st.fresh (some T))
   | .own id=>st.live id=true/\K (.list sz (.own st.nt) (n+k) (xs++ys)) ((st.retire id).fresh (P0 T (st.ty id)))
   | .non=>False
  | false=>False
 | _=>False
theorem JN (s:Sim g st loc w) {sz:Nat} {x:TV} {xv:Value} (hx:Rel g w x xv) {k:Nat} {ys:List TV} (h:DW st sz x=some (k,ys)):
  ∃vs:List Value,AP g w ys vs/\vs.length=k*sz/\(Builtin.lenOf xv).run P w= .ok k w/\(Builtin.firstCells sz k xv).run P w= .ok vs.toArray w/\(Builtin.firstCells sz k xv).run P w.drew= .ok vs.toArray w.drew:=by
 have hfirst:∀(b o n cap:Nat) (vs:List Value),vs.length=n*sz->(∀j v,vs[j]? =some v->w.cell? ⟨b,o+j,none⟩=some v)->
   (Builtin.firstCells sz n (.slice (some ⟨b,o,none⟩) n cap)).run P w= .ok vs.toArray w/\(Builtin.firstCells sz n (.slice (some ⟨b,o,none⟩) n cap)).run P w.drew= .ok vs.toArray w.drew:=by
  intro b o n cap vs hl hc;exact⟨run_firstCells_some w sz n _ n cap vs hl (λj v hj=>by grind [Cf]),run_firstCells_some w.drew sz n _ n cap vs hl (λj v hj=>by simp_all[Cf])⟩
 unfold DW at h;split at h
 ·obtain⟨rfl,rfl⟩:=h
  cases hx;exact⟨[],.nil _ _,by simp,rfl,by simp[Builtin.firstCells],by simp[Builtin.firstCells]⟩
 ·rename_i s' tip n xs
  split at h
  ·rename_i hs
   have hs':=Nat.eq_of_beq_eq_true hs;subst hs';simp at h;obtain⟨rfl,rfl⟩:=h;cases hx with
   | listE _ _ a ht=>
    have h1:=λw:World=>run_firstCells_some (P:=P) w s' 0 a 0 0 [] (by simp) (λj v hj=>by simp at hj);exact⟨[],.nil _ _,by simp,rfl,h1 w,h1 w.drew⟩
   | list _ _ _ _ b o cap us hl hn hc hr ht=>
    have hvs:((List.range xs.length).map us).length=n*s':=by simp[hl]
    have hf:=hfirst b o n cap ((List.range xs.length).map us) hvs (λj v hj=>by
     grind)
    refine⟨_,⟨by simp,λi hi=>?_⟩,hvs,rfl,hf.1,hf.2⟩;grind
  ·cases h
 ·rename_i s' b off n cap
  split at h
  ·split at h
   ·rename_i xs hxs
    simp at h;obtain⟨rfl,rfl⟩:=h;cases hx with
    | ms _ _ _ _ _ hb hn=>
     have hp:Cd g w loc (.t (.box b off)) (.pointer (some ⟨g.bk b,off,none⟩)):=Rel.box b off hb;rw[Gm st [] loc]at hxs;obtain⟨vs,hl,hr,hcell⟩:=Iu s hp _ 0 _ hxs;have hf:=hfirst (g.bk b) off n cap vs hl (λj v hj=>by simp_all);exact⟨vs,hr,hl,rfl,hf.1,hf.2⟩
   ·cases h
  ·cases h
 ·rename_i l
  split at h
  ·rename_i hs
   have hs':=Nat.eq_of_beq_eq_true hs;subst hs';obtain⟨rfl,rfl⟩:=h;cases hx;have hb:∀w:World,(Builtin.firstCells 1 l.length (.string ⟨l.toArray⟩)).run P w= .ok (l.map λb=>Value.int .u8 (b.toNat:Int)).toArray w:=by
    grind [Id,Go.Builtin.firstCells,Go.Sem.run_pure]
   refine⟨l.map λb=>Value.int .u8 (b.toNat:Int),⟨by simp[AV],λi hi=>?_⟩,by simp,?_,hb w,hb w.drew⟩
   ·have hi':i<l.length:=by grind [AV]
    simp[AV,List.getElem_map,List.getD_eq_getElem?_getD,List.getElem?_map,List.getElem?_eq_getElem hi',Option.map_some,Option.getD_some];exact Rel.int _ _
   ·simp[Builtin.lenOf,FP]
  ·cases h
 ·cases h
end
end Go.TVF
end
section
namespace Go.TVF
open Go.IntKind(i64 u8)
open Go.RowKit (Below)
section
variable {P:Program} {g:Ak} {st:St} {loc:List (Option (List TV))} {w:World}
theorem CI (t u ty e:TypeId) (i:TypeInfo) (du:TypeDesc) (ht:P.underlying t=some (.slice e)) (hu:P.underlying u=some du) (hdu:(∃e',du= .slice e')∨du= .string) (hi:P.info? e=some i)
  (base:Option Addr) (n cap k:Nat) (x:Value) (vs:List Value) (hl:(Builtin.lenOf x).run P w= .ok k w) (hf:(Builtin.firstCells i.size k x).run P w= .ok vs.toArray w) (hroom:n+k<=cap):
  (Builtin.append_ #[t,u] ty #[.slice base n cap,x]).run P w=
   ((match base with | some a=>storeCells (a.add (n*i.size)) vs | none=>pure ()).run P w).andThen λ_ w'=> .ok (.slice base (n+k) cap) w':=by
 rcases hdu with⟨e',rfl⟩ | rfl<;>
 simp[Builtin.append_,List.getElem?_toArray,List.getElem?_cons_zero,List.getElem?_cons_succ,Sem.run_bind,Ax ht,Ax hu,Result.andThen_ok,sizeOf,typeInfo,run_program,hi,Sem.run_pure,hl,Bool.not_false,if_true,Bool.false_eq_true,if_false,hroom,hf]<;>
 cases base<;>simp
theorem Dv (t u ty e:TypeId) (i:TypeInfo) (z:Value) (du:TypeDesc) (ht:P.underlying t=some (.slice e)) (hu:P.underlying u=some du) (hdu:(∃e',du= .slice e')∨du= .string) (hi:P.info? e=some i) (hz0:i.zero=some z)
  (base:Option Addr) (n cap k:Nat) (x:Value) (os vs:List Value) (hl:(Builtin.lenOf x).run P w= .ok k w) (hf:(Builtin.firstCells i.size k x).run P w.drew= .ok vs.toArray w.drew)
  (hfo:(Builtin.firstCells i.size n (.slice base n cap)).run P w.drew= .ok os.toArray w.drew) (hroom:¬n+k<=cap) (hb:(n+k)*i.bytes<=140737488355328) (hb1:1<=i.bytes):
  (Builtin.append_ #[t,u] ty #[.slice base n cap,x]).run P w=
   .ok (.slice (some ⟨w.heap.size,0,none⟩) (n+k) (grownCap w (n+k) cap e)) (w.drew.alloc (.cells ((os++vs).toArray++Builtin.zeroCells z.cells (grownCap w (n+k) cap e-(n+k))) e)):=by
 have h48:=growslice_fits (need:=n+k) (old:=cap) (bytes:=i.bytes) (by omega) hb;have h48':¬(281474976710656<Builtin.nextslicecap (n+k) cap*i.bytes):=by omega
 have hb0:¬i.bytes=0:=by omega
 rcases hdu with⟨e',rfl⟩ | rfl<;>simp[Builtin.append_,Ax ht,Ax hu,sizeOf,typeInfo,zeroValue,hi,hz0,hl,hroom,h48',hb0,Question.forced,hf,hfo,newRow,grownCap]<;>
 (grind)
theorem Jx {xs:List TV} {vs:List Value} (h:AP g w xs vs) (hl:vs.length=0):xs=[]/\vs=[]:=
 ⟨List.eq_nil_of_length_eq_zero (h.1.trans hl),List.eq_nil_of_length_eq_zero hl⟩
theorem Mz {sz n cap b o:Nat} {xs:List TV} {us:Nat->Value} (hl:xs.length=n*sz)
  (hc:∀i,i<xs.length->g.S ⟨b,o+i,none⟩/\w.cell? ⟨b,o+i,none⟩=some (us i)) (hr:∀i (h:i<xs.length),Rel g w xs[i] (us i)):
  AP g w xs ((List.range xs.length).map us)/\(Builtin.firstCells sz n (.slice (some ⟨b,o,none⟩) n cap)).run P w.drew= .ok ((List.range xs.length).map us).toArray w.drew:=by
 refine⟨⟨by simp,λi hi=>?_⟩,?_⟩
 ·grind
 ·exact run_firstCells_some w.drew sz n _ n cap _ (by simp[hl]) (λj v hj=>by
   rw[Cf];rw[List.getElem?_map]at hj;obtain⟨i,hi,rfl⟩:=Option.map_eq_some_iff.1 hj;obtain⟨hlt,rfl⟩:=List.getElem?_eq_some_iff.1 hi;simp at*;simp_all)
theorem Hl (os vs:List Value) (zc:Array Value) (n k C sz:Nat) (h1:os.length=n*sz) (h2:vs.length=k*sz) (h3:zc.size=sz) (hC:n+k<=C):
  ((os++vs).toArray++Builtin.zeroCells zc (C-(n+k))).size=C*sz:=by
 simp[Array.size_append,List.size_toArray,List.length_append,size_zeroCells,h1,h2,h3];rw[<-Nat.add_mul,<-Nat.add_mul];simp_all
theorem Below.setCells {B:Nat} {a:World} {b:Nat} (hb:B<=b):∀(vs:List Value) (o:Nat) (w:World),Below B a w->Below B a (w.setCells b o vs)
 | [],_,_,h=>h
 | v::r,o,w,h=>Below.setCells hb r (o+1) _ (h.setCell hb v)
theorem F9 (b:Nat):∀(vs:List Value) (o:Nat) (w:World),(w.setCells b o vs).heap.size=w.heap.size
 :=by intro a0;induction a0<;>simp_all[Go.World.setCells]
theorem LX (b k:Nat) (h:k≠b):∀(vs:List Value) (o:Nat) (w:World),(w.setCells b o vs).heap[k]? =w.heap[k]?
 :=by intro a0;induction a0<;>simp_all[Go.World.setCells,Go.RowKit.Below.heap_setCell]
theorem Hr (b T:Nat):∀(vs:List Value) (o:Nat) (w:World),FM w b T->FM (w.setCells b o vs) b T
 | [],_,_,h=>h
 | v::r,o,w,h=>by
  obtain⟨c,fz,h⟩:=h;exact Hr b T r (o+1) _ ⟨c.setIfInBounds o v,fz,by simp[World.setCell,Array.getElem?_modify,h]⟩
theorem Uu (s:Sim g st loc w) {t u ty e:TypeId} {i:TypeInfo} {z:Value} {du:TypeDesc} (ht:P.underlying t=some (.slice e)) (hu:P.underlying u=some du) (hdu:(∃e',du= .slice e')∨du= .string)
  (hi:P.info? e=some i) (hz0:i.zero=some z) (hzs:z.cells.size=i.size) (hs1:1<=i.size) (hb1:1<=i.bytes) {v x:TV} {vv xv:Value} (hv:Rel g w v vv) (hx:Rel g w x xv)
  {k:Nat} {ys:List TV} (hsrc:DW st i.size x=some (k,ys)) (hone:ys.all Av=true) {K:SV->List (Option (List TV))->St->Prop} (h:Bn e i.size i.bytes v k ys st λr st'=>K (.t r) loc st'):
  ∃r w',(Builtin.append_ #[t,u] ty #[vv,xv]).run P w= .ok r w'/\GL g w loc K r w':=by
 obtain⟨vs,hrv,hvl,hlen,hf,hfd⟩:=JN (P:=P) s hx hsrc;have hyl:=hrv.1.trans hvl;obtain⟨sd,ed⟩:=s.drew;unfold Bn at h;split at h
 ·--nil
  cases hv;split at h
  ·--nothing
   refine⟨_,_,?_,_,_,_,_,h,s,Rel.nilSlice,Ext.refl _ _,Ce.refl _ _⟩;simp_all[CI]
  ·rename_i m
   rw[Al]at h;obtain⟨hble,hK⟩:=h;have hb:=Nat.le_of_ble_eq_true hble;have hrun:=Dv t u ty e i z du ht hu hdu hi hz0 none 0 0 (m+1) xv [] vs hlen hfd (by simp[Builtin.firstCells]) (by omega) (by simp_all) hb1;simp at hrun;refine⟨_,_,hrun,?_⟩;have hfr:=Fm (sz:=i.size) (n:=m+1) (cap:=grownCap w (m+1) 0 e) (cells:=ys) (vs:=vs.toArray++Builtin.zeroCells z.cells (grownCap w (m+1) 0 e-(m+1))) sd e (0,0)
    (by
     grind [AP.ext]) hyl (grownCap_ge _ _ _ _)
    (by have:=Hl [] vs z.cells 0 (m+1) (grownCap w (m+1) 0 e) i.size (by simp) hvl hzs (by grind [Go.grownCap_ge]);simp_all) (λo _=>by simp) (λt ht=>by simp_all) (K:=K) hK
   obtain⟨sv,l',st',g',h1,h2,h3,h4,h5⟩:=hfr;exact⟨sv,l',st',g',h1,h2,h3,ed.trans h4,h5⟩
 ·rename_i s' tip n xs
  split at h
  ·rename_i hss
   have hs':=Nat.eq_of_beq_eq_true hss;subst hs';obtain⟨hbytes,h⟩:=h;cases hv with
   | listE _ _ a htip=>
    have hfo:∀w:World,(Builtin.firstCells i.size 0 (.slice (some a) 0 0)).run P w= .ok ([]:List Value).toArray w:=λw=>run_firstCells_some (P:=P) w i.size 0 a 0 0 [] (by simp) (λj v hj=>by simp at hj);split at h
    ·split at h
     ·have hnil:=Jx hrv (by omega)
      refine⟨_,_,?_,_,_,_,_,h,s,Rel.listE i.size .full a htip,Ext.refl _ _,Ce.refl _ _⟩;simp_all[CI,Go.storeCells]
     ·rename_i m
      have hrun:=Dv t u ty e i z du ht hu hdu hi hz0 (some a) 0 0 (m+1) xv [] vs hlen hfd (hfo _) (by omega) (by omega) hb1;simp at hrun h;refine⟨_,_,hrun,?_⟩;have hfr:=Fm (sz:=i.size) (n:=(m+1)) (cap:=grownCap w (m+1) 0 e) (cells:=ys) (vs:=vs.toArray++Builtin.zeroCells z.cells (grownCap w (m+1) 0 e-(m+1))) sd e (0,0)
       (by
        grind [AP.ext]) hyl (grownCap_ge _ _ _ _)
       (by have:=Hl [] vs z.cells 0 (m+1) (grownCap w (m+1) 0 e) i.size (by simp) hvl hzs (by grind [Go.grownCap_ge]);simp_all) (λo _=>by simp) (λt ht=>by simp_all) (K:=K) h
      obtain⟨sv,l',st',g',h1,h2,h3,h4,h5⟩:=hfr;exact⟨sv,l',st',g',h1,h2,h3,ed.trans h4,h5⟩
    all_goals grind
   | list _ _ _ _ b o cap us hl hn hc hr htip=>
    obtain⟨hro,hfo⟩:=Mz (P:=P) (cap:=cap) hl hc hr;have hol:((List.range xs.length).map us).length=n*i.size:=by simp[hl]
    have hgrow:∀(g1:Ak) (st1:St) (T':Option Nat),(∀t,T'=some t->t=e)->Sim g1 st1 loc w.drew->Ext g w g1 w.drew->g1.lam=g.lam->¬n+k<=cap->K (.t (.list i.size (.own st1.nt) (n+k) (xs++ys))) loc (st1.fresh T')->
      ∃r w',(Builtin.append_ #[t,u] ty #[.slice (some ⟨b,o,none⟩) n cap,xv]).run P w= .ok r w'/\GL g w loc K r w':=by
     intro g1 st1 T' hT' s1 e1 hlam hroom hK;have hrun:=Dv t u ty e i z du ht hu hdu hi hz0 (some ⟨b,o,none⟩) n cap k xv _ vs hlen hfd hfo hroom hbytes hb1;refine⟨_,_,hrun,?_⟩;have hfr:=Fm (sz:=i.size) (n:=n+k) (cap:=grownCap w (n+k) cap e) (cells:=xs++ys) (vs:=((List.range xs.length).map us++vs).toArray++Builtin.zeroCells z.cells (grownCap w (n+k) cap e-(n+k))) s1 e (0,0)
      (by
       grind [AP.ext,AP.append]) (by grind) (grownCap_ge _ _ _ _)
      (Hl _ vs z.cells n k _ i.size hol hvl hzs (grownCap_ge _ _ _ _)) (λo _=>by simp) hT' (K:=K) hK
     obtain⟨sv,l',st',g',h1,h2,h3,h4,h5⟩:=hfr;exact⟨sv,l',st',g',h1,h2,h3,e1.trans h4,λi x hx=>by rw[<-hlam];exact h5 i x hx⟩
    split at h
    ·--full
     have hcn:cap=n:=htip;split at h
     ·have hnil:=Jx hrv (by omega)
      refine⟨_,_,?_,_,_,_,_,h,s,Rel.list i.size .full n xs b o cap us hl hn hc hr htip,Ext.refl _ _,Ce.refl _ _⟩;simp_all[CI,Go.storeCells]
     grind
    ·--own
     rename_i id;obtain⟨hlive,hK⟩:=h;have hid:=s.nt▸htip.1;have hne:=s.own id hid hlive;obtain⟨r0,hr0⟩:=Option.ne_none_iff_exists'.1 hne;have hreq:=htip.2 r0 hr0;subst hreq;simp only at hr0;by_cases hroom:n+k<=cap
     ·obtain⟨c1,c2,c3,c4,c5⟩:=s.spCell id b _ _ hr0
      have hns:n*i.size<=(n+k)*i.size:=Nat.mul_le_mul_right _ (by omega);have hks:(n+k)*i.size<=cap*i.size:=Nat.mul_le_mul_right _ hroom;have hnk:(n+k)*i.size=n*i.size+k*i.size:=Nat.add_mul _ _ _;have hst:=run_storeCells_cells (P:=P) b (o+n*i.size) vs 0 w (λj hj=>by
        obtain⟨v,hv⟩:=(c5 (o+n*i.size+j) (by omega) (by omega)).1;grind) (λj hj=>by
        grind) (Rl hrv hone)
      simp at hst;refine⟨.slice (some ⟨b,o,none⟩) (n+k) cap,w.setCells b (o+n*i.size) vs,?_,?_⟩
      ·grind [CI,Cf,Go.Result.andThen_ok]
      ·--the simulation
       have hin:∀j,j<vs.length->(w.setCells b (o+n*i.size) vs).cell? ⟨b,o+n*i.size+j,none⟩=some (vs.getD j Go.undef):=by
        intro j hj;have:=World.cell?_setCells_in b vs (o+n*i.size) w (λj hj=>by
         obtain⟨v,hv⟩:=(c5 (o+n*i.size+j) (by omega) (by omega)).1;rw[hv];rfl) j hj
        grind
       have hstep:Sim g st loc (w.setCells b (o+n*i.size) vs)/\Ext g w g (w.setCells b (o+n*i.size) vs):=by
        by_cases hk0:k=0
        ·have hnil:=Jx hrv (by simp_all)
         rw[hnil.2];exact⟨s,Ext.refl _ _⟩
        ·have:0<k*i.size:=Nat.mul_pos (by omega) hs1
         refine s.spWrite hr0 (by omega) (F9 _ _ _ _) (λk hk=>LX b k hk _ _ _) (λo' ho'=>?_) (λo' h1 h2=>?_) (λo'=>World.frozen?_setCells _ _ _ _ _) (Below.setCells c1 _ _ _ s.below) (λT=>Hr b T _ _ _)
         ·grind [Go.World.cell?_setCells_out]
         ·by_cases hlt:o'<o+n*i.size+vs.length
          ·have:=hin (o'-(o+n*i.size)) (by omega)
           simp_all
          grind [Go.World.cell?_setCells_out]
       obtain⟨s1,e1⟩:=hstep;obtain⟨s2,e2⟩:=s1.retire id;have hnprot:¬g.prot b:=λhp=>(s.protOk b hp).2.2.1 id _ _ hr0;have hspr:∀j r,(g.retire id).sp j=some r->j≠id/\g.sp j=some r:=by
        grind [Ak.retire]
       obtain⟨s3,e3⟩:=s2.settle (λa=>a.block=b/\a.spot=none/\o+n*i.size<=a.off/\a.off<o+(n+k)*i.size) (λa ha=>by
        obtain⟨h1,h2,h3,h4⟩:=ha;refine⟨h2,⟨vs.getD (a.off-(o+n*i.size)) Go.undef,?_⟩,λq d=>by rw[h1];exact c4 q d,λj l' h' hj=>?_⟩
        ·have:=hin (a.off-(o+n*i.size)) (by omega)
         rw[show o+n*i.size+(a.off-(o+n*i.size))=a.off from by omega]at this;cases a;simp_all
        ·obtain⟨hji,hj'⟩:=hspr j _ hj
         rw[h1]at hj';have:=s.spApart j id b _ _ _ _ hji hj' hr0;omega) (λa ha=>by rw[ha.1];exact hnprot)
       have hS3:∀a,((g.retire id).settle λa=>a.block=b/\a.spot=none/\o+n*i.size<=a.off/\a.off<o+(n+k)*i.size).S a->a.block=b->¬(o+(n+k)*i.size<=a.off/\a.off<o+cap*i.size):=by
        intro a ha hab hh;rcases ha with ha | ha
        ·have:=(s.sCell a ha).2.2.2 id (o+n*i.size) (o+cap*i.size) (by simp_all)
         omega
        omega
       obtain⟨s4,e4,hsp4⟩:=s3.fresh b (o+(n+k)*i.size) (o+cap*i.size) (.inl c1) c1 (by grind [F9]) (by omega) c4 (λo' h1 h2=>by
         grind [Go.World.cell?_setCells_out,Go.World.frozen?_setCells]) hS3 hnprot (λj l' h' hj=>by
         obtain⟨hji,hj'⟩:=hspr j _ hj;have:=s.spApart j id b _ _ _ _ hji hj' hr0;omega) (λj r hj=>by obtain⟨hji,hj'⟩:=hspr j _ hj;exact s.spTop id b _ _ hr0 j r hji hj') (T:=P0 e (st.ty id)) (λt ht=>by rw[(Ff ht).1];grind [Sim.spTy,Ff])
       have eall:=e1.trans (e2.trans (e3.trans e4));refine⟨_,_,_,_,hK,s4,?_,eall,λj x hj=>⟨rfl,x,hj⟩⟩;refine Rel.list i.size (.own st.nt) (n+k) (xs++ys) b o cap (λj=>if j<xs.length then us j else vs.getD (j-xs.length) Go.undef) (by grind) hroom (λj hj=>?_) (λj hj=>?_) ⟨?_,λr hr'=>?_⟩
       ·by_cases hjx:j<xs.length
        ·grind [Ext.S]
        ·rw[if_neg hjx]
         rw[List.length_append]at hj;have hjv:j-xs.length<vs.length:=by omega
         have:=hin (j-xs.length) hjv;rw[show o+n*i.size+(j-xs.length)=o+j from by omega]at this;exact⟨.inr ⟨rfl,rfl,by simp_all,by simp_all⟩,this⟩
       ·by_cases hjx:j<xs.length
        ·grind [Rel.ext]
        ·rw[if_neg hjx,List.getElem_append_right (by omega)]
         exact(hrv.2 _ (by grind)).ext eall
       ·show st.nt<g.nt+1
        grind [Sim.nt]
       grind [St.retire]
     ·obtain⟨s2,e2⟩:=sd.retire id
      exact hgrow (g.retire id) (st.retire id) _ (λt ht=>(Ff ht).1) s2 (ed.trans e2) rfl hroom hK
    simp_all
  simp_all
 simp_all
end
end Go.TVF
end
section
namespace Go.TVF
open Go.IntKind(i64 u8)
open Go Go.Proofs Go.RowKit
section
variable {P:Program} {g:Ak} {st:St} {loc:List (Option (List TV))} {w:World}
def Ia (n:Nat):List TV:=List.replicate n .junk
def Jb (T sz bytes:Nat) (v:TV) (k:Nat) (ys:List TV) (st:St) (K:TV->St->Prop):Prop:=
 match v with
 | .nilSlice=>match k with
  | 0=>K .nilSlice st
  | m+1=>need (((m+1)*bytes).ble 140737488355328) (∀cap,m+1<=cap->K (.ms sz st.nb 0 (m+1) cap) (st.push (.cells (ys++Ia ((cap-(m+1))*sz))) (some T)))
 | .list s tip n xs=>match s.beq sz with
  | true=>(n+k)*bytes<=140737488355328/\match tip with
   | .full=>match k with
    | 0=>K (.list sz .full n xs) st
    | m+1=>∀cap,n+(m+1)<=cap->K (.ms sz st.nb 0 (n+(m+1)) cap) (st.push (.cells (xs++ys++Ia ((cap-(n+(m+1)))*sz))) (some T))
   | _=>False
  | false=>False
 | .ms s b off n cap=>match s.beq sz with
  | true=>(n+k)*bytes<=140737488355328/\∃l,st.box b= .cells l/\off+cap*sz<=l.length/\
   (n+k<=cap->K (.ms sz b off (n+k) cap) (st.put b (.cells (setAll l (off+n*sz) ys))))/\
   (cap<n+k->∀cap',n+k<=cap'->K (.ms sz st.nb 0 (n+k) cap') (st.push (.cells ((l.drop off).take (n*sz)++ys++Ia ((cap'-(n+k))*sz))) (some T)))
  | false=>False
 | _=>False
theorem AaQ {T sz bytes:Nat} {v:TV} {k:Nat} {ys:List TV} {st:St} {K K':TV->St->Prop} (h:∀r st',K r st'->K' r st') (hk:Jb T sz bytes v k ys st K):Jb T sz bytes v k ys st K':=by
 cases v<;>simp[Jb]at hk⊢<;>try exact hk
 all_goals grind [Al]
theorem Aav (vs:List Value):AP g w (Ia vs.length) vs:=⟨by simp[Ia],λi hi=>by simp[Ia,List.getElem_replicate];exact .junk _⟩
theorem AaN (s:Sim g st loc w) {sz n cap r:Nat} {cells:List TV} {vs:Array Value} (T:TypeId) (hr:AP g w cells (vs.toList.take cells.length)) (hsz:vs.size=cells.length+r) (hcap:n<=cap)
  {K:SV->List (Option (List TV))->St->Prop} (h:K (.t (.ms sz st.nb 0 n cap)) loc (st.push (.cells (cells++Ia r)) (some T))):
  GL g w loc K (.slice (some ⟨w.heap.size,0,none⟩) n cap) (w.alloc (.cells vs T)):=by
 have hall:AP g w (cells++Ia r) vs.toList:=by
  have h2:vs.toList=vs.toList.take cells.length++vs.toList.drop cells.length:=(List.take_append_drop _ _).symm;rw[h2];refine hr.append ?_;have:r=(vs.toList.drop cells.length).length:=by grind
  grind [Aav]
 have hal:=Ih (ix:=none) (cells:=cells++Ia r) s T hall (K:=λsv loc' st'=>sv= .t (.box st.nb 0)/\loc'=loc/\st'=st.push (.cells (cells++Ia r)) (some T)) ⟨rfl,rfl,rfl⟩;obtain⟨sv,loc',st',g',⟨rfl,rfl,rfl⟩,k2,k3,k4,k5⟩:=hal;refine⟨_,_,_,g',h,k2,?_,k4,k5⟩;have k3':=k3;obtain⟨hb,heq⟩:=k3'.box_inv';have:=Rel.ms (g:=g') (w:=w.alloc (.cells vs T)) sz st.nb 0 n cap hb hcap;simp only[Value.pointer.injEq,Option.some.injEq,Addr.mk.injEq]at heq;rw[<-heq.1]at this;exact this
theorem Yr (s:Sim g st loc w) {t u ty e:TypeId} {i:TypeInfo} {z:Value} {du:TypeDesc} (ht:P.underlying t=some (.slice e)) (hu:P.underlying u=some du) (hdu:(∃e',du= .slice e')∨du= .string)
  (hi:P.info? e=some i) (hz0:i.zero=some z) (hzs:z.cells.size=i.size) (hs1:1<=i.size) (hb1:1<=i.bytes) {v x:TV} {vv xv:Value} (hv:Rel g w v vv) (hx:Rel g w x xv)
  {k:Nat} {ys:List TV} (hsrc:DW st i.size x=some (k,ys)) (hone:ys.all Av=true) {K:SV->List (Option (List TV))->St->Prop} (h:Jb e i.size i.bytes v k ys st λr st'=>K (.t r) loc st'):
  ∃r w',(Builtin.append_ #[t,u] ty #[vv,xv]).run P w= .ok r w'/\GL g w loc K r w':=by
 obtain⟨vs,hrv,hvl,hlen,hf,hfd⟩:=JN (P:=P) s hx hsrc;have hyl:=hrv.1.trans hvl;obtain⟨sd,ed⟩:=s.drew
 --a new row:os are the old cells
 have grow:∀(base:Option Addr) (n cap:Nat) (xs:List TV) (os:List Value),AP g w xs os->os.length=n*i.size->(Builtin.firstCells i.size n (.slice base n cap)).run P w.drew= .ok os.toArray w.drew->¬n+k<=cap->(n+k)*i.bytes<=140737488355328->
   (∀cap',n+k<=cap'->K (.t (.ms i.size st.nb 0 (n+k) cap')) loc (st.push (.cells (xs++ys++Ia ((cap'-(n+k))*i.size))) (some e)))->
   ∃r w',(Builtin.append_ #[t,u] ty #[.slice base n cap,xv]).run P w= .ok r w'/\GL g w loc K r w':=by
  intro base n cap xs os hro hol hfo hroom hby hK;have hrun:=Dv t u ty e i z du ht hu hdu hi hz0 base n cap k xv os vs hlen hfd hfo hroom hby hb1;refine⟨_,_,hrun,?_⟩;have hg:=grownCap_ge w (n+k) cap e;have hsz:=Hl os vs z.cells n k (grownCap w (n+k) cap e) i.size hol hvl hzs hg;have hcl:(xs++ys).length=(n+k)*i.size:=by rw[List.length_append,hro.1,hol,hyl,Nat.add_mul]
  have hfr:=AaN (sz:=i.size) (n:=n+k) (cap:=grownCap w (n+k) cap e) (r:=(grownCap w (n+k) cap e-(n+k))*i.size) (cells:=xs++ys) (vs:=(os++vs).toArray++Builtin.zeroCells z.cells (grownCap w (n+k) cap e-(n+k))) sd e
   (by
    have:((os++vs).toArray++Builtin.zeroCells z.cells (grownCap w (n+k) cap e-(n+k))).toList.take (xs++ys).length=os++vs:=by
     simp only[Array.toList_append];rw[show(xs++ys).length=(os++vs).length from by grind];grind
    grind [AP.ext,AP.append])
   (by rw[hsz,hcl,<-Nat.add_mul];simp_all) hg (K:=K) (hK _ hg)
  obtain⟨sv,l',st',g',h1,h2,h3,h4,h5⟩:=hfr;exact⟨sv,l',st',g',h1,h2,h3,ed.trans h4,h5⟩
 unfold Jb at h;split at h
 ·--nil
  cases hv;split at h
  ·refine⟨_,_,?_,_,_,_,_,h,s,Rel.nilSlice,Ext.refl _ _,Ce.refl _ _⟩
   simp_all[CI]
  ·rename_i m
   rw[Al]at h;obtain⟨hble,hK⟩:=h;have hb:=Nat.le_of_ble_eq_true hble;exact grow none 0 0 [] [] (.nil _ _) (by simp) (by simp[Builtin.firstCells]) (by omega) (by simp_all) (by simp_all)
 ·rename_i s' tip n xs
  split at h
  ·rename_i hss
   have hs':=Nat.eq_of_beq_eq_true hss;subst hs';obtain⟨hbytes,h⟩:=h;split at h
   ·split at h
    ·have hnil:=Jx hrv (by omega)
     cases hv with
     | listE _ _ a htip=>
      refine⟨_,_,?_,_,_,_,_,h,s,Rel.listE i.size .full a htip,Ext.refl _ _,Ce.refl _ _⟩;simp_all[CI,Go.storeCells]
     | list _ _ _ _ b o cap us hl hn hc hr htip=>
      refine⟨_,_,?_,_,_,_,_,h,s,Rel.list i.size .full n xs b o cap us hl hn hc hr htip,Ext.refl _ _,Ce.refl _ _⟩;simp_all[CI,Go.storeCells]
    ·rename_i m
     cases hv with
     | listE _ _ a htip=>
      exact grow (some a) 0 0 [] [] (.nil _ _) (by simp) (run_firstCells_some (P:=P) w.drew i.size 0 a 0 0 [] (by simp) (λj v hj=>by simp at hj)) (by omega) hbytes h
     | list _ _ _ _ b o cap us hl hn hc hr htip=>
      obtain⟨hro,hfo⟩:=Mz (P:=P) (cap:=cap) hl hc hr;have hcn:cap=n:=htip;grind
   simp_all
  simp_all
 ·rename_i s' b off n cap
  split at h
  ·rename_i hss
   have hs':=Nat.eq_of_beq_eq_true hss;subst hs';obtain⟨hbytes,l,hbox,hle,h1,h2⟩:=h;cases hv with
   | ms _ _ _ _ _ hb hn=>
    have hbst:=s.nb▸hb;have ob:=s.obj (.box b) hbst;simp[BO,hbox,Ak.at]at ob;obtain⟨cs,hc,hr⟩:=ob;have hcl:=hr.1.symm;have hnc:n*i.size<=cap*i.size:=Nat.mul_le_mul_right _ hn;by_cases hroom:n+k<=cap
    ·have hnk:(n+k)*i.size<=cap*i.size:=Nat.mul_le_mul_right _ hroom
     have hnk2:(n+k)*i.size=n*i.size+k*i.size:=Nat.add_mul _ _ _;have hst:=run_storeCells_cells (P:=P) (g.bk b) (off+n*i.size) vs 0 w (λj hj=>by
       grind [BX.get]) (λj hj=>by
       grind [BX.unfrozen]) (Rl hrv hone)
     simp at hst;obtain⟨s1,e1⟩:=GT (g:=g) (loc:=loc) ys vs st l w b (off+n*i.size) s hbst hbox (by omega) hrv;refine⟨.slice (some ⟨g.bk b,off,none⟩) (n+k) cap,w.setCells (g.bk b) (off+n*i.size) vs,?_,_,_,_,_,h1 hroom,s1,Rel.ms _ _ _ _ _ hb hroom,e1,Ce.refl _ _⟩;grind [CI,Cf,Go.Result.andThen_ok]
    ·have hro:AP g w ((l.drop off).take (n*i.size)) ((cs.drop off).take (n*i.size)):=⟨by simp[hcl],λj hj=>by
      simp at hj;have:=hr.2 (off+j) (by omega);grind⟩
     refine grow (some ⟨g.bk b,off,none⟩) n cap _ ((cs.drop off).take (n*i.size)) hro (by grind) (run_firstCells_some (P:=P) w.drew i.size n _ n cap _ (by grind) (λj v hj=>?_)) hroom hbytes (h2 (by omega));rw[Cf];rw[List.getElem?_take]at hj;split at hj
     ·rw[List.getElem?_drop]at hj
      exact hc.get hj
     ·cases hj
  simp_all
 simp_all
end
end Go.TVF
end
section
namespace Go.TVF
open Go.IntKind(i64 u8)
open Go.RowKit (Below)
def Ru (P:Program) (s:Sem Next) (w:World) (R:Value->World->Prop):Prop:=
 match s.run P w with
 | .ok (.value v) w'=>R v w'
 | .ok .skip w'=>R Go.undef w'
 | .ok (.enter f args) w'=>Calls P f args w' λe w''=>∃v,e= .returned v/\R v w''
 | _=>False
def Cs (X:Value->World->Prop) (P:Program) (s:Sem Next) (w:World) (R:Value->World->Prop):Prop:=
 match s.run P w with
 | .ok (.value v) w'=>R v w'
 | .ok .skip w'=>R Go.undef w'
 | .ok (.enter f args) w'=>Calls P f args w' λe w''=>(∃v,e= .returned v/\R v w'')∨∃v,e= .panicked [{v,recovered:=false}]/\X v w''
 | .halt (.panic v) w'=>X v w'
 | _=>False
theorem Cs.mono {X X':Value->World->Prop} {P:Program} {s:Sem Next} {w:World} {R R':Value->World->Prop} (h:Cs X P s w R) (k:∀v w',R v w'->R' v w') (kx:∀v w',X v w'->X' v w'):Cs X' P s w R':=by
 grind [Cs,Go.Calls.mono]
theorem Cs.congr {X:Value->World->Prop} {P:Program} {s s':Sem Next} {w:World} {R:Value->World->Prop} (e:s.run P w=s'.run P w) (h:Cs X P s' w R):Cs X P s w R:=by
 grind [Cs]
theorem Cs.no {X:Value->World->Prop} {P:Program} {s:Sem Next} {w:World} {R:Value->World->Prop} (h:Cs X P s w R) (hx:∀v w',¬X v w'):Ru P s w R:=by
 grind [Ru,Cs]
def NoE:TV->St->Prop:=λ_ _=>False
def Du (g:Ak) (w:World) (E:TV->St->Prop) (v:Value) (w':World):Prop:=
 ∃r st' g',E r st'/\Sim g' st' [] w'/\Rel g' w' r v/\Ext g w g' w'
theorem Du.no {g:Ak} {w:World} {v:Value} {w':World}:¬Du g w NoE v w':=λ⟨_,_,_,h,_⟩=>h
theorem Du.ext {g0 g:Ak} {w0 w:World} {E:TV->St->Prop} {v:Value} {w':World} (e:Ext g0 w0 g w) (h:Du g w E v w'):Du g0 w0 E v w':=by
 obtain⟨r,st',g',h1,h2,h3,h4⟩:=h;exact⟨r,st',g',h1,h2,h3,e.trans h4⟩
theorem Du.mono {g:Ak} {w:World} {E E':TV->St->Prop} {v:Value} {w':World} (k:∀r st',E r st'->E' r st') (h:Du g w E v w'):Du g w E' v w':=by
 obtain⟨r,st',g',h1,h2⟩:=h;exact⟨r,st',g',k _ _ h1,h2⟩
structure Cx (E:TV->St->Prop) (P:Program) (f:FuncId) (args:List TV) (st:St) (R:TV->St->Prop):Prop where
 run:∀(g:Ak) (w:World) (vargs:List Value),Sim g st [] w->AP g w args vargs->
  Cs (Du g w E) P (callFunc f vargs.toArray) w λv w'=>∃r st' g',R r st'/\Sim g' st' [] w'/\Rel g' w' r v/\Ext g w g' w'
abbrev OF (P:Program) (f:FuncId) (args:List TV) (st:St) (R:TV->St->Prop):Prop:=Cx NoE P f args st R
theorem Cx.mono {E E':TV->St->Prop} {P:Program} {f:FuncId} {args:List TV} {st:St} {R R':TV->St->Prop} (h:Cx E P f args st R) (k:∀r st',R r st'->R' r st') (kx:∀r st',E r st'->E' r st'):Cx E' P f args st R':=
 ⟨λg w vargs s hr=>(h.run g w vargs s hr).mono (λv w' ⟨r,st',g',h2,h3⟩=>⟨r,st',g',k _ _ h2,h3⟩) λv w' hx=>hx.mono kx⟩
theorem OF.mono {P:Program} {f:FuncId} {args:List TV} {st:St} {R R':TV->St->Prop} (h:OF P f args st R) (k:∀r st',R r st'->R' r st'):OF P f args st R':=
 Cx.mono h k λ_ _ h=>h
theorem Fq {P:Program} {f:FuncId} {args:List TV} {st:St} {R:TV->St->Prop} (hcall:∀(vs:Array Value) (w:World),(callFunc f vs).run P w= .ok (.enter f vs) w)
  (h:∀(g:Ak) (w:World) (vargs:List Value),Sim g st [] w->AP g w args vargs->Calls P f vargs.toArray w λe w'=>∃v,e= .returned v/\∃r st' g',R r st'/\Sim g' st' [] w'/\Rel g' w' r v/\Ext g w g' w'):OF P f args st R:=by
 refine⟨λg w vargs s hr=>?_⟩;grind [Cs,Go.Calls.mono]
theorem LP {E:TV->St->Prop} {P:Program} {f:FuncId} {args:List TV} {st:St} {R:TV->St->Prop} (hcall:∀(vs:Array Value) (w:World),(callFunc f vs).run P w= .ok (.enter f vs) w)
  (h:∀(g:Ak) (w:World) (vargs:List Value),Sim g st [] w->AP g w args vargs->Calls P f vargs.toArray w λe w'=>(∃v,e= .returned v/\∃r st' g',R r st'/\Sim g' st' [] w'/\Rel g' w' r v/\Ext g w g' w')∨∃v,e= .panicked [{v,recovered:=false}]/\Du g w E v w'):Cx E P f args st R:=by
 refine⟨λg w vargs s hr=>?_⟩;grind [Cs]
section
variable {P:Program} {g:Ak} {st:St} {loc:List (Option (List TV))} {w:World}
def Ak.guard (g:Ak) (loc:List (Option (List TV))):Ak:={g with prot:=λb=>g.prot b∨∃(i:Nat) (x:List TV),loc[i]? =some (some x)/\b=g.lam i}
theorem Sim.guard (s:Sim g st loc w):Sim (g.guard loc) st [] w:=by
 have hd:∀k,Dom st [] k->Dom st loc k/\BO st [] k=BO st loc k/\∀(i:Nat) (x:List TV),loc[i]? =some (some x)->g.at k≠g.lam i:=by
  intro k d;cases k with
  | box i=>exact⟨d,rfl,λj x hj h=>by have:=s.inj (.box i) (.loc j) d ⟨x,hj⟩ h;cases this⟩
  | loc i=>obtain⟨x,hx⟩:=d;simp at hx
 have e0:R8 g w (g.guard loc) w:=⟨Nat.le_refl _,λ_ _=>rfl,Nat.le_refl _,λ_ _=> .inl rfl,λa ha=>⟨ha,rfl⟩⟩;refine⟨s.nb,s.nt,s.below,s.fits,λk d=>?_,λk k' d d'=>s.inj k k' (hd k d).1 (hd k' d').1,λk d=>s.lo k (hd k d).1,s.own,?_,s.spApart,s.spLt,?_,?_,s.spTop,s.spTy,s.bTy,s.glob⟩
 ·rw[(hd k d).2.1];exact(s.obj k (hd k d).1).ext0 e0 rfl
 ·intro id b l h hsp
  obtain⟨c1,c2,c3,c4,c5⟩:=s.spCell id b l h hsp;exact⟨c1,c2,c3,λk d=>c4 k (hd k d).1,c5⟩
 ·intro a ha
  obtain⟨c1,c2,c3,c4⟩:=s.sCell a ha;exact⟨c1,c2,λk d=>c3 k (hd k d).1,c4⟩
 ·intro b hb
  rcases hb with hb | ⟨i,x,hx,rfl⟩
  ·obtain⟨c1,c2,c3⟩:=s.protOk b hb
   exact⟨c1,λk d=>c2 k (hd k d).1,c3⟩
  ·refine⟨(s.lo (.loc i) ⟨x,hx⟩).2,λk d=>(hd k d).2.2 i x hx,λid l h hsp=>?_,λa ha h=>?_⟩
   ·exact(s.spCell id _ l h hsp).2.2.2.1 (.loc i) ⟨x,hx⟩ rfl
   ·exact(s.sCell a ha).2.2.1 (.loc i) ⟨x,hx⟩ h.symm
theorem relGuard {x:TV} {v:Value} (h:Rel g w x v):Rel (g.guard loc) w x v:=by
 have e0:R8 g w (g.guard loc) w:=⟨Nat.le_refl _,λ_ _=>rfl,Nat.le_refl _,λ_ _=> .inl rfl,λa ha=>⟨ha,rfl⟩⟩;grind [Rel.ext0]
theorem Sim.unguard (s:Sim g st loc w) {g':Ak} {st':St} {w':World} (s':Sim g' st' [] w') (e:Ext (g.guard loc) w g' w'):
  Sim {g' with prot:=g.prot,lam:=g.lam} st' loc w'/\Ext g w {g' with prot:=g.prot,lam:=g.lam} w':=by
 have hprot:∀(i:Nat) (x:List TV),loc[i]? =some (some x)->(g.guard loc).prot (g.lam i):=λi x hx=> .inr ⟨i,x,hx,rfl⟩;have hprot':∀(i:Nat) (x:List TV),loc[i]? =some (some x)->g'.prot (g.lam i):=λi x hx=>by grind [Ext.prot]
 have e1:Ext g w {g' with prot:=g.prot,lam:=g.lam} w':=⟨e.base,e.w0,e.size,e.nb,e.bk,e.nt,e.sp,e.S,rfl,λb hb=>e.protEq b (.inl hb)⟩;have e0:R8 g' w' {g' with prot:=g.prot,lam:=g.lam} w':=⟨Nat.le_refl _,λ_ _=>rfl,Nat.le_refl _,λ_ _=> .inl rfl,λa ha=>⟨ha,rfl⟩⟩;have hne:∀i j x,i<st'.nb->loc[j]? =some (some x)->g'.bk i≠g.lam j:=λi j x hi hj h=>(s'.protOk _ (hprot' j x hj)).2.1 (.box i) hi h;refine⟨⟨s'.nb,s'.nt,s'.below,s'.fits,λk d=>?_,λk k' d d' h=>?_,λk d=>?_,s'.own,?_,s'.spApart,s'.spLt,?_,?_,s'.spTop,s'.spTy,s'.bTy,s'.glob⟩,e1⟩
 ·cases k with
  | box i=>exact(s'.obj (.box i) d).ext0 e0 rfl
  | loc i=>
   obtain⟨x,hx⟩:=d;have:=s.obj (.loc i) ⟨x,hx⟩;exact G4.ext0 e1.to0 (e.protEq _ (hprot i x hx)) this
 ·cases k with
  | box i=>cases k' with
   | box j=>exact s'.inj (.box i) (.box j) d d' h
   | loc j=>obtain⟨x,hx⟩:=d';exact absurd h (hne i j x d hx)
  | loc i=>cases k' with
   | box j=>obtain⟨x,hx⟩:=d;exact absurd h.symm (hne j i x d' hx)
   | loc j=>exact s.inj (.loc i) (.loc j) d d' h
 ·cases k with
  | box i=>exact s'.lo (.box i) d
  | loc i=>
   have h1:=s.lo (.loc i) d;refine⟨?_,Nat.lt_of_lt_of_le h1.2 e.size⟩;rw[e.base];exact h1.1
 ·intro id b l h hsp
  obtain⟨c1,c2,c3,c4,c5⟩:=s'.spCell id b l h hsp;refine⟨c1,c2,c3,λk d=>?_,c5⟩;cases k with
  | box i=>exact c4 (.box i) d
  | loc i=>
   obtain⟨x,hx⟩:=d;intro hh;have hh':g.lam i=b:=hh;grind [Sim.protOk]
 ·intro a ha
  obtain⟨c1,c2,c3,c4⟩:=s'.sCell a ha;refine⟨c1,c2,λk d=>?_,c4⟩;cases k with
  | box i=>exact c3 (.box i) d
  | loc i=>
   obtain⟨x,hx⟩:=d;intro hh;exact(s'.protOk _ (hprot' i x hx)).2.2.2 a ha hh.symm
 ·intro b hb
  have hb':g'.prot b:=by rw[e.prot];exact .inl hb
  obtain⟨c1,c2,c3⟩:=s'.protOk b hb';refine⟨c1,λk d=>?_,c3⟩;cases k with
  | box i=>exact c2 (.box i) d
  | loc i=>
   obtain⟨x,hx⟩:=d;exact(s.protOk b hb).2.1 (.loc i) ⟨x,hx⟩
theorem Yj (s:Sim g st loc w) {E:TV->St->Prop} {f:FuncId} {args:List TV} {vargs:List Value} (hr:AP g w args vargs) {R:TV->St->Prop} (h:Cx E P f args st R):
  Cs (Du g w E) P (callFunc f vargs.toArray) w (GL g w loc (λsv loc' st'=>∃r,sv= .t r/\loc'=loc/\R r st')):=by
 refine(h.run (g.guard loc) w vargs s.guard ⟨hr.1,λi hi=>relGuard (hr.2 i hi)⟩).mono ?_ (λv w' hx=>by
  obtain⟨r,st',g',hE,s',hrel,ext⟩:=hx;obtain⟨s2,e2⟩:=s.unguard s' ext;have e0:R8 g' w' {g' with prot:=g.prot,lam:=g.lam} w':=⟨Nat.le_refl _,λ_ _=>rfl,Nat.le_refl _,λ_ _=> .inl rfl,λa ha=>⟨ha,rfl⟩⟩;exact⟨r,st',_,hE,s2.dropLoc (λj x hx=>by simp at hx),hrel.ext0 e0,e2⟩)
 rintro v w' ⟨r,st',g',hR,s',hrel,ext⟩;obtain⟨s2,e2⟩:=s.unguard s' ext;refine⟨.t r,loc,st',_,⟨r,rfl,rfl,hR⟩,s2,?_,e2,λi x hi=>⟨rfl,x,hi⟩⟩;have e0:R8 g' w' {g' with prot:=g.prot,lam:=g.lam} w':=⟨Nat.le_refl _,λ_ _=>rfl,Nat.le_refl _,λ_ _=> .inl rfl,λa ha=>⟨ha,rfl⟩⟩;exact hrel.ext0 e0
end
end Go.TVF
end
section
namespace Go.TVF
open Go.IntKind(i64 u8)
open Go.RowKit (Below)
@[reducible] def FunR:List RTy->Type->Type
 | [],R=>R
 | .one c::sh,R=>c.I->FunR sh R
 | .agg cs::sh,R=>Fun cs (FunR sh R)
def L5:(cs:List CTy)->{R:Type}->List TV->Fun cs R->(R->Prop)->Prop
 | [],_,[],f,k=>k f
 | [],_,_::_,_,_=>False
 | _::_,_,[],_,_=>False
 | c::cs,_,v::vs,f,k=>CG c v λy=>L5 cs vs (f y) k
def HD:(sh:List RTy)->{R:Type}->List TV->FunR sh R->(R->Prop)->Prop
 | [],_,[],f,k=>k f
 | [],_,_::_,_,_=>False
 | _::_,_,[],_,_=>False
 | .one c::sh,_,v::vs,f,k=>CG c v λy=>HD sh vs (f y) k
 | .agg cs::sh,_,v::vs,f,k=>match v with | .agg l=>L5 cs l f λr=>HD sh vs r k | _=>False
def GI:(sh:List RTy)->{R:Type}->(List TV->R)->FunR sh R
 | [],_,F=>F []
 | .one c::sh,_,F=>λy=>GI sh λl=>F (enc c y::l)
 | .agg cs::sh,_,F=>Q9 cs λl=>GI sh λr=>F (.agg l::r)
theorem OX:∀{cs:List CTy} {R:Type} {vs:List TV} {F:List TV->R} {k:R->Prop},L5 cs vs (Q9 cs F) k->k (F vs)
 | [],_,[],F,k,h=>h
 | [],_,_::_,F,k,h=>h.elim
 | _::_,_,[],F,k,h=>h.elim
 | c::cs,_,v::vs,F,k,h=>by
  obtain⟨y,rfl,h2⟩:=E9 h;exact OX (F:=λl=>F (enc c y::l)) h2
theorem Gr:∀{sh:List RTy} {R:Type} {vs:List TV} {F:List TV->R} {k:R->Prop},HD sh vs (GI sh F) k->k (F vs)
 | [],_,[],F,k,h=>h
 | [],_,_::_,F,k,h=>h.elim
 | _::_,_,[],F,k,h=>by cases ‹RTy›<;>exact h.elim
 | .one c::sh,_,v::vs,F,k,h=>by
  obtain⟨y,rfl,h2⟩:=E9 h;exact Gr (F:=λl=>F (enc c y::l)) h2
 | .agg cs::sh,_,v::vs,F,k,h=>by
  cases v<;>simp[HD]at h;rename_i l;have:=OX (F:=λl=>GI sh λr=>F (.agg l::r)) (k:=λr=>HD sh vs r k) h;exact Gr (F:=λr=>F (.agg l::r)) this
def YN (P:Program) (t:TypeId):List RTy:=
 match P.underlying t with
 | some (.tuple ts)=>ts.toList.map (rtyOf P)
 | _=>[rtyOf P t]
def FF:(sh:List RTy)->{R:Type}->TV->FunR sh R->(R->Prop)->Prop
 | [s],_,v,f,k=>HD [s] [v] f k
 | [],_,v,f,k=>match v with | .tuple vs=>HD [] vs f k | _=>False
 | s::s'::sh,_,v,f,k=>match v with | .tuple vs=>HD (s::s'::sh) vs f k | _=>False
def V0 {R:Type} (F:TV->R):List TV->R
 | v::_=>F v
 | []=>F .junk
def Gs:(sh:List RTy)->{R:Type}->(TV->R)->FunR sh R
 | [s],_,F=>GI [s] (V0 F)
 | [],_,F=>GI [] λl=>F (.tuple l)
 | s::s'::sh,_,F=>GI (s::s'::sh) λl=>F (.tuple l)
theorem NG {sh:List RTy} {R:Type} {v:TV} {F:TV->R} {k:R->Prop} (h:FF sh v (Gs sh F) k):k (F v):=by
 match sh,h with
 | [s],h=>
  have h':HD [s] [v] (GI [s] (V0 F)) k:=h;grind [Gr,V0]
 | [],h=>
  cases v<;>simp[FF]at h<;>first | exact h.elim | skip
  exact Gr (sh:=[]) (F:=λl=>F (.tuple l)) h
 | s::s'::sh,h=>
  cases v<;>simp[FF]at h<;>first | exact h.elim | skip
  exact Gr (sh:=s::s'::sh) (F:=λl=>F (.tuple l)) h
def Bz (E:TV->St->Prop) (P:Program) (f:FuncId) (args:List TV) (sh:List RTy) (st:St) (K:FunR sh (St->Prop)):Prop:=
 Cx E P f args st λr st'=>FF sh r K λp=>p st'
def CallT (P:Program) (f:FuncId) (args:List TV) (sh:List RTy) (st:St) (K:FunR sh (St->Prop)):Prop:=
 Bz NoE P f args sh st K
theorem CallT.x {E:TV->St->Prop} {P:Program} {f:FuncId} {args:List TV} {sh:List RTy} {st:St} {K:FunR sh (St->Prop)} (h:CallT P f args sh st K):Bz E P f args sh st K:=
 Cx.mono h (λ_ _ h=>h) λ_ _ h=>h.elim
structure Cfg where
 loc:List Nat
 ms:List Nat
 pn:List Nat
 exc:TV->St->Prop:=NoE
def XH (l:List Nat):Option Nat->Bool
 | some d=>l.elem d
 | none=>false
def findIx:List Nat->Nat->Nat->Option Nat
 | [],_,_=>none
 | x::xs,d,k=>match x.beq d with | true=>some k | false=>findIx xs d (k+1)
def EG (l:List Nat):Option Nat->Option Nat
 | some d=>findIx l d 0
 | none=>none
def VT:Option TypeDesc->Bool
 | some .string=>true
 | some (.slice _)=>true
 | _=>false
def Ja (E:TV->St->Prop) (P:Program) (fv:TV) (args:List TV) (sh:List RTy) (st:St) (K:FunR sh (St->Prop)):Prop:=
 match fv with
 | .func fid caps=>Bz E P fid (args++caps) sh st K
 | _=>False
def Gk (k:B8) (v:TV):List (B8×TV)->List (B8×TV)
 | []=>[(k,v)]
 | (k',v')::es=>match decide (k=k')with | true=>(k,v)::es | false=>(k',v')::Gk k v es
def muK (m:TV) (key:B8) (v:TV) (st:St) (k:St->Prop):Prop:=
 match m with
 | .map b=>∃es,st.box b= .map es/\k (st.put b (.map (Gk key v es)))
 | _=>False
def GS (k:Nat) (v:TV):List (Nat×TV)->List (Nat×TV)
 | []=>[(k,v)]
 | (k',v')::es=>match Nat.beq k k' with | true=>(k,v)::es | false=>(k',v')::GS k v es
def JG (k:Nat):List (Nat×TV)->List (Nat×TV)
 | []=>[]
 | (k',v')::es=>match Nat.beq k k' with | true=>es | false=>(k',v')::JG k es
def KI:TV->Nat | .map b=>b | _=>0
def puK (m key v:TV) (st:St) (k:St->Prop):Prop:=AS (Qu st m key) λp=>k (st.put (KI m) (.pmap (GS p.2 v p.1)))
def pdK (m key:TV) (st:St) (k:St->Prop):Prop:=AS (Qu st m key) λp=>k (st.put (KI m) (.pmap (JG p.2 p.1)))
def unsK (u n:Nat) (v:TV) (st:St) (k:TV->Prop):Prop:=
 match v with
 | .box b off=>(off=0/\st.bt b=some u/\∃l,st.box b= .cells l/\l.length=n)/\k (.box b off)
 | _=>False
def usK (u:Nat) (p:TV) (m:Int) (st:St) (k:B8->St->Prop):Prop:=
 match p with
 | .nilPtr=>m=0/\k [] st
 | .sptr (.list 1 (.own id) n xs)=>(m=n/\n<=9223372036854775807/\st.live id=true/\st.ty id=some u)/\AS (G1 xs) λl=>k l (st.retire id)
 | _=>False
def eop (cfg:Cfg) (P:Program) (dst:Option Nat) (type:TypeId) (op:Op) (ρ:Operand->SV) (loc:List (Option (List TV))) (st:St) (K:SV->List (Option (List TV))->St->Prop):Prop:=
 match op with
 | .alloc t=>match GN P t with
  | some cells=>Es t (EG cfg.loc dst) cells loc st K
  | none=>False
 | .box t x=>match MJ P t with
  | some true=>match (ρ x).tv with
   | .agg cells=>Es t (EG cfg.loc dst) cells loc st K
   | _=>False
  | some false=>need (Av (ρ x).tv) (Es t (EG cfg.loc dst) [(ρ x).tv] loc st K)
  | none=>False
 | .buildSlice t len parts=>match DK P t with
  | some e=>match Fs P e,GN P e with
   | some sz,some z=>need (((len*sz).ble 16777216).and ((z.length.beq sz).and (Nat.ble 1 sz))) (match ND (λi=>some (i*sz,sz)) (λ_=>Nc P e) (ML z (len*sz)) (parts.toList.map λp=>(p.1,(ρ p.2).tv))with
    | some cells=>need (ON (λ_=>Nc P e) (parts.toList.map λp=>(p.1,(ρ p.2).tv))) (K (.t (.list sz .full len cells)) loc st)
    | none=>False)
   | _,_=>False
  | none=>False
 | .build t parts=>match GN P t,P.underlying t with
  | some z,some (.struct fs)=>match ND (TD P fs) (YP P fs) z (parts.toList.map λp=>(p.1,(ρ p.2).tv))with
   | some cells=>need (fs.toList.all λf=>(Fs P f.type).isSome) (need (ON (YP P fs) (parts.toList.map λp=>(p.1,(ρ p.2).tv))) (K (.t (.agg cells)) loc st))
   | none=>False
  | some z,some (.array _ e)=>match Fs P e with
   | some sz=>match ND (λi=>some (i*sz,sz)) (λ_=>Nc P e) z (parts.toList.map λp=>(p.1,(ρ p.2).tv))with
    | some cells=>need (ON (λ_=>Nc P e) (parts.toList.map λp=>(p.1,(ρ p.2).tv))) (K (.t (.agg cells)) loc st)
    | none=>False
   | none=>False
  | _,_=>False
 | .store t a x=>match MJ P t with
  | some true=>match (ρ x).tv with
   | .agg xs=>need (xs.length.beq (P.cellsOf t)) (need (xs.all Av) (stK st loc (ρ a) xs λloc' st'=>K (.t .undef) loc' st'))
   | _=>False
  | some false=>need (Nat.beq 1 (P.cellsOf t)) (need ([(ρ x).tv].all Av) (stK st loc (ρ a) [(ρ x).tv] λloc' st'=>K (.t .undef) loc' st'))
  | none=>False
 | .call {callee:= .value f,args,.. }=>Ja cfg.exc P (ρ f).tv (args.toList.map λx=>(ρ x).tv) (YN P type) st (Gs (YN P type) λv st'=>K (.t v) loc st')
 | .makeMap t r=>match P.underlying t,(r.map λx=>(ρ x).tv)with
  | some (.map kt _),none=>match P.underlying kt with
   | some (.pointer _)=>K (.t (.map st.nb)) loc (st.push (.pmap []) none)
   | _=>K (.t (.map st.nb)) loc (st.push (.map []) none)
  | some (.map _ _),some (.int _ _)=>K (.t (.map st.nb)) loc (st.push (.map []) none)
  | _,_=>False
 | .mapUpdate t m k v=>match P.underlying t with
  | some (.map kt _)=>match P.underlying kt with
   | some .string=>match (ρ k).tv with
    | .str key=>need (Av (ρ v).tv) (muK (ρ m).tv key (ρ v).tv st λst'=>K (.t .undef) loc st')
    | _=>False
   | some (.pointer pe)=>match P.cellsOf pe with
    | _+1=>need (Av (ρ v).tv) (puK (ρ m).tv (ρ k).tv (ρ v).tv st λst'=>K (.t .undef) loc st')
    | 0=>False
   | _=>False
  | _=>False
 | .call {callee:= .builtin .delete,args,argTypes}=>match args.toList,argTypes.toList with
  | [m,k],[t,_]=>match P.underlying t with
   | some (.map kt _)=>match P.underlying kt with
    | some (.pointer pe)=>match P.cellsOf pe with
     | _+1=>pdK (ρ m).tv (ρ k).tv st λst'=>K (.t (.tuple [])) loc st'
     | 0=>False
    | _=>False
   | _=>False
  | _,_=>False
 | .call {callee:= .builtin .unsafeString,args,argTypes}=>match args.toList,argTypes.toList with
  | [p,n],[pt,_]=>match P.underlying pt with
   | some (.pointer u)=>match decide (P.cellsOf u=1),(ρ n).tv with
    | true,.int .i64 m=>usK u (ρ p).tv m st λl st'=>K (.t (.str l)) loc st'
    | _,_=>False
   | _=>False
  | _,_=>False
 | .call {callee:= .builtin .append,args,argTypes}=>match args.toList,argTypes.toList with
  | [a,x],[t,u]=>match DK P t with
   | some e=>match P.info? e,GN P e with
    | some i,some z=>need ((VT (P.underlying u)).and ((z.length.beq i.size).and ((Nat.ble 1 i.size).and (Nat.ble 1 i.bytes))))
     (AS (DW st i.size (ρ x).tv) λp=>need (p.2.all Av) (match XH cfg.ms dst with
      | true=>Jb e i.size i.bytes (ρ a).tv p.1 p.2 st λr st'=>K (.t r) loc st'
      | false=>Bn e i.size i.bytes (ρ a).tv p.1 p.2 st λr st'=>K (.t r) loc st'))
    | _,_=>False
   | none=>False
  | _,_=>False
 | .convert s d x=>match P.underlying s,DK P d,(ρ x).tv with
  | some .string,some e,.str l=>match P.underlying e with
   | some (.int .u8)=>K (.t (.list 1 (.own st.nt) l.length (AV l))) loc (st.fresh (some e))
   | _=>False
  | some .unsafePointer,none,v=>match P.underlying d with
   | some (.pointer u)=>match P.cellsOf u with
    | 0=>False
    | n+1=>unsK u (n+1) v st λr=>K (.t r) loc st
   | _=>False
  | _,_,_=>False
 | .makeSlice t l c=>match DK P t,(ρ l).tv,(ρ c).tv with
  | some e,.int _ n,.int _ m=>match P.info? e,GN P e with
   | some i,some z=>need ((z.length.beq i.size).and ((Nat.ble 1 i.size).and (Nat.ble 1 i.bytes))) ((0<=n/\n<=m/\m.toNat*i.bytes<=140737488355328)/\match XH cfg.ms dst with
    | true=>K (.t (.ms i.size st.nb 0 n.toNat m.toNat)) loc (st.push (.cells (ML z (m.toNat*i.size))) (some e))
    | false=>K (.t (.list i.size (.own st.nt) n.toNat (ML z (n.toNat*i.size)))) loc (st.fresh (some e)))
   | _,_=>False
  | _,_,_=>False
 | .makeInterface t x=>match P.underlying t with
  | some (.interface _)=>False
  | some _=>K (.t (.iface t (ρ x).tv)) loc st
  | none=>False
 | .panic x=>match (ρ x).tv with
  | .iface t v=>cfg.exc (.iface t v) st
  | _=>False
 | _=>False
end Go.TVF
end
