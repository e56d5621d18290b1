/- What the laws below rest on: a framework for Go programs, and contracts of the functions that they reach. -/
import Derived.Shelf.Strings.Repeat
import Derived.Shelf.Small.Strs
import Derived.Shelf.Strings.Trim
import Derived.Test.YtbbjecpcjdmfgaaDoorProg
import Derived.Below
import Derived.Shelf.Unicode.DecodeSlow
import Derived.Tactics
import Derived.Lib.UnsafeStr
import Derived.Laws.Cells
import Derived.Laws.Entries
import Derived.Laws.Strings
import Derived.Laws.StructEq
import Derived.Laws.Small
import Derived.Laws.Pointers
import Derived.Laws.Cover3
import Derived.Laws.BytesArg
import Derived.Laws.Strings2
import Derived.Laws.AppendOwn
import Derived.Laws.IdiomCopy
set_option maxRecDepth 20000
set_option linter.unusedVariables false
set_option linter.unusedSimpArgs false
namespace Go.TVF
abbrev B8:=List UInt8
end Go.TVF
section
namespace Go.Proofs
open Go.Shelf
def Tryd.lays162_ren:Go.Shelf.Ren:=⟨fun | 162=>67 | 232=>73 | 227=>74 | 234=>75 | 236=>76 | 228=>84 | 271=>85 | 151=>86 | 120=>88 | 197=>89 | 152=>90 | 260=>92 | 137=>93 | 119=>94 | 224=>95 | 225=>96 | 217=>97 | 266=>98 | n=>n,fun | 9=>9 | 4=>4 | 3=>3 | 5=>5 | 117=>121 | 116=>120 | 0=>0 | 124=>124 | 21=>21 | 105=>133 | 46=>117 | 119=>113 | 139=>116 | 138=>115 | n=>n,fun | 3=>0 | 4=>1 | n=>n⟩
theorem Tryd.lays162:Go.Proofs.Lays.n162 Tryd.prog Tryd.lays162_ren:={
 mixed:=by kernel_rfl
 f119:=Tryd.func94.trans (congrArg some (by kernel_rfl))
 f120:=Tryd.func88.trans (congrArg some (by kernel_rfl))
 f137:=Tryd.func93.trans (congrArg some (by kernel_rfl))
 f151:=Tryd.func86.trans (congrArg some (by kernel_rfl))
 f152:=Tryd.func90.trans (congrArg some (by kernel_rfl))
 f162:=Tryd.func67.trans (congrArg some (by kernel_rfl))
 f197:=Tryd.func89.trans (congrArg some (by kernel_rfl))
 f217:=Tryd.func97.trans (congrArg some (by kernel_rfl))
 f224:=Tryd.func95.trans (congrArg some (by kernel_rfl))
 f225:=Tryd.func96.trans (congrArg some (by kernel_rfl))
 f227:=Tryd.func74.trans (congrArg some (by kernel_rfl))
 f228:=Tryd.func84.trans (congrArg some (by kernel_rfl))
 f232:=Tryd.func73.trans (congrArg some (by kernel_rfl))
 f234:=Tryd.func75.trans (congrArg some (by kernel_rfl))
 f236:=Tryd.func76.trans (congrArg some (by kernel_rfl))
 f260:=Tryd.func92.trans (congrArg some (by kernel_rfl))
 f266:=Tryd.func98.trans (congrArg some (by kernel_rfl))
 f271:=Tryd.func85.trans (congrArg some (by kernel_rfl))
 t0:=Tryd.underlying0
 a0:=Tryd.isAgg0
 z0:=Tryd.sizeOf0
 v0:=Tryd.zeroValue0
 t3:=Tryd.underlying3
 a3:=Tryd.isAgg3
 z3:=Tryd.sizeOf3
 v3:=Tryd.zeroValue3
 t4:=Tryd.underlying4
 a4:=Tryd.isAgg4
 z4:=Tryd.sizeOf4
 v4:=Tryd.zeroValue4
 t5:=Tryd.underlying5
 a5:=Tryd.isAgg5
 z5:=Tryd.sizeOf5
 v5:=Tryd.zeroValue5
 t9:=Tryd.underlying9
 a9:=Tryd.isAgg9
 z9:=Tryd.sizeOf9
 v9:=Tryd.zeroValue9
 t21:=Tryd.underlying21
 a21:=Tryd.isAgg21
 z21:=Tryd.sizeOf21
 v21:=Tryd.zeroValue21
 t46:=Tryd.underlying117
 a46:=Tryd.isAgg117
 z46:=Tryd.sizeOf117
 v46:=Tryd.zeroValue117
 t105:=Tryd.underlying133
 a105:=Tryd.isAgg133
 z105:=Tryd.sizeOf133
 v105:=Tryd.zeroValue133
 t116:=Tryd.underlying120
 a116:=Tryd.isAgg120
 z116:=Tryd.sizeOf120
 t117:=Tryd.underlying121
 a117:=Tryd.isAgg121
 z117:=Tryd.sizeOf121
 v117:=Tryd.zeroValue121
 t119:=Tryd.underlying113
 a119:=Tryd.isAgg113
 z119:=Tryd.sizeOf113
 t124:=Tryd.underlying124
 a124:=Tryd.isAgg124
 z124:=Tryd.sizeOf124
 v124:=Tryd.zeroValue124
 t138:=Tryd.underlying115
 a138:=Tryd.isAgg115
 z138:=Tryd.sizeOf115
 v138:=Tryd.zeroValue115
 t139:=Tryd.underlying116
 a139:=Tryd.isAgg116
 z139:=Tryd.sizeOf116
 v139:=Tryd.zeroValue116
 g3:=by kernel_rfl
 g4:=by kernel_rfl}
open Go.RowKit in
theorem Tryd.strings_TrimRight_one (s:ByteArray) (c:UInt8) (hc:c.toNat<128) (w:World) (hs:s.size<=9223372036854775807):
  Calls Tryd.prog 67 #[.string s,.string ⟨#[c]⟩] w fun e w'=>e= .returned (.string ⟨(Lib.trimRightB s.data.toList c).toArray⟩)/\w'=w:=Any.strings_TrimRight_one Tryd.lays162 s c hc w hs
def Tryd.lays106_ren:Go.Shelf.Ren:=⟨fun | 106=>59 | 213=>70 | 265=>82 | n=>n,fun | 9=>9 | 3=>3 | n=>n,fun | n=>n⟩
theorem Tryd.lays106:Go.Proofs.Lays.n106 Tryd.prog Tryd.lays106_ren:={
 mixed:=by kernel_rfl
 f106:=Tryd.func59.trans (congrArg some (by kernel_rfl))
 f213:=Tryd.func70.trans (congrArg some (by kernel_rfl))
 f265:=Tryd.func82.trans (congrArg some (by kernel_rfl))
 t3:=Tryd.underlying3
 a3:=Tryd.isAgg3
 z3:=Tryd.sizeOf3
 v3:=Tryd.zeroValue3
 t9:=Tryd.underlying9
 a9:=Tryd.isAgg9
 z9:=Tryd.sizeOf9
 v9:=Tryd.zeroValue9}
open Go.RowKit in
theorem Tryd.strings_Compare (a b:ByteArray) (w:World):
  Calls Tryd.prog 59 #[.string a,.string b] w fun e w'=>e= .returned (.int .i64 (Lib.compareBytes a.data.toList b.data.toList))/\w'=w:=Any.strings_Compare Tryd.lays106 a b w
end Go.Proofs
end
section
namespace Go.TVF
open Go.IntKind(i64 u8)
def N7 (w:Go.World):Prop:=Lib.Utf8Tabs 0 1 w
end Go.TVF
end
section
namespace Go.TVF
open Go.IntKind(i64 u8)
open Go.RowKit (Below)
inductive Tip where
 | non
 | full
 | own (id:Nat)
inductive TV where
 | undef
 | junk
 | int (k:IntKind) (n:Int)
 | bool (b:Bool)
 | str (l:B8)
 | nilPtr
 | nilSlice
 | nilMap
 | nilFunc
 | nilIface
 | list (sz:Nat) (tip:Tip) (n:Nat) (xs:List TV)
 | ms (sz b off n cap:Nat)
 | box (b off:Nat)
 | rptr (xs:List TV)
 | agg (xs:List TV)
 | tuple (xs:List TV)
 | func (f:Nat) (cap:List TV)
 | iface (t:Nat) (v:TV)
 | map (b:Nat)
 | sptr (v:TV)
inductive HU where
 | dead
 | cells (l:List TV)
 | iter (s:B8) (pos:Nat)
 | map (es:List (B8×TV))
 | pmap (es:List (Nat×TV))
structure St where
 nb:Nat
 box:Nat->HU
 nt:Nat
 live:Nat->Bool
 ty:Nat->Option Nat
 bt:Nat->Option Nat
inductive SV where
 | t (v:TV)
 | loc (i off:Nat)
structure AP where
 n:Nat
 f:Nat->SV
def AP.set (s:AP) (d:Nat) (v:SV):AP:=⟨s.n,fun i=>match i.beq d with | true=>(match (Nat.succ d).ble s.n with | true=>v | false=>s.f i) | false=>s.f i⟩
theorem AP.set_n (s:AP) (d:Nat) (v:SV):(s.set d v).n=s.n:=rfl
theorem Ey {i d:Nat} (h:i≠d):i.beq d=false:=by
 cases hb:i.beq d with
 | false=>rfl
 | true=>exact absurd (Nat.eq_of_beq_eq_true hb) h
theorem AP.set_ne {s:AP} {d i:Nat} {v:SV} (h:i≠d):(s.set d v).f i=s.f i:=by
 simp only[AP.set,Ey h]
theorem AP.set_eq {s:AP} {d:Nat} {v:SV} (h:d<s.n):(s.set d v).f d=v:=by
 have:(Nat.succ d).ble s.n=true:=Nat.ble_eq_true_of_le h
 have hb:d.beq d=true:=Nat.beq_refl d
 simp only[AP.set,hb,this]
theorem AP.set_out {s:AP} {d:Nat} {v:SV} (h:¬d<s.n):s.set d v=s:=by
 obtain⟨n,f⟩:=s
 simp only[AP.set,AP.mk.injEq,true_and]
 funext i
 have:(Nat.succ d).ble n=false:=by
  cases hb:(Nat.succ d).ble n with
  | false=>rfl
  | true=>exact absurd (Nat.le_of_ble_eq_true hb) h
 rw[this]
 cases i.beq d<;>rfl
theorem AP.set_self {s:AP} {d:Nat} {v:SV} (h:s.f d=v):s.set d v=s:=by
 obtain⟨n,f⟩:=s
 simp only[AP.set,AP.mk.injEq,true_and]
 funext i
 cases hb:i.beq d with
 | false=>rfl
 | true=>
  have:=Nat.eq_of_beq_eq_true hb
  subst this
  simp only at h⊢
  cases (Nat.succ i).ble n with
  | false=>rfl
  | true=>exact h.symm
theorem AP.set_comm {s:AP} {d e:Nat} (v u:SV) (h:d≠e):(s.set d v).set e u=(s.set e u).set d v:=by
 simp only[AP.set,AP.mk.injEq,true_and]
 funext i
 cases hd:i.beq d with
 | false=>rfl
 | true=>
  have:=Nat.eq_of_beq_eq_true hd
  subst this
  rw[Ey h]
structure Fr where
 slots:AP
 loc:List (Option (List TV))
structure Ghost where
 base:Nat
 w0:World
 nb:Nat
 bk:Nat->Nat
 lam:Nat->Nat
 nt:Nat
 sp:Nat->Option (Nat×Nat×Nat)
 S:Addr->Prop
 prot:Nat->Prop
def MY (g:Ghost):Tip->Addr->(n cap sz:Nat)->Prop
 | .non,_,_,_,_=>True
 | .full,_,n,cap,_=>cap=n
 | .own id,a,n,cap,sz=>id<g.nt/\∀r,g.sp id=some r->r=(a.block,a.off+n*sz,a.off+cap*sz)
inductive Rel (g:Ghost) (w:World):TV->Value->Prop
 | undef:Rel g w .undef Go.undef
 | junk (v:Value):Rel g w .junk v
 | int (k:IntKind) (n:Int):Rel g w (.int k n) (.int k n)
 | bool (b:Bool):Rel g w (.bool b) (.bool b)
 | str (l:B8):Rel g w (.str l) (.string ⟨l.toArray⟩)
 | nilPtr:Rel g w .nilPtr (.pointer none)
 | nilSlice:Rel g w .nilSlice (.slice none 0 0)
 | nilMap:Rel g w .nilMap (.map none)
 | nilFunc:Rel g w .nilFunc .nilFunc
 | nilIface:Rel g w .nilIface .nilIface
 | list (sz:Nat) (tip:Tip) (n:Nat) (xs:List TV) (b o cap:Nat) (us:Nat->Value) (hl:xs.length=n*sz) (hn:n<=cap)
   (hc:∀i,i<xs.length->g.S ⟨b,o+i,none⟩/\w.cell? ⟨b,o+i,none⟩=some (us i))
   (hr:∀i (h:i<xs.length),Rel g w xs[i] (us i)) (ht:MY g tip ⟨b,o,none⟩ n cap sz):Rel g w (.list sz tip n xs) (.slice (some ⟨b,o,none⟩) n cap)
 | listE (sz:Nat) (tip:Tip) (a:Addr) (ht:∀id,tip≠.own id):Rel g w (.list sz tip 0 []) (.slice (some a) 0 0)
 | ms (sz b off n cap:Nat) (h:b<g.nb) (hn:n<=cap):Rel g w (.ms sz b off n cap) (.slice (some ⟨g.bk b,off,none⟩) n cap)
 | box (b off:Nat) (h:b<g.nb):Rel g w (.box b off) (.pointer (some ⟨g.bk b,off,none⟩))
 | rptr (xs:List TV) (b o:Nat) (us:Nat->Value)
   (hc:∀i,i<xs.length->g.S ⟨b,o+i,none⟩/\w.cell? ⟨b,o+i,none⟩=some (us i))
   (hr:∀i (h:i<xs.length),Rel g w xs[i] (us i)):Rel g w (.rptr xs) (.pointer (some ⟨b,o,none⟩))
 | agg (xs:List TV) (vs:List Value) (hl:xs.length=vs.length) (hr:∀i (h:i<xs.length),Rel g w xs[i] (vs.getD i Go.undef)):Rel g w (.agg xs) (.agg vs.toArray)
 | tuple (xs:List TV) (vs:List Value) (hl:xs.length=vs.length) (hr:∀i (h:i<xs.length),Rel g w xs[i] (vs.getD i Go.undef)):Rel g w (.tuple xs) (.tuple vs.toArray)
 | func (f:Nat) (xs:List TV) (vs:List Value) (hl:xs.length=vs.length) (hr:∀i (h:i<xs.length),Rel g w xs[i] (vs.getD i Go.undef)):Rel g w (.func f xs) (.func (.func f) #[] vs.toArray)
 | iface (t:Nat) (v:TV) (u:Value) (h:Rel g w v u):Rel g w (.iface t v) (.iface t u)
 | map (b:Nat) (h:b<g.nb):Rel g w (.map b) (.map (some (g.bk b)))
 | sptr (v:TV) (a:Addr) (n cap:Nat) (hc:cap≠0) (h:Rel g w v (.slice (some a) n cap)):Rel g w (.sptr v) (.pointer (some a))
structure N9 (g:Ghost) (w:World) (g':Ghost) (w':World):Prop where
 nb:g.nb<=g'.nb
 bk:∀b,b<g.nb->g'.bk b=g.bk b
 nt:g.nt<=g'.nt
 sp:∀id,id<g.nt->g'.sp id=g.sp id∨g'.sp id=none
 S:∀a,g.S a->g'.S a/\w'.cell? a=w.cell? a
structure Ext (g:Ghost) (w:World) (g':Ghost) (w':World):Prop where
 base:g'.base=g.base
 w0:g'.w0=g.w0
 size:w.heap.size<=w'.heap.size
 nb:g.nb<=g'.nb
 bk:∀b,b<g.nb->g'.bk b=g.bk b
 nt:g.nt<=g'.nt
 sp:∀id,id<g.nt->g'.sp id=g.sp id∨g'.sp id=none
 S:∀a,g.S a->g'.S a/\w'.cell? a=w.cell? a
 prot:g'.prot=g.prot
 protEq:∀b,g.prot b->w'.heap[b]? =w.heap[b]?
theorem Ext.to0 {g g':Ghost} {w w':World} (e:Ext g w g' w'):N9 g w g' w':=⟨e.nb,e.bk,e.nt,e.sp,e.S⟩
theorem Ext.refl (g:Ghost) (w:World):Ext g w g w:=
 ⟨rfl,rfl,Nat.le_refl _,Nat.le_refl _,fun _ _=>rfl,Nat.le_refl _,fun _ _=> .inl rfl,fun _ h=>⟨h,rfl⟩,rfl,fun _ _=>rfl⟩
theorem Ext.trans {g g' g'':Ghost} {w w' w'':World} (h:Ext g w g' w') (k:Ext g' w' g'' w''):Ext g w g'' w'' where
 base:=k.base.trans h.base
 w0:=k.w0.trans h.w0
 size:=Nat.le_trans h.size k.size
 nb:=Nat.le_trans h.nb k.nb
 bk b hb:=(k.bk b (Nat.lt_of_lt_of_le hb h.nb)).trans (h.bk b hb)
 nt:=Nat.le_trans h.nt k.nt
 sp id hi:=by
  rcases k.sp id (Nat.lt_of_lt_of_le hi h.nt)with e | e
  ·rcases h.sp id hi with f | f
   ·exact .inl (e.trans f)
   ·exact .inr (e.trans f)
  ·exact .inr e
 S a ha:=⟨(k.S a (h.S a ha).1).1,((k.S a (h.S a ha).1).2).trans (h.S a ha).2⟩
 prot:=k.prot.trans h.prot
 protEq b hb:=(k.protEq b (by rw[h.prot];exact hb)).trans (h.protEq b hb)
theorem MY.ext {g g':Ghost} {w w':World} (e:N9 g w g' w') {tip:Tip} {a:Addr} {n cap sz:Nat} (h:MY g tip a n cap sz):MY g' tip a n cap sz:=by
 cases tip with
 | non=>trivial
 | full=>exact h
 | own id=>
  refine⟨Nat.lt_of_lt_of_le h.1 e.nt,fun r hr=>?_⟩
  rcases e.sp id h.1 with f | f
  ·exact h.2 r (by rw[<-f];exact hr)
  ·rw[f]at hr;cases hr
theorem Rel.ext0 {g g':Ghost} {w w':World} (e:N9 g w g' w') {v:TV} {u:Value} (h:Rel g w v u):Rel g' w' v u:=by
 induction h with
 | undef=>exact .undef
 | junk v=>exact .junk v
 | int k n=>exact .int k n
 | bool b=>exact .bool b
 | str l=>exact .str l
 | nilPtr=>exact .nilPtr
 | nilSlice=>exact .nilSlice
 | nilMap=>exact .nilMap
 | nilFunc=>exact .nilFunc
 | nilIface=>exact .nilIface
 | list sz tip n xs b o cap us hl hn hc _ ht ih=>
  exact .list sz tip n xs b o cap us hl hn (fun i hi=>⟨(e.S _ (hc i hi).1).1,((e.S _ (hc i hi).1).2).trans (hc i hi).2⟩) ih (ht.ext e)
 | listE sz tip a ht=>exact .listE sz tip a ht
 | ms sz b off n cap h hn=>rw[<-e.bk b h];exact .ms sz b off n cap (Nat.lt_of_lt_of_le h e.nb) hn
 | box b off h=>rw[<-e.bk b h];exact .box b off (Nat.lt_of_lt_of_le h e.nb)
 | rptr xs b o us hc _ ih=>exact .rptr xs b o us (fun i hi=>⟨(e.S _ (hc i hi).1).1,((e.S _ (hc i hi).1).2).trans (hc i hi).2⟩) ih
 | agg xs vs hl _ ih=>exact .agg xs vs hl ih
 | tuple xs vs hl _ ih=>exact .tuple xs vs hl ih
 | func f xs vs hl _ ih=>exact .func f xs vs hl ih
 | iface t v u _ ih=>exact .iface t v u ih
 | map b h=>rw[<-e.bk b h];exact .map b (Nat.lt_of_lt_of_le h e.nb)
 | sptr v a n cap hc _ ih=>exact .sptr v a n cap hc ih
theorem Rel.ext {g g':Ghost} {w w':World} (e:Ext g w g' w') {v:TV} {u:Value} (h:Rel g w v u):Rel g' w' v u:=h.ext0 e.to0
def AL (g:Ghost) (w:World) (xs:List TV) (vs:List Value):Prop:=xs.length=vs.length/\∀i (h:i<xs.length),Rel g w (xs[i]'h) (vs.getD i Go.undef)
theorem AL.ext0 {g g':Ghost} {w w':World} (e:N9 g w g' w') {xs:List TV} {vs:List Value} (h:AL g w xs vs):AL g' w' xs vs:=⟨h.1,fun i hi=>(h.2 i hi).ext0 e⟩
theorem AL.ext {g g':Ghost} {w w':World} (e:Ext g w g' w') {xs:List TV} {vs:List Value} (h:AL g w xs vs):AL g' w' xs vs:=h.ext0 e.to0
theorem AL.nil (g:Ghost) (w:World):AL g w [] []:=⟨rfl,fun i h=>absurd h (Nat.not_lt_zero _)⟩
theorem AL.cons {g:Ghost} {w:World} {x:TV} {v:Value} {xs:List TV} {vs:List Value} (h:Rel g w x v) (k:AL g w xs vs):AL g w (x::xs) (v::vs):=by
 refine⟨by simp[k.1],fun i hi=>?_⟩
 cases i with
 | zero=>exact h
 | succ i=>exact k.2 i (by simpa using hi)
theorem AL.append {g:Ghost} {w:World} {xs ys:List TV} {vs us:List Value} (h:AL g w xs vs) (k:AL g w ys us):AL g w (xs++ys) (vs++us):=by
 refine⟨by simp[h.1,k.1],fun i hi=>?_⟩
 have e:=h.1
 by_cases hlt:i<xs.length
 ·rw[List.getElem_append_left hlt]
  have:=h.2 i hlt
  simp only[List.getD_eq_getElem?_getD]at this⊢
  rwa [List.getElem?_append_left (by omega)]
 ·rw[List.getElem_append_right (by omega)]
  have:=k.2 (i-xs.length) (by simp at hi;omega)
  simp only[List.getD_eq_getElem?_getD]at this⊢
  rw[List.getElem?_append_right (by omega),<-e]
  exact this
theorem AL.get? {g:Ghost} {w:World} {xs:List TV} {vs:List Value} (h:AL g w xs vs) {i:Nat} {x:TV} (hx:xs[i]? =some x):∃v,vs[i]? =some v/\Rel g w x v:=by
 obtain⟨hi,rfl⟩:=List.getElem?_eq_some_iff.1 hx
 have hi':i<vs.length:=h.1▸hi
 refine⟨vs[i],List.getElem?_eq_getElem hi',?_⟩
 have:=h.2 i hi
 simpa [List.getD_eq_getElem?_getD,List.getElem?_eq_getElem hi']using this
theorem AL.set {g:Ghost} {w:World} {xs:List TV} {vs:List Value} (h:AL g w xs vs) {x:TV} {v:Value} (hx:Rel g w x v) (i:Nat):AL g w (xs.set i x) (vs.set i v):=by
 refine⟨by simp[h.1],fun j hj=>?_⟩
 have hj':j<xs.length:=by simpa using hj
 have hjv:j<vs.length:=h.1▸hj'
 simp only[List.getElem_set,List.getD_eq_getElem?_getD,List.getElem?_set]
 by_cases hij:i=j
 ·subst hij;simp[hjv,hx]
 ·have:=h.2 j hj'
  simp only[List.getD_eq_getElem?_getD]at this
  simpa [hij]using this
theorem AL.drop {g:Ghost} {w:World} {xs:List TV} {vs:List Value} (h:AL g w xs vs) (n:Nat):AL g w (xs.drop n) (vs.drop n):=by
 refine⟨by simp[h.1],fun i hi=>?_⟩
 have:=h.2 (n+i) (by simp at hi;omega)
 simp only[List.getElem_drop,List.getD_eq_getElem?_getD,List.getElem?_drop]at this⊢
 exact this
theorem AL.take {g:Ghost} {w:World} {xs:List TV} {vs:List Value} (h:AL g w xs vs) (n:Nat):AL g w (xs.take n) (vs.take n):=by
 refine⟨by simp[h.1],fun i hi=>?_⟩
 have hi':i<n/\i<xs.length:=by have:=hi;simp only[List.length_take]at this;omega
 have:=h.2 i hi'.2
 simp only[List.getElem_take,List.getD_eq_getElem?_getD,List.getElem?_take]at this⊢
 simpa [hi'.1]using this
def BQ (w:World) (b:Nat) (cs:List Value):Prop:=
 ∃T lo hi,w.heap[b]? =some (.cells cs.toArray T (lo,hi))/\∀o,o<=cs.length->¬(lo<=o/\o<hi)
def FS (g:Ghost) (w:World) (b:Nat):HU->Prop
 | .dead=>True
 | .cells l=>∃cs,BQ w b cs/\AL g w l cs
 | .iter s pos=>w.heap[b]? =some (.stringIter ⟨s.toArray⟩ pos)
 | .map es=>∃ms clock,w.heap[b]? =some (.map ms clock)/\es.length=ms.toList.length/\∀(i:Nat) (k:B8) (v:TV),es[i]? =some (k,v)->∃e:MapEntry,ms.toList[i]? =some e/\e.key=Value.string ⟨k.toArray⟩/\Rel g w v e.val
 | .pmap es=>∃ms clock,w.heap[b]? =some (.map ms clock)/\es.length=ms.toList.length/\∀(i k:Nat) (v:TV),es[i]? =some (k,v)->k<g.nb/\∃e:MapEntry,ms.toList[i]? =some e/\e.key=Value.pointer (some ⟨g.bk k,0,none⟩)/\Rel g w v e.val
inductive Key where
 | box (b:Nat)
 | loc (i:Nat)
def Ghost.at (g:Ghost):Key->Nat
 | .box b=>g.bk b
 | .loc i=>g.lam i
def Dom (st:St) (loc:List (Option (List TV))):Key->Prop
 | .box b=>b<st.nb
 | .loc i=>∃l,loc[i]? =some (some l)
def A3 (st:St) (loc:List (Option (List TV))):Key->HU
 | .box b=>st.box b
 | .loc i=>match loc[i]? with | some (some l)=> .cells l | _=> .dead
def DK (w:World) (b T:Nat):Prop:=∃c fz,w.heap[b]? =some (.cells c T fz)
theorem DK.same {w w':World} {b T:Nat} (h:DK w b T) (e:w'.heap[b]? =w.heap[b]?):DK w' b T:=by obtain⟨c,fz,h⟩:=h;exact⟨c,fz,e.trans h⟩
def TopOk (g:Ghost) (id b:Nat):Prop:=∀j r,j≠id->g.sp j=some r->r.1≠b
structure Sim (g:Ghost) (st:St) (loc:List (Option (List TV))) (w:World):Prop where
 nb:g.nb=st.nb
 nt:g.nt=st.nt
 below:Below g.base g.w0 w
 fits:g.base<=w.heap.size
 obj:∀k,Dom st loc k->FS g w (g.at k) (A3 st loc k)
 inj:∀k k',Dom st loc k->Dom st loc k'->g.at k=g.at k'->k=k'
 lo:∀k,Dom st loc k->g.base<=g.at k/\g.at k<w.heap.size
 own:∀id,id<st.nt->st.live id=true->g.sp id≠none
 spCell:∀id b l h,g.sp id=some (b,l,h)->g.base<=b/\b<w.heap.size/\l<=h/\(∀k,Dom st loc k->g.at k≠b)/\
  ∀o,l<=o->o<h->(∃v,w.cell? ⟨b,o,none⟩=some v)/\w.frozen? ⟨b,o,none⟩=false
 spApart:∀i j b l h l' h',i≠j->g.sp i=some (b,l,h)->g.sp j=some (b,l',h')->h<=l'∨h'<=l∨l=h∨l'=h'
 spLt:∀id,g.nt<=id->g.sp id=none
 sCell:∀a,g.S a->a.spot=none/\(∃v,w.cell? a=some v)/\(∀k,Dom st loc k->g.at k≠a.block)/\
  ∀id l h,g.sp id=some (a.block,l,h)->¬(l<=a.off/\a.off<h)
 protOk:∀b,g.prot b->b<w.heap.size/\(∀k,Dom st loc k->g.at k≠b)/\(∀id l h,g.sp id≠some (b,l,h))/\∀a,g.S a->a.block≠b
 spTop:∀id b l h,g.sp id=some (b,l,h)->TopOk g id b
 spTy:∀id b l h T,g.sp id=some (b,l,h)->st.ty id=some T->DK w b T
 bTy:∀b T,b<st.nb->st.bt b=some T->DK w (g.bk b) T
 glob:∀w',Below g.base g.w0 w'->N7 w'
def Bp (g:Ghost) (w:World) (loc:List (Option (List TV))):SV->Value->Prop
 | .t v,u=>Rel g w v u
 | .loc i off,u=>(∃l,loc[i]? =some (some l))/\u= .pointer (some ⟨g.lam i,off,none⟩)
def Fe (g:Ghost) (w:World) (fr:Fr) (tmps:Array Value):Prop:=
 fr.slots.n=tmps.size/\∀i,Bp g w fr.loc (fr.slots.f i) (tmps.getD i Go.undef)
def Free (g:Ghost) (st:St) (loc:List (Option (List TV))) (b:Nat):Prop:=
 g.base<=b/\(∀k,Dom st loc k->g.at k≠b)/\(∀a,g.S a->a.block≠b)/\(∀id l h,g.sp id≠some (b,l,h))/\¬g.prot b
theorem BQ.same {w w':World} {b:Nat} {cs:List Value} (h:BQ w b cs) (e:w'.heap[b]? =w.heap[b]?):BQ w' b cs:=by
 obtain⟨T,lo,hi,hh,hf⟩:=h
 exact⟨T,lo,hi,e.trans hh,hf⟩
theorem FS.ext0 {g g':Ghost} {w w':World} (e:N9 g w g' w') {b:Nat} (hb:w'.heap[b]? =w.heap[b]?) {o:HU} (h:FS g w b o):FS g' w' b o:=by
 cases o with
 | dead=>trivial
 | cells l=>obtain⟨cs,hc,hr⟩:=h;exact⟨cs,hc.same hb,hr.ext0 e⟩
 | iter s pos=>exact hb.trans h
 | map es=>obtain⟨ms,c,hc,hr,hm⟩:=h;exact⟨ms,c,hb.trans hc,hr,fun i k v hi=>by obtain⟨e',h1,h2,h3⟩:=hm i k v hi;exact⟨e',h1,h2,h3.ext0 e⟩⟩
 | pmap es=>obtain⟨ms,c,hc,hr,hm⟩:=h;exact⟨ms,c,hb.trans hc,hr,fun i k v hi=>by obtain⟨hk,e',h1,h2,h3⟩:=hm i k v hi;exact⟨Nat.lt_of_lt_of_le hk e.nb,e',h1,by rw[h2,e.bk k hk],h3.ext0 e⟩⟩
theorem FS.ext {g g':Ghost} {w w':World} (e:Ext g w g' w') {b:Nat} (hb:w'.heap[b]? =w.heap[b]?) {o:HU} (h:FS g w b o):FS g' w' b o:=h.ext0 e.to0 hb
theorem CS {w w':World} {a:Addr} (h:w'.heap[a.block]? =w.heap[a.block]?):w'.cell? a=w.cell? a:=World.cell?_of_block (w:=w) h
theorem EE {w w':World} {a:Addr} (h:w'.heap[a.block]? =w.heap[a.block]?):w'.frozen? a=w.frozen? a:=World.frozen?_of_block (w:=w) h
theorem Ma (w:World) (o:Obj) {k:Nat} (h:k<w.heap.size):(w.alloc o).heap[k]? =w.heap[k]? :=Below.heap_alloc w o k h
theorem BK (w:World) (o:Obj):(w.alloc o).heap[w.heap.size]? =some o:=by
 show(w.heap.push o)[w.heap.size]? =_
 simp
theorem PT {g:Ghost} {st:St} {loc:List (Option (List TV))} {w:World} (s:Sim g st loc w) {a:Addr} (h:g.S a):a.block<w.heap.size:=by
 obtain⟨_,⟨v,hv⟩,_⟩:=s.sCell a h
 exact World.block_lt_of_cell? w a hv
theorem Sim.world {g:Ghost} {st:St} {loc:List (Option (List TV))} {w w':World} (s:Sim g st loc w) (hs:w.heap.size<=w'.heap.size) (hb:Below g.base g.w0 w')
  (hk:∀k,k<w.heap.size->w'.heap[k]? =w.heap[k]?):Sim g st loc w'/\Ext g w g w':=by
 have e:Ext g w g w':=⟨rfl,rfl,hs,Nat.le_refl _,fun _ _=>rfl,Nat.le_refl _,fun _ _=> .inl rfl,fun a ha=>⟨ha,CS (hk _ (PT s ha))⟩,rfl,
  fun b hb=>hk b (s.protOk b hb).1⟩
 refine⟨⟨s.nb,s.nt,hb,Nat.le_trans s.fits hs,fun k d=>(s.obj k d).ext e (hk _ (s.lo k d).2),s.inj,fun k d=>⟨(s.lo k d).1,Nat.lt_of_lt_of_le (s.lo k d).2 hs⟩,s.own,?_,s.spApart,s.spLt,?_,?_,s.spTop,fun id b l h T hh hT=>(s.spTy id b l h T hh hT).same (hk b (s.spCell id b l h hh).2.1),fun b T hb hT=>(s.bTy b T hb hT).same (hk _ (s.lo (.box b) hb).2),s.glob⟩,e⟩
 ·intro id b l h hsp
  obtain⟨h1,h2,h3,h4,h5⟩:=s.spCell id b l h hsp
  refine⟨h1,Nat.lt_of_lt_of_le h2 hs,h3,h4,fun o ho1 ho2=>?_⟩
  have:=h5 o ho1 ho2
  rw[CS (a:=⟨b,o,none⟩) (hk b h2),EE (a:=⟨b,o,none⟩) (hk b h2)]
  exact this
 ·intro a ha
  obtain⟨h1,h2,h3,h4⟩:=s.sCell a ha
  exact⟨h1,by rw[CS (hk _ (PT s ha))];exact h2,h3,h4⟩
 ·intro b hb
  obtain⟨h1,h2,h3⟩:=s.protOk b hb
  exact⟨Nat.lt_of_lt_of_le h1 hs,h2,h3⟩
theorem Sim.drew {g:Ghost} {st:St} {loc:List (Option (List TV))} {w:World} (s:Sim g st loc w):Sim g st loc w.drew/\Ext g w g w.drew:=
 s.world (Nat.le_refl _) s.below.drew (fun _ _=>rfl)
theorem Sim.alloc {g:Ghost} {st:St} {loc:List (Option (List TV))} {w:World} (s:Sim g st loc w) (o:Obj):
  Sim g st loc (w.alloc o)/\Ext g w g (w.alloc o)/\Free g st loc w.heap.size:=by
 have h:=s.world (w':=w.alloc o) (by simp) (s.below.alloc s.fits o) (fun k hk=>Ma w o hk)
 refine⟨h.1,h.2,s.fits,fun k d e=>?_,fun a ha e=>?_,fun id l h e=>?_,fun hp=>?_⟩
 ·have:=(s.lo k d).2;omega
 ·have:=PT s ha;omega
 ·have:=(s.spCell id _ l h e).2.1;omega
 ·have:=(s.protOk _ hp).1;omega
def St.push (st:St) (o:HU) (T:Option Nat):St:={st with nb:=st.nb+1,box:=fun b=>if b=st.nb then o else st.box b,bt:=fun b=>if b=st.nb then T else st.bt b}
def Ghost.push (g:Ghost) (b:Nat):Ghost:={g with nb:=g.nb+1,bk:=fun i=>if i=g.nb then b else g.bk i}
theorem Sim.push {g:Ghost} {st:St} {loc:List (Option (List TV))} {w:World} (s:Sim g st loc w) {b:Nat} (fr:Free g st loc b) (hb:b<w.heap.size) {o:HU} (ho:FS g w b o) {T:Option Nat} (hT:∀t,T=some t->DK w b t):
  Sim (g.push b) (st.push o T) loc w/\Ext g w (g.push b) w/\(g.push b).bk st.nb=b:=by
 have e:Ext g w (g.push b) w:=⟨rfl,rfl,Nat.le_refl _,Nat.le_succ _,fun i hi=>by simp[Ghost.push,Nat.ne_of_lt hi],Nat.le_refl _,fun _ _=> .inl rfl,fun a ha=>⟨ha,rfl⟩,rfl,fun _ _=>rfl⟩
 have hbk:(g.push b).bk st.nb=b:=by simp[Ghost.push,s.nb]
 have hold:∀k,Dom (st.push o T) loc k->k= .box st.nb∨(Dom st loc k/\(g.push b).at k=g.at k/\A3 (st.push o T) loc k=A3 st loc k):=by
  intro k d
  cases k with
  | box i=>
   by_cases hi:i=st.nb
   ·exact .inl (by rw[hi])
   ·right
    have:i<st.nb:=by simp only[Dom,St.push]at d;omega
    refine⟨this,?_,?_⟩
    ·simp only[Ghost.at,Ghost.push];rw[if_neg (by rw[s.nb];exact hi)]
    ·simp only[A3,St.push];rw[if_neg hi]
  | loc i=>exact .inr ⟨d,rfl,rfl⟩
 refine⟨⟨?_,s.nt,s.below,s.fits,?_,?_,?_,s.own,?_,s.spApart,s.spLt,?_,?_,s.spTop,s.spTy,?_,s.glob⟩,e,hbk⟩
 ·show g.nb+1=st.nb+1;rw[s.nb]
 ·intro k d
  rcases hold k d with rfl | ⟨d',h1,h2⟩
  ·show FS (g.push b) w ((g.push b).bk st.nb) _
   rw[hbk];simp only[A3,St.push,if_true];exact ho.ext e rfl
  ·rw[h1,h2];exact(s.obj k d').ext e rfl
 ·intro k k' d d' heq
  rcases hold k d with rfl | ⟨d1,h1,_⟩<;>rcases hold k' d' with rfl | ⟨d2,h2,_⟩
  ·rfl
  ·rw[h2]at heq;exact absurd (heq.symm.trans hbk) (fr.2.1 k' d2)
  ·rw[h1]at heq;exact absurd (heq.trans hbk) (fr.2.1 k d1)
  ·exact s.inj k k' d1 d2 (by rw[<-h1,<-h2];exact heq)
 ·intro k d
  rcases hold k d with rfl | ⟨d1,h1,_⟩
  ·show g.base<=(g.push b).bk st.nb/\(g.push b).bk st.nb<_
   rw[hbk];exact⟨fr.1,hb⟩
  ·rw[h1];exact s.lo k d1
 ·intro id b' l h hsp
  obtain⟨h1,h2,h3,h4,h5⟩:=s.spCell id b' l h hsp
  refine⟨h1,h2,h3,fun k d=>?_,h5⟩
  rcases hold k d with rfl | ⟨d1,e1,_⟩
  ·show(g.push b).bk st.nb≠b'
   rw[hbk];intro hh;subst hh;exact fr.2.2.2.1 id l h hsp
  ·rw[e1];exact h4 k d1
 ·intro a ha
  obtain⟨h1,h2,h3,h4⟩:=s.sCell a ha
  refine⟨h1,h2,fun k d=>?_,h4⟩
  rcases hold k d with rfl | ⟨d1,e1,_⟩
  ·show(g.push b).bk st.nb≠a.block
   rw[hbk];intro hh;exact fr.2.2.1 a ha hh.symm
  ·rw[e1];exact h3 k d1
 ·intro b' hb'
  obtain⟨h1,h2,h3⟩:=s.protOk b' hb'
  refine⟨h1,fun k d=>?_,h3⟩
  rcases hold k d with rfl | ⟨d1,e1,_⟩
  ·show(g.push b).bk st.nb≠b'
   rw[hbk];intro hh;subst hh;exact fr.2.2.2.2 hb'
  ·rw[e1];exact h2 k d1
 ·intro i t hi hT'
  simp only[St.push]at hi hT'
  by_cases hn:i=st.nb
  ·rw[if_pos hn]at hT'
   rw[hn,hbk];exact hT t hT'
  ·rw[if_neg hn]at hT'
   have:(g.push b).bk i=g.bk i:=by simp only[Ghost.push];rw[if_neg (by rw[s.nb];exact hn)]
   rw[this];exact s.bTy i t (by omega) hT'
def Ghost.pushLoc (g:Ghost) (n b:Nat):Ghost:={g with lam:=fun i=>if i=n then b else g.lam i}
theorem Sim.putLoc {g:Ghost} {st:St} {loc loc':List (Option (List TV))} {w:World} (s:Sim g st loc w) {b n:Nat} (fr:Free g st loc b) (hb:b<w.heap.size) {l:List TV} (ho:FS g w b (.cells l))
  (h1:loc'[n]? =some (some l)) (h2:∀j:Nat,j≠n->∀x:List TV,loc'[j]? =some (some x)↔loc[j]? =some (some x)):
  Sim (g.pushLoc n b) st loc' w/\Ext g w (g.pushLoc n b) w:=by
 have e:Ext g w (g.pushLoc n b) w:=⟨rfl,rfl,Nat.le_refl _,Nat.le_refl _,fun i hi=>rfl,Nat.le_refl _,fun _ _=> .inl rfl,fun a ha=>⟨ha,rfl⟩,rfl,fun _ _=>rfl⟩
 have hbk:(g.pushLoc n b).at (.loc n)=b:=by simp[Ghost.pushLoc,Ghost.at]
 have hold:∀k,Dom st loc' k->k= .loc n∨(Dom st loc k/\(g.pushLoc n b).at k=g.at k/\A3 st loc' k=A3 st loc k):=by
  intro k d
  cases k with
  | box i=>exact .inr ⟨d,rfl,rfl⟩
  | loc i=>
   by_cases hi:i=n
   ·exact .inl (by rw[hi])
   ·right
    obtain⟨x,hx⟩:=d
    have hx':=(h2 i hi x).1 hx
    refine⟨⟨x,hx'⟩,?_,?_⟩
    ·simp only[Ghost.at,Ghost.pushLoc];rw[if_neg hi]
    ·simp only[A3,hx,hx']
 refine⟨⟨s.nb,s.nt,s.below,s.fits,?_,?_,?_,s.own,?_,s.spApart,s.spLt,?_,?_,s.spTop,s.spTy,s.bTy,s.glob⟩,e⟩
 ·intro k d
  rcases hold k d with rfl | ⟨d',h1',h2'⟩
  ·rw[hbk];simp only[A3,h1];exact ho.ext e rfl
  ·rw[h1',h2'];exact(s.obj k d').ext e rfl
 ·intro k k' d d' heq
  rcases hold k d with rfl | ⟨d1,h1',_⟩<;>rcases hold k' d' with rfl | ⟨d2,h2',_⟩
  ·rfl
  ·rw[h2']at heq;exact absurd (heq.symm.trans hbk) (fr.2.1 k' d2)
  ·rw[h1']at heq;exact absurd (heq.trans hbk) (fr.2.1 k d1)
  ·exact s.inj k k' d1 d2 (by rw[<-h1',<-h2'];exact heq)
 ·intro k d
  rcases hold k d with rfl | ⟨d1,h1',_⟩
  ·rw[hbk];exact⟨fr.1,hb⟩
  ·rw[h1'];exact s.lo k d1
 ·intro id b' l' h hsp
  obtain⟨c1,c2,c3,c4,c5⟩:=s.spCell id b' l' h hsp
  refine⟨c1,c2,c3,fun k d=>?_,c5⟩
  rcases hold k d with rfl | ⟨d1,e1,_⟩
  ·rw[hbk];intro hh;subst hh;exact fr.2.2.2.1 id l' h hsp
  ·rw[e1];exact c4 k d1
 ·intro a ha
  obtain⟨c1,c2,c3,c4⟩:=s.sCell a ha
  refine⟨c1,c2,fun k d=>?_,c4⟩
  rcases hold k d with rfl | ⟨d1,e1,_⟩
  ·rw[hbk];intro hh;exact fr.2.2.1 a ha hh.symm
  ·rw[e1];exact c3 k d1
 ·intro b' hb'
  obtain⟨c1,c2,c3⟩:=s.protOk b' hb'
  refine⟨c1,fun k d=>?_,c3⟩
  rcases hold k d with rfl | ⟨d1,e1,_⟩
  ·rw[hbk];intro hh;subst hh;exact fr.2.2.2.2 hb'
  ·rw[e1];exact c2 k d1
theorem Sim.dropLoc {g:Ghost} {st:St} {loc loc':List (Option (List TV))} {w:World} (s:Sim g st loc w) (h:∀(j:Nat) (x:List TV),loc'[j]? =some (some x)->loc[j]? =some (some x)):Sim g st loc' w:=by
 have hd:∀k,Dom st loc' k->Dom st loc k/\A3 st loc' k=A3 st loc k:=by
  intro k d
  cases k with
  | box i=>exact⟨d,rfl⟩
  | loc i=>obtain⟨x,hx⟩:=d;exact⟨⟨x,h i x hx⟩,by simp only[A3,hx,h i x hx]⟩
 refine⟨s.nb,s.nt,s.below,s.fits,fun k d=>?_,fun k k' d d'=>s.inj k k' (hd k d).1 (hd k' d').1,fun k d=>s.lo k (hd k d).1,s.own,?_,s.spApart,s.spLt,?_,?_,s.spTop,s.spTy,s.bTy,s.glob⟩
 ·rw[(hd k d).2];exact s.obj k (hd k d).1
 ·intro id b l h' hsp
  obtain⟨c1,c2,c3,c4,c5⟩:=s.spCell id b l h' hsp
  exact⟨c1,c2,c3,fun k d=>c4 k (hd k d).1,c5⟩
 ·intro a ha
  obtain⟨c1,c2,c3,c4⟩:=s.sCell a ha
  exact⟨c1,c2,fun k d=>c3 k (hd k d).1,c4⟩
 ·intro b hb
  obtain⟨c1,c2,c3⟩:=s.protOk b hb
  exact⟨c1,fun k d=>c2 k (hd k d).1,c3⟩
end Go.TVF
end
section
namespace Go.TVF
open Go.IntKind(i64 u8)
open Go.RowKit (Below)
def Ghost.settle (g:Ghost) (X:Addr->Prop):Ghost:={g with S:=fun a=>g.S a∨X a}
theorem Sim.settle {g:Ghost} {st:St} {loc:List (Option (List TV))} {w:World} (s:Sim g st loc w) (X:Addr->Prop)
  (hX:∀a,X a->a.spot=none/\(∃v,w.cell? a=some v)/\(∀k,Dom st loc k->g.at k≠a.block)/\∀id l h,g.sp id=some (a.block,l,h)->¬(l<=a.off/\a.off<h))
  (hXp:∀a,X a->¬g.prot a.block):
  Sim (g.settle X) st loc w/\Ext g w (g.settle X) w:=by
 have e:Ext g w (g.settle X) w:=⟨rfl,rfl,Nat.le_refl _,Nat.le_refl _,fun i hi=>rfl,Nat.le_refl _,fun _ _=> .inl rfl,fun a ha=>⟨.inl ha,rfl⟩,rfl,fun _ _=>rfl⟩
 refine⟨⟨s.nb,s.nt,s.below,s.fits,fun k d=>(s.obj k d).ext e rfl,s.inj,s.lo,s.own,s.spCell,s.spApart,s.spLt,?_,?_,s.spTop,s.spTy,s.bTy,s.glob⟩,e⟩
 ·intro a ha
  rcases ha with ha | ha
  ·exact s.sCell a ha
  ·exact hX a ha
 ·intro b hb
  obtain⟨h1,h2,h3,h4⟩:=s.protOk b hb
  refine⟨h1,h2,h3,fun a ha=>?_⟩
  rcases ha with ha | ha
  ·exact h4 a ha
  ·intro h;subst h;exact hXp a ha hb
def St.retire (st:St) (id:Nat):St:={st with live:=fun i=>if i=id then false else st.live i}
def Ghost.retire (g:Ghost) (id:Nat):Ghost:={g with sp:=fun i=>if i=id then none else g.sp i}
theorem Sim.retire {g:Ghost} {st:St} {loc:List (Option (List TV))} {w:World} (s:Sim g st loc w) (id:Nat):Sim (g.retire id) (st.retire id) loc w/\Ext g w (g.retire id) w:=by
 have hsp:∀i r,(g.retire id).sp i=some r->g.sp i=some r:=by
  intro i r h
  simp only[Ghost.retire]at h
  split at h
  ·cases h
  ·exact h
 have e:Ext g w (g.retire id) w:=⟨rfl,rfl,Nat.le_refl _,Nat.le_refl _,fun i hi=>rfl,Nat.le_refl _,fun i _=>by
   simp only[Ghost.retire];split<;>simp,fun a ha=>⟨ha,rfl⟩,rfl,fun _ _=>rfl⟩
 refine⟨⟨s.nb,s.nt,s.below,s.fits,fun k d=>(s.obj k d).ext e rfl,s.inj,s.lo,?_,fun i b l h hh=>s.spCell i b l h (hsp _ _ hh),
  fun i j b l h l' h' hne h1 h2=>s.spApart i j b l h l' h' hne (hsp _ _ h1) (hsp _ _ h2),?_,?_,?_,fun id b l h hh j r hj hr=>s.spTop id b l h (hsp _ _ hh) j r hj (hsp _ _ hr),fun id b l h T hh hT=>s.spTy id b l h T (hsp _ _ hh) hT,s.bTy,s.glob⟩,e⟩
 ·intro i hi hl
  simp only[St.retire]at hl
  simp only[Ghost.retire]
  split at hl
  ·cases hl
  ·rename_i h;rw[if_neg h];exact s.own i hi hl
 ·intro i hi
  simp only[Ghost.retire]
  split
  ·rfl
  ·exact s.spLt i hi
 ·intro a ha
  obtain⟨h1,h2,h3,h4⟩:=s.sCell a ha
  exact⟨h1,h2,h3,fun i l h hh=>h4 i l h (hsp _ _ hh)⟩
 ·intro b hb
  obtain⟨h1,h2,h3,h4⟩:=s.protOk b hb
  exact⟨h1,h2,fun i l h hh=>h3 i l h (hsp _ _ hh),h4⟩
def St.fresh (st:St) (T:Option Nat):St:={st with nt:=st.nt+1,live:=fun i=>if i=st.nt then true else st.live i,ty:=fun i=>if i=st.nt then T else st.ty i}
def Ghost.fresh (g:Ghost) (r:Nat×Nat×Nat):Ghost:={g with nt:=g.nt+1,sp:=fun i=>if i=g.nt then some r else g.sp i}
theorem Sim.fresh {g:Ghost} {st:St} {loc:List (Option (List TV))} {w:World} (s:Sim g st loc w) (b l h:Nat) (hb:g.base<=b∨l=h) (hb':g.base<=b) (hlt:b<w.heap.size) (hlh:l<=h)
  (hk:∀k,Dom st loc k->g.at k≠b) (hc:∀o,l<=o->o<h->(∃v,w.cell? ⟨b,o,none⟩=some v)/\w.frozen? ⟨b,o,none⟩=false)
  (hS:∀a,g.S a->a.block=b->¬(l<=a.off/\a.off<h)) (hp:¬g.prot b)
  (hap:∀i l' h',g.sp i=some (b,l',h')->h<=l'∨h'<=l∨l=h∨l'=h') (hone:∀i r,g.sp i=some r->r.1≠b) {T:Option Nat} (hT:∀t,T=some t->DK w b t):
  Sim (g.fresh (b,l,h)) (st.fresh T) loc w/\Ext g w (g.fresh (b,l,h)) w/\(g.fresh (b,l,h)).sp st.nt=some (b,l,h):=by
 clear hb
 have hsp:∀i r,(g.fresh (b,l,h)).sp i=some r->(i=g.nt/\r=(b,l,h))∨(i≠g.nt/\g.sp i=some r):=by
  intro i r hr
  simp only[Ghost.fresh]at hr
  split at hr
  ·rename_i hi;exact .inl ⟨hi,by cases hr;rfl⟩
  ·rename_i hi;exact .inr ⟨hi,hr⟩
 have e:Ext g w (g.fresh (b,l,h)) w:=⟨rfl,rfl,Nat.le_refl _,Nat.le_refl _,fun i hi=>rfl,Nat.le_succ _,fun i hi=>by
   left;simp only[Ghost.fresh];rw[if_neg (by omega)],fun a ha=>⟨ha,rfl⟩,rfl,fun _ _=>rfl⟩
 have htop:∀i b' l' h',(g.fresh (b,l,h)).sp i=some (b',l',h')->TopOk (g.fresh (b,l,h)) i b':=by
  intro i b' l' h' hh
  rcases hsp i _ hh with⟨hi,hr⟩ | ⟨hi,hr⟩
  ·cases hr
   intro j r hj hr'
   rcases hsp j _ hr' with⟨hj',_⟩ | ⟨_,hq⟩
   ·exact absurd (hj'.trans hi.symm) hj
   ·exact hone j r hq
  ·intro j r hj hr'
   rcases hsp j _ hr' with⟨hj',hq⟩ | ⟨_,hq⟩
   ·rw[hq];exact fun hbb=>hone i _ hr hbb.symm
   ·exact s.spTop i b' l' h' hr j r hj hq
 refine⟨⟨s.nb,?_,s.below,s.fits,fun k d=>(s.obj k d).ext e rfl,s.inj,s.lo,?_,?_,?_,?_,?_,?_,htop,?_,s.bTy,s.glob⟩,e,by simp[Ghost.fresh,s.nt]⟩
 ·show g.nt+1=st.nt+1;rw[s.nt]
 ·intro i hi hl
  simp only[St.fresh]at hl hi
  simp only[Ghost.fresh]
  split at hl
  ·rename_i h;rw[if_pos (by rw[s.nt];exact h)];simp
  ·rename_i h;rw[if_neg (by rw[s.nt];exact h)];exact s.own i (by omega) hl
 ·intro i b' l' h' hh
  rcases hsp i _ hh with⟨_,hr⟩ | ⟨_,hr⟩
  ·cases hr;exact⟨hb',hlt,hlh,hk,hc⟩
  ·exact s.spCell i b' l' h' hr
 ·intro i j b' l1 h1 l2 h2 hne hi hj
  rcases hsp i _ hi with⟨ei,hr⟩ | ⟨ei,hr⟩<;>rcases hsp j _ hj with⟨ej,hq⟩ | ⟨ej,hq⟩
  ·exact absurd (ei.trans ej.symm) hne
  ·cases hr;exact hap j l2 h2 hq
  ·cases hq
   rcases hap i l1 h1 hr with h | h | h | h
   ·exact .inr (.inl h)
   ·exact .inl h
   ·exact .inr (.inr (.inr h))
   ·exact .inr (.inr (.inl h))
  ·exact s.spApart i j b' l1 h1 l2 h2 hne hr hq
 ·intro i hi
  simp only[Ghost.fresh]at hi⊢
  rw[if_neg (by omega)]
  exact s.spLt i (by omega)
 ·intro a ha
  obtain⟨h1,h2,h3,h4⟩:=s.sCell a ha
  refine⟨h1,h2,h3,fun i l' h' hh=>?_⟩
  rcases hsp i _ hh with⟨_,hr⟩ | ⟨_,hr⟩
  ·simp only[Prod.mk.injEq]at hr
   obtain⟨e1,rfl,rfl⟩:=hr
   exact hS a ha e1
  ·exact h4 i l' h' hr
 ·intro b' hb''
  obtain⟨h1,h2,h3,h4⟩:=s.protOk b' hb''
  refine⟨h1,h2,fun i l' h' hh=>?_,h4⟩
  rcases hsp i _ hh with⟨_,hr⟩ | ⟨_,hr⟩
  ·simp only[Prod.mk.injEq]at hr
   obtain⟨rfl,rfl,rfl⟩:=hr
   exact hp hb''
  ·exact h3 i l' h' hr
 ·intro i b' l' h' T' hh hT'
  rcases hsp i _ hh with⟨hi,hr⟩ | ⟨hi,hr⟩
  ·cases hr
   simp only[St.fresh]at hT'
   rw[if_pos (by rw[hi,s.nt])]at hT'
   exact hT T' hT'
  ·simp only[St.fresh]at hT'
   rw[if_neg (by rw[<-s.nt];exact hi)]at hT'
   exact s.spTy i b' l' h' T' hr hT'
theorem Sim.spWrite {g:Ghost} {st:St} {loc:List (Option (List TV))} {w w':World} (s:Sim g st loc w) {id b l h:Nat} (hid:g.sp id=some (b,l,h)) (hlt:l<h)
  (hsz:w'.heap.size=w.heap.size) (hk:∀k,k≠b->w'.heap[k]? =w.heap[k]?)
  (hout:∀o,¬(l<=o/\o<h)->w'.cell? ⟨b,o,none⟩=w.cell? ⟨b,o,none⟩)
  (hin:∀o,l<=o->o<h->∃v,w'.cell? ⟨b,o,none⟩=some v) (hfz:∀o,w'.frozen? ⟨b,o,none⟩=w.frozen? ⟨b,o,none⟩)
  (hbel:Below g.base g.w0 w') (hrow:∀T,DK w b T->DK w' b T):Sim g st loc w'/\Ext g w g w':=by
 obtain⟨c1,c2,c3,c4,c5⟩:=s.spCell id b l h hid
 have hcell:∀a,g.S a->w'.cell? a=w.cell? a:=by
  intro a ha
  obtain⟨h1,_,_,h4⟩:=s.sCell a ha
  by_cases hb:a.block=b
  ·subst hb
   have:=hout a.off (h4 id l h hid)
   cases a;simp only at h1 this;subst h1;exact this
  ·exact CS (hk _ hb)
 have e:Ext g w g w':=⟨rfl,rfl,by omega,Nat.le_refl _,fun _ _=>rfl,Nat.le_refl _,fun _ _=> .inl rfl,fun a ha=>⟨ha,hcell a ha⟩,rfl,fun b' hb'=>hk _ (by
  rintro rfl
  exact(s.protOk _ hb').2.2.1 id l h hid)⟩
 refine⟨⟨s.nb,s.nt,hbel,by have:=s.fits;omega,fun k d=>(s.obj k d).ext e (hk _ (c4 k d)),s.inj,fun k d=>⟨(s.lo k d).1,by have:=(s.lo k d).2;omega⟩,s.own,?_,s.spApart,s.spLt,?_,?_,s.spTop,fun i b' l' h' T hh hT=>(by
  by_cases hb:b'=b
  ·subst hb;exact hrow T (s.spTy i b' l' h' T hh hT)
  ·exact(s.spTy i b' l' h' T hh hT).same (hk b' hb)),fun i T hi hT=>(s.bTy i T hi hT).same (hk _ (c4 (.box i) hi)),s.glob⟩,e⟩
 ·intro i b' l' h' hi
  obtain⟨h1,h2,h3,h4,h5⟩:=s.spCell i b' l' h' hi
  refine⟨h1,by omega,h3,h4,fun o o1 o2=>?_⟩
  by_cases hb:b'=b
  ·subst hb
   refine⟨?_,by rw[hfz];exact(h5 o o1 o2).2⟩
   by_cases hio:l<=o/\o<h
   ·exact hin o hio.1 hio.2
   ·rw[hout o hio];exact(h5 o o1 o2).1
  ·rw[CS (a:=⟨b',o,none⟩) (hk b' hb),EE (a:=⟨b',o,none⟩) (hk b' hb)]
   exact h5 o o1 o2
 ·intro a ha
  obtain⟨h1,h2,h3,h4⟩:=s.sCell a ha
  exact⟨h1,by rw[hcell a ha];exact h2,h3,h4⟩
 ·intro b' hb'
  obtain⟨h1,h2,h3⟩:=s.protOk b' hb'
  exact⟨by omega,h2,h3⟩
theorem Sim.putKey {g:Ghost} {st st':St} {loc loc':List (Option (List TV))} {w w':World} (s:Sim g st loc w) (k0:Key) (d0:Dom st loc k0)
  (hnb:st'.nb=st.nb) (hnt:st'.nt=st.nt) (hlv:st'.live=st.live) (hty:st'.ty=st.ty) (hbt:st'.bt=st.bt) (hdom:∀k,Dom st' loc' k->Dom st loc k) (hoth:∀k,Dom st loc k->k≠k0->A3 st' loc' k=A3 st loc k)
  (hsz:w'.heap.size=w.heap.size) (hk:∀k,k≠g.at k0->w'.heap[k]? =w.heap[k]?) (hbel:Below g.base g.w0 w')
  (hnew:∀_:Ext g w g w',FS g w' (g.at k0) (A3 st' loc' k0)) (hrow:∀T,DK w (g.at k0) T->DK w' (g.at k0) T):Sim g st' loc' w'/\Ext g w g w':=by
 have e:Ext g w g w':=⟨rfl,rfl,by omega,Nat.le_refl _,fun _ _=>rfl,Nat.le_refl _,fun _ _=> .inl rfl,
  fun a ha=>⟨ha,CS (hk _ (fun h=>(s.sCell a ha).2.2.1 k0 d0 h.symm))⟩,rfl,fun b' hb'=>hk _ (fun h=>(s.protOk b' hb').2.1 k0 d0 h.symm)⟩
 refine⟨⟨s.nb.trans hnb.symm,s.nt.trans hnt.symm,hbel,by have:=s.fits;omega,?_,fun k k' d d'=>s.inj k k' (hdom k d) (hdom k' d'),fun k d=>⟨(s.lo k (hdom k d)).1,by have:=(s.lo k (hdom k d)).2;omega⟩,
  fun i hi hl=>s.own i (by omega) (by rw[<-hlv];exact hl),?_,s.spApart,s.spLt,?_,?_,s.spTop,fun i b' l' h' T hh hT=>(s.spTy i b' l' h' T hh (by rw[<-hty];exact hT)).same (hk b' (fun hb=>(s.spCell i b' l' h' hh).2.2.2.1 k0 d0 hb.symm)),fun i T hi hT=>(by
  by_cases hkk:Key.box i=k0
  ·have:=hrow T (by rw[<-hkk];exact s.bTy i T (hnb▸hi) (by rw[<-hbt];exact hT));rw[<-hkk]at this;exact this
  ·exact(s.bTy i T (hnb▸hi) (by rw[<-hbt];exact hT)).same (hk _ (fun h=>hkk (s.inj (.box i) k0 (hdom _ hi) d0 h)))),s.glob⟩,e⟩
 ·intro k d
  by_cases hkk:k=k0
  ·subst hkk;exact hnew e
  ·rw[hoth k (hdom k d) hkk]
   exact(s.obj k (hdom k d)).ext e (hk _ (fun h=>hkk (s.inj k k0 (hdom k d) d0 h)))
 ·intro i b l h hi
  obtain⟨h1,h2,h3,h4,h5⟩:=s.spCell i b l h hi
  refine⟨h1,by omega,h3,fun k d=>h4 k (hdom k d),fun o o1 o2=>?_⟩
  have hne:b≠g.at k0:=fun h=>h4 k0 d0 h.symm
  rw[CS (a:=⟨b,o,none⟩) (hk b hne),EE (a:=⟨b,o,none⟩) (hk b hne)]
  exact h5 o o1 o2
 ·intro a ha
  obtain⟨h1,h2,h3,h4⟩:=s.sCell a ha
  exact⟨h1,by rw[(e.S a ha).2];exact h2,fun k d=>h3 k (hdom k d),h4⟩
 ·intro b hb
  obtain⟨h1,h2,h3⟩:=s.protOk b hb
  exact⟨by omega,fun k d=>h2 k (hdom k d),h3⟩
def St.put (st:St) (b:Nat) (o:HU):St:={st with box:=fun i=>if i=b then o else st.box i}
theorem BQ.get {w:World} {b:Nat} {cs:List Value} (h:BQ w b cs) {o:Nat} {v:Value} (hv:cs[o]? =some v):w.cell? ⟨b,o,none⟩=some v:=by
 obtain⟨T,lo,hi,hh,_⟩:=h
 simp[World.cell?,hh,hv]
theorem BQ.unfrozen {w:World} {b:Nat} {cs:List Value} (h:BQ w b cs) {o:Nat} (ho:o<cs.length):w.frozen? ⟨b,o,none⟩=false:=by
 obtain⟨T,lo,hi,hh,hf⟩:=h
 have:=hf o (Nat.le_of_lt ho)
 simp only[World.frozen?,hh]
 simp
 omega
theorem BQ.setCell {w:World} {b:Nat} {cs:List Value} (h:BQ w b cs) (o:Nat) (v:Value):BQ (w.setCell ⟨b,o,none⟩ v) b (cs.set o v):=by
 obtain⟨T,lo,hi,hh,hf⟩:=h
 refine⟨T,lo,hi,?_,by simpa using hf⟩
 simp[World.setCell,Array.getElem?_modify,hh]
theorem DK.setCell {w:World} {b T o:Nat} {v:Value} (h:DK w b T):DK (w.setCell ⟨b,o,none⟩ v) b T:=by
 obtain⟨c,fz,h⟩:=h
 exact⟨c.setIfInBounds o v,fz,by simp[World.setCell,Array.getElem?_modify,h]⟩
theorem BQ.alloc (w:World) (cs:List Value) (T:TypeId):BQ (w.alloc (.cells cs.toArray T)) w.heap.size cs:=
 ⟨T,0,0,BK _ _,fun o _=>by omega⟩
theorem Sim.storeBox {g:Ghost} {st:St} {loc:List (Option (List TV))} {w:World} (s:Sim g st loc w) {b o:Nat} {l:List TV} (hb:b<st.nb) (hbox:st.box b= .cells l) (ho:o<l.length) {x:TV} {v:Value}
  (hx:Rel g w x v):Sim g (st.put b (.cells (l.set o x))) loc (w.setCell ⟨g.bk b,o,none⟩ v)/\Ext g w g (w.setCell ⟨g.bk b,o,none⟩ v):=by
 have ob:=s.obj (.box b) hb
 simp only[A3,hbox,Ghost.at]at ob
 obtain⟨cs,hc,hr⟩:=ob
 refine s.putKey (.box b) hb rfl rfl rfl rfl rfl (fun k d=>?_) (fun k _ hne=>?_) (by simp) (fun k hk=>Below.heap_setCell _ _ _ _ hk) (s.below.setCell (s.lo (.box b) hb).1 _) (fun e=>?_) (fun T=>DK.setCell)
 ·cases k<;>exact d
 ·cases k with
  | box i=>
   have:i≠b:=fun h=>hne (by rw[h])
   simp[A3,St.put,this]
  | loc i=>rfl
 ·simp only[A3,St.put,if_true,Ghost.at]
  exact⟨_,hc.setCell o v,(hr.ext e).set (hx.ext e) o⟩
theorem Sim.storeLoc {g:Ghost} {st:St} {loc:List (Option (List TV))} {w:World} (s:Sim g st loc w) {i o:Nat} {l:List TV} (hl:loc[i]? =some (some l)) (ho:o<l.length) {x:TV} {v:Value}
  (hx:Rel g w x v):Sim g st (loc.set i (some (l.set o x))) (w.setCell ⟨g.lam i,o,none⟩ v)/\Ext g w g (w.setCell ⟨g.lam i,o,none⟩ v):=by
 obtain⟨hi,hli⟩:=List.getElem?_eq_some_iff.1 hl
 have hd:Dom st loc (.loc i):=⟨l,hl⟩
 have ob:=s.obj (.loc i) hd
 simp only[A3,hl,Ghost.at]at ob
 obtain⟨cs,hc,hr⟩:=ob
 refine s.putKey (.loc i) hd rfl rfl rfl rfl rfl (fun k d=>?_) (fun k _ hne=>?_) (by simp) (fun k hk=>Below.heap_setCell _ _ _ _ hk) (s.below.setCell (s.lo (.loc i) hd).1 _) (fun e=>?_) (fun T=>DK.setCell)
 ·cases k with
  | box _=>exact d
  | loc j=>
   by_cases hij:i=j
   ·subst hij;exact hd
   ·obtain⟨x,hx⟩:=d
    rw[List.getElem?_set_ne hij]at hx
    exact⟨x,hx⟩
 ·cases k with
  | box _=>rfl
  | loc j=>
   have:i≠j:=fun h=>hne (by rw[h])
   simp only[A3];rw[List.getElem?_set_ne this]
 ·simp only[A3,Ghost.at]
  rw[List.getElem?_set_self hi]
  exact⟨_,hc.setCell o v,(hr.ext e).set (hx.ext e) o⟩
theorem Sim.refreeze {g:Ghost} {st:St} {loc:List (Option (List TV))} {w:World} (s:Sim g st loc w) {b:Nat} (hb:g.base<=b) (hk:∀k,Dom st loc k->g.at k≠b) (hns:∀id l h,g.sp id≠some (b,l,h)) (hp:¬g.prot b)
  {w':World} (hsz:w'.heap.size=w.heap.size) (hoth:∀k,k≠b->w'.heap[k]? =w.heap[k]?) (hcell:∀a:Addr,a.block=b->w'.cell? a=w.cell? a) (hbel:Below g.base g.w0 w'):
  Sim g st loc w'/\Ext g w g w':=by
 have hc:∀a,w'.cell? a=w.cell? a:=fun a=>by
  by_cases h:a.block=b
  ·exact hcell a h
  ·exact CS (hoth _ h)
 have e:Ext g w g w':=⟨rfl,rfl,by omega,Nat.le_refl _,fun _ _=>rfl,Nat.le_refl _,fun _ _=> .inl rfl,fun a ha=>⟨ha,hc a⟩,rfl,fun b' hb'=>hoth _ (fun h=>by subst h;exact hp hb')⟩
 refine⟨⟨s.nb,s.nt,hbel,by have:=s.fits;omega,fun k d=>(s.obj k d).ext e (hoth _ (hk k d)),s.inj,fun k d=>⟨(s.lo k d).1,by have:=(s.lo k d).2;omega⟩,s.own,?_,s.spApart,s.spLt,?_,?_,s.spTop,
  fun id b' l h T hh hT=>(s.spTy id b' l h T hh hT).same (hoth _ (fun hbb=>by subst hbb;exact hns id l h hh)),fun i T hi hT=>(s.bTy i T hi hT).same (hoth _ (hk (.box i) hi)),s.glob⟩,e⟩
 ·intro id b' l h hi
  obtain⟨h1,h2,h3,h4,h5⟩:=s.spCell id b' l h hi
  have hne:b'≠b:=fun hbb=>by subst hbb;exact hns id l h hi
  refine⟨h1,by omega,h3,h4,fun o o1 o2=>?_⟩
  rw[hc,EE (a:=⟨b',o,none⟩) (hoth _ hne)]
  exact h5 o o1 o2
 ·intro a ha
  obtain⟨h1,h2,h3,h4⟩:=s.sCell a ha
  exact⟨h1,by rw[hc];exact h2,h3,h4⟩
 ·intro b' hb'
  obtain⟨h1,h2,h3⟩:=s.protOk b' hb'
  exact⟨by omega,h2,h3⟩
theorem NX (w:World) (p:Addr) (n:Nat) (a:Addr):(w.freeze p n).cell? a=w.cell? a:=by
 unfold World.freeze
 split
 ·rfl
 ·unfold World.cell?
  simp only[Array.getElem?_modify]
  by_cases h:p.block=a.block
  ·rw[if_pos h]
   cases hh:w.heap[a.block]? with
   | none=>rfl
   | some o=>cases o<;>rfl
  ·rw[if_neg h]
theorem O7 (w:World) (p:Addr) (n k:Nat) (h:k≠p.block):(w.freeze p n).heap[k]? =w.heap[k]? :=by
 unfold World.freeze
 split
 ·rfl
 ·simp only[Array.getElem?_modify]
  rw[if_neg (Ne.symm h)]
theorem Ox (w:World) (p:Addr) (n:Nat):(w.freeze p n).heap.size=w.heap.size:=by
 unfold World.freeze
 split
 ·rfl
 ·simp
theorem Sim.freezeTip {g:Ghost} {st:St} {loc:List (Option (List TV))} {w:World} (s:Sim g st loc w) {id b l h:Nat} (hid:g.sp id=some (b,l,h)) (o n:Nat):
  Sim (g.retire id) (st.retire id) loc (w.freeze ⟨b,o,none⟩ n)/\Ext g w (g.retire id) (w.freeze ⟨b,o,none⟩ n):=by
 obtain⟨c1,c2,c3,c4,c5⟩:=s.spCell id b l h hid
 obtain⟨s1,e1⟩:=s.retire id
 have hsp:∀i r,(g.retire id).sp i=some r->i≠id/\g.sp i=some r:=by
  intro i r hh
  simp only[Ghost.retire]at hh
  split at hh
  ·cases hh
  ·exact⟨‹_›,hh⟩
 obtain⟨s2,e2⟩:=s1.refreeze (b:=b) c1 c4 (fun i l' h' hh=>by obtain⟨h1,h2⟩:=hsp i _ hh;exact s.spTop id b l h hid i _ h1 h2 rfl) (fun hp=>(s.protOk b hp).2.2.1 id l h hid)
  (w':=w.freeze ⟨b,o,none⟩ n) (Ox _ _ _) (fun k hk=>O7 _ _ _ _ hk) (fun a _=>NX _ _ _ _) (Lib.below_freeze s.below c1 n)
 exact⟨s2,e1.trans e2⟩
end Go.TVF
end
section
namespace Go.TVF
open Go.IntKind(i64 u8)
open Go.RowKit (Below)
inductive CTy where
 | int (k:IntKind)
 | bool
 | str
 | tv
@[reducible] def CTy.I:CTy->Type
 | .int _=>Int
 | .bool=>Bool
 | .str=>B8
 | .tv=>TV
def enc:(c:CTy)->c.I->TV
 | .int k,n=> .int k n
 | .bool,b=> .bool b
 | .str,l=> .str l
 | .tv,v=>v
def need (b:Bool) (k:Prop):Prop:=match b with | true=>k | false=>False
def BIf (b:Bool) (x y:Prop):Prop:=match b with | true=>x | false=>y
def Ar {α:Type} (o:Option α) (k:α->Prop):Prop:=match o with | some x=>k x | none=>False
theorem Ak {b:Bool} {k:Prop}:need b k↔b=true/\k:=by cases b<;>simp[need]
theorem BY {α:Type} {o:Option α} {k:α->Prop}:Ar o k↔∃x,o=some x/\k x:=by cases o<;>simp[Ar]
def Bj:(c:CTy)->TV->(c.I->Prop)->Prop
 | .int k,v,f=>match v with | .int k' n=>need (decide (k=k')) (f n) | _=>False
 | .bool,v,f=>match v with | .bool b=>f b | _=>False
 | .str,v,f=>match v with | .str l=>f l | _=>False
 | .tv,v,f=>f v
theorem Dp {c:CTy} {v:TV} {f:c.I->Prop} (h:Bj c v f):∃y,v=enc c y/\f y:=by
 cases c with
 | int k=>
  cases v<;>simp only[Bj]at h<;>first | exact h.elim | skip
  rename_i k' n
  rw[Ak]at h
  obtain⟨h1,h2⟩:=h
  have:=of_decide_eq_true h1
  subst this
  exact⟨n,rfl,h2⟩
 | bool=>cases v<;>simp only[Bj]at h<;>first | exact h.elim | exact⟨_,rfl,h⟩
 | str=>cases v<;>simp only[Bj]at h<;>first | exact h.elim | exact⟨_,rfl,h⟩
 | tv=>exact⟨v,rfl,h⟩
@[reducible] def Fun:List CTy->Type->Type
 | [],R=>R
 | c::cs,R=>c.I->Fun cs R
def decL:(cs:List CTy)->List TV->Fun cs Prop->Prop
 | [],[],f=>f
 | [],_::_,_=>False
 | _::_,[],_=>False
 | c::cs,v::vs,f=>Bj c v fun y=>decL cs vs (f y)
def LE:(cs:List CTy)->{R:Type}->(List TV->R)->Fun cs R
 | [],_,F=>F []
 | c::cs,_,F=>fun y=>LE cs fun l=>F (enc c y::l)
theorem LD:∀{cs:List CTy} {vs:List TV} {F:List TV->Prop},decL cs vs (LE cs F)->F vs
 | [],[],F,h=>h
 | [],_::_,F,h=>h.elim
 | _::_,[],F,h=>h.elim
 | c::cs,v::vs,F,h=>by
  obtain⟨y,rfl,h2⟩:=Dp h
  exact LD (F:=fun l=>F (enc c y::l)) h2
inductive RTy where
 | one (c:CTy)
 | agg (cs:List CTy)
def ctyOf (P:Program) (t:TypeId):CTy:=
 match P.underlying t with
 | some (.int k)=> .int k
 | some .bool=> .bool
 | some .string=> .str
 | _=> .tv
def NW (P:Program):Nat->TypeId->List CTy
 | 0,_=>[]
 | n+1,t=>
  match P.underlying t with
  | some (.struct fs)=>fs.toList.flatMap fun f=>NW P n f.type
  | some (.array len e)=>(List.replicate len (NW P n e)).flatten
  | _=>[ctyOf P t]
def II (P:Program) (t:TypeId):Option Bool:=
 match P.underlying t with
 | some (.struct _)=>some true
 | some (.array _ _)=>some true
 | some _=>some false
 | none=>none
def Sz (P:Program) (t:TypeId):RTy:=
 match II P t with
 | some true=> .agg (NW P 8 t)
 | _=> .one (ctyOf P t)
def decV:RTy->TV->(TV->Prop)->Prop
 | .one c,v,f=>Bj c v fun y=>f (enc c y)
 | .agg cs,v,f=>match v with | .agg l=>decL cs l (LE cs fun l'=>f (.agg l')) | _=>False
theorem Qp {r:RTy} {v:TV} {f:TV->Prop} (h:decV r v f):f v:=by
 cases r with
 | one c=>obtain⟨y,rfl,h2⟩:=Dp h;exact h2
 | agg cs=>
  cases v<;>simp only[decV]at h<;>first | exact h.elim | skip
  exact LD (F:=fun l'=>f (.agg l')) h
def I9:Value->TV
 | .bool b=> .bool b
 | .int k n=> .int k n
 | .string s=> .str s.data.toList
 | .pointer none=> .nilPtr
 | .slice none 0 0=> .nilSlice
 | .map none=> .nilMap
 | .nilFunc=> .nilFunc
 | .nilIface=> .nilIface
 | _=> .junk
def ofV:Value->TV
 | .agg cs=> .agg (cs.toList.map I9)
 | v=>I9 v
theorem I8 (g:Ghost) (w:World) (v:Value):Rel g w (I9 v) v:=by
 unfold I9
 split
 ·exact .bool _
 ·exact .int _ _
 ·rename_i s;exact .str s.data.toList
 ·exact .nilPtr
 ·exact .nilSlice
 ·exact .nilMap
 ·exact .nilFunc
 ·exact .nilIface
 ·exact .junk _
theorem HF (g:Ghost) (w:World) (vs:List Value):AL g w (vs.map I9) vs:=by
 refine⟨by simp,fun i h=>?_⟩
 have hi:i<vs.length:=by simpa using h
 simp only[List.getElem_map,List.getD_eq_getElem?_getD,List.getElem?_eq_getElem hi,Option.getD_some]
 exact I8 g w _
theorem rel_ofV (g:Ghost) (w:World) (v:Value):Rel g w (ofV v) v:=by
 unfold ofV
 split
 ·rename_i cs
  have:=HF g w cs.toList
  exact .agg _ cs.toList this.1 this.2
 ·exact I8 g w v
def opS (slots:AP):Operand->SV
 | .tmp t=>slots.f t
 | .const v=> .t (ofV v)
 | .global _=> .t .junk
 | .func f=> .t (.func f [])
def SV.tv:SV->TV
 | .t v=>v
 | .loc _ _=> .junk
theorem Bp.tv {g:Ghost} {w:World} {loc:List (Option (List TV))} {s:SV} {u:Value} (h:Bp g w loc s u):Rel g w s.tv u:=by
 cases s with
 | t v=>exact h
 | loc i off=>exact .junk _
theorem Ns {g:Ghost} {w:World} {fr:Fr} {a:Act} (h:Fe g w fr a.tmps) (x:Operand):Bp g w fr.loc (opS fr.slots x) (a.eval x):=by
 cases x with
 | tmp t=>exact h.2 t
 | const v=>exact rel_ofV g w v
 | global n=>exact Rel.junk _
 | func f=>exact Rel.func f [] [] rfl (fun i hi=>absurd hi (Nat.not_lt_zero _))
def Ac (st:St) (loc:List (Option (List TV))) (p:SV) (j:Nat):Option TV:=
 match p with
 | .loc i off=>match loc[i]? with | some (some l)=>l[off+j]? | _=>none
 | .t (.box b off)=>match st.box b with | .cells l=>l[off+j]? | _=>none
 | .t (.rptr xs)=>xs[j]?
 | _=>none
def Aj (st:St) (loc:List (Option (List TV))) (p:SV):Nat->Nat->Option (List TV)
 | _,0=>some []
 | j,n+1=>match Ac st loc p j with
  | some x=>(Aj st loc p (j+1) n).map (x::·)
  | none=>none
theorem EB {g:Ghost} {st:St} {loc:List (Option (List TV))} {w:World} (s:Sim g st loc w) {p:SV} {pv:Value} (hp:Bp g w loc p pv) {j:Nat} {x:TV} (h:Ac st loc p j=some x):
  ∃b o v,pv= .pointer (some ⟨b,o,none⟩)/\w.cell? ⟨b,o+j,none⟩=some v/\Rel g w x v:=by
 unfold Ac at h
 split at h
 ·rename_i i off
  obtain⟨⟨l,hl⟩,rfl⟩:=hp
  rw[hl]at h
  have ob:=s.obj (.loc i) ⟨l,hl⟩
  simp only[A3,hl,Ghost.at]at ob
  obtain⟨cs,hc,hr⟩:=ob
  obtain⟨v,hv,hrel⟩:=hr.get? h
  exact⟨_,_,v,rfl,hc.get hv,hrel⟩
 ·rename_i b off
  cases hp with
  | box _ _ hb=>
   split at h
   ·rename_i l hl
    have ob:=s.obj (.box b) (show b<st.nb from s.nb▸hb)
    simp only[A3,hl,Ghost.at]at ob
    obtain⟨cs,hc,hr⟩:=ob
    obtain⟨v,hv,hrel⟩:=hr.get? h
    exact⟨_,_,v,rfl,hc.get hv,hrel⟩
   ·cases h
 ·rename_i xs
  cases hp with
  | rptr _ b o us hc hr=>
   obtain⟨hi,rfl⟩:=List.getElem?_eq_some_iff.1 h
   exact⟨b,o,us j,rfl,(hc j hi).2,hr j hi⟩
 ·cases h
theorem FG {g:Ghost} {st:St} {loc:List (Option (List TV))} {w:World} (s:Sim g st loc w) {p:SV} {b o:Nat} (hp:Bp g w loc p (.pointer (some ⟨b,o,none⟩))):
  ∀(n j:Nat) (xs:List TV),Aj st loc p j n=some xs->∃vs:List Value,vs.length=n/\AL g w xs vs/\∀i v,vs[i]? =some v->w.cell? ⟨b,o+j+i,none⟩=some v:=by
 intro n
 induction n with
 | zero=>intro j xs h;simp only[Aj,Option.some.injEq]at h;subst h;exact⟨[],rfl,.nil _ _,fun i v hv=>by simp at hv⟩
 | succ n ih=>
  intro j xs h
  simp only[Aj]at h
  split at h
  ·rename_i x hx
   obtain⟨ys,hys,rfl⟩:=Option.map_eq_some_iff.1 h
   obtain⟨b',o',v,hpv,hv,hrel⟩:=EB s hp hx
   simp only[Value.pointer.injEq,Option.some.injEq,Addr.mk.injEq]at hpv
   obtain⟨rfl,rfl,_⟩:=hpv
   obtain⟨vs,hlen,hr,hc⟩:=ih (j+1) ys hys
   refine⟨v::vs,by simp[hlen],.cons hrel hr,fun i u hu=>?_⟩
   cases i with
   | zero=>simp at hu;subst hu;simpa using hv
   | succ i=>have:=hc i u (by simpa using hu);rw[show o+j+(i+1)=o+(j+1)+i from by omega];exact this
  ·cases h
inductive AY where
 | bad
 | ok (v:SV)
 | chk (b:Bool) (v:SV)
 | pre (c:Prop) (v:SV)
 | opt (o:Option TV)
 | optm (o:Option (List (B8×TV))) (f:List (B8×TV)->TV)
def AY.K:AY->(SV->Prop)->Prop
 | .bad,_=>False
 | .ok v,k=>k v
 | .chk b v,k=>need b (k v)
 | .pre c v,k=>c/\k v
 | .opt o,k=>Ar o fun v=>k (.t v)
 | .optm o f,k=>Ar o fun v=>k (.t (f v))
def AY.Is:AY->SV->Prop
 | .bad,_=>False
 | .ok v,u=>u=v
 | .chk b v,u=>b=true/\u=v
 | .pre c v,u=>c/\u=v
 | .opt o,u=>∃v,o=some v/\u= .t v
 | .optm o f,u=>∃v,o=some v/\u= .t (f v)
theorem AY.K_iff {r:AY} {k:SV->Prop}:r.K k↔∃v,r.Is v/\k v:=by
 cases r with
 | bad=>simp[AY.K,AY.Is]
 | ok v=>simp[AY.K,AY.Is]
 | chk b v=>simp only[AY.K,AY.Is,Ak];exact⟨fun h=>⟨v,⟨h.1,rfl⟩,h.2⟩,fun ⟨u,⟨h,e⟩,hk⟩=>⟨h,e▸hk⟩⟩
 | pre c v=>simp only[AY.K,AY.Is];exact⟨fun h=>⟨v,⟨h.1,rfl⟩,h.2⟩,fun ⟨u,⟨h,e⟩,hk⟩=>⟨h,e▸hk⟩⟩
 | opt o=>simp only[AY.K,AY.Is,BY];exact⟨fun ⟨x,h,hk⟩=>⟨_,⟨x,h,rfl⟩,hk⟩,fun ⟨u,⟨x,h,e⟩,hk⟩=>⟨x,h,e▸hk⟩⟩
 | optm o f=>simp only[AY.K,AY.Is,BY];exact⟨fun ⟨x,h,hk⟩=>⟨_,⟨x,h,rfl⟩,hk⟩,fun ⟨u,⟨x,h,e⟩,hk⟩=>⟨x,h,e▸hk⟩⟩
def lenS:TV->Nat
 | .list _ _ n _=>n
 | .ms _ _ _ n _=>n
 | _=>0
def isSl:TV->Bool
 | .nilSlice=>true
 | .list _ _ _ _=>true
 | .ms _ _ _ _ _=>true
 | _=>false
def lenZ (sz:Nat):TV->Nat
 | .list s _ n _=>match s.beq sz with | true=>n | false=>0
 | .ms s _ _ n _=>match s.beq sz with | true=>n | false=>0
 | _=>0
def ixT (sz:Nat):TV->Nat->TV
 | .list _ _ _ xs,i=> .rptr (xs.drop (i*sz))
 | .ms _ b off _ _,i=> .box b (off+i*sz)
 | _,_=> .junk
def AV:TV->Nat->TV
 | .box b off,f=> .box b (off+f)
 | .rptr xs,f=> .rptr (xs.drop f)
 | _,_=> .junk
def isPtr:TV->Bool
 | .box _ _=>true
 | .rptr _=>true
 | _=>false
def FH:TV->Bool
 | .box _ _=>true
 | .rptr _=>true
 | .nilPtr=>true
 | _=>false
def BT:TV->Bool
 | .nilPtr=>true
 | .nilSlice=>true
 | .nilMap=>true
 | .nilFunc=>true
 | .nilIface=>true
 | _=>false
def slT (sz:Nat) (tip:Tip):TV->Nat->Nat->TV
 | .list s _ _ xs,l,h=> .list s tip (h-l) ((xs.take (h*sz)).drop (l*sz))
 | .nilSlice,_,_=> .nilSlice
 | _,_,_=> .junk
def H9 (sz:Nat):TV->Bool
 | .nilSlice=>true
 | .list s _ _ _=>s.beq sz
 | _=>false
def Pu (c:UInt8):TV:= .int .u8 (c.toNat:Int)
def A5 (l:B8):List TV:=l.map Pu
def TP:TV->Option UInt8
 | .int .u8 n=>some (UInt8.ofNat n.toNat)
 | _=>none
def GQ:List TV->Option B8
 | []=>some []
 | x::xs=>match TP x with
  | some c=>(GQ xs).map (c::·)
  | none=>none
def HA (st:St):TV->Option B8
 | .nilSlice=>some []
 | .list sz _ _ xs=>match sz.beq 1 with | true=>GQ xs | false=>none
 | .ms sz b off n _=>match sz.beq 1 with
  | true=>match Aj st [] (.t (.box b off)) 0 n with | some xs=>GQ xs | none=>none
  | false=>none
 | _=>none
def cmpI:BinOp->Int->Int->Option Bool
 | .eql,x,y=>some (decide (x=y))
 | .neq,x,y=>some (decide (x≠y))
 | .lss,x,y=>some (decide (x<y))
 | .leq,x,y=>some (decide (x<=y))
 | .gtr,x,y=>some (decide (y<x))
 | .geq,x,y=>some (decide (y<=x))
 | _,_,_=>none
def Ct (op:BinOp) (k:IntKind) (x y:Int):Int:=
 match op with
 | .and=>k.wrap (BitVec.ofInt k.bits x&&&BitVec.ofInt k.bits y).toNat
 | .or=>k.wrap (BitVec.ofInt k.bits x ||| BitVec.ofInt k.bits y).toNat
 | .xor=>k.wrap (BitVec.ofInt k.bits x^^^BitVec.ofInt k.bits y).toNat
 | _=>k.wrap (BitVec.ofInt k.bits x&&& ~~~BitVec.ofInt k.bits y).toNat
def binI (op:BinOp) (k:IntKind) (x y:Int):AY:=
 match op with
 | .add=> .ok (.t (.int k (k.wrap (x+y))))
 | .sub=> .ok (.t (.int k (k.wrap (x-y))))
 | .mul=> .ok (.t (.int k (k.wrap (x*y))))
 | .quo=> .chk (decide (y≠0)) (.t (.int k (k.wrap (x.tdiv y))))
 | .rem=> .chk (decide (y≠0)) (.t (.int k (x.tmod y)))
 | .and=> .ok (.t (.int k (Ct .and k x y)))
 | .or=> .ok (.t (.int k (Ct .or k x y)))
 | .xor=> .ok (.t (.int k (Ct .xor k x y)))
 | .andNot=> .ok (.t (.int k (Ct .andNot k x y)))
 | op=>match cmpI op x y with
  | some b=> .ok (.t (.bool b))
  | none=> .bad
def shI (op:BinOp) (k:IntKind) (x y:Int):AY:=
 match op with
 | .shl=> .chk (decide (0<=y)) (.t (.int k (k.wrap (x*2^(min y.toNat k.bits)))))
 | .shr=> .chk (decide (0<=y)) (.t (.int k (x.fdiv (2^(min y.toNat k.bits)))))
 | _=> .bad
def binS (op:BinOp) (x y:B8):AY:=
 match op with
 | .add=> .pre (x.length+y.length<=9223372036854775807) (.t (.str (x++y)))
 | .eql=> .ok (.t (.bool (decide (x=y))))
 | .neq=> .ok (.t (.bool (decide (x≠y))))
 | .lss=> .ok (.t (.bool (Op.bytesLess x y)))
 | .gtr=> .ok (.t (.bool (!(Op.bytesLess x y || decide (x=y)))))
 | .leq=> .ok (.t (.bool (Op.bytesLess x y || decide (x=y))))
 | .geq=> .ok (.t (.bool (!Op.bytesLess x y)))
 | _=> .bad
def nilP (P:Program) (t:TypeId) (x:TV) (want:Option Bool):AY:=
 match want with
 | none=> .bad
 | some eq=>
  match P.underlying t with
  | some (.pointer _)=> .chk (FH x) (.t (.bool (match eq with | true=>BT x | false=> !BT x)))
  | _=> .bad
def nilS (P:Program) (t:TypeId) (x:TV) (want:Option Bool):AY:=
 match want with
 | none=> .bad
 | some eq=>
  match P.underlying t with
  | some (.slice _)=> .chk (isSl x) (.t (.bool (match eq with | true=>BT x | false=> !BT x)))
  | _=> .bad
def DE:BinOp->Option Bool
 | .eql=>some true
 | .neq=>some false
 | _=>none
def Q4:BinOp->Bool
 | .shl=>true
 | .shr=>true
 | _=>false
def binV (P:Program) (op:BinOp) (t:TypeId) (x y:TV):AY:=
 match x,y with
 | .int k a,.int k' b=>match Q4 op with
  | true=>shI op k a b
  | false=>match decide (k=k')with | true=>binI op k a b | false=> .bad
 | .str a,.str b=>binS op a b
 | .bool a,.bool b=>match P.underlying t with
  | some .bool=>match op with
   | .eql=> .ok (.t (.bool (a==b)))
   | .neq=> .ok (.t (.bool (!(a==b))))
   | _=> .bad
  | _=> .bad
 | _,_=> .bad
def Qi (P:Program) (t:TypeId):TV->TV->Option Bool
 | .int k a,.int k' b=>match P.underlying t with
  | some (.int _)=>match decide (k=k')with | true=>some (decide (a=b)) | false=>none
  | _=>none
 | .bool a,.bool b=>match P.underlying t with
  | some .bool=>some (a==b)
  | _=>none
 | .str a,.str b=>match P.underlying t with
  | some .string=>some (decide (a=b))
  | _=>none
 | _,_=>none
def Tr (P:Program) (xs ys:List TV):List Field->Option Bool
 | []=>some true
 | f :: fs => match decide (f.name ≠ "_"), II P f.type, xs[f.offset]?, ys[f.offset]? with
  | true,some false,some x,some y=>match Qi P f.type x y with
   | some b=>match Tr P xs ys fs with
    | some r=>some (b&&r)
    | none=>none
   | none=>none
  | _,_,_,_=>none
def aggN (P:Program) (t:TypeId) (x:TV) (ys:List TV) (want:Option Bool):AY:=
 match want,x,P.underlying t with
 | some eq,.agg xs,some (.struct fs)=>match (P.eqGuardType P.depth t).or (P.stoodInHeld t)with
  | false=>match Tr P xs ys fs.toList with
   | some b=> .ok (.t (.bool (match eq with | true=>b | false=> !b)))
   | none=> .bad
  | true=> .bad
 | _,_,_=> .bad
def ptrN (P:Program) (t:TypeId) (x:TV) (b o:Nat) (want:Option Bool):AY:=
 match want,P.underlying t with
 | some eq,some (.pointer e)=>match P.cellsOf e with
  | 0=> .bad
  | _=> .pre (x= .box b o) (.t (.bool eq))
 | _,_=> .bad
def TL (P:Program) (op:BinOp) (t:TypeId) (x y:TV):AY:=
 match y with
 | .nilPtr=>nilP P t x (DE op)
 | .nilSlice=>nilS P t x (DE op)
 | .agg ys=>aggN P t x ys (DE op)
 | .box b o=>ptrN P t x b o (DE op)
 | y=>binV P op t x y
def Jm (P:Program) (t:TypeId) (f:Nat):Option Field:=
 match P.underlying t with
 | some (.struct fs)=>fs[f]?
 | _=>none
def SG (P:Program) (t:TypeId) (xs:List TV) (off:Nat):Option TV:=
 match II P t with
 | some true=>match (off+P.cellsOf t).ble xs.length with | true=>some (.agg ((xs.drop off).take (P.cellsOf t))) | false=>none
 | some false=>xs[off]?
 | none=>none
def Cr (P:Program) (t:TypeId):Option TypeId:=
 match P.underlying t with
 | some (.slice e)=>some e
 | _=>none
def DC (P:Program) (st:St) (loc:List (Option (List TV))) (t:TypeId) (p:SV):AY:=
 match II P t with
 | some true=> .opt (match P.cellsOf t with | 0=>none | n=>(Aj st loc p 0 n).map .agg)
 | some false=> .opt (Ac st loc p 0)
 | none=> .bad
def D1 (P:Program) (t:TypeId):Option Nat:=match P.info? t with | some i=>some i.size | none=>none
def K0 (P:Program) (t:TypeId) (x:TV) (lo hi mx:Option TV):AY:=
 match P.underlying t,x with
 | some .string,.str s=>match lo,hi,mx with
  | none,none,none=> .ok (.t (.str s))
  | some (.int _ l),none,none=> .pre (0<=l/\l<=s.length) (.t (.str (s.drop l.toNat)))
  | none,some (.int _ h),none=> .pre (0<=h/\h<=s.length) (.t (.str (s.take h.toNat)))
  | some (.int _ l),some (.int _ h),none=> .pre (0<=l/\l<=h/\h<=s.length) (.t (.str ((s.take h.toNat).drop l.toNat)))
  | _,_,_=> .bad
 | some (.slice e),v=>match D1 P e with
  | none=> .bad
  | some sz=>match lo,hi,mx with
   | some (.int _ l),none,none=> .pre (H9 sz v=true/\0<=l/\l<=lenS v) (.t (slT sz .non v l.toNat (lenS v)))
   | none,some (.int _ h),none=> .pre (H9 sz v=true/\0<=h/\h<=lenS v) (.t (slT sz .non v 0 h.toNat))
   | some (.int _ l),some (.int _ h),none=> .pre (H9 sz v=true/\0<=l/\l<=h/\h<=lenS v) (.t (slT sz .non v l.toNat h.toNat))
   | none,some (.int _ h),some (.int _ m)=> .pre (H9 sz v=true/\0<=h/\h<=lenS v/\m=h) (.t (slT sz .full v 0 h.toNat))
   | some (.int _ l),some (.int _ h),some (.int _ m)=> .pre (H9 sz v=true/\0<=l/\l<=h/\h<=lenS v/\m=h) (.t (slT sz .full v l.toNat h.toNat))
   | _,_,_=> .bad
 | _,_=> .bad
def MP (P:Program) (st:St) (src dst:TypeId) (x:TV):AY:=
 match P.underlying src,P.underlying dst,x with
 | some _,some (.int k),.int _ n=> .ok (.t (.int k (k.wrap n)))
 | some .string,some .string,.str l=> .ok (.t (.str l))
 | some (.slice e),some .string,v=>match P.underlying e with
  | some (.int .u8)=> .opt ((HA st v).map .str)
  | _=> .bad
 | some (.pointer t),some .unsafePointer,.box b off=>match P.cellsOf t with
  | 0=> .bad
  | _=> .pre ((Ac st [] (.t (.box b off)) 0).isSome=true) (.t (.box b off))
 | _,_,_=> .bad
def S4 (P:Program) (t:TypeId) (x:TV):AY:=
 match P.underlying t,x with
 | some .string,.str l=> .ok (.t (.int .i64 (l.length:Int)))
 | some (.slice _),v=> .chk (isSl v) (.t (.int .i64 (lenS v:Int)))
 | _,_=> .bad
def PS (x:TV):Option TV:=
 match x with
 | .nilSlice=>some .nilPtr
 | .list sz tip n xs=>match n.beq 0 with | true=>none | false=>some (.sptr (.list sz tip n xs))
 | _=>none
def AA (k:B8):List (B8×TV)->Option TV
 | []=>none
 | (k',v)::es=>match decide (k=k')with | true=>some v | false=>AA k es
def Er (st:St):TV->Option (List (B8×TV))
 | .nilMap=>some []
 | .map b=>match st.box b with | .map es=>some es | _=>none
 | _=>none
def Au (z:TV):Option TV->TV
 | some v=>v
 | none=>z
def QL (P:Program) (t:TypeId):Option TV:=
 match P.info? t with
 | some i=>match i.zero with
  | some (.agg _)=>none
  | some z=>some (I9 z)
  | none=>none
 | none=>none
def okT (ok:Bool) (z:TV) (o:Option TV):TV:=match ok with | true=> .tuple [Au z o,.bool o.isSome] | false=>Au z o
def BD (k:Nat):List (Nat×TV)->Option TV
 | []=>none
 | (k',v')::es=>match Nat.beq k k' with | true=>some v' | false=>BD k es
def pkey:TV->Option Nat
 | .box b off=>match Nat.beq off 0 with | true=>some b | false=>none
 | _=>none
def Ao (st:St) (b:Nat):Bool:=match st.box b with | .cells (_::_)=>true | _=>false
def K8 (st:St):TV->Option (List (Nat×TV))
 | .map b=>match st.box b with | .pmap es=>some es | _=>none
 | _=>none
def Lb (st:St) (x i:TV):Option (List (Nat×TV)×Nat):=
 match K8 st x,pkey i with
 | some es,some k=>match (Ao st k).and (es.all fun p=>Ao st p.1)with | true=>some (es,k) | false=>none
 | _,_=>none
def plook (st:St) (x i:TV) (ok:Bool) (z:TV):Option TV:=(Lb st x i).map fun p=>okT ok z (BD p.2 p.1)
def My (P:Program) (st:St) (t:TypeId) (x i:TV) (ok:Bool):AY:=
 match P.underlying t with
 | some (.map kt e)=>match P.underlying kt with
  | some .string=>match i,QL P e with
   | .str k,some z=> .optm (Er st x) fun es=>okT ok z (AA k es)
   | _,_=> .bad
  | some (.pointer pe)=>match P.cellsOf pe,QL P e with
   | _+1,some z=> .opt (plook st x i ok z)
   | _,_=> .bad
  | _=> .bad
 | _=> .bad
def RU (mx:Bool):TV->TV->AY
 | .int k a,.int k' b=>match decide (k=k')with
  | true=> .ok (.t (.int k (match mx with | true=>max a b | false=>min a b)))
  | false=> .bad
 | _,_=> .bad
def arrOf (P:Program) (t:TypeId):Option (Nat×TypeId):=match P.underlying t with
 | some (.array m e)=>some (m,e)
 | _=>none
def At:TV->Bool
 | .undef=>false
 | .junk=>false
 | .agg _=>false
 | .tuple _=>false
 | _=>true
def setAll {α:Type}:List α->Nat->List α->List α
 | l,_,[]=>l
 | l,off,x::xs=>setAll (l.set off x) (off+1) xs
def Fj (P:Program) (t:TypeId):Option (List TV):=
 match P.info? t with
 | some i=>match i.zero with
  | some z=>some (z.cells.toList.map I9)
  | none=>none
 | none=>none
def Fb:TV->Option (List TV)
 | .agg l=>some l
 | .undef=>none
 | .junk=>none
 | .tuple _=>none
 | v=>some [v]
def Qv (b:Bool) (v:TV):Option (List TV):=match b with | true=>some [v] | false=>Fb v
def Lw (place:Nat->Option (Nat×Nat)) (scal:Nat->Bool):List TV->List (Nat×TV)->Option (List TV)
 | cells,[]=>some cells
 | cells,(i,v)::rest=>
  match place i,Qv (scal i) v with
  | some (off,size),some cs=>match (cs.length.beq size).and ((off+size).ble cells.length)with
   | true=>Lw place scal (setAll cells off cs) rest
   | false=>none
  | _,_=>none
def Ld (scal:Nat->Bool) (parts:List (Nat×TV)):Bool:=parts.all fun p=>(!(scal p.1)).or (At p.2)
def Ih (z:List TV) (n:Nat):List TV:=(List.range n).map fun i=>z.getD (i%z.length) .junk
def K3 (P:Program) (t:TypeId):Bool:=match II P t with | some false=>true | _=>false
def bslN (P:Program) (t:TypeId) (len:Nat) (ps:List (Nat×TV)):AY:=
 match Cr P t with
 | some e=>match D1 P e,Fj P e with
  | some sz,some z=>match Lw (fun i=>some (i*sz,sz)) (fun _=>K3 P e) (Ih z (len*sz)) ps with
   | some cells=> .chk ((((len*sz).ble 16777216).and ((z.length.beq sz).and (Nat.ble 1 sz))).and (Ld (fun _=>K3 P e) ps)) (.t (.list sz .full len cells))
   | none=> .bad
  | _,_=> .bad
 | none=> .bad
def BB (P:Program) (st:St) (loc:List (Option (List TV))) (ρ:Operand->SV) (op:Op):AY:=
 match op with
 | .move x=> .ok (ρ x)
 | .assign x=> .ok (ρ x)
 | .pick c a b=>match (ρ c).tv,ρ a,ρ b with
  | .bool true,x,_=> .ok x
  | .bool false,_,y=> .ok y
  | _,_,_=> .bad
 | .load t a=>DC P st loc t (ρ a)
 | .nilCheck x=>match ρ x with
  | .loc i off=> .ok (.loc i off)
  | .t v=> .chk (isPtr v) (.t v)
 | .binOp op t x y _=>match ρ x with
  | .loc _ _=>match (ρ y).tv,P.underlying t,DE op with
   | .nilPtr,some (.pointer _),some eq=> .ok (.t (.bool (!eq)))
   | _,_,_=> .bad
  | .t a=>TL P op t a (ρ y).tv
 | .unOp .not _ x=>match (ρ x).tv with
  | .bool b=> .ok (.t (.bool (!b)))
  | _=> .bad
 | .unOp .neg _ x=>match (ρ x).tv with
  | .int k n=> .ok (.t (.int k (k.wrap (0-n))))
  | _=> .bad
 | .convert s d x=>MP P st s d (ρ x).tv
 | .makeFunc (.func f) first cap=>match first.size with
  | 0=> .ok (.t (.func f (cap.toList.map fun x=>(ρ x).tv)))
  | _=> .bad
 | .slice t x lo hi mx=>K0 P t (ρ x).tv (lo.map fun x=>(ρ x).tv) (hi.map fun x=>(ρ x).tv) (mx.map fun x=>(ρ x).tv)
 | .fieldAddr t x f=>match Jm P t f with
  | some fd=>match P.cellsOf fd.type with
   | 0=> .bad
   | _=>match ρ x with
    | .loc i off=> .ok (.loc i (off+fd.offset))
    | .t v=> .chk (isPtr v) (.t (AV v fd.offset))
  | none=> .bad
 | .field t x f=>match Jm P t f,(ρ x).tv with
  | some fd,.agg xs=> .opt (SG P fd.type xs fd.offset)
  | _,_=> .bad
 | .indexAddr t x i=>match ρ x with
  | .loc k off=>match arrOf P t,(ρ i).tv with
   | some (m,e),.int _ n=>match D1 P e with
    | some sz=> .pre (0<=n/\n<(m:Int)) (.loc k (off+n.toNat*sz))
    | none=> .bad
   | _,_=> .bad
  | .t v=>match Cr P t,(ρ i).tv with
   | some e,.int _ n=>match D1 P e with
    | some sz=> .pre (0<=n/\n<lenZ sz v) (.t (ixT sz v n.toNat))
    | none=> .bad
   | _,_=> .bad
 | .index t x i=>match P.underlying t,(ρ x).tv,(ρ i).tv with
  | some .string,.str s,.int _ n=> .pre (0<=n/\n<s.length) (.t (.int .u8 ((s.getD n.toNat 0).toNat:Int)))
  | _,_,_=> .bad
 | .extract x i=>match (ρ x).tv with
  | .tuple xs=> .opt xs[i]?
  | _=> .bad
 | .call {callee:= .builtin .len,args,argTypes}=>match args[0]?,argTypes[0]? with
  | some x,some t=>S4 P t (ρ x).tv
  | _,_=> .bad
 | .call {callee:= .builtin .unsafeSliceData,args,argTypes}=>match args.toList with
  | [x]=> .opt (PS (ρ x).tv)
  | _=> .bad
 | .lookup t x i ok=>My P st t (ρ x).tv (ρ i).tv ok
 | .buildSlice t len parts=>bslN P t len (parts.toList.map fun p=>(p.1,(ρ p.2).tv))
 | .call {callee:= .builtin .min,args,argTypes}=>match args.toList with
  | [x,y]=>RU false (ρ x).tv (ρ y).tv
  | _=> .bad
 | .call {callee:= .builtin .max,args,argTypes}=>match args.toList with
  | [x,y]=>RU true (ρ x).tv (ρ y).tv
  | _=> .bad
 | _=> .bad
end Go.TVF
end
section
namespace Go.TVF
open Go.IntKind(i64 u8)
open Go.RowKit (Below)
def Gives (P:Program) (s:Sem Next) (w:World) (g:Ghost) (loc:List (Option (List TV))) (v:SV):Prop:=
 ∃u,s.run P w= .ok (.value u) w/\Bp g w loc v u
section
variable {P:Program} {g:Ghost} {st:St} {loc:List (Option (List TV))} {w:World}
theorem As {t:TypeId} {d:TypeDesc} (h:P.underlying t=some d) (w:World):(underlying t).run P w= .ok d w:=run_underlying h w
theorem TN (op:BinOp) (k:IntKind) (a b:Int) (v:SV) (h:(binI op k a b).Is v) (hs:Q4 op=false) (t:TypeId) (x y:Operand):
  ∃u,(do eqGuard op t x y (.int k a) (.int k b);Go.binOp op t (.int k a) (.int k b)).run P w= .ok u w/\Bp g w loc v u:=by
 have hg:(eqGuard op t x y (.int k a) (.int k b)).run P w= .ok () w:=by
  unfold eqGuard
  cases op<;>simp
 simp only[Sem.run_bind,hg,Result.andThen_ok]
 cases op<;>first | (exact absurd hs (by decide)) | skip
 all_goals simp only[binI,AY.Is,cmpI]at h
 all_goals simp only[Go.binOp,ne_eq,not_true_eq_false,if_false,Op.intArith,Op.intDiv,Op.intBits,Op.intCmp]
 case quo=>obtain⟨h1,rfl⟩:=h;have:=of_decide_eq_true h1;rw[if_neg this];exact⟨_,rfl,Rel.int _ _⟩
 case rem=>obtain⟨h1,rfl⟩:=h;have:=of_decide_eq_true h1;rw[if_neg this];exact⟨_,rfl,Rel.int _ _⟩
 all_goals subst h
 case add=>exact⟨_,rfl,Rel.int _ _⟩
 case sub=>exact⟨_,rfl,Rel.int _ _⟩
 case mul=>exact⟨_,rfl,Rel.int _ _⟩
 case and=>exact⟨_,rfl,Rel.int _ _⟩
 case or=>exact⟨_,rfl,Rel.int _ _⟩
 case xor=>exact⟨_,rfl,Rel.int _ _⟩
 case andNot=>exact⟨_,rfl,Rel.int _ _⟩
 all_goals (refine⟨_,rfl,?_⟩)
 case eql=>rw[show(a==b)=decide (a=b)from rfl];exact Rel.bool _
 case neq=>rw[show(a !=b)=decide (a≠b)from by rw[Bool.eq_iff_iff];simp];exact Rel.bool _
 case lss=>exact Rel.bool _
 case leq=>exact Rel.bool _
 case gtr=>exact Rel.bool _
 case geq=>exact Rel.bool _
theorem shI_run (op:BinOp) (k k':IntKind) (a b:Int) (v:SV) (h:(shI op k a b).Is v) (t:TypeId) (x y:Operand):
  ∃u,(do eqGuard op t x y (.int k a) (.int k' b);Go.binOp op t (.int k a) (.int k' b)).run P w= .ok u w/\Bp g w loc v u:=by
 have hg:(eqGuard op t x y (.int k a) (.int k' b)).run P w= .ok () w:=by
  unfold eqGuard
  cases op<;>simp
 simp only[Sem.run_bind,hg,Result.andThen_ok]
 cases op<;>simp only[shI,AY.Is]at h
 case shl=>
  obtain⟨h1,rfl⟩:=h
  have:=of_decide_eq_true h1
  simp only[Go.binOp,Op.shift]
  rw[if_neg (by omega)]
  exact⟨_,rfl,Rel.int _ _⟩
 case shr=>
  obtain⟨h1,rfl⟩:=h
  have:=of_decide_eq_true h1
  simp only[Go.binOp,Op.shift]
  rw[if_neg (by omega)]
  exact⟨_,rfl,Rel.int _ _⟩
theorem toList_mk (l:B8):(ByteArray.mk l.toArray).toList=l:=by
 first | exact ByteArray.toList_mk l | exact Go.ByteArray.toList_mk l
theorem TM (op:BinOp) (a b:B8) (v:SV) (h:(binS op a b).Is v) (t:TypeId) (x y:Operand):
  ∃u,(do eqGuard op t x y (.string ⟨a.toArray⟩) (.string ⟨b.toArray⟩);Go.binOp op t (.string ⟨a.toArray⟩) (.string ⟨b.toArray⟩)).run P w= .ok u w/\Bp g w loc v u:=by
 have hg:(eqGuard op t x y (.string ⟨a.toArray⟩) (.string ⟨b.toArray⟩)).run P w= .ok () w:=by
  unfold eqGuard
  cases op<;>simp
 simp only[Sem.run_bind,hg,Result.andThen_ok]
 cases op<;>simp only[binS,AY.Is]at h
 case add=>
  obtain⟨h1,rfl⟩:=h
  simp only[Go.binOp,Op.stringOp]
  rw[if_neg (by
   have e1:(ByteArray.mk a.toArray).size=a.length:=by simp[ByteArray.size]
   have e2:(ByteArray.mk b.toArray).size=b.length:=by simp[ByteArray.size]
   rw[e1,e2]
   have:IntKind.i64.max=9223372036854775807:=by decide
   rw[this];omega)]
  refine⟨_,rfl,?_⟩
  have:(ByteArray.mk a.toArray++ByteArray.mk b.toArray)=ByteArray.mk (a++b).toArray:=by
   apply ByteArray.ext
   simp
  rw[this]
  exact Rel.str _
 all_goals subst h
 all_goals simp only[Go.binOp,Op.stringOp,toList_mk]
 all_goals refine⟨_,rfl,?_⟩
 case eql=>rw[show(a==b)=decide (a=b)from by rw[Bool.eq_iff_iff];simp];exact Rel.bool _
 case neq=>rw[show(!(a==b))=decide (a≠b)from by rw[Bool.eq_iff_iff];simp];exact Rel.bool _
 case lss=>exact Rel.bool _
 case leq=>rw[show(a==b)=decide (a=b)from by rw[Bool.eq_iff_iff];simp];exact Rel.bool _
 case gtr=>rw[show(a==b)=decide (a=b)from by rw[Bool.eq_iff_iff];simp];exact Rel.bool _
 case geq=>exact Rel.bool _
theorem TO (op:BinOp) (a b:Bool) (v:SV) (t:TypeId) (ht:P.underlying t=some .bool) (x y:Operand)
  (h:(match op with | .eql=>AY.ok (.t (.bool (a==b))) | .neq=> .ok (.t (.bool (!(a==b)))) | _=> .bad:AY).Is v):
  ∃u,(do eqGuard op t x y (.bool a) (.bool b);Go.binOp op t (.bool a) (.bool b)).run P w= .ok u w/\Bp g w loc v u:=by
 have hg:(eqGuard op t x y (.bool a) (.bool b)).run P w= .ok () w:=by
  unfold eqGuard
  cases op<;>simp
 simp only[Sem.run_bind,hg,Result.andThen_ok]
 cases op<;>simp only[AY.Is]at h
 case eql=>subst h;exact⟨_,run_eql_bool w t a b ht,Rel.bool _⟩
 case neq=>subst h;exact⟨_,run_neq_bool w t a b ht,Rel.bool _⟩
theorem Fu (op:BinOp) (t:TypeId) (x y:Operand) (a b:Value) (h:match a,b with | .nilIface,.nilIface=>False | .agg _,.agg _=>False | _,_=>True):
  (eqGuard op t x y a b).run P w= .ok () w:=by
 unfold eqGuard
 cases op<;>simp only[Bool.not_true,Bool.not_false,Bool.false_eq_true,if_false,if_true]<;>first | rfl | skip
 all_goals
  split
  ·exact h.elim
  ·exact h.elim
  ·rfl
theorem GJ (t e:TypeId) (p:Option Addr) (ht:P.underlying t=some (.pointer e)):(Go.binOp .eql t (.pointer p) (.pointer none)).run P w= .ok (.bool p.isNone) w/\
  (Go.binOp .neq t (.pointer p) (.pointer none)).run P w= .ok (.bool (!p.isNone)) w:=by
 have h:P.underlying t=some (.pointer (P.pointee t)):=by rw[ht];simp only[Program.pointee,ht]
 exact⟨run_eql_pointer_nil w t p h,run_neq_pointer_nil w t p h⟩
theorem MK (t e:TypeId) (p:Option Addr) (l c:Nat) (ht:P.underlying t=some (.slice e)):(Go.binOp .eql t (.slice p l c) (.slice none 0 0)).run P w= .ok (.bool p.isNone) w/\
  (Go.binOp .neq t (.slice p l c) (.slice none 0 0)).run P w= .ok (.bool (!p.isNone)) w:=by
 refine⟨?_,run_neq_slice_nil w t e p l c ht⟩
 have:=run_equal_slice_nil w t e p l c ht
 show(do pure (Value.bool (<-Op.equal t (.slice p l c) (.slice none 0 0)))).run P w=_
 simp only[Sem.run_bind,this,Result.andThen_ok]
 rfl
theorem SO (op:BinOp) (t:TypeId) (x:TV) (xv:Value) (hx:Rel g w x xv) (v:SV) (xo yo:Operand) (h:(nilP P t x (DE op)).Is v):
  ∃u,(do eqGuard op t xo yo xv (.pointer none);Go.binOp op t xv (.pointer none)).run P w= .ok u w/\Bp g w loc v u:=by
 have hg:(eqGuard op t xo yo xv (.pointer none)).run P w= .ok () w:=by
  apply Fu
  cases xv<;>trivial
 simp only[Sem.run_bind,hg,Result.andThen_ok]
 unfold nilP at h
 split at h
 ·exact h.elim
 ·rename_i eq heq
  split at h
  ·rename_i e ht
   obtain⟨h1,rfl⟩:=h
   cases op<;>simp only[DE,Option.some.injEq,reduceCtorEq]at heq
   all_goals subst heq
   all_goals cases x<;>simp only[FH,Bool.false_eq_true]at h1
   all_goals cases hx
   all_goals first
    | exact⟨_,(GJ t e _ ht).1,Rel.bool _⟩
    | exact⟨_,(GJ t e _ ht).2,Rel.bool _⟩
  ·exact h.elim
theorem SN (op:BinOp) (t:TypeId) (x:TV) (xv:Value) (hx:Rel g w x xv) (v:SV) (xo yo:Operand) (h:(nilS P t x (DE op)).Is v):
  ∃u,(do eqGuard op t xo yo xv (.slice none 0 0);Go.binOp op t xv (.slice none 0 0)).run P w= .ok u w/\Bp g w loc v u:=by
 have hg:(eqGuard op t xo yo xv (.slice none 0 0)).run P w= .ok () w:=by
  apply Fu
  cases xv<;>trivial
 simp only[Sem.run_bind,hg,Result.andThen_ok]
 unfold nilS at h
 split at h
 ·exact h.elim
 ·rename_i eq heq
  split at h
  ·rename_i e ht
   obtain⟨h1,rfl⟩:=h
   cases op<;>simp only[DE,Option.some.injEq,reduceCtorEq]at heq
   all_goals subst heq
   all_goals cases x<;>simp only[isSl,Bool.false_eq_true]at h1
   all_goals cases hx
   all_goals first
    | exact⟨_,(MK t e _ _ _ ht).1,Rel.bool _⟩
    | exact⟨_,(MK t e _ _ _ ht).2,Rel.bool _⟩
  ·exact h.elim
theorem TJ (op:BinOp) (t:TypeId) (x y:TV) (xv yv:Value) (hx:Rel g w x xv) (hy:Rel g w y yv) (v:SV) (xo yo:Operand) (h:(binV P op t x y).Is v):
  ∃u,(do eqGuard op t xo yo xv yv;Go.binOp op t xv yv).run P w= .ok u w/\Bp g w loc v u:=by
 unfold binV at h
 split at h
 ·cases hx;cases hy
  split at h
  ·exact shI_run _ _ _ _ _ _ h _ _ _
  ·split at h
   ·rename_i hk
    have:=of_decide_eq_true hk
    subst this
    exact TN _ _ _ _ _ h ‹_› _ _ _
   ·exact h.elim
 ·cases hx;cases hy
  exact TM _ _ _ _ h _ _ _
 ·cases hx;cases hy
  split at h
  ·exact TO _ _ _ _ _ ‹_› _ _ h
  ·exact h.elim
 ·exact h.elim
theorem O5 {t:TypeId} {d:TypeDesc} (h:P.underlying t=some d):∃i,P.info? t=some i:=by
 unfold Program.underlying at h
 split at h
 ·exact⟨_,‹_›⟩
 ·exact⟨_,‹_›⟩
 ·cases h
theorem Hc {t:TypeId} {d:TypeDesc} (h:P.underlying t=some d) (w:World):(sizeOf t).run P w= .ok (P.cellsOf t) w:=by
 obtain⟨i,hi⟩:=O5 h
 simp[sizeOf,typeInfo,hi,Program.cellsOf]
theorem FY {t:TypeId} {b:Bool} (h:II P t=some b) (w:World):(isAgg t).run P w= .ok b w/\∃d,P.underlying t=some d:=by
 unfold II at h
 split at h
 ·rename_i hu;simp only[Option.some.injEq]at h;subst h;simp[isAgg,As hu,hu]
 ·rename_i hu;simp only[Option.some.injEq]at h;subst h;simp[isAgg,As hu,hu]
 ·rename_i d hn1 hn2 hu;simp only[Option.some.injEq]at h;subst h
  refine⟨?_,d,hu⟩
  simp only[isAgg,Sem.run_bind,As hu,Result.andThen_ok]
  cases d<;>first | rfl | exact absurd rfl (hn1 _) | exact absurd rfl (hn2 _ _)
 ·cases h
theorem ON {t:TypeId} (h:II P t=some false) {xs:List TV} {vs:List Value} (hr:AL g w xs vs) {off:Nat} {x:TV} (hx:xs[off]? =some x):
  ∃u,(part t vs.toArray off).run P w= .ok u w/\Rel g w x u:=by
 obtain⟨u,hu,hrel⟩:=hr.get? hx
 refine⟨u,?_,hrel⟩
 have:=FY h w
 simp only[part,Sem.run_bind,this.1,Result.andThen_ok]
 simp[hu]
theorem Qh (d:Nat) {t:TypeId} {x y:TV} {a b:Value} (hx:Rel g w x a) (hy:Rel g w y b) {r:Bool} (h:Qi P t x y=some r):(Op.equalIn (d+1) t a b).run P w= .ok r w:=by
 unfold Qi at h
 split at h
 ·split at h
  ·rename_i hu
   split at h
   ·rename_i hk
    have:=of_decide_eq_true hk
    subst this
    simp only[Option.some.injEq]at h;subst h
    cases hx;cases hy
    rw[run_equalIn_int w d t _ _ _ _ hu];rfl
   ·cases h
  ·cases h
 ·split at h
  ·rename_i hu
   simp only[Option.some.injEq]at h;subst h
   cases hx;cases hy
   exact run_equalIn_bool' w d t _ _ hu
  ·cases h
 ·split at h
  ·rename_i hu
   simp only[Option.some.injEq]at h;subst h
   cases hx;cases hy
   rw[run_equalIn_string w d t _ _ hu,toList_mk,toList_mk]
   congr 1
   rw[Bool.eq_iff_iff];simp
  ·cases h
 ·cases h
theorem Pc (d:Nat) {xs ys:List TV} {vs us:List Value} (hx:AL g w xs vs) (hy:AL g w ys us):∀(fs:List Field) {r:Bool},Tr P xs ys fs=some r->(Op.eqFields (d+1) vs.toArray us.toArray fs).run P w= .ok r w
 | [],r,h=>by simp only[Tr,Option.some.injEq]at h;subst h;rfl
 | f::fs,r,h=>by
  simp only[Tr]at h
  split at h
  ·rename_i x y hn ha h1 h2
   split at h
   ·rename_i b hb
    split at h
    ·rename_i r' hr'
     simp only[Option.some.injEq]at h;subst h
     obtain⟨u,hu,ru⟩:=ON (P:=P) ha hx h1
     obtain⟨u',hu',ru'⟩:=ON (P:=P) ha hy h2
     have ih:=Pc d hx hy fs hr'
     have hc:=Qh (P:=P) d ru ru' hb
     simp only[Op.eqFields,if_pos (of_decide_eq_true hn),Sem.run_bind,hu,hu',hc,Result.andThen_ok]
     cases b
     ·simp
     ·simp[ih]
    ·cases h
   ·cases h
  ·cases h
theorem TT (op:BinOp) (t:TypeId) (x:TV) (xv:Value) (hx:Rel g w x xv) (ys:List TV) (us:List Value) (hl:ys.length=us.length) (hr:∀i (h:i<ys.length),Rel g w ys[i] (us.getD i Go.undef)) (v:SV) (xo yo:Operand)
  (h:(aggN P t x ys (DE op)).Is v):∃u,(do eqGuard op t xo yo xv (.agg us.toArray);Go.binOp op t xv (.agg us.toArray)).run P w= .ok u w/\Bp g w loc v u:=by
 unfold aggN at h
 split at h
 ·rename_i eq xs fs hw ht
  cases hx with
  | agg _ vs hl' hr'=>
   split at h
   ·rename_i hg
    split at h
    ·rename_i b hb
     simp only[AY.Is]at h;subst h
     have hf:P.fieldsOf t=fs:=by simp[Program.fieldsOf,ht]
     have hg':P.eqGuardType P.depth t=false/\P.stoodInHeld t=false:=by
      cases h1:P.eqGuardType P.depth t<;>cases h2:P.stoodInHeld t<;>simp[h1,h2]at hg⊢
     have hrun:(Op.equalIn 10000 t (.agg vs.toArray) (.agg us.toArray)).run P w= .ok b w:=by
      rw[run_equalIn_struct w 9999 t _ _ (by rw[hf];exact ht) hg'.2,hf]
      exact Pc 9998 ⟨hl',hr'⟩ ⟨hl,hr⟩ fs.toList hb
     simp only[Sem.run_bind,run_eqGuard_agg w op t xo yo _ _ hg'.1,Result.andThen_ok]
     cases op<;>simp only[DE,Option.some.injEq,reduceCtorEq]at hw
     ·subst hw
      refine⟨_,by rw[run_eql_struct,hrun];rfl,Rel.bool _⟩
     ·subst hw
      refine⟨_,by rw[run_neq_struct,hrun];rfl,Rel.bool _⟩
    ·exact h.elim
   ·exact h.elim
 ·exact h.elim
theorem JF (d:Nat) {t e:TypeId} (ht:P.underlying t=some (.pointer e)) (hn:P.cellsOf e≠0) (a:Addr):(Op.equalIn (d+1) t (.pointer (some a)) (.pointer (some a))).run P w= .ok true w:=by
 have hs:(sizeOf e).run P w= .ok (P.cellsOf e) w:=by
  unfold Program.cellsOf at hn⊢
  cases hi:P.info? e with
  | none=>rw[hi]at hn;exact absurd rfl hn
  | some i=>simp[sizeOf,typeInfo,hi]
 simp only[Op.equalIn,Sem.run_bind,As ht,Result.andThen_ok,hs]
 rw[if_pos (by exact hn)]
 simp[sameAddr]
theorem SE (op:BinOp) (t:TypeId) (x:TV) (xv:Value) (hx:Rel g w x xv) (b o:Nat) (v:SV) (xo yo:Operand) (h:(ptrN P t x b o (DE op)).Is v):
  ∃u,(do eqGuard op t xo yo xv (.pointer (some ⟨g.bk b,o,none⟩));Go.binOp op t xv (.pointer (some ⟨g.bk b,o,none⟩))).run P w= .ok u w/\Bp g w loc v u:=by
 unfold ptrN at h
 split at h
 ·rename_i eq e hw ht
  split at h
  ·exact h.elim
  ·rename_i hn
   obtain⟨rfl,rfl⟩:=h
   cases hx
   have hg:(eqGuard op t xo yo (.pointer (some ⟨g.bk b,o,none⟩)) (.pointer (some ⟨g.bk b,o,none⟩))).run P w= .ok () w:=by apply Fu;trivial
   have heq:(Op.equal t (.pointer (some ⟨g.bk b,o,none⟩)) (.pointer (some ⟨g.bk b,o,none⟩))).run P w= .ok true w:=by
    exact JF 9999 ht hn _
   simp only[Sem.run_bind,hg,Result.andThen_ok]
   cases op<;>simp only[DE,Option.some.injEq,reduceCtorEq]at hw
   ·subst hw;exact⟨_,by simp only[Go.binOp,Sem.run_bind,heq,Result.andThen_ok,Sem.run_pure],Rel.bool _⟩
   ·subst hw;exact⟨_,by simp only[Go.binOp,Sem.run_bind,heq,Result.andThen_ok,Sem.run_pure,Bool.not_true],Rel.bool _⟩
 ·exact h.elim
theorem TK (op:BinOp) (t:TypeId) (x y:TV) (xv yv:Value) (hx:Rel g w x xv) (hy:Rel g w y yv) (v:SV) (xo yo:Operand) (h:(TL P op t x y).Is v):
  ∃u,(do eqGuard op t xo yo xv yv;Go.binOp op t xv yv).run P w= .ok u w/\Bp g w loc v u:=by
 unfold TL at h
 split at h
 ·cases hy;exact SO op t _ xv hx v xo yo h
 ·cases hy;exact SN op t _ xv hx v xo yo h
 ·cases hy with
  | agg _ us hl hr=>exact TT op t x xv hx _ us hl hr v xo yo h
 ·cases hy;exact SE op t x xv hx _ _ v xo yo h
 ·exact TJ op t x _ xv yv hx hy v xo yo h
theorem Bl (b o i:Nat):(⟨b,o,none⟩:Addr).add i=⟨b,o+i,none⟩:=by unfold Addr.add;split<;>simp_all
theorem Li (s:Sim g st loc w) {t:TypeId} {p:SV} {pv:Value} (hp:Bp g w loc p pv) {v:SV} (h:(DC P st loc t p).Is v):
  ∃u,(Instr.loadAt t pv).run P w= .ok u w/\Bp g w loc v u:=by
 unfold DC at h
 split at h
 ·rename_i ha
  obtain⟨x,hx,rfl⟩:=h
  obtain⟨hag,d,hd⟩:=FY ha w
  split at hx
  ·cases hx
  ·rename_i n hn
   obtain⟨xs,hxs,rfl⟩:=Option.map_eq_some_iff.1 hx
   cases hc:P.cellsOf t with
   | zero=>exact absurd hc hn
   | succ m=>
    have hxs':=hxs
    rw[hc]at hxs'
    simp only[Aj]at hxs'
    split at hxs'
    ·rename_i y hy
     obtain⟨b,o,_,rfl,_,_⟩:=EB s hp hy
     obtain⟨vs,hl,hr,hcell⟩:=FG s hp _ _ _ hxs
     refine⟨.agg vs.toArray,?_,Rel.agg _ _ hr.1 hr.2⟩
     have:=run_loadCells_list (P:=P) w ⟨b,o,none⟩ vs (fun j u hj=>by rw[Bl];simpa using hcell j u hj)
     rw[hl]at this
     simp[Instr.loadAt,Instr.sureAddr,loadVar,hag,Hc hd,this]
    ·cases hxs'
 ·rename_i ha
  obtain⟨x,hx,rfl⟩:=h
  obtain⟨hag,d,hd⟩:=FY ha w
  obtain⟨b,o,u,rfl,hc,hr⟩:=EB s hp hx
  refine⟨u,?_,hr⟩
  simp only[Nat.add_zero]at hc
  simp[Instr.loadAt,Instr.sureAddr,loadVar,hag,hc]
 ·exact h.elim
theorem Rel.int_inv {k:IntKind} {n:Int} {u:Value} (h:Rel g w (.int k n) u):u= .int k n:=by cases h;rfl
theorem IC (st:St) (l1 l2:List (Option (List TV))) (v:TV) (j:Nat):Ac st l1 (.t v) j=Ac st l2 (.t v) j:=by
 cases v<;>rfl
theorem Fp (st:St) (l1 l2:List (Option (List TV))) (v:TV):∀(n j:Nat),Aj st l1 (.t v) j n=Aj st l2 (.t v) j n:=by
 intro n
 induction n with
 | zero=>intro j;rfl
 | succ n ih=>intro j;simp only[Aj,IC st l1 l2,ih]
theorem EJ:∀{xs:List TV} {l:B8},GQ xs=some l->∃ns:List Int,xs=ns.map (TV.int .u8)/\l=ns.map fun n=>UInt8.ofNat n.toNat
 | [],l,h=>by simp only[GQ,Option.some.injEq]at h;subst h;exact⟨[],rfl,rfl⟩
 | x::xs,l,h=>by
  simp only[GQ]at h
  split at h
  ·rename_i c hc
   obtain⟨l',hl',rfl⟩:=Option.map_eq_some_iff.1 h
   obtain⟨ns,rfl,rfl⟩:=EJ hl'
   unfold TP at hc
   split at hc
   ·rename_i n;simp only[Option.some.injEq]at hc;subst hc;exact⟨n::ns,rfl,rfl⟩
   ·cases hc
  ·cases h
theorem Qr (s:Sim g st loc w) {src dst e:TypeId} (hs:P.underlying src=some (.slice e)) (he:P.underlying e=some (.int .u8)) (hd:P.underlying dst=some .string)
  {x:TV} {xv:Value} (hx:Rel g w x xv) {l:B8} (h:HA st x=some l):(Go.convert src dst xv).run P w= .ok (.string ⟨l.toArray⟩) w:=by
 unfold HA at h
 split at h
 ·simp only[Option.some.injEq]at h;subst h;cases hx;exact run_convert_bytes_nil w src e hs he _ _ dst hd
 ·rename_i sz tip n xs
  split at h
  ·rename_i hsz
   have:sz=1:=Nat.eq_of_beq_eq_true hsz
   subst this
   obtain⟨ns,hxs,rfl⟩:=EJ h
   cases hx with
   | listE _ _ a _=>
    have h0:ns=[]:=by cases ns with | nil=>rfl | cons c r=>simp at hxs
    subst h0
    have hl:(loadCells a 0).run P w= .ok (([]:List Int).map (Value.int .u8)).toArray w:=by
     have:=run_loadCells_list (P:=P) w a [] (fun j v hj=>by simp at hj)
     simpa using this
    rw[run_convert_bytes_string w src dst e _ 0 0 hs he hd,run_bytesToString w _ 0 0 [] hl,foldl_push_bytes]
    rfl
   | list _ _ _ _ b o cap us hl hn hc hr ht=>
    subst hxs
    have hlen:ns.length=n:=by simpa using hl
    have:=run_convert_bytes_arg (P:=P) w src e hs he b o n cap ns hlen (fun i hi=>by
     have hi':i<(ns.map (TV.int .u8)).length:=by simp;omega
     have h1:=(hc i hi').2
     have h2:=hr i hi'
     simp only[List.getElem_map]at h2
     rw[h1]
     have hin:i<ns.length:=by omega
     have hget:ns.getD i 0=ns[i]:=by simp[List.getD_eq_getElem?_getD,List.getElem?_eq_getElem hin]
     rw[hget,h2.int_inv]) dst hd
    exact this
  ·cases h
 ·rename_i sz b off n cap
  split at h
  ·split at h
   ·rename_i xs hxs
    obtain⟨ns,rfl,rfl⟩:=EJ h
    cases hx with
    | ms _ _ _ _ _ hb hn=>
     have hp:Bp g w loc (.t (.box b off)) (.pointer (some ⟨g.bk b,off,none⟩)):=Rel.box b off hb
     rw[Fp st [] loc]at hxs
     obtain⟨vs,hl,hr,hcell⟩:=FG s hp n 0 _ hxs
     have hlen:ns.length=n:=by have:=hr.1;simp at this;omega
     exact run_convert_bytes_arg (P:=P) w src e hs he _ off n cap ns hlen (fun i hi=>by
      obtain⟨v,hv,hrel⟩:=hr.get? (i:=i) (x:= .int .u8 (ns.getD i 0)) (by
       have hin:i<ns.length:=by omega
       simp[List.getD_eq_getElem?_getD,List.getElem?_eq_getElem hin])
      have:=hcell i v hv
      simp only[Nat.add_zero]at this
      rw[this,hrel.int_inv]) dst hd
   ·cases h
  ·cases h
 ·cases h
theorem Rel.box_inv' {b o:Nat} {u:Value} (h:Rel g w (.box b o) u):b<g.nb/\u= .pointer (some ⟨g.bk b,o,none⟩):=by cases h;exact⟨‹_›,rfl⟩
theorem Ip {t:TypeId} (hn:P.cellsOf t≠0) (w:World):(sizeOf t).run P w= .ok (P.cellsOf t) w:=by
 unfold Program.cellsOf at hn⊢
 cases hi:P.info? t with
 | none=>rw[hi]at hn;exact absurd rfl hn
 | some i=>simp[sizeOf,typeInfo,hi]
theorem IY {b o:Nat} {c:Array Value} {T:TypeId} {fz:Nat×Nat} (hh:w.heap[b]? =some (.cells c T fz)):(Conv.seenAt ⟨b,o,none⟩).run P w= .ok ⟨b,o,none⟩ w:=by
 have hsh:w.shape? b=some (T,c.size):=by simp[World.shape?,hh]
 simp[Conv.seenAt,viewAt,hsh]
theorem Md {src dst t:TypeId} (hs:P.underlying src=some (.pointer t)) (hd:P.underlying dst=some .unsafePointer) (hn:P.cellsOf t≠0) {b o:Nat} {u:Value} (hc:w.cell? ⟨b,o,none⟩=some u):
  (Go.convert src dst (.pointer (some ⟨b,o,none⟩))).run P w= .ok (.pointer (some ⟨b,o,none⟩)) w:=by
 have hcell:∃c T fz,w.heap[b]? =some (.cells c T fz)/\o<c.size:=by
  unfold World.cell? at hc
  simp only at hc
  split at hc
  ·rename_i c T fz hh
   refine⟨c,T,fz,hh,?_⟩
   simp at hc
   exact(Array.getElem?_eq_some_iff.1 hc).1
  ·cases hc
 obtain⟨c,T,fz,hh,ho⟩:=hcell
 have hsh:w.shape? b=some (T,c.size):=by simp[World.shape?,hh]
 have hci:(cellsIn b).run P w= .ok (some c.size) w:=by simp[cellsIn,hsh]
 simp only[Go.convert,Sem.run_bind,As hs,As hd,Result.andThen_ok,Conv.unsafePointer,IY hh,hci,Ip hn]
 rw[if_neg (by simp[hn,ho])]
 rfl
theorem Me {src dst u:TypeId} (hs:P.underlying src=some .unsafePointer) (hd:P.underlying dst=some (.pointer u)) (hn:P.cellsOf u≠0) {b:Nat} {c:Array Value} {fz:Nat×Nat} (hh:w.heap[b]? =some (.cells c u fz)) (hsz:c.size=P.cellsOf u):
  (Go.convert src dst (.pointer (some ⟨b,0,none⟩))).run P w= .ok (.pointer (some ⟨b,0,none⟩)) w:=by
 have hsh:w.shape? b=some (u,c.size):=by simp[World.shape?,hh]
 have hl:liesAt P P.depth u (c.size/P.cellsOf u) 0 u 1=true:=by
  rw[hsz,Nat.div_self (Nat.pos_of_ne_zero hn)]
  have hdp:P.depth=(2*(P.types.size+Made.depth)+1)+1:=rfl
  rw[hdp]
  simp only[liesAt,Bool.or_eq_true]
  left
  rw[hdp]
  simp[rowAt,hn,sameLayout]
 have hva:(variablesAt ⟨b,0,none⟩ u 1).run P w= .ok true w:=by
  simp[variablesAt,hsh,hl]
 simp only[Go.convert,Sem.run_bind,As hs,As hd,Result.andThen_ok,Conv.unsafePointer,IY hh,Ip hn,hva,Sem.run_pure]
 simp
theorem Qq (s:Sim g st loc w) {src dst:TypeId} {x:TV} {xv:Value} (hx:Rel g w x xv) {v:SV} (h:(MP P st src dst x).Is v):
  ∃u,(Go.convert src dst xv).run P w= .ok u w/\Bp g w loc v u:=by
 unfold MP at h
 split at h
 ·rename_i d k k' n hs hd
  cases hx
  simp only[AY.Is]at h;subst h
  refine⟨_,?_,Rel.int _ _⟩
  simp[Go.convert,As hs,As hd,Conv.intToInt]
 ·rename_i l hs hd
  cases hx
  simp only[AY.Is]at h;subst h
  refine⟨_,?_,Rel.str _⟩
  simp[Go.convert,As hs,As hd]
 ·rename_i e hs hd
  split at h
  ·rename_i he
   obtain⟨y,hy,rfl⟩:=h
   obtain⟨l,hl,rfl⟩:=Option.map_eq_some_iff.1 hy
   exact⟨_,Qr s hs he hd hx hl,Rel.str _⟩
  ·exact h.elim
 ·rename_i t b off hs hd
  split at h
  ·exact h.elim
  ·rename_i hn
   obtain⟨hy,rfl⟩:=h
   obtain⟨c,hc⟩:=Option.isSome_iff_exists.1 hy
   obtain⟨hb,rfl⟩:=hx.box_inv'
   obtain⟨b1,o1,u,e1,e2,_⟩:=EB (s.dropLoc (loc':=[]) (fun j x hx=>by simp at hx)) (p:= .t (.box b off)) (Rel.box b off hb) hc
   simp only[Value.pointer.injEq,Option.some.injEq,Addr.mk.injEq,true_and,and_true]at e1
   obtain⟨rfl,rfl⟩:=e1
   refine⟨_,?_,Rel.box b off hb⟩
   exact Md hs hd hn e2
 ·exact h.elim
end
end Go.TVF
end
section
namespace Go.TVF
open Go.IntKind(i64 u8)
open Go.RowKit (Below)
section
variable {P:Program} {g:Ghost} {st:St} {loc:List (Option (List TV))} {w:World}
theorem BL (k:IntKind) (i:Int) (y:Nat) (c:BoundsCode) (h0:0<=i) (h1:i<=y):(Instr.sliceBound (.int k i) y c).run P w= .ok i.toNat w:=by
 simp[Instr.sliceBound,asIntOf,h0,h1]
theorem DN {t:TypeId} {n:Nat} (h:D1 P t=some n) (w:World):(sizeOf t).run P w= .ok n w:=by
 unfold D1 at h
 split at h
 ·rename_i i hi;simp only[Option.some.injEq]at h;subst h;simp[sizeOf,typeInfo,hi]
 ·cases h
theorem Ea (s:B8) (l h:Nat):(ByteArray.mk s.toArray).extract l h=⟨((s.take h).drop l).toArray⟩:=by
 rw[ByteArray.extract_mk,List.drop_take]
theorem Dt (s:B8):(ByteArray.mk s.toArray).size=s.length:=by simp[ByteArray.size]
theorem IT {sz:Nat} {v:TV} {a:Option Addr} {n cap:Nat} (hv:Rel g w v (.slice a n cap)) (hl:H9 sz v=true) (l h m:Nat) (h1:l<=h) (h2:h<=lenS v) (h3:h<=m) (hm:m<=cap)
  (tip:Tip) (ht:tip= .non∨(tip= .full/\m=h)):
  Rel g w (slT sz tip v l h) (.slice (if m=l then a else a.map (·.add (l*sz))) (h-l) (m-l)):=by
 cases v<;>simp only[H9,Bool.false_eq_true]at hl
 ·cases hv
  simp only[lenS,Nat.le_zero]at h2
  subst h2
  have:l=0:=by omega
  have:m=0:=by omega
  subst l m
  exact Rel.nilSlice
 ·rename_i s tip0 n0 xs
  have hsz:s=sz:=Nat.eq_of_beq_eq_true hl
  subst hsz
  cases hv with
  | listE _ _ a _=>
   simp only[lenS,Nat.le_zero]at h2
   subst h2
   have hl0:l=0:=by omega
   have hm0:m=0:=by omega
   subst hl0 hm0
   simp only[slT,if_true]
   have:=Rel.listE (g:=g) (w:=w) s tip a (by rcases ht with rfl | ⟨rfl,_⟩<;>intro id h<;>cases h)
   simpa using this
  | list _ _ _ _ b o _ us hlen hn hc hr htip=>
   simp only[lenS]at h2
   simp only[slT]
   have hle:h*s<=xs.length:=by rw[hlen];exact Nat.mul_le_mul_right _ h2
   have hdl:((xs.take (h*s)).drop (l*s)).length=(h-l)*s:=by
    rw[List.length_drop,List.length_take,Nat.min_eq_left hle,Nat.sub_mul]
   have htk:MY g tip ⟨b,o,none⟩ (h-l) (m-l) s/\MY g tip ⟨b,o+l*s,none⟩ (h-l) (m-l) s:=by
    rcases ht with rfl | ⟨rfl,rfl⟩
    ·exact⟨trivial,trivial⟩
    ·exact⟨rfl,rfl⟩
   by_cases hml:m=l
   ·have hhl:h=l:=by omega
    rw[if_pos hml]
    refine Rel.list _ _ _ _ b o _ us hdl (by omega) (fun i hi=>?_) (fun i hi=>?_) htk.1
    ·rw[hdl,hhl]at hi;simp at hi
    ·rw[hdl,hhl]at hi;simp at hi
   ·rw[if_neg hml]
    simp only[Option.map_some,Bl]
    refine Rel.list _ _ _ _ b (o+l*s) _ (fun i=>us (l*s+i)) hdl (by omega) (fun i hi=>?_) (fun i hi=>?_) htk.2
    ·have hi':l*s+i<xs.length:=by
      rw[List.length_drop,List.length_take]at hi;omega
     have:=hc (l*s+i) hi'
     rw[show o+l*s+i=o+(l*s+i)from by omega]
     exact this
    ·have hi':l*s+i<xs.length:=by
      rw[List.length_drop,List.length_take]at hi;omega
     rw[List.getElem_drop,List.getElem_take]
     exact hr _ hi'
theorem D7 {sz:Nat} {v:TV} {xv:Value} (hx:Rel g w v xv) (h:H9 sz v=true):∃a n cap,xv= .slice a n cap/\lenS v=n/\n<=cap:=by
 cases v<;>simp only[H9,Bool.false_eq_true]at h
 ·cases hx;exact⟨_,_,_,rfl,rfl,Nat.le_refl _⟩
 ·cases hx with
  | listE _ _ a _=>exact⟨_,_,_,rfl,rfl,Nat.le_refl _⟩
  | list _ _ _ _ b o cap us hlen hn hc hr htip=>exact⟨_,_,_,rfl,rfl,hn⟩
def Gl (g:Ghost) (w:World) (x:Option TV) (xv:Option Value):Prop:=
 match x,xv with
 | none,none=>True
 | some t,some u=>Rel g w t u
 | _,_=>False
theorem Ow {t:TypeId} {x:TV} {xv:Value} (hx:Rel g w x xv) {lo hi mx:Option TV} {lov hiv mxv:Option Value} (hlo:Gl g w lo lov) (hhi:Gl g w hi hiv) (hmx:Gl g w mx mxv)
  {v:SV} (h:(K0 P t x lo hi mx).Is v):∃u,(Instr.sliceAt t xv lov hiv mxv).run P w= .ok u w/\Bp g w loc v u:=by
 unfold K0 at h
 split at h
 ·rename_i s hu
  cases hx
  have h0:∀lov hiv mxv,(Instr.sliceAt t (.string ⟨s.toArray⟩) lov hiv mxv).run P w=(Instr.slice t (.string ⟨s.toArray⟩) lov hiv mxv).run P w:=by
   intro lov hiv mxv;simp[Instr.sliceAt,As hu]
  rw[h0]
  split at h
  ·cases lov<;>cases hiv<;>cases mxv<;>simp only[Gl]at hlo hhi hmx
   simp only[AY.Is]at h;subst h
   refine⟨_,?_,Rel.str _⟩
   simp[Instr.slice,As hu,Instr.sliceBounds,Ea,Dt]
  ·rename_i k l
   cases lov<;>cases hiv<;>cases mxv<;>simp only[Gl]at hlo hhi hmx
   obtain⟨⟨h1,h2⟩,rfl⟩:=h
   cases hlo
   refine⟨_,?_,Rel.str _⟩
   simp[Instr.slice,As hu,Instr.sliceBounds,Ea,Dt,BL _ _ _ _ h1 h2]
  ·rename_i k h'
   cases lov<;>cases hiv<;>cases mxv<;>simp only[Gl]at hlo hhi hmx
   obtain⟨⟨h1,h2⟩,rfl⟩:=h
   cases hhi
   refine⟨_,?_,Rel.str _⟩
   simp[Instr.slice,As hu,Instr.sliceBounds,Ea,Dt,BL _ _ _ _ h1 h2]
  ·rename_i k l k' h'
   cases lov<;>cases hiv<;>cases mxv<;>simp only[Gl]at hlo hhi hmx
   obtain⟨⟨h1,h2,h3⟩,rfl⟩:=h
   cases hhi;cases hlo
   refine⟨_,?_,Rel.str _⟩
   simp[Instr.slice,As hu,Instr.sliceBounds,Ea,Dt,BL _ _ _ _ (Int.le_trans h1 h2) h3,BL _ _ _ _ h1 (show l<=((h'.toNat:Nat):Int) by omega)]
  ·exact h.elim
 ·rename_i x _ _ e hu
  have h0:∀lov hiv mxv,(Instr.sliceAt t xv lov hiv mxv).run P w=(Instr.slice t xv lov hiv mxv).run P w:=by
   intro lov hiv mxv;simp[Instr.sliceAt,As hu]
  rw[h0]
  split at h
  ·exact h.elim
  ·rename_i sz hsz
   have hrs:=DN hsz w
   split at h
   ·rename_i k l
    cases lov<;>cases hiv<;>cases mxv<;>simp only[Gl]at hlo hhi hmx
    obtain⟨⟨hl,h1,h2⟩,rfl⟩:=h
    obtain⟨a,n,cap,rfl,hn,hc⟩:=D7 hx hl
    cases hlo
    refine⟨_,?_,IT hx hl l.toNat (lenS x) cap (by omega) (Nat.le_refl _) (by omega) (Nat.le_refl _) .non (.inl rfl)⟩
    simp[Instr.slice,As hu,Instr.sliceBounds,BL _ _ _ _ h1 (show l<=(n:Int) by omega),hrs,hn]
   ·rename_i k h'
    cases lov<;>cases hiv<;>cases mxv<;>simp only[Gl]at hlo hhi hmx
    obtain⟨⟨hl,h1,h2⟩,rfl⟩:=h
    obtain⟨a,n,cap,rfl,hn,hc⟩:=D7 hx hl
    cases hhi
    refine⟨_,?_,IT hx hl 0 h'.toNat cap (by omega) (by omega) (by omega) (Nat.le_refl _) .non (.inl rfl)⟩
    simp[Instr.slice,As hu,Instr.sliceBounds,BL _ _ _ _ h1 (show h'<=(cap:Int) by omega),hrs,hn]
   ·rename_i k l k' h'
    cases lov<;>cases hiv<;>cases mxv<;>simp only[Gl]at hlo hhi hmx
    obtain⟨⟨hl,h1,h2,h3⟩,rfl⟩:=h
    obtain⟨a,n,cap,rfl,hn,hc⟩:=D7 hx hl
    cases hhi;cases hlo
    refine⟨_,?_,IT hx hl l.toNat h'.toNat cap (by omega) (by omega) (by omega) (Nat.le_refl _) .non (.inl rfl)⟩
    simp[Instr.slice,As hu,Instr.sliceBounds,BL _ _ _ _ (Int.le_trans h1 h2) (show h'<=(cap:Int) by omega),BL _ _ _ _ h1 (show l<=((h'.toNat:Nat):Int) by omega),hrs,hn]
   ·rename_i k h' k' m
    cases lov<;>cases hiv<;>cases mxv<;>simp only[Gl]at hlo hhi hmx
    obtain⟨⟨hl,h1,h2,rfl⟩,rfl⟩:=h
    obtain⟨a,n,cap,rfl,hn,hc⟩:=D7 hx hl
    cases hhi;cases hmx
    refine⟨_,?_,IT hx hl 0 m.toNat m.toNat (by omega) (by omega) (by omega) (by omega) .full (.inr ⟨rfl,rfl⟩)⟩
    simp[Instr.slice,As hu,Instr.sliceBounds,BL _ _ _ _ h1 (show m<=(cap:Int) by omega),BL _ _ _ _ h1 (show m<=((m.toNat:Nat):Int) by omega),hrs,hn]
   ·rename_i k l k' h' k'' m
    cases lov<;>cases hiv<;>cases mxv<;>simp only[Gl]at hlo hhi hmx
    obtain⟨⟨hl,h1,h2,h3,rfl⟩,rfl⟩:=h
    obtain⟨a,n,cap,rfl,hn,hc⟩:=D7 hx hl
    cases hhi;cases hlo;cases hmx
    refine⟨_,?_,IT hx hl l.toNat m.toNat m.toNat (by omega) (by omega) (by omega) (by omega) .full (.inr ⟨rfl,rfl⟩)⟩
    simp[Instr.slice,As hu,Instr.sliceBounds,BL _ _ _ _ (Int.le_trans h1 h2) (show m<=(cap:Int) by omega),BL _ _ _ _ (Int.le_trans h1 h2) (show m<=((m.toNat:Nat):Int) by omega),BL _ _ _ _ h1 (show l<=((m.toNat:Nat):Int) by omega),hrs,hn]
   ·exact h.elim
 ·exact h.elim
theorem O6 {t:TypeId} {s:B8} {k:IntKind} {n:Int} (hu:P.underlying t=some .string) (h0:0<=n) (h1:n<s.length):
  (Instr.index t (.string ⟨s.toArray⟩) (.int k n)).run P w= .ok (.int .u8 ((s.getD n.toNat 0).toNat:Int)) w:=by
 have hlt:n.toNat<s.length:=by omega
 have hb:(ByteArray.mk s.toArray)[n.toNat]? =some (s.getD n.toNat 0):=by
  rw[List.getD_eq_getElem?_getD,List.getElem?_eq_getElem hlt,Option.getD_some]
  have hsz:n.toNat<(ByteArray.mk s.toArray).size:=by rw[Dt];exact hlt
  rw[getElem?_pos (ByteArray.mk s.toArray) n.toNat hsz]
  rfl
 simp only[Instr.index,asIntOf,Sem.run_bind,Sem.run_pure,Result.andThen_ok,As hu,h0,if_true,hb]
theorem Mp {xs:List TV} {b o:Nat} {us:Nat->Value} (hc:∀i,i<xs.length->g.S ⟨b,o+i,none⟩/\w.cell? ⟨b,o+i,none⟩=some (us i)) (hr:∀i (h:i<xs.length),Rel g w xs[i] (us i)) (d:Nat):
  Rel g w (.rptr (xs.drop d)) (.pointer (some ⟨b,o+d,none⟩)):=by
 refine Rel.rptr _ b (o+d) (fun i=>us (d+i)) (fun i hi=>?_) (fun i hi=>?_)
 ·have hi':d+i<xs.length:=by rw[List.length_drop]at hi;omega
  rw[show o+d+i=o+(d+i)from by omega];exact hc _ hi'
 ·have hi':d+i<xs.length:=by rw[List.length_drop]at hi;omega
  rw[List.getElem_drop];exact hr _ hi'
theorem NG {t e:TypeId} {m sz:Nat} {k:IntKind} {n:Int} {b o:Nat} (hu:P.underlying t=some (.array m e)) (hsz:D1 P e=some sz) (h0:0<=n) (h1:n<(m:Int)):
  (Instr.indexAt t (.pointer (some ⟨b,o,none⟩)) (.int k n)).run P w= .ok (.pointer (some ⟨b,o+n.toNat*sz,none⟩)) w:=by
 have hrs:=DN hsz w
 simp[Instr.indexAt,asIntOf,Instr.sureAddr,As hu,h0,h1,hrs,Bl]
theorem Kx {t e:TypeId} {sz:Nat} {x:TV} {xv:Value} (hx:Rel g w x xv) {k:IntKind} {n:Int} (hu:P.underlying t=some (.slice e)) (hsz:D1 P e=some sz) (h0:0<=n) (h1:n<lenZ sz x):
  ∃u,(Instr.indexAt t xv (.int k n)).run P w= .ok u w/\Rel g w (ixT sz x n.toNat) u:=by
 have hrs:=DN hsz w
 cases x<;>simp only[lenZ]at h1<;>try omega
 ·rename_i s tip m xs
  split at h1
  ·rename_i hs
   have hs':s=sz:=Nat.eq_of_beq_eq_true hs
   subst hs'
   cases hx with
   | listE _ _ a _=>exact absurd h1 (by omega)
   | list _ _ _ _ b o cap us hlen hn hc hr htip=>
    refine⟨.pointer (some ⟨b,o+n.toNat*s,none⟩),?_,Mp hc hr _⟩
    simp[Instr.indexAt,asIntOf,As hu,h0,h1,hrs,Bl]
  ·omega
 ·rename_i s b off m cap
  split at h1
  ·rename_i hs
   have hs':s=sz:=Nat.eq_of_beq_eq_true hs
   subst hs'
   cases hx with
   | ms _ _ _ _ _ hb hn=>
    refine⟨.pointer (some ⟨g.bk b,off+n.toNat*s,none⟩),?_,Rel.box _ _ hb⟩
    simp[Instr.indexAt,asIntOf,As hu,h0,h1,hrs,Bl]
  ·omega
theorem Jl {t:TypeId} {f:Nat} {fd:Field} (h:Jm P t f=some fd):∃fs,P.underlying t=some (.struct fs)/\fs[f]? =some fd:=by
 unfold Jm at h
 split at h
 ·exact⟨_,‹_›,h⟩
 ·cases h
theorem OF {t:TypeId} (h:P.cellsOf t≠0) (w:World):(sizeOf t).run P w= .ok (P.cellsOf t) w:=by
 cases hi:P.info? t with
 | none=>simp[Program.cellsOf,hi]at h
 | some i=>simp[sizeOf,typeInfo,hi,Program.cellsOf]
theorem FP {t:TypeId} {f:Nat} {fd:Field} (h:Jm P t f=some fd) (hz:P.cellsOf fd.type≠0) (b o:Nat):
  (Instr.fieldAt t (.pointer (some ⟨b,o,none⟩)) f).run P w= .ok (.pointer (some ⟨b,o+fd.offset,none⟩)) w:=by
 obtain⟨fs,hu,hf⟩:=Jl h
 simp[Instr.fieldAt,As hu,hf,Instr.sureAddr,fieldPlace,OF hz,hz,Bl]
theorem PY {t:TypeId} {xs:List TV} {vs:List Value} (hr:AL g w xs vs) {off:Nat} {v:TV} (h:SG P t xs off=some v):∃u,(part t vs.toArray off).run P w= .ok u w/\Rel g w v u:=by
 unfold SG at h
 split at h
 ·rename_i ha
  obtain⟨hag,d,hd⟩:=FY ha w
  split at h
  ·rename_i hle
   have hle':=Nat.le_of_ble_eq_true hle
   simp only[Option.some.injEq]at h
   subst h
   have:=(hr.drop off).take (P.cellsOf t)
   refine⟨.agg ((vs.drop off).take (P.cellsOf t)).toArray,?_,Rel.agg _ _ this.1 this.2⟩
   simp[part,hag,Hc hd]
  ·cases h
 ·rename_i ha
  obtain⟨hag,d,hd⟩:=FY ha w
  obtain⟨u,hu,hrel⟩:=hr.get? h
  refine⟨u,?_,hrel⟩
  simp[part,hag,hu]
 ·cases h
theorem P9 {x:TV} {xv:Value} (hx:Rel g w x xv) (h1:isSl x=true):∃a c,xv= .slice a (lenS x) c:=by
 cases x<;>simp only[isSl,Bool.false_eq_true]at h1
 ·cases hx;exact⟨_,_,rfl⟩
 ·cases hx<;>exact⟨_,_,rfl⟩
 ·cases hx;exact⟨_,_,rfl⟩
theorem RV {t:TypeId} {x:TV} {xv:Value} (hx:Rel g w x xv) {v:SV} (h:(S4 P t x).Is v) (ts:Array TypeId) (ht:ts[0]? =some t) (ty:TypeId):
  ∃u,(Builtin.len_ ts ty #[xv]).run P w= .ok u w/\Bp g w loc v u:=by
 unfold S4 at h
 split at h
 ·rename_i l hu
  cases hx
  simp only[AY.Is]at h;subst h
  refine⟨_,?_,Rel.int _ _⟩
  simp[Builtin.len_,ht,As hu,goInt,Dt]
 ·rename_i e hu
  obtain⟨h1,rfl⟩:=h
  obtain⟨a,c,rfl⟩:=P9 hx h1
  refine⟨_,?_,Rel.int _ _⟩
  simp[Builtin.len_,ht,As hu,goInt]
 ·exact h.elim
theorem Mu {mx:Bool} {x y:TV} {xv yv:Value} (hx:Rel g w x xv) (hy:Rel g w y yv) {v:SV} (h:(RU mx x y).Is v) (ts:Array TypeId) (ty:TypeId):
  ∃u,(match mx with | true=>Builtin.max_ ts ty #[xv,yv] | false=>Builtin.min_ ts ty #[xv,yv]).run P w= .ok u w/\Bp g w loc v u:=by
 unfold RU at h
 split at h
 ·rename_i k a k' b
  split at h
  ·rename_i hk
   have:=of_decide_eq_true hk
   subst this
   simp only[AY.Is]at h;subst h
   cases hx;cases hy
   cases mx
   ·refine⟨.int k (min a b),?_,Rel.int _ _⟩
    simp[Builtin.min_,Builtin.min2]
    omega
   ·refine⟨.int k (max a b),?_,Rel.int _ _⟩
    simp[Builtin.max_,Builtin.max2]
    omega
  ·exact h.elim
 ·exact h.elim
end
end Go.TVF
end
section
namespace Go.TVF
open Go.IntKind(i64 u8)
open Go.RowKit (Below)
section
variable {P:Program} {g:Ghost} {st:St} {loc:List (Option (List TV))} {w:World}
theorem BZ {s:Sem Value} {v:SV} (h:∃u,s.run P w= .ok u w/\Bp g w loc v u):Gives P (do pure (Next.value (<-s))) w g loc v:=by
 obtain⟨u,h1,h2⟩:=h
 exact⟨u,by simp[h1],h2⟩
theorem PW {ρ:Operand->SV} {ρc:Operand->Value} (x:Option Operand) (h:∀y,x=some y->Bp g w loc (ρ y) (ρc y)):Gl g w (x.map fun y=>(ρ y).tv) (x.map ρc):=by
 cases x with
 | none=>trivial
 | some y=>exact(h y rfl).tv
set_option maxHeartbeats 1000000 in
theorem Ia {k:B8}:∀{es:List (B8×TV)} {ms:List MapEntry},es.length=ms.length->
  (∀(i:Nat) (k:B8) (v:TV),es[i]? =some (k,v)->∃e:MapEntry,ms[i]? =some e/\e.key=Value.string ⟨k.toArray⟩/\Rel g w v e.val)->∀n,
  (AA k es=none/\Instr.findNow .string (.string ⟨k.toArray⟩) ms n=some none)∨∃v i e,AA k es=some v/\Instr.findNow .string (.string ⟨k.toArray⟩) ms n=some (some (n+i,e.val))/\ms[i]? =some e/\e.key=Value.string ⟨k.toArray⟩/\Rel g w v e.val/\(∃kk,es[i]? =some (kk,v)/\k=kk)/\∀j,j<i->∀kk vv,es[j]? =some (kk,vv)->k≠kk
 | [],[],_,_,n=> .inl ⟨rfl,rfl⟩
 | [],_::_,hl,_,n=>by simp at hl
 | _::_,[],hl,_,n=>by simp at hl
 | (k',v')::es,m::ms,hl,h,n=>by
  obtain⟨e,he,hk,hr⟩:=h 0 k' v' rfl
  simp only[List.getElem?_cons_zero,Option.some.injEq]at he
  subst he
  have hnow:Instr.sameNow .string (.string ⟨k.toArray⟩) m.key=some (decide (k=k')):=by
   rw[hk]
   simp only[Instr.sameNow,Option.some.injEq]
   rw[beq_toListBytes,toList_mk,toList_mk,Bool.eq_iff_iff]
   simp
  by_cases hkk:k=k'
  ·right
   exact⟨v',0,m,by simp[AA,hkk],by subst hkk;simp only[Instr.findNow,hnow,decide_true,Nat.add_zero],rfl,by rw[hkk];exact hk,hr,⟨k',rfl,hkk⟩,fun j hj=>absurd hj (Nat.not_lt_zero _)⟩
  ·have ih:=Ia (k:=k) (es:=es) (ms:=ms) (by simpa using hl) (fun i kk vv hi=>h (i+1) kk vv (by simpa using hi)) (n+1)
   rcases ih with⟨h1,h2⟩ | ⟨v,i,e,h1,h2,h3,h4,h5,h6,h7⟩
   ·left;exact⟨by simp[AA,hkk,h1],by simp[Instr.findNow,hnow,hkk,h2]⟩
   ·right
    refine⟨v,i+1,e,by simp[AA,hkk,h1],by simp only[Instr.findNow,hnow,hkk,decide_false];rw[h2,show n+1+i=n+(i+1) by omega],by simpa using h3,h4,h5,by simpa using h6,fun j hj kk vv hjv=>?_⟩
    cases j with
    | zero=>simp only[List.getElem?_cons_zero,Option.some.injEq,Prod.mk.injEq]at hjv;rw[<-hjv.1];exact hkk
    | succ j=>exact h7 j (by omega) kk vv (by simpa using hjv)
theorem Ib {kt:TypeId} (hk:P.underlying kt=some .string) {k:B8} {es:List (B8×TV)} {ms:List MapEntry} (hl:es.length=ms.length)
  (h:∀(i:Nat) (k:B8) (v:TV),es[i]? =some (k,v)->∃e:MapEntry,ms[i]? =some e/\e.key=Value.string ⟨k.toArray⟩/\Rel g w v e.val):
  (AA k es=none/\(Instr.findKey kt (.string ⟨k.toArray⟩) ms).run P w= .ok none w)∨∃v i e,AA k es=some v/\(Instr.findKey kt (.string ⟨k.toArray⟩) ms).run P w= .ok (some (i,e.val)) w/\ms[i]? =some e/\e.key=Value.string ⟨k.toArray⟩/\Rel g w v e.val/\(∃kk,es[i]? =some (kk,v)/\k=kk)/\∀j,j<i->∀kk vv,es[j]? =some (kk,vv)->k≠kk:=by
 rcases Ia (k:=k) hl h 0 with⟨h1,h2⟩ | ⟨v,i,e,h1,h2,h3⟩
 ·left;exact⟨h1,by simp only[Instr.findKey,Sem.run_bind,As hk,Result.andThen_ok,h2,Sem.run_pure]⟩
 ·right;exact⟨v,i,e,h1,by simp only[Instr.findKey,Sem.run_bind,As hk,Result.andThen_ok,h2,Sem.run_pure,Nat.zero_add],h3⟩
theorem DG {kt:TypeId} (hk:P.underlying kt=some .string) (b:Bool) (n:Nat) (v:ByteArray):(Instr.checkKey b (n+1) kt (.string v)).run P w= .ok () w:=by
 simp only[Instr.checkKey,Sem.run_bind,As hk,Result.andThen_ok,Sem.run_pure]
theorem Mh {t:TypeId} {z:TV} (h:QL P t=some z):∃v,(zeroValue t).run P w= .ok v w/\Rel g w z v:=by
 unfold QL at h
 split at h
 ·rename_i i hi
  split at h
  ·cases h
  ·rename_i z' hz' hne
   simp only[Option.some.injEq]at h
   subst h
   exact⟨z',by simp[zeroValue,typeInfo,hi,hne],I8 g w z'⟩
  ·cases h
 ·cases h
theorem OS (s:Sim g st loc w) {x:TV} {xv:Value} (hx:Rel g w x xv) {es:List (B8×TV)} (h:Er st x=some es):
  (xv= .map none/\es=[])∨∃b ms c,xv= .map (some b)/\w.heap[b]? =some (.map ms c)/\es.length=ms.toList.length/\∀(i:Nat) (k:B8) (v:TV),es[i]? =some (k,v)->∃e:MapEntry,ms.toList[i]? =some e/\e.key=Value.string ⟨k.toArray⟩/\Rel g w v e.val:=by
 unfold Er at h
 split at h
 ·simp only[Option.some.injEq]at h
  cases hx;exact .inl ⟨rfl,h.symm⟩
 ·rename_i b
  split at h
  ·rename_i es' hb
   simp only[Option.some.injEq]at h
   subst h
   cases hx with
   | map _ hlt=>
    have hlt':b<st.nb:=by rw[<-s.nb];exact hlt
    have ob:=s.obj (.box b) hlt'
    simp only[A3,hb,Ghost.at]at ob
    obtain⟨ms,c,h1,h2,h3⟩:=ob
    exact .inr ⟨_,ms,c,rfl,h1,h2,h3⟩
  ·cases h
 ·cases h
theorem Pt (s:Sim g st loc w) {b:Nat} (hb:b<st.nb) (h:Ao st b=true):∃c T lo hi,w.heap[g.bk b]? =some (.cells c T (lo,hi))/\c.size≠0/\∀o,o<=c.size->¬(lo<=o/\o<hi):=by
 unfold Ao at h
 split at h
 ·rename_i x l hx
  have ob:=s.obj (.box b) hb
  simp only[A3,hx,Ghost.at]at ob
  obtain⟨cs,⟨T,lo,hi,h1,h2⟩,h3⟩:=ob
  refine⟨cs.toArray,T,lo,hi,h1,?_,by simpa using h2⟩
  have:=h3.1
  simp at this⊢
  intro h0
  rw[h0]at this
  simp at this
 ·cases h
theorem sameBox (s:Sim g st loc w) {b b':Nat} (hb:b<st.nb) (hb':b'<st.nb) (h:Ao st b=true) (h':Ao st b'=true):
  (sameAddr ⟨g.bk b,0,none⟩ ⟨g.bk b',0,none⟩).run P w= .ok (Nat.beq b b') w:=by
 by_cases hbb:b=b'
 ·subst hbb
  rw[Nat.beq_refl]
  simp[sameAddr]
 ·have hne:g.bk b≠g.bk b':=fun e=>by have:=s.inj (.box b) (.box b') hb hb' e;cases this;exact hbb rfl
  obtain⟨c,T,lo,hi,h1,h2,h3⟩:=Pt s hb h
  obtain⟨c',T',lo',hi',h1',h2',h3'⟩:=Pt s hb' h'
  have f1:∀o,o<=c.size->(decide (lo<=o)&&decide (o<hi))=false:=fun o ho=>by
   have:=h3 o ho
   simpa using this
  have f2:∀o,o<=c'.size->(decide (lo'<=o)&&decide (o<hi'))=false:=fun o ho=>by
   have:=h3' o ho
   simpa using this
  rw[Ey hbb]
  have g1:∀o,o<=c.size->w.frozen? ⟨g.bk b,o,none⟩=false:=fun o ho=>by simp only[World.frozen?,h1];exact f1 o ho
  have g2:∀o,o<=c'.size->w.frozen? ⟨g.bk b',o,none⟩=false:=fun o ho=>by simp only[World.frozen?,h1'];exact f2 o ho
  simp[sameAddr,hne,g1 0 (Nat.zero_le _),g2 0 (Nat.zero_le _),noView,viewAt,World.shape?,mayBeOne,stringish,h1,h1',g1 c.size (Nat.le_refl _),g2 c'.size (Nat.le_refl _),h2,h2']
theorem Qg (s:Sim g st loc w) {kt pe:TypeId} (hk:P.underlying kt=some (.pointer pe)) (hp:P.cellsOf pe≠0) {b b':Nat} (hb:b<st.nb) (hb':b'<st.nb) (h:Ao st b=true) (h':Ao st b'=true) (d:Nat):
  (Op.equalIn (d+1) kt (.pointer (some ⟨g.bk b,0,none⟩)) (.pointer (some ⟨g.bk b',0,none⟩))).run P w= .ok (Nat.beq b b') w:=by
 have hs:(sizeOf pe).run P w= .ok (P.cellsOf pe) w:=Ip hp w
 simp only[Op.equalIn,Sem.run_bind,As hk,Result.andThen_ok,hs,if_pos hp]
 exact sameBox (P:=P) s hb hb' h h'
theorem Tq (s:Sim g st loc w) {kt pe:TypeId} (hk:P.underlying kt=some (.pointer pe)) (hp:P.cellsOf pe≠0) {b b':Nat} (hb:b<st.nb) (hb':b'<st.nb) (h:Ao st b=true) (h':Ao st b'=true):
  (Op.equal kt (.pointer (some ⟨g.bk b,0,none⟩)) (.pointer (some ⟨g.bk b',0,none⟩))).run P w= .ok (Nat.beq b b') w:=by
 unfold Op.equal Op.maxDepth
 exact Qg s hk hp hb hb' h h' _
theorem Gg (s:Sim g st loc w) {kt pe:TypeId} (hk:P.underlying kt=some (.pointer pe)) (hp:P.cellsOf pe≠0) {k:Nat} (hkb:k<st.nb) (hkc:Ao st k=true):∀{es:List (Nat×TV)} {ms:List MapEntry},es.length=ms.length->
  (∀(i k:Nat) (v:TV),es[i]? =some (k,v)->k<g.nb/\∃e:MapEntry,ms[i]? =some e/\e.key=Value.pointer (some ⟨g.bk k,0,none⟩)/\Rel g w v e.val)->(es.all fun p=>Ao st p.1)=true->∀n,
  (BD k es=none/\(Instr.findAsking kt (.pointer (some ⟨g.bk k,0,none⟩)) ms n).run P w= .ok none w)∨∃v i e,BD k es=some v/\(Instr.findAsking kt (.pointer (some ⟨g.bk k,0,none⟩)) ms n).run P w= .ok (some (n+i,e.val)) w/\ms[i]? =some e/\e.key=Value.pointer (some ⟨g.bk k,0,none⟩)/\Rel g w v e.val/\es[i]? =some (k,v)/\∀j,j<i->∀kk vv,es[j]? =some (kk,vv)->k≠kk
 | [],[],_,_,_,n=> .inl ⟨rfl,by simp[Instr.findAsking]⟩
 | [],_::_,hl,_,_,n=>by simp at hl
 | _::_,[],hl,_,_,n=>by simp at hl
 | (k',v')::es,m::ms,hl,h,hc,n=>by
  obtain⟨hlt,e,he,hke,hr⟩:=h 0 k' v' rfl
  simp only[List.getElem?_cons_zero,Option.some.injEq]at he
  subst he
  rw[List.all_cons,Bool.and_eq_true]at hc
  have hlt':k'<st.nb:=by rw[<-s.nb];exact hlt
  have hq:=Tq (P:=P) s hk hp hkb hlt' hkc hc.1
  rw[<-hke]at hq
  by_cases hkk:k=k'
  ·right
   subst hkk
   rw[Nat.beq_refl]at hq
   refine⟨v',0,m,by simp[BD],?_,rfl,hke,hr,rfl,fun j hj=>absurd hj (Nat.not_lt_zero _)⟩
   simp only[Instr.findAsking,Sem.run_bind,hq,Result.andThen_ok,if_true,Sem.run_pure,Nat.add_zero]
  ·rw[Ey hkk]at hq
   have ih:=Gg s hk hp hkb hkc (es:=es) (ms:=ms) (by simpa using hl) (fun i kk vv hi=>h (i+1) kk vv (by simpa using hi)) hc.2 (n+1)
   rcases ih with⟨h1,h2⟩ | ⟨v,i,e,h1,h2,h3,h4,h5,h6,h7⟩
   ·left
    refine⟨by simp only[BD,Ey hkk];exact h1,?_⟩
    simp only[Instr.findAsking,Sem.run_bind,hq,Result.andThen_ok]
    simpa using h2
   ·right
    refine⟨v,i+1,e,by simp only[BD,Ey hkk];exact h1,?_,by simpa using h3,h4,h5,by simpa using h6,fun j hj kk vv hjv=>?_⟩
    ·simp only[Instr.findAsking,Sem.run_bind,hq,Result.andThen_ok]
     rw[show n+(i+1)=n+1+i by omega]
     simpa using h2
    ·cases j with
     | zero=>simp only[List.getElem?_cons_zero,Option.some.injEq,Prod.mk.injEq]at hjv;rw[<-hjv.1];exact hkk
     | succ j=>exact h7 j (by omega) kk vv (by simpa using hjv)
theorem FO (s:Sim g st loc w) {kt pe:TypeId} (hk:P.underlying kt=some (.pointer pe)) (hp:P.cellsOf pe≠0) {k:Nat} (hkb:k<st.nb) (hkc:Ao st k=true) {es:List (Nat×TV)} {ms:List MapEntry} (hl:es.length=ms.length)
  (h:∀(i k:Nat) (v:TV),es[i]? =some (k,v)->k<g.nb/\∃e:MapEntry,ms[i]? =some e/\e.key=Value.pointer (some ⟨g.bk k,0,none⟩)/\Rel g w v e.val) (hc:(es.all fun p=>Ao st p.1)=true):
  (BD k es=none/\(Instr.findKey kt (.pointer (some ⟨g.bk k,0,none⟩)) ms).run P w= .ok none w)∨∃v i e,BD k es=some v/\(Instr.findKey kt (.pointer (some ⟨g.bk k,0,none⟩)) ms).run P w= .ok (some (i,e.val)) w/\ms[i]? =some e/\e.key=Value.pointer (some ⟨g.bk k,0,none⟩)/\Rel g w v e.val/\es[i]? =some (k,v)/\∀j,j<i->∀kk vv,es[j]? =some (kk,vv)->k≠kk:=by
 have hnow:∀n,ms≠ []->Instr.findNow (.pointer pe) (.pointer (some ⟨g.bk k,0,none⟩)) ms n=none:=fun n hne=>by
  cases ms with
  | nil=>exact absurd rfl hne
  | cons m ms=>simp[Instr.findNow,Instr.sameNow]
 by_cases hne:ms=[]
 ·subst hne
  have:es=[]:=List.eq_nil_of_length_eq_zero (by simpa using hl)
  subst this
  left
  exact⟨rfl,by simp[Instr.findKey,As hk,Instr.findNow]⟩
 ·have hf:(Instr.findKey kt (.pointer (some ⟨g.bk k,0,none⟩)) ms).run P w=(Instr.findAsking kt (.pointer (some ⟨g.bk k,0,none⟩)) ms 0).run P w:=by
   simp only[Instr.findKey,Sem.run_bind,As hk,Result.andThen_ok,hnow 0 hne]
  rw[hf]
  rcases Gg s hk hp hkb hkc hl h hc 0 with h1 | ⟨v,i,e,h1,h2,h3⟩
  ·exact .inl h1
  ·exact .inr ⟨v,i,e,h1,by rw[h2,Nat.zero_add],h3⟩
theorem B0 {kt pe:TypeId} (hk:P.underlying kt=some (.pointer pe)) (b:Bool) (n:Nat) (a:Option Addr):(Instr.checkKey b (n+1) kt (.pointer a)).run P w= .ok () w:=by
 simp only[Instr.checkKey,Sem.run_bind,As hk,Result.andThen_ok,Sem.run_pure]
theorem Iw (s:Sim g st loc w) {x i:TV} {xv iv:Value} (hx:Rel g w x xv) (hi:Rel g w i iv) {es:List (Nat×TV)} {k:Nat} (h:Lb st x i=some (es,k)):
  iv= .pointer (some ⟨g.bk k,0,none⟩)/\k<st.nb/\Ao st k=true/\(es.all fun p=>Ao st p.1)=true/\∃m b ms c,x= .map m/\m<st.nb/\st.box m= .pmap es/\b=g.bk m/\xv= .map (some b)/\w.heap[b]? =some (.map ms c)/\es.length=ms.toList.length/\∀(i k:Nat) (v:TV),es[i]? =some (k,v)->k<g.nb/\∃e:MapEntry,ms.toList[i]? =some e/\e.key=Value.pointer (some ⟨g.bk k,0,none⟩)/\Rel g w v e.val:=by
 unfold Lb at h
 split at h
 ·rename_i es' k' hes hk
  split at h
  ·rename_i hc
   simp only[Option.some.injEq,Prod.mk.injEq]at h
   obtain⟨rfl,rfl⟩:=h
   simp only[Bool.and_eq_true]at hc
   have hkey:∃off,i= .box k' off/\off=0:=by
    unfold pkey at hk
    split at hk
    ·rename_i b off
     split at hk
     ·rename_i h0
      simp only[Option.some.injEq]at hk
      subst hk
      exact⟨off,rfl,Nat.eq_of_beq_eq_true h0⟩
     ·cases hk
    ·cases hk
   obtain⟨off,rfl,rfl⟩:=hkey
   cases hi with
   | box _ _ hlt=>
    refine⟨rfl,by rw[<-s.nb];exact hlt,hc.1,hc.2,?_⟩
    unfold K8 at hes
    split at hes
    ·rename_i m
     split at hes
     ·rename_i es2 hb
      simp only[Option.some.injEq]at hes
      subst hes
      cases hx with
      | map _ hlt2=>
       have hlt':m<st.nb:=by rw[<-s.nb];exact hlt2
       have ob:=s.obj (.box m) hlt'
       simp only[A3,hb,Ghost.at]at ob
       obtain⟨ms,c,h1,h2,h3⟩:=ob
       exact⟨m,_,ms,c,rfl,hlt',hb,rfl,rfl,h1,h2,h3⟩
     ·cases hes
    ·cases hes
  ·cases h
 ·cases h
theorem P4 (s:Sim g st loc w) {t:TypeId} {x i:TV} {xv iv:Value} (hx:Rel g w x xv) (hi:Rel g w i iv) {ok:Bool} {v:SV} (h:(My P st t x i ok).Is v):
  ∃u,(Instr.lookup t xv iv ok).run P w= .ok u w/\Bp g w loc v u:=by
 unfold My at h
 have fin:∀{e:TypeId} {z:TV} {zv:Value},(zeroValue e).run P w= .ok zv w->Rel g w z zv->∀(o:Option TV) (ov:Value),(match o with | some v=>Rel g w v ov | none=>ov=zv)->Bp g w loc (.t (okT ok z o)) (if ok=true then .tuple #[ov,.bool o.isSome]else ov):=by
  intro e z zv hzv hzr o ov ho
  have h1:Rel g w (Au z o) ov:=by
   cases o with
   | none=>simp only at ho;rw[ho];exact hzr
   | some v=>exact ho
  cases ok with
  | false=>exact h1
  | true=>exact Rel.tuple _ [ov,.bool o.isSome] rfl (AL.cons h1 (AL.cons (Rel.bool _) (AL.nil _ _))).2
 split at h
 ·rename_i kt e ht
  split at h
  ·rename_i hkt
   split at h
   ·rename_i k z hz
    obtain⟨es,hes,rfl⟩:=h
    obtain⟨zv,hzv,hzr⟩:=Mh (P:=P) (g:=g) (w:=w) hz
    cases hi
    have fin:=fin hzv hzr
    show ∃u,(Instr.lookup t xv (.string ⟨k.toArray⟩) ok).run P w= .ok u w/\Bp g w loc (.t (okT ok z (AA k es))) u
    rcases OS s hx hes with⟨rfl,rfl⟩ | ⟨b,ms,c,rfl,hb,hl,hm⟩
    ·refine⟨_,?_,fin none zv rfl⟩
     have hf:(Instr.findKey kt (.string ⟨k.toArray⟩) []).run P w= .ok none w:=by simp[Instr.findKey,As hkt,Instr.findNow]
     simp only[Instr.lookup,Sem.run_bind,As ht,Result.andThen_ok,Sem.run_pure,DG hkt,hf,hzv]
     simp
    ·rcases Ib (P:=P) hkt (k:=k) hl hm with⟨h1,h2⟩ | ⟨v,i,e',h1,h2,h3,h4,h5,_⟩
     ·rw[h1]
      refine⟨_,?_,fin none zv rfl⟩
      have hg:(getObj b).run P w= .ok (.map ms c) w:=by simp[getObj,Sem.run,hb]
      simp only[Instr.lookup,Sem.run_bind,As ht,Result.andThen_ok,hg,Sem.run_pure,DG hkt,h2,hzv]
      simp
     ·rw[h1]
      refine⟨_,?_,fin (some v) e'.val h5⟩
      have hg:(getObj b).run P w= .ok (.map ms c) w:=by simp[getObj,Sem.run,hb]
      simp only[Instr.lookup,Sem.run_bind,As ht,Result.andThen_ok,hg,Sem.run_pure,DG hkt,h2]
      simp
   ·exact h.elim
  ·rename_i pe hkt
   split at h
   ·rename_i n z hn hz
    obtain⟨y,hy,rfl⟩:=h
    unfold plook at hy
    obtain⟨⟨es,k⟩,hp,rfl⟩:=Option.map_eq_some_iff.1 hy
    obtain⟨rfl,hk1,hk2,hc,m,b,ms,c,_,_,_,_,rfl,hb,hl,hm⟩:=Iw s hx hi hp
    obtain⟨zv,hzv,hzr⟩:=Mh (P:=P) (g:=g) (w:=w) hz
    have fin:=fin hzv hzr
    have hg:(getObj b).run P w= .ok (.map ms c) w:=by simp[getObj,Sem.run,hb]
    have hp0:P.cellsOf pe≠0:=by omega
    rcases FO (P:=P) s hkt hp0 hk1 hk2 hl hm hc with⟨h1,h2⟩ | ⟨v,i,e',h1,h2,h3,h4,h5,_⟩
    ·refine⟨_,?_,by rw[h1];exact fin none zv rfl⟩
     simp only[Instr.lookup,Sem.run_bind,As ht,Result.andThen_ok,hg,Sem.run_pure,B0 hkt,h2,hzv]
     simp
    ·refine⟨_,?_,by rw[h1];exact fin (some v) e'.val h5⟩
     simp only[Instr.lookup,Sem.run_bind,As ht,Result.andThen_ok,hg,Sem.run_pure,B0 hkt,h2]
     simp
   ·exact h.elim
  ·exact h.elim
 ·exact h.elim
theorem OE {x:TV} {xv:Value} (hx:Rel g w x xv) {v:SV} (h:(AY.opt (PS x)).Is v) (ts:Array TypeId) (ty:TypeId):∃u,(Builtin.unsafeSliceData_ ts ty #[xv]).run P w= .ok u w/\Bp g w loc v u:=by
 obtain⟨y,h,rfl⟩:=h
 unfold PS at h
 split at h
 ·simp only[Option.some.injEq]at h;subst h
  cases hx
  exact⟨_,Lib.run_unsafeSliceData_nil w ts ty 0 0,Rel.nilPtr⟩
 ·rename_i sz tip n xs
  split at h
  ·cases h
  ·rename_i hn0
   simp only[Option.some.injEq]at h
   subst h
   have hn:n≠0:=fun h0=>by rw[h0]at hn0;cases hn0
   cases hx with
   | listE _ _ a _=>exact absurd rfl hn
   | list _ _ _ _ b o cap us hl hnc hc hr ht=>
    have hcap:cap≠0:=by omega
    exact⟨_,Lib.run_unsafeSliceData_row w ts ty _ n cap hcap,Rel.sptr _ _ n cap hcap (Rel.list sz tip n xs b o cap us hl hnc hc hr ht)⟩
 ·cases h
def Q6:Op->Bool
 | .buildSlice _ _ _=>true
 | _=>false
theorem Gw (s:Sim g st loc w) {ρ:Operand->SV} {ρc:Operand->Value} (o:Oper) (hbsl:Q6 o.op=false) (hρ:∀x,x∈o.op.operands->Bp g w loc (ρ x) (ρc x)) {v:SV} (h:(BB P st loc ρ o.op).Is v):
  Gives P (execOp ρc o) w g loc v:=by
 obtain⟨dst,op,type,pos,after,guard⟩:=o
 simp only at hρ h hbsl
 unfold BB at h
 split at h
 ·--move
  simp only[AY.Is]at h;subst h
  exact⟨_,rfl,hρ _ (by simp[Op.operands])⟩
 ·simp only[AY.Is]at h;subst h
  exact⟨_,rfl,hρ _ (by simp[Op.operands])⟩
 ·--pick
  rename_i c a b
  have hc:=hρ c (by simp[Op.operands])
  have ha:=hρ a (by simp[Op.operands])
  have hb:=hρ b (by simp[Op.operands])
  split at h
  ·rename_i hcv
   simp only[AY.Is]at h;subst h
   have:=hc.tv
   rw[hcv]at this
   have hcc:ρc c= .bool true:=by generalize ρc c=q at this;cases this;rfl
   exact⟨_,by simp[execOp,hcc,asBool],ha⟩
  ·rename_i hcv
   simp only[AY.Is]at h;subst h
   have:=hc.tv
   rw[hcv]at this
   have hcc:ρc c= .bool false:=by generalize ρc c=q at this;cases this;rfl
   exact⟨_,by simp[execOp,hcc,asBool],hb⟩
  ·exact h.elim
 ·--load
  rename_i t a
  exact BZ (Li s (hρ a (by simp[Op.operands])) h)
 ·--nilCheck
  rename_i x
  have hx:=hρ x (by simp[Op.operands])
  split at h
  ·rename_i i off he
   simp only[AY.Is]at h;subst h
   rw[he]at hx
   obtain⟨hl,hxc⟩:=hx
   exact⟨_,by simp only[execOp,hxc];rfl,⟨hl,rfl⟩⟩
  ·rename_i u he
   obtain⟨h1,rfl⟩:=h
   rw[he]at hx
   have hx':Rel g w u (ρc x):=hx
   cases u<;>simp only[isPtr,Bool.false_eq_true]at h1
   ·generalize hq:ρc x=q at hx'
    cases hx' with
    | box _ _ hb=>exact⟨_,by simp only[execOp,hq];rfl,Rel.box _ _ hb⟩
   ·generalize hq:ρc x=q at hx'
    cases hx' with
    | rptr _ b o us hc hr=>exact⟨_,by simp only[execOp,hq];rfl,Rel.rptr _ b o us hc hr⟩
 ·--binOp
  rename_i op t x y yt
  have hx:=hρ x (by simp[Op.operands])
  have hy:=(hρ y (by simp[Op.operands])).tv
  split at h
  ·rename_i i off he
   rw[he]at hx
   obtain⟨hl,hxc⟩:=hx
   split at h
   ·rename_i e eq hyv hu heq
    simp only[AY.Is]at h;subst h
    rw[hyv]at hy
    have hyc:ρc y= .pointer none:=by generalize ρc y=q at hy;cases hy;rfl
    apply BZ
    simp only[hxc,hyc]
    have hg:(eqGuard op t x y (.pointer (some ⟨g.lam i,off,none⟩)) (.pointer none)).run P w= .ok () w:=by apply Fu;trivial
    simp only[Sem.run_bind,hg,Result.andThen_ok]
    cases op<;>simp only[DE,Option.some.injEq,reduceCtorEq]at heq
    ·subst heq;exact⟨_,(GJ t e _ hu).1,Rel.bool _⟩
    ·subst heq;exact⟨_,(GJ t e _ hu).2,Rel.bool _⟩
   ·exact h.elim
  ·rename_i a he
   rw[he]at hx
   exact BZ (TK op t a _ _ _ hx hy v x y h)
 ·--not
  rename_i t x
  have hx:=(hρ x (by simp[Op.operands])).tv
  split at h
  ·rename_i b hb
   simp only[AY.Is]at h;subst h
   rw[hb]at hx
   have hxc:ρc x= .bool b:=by generalize ρc x=q at hx;cases hx;rfl
   exact BZ ⟨_,by rw[hxc];rfl,Rel.bool _⟩
  ·exact h.elim
 ·--neg
  rename_i t x
  have hx:=(hρ x (by simp[Op.operands])).tv
  split at h
  ·rename_i k n hb
   simp only[AY.Is]at h;subst h
   rw[hb]at hx
   have hxc:ρc x= .int k n:=by generalize ρc x=q at hx;cases hx;rfl
   exact BZ ⟨_,by rw[hxc];rfl,Rel.int _ _⟩
  ·exact h.elim
 ·--convert
  rename_i sr d x
  exact BZ (Qq s (hρ x (by simp[Op.operands])).tv h)
 ·--makeFunc
  rename_i f first cap
  split at h
  ·rename_i hsz
   simp only[AY.Is]at h;subst h
   have hf:first= #[]:=Array.eq_empty_of_size_eq_zero hsz
   subst hf
   refine BZ ⟨.func (.func f) #[] (cap.toList.map ρc).toArray,?_,?_⟩
   ·simp only[Instr.makeFunc];show Result.ok (Value.func (.func f) (#[].map ρc) (cap.map ρc)) w=_;rw[show cap.map ρc=(cap.toList.map ρc).toArray from Array.ext' (by simp)];simp
   ·refine Rel.func f _ _ (by simp) (fun i hi=>?_)
    have hi':i<cap.toList.length:=by simpa using hi
    simp only[List.getElem_map,List.getD_eq_getElem?_getD,List.getElem?_map,List.getElem?_eq_getElem hi',Option.map_some,Option.getD_some]
    exact(hρ _ (by simp only[Op.operands,Array.mem_append];right;exact Array.mem_toList_iff.1 (List.getElem_mem hi'))).tv
  ·exact h.elim
 ·--slice
  rename_i t x lo hi mx
  exact BZ (Ow (hρ x (by simp[Op.operands])).tv (PW lo fun y hy=>hρ y (by simp[Op.operands,hy])) (PW hi fun y hy=>hρ y (by simp[Op.operands,hy])) (PW mx fun y hy=>hρ y (by simp[Op.operands,hy])) h)
 ·--fieldAddr
  rename_i t x f
  have hx:=hρ x (by simp[Op.operands])
  split at h
  ·rename_i fd hfd
   split at h
   ·exact h.elim
   ·rename_i hz
    split at h
    ·rename_i i off he
     simp only[AY.Is]at h;subst h
     rw[he]at hx
     obtain⟨hl,hxc⟩:=hx
     exact BZ ⟨_,by rw[hxc];exact FP hfd hz _ _,⟨hl,rfl⟩⟩
    ·rename_i u he
     obtain⟨h1,rfl⟩:=h
     rw[he]at hx
     have hx':Rel g w u (ρc x):=hx
     generalize hq:ρc x=q at hx'
     cases u<;>simp only[isPtr,Bool.false_eq_true]at h1
     ·cases hx' with
      | box _ _ hb=>exact BZ ⟨_,by rw[hq];exact FP hfd hz _ _,Rel.box _ _ hb⟩
     ·cases hx' with
      | rptr xs b o us hc hr=>exact BZ ⟨_,by rw[hq];exact FP hfd hz _ _,Mp hc hr _⟩
  ·exact h.elim
 ·--field
  rename_i t x f
  have hx:=(hρ x (by simp[Op.operands])).tv
  split at h
  ·rename_i fd xs hfd hxs
   obtain⟨y,hy,rfl⟩:=h
   rw[hxs]at hx
   generalize hq:ρc x=q at hx
   cases hx with
   | agg _ vs hl hr=>
    obtain⟨u,hu,hrel⟩:=PY (P:=P) (w:=w) ⟨hl,hr⟩ hy
    obtain⟨fs,hus,hf⟩:=Jl hfd
    refine BZ ⟨u,?_,hrel⟩
    rw[hq]
    simp[Instr.field,As hus,hf,asAgg,hu]
  ·exact h.elim
 ·--indexAddr
  rename_i t x i
  have hx:=hρ x (by simp[Op.operands])
  have hi:=(hρ i (by simp[Op.operands])).tv
  split at h
  ·rename_i kl off he
   rw[he]at hx
   obtain⟨hl,hxc⟩:=hx
   split at h
   ·rename_i m e k n hel hn
    split at h
    ·rename_i sz hsz
     obtain⟨⟨h0,h1⟩,rfl⟩:=h
     rw[hn]at hi
     have hic:ρc i= .int k n:=by generalize ρc i=q at hi;cases hi;rfl
     have hu:P.underlying t=some (.array m e):=by
      unfold arrOf at hel
      split at hel
      ·rename_i m' e' hu;simp only[Option.some.injEq,Prod.mk.injEq]at hel;obtain⟨rfl,rfl⟩:=hel;exact hu
      ·cases hel
     exact BZ ⟨_,by rw[hxc,hic];exact NG hu hsz h0 h1,⟨hl,rfl⟩⟩
    ·exact h.elim
   ·exact h.elim
  ·rename_i u he
   rw[he]at hx
   have hx':Rel g w u (ρc x):=hx
   split at h
   ·rename_i e k n hel hn
    split at h
    ·rename_i sz hsz
     obtain⟨⟨h0,h1⟩,rfl⟩:=h
     rw[hn]at hi
     have hic:ρc i= .int k n:=by generalize ρc i=q at hi;cases hi;rfl
     have hu:P.underlying t=some (.slice e):=by
      unfold Cr at hel
      split at hel
      ·rename_i e' hu;simp only[Option.some.injEq]at hel;subst hel;exact hu
      ·cases hel
     refine BZ ?_
     rw[hic]
     exact Kx hx' hu hsz h0 h1
    ·exact h.elim
   ·exact h.elim
 ·--index
  rename_i t x i
  have hx:=(hρ x (by simp[Op.operands])).tv
  have hi:=(hρ i (by simp[Op.operands])).tv
  split at h
  ·rename_i sl k n hu hsl hn
   obtain⟨⟨h0,h1⟩,rfl⟩:=h
   rw[hn]at hi
   rw[hsl]at hx
   have hic:ρc i= .int k n:=by generalize ρc i=q at hi;cases hi;rfl
   have hxc:ρc x= .string ⟨sl.toArray⟩:=by generalize ρc x=q at hx;cases hx;rfl
   refine BZ ⟨_,?_,Rel.int _ _⟩
   rw[hic,hxc]
   exact O6 hu h0 h1
  ·exact h.elim
 ·--extract
  rename_i x i
  have hx:=(hρ x (by simp[Op.operands])).tv
  split at h
  ·rename_i xs hxs
   obtain⟨y,hy,rfl⟩:=h
   rw[hxs]at hx
   generalize hq:ρc x=q at hx
   cases hx with
   | tuple _ vs hl hr=>
    obtain⟨u,hu,hrel⟩:=AL.get? ⟨hl,hr⟩ hy
    refine BZ ⟨u,?_,hrel⟩
    rw[hq]
    simp[Instr.extract,hu]
  ·exact h.elim
 ·--len
  rename_i args ts
  split at h
  ·rename_i x t hx ht
   have hx':=(hρ x (by simp only[Op.operands,Call.operands];exact Array.mem_append.2 (.inr (Array.mem_of_getElem? hx)))).tv
   obtain⟨u,hu,hrel⟩:=RV hx' h ts ht type
   refine⟨u,?_,hrel⟩
   have h1:(Builtin.len_ ts type (args.map ρc)).run P w=(Builtin.len_ ts type #[ρc x]).run P w:=by
    simp[Builtin.len_,ht,hx]
   simp[execOp,resolve,invoke,Go.builtin,h1,hu]
  ·exact h.elim
 ·--sliceData
  rename_i args ts
  split at h
  ·rename_i x hx
   have ha:args= #[x]:=by rw[<-Array.toArray_toList (xs:=args),hx]
   subst ha
   have hx':=(hρ x (by simp[Op.operands,Call.operands])).tv
   obtain⟨u,hu,hrel⟩:=OE (P:=P) (loc:=loc) hx' h ts type
   refine⟨u,?_,hrel⟩
   simp[execOp,resolve,invoke,Go.builtin,hu]
  ·exact h.elim
 ·--lookup
  rename_i t x i ok
  exact BZ (P4 s (hρ x (by simp[Op.operands])).tv (hρ i (by simp[Op.operands])).tv h)
 ·--buildSlice
  simp[Q6]at hbsl
 ·--min
  rename_i args ts
  split at h
  ·rename_i x y hxy
   have ha:args= #[x,y]:=by rw[<-Array.toArray_toList (xs:=args),hxy]
   subst ha
   have hx':=(hρ x (by simp[Op.operands,Call.operands])).tv
   have hy':=(hρ y (by simp[Op.operands,Call.operands])).tv
   obtain⟨u,hu,hrel⟩:=Mu (P:=P) (loc:=loc) hx' hy' h ts type
   refine⟨u,?_,hrel⟩
   simp only at hu
   simp[execOp,resolve,invoke,Go.builtin,hu]
  ·exact h.elim
 ·--max
  rename_i args ts
  split at h
  ·rename_i x y hxy
   have ha:args= #[x,y]:=by rw[<-Array.toArray_toList (xs:=args),hxy]
   subst ha
   have hx':=(hρ x (by simp[Op.operands,Call.operands])).tv
   have hy':=(hρ y (by simp[Op.operands,Call.operands])).tv
   obtain⟨u,hu,hrel⟩:=Mu (P:=P) (loc:=loc) hx' hy' h ts type
   refine⟨u,?_,hrel⟩
   simp only at hu
   simp[execOp,resolve,invoke,Go.builtin,hu]
  ·exact h.elim
 ·exact h.elim
end
end Go.TVF
end
section
namespace Go.TVF
open Go.IntKind(i64 u8)
open Go.RowKit (Below)
theorem FE {α:Type}:∀(xs l:List α) (off:Nat),(setAll l off xs).length=l.length
 | [],l,off=>rfl
 | x::xs,l,off=>by simp[setAll,FE xs]
section
variable {P:Program} {g:Ghost} {st:St} {loc:List (Option (List TV))} {w:World}
theorem HE {t:TypeId} {l:List TV} (h:Fj P t=some l) (w:World):∃z,(zeroValue t).run P w= .ok z w/\l=z.cells.toList.map I9:=by
 unfold Fj at h
 split at h
 ·rename_i i hi
  split at h
  ·rename_i z hz
   simp only[Option.some.injEq]at h
   exact⟨z,by simp[zeroValue,typeInfo,hi,hz],h.symm⟩
  ·cases h
 ·cases h
theorem PZ {x:TV} {v:Value} (h:Rel g w x v) (h1:At x=true):v.oneCell'=true:=by
 cases h<;>first | rfl | (simp[At]at h1)
theorem GN {x:TV} {v:Value} (h:Rel g w x v) {l:List TV} (hl:Fb x=some l):AL g w l v.cells.toList:=by
 cases h<;>simp only[Fb,Option.some.injEq,reduceCtorEq]at hl<;>subst hl
 all_goals first
  | (rename_i xs vs hlen hr;simp only[Value.cells,List.toList_toArray];exact⟨hlen,hr⟩)
  | skip
 all_goals refine .cons ?_ (.nil _ _)
 ·exact .int _ _
 ·exact .bool _
 ·exact .str _
 ·exact .nilPtr
 ·exact .nilSlice
 ·exact .nilMap
 ·exact .nilFunc
 ·exact .nilIface
 ·exact .list _ _ _ _ _ _ _ _ ‹_› ‹_› ‹_› ‹_› ‹_›
 ·exact .listE _ _ _ ‹_›
 ·exact .ms _ _ _ _ _ ‹_› ‹_›
 ·exact .box _ _ ‹_›
 ·exact .rptr _ _ _ _ ‹_› ‹_›
 ·exact .func _ _ _ ‹_› ‹_›
 ·exact .iface _ _ _ ‹_›
 ·exact .map _ ‹_›
 ·exact .sptr _ _ _ _ ‹_› ‹_›
theorem AL.setAll {xs ys:List TV} {vs us:List Value} (h:AL g w xs vs) (k:AL g w ys us) (off:Nat):AL g w (TVF.setAll xs off ys) (TVF.setAll vs off us):=by
 induction ys generalizing xs vs us off with
 | nil=>cases us with
  | nil=>exact h
  | cons u us=>have:=k.1;simp at this
 | cons y ys ih=>cases us with
  | nil=>have:=k.1;simp at this
  | cons u us=>
   have hy:Rel g w y u:=k.2 0 (by simp)
   have hys:AL g w ys us:=⟨by have:=k.1;simpa using this,fun i hi=>k.2 (i+1) (by simpa using hi)⟩
   exact ih (h.set hy off) hys (off+1)
def Ic (place:Nat->Option (Nat×Nat)):List TV->List (Nat×TV)->Option (List TV)
 | cells,[]=>some cells
 | cells,(i,v)::rest=>
  match place i,Fb v with
  | some (off,size),some cs=>match (cs.length.beq size).and ((off+size).ble cells.length)with
   | true=>Ic place (setAll cells off cs) rest
   | false=>none
  | _,_=>none
theorem IH {v:TV} (h:At v=true):Fb v=some [v]:=by cases v<;>simp_all[At,Fb]
theorem Qu {b:Bool} {v:TV} {l:List TV} (h1:(!b).or (At v)=true) (h:Qv b v=some l):Fb v=some l:=by
 cases b with
 | false=>exact h
 | true=>simp only[Qv,Option.some.injEq]at h;subst h;exact IH (by simpa using h1)
theorem HK (place:Nat->Option (Nat×Nat)) (scal:Nat->Bool):∀(parts:List (Nat×TV)) (cells out:List TV),Ld scal parts=true->Lw place scal cells parts=some out->Ic place cells parts=some out
 | [],cells,out,_,h=>h
 | (i,v)::rest,cells,out,h1,h=>by
  simp only[Ld,List.all_cons,Bool.and_eq_true]at h1
  simp only[Lw]at h
  simp only[Ic]
  split at h
  ·rename_i off size cs hp hc
   rw[hp,Qu h1.1 hc]
   cases hb:(cs.length.beq size).and ((off+size).ble cells.length)with
   | true=>
    rw[hb]at h
    show(match (cs.length.beq size).and ((off+size).ble cells.length)with | true=>Ic place (setAll cells off cs) rest | false=>none)=some out
    rw[hb]
    exact HK place scal rest _ _ (by simpa [Ld]using h1.2) h
   | false=>rw[hb]at h;cases h
  ·cases h
theorem RZ (vs:List Value):∀(k off:Nat) (cs:Array Value),((vs.zipIdx k).foldl (fun cs (p:Value×Nat)=>cs.setIfInBounds (off+p.2) p.1) cs).toList=setAll cs.toList (off+k) vs:=by
 induction vs with
 | nil=>intro k off cs;rfl
 | cons v vs ih=>
  intro k off cs
  simp only[List.zipIdx_cons,List.foldl_cons,setAll]
  rw[ih (k+1) off]
  simp[Nat.add_assoc]
def PRel (g:Ghost) (w:World):List (Nat×TV)->List (Nat×Value)->Prop
 | [],[]=>True
 | (i,x)::xs,(j,v)::vs=>i=j/\Rel g w x v/\PRel g w xs vs
 | _,_=>False
theorem GI (place:Nat->Option (Nat×Nat)):∀(parts:List (Nat×TV)) (vparts:List (Nat×Value)) (cells:List TV) (vs:Array Value) (out:List TV),PRel g w parts vparts->AL g w cells vs.toList->
  Ic place cells parts=some out->∃us,Instr.fill place vs vparts=some us/\AL g w out us.toList
 | [],[],cells,vs,out,_,hr,h=>by simp only[Ic,Option.some.injEq]at h;subst h;exact⟨vs,rfl,hr⟩
 | [],_::_,cells,vs,out,hp,hr,h=>hp.elim
 | _::_,[],cells,vs,out,hp,hr,h=>by exact(by cases ‹Nat×TV›;exact hp.elim)
 | (i,x)::parts,(j,v)::vparts,cells,vs,out,hp,hr,h=>by
  obtain⟨rfl,hx,hp'⟩:=hp
  simp only[Ic]at h
  split at h
  ·rename_i off size cs hpl hcs
   split at h
   ·rename_i hchk
    simp only[Bool.and_eq_true]at hchk
    obtain⟨h1,h2⟩:=hchk
    have e1:=Nat.eq_of_beq_eq_true h1
    have e2:=Nat.le_of_ble_eq_true h2
    have hc:=GN hx hcs
    have hsz:v.cells.size=size:=by have:=hc.1;simp at this;omega
    have hvs:cells.length=vs.size:=by simpa using hr.1
    simp only[Instr.fill,hpl]
    rw[if_neg (by simp;omega)]
    refine GI place parts vparts _ _ out hp' ?_ h
    have:=RZ v.cells.toList 0 off vs
    have e3:(v.cells.zipIdx.foldl (fun cs (x:Value×Nat)=>match x with | (c,j)=>cs.setIfInBounds (off+j) c) vs).toList=setAll vs.toList off v.cells.toList:=by
     rw[<-Array.foldl_toList]
     simp only[Array.toList_zipIdx]
     simpa using this
    rw[e3]
    exact hr.setAll hc off
   ·cases h
  ·cases h
theorem St.put_put (st:St) (b:Nat) (x y:HU):(st.put b x).put b y=st.put b y:=by
 simp only[St.put];congr 1;funext i;split<;>rfl
theorem St.put_self (st:St) (b:Nat) (x:HU) (h:st.box b=x):st.put b x=st:=by
 cases st;simp only[St.put];congr 1;funext i;split
 ·rename_i hi;subst hi;exact h.symm
 ·rfl
theorem LM {xs:List TV} {vs:List Value} (h:AL g w xs vs) (h1:xs.all At=true):∀v∈vs,v.oneCell'=true:=by
 intro v hv
 obtain⟨i,hi,rfl⟩:=List.getElem_of_mem hv
 have hx:i<xs.length:=h.1▸hi
 have:=h.2 i hx
 rw[List.getD_eq_getElem?_getD,List.getElem?_eq_getElem hi]at this
 exact PZ this (List.all_eq_true.1 h1 _ (List.getElem_mem hx))
theorem Ex:∀(xs:List TV) (vs:List Value) (st:St) (l:List TV) (w:World) (b o:Nat),Sim g st loc w->b<st.nb->st.box b= .cells l->o+xs.length<=l.length->AL g w xs vs->
  Sim g (st.put b (.cells (setAll l o xs))) loc (w.setCells (g.bk b) o vs)/\Ext g w g (w.setCells (g.bk b) o vs)
 | [],[],st,l,w,b,o,s,hb,hl,ho,hr=>by
  simp only[setAll,World.setCells]
  rw[St.put_self st b _ hl]
  exact⟨s,Ext.refl _ _⟩
 | [],_::_,st,l,w,b,o,s,hb,hl,ho,hr=>by have:=hr.1;simp at this
 | _::_,[],st,l,w,b,o,s,hb,hl,ho,hr=>by have:=hr.1;simp at this
 | x::xs,v::vs,st,l,w,b,o,s,hb,hl,ho,hr=>by
  have hx:Rel g w x v:=hr.2 0 (by simp)
  have hxs:AL g w xs vs:=⟨by have:=hr.1;simpa using this,fun i hi=>hr.2 (i+1) (by simpa using hi)⟩
  simp only[List.length_cons]at ho
  obtain⟨s1,e1⟩:=s.storeBox (o:=o) hb hl (by omega) hx
  have:=Ex xs vs (st.put b (.cells (l.set o x))) (l.set o x) (w.setCell ⟨g.bk b,o,none⟩ v) b (o+1) s1 hb (by simp[St.put]) (by simp;omega) (hxs.ext e1)
  rw[St.put_put]at this
  exact⟨this.1,e1.trans this.2⟩
theorem Gu:∀(xs:List TV) (vs:List Value) (loc:List (Option (List TV))) (l:List TV) (w:World) (i o:Nat),Sim g st loc w->loc[i]? =some (some l)->o+xs.length<=l.length->AL g w xs vs->
  Sim g st (loc.set i (some (setAll l o xs))) (w.setCells (g.lam i) o vs)/\Ext g w g (w.setCells (g.lam i) o vs)
 | [],[],loc,l,w,i,o,s,hl,ho,hr=>by
  simp only[setAll,World.setCells]
  obtain⟨hi,hli⟩:=List.getElem?_eq_some_iff.1 hl
  rw[show loc.set i (some l)=loc from by rw[<-hli];exact List.set_getElem_self hi]
  exact⟨s,Ext.refl _ _⟩
 | [],_::_,loc,l,w,i,o,s,hl,ho,hr=>by have:=hr.1;simp at this
 | _::_,[],loc,l,w,i,o,s,hl,ho,hr=>by have:=hr.1;simp at this
 | x::xs,v::vs,loc,l,w,i,o,s,hl,ho,hr=>by
  have hx:Rel g w x v:=hr.2 0 (by simp)
  have hxs:AL g w xs vs:=⟨by have:=hr.1;simpa using this,fun i hi=>hr.2 (i+1) (by simpa using hi)⟩
  simp only[List.length_cons]at ho
  obtain⟨hi,hli⟩:=List.getElem?_eq_some_iff.1 hl
  obtain⟨s1,e1⟩:=s.storeLoc (o:=o) hl (by omega) hx
  have:=Gu xs vs (loc.set i (some (l.set o x))) (l.set o x) (w.setCell ⟨g.lam i,o,none⟩ v) i (o+1) s1 (by rw[List.getElem?_set_self hi]) (by simp;omega) (hxs.ext e1)
  rw[List.set_set]at this
  exact⟨this.1,e1.trans this.2⟩
theorem IZ {k:Key} (s:Sim g st loc w) (d:Dom st loc k) {l:List TV} (hl:A3 st loc k= .cells l) {o:Nat} {xs:List TV} {vs:List Value} (ho:o+xs.length<=l.length) (hr:AL g w xs vs) (h1:xs.all At=true):
  (storeCells ⟨g.at k,o,none⟩ vs).run P w= .ok () (w.setCells (g.at k) o vs):=by
 have ob:=s.obj k d
 rw[hl]at ob
 obtain⟨cs,hc,hrc⟩:=ob
 have hlen:cs.length=l.length:=hrc.1.symm
 have hvl:vs.length=xs.length:=hr.1.symm
 have:=run_storeCells_cells (P:=P) (g.at k) o vs 0 w (fun j hj=>by
   have:o+0+j<cs.length:=by omega
   rw[hc.get (List.getElem?_eq_getElem this)];rfl) (fun j hj=>hc.unfrozen (by omega)) (LM hr h1)
 simpa using this
def stK (st:St) (loc:List (Option (List TV))) (p:SV) (xs:List TV) (k:List (Option (List TV))->St->Prop):Prop:=
 match p with
 | .loc i off=>match loc[i]? with
  | some (some l)=>need ((off+xs.length).ble l.length) (k (loc.set i (some (setAll l off xs))) st)
  | _=>False
 | .t (.box b off)=>∃l,st.box b= .cells l/\off+xs.length<=l.length/\k loc (st.put b (.cells (setAll l off xs)))
 | _=>False
theorem Om {t:TypeId} {d:TypeDesc} (hd:P.underlying t=some d) (s:Sim g st loc w) {p:SV} {pv:Value} (hp:Bp g w loc p pv) {x:TV} {v:Value} (hx:Rel g w x v) {xs:List TV} (hxs:Fb x=some xs)
  (hlen:xs.length=P.cellsOf t) (h1:xs.all At=true) {k:List (Option (List TV))->St->Prop} (h:stK st loc p xs k):
  ∃w' loc' st',(Instr.storeAt t pv v).run P w= .ok () w'/\k loc' st'/\Sim g st' loc' w'/\Ext g w g w'/\(∀(i:Nat) (y:List TV),loc[i]? =some (some y)->∃z,loc'[i]? =some (some z)):=by
 have hcs:=GN hx hxs
 have hsz:¬(v.cells.size≠P.cellsOf t):=by have:=hcs.1;simp at this;omega
 unfold stK at h
 split at h
 ·rename_i i off
  obtain⟨⟨l,hl⟩,rfl⟩:=hp
  rw[hl]at h
  simp only[Ak]at h
  obtain⟨hle,hk⟩:=h
  have hle':=Nat.le_of_ble_eq_true hle
  obtain⟨s',e'⟩:=Gu xs v.cells.toList loc l w i off s hl hle' hcs
  refine⟨_,_,_,?_,hk,s',e',fun j y hj=>?_⟩
  ·have:=IZ (P:=P) (k:= .loc i) s ⟨l,hl⟩ (by simp only[A3,hl]) hle' hcs h1
   simp only[Ghost.at]at this
   simp[Instr.storeAt,Instr.sureAddr,storeVar,Hc hd,hsz,this]
  ·by_cases hij:i=j
   ·subst hij
    obtain⟨hi,_⟩:=List.getElem?_eq_some_iff.1 hl
    exact⟨_,List.getElem?_set_self hi⟩
   ·exact⟨y,by rw[List.getElem?_set_ne hij];exact hj⟩
 ·rename_i b off
  cases hp with
  | box _ _ hb=>
   obtain⟨l,hl,hle,hk⟩:=h
   have hb':b<st.nb:=s.nb▸hb
   obtain⟨s',e'⟩:=Ex xs v.cells.toList st l w b off s hb' hl hle hcs
   refine⟨_,_,_,?_,hk,s',e',fun j y hj=>⟨y,hj⟩⟩
   have:=IZ (P:=P) (k:= .box b) s hb' (by simp only[A3,hl]) hle hcs h1
   simp only[Ghost.at]at this
   simp[Instr.storeAt,Instr.sureAddr,storeVar,Hc hd,hsz,this]
 ·exact h.elim
def Bt (g:Ghost) (loc:List (Option (List TV))) (g':Ghost) (loc':List (Option (List TV))):Prop:=
 ∀(i:Nat) (x:List TV),loc[i]? =some (some x)->g'.lam i=g.lam i/\∃y,loc'[i]? =some (some y)
theorem Bt.refl (g:Ghost) (loc:List (Option (List TV))):Bt g loc g loc:=fun i x h=>⟨rfl,x,h⟩
theorem Bp.keep {g g':Ghost} {w w':World} {loc loc':List (Option (List TV))} (e:Ext g w g' w') (k:Bt g loc g' loc') {v:SV} {u:Value} (h:Bp g w loc v u):Bp g' w' loc' v u:=by
 cases v with
 | t v=>exact Rel.ext e h
 | loc i off=>
  obtain⟨⟨l,hl⟩,rfl⟩:=h
  obtain⟨h1,h2⟩:=k i l hl
  exact⟨h2,by rw[h1]⟩
def Em (g:Ghost) (w:World) (loc:List (Option (List TV))) (K:SV->List (Option (List TV))->St->Prop) (v:Value) (w':World):Prop:=
 ∃sv loc' st' g',K sv loc' st'/\Sim g' st' loc' w'/\Bp g' w' loc' sv v/\Ext g w g' w'/\Bt g loc g' loc'
def C8 (T:Nat) (ix:Option Nat) (cells:List TV) (loc:List (Option (List TV))) (st:St) (K:SV->List (Option (List TV))->St->Prop):Prop:=
 match ix with
 | some k=>match loc[k]? with
  | some none=>K (.loc k 0) (loc.set k (some cells)) st
  | _=>False
 | none=>K (.t (.box st.nb 0)) loc (st.push (.cells cells) (some T))
theorem Fx (s:Sim g st loc w) {ix:Option Nat} {cells:List TV} {vs:Array Value} (T:TypeId) (hr:AL g w cells vs.toList) {K:SV->List (Option (List TV))->St->Prop} (h:C8 T ix cells loc st K):
  Em g w loc K (.pointer (some ⟨w.heap.size,0,none⟩)) (w.alloc (.cells vs T)):=by
 obtain⟨s1,e1,fr⟩:=s.alloc (.cells vs T)
 have hb:w.heap.size<(w.alloc (.cells vs T)).heap.size:=by simp
 have ho:FS g (w.alloc (.cells vs T)) w.heap.size (.cells cells):=⟨vs.toList,by simpa using BQ.alloc w vs.toList T,hr.ext e1⟩
 cases ix with
 | some k=>
  simp only[C8]at h
  split at h
  ·rename_i hk
   obtain⟨hlt,hkv⟩:=List.getElem?_eq_some_iff.1 hk
   have hne:∀(j:Nat) (x:List TV),loc[j]? =some (some x)->j≠k:=fun j x hj he=>by subst he;rw[hk]at hj;cases hj
   obtain⟨s2,e2⟩:=s1.putLoc (loc':=loc.set k (some cells)) (n:=k) fr hb ho (List.getElem?_set_self hlt) (fun j hj x=>by rw[List.getElem?_set_ne (Ne.symm hj)])
   refine⟨_,_,_,_,h,s2,⟨⟨cells,List.getElem?_set_self hlt⟩,by simp[Ghost.pushLoc]⟩,e1.trans e2,fun i x hi=>⟨?_,x,?_⟩⟩
   ·simp only[Ghost.pushLoc];rw[if_neg (hne i x hi)]
   ·rw[List.getElem?_set_ne (Ne.symm (hne i x hi))];exact hi
  ·exact h.elim
 | none=>
  obtain⟨s2,e2,hbk⟩:=s1.push fr hb ho (T:=some T) (fun t ht=>by cases ht;exact⟨vs,(0,0),BK _ _⟩)
  refine⟨_,_,_,_,h,s2,?_,e1.trans e2,fun i x hi=>⟨rfl,x,hi⟩⟩
  show Rel _ _ (.box st.nb 0) _
  have hlt:st.nb<(g.push w.heap.size).nb:=by simp only[Ghost.push,s.nb];omega
  have:=Rel.box (g:=g.push w.heap.size) (w:=w.alloc (.cells vs T)) st.nb 0 hlt
  rw[hbk]at this
  exact this
theorem Hs (w:World) (c:Array Value) (t:TypeId) (fz:Nat×Nat) (i:Nat):(w.alloc (.cells c t fz)).cell? ⟨w.heap.size,i,none⟩=c[i]? :=by
 unfold World.cell?
 simp only[BK]
 simp
theorem JW (w:World) (c:Array Value) (t:TypeId) (fz:Nat×Nat) (i:Nat) (h:¬(fz.1<=i/\i<fz.2)):(w.alloc (.cells c t fz)).frozen? ⟨w.heap.size,i,none⟩=false:=by
 obtain⟨lo,hi⟩:=fz
 unfold World.frozen?
 simp only[BK]
 simp at h⊢
 omega
theorem J7 (s:Sim g st loc w) {cells:List TV} {vs:Array Value} (T:TypeId) (fz:Nat×Nat) (hr:AL g w cells (vs.toList.take cells.length)) (hle:cells.length<=vs.size):
  ∃g',Sim g' st loc (w.alloc (.cells vs T fz))/\Ext g w g' (w.alloc (.cells vs T fz))/\g'.lam=g.lam/\g'.sp=g.sp/\g'.nt=g.nt/\g'.base=g.base/\g'.prot=g.prot/\
   (∀k,Dom st loc k->g'.at k≠w.heap.size)/\(∀id l h,g.sp id≠some (w.heap.size,l,h))/\(¬g.prot w.heap.size)/\
   (∀a,g'.S a->a.block=w.heap.size->a.off<cells.length)/\
   (∀i,i<cells.length->g'.S ⟨w.heap.size,0+i,none⟩/\(w.alloc (.cells vs T fz)).cell? ⟨w.heap.size,0+i,none⟩=some (vs.getD i Go.undef))/\
   (∀i (h:i<cells.length),Rel g' (w.alloc (.cells vs T fz)) cells[i] (vs.getD i Go.undef)):=by
 obtain⟨s1,e1,fr⟩:=s.alloc (.cells vs T fz)
 have hc:∀i,i<cells.length->(w.alloc (.cells vs T fz)).cell? ⟨w.heap.size,i,none⟩=some (vs.getD i Go.undef):=by
  intro i hi
  rw[Hs]
  have:i<vs.size:=by omega
  simp[this]
 obtain⟨s2,e2⟩:=s1.settle (fun a=>a.block=w.heap.size/\a.off<cells.length/\a.spot=none) (fun a ha=>by
  obtain⟨h1,h2,h3⟩:=ha
  refine⟨h3,⟨vs.getD a.off Go.undef,?_⟩,fun k d=>?_,fun id l h hh=>?_⟩
  ·have:=hc a.off h2
   cases a;simp only at h1 h3 this⊢;subst h1 h3;exact this
  ·rw[h1];exact fr.2.1 k d
  ·rw[h1]at hh;exact absurd hh (fr.2.2.2.1 id l h)) (fun a ha=>by rw[ha.1];exact fr.2.2.2.2)
 refine⟨_,s2,e1.trans e2,rfl,rfl,rfl,rfl,rfl,fr.2.1,fr.2.2.2.1,fr.2.2.2.2,fun a ha hb=>?_,fun i hi=>⟨.inr ⟨rfl,by simpa using hi,rfl⟩,by simpa using hc i hi⟩,fun i hi=>?_⟩
 ·rcases ha with ha | ha
  ·exact absurd hb (fr.2.2.1 a ha)
  ·exact ha.2.1
 ·have:=hr.2 i hi
  rw[List.getD_eq_getElem?_getD,List.getElem?_take,if_pos hi]at this
  have h2:=this.ext (e1.trans e2)
  simpa using h2
theorem Du (s:Sim g st loc w) {sz n cap:Nat} {cells:List TV} {vs:Array Value} (T:TypeId) (fz:Nat×Nat) (hr:AL g w cells (vs.toList.take cells.length)) (hlen:cells.length=n*sz) (hcap:n<=cap) (hsz:vs.size=cap*sz) (hfz:∀o,o<vs.size->¬(fz.1<=o/\o<fz.2))
  {T':Option Nat} (hT':∀t,T'=some t->t=T) {K:SV->List (Option (List TV))->St->Prop} (h:K (.t (.list sz (.own st.nt) n cells)) loc (st.fresh T')):
  Em g w loc K (.slice (some ⟨w.heap.size,0,none⟩) n cap) (w.alloc (.cells vs T fz)):=by
 have hle:cells.length<=vs.size:=by rw[hlen,hsz];exact Nat.mul_le_mul_right _ hcap
 obtain⟨g1,s1,e1,hlam,hsp,hnt,hbase,hprot,hk,hns,hnp,hS,hc,hrel⟩:=J7 s T fz hr hle
 have hcell:∀o,n*sz<=o->o<cap*sz->(∃v,(w.alloc (.cells vs T fz)).cell? ⟨w.heap.size,o,none⟩=some v)/\(w.alloc (.cells vs T fz)).frozen? ⟨w.heap.size,o,none⟩=false:=by
  intro o h1 h2
  rw[Hs,JW _ _ _ _ _ (hfz o (by omega))]
  exact⟨⟨vs[o]'(by omega),by simp⟩,rfl⟩
 obtain⟨s2,e2,hsp2⟩:=s1.fresh w.heap.size (n*sz) (cap*sz) (.inl (by rw[hbase];exact s.fits)) (by rw[hbase];exact s.fits) (by simp) (Nat.mul_le_mul_right _ hcap) hk hcell
  (fun a ha hb hh=>by have:=hS a ha hb;omega) (by rw[hprot];exact hnp) (fun i l' h' hh=>by rw[hsp]at hh;exact absurd hh (hns i l' h')) (T:=T') (hT:=fun t ht=>by rw[hT' t ht];exact⟨vs,fz,BK _ _⟩) (hone:=fun i r hr hb=>by rw[hsp]at hr;obtain⟨r1,r2,r3⟩:=r;simp only at hb;subst hb;exact hns i _ _ hr)
 refine⟨_,_,_,_,h,s2,?_,e1.trans e2,fun i x hi=>⟨?_,x,hi⟩⟩
 ·refine Rel.list sz (.own st.nt) n cells w.heap.size 0 cap (fun i=>vs.getD i Go.undef) hlen hcap (fun i hi=>(e2.S _ (hc i hi).1).imp id (fun _=>(hc i hi).2)) (fun i hi=>(hrel i hi).ext e2) ⟨?_,fun r hr'=>?_⟩
  ·show st.nt<g1.nt+1
   rw[hnt,s.nt];omega
  ·rw[hsp2]at hr';simp only[Option.some.injEq]at hr';subst hr';simp
 ·show g1.lam i=g.lam i
  rw[hlam]
theorem Qe (s:Sim g st loc w) {sz n:Nat} {cells:List TV} {vs:Array Value} (T:TypeId) (hr:AL g w cells vs.toList) (hlen:cells.length=n*sz)
  {K:SV->List (Option (List TV))->St->Prop} (h:K (.t (.list sz .full n cells)) loc st):
  Em g w loc K (.slice (some ⟨w.heap.size,0,none⟩) n n) (w.alloc (.cells vs T)):=by
 have hvs:vs.size=cells.length:=by have:=hr.1;simp at this;omega
 obtain⟨g1,s1,e1,hlam,hsp,hnt,hbase,hprot,hk,hns,hnp,hS,hc,hrel⟩:=J7 s (vs:=vs) (cells:=cells) T (0,0) (by rw[List.take_of_length_le (by simp only[Array.length_toList];omega)];exact hr) (by omega)
 exact⟨_,_,_,_,h,s1,Rel.list sz .full n cells w.heap.size 0 n (fun i=>vs.getD i Go.undef) hlen (Nat.le_refl _) (fun i hi=>hc i hi) hrel rfl,e1,fun i x hi=>⟨by rw[hlam],x,hi⟩⟩
def DH (st:St) (sz:Nat):TV->Option (Nat×List TV)
 | .nilSlice=>some (0,[])
 | .list s _ n xs=>match s.beq sz with | true=>some (n,xs) | false=>none
 | .ms s b off n _=>match s.beq sz with
  | true=>match Aj st [] (.t (.box b off)) 0 (n*sz)with | some xs=>some (n,xs) | none=>none
  | false=>none
 | .str l=>match sz.beq 1 with | true=>some (l.length,A5 l) | false=>none
 | _=>none
def KS (T:Nat):Option Nat->Option Nat
 | some t=>match t.beq T with | true=>some T | false=>none
 | none=>none
theorem Dr {T t:Nat} {o:Option Nat} (h:KS T o=some t):t=T/\o=some T:=by
 cases o with
 | none=>cases h
 | some x=>
  simp only[KS]at h
  split at h
  ·rename_i hb;simp only[Option.some.injEq]at h;exact⟨h.symm,by rw[Nat.eq_of_beq_eq_true hb]⟩
  ·cases h
def Cx (T sz bytes:Nat) (v:TV) (k:Nat) (ys:List TV) (st:St) (K:TV->St->Prop):Prop:=
 match v with
 | .nilSlice=>match k with
  | 0=>K .nilSlice st
  | m+1=>need (((m+1)*bytes).ble 140737488355328) (K (.list sz (.own st.nt) (m+1) ys) (st.fresh (some T)))
 | .list s tip n xs=>match s.beq sz with
  | true=>(n+k)*bytes<=140737488355328/\match tip with
   | .full=>match k with
    | 0=>K (.list sz .full n xs) st
    | m+1=>K (.list sz (.own st.nt) (n+(m+1)) (xs++ys)) (st.fresh (some T))
   | .own id=>st.live id=true/\K (.list sz (.own st.nt) (n+k) (xs++ys)) ((st.retire id).fresh (KS T (st.ty id)))
   | .non=>False
  | false=>False
 | _=>False
theorem GR (s:Sim g st loc w) {sz:Nat} {x:TV} {xv:Value} (hx:Rel g w x xv) {k:Nat} {ys:List TV} (h:DH st sz x=some (k,ys)):
  ∃vs:List Value,AL g w ys vs/\vs.length=k*sz/\(Builtin.lenOf xv).run P w= .ok k w/\(Builtin.firstCells sz k xv).run P w= .ok vs.toArray w/\(Builtin.firstCells sz k xv).run P w.drew= .ok vs.toArray w.drew:=by
 have hfirst:∀(b o n cap:Nat) (vs:List Value),vs.length=n*sz->(∀j v,vs[j]? =some v->w.cell? ⟨b,o+j,none⟩=some v)->
   (Builtin.firstCells sz n (.slice (some ⟨b,o,none⟩) n cap)).run P w= .ok vs.toArray w/\(Builtin.firstCells sz n (.slice (some ⟨b,o,none⟩) n cap)).run P w.drew= .ok vs.toArray w.drew:=by
  intro b o n cap vs hl hc
  exact⟨run_firstCells_some w sz n _ n cap vs hl (fun j v hj=>by rw[Bl];exact hc j v hj),run_firstCells_some w.drew sz n _ n cap vs hl (fun j v hj=>by rw[Bl];exact hc j v hj)⟩
 unfold DH at h
 split at h
 ·simp only[Option.some.injEq,Prod.mk.injEq]at h
  obtain⟨rfl,rfl⟩:=h
  cases hx
  exact⟨[],.nil _ _,by simp,rfl,by simp[Builtin.firstCells],by simp[Builtin.firstCells]⟩
 ·rename_i s' tip n xs
  split at h
  ·rename_i hs
   have hs':s'=sz:=Nat.eq_of_beq_eq_true hs
   subst hs'
   simp only[Option.some.injEq,Prod.mk.injEq]at h
   obtain⟨rfl,rfl⟩:=h
   cases hx with
   | listE _ _ a ht=>
    have h1:=fun w:World=>run_firstCells_some (P:=P) w s' 0 a 0 0 [] (by simp) (fun j v hj=>by simp at hj)
    exact⟨[],.nil _ _,by simp,rfl,h1 w,h1 w.drew⟩
   | list _ _ _ _ b o cap us hl hn hc hr ht=>
    have hvs:((List.range xs.length).map us).length=n*s':=by simp[hl]
    have hf:=hfirst b o n cap ((List.range xs.length).map us) hvs (fun j v hj=>by
     rw[List.getElem?_map]at hj
     obtain⟨i,hi,rfl⟩:=Option.map_eq_some_iff.1 hj
     obtain⟨hlt,rfl⟩:=List.getElem?_eq_some_iff.1 hi
     simp only[List.getElem_range]at*
     exact(hc j (by simpa using hlt)).2)
    refine⟨_,⟨by simp,fun i hi=>?_⟩,hvs,rfl,hf.1,hf.2⟩
    simp only[List.getD_eq_getElem?_getD,List.getElem?_map,List.getElem?_range hi,Option.map_some,Option.getD_some]
    exact hr i hi
  ·cases h
 ·rename_i s' b off n cap
  split at h
  ·rename_i hs
   have hs':s'=sz:=Nat.eq_of_beq_eq_true hs
   subst hs'
   split at h
   ·rename_i xs hxs
    simp only[Option.some.injEq,Prod.mk.injEq]at h
    obtain⟨rfl,rfl⟩:=h
    cases hx with
    | ms _ _ _ _ _ hb hn=>
     have hp:Bp g w loc (.t (.box b off)) (.pointer (some ⟨g.bk b,off,none⟩)):=Rel.box b off hb
     rw[Fp st [] loc]at hxs
     obtain⟨vs,hl,hr,hcell⟩:=FG s hp _ 0 _ hxs
     have hf:=hfirst (g.bk b) off n cap vs hl (fun j v hj=>by simpa using hcell j v hj)
     exact⟨vs,hr,hl,rfl,hf.1,hf.2⟩
   ·cases h
  ·cases h
 ·rename_i l
  split at h
  ·rename_i hs
   have hs':sz=1:=Nat.eq_of_beq_eq_true hs
   subst hs'
   simp only[Option.some.injEq,Prod.mk.injEq]at h
   obtain⟨rfl,rfl⟩:=h
   cases hx
   have hb:∀w:World,(Builtin.firstCells 1 l.length (.string ⟨l.toArray⟩)).run P w= .ok (l.map fun b=>Value.int .u8 (b.toNat:Int)).toArray w:=by
    intro w
    simp only[Builtin.firstCells,Sem.run_pure]
    congr 1
    rw[Ea]
    simp
   refine⟨l.map fun b=>Value.int .u8 (b.toNat:Int),⟨by simp[A5],fun i hi=>?_⟩,by simp,?_,hb w,hb w.drew⟩
   ·have hi':i<l.length:=by simpa [A5]using hi
    simp only[A5,List.getElem_map,List.getD_eq_getElem?_getD,List.getElem?_map,List.getElem?_eq_getElem hi',Option.map_some,Option.getD_some]
    exact Rel.int _ _
   ·simp[Builtin.lenOf,Dt]
  ·cases h
 ·cases h
end
end Go.TVF
end
section
namespace Go.TVF
open Go.IntKind(i64 u8)
open Go.RowKit (Below)
section
variable {P:Program} {g:Ghost} {st:St} {loc:List (Option (List TV))} {w:World}
theorem BG (t u ty e:TypeId) (i:TypeInfo) (du:TypeDesc) (ht:P.underlying t=some (.slice e)) (hu:P.underlying u=some du) (hdu:(∃e',du= .slice e')∨du= .string) (hi:P.info? e=some i)
  (base:Option Addr) (n cap k:Nat) (x:Value) (vs:List Value) (hl:(Builtin.lenOf x).run P w= .ok k w) (hf:(Builtin.firstCells i.size k x).run P w= .ok vs.toArray w) (hroom:n+k<=cap):
  (Builtin.append_ #[t,u] ty #[.slice base n cap,x]).run P w=
   ((match base with | some a=>storeCells (a.add (n*i.size)) vs | none=>pure ()).run P w).andThen fun _ w'=> .ok (.slice base (n+k) cap) w':=by
 rcases hdu with⟨e',rfl⟩ | rfl<;>
 simp only[Builtin.append_,List.getElem?_toArray,List.getElem?_cons_zero,List.getElem?_cons_succ,Sem.run_bind,As ht,As hu,Result.andThen_ok,sizeOf,typeInfo,run_program,hi,Sem.run_pure,hl,Bool.not_false,if_true,Bool.false_eq_true,if_false,hroom,hf]<;>
 cases base<;>simp
theorem Ci (t u ty e:TypeId) (i:TypeInfo) (z:Value) (du:TypeDesc) (ht:P.underlying t=some (.slice e)) (hu:P.underlying u=some du) (hdu:(∃e',du= .slice e')∨du= .string) (hi:P.info? e=some i) (hz0:i.zero=some z)
  (base:Option Addr) (n cap k:Nat) (x:Value) (os vs:List Value) (hl:(Builtin.lenOf x).run P w= .ok k w) (hf:(Builtin.firstCells i.size k x).run P w.drew= .ok vs.toArray w.drew)
  (hfo:(Builtin.firstCells i.size n (.slice base n cap)).run P w.drew= .ok os.toArray w.drew) (hroom:¬n+k<=cap) (hb:(n+k)*i.bytes<=140737488355328) (hb1:1<=i.bytes):
  (Builtin.append_ #[t,u] ty #[.slice base n cap,x]).run P w=
   .ok (.slice (some ⟨w.heap.size,0,none⟩) (n+k) (grownCap w (n+k) cap e)) (w.drew.alloc (.cells ((os++vs).toArray++Builtin.zeroCells z.cells (grownCap w (n+k) cap e-(n+k))) e)):=by
 have h48:=growslice_fits (need:=n+k) (old:=cap) (bytes:=i.bytes) (by omega) hb
 have h48':¬(281474976710656<Builtin.nextslicecap (n+k) cap*i.bytes):=by omega
 have hb0:¬i.bytes=0:=by omega
 rcases hdu with⟨e',rfl⟩ | rfl<;>simp[Builtin.append_,As ht,As hu,sizeOf,typeInfo,zeroValue,hi,hz0,hl,hroom,h48',hb0,Question.forced,hf,hfo,newRow,grownCap]<;>
 (congr 2;apply Array.ext';simp[List.append_assoc])
theorem Gy {xs:List TV} {vs:List Value} (h:AL g w xs vs) (hl:vs.length=0):xs=[]/\vs=[]:=
 ⟨List.eq_nil_of_length_eq_zero (h.1.trans hl),List.eq_nil_of_length_eq_zero hl⟩
theorem IA {sz n cap b o:Nat} {xs:List TV} {us:Nat->Value} (hl:xs.length=n*sz)
  (hc:∀i,i<xs.length->g.S ⟨b,o+i,none⟩/\w.cell? ⟨b,o+i,none⟩=some (us i)) (hr:∀i (h:i<xs.length),Rel g w xs[i] (us i)):
  AL g w xs ((List.range xs.length).map us)/\(Builtin.firstCells sz n (.slice (some ⟨b,o,none⟩) n cap)).run P w.drew= .ok ((List.range xs.length).map us).toArray w.drew:=by
 refine⟨⟨by simp,fun i hi=>?_⟩,?_⟩
 ·simp only[List.getD_eq_getElem?_getD,List.getElem?_map,List.getElem?_range hi,Option.map_some,Option.getD_some]
  exact hr i hi
 ·exact run_firstCells_some w.drew sz n _ n cap _ (by simp[hl]) (fun j v hj=>by
   rw[Bl]
   rw[List.getElem?_map]at hj
   obtain⟨i,hi,rfl⟩:=Option.map_eq_some_iff.1 hj
   obtain⟨hlt,rfl⟩:=List.getElem?_eq_some_iff.1 hi
   simp only[List.getElem_range]at*
   exact(hc j (by simpa using hlt)).2)
theorem ET (os vs:List Value) (zc:Array Value) (n k C sz:Nat) (h1:os.length=n*sz) (h2:vs.length=k*sz) (h3:zc.size=sz) (hC:n+k<=C):
  ((os++vs).toArray++Builtin.zeroCells zc (C-(n+k))).size=C*sz:=by
 simp only[Array.size_append,List.size_toArray,List.length_append,size_zeroCells,h1,h2,h3]
 rw[<-Nat.add_mul,<-Nat.add_mul]
 congr 1
 omega
theorem Below.setCells {B:Nat} {a:World} {b:Nat} (hb:B<=b):∀(vs:List Value) (o:Nat) (w:World),Below B a w->Below B a (w.setCells b o vs)
 | [],_,_,h=>h
 | v::r,o,w,h=>Below.setCells hb r (o+1) _ (h.setCell hb v)
theorem Db (b:Nat):∀(vs:List Value) (o:Nat) (w:World),(w.setCells b o vs).heap.size=w.heap.size
 | [],_,_=>rfl
 | v::r,o,w=>by rw[World.setCells,Db b r];simp
theorem FI (b k:Nat) (h:k≠b):∀(vs:List Value) (o:Nat) (w:World),(w.setCells b o vs).heap[k]? =w.heap[k]?
 | [],_,_=>rfl
 | v::r,o,w=>by rw[World.setCells,FI b k h r];exact Below.heap_setCell _ _ _ _ h
theorem CM (b T:Nat):∀(vs:List Value) (o:Nat) (w:World),DK w b T->DK (w.setCells b o vs) b T
 | [],_,_,h=>h
 | v::r,o,w,h=>by
  obtain⟨c,fz,h⟩:=h
  exact CM b T r (o+1) _ ⟨c.setIfInBounds o v,fz,by simp[World.setCell,Array.getElem?_modify,h]⟩
theorem NZ (s:Sim g st loc w) {t u ty e:TypeId} {i:TypeInfo} {z:Value} {du:TypeDesc} (ht:P.underlying t=some (.slice e)) (hu:P.underlying u=some du) (hdu:(∃e',du= .slice e')∨du= .string)
  (hi:P.info? e=some i) (hz0:i.zero=some z) (hzs:z.cells.size=i.size) (hs1:1<=i.size) (hb1:1<=i.bytes) {v x:TV} {vv xv:Value} (hv:Rel g w v vv) (hx:Rel g w x xv)
  {k:Nat} {ys:List TV} (hsrc:DH st i.size x=some (k,ys)) (hone:ys.all At=true) {K:SV->List (Option (List TV))->St->Prop} (h:Cx e i.size i.bytes v k ys st fun r st'=>K (.t r) loc st'):
  ∃r w',(Builtin.append_ #[t,u] ty #[vv,xv]).run P w= .ok r w'/\Em g w loc K r w':=by
 obtain⟨vs,hrv,hvl,hlen,hf,hfd⟩:=GR (P:=P) s hx hsrc
 have hyl:ys.length=k*i.size:=hrv.1.trans hvl
 obtain⟨sd,ed⟩:=s.drew
 unfold Cx at h
 split at h
 ·--nil
  cases hv
  split at h
  ·--nothing
   refine⟨_,_,?_,_,_,_,_,h,s,Rel.nilSlice,Ext.refl _ _,Bt.refl _ _⟩
   rw[BG t u ty e i du ht hu hdu hi none 0 0 0 xv vs hlen hf (by omega)]
   rfl
  ·rename_i m
   rw[Ak]at h
   obtain⟨hble,hK⟩:=h
   have hb:=Nat.le_of_ble_eq_true hble
   have hrun:=Ci t u ty e i z du ht hu hdu hi hz0 none 0 0 (m+1) xv [] vs hlen hfd (by simp[Builtin.firstCells]) (by omega) (by simpa using hb) hb1
   simp only[Nat.zero_add,List.nil_append]at hrun
   refine⟨_,_,hrun,?_⟩
   have hfr:=Du (sz:=i.size) (n:=m+1) (cap:=grownCap w (m+1) 0 e) (cells:=ys) (vs:=vs.toArray++Builtin.zeroCells z.cells (grownCap w (m+1) 0 e-(m+1))) sd e (0,0)
    (by
     have:(vs.toArray++Builtin.zeroCells z.cells (grownCap w (m+1) 0 e-(m+1))).toList.take ys.length=vs:=by
      simp only[Array.toList_append,List.toList_toArray]
      rw[hrv.1];exact List.take_left
     rw[this];exact hrv.ext ed) hyl (grownCap_ge _ _ _ _)
    (by have:=ET [] vs z.cells 0 (m+1) (grownCap w (m+1) 0 e) i.size (by simp) hvl hzs (by have:=grownCap_ge w (m+1) 0 e;omega);simpa using this) (fun o _=>by simp) (fun t ht=>by cases ht;rfl) (K:=K) hK
   obtain⟨sv,l',st',g',h1,h2,h3,h4,h5⟩:=hfr
   exact⟨sv,l',st',g',h1,h2,h3,ed.trans h4,h5⟩
 ·rename_i s' tip n xs
  split at h
  ·rename_i hss
   have hs':s'=i.size:=Nat.eq_of_beq_eq_true hss
   subst hs'
   obtain⟨hbytes,h⟩:=h
   cases hv with
   | listE _ _ a htip=>
    have hfo:∀w:World,(Builtin.firstCells i.size 0 (.slice (some a) 0 0)).run P w= .ok ([]:List Value).toArray w:=fun w=>run_firstCells_some (P:=P) w i.size 0 a 0 0 [] (by simp) (fun j v hj=>by simp at hj)
    split at h
    ·split at h
     ·have hnil:=Gy hrv (by rw[hvl];simp)
      refine⟨_,_,?_,_,_,_,_,h,s,Rel.listE i.size .full a htip,Ext.refl _ _,Bt.refl _ _⟩
      rw[BG t u ty e i du ht hu hdu hi (some a) 0 0 0 xv vs hlen hf (by omega),hnil.2]
      simp[storeCells]
     ·rename_i m
      have hrun:=Ci t u ty e i z du ht hu hdu hi hz0 (some a) 0 0 (m+1) xv [] vs hlen hfd (hfo _) (by omega) (by simpa using hbytes) hb1
      simp only[Nat.zero_add,List.nil_append]at hrun h
      refine⟨_,_,hrun,?_⟩
      have hfr:=Du (sz:=i.size) (n:=(m+1)) (cap:=grownCap w (m+1) 0 e) (cells:=ys) (vs:=vs.toArray++Builtin.zeroCells z.cells (grownCap w (m+1) 0 e-(m+1))) sd e (0,0)
       (by
        have:(vs.toArray++Builtin.zeroCells z.cells (grownCap w (m+1) 0 e-(m+1))).toList.take ys.length=vs:=by
         simp only[Array.toList_append,List.toList_toArray]
         rw[hrv.1];exact List.take_left
        rw[this];exact hrv.ext ed) hyl (grownCap_ge _ _ _ _)
       (by have:=ET [] vs z.cells 0 (m+1) (grownCap w (m+1) 0 e) i.size (by simp) hvl hzs (by have:=grownCap_ge w (m+1) 0 e;omega);simpa using this) (fun o _=>by simp) (fun t ht=>by cases ht;rfl) (K:=K) h
      obtain⟨sv,l',st',g',h1,h2,h3,h4,h5⟩:=hfr
      exact⟨sv,l',st',g',h1,h2,h3,ed.trans h4,h5⟩
    ·exact absurd rfl (htip _)
    ·exact h.elim
   | list _ _ _ _ b o cap us hl hn hc hr htip=>
    obtain⟨hro,hfo⟩:=IA (P:=P) (cap:=cap) hl hc hr
    have hol:((List.range xs.length).map us).length=n*i.size:=by simp[hl]
    have hgrow:∀(g1:Ghost) (st1:St) (T':Option Nat),(∀t,T'=some t->t=e)->Sim g1 st1 loc w.drew->Ext g w g1 w.drew->g1.lam=g.lam->¬n+k<=cap->K (.t (.list i.size (.own st1.nt) (n+k) (xs++ys))) loc (st1.fresh T')->
      ∃r w',(Builtin.append_ #[t,u] ty #[.slice (some ⟨b,o,none⟩) n cap,xv]).run P w= .ok r w'/\Em g w loc K r w':=by
     intro g1 st1 T' hT' s1 e1 hlam hroom hK
     have hrun:=Ci t u ty e i z du ht hu hdu hi hz0 (some ⟨b,o,none⟩) n cap k xv _ vs hlen hfd hfo hroom hbytes hb1
     refine⟨_,_,hrun,?_⟩
     have hfr:=Du (sz:=i.size) (n:=n+k) (cap:=grownCap w (n+k) cap e) (cells:=xs++ys) (vs:=((List.range xs.length).map us++vs).toArray++Builtin.zeroCells z.cells (grownCap w (n+k) cap e-(n+k))) s1 e (0,0)
      (by
       have:(((List.range xs.length).map us++vs).toArray++Builtin.zeroCells z.cells (grownCap w (n+k) cap e-(n+k))).toList.take (xs++ys).length=(List.range xs.length).map us++vs:=by
        simp only[Array.toList_append,List.toList_toArray]
        rw[show(xs++ys).length=((List.range xs.length).map us++vs).length from by simp[hrv.1]]
        exact List.take_left
       rw[this];exact(hro.append hrv).ext e1) (by rw[List.length_append,hl,hyl,Nat.add_mul]) (grownCap_ge _ _ _ _)
      (ET _ vs z.cells n k _ i.size hol hvl hzs (grownCap_ge _ _ _ _)) (fun o _=>by simp) hT' (K:=K) hK
     obtain⟨sv,l',st',g',h1,h2,h3,h4,h5⟩:=hfr
     exact⟨sv,l',st',g',h1,h2,h3,e1.trans h4,fun i x hx=>by rw[<-hlam];exact h5 i x hx⟩
    split at h
    ·--full
     have hcn:cap=n:=htip
     split at h
     ·have hnil:=Gy hrv (by rw[hvl];simp)
      refine⟨_,_,?_,_,_,_,_,h,s,Rel.list i.size .full n xs b o cap us hl hn hc hr htip,Ext.refl _ _,Bt.refl _ _⟩
      rw[BG t u ty e i du ht hu hdu hi (some ⟨b,o,none⟩) n cap 0 xv vs hlen hf (by omega),hnil.2]
      simp[storeCells]
     ·exact hgrow g st _ (fun t ht=>by cases ht;rfl) sd ed rfl (by omega) h
    ·--own
     rename_i id
     obtain⟨hlive,hK⟩:=h
     have hid:id<st.nt:=s.nt▸htip.1
     have hne:=s.own id hid hlive
     obtain⟨r0,hr0⟩:=Option.ne_none_iff_exists'.1 hne
     have hreq:=htip.2 r0 hr0
     subst hreq
     simp only at hr0
     by_cases hroom:n+k<=cap
     ·obtain⟨c1,c2,c3,c4,c5⟩:=s.spCell id b _ _ hr0
      have hns:n*i.size<=(n+k)*i.size:=Nat.mul_le_mul_right _ (by omega)
      have hks:(n+k)*i.size<=cap*i.size:=Nat.mul_le_mul_right _ hroom
      have hnk:(n+k)*i.size=n*i.size+k*i.size:=Nat.add_mul _ _ _
      have hst:=run_storeCells_cells (P:=P) b (o+n*i.size) vs 0 w (fun j hj=>by
        obtain⟨v,hv⟩:=(c5 (o+n*i.size+j) (by omega) (by omega)).1
        simp only[Nat.add_zero];rw[hv];rfl) (fun j hj=>by
        simp only[Nat.add_zero];exact(c5 (o+n*i.size+j) (by omega) (by omega)).2) (LM hrv hone)
      simp only[Nat.add_zero]at hst
      refine⟨.slice (some ⟨b,o,none⟩) (n+k) cap,w.setCells b (o+n*i.size) vs,?_,?_⟩
      ·rw[BG t u ty e i du ht hu hdu hi (some ⟨b,o,none⟩) n cap k xv vs hlen hf hroom]
       simp only[Bl,hst,Result.andThen_ok]
      ·--the simulation
       have hin:∀j,j<vs.length->(w.setCells b (o+n*i.size) vs).cell? ⟨b,o+n*i.size+j,none⟩=some (vs.getD j Go.undef):=by
        intro j hj
        have:=World.cell?_setCells_in b vs (o+n*i.size) w (fun j hj=>by
         obtain⟨v,hv⟩:=(c5 (o+n*i.size+j) (by omega) (by omega)).1
         rw[hv];rfl) j hj
        rw[this,List.getD_eq_getElem?_getD,List.getElem?_eq_getElem hj,Option.getD_some]
       have hstep:Sim g st loc (w.setCells b (o+n*i.size) vs)/\Ext g w g (w.setCells b (o+n*i.size) vs):=by
        by_cases hk0:k=0
        ·have hnil:=Gy hrv (by rw[hvl,hk0];simp)
         rw[hnil.2];exact⟨s,Ext.refl _ _⟩
        ·have:0<k*i.size:=Nat.mul_pos (by omega) hs1
         refine s.spWrite hr0 (by omega) (Db _ _ _ _) (fun k hk=>FI b k hk _ _ _) (fun o' ho'=>?_) (fun o' h1 h2=>?_) (fun o'=>World.frozen?_setCells _ _ _ _ _) (Below.setCells c1 _ _ _ s.below) (fun T=>CM b T _ _ _)
         ·exact World.cell?_setCells_out b vs _ w _ (fun _ _=>by simp only;omega)
         ·by_cases hlt:o'<o+n*i.size+vs.length
          ·have:=hin (o'-(o+n*i.size)) (by omega)
           rw[show o+n*i.size+(o'-(o+n*i.size))=o' from by omega]at this
           exact⟨_,this⟩
          ·rw[World.cell?_setCells_out b vs _ w _ (fun _ _=>by simp only;omega)]
           exact(c5 o' h1 h2).1
       obtain⟨s1,e1⟩:=hstep
       obtain⟨s2,e2⟩:=s1.retire id
       have hnprot:¬g.prot b:=fun hp=>(s.protOk b hp).2.2.1 id _ _ hr0
       have hspr:∀j r,(g.retire id).sp j=some r->j≠id/\g.sp j=some r:=by
        intro j r hj
        simp only[Ghost.retire]at hj
        split at hj
        ·cases hj
        ·exact⟨‹_›,hj⟩
       obtain⟨s3,e3⟩:=s2.settle (fun a=>a.block=b/\a.spot=none/\o+n*i.size<=a.off/\a.off<o+(n+k)*i.size) (fun a ha=>by
        obtain⟨h1,h2,h3,h4⟩:=ha
        refine⟨h2,⟨vs.getD (a.off-(o+n*i.size)) Go.undef,?_⟩,fun q d=>by rw[h1];exact c4 q d,fun j l' h' hj=>?_⟩
        ·have:=hin (a.off-(o+n*i.size)) (by omega)
         rw[show o+n*i.size+(a.off-(o+n*i.size))=a.off from by omega]at this
         cases a;simp only at h1 h2 this⊢;subst h1 h2;exact this
        ·obtain⟨hji,hj'⟩:=hspr j _ hj
         rw[h1]at hj'
         have:=s.spApart j id b _ _ _ _ hji hj' hr0
         omega) (fun a ha=>by rw[ha.1];exact hnprot)
       have hS3:∀a,((g.retire id).settle fun a=>a.block=b/\a.spot=none/\o+n*i.size<=a.off/\a.off<o+(n+k)*i.size).S a->a.block=b->¬(o+(n+k)*i.size<=a.off/\a.off<o+cap*i.size):=by
        intro a ha hab hh
        rcases ha with ha | ha
        ·have:=(s.sCell a ha).2.2.2 id (o+n*i.size) (o+cap*i.size) (by rw[hab];exact hr0)
         omega
        ·have:=ha.2.2.2;omega
       obtain⟨s4,e4,hsp4⟩:=s3.fresh b (o+(n+k)*i.size) (o+cap*i.size) (.inl c1) c1 (by rw[Db];exact c2) (by omega) c4 (fun o' h1 h2=>by
         rw[World.cell?_setCells_out b vs _ w _ (fun _ _=>by simp only;omega),World.frozen?_setCells]
         exact c5 o' (by omega) h2) hS3 hnprot (fun j l' h' hj=>by
         obtain⟨hji,hj'⟩:=hspr j _ hj
         have:=s.spApart j id b _ _ _ _ hji hj' hr0
         omega) (fun j r hj=>by obtain⟨hji,hj'⟩:=hspr j _ hj;exact s.spTop id b _ _ hr0 j r hji hj') (T:=KS e (st.ty id)) (fun t ht=>by rw[(Dr ht).1];exact CM b e _ _ _ (s.spTy id b _ _ e hr0 (Dr ht).2))
       have eall:=e1.trans (e2.trans (e3.trans e4))
       refine⟨_,_,_,_,hK,s4,?_,eall,fun j x hj=>⟨rfl,x,hj⟩⟩
       refine Rel.list i.size (.own st.nt) (n+k) (xs++ys) b o cap (fun j=>if j<xs.length then us j else vs.getD (j-xs.length) Go.undef) (by rw[List.length_append,hl,hyl,Nat.add_mul]) hroom (fun j hj=>?_) (fun j hj=>?_) ⟨?_,fun r hr'=>?_⟩
       ·by_cases hjx:j<xs.length
        ·rw[if_pos hjx]
         have:=eall.S _ (hc j hjx).1
         exact⟨this.1,this.2.trans (hc j hjx).2⟩
        ·rw[if_neg hjx]
         rw[List.length_append]at hj
         have hjv:j-xs.length<vs.length:=by rw[<-hrv.1];omega
         have:=hin (j-xs.length) hjv
         rw[show o+n*i.size+(j-xs.length)=o+j from by omega]at this
         exact⟨.inr ⟨rfl,rfl,by simp only;omega,by simp only;omega⟩,this⟩
       ·by_cases hjx:j<xs.length
        ·rw[if_pos hjx,List.getElem_append_left hjx]
         exact(hr j hjx).ext eall
        ·rw[if_neg hjx,List.getElem_append_right (by omega)]
         exact(hrv.2 _ (by rw[List.length_append]at hj;omega)).ext eall
       ·show st.nt<g.nt+1
        rw[s.nt];omega
       ·have hsp4':=hsp4
        simp only[St.retire]at hsp4'
        rw[hsp4']at hr'
        simp only[Option.some.injEq]at hr'
        exact hr'.symm
     ·obtain⟨s2,e2⟩:=sd.retire id
      exact hgrow (g.retire id) (st.retire id) _ (fun t ht=>(Dr ht).1) s2 (ed.trans e2) rfl hroom hK
    ·exact h.elim
  ·exact h.elim
 ·exact h.elim
end
end Go.TVF
end
section
namespace Go.TVF
open Go.IntKind(i64 u8)
open Go Go.Proofs Go.RowKit
section
variable {P:Program} {g:Ghost} {st:St} {loc:List (Option (List TV))} {w:World}
def D6 (n:Nat):List TV:=List.replicate n .junk
def HT (T sz bytes:Nat) (v:TV) (k:Nat) (ys:List TV) (st:St) (K:TV->St->Prop):Prop:=
 match v with
 | .nilSlice=>match k with
  | 0=>K .nilSlice st
  | m+1=>need (((m+1)*bytes).ble 140737488355328) (∀cap,m+1<=cap->K (.ms sz st.nb 0 (m+1) cap) (st.push (.cells (ys++D6 ((cap-(m+1))*sz))) (some T)))
 | .list s tip n xs=>match s.beq sz with
  | true=>(n+k)*bytes<=140737488355328/\match tip with
   | .full=>match k with
    | 0=>K (.list sz .full n xs) st
    | m+1=>∀cap,n+(m+1)<=cap->K (.ms sz st.nb 0 (n+(m+1)) cap) (st.push (.cells (xs++ys++D6 ((cap-(n+(m+1)))*sz))) (some T))
   | _=>False
  | false=>False
 | .ms s b off n cap=>match s.beq sz with
  | true=>(n+k)*bytes<=140737488355328/\∃l,st.box b= .cells l/\off+cap*sz<=l.length/\
   (n+k<=cap->K (.ms sz b off (n+k) cap) (st.put b (.cells (setAll l (off+n*sz) ys))))/\
   (cap<n+k->∀cap',n+k<=cap'->K (.ms sz st.nb 0 (n+k) cap') (st.push (.cells ((l.drop off).take (n*sz)++ys++D6 ((cap'-(n+k))*sz))) (some T)))
  | false=>False
 | _=>False
theorem Sj {T sz bytes:Nat} {v:TV} {k:Nat} {ys:List TV} {st:St} {K K':TV->St->Prop} (h:∀r st',K r st'->K' r st') (hk:HT T sz bytes v k ys st K):HT T sz bytes v k ys st K':=by
 cases v<;>simp only[HT]at hk⊢<;>try exact hk
 ·cases k with
  | zero=>exact h _ _ hk
  | succ m=>simp only[Ak]at hk⊢;exact⟨hk.1,fun cap hc=>h _ _ (hk.2 cap hc)⟩
 ·rename_i s tip n xs
  cases hs:s.beq sz with
  | false=>rw[hs]at hk;exact hk.elim
  | true=>
   rw[hs]at hk
   refine⟨hk.1,?_⟩
   have hk2:=hk.2
   cases tip with
   | non=>exact hk2.elim
   | full=>cases k with
    | zero=>exact h _ _ hk2
    | succ m=>exact fun cap hc=>h _ _ (hk2 cap hc)
   | own id=>exact hk2.elim
 ·rename_i s b off n cap
  cases hs:s.beq sz with
  | false=>rw[hs]at hk;exact hk.elim
  | true=>
   rw[hs]at hk
   obtain⟨h1,l,h2,h3,h4,h5⟩:=hk
   exact⟨h1,l,h2,h3,fun hc=>h _ _ (h4 hc),fun hc cap' hc'=>h _ _ (h5 hc cap' hc')⟩
theorem RX (vs:List Value):AL g w (D6 vs.length) vs:=⟨by simp[D6],fun i hi=>by simp only[D6,List.getElem_replicate];exact .junk _⟩
theorem Sf (s:Sim g st loc w) {sz n cap r:Nat} {cells:List TV} {vs:Array Value} (T:TypeId) (hr:AL g w cells (vs.toList.take cells.length)) (hsz:vs.size=cells.length+r) (hcap:n<=cap)
  {K:SV->List (Option (List TV))->St->Prop} (h:K (.t (.ms sz st.nb 0 n cap)) loc (st.push (.cells (cells++D6 r)) (some T))):
  Em g w loc K (.slice (some ⟨w.heap.size,0,none⟩) n cap) (w.alloc (.cells vs T)):=by
 have hall:AL g w (cells++D6 r) vs.toList:=by
  have h2:vs.toList=vs.toList.take cells.length++vs.toList.drop cells.length:=(List.take_append_drop _ _).symm
  rw[h2]
  refine hr.append ?_
  have:r=(vs.toList.drop cells.length).length:=by simp;omega
  rw[this]
  exact RX _
 have hal:=Fx (ix:=none) (cells:=cells++D6 r) s T hall (K:=fun sv loc' st'=>sv= .t (.box st.nb 0)/\loc'=loc/\st'=st.push (.cells (cells++D6 r)) (some T)) ⟨rfl,rfl,rfl⟩
 obtain⟨sv,loc',st',g',⟨rfl,rfl,rfl⟩,k2,k3,k4,k5⟩:=hal
 refine⟨_,_,_,g',h,k2,?_,k4,k5⟩
 have k3':Rel g' _ (.box st.nb 0) _:=k3
 obtain⟨hb,heq⟩:=k3'.box_inv'
 have:=Rel.ms (g:=g') (w:=w.alloc (.cells vs T)) sz st.nb 0 n cap hb hcap
 simp only[Value.pointer.injEq,Option.some.injEq,Addr.mk.injEq]at heq
 rw[<-heq.1]at this
 exact this
theorem QD (s:Sim g st loc w) {t u ty e:TypeId} {i:TypeInfo} {z:Value} {du:TypeDesc} (ht:P.underlying t=some (.slice e)) (hu:P.underlying u=some du) (hdu:(∃e',du= .slice e')∨du= .string)
  (hi:P.info? e=some i) (hz0:i.zero=some z) (hzs:z.cells.size=i.size) (hs1:1<=i.size) (hb1:1<=i.bytes) {v x:TV} {vv xv:Value} (hv:Rel g w v vv) (hx:Rel g w x xv)
  {k:Nat} {ys:List TV} (hsrc:DH st i.size x=some (k,ys)) (hone:ys.all At=true) {K:SV->List (Option (List TV))->St->Prop} (h:HT e i.size i.bytes v k ys st fun r st'=>K (.t r) loc st'):
  ∃r w',(Builtin.append_ #[t,u] ty #[vv,xv]).run P w= .ok r w'/\Em g w loc K r w':=by
 obtain⟨vs,hrv,hvl,hlen,hf,hfd⟩:=GR (P:=P) s hx hsrc
 have hyl:ys.length=k*i.size:=hrv.1.trans hvl
 obtain⟨sd,ed⟩:=s.drew
 --a new row:os are the old cells
 have grow:∀(base:Option Addr) (n cap:Nat) (xs:List TV) (os:List Value),AL g w xs os->os.length=n*i.size->(Builtin.firstCells i.size n (.slice base n cap)).run P w.drew= .ok os.toArray w.drew->¬n+k<=cap->(n+k)*i.bytes<=140737488355328->
   (∀cap',n+k<=cap'->K (.t (.ms i.size st.nb 0 (n+k) cap')) loc (st.push (.cells (xs++ys++D6 ((cap'-(n+k))*i.size))) (some e)))->
   ∃r w',(Builtin.append_ #[t,u] ty #[.slice base n cap,xv]).run P w= .ok r w'/\Em g w loc K r w':=by
  intro base n cap xs os hro hol hfo hroom hby hK
  have hrun:=Ci t u ty e i z du ht hu hdu hi hz0 base n cap k xv os vs hlen hfd hfo hroom hby hb1
  refine⟨_,_,hrun,?_⟩
  have hg:=grownCap_ge w (n+k) cap e
  have hsz:=ET os vs z.cells n k (grownCap w (n+k) cap e) i.size hol hvl hzs hg
  have hcl:(xs++ys).length=(n+k)*i.size:=by rw[List.length_append,hro.1,hol,hyl,Nat.add_mul]
  have hfr:=Sf (sz:=i.size) (n:=n+k) (cap:=grownCap w (n+k) cap e) (r:=(grownCap w (n+k) cap e-(n+k))*i.size) (cells:=xs++ys) (vs:=(os++vs).toArray++Builtin.zeroCells z.cells (grownCap w (n+k) cap e-(n+k))) sd e
   (by
    have:((os++vs).toArray++Builtin.zeroCells z.cells (grownCap w (n+k) cap e-(n+k))).toList.take (xs++ys).length=os++vs:=by
     simp only[Array.toList_append,List.toList_toArray]
     rw[show(xs++ys).length=(os++vs).length from by rw[List.length_append,List.length_append,hro.1,hrv.1]]
     exact List.take_left
    rw[this];exact(hro.append hrv).ext ed)
   (by rw[hsz,hcl,<-Nat.add_mul];congr 1;omega) hg (K:=K) (hK _ hg)
  obtain⟨sv,l',st',g',h1,h2,h3,h4,h5⟩:=hfr
  exact⟨sv,l',st',g',h1,h2,h3,ed.trans h4,h5⟩
 unfold HT at h
 split at h
 ·--nil
  cases hv
  split at h
  ·refine⟨_,_,?_,_,_,_,_,h,s,Rel.nilSlice,Ext.refl _ _,Bt.refl _ _⟩
   rw[BG t u ty e i du ht hu hdu hi none 0 0 0 xv vs hlen hf (by omega)]
   rfl
  ·rename_i m
   rw[Ak]at h
   obtain⟨hble,hK⟩:=h
   have hb:=Nat.le_of_ble_eq_true hble
   exact grow none 0 0 [] [] (.nil _ _) (by simp) (by simp[Builtin.firstCells]) (by omega) (by simpa using hb) (by simpa using hK)
 ·rename_i s' tip n xs
  split at h
  ·rename_i hss
   have hs':s'=i.size:=Nat.eq_of_beq_eq_true hss
   subst hs'
   obtain⟨hbytes,h⟩:=h
   split at h
   ·split at h
    ·have hnil:=Gy hrv (by rw[hvl];simp)
     cases hv with
     | listE _ _ a htip=>
      refine⟨_,_,?_,_,_,_,_,h,s,Rel.listE i.size .full a htip,Ext.refl _ _,Bt.refl _ _⟩
      rw[BG t u ty e i du ht hu hdu hi (some a) 0 0 0 xv vs hlen hf (by omega),hnil.2]
      simp[storeCells]
     | list _ _ _ _ b o cap us hl hn hc hr htip=>
      refine⟨_,_,?_,_,_,_,_,h,s,Rel.list i.size .full n xs b o cap us hl hn hc hr htip,Ext.refl _ _,Bt.refl _ _⟩
      rw[BG t u ty e i du ht hu hdu hi (some ⟨b,o,none⟩) n cap 0 xv vs hlen hf (by omega),hnil.2]
      simp[storeCells]
    ·rename_i m
     cases hv with
     | listE _ _ a htip=>
      exact grow (some a) 0 0 [] [] (.nil _ _) (by simp) (run_firstCells_some (P:=P) w.drew i.size 0 a 0 0 [] (by simp) (fun j v hj=>by simp at hj)) (by omega) hbytes h
     | list _ _ _ _ b o cap us hl hn hc hr htip=>
      obtain⟨hro,hfo⟩:=IA (P:=P) (cap:=cap) hl hc hr
      have hcn:cap=n:=htip
      exact grow (some ⟨b,o,none⟩) n cap xs ((List.range xs.length).map us) hro (by simp[hl]) hfo (by omega) hbytes h
   ·exact h.elim
  ·exact h.elim
 ·rename_i s' b off n cap
  split at h
  ·rename_i hss
   have hs':s'=i.size:=Nat.eq_of_beq_eq_true hss
   subst hs'
   obtain⟨hbytes,l,hbox,hle,h1,h2⟩:=h
   cases hv with
   | ms _ _ _ _ _ hb hn=>
    have hbst:b<st.nb:=s.nb▸hb
    have ob:=s.obj (.box b) hbst
    simp only[A3,hbox,Ghost.at]at ob
    obtain⟨cs,hc,hr⟩:=ob
    have hcl:cs.length=l.length:=hr.1.symm
    have hnc:n*i.size<=cap*i.size:=Nat.mul_le_mul_right _ hn
    by_cases hroom:n+k<=cap
    ·have hnk:(n+k)*i.size<=cap*i.size:=Nat.mul_le_mul_right _ hroom
     have hnk2:(n+k)*i.size=n*i.size+k*i.size:=Nat.add_mul _ _ _
     have hst:=run_storeCells_cells (P:=P) (g.bk b) (off+n*i.size) vs 0 w (fun j hj=>by
       simp only[Nat.add_zero]
       rw[hc.get (o:=off+n*i.size+j) (List.getElem?_eq_getElem (by omega))];rfl) (fun j hj=>by
       simp only[Nat.add_zero];exact hc.unfrozen (by omega)) (LM hrv hone)
     simp only[Nat.add_zero]at hst
     obtain⟨s1,e1⟩:=Ex (g:=g) (loc:=loc) ys vs st l w b (off+n*i.size) s hbst hbox (by rw[hyl];omega) hrv
     refine⟨.slice (some ⟨g.bk b,off,none⟩) (n+k) cap,w.setCells (g.bk b) (off+n*i.size) vs,?_,_,_,_,_,h1 hroom,s1,Rel.ms _ _ _ _ _ hb hroom,e1,Bt.refl _ _⟩
     rw[BG t u ty e i du ht hu hdu hi (some ⟨g.bk b,off,none⟩) n cap k xv vs hlen hf hroom]
     simp only[Bl,hst,Result.andThen_ok]
    ·have hro:AL g w ((l.drop off).take (n*i.size)) ((cs.drop off).take (n*i.size)):=⟨by simp[hcl],fun j hj=>by
      simp only[List.length_take,List.length_drop]at hj
      have:=hr.2 (off+j) (by omega)
      simp only[List.getElem_take,List.getElem_drop,List.getD_eq_getElem?_getD,List.getElem?_take,List.getElem?_drop]at this⊢
      rw[if_pos (by omega)]
      exact this⟩
     refine grow (some ⟨g.bk b,off,none⟩) n cap _ ((cs.drop off).take (n*i.size)) hro (by simp;omega) (run_firstCells_some (P:=P) w.drew i.size n _ n cap _ (by simp;omega) (fun j v hj=>?_)) hroom hbytes (h2 (by omega))
     rw[Bl]
     rw[List.getElem?_take]at hj
     split at hj
     ·rw[List.getElem?_drop]at hj
      exact hc.get hj
     ·cases hj
  ·exact h.elim
 ·exact h.elim
end
end Go.TVF
end
section
namespace Go.TVF
open Go.IntKind(i64 u8)
open Go.RowKit (Below)
def Cy (P:Program) (s:Sem Next) (w:World) (R:Value->World->Prop):Prop:=
 match s.run P w with
 | .ok (.value v) w'=>R v w'
 | .ok .skip w'=>R Go.undef w'
 | .ok (.enter f args) w'=>Calls P f args w' fun e w''=>∃v,e= .returned v/\R v w''
 | _=>False
theorem Cy.mono {P:Program} {s:Sem Next} {w:World} {R R':Value->World->Prop} (h:Cy P s w R) (k:∀v w',R v w'->R' v w'):Cy P s w R':=by
 unfold Cy at h⊢
 split at h
 ·exact k _ _ h
 ·exact k _ _ h
 ·exact Calls.mono h fun e w'' ⟨v,h1,h2⟩=>⟨v,h1,k _ _ h2⟩
 ·exact h.elim
theorem Cy.congr {P:Program} {s s':Sem Next} {w:World} {R:Value->World->Prop} (e:s.run P w=s'.run P w) (h:Cy P s' w R):Cy P s w R:=by
 unfold Cy at h⊢
 rw[e];exact h
structure C9 (P:Program) (f:FuncId) (args:List TV) (st:St) (R:TV->St->Prop):Prop where
 run:∀(g:Ghost) (w:World) (vargs:List Value),Sim g st [] w->AL g w args vargs->
  Cy P (callFunc f vargs.toArray) w fun v w'=>∃r st' g',R r st'/\Sim g' st' [] w'/\Rel g' w' r v/\Ext g w g' w'
theorem C9.mono {P:Program} {f:FuncId} {args:List TV} {st:St} {R R':TV->St->Prop} (h:C9 P f args st R) (k:∀r st',R r st'->R' r st'):C9 P f args st R':=
 ⟨fun g w vargs s hr=>(h.run g w vargs s hr).mono fun v w' ⟨r,st',g',h2,h3⟩=>⟨r,st',g',k _ _ h2,h3⟩⟩
theorem Ev {P:Program} {f:FuncId} {args:List TV} {st:St} {R:TV->St->Prop} (hcall:∀(vs:Array Value) (w:World),(callFunc f vs).run P w= .ok (.enter f vs) w)
  (h:∀(g:Ghost) (w:World) (vargs:List Value),Sim g st [] w->AL g w args vargs->Calls P f vargs.toArray w fun e w'=>∃v,e= .returned v/\∃r st' g',R r st'/\Sim g' st' [] w'/\Rel g' w' r v/\Ext g w g' w'):C9 P f args st R:=by
 refine⟨fun g w vargs s hr=>?_⟩
 unfold Cy
 rw[hcall]
 exact h g w vargs s hr
section
variable {P:Program} {g:Ghost} {st:St} {loc:List (Option (List TV))} {w:World}
def Ghost.guard (g:Ghost) (loc:List (Option (List TV))):Ghost:={g with prot:=fun b=>g.prot b∨∃(i:Nat) (x:List TV),loc[i]? =some (some x)/\b=g.lam i}
theorem Sim.guard (s:Sim g st loc w):Sim (g.guard loc) st [] w:=by
 have hd:∀k,Dom st [] k->Dom st loc k/\A3 st [] k=A3 st loc k/\∀(i:Nat) (x:List TV),loc[i]? =some (some x)->g.at k≠g.lam i:=by
  intro k d
  cases k with
  | box i=>exact⟨d,rfl,fun j x hj h=>by have:=s.inj (.box i) (.loc j) d ⟨x,hj⟩ h;cases this⟩
  | loc i=>obtain⟨x,hx⟩:=d;simp at hx
 have e0:N9 g w (g.guard loc) w:=⟨Nat.le_refl _,fun _ _=>rfl,Nat.le_refl _,fun _ _=> .inl rfl,fun a ha=>⟨ha,rfl⟩⟩
 refine⟨s.nb,s.nt,s.below,s.fits,fun k d=>?_,fun k k' d d'=>s.inj k k' (hd k d).1 (hd k' d').1,fun k d=>s.lo k (hd k d).1,s.own,?_,s.spApart,s.spLt,?_,?_,s.spTop,s.spTy,s.bTy,s.glob⟩
 ·rw[(hd k d).2.1];exact(s.obj k (hd k d).1).ext0 e0 rfl
 ·intro id b l h hsp
  obtain⟨c1,c2,c3,c4,c5⟩:=s.spCell id b l h hsp
  exact⟨c1,c2,c3,fun k d=>c4 k (hd k d).1,c5⟩
 ·intro a ha
  obtain⟨c1,c2,c3,c4⟩:=s.sCell a ha
  exact⟨c1,c2,fun k d=>c3 k (hd k d).1,c4⟩
 ·intro b hb
  rcases hb with hb | ⟨i,x,hx,rfl⟩
  ·obtain⟨c1,c2,c3⟩:=s.protOk b hb
   exact⟨c1,fun k d=>c2 k (hd k d).1,c3⟩
  ·refine⟨(s.lo (.loc i) ⟨x,hx⟩).2,fun k d=>(hd k d).2.2 i x hx,fun id l h hsp=>?_,fun a ha h=>?_⟩
   ·exact(s.spCell id _ l h hsp).2.2.2.1 (.loc i) ⟨x,hx⟩ rfl
   ·exact(s.sCell a ha).2.2.1 (.loc i) ⟨x,hx⟩ h.symm
theorem SC {x:TV} {v:Value} (h:Rel g w x v):Rel (g.guard loc) w x v:=by
 have e0:N9 g w (g.guard loc) w:=⟨Nat.le_refl _,fun _ _=>rfl,Nat.le_refl _,fun _ _=> .inl rfl,fun a ha=>⟨ha,rfl⟩⟩
 exact h.ext0 e0
theorem Sim.unguard (s:Sim g st loc w) {g':Ghost} {st':St} {w':World} (s':Sim g' st' [] w') (e:Ext (g.guard loc) w g' w'):
  Sim {g' with prot:=g.prot,lam:=g.lam} st' loc w'/\Ext g w {g' with prot:=g.prot,lam:=g.lam} w':=by
 have hprot:∀(i:Nat) (x:List TV),loc[i]? =some (some x)->(g.guard loc).prot (g.lam i):=fun i x hx=> .inr ⟨i,x,hx,rfl⟩
 have hprot':∀(i:Nat) (x:List TV),loc[i]? =some (some x)->g'.prot (g.lam i):=fun i x hx=>by rw[e.prot];exact hprot i x hx
 have e1:Ext g w {g' with prot:=g.prot,lam:=g.lam} w':=⟨e.base,e.w0,e.size,e.nb,e.bk,e.nt,e.sp,e.S,rfl,fun b hb=>e.protEq b (.inl hb)⟩
 have e0:N9 g' w' {g' with prot:=g.prot,lam:=g.lam} w':=⟨Nat.le_refl _,fun _ _=>rfl,Nat.le_refl _,fun _ _=> .inl rfl,fun a ha=>⟨ha,rfl⟩⟩
 have hbox:∀i,Dom st' loc (.box i)->Dom st' [] (.box i):=fun i d=>d
 have hne:∀i j x,i<st'.nb->loc[j]? =some (some x)->g'.bk i≠g.lam j:=fun i j x hi hj h=>(s'.protOk _ (hprot' j x hj)).2.1 (.box i) hi h
 refine⟨⟨s'.nb,s'.nt,s'.below,s'.fits,fun k d=>?_,fun k k' d d' h=>?_,fun k d=>?_,s'.own,?_,s'.spApart,s'.spLt,?_,?_,s'.spTop,s'.spTy,s'.bTy,s'.glob⟩,e1⟩
 ·cases k with
  | box i=>exact(s'.obj (.box i) d).ext0 e0 rfl
  | loc i=>
   obtain⟨x,hx⟩:=d
   have:=s.obj (.loc i) ⟨x,hx⟩
   exact FS.ext0 e1.to0 (e.protEq _ (hprot i x hx)) this
 ·cases k with
  | box i=>cases k' with
   | box j=>exact s'.inj (.box i) (.box j) d d' h
   | loc j=>obtain⟨x,hx⟩:=d';exact absurd h (hne i j x d hx)
  | loc i=>cases k' with
   | box j=>obtain⟨x,hx⟩:=d;exact absurd h.symm (hne j i x d' hx)
   | loc j=>exact s.inj (.loc i) (.loc j) d d' h
 ·cases k with
  | box i=>exact s'.lo (.box i) d
  | loc i=>
   have h1:=s.lo (.loc i) d
   refine⟨?_,Nat.lt_of_lt_of_le h1.2 e.size⟩
   show g'.base<=_
   rw[e.base];exact h1.1
 ·intro id b l h hsp
  obtain⟨c1,c2,c3,c4,c5⟩:=s'.spCell id b l h hsp
  refine⟨c1,c2,c3,fun k d=>?_,c5⟩
  cases k with
  | box i=>exact c4 (.box i) d
  | loc i=>
   obtain⟨x,hx⟩:=d
   intro hh
   have hh':g.lam i=b:=hh
   exact(s'.protOk _ (hprot' i x hx)).2.2.1 id l h (hh'▸hsp)
 ·intro a ha
  obtain⟨c1,c2,c3,c4⟩:=s'.sCell a ha
  refine⟨c1,c2,fun k d=>?_,c4⟩
  cases k with
  | box i=>exact c3 (.box i) d
  | loc i=>
   obtain⟨x,hx⟩:=d
   intro hh
   exact(s'.protOk _ (hprot' i x hx)).2.2.2 a ha hh.symm
 ·intro b hb
  have hb':g'.prot b:=by rw[e.prot];exact .inl hb
  obtain⟨c1,c2,c3⟩:=s'.protOk b hb'
  refine⟨c1,fun k d=>?_,c3⟩
  cases k with
  | box i=>exact c2 (.box i) d
  | loc i=>
   obtain⟨x,hx⟩:=d
   exact(s.protOk b hb).2.1 (.loc i) ⟨x,hx⟩
theorem Qy (s:Sim g st loc w) {f:FuncId} {args:List TV} {vargs:List Value} (hr:AL g w args vargs) {R:TV->St->Prop} (h:C9 P f args st R):
  Cy P (callFunc f vargs.toArray) w (Em g w loc (fun sv loc' st'=>∃r,sv= .t r/\loc'=loc/\R r st')):=by
 refine(h.run (g.guard loc) w vargs s.guard ⟨hr.1,fun i hi=>SC (hr.2 i hi)⟩).mono ?_
 rintro v w' ⟨r,st',g',hR,s',hrel,ext⟩
 obtain⟨s2,e2⟩:=s.unguard s' ext
 refine⟨.t r,loc,st',_,⟨r,rfl,rfl,hR⟩,s2,?_,e2,fun i x hi=>⟨rfl,x,hi⟩⟩
 have e0:N9 g' w' {g' with prot:=g.prot,lam:=g.lam} w':=⟨Nat.le_refl _,fun _ _=>rfl,Nat.le_refl _,fun _ _=> .inl rfl,fun a ha=>⟨ha,rfl⟩⟩
 exact hrel.ext0 e0
end
end Go.TVF
end
section
namespace Go.TVF
open Go.IntKind(i64 u8)
open Go.RowKit (Below)
@[reducible] def FunR:List RTy->Type->Type
 | [],R=>R
 | .one c::sh,R=>c.I->FunR sh R
 | .agg cs::sh,R=>Fun cs (FunR sh R)
def If:(cs:List CTy)->{R:Type}->List TV->Fun cs R->(R->Prop)->Prop
 | [],_,[],f,k=>k f
 | [],_,_::_,_,_=>False
 | _::_,_,[],_,_=>False
 | c::cs,_,v::vs,f,k=>Bj c v fun y=>If cs vs (f y) k
def E9:(sh:List RTy)->{R:Type}->List TV->FunR sh R->(R->Prop)->Prop
 | [],_,[],f,k=>k f
 | [],_,_::_,_,_=>False
 | _::_,_,[],_,_=>False
 | .one c::sh,_,v::vs,f,k=>Bj c v fun y=>E9 sh vs (f y) k
 | .agg cs::sh,_,v::vs,f,k=>match v with | .agg l=>If cs l f fun r=>E9 sh vs r k | _=>False
def El:(sh:List RTy)->{R:Type}->(List TV->R)->FunR sh R
 | [],_,F=>F []
 | .one c::sh,_,F=>fun y=>El sh fun l=>F (enc c y::l)
 | .agg cs::sh,_,F=>LE cs fun l=>El sh fun r=>F (.agg l::r)
theorem Kh:∀{cs:List CTy} {R:Type} {vs:List TV} {F:List TV->R} {k:R->Prop},If cs vs (LE cs F) k->k (F vs)
 | [],_,[],F,k,h=>h
 | [],_,_::_,F,k,h=>h.elim
 | _::_,_,[],F,k,h=>h.elim
 | c::cs,_,v::vs,F,k,h=>by
  obtain⟨y,rfl,h2⟩:=Dp h
  exact Kh (F:=fun l=>F (enc c y::l)) h2
theorem Eb:∀{sh:List RTy} {R:Type} {vs:List TV} {F:List TV->R} {k:R->Prop},E9 sh vs (El sh F) k->k (F vs)
 | [],_,[],F,k,h=>h
 | [],_,_::_,F,k,h=>h.elim
 | _::_,_,[],F,k,h=>by cases ‹RTy›<;>exact h.elim
 | .one c::sh,_,v::vs,F,k,h=>by
  obtain⟨y,rfl,h2⟩:=Dp h
  exact Eb (F:=fun l=>F (enc c y::l)) h2
 | .agg cs::sh,_,v::vs,F,k,h=>by
  cases v<;>simp only[E9]at h
  rename_i l
  have:=Kh (F:=fun l=>El sh fun r=>F (.agg l::r)) (k:=fun r=>E9 sh vs r k) h
  exact Eb (F:=fun r=>F (.agg l::r)) this
def QQ (P:Program) (t:TypeId):List RTy:=
 match P.underlying t with
 | some (.tuple ts)=>ts.toList.map (Sz P)
 | _=>[Sz P t]
def Ek:(sh:List RTy)->{R:Type}->TV->FunR sh R->(R->Prop)->Prop
 | [s],_,v,f,k=>E9 [s] [v] f k
 | [],_,v,f,k=>match v with | .tuple vs=>E9 [] vs f k | _=>False
 | s::s'::sh,_,v,f,k=>match v with | .tuple vs=>E9 (s::s'::sh) vs f k | _=>False
def O8 {R:Type} (F:TV->R):List TV->R
 | v::_=>F v
 | []=>F .junk
def Fa:(sh:List RTy)->{R:Type}->(TV->R)->FunR sh R
 | [s],_,F=>El [s] (O8 F)
 | [],_,F=>El [] fun l=>F (.tuple l)
 | s::s'::sh,_,F=>El (s::s'::sh) fun l=>F (.tuple l)
theorem Jn {sh:List RTy} {R:Type} {v:TV} {F:TV->R} {k:R->Prop} (h:Ek sh v (Fa sh F) k):k (F v):=by
 match sh,h with
 | [s],h=>
  have h':E9 [s] [v] (El [s] (O8 F)) k:=h
  exact Eb (F:=O8 F) h'
 | [],h=>
  cases v<;>simp only[Ek]at h<;>first | exact h.elim | skip
  exact Eb (sh:=[]) (F:=fun l=>F (.tuple l)) h
 | s::s'::sh,h=>
  cases v<;>simp only[Ek]at h<;>first | exact h.elim | skip
  exact Eb (sh:=s::s'::sh) (F:=fun l=>F (.tuple l)) h
def CallT (P:Program) (f:FuncId) (args:List TV) (sh:List RTy) (st:St) (K:FunR sh (St->Prop)):Prop:=
 C9 P f args st fun r st'=>Ek sh r K fun p=>p st'
structure Cfg where
 loc:List Nat
 ms:List Nat
 pn:List Nat
def Ta (l:List Nat):Option Nat->Bool
 | some d=>l.elem d
 | none=>false
def Tm:List Nat->Nat->Nat->Option Nat
 | [],_,_=>none
 | x::xs,d,k=>match x.beq d with | true=>some k | false=>Tm xs d (k+1)
def Dc (l:List Nat):Option Nat->Option Nat
 | some d=>Tm l d 0
 | none=>none
def O2:Option TypeDesc->Bool
 | some .string=>true
 | some (.slice _)=>true
 | _=>false
def Et (P:Program) (fv:TV) (args:List TV) (sh:List RTy) (st:St) (K:FunR sh (St->Prop)):Prop:=
 match fv with
 | .func fid caps=>CallT P fid (args++caps) sh st K
 | _=>False
def PX (P:Program) (fs:Array Field) (i:Nat):Option (Nat×Nat):=
 match fs[i]? with
 | some f=>match D1 P f.type with
  | some n=>some (f.offset,n)
  | none=>none
 | none=>none
def scalF (P:Program) (fs:Array Field) (i:Nat):Bool:=match fs[i]? with | some f=>K3 P f.type | none=>false
def FD (k:B8) (v:TV):List (B8×TV)->List (B8×TV)
 | []=>[(k,v)]
 | (k',v')::es=>match decide (k=k')with | true=>(k,v)::es | false=>(k',v')::FD k v es
def muK (m:TV) (key:B8) (v:TV) (st:St) (k:St->Prop):Prop:=
 match m with
 | .map b=>∃es,st.box b= .map es/\k (st.put b (.map (FD key v es)))
 | _=>False
def Ew (k:Nat) (v:TV):List (Nat×TV)->List (Nat×TV)
 | []=>[(k,v)]
 | (k',v')::es=>match Nat.beq k k' with | true=>(k,v)::es | false=>(k',v')::Ew k v es
def GL (k:Nat):List (Nat×TV)->List (Nat×TV)
 | []=>[]
 | (k',v')::es=>match Nat.beq k k' with | true=>es | false=>(k',v')::GL k es
def Hh:TV->Nat | .map b=>b | _=>0
def puK (m key v:TV) (st:St) (k:St->Prop):Prop:=Ar (Lb st m key) fun p=>k (st.put (Hh m) (.pmap (Ew p.2 v p.1)))
def pdK (m key:TV) (st:St) (k:St->Prop):Prop:=Ar (Lb st m key) fun p=>k (st.put (Hh m) (.pmap (GL p.2 p.1)))
def unsK (u n:Nat) (v:TV) (st:St) (k:TV->Prop):Prop:=
 match v with
 | .box b off=>(off=0/\st.bt b=some u/\∃l,st.box b= .cells l/\l.length=n)/\k (.box b off)
 | _=>False
def usK (u:Nat) (p:TV) (m:Int) (st:St) (k:B8->St->Prop):Prop:=
 match p with
 | .nilPtr=>m=0/\k [] st
 | .sptr (.list 1 (.own id) n xs)=>(m=n/\n<=9223372036854775807/\st.live id=true/\st.ty id=some u)/\Ar (GQ xs) fun l=>k l (st.retire id)
 | _=>False
def eop (cfg:Cfg) (P:Program) (dst:Option Nat) (type:TypeId) (op:Op) (ρ:Operand->SV) (loc:List (Option (List TV))) (st:St) (K:SV->List (Option (List TV))->St->Prop):Prop:=
 match op with
 | .alloc t=>match Fj P t with
  | some cells=>C8 t (Dc cfg.loc dst) cells loc st K
  | none=>False
 | .box t x=>match II P t with
  | some true=>match (ρ x).tv with
   | .agg cells=>C8 t (Dc cfg.loc dst) cells loc st K
   | _=>False
  | some false=>need (At (ρ x).tv) (C8 t (Dc cfg.loc dst) [(ρ x).tv] loc st K)
  | none=>False
 | .buildSlice t len parts=>match Cr P t with
  | some e=>match D1 P e,Fj P e with
   | some sz,some z=>need (((len*sz).ble 16777216).and ((z.length.beq sz).and (Nat.ble 1 sz))) (match Lw (fun i=>some (i*sz,sz)) (fun _=>K3 P e) (Ih z (len*sz)) (parts.toList.map fun p=>(p.1,(ρ p.2).tv))with
    | some cells=>need (Ld (fun _=>K3 P e) (parts.toList.map fun p=>(p.1,(ρ p.2).tv))) (K (.t (.list sz .full len cells)) loc st)
    | none=>False)
   | _,_=>False
  | none=>False
 | .build t parts=>match Fj P t,P.underlying t with
  | some z,some (.struct fs)=>match Lw (PX P fs) (scalF P fs) z (parts.toList.map fun p=>(p.1,(ρ p.2).tv))with
   | some cells=>need (fs.toList.all fun f=>(D1 P f.type).isSome) (need (Ld (scalF P fs) (parts.toList.map fun p=>(p.1,(ρ p.2).tv))) (K (.t (.agg cells)) loc st))
   | none=>False
  | some z,some (.array _ e)=>match D1 P e with
   | some sz=>match Lw (fun i=>some (i*sz,sz)) (fun _=>K3 P e) z (parts.toList.map fun p=>(p.1,(ρ p.2).tv))with
    | some cells=>need (Ld (fun _=>K3 P e) (parts.toList.map fun p=>(p.1,(ρ p.2).tv))) (K (.t (.agg cells)) loc st)
    | none=>False
   | none=>False
  | _,_=>False
 | .store t a x=>match II P t with
  | some true=>match (ρ x).tv with
   | .agg xs=>need (xs.length.beq (P.cellsOf t)) (need (xs.all At) (stK st loc (ρ a) xs fun loc' st'=>K (.t .undef) loc' st'))
   | _=>False
  | some false=>need (Nat.beq 1 (P.cellsOf t)) (need ([(ρ x).tv].all At) (stK st loc (ρ a) [(ρ x).tv] fun loc' st'=>K (.t .undef) loc' st'))
  | none=>False
 | .call {callee:= .value f,args,.. }=>Et P (ρ f).tv (args.toList.map fun x=>(ρ x).tv) (QQ P type) st (Fa (QQ P type) fun v st'=>K (.t v) loc st')
 | .makeMap t r=>match P.underlying t,(r.map fun x=>(ρ x).tv)with
  | some (.map kt _),none=>match P.underlying kt with
   | some (.pointer _)=>K (.t (.map st.nb)) loc (st.push (.pmap []) none)
   | _=>K (.t (.map st.nb)) loc (st.push (.map []) none)
  | some (.map _ _),some (.int _ _)=>K (.t (.map st.nb)) loc (st.push (.map []) none)
  | _,_=>False
 | .mapUpdate t m k v=>match P.underlying t with
  | some (.map kt _)=>match P.underlying kt with
   | some .string=>match (ρ k).tv with
    | .str key=>need (At (ρ v).tv) (muK (ρ m).tv key (ρ v).tv st fun st'=>K (.t .undef) loc st')
    | _=>False
   | some (.pointer pe)=>match P.cellsOf pe with
    | _+1=>need (At (ρ v).tv) (puK (ρ m).tv (ρ k).tv (ρ v).tv st fun st'=>K (.t .undef) loc st')
    | 0=>False
   | _=>False
  | _=>False
 | .call {callee:= .builtin .delete,args,argTypes}=>match args.toList,argTypes.toList with
  | [m,k],[t,_]=>match P.underlying t with
   | some (.map kt _)=>match P.underlying kt with
    | some (.pointer pe)=>match P.cellsOf pe with
     | _+1=>pdK (ρ m).tv (ρ k).tv st fun st'=>K (.t (.tuple [])) loc st'
     | 0=>False
    | _=>False
   | _=>False
  | _,_=>False
 | .call {callee:= .builtin .unsafeString,args,argTypes}=>match args.toList,argTypes.toList with
  | [p,n],[pt,_]=>match P.underlying pt with
   | some (.pointer u)=>match decide (P.cellsOf u=1),(ρ n).tv with
    | true,.int .i64 m=>usK u (ρ p).tv m st fun l st'=>K (.t (.str l)) loc st'
    | _,_=>False
   | _=>False
  | _,_=>False
 | .call {callee:= .builtin .append,args,argTypes}=>match args.toList,argTypes.toList with
  | [a,x],[t,u]=>match Cr P t with
   | some e=>match P.info? e,Fj P e with
    | some i,some z=>need ((O2 (P.underlying u)).and ((z.length.beq i.size).and ((Nat.ble 1 i.size).and (Nat.ble 1 i.bytes))))
     (Ar (DH st i.size (ρ x).tv) fun p=>need (p.2.all At) (match Ta cfg.ms dst with
      | true=>HT e i.size i.bytes (ρ a).tv p.1 p.2 st fun r st'=>K (.t r) loc st'
      | false=>Cx e i.size i.bytes (ρ a).tv p.1 p.2 st fun r st'=>K (.t r) loc st'))
    | _,_=>False
   | none=>False
  | _,_=>False
 | .convert s d x=>match P.underlying s,Cr P d,(ρ x).tv with
  | some .string,some e,.str l=>match P.underlying e with
   | some (.int .u8)=>K (.t (.list 1 (.own st.nt) l.length (A5 l))) loc (st.fresh (some e))
   | _=>False
  | some .unsafePointer,none,v=>match P.underlying d with
   | some (.pointer u)=>match P.cellsOf u with
    | 0=>False
    | n+1=>unsK u (n+1) v st fun r=>K (.t r) loc st
   | _=>False
  | _,_,_=>False
 | .makeSlice t l c=>match Cr P t,(ρ l).tv,(ρ c).tv with
  | some e,.int _ n,.int _ m=>match P.info? e,Fj P e with
   | some i,some z=>need ((z.length.beq i.size).and ((Nat.ble 1 i.size).and (Nat.ble 1 i.bytes))) ((0<=n/\n<=m/\m.toNat*i.bytes<=140737488355328)/\match Ta cfg.ms dst with
    | true=>K (.t (.ms i.size st.nb 0 n.toNat m.toNat)) loc (st.push (.cells (Ih z (m.toNat*i.size))) (some e))
    | false=>K (.t (.list i.size (.own st.nt) n.toNat (Ih z (n.toNat*i.size)))) loc (st.fresh (some e)))
   | _,_=>False
  | _,_,_=>False
 | _=>False
end Go.TVF
end
