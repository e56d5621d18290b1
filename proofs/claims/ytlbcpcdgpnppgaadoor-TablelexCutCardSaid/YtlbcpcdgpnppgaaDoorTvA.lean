/-
  A small verified layer over the model: values of Go as trees ('TV'), a relation to the model's values and worlds, and what stays true when the world grows.
-/
import Derived.Below
import Derived.Test.YtlbcpcdgpnppgaaDoorGlob
import Derived.Tactics
set_option linter.unusedVariables false
set_option linter.unusedSimpArgs false
namespace Go.TVF
open Go.RowKit (Below)

inductive Tip where
  | non
  | full
  | own (id : Nat)

inductive TV where
  | undef
  | junk
  | int (k : IntKind) (n : Int)
  | bool (b : Bool)
  | str (l : List UInt8)
  | nilPtr
  | nilSlice
  | nilMap
  | nilFunc
  | nilIface
  | list (sz : Nat) (tip : Tip) (n : Nat) (xs : List TV)
  | ms (sz b off n cap : Nat)
  | box (b off : Nat)
  | rptr (xs : List TV)
  | agg (xs : List TV)
  | tuple (xs : List TV)
  | func (f : Nat) (cap : List TV)
  | iface (t : Nat) (v : TV)
  | map (b : Nat)
  | sptr (v : TV)

inductive AObj where
  | dead
  | cells (l : List TV)
  | iter (s : List UInt8) (pos : Nat)
  | map (es : List (List UInt8 × TV))

structure St where
  nb : Nat
  box : Nat → AObj
  nt : Nat
  live : Nat → Bool
  ty : Nat → Option Nat
  bt : Nat → Option Nat

inductive SV where
  | t (v : TV)
  | loc (i off : Nat)

structure Fr where
  slots : List SV
  loc : List (Option (List TV))

structure Ghost where
  base : Nat
  w0 : World
  nb : Nat
  bk : Nat → Nat
  lam : Nat → Nat
  nt : Nat
  sp : Nat → Option (Nat × Nat × Nat)
  S : Addr → Prop
  prot : Nat → Prop

def TipOk (g : Ghost) : Tip → Addr → (n cap sz : Nat) → Prop
  | .non, _, _, _, _ => True
  | .full, _, n, cap, _ => cap = n
  | .own id, a, n, cap, sz => id < g.nt ∧ ∀ r, g.sp id = some r → r = (a.block, a.off + n * sz, a.off + cap * sz)

inductive Rel (g : Ghost) (w : World) : TV → Value → Prop
  | undef : Rel g w .undef Go.undef
  | junk (v : Value) : Rel g w .junk v
  | int (k : IntKind) (n : Int) : Rel g w (.int k n) (.int k n)
  | bool (b : Bool) : Rel g w (.bool b) (.bool b)
  | str (l : List UInt8) : Rel g w (.str l) (.string ⟨l.toArray⟩)
  | nilPtr : Rel g w .nilPtr (.pointer none)
  | nilSlice : Rel g w .nilSlice (.slice none 0 0)
  | nilMap : Rel g w .nilMap (.map none)
  | nilFunc : Rel g w .nilFunc .nilFunc
  | nilIface : Rel g w .nilIface .nilIface
  | list (sz : Nat) (tip : Tip) (n : Nat) (xs : List TV) (b o cap : Nat) (us : Nat → Value) (hl : xs.length = n * sz) (hn : n ≤ cap)
      (hc : ∀ i, i < xs.length → g.S ⟨b, o + i, none⟩ ∧ w.cell? ⟨b, o + i, none⟩ = some (us i))
      (hr : ∀ i (h : i < xs.length), Rel g w xs[i] (us i)) (ht : TipOk g tip ⟨b, o, none⟩ n cap sz) : Rel g w (.list sz tip n xs) (.slice (some ⟨b, o, none⟩) n cap)
  | ms (sz b off n cap : Nat) (h : b < g.nb) (hn : n ≤ cap) : Rel g w (.ms sz b off n cap) (.slice (some ⟨g.bk b, off, none⟩) n cap)
  | box (b off : Nat) (h : b < g.nb) : Rel g w (.box b off) (.pointer (some ⟨g.bk b, off, none⟩))
  | rptr (xs : List TV) (b o : Nat) (us : Nat → Value)
      (hc : ∀ i, i < xs.length → g.S ⟨b, o + i, none⟩ ∧ w.cell? ⟨b, o + i, none⟩ = some (us i))
      (hr : ∀ i (h : i < xs.length), Rel g w xs[i] (us i)) : Rel g w (.rptr xs) (.pointer (some ⟨b, o, none⟩))
  | agg (xs : List TV) (vs : List Value) (hl : xs.length = vs.length) (hr : ∀ i (h : i < xs.length), Rel g w xs[i] (vs.getD i Go.undef)) : Rel g w (.agg xs) (.agg vs.toArray)
  | tuple (xs : List TV) (vs : List Value) (hl : xs.length = vs.length) (hr : ∀ i (h : i < xs.length), Rel g w xs[i] (vs.getD i Go.undef)) : Rel g w (.tuple xs) (.tuple vs.toArray)
  | func (f : Nat) (xs : List TV) (vs : List Value) (hl : xs.length = vs.length) (hr : ∀ i (h : i < xs.length), Rel g w xs[i] (vs.getD i Go.undef)) : Rel g w (.func f xs) (.func (.func f) #[] vs.toArray)
  | iface (t : Nat) (v : TV) (u : Value) (h : Rel g w v u) : Rel g w (.iface t v) (.iface t u)
  | map (b : Nat) (h : b < g.nb) : Rel g w (.map b) (.map (some (g.bk b)))
  | sptr (v : TV) (a : Addr) (n cap : Nat) (hc : cap ≠ 0) (h : Rel g w v (.slice (some a) n cap)) : Rel g w (.sptr v) (.pointer (some a))

/-- The world has gone on, and nothing that a value leans on has turned. -/
structure Ext0 (g : Ghost) (w : World) (g' : Ghost) (w' : World) : Prop where
  nb : g.nb ≤ g'.nb
  bk : ∀ b, b < g.nb → g'.bk b = g.bk b
  nt : g.nt ≤ g'.nt
  sp : ∀ id, id < g.nt → g'.sp id = g.sp id ∨ g'.sp id = none
  S : ∀ a, g.S a → g'.S a ∧ w'.cell? a = w.cell? a

structure Ext (g : Ghost) (w : World) (g' : Ghost) (w' : World) : Prop where
  base : g'.base = g.base
  w0 : g'.w0 = g.w0
  size : w.heap.size ≤ w'.heap.size
  nb : g.nb ≤ g'.nb
  bk : ∀ b, b < g.nb → g'.bk b = g.bk b
  nt : g.nt ≤ g'.nt
  sp : ∀ id, id < g.nt → g'.sp id = g.sp id ∨ g'.sp id = none
  S : ∀ a, g.S a → g'.S a ∧ w'.cell? a = w.cell? a
  prot : g'.prot = g.prot
  protEq : ∀ b, g.prot b → w'.heap[b]? = w.heap[b]?

theorem Ext.to0 {g g' : Ghost} {w w' : World} (e : Ext g w g' w') : Ext0 g w g' w' := ⟨e.nb, e.bk, e.nt, e.sp, e.S⟩

theorem Ext.refl (g : Ghost) (w : World) : Ext g w g w :=
  ⟨rfl, rfl, Nat.le_refl _, Nat.le_refl _, fun _ _ => rfl, Nat.le_refl _, fun _ _ => .inl rfl, fun _ h => ⟨h, rfl⟩, rfl, fun _ _ => rfl⟩

theorem Ext.trans {g g' g'' : Ghost} {w w' w'' : World} (h : Ext g w g' w') (k : Ext g' w' g'' w'') : Ext g w g'' w'' where
  base := k.base.trans h.base
  w0 := k.w0.trans h.w0
  size := Nat.le_trans h.size k.size
  nb := Nat.le_trans h.nb k.nb
  bk b hb := (k.bk b (Nat.lt_of_lt_of_le hb h.nb)).trans (h.bk b hb)
  nt := Nat.le_trans h.nt k.nt
  sp id hi := by
    rcases k.sp id (Nat.lt_of_lt_of_le hi h.nt) with e | e
    · rcases h.sp id hi with f | f
      · exact .inl (e.trans f)
      · exact .inr (e.trans f)
    · exact .inr e
  S a ha := ⟨(k.S a (h.S a ha).1).1, ((k.S a (h.S a ha).1).2).trans (h.S a ha).2⟩
  prot := k.prot.trans h.prot
  protEq b hb := (k.protEq b (by rw [h.prot]; exact hb)).trans (h.protEq b hb)

theorem TipOk.ext {g g' : Ghost} {w w' : World} (e : Ext0 g w g' w') {tip : Tip} {a : Addr} {n cap sz : Nat} (h : TipOk g tip a n cap sz) : TipOk g' tip a n cap sz := by
  cases tip with
  | non => trivial
  | full => exact h
  | own id =>
    refine ⟨Nat.lt_of_lt_of_le h.1 e.nt, fun r hr => ?_⟩
    rcases e.sp id h.1 with f | f
    · exact h.2 r (by rw [← f]; exact hr)
    · rw [f] at hr; cases hr

theorem Rel.ext0 {g g' : Ghost} {w w' : World} (e : Ext0 g w g' w') {v : TV} {u : Value} (h : Rel g w v u) : Rel g' w' v u := by
  induction h with
  | undef => exact .undef
  | junk v => exact .junk v
  | int k n => exact .int k n
  | bool b => exact .bool b
  | str l => exact .str l
  | nilPtr => exact .nilPtr
  | nilSlice => exact .nilSlice
  | nilMap => exact .nilMap
  | nilFunc => exact .nilFunc
  | nilIface => exact .nilIface
  | list sz tip n xs b o cap us hl hn hc _ ht ih =>
    exact .list sz tip n xs b o cap us hl hn (fun i hi => ⟨(e.S _ (hc i hi).1).1, ((e.S _ (hc i hi).1).2).trans (hc i hi).2⟩) ih (ht.ext e)
  | ms sz b off n cap h hn => rw [← e.bk b h]; exact .ms sz b off n cap (Nat.lt_of_lt_of_le h e.nb) hn
  | box b off h => rw [← e.bk b h]; exact .box b off (Nat.lt_of_lt_of_le h e.nb)
  | rptr xs b o us hc _ ih => exact .rptr xs b o us (fun i hi => ⟨(e.S _ (hc i hi).1).1, ((e.S _ (hc i hi).1).2).trans (hc i hi).2⟩) ih
  | agg xs vs hl _ ih => exact .agg xs vs hl ih
  | tuple xs vs hl _ ih => exact .tuple xs vs hl ih
  | func f xs vs hl _ ih => exact .func f xs vs hl ih
  | iface t v u _ ih => exact .iface t v u ih
  | map b h => rw [← e.bk b h]; exact .map b (Nat.lt_of_lt_of_le h e.nb)
  | sptr v a n cap hc _ ih => exact .sptr v a n cap hc ih

theorem Rel.ext {g g' : Ghost} {w w' : World} (e : Ext g w g' w') {v : TV} {u : Value} (h : Rel g w v u) : Rel g' w' v u := h.ext0 e.to0

/-- A list of trees beside a list of values. -/
def RelL (g : Ghost) (w : World) (xs : List TV) (vs : List Value) : Prop := xs.length = vs.length ∧ ∀ i (h : i < xs.length), Rel g w (xs[i]'h) (vs.getD i Go.undef)

theorem RelL.ext0 {g g' : Ghost} {w w' : World} (e : Ext0 g w g' w') {xs : List TV} {vs : List Value} (h : RelL g w xs vs) : RelL g' w' xs vs := ⟨h.1, fun i hi => (h.2 i hi).ext0 e⟩
theorem RelL.ext {g g' : Ghost} {w w' : World} (e : Ext g w g' w') {xs : List TV} {vs : List Value} (h : RelL g w xs vs) : RelL g' w' xs vs := h.ext0 e.to0
theorem RelL.nil (g : Ghost) (w : World) : RelL g w [] [] := ⟨rfl, fun i h => absurd h (Nat.not_lt_zero _)⟩
theorem RelL.cons {g : Ghost} {w : World} {x : TV} {v : Value} {xs : List TV} {vs : List Value} (h : Rel g w x v) (k : RelL g w xs vs) : RelL g w (x :: xs) (v :: vs) := by
  refine ⟨by simp [k.1], fun i hi => ?_⟩
  cases i with
  | zero => exact h
  | succ i => exact k.2 i (by simpa using hi)
theorem RelL.append {g : Ghost} {w : World} {xs ys : List TV} {vs us : List Value} (h : RelL g w xs vs) (k : RelL g w ys us) : RelL g w (xs ++ ys) (vs ++ us) := by
  refine ⟨by simp [h.1, k.1], fun i hi => ?_⟩
  have e := h.1
  by_cases hlt : i < xs.length
  · rw [List.getElem_append_left hlt]
    have := h.2 i hlt
    simp only [List.getD_eq_getElem?_getD] at this ⊢
    rwa [List.getElem?_append_left (by omega)]
  · rw [List.getElem_append_right (by omega)]
    have := k.2 (i - xs.length) (by simp at hi; omega)
    simp only [List.getD_eq_getElem?_getD] at this ⊢
    rw [List.getElem?_append_right (by omega), ← e]
    exact this
theorem RelL.get? {g : Ghost} {w : World} {xs : List TV} {vs : List Value} (h : RelL g w xs vs) {i : Nat} {x : TV} (hx : xs[i]? = some x) : ∃ v, vs[i]? = some v ∧ Rel g w x v := by
  obtain ⟨hi, rfl⟩ := List.getElem?_eq_some_iff.1 hx
  have hi' : i < vs.length := h.1 ▸ hi
  refine ⟨vs[i], List.getElem?_eq_getElem hi', ?_⟩
  have := h.2 i hi
  simpa [List.getD_eq_getElem?_getD, List.getElem?_eq_getElem hi'] using this
theorem RelL.set {g : Ghost} {w : World} {xs : List TV} {vs : List Value} (h : RelL g w xs vs) {x : TV} {v : Value} (hx : Rel g w x v) (i : Nat) : RelL g w (xs.set i x) (vs.set i v) := by
  refine ⟨by simp [h.1], fun j hj => ?_⟩
  have hj' : j < xs.length := by simpa using hj
  have hjv : j < vs.length := h.1 ▸ hj'
  simp only [List.getElem_set, List.getD_eq_getElem?_getD, List.getElem?_set]
  by_cases hij : i = j
  · subst hij; simp [hjv, hx]
  · have := h.2 j hj'
    simp only [List.getD_eq_getElem?_getD] at this
    simpa [hij] using this
theorem RelL.drop {g : Ghost} {w : World} {xs : List TV} {vs : List Value} (h : RelL g w xs vs) (n : Nat) : RelL g w (xs.drop n) (vs.drop n) := by
  refine ⟨by simp [h.1], fun i hi => ?_⟩
  have := h.2 (n + i) (by simp at hi; omega)
  simp only [List.getElem_drop, List.getD_eq_getElem?_getD, List.getElem?_drop] at this ⊢
  exact this
theorem RelL.take {g : Ghost} {w : World} {xs : List TV} {vs : List Value} (h : RelL g w xs vs) (n : Nat) : RelL g w (xs.take n) (vs.take n) := by
  refine ⟨by simp [h.1], fun i hi => ?_⟩
  have hi' : i < n ∧ i < xs.length := by have := hi; simp only [List.length_take] at this; omega
  have := h.2 i hi'.2
  simp only [List.getElem_take, List.getD_eq_getElem?_getD, List.getElem?_take] at this ⊢
  simpa [hi'.1] using this

/-- A row of cells of a block that the program may write whole. -/
def HasCells (w : World) (b : Nat) (cs : List Value) : Prop :=
  ∃ T lo hi, w.heap[b]? = some (.cells cs.toArray T (lo, hi)) ∧ ∀ o, o < cs.length → ¬ (lo ≤ o ∧ o < hi)

def ORel (g : Ghost) (w : World) (b : Nat) : AObj → Prop
  | .dead => True
  | .cells l => ∃ cs, HasCells w b cs ∧ RelL g w l cs
  | .iter s pos => w.heap[b]? = some (.stringIter ⟨s.toArray⟩ pos)
  | .map es => ∃ ms clock, w.heap[b]? = some (.map ms clock) ∧ es.length = ms.toList.length ∧ ∀ (i : Nat) (k : List UInt8) (v : TV), es[i]? = some (k, v) → ∃ e : MapEntry, ms.toList[i]? = some e ∧ e.key = Value.string ⟨k.toArray⟩ ∧ Rel g w v e.val

/-- The keys of what may be written whole: boxes and the frame's own locals. -/
inductive Key where
  | box (b : Nat)
  | loc (i : Nat)

def Ghost.at (g : Ghost) : Key → Nat
  | .box b => g.bk b
  | .loc i => g.lam i

def Dom (st : St) (loc : List (Option (List TV))) : Key → Prop
  | .box b => b < st.nb
  | .loc i => ∃ l, loc[i]? = some (some l)

def objOf (st : St) (loc : List (Option (List TV))) : Key → AObj
  | .box b => st.box b
  | .loc i => match loc[i]? with | some (some l) => .cells l | _ => .dead

/-- A row of elements of a type. -/
def IsRow (w : World) (b T : Nat) : Prop := ∃ c fz, w.heap[b]? = some (.cells c T fz)
theorem IsRow.same {w w' : World} {b T : Nat} (h : IsRow w b T) (e : w'.heap[b]? = w.heap[b]?) : IsRow w' b T := by obtain ⟨c, fz, h⟩ := h; exact ⟨c, fz, e.trans h⟩

/-- No other tip in a tip's block. -/
def TopOk (g : Ghost) (id b : Nat) : Prop := ∀ j r, j ≠ id → g.sp j = some r → r.1 ≠ b

structure Sim (g : Ghost) (st : St) (loc : List (Option (List TV))) (w : World) : Prop where
  nb : g.nb = st.nb
  nt : g.nt = st.nt
  below : Below g.base g.w0 w
  fits : g.base ≤ w.heap.size
  obj : ∀ k, Dom st loc k → ORel g w (g.at k) (objOf st loc k)
  inj : ∀ k k', Dom st loc k → Dom st loc k' → g.at k = g.at k' → k = k'
  lo : ∀ k, Dom st loc k → g.base ≤ g.at k ∧ g.at k < w.heap.size
  own : ∀ id, id < st.nt → st.live id = true → g.sp id ≠ none
  spCell : ∀ id b l h, g.sp id = some (b, l, h) → g.base ≤ b ∧ b < w.heap.size ∧ l ≤ h ∧ (∀ k, Dom st loc k → g.at k ≠ b) ∧
    ∀ o, l ≤ o → o < h → (∃ v, w.cell? ⟨b, o, none⟩ = some v) ∧ w.frozen? ⟨b, o, none⟩ = false
  spApart : ∀ i j b l h l' h', i ≠ j → g.sp i = some (b, l, h) → g.sp j = some (b, l', h') → h ≤ l' ∨ h' ≤ l ∨ l = h ∨ l' = h'
  spLt : ∀ id, g.nt ≤ id → g.sp id = none
  sCell : ∀ a, g.S a → a.spot = none ∧ (∃ v, w.cell? a = some v) ∧ (∀ k, Dom st loc k → g.at k ≠ a.block) ∧
    ∀ id l h, g.sp id = some (a.block, l, h) → ¬ (l ≤ a.off ∧ a.off < h)
  protOk : ∀ b, g.prot b → b < w.heap.size ∧ (∀ k, Dom st loc k → g.at k ≠ b) ∧ (∀ id l h, g.sp id ≠ some (b, l, h)) ∧ ∀ a, g.S a → a.block ≠ b
  spTop : ∀ id b l h, g.sp id = some (b, l, h) → TopOk g id b
  spTy : ∀ id b l h T, g.sp id = some (b, l, h) → st.ty id = some T → IsRow w b T
  bTy : ∀ b T, b < st.nb → st.bt b = some T → IsRow w (g.bk b) T
  glob : ∀ w', Below g.base g.w0 w' → GlobOK w'

def SRel (g : Ghost) (w : World) (loc : List (Option (List TV))) : SV → Value → Prop
  | .t v, u => Rel g w v u
  | .loc i off, u => (∃ l, loc[i]? = some (some l)) ∧ u = .pointer (some ⟨g.lam i, off, none⟩)

def FRel (g : Ghost) (w : World) (fr : Fr) (tmps : Array Value) : Prop :=
  fr.slots.length = tmps.size ∧ ∀ i (h : i < fr.slots.length), SRel g w fr.loc (fr.slots[i]'h) (tmps.getD i Go.undef)


/-! What the world's steps do to the simulation. -/

def Free (g : Ghost) (st : St) (loc : List (Option (List TV))) (b : Nat) : Prop :=
  g.base ≤ b ∧ (∀ k, Dom st loc k → g.at k ≠ b) ∧ (∀ a, g.S a → a.block ≠ b) ∧ (∀ id l h, g.sp id ≠ some (b, l, h)) ∧ ¬ g.prot b

theorem HasCells.same {w w' : World} {b : Nat} {cs : List Value} (h : HasCells w b cs) (e : w'.heap[b]? = w.heap[b]?) : HasCells w' b cs := by
  obtain ⟨T, lo, hi, hh, hf⟩ := h
  exact ⟨T, lo, hi, e.trans hh, hf⟩

theorem ORel.ext0 {g g' : Ghost} {w w' : World} (e : Ext0 g w g' w') {b : Nat} (hb : w'.heap[b]? = w.heap[b]?) {o : AObj} (h : ORel g w b o) : ORel g' w' b o := by
  cases o with
  | dead => trivial
  | cells l => obtain ⟨cs, hc, hr⟩ := h; exact ⟨cs, hc.same hb, hr.ext0 e⟩
  | iter s pos => exact hb.trans h
  | map es => obtain ⟨ms, c, hc, hr, hm⟩ := h; exact ⟨ms, c, hb.trans hc, hr, fun i k v hi => by obtain ⟨e', h1, h2, h3⟩ := hm i k v hi; exact ⟨e', h1, h2, h3.ext0 e⟩⟩

theorem ORel.ext {g g' : Ghost} {w w' : World} (e : Ext g w g' w') {b : Nat} (hb : w'.heap[b]? = w.heap[b]?) {o : AObj} (h : ORel g w b o) : ORel g' w' b o := h.ext0 e.to0 hb

theorem cell?_same {w w' : World} {a : Addr} (h : w'.heap[a.block]? = w.heap[a.block]?) : w'.cell? a = w.cell? a := World.cell?_of_block (w := w) h
theorem frozen?_same {w w' : World} {a : Addr} (h : w'.heap[a.block]? = w.heap[a.block]?) : w'.frozen? a = w.frozen? a := World.frozen?_of_block (w := w) h

theorem heap_alloc_lt (w : World) (o : Obj) {k : Nat} (h : k < w.heap.size) : (w.alloc o).heap[k]? = w.heap[k]? := Below.heap_alloc w o k h
theorem heap_alloc_at (w : World) (o : Obj) : (w.alloc o).heap[w.heap.size]? = some o := by
  show (w.heap.push o)[w.heap.size]? = _
  simp

theorem sBlock {g : Ghost} {st : St} {loc : List (Option (List TV))} {w : World} (s : Sim g st loc w) {a : Addr} (h : g.S a) : a.block < w.heap.size := by
  obtain ⟨_, ⟨v, hv⟩, _⟩ := s.sCell a h
  exact World.block_lt_of_cell? w a hv

/-- The world has changed in blocks that nothing speaks of (and in new ones). -/
theorem Sim.world {g : Ghost} {st : St} {loc : List (Option (List TV))} {w w' : World} (s : Sim g st loc w) (hs : w.heap.size ≤ w'.heap.size) (hb : Below g.base g.w0 w')
    (hk : ∀ k, k < w.heap.size → w'.heap[k]? = w.heap[k]?) : Sim g st loc w' ∧ Ext g w g w' := by
  have e : Ext g w g w' := ⟨rfl, rfl, hs, Nat.le_refl _, fun _ _ => rfl, Nat.le_refl _, fun _ _ => .inl rfl, fun a ha => ⟨ha, cell?_same (hk _ (sBlock s ha))⟩, rfl,
    fun b hb => hk b (s.protOk b hb).1⟩
  refine ⟨⟨s.nb, s.nt, hb, Nat.le_trans s.fits hs, fun k d => (s.obj k d).ext e (hk _ (s.lo k d).2), s.inj, fun k d => ⟨(s.lo k d).1, Nat.lt_of_lt_of_le (s.lo k d).2 hs⟩, s.own, ?_, s.spApart, s.spLt, ?_, ?_, s.spTop, fun id b l h T hh hT => (s.spTy id b l h T hh hT).same (hk b (s.spCell id b l h hh).2.1), fun b T hb hT => (s.bTy b T hb hT).same (hk _ (s.lo (.box b) hb).2), s.glob⟩, e⟩
  · intro id b l h hsp
    obtain ⟨h1, h2, h3, h4, h5⟩ := s.spCell id b l h hsp
    refine ⟨h1, Nat.lt_of_lt_of_le h2 hs, h3, h4, fun o ho1 ho2 => ?_⟩
    have := h5 o ho1 ho2
    rw [cell?_same (a := ⟨b, o, none⟩) (hk b h2), frozen?_same (a := ⟨b, o, none⟩) (hk b h2)]
    exact this
  · intro a ha
    obtain ⟨h1, h2, h3, h4⟩ := s.sCell a ha
    exact ⟨h1, by rw [cell?_same (hk _ (sBlock s ha))]; exact h2, h3, h4⟩
  · intro b hb
    obtain ⟨h1, h2, h3⟩ := s.protOk b hb
    exact ⟨Nat.lt_of_lt_of_le h1 hs, h2, h3⟩

theorem Sim.drew {g : Ghost} {st : St} {loc : List (Option (List TV))} {w : World} (s : Sim g st loc w) : Sim g st loc w.drew ∧ Ext g w g w.drew :=
  s.world (Nat.le_refl _) s.below.drew (fun _ _ => rfl)

theorem Sim.alloc {g : Ghost} {st : St} {loc : List (Option (List TV))} {w : World} (s : Sim g st loc w) (o : Obj) :
    Sim g st loc (w.alloc o) ∧ Ext g w g (w.alloc o) ∧ Free g st loc w.heap.size := by
  have h := s.world (w' := w.alloc o) (by simp) (s.below.alloc s.fits o) (fun k hk => heap_alloc_lt w o hk)
  refine ⟨h.1, h.2, s.fits, fun k d e => ?_, fun a ha e => ?_, fun id l h e => ?_, fun hp => ?_⟩
  · have := (s.lo k d).2; omega
  · have := sBlock s ha; omega
  · have := (s.spCell id _ l h e).2.1; omega
  · have := (s.protOk _ hp).1; omega

def St.push (st : St) (o : AObj) (T : Option Nat) : St := { st with nb := st.nb + 1, box := fun b => if b = st.nb then o else st.box b, bt := fun b => if b = st.nb then T else st.bt b }
def Ghost.push (g : Ghost) (b : Nat) : Ghost := { g with nb := g.nb + 1, bk := fun i => if i = g.nb then b else g.bk i }

theorem Sim.push {g : Ghost} {st : St} {loc : List (Option (List TV))} {w : World} (s : Sim g st loc w) {b : Nat} (fr : Free g st loc b) (hb : b < w.heap.size) {o : AObj} (ho : ORel g w b o) {T : Option Nat} (hT : ∀ t, T = some t → IsRow w b t) :
    Sim (g.push b) (st.push o T) loc w ∧ Ext g w (g.push b) w ∧ (g.push b).bk st.nb = b := by
  have e : Ext g w (g.push b) w := ⟨rfl, rfl, Nat.le_refl _, Nat.le_succ _, fun i hi => by simp [Ghost.push, Nat.ne_of_lt hi], Nat.le_refl _, fun _ _ => .inl rfl, fun a ha => ⟨ha, rfl⟩, rfl, fun _ _ => rfl⟩
  have hbk : (g.push b).bk st.nb = b := by simp [Ghost.push, s.nb]
  have hold : ∀ k, Dom (st.push o T) loc k → k = .box st.nb ∨ (Dom st loc k ∧ (g.push b).at k = g.at k ∧ objOf (st.push o T) loc k = objOf st loc k) := by
    intro k d
    cases k with
    | box i =>
      by_cases hi : i = st.nb
      · exact .inl (by rw [hi])
      · right
        have : i < st.nb := by simp only [Dom, St.push] at d; omega
        refine ⟨this, ?_, ?_⟩
        · simp only [Ghost.at, Ghost.push]; rw [if_neg (by rw [s.nb]; exact hi)]
        · simp only [objOf, St.push]; rw [if_neg hi]
    | loc i => exact .inr ⟨d, rfl, rfl⟩
  refine ⟨⟨?_, s.nt, s.below, s.fits, ?_, ?_, ?_, s.own, ?_, s.spApart, s.spLt, ?_, ?_, s.spTop, s.spTy, ?_, s.glob⟩, e, hbk⟩
  · show g.nb + 1 = st.nb + 1; rw [s.nb]
  · intro k d
    rcases hold k d with rfl | ⟨d', h1, h2⟩
    · show ORel (g.push b) w ((g.push b).bk st.nb) _
      rw [hbk]; simp only [objOf, St.push, if_true]; exact ho.ext e rfl
    · rw [h1, h2]; exact (s.obj k d').ext e rfl
  · intro k k' d d' heq
    rcases hold k d with rfl | ⟨d1, h1, _⟩ <;> rcases hold k' d' with rfl | ⟨d2, h2, _⟩
    · rfl
    · rw [h2] at heq; exact absurd (heq.symm.trans hbk) (fr.2.1 k' d2)
    · rw [h1] at heq; exact absurd (heq.trans hbk) (fr.2.1 k d1)
    · exact s.inj k k' d1 d2 (by rw [← h1, ← h2]; exact heq)
  · intro k d
    rcases hold k d with rfl | ⟨d1, h1, _⟩
    · show g.base ≤ (g.push b).bk st.nb ∧ (g.push b).bk st.nb < _
      rw [hbk]; exact ⟨fr.1, hb⟩
    · rw [h1]; exact s.lo k d1
  · intro id b' l h hsp
    obtain ⟨h1, h2, h3, h4, h5⟩ := s.spCell id b' l h hsp
    refine ⟨h1, h2, h3, fun k d => ?_, h5⟩
    rcases hold k d with rfl | ⟨d1, e1, _⟩
    · show (g.push b).bk st.nb ≠ b'
      rw [hbk]; intro hh; subst hh; exact fr.2.2.2.1 id l h hsp
    · rw [e1]; exact h4 k d1
  · intro a ha
    obtain ⟨h1, h2, h3, h4⟩ := s.sCell a ha
    refine ⟨h1, h2, fun k d => ?_, h4⟩
    rcases hold k d with rfl | ⟨d1, e1, _⟩
    · show (g.push b).bk st.nb ≠ a.block
      rw [hbk]; intro hh; exact fr.2.2.1 a ha hh.symm
    · rw [e1]; exact h3 k d1
  · intro b' hb'
    obtain ⟨h1, h2, h3⟩ := s.protOk b' hb'
    refine ⟨h1, fun k d => ?_, h3⟩
    rcases hold k d with rfl | ⟨d1, e1, _⟩
    · show (g.push b).bk st.nb ≠ b'
      rw [hbk]; intro hh; subst hh; exact fr.2.2.2.2 hb'
    · rw [e1]; exact h2 k d1
  · intro i t hi hT'
    simp only [St.push] at hi hT'
    by_cases hn : i = st.nb
    · rw [if_pos hn] at hT'
      rw [hn, hbk]; exact hT t hT'
    · rw [if_neg hn] at hT'
      have : (g.push b).bk i = g.bk i := by simp only [Ghost.push]; rw [if_neg (by rw [s.nb]; exact hn)]
      rw [this]; exact s.bTy i t (by omega) hT'

/-- A new local of the frame. -/
def Ghost.pushLoc (g : Ghost) (n b : Nat) : Ghost := { g with lam := fun i => if i = n then b else g.lam i }

theorem Sim.putLoc {g : Ghost} {st : St} {loc loc' : List (Option (List TV))} {w : World} (s : Sim g st loc w) {b n : Nat} (fr : Free g st loc b) (hb : b < w.heap.size) {l : List TV} (ho : ORel g w b (.cells l))
    (h1 : loc'[n]? = some (some l)) (h2 : ∀ j : Nat, j ≠ n → ∀ x : List TV, loc'[j]? = some (some x) ↔ loc[j]? = some (some x)) :
    Sim (g.pushLoc n b) st loc' w ∧ Ext g w (g.pushLoc n b) w := by
  have e : Ext g w (g.pushLoc n b) w := ⟨rfl, rfl, Nat.le_refl _, Nat.le_refl _, fun i hi => rfl, Nat.le_refl _, fun _ _ => .inl rfl, fun a ha => ⟨ha, rfl⟩, rfl, fun _ _ => rfl⟩
  have hbk : (g.pushLoc n b).at (.loc n) = b := by simp [Ghost.pushLoc, Ghost.at]
  have hold : ∀ k, Dom st loc' k → k = .loc n ∨ (Dom st loc k ∧ (g.pushLoc n b).at k = g.at k ∧ objOf st loc' k = objOf st loc k) := by
    intro k d
    cases k with
    | box i => exact .inr ⟨d, rfl, rfl⟩
    | loc i =>
      by_cases hi : i = n
      · exact .inl (by rw [hi])
      · right
        obtain ⟨x, hx⟩ := d
        have hx' := (h2 i hi x).1 hx
        refine ⟨⟨x, hx'⟩, ?_, ?_⟩
        · simp only [Ghost.at, Ghost.pushLoc]; rw [if_neg hi]
        · simp only [objOf, hx, hx']
  refine ⟨⟨s.nb, s.nt, s.below, s.fits, ?_, ?_, ?_, s.own, ?_, s.spApart, s.spLt, ?_, ?_, s.spTop, s.spTy, s.bTy, s.glob⟩, e⟩
  · intro k d
    rcases hold k d with rfl | ⟨d', h1', h2'⟩
    · rw [hbk]; simp only [objOf, h1]; exact ho.ext e rfl
    · rw [h1', h2']; exact (s.obj k d').ext e rfl
  · intro k k' d d' heq
    rcases hold k d with rfl | ⟨d1, h1', _⟩ <;> rcases hold k' d' with rfl | ⟨d2, h2', _⟩
    · rfl
    · rw [h2'] at heq; exact absurd (heq.symm.trans hbk) (fr.2.1 k' d2)
    · rw [h1'] at heq; exact absurd (heq.trans hbk) (fr.2.1 k d1)
    · exact s.inj k k' d1 d2 (by rw [← h1', ← h2']; exact heq)
  · intro k d
    rcases hold k d with rfl | ⟨d1, h1', _⟩
    · rw [hbk]; exact ⟨fr.1, hb⟩
    · rw [h1']; exact s.lo k d1
  · intro id b' l' h hsp
    obtain ⟨c1, c2, c3, c4, c5⟩ := s.spCell id b' l' h hsp
    refine ⟨c1, c2, c3, fun k d => ?_, c5⟩
    rcases hold k d with rfl | ⟨d1, e1, _⟩
    · rw [hbk]; intro hh; subst hh; exact fr.2.2.2.1 id l' h hsp
    · rw [e1]; exact c4 k d1
  · intro a ha
    obtain ⟨c1, c2, c3, c4⟩ := s.sCell a ha
    refine ⟨c1, c2, fun k d => ?_, c4⟩
    rcases hold k d with rfl | ⟨d1, e1, _⟩
    · rw [hbk]; intro hh; exact fr.2.2.1 a ha hh.symm
    · rw [e1]; exact c3 k d1
  · intro b' hb'
    obtain ⟨c1, c2, c3⟩ := s.protOk b' hb'
    refine ⟨c1, fun k d => ?_, c3⟩
    rcases hold k d with rfl | ⟨d1, e1, _⟩
    · rw [hbk]; intro hh; subst hh; exact fr.2.2.2.2 hb'
    · rw [e1]; exact c2 k d1

/-- Locals are forgotten (their blocks are left as they are). -/
theorem Sim.dropLoc {g : Ghost} {st : St} {loc loc' : List (Option (List TV))} {w : World} (s : Sim g st loc w) (h : ∀ (j : Nat) (x : List TV), loc'[j]? = some (some x) → loc[j]? = some (some x)) : Sim g st loc' w := by
  have hd : ∀ k, Dom st loc' k → Dom st loc k ∧ objOf st loc' k = objOf st loc k := by
    intro k d
    cases k with
    | box i => exact ⟨d, rfl⟩
    | loc i => obtain ⟨x, hx⟩ := d; exact ⟨⟨x, h i x hx⟩, by simp only [objOf, hx, h i x hx]⟩
  refine ⟨s.nb, s.nt, s.below, s.fits, fun k d => ?_, fun k k' d d' => s.inj k k' (hd k d).1 (hd k' d').1, fun k d => s.lo k (hd k d).1, s.own, ?_, s.spApart, s.spLt, ?_, ?_, s.spTop, s.spTy, s.bTy, s.glob⟩
  · rw [(hd k d).2]; exact s.obj k (hd k d).1
  · intro id b l h' hsp
    obtain ⟨c1, c2, c3, c4, c5⟩ := s.spCell id b l h' hsp
    exact ⟨c1, c2, c3, fun k d => c4 k (hd k d).1, c5⟩
  · intro a ha
    obtain ⟨c1, c2, c3, c4⟩ := s.sCell a ha
    exact ⟨c1, c2, fun k d => c3 k (hd k d).1, c4⟩
  · intro b hb
    obtain ⟨c1, c2, c3⟩ := s.protOk b hb
    exact ⟨c1, fun k d => c2 k (hd k d).1, c3⟩

end Go.TVF
