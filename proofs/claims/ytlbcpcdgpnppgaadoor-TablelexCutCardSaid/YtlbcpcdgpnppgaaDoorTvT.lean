/- A law's call: its arguments, and its answer. -/
import Derived.Test.YtlbcpcdgpnppgaaDoorTvS
import Derived.Deep.Slices
import Derived.WideShapes
import Derived.ChangeArms
import Derived.OpenShut
set_option linter.unusedVariables false
set_option linter.unusedSimpArgs false
namespace Go.TVF
open Go.RowKit (Below)

theorem bool_ret {r : TV} {st' : St} (h : decRet [.one .bool] r (fun (b : Bool) (_ : St) => b = true) (fun p => p st')) : r = .bool true := by
  cases r <;> simp only [decRet, decRs, decT] at h <;> first | exact h.elim | skip
  subst h; rfl

theorem calls_law {P : Program} {f : FuncId} {args : List TV} (hcall : ∀ (vs : Array Value) (w : World), (callFunc f vs).run P w = .ok (.enter f vs) w) (h : CallT P f args [.one .bool] St.zero (fun r _ => r = true)) (w : World) (hG : ∀ w', Below w.heap.size w w' → GlobOK w') (vargs : List Value) (hr : RelL (Ghost.start w) w args vargs) :
    Calls P f vargs.toArray w fun e w' => e = .returned (.bool true) ∧ Below w.heap.size w w' :=
  calls_true hcall (TCalls.mono h fun r st' hd => bool_ret hd) w hG vargs hr

theorem rel_string (g : Ghost) (w : World) (s : ByteArray) : Rel g w (.str s.data.toList) (.string s) := by
  have := Rel.str (g := g) (w := w) s.data.toList
  simpa using this

/-! Slices that came in, their elements of integers, booleans and strings. -/
def flatIs : List CTy → List TV → Prop
  | [], xs => xs = []
  | .int k :: cs, xs => ∃ n ys, xs = .int k n :: ys ∧ (Lit.int k n).wf = true ∧ flatIs cs ys
  | .str :: cs, xs => ∃ l ys, xs = .str l :: ys ∧ l.length ≤ maxLen ∧ flatIs cs ys
  | .bool :: cs, xs => ∃ b ys, xs = .bool b :: ys ∧ flatIs cs ys
  | .tv :: _, _ => False

def CellTy (P : Program) : CTy → TypeId → Prop
  | .int k, t => P.underlying t = some (.int k)
  | .bool, t => P.underlying t = some .bool
  | .str, t => P.underlying t = some .string
  | .tv, _ => False

def FieldsTy (P : Program) : List CTy → List Field → Nat → Prop
  | [], [], _ => True
  | c :: cs, f :: fs, o => f.offset = o ∧ P.cellsOf f.type = 1 ∧ CellTy P c f.type ∧ FieldsTy P cs fs (o + 1)
  | _, _, _ => False

section
variable {H : Type} {enc : TypeId × Value → H} {P : Program} {w : World} {base : Nat} {sp : Nat → Bool} {held : Bool}

theorem open_cell {c : CTy} {t : TypeId} {fuel : Nat} {cs : List Value} {x : DataW H × List MemPlace} (g : Ghost) (hc : CellTy P c t) (h : DataW.trod enc P w base sp held fuel t cs = some x) :
    ∃ v u, cs = [u] ∧ Rel g w v u ∧ flatIs [c] [v] := by
  cases c with
  | int k =>
    obtain ⟨n, rfl, _, hw⟩ := DataW.trod_int hc h
    exact ⟨_, _, rfl, .int k n, n, [], rfl, hw, rfl⟩
  | bool =>
    obtain ⟨b, rfl, _⟩ := DataW.trod_bool hc h
    exact ⟨_, _, rfl, .bool b, b, [], rfl, rfl⟩
  | str =>
    obtain ⟨s, rfl, _, hs⟩ := DataW.trod_string hc h
    exact ⟨_, _, rfl, rel_string g w s, _, [], rfl, by rw [Array.length_toList]; exact hs, rfl⟩
  | tv => exact hc.elim

theorem flatIs.cons {c : CTy} {cs : List CTy} {v : TV} {xs : List TV} (h : flatIs [c] [v]) (k : flatIs cs xs) : flatIs (c :: cs) (v :: xs) := by
  cases c with
  | int _ =>
    obtain ⟨n, ys, h1, h2, _⟩ := h
    simp only [List.cons.injEq] at h1
    exact ⟨n, xs, by rw [h1.1], h2, k⟩
  | bool =>
    obtain ⟨b, ys, h1, _⟩ := h
    simp only [List.cons.injEq] at h1
    exact ⟨b, xs, by rw [h1.1], k⟩
  | str =>
    obtain ⟨l, ys, h1, h2, _⟩ := h
    simp only [List.cons.injEq] at h1
    exact ⟨l, xs, by rw [h1.1], h2, k⟩
  | tv => exact h.elim

theorem open_fields {n : Nat} {vs : List Value} (g : Ghost) : ∀ (cs : List CTy) (fs : List Field) (o : Nat) (xs : List (DataW H × List MemPlace)), FieldsTy P cs fs o → xs.length = fs.length → vs.length = o + cs.length →
    (∀ (i : Nat) (f : Field), fs[i]? = some f → DataW.trod enc P w base sp held n f.type ((vs.drop f.offset).take (P.cellsOf f.type)) = xs[i]?) → ∃ tv, RelL g w tv (vs.drop o) ∧ flatIs cs tv
  | [], [], o, xs, _, _, hl, _ => ⟨[], by rw [List.drop_of_length_le (by simp at hl; omega)]; exact .nil _ _, rfl⟩
  | c :: cs, f :: fs, o, [], _, hx, _, _ => by simp at hx
  | c :: cs, f :: fs, o, x :: xs, ht, hx, hl, hd => by
    obtain ⟨h1, h2, h3, h4⟩ := ht
    have hd0 := hd 0 f rfl
    rw [h1, h2] at hd0
    obtain ⟨v, u, hu, hr, hf⟩ := open_cell g h3 hd0
    obtain ⟨tv, hr', hf'⟩ := open_fields (n := n) (vs := vs) g cs fs (o + 1) xs h4 (by simpa using hx) (by simp at hl; omega) (fun i f' hi => by simpa using hd (i + 1) f' (by simpa using hi))
    refine ⟨v :: tv, ?_, hf.cons hf'⟩
    have hlt : o < vs.length := by simp at hl; omega
    rw [List.drop_eq_getElem_cons hlt]
    rw [List.drop_eq_getElem_cons hlt] at hu
    simp only [List.take_succ_cons, List.take_zero, List.cons.injEq] at hu
    rw [hu.1]
    exact .cons hr hr'
  | [], f :: fs, o, xs, ht, _, _, _ => ht.elim
  | c :: cs, [], o, xs, ht, _, _, _ => ht.elim

theorem add_plain0 (b off i : Nat) : (⟨b, off, none⟩ : Addr).add i = ⟨b, off + i, none⟩ := by
  unfold Addr.add; split
  · rename_i h; subst h; rfl
  · rfl

/-- How the cells of a type's element are opened. -/
def Opens (enc : TypeId × Value → H) (P : Program) (w : World) (base : Nat) (sp : Nat → Bool) (held : Bool) (cs : List CTy) (e : TypeId) : Prop :=
  ∀ (g : Ghost) n vs x, DataW.trod enc P w base sp held n e vs = some x → ∃ tv, RelL g w tv vs ∧ flatIs cs tv

theorem opens_cell {c : CTy} {e : TypeId} (h : CellTy P c e) : Opens enc P w base sp held [c] e := fun g n vs x hd => by
  obtain ⟨v, u, rfl, hr, hf⟩ := open_cell g h hd
  exact ⟨[v], .cons hr (.nil _ _), hf⟩

theorem opens_struct {cs : List CTy} {e : TypeId} {fs : Array Field} (ht : P.underlying e = some (.struct fs)) (hf : FieldsTy P cs fs.toList 0) (hc : P.cellsOf e = cs.length) : Opens enc P w base sp held cs e := fun g n vs x hd => by
  obtain ⟨xs, m, rfl, _, hl, hx, hi⟩ := DataW.trod_struct ht hd
  have := open_fields (enc := enc) (P := P) (w := w) (base := base) (sp := sp) (held := held) (n := m) (vs := vs) g cs fs.toList 0 xs hf (by simpa using hx) (by omega) (fun i f h => hi i f (by simpa using h))
  simpa using this

/-- A slice that came in. -/
def SlIs (cs : List CTy) (v : TV) : Prop :=
  v = .nilSlice ∨ ∃ n xs, v = .list cs.length .non n xs ∧ (n : Int) ≤ 9223372036854775807 ∧ xs.length = n * cs.length ∧ ∀ i, i < n → flatIs cs ((xs.drop (i * cs.length)).take cs.length)

theorem open_flat {cs : List CTy} {t e : TypeId} {a : Option Addr} {len cap b0 fuel : Nat} {x : DataW H × List MemPlace} (ht : P.underlying t = some (.slice e)) (hc : P.cellsOf e = cs.length) (hE : Opens enc P w base sp held cs e)
    (hval : Value.okWide P w .any b0 t (.slice a len cap)) (h : DataW.trod enc P w base sp held fuel t [.slice a len cap] = some x) : ∃ v, Rel (Ghost.start w) w v (.slice a len cap) ∧ SlIs cs v := by
  have hcell : Cell.ok P w .any b0 t (.slice a len cap) := by
    have := hval
    simp only [Value.okWide, ht, Cell.okWide] at this
    exact this
  rcases Deep.open_slice ht h with ⟨h0, _⟩ | ⟨a', len', cap', m, n, D, Pl, h0, hb, hl, hm, hmm, rfl, hx⟩
  · simp only [List.cons.injEq, and_true] at h0
    rw [h0]
    exact ⟨_, .nilSlice, .inl rfl⟩
  · simp only [List.cons.injEq, Value.slice.injEq, and_true] at h0
    obtain ⟨rfl, rfl, rfl⟩ := h0
    simp only [Cell.ok, ht] at hcell
    obtain ⟨_, hcap, _, hspot, _⟩ := hcell
    obtain ⟨b, o, spot⟩ := a'
    simp only at hspot
    subst hspot
    have hlm : len ≤ m := by rw [hmm]; split <;> omega
    have each : ∀ i, i < len → ∃ tv vs, RelL (Ghost.start w) w tv vs ∧ flatIs cs tv ∧ vs.length = cs.length ∧ ∀ j, j < cs.length → w.cell? ⟨b, o + (i * cs.length + j), none⟩ = some (vs.getD j Go.undef) := by
      intro i hi
      obtain ⟨vs, h1, h2⟩ := hx i (by omega)
      obtain ⟨tv, hr, hf⟩ := hE (Ghost.start w) n vs _ h2
      obtain ⟨_, hvl, hvc⟩ := World.cells?_some h1
      rw [hc] at hvl hvc
      refine ⟨tv, vs, hr, hf, hvl, fun j hj => ?_⟩
      have := hvc j hj
      rw [Deep.add_add, add_plain0] at this
      rw [this]
      simp [List.getD, show j < vs.length by omega]
    have hfl : ∀ (cs : List CTy) (xs : List TV), flatIs cs xs → xs.length = cs.length := by
      intro cs
      induction cs with
      | nil => intro xs h; rw [h]; rfl
      | cons c cs ih =>
        intro xs h
        cases c with
        | int k => obtain ⟨n, ys, rfl, _, h⟩ := h; simp [ih _ h]
        | bool => obtain ⟨b, ys, rfl, h⟩ := h; simp [ih _ h]
        | str => obtain ⟨l, ys, rfl, _, h⟩ := h; simp [ih _ h]
        | tv => exact h.elim
    -- the first k elements
    have build : ∀ k, k ≤ len → ∃ xs : List TV, xs.length = k * cs.length ∧ (∀ i, i < k → flatIs cs ((xs.drop (i * cs.length)).take cs.length)) ∧ ∀ i (h : i < xs.length), ∃ u, w.cell? ⟨b, o + i, none⟩ = some u ∧ Rel (Ghost.start w) w xs[i] u := by
      intro k
      induction k with
      | zero => intro _; exact ⟨[], by simp, fun i hi => absurd hi (Nat.not_lt_zero _), fun i h => absurd h (Nat.not_lt_zero _)⟩
      | succ k ih =>
        intro hk
        obtain ⟨xs, h1, h2, h3⟩ := ih (by omega)
        obtain ⟨tv, vs, hr, hf, hvl, hvc⟩ := each k (by omega)
        have htl := hfl _ _ hf
        refine ⟨xs ++ tv, by rw [List.length_append, h1, htl, Nat.succ_mul], fun i hi => ?_, fun i h => ?_⟩
        · by_cases hik : i < k
          · have hle : i * cs.length + cs.length ≤ xs.length := by
              rw [h1, ← Nat.succ_mul]; exact Nat.mul_le_mul_right _ hik
            rw [List.drop_append_of_le_length (by omega), List.take_append_of_le_length (by simp; omega)]
            exact h2 i hik
          · have : i = k := by omega
            subst this
            rw [← h1, List.drop_left, List.take_of_length_le (by omega)]
            exact hf
        · by_cases hix : i < xs.length
          · rw [List.getElem_append_left hix]; exact h3 i hix
          · rw [List.getElem_append_right (by omega)]
            rw [List.length_append] at h
            have hj : i - xs.length < tv.length := by omega
            refine ⟨vs.getD (i - xs.length) Go.undef, ?_, hr.2 _ hj⟩
            have := hvc (i - xs.length) (by omega)
            rw [show o + i = o + (k * cs.length + (i - xs.length)) by rw [← h1]; omega]
            exact this
    obtain ⟨xs, h1, h2, h3⟩ := build len (Nat.le_refl _)
    refine ⟨.list cs.length .non len xs, ?_, .inr ⟨len, xs, rfl, ?_, h1, h2⟩⟩
    · have hu : ∀ i, ∃ u, (h : i < xs.length) → w.cell? ⟨b, o + i, none⟩ = some u ∧ Rel (Ghost.start w) w xs[i] u := fun i => by
        by_cases h : i < xs.length
        · obtain ⟨u, hu⟩ := h3 i h
          exact ⟨u, fun _ => hu⟩
        · exact ⟨Go.undef, fun h' => absurd h' h⟩
      refine .list _ _ _ _ b o cap (fun i => Classical.choose (hu i)) h1 hl (fun i hi => ?_) (fun i hi => (Classical.choose_spec (hu i) hi).2) trivial
      have := (Classical.choose_spec (hu i) hi).1
      exact ⟨⟨rfl, _, this⟩, this⟩
    · have : (maxLen : Int) ≤ 9223372036854775807 := by decide
      omega
end
end Go.TVF
