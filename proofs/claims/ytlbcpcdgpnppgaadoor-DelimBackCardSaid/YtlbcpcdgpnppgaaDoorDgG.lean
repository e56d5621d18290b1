/- What the laws below rest on: a framework for Go programs, and contracts of the functions that they reach. -/
import Derived.Test.YtlbcpcdgpnppgaaDoorDgF
section
namespace Go.TVF
open Go Go.Proofs
set_option linter.unusedVariables false
theorem SlS.kids {v : TV} (h : SlS 5 (fun tv => ∃ nd, NdC nd tv) v) : ∃ ks xs, Rd 5 v ks.length xs ∧ KidsC ks xs := by
  rcases h with rfl | ⟨cks, rfl, h⟩
  · exact ⟨[], [], .inl ⟨rfl, rfl, rfl⟩, by unfold KidsC; rfl⟩
  · have : ∃ ks : List Nd, ks.length = cks.length ∧ KidsC ks cks.flatten := by
      induction cks with
      | nil => exact ⟨[], rfl, by unfold KidsC; rfl⟩
      | cons c r ih =>
        obtain ⟨ks, h1, h2⟩ := ih (fun ck hk => h ck (.tail _ hk))
        obtain ⟨_, nd, hn⟩ := h c (.head _)
        exact ⟨nd :: ks, by simp [h1], by unfold KidsC; exact ⟨c, _, by simp, hn, h2⟩⟩
    obtain ⟨ks, h1, h2⟩ := this
    exact ⟨ks, _, .inr ⟨.non, by rw [h1]⟩, h2⟩
def nodeS : List (List TV → Prop) := [flatIs [.int .i64], flatIs [.str], flatIs [.str], fun tv => ∃ v, tv = [v] ∧ SlS 5 (fun tv => ∃ nd, NdC nd tv) v, flatIs [.str]]
theorem each_node {tv : List TV} (h : EachS nodeS tv) : ∃ nd, NdC nd tv := by
  obtain ⟨_, _, rfl, ⟨k, _, h1, _, _⟩, _, _, rfl, ⟨l, _, h2, _, _⟩, _, _, rfl, ⟨t, _, h3, _, _⟩, _, _, rfl, ⟨v, h4, hs⟩, _, _, rfl, ⟨tl, _, h5, _, _⟩, rfl⟩ := h
  simp only [List.cons.injEq] at h1 h2 h3 h4 h5
  obtain ⟨rfl, _⟩ := h1
  obtain ⟨rfl, _⟩ := h2
  obtain ⟨rfl, _⟩ := h3
  obtain ⟨rfl, _⟩ := h4
  obtain ⟨rfl, _⟩ := h5
  obtain ⟨ks, xs, h6, h7⟩ := hs.kids
  exact ⟨.mk k l t ks tl, by unfold NdC; exact ⟨_, xs, rfl, h6, h7⟩⟩
/-- A chunk of one cell that is a string. -/
theorem one_str {ck : List TV} (h : flatIs [.str] ck) : ∃ s, ck = [.str s] := by
  obtain ⟨s, ys, rfl, _, rfl⟩ := h
  exact ⟨s, rfl⟩
theorem SlS.row {v : TV} (h : SlS 1 (flatIs [.str]) v) : ∃ row : List (List UInt8), RowR TV.str v row := by
  rcases h with rfl | ⟨cks, rfl, h⟩
  · exact ⟨[], .inl ⟨rfl, rfl, rfl⟩⟩
  · have : ∃ row : List (List UInt8), row.length = cks.length ∧ cks.flatten = row.map TV.str := by
      induction cks with
      | nil => exact ⟨[], rfl, rfl⟩
      | cons c r ih =>
        obtain ⟨row, h1, h2⟩ := ih (fun ck hk => h ck (.tail _ hk))
        obtain ⟨s, rfl⟩ := one_str (h c (.head _)).2
        exact ⟨s :: row, by simp [h1], by simp [h2]⟩
    obtain ⟨row, h1, h2⟩ := this
    exact ⟨row, .inr ⟨.non, by rw [h1, h2]⟩⟩
theorem SlS.grid {v : TV} (h : SlS 1 (fun tv => ∃ u, tv = [u] ∧ SlS 1 (flatIs [.str]) u) v) : ∃ rows, GridR TV.str v rows := by
  rcases h with rfl | ⟨cks, rfl, h⟩
  · exact ⟨[], GridR.nil _⟩
  · have : ∃ (rows : List (List (List UInt8))), rows.length = cks.length ∧ cks.flatten.length = rows.length ∧ ∀ (i : Nat) (u : TV) (row : List (List UInt8)), cks.flatten[i]? = some u → rows[i]? = some row → RowR TV.str u row := by
      induction cks with
      | nil => exact ⟨[], rfl, rfl, fun i u row h => by simp at h⟩
      | cons c r ih =>
        obtain ⟨rows, h1, h2, h3⟩ := ih (fun ck hk => h ck (.tail _ hk))
        obtain ⟨_, u, rfl, hu⟩ := h c (.head _)
        obtain ⟨row, hr⟩ := hu.row
        refine ⟨row :: rows, by simp [h1], by simp at h2 ⊢; omega, fun i x y hx hy => ?_⟩
        cases i with
        | zero =>
          simp at hx hy
          rw [← hx, ← hy]; exact hr
        | succ i => exact h3 i x y (by simpa using hx) (by simpa using hy)
    obtain ⟨rows, h1, h2, h3⟩ := this
    exact ⟨rows, cks.flatten, .inr ⟨.non, by rw [h1]⟩, h2, h3⟩
/-- The looks of the arguments of the laws. -/
def IsNode (v : TV) : Prop := ∃ nd cs, v = .agg cs ∧ NdC nd cs
def IsGrid (v : TV) : Prop := ∃ rows, GridR TV.str v rows
section
variable {H : Type} {enc : TypeId × Value → H} {P : Program} {w : World} {base b0 : Nat} {held : Bool}
/-- A record by value. -/
theorem open_node {t : TypeId} {fs : Array Field} {v : Value} {d : DataW H} {p : List MemPlace} (ht : P.underlying t = some (.struct fs)) (hop : ∀ n, Op enc P w base held n 5 (fun tv => ∃ nd, NdC nd tv) t)
    (hval : Value.okWide P w .any b0 t v) (h : DataW.Trod enc P w base (fun _ => true) held t v d p) : ∃ tv, Rel (Ghost.start w) w tv v ∧ IsNode tv := by
  simp only [Value.okWide, ht] at hval
  obtain ⟨vs, rfl, _, _⟩ := hval
  obtain ⟨n, hn⟩ := h
  obtain ⟨cs, hr, _, nd, hnd⟩ := (hop n).2 _ _ hn
  have := Rel.agg cs vs.toList hr.1 hr.2
  rw [Array.toArray_toList] at this
  exact ⟨_, this, nd, cs, rfl, hnd⟩
theorem open_grid {t e : TypeId} {v : Value} {d : DataW H} {p : List MemPlace} (ht : P.underlying t = some (.slice e)) (hop : ∀ n, Op enc P w base held n 1 (fun tv => ∃ v, tv = [v] ∧ SlS 1 (fun tv => ∃ u, tv = [u] ∧ SlS 1 (flatIs [.str]) u) v) t)
    (hval : Value.okWide P w .any b0 t v) (h : DataW.Trod enc P w base (fun _ => true) held t v d p) : ∃ tv, Rel (Ghost.start w) w tv v ∧ IsGrid tv := by
  obtain ⟨n, hn⟩ := h
  have hv : v.cells.toList = [v] := by
    simp only [Value.okWide, ht, Cell.okWide, Cell.ok] at hval
    split at hval <;> first | rfl | (simp_all) | exact hval.elim
  rw [hv] at hn
  obtain ⟨cs, hr, _, u, rfl, hs⟩ := (hop n).2 _ _ hn
  obtain ⟨rows, hg⟩ := hs.grid
  exact ⟨u, hr.2 0 (by simp), rows, hg⟩
end
end Go.TVF
end
