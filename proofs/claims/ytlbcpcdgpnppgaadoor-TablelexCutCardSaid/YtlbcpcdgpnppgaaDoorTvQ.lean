/- Code: what 'cwp' says is what the model does. -/
import Derived.Test.YtlbcpcdgpnppgaaDoorTvP
set_option linter.unusedVariables false
set_option linter.unusedSimpArgs false
namespace Go.TVF
open Go.RowKit (Below)

section
variable {P : Program} {g : Ghost} {st : St} {w : World}

/-! What is kept of a frame is weaker than the frame. -/

theorem look_sound {s : Nat} {f : Nat → TV} : ∀ {ps : List (Nat × CTy)} {rest : List TV} {v : TV}, look s ps (ps.map (fun p => f p.1) ++ rest) = some v → v = f s
  | [], rest, v, h => by cases rest <;> simp [look] at h
  | p :: ps, rest, v, h => by
    simp only [List.map_cons, List.cons_append, look] at h
    split at h
    · rename_i hb; simp only [Option.some.injEq] at h; rw [← h, Nat.eq_of_beq_eq_true hb]
    · exact look_sound h

theorem lookC_sound {i o : Nat} {f : Nat → Nat → TV} : ∀ {ps : List (Nat × Nat × CTy)} {v : TV}, lookC i o ps (ps.map fun p => f p.1 p.2.1) = some v → v = f i o
  | [], v, h => by simp [lookC] at h
  | p :: ps, v, h => by
    simp only [List.map_cons, lookC] at h
    split at h
    · rename_i hb
      simp only [Bool.and_eq_true] at hb
      simp only [Option.some.injEq] at h; rw [← h, Nat.eq_of_beq_eq_true hb.1, Nat.eq_of_beq_eq_true hb.2]
    · exact lookC_sound h

theorem lookP_mem {s : Nat} : ∀ {ps : List (Nat × Nat × Nat)} {q : Nat × Nat}, lookP s ps = some q → (s, q) ∈ ps
  | [], q, h => by simp [lookP] at h
  | p :: ps, q, h => by
    simp only [lookP] at h
    split at h
    · rename_i hb; simp only [Option.some.injEq] at h; subst h; rw [← Nat.eq_of_beq_eq_true hb]; simp
    · exact List.mem_cons_of_mem _ (lookP_mem h)

theorem lookL_mem {s : Nat} : ∀ {ps : List (Nat × Nat)} {q : Nat}, lookL s ps = some q → (s, q) ∈ ps
  | [], q, h => by simp [lookL] at h
  | p :: ps, q, h => by
    simp only [lookL] at h
    split at h
    · rename_i hb; simp only [Option.some.injEq] at h; subst h; rw [← Nat.eq_of_beq_eq_true hb]; simp
    · exact List.mem_cons_of_mem _ (lookL_mem h)

theorem mkSlots_len (k : Keep) (vals : List TV) : ∀ n s, (mkSlots k vals n s).length = n
  | 0, s => rfl
  | n + 1, s => by simp [mkSlots, mkSlots_len k vals n]
theorem mkSlots_get (k : Keep) (vals : List TV) : ∀ n s i, i < n → (mkSlots k vals n s)[i]? = some (slotAt k vals (s + i))
  | 0, s, i, h => absurd h (Nat.not_lt_zero _)
  | n + 1, s, 0, h => by simp [mkSlots]
  | n + 1, s, i + 1, h => by
    simp only [mkSlots, List.getElem?_cons_succ]
    rw [mkSlots_get k vals n (s + 1) i (by omega), show s + 1 + i = s + (i + 1) from by omega]
theorem mkCells_len (k : Keep) (vals : List TV) (i : Nat) : ∀ n o, (mkCells k vals i n o).length = n
  | 0, o => rfl
  | n + 1, o => by simp [mkCells, mkCells_len k vals i n]
theorem mkCells_get (k : Keep) (vals : List TV) (i : Nat) : ∀ n o j, j < n → (mkCells k vals i n o)[j]? = some (cellAt k vals i (o + j))
  | 0, o, j, h => absurd h (Nat.not_lt_zero _)
  | n + 1, o, 0, h => by simp [mkCells]
  | n + 1, o, j + 1, h => by
    simp only [mkCells, List.getElem?_cons_succ]
    rw [mkCells_get k vals i n (o + 1) j (by omega), show o + 1 + j = o + (j + 1) from by omega]
theorem mkLoc_get (k : Keep) (vals : List TV) : ∀ n s i x, (mkLoc k vals n s)[i]? = some (some x) → ∃ m, lookL (s + i) k.locs = some m ∧ x = mkCells k vals (s + i) m 0
  | 0, s, i, x, h => by simp [mkLoc] at h
  | n + 1, s, 0, x, h => by
    simp only [mkLoc, List.getElem?_cons_zero, Option.some.injEq] at h
    split at h
    · rename_i m hm; simp only [Option.some.injEq] at h; exact ⟨m, by simpa using hm, by simpa using h.symm⟩
    · cases h
  | n + 1, s, i + 1, x, h => by
    simp only [mkLoc, List.getElem?_cons_succ] at h
    obtain ⟨m, h1, h2⟩ := mkLoc_get k vals n (s + 1) i x h
    rw [show s + 1 + i = s + (i + 1) from by omega] at h1 h2
    exact ⟨m, h1, h2⟩

theorem mkLoc_some (k : Keep) (vals : List TV) : ∀ n s i m, i < n → lookL (s + i) k.locs = some m → (mkLoc k vals n s)[i]? = some (some (mkCells k vals (s + i) m 0))
  | 0, s, i, m, h, _ => absurd h (Nat.not_lt_zero _)
  | n + 1, s, 0, m, h, hm => by simp only [mkLoc, List.getElem?_cons_zero, Nat.add_zero] at hm ⊢; rw [hm]
  | n + 1, s, i + 1, m, h, hm => by
    simp only [mkLoc, List.getElem?_cons_succ]
    have := mkLoc_some k vals n (s + 1) i m (by omega) (by rw [show s + 1 + i = s + (i + 1) from by omega]; exact hm)
    rw [show s + 1 + i = s + (i + 1) from by omega] at this
    exact this

theorem Sim.weakLoc {loc loc' : List (Option (List TV))} (s : Sim g st loc w) (h : ∀ (j : Nat) (x' : List TV), loc'[j]? = some (some x') → ∃ x, loc[j]? = some (some x) ∧ x'.length = x.length ∧ ∀ i (hi : i < x'.length), x'[i]? = x[i]? ∨ x'[i]? = some .junk) : Sim g st loc' w := by
  have hd : ∀ k, Dom st loc' k → Dom st loc k := by
    intro k d
    cases k with
    | box i => exact d
    | loc i => obtain ⟨x', hx'⟩ := d; obtain ⟨x, hx, _⟩ := h i x' hx'; exact ⟨x, hx⟩
  refine ⟨s.nb, s.nt, s.below, s.fits, fun k d => ?_, fun k k' d d' => s.inj k k' (hd k d) (hd k' d'), fun k d => s.lo k (hd k d), s.own, ?_, s.spApart, s.spLt, ?_, ?_, s.spTop, s.spTy, s.bTy, s.glob⟩
  · cases k with
    | box i => exact s.obj (.box i) d
    | loc i =>
      obtain ⟨x', hx'⟩ := d
      obtain ⟨x, hx, hlen, hel⟩ := h i x' hx'
      have := s.obj (.loc i) ⟨x, hx⟩
      simp only [objOf, hx] at this
      simp only [objOf, hx']
      obtain ⟨cs, hc, hr⟩ := this
      refine ⟨cs, hc, hlen.trans hr.1, fun j hj => ?_⟩
      rcases hel j hj with e | e
      · have hj' : j < x.length := hlen ▸ hj
        rw [List.getElem?_eq_getElem hj, List.getElem?_eq_getElem hj'] at e
        simp only [Option.some.injEq] at e
        rw [e]; exact hr.2 j hj'
      · rw [List.getElem?_eq_getElem hj] at e
        simp only [Option.some.injEq] at e
        rw [e]; exact .junk _
  · intro id b l h' hsp
    obtain ⟨c1, c2, c3, c4, c5⟩ := s.spCell id b l h' hsp
    exact ⟨c1, c2, c3, fun k d => c4 k (hd k d), c5⟩
  · intro a ha
    obtain ⟨c1, c2, c3, c4⟩ := s.sCell a ha
    exact ⟨c1, c2, fun k d => c3 k (hd k d), c4⟩
  · intro b hb
    obtain ⟨c1, c2, c3⟩ := s.protOk b hb
    exact ⟨c1, fun k d => c2 k (hd k d), c3⟩

theorem Keep.weak {k : Keep} {fr : Fr} {tmps : Array Value} {ns nl : Nat} (hk : k.ok nl fr = true) (s : Sim g st fr.loc w) (hf : FRel g w fr tmps) (hn : tmps.size = ns) :
    Sim g st (k.frame ns nl (k.vals fr)).loc w ∧ FRel g w (k.frame ns nl (k.vals fr)) tmps := by
  simp only [Keep.ok, Bool.and_eq_true, List.all_eq_true] at hk
  obtain ⟨hp, hl⟩ := hk
  have hvals : (k.vals fr).drop k.slots.length = k.cells.map fun p => cellTV fr p.1 p.2.1 := by
    unfold Keep.vals
    rw [List.drop_append_of_le_length (by simp)]
    simp
  have hloc : ∀ (j : Nat) (x' : List TV), (mkLoc k (k.vals fr) nl 0)[j]? = some (some x') → ∃ x, fr.loc[j]? = some (some x) ∧ x'.length = x.length ∧ ∀ i (hi : i < x'.length), x'[i]? = x[i]? ∨ x'[i]? = some .junk := by
    intro j x' hx'
    obtain ⟨m, hm, rfl⟩ := mkLoc_get _ _ _ _ _ _ hx'
    rw [Nat.zero_add] at hm
    have hsz := hl _ (lookL_mem hm)
    unfold isSize at hsz
    simp only at hsz
    split at hsz
    · rename_i x hx
      have hxl := Nat.eq_of_beq_eq_true hsz
      refine ⟨x, hx, by rw [mkCells_len]; exact hxl.symm, fun i hi => ?_⟩
      have him : i < m := by rw [mkCells_len] at hi; exact hi
      rw [mkCells_get _ _ _ _ _ _ him, Nat.zero_add, Nat.zero_add]
      unfold cellAt
      rw [hvals]
      cases hc : lookC j i k.cells (k.cells.map fun p => cellTV fr p.1 p.2.1) with
      | none => exact .inr rfl
      | some v =>
        have := lookC_sound (f := cellTV fr) hc
        left
        have hix : i < x.length := by omega
        simp only [this, cellTV, hx, List.getD_eq_getElem?_getD, List.getElem?_eq_getElem hix, Option.getD_some]
    · cases hsz
  refine ⟨s.weakLoc hloc, ?_, fun i hi => ?_⟩
  · show (mkSlots _ _ _ _).length = _
    rw [mkSlots_len, hn]
  · have hin : i < ns := by have := hi; simp only [Keep.frame, mkSlots_len] at this; exact this
    have hif : i < fr.slots.length := by rw [hf.1, hn]; exact hin
    have hget : (k.frame ns nl (k.vals fr)).slots[i] = slotAt k (k.vals fr) i := by
      have := mkSlots_get k (k.vals fr) ns 0 i hin
      rw [Nat.zero_add, List.getElem?_eq_getElem (by rw [mkSlots_len]; exact hin)] at this
      simpa [Keep.frame] using this
    rw [hget]
    have hold := hf.2 i hif
    unfold slotAt
    split
    · rename_i v hv
      have hv' : look i k.slots (k.slots.map (fun p => slotTV fr p.1) ++ k.cells.map fun p => cellTV fr p.1 p.2.1) = some v := hv
      have := look_sound (f := slotTV fr) hv'
      rw [this]
      show Rel g w (slotTV fr i) _
      unfold slotTV
      rw [List.getD_eq_getElem?_getD, List.getElem?_eq_getElem hif, Option.getD_some]
      exact hold.tv
    · split
      · rename_i q hq
        obtain ⟨hpi, hloc2⟩ := hp _ (lookP_mem hq)
        unfold hasLoc at hloc2
        unfold isLocAt at hpi
        simp only at hpi
        split at hpi
        · rename_i j p hs
          simp only [Bool.and_eq_true] at hpi
          have e1 := Nat.eq_of_beq_eq_true hpi.1
          have e2 := Nat.eq_of_beq_eq_true hpi.2
          rw [List.getElem?_eq_getElem hif] at hs
          simp only [Option.some.injEq] at hs
          rw [hs] at hold
          obtain ⟨⟨x, hx⟩, hv⟩ := hold
          split at hloc2
          · rename_i m hm
            have hlt := Nat.le_of_ble_eq_true hloc2
            simp only at hlt hm
            have := mkLoc_some k (k.vals fr) nl 0 q.1 m (by omega) (by rw [Nat.zero_add]; exact hm)
            exact ⟨⟨_, this⟩, by rw [hv, e1, e2]⟩
          · cases hloc2
        · cases hpi
      · exact Rel.junk _

end
end Go.TVF
