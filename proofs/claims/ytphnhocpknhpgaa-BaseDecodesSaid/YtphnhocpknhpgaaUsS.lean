/- Base: the two decodings are one. -/
import Derived.Test.YtphnhocpknhpgaaUsR
set_option linter.unusedVariables false
set_option linter.unusedSimpArgs false
namespace Go.TVF
open Go Go.Proofs

theorem bitS_take (s : List UInt8) (n i : Nat) (h : i < 6 * n) : bitS (s.take n) i = bitS s i := by
  unfold bitS
  have : (s.take n).getD (i / 6) 0 = s.getD (i / 6) 0 := by simp [List.getD, List.getElem?_take, show i / 6 < n by omega]
  rw [this]
theorem refB_eq (s : List UInt8) (n : Nat) : refB s n = bys (bitS s) (6 * n / 8) := bys_congr _ _ _ fun j hj => bitS_take s n j (by omega)

/-- The digits again, where nothing is left over. -/
theorem digs_back (s : List UInt8) (n : Nat) (hn : n ≤ s.length) (hdig : ∀ j, j < n → 0 ≤ fnd bstr8 (s.getD j 0)) (k2 : bn (bitS s) (8 * (6 * n / 8)) (6 * n % 8) = 0) : digs (bys (bitS s) (6 * n / 8)) n = s.take n := by
  have hbit : ∀ i, i < 6 * n → bitL (bys (bitS s) (6 * n / 8)) i = bitS s i := fun i hi => by
    by_cases hi8 : i < 8 * (6 * n / 8)
    · exact bitL_bys _ (bitS_lt s) _ _ hi8
    · rw [bitL_out _ _ (by rw [bys_len]; omega)]
      have := bn_zero' _ _ _ k2 (i - 8 * (6 * n / 8)) (by omega)
      rw [show 8 * (6 * n / 8) + (i - 8 * (6 * n / 8)) = i by omega] at this
      exact this.symm
  apply List.ext_getElem
  · simp [digs]; omega
  · intro i h1 h2
    have hin : i < n := by simpa [digs] using h1
    simp only [digs, List.getElem_map, List.getElem_range, List.getElem_take]
    have hg : s.getD i 0 = s[i] := by simp [List.getD, show i < s.length by omega]
    rw [ltr, dg_bn, bn_congr _ (bitS s) _ _ (fun j j1 j2 => hbit j (by omega)), bn_digit, v64, fnd_get _ _ (hdig i hin), hg]

theorem fin_zero (k eq w : Nat) (pad : Bool) (o : List UInt8) (h : (fin k eq w pad o).2 = 0) : (fin k eq w pad o).1 = o := by
  unfold fin at h ⊢
  by_cases c1 : k % 4 = 0 ∧ eq = 0
  · rw [if_pos c1]
  · rw [if_neg c1] at h ⊢
    by_cases c2 : 0 < eq ∧ (k % 4 < 2 ∨ 4 - k % 4 < eq ∨ w ≠ 0)
    · rw [if_pos c2] at h; exact absurd h (by decide)
    · rw [if_neg c2] at h ⊢
      by_cases c3 : k % 4 = 1 ∨ w ≠ 0 ∨ (pad = true ∧ eq < 4 - k % 4)
      · rw [if_pos c3] at h; exact absurd h (by decide)
      · rw [if_neg c3]
theorem decP_zero (s : List UInt8) (k : Nat) (pad : Bool) (h : (decP s k pad).2 = 0) : (decP s k pad).1 = bys (bitS s) (6 * k / 8) := by
  by_cases c : allEq s k pad
  · rw [decP, if_pos c] at h ⊢
    rw [fin_zero _ _ _ _ _ h, DS_bits]
  · rw [decP, if_neg c] at h; exact absurd h (by show ¬ (3 : Int) = 0; decide)

theorem ref_eq (s : List UInt8) (pad : Bool) : refP s (lead s) pad = decP s (lead s) pad := by
  have hT1 := enc_dec s pad
  have hbad := decP_bad s (lead s) pad
  have hz := decP_zero s (lead s) pad
  unfold refP
  rw [refB_eq]
  by_cases hT : encR pad (bys (bitS s) (6 * lead s / 8)) = s
  · rw [if_pos hT]
    have := dec_enc pad (bys (bitS s) (6 * lead s / 8))
    rw [hT] at this
    exact this.symm
  · rw [if_neg hT]
    have h0 : (decP s (lead s) pad).2 ≠ 0 := fun h => hT (by rw [← hz h]; exact hT1 h)
    obtain ⟨b1, b2⟩ := hbad h0
    have pair : ∀ r, (decP s (lead s) pad).2 = r → ([], r) = decP s (lead s) pad := fun r hr => by
      rw [← b1, ← hr]
    by_cases hn : lead s = s.length
    · rw [if_pos hn]
      refine pair 4 ?_
      rcases b2 with h3 | h4
      · exfalso
        have hall : allEq s (lead s) pad := fun j j1 j2 => absurd j2 (by omega)
        rw [decP, if_pos hall] at h3
        unfold fin at h3
        split at h3
        · simp at h3
        · rw [if_neg (by omega)] at h3
          split at h3 <;> simp at h3
      · exact h4
    · rw [if_neg hn]
      by_cases hp : s.length < (encR pad (bys (bitS s) (6 * lead s / 8))).length ∧ (encR pad (bys (bitS s) (6 * lead s / 8))).take s.length = s
      · rw [if_pos hp]
        refine pair 4 ?_
        obtain ⟨m, _, h⟩ := dec_cut pad (bys (bitS s) (6 * lead s / 8)) s.length (by omega)
        rw [hp.2] at h
        rcases h with h | h
        · exact absurd h h0
        · exact h
      · rw [if_neg hp]
        refine pair 3 ?_
        rcases b2 with h3 | h4
        · exact h3
        · exfalso
          have hle := lead_le s
          by_cases hall : allEq s (lead s) pad
          · have hpad : pad = true := (hall (lead s) (Nat.le_refl _) (by omega)).2
            subst hpad
            rw [decP, if_pos hall, DS_bits] at h4
            dsimp only at h4
            unfold fin at h4
            split at h4
            · simp at h4
            · split at h4
              · simp at h4
              · rename_i c2
                split at h4
                · rename_i c3
                  simp only [true_and] at c3
                  have k1 : lead s % 4 ≠ 1 := by omega
                  have k2 : bn (bitS s) (8 * (6 * lead s / 8)) (6 * lead s % 8) = 0 := by omega
                  have hd := digs_back s (lead s) hle (lead_dig s) k2
                  apply hp
                  rw [encR_eq, bys_len, ndig_back _ k1, hd]
                  refine ⟨by rw [List.length_append, padsOf_len]; simp; omega, ?_⟩
                  rw [List.take_append, List.length_take, Nat.min_eq_left hle, List.take_of_length_le (by simp; omega)]
                  have ht : (padsOf true (lead s)).take (s.length - lead s) = s.drop (lead s) := by
                    apply List.ext_getElem
                    · rw [List.length_take, padsOf_len, List.length_drop]; simp; omega
                    · intro i g1 g2
                      have g2' : i < s.length - lead s := by simpa using g2
                      have g1' : i < (padsOf true (lead s)).length := by rw [List.length_take] at g1; omega
                      have e1 := (pads_get true (lead s) i g1').1
                      have e2 := (hall (lead s + i) (by omega) (by omega)).1
                      simp only [List.getD, List.getElem?_eq_getElem g1', Option.getD_some] at e1
                      simp only [List.getD, List.getElem?_eq_getElem (show lead s + i < s.length by omega), Option.getD_some] at e2
                      rw [List.getElem_take, e1, List.getElem_drop, e2]
                  rw [ht, List.take_append_drop]
                · simp at h4
          · rw [decP, if_neg hall] at h4
            simp at h4
end Go.TVF
