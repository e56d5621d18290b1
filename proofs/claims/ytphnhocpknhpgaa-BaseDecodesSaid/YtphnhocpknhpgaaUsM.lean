/- Base: what is decoded was encoded. -/
import Derived.Test.YtphnhocpknhpgaaUsL
set_option linter.unusedVariables false
set_option linter.unusedSimpArgs false
namespace Go.TVF
open Go Go.Proofs

theorem fnd_get : ∀ (al : List UInt8) (c : UInt8), 0 ≤ fnd al c → al.getD (fnd al c).toNat 0 = c
  | [], c, h => by simp [fnd] at h
  | a :: al, c, h => by
    by_cases ha : a = c
    · simp [fnd, ha, List.getD]
    · by_cases hn : fnd al c < 0
      · simp only [fnd, if_neg ha, if_pos hn] at h
        exact absurd h (by decide)
      · have ih := fnd_get al c (by omega)
        have e : fnd (a :: al) c = fnd al c + 1 := by simp only [fnd, if_neg ha, if_neg hn]
        rw [e, show (fnd al c + 1).toNat = (fnd al c).toNat + 1 by omega]
        simpa [List.getD] using ih
theorem bn_bit8 (f : Nat → Nat) (hf : ∀ i, f i < 2) (i j : Nat) (h : j < 8) : bn f i 8 / 2 ^ (7 - j) % 2 = f (i + j) := by
  have e := bn_add f i (j + 1) (7 - j)
  have hlt := bn_lt f hf (i + (j + 1)) (7 - j)
  rw [show j + 1 + (7 - j) = 8 by omega] at e
  rw [e, Nat.mul_comm, Nat.mul_add_div (Nat.two_pow_pos _), Nat.div_eq_of_lt hlt, Nat.add_zero, bn]
  have := hf (i + j)
  omega
theorem bitL_bys (f : Nat → Nat) (hf : ∀ i, f i < 2) (m i : Nat) (h : i < 8 * m) : bitL (bys f m) i = f i := by
  have hlt := bn_lt f hf (8 * (i / 8)) 8
  have hg : (bys f m).getD (i / 8) 0 = UInt8.ofNat (bn f (8 * (i / 8)) 8) := by
    simp [List.getD, bys, show i / 8 < m by omega]
  rw [bitL, hg]
  have : (UInt8.ofNat (bn f (8 * (i / 8)) 8)).toNat = bn f (8 * (i / 8)) 8 := by
    simp [UInt8.toNat_ofNat]; omega
  rw [this, bn_bit8 f hf _ _ (Nat.mod_lt _ (by decide)), show 8 * (i / 8) + i % 8 = i by omega]
theorem bn_zero' (f : Nat → Nat) (i : Nat) : ∀ m, bn f i m = 0 → ∀ j, j < m → f (i + j) = 0
  | 0, _, j, h => absurd h (Nat.not_lt_zero _)
  | m + 1, h0, j, h => by
    rw [bn] at h0
    by_cases hj : j = m
    · subst hj; omega
    · exact bn_zero' f i m (by omega) j (by omega)

theorem lead_le : ∀ s : List UInt8, lead s ≤ s.length := fun s => by
  have := congrArg List.length (List.takeWhile_append_dropWhile (p := isD) (l := s))
  rw [List.length_append] at this
  unfold lead; omega
theorem lead_dig : ∀ (s : List UInt8) (j : Nat), j < lead s → 0 ≤ fnd bstr8 (s.getD j 0)
  | [], j, h => by simp [lead] at h
  | a :: s, j, h => by
    by_cases ha : isD a = true
    · cases j with
      | zero => simpa [isD, List.getD] using ha
      | succ j =>
        have : lead (a :: s) = lead s + 1 := by simp [lead, List.takeWhile, ha]
        have := lead_dig s j (by omega)
        simpa [List.getD] using this
    · have : lead (a :: s) = 0 := by simp [lead, List.takeWhile, ha]
      omega

theorem ndig_back (n : Nat) (k1 : n % 4 ≠ 1) : ndig (6 * n / 8) = n := by
  obtain ⟨q, hq⟩ : ∃ q, q = n / 4 := ⟨_, rfl⟩
  unfold ndig
  rcases (by omega : n % 4 = 0 ∨ n % 4 = 2 ∨ n % 4 = 3) with r | r | r
  · have h1 : n = 4 * q := by omega
    have h2 : 6 * n / 8 = 3 * q := by omega
    rw [h2]; omega
  · have h1 : n = 4 * q + 2 := by omega
    have h2 : 6 * n / 8 = 3 * q + 1 := by omega
    rw [h2]; omega
  · have h1 : n = 4 * q + 3 := by omega
    have h2 : 6 * n / 8 = 3 * q + 2 := by omega
    rw [h2]; omega

theorem enc_dec (s : List UInt8) (pad : Bool) (h : (decP s (lead s) pad).2 = 0) : encR pad (decP s (lead s) pad).1 = s := by
  have hle := lead_le s
  have hdig := lead_dig s
  generalize lead s = n at *
  by_cases hall : allEq s n pad
  · rw [decP, if_pos hall, DS_bits] at h ⊢
    dsimp only at h ⊢
    have key : n % 4 ≠ 1 → bn (bitS s) (8 * (6 * n / 8)) (6 * n % 8) = 0 → (s.length - n = if pad = true then (4 - n % 4) % 4 else 0) → encR pad (bys (bitS s) (6 * n / 8)) = s := fun k1 k2 k3 => by
      have hnd : ndig (6 * n / 8) = n := ndig_back n k1
      rw [encR_eq, bys_len, hnd]
      have hbit : ∀ i, i < 6 * n → bitL (bys (bitS s) (6 * n / 8)) i = bitS s i := fun i hi => by
        by_cases hi8 : i < 8 * (6 * n / 8)
        · exact bitL_bys _ (bitS_lt s) _ _ hi8
        · rw [bitL_out _ _ (by rw [bys_len]; omega)]
          have := bn_zero' _ _ _ k2 (i - 8 * (6 * n / 8)) (by omega)
          rw [show 8 * (6 * n / 8) + (i - 8 * (6 * n / 8)) = i by omega] at this
          exact this.symm
      have hd : digs (bys (bitS s) (6 * n / 8)) n = s.take n := by
        apply List.ext_getElem
        · simp [digs]; omega
        · intro i h1 h2
          have hin : i < n := by simpa [digs] using h1
          simp only [digs, List.getElem_map, List.getElem_range, List.getElem_take]
          have hg : s.getD i 0 = s[i] := by simp [List.getD, show i < s.length by omega]
          rw [ltr, dg_bn, bn_congr _ (bitS s) _ _ (fun j j1 j2 => hbit j (by omega)), bn_digit, v64, fnd_get _ _ (hdig i hin), hg]
      have hp : padsOf pad n = s.drop n := by
        apply List.ext_getElem
        · rw [padsOf_len, List.length_drop, k3]
        · intro i h1 h2
          have e1 := (pads_get pad n i h1).1
          have h2' : i < s.length - n := by simpa using h2
          have e2 := (hall (n + i) (by omega) (by omega)).1
          simp only [List.getD, List.getElem?_eq_getElem h1, Option.getD_some] at e1
          rw [e1, List.getElem_drop]
          simp only [List.getD, List.getElem?_eq_getElem (show n + i < s.length by omega), Option.getD_some] at e2
          exact e2.symm
      rw [hd, hp, List.take_append_drop]
    have hpad : pad = false → s.length - n = 0 := fun hp => by
      by_cases hlt : n < s.length
      · have := (hall n (Nat.le_refl _) hlt).2
        rw [hp] at this; cases this
      · omega
    unfold fin at h ⊢
    cases pad
    · have hp0 := hpad rfl
      simp only [Bool.false_eq_true, if_false, false_and, or_false] at h key ⊢
      split
      · refine key (by omega) ?_ (by omega)
        rw [show 6 * n % 8 = 0 by omega]; rfl
      · rename_i c1
        rw [if_neg c1] at h
        split at h
        · simp at h
        · rename_i c2
          rw [if_neg c2]
          split at h
          · simp at h
          · rename_i c3
            rw [if_neg c3]
            exact key (by omega) (by omega) (by omega)
    · simp only [if_true, true_and] at h key ⊢
      split
      · refine key (by omega) ?_ (by omega)
        rw [show 6 * n % 8 = 0 by omega]; rfl
      · rename_i c1
        rw [if_neg c1] at h
        split at h
        · simp at h
        · rename_i c2
          rw [if_neg c2]
          split at h
          · simp at h
          · rename_i c3
            rw [if_neg c3]
            exact key (by omega) (by omega) (by omega)
  · rw [decP, if_neg hall] at h
    simp at h
end Go.TVF
