/- Base: the two encodings are one. -/
import Derived.Test.YtphnhocpknhpgaaUsH
set_option linter.unusedVariables false
set_option linter.unusedSimpArgs false
namespace Go.TVF
open Go Go.Proofs

theorem bitL_drop (l : List UInt8) (i : Nat) : bitL (l.drop 3) i = bitL l (24 + i) := by
  unfold bitL
  rw [show (24 + i) / 8 = 3 + i / 8 by omega, show (24 + i) % 8 = i % 8 by omega]
  simp [List.getD]
theorem dg_drop (l : List UInt8) (i : Nat) : ∀ m, dg (l.drop 3) i m = dg l (24 + i) m
  | 0 => rfl
  | m + 1 => by rw [dg, dg, dg_drop l i m, bitL_drop, Nat.add_assoc]
theorem ltr_drop (l : List UInt8) (j : Nat) : ltr (l.drop 3) j = ltr l (4 + j) := by
  rw [ltr, ltr, dg_drop, show 24 + 6 * j = 6 * (4 + j) by omega]
theorem digs_drop (l : List UInt8) (n : Nat) : digs l (4 + n) = digs l 4 ++ digs (l.drop 3) n := by
  unfold digs
  rw [List.range_add, List.map_append, List.map_map]
  congr 1
  exact List.map_congr_left fun j _ => (ltr_drop l j).symm

theorem W3 (d : List UInt8) : W d 3 = ((d.getD 0 0).toNat * 256 + (d.getD 1 0).toNat) * 256 + (d.getD 2 0).toNat := by
  simp [W]
theorem dg6 (l : List UInt8) (i : Nat) : dg l i 6 = ((((bitL l i * 2 + bitL l (i + 1)) * 2 + bitL l (i + 2)) * 2 + bitL l (i + 3)) * 2 + bitL l (i + 4)) * 2 + bitL l (i + 5) := by
  simp [dg]
theorem six (x s : Nat) : x / 2 ^ s % 64 = ((((x / 2 ^ (s + 5) % 2 * 2 + x / 2 ^ (s + 4) % 2) * 2 + x / 2 ^ (s + 3) % 2) * 2 + x / 2 ^ (s + 2) % 2) * 2 + x / 2 ^ (s + 1) % 2) * 2 + x / 2 ^ s % 2 := by
  rw [Nat.pow_add, Nat.pow_add, Nat.pow_add, Nat.pow_add, Nat.pow_add, ← Nat.div_div_eq_div_mul, ← Nat.div_div_eq_div_mul, ← Nat.div_div_eq_div_mul, ← Nat.div_div_eq_div_mul, ← Nat.div_div_eq_div_mul]
  generalize x / 2 ^ s = y
  simp only [Nat.reducePow]
  omega
theorem bitW (d : List UInt8) (j : Nat) (h : j < 24) : W d 3 / 2 ^ (23 - j) % 2 = bitL d j := by
  have ha := byteLe (d.getD 0 0)
  have hb := byteLe (d.getD 1 0)
  have hc := byteLe (d.getD 2 0)
  have hw : W d 3 = 2 ^ 16 * (d.getD 0 0).toNat + (2 ^ 8 * (d.getD 1 0).toNat + (d.getD 2 0).toNat) := by rw [W3]; omega
  unfold bitL
  rw [hw, ← Nat.toNat_testBit, ← Nat.toNat_testBit, Nat.testBit_two_pow_mul_add _ (by omega)]
  by_cases h1 : j < 8
  · rw [if_neg (by omega), show j / 8 = 0 by omega, show 23 - j - 16 = 7 - j % 8 by omega]
  · rw [if_pos (by omega), Nat.testBit_two_pow_mul_add _ (by omega)]
    by_cases h2 : j < 16
    · rw [if_neg (by omega), show j / 8 = 1 by omega, show 23 - j - 8 = 7 - j % 8 by omega]
    · rw [if_pos (by omega), show j / 8 = 2 by omega, show 23 - j = 7 - j % 8 by omega]
theorem word_dig (d : List UInt8) (k : Nat) (h : k < 4) : W d 3 / 2 ^ (18 - 6 * k) % 64 = dg d (6 * k) 6 := by
  rw [six, dg6, ← bitW d _ (by omega), ← bitW d _ (by omega), ← bitW d _ (by omega), ← bitW d _ (by omega), ← bitW d _ (by omega), ← bitW d _ (by omega)]
  rw [show 18 - 6 * k + 5 = 23 - 6 * k by omega, show 18 - 6 * k + 4 = 23 - (6 * k + 1) by omega, show 18 - 6 * k + 3 = 23 - (6 * k + 2) by omega, show 18 - 6 * k + 2 = 23 - (6 * k + 3) by omega, show 18 - 6 * k + 1 = 23 - (6 * k + 4) by omega, show 23 - (6 * k + 5) = 18 - 6 * k by omega]

theorem grpk_dig (d : List UInt8) (pad : Bool) (k : Nat) (h : k < 4) : grpk d pad k = if k ≤ min 3 d.length then [ltr d k] else if pad = true then [61] else [] := by
  rw [grpk, word_dig d k h]; rfl
theorem grp4 (d : List UInt8) (pad : Bool) : grp d pad 4 = grpk d pad 0 ++ (grpk d pad 1 ++ (grpk d pad 2 ++ grpk d pad 3)) := by
  simp [grp, List.range_succ]
theorem digs_four (d : List UInt8) : digs d 4 = [ltr d 0, ltr d 1, ltr d 2, ltr d 3] := by simp [digs, List.range_succ]

theorem enc_eq (pad : Bool) : ∀ (n : Nat) (l : List UInt8), l.length ≤ n → encG pad l = encR pad l
  | 0, l, h => by
    have : l = [] := List.eq_nil_of_length_eq_zero (by omega)
    subst this
    rw [encG_nil]
    cases pad <;> simp [encR, digs, ndig]
  | n + 1, l, h => by
    by_cases h0 : 0 < l.length
    · rw [encG_step pad l h0, enc_eq pad n _ (by simp; omega), grp4]
      rw [grpk_dig l pad 0 (by decide), grpk_dig l pad 1 (by decide), grpk_dig l pad 2 (by decide), grpk_dig l pad 3 (by decide)]
      by_cases h3 : 3 ≤ l.length
      · rw [if_pos (by omega), if_pos (by omega), if_pos (by omega), if_pos (by omega)]
        unfold encR
        have hn : ndig l.length = 4 + ndig (l.drop 3).length := by unfold ndig; simp; omega
        rw [hn, digs_drop, digs_four, show (4 + ndig (l.drop 3).length) % 4 = ndig (l.drop 3).length % 4 by omega]
        simp
      · have hd : l.drop 3 = [] := List.drop_of_length_le (by omega)
        have he : encR pad [] = [] := by cases pad <;> simp [encR, digs, ndig]
        rw [hd, he]
        rcases (by omega : l.length = 1 ∨ l.length = 2) with h1 | h1
        · unfold encR
          rw [h1]
          cases pad <;> simp [ndig, digs, List.range_succ, List.replicate]
        · unfold encR
          rw [h1]
          cases pad <;> simp [ndig, digs, List.range_succ, List.replicate]
    · have : l = [] := List.eq_nil_of_length_eq_zero (by omega)
      subst this
      rw [encG_nil]
      cases pad <;> simp [encR, digs, ndig]

theorem encodes_ok {b : TV} (hb : SlIs [.int .u8] b) (n : Int) : CallT Try.prog 7 [b, .int .i64 n] [.one (.bool)] St.zero (fun r _ => r = true) := by
  obtain ⟨l, hl⟩ := bytes_of hb
  refine vc7 b n St.zero _ (need_intro hl.isSl ?_)
  rw [hl.lenS]
  refine BIf_intro (fun _ => awakeB_ok fun _ => rfl) fun h1 => ?_
  refine enc_ok hl (by omega) fun st1 _ => enc_ok hl (by omega) fun st2 _ => renc_ok hl (by omega) fun st3 _ => BIf_intro (fun _ => ?_) fun hh => absurd (enc_eq false _ l (Nat.le_refl _)) hh
  refine renc_ok hl (by omega) fun st4 _ => BIf_intro (fun _ => ?_) fun hh => absurd (enc_eq true _ l (Nat.le_refl _)) hh
  refine size_ok (rsize_ok (BIf_intro (fun _ => ?_) fun hh => absurd rfl hh))
  refine size_ok (rsize_ok (BIf_intro (fun _ => ?_) fun hh => absurd rfl hh))
  exact awakeB_ok fun _ => rfl
end Go.TVF
