/- Base: the reference's bytes. -/
import Derived.Test.YtphnhocpknhpgaaUsO
import Derived.Test.YtphnhocpknhpgaaVcM
set_option linter.unusedVariables false
set_option linter.unusedSimpArgs false
namespace Go.TVF
open Go Go.Proofs

/-- The bits below i; zeros from there. -/
def msk (f : Nat → Nat) (i j : Nat) : Nat := if j < i then f j else 0
theorem msk_lt (f : Nat → Nat) (hf : ∀ i, f i < 2) (i j : Nat) : msk f i j < 2 := by unfold msk; split <;> simp [hf]
theorem msk_all (f : Nat → Nat) (n : Nat) : bys (msk f (8 * n)) n = bys f n := bys_congr _ _ _ fun j hj => by simp [msk, hj]

theorem bn_msk_other (f : Nat → Nat) (i q : Nat) (h : q ≠ i / 8) : bn (msk f (i + 1)) (8 * q) 8 = bn (msk f i) (8 * q) 8 :=
  bn_congr _ _ _ _ fun j h1 h2 => by
    unfold msk
    by_cases hj : j < i
    · rw [if_pos hj, if_pos (by omega)]
    · rw [if_neg hj, if_neg (by omega)]
theorem bn_msk_low (f : Nat → Nat) (i : Nat) : bn (msk f i) (8 * (i / 8)) 8 = bn f (8 * (i / 8)) (i % 8) * 2 ^ (8 - i % 8) := by
  have e := bn_add (msk f i) (8 * (i / 8)) (i % 8) (8 - i % 8)
  rw [show i % 8 + (8 - i % 8) = 8 by omega] at e
  rw [e, bn_zero (msk f i) (8 * (i / 8) + i % 8) (8 - i % 8) (fun j hj => by unfold msk; rw [if_neg (by omega)]), Nat.add_zero, bn_congr _ f _ _ (fun j h1 h2 => by unfold msk; rw [if_pos (by omega)])]
theorem bn_msk_at (f : Nat → Nat) (i : Nat) : bn (msk f (i + 1)) (8 * (i / 8)) 8 = bn f (8 * (i / 8)) (i % 8) * 2 ^ (8 - i % 8) + f i * 2 ^ (7 - i % 8) := by
  have e := bn_add (msk f (i + 1)) (8 * (i / 8)) (i % 8 + 1) (7 - i % 8)
  rw [show i % 8 + 1 + (7 - i % 8) = 8 by omega] at e
  rw [e, bn_zero _ _ (7 - i % 8) (fun j hj => by unfold msk; rw [if_neg (by omega)]), Nat.add_zero, bn_congr _ f _ _ (fun j h1 h2 => by unfold msk; rw [if_pos (by omega)]), bn, show 8 * (i / 8) + i % 8 = i by omega, Nat.add_mul, show 8 - i % 8 = (7 - i % 8) + 1 by omega, Nat.pow_succ, Nat.mul_assoc, Nat.mul_comm 2]
theorem or_msk (f : Nat → Nat) (hf : ∀ i, f i < 2) (i : Nat) : bitsI .or .u8 ((bn (msk f i) (8 * (i / 8)) 8 : Nat) : Int) ((f i * 2 ^ (7 - i % 8) : Nat) : Int) = ((bn (msk f (i + 1)) (8 * (i / 8)) 8 : Nat) : Int) := by
  have h1 := bn_lt _ (msk_lt f hf i) (8 * (i / 8)) 8
  have h2 := bn_lt _ (msk_lt f hf (i + 1)) (8 * (i / 8)) 8
  rw [bn_msk_at] at h2 ⊢
  rw [bn_msk_low] at h1 ⊢
  have hb : f i * 2 ^ (7 - i % 8) < 2 ^ (8 - i % 8) := by
    have := hf i
    rw [show 8 - i % 8 = (7 - i % 8) + 1 by omega, Nat.pow_succ, Nat.mul_comm (2 ^ _)]
    exact Nat.mul_lt_mul_of_pos_right this (Nat.two_pow_pos _)
  have hp8 : 2 ^ (8 - i % 8) ≤ 2 ^ 8 := Nat.pow_le_pow_right (by decide) (by omega)
  generalize i % 8 = r at *
  generalize bn f (8 * (i / 8)) r = X at *
  generalize hY : f i * 2 ^ (7 - r) = Y at *
  show IntKind.wrap .u8 ((BitVec.ofInt 8 _ ||| BitVec.ofInt 8 _).toNat : Int) = _
  simp only [BitVec.ofInt_natCast, BitVec.toNat_or, BitVec.toNat_ofNat]
  rw [Nat.mod_eq_of_lt h1, Nat.mod_eq_of_lt (show Y < 2 ^ 8 by omega), Nat.mul_comm X, ← Nat.two_pow_add_eq_or_of_lt hb]
  rw [Nat.mul_comm X] at h2
  rw [wrapU8 _ (by omega) (by omega)]
end Go.TVF
