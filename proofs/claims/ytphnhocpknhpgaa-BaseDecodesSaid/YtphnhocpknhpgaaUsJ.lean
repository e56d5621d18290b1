/- Base: the bits of digits. -/
import Derived.Test.YtphnhocpknhpgaaUsI
set_option linter.unusedVariables false
set_option linter.unusedSimpArgs false
namespace Go.TVF
open Go Go.Proofs

/-- A number of m bits from i on, of a run of bits. -/
def bn (f : Nat → Nat) (i : Nat) : Nat → Nat
  | 0 => 0
  | m + 1 => bn f i m * 2 + f (i + m)
theorem bn_add (f : Nat → Nat) (i a : Nat) : ∀ b, bn f i (a + b) = bn f i a * 2 ^ b + bn f (i + a) b
  | 0 => by simp [bn]
  | b + 1 => by
    rw [← Nat.add_assoc, bn, bn_add f i a b, bn, Nat.pow_succ, Nat.add_assoc i a b]
    rw [Nat.add_mul, Nat.mul_assoc]; omega
theorem bn_lt (f : Nat → Nat) (hf : ∀ i, f i < 2) (i : Nat) : ∀ m, bn f i m < 2 ^ m
  | 0 => by simp [bn]
  | m + 1 => by
    have := bn_lt f hf i m
    have := hf (i + m)
    rw [bn, Nat.pow_succ]; omega
theorem bn_congr (f g : Nat → Nat) (i : Nat) : ∀ m, (∀ j, i ≤ j → j < i + m → f j = g j) → bn f i m = bn g i m
  | 0, _ => rfl
  | m + 1, h => by rw [bn, bn, bn_congr f g i m (fun j h1 h2 => h j h1 (by omega)), h (i + m) (by omega) (by omega)]
theorem dg_bn (l : List UInt8) (i : Nat) : ∀ m, dg l i m = bn (bitL l) i m
  | 0 => rfl
  | m + 1 => by rw [dg, bn, dg_bn l i m]

/-- Bit i of the digits' text. -/
def bitS (s : List UInt8) (i : Nat) : Nat := v64 (s.getD (i / 6) 0) / 2 ^ (5 - i % 6) % 2
theorem bitS_lt (s : List UInt8) (i : Nat) : bitS s i < 2 := Nat.mod_lt _ (by decide)
theorem bitL_lt (s : List UInt8) (i : Nat) : bitL s i < 2 := Nat.mod_lt _ (by decide)

theorem bn_digit (s : List UInt8) (j : Nat) : bn (bitS s) (6 * j) 6 = v64 (s.getD j 0) := by
  have h := v64_lt' (s.getD j 0)
  simp only [bn, bitS, show 6 * j / 6 = j by omega, show 6 * j % 6 = 0 by omega, show (6 * j + 0) / 6 = j by omega, show (6 * j + 0) % 6 = 0 by omega, show (6 * j + 1) / 6 = j by omega, show (6 * j + 1) % 6 = 1 by omega, show (6 * j + 2) / 6 = j by omega, show (6 * j + 2) % 6 = 2 by omega, show (6 * j + 3) / 6 = j by omega, show (6 * j + 3) % 6 = 3 by omega, show (6 * j + 4) / 6 = j by omega, show (6 * j + 4) % 6 = 4 by omega, show (6 * j + 5) / 6 = j by omega, show (6 * j + 5) % 6 = 5 by omega]
  generalize v64 (s.getD j 0) = v at *
  simp only [Nat.reduceSub, Nat.reducePow, Nat.zero_mul, Nat.zero_add]
  omega
theorem bn_byte (l : List UInt8) (q : Nat) : bn (bitL l) (8 * q) 8 = (l.getD q 0).toNat := by
  have h := byteLe (l.getD q 0)
  simp only [bn, bitL, show (8 * q + 0) / 8 = q by omega, show (8 * q + 0) % 8 = 0 by omega, show (8 * q + 1) / 8 = q by omega, show (8 * q + 1) % 8 = 1 by omega, show (8 * q + 2) / 8 = q by omega, show (8 * q + 2) % 8 = 2 by omega, show (8 * q + 3) / 8 = q by omega, show (8 * q + 3) % 8 = 3 by omega, show (8 * q + 4) / 8 = q by omega, show (8 * q + 4) % 8 = 4 by omega, show (8 * q + 5) / 8 = q by omega, show (8 * q + 5) % 8 = 5 by omega, show (8 * q + 6) / 8 = q by omega, show (8 * q + 6) % 8 = 6 by omega, show (8 * q + 7) / 8 = q by omega, show (8 * q + 7) % 8 = 7 by omega]
  generalize (l.getD q 0).toNat = v at *
  simp only [Nat.reduceSub, Nat.reducePow, Nat.zero_mul, Nat.zero_add]
  omega

/-- The bytes that a run of bits says. -/
def bys (f : Nat → Nat) (n : Nat) : List UInt8 := (List.range n).map fun q => UInt8.ofNat (bn f (8 * q) 8)
theorem bys_succ (f : Nat → Nat) (n : Nat) : bys f (n + 1) = bys f n ++ [UInt8.ofNat (bn f (8 * n) 8)] := by simp [bys, List.range_succ]
theorem bys_len (f : Nat → Nat) (n : Nat) : (bys f n).length = n := by simp [bys]

/-- What the program's loop has, said in bits. -/
theorem DS_bits (s : List UInt8) : ∀ n, DS s n = (bys (bitS s) (6 * n / 8), bn (bitS s) (8 * (6 * n / 8)) (6 * n % 8), 6 * n % 8)
  | 0 => rfl
  | n + 1 => by
    have ih := DS_bits s n
    have hX : bn (bitS s) (8 * (6 * n / 8)) (6 * n % 8) * 64 + v64 (s.getD n 0) = bn (bitS s) (8 * (6 * n / 8)) (6 * n % 8 + 6) := by
      rw [bn_add, ← bn_digit s n, show 8 * (6 * n / 8) + 6 * n % 8 = 6 * n by omega]
    unfold DS
    rw [ih]
    dsimp only
    rw [hX]
    by_cases h8 : 8 ≤ 6 * n % 8 + 6
    · rw [if_pos h8]
      have hsplit : bn (bitS s) (8 * (6 * n / 8)) (6 * n % 8 + 6) = bn (bitS s) (8 * (6 * n / 8)) 8 * 2 ^ (6 * n % 8 - 2) + bn (bitS s) (8 * (6 * n / 8) + 8) (6 * n % 8 - 2) := by
        rw [← bn_add, show 8 + (6 * n % 8 - 2) = 6 * n % 8 + 6 by omega]
      have hlt := bn_lt (bitS s) (bitS_lt s) (8 * (6 * n / 8) + 8) (6 * n % 8 - 2)
      rw [hsplit, show 6 * (n + 1) / 8 = 6 * n / 8 + 1 by omega, show 6 * (n + 1) % 8 = 6 * n % 8 - 2 by omega, bys_succ, show 8 * (6 * n / 8 + 1) = 8 * (6 * n / 8) + 8 by omega]
      rw [Nat.mul_comm (bn (bitS s) (8 * (6 * n / 8)) 8), Nat.mul_add_div (Nat.two_pow_pos _), Nat.div_eq_of_lt hlt, Nat.add_zero, Nat.mul_add_mod, Nat.mod_eq_of_lt hlt]
    · rw [if_neg h8, show 6 * (n + 1) / 8 = 6 * n / 8 by omega, show 6 * (n + 1) % 8 = 6 * n % 8 + 6 by omega]
end Go.TVF
