/- Numbers and bytes; UTF-8 as arithmetic. -/
import Derived.Test.YtlbcpcdgpnppgaaDoorTvT
import Derived.Lib.DecodeN
set_option linter.unusedVariables false
set_option linter.unusedSimpArgs false
namespace Go.TVF
open Go

/-! Bits. -/
theorem or_i64 (x y : Nat) (hx : x < 2 ^ 63) (hy : y < 2 ^ 63) : bitsI .or .i64 (x : Int) (y : Int) = ((x ||| y : Nat) : Int) := by
  have h : x ||| y < 2 ^ 63 := Nat.or_lt_two_pow hx hy
  show IntKind.wrap .i64 ((BitVec.ofInt 64 (x : Int) ||| BitVec.ofInt 64 (y : Int)).toNat : Int) = _
  simp only [BitVec.ofInt_natCast, BitVec.toNat_or, BitVec.toNat_ofNat]
  rw [Nat.mod_eq_of_lt (by omega), Nat.mod_eq_of_lt (by omega), wrap64 _ (by omega) (by omega)]
theorem and_i64 (x y : Nat) (hx : x < 2 ^ 63) (hy : y < 2 ^ 63) : bitsI .and .i64 (x : Int) (y : Int) = ((x &&& y : Nat) : Int) := by
  have h : x &&& y < 2 ^ 63 := Nat.and_lt_two_pow _ hy
  show IntKind.wrap .i64 ((BitVec.ofInt 64 (x : Int) &&& BitVec.ofInt 64 (y : Int)).toNat : Int) = _
  simp only [BitVec.ofInt_natCast, BitVec.toNat_and, BitVec.toNat_ofNat]
  rw [Nat.mod_eq_of_lt (by omega), Nat.mod_eq_of_lt (by omega), wrap64 _ (by omega) (by omega)]
theorem and_u8 (x y : Nat) (hx : x < 2 ^ 8) (hy : y < 2 ^ 8) : bitsI .and .u8 (x : Int) (y : Int) = ((x &&& y : Nat) : Int) := by
  have h : x &&& y < 2 ^ 8 := Nat.and_lt_two_pow _ hy
  show IntKind.wrap .u8 ((BitVec.ofInt 8 (x : Int) &&& BitVec.ofInt 8 (y : Int)).toNat : Int) = _
  simp only [BitVec.ofInt_natCast, BitVec.toNat_and, BitVec.toNat_ofNat]
  rw [Nat.mod_eq_of_lt (by omega), Nat.mod_eq_of_lt (by omega), wrapU8 _ (by omega) (by omega)]
theorem or_add (a b m : Nat) (hb : b < 2 ^ m) (h : a * 2 ^ m + b < 2 ^ 63) : bitsI .or .i64 ((a * 2 ^ m : Nat) : Int) (b : Int) = ((a * 2 ^ m + b : Nat) : Int) := by
  have hb' : b < 2 ^ 63 := by omega
  rw [or_i64 _ _ (by omega) hb', Nat.mul_comm a, Nat.two_pow_add_eq_or_of_lt hb]
theorem and_mask (a m : Nat) (ha : a < 2 ^ 63) (hm : m < 63) : bitsI .and .i64 (a : Int) ((2 ^ m - 1 : Nat) : Int) = ((a % 2 ^ m : Nat) : Int) := by
  have : 2 ^ m < 2 ^ 63 := Nat.pow_lt_pow_right (by decide) hm
  rw [and_i64 _ _ ha (by omega), Nat.and_two_pow_sub_one_eq_mod]
theorem byteLe (x : UInt8) : x.toNat ≤ 255 := by have := x.toNat_lt; omega
theorem wrapB8 (n : Nat) (h : n ≤ 255) : IntKind.wrap .i64 (n : Int) = n := wrap64 _ (by omega) (by omega)
theorem byteOf (n : Nat) (h : n < 256) : byteT (UInt8.ofNat n) = .int .u8 (n : Int) := by
  simp [byteT, UInt8.toNat_ofNat, Nat.mod_eq_of_lt h]
theorem getD_take {α : Type} (l : List α) (i : Nat) (d : α) (h : i < l.length) : l.take (i + 1) = l.take i ++ [l.getD i d] := by
  rw [List.take_add_one, List.getElem?_eq_getElem h, List.getD, List.getElem?_eq_getElem h]; rfl

theorem byte_eq (a c : UInt8) : ((a.toNat : Int) = (c.toNat : Int)) ↔ a = c := by
  constructor
  · intro h; exact UInt8.toNat_inj.1 (by omega)
  · intro h; rw [h]
theorem shr_i64 (x m : Nat) (h : m ≤ 64) : Int.fdiv (x : Int) (2 ^ (min m (IntKind.bits .i64))) = ((x / 2 ^ m : Nat) : Int) := by
  rw [show min m (IntKind.bits .i64) = m from Nat.min_eq_left h, show (2 : Int) ^ m = ((2 ^ m : Nat) : Int) by simp, Int.fdiv_eq_ediv_of_nonneg _ (Int.natCast_nonneg _)]
  rfl
theorem getD_drop {α : Type} (l : List α) (i j : Nat) (d : α) : (l.drop i).getD j d = l.getD (i + j) d := by
  simp [List.getD, List.getElem?_drop]
theorem drop_cons {α : Type} (l : List α) (i : Nat) (d : α) (h : i < l.length) : l.drop i = l.getD i d :: l.drop (i + 1) := by
  rw [List.drop_eq_getElem_cons h, List.getD, List.getElem?_eq_getElem h]; rfl
theorem take_drop_sub {α : Type} (l : List α) (i j : Nat) : (l.take j).drop i = (l.drop i).take (j - i) := by
  rw [List.drop_take]

/-- The number of a byte of a text (0 behind its end). -/
def bt (l : List UInt8) (i : Nat) : Nat := (l.getD i 0).toNat
theorem bt_lt (l : List UInt8) (i : Nat) : bt l i < 256 := (l.getD i 0).toNat_lt
theorem bt_drop (l : List UInt8) (i j : Nat) : bt (l.drop i) j = bt l (i + j) := by simp [bt, getD_drop]

/-- Decoding at the head: the character and how many bytes; (65533, 1) where none begins. -/
def dN (l : List UInt8) : Nat × Nat := Lib.decodeN l.length (bt l 0) (bt l 1) (bt l 2) (bt l 3)
/-- How many bytes the character at the head has; 0: none begins there. -/
def ul (l : List UInt8) : Nat := if l = [] ∨ dN l = (65533, 1) then 0 else (dN l).2
def ur (l : List UInt8) : Nat := (dN l).1

def isChar (r : Nat) : Prop := r ≤ 1114111 ∧ (r < 55296 ∨ 57343 < r)
instance (r : Nat) : Decidable (isChar r) := by unfold isChar; infer_instance
def encU (r : Nat) : List UInt8 :=
  if r < 128 then [UInt8.ofNat r] else if r < 2048 then [UInt8.ofNat (192 + r / 64), UInt8.ofNat (128 + r % 64)]
  else if r < 65536 then [UInt8.ofNat (224 + r / 4096), UInt8.ofNat (128 + r / 64 % 64), UInt8.ofNat (128 + r % 64)]
  else [UInt8.ofNat (240 + r / 262144), UInt8.ofNat (128 + r / 4096 % 64), UInt8.ofNat (128 + r / 64 % 64), UInt8.ofNat (128 + r % 64)]

theorem ofNat_eq (n : Nat) (c : UInt8) : UInt8.ofNat n = c ↔ n % 256 = c.toNat := by
  rw [← UInt8.toNat_inj]; simp
theorem take_one (l : List UInt8) (h : 1 ≤ l.length) : l.take 1 = [l.getD 0 0] := by
  rw [getD_take l 0 0 (by omega)]; rfl
theorem take_two (l : List UInt8) (h : 2 ≤ l.length) : l.take 2 = [l.getD 0 0, l.getD 1 0] := by
  rw [getD_take l 1 0 (by omega), take_one l (by omega)]; rfl
theorem take_three (l : List UInt8) (h : 3 ≤ l.length) : l.take 3 = [l.getD 0 0, l.getD 1 0, l.getD 2 0] := by
  rw [getD_take l 2 0 (by omega), take_two l (by omega)]; rfl
theorem take_four (l : List UInt8) (h : 4 ≤ l.length) : l.take 4 = [l.getD 0 0, l.getD 1 0, l.getD 2 0, l.getD 3 0] := by
  rw [getD_take l 3 0 (by omega), take_three l (by omega)]; rfl

/-- The size that a first byte announces, and its bits. -/
def rsz (b0 : Nat) : Nat := if 240 ≤ b0 then 4 else if 224 ≤ b0 then 3 else if 192 ≤ b0 then 2 else 1
def rb0 (b0 : Nat) : Nat := if 240 ≤ b0 then b0 % 8 else if 224 ≤ b0 then b0 % 16 else if 192 ≤ b0 then b0 % 32 else b0
def racc (l : List UInt8) (r0 : Nat) : Nat → Nat
  | 0 => r0
  | j + 1 => racc l r0 j * 64 + bt l (j + 1) % 64
theorem racc_lt (l : List UInt8) (r0 : Nat) (h : r0 < 256) : ∀ j, racc l r0 j < 256 * 64 ^ j
  | 0 => by simpa [racc] using h
  | j + 1 => by
    have := racc_lt l r0 h j
    have h2 := Nat.mod_lt (bt l (j + 1)) (show 0 < 64 by omega)
    simp only [racc, Nat.pow_succ]
    omega
theorem rb0_lt (b0 : Nat) (h : b0 < 256) : rb0 b0 < 256 := by
  unfold rb0
  repeat' split
  all_goals omega
theorem rsz_le (b0 : Nat) : 1 ≤ rsz b0 ∧ rsz b0 ≤ 4 := by
  unfold rsz
  repeat' split
  all_goals omega

/-- Decoding by encoding again. -/
def refU (l : List UInt8) : Nat × Nat :=
  let size := rsz (bt l 0)
  let r := racc l (rb0 (bt l 0)) (size - 1)
  if l.length < size then (0, 0) else if isChar r ∧ encU r = l.take size then (r, size) else (0, 0)

theorem cons_eq2 {a b : UInt8} {x y : List UInt8} : (a :: x = b :: y) ↔ a = b ∧ x = y := by simp

set_option maxHeartbeats 4000000 in
theorem refU_eq (l : List UInt8) (h : l ≠ []) : refU l = if ul l = 0 then (0, 0) else (ur l, ul l) := by
  have hl : 1 ≤ l.length := by cases l with | nil => exact absurd rfl h | cons a r => simp
  have h0 := bt_lt l 0
  have h1 := bt_lt l 1
  have h2 := bt_lt l 2
  have h3 := bt_lt l 3
  have e0 : (l.getD 0 0).toNat = bt l 0 := rfl
  have e1 : (l.getD 1 0).toNat = bt l 1 := rfl
  have e2 : (l.getD 2 0).toNat = bt l 2 := rfl
  have e3 : (l.getD 3 0).toNat = bt l 3 := rfl
  have hul : ul l = if dN l = (65533, 1) then 0 else (dN l).2 := by simp [ul, h]
  rw [hul, ur]
  unfold dN
  generalize hb0 : bt l 0 = b0 at *
  generalize hb1 : bt l 1 = b1 at *
  generalize hb2 : bt l 2 = b2 at *
  generalize hb3 : bt l 3 = b3 at *
  unfold refU
  simp only [hb0]
  by_cases c4 : 240 ≤ b0
  · have r4 : rsz b0 = 4 := by unfold rsz; rw [if_pos c4]
    have rb : rb0 b0 = b0 % 8 := by unfold rb0; rw [if_pos c4]
    rw [r4, rb]
    simp only [Nat.reduceSub, racc, hb1, hb2, hb3, Nat.zero_add, Nat.reduceAdd]
    by_cases hn : l.length < 4
    · rw [if_pos hn]
      have : Lib.decodeN l.length b0 b1 b2 b3 = (65533, 1) := by
        unfold Lib.decodeN
        rw [if_neg (by omega), if_neg (by omega), if_neg (by omega), if_neg (by omega)]
      rw [this]; simp
    · rw [if_neg hn]
      have hEnc : (isChar (((b0 % 8 * 64 + b1 % 64) * 64 + b2 % 64) * 64 + b3 % 64) ∧ encU (((b0 % 8 * 64 + b1 % 64) * 64 + b2 % 64) * 64 + b3 % 64) = l.take 4) ↔ (b0 / 8 = 30 ∧ b1 / 64 = 2 ∧ b2 / 64 = 2 ∧ b3 / 64 = 2 ∧ 65536 ≤ ((b0 % 8 * 64 + b1 % 64) * 64 + b2 % 64) * 64 + b3 % 64 ∧ ((b0 % 8 * 64 + b1 % 64) * 64 + b2 % 64) * 64 + b3 % 64 ≤ 1114111) := by
        rw [take_four l (by omega)]
        generalize hr : ((b0 % 8 * 64 + b1 % 64) * 64 + b2 % 64) * 64 + b3 % 64 = r
        unfold isChar encU
        by_cases k1 : r < 128
        · rw [if_pos k1]; simp; omega
        · rw [if_neg k1]
          by_cases k2 : r < 2048
          · rw [if_pos k2]; simp; omega
          · rw [if_neg k2]
            by_cases k3 : r < 65536
            · rw [if_pos k3]; simp; omega
            · rw [if_neg k3]
              simp only [cons_eq2, ofNat_eq, e0, e1, e2, e3, and_true]
              omega
      by_cases hE : b0 / 8 = 30 ∧ b1 / 64 = 2 ∧ b2 / 64 = 2 ∧ b3 / 64 = 2 ∧ 65536 ≤ ((b0 % 8 * 64 + b1 % 64) * 64 + b2 % 64) * 64 + b3 % 64 ∧ ((b0 % 8 * 64 + b1 % 64) * 64 + b2 % 64) * 64 + b3 % 64 ≤ 1114111
      · rw [if_pos (hEnc.2 hE)]
        have : Lib.decodeN l.length b0 b1 b2 b3 = (((b0 % 8 * 64 + b1 % 64) * 64 + b2 % 64) * 64 + b3 % 64, 4) := by
          unfold Lib.decodeN
          rw [if_neg (by omega), if_neg (by omega), if_neg (by omega), if_pos (by omega), if_pos (by omega)]
          simp only [Prod.mk.injEq, and_true]; omega
        rw [this]; simp
      · rw [if_neg (fun hh => hE (hEnc.1 hh))]
        have : Lib.decodeN l.length b0 b1 b2 b3 = (65533, 1) := by
          unfold Lib.decodeN
          rw [if_neg (by omega), if_neg (by omega), if_neg (by omega)]
          split
          · rw [if_neg (by omega)]
          · rfl
        rw [this]; simp
  · by_cases c3 : 224 ≤ b0
    · have r4 : rsz b0 = 3 := by unfold rsz; rw [if_neg c4, if_pos c3]
      have rb : rb0 b0 = b0 % 16 := by unfold rb0; rw [if_neg c4, if_pos c3]
      rw [r4, rb]
      simp only [Nat.reduceSub, racc, hb1, hb2, Nat.zero_add, Nat.reduceAdd]
      by_cases hn : l.length < 3
      · rw [if_pos hn]
        have : Lib.decodeN l.length b0 b1 b2 b3 = (65533, 1) := by
          unfold Lib.decodeN
          rw [if_neg (by omega), if_neg (by omega), if_neg (by omega), if_neg (by omega)]
        rw [this]; simp
      · rw [if_neg hn]
        have hEnc : (isChar ((b0 % 16 * 64 + b1 % 64) * 64 + b2 % 64) ∧ encU ((b0 % 16 * 64 + b1 % 64) * 64 + b2 % 64) = l.take 3) ↔ (b1 / 64 = 2 ∧ b2 / 64 = 2 ∧ 2048 ≤ (b0 % 16 * 64 + b1 % 64) * 64 + b2 % 64 ∧ isChar ((b0 % 16 * 64 + b1 % 64) * 64 + b2 % 64)) := by
          rw [take_three l (by omega)]
          generalize hr : (b0 % 16 * 64 + b1 % 64) * 64 + b2 % 64 = r
          unfold isChar encU
          by_cases k1 : r < 128
          · rw [if_pos k1]; simp; omega
          · rw [if_neg k1]
            by_cases k2 : r < 2048
            · rw [if_pos k2]; simp; omega
            · rw [if_neg k2]
              by_cases k3 : r < 65536
              · rw [if_pos k3]
                simp only [cons_eq2, ofNat_eq, e0, e1, e2, and_true]
                omega
              · omega
        by_cases hE : b1 / 64 = 2 ∧ b2 / 64 = 2 ∧ 2048 ≤ (b0 % 16 * 64 + b1 % 64) * 64 + b2 % 64 ∧ isChar ((b0 % 16 * 64 + b1 % 64) * 64 + b2 % 64)
        · rw [if_pos (hEnc.2 hE)]
          have : Lib.decodeN l.length b0 b1 b2 b3 = ((b0 % 16 * 64 + b1 % 64) * 64 + b2 % 64, 3) := by
            unfold isChar at hE
            unfold Lib.decodeN
            rw [if_neg (by omega), if_neg (by omega), if_pos (by omega), if_pos (by omega)]
            simp only [Prod.mk.injEq, and_true]; omega
          rw [this]; simp
        · rw [if_neg (fun hh => hE (hEnc.1 hh))]
          have : Lib.decodeN l.length b0 b1 b2 b3 = (65533, 1) := by
            unfold isChar at hE
            unfold Lib.decodeN
            rw [if_neg (by omega), if_neg (by omega)]
            split
            · rw [if_neg (by omega)]
            · rw [if_neg (by omega)]
          rw [this]; simp
    · by_cases c2 : 192 ≤ b0
      · have r4 : rsz b0 = 2 := by unfold rsz; rw [if_neg c4, if_neg c3, if_pos c2]
        have rb : rb0 b0 = b0 % 32 := by unfold rb0; rw [if_neg c4, if_neg c3, if_pos c2]
        rw [r4, rb]
        simp only [Nat.reduceSub, racc, hb1, Nat.zero_add, Nat.reduceAdd]
        by_cases hn : l.length < 2
        · rw [if_pos hn]
          have : Lib.decodeN l.length b0 b1 b2 b3 = (65533, 1) := by
            unfold Lib.decodeN
            rw [if_neg (by omega), if_neg (by omega), if_neg (by omega), if_neg (by omega)]
          rw [this]; simp
        · rw [if_neg hn]
          have hEnc : (isChar (b0 % 32 * 64 + b1 % 64) ∧ encU (b0 % 32 * 64 + b1 % 64) = l.take 2) ↔ (b1 / 64 = 2 ∧ 128 ≤ b0 % 32 * 64 + b1 % 64) := by
            rw [take_two l (by omega)]
            generalize hr : b0 % 32 * 64 + b1 % 64 = r
            unfold isChar encU
            by_cases k1 : r < 128
            · rw [if_pos k1]; simp; omega
            · rw [if_neg k1, if_pos (by omega)]
              simp only [cons_eq2, ofNat_eq, e0, e1, and_true]
              omega
          by_cases hE : b1 / 64 = 2 ∧ 128 ≤ b0 % 32 * 64 + b1 % 64
          · rw [if_pos (hEnc.2 hE)]
            have : Lib.decodeN l.length b0 b1 b2 b3 = (b0 % 32 * 64 + b1 % 64, 2) := by
              unfold Lib.decodeN
              rw [if_neg (by omega), if_pos (by omega), if_pos (by omega)]
            rw [this]; simp
          · rw [if_neg (fun hh => hE (hEnc.1 hh))]
            have : Lib.decodeN l.length b0 b1 b2 b3 = (65533, 1) := by
              unfold Lib.decodeN
              rw [if_neg (by omega)]
              split
              · rw [if_neg (by omega)]
              · rw [if_neg (by omega), if_neg (by omega)]
            rw [this]; simp
      · have r4 : rsz b0 = 1 := by unfold rsz; rw [if_neg c4, if_neg c3, if_neg c2]
        have rb : rb0 b0 = b0 := by unfold rb0; rw [if_neg c4, if_neg c3, if_neg c2]
        rw [r4, rb]
        simp only [Nat.reduceSub, racc]
        rw [if_neg (by omega), take_one l hl]
        have hEnc : (isChar b0 ∧ encU b0 = [l.getD 0 0]) ↔ b0 < 128 := by
          unfold isChar encU
          by_cases k1 : b0 < 128
          · rw [if_pos k1]; simp only [cons_eq2, ofNat_eq, e0, and_true]; omega
          · rw [if_neg k1, if_pos (by omega)]; simp; omega
        by_cases hE : b0 < 128
        · rw [if_pos (hEnc.2 hE)]
          have : Lib.decodeN l.length b0 b1 b2 b3 = (b0, 1) := by unfold Lib.decodeN; rw [if_pos hE]
          rw [this, if_neg (by simp; omega)]
          simp only [Prod.mk.injEq]
          rw [if_neg (by omega)]
          simp
        · rw [if_neg (fun hh => hE (hEnc.1 hh))]
          have : Lib.decodeN l.length b0 b1 b2 b3 = (65533, 1) := by
            unfold Lib.decodeN
            rw [if_neg (by omega), if_neg (by omega), if_neg (by omega), if_neg (by omega)]
          rw [this]; simp

theorem ul_char (l : List UInt8) (h : ul l ≠ 0) : isChar (ur l) ∧ encU (ur l) = l.take (ul l) ∧ ul l ≤ l.length ∧ ul l ≤ 4 := by
  have hne : l ≠ [] := fun h0 => h (by simp [ul, h0])
  have e := refU_eq l hne
  rw [if_neg h] at e
  unfold refU at e
  simp only at e
  split at e
  · simp only [Prod.mk.injEq] at e; omega
  · split at e
    · rename_i hn hc
      simp only [Prod.mk.injEq] at e
      rw [← e.1, ← e.2]
      exact ⟨hc.1, hc.2, by omega, (rsz_le _).2⟩
    · simp only [Prod.mk.injEq] at e; omega
theorem ul_le (l : List UInt8) : ul l ≤ l.length := by
  by_cases h : ul l = 0
  · omega
  · exact (ul_char l h).2.2.1
theorem ul_ascii (l : List UInt8) (h : l ≠ []) (hb : bt l 0 < 128) : ul l = 1 ∧ ur l = bt l 0 := by
  have : dN l = (bt l 0, 1) := by unfold dN Lib.decodeN; rw [if_pos hb]
  unfold ul ur
  rw [this, if_neg (by simp [h]; omega)]
  exact ⟨rfl, rfl⟩
theorem ul_high (l : List UInt8) (h : ul l ≠ 0) (hb : 128 ≤ bt l 0) : 2 ≤ ul l ∧ 128 ≤ ur l := by
  have hne : l ≠ [] := fun h0 => h (by simp [ul, h0])
  have hul : ul l = if dN l = (65533, 1) then 0 else (dN l).2 := by simp [ul, hne]
  rw [hul] at h ⊢
  unfold ur
  split at h
  · exact absurd rfl h
  · rename_i hd
    rw [if_neg hd]
    unfold dN Lib.decodeN at hd ⊢
    rw [if_neg (by omega)] at hd ⊢
    repeat' split at hd
    all_goals (repeat' split)
    all_goals first | (exact absurd rfl hd) | (exfalso; omega) | (simp only; omega)
theorem ul_zero (l : List UInt8) (h : l ≠ []) : ul l = 0 ↔ dN l = (65533, 1) := by
  have hul : ul l = if dN l = (65533, 1) then 0 else (dN l).2 := by simp [ul, h]
  rw [hul]
  constructor
  · intro h0
    by_cases hd : dN l = (65533, 1)
    · exact hd
    · rw [if_neg hd] at h0
      exfalso
      unfold dN Lib.decodeN at h0
      repeat' split at h0
      all_goals simp at h0
  · intro h0; rw [if_pos h0]
theorem dN_val (l : List UInt8) (h : ul l ≠ 0) : dN l = (ur l, ul l) := by
  have hne : l ≠ [] := fun h0 => h (by simp [ul, h0])
  have hul : ul l = if dN l = (65533, 1) then 0 else (dN l).2 := by simp [ul, hne]
  have hd : dN l ≠ (65533, 1) := fun hd => h ((ul_zero l hne).2 hd)
  rw [if_neg hd] at hul
  rw [hul]; rfl
theorem ul_not (l : List UInt8) (h : ul l ≠ 0) : ¬ (ur l = 65533 ∧ ul l = 1) := by
  intro hh
  have hne : l ≠ [] := fun h0 => h (by simp [ul, h0])
  have := dN_val l h
  rw [hh.1, hh.2] at this
  exact h ((ul_zero l hne).2 this)

/-- The length of the longest valid beginning. -/
def vlen (l : List UInt8) : Nat := if h : ul l = 0 then 0 else ul l + vlen (l.drop (ul l))
termination_by l.length
decreasing_by
  have := ul_le l
  simp only [List.length_drop]; omega
theorem vlen_zero (l : List UInt8) (h : ul l = 0) : vlen l = 0 := by rw [vlen, dif_pos h]
theorem vlen_step (l : List UInt8) (h : ul l ≠ 0) : vlen l = ul l + vlen (l.drop (ul l)) := by rw [vlen, dif_neg h]
theorem vlen_le : ∀ (n : Nat) (l : List UInt8), l.length ≤ n → vlen l ≤ l.length
  | 0, l, h => by
    have : l = [] := List.eq_nil_of_length_eq_zero (by omega)
    subst this
    rw [vlen_zero _ (by simp [ul])]; simp
  | n + 1, l, h => by
    by_cases h0 : ul l = 0
    · rw [vlen_zero l h0]; omega
    · have h1 := ul_le l
      have h2 := vlen_le n (l.drop (ul l)) (by simp only [List.length_drop]; omega)
      rw [vlen_step l h0]
      simp only [List.length_drop] at h2; omega
end Go.TVF
