/- tablelex: hexadecimal digits. -/
import Derived.Test.YtlbcpcdgpnppgaaDoorUsC
set_option linter.unusedVariables false
set_option linter.unusedSimpArgs false
namespace Go.TVF
open Go Go.Proofs

/-! Hexadecimal digits. -/
def hexD (c : Nat) : Option Nat := if 48 ≤ c ∧ c ≤ 57 then some (c - 48) else if 97 ≤ c ∧ c ≤ 102 then some (c - 87) else if 65 ≤ c ∧ c ≤ 70 then some (c - 55) else none
theorem hexD_lt {c d : Nat} (h : hexD c = some d) : d < 16 := by
  unfold hexD at h
  repeat' split at h
  all_goals first | (cases h; done) | (simp only [Option.some.injEq] at h; omega)

/-- Digits, as many as asked: their number, or what is wrong. -/
def hexS : Nat → List UInt8 → Nat → Except Int Nat
  | 0, _, acc => .ok acc
  | k + 1, [], acc => .error 4
  | k + 1, c :: cs, acc => match hexD c.toNat with
    | none => .error 3
    | some d => hexS k cs (acc * 16 + d)
def eN : Except Int Nat → Int | .ok n => n | .error _ => 0
def eE {α : Type} : Except Int α → Int | .ok _ => 0 | .error e => e

def idxH (n : Nat) : Int := match hexD n with | none => -1 | some d => if 97 ≤ n ∨ n ≤ 57 then (d : Int) else d + 6
theorem idx_hexN : ∀ n, n < 256 → Lib.indexByte str26 (UInt8.ofNat n) = idxH n := by decide +kernel
theorem idx_hex (c : UInt8) : Lib.indexByte str26 c = idxH c.toNat := by
  have := idx_hexN c.toNat c.toNat_lt
  rwa [UInt8.ofNat_toNat] at this

theorem idxH_cases (n : Nat) : (hexD n = none ∧ idxH n = -1) ∨ ∃ d, hexD n = some d ∧ d < 16 ∧ (idxH n = d ∨ (idxH n = d + 6 ∧ 10 ≤ d)) := by
  unfold idxH
  cases hd : hexD n with
  | none => exact .inl ⟨rfl, rfl⟩
  | some d =>
    right
    refine ⟨d, rfl, hexD_lt hd, ?_⟩
    simp only
    by_cases hc : 97 ≤ n ∨ n ≤ 57
    · rw [if_pos hc]; exact .inl rfl
    · rw [if_neg hc]
      right
      refine ⟨rfl, ?_⟩
      unfold hexD at hd
      rw [if_neg (by omega), if_neg (by omega)] at hd
      split at hd
      · simp only [Option.some.injEq] at hd; omega
      · cases hd

theorem hex_ok {s : List UInt8} {I : Int} {i : Nat} {st : St} {K : Int → Int → St → Prop} (hI : I = (i : Int)) (hl : s.length ≤ 2000000) (hi : i ≤ s.length) (hk : K (eN (hexS 4 (s.drop i) 0)) (eE (hexS 4 (s.drop i) 0)) st) :
    CallT PR fn_tablelex_hex [.str s, .int .i64 I] [.one (.int .i64), .one (.int .i64)] st K := by
  refine vc_tablelex_hex s I st K ⟨fun n k s' i' st' => s = s' ∧ I = i' ∧ st = st' ∧ ∃ j a : Nat, k = ((i + j : Nat) : Int) ∧ n = (a : Int) ∧ j ≤ 4 ∧ i + j ≤ s.length ∧ a < 16 ^ j ∧ hexS (4 - j) (s.drop (i + j)) a = hexS 4 (s.drop i) 0, fun _ k _ i' _ => (i' + 4 - k).toNat, ⟨rfl, rfl, rfl, 0, 0, by omega, rfl, by omega, by omega, by omega, rfl⟩, ?_⟩
  rintro _ _ _ _ _ ⟨rfl, rfl, rfl, j, a, rfl, rfl, h1, h2, h3, h4⟩
  rw [wrap64 (I + 4) (by omega) (by omega)]
  have h16 : 16 ^ j ≤ 16 ^ 4 := Nat.pow_le_pow_right (by decide) h1
  refine BIf_intro (fun g1 => BIf_intro (fun g2 => ?_) fun g2 => ⟨⟨by omega, by omega⟩, indexByte_ok ?_⟩) fun g1 => ?_
  · have : s.drop (i + j) = [] := List.drop_of_length_le (by omega)
    rw [this, show 4 - j = (3 - j) + 1 by omega] at h4
    rw [← h4] at hk; exact hk
  · rw [drop_cons s (i + j) 0 (by omega), show 4 - j = (3 - j) + 1 by omega] at h4
    simp only [hexS] at h4
    rw [show Int.toNat ((i + j : Nat) : Int) = i + j from rfl, Int.toNat_natCast, show ((s.getD (i + j) 0).toNat).toUInt8 = s.getD (i + j) 0 by simp, idx_hex]
    have hix := idxH_cases (s.getD (i + j) 0).toNat
    generalize idxH (s.getD (i + j) 0).toNat = X at *
    have mes : (I + 4 - (IntKind.i64.wrap (((i + j : Nat) : Int) + (1 : Int)))).toNat < (I + 4 - ((i + j : Nat) : Int)).toNat := by
      rw [wrap64 _ (by omega) (by omega)]; omega
    rcases hix with ⟨hd, hX⟩ | ⟨d, hd, hd16, hX⟩
    · rw [hd] at h4
      simp only at h4
      refine BIf_intro (fun _ => ?_) fun g3 => by omega
      rw [← h4] at hk; exact hk
    · rw [hd] at h4
      simp only at h4
      have hstep : ∀ x : Int, x = (d : Int) → (IntKind.i64.wrap ((IntKind.i64.wrap ((a : Int) * (16 : Int))) + x)) = ((a * 16 + d : Nat) : Int) := fun x hx => by
        rw [hx, wrap64 ((a : Int) * 16) (by omega) (by omega), wrap64 _ (by omega) (by omega)]; omega
      have fin : ∀ x : Int, x = (d : Int) → (s = s ∧ I = I ∧ st = st ∧ ∃ j' a' : Nat, (IntKind.i64.wrap (((i + j : Nat) : Int) + (1 : Int))) = ((i + j' : Nat) : Int) ∧ (IntKind.i64.wrap ((IntKind.i64.wrap ((a : Int) * (16 : Int))) + x)) = (a' : Int) ∧ j' ≤ 4 ∧ i + j' ≤ s.length ∧ a' < 16 ^ j' ∧ hexS (4 - j') (s.drop (i + j')) a' = hexS 4 (s.drop i) 0) := fun x hx => by
        refine ⟨rfl, rfl, rfl, j + 1, a * 16 + d, by rw [wrap64 _ (by omega) (by omega)]; omega, hstep x hx, by omega, by omega, by rw [Nat.pow_succ]; omega, ?_⟩
        rw [show 4 - (j + 1) = 3 - j by omega, ← Nat.add_assoc]; exact h4
      refine BIf_intro (fun g3 => by omega) fun _ => BIf_intro (fun g4 => ⟨fin _ (by rw [wrap64 _ (by omega) (by omega)]; omega), mes⟩) fun g4 => ⟨fin _ (by omega), mes⟩
  · have : j = 4 := by omega
    subst this
    rw [← h4] at hk; exact hk

def hexI (c : Nat) : Int := match hexD c with | none => -1 | some d => d
theorem rhexd_ok {C : Int} {c : UInt8} {st : St} {K : Int → St → Prop} (hC : C = (c.toNat : Int)) (hk : K (hexI c.toNat) st) : CallT PR fn_datakitref19_Hex [.int .u8 C] [.one (.int .i64)] st K := by
  have hlt := c.toNat_lt
  refine vc_datakitref19_Hex C st K (digit_ok ?_)
  unfold hexI hexD at hk
  unfold digitB
  have w : ∀ x : Int, 0 ≤ x → x ≤ 255 → IntKind.i64.wrap (IntKind.u8.wrap x) = x := fun x h1 h2 => by rw [wrapU8 x h1 h2, wrap64 x (by omega) (by omega)]
  have z : ∀ (a b : Int), a = b → K b st → K a st := fun a b h hk => h ▸ hk
  refine BIf_intro (fun h1 => ?_) fun h1 => BIf_intro (fun h2 => BIf_intro (fun h3 => ?_) fun h3 => BIf_intro (fun h4 => BIf_intro (fun h5 => by omega) fun h5 => ?_) fun h4 => ?_) fun h2 => BIf_intro (fun h4 => BIf_intro (fun h5 => ?_) fun h5 => ?_) fun h4 => ?_
  · rw [if_pos (by omega)] at hk
    exact z _ _ (by rw [w _ (by omega) (by omega)]; simp only; omega) hk
  · rw [if_neg (by omega), if_pos (by omega)] at hk
    exact z _ _ (by rw [w _ (by omega) (by omega), wrap64 _ (by omega) (by omega)]; simp only; omega) hk
  · rw [if_neg (by omega), if_neg (by omega), if_neg (by omega)] at hk; exact hk
  · omega
  · rw [if_neg (by omega), if_neg (by omega), if_pos (by omega)] at hk
    exact z _ _ (by rw [w _ (by omega) (by omega), wrap64 _ (by omega) (by omega)]; simp only; omega) hk
  · rw [if_neg (by omega), if_neg (by omega), if_neg (by omega)] at hk; exact hk
  · rw [if_neg (by omega), if_neg (by omega), if_neg (by omega)] at hk; exact hk

theorem four_ok {s : List UInt8} {I : Int} {i : Nat} {st : St} {K : Int → Int → St → Prop} (hI : I = (i : Int)) (hl : s.length ≤ 2000000) (hi : i ≤ s.length) (hk : K (eN (hexS 4 (s.drop i) 0)) (eE (hexS 4 (s.drop i) 0)) st) :
    CallT PR fn_datakitref19_four [.str s, .int .i64 I] [.one (.int .i64), .one (.int .i64)] st K := by
  refine vc_datakitref19_four s I st K ⟨fun n k s' i' st' => s = s' ∧ I = i' ∧ st = st' ∧ ∃ j a : Nat, k = ((i + j : Nat) : Int) ∧ n = (a : Int) ∧ j ≤ 4 ∧ i + j ≤ s.length ∧ a < 16 ^ j ∧ hexS (4 - j) (s.drop (i + j)) a = hexS 4 (s.drop i) 0, fun _ k _ i' _ => (i' + 4 - k).toNat, ⟨rfl, rfl, rfl, 0, 0, by omega, rfl, by omega, by omega, by omega, rfl⟩, ?_⟩
  rintro _ _ _ _ _ ⟨rfl, rfl, rfl, j, a, rfl, rfl, h1, h2, h3, h4⟩
  rw [wrap64 (I + 4) (by omega) (by omega)]
  have h16 : 16 ^ j ≤ 16 ^ 4 := Nat.pow_le_pow_right (by decide) h1
  refine BIf_intro (fun g1 => BIf_intro (fun g2 => ?_) fun g2 => ⟨⟨by omega, by omega⟩, rhexd_ok rfl ?_⟩) fun g1 => ?_
  · have : s.drop (i + j) = [] := List.drop_of_length_le (by omega)
    rw [this, show 4 - j = (3 - j) + 1 by omega] at h4
    rw [← h4] at hk; exact hk
  · rw [drop_cons s (i + j) 0 (by omega), show 4 - j = (3 - j) + 1 by omega] at h4
    simp only [hexS] at h4
    rw [show Int.toNat ((i + j : Nat) : Int) = i + j from rfl]
    generalize hc : s.getD (i + j) 0 = c at *
    cases hd : hexD c.toNat with
    | none =>
      have hI0 : hexI c.toNat = -1 := by unfold hexI; rw [hd]
      rw [hd] at h4
      simp only at h4
      rw [hI0]
      refine BIf_intro (fun _ => ?_) fun g3 => by omega
      rw [← h4] at hk; exact hk
    | some d =>
      have hI0 : hexI c.toNat = (d : Int) := by unfold hexI; rw [hd]
      rw [hd] at h4
      simp only at h4
      have hd16 := hexD_lt hd
      rw [hI0]
      refine BIf_intro (fun g3 => by omega) fun _ => ⟨⟨by omega, by omega⟩, rhexd_ok rfl ?_⟩
      rw [hI0]
      have hstep : (IntKind.i64.wrap ((IntKind.i64.wrap ((a : Int) * (16 : Int))) + (d : Int))) = ((a * 16 + d : Nat) : Int) := by
        rw [wrap64 ((a : Int) * 16) (by omega) (by omega), wrap64 _ (by omega) (by omega)]; omega
      rw [hstep, wrap64 (((i + j : Nat) : Int) + 1) (by omega) (by omega)]
      refine ⟨⟨rfl, rfl, rfl, j + 1, a * 16 + d, by omega, rfl, by omega, by omega, by rw [Nat.pow_succ]; omega, ?_⟩, by dsimp only; omega⟩
      rw [show 4 - (j + 1) = 3 - j by omega, ← Nat.add_assoc]; exact h4
  · have : j = 4 := by omega
    subst this
    rw [← h4] at hk; exact hk
end Go.TVF
