/- tablelex: Next, program and reference. -/
import Derived.Test.YtlbcpcdgpnppgaaDoorUsJ
set_option linter.unusedVariables false
set_option linter.unusedSimpArgs false
namespace Go.TVF
open Go Go.Proofs

theorem tokS_err (s : List UInt8) (i : Nat) : tokS s i ≠ .error 0 := by
  unfold tokS tokC
  repeat' split
  all_goals first | (simp; done) | skip
  rename_i e he
  intro h; simp only [Except.error.injEq] at h; subst h; exact qF_err _ _ _ _ _ he

theorem tokS_le {s : List UInt8} {i : Nat} {p : Int × Nat} (hi : i < s.length) (h : tokS s i = .ok p) : i < p.2 ∧ p.2 ≤ s.length ∧ 1 ≤ p.1 ∧ p.1 ≤ 6 := by
  have hb : bt (s.drop i) 0 = (s.getD i 0).toNat := bt_drop s i 0
  have hb1 : bt (s.drop i) 1 = (s.getD (i + 1) 0).toNat := bt_drop s i 1
  have hlen : (s.drop i).length = s.length - i := by simp
  have hlen1 : (s.drop (i + 1)).length = s.length - (i + 1) := by simp
  have hne : s.drop i ≠ [] := by
    intro h0
    have := congrArg List.length h0
    rw [hlen] at this; simp at this; omega
  unfold tokS at h
  rw [hb] at h
  rw [hb1] at h
  have hsp := twl_drop spaceB s i hi
  have hwd := twl_drop wordB s i hi
  have hcf : (s.getD i 0).toNat = 35 → ∀ k, cF (s.length + 1) (s.drop i) i = some k → i < k ∧ k ≤ s.length := fun hc k hk => by
    have hu := (ul_ascii _ hne (by omega)).1
    simp only [cF] at hk
    rw [if_neg (by omega), if_neg (by omega), if_neg (by omega), if_neg (by omega)] at hk
    have h1 := cF_le _ _ _ _ hk
    rw [List.length_drop, hu] at h1
    omega
  generalize (s.getD i 0).toNat = c at *
  unfold tokC at h
  by_cases g1 : c = 32 ∨ c = 9
  · rw [if_pos g1] at h
    simp only [Except.ok.injEq] at h
    subst h
    have h1 := twl_le spaceB (s.drop i)
    rw [if_pos (by unfold spaceB; exact decide_eq_true (by omega))] at hsp
    exact ⟨by simp only; omega, by simp only; omega, by simp only; decide, by simp only; decide⟩
  rw [if_neg g1] at h
  by_cases g2 : c = 10
  · rw [if_pos g2] at h
    simp only [Except.ok.injEq] at h
    subst h
    exact ⟨by simp only; omega, by simp only; omega, by simp only; decide, by simp only; decide⟩
  rw [if_neg g2] at h
  by_cases g3 : c = 13
  · rw [if_pos g3] at h
    split at h
    · cases h
    · split at h
      · simp only [Except.ok.injEq] at h
        subst h
        exact ⟨by simp only; omega, by simp only; omega, by simp only; decide, by simp only; decide⟩
      · cases h
  rw [if_neg g3] at h
  by_cases g4 : c = 35
  · rw [if_pos g4] at h
    cases hk : cF (s.length + 1) (s.drop i) i with
    | none => rw [hk] at h; cases h
    | some k =>
      rw [hk] at h
      simp only [Except.ok.injEq] at h
      subst h
      have := hcf g4 k hk
      exact ⟨by simp only; omega, by simp only; omega, by simp only; decide, by simp only; decide⟩
  rw [if_neg g4] at h
  by_cases g5 : c = 91 ∨ c = 93 ∨ c = 123 ∨ c = 125 ∨ c = 44 ∨ c = 61
  · rw [if_pos g5] at h
    simp only [Except.ok.injEq] at h
    subst h
    exact ⟨by simp only; omega, by simp only; omega, by simp only; decide, by simp only; decide⟩
  rw [if_neg g5] at h
  by_cases g6 : c = 34 ∨ c = 39
  · rw [if_pos g6] at h
    cases hq : qF (s.length + 1) c (s.drop (i + 1)) [] (i + 1) with
    | error e => rw [hq] at h; cases h
    | ok q =>
      rw [hq] at h
      simp only [Except.ok.injEq] at h
      subst h
      have := qF_le _ _ _ _ _ _ hq
      rw [hlen1] at this
      exact ⟨by simp only; omega, by simp only; omega, by simp only; decide, by simp only; decide⟩
  rw [if_neg g6] at h
  by_cases g7 : wordB (c : Int) = true
  · rw [if_pos g7] at h
    simp only [Except.ok.injEq] at h
    subst h
    rw [if_pos g7] at hwd
    have h1 := wlen_le (s.drop i)
    have h2 : 0 < wlen (s.drop i) := by
      unfold wlen
      split <;> omega
    exact ⟨by simp only; omega, by simp only; omega, by simp only; decide, by simp only; decide⟩
  · rw [if_neg g7] at h; cases h

/-- What Next gives. -/
def nxt (s : List UInt8) (at' : Int) : Except Int (Int × List UInt8 × Int) :=
  if at' < 0 ∨ (s.length : Int) < at' then .error 1 else if at' = (s.length : Int) then .error 7
  else match tokS s at'.toNat with | .error e => .error e | .ok p => .ok (p.1, (s.drop at'.toNat).take (p.2 - at'.toNat), at')
def nK : Except Int (Int × List UInt8 × Int) → Int | .ok p => p.1 | .error _ => 0
def nT : Except Int (Int × List UInt8 × Int) → List UInt8 | .ok p => p.2.1 | .error _ => []
def nA : Except Int (Int × List UInt8 × Int) → Int | .ok p => p.2.2 | .error _ => 0

theorem next_ok {s : List UInt8} {I : Int} {st : St} {K : Int → List UInt8 → Int → Int → St → Prop} (hl : s.length ≤ 2000000)
    (hk : ∀ st', StExt st st' → K (nK (nxt s I)) (nT (nxt s I)) (nA (nxt s I)) (eE (nxt s I)) st') :
    CallT PR fn_tablelex_Next [.str s, .int .i64 I] [.agg [.int .i64, .str, .int .i64], .one (.int .i64)] st K := by
  unfold nxt at hk
  refine vc_tablelex_Next s I st K (BIf_intro (fun g1 => ?_) fun g1 => BIf_intro (fun g2 => ?_) fun g2 => BIf_intro (fun g3 => ?_) fun g3 => ?_)
  · rw [if_pos (by omega)] at hk; exact hk _ (StExt.refl _)
  · rw [if_pos (by omega)] at hk; exact hk _ (StExt.refl _)
  · rw [if_neg (by omega), if_pos g3] at hk; exact hk _ (StExt.refl _)
  · rw [if_neg (by omega), if_neg g3] at hk
    refine end_ok (i := I.toNat) (by omega) hl (by omega) (fun p st' e hp => BIf_intro (fun h => absurd rfl h) fun _ => ?_) fun er kd k st' e hp => BIf_intro (fun _ => ?_) fun h => absurd hp (by rw [show er = 0 from Decidable.not_not.1 h]; exact tokS_err _ _)
    · rw [hp] at hk
      have := tokS_le (by omega) hp
      refine ⟨⟨by omega, by omega, by omega⟩, ?_⟩
      rw [take_drop_sub, Int.toNat_natCast]
      exact hk _ e
    · rw [hp] at hk; exact hk _ e

theorem rnext_ok {s : List UInt8} {I : Int} {st : St} {K : Int → List UInt8 → Int → Int → St → Prop} (hl : s.length ≤ 2000000)
    (hk : K (nK (nxt s I)) (nT (nxt s I)) (nA (nxt s I)) (eE (nxt s I)) st) :
    CallT PR fn_datakitref24_Next [.str s, .int .i64 I] [.agg [.int .i64, .str, .int .i64], .one (.int .i64)] st K := by
  unfold nxt at hk
  refine vc_datakitref24_Next s I st K (BIf_intro (fun g1 => ?_) fun g1 => BIf_intro (fun g2 => ?_) fun g2 => BIf_intro (fun g3 => ?_) fun g3 => ?_)
  · rw [if_pos (by omega)] at hk; exact hk
  · rw [if_pos (by omega)] at hk; exact hk
  · rw [if_neg (by omega), if_pos g3] at hk; exact hk
  · rw [if_neg (by omega), if_neg g3] at hk
    refine scan_ok (i := I.toNat) (by omega) hl (by omega) (fun p hp => BIf_intro (fun h => absurd rfl h) fun _ => ?_) fun er kd k hp => BIf_intro (fun _ => ?_) fun h => absurd hp (by rw [show er = 0 from Decidable.not_not.1 h]; exact tokS_err _ _)
    · rw [hp] at hk
      have := tokS_le (by omega) hp
      refine ⟨⟨by omega, by omega, by omega⟩, ?_⟩
      rw [take_drop_sub, Int.toNat_natCast]
      exact hk
    · rw [hp] at hk; exact hk
end Go.TVF
