/- tablelex: one token; program and reference. -/
import Derived.Test.YtlbcpcdgpnppgaaDoorUsH
set_option linter.unusedVariables false
set_option linter.unusedSimpArgs false
namespace Go.TVF
open Go Go.Proofs

theorem qF_err : ∀ (f m : Nat) (l acc : List UInt8) (n : Nat), qF f m l acc n ≠ .error 0
  | 0, m, l, acc, n => by simp [qF]
  | f + 1, m, l, acc, n => by
    simp only [qF]
    repeat' split
    all_goals first | (simp; done) | exact qF_err f _ _ _ _ | skip
    rename_i e he
    intro h; simp only [Except.error.injEq] at h; subst h; exact escS_err _ he

theorem qF_le : ∀ (f m : Nat) (l acc : List UInt8) (n : Nat) (p : List UInt8 × Nat), qF f m l acc n = .ok p → n < p.2 ∧ p.2 ≤ n + l.length
  | 0, m, l, acc, n, p, h => by simp [qF] at h
  | f + 1, m, l, acc, n, p, h => by
    simp only [qF] at h
    by_cases g1 : l.length = 0
    · rw [if_pos g1] at h; cases h
    rw [if_neg g1] at h
    by_cases g2 : bt l 0 = m
    · rw [if_pos g2] at h
      simp only [Except.ok.injEq] at h
      subst h
      exact ⟨by simp only; omega, by simp only; omega⟩
    rw [if_neg g2] at h
    by_cases g3 : ul l = 0 ∨ bt l 0 < 32
    · rw [if_pos g3] at h; cases h
    rw [if_neg g3] at h
    by_cases g4 : bt l 0 ≠ 92 ∨ m = 39
    · rw [if_pos g4] at h
      have h1 := qF_le f _ _ _ _ _ h
      have h2 := ul_le l
      rw [List.length_drop] at h1
      omega
    rw [if_neg g4] at h
    by_cases g5 : l.length ≤ 1
    · rw [if_pos g5] at h; cases h
    rw [if_neg g5] at h
    by_cases g6 : bt l 1 = 117
    · rw [if_pos g6] at h
      cases hes : escS (l.drop 2) with
      | error e => rw [hes] at h; cases h
      | ok q =>
        rw [hes] at h
        have h1 := qF_le f _ _ _ _ _ h
        have h2 := (escS_ok (r := q.1) (k := q.2) hes).2.1
        rw [List.length_drop] at h1 h2
        omega
    rw [if_neg g6] at h
    cases hd : simE (bt l 1) with
    | none => rw [hd] at h; cases h
    | some c =>
      rw [hd] at h
      have h1 := qF_le f _ _ _ _ _ h
      rw [List.length_drop] at h1
      omega

def punctB (c : Nat) : Bool := decide (c = 91 ∨ c = 93 ∨ c = 123 ∨ c = 125 ∨ c = 44 ∨ c = 61)
theorem punct_all : ∀ n, n < 256 → decide (0 ≤ Lib.indexByte str10 (UInt8.ofNat n)) = punctB n := by decide +kernel
theorem punct_idx (c : UInt8) : 0 ≤ Lib.indexByte str10 c ↔ punctB c.toNat = true := by
  have h := punct_all c.toNat c.toNat_lt
  rw [UInt8.ofNat_toNat] at h
  rw [← h, decide_eq_true_eq]

theorem indexByte_okC {l : List UInt8} {C : Int} {c : UInt8} {st : St} {K : Int → St → Prop} (hC : C = (c.toNat : Int)) (hk : K (Lib.indexByte l c) st) : CallT PR fn_strings_IndexByte [.str l, .int .u8 C] [.one (.int .i64)] st K := by
  refine indexByte_ok ?_
  rw [hC, Int.toNat_natCast, show (c.toNat).toUInt8 = c by simp]
  exact hk

theorem line_ok {s : List UInt8} {I : Int} {i : Nat} {st : St} {K : Int → Int → St → Prop} (hI : I = (i : Int)) (hl : s.length ≤ 2000000) (hi : i < s.length)
    (h1 : (s.getD i 0).toNat = 10 → K ((i + 1 : Nat) : Int) 0 st) (h2 : (s.getD i 0).toNat ≠ 10 → s.length = i + 1 → K 0 4 st) (h3 : (s.getD i 0).toNat ≠ 10 → s.length ≠ i + 1 → (s.getD (i + 1) 0).toNat = 10 → K ((i + 2 : Nat) : Int) 0 st)
    (h4 : (s.getD i 0).toNat ≠ 10 → s.length ≠ i + 1 → (s.getD (i + 1) 0).toNat ≠ 10 → K 0 3 st) : CallT PR fn_tablelex_line [.str s, .int .i64 I] [.one (.int .i64), .one (.int .i64)] st K := by
  refine vc_tablelex_line s I st K ⟨⟨by omega, by omega⟩, ?_⟩
  rw [wrap64 (I + 1) (by omega) (by omega), wrap64 (I + 2) (by omega) (by omega), show Int.toNat I = i by omega, show Int.toNat (I + 1) = i + 1 by omega]
  rw [show ((i + 1 : Nat) : Int) = I + 1 by omega] at h1
  rw [show ((i + 2 : Nat) : Int) = I + 2 by omega] at h3
  refine BIf_intro (fun g1 => h1 (by omega)) fun g1 => BIf_intro (fun g2 => h2 (by omega) (by omega)) fun g2 => ⟨⟨by omega, by omega⟩, BIf_intro (fun g3 => h3 (by omega) (by omega) (by omega)) fun g3 => h4 (by omega) (by omega) (by omega)⟩

/-- The token at an offset: its kind, and the offset after it. -/
def tokC (c c1 : Nat) (s : List UInt8) (i : Nat) : Except Int (Int × Nat) :=
  if c = 32 ∨ c = 9 then .ok (1, i + twl spaceB (s.drop i))
  else if c = 10 then .ok (2, i + 1)
  else if c = 13 then (if s.length = i + 1 then .error 4 else if c1 = 10 then .ok (2, i + 2) else .error 3)
  else if c = 35 then (match cF (s.length + 1) (s.drop i) i with | none => .error 5 | some k => .ok (3, k))
  else if c = 91 ∨ c = 93 ∨ c = 123 ∨ c = 125 ∨ c = 44 ∨ c = 61 then .ok (4, i + 1)
  else if c = 34 ∨ c = 39 then (match qF (s.length + 1) c (s.drop (i + 1)) [] (i + 1) with | .error e => .error e | .ok p => .ok (5, p.2))
  else if wordB (c : Int) = true then .ok (6, i + wlen (s.drop i)) else .error 3
def tokS (s : List UInt8) (i : Nat) : Except Int (Int × Nat) := tokC (bt (s.drop i) 0) (bt (s.drop i) 1) s i

theorem end_ok {s : List UInt8} {I : Int} {i : Nat} {st : St} {K : Int → Int → Int → St → Prop} (hI : I = (i : Int)) (hl : s.length ≤ 2000000) (hi : i < s.length)
    (h1 : ∀ p st', StExt st st' → tokS s i = .ok p → K p.1 (p.2 : Nat) 0 st') (h2 : ∀ e kd k st', StExt st st' → tokS s i = .error e → K kd k e st') :
    CallT PR fn_tablelex_end [.str s, .int .i64 I] [.one (.int .i64), .one (.int .i64), .one (.int .i64)] st K := by
  refine vc_tablelex_end s I st K (classes_ok fun v u st1 e c1 c2 => ⟨⟨by omega, by omega⟩, ?_⟩)
  rw [show Int.toNat I = i by omega]
  unfold tokS at h1 h2
  have hb : bt (s.drop i) 0 = (s.getD i 0).toNat := bt_drop s i 0
  have hb1 : bt (s.drop i) 1 = (s.getD (i + 1) 0).toNat := bt_drop s i 1
  have hpi := punct_idx (s.getD i 0)
  rw [hb] at h1 h2
  rw [hb1] at h1 h2
  generalize hc : (s.getD i 0).toNat = c at *
  unfold tokC at h1 h2
  refine BIf_intro (fun g1 => ?_) fun g1 => BIf_intro (fun g2 => ?_) fun g2 => BIf_intro (fun g3 => ?_) fun g3 => BIf_intro (fun g4 => ?_) fun g4 => BIf_intro (fun g5 => ?_) fun g5 => indexByte_okC (c := s.getD i 0) (by rw [hc]) (BIf_intro (fun g6 => ?_) fun g6 => BIf_intro (fun g7 => ?_) fun g7 => BIf_intro (fun g8 => ?_) fun g8 => ?_)
  · refine run_ok hI hl (by omega) (clsSpace st1) ?_
    rw [if_pos (by omega)] at h1
    exact h1 _ _ e rfl
  · refine run_ok hI hl (by omega) (clsSpace st1) ?_
    rw [if_pos (by omega)] at h1
    exact h1 _ _ e rfl
  · refine line_ok hI hl hi (fun q => ?_) (fun q => ?_) (fun q => ?_) fun q => ?_
    · rw [if_neg (by omega), if_pos (by omega)] at h1; exact h1 _ _ e rfl
    all_goals omega
  · refine line_ok hI hl hi (fun q => ?_) (fun q q2 => ?_) (fun q q2 q3 => ?_) fun q q2 q3 => ?_
    · omega
    · rw [if_neg (by omega), if_neg (by omega), if_pos (by omega), if_pos q2] at h2; exact h2 _ _ _ _ e rfl
    · rw [if_neg (by omega), if_neg (by omega), if_pos (by omega), if_neg q2, if_pos q3] at h1; exact h1 _ _ e rfl
    · rw [if_neg (by omega), if_neg (by omega), if_pos (by omega), if_neg q2, if_neg q3] at h2; exact h2 _ _ _ _ e rfl
  · rw [if_neg (by omega), if_neg (by omega), if_neg (by omega), if_pos (by omega)] at h1 h2
    refine comment_ok hI hl (by omega) (fun k hk => ?_) fun hk => ?_
    · rw [hk] at h1; exact h1 _ _ e rfl
    · rw [hk] at h2; exact h2 _ _ _ _ e rfl
  · have g6 := of_decide_eq_true (hpi.1 g6)
    rw [if_neg (by omega), if_neg (by omega), if_neg (by omega), if_neg (by omega), if_pos (by omega)] at h1
    rw [wrap64 _ (by omega) (by omega), show I + 1 = ((i + 1 : Nat) : Int) by omega]
    exact h1 _ _ e rfl
  · have g6 := of_decide_eq_false (Bool.eq_false_iff.2 fun h => g6 (hpi.2 h))
    rw [if_neg (by omega), if_neg (by omega), if_neg (by omega), if_neg (by omega), if_neg (by omega), if_pos (by omega)] at h1 h2
    refine quoted_ok hI hl hi fun st2 e2 => ?_
    rw [hb]
    cases hq : qF (s.length + 1) c (s.drop (i + 1)) [] (i + 1) with
    | error er => rw [hq] at h2; exact h2 _ _ _ _ (e.trans e2) rfl
    | ok p => rw [hq] at h1; exact h1 _ _ (e.trans e2) rfl
  · have g6 := of_decide_eq_false (Bool.eq_false_iff.2 fun h => g6 (hpi.2 h))
    rw [if_neg (by omega), if_neg (by omega), if_neg (by omega), if_neg (by omega), if_neg (by omega), if_pos (by omega)] at h1 h2
    refine quoted_ok hI hl hi fun st2 e2 => ?_
    rw [hb]
    cases hq : qF (s.length + 1) c (s.drop (i + 1)) [] (i + 1) with
    | error er => rw [hq] at h2; exact h2 _ _ _ _ (e.trans e2) rfl
    | ok p => rw [hq] at h1; exact h1 _ _ (e.trans e2) rfl
  · have g6 := of_decide_eq_false (Bool.eq_false_iff.2 fun h => g6 (hpi.2 h))
    rw [if_neg (by omega), if_neg (by omega), if_neg (by omega), if_neg (by omega), if_neg (by omega), if_neg (by omega)] at h1 h2
    refine c2 _ (StExt.refl _) _ _ (BIf_bool (fun g9 => ?_) fun g9 => ?_)
    · rw [if_pos g9] at h1
      refine words_ok hI hl (by omega) fun st2 e2 => h1 _ _ (e.trans e2) rfl
    · rw [if_neg (by rw [g9]; decide)] at h2
      exact h2 _ _ _ _ e rfl
end Go.TVF
