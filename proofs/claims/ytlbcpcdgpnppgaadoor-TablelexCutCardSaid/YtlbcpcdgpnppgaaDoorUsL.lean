/- tablelex: Unquote, Bare, awake; the first law. -/
import Derived.Test.YtlbcpcdgpnppgaaDoorUsK
set_option linter.unusedVariables false
set_option linter.unusedSimpArgs false
namespace Go.TVF
open Go Go.Proofs

/-- What a quoted string stands for. -/
def unq (s : List UInt8) : Except Int (List UInt8) :=
  if s = [] then .error 4 else if bt s 0 ≠ 34 ∧ bt s 0 ≠ 39 then .error 3
  else match qF (s.length + 1) (bt s 0) (s.drop 1) [] 1 with
    | .error e => .error e
    | .ok p => if p.2 = s.length then .ok p.1 else .error 3
def uL : Except Int (List UInt8) → List UInt8 | .ok l => l | .error _ => []

theorem unquote_ok {s : List UInt8} {st : St} {K : List UInt8 → Int → St → Prop} (hl : s.length ≤ 2000000) (hk : ∀ st', StExt st st' → K (uL (unq s)) (eE (unq s)) st') :
    CallT PR fn_tablelex_Unquote [.str s] [.one (.str), .one (.int .i64)] st K := by
  unfold unq at hk
  have hb : bt s 0 = (s.getD 0 0).toNat := rfl
  refine vc_tablelex_Unquote s st K (BIf_intro (fun g1 => ?_) fun g1 => ?_)
  · rw [if_pos g1] at hk; exact hk _ (StExt.refl _)
  rw [if_neg g1] at hk
  have hlen : 0 < s.length := List.length_pos_iff.2 g1
  rw [show Int.toNat (0 : Int) = 0 from rfl]
  refine ⟨⟨by omega, by omega⟩, BIf_intro (fun g2 => ⟨⟨by omega, by omega⟩, BIf_intro (fun g3 => ?_) fun g3 => ?_⟩) fun g2 => ?_⟩
  · rw [if_pos (by omega)] at hk; exact hk _ (StExt.refl _)
  all_goals
    rw [if_neg (by omega)] at hk
    refine quoted_ok (i := 0) rfl hl hlen fun st' e => ?_
    rw [show qF (s.length + 1) (bt (s.drop 0) 0) (s.drop (0 + 1)) [] (0 + 1) = qF (s.length + 1) (bt s 0) (s.drop 1) [] 1 from rfl]
    cases hq : qF (s.length + 1) (bt s 0) (s.drop 1) [] 1 with
    | error er =>
      rw [hq] at hk
      exact BIf_intro (fun _ => hk _ e) fun h => absurd hq (by rw [show er = 0 from Decidable.not_not.1 h]; exact qF_err _ _ _ _ _)
    | ok p =>
      rw [hq] at hk
      simp only at hk
      refine BIf_intro (fun h => absurd rfl h) fun _ => BIf_intro (fun g4 => ?_) fun g4 => ?_
      · rw [if_neg (fun h => g4 (by show (p.2 : Int) = _; omega))] at hk; exact hk _ e
      · rw [if_pos (by have : (p.2 : Int) = (s.length : Int) := Decidable.not_not.1 g4
                       omega)] at hk; exact hk _ e

theorem bare_ok {s : List UInt8} {st : St} {K : Bool → St → Prop} (hl : s.length ≤ 2000000) (hk : ∀ st', StExt st st' → K (decide (s ≠ []) && decide (twl bareB s = s.length)) st') :
    CallT PR fn_tablelex_Bare [.str s] [.one (.bool)] st K := by
  refine vc_tablelex_Bare s st K (classes_ok fun v u st1 e c1 c2 => BIf_intro (fun g1 => run_ok (i := 0) rfl hl (by omega) c1 ?_) fun g1 => ?_)
  · have := hk st1 e
    rw [decide_eq_true g1, Bool.true_and] at this
    refine K_eq (decide_eq_decide.2 ?_) this
    show ((0 + twl bareB s : Nat) : Int) = _ ↔ _
    omega
  · have := hk st1 e
    rw [decide_eq_false g1, Bool.false_and] at this
    exact this

theorem nxt0 : nK (nxt str0 0) = 6 ∧ nT (nxt str0 0) = str3 ∧ nA (nxt str0 0) = 0 ∧ eE (nxt str0 0) = 0 := by decide +kernel
theorem nxt1 : nT (nxt str1 0) = str4 ∧ eE (nxt str1 0) = 0 := by decide +kernel
theorem unq2 : uL (unq str2) = str5 ∧ eE (unq str2) = 0 := by decide +kernel
theorem awake_ok {st : St} {K : Bool → St → Prop} (hk : ∀ st', StExt st st' → K true st') : CallT PR fn_datakitlaw24_awake [] [.one (.bool)] st K := by
  refine vc_datakitlaw24_awake st K (next_ok (by decide) fun st1 e1 => next_ok (by decide) fun st2 e2 => unquote_ok (by decide) fun st3 e3 => ?_)
  rw [nxt0.1, nxt0.2.1, nxt0.2.2.1, nxt0.2.2.2, nxt1.1, nxt1.2, unq2.1, unq2.2]
  refine BIf_bool (fun _ => ?_) fun h => absurd h (by decide)
  refine BIf_intro (fun _ => ?_) fun h => absurd rfl h
  refine BIf_intro (fun _ => ?_) fun h => absurd rfl h
  refine BIf_intro (fun _ => ?_) fun h => absurd rfl h
  refine BIf_intro (fun _ => ?_) fun h => absurd rfl h
  refine BIf_intro (fun _ => ?_) fun h => absurd rfl h
  refine bare_ok (by decide) fun st4 e4 => ?_
  rw [show (decide (str6 ≠ []) && decide (twl bareB str6 = str6.length)) = true by decide +kernel]
  exact hk _ (((e1.trans e2).trans e3).trans e4)

theorem nexts_ok {s : List UInt8} {I : Int} {st : St} {K : Bool → St → Prop} (hk : ∀ st', StExt st st' → K true st') : CallT PR fn_datakitlaw24_TablelexNexts [.str s, .int .i64 I] [.one (.bool)] st K := by
  refine vc_datakitlaw24_TablelexNexts s I st K (BIf_intro (fun g1 => awake_ok hk) fun g1 => next_ok (by omega) fun st1 e1 => rnext_ok (by omega) ?_)
  refine BIf_bool (fun _ => BIf_intro (fun _ => awake_ok fun st2 e2 => hk _ (e1.trans e2)) fun h => absurd rfl h) fun h => ?_
  exfalso
  simp at h
end Go.TVF
