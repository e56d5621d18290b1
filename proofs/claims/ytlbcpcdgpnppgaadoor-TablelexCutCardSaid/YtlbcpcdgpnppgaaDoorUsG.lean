/- tablelex: quoted strings of the reference. -/
import Derived.Test.YtlbcpcdgpnppgaaDoorUsF
set_option linter.unusedVariables false
set_option linter.unusedSimpArgs false
namespace Go.TVF
open Go Go.Proofs

/-- One step of the reading of what a backslash begins, as the reference makes it. -/
theorem qF_esc {f m : Nat} {l acc : List UInt8} {n : Nat} (hm : m ≠ 92) (hm2 : m ≠ 39) (h0 : l.length ≠ 0) (hc : bt l 0 = 92) :
    qF (f + 1) m l acc n = if l.length ≤ 1 then .error 4 else match escR (l.drop 1) with | .error e => .error e | .ok p => qF f m (l.drop p.2) (acc ++ encU p.1) (n + p.2) := by
  have hne : l ≠ [] := fun h => h0 (by rw [h]; rfl)
  have hu := (ul_ascii l hne (by omega)).1
  simp only [qF]
  rw [if_neg h0, if_neg (by omega), if_neg (by omega), if_neg (by omega)]
  by_cases h1 : l.length ≤ 1
  · rw [if_pos h1, if_pos h1]
  · rw [if_neg h1, if_neg h1]
    unfold escR
    rw [bt_drop, List.drop_drop]
    by_cases h2 : bt l 1 = 117
    · rw [if_pos h2, if_pos h2]
      cases escS (l.drop 2) with
      | error e => rfl
      | ok p => rfl
    · rw [if_neg h2, if_neg h2]
      show (match simE (bt l 1) with | none => _ | some c => _) = _
      cases hd : simE (bt l 1) with
      | none => simp only [Nat.add_zero, hd]
      | some d => simp only [Nat.add_zero, hd, (simE_char hd).2]

theorem escR_err (l : List UInt8) : escR l ≠ .error 0 := by
  unfold escR
  split
  · cases hes : escS (l.drop 1) with
    | error e => intro h; simp only [Except.error.injEq] at h; subst h; exact escS_err _ hes
    | ok p => simp
  · cases simE (bt l 0) <;> simp

theorem rquoted_ok {s : List UInt8} {I : Int} {i : Nat} {st : St} {K : List UInt8 → Int → Int → St → Prop} (hI : I = (i : Int)) (hl : s.length ≤ 2000000) (hi : i < s.length)
    (hk : K (qL (qF (s.length + 1) 34 (s.drop (i + 1)) [] (i + 1))) (qN (qF (s.length + 1) 34 (s.drop (i + 1)) [] (i + 1))) (eE (qF (s.length + 1) 34 (s.drop (i + 1)) [] (i + 1))) st) :
    CallT PR fn_datakitref19_Quoted [.str s, .int .i64 I] [.one (.str), .one (.int .i64), .one (.int .i64)] st K := by
  generalize hX : qF (s.length + 1) 34 (s.drop (i + 1)) [] (i + 1) = X at *
  refine vc_datakitref19_Quoted s I st K ⟨fun j acc s' st' => s = s' ∧ st = st' ∧ ∃ (k f : Nat), j = (k : Int) ∧ k ≤ s.length ∧ s.length < k + f ∧ acc.length ≤ 4 * k ∧ qF f 34 (s.drop k) acc k = X, fun j _ _ _ => (s.length - j).toNat, ⟨rfl, rfl, i + 1, s.length + 1, by rw [wrap64 _ (by omega) (by omega)]; omega, by omega, by omega, by simp, hX⟩, ?_⟩
  rintro _ acc _ _ ⟨rfl, rfl, k, f, rfl, h1, h2, h3, h5⟩
  cases f with
  | zero => omega
  | succ f =>
  have hlen : (s.drop k).length = s.length - k := by simp
  have hb : bt (s.drop k) 0 = (s.getD k 0).toNat := bt_drop s k 0
  have e0 : Int.toNat (k : Int) = k := rfl
  refine BIf_intro (fun g1 => ?_) fun g1 => ?_
  · simp only [qF] at h5
    rw [if_pos (by omega)] at h5
    rw [← h5] at hk
    exact hk
  · rw [e0]
    refine ⟨⟨by omega, by omega⟩, BIf_intro (fun g2 => ?_) fun g2 => ⟨⟨by omega, by omega⟩, BIf_intro (fun g3 => ?_) fun g3 => ?_⟩⟩
    · simp only [qF] at h5
      rw [if_neg (by omega), if_pos (by omega)] at h5
      rw [← h5] at hk
      rw [wrap64 _ (by omega) (by omega)]
      exact hk
    · rw [qF_esc (by decide) (by decide) (by omega) (by omega), hlen, List.drop_drop] at h5
      refine rescape_ok rfl hl (by omega) (fun g4 => ?_) fun g4 => ?_
      · rw [if_pos (by omega)] at h5
        rw [← h5] at hk
        exact BIf_intro (fun _ => hk) fun h => absurd (by decide) h
      · rw [if_neg (by omega)] at h5
        cases hes : escR (s.drop (k + 1)) with
        | error e1 =>
          rw [hes] at h5
          rw [← h5] at hk
          exact BIf_intro (fun _ => hk) fun h => absurd hes (by rw [show e1 = 0 from Decidable.not_not.1 h]; exact escR_err _)
        | ok p =>
          rw [hes] at h5
          simp only at h5
          have hq := escR_ok hes
          rw [List.length_drop] at hq
          obtain ⟨q1, q2, q3⟩ : isChar p.1 ∧ p.2 ≤ s.length - (k + 1) + 1 ∧ 2 ≤ p.2 := by
            rcases hq with hq | hq
            · exact hq
            · omega
          have hel := encU_len p.1
          refine BIf_intro (fun h => absurd rfl h) fun _ => rencode_ok (r := p.1) rfl q1 ?_
          rw [wrap64 ((k : Int) + rK (.ok p)) (by show _ ≤ (k : Int) + (p.2 : Int); omega) (by show (k : Int) + (p.2 : Int) ≤ _; omega)]
          refine ⟨by omega, ⟨rfl, rfl, k + p.2, f, rfl, by omega, by omega, by rw [List.length_append]; omega, ?_⟩, ?_⟩
          · rw [← h5, List.drop_drop]
          · show ((s.length : Int) - ((k : Int) + (p.2 : Int))).toNat < ((s.length : Int) - (k : Int)).toNat
            omega
    · simp only [qF] at h5
      rw [if_neg (by omega), if_neg (by omega)] at h5
      refine rdecode_okV rfl hl (by omega) fun R N hD => ?_
      refine BIf_intro (fun g4 => BIf_intro (fun _ => ?_) fun h => absurd (by decide) h) fun g4 => BIf_intro (fun g5 => BIf_intro (fun _ => ?_) fun h => absurd (by decide) h) fun g5 => BIf_intro (fun h => absurd rfl h) fun _ => ?_
      · rw [if_pos (by omega)] at h5
        rw [← h5] at hk
        exact hk
      · rw [if_pos (by omega)] at h5
        rw [← h5] at hk
        exact hk
      · obtain ⟨d0, d1, d2, d3, d4, d5, d6⟩ : (ul (s.drop k) ≠ 0 ∧ R = (ur (s.drop k) : Nat) ∧ N = (ul (s.drop k) : Nat) ∧ ul (s.drop k) ≤ s.length - k ∧ ul (s.drop k) ≤ 4 ∧ isChar (ur (s.drop k)) ∧ (ur (s.drop k) < 32 ↔ bt (s.drop k) 0 < 32)) := by
          rcases hD with ⟨_, _, x2⟩ | hD
          · exact absurd x2 g4
          · exact hD
        rw [if_neg (by omega), if_pos (by omega), List.drop_drop] at h5
        have he := (ul_char _ d0).2.1
        refine rencode_ok d1 d5 ?_
        have hel := encU_len (ur (s.drop k))
        rw [wrap64 ((k : Int) + N) (by omega) (by omega), he]
        rw [he] at hel
        refine ⟨by omega, ⟨rfl, rfl, k + ul (s.drop k), f, by omega, by omega, by omega, by rw [List.length_append]; omega, h5⟩, by dsimp only; omega⟩

/-- In single quotes, what is read stands for itself. -/
theorem qF_single : ∀ (f : Nat) (s : List UInt8) (k i : Nat), i ≤ k → k ≤ s.length → s.length < k + f → ∀ acc, acc = (s.take k).drop i →
    (∃ n, i ≤ n ∧ n + 1 ≤ s.length ∧ qF f 39 (s.drop k) acc k = .ok ((s.take n).drop i, n + 1)) ∨ ∃ e, e ≠ 0 ∧ qF f 39 (s.drop k) acc k = .error e
  | 0, s, k, i, h1, h2, h3, acc, ha => by omega
  | f + 1, s, k, i, h1, h2, h3, acc, ha => by
    have hlen : (s.drop k).length = s.length - k := by simp
    simp only [qF]
    by_cases g1 : (s.drop k).length = 0
    · rw [if_pos g1]; exact .inr ⟨4, by decide, rfl⟩
    rw [if_neg g1]
    by_cases g2 : bt (s.drop k) 0 = 39
    · rw [if_pos g2]; exact .inl ⟨k, h1, by omega, by rw [ha]⟩
    rw [if_neg g2]
    by_cases g3 : ul (s.drop k) = 0 ∨ bt (s.drop k) 0 < 32
    · rw [if_pos g3]; exact .inr ⟨5, by decide, rfl⟩
    rw [if_neg g3, if_pos (.inr trivial), List.drop_drop]
    have hu := ul_le (s.drop k)
    refine qF_single f s (k + ul (s.drop k)) i (by omega) (by omega) (by omega) _ ?_
    rw [ha, List.take_add, List.drop_append_of_le_length (by rw [List.length_take]; omega)]

theorem single_ok {s : List UInt8} {I : Int} {i : Nat} {st : St} {K : Int → Int → St → Prop} (hI : I = (i : Int)) (hl : s.length ≤ 2000000) (hi : i < s.length)
    (hk : K (qN (qF (s.length + 1) 39 (s.drop (i + 1)) [] (i + 1))) (eE (qF (s.length + 1) 39 (s.drop (i + 1)) [] (i + 1))) st) :
    CallT PR fn_datakitref24_single [.str s, .int .i64 I] [.one (.int .i64), .one (.int .i64)] st K := by
  generalize hX : qF (s.length + 1) 39 (s.drop (i + 1)) [] (i + 1) = X at *
  refine vc_datakitref24_single s I st K ⟨fun j s' st' => s = s' ∧ st = st' ∧ ∃ (k f : Nat) (acc : List UInt8), j = (k : Int) ∧ k ≤ s.length ∧ s.length < k + f ∧ qF f 39 (s.drop k) acc k = X, fun j _ _ => (s.length - j).toNat, ⟨rfl, rfl, i + 1, s.length + 1, [], by rw [wrap64 _ (by omega) (by omega)]; omega, by omega, by omega, hX⟩, ?_⟩
  rintro _ _ _ ⟨rfl, rfl, k, f, acc, rfl, h1, h2, h5⟩
  cases f with
  | zero => omega
  | succ f =>
  have hlen : (s.drop k).length = s.length - k := by simp
  have hb : bt (s.drop k) 0 = (s.getD k 0).toNat := bt_drop s k 0
  have e0 : Int.toNat (k : Int) = k := rfl
  simp only [qF] at h5
  refine BIf_intro (fun g1 => ⟨⟨by omega, by omega⟩, ?_⟩) fun g1 => ?_
  · rw [e0]
    rw [if_neg (by omega)] at h5
    refine BIf_intro (fun g2 => ?_) fun g2 => rdecode_okV rfl hl (by omega) fun R N hD => ?_
    · rw [if_pos (by omega)] at h5
      rw [← h5] at hk
      rw [wrap64 _ (by omega) (by omega)]
      exact hk
    · rw [if_neg (by omega)] at h5
      refine BIf_intro (fun g4 => ?_) fun g4 => BIf_intro (fun g5 => ?_) fun g5 => ?_
      · rw [if_pos (by omega)] at h5
        rw [← h5] at hk
        exact hk
      · rw [if_pos (by omega)] at h5
        rw [← h5] at hk
        exact hk
      · rw [if_neg (by omega), if_pos (.inr trivial), List.drop_drop] at h5
        rw [wrap64 ((k : Int) + N) (by omega) (by omega)]
        exact ⟨⟨rfl, rfl, k + ul (s.drop k), f, _, by omega, by omega, by omega, h5⟩, by dsimp only; omega⟩
  · rw [if_pos (by omega)] at h5
    rw [← h5] at hk
    exact hk
end Go.TVF
