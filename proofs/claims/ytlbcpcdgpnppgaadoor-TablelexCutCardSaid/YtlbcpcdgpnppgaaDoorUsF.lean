/- tablelex: quoted strings. -/
import Derived.Test.YtlbcpcdgpnppgaaDoorUsE
set_option linter.unusedVariables false
set_option linter.unusedSimpArgs false
namespace Go.TVF
open Go Go.Proofs

theorem escS_err (l : List UInt8) : escS l ≠ .error 0 := by
  unfold escS
  cases hn : hexS 4 l 0 with
  | error e => intro h; simp only [Except.error.injEq] at h; subst h; exact hexS_err _ _ _ hn
  | ok n =>
    simp only
    repeat' split
    all_goals first | (simp; done) | skip
    rename_i e hm
    intro h; simp only [Except.error.injEq] at h; subst h; exact hexS_err _ _ _ hm

def simE (c : Nat) : Option UInt8 := if c = 34 then some 34 else if c = 92 then some 92 else if c = 47 then some 47 else if c = 98 then some 8 else if c = 102 then some 12 else if c = 110 then some 10 else if c = 114 then some 13 else if c = 116 then some 9 else none
def simT (n : Nat) : Bool := match simE n with
  | none => decide (Lib.indexByte str21 (UInt8.ofNat n) = -1)
  | some d => decide (0 ≤ Lib.indexByte str21 (UInt8.ofNat n)) && decide (Lib.indexByte str21 (UInt8.ofNat n) < 8) && decide (str22.getD (Lib.indexByte str21 (UInt8.ofNat n)).toNat 0 = d)
theorem simT_all : ∀ n, n < 256 → simT n = true := by decide +kernel
theorem sim_idx (c : UInt8) : (simE c.toNat = none ∧ Lib.indexByte str21 c = -1) ∨ ∃ d, simE c.toNat = some d ∧ 0 ≤ Lib.indexByte str21 c ∧ Lib.indexByte str21 c < 8 ∧ str22.getD (Lib.indexByte str21 c).toNat 0 = d := by
  have h := simT_all c.toNat c.toNat_lt
  unfold simT at h
  rw [UInt8.ofNat_toNat] at h
  cases hd : simE c.toNat with
  | none => rw [hd] at h; exact .inl ⟨rfl, by simpa using h⟩
  | some d => rw [hd] at h; simp only [Bool.and_eq_true, decide_eq_true_eq] at h; exact .inr ⟨d, rfl, h.1.1, h.1.2, h.2⟩

/-- What follows an opening mark: what it stands for, and how many bytes. -/
def qF : Nat → Nat → List UInt8 → List UInt8 → Nat → Except Int (List UInt8 × Nat)
  | 0, _, _, _, _ => .error 4
  | f + 1, m, l, acc, n =>
    if l.length = 0 then .error 4
    else if bt l 0 = m then .ok (acc, n + 1)
    else if ul l = 0 ∨ bt l 0 < 32 then .error 5
    else if bt l 0 ≠ 92 ∨ m = 39 then qF f m (l.drop (ul l)) (acc ++ l.take (ul l)) (n + ul l)
    else if l.length ≤ 1 then .error 4
    else if bt l 1 = 117 then match escS (l.drop 2) with
      | .error e => .error e
      | .ok p => qF f m (l.drop (2 + p.2)) (acc ++ encU p.1) (n + (2 + p.2))
    else match simE (bt l 1) with
      | none => .error 3
      | some c => qF f m (l.drop 2) (acc ++ [c]) (n + 2)
def qL : Except Int (List UInt8 × Nat) → List UInt8 | .ok p => p.1 | .error _ => []
def qN : Except Int (List UInt8 × Nat) → Int | .ok p => p.2 | .error _ => 0

theorem decode_okV {l : List UInt8} {st : St} {K : Int → Int → St → Prop} (hne : l ≠ []) (hk : ∀ R N : Int, ((ul l = 0 ∧ R = 65533 ∧ N = 1) ∨ (ul l ≠ 0 ∧ R = (ur l : Nat) ∧ N = (ul l : Nat) ∧ ¬ (R = 65533 ∧ N = 1) ∧ ul l ≤ l.length ∧ ul l ≤ 4)) → K R N st) : CallT PR fn_utf8_DecodeRuneInString [.str l] [.one (.int .i32), .one (.int .i64)] st K := by
  refine decode_ok (hk _ _ ?_)
  have hd : dG l = dN l := by unfold dG; rw [if_neg hne]
  rw [hd]
  by_cases h : ul l = 0
  · rw [(ul_zero l hne).1 h]; exact .inl ⟨h, rfl, rfl⟩
  · rw [dN_val l h]
    have h1 := ul_not l h
    have h2 := ul_char l h
    exact .inr ⟨h, rfl, rfl, by simp only; omega, h2.2.2.1, h2.2.2.2⟩

theorem quoted_ok {s : List UInt8} {I : Int} {i : Nat} {st : St} {K : List UInt8 → Int → Int → St → Prop} (hI : I = (i : Int)) (hl : s.length ≤ 2000000) (hi : i < s.length)
    (hk : ∀ st', StExt st st' → K (qL (qF (s.length + 1) (bt (s.drop i) 0) (s.drop (i + 1)) [] (i + 1))) (qN (qF (s.length + 1) (bt (s.drop i) 0) (s.drop (i + 1)) [] (i + 1))) (eE (qF (s.length + 1) (bt (s.drop i) 0) (s.drop (i + 1)) [] (i + 1))) st') :
    CallT PR fn_tablelex_quoted [.str s, .int .i64 I] [.one (.str), .one (.int .i64), .one (.int .i64)] st K := by
  have hm0 : ((List.getD s (Int.toNat I) 0).toNat : Int) = ((bt (s.drop i) 0 : Nat) : Int) := by rw [bt_drop, hI]; rfl
  refine vc_tablelex_quoted s I st K ⟨⟨by omega, by omega⟩, ?_⟩
  rw [hm0]
  generalize bt (s.drop i) 0 = m at *
  generalize hX : qF (s.length + 1) m (s.drop (i + 1)) [] (i + 1) = X at *
  refine ⟨fun j out s' mk st' => s = s' ∧ (m : Int) = mk ∧ StExt st st' ∧ ∃ (k f : Nat) (acc : List UInt8), j = (k : Int) ∧ k ≤ s.length ∧ s.length < k + f ∧ acc.length ≤ 4 * k ∧ OwnB st.nt st' out acc ∧ qF f m (s.drop k) acc k = X, fun j _ _ _ _ => (s.length - j).toNat, ⟨rfl, rfl, StExt.refl _, i + 1, s.length + 1, [], by rw [wrap64 _ (by omega) (by omega)]; omega, by omega, by omega, by simp, OwnB.nil _ _, hX⟩, ?_⟩
  rintro _ out _ _ st1 ⟨rfl, rfl, e, k, f, acc, rfl, h1, h2, h3, h4, h5⟩
  cases f with
  | zero => omega
  | succ f =>
  simp only [qF] at h5
  have hlen : (s.drop k).length = s.length - k := by simp
  have hb : ∀ j, bt (s.drop k) j = (s.getD (k + j) 0).toNat := bt_drop s k
  have e0 : Int.toNat (k : Int) = k := rfl
  rw [hb, hb] at h5
  rw [hlen] at h5
  refine BIf_intro (fun g1 => ?_) fun g1 => ?_
  · have hne : s.drop k ≠ [] := by
      intro h0
      have := congrArg List.length h0
      rw [hlen] at this; simp at this; omega
    rw [if_neg (by omega)] at h5
    refine ⟨⟨by omega, by omega⟩, decode_okV hne fun R N hD => ⟨⟨by omega, by omega⟩, ?_⟩⟩
    rw [e0] at hD
    rw [hlen] at hD
    rw [e0, show (k : Nat) + 0 = k from rfl] at *
    generalize hc0 : (s.getD k 0).toNat = c0 at *
    refine BIf_intro (fun g2 => ?_) fun g2 => ⟨⟨by omega, by omega⟩, BIf_intro (fun g3 => ?_) fun g3 => ?_⟩
    · rw [if_pos (by omega)] at h5
      rw [← h5] at hk
      rw [wrap64 _ (by omega) (by omega)]
      refine optK_intro (show _ = some (TV.str acc) by rw [h4.rd.toBytes]; rfl) ?_
      exact hk st1 e
    · rw [if_neg (by omega), if_pos (by omega)] at h5
      rw [← h5] at hk
      exact hk st1 e
    · rw [if_neg (by omega)] at h5
      refine BIf_intro (fun g4 => BIf_intro (fun g5 => ?_) fun g5 => ?_) fun g4 => ?_
      · rw [if_pos (by omega)] at h5
        rw [← h5] at hk
        exact hk st1 e
      all_goals
        obtain ⟨d0, _, d2, d3, d4, d5⟩ : (ul (s.drop k) ≠ 0 ∧ R = (ur (s.drop k) : Nat) ∧ N = (ul (s.drop k) : Nat) ∧ ¬ (R = 65533 ∧ N = 1) ∧ ul (s.drop k) ≤ s.length - k ∧ ul (s.drop k) ≤ 4) := by
          rcases hD with ⟨_, x1, x2⟩ | hD
          · first | exact absurd x2 g5 | exact absurd x1 g4
          · exact hD
        rw [if_neg (by omega)] at h5
        refine ⟨⟨by omega, by omega⟩, BIf_intro (fun g6 => ?_) fun g6 => BIf_intro (fun g6 => ?_) fun g7 => BIf_intro (fun g8 => ?_) fun g8 => ?_⟩
        iterate 2
          · rw [if_pos (by omega)] at h5
            rw [wrap64 ((k : Int) + N) (by omega) (by omega)]
            refine ⟨⟨by omega, by omega, by omega⟩, optK_intro rfl (need_intro (one_bytesT _) ?_)⟩
            rw [take_drop_sub, show Int.toNat ((k : Int) + N) - k = ul (s.drop k) by omega]
            refine appK_ys e h4 rfl rfl ?_ fun v' st' e' _ ho => ⟨⟨rfl, rfl, e', k + ul (s.drop k), f, _, by omega, by omega, by omega, ?_, ho, ?_⟩, by dsimp only; omega⟩
            · rw [List.length_take, hlen]; omega
            · rw [List.length_append, List.length_take, hlen]; omega
            · rw [← h5, List.drop_drop]
        · rw [wrap64 ((k : Int) + 1) (by omega) (by omega)] at g8
          rw [if_neg (by omega), if_pos (by omega)] at h5
          rw [← h5] at hk
          exact hk st1 e
        · rw [wrap64 ((k : Int) + 1) (by omega) (by omega)] at g8
          rw [wrap64 ((k : Int) + 1) (by omega) (by omega)]
          rw [if_neg (by omega), if_neg (by omega)] at h5
          refine ⟨⟨by omega, by omega⟩, ?_⟩
          rw [show Int.toNat ((k : Int) + 1) = k + 1 from rfl]
          refine BIf_intro (fun g9 => ?_) fun g9 => ⟨⟨by omega, by omega⟩, indexByte_ok ?_⟩
          · rw [if_pos (by omega), List.drop_drop] at h5
            rw [wrap64 ((k : Int) + 2) (by omega) (by omega)]
            refine escape_ok (i := k + 2) (by omega) hl (by omega) ?_
            cases hes : escS (s.drop (k + 2)) with
            | error e1 =>
              rw [hes] at h5
              rw [← h5] at hk
              exact BIf_intro (fun _ => hk st1 e) fun h => absurd hes (by rw [show e1 = 0 from Decidable.not_not.1 h]; exact escS_err _)
            | ok p =>
              rw [hes] at h5
              simp only at h5
              obtain ⟨q1, q2, q3, q4⟩ := escS_ok hes
              rw [List.length_drop] at q2
              refine BIf_intro (fun h => absurd rfl h) fun _ => appendRune_ok rfl q1 e h4 (by omega) fun v' st' e' ho => ⟨⟨rfl, rfl, e', k + (2 + p.2), f, _, ?_, by omega, by omega, ?_, ho, ?_⟩, ?_⟩
              · show ((k + 2 + p.2 : Nat) : Int) = _; omega
              · have := encU_len p.1; rw [List.length_append]; omega
              · rw [← h5, List.drop_drop]
              · show ((s.length : Int) - ((k + 2 + p.2 : Nat) : Int)).toNat < ((s.length : Int) - (k : Int)).toNat
                omega
          · rw [if_neg (by omega)] at h5
            rw [Int.toNat_natCast, show ((s.getD (k + 1) 0).toNat).toUInt8 = s.getD (k + 1) 0 by simp]
            rcases sim_idx (s.getD (k + 1) 0) with ⟨hd, hx⟩ | ⟨d, hd, hx1, hx2, hx3⟩
            · rw [hd] at h5
              rw [hx]
              rw [← h5] at hk
              exact BIf_intro (fun _ => hk st1 e) fun h => absurd (by decide) h
            · rw [hd] at h5
              generalize Lib.indexByte str21 (s.getD (k + 1) 0) = X1 at *
              refine BIf_intro (fun h => by omega) fun _ => ⟨⟨by omega, by show X1 < 8; omega⟩, ?_⟩
              rw [hx3, wrap64 ((k : Int) + 2) (by omega) (by omega)]
              refine appK_ys (ys := [d]) e h4 rfl rfl (by simp; omega) fun v' st' e' _ ho => ⟨⟨rfl, rfl, e', k + 2, f, _, by omega, by omega, by omega, ?_, ho, ?_⟩, by dsimp only; omega⟩
              · simp; omega
              · rw [← h5, List.drop_drop]
  · rw [if_pos (by omega)] at h5
    rw [← h5] at hk
    exact hk st1 e

/-! The reference. -/
def escR (l : List UInt8) : Except Int (Nat × Nat) :=
  if bt l 0 = 117 then match escS (l.drop 1) with | .error e => .error e | .ok p => .ok (p.1, 2 + p.2)
  else match simE (bt l 0) with | none => .error 3 | some c => .ok (c.toNat, 2)
def rK : Except Int (Nat × Nat) → Int | .ok p => p.2 | .error _ => 0

theorem rescape_ok {s : List UInt8} {I : Int} {i : Nat} {st : St} {K : Int → Int → Int → St → Prop} (hI : I = (i : Int)) (hl : s.length ≤ 2000000) (hi : i < s.length)
    (h0 : s.length ≤ i + 1 → K 0 0 4 st) (hk : i + 1 < s.length → K (eR (escR (s.drop (i + 1)))) (rK (escR (s.drop (i + 1)))) (eE (escR (s.drop (i + 1)))) st) :
    CallT PR fn_datakitref19_escape [.str s, .int .i64 I] [.one (.int .i64), .one (.int .i64), .one (.int .i64)] st K := by
  refine vc_datakitref19_escape s I st K ?_
  rw [wrap64 (I + 1) (by omega) (by omega)]
  refine BIf_intro (fun h1 => h0 (by omega)) fun h1 => ⟨⟨by omega, by omega⟩, ?_⟩
  have hk := hk (by omega)
  unfold escR at hk
  have hb : bt (s.drop (i + 1)) 0 = (s.getD (i + 1) 0).toNat := bt_drop s (i + 1) 0
  rw [hb, List.drop_drop] at hk
  rw [show Int.toNat (I + 1) = i + 1 by omega]
  have hlt := (s.getD (i + 1) 0).toNat_lt
  generalize hc : (s.getD (i + 1) 0).toNat = c at *
  refine ⟨fun b s' i' n' st' => s = s' ∧ I = i' ∧ (c : Int) = n' ∧ st = st' ∧ b = decide (c = 34 ∨ c = 92 ∨ c = 47), ?_, ?_⟩
  · refine BIf_intro (fun h => ⟨rfl, rfl, rfl, rfl, decide_eq_decide.2 (by omega)⟩) fun h => BIf_intro (fun h => ⟨rfl, rfl, rfl, rfl, decide_eq_decide.2 (by omega)⟩) fun h => ⟨rfl, rfl, rfl, rfl, decide_eq_decide.2 (by omega)⟩
  · rintro b _ _ _ _ ⟨rfl, rfl, rfl, rfl, rfl⟩
    rw [wrap64 (I + 1) (by omega) (by omega), show Int.toNat (I + 1) = i + 1 by omega, hc]
    have hs : ∀ d : UInt8, simE c = some d → c ≠ 117 → K (d.toNat : Int) 2 0 st := fun d hd h117 => by
      rw [if_neg h117, hd] at hk; exact hk
    refine BIf_intro (fun h => ⟨⟨by omega, by omega⟩, ?_⟩) fun h => ?_
    · rw [wrap64 (c : Int) (by omega) (by omega)]
      rcases h with rfl | rfl | rfl
      · exact hs 34 rfl (by decide)
      · exact hs 92 rfl (by decide)
      · exact hs 47 rfl (by decide)
    · refine BIf_intro (fun h1 => ?_) fun h1 => BIf_intro (fun h2 => ?_) fun h2 => BIf_intro (fun h3 => ?_) fun h3 => BIf_intro (fun h4 => ?_) fun h4 => BIf_intro (fun h5 => ?_) fun h5 => BIf_intro (fun h6 => ?_) fun h6 => ?_
      · have : c = 98 := by omega
        subst this; exact hs 8 rfl (by decide)
      · have : c = 102 := by omega
        subst this; exact hs 12 rfl (by decide)
      · have : c = 110 := by omega
        subst this; exact hs 10 rfl (by decide)
      · have : c = 114 := by omega
        subst this; exact hs 13 rfl (by decide)
      · have : c = 116 := by omega
        subst this; exact hs 9 rfl (by decide)
      · have : c = 117 := by omega
        rw [if_pos this] at hk
        refine pair_ok hI hl (by omega) ?_
        cases hes : escS (s.drop (i + 2)) with
        | error e => rw [hes] at hk; exact hk
        | ok p => rw [hes] at hk; exact hk
      · rw [if_neg (by omega)] at hk
        have : simE c = none := by
          unfold simE
          rw [if_neg (by omega), if_neg (by omega), if_neg (by omega), if_neg (by omega), if_neg (by omega), if_neg (by omega), if_neg (by omega), if_neg (by omega)]
        rw [this] at hk
        exact hk

theorem rdecode_okV {s : List UInt8} {I : Int} {k : Nat} {st : St} {K : Int → Int → St → Prop} (hI : I = (k : Int)) (hl : s.length ≤ 2000000) (hi : k ≤ s.length)
    (hk : ∀ R N : Int, ((ul (s.drop k) = 0 ∧ R = 0 ∧ N = 0) ∨ (ul (s.drop k) ≠ 0 ∧ R = (ur (s.drop k) : Nat) ∧ N = (ul (s.drop k) : Nat) ∧ ul (s.drop k) ≤ s.length - k ∧ ul (s.drop k) ≤ 4 ∧ isChar (ur (s.drop k)) ∧ (ur (s.drop k) < 32 ↔ bt (s.drop k) 0 < 32))) → K R N st) : CallT PR fn_datakitref03_Decode [.str s, .int .i64 I] [.one (.int .i64), .one (.int .i64)] st K := by
  refine rdecode_ok' hI hl hi (hk _ _ ?_)
  unfold rD
  by_cases h : ul (s.drop k) = 0
  · rw [if_pos h]; exact .inl ⟨h, rfl, rfl⟩
  · rw [if_neg h]
    have h2 := ul_char _ h
    have hne : s.drop k ≠ [] := fun h0 => h (by rw [h0]; simp [ul])
    refine .inr ⟨h, rfl, rfl, by have := h2.2.2.1; simp only [List.length_drop] at this; exact this, h2.2.2.2, h2.1, ?_⟩
    by_cases hb : bt (s.drop k) 0 < 128
    · rw [(ul_ascii _ hne hb).2]
    · have := ul_high _ h (by omega)
      omega

theorem rencode_ok {R : Int} {r : Nat} {st : St} {K : List UInt8 → Int → St → Prop} (hR : R = (r : Int)) (hc : isChar r) (hk : K (encU r) 0 st) : CallT PR fn_datakitref03_Encode [.int .i64 R] [.one (.str), .one (.int .i64)] st K := by
  have := hc.1
  refine encode_ok' hR (by omega) ?_
  rw [if_pos hc, if_pos hc]; exact hk

theorem simE_char {c : Nat} {d : UInt8} (h : simE c = some d) : isChar d.toNat ∧ encU d.toNat = [d] := by
  unfold simE at h
  repeat' split at h
  all_goals first | (cases h; done) | (simp only [Option.some.injEq] at h; subst h; exact ⟨by unfold isChar; decide, rfl⟩)

theorem escR_ok {l : List UInt8} {p : Nat × Nat} (h : escR l = .ok p) : isChar p.1 ∧ p.2 ≤ l.length + 1 ∧ 2 ≤ p.2 ∨ l.length = 0 := by
  by_cases hl : l.length = 0
  · exact .inr hl
  left
  unfold escR at h
  split at h
  · cases hes : escS (l.drop 1) with
    | error e => rw [hes] at h; cases h
    | ok q =>
      rw [hes] at h
      simp only [Except.ok.injEq] at h
      subst h
      obtain ⟨h1, h2, h3, h4⟩ := escS_ok (r := q.1) (k := q.2) hes
      rw [List.length_drop] at h2
      exact ⟨h1, by simp only; omega, by simp only; omega⟩
  · cases hd : simE (bt l 0) with
    | none => rw [hd] at h; cases h
    | some d =>
      rw [hd] at h
      simp only [Except.ok.injEq] at h
      subst h
      exact ⟨(simE_char hd).1, by simp only; omega, Nat.le_refl _⟩
end Go.TVF
