/- tablelex: quoting, and the law TablelexQuotes. -/
import Derived.Test.YtlbcpcdgpnppgaaDoorUsM
set_option linter.unusedVariables false
set_option linter.unusedSimpArgs false
namespace Go.TVF
open Go Go.Proofs

def hexC (n : Nat) : UInt8 := str9.getD n 0
/-- A byte within quotes. -/
def escN (n : Nat) : List UInt8 := if n = 34 then [92, 34] else if n = 92 then [92, 92] else if n = 8 then [92, 98] else if n = 12 then [92, 102] else if n = 10 then [92, 110] else if n = 13 then [92, 114] else if n = 9 then [92, 116]
  else if n < 32 then [92, 117, 48, 48, hexC (n / 16), hexC (n % 16)] else [UInt8.ofNat n]
def escQ (s : List UInt8) : List UInt8 := s.flatMap fun c => escN c.toNat
def quo (s : List UInt8) : List UInt8 := 34 :: (escQ s ++ [34])

def escT (n : Nat) : Bool := if 0 ≤ Lib.indexByte str7 (UInt8.ofNat n) then decide (Lib.indexByte str7 (UInt8.ofNat n) < 7) && decide (escN n = [92, str8.getD (Lib.indexByte str7 (UInt8.ofNat n)).toNat 0])
  else if n < 32 then decide (escN n = [92, 117, 48, 48, str9.getD (n / 16) 0, str9.getD (n % 16) 0]) else decide (escN n = [UInt8.ofNat n])
theorem escT_all : ∀ n, n < 256 → escT n = true := by decide +kernel
theorem esc_idx (c : UInt8) : (0 ≤ Lib.indexByte str7 c ∧ Lib.indexByte str7 c < 7 ∧ escN c.toNat = [92, str8.getD (Lib.indexByte str7 c).toNat 0]) ∨
    (¬ 0 ≤ Lib.indexByte str7 c ∧ c.toNat < 32 ∧ escN c.toNat = [92, 117, 48, 48, str9.getD (c.toNat / 16) 0, str9.getD (c.toNat % 16) 0]) ∨ (¬ 0 ≤ Lib.indexByte str7 c ∧ ¬ c.toNat < 32 ∧ escN c.toNat = [c]) := by
  have h := escT_all c.toNat c.toNat_lt
  unfold escT at h
  rw [UInt8.ofNat_toNat] at h
  split at h
  · rename_i h0
    simp only [Bool.and_eq_true, decide_eq_true_eq] at h
    exact .inl ⟨h0, h.1, h.2⟩
  · rename_i h0
    split at h
    · rename_i h1
      exact .inr (.inl ⟨h0, h1, by simpa using h⟩)
    · rename_i h1
      exact .inr (.inr ⟨h0, h1, by simpa using h⟩)
theorem escN_len (n : Nat) : (escN n).length ≤ 6 := by
  unfold escN
  repeat' split
  all_goals simp
theorem escQ_len : ∀ s : List UInt8, (escQ s).length ≤ 6 * s.length
  | [] => by simp [escQ]
  | c :: r => by
    have h1 := escN_len c.toNat
    have h2 := escQ_len r
    simp only [escQ, List.flatMap_cons, List.length_append, List.length_cons] at h2 ⊢
    omega
theorem escQ_snoc (s : List UInt8) (k : Nat) (h : k < s.length) : escQ (s.take (k + 1)) = escQ (s.take k) ++ escN (s.getD k 0).toNat := by
  rw [getD_take s k 0 h]; simp [escQ]

theorem shr_u8 (x : Nat) : Int.fdiv ((x : Nat) : Int) (2 ^ (min (Int.toNat (4 : Int)) (IntKind.bits .u8))) = ((x / 16 : Nat) : Int) := by
  rw [show (2 : Int) ^ (min (Int.toNat (4 : Int)) (IntKind.bits .u8)) = ((16 : Nat) : Int) by decide, Int.fdiv_eq_ediv_of_nonneg _ (Int.natCast_nonneg _)]
  rfl
theorem and15 (x : Nat) (h : x < 256) : bitsI .and .u8 (x : Int) (15 : Int) = ((x % 16 : Nat) : Int) := by
  rw [show (15 : Int) = ((15 : Nat) : Int) from rfl, and_u8 _ _ (by omega) (by omega), show (15 : Nat) = 2 ^ 4 - 1 from rfl, Nat.and_two_pow_sub_one_eq_mod]

theorem quote_ok {s : List UInt8} {st : St} {K : List UInt8 → Int → St → Prop} (hl : s.length ≤ 2000000) (hk : ∀ st', StExt st st' → K (if vlen s = s.length then quo s else []) (if vlen s = s.length then 0 else 5) st') :
    CallT PR fn_tablelex_Quote [.str s] [.one (.str), .one (.int .i64)] st K := by
  refine vc_tablelex_Quote s st K (bad_ok hl ?_)
  by_cases hb : vlen s = s.length
  · rw [if_pos hb]
    rw [if_pos hb, if_pos hb] at hk
    refine BIf_intro (fun h => absurd h (by decide)) fun _ => ?_
    refine ⟨fun v i s' st' => s = s' ∧ StExt st st' ∧ ∃ k : Nat, i = (k : Int) ∧ k ≤ s.length ∧ OwnB st.nt st' v (34 :: escQ (s.take k)), fun _ i _ _ => (s.length - i).toNat, ⟨rfl, StExt.refl _, 0, rfl, by omega, Own.full _ _ _ _ _⟩, ?_⟩
    rintro v _ _ st1 ⟨rfl, e, k, rfl, h1, h4⟩
    have hle := escQ_len (s.take k)
    rw [List.length_take] at hle
    have hl4 : (34 :: escQ (s.take k)).length ≤ 12000001 := by simp only [List.length_cons]; omega
    rw [show Int.toNat (k : Int) = k from rfl]
    refine BIf_intro (fun g1 => ⟨⟨by omega, by omega⟩, indexByte_okC (c := s.getD k 0) rfl ?_⟩) fun g1 => ?_
    · have w : IntKind.i64.wrap ((k : Int) + 1) = ((k + 1 : Nat) : Int) := by rw [wrap64 _ (by omega) (by omega)]; omega
      rw [w, shr_u8, and15 _ (s.getD k 0).toNat_lt]
      have hsn := escQ_snoc s k (by omega)
      have hc := (s.getD k 0).toNat_lt
      have hcase := esc_idx (s.getD k 0)
      generalize Lib.indexByte str7 (s.getD k 0) = X at hcase
      rcases hcase with ⟨q1, q2, q3⟩ | ⟨q1, q2, q3⟩ | ⟨q1, q2, q3⟩
      · rw [q3] at hsn
        refine BIf_intro (fun _ => ⟨⟨q1, q2⟩, appK_ys (ys := [92, str8.getD X.toNat 0]) e h4 rfl rfl (by simp only [List.length_cons] at hl4 ⊢; simp; omega) fun v' st' e' _ ho => ⟨⟨rfl, e', k + 1, rfl, by omega, ?_⟩, by dsimp only; omega⟩⟩) fun h => absurd q1 h
        rw [hsn]; exact ho
      · rw [q3] at hsn
        refine BIf_intro (fun h => absurd h q1) fun _ => BIf_intro (fun _ => ⟨⟨by omega, by show _ < ((16 : Nat) : Int); omega⟩, ⟨by omega, by show _ < ((16 : Nat) : Int); omega⟩, ?_⟩) fun h => by omega
        rw [Int.toNat_natCast, Int.toNat_natCast]
        refine appK_ys (ys := [92, 117, 48, 48, str9.getD ((s.getD k 0).toNat / 16) 0, str9.getD ((s.getD k 0).toNat % 16) 0]) e h4 rfl rfl (by simp only [List.length_cons] at hl4 ⊢; simp; omega) fun v' st' e' _ ho => ⟨⟨rfl, e', k + 1, rfl, by omega, ?_⟩, by dsimp only; omega⟩
        rw [hsn]; exact ho
      · rw [q3] at hsn
        refine BIf_intro (fun h => absurd h q1) fun _ => BIf_intro (fun h => by omega) fun _ => ?_
        refine appK_ys (ys := [s.getD k 0]) e h4 rfl rfl (by simp only [List.length_cons] at hl4 ⊢; simp; omega) fun v' st' e' _ ho => ⟨⟨rfl, e', k + 1, rfl, by omega, ?_⟩, by dsimp only; omega⟩
        rw [hsn]; exact ho
    · refine appK_ys (ys := [34]) e h4 rfl rfl (by simp only [List.length_cons] at hl4 ⊢; simp; omega) fun v' st' e' _ ho => ?_
      rw [List.take_of_length_le (show s.length ≤ k by omega)] at ho
      exact optK_intro (show _ = some (TV.str (quo s)) by rw [ho.rd.toBytes]; rfl) (hk st' e')
  · rw [if_neg hb]
    rw [if_neg hb, if_neg hb] at hk
    exact BIf_intro (fun _ => hk st (StExt.refl _)) fun h => by omega

theorem s16_ok {C : Int} {c : UInt8} {st : St} {K : List UInt8 → St → Prop} (hC : C = (c.toNat : Int)) (hk : K [str9.getD (c.toNat / 16) 0, str9.getD (c.toNat % 16) 0] st) : CallT PR fn_datakitref19_s16 [.int .u8 C] [.one (.str)] st K := by
  have hc := c.toNat_lt
  subst hC
  refine vc_datakitref19_s16 _ st K ?_
  rw [shr_u8, and15 _ hc]
  generalize hx : c.toNat / 16 = x at *
  generalize hy : c.toNat % 16 = y at *
  have wx : IntKind.u8.wrap ((x : Int) + 1) = ((x + 1 : Nat) : Int) := by rw [wrapU8 _ (by omega) (by omega)]; omega
  have wy : IntKind.u8.wrap ((y : Int) + 1) = ((y + 1 : Nat) : Int) := by rw [wrapU8 _ (by omega) (by omega)]; omega
  rw [wx, wy]
  have e : ∀ z : Nat, z < 16 → List.drop (Int.toNat (z : Int)) (List.take (Int.toNat ((z + 1 : Nat) : Int)) str9) = [str9.getD z 0] := by
    intro z hz
    rw [Int.toNat_natCast, Int.toNat_natCast, getD_take str9 z 0 (by simp [str9]; omega)]
    rw [List.drop_append_of_le_length (by simp [str9]; omega), List.drop_of_length_le (by simp; omega)]
    rfl
  rw [e x (by omega), e y (by omega)]
  exact ⟨⟨by omega, by omega, by simp [str9]; omega⟩, ⟨by omega, by omega, by simp [str9]; omega⟩, by simp, hk⟩

theorem rquote_ok {s : List UInt8} {st : St} {K : List UInt8 → Int → St → Prop} (hl : s.length ≤ 2000000) (hk : ∀ st', StExt st st' → K (if vlen s = s.length then quo s else []) (if vlen s = s.length then 0 else 5) st') :
    CallT PR fn_datakitref19_Quote [.str s] [.one (.str), .one (.int .i64)] st K := by
  refine vc_datakitref19_Quote s st K (rvalid_ok hl fun st1 e => ?_)
  by_cases hb : vlen s = s.length
  · rw [decide_eq_true hb]
    rw [if_pos hb, if_pos hb] at hk
    have hk1 := hk st1 e
    show BIf false _ _
    refine ⟨fun out i s' st' => s = s' ∧ st1 = st' ∧ ∃ k : Nat, i = (k : Int) ∧ k ≤ s.length ∧ out = 34 :: escQ (s.take k), fun _ i _ _ => (s.length - i).toNat, ⟨rfl, rfl, 0, rfl, by omega, rfl⟩, ?_⟩
    rintro _ _ _ _ ⟨rfl, rfl, k, rfl, h1, rfl⟩
    have hle := escQ_len (s.take k)
    rw [List.length_take] at hle
    have hl4 : (34 :: escQ (s.take k)).length ≤ 12000001 := by simp only [List.length_cons]; omega
    rw [show Int.toNat (k : Int) = k from rfl]
    refine BIf_intro (fun g1 => ⟨⟨by omega, by omega⟩, ?_⟩) fun g1 => ?_
    · have w : IntKind.i64.wrap ((k : Int) + 1) = ((k + 1 : Nat) : Int) := by rw [wrap64 _ (by omega) (by omega)]; omega
      rw [w]
      have hsn := escQ_snoc s k (by omega)
      have hc := (s.getD k 0).toNat_lt
      have ht : List.drop k (List.take (Int.toNat ((k + 1 : Nat) : Int)) s) = [s.getD k 0] := by
        rw [Int.toNat_natCast, getD_take s k 0 (by omega), List.drop_append_of_le_length (by simp; omega), List.drop_of_length_le (by simp; omega)]; rfl
      rw [ht]
      have ho : s.getD k 0 = UInt8.ofNat (s.getD k 0).toNat := by rw [UInt8.ofNat_toNat]
      unfold escN at hsn
      have fin : ∀ x : List UInt8, escQ (s.take (k + 1)) = escQ (s.take k) ++ x → (34 :: escQ (s.take k)) ++ x = 34 :: escQ (s.take (k + 1)) := fun x hx => by rw [hx]; rfl
      refine BIf_intro (fun q1 => ?_) fun q1 => BIf_intro (fun q2 => ?_) fun q2 => BIf_intro (fun q3 => ?_) fun q3 => BIf_intro (fun q4 => ?_) fun q4 => BIf_intro (fun q5 => ?_) fun q5 => BIf_intro (fun q6 => ?_) fun q6 => BIf_intro (fun q7 => ?_) fun q7 => BIf_intro (fun q8 => ?_) fun q8 => ?_
      · rw [if_pos (by omega)] at hsn
        exact ⟨by simp [str13]; simp only [List.length_cons] at hl4; omega, ⟨rfl, rfl, k + 1, rfl, by omega, fin _ hsn⟩, by dsimp only; omega⟩
      · rw [if_neg (by omega), if_pos (by omega)] at hsn
        exact ⟨by simp [str14]; simp only [List.length_cons] at hl4; omega, ⟨rfl, rfl, k + 1, rfl, by omega, fin _ hsn⟩, by dsimp only; omega⟩
      · rw [if_neg (by omega), if_neg (by omega), if_pos (by omega)] at hsn
        exact ⟨by simp [str15]; simp only [List.length_cons] at hl4; omega, ⟨rfl, rfl, k + 1, rfl, by omega, fin _ hsn⟩, by dsimp only; omega⟩
      · rw [if_neg (by omega), if_neg (by omega), if_neg (by omega), if_pos (by omega)] at hsn
        exact ⟨by simp [str16]; simp only [List.length_cons] at hl4; omega, ⟨rfl, rfl, k + 1, rfl, by omega, fin _ hsn⟩, by dsimp only; omega⟩
      · rw [if_neg (by omega), if_neg (by omega), if_neg (by omega), if_neg (by omega), if_pos (by omega)] at hsn
        exact ⟨by simp [str17]; simp only [List.length_cons] at hl4; omega, ⟨rfl, rfl, k + 1, rfl, by omega, fin _ hsn⟩, by dsimp only; omega⟩
      · rw [if_neg (by omega), if_neg (by omega), if_neg (by omega), if_neg (by omega), if_neg (by omega), if_pos (by omega)] at hsn
        exact ⟨by simp [str18]; simp only [List.length_cons] at hl4; omega, ⟨rfl, rfl, k + 1, rfl, by omega, fin _ hsn⟩, by dsimp only; omega⟩
      · rw [if_neg (by omega), if_neg (by omega), if_neg (by omega), if_neg (by omega), if_neg (by omega), if_neg (by omega), if_pos (by omega)] at hsn
        exact ⟨by simp [str19]; simp only [List.length_cons] at hl4; omega, ⟨rfl, rfl, k + 1, rfl, by omega, fin _ hsn⟩, by dsimp only; omega⟩
      · rw [if_neg (by omega), if_neg (by omega), if_neg (by omega), if_neg (by omega), if_neg (by omega), if_neg (by omega), if_neg (by omega), if_pos (by omega)] at hsn
        refine s16_ok (c := s.getD k 0) rfl ⟨by simp [str20], by simp [str20]; simp only [List.length_cons] at hl4; omega, ⟨rfl, rfl, k + 1, rfl, by omega, fin _ hsn⟩, by dsimp only; omega⟩
      · rw [if_neg (by omega), if_neg (by omega), if_neg (by omega), if_neg (by omega), if_neg (by omega), if_neg (by omega), if_neg (by omega), if_neg (by omega), ← ho] at hsn
        exact ⟨⟨by omega, by omega, by omega⟩, by simp; simp only [List.length_cons] at hl4; omega, ⟨rfl, rfl, k + 1, rfl, by omega, fin _ hsn⟩, by dsimp only; omega⟩
    · rw [List.take_of_length_le (show s.length ≤ k by omega)] at hl4 ⊢
      exact ⟨by simp only [str12, List.length_cons, List.length_nil] at hl4 ⊢; omega, hk1⟩
  · rw [decide_eq_false hb]
    rw [if_neg hb, if_neg hb] at hk
    exact hk st1 e

theorem runquote_ok {s : List UInt8} {st : St} {K : List UInt8 → Int → St → Prop} (hl : s.length ≤ 2000000) (hk : K (uL (unq s)) (eE (unq s)) st) :
    CallT PR fn_datakitref24_Unquote [.str s] [.one (.str), .one (.int .i64)] st K := by
  unfold unq at hk
  have hb : bt s 0 = (s.getD 0 0).toNat := rfl
  refine vc_datakitref24_Unquote s st K (BIf_intro (fun g1 => ?_) fun g1 => ?_)
  · rw [if_pos g1] at hk; exact hk
  rw [if_neg g1] at hk
  have hlen : 0 < s.length := List.length_pos_iff.2 g1
  rw [show Int.toNat (0 : Int) = 0 from rfl]
  refine ⟨⟨by omega, by omega⟩, BIf_intro (fun g2 => ?_) fun g2 => ?_⟩
  · refine vc_datakitref19_Unquote s st _ (BIf_intro (fun g3 => absurd g3 g1) fun _ => ?_)
    rw [show Int.toNat (0 : Int) = 0 from rfl]
    refine ⟨⟨by omega, by omega⟩, BIf_intro (fun g3 => ?_) fun g3 => ?_⟩
    · rw [if_pos (by omega)] at hk; exact hk
    · rw [if_neg (by omega)] at hk
      refine rquoted_ok (i := 0) rfl hl hlen ?_
      rw [show bt s 0 = 34 by omega] at hk
      rw [show qF (s.length + 1) 34 (s.drop (0 + 1)) [] (0 + 1) = qF (s.length + 1) 34 (s.drop 1) [] 1 from rfl]
      cases hq : qF (s.length + 1) 34 (s.drop 1) [] 1 with
      | error er =>
        rw [hq] at hk
        exact BIf_intro (fun _ => hk) fun h => absurd hq (by rw [show er = 0 from Decidable.not_not.1 h]; exact qF_err _ _ _ _ _)
      | ok p =>
        rw [hq] at hk
        simp only at hk
        refine BIf_intro (fun h => absurd rfl h) fun _ => BIf_intro (fun g4 => ?_) fun g4 => ?_
        · rw [if_neg (fun h => g4 (by show (p.2 : Int) = _; omega))] at hk; exact hk
        · rw [if_pos (by have : (p.2 : Int) = (s.length : Int) := Decidable.not_not.1 g4
                         omega)] at hk; exact hk
  · rw [if_neg (by omega)] at hk
    refine single_ok (i := 0) rfl hl hlen ?_
    rw [show bt s 0 = 39 by omega] at hk
    have hs := qF_single (s.length + 1) s 1 1 (by omega) (by omega) (by omega) [] (by rw [List.drop_of_length_le (by simp; omega)])
    rw [show qF (s.length + 1) 39 (s.drop (0 + 1)) [] (0 + 1) = qF (s.length + 1) 39 (s.drop 1) [] 1 from rfl]
    rcases hs with ⟨n, n1, n2, hq⟩ | ⟨er, he, hq⟩
    · rw [hq] at hk ⊢
      simp only at hk
      refine BIf_intro (fun h => absurd rfl h) fun _ => BIf_intro (fun g4 => ?_) fun g4 => ?_
      · rw [if_neg (fun h => g4 (by show ((n + 1 : Nat) : Int) = _; omega))] at hk; exact hk
      · have : ((n + 1 : Nat) : Int) = (s.length : Int) := Decidable.not_not.1 g4
        rw [if_pos (by omega)] at hk
        have w : IntKind.i64.wrap (qN (.ok ((s.take n).drop 1, n + 1)) - 1) = (n : Int) := by
          show IntKind.i64.wrap (((n + 1 : Nat) : Int) - 1) = _
          rw [wrap64 _ (by omega) (by omega)]; omega
        rw [w]
        exact ⟨⟨by omega, by omega, by omega⟩, hk⟩
    · rw [hq] at hk ⊢
      exact BIf_intro (fun _ => hk) fun h => absurd (Decidable.not_not.1 h) he

theorem rbare_ok {s : List UInt8} {st : St} {K : Bool → St → Prop} (hl : s.length ≤ 2000000) (hk : K (decide (s ≠ []) && decide (twl bareB s = s.length)) st) :
    CallT PR fn_datakitref24_Bare [.str s] [.one (.bool)] st K := by
  have htl := twl_le bareB s
  refine vc_datakitref24_Bare s st K ⟨fun i s' st' => s = s' ∧ st = st' ∧ ∃ k : Nat, i = (k : Int) ∧ k ≤ s.length ∧ k + twl bareB (s.drop k) = twl bareB s, fun i _ _ => (s.length - i).toNat, ⟨rfl, rfl, 0, rfl, by omega, by simp⟩, ?_⟩
  rintro _ _ _ ⟨rfl, rfl, k, rfl, h1, h2⟩
  rw [show Int.toNat (k : Int) = k from rfl]
  refine BIf_intro (fun g1 => ?_) fun g1 => ?_
  · have hd := twl_drop bareB s k (by omega)
    have w : IntKind.i64.wrap ((k : Int) + 1) = ((k + 1 : Nat) : Int) := by rw [wrap64 _ (by omega) (by omega)]; omega
    rw [w]
    have yes : bareB ((s.getD k 0).toNat : Int) = true → (k + 1) + twl bareB (s.drop (k + 1)) = twl bareB s := fun h => by
      rw [if_pos h] at hd; omega
    have no : bareB ((s.getD k 0).toNat : Int) = false → K false st := fun h => by
      rw [if_neg (by rw [h]; decide)] at hd
      rw [decide_eq_false (show ¬ twl bareB s = s.length by omega), Bool.and_false] at hk
      exact hk
    have hc : ∀ p : Prop, [Decidable p] → bareB ((s.getD k 0).toNat : Int) = decide (97 ≤ ((s.getD k 0).toNat : Int) ∧ ((s.getD k 0).toNat : Int) ≤ 122 ∨ 65 ≤ ((s.getD k 0).toNat : Int) ∧ ((s.getD k 0).toNat : Int) ≤ 90 ∨ 48 ≤ ((s.getD k 0).toNat : Int) ∧ ((s.getD k 0).toNat : Int) ≤ 57 ∨ ((s.getD k 0).toNat : Int) = 95 ∨ ((s.getD k 0).toNat : Int) = 45) := fun _ _ => rfl
    have hc := hc True
    refine ⟨⟨by omega, by omega⟩, letter_ok ?_⟩
    unfold letterB
    have fin : bareB ((s.getD k 0).toNat : Int) = true → (fun i s' st' => s = s' ∧ st = st' ∧ ∃ k : Nat, i = (k : Int) ∧ k ≤ s.length ∧ k + twl bareB (s.drop k) = twl bareB s) ((k + 1 : Nat) : Int) s st ∧ ((s.length : Int) - ((k + 1 : Nat) : Int)).toNat < ((s.length : Int) - (k : Int)).toNat := fun h => ⟨⟨rfl, rfl, k + 1, rfl, by omega, yes h⟩, by omega⟩
    refine BIf_bool (fun q1 => ?_) fun q1 => fin ?_
    · refine ⟨⟨by omega, by omega⟩, digit_ok ?_⟩
      unfold digitB
      refine BIf_bool (fun q2 => ⟨⟨by omega, by omega⟩, BIf_intro (fun q3 => ⟨⟨by omega, by omega⟩, BIf_intro (fun q4 => no ?_) fun q4 => fin ?_⟩) fun q3 => fin ?_⟩) fun q2 => fin ?_
      all_goals simp only [Bool.not_eq_true', decide_eq_false_iff_not, Bool.not_eq_false', decide_eq_true_eq] at q1 q2
      all_goals rw [hc]
      · exact decide_eq_false (by omega)
      all_goals exact decide_eq_true (by omega)
    · simp only [Bool.not_eq_true', decide_eq_false_iff_not, Bool.not_eq_false', decide_eq_true_eq] at q1
      rw [hc]; exact decide_eq_true (by omega)
  · rw [show s.drop k = [] from List.drop_of_length_le (by omega)] at h2
    simp only [twl] at h2
    rw [decide_eq_true (show twl bareB s = s.length by omega), Bool.and_true] at hk
    exact hk

/-- The law TablelexQuotes. -/
theorem lquotes_ok {s t : List UInt8} {st : St} {K : Bool → St → Prop} (hk : ∀ st', StExt st st' → K true st') : CallT PR fn_datakitlaw24_TablelexQuotes [.str s, .str t] [.one (.bool)] st K := by
  refine vc_datakitlaw24_TablelexQuotes s t st K (BIf_intro (fun g1 => awake_ok hk) fun g1 => BIf_intro (fun g2 => awake_ok hk) fun g2 => ?_)
  refine quote_ok (by omega) fun st1 e1 => vc_datakitref24_Quote s st1 _ (rquote_ok (by omega) fun st2 e2 => unquote_ok (by omega) fun st3 e3 => runquote_ok (by omega) ?_)
  refine BIf_intro (fun _ => BIf_intro (fun _ => BIf_intro (fun _ => BIf_intro (fun _ => ?_) fun h => absurd rfl h) fun h => absurd rfl h) fun h => absurd rfl h) fun h => absurd rfl h
  refine bare_ok (by omega) fun st4 e4 => rbare_ok (by omega) ?_
  refine BIf_bool (fun _ => awake_ok fun st5 e5 => hk _ (e1.trans (e2.trans (e3.trans (e4.trans e5))))) fun h => ?_
  simp at h
end Go.TVF
