/- What the laws below rest on: a framework for Go programs, and contracts of the functions that they reach. -/
import Derived.Test.YtagglahlkknacaaGreatDoorDeE
section
namespace Go.TVF
open Go Go.Proofs
set_option linter.unusedVariables false
set_option linter.unusedSimpArgs false
theorem expT_eq (p : Int) : expT p = if p < 1 then 101 :: 45 :: whN (1 - p).toNat else 101 :: whN (p - 1).toNat := by
  unfold expT; split <;> rfl
def sgnT (neg : Bool) : List UInt8 := if neg then [45] else []
theorem sgnT_len (neg : Bool) : (sgnT neg).length ≤ 1 := by cases neg <;> decide
theorem whN_len {n : Nat} (h : n < 10 ^ 18) : (whN n).length ≤ 18 := by
  unfold whN; split
  · decide
  · exact natD_len 18 n h
theorem dText_ok {neg : Bool} {dg : List UInt8} {ex : Int} (h : DecOk neg dg ex) {st : St} {K : List UInt8 → St → Prop} (hk : ∀ st', StExt st st' → K (dcT neg dg ex) st') : CallT PR fn_decimal_Text [.agg [.bool neg, .str dg, .int .i64 ex]] [.one .str] st K := by
  have e0 := StExt.refl st
  unfold dcT at hk
  by_cases hne : dg = []
  · rw [if_pos hne] at hk
    refine vc_decimal_Text neg dg ex st K ⟨fun _ _ _ _ => False, BIf_intro (fun _ => hk st e0) fun g => absurd hne g, fun _ _ _ _ h => h.elim⟩
  rw [if_neg hne] at hk
  obtain ⟨h1, h2, h3, h4, h5, h6⟩ := h.2 hne
  have hpos := List.length_pos_iff.2 hne
  have hs := sgnT_len neg
  have hw : IntKind.i64.wrap ((dg.length : Int) + ex) = dg.length + ex := wrap64 _ (by omega) (by omega)
  refine vc_decimal_Text neg dg ex st K ⟨fun b s n st' => neg = b ∧ dg = s ∧ ex = n ∧ st = st', BIf_intro (fun g => absurd g hne) fun _ => decValid_ok (by omega) ?_, ?_⟩
  · rw [decide_eq_true h]
    exact ⟨rfl, rfl, rfl, rfl⟩
  rintro _ _ _ _ ⟨rfl, rfl, rfl, rfl⟩
  refine ⟨fun s b s1 n st' => sgnT neg = s ∧ neg = b ∧ dg = s1 ∧ ex = n ∧ st = st', BIf_bool (fun hb => ⟨by rw [hb]; rfl, rfl, rfl, rfl, rfl⟩) fun hb => ⟨by rw [hb]; rfl, rfl, rfl, rfl, rfl⟩, ?_⟩
  rintro _ _ _ _ _ ⟨rfl, rfl, rfl, rfl, rfl⟩
  rw [hw]
  have hk' := hk
  rw [show (if neg = true then [45] else []) = sgnT neg from rfl] at hk
  refine ⟨fun s n p b s2 n2 st' => sgnT neg = s ∧ (dg.length : Int) = n ∧ (dg.length : Int) + ex = p ∧ dg = s2 ∧ st = st' ∧ ¬ (0 ≤ ex ∧ dg.length + ex ≤ 21) ∧ ¬ (ex < 0 ∧ 1 ≤ dg.length + ex ∧ dg.length + ex ≤ 21) ∧ ¬ (-5 ≤ dg.length + ex ∧ dg.length + ex ≤ 0), ?_, ?_⟩
  · refine ⟨fun b s n p b4 s3 n3 st' => b = decide (0 ≤ ex ∧ dg.length + ex ≤ 21) ∧ sgnT neg = s ∧ (dg.length : Int) = n ∧ (dg.length : Int) + ex = p ∧ dg = s3 ∧ ex = n3 ∧ st = st', ?_, ?_⟩
    · refine BIf_intro (fun g => ⟨?_, rfl, rfl, rfl, rfl, rfl, rfl⟩) fun g => ⟨?_, rfl, rfl, rfl, rfl, rfl, rfl⟩
      · exact decide_eq_decide.2 ⟨fun g2 => ⟨g, g2⟩, fun g2 => g2.2⟩
      · exact (decide_eq_false fun g2 => g g2.1).symm
    rintro _ _ _ _ _ _ _ _ ⟨rfl, rfl, rfl, rfl, rfl, rfl, rfl⟩
    refine BIf_intro (fun g => ?_) fun g => ?_
    · rw [if_pos g] at hk
      obtain ⟨g1, g2⟩ := g
      obtain ⟨m, rfl⟩ : ∃ m : Nat, ex = m := ⟨ex.toNat, by omega⟩
      refine ⟨by omega, repeat_ok (by omega) ⟨by rw [List.length_append, zs_len]; omega, ?_⟩⟩
      have := hk st e0
      rw [Int.toNat_natCast, ← List.append_assoc] at this
      exact this
    rw [if_neg g] at hk
    refine ⟨fun b s n p b5 s5 n4 st' => b = decide (ex < 0 ∧ 1 ≤ dg.length + ex ∧ dg.length + ex ≤ 21) ∧ sgnT neg = s ∧ (dg.length : Int) = n ∧ (dg.length : Int) + ex = p ∧ dg = s5 ∧ ex = n4 ∧ st = st', ?_, ?_⟩
    · refine BIf_intro (fun g1 => BIf_intro (fun g2 => ⟨?_, rfl, rfl, rfl, rfl, rfl, rfl⟩) fun g2 => ⟨?_, rfl, rfl, rfl, rfl, rfl, rfl⟩) fun g1 => ⟨?_, rfl, rfl, rfl, rfl, rfl, rfl⟩
      · exact decide_eq_decide.2 ⟨fun g3 => ⟨g1, g2, g3⟩, fun g3 => g3.2.2⟩
      · exact (decide_eq_false fun g3 => g2 g3.2.1).symm
      · exact (decide_eq_false fun g3 => g1 g3.1).symm
    rintro _ _ _ _ _ _ _ _ ⟨rfl, rfl, rfl, rfl, rfl, rfl, rfl⟩
    refine BIf_intro (fun g2 => ?_) fun g2 => ?_
    · rw [if_pos g2] at hk
      obtain ⟨g3, g4, g5⟩ := g2
      have hlt : (List.take (Int.toNat ((dg.length : Int) + ex)) dg).length ≤ dg.length := by rw [List.length_take]; omega
      have hld : (List.drop (Int.toNat ((dg.length : Int) + ex)) dg).length ≤ dg.length := by rw [List.length_drop]; omega
      refine ⟨⟨by omega, by omega⟩, by omega, by rw [List.length_append]; show _ + 1 ≤ _; omega, ⟨by omega, by omega⟩, by simp only [List.length_append]; show _ + 1 + _ ≤ _; omega, ?_⟩
      have := hk st e0
      rw [← List.append_assoc, List.append_cons] at this
      exact this
    rw [if_neg g2] at hk
    refine BIf_intro (fun g3 => BIf_intro (fun g4 => ?_) fun g4 => ⟨rfl, rfl, rfl, rfl, rfl, g, g2, fun g5 => g4 g5.2⟩) fun g3 => ⟨rfl, rfl, rfl, rfl, rfl, g, g2, fun g5 => g3 g5.1⟩
    rw [if_pos ⟨g3, g4⟩] at hk
    obtain ⟨m, hm⟩ : ∃ m : Nat, (0 : Int) - ((dg.length : Int) + ex) = m := ⟨(0 - ((dg.length : Int) + ex)).toNat, by omega⟩
    rw [wrap64 _ (by omega) (by omega), hm]
    have hm2 : (-((dg.length : Int) + ex)).toNat = m := by omega
    rw [hm2] at hk
    refine ⟨by show _ + 2 ≤ _; omega, repeat_ok (by omega) ⟨by rw [List.length_append, zs_len]; show _ + 2 + _ ≤ _; omega, by simp only [List.length_append, zs_len]; show _ + 2 + _ + _ ≤ _; omega, ?_⟩⟩
    have := hk st e0
    rw [List.append_cons, List.append_cons, ← List.append_assoc, List.append_assoc (sgnT neg)] at this
    exact this
  · rintro _ _ _ _ _ _ _ ⟨rfl, rfl, rfl, rfl, rfl, g1, g2, g3⟩
    rw [if_neg g1, if_neg g2, if_neg g3, expT_eq] at hk
    have ht1 : (List.take (Int.toNat 1) dg).length = 1 := by rw [List.length_take]; omega
    have hd1 : (List.drop (Int.toNat 1) dg).length ≤ dg.length := by rw [List.length_drop]; omega
    refine ⟨⟨by omega, by omega⟩, by omega, fun s p st' => sgnT neg ++ (dg.take 1 ++ (if 1 < dg.length then 46 :: dg.drop 1 else [])) = s ∧ (dg.length : Int) + ex = p ∧ st = st', ?_, ?_⟩
    · refine BIf_intro (fun g4 => ⟨⟨by omega, by omega⟩, by show 1 + _ ≤ _; omega, by simp only [List.length_append]; show _ + (1 + _) ≤ _; omega, ?_, rfl, rfl⟩) fun g4 => ⟨?_, rfl, rfl⟩
      · rw [if_pos (by omega), List.append_assoc]; rfl
      · rw [if_neg (by omega), List.append_nil]; rfl
    rintro s _ _ ⟨hs0, rfl, rfl⟩
    have hsl : s.length ≤ 300 := by
      rw [← hs0]
      have : (if 1 < dg.length then 46 :: dg.drop 1 else []).length ≤ dg.length := by
        split
        · rw [List.length_cons, List.length_drop]; omega
        · simp
      simp only [List.length_append, List.length_take]; omega
    refine BIf_intro (fun g4 => ?_) fun g4 => ?_
    · rw [if_pos g4] at hk
      obtain ⟨m, hm⟩ : ∃ m : Nat, (1 : Int) - ((dg.length : Int) + ex) = m := ⟨(1 - ((dg.length : Int) + ex)).toNat, by omega⟩
      have hwl := whN_len (n := m) (by omega)
      rw [wrap64 _ (by omega) (by omega), hm]
      refine ⟨by show _ + 2 ≤ _; omega, whole_ok (by omega) fun st' e' => ⟨by rw [List.length_append]; show _ + 2 + _ ≤ _; omega, ?_⟩⟩
      have := hk st' e'
      rw [← List.append_assoc (dg.take 1), ← List.append_assoc (sgnT neg), hs0, hm, Int.toNat_natCast, List.append_cons, List.append_cons, List.append_assoc s] at this
      exact this
    · rw [if_neg g4] at hk
      obtain ⟨m, hm⟩ : ∃ m : Nat, ((dg.length : Int) + ex) - 1 = m := ⟨(((dg.length : Int) + ex) - 1).toNat, by omega⟩
      have hwl := whN_len (n := m) (by omega)
      rw [wrap64 _ (by omega) (by omega), hm]
      refine ⟨by show _ + 1 ≤ _; omega, whole_ok (by omega) fun st' e' => ⟨by rw [List.length_append]; show _ + 1 + _ ≤ _; omega, ?_⟩⟩
      have := hk st' e'
      rw [← List.append_assoc (dg.take 1), ← List.append_assoc (sgnT neg), hs0, hm, Int.toNat_natCast, List.append_cons] at this
      exact this
theorem rdText_ok {neg : Bool} {dg : List UInt8} {ex : Int} (h : DecOk neg dg ex) {st : St} {K : List UInt8 → St → Prop} (hk : ∀ st', StExt st st' → K (dcT neg dg ex) st') : CallT PR fn_datakitref02_Text [.agg [.bool neg, .str dg, .int .i64 ex]] [.one .str] st K := by
  have e0 := StExt.refl st
  unfold dcT at hk
  by_cases hne : dg = []
  · rw [if_pos hne] at hk
    exact vc_datakitref02_Text neg dg ex st K (BIf_intro (fun _ => hk st e0) fun g => absurd hne g)
  rw [if_neg hne] at hk
  obtain ⟨h1, h2, h3, h4, h5, h6⟩ := h.2 hne
  have hpos := List.length_pos_iff.2 hne
  have hs := sgnT_len neg
  have hw : IntKind.i64.wrap ((dg.length : Int) + ex) = dg.length + ex := wrap64 _ (by omega) (by omega)
  refine vc_datakitref02_Text neg dg ex st K (BIf_intro (fun g => absurd g hne) fun _ => ⟨fun s b s1 n st' => sgnT neg = s ∧ neg = b ∧ dg = s1 ∧ ex = n ∧ st = st', BIf_bool (fun hb => ⟨by rw [hb]; rfl, rfl, rfl, rfl, rfl⟩) fun hb => ⟨by rw [hb]; rfl, rfl, rfl, rfl, rfl⟩, ?_⟩)
  rintro _ _ _ _ _ ⟨rfl, rfl, rfl, rfl, rfl⟩
  rw [hw]
  rw [show (if neg = true then [45] else []) = sgnT neg from rfl] at hk
  have ht1 : (List.take (Int.toNat 1) dg).length = 1 := by rw [List.length_take]; omega
  have hd1 : (List.drop (Int.toNat 1) dg).length ≤ dg.length := by rw [List.length_drop]; omega
  refine ⟨fun s p b s2 n2 st' => sgnT neg = s ∧ (dg.length : Int) + ex = p ∧ dg = s2 ∧ ex = n2 ∧ st = st' ∧ ¬ (0 ≤ ex ∧ dg.length + ex ≤ 21), ?_, ?_⟩
  · refine BIf_intro (fun g1 => BIf_intro (fun g2 => ?_) fun g2 => ⟨rfl, rfl, rfl, rfl, rfl, fun g => g2 g.2⟩) fun g1 => ⟨rfl, rfl, rfl, rfl, rfl, fun g => g1 g.1⟩
    rw [if_pos ⟨g1, g2⟩] at hk
    obtain ⟨m, rfl⟩ : ∃ m : Nat, ex = m := ⟨ex.toNat, by omega⟩
    refine ⟨by omega, noughts_ok (by omega) fun st' e' => ⟨by rw [List.length_append, zs_len]; omega, ?_⟩⟩
    have := hk st' e'
    rw [Int.toNat_natCast, ← List.append_assoc] at this
    exact this
  rintro _ _ _ _ _ _ ⟨rfl, rfl, rfl, rfl, rfl, g⟩
  rw [if_neg g] at hk
  refine ⟨fun s p b s2 n2 st' => sgnT neg = s ∧ (dg.length : Int) + ex = p ∧ dg = s2 ∧ ex = n2 ∧ st = st' ∧ ¬ (ex < 0 ∧ 1 ≤ dg.length + ex ∧ dg.length + ex ≤ 21), ?_, ?_⟩
  · refine BIf_intro (fun g1 => BIf_intro (fun g2 => BIf_intro (fun g3 => ?_) fun g3 => ⟨rfl, rfl, rfl, rfl, rfl, fun g => g3 g.2.2⟩) fun g2 => ⟨rfl, rfl, rfl, rfl, rfl, fun g => g2 g.2.1⟩) fun g1 => ⟨rfl, rfl, rfl, rfl, rfl, fun g => g1 g.1⟩
    rw [if_pos ⟨g1, g2, g3⟩] at hk
    have hlt : (List.take (Int.toNat ((dg.length : Int) + ex)) dg).length ≤ dg.length := by rw [List.length_take]; omega
    have hld : (List.drop (Int.toNat ((dg.length : Int) + ex)) dg).length ≤ dg.length := by rw [List.length_drop]; omega
    refine ⟨⟨by omega, by omega⟩, by omega, by rw [List.length_append]; show _ + 1 ≤ _; omega, ⟨by omega, by omega⟩, by simp only [List.length_append]; show _ + 1 + _ ≤ _; omega, ?_⟩
    have := hk st e0
    rw [← List.append_assoc, List.append_cons] at this
    exact this
  rintro _ _ _ _ _ _ ⟨rfl, rfl, rfl, rfl, rfl, g2⟩
  rw [if_neg g2] at hk
  refine ⟨fun s p b s2 n2 st' => sgnT neg = s ∧ (dg.length : Int) + ex = p ∧ dg = s2 ∧ st = st' ∧ ¬ (-5 ≤ dg.length + ex ∧ dg.length + ex ≤ 0), ?_, ?_⟩
  · refine BIf_intro (fun g3 => BIf_intro (fun g4 => ?_) fun g4 => ⟨rfl, rfl, rfl, rfl, fun g => g4 g.2⟩) fun g3 => ⟨rfl, rfl, rfl, rfl, fun g => g3 g.1⟩
    rw [if_pos ⟨g3, g4⟩] at hk
    obtain ⟨m, hm⟩ : ∃ m : Nat, (0 : Int) - ((dg.length : Int) + ex) = m := ⟨(0 - ((dg.length : Int) + ex)).toNat, by omega⟩
    rw [wrap64 _ (by omega) (by omega), hm]
    have hm2 : (-((dg.length : Int) + ex)).toNat = m := by omega
    rw [hm2] at hk
    refine ⟨by show _ + 2 ≤ _; omega, noughts_ok (by omega) fun st' e' => ⟨by rw [List.length_append, zs_len]; show _ + 2 + _ ≤ _; omega, by simp only [List.length_append, zs_len]; show _ + 2 + _ + _ ≤ _; omega, ?_⟩⟩
    have := hk st' e'
    rw [List.append_cons, List.append_cons, ← List.append_assoc, List.append_assoc (sgnT neg)] at this
    exact this
  rintro _ _ _ _ _ _ ⟨rfl, rfl, rfl, rfl, g3⟩
  rw [if_neg g3, expT_eq] at hk
  have hnum : ∀ st', StExt st st' → (if (dg.length : Int) + ex - 1 < 0 then 45 :: whN ((dg.length : Int) + ex - 1).natAbs else whN ((dg.length : Int) + ex - 1).natAbs) = (if (dg.length : Int) + ex < 1 then 45 :: whN (1 - ((dg.length : Int) + ex)).toNat else whN ((dg.length : Int) + ex - 1).toNat) := fun _ _ => by
    by_cases g5 : (dg.length : Int) + ex < 1
    · rw [if_pos (by omega), if_pos g5, show ((dg.length : Int) + ex - 1).natAbs = (1 - ((dg.length : Int) + ex)).toNat by omega]
    · rw [if_neg (by omega), if_neg g5, show ((dg.length : Int) + ex - 1).natAbs = ((dg.length : Int) + ex - 1).toNat by omega]
  have hn0 := hnum st e0
  have hnl : (if (dg.length : Int) + ex < 1 then 45 :: whN (1 - ((dg.length : Int) + ex)).toNat else whN ((dg.length : Int) + ex - 1).toNat).length ≤ 19 := by
    split
    · have := whN_len (n := (1 - ((dg.length : Int) + ex)).toNat) (by omega)
      rw [List.length_cons]; omega
    · have := whN_len (n := ((dg.length : Int) + ex - 1).toNat) (by omega)
      omega
  have hexp : (if (dg.length : Int) + ex < 1 then 101 :: 45 :: whN (1 - ((dg.length : Int) + ex)).toNat else 101 :: whN ((dg.length : Int) + ex - 1).toNat) = 101 :: (if (dg.length : Int) + ex < 1 then 45 :: whN (1 - ((dg.length : Int) + ex)).toNat else whN ((dg.length : Int) + ex - 1).toNat) := by split <;> rfl
  rw [hexp] at hk
  rw [wrap64 ((dg.length : Int) + ex - 1) (by omega) (by omega)]
  refine ⟨⟨by omega, by omega⟩, by omega, BIf_intro (fun g4 => ?_) fun g4 => ?_⟩
  · rw [if_pos (by omega)] at hk
    refine ⟨by rw [List.length_append]; show _ + 1 ≤ _; omega, ⟨by omega, by omega⟩, by simp only [List.length_append]; show _ + 1 + _ ≤ _; omega, by simp only [List.length_append]; show _ + 1 + _ + 1 ≤ _; omega, rnumberI_ok (by omega) (by omega) ?_⟩
    rw [hn0]
    refine ⟨by simp only [List.length_append]; show _ + 1 + _ + 1 + _ ≤ _; omega, ?_⟩
    have := hk st e0
    generalize (if (dg.length : Int) + ex < 1 then 45 :: whN (1 - ((dg.length : Int) + ex)).toNat else whN ((dg.length : Int) + ex - 1).toNat) = X at this ⊢
    have e : sgnT neg ++ (dg.take 1 ++ (46 :: dg.drop 1 ++ 101 :: X)) = ((((sgnT neg ++ dg.take 1) ++ [46]) ++ dg.drop 1) ++ [101]) ++ X := by simp only [List.append_assoc, List.cons_append, List.nil_append]
    rw [e] at this
    exact this
  · rw [if_neg (by omega), List.nil_append] at hk
    refine ⟨by rw [List.length_append]; show _ + 1 ≤ _; omega, rnumberI_ok (by omega) (by omega) ?_⟩
    rw [hn0]
    refine ⟨by simp only [List.length_append]; show _ + 1 + _ ≤ _; omega, ?_⟩
    have := hk st e0
    rw [← List.append_assoc, List.append_cons] at this
    exact this
end Go.TVF
end

section
namespace Go.TVF
open Go Go.Proofs
set_option linter.unusedVariables false
set_option linter.unusedSimpArgs false
/-- The days of a month, none where there is no such month. -/
def monX (y m : Nat) : Nat := if 1 ≤ y ∧ y ≤ 9999 ∧ 1 ≤ m ∧ m ≤ 12 then monD y m else 0
theorem monX_of {y m : Nat} (h1 : 1 ≤ y) (h2 : y ≤ 9999) (h3 : 1 ≤ m) (h4 : m ≤ 12) : monX y m = monD y m := if_pos ⟨h1, h2, h3, h4⟩
theorem calValid_ok {y : Nat} {st : St} {K : Bool → St → Prop} (hk : K (decide (1 ≤ y ∧ y ≤ 9999)) st) : CallT PR fn_calendar_valid [.int .i64 (y : Int)] [.one .bool] st K := by
  refine vc_calendar_valid _ st K (BIf_intro (fun g => ?_) fun g => ?_)
  · exact K_eq (decide_eq_decide.2 ⟨fun h => by omega, fun h => by omega⟩) hk
  · rw [decide_eq_false (by omega)] at hk; exact hk
theorem calLeap_ok {y : Nat} (h1 : 1 ≤ y) (h2 : y ≤ 9999) {st : St} {K : Bool → St → Prop} (hk : K (decide (leapY y)) st) : CallT PR fn_calendar_Leap [.int .i64 (y : Int)] [.one .bool] st K := by
  refine vc_calendar_Leap _ st K (calValid_ok ?_)
  rw [decide_eq_true ⟨h1, h2⟩, Int.tmod_eq_emod_of_nonneg (by omega), Int.tmod_eq_emod_of_nonneg (by omega), Int.tmod_eq_emod_of_nonneg (by omega)]
  unfold leapY at hk
  refine BIf_intro (p := True) (fun _ => BIf_intro (fun g => BIf_intro (fun g2 => ?_) fun g2 => ?_) fun g => ?_) (fun h => absurd trivial h)
  · exact K_eq (decide_eq_true (show y % 4 = 0 ∧ (y % 100 ≠ 0 ∨ y % 400 = 0) from ⟨by omega, .inl (by omega)⟩) |>.symm) hk
  · exact K_eq (decide_eq_decide.2 ⟨fun h => ⟨by omega, .inr (by omega)⟩, fun h => by omega⟩) hk
  · exact K_eq (decide_eq_false (show ¬ (y % 4 = 0 ∧ (y % 100 ≠ 0 ∨ y % 400 = 0)) from fun h => by omega) |>.symm) hk
theorem days_ix : ∀ k : Nat, k < 12 → k ≠ 1 → (([.int .i64 31, .int .i64 28, .int .i64 31, .int .i64 30, .int .i64 31, .int .i64 30, .int .i64 31, .int .i64 31, .int .i64 30, .int .i64 31, .int .i64 30, .int .i64 31] : List TV)[(0 + k * 1) + 0]?) = some (.int .i64 (if k + 1 = 4 ∨ k + 1 = 6 ∨ k + 1 = 9 ∨ k + 1 = 11 then 30 else 31))
  | 0, _, _ => rfl
  | 1, _, h => absurd rfl h
  | 2, _, _ => rfl
  | 3, _, _ => rfl
  | 4, _, _ => rfl
  | 5, _, _ => rfl
  | 6, _, _ => rfl
  | 7, _, _ => rfl
  | 8, _, _ => rfl
  | 9, _, _ => rfl
  | 10, _, _ => rfl
  | 11, _, _ => rfl
  | k + 12, h, _ => by omega
theorem calMonth_ok {y m : Nat} (hm : m ≤ 1000000) {st : St} {K : Int → St → Prop} (hk : K (monX y m : Nat) st) : CallT PR fn_calendar_Month [.int .i64 (y : Int), .int .i64 (m : Int)] [.one (.int .i64)] st K := by
  unfold monX at hk
  refine vc_calendar_Month _ _ st K (calValid_ok ?_)
  by_cases hy : 1 ≤ y ∧ y ≤ 9999
  · rw [decide_eq_true hy]
    refine BIf_intro (p := False) (fun h => h.elim) fun _ => BIf_intro (fun g => ?_) fun g => BIf_intro (fun g2 => ?_) fun g2 => ?_
    · rw [if_neg (by omega)] at hk; exact hk
    · rw [if_neg (by omega)] at hk; exact hk
    · rw [if_pos (by omega)] at hk
      unfold monD at hk
      rw [wrap64 _ (by omega) (by omega)]
      refine BIf_intro (fun g3 => calLeap_ok hy.1 hy.2 (BIf_intro (fun g4 => ?_) fun g4 => ?_)) fun g3 => ⟨⟨by omega, by omega⟩, ?_⟩
      · rw [if_pos (by omega), if_pos g4] at hk; exact hk
      · rw [if_pos (by omega), if_neg g4] at hk
        refine ⟨⟨by omega, by omega⟩, ?_⟩
        have : m = 2 := by omega
        subst this
        exact optK_intro (x := .int .i64 28) rfl (decT_int hk)
      · rw [if_neg (by omega)] at hk
        obtain ⟨k, rfl⟩ : ∃ k, m = k + 1 := ⟨m - 1, by omega⟩
        rw [show (((k + 1 : Nat) : Int) - 1) = (k : Int) by omega, Int.toNat_natCast]
        refine optK_intro (days_ix k (by omega) (by omega)) (decT_int ?_)
        split
        · rename_i h; rw [if_pos h] at hk; exact hk
        · rename_i h; rw [if_neg h] at hk; exact hk
  · rw [decide_eq_false hy]
    refine BIf_intro (p := True) (fun _ => ?_) fun h => absurd trivial h
    rw [if_neg (fun h => hy ⟨h.1, h.2.1⟩)] at hk; exact hk
theorem calStart_ok {y : Nat} (h1 : 1 ≤ y) (h2 : y ≤ 1000000) {st : St} {K : Int → St → Prop} (hk : K (yrS y : Nat) st) : CallT PR fn_calendar_start [.int .i64 (y : Int)] [.one (.int .i64)] st K := by
  refine vc_calendar_start _ st K ?_
  obtain ⟨k, rfl⟩ : ∃ k, y = k + 1 := ⟨y - 1, by omega⟩
  unfold yrS at hk
  rw [Nat.add_sub_cancel] at hk
  rw [show (((k + 1 : Nat) : Int) - 1) = (k : Int) by omega, wrap64 (k : Int) (by omega) (by omega), Int.tdiv_eq_ediv_of_nonneg (by omega), Int.tdiv_eq_ediv_of_nonneg (by omega), Int.tdiv_eq_ediv_of_nonneg (by omega)]
  rw [wrap64 (365 * (k : Int)) (by omega) (by omega), wrap64 ((k : Int) / 4) (by omega) (by omega), wrap64 ((k : Int) / 100) (by omega) (by omega), wrap64 ((k : Int) / 400) (by omega) (by omega), wrap64 (365 * (k : Int) + (k : Int) / 4) (by omega) (by omega), wrap64 (365 * (k : Int) + (k : Int) / 4 - (k : Int) / 100) (by omega) (by omega), wrap64 _ (by omega) (by omega)]
  have e : (((365 * k + k / 4 - k / 100 + k / 400 : Nat) : Nat) : Int) = 365 * (k : Int) + (k : Int) / 4 - (k : Int) / 100 + (k : Int) / 400 := by omega
  rw [e] at hk; exact hk
theorem dateTail_ok {n y : Nat} (hy : 1 ≤ y) (hy2 : y ≤ 9999) (h1 : yrS y ≤ n) (h2 : n < yrS (y + 1)) (hn : n ≤ 3652058) {st : St} {K : Int → Int → Int → Int → St → Prop} (hk : ∀ m d : Nat, IsDate n y m d → K y m d 0 st) :
    ∃ (I2 : Int → Int → Int → St → Prop) (M2 : Int → Int → Int → St → Nat), (I2 1 (IntKind.i64.wrap ((n : Int) - (yrS y : Nat))) (y : Int) st) ∧ ∀ (month_1 : Int) (rest_1 : Int) (year_2 : Int) (st5 : St), I2 month_1 rest_1 year_2 st5 → (
      CallT PR fn_calendar_Month [.int .i64 year_2, .int .i64 month_1] [.one (.int .i64)] st5 (fun (n3 : Int) (st6 : St) => BIf (decide (n3 ≤ rest_1)) (
        CallT PR fn_calendar_Month [.int .i64 year_2, .int .i64 month_1] [.one (.int .i64)] st6 (fun (n4 : Int) (st7 : St) => (I2 (IntKind.i64.wrap (month_1 + 1)) (IntKind.i64.wrap (rest_1 - n4)) year_2 st7 ∧ M2 (IntKind.i64.wrap (month_1 + 1)) (IntKind.i64.wrap (rest_1 - n4)) year_2 st7 < M2 month_1 rest_1 year_2 st5)))
        (K year_2 month_1 (IntKind.i64.wrap (rest_1 + 1)) 0 st6))) := by
  rw [wrap64 _ (by omega) (by omega)]
  refine ⟨fun mo re ye st' => (y : Int) = ye ∧ st = st' ∧ ∃ m : Nat, mo = m ∧ 1 ≤ m ∧ m ≤ 12 ∧ re = ((n - yrS y - monS y m : Nat) : Int) ∧ monS y m ≤ n - yrS y, fun mo _ _ _ => (13 - mo).toNat, ⟨rfl, rfl, 1, rfl, by omega, by omega, by show _ = ((n - yrS y - 0 : Nat) : Int); omega, Nat.zero_le _⟩, ?_⟩
  rintro _ _ _ _ ⟨rfl, rfl, m, rfl, hm1, hm2, rfl, hm3⟩
  refine calMonth_ok (by omega) ?_
  rw [monX_of hy hy2 hm1 hm2]
  have hs := monS_succ y hm1
  have hle := monD_le y m
  refine BIf_intro (fun g => calMonth_ok (by omega) ?_) fun g => ?_
  · rw [monX_of hy hy2 hm1 hm2, wrap64 _ (by omega) (by omega), wrap64 _ (by omega) (by omega)]
    have hm : m ≠ 12 := fun e => by
      subst e
      rw [yrS_succ hy] at h2; omega
    exact ⟨⟨rfl, rfl, m + 1, by omega, by omega, by omega, by rw [hs]; omega, by rw [hs]; omega⟩, by dsimp only; omega⟩
  · rw [wrap64 _ (by omega) (by omega)]
    have := hk m (n - yrS y - monS y m + 1) ⟨hy, hy2, hm1, hm2, by omega, by omega, by omega⟩
    exact this
set_option maxRecDepth 20000 in
theorem date_ok {n : Nat} (hn : n ≤ 3652058) {st : St} {K : Int → Int → Int → Int → St → Prop} (hk : ∀ y m d : Nat, IsDate n y m d → K y m d 0 st) : CallT PR fn_calendar_Date [.int .i64 (n : Int)] [.one (.int .i64), .one (.int .i64), .one (.int .i64), .one (.int .i64)] st K := by
  refine vc_calendar_Date _ st K (vc_calendar_known _ st _ (BIf_intro (fun _ => ?_) fun g => by omega))
  rw [decide_eq_true (by omega)]
  refine BIf_intro (p := False) (fun h => h.elim) fun _ => ?_
  rw [Int.tdiv_eq_ediv_of_nonneg (by omega), wrap64 ((n : Int) / 366) (by omega) (by omega), wrap64 _ (by omega) (by omega)]
  refine ⟨fun ye n1 st' => (n : Int) = n1 ∧ st = st' ∧ ∃ y : Nat, ye = y ∧ 1 ≤ y ∧ y ≤ 9999 ∧ yrS y ≤ n, fun ye _ _ => (10000 - ye).toNat, ⟨rfl, rfl, n / 366 + 1, by omega, by omega, by omega, by unfold yrS; rw [Nat.add_sub_cancel]; omega⟩, ?_⟩
  rintro ye _ _ ⟨rfl, rfl, y, hye, hy1, hy2, hy3⟩
  refine BIf_intro (fun g => ?_) fun g => ?_ <;> subst hye
  · rw [wrap64 _ (by omega) (by omega), show ((y : Int) + 1) = ((y + 1 : Nat) : Int) by omega]
    refine calStart_ok (by omega) (by omega) (BIf_intro (fun g2 => ⟨⟨rfl, rfl, y + 1, rfl, by omega, by omega, by omega⟩, by dsimp only; omega⟩) fun g2 => calStart_ok hy1 (by omega) ?_)
    exact dateTail_ok hy1 hy2 hy3 (by omega) hn fun m d hd => hk y m d hd
  · refine calStart_ok hy1 (by omega) ?_
    have : y = 9999 := by omega
    have h10 : yrS (y + 1) = 3652059 := by rw [this]; rfl
    exact dateTail_ok hy1 hy2 hy3 (by omega) hn fun m d hd => hk y m d hd
theorem rLeap_ok {y : Nat} (h1 : 1 ≤ y) (h2 : y ≤ 9999) {st : St} {K : Bool → St → Prop} (hk : K (decide (leapY y)) st) : CallT PR fn_datakitref04_Leap [.int .i64 (y : Int)] [.one .bool] st K := by
  refine vc_datakitref04_Leap _ st K (BIf_intro (fun _ => BIf_intro (fun _ => ?_) fun g => by omega) fun g => by omega)
  rw [Int.tmod_eq_emod_of_nonneg (by omega), Int.tmod_eq_emod_of_nonneg (by omega), Int.tmod_eq_emod_of_nonneg (by omega)]
  unfold leapY at hk
  refine BIf_intro (fun g => BIf_intro (fun g2 => ?_) fun g2 => ?_) fun g => ?_
  · exact K_eq (decide_eq_true (show y % 4 = 0 ∧ (y % 100 ≠ 0 ∨ y % 400 = 0) from ⟨by omega, .inl (by omega)⟩) |>.symm) hk
  · exact K_eq (decide_eq_decide.2 ⟨fun h => ⟨by omega, .inr (by omega)⟩, fun h => by omega⟩) hk
  · exact K_eq (decide_eq_decide.2 ⟨fun h => by omega, fun h => by omega⟩) hk
theorem rMonth_ok {y m : Nat} (hm : m ≤ 1000000) {st : St} {K : Int → St → Prop} (hk : K (monX y m : Nat) st) : CallT PR fn_datakitref04_Month [.int .i64 (y : Int), .int .i64 (m : Int)] [.one (.int .i64)] st K := by
  unfold monX at hk
  refine vc_datakitref04_Month _ _ st K (BIf_intro (fun g => ?_) fun g => BIf_intro (fun g2 => ?_) fun g2 => ?_)
  · rw [if_neg (by omega)] at hk; exact hk
  · rw [if_neg (by omega)] at hk; exact hk
  refine ⟨fun b y' m' st' => b = decide (m = 1 ∨ m = 3 ∨ m = 5 ∨ m = 7 ∨ m = 8 ∨ m = 10 ∨ m = 12) ∧ (y : Int) = y' ∧ (m : Int) = m' ∧ st = st', ?_, ?_⟩
  · refine BIf_intro (fun g => ⟨decide_eq_decide.2 (by omega), rfl, rfl, rfl⟩) fun g => BIf_intro (fun g => ⟨decide_eq_decide.2 (by omega), rfl, rfl, rfl⟩) fun g => BIf_intro (fun g => ⟨decide_eq_decide.2 (by omega), rfl, rfl, rfl⟩) fun g =>
      BIf_intro (fun g => ⟨decide_eq_decide.2 (by omega), rfl, rfl, rfl⟩) fun g => BIf_intro (fun g => ⟨decide_eq_decide.2 (by omega), rfl, rfl, rfl⟩) fun g => BIf_intro (fun g => ⟨decide_eq_decide.2 (by omega), rfl, rfl, rfl⟩) fun g => ⟨decide_eq_decide.2 (by omega), rfl, rfl, rfl⟩
  rintro _ _ _ _ ⟨rfl, rfl, rfl, rfl⟩
  unfold monD at hk
  have two : ∀ {x y : Int → St → Prop}, True := fun {_ _} => trivial
  have t30 : (m = 4 ∨ m = 6 ∨ m = 9 ∨ m = 11) → K 30 st := fun h => by
    rw [if_pos (by omega), if_neg (by omega), if_pos h] at hk; exact hk
  have tz : ¬ (1 ≤ m ∧ m ≤ 12) → K 0 st := fun h => by
    rw [if_neg (by omega)] at hk; exact hk
  refine BIf_intro (fun g3 => ?_) fun g3 => ?_
  · rw [if_pos (by omega), if_neg (by omega), if_neg (by omega)] at hk; exact hk
  · refine BIf_intro (fun g4 => BIf_intro (fun _ => t30 (by omega)) fun h => absurd g4 h) fun g4 => BIf_intro (fun g5 => BIf_intro (fun _ => t30 (by omega)) fun h => absurd g5 h) fun g5 => BIf_intro (fun g6 => BIf_intro (fun _ => t30 (by omega)) fun h => absurd g6 h) fun g6 => BIf_intro (fun g7 => t30 (by omega)) fun g7 => BIf_intro (fun g8 => ?_) fun g8 => tz (by omega)
    rw [if_pos (by omega), if_pos (by omega)] at hk
    refine rLeap_ok (by omega) (by omega) (BIf_intro (fun g9 => ?_) fun g9 => ?_)
    · rw [if_pos g9] at hk; exact hk
    · rw [if_neg g9] at hk; exact hk
theorem monS_le (y : Nat) : ∀ m, monS y m ≤ 31 * m
  | 0 => Nat.le_refl _
  | 1 => Nat.zero_le _
  | m + 2 => by
    have := monS_le y (m + 1)
    have := monD_le y (m + 1)
    simp only [monS]; omega
theorem rLength_ok {y : Nat} (h1 : 1 ≤ y) (h2 : y ≤ 9999) {st : St} {K : Int → St → Prop} (hk : K (monS y 12 + monD y 12 : Nat) st) : CallT PR fn_datakitref04_length [.int .i64 (y : Int)] [.one (.int .i64)] st K := by
  refine vc_datakitref04_length _ st K ⟨fun n mo ye st' => (y : Int) = ye ∧ st = st' ∧ ∃ m : Nat, mo = m ∧ 1 ≤ m ∧ m ≤ 13 ∧ n = (monS y m : Nat), fun _ mo _ _ => (13 - mo).toNat, ⟨rfl, rfl, 1, rfl, by omega, by omega, rfl⟩, ?_⟩
  rintro _ _ _ _ ⟨rfl, rfl, m, rfl, hm1, hm2, rfl⟩
  have hle := monS_le y m
  refine BIf_intro (fun g => rMonth_ok (by omega) ?_) fun g => ?_
  · have := monD_le y m
    rw [monX_of h1 h2 hm1 (by omega), wrap64 _ (by omega) (by omega), wrap64 _ (by omega) (by omega)]
    exact ⟨⟨rfl, rfl, m + 1, by omega, by omega, by omega, by rw [monS_succ y hm1]; omega⟩, by dsimp only; omega⟩
  · have : m = 13 := by omega
    subst this
    rw [monS_succ y (by omega)]; exact hk
theorem rDate_ok {n : Nat} (hn : n ≤ 3652058) {st : St} {K : Int → Int → Int → Int → St → Prop} (hk : ∀ y m d : Nat, IsDate n y m d → K y m d 0 st) : CallT PR fn_datakitref04_Date [.int .i64 (n : Int)] [.one (.int .i64), .one (.int .i64), .one (.int .i64), .one (.int .i64)] st K := by
  refine vc_datakitref04_Date _ st K (vc_datakitref04_in _ st _ (BIf_intro (fun _ => ?_) fun g => by omega))
  rw [decide_eq_true (by omega)]
  refine BIf_intro (p := False) (fun h => h.elim) fun _ => ?_
  refine ⟨fun n1 ye mo st' => mo = 1 ∧ st = st' ∧ ∃ y : Nat, ye = y ∧ 1 ≤ y ∧ y ≤ 9999 ∧ yrS y ≤ n ∧ n1 = ((n - yrS y : Nat) : Int), fun _ ye _ _ => (10000 - ye).toNat, ⟨rfl, rfl, 1, rfl, by omega, by omega, Nat.zero_le _, by show _ = ((n - 0 : Nat) : Int); omega⟩, ?_⟩
  rintro _ _ _ _ ⟨rfl, rfl, y, rfl, hy1, hy2, hy3, rfl⟩
  have hss := yrS_succ hy1
  have hle := monS_le y 12
  have hle2 := monD_le y 12
  refine rLength_ok hy1 hy2 (BIf_intro (fun g => rLength_ok hy1 hy2 ?_) fun g => ?_)
  · rw [wrap64 _ (by omega) (by omega), wrap64 _ (by omega) (by omega)]
    have h9 : y ≠ 9999 := fun e => by
      subst e
      have : yrS (9999 + 1) = 3652059 := rfl
      omega
    exact ⟨⟨rfl, rfl, y + 1, by omega, by omega, by omega, by omega, by omega⟩, by dsimp only; omega⟩
  · refine ⟨fun re mo ye st' => (y : Int) = ye ∧ st = st' ∧ ∃ m : Nat, mo = m ∧ 1 ≤ m ∧ m ≤ 12 ∧ re = ((n - yrS y - monS y m : Nat) : Int) ∧ monS y m ≤ n - yrS y, fun _ mo _ _ => (13 - mo).toNat, ⟨rfl, rfl, 1, rfl, by omega, by omega, by show _ = ((n - yrS y - 0 : Nat) : Int); omega, Nat.zero_le _⟩, ?_⟩
    rintro _ _ _ _ ⟨rfl, rfl, m, rfl, hm1, hm2, rfl, hm3⟩
    refine rMonth_ok (by omega) ?_
    rw [monX_of hy1 hy2 hm1 hm2]
    have hs := monS_succ y hm1
    have hle := monD_le y m
    refine BIf_intro (fun g => rMonth_ok (by omega) ?_) fun g => ?_
    · rw [monX_of hy1 hy2 hm1 hm2, wrap64 _ (by omega) (by omega), wrap64 _ (by omega) (by omega)]
      have hm : m ≠ 12 := fun e => by subst e; omega
      exact ⟨⟨rfl, rfl, m + 1, by omega, by omega, by omega, by rw [hs]; omega, by rw [hs]; omega⟩, by dsimp only; omega⟩
    · rw [wrap64 _ (by omega) (by omega)]
      exact hk y m (n - yrS y - monS y m + 1) ⟨hy1, hy2, hm1, hm2, by omega, by omega, by omega⟩
end Go.TVF
end

section
namespace Go.TVF
open Go Go.Proofs
set_option linter.unusedVariables false
set_option linter.unusedSimpArgs false
theorem digits_ok {n w : Nat} (hw : w ≤ 100) (hn : n ≤ 1000000000000000000) {st : St} {K : List UInt8 → St → Prop} (hk : ∀ st', StExt st st' → K (padD w n) st') : CallT PR fn_moment_digits [.int .i64 (n : Int), .int .i64 (w : Int)] [.one .str] st K := by
  refine vc_moment_digits _ _ st K ⟨⟨by omega, by omega, by rw [Int.toNat_natCast]; omega⟩, ?_⟩
  rw [Int.toNat_natCast, wrap64 _ (by omega) (by omega)]
  refine ⟨fun n1 i b st' => TV.ms 1 st.nb 0 w w = b ∧ ∃ (j m : Nat) (t : List UInt8), i = (j : Int) - 1 ∧ n1 = m ∧ m ≤ n ∧ j + t.length = w ∧ padD w n = padD j m ++ t ∧ BxB st st' b (List.replicate j 0 ++ t), fun _ i _ _ => (i + 1).toNat, ⟨rfl, w, n, [], rfl, rfl, Nat.le_refl _, rfl, by simp, by simpa using BxB.make (StExt.refl st) w⟩, ?_⟩
  rintro _ _ _ st1 ⟨rfl, j, m, t, rfl, rfl, hm, hj, he, hb⟩
  have hlen : (List.replicate j (0 : UInt8) ++ t).length = w := by simp; omega
  refine BIf_intro (fun g => ?_) fun g => ?_
  · obtain ⟨i, rfl⟩ : ∃ i, j = i + 1 := ⟨j - 1, by omega⟩
    have hi : (((i + 1 : Nat) : Int) - 1) = (i : Int) := by omega
    rw [hi, hb.rd.lenZ, Int.toNat_natCast]
    refine ⟨⟨by omega, by omega⟩, hb.set (c := (48 + m % 10).toUInt8) (by rw [dg_w8 _ rfl]; rfl) (by omega) fun st2 hb2 => ?_⟩
    have hd : IntKind.i64.wrap ((m : Int).tdiv 10) = ((m / 10 : Nat) : Int) := by rw [Int.tdiv_eq_ediv_of_nonneg (by omega), wrap64 _ (by omega) (by omega)]; omega
    rw [hd, wrap64 _ (by omega) (by omega)]
    refine ⟨⟨rfl, i, m / 10, (48 + m % 10).toUInt8 :: t, rfl, rfl, by omega, by rw [List.length_cons]; omega, by rw [he, padD, List.append_assoc]; rfl, ?_⟩, by dsimp only; omega⟩
    have : (List.replicate (i + 1) (0 : UInt8) ++ t).set i (48 + m % 10).toUInt8 = List.replicate i 0 ++ (48 + m % 10).toUInt8 :: t := by
      rw [List.replicate_succ', List.append_assoc, List.set_append_right _ _ (by simp), List.length_replicate, Nat.sub_self]; rfl
    rw [← this]; exact hb2
  · have : j = 0 := by omega
    subst this
    rw [List.replicate_zero, List.nil_append] at hb
    rw [padD, List.nil_append] at he
    rw [← he] at hb
    exact hb.str (hk _ hb.ext)
theorem pad_ok {n w : Nat} (hw : w ≤ 100) (hn : n ≤ 1000000000000000000) {st : St} {K : List UInt8 → St → Prop} (hk : K (padD w n) st) : CallT PR fn_datakitref05_pad [.int .i64 (n : Int), .int .i64 (w : Int)] [.one .str] st K := by
  refine vc_datakitref05_pad _ _ st K ⟨fun n1 s i w1 st' => (w : Int) = w1 ∧ st = st' ∧ ∃ j m : Nat, i = (w : Int) - j ∧ n1 = m ∧ m ≤ n ∧ j + s.length = w ∧ padD w n = padD j m ++ s, fun _ _ i _ _ => ((w : Int) - i).toNat, ⟨rfl, rfl, w, n, by omega, rfl, Nat.le_refl _, rfl, by simp⟩, ?_⟩
  rintro _ s _ _ _ ⟨rfl, rfl, j, m, rfl, rfl, hm, hj, he⟩
  refine BIf_intro (fun g => ?_) fun g => ?_
  · obtain ⟨i, rfl⟩ : ∃ i, j = i + 1 := ⟨j - 1, by omega⟩
    refine optK_intro (x := .str [(48 + m % 10).toUInt8]) ?_ (decT_str ⟨by rw [List.length_singleton]; omega, ?_⟩)
    · rw [dg_w8 _ rfl]
      show (asBytes [byteT _]).map _ = _
      have := asBytes_bytesT [(48 + m % 10).toUInt8]
      simp only [bytesT, List.map_cons, List.map_nil] at this
      rw [this]; rfl
    · have hd : IntKind.i64.wrap ((m : Int).tdiv 10) = ((m / 10 : Nat) : Int) := by rw [Int.tdiv_eq_ediv_of_nonneg (by omega), wrap64 _ (by omega) (by omega)]; omega
      rw [hd, wrap64 _ (by omega) (by omega)]
      refine ⟨⟨rfl, rfl, i, m / 10, by omega, rfl, by omega, by rw [List.length_append, List.length_singleton]; omega, by rw [he, padD, List.append_assoc]⟩, by dsimp only; omega⟩
  · have : j = 0 := by omega
    subst this
    rw [padD, List.nil_append] at he
    rw [← he]; exact hk
theorem dateText_ok {n : Nat} (hn : n ≤ 3652058) {st : St} {K : List UInt8 → St → Prop} (hk : ∀ st', StExt st st' → K (datT n) st') : CallT PR fn_moment_dateText [.int .i64 (n : Int)] [.one .str] st K := by
  refine vc_moment_dateText _ st K (date_ok hn fun y m d hd => ?_)
  have he := datT_eq hd
  obtain ⟨a1, a2, a3, a4, a5, a6, a7⟩ := hd
  have hm := monD_le y m
  have l4 := padD_len 4 y
  have l2 := padD_len 2 m
  have l3 := padD_len 2 d
  refine digits_ok (w := 4) (by omega) (by omega) fun st1 e1 => ⟨by rw [l4]; show 4 + 1 ≤ _; omega, digits_ok (w := 2) (by omega) (by omega) fun st2 e2 => ⟨by rw [List.length_append, l4, l2]; show 4 + 1 + 2 ≤ _; omega, by rw [List.length_append, List.length_append, l4, l2]; show 4 + 1 + 2 + 1 ≤ _; omega, digits_ok (w := 2) (by omega) (by omega) fun st3 e3 => ⟨by simp only [List.length_append, l4, l2, l3]; show 4 + 1 + 2 + 1 + 2 ≤ _; omega, ?_⟩⟩⟩
  have := hk st3 ((e1.trans e2).trans e3)
  rw [he, List.append_cons, List.append_cons, List.append_assoc (padD 4 y ++ [45]), ← List.append_assoc, ← List.append_assoc] at this
  exact this
theorem last_split {f : List UInt8} (h : f ≠ []) : f = f.take (f.length - 1) ++ [f.getD (f.length - 1) 0] := by
  have hp := List.length_pos_iff.2 h
  have := getD_take f (f.length - 1) 0 (by omega)
  rw [show f.length - 1 + 1 = f.length by omega, List.take_length] at this
  exact this
theorem clockText_ok {n : Nat} (hn : n ≤ 86399999999999) {st : St} {K : List UInt8 → St → Prop} (hk : ∀ st', StExt st st' → K (clkT n) st') : CallT PR fn_moment_clockText [.int .i64 (n : Int)] [.one .str] st K := by
  refine vc_moment_clockText _ st K ?_
  have e1 : IntKind.i64.wrap ((n : Int).tdiv 1000000000) = ((n / 1000000000 : Nat) : Int) := by rw [Int.tdiv_eq_ediv_of_nonneg (by omega), wrap64 _ (by omega) (by omega)]; omega
  have e2 : IntKind.i64.wrap (((n / 1000000000 : Nat) : Int).tdiv 3600) = ((n / 1000000000 / 3600 : Nat) : Int) := by rw [Int.tdiv_eq_ediv_of_nonneg (by omega), wrap64 _ (by omega) (by omega)]; omega
  have e3 : (IntKind.i64.wrap (((n / 1000000000 : Nat) : Int).tdiv 60)).tmod 60 = ((n / 1000000000 / 60 % 60 : Nat) : Int) := by
    rw [Int.tdiv_eq_ediv_of_nonneg (by omega), wrap64 _ (by omega) (by omega), Int.tmod_eq_emod_of_nonneg (by omega)]; omega
  have e4 : ((n / 1000000000 : Nat) : Int).tmod 60 = ((n / 1000000000 % 60 : Nat) : Int) := by rw [Int.tmod_eq_emod_of_nonneg (by omega)]; omega
  have e5 : (n : Int).tmod 1000000000 = ((n % 1000000000 : Nat) : Int) := by rw [Int.tmod_eq_emod_of_nonneg (by omega)]; omega
  rw [e1, e2, e3, e4, e5]
  have l1 := padD_len 2 (n / 1000000000 / 3600)
  have l2 := padD_len 2 (n / 1000000000 / 60 % 60)
  have l3 := padD_len 2 (n / 1000000000 % 60)
  refine digits_ok (w := 2) (by omega) (by omega) fun st1 x1 => ⟨by rw [l1]; show 2 + 1 ≤ _; omega, digits_ok (w := 2) (by omega) (by omega) fun st2 x2 => ⟨by rw [List.length_append, l1, l2]; show 2 + 1 + 2 ≤ _; omega, by rw [List.length_append, List.length_append, l1, l2]; show 2 + 1 + 2 + 1 ≤ _; omega, digits_ok (w := 2) (by omega) (by omega) fun st3 x3 => ⟨by simp only [List.length_append, l1, l2, l3]; show 2 + 1 + 2 + 1 + 2 ≤ _; omega, ?_⟩⟩⟩
  have e0 := (x1.trans x2).trans x3
  have hpre : ∀ (f : List UInt8), padD 2 (n / 1000000000 / 3600) ++ 58 :: (padD 2 (n / 1000000000 / 60 % 60) ++ 58 :: (padD 2 (n / 1000000000 % 60) ++ f)) = ((((padD 2 (n / 1000000000 / 3600) ++ [58]) ++ padD 2 (n / 1000000000 / 60 % 60)) ++ [58]) ++ padD 2 (n / 1000000000 % 60)) ++ f := fun f => by
    simp only [List.append_assoc, List.cons_append, List.nil_append]
  unfold clkT at hk
  rw [hpre] at hk
  generalize hP : ((((padD 2 (n / 1000000000 / 3600) ++ [58]) ++ padD 2 (n / 1000000000 / 60 % 60)) ++ [58]) ++ padD 2 (n / 1000000000 % 60)) = P at hk
  have hPl : P.length = 8 := by rw [← hP]; simp only [List.length_append, l1, l2, l3]; rfl
  have hP2 : ((((padD 2 (n / 1000000000 / 3600) ++ str34) ++ padD 2 (n / 1000000000 / 60 % 60)) ++ str34) ++ padD 2 (n / 1000000000 % 60)) = P := hP
  rw [hP2]
  refine BIf_intro (fun g => ?_) fun g => ?_
  · have := hk st3 e0
    rw [if_pos (by omega), List.append_nil] at this
    exact this
  · rw [if_neg (by omega)] at hk
    have hr0 : n % 1000000000 ≠ 0 := by omega
    have hcne := cut0_ne (n := n % 1000000000) (by omega) hr0
    refine digits_ok (w := 9) (by omega) (by omega) fun st4 x4 => ⟨fun f s st' => P = s ∧ st4 = st' ∧ cut0 f = cut0 (padD 9 (n % 1000000000)) ∧ f.length ≤ 9, fun f _ _ => f.length, ⟨rfl, rfl, rfl, by rw [padD_len]; omega⟩, ?_⟩
    rintro f _ _ ⟨rfl, rfl, hf, hfl⟩
    have hfne : f ≠ [] := fun e => by
      rw [e] at hf
      exact hcne (hf.symm.trans rfl)
    have hp := List.length_pos_iff.2 hfne
    rw [wrap64 _ (by omega) (by omega), show Int.toNat ((f.length : Int) - 1) = f.length - 1 by omega]
    have hsp := last_split hfne
    have hsn := cut0_snoc (f.take (f.length - 1)) (f.getD (f.length - 1) 0)
    rw [← hsp] at hsn
    refine ⟨⟨by omega, by omega⟩, BIf_intro (fun g2 => ⟨⟨by omega, by omega⟩, ⟨rfl, rfl, ?_, by rw [List.length_take]; omega⟩, by dsimp only; rw [List.length_take]; omega⟩) fun g2 => ⟨by rw [hPl]; show 8 + 1 ≤ _; omega, by rw [List.length_append, hPl]; show 8 + 1 + _ ≤ _; omega, ?_⟩⟩
    · rw [if_pos (UInt8.toNat_inj.1 (by show _ = 48; omega))] at hsn
      rw [← hsn]; exact hf
    · rw [if_neg (fun e => g2 (by rw [e]; rfl))] at hsn
      have := hk st4 (e0.trans x4)
      rw [← hf, hsn, List.append_cons] at this
      exact this
theorem rclock_ok {n : Nat} (hn : n ≤ 86399999999999) {st : St} {K : List UInt8 → St → Prop} (hk : K (clkT n) st) : CallT PR fn_datakitref05_clock [.int .i64 (n : Int)] [.one .str] st K := by
  refine vc_datakitref05_clock _ st K ?_
  have e1 : IntKind.i64.wrap ((n : Int).tdiv 1000000000) = ((n / 1000000000 : Nat) : Int) := by rw [Int.tdiv_eq_ediv_of_nonneg (by omega), wrap64 _ (by omega) (by omega)]; omega
  have e2 : IntKind.i64.wrap (((n / 1000000000 : Nat) : Int).tdiv 3600) = ((n / 1000000000 / 3600 : Nat) : Int) := by rw [Int.tdiv_eq_ediv_of_nonneg (by omega), wrap64 _ (by omega) (by omega)]; omega
  have e3 : (IntKind.i64.wrap (((n / 1000000000 : Nat) : Int).tdiv 60)).tmod 60 = ((n / 1000000000 / 60 % 60 : Nat) : Int) := by
    rw [Int.tdiv_eq_ediv_of_nonneg (by omega), wrap64 _ (by omega) (by omega), Int.tmod_eq_emod_of_nonneg (by omega)]; omega
  have e4 : ((n / 1000000000 : Nat) : Int).tmod 60 = ((n / 1000000000 % 60 : Nat) : Int) := by rw [Int.tmod_eq_emod_of_nonneg (by omega)]; omega
  have e5 : (n : Int).tmod 1000000000 = ((n % 1000000000 : Nat) : Int) := by rw [Int.tmod_eq_emod_of_nonneg (by omega)]; omega
  rw [e1, e2, e3, e4, e5]
  have l1 := padD_len 2 (n / 1000000000 / 3600)
  have l2 := padD_len 2 (n / 1000000000 / 60 % 60)
  have l3 := padD_len 2 (n / 1000000000 % 60)
  refine pad_ok (w := 2) (by omega) (by omega) ⟨by rw [l1]; show 2 + 1 ≤ _; omega, pad_ok (w := 2) (by omega) (by omega) ⟨by rw [List.length_append, l1, l2]; show 2 + 1 + 2 ≤ _; omega, by rw [List.length_append, List.length_append, l1, l2]; show 2 + 1 + 2 + 1 ≤ _; omega, pad_ok (w := 2) (by omega) (by omega) ⟨by simp only [List.length_append, l1, l2, l3]; show 2 + 1 + 2 + 1 + 2 ≤ _; omega, ?_⟩⟩⟩
  have hpre : ∀ (f : List UInt8), padD 2 (n / 1000000000 / 3600) ++ 58 :: (padD 2 (n / 1000000000 / 60 % 60) ++ 58 :: (padD 2 (n / 1000000000 % 60) ++ f)) = ((((padD 2 (n / 1000000000 / 3600) ++ [58]) ++ padD 2 (n / 1000000000 / 60 % 60)) ++ [58]) ++ padD 2 (n / 1000000000 % 60)) ++ f := fun f => by
    simp only [List.append_assoc, List.cons_append, List.nil_append]
  unfold clkT at hk
  rw [hpre] at hk
  generalize hP : ((((padD 2 (n / 1000000000 / 3600) ++ [58]) ++ padD 2 (n / 1000000000 / 60 % 60)) ++ [58]) ++ padD 2 (n / 1000000000 % 60)) = P at hk
  have hPl : P.length = 8 := by rw [← hP]; simp only [List.length_append, l1, l2, l3]; rfl
  have hP2 : ((((padD 2 (n / 1000000000 / 3600) ++ str34) ++ padD 2 (n / 1000000000 / 60 % 60)) ++ str34) ++ padD 2 (n / 1000000000 % 60)) = P := hP
  rw [hP2]
  have hcz : cut0 (padD 9 (n % 1000000000)) = [] ↔ n % 1000000000 = 0 := ⟨fun h => by
    apply Decidable.byContradiction
    intro h2; exact cut0_ne (by omega) h2 h, fun h => by rw [h]; decide⟩
  have fin : ∀ f, f = cut0 (padD 9 (n % 1000000000)) → (f = [] → K P st) ∧ (f ≠ [] → K ((P ++ str10) ++ f) st) := fun f hf => by
    subst hf
    constructor
    · intro h
      rw [if_pos (hcz.1 h), List.append_nil] at hk; exact hk
    · intro h
      rw [if_neg (fun e => h (hcz.2 e)), List.append_cons] at hk; exact hk
  refine pad_ok (w := 9) (by omega) (by omega) ⟨fun f s st' => P = s ∧ st = st' ∧ cut0 f = cut0 (padD 9 (n % 1000000000)) ∧ f.length ≤ 9, fun f _ _ => f.length, ⟨rfl, rfl, rfl, by rw [padD_len]; omega⟩, ?_⟩
  rintro f _ _ ⟨rfl, rfl, hf, hfl⟩
  refine BIf_intro (fun g => ?_) fun g => ?_
  · have hfne : f ≠ [] := fun e => by rw [e] at g; simp at g
    have hp := List.length_pos_iff.2 hfne
    rw [wrap64 _ (by omega) (by omega), show Int.toNat ((f.length : Int) - 1) = f.length - 1 by omega]
    have hsp := last_split hfne
    have hsn := cut0_snoc (f.take (f.length - 1)) (f.getD (f.length - 1) 0)
    rw [← hsp] at hsn
    refine ⟨⟨by omega, by omega⟩, BIf_intro (fun g2 => ⟨⟨by omega, by omega⟩, ⟨rfl, rfl, ?_, by rw [List.length_take]; omega⟩, by dsimp only; rw [List.length_take]; omega⟩) fun g2 => BIf_intro (fun g3 => absurd g3 hfne) fun g3 => ⟨by rw [hPl]; show 8 + 1 ≤ _; omega, by rw [List.length_append, hPl]; show 8 + 1 + _ ≤ _; omega, ?_⟩⟩
    · rw [if_pos (UInt8.toNat_inj.1 (by show _ = 48; omega))] at hsn
      rw [← hsn]; exact hf
    · rw [if_neg (fun e => g2 (by rw [e]; rfl))] at hsn
      exact (fin f (hsn.symm.trans hf)).2 g3
  · have hf0 : f = [] := List.eq_nil_of_length_eq_zero (by omega)
    refine BIf_intro (fun g3 => ?_) fun g3 => absurd hf0 g3
    exact (fin f (by rw [hf0] at hf ⊢; exact hf)).1 hf0
theorem offsetText_ok {z : Int} (h1 : -1439 ≤ z) (h2 : z ≤ 1439) {st : St} {K : List UInt8 → St → Prop} (hk : ∀ st', StExt st st' → K (offT z) st') : CallT PR fn_moment_offsetText [.int .i64 z] [.one .str] st K := by
  unfold offT at hk
  refine vc_moment_offsetText _ st K (BIf_intro (fun g => ?_) fun g => ?_)
  · have := hk st (StExt.refl _)
    rw [if_pos g] at this; exact this
  · rw [if_neg g] at hk
    have l1 := padD_len 2 (z.natAbs / 60)
    have l2 := padD_len 2 (z.natAbs % 60)
    refine BIf_intro (fun g2 => ?_) fun g2 => ?_
    · rw [if_pos g2] at hk
      have e1 : IntKind.i64.wrap ((IntKind.i64.wrap (0 - z)).tdiv 60) = ((z.natAbs / 60 : Nat) : Int) := by rw [wrap64 (0 - z) (by omega) (by omega), Int.tdiv_eq_ediv_of_nonneg (by omega), wrap64 _ (by omega) (by omega)]; omega
      have e2 : (IntKind.i64.wrap (0 - z)).tmod 60 = ((z.natAbs % 60 : Nat) : Int) := by rw [wrap64 (0 - z) (by omega) (by omega), Int.tmod_eq_emod_of_nonneg (by omega)]; omega
      rw [e1, e2]
      refine digits_ok (w := 2) (by omega) (by omega) fun st1 x1 => ⟨by rw [l1]; show 1 + 2 ≤ _; omega, by rw [List.length_append, l1]; show 1 + 2 + 1 ≤ _; omega, digits_ok (w := 2) (by omega) (by omega) fun st2 x2 => ⟨by simp only [List.length_append, l1, l2]; show 1 + 2 + 1 + 2 ≤ _; omega, ?_⟩⟩
      have := hk st2 (x1.trans x2)
      rw [← List.cons_append, List.append_cons] at this
      exact this
    · rw [if_neg g2] at hk
      have e1 : IntKind.i64.wrap (z.tdiv 60) = ((z.natAbs / 60 : Nat) : Int) := by rw [Int.tdiv_eq_ediv_of_nonneg (by omega), wrap64 _ (by omega) (by omega)]; omega
      have e2 : z.tmod 60 = ((z.natAbs % 60 : Nat) : Int) := by rw [Int.tmod_eq_emod_of_nonneg (by omega)]; omega
      rw [e1, e2]
      refine digits_ok (w := 2) (by omega) (by omega) fun st1 x1 => ⟨by rw [l1]; show 1 + 2 ≤ _; omega, by rw [List.length_append, l1]; show 1 + 2 + 1 ≤ _; omega, digits_ok (w := 2) (by omega) (by omega) fun st2 x2 => ⟨by simp only [List.length_append, l1, l2]; show 1 + 2 + 1 + 2 ≤ _; omega, ?_⟩⟩
      have := hk st2 (x1.trans x2)
      rw [← List.cons_append, List.append_cons] at this
      exact this
theorem roffset_ok {z : Int} (h1 : -1439 ≤ z) (h2 : z ≤ 1439) {st : St} {K : List UInt8 → St → Prop} (hk : K (offT z) st) : CallT PR fn_datakitref05_offset [.int .i64 z] [.one .str] st K := by
  unfold offT at hk
  refine vc_datakitref05_offset _ st K (BIf_intro (fun g => ?_) fun g => ?_)
  · rw [if_pos g] at hk; exact hk
  · rw [if_neg g] at hk
    have l1 := padD_len 2 (z.natAbs / 60)
    have l2 := padD_len 2 (z.natAbs % 60)
    refine BIf_intro (fun g2 => ?_) fun g2 => ?_
    · rw [if_pos g2] at hk
      have e1 : IntKind.i64.wrap ((IntKind.i64.wrap (0 - z)).tdiv 60) = ((z.natAbs / 60 : Nat) : Int) := by rw [wrap64 (0 - z) (by omega) (by omega), Int.tdiv_eq_ediv_of_nonneg (by omega), wrap64 _ (by omega) (by omega)]; omega
      have e2 : (IntKind.i64.wrap (0 - z)).tmod 60 = ((z.natAbs % 60 : Nat) : Int) := by rw [wrap64 (0 - z) (by omega) (by omega), Int.tmod_eq_emod_of_nonneg (by omega)]; omega
      rw [e1, e2]
      refine pad_ok (w := 2) (by omega) (by omega) ⟨by rw [l1]; show 1 + 2 ≤ _; omega, by rw [List.length_append, l1]; show 1 + 2 + 1 ≤ _; omega, pad_ok (w := 2) (by omega) (by omega) ⟨by simp only [List.length_append, l1, l2]; show 1 + 2 + 1 + 2 ≤ _; omega, ?_⟩⟩
      rw [← List.cons_append, List.append_cons] at hk
      exact hk
    · rw [if_neg g2] at hk
      have e1 : IntKind.i64.wrap (z.tdiv 60) = ((z.natAbs / 60 : Nat) : Int) := by rw [Int.tdiv_eq_ediv_of_nonneg (by omega), wrap64 _ (by omega) (by omega)]; omega
      have e2 : z.tmod 60 = ((z.natAbs % 60 : Nat) : Int) := by rw [Int.tmod_eq_emod_of_nonneg (by omega)]; omega
      rw [e1, e2]
      refine pad_ok (w := 2) (by omega) (by omega) ⟨by rw [l1]; show 1 + 2 ≤ _; omega, by rw [List.length_append, l1]; show 1 + 2 + 1 ≤ _; omega, pad_ok (w := 2) (by omega) (by omega) ⟨by simp only [List.length_append, l1, l2]; show 1 + 2 + 1 + 2 ≤ _; omega, ?_⟩⟩
      rw [← List.cons_append, List.append_cons] at hk
      exact hk
end Go.TVF
end

section
namespace Go.TVF
open Go Go.Proofs
set_option linter.unusedVariables false
set_option linter.unusedSimpArgs false
theorem noEscape_ok {b : Nat} {st : St} {K : TV → St → Prop} (hk : K (.box b 0) st) : CallT PR fn_abi_NoEscape [.box b 0] [.one (.tv)] st K := by
  refine tcalls_value fun g w vargs s hr => ?_
  obtain ⟨v, rfl, hv⟩ := relL_one hr
  refine ⟨v, w, ?_, .box b 0, st, g, hk, s, hv, Ext.refl _ _⟩
  show (callFunc 320 #[v]).run Tryz.prog w = _
  rw [run_callFunc_extern Tryz.func320 (by kernel_rfl) (by kernel_rfl) (by kernel_rfl) (e := Extern.AbiNoEscape.same) (by kernel_rfl)]
  rfl
/-- A builder that the call has made (behind the state st0), and what it holds. -/
def Bld (st0 : St) (b : Nat) (st : St) (buf : List UInt8) : Prop :=
  StExt st0 st ∧ st0.nb ≤ b ∧ b < st.nb ∧ st.bt b = some tyBld ∧ ∃ p v, st.box b = .cells [p, v] ∧ (p = .nilPtr ∨ p = .box b 0) ∧
    ((v = .nilSlice ∧ buf = []) ∨ ∃ id, v = .list 1 (.own id) buf.length (bytesT buf) ∧ buf ≠ [] ∧ st0.nt ≤ id ∧ id < st.nt ∧ st.live id = true ∧ st.ty id = some 5)
theorem Bld.new {st0 st : St} (e : StExt st0 st) : Bld st0 st.nb (st.push (.cells [.nilPtr, .nilSlice]) (some tyBld)) [] :=
  ⟨e.push _ _, e.nb, by simp [St.push], by simp [St.push], .nilPtr, .nilSlice, box_push _ _ _, .inl rfl, .inl ⟨rfl, rfl⟩⟩
theorem Bld.ext {st0 st : St} {b : Nat} {buf : List UInt8} (h : Bld st0 b st buf) : StExt st0 st := h.1
theorem Bld.keep {st0 st st' : St} {b : Nat} {buf : List UInt8} (h : Bld st0 b st buf) (e : StExt st st') : Bld st0 b st' buf := by
  obtain ⟨h0, h1, h2, h3, p, v, hb, hp, hv⟩ := h
  refine ⟨h0.trans e, h1, Nat.lt_of_lt_of_le h2 e.nb, (e.bt b h2).trans h3, p, v, (e.box b h2).trans hb, hp, ?_⟩
  rcases hv with hv | ⟨id, rfl, n1, n2, n3, n4, n5⟩
  · exact .inl hv
  · exact .inr ⟨id, rfl, n1, n2, Nat.lt_of_lt_of_le n3 e.nt, (e.live id n3).trans n4, (e.ty id n3).trans n5⟩
/-- What a write to a builder leaves: all boxes but its own. -/
theorem copyCheck_ok {st0 st : St} {b : Nat} {buf : List UInt8} {K : St → Prop} (h : Bld st0 b st buf) (hk : ∀ st', Bld st0 b st' buf → StX (· = b) st st' → K st') : CallT PR fn_strings_Builder_copyCheck [.box b 0] [] st K := by
  have h0 := h
  obtain ⟨e, h1, h2, h3, p, v, hb, hp, hv⟩ := h
  refine vc_strings_Builder_copyCheck b st K (optK_intro (x := p) (by simp [ldCell, hb]) (need_intro (by rcases hp with rfl | rfl <;> rfl) ?_))
  rcases hp with rfl | rfl
  · refine (show BIf true _ _ from ⟨by simp [ldCell, hb], noEscape_ok ?_⟩)
    refine ⟨⟨rfl, h3, _, hb, rfl⟩, need_intro rfl ⟨_, hb, by simp, hk _ ?_ (StX.put (S := (· = b)) rfl _)⟩⟩
    exact ⟨e.put h1 _, h1, h2, h3, .box b 0, v, box_put _ _ _, .inr rfl, hv⟩
  · exact (show BIf false _ _ from optK_intro (x := .box b 0) (by simp [ldCell, hb]) ⟨rfl, hk st h0 (StX.refl _ _)⟩)
theorem writeAny_ok {st0 st : St} {b : Nat} {buf s : List UInt8} {xs : List TV} {n : Nat} (hn : n = s.length) (hxs : xs = bytesT s) (h : Bld st0 b st buf) (hl : buf.length + s.length ≤ 140737488355328) {K : St → Prop} (hk : ∀ st', Bld st0 b st' (buf ++ s) → (∀ i, i ≠ b → i < st.nb → st'.box i = st.box i) → st.nb ≤ st'.nb → K st') :
    ∃ v1, ldCell st [] (.t (.box b 1)) 0 = some v1 ∧ appK 5 1 1 v1 n xs st fun (v2 : TV) (st2 : St) => need (List.all [v2] oneT) (stB st2 (.box b 1) [v2] fun st3 => K st3) := by
  subst hn hxs
  obtain ⟨e, a1, a2, a3, p, v, hb, hp, hv⟩ := h
  refine ⟨v, by simp [ldCell, hb], ?_⟩
  rcases hv with ⟨rfl, rfl⟩ | ⟨id, rfl, n1, n2, n3, n4, n5⟩
  · cases s with
    | nil =>
      simp only [appK, List.length_nil, bytesT, List.map_nil]
      exact need_intro rfl ⟨_, hb, by simp, hk _ ⟨e.put a1 _, a1, a2, a3, p, .nilSlice, box_put _ _ _, hp, .inl ⟨rfl, rfl⟩⟩ (fun i hi _ => by simp only [St.put]; rw [if_neg hi]) (Nat.le_refl _)⟩
    | cons c r =>
      simp only [appK, List.length_cons, Nat.mul_one]
      refine need_intro (by simp only [List.length_nil, List.length_cons] at hl; simp; omega) (need_intro rfl ⟨_, hb, by simp, hk _ ?_ (fun i hi _ => by simp only [St.put]; rw [if_neg hi]; rfl) (by simp [St.put, St.fresh])⟩)
      exact ⟨(e.fresh _).put a1 _, a1, a2, a3, p, _, box_put _ _ _, hp, .inr ⟨st.nt, rfl, by simp, e.nt, by simp [St.put, St.fresh], by simp [St.put, St.fresh], by simp [St.put, St.fresh]⟩⟩
  · simp only [appK, Nat.beq_refl, Nat.mul_one]
    refine ⟨hl, n4, need_intro rfl ⟨_, hb, by simp, hk _ ?_ (fun i hi _ => by simp only [St.put]; rw [if_neg hi]; rfl) (by simp [St.put, St.fresh, St.retire])⟩⟩
    refine ⟨((e.retire n2).fresh _).put a1 _, a1, a2, a3, p, _, box_put _ _ _, hp, .inr ⟨st.nt, ?_, by simp [n1], e.nt, by simp [St.put, St.fresh, St.retire], by simp [St.put, St.fresh, St.retire], by simp [St.put, St.fresh, St.retire, n5, tyJoin]⟩⟩
    rw [List.length_append, ← bytesT_append]
/-- All boxes but one stay. -/
def But (b : Nat) (a c : St) : Prop := a.nb ≤ c.nb ∧ ∀ i, i ≠ b → i < a.nb → c.box i = a.box i
theorem But.refl (b : Nat) (a : St) : But b a a := ⟨Nat.le_refl _, fun _ _ _ => rfl⟩
theorem But.trans {b : Nat} {x y z : St} (h : But b x y) (k : But b y z) : But b x z := ⟨Nat.le_trans h.1 k.1, fun i hi hl => (k.2 i hi (Nat.lt_of_lt_of_le hl h.1)).trans (h.2 i hi hl)⟩
theorem But.of {b : Nat} {x y : St} (e : StExt x y) : But b x y := ⟨e.nb, fun i _ hl => e.box i hl⟩
theorem But.ofX {b : Nat} {x y : St} (e : StX (· = b) x y) : But b x y := ⟨e.nb, fun i hi hl => e.box i hl hi⟩
theorem writeString_ok {st0 st : St} {b : Nat} {buf s : List UInt8} {K : Int → TV → St → Prop} (h : Bld st0 b st buf) (hl : buf.length + s.length ≤ 1000000000) (hk : ∀ st', Bld st0 b st' (buf ++ s) → But b st st' → K (s.length : Int) .nilIface st') :
    CallT PR fn_strings_Builder_WriteString [.box b 0, .str s] [.one (.int .i64), .one (.tv)] st K := by
  refine vc_strings_Builder_WriteString b s st K (copyCheck_ok h fun st1 h1 e1 => ?_)
  obtain ⟨v1, hv1, hA⟩ := writeAny_ok (n := s.length) (xs := bytesT s) rfl rfl h1 (by omega) (K := fun st3 => K (s.length : Int) .nilIface st3) fun st' hb hx hn => hk st' hb ((But.ofX e1).trans ⟨hn, hx⟩)
  exact optK_intro hv1 (optK_intro (src_str st1 s) (need_intro (bytes_one s) hA))
theorem writeByte_ok {st0 st : St} {b : Nat} {buf : List UInt8} {c : Int} (x : UInt8) {K : TV → St → Prop} (hc : c = x.toNat) (h : Bld st0 b st buf) (hl : buf.length + 1 ≤ 1000000000) (hk : ∀ st', Bld st0 b st' (buf ++ [x]) → But b st st' → K .nilIface st') :
    CallT PR fn_strings_Builder_WriteByte [.box b 0, .int .u8 c] [.one (.tv)] st K := by
  refine vc_strings_Builder_WriteByte b c st K (copyCheck_ok h fun st1 h1 e1 => ?_)
  obtain ⟨v1, hv1, hA⟩ := writeAny_ok (n := 1) (xs := [.int .u8 c]) (s := [x]) rfl (by rw [hc]; rfl) h1 (by rw [List.length_singleton]; omega) (K := fun st3 => K .nilIface st3) fun st' hb hx hn => hk st' hb ((But.ofX e1).trans ⟨hn, hx⟩)
  exact optK_intro hv1 hA
theorem builderString_ok {st0 st : St} {b : Nat} {buf : List UInt8} {K : List UInt8 → St → Prop} (h : Bld st0 b st buf) (hl : buf.length ≤ 140737488355328) (hk : ∀ st', StExt st0 st' → K buf st') :
    CallT PR fn_strings_Builder_String [.box b 0] [.one (.str)] st K := by
  obtain ⟨e, h1, h2, h3, p, v, hb, hp, hv⟩ := h
  have hld : ldCell st [] (.t (.box b 1)) 0 = some v := by simp [ldCell, hb]
  rcases hv with ⟨rfl, rfl⟩ | ⟨id, rfl, n1, n2, n3, n4, n5⟩
  · refine vc_strings_Builder_String b st K (optK_intro hld (optK_intro (x := .nilPtr) rfl (optK_intro hld (need_intro rfl ?_))))
    exact ⟨rfl, hk st e⟩
  · refine vc_strings_Builder_String b st K (optK_intro hld (optK_intro (x := .sptr (.list 1 (.own id) buf.length (bytesT buf))) ?_ (optK_intro hld (need_intro rfl ?_))))
    case refine_2 => exact ⟨⟨rfl, by omega, n4, n5⟩, optK_intro (asBytes_bytesT buf) (hk _ (e.retire n2))⟩
    simp only [sdataO]
    cases hz : buf.length.beq 0 with
    | true => exact absurd (List.eq_nil_of_length_eq_zero (Nat.eq_of_beq_eq_true hz)) n1
    | false => rfl
def shortN (c : UInt8) : Nat := if c = 34 ∨ c = 92 then c.toNat else if c = 8 then 98 else if c = 12 then 102 else if c = 10 then 110 else if c = 13 then 114 else if c = 9 then 116 else 0
theorem u8_eq {c : UInt8} {k : UInt8} : ((c.toNat : Int) = (k.toNat : Int)) ↔ c = k := by
  constructor
  · intro h; exact UInt8.toNat_inj.1 (by omega)
  · intro h; rw [h]
theorem short_ok {c : UInt8} {st : St} {K : Int → St → Prop} (hk : K (shortN c : Nat) st) : CallT PR fn_canon_short [.int .u8 (c.toNat : Int)] [.one (.int .u8)] st K := by
  unfold shortN at hk
  refine vc_canon_short _ st K ⟨fun b x y st' => b = decide (c = 34 ∨ c = 92) ∧ (c.toNat : Int) = x ∧ (c.toNat : Int) = y ∧ st = st', BIf_intro (fun g => ⟨decide_eq_decide.2 ⟨fun _ => .inl (u8_eq.1 g), fun _ => g⟩, rfl, rfl, rfl⟩) fun g => ⟨decide_eq_decide.2 ⟨fun h => .inr (u8_eq.1 h), fun h => by
    rcases h with h | h
    · exact absurd (u8_eq.2 h) g
    · exact u8_eq.2 h⟩, rfl, rfl, rfl⟩, ?_⟩
  rintro _ _ _ _ ⟨rfl, rfl, rfl, rfl⟩
  refine BIf_intro (fun g => ?_) fun g => ?_
  · rw [if_pos g] at hk; exact hk
  rw [if_neg g] at hk
  have step : ∀ {k : UInt8} {A B : Prop} (k' : Int), k' = (k.toNat : Int) → (c = k → A) → (c ≠ k → B) → BIf (decide ((c.toNat : Int) = k')) A B := fun {k A B} k' e h1 h2 => by
    subst e
    exact BIf_intro (fun h => h1 (u8_eq.1 h)) fun h => h2 fun e => h (u8_eq.2 e)
  refine step (k := 8) 8 rfl (fun h => by rw [if_pos h] at hk; exact hk) fun h1 => step (k := 12) 12 rfl (fun h => by rw [if_neg h1, if_pos h] at hk; exact hk) fun h2 => step (k := 10) 10 rfl (fun h => by rw [if_neg h1, if_neg h2, if_pos h] at hk; exact hk) fun h3 => step (k := 13) 13 rfl (fun h => by rw [if_neg h1, if_neg h2, if_neg h3, if_pos h] at hk; exact hk) fun h4 => step (k := 9) 9 rfl (fun h => by rw [if_neg h1, if_neg h2, if_neg h3, if_neg h4, if_pos h] at hk; exact hk) fun h5 => ?_
  rw [if_neg h1, if_neg h2, if_neg h3, if_neg h4, if_neg h5] at hk
  exact hk
theorem hexD16 : ∀ k : Nat, k < 16 → ([48, 49, 50, 51, 52, 53, 54, 55, 56, 57, 97, 98, 99, 100, 101, 102] : List UInt8).getD k 0 = hxD k
  | 0, _ => rfl
  | 1, _ => rfl
  | 2, _ => rfl
  | 3, _ => rfl
  | 4, _ => rfl
  | 5, _ => rfl
  | 6, _ => rfl
  | 7, _ => rfl
  | 8, _ => rfl
  | 9, _ => rfl
  | 10, _ => rfl
  | 11, _ => rfl
  | 12, _ => rfl
  | 13, _ => rfl
  | 14, _ => rfl
  | 15, _ => rfl
  | k + 16, h => by omega
theorem escB_short {c : UInt8} (h : shortN c ≠ 0) : ∃ x : UInt8, escB c = [92, x] ∧ shortN c = x.toNat := by
  unfold shortN at h ⊢
  unfold escB
  by_cases g : c = 34 ∨ c = 92
  · rw [if_pos g, if_pos g]; exact ⟨c, rfl, rfl⟩
  rw [if_neg g] at h ⊢
  rw [if_neg g]
  by_cases g1 : c = 8
  · rw [if_pos g1, if_pos g1]; exact ⟨98, rfl, rfl⟩
  rw [if_neg g1] at h ⊢
  rw [if_neg g1]
  by_cases g2 : c = 12
  · rw [if_pos g2, if_pos g2]; exact ⟨102, rfl, rfl⟩
  rw [if_neg g2] at h ⊢
  rw [if_neg g2]
  by_cases g3 : c = 10
  · rw [if_pos g3, if_pos g3]; exact ⟨110, rfl, rfl⟩
  rw [if_neg g3] at h ⊢
  rw [if_neg g3]
  by_cases g4 : c = 13
  · rw [if_pos g4, if_pos g4]; exact ⟨114, rfl, rfl⟩
  rw [if_neg g4] at h ⊢
  rw [if_neg g4]
  by_cases g5 : c = 9
  · rw [if_pos g5, if_pos g5]; exact ⟨116, rfl, rfl⟩
  rw [if_neg g5] at h
  exact absurd rfl h
theorem escB_long {c : UInt8} (h : shortN c = 0) : escB c = if c.toNat < 32 then [92, 117, 48, 48, hxD (c.toNat / 16), hxD (c.toNat % 16)] else [c] := by
  unfold shortN at h
  unfold escB
  by_cases g : c = 34 ∨ c = 92
  · rw [if_pos g] at h
    rcases g with g | g
    · exact absurd h (by rw [g]; decide)
    · exact absurd h (by rw [g]; decide)
  rw [if_neg g] at h
  by_cases g1 : c = 8
  · rw [if_pos g1] at h; omega
  rw [if_neg g1] at h
  by_cases g2 : c = 12
  · rw [if_pos g2] at h; omega
  rw [if_neg g2] at h
  by_cases g3 : c = 10
  · rw [if_pos g3] at h; omega
  rw [if_neg g3] at h
  by_cases g4 : c = 13
  · rw [if_pos g4] at h; omega
  rw [if_neg g4] at h
  by_cases g5 : c = 9
  · rw [if_pos g5] at h; omega
  rw [if_neg g, if_neg g1, if_neg g2, if_neg g3, if_neg g4, if_neg g5]
theorem fdiv16 (n : Nat) : Int.fdiv (n : Int) (2 ^ (min (Int.toNat (4 : Int)) (IntKind.bits .u8))) = ((n / 16 : Nat) : Int) := by
  have h2 : ((2 : Int) ^ (min (Int.toNat (4 : Int)) (IntKind.bits .u8))) = 16 := by decide
  rw [h2, Int.fdiv_eq_ediv_of_nonneg _ (by omega)]; omega
theorem and_u8' (x y : Nat) (hx : x < 2 ^ 8) (hy : y < 2 ^ 8) : bitsI .and .u8 (x : Int) (y : Int) = ((x &&& y : Nat) : Int) := by
  have h : x &&& y < 2 ^ 8 := Nat.and_lt_two_pow _ hy
  show IntKind.wrap .u8 ((BitVec.ofInt 8 (x : Int) &&& BitVec.ofInt 8 (y : Int)).toNat : Int) = _
  simp only [BitVec.ofInt_natCast, BitVec.toNat_and, BitVec.toNat_ofNat]
  rw [Nat.mod_eq_of_lt (by omega), Nat.mod_eq_of_lt (by omega), wrapU8 _ (by omega) (by omega)]
theorem and15 (c : UInt8) : bitsI .and .u8 (c.toNat : Int) (15 : Int) = ((c.toNat % 16 : Nat) : Int) := by
  have hb := c.toNat_lt
  have := and_u8' c.toNat (2 ^ 4 - 1) (by omega) (by decide)
  rw [Nat.and_two_pow_sub_one_eq_mod] at this
  exact this
theorem flatMap_take_len (s : List UInt8) (k : Nat) : ((s.take k).flatMap escB).length ≤ 6 * s.length := by
  have h : ∀ l : List UInt8, (l.flatMap escB).length ≤ 6 * l.length := by
    intro l
    induction l with
    | nil => simp
    | cons c r ih =>
      rw [List.flatMap_cons, List.length_append, List.length_cons]
      have := escB_len c
      omega
  have := h (s.take k)
  rw [List.length_take] at this; omega
theorem quote_ok {st0 st : St} {b : Nat} {buf s : List UInt8} {K : St → Prop} (h : Bld st0 b st buf) (hl : buf.length + 6 * s.length + 2 ≤ 900000000) (hk : ∀ st', Bld st0 b st' (buf ++ quB s) → But b st st' → K st') :
    CallT PR fn_canon_quote [.box b 0, .str s] [] st K := by
  refine vc_canon_quote b s st K (writeByte_ok 34 rfl h (by omega) fun st1 h1 e1 => ?_)
  refine ⟨fun i w s1 st' => TV.box b 0 = w ∧ s = s1 ∧ But b st st' ∧ ∃ k : Nat, i = k ∧ k ≤ s.length ∧ Bld st0 b st' (buf ++ [34] ++ (s.take k).flatMap escB), fun i _ _ _ => (s.length - i).toNat, ⟨rfl, rfl, e1, 0, rfl, Nat.zero_le _, by simpa using h1⟩, ?_⟩
  rintro _ _ _ st2 ⟨rfl, rfl, e2, k, rfl, hk1, h2⟩
  have hfl := flatMap_take_len s k
  refine BIf_intro (fun g => ?_) fun g => ?_
  · rw [Int.toNat_natCast]
    have hsn : (s.take (k + 1)).flatMap escB = (s.take k).flatMap escB ++ escB (s.getD k 0) := by
      rw [getD_take s k 0 (by omega), List.flatMap_append, List.flatMap_cons, List.flatMap_nil, List.append_nil]
    have hle := escB_len (s.getD k 0)
    generalize s.getD k 0 = c at hsn hle
    have hlen : (buf ++ [34] ++ (s.take k).flatMap escB).length ≤ 900000000 := by simp only [List.length_append, List.length_singleton]; omega
    have fin : ∀ st', Bld st0 b st' (buf ++ [34] ++ (s.take k).flatMap escB ++ escB c) → But b st2 st' → (TV.box b 0 = TV.box b 0 ∧ s = s ∧ But b st st' ∧ ∃ k' : Nat, IntKind.i64.wrap ((k : Int) + 1) = k' ∧ k' ≤ s.length ∧ Bld st0 b st' (buf ++ [34] ++ (s.take k').flatMap escB)) ∧ ((s.length : Int) - IntKind.i64.wrap ((k : Int) + 1)).toNat < ((s.length : Int) - (k : Int)).toNat := fun st' hb he => by
      rw [wrap64 _ (by omega) (by omega)]
      refine ⟨⟨rfl, rfl, e2.trans he, k + 1, by omega, by omega, ?_⟩, by omega⟩
      rw [hsn, ← List.append_assoc]; exact hb
    refine ⟨⟨by omega, by omega⟩, short_ok (BIf_intro (fun g2 => ?_) fun g2 => ?_)⟩
    · obtain ⟨x, hx, hx2⟩ := escB_short (c := c) (by omega)
      refine writeByte_ok 92 rfl h2 (by omega) fun st3 h3 e3 => writeByte_ok x (by omega) h3 (by rw [List.length_append, List.length_singleton]; omega) fun st4 h4 e4 => fin st4 ?_ (e3.trans e4)
      rw [hx]; simpa using h4
    · have hx := escB_long (c := c) (by omega)
      have hb := c.toNat_lt
      refine BIf_intro (fun g3 => ?_) fun g3 => ?_
      · rw [if_pos (by omega)] at hx
        rw [fdiv16, and15, Int.toNat_natCast, Int.toNat_natCast]
        have l16 : c.toNat / 16 < 16 := by omega
        have r16 : c.toNat % 16 < 16 := by omega
        refine writeString_ok h2 (by show _ + 4 ≤ _; omega) fun st3 h3 e3 => ⟨⟨by omega, by show _ < (16 : Int); omega⟩, writeByte_ok (hxD (c.toNat / 16)) (by rw [← hexD16 _ l16]; rfl) h3 (by rw [List.length_append]; show _ + 4 + 1 ≤ _; omega) fun st4 h4 e4 => ⟨⟨by omega, by show _ < (16 : Int); omega⟩, writeByte_ok (hxD (c.toNat % 16)) (by rw [← hexD16 _ r16]; rfl) h4 (by rw [List.length_append, List.length_append]; show _ + 4 + 1 + 1 ≤ _; omega) fun st5 h5 e5 => fin st5 ?_ ((e3.trans e4).trans e5)⟩⟩
        rw [hx, List.append_cons _ 92, List.append_cons _ 117, List.append_cons _ 48, List.append_cons _ 48, List.append_cons]
        have e4 : ∀ l : List UInt8, l ++ [92, 117, 48, 48] = (((l ++ [92]) ++ [117]) ++ [48]) ++ [48] := fun l => by simp
        rw [← e4]
        exact h5
      · rw [if_neg (by omega)] at hx
        refine writeByte_ok c rfl h2 (by omega) fun st3 h3 e3 => fin st3 ?_ e3
        rw [hx]; exact h3
  · have : k = s.length := by omega
    subst this
    rw [List.take_length] at h2 hfl
    refine writeByte_ok 34 rfl h2 (by simp only [List.length_append, List.length_singleton]; omega) fun st3 h3 e3 => hk st3 ?_ (e2.trans e3)
    have : buf ++ [34] ++ s.flatMap escB ++ [34] = buf ++ quB s := by unfold quB; simp
    rw [← this]; exact h3
end Go.TVF
end

section
namespace Go.TVF
open Go Go.Proofs
set_option linter.unusedVariables false
set_option linter.unusedSimpArgs false
theorem pow8 : (2 : Int) ^ (min (Int.toNat (8 : Int)) (IntKind.bits .i64)) = 256 := by decide
theorem pow1 : (2 : Int) ^ (min (Int.toNat (1 : Int)) (IntKind.bits .i64)) = 2 := by decide
theorem enc_ok {b : TV} {l : List UInt8} {pad : Bool} {st : St} {K : List UInt8 → St → Prop} (h : SlR st 1 b l.length (bytesT l)) (hl : (l.length : Int) ≤ 1000000) (hk : ∀ st', StExt st st' → K (encG pad l) st') : CallT PR fn_base_Encode [b, .bool pad] [.one (.str)] st K := by
  refine vc_base_Encode b pad st K ⟨fun out i b' pad' st1 => b = b' ∧ pad = pad' ∧ StExt st st1 ∧ 0 ≤ i ∧ i ≤ 1000002 ∧ ∃ o, OwnB st.nt st1 out o ∧ o ++ encG pad (l.drop i.toNat) = encG pad l ∧ (o.length : Int) ≤ 2 * i, fun _ i _ _ _ => (l.length - i).toNat, ⟨rfl, rfl, StExt.refl _, by omega, by omega, [], OwnB.nil _ _, rfl, by simp⟩, ?_⟩
  rintro out i _ _ st1 ⟨rfl, rfl, e1, h1, h1', o, hown, ho1, ho2⟩
  refine need_intro h.isSl ?_
  rw [h.lenS]
  refine BIf_intro (fun h2 => need_intro h.isSl ?_) fun h2 => ?_
  · have hd : (l.drop i.toNat).length = l.length - i.toNat := by simp
    rw [wrap64 ((l.length : Int) - i) (by omega) (by omega)]
    refine ⟨fun word n b' pad' out' i' n2 st2 => b = b' ∧ pad = pad' ∧ out = out' ∧ i = i' ∧ n2 = min (3 : Int) (l.length - i) ∧ st1 = st2 ∧ 0 ≤ n ∧ n ≤ 3 ∧ word = (wB (l.drop i.toNat) n.toNat : Nat), fun _ n _ _ _ _ _ _ => (3 - n).toNat, ⟨rfl, rfl, rfl, rfl, rfl, rfl, by omega, by omega, rfl⟩, ?_⟩
    rintro word n _ _ _ _ n2 _ ⟨rfl, rfl, rfl, rfl, hn2, rfl, g1, g2, rfl⟩
    refine BIf_intro (fun g3 => BIf_intro (fun g4 => ?_) fun g4 => ?_) fun g3 => ?_
    · have hW := W_lt (l.drop i.toNat) n.toNat
      have hW2 : 256 ^ n.toNat ≤ 256 ^ 2 := Nat.pow_le_pow_right (by decide) (by omega)
      have hi : (i + n).toNat < l.length := by omega
      rw [wrap64 (i + n) (by omega) (by omega), h.lenZ, wrap64 (n + 1) (by omega) (by omega)]
      refine ⟨⟨by omega, by omega⟩, optK_intro ((h.keep e1.keeps).ldb hi) ?_⟩
      show (_ ∧ _)
      have hb := byteLe l[(i + n).toNat]
      refine ⟨⟨rfl, rfl, rfl, rfl, hn2, rfl, by omega, by omega, ?_⟩, by dsimp only; omega⟩
      rw [pow8, wrapB8 _ hb, wrap64 _ (by omega) (by omega)]
      have := or_add (wB (l.drop i.toNat) n.toNat) l[(i + n).toNat].toNat 8 (by omega) (by omega)
      rw [show ((wB (l.drop i.toNat) n.toNat : Nat) : Int) * 256 = ((wB (l.drop i.toNat) n.toNat * 2 ^ 8 : Nat) : Int) by omega, this, show (n + 1).toNat = n.toNat + 1 by omega, wB]
      have hg : (l.drop i.toNat).getD n.toNat 0 = l[(i + n).toNat] := by
        have : i.toNat + n.toNat = (i + n).toNat := by omega
        simp [List.getD, this, hi]
      rw [hg]
    · have hW := W_lt (l.drop i.toNat) n.toNat
      have hW2 : 256 ^ n.toNat ≤ 256 ^ 2 := Nat.pow_le_pow_right (by decide) (by omega)
      rw [wrap64 (n + 1) (by omega) (by omega)]
      refine ⟨⟨rfl, rfl, rfl, rfl, hn2, rfl, by omega, by omega, ?_⟩, by dsimp only; omega⟩
      rw [pow8, wrap64 _ (by omega) (by omega), show (n + 1).toNat = n.toNat + 1 by omega, wB]
      have hg : (l.drop i.toNat).getD n.toNat 0 = 0 := by
        have : (l.drop i.toNat).length ≤ n.toNat := by rw [hd]; omega
        simp only [List.getD]
        rw [List.getElem?_eq_none (by omega)]; rfl
      rw [hg]
      show _ = ((_ + 0 : Nat) : Int)
      omega
    · have hn3 : n.toNat = 3 := by omega
      rw [hn3]
      refine ⟨fun out' k b' pad' i' n4 word st2 => b = b' ∧ pad = pad' ∧ i = i' ∧ n2 = n4 ∧ word = (wB (l.drop i.toNat) 3 : Nat) ∧ StExt st st2 ∧ 0 ≤ k ∧ k ≤ 4 ∧ OwnB st.nt st2 out' (o ++ grp (l.drop i.toNat) pad k.toNat), fun _ k _ _ _ _ _ _ => (4 - k).toNat, ⟨rfl, rfl, rfl, rfl, rfl, e1, by omega, by omega, by simpa [grp] using hown⟩, ?_⟩
      rintro out' k _ _ _ _ word st2 ⟨rfl, rfl, rfl, rfl, rfl, e2, k1, k2, hown2⟩
      have hgl := grp_le (l.drop i.toNat) pad k.toNat
      have hlen : (o ++ grp (l.drop i.toNat) pad k.toNat).length ≤ o.length + 4 := by rw [List.length_append]; omega
      have hmin : min 3 (l.drop i.toNat).length = (min (3 : Int) (l.length - i)).toNat := by rw [hd]; omega
      refine BIf_intro (fun k3 => ?_) fun k3 => ?_
      · have hw1 : IntKind.i64.wrap (k + 1) = k + 1 := wrap64 _ (by omega) (by omega)
        have ht : (k + 1).toNat = k.toNat + 1 := by omega
        rw [hw1]
        refine BIf_intro (fun k4 => ?_) fun k4 => BIf_iff.2 ⟨fun hp => ?_, fun hp => ?_⟩
        · rw [wrap64 (6 * k) (by omega) (by omega), wrap64 (18 - 6 * k) (by omega) (by omega)]
          have hW := W_lt (l.drop i.toNat) 3
          have hq : wB (l.drop i.toNat) 3 / 2 ^ (18 - 6 * k).toNat < 2 ^ 63 := Nat.lt_of_le_of_lt (Nat.div_le_self _ _) (by omega)
          have hand := and_mask (wB (l.drop i.toNat) 3 / 2 ^ (18 - 6 * k).toNat) 6 hq (by decide)
          rw [shr_i64 _ _ (by omega), show (63 : Int) = ((2 ^ 6 - 1 : Nat) : Int) by decide, hand]
          have hm : wB (l.drop i.toNat) 3 / 2 ^ (18 - 6 * k).toNat % 2 ^ 6 < 64 := Nat.mod_lt _ (by decide)
          refine need_intro (decide_eq_true (by omega)) ⟨⟨by omega, by show _ < (64 : Int); omega⟩, ?_⟩
          refine appK_bytes (ys := [b64A.getD (wB (l.drop i.toNat) 3 / 2 ^ (18 - 6 * k).toNat % 2 ^ 6) 0]) e2 hown2 (by simp at hlen ⊢; omega) fun v' st3 e3 _ hown3 => ?_
          refine ⟨⟨rfl, rfl, rfl, rfl, rfl, e3, by omega, by omega, ?_⟩, by dsimp only; omega⟩
          rw [ht, grp_succ, grpk, if_pos (by omega), show 18 - 6 * k.toNat = (18 - 6 * k).toNat by omega, ← List.append_assoc]
          exact hown3
        · refine appK_bytes (ys := [61]) e2 hown2 (by simp at hlen ⊢; omega) fun v' st3 e3 _ hown3 => ?_
          refine ⟨⟨rfl, rfl, rfl, rfl, rfl, e3, by omega, by omega, ?_⟩, by dsimp only; omega⟩
          rw [ht, grp_succ, grpk, if_neg (by omega), if_pos hp, ← List.append_assoc]
          exact hown3
        · refine ⟨⟨rfl, rfl, rfl, rfl, rfl, e2, by omega, by omega, ?_⟩, by dsimp only; omega⟩
          rw [ht, grp_succ, grpk, if_neg (by omega), if_neg (by simp [hp]), List.append_nil]
          exact hown2
      · have hk4 : k.toNat = 4 := by omega
        rw [hk4] at hown2 hlen
        rw [wrap64 (i + 3) (by omega) (by omega)]
        refine ⟨⟨rfl, rfl, e2, by omega, by omega, _, hown2, ?_, by omega⟩, by dsimp only; omega⟩
        rw [← ho1, encG_step pad (l.drop i.toNat) (by omega), List.append_assoc, List.drop_drop, show (i + 3).toNat = i.toNat + 3 by omega]
  · rw [List.drop_of_length_le (by omega), encG_nil, List.append_nil] at ho1
    rw [ho1] at hown
    refine optK_intro (x := .str (encG pad l)) (by rw [hown.rd.toBytes]; rfl) ?_
    exact hk _ e1
theorem bit_ok {b : TV} {l : List UInt8} {i : Int} {st : St} {K : Int → St → Prop} (h : SlR st 1 b l.length (bytesT l)) (h0 : 0 ≤ i) (h1 : i ≤ 100000000) (hk : K (bitL l i.toNat) st) : CallT PR fn_datakitref06_bit [b, .int .i64 i] [.one (.int .i64)] st K := by
  refine vc_datakitref06_bit b i st K (need_intro h.isSl ?_)
  rw [h.lenS, h.lenZ, Int.tdiv_eq_ediv_of_nonneg h0, Int.tmod_eq_emod_of_nonneg h0, wrap64 (i / 8) (by omega) (by omega)]
  refine BIf_intro (fun h2 => ?_) fun h2 => ?_
  · have hg : l.getD (i.toNat / 8) 0 = 0 := by
      simp only [List.getD]
      rw [List.getElem?_eq_none (by omega)]; rfl
    have : bitL l i.toNat = 0 := by
      rw [bitL, hg]
      show 0 / _ % 2 = 0
      simp
    rw [this] at hk; exact hk
  · have hi : (i / 8).toNat < l.length := by omega
    refine ⟨⟨by omega, by omega⟩, optK_intro (h.ldb hi) ?_⟩
    show need _ _
    have hu : IntKind.u64.wrap (7 - i % 8) = 7 - i % 8 := by
      unfold IntKind.wrap
      simp only [IntKind.signed, IntKind.bits]
      simp
      omega
    rw [wrap64 (7 - i % 8) (by omega) (by omega), hu]
    refine need_intro (decide_eq_true (by omega)) ?_
    have hb := byteLe l[(i / 8).toNat]
    have hm : min (7 - i % 8).toNat (IntKind.bits .u8) = (7 - i % 8).toNat := Nat.min_eq_left (by show _ ≤ 8; omega)
    rw [hm, show (2 : Int) ^ (7 - i % 8).toNat = ((2 ^ (7 - i % 8).toNat : Nat) : Int) by simp, Int.fdiv_eq_ediv_of_nonneg _ (Int.natCast_nonneg _)]
    have hq : l[(i / 8).toNat].toNat / 2 ^ (7 - i % 8).toNat ≤ 255 := Nat.le_trans (Nat.div_le_self _ _) hb
    rw [show ((l[(i / 8).toNat].toNat : Int) / ((2 ^ (7 - i % 8).toNat : Nat) : Int)) = ((l[(i / 8).toNat].toNat / 2 ^ (7 - i % 8).toNat : Nat) : Int) from rfl, wrapB8 _ hq]
    have hand := and_mask (l[(i / 8).toNat].toNat / 2 ^ (7 - i % 8).toNat) 1 (by omega) (by decide)
    rw [show (1 : Int) = ((2 ^ 1 - 1 : Nat) : Int) by decide, hand]
    have hg : l.getD (i.toNat / 8) 0 = l[(i / 8).toNat] := by
      have : (i / 8).toNat = i.toNat / 8 := by omega
      simp only [this]
      simp [List.getD, show i.toNat / 8 < l.length by omega]
    rw [bitL, hg, show 7 - i.toNat % 8 = (7 - i % 8).toNat by omega] at hk
    exact hk
theorem renc_ok {b : TV} {l : List UInt8} {pad : Bool} {st : St} {K : List UInt8 → St → Prop} (h : SlR st 1 b l.length (bytesT l)) (hl : (l.length : Int) ≤ 1000000) (hk : ∀ st', StExt st st' → K (encR pad l) st') : CallT PR fn_datakitref06_Encode [b, .bool pad] [.one (.str)] st K := by
  refine vc_datakitref06_Encode b pad st K ⟨fun out i b' pad' st1 => b = b' ∧ pad = pad' ∧ StExt st st1 ∧ 0 ≤ i ∧ i % 6 = 0 ∧ i ≤ 8 * l.length + 5 ∧ OwnB st.nt st1 out (digs l (i.toNat / 6)), fun _ i _ _ _ => (8 * l.length + 6 - i).toNat, ⟨rfl, rfl, StExt.refl _, by omega, by omega, by omega, OwnB.nil _ _⟩, ?_⟩
  rintro out i _ _ st1 ⟨rfl, rfl, e, h0, h6, h1, hown⟩
  have hdl : ∀ n, (digs l n).length = n := fun n => by simp [digs]
  refine need_intro h.isSl ?_
  rw [h.lenS, wrap64 (8 * (l.length : Int)) (by omega) (by omega)]
  refine BIf_intro (fun h2 => ?_) fun h2 => ?_
  · refine ⟨fun n k b' pad' out' i' st2 => b = b' ∧ pad = pad' ∧ out = out' ∧ i = i' ∧ st1 = st2 ∧ i ≤ k ∧ k ≤ i + 6 ∧ n = (bdg l i.toNat (k - i).toNat : Nat), fun _ k _ _ _ _ _ => (i + 6 - k).toNat, ⟨rfl, rfl, rfl, rfl, rfl, by omega, by omega, by simp [bdg]⟩, ?_⟩
    rintro n k _ _ _ _ _ ⟨rfl, rfl, rfl, rfl, rfl, g1, g2, rfl⟩
    rw [wrap64 (i + 6) (by omega) (by omega)]
    refine BIf_intro (fun g3 => ?_) fun g3 => ?_
    · refine bit_ok (h.keep e.keeps) (by omega) (by omega) ?_
      have hd := dg_lt l i.toNat (k - i).toNat
      have hp : 2 ^ (k - i).toNat ≤ 2 ^ 5 := Nat.pow_le_pow_right (by decide) (by omega)
      have hb2 : bitL l k.toNat < 2 := Nat.mod_lt _ (by decide)
      have hor := or_add (bdg l i.toNat (k - i).toNat) (bitL l k.toNat) 1 (by omega) (by omega)
      rw [pow1, wrap64 (((bdg l i.toNat (k - i).toNat : Nat) : Int) * 2) (by omega) (by omega), wrap64 (k + 1) (by omega) (by omega)]
      rw [show ((bdg l i.toNat (k - i).toNat : Nat) : Int) * 2 = ((bdg l i.toNat (k - i).toNat * 2 ^ 1 : Nat) : Int) by omega, hor]
      refine ⟨⟨rfl, rfl, rfl, rfl, rfl, by omega, by omega, ?_⟩, by dsimp only; omega⟩
      rw [show (k + 1 - i).toNat = (k - i).toNat + 1 by omega, bdg, show i.toNat + (k - i).toNat = k.toNat by omega]
    · have hk6 : (k - i).toNat = 6 := by omega
      rw [hk6]
      have hd := dg_lt l i.toNat 6
      refine ⟨⟨by omega, by show _ < (64 : Int); omega⟩, ?_⟩
      have hj : 6 * (i.toNat / 6) = i.toNat := by omega
      have hlt : ltr l (i.toNat / 6) = b64A.getD (bdg l i.toNat 6) 0 := by rw [ltr, hj]
      refine appK_bytes (ys := [b64A.getD (bdg l i.toNat 6) 0]) e hown (by rw [hdl]; simp; omega) fun v' st3 e3 _ hown3 => ?_ 
      refine ⟨⟨rfl, rfl, e3, by omega, by omega, by omega, ?_⟩, by dsimp only; omega⟩
      rw [show (i + 6).toNat / 6 = i.toNat / 6 + 1 by omega]
      have : digs l (i.toNat / 6 + 1) = digs l (i.toNat / 6) ++ [ltr l (i.toNat / 6)] := by simp [digs, List.range_succ]
      rw [this, hlt]; exact hown3
  · have hn : i.toNat / 6 = ndig l.length := by unfold ndig; omega
    rw [hn] at hown
    have hnl : ndig l.length ≤ 8 * l.length + 5 := by unfold ndig; omega
    refine ⟨fun out' pad' st2 => pad = pad' ∧ StExt st st2 ∧ ∃ j, j ≤ (if pad = true then (4 - ndig l.length % 4) % 4 else 0) ∧ OwnB st.nt st2 out' (digs l (ndig l.length) ++ List.replicate j 61), fun out' _ _ => (4 - lenS out' % 4) % 4, ⟨rfl, e, 0, Nat.zero_le _, by simpa using hown⟩, ?_⟩
    rintro out' _ st2 ⟨rfl, e2, j, hj, hown2⟩
    have hlen : (digs l (ndig l.length) ++ List.replicate j (61 : UInt8)).length = ndig l.length + j := by simp [hdl]
    refine BIf_iff.2 ⟨fun hp => need_intro hown2.rd.isSl ?_, fun hp => ?_⟩
    · rw [if_pos hp] at hj
      rw [hown2.rd.lenS, hlen, Int.tmod_eq_emod_of_nonneg (by omega)]
      refine BIf_intro (fun g => ?_) fun g => ?_
      · refine appK_bytes (ys := [61]) e2 hown2 (by rw [hlen]; simp; omega) fun v' st3 e3 _ hown3 => ?_
        refine ⟨⟨rfl, e3, j + 1, by rw [if_pos hp]; omega, ?_⟩, ?_⟩
        · rw [List.replicate_succ', ← List.append_assoc]; exact hown3
        · have hl3 := hown3.rd.lenS
          dsimp only
          rw [hl3, hown2.rd.lenS, List.length_append, hlen]
          simp only [List.length_cons, List.length_nil]
          omega
      · refine optK_intro (x := .str (encR pad l)) ?_ (show decT CTy.str (.str (encR pad l)) (fun s1 => K s1 st2) from hk _ e2)
        rw [hown2.rd.toBytes, encR, if_pos hp, show j = (4 - ndig l.length % 4) % 4 by omega]; rfl
    · rw [if_neg (by simp [hp])] at hj
      refine optK_intro (x := .str (encR pad l)) ?_ (show decT CTy.str (.str (encR pad l)) (fun s1 => K s1 st2) from hk _ e2)
      rw [hown2.rd.toBytes, encR, if_neg (by simp [hp]), show j = 0 by omega]; rfl
theorem encG_eq (pad : Bool) (l : List UInt8) : encG pad l = encR pad l := enc_eq pad l.length l (Nat.le_refl _)
theorem encR_len (pad : Bool) (l : List UInt8) : (encR pad l).length ≤ 2 * l.length + 8 := by
  unfold encR
  rw [List.length_append]
  have h1 : (digs l (ndig l.length)).length = ndig l.length := by simp [digs]
  have h2 : (if pad = true then List.replicate ((4 - ndig l.length % 4) % 4) (61 : UInt8) else []).length ≤ 3 := by
    split
    · rw [List.length_replicate]; omega
    · simp
  rw [h1]
  unfold ndig at h2 ⊢
  omega
theorem b64A_safe : ∀ c, c ∈ b64A → escB c = [c] := by decide
theorem encR_safe (pad : Bool) (l : List UInt8) : Safe (encR pad l) := by
  intro c hc
  unfold encR at hc
  rcases List.mem_append.1 hc with hc | hc
  · simp only [digs, List.mem_map] at hc
    obtain ⟨j, _, rfl⟩ := hc
    refine b64A_safe _ ?_
    unfold ltr
    have hl := dg_lt l (6 * j) 6
    exact getD_mem (by show _ < 64; omega)
  · split at hc
    · rw [List.eq_of_mem_replicate hc]; decide
    · cases hc
theorem hexTake (k : Nat) (h : k < 16) : (([48, 49, 50, 51, 52, 53, 54, 55, 56, 57, 97, 98, 99, 100, 101, 102] : List UInt8).take (k + 1)).drop k = [hxD k] := by
  rw [getD_take ([48, 49, 50, 51, 52, 53, 54, 55, 56, 57, 97, 98, 99, 100, 101, 102] : List UInt8) k 0 (by show k < 16; exact h), hexD16 k h, List.drop_append_of_le_length (by rw [List.length_take]; show k ≤ min k 16; omega), List.drop_of_length_le (by rw [List.length_take]; omega), List.nil_append]
theorem sign_ok {c : UInt8} {st : St} {K : List UInt8 → St → Prop} (hk : K (escB c) st) : CallT PR fn_datakitref10_sign [.int .u8 (c.toNat : Int)] [.one .str] st K := by
  refine vc_datakitref10_sign _ st K ?_
  unfold escB at hk
  have step : ∀ {k : UInt8} {A B : Prop} (k' : Int), k' = (k.toNat : Int) → (c = k → A) → (c ≠ k → B) → BIf (decide ((c.toNat : Int) = k')) A B := fun {k A B} k' e h1 h2 => by
    subst e
    exact BIf_intro (fun h => h1 (u8_eq.1 h)) fun h => h2 fun e => h (u8_eq.2 e)
  refine step (k := 34) 34 rfl (fun h => by rw [if_pos (.inl h), h] at hk; exact hk) fun h0 => step (k := 92) 92 rfl (fun h => by rw [if_pos (.inr h), h] at hk; exact hk) fun h6 => ?_
  rw [if_neg (fun h => h.elim h0 h6)] at hk
  refine step (k := 8) 8 rfl (fun h => by rw [if_pos h] at hk; exact hk) fun h1 => step (k := 12) 12 rfl (fun h => by rw [if_neg h1, if_pos h] at hk; exact hk) fun h2 => step (k := 10) 10 rfl (fun h => by rw [if_neg h1, if_neg h2, if_pos h] at hk; exact hk) fun h3 => step (k := 13) 13 rfl (fun h => by rw [if_neg h1, if_neg h2, if_neg h3, if_pos h] at hk; exact hk) fun h4 => step (k := 9) 9 rfl (fun h => by rw [if_neg h1, if_neg h2, if_neg h3, if_neg h4, if_pos h] at hk; exact hk) fun h5 => ?_
  rw [if_neg h1, if_neg h2, if_neg h3, if_neg h4, if_neg h5] at hk
  have hb := c.toNat_lt
  refine BIf_intro (fun g => ?_) fun g => ?_
  · rw [if_pos (by omega)] at hk
    have e1 : IntKind.u8.wrap (Int.tdiv (c.toNat : Int) 16) = ((c.toNat / 16 : Nat) : Int) := by
      rw [Int.tdiv_eq_ediv_of_nonneg (by omega), wrapU8 _ (by omega) (by omega)]; omega
    have e2 : Int.tmod (c.toNat : Int) 16 = ((c.toNat % 16 : Nat) : Int) := by rw [Int.tmod_eq_emod_of_nonneg (by omega)]; omega
    rw [e1, e2, wrapU8 _ (by omega) (by omega), wrapU8 _ (by omega) (by omega)]
    have t1 : Int.toNat (((c.toNat / 16 : Nat) : Int) + 1) = c.toNat / 16 + 1 := by omega
    have t2 : Int.toNat (((c.toNat % 16 : Nat) : Int) + 1) = c.toNat % 16 + 1 := by omega
    rw [t1, t2, Int.toNat_natCast, Int.toNat_natCast]
    have q1 := hexTake (c.toNat / 16) (by omega)
    have q2 := hexTake (c.toNat % 16) (by omega)
    have l16 : ∀ n : Nat, (List.take n ([48, 49, 50, 51, 52, 53, 54, 55, 56, 57, 97, 98, 99, 100, 101, 102] : List UInt8)).length ≤ 16 := fun n => by rw [List.length_take]; show min n 16 ≤ 16; omega
    refine ⟨⟨by omega, by omega, by show _ ≤ (16 : Int); omega⟩, ?_, ⟨by omega, by omega, by show _ ≤ (16 : Int); omega⟩, ?_, ?_⟩
    · show 4 + (List.drop (c.toNat / 16) (List.take (c.toNat / 16 + 1) ([48, 49, 50, 51, 52, 53, 54, 55, 56, 57, 97, 98, 99, 100, 101, 102] : List UInt8))).length ≤ _
      rw [q1, List.length_singleton]; omega
    · rw [List.length_append]
      show 4 + (List.drop (c.toNat / 16) (List.take (c.toNat / 16 + 1) ([48, 49, 50, 51, 52, 53, 54, 55, 56, 57, 97, 98, 99, 100, 101, 102] : List UInt8))).length + (List.drop (c.toNat % 16) (List.take (c.toNat % 16 + 1) ([48, 49, 50, 51, 52, 53, 54, 55, 56, 57, 97, 98, 99, 100, 101, 102] : List UInt8))).length ≤ _
      rw [q1, q2, List.length_singleton, List.length_singleton]; omega
    · show K (([92, 117, 48, 48] ++ List.drop (c.toNat / 16) (List.take (c.toNat / 16 + 1) ([48, 49, 50, 51, 52, 53, 54, 55, 56, 57, 97, 98, 99, 100, 101, 102] : List UInt8))) ++ List.drop (c.toNat % 16) (List.take (c.toNat % 16 + 1) ([48, 49, 50, 51, 52, 53, 54, 55, 56, 57, 97, 98, 99, 100, 101, 102] : List UInt8))) st
      rw [q1, q2]; exact hk
  · rw [if_neg (by omega)] at hk
    refine optK_intro (x := .str [c]) ?_ (decT_str hk)
    have := asBytes_bytesT [c]
    simp only [bytesT, List.map_cons, List.map_nil] at this
    show (asBytes [byteT c]).map _ = _
    rw [this]; rfl
theorem rQuoted_ok {s : List UInt8} (hl : s.length ≤ 10000000) {st : St} {K : List UInt8 → St → Prop} (hk : ∀ st', StExt st st' → K (quB s) st') : CallT PR fn_datakitref10_Quoted [.str s] [.one .str] st K := by
  refine vc_datakitref10_Quoted s st K ⟨fun o i s1 st' => s = s1 ∧ StExt st st' ∧ ∃ k : Nat, i = k ∧ k ≤ s.length ∧ OwnB st.nt st' o ([34] ++ (s.take k).flatMap escB), fun _ i _ _ => (s.length - i).toNat, ⟨rfl, StExt.refl _, 0, rfl, Nat.zero_le _, (show OwnB st.nt st (.list 1 .full 1 [.int .u8 34]) [34] from Own.full _ _ _ _ _)⟩, ?_⟩
  rintro o _ _ st1 ⟨rfl, e1, k, rfl, hk1, ho⟩
  have hfl := flatMap_take_len s k
  have hlen : ([34] ++ (s.take k).flatMap escB).length ≤ 6 * s.length + 1 := by rw [List.length_append, List.length_singleton]; omega
  refine BIf_intro (fun g => ⟨⟨by omega, by omega⟩, ?_⟩) fun g => ?_
  · rw [Int.toNat_natCast]
    have hsn : (s.take (k + 1)).flatMap escB = (s.take k).flatMap escB ++ escB (s.getD k 0) := by
      rw [getD_take s k 0 (by omega), List.flatMap_append, List.flatMap_cons, List.flatMap_nil, List.append_nil]
    have hle := escB_len (s.getD k 0)
    generalize s.getD k 0 = c at hsn hle
    refine sign_ok (optK_intro (src_str st1 (escB c)) (need_intro (bytes_one _) (appK_ys (ys := escB c) e1 ho rfl rfl (by omega) fun v' st2 e2 _ ho2 => ?_)))
    rw [wrap64 _ (by omega) (by omega)]
    refine ⟨⟨rfl, e2, k + 1, by omega, by omega, ?_⟩, by dsimp only; omega⟩
    rw [hsn, ← List.append_assoc]; exact ho2
  · have : k = s.length := by omega
    subst this
    rw [List.take_length] at ho hlen
    refine appK_ys (ys := [34]) e1 ho rfl rfl (by rw [List.length_singleton]; omega) fun v' st2 e2 _ ho2 => ?_
    refine optK_intro (x := .str (quB s)) ?_ (decT_str (hk _ e2))
    rw [ho2.rd.toBytes]
    unfold quB; simp
end Go.TVF
end

section
namespace Go.TVF
open Go Go.Proofs
set_option linter.unusedVariables false
set_option linter.unusedSimpArgs false
mutual
/-- The canonical text, the fields in the order in which they stand. -/
noncomputable def txtV : Vl → List UInt8
  | .mk s l f => if s.kind = 0 then [110, 117, 108, 108] else if s.kind = 1 then (if s.b then [116, 114, 117, 101] else [102, 97, 108, 115, 101]) else if s.kind = 2 then dcT s.neg s.dg s.ex
      else if s.kind = 3 then 116 :: 34 :: (timT s.tk s.td s.tn s.tz ++ [34]) else if s.kind = 4 then quB s.text else if s.kind = 5 then 98 :: 34 :: (encR true s.bytes ++ [34])
      else if s.kind = 6 then 91 :: (txtVs true l ++ [93]) else 123 :: (txtFs true f ++ [125])
noncomputable def txtVs : Bool → List Vl → List UInt8
  | _, [] => []
  | b, v :: r => (if b then [] else [44]) ++ (txtV v ++ txtVs false r)
noncomputable def txtD : Fd → List UInt8
  | .mk k v => quB k ++ 58 :: txtV v
noncomputable def txtFs : Bool → List Fd → List UInt8
  | _, [] => []
  | b, d :: r => (if b then [] else [44]) ++ (txtD d ++ txtFs false r)
end
mutual
/-- What is needed of a value that has a text. -/
def TxV : Vl → Prop
  | .mk s l f => (0 ≤ s.kind ∧ s.kind ≤ 7 ∧ DecOk s.neg s.dg s.ex ∧ (s.kind = 3 → TimeOk s.tk s.td s.tn s.tz) ∧ s.bytes.length ≤ 65536) ∧ TxVs l ∧ TxFs f
def TxVs : List Vl → Prop
  | [] => True
  | v :: r => TxV v ∧ TxVs r
def TxD : Fd → Prop
  | .mk _ v => TxV v
def TxFs : List Fd → Prop
  | [] => True
  | d :: r => TxD d ∧ TxFs r
end
theorem TxVs_iff : ∀ {l : List Vl}, TxVs l ↔ ∀ v, v ∈ l → TxV v
  | [] => by unfold TxVs; simp
  | v :: r => by unfold TxVs; rw [TxVs_iff]; simp
theorem TxFs_iff : ∀ {l : List Fd}, TxFs l ↔ ∀ v, v ∈ l → TxD v
  | [] => by unfold TxFs; simp
  | v :: r => by unfold TxFs; rw [TxFs_iff]; simp
mutual
theorem Valid.tx : ∀ {v : Vl}, Valid v → TxV v
  | .mk s l f, h => by
    unfold Valid at h
    unfold TxV
    exact ⟨⟨h.1.own.k0, h.1.own.k7, h.1.dec, h.1.time, h.1.blen⟩, Valids.tx h.2.1, Validf.tx h.2.2⟩
theorem Valids.tx : ∀ {l : List Vl}, Valids l → TxVs l
  | [], _ => by unfold TxVs; trivial
  | v :: r, h => by unfold Valids at h; unfold TxVs; exact ⟨Valid.tx h.1, Valids.tx h.2⟩
theorem ValidD.tx : ∀ {d : Fd}, ValidD d → TxD d
  | .mk k v, h => by unfold ValidD at h; unfold TxD; exact Valid.tx h
theorem Validf.tx : ∀ {l : List Fd}, Validf l → TxFs l
  | [], _ => by unfold TxFs; trivial
  | d :: r, h => by unfold Validf at h; unfold TxFs; exact ⟨ValidD.tx h.1, Validf.tx h.2⟩
end
mutual
theorem sortV_tx : ∀ {v : Vl}, TxV v → TxV (sortV v)
  | .mk s l f, h => by
    unfold TxV at h
    unfold sortV TxV
    refine ⟨h.1, sortVs_tx h.2.1, TxFs_iff.2 fun d hd => ?_⟩
    exact TxFs_iff.1 (sortFs_tx h.2.2) d ((sortFd_perm _).mem_iff.1 hd)
theorem sortVs_tx : ∀ {l : List Vl}, TxVs l → TxVs (sortVs l)
  | [], h => by unfold sortVs TxVs; trivial
  | v :: r, h => by
    unfold TxVs at h
    unfold sortVs TxVs
    exact ⟨sortV_tx h.1, sortVs_tx h.2⟩
theorem sortD_tx : ∀ {d : Fd}, TxD d → TxD (sortD d)
  | .mk k v, h => by unfold TxD at h; unfold sortD TxD; exact sortV_tx h
theorem sortFs_tx : ∀ {f : List Fd}, TxFs f → TxFs (sortFs f)
  | [], h => by unfold sortFs TxFs; trivial
  | d :: r, h => by
    unfold TxFs at h
    unfold sortFs TxFs
    exact ⟨sortD_tx h.1, sortFs_tx h.2⟩
end
theorem txtVs_snoc : ∀ (l : List Vl) (b : Bool) (v : Vl), txtVs b (l ++ [v]) = txtVs b l ++ ((if b = true ∧ l = [] then [] else [44]) ++ txtV v)
  | [], b, v => by simp only [List.nil_append, txtVs, List.append_nil]; cases b <;> simp
  | w :: r, b, v => by
    simp only [List.cons_append, txtVs]
    rw [txtVs_snoc r false v]
    simp [List.append_assoc]
theorem txtFs_snoc : ∀ (l : List Fd) (b : Bool) (v : Fd), txtFs b (l ++ [v]) = txtFs b l ++ ((if b = true ∧ l = [] then [] else [44]) ++ txtD v)
  | [], b, v => by simp only [List.nil_append, txtFs, List.append_nil]; cases b <;> simp
  | w :: r, b, v => by
    simp only [List.cons_append, txtFs]
    rw [txtFs_snoc r false v]
    simp [List.append_assoc]
theorem txtVs_take {l : List Vl} {k : Nat} {v : Vl} (h : l[k]? = some v) : txtVs true (l.take (k + 1)) = txtVs true (l.take k) ++ ((if k = 0 then [] else [44]) ++ txtV v) := by
  rw [take_snoc h, txtVs_snoc]
  have hk := (List.getElem?_eq_some_iff.1 h).1
  congr 2
  by_cases h0 : k = 0
  · subst h0; simp
  · rw [if_neg h0, if_neg]
    rintro ⟨_, e⟩
    have := congrArg List.length e
    rw [List.length_take, List.length_nil] at this
    omega
theorem txtFs_take {l : List Fd} {k : Nat} {v : Fd} (h : l[k]? = some v) : txtFs true (l.take (k + 1)) = txtFs true (l.take k) ++ ((if k = 0 then [] else [44]) ++ txtD v) := by
  rw [take_snoc h, txtFs_snoc]
  have hk := (List.getElem?_eq_some_iff.1 h).1
  congr 2
  by_cases h0 : k = 0
  · subst h0; simp
  · rw [if_neg h0, if_neg]
    rintro ⟨_, e⟩
    have := congrArg List.length e
    rw [List.length_take, List.length_nil] at this
    omega
theorem txtVs_le_get : ∀ {l : List Vl} {b : Bool} {k : Nat} {v : Vl}, l[k]? = some v → (txtVs b (l.take k)).length + (txtV v).length + (if b = true ∧ k = 0 then 0 else 1) ≤ (txtVs b l).length
  | [], b, k, v, h => by simp at h
  | w :: r, b, 0, v, h => by
    simp at h; subst h
    cases b <;> simp [txtVs] <;> omega
  | w :: r, b, k + 1, v, h => by
    have := txtVs_le_get (l := r) (b := false) (k := k) (v := v) (by simpa using h)
    simp only [List.take_succ_cons, txtVs, List.length_append] at this ⊢
    simp at this ⊢; omega
theorem txtFs_le_get : ∀ {l : List Fd} {b : Bool} {k : Nat} {v : Fd}, l[k]? = some v → (txtFs b (l.take k)).length + (txtD v).length + (if b = true ∧ k = 0 then 0 else 1) ≤ (txtFs b l).length
  | [], b, k, v, h => by simp at h
  | w :: r, b, 0, v, h => by
    simp at h; subst h
    cases b <;> simp [txtFs] <;> omega
  | w :: r, b, k + 1, v, h => by
    have := txtFs_le_get (l := r) (b := false) (k := k) (v := v) (by simpa using h)
    simp only [List.take_succ_cons, txtFs, List.length_append] at this ⊢
    simp at this ⊢; omega
theorem SlR.unput {st : St} {b sz n : Nat} {u : TV} {xs : List TV} (h : SlR (st.put b .dead) sz u n xs) : SlR st sz u n xs := by
  rcases h with h | ⟨b', off, cap, l, h1, h2, h3, h4, h5, h6⟩
  · exact .inl h
  · refine .inr ⟨b', off, cap, l, h1, h2, ?_, h4, h5, h6⟩
    simp only [St.put] at h3
    split at h3
    · cases h3
    · exact h3
theorem But.view {b : Nat} {x y : St} (h : But b x y) : Keeps (x.put b .dead) (y.put b .dead) := by
  refine ⟨h.1, fun i hi => ?_⟩
  simp only [St.put]
  by_cases e : i = b
  · rw [if_pos e, if_pos e]
  · rw [if_neg e, if_neg e]; exact h.2 i e hi
theorem VlO.view {st : St} {b : Nat} {v : Vl} {cs : List TV} {fp : List Nat} (h : VlO st v cs fp) (hb : b ∉ fp) : VlR (st.put b .dead) v cs :=
  (h.frame (S := (· = b)) (StX.put (S := (· = b)) rfl _) fun x hx e => hb (e ▸ hx)).rd
/-- An element of a row of values is loaded, in a state where a box has changed. -/
theorem el13v {b : Nat} {st0 st : St} {ul : TV} {xl : List TV} {l : List Vl} (hke : But b st0 st) (h2 : SlR (st0.put b .dead) 13 ul l.length xl) (h3 : VsR (st0.put b .dead) l xl) {i : Int} {k : Nat} (hi : i = k) (hk : k < l.length) {f : Fun [.int .i64, .bool, .bool, .str, .int .i64, .int .i64, .int .i64, .int .i64, .int .i64, .str, .tv, .tv, .tv] Prop}
    (hf : ∀ s' l' f' ub1 ul1 uf1, l[k]? = some (.mk s' l' f') → VlR (st0.put b .dead) (.mk s' l' f') (cellsV s' ub1 ul1 uf1) → List.all (cellsV s' ub1 ul1 uf1) oneT = true → f s'.kind s'.b s'.neg s'.dg s'.ex s'.tk s'.td s'.tn s'.tz s'.text ub1 ul1 uf1) :
    (0 ≤ i ∧ i < (lenZ 13 ul : Int)) ∧ optK ((ldCells st [] (.t (ixT 13 ul (Int.toNat i))) 0 13).map TV.agg) fun x => decA [.int .i64, .bool, .bool, .str, .int .i64, .int .i64, .int .i64, .int .i64, .int .i64, .str, .tv, .tv, .tv] x f := by
  subst hi
  have gw : l[k]? = some l[k] := List.getElem?_eq_getElem hk
  obtain ⟨cw, hw, hcw, hcl⟩ := h3.get gw
  rw [h2.lenZ, Int.toNat_natCast, (h2.keep hke.view).unput.ldc h3.len hk, hcw]
  generalize l[k] = w at *
  cases w with
  | mk s' l' f' =>
  have hw0 := hw
  unfold VlR at hw0
  obtain ⟨ub', ul', uf', xl', xf', rfl, w1, w2, w3, w4, w5⟩ := hw0
  exact ⟨⟨by omega, by omega⟩, optK_intro rfl (decA13 (hf s' l' f' ub' ul' uf' gw hw (one13 w1.one w2.one w4.one)))⟩
theorem el14v {b : Nat} {st0 st : St} {uf : TV} {xf : List TV} {l : List Fd} (hke : But b st0 st) (h2 : SlR (st0.put b .dead) 14 uf l.length xf) (h3 : FsR (st0.put b .dead) l xf) {i : Int} {k : Nat} (hi : i = k) (hk : k < l.length) {f : Fun [.str, .int .i64, .bool, .bool, .str, .int .i64, .int .i64, .int .i64, .int .i64, .int .i64, .str, .tv, .tv, .tv] Prop}
    (hf : ∀ key s' l' f' ub1 ul1 uf1, l[k]? = some (.mk key (.mk s' l' f')) → VlR (st0.put b .dead) (.mk s' l' f') (cellsV s' ub1 ul1 uf1) → List.all (.str key :: cellsV s' ub1 ul1 uf1) oneT = true → f key s'.kind s'.b s'.neg s'.dg s'.ex s'.tk s'.td s'.tn s'.tz s'.text ub1 ul1 uf1) :
    (0 ≤ i ∧ i < (lenZ 14 uf : Int)) ∧ optK ((ldCells st [] (.t (ixT 14 uf (Int.toNat i))) 0 14).map TV.agg) fun x => decA [.str, .int .i64, .bool, .bool, .str, .int .i64, .int .i64, .int .i64, .int .i64, .int .i64, .str, .tv, .tv, .tv] x f := by
  subst hi
  have gw : l[k]? = some l[k] := List.getElem?_eq_getElem hk
  obtain ⟨cw, hw, hcw, hcl⟩ := h3.get gw
  rw [h2.lenZ, Int.toNat_natCast, (h2.keep hke.view).unput.ldc h3.len hk, hcw]
  generalize l[k] = w at *
  cases w with
  | mk key w =>
  cases w with
  | mk s' l' f' =>
  have hw0 := hw
  unfold FdR at hw0
  obtain ⟨cw2, rfl, hw1⟩ := hw0
  have hw2 := hw1
  unfold VlR at hw2
  obtain ⟨ub', ul', uf', xl', xf', rfl, w1, w2, w3, w4, w5⟩ := hw2
  exact ⟨⟨by omega, by omega⟩, optK_intro rfl (decA14 (hf key s' l' f' ub' ul' uf' gw hw1 (one14 w1.one w2.one w4.one)))⟩
theorem timT_len (k td tn tz : Int) : (timT k td tn tz).length ≤ 40 := by
  have h1 : ∀ n, (datT n).length = 10 := fun n => by unfold datT; simp only [List.length_append, List.length_cons, padD_len]
  have h2 : ∀ n, (clkT n).length ≤ 18 := fun n => by
    unfold clkT
    have : (if n % 1000000000 = 0 then ([] : List UInt8) else 46 :: cut0 (padD 9 (n % 1000000000))).length ≤ 10 := by
      split
      · simp
      · have := cut0_len (padD 9 (n % 1000000000))
        rw [padD_len] at this
        rw [List.length_cons]; omega
    simp only [List.length_append, List.length_cons, padD_len]; omega
  have h3 : ∀ z, (offT z).length ≤ 6 := fun z => by
    unfold offT; split
    · decide
    · simp only [List.length_append, List.length_cons, padD_len]; omega
  unfold timT
  have e1 := h1 td.toNat
  have e2 := h2 tn.toNat
  have e3 := h3 tz
  split
  · omega
  split
  · omega
  split
  · rw [List.length_append, List.length_cons]; omega
  · rw [List.length_append, List.length_cons, List.length_append]; omega
theorem mText_ok {k d n z : Int} (h : TimeOk k d n z) {st : St} {K : List UInt8 → St → Prop} (hk : ∀ st', StExt st st' → K (timT k d n z) st') : CallT PR fn_moment_Text [.agg [.int .i64 k, .int .i64 d, .int .i64 n, .int .i64 z]] [.one .str] st K := by
  have h0 := h
  obtain ⟨a1, a2, a3, a4, a5, a6, a7, a8, a9, a10, a11⟩ := h
  have ed : d = ((d.toNat : Nat) : Int) := by omega
  have en : n = ((n.toNat : Nat) : Int) := by omega
  have l1 : ∀ m, (datT m).length = 10 := fun n => by unfold datT; simp only [List.length_append, List.length_cons, padD_len]
  unfold timT at hk
  have hdt : ∀ {st : St} {K : List UInt8 → St → Prop}, (∀ st', StExt st st' → K (datT d.toNat) st') → CallT PR fn_moment_dateText [.int .i64 d] [.one .str] st K := fun {st K} hk => by
    rw [ed]; exact dateText_ok (by omega) hk
  have hct : ∀ {st : St} {K : List UInt8 → St → Prop}, (∀ st', StExt st st' → K (clkT n.toNat) st') → CallT PR fn_moment_clockText [.int .i64 n] [.one .str] st K := fun {st K} hk => by
    rw [en]; exact clockText_ok (by omega) hk
  have l2 : (clkT n.toNat).length ≤ 40 := by have := timT_len 2 d n z; unfold timT at this; rw [if_neg (by omega), if_pos rfl] at this; exact this
  have l3 : (offT z).length ≤ 40 := by have := timT_len 4 d n z; unfold timT at this; rw [if_neg (by omega), if_neg (by omega), if_neg (by omega), List.length_append, List.length_cons, List.length_append] at this; omega
  have l1' := l1 d.toNat
  refine vc_moment_Text _ _ _ _ st K (timeValid_ok ?_)
  rw [decide_eq_true h0]
  refine BIf_intro (p := False) (fun h => h.elim) fun _ => BIf_intro (fun g => ?_) fun g1 => BIf_intro (fun g => ?_) fun g2 => BIf_intro (fun g => ?_) fun g3 => ?_
  · rw [if_pos g] at hk; exact hdt hk
  · rw [if_neg g1, if_pos g] at hk; exact hct hk
  · rw [if_neg g1, if_neg g2, if_pos g] at hk
    refine hdt fun st1 e1 => ⟨by rw [l1']; show 10 + 1 ≤ _; omega, hct fun st2 e2 => ⟨by rw [List.length_append, l1']; show 10 + 1 + _ ≤ _; omega, ?_⟩⟩
    have := hk st2 (e1.trans e2)
    rw [List.append_cons] at this
    exact this
  · rw [if_neg g1, if_neg g2, if_neg g3] at hk
    refine hdt fun st1 e1 => ⟨by rw [l1']; show 10 + 1 ≤ _; omega, hct fun st2 e2 => ⟨by rw [List.length_append, l1']; show 10 + 1 + _ ≤ _; omega, offsetText_ok a7 a8 fun st3 e3 => ⟨by rw [List.length_append, List.length_append, l1']; show 10 + 1 + _ + _ ≤ _; omega, ?_⟩⟩⟩
    have := hk st3 ((e1.trans e2).trans e3)
    rw [List.append_cons, ← List.append_assoc] at this
    exact this
theorem rmText_ok {k d n z : Int} (h : TimeOk k d n z) {st : St} {K : List UInt8 → St → Prop} (hk : ∀ st', StExt st st' → K (timT k d n z) st') : CallT PR fn_datakitref05_Text [.agg [.int .i64 k, .int .i64 d, .int .i64 n, .int .i64 z]] [.one .str] st K := by
  have h0 := h
  obtain ⟨a1, a2, a3, a4, a5, a6, a7, a8, a9, a10, a11⟩ := h
  have ed : d = ((d.toNat : Nat) : Int) := by omega
  have en : n = ((n.toNat : Nat) : Int) := by omega
  have hct : ∀ {st : St} {K : List UInt8 → St → Prop}, (K (clkT n.toNat) st) → CallT PR fn_datakitref05_clock [.int .i64 n] [.one .str] st K := fun {st K} hk => by
    rw [en]; exact rclock_ok (by omega) hk
  have l2 : (clkT n.toNat).length ≤ 40 := by have := timT_len 2 d n z; unfold timT at this; rw [if_neg (by omega), if_pos rfl] at this; exact this
  have l3 : (offT z).length ≤ 40 := by have := timT_len 4 d n z; unfold timT at this; rw [if_neg (by omega), if_neg (by omega), if_neg (by omega), List.length_append, List.length_cons, List.length_append] at this; omega
  have hk := hk st (StExt.refl st)
  unfold timT at hk
  refine vc_datakitref05_Text _ _ _ _ st K (rTime_ok ?_)
  rw [decide_eq_true h0]
  refine BIf_intro (p := False) (fun h => h.elim) fun _ => ?_
  rw [ed]
  refine rDate_ok (by omega) fun y m dd hd => ?_
  have he := datT_eq hd
  obtain ⟨b1, b2, b3, b4, b5, b6, b7⟩ := hd
  have hm := monD_le y m
  have l4 := padD_len 4 y
  have l5 := padD_len 2 m
  have l6 := padD_len 2 dd
  refine pad_ok (w := 4) (by omega) (by omega) ⟨by rw [l4]; show 4 + 1 ≤ _; omega, pad_ok (w := 2) (by omega) (by omega) ⟨by rw [List.length_append, l4, l5]; show 4 + 1 + 2 ≤ _; omega, by rw [List.length_append, List.length_append, l4, l5]; show 4 + 1 + 2 + 1 ≤ _; omega, pad_ok (w := 2) (by omega) (by omega) ⟨by simp only [List.length_append, l4, l5, l6]; show 4 + 1 + 2 + 1 + 2 ≤ _; omega, ?_⟩⟩⟩
  rw [List.append_cons, List.append_cons, List.append_assoc (padD 4 y ++ [45]), ← List.append_assoc, ← List.append_assoc] at he
  have he2 : ((((padD 4 y ++ str9) ++ padD 2 m) ++ str9) ++ padD 2 dd) = datT d.toNat := he.symm
  have l1' : (datT d.toNat).length = 10 := by unfold datT; simp only [List.length_append, List.length_cons, padD_len]
  rw [he2]
  refine BIf_intro (fun g => ?_) fun g1 => BIf_intro (fun g => ?_) fun g2 => BIf_intro (fun g => ?_) fun g3 => ?_
  · rw [if_pos g] at hk; exact hk
  · rw [if_neg g1, if_pos g] at hk; exact hct hk
  · rw [if_neg g1, if_neg g2, if_pos g] at hk
    refine ⟨by rw [l1']; show 10 + 1 ≤ _; omega, hct ⟨by rw [List.length_append, l1']; show 10 + 1 + _ ≤ _; omega, ?_⟩⟩
    rw [List.append_cons] at hk
    exact hk
  · rw [if_neg g1, if_neg g2, if_neg g3] at hk
    refine ⟨by rw [l1']; show 10 + 1 ≤ _; omega, hct ⟨by rw [List.length_append, l1']; show 10 + 1 + _ ≤ _; omega, roffset_ok a7 a8 ⟨by rw [List.length_append, List.length_append, l1']; show 10 + 1 + _ + _ ≤ _; omega, ?_⟩⟩⟩
    rw [List.append_cons, ← List.append_assoc] at hk
    exact hk
end Go.TVF
end

section
namespace Go.TVF
open Go Go.Proofs
set_option linter.unusedVariables false
set_option linter.unusedSimpArgs false
set_option maxRecDepth 4000 in
theorem write_ok : ∀ (N : Nat) (v : Vl), v.sz ≤ N → N ≤ 2000000 → TxV v → ∀ {st0 sv st : St} {b : Nat} {cs : List TV} {buf : List UInt8} {K : St → Prop}, VlR (sv.put b .dead) v cs → But b sv st → Bld st0 b st buf → buf.length + (txtV v).length ≤ 800000000 → v.sz ≤ 20000000 →
    (∀ st', Bld st0 b st' (buf ++ txtV v) → But b st st' → K st') → CallT PR fn_canon_write [.box b 0, .agg cs] [] st K := by
  intro N
  induction N with
  | zero => intro v h; have := v.sz_pos; omega
  | succ N ih =>
  intro v hN hN2 hok st0 sv st b cs buf K h hke hB hlen hsz0 hk
  cases v with
  | mk s l f =>
  have hsz : (Vl.mk s l f).sz = 1 + s.bytes.length + s.text.length + s.dg.length + vsSz l + fsSz f := by unfold Vl.sz; rfl
  have hll := vsSz_len l
  have hfl := fsSz_len f
  unfold TxV at hok
  obtain ⟨⟨k0, k7, hdec, htime, hblen⟩, lok, fok⟩ := hok
  unfold VlR at h
  obtain ⟨ub, ul, uf, xl, xf, rfl, h1, h2, h3, h4, h5⟩ := h
  unfold txtV at hlen hk
  refine vc_canon_write _ _ _ _ _ _ _ _ _ _ _ _ _ _ st K ?_
  refine BIf_intro (fun g => ?_) fun g0 => BIf_intro (fun g => ?_) fun g1 => BIf_intro (fun g => ?_) fun g2 => BIf_intro (fun g => ?_) fun g3 => BIf_intro (fun g => ?_) fun g4 => BIf_intro (fun g => ?_) fun g5 => BIf_intro (fun g => ?_) fun g6 => BIf_intro (fun g => ?_) fun g7 => ?_
  · rw [if_pos g] at hlen hk
    exact writeString_ok hB (by show _ + 4 ≤ _; omega) fun st' hb he => hk st' hb he
  · rw [if_neg g0, if_pos g] at hlen hk
    refine BIf_bool (fun hb => ?_) fun hb => ?_
    · rw [if_pos hb] at hk
      exact writeString_ok hB (by show _ + 4 ≤ _; omega) fun st' hb he => hk st' hb he
    · rw [if_neg (by simp [hb])] at hk
      exact writeString_ok hB (by show _ + 5 ≤ _; omega) fun st' hb he => hk st' hb he
  · rw [if_neg g0, if_neg g1, if_pos g] at hlen hk
    exact dText_ok hdec fun st1 e1 => writeString_ok (hB.keep e1) (by omega) fun st' hb he => hk st' hb ((But.of e1).trans he)
  · rw [if_neg g0, if_neg g1, if_neg g2, if_pos g] at hlen hk
    have htl := timT_len s.tk s.td s.tn s.tz
    refine mText_ok (htime g) fun st1 e1 => ⟨by show 2 + _ ≤ _; omega, by rw [List.length_append]; show 2 + _ + 1 ≤ _; omega, writeString_ok (hB.keep e1) (by rw [List.length_append, List.length_append]; show _ + (2 + _ + 1) ≤ _; omega) fun st' hb he => hk st' ?_ ((But.of e1).trans he)⟩
    exact hb
  · rw [if_neg g0, if_neg g1, if_neg g2, if_neg g3, if_pos g] at hlen hk
    exact quote_ok hB (by omega) fun st' hb he => hk st' hb he
  · rw [if_neg g0, if_neg g1, if_neg g2, if_neg g3, if_neg g4, if_pos g] at hlen hk
    have hel := encR_len true s.bytes
    refine enc_ok ((h1.keep hke.view).unput) (by omega) fun st1 e1 => ?_
    rw [encG_eq]
    refine ⟨by show 2 + _ ≤ _; omega, by rw [List.length_append]; show 2 + _ + 1 ≤ _; omega, writeString_ok (hB.keep e1) (by rw [List.length_append, List.length_append]; show _ + (2 + _ + 1) ≤ _; omega) fun st' hb he => hk st' ?_ ((But.of e1).trans he)⟩
    exact hb
  · rw [if_neg g0, if_neg g1, if_neg g2, if_neg g3, if_neg g4, if_neg g5, if_pos g] at hlen hk
    simp only [List.length_cons, List.length_append, List.length_nil] at hlen
    refine writeByte_ok 91 rfl hB (by omega) fun st1 hb1 he1 => need_intro h2.isSl ?_
    refine ⟨fun i w u n st' => TV.box b 0 = w ∧ ul = u ∧ (l.length : Int) = n ∧ But b st st' ∧ ∃ k : Nat, i = k ∧ k ≤ l.length ∧ Bld st0 b st' (buf ++ [91] ++ txtVs true (l.take k)), fun i _ _ _ _ => (l.length - i).toNat, ⟨rfl, rfl, by rw [h2.lenS], he1, 0, rfl, Nat.zero_le _, by simpa [txtVs] using hb1⟩, ?_⟩
    rintro _ _ _ _ st2 ⟨rfl, rfl, rfl, he2, k, rfl, hkl, hb2⟩
    refine BIf_intro (fun g' => ?_) fun g' => ?_
    · refine el13v (hke.trans he2) h2 h3 rfl (by omega) fun s' l' f' ub1 ul1 uf1 gw hw on => need_intro on ?_
      have hwsz := vsSz_get gw
      have htk := txtVs_take gw
      have hle := txtVs_le_get (b := true) gw
      have hwt := TxVs_iff.1 lok _ (mem_of_get gw)
      have fin : ∀ (buf2 : List UInt8) st3, But b st st3 → Bld st0 b st3 buf2 → buf2 = buf ++ [91] ++ txtVs true (l.take k) ++ (if k = 0 then [] else [44]) → CallT PR fn_canon_write [.box b 0, .agg (cellsV s' ub1 ul1 uf1)] [] st3 fun st4 => (TV.box b 0 = TV.box b 0 ∧ ul = ul ∧ (l.length : Int) = (l.length : Int) ∧ But b st st4 ∧ ∃ k' : Nat, IntKind.i64.wrap ((k : Int) + 1) = k' ∧ k' ≤ l.length ∧ Bld st0 b st4 (buf ++ [91] ++ txtVs true (l.take k'))) ∧ ((l.length : Int) - IntKind.i64.wrap ((k : Int) + 1)).toNat < ((l.length : Int) - (k : Int)).toNat := by
        intro buf2 st3 he3 hb3 hbuf
        have hbl : buf2.length + (txtV (.mk s' l' f')).length ≤ 800000000 := by
          rw [hbuf]
          by_cases h0 : k = 0
          · rw [if_pos h0]
            rw [if_pos (by simp [h0])] at hle
            simp only [List.length_append, List.length_cons, List.length_nil]; omega
          · rw [if_neg h0]
            rw [if_neg (fun h => h0 h.2)] at hle
            simp only [List.length_append, List.length_cons, List.length_nil]; omega
        refine ih _ (by omega) (by omega) hwt hw (hke.trans he3) hb3 hbl (by omega) fun st4 hb4 he4 => ?_
        rw [wrap64 _ (by omega) (by omega)]
        refine ⟨⟨rfl, rfl, rfl, he3.trans he4, k + 1, by omega, by omega, ?_⟩, by omega⟩
        rw [htk, ← List.append_assoc, ← List.append_assoc, ← hbuf]; exact hb4
      refine BIf_intro (fun g9 => ?_) fun g9 => fin _ st2 he2 hb2 (by rw [if_pos (by omega), List.append_nil])
      refine writeByte_ok 44 rfl hb2 ?_ fun st3 hb3 he3 => fin _ st3 (he2.trans he3) hb3 (by rw [if_neg (by omega)])
      rw [if_neg (by omega)] at hle
      simp only [List.length_append, List.length_cons, List.length_nil]; omega
    · have hkk : k = l.length := by omega
      subst hkk
      rw [List.take_length] at hb2
      refine writeByte_ok 93 rfl hb2 (by simp only [List.length_append, List.length_cons, List.length_nil]; omega) fun st3 hb3 he3 => hk st3 ?_ (he2.trans he3)
      have : buf ++ [91] ++ txtVs true l ++ [93] = buf ++ 91 :: (txtVs true l ++ [93]) := by simp
      rw [← this]; exact hb3
  · rw [if_neg g0, if_neg g1, if_neg g2, if_neg g3, if_neg g4, if_neg g5, if_neg g6] at hlen hk
    simp only [List.length_cons, List.length_append, List.length_nil] at hlen
    refine writeByte_ok 123 rfl hB (by omega) fun st1 hb1 he1 => need_intro h4.isSl ?_
    refine ⟨fun i w u n st' => TV.box b 0 = w ∧ uf = u ∧ (f.length : Int) = n ∧ But b st st' ∧ ∃ k : Nat, i = k ∧ k ≤ f.length ∧ Bld st0 b st' (buf ++ [123] ++ txtFs true (f.take k)), fun i _ _ _ _ => (f.length - i).toNat, ⟨rfl, rfl, by rw [h4.lenS], he1, 0, rfl, Nat.zero_le _, by simpa [txtFs] using hb1⟩, ?_⟩
    rintro _ _ _ _ st2 ⟨rfl, rfl, rfl, he2, k, rfl, hkl, hb2⟩
    refine BIf_intro (fun g' => ?_) fun g' => ?_
    · refine el14v (hke.trans he2) h4 h5 rfl (by omega) fun key s' l' f' ub1 ul1 uf1 gw hw on => need_intro on ?_
      have hwsz := fsSz_get gw
      have hwk : (Fd.mk key (.mk s' l' f')).sz = key.length + (Vl.mk s' l' f').sz := by unfold Fd.sz; rfl
      have htk := txtFs_take gw
      have hle := txtFs_le_get (b := true) gw
      have hwt := TxFs_iff.1 fok _ (mem_of_get gw)
      unfold TxD at hwt
      have hvp := (Vl.mk s' l' f').sz_pos
      have hbd : txtD (.mk key (.mk s' l' f')) = quB key ++ 58 :: txtV (.mk s' l' f') := by unfold txtD; rfl
      rw [hbd] at htk hle
      simp only [List.length_append, List.length_cons] at hle
      have fin : ∀ (buf2 : List UInt8) st3, But b st st3 → Bld st0 b st3 buf2 → buf2 = buf ++ [123] ++ txtFs true (f.take k) ++ (if k = 0 then [] else [44]) → CallT PR fn_canon_quote [.box b 0, .str key] [] st3 fun st4 => CallT PR fn_strings_Builder_WriteByte [.box b 0, .int .u8 58] [.one .tv] st4 fun (v1 : TV) (st5 : St) => CallT PR fn_canon_write [.box b 0, .agg (cellsV s' ub1 ul1 uf1)] [] st5 fun st6 => (TV.box b 0 = TV.box b 0 ∧ uf = uf ∧ (f.length : Int) = (f.length : Int) ∧ But b st st6 ∧ ∃ k' : Nat, IntKind.i64.wrap ((k : Int) + 1) = k' ∧ k' ≤ f.length ∧ Bld st0 b st6 (buf ++ [123] ++ txtFs true (f.take k'))) ∧ ((f.length : Int) - IntKind.i64.wrap ((k : Int) + 1)).toNat < ((f.length : Int) - (k : Int)).toNat := by
        intro buf2 st3 he3 hb3 hbuf
        have hbl : buf2.length + (quB key).length + 1 + (txtV (.mk s' l' f')).length ≤ 800000000 := by
          rw [hbuf]
          by_cases h0 : k = 0
          · rw [if_pos h0]
            rw [if_pos (by simp [h0])] at hle
            simp only [List.length_append, List.length_cons, List.length_nil]; omega
          · rw [if_neg h0]
            rw [if_neg (fun h => h0 h.2)] at hle
            simp only [List.length_append, List.length_cons, List.length_nil]; omega
        refine quote_ok hb3 (by omega) fun st4 hb4 he4 => writeByte_ok 58 rfl hb4 (by rw [List.length_append]; omega) fun st5 hb5 he5 => ?_
        refine ih _ (by omega) (by omega) hwt hw (((hke.trans he3).trans he4).trans he5) hb5 (by rw [List.length_append, List.length_append, List.length_singleton]; omega) (by omega) fun st6 hb6 he6 => ?_
        rw [wrap64 _ (by omega) (by omega)]
        refine ⟨⟨rfl, rfl, rfl, ((he3.trans he4).trans he5).trans he6, k + 1, by omega, by omega, ?_⟩, by omega⟩
        have : buf ++ [123] ++ txtFs true (f.take (k + 1)) = buf2 ++ quB key ++ [58] ++ txtV (.mk s' l' f') := by rw [htk, hbuf]; simp
        rw [this]; exact hb6
      refine BIf_intro (fun g9 => ?_) fun g9 => fin _ st2 he2 hb2 (by rw [if_pos (by omega), List.append_nil])
      refine writeByte_ok 44 rfl hb2 ?_ fun st3 hb3 he3 => fin _ st3 (he2.trans he3) hb3 (by rw [if_neg (by omega)])
      rw [if_neg (by omega)] at hle
      simp only [List.length_append, List.length_cons, List.length_nil]; omega
    · have hkk : k = f.length := by omega
      subst hkk
      rw [List.take_length] at hb2
      refine writeByte_ok 125 rfl hb2 (by simp only [List.length_append, List.length_cons, List.length_nil]; omega) fun st3 hb3 he3 => hk st3 ?_ (he2.trans he3)
      have : buf ++ [123] ++ txtFs true f ++ [125] = buf ++ 123 :: (txtFs true f ++ [125]) := by simp
      rw [← this]; exact hb3
  · omega
theorem dcT_len {neg : Bool} {dg : List UInt8} {ex : Int} (h : DecOk neg dg ex) : (dcT neg dg ex).length ≤ dg.length + 40 := by
  by_cases hne : dg = []
  · unfold dcT; rw [if_pos hne]; simp
  · obtain ⟨h1, h2, h3, h4, h5, h6⟩ := h.2 hne
    have hpos := List.length_pos_iff.2 hne
    have hs := sgnT_len neg
    unfold dcT
    rw [if_neg hne, List.length_append, show (if neg = true then [45] else []) = sgnT neg from rfl]
    split
    · rw [List.length_append, List.length_replicate]; omega
    split
    · rw [List.length_append, List.length_cons, List.length_take, List.length_drop]; omega
    split
    · rw [List.length_cons, List.length_cons, List.length_append, List.length_replicate]; omega
    · rw [List.length_append, List.length_append, List.length_take]
      have e1 : (if 1 < dg.length then 46 :: dg.drop 1 else []).length ≤ dg.length := by
        split
        · rw [List.length_cons, List.length_drop]; omega
        · simp
      have e2 : (expT (dg.length + ex)).length ≤ 20 := by
        rw [expT_eq]
        split
        · have := whN_len (n := (1 - ((dg.length : Int) + ex)).toNat) (by omega)
          rw [List.length_cons, List.length_cons]; omega
        · have := whN_len (n := ((dg.length : Int) + ex - 1).toNat) (by omega)
          rw [List.length_cons]; omega
      omega
mutual
theorem txtV_len : ∀ {v : Vl}, TxV v → (txtV v).length + 10 ≤ 60 * v.sz
  | .mk s l f, h => by
    unfold TxV at h
    obtain ⟨⟨h1, h2, h3, h4, h7⟩, h5, h6⟩ := h
    have hsz := szs s l f
    have hv := txtVs_len true h5
    have hf := txtFs_len true h6
    rw [hsz]
    unfold txtV
    split
    · simp; omega
    split
    · split <;> (simp; omega)
    split
    · have := dcT_len h3; omega
    split
    · have := timT_len s.tk s.td s.tn s.tz
      rw [List.length_cons, List.length_cons, List.length_append, List.length_singleton]; omega
    split
    · have := quB_len s.text; omega
    split
    · have := encR_len true s.bytes
      rw [List.length_cons, List.length_cons, List.length_append, List.length_singleton]; omega
    split
    · rw [List.length_cons, List.length_append, List.length_singleton]; omega
    · rw [List.length_cons, List.length_append, List.length_singleton]; omega
theorem txtVs_len : ∀ {l : List Vl} (b : Bool), TxVs l → (txtVs b l).length ≤ 60 * vsSz l
  | [], b, _ => by unfold txtVs; simp
  | v :: r, b, h => by
    unfold TxVs at h
    have h1 := txtV_len h.1
    have h2 := txtVs_len false h.2
    unfold txtVs vsSz
    have : (if b = true then ([] : List UInt8) else [44]).length ≤ 1 := by split <;> simp
    rw [List.length_append, List.length_append]; omega
theorem txtD_len : ∀ {d : Fd}, TxD d → (txtD d).length + 1 ≤ 60 * d.sz
  | .mk k v, h => by
    unfold TxD at h
    have h1 := txtV_len h
    have h2 := quB_len k
    have h3 := szd k v
    rw [h3]
    unfold txtD
    rw [List.length_append, List.length_cons]; omega
theorem txtFs_len : ∀ {l : List Fd} (b : Bool), TxFs l → (txtFs b l).length ≤ 60 * fsSz l
  | [], b, _ => by unfold txtFs; simp
  | v :: r, b, h => by
    unfold TxFs at h
    have h1 := txtD_len h.1
    have h2 := txtFs_len false h.2
    unfold txtFs fsSz
    have : (if b = true then ([] : List UInt8) else [44]).length ≤ 1 := by split <;> simp
    rw [List.length_append, List.length_append]; omega
end
theorem SortedO_ok {v : Vl} (hN : v.sz ≤ 2000000) (hC : v.cnt ≤ 65536) (hkn : KNd v) {st : St} {cs : List TV} {K : Int → Bool → Bool → List UInt8 → Int → Int → Int → Int → Int → List UInt8 → TV → TV → TV → St → Prop} (h : VlR st v cs)
    (hk : ∀ ub ul uf st' fp, VlO st' (sortV v) (cellsV v.sc ub ul uf) fp → (∀ x, x ∈ fp → st.nb ≤ x) → StExt st st' → K v.sc.kind v.sc.b v.sc.neg v.sc.dg v.sc.ex v.sc.tk v.sc.td v.sc.tn v.sc.tz v.sc.text ub ul uf st') :
    CallT PR fn_value_Sorted [.agg cs] [.agg [.int .i64, .bool, .bool, .str, .int .i64, .int .i64, .int .i64, .int .i64, .int .i64, .str, .tv, .tv, .tv]] st K := by
  have h0 := h
  cases v with
  | mk s l f =>
  unfold VlR at h0
  obtain ⟨ub, ul, uf, xl, xf, rfl, _⟩ := h0
  exact vc_value_Sorted _ _ _ _ _ _ _ _ _ _ _ _ _ st K (copy_ok hN hC h fun ub ul uf st1 fp g o1 o2 o3 nd lo e =>
    arranged_ok 2000000 _ hN (by omega) hkn g nd fun ub2 ul2 uf2 st2 fp2 g2 p1 p2 p3 nd2 hfp e2 => need_intro (one13 p1 p2 p3) (hk ub2 ul2 uf2 st2 fp2 g2 (fun x hx => by
      rcases hfp x hx with h | h
      · exact lo x h
      · exact Nat.le_trans e.nb h) (StX.ext e e2 lo)))
/-- canon.text: the text of a valid value. -/
theorem text_ok {v : Vl} (hN : v.sz ≤ 2000000) (hv : Valid v) (hC : v.cnt ≤ 65536) {st : St} {cs : List TV} {K : List UInt8 → St → Prop} (h : VlR st v cs) (hk : ∀ st', StExt st st' → K (txtV (sortV v)) st') : CallT PR fn_canon_text [.agg cs] [.one .str] st K := by
  have h0 := h
  cases v with
  | mk s l f =>
  unfold VlR at h0
  obtain ⟨ub, ul, uf, xl, xf, rfl, _⟩ := h0
  have htx := sortV_tx hv.tx
  have hz := sortV_sz (.mk s l f)
  have hlen := txtV_len htx
  have hpush : StExt st (st.push (.cells [.nilPtr, .nilSlice]) (some tyBld)) := (StExt.refl st).push _ _
  refine vc_canon_text _ _ _ _ _ _ _ _ _ _ _ _ _ st K (SortedO_ok hN hC hv.ok.2 (h.keep hpush.keeps) fun ub2 ul2 uf2 st1 fp hO hfp e1 => ?_)
  have hb0 : Bld st st.nb st1 [] := (Bld.new (StExt.refl st)).keep e1
  have hnot : st.nb ∉ fp := fun hm => by
    have h9 := hfp _ hm
    have h10 : ∀ t, (st.push (.cells [.nilPtr, .nilSlice]) t).nb = st.nb + 1 := fun _ => rfl
    rw [h10] at h9; omega
  refine write_ok 2000000 (sortV (.mk s l f)) (by omega) (by omega) htx (hO.view hnot) (But.refl _ _) hb0 (by rw [List.length_nil]; omega) (by omega) fun st2 hb2 he2 => ?_
  rw [List.nil_append] at hb2
  exact builderString_ok hb2 (by omega) hk
theorem Text_ok {v : Vl} (hN : v.sz ≤ 2000000) {st : St} {cs : List TV} {K : List UInt8 → Int → St → Prop} (h : VlR st v cs) (hk : ∀ st', StExt st st' → K (if checkV v = 0 then txtV (sortV v) else []) (checkV v : Nat) st') :
    CallT PR fn_canon_Text [.agg cs] [.one .str, .one (.int .i64)] st K := by
  have h0 := h
  cases v with
  | mk s l f =>
  unfold VlR at h0
  obtain ⟨ub, ul, uf, xl, xf, rfl, _⟩ := h0
  refine vc_canon_Text _ _ _ _ _ _ _ _ _ _ _ _ _ st K (Check_ok hN h (Keeps.refl _) fun st1 e1 => BIf_intro (fun g => ?_) fun g => ?_)
  · have := hk st1 e1
    rw [if_neg (by omega)] at this; exact this
  · have hc : checkV (.mk s l f) = 0 := by omega
    rw [hc] at hk
    refine text_ok hN (check_valid hc) (check_cnt hc) (h.keep e1.keeps) fun st2 e2 => ?_
    have := hk st2 (e1.trans e2)
    rw [if_pos rfl] at this; exact this
end Go.TVF
end

section
namespace Go.TVF
open Go Go.Proofs
set_option linter.unusedVariables false
set_option linter.unusedSimpArgs false
theorem Safe.app {a b : List UInt8} (h : Safe a) (k : Safe b) : Safe (a ++ b) := fun c hc => (List.mem_append.1 hc).elim (h c) (k c)
theorem Safe.cons {c : UInt8} {b : List UInt8} (h : escB c = [c]) (k : Safe b) : Safe (c :: b) := fun x hx => by
  rcases List.mem_cons.1 hx with rfl | hx
  · exact h
  · exact k x hx
theorem Safe.pad (w n : Nat) : Safe (padD w n) := fun c hc => (padD_dg w n c hc).safe
theorem Safe.nil : Safe [] := fun c hc => by cases hc
theorem timT_safe (k td tn tz : Int) : Safe (timT k td tn tz) := by
  have h1 : ∀ n, Safe (datT n) := fun n => .app (.pad _ _) (.cons (by decide) (.app (.pad _ _) (.cons (by decide) (.pad _ _))))
  have h2 : ∀ n, Safe (clkT n) := fun n => by
    refine .app (.pad _ _) (.cons (by decide) (.app (.pad _ _) (.cons (by decide) (.app (.pad _ _) ?_))))
    split
    · exact .nil
    · exact .cons (by decide) fun c hc => (cut0_padD_dg _ c hc).safe
  have h3 : ∀ z, Safe (offT z) := fun z => by
    unfold offT; split
    · exact .cons (by decide) .nil
    · refine .cons ?_ (.app (.pad _ _) (.cons (by decide) (.pad _ _)))
      split <;> decide
  unfold timT
  split
  · exact h1 _
  split
  · exact h2 _
  split
  · exact .app (h1 _) (.cons (by decide) (h2 _))
  · exact .app (h1 _) (.cons (by decide) (.app (h2 _) (h3 _)))
set_option maxRecDepth 4000 in
theorem Canonical_ok : ∀ (N : Nat) (v : Vl), v.sz ≤ N → N ≤ 2000000 → TxV v → ∀ {st0 st : St} {cs : List TV} {K : List UInt8 → St → Prop}, VlR st0 v cs → Keeps st0 st →
    (∀ st', StExt st st' → K (txtV (sortV v)) st') → CallT PR fn_datakitref10_Canonical [.agg cs] [.one .str] st K := by
  intro N
  induction N with
  | zero => intro v h; have := v.sz_pos; omega
  | succ N ih =>
  intro v hN hN2 hok st0 st cs K h hke hk
  have e := StExt.refl st
  have hlen := txtV_len (sortV_tx hok)
  rw [sortV_sz] at hlen
  cases v with
  | mk s l f =>
  have hsz : (Vl.mk s l f).sz = 1 + s.bytes.length + s.text.length + s.dg.length + vsSz l + fsSz f := by unfold Vl.sz; rfl
  have hll := vsSz_len l
  have hfl := fsSz_len f
  unfold TxV at hok
  obtain ⟨⟨k0, k7, hdec, htime, hblen⟩, lok, fok⟩ := hok
  unfold VlR at h
  obtain ⟨ub, ul, uf, xl, xf, rfl, h1, h2, h3, h4, h5⟩ := h
  unfold sortV txtV at hlen hk
  have own1 : ∀ (c : UInt8) (st' : St), OwnB st.nt st' (.list 1 .full 1 [.int .u8 (c.toNat : Int)]) [c] := fun c st' => Own.full _ _ _ _ _
  refine vc_datakitref10_Canonical _ _ _ _ _ _ _ _ _ _ _ _ _ st K ?_
  refine BIf_intro (fun g => ?_) fun g0 => BIf_intro (fun g => ?_) fun g1 => BIf_intro (fun g => ?_) fun g2 => BIf_intro (fun g => ?_) fun g3 => BIf_intro (fun g => ?_) fun g4 => BIf_intro (fun g => ?_) fun g5 => BIf_intro (fun g => ?_) fun g6 => ?_
  · rw [if_pos g] at hk; exact hk st e
  · rw [if_neg g0, if_pos g] at hk
    refine BIf_bool (fun hb => ?_) fun hb => ?_
    · rw [if_pos hb] at hk; exact hk st e
    · rw [if_neg (by simp [hb])] at hk; exact hk st e
  · rw [if_neg g0, if_neg g1, if_pos g] at hk
    exact rdText_ok hdec hk
  · rw [if_neg g0, if_neg g1, if_neg g2, if_pos g] at hk
    have htl := timT_len s.tk s.td s.tn s.tz
    have hsafe : Safe (timT s.tk s.td s.tn s.tz) := timT_safe _ _ _ _
    refine rmText_ok (htime g) fun st1 e1 => rQuoted_ok (by omega) fun st2 e2 => ⟨?_, ?_⟩
    · have := quB_len (timT s.tk s.td s.tn s.tz)
      show 1 + _ ≤ _; omega
    · rw [hsafe.quB]; exact hk st2 (e1.trans e2)
  · rw [if_neg g0, if_neg g1, if_neg g2, if_neg g3, if_pos g] at hk
    exact rQuoted_ok (by omega) hk
  · rw [if_neg g0, if_neg g1, if_neg g2, if_neg g3, if_neg g4, if_pos g] at hk
    have hel := encR_len true s.bytes
    refine renc_ok (h1.keep hke) (by omega) fun st1 e1 => rQuoted_ok (by omega) fun st2 e2 => ⟨?_, ?_⟩
    · have := quB_len (encR true s.bytes)
      show 1 + _ ≤ _; omega
    · rw [(encR_safe true s.bytes).quB]; exact hk st2 (e1.trans e2)
  · rw [if_neg g0, if_neg g1, if_neg g2, if_neg g3, if_neg g4, if_neg g5, if_pos g, sortVs_map] at hlen
    rw [if_neg g0, if_neg g1, if_neg g2, if_neg g3, if_neg g4, if_neg g5, if_pos g, sortVs_map] at hk
    rw [List.length_cons, List.length_append, List.length_singleton] at hlen
    refine ⟨fun o i a1 a2 a3 a4 a5 a6 a7 a8 a9 a10 a11 a12 a13 st' => ul = a12 ∧ ∃ k : Nat, i = k ∧ k ≤ l.length ∧ StExt st st' ∧ OwnB st.nt st' o ([91] ++ txtVs true ((l.take k).map sortV)), fun _ i _ _ _ _ _ _ _ _ _ _ _ _ _ _ => (l.length - i).toNat,
      ⟨rfl, 0, rfl, Nat.zero_le _, e, (by simp only [List.take_zero, List.map_nil, txtVs, List.append_nil]; exact own1 91 st)⟩, ?_⟩
    rintro o _ a1 a2 a3 a4 a5 a6 a7 a8 a9 a10 a11 _ a13 st3 ⟨rfl, k, rfl, hkl, e3, ho3⟩
    refine need_intro h2.isSl (BIf_intro (fun g' => ?_) fun g' => ?_)
    · rw [h2.lenS] at g'
      have gw0 : l[k]? = some l[k] := List.getElem?_eq_getElem (by omega)
      have hle := txtVs_le_get (l := l.map sortV) (b := true) (k := k) (v := sortV l[k]) (by rw [List.getElem?_map, gw0]; rfl)
      have htk := txtVs_take (l := l.map sortV) (k := k) (v := sortV l[k]) (by rw [List.getElem?_map, gw0]; rfl)
      rw [← List.map_take] at hle htk
      rw [← List.map_take] at htk
      have fin : ∀ (o2 : TV) (buf2 : List UInt8) st4, StExt st st4 → OwnB st.nt st4 o2 buf2 → buf2 = [91] ++ txtVs true ((l.take k).map sortV) ++ (if k = 0 then [] else [44]) → (0 ≤ (k : Int) ∧ (k : Int) < (lenZ 13 ul : Int)) ∧ optK ((ldCells st4 [] (.t (ixT 13 ul (Int.toNat (k : Int)))) 0 13).map TV.agg) fun x => decA [.int .i64, .bool, .bool, .str, .int .i64, .int .i64, .int .i64, .int .i64, .int .i64, .str, .tv, .tv, .tv] x fun (n7 : Int) (b3 : Bool) (b4 : Bool) (s9 : List UInt8) (n8 : Int) (n9 : Int) (n10 : Int) (n11 : Int) (n12 : Int) (s10 : List UInt8) (v5 : TV) (v6 : TV) (v7 : TV) =>
          CallT PR fn_datakitref10_Canonical [.agg [.int .i64 n7, .bool b3, .bool b4, .str s9, .int .i64 n8, .int .i64 n9, .int .i64 n10, .int .i64 n11, .int .i64 n12, .str s10, v5, v6, v7]] [.one .str] st4 fun (s11 : List UInt8) (st9 : St) => optK (appSrc st9 1 (.str s11)) fun (q1 : Nat × List TV) => need (List.all q1.2 oneT) (appK 5 1 1 o2 q1.1 q1.2 st9 fun (v8 : TV) (st10 : St) =>
            ((ul = ul ∧ ∃ k' : Nat, IntKind.i64.wrap ((k : Int) + 1) = k' ∧ k' ≤ l.length ∧ StExt st st10 ∧ OwnB st.nt st10 v8 ([91] ++ txtVs true ((l.take k').map sortV))) ∧ ((l.length : Int) - IntKind.i64.wrap ((k : Int) + 1)).toNat < ((l.length : Int) - (k : Int)).toNat)) := by
        intro o2 buf2 st4 e4 ho4 hbuf
        refine el13 (hke.trans e4.keeps) h2 h3 rfl (by omega) fun s' l' f' ub1 ul1 uf1 gw hw on => ?_
        rw [gw0] at gw
        have hw1 := Option.some.inj gw
        rw [hw1] at hle htk
        have hwsz := vsSz_get (gw0.trans (congrArg some hw1))
        have hwt := TxVs_iff.1 lok _ (mem_of_get (gw0.trans (congrArg some hw1)))
        refine ih _ (by omega) (by omega) hwt hw (hke.trans e4.keeps) fun st5 e5 => optK_intro (src_str st5 _) (need_intro (bytes_one _) ?_)
        have hbl : buf2.length ≤ 1 + (txtVs true ((l.take k).map sortV)).length + 1 := by
          rw [hbuf, List.length_append, List.length_append, List.length_singleton]
          split
          · simp
          · simp
        refine appK_ys (ys := txtV (sortV (.mk s' l' f'))) (e4.trans e5) (Own.ext ho4 e5) rfl rfl (by omega) fun v8 st6 e6 _ ho6 => ?_
        rw [wrap64 _ (by omega) (by omega)]
        refine ⟨⟨rfl, k + 1, by omega, by omega, e6, ?_⟩, by omega⟩
        rw [htk, ← List.append_assoc, ← List.append_assoc, ← hbuf]; exact ho6
      refine BIf_intro (fun g9 => ?_) fun g9 => fin o _ st3 e3 ho3 (by rw [if_pos (by omega), List.append_nil])
      exact appK_ys (ys := [44]) e3 ho3 rfl rfl (by rw [List.length_append, List.length_singleton, List.length_singleton]; omega) fun v4 st4 e4 _ ho4 => fin v4 _ st4 e4 ho4 (by rw [if_neg (by omega)])
    · rw [h2.lenS] at g'
      have hkk : k = l.length := by omega
      subst hkk
      rw [List.take_length] at ho3
      refine appK_ys (ys := [93]) e3 ho3 rfl rfl (by rw [List.length_append, List.length_singleton, List.length_singleton]; omega) fun v4 st4 e4 _ ho4 => ?_
      refine optK_intro (x := .str (91 :: (txtVs true (l.map sortV) ++ [93]))) ?_ (decT_str (hk _ e4))
      rw [ho4.rd.toBytes]; rfl
  · rw [if_neg g0, if_neg g1, if_neg g2, if_neg g3, if_neg g4, if_neg g5, if_neg g6, sortFs_map, sortFd_map sortD_key] at hlen
    rw [if_neg g0, if_neg g1, if_neg g2, if_neg g3, if_neg g4, if_neg g5, if_neg g6, sortFs_map, sortFd_map sortD_key] at hk
    rw [List.length_cons, List.length_append, List.length_singleton] at hlen
    refine fields_ok e (h4.keep hke) (FsR.keep hke h5) (by omega) fun vf st1 cks e1 hof hR => ?_
    have hfl : (sortFd f).length = f.length := (sortFd_perm f).length_eq
    have hfr := FsR.of_chunks hR
    refine ⟨fun o i u st' => vf = u ∧ ∃ k : Nat, i = k ∧ k ≤ f.length ∧ StExt st st' ∧ OwnB st.nt st' o ([123] ++ txtFs true (((sortFd f).take k).map sortD)), fun _ i _ _ => (f.length - i).toNat,
      ⟨rfl, 0, rfl, Nat.zero_le _, e1, (by simp only [List.take_zero, List.map_nil, txtFs, List.append_nil]; exact own1 123 st1)⟩, ?_⟩
    rintro o _ _ st4 ⟨rfl, k, rfl, hkl, e4, ho4⟩
    refine need_intro hof.rd.isSl (BIf_intro (fun g' => ?_) fun g' => ?_)
    · rw [hof.rd.lenS] at g'
      have gd : (sortFd f)[k]? = some (sortFd f)[k] := List.getElem?_eq_getElem (by omega)
      generalize (sortFd f)[k] = d at gd
      have hmem : d ∈ f := (sortFd_perm f).mem_iff.1 (mem_of_get gd)
      have hdsz := fsSz_mem hmem
      have hle := txtFs_le_get (l := (sortFd f).map sortD) (b := true) (k := k) (v := sortD d) (by rw [List.getElem?_map, gd]; rfl)
      have htk := txtFs_take (l := (sortFd f).map sortD) (k := k) (v := sortD d) (by rw [List.getElem?_map, gd]; rfl)
      rw [← List.map_take] at hle htk
      rw [← List.map_take] at htk
      have hbd : txtD (sortD d) = quB d.key ++ 58 :: txtV (sortV d.val) := by cases d; unfold sortD txtD; rfl
      have hdz : d.sz = d.key.length + d.val.sz := by cases d; unfold Fd.sz; rfl
      have hok2 : TxV d.val := by
        have := TxFs_iff.1 fok _ hmem
        cases d; unfold TxD at this; exact this
      have hvs := d.val.sz_pos
      rw [hbd] at hle htk
      rw [List.length_append, List.length_cons] at hle
      have fin : ∀ (o2 : TV) (buf2 : List UInt8) st5, StExt st st5 → OwnB st.nt st5 o2 buf2 → buf2 = [123] ++ txtFs true (((sortFd f).take k).map sortD) ++ (if k = 0 then [] else [44]) →
          (0 ≤ (k : Int) ∧ (k : Int) < (lenZ 14 vf : Int)) ∧ need (isPtr (ixT 14 vf (Int.toNat (k : Int)))) (optK (ldCell st5 [] (.t (fldT (ixT 14 vf (Int.toNat (k : Int))) 0)) 0) fun x4 => decT .str x4 fun s16 => CallT PR fn_datakitref10_Quoted [.str s16] [.one .str] st5 fun (s17 : List UInt8) (st17 : St) => optK (appSrc st17 1 (.str s17)) fun (q4 : Nat × List TV) => need (List.all q4.2 oneT) (appK 5 1 1 o2 q4.1 q4.2 st17 fun (v16 : TV) (st18 : St) => appK 5 1 1 v16 1 [.int .u8 58] st18 fun (v17 : TV) (st19 : St) =>
            ((0 ≤ (k : Int) ∧ (k : Int) < (lenZ 14 vf : Int)) ∧ need (isPtr (ixT 14 vf (Int.toNat (k : Int)))) (optK ((ldCells st19 [] (.t (fldT (ixT 14 vf (Int.toNat (k : Int))) 1)) 0 13).map TV.agg) fun x5 => decA [.int .i64, .bool, .bool, .str, .int .i64, .int .i64, .int .i64, .int .i64, .int .i64, .str, .tv, .tv, .tv] x5 fun (n19 : Int) (b7 : Bool) (b8 : Bool) (s18 : List UInt8) (n20 : Int) (n21 : Int) (n22 : Int) (n23 : Int) (n24 : Int) (s19 : List UInt8) (v18 : TV) (v19 : TV) (v20 : TV) =>
              CallT PR fn_datakitref10_Canonical [.agg [.int .i64 n19, .bool b7, .bool b8, .str s18, .int .i64 n20, .int .i64 n21, .int .i64 n22, .int .i64 n23, .int .i64 n24, .str s19, v18, v19, v20]] [.one .str] st19 fun (s20 : List UInt8) (st20 : St) => optK (appSrc st20 1 (.str s20)) fun (q3 : Nat × List TV) => need (List.all q3.2 oneT) (appK 5 1 1 v17 q3.1 q3.2 st20 fun (v21 : TV) (st21 : St) =>
                ((vf = vf ∧ ∃ k' : Nat, IntKind.i64.wrap ((k : Int) + 1) = k' ∧ k' ≤ f.length ∧ StExt st st21 ∧ OwnB st.nt st21 v21 ([123] ++ txtFs true (((sortFd f).take k').map sortD))) ∧ ((f.length : Int) - IntKind.i64.wrap ((k : Int) + 1)).toNat < ((f.length : Int) - (k : Int)).toNat))))) ) := by
        intro o2 buf2 st5 e5 ho5 hbuf
        have hbl : buf2.length ≤ 1 + (txtFs true (((sortFd f).take k).map sortD)).length + 1 := by
          rw [hbuf, List.length_append, List.length_append, List.length_singleton]
          split
          · simp
          · simp
        refine key14 (st0 := st) e5.keeps (.of_rd hof.rd) hfr rfl gd ?_
        refine rQuoted_ok (by omega) fun st6 e6 => optK_intro (src_str st6 _) (need_intro (bytes_one _) ?_)
        refine appK_ys (ys := quB d.key) (e5.trans e6) (Own.ext ho5 e6) rfl rfl (by omega) fun v16 st7 e7 _ ho7 => ?_
        refine appK_ys (ys := [58]) e7 ho7 rfl rfl (by rw [List.length_append, List.length_singleton]; omega) fun v17 st8 e8 _ ho8 => ?_
        refine val14 (st0 := st) e8.keeps (.of_rd hof.rd) hfr rfl (by omega) fun key s' l' f' ub1 ul1 uf1 gw hw on => ?_
        have hde : d = .mk key (.mk s' l' f') := by rw [gd] at gw; exact Option.some.inj gw
        subst hde
        simp only [Fd.val, Fd.key] at hle htk hok2 hvs hdz ho8
        refine ih (.mk s' l' f') (by omega) (by omega) hok2 hw e8.keeps fun st9 e9 => optK_intro (src_str st9 _) (need_intro (bytes_one _) ?_)
        refine appK_ys (ys := txtV (sortV (.mk s' l' f'))) (e8.trans e9) (Own.ext ho8 e9) rfl rfl (by rw [List.length_append, List.length_append, List.length_singleton]; omega) fun v21 st10 e10 _ ho10 => ?_
        rw [wrap64 _ (by omega) (by omega)]
        refine ⟨⟨rfl, k + 1, by omega, by omega, e10, ?_⟩, by omega⟩
        have : [123] ++ txtFs true (((sortFd f).take (k + 1)).map sortD) = buf2 ++ quB key ++ [58] ++ txtV (sortV (.mk s' l' f')) := by rw [htk, hbuf]; simp
        rw [this]; exact ho10
      refine BIf_intro (fun g9 => ?_) fun g9 => ?_
      · exact appK_ys (ys := [44]) e4 ho4 rfl rfl (by rw [List.length_append, List.length_singleton, List.length_singleton]; omega) fun v4 st5 e5 _ ho5 => fin v4 _ st5 e5 ho5 (by rw [if_neg (by omega)])
      · exact fin o _ st4 e4 ho4 (by rw [if_pos (by omega), List.append_nil])
    · rw [hof.rd.lenS] at g'
      have hkk : k = f.length := by omega
      subst hkk
      rw [← hfl, List.take_length] at ho4
      refine appK_ys (ys := [125]) e4 ho4 rfl rfl (by rw [List.length_append, List.length_singleton, List.length_singleton]; omega) fun v4 st5 e5 _ ho5 => ?_
      refine optK_intro (x := .str (123 :: (txtFs true ((sortFd f).map sortD) ++ [125]))) ?_ (decT_str (hk _ e5))
      rw [ho5.rd.toBytes]; rfl
theorem rText_ok {v : Vl} (hN : v.sz ≤ 2000000) {st : St} {cs : List TV} {K : List UInt8 → Int → St → Prop} (h : VlR st v cs) (hk : ∀ st', StExt st st' → K (if checkV v = 0 then txtV (sortV v) else []) (checkV v : Nat) st') :
    CallT PR fn_datakitref10_Text [.agg cs] [.one .str, .one (.int .i64)] st K := by
  have h0 := h
  cases v with
  | mk s l f =>
  unfold VlR at h0
  obtain ⟨ub, ul, uf, xl, xf, rfl, _⟩ := h0
  refine vc_datakitref10_Text _ _ _ _ _ _ _ _ _ _ _ _ _ st K (rCheck_ok hN h (Keeps.refl _) fun st1 e1 => BIf_intro (fun g => ?_) fun g => ?_)
  · have := hk st1 e1
    rw [if_neg (by omega)] at this; exact this
  · have hc : checkV (.mk s l f) = 0 := by omega
    rw [hc] at hk
    refine Canonical_ok 2000000 _ hN (by omega) (check_valid hc).tx h e1.keeps fun st2 e2 => ?_
    have := hk st2 (e1.trans e2)
    rw [if_pos rfl] at this; exact this
/-- The law CanonTexts. -/
theorem ltexts_ok {v : Vl} (hN : v.sz ≤ 2000000) {st : St} {cs : List TV} {K : Bool → St → Prop} (h : VlR st v cs) (hk : ∀ st', K true st') : CallT PR fn_datakitlaw10_CanonTexts [.agg cs] [.one .bool] st K := by
  have h0 := h
  cases v with
  | mk s l f =>
  unfold VlR at h0
  obtain ⟨ub, ul, uf, xl, xf, rfl, _⟩ := h0
  refine vc_datakitlaw10_CanonTexts _ _ _ _ _ _ _ _ _ _ _ _ _ st K (Small_ok hN h (Keeps.refl _) fun b => BIf_bool (fun _ => hk _) fun _ => ?_)
  refine Text_ok hN h fun st1 e1 => rText_ok hN (h.keep e1.keeps) fun st2 e2 => BIf_intro (fun _ => ?_) fun g => absurd rfl g
  rw [decide_eq_true rfl]; exact hk _
end Go.TVF
end

section
namespace Go.TVF
open Go Go.Proofs
set_option linter.unusedVariables false
set_option linter.unusedSimpArgs false
def unsh (x : UInt8) : UInt8 := if x = 34 then 34 else if x = 92 then 92 else if x = 98 then 8 else if x = 102 then 12 else if x = 110 then 10 else if x = 114 then 13 else if x = 116 then 9 else 0
def unhx (a b : UInt8) : Nat := (if a.toNat < 58 then a.toNat - 48 else a.toNat - 87) * 16 + (if b.toNat < 58 then b.toNat - 48 else b.toNat - 87)
theorem unhx_all : ∀ k : Nat, k < 32 → unhx (hxD (k / 16)) (hxD (k % 16)) = k := by decide
theorem esc_form (c : UInt8) : (∃ x, escB c = [92, x] ∧ x ≠ 117 ∧ unsh x = c) ∨ (∃ a b, escB c = [92, 117, 48, 48, a, b] ∧ unhx a b = c.toNat) ∨ (escB c = [c] ∧ c ≠ 92 ∧ c ≠ 34) := by
  unfold escB
  by_cases g : c = 34 ∨ c = 92
  · rw [if_pos g]
    rcases g with rfl | rfl
    · exact .inl ⟨34, rfl, by decide, by decide⟩
    · exact .inl ⟨92, rfl, by decide, by decide⟩
  rw [if_neg g]
  by_cases g1 : c = 8
  · rw [if_pos g1]; subst g1; exact .inl ⟨98, rfl, by decide, by decide⟩
  rw [if_neg g1]
  by_cases g2 : c = 12
  · rw [if_pos g2]; subst g2; exact .inl ⟨102, rfl, by decide, by decide⟩
  rw [if_neg g2]
  by_cases g3 : c = 10
  · rw [if_pos g3]; subst g3; exact .inl ⟨110, rfl, by decide, by decide⟩
  rw [if_neg g3]
  by_cases g4 : c = 13
  · rw [if_pos g4]; subst g4; exact .inl ⟨114, rfl, by decide, by decide⟩
  rw [if_neg g4]
  by_cases g5 : c = 9
  · rw [if_pos g5]; subst g5; exact .inl ⟨116, rfl, by decide, by decide⟩
  rw [if_neg g5]
  by_cases g6 : c.toNat < 32
  · rw [if_pos g6]; exact .inr (.inl ⟨_, _, rfl, unhx_all _ g6⟩)
  · rw [if_neg g6]; exact .inr (.inr ⟨rfl, fun h => g (.inr h), fun h => g (.inl h)⟩)
theorem esc_can {c d : UInt8} {r t : List UInt8} (h : escB c ++ r = escB d ++ t) : c = d ∧ r = t := by
  rcases esc_form c with ⟨x, e1, e2, e3⟩ | ⟨a, b, e1, e2⟩ | ⟨e1, e2, _⟩ <;> rcases esc_form d with ⟨y, f1, f2, f3⟩ | ⟨a', b', f1, f2⟩ | ⟨f1, f2, _⟩ <;> rw [e1, f1] at h <;> simp only [List.cons_append, List.nil_append, List.cons.injEq, true_and] at h
  · exact ⟨by rw [← e3, ← f3, h.1], h.2⟩
  · exact absurd h.1 e2
  · exact absurd h.1.symm f2
  · exact absurd h.1.symm f2
  · obtain ⟨h1, h2, h3⟩ := h
    exact ⟨UInt8.toNat_inj.1 (by rw [← e2, ← f2, h1, h2]), h3⟩
  · exact absurd h.1.symm f2
  · exact absurd h.1 e2
  · exact absurd h.1 e2
  · exact h
theorem esc_not34 (c : UInt8) (r : List UInt8) : ∀ t, escB c ++ r ≠ 34 :: t := by
  intro t h
  rcases esc_form c with ⟨x, e1, e2, e3⟩ | ⟨a, b, e1, e2⟩ | ⟨e1, e2, e3⟩ <;> rw [e1] at h <;> simp only [List.cons_append, List.nil_append, List.cons.injEq] at h
  · exact absurd h.1 (by decide)
  · exact absurd h.1 (by decide)
  · exact e3 h.1
theorem escs_can : ∀ {a b r t : List UInt8}, a.flatMap escB ++ 34 :: r = b.flatMap escB ++ 34 :: t → a = b ∧ r = t
  | [], [], r, t, h => by simpa using h
  | [], d :: b, r, t, h => by
    rw [List.flatMap_nil, List.nil_append, List.flatMap_cons, List.append_assoc] at h
    exact absurd h.symm (esc_not34 d _ _)
  | c :: a, [], r, t, h => by
    rw [List.flatMap_nil, List.nil_append, List.flatMap_cons, List.append_assoc] at h
    exact absurd h (esc_not34 c _ _)
  | c :: a, d :: b, r, t, h => by
    rw [List.flatMap_cons, List.flatMap_cons, List.append_assoc, List.append_assoc] at h
    obtain ⟨rfl, h2⟩ := esc_can h
    obtain ⟨rfl, h3⟩ := escs_can h2
    exact ⟨rfl, h3⟩
theorem Safe.flat {s : List UInt8} (h : Safe s) : s.flatMap escB = s := by
  have := h.quB
  unfold TVF.quB at this
  simpa using this
theorem Safe.can {a b r t : List UInt8} (ha : Safe a) (hb : Safe b) (h : a ++ 34 :: r = b ++ 34 :: t) : a = b ∧ r = t := by
  rw [← ha.flat, ← hb.flat] at h
  obtain ⟨h1, h2⟩ := escs_can h
  exact ⟨h1, h2⟩
/-- Bytes of which numbers are made. -/
def nch (c : UInt8) : Prop := isDg c ∨ c = 45 ∨ c = 43 ∨ c = 46 ∨ c = 101
instance (c : UInt8) : Decidable (nch c) := inferInstanceAs (Decidable (_ ∨ _))
end Go.TVF
end
