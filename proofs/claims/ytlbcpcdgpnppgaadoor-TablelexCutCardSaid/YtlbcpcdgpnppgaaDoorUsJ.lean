/- tablelex: one token of the reference; Next. -/
import Derived.Test.YtlbcpcdgpnppgaaDoorUsI
set_option linter.unusedVariables false
set_option linter.unusedSimpArgs false
namespace Go.TVF
open Go Go.Proofs

set_option maxHeartbeats 2000000 in
theorem scan_ok {s : List UInt8} {I : Int} {i : Nat} {st : St} {K : Int → Int → Int → St → Prop} (hI : I = (i : Int)) (hl : s.length ≤ 2000000) (hi : i < s.length)
    (h1 : ∀ p, tokS s i = .ok p → K p.1 (p.2 : Nat) 0 st) (h2 : ∀ e kd k, tokS s i = .error e → K kd k e st) :
    CallT PR fn_datakitref24_scan [.str s, .int .i64 I] [.one (.int .i64), .one (.int .i64), .one (.int .i64)] st K := by
  refine vc_datakitref24_scan s I st K ⟨⟨by omega, by omega⟩, ?_⟩
  have hiI : Int.toNat I = i := by omega
  have w1 : IntKind.i64.wrap (I + 1) = I + 1 := wrap64 _ (by omega) (by omega)
  have w2 : IntKind.i64.wrap (I + 2) = I + 2 := wrap64 _ (by omega) (by omega)
  have w10 : IntKind.i64.wrap (I + 10) = I + 10 := wrap64 _ (by omega) (by omega)
  have hi1 : Int.toNat (I + 1) = i + 1 := by omega
  rw [w1, w2, hiI, hi1]
  unfold tokS at h1 h2
  have hb : bt (s.drop i) 0 = (s.getD i 0).toNat := bt_drop s i 0
  have hb1 : bt (s.drop i) 1 = (s.getD (i + 1) 0).toNat := bt_drop s i 1
  rw [hb] at h1 h2
  rw [hb1] at h1 h2
  have hcs : (s.getD i 0).toNat = 32 ∨ (s.getD i 0).toNat = 9 → K 1 ((i + twl spaceB (s.drop i) : Nat) : Int) 0 st := fun h => h1 _ (by unfold tokC; rw [if_pos h])
  have hsp : ∀ k : Nat, k < s.length → (((s.getD k 0).toNat : Int) = 32 ∨ ((s.getD k 0).toNat : Int) = 9 → twl spaceB (s.drop k) = twl spaceB (s.drop (k + 1)) + 1) ∧ (¬ (((s.getD k 0).toNat : Int) = 32 ∨ ((s.getD k 0).toNat : Int) = 9) → twl spaceB (s.drop k) = 0) := fun k hk => by
    have hd := twl_drop spaceB s k hk
    unfold spaceB at hd
    refine ⟨fun h => ?_, fun h => ?_⟩
    · rw [if_pos (decide_eq_true h)] at hd; exact hd
    · rw [if_neg (by rw [decide_eq_false h]; decide)] at hd; exact hd
  have hc256 := (s.getD i 0).toNat_lt
  generalize hc : (s.getD i 0).toNat = c at h1 h2 hb hcs hc256 ⊢
  generalize hc1 : (s.getD (i + 1) 0).toNat = c1 at h1 h2 hb1 ⊢
  unfold tokC at h1 h2
  have L2 : c = 10 → K 2 (I + 1) 0 st := fun h => by
    rw [if_neg (by omega), if_pos (by omega)] at h1
    have := h1 _ rfl
    rw [show I + 1 = ((i + 1 : Nat) : Int) by omega]; exact this
  have L3 : c = 13 → I + 1 < (s.length : Int) → c1 = 10 → K 2 (I + 2) 0 st := fun h q q1 => by
    rw [if_neg (by omega), if_neg (by omega), if_pos (by omega), if_neg (by omega), if_pos q1] at h1
    have := h1 _ rfl
    rw [show I + 2 = ((i + 2 : Nat) : Int) by omega]; exact this
  have L4 : c = 13 → I + 1 = (s.length : Int) → K 0 0 4 st := fun h q => by
    rw [if_neg (by omega), if_neg (by omega), if_pos (by omega), if_pos (by omega)] at h2
    exact h2 _ _ _ rfl
  have L5 : c = 35 → CallT PR fn_datakitref24_comment [(.str s), (.int .i64 I)] [.one (.int .i64), .one (.int .i64)] st (fun (n9 : Int) (n10 : Int) (st10 : St) => K ((3 : Int)) (n9) (n10) st10) := fun h => by
    rw [if_neg (by omega), if_neg (by omega), if_neg (by omega), if_pos (by omega)] at h1 h2
    refine rcomment_ok hI hl (by omega) (fun k hk => ?_) fun hk => ?_
    · rw [hk] at h1; exact h1 _ rfl
    · rw [hk] at h2; exact h2 _ _ _ rfl
  have L6 : c = 91 ∨ c = 93 ∨ c = 123 ∨ c = 125 ∨ c = 44 ∨ c = 61 → K 4 (I + 1) 0 st := fun h => by
    rw [if_neg (by omega), if_neg (by omega), if_neg (by omega), if_neg (by omega), if_pos h] at h1
    have := h1 _ rfl
    rw [show I + 1 = ((i + 1 : Nat) : Int) by omega]; exact this
  have L7 : c = 34 → CallT PR fn_datakitref19_Quoted [(.str s), (.int .i64 I)] [.one (.str), .one (.int .i64), .one (.int .i64)] st (fun (s2 : List UInt8) (n11 : Int) (n12 : Int) (st11 : St) => K ((5 : Int)) (n11) (n12) st11) := fun h => by
    rw [if_neg (by omega), if_neg (by omega), if_neg (by omega), if_neg (by omega), if_neg (by omega), if_pos (by omega)] at h1 h2
    refine rquoted_ok hI hl hi ?_
    rw [h] at h1 h2
    cases hq : qF (s.length + 1) 34 (s.drop (i + 1)) [] (i + 1) with
    | error er => rw [hq] at h2; exact h2 _ _ _ rfl
    | ok p => rw [hq] at h1; exact h1 _ rfl
  have L8 : c = 39 → CallT PR fn_datakitref24_single [(.str s), (.int .i64 I)] [.one (.int .i64), .one (.int .i64)] st (fun (n13 : Int) (n14 : Int) (st12 : St) => K ((5 : Int)) (n13) (n14) st12) := fun h => by
    rw [if_neg (by omega), if_neg (by omega), if_neg (by omega), if_neg (by omega), if_neg (by omega), if_pos (by omega)] at h1 h2
    refine single_ok hI hl hi ?_
    rw [h] at h1 h2
    cases hq : qF (s.length + 1) 39 (s.drop (i + 1)) [] (i + 1) with
    | error er => rw [hq] at h2; exact h2 _ _ _ rfl
    | ok p => rw [hq] at h1; exact h1 _ rfl
  have L9 : c ≠ 32 ∧ c ≠ 9 ∧ c ≠ 10 ∧ (c = 13 → I + 1 ≠ (s.length : Int) ∧ c1 ≠ 10) ∧ c ≠ 35 ∧ c ≠ 91 ∧ c ≠ 93 ∧ c ≠ 123 ∧ c ≠ 125 ∧ c ≠ 44 ∧ c ≠ 61 ∧ c ≠ 34 ∧ c ≠ 39 →
      CallT PR fn_datakitref24_word [(.int .u8 (c : Int))] [.one (.bool)] st (fun (b3 : Bool) (st13 : St) => BIf (!b3) (K ((0 : Int)) ((0 : Int)) ((3 : Int)) st13) (CallT PR fn_datakitref24_words [(.str s), (.int .i64 I)] [.one (.int .i64)] st13 (fun (n15 : Int) (st14 : St) => BIf (decide (n15 = (IntKind.i64.wrap (I + (10 : Int))))) (((0 ≤ I ∧ I ≤ ((s).length : Int)) ∧ CallT PR fn_datakitref24_like [(.str (List.drop i s)), (.str str11)] [.one (.bool)] st14 (fun (b4 : Bool) (st15 : St) => BIf b4 (CallT PR fn_datakitref24_words [(.str s), (.int .i64 (IntKind.i64.wrap (n15 + (1 : Int))))] [.one (.int .i64)] st15 (fun (n16 : Int) (st16 : St) => K ((6 : Int)) (n16) ((0 : Int)) st16)) (K ((6 : Int)) (n15) ((0 : Int)) st15)))) (K ((6 : Int)) (n15) ((0 : Int)) st14)))) := fun h => by
    refine rword_ok ?_
    by_cases h13 : c = 13
    · rw [if_neg (by omega), if_neg (by omega), if_pos (by omega), if_neg (by omega), if_neg (by omega)] at h2
      refine BIf_bool (fun _ => h2 _ _ _ rfl) fun hw => absurd hw ?_
      subst h13; decide
    rw [if_neg (by omega), if_neg (by omega), if_neg (by omega), if_neg (by omega), if_neg (by omega), if_neg (by omega)] at h1 h2
    refine BIf_bool (fun hw => ?_) fun hw => ?_
    · rw [if_neg (by intro h0; rw [h0] at hw; exact absurd hw (by decide))] at h2
      exact h2 _ _ _ rfl
    · rw [if_pos (by simpa using hw)] at h1
      have h1 := h1 _ rfl
      simp only at h1
      unfold wlen at h1
      rw [w10]
      have htl := twl_le wordB (s.drop i)
      rw [List.length_drop] at htl
      refine rwords_ok hI hl (by omega) ?_
      generalize hN : ((i + twl wordB (s.drop i) : Nat) : Int) = N
      refine BIf_intro (fun q1 => ⟨⟨by omega, by omega⟩, like_ok (by decide) (BIf_bool (fun q2 => ?_) fun q2 => ?_)⟩) fun q1 => ?_
      · rw [if_pos ⟨by omega, q2⟩, List.drop_drop] at h1
        have h14 : 14 ≤ (s.drop i).length := by
          apply Decidable.byContradiction
          intro hh
          rw [patB_short _ _ (by show (s.drop i).length < 14; omega)] at q2
          exact absurd q2 (by decide)
        rw [List.length_drop] at h14
        rw [wrap64 _ (by omega) (by omega)]
        refine rwords_ok (i := i + 11) (by omega) hl (by omega) ?_
        rw [show i + (11 + twl wordB (s.drop (i + 11))) = i + 11 + twl wordB (s.drop (i + 11)) by omega] at h1
        exact h1
      · rw [if_neg (fun h => absurd q2 (by rw [h.2]; decide)), hN] at h1
        exact h1
      · rw [if_neg (fun h => q1 (by omega)), hN] at h1
        exact h1
  have lp : ∀ k : Nat, (i ≤ k ∧ k ≤ s.length ∧ k + twl spaceB (s.drop k) = i + twl spaceB (s.drop i)) → c = 32 ∨ c = 9 → twl spaceB (s.drop k) = 0 → K 1 (k : Int) 0 st := fun k hk h h0 => by
    have := hcs h
    rw [show i + twl spaceB (s.drop i) = k by omega] at this
    exact this
  have w64k : ∀ k : Nat, k < s.length → IntKind.i64.wrap ((k : Int) + 1) = ((k + 1 : Nat) : Int) := fun k hk => by rw [wrap64 _ (by omega) (by omega)]; omega
  refine BIf_intro (fun g1 => ?_) fun g1 => BIf_intro (fun g2 => ?_) fun g2 => ?_
  iterate 2
    · refine ⟨fun j s' st' => s = s' ∧ st = st' ∧ ∃ k : Nat, j = (k : Int) ∧ (i ≤ k ∧ k ≤ s.length ∧ k + twl spaceB (s.drop k) = i + twl spaceB (s.drop i)), fun j _ _ => (s.length - j).toNat, ⟨rfl, rfl, i, hI, by omega, by omega, rfl⟩, ?_⟩
      rintro _ _ _ ⟨rfl, rfl, k, rfl, hk⟩
      rw [show Int.toNat (k : Int) = k from rfl]
      refine BIf_intro (fun q1 => ?_) fun q1 => lp k hk (by omega) (by rw [List.drop_of_length_le (by omega)]; rfl)
      have hs := hsp k (by omega)
      refine ⟨⟨by omega, by omega⟩, BIf_intro (fun q2 => ?_) fun q2 => ⟨⟨by omega, by omega⟩, BIf_intro (fun q3 => ?_) fun q3 => lp k hk (by omega) (hs.2 (by omega))⟩⟩
      · have := hs.1 (.inl q2)
        rw [w64k k (by omega)]
        exact ⟨⟨rfl, rfl, k + 1, rfl, by omega, by omega, by omega⟩, by dsimp only; omega⟩
      · have := hs.1 (.inr q3)
        rw [w64k k (by omega)]
        exact ⟨⟨rfl, rfl, k + 1, rfl, by omega, by omega, by omega⟩, by dsimp only; omega⟩
  repeat' first
    | exact L9 (by omega)
    | exact L5 (by omega)
    | exact L7 (by omega)
    | exact L8 (by omega)
    | exact L2 (by omega)
    | exact L3 (by omega) (by omega) (by omega)
    | exact L4 (by omega) (by omega)
    | exact L6 (by omega)
    | refine BIf_intro (fun _ => ?_) fun _ => ?_
    | refine ⟨⟨by omega, by omega⟩, ?_⟩
end Go.TVF
