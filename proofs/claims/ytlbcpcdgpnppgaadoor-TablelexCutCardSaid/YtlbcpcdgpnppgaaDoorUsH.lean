/- tablelex: words, lines, comments; program and reference. -/
import Derived.Test.YtlbcpcdgpnppgaaDoorUsG
set_option linter.unusedVariables false
set_option linter.unusedSimpArgs false
namespace Go.TVF
open Go Go.Proofs

theorem patB_take : ∀ (ps : List (Option UInt8)) (l : List UInt8) (n : Nat), ps.length ≤ n → patB ps (l.take n) = patB ps l
  | [], l, n, h => by simp [patB]
  | _ :: _, [], n, h => by simp
  | none :: ps, c :: cs, 0, h => by simp at h
  | some a :: ps, c :: cs, 0, h => by simp at h
  | none :: ps, c :: cs, n + 1, h => by simp only [List.take_succ_cons, patB]; rw [patB_take ps cs n (by simpa using h)]
  | some a :: ps, c :: cs, n + 1, h => by simp only [List.take_succ_cons, patB]; rw [patB_take ps cs n (by simpa using h)]

theorem pat11 : mkPat 100 str11 = mkPat 48 str24 ++ mkPat 48 str25 := by decide
theorem pat11_split (l : List UInt8) : patB (mkPat 100 str11) l = (patB (mkPat 48 str24) (l.take 10) && patB (mkPat 48 str25) (l.drop 10)) := by
  rw [pat11, patB_append, patB_take _ _ _ (by decide)]
  rfl

/-- The length of a word, a date and its time taken together. -/
def wlen (l : List UInt8) : Nat := if twl wordB l = 10 ∧ patB (mkPat 100 str11) l = true then 11 + twl wordB (l.drop 11) else twl wordB l
theorem wlen_le (l : List UInt8) : wlen l ≤ l.length := by
  unfold wlen
  split
  · rename_i h
    have h1 := twl_le wordB (l.drop 11)
    have h2 : 14 ≤ l.length := by
      apply Decidable.byContradiction
      intro hh
      rw [patB_short _ _ (by show l.length < 14; omega)] at h
      exact absurd h.2 (by decide)
    rw [List.length_drop] at h1
    omega
  · exact twl_le _ _

theorem words_ok {s : List UInt8} {I : Int} {i : Nat} {st : St} {K : Int → St → Prop} (hI : I = (i : Int)) (hl : s.length ≤ 2000000) (hi : i ≤ s.length) (hk : ∀ st', StExt st st' → K ((i + wlen (s.drop i) : Nat) : Int) st') :
    CallT PR fn_tablelex_words [.str s, .int .i64 I] [.one (.int .i64)] st K := by
  have htl := twl_le wordB (s.drop i)
  rw [List.length_drop] at htl
  refine vc_tablelex_words s I st K (classes_ok fun v u st1 e c1 c2 => run_ok hI hl hi c2 ?_)
  have hsp := pat11_split (s.drop i)
  rw [List.drop_drop] at hsp
  have hw : ∀ x, (if twl wordB (s.drop i) = 10 ∧ patB (mkPat 100 str11) (s.drop i) = true then 11 + twl wordB (s.drop (i + 11)) else twl wordB (s.drop i)) = x → K ((i + x : Nat) : Int) st1 := by
    intro x hx
    have := hk st1 e
    unfold wlen at this
    rw [List.drop_drop, hx] at this
    exact this
  generalize hN : ((i + twl wordB (s.drop i) : Nat) : Int) = N
  refine BIf_intro (fun h1 => ?_) fun h1 => ?_
  · rw [wrap64 _ (by omega) (by omega)] at h1
    have h10 : twl wordB (s.drop i) = 10 := by omega
    refine ⟨⟨by omega, by omega, by omega⟩, pattern_ok (by decide) ?_⟩
    rw [take_drop_sub, show Int.toNat N - Int.toNat I = 10 by omega, show Int.toNat I = i by omega]
    refine BIf_bool (fun h2 => ⟨⟨by omega, by omega⟩, pattern_ok (by decide) ?_⟩) fun h2 => ?_
    · rw [show Int.toNat N = i + 10 by omega]
      refine BIf_bool (fun h3 => ?_) fun h3 => ?_
      · have h14 : 4 ≤ (s.drop (i + 10)).length := by
          apply Decidable.byContradiction
          intro hh
          rw [patB_short _ _ (by show _ < 4; omega)] at h3
          exact absurd h3 (by decide)
        rw [List.length_drop] at h14
        rw [wrap64 _ (by omega) (by omega)]
        refine run_ok (i := i + 11) (by omega) hl (by omega) c2 ?_
        have := hw _ (if_pos ⟨h10, by rw [hsp, h2, h3]; rfl⟩)
        rw [show i + (11 + twl wordB (s.drop (i + 11))) = i + 11 + twl wordB (s.drop (i + 11)) by omega] at this
        exact this
      · rw [← hN]
        refine hw _ (if_neg fun h => absurd h3 ?_)
        have := h.2
        rw [hsp, Bool.and_eq_true] at this
        rw [this.2]; decide
    · rw [← hN]
      refine hw _ (if_neg fun h => absurd h2 ?_)
      have := h.2
      rw [hsp, Bool.and_eq_true] at this
      rw [this.1]; decide
  · rw [wrap64 _ (by omega) (by omega)] at h1
    rw [← hN]
    exact hw _ (if_neg fun h => h1 (by omega))

theorem hasPrefix_ok {s p : List UInt8} {st : St} {K : Bool → St → Prop} (hk : K (decide (s.take p.length = p)) st) : CallT PR fn_strings_HasPrefix [.str s, .str p] [.one (.bool)] st K := by
  refine vc_strings_HasPrefix s p st K (vc_stringslite_HasPrefix s p st _ (BIf_intro (fun h => ⟨⟨by omega, h⟩, ?_⟩) fun h => ?_))
  · exact hk
  · have : ¬ s.take p.length = p := fun h0 => by
      have := congrArg List.length h0
      rw [List.length_take] at this
      omega
    rw [decide_eq_false this] at hk
    exact hk

theorem crlf (l : List UInt8) : l.take str23.length = str23 ↔ 1 < l.length ∧ bt l 0 = 13 ∧ bt l 1 = 10 := by
  have e : ∀ (a b : UInt8), a = b ↔ a.toNat = b.toNat := fun a b => UInt8.toNat_inj.symm
  rcases l with _ | ⟨a, _ | ⟨b, l⟩⟩
  · simp [str23]
  · simp [str23]
  · simp [str23, bt, e]

/-- Where a comment ends. -/
def cF : Nat → List UInt8 → Nat → Option Nat
  | 0, _, _ => none
  | f + 1, l, k => if l.length = 0 then some k else if bt l 0 = 10 then some k else if 1 < l.length ∧ bt l 0 = 13 ∧ bt l 1 = 10 then some k
    else if ul l = 0 then none else cF f (l.drop (ul l)) (k + ul l)

theorem cF_le : ∀ (f : Nat) (l : List UInt8) (k n : Nat), cF f l k = some n → k ≤ n ∧ n ≤ k + l.length
  | 0, l, k, n, h => by cases h
  | f + 1, l, k, n, h => by
    simp only [cF] at h
    repeat' split at h
    all_goals first | (cases h; done) | (simp only [Option.some.injEq] at h; omega) | skip
    have h1 := cF_le f _ _ _ h
    have h2 := ul_le l
    rw [List.length_drop] at h1
    omega

theorem comment_ok {s : List UInt8} {I : Int} {i : Nat} {st : St} {K : Int → Int → St → Prop} (hI : I = (i : Int)) (hl : s.length ≤ 2000000) (hi : i ≤ s.length)
    (h1 : ∀ (k : Nat), cF (s.length + 1) (s.drop i) i = some k → K (k : Int) 0 st) (h2 : cF (s.length + 1) (s.drop i) i = none → K 0 5 st) :
    CallT PR fn_tablelex_comment [.str s, .int .i64 I] [.one (.int .i64), .one (.int .i64)] st K := by
  refine vc_tablelex_comment s I st K ⟨fun j s' st' => s = s' ∧ st = st' ∧ ∃ k f : Nat, j = (k : Int) ∧ k ≤ s.length ∧ s.length < k + f ∧ cF f (s.drop k) k = cF (s.length + 1) (s.drop i) i, fun j _ _ => (s.length - j).toNat, ⟨rfl, rfl, i, s.length + 1, hI, hi, by omega, rfl⟩, ?_⟩
  rintro _ _ _ ⟨rfl, rfl, k, f, rfl, h3, h4, h5⟩
  cases f with
  | zero => omega
  | succ f =>
  have hlen : (s.drop k).length = s.length - k := by simp
  have hb : bt (s.drop k) 0 = (s.getD k 0).toNat := bt_drop s k 0
  have e0 : Int.toNat (k : Int) = k := rfl
  simp only [cF] at h5
  rw [e0]
  refine BIf_intro (fun g1 => ⟨⟨by omega, by omega⟩, ?_⟩) fun g1 => ?_
  · rw [if_neg (by omega)] at h5
    have hne : s.drop k ≠ [] := by
      intro h0
      have := congrArg List.length h0
      rw [hlen] at this; simp at this; omega
    refine BIf_intro (fun g2 => ⟨⟨by omega, by omega⟩, hasPrefix_ok (BIf_bool (fun g3 => ?_) fun g3 => ?_)⟩) fun g2 => ?_
    · have g3 : ¬ (1 < (s.drop k).length ∧ bt (s.drop k) 0 = 13 ∧ bt (s.drop k) 1 = 10) := fun h => by
        rw [decide_eq_true ((crlf _).2 h)] at g3; exact absurd g3 (by decide)
      rw [if_neg (by omega), if_neg g3] at h5
      refine ⟨⟨by omega, by omega⟩, decode_okV hne fun R N hD => ?_⟩
      refine BIf_intro (fun g4 => BIf_intro (fun g5 => ?_) fun g5 => ?_) fun g4 => ?_
      · rw [if_pos (by omega)] at h5
        exact h2 h5.symm
      all_goals
        obtain ⟨d0, d2, d3⟩ : (ul (s.drop k) ≠ 0 ∧ N = (ul (s.drop k) : Nat) ∧ ul (s.drop k) ≤ (s.drop k).length) := by
          rcases hD with ⟨_, x1, x2⟩ | hD
          · first | exact absurd x2 g5 | exact absurd x1 g4
          · exact ⟨hD.1, hD.2.2.1, hD.2.2.2.2.1⟩
        rw [if_neg (by omega), List.drop_drop] at h5
        rw [wrap64 _ (by omega) (by omega)]
        exact ⟨⟨rfl, rfl, k + ul (s.drop k), f, by omega, by omega, by omega, h5⟩, by dsimp only; omega⟩
    · have g3 : 1 < (s.drop k).length ∧ bt (s.drop k) 0 = 13 ∧ bt (s.drop k) 1 = 10 := by
        refine (crlf _).1 (Decidable.byContradiction fun h => absurd g3 ?_)
        rw [decide_eq_false h]; decide
      rw [if_neg (by omega), if_pos g3] at h5
      exact h1 k h5.symm
    · rw [if_pos (by omega)] at h5
      exact h1 k h5.symm
  · rw [if_pos (by omega)] at h5
    exact h1 k h5.symm

theorem rcomment_ok {s : List UInt8} {I : Int} {i : Nat} {st : St} {K : Int → Int → St → Prop} (hI : I = (i : Int)) (hl : s.length ≤ 2000000) (hi : i ≤ s.length)
    (h1 : ∀ (k : Nat), cF (s.length + 1) (s.drop i) i = some k → K (k : Int) 0 st) (h2 : cF (s.length + 1) (s.drop i) i = none → K 0 5 st) :
    CallT PR fn_datakitref24_comment [.str s, .int .i64 I] [.one (.int .i64), .one (.int .i64)] st K := by
  refine vc_datakitref24_comment s I st K ⟨fun j s' st' => s = s' ∧ st = st' ∧ ∃ k f : Nat, j = (k : Int) ∧ k ≤ s.length ∧ s.length < k + f ∧ cF f (s.drop k) k = cF (s.length + 1) (s.drop i) i, fun j _ _ => (s.length - j).toNat, ⟨rfl, rfl, i, s.length + 1, hI, hi, by omega, rfl⟩, ?_⟩
  rintro _ _ _ ⟨rfl, rfl, k, f, rfl, h3, h4, h5⟩
  cases f with
  | zero => omega
  | succ f =>
  have hlen : (s.drop k).length = s.length - k := by simp
  have hb : bt (s.drop k) 0 = (s.getD k 0).toNat := bt_drop s k 0
  have hb1 : bt (s.drop k) 1 = (s.getD (k + 1) 0).toNat := bt_drop s k 1
  have e0 : Int.toNat (k : Int) = k := rfl
  simp only [cF] at h5
  rw [e0]
  refine BIf_intro (fun g1 => ⟨⟨by omega, by omega⟩, ?_⟩) fun g1 => ?_
  · rw [if_neg (by omega)] at h5
    rw [wrap64 ((k : Int) + 1) (by omega) (by omega), show Int.toNat ((k : Int) + 1) = k + 1 from rfl]
    refine BIf_intro (fun g2 => ⟨⟨by omega, by omega⟩, BIf_intro (fun g3 => rdecode_okV rfl hl (by omega) fun R N hD => BIf_intro (fun g4 => ?_) fun g4 => ?_) fun g3 => BIf_intro (fun g4 => rdecode_okV rfl hl (by omega) fun R N hD => BIf_intro (fun g5 => ?_) fun g5 => ?_) fun g4 => ⟨⟨by omega, by omega⟩, BIf_intro (fun g5 => rdecode_okV rfl hl (by omega) fun R N hD => BIf_intro (fun g6 => ?_) fun g6 => ?_) fun g5 => ?_⟩⟩) fun g2 => ?_
    iterate 3
      · rw [if_neg (by omega), if_neg (by omega), if_pos (by omega)] at h5
        exact h2 h5.symm
      · rw [if_neg (by omega), if_neg (by omega), if_neg (by omega), List.drop_drop] at h5
        have : N = (ul (s.drop k) : Nat) ∧ ul (s.drop k) ≠ 0 ∧ ul (s.drop k) ≤ s.length - k := by omega
        rw [wrap64 _ (by omega) (by omega)]
        exact ⟨⟨rfl, rfl, k + ul (s.drop k), f, by omega, by omega, by omega, h5⟩, by dsimp only; omega⟩
    · rw [if_neg (by omega), if_pos (by omega)] at h5
      exact h1 k h5.symm
    · rw [if_pos (by omega)] at h5
      exact h1 k h5.symm
  · rw [if_pos (by omega)] at h5
    exact h1 k h5.symm
end Go.TVF
