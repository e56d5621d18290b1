/- Base: Fold. -/
import Derived.Test.YtphnhocpknhpgaaUsF
set_option linter.unusedVariables false
set_option linter.unusedSimpArgs false
namespace Go.TVF
open Go Go.Proofs

def pcs (m : Nat) : List UInt8 → List (List UInt8)
  | [] => []
  | a :: r => (a :: r).take (m + 1) :: pcs m ((a :: r).drop (m + 1))
termination_by l => l.length
decreasing_by simp; omega
theorem pcs_nil (m : Nat) : pcs m [] = [] := by rw [pcs]
theorem pcs_step (m : Nat) (s : List UInt8) (h : 0 < s.length) : pcs m s = s.take (m + 1) :: pcs m (s.drop (m + 1)) := by
  cases s with
  | nil => simp at h
  | cons a r => rw [pcs]
theorem pcs_one (m : Nat) (s : List UInt8) (h : 0 < s.length) (h2 : s.length ≤ m + 1) : pcs m s = [s] := by
  rw [pcs_step m s h, List.take_of_length_le h2, List.drop_of_length_le h2, pcs_nil]
theorem pcs_flat (m : Nat) : ∀ (n : Nat) (s : List UInt8), s.length ≤ n → (pcs m s).flatten = s
  | 0, s, h => by rw [List.eq_nil_of_length_eq_zero (by omega : s.length = 0), pcs_nil]; rfl
  | n + 1, s, h => by
    by_cases h0 : 0 < s.length
    · rw [pcs_step m s h0, List.flatten_cons, pcs_flat m n _ (by simp; omega), List.take_append_drop]
    · rw [List.eq_nil_of_length_eq_zero (by omega : s.length = 0), pcs_nil]; rfl
theorem pcs_ne (m : Nat) : ∀ (n : Nat) (s : List UInt8), s.length ≤ n → ∀ p ∈ pcs m s, p ≠ []
  | 0, s, h => by rw [List.eq_nil_of_length_eq_zero (by omega : s.length = 0), pcs_nil]; simp
  | n + 1, s, h => by
    by_cases h0 : 0 < s.length
    · rw [pcs_step m s h0]
      intro p hp
      rcases List.mem_cons.1 hp with rfl | hp
      · intro hh
        have := congrArg List.length hh
        simp at this
        rw [this] at h0; simp at h0
      · exact pcs_ne m n _ (by simp; omega) p hp
    · rw [List.eq_nil_of_length_eq_zero (by omega : s.length = 0), pcs_nil]; simp

def foldP (s : List UInt8) (width : Int) : List (List UInt8) := if width < 1 then (if s = [] then [] else [s]) else pcs (width - 1).toNat s
theorem foldP_flat (s : List UInt8) (width : Int) : (foldP s width).flatten = s := by
  unfold foldP; split
  · split
    · rename_i h; rw [h]; rfl
    · simp
  · exact pcs_flat _ _ s (Nat.le_refl _)
theorem foldP_ne (s : List UInt8) (width : Int) : ∀ p ∈ foldP s width, p ≠ [] := by
  unfold foldP; split
  · split
    · simp
    · rename_i h; intro p hp; simp at hp; rw [hp]; exact h
  · exact pcs_ne _ _ s (Nat.le_refl _)

/-- A list of texts. -/
def RdS (v : TV) (l : List (List UInt8)) : Prop := Rd 1 v l.length (l.map TV.str)

theorem fold_ok {s : List UInt8} {width : Int} {st : St} {K : TV → St → Prop} (hl : (s.length : Int) ≤ 1000000) (hk : ∀ v st', RdS v (foldP s width) → K v st') : CallT Try.prog 40 [.str s, .int .i64 width] [.one (.tv)] st K := by
  refine vc40 s width st K (BIf_intro (fun h0 => ?_) fun h0 => BIf_intro (fun h1 => ?_) fun h1 => ?_)
  · refine hk _ _ ?_
    subst h0
    have : foldP [] width = [] := by unfold foldP; split <;> simp [pcs_nil]
    rw [this]; exact .inl ⟨rfl, rfl, rfl⟩
  · refine hk _ _ ?_
    rw [foldP, if_pos h1, if_neg h0]
    exact .inr ⟨.full, rfl⟩
  · refine ⟨fun s1 out w st1 => width = w ∧ 0 < s1.length ∧ StExt st st1 ∧ ∃ o : List (List UInt8), Own st.nt 1 st1 out o.length (o.map TV.str) ∧ o ++ pcs (width - 1).toNat s1 = pcs (width - 1).toNat s ∧ o.length + s1.length ≤ s.length, fun s1 _ _ _ => s1.length, ⟨rfl, by cases s <;> simp_all, StExt.refl _, [], Own.nil _ _ _, rfl, by simp⟩, ?_⟩
    rintro s1 out _ st1 ⟨rfl, g0, e, o, hown, ho, hlen⟩
    refine BIf_intro (fun g1 => ?_) fun g1 => ?_
    · refine ⟨⟨by omega, by omega⟩, appK_own (k := 1) (ys := [.str (s1.take width.toNat)]) e rfl hown (by omega) (by simp) fun v' st2 e2 _ hown2 => ⟨⟨by omega, by omega⟩, ⟨rfl, by simp; omega, e2, o ++ [s1.take width.toNat], ?_, ?_, ?_⟩, ?_⟩⟩
      · simpa using hown2
      · rw [← ho, pcs_step _ s1 g0, List.append_assoc, show (width - 1).toNat + 1 = width.toNat by omega]; rfl
      · simp; omega
      · simp; omega
    · refine appK_own (k := 1) (ys := [.str s1]) e rfl hown (by omega) (by simp) fun v' st2 e2 _ hown2 => hk _ _ ?_
      have : foldP s width = o ++ [s1] := by rw [foldP, if_neg h1, ← ho, pcs_one _ s1 g0 (by omega)]
      rw [this]
      have := hown2.rd
      simpa [RdS] using this

def rfoldLoop (s : List UInt8) (width : Int) (st : St) (K : TV → St → Prop) : Prop :=
  (∃ (I2 : List UInt8 → TV → Int → St → Prop) (M2 : List UInt8 → TV → Int → St → Nat), (I2 (s) (.nilSlice) (width) st) ∧ ∀ (s_2 : List UInt8) (out_2 : TV) (width_2 : Int) (st3 : St), I2 s_2 out_2 width_2 st3 → (BIf (decide ((0 : Int) < ((s_2).length : Int))) (((0 ≤ (min width_2 ((s_2).length : Int)) ∧ (min width_2 ((s_2).length : Int)) ≤ ((s_2).length : Int)) ∧ appK 1 16 out_2 1 [(.str (List.take (Int.toNat (min width_2 ((s_2).length : Int))) s_2))] st3 (fun (v2 : TV) (st4 : St) => ((0 ≤ (min width_2 ((s_2).length : Int)) ∧ (min width_2 ((s_2).length : Int)) ≤ ((s_2).length : Int)) ∧ (I2 ((List.drop (Int.toNat (min width_2 ((s_2).length : Int))) s_2)) (v2) (width_2) st4 ∧ M2 ((List.drop (Int.toNat (min width_2 ((s_2).length : Int))) s_2)) (v2) (width_2) st4 < M2 s_2 out_2 width_2 st3))))) (K (out_2) st3)))

theorem rfoldLoop_ok {s : List UInt8} {width : Int} {st : St} {K : TV → St → Prop} (hw : 1 ≤ width) (hl : (s.length : Int) ≤ 1000000) (hk : ∀ v st', RdS v (pcs (width - 1).toNat s) → K v st') : rfoldLoop s width st K := by
  refine ⟨fun s1 out w st1 => width = w ∧ StExt st st1 ∧ ∃ o : List (List UInt8), Own st.nt 1 st1 out o.length (o.map TV.str) ∧ o ++ pcs (width - 1).toNat s1 = pcs (width - 1).toNat s ∧ o.length + s1.length ≤ s.length, fun s1 _ _ _ => s1.length, ⟨rfl, StExt.refl _, [], Own.nil _ _ _, rfl, by simp⟩, ?_⟩
  rintro s1 out _ st1 ⟨rfl, e, o, hown, ho, hlen⟩
  refine BIf_intro (fun g1 => ?_) fun g1 => ?_
  · have htk : s1.take (min width (s1.length : Int)).toNat = s1.take width.toNat := by
      by_cases hle : width ≤ (s1.length : Int)
      · rw [Int.min_eq_left hle]
      · rw [Int.min_eq_right (by omega), List.take_of_length_le (by omega), List.take_of_length_le (by omega)]
    have hdr : s1.drop (min width (s1.length : Int)).toNat = s1.drop width.toNat := by
      by_cases hle : width ≤ (s1.length : Int)
      · rw [Int.min_eq_left hle]
      · rw [Int.min_eq_right (by omega), List.drop_of_length_le (by omega), List.drop_of_length_le (by omega)]
    rw [htk, hdr]
    refine ⟨⟨by omega, by omega⟩, appK_own (k := 1) (ys := [.str (s1.take width.toNat)]) e rfl hown (by omega) (by simp) fun v' st2 e2 _ hown2 => ⟨⟨by omega, by omega⟩, ⟨rfl, e2, o ++ [s1.take width.toNat], ?_, ?_, ?_⟩, ?_⟩⟩
    · simpa using hown2
    · rw [← ho, pcs_step _ s1 (by omega), List.append_assoc, show (width - 1).toNat + 1 = width.toNat by omega]; rfl
    · simp; omega
    · simp; omega
  · have h0 : s1 = [] := List.eq_nil_of_length_eq_zero (by omega)
    rw [h0, pcs_nil, List.append_nil] at ho
    refine hk _ _ ?_
    rw [← ho]
    exact hown.rd

theorem rfold_ok {s : List UInt8} {width : Int} {st : St} {K : TV → St → Prop} (hl : (s.length : Int) ≤ 1000000) (hk : ∀ v st', RdS v (foldP s width) → K v st') : CallT Try.prog 41 [.str s, .int .i64 width] [.one (.tv)] st K := by
  refine vc41 s width st K (BIf_intro (fun h1 => ?_) fun h1 => ?_)
  · refine rfoldLoop_ok (width := max 1 (s.length : Int)) (by omega) hl fun v st' hv => hk v st' ?_
    rw [foldP, if_pos h1]
    by_cases h0 : s = []
    · rw [if_pos h0]; rw [h0, pcs_nil] at hv; exact hv
    · have : 0 < s.length := by cases s <;> simp_all
      rw [if_neg h0]; rwa [pcs_one _ s this (by omega)] at hv
  · refine rfoldLoop_ok (by omega) hl fun v st' hv => hk v st' ?_
    rwa [foldP, if_neg h1]

theorem ne_len : ∀ (l : List (List UInt8)), (∀ p ∈ l, p ≠ []) → l.length ≤ l.flatten.length
  | [], _ => by simp
  | a :: l, h => by
    have h1 := ne_len l (fun p hp => h p (List.mem_cons_of_mem _ hp))
    have h2 : 0 < a.length := List.length_pos_iff.2 (h a (List.mem_cons_self ..))
    rw [List.flatten_cons, List.length_append, List.length_cons]; omega

theorem folds_ok (s : List UInt8) (width : Int) : CallT Try.prog 8 [.str s, .int .i64 width] [.one (.bool)] St.zero (fun r _ => r = true) := by
  refine vc8 s width St.zero _ (BIf_intro (fun _ => awakeB_ok fun _ => rfl) fun h1 => ?_)
  refine fold_ok (by omega) fun v1 st1 hv1 => rfold_ok (by omega) fun v2 st2 hv2 => need_intro hv1.isSl (need_intro hv2.isSl ?_)
  rw [hv1.lenS, hv2.lenS]
  refine BIf_intro (fun hh => absurd rfl hh) fun _ => ?_
  have hflat := foldP_flat s width
  have hne := foldP_ne s width
  have hpl := ne_len _ hne
  rw [hflat] at hpl
  generalize foldP s width = p at *
  have hfl : ∀ i, (p.take i).flatten.length ≤ s.length := fun i => by
    have : (p.take i).flatten ++ (p.drop i).flatten = s := by rw [← List.flatten_append, List.take_append_drop, hflat]
    rw [← this, List.length_append]; omega
  have ld : ∀ v, RdS v p → ∀ (st : St) (i : Nat) (h : i < p.length), ldCell st [] (.t (ixT 1 v i)) 0 = some (.str p[i]) := fun v hv st i h => by
    have := Rd.ld hv st i 0 (by simpa using h)
    simpa using this
  refine ⟨fun t i s' g w st' => s = s' ∧ v1 = g ∧ v2 = w ∧ 0 ≤ i ∧ i ≤ p.length ∧ t = (p.take i.toNat).flatten, fun _ i _ _ _ _ => (p.length - i).toNat, ⟨rfl, rfl, rfl, by omega, by omega, rfl⟩, ?_⟩
  rintro t i _ _ _ st' ⟨rfl, rfl, rfl, g1, g2, rfl⟩
  refine need_intro hv1.isSl ?_
  rw [hv1.lenS, hv1.lenZ, hv2.lenZ]
  refine BIf_intro (fun g3 => ?_) fun g3 => ?_
  · have hi : i.toNat < p.length := by omega
    refine ⟨⟨g1, g3⟩, optK_intro (ld v1 hv1 _ _ hi) ⟨⟨g1, g3⟩, optK_intro (ld v2 hv2 _ _ hi) (BIf_intro (fun hh => absurd rfl hh) fun _ => ⟨⟨g1, g3⟩, optK_intro (ld v1 hv1 _ _ hi) (BIf_intro (fun hh => absurd hh (hne _ (List.getElem_mem hi))) fun _ => ⟨⟨g1, g3⟩, optK_intro (ld v1 hv1 _ _ hi) ?_⟩)⟩)⟩⟩
    have hs : (p.take (i.toNat + 1)).flatten = (p.take i.toNat).flatten ++ p[i.toNat] := by
      rw [List.take_add_one, List.getElem?_eq_getElem hi, List.flatten_append]; simp
    have hb := hfl (i.toNat + 1)
    rw [hs, List.length_append] at hb
    rw [wrap64 (i + 1) (by omega) (by omega)]
    refine ⟨by omega, ⟨rfl, rfl, rfl, by omega, by omega, ?_⟩, by dsimp only; omega⟩
    rw [show (i + 1).toNat = i.toNat + 1 by omega, hs]
  · refine BIf_intro (fun _ => awakeB_ok fun _ => rfl) fun hh => absurd ?_ hh
    rw [List.take_of_length_le (by omega), hflat]
end Go.TVF
