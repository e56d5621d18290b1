/- tablelex: classes of bytes, words, lines, comments; program and reference. -/
import Derived.Test.YtlbcpcdgpnppgaaDoorUsA
set_option linter.unusedVariables false
set_option linter.unusedSimpArgs false
namespace Go.TVF
open Go Go.Proofs

theorem K_eq {α : Type} {K : α → St → Prop} {a b : α} {st : St} (h : a = b) (hk : K b st) : K a st := h ▸ hk

def bareB (c : Int) : Bool := decide (97 ≤ c ∧ c ≤ 122 ∨ 65 ≤ c ∧ c ≤ 90 ∨ 48 ≤ c ∧ c ≤ 57 ∨ c = 95 ∨ c = 45)
def wordB (c : Int) : Bool := decide (97 ≤ c ∧ c ≤ 122 ∨ 65 ≤ c ∧ c ≤ 90 ∨ 48 ≤ c ∧ c ≤ 57 ∨ c = 95 ∨ c = 45 ∨ c = 43 ∨ c = 46 ∨ c = 58)
def spaceB (c : Int) : Bool := decide (c = 32 ∨ c = 9)

/-- A function value that tells a class of bytes, now and later. -/
def Cls (st : St) (v : TV) (p : Int → Bool) : Prop :=
  ∀ st', StExt st st' → ∀ (c : Int) (K : Bool → St → Prop), K (p c) st' → callK PR v [.int .u8 c] [.one (.bool)] st' K
theorem Cls.ext {st st' : St} {v : TV} {p : Int → Bool} (h : Cls st v p) (e : StExt st st') : Cls st' v p := fun st2 e2 => h st2 (e.trans e2)

theorem classes1_ok {c : Int} {st : St} {K : Bool → St → Prop} (hk : K (bareB c) st) : CallT PR fn_tablelex_classes_1 [.int .u8 c] [.one (.bool)] st K := by
  refine vc_tablelex_classes_1 c st K ?_
  unfold bareB at hk
  repeat' (refine BIf_intro (fun _ => ?_) fun _ => ?_)
  all_goals first | exact K_eq (decide_eq_true (by omega)).symm hk | exact K_eq (decide_eq_false (by omega)).symm hk | exact K_eq (decide_eq_decide.2 (by omega)) hk

theorem cls1 (st : St) : Cls st (.func fn_tablelex_classes_1 []) bareB := fun st' _ c K hk => classes1_ok hk

theorem cls2 {st : St} {b : Nat} (hb : st.box b = .cells [.func fn_tablelex_classes_1 []]) (hlt : b < st.nb) : Cls st (.func fn_tablelex_classes_2 [.box b 0]) wordB := by
  intro st' e c K hk
  refine vc_tablelex_classes_2 c _ st' K (optK_intro (x := .func fn_tablelex_classes_1 []) (by simp [ldCell, e.box b hlt, hb]) ?_)
  refine cls1 st' st' (StExt.refl _) c _ ?_
  unfold bareB
  unfold wordB at hk
  refine BIf_intro (fun _ => ?_) fun _ => ?_
  · exact K_eq (decide_eq_true (by omega)).symm hk
  · repeat' (refine BIf_intro (fun _ => ?_) fun _ => ?_)
    all_goals first | exact K_eq (decide_eq_true (by omega)).symm hk | exact K_eq (decide_eq_false (by omega)).symm hk | exact K_eq (decide_eq_decide.2 (by omega)) hk

theorem clsSpace (st : St) : Cls st (.func fn_tablelex_end_1 []) spaceB := fun st' _ c K hk => by
  refine vc_tablelex_end_1 c st' K ?_
  unfold spaceB at hk
  refine BIf_intro (fun _ => ?_) fun _ => ?_
  · exact K_eq (decide_eq_true (by omega)).symm hk
  · exact K_eq (decide_eq_decide.2 (by omega)) hk

theorem stB_box {st : St} {b : Nat} {l xs : List TV} {k : St → Prop} (hb : st.box b = .cells l) (hl : 0 + xs.length ≤ l.length) (hk : k (st.put b (.cells (setAll l 0 xs)))) : stB st (.box b 0) xs k := ⟨l, hb, hl, hk⟩
theorem box_push (st : St) (o : AObj) (T : Option Nat) : (st.push o T).box st.nb = o := by simp [St.push]
theorem box_put (st : St) (b : Nat) (o : AObj) : (st.put b o).box b = o := by simp [St.put]

theorem classes_ok {st : St} {K : TV → TV → St → Prop} (hk : ∀ v u st', StExt st st' → Cls st' v bareB → Cls st' u wordB → K v u st') : CallT PR fn_tablelex_classes [] [.one (.tv), .one (.tv)] st K := by
  refine vc_tablelex_classes st K (stB_box (box_push _ _ _) (by simp) ?_)
  refine optK_intro (x := .func fn_tablelex_classes_1 []) (by simp [ldCell, box_put, setAll]) (need_intro rfl ?_)
  refine stB_box (box_put _ _ _) (by simp [setAll]) ?_
  refine optK_intro (x := .func fn_tablelex_classes_1 []) (by simp [ldCell, box_put, setAll]) ?_
  refine hk _ _ _ (((StExt.refl st).push _ _).put (Nat.le_refl _) _ |>.put (Nat.le_refl _) _) (cls1 _) (cls2 (by simp [box_put, setAll]) (by simp [St.put, St.push]))

/-- How many bytes of a class stand at the head. -/
def twl (p : Int → Bool) : List UInt8 → Nat
  | [] => 0
  | c :: r => if p (c.toNat : Int) then twl p r + 1 else 0
theorem twl_le (p : Int → Bool) : ∀ l, twl p l ≤ l.length
  | [] => by simp [twl]
  | c :: r => by
    have := twl_le p r
    simp only [twl, List.length_cons]
    split <;> omega
theorem twl_drop (p : Int → Bool) (s : List UInt8) (i : Nat) (h : i < s.length) : twl p (s.drop i) = if p (((s.getD i 0).toNat : Nat) : Int) then twl p (s.drop (i + 1)) + 1 else 0 := by
  rw [drop_cons s i 0 h]; rfl
theorem twl_end (p : Int → Bool) (s : List UInt8) (i : Nat) (h : s.length ≤ i) : twl p (s.drop i) = 0 := by
  rw [List.drop_of_length_le h]; rfl

theorem run_ok {s : List UInt8} {I : Int} {i : Nat} {v : TV} {p : Int → Bool} {st : St} {K : Int → St → Prop} (hI : I = (i : Int)) (hl : s.length ≤ 2000000) (hi : i ≤ s.length) (hc : Cls st v p) (hk : K ((i + twl p (s.drop i) : Nat) : Int) st) :
    CallT PR fn_tablelex_run [.str s, .int .i64 I, v] [.one (.int .i64)] st K := by
  refine vc_tablelex_run s I v st K ⟨fun j s' v' st' => s = s' ∧ v = v' ∧ st = st' ∧ ∃ k : Nat, j = (k : Int) ∧ k ≤ s.length ∧ k + twl p (s.drop k) = i + twl p (s.drop i), fun j _ _ _ => (s.length - j).toNat, ⟨rfl, rfl, rfl, i, hI, hi, rfl⟩, ?_⟩
  rintro _ _ _ _ ⟨rfl, rfl, rfl, k, rfl, h1, h2⟩
  refine BIf_intro (fun h3 => ⟨⟨by omega, h3⟩, hc st (StExt.refl _) _ _ (BIf_bool (fun h4 => ?_) fun h4 => ?_)⟩) fun h3 => ?_
  · have hd := twl_drop p s k (by omega)
    rw [show Int.toNat (k : Int) = k from rfl] at h4
    rw [if_pos h4] at hd
    rw [wrap64 _ (by omega) (by omega)]
    exact ⟨⟨rfl, rfl, rfl, k + 1, by omega, by omega, by omega⟩, by dsimp only; omega⟩
  · have hd := twl_drop p s k (by omega)
    rw [show Int.toNat (k : Int) = k from rfl] at h4
    rw [if_neg (by rw [h4]; simp)] at hd
    have : k = i + twl p (s.drop i) := by omega
    rw [← this] at hk; exact hk
  · rw [twl_end p s k (by omega)] at h2
    have : k = i + twl p (s.drop i) := by omega
    rw [← this] at hk; exact hk

/-! The reference's classes. -/
def letterB (c : Int) : Bool := decide (97 ≤ c ∧ c ≤ 122 ∨ 65 ≤ c ∧ c ≤ 90)
def digitB (c : Int) : Bool := decide (48 ≤ c ∧ c ≤ 57)
theorem letter_ok {c : Int} {st : St} {K : Bool → St → Prop} (hk : K (letterB c) st) : CallT PR fn_datakitref19_Letter [.int .u8 c] [.one (.bool)] st K := by
  refine vc_datakitref19_Letter c st K ?_
  unfold letterB at hk
  repeat' (refine BIf_intro (fun _ => ?_) fun _ => ?_)
  all_goals first | exact K_eq (decide_eq_true (by omega)).symm hk | exact K_eq (decide_eq_false (by omega)).symm hk | exact K_eq (decide_eq_decide.2 (by omega)) hk
theorem digit_ok {c : Int} {st : St} {K : Bool → St → Prop} (hk : K (digitB c) st) : CallT PR fn_datakitref19_Digit [.int .u8 c] [.one (.bool)] st K := by
  refine vc_datakitref19_Digit c st K ?_
  unfold digitB at hk
  repeat' (refine BIf_intro (fun _ => ?_) fun _ => ?_)
  all_goals first | exact K_eq (decide_eq_true (by omega)).symm hk | exact K_eq (decide_eq_false (by omega)).symm hk | exact K_eq (decide_eq_decide.2 (by omega)) hk
theorem rword_ok {c : Int} {st : St} {K : Bool → St → Prop} (hk : K (wordB c) st) : CallT PR fn_datakitref24_word [.int .u8 c] [.one (.bool)] st K := by
  refine vc_datakitref24_word c st K (letter_ok ?_)
  unfold letterB
  unfold wordB at hk
  refine BIf_intro (fun _ => K_eq (decide_eq_true (by omega)).symm hk) fun _ => digit_ok ?_
  unfold digitB
  repeat' (refine BIf_intro (fun _ => ?_) fun _ => ?_)
  all_goals first | exact K_eq (decide_eq_true (by omega)).symm hk | exact K_eq (decide_eq_false (by omega)).symm hk | exact K_eq (decide_eq_decide.2 (by omega)) hk
theorem rwords_ok {s : List UInt8} {I : Int} {i : Nat} {st : St} {K : Int → St → Prop} (hI : I = (i : Int)) (hl : s.length ≤ 2000000) (hi : i ≤ s.length) (hk : K ((i + twl wordB (s.drop i) : Nat) : Int) st) :
    CallT PR fn_datakitref24_words [.str s, .int .i64 I] [.one (.int .i64)] st K := by
  refine vc_datakitref24_words s I st K ⟨fun j s' st' => s = s' ∧ st = st' ∧ ∃ k : Nat, j = (k : Int) ∧ k ≤ s.length ∧ k + twl wordB (s.drop k) = i + twl wordB (s.drop i), fun j _ _ => (s.length - j).toNat, ⟨rfl, rfl, i, hI, hi, rfl⟩, ?_⟩
  rintro _ _ _ ⟨rfl, rfl, k, rfl, h1, h2⟩
  refine BIf_intro (fun h3 => ⟨⟨by omega, h3⟩, rword_ok (BIf_bool (fun h4 => ?_) fun h4 => ?_)⟩) fun h3 => ?_
  · have hd := twl_drop wordB s k (by omega)
    rw [show Int.toNat (k : Int) = k from rfl] at h4
    rw [if_pos h4] at hd
    rw [wrap64 _ (by omega) (by omega)]
    exact ⟨⟨rfl, rfl, k + 1, by omega, by omega, by omega⟩, by dsimp only; omega⟩
  · have hd := twl_drop wordB s k (by omega)
    rw [show Int.toNat (k : Int) = k from rfl] at h4
    rw [if_neg (by rw [h4]; simp)] at hd
    have : k = i + twl wordB (s.drop i) := by omega
    rw [← this] at hk; exact hk
  · rw [twl_end wordB s k (by omega)] at h2
    have : k = i + twl wordB (s.drop i) := by omega
    rw [← this] at hk; exact hk

/-! Patterns: none stands for a digit. -/
def patB : List (Option UInt8) → List UInt8 → Bool
  | [], _ => true
  | _ :: _, [] => false
  | none :: ps, c :: cs => digitB (c.toNat : Int) && patB ps cs
  | some a :: ps, c :: cs => decide (c = a) && patB ps cs
def mkPat (d : UInt8) (p : List UInt8) : List (Option UInt8) := p.map fun c => if c = d then none else some c

theorem patB_short : ∀ (ps : List (Option UInt8)) (l : List UInt8), l.length < ps.length → patB ps l = false
  | [], l, h => by simp at h
  | _ :: _, [], _ => by cases ‹Option UInt8› <;> rfl
  | none :: ps, c :: cs, h => by simp only [patB]; rw [patB_short ps cs (by simpa using h)]; simp
  | some a :: ps, c :: cs, h => by simp only [patB]; rw [patB_short ps cs (by simpa using h)]; simp
theorem patB_drop (d : UInt8) (p s : List UInt8) (k : Nat) (hp : k < p.length) (hs : k < s.length) : patB (mkPat d (p.drop k)) (s.drop k) =
    ((if p.getD k 0 = d then digitB ((s.getD k 0).toNat : Int) else decide (s.getD k 0 = p.getD k 0)) && patB (mkPat d (p.drop (k + 1))) (s.drop (k + 1))) := by
  rw [drop_cons p k 0 hp, drop_cons s k 0 hs]
  simp only [mkPat, List.map_cons]
  by_cases h : p.getD k 0 = d
  · rw [if_pos h, if_pos h]; rfl
  · rw [if_neg h, if_neg h]; rfl
theorem patB_end (d : UInt8) (p s : List UInt8) (k : Nat) (hp : p.length ≤ k) : patB (mkPat d (p.drop k)) s = true := by
  rw [List.drop_of_length_le hp]; rfl
theorem patB_append : ∀ (a b : List (Option UInt8)) (l : List UInt8), patB (a ++ b) l = (patB a l && patB b (l.drop a.length))
  | [], b, l => by simp [patB]
  | _ :: _, b, [] => by cases ‹Option UInt8› <;> simp [patB]
  | none :: a, b, c :: l => by simp only [List.cons_append, patB, patB_append a b l, List.length_cons, List.drop_succ_cons, Bool.and_assoc]
  | some x :: a, b, c :: l => by simp only [List.cons_append, patB, patB_append a b l, List.length_cons, List.drop_succ_cons, Bool.and_assoc]

theorem pattern_ok {s p : List UInt8} {st : St} {K : Bool → St → Prop} (hp : p.length ≤ 1000) (hk : K (patB (mkPat 48 p) s) st) : CallT PR fn_tablelex_pattern [.str s, .str p] [.one (.bool)] st K := by
  refine vc_tablelex_pattern s p st K (BIf_intro (fun h => ?_) fun h0 => ⟨fun j s' p' st' => s = s' ∧ p = p' ∧ st = st' ∧ ∃ k : Nat, j = (k : Int) ∧ k ≤ p.length ∧ patB (mkPat 48 (p.drop k)) (s.drop k) = patB (mkPat 48 p) s, fun j _ _ _ => (p.length - j).toNat, ⟨rfl, rfl, rfl, 0, rfl, by omega, rfl⟩, ?_⟩)
  · rw [patB_short _ _ (by simp [mkPat]; omega)] at hk; exact hk
  rintro _ _ _ _ ⟨rfl, rfl, rfl, k, rfl, h1, h2⟩
  have go : (I : Prop) → True := fun _ => trivial
  refine BIf_intro (fun h3 => ?_) fun h3 => ?_
  · have hd := patB_drop 48 p s k (by omega) (by omega)
    have e48 : ∀ x : UInt8, ((x.toNat : Int) = 48) ↔ x = 48 := fun x => byte_eq x 48
    rw [h2] at hd
    rw [show Int.toNat (k : Int) = k from rfl]
    refine ⟨⟨by omega, by omega⟩, BIf_intro (fun h4 => ?_) fun h4 => ?_⟩
    · rw [if_pos ((e48 _).1 h4)] at hd
      refine ⟨⟨by omega, by omega⟩, BIf_intro (fun h5 => ?_) fun h5 => ⟨⟨by omega, by omega⟩, BIf_intro (fun h6 => ?_) fun h6 => ⟨⟨by omega, by omega⟩, BIf_intro (fun h7 => absurd h4 h7) fun _ => ?_⟩⟩⟩
      · have : digitB ((s.getD k 0).toNat : Int) = false := decide_eq_false (by omega)
        rw [this] at hd; rw [hd] at hk; exact hk
      · have : digitB ((s.getD k 0).toNat : Int) = false := decide_eq_false (by omega)
        rw [this] at hd; rw [hd] at hk; exact hk
      · have : digitB ((s.getD k 0).toNat : Int) = true := decide_eq_true (by omega)
        rw [this, Bool.true_and] at hd
        rw [wrap64 _ (by omega) (by omega)]
        exact ⟨⟨rfl, rfl, rfl, k + 1, by omega, by omega, hd.symm⟩, by dsimp only; omega⟩
    · rw [if_neg (fun h => h4 ((e48 _).2 h))] at hd
      refine ⟨⟨by omega, by omega⟩, BIf_intro (fun _ => ⟨⟨by omega, by omega⟩, ⟨⟨by omega, by omega⟩, BIf_intro (fun h5 => ?_) fun h5 => ?_⟩⟩) fun h7 => absurd h4 h7⟩
      · have : decide (s.getD k 0 = p.getD k 0) = false := decide_eq_false (fun h => h5 (by rw [h]))
        rw [this] at hd; rw [hd] at hk; exact hk
      · have : decide (s.getD k 0 = p.getD k 0) = true := decide_eq_true ((byte_eq _ _).1 (Decidable.not_not.1 h5))
        rw [this, Bool.true_and] at hd
        rw [wrap64 _ (by omega) (by omega)]
        exact ⟨⟨rfl, rfl, rfl, k + 1, by omega, by omega, hd.symm⟩, by dsimp only; omega⟩
  · rw [patB_end 48 p _ k (by omega)] at h2
    rw [← h2] at hk; exact hk

theorem like_ok {s p : List UInt8} {st : St} {K : Bool → St → Prop} (hp : p.length ≤ 1000) (hk : K (patB (mkPat 100 p) s) st) : CallT PR fn_datakitref24_like [.str s, .str p] [.one (.bool)] st K := by
  refine vc_datakitref24_like s p st K (BIf_intro (fun h => ?_) fun h0 => ⟨fun j s' p' st' => s = s' ∧ p = p' ∧ st = st' ∧ ∃ k : Nat, j = (k : Int) ∧ k ≤ p.length ∧ patB (mkPat 100 (p.drop k)) (s.drop k) = patB (mkPat 100 p) s, fun j _ _ _ => (p.length - j).toNat, ⟨rfl, rfl, rfl, 0, rfl, by omega, rfl⟩, ?_⟩)
  · rw [patB_short _ _ (by simp [mkPat]; omega)] at hk; exact hk
  rintro _ _ _ _ ⟨rfl, rfl, rfl, k, rfl, h1, h2⟩
  refine BIf_intro (fun h3 => ?_) fun h3 => ?_
  · have hd := patB_drop 100 p s k (by omega) (by omega)
    have e48 : ∀ x : UInt8, ((x.toNat : Int) = 100) ↔ x = 100 := fun x => byte_eq x 100
    rw [h2] at hd
    rw [show Int.toNat (k : Int) = k from rfl]
    refine ⟨⟨by omega, by omega⟩, BIf_intro (fun h4 => ?_) fun h4 => ?_⟩
    · rw [if_pos ((e48 _).1 h4)] at hd
      refine ⟨⟨by omega, by omega⟩, digit_ok (BIf_bool (fun h5 => ?_) fun h5 => ⟨⟨by omega, by omega⟩, BIf_intro (fun h7 => absurd h4 h7) fun _ => ?_⟩)⟩
      · have : digitB ((s.getD k 0).toNat : Int) = false := by simpa using h5
        rw [this] at hd; rw [hd] at hk; exact hk
      · have : digitB ((s.getD k 0).toNat : Int) = true := by simpa using h5
        rw [this, Bool.true_and] at hd
        rw [wrap64 _ (by omega) (by omega)]
        exact ⟨⟨rfl, rfl, rfl, k + 1, by omega, by omega, hd.symm⟩, by dsimp only; omega⟩
    · rw [if_neg (fun h => h4 ((e48 _).2 h))] at hd
      refine ⟨⟨by omega, by omega⟩, BIf_intro (fun _ => ⟨⟨by omega, by omega⟩, ⟨⟨by omega, by omega⟩, BIf_intro (fun h5 => ?_) fun h5 => ?_⟩⟩) fun h7 => absurd h4 h7⟩
      · have : decide (s.getD k 0 = p.getD k 0) = false := decide_eq_false (fun h => h5 (by rw [h]))
        rw [this] at hd; rw [hd] at hk; exact hk
      · have : decide (s.getD k 0 = p.getD k 0) = true := decide_eq_true ((byte_eq _ _).1 (Decidable.not_not.1 h5))
        rw [this, Bool.true_and] at hd
        rw [wrap64 _ (by omega) (by omega)]
        exact ⟨⟨rfl, rfl, rfl, k + 1, by omega, by omega, hd.symm⟩, by dsimp only; omega⟩
  · rw [patB_end 100 p _ k (by omega)] at h2
    rw [← h2] at hk; exact hk
end Go.TVF
