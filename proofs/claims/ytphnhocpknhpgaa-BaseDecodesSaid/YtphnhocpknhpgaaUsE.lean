/- Base: Decode. -/
import Derived.Test.YtphnhocpknhpgaaDefE
set_option linter.unusedVariables false
set_option linter.unusedSimpArgs false
namespace Go.TVF
open Go Go.Proofs

def v64 (c : UInt8) : Nat := (fnd bstr8 c).toNat
theorem wrapU8n (n : Nat) (h : n < 256) : IntKind.wrap .u8 (n : Int) = n := wrapU8 _ (by omega) (by omega)
theorem v64_lt (c : UInt8) : fnd bstr8 c < 64 := fnd_lt bstr8 c
theorem v64_lt' (c : UInt8) : v64 c < 64 := by have := v64_lt c; unfold v64; omega

/-- After n digits: the bytes, and what is left over, and how many bits that is. -/
def DS (s : List UInt8) : Nat → List UInt8 × Nat × Nat
  | 0 => ([], 0, 0)
  | n + 1 =>
    if 8 ≤ (DS s n).2.2 + 6 then ((DS s n).1 ++ [UInt8.ofNat (((DS s n).2.1 * 64 + v64 (s.getD n 0)) / 2 ^ ((DS s n).2.2 - 2))], ((DS s n).2.1 * 64 + v64 (s.getD n 0)) % 2 ^ ((DS s n).2.2 - 2), (DS s n).2.2 - 2)
    else ((DS s n).1, (DS s n).2.1 * 64 + v64 (s.getD n 0), (DS s n).2.2 + 6)

theorem DS_ok (s : List UInt8) : ∀ n, (DS s n).2.1 < 2 ^ (DS s n).2.2 ∧ (DS s n).2.2 < 8 ∧ (DS s n).1.length ≤ n
  | 0 => by simp [DS]
  | n + 1 => by
    obtain ⟨h1, h2, h3⟩ := DS_ok s n
    have hv := v64_lt' (s.getD n 0)
    unfold DS
    split
    · refine ⟨Nat.mod_lt _ (Nat.two_pow_pos _), by dsimp only; omega, by simp; omega⟩
    · refine ⟨?_, by dsimp only; omega, by dsimp only; omega⟩
      show (DS s n).2.1 * 64 + v64 (s.getD n 0) < 2 ^ ((DS s n).2.2 + 6)
      rw [Nat.pow_add]; omega

/-- The end's cases. -/
def fin (k eq w : Nat) (pad : Bool) (o : List UInt8) : List UInt8 × Int :=
  if k % 4 = 0 ∧ eq = 0 then (o, 0)
  else if 0 < eq ∧ (k % 4 < 2 ∨ 4 - k % 4 < eq ∨ w ≠ 0) then ([], 3)
  else if k % 4 = 1 ∨ w ≠ 0 ∨ (pad = true ∧ eq < 4 - k % 4) then ([], 4)
  else (o, 0)

theorem end_ok {k eq w : Nat} {pad : Bool} {out : TV} {st : St} {K : TV → Int → St → Prop} {o : List UInt8} (ho : RdB out o) (hk : ∀ v, RdB v (fin k eq w pad o).1 → K v (fin k eq w pad o).2 st) : decEnd (k : Int) (eq : Int) (w : Int) pad out st K := by
  have h0 : ∀ v, v = out → fin k eq w pad o = (o, 0) → K v 0 st := fun v e h => by
    have := hk v (by rw [h, e]; exact ho)
    rwa [h] at this
  have h3 : fin k eq w pad o = ([], 3) → K .nilSlice 3 st := fun h => by
    have := hk .nilSlice (by rw [h]; exact .inl ⟨rfl, rfl, rfl⟩)
    rwa [h] at this
  have h4 : fin k eq w pad o = ([], 4) → K .nilSlice 4 st := fun h => by
    have := hk .nilSlice (by rw [h]; exact .inl ⟨rfl, rfl, rfl⟩)
    rwa [h] at this
  clear hk
  have htm : Int.tmod (k : Int) 4 = ((k % 4 : Nat) : Int) := by rw [Int.tmod_eq_emod_of_nonneg (by omega)]; rfl
  have hm : k % 4 < 4 := Nat.mod_lt _ (by decide)
  unfold decEnd
  rw [htm, wrap64 (4 - ((k % 4 : Nat) : Int)) (by omega) (by omega)]
  unfold fin at h0 h3 h4
  generalize k % 4 = r at *
  cases pad
  all_goals
    simp only [Bool.false_eq_true, false_and, or_false, true_and] at h0 h3 h4
    repeat' (refine BIf_iff.2 ⟨fun a => ?_, fun a => ?_⟩)
    all_goals
      first
        | (exfalso; exact absurd ‹false = true› (by decide))
        | (exfalso; exact absurd ‹true = false› (by decide))
        | (simp only [decide_eq_true_eq, decide_eq_false_iff_not] at *
           first | refine h0 _ rfl ?_ | refine h3 ?_ | refine h4 ?_
           (repeat' split) <;> first | rfl | (exfalso; omega))

def allEq (s : List UInt8) (k : Nat) (pad : Bool) : Prop := ∀ j, k ≤ j → j < s.length → s.getD j 0 = 61 ∧ pad = true
open Classical in
noncomputable def decP (s : List UInt8) (k : Nat) (pad : Bool) : List UInt8 × Int :=
  if allEq s k pad then fin k (s.length - k) (DS s k).2.1 pad (DS s k).1 else ([], 3)

theorem tail_ok {s : List UInt8} {k : Nat} {pad : Bool} {v : TV} {st : St} {K : TV → Int → St → Prop} (hf : Finds st v bstr8) (hk1 : k ≤ s.length) (hl : (s.length : Int) ≤ 1000000) (hd : ∀ j, j < k → 0 ≤ fnd bstr8 (s.getD j 0))
    (hk : ∀ v' st', StExt st st' → RdB v' (decP s k pad).1 → K v' (decP s k pad).2 st') : decTail (k : Int) s pad v st K := by
  unfold decTail
  rw [wrap64 ((s.length : Int) - k) (by omega) (by omega)]
  refine ⟨fun i s' pad' v' k' eq' st' => s = s' ∧ pad = pad' ∧ v = v' ∧ k' = (k : Int) ∧ eq' = (s.length : Int) - k ∧ st = st' ∧ (k : Int) ≤ i ∧ i ≤ s.length ∧ ∀ j : Nat, k ≤ j → (j : Int) < i → s.getD j 0 = 61 ∧ pad = true, fun i _ _ _ _ _ _ => (s.length - i).toNat, ⟨rfl, rfl, rfl, rfl, rfl, rfl, by omega, by omega, fun j h1 h2 => absurd h2 (by omega)⟩, ?_⟩
  rintro i _ _ _ _ _ _ ⟨rfl, rfl, rfl, rfl, rfl, rfl, h1, h2, h3⟩
  have bad : (∃ j, k ≤ j ∧ j < s.length ∧ ¬ (s.getD j 0 = 61 ∧ pad = true)) → K .nilSlice 3 st := fun ⟨j, j1, j2, j3⟩ => by
    have hn : ¬ allEq s k pad := fun h => j3 (h j j1 j2)
    have := hk .nilSlice st (StExt.refl _) (by rw [decP, if_neg hn]; exact .inl ⟨rfl, rfl, rfl⟩)
    rwa [decP, if_neg hn] at this
  refine BIf_intro (fun h4 => ⟨⟨by omega, h4⟩, BIf_intro (fun h5 => ?_) fun h5 => BIf_iff.2 ⟨fun h6 => ?_, fun h6 => ?_⟩⟩) fun h4 => ?_
  · refine bad ⟨i.toNat, by omega, by omega, fun h => h5 ?_⟩
    rw [h.1]; rfl
  · exact bad ⟨i.toNat, by omega, by omega, fun h => by simp [h.2] at h6⟩
  · have h5' : s.getD i.toNat 0 = 61 := by
      have : ((s.getD i.toNat 0).toNat : Int) = ((61 : UInt8).toNat : Int) := Decidable.byContradiction h5
      exact (byte_eq _ _).1 this
    have hp : pad = true := by cases pad <;> simp_all
    rw [wrap64 (i + 1) (by omega) (by omega)]
    refine ⟨⟨rfl, rfl, rfl, rfl, rfl, rfl, by omega, by omega, fun j j1 j2 => ?_⟩, by dsimp only; omega⟩
    by_cases hji : (j : Int) = i
    · have : j = i.toNat := by omega
      subst this; exact ⟨h5', hp⟩
    · exact h3 j j1 (by omega)
  · have hall : allEq s k pad := fun j j1 j2 => h3 j j1 (by omega)
    refine ⟨fun out w b n s' pad' v' k' eq' n2 st' => s = s' ∧ pad = pad' ∧ v = v' ∧ k' = (k : Int) ∧ eq' = (s.length : Int) - k ∧ n2 = (k : Int) ∧ 0 ≤ n ∧ n ≤ k ∧ StExt st st' ∧ OwnB st.nt st' out (DS s n.toNat).1 ∧ w = ((DS s n.toNat).2.1 : Nat) ∧ b = ((DS s n.toNat).2.2 : Nat), fun _ _ _ n _ _ _ _ _ _ _ => (k - n).toNat, ⟨rfl, rfl, rfl, rfl, rfl, rfl, by omega, by omega, StExt.refl _, OwnB.nil _ _, rfl, rfl⟩, ?_⟩
    rintro out w b n _ _ _ _ _ _ st' ⟨rfl, rfl, rfl, rfl, rfl, rfl, g1, g2, e, hown, rfl, rfl⟩
    obtain ⟨d1, d2, d3⟩ := DS_ok s n.toNat
    refine BIf_intro (fun g3 => ⟨⟨g1, by omega⟩, value_ok (hf.ext e) (by decide) ?_⟩) fun g3 => ?_
    · have hv0 := hd n.toNat (by omega)
      have hv := v64_lt (s.getD n.toNat 0)
      have hvN : fnd bstr8 (s.getD n.toNat 0) = (v64 (s.getD n.toNat 0) : Nat) := by unfold v64; omega
      have hv2 := v64_lt' (s.getD n.toNat 0)
      have hw2 : (DS s n.toNat).2.1 < 2 ^ 7 := Nat.lt_of_lt_of_le d1 (Nat.pow_le_pow_right (by decide) (by omega))
      have hor := or_add (DS s n.toNat).2.1 (v64 (s.getD n.toNat 0)) 6 (by omega) (by omega)
      have hstep : DS s (n.toNat + 1) = if 8 ≤ (DS s n.toNat).2.2 + 6 then ((DS s n.toNat).1 ++ [UInt8.ofNat (((DS s n.toNat).2.1 * 64 + v64 (s.getD n.toNat 0)) / 2 ^ ((DS s n.toNat).2.2 - 2))], ((DS s n.toNat).2.1 * 64 + v64 (s.getD n.toNat 0)) % 2 ^ ((DS s n.toNat).2.2 - 2), (DS s n.toNat).2.2 - 2)
        else ((DS s n.toNat).1, (DS s n.toNat).2.1 * 64 + v64 (s.getD n.toNat 0), (DS s n.toNat).2.2 + 6) := rfl
      have hor' : bitsI .or .i64 (((DS s n.toNat).2.1 : Nat) * 64 : Int) (v64 (s.getD n.toNat 0) : Nat) = (((DS s n.toNat).2.1 * 64 + v64 (s.getD n.toNat 0) : Nat) : Int) := by
        rw [← show ((2 : Nat) ^ 6) = 64 from rfl, ← hor]; congr 1
      rw [wrap64 (((DS s n.toNat).2.2 : Nat) + 6 : Int) (by omega) (by omega), wrap64 (n + 1) (by omega) (by omega), pow6, wrap64 (((DS s n.toNat).2.1 : Nat) * 64 : Int) (by omega) (by omega), hvN, hor']
      have hn1 : (n + 1).toNat = n.toNat + 1 := by omega
      generalize hX : (DS s n.toNat).2.1 * 64 + v64 (s.getD n.toNat 0) = X at *
      have hX8 : X < 2 ^ ((DS s n.toNat).2.2 + 6) := by rw [← hX, Nat.pow_add]; omega
      have hXs : X < 2 ^ 14 := Nat.lt_of_lt_of_le hX8 (Nat.pow_le_pow_right (by decide) (by omega))
      refine BIf_intro (fun g4 => ?_) fun g4 => ?_
      · rw [wrap64 (((DS s n.toNat).2.2 : Nat) + 6 - 8 : Int) (by omega) (by omega)]
        have hb : (((DS s n.toNat).2.2 : Nat) + 6 - 8 : Int).toNat = (DS s n.toNat).2.2 - 2 := by omega
        rw [hb, shr_i64 _ _ (by omega)]
        have hq : X / 2 ^ ((DS s n.toNat).2.2 - 2) < 256 := by
          rw [Nat.div_lt_iff_lt_mul (Nat.two_pow_pos _), show (256 : Nat) = 2 ^ 8 from rfl, ← Nat.pow_add, show 8 + ((DS s n.toNat).2.2 - 2) = (DS s n.toNat).2.2 + 6 by omega]
          exact hX8
        refine need_intro (decide_eq_true (by omega)) ?_
        rw [wrapU8n _ hq, ← byteOf _ hq]
        refine appK_bytes (ys := [UInt8.ofNat (X / 2 ^ ((DS s n.toNat).2.2 - 2))]) e hown (by simp; omega) fun v2 st2 e2 _ hown2 => need_intro (decide_eq_true (by omega)) ?_
        have hmask : IntKind.i64.wrap (IntKind.i64.wrap ((1 : Int) * 2 ^ (min ((DS s n.toNat).2.2 - 2) (IntKind.bits .i64))) - 1) = ((2 ^ ((DS s n.toNat).2.2 - 2) - 1 : Nat) : Int) := by
          have hp : 2 ^ ((DS s n.toNat).2.2 - 2) ≤ 2 ^ 6 := Nat.pow_le_pow_right (by decide) (by omega)
          have hp1 : 0 < 2 ^ ((DS s n.toNat).2.2 - 2) := Nat.two_pow_pos _
          rw [show min ((DS s n.toNat).2.2 - 2) (IntKind.bits .i64) = (DS s n.toNat).2.2 - 2 from Nat.min_eq_left (by show _ ≤ 64; omega), show (2 : Int) ^ ((DS s n.toNat).2.2 - 2) = ((2 ^ ((DS s n.toNat).2.2 - 2) : Nat) : Int) by simp]
          generalize 2 ^ ((DS s n.toNat).2.2 - 2) = Y at *
          rw [wrap64 (1 * (Y : Int)) (by omega) (by omega), wrap64 (1 * (Y : Int) - 1) (by omega) (by omega)]; omega
        rw [hmask, and_mask X _ (by omega) (by omega)]
        rw [if_pos (by omega)] at hstep
        refine ⟨⟨rfl, rfl, rfl, rfl, rfl, rfl, by omega, by omega, e2, ?_, ?_, ?_⟩, by dsimp only; omega⟩
        · rw [hn1, hstep]; exact hown2
        · rw [hn1, hstep]
        · rw [hn1, hstep]; dsimp only; omega
      · rw [if_neg (by omega)] at hstep
        refine ⟨⟨rfl, rfl, rfl, rfl, rfl, rfl, by omega, by omega, e, ?_, ?_, ?_⟩, by dsimp only; omega⟩
        · rw [hn1, hstep]; exact hown
        · rw [hn1, hstep]
        · rw [hn1, hstep]; dsimp only; omega
    · have hn : n.toNat = k := by omega
      rw [hn] at hown ⊢
      rw [show (s.length : Int) - k = ((s.length - k : Nat) : Int) by omega]
      refine end_ok hown.rd fun v' hv' => ?_
      have := hk v' st' e
      rw [decP, if_pos hall] at this
      exact this hv'

def isD (c : UInt8) : Bool := decide (0 ≤ fnd bstr8 c)
def lead (s : List UInt8) : Nat := (s.takeWhile isD).length
theorem lead_at : ∀ (s : List UInt8) (k : Nat), k ≤ s.length → (∀ j, j < k → 0 ≤ fnd bstr8 (s.getD j 0)) → (k = s.length ∨ ¬ 0 ≤ fnd bstr8 (s.getD k 0)) → lead s = k
  | [], k, h, _, _ => by simp at h; subst h; rfl
  | a :: s, 0, _, _, h => by
    have : ¬ 0 ≤ fnd bstr8 a := by simpa [List.getD] using h
    simp [lead, isD, List.takeWhile, this]
  | a :: s, k + 1, h1, h2, h3 => by
    have ha : 0 ≤ fnd bstr8 a := by simpa [List.getD] using h2 0 (by omega)
    have := lead_at s k (by simpa using h1) (fun j hj => by simpa [List.getD] using h2 (j + 1) (by omega)) (by simpa [List.getD] using h3)
    simp only [lead] at this ⊢
    simp [isD, List.takeWhile, ha]
    exact this

theorem dec_ok {s : List UInt8} {pad : Bool} {st : St} {K : TV → Int → St → Prop} (hl : (s.length : Int) ≤ 1000000) (hk : ∀ v st', StExt st st' → RdB v (decP s (lead s) pad).1 → K v (decP s (lead s) pad).2 st') : CallT Try.prog 33 [.str s, .bool pad] [.one (.tv), .one (.int .i64)] st K := by
  refine vc33 s pad st K (finder_ok fun v st1 e1 hf => ?_)
  refine ⟨fun k s' pad' v' st' => s = s' ∧ pad = pad' ∧ v = v' ∧ st1 = st' ∧ 0 ≤ k ∧ k ≤ s.length ∧ ∀ j : Nat, (j : Int) < k → 0 ≤ fnd bstr8 (s.getD j 0), fun k _ _ _ _ => (s.length - k).toNat, ⟨rfl, rfl, rfl, rfl, by omega, by omega, fun j h => absurd h (by omega)⟩, ?_⟩
  rintro k _ _ _ _ ⟨rfl, rfl, rfl, rfl, h1, h2, h3⟩
  have stop : ((k.toNat = s.length) ∨ ¬ 0 ≤ fnd bstr8 (s.getD k.toNat 0)) → decTail k s pad v st1 K := fun hs => by
    have hle := lead_at s k.toNat (by omega) (fun j hj => h3 j (by omega)) hs
    rw [hle] at hk
    have := tail_ok (pad := pad) (K := K) hf (show k.toNat ≤ s.length by omega) hl (fun j hj => h3 j (by omega)) (fun v' st' e' hv' => hk v' st' (e1.trans e') hv')
    rwa [show ((k.toNat : Nat) : Int) = k by omega] at this
  refine BIf_intro (fun h4 => ⟨⟨h1, h4⟩, value_ok hf (by decide) (BIf_intro (fun h5 => ?_) fun h5 => ?_)⟩) fun h4 => ?_
  · rw [wrap64 (k + 1) (by omega) (by omega)]
    refine ⟨⟨rfl, rfl, rfl, rfl, by omega, by omega, fun j hj => ?_⟩, by dsimp only; omega⟩
    by_cases hji : (j : Int) = k
    · have : j = k.toNat := by omega
      subst this; exact h5
    · exact h3 j (by omega)
  · exact stop (.inr h5)
  · exact stop (.inl (by omega))
end Go.TVF
