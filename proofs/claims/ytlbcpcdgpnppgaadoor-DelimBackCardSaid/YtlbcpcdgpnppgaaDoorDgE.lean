/- What the laws below rest on: a framework for Go programs, and contracts of the functions that they reach. -/
import Derived.Test.YtlbcpcdgpnppgaaDoorDgD
section
set_option linter.unusedVariables false
set_option linter.unusedSimpArgs false
namespace Go.TVF
open Go Go.Proofs
/-- What a first byte announces: the size (0: none), and its bits. -/
def hdS (b : Nat) : Nat := if b < 128 then 1 else if 192 ≤ b ∧ b < 224 then 2 else if 224 ≤ b ∧ b < 240 then 3 else if 240 ≤ b ∧ b < 248 then 4 else 0
def hdB (b : Nat) : Nat := if b < 128 then b else if 192 ≤ b ∧ b < 224 then b % 32 else if 224 ≤ b ∧ b < 240 then b % 16 else if 240 ≤ b ∧ b < 248 then b % 8 else 0
def wid (r : Nat) : Nat := if r < 128 then 1 else if r < 2048 then 2 else if r < 65536 then 3 else 4
theorem and_mask8 (a m : Nat) (ha : a < 256) (hm : m ≤ 8) : bitsI .and .u8 (a : Int) ((2 ^ m - 1 : Nat) : Int) = ((a % 2 ^ m : Nat) : Int) := by
  have : 2 ^ m ≤ 2 ^ 8 := Nat.pow_le_pow_right (by decide) hm
  rw [and_u8 _ _ ha (by omega), Nat.and_two_pow_sub_one_eq_mod]
theorem head_ok {B : Int} {b : Nat} {st : St} {K : Int → Int → St → Prop} (hB : B = (b : Int)) (hb : b < 256) (hk : K (hdS b : Nat) (hdB b : Nat) st) : CallT PR fn_utf_head [.int .u8 B] [.one (.int .i64), .one (.int .i64)] st K := by
  have m31 : bitsI .and .u8 B (31 : Int) = ((b % 32 : Nat) : Int) := by rw [hB]; exact and_mask8 b 5 hb (by decide)
  have m15 : bitsI .and .u8 B (15 : Int) = ((b % 16 : Nat) : Int) := by rw [hB]; exact and_mask8 b 4 hb (by decide)
  have m7 : bitsI .and .u8 B (7 : Int) = ((b % 8 : Nat) : Int) := by rw [hB]; exact and_mask8 b 3 hb (by decide)
  unfold hdS hdB at hk
  have kk : ∀ (x y x' y' : Int), x = x' → y = y' → K x' y' st → K x y st := fun x y x' y' h1 h2 hk => by rw [h1, h2]; exact hk
  refine vc_utf_head B st K ?_
  rw [m31, m15, m7, wrap64 B (by omega) (by omega), wrap64 ((b % 32 : Nat) : Int) (by omega) (by omega), wrap64 ((b % 16 : Nat) : Int) (by omega) (by omega), wrap64 ((b % 8 : Nat) : Int) (by omega) (by omega)]
  by_cases g1 : b < 128
  · rw [if_pos g1, if_pos g1] at hk
    exact BIf_intro (fun _ => kk _ _ _ _ rfl hB hk) fun h => by omega
  rw [if_neg g1, if_neg g1] at hk
  refine BIf_intro (fun h => by omega) fun _ => ?_
  by_cases g2 : 192 ≤ b ∧ b < 224
  · rw [if_pos g2, if_pos g2] at hk
    exact BIf_intro (fun _ => BIf_intro (fun _ => hk) fun h => by omega) fun h => by omega
  rw [if_neg g2, if_neg g2] at hk
  by_cases g3 : 224 ≤ b ∧ b < 240
  · rw [if_pos g3, if_pos g3] at hk
    refine BIf_intro (fun _ => BIf_intro (fun h => by omega) fun _ => ?_) fun h => by omega
    exact BIf_intro (fun _ => BIf_intro (fun _ => hk) fun h => by omega) fun h => by omega
  rw [if_neg g3, if_neg g3] at hk
  by_cases g4 : 240 ≤ b ∧ b < 248
  · rw [if_pos g4, if_pos g4] at hk
    refine BIf_intro (fun _ => BIf_intro (fun h => by omega) fun _ => ?_) fun h => by omega
    refine BIf_intro (fun _ => BIf_intro (fun h => by omega) fun _ => ?_) fun h => by omega
    exact BIf_intro (fun _ => BIf_intro (fun _ => hk) fun h => by omega) fun h => by omega
  rw [if_neg g4, if_neg g4] at hk
  repeat' first
    | exact hk
    | omega
    | refine BIf_intro (fun _ => ?_) fun _ => ?_
theorem scalar_ok {R : Int} {r : Nat} {st : St} {K : Bool → St → Prop} (hR : R = (r : Int)) (hk : K (decide (isChar r)) st) : CallT PR fn_utf_scalar [.int .i64 R] [.one (.bool)] st K := by
  unfold isChar at hk
  refine vc_utf_scalar R st K (BIf_intro (fun _ => BIf_intro (fun h2 => BIf_intro (fun h3 => ?_) fun h3 => ?_) fun h2 => ?_) fun h1 => by omega)
  · exact K_eq (decide_eq_true (by omega)).symm hk
  · exact K_eq (decide_eq_decide.2 (by omega)) hk
  · exact K_eq (decide_eq_false (by omega)).symm hk
theorem width_ok {R : Int} {r : Nat} {st : St} {K : Int → St → Prop} (hR : R = (r : Int)) (hk : K (wid r : Nat) st) : CallT PR fn_utf_width [.int .i64 R] [.one (.int .i64)] st K := by
  unfold wid at hk
  refine vc_utf_width R st K (BIf_intro (fun h1 => ?_) fun h1 => BIf_intro (fun h2 => ?_) fun h2 => BIf_intro (fun h3 => ?_) fun h3 => ?_)
  · rw [if_pos (by omega)] at hk; exact hk
  · rw [if_neg (by omega), if_pos (by omega)] at hk; exact hk
  · rw [if_neg (by omega), if_neg (by omega), if_pos (by omega)] at hk; exact hk
  · rw [if_neg (by omega), if_neg (by omega), if_neg (by omega)] at hk; exact hk
/-- The program's test of a character, as arithmetic. -/
def pdOk (l : List UInt8) : Prop := hdS (bt l 0) ≠ 0 ∧ hdS (bt l 0) ≤ l.length ∧ (∀ j, 1 ≤ j → j < hdS (bt l 0) → bt l j / 64 = 2) ∧ isChar (racc l (hdB (bt l 0)) (hdS (bt l 0) - 1)) ∧ wid (racc l (hdB (bt l 0)) (hdS (bt l 0) - 1)) = hdS (bt l 0)
theorem pd_val (l : List UInt8) (h : l ≠ []) (hp : pdOk l) : ul l = hdS (bt l 0) ∧ ur l = racc l (hdB (bt l 0)) (hdS (bt l 0) - 1) := by
  obtain ⟨p1, p2, p3, p4, p5⟩ := hp
  have e := refU_eq l h
  have h0 := bt_lt l 0
  have e0 : (l.getD 0 0).toNat = bt l 0 := rfl
  have e1 : (l.getD 1 0).toNat = bt l 1 := rfl
  have e2 : (l.getD 2 0).toNat = bt l 2 := rfl
  have e3 : (l.getD 3 0).toNat = bt l 3 := rfl
  have fin : ∀ n r, rsz (bt l 0) = n → rb0 (bt l 0) = r → n = hdS (bt l 0) → r = hdB (bt l 0) → encU (racc l r (n - 1)) = l.take n → ul l = hdS (bt l 0) ∧ ur l = racc l (hdB (bt l 0)) (hdS (bt l 0) - 1) := by
    intro n r hn hr hn2 hr2 henc
    unfold refU at e
    simp only [hn, hr] at e
    rw [if_neg (by omega), if_pos ⟨by rw [hr2, hn2]; exact p4, henc⟩] at e
    by_cases hz : ul l = 0
    · rw [if_pos hz] at e; simp only [Prod.mk.injEq] at e; omega
    · rw [if_neg hz] at e; simp only [Prod.mk.injEq] at e
      exact ⟨by omega, by rw [← hr2, ← hn2]; exact e.1.symm⟩
  have h1 := bt_lt l 1
  have h2 := bt_lt l 2
  have h3 := bt_lt l 3
  by_cases g1 : bt l 0 < 128
  · have hs : hdS (bt l 0) = 1 := by unfold hdS; rw [if_pos g1]
    have hb : hdB (bt l 0) = bt l 0 := by unfold hdB; rw [if_pos g1]
    refine fin 1 (bt l 0) (by unfold rsz; rw [if_neg (by omega), if_neg (by omega), if_neg (by omega)]) (by unfold rb0; rw [if_neg (by omega), if_neg (by omega), if_neg (by omega)]) hs.symm hb.symm ?_
    rw [take_one l (by omega)]
    simp only [Nat.sub_self, racc]
    unfold encU
    rw [if_pos g1]
    simp only [cons_eq2, ofNat_eq, e0, and_true]
    omega
  by_cases g2 : 192 ≤ bt l 0 ∧ bt l 0 < 224
  · have hs : hdS (bt l 0) = 2 := by unfold hdS; rw [if_neg g1, if_pos g2]
    have hb : hdB (bt l 0) = bt l 0 % 32 := by unfold hdB; rw [if_neg g1, if_pos g2]
    rw [hs] at p3 p5
    rw [hb] at p5
    have q1 := p3 1 (by omega) (by omega)
    refine fin 2 (bt l 0 % 32) (by unfold rsz; rw [if_neg (by omega), if_neg (by omega), if_pos (by omega)]) (by unfold rb0; rw [if_neg (by omega), if_neg (by omega), if_pos (by omega)]) hs.symm hb.symm ?_
    rw [take_two l (by omega)]
    simp only [Nat.reduceSub, racc, Nat.zero_add] at p5 ⊢
    generalize bt l 0 = b0 at *
    generalize bt l 1 = b1 at *
    unfold wid at p5
    unfold encU
    by_cases k1 : b0 % 32 * 64 + b1 % 64 < 128
    · rw [if_pos k1] at p5; omega
    rw [if_neg k1] at p5 ⊢
    by_cases k2 : b0 % 32 * 64 + b1 % 64 < 2048
    · rw [if_pos k2]
      simp only [cons_eq2, ofNat_eq, e0, e1, and_true]
      omega
    · rw [if_neg k2] at p5; split at p5 <;> omega
  by_cases g3 : 224 ≤ bt l 0 ∧ bt l 0 < 240
  · have hs : hdS (bt l 0) = 3 := by unfold hdS; rw [if_neg g1, if_neg g2, if_pos g3]
    have hb : hdB (bt l 0) = bt l 0 % 16 := by unfold hdB; rw [if_neg g1, if_neg g2, if_pos g3]
    rw [hs] at p3 p5
    rw [hb] at p5
    have q1 := p3 1 (by omega) (by omega)
    have q2 := p3 2 (by omega) (by omega)
    refine fin 3 (bt l 0 % 16) (by unfold rsz; rw [if_neg (by omega), if_pos (by omega)]) (by unfold rb0; rw [if_neg (by omega), if_pos (by omega)]) hs.symm hb.symm ?_
    rw [take_three l (by omega)]
    simp only [Nat.reduceSub, racc, Nat.zero_add, Nat.reduceAdd] at p5 ⊢
    generalize bt l 0 = b0 at *
    generalize bt l 1 = b1 at *
    generalize bt l 2 = b2 at *
    generalize hr : (b0 % 16 * 64 + b1 % 64) * 64 + b2 % 64 = r at *
    unfold wid at p5
    unfold encU
    by_cases k1 : r < 128
    · rw [if_pos k1] at p5; omega
    rw [if_neg k1] at p5 ⊢
    by_cases k2 : r < 2048
    · rw [if_pos k2] at p5; omega
    rw [if_neg k2] at p5 ⊢
    by_cases k3 : r < 65536
    · rw [if_pos k3]
      simp only [cons_eq2, ofNat_eq, e0, e1, e2, and_true]
      omega
    · rw [if_neg k3] at p5; omega
  by_cases g4 : 240 ≤ bt l 0 ∧ bt l 0 < 248
  · have hs : hdS (bt l 0) = 4 := by unfold hdS; rw [if_neg g1, if_neg g2, if_neg g3, if_pos g4]
    have hb : hdB (bt l 0) = bt l 0 % 8 := by unfold hdB; rw [if_neg g1, if_neg g2, if_neg g3, if_pos g4]
    rw [hs] at p3 p4 p5
    rw [hb] at p4 p5
    have q1 := p3 1 (by omega) (by omega)
    have q2 := p3 2 (by omega) (by omega)
    have q3 := p3 3 (by omega) (by omega)
    refine fin 4 (bt l 0 % 8) (by unfold rsz; rw [if_pos (by omega)]) (by unfold rb0; rw [if_pos (by omega)]) hs.symm hb.symm ?_
    rw [take_four l (by omega)]
    simp only [Nat.reduceSub, racc, Nat.zero_add, Nat.reduceAdd] at p4 p5 ⊢
    generalize bt l 0 = b0 at *
    generalize bt l 1 = b1 at *
    generalize bt l 2 = b2 at *
    generalize bt l 3 = b3 at *
    generalize hr : ((b0 % 8 * 64 + b1 % 64) * 64 + b2 % 64) * 64 + b3 % 64 = r at *
    unfold wid at p5
    unfold encU
    by_cases k1 : r < 128
    · rw [if_pos k1] at p5; omega
    rw [if_neg k1] at p5 ⊢
    by_cases k2 : r < 2048
    · rw [if_pos k2] at p5; omega
    rw [if_neg k2] at p5 ⊢
    by_cases k3 : r < 65536
    · rw [if_pos k3] at p5; omega
    rw [if_neg k3]
    have := p4.1
    simp only [cons_eq2, ofNat_eq, e0, e1, e2, e3, and_true]
    omega
  · exfalso
    unfold hdS at p1
    rw [if_neg g1, if_neg g2, if_neg g3, if_neg g4] at p1
    exact p1 rfl
theorem pd_iff (l : List UInt8) (h : l ≠ []) : ul l ≠ 0 → pdOk l := by
  intro hu
  have e := refU_eq l h
  rw [if_neg hu] at e
  have h0 := bt_lt l 0
  have e0 : (l.getD 0 0).toNat = bt l 0 := rfl
  have e1 : (l.getD 1 0).toNat = bt l 1 := rfl
  have e2 : (l.getD 2 0).toNat = bt l 2 := rfl
  have e3 : (l.getD 3 0).toNat = bt l 3 := rfl
  have h1 := bt_lt l 1
  have h2 := bt_lt l 2
  have h3 := bt_lt l 3
  have hc : ¬ l.length < rsz (bt l 0) ∧ isChar (racc l (rb0 (bt l 0)) (rsz (bt l 0) - 1)) ∧ encU (racc l (rb0 (bt l 0)) (rsz (bt l 0) - 1)) = l.take (rsz (bt l 0)) := by
    unfold refU at e
    simp only at e
    split at e
    · simp only [Prod.mk.injEq] at e; omega
    · split at e
      · rename_i a b; exact ⟨a, b⟩
      · simp only [Prod.mk.injEq] at e; omega
  obtain ⟨hl, hch, henc⟩ := hc
  by_cases g4 : 240 ≤ bt l 0
  · have r4 : rsz (bt l 0) = 4 := by unfold rsz; rw [if_pos g4]
    have rb : rb0 (bt l 0) = bt l 0 % 8 := by unfold rb0; rw [if_pos g4]
    rw [r4, rb] at henc hch
    rw [r4] at hl
    rw [take_four l (by omega)] at henc
    unfold pdOk hdS hdB
    simp only [Nat.reduceSub, racc, Nat.zero_add, Nat.reduceAdd] at henc hch
    generalize hb0 : bt l 0 = b0 at *
    generalize hb1 : bt l 1 = b1 at *
    generalize hb2 : bt l 2 = b2 at *
    generalize hb3 : bt l 3 = b3 at *
    have hr0 : ∃ r, r = ((b0 % 8 * 64 + b1 % 64) * 64 + b2 % 64) * 64 + b3 % 64 := ⟨_, rfl⟩
    obtain ⟨r, hr⟩ := hr0
    rw [← hr] at henc hch
    have hmax := hch.1
    unfold encU at henc
    have hw : wid r = 4 ∧ b0 = 240 + r / 262144 ∧ b1 / 64 = 2 ∧ b2 / 64 = 2 ∧ b3 / 64 = 2 := by
      unfold wid
      split at henc
      · simp at henc
      · split at henc
        · simp at henc
        · split at henc
          · simp at henc
          · simp only [cons_eq2, ofNat_eq, e0, e1, e2, e3, and_true] at henc
            refine ⟨by rw [if_neg ‹_›, if_neg ‹_›, if_neg ‹_›], by omega, by omega, by omega, by omega⟩
    rw [if_neg (show ¬ b0 < 128 by omega), if_neg (show ¬ (192 ≤ b0 ∧ b0 < 224) by omega), if_neg (show ¬ (224 ≤ b0 ∧ b0 < 240) by omega), if_pos (show 240 ≤ b0 ∧ b0 < 248 by omega), if_neg (show ¬ b0 < 128 by omega), if_neg (show ¬ (192 ≤ b0 ∧ b0 < 224) by omega), if_neg (show ¬ (224 ≤ b0 ∧ b0 < 240) by omega), if_pos (show 240 ≤ b0 ∧ b0 < 248 by omega)]
    simp only [Nat.reduceSub, racc, Nat.zero_add, Nat.reduceAdd, hb1, hb2, hb3]
    rw [← hr]
    refine ⟨by omega, by omega, fun j j1 j2 => ?_, hch, hw.1⟩
    have : j = 1 ∨ j = 2 ∨ j = 3 := by omega
    rcases this with rfl | rfl | rfl <;> omega
  by_cases g3 : 224 ≤ bt l 0
  · have r4 : rsz (bt l 0) = 3 := by unfold rsz; rw [if_neg g4, if_pos g3]
    have rb : rb0 (bt l 0) = bt l 0 % 16 := by unfold rb0; rw [if_neg g4, if_pos g3]
    rw [r4, rb] at henc hch
    rw [r4] at hl
    rw [take_three l (by omega)] at henc
    unfold pdOk hdS hdB
    simp only [Nat.reduceSub, racc, Nat.zero_add, Nat.reduceAdd] at henc hch
    generalize hb0 : bt l 0 = b0 at *
    generalize hb1 : bt l 1 = b1 at *
    generalize hb2 : bt l 2 = b2 at *
    have hr0 : ∃ r, r = (b0 % 16 * 64 + b1 % 64) * 64 + b2 % 64 := ⟨_, rfl⟩
    obtain ⟨r, hr⟩ := hr0
    rw [← hr] at henc hch
    unfold encU at henc
    have hw : wid r = 3 ∧ b1 / 64 = 2 ∧ b2 / 64 = 2 := by
      unfold wid
      split at henc
      · simp at henc
      · split at henc
        · simp at henc
        · split at henc
          · simp only [cons_eq2, ofNat_eq, e0, e1, e2, and_true] at henc
            refine ⟨by rw [if_neg ‹_›, if_neg ‹_›, if_pos ‹_›], by omega, by omega⟩
          · simp at henc
    rw [if_neg (show ¬ b0 < 128 by omega), if_neg (show ¬ (192 ≤ b0 ∧ b0 < 224) by omega), if_pos (show 224 ≤ b0 ∧ b0 < 240 by omega), if_neg (show ¬ b0 < 128 by omega), if_neg (show ¬ (192 ≤ b0 ∧ b0 < 224) by omega), if_pos (show 224 ≤ b0 ∧ b0 < 240 by omega)]
    simp only [Nat.reduceSub, racc, Nat.zero_add, Nat.reduceAdd, hb1, hb2]
    rw [← hr]
    refine ⟨by omega, by omega, fun j j1 j2 => ?_, hch, hw.1⟩
    have : j = 1 ∨ j = 2 := by omega
    rcases this with rfl | rfl <;> omega
  by_cases g2 : 192 ≤ bt l 0
  · have r4 : rsz (bt l 0) = 2 := by unfold rsz; rw [if_neg g4, if_neg g3, if_pos g2]
    have rb : rb0 (bt l 0) = bt l 0 % 32 := by unfold rb0; rw [if_neg g4, if_neg g3, if_pos g2]
    rw [r4, rb] at henc hch
    rw [r4] at hl
    rw [take_two l (by omega)] at henc
    unfold pdOk hdS hdB
    simp only [Nat.reduceSub, racc, Nat.zero_add, Nat.reduceAdd] at henc hch
    generalize hb0 : bt l 0 = b0 at *
    generalize hb1 : bt l 1 = b1 at *
    have hr0 : ∃ r, r = b0 % 32 * 64 + b1 % 64 := ⟨_, rfl⟩
    obtain ⟨r, hr⟩ := hr0
    rw [← hr] at henc hch
    unfold encU at henc
    have hw : wid r = 2 ∧ b1 / 64 = 2 := by
      unfold wid
      split at henc
      · simp at henc
      · split at henc
        · simp only [cons_eq2, ofNat_eq, e0, e1, and_true] at henc
          refine ⟨by rw [if_neg ‹_›, if_pos ‹_›], by omega⟩
        · split at henc <;> simp at henc
    rw [if_neg (show ¬ b0 < 128 by omega), if_pos (show 192 ≤ b0 ∧ b0 < 224 by omega), if_neg (show ¬ b0 < 128 by omega), if_pos (show 192 ≤ b0 ∧ b0 < 224 by omega)]
    simp only [Nat.reduceSub, racc, Nat.zero_add, hb1]
    rw [← hr]
    refine ⟨by omega, by omega, fun j j1 j2 => ?_, hch, hw.1⟩
    have : j = 1 := by omega
    subst this; omega
  · have r4 : rsz (bt l 0) = 1 := by unfold rsz; rw [if_neg g4, if_neg g3, if_neg g2]
    have rb : rb0 (bt l 0) = bt l 0 := by unfold rb0; rw [if_neg g4, if_neg g3, if_neg g2]
    rw [r4, rb] at henc hch
    rw [r4] at hl
    rw [take_one l (by omega)] at henc
    unfold pdOk hdS hdB
    simp only [Nat.sub_self, racc] at henc hch
    generalize hb0 : bt l 0 = b0 at *
    have hlt : b0 < 128 := by
      unfold encU at henc
      split at henc
      · assumption
      · split at henc
        · simp at henc
        · split at henc <;> simp at henc
    rw [if_pos hlt, if_pos hlt]
    simp only [Nat.sub_self, racc]
    refine ⟨by omega, by omega, fun j j1 j2 => by omega, hch, by unfold wid; rw [if_pos hlt]⟩
theorem uDecode_ok {s : List UInt8} {I : Int} {i : Nat} {st : St} {K : Int → Int → St → Prop} (hI : I = (i : Int)) (hl : s.length ≤ 2000000) (hi : i ≤ s.length) (hk : K ((rD (s.drop i)).1 : Nat) ((rD (s.drop i)).2 : Nat) st) :
    CallT PR fn_utf_Decode [.str s, .int .i64 I] [.one (.int .i64), .one (.int .i64)] st K := by
  have no : ¬ pdOk (s.drop i) → s.drop i ≠ [] → K 0 0 st := fun h hne => by
    have : ul (s.drop i) = 0 := Decidable.byContradiction fun h0 => h (pd_iff _ hne h0)
    unfold rD at hk
    rw [if_pos this] at hk; exact hk
  have yes : pdOk (s.drop i) → s.drop i ≠ [] → K (racc (s.drop i) (hdB (bt (s.drop i) 0)) (hdS (bt (s.drop i) 0) - 1) : Nat) (hdS (bt (s.drop i) 0) : Nat) st := fun h hne => by
    have hv := pd_val _ hne h
    unfold rD at hk
    rw [if_neg (by rw [hv.1]; exact h.1), hv.1, hv.2] at hk
    exact hk
  have hlen : (s.drop i).length = s.length - i := by simp
  have hb : ∀ j, bt (s.drop i) j = (s.getD (i + j) 0).toNat := bt_drop s i
  refine vc_utf_Decode s I st K (BIf_intro (fun h => by omega) fun _ => BIf_intro (fun h => ?_) fun h => ⟨⟨by omega, by omega⟩, ?_⟩)
  · have : s.drop i = [] := List.drop_of_length_le (by omega)
    have h0 : rD (s.drop i) = (0, 0) := by rw [this]; simp [rD, ul]
    rw [h0] at hk; exact hk
  have hne : s.drop i ≠ [] := by
    intro h0
    have := congrArg List.length h0
    rw [hlen] at this; simp only [List.length_nil] at this; omega
  have hb0 : (List.getD s (Int.toNat I) 0).toNat = bt (s.drop i) 0 := by rw [hb, hI]; rfl
  have hlt := bt_lt (s.drop i) 0
  rw [hb0]
  refine head_ok rfl hlt ?_
  have hsz : hdS (bt (s.drop i) 0) ≤ 4 := by unfold hdS; repeat' split
                                             all_goals omega
  have hbz : hdB (bt (s.drop i) 0) < 256 := by unfold hdB; repeat' split
                                               all_goals omega
  unfold pdOk at no yes
  generalize hdS (bt (s.drop i) 0) = n at *
  generalize hdB (bt (s.drop i) 0) = r0 at *
  rw [wrap64 _ (by omega) (by omega)]
  refine BIf_intro (fun g => no (fun hh => hh.1 (by omega)) hne) fun g1 => BIf_intro (fun g => no (fun hh => by omega) hne) fun g2 => ?_
  have hra := racc_lt (s.drop i) r0 hbz
  refine ⟨fun r j s' at' sz st2 => s = s' ∧ I = at' ∧ st = st2 ∧ ((n : Nat) : Int) = sz ∧ ∃ k : Nat, j = ((k + 1 : Nat) : Int) ∧ k + 1 ≤ n ∧ r = ((racc (s.drop i) r0 k : Nat) : Int) ∧ ∀ m, 1 ≤ m → m ≤ k → bt (s.drop i) m / 64 = 2, fun _ j _ _ sz _ => (sz - j).toNat, ⟨rfl, rfl, rfl, rfl, 0, rfl, by omega, rfl, fun m h1 h2 => by omega⟩, ?_⟩
  rintro _ _ _ _ _ _ ⟨rfl, rfl, rfl, rfl, k, rfl, hk1, rfl, hall⟩
  have hrk := hra k
  have h64 : 64 ^ k ≤ 64 ^ 3 := Nat.pow_le_pow_right (by decide) (by omega)
  refine BIf_intro (fun h2 => ?_) fun h2 => ?_
  · rw [wrap64 (I + ((k + 1 : Nat) : Int)) (by omega) (by omega)]
    have hbk : (List.getD s (Int.toNat (I + ((k + 1 : Nat) : Int))) 0).toNat = bt (s.drop i) (k + 1) := by
      rw [hb, show Int.toNat (I + ((k + 1 : Nat) : Int)) = i + (k + 1) by omega]
    have hbl := bt_lt (s.drop i) (k + 1)
    have h192 : bitsI .and .u8 ((bt (s.drop i) (k + 1) : Nat) : Int) (192 : Int) = ((bt (s.drop i) (k + 1) &&& 192 : Nat) : Int) := and_u8 _ 192 hbl (by decide)
    have hand : IntKind.i64.wrap (bitsI .and .u8 ((bt (s.drop i) (k + 1) : Nat) : Int) (63 : Int)) = ((bt (s.drop i) (k + 1) % 64 : Nat) : Int) := by
      rw [show (63 : Int) = ((2 ^ 6 - 1 : Nat) : Int) by decide, and_mask8 _ 6 hbl (by decide), wrap64 _ (by omega) (by omega)]
    have hmul : IntKind.i64.wrap (((racc (s.drop i) r0 k : Nat) : Int) * 2 ^ (min (Int.toNat (6 : Int)) (IntKind.bits .i64))) = ((racc (s.drop i) r0 k * 2 ^ 6 : Nat) : Int) := by
      rw [show (2 : Int) ^ (min (Int.toNat (6 : Int)) (IntKind.bits .i64)) = 64 by decide, wrap64 _ (by omega) (by omega)]; omega
    have hc : (bt (s.drop i) (k + 1) &&& 192) = 128 ↔ bt (s.drop i) (k + 1) / 64 = 2 := by
      have : ∀ x, x < 256 → ((x &&& 192) = 128 ↔ x / 64 = 2) := by decide +kernel
      exact this _ hbl
    refine ⟨⟨by omega, by omega⟩, ?_⟩
    rw [hbk, h192, hand, hmul, or_add _ _ 6 (by omega) (by omega), wrap64 _ (by omega) (by omega)]
    refine BIf_intro (fun h3 => no (fun hh => h3 ?_) hne) fun h3 => ?_
    · have := hh.2.2.1 (k + 1) (by omega) (by omega)
      rw [hc.2 this]; rfl
    · have h4 : bt (s.drop i) (k + 1) / 64 = 2 := hc.1 (by omega)
      refine ⟨⟨rfl, rfl, rfl, rfl, k + 1, by omega, by omega, by simp only [racc], fun m m1 m2 => ?_⟩, by dsimp only; omega⟩
      by_cases hm : m = k + 1
      · rw [hm]; exact h4
      · exact hall m m1 (by omega)
  · have hks : k = n - 1 := by omega
    subst hks
    refine scalar_ok rfl (BIf_bool (fun h3 => no (fun hh => ?_) hne) fun h3 => width_ok rfl (BIf_intro (fun h4 => no (fun hh => ?_) hne) fun h4 => ?_))
    · simp only [Bool.not_eq_true', decide_eq_false_iff_not] at h3
      exact h3 hh.2.2.2.1
    · rw [hh.2.2.2.2] at h4; exact h4 rfl
    · simp only [Bool.not_eq_false', decide_eq_true_eq] at h3
      exact yes ⟨by omega, by omega, fun m m1 m2 => hall m m1 (by omega), h3, by omega⟩ hne
theorem uLen_ok {s : List UInt8} {st : St} {K : Int → Int → St → Prop} (hl : s.length ≤ 2000000) (hk : ∀ n : Int, K n (if vlen s = s.length then 0 else 5) st) : CallT PR fn_utf_Len [.str s] [.one (.int .i64), .one (.int .i64)] st K := by
  have hv := vlen_le' s
  refine vc_utf_Len s st K ⟨fun n i s' st' => s = s' ∧ st = st' ∧ ∃ k : Nat, i = (k : Int) ∧ k ≤ s.length ∧ k + vlen (s.drop k) = vlen s, fun _ i _ _ => (s.length - i).toNat, ⟨rfl, rfl, 0, rfl, by omega, by simp⟩, ?_⟩
  rintro n _ _ _ ⟨rfl, rfl, k, rfl, h1, h2⟩
  refine BIf_intro (fun g1 => uDecode_ok rfl hl h1 ?_) fun g1 => ?_
  · have hle := ul_le (s.drop k)
    rw [List.length_drop] at hle
    unfold rD
    by_cases h0 : ul (s.drop k) = 0
    · rw [if_pos h0]
      rw [vlen_zero _ h0] at h2
      have := hk 0
      rw [if_neg (by omega)] at this
      exact BIf_intro (fun _ => this) fun h => absurd rfl h
    · rw [if_neg h0]
      rw [vlen_step _ h0, List.drop_drop] at h2
      refine BIf_intro (fun h => absurd h (by show ¬ ((ul (s.drop k) : Nat) : Int) = 0; omega)) fun _ => ?_
      have w : IntKind.i64.wrap ((k : Int) + (ul (s.drop k) : Nat)) = ((k + ul (s.drop k) : Nat) : Int) := by rw [wrap64 _ (by omega) (by omega)]; omega
      dsimp only
      rw [w]
      exact ⟨⟨rfl, rfl, _, rfl, by omega, by omega⟩, by omega⟩
  · rw [show s.drop k = [] from List.drop_of_length_le (by omega), vlen_nil] at h2
    have := hk n
    rw [if_pos (by omega)] at this
    exact this
theorem uValid_ok {s : List UInt8} {st : St} {K : Bool → St → Prop} (hl : s.length ≤ 2000000) (hk : K (decide (vlen s = s.length)) st) : CallT PR fn_utf_Valid [.str s] [.one (.bool)] st K := by
  refine vc_utf_Valid s st K (uLen_ok hl fun n => ?_)
  by_cases h : vlen s = s.length
  · rw [if_pos h]; rw [decide_eq_true h] at hk; exact hk
  · rw [if_neg h]; rw [decide_eq_false h] at hk; exact hk
theorem invalid_ok {s : List UInt8} {st : St} {K : Int → St → Prop} (hl : s.length ≤ 2000000) (hk : K (if vlen s = s.length then -1 else ((vlen s : Nat) : Int)) st) : CallT PR fn_delim_invalid [.str s] [.one (.int .i64)] st K := by
  have hv := vlen_le' s
  refine vc_delim_invalid s st K ⟨fun i s' st' => s = s' ∧ st = st' ∧ ∃ k : Nat, i = (k : Int) ∧ k ≤ s.length ∧ k + vlen (s.drop k) = vlen s, fun i _ _ => (s.length - i).toNat, ⟨rfl, rfl, 0, rfl, by omega, by simp⟩, ?_⟩
  rintro _ _ _ ⟨rfl, rfl, k, rfl, h1, h2⟩
  refine BIf_intro (fun g1 => uDecode_ok rfl hl h1 ?_) fun g1 => ?_
  · have hle := ul_le (s.drop k)
    rw [List.length_drop] at hle
    unfold rD
    by_cases h0 : ul (s.drop k) = 0
    · rw [if_pos h0]
      rw [vlen_zero _ h0] at h2
      rw [if_neg (by omega)] at hk
      refine BIf_intro (fun _ => ?_) fun h => absurd rfl h
      rw [show k = vlen s by omega]; exact hk
    · rw [if_neg h0]
      rw [vlen_step _ h0, List.drop_drop] at h2
      refine BIf_intro (fun h => absurd h (by show ¬ ((ul (s.drop k) : Nat) : Int) = 0; omega)) fun _ => ?_
      have w : IntKind.i64.wrap ((k : Int) + (ul (s.drop k) : Nat)) = ((k + ul (s.drop k) : Nat) : Int) := by rw [wrap64 _ (by omega) (by omega)]; omega
      dsimp only
      rw [w]
      exact ⟨⟨rfl, rfl, _, rfl, by omega, by omega⟩, by omega⟩
  · rw [show s.drop k = [] from List.drop_of_length_le (by omega), vlen_nil] at h2
    rw [if_pos (by omega)] at hk; exact hk
end Go.TVF
end

section
set_option linter.unusedVariables false
set_option linter.unusedSimpArgs false
namespace Go.TVF
open Go Go.Proofs
inductive Nd where
  | mk (kind : Int) (lead text : List UInt8) (kids : List Nd) (tail : List UInt8)
mutual
/-- The cells of a node. -/
def NdC : Nd → List TV → Prop
  | .mk k l t ks tl, cs => ∃ v xs, cs = [.int .i64 k, .str l, .str t, v, .str tl] ∧ Rd 5 v ks.length xs ∧ KidsC ks xs
def KidsC : List Nd → List TV → Prop
  | [], xs => xs = []
  | n :: r, xs => ∃ a b, xs = a ++ b ∧ NdC n a ∧ KidsC r b
end
theorem NdC.len {n : Nd} {cs : List TV} (h : NdC n cs) : cs.length = 5 := by
  cases n
  unfold NdC at h
  obtain ⟨v, xs, rfl, _⟩ := h
  rfl
theorem KidsC.len : ∀ {ks : List Nd} {xs : List TV}, KidsC ks xs → xs.length = 5 * ks.length
  | [], xs, h => by unfold KidsC at h; subst h; rfl
  | n :: r, xs, h => by
    unfold KidsC at h
    obtain ⟨a, b, rfl, ha, hb⟩ := h
    rw [List.length_append, ha.len, hb.len, List.length_cons]; omega
theorem KidsC.get : ∀ {ks : List Nd} {xs : List TV}, KidsC ks xs → ∀ {i : Nat} {n : Nd}, ks[i]? = some n → ∃ cs, NdC n cs ∧ ∀ j x, cs[j]? = some x → xs[i * 5 + j]? = some x
  | [], xs, h, i, n, hi => by simp at hi
  | m :: r, xs, h, 0, n, hi => by
    unfold KidsC at h
    obtain ⟨a, b, rfl, ha, hb⟩ := h
    simp only [List.getElem?_cons_zero, Option.some.injEq] at hi
    subst hi
    refine ⟨a, ha, fun j x hj => ?_⟩
    rw [Nat.zero_mul, Nat.zero_add, List.getElem?_append_left (List.getElem?_eq_some_iff.1 hj).1]
    exact hj
  | m :: r, xs, h, i + 1, n, hi => by
    unfold KidsC at h
    obtain ⟨a, b, rfl, ha, hb⟩ := h
    obtain ⟨cs, h1, h2⟩ := hb.get (i := i) (n := n) (by simpa using hi)
    refine ⟨cs, h1, fun j x hj => ?_⟩
    have hl := ha.len
    rw [List.getElem?_append_right (by omega), show (i + 1) * 5 + j - a.length = i * 5 + j by omega]
    exact h2 j x hj
theorem KidsC.append : ∀ {ks js : List Nd} {xs ys : List TV}, KidsC ks xs → KidsC js ys → KidsC (ks ++ js) (xs ++ ys)
  | [], js, xs, ys, h, g => by unfold KidsC at h; subst h; exact g
  | n :: r, js, xs, ys, h, g => by
    unfold KidsC at h
    obtain ⟨a, b, rfl, ha, hb⟩ := h
    rw [List.cons_append]
    unfold KidsC
    exact ⟨a, b ++ ys, by rw [List.append_assoc], ha, hb.append g⟩
theorem KidsC.one {n : Nd} {cs : List TV} (h : NdC n cs) : KidsC [n] cs := by
  unfold KidsC
  exact ⟨cs, [], by simp, h, by unfold KidsC; rfl⟩
theorem KidsC.nil : KidsC [] [] := by unfold KidsC; rfl
/-- A child, loaded whole. -/
theorem kid_ld {v : TV} {ks : List Nd} {xs : List TV} (hr : Rd 5 v ks.length xs) (hk : KidsC ks xs) (st : St) {i : Nat} {k : Int} {l t tl : List UInt8} {js : List Nd} (hi : ks[i]? = some (.mk k l t js tl)) :
    ∃ u ys, (ldCells st [] (.t (ixT 5 v i)) 0 5).map TV.agg = some (.agg [.int .i64 k, .str l, .str t, u, .str tl]) ∧ Rd 5 u js.length ys ∧ KidsC js ys ∧ oneT u = true := by
  obtain ⟨cs, hc, hx⟩ := hk.get hi
  unfold NdC at hc
  obtain ⟨u, ys, rfl, h1, h2⟩ := hc
  refine ⟨u, ys, ?_, h1, h2, h1.one⟩
  simp only [ldCells, Nat.zero_add, Nat.reduceAdd]
  rw [hr.ldx st i 0 (hx 0 _ rfl), hr.ldx st i 1 (hx 1 _ rfl), hr.ldx st i 2 (hx 2 _ rfl), hr.ldx st i 3 (hx 3 _ rfl), hr.ldx st i 4 (hx 4 _ rfl)]
  rfl
theorem one5 {k : Int} {l t tl : List UInt8} {u : TV} (h : oneT u = true) : List.all [.int .i64 k, .str l, .str t, u, .str tl] oneT = true := by
  simp only [List.all_cons, h]; rfl
mutual
/-- How many nodes there are. -/
def ncnt : Nd → Nat
  | .mk _ _ _ ks _ => 1 + kcnt ks
def kcnt : List Nd → Nat
  | [] => 0
  | n :: r => ncnt n + kcnt r
end
theorem ncnt_pos (n : Nd) : 1 ≤ ncnt n := by cases n; unfold ncnt; omega
theorem kcnt_len : ∀ ks : List Nd, ks.length ≤ kcnt ks
  | [] => by simp [kcnt]
  | n :: r => by
    have h1 := ncnt_pos n
    have h2 := kcnt_len r
    simp only [kcnt, List.length_cons]; omega
theorem kcnt_mem : ∀ (ks : List Nd) {i : Nat} {n : Nd} (h : ks[i]? = some n), ncnt n ≤ kcnt ks
  | [], i, n, h => by simp at h
  | m :: r, 0, n, h => by simp only [List.getElem?_cons_zero, Option.some.injEq] at h; subst h; simp only [kcnt]; omega
  | m :: r, i + 1, n, h => by
    have := kcnt_mem r (i := i) (n := n) (by simpa using h)
    simp only [kcnt]; omega
mutual
/-- How long the text is. -/
def nlen : Nd → Nat
  | .mk _ l t ks tl => l.length + t.length + tl.length + klen ks
def klen : List Nd → Nat
  | [] => 0
  | n :: r => nlen n + klen r
end
mutual
/-- The text. -/
def ntext : Nd → List UInt8
  | .mk _ l t ks tl => l ++ t ++ ktext ks ++ tl
def ktext : List Nd → List UInt8
  | [] => []
  | n :: r => ntext n ++ ktext r
end
mutual
theorem ntext_len : ∀ n : Nd, (ntext n).length = nlen n
  | .mk _ l t ks tl => by
    have := ktext_len ks
    simp only [ntext, nlen, List.length_append]; omega
theorem ktext_len : ∀ ks : List Nd, (ktext ks).length = klen ks
  | [] => rfl
  | n :: r => by
    have h1 := ntext_len n
    have h2 := ktext_len r
    simp only [ktext, klen, List.length_append]; omega
end
theorem klen_take (ks : List Nd) (i : Nat) (n : Nd) (h : ks[i]? = some n) : klen (ks.take (i + 1)) = klen (ks.take i) + nlen n := by
  rw [List.take_add_one, h]
  generalize ks.take i = a
  induction a with
  | nil => simp [klen]
  | cons m r ih => simp only [Option.toList_some, List.cons_append, klen] at ih ⊢; omega
theorem klen_split (ks : List Nd) (i : Nat) : klen ks = klen (ks.take i) + klen (ks.drop i) := by
  conv => lhs; rw [← List.take_append_drop i ks]
  generalize ks.take i = a
  induction a with
  | nil => simp [klen]
  | cons m r ih => simp only [List.cons_append, klen] at ih ⊢; omega
theorem klen_mem (ks : List Nd) (i : Nat) (n : Nd) (h : ks[i]? = some n) : klen (ks.take i) + nlen n ≤ klen ks := by
  have h1 := klen_take ks i n h
  have h2 := klen_split ks (i + 1)
  omega
theorem ktext_take (ks : List Nd) (i : Nat) (n : Nd) (h : ks[i]? = some n) : ktext (ks.take (i + 1)) = ktext (ks.take i) ++ ntext n := by
  rw [List.take_add_one, h]
  generalize ks.take i = a
  induction a with
  | nil => simp [ktext]
  | cons m r ih => simp only [Option.toList_some, List.cons_append, ktext, List.append_assoc] at ih ⊢; rw [ih]
theorem mem_of_get {ks : List Nd} {i : Nat} {n : Nd} (h : ks[i]? = some n) : n ∈ ks := List.mem_of_getElem? h
theorem tlen_ok : ∀ (n : Nd) {cs : List TV} (hc : NdC n cs) (hl : nlen n ≤ 1000000000000000) (hcn : ncnt n ≤ 1000000000000000) {st : St} {K : Int → St → Prop} (hk : K (nlen n : Nat) st), CallT PR fn_tree_Len [.agg cs] [.one (.int .i64)] st K
  | .mk k l t ks tl, cs, hc, hl, hcn, st, K, hk => by
    simp only [ncnt] at hcn
    have hkl0 := kcnt_len ks
    unfold NdC at hc
    obtain ⟨v, xs, rfl, hr, hx⟩ := hc
    simp only [nlen] at hl hk
    refine vc_tree_Len k l t v tl st K (need_intro hr.isSl ⟨fun s i w n st' => v = w ∧ n = (ks.length : Int) ∧ st = st' ∧ ∃ j : Nat, i = (j : Int) ∧ j ≤ ks.length ∧ s = ((l.length + t.length + tl.length + klen (ks.take j) : Nat) : Int), fun _ i _ _ _ => (ks.length - i).toNat, ⟨rfl, by rw [hr.lenS], rfl, 0, rfl, by omega, ?_⟩, ?_⟩)
    · rw [wrap64 ((l.length : Int) + t.length) (by omega) (by omega), wrap64 _ (by omega) (by omega)]
      simp only [List.take_zero, klen]; omega
    rintro _ _ _ _ _ ⟨rfl, rfl, rfl, j, rfl, h1, rfl⟩
    rw [hr.lenZ, show Int.toNat (j : Int) = j from rfl]
    refine BIf_intro (fun g => ?_) fun g => ?_
    · have hlt : j < ks.length := by omega
      have hget := List.getElem?_eq_getElem hlt
      generalize hn : ks[j] = n at hget
      obtain ⟨k', l', t', js, tl'⟩ := n
      obtain ⟨u, ys, hld, h2, h3, h4⟩ := kid_ld hr hx st hget
      have hm := klen_mem ks j _ hget
      have hcm := kcnt_mem ks hget
      have ht := klen_take ks j _ hget
      refine ⟨⟨by omega, by omega⟩, optK_intro hld (need_intro (one5 h4) ?_)⟩
      refine tlen_ok (.mk k' l' t' js tl') (by unfold NdC; exact ⟨u, ys, rfl, h2, h3⟩) (by omega) (by omega) ?_
      have w1 : IntKind.i64.wrap (((l.length + t.length + tl.length + klen (ks.take j) : Nat) : Int) + (nlen (.mk k' l' t' js tl') : Nat)) = ((l.length + t.length + tl.length + klen (ks.take (j + 1)) : Nat) : Int) := by
        rw [wrap64 _ (by omega) (by omega)]; omega
      have w2 : IntKind.i64.wrap ((j : Int) + 1) = ((j + 1 : Nat) : Int) := by rw [wrap64 _ (by omega) (by omega)]; omega
      rw [w1, w2]
      exact ⟨⟨rfl, rfl, rfl, j + 1, rfl, by omega, rfl⟩, by dsimp only; omega⟩
    · rw [List.take_of_length_le (by omega)]; exact hk
termination_by n => SizeOf.sizeOf n
decreasing_by
  have := List.sizeOf_lt_of_mem (mem_of_get hget)
  simp only [Nd.mk.sizeOf_spec] at this ⊢
  omega
theorem rlen_ok : ∀ (n : Nd) {cs : List TV} (hc : NdC n cs) (hl : nlen n ≤ 1000000000000000) (hcn : ncnt n ≤ 1000000000000000) {st : St} {K : Int → St → Prop} (hk : K (nlen n : Nat) st), CallT PR fn_datakitref13_Len [.agg cs] [.one (.int .i64)] st K
  | .mk k l t ks tl, cs, hc, hl, hcn, st, K, hk => by
    simp only [ncnt] at hcn
    have hkl0 := kcnt_len ks
    unfold NdC at hc
    obtain ⟨v, xs, rfl, hr, hx⟩ := hc
    simp only [nlen] at hl hk
    refine vc_datakitref13_Len k l t v tl st K ⟨fun s i k' l' t' w tl' st' => v = w ∧ st = st' ∧ ∃ j : Nat, i = (j : Int) ∧ j ≤ ks.length ∧ s = ((l.length + t.length + tl.length + klen (ks.take j) : Nat) : Int), fun _ i _ _ _ _ _ _ => (ks.length - i).toNat, ⟨rfl, rfl, 0, rfl, by omega, ?_⟩, ?_⟩
    · rw [wrap64 ((l.length : Int) + t.length) (by omega) (by omega), wrap64 _ (by omega) (by omega)]
      simp only [List.take_zero, klen]; omega
    rintro _ _ _ _ _ _ _ _ ⟨rfl, rfl, j, rfl, h1, rfl⟩
    refine need_intro hr.isSl ?_
    rw [hr.lenS, hr.lenZ, show Int.toNat (j : Int) = j from rfl]
    refine BIf_intro (fun g => ?_) fun g => ?_
    · have hlt : j < ks.length := by omega
      have hget := List.getElem?_eq_getElem hlt
      generalize hn : ks[j] = n at hget
      obtain ⟨k', l', t', js, tl'⟩ := n
      obtain ⟨u, ys, hld, h2, h3, h4⟩ := kid_ld hr hx st hget
      have hm := klen_mem ks j _ hget
      have hcm := kcnt_mem ks hget
      have ht := klen_take ks j _ hget
      refine ⟨⟨by omega, by omega⟩, optK_intro hld ?_⟩
      refine rlen_ok (.mk k' l' t' js tl') (by unfold NdC; exact ⟨u, ys, rfl, h2, h3⟩) (by omega) (by omega) ?_
      have w1 : IntKind.i64.wrap (((l.length + t.length + tl.length + klen (ks.take j) : Nat) : Int) + (nlen (.mk k' l' t' js tl') : Nat)) = ((l.length + t.length + tl.length + klen (ks.take (j + 1)) : Nat) : Int) := by
        rw [wrap64 _ (by omega) (by omega)]; omega
      have w2 : IntKind.i64.wrap ((j : Int) + 1) = ((j + 1 : Nat) : Int) := by rw [wrap64 _ (by omega) (by omega)]; omega
      rw [w1, w2]
      exact ⟨⟨rfl, rfl, j + 1, rfl, by omega, rfl⟩, by dsimp only; omega⟩
    · rw [List.take_of_length_le (by omega)]; exact hk
termination_by n => SizeOf.sizeOf n
decreasing_by
  have := List.sizeOf_lt_of_mem (mem_of_get hget)
  simp only [Nd.mk.sizeOf_spec] at this ⊢
  omega
theorem rprint_ok : ∀ (n : Nd) {cs : List TV} (hc : NdC n cs) (hl : nlen n ≤ 1000000000000000) (hcn : ncnt n ≤ 1000000000000000) {st : St} {K : List UInt8 → St → Prop} (hk : K (ntext n) st), CallT PR fn_datakitref13_Print [.agg cs] [.one (.str)] st K
  | .mk k l t ks tl, cs, hc, hl, hcn, st, K, hk => by
    simp only [ncnt] at hcn
    have hkl0 := kcnt_len ks
    unfold NdC at hc
    obtain ⟨v, xs, rfl, hr, hx⟩ := hc
    simp only [nlen] at hl
    simp only [ntext] at hk
    refine vc_datakitref13_Print k l t v tl st K ⟨by omega, fun s i k' l' t' w tl' st' => v = w ∧ tl = tl' ∧ st = st' ∧ ∃ j : Nat, i = (j : Int) ∧ j ≤ ks.length ∧ s = l ++ t ++ ktext (ks.take j), fun _ i _ _ _ _ _ _ => (ks.length - i).toNat, ⟨rfl, rfl, rfl, 0, rfl, by omega, by simp [ktext]⟩, ?_⟩
    rintro _ _ _ _ _ _ _ _ ⟨rfl, rfl, rfl, j, rfl, h1, rfl⟩
    refine need_intro hr.isSl ?_
    rw [hr.lenS, hr.lenZ, show Int.toNat (j : Int) = j from rfl]
    have hkl := ktext_len (ks.take j)
    refine BIf_intro (fun g => ?_) fun g => ?_
    · have hlt : j < ks.length := by omega
      have hget := List.getElem?_eq_getElem hlt
      generalize hn : ks[j] = n at hget
      obtain ⟨k', l', t', js, tl'⟩ := n
      obtain ⟨u, ys, hld, h2, h3, h4⟩ := kid_ld hr hx st hget
      have hm := klen_mem ks j _ hget
      have hcm := kcnt_mem ks hget
      have ht := ktext_take ks j _ hget
      refine ⟨⟨by omega, by omega⟩, optK_intro hld ?_⟩
      refine rprint_ok (.mk k' l' t' js tl') (by unfold NdC; exact ⟨u, ys, rfl, h2, h3⟩) (by omega) (by omega) ⟨?_, ?_⟩
      · rw [ntext_len]; simp only [List.length_append]; omega
      · rw [wrap64 ((j : Int) + 1) (by omega) (by omega)]
        exact ⟨⟨rfl, rfl, rfl, j + 1, by omega, by omega, by rw [ht]; simp⟩, by dsimp only; omega⟩
    · rw [List.take_of_length_le (by omega)] at hkl ⊢
      exact ⟨by simp only [List.length_append]; omega, hk⟩
termination_by n => SizeOf.sizeOf n
decreasing_by
  have := List.sizeOf_lt_of_mem (mem_of_get hget)
  simp only [Nd.mk.sizeOf_spec] at this ⊢
  omega
theorem write_ok : ∀ (n : Nd) {cs : List TV} (hc : NdC n cs) {st0 st : St} {b : Nat} {buf : List UInt8} (hb : Bld st0 b st buf) (hl : buf.length + nlen n ≤ 100000000000000) (hcn : ncnt n ≤ 1000000000000000) {K : St → Prop} (hk : ∀ st', Bld st0 b st' (buf ++ ntext n) → K st'), CallT PR fn_tree_write [.box b 0, .agg cs] [] st K
  | .mk k l t ks tl, cs, hc, st0, st, b, buf, hb, hl, hcn, K, hk => by
    simp only [ncnt] at hcn
    have hkl0 := kcnt_len ks
    unfold NdC at hc
    obtain ⟨v, xs, rfl, hr, hx⟩ := hc
    simp only [nlen] at hl
    simp only [ntext] at hk
    refine vc_tree_write b k l t v tl st K (writeString_ok hb (by omega) fun st1 b1 => writeString_ok b1 (by rw [List.length_append]; omega) fun st2 b2 => need_intro hr.isSl ?_)
    refine ⟨fun i b' w n k' l' t' w' tl' st' => TV.box b 0 = b' ∧ v = w ∧ n = (ks.length : Int) ∧ tl = tl' ∧ ∃ j : Nat, i = (j : Int) ∧ j ≤ ks.length ∧ Bld st0 b st' (buf ++ l ++ t ++ ktext (ks.take j)), fun i _ _ _ _ _ _ _ _ _ => (ks.length - i).toNat, ⟨rfl, rfl, by rw [hr.lenS], rfl, 0, rfl, by omega, by simpa [ktext] using b2⟩, ?_⟩
    rintro _ _ _ _ _ _ _ _ _ st3 ⟨rfl, rfl, rfl, rfl, j, rfl, h1, b3⟩
    rw [hr.lenZ, show Int.toNat (j : Int) = j from rfl]
    have hkl := ktext_len (ks.take j)
    refine BIf_intro (fun g => ?_) fun g => ?_
    · have hlt : j < ks.length := by omega
      have hget := List.getElem?_eq_getElem hlt
      generalize hn : ks[j] = n at hget
      obtain ⟨k', l', t', js, tl'⟩ := n
      obtain ⟨u, ys, hld, h2, h3, h4⟩ := kid_ld hr hx st3 hget
      have hm := klen_mem ks j _ hget
      have hcm := kcnt_mem ks hget
      have ht := ktext_take ks j _ hget
      refine ⟨⟨by omega, by omega⟩, optK_intro hld (need_intro (one5 h4) ?_)⟩
      refine write_ok (.mk k' l' t' js tl') (by unfold NdC; exact ⟨u, ys, rfl, h2, h3⟩) b3 (by simp only [List.length_append]; omega) (by omega) fun st4 b4 => ?_
      rw [wrap64 ((j : Int) + 1) (by omega) (by omega)]
      exact ⟨⟨rfl, rfl, rfl, rfl, j + 1, by omega, by omega, by rw [ht]; simpa using b4⟩, by dsimp only; omega⟩
    · rw [List.take_of_length_le (by omega)] at hkl b3
      exact writeString_ok b3 (by simp only [List.length_append]; omega) fun st4 b4 => hk st4 (by simpa using b4)
termination_by n => SizeOf.sizeOf n
decreasing_by
  have := List.sizeOf_lt_of_mem (mem_of_get hget)
  simp only [Nd.mk.sizeOf_spec] at this ⊢
  omega
theorem tprint_ok {n : Nd} {cs : List TV} (hc : NdC n cs) (hl : nlen n ≤ 100000000000000) (hcn : ncnt n ≤ 1000000000000000) {st : St} {K : List UInt8 → St → Prop} (hk : ∀ st', StExt st st' → K (ntext n) st') : CallT PR fn_tree_Print [.agg cs] [.one (.str)] st K := by
  have hc0 := hc
  obtain ⟨k, l, t, ks, tl⟩ := n
  unfold NdC at hc
  obtain ⟨v, xs, rfl, hr, hx⟩ := hc
  refine vc_tree_Print k l t v tl st K (write_ok _ hc0 (Bld.new (StExt.refl st)) (by simpa using hl) hcn fun st1 b1 => ?_)
  have hn := ntext_len (.mk k l t ks tl)
  exact builderString_ok b1 (by simp only [List.nil_append]; omega) fun st2 e => hk st2 e
def leafB (k : Int) : Bool := decide (k = 2 ∨ k = 6 ∨ k = 10 ∨ k = 11)
theorem leaf_ok {k : Int} {st : St} {K : Bool → St → Prop} (hk : K (leafB k) st) : CallT PR fn_tree_leaf [.int .i64 k] [.one (.bool)] st K := by
  unfold leafB at hk
  refine vc_tree_leaf k st K ?_
  repeat' first
    | exact K_eq (decide_eq_true (by omega)).symm hk
    | exact K_eq (decide_eq_false (by omega)).symm hk
    | refine BIf_intro (fun _ => ?_) fun _ => ?_
theorem rleaf_ok {k : Int} {st : St} {K : Bool → St → Prop} (hk : K (leafB k) st) : CallT PR fn_datakitref13_Leaf [.int .i64 k] [.one (.bool)] st K := by
  unfold leafB at hk
  refine vc_datakitref13_Leaf k st K ?_
  repeat' first
    | exact K_eq (decide_eq_true (by omega)).symm hk
    | exact K_eq (decide_eq_decide.2 (by omega)) hk
    | refine BIf_intro (fun _ => ?_) fun _ => ?_
mutual
/-- Visits a tree: how many nodes have been seen, or what is wrong. -/
def chk : Nd → Int → Int → Except Int Int
  | .mk k l t ks tl, d, s => if 192 < d then .error 9 else if 524288 ≤ s then .error 10 else if k < 1 ∨ 11 < k then .error 6
    else if leafB k = true ∧ (ks.length ≠ 0 ∨ tl ≠ []) then .error 1 else chkL ks (d + 1) (s + 1)
def chkL : List Nd → Int → Int → Except Int Int
  | [], d, s => .ok s
  | n :: r, d, s => match chk n d s with | .error e => .error e | .ok s' => chkL r d s'
end
end Go.TVF
end

section
set_option linter.unusedVariables false
set_option linter.unusedSimpArgs false
namespace Go.TVF
open Go Go.Proofs
open Go.RowKit (Below)
def sub1 (q : UInt8) (new : List UInt8) (c : UInt8) : List UInt8 := if c = q then new else [c]
theorem index1 (q : UInt8) : ∀ s : List UInt8, (Lib.index s [q] = -1 ∧ q ∉ s) ∨ ∃ i : Nat, Lib.index s [q] = i ∧ q ∉ s.take i ∧ i < s.length ∧ s = s.take i ++ q :: s.drop (i + 1)
  | [] => .inl ⟨by simp [Lib.index], by simp⟩
  | c :: l => by
    have hp : [q].isPrefixOf (c :: l) = (q == c) := by simp [List.isPrefixOf]
    unfold Lib.index
    rw [hp]
    by_cases hc : q = c
    · subst hc
      exact .inr ⟨0, by simp, by simp, by simp, by simp⟩
    · have hb : (q == c) = false := by simpa using hc
      rw [hb]
      rcases index1 q l with ⟨h1, h2⟩ | ⟨i, h1, h2, h3, h4⟩
      · left
        rw [h1]
        exact ⟨by simp, by simp [hc, h2]⟩
      · right
        refine ⟨i + 1, ?_, ?_, by simp; omega, ?_⟩
        · rw [h1]
          have : ((i : Int) == -1) = false := by simp
          simp [this]
        · simp [hc, h2]
        · simp only [List.take_succ_cons, List.drop_succ_cons, List.cons_append]
          rw [← h4]
theorem flat_none (q : UInt8) (new : List UInt8) : ∀ s : List UInt8, q ∉ s → s.flatMap (sub1 q new) = s
  | [], _ => rfl
  | c :: l, h => by
    simp only [List.mem_cons, not_or] at h
    rw [List.flatMap_cons, flat_none q new l h.2]
    simp [sub1, Ne.symm h.1]
theorem count1 (q : UInt8) (new : List UInt8) : ∀ (n : Nat) (s : List UInt8), s.length ≤ n → Lib.count s [q] ≤ s.length ∧ Lib.replaceK [q] new (Lib.count s [q]) s = s.flatMap (sub1 q new) := by
  intro n
  induction n with
  | zero =>
    intro s hs
    have : s = [] := List.eq_nil_of_length_eq_zero (by omega)
    subst this
    rw [Lib.count_miss (by simp [Lib.index])]
    exact ⟨by simp, rfl⟩
  | succ n ih =>
    intro s hs
    rcases index1 q s with ⟨h1, h2⟩ | ⟨i, h1, h2, h3, h4⟩
    · rw [Lib.count_miss h1]
      exact ⟨by simp, by rw [flat_none q new s h2]; rfl⟩
    · rw [Lib.count_hit (by simp) h1]
      obtain ⟨c1, c2⟩ := ih (s.drop (i + 1)) (by simp; omega)
      have hl : [q].length = 1 := rfl
      rw [hl]
      refine ⟨by simp at c1 ⊢; omega, ?_⟩
      rw [Nat.add_comm, Lib.replaceK_hit _ _ _ _ i h1, hl, c2]
      conv => rhs; rw [h4]
      rw [List.flatMap_append, List.flatMap_cons, flat_none q new _ h2]
      simp [sub1]
theorem relL_three {g : Ghost} {w : World} {x y z : TV} {vs : List Value} (h : RelL g w [x, y, z] vs) : ∃ v u t, vs = [v, u, t] ∧ Rel g w x v ∧ Rel g w y u ∧ Rel g w z t := by
  obtain ⟨v, h1, h2⟩ := h.get? (i := 0) rfl
  obtain ⟨u, h3, h4⟩ := h.get? (i := 1) rfl
  obtain ⟨t, h5, h6⟩ := h.get? (i := 2) rfl
  have hl := h.1
  match vs, hl with
  | [a, b, c], _ => simp at h1 h3 h5; subst h1 h3 h5; exact ⟨_, _, _, rfl, h2, h4, h6⟩
theorem replaceAll_ok {s : List UInt8} {q a b : UInt8} {st : St} {K : List UInt8 → St → Prop} (hne : [q] ≠ [a, b]) (hl : s.length ≤ 2000000000) (hk : K (s.flatMap (sub1 q [a, b])) st) :
    CallT PR fn_strings_ReplaceAll [.str s, .str [q], .str [a, b]] [.one (.str)] st K := by
  refine tcalls_enter (fun _ _ => Tryd.call89 _ _) fun g w vargs sim hr => ?_
  obtain ⟨v1, v2, v3, rfl, h1, h2, h3⟩ := relL_three hr
  rw [rel_str_inv h1, rel_str_inv h2, rel_str_inv h3]
  obtain ⟨_, m, hm⟩ := sim.glob w sim.below
  obtain ⟨c1, c2⟩ := count1 q [a, b] s.length s (Nat.le_refl _)
  have hcB : Lib.countB ⟨s.toArray⟩ ⟨#[q]⟩ = Lib.count s [q] := rfl
  refine Calls.mono (Tryd.strings_ReplaceAll ⟨s.toArray⟩ ⟨#[q]⟩ ⟨#[a, b]⟩ m w ?_ hm ?_ ?_) ?_
  · show s.toArray.size < _
    simp; omega
  · show 1 ≤ (#[q] : Array UInt8).size
    simp
  · rw [hcB]
    show s.toArray.size + _ * (#[a, b] : Array UInt8).size ≤ _
    simp; omega
  · rintro e w' ⟨rfl, hb⟩
    obtain ⟨s', e'⟩ := sim.grown hb
    have hv : Lib.replaceAll s [q] [a, b] = s.flatMap (sub1 q [a, b]) := by
      unfold Lib.replaceAll Lib.replace
      rw [if_neg (by simp), ← c2]
      congr 1
    refine ⟨_, rfl, .str (s.flatMap (sub1 q [a, b])), st, g, hk, s', ?_, e'⟩
    show Rel g w' _ (.string ⟨(Lib.replaceAll s [q] [a, b]).toArray⟩)
    rw [hv]
    exact Rel.str _
end Go.TVF
end

section
set_option linter.unusedVariables false
set_option linter.unusedSimpArgs false
namespace Go.TVF
open Go Go.Proofs
mutual
theorem chk_ok_le : ∀ (n : Nd) {d s s' : Int}, s ≤ 524288 → chk n d s = .ok s' → s ≤ s' ∧ s' ≤ 524288
  | .mk k l t ks tl, d, s, s', hs, h => by
    unfold chk at h
    split at h
    · cases h
    split at h
    · cases h
    split at h
    · cases h
    split at h
    · cases h
    have := chkL_ok_le ks (by omega) h
    omega
theorem chkL_ok_le : ∀ (ks : List Nd) {d s s' : Int}, s ≤ 524288 → chkL ks d s = .ok s' → s ≤ s' ∧ s' ≤ 524288
  | [], d, s, s', hs, h => by unfold chkL at h; cases h; omega
  | n :: r, d, s, s', hs, h => by
    unfold chkL at h
    split at h
    · cases h
    · rename_i s1 h1
      have h2 := chk_ok_le n hs h1
      have h3 := chkL_ok_le r h2.2 h
      omega
end
mutual
theorem chk_err_ne : ∀ (n : Nd) {d s e : Int}, chk n d s = .error e → e ≠ 0
  | .mk k l t ks tl, d, s, e, h => by
    unfold chk at h
    split at h
    · cases h; decide
    split at h
    · cases h; decide
    split at h
    · cases h; decide
    split at h
    · cases h; decide
    exact chkL_err_ne ks h
theorem chkL_err_ne : ∀ (ks : List Nd) {d s e : Int}, chkL ks d s = .error e → e ≠ 0
  | [], d, s, e, h => by unfold chkL at h; cases h
  | n :: r, d, s, e, h => by
    unfold chkL at h
    split at h
    · rename_i e1 h1; cases h; exact chk_err_ne n h1
    · exact chkL_err_ne r h
end
theorem decT_int {k : IntKind} {n : Int} {f : Int → Prop} (h : f n) : decT (.int k) (.int k n) f := need_intro (by simp) h
/-- The counter of nodes lies in a box of its own. -/
def SeenB (st0 : St) (b : Nat) (st : St) (s : Int) : Prop := StExt st0 st ∧ st0.nb ≤ b ∧ st.box b = .cells [.int .i64 s]
theorem tcheck_ok : ∀ (n : Nd) {cs : List TV} (hc : NdC n cs) {d s : Int} (hd0 : 0 ≤ d) (hd : d ≤ 200) (hs0 : 0 ≤ s) (hs : s ≤ 524288) (hcn : ncnt n ≤ 1000000000000000) {st0 st : St} {b : Nat} (hb : SeenB st0 b st s) {K : Int → St → Prop}
    (hk1 : ∀ s' st', chk n d s = .ok s' → SeenB st0 b st' s' → K 0 st') (hk2 : ∀ e st', chk n d s = .error e → StExt st0 st' → K e st'), CallT PR fn_tree_check [.agg cs, .int .i64 d, .box b 0] [.one (.int .i64)] st K
  | .mk k l t ks tl, cs, hc, d, s, hd0, hd, hs0, hs, hcn, st0, st, b, hb, K, hk1, hk2 => by
    simp only [ncnt] at hcn
    have hkl0 := kcnt_len ks
    unfold NdC at hc
    obtain ⟨v, xs, rfl, hr, hx⟩ := hc
    unfold chk at hk1 hk2
    obtain ⟨hb1, hb2, hb3⟩ := hb
    refine vc_tree_check k l t v tl d b st K (BIf_intro (fun g => ?_) fun g => ?_)
    · rw [if_pos g] at hk2; exact hk2 _ _ rfl hb1
    rw [if_neg g] at hk1 hk2
    refine optK_intro (x := .int .i64 s) (by simp [ldCell, hb3]) ?_
    refine decT_int (stB_box hb3 (by simp) ?_)
    rw [wrap64 (s + 1) (by omega) (by omega)]
    obtain ⟨st1, hst1⟩ : ∃ st1, st1 = st.put b (.cells (setAll [.int .i64 s] 0 [.int .i64 (s + 1)])) := ⟨_, rfl⟩
    have hb4 : st1.box b = .cells [.int .i64 (s + 1)] := by rw [hst1, box_put]; rfl
    have hb5 : SeenB st0 b st1 (s + 1) := ⟨by rw [hst1]; exact hb1.put hb2 _, hb2, hb4⟩
    rw [← hst1]
    refine optK_intro (x := .int .i64 (s + 1)) (by simp [ldCell, hb4]) (decT_int (BIf_intro (fun g2 => ?_) fun g2 => ?_))
    · rw [if_pos (by omega)] at hk2; exact hk2 _ _ rfl hb5.1
    rw [if_neg (by omega)] at hk1 hk2
    refine BIf_intro (fun g3 => ?_) fun g3 => BIf_intro (fun g4 => ?_) fun g4 => ?_
    · rw [if_pos (by omega)] at hk2; exact hk2 _ _ rfl hb5.1
    · rw [if_pos (by omega)] at hk2; exact hk2 _ _ rfl hb5.1
    rw [if_neg (by omega)] at hk1 hk2
    refine leaf_ok (BIf_bool (fun hl => need_intro hr.isSl ?_) fun hl => need_intro hr.isSl ?_)
    case' refine_1 =>
      rw [hr.lenS]
      refine BIf_intro (fun g5 => ?_) fun g5 => BIf_intro (fun g6 => ?_) fun g6 => need_intro hr.isSl ?_
      · rw [if_pos ⟨hl, .inl (by omega)⟩] at hk2; exact hk2 _ _ rfl hb5.1
      · rw [if_pos ⟨hl, .inr g6⟩] at hk2; exact hk2 _ _ rfl hb5.1
      rw [if_neg (by rintro ⟨_, h | h⟩; omega; exact g6 h)] at hk1 hk2
    case' refine_2 => rw [if_neg (by rintro ⟨h, _⟩; rw [hl] at h; cases h)] at hk1 hk2
    all_goals
      refine ⟨fun i d' sn v' n st' => v = v' ∧ TV.box b 0 = sn ∧ d = d' ∧ n = (ks.length : Int) ∧ ∃ (j : Nat) (s1 : Int), i = (j : Int) ∧ j ≤ ks.length ∧ SeenB st0 b st' s1 ∧ chkL ks (d + 1) (s + 1) = chkL (ks.drop j) (d + 1) s1 ∧ 0 ≤ s1 ∧ s1 ≤ 524288,
        fun i _ _ _ _ _ => (ks.length - i).toNat, ⟨rfl, rfl, rfl, by first | rw [hr.lenS] | rfl, 0, s + 1, rfl, by omega, hb5, rfl, by omega, by omega⟩, ?_⟩
      rintro _ _ _ _ _ st2 ⟨rfl, rfl, rfl, rfl, j, s1, rfl, h1, hb6, heq, h2, h3⟩
      rw [hr.lenZ, show Int.toNat (j : Int) = j from rfl]
      refine BIf_intro (fun q => ?_) fun q => ?_
      · have hlt : j < ks.length := by omega
        have hget := List.getElem?_eq_getElem hlt
        have hdrop := List.drop_eq_getElem_cons hlt
        generalize hn : ks[j] = n at hget hdrop
        obtain ⟨k', l', t', js, tl'⟩ := n
        obtain ⟨u, ys, hld, hu1, hu2, hu3⟩ := kid_ld hr hx st2 hget
        have hcm := kcnt_mem ks hget
        rw [hdrop, chkL] at heq
        refine ⟨⟨by omega, by omega⟩, optK_intro hld (need_intro (one5 hu3) ?_)⟩
        rw [wrap64 (d + 1) (by omega) (by omega), wrap64 ((j : Int) + 1) (by omega) (by omega)]
        refine tcheck_ok (.mk k' l' t' js tl') (by unfold NdC; exact ⟨u, ys, rfl, hu1, hu2⟩) (by omega) (by omega) h2 h3 (by omega) hb6 (fun s' st3 hc hb7 => ?_) fun e st3 hc hb7 => ?_
        · rw [hc] at heq
          have := chk_ok_le _ h3 hc
          exact BIf_intro (fun h => absurd rfl h) fun _ => ⟨⟨rfl, rfl, rfl, rfl, j + 1, s', by omega, by omega, hb7, heq, by omega, by omega⟩, by dsimp only; omega⟩
        · rw [hc] at heq
          exact BIf_intro (fun _ => hk2 e st3 heq hb7) fun h => absurd (Decidable.not_not.1 h) (chk_err_ne _ hc)
      · rw [List.drop_of_length_le (by omega), chkL] at heq
        exact hk1 _ _ heq hb6
termination_by n => SizeOf.sizeOf n
decreasing_by
  all_goals
    have := List.sizeOf_lt_of_mem (mem_of_get hget)
    simp only [Nd.mk.sizeOf_spec] at this ⊢
    omega
theorem rlook_ok : ∀ (n : Nd) {cs : List TV} (hc : NdC n cs) {d s : Int} (hd0 : 0 ≤ d) (hd : d ≤ 200) (hs0 : 0 ≤ s) (hs : s ≤ 524288) (hcn : ncnt n ≤ 1000000000000000) {st : St} {K : Int → Int → St → Prop}
    (hk1 : ∀ s', chk n d s = .ok s' → K s' 0 st) (hk2 : ∀ e x, chk n d s = .error e → K x e st), CallT PR fn_datakitref13_look [.agg cs, .int .i64 d, .int .i64 s] [.one (.int .i64), .one (.int .i64)] st K
  | .mk k l t ks tl, cs, hc, d, s, hd0, hd, hs0, hs, hcn, st, K, hk1, hk2 => by
    simp only [ncnt] at hcn
    have hkl0 := kcnt_len ks
    unfold NdC at hc
    obtain ⟨v, xs, rfl, hr, hx⟩ := hc
    unfold chk at hk1 hk2
    refine vc_datakitref13_look k l t v tl d s st K (BIf_intro (fun g => ?_) fun g => ?_)
    · rw [if_pos g] at hk2; exact hk2 _ _ rfl
    rw [if_neg g] at hk1 hk2
    refine BIf_intro (fun g2 => ?_) fun g2 => ?_
    · rw [if_pos g2] at hk2; exact hk2 _ _ rfl
    rw [if_neg g2] at hk1 hk2
    refine BIf_intro (fun g3 => ?_) fun g3 => BIf_intro (fun g4 => ?_) fun g4 => ?_
    · rw [if_pos (by omega)] at hk2; exact hk2 _ _ rfl
    · rw [if_pos (by omega)] at hk2; exact hk2 _ _ rfl
    rw [if_neg (by omega)] at hk1 hk2
    refine rleaf_ok (BIf_bool (fun hl => need_intro hr.isSl ?_) fun hl => ?_)
    case' refine_1 =>
      rw [hr.lenS]
      refine BIf_intro (fun g5 => ?_) fun g5 => BIf_intro (fun g6 => ?_) fun g6 => ?_
      · rw [if_pos ⟨hl, .inl (by omega)⟩] at hk2; exact hk2 _ _ rfl
      · rw [if_pos ⟨hl, .inr g6⟩] at hk2; exact hk2 _ _ rfl
      rw [if_neg (by rintro ⟨_, h | h⟩; omega; exact g6 h)] at hk1 hk2
    case' refine_2 => rw [if_neg (by rintro ⟨h, _⟩; rw [hl] at h; cases h)] at hk1 hk2
    all_goals
      rw [wrap64 (s + 1) (by omega) (by omega)]
      refine ⟨fun s1 i d' k' l' t' v' tl' st' => v = v' ∧ st = st' ∧ d = d' ∧ ∃ j : Nat, i = (j : Int) ∧ j ≤ ks.length ∧ chkL ks (d + 1) (s + 1) = chkL (ks.drop j) (d + 1) s1 ∧ 0 ≤ s1 ∧ s1 ≤ 524288,
        fun _ i _ _ _ _ _ _ _ => (ks.length - i).toNat, ⟨rfl, rfl, rfl, 0, rfl, by omega, rfl, by omega, by omega⟩, ?_⟩
      rintro s1 _ _ _ _ _ _ _ _ ⟨rfl, rfl, rfl, j, rfl, h1, heq, h2, h3⟩
      refine need_intro hr.isSl ?_
      rw [hr.lenS, hr.lenZ, show Int.toNat (j : Int) = j from rfl]
      refine BIf_intro (fun q => ?_) fun q => ?_
      · have hlt : j < ks.length := by omega
        have hget := List.getElem?_eq_getElem hlt
        have hdrop := List.drop_eq_getElem_cons hlt
        generalize hn : ks[j] = n at hget hdrop
        obtain ⟨k', l', t', js, tl'⟩ := n
        obtain ⟨u, ys, hld, hu1, hu2, hu3⟩ := kid_ld hr hx st hget
        have hcm := kcnt_mem ks hget
        rw [hdrop, chkL] at heq
        refine ⟨⟨by omega, by omega⟩, optK_intro hld ?_⟩
        rw [wrap64 (d + 1) (by omega) (by omega), wrap64 ((j : Int) + 1) (by omega) (by omega)]
        refine rlook_ok (.mk k' l' t' js tl') (by unfold NdC; exact ⟨u, ys, rfl, hu1, hu2⟩) (by omega) (by omega) h2 h3 (by omega) (fun s' hc => ?_) fun e x hc => ?_
        · rw [hc] at heq
          have := chk_ok_le _ h3 hc
          exact BIf_intro (fun h => absurd rfl h) fun _ => ⟨⟨rfl, rfl, rfl, j + 1, by omega, by omega, heq, by omega, by omega⟩, by dsimp only; omega⟩
        · rw [hc] at heq
          exact BIf_intro (fun _ => hk2 e x heq) fun h => absurd (Decidable.not_not.1 h) (chk_err_ne _ hc)
      · rw [List.drop_of_length_le (by omega), chkL] at heq
        exact hk1 _ heq
termination_by n => SizeOf.sizeOf n
decreasing_by
  all_goals
    have := List.sizeOf_lt_of_mem (mem_of_get hget)
    simp only [Nd.mk.sizeOf_spec] at this ⊢
    omega
def chkV (n : Nd) : Int := match chk n 1 0 with
  | .error e => e
  | .ok _ => if 1048576 < nlen n then 10 else 0
theorem tCheck_ok {n : Nd} {cs : List TV} (hc : NdC n cs) (hl : nlen n ≤ 1000000000000000) (hcn : ncnt n ≤ 1000000000000000) {st : St} {K : Int → St → Prop} (hk : ∀ st', StExt st st' → K (chkV n) st') : CallT PR fn_tree_Check [.agg cs] [.one (.int .i64)] st K := by
  have hc0 := hc
  obtain ⟨k, l, t, ks, tl⟩ := n
  unfold NdC at hc
  obtain ⟨v, xs, rfl, hr, hx⟩ := hc
  unfold chkV at hk
  refine vc_tree_Check k l t v tl st K (stB_box (box_push st _ _) (by simp) (tcheck_ok _ hc0 (d := 1) (s := 0) (by decide) (by decide) (by decide) (by decide) hcn (st0 := st) ⟨?_, Nat.le_refl _, by rw [box_put]; rfl⟩ (fun s' st' hc hb => ?_) fun e st' hc hb => ?_))
  · exact ((StExt.refl st).push _ _).put (Nat.le_refl _) _
  · rw [hc] at hk
    refine BIf_intro (fun h => absurd rfl h) fun _ => tlen_ok _ hc0 hl hcn (BIf_intro (fun g => ?_) fun g => ?_)
    · have := hk _ hb.1
      rw [if_pos (by omega)] at this; exact this
    · have := hk _ hb.1
      rw [if_neg (by omega)] at this; exact this
  · rw [hc] at hk
    exact BIf_intro (fun _ => hk _ hb) fun h => absurd (Decidable.not_not.1 h) (chk_err_ne _ hc)
theorem rCheck_ok {n : Nd} {cs : List TV} (hc : NdC n cs) (hl : nlen n ≤ 1000000000000000) (hcn : ncnt n ≤ 1000000000000000) {st : St} {K : Int → St → Prop} (hk : K (chkV n) st) : CallT PR fn_datakitref13_Check [.agg cs] [.one (.int .i64)] st K := by
  have hc0 := hc
  obtain ⟨k, l, t, ks, tl⟩ := n
  unfold NdC at hc
  obtain ⟨v, xs, rfl, hr, hx⟩ := hc
  unfold chkV at hk
  refine vc_datakitref13_Check k l t v tl st K (rlook_ok _ hc0 (d := 1) (s := 0) (by decide) (by decide) (by decide) (by decide) hcn (fun s' hc => ?_) fun e x hc => ?_)
  · rw [hc] at hk
    refine BIf_intro (fun _ => rlen_ok _ hc0 hl hcn (BIf_intro (fun g => ?_) fun g => ?_)) fun h => absurd rfl h
    · rw [if_pos (by omega)] at hk; exact hk
    · rw [if_neg (by omega)] at hk; exact hk
  · rw [hc] at hk
    exact BIf_intro (fun h => absurd h (chk_err_ne _ hc)) fun _ => hk
end Go.TVF
end

section
set_option linter.unusedVariables false
set_option linter.unusedSimpArgs false
namespace Go.TVF
open Go Go.Proofs
theorem tsame_ok : ∀ (a b : Nd) {cs ds : List TV} (hc : NdC a cs) (hd : NdC b ds) (hcn : ncnt a ≤ 1000000000000000) {st : St} {K : Bool → St → Prop} (hk1 : a = b → K true st) (hk2 : a ≠ b → K false st),
    CallT PR fn_tree_Same [.agg cs, .agg ds] [.one (.bool)] st K
  | .mk k l t ks tl, .mk k' l' t' js tl', cs, ds, hc, hd, hcn, st, K, hk1, hk2 => by
    simp only [ncnt] at hcn
    have hkl0 := kcnt_len ks
    unfold NdC at hc hd
    obtain ⟨v, xs, rfl, hr, hx⟩ := hc
    obtain ⟨u, ys, rfl, hr', hy⟩ := hd
    refine vc_tree_Same k l t v tl k' l' t' u tl' st K (BIf_intro (fun g => hk2 fun h => by cases h; exact g rfl) fun g1 => BIf_intro (fun g => hk2 fun h => by cases h; exact g rfl) fun g2 => BIf_intro (fun g => hk2 fun h => by cases h; exact g rfl) fun g3 =>
      BIf_intro (fun g => hk2 fun h => by cases h; exact g rfl) fun g4 => need_intro hr.isSl (need_intro hr'.isSl ?_))
    have g1 := Decidable.not_not.1 g1
    have g2 := Decidable.not_not.1 g2
    have g3 := Decidable.not_not.1 g3
    have g4 := Decidable.not_not.1 g4
    subst g1 g2 g3 g4
    rw [hr.lenS, hr'.lenS]
    refine BIf_intro (fun g => hk2 fun h => by cases h; exact g rfl) fun g5 => need_intro hr.isSl ?_
    have hlen : ks.length = js.length := by omega
    refine ⟨fun i n k1 l1 t1 v1 tl1 k2 l2 t2 v2 tl2 st' => n = (ks.length : Int) ∧ v = v1 ∧ u = v2 ∧ st = st' ∧ ∃ j : Nat, i = (j : Int) ∧ j ≤ ks.length ∧ ks.take j = js.take j, fun i _ _ _ _ _ _ _ _ _ _ _ _ => (ks.length - i).toNat,
      ⟨rfl, rfl, rfl, rfl, 0, rfl, by omega, by simp⟩, ?_⟩
    rintro _ _ _ _ _ _ _ _ _ _ _ _ _ ⟨rfl, rfl, rfl, rfl, j, rfl, h1, heq⟩
    rw [hr.lenZ, hr'.lenZ, show Int.toNat (j : Int) = j from rfl]
    refine BIf_intro (fun q => ?_) fun q => ?_
    · have hlt : j < ks.length := by omega
      have hlt' : j < js.length := by omega
      have hget := List.getElem?_eq_getElem hlt
      have hget' := List.getElem?_eq_getElem hlt'
      generalize hn : ks[j] = n at hget
      generalize hm : js[j] = m at hget'
      obtain ⟨k1, l1, t1, a1, tl1⟩ := n
      obtain ⟨k2, l2, t2, a2, tl2⟩ := m
      have hcm := kcnt_mem ks hget
      obtain ⟨u1, ys1, hld, hu1, hu2, hu3⟩ := kid_ld hr hx blindSt hget
      obtain ⟨u2, ys2, hld', hv1, hv2, hv3⟩ := kid_ld hr' hy blindSt hget'
      refine ⟨⟨by omega, by omega⟩, optK_intro hld ⟨⟨by omega, by omega⟩, optK_intro hld' ?_⟩⟩
      refine tsame_ok (.mk k1 l1 t1 a1 tl1) (.mk k2 l2 t2 a2 tl2) (by unfold NdC; exact ⟨u1, ys1, rfl, hu1, hu2⟩) (by unfold NdC; exact ⟨u2, ys2, rfl, hv1, hv2⟩) (by omega) (fun he => ?_) fun he => ?_
      · refine BIf_bool (fun h => by cases h) fun _ => ?_
        rw [wrap64 ((j : Int) + 1) (by omega) (by omega)]
        exact ⟨⟨rfl, rfl, rfl, rfl, j + 1, by omega, by omega, by rw [List.take_add_one, List.take_add_one, heq, hget, hget', he]⟩, by dsimp only; omega⟩
      · refine BIf_bool (fun _ => hk2 fun h => he ?_) fun h => by cases h
        cases h
        rw [hget] at hget'
        exact Option.some.inj hget'
    · rw [List.take_of_length_le (by omega), List.take_of_length_le (by omega)] at heq
      exact hk1 (by rw [heq])
termination_by a => SizeOf.sizeOf a
decreasing_by
  have := List.sizeOf_lt_of_mem (mem_of_get hget)
  simp only [Nd.mk.sizeOf_spec] at this ⊢
  omega
theorem rsame_ok : ∀ (a b : Nd) {cs ds : List TV} (hc : NdC a cs) (hd : NdC b ds) (hcn : ncnt a ≤ 1000000000000000) {st : St} {K : Bool → St → Prop} (hk1 : a = b → K true st) (hk2 : a ≠ b → K false st),
    CallT PR fn_datakitref13_Same [.agg cs, .agg ds] [.one (.bool)] st K
  | .mk k l t ks tl, .mk k' l' t' js tl', cs, ds, hc, hd, hcn, st, K, hk1, hk2 => by
    simp only [ncnt] at hcn
    have hkl0 := kcnt_len ks
    unfold NdC at hc hd
    obtain ⟨v, xs, rfl, hr, hx⟩ := hc
    obtain ⟨u, ys, rfl, hr', hy⟩ := hd
    refine vc_datakitref13_Same k l t v tl k' l' t' u tl' st K (BIf_intro (fun g => hk2 fun h => by cases h; exact g rfl) fun g1 => BIf_intro (fun g => hk2 fun h => by cases h; exact g rfl) fun g2 => BIf_intro (fun g => hk2 fun h => by cases h; exact g rfl) fun g3 =>
      BIf_intro (fun g => hk2 fun h => by cases h; exact g rfl) fun g4 => need_intro hr.isSl (need_intro hr'.isSl ?_))
    have g1 := Decidable.not_not.1 g1
    have g2 := Decidable.not_not.1 g2
    have g3 := Decidable.not_not.1 g3
    have g4 := Decidable.not_not.1 g4
    subst g1 g2 g3 g4
    rw [hr.lenS, hr'.lenS]
    refine BIf_intro (fun g => hk2 fun h => by cases h; exact g rfl) fun g5 => ?_
    have hlen : ks.length = js.length := by omega
    refine ⟨fun i k1 l1 t1 v1 tl1 k2 l2 t2 v2 tl2 st' => v = v1 ∧ u = v2 ∧ st = st' ∧ ∃ j : Nat, i = (j : Int) ∧ j ≤ ks.length ∧ ks.take j = js.take j, fun i _ _ _ _ _ _ _ _ _ _ _ => (ks.length - i).toNat,
      ⟨rfl, rfl, rfl, 0, rfl, by omega, by simp⟩, ?_⟩
    rintro _ _ _ _ _ _ _ _ _ _ _ _ ⟨rfl, rfl, rfl, j, rfl, h1, heq⟩
    refine need_intro hr.isSl ?_
    rw [hr.lenS, hr.lenZ, hr'.lenZ, show Int.toNat (j : Int) = j from rfl]
    refine BIf_intro (fun q => ?_) fun q => ?_
    · have hlt : j < ks.length := by omega
      have hlt' : j < js.length := by omega
      have hget := List.getElem?_eq_getElem hlt
      have hget' := List.getElem?_eq_getElem hlt'
      generalize hn : ks[j] = n at hget
      generalize hm : js[j] = m at hget'
      obtain ⟨k1, l1, t1, a1, tl1⟩ := n
      obtain ⟨k2, l2, t2, a2, tl2⟩ := m
      have hcm := kcnt_mem ks hget
      obtain ⟨u1, ys1, hld, hu1, hu2, hu3⟩ := kid_ld hr hx blindSt hget
      obtain ⟨u2, ys2, hld', hv1, hv2, hv3⟩ := kid_ld hr' hy blindSt hget'
      refine ⟨⟨by omega, by omega⟩, optK_intro hld ⟨⟨by omega, by omega⟩, optK_intro hld' ?_⟩⟩
      refine rsame_ok (.mk k1 l1 t1 a1 tl1) (.mk k2 l2 t2 a2 tl2) (by unfold NdC; exact ⟨u1, ys1, rfl, hu1, hu2⟩) (by unfold NdC; exact ⟨u2, ys2, rfl, hv1, hv2⟩) (by omega) (fun he => ?_) fun he => ?_
      · refine BIf_bool (fun h => by cases h) fun _ => ?_
        rw [wrap64 ((j : Int) + 1) (by omega) (by omega)]
        exact ⟨⟨rfl, rfl, rfl, j + 1, by omega, by omega, by rw [List.take_add_one, List.take_add_one, heq, hget, hget', he]⟩, by dsimp only; omega⟩
      · refine BIf_bool (fun _ => hk2 fun h => he ?_) fun h => by cases h
        cases h
        rw [hget] at hget'
        exact Option.some.inj hget'
    · rw [List.take_of_length_le (by omega), List.take_of_length_le (by omega)] at heq
      exact hk1 (by rw [heq])
termination_by a => SizeOf.sizeOf a
decreasing_by
  have := List.sizeOf_lt_of_mem (mem_of_get hget)
  simp only [Nd.mk.sizeOf_spec] at this ⊢
  omega
mutual
def roomV : Nd → Int → Int → Int → Int
  | .mk k l t ks tl, left, d, long => if d ≤ 0 ∨ left - 1 < ks.length ∨ long < l.length ∨ long < t.length ∨ long < tl.length then -1 else roomL ks (left - 1) (d - 1) long
def roomL : List Nd → Int → Int → Int → Int
  | [], left, d, long => left
  | n :: r, left, d, long => if left < 0 then left else roomL r (roomV n left d long) d long
end
mutual
theorem roomV_le : ∀ (n : Nd) {left d long : Int}, 0 ≤ left → -1 ≤ roomV n left d long ∧ roomV n left d long ≤ left
  | .mk k l t ks tl, left, d, long, h => by
    unfold roomV
    split
    · omega
    · rename_i hn
      have := roomL_le ks (left := left - 1) (d := d - 1) (long := long) (by omega)
      omega
theorem roomL_le : ∀ (ks : List Nd) {left d long : Int}, -1 ≤ left → -1 ≤ roomL ks left d long ∧ roomL ks left d long ≤ left
  | [], left, d, long, h => by unfold roomL; omega
  | n :: r, left, d, long, h => by
    unfold roomL
    split
    · omega
    · have h1 := roomV_le n (left := left) (d := d) (long := long) (by omega)
      have h2 := roomL_le r (left := roomV n left d long) (d := d) (long := long) h1.1
      omega
end
mutual
theorem roomV_len : ∀ (n : Nd) {left d : Int} {long : Nat}, 0 ≤ left → 0 ≤ roomV n left d long → (nlen n : Int) + roomV n left d long * (3 * long) ≤ left * (3 * long)
  | .mk k l t ks tl, left, d, long, h, h0 => by
    unfold roomV at h0 ⊢
    split
    · rename_i hb; rw [if_pos hb] at h0; omega
    · rename_i hn
      rw [if_neg hn] at h0
      have := roomL_len ks (left := left - 1) (d := d - 1) (long := long) (by omega) h0
      rw [Int.sub_mul] at this
      simp only [nlen]
      generalize roomL ks (left - 1) (d - 1) long * (3 * (long : Int)) = a at *
      generalize left * (3 * (long : Int)) = b at *
      omega
theorem roomL_len : ∀ (ks : List Nd) {left d : Int} {long : Nat}, -1 ≤ left → 0 ≤ roomL ks left d long → (klen ks : Int) + roomL ks left d long * (3 * long) ≤ left * (3 * long)
  | [], left, d, long, h, h0 => by unfold roomL klen; simp
  | n :: r, left, d, long, h, h0 => by
    unfold roomL at h0 ⊢
    split
    · rename_i hb; rw [if_pos hb] at h0; omega
    · rename_i hn
      rw [if_neg hn] at h0
      have h1 := roomV_le n (left := left) (d := d) (long := long) (by omega)
      have h2 := roomL_le r (left := roomV n left d long) (d := d) (long := long) h1.1
      have h3 := roomL_len r h1.1 h0
      have h4 := roomV_len n (left := left) (d := d) (long := long) (by omega) (by omega)
      simp only [klen]
      omega
end
mutual
theorem roomV_cnt : ∀ (n : Nd) {left d long : Int}, 0 ≤ left → 0 ≤ roomV n left d long → (ncnt n : Int) + roomV n left d long ≤ left
  | .mk k l t ks tl, left, d, long, h, h0 => by
    unfold roomV at h0 ⊢
    split
    · rename_i hb; rw [if_pos hb] at h0; omega
    · rename_i hn
      rw [if_neg hn] at h0
      have := roomL_cnt ks (left := left - 1) (d := d - 1) (long := long) (by omega) h0
      simp only [ncnt]
      omega
theorem roomL_cnt : ∀ (ks : List Nd) {left d long : Int}, -1 ≤ left → 0 ≤ roomL ks left d long → (kcnt ks : Int) + roomL ks left d long ≤ left
  | [], left, d, long, h, h0 => by unfold roomL kcnt; simp
  | n :: r, left, d, long, h, h0 => by
    unfold roomL at h0 ⊢
    split
    · rename_i hb; rw [if_pos hb] at h0; omega
    · rename_i hn
      rw [if_neg hn] at h0
      have h1 := roomV_le n (left := left) (d := d) (long := long) (by omega)
      have h2 := roomL_le r (left := roomV n left d long) (d := d) (long := long) h1.1
      have h3 := roomL_cnt r h1.1 h0
      have h4 := roomV_cnt n (left := left) (d := d) (long := long) (by omega) (by omega)
      simp only [kcnt]
      omega
end
theorem room_ok : ∀ (n : Nd) {cs : List TV} (hc : NdC n cs) {left d long : Int} (hl : 0 ≤ left) (hl2 : left ≤ 1000000) (hd : -1000 ≤ d) (hd2 : d ≤ 1000) {st : St} {K : Int → St → Prop} (hk : K (roomV n left d long) st),
    CallT PR fn_datakitref13_room [.agg cs, .int .i64 left, .int .i64 d, .int .i64 long] [.one (.int .i64)] st K
  | .mk k l t ks tl, cs, hc, left, d, long, hl, hl2, hd, hd2, st, K, hk => by
    unfold NdC at hc
    obtain ⟨v, xs, rfl, hr, hx⟩ := hc
    unfold roomV at hk
    refine vc_datakitref13_room k l t v tl left d long st K (BIf_intro (fun g => ?_) fun g => need_intro hr.isSl ?_)
    · rw [if_pos (.inl g)] at hk; exact hk
    rw [wrap64 (left - 1) (by omega) (by omega), hr.lenS]
    refine BIf_intro (fun g2 => ?_) fun g2 => BIf_intro (fun g3 => ?_) fun g3 => BIf_intro (fun g4 => ?_) fun g4 => BIf_intro (fun g5 => ?_) fun g5 => ?_
    · rw [if_pos (by omega)] at hk; exact hk
    · rw [if_pos (by omega)] at hk; exact hk
    · rw [if_pos (by omega)] at hk; exact hk
    · rw [if_pos (by omega)] at hk; exact hk
    rw [if_neg (by omega)] at hk
    refine ⟨fun lf i d' lg k1 l1 t1 v1 tl1 st' => d = d' ∧ long = lg ∧ v = v1 ∧ st = st' ∧ ∃ j : Nat, i = (j : Int) ∧ j ≤ ks.length ∧ roomL ks (left - 1) (d - 1) long = roomL (ks.drop j) lf (d - 1) long ∧ -1 ≤ lf ∧ lf ≤ 1000000,
      fun _ i _ _ _ _ _ _ _ _ => (ks.length - i).toNat, ⟨rfl, rfl, rfl, rfl, 0, rfl, by omega, rfl, by omega, by omega⟩, ?_⟩
    rintro lf _ _ _ _ _ _ _ _ _ ⟨rfl, rfl, rfl, rfl, j, rfl, h1, heq, h2, h3⟩
    refine need_intro hr.isSl ?_
    rw [hr.lenS, hr.lenZ, show Int.toNat (j : Int) = j from rfl]
    refine BIf_intro (fun q => BIf_intro (fun q2 => ?_) fun q2 => ?_) fun q => ?_
    · have hlt : j < ks.length := by omega
      have hget := List.getElem?_eq_getElem hlt
      have hdrop := List.drop_eq_getElem_cons hlt
      generalize hn : ks[j] = n at hget hdrop
      obtain ⟨k', l', t', js, tl'⟩ := n
      obtain ⟨u, ys, hld, hu1, hu2, hu3⟩ := kid_ld hr hx st hget
      rw [hdrop, roomL, if_neg (by omega)] at heq
      refine ⟨⟨by omega, by omega⟩, optK_intro hld ?_⟩
      rw [wrap64 (d - 1) (by omega) (by omega), wrap64 ((j : Int) + 1) (by omega) (by omega)]
      have hle := roomV_le (.mk k' l' t' js tl') (left := lf) (d := d - 1) (long := long) q2
      refine room_ok (.mk k' l' t' js tl') (by unfold NdC; exact ⟨u, ys, rfl, hu1, hu2⟩) q2 h3 (by omega) (by omega) ?_
      exact ⟨⟨rfl, rfl, rfl, rfl, j + 1, by omega, by omega, heq, hle.1, by omega⟩, by dsimp only; omega⟩
    · have hlt : j < ks.length := by omega
      rw [List.drop_eq_getElem_cons hlt, roomL, if_pos (by omega)] at heq
      rw [heq] at hk; exact hk
    · rw [List.drop_of_length_le (by omega), roomL] at heq
      rw [heq] at hk; exact hk
termination_by n => SizeOf.sizeOf n
decreasing_by
  have := List.sizeOf_lt_of_mem (mem_of_get hget)
  simp only [Nd.mk.sizeOf_spec] at this ⊢
  omega
theorem small_ok {n : Nd} {cs : List TV} (hc : NdC n cs) {long : Int} {st : St} {K : Bool → St → Prop} (hk : K (decide (0 ≤ roomV n 600 10 long)) st) :
    CallT PR fn_datakitref13_Small [.agg cs, .int .i64 600, .int .i64 10, .int .i64 long] [.one (.bool)] st K := by
  have hc0 := hc
  obtain ⟨k, l, t, ks, tl⟩ := n
  unfold NdC at hc
  obtain ⟨v, xs, rfl, hr, hx⟩ := hc
  exact vc_datakitref13_Small k l t v tl 600 10 long st K (room_ok _ hc0 (by decide) (by decide) (by decide) (by decide) hk)
end Go.TVF
end

section
set_option linter.unusedVariables false
set_option linter.unusedSimpArgs false
namespace Go.TVF
open Go Go.Proofs
def letB (c : Int) : Bool := decide (97 ≤ c ∧ c ≤ 122 ∨ 65 ≤ c ∧ c ≤ 90)
def specB (c : Int) : Bool := decide (97 ≤ c ∧ c ≤ 122 ∨ 65 ≤ c ∧ c ≤ 90 ∨ 48 ≤ c ∧ c ≤ 57 ∨ c = 43 ∨ c = 45 ∨ c = 46 ∨ c = 58)
def dOk (a b : Int) : Bool := decide (((a = 9 ∨ (32 ≤ a ∧ a ≤ 126)) ∧ 33 ≤ b ∧ b ≤ 126 ∧ a ≠ b) ∧ specB a = false ∧ specB b = false)
def lOk (a b c d e : Int) : Bool := decide (1 ≤ a ∧ a ≤ 48 ∧ 1 ≤ b ∧ b ≤ 65536 ∧ 1 ≤ c ∧ c ≤ 1048576 ∧ 0 ≤ d ∧ d ≤ 1024 ∧ 0 ≤ e ∧ e ≤ 65536)
theorem dletter_ok {c : Int} {st : St} {K : Bool → St → Prop} (hk : K (letB c) st) : CallT PR fn_delim_letter [.int .u8 c] [.one (.bool)] st K := by
  unfold letB at hk
  refine vc_delim_letter c st K ?_
  repeat' first
    | exact K_eq (decide_eq_true (by omega)).symm hk
    | exact K_eq (decide_eq_false (by omega)).symm hk
    | exact K_eq (decide_eq_decide.2 (by omega)) hk
    | refine BIf_intro (fun _ => ?_) fun _ => ?_
theorem special_ok {c : Int} {st : St} {K : Bool → St → Prop} (hk : K (specB c) st) : CallT PR fn_delim_special [.int .u8 c] [.one (.bool)] st K := by
  unfold specB at hk
  refine vc_delim_special c st K (dletter_ok (BIf_bool (fun h => ?_) fun h => ?_))
  · have h := of_decide_eq_true h
    exact K_eq (decide_eq_true (by omega)).symm hk
  · have h := of_decide_eq_false h
    repeat' first
      | exact K_eq (decide_eq_true (by omega)).symm hk
      | exact K_eq (decide_eq_false (by omega)).symm hk
      | exact K_eq (decide_eq_decide.2 (by omega)) hk
      | refine BIf_intro (fun _ => ?_) fun _ => ?_
theorem dvalid_ok {a b : Int} {x y : Bool} {st : St} {K : Bool → St → Prop} (hk : K (dOk a b) st) : CallT PR fn_delim_Valid [.agg [.int .u8 a, .int .u8 b, .bool x, .bool y]] [.one (.bool)] st K := by
  unfold dOk at hk
  have no : ¬ (((a = 9 ∨ (32 ≤ a ∧ a ≤ 126)) ∧ 33 ≤ b ∧ b ≤ 126 ∧ a ≠ b) ∧ specB a = false ∧ specB b = false) → K false st := fun h => K_eq (decide_eq_false h).symm hk
  have yes : ((a = 9 ∨ (32 ≤ a ∧ a ≤ 126)) ∧ 33 ≤ b ∧ b ≤ 126 ∧ a ≠ b) → specB a = false → K (!specB b) st := fun h h1 => by
    cases hb : specB b with
    | true => exact no fun hh => by rw [hb] at hh; exact absurd hh.2.2 (by decide)
    | false => exact K_eq (decide_eq_true ⟨h, h1, hb⟩).symm hk
  refine vc_delim_Valid a b x y st K ?_
  repeat' first
    | exact no (by omega)
    | refine BIf_intro (fun _ => ?_) fun _ => ?_
  all_goals
    refine special_ok (BIf_bool (fun h => ?_) fun h => no fun hh => by rw [hh.2.1] at h; cases h)
    simp only [Bool.not_eq_true'] at h
    exact special_ok (yes (by omega) h)
theorem mark_ok {c : Int} {st : St} {K : Bool → St → Prop} (hk : K (!specB c) st) : CallT PR fn_datakitref27_mark [.int .u8 c] [.one (.bool)] st K := by
  have e : ∀ b, b = !specB c → K b st := fun b h => h ▸ hk
  unfold specB at e
  refine vc_datakitref27_mark c st K (letter_ok (BIf_bool (fun h => digit_ok (BIf_bool (fun h2 => ?_) fun h2 => ?_)) fun h => ?_))
  all_goals simp only [letterB, digitB, Bool.not_eq_true', Bool.not_eq_false', decide_eq_true_eq, decide_eq_false_iff_not] at h
  · simp only [letterB, digitB, Bool.not_eq_true', Bool.not_eq_false', decide_eq_true_eq, decide_eq_false_iff_not] at h2
    repeat' first
      | refine BIf_intro (fun _ => ?_) fun _ => ?_
    all_goals
      refine e _ ?_
      rw [← decide_not]
      first
        | exact decide_eq_decide.2 (by omega)
        | exact (decide_eq_false (by omega)).symm
  · simp only [letterB, digitB, Bool.not_eq_true', Bool.not_eq_false', decide_eq_true_eq, decide_eq_false_iff_not] at h2
    exact e _ (by rw [← decide_not]; exact (decide_eq_false (by omega)).symm)
  · exact e _ (by rw [← decide_not]; exact (decide_eq_false (by omega)).symm)
theorem rdvalid_ok {a b : Int} {x y : Bool} {st : St} {K : Bool → St → Prop} (hk : K (dOk a b) st) : CallT PR fn_datakitref27_Valid [.agg [.int .u8 a, .int .u8 b, .bool x, .bool y]] [.one (.bool)] st K := by
  unfold dOk at hk
  have no : ¬ (((a = 9 ∨ (32 ≤ a ∧ a ≤ 126)) ∧ 33 ≤ b ∧ b ≤ 126 ∧ a ≠ b) ∧ specB a = false ∧ specB b = false) → K false st := fun h => K_eq (decide_eq_false h).symm hk
  have yes : ((a = 9 ∨ (32 ≤ a ∧ a ≤ 126)) ∧ 33 ≤ b ∧ b ≤ 126 ∧ a ≠ b) → specB a = false → K (!specB b) st := fun h h1 => by
    cases hb : specB b with
    | true => exact no fun hh => by rw [hb] at hh; exact absurd hh.2.2 (by decide)
    | false => exact K_eq (decide_eq_true ⟨h, h1, hb⟩).symm hk
  refine vc_datakitref27_Valid a b x y st K ?_
  repeat' first
    | exact no (by omega)
    | refine BIf_intro (fun _ => ?_) fun _ => ?_
  all_goals
    refine mark_ok (BIf_bool (fun h => ?_) fun h => no fun hh => by rw [hh.2.1] at h; cases h)
    simp only [Bool.not_eq_true'] at h
    exact mark_ok (yes (by omega) h)
theorem lvalid_ok {a b c d e : Int} {st : St} {K : Bool → St → Prop} (hk : K (lOk a b c d e) st) : CallT PR fn_limit_Valid [.agg [.int .i64 a, .int .i64 b, .int .i64 c, .int .i64 d, .int .i64 e]] [.one (.bool)] st K := by
  unfold lOk at hk
  refine vc_limit_Valid a b c d e st K ?_
  repeat' first
    | exact K_eq (decide_eq_false (by omega)).symm hk
    | exact K_eq (decide_eq_decide.2 (by omega)) hk
    | refine BIf_intro (fun _ => ?_) fun _ => ?_
theorem rlvalid_ok {a b c d e : Int} {st : St} {K : Bool → St → Prop} (hk : K (lOk a b c d e) st) : CallT PR fn_datakitref11_Valid [.agg [.int .i64 a, .int .i64 b, .int .i64 c, .int .i64 d, .int .i64 e]] [.one (.bool)] st K := by
  unfold lOk at hk
  refine vc_datakitref11_Valid a b c d e st K ?_
  repeat' first
    | exact K_eq (decide_eq_false (by omega)).symm hk
    | exact K_eq (decide_eq_decide.2 (by omega)) hk
    | refine BIf_intro (fun _ => ?_) fun _ => ?_
end Go.TVF
end

section
set_option linter.unusedVariables false
set_option linter.unusedSimpArgs false
namespace Go.TVF
open Go Go.Proofs
/-- The byte at a place. -/
def by_ (s : List UInt8) (i : Nat) : Int := ((s.getD i 0).toNat : Int)
/-- The end of a quoted cell, behind its first mark. -/
def qEnd (q : Int) : List UInt8 → Nat → Option Nat
  | [], _ => none
  | [c], i => if (c.toNat : Int) = q then some (i + 1) else none
  | c :: c2 :: l, i => if (c.toNat : Int) = q then (if (c2.toNat : Int) = q then qEnd q l (i + 2) else some (i + 1)) else qEnd q (c2 :: l) (i + 1)
/-- The end of a plain cell, or where a mark stands in it. -/
def pEnd (a q : Int) : List UInt8 → Nat → Except Nat Nat
  | [], i => .ok i
  | c :: l, i => if (c.toNat : Int) = a ∨ (c.toNat : Int) = 10 ∨ (c.toNat : Int) = 13 then .ok i else if (c.toNat : Int) = q then .error i else pEnd a q l (i + 1)
def QE (q : Int) (s : List UInt8) (i : Nat) : Option Nat := qEnd q (s.drop i) i
def PE (a q : Int) (s : List UInt8) (i : Nat) : Except Nat Nat := pEnd a q (s.drop i) i
theorem drop_by {s : List UInt8} {i : Nat} (h : i < s.length) : ∃ c, s.drop i = c :: s.drop (i + 1) ∧ (c.toNat : Int) = by_ s i := by
  refine ⟨s[i], List.drop_eq_getElem_cons h, ?_⟩
  unfold by_
  rw [List.getD_eq_getElem?_getD, List.getElem?_eq_getElem h]; rfl
theorem QE_end {q : Int} {s : List UInt8} {i : Nat} (h : s.length ≤ i) : QE q s i = none := by
  unfold QE; rw [List.drop_of_length_le h]; rfl
theorem QE_other {q : Int} {s : List UInt8} {i : Nat} (h : i < s.length) (hb : by_ s i ≠ q) : QE q s i = QE q s (i + 1) := by
  obtain ⟨c, hd, hc⟩ := drop_by h
  unfold QE
  rw [hd]
  cases hr : s.drop (i + 1) with
  | nil => simp only [qEnd]; rw [if_neg (by omega)]
  | cons c2 l => simp only [qEnd]; rw [if_neg (by omega)]
theorem QE_last {q : Int} {s : List UInt8} {i : Nat} (h : i < s.length) (hb : by_ s i = q) (h2 : i + 1 < s.length → by_ s (i + 1) ≠ q) : QE q s i = some (i + 1) := by
  obtain ⟨c, hd, hc⟩ := drop_by h
  unfold QE
  rw [hd]
  by_cases hl : i + 1 < s.length
  · obtain ⟨c2, hd2, hc2⟩ := drop_by hl
    rw [hd2]
    simp only [qEnd]
    rw [if_pos (by omega), if_neg (by have := h2 hl; omega)]
  · rw [List.drop_of_length_le (by omega)]
    simp only [qEnd]; rw [if_pos (by omega)]
theorem QE_pair {q : Int} {s : List UInt8} {i : Nat} (h : i + 1 < s.length) (hb : by_ s i = q) (h2 : by_ s (i + 1) = q) : QE q s i = QE q s (i + 2) := by
  obtain ⟨c, hd, hc⟩ := drop_by (show i < s.length by omega)
  obtain ⟨c2, hd2, hc2⟩ := drop_by h
  unfold QE
  rw [hd, hd2]
  simp only [qEnd]
  rw [if_pos (by omega), if_pos (by omega)]
theorem PE_end {a q : Int} {s : List UInt8} {i : Nat} (h : s.length ≤ i) : PE a q s i = .ok i := by
  unfold PE; rw [List.drop_of_length_le h]; rfl
theorem PE_stop {a q : Int} {s : List UInt8} {i : Nat} (h : i < s.length) (hb : by_ s i = a ∨ by_ s i = 10 ∨ by_ s i = 13) : PE a q s i = .ok i := by
  obtain ⟨c, hd, hc⟩ := drop_by h
  unfold PE; rw [hd]; simp only [pEnd]; rw [if_pos (by rw [hc]; exact hb)]
theorem PE_mark {a q : Int} {s : List UInt8} {i : Nat} (h : i < s.length) (hb : ¬ (by_ s i = a ∨ by_ s i = 10 ∨ by_ s i = 13)) (hq : by_ s i = q) : PE a q s i = .error i := by
  obtain ⟨c, hd, hc⟩ := drop_by h
  unfold PE; rw [hd]; simp only [pEnd]; rw [if_neg (by rw [hc]; exact hb), if_pos (by omega)]
theorem PE_next {a q : Int} {s : List UInt8} {i : Nat} (h : i < s.length) (hb : ¬ (by_ s i = a ∨ by_ s i = 10 ∨ by_ s i = 13)) (hq : by_ s i ≠ q) : PE a q s i = PE a q s (i + 1) := by
  obtain ⟨c, hd, hc⟩ := drop_by h
  unfold PE; rw [hd]; simp only [pEnd]; rw [if_neg (by rw [hc]; exact hb), if_neg (by omega)]
/-- A cell's end, or what is wrong, and where. -/
def cellE (a q : Int) (s : List UInt8) (i : Nat) : Except (Nat × Int) Nat :=
  if i < s.length ∧ by_ s i = q then (match QE q s (i + 1) with | some e => .ok e | none => .error (s.length, 4))
  else match PE a q s i with | .ok e => .ok e | .error o => .error (o, 3)
/-- The bytes from a place to another. -/
def slc (s : List UInt8) (i e : Nat) : List UInt8 := (s.take e).drop i
/-- Marks taken singly. -/
def unqm (q : Int) : List UInt8 → List UInt8
  | [] => []
  | [c] => [c]
  | c :: c2 :: l => if (c.toNat : Int) = q then c :: unqm q l else c :: unqm q (c2 :: l)
/-- What a cell stands for. -/
def txt (q : Int) (c : List UInt8) : List UInt8 := if c = [] ∨ by_ c 0 ≠ q then c else unqm q ((c.take (c.length - 1)).drop 1)
/-- The line end at a place: how long; or what is wrong, and where. -/
def lineE (s : List UInt8) (i : Nat) : Except (Nat × Int) Nat :=
  if s.length ≤ i then .ok 0 else if by_ s i = 10 then .ok 1 else if by_ s i ≠ 13 then .error (i, 3) else if s.length ≤ i + 1 then .error (s.length, 4) else if by_ s (i + 1) = 10 then .ok 2 else .error (i, 3)
/-- One more value. -/
def begE (dep nod : Int) (d : Int) (i : Nat) (v : Int) : Except (Nat × Int) Int := if dep < d then .error (i, 9) else if nod ≤ v then .error (i, 10) else .ok (v + 1)
/-- What is read, with which dialect and limits. -/
structure Cx where
  s : List UInt8
  a : Int
  q : Int
  dep : Int
  nod : Int
/-- An entry: the cell's end, the values, the names. -/
def entE (x : Cx) (hd : Bool) (i : Nat) (v : Int) (ns : List (List UInt8)) : Except (Nat × Int) (Nat × Int × List (List UInt8)) := do
  let v1 ← if hd then .ok v else begE x.dep x.nod 3 i v
  let e ← cellE x.a x.q x.s i
  let t := txt x.q (slc x.s i e)
  if (if hd then 1024 else 65536) < t.length then .error (i, 10)
  else if hd ∧ t ∈ ns then .error (i, 8)
  else .ok (e, v1, if hd then t :: ns else ns)
def entN (s : List UInt8) (i e : Nat) (mark : List Nd) : Nd := .mk 5 [] [] (.mk 2 [] (slc s i e) [] [] :: mark) []
/-- The entries of a record: where they end, the values, the entries. -/
def recE (x : Cx) (num : Bool) (wid : Int) (hd : Bool) : Nat → List Nd → Nat → Int → List (List UInt8) → Except (Nat × Int) (Nat × Int × List (List UInt8) × List Nd)
  | 0, _, _, _, _ => .error (0, 0)
  | n + 1, acc, i, v, ns =>
    if num ∧ wid ≤ acc.length then .error (i, 10) else do
      let (e, v1, ns1) ← entE x hd i v ns
      if e < x.s.length ∧ by_ x.s e = x.a then recE x num wid hd n (acc ++ [entN x.s i e [.mk 11 [] [x.s.getD e 0] [] []]]) (e + 1) v1 ns1
      else do
        let _ ← lineE x.s e
        .ok (e, v1, ns1, acc ++ [entN x.s i e []])
end Go.TVF
end

section
set_option linter.unusedVariables false
set_option linter.unusedSimpArgs false
namespace Go.TVF
open Go Go.Proofs
/-- Marks doubled. -/
def dbl (c : UInt8) (t : List UInt8) : List UInt8 := t.flatMap (sub1 c [c, c])
theorem dbl_cons (c b : UInt8) (t : List UInt8) : dbl c (b :: t) = (if b = c then [c, c] else [b]) ++ dbl c t := by
  simp [dbl, sub1]
theorem qEnd_spec {q : Int} {c : UInt8} (hc : (c.toNat : Int) = q) : ∀ (n : Nat) (l : List UInt8) (i e : Nat), l.length ≤ n → qEnd q l i = some e → ∃ t rest, l = dbl c t ++ c :: rest ∧ e = i + (dbl c t).length + 1 := by
  have heq : ∀ b : UInt8, (b.toNat : Int) = q ↔ b = c := fun b => ⟨fun h => UInt8.toNat_inj.1 (by omega), fun h => by rw [h]; exact hc⟩
  intro n
  induction n with
  | zero => intro l i e hl h; have : l = [] := List.eq_nil_of_length_eq_zero (by omega); subst this; simp [qEnd] at h
  | succ n ih =>
    intro l i e hl h
    match l, hl, h with
    | [], _, h => simp [qEnd] at h
    | [b], _, h =>
      simp only [qEnd] at h
      split at h
      · rename_i hb
        cases h
        exact ⟨[], [], by rw [(heq b).1 hb]; rfl, rfl⟩
      · cases h
    | b :: b2 :: l, hl, h =>
      simp only [qEnd] at h
      split at h
      · rename_i hb
        have hb := (heq b).1 hb
        split at h
        · rename_i hb2
          have hb2 := (heq b2).1 hb2
          obtain ⟨t, rest, h1, h2⟩ := ih l (i + 2) e (by simp at hl; omega) h
          refine ⟨c :: t, rest, ?_, ?_⟩
          · rw [hb, hb2, h1, dbl_cons]; simp
          · rw [h2, dbl_cons]; simp; omega
        · cases h
          exact ⟨[], b2 :: l, by rw [hb]; rfl, rfl⟩
      · rename_i hb
        have hb : b ≠ c := fun h => hb ((heq b).2 h)
        obtain ⟨t, rest, h1, h2⟩ := ih (b2 :: l) (i + 1) e (by simp at hl ⊢; omega) h
        refine ⟨b :: t, rest, ?_, ?_⟩
        · rw [h1, dbl_cons, if_neg hb]; simp
        · rw [h2, dbl_cons, if_neg hb]; simp; omega
theorem unqm_dbl {q : Int} {c : UInt8} (hc : (c.toNat : Int) = q) : ∀ t : List UInt8, unqm q (dbl c t) = t
  | [] => rfl
  | b :: t => by
    have ih := unqm_dbl hc t
    rw [dbl_cons]
    by_cases hb : b = c
    · subst hb
      simp only [if_true, List.cons_append, List.nil_append, unqm]
      rw [if_pos hc, ih]
    · rw [if_neg hb]
      have hb' : (b.toNat : Int) ≠ q := fun h => hb (UInt8.toNat_inj.1 (by omega))
      simp only [List.cons_append, List.nil_append]
      cases hd : dbl c t with
      | nil => rw [hd] at ih; simp only [unqm] at ih ⊢; rw [← ih]
      | cons b2 l => simp only [unqm]; rw [if_neg hb', ← hd, ih]
end Go.TVF
end

section
set_option linter.unusedVariables false
set_option linter.unusedSimpArgs false
namespace Go.TVF
open Go Go.Proofs
theorem split_first (c : UInt8) : ∀ t : List UInt8, c ∉ t ∨ ∃ a b, t = a ++ c :: b ∧ c ∉ a
  | [] => .inl (by simp)
  | d :: t => by
    by_cases h : d = c
    · exact .inr ⟨[], t, by rw [h]; rfl, by simp⟩
    · rcases split_first c t with h1 | ⟨a, b, h1, h2⟩
      · exact .inl (by simp [Ne.symm h, h1])
      · exact .inr ⟨d :: a, b, by rw [h1]; rfl, by simp [Ne.symm h, h2]⟩
theorem dbl_none {c : UInt8} {t : List UInt8} (h : c ∉ t) : dbl c t = t := flat_none c [c, c] t h
theorem dbl_app (c : UInt8) (a b : List UInt8) : dbl c (a ++ b) = dbl c a ++ dbl c b := by simp [dbl]
theorem index_pre (c : UInt8) (l : List UInt8) : ∀ a : List UInt8, c ∉ a → Lib.index (a ++ l) [c, c] = if Lib.index l [c, c] = -1 then -1 else Lib.index l [c, c] + a.length
  | [], _ => by simp
  | d :: a, h => by
    simp only [List.mem_cons, not_or] at h
    have hp : [c, c].isPrefixOf (d :: (a ++ l)) = false := by simp [List.isPrefixOf, h.1]
    rw [List.cons_append, Lib.index, hp, index_pre c l a h.2]
    have hge := Lib.index_ge l [c, c]
    by_cases hm : Lib.index l [c, c] = -1
    · simp [hm]
    · have : ¬ (Lib.index l [c, c] + (a.length : Int) = -1) := by omega
      simp [hm, this]; omega
theorem count2 (c : UInt8) : ∀ (n : Nat) (t : List UInt8), t.length ≤ n → Lib.count (dbl c t) [c, c] ≤ t.length ∧ Lib.replaceK [c, c] [c] (Lib.count (dbl c t) [c, c]) (dbl c t) = t := by
  intro n
  induction n with
  | zero =>
    intro t ht
    have : t = [] := List.eq_nil_of_length_eq_zero (by omega)
    subst this
    have h0 : Lib.count (dbl c []) [c, c] = 0 := Lib.count_miss (by simp [dbl, Lib.index])
    rw [h0]; exact ⟨by simp, rfl⟩
  | succ n ih =>
    intro t ht
    rcases split_first c t with h | ⟨a, b, h1, h2⟩
    · rw [dbl_none h]
      have : Lib.index t [c, c] = -1 := by
        have := index_pre c [] t h
        simpa [Lib.index] using this
      rw [Lib.count_miss this]
      exact ⟨by simp, rfl⟩
    · have hd : dbl c t = a ++ (c :: c :: dbl c b) := by rw [h1, dbl_app, dbl_none h2, dbl_cons, if_pos rfl]; rfl
      have hi : Lib.index (dbl c t) [c, c] = (a.length : Nat) := by
        have h0 : Lib.index (c :: c :: dbl c b) [c, c] = 0 := by simp [Lib.index, List.isPrefixOf]
        rw [hd, index_pre c _ a h2, h0]; simp
      have hdr : (dbl c t).drop (a.length + [c, c].length) = dbl c b := by
        rw [hd, ← List.drop_drop, List.drop_left]; rfl
      have hlen : t.length = a.length + 1 + b.length := by rw [h1]; simp; omega
      obtain ⟨c1, c2⟩ := ih b (by omega)
      rw [Lib.count_hit (by simp) hi, hdr]
      refine ⟨by omega, ?_⟩
      rw [Nat.add_comm, Lib.replaceK_hit _ _ _ _ _ hi, hdr, c2, hd, List.take_left, h1]
      simp
theorem undouble_ok {s t : List UInt8} {c : UInt8} {st : St} {K : List UInt8 → St → Prop} (hs : s = dbl c t) (hl : s.length ≤ 2000000000) (hk : K t st) :
    CallT PR fn_strings_ReplaceAll [.str s, .str [c, c], .str [c]] [.one (.str)] st K := by
  refine tcalls_enter (fun _ _ => Tryd.call89 _ _) fun g w vargs sim hr => ?_
  obtain ⟨v1, v2, v3, rfl, h1, h2, h3⟩ := relL_three hr
  rw [rel_str_inv h1, rel_str_inv h2, rel_str_inv h3]
  obtain ⟨_, m, hm⟩ := sim.glob w sim.below
  obtain ⟨c1, c2⟩ := count2 c t.length t (Nat.le_refl _)
  have hcB : Lib.countB ⟨s.toArray⟩ ⟨#[c, c]⟩ = Lib.count s [c, c] := rfl
  have hts : t.length ≤ s.length := by
    rw [hs]
    clear hs hl h1 c1 c2 hk hcB
    induction t with
    | nil => simp
    | cons b t ih => rw [dbl_cons]; split <;> simp <;> omega
  refine Calls.mono (Tryd.strings_ReplaceAll ⟨s.toArray⟩ ⟨#[c, c]⟩ ⟨#[c]⟩ m w ?_ hm ?_ ?_) ?_
  · show s.toArray.size < _
    simp; omega
  · show 1 ≤ (#[c, c] : Array UInt8).size
    simp
  · rw [hcB]
    show s.toArray.size + _ * (#[c] : Array UInt8).size ≤ _
    rw [hs] at hl hts ⊢
    simp; omega
  · rintro e w' ⟨rfl, hb⟩
    obtain ⟨s', e'⟩ := sim.grown hb
    have hv : Lib.replaceAll s [c, c] [c] = t := by
      unfold Lib.replaceAll Lib.replace
      rw [if_neg (by simp), hs]
      exact c2
    refine ⟨_, rfl, .str t, st, g, hk, s', ?_, e'⟩
    show Rel g w' _ (.string ⟨(Lib.replaceAll s [c, c] [c]).toArray⟩)
    rw [hv]
    exact Rel.str _
end Go.TVF
end

section
set_option linter.unusedVariables false
set_option linter.unusedSimpArgs false
namespace Go.TVF
open Go Go.Proofs
/-- A cell as the readers leave it. -/
def CellW (q : Int) (cl : List UInt8) : Prop := cl = [] ∨ by_ cl 0 ≠ q ∨ ∃ c t, (c.toNat : Int) = q ∧ cl = c :: (dbl c t ++ [c])
theorem txt_quoted {q : Int} {c : UInt8} {t : List UInt8} (hc : (c.toNat : Int) = q) : txt q (c :: (dbl c t ++ [c])) = t := by
  unfold txt
  rw [if_neg (by simp [by_, hc])]
  have : ((c :: (dbl c t ++ [c])).take ((c :: (dbl c t ++ [c])).length - 1)).drop 1 = dbl c t := by
    simp
  rw [this, unqm_dbl hc]
theorem text_ok {cl : List UInt8} {a q : Int} {x y : Bool} (hw : CellW q cl) (hl : cl.length ≤ 2000000) {st : St} {K : List UInt8 → Bool → St → Prop} (hk : ∀ st', StExt st st' → K (txt q cl) (decide (¬ (cl = [] ∨ by_ cl 0 ≠ q))) st') :
    CallT PR fn_delim_text [.str cl, .agg [.int .u8 a, .int .u8 q, .bool x, .bool y]] [.one (.str), .one (.bool)] st K := by
  have hk := hk st (StExt.refl st)
  refine vc_delim_text cl a q x y st K (BIf_intro (fun g => ?_) fun g => ⟨⟨by omega, ?_⟩, BIf_intro (fun g2 => ?_) fun g2 => ?_⟩)
  · subst g
    unfold txt at hk
    simpa using hk
  · cases cl with
    | nil => exact absurd rfl g
    | cons b l => simp
  · have g2' : by_ cl 0 ≠ q := g2
    unfold txt at hk
    rw [if_pos (.inr g2')] at hk
    simpa [g2'] using hk
  · have g2' : ¬ by_ cl 0 ≠ q := g2
    rcases hw with h | h | ⟨c, t, hc, h⟩
    · exact absurd h g
    · exact absurd h g2'
    subst h
    rw [txt_quoted hc] at hk
    have htb : toBytes st (.list 1 .full 1 [.int .u8 q]) = some [c] := by
      have : UInt8.ofNat q.toNat = c := by rw [← hc]; simp
      rw [← this]; rfl
    have hlen : (c :: (dbl c t ++ [c])).length = (dbl c t).length + 2 := by simp
    rw [hlen] at hl
    have hw64 : IntKind.i64.wrap (((c :: (dbl c t ++ [c])).length : Int) - 1) = (((dbl c t).length + 1 : Nat) : Int) := by
      rw [hlen, wrap64 _ (by omega) (by omega)]; omega
    rw [htb]
    refine optK_intro rfl (show decT .str (.str [c]) _ from ⟨⟨by omega, by rw [hw64]; omega, by rw [hw64, hlen]; omega⟩, by simp, ?_⟩)
    rw [hw64]
    have hin : List.drop (Int.toNat 1) (List.take (Int.toNat (((dbl c t).length + 1 : Nat) : Int)) (c :: (dbl c t ++ [c]))) = dbl c t := by
      simp
    rw [hin]
    refine undouble_ok rfl (by omega) ?_
    simpa [g2', hc, by_] using hk
end Go.TVF
end

section
set_option linter.unusedVariables false
set_option linter.unusedSimpArgs false
namespace Go.TVF
open Go Go.Proofs
/-- A record: where it ends, the values, the names, the node, how many cells the first has. -/
def recD (x : Cx) (num : Bool) (wid : Int) (hd : Bool) (i : Nat) (v : Int) (ns : List (List UInt8)) : Except (Nat × Int) (Nat × Int × List (List UInt8) × Nd × Int) := do
  let v1 ← if hd then .ok v else begE x.dep x.nod 2 i v
  let (e, v2, ns2, ks) ← recE x num wid hd (x.s.length + 1) [] i v1 ns
  let n ← lineE x.s e
  let wid' := if num then wid else (ks.length : Int)
  if (ks.length : Int) < wid' then .error (e, 10) else .ok (e + n, v2, ns2, .mk 8 [] [] ks (slc x.s e (e + n)), wid')
/-- The records of a document. -/
def docE (x : Cx) (hdr : Bool) : Nat → List Nd → Nat → Int → List (List UInt8) → Int → Except (Nat × Int) (List Nd)
  | 0, _, _, _, _, _ => .error (0, 0)
  | n + 1, acc, i, v, ns, wid =>
    if x.s.length ≤ i then .ok acc else do
      let (i', v', ns', r, wid') ← recD x (!acc.isEmpty) wid (hdr && acc.isEmpty) i v ns
      docE x hdr n (acc ++ [r]) i' v' ns' wid'
theorem ends_ok {s : List UInt8} {I : Int} {i : Nat} (hI : I = (i : Int)) (hi : i ≤ s.length) (hl : s.length ≤ 2000000) {st : St} {K : Int → St → Prop}
    (hk : K (match lineE s i with | .ok n => (n : Int) | .error (_, e) => if e = 4 then -2 else -1) st) : CallT PR fn_datakitref27_ends [.str s, .int .i64 I] [.one (.int .i64)] st K := by
  subst hI
  unfold lineE by_ at hk
  have hw : IntKind.i64.wrap ((i : Int) + 1) = ((i + 1 : Nat) : Int) := by rw [wrap64 _ (by omega) (by omega)]; omega
  refine vc_datakitref27_ends s (i : Int) st K ?_
  rw [hw, show Int.toNat (i : Int) = i from rfl, show Int.toNat ((i + 1 : Nat) : Int) = i + 1 from rfl]
  refine BIf_intro (fun g => ?_) fun g => ⟨⟨by omega, by omega⟩, BIf_intro (fun g2 => ?_) fun g2 => ⟨⟨by omega, by omega⟩, BIf_intro (fun g3 => ?_) fun g3 => BIf_intro (fun g4 => ?_) fun g4 => ⟨⟨by omega, by omega⟩, BIf_intro (fun g5 => ?_) fun g5 => ?_⟩⟩⟩
  · rw [if_pos (by omega)] at hk; exact hk
  · rw [if_neg (by omega), if_pos g2] at hk; exact hk
  · rw [if_neg (by omega), if_neg g2, if_pos g3] at hk; exact hk
  · rw [if_neg (by omega), if_neg g2, if_neg g3, if_pos (by omega)] at hk; exact hk
  · rw [if_neg (by omega), if_neg g2, if_neg g3, if_neg (by omega), if_pos g5] at hk; exact hk
  · rw [if_neg (by omega), if_neg g2, if_neg g3, if_neg (by omega), if_neg g5] at hk; exact hk
end Go.TVF
end

section
set_option linter.unusedVariables false
set_option linter.unusedSimpArgs false
namespace Go.TVF
open Go Go.Proofs
/-- The cells of the reference's state. -/
def rst (s : List UInt8) (a q : Int) (hd ty : Bool) (l0 l1 l2 l3 l4 i v off err : Int) : TV :=
  .agg [.str s, .int .u8 a, .int .u8 q, .bool hd, .bool ty, .int .i64 l0, .int .i64 l1, .int .i64 l2, .int .i64 l3, .int .i64 l4, .int .i64 i, .int .i64 v, .int .i64 off, .int .i64 err]
/-- The state's shape. -/
abbrev rsh : RTy := .agg [.str, .int .u8, .int .u8, .bool, .bool, .int .i64, .int .i64, .int .i64, .int .i64, .int .i64, .int .i64, .int .i64, .int .i64, .int .i64]
theorem rfail_ok {s : List UInt8} {a q : Int} {hd ty : Bool} {l0 l1 l2 l3 l4 i v off err o e : Int} {st : St} {K : List UInt8 → Int → Int → Bool → Bool → Int → Int → Int → Int → Int → Int → Int → Int → Int → St → Prop}
    (h0 : err = 0 → K s a q hd ty l0 l1 l2 l3 l4 i v o e st) (h1 : err ≠ 0 → K s a q hd ty l0 l1 l2 l3 l4 i v off err st) :
    CallT PR fn_datakitref27_state_fail [rst s a q hd ty l0 l1 l2 l3 l4 i v off err, .int .i64 o, .int .i64 e] [rsh] st K :=
  vc_datakitref27_state_fail s a q hd ty l0 l1 l2 l3 l4 i v off err o e st K (BIf_intro h0 h1)
theorem rbegin_ok {s : List UInt8} {a q : Int} {hd ty : Bool} {l0 l1 l2 l3 l4 i off d : Int} {v : Int} {k : Nat} (hi : i = (k : Int)) (hv : v < 1000000000) (hv0 : 0 ≤ v) {st : St} {K : List UInt8 → Int → Int → Bool → Bool → Int → Int → Int → Int → Int → Int → Int → Int → Int → St → Prop}
    (h0 : ∀ v', begE l0 l1 d k v = .ok v' → K s a q hd ty l0 l1 l2 l3 l4 i v' off 0 st) (h1 : ∀ o e, begE l0 l1 d k v = .error (o, e) → K s a q hd ty l0 l1 l2 l3 l4 i v (o : Int) e st) :
    CallT PR fn_datakitref27_state_begin [rst s a q hd ty l0 l1 l2 l3 l4 i v off 0, .int .i64 d] [rsh] st K := by
  unfold begE at h0 h1
  subst hi
  refine vc_datakitref27_state_begin s a q hd ty l0 l1 l2 l3 l4 (k : Int) v off 0 d st K (BIf_intro (fun g => ?_) fun g => BIf_intro (fun g2 => ?_) fun g2 => ?_)
  · rw [if_pos g] at h1
    exact rfail_ok (fun _ => h1 _ _ rfl) fun h => absurd rfl h
  · rw [if_neg g, if_pos g2] at h1
    exact rfail_ok (fun _ => h1 _ _ rfl) fun h => absurd rfl h
  · rw [if_neg g, if_neg g2] at h0
    rw [wrap64 _ (by omega) (by omega)]
    exact h0 _ rfl
end Go.TVF
end

section
set_option linter.unusedVariables false
set_option linter.unusedSimpArgs false
namespace Go.TVF
open Go Go.Proofs
theorem QE_le {q : Int} {s : List UInt8} : ∀ (n i e : Nat), s.length - i ≤ n → QE q s i = some e → i < e ∧ e ≤ s.length := by
  intro n
  induction n with
  | zero => intro i e h he; rw [QE_end (by omega)] at he; cases he
  | succ n ih =>
    intro i e h he
    by_cases hi : i < s.length
    · by_cases hb : by_ s i = q
      · by_cases h2 : i + 1 < s.length ∧ by_ s (i + 1) = q
        · rw [QE_pair h2.1 hb h2.2] at he
          have := ih (i + 2) e (by omega) he
          omega
        · rw [QE_last hi hb (fun h3 h4 => h2 ⟨h3, h4⟩)] at he
          cases he; omega
      · rw [QE_other hi hb] at he
        have := ih (i + 1) e (by omega) he
        omega
    · rw [QE_end (by omega)] at he; cases he
theorem rcell_ok {s : List UInt8} {a q : Int} {hd ty : Bool} {l0 l1 l2 l3 l4 I off err : Int} {v : Int} {i : Nat} (hI : I = (i : Int)) (hi : i ≤ s.length) (hl : s.length ≤ 2000000) {st : St} {K : List UInt8 → Int → Int → Bool → Bool → Int → Int → Int → Int → Int → Int → Int → Int → Int → List UInt8 → St → Prop}
    (h0 : ∀ e, cellE a q s i = .ok e → i ≤ e → e ≤ s.length → K s a q hd ty l0 l1 l2 l3 l4 (e : Int) v off err (slc s i e) st)
    (h1 : ∀ o c (k : Nat), cellE a q s i = .error (o, c) → k ≤ s.length → K s a q hd ty l0 l1 l2 l3 l4 (k : Int) v (if err = 0 then (o : Int) else off) (if err = 0 then c else err) [] st) :
    CallT PR fn_datakitref27_cell [rst s a q hd ty l0 l1 l2 l3 l4 I v off err] [rsh, .one .str] st K := by
  subst hI
  have fin : ∀ o c (k : Nat), cellE a q s i = .error (o, c) → k ≤ s.length → CallT PR fn_datakitref27_state_fail [rst s a q hd ty l0 l1 l2 l3 l4 (k : Int) v off err, .int .i64 (o : Int), .int .i64 c] [rsh] st
      (fun s2 n12 n13 b3 b4 n14 n15 n16 n17 n18 n19 n20 n21 n22 st2 => K s2 n12 n13 b3 b4 n14 n15 n16 n17 n18 n19 n20 n21 n22 [] st2) := fun o c k h hk =>
    rfail_ok (fun h2 => by have := h1 o c k h hk; rwa [if_pos h2, if_pos h2] at this) fun h2 => by have := h1 o c k h hk; rwa [if_neg h2, if_neg h2] at this
  have w1 : ∀ k : Nat, k ≤ s.length → IntKind.i64.wrap ((k : Int) + 1) = ((k + 1 : Nat) : Int) := fun k hk => by rw [wrap64 _ (by omega) (by omega)]; omega
  have tn : ∀ k : Nat, Int.toNat (k : Int) = k := fun k => rfl
  refine vc_datakitref27_cell s a q hd ty l0 l1 l2 l3 l4 (i : Int) v off err st K (BIf_intro (fun g => ⟨⟨by omega, by omega⟩, BIf_intro (fun g2 => ?_) fun g2 => ?_⟩) fun g => ?_)
  · -- quoted
    have hc : cellE a q s i = match QE q s (i + 1) with | some e => .ok e | none => .error (s.length, 4) := by
      unfold cellE; rw [if_pos ⟨by omega, g2⟩] <;> (cases QE q s (i + 1) <;> rfl)
    rw [w1 i hi]
    refine ⟨fun fr s1 n1 n2 b1 b2 n3 n4 n5 n6 n7 n8 n9 n10 n11 st1 => (i : Int) = fr ∧ s = s1 ∧ a = n1 ∧ q = n2 ∧ hd = b1 ∧ ty = b2 ∧ l0 = n3 ∧ l1 = n4 ∧ l2 = n5 ∧ l3 = n6 ∧ l4 = n7 ∧ v = n9 ∧ off = n10 ∧ err = n11 ∧ st = st1 ∧ ∃ k : Nat, n8 = (k : Int) ∧ i < k ∧ k ≤ s.length ∧ QE q s (i + 1) = QE q s k,
      fun _ _ _ _ _ _ _ _ _ _ _ n8 _ _ _ _ => (s.length - n8).toNat, ⟨rfl, rfl, rfl, rfl, rfl, rfl, rfl, rfl, rfl, rfl, rfl, rfl, rfl, rfl, rfl, i + 1, rfl, by omega, by omega, rfl⟩, ?_⟩
    rintro _ _ _ _ _ _ _ _ _ _ _ _ _ _ _ _ ⟨rfl, rfl, rfl, rfl, rfl, rfl, rfl, rfl, rfl, rfl, rfl, rfl, rfl, rfl, rfl, k, rfl, hk1, hk2, hq⟩
    rw [w1 k hk2, tn, tn]
    have stop : (k : Int) < s.length → by_ s k = q → (k + 1 < s.length → by_ s (k + 1) ≠ q) → K s a q hd ty l0 l1 l2 l3 l4 ((k + 1 : Nat) : Int) v off err (slc s i (k + 1)) st := fun h h2 h3 => by
      rw [QE_last (by omega) h2 h3] at hq
      rw [hq] at hc
      exact h0 _ hc (by omega) (by omega)
    refine BIf_intro (fun q1 => ⟨⟨by omega, by omega⟩, BIf_intro (fun q2 => ⟨⟨by omega, by omega⟩, BIf_intro (fun q3 => absurd q3 q2) fun _ => ?_⟩) fun q2 => BIf_intro (fun q3 => ⟨⟨by omega, by omega⟩, BIf_intro (fun q4 => ⟨⟨by omega, by omega⟩, BIf_intro (fun q5 => ?_) fun q5 => absurd (Decidable.not_not.1 q2) q5⟩) fun q4 => BIf_intro (fun q5 => ?_) fun q5 => ⟨⟨by omega, by omega, by omega⟩, ?_⟩⟩) fun q3 => BIf_intro (fun q5 => ?_) fun q5 => ⟨⟨by omega, by omega, by omega⟩, ?_⟩⟩) fun q1 => BIf_intro (fun q5 => ?_) fun q5 => absurd (by omega) q5
    · rw [QE_other (by omega) q2] at hq
      exact ⟨⟨rfl, rfl, rfl, rfl, rfl, rfl, rfl, rfl, rfl, rfl, rfl, rfl, rfl, rfl, rfl, k + 1, rfl, by omega, by omega, hq⟩, by dsimp only; omega⟩
    · rw [QE_pair (by omega) (Decidable.not_not.1 q2) q4] at hq
      rw [w1 (k + 1) (by omega)]
      exact ⟨⟨rfl, rfl, rfl, rfl, rfl, rfl, rfl, rfl, rfl, rfl, rfl, rfl, rfl, rfl, rfl, k + 2, rfl, by omega, by omega, hq⟩, by dsimp only; omega⟩
    · omega
    · exact stop q1 (Decidable.not_not.1 q2) fun _ => q4
    · omega
    · exact stop q1 (Decidable.not_not.1 q2) fun h => absurd (by omega) q3
    · refine fin s.length 4 k ?_ hk2
      rw [hc, hq, QE_end (by omega)]
  all_goals
    have hc : cellE a q s i = match PE a q s i with | .ok e => .ok e | .error o => .error (o, 3) := by
      unfold cellE
      rw [if_neg (by first | (rintro ⟨_, h⟩; exact g2 h) | (rintro ⟨h, _⟩; omega))] <;> (cases PE a q s i <;> rfl)
    refine ⟨fun fr s1 n1 n2 b1 b2 n3 n4 n5 n6 n7 n8 n9 n10 n11 st1 => (i : Int) = fr ∧ s = s1 ∧ a = n1 ∧ q = n2 ∧ hd = b1 ∧ ty = b2 ∧ l0 = n3 ∧ l1 = n4 ∧ l2 = n5 ∧ l3 = n6 ∧ l4 = n7 ∧ v = n9 ∧ off = n10 ∧ err = n11 ∧ st = st1 ∧ ∃ k : Nat, n8 = (k : Int) ∧ i ≤ k ∧ k ≤ s.length ∧ PE a q s i = PE a q s k,
      fun _ _ _ _ _ _ _ _ _ _ _ n8 _ _ _ _ => (s.length - n8).toNat, ⟨rfl, rfl, rfl, rfl, rfl, rfl, rfl, rfl, rfl, rfl, rfl, rfl, rfl, rfl, rfl, i, rfl, by omega, by omega, rfl⟩, ?_⟩
    rintro _ _ _ _ _ _ _ _ _ _ _ _ _ _ _ _ ⟨rfl, rfl, rfl, rfl, rfl, rfl, rfl, rfl, rfl, rfl, rfl, rfl, rfl, rfl, rfl, k, rfl, hk1, hk2, hq⟩
    rw [w1 k hk2, tn]
    have stop : PE a q s k = .ok k → K s a q hd ty l0 l1 l2 l3 l4 (k : Int) v off err (slc s i k) st := fun h => by
      rw [h] at hq
      rw [hq] at hc
      exact h0 _ hc hk1 hk2
    refine BIf_intro (fun q1 => ⟨⟨by omega, by omega⟩, BIf_intro (fun q2 => ⟨⟨by omega, by omega⟩, BIf_intro (fun q3 => ⟨⟨by omega, by omega⟩, BIf_intro (fun q4 => ⟨⟨by omega, by omega⟩, BIf_intro (fun q5 => ?_) fun q5 => ?_⟩) fun q4 => ?_⟩) fun q3 => ?_⟩) fun q2 => ?_⟩) fun q1 => ?_
    · refine fin k 3 k ?_ hk2
      rw [hc, hq, PE_mark (by omega) (by rintro (h | h | h); exact q2 h; exact q3 h; exact q4 h) q5]
    · rw [PE_next (by omega) (by rintro (h | h | h); exact q2 h; exact q3 h; exact q4 h) q5] at hq
      exact ⟨⟨rfl, rfl, rfl, rfl, rfl, rfl, rfl, rfl, rfl, rfl, rfl, rfl, rfl, rfl, rfl, k + 1, rfl, by omega, by omega, hq⟩, by dsimp only; omega⟩
    · exact ⟨⟨by omega, by omega, by omega⟩, stop (PE_stop (by omega) (.inr (.inr (Decidable.not_not.1 q4))))⟩
    · exact ⟨⟨by omega, by omega, by omega⟩, stop (PE_stop (by omega) (.inr (.inl (Decidable.not_not.1 q3))))⟩
    · exact ⟨⟨by omega, by omega, by omega⟩, stop (PE_stop (by omega) (.inl (Decidable.not_not.1 q2)))⟩
    · exact ⟨⟨by omega, by omega, by omega⟩, stop (PE_end (by omega))⟩
end Go.TVF
end

section
set_option linter.unusedVariables false
set_option linter.unusedSimpArgs false
namespace Go.TVF
open Go Go.Proofs
def folE (a : Int) (s : List UInt8) (i : Nat) : Except (Nat × Int) Unit := if i < s.length ∧ by_ s i ≠ a then (match lineE s i with | .ok _ => .ok () | .error e => .error e) else .ok ()
theorem lineE_err {s : List UInt8} {i o : Nat} {c : Int} (h : lineE s i = .error (o, c)) : (o = i ∧ c = 3) ∨ (o = s.length ∧ c = 4) := by
  unfold lineE at h
  repeat' split at h
  all_goals first | cases h | skip
  all_goals simp
theorem rfollowed_ok {s : List UInt8} {a q : Int} {hd ty : Bool} {l0 l1 l2 l3 l4 I off err : Int} {v : Int} {i : Nat} (hI : I = (i : Int)) (hi : i ≤ s.length) (hl : s.length ≤ 2000000) {st : St} {K : List UInt8 → Int → Int → Bool → Bool → Int → Int → Int → Int → Int → Int → Int → Int → Int → St → Prop}
    (h0 : folE a s i = .ok () → K s a q hd ty l0 l1 l2 l3 l4 (i : Int) v off err st)
    (h1 : ∀ o c, folE a s i = .error (o, c) → K s a q hd ty l0 l1 l2 l3 l4 (i : Int) v (if err = 0 then (o : Int) else off) (if err = 0 then c else err) st) :
    CallT PR fn_datakitref27_followed [rst s a q hd ty l0 l1 l2 l3 l4 I v off err] [rsh] st K := by
  subst hI
  unfold folE at h0 h1
  have fin : ∀ (o : Nat) (c : Int), (K s a q hd ty l0 l1 l2 l3 l4 (i : Int) v (if err = 0 then (o : Int) else off) (if err = 0 then c else err) st) → CallT PR fn_datakitref27_state_fail [rst s a q hd ty l0 l1 l2 l3 l4 (i : Int) v off err, .int .i64 (o : Int), .int .i64 c] [rsh] st K := fun o c h =>
    rfail_ok (fun h2 => by rwa [if_pos h2, if_pos h2] at h) fun h2 => by rwa [if_neg h2, if_neg h2] at h
  refine vc_datakitref27_followed s a q hd ty l0 l1 l2 l3 l4 (i : Int) v off err st K (BIf_intro (fun g => ⟨⟨by omega, by omega⟩, BIf_intro (fun g2 => ends_ok rfl hi hl ?_) fun g2 => ?_⟩) fun g => ?_)
  · have hc : i < s.length ∧ by_ s i ≠ a := ⟨by omega, g2⟩
    rw [if_pos hc] at h0 h1
    cases hle : lineE s i with
    | ok n =>
      rw [hle] at h0
      exact BIf_intro (fun h => by simp at h) fun _ => BIf_intro (fun h => by simp at h) fun _ => h0 rfl
    | error p =>
      obtain ⟨o, c⟩ := p
      rw [hle] at h1
      rcases lineE_err hle with ⟨rfl, rfl⟩ | ⟨rfl, rfl⟩
      · exact BIf_intro (fun _ => fin _ _ (h1 _ _ rfl)) fun h => absurd rfl h
      · exact BIf_intro (fun h => by simp at h) fun _ => BIf_intro (fun _ => fin _ _ (h1 _ _ rfl)) fun h => absurd rfl h
  · rw [if_neg (by rintro ⟨_, h⟩; exact g2 h)] at h0; exact h0 rfl
  · rw [if_neg (by rintro ⟨h, _⟩; omega)] at h0; exact h0 rfl
end Go.TVF
end

section
set_option linter.unusedVariables false
set_option linter.unusedSimpArgs false
namespace Go.TVF
open Go Go.Proofs
theorem rplain_ok {s : List UInt8} {a q : Int} {x y : Bool} (hw : CellW q s) (hl : s.length ≤ 2000000) {st : St} {K : List UInt8 → St → Prop} (hk : K (txt q s) st) :
    CallT PR fn_datakitref27_Plain [.str s, .agg [.int .u8 a, .int .u8 q, .bool x, .bool y]] [.one (.str)] st K := by
  refine vc_datakitref27_Plain s a q x y st K (BIf_intro (fun g => ?_) fun g => ⟨⟨by omega, ?_⟩, BIf_intro (fun g2 => ?_) fun g2 => ?_⟩)
  · subst g; simpa [txt] using hk
  · cases s with
    | nil => exact absurd rfl g
    | cons b l => simp
  · have g2' : by_ s 0 ≠ q := g2
    unfold txt at hk
    rw [if_pos (.inr g2')] at hk; exact hk
  · have g2' : ¬ by_ s 0 ≠ q := g2
    rcases hw with h | h | ⟨c, t, hc, h⟩
    · exact absurd h g
    · exact absurd h g2'
    rw [h, txt_quoted hc] at hk
    have hlen : s.length = (dbl c t).length + 2 := by rw [h]; simp
    refine ⟨fun out i s1 n1 n2 b1 b2 st1 => s = s1 ∧ q = n2 ∧ st = st1 ∧ ∃ t1 t2, t = t1 ++ t2 ∧ out = t1 ∧ i = ((1 + (dbl c t1).length : Nat) : Int), fun _ i _ _ _ _ _ _ => (s.length - i).toNat, ⟨rfl, rfl, rfl, [], t, rfl, rfl, rfl⟩, ?_⟩
    rintro t1 _ _ _ _ _ _ _ ⟨rfl, rfl, rfl, _, t2, rfl, rfl, rfl⟩
    have hd : dbl c (t1 ++ t2) = dbl c t1 ++ dbl c t2 := dbl_app c t1 t2
    rw [hd, List.length_append] at hlen
    generalize hi : 1 + (dbl c t1).length = i at *
    have hdrop : s.drop i = dbl c t2 ++ [c] := by
      rw [h, ← hi, hd, Nat.add_comm, List.drop_succ_cons, List.append_assoc, List.drop_left]
    have ht1 : t1.length ≤ (dbl c t1).length := by
      clear hdrop hi hlen hd h hk
      induction t1 with
      | nil => simp
      | cons b t ih => rw [dbl_cons]; split <;> simp <;> omega
    rw [wrap64 ((i : Int) + 1) (by omega) (by omega), show Int.toNat (i : Int) = i from rfl]
    cases t2 with
    | nil =>
      refine BIf_intro (fun q1 => ?_) fun q1 => ?_
      · exfalso
        have h0 : (dbl c []).length = 0 := rfl
        omega
      · simpa using hk
    | cons b t2 =>
      have hb : s.drop i = b :: s.drop (i + 1) := by
        have : i < s.length := by omega
        rw [List.drop_eq_getElem_cons this]
        congr 1
        have h2 : s.getD i 0 = (s.drop i).getD 0 0 := by rw [getD_drop]; rfl
        have h3 : s.getD i 0 = s[i] := by rw [List.getD_eq_getElem?_getD, List.getElem?_eq_getElem this]; rfl
        rw [← h3, h2, hdrop, dbl_cons]
        split
        · rename_i hbc; simp [hbc]
        · simp
      have hget : (s.getD i 0) = b := by
        have : (s.drop i).getD 0 0 = b := by rw [hb]; rfl
        simpa [List.getD_eq_getElem?_getD] using this
      have hsl : List.drop i (List.take (Int.toNat ((i : Int) + 1)) s) = [b] := by
        rw [show Int.toNat ((i : Int) + 1) = i + 1 by omega, List.drop_take, hb]
        simp
      have hlc := congrArg List.length (dbl_cons c b t2)
      refine BIf_intro (fun q1 => ⟨⟨by omega, by omega, by omega⟩, ?_, ⟨by omega, by omega⟩, BIf_intro (fun q2 => ?_) fun q2 => ?_⟩) fun q1 => ?_
      · rw [hsl]; simp only [List.length_cons, List.length_nil]; omega
      · rw [hget] at q2
        have hbc : b = c := UInt8.toNat_inj.1 (by omega)
        rw [hsl, wrap64 ((i : Int) + 1 + 1) (by omega) (by omega)]
        rw [if_pos hbc] at hlc
        refine ⟨⟨rfl, rfl, rfl, t1 ++ [b], t2, by simp, rfl, ?_⟩, by dsimp only; omega⟩
        have h0 : (dbl c [b]).length = 2 := by rw [hbc]; simp [dbl, sub1]
        rw [dbl_app, List.length_append]; omega
      · rw [hget] at q2
        have hbc : b ≠ c := fun hh => q2 (by rw [hh]; exact hc)
        rw [hsl]
        refine ⟨⟨rfl, rfl, rfl, t1 ++ [b], t2, by simp, rfl, ?_⟩, by dsimp only; omega⟩
        have h0 : (dbl c [b]).length = 1 := by simp [dbl, sub1, hbc]
        rw [dbl_app, List.length_append]; omega
      · rw [hlc] at hlen
        split at hlen <;> simp at hlen <;> omega
end Go.TVF
end

section
set_option linter.unusedVariables false
set_option linter.unusedSimpArgs false
namespace Go.TVF
open Go Go.Proofs
theorem slc_len {s : List UInt8} {i e : Nat} (h : i ≤ e) (h2 : e ≤ s.length) : (slc s i e).length = e - i := by
  unfold slc; rw [List.length_drop, List.length_take]; omega
theorem slc_split {s : List UInt8} {i e : Nat} (h : i ≤ e) : s.drop i = slc s i e ++ s.drop e := by
  unfold slc
  rw [take_drop_sub]
  have : s.drop e = (s.drop i).drop (e - i) := by rw [List.drop_drop]; congr 1; omega
  rw [this, List.take_append_drop]
theorem slc_get {s : List UInt8} {i e : Nat} (h : i < e) (h2 : e ≤ s.length) : by_ (slc s i e) 0 = by_ s i := by
  unfold by_ slc
  rw [getD_drop, List.getD_eq_getElem?_getD, List.getD_eq_getElem?_getD, List.getElem?_take, if_pos (by omega)]
  rfl
theorem slc_one {s : List UInt8} {e : Nat} (h : e < s.length) : slc s e (e + 1) = [s.getD e 0] := by
  unfold slc
  rw [take_drop_sub, drop_cons _ _ 0 h]
  simp
theorem PE_le {a q : Int} {s : List UInt8} : ∀ (n i e : Nat), s.length - i ≤ n → i ≤ s.length → PE a q s i = .ok e → i ≤ e ∧ e ≤ s.length ∧ (e < s.length → by_ s e = a ∨ by_ s e = 10 ∨ by_ s e = 13) ∧ (i < e → by_ s i ≠ q) := by
  intro n
  induction n with
  | zero => intro i e h hi he; rw [PE_end (by omega)] at he; cases he; exact ⟨by omega, by omega, fun h => absurd h (by omega), fun h => absurd h (by omega)⟩
  | succ n ih =>
    intro i e h hi he
    by_cases hl : i < s.length
    · by_cases hb : by_ s i = a ∨ by_ s i = 10 ∨ by_ s i = 13
      · rw [PE_stop hl hb] at he; cases he; exact ⟨by omega, by omega, fun _ => hb, fun h => absurd h (by omega)⟩
      · by_cases hq : by_ s i = q
        · rw [PE_mark hl hb hq] at he; cases he
        · rw [PE_next hl hb hq] at he
          obtain ⟨h1, h2, h3, _⟩ := ih (i + 1) e (by omega) (by omega) he
          exact ⟨by omega, h2, h3, fun _ => hq⟩
    · rw [PE_end (by omega)] at he; cases he; exact ⟨by omega, by omega, fun h => absurd h (by omega), fun h => absurd h (by omega)⟩
theorem cellE_le {a q : Int} {s : List UInt8} {i e : Nat} (hi : i ≤ s.length) (h : cellE a q s i = .ok e) : i ≤ e ∧ e ≤ s.length := by
  unfold cellE at h
  split at h
  · split at h
    · rename_i e' he; cases h; have := QE_le _ _ _ (Nat.le_refl _) he; omega
    · cases h
  · split at h
    · rename_i e' he; cases h; have := PE_le _ _ _ (Nat.le_refl _) hi he; omega
    · cases h
theorem byte_of (q : Int) (s : List UInt8) (i : Nat) (h : i < s.length) (hq : by_ s i = q) : ∃ c : UInt8, (c.toNat : Int) = q ∧ s.getD i 0 = c := ⟨s.getD i 0, hq, rfl⟩
theorem cellE_W {a q : Int} {s : List UInt8} {i e : Nat} (hi : i ≤ s.length) (h : cellE a q s i = .ok e) : CellW q (slc s i e) := by
  unfold cellE at h
  split at h
  · rename_i hc
    split at h
    · rename_i e' he
      cases h
      obtain ⟨c, hc1, hc2⟩ := byte_of q s i hc.1 hc.2
      obtain ⟨t, rest, h1, h2⟩ := qEnd_spec hc1 _ _ _ _ (Nat.le_refl _) he
      right; right
      refine ⟨c, t, hc1, ?_⟩
      have hle := QE_le _ _ _ (Nat.le_refl _) he
      unfold slc
      rw [take_drop_sub, drop_cons _ _ 0 hc.1, hc2, h1, show e - i = (dbl c t ++ [c]).length + 1 by simp; omega, List.take_succ_cons]
      congr 1
      rw [show dbl c t ++ c :: rest = (dbl c t ++ [c]) ++ rest by simp, List.take_left]
    · cases h
  · rename_i hc
    split at h
    · rename_i e' he
      cases h
      have hle := PE_le _ _ _ (Nat.le_refl _) hi he
      by_cases hlt : i < e
      · right; left
        rw [slc_get hlt hle.2.1]
        exact hle.2.2.2 hlt
      · left
        apply List.eq_nil_of_length_eq_zero
        rw [slc_len hle.1 hle.2.1]; omega
    · cases h
theorem lineE_ok {s : List UInt8} {e n : Nat} (he : e ≤ s.length) (h : lineE s e = .ok n) : e + n ≤ s.length ∧ (n = 0 → e = s.length) ∧ (0 < n → by_ s (e + n - 1) = 10) ∧ (e < s.length → by_ s e = 10 ∨ by_ s e = 13) := by
  unfold lineE at h
  split at h
  · cases h; exact ⟨by omega, fun _ => by omega, fun h => by omega, fun h => by omega⟩
  split at h
  · rename_i h1 h2; cases h; exact ⟨by omega, fun h => by omega, fun _ => by simpa using h2, fun _ => .inl h2⟩
  split at h
  · cases h
  split at h
  · cases h
  split at h
  · rename_i h1 h2 h3 h4 h5; cases h; exact ⟨by omega, fun h => by omega, fun _ => by simpa using h5, fun _ => .inr (Decidable.not_not.1 h3)⟩
  · cases h
/-- The entries of a record, from a place on: where they end, and how long the line end is. -/
inductive Ents (a q : Int) (s : List UInt8) : Nat → List Nd → Nat → Nat → Prop where
  | last {i e n : Nat} : cellE a q s i = .ok e → ¬ (e < s.length ∧ by_ s e = a) → lineE s e = .ok n → Ents a q s i [entN s i e []] e n
  | more {i e f n : Nat} {ks : List Nd} : cellE a q s i = .ok e → e < s.length → by_ s e = a → Ents a q s (e + 1) ks f n → Ents a q s i (entN s i e [.mk 11 [] [s.getD e 0] [] []] :: ks) f n
/-- The records, from a place on. -/
inductive Recs (a q : Int) (s : List UInt8) : Nat → List Nd → Prop where
  | nil {i : Nat} : s.length ≤ i → Recs a q s i []
  | cons {i e n : Nat} {ks rs : List Nd} : i < s.length → Ents a q s i ks e n → Recs a q s (e + n) rs → Recs a q s i (.mk 8 [] [] ks (slc s e (e + n)) :: rs)
theorem Ents.le {a q : Int} {s : List UInt8} {i : Nat} {ks : List Nd} {e n : Nat} (h : Ents a q s i ks e n) : i ≤ s.length → i ≤ e ∧ e + n ≤ s.length ∧ 1 ≤ ks.length ∧ ks.length ≤ e - i + 1 ∧ lineE s e = .ok n := by
  induction h with
  | last h1 h2 h3 => intro hi; have := cellE_le hi h1; have := lineE_ok this.2 h3; exact ⟨by omega, by omega, by simp, by simp, h3⟩
  | more h1 h2 h3 h4 ih => intro hi; have := cellE_le hi h1; have ih := ih (by omega); refine ⟨by omega, by omega, by simp, ?_, ih.2.2.2.2⟩; rw [List.length_cons]; omega
theorem Ents.text {a q : Int} {s : List UInt8} {i : Nat} {ks : List Nd} {e n : Nat} (h : Ents a q s i ks e n) : i ≤ s.length → ktext ks = slc s i e := by
  induction h with
  | last h1 h2 h3 => intro hi; simp [ktext, ntext, entN]
  | @more i e e' n ks h1 h2 h3 h4 ih =>
    intro hi
    have hl := cellE_le hi h1
    have hl2 := h4.le (by omega)
    simp only [ktext, ntext, entN, List.nil_append, List.append_nil]
    rw [ih (by omega), ← slc_one h2]
    have e1 := slc_split (s := s) (i := i) (e := e') (by omega)
    have e2 := slc_split (s := s) (i := i) (e := e) (by omega)
    have e3 := slc_split (s := s) (i := e) (e := e + 1) (by omega)
    have e4 := slc_split (s := s) (i := e + 1) (e := e') (by omega)
    rw [e2, e3, e4, ← List.append_assoc, ← List.append_assoc] at e1
    have := List.append_inj_left' e1 rfl
    rw [← this, List.append_assoc]
theorem Recs.text {a q : Int} {s : List UInt8} {i : Nat} {rs : List Nd} (h : Recs a q s i rs) : i ≤ s.length → ktext rs = s.drop i := by
  induction h with
  | nil h => intro hi; rw [List.drop_of_length_le h]; rfl
  | @cons i e n ks rs h1 h2 h3 ih =>
    intro hi
    have hl := h2.le (by omega)
    simp only [ktext, ntext, List.nil_append]
    rw [ih (by omega), h2.text (by omega), List.append_assoc, ← slc_split (by omega), ← slc_split (by omega)]
/-- Entries are entries. -/
def EntF (a q : Int) (n : Nd) : Prop := ∃ c mark, n = .mk 5 [] [] (.mk 2 [] c [] [] :: mark) [] ∧ CellW q c ∧ (mark = [] ∨ ∃ b : UInt8, (b.toNat : Int) = a ∧ mark = [.mk 11 [] [b] [] []])
def RecF (a q : Int) (n : Nd) : Prop := ∃ ks t, n = .mk 8 [] [] ks t ∧ 1 ≤ ks.length ∧ ∀ k ∈ ks, EntF a q k
theorem Ents.form {a q : Int} {s : List UInt8} {i : Nat} {ks : List Nd} {e n : Nat} (h : Ents a q s i ks e n) : i ≤ s.length → ∀ k ∈ ks, EntF a q k := by
  induction h with
  | last h1 h2 h3 => intro hi k hk; rw [List.mem_singleton] at hk; subst hk; exact ⟨_, _, rfl, cellE_W hi h1, .inl rfl⟩
  | @more i e e' n ks h1 h2 h3 h4 ih =>
    intro hi k hk
    have hl := cellE_le hi h1
    rcases List.mem_cons.1 hk with rfl | hk
    · exact ⟨_, _, rfl, cellE_W hi h1, .inr ⟨s.getD e 0, h3, rfl⟩⟩
    · exact ih (by omega) k hk
theorem Recs.form {a q : Int} {s : List UInt8} {i : Nat} {rs : List Nd} (h : Recs a q s i rs) : i ≤ s.length → ∀ r ∈ rs, RecF a q r := by
  induction h with
  | nil h => intro hi r hr; cases hr
  | @cons i e n ks rs h1 h2 h3 ih =>
    intro hi r hr
    have hl := h2.le (by omega)
    rcases List.mem_cons.1 hr with rfl | hr
    · exact ⟨_, _, rfl, hl.2.2.1, h2.form (by omega)⟩
    · exact ih (by omega) r hr
end Go.TVF
end

section
set_option linter.unusedVariables false
set_option linter.unusedSimpArgs false
namespace Go.TVF
open Go Go.Proofs
def kidsOf : Nd → List Nd | .mk _ _ _ ks _ => ks
/-- What stands in an entry. -/
def entC (n : Nd) : List UInt8 := match kidsOf n with | .mk _ _ c _ _ :: _ => c | [] => []
theorem entC_entN (s : List UInt8) (i e : Nat) (m : List Nd) : entC (entN s i e m) = slc s i e := rfl
theorem entE_inv {x : Cx} {i : Nat} {v : Int} {ns : List (List UInt8)} {e : Nat} {v1 : Int} {ns1 : List (List UInt8)} (h : entE x false i v ns = .ok (e, v1, ns1)) :
    3 ≤ x.dep ∧ v < x.nod ∧ v1 = v + 1 ∧ ns1 = ns ∧ cellE x.a x.q x.s i = .ok e ∧ (txt x.q (slc x.s i e)).length ≤ 65536 := by
  simp only [entE, begE, Bool.false_eq_true, if_false, false_and] at h
  split at h
  · cases h
  · split at h
    · cases h
    · simp only [bind, Except.bind] at h
      split at h
      · cases h
      · rename_i e' he
        split at h
        · cases h
        · cases h
          exact ⟨by omega, by omega, rfl, rfl, he, by omega⟩
theorem entE_of {x : Cx} {i : Nat} {v : Int} {ns : List (List UInt8)} {e : Nat} (h1 : 3 ≤ x.dep) (h2 : v < x.nod) (h3 : cellE x.a x.q x.s i = .ok e) (h4 : (txt x.q (slc x.s i e)).length ≤ 65536) :
    entE x false i v ns = .ok (e, v + 1, ns) := by
  simp only [entE, begE, Bool.false_eq_true, if_false, false_and]
  rw [if_neg (by omega), if_neg (by omega)]
  simp only [bind, Except.bind, h3]
  rw [if_neg (by omega)]
theorem entE_9 {x : Cx} {i : Nat} {v : Int} {ns : List (List UInt8)} (h : x.dep < 3) : entE x false i v ns = .error (i, 9) := by
  simp only [entE, begE, Bool.false_eq_true, if_false]
  rw [if_pos h]; rfl
theorem entE_10 {x : Cx} {i : Nat} {v : Int} {ns : List (List UInt8)} (h : 3 ≤ x.dep) (h2 : x.nod ≤ v) : entE x false i v ns = .error (i, 10) := by
  simp only [entE, begE, Bool.false_eq_true, if_false]
  rw [if_neg (by omega), if_pos h2]; rfl
theorem entE_inv1 {x : Cx} {i : Nat} {v : Int} {ns : List (List UInt8)} {e : Nat} {v1 : Int} {ns1 : List (List UInt8)} (h : entE x true i v ns = .ok (e, v1, ns1)) :
    v1 = v ∧ cellE x.a x.q x.s i = .ok e ∧ (txt x.q (slc x.s i e)).length ≤ 1024 := by
  simp only [entE, if_true, true_and] at h
  simp only [bind, Except.bind] at h
  split at h
  · cases h
  · rename_i e' he
    split at h
    · cases h
    · split at h
      · cases h
      · cases h
        exact ⟨rfl, he, by omega⟩
/-- With other limits. -/
abbrev Cx.lim (x : Cx) (d n : Int) : Cx := { x with dep := d, nod := n }
theorem recE_inv {x : Cx} {num hd : Bool} {wid : Int} : ∀ (n : Nat) {acc : List Nd} {i : Nat} {v : Int} {ns : List (List UInt8)} {e : Nat} {v' : Int} {ns' : List (List UInt8)} {out : List Nd},
    i ≤ x.s.length → recE x num wid hd n acc i v ns = .ok (e, v', ns', out) → ∃ ks m, out = acc ++ ks ∧ Ents x.a x.q x.s i ks e m ∧ v' = v + (if hd then 0 else (ks.length : Int)) ∧
      (∀ k ∈ ks, (txt x.q (entC k)).length ≤ 65536) ∧ (num = true → (out.length : Int) ≤ wid) ∧ (hd = false → 3 ≤ x.dep ∧ v' ≤ x.nod ∧ ns' = ns) := by
  intro n
  induction n with
  | zero => intro acc i v ns e v' ns' out hi h; simp only [recE] at h; cases h
  | succ n ih =>
    intro acc i v ns e v' ns' out hi h
    simp only [recE] at h
    split at h
    · cases h
    rename_i hw
    simp only [bind, Except.bind] at h
    split at h
    · cases h
    rename_i p he
    obtain ⟨e1, v1, ns1⟩ := p
    have hent : cellE x.a x.q x.s i = .ok e1 ∧ (txt x.q (slc x.s i e1)).length ≤ 65536 ∧ v1 = v + (if hd then 0 else 1) ∧ (hd = false → 3 ≤ x.dep ∧ v1 ≤ x.nod ∧ ns1 = ns) := by
      cases hd with
      | false => have := entE_inv he; exact ⟨this.2.2.2.2.1, this.2.2.2.2.2, by simpa using this.2.2.1, fun _ => ⟨this.1, by omega, this.2.2.2.1⟩⟩
      | true => have := entE_inv1 he; exact ⟨this.2.1, by omega, by simpa using this.1, fun h => by cases h⟩
    obtain ⟨c1, c2, c3, c4⟩ := hent
    have hle := cellE_le hi c1
    simp only at h
    split at h
    · rename_i hm
      obtain ⟨ks, m, k1, k2, k3, k4, k5, k6⟩ := ih (by omega) h
      refine ⟨_ :: ks, m, by rw [k1, List.append_assoc]; rfl, .more c1 hm.1 hm.2 k2, ?_, ?_, k5, fun hh => ?_⟩
      · rw [k3, c3]; cases hd <;> simp <;> omega
      · intro k hk
        rcases List.mem_cons.1 hk with rfl | hk
        · exact c2
        · exact k4 k hk
      · have := k6 hh; have := c4 hh; exact ⟨by omega, by omega, by rw [(k6 hh).2.2, this.2.2]⟩
    · rename_i hm
      split at h
      · cases h
      rename_i m hm2
      cases h
      refine ⟨_, _, rfl, .last c1 hm hm2, by rw [c3]; cases hd <;> simp, ?_, ?_, fun hh => ⟨(c4 hh).1, (c4 hh).2.1, (c4 hh).2.2⟩⟩
      · intro k hk
        rw [List.mem_singleton] at hk; subst hk; exact c2
      · intro hn
        rw [List.length_append, List.length_singleton]
        have : ¬ wid ≤ (acc.length : Int) := fun h => hw ⟨hn, h⟩
        omega
theorem recE_of {x : Cx} {num : Bool} {wid : Int} (hdep : 3 ≤ x.dep) : ∀ {i : Nat} {ks : List Nd} {e m : Nat}, Ents x.a x.q x.s i ks e m → ∀ (n : Nat) {acc : List Nd} {v : Int} {ns : List (List UInt8)},
    i ≤ x.s.length → x.s.length < i + n → (∀ k ∈ ks, (txt x.q (entC k)).length ≤ 65536) → (num = true → ((acc.length + ks.length : Nat) : Int) ≤ wid) → v + (ks.length : Int) ≤ x.nod → recE x num wid false n acc i v ns = .ok (e, v + (ks.length : Int), ns, acc ++ ks) := by
  intro i ks e m h
  induction h with
  | @last i e m h1 h2 h3 =>
    intro n acc v ns hi hn hk hw hv
    cases n with
    | zero => omega
    | succ n =>
    simp only [recE]
    rw [if_neg (by rintro ⟨h, h'⟩; have := hw h; simp at this; omega)]
    have hc := hk _ (List.mem_singleton.2 rfl)
    rw [entC_entN] at hc
    rw [entE_of hdep (by simp at hv; omega) h1 hc]
    simp only [bind, Except.bind]
    rw [if_neg h2, h3]
    rfl
  | @more i e e' m ks h1 h2 h3 h4 ih =>
    intro n acc v ns hi hn hk hw hv
    cases n with
    | zero => omega
    | succ n =>
    simp only [recE]
    simp only [List.length_cons] at hw hv
    rw [if_neg (by rintro ⟨h, h'⟩; have := hw h; omega)]
    have hc := hk _ (List.mem_cons_self ..)
    rw [entC_entN] at hc
    rw [entE_of hdep (by omega) h1 hc]
    simp only [bind, Except.bind]
    have hle := cellE_le hi h1
    rw [if_pos ⟨h2, h3⟩, ih n (by omega) (by omega) (fun k hk2 => hk k (List.mem_cons_of_mem _ hk2)) (fun h => by have := hw h; rw [List.length_append, List.length_singleton]; omega) (by omega), List.append_assoc, List.length_cons]
    congr 2
    have : v + 1 + (ks.length : Int) = v + ((ks.length + 1 : Nat) : Int) := by omega
    rw [this]; rfl
theorem recE_lim1 {x : Cx} {num : Bool} {wid : Int} (d' n' : Int) : ∀ (n : Nat) {acc : List Nd} {i : Nat} {v : Int} {ns : List (List UInt8)},
    recE (x.lim d' n') num wid true n acc i v ns = recE x num wid true n acc i v ns := by
  intro n
  induction n with
  | zero => intros; rfl
  | succ n ih =>
    intro acc i v ns
    simp only [recE]
    have : entE (x.lim d' n') true i v ns = entE x true i v ns := rfl
    rw [this]
    simp only [ih]
theorem recE_lim {x : Cx} {num : Bool} {wid : Int} {d' n' : Int} : ∀ (n : Nat) {acc : List Nd} {i : Nat} {v : Int} {ns : List (List UInt8)} {e : Nat} {v' : Int} {ns' : List (List UInt8)} {out : List Nd},
    recE x num wid false n acc i v ns = .ok (e, v', ns', out) → v < v' ∧ (3 ≤ d' → v' ≤ n' → recE (x.lim d' n') num wid false n acc i v ns = .ok (e, v', ns', out)) ∧
      (3 ≤ d' → n' < v' → ∃ o, recE (x.lim d' n') num wid false n acc i v ns = .error (o, 10)) ∧ (d' < 3 → ∃ o, recE (x.lim d' n') num wid false n acc i v ns = .error (o, 9)) := by
  intro n
  induction n with
  | zero => intro acc i v ns e v' ns' out h; simp only [recE] at h; cases h
  | succ n ih =>
    intro acc i v ns e v' ns' out h
    simp only [recE] at h ⊢
    split at h
    · cases h
    rename_i hw
    rw [if_neg hw]
    simp only [bind, Except.bind] at h ⊢
    split at h
    · cases h
    rename_i p he
    obtain ⟨e1, v1, ns1⟩ := p
    obtain ⟨c1, c2, rfl, rfl, c3, c4⟩ := entE_inv he
    simp only at h
    have e9 : d' < 3 → entE (x.lim d' n') false i v ns1 = .error (i, 9) := fun h => entE_9 h
    have e10 : 3 ≤ d' → n' ≤ v → entE (x.lim d' n') false i v ns1 = .error (i, 10) := fun h h2 => entE_10 h h2
    have eok : 3 ≤ d' → v < n' → entE (x.lim d' n') false i v ns1 = .ok (e1, v + 1, ns1) := fun h h2 => entE_of h h2 c3 c4
    split at h
    · rename_i hm
      obtain ⟨k0, k1, k2, k3⟩ := ih h
      refine ⟨by omega, fun h1 h2 => ?_, fun h1 h2 => ?_, fun h1 => ?_⟩
      · rw [eok h1 (by omega)]
        simp only
        rw [if_pos hm]; exact k1 h1 h2
      · by_cases hv : n' ≤ v
        · rw [e10 h1 hv]; exact ⟨_, rfl⟩
        · rw [eok h1 (by omega)]
          simp only
          rw [if_pos hm]; exact k2 h1 h2
      · rw [e9 h1]; exact ⟨_, rfl⟩
    · rename_i hm
      split at h
      · cases h
      rename_i m hm2
      cases h
      refine ⟨by omega, fun h1 h2 => ?_, fun h1 h2 => ?_, fun h1 => ?_⟩
      · rw [eok h1 (by omega)]
        simp only
        rw [if_neg hm, hm2]
      · rw [e10 h1 (by omega)]; exact ⟨_, rfl⟩
      · rw [e9 h1]; exact ⟨_, rfl⟩
/-- A record, once its entries have been read. -/
def recK (s : List UInt8) (num : Bool) (wid : Int) (R : Except (Nat × Int) (Nat × Int × List (List UInt8) × List Nd)) : Except (Nat × Int) (Nat × Int × List (List UInt8) × Nd × Int) :=
  match R with
  | .error e => .error e
  | .ok (e, v2, ns2, ks) => match lineE s e with
    | .error e => .error e
    | .ok n => if (ks.length : Int) < (if num then wid else (ks.length : Int)) then .error (e, 10) else .ok (e + n, v2, ns2, .mk 8 [] [] ks (slc s e (e + n)), if num then wid else (ks.length : Int))
theorem recD_eq (x : Cx) (num : Bool) (wid : Int) (hd : Bool) (i : Nat) (v : Int) (ns : List (List UInt8)) : recD x num wid hd i v ns =
    if hd = true then recK x.s num wid (recE x num wid hd (x.s.length + 1) [] i v ns) else match begE x.dep x.nod 2 i v with
      | .error e => .error e
      | .ok v1 => recK x.s num wid (recE x num wid hd (x.s.length + 1) [] i v1 ns) := by
  unfold recD recK
  cases hd with
  | true =>
    simp only [if_true, bind, Except.bind]
    rcases recE x num wid true (x.s.length + 1) [] i v ns with e | ⟨e, v2, ns2, ks⟩
    · rfl
    · cases h : lineE x.s e <;> simp [h]
  | false =>
    simp only [Bool.false_eq_true, if_false, bind, Except.bind]
    cases begE x.dep x.nod 2 i v with
    | error e => rfl
    | ok v1 =>
      simp only
      rcases recE x num wid false (x.s.length + 1) [] i v1 ns with e | ⟨e, v2, ns2, ks⟩
      · rfl
      · cases h : lineE x.s e <;> simp [h]
theorem begE_ok {dep nod d : Int} {i : Nat} {v v1 : Int} (h : begE dep nod d i v = .ok v1) : v1 = v + 1 := by
  unfold begE at h
  split at h
  · cases h
  split at h
  · cases h
  · cases h; rfl
theorem recD_start {x : Cx} {num hd : Bool} {wid : Int} {i : Nat} {v : Int} {ns : List (List UInt8)} {p : Nat × Int × List (List UInt8) × Nd × Int} (h : recD x num wid hd i v ns = .ok p) :
    ∃ v1, v1 = v + (if hd then 0 else 1) ∧ recK x.s num wid (recE x num wid hd (x.s.length + 1) [] i v1 ns) = .ok p := by
  rw [recD_eq] at h
  cases hd with
  | true => exact ⟨v, by simp, by simpa using h⟩
  | false =>
    simp only [Bool.false_eq_true, if_false] at h
    split at h
    · cases h
    · rename_i v1 h1
      exact ⟨v1, by simpa using begE_ok h1, h⟩
theorem recK_ok {s : List UInt8} {num : Bool} {wid : Int} {R : Except (Nat × Int) (Nat × Int × List (List UInt8) × List Nd)} {p : Nat × Int × List (List UInt8) × Nd × Int} (h : recK s num wid R = .ok p) :
    ∃ e v2 ns2 ks m, R = .ok (e, v2, ns2, ks) ∧ lineE s e = .ok m ∧ ¬ (ks.length : Int) < (if num then wid else (ks.length : Int)) ∧ p = (e + m, v2, ns2, .mk 8 [] [] ks (slc s e (e + m)), if num then wid else (ks.length : Int)) := by
  unfold recK at h
  split at h
  · cases h
  rename_i e v2 ns2 ks
  split at h
  · cases h
  rename_i m hm
  by_cases hw : (ks.length : Int) < (if num then wid else (ks.length : Int))
  · rw [if_pos hw] at h; cases h
  · rw [if_neg hw] at h
    exact ⟨e, v2, ns2, ks, m, rfl, hm, hw, (Except.ok.inj h).symm⟩
end Go.TVF
end

section
set_option linter.unusedVariables false
set_option linter.unusedSimpArgs false
namespace Go.TVF
open Go Go.Proofs
theorem recD_inv {x : Cx} {num hd : Bool} {wid : Int} {i : Nat} {v : Int} {ns : List (List UInt8)} {i' : Nat} {v' : Int} {ns' : List (List UInt8)} {r : Nd} {wid' : Int} (hi : i ≤ x.s.length)
    (h : recD x num wid hd i v ns = .ok (i', v', ns', r, wid')) : ∃ ks e m, r = .mk 8 [] [] ks (slc x.s e (e + m)) ∧ i' = e + m ∧ Ents x.a x.q x.s i ks e m ∧ v' = v + (if hd then 0 else 1 + (ks.length : Int)) ∧
      (∀ k ∈ ks, (txt x.q (entC k)).length ≤ 65536) ∧ (ks.length : Int) = wid' ∧ (num = true → wid' = wid) ∧ (hd = false → 3 ≤ x.dep ∧ v' ≤ x.nod ∧ ns' = ns) := by
  obtain ⟨v1, h1, h⟩ := recD_start h
  obtain ⟨e, v2, ns2, ks, m', h2, h3, hw, hp⟩ := recK_ok h
  simp only [Prod.mk.injEq] at hp
  obtain ⟨rfl, rfl, rfl, rfl, rfl⟩ := hp
  obtain ⟨ks', m, k1, k2, k3, k4, k5, k6⟩ := recE_inv _ hi h2
  rw [List.nil_append] at k1
  subst k1
  have hl := k2.le hi
  rw [hl.2.2.2.2] at h3
  cases h3
  refine ⟨_, e, _, rfl, rfl, k2, ?_, k4, ?_, ?_, k6⟩
  · rw [k3, h1]; cases hd <;> simp; omega
  · cases num with
    | true => simp only [if_true] at hw ⊢; have := k5 rfl; omega
    | false => rfl
  · intro hn; rw [hn]; rfl
theorem recD_of {x : Cx} {num : Bool} {wid : Int} (hdep : 3 ≤ x.dep) {i : Nat} {ks : List Nd} {e m : Nat} (h : Ents x.a x.q x.s i ks e m) {v : Int} {ns : List (List UInt8)}
    (hi : i ≤ x.s.length) (hk : ∀ k ∈ ks, (txt x.q (entC k)).length ≤ 65536) (hw : num = true → (ks.length : Int) = wid) (hv : v + 1 + (ks.length : Int) ≤ x.nod) :
    recD x num wid false i v ns = .ok (e + m, v + 1 + (ks.length : Int), ns, .mk 8 [] [] ks (slc x.s e (e + m)), (ks.length : Int)) := by
  have hl := h.le hi
  have hb : begE x.dep x.nod 2 i v = .ok (v + 1) := by unfold begE; rw [if_neg (by omega), if_neg (by omega)]
  rw [recD_eq]
  simp only [Bool.false_eq_true, if_false, hb]
  unfold recK
  rw [recE_of hdep h (x.s.length + 1) (acc := []) (v := v + 1) (ns := ns) hi (by omega) hk (fun hn => by rw [List.length_nil, Nat.zero_add, hw hn]; omega) (by omega)]
  simp only [hl.2.2.2.2]
  cases num with
  | true => have := hw rfl; simp only [if_true, List.nil_append]; rw [← this, if_neg (by omega)]
  | false => simp only [Bool.false_eq_true, if_false, List.nil_append]; rw [if_neg (by omega)]
theorem recD_lim1 {x : Cx} {num : Bool} {wid : Int} (d' n' : Int) {i : Nat} {v : Int} {ns : List (List UInt8)} : recD (x.lim d' n') num wid true i v ns = recD x num wid true i v ns := by
  rw [recD_eq, recD_eq, if_pos rfl, if_pos rfl]
  have := recE_lim1 (x := x) (num := num) (wid := wid) d' n' (x.s.length + 1) (acc := []) (i := i) (v := v) (ns := ns)
  show recK x.s num wid (recE (x.lim d' n') num wid true (x.s.length + 1) [] i v ns) = _
  rw [this]
theorem recD_lim {x : Cx} {num : Bool} {wid : Int} {d' n' : Int} {i : Nat} {v : Int} {ns : List (List UInt8)} {i' : Nat} {v' : Int} {ns' : List (List UInt8)} {r : Nd} {wid' : Int}
    (h : recD x num wid false i v ns = .ok (i', v', ns', r, wid')) : v + 1 < v' ∧ (3 ≤ d' → v' ≤ n' → recD (x.lim d' n') num wid false i v ns = .ok (i', v', ns', r, wid')) ∧
      (3 ≤ d' → n' < v' → ∃ o, recD (x.lim d' n') num wid false i v ns = .error (o, 10)) ∧ (d' = 2 → v < n' → ∃ o, recD (x.lim d' n') num wid false i v ns = .error (o, 9)) := by
  obtain ⟨v1, h1, h⟩ := recD_start h
  have h1 : v1 = v + 1 := by simpa using h1
  subst h1
  obtain ⟨e, v2, ns2, ks, m, h2, h3, hw, hp⟩ := recK_ok h
  simp only [Prod.mk.injEq] at hp
  obtain ⟨rfl, rfl, rfl, rfl, rfl⟩ := hp
  obtain ⟨k0, k1, k2, k3⟩ := recE_lim (d' := d') (n' := n') _ h2
  have b1 : 2 ≤ d' → v < n' → begE d' n' 2 i v = .ok (v + 1) := fun g1 g2 => by unfold begE; rw [if_neg (by omega), if_neg (by omega)]
  have b2 : 2 ≤ d' → n' ≤ v → begE d' n' 2 i v = .error (i, 10) := fun g1 g2 => by unfold begE; rw [if_neg (by omega), if_pos g2]
  rw [recD_eq]
  simp only [Bool.false_eq_true, if_false]
  refine ⟨by omega, fun g1 g2 => ?_, fun g1 g2 => ?_, fun g1 g2 => ?_⟩
  · rw [b1 (by omega) (by omega)]
    show recK x.s num wid (recE (x.lim d' n') num wid false (x.s.length + 1) [] i (v + 1) ns) = _
    rw [k1 g1 g2]
    simp only [recK, h3]
    rw [if_neg hw]
  · by_cases hv : n' ≤ v
    · rw [b2 (by omega) hv]; exact ⟨_, rfl⟩
    · rw [b1 (by omega) (by omega)]
      obtain ⟨o, ho⟩ := k2 g1 g2
      exact ⟨o, by show recK x.s num wid (recE (x.lim d' n') num wid false (x.s.length + 1) [] i (v + 1) ns) = _; rw [ho]; rfl⟩
  · rw [b1 (by omega) (by omega)]
    obtain ⟨o, ho⟩ := k3 (by omega)
    exact ⟨o, by show recK x.s num wid (recE (x.lim d' n') num wid false (x.s.length + 1) [] i (v + 1) ns) = _; rw [ho]; rfl⟩
/-- How many values records hold. -/
def costR (r : Nd) : Int := 1 + ((kidsOf r).length : Int)
def costL : List Nd → Int
  | [] => 0
  | r :: rs => costR r + costL rs
theorem costL_nonneg : ∀ rs, 0 ≤ costL rs
  | [] => by simp [costL]
  | r :: rs => by have := costL_nonneg rs; simp only [costL, costR]; omega
def costH (hd : Bool) (rs : List Nd) : Int := if hd then costL rs.tail else costL rs
theorem recE_cost {x : Cx} {num hd : Bool} {wid : Int} : ∀ (n : Nat) {acc : List Nd} {i : Nat} {v : Int} {ns : List (List UInt8)} {e : Nat} {v' : Int} {ns' : List (List UInt8)} {out : List Nd},
    recE x num wid hd n acc i v ns = .ok (e, v', ns', out) → v' = v + (if hd then 0 else (out.length : Int) - acc.length) := by
  intro n
  induction n with
  | zero => intro acc i v ns e v' ns' out h; simp only [recE] at h; cases h
  | succ n ih =>
    intro acc i v ns e v' ns' out h
    simp only [recE] at h
    split at h
    · cases h
    simp only [bind, Except.bind] at h
    split at h
    · cases h
    rename_i p he
    obtain ⟨e1, v1, ns1⟩ := p
    have c3 : v1 = v + (if hd then 0 else 1) := by
      cases hd with
      | false => simpa using (entE_inv he).2.2.1
      | true => simpa using (entE_inv1 he).1
    simp only at h
    split at h
    · have := ih h
      rw [this, c3]
      cases hd <;> simp
      omega
    · split at h
      · cases h
      cases h
      rw [c3]
      cases hd <;> simp
      omega
theorem recE_v1 {x : Cx} {num : Bool} {wid : Int} (n : Nat) {acc : List Nd} {i : Nat} {v : Int} {ns : List (List UInt8)} {e : Nat} {v' : Int} {ns' : List (List UInt8)} {out : List Nd}
    (h : recE x num wid true n acc i v ns = .ok (e, v', ns', out)) : v' = v := by simpa using recE_cost n h
theorem recD_cost {x : Cx} {num : Bool} {wid : Int} {i : Nat} {v : Int} {ns : List (List UInt8)} {i' : Nat} {v' : Int} {ns' : List (List UInt8)} {r : Nd} {wid' : Int}
    (h : recD x num wid false i v ns = .ok (i', v', ns', r, wid')) : v' = v + costR r := by
  obtain ⟨v1, h1, h⟩ := recD_start h
  have h1 : v1 = v + 1 := by simpa using h1
  subst h1
  obtain ⟨e, v2, ns2, ks, m, h2, h3, hw, hp⟩ := recK_ok h
  simp only [Prod.mk.injEq] at hp
  obtain ⟨rfl, rfl, rfl, rfl, rfl⟩ := hp
  have := recE_cost _ h2
  simp only [Bool.false_eq_true, if_false, List.length_nil] at this
  simp only [costR, kidsOf]; omega
theorem docE_inv {x : Cx} {hdr : Bool} : ∀ (n : Nat) {acc : List Nd} {i : Nat} {v : Int} {ns : List (List UInt8)} {wid : Int} {out : List Nd}, i ≤ x.s.length → docE x hdr n acc i v ns wid = .ok out →
    ∃ rs, out = acc ++ rs ∧ Recs x.a x.q x.s i rs ∧ (∀ r ∈ rs, ∀ k ∈ kidsOf r, (txt x.q (entC k)).length ≤ 65536) ∧ (∃ W : Int, (acc ≠ [] → W = wid) ∧ ∀ r ∈ rs, ((kidsOf r).length : Int) = W) ∧
      (costH (hdr && acc.isEmpty) rs = 0 ∨ 3 ≤ x.dep ∧ v + costH (hdr && acc.isEmpty) rs ≤ x.nod) := by
  intro n
  induction n with
  | zero => intro acc i v ns wid out hi h; simp only [docE] at h; cases h
  | succ n ih =>
    intro acc i v ns wid out hi h
    simp only [docE] at h
    split at h
    · rename_i hl
      cases h
      exact ⟨[], by simp, .nil hl, fun r hr => (by cases hr), ⟨wid, fun _ => rfl, fun r hr => (by cases hr)⟩, .inl (by unfold costH; cases (hdr && acc.isEmpty) <;> rfl)⟩
    rename_i hl
    simp only [bind, Except.bind] at h
    split at h
    · cases h
    rename_i p h1
    obtain ⟨i', v', ns', r, wid'⟩ := p
    obtain ⟨ks, e, m, rfl, rfl, k2, k3, k4, k5, k6, k7⟩ := recD_inv hi h1
    have hle := k2.le hi
    obtain ⟨rs, j1, j2, j3, ⟨W, j4, j5⟩, j6⟩ := ih (by omega) h
    have hW : W = wid' := j4 (by simp)
    refine ⟨_ :: rs, by rw [j1, List.append_assoc]; rfl, .cons (by omega) k2 j2, ?_, ⟨W, fun hne => ?_, ?_⟩, ?_⟩
    · intro r hr
      rcases List.mem_cons.1 hr with rfl | hr
      · exact k4
      · exact j3 r hr
    · rw [hW]; exact k6 (by cases acc; exact absurd rfl hne; rfl)
    · intro r hr
      rcases List.mem_cons.1 hr with rfl | hr
      · rw [hW]; exact k5
      · exact j5 r hr
    · have hnil : (hdr && (acc ++ [Nd.mk 8 [] [] ks (slc x.s e (e + m))]).isEmpty) = false := by cases acc <;> simp
      rw [hnil] at j6
      have hcn := costL_nonneg rs
      cases hh : (hdr && acc.isEmpty) with
      | true =>
        rw [hh] at k3 k7
        simp only [costH, if_true, List.tail_cons, Bool.false_eq_true, if_false] at j6 k3 ⊢
        rcases j6 with j6 | j6
        · exact .inl j6
        · right; omega
      | false =>
        rw [hh] at k3 k7
        have k7 := k7 rfl
        simp only [costH, Bool.false_eq_true, if_false, costL, costR, kidsOf] at j6 k3 ⊢
        right
        rcases j6 with j6 | j6
        · exact ⟨k7.1, by omega⟩
        · exact ⟨k7.1, by omega⟩
theorem docE_of {x : Cx} (hdep : 3 ≤ x.dep) {W : Int} : ∀ {i : Nat} {rs : List Nd}, Recs x.a x.q x.s i rs → ∀ (n : Nat) {acc : List Nd} {v : Int} {ns : List (List UInt8)} {wid : Int}, i ≤ x.s.length → x.s.length < i + n →
    (∀ r ∈ rs, ∀ k ∈ kidsOf r, (txt x.q (entC k)).length ≤ 65536) → (acc ≠ [] → wid = W) → (∀ r ∈ rs, ((kidsOf r).length : Int) = W) → v + costL rs ≤ x.nod → docE x false n acc i v ns wid = .ok (acc ++ rs) := by
  intro i rs h
  induction h with
  | nil h =>
    intro n acc v ns wid hi hn hk hw hW hv
    cases n with
    | zero => omega
    | succ n => simp only [docE]; rw [if_pos h, List.append_nil]
  | @cons i e m ks rs h1 h2 h3 ih =>
    intro n acc v ns wid hi hn hk hw hW hv
    cases n with
    | zero => omega
    | succ n =>
    have hle := h2.le hi
    have hks : (ks.length : Int) = W := hW _ (List.mem_cons_self ..)
    have hm : 0 < e + m - i := by
      rcases Nat.eq_zero_or_pos m with h0 | h0
      · have := (lineE_ok (by omega) hle.2.2.2.2).2.1 h0; omega
      · omega
    simp only [costL, costR, kidsOf] at hv
    have hcn := costL_nonneg rs
    simp only [docE, Bool.false_and]
    rw [if_neg (by omega), recD_of hdep h2 hi (hk _ (List.mem_cons_self ..)) (fun hn => by rw [hks]; exact (hw (by rintro rfl; simp at hn)).symm) (by omega)]
    simp only [bind, Except.bind]
    rw [ih n (by omega) (by omega) (fun r hr => hk r (List.mem_cons_of_mem _ hr)) (fun _ => hks) (fun r hr => hW r (List.mem_cons_of_mem _ hr)) (by omega), List.append_assoc]
    rfl
theorem docE_lim {x : Cx} {hdr : Bool} {d' n' : Int} : ∀ (n : Nat) {acc : List Nd} {i : Nat} {v : Int} {ns : List (List UInt8)} {wid : Int} {out : List Nd}, docE x hdr n acc i v ns wid = .ok out →
    ∃ rs, out = acc ++ rs ∧ ((costH (hdr && acc.isEmpty) rs = 0 ∨ 3 ≤ d') → v + costH (hdr && acc.isEmpty) rs ≤ n' → docE (x.lim d' n') hdr n acc i v ns wid = .ok out) ∧
      (0 < costH (hdr && acc.isEmpty) rs → 3 ≤ d' → n' < v + costH (hdr && acc.isEmpty) rs → ∃ o, docE (x.lim d' n') hdr n acc i v ns wid = .error (o, 10)) ∧
      (0 < costH (hdr && acc.isEmpty) rs → d' = 2 → v + costH (hdr && acc.isEmpty) rs ≤ n' → ∃ o, docE (x.lim d' n') hdr n acc i v ns wid = .error (o, 9)) := by
  intro n
  induction n with
  | zero => intro acc i v ns wid out h; simp only [docE] at h; cases h
  | succ n ih =>
    intro acc i v ns wid out h
    simp only [docE] at h ⊢
    split at h
    · rename_i hl
      cases h
      have h0 : costH (hdr && acc.isEmpty) [] = 0 := by unfold costH; cases (hdr && acc.isEmpty) <;> rfl
      refine ⟨[], by simp, ?_⟩
      rw [h0]
      exact ⟨fun _ _ => by rw [if_pos hl], fun h => absurd h (by decide), fun h => absurd h (by decide)⟩
    rename_i hl
    rw [if_neg hl]
    simp only [bind, Except.bind] at h ⊢
    split at h
    · cases h
    rename_i p h1
    obtain ⟨i', v', ns', r, wid'⟩ := p
    obtain ⟨rs, j1, j2, j3, j4⟩ := ih h
    have hnil : (hdr && (acc ++ [r]).isEmpty) = false := by cases acc <;> simp
    rw [hnil] at j2 j3 j4
    have hcn := costL_nonneg rs
    refine ⟨r :: rs, by rw [j1, List.append_assoc]; rfl, ?_⟩
    cases hh : (hdr && acc.isEmpty) with
    | true =>
      rw [hh] at h1
      rw [recD_lim1, h1]
      have hv : v' = v := by
        obtain ⟨v1, h3, h4⟩ := recD_start h1
        have h3 : v1 = v := by simpa using h3
        subst h3
        obtain ⟨e, v2, ns2, ks, m, h2, h5, hw, hp⟩ := recK_ok h4
        simp only [Prod.mk.injEq] at hp
        obtain ⟨rfl, rfl, rfl, rfl, rfl⟩ := hp
        exact recE_v1 _ h2
      subst hv
      simp only [costH, if_true, List.tail_cons, Bool.false_eq_true, if_false] at j2 j3 j4 ⊢
      exact ⟨j2, j3, j4⟩
    | false =>
      rw [hh] at h1
      have hc : v' = v + costR r := recD_cost h1
      obtain ⟨k0, k1, k2, k3⟩ := recD_lim (d' := d') (n' := n') h1
      simp only [costH, Bool.false_eq_true, if_false, costL] at j2 j3 j4 ⊢
      refine ⟨fun g1 g2 => ?_, fun g0 g1 g2 => ?_, fun g0 g1 g2 => ?_⟩
      · have : 3 ≤ d' := by rcases g1 with g1 | g1; omega; exact g1
        rw [k1 this (by omega)]
        exact j2 (.inr this) (by omega)
      · by_cases hv : n' < v'
        · obtain ⟨o, ho⟩ := k2 g1 hv
          rw [ho]; exact ⟨_, rfl⟩
        · rw [k1 g1 (by omega)]
          by_cases h0 : 0 < costL rs
          · exact j3 h0 g1 (by omega)
          · omega
      · obtain ⟨o, ho⟩ := k3 g1 (by omega)
        rw [ho]; exact ⟨_, rfl⟩
end Go.TVF
end

section
set_option linter.unusedVariables false
set_option linter.unusedSimpArgs false
namespace Go.TVF
open Go Go.Proofs
theorem by_take {s : List UInt8} {m j : Nat} (h : j < m) : by_ (s.take m) j = by_ s j := by
  unfold by_
  rw [List.getD_eq_getElem?_getD, List.getD_eq_getElem?_getD, List.getElem?_take, if_pos h]
theorem QE_take {q : Int} {s : List UInt8} {m : Nat} (hm : m ≤ s.length) : ∀ (n i e : Nat), s.length - i ≤ n → QE q s i = some e → e ≤ m → QE q (s.take m) i = some e := by
  have hlen : (s.take m).length = m := by rw [List.length_take]; omega
  intro n
  induction n with
  | zero => intro i e h he; rw [QE_end (by omega)] at he; cases he
  | succ n ih =>
    intro i e h he hem
    have hle := QE_le _ _ _ (Nat.le_refl _) he
    have hi : i < s.length := by omega
    by_cases hb : by_ s i = q
    · by_cases h2 : i + 1 < s.length ∧ by_ s (i + 1) = q
      · rw [QE_pair h2.1 hb h2.2] at he
        have hle2 := QE_le _ _ _ (Nat.le_refl _) he
        rw [QE_pair (by omega) (by rw [by_take (by omega)]; exact hb) (by rw [by_take (by omega)]; exact h2.2)]
        exact ih (i + 2) e (by omega) he hem
      · rw [QE_last hi hb (fun h3 h4 => h2 ⟨h3, h4⟩)] at he
        cases he
        exact QE_last (by omega) (by rw [by_take (by omega)]; exact hb) fun h3 => by rw [by_take (by omega)]; exact fun h4 => h2 ⟨by omega, h4⟩
    · rw [QE_other hi hb] at he
      rw [QE_other (by omega) (by rw [by_take (by omega)]; exact hb)]
      exact ih (i + 1) e (by omega) he hem
theorem PE_take {a q : Int} {s : List UInt8} {m : Nat} (hm : m ≤ s.length) : ∀ (n i e : Nat), s.length - i ≤ n → i ≤ s.length → PE a q s i = .ok e → e ≤ m → PE a q (s.take m) i = .ok e := by
  have hlen : (s.take m).length = m := by rw [List.length_take]; omega
  intro n
  induction n with
  | zero => intro i e h hi he hem; rw [PE_end (by omega)] at he; cases he; exact PE_end (by omega)
  | succ n ih =>
    intro i e h hi he hem
    have hle := PE_le _ _ _ (Nat.le_refl _) hi he
    by_cases hl : i < s.length
    · by_cases hb : by_ s i = a ∨ by_ s i = 10 ∨ by_ s i = 13
      · rw [PE_stop hl hb] at he; cases he
        by_cases hml : i < m
        · exact PE_stop (by omega) (by rw [by_take hml]; exact hb)
        · exact PE_end (by omega)
      · by_cases hq : by_ s i = q
        · rw [PE_mark hl hb hq] at he; cases he
        · rw [PE_next hl hb hq] at he
          have hle2 := PE_le _ _ _ (Nat.le_refl _) (by omega) he
          rw [PE_next (by omega) (by rw [by_take (by omega)]; exact hb) (by rw [by_take (by omega)]; exact hq)]
          exact ih (i + 1) e (by omega) (by omega) he hem
    · rw [PE_end (by omega)] at he; cases he; exact PE_end (by omega)
theorem cellE_take {a q : Int} {s : List UInt8} {m i e : Nat} (hm : m ≤ s.length) (hi : i ≤ s.length) (h : cellE a q s i = .ok e) (he : e ≤ m) : cellE a q (s.take m) i = .ok e := by
  have hlen : (s.take m).length = m := by rw [List.length_take]; omega
  unfold cellE at h ⊢
  split at h
  · rename_i hc
    split at h
    · rename_i e' he'
      cases h
      have hle := QE_le _ _ _ (Nat.le_refl _) he'
      rw [if_pos ⟨by omega, by rw [by_take (by omega)]; exact hc.2⟩, QE_take hm _ _ _ (Nat.le_refl _) he' he]
    · cases h
  · rename_i hc
    split at h
    · rename_i e' he'
      cases h
      have hle := PE_le _ _ _ (Nat.le_refl _) hi he'
      rw [if_neg (by rintro ⟨h1, h2⟩; rw [by_take (by omega)] at h2; exact hc ⟨by omega, h2⟩), PE_take hm _ _ _ (Nat.le_refl _) hi he' he]
    · cases h
theorem lineE_take {s : List UInt8} {m e n : Nat} (hm : m ≤ s.length) (he : e ≤ s.length) (h : lineE s e = .ok n) (hn : e + n ≤ m) : lineE (s.take m) e = .ok n := by
  have hlen : (s.take m).length = m := by rw [List.length_take]; omega
  have hl := lineE_ok he h
  by_cases h0 : n = 0
  · have h1 := hl.2.1 h0
    have : s.take m = s := List.take_of_length_le (by omega)
    rw [this]; exact h
  · unfold lineE at h ⊢
    rw [if_neg (by intro hh; rw [if_pos hh] at h; cases h; exact h0 rfl)] at h
    rw [if_neg (by omega), by_take (by omega)]
    split at h
    · rename_i h1; cases h; rw [if_pos h1]
    rename_i h1
    rw [if_neg h1]
    split at h
    · cases h
    rename_i h2
    rw [if_neg h2]
    split at h
    · cases h
    rename_i h3
    split at h
    · rename_i h4
      cases h
      rw [if_neg (by omega), by_take (by omega), if_pos h4]
    · cases h
theorem slc_take {s : List UInt8} {m i e : Nat} (h : e ≤ m) : slc (s.take m) i e = slc s i e := by
  unfold slc; rw [List.take_take, Nat.min_eq_left h]
theorem Ents.take {a q : Int} {s : List UInt8} {m : Nat} (hm : m ≤ s.length) {i : Nat} {ks : List Nd} {e n : Nat} (h : Ents a q s i ks e n) : i ≤ s.length → e + n ≤ m → Ents a q (s.take m) i ks e n := by
  have hlen : (s.take m).length = m := by rw [List.length_take]; omega
  induction h with
  | @last i e n h1 h2 h3 =>
    intro hi he
    have hle := cellE_le hi h1
    have := Ents.last (cellE_take hm hi h1 (by omega)) (by rintro ⟨g1, g2⟩; rw [by_take (by omega)] at g2; exact h2 ⟨by omega, g2⟩) (lineE_take hm hle.2 h3 he)
    unfold entN at this ⊢
    rwa [slc_take (by omega)] at this
  | @more i e e' n ks h1 h2 h3 h4 ih =>
    intro hi he
    have hle := cellE_le hi h1
    have hle2 := h4.le (by omega)
    have := Ents.more (cellE_take hm hi h1 (by omega)) (by omega) (by rw [by_take (by omega)]; exact h3) (ih (by omega) he)
    unfold entN at this ⊢
    rwa [slc_take (by omega), show (s.take m).getD e 0 = s.getD e 0 by rw [List.getD_eq_getElem?_getD, List.getD_eq_getElem?_getD, List.getElem?_take, if_pos (by omega)]] at this
theorem Recs.take {a q : Int} {s : List UInt8} {i : Nat} {rs : List Nd} (h : Recs a q s i rs) : i ≤ s.length → ∀ k, i + klen (rs.take k) ≤ s.length ∧ Recs a q (s.take (i + klen (rs.take k))) i (rs.take k) := by
  induction h with
  | @nil i h =>
    intro hi k
    rw [List.take_nil]
    exact ⟨by simp [klen]; exact hi, .nil (by rw [List.length_take]; simp [klen]; omega)⟩
  | @cons i e n ks rs h1 h2 h3 ih =>
    intro hi k
    cases k with
    | zero => rw [List.take_zero]; exact ⟨by simp [klen]; exact hi, .nil (by rw [List.length_take]; simp [klen]; omega)⟩
    | succ k =>
      have hle := h2.le hi
      obtain ⟨j1, j2⟩ := ih (by omega) k
      have hn : nlen (.mk 8 [] [] ks (slc s e (e + n))) = e + n - i := by
        have h5 := ktext_len ks
        rw [h2.text hi, slc_len (by omega) (by omega)] at h5
        have h6 := slc_len (s := s) (i := e) (e := e + n) (by omega) (by omega)
        simp only [nlen, List.length_nil]; omega
      have he : i + klen ((.mk 8 [] [] ks (slc s e (e + n)) :: rs : List Nd).take (k + 1)) = e + n + klen (rs.take k) := by
        rw [List.take_succ_cons, klen, hn]; omega
      rw [he]
      refine ⟨j1, ?_⟩
      rw [List.take_succ_cons]
      have hc := Recs.cons (a := a) (q := q) (s := s.take (e + n + klen (rs.take k))) (i := i) (e := e) (n := n) (ks := ks) (rs := rs.take k) (by rw [List.length_take]; have := (lineE_ok (by omega) hle.2.2.2.2); omega) (h2.take j1 hi (by omega)) j2
      rwa [slc_take (by omega)] at hc
theorem qEnd_of {q : Int} {c : UInt8} (hc : (c.toNat : Int) = q) : ∀ (t rest : List UInt8) (i : Nat), (∀ b l, rest = b :: l → (b.toNat : Int) ≠ q) → qEnd q (dbl c t ++ c :: rest) i = some (i + (dbl c t).length + 1)
  | [], rest, i, h => by
    simp only [dbl, List.flatMap_nil, List.nil_append, List.length_nil, Nat.add_zero]
    cases rest with
    | nil => simp only [qEnd]; rw [if_pos hc]
    | cons b l => simp only [qEnd]; rw [if_pos hc, if_neg (h b l rfl)]
  | b :: t, rest, i, h => by
    rw [dbl_cons]
    by_cases hb : b = c
    · rw [if_pos hb]
      have ih := qEnd_of hc t rest (i + 2) h
      simp only [List.cons_append, List.nil_append, List.length_cons, qEnd]
      rw [if_pos hc, if_pos hc, ih]
      congr 1; omega
    · rw [if_neg hb]
      have hb' : (b.toNat : Int) ≠ q := fun h => hb (UInt8.toNat_inj.1 (by omega))
      have ih := qEnd_of hc t rest (i + 1) h
      simp only [List.cons_append, List.nil_append, List.length_cons]
      cases hr : dbl c t ++ c :: rest with
      | nil => simp at hr
      | cons b2 l2 =>
        rw [hr] at ih
        simp only [qEnd]
        rw [if_neg hb', ih]
        congr 1; omega
theorem pEnd_of {a q : Int} (ha : a ≠ q) (hq : q ≠ 10) (hq2 : q ≠ 13) : ∀ (t : List UInt8) (b : UInt8) (rest : List UInt8) (i : Nat), (∀ c ∈ t, (c.toNat : Int) ≠ a ∧ (c.toNat : Int) ≠ q ∧ (c.toNat : Int) ≠ 10 ∧ (c.toNat : Int) ≠ 13) →
    ((b.toNat : Int) = a ∨ (b.toNat : Int) = 10) → pEnd a q (t ++ b :: rest) i = .ok (i + t.length)
  | [], b, rest, i, h, hb => by simp only [List.nil_append, pEnd]; rw [if_pos (by omega)]; rfl
  | c :: t, b, rest, i, h, hb => by
    have hc := h c (List.mem_cons_self ..)
    simp only [List.cons_append, pEnd]
    rw [if_neg (by omega), if_neg hc.2.1, pEnd_of ha hq hq2 t b rest (i + 1) (fun d hd => h d (List.mem_cons_of_mem _ hd)) hb]
    simp; omega
/-- Whether a text must be quoted. -/
def needQ (a q : Int) (s : List UInt8) : Bool := s.any fun c => decide ((c.toNat : Int) = a ∨ (c.toNat : Int) = q ∨ (c.toNat : Int) = 10 ∨ (c.toNat : Int) = 13)
/-- The cell of a text. -/
def quoC (a q : Int) (s : List UInt8) : List UInt8 := if needQ a q s then UInt8.ofNat q.toNat :: (dbl (UInt8.ofNat q.toNat) s ++ [UInt8.ofNat q.toNat]) else s
theorem needQ_no {a q : Int} {s : List UInt8} (h : needQ a q s = false) : ∀ c ∈ s, (c.toNat : Int) ≠ a ∧ (c.toNat : Int) ≠ q ∧ (c.toNat : Int) ≠ 10 ∧ (c.toNat : Int) ≠ 13 := by
  intro c hc
  unfold needQ at h
  rw [List.any_eq_false] at h
  have := h c hc
  rw [decide_eq_true_eq] at this
  omega
theorem ofNat_q {q : Int} (h : 0 ≤ q) (h2 : q ≤ 255) : ((UInt8.ofNat q.toNat).toNat : Int) = q := by
  rw [UInt8.toNat_ofNat']; omega
theorem txt_quoC {a q : Int} (h : 0 ≤ q) (h2 : q ≤ 255) (s : List UInt8) : txt q (quoC a q s) = s := by
  unfold quoC
  split
  · exact txt_quoted (ofNat_q h h2)
  · rename_i hn
    have hn := needQ_no (by simpa using hn)
    unfold txt
    rw [if_pos]
    cases s with
    | nil => exact .inl rfl
    | cons b l => exact .inr (hn b (List.mem_cons_self ..)).2.1
theorem cellE_quoC {a q : Int} (hq0 : 0 ≤ q) (hq1 : q ≤ 255) (ha : a ≠ q) (hq : q ≠ 10) (hq2 : q ≠ 13) (pre c : List UInt8) (b : UInt8) (post : List UInt8) (hb : (b.toNat : Int) = a ∨ (b.toNat : Int) = 10) :
    cellE a q (pre ++ quoC a q c ++ b :: post) pre.length = .ok (pre.length + (quoC a q c).length) := by
  have hd : (pre ++ quoC a q c ++ b :: post).drop pre.length = quoC a q c ++ b :: post := by rw [List.append_assoc, List.drop_left]
  have hby : ∀ d l, quoC a q c ++ b :: post = d :: l → by_ (pre ++ quoC a q c ++ b :: post) pre.length = (d.toNat : Int) := fun d l h => by
    have : (pre ++ quoC a q c ++ b :: post).getD pre.length 0 = ((pre ++ quoC a q c ++ b :: post).drop pre.length).getD 0 0 := by rw [getD_drop]; rfl
    unfold by_
    rw [this, hd, h]; rfl
  have hlen : pre.length < (pre ++ quoC a q c ++ b :: post).length := by simp only [List.length_append, List.length_cons]; omega
  have hqb := ofNat_q hq0 hq1
  unfold cellE
  by_cases hn : needQ a q c = true
  · have hqc : quoC a q c = UInt8.ofNat q.toNat :: (dbl (UInt8.ofNat q.toNat) c ++ [UInt8.ofNat q.toNat]) := by unfold quoC; rw [if_pos hn]
    have := hby (UInt8.ofNat q.toNat) (dbl (UInt8.ofNat q.toNat) c ++ [UInt8.ofNat q.toNat] ++ b :: post) (by rw [hqc]; rfl)
    rw [if_pos ⟨hlen, by rw [this]; exact hqb⟩]
    have hQ : QE q (pre ++ quoC a q c ++ b :: post) (pre.length + 1) = some (pre.length + (quoC a q c).length) := by
      unfold QE
      rw [← List.drop_drop, hd, hqc]
      have := qEnd_of hqb c (b :: post) (pre.length + 1) (fun b' l' h => by cases h; omega)
      simp only [List.cons_append, List.drop_succ_cons, List.drop_zero, List.append_assoc, List.nil_append]
      rw [this]
      congr 1
      simp; omega
    rw [hQ]
  · have hn : needQ a q c = false := by simpa using hn
    have hqc : quoC a q c = c := by unfold quoC; rw [if_neg (by rw [hn]; decide)]
    have hno := needQ_no hn
    have hP : PE a q (pre ++ quoC a q c ++ b :: post) pre.length = .ok (pre.length + (quoC a q c).length) := by
      unfold PE
      rw [hd, hqc]
      exact pEnd_of ha hq hq2 c b post pre.length hno hb
    rw [if_neg, hP]
    rintro ⟨_, h2⟩
    cases hc : c with
    | nil => rw [hby b post (by rw [hqc, hc]; rfl)] at h2; omega
    | cons d l => rw [hby d (l ++ b :: post) (by rw [hqc, hc]; rfl)] at h2; exact (hno d (by rw [hc]; exact List.mem_cons_self ..)).2.1 h2
/-- The line of cells. -/
def lineT (a q : Int) : List (List UInt8) → List UInt8
  | [] => [10]
  | [c] => quoC a q c ++ [10]
  | c :: r => quoC a q c ++ UInt8.ofNat a.toNat :: lineT a q r
theorem ents_lineT {a q : Int} (ha0 : 0 ≤ a) (ha1 : a ≤ 255) (hq0 : 0 ≤ q) (hq1 : q ≤ 255) (ha : a ≠ q) (hq : q ≠ 10) (hq2 : q ≠ 13) (ha10 : a ≠ 10) : ∀ (cs : List (List UInt8)) (pre post : List UInt8), cs ≠ [] →
    ∃ ks e, Ents a q (pre ++ lineT a q cs ++ post) pre.length ks e 1 ∧ e + 1 = pre.length + (lineT a q cs).length ∧ ks.map entC = cs.map (quoC a q) ∧ slc (pre ++ lineT a q cs ++ post) e (e + 1) = [10]
  | [], pre, post, h => absurd rfl h
  | [c], pre, post, _ => by
    have hs : pre ++ lineT a q [c] ++ post = pre ++ quoC a q c ++ 10 :: post := by simp [lineT]
    have hc := cellE_quoC hq0 hq1 ha hq hq2 pre c 10 post (.inr rfl)
    rw [hs]
    have hlt : pre.length + (quoC a q c).length < (pre ++ quoC a q c ++ 10 :: post).length := by simp
    have hb : (pre ++ quoC a q c ++ 10 :: post).getD (pre.length + (quoC a q c).length) 0 = 10 := by
      have : (pre ++ quoC a q c).length = pre.length + (quoC a q c).length := by simp
      rw [← this, List.getD_eq_getElem?_getD, List.getElem?_append_right (Nat.le_refl _)]
      simp
    have hby : by_ (pre ++ quoC a q c ++ 10 :: post) (pre.length + (quoC a q c).length) = 10 := by unfold by_; rw [hb]; rfl
    refine ⟨_, _, .last hc (by rintro ⟨_, h⟩; rw [hby] at h; exact ha10 h.symm) ?_, ?_, ?_, ?_⟩
    · unfold lineE; rw [if_neg (by omega), if_pos hby]
    · simp [lineT]; omega
    · simp only [List.map_cons, List.map_nil, entC_entN]
      congr 1
      unfold slc
      rw [show pre.length + (quoC a q c).length = (pre ++ quoC a q c).length by simp, List.take_left, List.drop_left]
    · rw [slc_one hlt, hb]
  | c :: c2 :: r, pre, post, _ => by
    have hs : pre ++ lineT a q (c :: c2 :: r) ++ post = pre ++ quoC a q c ++ UInt8.ofNat a.toNat :: (lineT a q (c2 :: r) ++ post) := by simp [lineT]
    have hs2 : pre ++ quoC a q c ++ UInt8.ofNat a.toNat :: (lineT a q (c2 :: r) ++ post) = (pre ++ quoC a q c ++ [UInt8.ofNat a.toNat]) ++ lineT a q (c2 :: r) ++ post := by simp
    have hab := ofNat_q ha0 ha1
    have hc := cellE_quoC hq0 hq1 ha hq hq2 pre c (UInt8.ofNat a.toNat) (lineT a q (c2 :: r) ++ post) (.inl hab)
    obtain ⟨ks, e, h1, h2, h3, h4⟩ := ents_lineT ha0 ha1 hq0 hq1 ha hq hq2 ha10 (c2 :: r) (pre ++ quoC a q c ++ [UInt8.ofNat a.toNat]) post (by simp)
    rw [← hs2] at h1 h4
    rw [hs]
    have hlt : pre.length + (quoC a q c).length < (pre ++ quoC a q c ++ UInt8.ofNat a.toNat :: (lineT a q (c2 :: r) ++ post)).length := by simp
    have hb : (pre ++ quoC a q c ++ UInt8.ofNat a.toNat :: (lineT a q (c2 :: r) ++ post)).getD (pre.length + (quoC a q c).length) 0 = UInt8.ofNat a.toNat := by
      have : (pre ++ quoC a q c).length = pre.length + (quoC a q c).length := by simp
      rw [← this, List.getD_eq_getElem?_getD, List.getElem?_append_right (Nat.le_refl _)]
      simp
    have hpl : (pre ++ quoC a q c ++ [UInt8.ofNat a.toNat]).length = pre.length + (quoC a q c).length + 1 := by simp; omega
    rw [hpl] at h1 h2
    refine ⟨_, _, .more hc hlt (by unfold by_; rw [hb]; exact hab) h1, ?_, ?_, h4⟩
    · simp only [lineT, List.length_append, List.length_cons]; omega
    · simp only [List.map_cons, entC_entN]
      rw [h3]
      congr 1
      unfold slc
      rw [show pre.length + (quoC a q c).length = (pre ++ quoC a q c).length by simp, List.take_left, List.drop_left]
/-- The text of records. -/
def textT (a q : Int) (l : List (List (List UInt8))) : List UInt8 := l.flatMap (lineT a q)
theorem recs_textT {a q : Int} (ha0 : 0 ≤ a) (ha1 : a ≤ 255) (hq0 : 0 ≤ q) (hq1 : q ≤ 255) (ha : a ≠ q) (hq : q ≠ 10) (hq2 : q ≠ 13) (ha10 : a ≠ 10) : ∀ (l : List (List (List UInt8))) (pre : List UInt8), (∀ cs ∈ l, cs ≠ []) →
    ∃ rs, Recs a q (pre ++ textT a q l) pre.length rs ∧ rs.map (fun r => (kidsOf r).map entC) = l.map (fun cs => cs.map (quoC a q))
  | [], pre, h => ⟨[], .nil (by simp [textT]), rfl⟩
  | cs :: l, pre, h => by
    have hs : pre ++ textT a q (cs :: l) = pre ++ lineT a q cs ++ textT a q l := by simp [textT]
    obtain ⟨ks, e, h1, h2, h3, h4⟩ := ents_lineT ha0 ha1 hq0 hq1 ha hq hq2 ha10 cs pre (textT a q l) (h cs (List.mem_cons_self ..))
    obtain ⟨rs, h5, h6⟩ := recs_textT ha0 ha1 hq0 hq1 ha hq hq2 ha10 l (pre ++ lineT a q cs) (fun c hc => h c (List.mem_cons_of_mem _ hc))
    rw [hs]
    rw [List.length_append] at h5
    have hle := h1.le (by simp)
    refine ⟨_, .cons (by simp only [List.length_append] at hle ⊢; omega) h1 (by rw [h2]; exact h5), ?_⟩
    rw [List.map_cons, List.map_cons, h6]
    show ks.map entC :: _ = _
    rw [h3]
theorem chk_ent {a q : Int} {k : Nd} (h : EntF a q k) {s : Int} (hs : s + 3 ≤ 524288) : ∃ s', chk k 3 s = .ok s' ∧ s ≤ s' ∧ s' ≤ s + 3 := by
  obtain ⟨c, mark, rfl, _, hm⟩ := h
  rcases hm with rfl | ⟨b, _, rfl⟩
  · refine ⟨s + 1 + 1, ?_, by omega, by omega⟩
    have l2 : leafB 2 = true := by decide
    have l5 : leafB 5 = false := by decide
    simp only [chk, chkL, l2, l5, List.length_nil]
    rw [if_neg (by omega), if_neg (by omega), if_neg (by omega), if_neg (by simp), if_neg (by omega), if_neg (by omega), if_neg (by omega), if_neg (by simp)]
  · refine ⟨s + 1 + 1 + 1, ?_, by omega, by omega⟩
    have l2 : leafB 2 = true := by decide
    have l5 : leafB 5 = false := by decide
    have l11 : leafB 11 = true := by decide
    simp only [chk, chkL, l2, l5, l11, List.length_nil]
    rw [if_neg (by omega), if_neg (by omega), if_neg (by omega), if_neg (by simp), if_neg (by omega), if_neg (by omega), if_neg (by omega), if_neg (by simp)]
    simp only
    rw [if_neg (by omega), if_neg (by omega), if_neg (by omega), if_neg (by simp)]
theorem chkL_ents {a q : Int} : ∀ (ks : List Nd) (h : ∀ k ∈ ks, EntF a q k) {s : Int} (hs : s + 3 * ks.length ≤ 524288), ∃ s', chkL ks 3 s = .ok s' ∧ s ≤ s' ∧ s' ≤ s + 3 * ks.length
  | [], h, s, hs => ⟨s, rfl, by omega, by simp⟩
  | k :: ks, h, s, hs => by
    rw [List.length_cons] at hs
    obtain ⟨s1, h1, h2, h3⟩ := chk_ent (h k (List.mem_cons_self ..)) (s := s) (by omega)
    obtain ⟨s2, h4, h5, h6⟩ := chkL_ents ks (fun k hk => h k (List.mem_cons_of_mem _ hk)) (s := s1) (by omega)
    refine ⟨s2, ?_, by omega, by rw [List.length_cons]; omega⟩
    simp only [chkL, h1, h4]
theorem chkL_recs {a q : Int} {src : List UInt8} {i : Nat} {rs : List Nd} (h : Recs a q src i rs) : i ≤ src.length → ∀ {s : Int}, s + 7 * (src.length - i : Nat) ≤ 524288 → ∃ s', chkL rs 2 s = .ok s' ∧ s ≤ s' ∧ s' ≤ s + 7 * (src.length - i : Nat) := by
  induction h with
  | nil h => intro hi s hs; exact ⟨s, rfl, by omega, by omega⟩
  | @cons i e n ks rs h1 h2 h3 ih =>
    intro hi s hs
    have hle := h2.le hi
    have hpos : 1 ≤ e + n - i := by
      have := (lineE_ok (by omega) hle.2.2.2.2).2.1
      rcases Nat.eq_zero_or_pos n with h0 | h0
      · have := this h0; omega
      · omega
    obtain ⟨s1, j1, j2, j3⟩ := chkL_ents ks (h2.form hi) (s := s + 1) (by omega)
    obtain ⟨s2, j4, j5, j6⟩ := ih (by omega) (s := s1) (by omega)
    have l8 : leafB 8 = false := by decide
    refine ⟨s2, ?_, by omega, by omega⟩
    simp only [chkL, chk, l8]
    rw [if_neg (by omega), if_neg (by omega), if_neg (by omega), if_neg (by simp)]
    simp only [Int.reduceAdd]
    rw [j1]
    exact j4
theorem kcnt_ents {a q : Int} : ∀ (ks : List Nd) (h : ∀ k ∈ ks, EntF a q k), kcnt ks ≤ 3 * ks.length
  | [], h => by simp [kcnt]
  | k :: ks, h => by
    have ih := kcnt_ents ks fun k hk => h k (List.mem_cons_of_mem _ hk)
    obtain ⟨c, mark, rfl, _, hm⟩ := h k (List.mem_cons_self ..)
    rcases hm with rfl | ⟨b, _, rfl⟩ <;> simp only [kcnt, ncnt, List.length_cons] <;> omega
theorem kcnt_recs {a q : Int} {src : List UInt8} {i : Nat} {rs : List Nd} (h : Recs a q src i rs) : i ≤ src.length → kcnt rs ≤ 7 * (src.length - i) ∧ rs.length ≤ src.length - i := by
  induction h with
  | nil h => intro hi; simp [kcnt]
  | @cons i e n ks rs h1 h2 h3 ih =>
    intro hi
    have hle := h2.le hi
    have hpos : 1 ≤ e + n - i := by
      have := (lineE_ok (by omega) hle.2.2.2.2).2.1
      rcases Nat.eq_zero_or_pos n with h0 | h0
      · have := this h0; omega
      · omega
    have := kcnt_ents ks (h2.form hi)
    have ih := ih (by omega)
    simp only [kcnt, ncnt, List.length_cons]
    omega
end Go.TVF
end

section
set_option linter.unusedVariables false
set_option linter.unusedSimpArgs false
namespace Go.TVF
open Go Go.Proofs
theorem ul_of_take {l : List UInt8} {m : Nat} (h : ul (l.take m) ≠ 0) : ul l = ul (l.take m) := by
  have hne2 : l.take m ≠ [] := fun h0 => h (by simp [ul, h0])
  have hne : l ≠ [] := by rintro rfl; simp at hne2
  have hm : 0 < m := by rcases Nat.eq_zero_or_pos m with h0 | h0; (rw [h0] at hne2; simp at hne2); exact h0
  have e1 := refU_eq l hne
  have e2 := refU_eq (l.take m) hne2
  rw [if_neg h] at e2
  have hs := rsz_le (bt l 0)
  have hb : bt (l.take m) 0 = bt l 0 := by rw [bt_take, if_pos hm]
  unfold refU at e2
  simp only [hb] at e2
  split at e2
  · simp only [Prod.mk.injEq] at e2; omega
  rename_i g1
  rw [List.length_take] at g1
  split at e2
  · rename_i hc
    simp only [Prod.mk.injEq] at e2
    rw [racc_take _ _ _ _ (by omega), List.take_take, Nat.min_eq_left (by omega)] at hc
    unfold refU at e1
    simp only at e1
    rw [if_neg (by omega), if_pos hc] at e1
    split at e1
    · simp only [Prod.mk.injEq] at e1; omega
    · simp only [Prod.mk.injEq] at e1; omega
  · simp only [Prod.mk.injEq] at e2; omega
theorem vlen_app : ∀ (n : Nat) (a b : List UInt8), a.length ≤ n → vlen a = a.length → vlen (a ++ b) = a.length + vlen b := by
  intro n
  induction n with
  | zero => intro a b h hv; have : a = [] := List.eq_nil_of_length_eq_zero (by omega); subst this; simp
  | succ n ih =>
    intro a b h hv
    by_cases ha : a = []
    · subst ha; simp
    have hpos : 0 < a.length := List.length_pos_iff.2 ha
    have h0 : ul a ≠ 0 := fun h0 => by rw [vlen_zero a h0] at hv; omega
    have hle := ul_le a
    have hu : ul (a ++ b) = ul a := by
      have := ul_of_take (l := a ++ b) (m := a.length) (by rw [List.take_left]; exact h0)
      rw [List.take_left] at this; exact this
    rw [vlen_step _ h0] at hv
    rw [vlen_step _ (by rw [hu]; exact h0), hu, List.drop_append_of_le_length hle, ih _ b (by rw [List.length_drop]; omega) (by rw [List.length_drop]; omega), List.length_drop]
    omega
theorem vlen_append {a b : List UInt8} (ha : vlen a = a.length) (hb : vlen b = b.length) : vlen (a ++ b) = (a ++ b).length := by
  rw [vlen_app _ a b (Nat.le_refl _) ha, List.length_append, hb]
theorem vlen_cons {c : UInt8} {l : List UInt8} (hc : c.toNat < 128) (hl : vlen l = l.length) : vlen (c :: l) = (c :: l).length := by
  have h := ul_ascii (c :: l) (by simp) hc
  rw [vlen_step _ (by omega), h.1]
  simp only [List.drop_succ_cons, List.drop_zero, List.length_cons]; omega
theorem vlen_dbl {c : UInt8} (hc : c.toNat < 128) : ∀ (n : Nat) (t : List UInt8), t.length ≤ n → vlen t = t.length → vlen (dbl c t) = (dbl c t).length := by
  intro n
  induction n with
  | zero => intro t h hv; have : t = [] := List.eq_nil_of_length_eq_zero (by omega); subst this; simp [dbl, vlen_nil]
  | succ n ih =>
    intro t h hv
    by_cases ht : t = []
    · subst ht; simp [dbl, vlen_nil]
    have hpos : 0 < t.length := List.length_pos_iff.2 ht
    have h0 : ul t ≠ 0 := fun h0 => by rw [vlen_zero t h0] at hv; omega
    have hle := ul_le t
    have hsplit : dbl c t = dbl c (t.take (ul t)) ++ dbl c (t.drop (ul t)) := by rw [← dbl_app, List.take_append_drop]
    rw [vlen_step _ h0] at hv
    have hr := ih (t.drop (ul t)) (by rw [List.length_drop]; omega) (by rw [List.length_drop]; omega)
    rw [hsplit]
    refine vlen_append ?_ hr
    by_cases hb : bt t 0 < 128
    · have h1 := (ul_ascii t ht hb).1
      rw [h1, take_one t (by omega)]
      have : dbl c [t.getD 0 0] = if t.getD 0 0 = c then [c, c] else [t.getD 0 0] := by simp [dbl, sub1]
      rw [this]
      split
      · exact vlen_cons hc (vlen_cons hc (by simp [vlen_nil]))
      · exact vlen_cons hb (by simp [vlen_nil])
    · have hn : c ∉ t.take (ul t) := by
        intro hm
        obtain ⟨i, hi, hi2⟩ := List.mem_iff_getElem.1 hm
        rw [List.length_take] at hi
        have hbt : bt t i = c.toNat := by
          unfold bt
          rw [List.getD_eq_getElem?_getD, List.getElem?_eq_getElem (by omega)]
          rw [List.getElem_take] at hi2
          rw [← hi2]; rfl
        by_cases hi0 : i = 0
        · subst hi0; omega
        · have := (ul_cont t i (by omega) (by omega)).1
          omega
      rw [dbl_none hn, List.length_take, Nat.min_eq_left hle]
      have hu := ul_take (l := t) (m := ul t) h0 (Nat.le_refl _)
      rw [vlen_step _ (by rw [hu.1]; exact h0), hu.1]
      have : (t.take (ul t)).drop (ul t) = [] := List.drop_of_length_le (by rw [List.length_take]; omega)
      rw [this, vlen_nil]; rfl
theorem ul_head {l : List UInt8} (h : ul l ≠ 0) : ¬ contB (bt l 0) := by
  have hne : l ≠ [] := fun h0 => h (by simp [ul, h0])
  have := (pd_iff l hne h).1
  unfold hdS at this
  unfold contB
  rintro ⟨h1, h2⟩
  rw [if_neg (by omega), if_neg (by omega), if_neg (by omega), if_neg (by omega)] at this
  exact this rfl
theorem bd_after : ∀ (n : Nat) (s : List UInt8) (k : Nat), s.length ≤ n → vlen s = s.length → k < s.length → bt s k < 128 → Bd s (k + 1) := by
  intro n
  induction n with
  | zero => intro s k h hv hk hb; omega
  | succ n ih =>
    intro s k h hv hk hb
    have h0 : ul s ≠ 0 := fun h0 => by rw [vlen_zero s h0] at hv; omega
    have hle := ul_le s
    rw [vlen_step _ h0] at hv
    have hv2 : vlen (s.drop (ul s)) = (s.drop (ul s)).length := by rw [List.length_drop]; omega
    by_cases hku : k < ul s
    · by_cases hk0 : k = 0
      · subst hk0
        have h1 := (ul_ascii s (by rintro rfl; simp at hk) hb).1
        refine ⟨by omega, ?_⟩
        by_cases hl : s.length = 1
        · exact .inl (by omega)
        · right
          rw [h1] at hv2
          have hz : ul (s.drop 1) ≠ 0 := fun hz => by rw [vlen_zero _ hz, List.length_drop] at hv2; omega
          have := ul_head hz
          rwa [bt_drop] at this
      · have := (ul_cont s k (by omega) hku).1; omega
    · have := ih (s.drop (ul s)) (k - ul s) (by rw [List.length_drop]; omega) hv2 (by rw [List.length_drop]; omega) (by rw [bt_drop, show ul s + (k - ul s) = k by omega]; exact hb)
      obtain ⟨h1, h2⟩ := this
      rw [List.length_drop] at h1
      refine ⟨by omega, ?_⟩
      rw [List.length_drop, bt_drop, show ul s + (k - ul s + 1) = k + 1 by omega] at h2
      rcases h2 with h2 | h2
      · exact .inl (by omega)
      · exact .inr h2
end Go.TVF
end

section
set_option linter.unusedVariables false
set_option linter.unusedSimpArgs false
namespace Go.TVF
open Go Go.Proofs
/-- The state has grown; what was there is as it was, but for some boxes. -/
structure StX (S : Nat → Prop) (a b : St) : Prop where
  nb : a.nb ≤ b.nb
  box : ∀ i, i < a.nb → ¬ S i → b.box i = a.box i
  nt : a.nt ≤ b.nt
  live : ∀ i, i < a.nt → b.live i = a.live i
  ty : ∀ i, i < a.nt → b.ty i = a.ty i
  bt : ∀ i, i < a.nb → b.bt i = a.bt i
theorem StX.refl (S : Nat → Prop) (a : St) : StX S a a := ⟨Nat.le_refl _, fun _ _ _ => rfl, Nat.le_refl _, fun _ _ => rfl, fun _ _ => rfl, fun _ _ => rfl⟩
theorem StX.trans {S : Nat → Prop} {a b c : St} (h : StX S a b) (k : StX S b c) : StX S a c :=
  ⟨Nat.le_trans h.nb k.nb, fun i hi hs => (k.box i (Nat.lt_of_lt_of_le hi h.nb) hs).trans (h.box i hi hs), Nat.le_trans h.nt k.nt, fun i hi => (k.live i (Nat.lt_of_lt_of_le hi h.nt)).trans (h.live i hi), fun i hi => (k.ty i (Nat.lt_of_lt_of_le hi h.nt)).trans (h.ty i hi), fun i hi => (k.bt i (Nat.lt_of_lt_of_le hi h.nb)).trans (h.bt i hi)⟩
theorem StX.mono {S T : Nat → Prop} {a b : St} (h : StX S a b) (k : ∀ i, S i → T i) : StX T a b :=
  ⟨h.nb, fun i hi hs => h.box i hi fun g => hs (k i g), h.nt, h.live, h.ty, h.bt⟩
theorem StX.of {S : Nat → Prop} {a b : St} (h : StExt a b) : StX S a b := ⟨h.nb, fun i hi _ => h.box i hi, h.nt, h.live, h.ty, h.bt⟩
theorem StX.ext {S : Nat → Prop} {a b c : St} (h : StExt a b) (k : StX S b c) (hs : ∀ i, S i → a.nb ≤ i) : StExt a c :=
  ⟨Nat.le_trans h.nb k.nb, fun i hi => (k.box i (Nat.lt_of_lt_of_le hi h.nb) fun g => absurd (hs i g) (by omega)).trans (h.box i hi), Nat.le_trans h.nt k.nt, fun i hi => (k.live i (Nat.lt_of_lt_of_le hi h.nt)).trans (h.live i hi), fun i hi => (k.ty i (Nat.lt_of_lt_of_le hi h.nt)).trans (h.ty i hi), fun i hi => (k.bt i (Nat.lt_of_lt_of_le hi h.nb)).trans (h.bt i hi)⟩
theorem StX.put {S : Nat → Prop} {a : St} {i : Nat} (hi : S i) (o : AObj) : StX S a (a.put i o) :=
  ⟨Nat.le_refl _, fun j hj hs => by simp only [St.put]; rw [if_neg (by rintro rfl; exact hs hi)], Nat.le_refl _, fun _ _ => rfl, fun _ _ => rfl, fun _ _ => rfl⟩
theorem Own.extX {S : Nat → Prop} {b sz : Nat} {st st' : St} {v : TV} {n : Nat} {xs : List TV} (h : Own b sz st v n xs) (e : StX S st st') : Own b sz st' v n xs := by
  rcases h with h | ⟨tip, h, ht | ⟨id, h1, h2, h3, h4⟩⟩
  · exact .inl h
  · exact .inr ⟨tip, h, .inl ht⟩
  · exact .inr ⟨tip, h, .inr ⟨id, h1, h2, Nat.lt_of_lt_of_le h3 e.nt, by rw [e.live _ h3]; exact h4⟩⟩
theorem ldB {st : St} {b i : Nat} {l : List TV} {x : TV} (hb : st.box b = .cells l) (hx : l[i]? = some x) : ldCell st [] (.t (.box b i)) 0 = some x := by
  simp only [ldCell, hb, Nat.add_zero]; exact hx
theorem decT_str {s : List UInt8} {f : List UInt8 → Prop} (h : f s) : decT .str (.str s) f := h
theorem decT_bool {b : Bool} {f : Bool → Prop} (h : f b) : decT .bool (.bool b) f := h
theorem stB_P {st : St} {b off : Nat} {x : TV} {l : List TV} {k : St → Prop} (hb : st.box b = .cells l) (hl : Nat.ble (off + 1) l.length = true) (hk : ∀ st', StX (· = b) st st' → st'.box b = .cells (l.set off x) → k st') : stB st (.box b off) [x] k := by
  have hl := Nat.le_of_ble_eq_true hl
  refine ⟨l, hb, by simpa using hl, hk _ (StX.put (S := (· = b)) rfl _) ?_⟩
  rw [box_put]
  rfl
/-- A number in a box. -/
def cellI (st : St) (p i : Nat) : Int := match st.box p with | .cells l => (match l[i]? with | some (TV.int _ k) => k | _ => 0) | _ => 0
theorem cellI_of {st : St} {p i : Nat} {l : List TV} {kd : IntKind} {k : Int} (hb : st.box p = .cells l) (hx : l[i]? = some (.int kd k)) : cellI st p i = k := by
  simp only [cellI, hb, hx]
/-- The parser's cells. -/
def pcl (x : Cx) (hd ty : Bool) (l2 l3 l4 : Int) (m : Nat) (i n w o e : Int) : List TV :=
  [.str x.s, .int .u8 x.a, .int .u8 x.q, .bool hd, .bool ty, .int .i64 x.dep, .int .i64 x.nod, .int .i64 l2, .int .i64 l3, .int .i64 l4, .int .i64 i, .int .i64 n, .int .i64 w, .map m, .int .i64 o, .int .i64 e]
/-- A map holds names. -/
def MapN (es : List (List UInt8 × TV)) (ns : List (List UInt8)) : Prop := ∀ t, findM t es = if t ∈ ns then some (.bool true) else none
/-- The parser's state. -/
structure PS (p m : Nat) (x : Cx) (hd ty : Bool) (l2 l3 l4 : Int) (ns : List (List UInt8)) (i n w o e : Int) (st : St) : Prop where
  ne : p ≠ m
  lp : p < st.nb
  lm : m < st.nb
  bx : st.box p = .cells (pcl x hd ty l2 l3 l4 m i n w o e)
  mp : ∃ es, st.box m = .map es ∧ MapN es ns
abbrev PM (p m : Nat) : Nat → Prop := fun i => i = p ∨ i = m
theorem PS.of {p m : Nat} {x : Cx} {hd ty : Bool} {l2 l3 l4 : Int} {ns : List (List UInt8)} {i n w o e i' n' w' o' e' : Int} {st st' : St} (h : PS p m x hd ty l2 l3 l4 ns i n w o e st) (k : StX (· = p) st st')
    (b : st'.box p = .cells (pcl x hd ty l2 l3 l4 m i' n' w' o' e')) : PS p m x hd ty l2 l3 l4 ns i' n' w' o' e' st' := by
  obtain ⟨es, h1, h2⟩ := h.mp
  exact ⟨h.ne, Nat.lt_of_lt_of_le h.lp k.nb, Nat.lt_of_lt_of_le h.lm k.nb, b, es, by rw [k.box _ h.lm (fun g => h.ne g.symm)]; exact h1, h2⟩
theorem PS.keep {S : Nat → Prop} {p m : Nat} {x : Cx} {hd ty : Bool} {l2 l3 l4 : Int} {ns : List (List UInt8)} {i n w o e : Int} {st st' : St} (h : PS p m x hd ty l2 l3 l4 ns i n w o e st) (k : StX S st st') (hp : ¬ S p) (hm : ¬ S m) :
    PS p m x hd ty l2 l3 l4 ns i n w o e st' := by
  obtain ⟨es, h1, h2⟩ := h.mp
  exact ⟨h.ne, Nat.lt_of_lt_of_le h.lp k.nb, Nat.lt_of_lt_of_le h.lm k.nb, by rw [k.box _ h.lp hp]; exact h.bx, es, by rw [k.box _ h.lm hm]; exact h1, h2⟩
theorem StX.pm {p m : Nat} {a b : St} (h : StX (· = p) a b) : StX (PM p m) a b := h.mono fun _ => .inl
section
variable {p m : Nat} {x : Cx} {hd ty : Bool} {l2 l3 l4 : Int} {ns : List (List UInt8)} {I n w o e : Int} {st : St}
theorem pfail_ok {o' e' : Int} {K : Bool → St → Prop} (h : PS p m x hd ty l2 l3 l4 ns I n w o e st) (hk : ∀ st', StX (PM p m) st st' → PS p m x hd ty l2 l3 l4 ns I n w o' e' st' → K false st') :
    CallT PR fn_delim_parser_fail [.box p 0, .int .i64 o', .int .i64 e'] [.one .bool] st K := by
  refine vc_delim_parser_fail p o' e' st K (stB_P h.bx rfl fun st1 e1 b1 => stB_P b1 rfl fun st2 e2 b2 => ?_)
  exact hk st2 (e1.trans e2).pm (h.of (e1.trans e2) b2)
theorem pvalue_ok {d v : Int} {i : Nat} {K : Bool → St → Prop} (hI : I = (i : Int)) (hv0 : 0 ≤ v) (hv : v < 1000000000) (h : PS p m x hd ty l2 l3 l4 ns I v w o e st)
    (h0 : ∀ v' st', begE x.dep x.nod d i v = .ok v' → StX (PM p m) st st' → PS p m x hd ty l2 l3 l4 ns I v' w o e st' → K true st')
    (h1 : ∀ (o' : Nat) e' st', begE x.dep x.nod d i v = .error (o', e') → StX (PM p m) st st' → PS p m x hd ty l2 l3 l4 ns I v w o' e' st' → K false st') :
    CallT PR fn_delim_parser_value [.box p 0, .int .i64 d] [.one .bool] st K := by
  unfold begE at h0 h1
  subst hI
  have hb := h.bx
  refine vc_delim_parser_value p d st K ?_
  repeat' first
    | (guard_target =~ need _ _; refine need_intro rfl ?_)
    | (guard_target =~ optK (ldCell _ _ _ _) _; refine optK_intro (ldB hb rfl) ?_)
    | (guard_target =~ decT (.int _) _ _; refine decT_int ?_)
    | (guard_target =~ decT .str _ _; refine decT_str ?_)
    | (guard_target =~ decT .bool _ _; refine decT_bool ?_)
  refine BIf_intro (fun g => ?_) fun g => ?_
  · rw [if_pos g] at h1
    repeat' first
      | (guard_target =~ need _ _; refine need_intro rfl ?_)
      | (guard_target =~ optK (ldCell _ _ _ _) _; refine optK_intro (ldB hb rfl) ?_)
      | (guard_target =~ decT (.int _) _ _; refine decT_int ?_)
      | (guard_target =~ decT .str _ _; refine decT_str ?_)
      | (guard_target =~ decT .bool _ _; refine decT_bool ?_)
    exact pfail_ok h fun st' e1 k1 => h1 _ _ st' rfl e1 k1
  rw [if_neg g] at h0 h1
  repeat' first
    | (guard_target =~ need _ _; refine need_intro rfl ?_)
    | (guard_target =~ optK (ldCell _ _ _ _) _; refine optK_intro (ldB hb rfl) ?_)
    | (guard_target =~ decT (.int _) _ _; refine decT_int ?_)
    | (guard_target =~ decT .str _ _; refine decT_str ?_)
    | (guard_target =~ decT .bool _ _; refine decT_bool ?_)
  refine BIf_intro (fun g2 => ?_) fun g2 => ?_
  · rw [if_pos g2] at h1
    repeat' first
      | (guard_target =~ need _ _; refine need_intro rfl ?_)
      | (guard_target =~ optK (ldCell _ _ _ _) _; refine optK_intro (ldB hb rfl) ?_)
      | (guard_target =~ decT (.int _) _ _; refine decT_int ?_)
      | (guard_target =~ decT .str _ _; refine decT_str ?_)
      | (guard_target =~ decT .bool _ _; refine decT_bool ?_)
    exact pfail_ok h fun st' e1 k1 => h1 _ _ st' rfl e1 k1
  rw [if_neg g2] at h0
  repeat' first
    | (guard_target =~ need _ _; refine need_intro rfl ?_)
    | (guard_target =~ optK (ldCell _ _ _ _) _; refine optK_intro (ldB hb rfl) ?_)
    | (guard_target =~ decT (.int _) _ _; refine decT_int ?_)
    | (guard_target =~ decT .str _ _; refine decT_str ?_)
    | (guard_target =~ decT .bool _ _; refine decT_bool ?_)
  refine stB_P hb rfl fun st1 e1 b1 => ?_
  rw [wrap64 _ (by omega) (by omega)] at b1
  exact h0 _ st1 rfl e1.pm (h.of e1 b1)
theorem pquoted_ok {i : Nat} {K : Bool → St → Prop} (hI : I = (i : Int)) (hi : i < x.s.length) (hl : x.s.length ≤ 2000000) (h : PS p m x hd ty l2 l3 l4 ns I n w o e st)
    (h0 : ∀ (k : Nat) st', QE x.q x.s (i + 1) = some k → StX (PM p m) st st' → PS p m x hd ty l2 l3 l4 ns k n w o e st' → K true st')
    (h1 : ∀ (k : Int) st', QE x.q x.s (i + 1) = none → StX (PM p m) st st' → PS p m x hd ty l2 l3 l4 ns k n w (x.s.length : Nat) 4 st' → K false st') :
    CallT PR fn_delim_parser_quoted [.box p 0] [.one .bool] st K := by
  subst hI
  have hb := h.bx
  have tn : ∀ k : Nat, Int.toNat (k : Int) = k := fun k => rfl
  have w1 : ∀ k : Nat, k ≤ x.s.length → IntKind.i64.wrap ((k : Int) + 1) = ((k + 1 : Nat) : Int) := fun k hk => by rw [wrap64 _ (by omega) (by omega)]; omega
  refine vc_delim_parser_quoted p st K ?_
  repeat' first
    | (guard_target =~ need _ _; refine need_intro rfl ?_)
    | (guard_target =~ optK (ldCell _ _ _ _) _; refine optK_intro (ldB hb rfl) ?_)
    | (guard_target =~ decT (.int _) _ _; refine decT_int ?_)
    | (guard_target =~ decT .str _ _; refine decT_str ?_)
    | (guard_target =~ decT .bool _ _; refine decT_bool ?_)
  refine stB_P hb rfl fun st1 e1 b1 => ?_
  rw [w1 i (by omega)] at b1
  refine ⟨fun p' st' => TV.box p 0 = p' ∧ StX (PM p m) st st' ∧ ∃ k : Nat, PS p m x hd ty l2 l3 l4 ns k n w o e st' ∧ i < k ∧ k ≤ x.s.length ∧ QE x.q x.s (i + 1) = QE x.q x.s k,
    fun _ st' => (x.s.length - cellI st' p 10).toNat, ⟨rfl, e1.pm, i + 1, h.of e1 b1, by omega, by omega, rfl⟩, ?_⟩
  rintro _ st2 ⟨rfl, e2, k, h2, hk1, hk2, hq⟩
  have hb2 := h2.bx
  repeat' first
    | (guard_target =~ need _ _; refine need_intro rfl ?_)
    | (guard_target =~ optK (ldCell _ _ _ _) _; refine optK_intro (ldB hb2 rfl) ?_)
    | (guard_target =~ decT (.int _) _ _; refine decT_int ?_)
    | (guard_target =~ decT .str _ _; refine decT_str ?_)
    | (guard_target =~ decT .bool _ _; refine decT_bool ?_)
  refine BIf_intro (fun q1 => ?_) fun q1 => ?_
  · repeat' first
      | (guard_target =~ need _ _; refine need_intro rfl ?_)
      | (guard_target =~ optK (ldCell _ _ _ _) _; refine optK_intro (ldB hb2 rfl) ?_)
      | (guard_target =~ decT (.int _) _ _; refine decT_int ?_)
      | (guard_target =~ decT .str _ _; refine decT_str ?_)
      | (guard_target =~ decT .bool _ _; refine decT_bool ?_)
    refine ⟨⟨by omega, by omega⟩, ?_⟩
    repeat' first
      | (guard_target =~ need _ _; refine need_intro rfl ?_)
      | (guard_target =~ optK (ldCell _ _ _ _) _; refine optK_intro (ldB hb2 rfl) ?_)
      | (guard_target =~ decT (.int _) _ _; refine decT_int ?_)
      | (guard_target =~ decT .str _ _; refine decT_str ?_)
      | (guard_target =~ decT .bool _ _; refine decT_bool ?_)
    rw [tn]
    refine BIf_intro (fun q2 => ?_) fun q2 => ?_
    · repeat' first
        | (guard_target =~ need _ _; refine need_intro rfl ?_)
        | (guard_target =~ optK (ldCell _ _ _ _) _; refine optK_intro (ldB hb2 rfl) ?_)
        | (guard_target =~ decT (.int _) _ _; refine decT_int ?_)
        | (guard_target =~ decT .str _ _; refine decT_str ?_)
        | (guard_target =~ decT .bool _ _; refine decT_bool ?_)
      refine stB_P hb2 rfl fun st3 e3 b3 => ?_
      rw [w1 k (by omega)] at b3
      rw [QE_other (by omega) q2] at hq
      refine ⟨⟨rfl, e2.trans e3.pm, k + 1, h2.of e3 b3, by omega, by omega, hq⟩, ?_⟩
      dsimp only
      rw [cellI_of b3 rfl, cellI_of hb2 rfl]
      omega
    · have q2 : by_ x.s k = x.q := Decidable.not_not.1 q2
      repeat' first
        | (guard_target =~ need _ _; refine need_intro rfl ?_)
        | (guard_target =~ optK (ldCell _ _ _ _) _; refine optK_intro (ldB hb2 rfl) ?_)
        | (guard_target =~ decT (.int _) _ _; refine decT_int ?_)
        | (guard_target =~ decT .str _ _; refine decT_str ?_)
        | (guard_target =~ decT .bool _ _; refine decT_bool ?_)
      refine stB_P hb2 rfl fun st3 e3 b3 => ?_
      rw [w1 k (by omega)] at b3
      have h3 := h2.of e3 b3
      repeat' first
        | (guard_target =~ need _ _; refine need_intro rfl ?_)
        | (guard_target =~ optK (ldCell _ _ _ _) _; refine optK_intro (ldB b3 rfl) ?_)
        | (guard_target =~ decT (.int _) _ _; refine decT_int ?_)
        | (guard_target =~ decT .str _ _; refine decT_str ?_)
        | (guard_target =~ decT .bool _ _; refine decT_bool ?_)
      refine BIf_intro (fun q3 => ?_) fun q3 => ?_
      · rw [QE_last (by omega) q2 (fun h => absurd h (by omega))] at hq
        exact h0 _ st3 hq (e2.trans e3.pm) h3
      · repeat' first
          | (guard_target =~ need _ _; refine need_intro rfl ?_)
          | (guard_target =~ optK (ldCell _ _ _ _) _; refine optK_intro (ldB b3 rfl) ?_)
          | (guard_target =~ decT (.int _) _ _; refine decT_int ?_)
          | (guard_target =~ decT .str _ _; refine decT_str ?_)
          | (guard_target =~ decT .bool _ _; refine decT_bool ?_)
        refine ⟨⟨by omega, by omega⟩, ?_⟩
        repeat' first
          | (guard_target =~ need _ _; refine need_intro rfl ?_)
          | (guard_target =~ optK (ldCell _ _ _ _) _; refine optK_intro (ldB b3 rfl) ?_)
          | (guard_target =~ decT (.int _) _ _; refine decT_int ?_)
          | (guard_target =~ decT .str _ _; refine decT_str ?_)
          | (guard_target =~ decT .bool _ _; refine decT_bool ?_)
        rw [tn]
        refine BIf_intro (fun q4 => ?_) fun q4 => ?_
        · rw [QE_last (by omega) q2 (fun h => q4)] at hq
          exact h0 _ st3 hq (e2.trans e3.pm) h3
        · repeat' first
            | (guard_target =~ need _ _; refine need_intro rfl ?_)
            | (guard_target =~ optK (ldCell _ _ _ _) _; refine optK_intro (ldB b3 rfl) ?_)
            | (guard_target =~ decT (.int _) _ _; refine decT_int ?_)
            | (guard_target =~ decT .str _ _; refine decT_str ?_)
            | (guard_target =~ decT .bool _ _; refine decT_bool ?_)
          refine stB_P b3 rfl fun st4 e4 b4 => ?_
          rw [w1 (k + 1) (by omega)] at b4
          rw [QE_pair (by omega) q2 (Decidable.not_not.1 q4)] at hq
          refine ⟨⟨rfl, (e2.trans e3.pm).trans e4.pm, k + 2, h3.of e4 b4, by omega, by omega, hq⟩, ?_⟩
          dsimp only
          rw [cellI_of b4 rfl, cellI_of hb2 rfl]
          omega
  · repeat' first
      | (guard_target =~ need _ _; refine need_intro rfl ?_)
      | (guard_target =~ optK (ldCell _ _ _ _) _; refine optK_intro (ldB hb2 rfl) ?_)
      | (guard_target =~ decT (.int _) _ _; refine decT_int ?_)
      | (guard_target =~ decT .str _ _; refine decT_str ?_)
      | (guard_target =~ decT .bool _ _; refine decT_bool ?_)
    rw [QE_end (i := k) (by omega)] at hq
    exact pfail_ok h2 fun st' e3 k3 => h1 _ st' hq (e2.trans e3) k3
end
end Go.TVF
end

section
set_option linter.unusedVariables false
set_option linter.unusedSimpArgs false
namespace Go.TVF
open Go Go.Proofs
theorem findM_setM (k k' : List UInt8) (v : TV) : ∀ es : List (List UInt8 × TV), findM k (setM k' v es) = if k = k' then some v else findM k es
  | [] => by
    simp only [setM, findM]
    by_cases h : k = k' <;> simp [h]
  | (k1, v1) :: es => by
    simp only [setM]
    by_cases h1 : k' = k1
    · simp only [h1, decide_true, findM]
      by_cases h : k = k1 <;> simp [h]
    · simp only [h1, decide_false, findM, findM_setM k k' v es]
      by_cases h : k = k1
      · simp [h, Ne.symm h1]
      · simp [h]
theorem MapN.add {es : List (List UInt8 × TV)} {ns : List (List UInt8)} (h : MapN es ns) (t : List UInt8) : MapN (setM t (.bool true) es) (t :: ns) := by
  intro k
  rw [findM_setM]
  by_cases hk : k = t
  · simp [hk]
  · rw [if_neg hk, h k]; simp [hk]
theorem ldsB {st : St} {b i n : Nat} {l xs : List TV} (hb : st.box b = .cells l) (hx : (l.drop i).take n = xs) (hn : xs.length = n) : ldCells st [] (.t (.box b i)) 0 n = some xs := by
  have gen : ∀ n j, j + n ≤ (l.drop i).length → ldCells st [] (.t (.box b i)) j n = some (((l.drop i).drop j).take n) := by
    intro n
    induction n with
    | zero => intro j h; simp [ldCells]
    | succ n ih =>
      intro j h
      have hj : j < (l.drop i).length := by omega
      have h1 : ldCell st [] (.t (.box b i)) j = some (l.drop i)[j] := by
        simp only [ldCell, hb]
        rw [List.getElem_drop, List.getElem?_eq_getElem]
      simp only [ldCells, h1, ih (j + 1) (by omega)]
      rw [List.drop_eq_getElem_cons hj]
      rfl
  rw [gen n 0 (by rw [← hx, List.length_take] at hn; omega), ← hx]
  rfl
section
variable {p m : Nat} {x : Cx} {hd ty : Bool} {l2 l3 l4 : Int} {ns : List (List UInt8)} {I n w o e : Int} {st : St}
theorem pcell_ok {i : Nat} {K : Bool → St → Prop} (hI : I = (i : Int)) (hi : i ≤ x.s.length) (hl : x.s.length ≤ 2000000) (h : PS p m x hd ty l2 l3 l4 ns I n w o e st)
    (h0 : ∀ (k : Nat) st', cellE x.a x.q x.s i = .ok k → StX (PM p m) st st' → PS p m x hd ty l2 l3 l4 ns k n w o e st' → K true st')
    (h1 : ∀ (o' : Nat) e' (k : Int) st', cellE x.a x.q x.s i = .error (o', e') → StX (PM p m) st st' → PS p m x hd ty l2 l3 l4 ns k n w o' e' st' → K false st') :
    CallT PR fn_delim_parser_cell [.box p 0] [.one .bool] st K := by
  subst hI
  have hb := h.bx
  have tn : ∀ k : Nat, Int.toNat (k : Int) = k := fun k => rfl
  have w1 : ∀ k : Nat, k ≤ x.s.length → IntKind.i64.wrap ((k : Int) + 1) = ((k + 1 : Nat) : Int) := fun k hk => by rw [wrap64 _ (by omega) (by omega)]; omega
  have loop : ∀ k : Nat, (i < x.s.length ∧ by_ x.s i = x.q → False) → cellE x.a x.q x.s i = match PE x.a x.q x.s i with | .ok e => .ok e | .error o => .error (o, 3) := fun k hc => by
    unfold cellE; rw [if_neg hc] <;> (cases PE x.a x.q x.s i <;> rfl)
  refine vc_delim_parser_cell p st K ?_
  repeat' first
    | (guard_target =~ need _ _; refine need_intro rfl ?_)
    | (guard_target =~ optK (ldCell _ _ _ _) _; refine optK_intro (ldB hb rfl) ?_)
    | (guard_target =~ decT (.int _) _ _; refine decT_int ?_)
    | (guard_target =~ decT .str _ _; refine decT_str ?_)
    | (guard_target =~ decT .bool _ _; refine decT_bool ?_)
  refine BIf_intro (fun g => ?_) fun g => ?_
  · repeat' first
      | (guard_target =~ need _ _; refine need_intro rfl ?_)
      | (guard_target =~ optK (ldCell _ _ _ _) _; refine optK_intro (ldB hb rfl) ?_)
      | (guard_target =~ decT (.int _) _ _; refine decT_int ?_)
      | (guard_target =~ decT .str _ _; refine decT_str ?_)
      | (guard_target =~ decT .bool _ _; refine decT_bool ?_)
    refine ⟨⟨by omega, by omega⟩, ?_⟩
    repeat' first
      | (guard_target =~ need _ _; refine need_intro rfl ?_)
      | (guard_target =~ optK (ldCell _ _ _ _) _; refine optK_intro (ldB hb rfl) ?_)
      | (guard_target =~ decT (.int _) _ _; refine decT_int ?_)
      | (guard_target =~ decT .str _ _; refine decT_str ?_)
      | (guard_target =~ decT .bool _ _; refine decT_bool ?_)
    rw [tn]
    refine BIf_intro (fun g2 => ?_) fun g2 => ?_
    · have hc : cellE x.a x.q x.s i = match QE x.q x.s (i + 1) with | some e => .ok e | none => .error (x.s.length, 4) := by
        unfold cellE; rw [if_pos ⟨by omega, g2⟩] <;> (cases QE x.q x.s (i + 1) <;> rfl)
      exact pquoted_ok rfl (by omega) hl h (fun k st' hq => h0 k st' (by rw [hc, hq])) fun k st' hq => h1 _ _ k st' (by rw [hc, hq])
    have hc := loop i fun hh => g2 hh.2
    refine ⟨fun p' st' => TV.box p 0 = p' ∧ StX (PM p m) st st' ∧ ∃ k : Nat, PS p m x hd ty l2 l3 l4 ns k n w o e st' ∧ k ≤ x.s.length ∧ PE x.a x.q x.s i = PE x.a x.q x.s k,
      fun _ st' => (x.s.length - cellI st' p 10).toNat, ⟨rfl, StX.refl _ _, i, h, by omega, rfl⟩, ?_⟩
    rintro _ st2 ⟨rfl, e2, k, h2, hk2, hq⟩
    have hb2 := h2.bx
    have next : ¬ (by_ x.s k = x.a ∨ by_ x.s k = 10 ∨ by_ x.s k = 13) → k < x.s.length → by_ x.s k ≠ x.q → ∀ st3, StX (· = p) st2 st3 → st3.box p = .cells ((pcl x hd ty l2 l3 l4 m k n w o e).set 10 (.int .i64 (IntKind.i64.wrap ((k : Int) + 1)))) →
        (TV.box p 0 = TV.box p 0 ∧ StX (PM p m) st st3 ∧ ∃ k : Nat, PS p m x hd ty l2 l3 l4 ns k n w o e st3 ∧ k ≤ x.s.length ∧ PE x.a x.q x.s i = PE x.a x.q x.s k) ∧ (x.s.length - cellI st3 p 10).toNat < (x.s.length - cellI st2 p 10).toNat := fun c1 c2 c3 st3 e3 b3 => by
      rw [w1 k (by omega)] at b3
      rw [PE_next c2 c1 c3] at hq
      refine ⟨⟨rfl, e2.trans e3.pm, k + 1, h2.of e3 b3, by omega, hq⟩, ?_⟩
      rw [cellI_of b3 rfl, cellI_of hb2 rfl]
      omega
    repeat' first
      | (guard_target =~ need _ _; refine need_intro rfl ?_)
      | (guard_target =~ optK (ldCell _ _ _ _) _; refine optK_intro (ldB hb2 rfl) ?_)
      | (guard_target =~ decT (.int _) _ _; refine decT_int ?_)
      | (guard_target =~ decT .str _ _; refine decT_str ?_)
      | (guard_target =~ decT .bool _ _; refine decT_bool ?_)
    refine BIf_intro (fun q1 => ?_) fun q1 => ?_
    · repeat' first
        | (guard_target =~ need _ _; refine need_intro rfl ?_)
        | (guard_target =~ optK (ldCell _ _ _ _) _; refine optK_intro (ldB hb2 rfl) ?_)
        | (guard_target =~ decT (.int _) _ _; refine decT_int ?_)
        | (guard_target =~ decT .str _ _; refine decT_str ?_)
        | (guard_target =~ decT .bool _ _; refine decT_bool ?_)
      refine ⟨⟨by omega, by omega⟩, ?_⟩
      repeat' first
        | (guard_target =~ need _ _; refine need_intro rfl ?_)
        | (guard_target =~ optK (ldCell _ _ _ _) _; refine optK_intro (ldB hb2 rfl) ?_)
        | (guard_target =~ decT (.int _) _ _; refine decT_int ?_)
        | (guard_target =~ decT .str _ _; refine decT_str ?_)
        | (guard_target =~ decT .bool _ _; refine decT_bool ?_)
      rw [tn]
      refine BIf_intro (fun q2 => BIf_intro (fun _ => ?_) fun q3 => absurd q2 q3) fun q2 => BIf_intro (fun q3 => BIf_intro (fun _ => ?_) fun q4 => absurd q3 q4) fun q3 => BIf_intro (fun q4 => ?_) fun q4 => ?_
      · rw [PE_stop (by omega) (.inl q2)] at hq; exact h0 k st2 (by rw [hc, hq]) e2 h2
      · rw [PE_stop (by omega) (.inr (.inl q3))] at hq; exact h0 k st2 (by rw [hc, hq]) e2 h2
      · rw [PE_stop (by omega) (.inr (.inr q4))] at hq; exact h0 k st2 (by rw [hc, hq]) e2 h2
      · have hno : ¬ (by_ x.s k = x.a ∨ by_ x.s k = 10 ∨ by_ x.s k = 13) := by rintro (h | h | h); exact q2 h; exact q3 h; exact q4 h
        repeat' first
          | (guard_target =~ need _ _; refine need_intro rfl ?_)
          | (guard_target =~ optK (ldCell _ _ _ _) _; refine optK_intro (ldB hb2 rfl) ?_)
          | (guard_target =~ decT (.int _) _ _; refine decT_int ?_)
          | (guard_target =~ decT .str _ _; refine decT_str ?_)
          | (guard_target =~ decT .bool _ _; refine decT_bool ?_)
        refine BIf_intro (fun q5 => ?_) fun q5 => ?_
        · repeat' first
            | (guard_target =~ need _ _; refine need_intro rfl ?_)
            | (guard_target =~ optK (ldCell _ _ _ _) _; refine optK_intro (ldB hb2 rfl) ?_)
            | (guard_target =~ decT (.int _) _ _; refine decT_int ?_)
            | (guard_target =~ decT .str _ _; refine decT_str ?_)
            | (guard_target =~ decT .bool _ _; refine decT_bool ?_)
          rw [PE_mark (by omega) hno q5] at hq
          exact pfail_ok h2 fun st' e3 k3 => h1 _ _ _ st' (by rw [hc, hq]) (e2.trans e3) k3
        · repeat' first
            | (guard_target =~ need _ _; refine need_intro rfl ?_)
            | (guard_target =~ optK (ldCell _ _ _ _) _; refine optK_intro (ldB hb2 rfl) ?_)
            | (guard_target =~ decT (.int _) _ _; refine decT_int ?_)
            | (guard_target =~ decT .str _ _; refine decT_str ?_)
            | (guard_target =~ decT .bool _ _; refine decT_bool ?_)
          exact stB_P hb2 rfl fun st3 e3 b3 => next hno (by omega) q5 st3 e3 b3
    · rw [PE_end (i := k) (by omega)] at hq; exact h0 k st2 (by rw [hc, hq]) e2 h2
  · -- at the end
    have hc := loop i fun hh => by omega
    rw [PE_end (i := i) (by omega)] at hc
    refine ⟨fun p' st' => TV.box p 0 = p' ∧ st = st', fun _ st' => 0, ⟨rfl, rfl⟩, ?_⟩
    rintro _ _ ⟨rfl, rfl⟩
    repeat' first
      | (guard_target =~ need _ _; refine need_intro rfl ?_)
      | (guard_target =~ optK (ldCell _ _ _ _) _; refine optK_intro (ldB hb rfl) ?_)
      | (guard_target =~ decT (.int _) _ _; refine decT_int ?_)
      | (guard_target =~ decT .str _ _; refine decT_str ?_)
      | (guard_target =~ decT .bool _ _; refine decT_bool ?_)
    refine BIf_intro (fun q1 => absurd q1 g) fun q1 => ?_
    exact h0 i st hc (StX.refl _ _) h
abbrev PM3 (p m r : Nat) : Nat → Prop := fun i => i = p ∨ i = m ∨ i = r
theorem StX.pm3 {p m r : Nat} {a b : St} (h : StX (PM p m) a b) : StX (PM3 p m r) a b := h.mono fun _ g => g.elim .inl fun g => .inr (.inl g)
theorem PS.other {p m r : Nat} {x : Cx} {hd ty : Bool} {l2 l3 l4 : Int} {ns : List (List UInt8)} {i n w o e : Int} {st st' : St} (h : PS p m x hd ty l2 l3 l4 ns i n w o e st) (k : StX (· = r) st st') (hp : p ≠ r) (hm : m ≠ r) :
    PS p m x hd ty l2 l3 l4 ns i n w o e st' := h.keep k hp hm
theorem plineEnd_ok {i r : Nat} {c0 c1 c2 c3 : TV} {K : Bool → St → Prop} (hI : I = (i : Int)) (hi : i ≤ x.s.length) (hl : x.s.length ≤ 2000000) (h : PS p m x hd ty l2 l3 l4 ns I n w o e st)
    (hrp : p ≠ r) (hrm : m ≠ r) (hrl : r < st.nb) (hr : st.box r = .cells [c0, c1, c2, c3, .str []])
    (h0 : ∀ (k : Nat) st', lineE x.s i = .ok k → StX (PM3 p m r) st st' → PS p m x hd ty l2 l3 l4 ns ((i + k : Nat) : Int) n w o e st' → st'.box r = .cells [c0, c1, c2, c3, .str (slc x.s i (i + k))] → K true st')
    (h1 : ∀ (o' : Nat) e' (k : Int) st', lineE x.s i = .error (o', e') → StX (PM3 p m r) st st' → PS p m x hd ty l2 l3 l4 ns k n w o' e' st' → st'.box r = .cells [c0, c1, c2, c3, .str []] → K false st') :
    CallT PR fn_delim_parser_lineEnd [.box p 0, .box r 0] [.one .bool] st K := by
  subst hI
  have hb := h.bx
  have tn : ∀ k : Nat, Int.toNat (k : Int) = k := fun k => rfl
  have w1 : ∀ k : Nat, k ≤ x.s.length → IntKind.i64.wrap ((k : Int) + 1) = ((k + 1 : Nat) : Int) := fun k hk => by rw [wrap64 _ (by omega) (by omega)]; omega
  have rk : ∀ st', StX (· = p) st st' → st'.box r = .cells [c0, c1, c2, c3, .str []] := fun st' e => by rw [e.box r hrl (fun h => hrp h.symm)]; exact hr
  have rk2 : ∀ st', StX (PM p m) st st' → st'.box r = .cells [c0, c1, c2, c3, .str []] := fun st' e => by rw [e.box r hrl (fun h => h.elim (fun h => hrp h.symm) fun h => hrm h.symm)]; exact hr
  have hp3 : ∀ st1 st2, StX (PM p m) st st1 → StX (· = r) st1 st2 → StX (PM3 p m r) st st2 := fun st1 st2 e1 e2 => e1.pm3.trans (e2.mono fun _ g => .inr (.inr g))
  unfold lineE at h0 h1
  refine vc_delim_parser_lineEnd p r st K ?_
  repeat' first
    | (guard_target =~ need _ _; refine need_intro rfl ?_)
    | (guard_target =~ optK (ldCell _ _ _ _) _; refine optK_intro (ldB hb rfl) ?_)
    | (guard_target =~ decT (.int _) _ _; refine decT_int ?_)
    | (guard_target =~ decT .str _ _; refine decT_str ?_)
    | (guard_target =~ decT .bool _ _; refine decT_bool ?_)
  refine BIf_intro (fun g => ?_) fun g => ?_
  · rw [if_pos (by omega)] at h0
    refine h0 0 st rfl (StX.refl _ _) h ?_
    rw [hr]
    have : slc x.s i (i + 0) = [] := List.eq_nil_of_length_eq_zero (by rw [slc_len (by omega) (by omega)]; omega)
    rw [this]
  rw [if_neg (by omega)] at h0 h1
  repeat' first
    | (guard_target =~ need _ _; refine need_intro rfl ?_)
    | (guard_target =~ optK (ldCell _ _ _ _) _; refine optK_intro (ldB hb rfl) ?_)
    | (guard_target =~ decT (.int _) _ _; refine decT_int ?_)
    | (guard_target =~ decT .str _ _; refine decT_str ?_)
    | (guard_target =~ decT .bool _ _; refine decT_bool ?_)
  refine ⟨⟨by omega, by omega⟩, ?_⟩
  rw [tn]
  refine BIf_intro (fun g2 => ?_) fun g2 => BIf_intro (fun g3 => ?_) fun g3 => ?_
  · have g2' : by_ x.s i = 13 := g2
    rw [if_neg (by omega), if_neg (by omega)] at h0 h1
    repeat' first
      | (guard_target =~ need _ _; refine need_intro rfl ?_)
      | (guard_target =~ optK (ldCell _ _ _ _) _; refine optK_intro (ldB hb rfl) ?_)
      | (guard_target =~ decT (.int _) _ _; refine decT_int ?_)
      | (guard_target =~ decT .str _ _; refine decT_str ?_)
      | (guard_target =~ decT .bool _ _; refine decT_bool ?_)
    refine stB_P hb rfl fun st1 e1 b1 => ?_
    rw [w1 i (by omega)] at b1
    have k1 := h.of e1 b1
    repeat' first
      | (guard_target =~ need _ _; refine need_intro rfl ?_)
      | (guard_target =~ optK (ldCell _ _ _ _) _; refine optK_intro (ldB b1 rfl) ?_)
      | (guard_target =~ decT (.int _) _ _; refine decT_int ?_)
      | (guard_target =~ decT .str _ _; refine decT_str ?_)
      | (guard_target =~ decT .bool _ _; refine decT_bool ?_)
    refine BIf_intro (fun g3 => ?_) fun g3 => ?_
    · rw [if_pos (by omega)] at h1
      repeat' first
        | (guard_target =~ need _ _; refine need_intro rfl ?_)
        | (guard_target =~ optK (ldCell _ _ _ _) _; refine optK_intro (ldB b1 rfl) ?_)
        | (guard_target =~ decT (.int _) _ _; refine decT_int ?_)
        | (guard_target =~ decT .str _ _; refine decT_str ?_)
        | (guard_target =~ decT .bool _ _; refine decT_bool ?_)
      have e3 : ((i + 1 : Nat) : Int) = (x.s.length : Int) := g3
      rw [e3]
      exact pfail_ok k1 fun st2 e2 k2 => h1 _ _ _ st2 rfl (e1.pm.trans e2).pm3 k2 (rk2 _ (e1.pm.trans e2))
    rw [if_neg (by omega)] at h0 h1
    repeat' first
      | (guard_target =~ need _ _; refine need_intro rfl ?_)
      | (guard_target =~ optK (ldCell _ _ _ _) _; refine optK_intro (ldB b1 rfl) ?_)
      | (guard_target =~ decT (.int _) _ _; refine decT_int ?_)
      | (guard_target =~ decT .str _ _; refine decT_str ?_)
      | (guard_target =~ decT .bool _ _; refine decT_bool ?_)
    refine ⟨⟨by omega, by omega⟩, ?_⟩
    rw [tn]
    refine BIf_intro (fun g4 => ?_) fun g4 => ?_
    · have g4' : by_ x.s (i + 1) ≠ 10 := g4
      rw [if_neg g4'] at h1
      exact pfail_ok k1 fun st2 e2 k2 => h1 _ _ _ st2 rfl (e1.pm.trans e2).pm3 k2 (rk2 _ (e1.pm.trans e2))
    · have g4' : by_ x.s (i + 1) = 10 := Decidable.not_not.1 g4
      rw [if_pos g4'] at h0
      repeat' first
        | (guard_target =~ need _ _; refine need_intro rfl ?_)
        | (guard_target =~ optK (ldCell _ _ _ _) _; refine optK_intro (ldB b1 rfl) ?_)
        | (guard_target =~ decT (.int _) _ _; refine decT_int ?_)
        | (guard_target =~ decT .str _ _; refine decT_str ?_)
        | (guard_target =~ decT .bool _ _; refine decT_bool ?_)
      refine stB_P b1 rfl fun st2 e2 b2 => ?_
      rw [w1 (i + 1) (by omega)] at b2
      have k2 := k1.of e2 b2
      repeat' first
        | (guard_target =~ need _ _; refine need_intro rfl ?_)
        | (guard_target =~ optK (ldCell _ _ _ _) _; refine optK_intro (ldB b2 rfl) ?_)
        | (guard_target =~ decT (.int _) _ _; refine decT_int ?_)
        | (guard_target =~ decT .str _ _; refine decT_str ?_)
        | (guard_target =~ decT .bool _ _; refine decT_bool ?_)
      refine ⟨⟨by omega, by omega, by omega⟩, stB_P (rk st2 (e1.trans e2)) rfl fun st3 e3 b3 => ?_⟩
      exact h0 2 st3 rfl (hp3 _ _ (e1.pm.trans e2.pm) e3) (k2.other e3 hrp hrm) b3
  · have g3' : by_ x.s i = 10 := g3
    rw [if_pos g3'] at h0
    repeat' first
      | (guard_target =~ need _ _; refine need_intro rfl ?_)
      | (guard_target =~ optK (ldCell _ _ _ _) _; refine optK_intro (ldB hb rfl) ?_)
      | (guard_target =~ decT (.int _) _ _; refine decT_int ?_)
      | (guard_target =~ decT .str _ _; refine decT_str ?_)
      | (guard_target =~ decT .bool _ _; refine decT_bool ?_)
    refine stB_P hb rfl fun st1 e1 b1 => ?_
    rw [w1 i (by omega)] at b1
    have k1 := h.of e1 b1
    repeat' first
      | (guard_target =~ need _ _; refine need_intro rfl ?_)
      | (guard_target =~ optK (ldCell _ _ _ _) _; refine optK_intro (ldB b1 rfl) ?_)
      | (guard_target =~ decT (.int _) _ _; refine decT_int ?_)
      | (guard_target =~ decT .str _ _; refine decT_str ?_)
      | (guard_target =~ decT .bool _ _; refine decT_bool ?_)
    refine ⟨⟨by omega, by omega, by omega⟩, stB_P (rk st1 e1) rfl fun st3 e3 b3 => ?_⟩
    exact h0 1 st3 rfl (hp3 _ _ e1.pm e3) (k1.other e3 hrp hrm) b3
  · have g2' : by_ x.s i ≠ 13 := g2
    have g3' : by_ x.s i ≠ 10 := g3
    rw [if_neg g3', if_pos g2'] at h1
    exact pfail_ok h fun st2 e2 k2 => h1 _ _ _ st2 rfl e2.pm3 k2 (rk2 _ e2)
end
end Go.TVF
end

section
set_option linter.unusedVariables false
set_option linter.unusedSimpArgs false
namespace Go.TVF
open Go Go.Proofs
theorem toBytes_q (st : St) {a : Int} (c : UInt8) (hc : (c.toNat : Int) = a) : (toBytes st (.list 1 .full 1 [.int .u8 a])).map TV.str = some (.str [c]) := by
  have : UInt8.ofNat a.toNat = c := by rw [← hc]; simp
  rw [← this]; rfl
/-- The entry, its node: with the mark behind it. -/
def entM (x : Cx) (i e : Nat) : Nd := entN x.s i e (if e < x.s.length ∧ by_ x.s e = x.a then [.mk 11 [] [x.s.getD e 0] [] []] else [])
def entAt (x : Cx) (e : Nat) : Nat := if e < x.s.length ∧ by_ x.s e = x.a then e + 1 else e
def sclC (c : List UInt8) : List TV := [.int .i64 2, .str [], .str c, .nilSlice, .str []]
def mrkC (c : UInt8) : List TV := [.int .i64 11, .str [], .str [c], .nilSlice, .str []]
theorem NdC.leaf (k : Int) (t : List UInt8) : NdC (.mk k [] t [] []) [.int .i64 k, .str [], .str t, .nilSlice, .str []] := by
  unfold NdC; exact ⟨_, [], rfl, .inl ⟨rfl, rfl, rfl⟩, KidsC.nil⟩
theorem NdC.ent1 {s : List UInt8} {i e : Nat} {v : TV} (h : Rd 5 v 1 (sclC (slc s i e))) : NdC (entN s i e []) [.int .i64 5, .str [], .str [], v, .str []] := by
  unfold entN NdC
  exact ⟨v, _, rfl, h, KidsC.one (NdC.leaf 2 _)⟩
theorem NdC.ent2 {s : List UInt8} {i e : Nat} {c : UInt8} {v : TV} (h : Rd 5 v 2 (sclC (slc s i e) ++ mrkC c)) : NdC (entN s i e [.mk 11 [] [c] [] []]) [.int .i64 5, .str [], .str [], v, .str []] := by
  unfold entN NdC
  exact ⟨v, _, rfl, h, KidsC.append (KidsC.one (NdC.leaf 2 _)) (KidsC.one (NdC.leaf 11 _))⟩
theorem appK_ownX {S : Nat → Prop} {T sz bytes : Nat} {st0 st : St} {v : TV} {n k : Nat} {xs ys : List TV} {K : TV → St → Prop} (e : StX S st0 st) (h : Own st0.nt sz st v n xs) (hby : (n + k) * bytes ≤ 140737488355328) (hys : k = 0 → ys = [])
    (hK : ∀ v' st', StX S st0 st' → st'.box = st.box → st'.nb = st.nb → Own st0.nt sz st' v' (n + k) (xs ++ ys) → K v' st') : appK T sz bytes v k ys st K := by
  have ef : ∀ st' T, StX S st0 st' → StX S st0 (st'.fresh T) := fun st' T h => h.trans (StX.of ((StExt.refl st').fresh _))
  rcases h with ⟨rfl, rfl, rfl⟩ | ⟨tip, rfl, ht⟩
  · simp only [appK]
    cases k with
    | zero => rw [hys rfl] at hK; exact hK _ _ e rfl rfl (.nil _ _ _)
    | succ m =>
      simp only [need_iff]
      refine ⟨by simpa using hby, hK _ _ (ef _ _ e) rfl rfl ?_⟩
      simp only [List.nil_append, Nat.zero_add]
      exact Own.fresh _ _ e.nt
  · simp only [appK, Nat.beq_refl]
    refine ⟨hby, ?_⟩
    rcases ht with rfl | ⟨id, rfl, h1, h2, h3⟩
    · cases k with
      | zero => rw [hys rfl] at hK; simp only [List.append_nil] at hK; exact hK _ _ e rfl rfl (Own.full _ _ _ _ _)
      | succ m => exact hK _ _ (ef _ _ e) rfl rfl (Own.fresh _ _ e.nt)
    · have er : StX S st0 (st.retire id) := ⟨e.nb, e.box, e.nt, fun i hi => by simp only [St.retire]; rw [if_neg (by omega)]; exact e.live i hi, e.ty, e.bt⟩
      exact ⟨h3, hK _ _ (ef _ _ er) rfl rfl (Own.fresh (st := st.retire id) _ _ e.nt)⟩
theorem PS.same {p m : Nat} {x : Cx} {hd ty : Bool} {l2 l3 l4 : Int} {ns : List (List UInt8)} {i n w o e : Int} {st st' : St} (h : PS p m x hd ty l2 l3 l4 ns i n w o e st) (hb : st'.box = st.box) (hn : st'.nb = st.nb) :
    PS p m x hd ty l2 l3 l4 ns i n w o e st' := by
  obtain ⟨es, h1, h2⟩ := h.mp
  exact ⟨h.ne, by rw [hn]; exact h.lp, by rw [hn]; exact h.lm, by rw [hb]; exact h.bx, es, by rw [hb]; exact h1, h2⟩
theorem one1 {v : TV} (h : oneT v = true) : List.all [v] oneT = true := by simp [h]
/-- The entry, once its value is counted. -/
def entR (x : Cx) (hd : Bool) (i : Nat) (v1 : Int) (ns : List (List UInt8)) : Except (Nat × Int) (Nat × Int × List (List UInt8)) :=
  match cellE x.a x.q x.s i with
  | .error e => .error e
  | .ok e => if (if hd then 1024 else 65536) < (txt x.q (slc x.s i e)).length then .error (i, 10) else if hd ∧ txt x.q (slc x.s i e) ∈ ns then .error (i, 8)
    else .ok (e, v1, if hd then txt x.q (slc x.s i e) :: ns else ns)
theorem entE_eq (x : Cx) (hd : Bool) (i : Nat) (v : Int) (ns : List (List UInt8)) : entE x hd i v ns = if hd = true then entR x hd i v ns else match begE x.dep x.nod 3 i v with
    | .error e => .error e
    | .ok v1 => entR x hd i v1 ns := by
  unfold entE entR
  cases hd with
  | true => simp only [if_true, bind, Except.bind]; cases cellE x.a x.q x.s i <;> rfl
  | false =>
    simp only [Bool.false_eq_true, if_false, bind, Except.bind]
    cases begE x.dep x.nod 3 i v with
    | error e => rfl
    | ok v1 => simp only; cases cellE x.a x.q x.s i <;> rfl
section
variable {p m : Nat} {x : Cx} {hd ty : Bool} {l2 l3 l4 : Int} {ns : List (List UInt8)} {I v w o e : Int} {st : St}
theorem pentry_ok {i : Nat} {header : Bool} {K : Int → List UInt8 → List UInt8 → TV → List UInt8 → Bool → St → Prop} (hI : I = (i : Int)) (hi : i ≤ x.s.length) (hl : x.s.length ≤ 2000000) (hv0 : 0 ≤ v) (hv : v < 1000000000)
    (h : PS p m x hd ty l2 l3 l4 ns I v w o e st)
    (h0 : ∀ (k : Nat) v1 ns1 kv st', entE x header i v ns = .ok (k, v1, ns1) → StX (PM p m) st st' → PS p m x hd ty l2 l3 l4 ns1 (entAt x k : Nat) v1 w o e st' → NdC (entM x i k) [.int .i64 5, .str [], .str [], kv, .str []] → Rd 5 kv (if k < x.s.length ∧ by_ x.s k = x.a then 2 else 1) (if k < x.s.length ∧ by_ x.s k = x.a then sclC (slc x.s i k) ++ mrkC (x.s.getD k 0) else sclC (slc x.s i k)) → K 5 [] [] kv [] true st')
    (h1 : ∀ (o' : Nat) e' (k v1 : Int) kv st', entE x header i v ns = .error (o', e') → StX (PM p m) st st' → PS p m x hd ty l2 l3 l4 ns k v1 w o' e' st' → oneT kv = true → K 5 [] [] kv [] false st') :
    CallT PR fn_delim_parser_entry [.box p 0, .bool header] [.agg [.int .i64, .str, .str, .tv, .str], .one .bool] st K := by
  subst hI
  have hb := h.bx
  have tn : ∀ k : Nat, Int.toNat (k : Int) = k := fun k => rfl
  have w1 : ∀ k : Nat, k ≤ x.s.length → IntKind.i64.wrap ((k : Int) + 1) = ((k + 1 : Nat) : Int) := fun k hk => by rw [wrap64 _ (by omega) (by omega)]; omega
  -- behind the checks
  have fin : ∀ (k : Nat) (v1 : Int) ns1, i ≤ k → k ≤ x.s.length → entE x header i v ns = .ok (k, v1, ns1) →
      ∀ (v4 : TV) (st8 : St), StX (PM p m) st st8 → PS p m x hd ty l2 l3 l4 ns1 k v1 w o e st8 → Own st.nt 5 st8 v4 1 (sclC (slc x.s i k)) →
        (k < x.s.length → by_ x.s k = x.a → ∀ st9, StX (· = p) st8 st9 → st9.box p = .cells ((pcl x hd ty l2 l3 l4 m k v1 w o e).set 10 (.int .i64 (IntKind.i64.wrap ((k : Int) + 1)))) → appK 49 5 80 v4 1 (mrkC (x.s.getD k 0)) st9 fun v5 st10 => need (List.all [v5] oneT) (need (List.all [.int .i64 5, .str [], .str [], v5, .str []] oneT) (K 5 [] [] v5 [] true st10))) ∧
        (¬ (k < x.s.length ∧ by_ x.s k = x.a) → K 5 [] [] v4 [] true st8) := by
    intro k v1 ns1 hik hk he v4 st8 e8 k8 o8
    refine ⟨fun c1 c2 st9 e9 b9 => ?_, fun c => ?_⟩
    · rw [w1 k (by omega)] at b9
      have hen : entM x i k = entN x.s i k [.mk 11 [] [x.s.getD k 0] [] []] := by unfold entM; rw [if_pos ⟨c1, c2⟩]
      refine appK_ownX (e8.trans e9.pm) (o8.extX e9) (by omega) (fun h => by cases h) fun v5 st10 e10 hbx hnb o10 => need_intro (one1 o10.rd.one) (need_intro (one5 o10.rd.one) ?_)
      refine h0 k v1 ns1 v5 st10 he e10 ?_ (by rw [hen]; exact NdC.ent2 o10.rd) (by rw [if_pos ⟨c1, c2⟩, if_pos ⟨c1, c2⟩]; exact o10.rd)
      have : entAt x k = k + 1 := by unfold entAt; rw [if_pos ⟨c1, c2⟩]
      rw [this]
      exact (k8.of e9 b9).same hbx hnb
    · have hen : entM x i k = entN x.s i k [] := by unfold entM; rw [if_neg c]
      refine h0 k v1 ns1 v4 st8 he e8 ?_ (by rw [hen]; exact NdC.ent1 o8.rd) (by rw [if_neg c, if_neg c]; exact o8.rd)
      have : entAt x k = k := by unfold entAt; rw [if_neg c]
      rw [this]
      exact k8
  refine vc_delim_parser_entry p header st K (BIf_bool (fun hh => ?_) fun hh => ?_)
  case' refine_1 =>
    have hh : header = false := by simpa using hh
    rw [entE_eq, if_neg (by rw [hh]; decide)] at h0 h1 fin
    refine pvalue_ok rfl hv0 hv h (fun v' st1 hb1 e1 k1 => ?_) fun o' e' st1 hb1 e1 k1 => ?_
    case' refine_2 =>
      rw [hb1] at h1
      exact BIf_bool (fun _ => h1 _ _ _ _ _ st1 rfl e1 k1 rfl) fun h => by cases h
    rw [hb1] at h0 h1 fin
    refine BIf_bool (fun h => by cases h) fun _ => ?_
    simp only at h0 h1 fin
  case' refine_2 =>
    have hh : header = true := by simpa using hh
    rw [entE_eq, if_pos hh] at h0 h1 fin
    obtain ⟨v', hv'⟩ : ∃ v', v' = v := ⟨_, rfl⟩
    obtain ⟨st1, hst1⟩ : ∃ st1, st1 = st := ⟨_, rfl⟩
    have e1 : StX (PM p m) st st1 := hst1 ▸ StX.refl _ _
    have k1 : PS p m x hd ty l2 l3 l4 ns i v' w o e st1 := by rw [hst1, hv']; exact h
    rw [← hst1]
    rw [← hv'] at h0 h1 fin
  all_goals
    have b1 := k1.bx
    repeat' first
      | (guard_target =~ need _ _; refine need_intro rfl ?_)
      | (guard_target =~ optK (ldCell _ _ _ _) _; refine optK_intro (ldB b1 rfl) ?_)
      | (guard_target =~ decT (.int _) _ _; refine decT_int ?_)
      | (guard_target =~ decT .str _ _; refine decT_str ?_)
      | (guard_target =~ decT .bool _ _; refine decT_bool ?_)
    refine pcell_ok rfl hi hl k1 (fun k st2 hc e2 k2 => ?_) fun o' e' k st2 hc e2 k2 => ?_
    case' refine_2 =>
      unfold entR at h1
      rw [hc] at h1
      exact BIf_bool (fun _ => h1 _ _ _ _ _ st2 rfl (e1.trans e2) k2 rfl) fun h => by cases h
    refine BIf_bool (fun h => by cases h) fun _ => ?_
    have hle := cellE_le hi hc
    have hW := cellE_W hi hc
    have b2 := k2.bx
    unfold entR at h0 h1 fin
    rw [hc] at h0 h1 fin
    simp only at h0 h1 fin
    repeat' first
      | (guard_target =~ need _ _; refine need_intro rfl ?_)
      | (guard_target =~ optK (ldCell _ _ _ _) _; refine optK_intro (ldB b2 rfl) ?_)
      | (guard_target =~ decT (.int _) _ _; refine decT_int ?_)
      | (guard_target =~ decT .str _ _; refine decT_str ?_)
      | (guard_target =~ decT .bool _ _; refine decT_bool ?_)
    refine ⟨⟨by omega, by omega, by omega⟩, optK_intro (x := .agg [.int .u8 x.a, .int .u8 x.q, .bool hd, .bool ty]) (by rw [ldsB b2 rfl rfl]; rfl) ?_⟩
    rw [tn, tn]
    refine text_ok hW (by show (slc x.s i k).length ≤ _; rw [slc_len hle.1 hle.2]; omega) fun st3 e3 => ?_
    have k3 := k2.keep (StX.of (S := fun _ => False) e3) (fun h => h) (fun h => h)
    have e4 := (e1.trans e2).trans (StX.of e3)
    refine ⟨fun mo p' hd' fr c t kd ld tx kv tl st' => mo = (if header then 1024 else 65536) ∧ TV.box p 0 = p' ∧ header = hd' ∧ (i : Int) = fr ∧ slc x.s i k = c ∧ txt x.q (slc x.s i k) = t ∧ 5 = kd ∧ [] = ld ∧ [] = tx ∧ TV.nilSlice = kv ∧ [] = tl ∧ st3 = st',
      BIf_bool (fun h => ⟨by rw [h]; rfl, rfl, rfl, rfl, rfl, rfl, rfl, rfl, rfl, rfl, rfl, rfl⟩) (fun h => ⟨by rw [h]; rfl, rfl, rfl, rfl, rfl, rfl, rfl, rfl, rfl, rfl, rfl, rfl⟩), ?_⟩
    rintro _ _ _ _ _ _ _ _ _ _ _ _ ⟨rfl, rfl, rfl, rfl, rfl, rfl, rfl, rfl, rfl, rfl, rfl, rfl⟩
    refine BIf_intro (fun g => ?_) fun g => ?_
    · rw [if_pos (by cases header <;> simp at g ⊢ <;> omega)] at h1
      exact pfail_ok k3 fun st4 e5 k4 => need_intro rfl (h1 _ _ _ _ _ st4 rfl (e4.trans e5) k4 rfl)
    rw [if_neg (by cases header <;> simp at g ⊢ <;> omega)] at h0 h1 fin
    have b3 := k3.bx
    obtain ⟨es, hm1, hm2⟩ := k3.mp
    refine BIf_bool (fun g2 => ?_) fun g2 => ?_
    case' refine_1 =>
      repeat' first
        | (guard_target =~ need _ _; refine need_intro rfl ?_)
        | (guard_target =~ optK (ldCell _ _ _ _) _; refine optK_intro (ldB b3 rfl) ?_)
        | (guard_target =~ decT (.int _) _ _; refine decT_int ?_)
        | (guard_target =~ decT .str _ _; refine decT_str ?_)
        | (guard_target =~ decT .bool _ _; refine decT_bool ?_)
      refine optK_intro (x := es) (by simp only [mapOf, hm1]) ?_
      rw [hm2]
      by_cases hin : txt x.q (slc x.s i k) ∈ ns
      case' pos =>
        rw [if_pos hin]
        rw [if_pos ⟨g2, hin⟩] at h1
        refine decT_bool (BIf_bool (fun _ => ?_) fun h => by cases h)
        exact pfail_ok k3 fun st4 e5 k4 => need_intro rfl (h1 _ _ _ _ _ st4 rfl (e4.trans e5) k4 rfl)
      rw [if_neg hin]
      rw [if_neg (by rintro ⟨_, h⟩; exact hin h), if_pos g2] at h0 fin
      refine decT_bool (BIf_bool (fun h => by cases h) fun _ => ?_)
      repeat' first
        | (guard_target =~ need _ _; refine need_intro rfl ?_)
        | (guard_target =~ optK (ldCell _ _ _ _) _; refine optK_intro (ldB b3 rfl) ?_)
        | (guard_target =~ decT (.int _) _ _; refine decT_int ?_)
        | (guard_target =~ decT .str _ _; refine decT_str ?_)
        | (guard_target =~ decT .bool _ _; refine decT_bool ?_)
      refine ⟨es, hm1, ?_⟩
      obtain ⟨st7, hst7⟩ : ∃ st7, st7 = st3.put m (.map (setM (txt x.q (slc x.s i k)) (.bool true) es)) := ⟨_, rfl⟩
      rw [← hst7]
      have e7 : StX (PM p m) st st7 := by rw [hst7]; exact e4.trans (StX.put (.inr rfl) _)
      have k7 : PS p m x hd ty l2 l3 l4 (txt x.q (slc x.s i k) :: ns) k v' w o e st7 := by
        refine ⟨k3.ne, by rw [hst7]; exact k3.lp, by rw [hst7]; exact k3.lm, ?_, _, ?_, hm2.add _⟩
        · rw [hst7]; simp only [St.put]; rw [if_neg k3.ne]; exact k3.bx
        · rw [hst7, box_put]
    case' refine_2 =>
      rw [if_neg (by rintro ⟨h, _⟩; rw [g2] at h; cases h), if_neg (by rw [g2]; decide)] at h0 fin
      obtain ⟨st7, hst7⟩ : ∃ st7, st7 = st3 := ⟨_, rfl⟩
      rw [← hst7]
      have e7 : StX (PM p m) st st7 := by rw [hst7]; exact e4
      have k7 : PS p m x hd ty l2 l3 l4 ns k v' w o e st7 := by rw [hst7]; exact k3
    all_goals
      refine appK_ownX e7 (Own.nil _ _ _) (by omega) (fun h => by cases h) fun v4 st8 e8 hbx hnb o8 => need_intro (one1 o8.rd.one) ?_
      have k8 := k7.same hbx hnb
      have b8 := k8.bx
      obtain ⟨f1, f2⟩ := fin k v' _ hle.1 hle.2 rfl v4 st8 e8 k8 o8
      repeat' first
        | (guard_target =~ need _ _; refine need_intro rfl ?_)
        | (guard_target =~ optK (ldCell _ _ _ _) _; refine optK_intro (ldB b8 rfl) ?_)
        | (guard_target =~ decT (.int _) _ _; refine decT_int ?_)
        | (guard_target =~ decT .str _ _; refine decT_str ?_)
        | (guard_target =~ decT .bool _ _; refine decT_bool ?_)
      refine BIf_intro (fun q1 => ?_) fun q1 => ?_
      · repeat' first
          | (guard_target =~ need _ _; refine need_intro rfl ?_)
          | (guard_target =~ optK (ldCell _ _ _ _) _; refine optK_intro (ldB b8 rfl) ?_)
          | (guard_target =~ decT (.int _) _ _; refine decT_int ?_)
          | (guard_target =~ decT .str _ _; refine decT_str ?_)
          | (guard_target =~ decT .bool _ _; refine decT_bool ?_)
        refine ⟨⟨by omega, by omega⟩, ?_⟩
        repeat' first
          | (guard_target =~ need _ _; refine need_intro rfl ?_)
          | (guard_target =~ optK (ldCell _ _ _ _) _; refine optK_intro (ldB b8 rfl) ?_)
          | (guard_target =~ decT (.int _) _ _; refine decT_int ?_)
          | (guard_target =~ decT .str _ _; refine decT_str ?_)
          | (guard_target =~ decT .bool _ _; refine decT_bool ?_)
        rw [tn]
        refine BIf_intro (fun q2 => ?_) fun q2 => ?_
        · repeat' first
            | (guard_target =~ need _ _; refine need_intro rfl ?_)
            | (guard_target =~ optK (ldCell _ _ _ _) _; refine optK_intro (ldB b8 rfl) ?_)
            | (guard_target =~ decT (.int _) _ _; refine decT_int ?_)
            | (guard_target =~ decT .str _ _; refine decT_str ?_)
            | (guard_target =~ decT .bool _ _; refine decT_bool ?_)
          refine stB_P b8 rfl fun st9 e9 b9 => ?_
          repeat' first
            | (guard_target =~ need _ _; refine need_intro rfl ?_)
            | (guard_target =~ optK (ldCell _ _ _ _) _; refine optK_intro (ldB b9 rfl) ?_)
            | (guard_target =~ decT (.int _) _ _; refine decT_int ?_)
            | (guard_target =~ decT .str _ _; refine decT_str ?_)
            | (guard_target =~ decT .bool _ _; refine decT_bool ?_)
          refine optK_intro (toBytes_q _ (x.s.getD k 0) q2) ?_
          exact f1 (by omega) q2 st9 e9 b9
        · exact need_intro (one5 o8.rd.one) (f2 fun h => q2 h.2)
      · exact need_intro (one5 o8.rd.one) (f2 fun h => absurd h.1 (by omega))
end
end Go.TVF
end
