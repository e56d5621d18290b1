/- Base: what is encoded is decoded. -/
import Derived.Test.YtphnhocpknhpgaaUsJ
set_option linter.unusedVariables false
set_option linter.unusedSimpArgs false
namespace Go.TVF
open Go Go.Proofs

theorem fnd64 : ∀ n, n < 64 → fnd bstr8 (bstr8.getD n 0) = (n : Int) := by decide +kernel
theorem fnd16 : ∀ n, n < 16 → fnd bstr9 (bstr9.getD n 0) = (n : Int) := by decide +kernel
theorem fnd61 : fnd bstr8 61 = -1 := by decide +kernel

theorem bn_bit (f : Nat → Nat) (hf : ∀ i, f i < 2) (i j : Nat) (h : j < 6) : bn f i 6 / 2 ^ (5 - j) % 2 = f (i + j) := by
  have h0 := hf (i + 0)
  have h1 := hf (i + 1)
  have h2 := hf (i + 2)
  have h3 := hf (i + 3)
  have h4 := hf (i + 4)
  have h5 := hf (i + 5)
  simp only [bn, Nat.zero_mul, Nat.zero_add]
  rcases (by omega : j = 0 ∨ j = 1 ∨ j = 2 ∨ j = 3 ∨ j = 4 ∨ j = 5) with rfl | rfl | rfl | rfl | rfl | rfl
  all_goals
    simp only [Nat.reduceSub, Nat.reducePow]
    generalize f (i + 0) = a0 at *
    generalize f (i + 1) = a1 at *
    generalize f (i + 2) = a2 at *
    generalize f (i + 3) = a3 at *
    generalize f (i + 4) = a4 at *
    generalize f (i + 5) = a5 at *
    omega

theorem digs_get (l t : List UInt8) (n j : Nat) (h : j < n) : (digs l n ++ t).getD j 0 = ltr l j := by
  simp [List.getD, digs, List.getElem?_append, h]
theorem v64_ltr (l : List UInt8) (j : Nat) : fnd bstr8 (ltr l j) = (dg l (6 * j) 6 : Nat) := fnd64 _ (dg_lt l (6 * j) 6)
theorem bitS_digs (l t : List UInt8) (n i : Nat) (h : i < 6 * n) : bitS (digs l n ++ t) i = bitL l i := by
  rw [bitS, digs_get l t n _ (by omega), v64, v64_ltr]
  show dg l (6 * (i / 6)) 6 / _ % 2 = _
  rw [dg_bn, bn_bit _ (bitL_lt l) _ _ (Nat.mod_lt _ (by decide)), show 6 * (i / 6) + i % 6 = i by omega]

theorem bys_bitL (l : List UInt8) : bys (bitL l) l.length = l := by
  apply List.ext_getElem
  · simp [bys]
  · intro i h1 h2
    simp only [bys, List.getElem_map, List.getElem_range, bn_byte]
    simp [List.getD, h2]
theorem bitL_out (l : List UInt8) (i : Nat) (h : 8 * l.length ≤ i) : bitL l i = 0 := by
  have : l.getD (i / 8) 0 = 0 := by
    simp only [List.getD]
    rw [List.getElem?_eq_none (by omega)]; rfl
  rw [bitL, this]
  show 0 / _ % 2 = 0
  simp
theorem bn_zero (f : Nat → Nat) (i : Nat) : ∀ m, (∀ j, i ≤ j → f j = 0) → bn f i m = 0
  | 0, _ => rfl
  | m + 1, h => by rw [bn, bn_zero f i m h, h (i + m) (by omega)]
theorem bys_congr (f g : Nat → Nat) (n : Nat) (h : ∀ j, j < 8 * n → f j = g j) : bys f n = bys g n := by
  unfold bys
  refine List.map_congr_left fun q hq => ?_
  have : q < n := by simpa using hq
  rw [bn_congr f g (8 * q) 8 (fun j h1 h2 => h j (by omega))]

def padsOf (pad : Bool) (n : Nat) : List UInt8 := if pad = true then List.replicate ((4 - n % 4) % 4) 61 else []
theorem encR_eq (pad : Bool) (l : List UInt8) : encR pad l = digs l (ndig l.length) ++ padsOf pad (ndig l.length) := rfl
theorem digs_len (l : List UInt8) (n : Nat) : (digs l n).length = n := by simp [digs]
theorem padsOf_len (pad : Bool) (n : Nat) : (padsOf pad n).length = if pad = true then (4 - n % 4) % 4 else 0 := by
  unfold padsOf; split <;> simp
theorem pads_get (pad : Bool) (n j : Nat) (h : j < (padsOf pad n).length) : (padsOf pad n).getD j 0 = 61 ∧ pad = true := by
  rw [padsOf_len] at h
  split at h
  · rename_i hp
    rw [padsOf, if_pos hp]
    exact ⟨by simp [List.getD, h], hp⟩
  · exact absurd h (Nat.not_lt_zero _)

theorem lead_encR (pad : Bool) (l : List UInt8) : lead (encR pad l) = ndig l.length := by
  rw [encR_eq]
  refine lead_at _ _ (by rw [List.length_append, digs_len]; omega) (fun j hj => ?_) ?_
  · rw [digs_get l _ _ j hj, v64_ltr]; omega
  · by_cases h : (padsOf pad (ndig l.length)).length = 0
    · left; rw [List.length_append, digs_len, h]; omega
    · right
      have hg := pads_get pad (ndig l.length) 0 (by omega)
      have : (digs l (ndig l.length) ++ padsOf pad (ndig l.length)).getD (ndig l.length) 0 = (padsOf pad (ndig l.length)).getD 0 0 := by
        simp only [List.getD]
        rw [List.getElem?_append_right (by rw [digs_len]; omega), digs_len, Nat.sub_self]
      rw [this, hg.1, fnd61]; omega

theorem dec_enc (pad : Bool) (l : List UInt8) : decP (encR pad l) (lead (encR pad l)) pad = (l, 0) := by
  rw [lead_encR]
  have hlen : (encR pad l).length = ndig l.length + (if pad = true then (4 - ndig l.length % 4) % 4 else 0) := by
    rw [encR_eq, List.length_append, digs_len, padsOf_len]
  have hall : allEq (encR pad l) (ndig l.length) pad := fun j h1 h2 => by
    have h3 : (encR pad l).getD j 0 = (padsOf pad (ndig l.length)).getD (j - ndig l.length) 0 := by
      rw [encR_eq]
      simp only [List.getD]
      rw [List.getElem?_append_right (by rw [digs_len]; omega), digs_len]
    rw [h3]
    exact pads_get _ _ _ (by rw [padsOf_len]; omega)
  rw [decP, if_pos hall, DS_bits]
  have hq : 6 * ndig l.length / 8 = l.length := by unfold ndig; omega
  have h1 : bys (bitS (encR pad l)) l.length = l := by
    rw [bys_congr _ (bitL l) _ (fun j hj => by rw [encR_eq]; exact bitS_digs l _ _ j (by unfold ndig; omega)), bys_bitL]
  have h2 : bn (bitS (encR pad l)) (8 * l.length) (6 * ndig l.length % 8) = 0 := by
    rw [bn_congr _ (bitL l) _ _ (fun j hj hj2 => by rw [encR_eq]; exact bitS_digs l _ _ j (by omega))]
    exact bn_zero _ _ _ fun j hj => bitL_out l j hj
  rw [hq]
  dsimp only
  rw [h1, h2, hlen]
  have hr : ndig l.length % 4 ≠ 1 := by unfold ndig; omega
  generalize ndig l.length = n at *
  unfold fin
  cases pad
  · simp only [Bool.false_eq_true, if_false, false_and, or_false]
    rw [show n + 0 - n = 0 by omega]
    (repeat' split) <;> first | rfl | (exfalso; omega)
  · simp only [if_true, true_and]
    rw [show n + (4 - n % 4) % 4 - n = (4 - n % 4) % 4 by omega]
    (repeat' split) <;> first | rfl | (exfalso; omega)

theorem hexL_cons (a : UInt8) (l : List UInt8) : hexL (a :: l) = bstr9.getD (a.toNat / 16) 0 :: bstr9.getD (a.toNat % 16) 0 :: hexL l := by simp [hexL]
theorem unP_hexL : ∀ l : List UInt8, unP (hexL l) = l
  | [] => rfl
  | a :: l => by
    have ha := byteLe a
    rw [hexL_cons, unP, unP_hexL l, v16, v16, fnd16 _ (by omega), fnd16 _ (by omega)]
    congr 1
    apply UInt8.toNat_inj.1
    rw [show ((((a.toNat / 16 : Nat) : Int)).toNat * 16 + (((a.toNat % 16 : Nat) : Int)).toNat) = a.toNat by omega]
    simp
theorem okHex_hexL (l : List UInt8) : okHex (hexL l) := by
  have key : ∀ c ∈ hexL l, 0 ≤ fnd bstr9 c := by
    induction l with
    | nil => simp [hexL]
    | cons a l ih =>
      have ha := byteLe a
      rw [hexL_cons]
      intro c hc
      rcases List.mem_cons.1 hc with rfl | hc
      · rw [fnd16 _ (by omega)]; omega
      · rcases List.mem_cons.1 hc with rfl | hc
        · rw [fnd16 _ (by omega)]; omega
        · exact ih c hc
  intro j hj
  refine key _ ?_
  simp only [List.getD, List.getElem?_eq_getElem hj]
  exact List.getElem_mem hj
theorem unhex_hexO (l : List UInt8) : unhexO (hexL l) = l := by
  have := hexL_length l
  rw [unhexO, if_pos (okHex_hexL l), if_neg (by omega), unP_hexL]
theorem unhex_hexR (l : List UInt8) : unhexR (hexL l) = 0 := by
  have := hexL_length l
  rw [unhexR, if_pos (okHex_hexL l), if_neg (by omega)]

theorem encR_len (pad : Bool) (l : List UInt8) : ((encR pad l).length : Int) = if pad = true then ((l.length : Int) + 2) / 3 * 4 else (4 * (l.length : Int) + 2) / 3 := by
  rw [encR_eq, List.length_append, digs_len, padsOf_len]
  unfold ndig
  split <;> omega

theorem back_ok {b : TV} (hb : SlIs [.int .u8] b) (pad : Bool) : CallT Try.prog 12 [b, .bool pad] [.one (.bool)] St.zero (fun r _ => r = true) := by
  obtain ⟨l, hl⟩ := bytes_of hb
  refine vc12 b pad St.zero _ (need_intro hl.isSl ?_)
  rw [hl.lenS]
  refine BIf_intro (fun _ => awakeB_ok fun _ => rfl) fun h1 => ?_
  have hlen := encR_len pad l
  have hle : ((encR pad l).length : Int) ≤ 1000000 := by rw [hlen]; split <;> omega
  have hhl := hexL_length l
  refine hex_ok hl (by omega) fun st1 _ => enc_ok hl (by omega) fun st2 _ => ?_
  rw [enc_eq pad _ l (Nat.le_refl _)]
  refine unhex_ok (by omega) fun v1 st3 _ hv1 => dec_ok hle fun v2 st4 _ hv2 => ?_
  rw [unhex_hexO] at hv1
  rw [dec_enc] at hv2
  rw [unhex_hexR, dec_enc]
  refine BIf_intro (fun _ => BIf_intro (fun _ => same_ok hv1 hl ?_) fun hh => absurd rfl hh) fun hh => absurd rfl hh
  refine BIf_iff.2 ⟨fun _ => same_ok hv2 hl ?_, fun hh => absurd hh (by simp)⟩
  refine BIf_iff.2 ⟨fun _ => need_intro hl.isSl ?_, fun hh => absurd hh (by simp)⟩
  rw [hhl, wrap64 (2 * (l.length : Int)) (by omega) (by omega)]
  refine BIf_intro (fun _ => need_intro hl.isSl ?_) fun hh => absurd (by omega) hh
  refine size_ok ?_
  rw [if_neg (by omega), if_neg (by omega), ← hlen]
  exact BIf_intro (fun _ => awakeB_ok fun _ => rfl) fun hh => absurd rfl hh
end Go.TVF
