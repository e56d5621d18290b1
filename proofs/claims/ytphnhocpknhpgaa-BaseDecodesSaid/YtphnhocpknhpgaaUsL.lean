/- Base: texts that are cut off. -/
import Derived.Test.YtphnhocpknhpgaaUsK
set_option linter.unusedVariables false
set_option linter.unusedSimpArgs false
namespace Go.TVF
open Go Go.Proofs

def cutTail (b v1 v2 : TV) (st5 : St) (K : Bool → St → Prop) : Prop :=
  (need (isSl v1) (need (isSl b) (BIf (decide ((lenS b : Int) < (lenS v1 : Int))) (K (false) st5) (need (isSl v2) (need (isSl b) (BIf (decide ((lenS b : Int) < (lenS v2 : Int))) (K (false) st5) (need (isSl v1) (((isLst 1 b = true ∧ 0 ≤ (lenS v1 : Int) ∧ (lenS v1 : Int) ≤ (lenS b : Int)) ∧ CallT Try.prog 35 [v1, (slT 1 .non b 0 (Int.toNat (lenS v1 : Int)))] [.one (.bool)] st5 (fun (b2 : Bool) (st6 : St) => BIf b2 (need (isSl v2) (((isLst 1 b = true ∧ 0 ≤ (lenS v2 : Int) ∧ (lenS v2 : Int) ≤ (lenS b : Int)) ∧ CallT Try.prog 35 [v2, (slT 1 .non b 0 (Int.toNat (lenS v2 : Int)))] [.one (.bool)] st6 (fun (b3 : Bool) (st7 : St) => BIf b3 (CallT Try.prog 32 [] [.one (.bool)] st7 (fun (b4 : Bool) (st8 : St) => K (b4) st8)) (K (false) st7))))) (K (false) st6)))))))))))

theorem RdB.cut {b : TV} {l : List UInt8} (h : RdB b l) (m : Nat) (hm : m ≤ l.length) : RdB (slT 1 .non b 0 m) (l.take m) := by
  rcases h with ⟨rfl, h1, h2⟩ | ⟨tip, rfl⟩
  · have : l = [] := List.eq_nil_of_length_eq_zero h1
    subst this
    simp at hm
    simp [hm, slT, RdB, Rd, bytesT]
  · refine .inr ⟨.non, ?_⟩
    simp [slT, bytesT, List.map_take, Nat.min_eq_left hm]

theorem cutTail_ok {b v1 v2 : TV} {l : List UInt8} {m1 m2 : Nat} {st : St} {K : Bool → St → Prop} (hl : RdB b l) (h1 : RdB v1 (l.take m1)) (h2 : RdB v2 (l.take m2)) (hk : ∀ st', K true st') : cutTail b v1 v2 st K := by
  have e1 : (l.take m1).length ≤ l.length := by simp; omega
  have e2 : (l.take m2).length ≤ l.length := by simp; omega
  have t1 : l.take (l.take m1).length = l.take m1 := by rw [List.length_take, ← List.take_take, List.take_length]
  have t2 : l.take (l.take m2).length = l.take m2 := by rw [List.length_take, ← List.take_take, List.take_length]
  have c1 := hl.cut _ e1
  have c2 := hl.cut _ e2
  rw [t1] at c1
  rw [t2] at c2
  unfold cutTail
  rw [hl.lenS, h1.lenS, h2.lenS]
  refine need_intro h1.isSl (need_intro hl.isSl (BIf_intro (fun hh => absurd hh (by omega)) fun _ => need_intro h2.isSl (need_intro hl.isSl (BIf_intro (fun hh => absurd hh (by omega)) fun _ => ?_))))
  refine need_intro h1.isSl ⟨⟨hl.isLst, by omega, by omega⟩, same_ok h1 c1 ?_⟩
  refine BIf_iff.2 ⟨fun _ => need_intro h2.isSl ⟨⟨hl.isLst, by omega, by omega⟩, same_ok h2 c2 ?_⟩, fun hh => absurd hh (by simp)⟩
  exact BIf_iff.2 ⟨fun _ => awakeB_ok hk, fun hh => absurd hh (by simp)⟩

theorem hexL_takes (l : List UInt8) (m : Nat) : (hexL l).take (2 * m) = hexL (l.take m) := by
  induction m generalizing l with
  | zero => simp [hexL]
  | succ m ih =>
    cases l with
    | nil => simp [hexL]
    | cons a l =>
      rw [hexL_cons, show 2 * (m + 1) = 2 * m + 1 + 1 by omega, List.take_succ_cons, List.take_succ_cons, ih, List.take_succ_cons, hexL_cons]

theorem unhex_cut (l : List UInt8) (c : Nat) (hc : c ≤ (hexL l).length) : ∃ m, unhexO ((hexL l).take c) = l.take m ∧ (unhexR ((hexL l).take c) = 0 ∨ unhexR ((hexL l).take c) = 4) := by
  have hlen : ((hexL l).take c).length = c := by simp; omega
  have hok : okHex ((hexL l).take c) := fun j hj => by
    rw [hlen] at hj
    have := okHex_hexL l j (by omega)
    have e : ((hexL l).take c).getD j 0 = (hexL l).getD j 0 := by simp [List.getD, List.getElem?_take, hj]
    rw [e]; exact this
  by_cases h : c % 2 = 1
  · refine ⟨0, ?_, .inr ?_⟩
    · rw [unhexO, if_pos hok, if_pos (by omega)]; simp
    · rw [unhexR, if_pos hok, if_pos (by omega)]
  · refine ⟨c / 2, ?_, .inl ?_⟩
    · rw [unhexO, if_pos hok, if_neg (by omega), show c = 2 * (c / 2) by omega, hexL_takes, unP_hexL]
      simp
    · rw [unhexR, if_pos hok, if_neg (by omega)]

theorem bys_take (l : List UInt8) (m : Nat) (h : m ≤ l.length) : bys (bitL l) m = l.take m := by
  have : bys (bitL l) m = (bys (bitL l) l.length).take m := by
    unfold bys
    rw [← List.map_take, List.take_range, Nat.min_eq_left h]
  rw [this, bys_bitL]

theorem dec_cut (pad : Bool) (l : List UInt8) (c : Nat) (hc : c ≤ (encR pad l).length) :
    ∃ m, (decP ((encR pad l).take c) (lead ((encR pad l).take c)) pad).1 = l.take m ∧ ((decP ((encR pad l).take c) (lead ((encR pad l).take c)) pad).2 = 0 ∨ (decP ((encR pad l).take c) (lead ((encR pad l).take c)) pad).2 = 4) := by
  have hlen : (encR pad l).length = ndig l.length + (padsOf pad (ndig l.length)).length := by rw [encR_eq, List.length_append, digs_len]
  by_cases h : c ≤ ndig l.length
  · have hs : (encR pad l).take c = digs l c ++ [] := by
      rw [encR_eq, List.take_append_of_le_length (by rw [digs_len]; exact h), List.append_nil]
      unfold digs
      rw [← List.map_take, List.take_range, Nat.min_eq_left h]
    rw [hs]
    have hsl : (digs l c ++ []).length = c := by simp [digs]
    have hld : lead (digs l c ++ []) = c := lead_at _ _ (by omega) (fun j hj => by rw [digs_get l _ _ j hj, v64_ltr]; omega) (.inl (by omega))
    have hall : allEq (digs l c ++ []) c pad := fun j h1 h2 => absurd h2 (by omega)
    rw [hld, decP, if_pos hall, DS_bits, hsl]
    have hb : bys (bitS (digs l c ++ [])) (6 * c / 8) = l.take (6 * c / 8) := by
      rw [bys_congr _ (bitL l) _ (fun j hj => bitS_digs l _ _ j (by omega)), bys_take _ _ (by unfold ndig at h; omega)]
    dsimp only
    rw [hb]
    unfold fin
    split
    · exact ⟨_, rfl, .inl rfl⟩
    · rw [if_neg (by omega)]
      split
      · exact ⟨0, by simp, .inr rfl⟩
      · exact ⟨_, rfl, .inl rfl⟩
  · have hpl := padsOf_len pad (ndig l.length)
    have hp : pad = true := by
      cases pad with
      | true => rfl
      | false => rw [if_neg (by decide)] at hpl; omega
    subst hp
    simp only [if_true] at hpl
    have hs : (encR true l).take c = digs l (ndig l.length) ++ (padsOf true (ndig l.length)).take (c - ndig l.length) := by
      rw [encR_eq, List.take_append, digs_len, List.take_of_length_le (by rw [digs_len]; omega)]
    have hsl : ((encR true l).take c).length = c := by simp; omega
    have hget : ∀ j, ndig l.length ≤ j → j < c → ((encR true l).take c).getD j 0 = 61 := fun j h1 h2 => by
      rw [hs]
      simp only [List.getD]
      rw [List.getElem?_append_right (by rw [digs_len]; omega), digs_len, List.getElem?_take_of_lt (by omega)]
      exact (pads_get true (ndig l.length) (j - ndig l.length) (by omega)).1
    have hld : lead ((encR true l).take c) = ndig l.length := lead_at _ _ (by omega) (fun j hj => by rw [hs, digs_get l _ _ j hj, v64_ltr]; omega) (.inr (by rw [hget _ (Nat.le_refl _) (by omega), fnd61]; omega))
    have hall : allEq ((encR true l).take c) (ndig l.length) true := fun j h1 h2 => ⟨hget j h1 (by omega), rfl⟩
    rw [hld, decP, if_pos hall, DS_bits, hsl, hs]
    have hq : 6 * ndig l.length / 8 = l.length := by unfold ndig; omega
    have h1 : bys (bitS (digs l (ndig l.length) ++ (padsOf true (ndig l.length)).take (c - ndig l.length))) l.length = l := by
      rw [bys_congr _ (bitL l) _ (fun j hj => bitS_digs l _ _ j (by unfold ndig; omega)), bys_bitL]
    have h2 : bn (bitS (digs l (ndig l.length) ++ (padsOf true (ndig l.length)).take (c - ndig l.length))) (8 * l.length) (6 * ndig l.length % 8) = 0 := by
      rw [bn_congr _ (bitL l) _ _ (fun j hj hj2 => bitS_digs l _ _ j (by omega))]
      exact bn_zero _ _ _ fun j hj => bitL_out l j hj
    rw [hq]
    dsimp only
    rw [h1, h2]
    have hr : ndig l.length % 4 ≠ 1 := by unfold ndig; omega
    unfold fin
    rw [if_neg (by omega), if_neg (by omega)]
    split
    · exact ⟨0, by simp, .inr rfl⟩
    · exact ⟨l.length, by simp, .inl rfl⟩

theorem cut_ok {b : TV} (hb : SlIs [.int .u8] b) (pad : Bool) (cut : Int) (hw : (Lit.int .u16 cut).wf = true) : CallT Try.prog 11 [b, .bool pad, .int .u16 cut] [.one (.bool)] St.zero (fun r _ => r = true) := by
  obtain ⟨l, hl⟩ := bytes_of hb
  have hw' : 0 ≤ cut ∧ cut ≤ 65535 := by
    simp [Lit.wf, IntKind.min, IntKind.max, IntKind.signed, IntKind.bits] at hw
    exact hw
  refine vc11 b pad cut St.zero _ (need_intro hl.isSl ?_)
  have hcond : BIf (decide ((3000 : Int) < (lenS b : Int))) = BIf (decide ((3000 : Int) < (l.length : Int))) := by rw [hl.lenS]
  rw [hcond]
  refine BIf_intro (fun _ => awakeB_ok fun _ => rfl) fun h1 => ?_
  have hlen := encR_len pad l
  have hle : ((encR pad l).length : Int) ≤ 1000000 := by rw [hlen]; split <;> omega
  have hhl := hexL_length l
  refine hex_ok hl (by omega) fun st1 _ => enc_ok hl (by omega) fun st2 _ => ?_
  rw [enc_eq pad _ l (Nat.le_refl _)]
  rw [wrap64 (((hexL l).length : Int) + 1) (by omega) (by omega), wrap64 (((encR pad l).length : Int) + 1) (by omega) (by omega), wrap64 cut (by omega) (by omega), Int.tmod_eq_emod_of_nonneg hw'.1, Int.tmod_eq_emod_of_nonneg hw'.1]
  have m1 := Int.emod_nonneg cut (show ((hexL l).length : Int) + 1 ≠ 0 by omega)
  have m2 := Int.emod_lt_of_pos cut (show (0 : Int) < ((hexL l).length : Int) + 1 by omega)
  have m3 := Int.emod_nonneg cut (show ((encR pad l).length : Int) + 1 ≠ 0 by omega)
  have m4 := Int.emod_lt_of_pos cut (show (0 : Int) < ((encR pad l).length : Int) + 1 by omega)
  generalize cut % (((hexL l).length : Int) + 1) = c1 at *
  generalize cut % (((encR pad l).length : Int) + 1) = c2 at *
  obtain ⟨p1, u1, u2⟩ := unhex_cut l c1.toNat (by omega)
  obtain ⟨p2, d1, d2⟩ := dec_cut pad l c2.toNat (by omega)
  refine need_intro (decide_eq_true (by omega)) ⟨⟨by omega, by omega⟩, unhex_ok (by simp; omega) fun v1 st3 _ hv1 => need_intro (decide_eq_true (by omega)) ⟨⟨by omega, by omega⟩, dec_ok (by simp; omega) fun v2 st4 _ hv2 => ?_⟩⟩
  rw [u1] at hv1
  rw [d1] at hv2
  have fin : cutTail b v1 v2 st4 (fun r _ => r = true) := cutTail_ok hl hv1 hv2 fun _ => rfl
  generalize unhexR ((hexL l).take c1.toNat) = r1 at *
  generalize (decP ((encR pad l).take c2.toNat) (lead ((encR pad l).take c2.toNat)) pad).2 = r2 at *
  exact BIf_intro (fun _ => BIf_intro (fun hh => absurd hh (by omega)) fun _ => BIf_intro (fun _ => BIf_intro (fun hh => absurd hh (by omega)) fun _ => fin) fun _ => fin) fun _ => BIf_intro (fun _ => BIf_intro (fun hh => absurd hh (by omega)) fun _ => fin) fun _ => fin
end Go.TVF
