/- Base: only what is encoded is accepted. -/
import Derived.Test.YtphnhocpknhpgaaUsM
set_option linter.unusedVariables false
set_option linter.unusedSimpArgs false
namespace Go.TVF
open Go Go.Proofs

def onlyTail (s : List UInt8) (pad : Bool) (st3 : St) (K : Bool → St → Prop) : Prop :=
  (CallT Try.prog 33 [(.str s), (.bool pad)] [.one (.tv), .one (.int .i64)] st3 (fun (v2 : TV) (n2 : Int) (st4 : St) => BIf (decide (n2 ≠ (0 : Int))) (need (isSl v2) (BIf (decide ((lenS v2 : Int) = (0 : Int))) (BIf (decide (n2 = (3 : Int))) (CallT Try.prog 32 [] [.one (.bool)] st4 (fun (b2 : Bool) (st5 : St) => K (b2) st5)) (BIf (decide (n2 = (4 : Int))) (CallT Try.prog 32 [] [.one (.bool)] st4 (fun (b3 : Bool) (st6 : St) => K (b3) st6)) (K (false) st4))) (K (false) st4))) (CallT Try.prog 36 [v2, (.bool pad)] [.one (.str)] st4 (fun (s2 : List UInt8) (st7 : St) => BIf (decide (s2 = s)) (CallT Try.prog 32 [] [.one (.bool)] st7 (fun (b4 : Bool) (st8 : St) => K (b4) st8)) (K (false) st7)))))

theorem decP_bad (s : List UInt8) (k : Nat) (pad : Bool) (h : (decP s k pad).2 ≠ 0) : (decP s k pad).1 = [] ∧ ((decP s k pad).2 = 3 ∨ (decP s k pad).2 = 4) := by
  unfold decP at h ⊢
  split at h
  · rename_i c
    rw [if_pos c]
    unfold fin at h ⊢
    split at h
    · exact absurd rfl h
    · rename_i c1
      rw [if_neg c1]
      split at h
      · rename_i c2
        rw [if_pos c2]; exact ⟨rfl, .inl rfl⟩
      · rename_i c2
        rw [if_neg c2]
        split at h
        · rename_i c3
          rw [if_pos c3]; exact ⟨rfl, .inr rfl⟩
        · exact absurd rfl h
  · rename_i c
    rw [if_neg c]; exact ⟨rfl, .inl rfl⟩

theorem onlyTail_ok {s : List UInt8} {pad : Bool} {st : St} {K : Bool → St → Prop} (hl : (s.length : Int) ≤ 3000) (hk : ∀ st', K true st') : onlyTail s pad st K := by
  unfold onlyTail
  refine dec_ok (by omega) fun v2 st2 _ hv2 => BIf_intro (fun h => ?_) fun h => ?_
  · obtain ⟨h1, h2⟩ := decP_bad s _ pad h
    rw [h1] at hv2
    refine need_intro hv2.isSl (BIf_intro (fun _ => BIf_intro (fun _ => awakeB_ok hk) fun h3 => BIf_intro (fun _ => awakeB_ok hk) fun h4 => absurd h2 (by omega)) fun h5 => absurd ?_ h5)
    rw [hv2.lenS]; rfl
  · have h0 : (decP s (lead s) pad).2 = 0 := Decidable.byContradiction h
    have he := enc_dec s pad h0
    have hlen : ((decP s (lead s) pad).1.length : Int) ≤ 1000000 := by
      have e := encR_len pad (decP s (lead s) pad).1
      rw [he] at e
      split at e <;> omega
    refine enc_ok hv2 hlen fun st3 _ => BIf_intro (fun _ => awakeB_ok hk) fun hh => absurd ?_ hh
    rw [enc_eq pad _ _ (Nat.le_refl _), he]

theorem hex_unP : ∀ (n : Nat) (s : List UInt8), s.length ≤ n → s.length % 2 = 0 → okHex s → hexL (unP s) = s
  | 0, s, h, _, _ => by rw [List.eq_nil_of_length_eq_zero (by omega : s.length = 0)]; rfl
  | n + 1, [], _, _, _ => rfl
  | n + 1, [a], _, h, _ => by simp at h
  | n + 1, a :: b :: r, h, h2, ho => by
    have ha : 0 ≤ fnd bstr9 a := by simpa [List.getD] using ho 0 (by simp)
    have hb : 0 ≤ fnd bstr9 b := by simpa [List.getD] using ho 1 (by simp)
    have ha2 := v16_lt a
    have hb2 := v16_lt b
    have ih := hex_unP n r (by simp at h; omega) (by simp at h2; omega) (fun j hj => by simpa [List.getD] using ho (j + 2) (by simp; omega))
    have ga := fnd_get bstr9 a ha
    have gb := fnd_get bstr9 b hb
    have e : (UInt8.ofNat (v16 a * 16 + v16 b)).toNat = v16 a * 16 + v16 b := by
      simp [UInt8.toNat_ofNat, v16]; omega
    rw [unP, hexL_cons, e, ih, show (v16 a * 16 + v16 b) / 16 = (fnd bstr9 a).toNat by unfold v16; omega, show (v16 a * 16 + v16 b) % 16 = (fnd bstr9 b).toNat by unfold v16; omega, ga, gb]

theorem unhex_only (s : List UInt8) (h : unhexR s = 0) : hexL (unhexO s) = s := by
  unfold unhexR at h
  split at h
  · rename_i c
    split at h
    · simp at h
    · rename_i c1
      rw [unhexO, if_pos c, if_neg c1]
      exact hex_unP _ s (Nat.le_refl _) (by omega) c
  · simp at h
theorem unhex_bad (s : List UInt8) (h : unhexR s ≠ 0) : unhexO s = [] := by
  unfold unhexR at h
  split at h
  · rename_i c
    split at h
    · rename_i c1; rw [unhexO, if_pos c, if_pos c1]
    · exact absurd rfl h
  · rename_i c; rw [unhexO, if_neg c]
theorem only_ok (s : List UInt8) (pad : Bool) : CallT Try.prog 10 [.str s, .bool pad] [.one (.bool)] St.zero (fun r _ => r = true) := by
  refine vc10 s pad St.zero _ (BIf_intro (fun _ => awakeB_ok fun _ => rfl) fun h1 => ?_)
  have tl : ∀ st, onlyTail s pad st (fun r _ => r = true) := fun st => onlyTail_ok (by omega) fun _ => rfl
  refine unhex_ok (by omega) fun v1 st1 _ hv1 => BIf_intro (fun h2 => ?_) fun h2 => ?_
  · have he := unhex_only s h2
    have hlen := hexL_length (unhexO s)
    rw [he] at hlen
    refine hex_ok hv1 (by omega) fun st2 _ => BIf_intro (fun hh => absurd he hh) fun _ => ?_
    exact BIf_intro (fun hh => absurd h2 hh) fun _ => tl _
  · have he := unhex_bad s h2
    rw [he] at hv1
    refine BIf_intro (fun _ => need_intro hv1.isSl (BIf_intro (fun hh => absurd (by rw [hv1.lenS]; rfl) hh) fun _ => tl _)) fun hh => absurd h2 hh
end Go.TVF
