/- Base: the reference's Decode. -/
import Derived.Test.YtphnhocpknhpgaaUsQ
set_option linter.unusedVariables false
set_option linter.unusedSimpArgs false
namespace Go.TVF
open Go Go.Proofs

def rdecTail (n_1 : Int) (s_1 : List UInt8) (pad_1 : Bool) (st2 : St) (K : TV → Int → St → Prop) : Prop :=
  (((0 ≤ n_1 ∧ n_1 ≤ ((s_1).length : Int)) ∧ CallT Try.prog 49 [(.str (List.take (Int.toNat n_1) s_1))] [.one (.tv)] st2 (fun (v1 : TV) (st3 : St) => CallT Try.prog 37 [v1, (.bool pad_1)] [.one (.str)] st3 (fun (s1 : List UInt8) (st4 : St) => BIf (decide (s1 = s_1)) (K (v1) ((0 : Int)) st4) (BIf (decide (n_1 = ((s_1).length : Int))) (K (.nilSlice) ((4 : Int)) st4) (BIf (decide (((s_1).length : Int) < ((s1).length : Int))) (((0 ≤ ((s_1).length : Int) ∧ ((s_1).length : Int) ≤ ((s1).length : Int)) ∧ BIf (decide ((List.take (Int.toNat ((s_1).length : Int)) s1) = s_1)) (K (.nilSlice) ((4 : Int)) st4) (K (.nilSlice) ((3 : Int)) st4))) (K (.nilSlice) ((3 : Int)) st4)))))))

def refB (s : List UInt8) (n : Nat) : List UInt8 := bys (bitS (s.take n)) (6 * n / 8)
def refP (s : List UInt8) (n : Nat) (pad : Bool) : List UInt8 × Int :=
  if encR pad (refB s n) = s then (refB s n, 0)
  else if n = s.length then ([], 4)
  else if s.length < (encR pad (refB s n)).length ∧ (encR pad (refB s n)).take s.length = s then ([], 4)
  else ([], 3)

theorem refB_len (s : List UInt8) (n : Nat) : (refB s n).length = 6 * n / 8 := bys_len _ _

theorem rdecTail_ok {s : List UInt8} {n : Nat} {pad : Bool} {st : St} {K : TV → Int → St → Prop} (hn : n ≤ s.length) (hl : (s.length : Int) ≤ 1000000) (hd : ∀ j, j < n → 0 ≤ fnd bstr8 (s.getD j 0))
    (hk : ∀ v st', StExt st st' → RdX st' v (refP s n pad).1 → K v (refP s n pad).2 st') : rdecTail (n : Int) s pad st K := by
  have hnil : ∀ (r : Int) st', StExt st st' → refP s n pad = ([], r) → K .nilSlice r st' := fun r st' e h => by
    have := hk .nilSlice st' e (by rw [h]; exact RdB.x (.inl ⟨rfl, rfl, rfl⟩) st')
    rwa [h] at this
  have htl : (s.take n).length = n := by simp; omega
  refine ⟨⟨by omega, by omega⟩, ?_⟩
  show CallT Try.prog 49 [.str (s.take n)] _ _ _
  refine rbytes_ok (by omega) (fun j hj => ?_) fun v st1 e1 hv => ?_
  · rw [htl] at hj
    have : (s.take n).getD j 0 = s.getD j 0 := by simp [List.getD, List.getElem?_take, hj]
    rw [this]; exact hd j hj
  · rw [htl] at hv
    refine rencX_ok hv (by rw [bys_len]; omega) fun st2 e2 => ?_
    have e := e1.trans e2
    show BIf (decide (encR pad (refB s n) = s)) _ _
    refine BIf_intro (fun h1 => ?_) fun h1 => ?_
    · have h : refP s n pad = (refB s n, 0) := by rw [refP, if_pos h1]
      have := hk v st2 e (by rw [h]; exact hv.ext e2)
      rwa [h] at this
    · refine BIf_intro (fun h2 => hnil 4 st2 e (by rw [refP, if_neg h1, if_pos (by omega)])) fun h2 => ?_
      refine BIf_intro (fun h3 => ⟨⟨by omega, by omega⟩, BIf_intro (fun h4 => ?_) fun h4 => ?_⟩) fun h3 => ?_
      · exact hnil 4 st2 e (by rw [refP, if_neg h1, if_neg (by omega), if_pos ⟨Int.ofNat_lt.1 h3, h4⟩])
      · exact hnil 3 st2 e (by rw [refP, if_neg h1, if_neg (by omega), if_neg (fun hh => h4 hh.2)])
      · exact hnil 3 st2 e (by rw [refP, if_neg h1, if_neg (by omega), if_neg (fun hh => h3 (Int.ofNat_lt.2 hh.1))])

theorem rdec_ok {s : List UInt8} {pad : Bool} {st : St} {K : TV → Int → St → Prop} (hl : (s.length : Int) ≤ 1000000) (hk : ∀ v st', StExt st st' → RdX st' v (refP s (lead s) pad).1 → K v (refP s (lead s) pad).2 st') : CallT Try.prog 34 [.str s, .bool pad] [.one (.tv), .one (.int .i64)] st K := by
  refine vc34 s pad st K ⟨fun k s' pad' st' => s = s' ∧ pad = pad' ∧ st = st' ∧ 0 ≤ k ∧ k ≤ s.length ∧ ∀ j : Nat, (j : Int) < k → 0 ≤ fnd bstr8 (s.getD j 0), fun k _ _ _ => (s.length - k).toNat, ⟨rfl, rfl, rfl, by omega, by omega, fun j h => absurd h (by omega)⟩, ?_⟩
  rintro k _ _ _ ⟨rfl, rfl, rfl, h1, h2, h3⟩
  have stop : ((k.toNat = s.length) ∨ ¬ 0 ≤ fnd bstr8 (s.getD k.toNat 0)) → rdecTail k s pad st K := fun hs => by
    have hle := lead_at s k.toNat (by omega) (fun j hj => h3 j (by omega)) hs
    rw [hle] at hk
    have := rdecTail_ok (pad := pad) (K := K) (show k.toNat ≤ s.length by omega) hl (fun j hj => h3 j (by omega)) hk
    rwa [show ((k.toNat : Nat) : Int) = k by omega] at this
  refine BIf_intro (fun h4 => ⟨⟨h1, h4⟩, find48_ok (by decide) (BIf_intro (fun h5 => ?_) fun h5 => ?_)⟩) fun h4 => ?_
  · rw [wrap64 (k + 1) (by omega) (by omega)]
    refine ⟨⟨rfl, rfl, rfl, by omega, by omega, fun j hj => ?_⟩, by dsimp only; omega⟩
    by_cases hji : (j : Int) = k
    · have : j = k.toNat := by omega
      subst this; exact h5
    · exact h3 j (by omega)
  · exact stop (.inr h5)
  · exact stop (.inl (by omega))
end Go.TVF
