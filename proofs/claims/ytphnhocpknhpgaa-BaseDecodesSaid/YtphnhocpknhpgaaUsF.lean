/- Base: the examples; the law on hexadecimal text; sizes. -/
import Derived.Test.YtphnhocpknhpgaaUsE
import Derived.Test.YtphnhocpknhpgaaTvT
set_option linter.unusedVariables false
set_option linter.unusedSimpArgs false
namespace Go.TVF
open Go Go.Proofs

theorem bytes_of {v : TV} (h : SlIs [.int .u8] v) : ∃ l : List UInt8, RdB v l := by
  have h' : v = .nilSlice ∨ ∃ n xs, v = .list 1 .non n xs ∧ (n : Int) ≤ 9223372036854775807 ∧ xs.length = n * 1 ∧ ∀ i, i < n → flatIs [.int .u8] ((xs.drop (i * 1)).take 1) := h
  rcases h' with rfl | ⟨n, xs, rfl, _, hl, hx⟩
  · exact ⟨[], .inl ⟨rfl, rfl, rfl⟩⟩
  · rw [Nat.mul_one] at hl
    have each : ∀ i (h : i < xs.length), ∃ c : UInt8, xs[i] = byteT c := fun i hi => by
      obtain ⟨k, ys, h1, h2, _⟩ := hx i (by omega)
      rw [Nat.mul_one, List.drop_eq_getElem_cons hi] at h1
      simp only [List.take_succ_cons, List.take_zero, List.cons.injEq] at h1
      simp [Lit.wf, IntKind.min, IntKind.max, IntKind.signed, IntKind.bits] at h2
      refine ⟨UInt8.ofNat k.toNat, ?_⟩
      rw [h1.1, byteOf _ (by omega)]
      congr 1; omega
    have build : ∀ (ys : List TV), (∀ i (h : i < ys.length), ∃ c : UInt8, ys[i] = byteT c) → ∃ l : List UInt8, ys = bytesT l := by
      intro ys
      induction ys with
      | nil => intro _; exact ⟨[], rfl⟩
      | cons y ys ih =>
        intro h
        obtain ⟨c, hc⟩ := h 0 (by simp)
        obtain ⟨l, hl⟩ := ih (fun i hi => by
          obtain ⟨c', hc'⟩ := h (i + 1) (by simp; omega)
          exact ⟨c', by rw [← hc']; rfl⟩)
        exact ⟨c :: l, by simp only [List.getElem_cons_zero] at hc; simp only [bytesT, List.map_cons, hc]; congr 1⟩
    obtain ⟨l, rfl⟩ := build xs each
    have : l.length = n := by simpa [bytesT] using hl
    exact ⟨l, .inr ⟨.non, by rw [this]⟩⟩

theorem lead4 : lead bstr4 = 3 := by decide +kernel
theorem dec4 : decP bstr4 (lead bstr4) true = ([1, 2], 0) := by
  have h : allEq bstr4 3 true := fun j h1 h2 => by
    have h2' : j < 4 := h2
    have : j = 3 := by omega
    subst this
    exact ⟨by decide, rfl⟩
  rw [lead4, decP, if_pos h]
  decide +kernel
theorem enc6 : encG false [255] = bstr6 := by
  rw [encG_step false [255] (by decide), show ([255] : List UInt8).drop 3 = [] from rfl, encG_nil]
  decide +kernel

theorem awakeB_ok {st : St} {K : Bool → St → Prop} (hk : ∀ st', K true st') : CallT Try.prog 32 [] [.one (.bool)] st K := by
  refine vc32 st K (dec_ok (by decide) fun v st1 _ hv => ?_)
  rw [dec4] at hv ⊢
  refine hex_ok (l := [0, 171]) (.inr ⟨.full, rfl⟩) (by decide) fun st2 _ => BIf_intro (fun _ => ?_) fun hh => absurd (by decide) hh
  refine enc_ok (l := [255]) (.inr ⟨.full, rfl⟩) (by decide) fun st3 _ => BIf_intro (fun _ => ?_) fun hh => absurd enc6 hh
  refine optK_intro (x := .str [1, 2]) (by rw [hv.toBytes]; rfl) ?_
  show BIf (decide (([1, 2] : List UInt8) = bstr7)) (K true st3) (K false st3)
  exact BIf_intro (fun _ => hk _) fun hh => absurd (by decide) hh

theorem hexes_ok {b : TV} (hb : SlIs [.int .u8] b) (s : List UInt8) : CallT Try.prog 9 [b, .str s] [.one (.bool)] St.zero (fun r _ => r = true) := by
  obtain ⟨l, hl⟩ := bytes_of hb
  refine vc9 b s St.zero _ (need_intro hl.isSl ?_)
  rw [hl.lenS]
  refine BIf_intro (fun _ => awakeB_ok fun _ => rfl) fun h1 => BIf_intro (fun _ => awakeB_ok fun _ => rfl) fun h2 => ?_
  refine unhex_ok (by omega) fun v1 st1 _ hv1 => runhex_ok (by omega) fun v2 st2 _ hv2 => hex_ok hl (by omega) fun st3 _ => rhex_ok hl (by omega) fun st4 _ => ?_
  refine BIf_intro (fun _ => same_ok hv1 hv2 ?_) fun hh => absurd rfl hh
  exact BIf_iff.2 ⟨fun _ => BIf_intro (fun _ => awakeB_ok fun _ => rfl) fun hh => absurd rfl hh, fun hh => absurd hh (by simp)⟩

theorem size_ok {n : Int} {pad : Bool} {st : St} {K : Int → St → Prop} (hk : K (if n < 0 then 0 else if 1048576 < n then 0 else if pad = true then (n + 2) / 3 * 4 else (4 * n + 2) / 3) st) : CallT Try.prog 38 [.int .i64 n, .bool pad] [.one (.int .i64)] st K := by
  refine vc38 n pad st K (BIf_intro (fun h1 => ?_) fun h1 => BIf_intro (fun h2 => ?_) fun h2 => ?_)
  · simpa [h1] using hk
  · simpa [h1, h2] using hk
  · rw [if_neg h1, if_neg h2] at hk
    rw [wrap64 (n + 2) (by omega) (by omega), wrap64 (4 * n) (by omega) (by omega), wrap64 (4 * n + 2) (by omega) (by omega), Int.tdiv_eq_ediv_of_nonneg (by omega), Int.tdiv_eq_ediv_of_nonneg (by omega)]
    rw [wrap64 ((n + 2) / 3) (by omega) (by omega), wrap64 ((n + 2) / 3 * 4) (by omega) (by omega), wrap64 ((4 * n + 2) / 3) (by omega) (by omega)]
    refine BIf_iff.2 ⟨fun hp => ?_, fun hp => ?_⟩
    · rwa [if_pos hp] at hk
    · rwa [if_neg (by simp [hp])] at hk
theorem rsize_ok {n : Int} {pad : Bool} {st : St} {K : Int → St → Prop} (hk : K (if n < 0 then 0 else if 1048576 < n then 0 else if pad = true then (n + 2) / 3 * 4 else (4 * n + 2) / 3) st) : CallT Try.prog 39 [.int .i64 n, .bool pad] [.one (.int .i64)] st K := by
  refine vc39 n pad st K (BIf_intro (fun h1 => ?_) fun h1 => BIf_intro (fun h2 => ?_) fun h2 => ?_)
  · simpa [h1] using hk
  · simpa [h1, h2] using hk
  · rw [if_neg h1, if_neg h2] at hk
    rw [wrap64 (n + 2) (by omega) (by omega), wrap64 (8 * n) (by omega) (by omega), wrap64 (8 * n + 5) (by omega) (by omega), Int.tdiv_eq_ediv_of_nonneg (by omega), Int.tdiv_eq_ediv_of_nonneg (by omega)]
    rw [wrap64 ((n + 2) / 3) (by omega) (by omega), wrap64 ((n + 2) / 3 * 4) (by omega) (by omega), wrap64 ((8 * n + 5) / 6) (by omega) (by omega)]
    refine BIf_iff.2 ⟨fun hp => ?_, fun hp => ?_⟩
    · rwa [if_pos hp] at hk
    · rw [if_neg (by simp [hp])] at hk
      rwa [show (8 * n + 5) / 6 = (4 * n + 2) / 3 by omega]
end Go.TVF
