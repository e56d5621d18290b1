/- tablelex: escapes, program and reference. -/
import Derived.Test.YtlbcpcdgpnppgaaDoorUsD
set_option linter.unusedVariables false
set_option linter.unusedSimpArgs false
namespace Go.TVF
open Go Go.Proofs

theorem hexS_ok : ∀ (k : Nat) (l : List UInt8) (acc n : Nat), hexS k l acc = .ok n → n < (acc + 1) * 16 ^ k ∧ k ≤ l.length
  | 0, l, acc, n, h => by simp only [hexS, Except.ok.injEq] at h; omega
  | k + 1, [], acc, n, h => by cases h
  | k + 1, c :: cs, acc, n, h => by
    simp only [hexS] at h
    split at h
    · cases h
    · rename_i d hd
      have hd16 := hexD_lt hd
      obtain ⟨h1, h2⟩ := hexS_ok k cs _ n h
      refine ⟨Nat.lt_of_lt_of_le h1 ?_, by simp; omega⟩
      rw [Nat.pow_succ, Nat.mul_comm (16 ^ k) 16, ← Nat.mul_assoc]
      exact Nat.mul_le_mul_right _ (by omega)

theorem hexS_err : ∀ (k : Nat) (l : List UInt8) (acc : Nat), hexS k l acc ≠ .error 0
  | 0, l, acc => by simp [hexS]
  | k + 1, [], acc => by simp [hexS]
  | k + 1, c :: cs, acc => by
    simp only [hexS]
    split
    · simp
    · exact hexS_err k cs _

/-- What follows a backslash and u: the character, and how many bytes. -/
def escS (l : List UInt8) : Except Int (Nat × Nat) :=
  match hexS 4 l 0 with
  | .error e => .error e
  | .ok n =>
    if 56320 ≤ n ∧ n ≤ 57343 then .error 5
    else if n < 55296 ∨ 57343 < n then .ok (n, 4)
    else if l.length ≤ 4 then .error 4
    else if bt l 4 ≠ 92 then .error 5
    else if l.length ≤ 5 then .error 4
    else if bt l 5 ≠ 117 then .error 5
    else match hexS 4 (l.drop 6) 0 with
      | .error e => .error e
      | .ok m => if m < 56320 ∨ 57343 < m then .error 5 else .ok (65536 + (n - 55296) * 1024 + (m - 56320), 10)
def eR : Except Int (Nat × Nat) → Int | .ok p => p.1 | .error _ => 0
def eK (i : Nat) : Except Int (Nat × Nat) → Int | .ok p => ((i + p.2 : Nat) : Int) | .error _ => 0

theorem escS_ok {l : List UInt8} {r k : Nat} (h : escS l = .ok (r, k)) : isChar r ∧ k ≤ l.length ∧ 4 ≤ k ∧ k ≤ 10 := by
  unfold escS at h
  cases hn : hexS 4 l 0 with
  | error e => rw [hn] at h; cases h
  | ok n =>
    rw [hn] at h
    obtain ⟨hn1, hn2⟩ := hexS_ok _ _ _ _ hn
    simp only at h
    split at h
    · cases h
    · split at h
      · simp only [Except.ok.injEq, Prod.mk.injEq] at h
        unfold isChar; omega
      · split at h
        · cases h
        · split at h
          · cases h
          · split at h
            · cases h
            · split at h
              · cases h
              · cases hm : hexS 4 (l.drop 6) 0 with
                | error e => rw [hm] at h; cases h
                | ok m =>
                  rw [hm] at h
                  obtain ⟨hm1, hm2⟩ := hexS_ok _ _ _ _ hm
                  simp only at h
                  split at h
                  · cases h
                  · simp only [Except.ok.injEq, Prod.mk.injEq] at h
                    simp only [List.length_drop] at hm2
                    unfold isChar; omega

theorem hexc_ok {s : List UInt8} {I : Int} {i : Nat} {st : St} {K : Int → Int → St → Prop} (hI : I = (i : Int)) (hl : s.length ≤ 2000000) (hi : i ≤ s.length)
    (h1 : ∀ e, e ≠ 0 → hexS 4 (s.drop i) 0 = .error e → K 0 e st) (h2 : ∀ (n : Nat) (N : Int), N = (n : Int) → hexS 4 (s.drop i) 0 = .ok n → K N 0 st) :
    CallT PR fn_tablelex_hex [.str s, .int .i64 I] [.one (.int .i64), .one (.int .i64)] st K := by
  refine hex_ok hI hl hi ?_
  cases hn : hexS 4 (s.drop i) 0 with
  | error e => exact h1 e (fun h0 => by subst h0; exact hexS_err _ _ _ hn) hn
  | ok n => exact h2 n _ rfl hn
theorem fourc_ok {s : List UInt8} {I : Int} {i : Nat} {st : St} {K : Int → Int → St → Prop} (hI : I = (i : Int)) (hl : s.length ≤ 2000000) (hi : i ≤ s.length)
    (h1 : ∀ e, e ≠ 0 → hexS 4 (s.drop i) 0 = .error e → K 0 e st) (h2 : ∀ (n : Nat) (N : Int), N = (n : Int) → hexS 4 (s.drop i) 0 = .ok n → K N 0 st) :
    CallT PR fn_datakitref19_four [.str s, .int .i64 I] [.one (.int .i64), .one (.int .i64)] st K := by
  refine four_ok hI hl hi ?_
  cases hn : hexS 4 (s.drop i) 0 with
  | error e => exact h1 e (fun h0 => by subst h0; exact hexS_err _ _ _ hn) hn
  | ok n => exact h2 n _ rfl hn

theorem escape_ok {s : List UInt8} {I : Int} {i : Nat} {st : St} {K : Int → Int → Int → St → Prop} (hI : I = (i : Int)) (hl : s.length ≤ 2000000) (hi : i ≤ s.length)
    (hk : K (eR (escS (s.drop i))) (eK i (escS (s.drop i))) (eE (escS (s.drop i))) st) : CallT PR fn_tablelex_escape [.str s, .int .i64 I] [.one (.int .i32), .one (.int .i64), .one (.int .i64)] st K := by
  have hlen : (s.drop i).length = s.length - i := by simp
  have hb : ∀ j, bt (s.drop i) j = (s.getD (i + j) 0).toNat := fun j => bt_drop s i j
  unfold escS at hk
  refine vc_tablelex_escape s I st K (hexc_ok hI hl hi (fun e he hn => ?_) fun n N hN hn => ?_)
  · rw [hn] at hk
    exact BIf_intro (fun _ => hk) fun h => absurd he h
  · rw [hn] at hk
    obtain ⟨hn1, hn2⟩ := hexS_ok _ _ _ _ hn
    simp only at hk
    refine BIf_intro (fun h => absurd rfl h) fun _ => ?_
    refine BIf_intro (fun h1 => BIf_intro (fun h2 => ?_) fun h2 => ?_) fun h1 => ?_
    · rw [if_pos (by omega)] at hk; exact hk
    · rw [if_neg (by omega), if_pos (by omega)] at hk
      refine BIf_intro (fun h3 => by omega) fun h3 => BIf_intro (fun _ => ?_) fun h4 => by omega
      rw [wrap32 _ (by omega) (by omega), wrap64 _ (by omega) (by omega), hN, hI]
      exact hk
    · refine BIf_intro (fun h3 => ?_) fun h3 => BIf_intro (fun h4 => by omega) fun h4 => ?_
      · rw [if_neg (by omega), if_pos (by omega)] at hk
        rw [wrap32 _ (by omega) (by omega), wrap64 _ (by omega) (by omega), hN, hI]
        exact hk
      · rw [if_neg (by omega), if_neg (by omega)] at hk
        refine ⟨fun q s' i' n' v m st' => s = s' ∧ I = i' ∧ N = n' ∧ TV.list 1 .full 2 [.int .u8 (92 : Int), .int .u8 (117 : Int)] = v ∧ 2 = m ∧ st = st' ∧ (q = 0 ∨ (q = 1 ∧ 4 < (s.drop i).length ∧ bt (s.drop i) 4 = 92) ∨ (q = 2 ∧ 5 < (s.drop i).length ∧ bt (s.drop i) 4 = 92 ∧ bt (s.drop i) 5 = 117)), fun q _ _ _ _ _ _ => (2 - q).toNat, ⟨rfl, rfl, rfl, rfl, rfl, rfl, .inl rfl⟩, ?_⟩
        rintro q _ _ _ _ _ _ ⟨rfl, rfl, rfl, rfl, rfl, rfl, hq⟩
        rw [hlen, hb, hb] at hq
        rw [hlen, hb, hb] at hk
        rw [wrap64 (I + 4) (by omega) (by omega)]
        refine BIf_intro (fun g1 => ?_) fun g1 => ?_
        · have hld : ∀ x : Int, (x = 92 ∧ q = 0 ∨ x = 117 ∧ q = 1) → ldCell st [] (.t (ixT 1 (TV.list 1 .full 2 [.int .u8 (92 : Int), .int .u8 (117 : Int)]) (Int.toNat q))) 0 = some (.int .u8 x) := by
            rintro x (⟨rfl, rfl⟩ | ⟨rfl, rfl⟩) <;> rfl
          rcases hq with rfl | ⟨rfl, q1, q2⟩ | ⟨rfl, _⟩
          · refine ⟨⟨by omega, by decide⟩, optK_intro (hld 92 (.inl ⟨rfl, rfl⟩)) ?_⟩
            rw [wrap64 (I + 4 + 0) (by omega) (by omega)]
            refine BIf_intro (fun g2 => ?_) fun g2 => ⟨⟨by omega, by omega⟩, BIf_intro (fun g3 => ?_) fun g3 => ⟨⟨rfl, rfl, rfl, rfl, rfl, rfl, .inr (.inl ⟨rfl, ?_, ?_⟩)⟩, by dsimp only; decide⟩⟩
            · rw [if_pos (by omega)] at hk; exact hk
            · rw [show Int.toNat (I + 4 + 0) = i + 4 by omega] at g3
              rw [if_neg (by omega), if_pos (by omega)] at hk; exact hk
            · rw [hlen]; omega
            · rw [show Int.toNat (I + 4 + 0) = i + 4 by omega] at g3
              rw [hb]; omega
          · refine ⟨⟨by omega, by decide⟩, optK_intro (hld 117 (.inr ⟨rfl, rfl⟩)) ?_⟩
            rw [wrap64 (I + 4 + 1) (by omega) (by omega)]
            refine BIf_intro (fun g2 => ?_) fun g2 => ⟨⟨by omega, by omega⟩, BIf_intro (fun g3 => ?_) fun g3 => ⟨⟨rfl, rfl, rfl, rfl, rfl, rfl, .inr (.inr ⟨rfl, ?_, ?_, ?_⟩)⟩, by dsimp only; decide⟩⟩
            · rw [if_neg (by omega), if_neg (by omega), if_pos (by omega)] at hk; exact hk
            · rw [show Int.toNat (I + 4 + 1) = i + 5 by omega] at g3
              rw [if_neg (by omega), if_neg (by omega), if_neg (by omega), if_pos (by omega)] at hk; exact hk
            · rw [hlen]; omega
            · rw [hb]; exact q2
            · rw [show Int.toNat (I + 4 + 1) = i + 5 by omega] at g3
              rw [hb]; omega
          · omega
        · rcases hq with rfl | ⟨rfl, _⟩ | ⟨rfl, q1, q2, q3⟩
          · omega
          · omega
          · rw [if_neg (by omega), if_neg (by omega), if_neg (by omega), if_neg (by omega), List.drop_drop] at hk
            rw [wrap64 (I + 6) (by omega) (by omega)]
            refine hexc_ok (i := i + 6) (by omega) hl (by omega) (fun e he hm => ?_) fun m M hM hm => ?_
            · rw [hm] at hk
              exact BIf_intro (fun _ => hk) fun h => absurd he h
            · rw [hm] at hk
              obtain ⟨hm1, hm2⟩ := hexS_ok _ _ _ _ hm
              simp only at hk
              refine BIf_intro (fun h => absurd rfl h) fun _ => ?_
              refine BIf_intro (fun h5 => ?_) fun h5 => BIf_intro (fun h6 => ?_) fun h6 => ?_
              · rw [if_pos (by omega)] at hk; exact hk
              · rw [if_pos (by omega)] at hk; exact hk
              · rw [if_neg (by omega)] at hk
                rw [show (2 : Int) ^ (min (Int.toNat (10 : Int)) (IntKind.bits .i64)) = 1024 by decide, wrap64 (N - 55296) (by omega) (by omega), wrap64 ((N - 55296) * 1024) (by omega) (by omega), wrap64 (65536 + (N - 55296) * 1024) (by omega) (by omega),
                  wrap64 (65536 + (N - 55296) * 1024 + M) (by omega) (by omega), wrap64 (65536 + (N - 55296) * 1024 + M - 56320) (by omega) (by omega), wrap32 _ (by omega) (by omega), wrap64 _ (by omega) (by omega)]
                have e1 : (65536 + (N - 55296) * 1024 + M - 56320) = ((65536 + (n - 55296) * 1024 + (m - 56320) : Nat) : Int) := by omega
                have e2 : I + 10 = ((i + 10 : Nat) : Int) := by omega
                rw [e1, e2]
                exact hk

/-- The reference's pair counts from the backslash. -/
def pK : Except Int (Nat × Nat) → Int | .ok p => ((2 + p.2 : Nat) : Int) | .error _ => 0
theorem pair_ok {s : List UInt8} {I : Int} {i : Nat} {st : St} {K : Int → Int → Int → St → Prop} (hI : I = (i : Int)) (hl : s.length ≤ 2000000) (hi : i + 2 ≤ s.length)
    (hk : K (eR (escS (s.drop (i + 2)))) (pK (escS (s.drop (i + 2)))) (eE (escS (s.drop (i + 2)))) st) : CallT PR fn_datakitref19_pair [.str s, .int .i64 I] [.one (.int .i64), .one (.int .i64), .one (.int .i64)] st K := by
  have hlen : (s.drop (i + 2)).length = s.length - (i + 2) := by simp
  have hb : ∀ j, bt (s.drop (i + 2)) j = (s.getD (i + 2 + j) 0).toNat := fun j => bt_drop s (i + 2) j
  have hc : escS (s.drop (i + 2)) = escS (s.drop (i + 2)) := rfl
  unfold escS at hk
  refine vc_datakitref19_pair s I st K ?_
  rw [wrap64 (I + 2) (by omega) (by omega)]
  refine fourc_ok (i := i + 2) (by omega) hl hi (fun e he hn => ?_) fun n N hN hn => ?_
  · rw [hn] at hk
    exact BIf_intro (fun _ => hk) fun h => absurd he h
  · rw [hn] at hk
    obtain ⟨hn1, hn2⟩ := hexS_ok _ _ _ _ hn
    simp only at hk
    refine BIf_intro (fun h => absurd rfl h) fun _ => BIf_intro (fun h1 => ?_) fun h1 => BIf_intro (fun h2 => ?_) fun h2 => BIf_intro (fun h3 => ?_) fun h3 => ?_
    · rw [if_neg (by omega), if_pos (by omega)] at hk
      rw [hN]; exact hk
    · rw [if_neg (by omega), if_pos (by omega)] at hk
      rw [hN]; exact hk
    · rw [if_pos (by omega)] at hk; exact hk
    · rw [if_neg (by omega), if_neg (by omega)] at hk
      rw [hlen, hb, hb] at hk
      rw [wrap64 (I + 6) (by omega) (by omega)]
      refine BIf_intro (fun g1 => ?_) fun g1 => ⟨⟨by omega, by omega⟩, BIf_intro (fun g2 => ?_) fun g2 => ?_⟩
      · rw [if_pos (by omega)] at hk; exact hk
      · rw [show Int.toNat (I + 6) = i + 2 + 4 by omega] at g2
        rw [if_neg (by omega), if_pos (by omega)] at hk; exact hk
      · rw [show Int.toNat (I + 6) = i + 2 + 4 by omega] at g2
        rw [wrap64 (I + 7) (by omega) (by omega)]
        refine BIf_intro (fun g3 => ?_) fun g3 => ⟨⟨by omega, by omega⟩, BIf_intro (fun g4 => ?_) fun g4 => ?_⟩
        · rw [if_neg (by omega), if_neg (by omega), if_pos (by omega)] at hk; exact hk
        · rw [show Int.toNat (I + 7) = i + 2 + 5 by omega] at g4
          rw [if_neg (by omega), if_neg (by omega), if_neg (by omega), if_pos (by omega)] at hk; exact hk
        · rw [show Int.toNat (I + 7) = i + 2 + 5 by omega] at g4
          rw [if_neg (by omega), if_neg (by omega), if_neg (by omega), if_neg (by omega), List.drop_drop] at hk
          rw [wrap64 (I + 8) (by omega) (by omega)]
          refine fourc_ok (i := i + 2 + 6) (by omega) hl (by omega) (fun e he hm => ?_) fun m M hM hm => ?_
          · rw [hm] at hk
            exact BIf_intro (fun _ => hk) fun h => absurd he h
          · rw [hm] at hk
            obtain ⟨hm1, hm2⟩ := hexS_ok _ _ _ _ hm
            simp only at hk
            refine BIf_intro (fun h => absurd rfl h) fun _ => BIf_intro (fun h5 => ?_) fun h5 => BIf_intro (fun h6 => ?_) fun h6 => ?_
            · rw [if_pos (by omega)] at hk; exact hk
            · rw [if_pos (by omega)] at hk; exact hk
            · rw [if_neg (by omega)] at hk
              rw [wrap64 (N - 55296) (by omega) (by omega), wrap64 ((N - 55296) * 1024) (by omega) (by omega), wrap64 (65536 + (N - 55296) * 1024) (by omega) (by omega),
                wrap64 (65536 + (N - 55296) * 1024 + M) (by omega) (by omega), wrap64 (65536 + (N - 55296) * 1024 + M - 56320) (by omega) (by omega)]
              have e1 : (65536 + (N - 55296) * 1024 + M - 56320) = ((65536 + (n - 55296) * 1024 + (m - 56320) : Nat) : Int) := by omega
              rw [e1]
              exact hk
end Go.TVF
