/- Base: the reference's bytes, walked. -/
import Derived.Test.YtphnhocpknhpgaaUsP
set_option linter.unusedVariables false
set_option linter.unusedSimpArgs false
namespace Go.TVF
open Go Go.Proofs

theorem rdx_ms {st : St} {b : Nat} {l : List UInt8} (hb : b < st.nb) (hc : st.box b = .cells (bytesT l)) : RdX st (.ms 1 b 0 l.length l.length) l := by
  have hld : ∀ st', StExt st st' → ∀ i (h : i < l.length), ldCell st' [] (.t (.box b (0 + i * 1))) 0 = some (byteT l[i]) := fun st' e i hi => by
    simp only [ldCell, e.box b hb, hc]
    simp [bytesT, hi]
  have hlc : ∀ st', StExt st st' → ∀ n j, j + n = l.length → ldCells st' [] (.t (.box b 0)) j n = some ((bytesT l).drop j) := fun st' e n => by
    induction n with
    | zero => intro j hj; simp [ldCells, bytesT]; omega
    | succ n ih =>
      intro j hj
      have hlt : j < (bytesT l).length := by rw [length_bytesT]; omega
      have h1 : ldCell st' [] (.t (.box b 0)) j = some (bytesT l)[j] := by
        simp only [ldCell, e.box b hb, hc, Nat.zero_add]
        rw [List.getElem?_eq_getElem hlt]
      rw [ldCells, h1, ih (j + 1) (by omega), List.drop_eq_getElem_cons hlt]; rfl
  refine ⟨rfl, rfl, by simp [lenZ], hld, fun st' e => ?_⟩
  have := hlc st' e l.length 0 (by omega)
  simp only [toBytes]
  rw [this]
  simp [asBytes_bytesT]

theorem zrep_bytes (f : Nat → Nat) (n : Nat) : zrep [.int .u8 (0 : Int)] (n * 1) = bytesT (bys (msk f 0) n) := by
  unfold zrep bytesT bys
  rw [List.map_map, Nat.mul_one]
  refine List.map_congr_left fun q _ => ?_
  have h0 : bn (msk f 0) (8 * q) 8 = 0 := bn_zero _ _ _ fun j _ => by simp [msk]
  simp [Nat.mod_one, Function.comp, h0, byteT]

theorem rbytes_ok {s : List UInt8} {st : St} {K : TV → St → Prop} (hl : (s.length : Int) ≤ 1000000) (hd : ∀ j, j < s.length → 0 ≤ fnd bstr8 (s.getD j 0)) (hk : ∀ v st', StExt st st' → RdX st' v (bys (bitS s) (6 * s.length / 8)) → K v st') : CallT Try.prog 49 [.str s] [.one (.tv)] st K := by
  refine vc49m s st K ?_
  rw [wrap64 ((s.length : Int) * 6) (by omega) (by omega), Int.tdiv_eq_ediv_of_nonneg (by omega), wrap64 ((s.length : Int) * 6 / 8) (by omega) (by omega)]
  have hn : ((s.length : Int) * 6 / 8).toNat = 6 * s.length / 8 := by omega
  rw [hn]
  generalize hN : 6 * s.length / 8 = n at *
  refine ⟨⟨by omega, by omega, by omega⟩, fun i s' out st1 => s = s' ∧ out = .ms 1 st.nb 0 n n ∧ StExt st st1 ∧ st.nb < st1.nb ∧ 0 ≤ i ∧ i ≤ 8 * n ∧ st1.box st.nb = .cells (bytesT (bys (msk (bitS s) i.toNat) n)), fun i _ _ _ => (8 * n - i).toNat, ⟨rfl, rfl, (StExt.refl st).push _, by simp [St.push], by omega, by omega, by simp only [St.push, if_true]; rw [zrep_bytes (bitS s)]; rfl⟩, ?_⟩
  rintro i _ _ st1 ⟨rfl, rfl, e, hnb, h0, h1, hbox⟩
  refine need_intro rfl ?_
  show BIf (decide (i < IntKind.i64.wrap (8 * (n : Int)))) _ _
  rw [wrap64 (8 * (n : Int)) (by omega) (by omega)]
  refine BIf_intro (fun h2 => ?_) fun h2 => ?_
  · rw [Int.tdiv_eq_ediv_of_nonneg h0, Int.tdiv_eq_ediv_of_nonneg h0, Int.tmod_eq_emod_of_nonneg h0, Int.tmod_eq_emod_of_nonneg h0, wrap64 (i / 6) (by omega) (by omega), wrap64 (i / 8) (by omega) (by omega)]
    have hi6 : (i / 6).toNat = i.toNat / 6 := by omega
    have hi8 : (i / 8).toNat = i.toNat / 8 := by omega
    have hlt6 : i.toNat / 6 < s.length := by omega
    refine ⟨⟨by omega, by omega⟩, find48_ok (by decide) ⟨⟨by omega, by show _ < ((n : Nat) : Int); omega⟩, ?_⟩⟩
    have hq : i.toNat / 8 < n := by omega
    have hlen : (bys (msk (bitS s) i.toNat) n).length = n := bys_len _ _
    have hld : ldCell st1 [] (.t (ixT 1 (.ms 1 st.nb 0 n n) (i / 8).toNat)) 0 = some (.int .u8 ((bn (msk (bitS s) i.toNat) (8 * (i.toNat / 8)) 8 : Nat) : Int)) := by
      have hlt := bn_lt _ (msk_lt (bitS s) (bitS_lt s) i.toNat) (8 * (i.toNat / 8)) 8
      simp only [ixT, ldCell, hbox, hi8]
      rw [← byteOf _ hlt]
      simp [bytesT, bys, hq]
    refine optK_intro hld ?_
    show need _ _
    rw [wrap64 (5 - i % 6) (by omega) (by omega), wrap64 (7 - i % 8) (by omega) (by omega)]
    have u5 : IntKind.u64.wrap (5 - i % 6) = 5 - i % 6 := by
      unfold IntKind.wrap
      simp only [IntKind.signed, IntKind.bits]
      simp
      omega
    have u7 : IntKind.u64.wrap (7 - i % 8) = 7 - i % 8 := by
      unfold IntKind.wrap
      simp only [IntKind.signed, IntKind.bits]
      simp
      omega
    rw [u5, u7]
    have hd0 := hd (i.toNat / 6) hlt6
    have hv := v64_lt' (s.getD (i.toNat / 6) 0)
    have hvN : fnd bstr8 (s.getD (i.toNat / 6) 0) = (v64 (s.getD (i.toNat / 6) 0) : Nat) := by unfold v64; omega
    have hsh : (2 : Int) ^ min (7 - i % 8).toNat (IntKind.bits .u8) = ((2 ^ (7 - i.toNat % 8) : Nat) : Int) := by
      rw [show min (7 - i % 8).toNat (IntKind.bits .u8) = 7 - i.toNat % 8 by rw [Nat.min_eq_left (by show _ ≤ 8; omega)]; omega]; simp
    rw [hi6, hvN, shr_i64 _ _ (by omega), hsh]
    have hq5 : v64 (s.getD (i.toNat / 6) 0) / 2 ^ (5 - i % 6).toNat < 2 ^ 63 := Nat.lt_of_le_of_lt (Nat.div_le_self _ _) (by omega)
    have hand := and_mask (v64 (s.getD (i.toNat / 6) 0) / 2 ^ (5 - i % 6).toNat) 1 hq5 (by decide)
    have hbit : v64 (s.getD (i.toNat / 6) 0) / 2 ^ (5 - i % 6).toNat % 2 ^ 1 = bitS s i.toNat := by
      rw [bitS, show (5 - i % 6).toNat = 5 - i.toNat % 6 by omega]
    have hand' : bitsI .and .i64 ((v64 (s.getD (i.toNat / 6) 0) / 2 ^ (5 - i % 6).toNat : Nat) : Int) (1 : Int) = ((v64 (s.getD (i.toNat / 6) 0) / 2 ^ (5 - i % 6).toNat % 2 ^ 1 : Nat) : Int) := hand
    rw [hand', hbit]
    have hb2 := bitS_lt s i.toNat
    have hp7 : 2 ^ (7 - i.toNat % 8) ≤ 2 ^ 7 := Nat.pow_le_pow_right (by decide) (by omega)
    have hprod : bitS s i.toNat * 2 ^ (7 - i.toNat % 8) < 256 := by
      have := Nat.mul_le_mul (show bitS s i.toNat ≤ 1 by omega) hp7
      omega
    rw [wrapU8n _ (by omega), show ((bitS s i.toNat : Nat) : Int) * ((2 ^ (7 - i.toNat % 8) : Nat) : Int) = ((bitS s i.toNat * 2 ^ (7 - i.toNat % 8) : Nat) : Int) by simp, wrapU8n _ hprod, or_msk _ (bitS_lt s)]
    refine need_intro (decide_eq_true (by omega)) (need_intro (decide_eq_true (by omega)) ⟨⟨by omega, by show _ < ((n : Nat) : Int); omega⟩, _, hbox, ?_, ?_⟩)
    · rw [length_bytesT, hlen]; simp; omega
    · rw [wrap64 (i + 1) (by omega) (by omega)]
      refine ⟨⟨rfl, rfl, e.put (Nat.le_refl _) _, hnb, by omega, by omega, ?_⟩, by dsimp only; omega⟩
      simp only [St.put, if_true]
      congr 1
      rw [show (i + 1).toNat = i.toNat + 1 by omega, hi8]
      apply List.ext_getElem
      · simp [setAll, bytesT, bys]
      · intro q h1 h2
        have hqn : q < n := by simpa [bytesT, bys] using h2
        simp only [setAll]
        by_cases hqe : q = i.toNat / 8
        · subst hqe
          have hlt := bn_lt _ (msk_lt (bitS s) (bitS_lt s) (i.toNat + 1)) (8 * (i.toNat / 8)) 8
          simp [bytesT, bys, List.getElem_set, byteT, UInt8.toNat_ofNat]
          omega
        · simp [bytesT, bys, List.getElem_set, byteT, bn_msk_other _ _ _ hqe]
          intro hh; omega
  · have hin : i.toNat = 8 * n := by omega
    rw [hin, msk_all] at hbox
    have := rdx_ms hnb hbox
    rw [bys_len] at this
    exact hk _ _ e this
end Go.TVF
