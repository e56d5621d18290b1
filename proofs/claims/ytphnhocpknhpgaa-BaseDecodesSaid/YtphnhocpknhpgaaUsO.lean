/- Base: the reference's Encode, of a slice that is read in a state. -/
import Derived.Test.YtphnhocpknhpgaaUsN
set_option linter.unusedVariables false
set_option linter.unusedSimpArgs false
namespace Go.TVF
open Go Go.Proofs

/-- A slice that reads so from a state on. -/
structure RdX (st : St) (v : TV) (l : List UInt8) : Prop where
  isSl : isSl v = true
  lenS : lenS v = l.length
  lenZ : lenZ 1 v = l.length
  ld : ∀ st', StExt st st' → ∀ i (h : i < l.length), ldCell st' [] (.t (ixT 1 v i)) 0 = some (byteT l[i])
  tb : ∀ st', StExt st st' → toBytes st' v = some l
theorem RdB.x {v : TV} {l : List UInt8} (h : RdB v l) (st : St) : RdX st v l :=
  ⟨Rd.isSl h, Rd.lenS h, Rd.lenZ h, fun st' _ i hi => h.ld st' i hi, fun st' _ => h.toBytes st'⟩
theorem RdX.ext {st st' : St} {v : TV} {l : List UInt8} (h : RdX st v l) (e : StExt st st') : RdX st' v l :=
  ⟨h.isSl, h.lenS, h.lenZ, fun s2 e2 => h.ld s2 (e.trans e2), fun s2 e2 => h.tb s2 (e.trans e2)⟩

theorem bitX_ok {b : TV} {l : List UInt8} {i : Int} {st0 st : St} {K : Int → St → Prop} (h : RdX st0 b l) (e : StExt st0 st) (h0 : 0 ≤ i) (h1 : i ≤ 100000000) (hk : K (bitL l i.toNat) st) : CallT Try.prog 50 [b, .int .i64 i] [.one (.int .i64)] st K := by
  refine vc50 b i st K (need_intro h.isSl ?_)
  rw [h.lenS, h.lenZ, Int.tdiv_eq_ediv_of_nonneg h0, Int.tmod_eq_emod_of_nonneg h0, wrap64 (i / 8) (by omega) (by omega)]
  refine BIf_intro (fun h2 => ?_) fun h2 => ?_
  · have hg : l.getD (i.toNat / 8) 0 = 0 := by
      simp only [List.getD]
      rw [List.getElem?_eq_none (by omega)]; rfl
    have : bitL l i.toNat = 0 := by
      rw [bitL, hg]
      show 0 / _ % 2 = 0
      simp
    rw [this] at hk; exact hk
  · have hi : (i / 8).toNat < l.length := by omega
    refine ⟨⟨by omega, by omega⟩, optK_intro (h.ld _ e (i / 8).toNat hi) ?_⟩
    show need _ _
    have hu : IntKind.u64.wrap (7 - i % 8) = 7 - i % 8 := by
      unfold IntKind.wrap
      simp only [IntKind.signed, IntKind.bits]
      simp
      omega
    rw [wrap64 (7 - i % 8) (by omega) (by omega), hu]
    refine need_intro (decide_eq_true (by omega)) ?_
    have hb := byteLe l[(i / 8).toNat]
    have hm : min (7 - i % 8).toNat (IntKind.bits .u8) = (7 - i % 8).toNat := Nat.min_eq_left (by show _ ≤ 8; omega)
    rw [hm, show (2 : Int) ^ (7 - i % 8).toNat = ((2 ^ (7 - i % 8).toNat : Nat) : Int) by simp, Int.fdiv_eq_ediv_of_nonneg _ (Int.natCast_nonneg _)]
    have hq : l[(i / 8).toNat].toNat / 2 ^ (7 - i % 8).toNat ≤ 255 := Nat.le_trans (Nat.div_le_self _ _) hb
    rw [show ((l[(i / 8).toNat].toNat : Int) / ((2 ^ (7 - i % 8).toNat : Nat) : Int)) = ((l[(i / 8).toNat].toNat / 2 ^ (7 - i % 8).toNat : Nat) : Int) from rfl, wrapB8 _ hq]
    have hand := and_mask (l[(i / 8).toNat].toNat / 2 ^ (7 - i % 8).toNat) 1 (by omega) (by decide)
    rw [show (1 : Int) = ((2 ^ 1 - 1 : Nat) : Int) by decide, hand]
    have hg : l.getD (i.toNat / 8) 0 = l[(i / 8).toNat] := by
      have : (i / 8).toNat = i.toNat / 8 := by omega
      simp only [this]
      simp [List.getD, show i.toNat / 8 < l.length by omega]
    rw [bitL, hg, show 7 - i.toNat % 8 = (7 - i % 8).toNat by omega] at hk
    exact hk

theorem rencX_ok {b : TV} {l : List UInt8} {pad : Bool} {st : St} {K : List UInt8 → St → Prop} (h : RdX st b l) (hl : (l.length : Int) ≤ 1000000) (hk : ∀ st', StExt st st' → K (encR pad l) st') : CallT Try.prog 37 [b, .bool pad] [.one (.str)] st K := by
  refine vc37 b pad st K ⟨fun out i b' pad' st1 => b = b' ∧ pad = pad' ∧ StExt st st1 ∧ 0 ≤ i ∧ i % 6 = 0 ∧ i ≤ 8 * l.length + 5 ∧ OwnB st.nt st1 out (digs l (i.toNat / 6)), fun _ i _ _ _ => (8 * l.length + 6 - i).toNat, ⟨rfl, rfl, StExt.refl _, by omega, by omega, by omega, OwnB.nil _ _⟩, ?_⟩
  rintro out i _ _ st1 ⟨rfl, rfl, e, h0, h6, h1, hown⟩
  have hdl : ∀ n, (digs l n).length = n := fun n => by simp [digs]
  refine need_intro h.isSl ?_
  rw [h.lenS, wrap64 (8 * (l.length : Int)) (by omega) (by omega)]
  refine BIf_intro (fun h2 => ?_) fun h2 => ?_
  · refine ⟨fun n k b' pad' out' i' st2 => b = b' ∧ pad = pad' ∧ out = out' ∧ i = i' ∧ st1 = st2 ∧ i ≤ k ∧ k ≤ i + 6 ∧ n = (dg l i.toNat (k - i).toNat : Nat), fun _ k _ _ _ _ _ => (i + 6 - k).toNat, ⟨rfl, rfl, rfl, rfl, rfl, by omega, by omega, by simp [dg]⟩, ?_⟩
    rintro n k _ _ _ _ _ ⟨rfl, rfl, rfl, rfl, rfl, g1, g2, rfl⟩
    rw [wrap64 (i + 6) (by omega) (by omega)]
    refine BIf_intro (fun g3 => ?_) fun g3 => ?_
    · refine bitX_ok h e (by omega) (by omega) ?_
      have hd := dg_lt l i.toNat (k - i).toNat
      have hp : 2 ^ (k - i).toNat ≤ 2 ^ 5 := Nat.pow_le_pow_right (by decide) (by omega)
      have hb2 : bitL l k.toNat < 2 := Nat.mod_lt _ (by decide)
      have hor := or_add (dg l i.toNat (k - i).toNat) (bitL l k.toNat) 1 (by omega) (by omega)
      rw [pow1, wrap64 (((dg l i.toNat (k - i).toNat : Nat) : Int) * 2) (by omega) (by omega), wrap64 (k + 1) (by omega) (by omega)]
      rw [show ((dg l i.toNat (k - i).toNat : Nat) : Int) * 2 = ((dg l i.toNat (k - i).toNat * 2 ^ 1 : Nat) : Int) by omega, hor]
      refine ⟨⟨rfl, rfl, rfl, rfl, rfl, by omega, by omega, ?_⟩, by dsimp only; omega⟩
      rw [show (k + 1 - i).toNat = (k - i).toNat + 1 by omega, dg, show i.toNat + (k - i).toNat = k.toNat by omega]
    · have hk6 : (k - i).toNat = 6 := by omega
      rw [hk6]
      have hd := dg_lt l i.toNat 6
      refine ⟨⟨by omega, by show _ < (64 : Int); omega⟩, ?_⟩
      have hj : 6 * (i.toNat / 6) = i.toNat := by omega
      have hlt : ltr l (i.toNat / 6) = bstr8.getD (dg l i.toNat 6) 0 := by rw [ltr, hj]
      refine appK_bytes (ys := [bstr8.getD (dg l i.toNat 6) 0]) e hown (by rw [hdl]; simp; omega) fun v' st3 e3 _ hown3 => ?_ 
      refine ⟨⟨rfl, rfl, e3, by omega, by omega, by omega, ?_⟩, by dsimp only; omega⟩
      rw [show (i + 6).toNat / 6 = i.toNat / 6 + 1 by omega]
      have : digs l (i.toNat / 6 + 1) = digs l (i.toNat / 6) ++ [ltr l (i.toNat / 6)] := by simp [digs, List.range_succ]
      rw [this, hlt]; exact hown3
  · have hn : i.toNat / 6 = ndig l.length := by unfold ndig; omega
    rw [hn] at hown
    have hnl : ndig l.length ≤ 8 * l.length + 5 := by unfold ndig; omega
    refine ⟨fun out' pad' st2 => pad = pad' ∧ StExt st st2 ∧ ∃ j, j ≤ (if pad = true then (4 - ndig l.length % 4) % 4 else 0) ∧ OwnB st.nt st2 out' (digs l (ndig l.length) ++ List.replicate j 61), fun out' _ _ => (4 - lenS out' % 4) % 4, ⟨rfl, e, 0, Nat.zero_le _, by simpa using hown⟩, ?_⟩
    rintro out' _ st2 ⟨rfl, e2, j, hj, hown2⟩
    have hlen : (digs l (ndig l.length) ++ List.replicate j (61 : UInt8)).length = ndig l.length + j := by simp [hdl]
    refine BIf_iff.2 ⟨fun hp => need_intro hown2.rd.isSl ?_, fun hp => ?_⟩
    · rw [if_pos hp] at hj
      rw [hown2.rd.lenS, hlen, Int.tmod_eq_emod_of_nonneg (by omega)]
      refine BIf_intro (fun g => ?_) fun g => ?_
      · refine appK_bytes (ys := [61]) e2 hown2 (by rw [hlen]; simp; omega) fun v' st3 e3 _ hown3 => ?_
        refine ⟨⟨rfl, e3, j + 1, by rw [if_pos hp]; omega, ?_⟩, ?_⟩
        · rw [List.replicate_succ', ← List.append_assoc]; exact hown3
        · have hl3 := hown3.rd.lenS
          dsimp only
          rw [hl3, hown2.rd.lenS, List.length_append, hlen]
          simp only [List.length_cons, List.length_nil]
          omega
      · refine optK_intro (x := .str (encR pad l)) ?_ (show decT CTy.str (.str (encR pad l)) (fun s1 => K s1 st2) from hk _ e2)
        rw [hown2.rd.toBytes, encR, if_pos hp, show j = (4 - ndig l.length % 4) % 4 by omega]; rfl
    · rw [if_neg (by simp [hp])] at hj
      refine optK_intro (x := .str (encR pad l)) ?_ (show decT CTy.str (.str (encR pad l)) (fun s1 => K s1 st2) from hk _ e2)
      rw [hown2.rd.toBytes, encR, if_neg (by simp [hp]), show j = 0 by omega]; rfl

end Go.TVF
