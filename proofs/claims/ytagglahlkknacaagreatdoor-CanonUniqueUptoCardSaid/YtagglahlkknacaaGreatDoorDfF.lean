/- What the laws below rest on: a framework for Go programs, and contracts of the functions that they reach. -/
import Derived.Test.YtagglahlkknacaaGreatDoorDfE
section
namespace Go.TVF
open Go Go.Proofs
set_option linter.unusedVariables false
set_option linter.unusedSimpArgs false
mutual
theorem chkV_cnt : ∀ (v : Vl) (d n : Nat), (chkV d n v).2 = 0 → (chkV d n v).1 = n + v.cnt
  | .mk s l f, d, n, h => by
    unfold chkV at h ⊢
    unfold Vl.cnt
    split at h
    · cases h
    · rename_i g1
      rw [if_neg g1]
      split at h
      · cases h
      · rename_i g2
        rw [if_neg g2]
        split at h
        · rename_i h1; exact absurd h h1
        · rename_i g3
          rw [if_neg g3]
          obtain ⟨h2, h3⟩ := thenE_zero h
          rw [thenE_ok h2, chkFs_cnt f _ _ h3, chkVs_cnt l _ _ h2]; omega
theorem chkVs_cnt : ∀ (l : List Vl) (d n : Nat), (chkVs d n l).2 = 0 → (chkVs d n l).1 = n + vsCnt l
  | [], d, n, _ => by unfold chkVs vsCnt; rfl
  | v :: r, d, n, h => by
    unfold chkVs at h ⊢
    unfold vsCnt
    obtain ⟨h2, h3⟩ := thenE_zero h
    rw [thenE_ok h2, chkVs_cnt r _ _ h3, chkV_cnt v _ _ h2]; omega
theorem chkD_cnt : ∀ (x : Fd) (d n : Nat), (chkD d n x).2 = 0 → (chkD d n x).1 = n + x.cnt
  | .mk k v, d, n, h => by unfold chkD at h ⊢; unfold Fd.cnt; exact chkV_cnt v _ _ h
theorem chkFs_cnt : ∀ (l : List Fd) (d n : Nat), (chkFs d n l).2 = 0 → (chkFs d n l).1 = n + fsCnt l
  | [], d, n, _ => by unfold chkFs fsCnt; rfl
  | x :: r, d, n, h => by
    unfold chkFs at h ⊢
    unfold fsCnt
    obtain ⟨h2, h3⟩ := thenE_zero h
    rw [thenE_ok h2, chkFs_cnt r _ _ h3, chkD_cnt x _ _ h2]; omega
end
theorem check_cnt {v : Vl} (h : checkV v = 0) : v.cnt ≤ 65536 := by
  have h1 := chkV_cnt v 1 0 h
  have h2 := chkV_le v 1 0 (by omega) h
  omega
theorem check_valid {v : Vl} (h : checkV v = 0) : Valid v := chkV_ok v 1 0 h
theorem FsOk_iff : ∀ {f : List Fd}, FsOk f ↔ ∀ d, d ∈ f → FdOk d
  | [] => by unfold FsOk; simp
  | x :: r => by unfold FsOk; rw [FsOk_iff]; simp
theorem fsSz_perm {f g : List Fd} (p : f.Perm g) : fsSz f = fsSz g := by
  induction p with
  | nil => rfl
  | cons x _ ih => unfold fsSz; rw [ih]
  | swap x y l => unfold fsSz; simp only [fsSz]; omega
  | trans _ _ h1 h2 => rw [h1, h2]
mutual
theorem sortV_ok : ∀ {v : Vl}, VOk v → VOk (sortV v)
  | .mk s l f, h => by
    unfold VOk at h
    unfold sortV VOk
    obtain ⟨h1, h2, h3⟩ := h
    refine ⟨h1, sortVs_ok h2, FsOk_iff.2 fun d hd => ?_⟩
    exact FsOk_iff.1 (sortFs_ok h3) d ((sortFd_perm _).mem_iff.1 hd)
theorem sortVs_ok : ∀ {l : List Vl}, VsOk l → VsOk (sortVs l)
  | [], h => by unfold sortVs VsOk; trivial
  | v :: r, h => by
    unfold VsOk at h
    unfold sortVs VsOk
    exact ⟨sortV_ok h.1, sortVs_ok h.2⟩
theorem sortD_ok : ∀ {d : Fd}, FdOk d → FdOk (sortD d)
  | .mk k v, h => by unfold FdOk at h; unfold sortD FdOk; exact sortV_ok h
theorem sortFs_ok : ∀ {f : List Fd}, FsOk f → FsOk (sortFs f)
  | [], h => by unfold sortFs FsOk; trivial
  | d :: r, h => by
    unfold FsOk at h
    unfold sortFs FsOk
    exact ⟨sortD_ok h.1, sortFs_ok h.2⟩
end
mutual
theorem sortV_sz : ∀ v : Vl, (sortV v).sz = v.sz
  | .mk s l f => by
    unfold sortV
    rw [szs, szs, sortVs_sz l, fsSz_perm (sortFd_perm _), sortFs_sz f]
theorem sortVs_sz : ∀ l : List Vl, vsSz (sortVs l) = vsSz l
  | [] => by unfold sortVs; rfl
  | v :: r => by unfold sortVs vsSz; rw [sortV_sz v, sortVs_sz r]
theorem sortD_sz : ∀ d : Fd, (sortD d).sz = d.sz
  | .mk k v => by unfold sortD; rw [szd, szd, sortV_sz v]
theorem sortFs_sz : ∀ f : List Fd, fsSz (sortFs f) = fsSz f
  | [] => by unfold sortFs; rfl
  | d :: r => by unfold sortFs fsSz; rw [sortD_sz d, sortFs_sz r]
end
theorem strB_len {s : List UInt8} (h : s.length ≤ 2000000) : (strB s).length ≤ 9 + s.length := by
  have := natB_len9 (n := s.length) (by omega)
  unfold strB; rw [List.length_append]; omega
mutual
theorem bytesV_sz : ∀ {v : Vl}, VOk v → v.sz ≤ 2000000 → (bytesV v).length + 9 ≤ 40 * v.sz
  | .mk s l f, h, hs => by
    unfold VOk at h
    obtain ⟨h1, h2, h3⟩ := h
    have hsz := szs s l f
    have hv := bytesVs_sz h2 (by omega)
    have hf := bytesFs_sz h3 (by omega)
    have hll := vsSz_len l
    have hfl := fsSz_len f
    rw [hsz] at hs ⊢
    unfold bytesV
    simp only [List.length_cons]
    split
    · simp; omega
    split
    · unfold numB
      split
      · simp; omega
      · have := zig_le (n := s.ex) (by have := h1.e1; omega) (by have := h1.e2; omega)
        have := natB_len9 (n := zig s.ex) (by omega)
        have := strB_len (s := s.dg) (by omega)
        simp only [List.length_cons, List.length_append]; omega
    split
    · have := natB_len9 (n := s.td.toNat) (by have := h1.d1; omega)
      have := natB_len9 (n := s.tn.toNat) (by have := h1.n1; omega)
      have := zig_le (n := s.tz) (by have := h1.z0; omega) (by have := h1.z1; omega)
      have := natB_len9 (n := zig s.tz) (by omega)
      simp only [List.length_cons, List.length_append]; omega
    split
    · have := strB_len (s := s.text) (by omega)
      omega
    split
    · have := strB_len (s := s.bytes) (by omega)
      omega
    split
    · have := natB_len9 (n := l.length) (by omega)
      rw [List.length_append]; omega
    split
    · have := natB_len9 (n := f.length) (by omega)
      rw [List.length_append]; omega
    · simp; omega
theorem bytesVs_sz : ∀ {l : List Vl}, VsOk l → vsSz l ≤ 2000000 → (bytesVs l).length ≤ 40 * vsSz l
  | [], _, _ => by unfold bytesVs; simp
  | v :: r, h, hs => by
    unfold VsOk at h
    unfold vsSz at hs ⊢
    unfold bytesVs
    have := bytesV_sz h.1 (by omega)
    have := bytesVs_sz h.2 (by omega)
    rw [List.length_append]; omega
theorem bytesD_sz : ∀ {d : Fd}, FdOk d → d.sz ≤ 2000000 → (bytesD d).length ≤ 40 * d.sz
  | .mk k v, h, hs => by
    unfold FdOk at h
    rw [szd] at hs ⊢
    unfold bytesD
    have := bytesV_sz h (by omega)
    have := strB_len (s := k) (by omega)
    rw [List.length_append]; omega
theorem bytesFs_sz : ∀ {f : List Fd}, FsOk f → fsSz f ≤ 2000000 → (bytesFs f).length ≤ 40 * fsSz f
  | [], _, _ => by unfold bytesFs; simp
  | d :: r, h, hs => by
    unfold FsOk at h
    unfold fsSz at hs ⊢
    unfold bytesFs
    have := bytesD_sz h.1 (by omega)
    have := bytesFs_sz h.2 (by omega)
    rw [List.length_append]; omega
end
theorem encode_len {v : Vl} (h : checkV v = 0) (hN : v.sz ≤ 2000000) : (bytesV (sortV v)).length ≤ 80000000 := by
  have := bytesV_sz (sortV_ok (check_valid h).ok.1) (by rw [sortV_sz]; exact hN)
  rw [sortV_sz] at this; omega
/-- What Encode gives. -/
noncomputable def encV (v : Vl) : List UInt8 := if checkV v = 0 then bytesV (sortV v) else []
theorem Encode_ok {v : Vl} (hN : v.sz ≤ 2000000) {st0 st : St} {cs : List TV} {K : TV → Int → St → Prop} (h : VlR st0 v cs) (hke : Keeps st0 st) (hk : ∀ u st', StExt st st' → RdB u (encV v) → K u (checkV v : Nat) st') :
    CallT PR fn_canon_Encode [.agg cs] [.one .tv, .one (.int .i64)] st K := by
  cases v with
  | mk s l f =>
  have h0 := h
  obtain ⟨ub, ul, uf, xl, xf, rfl, _⟩ := h.cells
  refine vc_canon_Encode _ _ _ _ _ _ _ _ _ _ _ _ _ st K (Check_ok hN h0 hke fun st1 e1 => BIf_intro (fun g => ?_) fun g => ?_)
  · exact hk _ st1 e1 (by unfold encV; rw [if_neg (by omega)]; exact .inl ⟨rfl, rfl, rfl⟩)
  · have hc : checkV (.mk s l f) = 0 := by omega
    have hv := (check_valid hc).ok
    have hlen := encode_len hc hN
    refine Sorted_ok hN (check_cnt hc) hv.2 (VlR.keep (hke.trans e1.keeps) h0) fun ub1 ul1 uf1 st2 hs o1 o2 o3 e2 => ?_
    refine put_ok 2000000 _ (by rw [sortV_sz]; exact hN) (by omega) (sortV_ok hv.1) hs (StExt.refl st2) (OwnB.nil _ _) (by simp only [List.length_nil]; omega) fun u st3 e3 ho => ?_
    have := hk u st3 ((e1.trans e2).trans e3) (by unfold encV; rw [if_pos hc]; exact ho.rd)
    rw [hc] at this; exact this
theorem RdB.len {u : TV} {l : List UInt8} (h : RdB u l) : lenS u = l.length := Rd.lenS h
theorem sameBytes_ok {a b : TV} {x y : List UInt8} (ha : RdB a x) (hb : RdB b y) {st : St} {K : Bool → St → Prop} (hk : K (decide (x = y)) st) : CallT PR fn_datakitref10_SameBytes [a, b] [.one .bool] st K :=
  vc_datakitref10_SameBytes _ _ st K (optK_intro (x := .str x) (by rw [ha.toBytes]; rfl) (decT_str (optK_intro (x := TV.str y) (by rw [hb.toBytes]; rfl) (decT_str hk))))
end Go.TVF
end

section
namespace Go.TVF
open Go Go.Proofs
set_option linter.unusedVariables false
set_option linter.unusedSimpArgs false
theorem take_eq_snoc {α : Type} {l m : List α} {k : Nat} {x y : α} (h : l.take k = m.take k) (hx : l[k]? = some x) (hy : m[k]? = some y) (e : x = y) : l.take (k + 1) = m.take (k + 1) := by
  rw [take_snoc hx, take_snoc hy, h, e]
theorem sc_eq {s t : Sc} (h1 : s.kind = t.kind) (h2 : s.b = t.b) (h3 : s.neg = t.neg) (h4 : s.dg = t.dg) (h5 : s.ex = t.ex) (h6 : s.tk = t.tk) (h7 : s.td = t.td) (h8 : s.tn = t.tn) (h9 : s.tz = t.tz) (h10 : s.text = t.text) (h11 : s.bytes = t.bytes) : s = t := by
  cases s; cases t; simp_all
theorem Same_ok : ∀ (N : Nat) (v w : Vl), v.sz ≤ N → w.sz ≤ 2000000 → N ≤ 2000000 → ∀ {st0 st : St} {cs ds : List TV} {K : Bool → St → Prop}, VlR st0 v cs → VlR st0 w ds → Keeps st0 st → (∀ r, (r = true ↔ v = w) → K r st) →
    CallT PR fn_datakitref07_Same [.agg cs, .agg ds] [.one .bool] st K := by
  intro N
  induction N with
  | zero => intro v w h; have := v.sz_pos; omega
  | succ N ih =>
  intro v w hN hW hN2 st0 st cs ds K h h' hke hk
  cases v with
  | mk s l f =>
  cases w with
  | mk t m g =>
  have hsz := szs s l f
  have hll := vsSz_len l
  have hfl := fsSz_len f
  have hsz' := szs t m g
  have hll' := vsSz_len m
  have hfl' := fsSz_len g
  obtain ⟨ub, ul, uf, xl, xf, rfl, h1, h2, h3, h4, h5⟩ := h.cells
  obtain ⟨wb, wl, wf, yl, yf, rfl, k1, k2, k3, k4, k5⟩ := h'.cells
  have no : (Vl.mk s l f ≠ Vl.mk t m g) → K false st := fun hne => hk false ⟨fun h => (by cases h), fun h => absurd h hne⟩
  have inj : Vl.mk s l f = Vl.mk t m g ↔ s = t ∧ l = m ∧ f = g := by simp
  refine vc_datakitref07_Same _ _ _ _ _ _ _ _ _ _ _ _ _ _ _ _ _ _ _ _ _ _ _ _ _ _ st K ?_
  refine BIf_intro (fun e => no fun h => e (by rw [(inj.1 h).1])) fun e1 => BIf_bool (fun e => no fun h => ?_) fun e2 => BIf_bool (fun e => no fun h => ?_) fun e3 => BIf_bool (fun e => no fun h => ?_) fun e4 => BIf_intro (fun e => no fun h => e (by rw [(inj.1 h).1])) fun e5 => ?_
  · rw [(inj.1 h).1] at e; simp at e
  · rw [(inj.1 h).1] at e; simp at e
  · rw [(inj.1 h).1] at e; simp at e
  refine optK_intro (x := .str s.bytes) (by rw [(h1.keep hke).toBytes]; rfl) (decT_str (optK_intro (x := TV.str t.bytes) (by rw [(k1.keep hke).toBytes]; rfl) (decT_str ?_)))
  refine BIf_intro (fun e => no fun h => e (by rw [(inj.1 h).1])) fun e6 => ?_
  have hst : s = t := by
    simp only [Bool.not_eq_false', Bool.and_eq_true, beq_iff_eq, decide_eq_true_eq, and_true] at e2 e3 e4
    exact sc_eq (Decidable.not_not.1 e1) e2 e3.1 e3.2.1 e3.2.2 e4.1 e4.2.1 e4.2.2.1 e4.2.2.2 (Decidable.not_not.1 e5) (Decidable.not_not.1 e6)
  subst hst
  refine need_intro h2.isSl (need_intro k2.isSl ?_)
  rw [h2.lenS, k2.lenS]
  refine BIf_intro (fun e => no fun h => e (by rw [(inj.1 h).2.1])) fun e7 => need_intro h4.isSl (need_intro k4.isSl ?_)
  rw [h4.lenS, k4.lenS]
  refine BIf_intro (fun e => no fun h => e (by rw [(inj.1 h).2.2])) fun e8 => ?_
  have ell : l.length = m.length := by omega
  have efl : f.length = g.length := by omega
  refine ⟨fun i a1 a2 a3 a4 a5 a6 a7 a8 a9 a10 a11 a12 a13 b1 b2 b3 b4 b5 b6 b7 b8 b9 b10 b11 b12 b13 st' => ul = a12 ∧ uf = a13 ∧ wl = b12 ∧ wf = b13 ∧ st = st' ∧ ∃ k : Nat, i = k ∧ k ≤ l.length ∧ l.take k = m.take k, fun i _ _ _ _ _ _ _ _ _ _ _ _ _ _ _ _ _ _ _ _ _ _ _ _ _ _ _ => (l.length - i).toNat,
    ⟨rfl, rfl, rfl, rfl, rfl, 0, rfl, Nat.zero_le _, rfl⟩, ?_⟩
  rintro _ a1 a2 a3 a4 a5 a6 a7 a8 a9 a10 a11 _ _ b1 b2 b3 b4 b5 b6 b7 b8 b9 b10 b11 _ _ _ ⟨rfl, rfl, rfl, rfl, rfl, k, rfl, hkl, hE⟩
  refine need_intro h2.isSl (BIf_intro (fun q => ?_) fun q => ?_)
  · rw [h2.lenS] at q
    refine el13 hke h2 h3 rfl (by omega) fun s1 l1 f1 ub1 ul1 uf1 gw hw on => el13 hke k2 k3 rfl (by omega) fun s2 l2 f2 ub2 ul2 uf2 gw2 hw2 on2 => ?_
    have hwsz := vsSz_get gw
    have hwsz2 := vsSz_get gw2
    refine ih _ (.mk s2 l2 f2) (by omega) (by omega) (by omega) hw hw2 hke fun r hr => BIf_bool (fun hb => no fun h => ?_) fun hb => ?_
    · rw [(inj.1 h).2.1, gw2] at gw
      rw [hr.2 (Option.some.inj gw).symm] at hb; cases hb
    · rw [wrap64 _ (by omega) (by omega)]
      exact ⟨⟨rfl, rfl, rfl, rfl, rfl, k + 1, by omega, by omega, take_eq_snoc hE gw gw2 (hr.1 (by simpa using hb))⟩, by dsimp only; omega⟩
  · rw [h2.lenS] at q
    have hlm : l = m := by
      have : k = l.length := by omega
      rw [this, List.take_length, ell, List.take_length] at hE; exact hE
    subst hlm
    refine ⟨fun i a1 a2 a3 a4 a5 a6 a7 a8 a9 a10 a11 a12 a13 b1 b2 b3 b4 b5 b6 b7 b8 b9 b10 b11 b12 b13 st' => uf = a13 ∧ wf = b13 ∧ st = st' ∧ ∃ k : Nat, i = k ∧ k ≤ f.length ∧ f.take k = g.take k, fun i _ _ _ _ _ _ _ _ _ _ _ _ _ _ _ _ _ _ _ _ _ _ _ _ _ _ _ => (f.length - i).toNat,
      ⟨rfl, rfl, rfl, 0, rfl, Nat.zero_le _, rfl⟩, ?_⟩
    rintro _ a1 a2 a3 a4 a5 a6 a7 a8 a9 a10 a11 a12 _ b1 b2 b3 b4 b5 b6 b7 b8 b9 b10 b11 b12 _ _ ⟨rfl, rfl, rfl, k, rfl, hkl, hF⟩
    refine need_intro h4.isSl (BIf_intro (fun q => ?_) fun q => ?_)
    · rw [h4.lenS] at q
      have gd : f[k]? = some f[k] := List.getElem?_eq_getElem (by omega)
      have gd2 : g[k]? = some g[k] := List.getElem?_eq_getElem (by omega)
      generalize f[k] = d at gd
      generalize g[k] = d2 at gd2
      refine key14 hke h4 h5 rfl gd (key14 hke k4 k5 rfl gd2 (BIf_intro (fun e => ?_) fun e => ?_))
      · refine ⟨keyLd hke k4 k5 gd2, keyLd hke h4 h5 gd, no fun h => e ?_⟩
        rw [(inj.1 h).2.2, gd2] at gd
        rw [Option.some.inj gd]
      · refine val14 hke h4 h5 rfl (by omega) fun key1 s1 l1 f1 ub1 ul1 uf1 gw hw on => val14 hke k4 k5 rfl (by omega) fun key2 s2 l2 f2 ub2 ul2 uf2 gw2 hw2 on2 => ?_
        have hwsz := fsSz_get gw
        have hwsz2 := fsSz_get gw2
        have hwk := szd key1 (.mk s1 l1 f1)
        have hwk2 := szd key2 (.mk s2 l2 f2)
        refine ih (.mk s1 l1 f1) (.mk s2 l2 f2) (by omega) (by omega) (by omega) hw hw2 hke fun r hr => ⟨keyLd hke k4 k5 gd2, keyLd hke h4 h5 gd, BIf_bool (fun hb => no fun h => ?_) fun hb => ?_⟩
        · rw [(inj.1 h).2.2, gw2] at gw
          have := Option.some.inj gw
          simp only [Fd.mk.injEq] at this
          rw [hr.2 this.2.symm] at hb; cases hb
        · rw [wrap64 _ (by omega) (by omega)]
          refine ⟨⟨rfl, rfl, rfl, k + 1, by omega, by omega, take_eq_snoc hF gw gw2 ?_⟩, by dsimp only; omega⟩
          rw [gd] at gw
          rw [gd2] at gw2
          have q1 := Option.some.inj gw
          have q2 := Option.some.inj gw2
          subst q1 q2
          have := hr.1 (by simpa using hb)
          simp only [Fd.key, Decidable.not_not] at e
          rw [e, this]
    · rw [h4.lenS] at q
      have hfg : f = g := by
        have : k = f.length := by omega
        rw [this, List.take_length, efl, List.take_length] at hF; exact hF
      exact hk true ⟨fun _ => by rw [hfg], fun _ => rfl⟩
end Go.TVF
end

section
namespace Go.TVF
open Go Go.Proofs
set_option linter.unusedVariables false
abbrev decQs : List (Nat × (Nat → List TV → Prop)) := [(1, cellQ .bool), (1, strQ), (1, cellQ (.int .i64))]
abbrev timeQs : List (Nat × (Nat → List TV → Prop)) := [(1, cellQ (.int .i64)), (1, cellQ (.int .i64)), (1, cellQ (.int .i64)), (1, cellQ (.int .i64))]
def valQ (k : Nat) (tv : List TV) : Prop := ∃ v : Vl, VlR St.zero v tv ∧ v.sz ≤ k
def fldQ (k : Nat) (tv : List TV) : Prop := ∃ d : Fd, FdR St.zero d tv ∧ d.sz ≤ k
abbrev sliceQ (c : Nat) (S : Nat → List TV → Prop) (k : Nat) (tv : List TV) : Prop := ∃ v, tv = [v] ∧ SlQ c S k v
abbrev inQ (Ss : List (Nat × (Nat → List TV → Prop))) (k : Nat) (tv : List TV) : Prop := ∃ k', k' + 1 ≤ k ∧ EachQ Ss k' tv
abbrev valQs : List (Nat × (Nat → List TV → Prop)) := [(1, cellQ (.int .i64)), (1, cellQ .bool), (3, inQ decQs), (4, inQ timeQs), (1, strQ), (1, sliceQ 1 (cellQ (.int .u8))), (1, sliceQ 13 valQ), (1, sliceQ 14 fldQ)]
abbrev fldQs : List (Nat × (Nat → List TV → Prop)) := [(1, strQ), (13, valQ)]
theorem SlQ.bytes {k : Nat} {v : TV} (h : SlQ 1 (cellQ (.int .u8)) k v) : ∃ l : List UInt8, SlR St.zero 1 v l.length (bytesT l) ∧ l.length ≤ k := by
  rcases h with rfl | ⟨ps, rfl, h, hk⟩
  · exact ⟨[], .inl (.inl ⟨rfl, rfl, rfl⟩), Nat.zero_le _⟩
  · have : ∃ l : List UInt8, l.length = ps.length ∧ (ps.map (·.1)).flatten = bytesT l ∧ l.length ≤ (ps.map (·.2)).sum := by
      clear hk
      induction ps with
      | nil => exact ⟨[], rfl, rfl, Nat.zero_le _⟩
      | cons p r ih =>
        obtain ⟨l, h1, h2, h3⟩ := ih (fun q hq => h q (.tail _ hq))
        obtain ⟨hl, ⟨n, ys, hp, hw, rfl⟩, h1k⟩ := h p (.head _)
        have hn : 0 ≤ n ∧ n ≤ 255 := by simpa [Lit.wf, IntKind.min, IntKind.max, IntKind.signed, IntKind.bits] using hw
        refine ⟨n.toNat.toUInt8 :: l, by simp [h1], ?_, by simp only [List.length_cons, List.map_cons, List.sum_cons]; omega⟩
        rw [List.map_cons, List.flatten_cons, hp, h2]
        simp only [bytesT, List.map_cons, byteT, List.cons_append, List.nil_append, List.cons.injEq, and_true, TV.int.injEq, true_and]
        have := natB_lt n.toNat (by omega)
        omega
    obtain ⟨l, h1, h2, h3⟩ := this
    exact ⟨l, .inl (.inr ⟨.non, by rw [h1, h2]⟩), by omega⟩
theorem SlQ.vals {k : Nat} {v : TV} (h : SlQ 13 valQ k v) : ∃ l xl, SlR St.zero 13 v l.length xl ∧ VsR St.zero l xl ∧ vsSz l ≤ k := by
  rcases h with rfl | ⟨ps, rfl, h, hk⟩
  · exact ⟨[], [], .inl (.inl ⟨rfl, rfl, rfl⟩), by unfold VsR; rfl, by unfold vsSz; exact Nat.zero_le _⟩
  · have : ∃ l : List Vl, l.length = ps.length ∧ VsR St.zero l (ps.map (·.1)).flatten ∧ vsSz l ≤ (ps.map (·.2)).sum := by
      clear hk
      induction ps with
      | nil => exact ⟨[], rfl, by unfold VsR; rfl, by unfold vsSz; exact Nat.zero_le _⟩
      | cons p r ih =>
        obtain ⟨l, h1, h2, h3⟩ := ih (fun q hq => h q (.tail _ hq))
        obtain ⟨hl, v, hv, hz⟩ := h p (.head _)
        exact ⟨v :: l, by simp [h1], by unfold VsR; exact ⟨_, _, by simp, hv, h2⟩, by unfold vsSz; simp only [List.map_cons, List.sum_cons]; omega⟩
    obtain ⟨l, h1, h2, h3⟩ := this
    exact ⟨l, _, .inl (.inr ⟨.non, by rw [h1]⟩), h2, by omega⟩
theorem SlQ.flds {k : Nat} {v : TV} (h : SlQ 14 fldQ k v) : ∃ l xl, SlR St.zero 14 v l.length xl ∧ FsR St.zero l xl ∧ fsSz l ≤ k := by
  rcases h with rfl | ⟨ps, rfl, h, hk⟩
  · exact ⟨[], [], .inl (.inl ⟨rfl, rfl, rfl⟩), by unfold FsR; rfl, by unfold fsSz; exact Nat.zero_le _⟩
  · have : ∃ l : List Fd, l.length = ps.length ∧ FsR St.zero l (ps.map (·.1)).flatten ∧ fsSz l ≤ (ps.map (·.2)).sum := by
      clear hk
      induction ps with
      | nil => exact ⟨[], rfl, by unfold FsR; rfl, by unfold fsSz; exact Nat.zero_le _⟩
      | cons p r ih =>
        obtain ⟨l, h1, h2, h3⟩ := ih (fun q hq => h q (.tail _ hq))
        obtain ⟨hl, v, hv, hz⟩ := h p (.head _)
        exact ⟨v :: l, by simp [h1], by unfold FsR; exact ⟨_, _, by simp, hv, h2⟩, by unfold fsSz; simp only [List.map_cons, List.sum_cons]; omega⟩
    obtain ⟨l, h1, h2, h3⟩ := this
    exact ⟨l, _, .inl (.inr ⟨.non, by rw [h1]⟩), h2, by omega⟩
theorem cellQ_int {kd : IntKind} {k : Nat} {tv : List TV} (h : cellQ (.int kd) k tv) : ∃ n, tv = [.int kd n] := by
  obtain ⟨⟨n, ys, rfl, _, rfl⟩, _⟩ := h; exact ⟨n, rfl⟩
theorem cellQ_bool {k : Nat} {tv : List TV} (h : cellQ .bool k tv) : ∃ b, tv = [.bool b] := by
  obtain ⟨⟨n, ys, rfl, rfl⟩, _⟩ := h; exact ⟨n, rfl⟩
theorem each_field {k : Nat} {tv : List TV} (h : inQ fldQs k tv) : fldQ k tv := by
  obtain ⟨k0, hk0, _, _, k1, k2, rfl, _, ⟨key, rfl, _, hkey⟩, ⟨_, _, k3, k4, rfl, _, ⟨v, hv, hz⟩, rfl, h2⟩, h1⟩ := h
  refine ⟨.mk key v, by unfold FdR; exact ⟨_, by simp, hv⟩, by unfold Fd.sz; omega⟩
theorem each_value {k : Nat} {tv : List TV} (h : inQ valQs k tv) : valQ k tv := by
  obtain ⟨k0, hk0, _, _, a1, r1, rfl, _, q1, ⟨_, _, a2, r2, rfl, _, q2, ⟨_, _, a3, r3, rfl, _, q3, ⟨_, _, a4, r4, rfl, _, q4, ⟨_, _, a5, r5, rfl, _, q5, ⟨_, _, a6, r6, rfl, _, q6, ⟨_, _, a7, r7, rfl, _, q7, ⟨_, _, a8, r8, rfl, _, q8, rfl, h8⟩, h7⟩, h6⟩, h5⟩, h4⟩, h3⟩, h2⟩, h1⟩ := h
  obtain ⟨kd, rfl⟩ := cellQ_int q1
  obtain ⟨bo, rfl⟩ := cellQ_bool q2
  obtain ⟨d0, hd0, _, _, d1, d2, rfl, _, p1, ⟨_, _, d3, d4, rfl, _, ⟨dg, rfl, _, hdg⟩, ⟨_, _, d5, d6, rfl, _, p3, rfl, g3⟩, g2⟩, g1⟩ := q3
  obtain ⟨ng, rfl⟩ := cellQ_bool p1
  obtain ⟨ex, rfl⟩ := cellQ_int p3
  obtain ⟨_, _, _, _, _, _, rfl, _, t1, ⟨_, _, _, _, rfl, _, t2, ⟨_, _, _, _, rfl, _, t3, ⟨_, _, _, _, rfl, _, t4, rfl, _⟩, _⟩, _⟩, _⟩ := q4
  obtain ⟨tk, rfl⟩ := cellQ_int t1
  obtain ⟨td, rfl⟩ := cellQ_int t2
  obtain ⟨tn, rfl⟩ := cellQ_int t3
  obtain ⟨tz, rfl⟩ := cellQ_int t4
  obtain ⟨tx, rfl, _, htx⟩ := q5
  obtain ⟨ub, rfl, q6⟩ := q6
  obtain ⟨ul, rfl, q7⟩ := q7
  obtain ⟨uf, rfl, q8⟩ := q8
  obtain ⟨bs, hb, hbl⟩ := q6.bytes
  obtain ⟨l, xl, hl, hlv, hlz⟩ := q7.vals
  obtain ⟨f, xf, hf, hfv, hfz⟩ := q8.flds
  refine ⟨.mk ⟨kd, bo, ng, dg, ex, tk, td, tn, tz, tx, bs⟩ l f, ?_, by rw [szs]; simp only; omega⟩
  unfold VlR
  exact ⟨ub, ul, uf, xl, xf, by simp, hb, hl, hlv, hf, hfv⟩
/-- A value that came in, not too great. -/
def IsVal (t : TV) : Prop := ∃ v cs, t = .agg cs ∧ VlR St.zero v cs ∧ v.sz ≤ 1048576
section
variable {H : Type} {enc : TypeId × Value → H} {P : Program} {w : World} {base b0 : Nat} {held : Bool} {bk : DataW H → Nat}
theorem open_val {t : TypeId} {fs : Array Field} {v : Value} {d : DataW H} {p : List MemPlace} (ht : P.underlying t = some (.struct fs)) (hop : ∀ n, OpQ bk enc P w base held n 13 valQ t)
    (hval : Value.okWide P w .any b0 t v) (h : DataW.Trod enc P w base (fun _ => true) held t v d p) (hk : bk d ≤ 1048576) : ∃ tv, Rel (Ghost.start w) w tv v ∧ IsVal tv := by
  simp only [Value.okWide, ht] at hval
  obtain ⟨vs, rfl, _, _⟩ := hval
  obtain ⟨n, hn⟩ := h
  obtain ⟨cs, hr, _, vl, hv, hz⟩ := (hop n).2 _ _ hn
  have := Rel.agg cs vs.toList hr.1 hr.2
  rw [Array.toArray_toList] at this
  exact ⟨_, this, vl, cs, rfl, hv, Nat.le_trans hz hk⟩
end
end Go.TVF
end

section
namespace Go.TVF
open Go Go.Proofs
set_option linter.unusedVariables false
set_option linter.unusedSimpArgs false
theorem VsR.all_one {st : St} : ∀ {l : List Vl} {xs : List TV}, VsR st l xs → List.all xs oneT = true
  | [], xs, h => by unfold VsR at h; subst h; rfl
  | .mk s l f :: r, xs, h => by
    unfold VsR at h
    obtain ⟨a, b, rfl, h1, h2⟩ := h
    obtain ⟨ub, ul, uf, xl, xf, rfl, q1, q2, _, q4, _⟩ := h1.cells
    rw [List.all_append, VsR.all_one h2, Bool.and_true]
    exact one13 q1.one q2.one q4.one
theorem VsR.app {st : St} : ∀ {l m : List Vl} {xs ys : List TV}, VsR st l xs → VsR st m ys → VsR st (l ++ m) (xs ++ ys)
  | [], m, xs, ys, h, hm => by unfold VsR at h; subst h; exact hm
  | v :: r, m, xs, ys, h, hm => by
    unfold VsR at h
    obtain ⟨a, b, rfl, h1, h2⟩ := h
    show VsR st (v :: (r ++ m)) _
    unfold VsR
    exact ⟨a, b ++ ys, by simp, h1, VsR.app h2 hm⟩
end Go.TVF
end

section
namespace Go.TVF
open Go Go.Proofs
set_option linter.unusedVariables false
set_option linter.unusedSimpArgs false
theorem SlR.ldb {st : St} {u : TV} {l : List UInt8} {k : Nat} (h : SlR st 1 u l.length (bytesT l)) (hk : k < l.length) : ldCell st [] (.t (ixT 1 u k)) 0 = some (byteT l[k]) := by
  have := h.ldc (by rw [length_bytesT]; omega) hk
  rw [List.drop_eq_getElem_cons (by rw [length_bytesT]; omega)] at this
  simp only [ldCells, List.take_succ_cons, List.take_zero] at this
  cases hq : ldCell st [] (.t (ixT 1 u k)) 0 with
  | none => rw [hq] at this; cases this
  | some y =>
    rw [hq] at this
    simp only [Option.map_some, Option.some.injEq, List.cons.injEq, and_true] at this
    rw [this]; simp [bytesT]
def zs (n : Nat) : List UInt8 := List.replicate n 48
theorem repeatL_zs : ∀ n, Lib.repeatL [48] n = zs n
  | 0 => rfl
  | n + 1 => by
    show [48] ++ Lib.repeatL [48] n = _
    rw [repeatL_zs n]; rfl
theorem zs_len (n : Nat) : (zs n).length = n := by simp [zs]
theorem repeat_ok {n : Nat} (hn : n ≤ 2000000) {st : St} {K : List UInt8 → St → Prop} (hk : K (zs n) st) : CallT PR fn_strings_Repeat [.str [48], .int .i64 (n : Int)] [.one .str] st K := by
  refine tcalls_enter (fun _ _ => by kernel_rfl) fun g w vargs s hr => ?_
  obtain ⟨v, u, rfl, hv, hu⟩ := relL_two hr
  rw [rel_str_inv hv, rel_int_inv hu]
  refine Calls.mono (Tryz.strings_Repeat ⟨#[48]⟩ n w (by omega) (by simp [ByteArray.size]; omega)) ?_
  rintro e w' ⟨rfl, hb⟩
  obtain ⟨s', e'⟩ := s.world hb.size (s.below.trans (hb.mono s.fits)) hb.block
  refine ⟨_, rfl, .str (zs n), st, g, hk, s', ?_, e'⟩
  have : Lib.repeatL (ByteArray.mk #[48]).data.toList n = zs n := repeatL_zs n
  rw [this]; exact Rel.str _
theorem SlR.of_box {st : St} {b n : Nat} {xs : List TV} (hb : b < st.nb) (h : st.box b = .cells xs) (hl : xs.length = n) : SlR st 1 (.ms 1 b 0 n n) n xs :=
  .inr ⟨b, 0, n, xs, rfl, hb, h, by omega, Nat.le_refl _, by simp [← hl]⟩
end Go.TVF
end

section
namespace Go.TVF
open Go Go.Proofs
set_option linter.unusedVariables false
set_option linter.unusedSimpArgs false
theorem Valids.mem : ∀ {l : List Vl} {v : Vl}, Valids l → v ∈ l → Valid v
  | [], v, _, h => by cases h
  | a :: r, v, hv, h => by
    unfold Valids at hv
    rcases List.mem_cons.1 h with rfl | h
    · exact hv.1
    · exact Valids.mem hv.2 h
theorem Validf.mem : ∀ {l : List Fd} {d : Fd}, Validf l → d ∈ l → Valid d.val
  | [], v, _, h => by cases h
  | a :: r, v, hv, h => by
    unfold Validf at hv
    rcases List.mem_cons.1 h with rfl | h
    · cases v; have := hv.1; unfold ValidD at this; exact this
    · exact Validf.mem hv.2 h
theorem sort_mem {f : List Fd} {d : Fd} (h : d ∈ sortFd f) : d ∈ f := (sortFd_perm f).mem_iff.1 h
theorem FdR.val {st : St} {d : Fd} {cs : List TV} (h : FdR st d cs) : ∃ c, cs = .str d.key :: c ∧ VlR st d.val c := by
  cases d; unfold FdR at h; exact h
end Go.TVF
end

section
namespace Go.TVF
open Go Go.Proofs
set_option linter.unusedVariables false
set_option linter.unusedSimpArgs false
def flds (ex : Bool) (f : List Fd) : List Fd := if ex then f else sortFd f
end Go.TVF
end

section
namespace Go.TVF
open Go Go.Proofs
set_option linter.unusedVariables false
set_option linter.unusedSimpArgs false
theorem appK_ownK {T b sz bytes : Nat} {st0 st : St} {v : TV} {n k : Nat} {xs ys : List TV} {K : TV → St → Prop} (e : StExt st0 st) (hb : b = st0.nt) (h : Own b sz st v n xs) (hby : (n + k) * bytes ≤ 140737488355328) (hys : k = 0 → ys = [])
    (hK : ∀ v' st', StExt st0 st' → Keeps st st' → Own b sz st' v' (n + k) (xs ++ ys) → K v' st') : appK T sz bytes v k ys st K := by
  subst hb
  have kk : ∀ st' : St, st'.nb = st.nb → st'.box = st.box → Keeps st st' := fun st' a b => ⟨Nat.le_of_eq a.symm, fun i _ => by rw [b]⟩
  rcases h with ⟨rfl, rfl, rfl⟩ | ⟨tip, rfl, ht⟩
  · simp only [appK]
    cases k with
    | zero => rw [hys rfl] at hK; exact hK _ _ e (kk _ rfl rfl) (.nil _ _ _)
    | succ m =>
      simp only [need_iff]
      refine ⟨by simpa using hby, hK _ _ (e.fresh _) (kk _ rfl rfl) ?_⟩
      simp only [List.nil_append, Nat.zero_add]
      exact Own.fresh _ _ e.nt
  · simp only [appK, Nat.beq_refl]
    refine ⟨hby, ?_⟩
    rcases ht with rfl | ⟨id, rfl, h1, h2, h3⟩
    · cases k with
      | zero => rw [hys rfl] at hK; simp only [List.append_nil] at hK; exact hK _ _ e (kk _ rfl rfl) (Own.full _ _ _ _ _)
      | succ m => exact hK _ _ (e.fresh _) (kk _ rfl rfl) (Own.fresh _ _ e.nt)
    · exact ⟨h3, hK _ _ ((e.retire h1).fresh _) (kk _ rfl rfl) (Own.fresh (st := st.retire id) _ _ e.nt)⟩
theorem FsR.snoc {st : St} {d : Fd} {cd : List TV} {l : List Fd} {xs : List TV} (h : FsR st l xs) (hd : FdR st d cd) : FsR st (l ++ [d]) (xs ++ cd) := by
  obtain ⟨cks, rfl, hall⟩ := h.chunks
  have := FsR.of_chunks (hall.snoc hd)
  simpa using this
theorem sortVs_take {l : List Vl} {k : Nat} {v : Vl} (h : l[k]? = some v) : sortVs (l.take (k + 1)) = sortVs (l.take k) ++ [sortV v] := by
  rw [take_snoc h, sortVs_map, sortVs_map, List.map_append]; rfl
/-- Sorted. -/
theorem rSorted_ok : ∀ (N : Nat) (v : Vl), v.sz ≤ N → N ≤ 2000000 → ∀ {st0 st : St} {cs : List TV} {K : Int → Bool → Bool → List UInt8 → Int → Int → Int → Int → Int → List UInt8 → TV → TV → TV → St → Prop}, VlR st0 v cs → Keeps st0 st →
    (∀ ub ul uf st', VlR st' (sortV v) (cellsV v.sc ub ul uf) → oneT ub = true → oneT ul = true → oneT uf = true → StExt st st' → K v.sc.kind v.sc.b v.sc.neg v.sc.dg v.sc.ex v.sc.tk v.sc.td v.sc.tn v.sc.tz v.sc.text ub ul uf st') →
    CallT PR fn_datakitref07_Sorted [.agg cs] [.agg [.int .i64, .bool, .bool, .str, .int .i64, .int .i64, .int .i64, .int .i64, .int .i64, .str, .tv, .tv, .tv]] st K := by
  intro N
  induction N with
  | zero => intro v h; have := v.sz_pos; omega
  | succ N ih =>
  intro v hN hN2 st0 st cs K h hke hk
  cases v with
  | mk s l f =>
  have hsz := szs s l f
  have hll := vsSz_len l
  have hfl := fsSz_len f
  obtain ⟨ub, ul, uf, xl, xf, rfl, h1, h2, h3, h4, h5⟩ := h.cells
  refine vc_datakitref07_Sorted _ _ _ _ _ _ _ _ _ _ _ _ _ st K (need_intro (one13 h1.one h2.one h4.one) ⟨fun i k1 b1 b2 s1 k2 k3 k4 k5 k6 s2 v1 v2 v3 k7 b3 b4 s3 k8 k9 k10 k11 k12 s4 v4 v5 v6 k13 b5 b6 s5 k14 k15 k16 k17 k18 s6 v7 v8 v9 st' =>
      ul = v2 ∧ uf = v3 ∧ s.kind = k13 ∧ s.b = b5 ∧ s.neg = b6 ∧ s.dg = s5 ∧ s.ex = k14 ∧ s.tk = k15 ∧ s.td = k16 ∧ s.tn = k17 ∧ s.tz = k18 ∧ s.text = s6 ∧ ub = v7 ∧ TV.nilSlice = v9 ∧ ∃ (k : Nat) (xs : List TV), i = k ∧ k ≤ l.length ∧ StExt st st' ∧ Own st.nt 13 st' v8 k xs ∧ VsR st' (sortVs (l.take k)) xs,
    fun i _ _ _ _ _ _ _ _ _ _ _ _ _ _ _ _ _ _ _ _ _ _ _ _ _ _ _ _ _ _ _ _ _ _ _ _ _ _ _ _ => (l.length - i).toNat,
    ⟨rfl, rfl, rfl, rfl, rfl, rfl, rfl, rfl, rfl, rfl, rfl, rfl, rfl, rfl, 0, [], rfl, Nat.zero_le _, StExt.refl _, Own.nil _ _ _, by simp only [List.take_zero]; unfold sortVs VsR; rfl⟩, ?_⟩)
  rintro _ k1 b1 b2 s1 k2 k3 k4 k5 k6 s2 v1 _ _ k7 b3 b4 s3 k8 k9 k10 k11 k12 s4 v4 v5 v6 _ _ _ _ _ _ _ _ _ _ _ v8 _ st1 ⟨rfl, rfl, rfl, rfl, rfl, rfl, rfl, rfl, rfl, rfl, rfl, rfl, rfl, rfl, k, xs, rfl, hkl, e1, ho, hv⟩
  have hke1 := hke.trans e1.keeps
  refine need_intro h2.isSl (BIf_intro (fun g => ?_) fun g => ?_)
  · rw [h2.lenS] at g
    refine el13 hke1 h2 h3 rfl (by omega) fun s1 l1 f1 ub1 ul1 uf1 gw hw on => ?_
    have hwsz := vsSz_get gw
    refine ih (.mk s1 l1 f1) (by omega) (by omega) hw hke1 fun wb wl wf st2 hw2 o1 o2 o3 e2 => need_intro (one13 o1 o2 o3) ?_
    refine appK_ownK (e1.trans e2) rfl (ho.ext e2) (by omega) (fun h => by cases h) fun v9 st3 e3 e3' ho3 => need_intro (by simp [ho3.rd.one]) ?_
    rw [wrap64 _ (by omega) (by omega)]
    refine ⟨⟨rfl, rfl, rfl, rfl, rfl, rfl, rfl, rfl, rfl, rfl, rfl, rfl, rfl, rfl, k + 1, _, by omega, by omega, e3, ho3, ?_⟩, by dsimp only; omega⟩
    rw [sortVs_take gw]
    exact VsR.snoc (VsR.keep (e2.keeps.trans e3') hv) (VlR.keep e3' hw2)
  · rw [h2.lenS] at g
    have hkk : k = l.length := by omega
    subst hkk
    rw [List.take_length] at hv
    have elf := (sortFd_perm f).length_eq
    refine fields_ok (StExt.refl st1) (h4.keep hke1) (FsR.keep hke1 h5) (by omega) fun u st4 cks e4 hof hR => ?_
    have hsl : SlR st1 14 u (sortFd f).length cks.flatten := .of_rd hof.rd
    have hfr := FsR.of_chunks hR
    refine ⟨fun i u1 k7 b3 b4 s3 k8 k9 k10 k11 k12 s4 v4 v5 v6 k13 b5 b6 s5 k14 k15 k16 k17 k18 s6 v7 v1 v2 st' =>
      u = u1 ∧ s.kind = k13 ∧ s.b = b5 ∧ s.neg = b6 ∧ s.dg = s5 ∧ s.ex = k14 ∧ s.tk = k15 ∧ s.td = k16 ∧ s.tn = k17 ∧ s.tz = k18 ∧ s.text = s6 ∧ ub = v7 ∧ v8 = v1 ∧ ∃ (k : Nat) (ys : List TV), i = k ∧ k ≤ (sortFd f).length ∧ StExt st1 st' ∧ Own st1.nt 14 st' v2 k ys ∧ FsR st' (((sortFd f).take k).map sortD) ys,
      fun i _ _ _ _ _ _ _ _ _ _ _ _ _ _ _ _ _ _ _ _ _ _ _ _ _ _ _ _ => ((sortFd f).length - i).toNat,
      ⟨rfl, rfl, rfl, rfl, rfl, rfl, rfl, rfl, rfl, rfl, rfl, rfl, rfl, 0, [], rfl, Nat.zero_le _, e4, Own.nil _ _ _, by simp only [List.take_zero, List.map_nil]; unfold FsR; rfl⟩, ?_⟩
    rintro _ _ k7 b3 b4 s3 k8 k9 k10 k11 k12 s4 v4 v5 v6 _ _ _ _ _ _ _ _ _ _ _ _ w8 st5 ⟨rfl, rfl, rfl, rfl, rfl, rfl, rfl, rfl, rfl, rfl, rfl, rfl, rfl, q, ys, rfl, hql, e5, ho5, hv5⟩
    refine need_intro hsl.isSl (BIf_intro (fun g2 => ?_) fun g2 => ?_)
    · rw [hsl.lenS] at g2
      have gd : (sortFd f)[q]? = some (sortFd f)[q] := List.getElem?_eq_getElem (by omega)
      generalize (sortFd f)[q] = d at gd
      refine key14 e5.keeps hsl hfr rfl gd ?_
      refine val14 e5.keeps hsl hfr rfl (by omega) fun key s1 l1 f1 ub1 ul1 uf1 gw hw on => ?_
      rw [gd] at gw
      have hde := Option.some.inj gw
      subst hde
      have hsa := fsSz_mem (sort_mem (mem_of_get gd))
      have hzd := szd key (.mk s1 l1 f1)
      refine ih (.mk s1 l1 f1) (by omega) (by omega) hw e5.keeps fun wb wl wf st6 hw2 o1 o2 o3 e6 => ⟨keyLd (e5.trans e6).keeps hsl hfr gd, need_intro (one14 o1 o2 o3) ?_⟩
      refine appK_ownK (e5.trans e6) rfl (ho5.ext e6) (by omega) (fun h => by cases h) fun v9 st7 e7 e7' ho7 => need_intro (by simp [ho7.rd.one]) ?_
      rw [wrap64 _ (by omega) (by omega)]
      refine ⟨⟨rfl, rfl, rfl, rfl, rfl, rfl, rfl, rfl, rfl, rfl, rfl, rfl, rfl, q + 1, _, by omega, by omega, e7, ho7, ?_⟩, by dsimp only; omega⟩
      rw [take_snoc gd, List.map_append]
      refine FsR.snoc (FsR.keep (e6.keeps.trans e7') hv5) ?_
      show FdR _ (sortD (.mk key (.mk s1 l1 f1))) _
      unfold sortD FdR
      exact ⟨_, rfl, VlR.keep e7' hw2⟩
    · rw [hsl.lenS] at g2
      have hqq : q = (sortFd f).length := by omega
      subst hqq
      rw [List.take_length] at hv5
      refine need_intro (one13 h1.one ho.rd.one ho5.rd.one) (hk ub v8 w8 st5 ?_ h1.one ho.rd.one ho5.rd.one (e1.trans e5))
      unfold sortV VlR
      rw [sortFs_map, sortFd_map sortD_key]
      refine ⟨ub, v8, w8, xs, ys, rfl, h1.keep (hke1.trans e5.keeps), ?_, VsR.keep e5.keeps hv, ?_, hv5⟩
      · rw [sortVs_map, List.length_map]; exact .of_rd ho.rd
      · rw [List.length_map]; exact .of_rd ho5.rd
theorem rEqual_ok {v w : Vl} (hN : v.sz ≤ 2000000) (hW : w.sz ≤ 2000000) (hsv : (sortV v).sz ≤ 2000000) (hsw : (sortV w).sz ≤ 2000000) {st0 st : St} {cs ds : List TV} {K : Bool → St → Prop} (h : VlR st0 v cs) (h' : VlR st0 w ds) (hke : Keeps st0 st)
    (hk : ∀ r st', StExt st st' → (r = true ↔ sortV v = sortV w) → K r st') : CallT PR fn_datakitref07_Equal [.agg cs, .agg ds] [.one .bool] st K := by
  have ha := h
  have hb := h'
  cases v; cases w
  obtain ⟨_, _, _, _, _, rfl, _⟩ := h.cells
  obtain ⟨_, _, _, _, _, rfl, _⟩ := h'.cells
  refine vc_datakitref07_Equal _ _ _ _ _ _ _ _ _ _ _ _ _ _ _ _ _ _ _ _ _ _ _ _ _ _ st K (rSorted_ok 2000000 _ hN (by omega) ha hke fun wb wl wf st1 hw1 o1 o2 o3 e1 => rSorted_ok 2000000 _ hW (by omega) hb (hke.trans e1.keeps) fun xb xl xf st2 hw2 p1 p2 p3 e2 => ?_)
  exact Same_ok 2000000 _ _ hsv hsw (by omega) (VlR.keep e2.keeps hw1) hw2 (Keeps.refl _) fun r hr => hk r st2 (e1.trans e2) hr
end Go.TVF
end

section
namespace Go.TVF
open Go Go.Proofs
set_option linter.unusedVariables false
set_option linter.unusedSimpArgs false
/-- Reads from bytes at a place: a value and the place behind it, or an error. -/
abbrev Ps (α : Type) := List UInt8 → Nat → Except Nat (α × Nat)
def Ps.ok {α : Type} (x : α) : Ps α := fun _ a => .ok (x, a)
def Ps.bad {α : Type} (e : Nat) : Ps α := fun _ _ => .error e
def Ps.bnd {α β : Type} (f : Ps α) (g : α → Ps β) : Ps β := fun B a => match f B a with
  | .error e => .error e
  | .ok (x, b) => g x B b
def oneP : Ps Nat := fun B a => match B[a]? with
  | none => .error 4
  | some c => .ok (c.toNat, a + 1)
def mostP (lim : Nat) : Ps Nat := oneP.bnd fun x => if lim < x then .bad 3 else .ok x
def natP : Nat → Nat → Nat → Ps Nat
  | 0, _, _ => .bad 3
  | k + 1, i, n => oneP.bnd fun x => if x < 128 then (if x = 0 ∧ 0 < i then .bad 3 else .ok (n + x * 128 ^ i)) else natP k (i + 1) (n + (x - 128) * 128 ^ i)
def natF : Ps Nat := natP 9 0 0
def takeP (n : Nat) : Ps (List UInt8) := fun B a => if B.length - a < n then .error 4 else .ok ((B.drop a).take n, a + n)
def strP : Ps (List UInt8) := natF.bnd takeP
def zagI (n : Nat) : Int := if n % 2 = 1 then -(n / 2 : Nat) - 1 else (n / 2 : Nat)
def intP : Ps Int := natF.bnd fun n => .ok (zagI n)
def numP : Ps (Bool × List UInt8 × Int) := (mostP 2).bnd fun s => if s = 0 then .ok (false, [], 0) else intP.bnd fun x => strP.bnd fun dg => .ok (decide (s = 2), dg, x)
def repP {α : Type} (f : Ps α) : Nat → Ps (List α)
  | 0 => .ok []
  | n + 1 => f.bnd fun x => (repP f n).bnd fun l => .ok (x :: l)
def scK (k : Nat) : Sc := ⟨(k : Nat), false, false, [], 0, 0, 0, 0, 0, [], []⟩
/-- A value, so many levels being allowed. -/
def rdV : Nat → Ps Vl
  | 0 => .bad 9
  | d + 1 => (mostP 7).bnd fun k =>
    if k = 1 then (mostP 1).bnd fun b => .ok (.mk { scK 1 with b := decide (b = 1) } [] [])
    else if k = 2 then numP.bnd fun x => .ok (.mk { scK 2 with neg := x.1, dg := x.2.1, ex := x.2.2 } [] [])
    else if k = 3 then oneP.bnd fun a => natF.bnd fun b => natF.bnd fun c => intP.bnd fun z => .ok (.mk { scK 3 with tk := a, td := b, tn := c, tz := z } [] [])
    else if k = 4 then strP.bnd fun s => .ok (.mk { scK 4 with text := s } [] [])
    else if k = 5 then strP.bnd fun s => .ok (.mk { scK 5 with bytes := s } [] [])
    else if k = 6 then natF.bnd fun n => (repP (rdV d) n).bnd fun l => .ok (.mk (scK 6) l [])
    else if k = 7 then natF.bnd fun n => (repP (strP.bnd fun key => (rdV d).bnd fun v => .ok (Fd.mk key v)) n).bnd fun f => .ok (.mk (scK 7) [] f)
    else .ok (.mk (scK k) [] [])
/-- The reader is at a place, or has met an error. -/
def RS (r : Nat) (u : TV) (B : List UInt8) (st : St) : Except Nat Nat → Prop
  | .ok a => r < st.nb ∧ a ≤ B.length ∧ st.box r = .cells [u, .int .i64 (a : Nat), .int .i64 0]
  | .error e => r < st.nb ∧ e ≠ 0 ∧ e < 100 ∧ ∃ a : Nat, st.box r = .cells [u, .int .i64 (a : Nat), .int .i64 (e : Nat)]
/-- What reading comes to. -/
def After {α : Type} (S : Except Nat Nat) (f : Nat → Except Nat (α × Nat)) (Q : α → Prop) (T : Except Nat Nat) : Prop := match S with
  | .error e => T = .error e
  | .ok a => match f a with
    | .error e => T = .error e
    | .ok (y, b) => Q y ∧ T = .ok b
theorem RS.lt {r : Nat} {u : TV} {B : List UInt8} {st : St} {S : Except Nat Nat} (h : RS r u B st S) : r < st.nb := by cases S <;> exact h.1
/-- The error of a state, 0 if none. -/
def errS : Except Nat Nat → Nat
  | .ok _ => 0
  | .error e => e
theorem RS.err {r : Nat} {u : TV} {B : List UInt8} {st : St} {S : Except Nat Nat} (h : RS r u B st S) : ldCell st [] (.t (.box r 2)) 0 = some (.int .i64 (errS S : Nat)) := by
  cases S with
  | ok a => simp [ldCell, h.2.2, errS]
  | error e => obtain ⟨_, _, _, a, hb⟩ := h; simp [ldCell, hb, errS]
theorem RS.src {r : Nat} {u : TV} {B : List UInt8} {st : St} {S : Except Nat Nat} (h : RS r u B st S) : ldCell st [] (.t (.box r 0)) 0 = some u := by
  cases S with
  | ok a => simp [ldCell, h.2.2]
  | error e => obtain ⟨_, _, _, a, hb⟩ := h; simp [ldCell, hb]
theorem RS.at {r a : Nat} {u : TV} {B : List UInt8} {st : St} (h : RS r u B st (.ok a)) : ldCell st [] (.t (.box r 1)) 0 = some (.int .i64 (a : Nat)) := by simp [ldCell, h.2.2]
/-- After an error, or after this one. -/
def Erred (S : Except Nat Nat) (e : Nat) (T : Except Nat Nat) : Prop := match S with
  | .error e' => T = .error e'
  | .ok _ => T = .error e
theorem After.bnd {α β : Type} {S T1 T : Except Nat Nat} {f : Ps α} {g : α → Ps β} {B : List UInt8} {x : α} {Q : β → Prop} (h : After S (f B) (x = ·) T1) (k : After T1 (g x B) Q T) : After S (f.bnd g B) Q T := by
  cases S with
  | error e => simp only [After] at h; subst h; exact k
  | ok a =>
    simp only [After, Ps.bnd] at h ⊢
    cases hf : f B a with
    | error e => rw [hf] at h; simp only at h; subst h; exact k
    | ok p =>
      obtain ⟨y, b⟩ := p
      rw [hf] at h
      simp only at h
      obtain ⟨rfl, rfl⟩ := h
      exact k
theorem After.ok {α : Type} {S : Except Nat Nat} {x : α} {B : List UInt8} {Q : α → Prop} (h : Q x) : After S (Ps.ok x B) Q S := by
  cases S with
  | error e => rfl
  | ok a => exact ⟨h, rfl⟩
theorem After.bad {α : Type} {S T : Except Nat Nat} {e : Nat} {B : List UInt8} {Q : α → Prop} (h : Erred S e T) : After S (Ps.bad (α := α) e B) Q T := by
  cases S with
  | error e => exact h
  | ok a => exact h
/-- What reading gave, or anything after an error. -/
theorem After.mono {α : Type} {S T : Except Nat Nat} {f : Nat → Except Nat (α × Nat)} {Q Q' : α → Prop} (h : After S f Q T) (k : ∀ x, Q x → Q' x) : After S f Q' T := by
  cases S with
  | error e => exact h
  | ok a =>
    simp only [After] at h ⊢
    cases hf : f a with
    | error e => rw [hf] at h; exact h
    | ok p => obtain ⟨y, b⟩ := p; rw [hf] at h; exact ⟨k _ h.1, h.2⟩
/-- After an error what was read does not matter. -/
theorem After.err {α : Type} {S : Except Nat Nat} {e : Nat} {f : Nat → Except Nat (α × Nat)} {Q Q' : α → Prop} (h : After S f Q (.error e)) : After S f Q' (.error e) := by
  cases S with
  | error e' => exact h
  | ok a =>
    simp only [After] at h ⊢
    cases hf : f a with
    | error e => rw [hf] at h; exact h
    | ok p => obtain ⟨y, b⟩ := p; rw [hf] at h; exact absurd h.2 (by simp)
end Go.TVF
end

section
namespace Go.TVF
open Go Go.Proofs
set_option linter.unusedVariables false
set_option linter.unusedSimpArgs false
theorem bnd_ok {α β : Type} {f : Ps α} {g : α → Ps β} {B : List UInt8} {a c : Nat} {y : β} : (f.bnd g) B a = .ok (y, c) ↔ ∃ x b, f B a = .ok (x, b) ∧ g x B b = .ok (y, c) := by
  unfold Ps.bnd
  cases hf : f B a with
  | error e => simp
  | ok p =>
    obtain ⟨x, b⟩ := p
    simp only [Except.ok.injEq, Prod.mk.injEq, reduceCtorEq, false_or]
    exact ⟨fun h => ⟨x, b, ⟨rfl, rfl⟩, h⟩, fun ⟨_, _, ⟨h1, h2⟩, h⟩ => by subst h1 h2; exact h⟩
theorem bnd_err {α β : Type} {f : Ps α} {g : α → Ps β} {B : List UInt8} {a e : Nat} : (f.bnd g) B a = .error e ↔ f B a = .error e ∨ ∃ x b, f B a = .ok (x, b) ∧ g x B b = .error e := by
  unfold Ps.bnd
  cases hf : f B a with
  | error e => simp
  | ok p =>
    obtain ⟨x, b⟩ := p
    simp only [Except.ok.injEq, Prod.mk.injEq, reduceCtorEq, false_or]
    exact ⟨fun h => ⟨x, b, ⟨rfl, rfl⟩, h⟩, fun ⟨_, _, ⟨h1, h2⟩, h⟩ => by subst h1 h2; exact h⟩
theorem one_inv {B : List UInt8} {a b x : Nat} (h : oneP B a = .ok (x, b)) : b = a + 1 ∧ a < B.length := by
  unfold oneP at h
  cases hb : B[a]? with
  | none => rw [hb] at h; cases h
  | some c =>
    rw [hb] at h
    simp only [Except.ok.injEq, Prod.mk.injEq] at h
    exact ⟨h.2.symm, (List.getElem?_eq_some_iff.1 hb).1⟩
theorem okP_inv {α : Type} {x y : α} {B : List UInt8} {a b : Nat} (h : Ps.ok x B a = .ok (y, b)) : x = y ∧ a = b := by
  simpa [Ps.ok] using h
theorem badP_inv {α : Type} {y : α} {e : Nat} {B : List UInt8} {a b : Nat} (h : (Ps.bad e : Ps α) B a = .ok (y, b)) : False := by simp [Ps.bad] at h
theorem nat_inv : ∀ (k i n : Nat) {B : List UInt8} {a b x : Nat}, natP k i n B a = .ok (x, b) → a ≤ b ∧ b ≤ B.length
  | 0, i, n, B, a, b, x, h => (badP_inv h).elim
  | k + 1, i, n, B, a, b, x, h => by
    obtain ⟨y, c, h1, h2⟩ := bnd_ok.1 h
    have := one_inv h1
    split at h2
    · split at h2
      · exact (badP_inv h2).elim
      · obtain ⟨_, rfl⟩ := okP_inv h2; omega
    · have := nat_inv k _ _ h2; omega
theorem int_inv {B : List UInt8} {a b : Nat} {z : Int} (h : intP B a = .ok (z, b)) : a ≤ b := by
  obtain ⟨n, c, h1, h2⟩ := bnd_ok.1 h
  obtain ⟨_, rfl⟩ := okP_inv h2
  exact (nat_inv _ _ _ h1).1
theorem StX.fresh {S : Nat → Prop} {a b : St} (h : StX S a b) (T : Option Nat) : StX S a (b.fresh T) :=
  h.trans ⟨Nat.le_refl _, fun _ _ _ => rfl, Nat.le_succ _, fun i hi => by simp only [St.fresh]; rw [if_neg (by omega)], fun i hi => by simp only [St.fresh]; rw [if_neg (by omega)], fun _ _ => rfl⟩
theorem StX.retire {S : Nat → Prop} {a b : St} (h : StX S a b) {id : Nat} (hid : a.nt ≤ id) : StX S a (b.retire id) :=
  ⟨h.nb, h.box, h.nt, fun i hi => by simp only [St.retire]; rw [if_neg (by omega)]; exact h.live i hi, h.ty, h.bt⟩
theorem RS.same {r : Nat} {u : TV} {B : List UInt8} {st st' : St} {S : Except Nat Nat} (h : RS r u B st S) (hb : st'.box = st.box) (hn : st'.nb = st.nb) : RS r u B st' S := by
  cases S <;> simp only [RS, hb, hn] at * <;> exact h
/-- What came of reading, for what is read behind it. -/
theorem After.elim {α : Type} {S T : Except Nat Nat} {f : Ps α} {B : List UInt8} {Q : α → Prop} (h : After S (f B) Q T) :
    (∃ e, T = .error e ∧ ∀ (β : Type) (g : α → Ps β) (Q' : β → Prop), After S (f.bnd g B) Q' (.error e)) ∨ (∃ x a b, S = .ok a ∧ T = .ok b ∧ f B a = .ok (x, b) ∧ Q x ∧ ∀ (β : Type) (g : α → Ps β) (Q' : β → Prop) T', After (.ok b) (g x B) Q' T' → After S (f.bnd g B) Q' T') := by
  cases S with
  | error e => simp only [After] at h; subst h; exact .inl ⟨e, rfl, fun _ _ _ => rfl⟩
  | ok a =>
    simp only [After] at h
    cases hf : f B a with
    | error e =>
      rw [hf] at h; simp only at h; subst h
      exact .inl ⟨e, rfl, fun β g Q' => by simp [After, Ps.bnd, hf]⟩
    | ok p =>
      obtain ⟨x, b⟩ := p
      rw [hf] at h
      obtain ⟨hQ, rfl⟩ := h
      exact .inr ⟨x, a, b, rfl, rfl, hf, hQ, fun β g Q' T' k => by simpa [After, Ps.bnd, hf] using k⟩
end Go.TVF
end

section
namespace Go.TVF
open Go Go.Proofs
set_option linter.unusedVariables false
set_option linter.unusedSimpArgs false
/-- What the loop over parts has come to. -/
def LoopS {α : Type} (f : Ps α) (B : List UInt8) (n : Nat) (T0 : Except Nat Nat) (k : Nat) (S' : Except Nat Nat) (R : List α → Prop) : Prop := match S' with
  | .error e => ∀ Q : List α → Prop, After T0 (repP f n B) Q (.error e)
  | .ok a => k ≤ a ∧ ∃ vs : List α, vs.length = k ∧ R vs ∧ ∀ (Q : List α → Prop) T, After (.ok a) (repP f (n - k) B) (fun l => Q (vs ++ l)) T → After T0 (repP f n B) Q T
theorem LoopS.err {α : Type} {f : Ps α} {B : List UInt8} {n k e : Nat} {T0 : Except Nat Nat} {a : Nat} {R R' : List α → Prop} {Q0 : α → Prop} (h : LoopS f B n T0 k (.ok a) R) (hk : k < n) (h1 : After (.ok a) (f B) Q0 (.error e)) : LoopS f B n T0 (k + 1) (.error e) R' := by
  obtain ⟨_, vs, _, _, tr⟩ := h
  intro Q
  refine tr Q _ ?_
  rw [show n - k = (n - (k + 1)) + 1 by omega]
  rcases h1.elim with ⟨e', he, tr2⟩ | ⟨_, _, _, _, he, _⟩
  · cases he; exact tr2 _ _ _
  · cases he
theorem LoopS.step {α : Type} {f : Ps α} {B : List UInt8} {n k b : Nat} {T0 : Except Nat Nat} {a : Nat} {R R' : List α → Prop} {Q0 : α → Prop} (h : LoopS f B n T0 k (.ok a) R) (hk : k < n) (h1 : After (.ok a) (f B) Q0 (.ok b)) (hadv : ∀ x, f B a = .ok (x, b) → a < b)
    (hR : ∀ vs x, vs.length = k → R vs → Q0 x → R' (vs ++ [x])) : LoopS f B n T0 (k + 1) (.ok b) R' := by
  obtain ⟨hka, vs, hvl, hv, tr⟩ := h
  rcases h1.elim with ⟨e', he, _⟩ | ⟨x, a', b', ha, hb, hf, hQ, tr2⟩
  · cases he
  · cases ha; cases hb
    have := hadv x hf
    refine ⟨by omega, vs ++ [x], by simp [hvl], hR vs x hvl hv hQ, fun Q T h => tr Q T ?_⟩
    rw [show n - k = (n - (k + 1)) + 1 by omega]
    refine tr2 _ _ _ _ ?_
    rcases h.elim with ⟨e, rfl, tr3⟩ | ⟨l, _, _, ha, rfl, _, hQ', tr3⟩
    · exact tr3 _ _ _
    · refine tr3 _ _ _ _ (After.ok ?_)
      simpa using hQ'
theorem LoopS.done {α β : Type} {f : Ps α} {B : List UInt8} {n : Nat} {T0 S' : Except Nat Nat} {R : List α → Prop} {g : List α → β} {Q : β → Prop} (h : LoopS f B n T0 n S' R) (hQ : ∀ vs, R vs → Q (g vs)) : After T0 ((repP f n).bnd (fun l => .ok (g l)) B) Q S' := by
  cases S' with
  | error e =>
    rcases (h (fun _ => True)).elim with ⟨e', he, tr⟩ | ⟨_, _, _, _, he, _⟩
    · cases he; exact tr _ _ _
    · cases he
  | ok a =>
    obtain ⟨_, vs, _, hR, tr⟩ := h
    have h2 := tr (fun l => R l) (.ok a) (by rw [Nat.sub_self]; exact ⟨by simpa using hR, rfl⟩)
    rcases h2.elim with ⟨e', he, _⟩ | ⟨x, _, b, ha, hb, _, hx, tr3⟩
    · cases he
    · cases hb; exact tr3 _ _ _ _ (After.ok (hQ x hx))
theorem LoopS.out {α β : Type} {f : Ps α} {B : List UInt8} {n k e : Nat} {T0 : Except Nat Nat} {R : List α → Prop} {g : List α → β} {Q : β → Prop} (h : LoopS f B n T0 k (.error e) R) : After T0 ((repP f n).bnd (fun l => .ok (g l)) B) Q (.error e) := by
  rcases (h (fun _ => True)).elim with ⟨e', he, tr⟩ | ⟨_, _, _, _, he, _⟩
  · cases he; exact tr _ _ _
  · cases he
end Go.TVF
end

section
namespace Go.TVF
open Go Go.Proofs
set_option linter.unusedVariables false
set_option linter.unusedSimpArgs false
/-- From these bytes this is read; from any of them that stop early, the error 4. -/
structure Rds {α : Type} (f : Ps α) (x : α) (E : List UInt8) : Prop where
  good : ∀ B a rest, B.drop a = E ++ rest → f B a = .ok (x, a + E.length)
  short : ∀ B a m, m < E.length → B.drop a = E.take m → f B a = .error 4
theorem Rds.bnd {α β : Type} {f : Ps α} {g : α → Ps β} {x : α} {y : β} {E F : List UInt8} (h : Rds f x E) (k : Rds (g x) y F) : Rds (f.bnd g) y (E ++ F) := by
  constructor
  · intro B a rest hB
    rw [List.append_assoc] at hB
    have h1 := h.good B a _ hB
    have h2 := k.good B (a + E.length) rest (by rw [← List.drop_drop, hB, List.drop_left])
    exact bnd_ok.2 ⟨x, _, h1, by rw [h2, List.length_append, Nat.add_assoc]⟩
  · intro B a m hm hB
    by_cases hc : m < E.length
    · rw [List.take_append_of_le_length (by omega)] at hB
      exact bnd_err.2 (.inl (h.short B a m hc hB))
    · rw [List.take_append, List.take_of_length_le (by omega)] at hB
      rw [List.length_append] at hm
      refine bnd_err.2 (.inr ⟨x, _, h.good B a _ hB, k.short B _ (m - E.length) (by omega) (by rw [← List.drop_drop, hB, List.drop_left])⟩)
theorem Rds.ok {α : Type} (x : α) : Rds (Ps.ok x) x [] := ⟨fun B a rest _ => rfl, fun B a m hm _ => absurd hm (Nat.not_lt_zero _)⟩
theorem Rds.map {α β : Type} {f : Ps α} {g : α → β} {x : α} {E : List UInt8} (h : Rds f x E) : Rds (f.bnd fun y => .ok (g y)) (g x) E := by
  have := h.bnd (g := fun y => Ps.ok (g y)) (Rds.ok (g x))
  rwa [List.append_nil] at this
theorem rds_one (c : UInt8) : Rds oneP c.toNat [c] := by
  constructor
  · intro B a rest hB
    have : B[a]? = some c := by
      have := congrArg (fun z : List UInt8 => z[0]?) hB
      simpa using this
    unfold oneP; rw [this]; rfl
  · intro B a m hm hB
    have hm0 : m = 0 := by simpa using hm
    subst hm0
    have : B[a]? = none := by
      have := congrArg (fun z : List UInt8 => z[0]?) hB
      simpa using this
    unfold oneP; rw [this]
theorem Rds.of_eq {α : Type} {f g : Ps α} {x : α} {E : List UInt8} (h : Rds f x E) (e : g = f) : Rds g x E := e ▸ h
theorem rds_most (c : UInt8) (lim : Nat) (h : c.toNat ≤ lim) : Rds (mostP lim) c.toNat [c] :=
  (rds_one c).bnd (F := []) (g := fun x => if lim < x then .bad 3 else .ok x) ((Rds.ok c.toNat).of_eq (by rw [if_neg (by omega)]))
theorem rds_nat : ∀ (k i acc n : Nat), 0 < k → n < 128 ^ k → (i = 0 ∨ 0 < n) → Rds (natP k i acc) (acc + n * 128 ^ i) (natB n)
  | 0, i, acc, n, h, _, _ => absurd h (Nat.lt_irrefl 0)
  | k + 1, i, acc, n, _, hn, hi => by
    rw [natB]
    split
    · rename_i h
      have e : n.toUInt8.toNat = n := natB_lt n (by omega)
      refine (rds_one n.toUInt8).bnd (F := []) ((Rds.ok _).of_eq ?_)
      rw [e, if_pos h, if_neg (by omega)]
    · rename_i h
      have e : (n % 128 + 128).toUInt8.toNat = n % 128 + 128 := natB_lt _ (by omega)
      have hk : 0 < k := by
        rcases Nat.eq_zero_or_pos k with rfl | hk
        · simp at hn; omega
        · exact hk
      have hd : n / 128 < 128 ^ k := by
        rw [Nat.div_lt_iff_lt_mul (by omega)]
        rw [Nat.pow_succ] at hn; exact hn
      have ih := rds_nat k (i + 1) (acc + n % 128 * 128 ^ i) (n / 128) hk hd (.inr (by omega))
      have hv : acc + n % 128 * 128 ^ i + n / 128 * 128 ^ (i + 1) = acc + n * 128 ^ i := by
        have : n = n % 128 + n / 128 * 128 := by omega
        have h2 : n * 128 ^ i = (n % 128 + n / 128 * 128) * 128 ^ i := by rw [← this]
        rw [h2, Nat.add_mul, Nat.pow_succ, Nat.mul_assoc, Nat.mul_comm 128 (128 ^ i), Nat.add_assoc]
      rw [hv] at ih
      have := (rds_one (n % 128 + 128).toUInt8).bnd (g := fun x => if x < 128 then (if x = 0 ∧ 0 < i then .bad 3 else .ok (acc + x * 128 ^ i)) else natP k (i + 1) (acc + (x - 128) * 128 ^ i)) (ih.of_eq (by
        rw [e, if_neg (by omega), Nat.add_sub_cancel]))
      exact this
theorem rds_natF (n : Nat) (h : n < 9223372036854775808) : Rds natF n (natB n) := by
  have := rds_nat 9 0 0 n (by omega) (by rw [show (128 : Nat) ^ 9 = 9223372036854775808 by decide]; exact h) (.inl rfl)
  rw [Nat.zero_add, Nat.pow_zero, Nat.mul_one] at this
  exact this
theorem rds_take (s : List UInt8) : Rds (takeP s.length) s s := by
  constructor
  · intro B a rest hB
    have hl := congrArg List.length hB
    rw [List.length_drop, List.length_append] at hl
    unfold takeP
    rw [if_neg (by omega), hB, List.take_left]
  · intro B a m hm hB
    have hl := congrArg List.length hB
    rw [List.length_drop, List.length_take] at hl
    unfold takeP
    rw [if_pos (by omega)]
theorem rds_str (s : List UInt8) (h : s.length < 9223372036854775808) : Rds strP s (strB s) := (rds_natF s.length h).bnd (rds_take s)
theorem zag_zig (z : Int) : zagI (zig z) = z := by
  unfold zagI zig
  split <;> split <;> omega
theorem rds_int (z : Int) (h1 : -100000000000 ≤ z) (h2 : z ≤ 100000000000) : Rds intP z (natB (zig z)) := by
  have := (rds_natF (zig z) (by have := zig_le h1 h2; omega)).map (g := zagI)
  rw [zag_zig] at this; exact this
theorem rds_num {neg : Bool} {dg : List UInt8} {ex : Int} (h : DecOk neg dg ex) : Rds numP (neg, dg, ex) (numB neg dg ex) := by
  unfold numB
  by_cases hd : dg = []
  · subst hd
    obtain ⟨rfl, rfl⟩ := h.1 rfl
    rw [if_pos rfl]
    exact (rds_most 0 2 (by decide)).bnd (F := []) ((Rds.ok _).of_eq (by rw [if_pos (by decide)]))
  · rw [if_neg hd]
    obtain ⟨h1, h2, h3, h4, h5, h6⟩ := h.2 hd
    have rest := ((rds_int ex (by omega) (by omega)).bnd (g := fun x => strP.bnd fun d => Ps.ok (neg, d, x)) ((rds_str dg (by omega)).map (g := fun d => (neg, d, ex))))
    cases neg with
    | false =>
      have := (rds_most 1 2 (by decide)).bnd (g := fun s => if s = 0 then .ok (false, [], 0) else intP.bnd fun x => strP.bnd fun d => .ok (decide (s = 2), d, x)) (rest.of_eq (by rw [if_neg (by decide)]; rfl))
      exact this
    | true =>
      have := (rds_most 2 2 (by decide)).bnd (g := fun s => if s = 0 then .ok (false, [], 0) else intP.bnd fun x => strP.bnd fun d => .ok (decide (s = 2), d, x)) (rest.of_eq (by rw [if_neg (by decide)]; rfl))
      exact this
theorem rds_rep {α : Type} {f : Ps α} {m : α → List UInt8} : ∀ (l : List α), (∀ x, x ∈ l → Rds f x (m x)) → Rds (repP f l.length) l (l.flatMap m)
  | [], _ => Rds.ok []
  | x :: l, h => by
    have := (h x (.head _)).bnd (g := fun y => (repP f l.length).bnd fun r => Ps.ok (y :: r)) ((rds_rep l fun y hy => h y (.tail _ hy)).map (g := fun r => x :: r))
    exact this
mutual
/-- What a value must be that is read from its bytes. -/
def EncV : Vl → Prop
  | .mk s l f => OwnOk s l f ∧ DecOk s.neg s.dg s.ex ∧ (s.kind = 3 → TimeOk s.tk s.td s.tn s.tz) ∧ s.text.length ≤ 65536 ∧ s.bytes.length ≤ 65536 ∧ EncVs l ∧ EncFs f
def EncVs : List Vl → Prop
  | [] => True
  | v :: r => EncV v ∧ EncVs r
def EncD : Fd → Prop
  | .mk k v => k.length ≤ 1024 ∧ EncV v
def EncFs : List Fd → Prop
  | [] => True
  | d :: r => EncD d ∧ EncFs r
end
mutual
def lvV : Vl → Nat
  | .mk _ l f => 1 + max (lvVs l) (lvFs f)
def lvVs : List Vl → Nat
  | [] => 0
  | v :: r => max (lvV v) (lvVs r)
def lvD : Fd → Nat
  | .mk _ v => lvV v
def lvFs : List Fd → Nat
  | [] => 0
  | d :: r => max (lvD d) (lvFs r)
end
theorem EncVs_iff : ∀ {l : List Vl}, EncVs l ↔ ∀ v, v ∈ l → EncV v
  | [] => by unfold EncVs; simp
  | x :: r => by unfold EncVs; rw [EncVs_iff]; simp
theorem EncFs_iff : ∀ {l : List Fd}, EncFs l ↔ ∀ v, v ∈ l → EncD v
  | [] => by unfold EncFs; simp
  | x :: r => by unfold EncFs; rw [EncFs_iff]; simp
theorem lvVs_le {l : List Vl} {n : Nat} : lvVs l ≤ n ↔ ∀ v, v ∈ l → lvV v ≤ n := by
  induction l with
  | nil => unfold lvVs; simp
  | cons x r ih => unfold lvVs; rw [Nat.max_le, ih]; simp
theorem lvFs_le {l : List Fd} {n : Nat} : lvFs l ≤ n ↔ ∀ v, v ∈ l → lvD v ≤ n := by
  induction l with
  | nil => unfold lvFs; simp
  | cons x r ih => unfold lvFs; rw [Nat.max_le, ih]; simp
theorem bytesVs_flat : ∀ l : List Vl, bytesVs l = l.flatMap bytesV
  | [] => rfl
  | v :: r => by unfold bytesVs; rw [bytesVs_flat r]; rfl
theorem bytesFs_flat : ∀ l : List Fd, bytesFs l = l.flatMap bytesD
  | [] => rfl
  | v :: r => by unfold bytesFs; rw [bytesFs_flat r]; rfl
theorem sc_own0 {s : Sc} {l : List Vl} {f : List Fd} (h : OwnOk s l f) {t : Sc} (hk : s.kind = t.kind) (h1 : s.kind = 1 → s.b = t.b) (h1' : s.kind ≠ 1 → t.b = false) (h2 : s.kind = 2 → s.neg = t.neg ∧ s.dg = t.dg ∧ s.ex = t.ex) (h2' : s.kind ≠ 2 → t.neg = false ∧ t.dg = [] ∧ t.ex = 0)
    (h3 : s.kind = 3 → s.tk = t.tk ∧ s.td = t.td ∧ s.tn = t.tn ∧ s.tz = t.tz) (h3' : s.kind ≠ 3 → t.tk = 0 ∧ t.td = 0 ∧ t.tn = 0 ∧ t.tz = 0) (h4 : s.kind = 4 → s.text = t.text) (h4' : s.kind ≠ 4 → t.text = []) (h5 : s.kind = 5 → s.bytes = t.bytes) (h5' : s.kind ≠ 5 → t.bytes = []) : s = t := by
  have a1 : s.b = t.b := by
    by_cases k : s.kind = 1
    · exact h1 k
    · rw [h.bo k, h1' k]
  have a2 : s.neg = t.neg ∧ s.dg = t.dg ∧ s.ex = t.ex := by
    by_cases k : s.kind = 2
    · exact h2 k
    · obtain ⟨x1, x2, x3⟩ := h.nu k
      obtain ⟨y1, y2, y3⟩ := h2' k
      rw [x1, x2, x3, y1, y2, y3]; exact ⟨rfl, rfl, rfl⟩
  have a3 : s.tk = t.tk ∧ s.td = t.td ∧ s.tn = t.tn ∧ s.tz = t.tz := by
    by_cases k : s.kind = 3
    · exact h3 k
    · obtain ⟨x1, x2, x3, x4⟩ := h.ti k
      obtain ⟨y1, y2, y3, y4⟩ := h3' k
      rw [x1, x2, x3, x4, y1, y2, y3, y4]; exact ⟨rfl, rfl, rfl, rfl⟩
  have a4 : s.text = t.text := by
    by_cases k : s.kind = 4
    · exact h4 k
    · rw [h.tx k, h4' k]
  have a5 : s.bytes = t.bytes := by
    by_cases k : s.kind = 5
    · exact h5 k
    · rw [h.by_ k, h5' k]
  cases s; cases t; simp_all
end Go.TVF
end

section
namespace Go.TVF
open Go Go.Proofs
set_option linter.unusedVariables false
set_option linter.unusedSimpArgs false
theorem kb {s : Sc} {k : Nat} (h : s.kind = (k : Nat)) (hk : k ≤ 7) : s.kind.toNat.toUInt8.toNat = k := by
  rw [h, Int.toNat_natCast, natB_lt _ (by omega)]
theorem rds_value : ∀ (d : Nat) (v : Vl), lvV v ≤ d → v.sz ≤ 2000000 → EncV v → Rds (rdV d) v (bytesV v)
  | 0, .mk s l f, h, _, _ => by unfold lvV at h; omega
  | d + 1, .mk s l f, h, hz, hE => by
    have hsz := szs s l f
    have hll := vsSz_len l
    have hfl := fsSz_len f
    unfold lvV at h
    unfold EncV at hE
    obtain ⟨own, dec, tim, htx, hby, hl, hf⟩ := hE
    have k0 := own.k0
    have k7 := own.k7
    obtain ⟨k, hk⟩ : ∃ k : Nat, s.kind = (k : Nat) := ⟨s.kind.toNat, by omega⟩
    have hk7 : k ≤ 7 := by omega
    have hkb := kb hk hk7
    have main : ∀ (g : Ps Vl) (F : List UInt8), Rds g (.mk s l f) F → (if k = 1 then (mostP 1).bnd fun b => Ps.ok (Vl.mk { scK 1 with b := decide (b = 1) } [] [])
      else if k = 2 then numP.bnd fun x => .ok (.mk { scK 2 with neg := x.1, dg := x.2.1, ex := x.2.2 } [] [])
      else if k = 3 then oneP.bnd fun a => natF.bnd fun b => natF.bnd fun c => intP.bnd fun z => .ok (.mk { scK 3 with tk := a, td := b, tn := c, tz := z } [] [])
      else if k = 4 then strP.bnd fun s => .ok (.mk { scK 4 with text := s } [] [])
      else if k = 5 then strP.bnd fun s => .ok (.mk { scK 5 with bytes := s } [] [])
      else if k = 6 then natF.bnd fun n => (repP (rdV d) n).bnd fun l => .ok (.mk (scK 6) l [])
      else if k = 7 then natF.bnd fun n => (repP (strP.bnd fun key => (rdV d).bnd fun v => .ok (Fd.mk key v)) n).bnd fun f => .ok (.mk (scK 7) [] f)
      else .ok (.mk (scK k) [] [])) = g → bytesV (.mk s l f) = s.kind.toNat.toUInt8 :: F → Rds (rdV (d + 1)) (.mk s l f) (bytesV (.mk s l f)) := by
      intro g F hg he hb
      rw [hb, rdV.eq_2 d]
      have := (rds_most s.kind.toNat.toUInt8 7 (by omega)).bnd (F := F) (y := Vl.mk s l f) (g := fun k => if k = 1 then (mostP 1).bnd fun b => Ps.ok (Vl.mk { scK 1 with b := decide (b = 1) } [] [])
        else if k = 2 then numP.bnd fun x => .ok (.mk { scK 2 with neg := x.1, dg := x.2.1, ex := x.2.2 } [] [])
        else if k = 3 then oneP.bnd fun a => natF.bnd fun b => natF.bnd fun c => intP.bnd fun z => .ok (.mk { scK 3 with tk := a, td := b, tn := c, tz := z } [] [])
        else if k = 4 then strP.bnd fun s => .ok (.mk { scK 4 with text := s } [] [])
        else if k = 5 then strP.bnd fun s => .ok (.mk { scK 5 with bytes := s } [] [])
        else if k = 6 then natF.bnd fun n => (repP (rdV d) n).bnd fun l => .ok (.mk (scK 6) l [])
        else if k = 7 then natF.bnd fun n => (repP (strP.bnd fun key => (rdV d).bnd fun v => .ok (Fd.mk key v)) n).bnd fun f => .ok (.mk (scK 7) [] f)
        else .ok (.mk (scK k) [] [])) (by rw [hkb]; exact hg.of_eq he)
      exact this
    have nols : s.kind ≠ 6 → l = [] := own.ls
    have nofs : s.kind ≠ 7 → f = [] := own.fs
    have z0 : ∀ j : Nat, (scK j).b = false ∧ (scK j).neg = false ∧ (scK j).dg = [] ∧ (scK j).ex = 0 ∧ (scK j).tk = 0 ∧ (scK j).td = 0 ∧ (scK j).tn = 0 ∧ (scK j).tz = 0 ∧ (scK j).text = [] ∧ (scK j).bytes = [] := fun j => ⟨rfl, rfl, rfl, rfl, rfl, rfl, rfl, rfl, rfl, rfl⟩
    by_cases h1 : k = 1
    · subst h1
      have e1 := nols (by omega)
      have e2 := nofs (by omega)
      subst e1 e2
      have hs : s = { scK 1 with b := s.b } := sc_own0 own hk (fun _ => rfl) (by omega) (by omega) (fun _ => ⟨rfl, rfl, rfl⟩) (by omega) (fun _ => ⟨rfl, rfl, rfl, rfl⟩) (by omega) (fun _ => rfl) (by omega) (fun _ => rfl)
      refine main _ [if s.b then 1 else 0] ?_ (if_pos rfl) (by rw [bytesV, if_pos (by omega)])
      have := (rds_most (if s.b then 1 else 0) 1 (by cases s.b <;> decide)).map (g := fun b => Vl.mk { scK 1 with b := decide (b = 1) } [] [])
      rw [show decide ((if s.b then (1 : UInt8) else 0).toNat = 1) = s.b by cases s.b <;> decide, ← hs] at this
      exact this
    by_cases h2 : k = 2
    · subst h2
      have e1 := nols (by omega)
      have e2 := nofs (by omega)
      subst e1 e2
      have hs : s = { scK 2 with neg := s.neg, dg := s.dg, ex := s.ex } := sc_own0 own hk (by omega) (fun _ => rfl) (fun _ => ⟨rfl, rfl, rfl⟩) (by omega) (by omega) (fun _ => ⟨rfl, rfl, rfl, rfl⟩) (by omega) (fun _ => rfl) (by omega) (fun _ => rfl)
      refine main _ (numB s.neg s.dg s.ex) ?_ ((if_neg (by omega)).trans (if_pos rfl)) (by rw [bytesV, if_neg (by omega), if_pos (by omega)])
      have := (rds_num dec).map (g := fun x => Vl.mk { scK 2 with neg := x.1, dg := x.2.1, ex := x.2.2 } [] [])
      rw [← hs] at this
      exact this
    by_cases h3 : k = 3
    · subst h3
      have e1 := nols (by omega)
      have e2 := nofs (by omega)
      subst e1 e2
      have t := tim hk
      obtain ⟨t1, t2, t3, t4, t5, t6, t7, t8, _⟩ := t
      have hs : s = { scK 3 with tk := s.tk, td := s.td, tn := s.tn, tz := s.tz } := sc_own0 own hk (by omega) (fun _ => rfl) (by omega) (fun _ => ⟨rfl, rfl, rfl⟩) (fun _ => ⟨rfl, rfl, rfl, rfl⟩) (by omega) (by omega) (fun _ => rfl) (by omega) (fun _ => rfl)
      have c1 : ((s.tk.toNat.toUInt8.toNat : Nat) : Int) = s.tk := by rw [natB_lt _ (by omega)]; omega
      have c2 : ((s.td.toNat : Nat) : Int) = s.td := by omega
      have c3 : ((s.tn.toNat : Nat) : Int) = s.tn := by omega
      refine main _ (s.tk.toNat.toUInt8 :: (natB s.td.toNat ++ (natB s.tn.toNat ++ natB (zig s.tz)))) ?_ ((if_neg (by omega)).trans ((if_neg (by omega)).trans (if_pos rfl))) (by rw [bytesV, if_neg (by omega), if_neg (by omega), if_pos (by omega)])
      have r4 := (rds_int s.tz (by omega) (by omega)).map (g := fun z => Vl.mk { scK 3 with tk := ((s.tk.toNat.toUInt8.toNat : Nat) : Int), td := ((s.td.toNat : Nat) : Int), tn := ((s.tn.toNat : Nat) : Int), tz := z } [] [])
      have r3 := (rds_natF s.tn.toNat (by omega)).bnd (g := fun c => intP.bnd fun z => Ps.ok (Vl.mk { scK 3 with tk := ((s.tk.toNat.toUInt8.toNat : Nat) : Int), td := ((s.td.toNat : Nat) : Int), tn := ((c : Nat) : Int), tz := z } [] [])) r4
      have r2 := (rds_natF s.td.toNat (by omega)).bnd (g := fun b => natF.bnd fun c => intP.bnd fun z => Ps.ok (Vl.mk { scK 3 with tk := ((s.tk.toNat.toUInt8.toNat : Nat) : Int), td := ((b : Nat) : Int), tn := ((c : Nat) : Int), tz := z } [] [])) r3
      have r1 := (rds_one s.tk.toNat.toUInt8).bnd (g := fun a => natF.bnd fun b => natF.bnd fun c => intP.bnd fun z => Ps.ok (Vl.mk { scK 3 with tk := ((a : Nat) : Int), td := ((b : Nat) : Int), tn := ((c : Nat) : Int), tz := z } [] [])) r2
      rw [c1, c2, c3, ← hs] at r1
      exact r1
    by_cases h4 : k = 4
    · subst h4
      have e1 := nols (by omega)
      have e2 := nofs (by omega)
      subst e1 e2
      have hs : s = { scK 4 with text := s.text } := sc_own0 own hk (by omega) (fun _ => rfl) (by omega) (fun _ => ⟨rfl, rfl, rfl⟩) (by omega) (fun _ => ⟨rfl, rfl, rfl, rfl⟩) (fun _ => rfl) (by omega) (by omega) (fun _ => rfl)
      refine main _ (strB s.text) ?_ ((if_neg (by omega)).trans ((if_neg (by omega)).trans ((if_neg (by omega)).trans (if_pos rfl)))) (by rw [bytesV, if_neg (by omega), if_neg (by omega), if_neg (by omega), if_pos (by omega)])
      have := (rds_str s.text (by omega)).map (g := fun x => Vl.mk { scK 4 with text := x } [] [])
      rw [← hs] at this
      exact this
    by_cases h5 : k = 5
    · subst h5
      have e1 := nols (by omega)
      have e2 := nofs (by omega)
      subst e1 e2
      have hs : s = { scK 5 with bytes := s.bytes } := sc_own0 own hk (by omega) (fun _ => rfl) (by omega) (fun _ => ⟨rfl, rfl, rfl⟩) (by omega) (fun _ => ⟨rfl, rfl, rfl, rfl⟩) (by omega) (fun _ => rfl) (fun _ => rfl) (by omega)
      refine main _ (strB s.bytes) ?_ ((if_neg (by omega)).trans ((if_neg (by omega)).trans ((if_neg (by omega)).trans ((if_neg (by omega)).trans (if_pos rfl))))) (by rw [bytesV, if_neg (by omega), if_neg (by omega), if_neg (by omega), if_neg (by omega), if_pos (by omega)])
      have := (rds_str s.bytes (by omega)).map (g := fun x => Vl.mk { scK 5 with bytes := x } [] [])
      rw [← hs] at this
      exact this
    by_cases h6 : k = 6
    · subst h6
      have e2 := nofs (by omega)
      subst e2
      have hs : s = scK 6 := sc_own0 own hk (by omega) (fun _ => rfl) (by omega) (fun _ => ⟨rfl, rfl, rfl⟩) (by omega) (fun _ => ⟨rfl, rfl, rfl, rfl⟩) (by omega) (fun _ => rfl) (by omega) (fun _ => rfl)
      refine main _ (natB l.length ++ bytesVs l) ?_ ((if_neg (by omega)).trans ((if_neg (by omega)).trans ((if_neg (by omega)).trans ((if_neg (by omega)).trans ((if_neg (by omega)).trans (if_pos rfl)))))) (by rw [bytesV, if_neg (by omega), if_neg (by omega), if_neg (by omega), if_neg (by omega), if_neg (by omega), if_pos (by omega)])
      have hrep : Rds (repP (rdV d) l.length) l (bytesVs l) := by
        rw [bytesVs_flat]
        exact rds_rep l fun x hx => rds_value d x (by have := lvVs_le.1 (show lvVs l ≤ d by omega) x hx; exact this) (by have := vsSz_mem hx; omega) (EncVs_iff.1 hl x hx)
      have := (rds_natF l.length (by omega)).bnd (g := fun n => (repP (rdV d) n).bnd fun l => Ps.ok (Vl.mk (scK 6) l [])) (hrep.map (g := fun l => Vl.mk (scK 6) l []))
      rw [← hs] at this
      exact hs ▸ this
    by_cases h7 : k = 7
    · subst h7
      have e1 := nols (by omega)
      subst e1
      have hs : s = scK 7 := sc_own0 own hk (by omega) (fun _ => rfl) (by omega) (fun _ => ⟨rfl, rfl, rfl⟩) (by omega) (fun _ => ⟨rfl, rfl, rfl, rfl⟩) (by omega) (fun _ => rfl) (by omega) (fun _ => rfl)
      refine main _ (natB f.length ++ bytesFs f) ?_ ((if_neg (by omega)).trans ((if_neg (by omega)).trans ((if_neg (by omega)).trans ((if_neg (by omega)).trans ((if_neg (by omega)).trans ((if_neg (by omega)).trans (if_pos rfl))))))) (by rw [bytesV, if_neg (by omega), if_neg (by omega), if_neg (by omega), if_neg (by omega), if_neg (by omega), if_neg (by omega), if_pos (by omega)])
      have hrep : Rds (repP (strP.bnd fun key => (rdV d).bnd fun v => Ps.ok (Fd.mk key v)) f.length) f (bytesFs f) := by
        rw [bytesFs_flat]
        refine rds_rep f fun x hx => ?_
        have hlv := lvFs_le.1 (show lvFs f ≤ d by omega) x hx
        have hzx := fsSz_mem hx
        have hex := EncFs_iff.1 hf x hx
        obtain ⟨key, w⟩ := x
        rw [szd] at hzx
        unfold EncD at hex
        unfold lvD at hlv
        unfold bytesD
        exact (rds_str key (by omega)).bnd (g := fun key => (rdV d).bnd fun v => Ps.ok (Fd.mk key v)) ((rds_value d w hlv (by omega) hex.2).map (g := fun v => Fd.mk key v))
      have := (rds_natF f.length (by omega)).bnd (g := fun n => (repP (strP.bnd fun key => (rdV d).bnd fun v => Ps.ok (Fd.mk key v)) n).bnd fun f => Ps.ok (Vl.mk (scK 7) [] f)) (hrep.map (g := fun f => Vl.mk (scK 7) [] f))
      rw [← hs] at this
      exact hs ▸ this
    · have e1 := nols (by omega)
      have e2 := nofs (by omega)
      subst e1 e2
      have hs : s = scK k := sc_own0 own hk (by omega) (fun _ => rfl) (by omega) (fun _ => ⟨rfl, rfl, rfl⟩) (by omega) (fun _ => ⟨rfl, rfl, rfl, rfl⟩) (by omega) (fun _ => rfl) (by omega) (fun _ => rfl)
      refine main _ [] (Rds.ok _) ((if_neg (by omega)).trans ((if_neg (by omega)).trans ((if_neg (by omega)).trans ((if_neg (by omega)).trans ((if_neg (by omega)).trans ((if_neg (by omega)).trans ((if_neg (by omega)).trans (by rw [← hs])))))))) (by rw [bytesV, if_neg (by omega), if_neg (by omega), if_neg (by omega), if_neg (by omega), if_neg (by omega), if_neg (by omega), if_neg (by omega)])
end Go.TVF
end

section
namespace Go.TVF
open Go Go.Proofs
set_option linter.unusedVariables false
set_option linter.unusedSimpArgs false
mutual
theorem Valid.enc : ∀ {v : Vl}, Valid v → EncV v
  | .mk s l f, h => by
    unfold Valid at h
    unfold EncV
    obtain ⟨h1, h2, h3⟩ := h
    exact ⟨h1.own, h1.dec, h1.time, h1.tlen, h1.blen, Valids.enc h2, Validf.enc h3 fun d hd => ((keysE_nd f [] h1.keys).2 d hd).2.2⟩
theorem Valids.enc : ∀ {l : List Vl}, Valids l → EncVs l
  | [], h => by unfold EncVs; trivial
  | v :: r, h => by
    unfold Valids at h
    unfold EncVs
    exact ⟨Valid.enc h.1, Valids.enc h.2⟩
theorem ValidD.enc : ∀ {d : Fd}, ValidD d → d.key.length ≤ 1024 → EncD d
  | .mk k v, h, hk => by
    unfold ValidD at h
    unfold EncD
    exact ⟨hk, Valid.enc h⟩
theorem Validf.enc : ∀ {f : List Fd}, Validf f → (∀ d, d ∈ f → d.key.length ≤ 1024) → EncFs f
  | [], h, _ => by unfold EncFs; trivial
  | d :: r, h, hk => by
    unfold Validf at h
    unfold EncFs
    exact ⟨ValidD.enc h.1 (hk d (.head _)), Validf.enc h.2 fun x hx => hk x (.tail _ hx)⟩
end
theorem sortVs_nil {l : List Vl} (h : l = []) : sortVs l = [] := by subst h; rfl
theorem sortFs_nil {f : List Fd} (h : f = []) : sortFd (sortFs f) = [] := by subst h; rfl
mutual
theorem EncV.sort : ∀ {v : Vl}, EncV v → EncV (sortV v)
  | .mk s l f, h => by
    unfold EncV at h
    unfold sortV EncV
    obtain ⟨o, h1, h2, h3, h4, h5, h6⟩ := h
    exact ⟨⟨o.k0, o.k7, o.bo, o.nu, o.ti, o.tx, o.by_, fun h => sortVs_nil (o.ls h), fun h => sortFs_nil (o.fs h)⟩, h1, h2, h3, h4, EncVs.sort h5, EncFs_iff.2 fun d hd => EncFs_iff.1 (EncFs.sort h6) d ((sortFd_perm _).mem_iff.1 hd)⟩
theorem EncVs.sort : ∀ {l : List Vl}, EncVs l → EncVs (sortVs l)
  | [], h => by unfold sortVs EncVs; trivial
  | v :: r, h => by
    unfold EncVs at h
    unfold sortVs EncVs
    exact ⟨EncV.sort h.1, EncVs.sort h.2⟩
theorem EncD.sort : ∀ {d : Fd}, EncD d → EncD (sortD d)
  | .mk k v, h => by unfold EncD at h; unfold sortD EncD; exact ⟨h.1, EncV.sort h.2⟩
theorem EncFs.sort : ∀ {f : List Fd}, EncFs f → EncFs (sortFs f)
  | [], h => by unfold sortFs EncFs; trivial
  | d :: r, h => by
    unfold EncFs at h
    unfold sortFs EncFs
    exact ⟨EncD.sort h.1, EncFs.sort h.2⟩
end
mutual
theorem lv_sort : ∀ v : Vl, lvV (sortV v) ≤ lvV v
  | .mk s l f => by
    have h1 := lvs_sort l
    have h2 := lvf_sort f
    have h3 : lvFs (sortFd (sortFs f)) ≤ lvFs (sortFs f) := lvFs_le.2 fun d hd => lvFs_le.1 (Nat.le_refl _) d ((sortFd_perm _).mem_iff.1 hd)
    unfold sortV lvV
    omega
theorem lvs_sort : ∀ l : List Vl, lvVs (sortVs l) ≤ lvVs l
  | [] => by unfold sortVs; exact Nat.le_refl _
  | v :: r => by
    have := lv_sort v
    have := lvs_sort r
    unfold sortVs lvVs; omega
theorem lvd_sort : ∀ d : Fd, lvD (sortD d) ≤ lvD d
  | .mk k v => by unfold sortD lvD; exact lv_sort v
theorem lvf_sort : ∀ f : List Fd, lvFs (sortFs f) ≤ lvFs f
  | [] => by unfold sortFs; exact Nat.le_refl _
  | d :: r => by
    have := lvd_sort d
    have := lvf_sort r
    unfold sortFs lvFs; omega
end
mutual
theorem chkV_lv : ∀ (v : Vl) (d n : Nat), (chkV d n v).2 = 0 → lvV v ≤ 49 - d
  | .mk s l f, d, n, h => by
    unfold chkV at h
    split at h
    · cases h
    split at h
    · cases h
    split at h
    · rename_i h1; exact absurd h h1
    · obtain ⟨h1, h2⟩ := thenE_zero h
      have := chkVs_lv l (d + 1) (n + 1) h1
      have := chkFs_lv f (d + 1) _ h2
      unfold lvV; omega
theorem chkVs_lv : ∀ (l : List Vl) (d n : Nat), (chkVs d n l).2 = 0 → lvVs l ≤ 49 - d
  | [], d, n, h => by unfold lvVs; omega
  | v :: r, d, n, h => by
    unfold chkVs at h
    obtain ⟨h1, h2⟩ := thenE_zero h
    have := chkV_lv v d n h1
    have := chkVs_lv r d _ h2
    unfold lvVs; omega
theorem chkD_lv : ∀ (x : Fd) (d n : Nat), (chkD d n x).2 = 0 → lvD x ≤ 49 - d
  | .mk k v, d, n, h => by unfold chkD at h; unfold lvD; exact chkV_lv v d n h
theorem chkFs_lv : ∀ (f : List Fd) (d n : Nat), (chkFs d n f).2 = 0 → lvFs f ≤ 49 - d
  | [], d, n, h => by unfold lvFs; omega
  | x :: r, d, n, h => by
    unfold chkFs at h
    obtain ⟨h1, h2⟩ := thenE_zero h
    have := chkD_lv x d n h1
    have := chkFs_lv r d _ h2
    unfold lvFs; omega
end
theorem rds_sorted {v : Vl} (h : checkV v = 0) (hN : v.sz ≤ 2000000) : Rds (rdV 48) (sortV v) (bytesV (sortV v)) :=
  rds_value 48 _ (Nat.le_trans (lv_sort v) (chkV_lv v 1 0 h)) (by rw [sortV_sz]; exact hN) (Valid.enc (check_valid h)).sort
end Go.TVF
end

section
namespace Go.TVF
open Go Go.Proofs
set_option linter.unusedVariables false
set_option linter.unusedSimpArgs false
theorem box_put (st : St) (b : Nat) (o : AObj) : (st.put b o).box b = o := by simp [St.put]
theorem box_push (st : St) (o : AObj) (t : Option Nat) : (st.push o t).box st.nb = o := by simp [St.push]
theorem OwnSl.set {st : St} {u : TV} {n i : Nat} {xs : List TV} {bs : List Nat} {x : TV} {K : St → Prop} (h : OwnSl st 1 u n xs bs) (hi : i < n) (hK : ∀ st', OwnSl st' 1 u n (xs.set i x) bs → StX (· ∈ bs) st st' → K st') : stB st (ixT 1 u i) [x] K := by
  rcases h with ⟨h0, _⟩ | ⟨b, cap, tail, rfl, h1, h2, h3, h4, h5, rfl⟩
  · omega
  · simp only [ixT, Nat.zero_add, Nat.mul_one, stB]
    have hl : (xs ++ tail).length = cap := by omega
    rw [List.length_append] at hl
    refine ⟨_, h2, by rw [List.length_append, List.length_singleton]; omega, hK _ (.inr ⟨b, cap, tail, rfl, h1, ?_, by rw [List.length_append, List.length_set]; omega, by rw [List.length_set]; exact h4, h5, rfl⟩) (StX.put (S := (· ∈ [b])) (.head _) _)⟩
    rw [box_put]
    simp only [setAll]
    rw [List.set_append_left _ _ (by omega)]
/-- Bytes in a box that the call has made. -/
def BxB (st0 st : St) (u : TV) (l : List UInt8) : Prop := ∃ bs, OwnSl st 1 u l.length (bytesT l) bs ∧ StExt st0 st ∧ ∀ x, x ∈ bs → st0.nb ≤ x
theorem BxB.nil {st0 st : St} (e : StExt st0 st) : BxB st0 st .nilSlice [] := ⟨[], OwnSl.nil _ _, e, fun x hx => by cases hx⟩
theorem BxB.rd {st0 st : St} {u : TV} {l : List UInt8} (h : BxB st0 st u l) : SlR st 1 u l.length (bytesT l) := by
  obtain ⟨bs, h1, _⟩ := h; exact h1.rd
theorem BxB.ext {st0 st : St} {u : TV} {l : List UInt8} (h : BxB st0 st u l) : StExt st0 st := by
  obtain ⟨bs, _, h2, _⟩ := h; exact h2
theorem BxB.app {st0 st : St} {u : TV} {l : List UInt8} {c : UInt8} {x : TV} {K : TV → St → Prop} (h : BxB st0 st u l) (hx : x = byteT c) (hl : l.length ≤ 100000000) (hK : ∀ u' st', BxB st0 st' u' (l ++ [c]) → K u' st') : appB 5 1 1 u 1 [x] st K := by
  obtain ⟨bs, h1, h2, h3⟩ := h
  subst hx
  refine appB_ownO h1 (by omega) rfl (by omega) fun u' st' bs' ho e hb => hK u' st' ⟨bs', ?_, ?_, ?_⟩
  · rw [List.length_append, List.length_singleton, ← bytesT_append]; exact ho
  · exact StX.ext h2 e h3
  · rcases hb with ⟨rfl, _⟩ | rfl
    · exact h3
    · intro y hy; rw [List.mem_singleton.1 hy]; exact h2.nb
theorem bytesT_set (l : List UInt8) (i : Nat) (c : UInt8) : (bytesT l).set i (byteT c) = bytesT (l.set i c) := by
  unfold bytesT; rw [List.map_set]
theorem BxB.set {st0 st : St} {u : TV} {l : List UInt8} {i : Nat} {c : UInt8} {x : TV} {K : St → Prop} (h : BxB st0 st u l) (hx : x = byteT c) (hi : i < l.length) (hK : ∀ st', BxB st0 st' u (l.set i c) → K st') : stB st (ixT 1 u i) [x] K := by
  obtain ⟨bs, h1, h2, h3⟩ := h
  subst hx
  refine h1.set hi fun st' ho e => hK st' ⟨bs, ?_, StX.ext h2 e h3, h3⟩
  rw [List.length_set, ← bytesT_set]; exact ho
theorem zrep_u8 (n : Nat) : zrep [.int .u8 (0 : Int)] (n * 1) = bytesT (List.replicate n 0) := by
  unfold zrep bytesT
  rw [Nat.mul_one, List.map_replicate]
  refine List.ext_getElem (by simp) fun i h1 h2 => ?_
  simp [byteT, Nat.mod_one]
theorem BxB.make {st0 st : St} (e : StExt st0 st) (n : Nat) : BxB st0 (st.push (.cells (zrep [.int .u8 (0 : Int)] (n * 1))) (some 5)) (.ms 1 st.nb 0 n n) (List.replicate n 0) := by
  refine ⟨[st.nb], .inr ⟨st.nb, n, [], by rw [List.length_replicate], by simp [St.push], ?_, ?_, ?_, ?_, rfl⟩, e.push _ _, fun x hx => by rw [List.mem_singleton.1 hx]; exact e.nb⟩
  · rw [zrep_u8, List.append_nil, box_push]
  · rw [List.append_nil, length_bytesT, List.length_replicate, Nat.mul_one]
  · rw [length_bytesT]; omega
  · rw [List.length_replicate]; exact Nat.le_refl _
theorem decT_u8 {c : UInt8} {f : Int → Prop} (h : f (c.toNat : Int)) : decT (.int .u8) (byteT c) f := decT_int h
theorem BxB.ld {st0 st : St} {u : TV} {l : List UInt8} {i : Nat} (h : BxB st0 st u l) (hi : i < l.length) : ldCell st [] (.t (ixT 1 u i)) 0 = some (byteT l[i]) := h.rd.ldb hi
theorem BxB.str {st0 st : St} {u : TV} {l : List UInt8} {K : List UInt8 → Prop} (h : BxB st0 st u l) (hk : K l) : optK ((toBytes st u).map TV.str) fun x => decT .str x K :=
  optK_intro (x := .str l) (by rw [h.rd.toBytes]; rfl) (decT_str hk)
theorem reverse_ok {st0 st : St} {u : TV} {l : List UInt8} (hl : l.length ≤ 100000000) (h : BxB st0 st u l) {K : St → Prop} (hk : ∀ st', BxB st0 st' u l.reverse → K st') : CallT PR fn_digits_reverse [u] [] st K := by
  refine vc_digits_reverse u st K (need_intro h.rd.isSl ?_)
  rw [h.rd.lenS, wrap64 _ (by omega) (by omega)]
  refine ⟨fun i k b st' => u = b ∧ ∃ (n : Nat) (m : List UInt8), i = n ∧ k = (l.length : Int) - 1 - n ∧ 2 * n ≤ l.length + 1 ∧ m.length = l.length ∧ BxB st0 st' u m ∧ ∀ j, j < l.length → m.getD j 0 = if j < n ∨ l.length - n ≤ j then l.getD (l.length - 1 - j) 0 else l.getD j 0, fun i _ _ _ => (l.length - i).toNat, ⟨rfl, 0, l, rfl, by omega, by omega, rfl, h, fun j hj => by rw [if_neg (by omega)]⟩, ?_⟩
  rintro _ _ _ st1 ⟨rfl, n, m, rfl, rfl, hn, hm, hb, hall⟩
  refine BIf_intro (fun g => ?_) fun g => hk _ ?_
  · have hk' : Int.toNat ((l.length : Int) - 1 - n) = l.length - 1 - n := by omega
    have hr := hb.rd
    have hnl : n < m.length := by omega
    have hkl : l.length - 1 - n < m.length := by omega
    rw [hr.lenZ, hk', Int.toNat_natCast]
    refine ⟨⟨by omega, by omega⟩, optK_intro (hb.ld hkl) (decT_u8 ⟨⟨by omega, by omega⟩, optK_intro (hb.ld hnl) (decT_u8 ⟨⟨by omega, by omega⟩, hb.set (c := m[l.length - 1 - n]) rfl hnl fun st2 hb2 => ⟨⟨by omega, by omega⟩, hb2.set (c := m[n]) rfl (by rw [List.length_set]; exact hkl) fun st3 hb3 => ?_⟩⟩)⟩)⟩
    rw [wrap64 _ (by omega) (by omega), wrap64 _ (by omega) (by omega)]
    refine ⟨⟨rfl, n + 1, _, by omega, by omega, by omega, by rw [List.length_set, List.length_set]; exact hm, hb3, fun j hj => ?_⟩, by dsimp only; omega⟩
    have h1 := hall n (by omega)
    have h2 := hall (l.length - 1 - n) (by omega)
    rw [if_neg (by omega)] at h1 h2
    have e1 : m.getD n 0 = m[n] := by rw [List.getD_eq_getElem?_getD, List.getElem?_eq_getElem hnl]; rfl
    have e2 : m.getD (l.length - 1 - n) 0 = m[l.length - 1 - n] := by rw [List.getD_eq_getElem?_getD, List.getElem?_eq_getElem hkl]; rfl
    have e3 : ((m.set n m[l.length - 1 - n]).set (l.length - 1 - n) m[n]).getD j 0 = if j = l.length - 1 - n then m[n] else if j = n then m[l.length - 1 - n] else m.getD j 0 := by
      rw [List.getD_eq_getElem?_getD, List.getElem?_set, List.getElem?_set]
      by_cases c1 : j = l.length - 1 - n
      · rw [if_pos c1.symm, if_pos c1, if_pos (by rw [List.length_set]; omega)]; rfl
      · rw [if_neg (fun e => c1 e.symm), if_neg c1]
        by_cases c2 : j = n
        · rw [if_pos c2.symm, if_pos c2, if_pos (by omega)]; rfl
        · rw [if_neg (fun e => c2 e.symm), if_neg c2, List.getD_eq_getElem?_getD]
    rw [e3]
    by_cases c1 : j = l.length - 1 - n
    · rw [if_pos c1, if_pos (by omega), ← e1, h1]; congr 1; omega
    · rw [if_neg c1]
      by_cases c2 : j = n
      · rw [if_pos c2, if_pos (by omega), ← e2, h2]; congr 1; omega
      · rw [if_neg c2, hall j hj]
        by_cases c3 : j < n ∨ l.length - n ≤ j
        · rw [if_pos c3, if_pos (by omega)]
        · rw [if_neg c3, if_neg (by omega)]
  · have : m = l.reverse := by
      refine List.ext_getElem (by simpa using hm) fun j h1 h2 => ?_
      have := hall j (by omega)
      rw [List.getD_eq_getElem?_getD, List.getElem?_eq_getElem h1, Option.getD_some] at this
      rw [this, List.getElem_reverse]
      by_cases c : j < n ∨ l.length - n ≤ j
      · rw [if_pos c, List.getD_eq_getElem?_getD, List.getElem?_eq_getElem (by omega), Option.getD_some]
      · rw [if_neg c, List.getD_eq_getElem?_getD, List.getElem?_eq_getElem (by omega), Option.getD_some]
        congr 1; omega
    rw [← this]; exact hb
theorem dg_w8 {n : Nat} (x : Int) (h : x = n) : IntKind.u8.wrap (IntKind.i64.wrap (48 + x.tmod 10)) = (((48 + n % 10).toUInt8.toNat : Nat) : Int) := by
  subst h
  rw [Int.tmod_eq_emod_of_nonneg (by omega), wrap64 _ (by omega) (by omega), dg_byte _ (by omega), wrapU8 _ (by omega) (by omega)]; omega
theorem fromInt_ok {n : Nat} (hn : n ≤ 9000000000000000000) {st : St} {K : List UInt8 → St → Prop} (hk : ∀ st', StExt st st' → K (natD n) st') : CallT PR fn_digits_FromInt [.int .i64 (n : Int)] [.one .str] st K := by
  have hlen : (natD n).length ≤ 19 := natD_len 19 n (by omega)
  refine vc_digits_FromInt _ st K ⟨fun k b st' => ∃ (m : Nat) (l : List UInt8), k = m ∧ m ≤ n ∧ BxB st st' b l ∧ natD n = natD m ++ l.reverse, fun k _ _ => k.toNat, ⟨n, [], rfl, Nat.le_refl _, BxB.nil (StExt.refl _), by simp⟩, ?_⟩
  rintro _ b st1 ⟨m, l, rfl, hm, hb, he⟩
  have hll : l.length ≤ 19 := by rw [he, List.length_append, List.length_reverse] at hlen; omega
  refine BIf_intro (fun g => ?_) fun g => ?_
  · refine hb.app (c := (48 + m % 10).toUInt8) (by rw [dg_w8 _ rfl]; rfl) (by omega) fun u' st2 hb2 => ?_
    have hd : IntKind.i64.wrap ((m : Int).tdiv 10) = ((m / 10 : Nat) : Int) := by rw [Int.tdiv_eq_ediv_of_nonneg (by omega), wrap64 _ (by omega) (by omega)]; omega
    rw [hd]
    refine ⟨⟨m / 10, _, rfl, by omega, hb2, ?_⟩, by dsimp only; omega⟩
    rw [he, natD_step (by omega), List.reverse_append, List.reverse_singleton, List.append_assoc]
  · have h0 : m = 0 := by omega
    subst h0
    rw [natD_zero, List.nil_append] at he
    refine reverse_ok (by omega) hb fun st2 hb2 => hb2.str ?_
    rw [← he]; exact hk _ hb2.ext
theorem whole_ok {n : Nat} (hn : n ≤ 9000000000000000000) {st : St} {K : List UInt8 → St → Prop} (hk : ∀ st', StExt st st' → K (whN n) st') : CallT PR fn_decimal_whole [.int .i64 (n : Int)] [.one .str] st K := by
  unfold whN at hk
  refine vc_decimal_whole _ st K (BIf_intro (fun g => ?_) fun g => fromInt_ok hn fun st' e => ?_)
  · have := hk st (StExt.refl _)
    rw [if_pos (by omega)] at this; exact this
  · have := hk st' e
    rw [if_neg (by omega)] at this; exact this
end Go.TVF
end

section
namespace Go.TVF
open Go Go.Proofs
set_option linter.unusedVariables false
set_option linter.unusedSimpArgs false
theorem expT_eq (p : Int) : expT p = if p < 1 then 101 :: 45 :: whN (1 - p).toNat else 101 :: whN (p - 1).toNat := by
  unfold expT; split <;> rfl
def sgnT (neg : Bool) : List UInt8 := if neg then [45] else []
theorem sgnT_len (neg : Bool) : (sgnT neg).length ≤ 1 := by cases neg <;> decide
theorem whN_len {n : Nat} (h : n < 10 ^ 18) : (whN n).length ≤ 18 := by
  unfold whN; split
  · decide
  · exact natD_len 18 n h
theorem dText_ok {neg : Bool} {dg : List UInt8} {ex : Int} (h : DecOk neg dg ex) {st : St} {K : List UInt8 → St → Prop} (hk : ∀ st', StExt st st' → K (dcT neg dg ex) st') : CallT PR fn_decimal_Text [.agg [.bool neg, .str dg, .int .i64 ex]] [.one .str] st K := by
  have e0 := StExt.refl st
  unfold dcT at hk
  by_cases hne : dg = []
  · rw [if_pos hne] at hk
    refine vc_decimal_Text neg dg ex st K ⟨fun _ _ _ _ => False, BIf_intro (fun _ => hk st e0) fun g => absurd hne g, fun _ _ _ _ h => h.elim⟩
  rw [if_neg hne] at hk
  obtain ⟨h1, h2, h3, h4, h5, h6⟩ := h.2 hne
  have hpos := List.length_pos_iff.2 hne
  have hs := sgnT_len neg
  have hw : IntKind.i64.wrap ((dg.length : Int) + ex) = dg.length + ex := wrap64 _ (by omega) (by omega)
  refine vc_decimal_Text neg dg ex st K ⟨fun b s n st' => neg = b ∧ dg = s ∧ ex = n ∧ st = st', BIf_intro (fun g => absurd g hne) fun _ => decValid_ok (by omega) ?_, ?_⟩
  · rw [decide_eq_true h]
    exact ⟨rfl, rfl, rfl, rfl⟩
  rintro _ _ _ _ ⟨rfl, rfl, rfl, rfl⟩
  refine ⟨fun s b s1 n st' => sgnT neg = s ∧ neg = b ∧ dg = s1 ∧ ex = n ∧ st = st', BIf_bool (fun hb => ⟨by rw [hb]; rfl, rfl, rfl, rfl, rfl⟩) fun hb => ⟨by rw [hb]; rfl, rfl, rfl, rfl, rfl⟩, ?_⟩
  rintro _ _ _ _ _ ⟨rfl, rfl, rfl, rfl, rfl⟩
  rw [hw]
  have hk' := hk
  rw [show (if neg = true then [45] else []) = sgnT neg from rfl] at hk
  refine ⟨fun s n p b s2 n2 st' => sgnT neg = s ∧ (dg.length : Int) = n ∧ (dg.length : Int) + ex = p ∧ dg = s2 ∧ st = st' ∧ ¬ (0 ≤ ex ∧ dg.length + ex ≤ 21) ∧ ¬ (ex < 0 ∧ 1 ≤ dg.length + ex ∧ dg.length + ex ≤ 21) ∧ ¬ (-5 ≤ dg.length + ex ∧ dg.length + ex ≤ 0), ?_, ?_⟩
  · refine ⟨fun b s n p b4 s3 n3 st' => b = decide (0 ≤ ex ∧ dg.length + ex ≤ 21) ∧ sgnT neg = s ∧ (dg.length : Int) = n ∧ (dg.length : Int) + ex = p ∧ dg = s3 ∧ ex = n3 ∧ st = st', ?_, ?_⟩
    · refine BIf_intro (fun g => ⟨?_, rfl, rfl, rfl, rfl, rfl, rfl⟩) fun g => ⟨?_, rfl, rfl, rfl, rfl, rfl, rfl⟩
      · exact decide_eq_decide.2 ⟨fun g2 => ⟨g, g2⟩, fun g2 => g2.2⟩
      · exact (decide_eq_false fun g2 => g g2.1).symm
    rintro _ _ _ _ _ _ _ _ ⟨rfl, rfl, rfl, rfl, rfl, rfl, rfl⟩
    refine BIf_intro (fun g => ?_) fun g => ?_
    · rw [if_pos g] at hk
      obtain ⟨g1, g2⟩ := g
      obtain ⟨m, rfl⟩ : ∃ m : Nat, ex = m := ⟨ex.toNat, by omega⟩
      refine ⟨by omega, repeat_ok (by omega) ⟨by rw [List.length_append, zs_len]; omega, ?_⟩⟩
      have := hk st e0
      rw [Int.toNat_natCast, ← List.append_assoc] at this
      exact this
    rw [if_neg g] at hk
    refine ⟨fun b s n p b5 s5 n4 st' => b = decide (ex < 0 ∧ 1 ≤ dg.length + ex ∧ dg.length + ex ≤ 21) ∧ sgnT neg = s ∧ (dg.length : Int) = n ∧ (dg.length : Int) + ex = p ∧ dg = s5 ∧ ex = n4 ∧ st = st', ?_, ?_⟩
    · refine BIf_intro (fun g1 => BIf_intro (fun g2 => ⟨?_, rfl, rfl, rfl, rfl, rfl, rfl⟩) fun g2 => ⟨?_, rfl, rfl, rfl, rfl, rfl, rfl⟩) fun g1 => ⟨?_, rfl, rfl, rfl, rfl, rfl, rfl⟩
      · exact decide_eq_decide.2 ⟨fun g3 => ⟨g1, g2, g3⟩, fun g3 => g3.2.2⟩
      · exact (decide_eq_false fun g3 => g2 g3.2.1).symm
      · exact (decide_eq_false fun g3 => g1 g3.1).symm
    rintro _ _ _ _ _ _ _ _ ⟨rfl, rfl, rfl, rfl, rfl, rfl, rfl⟩
    refine BIf_intro (fun g2 => ?_) fun g2 => ?_
    · rw [if_pos g2] at hk
      obtain ⟨g3, g4, g5⟩ := g2
      have hlt : (List.take (Int.toNat ((dg.length : Int) + ex)) dg).length ≤ dg.length := by rw [List.length_take]; omega
      have hld : (List.drop (Int.toNat ((dg.length : Int) + ex)) dg).length ≤ dg.length := by rw [List.length_drop]; omega
      refine ⟨⟨by omega, by omega⟩, by omega, by rw [List.length_append]; show _ + 1 ≤ _; omega, ⟨by omega, by omega⟩, by simp only [List.length_append]; show _ + 1 + _ ≤ _; omega, ?_⟩
      have := hk st e0
      rw [← List.append_assoc, List.append_cons] at this
      exact this
    rw [if_neg g2] at hk
    refine BIf_intro (fun g3 => BIf_intro (fun g4 => ?_) fun g4 => ⟨rfl, rfl, rfl, rfl, rfl, g, g2, fun g5 => g4 g5.2⟩) fun g3 => ⟨rfl, rfl, rfl, rfl, rfl, g, g2, fun g5 => g3 g5.1⟩
    rw [if_pos ⟨g3, g4⟩] at hk
    obtain ⟨m, hm⟩ : ∃ m : Nat, (0 : Int) - ((dg.length : Int) + ex) = m := ⟨(0 - ((dg.length : Int) + ex)).toNat, by omega⟩
    rw [wrap64 _ (by omega) (by omega), hm]
    have hm2 : (-((dg.length : Int) + ex)).toNat = m := by omega
    rw [hm2] at hk
    refine ⟨by show _ + 2 ≤ _; omega, repeat_ok (by omega) ⟨by rw [List.length_append, zs_len]; show _ + 2 + _ ≤ _; omega, by simp only [List.length_append, zs_len]; show _ + 2 + _ + _ ≤ _; omega, ?_⟩⟩
    have := hk st e0
    rw [List.append_cons, List.append_cons, ← List.append_assoc, List.append_assoc (sgnT neg)] at this
    exact this
  · rintro _ _ _ _ _ _ _ ⟨rfl, rfl, rfl, rfl, rfl, g1, g2, g3⟩
    rw [if_neg g1, if_neg g2, if_neg g3, expT_eq] at hk
    have ht1 : (List.take (Int.toNat 1) dg).length = 1 := by rw [List.length_take]; omega
    have hd1 : (List.drop (Int.toNat 1) dg).length ≤ dg.length := by rw [List.length_drop]; omega
    refine ⟨⟨by omega, by omega⟩, by omega, fun s p st' => sgnT neg ++ (dg.take 1 ++ (if 1 < dg.length then 46 :: dg.drop 1 else [])) = s ∧ (dg.length : Int) + ex = p ∧ st = st', ?_, ?_⟩
    · refine BIf_intro (fun g4 => ⟨⟨by omega, by omega⟩, by show 1 + _ ≤ _; omega, by simp only [List.length_append]; show _ + (1 + _) ≤ _; omega, ?_, rfl, rfl⟩) fun g4 => ⟨?_, rfl, rfl⟩
      · rw [if_pos (by omega), List.append_assoc]; rfl
      · rw [if_neg (by omega), List.append_nil]; rfl
    rintro s _ _ ⟨hs0, rfl, rfl⟩
    have hsl : s.length ≤ 300 := by
      rw [← hs0]
      have : (if 1 < dg.length then 46 :: dg.drop 1 else []).length ≤ dg.length := by
        split
        · rw [List.length_cons, List.length_drop]; omega
        · simp
      simp only [List.length_append, List.length_take]; omega
    refine BIf_intro (fun g4 => ?_) fun g4 => ?_
    · rw [if_pos g4] at hk
      obtain ⟨m, hm⟩ : ∃ m : Nat, (1 : Int) - ((dg.length : Int) + ex) = m := ⟨(1 - ((dg.length : Int) + ex)).toNat, by omega⟩
      have hwl := whN_len (n := m) (by omega)
      rw [wrap64 _ (by omega) (by omega), hm]
      refine ⟨by show _ + 2 ≤ _; omega, whole_ok (by omega) fun st' e' => ⟨by rw [List.length_append]; show _ + 2 + _ ≤ _; omega, ?_⟩⟩
      have := hk st' e'
      rw [← List.append_assoc (dg.take 1), ← List.append_assoc (sgnT neg), hs0, hm, Int.toNat_natCast, List.append_cons, List.append_cons, List.append_assoc s] at this
      exact this
    · rw [if_neg g4] at hk
      obtain ⟨m, hm⟩ : ∃ m : Nat, ((dg.length : Int) + ex) - 1 = m := ⟨(((dg.length : Int) + ex) - 1).toNat, by omega⟩
      have hwl := whN_len (n := m) (by omega)
      rw [wrap64 _ (by omega) (by omega), hm]
      refine ⟨by show _ + 1 ≤ _; omega, whole_ok (by omega) fun st' e' => ⟨by rw [List.length_append]; show _ + 1 + _ ≤ _; omega, ?_⟩⟩
      have := hk st' e'
      rw [← List.append_assoc (dg.take 1), ← List.append_assoc (sgnT neg), hs0, hm, Int.toNat_natCast, List.append_cons] at this
      exact this
end Go.TVF
end

section
namespace Go.TVF
open Go Go.Proofs
set_option linter.unusedVariables false
set_option linter.unusedSimpArgs false
/-- The days of a month, none where there is no such month. -/
def monX (y m : Nat) : Nat := if 1 ≤ y ∧ y ≤ 9999 ∧ 1 ≤ m ∧ m ≤ 12 then monD y m else 0
theorem monX_of {y m : Nat} (h1 : 1 ≤ y) (h2 : y ≤ 9999) (h3 : 1 ≤ m) (h4 : m ≤ 12) : monX y m = monD y m := if_pos ⟨h1, h2, h3, h4⟩
theorem calValid_ok {y : Nat} {st : St} {K : Bool → St → Prop} (hk : K (decide (1 ≤ y ∧ y ≤ 9999)) st) : CallT PR fn_calendar_valid [.int .i64 (y : Int)] [.one .bool] st K := by
  refine vc_calendar_valid _ st K (BIf_intro (fun g => ?_) fun g => ?_)
  · exact K_eq (decide_eq_decide.2 ⟨fun h => by omega, fun h => by omega⟩) hk
  · rw [decide_eq_false (by omega)] at hk; exact hk
theorem calLeap_ok {y : Nat} (h1 : 1 ≤ y) (h2 : y ≤ 9999) {st : St} {K : Bool → St → Prop} (hk : K (decide (leapY y)) st) : CallT PR fn_calendar_Leap [.int .i64 (y : Int)] [.one .bool] st K := by
  refine vc_calendar_Leap _ st K (calValid_ok ?_)
  rw [decide_eq_true ⟨h1, h2⟩, Int.tmod_eq_emod_of_nonneg (by omega), Int.tmod_eq_emod_of_nonneg (by omega), Int.tmod_eq_emod_of_nonneg (by omega)]
  unfold leapY at hk
  refine BIf_intro (p := True) (fun _ => BIf_intro (fun g => BIf_intro (fun g2 => ?_) fun g2 => ?_) fun g => ?_) (fun h => absurd trivial h)
  · exact K_eq (decide_eq_true (show y % 4 = 0 ∧ (y % 100 ≠ 0 ∨ y % 400 = 0) from ⟨by omega, .inl (by omega)⟩) |>.symm) hk
  · exact K_eq (decide_eq_decide.2 ⟨fun h => ⟨by omega, .inr (by omega)⟩, fun h => by omega⟩) hk
  · exact K_eq (decide_eq_false (show ¬ (y % 4 = 0 ∧ (y % 100 ≠ 0 ∨ y % 400 = 0)) from fun h => by omega) |>.symm) hk
theorem days_ix : ∀ k : Nat, k < 12 → k ≠ 1 → (([.int .i64 31, .int .i64 28, .int .i64 31, .int .i64 30, .int .i64 31, .int .i64 30, .int .i64 31, .int .i64 31, .int .i64 30, .int .i64 31, .int .i64 30, .int .i64 31] : List TV)[(0 + k * 1) + 0]?) = some (.int .i64 (if k + 1 = 4 ∨ k + 1 = 6 ∨ k + 1 = 9 ∨ k + 1 = 11 then 30 else 31))
  | 0, _, _ => rfl
  | 1, _, h => absurd rfl h
  | 2, _, _ => rfl
  | 3, _, _ => rfl
  | 4, _, _ => rfl
  | 5, _, _ => rfl
  | 6, _, _ => rfl
  | 7, _, _ => rfl
  | 8, _, _ => rfl
  | 9, _, _ => rfl
  | 10, _, _ => rfl
  | 11, _, _ => rfl
  | k + 12, h, _ => by omega
theorem calMonth_ok {y m : Nat} (hm : m ≤ 1000000) {st : St} {K : Int → St → Prop} (hk : K (monX y m : Nat) st) : CallT PR fn_calendar_Month [.int .i64 (y : Int), .int .i64 (m : Int)] [.one (.int .i64)] st K := by
  unfold monX at hk
  refine vc_calendar_Month _ _ st K (calValid_ok ?_)
  by_cases hy : 1 ≤ y ∧ y ≤ 9999
  · rw [decide_eq_true hy]
    refine BIf_intro (p := False) (fun h => h.elim) fun _ => BIf_intro (fun g => ?_) fun g => BIf_intro (fun g2 => ?_) fun g2 => ?_
    · rw [if_neg (by omega)] at hk; exact hk
    · rw [if_neg (by omega)] at hk; exact hk
    · rw [if_pos (by omega)] at hk
      unfold monD at hk
      rw [wrap64 _ (by omega) (by omega)]
      refine BIf_intro (fun g3 => calLeap_ok hy.1 hy.2 (BIf_intro (fun g4 => ?_) fun g4 => ?_)) fun g3 => ⟨⟨by omega, by omega⟩, ?_⟩
      · rw [if_pos (by omega), if_pos g4] at hk; exact hk
      · rw [if_pos (by omega), if_neg g4] at hk
        refine ⟨⟨by omega, by omega⟩, ?_⟩
        have : m = 2 := by omega
        subst this
        exact optK_intro (x := .int .i64 28) rfl (decT_int hk)
      · rw [if_neg (by omega)] at hk
        obtain ⟨k, rfl⟩ : ∃ k, m = k + 1 := ⟨m - 1, by omega⟩
        rw [show (((k + 1 : Nat) : Int) - 1) = (k : Int) by omega, Int.toNat_natCast]
        refine optK_intro (days_ix k (by omega) (by omega)) (decT_int ?_)
        split
        · rename_i h; rw [if_pos h] at hk; exact hk
        · rename_i h; rw [if_neg h] at hk; exact hk
  · rw [decide_eq_false hy]
    refine BIf_intro (p := True) (fun _ => ?_) fun h => absurd trivial h
    rw [if_neg (fun h => hy ⟨h.1, h.2.1⟩)] at hk; exact hk
theorem calStart_ok {y : Nat} (h1 : 1 ≤ y) (h2 : y ≤ 1000000) {st : St} {K : Int → St → Prop} (hk : K (yrS y : Nat) st) : CallT PR fn_calendar_start [.int .i64 (y : Int)] [.one (.int .i64)] st K := by
  refine vc_calendar_start _ st K ?_
  obtain ⟨k, rfl⟩ : ∃ k, y = k + 1 := ⟨y - 1, by omega⟩
  unfold yrS at hk
  rw [Nat.add_sub_cancel] at hk
  rw [show (((k + 1 : Nat) : Int) - 1) = (k : Int) by omega, wrap64 (k : Int) (by omega) (by omega), Int.tdiv_eq_ediv_of_nonneg (by omega), Int.tdiv_eq_ediv_of_nonneg (by omega), Int.tdiv_eq_ediv_of_nonneg (by omega)]
  rw [wrap64 (365 * (k : Int)) (by omega) (by omega), wrap64 ((k : Int) / 4) (by omega) (by omega), wrap64 ((k : Int) / 100) (by omega) (by omega), wrap64 ((k : Int) / 400) (by omega) (by omega), wrap64 (365 * (k : Int) + (k : Int) / 4) (by omega) (by omega), wrap64 (365 * (k : Int) + (k : Int) / 4 - (k : Int) / 100) (by omega) (by omega), wrap64 _ (by omega) (by omega)]
  have e : (((365 * k + k / 4 - k / 100 + k / 400 : Nat) : Nat) : Int) = 365 * (k : Int) + (k : Int) / 4 - (k : Int) / 100 + (k : Int) / 400 := by omega
  rw [e] at hk; exact hk
theorem dateTail_ok {n y : Nat} (hy : 1 ≤ y) (hy2 : y ≤ 9999) (h1 : yrS y ≤ n) (h2 : n < yrS (y + 1)) (hn : n ≤ 3652058) {st : St} {K : Int → Int → Int → Int → St → Prop} (hk : ∀ m d : Nat, IsDate n y m d → K y m d 0 st) :
    ∃ (I2 : Int → Int → Int → St → Prop) (M2 : Int → Int → Int → St → Nat), (I2 1 (IntKind.i64.wrap ((n : Int) - (yrS y : Nat))) (y : Int) st) ∧ ∀ (month_1 : Int) (rest_1 : Int) (year_2 : Int) (st5 : St), I2 month_1 rest_1 year_2 st5 → (
      CallT PR fn_calendar_Month [.int .i64 year_2, .int .i64 month_1] [.one (.int .i64)] st5 (fun (n3 : Int) (st6 : St) => BIf (decide (n3 ≤ rest_1)) (
        CallT PR fn_calendar_Month [.int .i64 year_2, .int .i64 month_1] [.one (.int .i64)] st6 (fun (n4 : Int) (st7 : St) => (I2 (IntKind.i64.wrap (month_1 + 1)) (IntKind.i64.wrap (rest_1 - n4)) year_2 st7 ∧ M2 (IntKind.i64.wrap (month_1 + 1)) (IntKind.i64.wrap (rest_1 - n4)) year_2 st7 < M2 month_1 rest_1 year_2 st5)))
        (K year_2 month_1 (IntKind.i64.wrap (rest_1 + 1)) 0 st6))) := by
  rw [wrap64 _ (by omega) (by omega)]
  refine ⟨fun mo re ye st' => (y : Int) = ye ∧ st = st' ∧ ∃ m : Nat, mo = m ∧ 1 ≤ m ∧ m ≤ 12 ∧ re = ((n - yrS y - monS y m : Nat) : Int) ∧ monS y m ≤ n - yrS y, fun mo _ _ _ => (13 - mo).toNat, ⟨rfl, rfl, 1, rfl, by omega, by omega, by show _ = ((n - yrS y - 0 : Nat) : Int); omega, Nat.zero_le _⟩, ?_⟩
  rintro _ _ _ _ ⟨rfl, rfl, m, rfl, hm1, hm2, rfl, hm3⟩
  refine calMonth_ok (by omega) ?_
  rw [monX_of hy hy2 hm1 hm2]
  have hs := monS_succ y hm1
  have hle := monD_le y m
  refine BIf_intro (fun g => calMonth_ok (by omega) ?_) fun g => ?_
  · rw [monX_of hy hy2 hm1 hm2, wrap64 _ (by omega) (by omega), wrap64 _ (by omega) (by omega)]
    have hm : m ≠ 12 := fun e => by
      subst e
      rw [yrS_succ hy] at h2; omega
    exact ⟨⟨rfl, rfl, m + 1, by omega, by omega, by omega, by rw [hs]; omega, by rw [hs]; omega⟩, by dsimp only; omega⟩
  · rw [wrap64 _ (by omega) (by omega)]
    have := hk m (n - yrS y - monS y m + 1) ⟨hy, hy2, hm1, hm2, by omega, by omega, by omega⟩
    exact this
set_option maxRecDepth 20000 in
theorem date_ok {n : Nat} (hn : n ≤ 3652058) {st : St} {K : Int → Int → Int → Int → St → Prop} (hk : ∀ y m d : Nat, IsDate n y m d → K y m d 0 st) : CallT PR fn_calendar_Date [.int .i64 (n : Int)] [.one (.int .i64), .one (.int .i64), .one (.int .i64), .one (.int .i64)] st K := by
  refine vc_calendar_Date _ st K (vc_calendar_known _ st _ (BIf_intro (fun _ => ?_) fun g => by omega))
  rw [decide_eq_true (by omega)]
  refine BIf_intro (p := False) (fun h => h.elim) fun _ => ?_
  rw [Int.tdiv_eq_ediv_of_nonneg (by omega), wrap64 ((n : Int) / 366) (by omega) (by omega), wrap64 _ (by omega) (by omega)]
  refine ⟨fun ye n1 st' => (n : Int) = n1 ∧ st = st' ∧ ∃ y : Nat, ye = y ∧ 1 ≤ y ∧ y ≤ 9999 ∧ yrS y ≤ n, fun ye _ _ => (10000 - ye).toNat, ⟨rfl, rfl, n / 366 + 1, by omega, by omega, by omega, by unfold yrS; rw [Nat.add_sub_cancel]; omega⟩, ?_⟩
  rintro ye _ _ ⟨rfl, rfl, y, hye, hy1, hy2, hy3⟩
  refine BIf_intro (fun g => ?_) fun g => ?_ <;> subst hye
  · rw [wrap64 _ (by omega) (by omega), show ((y : Int) + 1) = ((y + 1 : Nat) : Int) by omega]
    refine calStart_ok (by omega) (by omega) (BIf_intro (fun g2 => ⟨⟨rfl, rfl, y + 1, rfl, by omega, by omega, by omega⟩, by dsimp only; omega⟩) fun g2 => calStart_ok hy1 (by omega) ?_)
    exact dateTail_ok hy1 hy2 hy3 (by omega) hn fun m d hd => hk y m d hd
  · refine calStart_ok hy1 (by omega) ?_
    have : y = 9999 := by omega
    have h10 : yrS (y + 1) = 3652059 := by rw [this]; rfl
    exact dateTail_ok hy1 hy2 hy3 (by omega) hn fun m d hd => hk y m d hd
end Go.TVF
end

section
namespace Go.TVF
open Go Go.Proofs
set_option linter.unusedVariables false
set_option linter.unusedSimpArgs false
theorem digits_ok {n w : Nat} (hw : w ≤ 100) (hn : n ≤ 1000000000000000000) {st : St} {K : List UInt8 → St → Prop} (hk : ∀ st', StExt st st' → K (padD w n) st') : CallT PR fn_moment_digits [.int .i64 (n : Int), .int .i64 (w : Int)] [.one .str] st K := by
  refine vc_moment_digits _ _ st K ⟨⟨by omega, by omega, by rw [Int.toNat_natCast]; omega⟩, ?_⟩
  rw [Int.toNat_natCast, wrap64 _ (by omega) (by omega)]
  refine ⟨fun n1 i b st' => TV.ms 1 st.nb 0 w w = b ∧ ∃ (j m : Nat) (t : List UInt8), i = (j : Int) - 1 ∧ n1 = m ∧ m ≤ n ∧ j + t.length = w ∧ padD w n = padD j m ++ t ∧ BxB st st' b (List.replicate j 0 ++ t), fun _ i _ _ => (i + 1).toNat, ⟨rfl, w, n, [], rfl, rfl, Nat.le_refl _, rfl, by simp, by simpa using BxB.make (StExt.refl st) w⟩, ?_⟩
  rintro _ _ _ st1 ⟨rfl, j, m, t, rfl, rfl, hm, hj, he, hb⟩
  have hlen : (List.replicate j (0 : UInt8) ++ t).length = w := by simp; omega
  refine BIf_intro (fun g => ?_) fun g => ?_
  · obtain ⟨i, rfl⟩ : ∃ i, j = i + 1 := ⟨j - 1, by omega⟩
    have hi : (((i + 1 : Nat) : Int) - 1) = (i : Int) := by omega
    rw [hi, hb.rd.lenZ, Int.toNat_natCast]
    refine ⟨⟨by omega, by omega⟩, hb.set (c := (48 + m % 10).toUInt8) (by rw [dg_w8 _ rfl]; rfl) (by omega) fun st2 hb2 => ?_⟩
    have hd : IntKind.i64.wrap ((m : Int).tdiv 10) = ((m / 10 : Nat) : Int) := by rw [Int.tdiv_eq_ediv_of_nonneg (by omega), wrap64 _ (by omega) (by omega)]; omega
    rw [hd, wrap64 _ (by omega) (by omega)]
    refine ⟨⟨rfl, i, m / 10, (48 + m % 10).toUInt8 :: t, rfl, rfl, by omega, by rw [List.length_cons]; omega, by rw [he, padD, List.append_assoc]; rfl, ?_⟩, by dsimp only; omega⟩
    have : (List.replicate (i + 1) (0 : UInt8) ++ t).set i (48 + m % 10).toUInt8 = List.replicate i 0 ++ (48 + m % 10).toUInt8 :: t := by
      rw [List.replicate_succ', List.append_assoc, List.set_append_right _ _ (by simp), List.length_replicate, Nat.sub_self]; rfl
    rw [← this]; exact hb2
  · have : j = 0 := by omega
    subst this
    rw [List.replicate_zero, List.nil_append] at hb
    rw [padD, List.nil_append] at he
    rw [← he] at hb
    exact hb.str (hk _ hb.ext)
theorem dateText_ok {n : Nat} (hn : n ≤ 3652058) {st : St} {K : List UInt8 → St → Prop} (hk : ∀ st', StExt st st' → K (datT n) st') : CallT PR fn_moment_dateText [.int .i64 (n : Int)] [.one .str] st K := by
  refine vc_moment_dateText _ st K (date_ok hn fun y m d hd => ?_)
  have he := datT_eq hd
  obtain ⟨a1, a2, a3, a4, a5, a6, a7⟩ := hd
  have hm := monD_le y m
  have l4 := padD_len 4 y
  have l2 := padD_len 2 m
  have l3 := padD_len 2 d
  refine digits_ok (w := 4) (by omega) (by omega) fun st1 e1 => ⟨by rw [l4]; show 4 + 1 ≤ _; omega, digits_ok (w := 2) (by omega) (by omega) fun st2 e2 => ⟨by rw [List.length_append, l4, l2]; show 4 + 1 + 2 ≤ _; omega, by rw [List.length_append, List.length_append, l4, l2]; show 4 + 1 + 2 + 1 ≤ _; omega, digits_ok (w := 2) (by omega) (by omega) fun st3 e3 => ⟨by simp only [List.length_append, l4, l2, l3]; show 4 + 1 + 2 + 1 + 2 ≤ _; omega, ?_⟩⟩⟩
  have := hk st3 ((e1.trans e2).trans e3)
  rw [he, List.append_cons, List.append_cons, List.append_assoc (padD 4 y ++ [45]), ← List.append_assoc, ← List.append_assoc] at this
  exact this
theorem last_split {f : List UInt8} (h : f ≠ []) : f = f.take (f.length - 1) ++ [f.getD (f.length - 1) 0] := by
  have hp := List.length_pos_iff.2 h
  have := getD_take f (f.length - 1) 0 (by omega)
  rw [show f.length - 1 + 1 = f.length by omega, List.take_length] at this
  exact this
theorem clockText_ok {n : Nat} (hn : n ≤ 86399999999999) {st : St} {K : List UInt8 → St → Prop} (hk : ∀ st', StExt st st' → K (clkT n) st') : CallT PR fn_moment_clockText [.int .i64 (n : Int)] [.one .str] st K := by
  refine vc_moment_clockText _ st K ?_
  have e1 : IntKind.i64.wrap ((n : Int).tdiv 1000000000) = ((n / 1000000000 : Nat) : Int) := by rw [Int.tdiv_eq_ediv_of_nonneg (by omega), wrap64 _ (by omega) (by omega)]; omega
  have e2 : IntKind.i64.wrap (((n / 1000000000 : Nat) : Int).tdiv 3600) = ((n / 1000000000 / 3600 : Nat) : Int) := by rw [Int.tdiv_eq_ediv_of_nonneg (by omega), wrap64 _ (by omega) (by omega)]; omega
  have e3 : (IntKind.i64.wrap (((n / 1000000000 : Nat) : Int).tdiv 60)).tmod 60 = ((n / 1000000000 / 60 % 60 : Nat) : Int) := by
    rw [Int.tdiv_eq_ediv_of_nonneg (by omega), wrap64 _ (by omega) (by omega), Int.tmod_eq_emod_of_nonneg (by omega)]; omega
  have e4 : ((n / 1000000000 : Nat) : Int).tmod 60 = ((n / 1000000000 % 60 : Nat) : Int) := by rw [Int.tmod_eq_emod_of_nonneg (by omega)]; omega
  have e5 : (n : Int).tmod 1000000000 = ((n % 1000000000 : Nat) : Int) := by rw [Int.tmod_eq_emod_of_nonneg (by omega)]; omega
  rw [e1, e2, e3, e4, e5]
  have l1 := padD_len 2 (n / 1000000000 / 3600)
  have l2 := padD_len 2 (n / 1000000000 / 60 % 60)
  have l3 := padD_len 2 (n / 1000000000 % 60)
  refine digits_ok (w := 2) (by omega) (by omega) fun st1 x1 => ⟨by rw [l1]; show 2 + 1 ≤ _; omega, digits_ok (w := 2) (by omega) (by omega) fun st2 x2 => ⟨by rw [List.length_append, l1, l2]; show 2 + 1 + 2 ≤ _; omega, by rw [List.length_append, List.length_append, l1, l2]; show 2 + 1 + 2 + 1 ≤ _; omega, digits_ok (w := 2) (by omega) (by omega) fun st3 x3 => ⟨by simp only [List.length_append, l1, l2, l3]; show 2 + 1 + 2 + 1 + 2 ≤ _; omega, ?_⟩⟩⟩
  have e0 := (x1.trans x2).trans x3
  have hpre : ∀ (f : List UInt8), padD 2 (n / 1000000000 / 3600) ++ 58 :: (padD 2 (n / 1000000000 / 60 % 60) ++ 58 :: (padD 2 (n / 1000000000 % 60) ++ f)) = ((((padD 2 (n / 1000000000 / 3600) ++ [58]) ++ padD 2 (n / 1000000000 / 60 % 60)) ++ [58]) ++ padD 2 (n / 1000000000 % 60)) ++ f := fun f => by
    simp only [List.append_assoc, List.cons_append, List.nil_append]
  unfold clkT at hk
  rw [hpre] at hk
  generalize hP : ((((padD 2 (n / 1000000000 / 3600) ++ [58]) ++ padD 2 (n / 1000000000 / 60 % 60)) ++ [58]) ++ padD 2 (n / 1000000000 % 60)) = P at hk
  have hPl : P.length = 8 := by rw [← hP]; simp only [List.length_append, l1, l2, l3]; rfl
  have hP2 : ((((padD 2 (n / 1000000000 / 3600) ++ str34) ++ padD 2 (n / 1000000000 / 60 % 60)) ++ str34) ++ padD 2 (n / 1000000000 % 60)) = P := hP
  rw [hP2]
  refine BIf_intro (fun g => ?_) fun g => ?_
  · have := hk st3 e0
    rw [if_pos (by omega), List.append_nil] at this
    exact this
  · rw [if_neg (by omega)] at hk
    have hr0 : n % 1000000000 ≠ 0 := by omega
    have hcne := cut0_ne (n := n % 1000000000) (by omega) hr0
    refine digits_ok (w := 9) (by omega) (by omega) fun st4 x4 => ⟨fun f s st' => P = s ∧ st4 = st' ∧ cut0 f = cut0 (padD 9 (n % 1000000000)) ∧ f.length ≤ 9, fun f _ _ => f.length, ⟨rfl, rfl, rfl, by rw [padD_len]; omega⟩, ?_⟩
    rintro f _ _ ⟨rfl, rfl, hf, hfl⟩
    have hfne : f ≠ [] := fun e => by
      rw [e] at hf
      exact hcne (hf.symm.trans rfl)
    have hp := List.length_pos_iff.2 hfne
    rw [wrap64 _ (by omega) (by omega), show Int.toNat ((f.length : Int) - 1) = f.length - 1 by omega]
    have hsp := last_split hfne
    have hsn := cut0_snoc (f.take (f.length - 1)) (f.getD (f.length - 1) 0)
    rw [← hsp] at hsn
    refine ⟨⟨by omega, by omega⟩, BIf_intro (fun g2 => ⟨⟨by omega, by omega⟩, ⟨rfl, rfl, ?_, by rw [List.length_take]; omega⟩, by dsimp only; rw [List.length_take]; omega⟩) fun g2 => ⟨by rw [hPl]; show 8 + 1 ≤ _; omega, by rw [List.length_append, hPl]; show 8 + 1 + _ ≤ _; omega, ?_⟩⟩
    · rw [if_pos (UInt8.toNat_inj.1 (by show _ = 48; omega))] at hsn
      rw [← hsn]; exact hf
    · rw [if_neg (fun e => g2 (by rw [e]; rfl))] at hsn
      have := hk st4 (e0.trans x4)
      rw [← hf, hsn, List.append_cons] at this
      exact this
theorem offsetText_ok {z : Int} (h1 : -1439 ≤ z) (h2 : z ≤ 1439) {st : St} {K : List UInt8 → St → Prop} (hk : ∀ st', StExt st st' → K (offT z) st') : CallT PR fn_moment_offsetText [.int .i64 z] [.one .str] st K := by
  unfold offT at hk
  refine vc_moment_offsetText _ st K (BIf_intro (fun g => ?_) fun g => ?_)
  · have := hk st (StExt.refl _)
    rw [if_pos g] at this; exact this
  · rw [if_neg g] at hk
    have l1 := padD_len 2 (z.natAbs / 60)
    have l2 := padD_len 2 (z.natAbs % 60)
    refine BIf_intro (fun g2 => ?_) fun g2 => ?_
    · rw [if_pos g2] at hk
      have e1 : IntKind.i64.wrap ((IntKind.i64.wrap (0 - z)).tdiv 60) = ((z.natAbs / 60 : Nat) : Int) := by rw [wrap64 (0 - z) (by omega) (by omega), Int.tdiv_eq_ediv_of_nonneg (by omega), wrap64 _ (by omega) (by omega)]; omega
      have e2 : (IntKind.i64.wrap (0 - z)).tmod 60 = ((z.natAbs % 60 : Nat) : Int) := by rw [wrap64 (0 - z) (by omega) (by omega), Int.tmod_eq_emod_of_nonneg (by omega)]; omega
      rw [e1, e2]
      refine digits_ok (w := 2) (by omega) (by omega) fun st1 x1 => ⟨by rw [l1]; show 1 + 2 ≤ _; omega, by rw [List.length_append, l1]; show 1 + 2 + 1 ≤ _; omega, digits_ok (w := 2) (by omega) (by omega) fun st2 x2 => ⟨by simp only [List.length_append, l1, l2]; show 1 + 2 + 1 + 2 ≤ _; omega, ?_⟩⟩
      have := hk st2 (x1.trans x2)
      rw [← List.cons_append, List.append_cons] at this
      exact this
    · rw [if_neg g2] at hk
      have e1 : IntKind.i64.wrap (z.tdiv 60) = ((z.natAbs / 60 : Nat) : Int) := by rw [Int.tdiv_eq_ediv_of_nonneg (by omega), wrap64 _ (by omega) (by omega)]; omega
      have e2 : z.tmod 60 = ((z.natAbs % 60 : Nat) : Int) := by rw [Int.tmod_eq_emod_of_nonneg (by omega)]; omega
      rw [e1, e2]
      refine digits_ok (w := 2) (by omega) (by omega) fun st1 x1 => ⟨by rw [l1]; show 1 + 2 ≤ _; omega, by rw [List.length_append, l1]; show 1 + 2 + 1 ≤ _; omega, digits_ok (w := 2) (by omega) (by omega) fun st2 x2 => ⟨by simp only [List.length_append, l1, l2]; show 1 + 2 + 1 + 2 ≤ _; omega, ?_⟩⟩
      have := hk st2 (x1.trans x2)
      rw [← List.cons_append, List.append_cons] at this
      exact this
end Go.TVF
end

section
namespace Go.TVF
open Go Go.Proofs
set_option linter.unusedVariables false
set_option linter.unusedSimpArgs false
theorem noEscape_ok {b : Nat} {st : St} {K : TV → St → Prop} (hk : K (.box b 0) st) : CallT PR fn_abi_NoEscape [.box b 0] [.one (.tv)] st K := by
  refine tcalls_value fun g w vargs s hr => ?_
  obtain ⟨v, rfl, hv⟩ := relL_one hr
  refine ⟨v, w, ?_, .box b 0, st, g, hk, s, hv, Ext.refl _ _⟩
  show (callFunc 320 #[v]).run Tryz.prog w = _
  rw [run_callFunc_extern Tryz.func320 (by kernel_rfl) (by kernel_rfl) (by kernel_rfl) (e := Extern.AbiNoEscape.same) (by kernel_rfl)]
  rfl
/-- A builder that the call has made (behind the state st0), and what it holds. -/
def Bld (st0 : St) (b : Nat) (st : St) (buf : List UInt8) : Prop :=
  StExt st0 st ∧ st0.nb ≤ b ∧ b < st.nb ∧ st.bt b = some tyBld ∧ ∃ p v, st.box b = .cells [p, v] ∧ (p = .nilPtr ∨ p = .box b 0) ∧
    ((v = .nilSlice ∧ buf = []) ∨ ∃ id, v = .list 1 (.own id) buf.length (bytesT buf) ∧ buf ≠ [] ∧ st0.nt ≤ id ∧ id < st.nt ∧ st.live id = true ∧ st.ty id = some 5)
theorem Bld.new {st0 st : St} (e : StExt st0 st) : Bld st0 st.nb (st.push (.cells [.nilPtr, .nilSlice]) (some tyBld)) [] :=
  ⟨e.push _ _, e.nb, by simp [St.push], by simp [St.push], .nilPtr, .nilSlice, box_push _ _ _, .inl rfl, .inl ⟨rfl, rfl⟩⟩
theorem Bld.ext {st0 st : St} {b : Nat} {buf : List UInt8} (h : Bld st0 b st buf) : StExt st0 st := h.1
theorem Bld.keep {st0 st st' : St} {b : Nat} {buf : List UInt8} (h : Bld st0 b st buf) (e : StExt st st') : Bld st0 b st' buf := by
  obtain ⟨h0, h1, h2, h3, p, v, hb, hp, hv⟩ := h
  refine ⟨h0.trans e, h1, Nat.lt_of_lt_of_le h2 e.nb, (e.bt b h2).trans h3, p, v, (e.box b h2).trans hb, hp, ?_⟩
  rcases hv with hv | ⟨id, rfl, n1, n2, n3, n4, n5⟩
  · exact .inl hv
  · exact .inr ⟨id, rfl, n1, n2, Nat.lt_of_lt_of_le n3 e.nt, (e.live id n3).trans n4, (e.ty id n3).trans n5⟩
/-- What a write to a builder leaves: all boxes but its own. -/
theorem copyCheck_ok {st0 st : St} {b : Nat} {buf : List UInt8} {K : St → Prop} (h : Bld st0 b st buf) (hk : ∀ st', Bld st0 b st' buf → StX (· = b) st st' → K st') : CallT PR fn_strings_Builder_copyCheck [.box b 0] [] st K := by
  have h0 := h
  obtain ⟨e, h1, h2, h3, p, v, hb, hp, hv⟩ := h
  refine vc_strings_Builder_copyCheck b st K (optK_intro (x := p) (by simp [ldCell, hb]) (need_intro (by rcases hp with rfl | rfl <;> rfl) ?_))
  rcases hp with rfl | rfl
  · refine (show BIf true _ _ from ⟨by simp [ldCell, hb], noEscape_ok ?_⟩)
    refine ⟨⟨rfl, h3, _, hb, rfl⟩, need_intro rfl ⟨_, hb, by simp, hk _ ?_ (StX.put (S := (· = b)) rfl _)⟩⟩
    exact ⟨e.put h1 _, h1, h2, h3, .box b 0, v, box_put _ _ _, .inr rfl, hv⟩
  · exact (show BIf false _ _ from optK_intro (x := .box b 0) (by simp [ldCell, hb]) ⟨rfl, hk st h0 (StX.refl _ _)⟩)
theorem writeAny_ok {st0 st : St} {b : Nat} {buf s : List UInt8} {xs : List TV} {n : Nat} (hn : n = s.length) (hxs : xs = bytesT s) (h : Bld st0 b st buf) (hl : buf.length + s.length ≤ 140737488355328) {K : St → Prop} (hk : ∀ st', Bld st0 b st' (buf ++ s) → (∀ i, i ≠ b → i < st.nb → st'.box i = st.box i) → st.nb ≤ st'.nb → K st') :
    ∃ v1, ldCell st [] (.t (.box b 1)) 0 = some v1 ∧ appK 5 1 1 v1 n xs st fun (v2 : TV) (st2 : St) => need (List.all [v2] oneT) (stB st2 (.box b 1) [v2] fun st3 => K st3) := by
  subst hn hxs
  obtain ⟨e, a1, a2, a3, p, v, hb, hp, hv⟩ := h
  refine ⟨v, by simp [ldCell, hb], ?_⟩
  rcases hv with ⟨rfl, rfl⟩ | ⟨id, rfl, n1, n2, n3, n4, n5⟩
  · cases s with
    | nil =>
      simp only [appK, List.length_nil, bytesT, List.map_nil]
      exact need_intro rfl ⟨_, hb, by simp, hk _ ⟨e.put a1 _, a1, a2, a3, p, .nilSlice, box_put _ _ _, hp, .inl ⟨rfl, rfl⟩⟩ (fun i hi _ => by simp only [St.put]; rw [if_neg hi]) (Nat.le_refl _)⟩
    | cons c r =>
      simp only [appK, List.length_cons, Nat.mul_one]
      refine need_intro (by simp only [List.length_nil, List.length_cons] at hl; simp; omega) (need_intro rfl ⟨_, hb, by simp, hk _ ?_ (fun i hi _ => by simp only [St.put]; rw [if_neg hi]; rfl) (by simp [St.put, St.fresh])⟩)
      exact ⟨(e.fresh _).put a1 _, a1, a2, a3, p, _, box_put _ _ _, hp, .inr ⟨st.nt, rfl, by simp, e.nt, by simp [St.put, St.fresh], by simp [St.put, St.fresh], by simp [St.put, St.fresh]⟩⟩
  · simp only [appK, Nat.beq_refl, Nat.mul_one]
    refine ⟨hl, n4, need_intro rfl ⟨_, hb, by simp, hk _ ?_ (fun i hi _ => by simp only [St.put]; rw [if_neg hi]; rfl) (by simp [St.put, St.fresh, St.retire])⟩⟩
    refine ⟨((e.retire n2).fresh _).put a1 _, a1, a2, a3, p, _, box_put _ _ _, hp, .inr ⟨st.nt, ?_, by simp [n1], e.nt, by simp [St.put, St.fresh, St.retire], by simp [St.put, St.fresh, St.retire], by simp [St.put, St.fresh, St.retire, n5, tyJoin]⟩⟩
    rw [List.length_append, ← bytesT_append]
/-- All boxes but one stay. -/
def But (b : Nat) (a c : St) : Prop := a.nb ≤ c.nb ∧ ∀ i, i ≠ b → i < a.nb → c.box i = a.box i
theorem But.refl (b : Nat) (a : St) : But b a a := ⟨Nat.le_refl _, fun _ _ _ => rfl⟩
theorem But.trans {b : Nat} {x y z : St} (h : But b x y) (k : But b y z) : But b x z := ⟨Nat.le_trans h.1 k.1, fun i hi hl => (k.2 i hi (Nat.lt_of_lt_of_le hl h.1)).trans (h.2 i hi hl)⟩
theorem But.of {b : Nat} {x y : St} (e : StExt x y) : But b x y := ⟨e.nb, fun i _ hl => e.box i hl⟩
theorem But.ofX {b : Nat} {x y : St} (e : StX (· = b) x y) : But b x y := ⟨e.nb, fun i hi hl => e.box i hl hi⟩
theorem writeString_ok {st0 st : St} {b : Nat} {buf s : List UInt8} {K : Int → TV → St → Prop} (h : Bld st0 b st buf) (hl : buf.length + s.length ≤ 1000000000) (hk : ∀ st', Bld st0 b st' (buf ++ s) → But b st st' → K (s.length : Int) .nilIface st') :
    CallT PR fn_strings_Builder_WriteString [.box b 0, .str s] [.one (.int .i64), .one (.tv)] st K := by
  refine vc_strings_Builder_WriteString b s st K (copyCheck_ok h fun st1 h1 e1 => ?_)
  obtain ⟨v1, hv1, hA⟩ := writeAny_ok (n := s.length) (xs := bytesT s) rfl rfl h1 (by omega) (K := fun st3 => K (s.length : Int) .nilIface st3) fun st' hb hx hn => hk st' hb ((But.ofX e1).trans ⟨hn, hx⟩)
  exact optK_intro hv1 (optK_intro (src_str st1 s) (need_intro (bytes_one s) hA))
theorem writeByte_ok {st0 st : St} {b : Nat} {buf : List UInt8} {c : Int} (x : UInt8) {K : TV → St → Prop} (hc : c = x.toNat) (h : Bld st0 b st buf) (hl : buf.length + 1 ≤ 1000000000) (hk : ∀ st', Bld st0 b st' (buf ++ [x]) → But b st st' → K .nilIface st') :
    CallT PR fn_strings_Builder_WriteByte [.box b 0, .int .u8 c] [.one (.tv)] st K := by
  refine vc_strings_Builder_WriteByte b c st K (copyCheck_ok h fun st1 h1 e1 => ?_)
  obtain ⟨v1, hv1, hA⟩ := writeAny_ok (n := 1) (xs := [.int .u8 c]) (s := [x]) rfl (by rw [hc]; rfl) h1 (by rw [List.length_singleton]; omega) (K := fun st3 => K .nilIface st3) fun st' hb hx hn => hk st' hb ((But.ofX e1).trans ⟨hn, hx⟩)
  exact optK_intro hv1 hA
theorem builderString_ok {st0 st : St} {b : Nat} {buf : List UInt8} {K : List UInt8 → St → Prop} (h : Bld st0 b st buf) (hl : buf.length ≤ 140737488355328) (hk : ∀ st', StExt st0 st' → K buf st') :
    CallT PR fn_strings_Builder_String [.box b 0] [.one (.str)] st K := by
  obtain ⟨e, h1, h2, h3, p, v, hb, hp, hv⟩ := h
  have hld : ldCell st [] (.t (.box b 1)) 0 = some v := by simp [ldCell, hb]
  rcases hv with ⟨rfl, rfl⟩ | ⟨id, rfl, n1, n2, n3, n4, n5⟩
  · refine vc_strings_Builder_String b st K (optK_intro hld (optK_intro (x := .nilPtr) rfl (optK_intro hld (need_intro rfl ?_))))
    exact ⟨rfl, hk st e⟩
  · refine vc_strings_Builder_String b st K (optK_intro hld (optK_intro (x := .sptr (.list 1 (.own id) buf.length (bytesT buf))) ?_ (optK_intro hld (need_intro rfl ?_))))
    case refine_2 => exact ⟨⟨rfl, by omega, n4, n5⟩, optK_intro (asBytes_bytesT buf) (hk _ (e.retire n2))⟩
    simp only [sdataO]
    cases hz : buf.length.beq 0 with
    | true => exact absurd (List.eq_nil_of_length_eq_zero (Nat.eq_of_beq_eq_true hz)) n1
    | false => rfl
def shortN (c : UInt8) : Nat := if c = 34 ∨ c = 92 then c.toNat else if c = 8 then 98 else if c = 12 then 102 else if c = 10 then 110 else if c = 13 then 114 else if c = 9 then 116 else 0
theorem u8_eq {c : UInt8} {k : UInt8} : ((c.toNat : Int) = (k.toNat : Int)) ↔ c = k := by
  constructor
  · intro h; exact UInt8.toNat_inj.1 (by omega)
  · intro h; rw [h]
theorem short_ok {c : UInt8} {st : St} {K : Int → St → Prop} (hk : K (shortN c : Nat) st) : CallT PR fn_canon_short [.int .u8 (c.toNat : Int)] [.one (.int .u8)] st K := by
  unfold shortN at hk
  refine vc_canon_short _ st K ⟨fun b x y st' => b = decide (c = 34 ∨ c = 92) ∧ (c.toNat : Int) = x ∧ (c.toNat : Int) = y ∧ st = st', BIf_intro (fun g => ⟨decide_eq_decide.2 ⟨fun _ => .inl (u8_eq.1 g), fun _ => g⟩, rfl, rfl, rfl⟩) fun g => ⟨decide_eq_decide.2 ⟨fun h => .inr (u8_eq.1 h), fun h => by
    rcases h with h | h
    · exact absurd (u8_eq.2 h) g
    · exact u8_eq.2 h⟩, rfl, rfl, rfl⟩, ?_⟩
  rintro _ _ _ _ ⟨rfl, rfl, rfl, rfl⟩
  refine BIf_intro (fun g => ?_) fun g => ?_
  · rw [if_pos g] at hk; exact hk
  rw [if_neg g] at hk
  have step : ∀ {k : UInt8} {A B : Prop} (k' : Int), k' = (k.toNat : Int) → (c = k → A) → (c ≠ k → B) → BIf (decide ((c.toNat : Int) = k')) A B := fun {k A B} k' e h1 h2 => by
    subst e
    exact BIf_intro (fun h => h1 (u8_eq.1 h)) fun h => h2 fun e => h (u8_eq.2 e)
  refine step (k := 8) 8 rfl (fun h => by rw [if_pos h] at hk; exact hk) fun h1 => step (k := 12) 12 rfl (fun h => by rw [if_neg h1, if_pos h] at hk; exact hk) fun h2 => step (k := 10) 10 rfl (fun h => by rw [if_neg h1, if_neg h2, if_pos h] at hk; exact hk) fun h3 => step (k := 13) 13 rfl (fun h => by rw [if_neg h1, if_neg h2, if_neg h3, if_pos h] at hk; exact hk) fun h4 => step (k := 9) 9 rfl (fun h => by rw [if_neg h1, if_neg h2, if_neg h3, if_neg h4, if_pos h] at hk; exact hk) fun h5 => ?_
  rw [if_neg h1, if_neg h2, if_neg h3, if_neg h4, if_neg h5] at hk
  exact hk
theorem hexD16 : ∀ k : Nat, k < 16 → ([48, 49, 50, 51, 52, 53, 54, 55, 56, 57, 97, 98, 99, 100, 101, 102] : List UInt8).getD k 0 = hxD k
  | 0, _ => rfl
  | 1, _ => rfl
  | 2, _ => rfl
  | 3, _ => rfl
  | 4, _ => rfl
  | 5, _ => rfl
  | 6, _ => rfl
  | 7, _ => rfl
  | 8, _ => rfl
  | 9, _ => rfl
  | 10, _ => rfl
  | 11, _ => rfl
  | 12, _ => rfl
  | 13, _ => rfl
  | 14, _ => rfl
  | 15, _ => rfl
  | k + 16, h => by omega
theorem escB_short {c : UInt8} (h : shortN c ≠ 0) : ∃ x : UInt8, escB c = [92, x] ∧ shortN c = x.toNat := by
  unfold shortN at h ⊢
  unfold escB
  by_cases g : c = 34 ∨ c = 92
  · rw [if_pos g, if_pos g]; exact ⟨c, rfl, rfl⟩
  rw [if_neg g] at h ⊢
  rw [if_neg g]
  by_cases g1 : c = 8
  · rw [if_pos g1, if_pos g1]; exact ⟨98, rfl, rfl⟩
  rw [if_neg g1] at h ⊢
  rw [if_neg g1]
  by_cases g2 : c = 12
  · rw [if_pos g2, if_pos g2]; exact ⟨102, rfl, rfl⟩
  rw [if_neg g2] at h ⊢
  rw [if_neg g2]
  by_cases g3 : c = 10
  · rw [if_pos g3, if_pos g3]; exact ⟨110, rfl, rfl⟩
  rw [if_neg g3] at h ⊢
  rw [if_neg g3]
  by_cases g4 : c = 13
  · rw [if_pos g4, if_pos g4]; exact ⟨114, rfl, rfl⟩
  rw [if_neg g4] at h ⊢
  rw [if_neg g4]
  by_cases g5 : c = 9
  · rw [if_pos g5, if_pos g5]; exact ⟨116, rfl, rfl⟩
  rw [if_neg g5] at h
  exact absurd rfl h
theorem escB_long {c : UInt8} (h : shortN c = 0) : escB c = if c.toNat < 32 then [92, 117, 48, 48, hxD (c.toNat / 16), hxD (c.toNat % 16)] else [c] := by
  unfold shortN at h
  unfold escB
  by_cases g : c = 34 ∨ c = 92
  · rw [if_pos g] at h
    rcases g with g | g
    · exact absurd h (by rw [g]; decide)
    · exact absurd h (by rw [g]; decide)
  rw [if_neg g] at h
  by_cases g1 : c = 8
  · rw [if_pos g1] at h; omega
  rw [if_neg g1] at h
  by_cases g2 : c = 12
  · rw [if_pos g2] at h; omega
  rw [if_neg g2] at h
  by_cases g3 : c = 10
  · rw [if_pos g3] at h; omega
  rw [if_neg g3] at h
  by_cases g4 : c = 13
  · rw [if_pos g4] at h; omega
  rw [if_neg g4] at h
  by_cases g5 : c = 9
  · rw [if_pos g5] at h; omega
  rw [if_neg g, if_neg g1, if_neg g2, if_neg g3, if_neg g4, if_neg g5]
theorem fdiv16 (n : Nat) : Int.fdiv (n : Int) (2 ^ (min (Int.toNat (4 : Int)) (IntKind.bits .u8))) = ((n / 16 : Nat) : Int) := by
  have h2 : ((2 : Int) ^ (min (Int.toNat (4 : Int)) (IntKind.bits .u8))) = 16 := by decide
  rw [h2, Int.fdiv_eq_ediv_of_nonneg _ (by omega)]; omega
theorem and_u8' (x y : Nat) (hx : x < 2 ^ 8) (hy : y < 2 ^ 8) : bitsI .and .u8 (x : Int) (y : Int) = ((x &&& y : Nat) : Int) := by
  have h : x &&& y < 2 ^ 8 := Nat.and_lt_two_pow _ hy
  show IntKind.wrap .u8 ((BitVec.ofInt 8 (x : Int) &&& BitVec.ofInt 8 (y : Int)).toNat : Int) = _
  simp only [BitVec.ofInt_natCast, BitVec.toNat_and, BitVec.toNat_ofNat]
  rw [Nat.mod_eq_of_lt (by omega), Nat.mod_eq_of_lt (by omega), wrapU8 _ (by omega) (by omega)]
theorem and15 (c : UInt8) : bitsI .and .u8 (c.toNat : Int) (15 : Int) = ((c.toNat % 16 : Nat) : Int) := by
  have hb := c.toNat_lt
  have := and_u8' c.toNat (2 ^ 4 - 1) (by omega) (by decide)
  rw [Nat.and_two_pow_sub_one_eq_mod] at this
  exact this
theorem flatMap_take_len (s : List UInt8) (k : Nat) : ((s.take k).flatMap escB).length ≤ 6 * s.length := by
  have h : ∀ l : List UInt8, (l.flatMap escB).length ≤ 6 * l.length := by
    intro l
    induction l with
    | nil => simp
    | cons c r ih =>
      rw [List.flatMap_cons, List.length_append, List.length_cons]
      have := escB_len c
      omega
  have := h (s.take k)
  rw [List.length_take] at this; omega
theorem quote_ok {st0 st : St} {b : Nat} {buf s : List UInt8} {K : St → Prop} (h : Bld st0 b st buf) (hl : buf.length + 6 * s.length + 2 ≤ 900000000) (hk : ∀ st', Bld st0 b st' (buf ++ quB s) → But b st st' → K st') :
    CallT PR fn_canon_quote [.box b 0, .str s] [] st K := by
  refine vc_canon_quote b s st K (writeByte_ok 34 rfl h (by omega) fun st1 h1 e1 => ?_)
  refine ⟨fun i w s1 st' => TV.box b 0 = w ∧ s = s1 ∧ But b st st' ∧ ∃ k : Nat, i = k ∧ k ≤ s.length ∧ Bld st0 b st' (buf ++ [34] ++ (s.take k).flatMap escB), fun i _ _ _ => (s.length - i).toNat, ⟨rfl, rfl, e1, 0, rfl, Nat.zero_le _, by simpa using h1⟩, ?_⟩
  rintro _ _ _ st2 ⟨rfl, rfl, e2, k, rfl, hk1, h2⟩
  have hfl := flatMap_take_len s k
  refine BIf_intro (fun g => ?_) fun g => ?_
  · rw [Int.toNat_natCast]
    have hsn : (s.take (k + 1)).flatMap escB = (s.take k).flatMap escB ++ escB (s.getD k 0) := by
      rw [getD_take s k 0 (by omega), List.flatMap_append, List.flatMap_cons, List.flatMap_nil, List.append_nil]
    have hle := escB_len (s.getD k 0)
    generalize s.getD k 0 = c at hsn hle
    have hlen : (buf ++ [34] ++ (s.take k).flatMap escB).length ≤ 900000000 := by simp only [List.length_append, List.length_singleton]; omega
    have fin : ∀ st', Bld st0 b st' (buf ++ [34] ++ (s.take k).flatMap escB ++ escB c) → But b st2 st' → (TV.box b 0 = TV.box b 0 ∧ s = s ∧ But b st st' ∧ ∃ k' : Nat, IntKind.i64.wrap ((k : Int) + 1) = k' ∧ k' ≤ s.length ∧ Bld st0 b st' (buf ++ [34] ++ (s.take k').flatMap escB)) ∧ ((s.length : Int) - IntKind.i64.wrap ((k : Int) + 1)).toNat < ((s.length : Int) - (k : Int)).toNat := fun st' hb he => by
      rw [wrap64 _ (by omega) (by omega)]
      refine ⟨⟨rfl, rfl, e2.trans he, k + 1, by omega, by omega, ?_⟩, by omega⟩
      rw [hsn, ← List.append_assoc]; exact hb
    refine ⟨⟨by omega, by omega⟩, short_ok (BIf_intro (fun g2 => ?_) fun g2 => ?_)⟩
    · obtain ⟨x, hx, hx2⟩ := escB_short (c := c) (by omega)
      refine writeByte_ok 92 rfl h2 (by omega) fun st3 h3 e3 => writeByte_ok x (by omega) h3 (by rw [List.length_append, List.length_singleton]; omega) fun st4 h4 e4 => fin st4 ?_ (e3.trans e4)
      rw [hx]; simpa using h4
    · have hx := escB_long (c := c) (by omega)
      have hb := c.toNat_lt
      refine BIf_intro (fun g3 => ?_) fun g3 => ?_
      · rw [if_pos (by omega)] at hx
        rw [fdiv16, and15, Int.toNat_natCast, Int.toNat_natCast]
        have l16 : c.toNat / 16 < 16 := by omega
        have r16 : c.toNat % 16 < 16 := by omega
        refine writeString_ok h2 (by show _ + 4 ≤ _; omega) fun st3 h3 e3 => ⟨⟨by omega, by show _ < (16 : Int); omega⟩, writeByte_ok (hxD (c.toNat / 16)) (by rw [← hexD16 _ l16]; rfl) h3 (by rw [List.length_append]; show _ + 4 + 1 ≤ _; omega) fun st4 h4 e4 => ⟨⟨by omega, by show _ < (16 : Int); omega⟩, writeByte_ok (hxD (c.toNat % 16)) (by rw [← hexD16 _ r16]; rfl) h4 (by rw [List.length_append, List.length_append]; show _ + 4 + 1 + 1 ≤ _; omega) fun st5 h5 e5 => fin st5 ?_ ((e3.trans e4).trans e5)⟩⟩
        rw [hx, List.append_cons _ 92, List.append_cons _ 117, List.append_cons _ 48, List.append_cons _ 48, List.append_cons]
        have e4 : ∀ l : List UInt8, l ++ [92, 117, 48, 48] = (((l ++ [92]) ++ [117]) ++ [48]) ++ [48] := fun l => by simp
        rw [← e4]
        exact h5
      · rw [if_neg (by omega)] at hx
        refine writeByte_ok c rfl h2 (by omega) fun st3 h3 e3 => fin st3 ?_ e3
        rw [hx]; exact h3
  · have : k = s.length := by omega
    subst this
    rw [List.take_length] at h2 hfl
    refine writeByte_ok 34 rfl h2 (by simp only [List.length_append, List.length_singleton]; omega) fun st3 h3 e3 => hk st3 ?_ (e2.trans e3)
    have : buf ++ [34] ++ s.flatMap escB ++ [34] = buf ++ quB s := by unfold quB; simp
    rw [← this]; exact h3
end Go.TVF
end

section
namespace Go.TVF
open Go Go.Proofs
set_option linter.unusedVariables false
set_option linter.unusedSimpArgs false
theorem pow8 : (2 : Int) ^ (min (Int.toNat (8 : Int)) (IntKind.bits .i64)) = 256 := by decide
theorem enc_ok {b : TV} {l : List UInt8} {pad : Bool} {st : St} {K : List UInt8 → St → Prop} (h : SlR st 1 b l.length (bytesT l)) (hl : (l.length : Int) ≤ 1000000) (hk : ∀ st', StExt st st' → K (encG pad l) st') : CallT PR fn_base_Encode [b, .bool pad] [.one (.str)] st K := by
  refine vc_base_Encode b pad st K ⟨fun out i b' pad' st1 => b = b' ∧ pad = pad' ∧ StExt st st1 ∧ 0 ≤ i ∧ i ≤ 1000002 ∧ ∃ o, OwnB st.nt st1 out o ∧ o ++ encG pad (l.drop i.toNat) = encG pad l ∧ (o.length : Int) ≤ 2 * i, fun _ i _ _ _ => (l.length - i).toNat, ⟨rfl, rfl, StExt.refl _, by omega, by omega, [], OwnB.nil _ _, rfl, by simp⟩, ?_⟩
  rintro out i _ _ st1 ⟨rfl, rfl, e1, h1, h1', o, hown, ho1, ho2⟩
  refine need_intro h.isSl ?_
  rw [h.lenS]
  refine BIf_intro (fun h2 => need_intro h.isSl ?_) fun h2 => ?_
  · have hd : (l.drop i.toNat).length = l.length - i.toNat := by simp
    rw [wrap64 ((l.length : Int) - i) (by omega) (by omega)]
    refine ⟨fun word n b' pad' out' i' n2 st2 => b = b' ∧ pad = pad' ∧ out = out' ∧ i = i' ∧ n2 = min (3 : Int) (l.length - i) ∧ st1 = st2 ∧ 0 ≤ n ∧ n ≤ 3 ∧ word = (wB (l.drop i.toNat) n.toNat : Nat), fun _ n _ _ _ _ _ _ => (3 - n).toNat, ⟨rfl, rfl, rfl, rfl, rfl, rfl, by omega, by omega, rfl⟩, ?_⟩
    rintro word n _ _ _ _ n2 _ ⟨rfl, rfl, rfl, rfl, hn2, rfl, g1, g2, rfl⟩
    refine BIf_intro (fun g3 => BIf_intro (fun g4 => ?_) fun g4 => ?_) fun g3 => ?_
    · have hW := W_lt (l.drop i.toNat) n.toNat
      have hW2 : 256 ^ n.toNat ≤ 256 ^ 2 := Nat.pow_le_pow_right (by decide) (by omega)
      have hi : (i + n).toNat < l.length := by omega
      rw [wrap64 (i + n) (by omega) (by omega), h.lenZ, wrap64 (n + 1) (by omega) (by omega)]
      refine ⟨⟨by omega, by omega⟩, optK_intro ((h.keep e1.keeps).ldb hi) ?_⟩
      show (_ ∧ _)
      have hb := byteLe l[(i + n).toNat]
      refine ⟨⟨rfl, rfl, rfl, rfl, hn2, rfl, by omega, by omega, ?_⟩, by dsimp only; omega⟩
      rw [pow8, wrapB8 _ hb, wrap64 _ (by omega) (by omega)]
      have := or_add (wB (l.drop i.toNat) n.toNat) l[(i + n).toNat].toNat 8 (by omega) (by omega)
      rw [show ((wB (l.drop i.toNat) n.toNat : Nat) : Int) * 256 = ((wB (l.drop i.toNat) n.toNat * 2 ^ 8 : Nat) : Int) by omega, this, show (n + 1).toNat = n.toNat + 1 by omega, wB]
      have hg : (l.drop i.toNat).getD n.toNat 0 = l[(i + n).toNat] := by
        have : i.toNat + n.toNat = (i + n).toNat := by omega
        simp [List.getD, this, hi]
      rw [hg]
    · have hW := W_lt (l.drop i.toNat) n.toNat
      have hW2 : 256 ^ n.toNat ≤ 256 ^ 2 := Nat.pow_le_pow_right (by decide) (by omega)
      rw [wrap64 (n + 1) (by omega) (by omega)]
      refine ⟨⟨rfl, rfl, rfl, rfl, hn2, rfl, by omega, by omega, ?_⟩, by dsimp only; omega⟩
      rw [pow8, wrap64 _ (by omega) (by omega), show (n + 1).toNat = n.toNat + 1 by omega, wB]
      have hg : (l.drop i.toNat).getD n.toNat 0 = 0 := by
        have : (l.drop i.toNat).length ≤ n.toNat := by rw [hd]; omega
        simp only [List.getD]
        rw [List.getElem?_eq_none (by omega)]; rfl
      rw [hg]
      show _ = ((_ + 0 : Nat) : Int)
      omega
    · have hn3 : n.toNat = 3 := by omega
      rw [hn3]
      refine ⟨fun out' k b' pad' i' n4 word st2 => b = b' ∧ pad = pad' ∧ i = i' ∧ n2 = n4 ∧ word = (wB (l.drop i.toNat) 3 : Nat) ∧ StExt st st2 ∧ 0 ≤ k ∧ k ≤ 4 ∧ OwnB st.nt st2 out' (o ++ grp (l.drop i.toNat) pad k.toNat), fun _ k _ _ _ _ _ _ => (4 - k).toNat, ⟨rfl, rfl, rfl, rfl, rfl, e1, by omega, by omega, by simpa [grp] using hown⟩, ?_⟩
      rintro out' k _ _ _ _ word st2 ⟨rfl, rfl, rfl, rfl, rfl, e2, k1, k2, hown2⟩
      have hgl := grp_le (l.drop i.toNat) pad k.toNat
      have hlen : (o ++ grp (l.drop i.toNat) pad k.toNat).length ≤ o.length + 4 := by rw [List.length_append]; omega
      have hmin : min 3 (l.drop i.toNat).length = (min (3 : Int) (l.length - i)).toNat := by rw [hd]; omega
      refine BIf_intro (fun k3 => ?_) fun k3 => ?_
      · have hw1 : IntKind.i64.wrap (k + 1) = k + 1 := wrap64 _ (by omega) (by omega)
        have ht : (k + 1).toNat = k.toNat + 1 := by omega
        rw [hw1]
        refine BIf_intro (fun k4 => ?_) fun k4 => BIf_iff.2 ⟨fun hp => ?_, fun hp => ?_⟩
        · rw [wrap64 (6 * k) (by omega) (by omega), wrap64 (18 - 6 * k) (by omega) (by omega)]
          have hW := W_lt (l.drop i.toNat) 3
          have hq : wB (l.drop i.toNat) 3 / 2 ^ (18 - 6 * k).toNat < 2 ^ 63 := Nat.lt_of_le_of_lt (Nat.div_le_self _ _) (by omega)
          have hand := and_mask (wB (l.drop i.toNat) 3 / 2 ^ (18 - 6 * k).toNat) 6 hq (by decide)
          rw [shr_i64 _ _ (by omega), show (63 : Int) = ((2 ^ 6 - 1 : Nat) : Int) by decide, hand]
          have hm : wB (l.drop i.toNat) 3 / 2 ^ (18 - 6 * k).toNat % 2 ^ 6 < 64 := Nat.mod_lt _ (by decide)
          refine need_intro (decide_eq_true (by omega)) ⟨⟨by omega, by show _ < (64 : Int); omega⟩, ?_⟩
          refine appK_bytes (ys := [b64A.getD (wB (l.drop i.toNat) 3 / 2 ^ (18 - 6 * k).toNat % 2 ^ 6) 0]) e2 hown2 (by simp at hlen ⊢; omega) fun v' st3 e3 _ hown3 => ?_
          refine ⟨⟨rfl, rfl, rfl, rfl, rfl, e3, by omega, by omega, ?_⟩, by dsimp only; omega⟩
          rw [ht, grp_succ, grpk, if_pos (by omega), show 18 - 6 * k.toNat = (18 - 6 * k).toNat by omega, ← List.append_assoc]
          exact hown3
        · refine appK_bytes (ys := [61]) e2 hown2 (by simp at hlen ⊢; omega) fun v' st3 e3 _ hown3 => ?_
          refine ⟨⟨rfl, rfl, rfl, rfl, rfl, e3, by omega, by omega, ?_⟩, by dsimp only; omega⟩
          rw [ht, grp_succ, grpk, if_neg (by omega), if_pos hp, ← List.append_assoc]
          exact hown3
        · refine ⟨⟨rfl, rfl, rfl, rfl, rfl, e2, by omega, by omega, ?_⟩, by dsimp only; omega⟩
          rw [ht, grp_succ, grpk, if_neg (by omega), if_neg (by simp [hp]), List.append_nil]
          exact hown2
      · have hk4 : k.toNat = 4 := by omega
        rw [hk4] at hown2 hlen
        rw [wrap64 (i + 3) (by omega) (by omega)]
        refine ⟨⟨rfl, rfl, e2, by omega, by omega, _, hown2, ?_, by omega⟩, by dsimp only; omega⟩
        rw [← ho1, encG_step pad (l.drop i.toNat) (by omega), List.append_assoc, List.drop_drop, show (i + 3).toNat = i.toNat + 3 by omega]
  · rw [List.drop_of_length_le (by omega), encG_nil, List.append_nil] at ho1
    rw [ho1] at hown
    refine optK_intro (x := .str (encG pad l)) (by rw [hown.rd.toBytes]; rfl) ?_
    exact hk _ e1
theorem encG_eq (pad : Bool) (l : List UInt8) : encG pad l = encR pad l := enc_eq pad l.length l (Nat.le_refl _)
theorem encR_len (pad : Bool) (l : List UInt8) : (encR pad l).length ≤ 2 * l.length + 8 := by
  unfold encR
  rw [List.length_append]
  have h1 : (digs l (ndig l.length)).length = ndig l.length := by simp [digs]
  have h2 : (if pad = true then List.replicate ((4 - ndig l.length % 4) % 4) (61 : UInt8) else []).length ≤ 3 := by
    split
    · rw [List.length_replicate]; omega
    · simp
  rw [h1]
  unfold ndig at h2 ⊢
  omega
theorem b64A_safe : ∀ c, c ∈ b64A → escB c = [c] := by decide
theorem encR_safe (pad : Bool) (l : List UInt8) : Safe (encR pad l) := by
  intro c hc
  unfold encR at hc
  rcases List.mem_append.1 hc with hc | hc
  · simp only [digs, List.mem_map] at hc
    obtain ⟨j, _, rfl⟩ := hc
    refine b64A_safe _ ?_
    unfold ltr
    have hl := dg_lt l (6 * j) 6
    exact getD_mem (by show _ < 64; omega)
  · split at hc
    · rw [List.eq_of_mem_replicate hc]; decide
    · cases hc
end Go.TVF
end

section
namespace Go.TVF
open Go Go.Proofs
set_option linter.unusedVariables false
set_option linter.unusedSimpArgs false
mutual
/-- The canonical text, the fields in the order in which they stand. -/
noncomputable def txtV : Vl → List UInt8
  | .mk s l f => if s.kind = 0 then [110, 117, 108, 108] else if s.kind = 1 then (if s.b then [116, 114, 117, 101] else [102, 97, 108, 115, 101]) else if s.kind = 2 then dcT s.neg s.dg s.ex
      else if s.kind = 3 then 116 :: 34 :: (timT s.tk s.td s.tn s.tz ++ [34]) else if s.kind = 4 then quB s.text else if s.kind = 5 then 98 :: 34 :: (encR true s.bytes ++ [34])
      else if s.kind = 6 then 91 :: (txtVs true l ++ [93]) else 123 :: (txtFs true f ++ [125])
noncomputable def txtVs : Bool → List Vl → List UInt8
  | _, [] => []
  | b, v :: r => (if b then [] else [44]) ++ (txtV v ++ txtVs false r)
noncomputable def txtD : Fd → List UInt8
  | .mk k v => quB k ++ 58 :: txtV v
noncomputable def txtFs : Bool → List Fd → List UInt8
  | _, [] => []
  | b, d :: r => (if b then [] else [44]) ++ (txtD d ++ txtFs false r)
end
mutual
/-- What is needed of a value that has a text. -/
def TxV : Vl → Prop
  | .mk s l f => (0 ≤ s.kind ∧ s.kind ≤ 7 ∧ DecOk s.neg s.dg s.ex ∧ (s.kind = 3 → TimeOk s.tk s.td s.tn s.tz) ∧ s.bytes.length ≤ 65536) ∧ TxVs l ∧ TxFs f
def TxVs : List Vl → Prop
  | [] => True
  | v :: r => TxV v ∧ TxVs r
def TxD : Fd → Prop
  | .mk _ v => TxV v
def TxFs : List Fd → Prop
  | [] => True
  | d :: r => TxD d ∧ TxFs r
end
theorem TxVs_iff : ∀ {l : List Vl}, TxVs l ↔ ∀ v, v ∈ l → TxV v
  | [] => by unfold TxVs; simp
  | v :: r => by unfold TxVs; rw [TxVs_iff]; simp
theorem TxFs_iff : ∀ {l : List Fd}, TxFs l ↔ ∀ v, v ∈ l → TxD v
  | [] => by unfold TxFs; simp
  | v :: r => by unfold TxFs; rw [TxFs_iff]; simp
mutual
theorem Valid.tx : ∀ {v : Vl}, Valid v → TxV v
  | .mk s l f, h => by
    unfold Valid at h
    unfold TxV
    exact ⟨⟨h.1.own.k0, h.1.own.k7, h.1.dec, h.1.time, h.1.blen⟩, Valids.tx h.2.1, Validf.tx h.2.2⟩
theorem Valids.tx : ∀ {l : List Vl}, Valids l → TxVs l
  | [], _ => by unfold TxVs; trivial
  | v :: r, h => by unfold Valids at h; unfold TxVs; exact ⟨Valid.tx h.1, Valids.tx h.2⟩
theorem ValidD.tx : ∀ {d : Fd}, ValidD d → TxD d
  | .mk k v, h => by unfold ValidD at h; unfold TxD; exact Valid.tx h
theorem Validf.tx : ∀ {l : List Fd}, Validf l → TxFs l
  | [], _ => by unfold TxFs; trivial
  | d :: r, h => by unfold Validf at h; unfold TxFs; exact ⟨ValidD.tx h.1, Validf.tx h.2⟩
end
mutual
theorem sortV_tx : ∀ {v : Vl}, TxV v → TxV (sortV v)
  | .mk s l f, h => by
    unfold TxV at h
    unfold sortV TxV
    refine ⟨h.1, sortVs_tx h.2.1, TxFs_iff.2 fun d hd => ?_⟩
    exact TxFs_iff.1 (sortFs_tx h.2.2) d ((sortFd_perm _).mem_iff.1 hd)
theorem sortVs_tx : ∀ {l : List Vl}, TxVs l → TxVs (sortVs l)
  | [], h => by unfold sortVs TxVs; trivial
  | v :: r, h => by
    unfold TxVs at h
    unfold sortVs TxVs
    exact ⟨sortV_tx h.1, sortVs_tx h.2⟩
theorem sortD_tx : ∀ {d : Fd}, TxD d → TxD (sortD d)
  | .mk k v, h => by unfold TxD at h; unfold sortD TxD; exact sortV_tx h
theorem sortFs_tx : ∀ {f : List Fd}, TxFs f → TxFs (sortFs f)
  | [], h => by unfold sortFs TxFs; trivial
  | d :: r, h => by
    unfold TxFs at h
    unfold sortFs TxFs
    exact ⟨sortD_tx h.1, sortFs_tx h.2⟩
end
theorem txtVs_snoc : ∀ (l : List Vl) (b : Bool) (v : Vl), txtVs b (l ++ [v]) = txtVs b l ++ ((if b = true ∧ l = [] then [] else [44]) ++ txtV v)
  | [], b, v => by simp only [List.nil_append, txtVs, List.append_nil]; cases b <;> simp
  | w :: r, b, v => by
    simp only [List.cons_append, txtVs]
    rw [txtVs_snoc r false v]
    simp [List.append_assoc]
theorem txtFs_snoc : ∀ (l : List Fd) (b : Bool) (v : Fd), txtFs b (l ++ [v]) = txtFs b l ++ ((if b = true ∧ l = [] then [] else [44]) ++ txtD v)
  | [], b, v => by simp only [List.nil_append, txtFs, List.append_nil]; cases b <;> simp
  | w :: r, b, v => by
    simp only [List.cons_append, txtFs]
    rw [txtFs_snoc r false v]
    simp [List.append_assoc]
theorem txtVs_take {l : List Vl} {k : Nat} {v : Vl} (h : l[k]? = some v) : txtVs true (l.take (k + 1)) = txtVs true (l.take k) ++ ((if k = 0 then [] else [44]) ++ txtV v) := by
  rw [take_snoc h, txtVs_snoc]
  have hk := (List.getElem?_eq_some_iff.1 h).1
  congr 2
  by_cases h0 : k = 0
  · subst h0; simp
  · rw [if_neg h0, if_neg]
    rintro ⟨_, e⟩
    have := congrArg List.length e
    rw [List.length_take, List.length_nil] at this
    omega
theorem txtFs_take {l : List Fd} {k : Nat} {v : Fd} (h : l[k]? = some v) : txtFs true (l.take (k + 1)) = txtFs true (l.take k) ++ ((if k = 0 then [] else [44]) ++ txtD v) := by
  rw [take_snoc h, txtFs_snoc]
  have hk := (List.getElem?_eq_some_iff.1 h).1
  congr 2
  by_cases h0 : k = 0
  · subst h0; simp
  · rw [if_neg h0, if_neg]
    rintro ⟨_, e⟩
    have := congrArg List.length e
    rw [List.length_take, List.length_nil] at this
    omega
theorem txtVs_le_get : ∀ {l : List Vl} {b : Bool} {k : Nat} {v : Vl}, l[k]? = some v → (txtVs b (l.take k)).length + (txtV v).length + (if b = true ∧ k = 0 then 0 else 1) ≤ (txtVs b l).length
  | [], b, k, v, h => by simp at h
  | w :: r, b, 0, v, h => by
    simp at h; subst h
    cases b <;> simp [txtVs] <;> omega
  | w :: r, b, k + 1, v, h => by
    have := txtVs_le_get (l := r) (b := false) (k := k) (v := v) (by simpa using h)
    simp only [List.take_succ_cons, txtVs, List.length_append] at this ⊢
    simp at this ⊢; omega
theorem txtFs_le_get : ∀ {l : List Fd} {b : Bool} {k : Nat} {v : Fd}, l[k]? = some v → (txtFs b (l.take k)).length + (txtD v).length + (if b = true ∧ k = 0 then 0 else 1) ≤ (txtFs b l).length
  | [], b, k, v, h => by simp at h
  | w :: r, b, 0, v, h => by
    simp at h; subst h
    cases b <;> simp [txtFs] <;> omega
  | w :: r, b, k + 1, v, h => by
    have := txtFs_le_get (l := r) (b := false) (k := k) (v := v) (by simpa using h)
    simp only [List.take_succ_cons, txtFs, List.length_append] at this ⊢
    simp at this ⊢; omega
theorem SlR.unput {st : St} {b sz n : Nat} {u : TV} {xs : List TV} (h : SlR (st.put b .dead) sz u n xs) : SlR st sz u n xs := by
  rcases h with h | ⟨b', off, cap, l, h1, h2, h3, h4, h5, h6⟩
  · exact .inl h
  · refine .inr ⟨b', off, cap, l, h1, h2, ?_, h4, h5, h6⟩
    simp only [St.put] at h3
    split at h3
    · cases h3
    · exact h3
theorem But.view {b : Nat} {x y : St} (h : But b x y) : Keeps (x.put b .dead) (y.put b .dead) := by
  refine ⟨h.1, fun i hi => ?_⟩
  simp only [St.put]
  by_cases e : i = b
  · rw [if_pos e, if_pos e]
  · rw [if_neg e, if_neg e]; exact h.2 i e hi
theorem VlO.view {st : St} {b : Nat} {v : Vl} {cs : List TV} {fp : List Nat} (h : VlO st v cs fp) (hb : b ∉ fp) : VlR (st.put b .dead) v cs :=
  (h.frame (S := (· = b)) (StX.put (S := (· = b)) rfl _) fun x hx e => hb (e ▸ hx)).rd
/-- An element of a row of values is loaded, in a state where a box has changed. -/
theorem el13v {b : Nat} {st0 st : St} {ul : TV} {xl : List TV} {l : List Vl} (hke : But b st0 st) (h2 : SlR (st0.put b .dead) 13 ul l.length xl) (h3 : VsR (st0.put b .dead) l xl) {i : Int} {k : Nat} (hi : i = k) (hk : k < l.length) {f : Fun [.int .i64, .bool, .bool, .str, .int .i64, .int .i64, .int .i64, .int .i64, .int .i64, .str, .tv, .tv, .tv] Prop}
    (hf : ∀ s' l' f' ub1 ul1 uf1, l[k]? = some (.mk s' l' f') → VlR (st0.put b .dead) (.mk s' l' f') (cellsV s' ub1 ul1 uf1) → List.all (cellsV s' ub1 ul1 uf1) oneT = true → f s'.kind s'.b s'.neg s'.dg s'.ex s'.tk s'.td s'.tn s'.tz s'.text ub1 ul1 uf1) :
    (0 ≤ i ∧ i < (lenZ 13 ul : Int)) ∧ optK ((ldCells st [] (.t (ixT 13 ul (Int.toNat i))) 0 13).map TV.agg) fun x => decA [.int .i64, .bool, .bool, .str, .int .i64, .int .i64, .int .i64, .int .i64, .int .i64, .str, .tv, .tv, .tv] x f := by
  subst hi
  have gw : l[k]? = some l[k] := List.getElem?_eq_getElem hk
  obtain ⟨cw, hw, hcw, hcl⟩ := h3.get gw
  rw [h2.lenZ, Int.toNat_natCast, (h2.keep hke.view).unput.ldc h3.len hk, hcw]
  generalize l[k] = w at *
  cases w with
  | mk s' l' f' =>
  have hw0 := hw
  unfold VlR at hw0
  obtain ⟨ub', ul', uf', xl', xf', rfl, w1, w2, w3, w4, w5⟩ := hw0
  exact ⟨⟨by omega, by omega⟩, optK_intro rfl (decA13 (hf s' l' f' ub' ul' uf' gw hw (one13 w1.one w2.one w4.one)))⟩
theorem el14v {b : Nat} {st0 st : St} {uf : TV} {xf : List TV} {l : List Fd} (hke : But b st0 st) (h2 : SlR (st0.put b .dead) 14 uf l.length xf) (h3 : FsR (st0.put b .dead) l xf) {i : Int} {k : Nat} (hi : i = k) (hk : k < l.length) {f : Fun [.str, .int .i64, .bool, .bool, .str, .int .i64, .int .i64, .int .i64, .int .i64, .int .i64, .str, .tv, .tv, .tv] Prop}
    (hf : ∀ key s' l' f' ub1 ul1 uf1, l[k]? = some (.mk key (.mk s' l' f')) → VlR (st0.put b .dead) (.mk s' l' f') (cellsV s' ub1 ul1 uf1) → List.all (.str key :: cellsV s' ub1 ul1 uf1) oneT = true → f key s'.kind s'.b s'.neg s'.dg s'.ex s'.tk s'.td s'.tn s'.tz s'.text ub1 ul1 uf1) :
    (0 ≤ i ∧ i < (lenZ 14 uf : Int)) ∧ optK ((ldCells st [] (.t (ixT 14 uf (Int.toNat i))) 0 14).map TV.agg) fun x => decA [.str, .int .i64, .bool, .bool, .str, .int .i64, .int .i64, .int .i64, .int .i64, .int .i64, .str, .tv, .tv, .tv] x f := by
  subst hi
  have gw : l[k]? = some l[k] := List.getElem?_eq_getElem hk
  obtain ⟨cw, hw, hcw, hcl⟩ := h3.get gw
  rw [h2.lenZ, Int.toNat_natCast, (h2.keep hke.view).unput.ldc h3.len hk, hcw]
  generalize l[k] = w at *
  cases w with
  | mk key w =>
  cases w with
  | mk s' l' f' =>
  have hw0 := hw
  unfold FdR at hw0
  obtain ⟨cw2, rfl, hw1⟩ := hw0
  have hw2 := hw1
  unfold VlR at hw2
  obtain ⟨ub', ul', uf', xl', xf', rfl, w1, w2, w3, w4, w5⟩ := hw2
  exact ⟨⟨by omega, by omega⟩, optK_intro rfl (decA14 (hf key s' l' f' ub' ul' uf' gw hw1 (one14 w1.one w2.one w4.one)))⟩
theorem timT_len (k td tn tz : Int) : (timT k td tn tz).length ≤ 40 := by
  have h1 : ∀ n, (datT n).length = 10 := fun n => by unfold datT; simp only [List.length_append, List.length_cons, padD_len]
  have h2 : ∀ n, (clkT n).length ≤ 18 := fun n => by
    unfold clkT
    have : (if n % 1000000000 = 0 then ([] : List UInt8) else 46 :: cut0 (padD 9 (n % 1000000000))).length ≤ 10 := by
      split
      · simp
      · have := cut0_len (padD 9 (n % 1000000000))
        rw [padD_len] at this
        rw [List.length_cons]; omega
    simp only [List.length_append, List.length_cons, padD_len]; omega
  have h3 : ∀ z, (offT z).length ≤ 6 := fun z => by
    unfold offT; split
    · decide
    · simp only [List.length_append, List.length_cons, padD_len]; omega
  unfold timT
  have e1 := h1 td.toNat
  have e2 := h2 tn.toNat
  have e3 := h3 tz
  split
  · omega
  split
  · omega
  split
  · rw [List.length_append, List.length_cons]; omega
  · rw [List.length_append, List.length_cons, List.length_append]; omega
theorem mText_ok {k d n z : Int} (h : TimeOk k d n z) {st : St} {K : List UInt8 → St → Prop} (hk : ∀ st', StExt st st' → K (timT k d n z) st') : CallT PR fn_moment_Text [.agg [.int .i64 k, .int .i64 d, .int .i64 n, .int .i64 z]] [.one .str] st K := by
  have h0 := h
  obtain ⟨a1, a2, a3, a4, a5, a6, a7, a8, a9, a10, a11⟩ := h
  have ed : d = ((d.toNat : Nat) : Int) := by omega
  have en : n = ((n.toNat : Nat) : Int) := by omega
  have l1 : ∀ m, (datT m).length = 10 := fun n => by unfold datT; simp only [List.length_append, List.length_cons, padD_len]
  unfold timT at hk
  have hdt : ∀ {st : St} {K : List UInt8 → St → Prop}, (∀ st', StExt st st' → K (datT d.toNat) st') → CallT PR fn_moment_dateText [.int .i64 d] [.one .str] st K := fun {st K} hk => by
    rw [ed]; exact dateText_ok (by omega) hk
  have hct : ∀ {st : St} {K : List UInt8 → St → Prop}, (∀ st', StExt st st' → K (clkT n.toNat) st') → CallT PR fn_moment_clockText [.int .i64 n] [.one .str] st K := fun {st K} hk => by
    rw [en]; exact clockText_ok (by omega) hk
  have l2 : (clkT n.toNat).length ≤ 40 := by have := timT_len 2 d n z; unfold timT at this; rw [if_neg (by omega), if_pos rfl] at this; exact this
  have l3 : (offT z).length ≤ 40 := by have := timT_len 4 d n z; unfold timT at this; rw [if_neg (by omega), if_neg (by omega), if_neg (by omega), List.length_append, List.length_cons, List.length_append] at this; omega
  have l1' := l1 d.toNat
  refine vc_moment_Text _ _ _ _ st K (timeValid_ok ?_)
  rw [decide_eq_true h0]
  refine BIf_intro (p := False) (fun h => h.elim) fun _ => BIf_intro (fun g => ?_) fun g1 => BIf_intro (fun g => ?_) fun g2 => BIf_intro (fun g => ?_) fun g3 => ?_
  · rw [if_pos g] at hk; exact hdt hk
  · rw [if_neg g1, if_pos g] at hk; exact hct hk
  · rw [if_neg g1, if_neg g2, if_pos g] at hk
    refine hdt fun st1 e1 => ⟨by rw [l1']; show 10 + 1 ≤ _; omega, hct fun st2 e2 => ⟨by rw [List.length_append, l1']; show 10 + 1 + _ ≤ _; omega, ?_⟩⟩
    have := hk st2 (e1.trans e2)
    rw [List.append_cons] at this
    exact this
  · rw [if_neg g1, if_neg g2, if_neg g3] at hk
    refine hdt fun st1 e1 => ⟨by rw [l1']; show 10 + 1 ≤ _; omega, hct fun st2 e2 => ⟨by rw [List.length_append, l1']; show 10 + 1 + _ ≤ _; omega, offsetText_ok a7 a8 fun st3 e3 => ⟨by rw [List.length_append, List.length_append, l1']; show 10 + 1 + _ + _ ≤ _; omega, ?_⟩⟩⟩
    have := hk st3 ((e1.trans e2).trans e3)
    rw [List.append_cons, ← List.append_assoc] at this
    exact this
end Go.TVF
end

section
namespace Go.TVF
open Go Go.Proofs
set_option linter.unusedVariables false
set_option linter.unusedSimpArgs false
set_option maxRecDepth 4000 in
theorem write_ok : ∀ (N : Nat) (v : Vl), v.sz ≤ N → N ≤ 2000000 → TxV v → ∀ {st0 sv st : St} {b : Nat} {cs : List TV} {buf : List UInt8} {K : St → Prop}, VlR (sv.put b .dead) v cs → But b sv st → Bld st0 b st buf → buf.length + (txtV v).length ≤ 800000000 → v.sz ≤ 20000000 →
    (∀ st', Bld st0 b st' (buf ++ txtV v) → But b st st' → K st') → CallT PR fn_canon_write [.box b 0, .agg cs] [] st K := by
  intro N
  induction N with
  | zero => intro v h; have := v.sz_pos; omega
  | succ N ih =>
  intro v hN hN2 hok st0 sv st b cs buf K h hke hB hlen hsz0 hk
  cases v with
  | mk s l f =>
  have hsz : (Vl.mk s l f).sz = 1 + s.bytes.length + s.text.length + s.dg.length + vsSz l + fsSz f := by unfold Vl.sz; rfl
  have hll := vsSz_len l
  have hfl := fsSz_len f
  unfold TxV at hok
  obtain ⟨⟨k0, k7, hdec, htime, hblen⟩, lok, fok⟩ := hok
  unfold VlR at h
  obtain ⟨ub, ul, uf, xl, xf, rfl, h1, h2, h3, h4, h5⟩ := h
  unfold txtV at hlen hk
  refine vc_canon_write _ _ _ _ _ _ _ _ _ _ _ _ _ _ st K ?_
  refine BIf_intro (fun g => ?_) fun g0 => BIf_intro (fun g => ?_) fun g1 => BIf_intro (fun g => ?_) fun g2 => BIf_intro (fun g => ?_) fun g3 => BIf_intro (fun g => ?_) fun g4 => BIf_intro (fun g => ?_) fun g5 => BIf_intro (fun g => ?_) fun g6 => BIf_intro (fun g => ?_) fun g7 => ?_
  · rw [if_pos g] at hlen hk
    exact writeString_ok hB (by show _ + 4 ≤ _; omega) fun st' hb he => hk st' hb he
  · rw [if_neg g0, if_pos g] at hlen hk
    refine BIf_bool (fun hb => ?_) fun hb => ?_
    · rw [if_pos hb] at hk
      exact writeString_ok hB (by show _ + 4 ≤ _; omega) fun st' hb he => hk st' hb he
    · rw [if_neg (by simp [hb])] at hk
      exact writeString_ok hB (by show _ + 5 ≤ _; omega) fun st' hb he => hk st' hb he
  · rw [if_neg g0, if_neg g1, if_pos g] at hlen hk
    exact dText_ok hdec fun st1 e1 => writeString_ok (hB.keep e1) (by omega) fun st' hb he => hk st' hb ((But.of e1).trans he)
  · rw [if_neg g0, if_neg g1, if_neg g2, if_pos g] at hlen hk
    have htl := timT_len s.tk s.td s.tn s.tz
    refine mText_ok (htime g) fun st1 e1 => ⟨by show 2 + _ ≤ _; omega, by rw [List.length_append]; show 2 + _ + 1 ≤ _; omega, writeString_ok (hB.keep e1) (by rw [List.length_append, List.length_append]; show _ + (2 + _ + 1) ≤ _; omega) fun st' hb he => hk st' ?_ ((But.of e1).trans he)⟩
    exact hb
  · rw [if_neg g0, if_neg g1, if_neg g2, if_neg g3, if_pos g] at hlen hk
    exact quote_ok hB (by omega) fun st' hb he => hk st' hb he
  · rw [if_neg g0, if_neg g1, if_neg g2, if_neg g3, if_neg g4, if_pos g] at hlen hk
    have hel := encR_len true s.bytes
    refine enc_ok ((h1.keep hke.view).unput) (by omega) fun st1 e1 => ?_
    rw [encG_eq]
    refine ⟨by show 2 + _ ≤ _; omega, by rw [List.length_append]; show 2 + _ + 1 ≤ _; omega, writeString_ok (hB.keep e1) (by rw [List.length_append, List.length_append]; show _ + (2 + _ + 1) ≤ _; omega) fun st' hb he => hk st' ?_ ((But.of e1).trans he)⟩
    exact hb
  · rw [if_neg g0, if_neg g1, if_neg g2, if_neg g3, if_neg g4, if_neg g5, if_pos g] at hlen hk
    simp only [List.length_cons, List.length_append, List.length_nil] at hlen
    refine writeByte_ok 91 rfl hB (by omega) fun st1 hb1 he1 => need_intro h2.isSl ?_
    refine ⟨fun i w u n st' => TV.box b 0 = w ∧ ul = u ∧ (l.length : Int) = n ∧ But b st st' ∧ ∃ k : Nat, i = k ∧ k ≤ l.length ∧ Bld st0 b st' (buf ++ [91] ++ txtVs true (l.take k)), fun i _ _ _ _ => (l.length - i).toNat, ⟨rfl, rfl, by rw [h2.lenS], he1, 0, rfl, Nat.zero_le _, by simpa [txtVs] using hb1⟩, ?_⟩
    rintro _ _ _ _ st2 ⟨rfl, rfl, rfl, he2, k, rfl, hkl, hb2⟩
    refine BIf_intro (fun g' => ?_) fun g' => ?_
    · refine el13v (hke.trans he2) h2 h3 rfl (by omega) fun s' l' f' ub1 ul1 uf1 gw hw on => need_intro on ?_
      have hwsz := vsSz_get gw
      have htk := txtVs_take gw
      have hle := txtVs_le_get (b := true) gw
      have hwt := TxVs_iff.1 lok _ (mem_of_get gw)
      have fin : ∀ (buf2 : List UInt8) st3, But b st st3 → Bld st0 b st3 buf2 → buf2 = buf ++ [91] ++ txtVs true (l.take k) ++ (if k = 0 then [] else [44]) → CallT PR fn_canon_write [.box b 0, .agg (cellsV s' ub1 ul1 uf1)] [] st3 fun st4 => (TV.box b 0 = TV.box b 0 ∧ ul = ul ∧ (l.length : Int) = (l.length : Int) ∧ But b st st4 ∧ ∃ k' : Nat, IntKind.i64.wrap ((k : Int) + 1) = k' ∧ k' ≤ l.length ∧ Bld st0 b st4 (buf ++ [91] ++ txtVs true (l.take k'))) ∧ ((l.length : Int) - IntKind.i64.wrap ((k : Int) + 1)).toNat < ((l.length : Int) - (k : Int)).toNat := by
        intro buf2 st3 he3 hb3 hbuf
        have hbl : buf2.length + (txtV (.mk s' l' f')).length ≤ 800000000 := by
          rw [hbuf]
          by_cases h0 : k = 0
          · rw [if_pos h0]
            rw [if_pos (by simp [h0])] at hle
            simp only [List.length_append, List.length_cons, List.length_nil]; omega
          · rw [if_neg h0]
            rw [if_neg (fun h => h0 h.2)] at hle
            simp only [List.length_append, List.length_cons, List.length_nil]; omega
        refine ih _ (by omega) (by omega) hwt hw (hke.trans he3) hb3 hbl (by omega) fun st4 hb4 he4 => ?_
        rw [wrap64 _ (by omega) (by omega)]
        refine ⟨⟨rfl, rfl, rfl, he3.trans he4, k + 1, by omega, by omega, ?_⟩, by omega⟩
        rw [htk, ← List.append_assoc, ← List.append_assoc, ← hbuf]; exact hb4
      refine BIf_intro (fun g9 => ?_) fun g9 => fin _ st2 he2 hb2 (by rw [if_pos (by omega), List.append_nil])
      refine writeByte_ok 44 rfl hb2 ?_ fun st3 hb3 he3 => fin _ st3 (he2.trans he3) hb3 (by rw [if_neg (by omega)])
      rw [if_neg (by omega)] at hle
      simp only [List.length_append, List.length_cons, List.length_nil]; omega
    · have hkk : k = l.length := by omega
      subst hkk
      rw [List.take_length] at hb2
      refine writeByte_ok 93 rfl hb2 (by simp only [List.length_append, List.length_cons, List.length_nil]; omega) fun st3 hb3 he3 => hk st3 ?_ (he2.trans he3)
      have : buf ++ [91] ++ txtVs true l ++ [93] = buf ++ 91 :: (txtVs true l ++ [93]) := by simp
      rw [← this]; exact hb3
  · rw [if_neg g0, if_neg g1, if_neg g2, if_neg g3, if_neg g4, if_neg g5, if_neg g6] at hlen hk
    simp only [List.length_cons, List.length_append, List.length_nil] at hlen
    refine writeByte_ok 123 rfl hB (by omega) fun st1 hb1 he1 => need_intro h4.isSl ?_
    refine ⟨fun i w u n st' => TV.box b 0 = w ∧ uf = u ∧ (f.length : Int) = n ∧ But b st st' ∧ ∃ k : Nat, i = k ∧ k ≤ f.length ∧ Bld st0 b st' (buf ++ [123] ++ txtFs true (f.take k)), fun i _ _ _ _ => (f.length - i).toNat, ⟨rfl, rfl, by rw [h4.lenS], he1, 0, rfl, Nat.zero_le _, by simpa [txtFs] using hb1⟩, ?_⟩
    rintro _ _ _ _ st2 ⟨rfl, rfl, rfl, he2, k, rfl, hkl, hb2⟩
    refine BIf_intro (fun g' => ?_) fun g' => ?_
    · refine el14v (hke.trans he2) h4 h5 rfl (by omega) fun key s' l' f' ub1 ul1 uf1 gw hw on => need_intro on ?_
      have hwsz := fsSz_get gw
      have hwk : (Fd.mk key (.mk s' l' f')).sz = key.length + (Vl.mk s' l' f').sz := by unfold Fd.sz; rfl
      have htk := txtFs_take gw
      have hle := txtFs_le_get (b := true) gw
      have hwt := TxFs_iff.1 fok _ (mem_of_get gw)
      unfold TxD at hwt
      have hvp := (Vl.mk s' l' f').sz_pos
      have hbd : txtD (.mk key (.mk s' l' f')) = quB key ++ 58 :: txtV (.mk s' l' f') := by unfold txtD; rfl
      rw [hbd] at htk hle
      simp only [List.length_append, List.length_cons] at hle
      have fin : ∀ (buf2 : List UInt8) st3, But b st st3 → Bld st0 b st3 buf2 → buf2 = buf ++ [123] ++ txtFs true (f.take k) ++ (if k = 0 then [] else [44]) → CallT PR fn_canon_quote [.box b 0, .str key] [] st3 fun st4 => CallT PR fn_strings_Builder_WriteByte [.box b 0, .int .u8 58] [.one .tv] st4 fun (v1 : TV) (st5 : St) => CallT PR fn_canon_write [.box b 0, .agg (cellsV s' ub1 ul1 uf1)] [] st5 fun st6 => (TV.box b 0 = TV.box b 0 ∧ uf = uf ∧ (f.length : Int) = (f.length : Int) ∧ But b st st6 ∧ ∃ k' : Nat, IntKind.i64.wrap ((k : Int) + 1) = k' ∧ k' ≤ f.length ∧ Bld st0 b st6 (buf ++ [123] ++ txtFs true (f.take k'))) ∧ ((f.length : Int) - IntKind.i64.wrap ((k : Int) + 1)).toNat < ((f.length : Int) - (k : Int)).toNat := by
        intro buf2 st3 he3 hb3 hbuf
        have hbl : buf2.length + (quB key).length + 1 + (txtV (.mk s' l' f')).length ≤ 800000000 := by
          rw [hbuf]
          by_cases h0 : k = 0
          · rw [if_pos h0]
            rw [if_pos (by simp [h0])] at hle
            simp only [List.length_append, List.length_cons, List.length_nil]; omega
          · rw [if_neg h0]
            rw [if_neg (fun h => h0 h.2)] at hle
            simp only [List.length_append, List.length_cons, List.length_nil]; omega
        refine quote_ok hb3 (by omega) fun st4 hb4 he4 => writeByte_ok 58 rfl hb4 (by rw [List.length_append]; omega) fun st5 hb5 he5 => ?_
        refine ih _ (by omega) (by omega) hwt hw (((hke.trans he3).trans he4).trans he5) hb5 (by rw [List.length_append, List.length_append, List.length_singleton]; omega) (by omega) fun st6 hb6 he6 => ?_
        rw [wrap64 _ (by omega) (by omega)]
        refine ⟨⟨rfl, rfl, rfl, ((he3.trans he4).trans he5).trans he6, k + 1, by omega, by omega, ?_⟩, by omega⟩
        have : buf ++ [123] ++ txtFs true (f.take (k + 1)) = buf2 ++ quB key ++ [58] ++ txtV (.mk s' l' f') := by rw [htk, hbuf]; simp
        rw [this]; exact hb6
      refine BIf_intro (fun g9 => ?_) fun g9 => fin _ st2 he2 hb2 (by rw [if_pos (by omega), List.append_nil])
      refine writeByte_ok 44 rfl hb2 ?_ fun st3 hb3 he3 => fin _ st3 (he2.trans he3) hb3 (by rw [if_neg (by omega)])
      rw [if_neg (by omega)] at hle
      simp only [List.length_append, List.length_cons, List.length_nil]; omega
    · have hkk : k = f.length := by omega
      subst hkk
      rw [List.take_length] at hb2
      refine writeByte_ok 125 rfl hb2 (by simp only [List.length_append, List.length_cons, List.length_nil]; omega) fun st3 hb3 he3 => hk st3 ?_ (he2.trans he3)
      have : buf ++ [123] ++ txtFs true f ++ [125] = buf ++ 123 :: (txtFs true f ++ [125]) := by simp
      rw [← this]; exact hb3
  · omega
theorem dcT_len {neg : Bool} {dg : List UInt8} {ex : Int} (h : DecOk neg dg ex) : (dcT neg dg ex).length ≤ dg.length + 40 := by
  by_cases hne : dg = []
  · unfold dcT; rw [if_pos hne]; simp
  · obtain ⟨h1, h2, h3, h4, h5, h6⟩ := h.2 hne
    have hpos := List.length_pos_iff.2 hne
    have hs := sgnT_len neg
    unfold dcT
    rw [if_neg hne, List.length_append, show (if neg = true then [45] else []) = sgnT neg from rfl]
    split
    · rw [List.length_append, List.length_replicate]; omega
    split
    · rw [List.length_append, List.length_cons, List.length_take, List.length_drop]; omega
    split
    · rw [List.length_cons, List.length_cons, List.length_append, List.length_replicate]; omega
    · rw [List.length_append, List.length_append, List.length_take]
      have e1 : (if 1 < dg.length then 46 :: dg.drop 1 else []).length ≤ dg.length := by
        split
        · rw [List.length_cons, List.length_drop]; omega
        · simp
      have e2 : (expT (dg.length + ex)).length ≤ 20 := by
        rw [expT_eq]
        split
        · have := whN_len (n := (1 - ((dg.length : Int) + ex)).toNat) (by omega)
          rw [List.length_cons, List.length_cons]; omega
        · have := whN_len (n := ((dg.length : Int) + ex - 1).toNat) (by omega)
          rw [List.length_cons]; omega
      omega
mutual
theorem txtV_len : ∀ {v : Vl}, TxV v → (txtV v).length + 10 ≤ 60 * v.sz
  | .mk s l f, h => by
    unfold TxV at h
    obtain ⟨⟨h1, h2, h3, h4, h7⟩, h5, h6⟩ := h
    have hsz := szs s l f
    have hv := txtVs_len true h5
    have hf := txtFs_len true h6
    rw [hsz]
    unfold txtV
    split
    · simp; omega
    split
    · split <;> (simp; omega)
    split
    · have := dcT_len h3; omega
    split
    · have := timT_len s.tk s.td s.tn s.tz
      rw [List.length_cons, List.length_cons, List.length_append, List.length_singleton]; omega
    split
    · have := quB_len s.text; omega
    split
    · have := encR_len true s.bytes
      rw [List.length_cons, List.length_cons, List.length_append, List.length_singleton]; omega
    split
    · rw [List.length_cons, List.length_append, List.length_singleton]; omega
    · rw [List.length_cons, List.length_append, List.length_singleton]; omega
theorem txtVs_len : ∀ {l : List Vl} (b : Bool), TxVs l → (txtVs b l).length ≤ 60 * vsSz l
  | [], b, _ => by unfold txtVs; simp
  | v :: r, b, h => by
    unfold TxVs at h
    have h1 := txtV_len h.1
    have h2 := txtVs_len false h.2
    unfold txtVs vsSz
    have : (if b = true then ([] : List UInt8) else [44]).length ≤ 1 := by split <;> simp
    rw [List.length_append, List.length_append]; omega
theorem txtD_len : ∀ {d : Fd}, TxD d → (txtD d).length + 1 ≤ 60 * d.sz
  | .mk k v, h => by
    unfold TxD at h
    have h1 := txtV_len h
    have h2 := quB_len k
    have h3 := szd k v
    rw [h3]
    unfold txtD
    rw [List.length_append, List.length_cons]; omega
theorem txtFs_len : ∀ {l : List Fd} (b : Bool), TxFs l → (txtFs b l).length ≤ 60 * fsSz l
  | [], b, _ => by unfold txtFs; simp
  | v :: r, b, h => by
    unfold TxFs at h
    have h1 := txtD_len h.1
    have h2 := txtFs_len false h.2
    unfold txtFs fsSz
    have : (if b = true then ([] : List UInt8) else [44]).length ≤ 1 := by split <;> simp
    rw [List.length_append, List.length_append]; omega
end
theorem SortedO_ok {v : Vl} (hN : v.sz ≤ 2000000) (hC : v.cnt ≤ 65536) (hkn : KNd v) {st : St} {cs : List TV} {K : Int → Bool → Bool → List UInt8 → Int → Int → Int → Int → Int → List UInt8 → TV → TV → TV → St → Prop} (h : VlR st v cs)
    (hk : ∀ ub ul uf st' fp, VlO st' (sortV v) (cellsV v.sc ub ul uf) fp → (∀ x, x ∈ fp → st.nb ≤ x) → StExt st st' → K v.sc.kind v.sc.b v.sc.neg v.sc.dg v.sc.ex v.sc.tk v.sc.td v.sc.tn v.sc.tz v.sc.text ub ul uf st') :
    CallT PR fn_value_Sorted [.agg cs] [.agg [.int .i64, .bool, .bool, .str, .int .i64, .int .i64, .int .i64, .int .i64, .int .i64, .str, .tv, .tv, .tv]] st K := by
  have h0 := h
  cases v with
  | mk s l f =>
  unfold VlR at h0
  obtain ⟨ub, ul, uf, xl, xf, rfl, _⟩ := h0
  exact vc_value_Sorted _ _ _ _ _ _ _ _ _ _ _ _ _ st K (copy_ok hN hC h fun ub ul uf st1 fp g o1 o2 o3 nd lo e =>
    arranged_ok 2000000 _ hN (by omega) hkn g nd fun ub2 ul2 uf2 st2 fp2 g2 p1 p2 p3 nd2 hfp e2 => need_intro (one13 p1 p2 p3) (hk ub2 ul2 uf2 st2 fp2 g2 (fun x hx => by
      rcases hfp x hx with h | h
      · exact lo x h
      · exact Nat.le_trans e.nb h) (StX.ext e e2 lo)))
/-- canon.text: the text of a valid value. -/
theorem text_ok {v : Vl} (hN : v.sz ≤ 2000000) (hv : Valid v) (hC : v.cnt ≤ 65536) {st : St} {cs : List TV} {K : List UInt8 → St → Prop} (h : VlR st v cs) (hk : ∀ st', StExt st st' → K (txtV (sortV v)) st') : CallT PR fn_canon_text [.agg cs] [.one .str] st K := by
  have h0 := h
  cases v with
  | mk s l f =>
  unfold VlR at h0
  obtain ⟨ub, ul, uf, xl, xf, rfl, _⟩ := h0
  have htx := sortV_tx hv.tx
  have hz := sortV_sz (.mk s l f)
  have hlen := txtV_len htx
  have hpush : StExt st (st.push (.cells [.nilPtr, .nilSlice]) (some tyBld)) := (StExt.refl st).push _ _
  refine vc_canon_text _ _ _ _ _ _ _ _ _ _ _ _ _ st K (SortedO_ok hN hC hv.ok.2 (h.keep hpush.keeps) fun ub2 ul2 uf2 st1 fp hO hfp e1 => ?_)
  have hb0 : Bld st st.nb st1 [] := (Bld.new (StExt.refl st)).keep e1
  have hnot : st.nb ∉ fp := fun hm => by
    have h9 := hfp _ hm
    have h10 : ∀ t, (st.push (.cells [.nilPtr, .nilSlice]) t).nb = st.nb + 1 := fun _ => rfl
    rw [h10] at h9; omega
  refine write_ok 2000000 (sortV (.mk s l f)) (by omega) (by omega) htx (hO.view hnot) (But.refl _ _) hb0 (by rw [List.length_nil]; omega) (by omega) fun st2 hb2 he2 => ?_
  rw [List.nil_append] at hb2
  exact builderString_ok hb2 (by omega) hk
theorem Text_ok {v : Vl} (hN : v.sz ≤ 2000000) {st : St} {cs : List TV} {K : List UInt8 → Int → St → Prop} (h : VlR st v cs) (hk : ∀ st', StExt st st' → K (if checkV v = 0 then txtV (sortV v) else []) (checkV v : Nat) st') :
    CallT PR fn_canon_Text [.agg cs] [.one .str, .one (.int .i64)] st K := by
  have h0 := h
  cases v with
  | mk s l f =>
  unfold VlR at h0
  obtain ⟨ub, ul, uf, xl, xf, rfl, _⟩ := h0
  refine vc_canon_Text _ _ _ _ _ _ _ _ _ _ _ _ _ st K (Check_ok hN h (Keeps.refl _) fun st1 e1 => BIf_intro (fun g => ?_) fun g => ?_)
  · have := hk st1 e1
    rw [if_neg (by omega)] at this; exact this
  · have hc : checkV (.mk s l f) = 0 := by omega
    rw [hc] at hk
    refine text_ok hN (check_valid hc) (check_cnt hc) (h.keep e1.keeps) fun st2 e2 => ?_
    have := hk st2 (e1.trans e2)
    rw [if_pos rfl] at this; exact this
end Go.TVF
end

section
namespace Go.TVF
open Go Go.Proofs
set_option linter.unusedVariables false
set_option linter.unusedSimpArgs false
theorem Safe.app {a b : List UInt8} (h : Safe a) (k : Safe b) : Safe (a ++ b) := fun c hc => (List.mem_append.1 hc).elim (h c) (k c)
theorem Safe.cons {c : UInt8} {b : List UInt8} (h : escB c = [c]) (k : Safe b) : Safe (c :: b) := fun x hx => by
  rcases List.mem_cons.1 hx with rfl | hx
  · exact h
  · exact k x hx
theorem Safe.pad (w n : Nat) : Safe (padD w n) := fun c hc => (padD_dg w n c hc).safe
theorem Safe.nil : Safe [] := fun c hc => by cases hc
theorem timT_safe (k td tn tz : Int) : Safe (timT k td tn tz) := by
  have h1 : ∀ n, Safe (datT n) := fun n => .app (.pad _ _) (.cons (by decide) (.app (.pad _ _) (.cons (by decide) (.pad _ _))))
  have h2 : ∀ n, Safe (clkT n) := fun n => by
    refine .app (.pad _ _) (.cons (by decide) (.app (.pad _ _) (.cons (by decide) (.app (.pad _ _) ?_))))
    split
    · exact .nil
    · exact .cons (by decide) fun c hc => (cut0_padD_dg _ c hc).safe
  have h3 : ∀ z, Safe (offT z) := fun z => by
    unfold offT; split
    · exact .cons (by decide) .nil
    · refine .cons ?_ (.app (.pad _ _) (.cons (by decide) (.pad _ _)))
      split <;> decide
  unfold timT
  split
  · exact h1 _
  split
  · exact h2 _
  split
  · exact .app (h1 _) (.cons (by decide) (h2 _))
  · exact .app (h1 _) (.cons (by decide) (.app (h2 _) (h3 _)))
end Go.TVF
end

section
namespace Go.TVF
open Go Go.Proofs
set_option linter.unusedVariables false
set_option linter.unusedSimpArgs false
def unsh (x : UInt8) : UInt8 := if x = 34 then 34 else if x = 92 then 92 else if x = 98 then 8 else if x = 102 then 12 else if x = 110 then 10 else if x = 114 then 13 else if x = 116 then 9 else 0
def unhx (a b : UInt8) : Nat := (if a.toNat < 58 then a.toNat - 48 else a.toNat - 87) * 16 + (if b.toNat < 58 then b.toNat - 48 else b.toNat - 87)
theorem unhx_all : ∀ k : Nat, k < 32 → unhx (hxD (k / 16)) (hxD (k % 16)) = k := by decide
theorem esc_form (c : UInt8) : (∃ x, escB c = [92, x] ∧ x ≠ 117 ∧ unsh x = c) ∨ (∃ a b, escB c = [92, 117, 48, 48, a, b] ∧ unhx a b = c.toNat) ∨ (escB c = [c] ∧ c ≠ 92 ∧ c ≠ 34) := by
  unfold escB
  by_cases g : c = 34 ∨ c = 92
  · rw [if_pos g]
    rcases g with rfl | rfl
    · exact .inl ⟨34, rfl, by decide, by decide⟩
    · exact .inl ⟨92, rfl, by decide, by decide⟩
  rw [if_neg g]
  by_cases g1 : c = 8
  · rw [if_pos g1]; subst g1; exact .inl ⟨98, rfl, by decide, by decide⟩
  rw [if_neg g1]
  by_cases g2 : c = 12
  · rw [if_pos g2]; subst g2; exact .inl ⟨102, rfl, by decide, by decide⟩
  rw [if_neg g2]
  by_cases g3 : c = 10
  · rw [if_pos g3]; subst g3; exact .inl ⟨110, rfl, by decide, by decide⟩
  rw [if_neg g3]
  by_cases g4 : c = 13
  · rw [if_pos g4]; subst g4; exact .inl ⟨114, rfl, by decide, by decide⟩
  rw [if_neg g4]
  by_cases g5 : c = 9
  · rw [if_pos g5]; subst g5; exact .inl ⟨116, rfl, by decide, by decide⟩
  rw [if_neg g5]
  by_cases g6 : c.toNat < 32
  · rw [if_pos g6]; exact .inr (.inl ⟨_, _, rfl, unhx_all _ g6⟩)
  · rw [if_neg g6]; exact .inr (.inr ⟨rfl, fun h => g (.inr h), fun h => g (.inl h)⟩)
theorem esc_can {c d : UInt8} {r t : List UInt8} (h : escB c ++ r = escB d ++ t) : c = d ∧ r = t := by
  rcases esc_form c with ⟨x, e1, e2, e3⟩ | ⟨a, b, e1, e2⟩ | ⟨e1, e2, _⟩ <;> rcases esc_form d with ⟨y, f1, f2, f3⟩ | ⟨a', b', f1, f2⟩ | ⟨f1, f2, _⟩ <;> rw [e1, f1] at h <;> simp only [List.cons_append, List.nil_append, List.cons.injEq, true_and] at h
  · exact ⟨by rw [← e3, ← f3, h.1], h.2⟩
  · exact absurd h.1 e2
  · exact absurd h.1.symm f2
  · exact absurd h.1.symm f2
  · obtain ⟨h1, h2, h3⟩ := h
    exact ⟨UInt8.toNat_inj.1 (by rw [← e2, ← f2, h1, h2]), h3⟩
  · exact absurd h.1.symm f2
  · exact absurd h.1 e2
  · exact absurd h.1 e2
  · exact h
theorem esc_not34 (c : UInt8) (r : List UInt8) : ∀ t, escB c ++ r ≠ 34 :: t := by
  intro t h
  rcases esc_form c with ⟨x, e1, e2, e3⟩ | ⟨a, b, e1, e2⟩ | ⟨e1, e2, e3⟩ <;> rw [e1] at h <;> simp only [List.cons_append, List.nil_append, List.cons.injEq] at h
  · exact absurd h.1 (by decide)
  · exact absurd h.1 (by decide)
  · exact e3 h.1
theorem escs_can : ∀ {a b r t : List UInt8}, a.flatMap escB ++ 34 :: r = b.flatMap escB ++ 34 :: t → a = b ∧ r = t
  | [], [], r, t, h => by simpa using h
  | [], d :: b, r, t, h => by
    rw [List.flatMap_nil, List.nil_append, List.flatMap_cons, List.append_assoc] at h
    exact absurd h.symm (esc_not34 d _ _)
  | c :: a, [], r, t, h => by
    rw [List.flatMap_nil, List.nil_append, List.flatMap_cons, List.append_assoc] at h
    exact absurd h (esc_not34 c _ _)
  | c :: a, d :: b, r, t, h => by
    rw [List.flatMap_cons, List.flatMap_cons, List.append_assoc, List.append_assoc] at h
    obtain ⟨rfl, h2⟩ := esc_can h
    obtain ⟨rfl, h3⟩ := escs_can h2
    exact ⟨rfl, h3⟩
theorem quB_can {a b r t : List UInt8} (h : quB a ++ r = quB b ++ t) : a = b ∧ r = t := by
  unfold quB at h
  simp only [List.cons_append, List.cons.injEq, true_and, List.append_assoc, List.nil_append] at h
  exact escs_can h
theorem Safe.flat {s : List UInt8} (h : Safe s) : s.flatMap escB = s := by
  have := h.quB
  unfold TVF.quB at this
  simpa using this
theorem Safe.can {a b r t : List UInt8} (ha : Safe a) (hb : Safe b) (h : a ++ 34 :: r = b ++ 34 :: t) : a = b ∧ r = t := by
  rw [← ha.flat, ← hb.flat] at h
  obtain ⟨h1, h2⟩ := escs_can h
  exact ⟨h1, h2⟩
/-- Bytes of which numbers are made. -/
def nch (c : UInt8) : Prop := isDg c ∨ c = 45 ∨ c = 43 ∨ c = 46 ∨ c = 101
instance (c : UInt8) : Decidable (nch c) := inferInstanceAs (Decidable (_ ∨ _))
def nRun (s : List UInt8) : List UInt8 := s.takeWhile fun c => decide (nch c)
theorem nch0 : ¬ nch 0 := by decide
theorem nRun_app {a r : List UInt8} (ha : ∀ c, c ∈ a → nch c) (hr : ¬ nch (r.getD 0 0)) : nRun (a ++ r) = a := by
  induction a with
  | nil =>
    cases r with
    | nil => rfl
    | cons c r => exact List.takeWhile_cons_of_neg (by simpa using hr)
  | cons c a ih =>
    unfold nRun at ih ⊢
    rw [List.cons_append, List.takeWhile_cons_of_pos (by simpa using ha c List.mem_cons_self), ih fun x hx => ha x (List.mem_cons_of_mem _ hx)]
theorem expT_nch (p : Int) : ∀ c, c ∈ expT p → nch c := by
  intro c hc
  rw [expT_eq] at hc
  split at hc
  · rcases List.mem_cons.1 hc with rfl | hc
    · decide
    rcases List.mem_cons.1 hc with rfl | hc
    · decide
    exact .inl (whN_dg _ c hc)
  · rcases List.mem_cons.1 hc with rfl | hc
    · decide
    exact .inl (whN_dg _ c hc)
theorem dcT_nch {neg : Bool} {dg : List UInt8} {ex : Int} (h : DecOk neg dg ex) : ∀ c, c ∈ dcT neg dg ex → nch c := by
  intro c hc
  by_cases hne : dg = []
  · unfold dcT at hc
    rw [if_pos hne, List.mem_singleton] at hc
    subst hc; decide
  obtain ⟨h1, h2, h3, h4, h5, h6⟩ := h.2 hne
  have hz : ∀ k, ∀ c, c ∈ List.replicate k (48 : UInt8) → nch c := fun k c h => by rw [List.eq_of_mem_replicate h]; decide
  unfold dcT at hc
  rw [if_neg hne] at hc
  rcases List.mem_append.1 hc with hc | hc
  · split at hc
    · rw [List.mem_singleton.1 hc]; decide
    · cases hc
  split at hc
  · rcases List.mem_append.1 hc with hc | hc
    · exact .inl (h2 c hc)
    · exact hz _ c hc
  split at hc
  · rcases List.mem_append.1 hc with hc | hc
    · exact .inl (h2 c (List.mem_of_mem_take hc))
    rcases List.mem_cons.1 hc with rfl | hc
    · decide
    · exact .inl (h2 c (List.mem_of_mem_drop hc))
  split at hc
  · rcases List.mem_cons.1 hc with rfl | hc
    · decide
    rcases List.mem_cons.1 hc with rfl | hc
    · decide
    rcases List.mem_append.1 hc with hc | hc
    · exact hz _ c hc
    · exact .inl (h2 c hc)
  rcases List.mem_append.1 hc with hc | hc
  · exact .inl (h2 c (List.mem_of_mem_take hc))
  rcases List.mem_append.1 hc with hc | hc
  · split at hc
    · rcases List.mem_cons.1 hc with rfl | hc
      · decide
      · exact .inl (h2 c (List.mem_of_mem_drop hc))
    · cases hc
  · exact expT_nch _ c hc
theorem dcT_ne (neg : Bool) (dg : List UInt8) (ex : Int) : dcT neg dg ex ≠ [] := by
  unfold dcT
  by_cases hne : dg = []
  · rw [if_pos hne]; exact fun h => by cases h
  rw [if_neg hne]
  intro h
  have h2 := (List.append_eq_nil_iff.1 h).2
  split at h2
  · exact hne (List.append_eq_nil_iff.1 h2).1
  split at h2
  · exact absurd (List.append_eq_nil_iff.1 h2).2 (by simp)
  split at h2
  · exact absurd h2 (by simp)
  have h3 := (List.append_eq_nil_iff.1 h2).1
  cases dg with
  | nil => exact hne rfl
  | cons c r => simp at h3
theorem dcT_hd {neg : Bool} {dg : List UInt8} {ex : Int} (h : DecOk neg dg ex) (r : List UInt8) : nch ((dcT neg dg ex ++ r).getD 0 0) := by
  have h1 := dcT_nch h
  have h2 := dcT_ne neg dg ex
  cases hd : dcT neg dg ex with
  | nil => exact absurd hd h2
  | cons c t => rw [hd] at h1; exact h1 c List.mem_cons_self
theorem dcT_can {neg neg' : Bool} {dg dg' : List UInt8} {ex ex' : Int} (h : DecOk neg dg ex) (h' : DecOk neg' dg' ex') {r t : List UInt8} (hr : ¬ nch (r.getD 0 0)) (ht : ¬ nch (t.getD 0 0)) (e : dcT neg dg ex ++ r = dcT neg' dg' ex' ++ t) :
    (neg = neg' ∧ dg = dg' ∧ ex = ex') ∧ r = t := by
  have e1 : dcT neg dg ex = dcT neg' dg' ex' := by rw [← nRun_app (dcT_nch h) hr, e, nRun_app (dcT_nch h') ht]
  have e2 := e
  rw [e1] at e2
  have e3 := dcP_text h
  rw [e1, dcP_text h'] at e3
  simp only [Prod.mk.injEq] at e3
  exact ⟨⟨e3.1.symm, e3.2.1.symm, e3.2.2.1.symm⟩, List.append_cancel_left e2⟩
theorem timT_can {k d n z k' d' n' z' : Int} (h : TimeOk k d n z) (h' : TimeOk k' d' n' z') (e : timT k d n z = timT k' d' n' z') : k = k' ∧ d = d' ∧ n = n' ∧ z = z' := by
  have hd : HasDate d.toNat := has_date (by obtain ⟨_, _, h3, h4, _⟩ := h; omega)
  have hd' : HasDate d'.toNat := has_date (by obtain ⟨_, _, h3, h4, _⟩ := h'; omega)
  have e1 := tmP_text h fun _ => hd
  rw [e, tmP_text h' fun _ => hd'] at e1
  simp only [Prod.mk.injEq] at e1
  exact ⟨e1.1.symm, e1.2.1.symm, e1.2.2.1.symm, e1.2.2.2.1.symm⟩
/-- A row of texts with commas between. -/
def sqT {α : Type} (f : α → List UInt8) : Bool → List α → List UInt8
  | _, [] => []
  | b, x :: r => (if b then [] else [44]) ++ (f x ++ sqT f false r)
theorem txtVs_sq : ∀ (l : List Vl) (b : Bool), txtVs b l = sqT txtV b l
  | [], b => by unfold txtVs sqT; rfl
  | x :: r, b => by unfold txtVs sqT; rw [txtVs_sq r]
theorem txtFs_sq : ∀ (l : List Fd) (b : Bool), txtFs b l = sqT txtD b l
  | [], b => by unfold txtFs sqT; rfl
  | x :: r, b => by unfold txtFs sqT; rw [txtFs_sq r]
theorem sq_stop {α : Type} (f : α → List UInt8) {q : UInt8} (hq : ¬ nch q) (l : List α) (r : List UInt8) : ¬ nch ((sqT f false l ++ q :: r).getD 0 0) := by
  cases l with
  | nil => exact hq
  | cons x l =>
    show ¬ nch 44
    decide
theorem seq_can {α : Type} {f : α → List UInt8} {q : UInt8} (P : α → Prop) (hq : q ≠ 44) (hqn : ¬ nch q) (hcan : ∀ x y r t, P x → P y → ¬ nch (r.getD 0 0) → ¬ nch (t.getD 0 0) → f x ++ r = f y ++ t → x = y ∧ r = t)
    (hhd : ∀ x r, P x → (f x ++ r).getD 0 0 ≠ q) : ∀ (l m : List α) (b : Bool) (r t : List UInt8), (∀ x, x ∈ l → P x) → (∀ x, x ∈ m → P x) → sqT f b l ++ q :: r = sqT f b m ++ q :: t → l = m ∧ r = t
  | [], [], b, r, t, _, _, h => by
    simp only [sqT, List.nil_append, List.cons.injEq, true_and] at h
    exact ⟨rfl, h⟩
  | [], y :: m, b, r, t, _, hm, h => by
    exfalso
    have h0 := congrArg (fun z : List UInt8 => z.getD 0 0) h
    simp only [sqT, List.nil_append, List.append_assoc] at h0
    cases b with
    | true => exact hhd y _ (hm y (.head _)) h0.symm
    | false => exact hq h0
  | x :: l, [], b, r, t, hl, _, h => by
    exfalso
    have h0 := congrArg (fun z : List UInt8 => z.getD 0 0) h
    simp only [sqT, List.nil_append, List.append_assoc] at h0
    cases b with
    | true => exact hhd x _ (hl x (.head _)) h0
    | false => exact hq h0.symm
  | x :: l, y :: m, b, r, t, hl, hm, h => by
    simp only [sqT, List.append_assoc] at h
    have h1 := List.append_cancel_left h
    obtain ⟨rfl, h2⟩ := hcan x y _ _ (hl x (.head _)) (hm y (.head _)) (sq_stop f hqn l r) (sq_stop f hqn m t) h1
    obtain ⟨rfl, h3⟩ := seq_can P hq hqn hcan hhd l m false r t (fun z hz => hl z (.tail _ hz)) (fun z hz => hm z (.tail _ hz)) h2
    exact ⟨rfl, h3⟩
/-- What kind of value a text begins with. -/
def kdT (s : List UInt8) : Nat := if s.getD 0 0 = 110 then 0 else if s.getD 0 0 = 102 then 1 else if s.getD 0 0 = 116 then (if s.getD 1 0 = 34 then 3 else 1) else if s.getD 0 0 = 34 then 4 else if s.getD 0 0 = 98 then 5 else if s.getD 0 0 = 91 then 6 else if s.getD 0 0 = 123 then 7 else 2
theorem kdT_num {s : List UInt8} (h : nch (s.getD 0 0)) : kdT s = 2 := by
  have ne : ∀ k : UInt8, ¬ nch k → s.getD 0 0 ≠ k := fun k hk e => hk (e ▸ h)
  unfold kdT
  rw [if_neg (ne 110 (by decide)), if_neg (ne 102 (by decide)), if_neg (ne 116 (by decide)), if_neg (ne 34 (by decide)), if_neg (ne 98 (by decide)), if_neg (ne 91 (by decide)), if_neg (ne 123 (by decide))]
/-- The text of a value of a known kind. -/
theorem txt_0 {s : Sc} {l : List Vl} {f : List Fd} (h : s.kind = 0) : txtV (.mk s l f) = [110, 117, 108, 108] := by unfold txtV; rw [if_pos h]
theorem txt_1 {s : Sc} {l : List Vl} {f : List Fd} (h : s.kind = 1) : txtV (.mk s l f) = if s.b then [116, 114, 117, 101] else [102, 97, 108, 115, 101] := by unfold txtV; rw [if_neg (by omega), if_pos h]
theorem txt_2 {s : Sc} {l : List Vl} {f : List Fd} (h : s.kind = 2) : txtV (.mk s l f) = dcT s.neg s.dg s.ex := by unfold txtV; rw [if_neg (by omega), if_neg (by omega), if_pos h]
theorem txt_3 {s : Sc} {l : List Vl} {f : List Fd} (h : s.kind = 3) : txtV (.mk s l f) = 116 :: 34 :: (timT s.tk s.td s.tn s.tz ++ [34]) := by unfold txtV; rw [if_neg (by omega), if_neg (by omega), if_neg (by omega), if_pos h]
theorem txt_4 {s : Sc} {l : List Vl} {f : List Fd} (h : s.kind = 4) : txtV (.mk s l f) = quB s.text := by unfold txtV; rw [if_neg (by omega), if_neg (by omega), if_neg (by omega), if_neg (by omega), if_pos h]
theorem txt_5 {s : Sc} {l : List Vl} {f : List Fd} (h : s.kind = 5) : txtV (.mk s l f) = 98 :: 34 :: (encR true s.bytes ++ [34]) := by unfold txtV; rw [if_neg (by omega), if_neg (by omega), if_neg (by omega), if_neg (by omega), if_neg (by omega), if_pos h]
theorem txt_6 {s : Sc} {l : List Vl} {f : List Fd} (h : s.kind = 6) : txtV (.mk s l f) = 91 :: (txtVs true l ++ [93]) := by unfold txtV; rw [if_neg (by omega), if_neg (by omega), if_neg (by omega), if_neg (by omega), if_neg (by omega), if_neg (by omega), if_pos h]
theorem txt_7 {s : Sc} {l : List Vl} {f : List Fd} (h : s.kind = 7) : txtV (.mk s l f) = 123 :: (txtFs true f ++ [125]) := by unfold txtV; rw [if_neg (by omega), if_neg (by omega), if_neg (by omega), if_neg (by omega), if_neg (by omega), if_neg (by omega), if_neg (by omega)]
theorem kind8 {s : Sc} {l : List Vl} {f : List Fd} (own : OwnOk s l f) : s.kind = 0 ∨ s.kind = 1 ∨ s.kind = 2 ∨ s.kind = 3 ∨ s.kind = 4 ∨ s.kind = 5 ∨ s.kind = 6 ∨ s.kind = 7 := by
  have := own.k0
  have := own.k7
  omega
theorem kdT_txt {v : Vl} (h : EncV v) (r : List UInt8) : v.sc.kind = kdT (txtV v ++ r) := by
  obtain ⟨s, l, f⟩ := v
  unfold EncV at h
  obtain ⟨own, dec, _⟩ := h
  show s.kind = _
  rcases kind8 own with h | h | h | h | h | h | h | h <;> rw [h]
  · rw [txt_0 h]; rfl
  · rw [txt_1 h]; cases s.b <;> rfl
  · rw [txt_2 h, kdT_num (dcT_hd dec r)]; rfl
  · rw [txt_3 h]; rfl
  · rw [txt_4 h]; rfl
  · rw [txt_5 h]; rfl
  · rw [txt_6 h]; rfl
  · rw [txt_7 h]; rfl
theorem txt_hd {v : Vl} (h : EncV v) (r : List UInt8) : (txtV v ++ r).getD 0 0 ≠ 93 ∧ (txtV v ++ r).getD 0 0 ≠ 125 := by
  obtain ⟨s, l, f⟩ := v
  unfold EncV at h
  obtain ⟨own, dec, _⟩ := h
  rcases kind8 own with h | h | h | h | h | h | h | h
  · rw [txt_0 h]; exact ⟨by show (110 : UInt8) ≠ _; decide, by show (110 : UInt8) ≠ _; decide⟩
  · rw [txt_1 h]
    cases s.b with
    | false => exact ⟨by show (102 : UInt8) ≠ _; decide, by show (102 : UInt8) ≠ _; decide⟩
    | true => exact ⟨by show (116 : UInt8) ≠ _; decide, by show (116 : UInt8) ≠ _; decide⟩
  · rw [txt_2 h]
    have := dcT_hd dec r
    exact ⟨fun e => by rw [e] at this; revert this; decide, fun e => by rw [e] at this; revert this; decide⟩
  · rw [txt_3 h]; exact ⟨by show (116 : UInt8) ≠ _; decide, by show (116 : UInt8) ≠ _; decide⟩
  · rw [txt_4 h]; exact ⟨by show (34 : UInt8) ≠ _; decide, by show (34 : UInt8) ≠ _; decide⟩
  · rw [txt_5 h]; exact ⟨by show (98 : UInt8) ≠ _; decide, by show (98 : UInt8) ≠ _; decide⟩
  · rw [txt_6 h]; exact ⟨by show (91 : UInt8) ≠ _; decide, by show (91 : UInt8) ≠ _; decide⟩
  · rw [txt_7 h]; exact ⟨by show (123 : UInt8) ≠ _; decide, by show (123 : UInt8) ≠ _; decide⟩
theorem encR_can {a b : List UInt8} (h : encR true a = encR true b) : a = b := by
  have h1 := dec_enc true a
  rw [h, dec_enc true b] at h1
  exact (congrArg Prod.fst h1).symm
theorem txt_can : ∀ (N : Nat) (v w : Vl) (r t : List UInt8), v.sz ≤ N → w.sz ≤ N → EncV v → EncV w → ¬ nch (r.getD 0 0) → ¬ nch (t.getD 0 0) → txtV v ++ r = txtV w ++ t → v = w ∧ r = t := by
  intro N
  induction N with
  | zero => intro v w r t h; have := v.sz_pos; omega
  | succ N ih =>
  intro v w r t hN hM hv hw hr ht h
  have hk : v.sc.kind = w.sc.kind := by rw [kdT_txt hv r, kdT_txt hw t, h]
  obtain ⟨s, l, f⟩ := v
  obtain ⟨s', l', f'⟩ := w
  change s.kind = s'.kind at hk
  have hsz := szs s l f
  have hsz' := szs s' l' f'
  unfold EncV at hv hw
  obtain ⟨own, dec, tim, htx, hby, hl, hf⟩ := hv
  obtain ⟨own', dec', tim', htx', hby', hl', hf'⟩ := hw
  have noB : s.kind ≠ 1 → s'.b = false := fun h => own'.bo (by omega)
  have noN : s.kind ≠ 2 → s'.neg = false ∧ s'.dg = [] ∧ s'.ex = 0 := fun h => own'.nu (by omega)
  have noT : s.kind ≠ 3 → s'.tk = 0 ∧ s'.td = 0 ∧ s'.tn = 0 ∧ s'.tz = 0 := fun h => own'.ti (by omega)
  have noX : s.kind ≠ 4 → s'.text = [] := fun h => own'.tx (by omega)
  have noY : s.kind ≠ 5 → s'.bytes = [] := fun h => own'.by_ (by omega)
  have noL : s.kind ≠ 6 → l = l' := fun h => by rw [own.ls h, own'.ls (by omega)]
  have noF : s.kind ≠ 7 → f = f' := fun h => by rw [own.fs h, own'.fs (by omega)]
  rcases kind8 own with k | k | k | k | k | k | k | k
  · rw [txt_0 k, txt_0 (hk ▸ k)] at h
    obtain rfl : s = s' := sc_own0 own hk (by omega) noB (by omega) noN (by omega) noT (by omega) noX (by omega) noY
    obtain rfl := noL (by omega)
    obtain rfl := noF (by omega)
    exact ⟨rfl, List.append_cancel_left h⟩
  · rw [txt_1 k, txt_1 (hk ▸ k)] at h
    have hb : s.b = s'.b ∧ r = t := by
      cases h1 : s.b <;> cases h2 : s'.b <;> rw [h1, h2] at h
      · exact ⟨rfl, List.append_cancel_left h⟩
      · exact absurd (congrArg (fun z : List UInt8 => z.getD 0 0) h) (by show ¬ (102 : UInt8) = 116; decide)
      · exact absurd (congrArg (fun z : List UInt8 => z.getD 0 0) h) (by show ¬ (116 : UInt8) = 102; decide)
      · exact ⟨rfl, List.append_cancel_left h⟩
    obtain rfl : s = s' := sc_own0 own hk (fun _ => hb.1) (fun h => absurd k h) (by omega) noN (by omega) noT (by omega) noX (by omega) noY
    obtain rfl := noL (by omega)
    obtain rfl := noF (by omega)
    exact ⟨rfl, hb.2⟩
  · rw [txt_2 k, txt_2 (hk ▸ k)] at h
    obtain ⟨hd, he⟩ := dcT_can dec dec' hr ht h
    obtain rfl : s = s' := sc_own0 own hk (by omega) noB (fun _ => hd) (fun h => absurd k h) (by omega) noT (by omega) noX (by omega) noY
    obtain rfl := noL (by omega)
    obtain rfl := noF (by omega)
    exact ⟨rfl, he⟩
  · rw [txt_3 k, txt_3 (hk ▸ k)] at h
    simp only [List.cons_append, List.cons.injEq, true_and, List.append_assoc, List.nil_append] at h
    obtain ⟨h1, h2⟩ := (timT_safe _ _ _ _).can (timT_safe _ _ _ _) h
    obtain rfl : s = s' := sc_own0 own hk (by omega) noB (by omega) noN (fun _ => timT_can (tim k) (tim' (hk ▸ k)) h1) (fun h => absurd k h) (by omega) noX (by omega) noY
    obtain rfl := noL (by omega)
    obtain rfl := noF (by omega)
    exact ⟨rfl, h2⟩
  · rw [txt_4 k, txt_4 (hk ▸ k)] at h
    obtain ⟨h1, h2⟩ := quB_can h
    obtain rfl : s = s' := sc_own0 own hk (by omega) noB (by omega) noN (by omega) noT (fun _ => h1) (fun h => absurd k h) (by omega) noY
    obtain rfl := noL (by omega)
    obtain rfl := noF (by omega)
    exact ⟨rfl, h2⟩
  · rw [txt_5 k, txt_5 (hk ▸ k)] at h
    simp only [List.cons_append, List.cons.injEq, true_and, List.append_assoc, List.nil_append] at h
    obtain ⟨h1, h2⟩ := (encR_safe _ _).can (encR_safe _ _) h
    obtain rfl : s = s' := sc_own0 own hk (by omega) noB (by omega) noN (by omega) noT (by omega) noX (fun _ => encR_can h1) (fun h => absurd k h)
    obtain rfl := noL (by omega)
    obtain rfl := noF (by omega)
    exact ⟨rfl, h2⟩
  · rw [txt_6 k, txt_6 (hk ▸ k)] at h
    simp only [List.cons_append, List.cons.injEq, true_and, List.append_assoc, List.nil_append, txtVs_sq] at h
    obtain ⟨h1, h2⟩ := seq_can (fun x : Vl => EncV x ∧ x.sz ≤ N) (by decide) (by decide) (fun x y r t hx hy hr ht e => ih x y r t hx.2 hy.2 hx.1 hy.1 hr ht e) (fun x r hx => (txt_hd hx.1 r).1) l l' true r t
      (fun x hx => ⟨EncVs_iff.1 hl x hx, by have := vsSz_mem hx; omega⟩) (fun x hx => ⟨EncVs_iff.1 hl' x hx, by have := vsSz_mem hx; omega⟩) h
    obtain rfl : s = s' := sc_own0 own hk (by omega) noB (by omega) noN (by omega) noT (by omega) noX (by omega) noY
    obtain rfl := noF (by omega)
    subst h1
    exact ⟨rfl, h2⟩
  · rw [txt_7 k, txt_7 (hk ▸ k)] at h
    simp only [List.cons_append, List.cons.injEq, true_and, List.append_assoc, List.nil_append, txtFs_sq] at h
    obtain ⟨h1, h2⟩ := seq_can (fun x : Fd => EncD x ∧ x.sz ≤ N) (by decide) (by decide) (fun x y r t hx hy hr ht e => by
        obtain ⟨kx, vx⟩ := x
        obtain ⟨ky, vy⟩ := y
        obtain ⟨ex, zx⟩ := hx
        obtain ⟨ey, zy⟩ := hy
        unfold EncD at ex ey
        rw [szd] at zx zy
        unfold txtD at e
        rw [List.append_assoc, List.append_assoc] at e
        obtain ⟨rfl, e1⟩ := quB_can e
        simp only [List.cons_append, List.cons.injEq, true_and] at e1
        obtain ⟨rfl, e2⟩ := ih vx vy r t (by omega) (by omega) ex.2 ey.2 hr ht e1
        exact ⟨rfl, e2⟩)
      (fun x r hx => by obtain ⟨kx, vx⟩ := x; unfold txtD; show (34 : UInt8) ≠ 125; decide) f f' true r t
      (fun x hx => ⟨EncFs_iff.1 hf x hx, by have := fsSz_mem hx; omega⟩) (fun x hx => ⟨EncFs_iff.1 hf' x hx, by have := fsSz_mem hx; omega⟩) h
    obtain rfl : s = s' := sc_own0 own hk (by omega) noB (by omega) noN (by omega) noT (by omega) noX (by omega) noY
    obtain rfl := noL (by omega)
    subst h1
    exact ⟨rfl, h2⟩
/-- Canonical texts of valid values are the same only where the values are. -/
theorem txt_uniq {v w : Vl} (hv : EncV v) (hw : EncV w) (h : txtV v = txtV w) : v = w :=
  (txt_can (max v.sz w.sz) v w [] [] (Nat.le_max_left _ _) (Nat.le_max_right _ _) hv hw nch0 nch0 (by rw [h])).1
end Go.TVF
end

section
namespace Go.TVF
open Go Go.Proofs
set_option linter.unusedVariables false
set_option linter.unusedSimpArgs false
theorem bytes_uniq {v w : Vl} (hv : checkV v = 0) (hw : checkV w = 0) (hN : v.sz ≤ 2000000) (hM : w.sz ≤ 2000000) (h : bytesV (sortV v) = bytesV (sortV w)) : sortV v = sortV w := by
  have h1 := (rds_sorted hv hN).good (bytesV (sortV v)) 0 [] (by rw [List.drop_zero, List.append_nil])
  have h2 := (rds_sorted hw hM).good (bytesV (sortV v)) 0 [] (by rw [List.drop_zero, List.append_nil, h])
  rw [h1] at h2
  simp only [Except.ok.injEq, Prod.mk.injEq] at h2
  exact h2.1
theorem text_uniq {v w : Vl} (hv : checkV v = 0) (hw : checkV w = 0) (h : txtV (sortV v) = txtV (sortV w)) : sortV v = sortV w :=
  txt_uniq (Valid.enc (check_valid hv)).sort (Valid.enc (check_valid hw)).sort h
set_option maxRecDepth 4000 in
theorem lunique_ok {v w : Vl} (hN : v.sz ≤ 2000000) (hM : w.sz ≤ 2000000) {st : St} {cs ds : List TV} {K : Bool → St → Prop} (h : VlR st v cs) (h' : VlR st w ds) (hk : ∀ st', K true st') : CallT PR fn_datakitlaw10_CanonUnique [.agg cs, .agg ds] [.one .bool] st K := by
  have h0 := h
  have h0' := h'
  obtain ⟨s, l, f⟩ := v
  obtain ⟨s', l', f'⟩ := w
  unfold VlR at h0 h0'
  obtain ⟨ub, ul, uf, xl, xf, rfl, _⟩ := h0
  obtain ⟨ub', ul', uf', xl', xf', rfl, _⟩ := h0'
  refine vc_datakitlaw10_CanonUnique _ _ _ _ _ _ _ _ _ _ _ _ _ _ _ _ _ _ _ _ _ _ _ _ _ _ st K (Small_ok hN h (Keeps.refl _) fun b => BIf_bool (fun _ => hk _) fun _ => Small_ok hM h' (Keeps.refl _) fun b2 => BIf_bool (fun _ => hk _) fun _ => ?_)
  refine rCheck_ok hN h (Keeps.refl _) fun st1 e1 => BIf_intro (fun _ => hk _) fun g1 => rCheck_ok hM h' e1.keeps fun st2 e2 => BIf_intro (fun _ => hk _) fun g2 => ?_
  have c1 : checkV (.mk s l f) = 0 := by omega
  have c2 : checkV (.mk s' l' f') = 0 := by omega
  have k2 := e1.trans e2
  refine Encode_ok hN h k2.keeps fun u1 st3 e3 r1 => Encode_ok hM h' (k2.trans e3).keeps fun u2 st4 e4 r2 => ?_
  have k4 := (k2.trans e3).trans e4
  refine Text_ok hN (h.keep k4.keeps) fun st5 e5 => Text_ok hM (h'.keep (k4.trans e5).keeps) fun st6 e6 => ?_
  have k6 := (k4.trans e5).trans e6
  rw [c1, c2]
  refine BIf_intro (fun g => absurd rfl g) fun _ => BIf_intro (fun g => absurd rfl g) fun _ => BIf_intro (fun g => absurd rfl g) fun _ => BIf_intro (fun g => absurd rfl g) fun _ => ?_
  refine rEqual_ok hN hM (by rw [sortV_sz]; exact hN) (by rw [sortV_sz]; exact hM) h h' k6.keeps fun r st7 e7 hr => sameBytes_ok r1 r2 ?_
  have hb : decide (encV (.mk s l f) = encV (.mk s' l' f')) = r := by
    have : encV (.mk s l f) = encV (.mk s' l' f') ↔ r = true := by
      unfold encV
      rw [if_pos c1, if_pos c2, hr]
      exact ⟨bytes_uniq c1 c2 hN hM, fun h => by rw [h]⟩
    cases r with
    | true => exact decide_eq_true (this.2 rfl)
    | false => exact decide_eq_false fun h => Bool.false_ne_true (this.1 h)
  have ht : decide ((if (0 : Nat) = 0 then txtV (sortV (.mk s l f)) else []) = (if (0 : Nat) = 0 then txtV (sortV (.mk s' l' f')) else [])) = r := by
    rw [if_pos rfl, if_pos rfl]
    have : txtV (sortV (.mk s l f)) = txtV (sortV (.mk s' l' f')) ↔ r = true := by
      rw [hr]
      exact ⟨text_uniq c1 c2, fun h => by rw [h]⟩
    cases r with
    | true => exact decide_eq_true (this.2 rfl)
    | false => exact decide_eq_false fun h => Bool.false_ne_true (this.1 h)
  rw [hb, ht, beq_self_eq_true]
  exact hk _
end Go.TVF
end
