/- What the laws below rest on: a framework for Go programs, and contracts of the functions that they reach. -/
import Derived.Test.YteghkkhlgjiaiaaDoorDfD
section
namespace Go.TVF
open Go Go.Proofs
set_option linter.unusedVariables false
set_option linter.unusedSimpArgs false
theorem w8_int {x : Int} (h0 : 0 ≤ x) (h : x ≤ 255) : IntKind.u8.wrap x = ((x.toNat.toUInt8.toNat : Nat) : Int) := by
  obtain ⟨n, rfl⟩ : ∃ n : Nat, x = n := ⟨x.toNat, by omega⟩
  rw [Int.toNat_natCast]
  exact w8_lt n (by omega)
theorem u64_int {x : Int} (h0 : 0 ≤ x) (h : x ≤ 1000000000000000) : IntKind.u64.wrap x = (x.toNat : Int) := by
  obtain ⟨n, rfl⟩ : ∃ n : Nat, x = n := ⟨x.toNat, by omega⟩
  rw [Int.toNat_natCast]
  exact u64_nat n (by omega)
theorem bytes_one (l : List UInt8) : List.all (bytesT l) oneT = true := by
  rw [List.all_eq_true]; intro x hx
  simp only [bytesT, List.mem_map] at hx
  obtain ⟨y, _, rfl⟩ := hx; rfl
/-- An element of a row of values is loaded. -/
theorem el13 {st0 st : St} {ul : TV} {xl : List TV} {l : List Vl} (hke : Keeps st0 st) (h2 : SlR st0 13 ul l.length xl) (h3 : VsR st0 l xl) {i : Int} {k : Nat} (hi : i = k) (hk : k < l.length) {f : Fun [.int .i64, .bool, .bool, .str, .int .i64, .int .i64, .int .i64, .int .i64, .int .i64, .str, .tv, .tv, .tv] Prop}
    (hf : ∀ s' l' f' ub1 ul1 uf1, l[k]? = some (.mk s' l' f') → VlR st0 (.mk s' l' f') (cellsV s' ub1 ul1 uf1) → List.all (cellsV s' ub1 ul1 uf1) oneT = true → f s'.kind s'.b s'.neg s'.dg s'.ex s'.tk s'.td s'.tn s'.tz s'.text ub1 ul1 uf1) :
    (0 ≤ i ∧ i < (lenZ 13 ul : Int)) ∧ optK ((ldCells st [] (.t (ixT 13 ul (Int.toNat i))) 0 13).map TV.agg) fun x => decA [.int .i64, .bool, .bool, .str, .int .i64, .int .i64, .int .i64, .int .i64, .int .i64, .str, .tv, .tv, .tv] x f := by
  subst hi
  have gw : l[k]? = some l[k] := List.getElem?_eq_getElem hk
  obtain ⟨cw, hw, hcw, hcl⟩ := h3.get gw
  rw [h2.lenZ, Int.toNat_natCast, (h2.keep hke).ldc h3.len hk, hcw]
  generalize l[k] = w at *
  cases w with
  | mk s' l' f' =>
  have hw0 := hw
  unfold VlR at hw0
  obtain ⟨ub', ul', uf', xl', xf', rfl, w1, w2, w3, w4, w5⟩ := hw0
  exact ⟨⟨by omega, by omega⟩, optK_intro rfl (decA13 (hf s' l' f' ub' ul' uf' gw hw (one13 w1.one w2.one w4.one)))⟩
/-- An element of a row of fields is loaded. -/
theorem el14 {st0 st : St} {uf : TV} {xf : List TV} {l : List Fd} (hke : Keeps st0 st) (h2 : SlR st0 14 uf l.length xf) (h3 : FsR st0 l xf) {i : Int} {k : Nat} (hi : i = k) (hk : k < l.length) {f : Fun [.str, .int .i64, .bool, .bool, .str, .int .i64, .int .i64, .int .i64, .int .i64, .int .i64, .str, .tv, .tv, .tv] Prop}
    (hf : ∀ key s' l' f' ub1 ul1 uf1, l[k]? = some (.mk key (.mk s' l' f')) → VlR st0 (.mk s' l' f') (cellsV s' ub1 ul1 uf1) → List.all (.str key :: cellsV s' ub1 ul1 uf1) oneT = true → f key s'.kind s'.b s'.neg s'.dg s'.ex s'.tk s'.td s'.tn s'.tz s'.text ub1 ul1 uf1) :
    (0 ≤ i ∧ i < (lenZ 14 uf : Int)) ∧ optK ((ldCells st [] (.t (ixT 14 uf (Int.toNat i))) 0 14).map TV.agg) fun x => decA [.str, .int .i64, .bool, .bool, .str, .int .i64, .int .i64, .int .i64, .int .i64, .int .i64, .str, .tv, .tv, .tv] x f := by
  subst hi
  have gw : l[k]? = some l[k] := List.getElem?_eq_getElem hk
  obtain ⟨cw, hw, hcw, hcl⟩ := h3.get gw
  rw [h2.lenZ, Int.toNat_natCast, (h2.keep hke).ldc h3.len hk, hcw]
  generalize l[k] = w at *
  cases w with
  | mk key w =>
  cases w with
  | mk s' l' f' =>
  have hw0 := hw
  unfold FdR at hw0
  obtain ⟨cw2, rfl, hw1⟩ := hw0
  have hw2 := hw1
  unfold VlR at hw2
  obtain ⟨ub', ul', uf', xl', xf', rfl, w1, w2, w3, w4, w5⟩ := hw2
  exact ⟨⟨by omega, by omega⟩, optK_intro rfl (decA14 (hf key s' l' f' ub' ul' uf' gw hw1 (one14 w1.one w2.one w4.one)))⟩
theorem take_snoc {α : Type} {l : List α} {k : Nat} {v : α} (h : l[k]? = some v) : l.take (k + 1) = l.take k ++ [v] := by
  obtain ⟨q1, q2⟩ := List.getElem?_eq_some_iff.1 h
  rw [List.take_succ_eq_append_getElem q1, q2]
theorem mem_of_get {α : Type} {l : List α} {k : Nat} {v : α} (h : l[k]? = some v) : v ∈ l := by
  obtain ⟨q1, q2⟩ := List.getElem?_eq_some_iff.1 h
  rw [← q2]; exact List.getElem_mem q1
theorem VsOk.mem : ∀ {l : List Vl} {v : Vl}, VsOk l → v ∈ l → VOk v
  | [], v, _, h => by cases h
  | w :: r, v, hk, h => by
    unfold VsOk at hk
    rcases List.mem_cons.1 h with rfl | h
    · exact hk.1
    · exact VsOk.mem hk.2 h
theorem FsOk.mem : ∀ {l : List Fd} {v : Fd}, FsOk l → v ∈ l → FdOk v
  | [], v, _, h => by cases h
  | w :: r, v, hk, h => by
    unfold FsOk at hk
    rcases List.mem_cons.1 h with rfl | h
    · exact hk.1
    · exact FsOk.mem hk.2 h
theorem bytesV_le_get : ∀ {l : List Vl} {k : Nat} {v : Vl}, l[k]? = some v → (bytesVs (l.take k)).length + (bytesV v).length ≤ (bytesVs l).length
  | [], k, v, h => by simp at h
  | w :: r, 0, v, h => by simp at h; subst h; simp [bytesVs]
  | w :: r, k + 1, v, h => by
    have := bytesV_le_get (l := r) (k := k) (v := v) (by simpa using h)
    simp only [List.take_succ_cons, bytesVs, List.length_append]; omega
theorem bytesD_le_get : ∀ {l : List Fd} {k : Nat} {v : Fd}, l[k]? = some v → (bytesFs (l.take k)).length + (bytesD v).length ≤ (bytesFs l).length
  | [], k, v, h => by simp at h
  | w :: r, 0, v, h => by simp at h; subst h; simp [bytesFs]
  | w :: r, k + 1, v, h => by
    have := bytesD_le_get (l := r) (k := k) (v := v) (by simpa using h)
    simp only [List.take_succ_cons, bytesFs, List.length_append]; omega
theorem put_ok : ∀ (N : Nat) (v : Vl), v.sz ≤ N → N ≤ 2000000 → VOk v → ∀ {st0 st : St} {cs : List TV} {u : TV} {l0 : List UInt8} {K : TV → St → Prop}, VlR st0 v cs → StExt st0 st → OwnB st0.nt st u l0 → l0.length + (bytesV v).length ≤ 1000000000 →
    (∀ u' st', StExt st0 st' → OwnB st0.nt st' u' (l0 ++ bytesV v) → K u' st') → CallT PR fn_canon_put [u, .agg cs] [.one .tv] st K := by
  intro N
  induction N with
  | zero => intro v h; have := v.sz_pos; omega
  | succ N ih =>
  intro v hN hN2 hok st0 st cs u l0 K h e ho hlen hk
  cases v with
  | mk s l f =>
  have hsz : (Vl.mk s l f).sz = 1 + s.bytes.length + s.text.length + s.dg.length + vsSz l + fsSz f := by unfold Vl.sz; rfl
  have hll := vsSz_len l
  have hfl := fsSz_len f
  unfold VOk at hok
  obtain ⟨so, lok, fok⟩ := hok
  unfold VlR at h
  obtain ⟨ub, ul, uf, xl, xf, rfl, h1, h2, h3, h4, h5⟩ := h
  unfold bytesV at hlen hk
  simp only [List.length_cons] at hlen
  refine vc_canon_put _ _ _ _ _ _ _ _ _ _ _ _ _ _ st K (appK_ys (ys := [s.kind.toNat.toUInt8]) e ho rfl (by simp only [bytesT, List.map_cons, List.map_nil, byteT]; rw [w8_int so.k0 (by have := so.k7; omega)]) (by simp only [List.length_cons, List.length_nil]; omega) fun v1 st1 e1 _ ho1 => ?_)
  refine BIf_intro (fun g => ?_) fun g1 => BIf_intro (fun g => ?_) fun g2 => BIf_intro (fun g => ?_) fun g3 => BIf_intro (fun g => ?_) fun g4 => BIf_intro (fun g => ?_) fun g5 => BIf_intro (fun g => ?_) fun g6 => BIf_intro (fun g => ?_) fun g7 => ?_
  · rw [if_pos g] at hlen hk
    refine BIf_bool (fun hb => ?_) fun hb => ?_
    · refine appK_ys (ys := [1]) e1 ho1 rfl rfl (by simp only [List.length_append, List.length_cons, List.length_nil] at hlen ⊢; omega) fun v' st' e' _ ho' => hk v' st' e' (by rw [hb]; simpa using ho')
    · refine appK_ys (ys := [0]) e1 ho1 rfl rfl (by simp only [List.length_append, List.length_cons, List.length_nil] at hlen ⊢; omega) fun v' st' e' _ ho' => hk v' st' e' (by rw [hb]; simpa using ho')
  · rw [if_neg (by omega), if_pos g] at hlen hk
    exact number_ok so.dg so.e1 so.e2 e1 ho1 (by simp only [List.length_append, List.length_cons, List.length_nil]; omega) fun v' st' e' ho' => hk v' st' e' (by simpa using ho')
  · rw [if_neg (by omega), if_neg (by omega), if_pos g] at hlen hk
    simp only [List.length_cons, List.length_append] at hlen
    refine appK_ys (ys := [s.tk.toNat.toUInt8]) e1 ho1 rfl (by simp only [bytesT, List.map_cons, List.map_nil, byteT]; rw [w8_int so.t0 so.t4]) (by simp only [List.length_append, List.length_cons, List.length_nil]; omega) fun v2 st2 e2 _ ho2 => ?_
    refine natural_ok (u64_int so.d0 (by have := so.d1; omega)) (by have := so.d1; omega) e2 ho2 (by simp only [List.length_append, List.length_cons, List.length_nil]; omega) fun v3 st3 e3 ho3 => ?_
    refine natural_ok (n := s.tn.toNat) (u64_int so.n0 (by have := so.n1; omega)) (by have := so.n1; omega) e3 ho3 (by simp only [List.length_append, List.length_cons, List.length_nil]; omega) fun v4 st4 e4 ho4 => ?_
    refine fold_ok (by have := so.z0; omega) (by have := so.z1; omega) (natural_ok rfl (by have := zig_le (n := s.tz) (by have := so.z0; omega) (by have := so.z1; omega); omega) e4 ho4 (by simp only [List.length_append, List.length_cons, List.length_nil]; omega) fun v5 st5 e5 ho5 => hk v5 st5 e5 (by simpa using ho5))
  · rw [if_neg (by omega), if_neg (by omega), if_neg (by omega), if_pos g] at hlen hk
    exact str_ok (by omega) e1 ho1 (by simp only [List.length_append, List.length_cons, List.length_nil]; omega) fun v' st' e' ho' => hk v' st' e' (by simpa using ho')
  · rw [if_neg (by omega), if_neg (by omega), if_neg (by omega), if_neg (by omega), if_pos g] at hlen hk
    unfold strB at hlen hk
    rw [List.length_append] at hlen
    refine countB_ok (h1.keep e1.keeps) (by omega) e1 ho1 (by simp only [List.length_append, List.length_cons, List.length_nil]; omega) fun v2 st2 e2 ho2 => ?_
    refine optK_intro ((h1.keep e2.keeps).src (by rw [length_bytesT]; omega)) (need_intro (bytes_one _) ?_)
    exact appK_ys e2 ho2 rfl rfl (by simp only [List.length_append, List.length_cons, List.length_nil]; omega) fun v' st' e' _ ho' => hk v' st' e' (by simpa using ho')
  · rw [if_neg (by omega), if_neg (by omega), if_neg (by omega), if_neg (by omega), if_neg (by omega), if_pos g] at hlen hk
    rw [List.length_append] at hlen
    refine countV_ok (h2.keep e1.keeps) (by omega) e1 ho1 (by simp only [List.length_append, List.length_cons, List.length_nil]; omega) fun v2 st2 e2 ho2 => need_intro h2.isSl ?_
    refine ⟨fun b i u n st' => ul = u ∧ (l.length : Int) = n ∧ ∃ k : Nat, i = k ∧ k ≤ l.length ∧ StExt st0 st' ∧ OwnB st0.nt st' b (l0 ++ [s.kind.toNat.toUInt8] ++ natB l.length ++ bytesVs (l.take k)), fun _ i _ _ _ => (l.length - i).toNat,
      ⟨rfl, by rw [h2.lenS], 0, rfl, Nat.zero_le _, e2, by simpa [bytesVs] using ho2⟩, ?_⟩
    rintro b _ _ _ st3 ⟨rfl, rfl, k, rfl, hkl, e3, ho3⟩
    refine BIf_intro (fun g' => ?_) fun g' => ?_
    · refine el13 e3.keeps h2 h3 rfl (by omega) fun s' l' f' ub1 ul1 uf1 gw hw on => need_intro on ?_
      have hwsz := vsSz_get gw
      have hbl := bytesV_le_get gw
      refine ih _ (by omega) (by omega) (lok.mem (mem_of_get gw)) hw e3 ho3 (by simp only [List.length_append, List.length_cons, List.length_nil]; omega) fun u' st4 e4 ho4 => ?_
      refine ⟨⟨rfl, rfl, k + 1, by rw [wrap64 _ (by omega) (by omega)]; omega, by omega, e4, ?_⟩, by dsimp only; rw [wrap64 _ (by omega) (by omega)]; omega⟩
      rw [take_snoc gw, bytesVs_app, ← List.append_assoc]
      simpa [bytesVs] using ho4
    · have hkk : k = l.length := by omega
      subst hkk
      rw [List.take_length] at ho3
      exact hk b st3 e3 (by simpa using ho3)
  · rw [if_neg (by omega), if_neg (by omega), if_neg (by omega), if_neg (by omega), if_neg (by omega), if_neg (by omega), if_pos g] at hlen hk
    rw [List.length_append] at hlen
    refine countF_ok (h4.keep e1.keeps) (by omega) e1 ho1 (by simp only [List.length_append, List.length_cons, List.length_nil]; omega) fun v2 st2 e2 ho2 => need_intro h4.isSl ?_
    refine ⟨fun b i u n st' => uf = u ∧ (f.length : Int) = n ∧ ∃ k : Nat, i = k ∧ k ≤ f.length ∧ StExt st0 st' ∧ OwnB st0.nt st' b (l0 ++ [s.kind.toNat.toUInt8] ++ natB f.length ++ bytesFs (f.take k)), fun _ i _ _ _ => (f.length - i).toNat,
      ⟨rfl, by rw [h4.lenS], 0, rfl, Nat.zero_le _, e2, by simpa [bytesFs] using ho2⟩, ?_⟩
    rintro b _ _ _ st3 ⟨rfl, rfl, k, rfl, hkl, e3, ho3⟩
    refine BIf_intro (fun g' => ?_) fun g' => ?_
    · refine el14 e3.keeps h4 h5 rfl (by omega) fun key s' l' f' ub1 ul1 uf1 gw hw on => need_intro on ?_
      have hwsz := fsSz_get gw
      have hwk : (Fd.mk key (.mk s' l' f')).sz = key.length + (Vl.mk s' l' f').sz := by unfold Fd.sz; rfl
      have hbl := bytesD_le_get gw
      have hbd : bytesD (.mk key (.mk s' l' f')) = strB key ++ bytesV (.mk s' l' f') := by unfold bytesD; rfl
      rw [hbd, List.length_append] at hbl
      refine str_ok (by omega) e3 ho3 (by simp only [List.length_append, List.length_cons, List.length_nil]; omega) fun v3 st4 e4 ho4 => ?_
      have hok2 := fok.mem (mem_of_get gw)
      unfold FdOk at hok2
      refine ih _ (by have := (Vl.mk s' l' f').sz_pos; omega) (by omega) hok2 hw e4 ho4 (by simp only [List.length_append, List.length_cons, List.length_nil]; omega) fun u' st5 e5 ho5 => ?_
      refine ⟨⟨rfl, rfl, k + 1, by rw [wrap64 _ (by omega) (by omega)]; omega, by omega, e5, ?_⟩, by dsimp only; rw [wrap64 _ (by omega) (by omega)]; omega⟩
      rw [take_snoc gw, bytesFs_app, ← List.append_assoc]
      simpa [bytesFs, hbd] using ho5
    · have hkk : k = f.length := by omega
      subst hkk
      rw [List.take_length] at ho3
      exact hk b st3 e3 (by simpa using ho3)
  · rw [if_neg g1, if_neg g2, if_neg g3, if_neg g4, if_neg g5, if_neg g6, if_neg g7] at hk
    exact hk v1 st1 e1 ho1
end Go.TVF
end

section
namespace Go.TVF
open Go Go.Proofs
set_option linter.unusedVariables false
set_option linter.unusedSimpArgs false
theorem SlR.isPtr {st : St} {sz n i : Nat} {u : TV} {xs : List TV} (h : SlR st sz u n xs) (hi : i < n) : TVF.isPtr (ixT sz u i) = true := by
  rcases h with (⟨rfl, rfl, rfl⟩ | ⟨tip, rfl⟩) | ⟨b, off, cap, l, rfl, _⟩
  · omega
  · rfl
  · rfl
theorem SlR.ldcf {st : St} {sz n i f m : Nat} {u : TV} {xs : List TV} (h : SlR st sz u n xs) (hl : xs.length = n * sz) (hi : i < n) (hf : f + m ≤ sz) : ldCells st [] (.t (fldT (ixT sz u i) f)) 0 m = some ((xs.drop (i * sz + f)).take m) := by
  have hm : (i + 1) * sz ≤ n * sz := Nat.mul_le_mul_right _ hi
  rw [Nat.add_mul, Nat.one_mul] at hm
  rcases h with (⟨rfl, rfl, rfl⟩ | ⟨tip, rfl⟩) | ⟨b, off, cap, l, rfl, h2, h3, h4, h5, rfl⟩
  · omega
  · show ldCells st [] (.t (.rptr ((xs.drop (i * sz)).drop f))) 0 m = _
    rw [List.drop_drop, lds_rptr m 0 (by rw [List.length_drop]; omega), List.drop_zero]
  · have hc : n * sz ≤ cap * sz := Nat.mul_le_mul_right _ h5
    have e1 : (((l.drop off).take (n * sz)).drop (i * sz + f)).take m = (l.drop (off + i * sz + f)).take m := by
      rw [List.drop_take, List.drop_drop, List.take_take, Nat.min_eq_left (by omega), Nat.add_assoc]
    rw [e1]
    have e := lds_mid (B := l.drop (off + i * sz + f + m)) (st := st) (b := b) ((l.drop (off + i * sz + f)).take m) l 0 (off + i * sz + f) h3 (by
      have := List.take_append_drop m (l.drop (off + i * sz + f))
      rw [List.drop_drop] at this
      rw [Nat.add_zero]; exact this.symm)
    rw [show ((l.drop (off + i * sz + f)).take m).length = m by simp; omega] at e
    exact e
theorem SlR.ldf {st : St} {sz n i f : Nat} {u x : TV} {xs : List TV} (h : SlR st sz u n xs) (hl : xs.length = n * sz) (hi : i < n) (hf : f < sz) (hx : xs[i * sz + f]? = some x) : ldCell st [] (.t (fldT (ixT sz u i) f)) 0 = some x := by
  have := h.ldcf (f := f) (m := 1) hl hi (by omega)
  have hlt : i * sz + f < xs.length := by
    obtain ⟨q, _⟩ := List.getElem?_eq_some_iff.1 hx
    exact q
  rw [List.drop_eq_getElem_cons hlt] at this
  rw [List.getElem?_eq_getElem hlt] at hx
  simp only [ldCells, List.take_succ_cons, List.take_zero] at this
  cases hq : ldCell st [] (.t (fldT (ixT sz u i) f)) 0 with
  | none => rw [hq] at this; cases this
  | some y =>
    rw [hq] at this
    simp only [Option.map_some, Option.some.injEq, List.cons.injEq, and_true] at this
    rw [this]; exact hx
theorem SlR.toBytes {st : St} {u : TV} {l : List UInt8} (h : SlR st 1 u l.length (bytesT l)) : TVF.toBytes st u = some l := by
  have hl : (bytesT l).length = l.length := length_bytesT l
  rcases h with (⟨rfl, h1, _⟩ | ⟨tip, rfl⟩) | ⟨b, off, cap, m, rfl, h2, h3, h4, h5, h6⟩
  · rw [List.eq_nil_of_length_eq_zero h1]; rfl
  · simp [TVF.toBytes, asBytes_bytesT]
  · have e := lds_mid (B := m.drop (off + l.length)) (st := st) (b := b) (bytesT l) m 0 off h3 (by
      rw [h6, Nat.add_zero, Nat.mul_one, ← List.drop_drop, List.take_append_drop])
    rw [hl] at e
    simp only [TVF.toBytes, Nat.beq_refl, e, asBytes_bytesT]
/-- The key of a field is loaded. -/
theorem key14 {st0 st : St} {uf : TV} {xf : List TV} {l : List Fd} (hke : Keeps st0 st) (h2 : SlR st0 14 uf l.length xf) (h3 : FsR st0 l xf) {i : Int} {k : Nat} (hi : i = k) {d : Fd} (hd : l[k]? = some d) {f : List UInt8 → Prop} (hf : f d.key) :
    (0 ≤ i ∧ i < (lenZ 14 uf : Int)) ∧ need (TVF.isPtr (ixT 14 uf (Int.toNat i))) (optK (ldCell st [] (.t (fldT (ixT 14 uf (Int.toNat i)) 0)) 0) fun x => decT .str x f) := by
  subst hi
  obtain ⟨hk, _⟩ := List.getElem?_eq_some_iff.1 hd
  obtain ⟨cw, hw, hcw, hcl⟩ := h3.get hd
  rw [h2.lenZ, Int.toNat_natCast]
  have hx : xf[k * 14 + 0]? = some (.str d.key) := by
    cases d with
    | mk key w =>
      unfold FdR at hw
      obtain ⟨cs, rfl, _⟩ := hw
      have := congrArg (fun z => z[0]?) hcw
      simpa [Fd.key] using this
  exact ⟨⟨by omega, by omega⟩, need_intro (h2.isPtr hk) (optK_intro ((h2.keep hke).ldf h3.len hk (by omega) hx) hf)⟩
/-- The value of a field is loaded. -/
theorem val14 {st0 st : St} {uf : TV} {xf : List TV} {l : List Fd} (hke : Keeps st0 st) (h2 : SlR st0 14 uf l.length xf) (h3 : FsR st0 l xf) {i : Int} {k : Nat} (hi : i = k) (hk : k < l.length) {f : Fun [.int .i64, .bool, .bool, .str, .int .i64, .int .i64, .int .i64, .int .i64, .int .i64, .str, .tv, .tv, .tv] Prop}
    (hf : ∀ key s' l' f' ub1 ul1 uf1, l[k]? = some (.mk key (.mk s' l' f')) → VlR st0 (.mk s' l' f') (cellsV s' ub1 ul1 uf1) → List.all (cellsV s' ub1 ul1 uf1) oneT = true → f s'.kind s'.b s'.neg s'.dg s'.ex s'.tk s'.td s'.tn s'.tz s'.text ub1 ul1 uf1) :
    (0 ≤ i ∧ i < (lenZ 14 uf : Int)) ∧ need (TVF.isPtr (ixT 14 uf (Int.toNat i))) (optK ((ldCells st [] (.t (fldT (ixT 14 uf (Int.toNat i)) 1)) 0 13).map TV.agg) fun x => decA [.int .i64, .bool, .bool, .str, .int .i64, .int .i64, .int .i64, .int .i64, .int .i64, .str, .tv, .tv, .tv] x f) := by
  subst hi
  have gw : l[k]? = some l[k] := List.getElem?_eq_getElem hk
  obtain ⟨cw, hw, hcw, hcl⟩ := h3.get gw
  rw [h2.lenZ, Int.toNat_natCast]
  refine ⟨⟨by omega, by omega⟩, need_intro (h2.isPtr hk) ?_⟩
  rw [(h2.keep hke).ldcf (f := 1) (m := 13) h3.len hk (by omega)]
  generalize l[k] = w at *
  cases w with
  | mk key w =>
  cases w with
  | mk s' l' f' =>
  unfold FdR at hw
  obtain ⟨cw2, rfl, hw1⟩ := hw
  have hw2 := hw1
  unfold VlR at hw2
  obtain ⟨ub', ul', uf', xl', xf', rfl, w1, w2, w3, w4, w5⟩ := hw2
  have e : (xf.drop (k * 14 + 1)).take 13 = cellsV s' ub' ul' uf' := by
    rw [← List.drop_drop]
    have := congrArg (fun z => z.drop 1) hcw
    simp only [List.drop_take] at this
    simpa [cellsV] using this
  rw [e]
  exact optK_intro rfl (decA13 (hf key s' l' f' ub' ul' uf' gw hw1 (one13 w1.one w2.one w4.one)))
theorem All2.append {α β : Type} {R : α → β → Prop} {l l' : List α} {m m' : List β} (h : All2 R l m) (h' : All2 R l' m') : All2 R (l ++ l') (m ++ m') := by
  induction h with
  | nil => exact h'
  | cons r _ ih => exact .cons r ih
theorem All2.take {α β : Type} {R : α → β → Prop} {l : List α} {m : List β} (h : All2 R l m) : ∀ k, All2 R (l.take k) (m.take k) := by
  induction h with
  | nil => intro k; simp; exact .nil
  | cons r _ ih =>
    intro k
    cases k with
    | zero => exact .nil
    | succ k => exact .cons r (ih k)
theorem All2.drop {α β : Type} {R : α → β → Prop} {l : List α} {m : List β} (h : All2 R l m) : ∀ k, All2 R (l.drop k) (m.drop k) := by
  induction h with
  | nil => intro k; simp; exact .nil
  | cons r h ih =>
    intro k
    cases k with
    | zero => exact .cons r h
    | succ k => exact ih k
theorem Rd.src {sz n : Nat} {v : TV} {xs : List TV} (h : Rd sz v n xs) (hl : xs.length = n * sz) (st : St) : appSrc st sz v = some (n, xs) := (SlR.of_rd (st := st) h).src hl
end Go.TVF
end

section
namespace Go.TVF
open Go Go.Proofs
set_option linter.unusedVariables false
set_option linter.unusedSimpArgs false
theorem Keeps.trans {a b c : St} (h : Keeps a b) (k : Keeps b c) : Keeps a c := ⟨Nat.le_trans h.1 k.1, fun i hi => (k.2 i (Nat.lt_of_lt_of_le hi h.1)).trans (h.2 i hi)⟩
theorem Keeps.refl (a : St) : Keeps a a := ⟨Nat.le_refl _, fun _ _ => rfl⟩
theorem decT_str {s : List UInt8} {f : List UInt8 → Prop} (h : f s) : decT .str (.str s) f := h
theorem decT_int {k : IntKind} {n : Int} {f : Int → Prop} (h : f n) : decT (.int k) (.int k n) f := by
  simp only [decT]; exact h
theorem decT_bool {b : Bool} {f : Bool → Prop} (h : f b) : decT .bool (.bool b) f := h
end Go.TVF
end

section
set_option linter.unusedVariables false
set_option linter.unusedSimpArgs false
namespace Go.TVF
open Go Go.Proofs
theorem K_eq {α : Type} {K : α → St → Prop} {a b : α} {st : St} (h : a = b) (hk : K b st) : K a st := h ▸ hk
theorem character_ok' {r : Int} {st : St} {K : Bool → St → Prop} (h0 : 0 ≤ r) (hk : K (decide (isChar r.toNat)) st) : CallT PR fn_datakitref03_character [.int .i64 r] [.one (.bool)] st K := by
  refine vc_datakitref03_character _ st K (BIf_intro (fun _ => BIf_intro (fun h2 => BIf_intro (fun h3 => ?_) fun h3 => ?_) fun h2 => ?_) fun h1 => absurd h0 h1)
  · have : isChar r.toNat := by unfold isChar; omega
    simpa [this] using hk
  · have : decide ((57343 : Int) < r) = decide (isChar r.toNat) := by
      rw [Bool.eq_iff_iff]; simp only [decide_eq_true_eq]; unfold isChar; omega
    rw [this]; exact hk
  · have : ¬ isChar r.toNat := by unfold isChar; omega
    simpa [this] using hk
theorem toBytes_full (st : St) (n : Nat) (l : List UInt8) (xs : List TV) (h : xs = bytesT l) : (toBytes st (.list 1 .full n xs)).map TV.str = some (.str l) := by
  subst h; simp [toBytes, asBytes_bytesT]
theorem u8wrap (n : Nat) : IntKind.wrap .u8 (n : Int) = ((UInt8.ofNat n).toNat : Int) := by
  unfold IntKind.wrap
  simp only [IntKind.signed, IntKind.bits]
  simp
  try omega
theorem orN (a b m : Nat) (hb : b < 2 ^ m) (h : a * 2 ^ m + b < 2 ^ 63) (x y : Int) (hx : x = ((a * 2 ^ m : Nat) : Int)) (hy : y = (b : Int)) : bitsI .or .i64 x y = ((a * 2 ^ m + b : Nat) : Int) := by
  rw [hx, hy]; exact or_add a b m hb h
theorem encode_ok' {R : Int} {r : Nat} {st : St} {K : List UInt8 → Int → St → Prop} (hR : R = (r : Int)) (hr : r < 2 ^ 40) (hk : K (if isChar r then encU r else []) (if isChar r then 0 else 2) st) : CallT PR fn_datakitref03_Encode [.int .i64 R] [.one (.str), .one (.int .i64)] st K := by
  have shr : ∀ m, m ≤ 64 → Int.fdiv R (2 ^ (min m (IntKind.bits .i64))) = ((r / 2 ^ m : Nat) : Int) := fun m hm => by rw [hR]; exact shr_i64 r m hm
  have s6 := shr 6 (by decide)
  have s12 := shr 12 (by decide)
  have s18 := shr 18 (by decide)
  have m63 : ∀ x : Nat, x < 2 ^ 63 → bitsI .and .i64 (x : Int) (63 : Int) = ((x % 64 : Nat) : Int) := fun x hx => and_mask x 6 hx (by decide)
  have mR : bitsI .and .i64 R (63 : Int) = ((r % 64 : Nat) : Int) := by rw [hR]; exact m63 r (by omega)
  have o128 : ∀ x : Nat, x < 64 → bitsI .or .i64 (128 : Int) (x : Int) = ((128 + x : Nat) : Int) := fun x hx => orN 2 x 6 (by omega) (by omega) _ _ rfl rfl
  have hR0 : 0 ≤ R := by omega
  have hRn : R.toNat = r := by omega
  refine vc_datakitref03_Encode _ st K (character_ok' hR0 (BIf_bool (fun h0 => ?_) fun h0 => ?_))
  · have hc : ¬ isChar r := by rw [hRn] at h0; simpa using h0
    rw [if_neg hc, if_neg hc] at hk
    exact hk
  · have hc : isChar r := by rw [hRn] at h0; simpa using h0
    rw [if_pos hc, if_pos hc] at hk
    unfold encU at hk
    refine BIf_intro (fun h1 => ?_) fun h1 => BIf_intro (fun h2 => ?_) fun h2 => BIf_intro (fun h3 => ?_) fun h3 => ?_
    · rw [if_pos (by omega)] at hk
      exact optK_intro (toBytes_full _ _ _ _ (by simp only [bytesT, List.map, byteT]; rw [hR, u8wrap])) hk
    · rw [if_neg (by omega), if_pos (by omega)] at hk
      have o192 : bitsI .or .i64 (192 : Int) ((r / 2 ^ 6 : Nat) : Int) = ((192 + r / 64 : Nat) : Int) := orN 6 _ 5 (by omega) (by omega) _ _ rfl rfl
      refine optK_intro (toBytes_full _ _ _ _ ?_) hk
      simp only [bytesT, List.map, byteT]
      rw [show Int.toNat (6 : Int) = 6 from rfl, s6, o192, mR, o128 _ (by omega), u8wrap, u8wrap]
    · rw [if_neg (by omega), if_neg (by omega), if_pos (by omega)] at hk
      have o224 : bitsI .or .i64 (224 : Int) ((r / 2 ^ 12 : Nat) : Int) = ((224 + r / 4096 : Nat) : Int) := orN 14 _ 4 (by omega) (by omega) _ _ rfl rfl
      refine optK_intro (toBytes_full _ _ _ _ ?_) hk
      simp only [bytesT, List.map, byteT]
      rw [show Int.toNat (6 : Int) = 6 from rfl, show Int.toNat (12 : Int) = 12 from rfl, s6, s12, o224, mR, m63 (r / 2 ^ 6) (by omega), o128 _ (by omega), o128 _ (by omega), u8wrap, u8wrap, u8wrap]
    · rw [if_neg (by omega), if_neg (by omega), if_neg (by omega)] at hk
      have hr2 : r ≤ 1114111 := hc.1
      have o240 : bitsI .or .i64 (240 : Int) ((r / 2 ^ 18 : Nat) : Int) = ((240 + r / 262144 : Nat) : Int) := orN 30 _ 3 (by omega) (by omega) _ _ rfl rfl
      refine optK_intro (toBytes_full _ _ _ _ ?_) hk
      simp only [bytesT, List.map, byteT]
      rw [show Int.toNat (6 : Int) = 6 from rfl, show Int.toNat (12 : Int) = 12 from rfl, show Int.toNat (18 : Int) = 18 from rfl, s6, s12, s18, o240, mR, m63 (r / 2 ^ 6) (by omega), m63 (r / 2 ^ 12) (by omega), o128 _ (by omega), o128 _ (by omega), o128 _ (by omega), u8wrap, u8wrap, u8wrap, u8wrap]
theorem encode_ok {r : Nat} {st : St} {K : List UInt8 → Int → St → Prop} (hr : r < 2 ^ 40) (hk : K (if isChar r then encU r else []) (if isChar r then 0 else 2) st) : CallT PR fn_datakitref03_Encode [.int .i64 (r : Int)] [.one (.str), .one (.int .i64)] st K :=
  encode_ok' rfl hr hk
/-- What the reference's Decode gives at a place. -/
def rD (l : List UInt8) : Nat × Nat := if ul l = 0 then (0, 0) else (ur l, ul l)
theorem rdecode_ok' {s : List UInt8} {I : Int} {i : Nat} {st : St} {K : Int → Int → St → Prop} (hI : I = (i : Int)) (hl : s.length ≤ 2000000) (hi : i ≤ s.length) (hk : K ((rD (s.drop i)).1 : Nat) ((rD (s.drop i)).2 : Nat) st) : CallT PR fn_datakitref03_Decode [.str s, .int .i64 I] [.one (.int .i64), .one (.int .i64)] st K := by
  refine vc_datakitref03_Decode s I st K (BIf_intro (fun h => by omega) fun _ => BIf_intro (fun h => ?_) fun h => ⟨⟨by omega, by omega⟩, ?_⟩)
  · have : s.drop i = [] := List.drop_of_length_le (by omega)
    have h0 : rD (s.drop i) = (0, 0) := by rw [this]; simp [rD, ul]
    rw [h0] at hk; exact hk
  · have hne : s.drop i ≠ [] := by
      intro h0
      have := congrArg List.length h0
      simp at this; omega
    have href := refU_eq (s.drop i) hne
    have hb0 : (List.getD s (Int.toNat I) 0).toNat = bt (s.drop i) 0 := by rw [bt_drop, hI]; rfl
    have hlt := bt_lt (s.drop i) 0
    have hlen : (s.drop i).length = s.length - i := by simp
    rw [hb0, wrapB8 _ (by omega)]
    have m15 : bitsI .and .i64 ((bt (s.drop i) 0 : Nat) : Int) (15 : Int) = ((bt (s.drop i) 0 % 16 : Nat) : Int) := and_mask _ 4 (by omega) (by decide)
    have m7 : bitsI .and .i64 ((bt (s.drop i) 0 : Nat) : Int) (7 : Int) = ((bt (s.drop i) 0 % 8 : Nat) : Int) := and_mask _ 3 (by omega) (by decide)
    have m31 : bitsI .and .i64 ((bt (s.drop i) 0 : Nat) : Int) (31 : Int) = ((bt (s.drop i) 0 % 32 : Nat) : Int) := and_mask _ 5 (by omega) (by decide)
    rw [m15, m7, m31]
    refine ⟨fun size r s' at' st1 => s = s' ∧ I = at' ∧ st = st1 ∧ ((rsz (bt (s.drop i) 0) : Nat) : Int) = size ∧ ((rb0 (bt (s.drop i) 0) : Nat) : Int) = r, ?_, ?_⟩
    · refine BIf_intro (fun h1 => ⟨rfl, rfl, rfl, ?_, ?_⟩) fun h1 => BIf_intro (fun h2 => ⟨rfl, rfl, rfl, ?_, ?_⟩) fun h2 => BIf_intro (fun h3 => ⟨rfl, rfl, rfl, ?_, ?_⟩) fun h3 => ⟨rfl, rfl, rfl, ?_, ?_⟩
      · unfold rsz; rw [if_pos (by omega)]; rfl
      · unfold rb0; rw [if_pos (by omega)]
      · unfold rsz; rw [if_neg (by omega), if_pos (by omega)]; rfl
      · unfold rb0; rw [if_neg (by omega), if_pos (by omega)]
      · unfold rsz; rw [if_neg (by omega), if_neg (by omega), if_pos (by omega)]; rfl
      · unfold rb0; rw [if_neg (by omega), if_neg (by omega), if_pos (by omega)]
      · unfold rsz; rw [if_neg (by omega), if_neg (by omega), if_neg (by omega)]; rfl
      · unfold rb0; rw [if_neg (by omega), if_neg (by omega), if_neg (by omega)]
    · rintro _ _ _ _ _ ⟨rfl, rfl, rfl, rfl, rfl⟩
      have hs := rsz_le (bt (s.drop i) 0)
      have hr0 := rb0_lt _ hlt
      generalize hsz : rsz (bt (s.drop i) 0) = size at *
      generalize hrr : rb0 (bt (s.drop i) 0) = r0 at *
      have hra := racc_lt (s.drop i) r0 hr0
      unfold refU at href
      simp only [hsz, hrr] at href
      rw [wrap64 _ (by omega) (by omega)]
      refine BIf_intro (fun h1 => ?_) fun h1 => ?_
      · rw [if_pos (by omega)] at href
        have : rD (s.drop i) = (0, 0) := by unfold rD; rw [← href]
        rw [this] at hk; exact hk
      · rw [if_neg (by omega)] at href
        refine ⟨fun r j s' at' sz st2 => s = s' ∧ I = at' ∧ st = st2 ∧ ((size : Nat) : Int) = sz ∧ ∃ k : Nat, j = ((k + 1 : Nat) : Int) ∧ k + 1 ≤ size ∧ r = ((racc (s.drop i) r0 k : Nat) : Int), fun _ j _ _ sz _ => (sz - j).toNat, ⟨rfl, rfl, rfl, rfl, 0, rfl, hs.1, rfl⟩, ?_⟩
        rintro _ _ _ _ _ _ ⟨rfl, rfl, rfl, rfl, k, rfl, hk1, rfl⟩
        have hrk := hra k
        have h64 : 64 ^ k ≤ 64 ^ 3 := Nat.pow_le_pow_right (by decide) (by omega)
        refine BIf_intro (fun h2 => ?_) fun h2 => ?_
        · rw [wrap64 _ (by omega) (by omega)]
          have hbk : (List.getD s (Int.toNat (I + ((k + 1 : Nat) : Int))) 0).toNat = bt (s.drop i) (k + 1) := by
            rw [bt_drop, show Int.toNat (I + ((k + 1 : Nat) : Int)) = i + (k + 1) by omega]; rfl
          have hbl := bt_lt (s.drop i) (k + 1)
          have hand : bitsI .and .i64 (IntKind.i64.wrap ((bt (s.drop i) (k + 1) : Nat) : Int)) (63 : Int) = ((bt (s.drop i) (k + 1) % 64 : Nat) : Int) := by
            rw [wrapB8 _ (by omega)]; exact and_mask _ 6 (by omega) (by decide)
          have hmul : IntKind.i64.wrap (((racc (s.drop i) r0 k : Nat) : Int) * 2 ^ (min (Int.toNat (6 : Int)) (IntKind.bits .i64))) = ((racc (s.drop i) r0 k * 2 ^ 6 : Nat) : Int) := by
            rw [show (2 : Int) ^ (min (Int.toNat (6 : Int)) (IntKind.bits .i64)) = 64 by decide, wrap64 _ (by omega) (by omega)]; omega
          refine ⟨⟨by omega, by omega⟩, ?_⟩
          rw [hbk, hand, hmul, or_add _ _ 6 (by omega) (by omega), wrap64 _ (by omega) (by omega)]
          exact ⟨⟨rfl, rfl, rfl, rfl, k + 1, by omega, by omega, by simp only [racc]⟩, by dsimp only; omega⟩
        · have hks : k = size - 1 := by omega
          subst hks
          refine encode_ok (by omega) ?_
          generalize hR : racc (s.drop i) r0 (size - 1) = R at *
          refine BIf_intro (fun h3 => ?_) fun h3 => ?_
          · have hc : ¬ isChar R := by intro hc; rw [if_pos hc] at h3; exact h3 rfl
            rw [if_neg (fun h => hc h.1)] at href
            have : rD (s.drop i) = (0, 0) := by unfold rD; rw [← href]
            rw [this] at hk; exact hk
          · have hc : isChar R := by
              apply Decidable.byContradiction
              intro hc; rw [if_neg hc] at h3; exact h3 (by decide)
            rw [if_pos hc, wrap64 _ (by omega) (by omega)]
            refine ⟨⟨by omega, by omega, by omega⟩, ?_⟩
            rw [take_drop_sub, show Int.toNat (I + (size : Int)) - Int.toNat I = size by omega, show Int.toNat I = i by omega]
            refine BIf_intro (fun h4 => ?_) fun h4 => ?_
            · rw [if_neg (fun h => h4 h.2)] at href
              have : rD (s.drop i) = (0, 0) := by unfold rD; rw [← href]
              rw [this] at hk; exact hk
            · rw [if_pos ⟨hc, Decidable.not_not.1 h4⟩] at href
              have : rD (s.drop i) = (R, size) := by unfold rD; rw [← href]
              rw [this] at hk; exact hk
theorem rdecode_ok {s : List UInt8} {i : Nat} {st : St} {K : Int → Int → St → Prop} (hl : s.length ≤ 2000000) (hi : i ≤ s.length) (hk : K ((rD (s.drop i)).1 : Nat) ((rD (s.drop i)).2 : Nat) st) : CallT PR fn_datakitref03_Decode [.str s, .int .i64 (i : Int)] [.one (.int .i64), .one (.int .i64)] st K :=
  rdecode_ok' rfl hl hi hk
theorem vlen_le' (l : List UInt8) : vlen l ≤ l.length := vlen_le _ l (Nat.le_refl _)
theorem vlen_nil : vlen [] = 0 := vlen_zero _ (by simp [ul])
theorem boundaries_ok {s : List UInt8} {st : St} {K : TV → Bool → St → Prop} (hl : s.length ≤ 2000000)
    (hk : ∀ v xs st', StExt st st' → Rd 1 v (xs.length + 1) (xs ++ [.int .i64 ((vlen s : Nat) : Int)]) → xs.length ≤ s.length → K v (decide (vlen s = s.length)) st') : CallT PR fn_datakitref03_Boundaries [.str s] [.one (.tv), .one (.bool)] st K := by
  have hv := vlen_le' s
  refine vc_datakitref03_Boundaries s st K ⟨fun v i s' st' => s = s' ∧ StExt st st' ∧ ∃ (k : Nat) (xs : List TV), i = (k : Int) ∧ k ≤ s.length ∧ k + vlen (s.drop k) = vlen s ∧ xs.length ≤ k ∧ Own st.nt 1 st' v (xs.length + 1) (xs ++ [.int .i64 (k : Int)]), fun _ i _ _ => (s.length - i).toNat, ⟨rfl, StExt.refl _, 0, [], rfl, by omega, by simp, by simp, Own.full _ _ _ _ _⟩, ?_⟩
  rintro v _ _ st1 ⟨rfl, e, k, xs, rfl, h1, h2, h3, h4⟩
  refine BIf_intro (fun g1 => ?_) fun g1 => ?_
  · have hle := ul_le (s.drop k)
    rw [List.length_drop] at hle
    refine rdecode_ok hl h1 ?_
    unfold rD
    by_cases h0 : ul (s.drop k) = 0
    · rw [if_pos h0]
      rw [vlen_zero _ h0] at h2
      refine BIf_intro (fun _ => ?_) fun h => absurd rfl h
      have := hk v xs st1 e (by rw [← h2]; exact h4.rd) (by omega)
      rw [decide_eq_false (by omega)] at this
      exact this
    · rw [if_neg h0]
      rw [vlen_step _ h0, List.drop_drop] at h2
      have w : IntKind.i64.wrap ((k : Int) + (ul (s.drop k) : Nat)) = ((k + ul (s.drop k) : Nat) : Int) := by rw [wrap64 _ (by omega) (by omega)]; omega
      refine BIf_intro (fun h => by simp only at h; omega) fun _ => ?_
      dsimp only
      rw [w]
      refine appK_own e rfl h4 (by omega) (fun h => by cases h) fun v' st' e' _ ho => ⟨⟨rfl, e', k + ul (s.drop k), xs ++ [.int .i64 (k : Int)], rfl, by omega, by omega, by rw [List.length_append]; simp; omega, ?_⟩, by omega⟩
      rw [List.length_append]; exact ho
  · rw [show s.drop k = [] from List.drop_of_length_le (by omega), vlen_nil] at h2
    have hks : k = vlen s := by omega
    have := hk v xs st1 e (by rw [← hks]; exact h4.rd) (by omega)
    rw [decide_eq_true (by omega)] at this
    exact this
theorem rvalid_ok {s : List UInt8} {st : St} {K : Bool → St → Prop} (hl : s.length ≤ 2000000) (hk : ∀ st', StExt st st' → K (decide (vlen s = s.length)) st') : CallT PR fn_datakitref03_Valid [.str s] [.one (.bool)] st K :=
  vc_datakitref03_Valid s st K (boundaries_ok hl fun v xs st1 e hr hx => hk st1 e)
/-- What a first byte announces: the size (0: none), and its bits. -/
def hdS (b : Nat) : Nat := if b < 128 then 1 else if 192 ≤ b ∧ b < 224 then 2 else if 224 ≤ b ∧ b < 240 then 3 else if 240 ≤ b ∧ b < 248 then 4 else 0
def hdB (b : Nat) : Nat := if b < 128 then b else if 192 ≤ b ∧ b < 224 then b % 32 else if 224 ≤ b ∧ b < 240 then b % 16 else if 240 ≤ b ∧ b < 248 then b % 8 else 0
def wid (r : Nat) : Nat := if r < 128 then 1 else if r < 2048 then 2 else if r < 65536 then 3 else 4
theorem and_mask8 (a m : Nat) (ha : a < 256) (hm : m ≤ 8) : bitsI .and .u8 (a : Int) ((2 ^ m - 1 : Nat) : Int) = ((a % 2 ^ m : Nat) : Int) := by
  have : 2 ^ m ≤ 2 ^ 8 := Nat.pow_le_pow_right (by decide) hm
  rw [and_u8 _ _ ha (by omega), Nat.and_two_pow_sub_one_eq_mod]
theorem head_ok {B : Int} {b : Nat} {st : St} {K : Int → Int → St → Prop} (hB : B = (b : Int)) (hb : b < 256) (hk : K (hdS b : Nat) (hdB b : Nat) st) : CallT PR fn_utf_head [.int .u8 B] [.one (.int .i64), .one (.int .i64)] st K := by
  have m31 : bitsI .and .u8 B (31 : Int) = ((b % 32 : Nat) : Int) := by rw [hB]; exact and_mask8 b 5 hb (by decide)
  have m15 : bitsI .and .u8 B (15 : Int) = ((b % 16 : Nat) : Int) := by rw [hB]; exact and_mask8 b 4 hb (by decide)
  have m7 : bitsI .and .u8 B (7 : Int) = ((b % 8 : Nat) : Int) := by rw [hB]; exact and_mask8 b 3 hb (by decide)
  unfold hdS hdB at hk
  have kk : ∀ (x y x' y' : Int), x = x' → y = y' → K x' y' st → K x y st := fun x y x' y' h1 h2 hk => by rw [h1, h2]; exact hk
  refine vc_utf_head B st K ?_
  rw [m31, m15, m7, wrap64 B (by omega) (by omega), wrap64 ((b % 32 : Nat) : Int) (by omega) (by omega), wrap64 ((b % 16 : Nat) : Int) (by omega) (by omega), wrap64 ((b % 8 : Nat) : Int) (by omega) (by omega)]
  by_cases g1 : b < 128
  · rw [if_pos g1, if_pos g1] at hk
    exact BIf_intro (fun _ => kk _ _ _ _ rfl hB hk) fun h => by omega
  rw [if_neg g1, if_neg g1] at hk
  refine BIf_intro (fun h => by omega) fun _ => ?_
  by_cases g2 : 192 ≤ b ∧ b < 224
  · rw [if_pos g2, if_pos g2] at hk
    exact BIf_intro (fun _ => BIf_intro (fun _ => hk) fun h => by omega) fun h => by omega
  rw [if_neg g2, if_neg g2] at hk
  by_cases g3 : 224 ≤ b ∧ b < 240
  · rw [if_pos g3, if_pos g3] at hk
    refine BIf_intro (fun _ => BIf_intro (fun h => by omega) fun _ => ?_) fun h => by omega
    exact BIf_intro (fun _ => BIf_intro (fun _ => hk) fun h => by omega) fun h => by omega
  rw [if_neg g3, if_neg g3] at hk
  by_cases g4 : 240 ≤ b ∧ b < 248
  · rw [if_pos g4, if_pos g4] at hk
    refine BIf_intro (fun _ => BIf_intro (fun h => by omega) fun _ => ?_) fun h => by omega
    refine BIf_intro (fun _ => BIf_intro (fun h => by omega) fun _ => ?_) fun h => by omega
    exact BIf_intro (fun _ => BIf_intro (fun _ => hk) fun h => by omega) fun h => by omega
  rw [if_neg g4, if_neg g4] at hk
  repeat' first
    | exact hk
    | omega
    | refine BIf_intro (fun _ => ?_) fun _ => ?_
theorem scalar_ok {R : Int} {r : Nat} {st : St} {K : Bool → St → Prop} (hR : R = (r : Int)) (hk : K (decide (isChar r)) st) : CallT PR fn_utf_scalar [.int .i64 R] [.one (.bool)] st K := by
  unfold isChar at hk
  refine vc_utf_scalar R st K (BIf_intro (fun _ => BIf_intro (fun h2 => BIf_intro (fun h3 => ?_) fun h3 => ?_) fun h2 => ?_) fun h1 => by omega)
  · exact K_eq (decide_eq_true (by omega)).symm hk
  · exact K_eq (decide_eq_decide.2 (by omega)) hk
  · exact K_eq (decide_eq_false (by omega)).symm hk
theorem width_ok {R : Int} {r : Nat} {st : St} {K : Int → St → Prop} (hR : R = (r : Int)) (hk : K (wid r : Nat) st) : CallT PR fn_utf_width [.int .i64 R] [.one (.int .i64)] st K := by
  unfold wid at hk
  refine vc_utf_width R st K (BIf_intro (fun h1 => ?_) fun h1 => BIf_intro (fun h2 => ?_) fun h2 => BIf_intro (fun h3 => ?_) fun h3 => ?_)
  · rw [if_pos (by omega)] at hk; exact hk
  · rw [if_neg (by omega), if_pos (by omega)] at hk; exact hk
  · rw [if_neg (by omega), if_neg (by omega), if_pos (by omega)] at hk; exact hk
  · rw [if_neg (by omega), if_neg (by omega), if_neg (by omega)] at hk; exact hk
/-- The program's test of a character, as arithmetic. -/
def pdOk (l : List UInt8) : Prop := hdS (bt l 0) ≠ 0 ∧ hdS (bt l 0) ≤ l.length ∧ (∀ j, 1 ≤ j → j < hdS (bt l 0) → bt l j / 64 = 2) ∧ isChar (racc l (hdB (bt l 0)) (hdS (bt l 0) - 1)) ∧ wid (racc l (hdB (bt l 0)) (hdS (bt l 0) - 1)) = hdS (bt l 0)
theorem pd_val (l : List UInt8) (h : l ≠ []) (hp : pdOk l) : ul l = hdS (bt l 0) ∧ ur l = racc l (hdB (bt l 0)) (hdS (bt l 0) - 1) := by
  obtain ⟨p1, p2, p3, p4, p5⟩ := hp
  have e := refU_eq l h
  have h0 := bt_lt l 0
  have e0 : (l.getD 0 0).toNat = bt l 0 := rfl
  have e1 : (l.getD 1 0).toNat = bt l 1 := rfl
  have e2 : (l.getD 2 0).toNat = bt l 2 := rfl
  have e3 : (l.getD 3 0).toNat = bt l 3 := rfl
  have fin : ∀ n r, rsz (bt l 0) = n → rb0 (bt l 0) = r → n = hdS (bt l 0) → r = hdB (bt l 0) → encU (racc l r (n - 1)) = l.take n → ul l = hdS (bt l 0) ∧ ur l = racc l (hdB (bt l 0)) (hdS (bt l 0) - 1) := by
    intro n r hn hr hn2 hr2 henc
    unfold refU at e
    simp only [hn, hr] at e
    rw [if_neg (by omega), if_pos ⟨by rw [hr2, hn2]; exact p4, henc⟩] at e
    by_cases hz : ul l = 0
    · rw [if_pos hz] at e; simp only [Prod.mk.injEq] at e; omega
    · rw [if_neg hz] at e; simp only [Prod.mk.injEq] at e
      exact ⟨by omega, by rw [← hr2, ← hn2]; exact e.1.symm⟩
  have h1 := bt_lt l 1
  have h2 := bt_lt l 2
  have h3 := bt_lt l 3
  by_cases g1 : bt l 0 < 128
  · have hs : hdS (bt l 0) = 1 := by unfold hdS; rw [if_pos g1]
    have hb : hdB (bt l 0) = bt l 0 := by unfold hdB; rw [if_pos g1]
    refine fin 1 (bt l 0) (by unfold rsz; rw [if_neg (by omega), if_neg (by omega), if_neg (by omega)]) (by unfold rb0; rw [if_neg (by omega), if_neg (by omega), if_neg (by omega)]) hs.symm hb.symm ?_
    rw [take_one l (by omega)]
    simp only [Nat.sub_self, racc]
    unfold encU
    rw [if_pos g1]
    simp only [cons_eq2, ofNat_eq, e0, and_true]
    omega
  by_cases g2 : 192 ≤ bt l 0 ∧ bt l 0 < 224
  · have hs : hdS (bt l 0) = 2 := by unfold hdS; rw [if_neg g1, if_pos g2]
    have hb : hdB (bt l 0) = bt l 0 % 32 := by unfold hdB; rw [if_neg g1, if_pos g2]
    rw [hs] at p3 p5
    rw [hb] at p5
    have q1 := p3 1 (by omega) (by omega)
    refine fin 2 (bt l 0 % 32) (by unfold rsz; rw [if_neg (by omega), if_neg (by omega), if_pos (by omega)]) (by unfold rb0; rw [if_neg (by omega), if_neg (by omega), if_pos (by omega)]) hs.symm hb.symm ?_
    rw [take_two l (by omega)]
    simp only [Nat.reduceSub, racc, Nat.zero_add] at p5 ⊢
    generalize bt l 0 = b0 at *
    generalize bt l 1 = b1 at *
    unfold wid at p5
    unfold encU
    by_cases k1 : b0 % 32 * 64 + b1 % 64 < 128
    · rw [if_pos k1] at p5; omega
    rw [if_neg k1] at p5 ⊢
    by_cases k2 : b0 % 32 * 64 + b1 % 64 < 2048
    · rw [if_pos k2]
      simp only [cons_eq2, ofNat_eq, e0, e1, and_true]
      omega
    · rw [if_neg k2] at p5; split at p5 <;> omega
  by_cases g3 : 224 ≤ bt l 0 ∧ bt l 0 < 240
  · have hs : hdS (bt l 0) = 3 := by unfold hdS; rw [if_neg g1, if_neg g2, if_pos g3]
    have hb : hdB (bt l 0) = bt l 0 % 16 := by unfold hdB; rw [if_neg g1, if_neg g2, if_pos g3]
    rw [hs] at p3 p5
    rw [hb] at p5
    have q1 := p3 1 (by omega) (by omega)
    have q2 := p3 2 (by omega) (by omega)
    refine fin 3 (bt l 0 % 16) (by unfold rsz; rw [if_neg (by omega), if_pos (by omega)]) (by unfold rb0; rw [if_neg (by omega), if_pos (by omega)]) hs.symm hb.symm ?_
    rw [take_three l (by omega)]
    simp only [Nat.reduceSub, racc, Nat.zero_add, Nat.reduceAdd] at p5 ⊢
    generalize bt l 0 = b0 at *
    generalize bt l 1 = b1 at *
    generalize bt l 2 = b2 at *
    generalize hr : (b0 % 16 * 64 + b1 % 64) * 64 + b2 % 64 = r at *
    unfold wid at p5
    unfold encU
    by_cases k1 : r < 128
    · rw [if_pos k1] at p5; omega
    rw [if_neg k1] at p5 ⊢
    by_cases k2 : r < 2048
    · rw [if_pos k2] at p5; omega
    rw [if_neg k2] at p5 ⊢
    by_cases k3 : r < 65536
    · rw [if_pos k3]
      simp only [cons_eq2, ofNat_eq, e0, e1, e2, and_true]
      omega
    · rw [if_neg k3] at p5; omega
  by_cases g4 : 240 ≤ bt l 0 ∧ bt l 0 < 248
  · have hs : hdS (bt l 0) = 4 := by unfold hdS; rw [if_neg g1, if_neg g2, if_neg g3, if_pos g4]
    have hb : hdB (bt l 0) = bt l 0 % 8 := by unfold hdB; rw [if_neg g1, if_neg g2, if_neg g3, if_pos g4]
    rw [hs] at p3 p4 p5
    rw [hb] at p4 p5
    have q1 := p3 1 (by omega) (by omega)
    have q2 := p3 2 (by omega) (by omega)
    have q3 := p3 3 (by omega) (by omega)
    refine fin 4 (bt l 0 % 8) (by unfold rsz; rw [if_pos (by omega)]) (by unfold rb0; rw [if_pos (by omega)]) hs.symm hb.symm ?_
    rw [take_four l (by omega)]
    simp only [Nat.reduceSub, racc, Nat.zero_add, Nat.reduceAdd] at p4 p5 ⊢
    generalize bt l 0 = b0 at *
    generalize bt l 1 = b1 at *
    generalize bt l 2 = b2 at *
    generalize bt l 3 = b3 at *
    generalize hr : ((b0 % 8 * 64 + b1 % 64) * 64 + b2 % 64) * 64 + b3 % 64 = r at *
    unfold wid at p5
    unfold encU
    by_cases k1 : r < 128
    · rw [if_pos k1] at p5; omega
    rw [if_neg k1] at p5 ⊢
    by_cases k2 : r < 2048
    · rw [if_pos k2] at p5; omega
    rw [if_neg k2] at p5 ⊢
    by_cases k3 : r < 65536
    · rw [if_pos k3] at p5; omega
    rw [if_neg k3]
    have := p4.1
    simp only [cons_eq2, ofNat_eq, e0, e1, e2, e3, and_true]
    omega
  · exfalso
    unfold hdS at p1
    rw [if_neg g1, if_neg g2, if_neg g3, if_neg g4] at p1
    exact p1 rfl
theorem pd_iff (l : List UInt8) (h : l ≠ []) : ul l ≠ 0 → pdOk l := by
  intro hu
  have e := refU_eq l h
  rw [if_neg hu] at e
  have h0 := bt_lt l 0
  have e0 : (l.getD 0 0).toNat = bt l 0 := rfl
  have e1 : (l.getD 1 0).toNat = bt l 1 := rfl
  have e2 : (l.getD 2 0).toNat = bt l 2 := rfl
  have e3 : (l.getD 3 0).toNat = bt l 3 := rfl
  have h1 := bt_lt l 1
  have h2 := bt_lt l 2
  have h3 := bt_lt l 3
  have hc : ¬ l.length < rsz (bt l 0) ∧ isChar (racc l (rb0 (bt l 0)) (rsz (bt l 0) - 1)) ∧ encU (racc l (rb0 (bt l 0)) (rsz (bt l 0) - 1)) = l.take (rsz (bt l 0)) := by
    unfold refU at e
    simp only at e
    split at e
    · simp only [Prod.mk.injEq] at e; omega
    · split at e
      · rename_i a b; exact ⟨a, b⟩
      · simp only [Prod.mk.injEq] at e; omega
  obtain ⟨hl, hch, henc⟩ := hc
  by_cases g4 : 240 ≤ bt l 0
  · have r4 : rsz (bt l 0) = 4 := by unfold rsz; rw [if_pos g4]
    have rb : rb0 (bt l 0) = bt l 0 % 8 := by unfold rb0; rw [if_pos g4]
    rw [r4, rb] at henc hch
    rw [r4] at hl
    rw [take_four l (by omega)] at henc
    unfold pdOk hdS hdB
    simp only [Nat.reduceSub, racc, Nat.zero_add, Nat.reduceAdd] at henc hch
    generalize hb0 : bt l 0 = b0 at *
    generalize hb1 : bt l 1 = b1 at *
    generalize hb2 : bt l 2 = b2 at *
    generalize hb3 : bt l 3 = b3 at *
    have hr0 : ∃ r, r = ((b0 % 8 * 64 + b1 % 64) * 64 + b2 % 64) * 64 + b3 % 64 := ⟨_, rfl⟩
    obtain ⟨r, hr⟩ := hr0
    rw [← hr] at henc hch
    have hmax := hch.1
    unfold encU at henc
    have hw : wid r = 4 ∧ b0 = 240 + r / 262144 ∧ b1 / 64 = 2 ∧ b2 / 64 = 2 ∧ b3 / 64 = 2 := by
      unfold wid
      split at henc
      · simp at henc
      · split at henc
        · simp at henc
        · split at henc
          · simp at henc
          · simp only [cons_eq2, ofNat_eq, e0, e1, e2, e3, and_true] at henc
            refine ⟨by rw [if_neg ‹_›, if_neg ‹_›, if_neg ‹_›], by omega, by omega, by omega, by omega⟩
    rw [if_neg (show ¬ b0 < 128 by omega), if_neg (show ¬ (192 ≤ b0 ∧ b0 < 224) by omega), if_neg (show ¬ (224 ≤ b0 ∧ b0 < 240) by omega), if_pos (show 240 ≤ b0 ∧ b0 < 248 by omega), if_neg (show ¬ b0 < 128 by omega), if_neg (show ¬ (192 ≤ b0 ∧ b0 < 224) by omega), if_neg (show ¬ (224 ≤ b0 ∧ b0 < 240) by omega), if_pos (show 240 ≤ b0 ∧ b0 < 248 by omega)]
    simp only [Nat.reduceSub, racc, Nat.zero_add, Nat.reduceAdd, hb1, hb2, hb3]
    rw [← hr]
    refine ⟨by omega, by omega, fun j j1 j2 => ?_, hch, hw.1⟩
    have : j = 1 ∨ j = 2 ∨ j = 3 := by omega
    rcases this with rfl | rfl | rfl <;> omega
  by_cases g3 : 224 ≤ bt l 0
  · have r4 : rsz (bt l 0) = 3 := by unfold rsz; rw [if_neg g4, if_pos g3]
    have rb : rb0 (bt l 0) = bt l 0 % 16 := by unfold rb0; rw [if_neg g4, if_pos g3]
    rw [r4, rb] at henc hch
    rw [r4] at hl
    rw [take_three l (by omega)] at henc
    unfold pdOk hdS hdB
    simp only [Nat.reduceSub, racc, Nat.zero_add, Nat.reduceAdd] at henc hch
    generalize hb0 : bt l 0 = b0 at *
    generalize hb1 : bt l 1 = b1 at *
    generalize hb2 : bt l 2 = b2 at *
    have hr0 : ∃ r, r = (b0 % 16 * 64 + b1 % 64) * 64 + b2 % 64 := ⟨_, rfl⟩
    obtain ⟨r, hr⟩ := hr0
    rw [← hr] at henc hch
    unfold encU at henc
    have hw : wid r = 3 ∧ b1 / 64 = 2 ∧ b2 / 64 = 2 := by
      unfold wid
      split at henc
      · simp at henc
      · split at henc
        · simp at henc
        · split at henc
          · simp only [cons_eq2, ofNat_eq, e0, e1, e2, and_true] at henc
            refine ⟨by rw [if_neg ‹_›, if_neg ‹_›, if_pos ‹_›], by omega, by omega⟩
          · simp at henc
    rw [if_neg (show ¬ b0 < 128 by omega), if_neg (show ¬ (192 ≤ b0 ∧ b0 < 224) by omega), if_pos (show 224 ≤ b0 ∧ b0 < 240 by omega), if_neg (show ¬ b0 < 128 by omega), if_neg (show ¬ (192 ≤ b0 ∧ b0 < 224) by omega), if_pos (show 224 ≤ b0 ∧ b0 < 240 by omega)]
    simp only [Nat.reduceSub, racc, Nat.zero_add, Nat.reduceAdd, hb1, hb2]
    rw [← hr]
    refine ⟨by omega, by omega, fun j j1 j2 => ?_, hch, hw.1⟩
    have : j = 1 ∨ j = 2 := by omega
    rcases this with rfl | rfl <;> omega
  by_cases g2 : 192 ≤ bt l 0
  · have r4 : rsz (bt l 0) = 2 := by unfold rsz; rw [if_neg g4, if_neg g3, if_pos g2]
    have rb : rb0 (bt l 0) = bt l 0 % 32 := by unfold rb0; rw [if_neg g4, if_neg g3, if_pos g2]
    rw [r4, rb] at henc hch
    rw [r4] at hl
    rw [take_two l (by omega)] at henc
    unfold pdOk hdS hdB
    simp only [Nat.reduceSub, racc, Nat.zero_add, Nat.reduceAdd] at henc hch
    generalize hb0 : bt l 0 = b0 at *
    generalize hb1 : bt l 1 = b1 at *
    have hr0 : ∃ r, r = b0 % 32 * 64 + b1 % 64 := ⟨_, rfl⟩
    obtain ⟨r, hr⟩ := hr0
    rw [← hr] at henc hch
    unfold encU at henc
    have hw : wid r = 2 ∧ b1 / 64 = 2 := by
      unfold wid
      split at henc
      · simp at henc
      · split at henc
        · simp only [cons_eq2, ofNat_eq, e0, e1, and_true] at henc
          refine ⟨by rw [if_neg ‹_›, if_pos ‹_›], by omega⟩
        · split at henc <;> simp at henc
    rw [if_neg (show ¬ b0 < 128 by omega), if_pos (show 192 ≤ b0 ∧ b0 < 224 by omega), if_neg (show ¬ b0 < 128 by omega), if_pos (show 192 ≤ b0 ∧ b0 < 224 by omega)]
    simp only [Nat.reduceSub, racc, Nat.zero_add, hb1]
    rw [← hr]
    refine ⟨by omega, by omega, fun j j1 j2 => ?_, hch, hw.1⟩
    have : j = 1 := by omega
    subst this; omega
  · have r4 : rsz (bt l 0) = 1 := by unfold rsz; rw [if_neg g4, if_neg g3, if_neg g2]
    have rb : rb0 (bt l 0) = bt l 0 := by unfold rb0; rw [if_neg g4, if_neg g3, if_neg g2]
    rw [r4, rb] at henc hch
    rw [r4] at hl
    rw [take_one l (by omega)] at henc
    unfold pdOk hdS hdB
    simp only [Nat.sub_self, racc] at henc hch
    generalize hb0 : bt l 0 = b0 at *
    have hlt : b0 < 128 := by
      unfold encU at henc
      split at henc
      · assumption
      · split at henc
        · simp at henc
        · split at henc <;> simp at henc
    rw [if_pos hlt, if_pos hlt]
    simp only [Nat.sub_self, racc]
    refine ⟨by omega, by omega, fun j j1 j2 => by omega, hch, by unfold wid; rw [if_pos hlt]⟩
theorem uDecode_ok {s : List UInt8} {I : Int} {i : Nat} {st : St} {K : Int → Int → St → Prop} (hI : I = (i : Int)) (hl : s.length ≤ 2000000) (hi : i ≤ s.length) (hk : K ((rD (s.drop i)).1 : Nat) ((rD (s.drop i)).2 : Nat) st) :
    CallT PR fn_utf_Decode [.str s, .int .i64 I] [.one (.int .i64), .one (.int .i64)] st K := by
  have no : ¬ pdOk (s.drop i) → s.drop i ≠ [] → K 0 0 st := fun h hne => by
    have : ul (s.drop i) = 0 := Decidable.byContradiction fun h0 => h (pd_iff _ hne h0)
    unfold rD at hk
    rw [if_pos this] at hk; exact hk
  have yes : pdOk (s.drop i) → s.drop i ≠ [] → K (racc (s.drop i) (hdB (bt (s.drop i) 0)) (hdS (bt (s.drop i) 0) - 1) : Nat) (hdS (bt (s.drop i) 0) : Nat) st := fun h hne => by
    have hv := pd_val _ hne h
    unfold rD at hk
    rw [if_neg (by rw [hv.1]; exact h.1), hv.1, hv.2] at hk
    exact hk
  have hlen : (s.drop i).length = s.length - i := by simp
  have hb : ∀ j, bt (s.drop i) j = (s.getD (i + j) 0).toNat := bt_drop s i
  refine vc_utf_Decode s I st K (BIf_intro (fun h => by omega) fun _ => BIf_intro (fun h => ?_) fun h => ⟨⟨by omega, by omega⟩, ?_⟩)
  · have : s.drop i = [] := List.drop_of_length_le (by omega)
    have h0 : rD (s.drop i) = (0, 0) := by rw [this]; simp [rD, ul]
    rw [h0] at hk; exact hk
  have hne : s.drop i ≠ [] := by
    intro h0
    have := congrArg List.length h0
    rw [hlen] at this; simp only [List.length_nil] at this; omega
  have hb0 : (List.getD s (Int.toNat I) 0).toNat = bt (s.drop i) 0 := by rw [hb, hI]; rfl
  have hlt := bt_lt (s.drop i) 0
  rw [hb0]
  refine head_ok rfl hlt ?_
  have hsz : hdS (bt (s.drop i) 0) ≤ 4 := by unfold hdS; repeat' split
                                             all_goals omega
  have hbz : hdB (bt (s.drop i) 0) < 256 := by unfold hdB; repeat' split
                                               all_goals omega
  unfold pdOk at no yes
  generalize hdS (bt (s.drop i) 0) = n at *
  generalize hdB (bt (s.drop i) 0) = r0 at *
  rw [wrap64 _ (by omega) (by omega)]
  refine BIf_intro (fun g => no (fun hh => hh.1 (by omega)) hne) fun g1 => BIf_intro (fun g => no (fun hh => by omega) hne) fun g2 => ?_
  have hra := racc_lt (s.drop i) r0 hbz
  refine ⟨fun r j s' at' sz st2 => s = s' ∧ I = at' ∧ st = st2 ∧ ((n : Nat) : Int) = sz ∧ ∃ k : Nat, j = ((k + 1 : Nat) : Int) ∧ k + 1 ≤ n ∧ r = ((racc (s.drop i) r0 k : Nat) : Int) ∧ ∀ m, 1 ≤ m → m ≤ k → bt (s.drop i) m / 64 = 2, fun _ j _ _ sz _ => (sz - j).toNat, ⟨rfl, rfl, rfl, rfl, 0, rfl, by omega, rfl, fun m h1 h2 => by omega⟩, ?_⟩
  rintro _ _ _ _ _ _ ⟨rfl, rfl, rfl, rfl, k, rfl, hk1, rfl, hall⟩
  have hrk := hra k
  have h64 : 64 ^ k ≤ 64 ^ 3 := Nat.pow_le_pow_right (by decide) (by omega)
  refine BIf_intro (fun h2 => ?_) fun h2 => ?_
  · rw [wrap64 (I + ((k + 1 : Nat) : Int)) (by omega) (by omega)]
    have hbk : (List.getD s (Int.toNat (I + ((k + 1 : Nat) : Int))) 0).toNat = bt (s.drop i) (k + 1) := by
      rw [hb, show Int.toNat (I + ((k + 1 : Nat) : Int)) = i + (k + 1) by omega]
    have hbl := bt_lt (s.drop i) (k + 1)
    have h192 : bitsI .and .u8 ((bt (s.drop i) (k + 1) : Nat) : Int) (192 : Int) = ((bt (s.drop i) (k + 1) &&& 192 : Nat) : Int) := and_u8 _ 192 hbl (by decide)
    have hand : IntKind.i64.wrap (bitsI .and .u8 ((bt (s.drop i) (k + 1) : Nat) : Int) (63 : Int)) = ((bt (s.drop i) (k + 1) % 64 : Nat) : Int) := by
      rw [show (63 : Int) = ((2 ^ 6 - 1 : Nat) : Int) by decide, and_mask8 _ 6 hbl (by decide), wrap64 _ (by omega) (by omega)]
    have hmul : IntKind.i64.wrap (((racc (s.drop i) r0 k : Nat) : Int) * 2 ^ (min (Int.toNat (6 : Int)) (IntKind.bits .i64))) = ((racc (s.drop i) r0 k * 2 ^ 6 : Nat) : Int) := by
      rw [show (2 : Int) ^ (min (Int.toNat (6 : Int)) (IntKind.bits .i64)) = 64 by decide, wrap64 _ (by omega) (by omega)]; omega
    have hc : (bt (s.drop i) (k + 1) &&& 192) = 128 ↔ bt (s.drop i) (k + 1) / 64 = 2 := by
      have : ∀ x, x < 256 → ((x &&& 192) = 128 ↔ x / 64 = 2) := by decide +kernel
      exact this _ hbl
    refine ⟨⟨by omega, by omega⟩, ?_⟩
    rw [hbk, h192, hand, hmul, or_add _ _ 6 (by omega) (by omega), wrap64 _ (by omega) (by omega)]
    refine BIf_intro (fun h3 => no (fun hh => h3 ?_) hne) fun h3 => ?_
    · have := hh.2.2.1 (k + 1) (by omega) (by omega)
      rw [hc.2 this]; rfl
    · have h4 : bt (s.drop i) (k + 1) / 64 = 2 := hc.1 (by omega)
      refine ⟨⟨rfl, rfl, rfl, rfl, k + 1, by omega, by omega, by simp only [racc], fun m m1 m2 => ?_⟩, by dsimp only; omega⟩
      by_cases hm : m = k + 1
      · rw [hm]; exact h4
      · exact hall m m1 (by omega)
  · have hks : k = n - 1 := by omega
    subst hks
    refine scalar_ok rfl (BIf_bool (fun h3 => no (fun hh => ?_) hne) fun h3 => width_ok rfl (BIf_intro (fun h4 => no (fun hh => ?_) hne) fun h4 => ?_))
    · simp only [Bool.not_eq_true', decide_eq_false_iff_not] at h3
      exact h3 hh.2.2.2.1
    · rw [hh.2.2.2.2] at h4; exact h4 rfl
    · simp only [Bool.not_eq_false', decide_eq_true_eq] at h3
      exact yes ⟨by omega, by omega, fun m m1 m2 => hall m m1 (by omega), h3, by omega⟩ hne
theorem uLen_ok {s : List UInt8} {st : St} {K : Int → Int → St → Prop} (hl : s.length ≤ 2000000) (hk : ∀ n : Int, K n (if vlen s = s.length then 0 else 5) st) : CallT PR fn_utf_Len [.str s] [.one (.int .i64), .one (.int .i64)] st K := by
  have hv := vlen_le' s
  refine vc_utf_Len s st K ⟨fun n i s' st' => s = s' ∧ st = st' ∧ ∃ k : Nat, i = (k : Int) ∧ k ≤ s.length ∧ k + vlen (s.drop k) = vlen s, fun _ i _ _ => (s.length - i).toNat, ⟨rfl, rfl, 0, rfl, by omega, by simp⟩, ?_⟩
  rintro n _ _ _ ⟨rfl, rfl, k, rfl, h1, h2⟩
  refine BIf_intro (fun g1 => uDecode_ok rfl hl h1 ?_) fun g1 => ?_
  · have hle := ul_le (s.drop k)
    rw [List.length_drop] at hle
    unfold rD
    by_cases h0 : ul (s.drop k) = 0
    · rw [if_pos h0]
      rw [vlen_zero _ h0] at h2
      have := hk 0
      rw [if_neg (by omega)] at this
      exact BIf_intro (fun _ => this) fun h => absurd rfl h
    · rw [if_neg h0]
      rw [vlen_step _ h0, List.drop_drop] at h2
      refine BIf_intro (fun h => absurd h (by show ¬ ((ul (s.drop k) : Nat) : Int) = 0; omega)) fun _ => ?_
      have w : IntKind.i64.wrap ((k : Int) + (ul (s.drop k) : Nat)) = ((k + ul (s.drop k) : Nat) : Int) := by rw [wrap64 _ (by omega) (by omega)]; omega
      dsimp only
      rw [w]
      exact ⟨⟨rfl, rfl, _, rfl, by omega, by omega⟩, by omega⟩
  · rw [show s.drop k = [] from List.drop_of_length_le (by omega), vlen_nil] at h2
    have := hk n
    rw [if_pos (by omega)] at this
    exact this
theorem uValid_ok {s : List UInt8} {st : St} {K : Bool → St → Prop} (hl : s.length ≤ 2000000) (hk : K (decide (vlen s = s.length)) st) : CallT PR fn_utf_Valid [.str s] [.one (.bool)] st K := by
  refine vc_utf_Valid s st K (uLen_ok hl fun n => ?_)
  by_cases h : vlen s = s.length
  · rw [if_pos h]; rw [decide_eq_true h] at hk; exact hk
  · rw [if_neg h]; rw [decide_eq_false h] at hk; exact hk
end Go.TVF
end

section
namespace Go.TVF
open Go Go.Proofs
set_option linter.unusedVariables false
set_option linter.unusedSimpArgs false
theorem trimRight_ok {l : List UInt8} {c : UInt8} (hc : c.toNat < 128) (hl : l.length ≤ 9223372036854775807) {st : St} {K : List UInt8 → St → Prop} (hk : K (Lib.trimRightB l c) st) : CallT PR fn_strings_TrimRight [.str l, .str [c]] [.one .str] st K := by
  refine tcalls_enter (fun _ _ => by kernel_rfl) fun g w vargs s hr => ?_
  obtain ⟨v, u, rfl, hv, hu⟩ := relL_two hr
  rw [rel_str_inv hv, rel_str_inv hu]
  refine Calls.mono (Tryd.strings_TrimRight_one ⟨l.toArray⟩ c hc w (by simpa [ByteArray.size] using hl)) ?_
  rintro e w' ⟨rfl, rfl⟩
  exact ⟨_, rfl, .str _, st, g, hk, s, Rel.str _, Ext.refl _ _⟩
theorem trimRightB_len (l : List UInt8) : (Lib.trimRightB l 48).length + zerosN l = l.length := by
  unfold Lib.trimRightB zerosN
  have := congrArg List.length (List.takeWhile_append_dropWhile (p := fun x : UInt8 => x == 48) (l := l.reverse))
  rw [List.length_append, List.length_reverse] at this
  rw [List.length_reverse]; omega
theorem zeros_ok {l : List UInt8} (hl : l.length ≤ 2000000) {st : St} {K : Int → St → Prop} (hk : K (zerosN l : Nat) st) : CallT PR fn_digits_Zeros [.str l] [.one (.int .i64)] st K := by
  refine vc_digits_Zeros _ st K (trimRight_ok (by decide) (by omega) ?_)
  have := trimRightB_len l
  rw [wrap64 _ (by omega) (by omega), show ((l.length : Nat) : Int) - ((Lib.trimRightB l 48).length : Int) = (zerosN l : Nat) by omega]
  exact hk
theorem tw_len {p : UInt8 → Bool} : ∀ (r : List UInt8) (n : Nat), n ≤ r.length → (∀ j x, j < n → r[j]? = some x → p x = true) → (∀ x, r[n]? = some x → p x = false) → (r.takeWhile p).length = n
  | [], n, h, _, _ => by simp at h; simp [h]
  | a :: r, 0, _, _, h => by simp [List.takeWhile_cons, h a rfl]
  | a :: r, n + 1, h, h1, h2 => by
    rw [List.takeWhile_cons, if_pos (h1 0 a (by omega) rfl), List.length_cons, tw_len r n (by simpa using h) (fun j x hj hx => h1 (j + 1) x (by omega) (by simpa using hx)) (fun x hx => h2 x (by simpa using hx))]
theorem rev_getD (l : List UInt8) (n : Nat) (h : n < l.length) : l.reverse[n]? = some (List.getD l (l.length - 1 - n) 0) := by
  rw [List.getElem?_reverse h, List.getD_eq_getElem?_getD, List.getElem?_eq_getElem (by omega), Option.getD_some]
theorem rzeros_ok {l : List UInt8} (hl : l.length ≤ 2000000) {st : St} {K : Int → St → Prop} (hk : K (zerosN l : Nat) st) : CallT PR fn_datakitref01_Zeros [.str l] [.one (.int .i64)] st K := by
  refine vc_datakitref01_Zeros l st K ⟨fun i s st' => l = s ∧ st = st' ∧ ∃ n : Nat, i = n ∧ n ≤ l.length ∧ ∀ j x, j < n → l.reverse[j]? = some x → (x == 48) = true, fun i _ _ => (l.length - i).toNat, ⟨rfl, rfl, 0, rfl, Nat.zero_le _, fun j x hj => absurd hj (Nat.not_lt_zero _)⟩, ?_⟩
  rintro _ _ _ ⟨rfl, rfl, n, rfl, hn, hall⟩
  refine BIf_intro (fun g => ?_) fun g => ?_
  · have hr := rev_getD l n (by omega)
    rw [wrap64 ((l.length : Int) - 1) (by omega) (by omega), wrap64 _ (by omega) (by omega), show Int.toNat ((l.length : Int) - 1 - (n : Int)) = l.length - 1 - n by omega]
    refine ⟨⟨by omega, by omega⟩, ?_⟩
    generalize List.getD l (l.length - 1 - n) 0 = c at hr ⊢
    refine BIf_intro (fun g2 => ?_) fun g2 => ?_
    · rw [wrap64 _ (by omega) (by omega)]
      refine ⟨⟨rfl, rfl, n + 1, by omega, by omega, fun j x hj hx => ?_⟩, by dsimp only; omega⟩
      by_cases hjn : j = n
      · subst hjn
        rw [hr] at hx
        rw [← Option.some.inj hx]
        simpa [← UInt8.toNat_inj] using (by omega : c.toNat = 48)
      · exact hall j x (by omega) hx
    · have : zerosN l = n := tw_len _ n (by simpa using hn) hall fun x hx => by
        rw [hr] at hx
        rw [← Option.some.inj hx]
        have : c ≠ 48 := fun e => g2 (by rw [e]; rfl)
        simpa using this
      rw [← this]; exact hk
  · have : zerosN l = n := tw_len _ n (by simpa using hn) hall fun x hx => by
      rw [List.getElem?_eq_none (by simp; omega)] at hx; cases hx
    rw [← this]; exact hk
theorem getD_mem {l : List UInt8} {n : Nat} (h : n < l.length) : List.getD l n 0 ∈ l := by
  rw [List.getD_eq_getElem?_getD, List.getElem?_eq_getElem h, Option.getD_some]
  exact List.getElem_mem h
theorem all_snoc {P : UInt8 → Prop} {l : List UInt8} {n : Nat} (h : n < l.length) (h1 : ∀ c, c ∈ l.take n → P c) (h2 : P (List.getD l n 0)) : ∀ c, c ∈ l.take (n + 1) → P c := by
  intro c hc
  rw [getD_take _ _ 0 h] at hc
  rcases List.mem_append.1 hc with hc | hc
  · exact h1 c hc
  · rw [List.mem_singleton.1 hc]; exact h2
theorem all_ok {l : List UInt8} (hl : l.length ≤ 2000000) {st : St} {K : Bool → St → Prop} (hk : K (decide (∀ c, c ∈ l → isDg c)) st) : CallT PR fn_digits_all [.str l] [.one .bool] st K := by
  refine vc_digits_all l st K ⟨fun i s m st' => l = s ∧ (l.length : Int) = m ∧ st = st' ∧ ∃ n : Nat, i = n ∧ n ≤ l.length ∧ ∀ c, c ∈ l.take n → isDg c, fun i _ _ _ => (l.length - i).toNat, ⟨rfl, rfl, rfl, 0, rfl, Nat.zero_le _, fun c hc => by simp at hc⟩, ?_⟩
  rintro _ _ _ _ ⟨rfl, rfl, rfl, n, rfl, hn, hall⟩
  refine BIf_intro (fun g => ?_) fun g => ?_
  · have hm := getD_mem (l := l) (n := n) (by omega)
    have bad : ¬ isDg (List.getD l n 0) → K false st := fun hb => by
      rw [decide_eq_false fun h => hb (h _ hm)] at hk; exact hk
    rw [Int.toNat_natCast]
    refine ⟨⟨by omega, by omega⟩, BIf_intro (fun g2 => bad (by unfold isDg; omega)) fun g2 => ⟨⟨by omega, by omega⟩, BIf_intro (fun g3 => bad (by unfold isDg; omega)) fun g3 => ?_⟩⟩
    rw [wrap64 _ (by omega) (by omega)]
    exact ⟨⟨rfl, rfl, rfl, n + 1, by omega, by omega, all_snoc (by omega) hall (by unfold isDg; omega)⟩, by dsimp only; omega⟩
  · have : n = l.length := by omega
    subst this
    rw [List.take_length] at hall
    rw [decide_eq_true hall] at hk; exact hk
theorem rDigits_ok {l : List UInt8} (hl : l.length ≤ 2000000) {st : St} {K : Bool → St → Prop} (hk : K (decide (∀ c, c ∈ l → isDg c)) st) : CallT PR fn_datakitref01_Digits [.str l] [.one .bool] st K := by
  refine vc_datakitref01_Digits l st K ⟨fun i s st' => l = s ∧ st = st' ∧ ∃ n : Nat, i = n ∧ n ≤ l.length ∧ ∀ c, c ∈ l.take n → isDg c, fun i _ _ => (l.length - i).toNat, ⟨rfl, rfl, 0, rfl, Nat.zero_le _, fun c hc => by simp at hc⟩, ?_⟩
  rintro _ _ _ ⟨rfl, rfl, n, rfl, hn, hall⟩
  refine BIf_intro (fun g => ?_) fun g => ?_
  · have hm := getD_mem (l := l) (n := n) (by omega)
    have bad : ¬ isDg (List.getD l n 0) → K false st := fun hb => by
      rw [decide_eq_false fun h => hb (h _ hm)] at hk; exact hk
    rw [Int.toNat_natCast]
    refine ⟨⟨by omega, by omega⟩, BIf_intro (fun g2 => bad (by unfold isDg; omega)) fun g2 => ⟨⟨by omega, by omega⟩, BIf_intro (fun g3 => bad (by unfold isDg; omega)) fun g3 => ?_⟩⟩
    rw [wrap64 _ (by omega) (by omega)]
    exact ⟨⟨rfl, rfl, n + 1, by omega, by omega, all_snoc (by omega) hall (by unfold isDg; omega)⟩, by dsimp only; omega⟩
  · have : n = l.length := by omega
    subst this
    rw [List.take_length] at hall
    rw [decide_eq_true hall] at hk; exact hk
/-- A numeral. -/
def NumOk (l : List UInt8) : Prop := l.length ≤ 600 ∧ (∀ c, c ∈ l → isDg c) ∧ (l ≠ [] → l.getD 0 0 ≠ 48)
instance (l : List UInt8) : Decidable (NumOk l) := inferInstanceAs (Decidable (_ ∧ _ ∧ (_ → _)))
theorem ne48 (c : UInt8) : decide ((c.toNat : Int) ≠ 48) = decide (c ≠ 48) := by
  have : ((c.toNat : Int) ≠ 48) ↔ c ≠ 48 := by rw [ne_eq, ne_eq, ← UInt8.toNat_inj]; exact not_congr ⟨fun h => Int.ofNat.inj h, fun h => by rw [h]; rfl⟩
  exact decide_eq_decide.2 this
theorem dValid_ok {l : List UInt8} (hl : l.length ≤ 2000000) {st : St} {K : Bool → St → Prop} (hk : K (decide (NumOk l)) st) : CallT PR fn_digits_Valid [.str l] [.one .bool] st K := by
  have no : ¬ NumOk l → K false st := fun h => by rw [decide_eq_false h] at hk; exact hk
  refine vc_digits_Valid l st K (BIf_intro (fun g => all_ok hl (BIf_intro (fun g2 => BIf_intro (fun g3 => ?_) fun g3 => ⟨⟨by omega, by have := List.length_pos_iff.2 g3; omega⟩, ?_⟩) fun g2 => no fun h => g2 h.2.1)) fun g => no fun h => g (by have := h.1; omega))
  · rw [decide_eq_true (show NumOk l from ⟨by omega, g2, fun h => absurd g3 h⟩)] at hk; exact hk
  · rw [ne48]
    refine K_eq (decide_eq_decide.2 ?_) hk
    exact ⟨fun h => ⟨by omega, g2, fun _ => h⟩, fun h => h.2.2 g3⟩
theorem rNum_ok {l : List UInt8} (hl : l.length ≤ 2000000) {st : St} {K : Bool → St → Prop} (hk : K (decide (NumOk l)) st) : CallT PR fn_datakitref01_Valid [.str l] [.one .bool] st K := by
  have no : ¬ NumOk l → K false st := fun h => by rw [decide_eq_false h] at hk; exact hk
  refine vc_datakitref01_Valid l st K (BIf_intro (fun g => rDigits_ok hl (BIf_intro (fun g2 => BIf_intro (fun g3 => ?_) fun g3 => ⟨⟨by omega, by omega⟩, ?_⟩) fun g2 => no fun h => g2 h.2.1)) fun g => no fun h => g (by have := h.1; omega))
  · rw [decide_eq_true (show NumOk l from ⟨by omega, g2, fun h => absurd (List.eq_nil_of_length_eq_zero (by omega)) h⟩)] at hk; exact hk
  · rw [ne48]
    refine K_eq (decide_eq_decide.2 ?_) hk
    exact ⟨fun h => ⟨by omega, g2, fun _ => h⟩, fun h => h.2.2 fun e => g3 (by rw [e]; rfl)⟩
theorem decOk_iff {neg : Bool} {l : List UInt8} {ex : Int} (h : l ≠ []) : DecOk neg l ex ↔ NumOk l ∧ l.length ≤ 120 ∧ zerosN l = 0 ∧ -400 ≤ ex ∧ ex ≤ 400 := by
  unfold DecOk NumOk
  constructor
  · intro g
    obtain ⟨g1, g2, g3, g4, g5, g6⟩ := g.2 h
    exact ⟨⟨by omega, g2, fun _ => g3⟩, g1, g4, g5, g6⟩
  · rintro ⟨⟨g1, g2, g3⟩, g4, g5, g6, g7⟩
    exact ⟨fun e => absurd e h, fun _ => ⟨g4, g2, g3 h, g5, g6, g7⟩⟩
theorem decOk_nil {neg : Bool} {ex : Int} : DecOk neg [] ex ↔ neg = false ∧ ex = 0 := by
  unfold DecOk
  exact ⟨fun g => g.1 rfl, fun g => ⟨fun _ => g, fun h => absurd rfl h⟩⟩
theorem decValid_ok {neg : Bool} {l : List UInt8} {ex : Int} (hl : l.length ≤ 2000000) {st : St} {K : Bool → St → Prop} (hk : K (decide (DecOk neg l ex)) st) : CallT PR fn_decimal_Valid [.agg [.bool neg, .str l, .int .i64 ex]] [.one .bool] st K := by
  have no : ¬ DecOk neg l ex → K false st := fun h => by rw [decide_eq_false h] at hk; exact hk
  refine vc_decimal_Valid _ _ _ st K (BIf_intro (fun g => ?_) fun g => ?_)
  · subst g
    refine K_eq ?_ hk
    rw [Bool.eq_iff_iff]
    simp [decOk_nil]
  · refine dValid_ok hl (BIf_intro (fun g2 => BIf_intro (fun g3 => zeros_ok hl (BIf_intro (fun g4 => BIf_intro (fun g5 => ?_) fun g5 => ?_) fun g4 => ?_)) fun g3 => ?_) fun g2 => ?_)
    · exact K_eq (decide_eq_decide.2 (by rw [decOk_iff g]; exact ⟨fun h => ⟨g2, by omega, by omega, g5, h⟩, fun h => h.2.2.2.2⟩)) hk
    · exact no fun h => g5 ((decOk_iff g).1 h).2.2.2.1
    · exact no fun h => g4 (by have := ((decOk_iff g).1 h).2.2.1; omega)
    · exact no fun h => g3 (by have := ((decOk_iff g).1 h).2.1; omega)
    · exact no fun h => g2 ((decOk_iff g).1 h).1
theorem rDec_ok {neg : Bool} {l : List UInt8} {ex : Int} (hl : l.length ≤ 2000000) {st : St} {K : Bool → St → Prop} (hk : K (decide (DecOk neg l ex)) st) : CallT PR fn_datakitref02_Valid [.agg [.bool neg, .str l, .int .i64 ex]] [.one .bool] st K := by
  have no : ¬ DecOk neg l ex → K false st := fun h => by rw [decide_eq_false h] at hk; exact hk
  refine vc_datakitref02_Valid _ _ _ st K (BIf_intro (fun g => ?_) fun g => ?_)
  · subst g
    cases neg
    · exact K_eq (by rw [Bool.eq_iff_iff]; simp [decOk_nil]) hk
    · exact K_eq (by rw [Bool.eq_iff_iff]; simp [decOk_nil]) hk
  · refine BIf_intro (fun g3 => rNum_ok hl (BIf_intro (fun g2 => rzeros_ok hl (BIf_intro (fun g4 => BIf_intro (fun g5 => ?_) fun g5 => ?_) fun g4 => ?_)) fun g2 => ?_)) fun g3 => ?_
    · exact K_eq (decide_eq_decide.2 (by rw [decOk_iff g]; exact ⟨fun h => ⟨g2, by omega, by omega, g5, h⟩, fun h => h.2.2.2.2⟩)) hk
    · exact no fun h => g5 ((decOk_iff g).1 h).2.2.2.1
    · exact no fun h => g4 (by have := ((decOk_iff g).1 h).2.2.1; omega)
    · exact no fun h => g2 ((decOk_iff g).1 h).1
    · exact no fun h => g3 (by have := ((decOk_iff g).1 h).2.1; omega)
theorem timeValid_ok {k d n z : Int} {st : St} {K : Bool → St → Prop} (hk : K (decide (TimeOk k d n z)) st) : CallT PR fn_moment_Valid [.agg [.int .i64 k, .int .i64 d, .int .i64 n, .int .i64 z]] [.one .bool] st K := by
  refine vc_moment_Valid _ _ _ _ st K ?_
  repeat' first
    | exact K_eq (Eq.symm (decide_eq_false (by unfold TimeOk; omega))) hk
    | exact K_eq (Eq.symm (decide_eq_true (by unfold TimeOk; omega))) hk
    | exact K_eq (decide_eq_decide.2 (by unfold TimeOk; omega)) hk
    | refine BIf_intro (fun _ => ?_) fun _ => ?_
theorem dated_ok {k : Int} {st : St} {K : Bool → St → Prop} (hk : K (decide (k = 1 ∨ k = 3 ∨ k = 4)) st) : CallT PR fn_datakitref05_dated [.int .i64 k] [.one .bool] st K := by
  refine vc_datakitref05_dated _ st K ?_
  repeat' first
    | exact K_eq (Eq.symm (decide_eq_true (by omega))) hk
    | exact K_eq (decide_eq_decide.2 (by omega)) hk
    | refine BIf_intro (fun _ => ?_) fun _ => ?_
theorem clocked_ok {k : Int} {st : St} {K : Bool → St → Prop} (hk : K (decide (k = 2 ∨ k = 3 ∨ k = 4)) st) : CallT PR fn_datakitref05_clocked [.int .i64 k] [.one .bool] st K := by
  refine vc_datakitref05_clocked _ st K ?_
  repeat' first
    | exact K_eq (Eq.symm (decide_eq_true (by omega))) hk
    | exact K_eq (decide_eq_decide.2 (by omega)) hk
    | refine BIf_intro (fun _ => ?_) fun _ => ?_
theorem rTime_ok {k d n z : Int} {st : St} {K : Bool → St → Prop} (hk : K (decide (TimeOk k d n z)) st) : CallT PR fn_datakitref05_Valid [.agg [.int .i64 k, .int .i64 d, .int .i64 n, .int .i64 z]] [.one .bool] st K := by
  refine vc_datakitref05_Valid _ _ _ _ st K ?_
  repeat' first
    | exact K_eq (Eq.symm (decide_eq_false (by unfold TimeOk; omega))) hk
    | exact K_eq (Eq.symm (decide_eq_true (by unfold TimeOk; omega))) hk
    | exact K_eq (decide_eq_decide.2 (by unfold TimeOk; omega)) hk
    | refine BIf_intro (fun _ => ?_) fun _ => ?_
    | refine dated_ok ?_
    | refine clocked_ok ?_
end Go.TVF
end

section
namespace Go.TVF
open Go Go.Proofs
set_option linter.unusedVariables false
set_option linter.unusedSimpArgs false
theorem orc {c p r : Bool} {K : Bool → Prop} {R1 R2 : Prop} (h1 : K r → R1) (h2 : K r → R2) (hk : K ((c && p) || r)) : BIf c (BIf p (K true) R1) R2 := by
  cases c <;> cases p <;> simp only [Bool.true_and, Bool.false_and, Bool.true_or, Bool.false_or] at hk <;> first | exact h1 hk | exact h2 hk | exact hk
theorem orn {c p r s : Bool} {K : Bool → Prop} {R1 R2 : Prop} (hs : s = true) (h1 : K r → R1) (h2 : K r → R2) (hk : K ((c && p) || r)) : BIf c (need s (BIf p (K true) R1)) R2 := by
  subst hs; exact orc h1 h2 hk
theorem ore {c p s : Bool} {K : Bool → Prop} (hs : s = true) (hk : K (c && p)) : BIf c (need s (K p)) (K false) := by
  subst hs; cases c <;> exact hk
def exB (s : Sc) (l : List Vl) (f : List Fd) : Bool :=
  (decide (s.kind ≠ 1) && s.b) || ((decide (s.kind ≠ 2) && !((s.neg == false) && (decide (s.dg = []) && (decide (s.ex = 0) && true)))) || ((decide (s.kind ≠ 3) && !(decide (s.tk = 0) && (decide (s.td = 0) && (decide (s.tn = 0) && (decide (s.tz = 0) && true))))) ||
    ((decide (s.kind ≠ 4) && decide (s.text ≠ [])) || ((decide (s.kind ≠ 5) && decide (0 < (s.bytes.length : Int))) || ((decide (s.kind ≠ 6) && decide (0 < (l.length : Int))) || (decide (s.kind ≠ 7) && decide (0 < (f.length : Int))))))))
theorem len_zero {α : Type} {l : List α} : ¬ 0 < (l.length : Int) ↔ l = [] := by
  rw [← List.length_eq_zero_iff]; omega
theorem exB_false {s : Sc} {l : List Vl} {f : List Fd} (h0 : 0 ≤ s.kind) (h7 : s.kind ≤ 7) : exB s l f = false ↔ OwnOk s l f := by
  unfold exB
  simp only [Bool.or_eq_false_iff, Bool.and_eq_false_imp, decide_eq_true_eq, Bool.not_eq_false', Bool.and_eq_true, beq_iff_eq, decide_eq_false_iff_not, len_zero, ne_eq, Decidable.not_not, and_true]
  constructor
  · rintro ⟨a, b, c, d, e, f, g⟩; exact ⟨h0, h7, a, b, c, d, e, f, g⟩
  · rintro ⟨_, _, a, b, c, d, e, f, g⟩; exact ⟨a, b, c, d, e, f, g⟩
theorem exB_eq {s : Sc} {l : List Vl} {f : List Fd} (h0 : 0 ≤ s.kind) (h7 : s.kind ≤ 7) : exB s l f = !decide (OwnOk s l f) := by
  cases h : exB s l f with
  | false => rw [decide_eq_true ((exB_false h0 h7).1 h)]; rfl
  | true => rw [decide_eq_false fun o => by rw [(exB_false h0 h7).2 o] at h; cases h]; rfl
theorem extra_ok {s : Sc} {l : List Vl} {f : List Fd} {ub ul uf : TV} {st : St} {K : Bool → St → Prop} (h1 : isSl ub = true) (h2 : isSl ul = true) (h3 : isSl uf = true) (l1 : lenS ub = s.bytes.length) (l2 : lenS ul = l.length) (l3 : lenS uf = f.length) (hk : K (exB s l f) st) :
    CallT PR fn_value_extra [.agg (cellsV s ub ul uf)] [.one .bool] st K := by
  unfold exB at hk
  refine vc_value_extra _ _ _ _ _ _ _ _ _ _ _ _ _ st K ?_
  rw [l1, l2, l3]
  revert hk
  repeat' first
    | (refine fun hk => ore (K := fun b => K b st) h3 hk)
    | (refine fun hk => orn (K := fun b => K b st) h1 ?_ ?_ hk)
    | (refine fun hk => orn (K := fun b => K b st) h2 ?_ ?_ hk)
    | (refine fun hk => orc (K := fun b => K b st) ?_ ?_ hk)
theorem oac {c p r : Bool} {K : Bool → Prop} {R1 R2 : Prop} (h1 : K r → R1) (h2 : K r → R2) (hk : K (!(c && p) && r)) : BIf c (BIf p (K false) R1) R2 := by
  cases c <;> cases p <;> simp only [Bool.true_and, Bool.false_and, Bool.not_true, Bool.not_false] at hk <;> first | exact h1 hk | exact h2 hk | exact hk
theorem oaf {c r : Bool} {K : Bool → Prop} {R : Prop} (h : K r → R) (hk : K (!c && r)) : BIf c (K false) R := by
  cases c <;> simp only [Bool.true_and, Bool.false_and, Bool.not_true, Bool.not_false] at hk <;> first | exact h hk | exact hk
theorem oab {c p r : Bool} {K : Bool → Prop} {R1 R2 : Prop} (h1 : K r → R1) (h2 : K r → R2) (hk : K ((c || p) && r)) : BIf c R1 (BIf p R2 (K false)) := by
  cases c <;> cases p <;> simp only [Bool.true_and, Bool.false_and, Bool.or_true, Bool.or_false, Bool.true_or, Bool.false_or] at hk <;> first | exact h1 hk | exact h2 hk | exact hk
theorem oan {c p r s : Bool} {K : Bool → Prop} {R1 R2 : Prop} (hs : s = true) (h1 : K r → R1) (h2 : K r → R2) (hk : K ((c || p) && r)) : BIf c R1 (need s (BIf p R2 (K false))) := by
  subst hs; exact oab h1 h2 hk
theorem oae {c p s : Bool} {K : Bool → Prop} (hs : s = true) (hk : K (c || p)) : BIf c (K true) (need s (K p)) := by
  subst hs; cases c <;> exact hk
def owB (s : Sc) (l : List Vl) (f : List Fd) : Bool :=
  !decide (s.kind < 0) && (!decide (7 < s.kind) && (!(decide (s.kind ≠ 1) && s.b) && (!(decide (s.kind ≠ 2) && !((s.neg == false) && (decide (s.dg = []) && (decide (s.ex = 0) && true)))) && (!(decide (s.kind ≠ 3) && !(decide (s.tk = 0) && (decide (s.td = 0) && (decide (s.tn = 0) && (decide (s.tz = 0) && true))))) &&
    ((decide (s.kind = 4) || decide (s.text = [])) && ((decide (s.kind = 5) || decide ((s.bytes.length : Int) = 0)) && ((decide (s.kind = 6) || decide ((l.length : Int) = 0)) && (decide (s.kind = 7) || decide ((f.length : Int) = 0)))))))))
theorem len_zero' {α : Type} {l : List α} : (l.length : Int) = 0 ↔ l = [] := by
  rw [← List.length_eq_zero_iff]; omega
theorem owB_true {s : Sc} {l : List Vl} {f : List Fd} : owB s l f = true ↔ OwnOk s l f := by
  unfold owB
  simp only [Bool.and_eq_true, Bool.not_eq_true', Bool.or_eq_true, Bool.and_eq_false_imp, decide_eq_true_eq, Bool.not_eq_false', beq_iff_eq, decide_eq_false_iff_not, len_zero', ne_eq, and_true, Int.not_lt]
  constructor
  · rintro ⟨h0, h7, a, b, c, d, e, f, g⟩
    exact ⟨h0, h7, a, b, c, fun h => d.resolve_left h, fun h => e.resolve_left h, fun h => f.resolve_left h, fun h => g.resolve_left h⟩
  · rintro ⟨h0, h7, a, b, c, d, e, f, g⟩
    exact ⟨h0, h7, a, b, c, Decidable.or_iff_not_imp_left.2 d, Decidable.or_iff_not_imp_left.2 e, Decidable.or_iff_not_imp_left.2 f, Decidable.or_iff_not_imp_left.2 g⟩
theorem owB_eq {s : Sc} {l : List Vl} {f : List Fd} : owB s l f = decide (OwnOk s l f) := by
  rw [Bool.eq_iff_iff, decide_eq_true_eq]; exact owB_true
theorem own_ok {s : Sc} {l : List Vl} {f : List Fd} {ub ul uf : TV} {st : St} {K : Bool → St → Prop} (h1 : isSl ub = true) (h2 : isSl ul = true) (h3 : isSl uf = true) (l1 : lenS ub = s.bytes.length) (l2 : lenS ul = l.length) (l3 : lenS uf = f.length) (hk : K (decide (OwnOk s l f)) st) :
    CallT PR fn_datakitref07_own [.agg (cellsV s ub ul uf)] [.one .bool] st K := by
  rw [← owB_eq] at hk
  unfold owB at hk
  refine vc_datakitref07_own _ _ _ _ _ _ _ _ _ _ _ _ _ st K ?_
  rw [l1, l2, l3]
  revert hk
  repeat' first
    | (refine fun hk => oae (K := fun b => K b st) h3 hk)
    | (refine fun hk => oan (K := fun b => K b st) h1 ?_ ?_ hk)
    | (refine fun hk => oan (K := fun b => K b st) h2 ?_ ?_ hk)
    | (refine fun hk => oab (K := fun b => K b st) ?_ ?_ hk)
    | (refine fun hk => oac (K := fun b => K b st) ?_ ?_ hk)
    | (refine fun hk => oaf (K := fun b => K b st) ?_ hk)
theorem key_ok {s : List UInt8} (hl : s.length ≤ 2000000) {st : St} {K : Int → St → Prop} (hk : K ((if U8 s then (if 1024 < s.length then 10 else 0) else 5 : Nat) : Int) st) : CallT PR fn_value_key [.str s] [.one (.int .i64)] st K := by
  refine vc_value_key _ st K (uValid_ok hl (BIf_bool (fun g => ?_) fun g => ?_))
  · have hu : ¬ U8 s := by unfold U8; simpa using g
    rw [if_neg hu] at hk; exact hk
  · have hu : U8 s := by unfold U8; simpa using g
    rw [if_pos hu] at hk
    refine BIf_intro (fun g2 => ?_) fun g2 => ?_
    · have h3 : 1024 < s.length := by omega
      rw [if_pos h3] at hk; exact hk
    · have h3 : ¬ 1024 < s.length := by omega
      rw [if_neg h3] at hk; exact hk
theorem findM_setM (k k' : List UInt8) (v : TV) : ∀ es : List (List UInt8 × TV), findM k (setM k' v es) = if k = k' then some v else findM k es
  | [] => by
    simp only [setM, findM]
    by_cases h : k = k' <;> simp [h]
  | (k1, v1) :: es => by
    simp only [setM]
    by_cases h1 : k' = k1
    · simp only [h1, decide_true, findM]
      by_cases h : k = k1 <;> simp [h]
    · simp only [h1, decide_false, findM, findM_setM k k' v es]
      by_cases h : k = k1
      · simp [h, Ne.symm h1]
      · simp [h]
/-- A map holds names. -/
def MapN (es : List (List UInt8 × TV)) (ns : List (List UInt8)) : Prop := ∀ t, findM t es = if t ∈ ns then some (.bool true) else none
theorem MapN.add {es : List (List UInt8 × TV)} {ns : List (List UInt8)} (h : MapN es ns) (t : List UInt8) : MapN (setM t (.bool true) es) (t :: ns) := by
  intro k
  rw [findM_setM]
  by_cases hk : k = t
  · simp [hk]
  · rw [if_neg hk, h k]; simp [hk]
theorem keysE_cons (seen : List (List UInt8)) (d : Fd) (r : List Fd) : keysE seen (d :: r) = if U8 d.key then (if 1024 < d.key.length then 10 else if d.key ∈ seen then 8 else keysE (d.key :: seen) r) else 5 := rfl
theorem keysE_congr : ∀ (f : List Fd) (s s' : List (List UInt8)), (∀ x, x ∈ s ↔ x ∈ s') → keysE s f = keysE s' f
  | [], s, s', _ => rfl
  | d :: r, s, s', h => by
    rw [keysE_cons, keysE_cons, keysE_congr r (d.key :: s) (d.key :: s') (fun x => by simp [h x])]
    by_cases hd : d.key ∈ s
    · rw [if_pos hd, if_pos ((h _).1 hd)]
    · rw [if_neg hd, if_neg fun g => hd ((h _).2 g)]
theorem drop_get {α : Type} {l : List α} {k : Nat} {x : α} (h : l[k]? = some x) : l.drop k = x :: l.drop (k + 1) := by
  obtain ⟨q1, q2⟩ := List.getElem?_eq_some_iff.1 h
  rw [List.drop_eq_getElem_cons q1, q2]
theorem key_len {f : List Fd} {d : Fd} (h : d ∈ f) : d.key.length ≤ fsSz f := by
  have := fsSz_mem h
  cases d; unfold Fd.sz at this; simp only [Fd.key]; omega
theorem keys_ok {st0 st : St} {uf : TV} {xf : List TV} {f : List Fd} (hke : Keeps st0 st) (h4 : SlR st0 14 uf f.length xf) (h5 : FsR st0 f xf) (hN : fsSz f ≤ 2000000) {K : Int → St → Prop} (hk : ∀ st', StExt st st' → K (keysE [] f : Nat) st') :
    CallT PR fn_value_keys [uf] [.one (.int .i64)] st K := by
  have hfl := fsSz_len f
  refine vc_value_keys _ st K (need_intro h4.isSl ⟨fun i m u n st' => .map st.nb = m ∧ uf = u ∧ (f.length : Int) = n ∧ ∃ (k : Nat) (ns : List (List UInt8)) (es : List (List UInt8 × TV)), i = k ∧ k ≤ f.length ∧ StExt st st' ∧ st.nb < st'.nb ∧ st'.box st.nb = .map es ∧ MapN es ns ∧ keysE [] f = keysE ns (f.drop k), fun i _ _ _ _ => (f.length - i).toNat,
    ⟨rfl, rfl, by rw [h4.lenS], 0, [], [], rfl, Nat.zero_le _, (StExt.refl st).push _ _, by simp [St.push], by simp [St.push], fun t => by simp [findM], rfl⟩, ?_⟩)
  rintro _ _ _ _ st1 ⟨rfl, rfl, rfl, k, ns, es, rfl, hkf, e1, hb, hm, hns, hE⟩
  refine BIf_intro (fun g => ?_) fun g => ?_
  · refine el14 (hke.trans e1.keeps) h4 h5 rfl (by omega) fun key s' l' f' ub1 ul1 uf1 gw hw on => need_intro on ?_
    have hmem := mem_of_get gw
    have hkl := key_len hmem
    rw [drop_get gw, keysE_cons] at hE
    change keysE [] f = if U8 key then (if 1024 < key.length then 10 else if key ∈ ns then 8 else keysE (key :: ns) (f.drop (k + 1))) else 5 at hE
    change key.length ≤ _ at hkl
    refine key_ok (by omega) ?_
    by_cases g1 : U8 key
    case neg =>
      rw [if_neg g1] at hE ⊢
      refine BIf_intro (fun _ => ?_) fun h => absurd (by decide) h
      rw [← hE]; exact hk st1 e1
    rw [if_pos g1] at hE ⊢
    by_cases g2 : 1024 < key.length
    · rw [if_pos g2] at hE ⊢
      refine BIf_intro (fun _ => ?_) fun h => absurd (by decide) h
      rw [← hE]; exact hk st1 e1
    rw [if_neg g2] at hE ⊢
    refine BIf_intro (fun h => absurd rfl h) fun _ => optK_intro (x := es) (by simp only [mapOf, hm]) ?_
    rw [hns key]
    by_cases g3 : key ∈ ns
    · rw [if_pos g3] at hE ⊢
      refine decT_bool (BIf_bool (fun _ => ?_) fun h => by cases h)
      have := hk st1 e1
      rw [hE] at this; exact this
    · rw [if_neg g3] at hE ⊢
      refine decT_bool (BIf_bool (fun h => by cases h) fun _ => ⟨es, hm, ?_⟩)
      rw [wrap64 _ (by omega) (by omega)]
      exact ⟨⟨rfl, rfl, rfl, k + 1, key :: ns, _, by omega, by omega, StX.ext e1 (StX.put (S := fun i => i = st.nb) rfl _) (fun i hi => by rw [hi]; exact Nat.le_refl _), hb, by simp [St.put], hns.add key, hE⟩, by dsimp only; omega⟩
  · have : k = f.length := by omega
    subst this
    rw [List.drop_length] at hE
    have := hk st1 e1
    rw [hE] at this; exact this
theorem Keys_ok {st0 st : St} {uf : TV} {xf : List TV} {f : List Fd} (hke : Keeps st0 st) (h4 : SlR st0 14 uf f.length xf) (h5 : FsR st0 f xf) (hN : fsSz f ≤ 2000000) {K : Int → St → Prop} (hk : ∀ st', StExt st st' → K (keysE [] f : Nat) st') :
    CallT PR fn_datakitref07_Keys [uf] [.one (.int .i64)] st K := by
  have hfl := fsSz_len f
  refine vc_datakitref07_Keys _ st K ⟨fun i u st' => uf = u ∧ ∃ k : Nat, i = k ∧ k ≤ f.length ∧ StExt st st' ∧ keysE [] f = keysE ((f.take k).map Fd.key) (f.drop k), fun i _ _ => (f.length - i).toNat, ⟨rfl, 0, rfl, Nat.zero_le _, StExt.refl _, rfl⟩, ?_⟩
  rintro _ _ st1 ⟨rfl, k, rfl, hkf, e1, hE⟩
  refine need_intro h4.isSl (BIf_intro (fun g => ?_) fun g => ?_)
  · rw [h4.lenS] at g
    have gd : f[k]? = some f[k] := List.getElem?_eq_getElem (by omega)
    generalize f[k] = d at gd
    have hkl := key_len (mem_of_get gd)
    rw [drop_get gd, keysE_cons] at hE
    refine key14 (hke.trans e1.keeps) h4 h5 rfl gd (rvalid_ok (by omega) fun st2 e2 => ?_)
    have e12 := e1.trans e2
    by_cases g1 : U8 d.key
    case neg =>
      rw [if_neg g1] at hE
      refine BIf_bool (fun _ => ?_) fun h => absurd (by unfold U8; simpa using h) g1
      have := hk st2 e12
      rw [hE] at this; exact this
    rw [if_pos g1] at hE
    refine BIf_bool (fun h => absurd g1 (by unfold U8; simpa using h)) fun _ => key14 (hke.trans e12.keeps) h4 h5 rfl gd ?_
    by_cases g2 : 1024 < d.key.length
    · rw [if_pos g2] at hE
      refine BIf_intro (fun _ => ?_) fun h => absurd (by omega) h
      have := hk st2 e12
      rw [hE] at this; exact this
    rw [if_neg g2] at hE
    refine BIf_intro (fun h => absurd (by omega) g2) fun _ => ?_
    refine ⟨fun i u j st' => uf = u ∧ j = (k : Int) ∧ st2 = st' ∧ ∃ q : Nat, i = q ∧ q ≤ k ∧ ∀ (j : Nat) (x : Fd), j < q → f[j]? = some x → x.key ≠ d.key, fun i _ _ _ => (k - i).toNat, ⟨rfl, rfl, rfl, 0, rfl, Nat.zero_le _, fun j x hj => absurd hj (Nat.not_lt_zero _)⟩, ?_⟩
    rintro _ _ _ _ ⟨rfl, rfl, rfl, q, rfl, hq, hne⟩
    refine BIf_intro (fun g3 => ?_) fun g3 => ?_
    · have gx : f[q]? = some f[q] := List.getElem?_eq_getElem (by omega)
      generalize f[q] = x at gx
      refine key14 (hke.trans e12.keeps) h4 h5 rfl gx (key14 (hke.trans e12.keeps) h4 h5 rfl gd (BIf_intro (fun g4 => ?_) fun g4 => ?_))
      · rw [if_pos] at hE
        · have := hk st2 e12
          rw [hE] at this; exact this
        · rw [← g4]
          refine List.mem_map_of_mem ?_
          have : (f.take k)[q]? = some x := by rw [List.getElem?_take, if_pos (by omega)]; exact gx
          exact mem_of_get this
      · rw [wrap64 _ (by omega) (by omega)]
        refine ⟨⟨rfl, rfl, rfl, q + 1, by omega, by omega, fun j y hj hy => ?_⟩, by dsimp only; omega⟩
        by_cases hjq : j = q
        · subst hjq
          rw [gx] at hy
          rw [← Option.some.inj hy]; exact g4
        · exact hne j y (by omega) hy
    · have hqk : q = k := by omega
      subst hqk
      rw [if_neg] at hE
      · rw [wrap64 _ (by omega) (by omega)]
        refine ⟨⟨rfl, q + 1, by omega, by omega, e12, ?_⟩, by dsimp only; omega⟩
        rw [hE]
        refine keysE_congr _ _ _ fun x => ?_
        rw [take_snoc gd]
        simp [or_comm]
      · intro hm
        obtain ⟨x, hx, he⟩ := List.mem_map.1 hm
        obtain ⟨j, hj⟩ := List.getElem?_of_mem hx
        rw [List.getElem?_take] at hj
        split at hj
        · rename_i hlt
          exact hne j x hlt hj he
        · cases hj
  · rw [h4.lenS] at g
    have : k = f.length := by omega
    subst this
    rw [List.drop_length] at hE
    have := hk st1 e1
    rw [hE] at this; exact this
end Go.TVF
end

section
namespace Go.TVF
open Go Go.Proofs
set_option linter.unusedVariables false
set_option linter.unusedSimpArgs false
theorem Keeps.stx {b : Nat} {a c d : St} (h : Keeps a c) (k : StX (fun i => i = b) c d) (hb : a.nb ≤ b) : Keeps a d :=
  ⟨Nat.le_trans h.1 k.nb, fun i hi => (k.box i (Nat.lt_of_lt_of_le hi h.1) (by omega)).trans (h.2 i hi)⟩
theorem chkV_eq {d n : Nat} {s : Sc} {l : List Vl} {f : List Fd} (h1 : ¬ 48 < d) (h2 : ¬ 65536 ≤ n) (h3 : oneE s l f = 0) : chkV d n (.mk s l f) = thenE (chkVs (d + 1) (n + 1) l) fun m => chkFs (d + 1) m f := by
  unfold chkV; rw [if_neg h1, if_neg h2, if_neg (fun h => h h3)]
theorem chkV_one {d n : Nat} {s : Sc} {l : List Vl} {f : List Fd} (h1 : ¬ 48 < d) (h2 : ¬ 65536 ≤ n) (h3 : oneE s l f ≠ 0) : chkV d n (.mk s l f) = (n, oneE s l f) := by
  unfold chkV; rw [if_neg h1, if_neg h2, if_pos h3]
theorem chkVs_cons (d n : Nat) (v : Vl) (r : List Vl) : chkVs d n (v :: r) = thenE (chkV d n v) fun m => chkVs d m r := by rw [chkVs]
theorem chkFs_cons (d n : Nat) (k : List UInt8) (v : Vl) (r : List Fd) : chkFs d n (.mk k v :: r) = thenE (chkV d n v) fun m => chkFs d m r := by rw [chkFs, chkD]
theorem vlen_zero0 : U8 [] := by unfold U8; rw [vlen_nil]; rfl
theorem check_ok : ∀ (N : Nat) (v : Vl), v.sz ≤ N → N ≤ 2000000 → ∀ {st0 st : St} {cs : List TV} {b d n : Nat} {D : Int} {K : Int → St → Prop}, VlR st0 v cs → Keeps st0 st → st0.nb ≤ b → b < st.nb → st.box b = .cells [.int .i64 (n : Nat)] → n ≤ 65536 → D = (d : Int) → d ≤ 100 →
    (∀ st' (m : Nat), StX (fun i => i = b) st st' → st'.box b = .cells [.int .i64 (m : Nat)] → ((chkV d n v).2 = 0 → m = (chkV d n v).1 ∧ m ≤ 65536) → K ((chkV d n v).2 : Nat) st') → CallT PR fn_value_check [.agg cs, .int .i64 D, .box b 0] [.one (.int .i64)] st K := by
  intro N
  induction N with
  | zero => intro v h; have := v.sz_pos; omega
  | succ N ih =>
  intro v hN hN2 st0 st cs b d n D K h hke hb0 hb hbx hn hD hd hk
  subst hD
  cases v with
  | mk s l f =>
  have hsz : (Vl.mk s l f).sz = 1 + s.bytes.length + s.text.length + s.dg.length + vsSz l + fsSz f := by unfold Vl.sz; rfl
  have hll := vsSz_len l
  have hfl := fsSz_len f
  unfold VlR at h
  obtain ⟨ub, ul, uf, xl, xf, rfl, h1, h2, h3, h4, h5⟩ := h
  refine vc_value_check _ _ _ _ _ _ _ _ _ _ _ _ _ (d : Int) b st K ?_
  refine optK_intro (x := .int .i64 (n : Nat)) (by simp [ldCell, hbx]) (decT_int ?_)
  rw [wrap64 _ (by omega) (by omega)]
  refine ⟨_, hbx, by simp, ?_⟩
  obtain ⟨st1, hst1⟩ : ∃ st1, st1 = st.put b (.cells (setAll [.int .i64 (n : Nat)] 0 [.int .i64 ((n : Int) + 1)])) := ⟨_, rfl⟩
  rw [← hst1]
  have e1 : StX (fun i => i = b) st st1 := by rw [hst1]; exact StX.put (S := fun i => i = b) rfl _
  have hb1 : st1.box b = .cells [.int .i64 ((n + 1 : Nat) : Int)] := by rw [hst1]; simp [St.put, setAll]
  have hke1 := hke.stx e1 hb0
  refine ⟨fun dp p kd bo ng dg ex tk td tn tz tx u1 u2 u3 st' => dp = d ∧ p = .box b 0 ∧ ul = u2 ∧ uf = u3 ∧ ¬ 48 < d ∧ ¬ 65536 ≤ n ∧ oneE s l f = keysE [] f ∧ StX (fun i => i = b) st st' ∧ st'.box b = .cells [.int .i64 ((n + 1 : Nat) : Int)], ?_, ?_⟩
  · -- the value but for the values in it
    refine BIf_intro (fun g => ?_) fun g => ?_
    · have hc : chkV d n (.mk s l f) = (n, 9) := by unfold chkV; rw [if_pos (by omega)]
      have := hk st1 (n + 1) e1 hb1 (by rw [hc]; intro h; cases h)
      rw [hc] at this; exact this
    refine optK_intro (x := .int .i64 ((n + 1 : Nat) : Int)) (by simp [ldCell, hb1]) (decT_int (BIf_intro (fun g2 => ?_) fun g2 => ?_))
    · have hc : chkV d n (.mk s l f) = (n, 10) := by unfold chkV; rw [if_neg (by omega), if_pos (by omega)]
      have := hk st1 (n + 1) e1 hb1 (by rw [hc]; intro h; cases h)
      rw [hc] at this; exact this
    have hg1 : ¬ 48 < d := by omega
    have hg2 : ¬ 65536 ≤ n := by omega
    -- an error of the value itself
    have err : ∀ st', StX (fun i => i = b) st st' → st'.box b = .cells [.int .i64 ((n + 1 : Nat) : Int)] → oneE s l f ≠ 0 → K ((oneE s l f : Nat) : Int) st' := fun st' e' hb' ho => by
      have hc := chkV_one hg1 hg2 ho
      have := hk st' (n + 1) e' hb' (by rw [hc]; intro h; exact absurd h ho)
      rw [hc] at this; exact this
    refine ⟨fun q dp p kd bo ng dg ex tk td tn tz tx u1 u2 u3 st' => dp = d ∧ p = .box b 0 ∧ kd = s.kind ∧ ng = s.neg ∧ dg = s.dg ∧ ex = s.ex ∧ tk = s.tk ∧ td = s.td ∧ tn = s.tn ∧ tz = s.tz ∧ tx = s.text ∧ ub = u1 ∧ ul = u2 ∧ uf = u3 ∧ q = !decide (OwnOk s l f) ∧ st1 = st', ?_, ?_⟩
    · refine BIf_intro (fun g3 => ?_) fun g3 => BIf_intro (fun g4 => ?_) fun g4 => ?_
      · exact ⟨rfl, rfl, rfl, rfl, rfl, rfl, rfl, rfl, rfl, rfl, rfl, rfl, rfl, rfl, by rw [decide_eq_false fun o => by have := o.k0; omega]; rfl, rfl⟩
      · exact ⟨rfl, rfl, rfl, rfl, rfl, rfl, rfl, rfl, rfl, rfl, rfl, rfl, rfl, rfl, by rw [decide_eq_false fun o => by have := o.k7; omega]; rfl, rfl⟩
      · exact extra_ok (s := s) (l := l) (f := f) h1.isSl h2.isSl h4.isSl h1.lenS h2.lenS h4.lenS ⟨rfl, rfl, rfl, rfl, rfl, rfl, rfl, rfl, rfl, rfl, rfl, rfl, rfl, rfl, exB_eq (by omega) (by omega), rfl⟩
    rintro q _ _ _ bo _ _ _ _ _ _ _ _ _ _ _ _ ⟨rfl, rfl, rfl, rfl, rfl, rfl, rfl, rfl, rfl, rfl, rfl, rfl, rfl, rfl, rfl, rfl⟩
    by_cases ho : OwnOk s l f
    case neg =>
      refine BIf_bool (fun _ => ?_) fun h => by rw [decide_eq_false ho] at h; cases h
      have h6 : oneE s l f = 6 := by unfold oneE; rw [if_neg ho]
      have := err st1 e1 hb1 (by rw [h6]; decide)
      rw [h6] at this; exact this
    refine BIf_bool (fun h => by rw [decide_eq_true ho] at h; cases h) fun _ => ?_
    have hdec : s.kind ≠ 2 → DecOk s.neg s.dg s.ex := fun hk2 => by
      obtain ⟨q1, q2, q3⟩ := ho.nu hk2
      rw [q2]; exact decOk_nil.2 ⟨q1, q3⟩
    refine ⟨fun q dp p kd bo ng dg ex tk td tn tz tx u1 u2 u3 st' => dp = d ∧ p = .box b 0 ∧ kd = s.kind ∧ tx = s.text ∧ ub = u1 ∧ ul = u2 ∧ uf = u3 ∧ q = !(decide (DecOk s.neg s.dg s.ex) && decide (s.kind = 3 → TimeOk s.tk s.td s.tn s.tz)) ∧ st1 = st', ?_, ?_⟩
    · refine BIf_intro (fun g3 => decValid_ok (by omega) ?_) fun g3 => BIf_intro (fun g4 => timeValid_ok ?_) fun g4 => ?_
      · by_cases hq : DecOk s.neg s.dg s.ex
        · refine BIf_bool (fun h => by rw [decide_eq_true hq] at h; cases h) fun _ => BIf_intro (fun g4 => by omega) fun g4 => ?_
          exact ⟨rfl, rfl, rfl, rfl, rfl, rfl, rfl, by rw [decide_eq_true hq, decide_eq_true fun h => absurd h g4]; rfl, rfl⟩
        · refine BIf_bool (fun h => ?_) fun h => by rw [decide_eq_false hq] at h; cases h
          exact ⟨rfl, rfl, rfl, rfl, rfl, rfl, rfl, by rw [decide_eq_false hq]; rfl, rfl⟩
      · exact ⟨rfl, rfl, rfl, rfl, rfl, rfl, rfl, by rw [decide_eq_true (hdec g3), decide_eq_decide.2 (show (s.kind = 3 → TimeOk s.tk s.td s.tn s.tz) ↔ _ from ⟨fun h => h g4, fun h _ => h⟩)]; rfl, rfl⟩
      · exact ⟨rfl, rfl, rfl, rfl, rfl, rfl, rfl, by rw [decide_eq_true (hdec g3), decide_eq_true fun h => absurd h g4]; rfl, rfl⟩
    rintro q _ _ _ bo2 ng2 dg2 ex2 tk2 td2 tn2 tz2 _ _ _ _ _ ⟨rfl, rfl, rfl, rfl, rfl, rfl, rfl, rfl, rfl⟩
    by_cases hq : DecOk s.neg s.dg s.ex
    case neg =>
      refine BIf_bool (fun _ => ?_) fun h => by rw [decide_eq_false hq] at h; cases h
      have h6 : oneE s l f = 2 := by unfold oneE; rw [if_pos ho, if_neg hq]
      have := err st1 e1 hb1 (by rw [h6]; decide)
      rw [h6] at this; exact this
    by_cases hq2 : s.kind = 3 → TimeOk s.tk s.td s.tn s.tz
    case neg =>
      refine BIf_bool (fun _ => ?_) fun h => by rw [decide_eq_true hq, decide_eq_false hq2] at h; cases h
      have h6 : oneE s l f = 2 := by unfold oneE; rw [if_pos ho, if_pos hq, if_neg hq2]
      have := err st1 e1 hb1 (by rw [h6]; decide)
      rw [h6] at this; exact this
    refine BIf_bool (fun h => by rw [decide_eq_true hq, decide_eq_true hq2] at h; cases h) fun _ => ?_
    -- sizes
    have sizes : U8 s.text → ∀ (X : Prop), (oneE s l f = keysE [] f → X) → BIf (decide (65536 < (s.text.length : Int))) (K 10 st1) (need (isSl ub) (BIf (decide (65536 < (lenS ub : Int))) (K 10 st1) X)) := fun hu X hX => by
      have h6 : oneE s l f = if 65536 < s.text.length then 10 else if 65536 < s.bytes.length then 10 else keysE [] f := by unfold oneE; rw [if_pos ho, if_pos hq, if_pos hq2, if_pos hu]
      refine BIf_intro (fun g5 => ?_) fun g5 => need_intro h1.isSl (BIf_intro (fun g6 => ?_) fun g6 => ?_)
      · rw [if_pos (by omega)] at h6
        have := err st1 e1 hb1 (by rw [h6]; decide)
        rw [h6] at this; exact this
      · rw [h1.lenS] at g6
        rw [if_neg (by omega), if_pos (by omega)] at h6
        have := err st1 e1 hb1 (by rw [h6]; decide)
        rw [h6] at this; exact this
      · rw [h1.lenS] at g6
        rw [if_neg (by omega), if_neg (by omega)] at h6
        exact hX h6
    refine BIf_intro (fun g3 => uValid_ok (by omega) (BIf_bool (fun g4 => ?_) fun g4 => ?_)) fun g3 => ?_
    · have hu : ¬ U8 s.text := by unfold U8; simpa using g4
      have h6 : oneE s l f = 5 := by unfold oneE; rw [if_pos ho, if_pos hq, if_pos hq2, if_neg hu]
      have := err st1 e1 hb1 (by rw [h6]; decide)
      rw [h6] at this; exact this
    · exact sizes (by unfold U8; simpa using g4) _ fun h6 => ⟨rfl, rfl, rfl, rfl, hg1, hg2, h6, e1, hb1⟩
    · exact sizes (by rw [ho.tx g3]; exact vlen_zero0) _ fun h6 => ⟨rfl, rfl, rfl, rfl, hg1, hg2, h6, e1, hb1⟩
  · rintro _ _ kd bo ng dg ex tk td tn tz tx u1 _ _ st2 ⟨rfl, rfl, rfl, rfl, hg1, hg2, h6, e2, hb2⟩
    have hke2 := hke.stx e2 hb0
    refine keys_ok hke2 h4 h5 (by omega) fun st3 e3 => ?_
    have e23 := e2.trans (StX.of e3)
    have hb3 : st3.box b = .cells [.int .i64 ((n + 1 : Nat) : Int)] := (e3.box b (by have := e2.nb; omega)).trans hb2
    refine BIf_intro (fun g => ?_) fun g => need_intro h2.isSl ?_
    · have ho : oneE s l f ≠ 0 := by rw [h6]; omega
      have hc := chkV_one hg1 hg2 ho
      have := hk st3 (n + 1) e23 hb3 (by rw [hc]; intro h; exact absurd h ho)
      rw [hc, h6] at this; exact this
    have hone : oneE s l f = 0 := by rw [h6]; omega
    have hC := chkV_eq hg1 hg2 hone
    refine ⟨fun i dp p u m kd bo ng dg ex tk td tn tz tx u1 u2 u3 st' => dp = d ∧ p = .box b 0 ∧ ul = u ∧ m = (l.length : Int) ∧ uf = u3 ∧ ∃ k c : Nat, i = k ∧ k ≤ l.length ∧ c ≤ 65536 ∧ StX (fun i => i = b) st st' ∧ st'.box b = .cells [.int .i64 ((c : Nat) : Int)] ∧ chkVs (d + 1) (n + 1) l = chkVs (d + 1) c (l.drop k),
      fun i _ _ _ _ _ _ _ _ _ _ _ _ _ _ _ _ _ _ => (l.length - i).toNat, ⟨rfl, rfl, rfl, by rw [h2.lenS], rfl, 0, n + 1, rfl, Nat.zero_le _, by omega, e23, hb3, rfl⟩, ?_⟩
    rintro _ _ _ _ _ kd bo ng dg ex tk td tn tz tx u1 u2 _ st4 ⟨rfl, rfl, rfl, rfl, rfl, k, c, rfl, hkl, hc, e4, hb4, hE⟩
    have hke4 := hke.stx e4 hb0
    refine BIf_intro (fun g3 => ?_) fun g3 => ?_
    · refine el13 hke4 h2 h3 rfl (by omega) fun s' l' f' ub1 ul1 uf1 gw hw on => need_intro on ?_
      have hwsz := vsSz_get gw
      rw [drop_get gw, chkVs_cons] at hE
      rw [wrap64 _ (by omega) (by omega)]
      refine ih _ (by omega) (by omega) (d := d + 1) hw hke4 hb0 (by have := e4.nb; omega) hb4 hc (by omega) (by omega) fun st5 m e5 hb5 hm => ?_
      have e45 := e4.trans e5
      refine BIf_intro (fun g4 => ?_) fun g4 => ?_
      · have hne : (chkV (d + 1) c (.mk s' l' f')).2 ≠ 0 := by omega
        rw [thenE_err hne] at hE
        have hc2 : chkV d n (.mk s l f) = chkV (d + 1) c (.mk s' l' f') := by rw [hC, hE, thenE_err hne]
        have := hk st5 m e45 hb5 (by rw [hc2]; intro h; exact absurd h hne)
        rw [hc2] at this; exact this
      · have hz : (chkV (d + 1) c (.mk s' l' f')).2 = 0 := by omega
        rw [thenE_ok hz] at hE
        obtain ⟨hm1, hm2⟩ := hm hz
        rw [wrap64 _ (by omega) (by omega)]
        exact ⟨⟨rfl, rfl, rfl, rfl, rfl, k + 1, m, by omega, by omega, hm2, e45, hb5, by rw [hE, hm1]⟩, by dsimp only; omega⟩
    · have hkk : k = l.length := by omega
      subst hkk
      rw [List.drop_length] at hE
      have hE2 : chkVs (d + 1) (n + 1) l = (c, 0) := by rw [hE, chkVs]
      rw [hE2, thenE_ok rfl] at hC
      refine need_intro h4.isSl ?_
      refine ⟨fun i dp p u m st' => dp = d ∧ p = .box b 0 ∧ uf = u ∧ m = (f.length : Int) ∧ ∃ k c2 : Nat, i = k ∧ k ≤ f.length ∧ c2 ≤ 65536 ∧ StX (fun i => i = b) st st' ∧ st'.box b = .cells [.int .i64 ((c2 : Nat) : Int)] ∧ chkFs (d + 1) c f = chkFs (d + 1) c2 (f.drop k),
        fun i _ _ _ _ _ => (f.length - i).toNat, ⟨rfl, rfl, rfl, by rw [h4.lenS], 0, c, rfl, Nat.zero_le _, hc, e4, hb4, rfl⟩, ?_⟩
      rintro _ _ _ _ _ st5 ⟨rfl, rfl, rfl, rfl, k, c2, rfl, hkf, hc2, e5, hb5, hF⟩
      have hke5 := hke.stx e5 hb0
      refine BIf_intro (fun g4 => ?_) fun g4 => ?_
      · refine el14 hke5 h4 h5 rfl (by omega) fun key s' l' f' ub1 ul1 uf1 gw hw on => need_intro on ?_
        have hwsz := fsSz_get gw
        have hwk : (Fd.mk key (.mk s' l' f')).sz = key.length + (Vl.mk s' l' f').sz := by unfold Fd.sz; rfl
        rw [drop_get gw, chkFs_cons] at hF
        rw [wrap64 _ (by omega) (by omega)]
        refine ih (.mk s' l' f') (by omega) (by omega) (d := d + 1) hw hke5 hb0 (by have := e5.nb; omega) hb5 hc2 (by omega) (by omega) fun st6 m e6 hb6 hm => ?_
        have e56 := e5.trans e6
        refine BIf_intro (fun g5 => ?_) fun g5 => ?_
        · have hne : (chkV (d + 1) c2 (.mk s' l' f')).2 ≠ 0 := by omega
          rw [thenE_err hne] at hF
          have hc3 : chkV d n (.mk s l f) = chkV (d + 1) c2 (.mk s' l' f') := by rw [hC]; exact hF
          have := hk st6 m e56 hb6 (by rw [hc3]; intro h; exact absurd h hne)
          rw [hc3] at this; exact this
        · have hz : (chkV (d + 1) c2 (.mk s' l' f')).2 = 0 := by omega
          rw [thenE_ok hz] at hF
          obtain ⟨hm1, hm2⟩ := hm hz
          rw [wrap64 _ (by omega) (by omega)]
          exact ⟨⟨rfl, rfl, rfl, rfl, k + 1, m, by omega, by omega, hm2, e56, hb6, by rw [hF, hm1]⟩, by dsimp only; omega⟩
      · have hkk : k = f.length := by omega
        subst hkk
        rw [List.drop_length] at hF
        have hF2 : chkV d n (.mk s l f) = (c2, 0) := by rw [hC]; show chkFs (d + 1) c f = _; rw [hF, chkFs]
        have := hk st5 c2 e5 hb5 (by rw [hF2]; exact fun _ => ⟨rfl, hc2⟩)
        rw [hF2] at this; exact this
end Go.TVF
end

section
namespace Go.TVF
open Go Go.Proofs
set_option linter.unusedVariables false
set_option linter.unusedSimpArgs false
theorem Check_ok {v : Vl} (hN : v.sz ≤ 2000000) {st0 st : St} {cs : List TV} {K : Int → St → Prop} (h : VlR st0 v cs) (hke : Keeps st0 st) (hk : ∀ st', StExt st st' → K (checkV v : Nat) st') :
    CallT PR fn_value_Check [.agg cs] [.one (.int .i64)] st K := by
  have h0 := h
  cases v with
  | mk s l f =>
  unfold VlR at h0
  obtain ⟨ub, ul, uf, xl, xf, rfl, _⟩ := h0
  have he : StExt st (st.push (.cells [.int .i64 0]) (some 3)) := (StExt.refl st).push _ _
  refine vc_value_Check _ _ _ _ _ _ _ _ _ _ _ _ _ st K ⟨[.int .i64 0], by simp [St.push], by simp, ?_⟩
  obtain ⟨st1, hst1⟩ : ∃ st1, st1 = (st.push (.cells [.int .i64 0]) (some 3)).put st.nb (.cells (setAll [.int .i64 0] 0 [.int .i64 0])) := ⟨_, rfl⟩
  rw [← hst1]
  have e1 : StExt st st1 := by rw [hst1]; exact StX.ext he (StX.put (S := fun i => i = st.nb) rfl _) (fun i hi => by rw [hi]; exact Nat.le_refl _)
  have hb1 : st1.box st.nb = .cells [.int .i64 ((0 : Nat) : Int)] := by rw [hst1]; simp [St.put, setAll]
  exact check_ok 2000000 _ hN (by omega) (d := 1) h (hke.trans e1.keeps) hke.1 (by rw [hst1]; simp [St.put, St.push]) hb1 (by omega) rfl (by omega) fun st2 m e2 hb2 _ => hk st2 (StX.ext e1 e2 (fun i hi => by rw [hi]; exact Nat.le_refl _))
theorem one_ok {s : Sc} {l : List Vl} {f : List Fd} (hN : (Vl.mk s l f).sz ≤ 2000000) {st0 st : St} {ub ul uf : TV} {K : Int → St → Prop} (h : VlR st0 (.mk s l f) (cellsV s ub ul uf)) (hke : Keeps st0 st) (hk : ∀ st', StExt st st' → K (oneE s l f : Nat) st') :
    CallT PR fn_datakitref07_one [.agg (cellsV s ub ul uf)] [.one (.int .i64)] st K := by
  have hsz : (Vl.mk s l f).sz = 1 + s.bytes.length + s.text.length + s.dg.length + vsSz l + fsSz f := by unfold Vl.sz; rfl
  unfold VlR at h
  obtain ⟨ub', ul', uf', xl, xf, hcs, h1, h2, h3, h4, h5⟩ := h
  simp only [cellsV, List.cons.injEq, and_true, true_and] at hcs
  obtain ⟨rfl, rfl, rfl⟩ := hcs
  refine vc_datakitref07_one _ _ _ _ _ _ _ _ _ _ _ _ _ st K (own_ok h1.isSl h2.isSl h4.isSl h1.lenS h2.lenS h4.lenS ?_)
  have kk : ∀ (c : Nat) (st' : St), oneE s l f = c → StExt st st' → K (c : Int) st' := fun c st' hc e => by rw [← hc]; exact hk st' e
  by_cases ho : OwnOk s l f
  case neg => exact BIf_bool (fun _ => kk 6 st (by unfold oneE; rw [if_neg ho]) (StExt.refl _)) fun h => by rw [decide_eq_false ho] at h; cases h
  refine BIf_bool (fun h => by rw [decide_eq_true ho] at h; cases h) fun _ => rDec_ok (by omega) ?_
  by_cases hq : DecOk s.neg s.dg s.ex
  case neg => exact BIf_bool (fun _ => kk 2 st (by unfold oneE; rw [if_pos ho, if_neg hq]) (StExt.refl _)) fun h => by rw [decide_eq_false hq] at h; cases h
  refine BIf_bool (fun h => by rw [decide_eq_true hq] at h; cases h) fun _ => ?_
  have rest : (s.kind = 3 → TimeOk s.tk s.td s.tn s.tz) → CallT PR fn_datakitref03_Valid [.str s.text] [.one (.bool)] st (fun (b4 : Bool) (st4 : St) => BIf (!b4) (K 5 st4) (BIf (decide (65536 < (s.text.length : Int))) (K 10 st4) (need (isSl ub) (BIf (decide (65536 < (lenS ub : Int))) (K 10 st4) (
      CallT PR fn_datakitref07_Keys [uf] [.one (.int .i64)] st4 fun (n1 : Int) (st5 : St) => K n1 st5))))) := by
    intro hq2
    refine rvalid_ok (by omega) fun st1 e1 => ?_
    by_cases hu : U8 s.text
    case neg => exact BIf_bool (fun _ => kk 5 st1 (by unfold oneE; rw [if_pos ho, if_pos hq, if_pos hq2, if_neg hu]) e1) fun h => absurd (by unfold U8; simpa using h) hu
    have h6 : oneE s l f = if 65536 < s.text.length then 10 else if 65536 < s.bytes.length then 10 else keysE [] f := by unfold oneE; rw [if_pos ho, if_pos hq, if_pos hq2, if_pos hu]
    refine BIf_bool (fun h => absurd hu (by unfold U8; simpa using h)) fun _ => BIf_intro (fun g5 => ?_) fun g5 => need_intro h1.isSl (BIf_intro (fun g6 => ?_) fun g6 => ?_)
    · exact kk 10 st1 (by rw [h6, if_pos (by omega)]) e1
    · rw [h1.lenS] at g6
      exact kk 10 st1 (by rw [h6, if_neg (by omega), if_pos (by omega)]) e1
    · rw [h1.lenS] at g6
      exact Keys_ok (hke.trans e1.keeps) h4 h5 (by omega) fun st2 e2 => kk _ st2 (by rw [h6, if_neg (by omega), if_neg (by omega)]) (e1.trans e2)
  refine BIf_intro (fun g3 => rTime_ok ?_) fun g3 => rest fun h => absurd h g3
  by_cases hq2 : TimeOk s.tk s.td s.tn s.tz
  · exact BIf_bool (fun h => by rw [decide_eq_true hq2] at h; cases h) fun _ => rest fun _ => hq2
  · exact BIf_bool (fun _ => kk 2 st (by unfold oneE; rw [if_pos ho, if_pos hq, if_neg fun h => hq2 (h g3)]) (StExt.refl _)) fun h => by rw [decide_eq_false hq2] at h; cases h
/-- The values directly in a value. -/
def kidsV (s : Sc) (l : List Vl) (f : List Fd) : List Vl := if s.kind = 7 then f.map Fd.val else l
theorem chkFs_map (d : Nat) : ∀ (f : List Fd) (n : Nat), chkFs d n f = chkVs d n (f.map Fd.val)
  | [], n => by simp [chkFs, chkVs]
  | .mk k v :: r, n => by
    rw [chkFs_cons, List.map_cons, chkVs_cons]
    have : (fun m => chkFs d m r) = fun m => chkVs d m (r.map Fd.val) := funext fun m => chkFs_map d r m
    rw [this]; rfl
theorem thenE_id (x : Nat × Nat) : thenE x (fun m => (m, 0)) = x := by
  unfold thenE; split
  · rename_i h; exact Prod.ext rfl h.symm
  · rfl
theorem chkV_kids {d n : Nat} {s : Sc} {l : List Vl} {f : List Fd} (ho : OwnOk s l f) : (thenE (chkVs (d + 1) (n + 1) l) fun m => chkFs (d + 1) m f) = chkVs (d + 1) (n + 1) (kidsV s l f) := by
  unfold kidsV
  by_cases h7 : s.kind = 7
  · rw [if_pos h7, ho.ls (by omega), chkVs, thenE_ok rfl, chkFs_map]
  · rw [if_neg h7, ho.fs h7]
    simp only [chkFs]
    exact thenE_id _
mutual
theorem chkV_le : ∀ (v : Vl) (d n : Nat), n ≤ 65536 → (chkV d n v).2 = 0 → (chkV d n v).1 ≤ 65536
  | .mk s l f, d, n, hn, h => by
    unfold chkV at h ⊢
    split at h
    · cases h
    · rename_i g1
      rw [if_neg g1]
      split at h
      · cases h
      · rename_i g2
        rw [if_neg g2]
        split at h
        · rename_i h1; exact absurd h h1
        · rename_i g3
          rw [if_neg g3]
          obtain ⟨h2, h3⟩ := thenE_zero h
          rw [thenE_ok h2]
          exact chkFs_le f _ _ (chkVs_le l _ _ (by omega) h2) h3
theorem chkVs_le : ∀ (l : List Vl) (d n : Nat), n ≤ 65536 → (chkVs d n l).2 = 0 → (chkVs d n l).1 ≤ 65536
  | [], d, n, hn, _ => by unfold chkVs; exact hn
  | v :: r, d, n, hn, h => by
    unfold chkVs at h ⊢
    obtain ⟨h2, h3⟩ := thenE_zero h
    rw [thenE_ok h2]
    exact chkVs_le r _ _ (chkV_le v _ _ hn h2) h3
theorem chkD_le : ∀ (x : Fd) (d n : Nat), n ≤ 65536 → (chkD d n x).2 = 0 → (chkD d n x).1 ≤ 65536
  | .mk k v, d, n, hn, h => by unfold chkD at h ⊢; exact chkV_le v _ _ hn h
theorem chkFs_le : ∀ (l : List Fd) (d n : Nat), n ≤ 65536 → (chkFs d n l).2 = 0 → (chkFs d n l).1 ≤ 65536
  | [], d, n, hn, _ => by unfold chkFs; exact hn
  | x :: r, d, n, hn, h => by
    unfold chkFs at h ⊢
    obtain ⟨h2, h3⟩ := thenE_zero h
    rw [thenE_ok h2]
    exact chkFs_le r _ _ (chkD_le x _ _ hn h2) h3
end
theorem VsR.snoc {st : St} {v : Vl} {cv : List TV} : ∀ {l : List Vl} {xs : List TV}, VsR st l xs → VlR st v cv → VsR st (l ++ [v]) (xs ++ cv)
  | [], xs, h, hv => by
    unfold VsR at h
    subst h
    show VsR st [v] _
    unfold VsR
    exact ⟨cv, [], by simp, hv, by unfold VsR; rfl⟩
  | w :: r, xs, h, hv => by
    unfold VsR at h
    obtain ⟨a, b, rfl, h1, h2⟩ := h
    show VsR st (w :: (r ++ [v])) _
    unfold VsR
    exact ⟨a, b ++ cv, by simp, h1, VsR.snoc h2 hv⟩
theorem kids_ok {s : Sc} {l : List Vl} {f : List Fd} (hN : (Vl.mk s l f).sz ≤ 2000000) {st0 st : St} {ub ul uf : TV} {K : TV → St → Prop} (h : VlR st0 (.mk s l f) (cellsV s ub ul uf)) (hke : Keeps st0 st)
    (hk : ∀ u xl st', StExt st st' → SlR st' 13 u (kidsV s l f).length xl → VsR st' (kidsV s l f) xl → K u st') : CallT PR fn_datakitref07_Kids [.agg (cellsV s ub ul uf)] [.one .tv] st K := by
  have hsz : (Vl.mk s l f).sz = 1 + s.bytes.length + s.text.length + s.dg.length + vsSz l + fsSz f := by unfold Vl.sz; rfl
  have hfl := fsSz_len f
  unfold VlR at h
  obtain ⟨ub', ul', uf', xl, xf, hcs, h1, h2, h3, h4, h5⟩ := h
  simp only [cellsV, List.cons.injEq, and_true, true_and] at hcs
  obtain ⟨rfl, rfl, rfl⟩ := hcs
  refine vc_datakitref07_Kids _ _ _ _ _ _ _ _ _ _ _ _ _ st K (BIf_intro (fun g => ?_) fun g => ?_)
  · have e : kidsV s l f = l := by unfold kidsV; rw [if_neg g]
    rw [e] at hk
    exact hk ul xl st (StExt.refl _) (h2.keep hke) (VsR.keep hke h3)
  · have e : kidsV s l f = f.map Fd.val := by unfold kidsV; rw [if_pos (by omega)]
    rw [e, List.length_map] at hk
    refine ⟨fun o i kd bo ng dg ex tk td tn tz tx u1 u2 u3 st' => uf = u3 ∧ ∃ (k : Nat) (xs : List TV), i = k ∧ k ≤ f.length ∧ StExt st st' ∧ Own st.nt 13 st' o k xs ∧ VsR st ((f.take k).map Fd.val) xs, fun _ i _ _ _ _ _ _ _ _ _ _ _ _ _ _ => (f.length - i).toNat,
      ⟨rfl, 0, [], rfl, Nat.zero_le _, StExt.refl _, Own.nil _ _ _, by simp only [List.take_zero, List.map_nil]; unfold VsR; rfl⟩, ?_⟩
    rintro o _ kd bo ng dg ex tk td tn tz tx u1 u2 _ st1 ⟨rfl, k, xs, rfl, hkf, e1, ho, hv⟩
    refine need_intro h4.isSl (BIf_intro (fun g2 => ?_) fun g2 => ?_)
    · rw [h4.lenS] at g2
      refine val14 (hke.trans e1.keeps) h4 h5 rfl (by omega) fun key s' l' f' ub1 ul1 uf1 gw hw on => need_intro on ?_
      refine appK_own e1 rfl ho (by omega) (fun h => by cases h) fun v2 st2 e2 _ ho2 => ?_
      rw [wrap64 _ (by omega) (by omega)]
      refine ⟨⟨rfl, k + 1, _, by omega, by omega, e2, ho2, ?_⟩, by dsimp only; omega⟩
      rw [take_snoc gw, List.map_append]
      exact VsR.snoc hv (VlR.keep hke hw)
    · rw [h4.lenS] at g2
      have hkk : k = f.length := by omega
      subst hkk
      rw [List.take_length] at hv
      exact hk o xs st1 e1 (.of_rd ho.rd) (VsR.keep e1.keeps hv)
theorem kids_sz {s : Sc} {l : List Vl} {f : List Fd} {k : Nat} {w : Vl} (h : (kidsV s l f)[k]? = some w) : w.sz + 1 ≤ (Vl.mk s l f).sz := by
  have hsz : (Vl.mk s l f).sz = 1 + s.bytes.length + s.text.length + s.dg.length + vsSz l + fsSz f := by unfold Vl.sz; rfl
  unfold kidsV at h
  split at h
  · rw [List.getElem?_map] at h
    obtain ⟨d, hd, rfl⟩ := Option.map_eq_some_iff.1 h
    have := fsSz_get hd
    cases d; unfold Fd.sz at this; simp only [Fd.val]; omega
  · have := vsSz_get h; omega
theorem kids_len {s : Sc} {l : List Vl} {f : List Fd} : (kidsV s l f).length ≤ (Vl.mk s l f).sz := by
  have hsz : (Vl.mk s l f).sz = 1 + s.bytes.length + s.text.length + s.dg.length + vsSz l + fsSz f := by unfold Vl.sz; rfl
  have := vsSz_len l
  have := fsSz_len f
  unfold kidsV; split
  · rw [List.length_map]; omega
  · omega
theorem look_ok : ∀ (N : Nat) (v : Vl), v.sz ≤ N → N ≤ 2000000 → ∀ {st0 st : St} {cs : List TV} {d n : Nat} {D : Int} {K : Int → Int → St → Prop}, VlR st0 v cs → Keeps st0 st → n ≤ 65536 → D = (d : Int) → d ≤ 100 →
    (∀ st', StExt st st' → K ((chkV d n v).1 : Nat) ((chkV d n v).2 : Nat) st') → CallT PR fn_datakitref07_look [.agg cs, .int .i64 D, .int .i64 (n : Nat)] [.one (.int .i64), .one (.int .i64)] st K := by
  intro N
  induction N with
  | zero => intro v h; have := v.sz_pos; omega
  | succ N ih =>
  intro v hN hN2 st0 st cs d n D K h hke hn hD hd hk
  subst hD
  cases v with
  | mk s l f =>
  have hcs : ∃ ub ul uf, cs = cellsV s ub ul uf := by
    have h0 := h
    unfold VlR at h0
    obtain ⟨ub, ul, uf, xl, xf, rfl, _⟩ := h0
    exact ⟨ub, ul, uf, rfl⟩
  obtain ⟨ub, ul, uf, rfl⟩ := hcs
  have kk : ∀ (x : Nat × Nat) (st' : St), chkV d n (.mk s l f) = x → StExt st st' → K (x.1 : Nat) (x.2 : Nat) st' := fun x st' hx e => by rw [← hx]; exact hk st' e
  refine vc_datakitref07_look _ _ _ _ _ _ _ _ _ _ _ _ _ (d : Int) (n : Int) st K (BIf_intro (fun g => ?_) fun g => BIf_intro (fun g2 => ?_) fun g2 => ?_)
  · exact kk (n, 9) st (by unfold chkV; rw [if_pos (by omega)]) (StExt.refl _)
  · exact kk (n, 10) st (by unfold chkV; rw [if_neg (by omega), if_pos (by omega)]) (StExt.refl _)
  have hg1 : ¬ 48 < d := by omega
  have hg2 : ¬ 65536 ≤ n := by omega
  refine one_ok (l := l) (f := f) (by omega) h hke fun st1 e1 => BIf_intro (fun g3 => ?_) fun g3 => ?_
  · exact kk (n, oneE s l f) st1 (chkV_one hg1 hg2 (by omega)) e1
  have hone : oneE s l f = 0 := by omega
  have ho : OwnOk s l f := (oneE_zero.1 hone).own
  have hC : chkV d n (.mk s l f) = chkVs (d + 1) (n + 1) (kidsV s l f) := by rw [chkV_eq hg1 hg2 hone, chkV_kids ho]
  refine kids_ok (l := l) (f := f) (by omega) h (hke.trans e1.keeps) fun u xl st2 e2 hu hv => ?_
  have e12 := e1.trans e2
  have hlen := kids_len (s := s) (l := l) (f := f)
  rw [wrap64 ((n : Int) + 1) (by omega) (by omega)]
  refine ⟨fun c i dp u' st' => u = u' ∧ dp = (d : Int) ∧ ∃ k m : Nat, i = k ∧ k ≤ (kidsV s l f).length ∧ c = (m : Int) ∧ m ≤ 65536 ∧ StExt st2 st' ∧ chkVs (d + 1) (n + 1) (kidsV s l f) = chkVs (d + 1) m ((kidsV s l f).drop k), fun _ i _ _ _ => ((kidsV s l f).length - i).toNat,
    ⟨rfl, rfl, 0, n + 1, rfl, Nat.zero_le _, by omega, by omega, StExt.refl _, rfl⟩, ?_⟩
  rintro _ _ _ _ st3 ⟨rfl, rfl, k, m, rfl, hkl, rfl, hm, e3, hE⟩
  refine need_intro hu.isSl (BIf_intro (fun g4 => ?_) fun g4 => ?_)
  · rw [hu.lenS] at g4
    refine el13 e3.keeps hu hv rfl (by omega) fun s' l' f' ub1 ul1 uf1 gw hw on => ?_
    have hwsz := kids_sz gw
    rw [drop_get gw, chkVs_cons] at hE
    rw [wrap64 _ (by omega) (by omega)]
    refine ih _ (by omega) (by omega) (d := d + 1) hw e3.keeps hm (by omega) (by omega) fun st4 e4 => ?_
    refine BIf_intro (fun g5 => ?_) fun g5 => ?_
    · have hne : (chkV (d + 1) m (.mk s' l' f')).2 ≠ 0 := by omega
      rw [thenE_err hne] at hE
      exact kk _ st4 (by rw [hC, hE]) (e12.trans (e3.trans e4))
    · have hz : (chkV (d + 1) m (.mk s' l' f')).2 = 0 := by omega
      rw [thenE_ok hz] at hE
      rw [wrap64 _ (by omega) (by omega)]
      exact ⟨⟨rfl, rfl, k + 1, _, by omega, by omega, rfl, chkV_le _ _ _ hm hz, e3.trans e4, hE⟩, by dsimp only; omega⟩
  · rw [hu.lenS] at g4
    have hkk : k = (kidsV s l f).length := by omega
    subst hkk
    rw [List.drop_length, chkVs] at hE
    exact kk (m, 0) st3 (by rw [hC, hE]) (e12.trans e3)
theorem rCheck_ok {v : Vl} (hN : v.sz ≤ 2000000) {st0 st : St} {cs : List TV} {K : Int → St → Prop} (h : VlR st0 v cs) (hke : Keeps st0 st) (hk : ∀ st', StExt st st' → K (checkV v : Nat) st') :
    CallT PR fn_datakitref07_Check [.agg cs] [.one (.int .i64)] st K := by
  have h0 := h
  cases v with
  | mk s l f =>
  unfold VlR at h0
  obtain ⟨ub, ul, uf, xl, xf, rfl, _⟩ := h0
  exact vc_datakitref07_Check _ _ _ _ _ _ _ _ _ _ _ _ _ st K (look_ok 2000000 _ hN (by omega) (d := 1) (n := 0) h hke (by omega) rfl (by omega) hk)
end Go.TVF
end

section
namespace Go.TVF
open Go Go.Proofs
set_option linter.unusedVariables false
set_option linter.unusedSimpArgs false
theorem VlR.cells {st : St} {s : Sc} {l : List Vl} {f : List Fd} {cs : List TV} (h : VlR st (.mk s l f) cs) : ∃ ub ul uf xl xf, cs = cellsV s ub ul uf ∧ SlR st 1 ub s.bytes.length (bytesT s.bytes) ∧ SlR st 13 ul l.length xl ∧ VsR st l xl ∧ SlR st 14 uf f.length xf ∧ FsR st f xf := by
  unfold VlR at h
  obtain ⟨ub, ul, uf, xl, xf, rfl, h⟩ := h
  exact ⟨ub, ul, uf, xl, xf, rfl, h⟩
theorem szs (s : Sc) (l : List Vl) (f : List Fd) : (Vl.mk s l f).sz = 1 + s.bytes.length + s.text.length + s.dg.length + vsSz l + fsSz f := by unfold Vl.sz; rfl
theorem szd (k : List UInt8) (v : Vl) : (Fd.mk k v).sz = k.length + v.sz := by unfold Fd.sz; rfl
theorem room_ok : ∀ (N : Nat) (v : Vl), v.sz ≤ N → N ≤ 2000000 → ∀ {st0 st : St} {cs : List TV} {L D : Int} {K : Int → St → Prop}, VlR st0 v cs → Keeps st0 st → (∀ r, K r st) → CallT PR fn_datakitref07_room [.agg cs, .int .i64 L, .int .i64 D] [.one (.int .i64)] st K := by
  intro N
  induction N with
  | zero => intro v h; have := v.sz_pos; omega
  | succ N ih =>
  intro v hN hN2 st0 st cs L D K h hke hk
  cases v with
  | mk s l f =>
  have hsz := szs s l f
  have hll := vsSz_len l
  have hfl := fsSz_len f
  obtain ⟨ub, ul, uf, xl, xf, rfl, h1, h2, h3, h4, h5⟩ := h.cells
  have fields : ∀ (X : Int) (I1 : Int → Int → Int → Int → Bool → Bool → List UInt8 → Int → Int → Int → Int → Int → List UInt8 → TV → TV → TV → St → Prop), True := fun _ _ => trivial
  refine vc_datakitref07_room _ _ _ _ _ _ _ _ _ _ _ _ _ L D st K (BIf_intro (fun _ => hk _) fun _ => need_intro h2.isSl (BIf_intro (fun _ => hk _) fun _ => need_intro h4.isSl (BIf_intro (fun _ => hk _) fun _ => ?_)))
  refine ⟨fun le i dp kd bo ng dg ex tk td tn tz tx u1 u2 u3 st' => ul = u2 ∧ uf = u3 ∧ st = st' ∧ ∃ k : Nat, i = k ∧ k ≤ l.length, fun _ i _ _ _ _ _ _ _ _ _ _ _ _ _ _ _ => (l.length - i).toNat, ⟨rfl, rfl, rfl, 0, rfl, Nat.zero_le _⟩, ?_⟩
  rintro le _ dp kd bo ng dg ex tk td tn tz tx u1 _ _ _ ⟨rfl, rfl, rfl, k, rfl, hkl⟩
  refine need_intro h2.isSl (BIf_intro (fun g => BIf_intro (fun _ => ?_) fun _ => ?_) fun _ => ?_)
  · rw [h2.lenS] at g
    refine el13 hke h2 h3 rfl (by omega) fun s' l' f' ub1 ul1 uf1 gw hw on => ?_
    have hwsz := vsSz_get gw
    rw [wrap64 ((k : Int) + 1) (by omega) (by omega)]
    exact ih _ (by omega) (by omega) hw hke fun r => ⟨⟨rfl, rfl, rfl, k + 1, by omega, by omega⟩, by dsimp only; omega⟩
  all_goals
    refine ⟨fun le i dp kd bo ng dg ex tk td tn tz tx u1 u2 u3 st' => uf = u3 ∧ st = st' ∧ ∃ k : Nat, i = k ∧ k ≤ f.length, fun _ i _ _ _ _ _ _ _ _ _ _ _ _ _ _ _ => (f.length - i).toNat, ⟨rfl, rfl, 0, rfl, Nat.zero_le _⟩, ?_⟩
    rintro le _ dp kd bo ng dg ex tk td tn tz tx u1 u2 _ _ ⟨rfl, rfl, k, rfl, hkl⟩
    refine need_intro h4.isSl (BIf_intro (fun g => BIf_intro (fun _ => ?_) fun _ => hk _) fun _ => hk _)
    rw [h4.lenS] at g
    refine val14 hke h4 h5 rfl (by omega) fun key s' l' f' ub1 ul1 uf1 gw hw on => ?_
    have hwsz := fsSz_get gw
    have hwk := szd key (.mk s' l' f')
    rw [wrap64 ((k : Int) + 1) (by omega) (by omega)]
    exact ih (.mk s' l' f') (by omega) (by omega) hw hke fun r => ⟨⟨rfl, rfl, k + 1, by omega, by omega⟩, by dsimp only; omega⟩
theorem Small_ok {v : Vl} (hN : v.sz ≤ 2000000) {st0 st : St} {cs : List TV} {L D : Int} {K : Bool → St → Prop} (h : VlR st0 v cs) (hke : Keeps st0 st) (hk : ∀ b, K b st) : CallT PR fn_datakitref07_Small [.agg cs, .int .i64 L, .int .i64 D] [.one .bool] st K := by
  cases v with
  | mk s l f =>
  have h0 := h
  obtain ⟨ub, ul, uf, xl, xf, rfl, _⟩ := h.cells
  exact vc_datakitref07_Small _ _ _ _ _ _ _ _ _ _ _ _ _ L D st K (room_ok 2000000 _ hN (by omega) h0 hke fun r => hk _)
end Go.TVF
end

section
namespace Go.TVF
open Go Go.Proofs
set_option linter.unusedVariables false
set_option linter.unusedSimpArgs false
mutual
theorem chkV_cnt : ∀ (v : Vl) (d n : Nat), (chkV d n v).2 = 0 → (chkV d n v).1 = n + v.cnt
  | .mk s l f, d, n, h => by
    unfold chkV at h ⊢
    unfold Vl.cnt
    split at h
    · cases h
    · rename_i g1
      rw [if_neg g1]
      split at h
      · cases h
      · rename_i g2
        rw [if_neg g2]
        split at h
        · rename_i h1; exact absurd h h1
        · rename_i g3
          rw [if_neg g3]
          obtain ⟨h2, h3⟩ := thenE_zero h
          rw [thenE_ok h2, chkFs_cnt f _ _ h3, chkVs_cnt l _ _ h2]; omega
theorem chkVs_cnt : ∀ (l : List Vl) (d n : Nat), (chkVs d n l).2 = 0 → (chkVs d n l).1 = n + vsCnt l
  | [], d, n, _ => by unfold chkVs vsCnt; rfl
  | v :: r, d, n, h => by
    unfold chkVs at h ⊢
    unfold vsCnt
    obtain ⟨h2, h3⟩ := thenE_zero h
    rw [thenE_ok h2, chkVs_cnt r _ _ h3, chkV_cnt v _ _ h2]; omega
theorem chkD_cnt : ∀ (x : Fd) (d n : Nat), (chkD d n x).2 = 0 → (chkD d n x).1 = n + x.cnt
  | .mk k v, d, n, h => by unfold chkD at h ⊢; unfold Fd.cnt; exact chkV_cnt v _ _ h
theorem chkFs_cnt : ∀ (l : List Fd) (d n : Nat), (chkFs d n l).2 = 0 → (chkFs d n l).1 = n + fsCnt l
  | [], d, n, _ => by unfold chkFs fsCnt; rfl
  | x :: r, d, n, h => by
    unfold chkFs at h ⊢
    unfold fsCnt
    obtain ⟨h2, h3⟩ := thenE_zero h
    rw [thenE_ok h2, chkFs_cnt r _ _ h3, chkD_cnt x _ _ h2]; omega
end
theorem check_cnt {v : Vl} (h : checkV v = 0) : v.cnt ≤ 65536 := by
  have h1 := chkV_cnt v 1 0 h
  have h2 := chkV_le v 1 0 (by omega) h
  omega
theorem check_valid {v : Vl} (h : checkV v = 0) : Valid v := chkV_ok v 1 0 h
theorem FsOk_iff : ∀ {f : List Fd}, FsOk f ↔ ∀ d, d ∈ f → FdOk d
  | [] => by unfold FsOk; simp
  | x :: r => by unfold FsOk; rw [FsOk_iff]; simp
theorem fsSz_perm {f g : List Fd} (p : f.Perm g) : fsSz f = fsSz g := by
  induction p with
  | nil => rfl
  | cons x _ ih => unfold fsSz; rw [ih]
  | swap x y l => unfold fsSz; simp only [fsSz]; omega
  | trans _ _ h1 h2 => rw [h1, h2]
mutual
theorem sortV_ok : ∀ {v : Vl}, VOk v → VOk (sortV v)
  | .mk s l f, h => by
    unfold VOk at h
    unfold sortV VOk
    obtain ⟨h1, h2, h3⟩ := h
    refine ⟨h1, sortVs_ok h2, FsOk_iff.2 fun d hd => ?_⟩
    exact FsOk_iff.1 (sortFs_ok h3) d ((sortFd_perm _).mem_iff.1 hd)
theorem sortVs_ok : ∀ {l : List Vl}, VsOk l → VsOk (sortVs l)
  | [], h => by unfold sortVs VsOk; trivial
  | v :: r, h => by
    unfold VsOk at h
    unfold sortVs VsOk
    exact ⟨sortV_ok h.1, sortVs_ok h.2⟩
theorem sortD_ok : ∀ {d : Fd}, FdOk d → FdOk (sortD d)
  | .mk k v, h => by unfold FdOk at h; unfold sortD FdOk; exact sortV_ok h
theorem sortFs_ok : ∀ {f : List Fd}, FsOk f → FsOk (sortFs f)
  | [], h => by unfold sortFs FsOk; trivial
  | d :: r, h => by
    unfold FsOk at h
    unfold sortFs FsOk
    exact ⟨sortD_ok h.1, sortFs_ok h.2⟩
end
mutual
theorem sortV_sz : ∀ v : Vl, (sortV v).sz = v.sz
  | .mk s l f => by
    unfold sortV
    rw [szs, szs, sortVs_sz l, fsSz_perm (sortFd_perm _), sortFs_sz f]
theorem sortVs_sz : ∀ l : List Vl, vsSz (sortVs l) = vsSz l
  | [] => by unfold sortVs; rfl
  | v :: r => by unfold sortVs vsSz; rw [sortV_sz v, sortVs_sz r]
theorem sortD_sz : ∀ d : Fd, (sortD d).sz = d.sz
  | .mk k v => by unfold sortD; rw [szd, szd, sortV_sz v]
theorem sortFs_sz : ∀ f : List Fd, fsSz (sortFs f) = fsSz f
  | [] => by unfold sortFs; rfl
  | d :: r => by unfold sortFs fsSz; rw [sortD_sz d, sortFs_sz r]
end
theorem strB_len {s : List UInt8} (h : s.length ≤ 2000000) : (strB s).length ≤ 9 + s.length := by
  have := natB_len9 (n := s.length) (by omega)
  unfold strB; rw [List.length_append]; omega
mutual
theorem bytesV_sz : ∀ {v : Vl}, VOk v → v.sz ≤ 2000000 → (bytesV v).length + 9 ≤ 40 * v.sz
  | .mk s l f, h, hs => by
    unfold VOk at h
    obtain ⟨h1, h2, h3⟩ := h
    have hsz := szs s l f
    have hv := bytesVs_sz h2 (by omega)
    have hf := bytesFs_sz h3 (by omega)
    have hll := vsSz_len l
    have hfl := fsSz_len f
    rw [hsz] at hs ⊢
    unfold bytesV
    simp only [List.length_cons]
    split
    · simp; omega
    split
    · unfold numB
      split
      · simp; omega
      · have := zig_le (n := s.ex) (by have := h1.e1; omega) (by have := h1.e2; omega)
        have := natB_len9 (n := zig s.ex) (by omega)
        have := strB_len (s := s.dg) (by omega)
        simp only [List.length_cons, List.length_append]; omega
    split
    · have := natB_len9 (n := s.td.toNat) (by have := h1.d1; omega)
      have := natB_len9 (n := s.tn.toNat) (by have := h1.n1; omega)
      have := zig_le (n := s.tz) (by have := h1.z0; omega) (by have := h1.z1; omega)
      have := natB_len9 (n := zig s.tz) (by omega)
      simp only [List.length_cons, List.length_append]; omega
    split
    · have := strB_len (s := s.text) (by omega)
      omega
    split
    · have := strB_len (s := s.bytes) (by omega)
      omega
    split
    · have := natB_len9 (n := l.length) (by omega)
      rw [List.length_append]; omega
    split
    · have := natB_len9 (n := f.length) (by omega)
      rw [List.length_append]; omega
    · simp; omega
theorem bytesVs_sz : ∀ {l : List Vl}, VsOk l → vsSz l ≤ 2000000 → (bytesVs l).length ≤ 40 * vsSz l
  | [], _, _ => by unfold bytesVs; simp
  | v :: r, h, hs => by
    unfold VsOk at h
    unfold vsSz at hs ⊢
    unfold bytesVs
    have := bytesV_sz h.1 (by omega)
    have := bytesVs_sz h.2 (by omega)
    rw [List.length_append]; omega
theorem bytesD_sz : ∀ {d : Fd}, FdOk d → d.sz ≤ 2000000 → (bytesD d).length ≤ 40 * d.sz
  | .mk k v, h, hs => by
    unfold FdOk at h
    rw [szd] at hs ⊢
    unfold bytesD
    have := bytesV_sz h (by omega)
    have := strB_len (s := k) (by omega)
    rw [List.length_append]; omega
theorem bytesFs_sz : ∀ {f : List Fd}, FsOk f → fsSz f ≤ 2000000 → (bytesFs f).length ≤ 40 * fsSz f
  | [], _, _ => by unfold bytesFs; simp
  | d :: r, h, hs => by
    unfold FsOk at h
    unfold fsSz at hs ⊢
    unfold bytesFs
    have := bytesD_sz h.1 (by omega)
    have := bytesFs_sz h.2 (by omega)
    rw [List.length_append]; omega
end
theorem encode_len {v : Vl} (h : checkV v = 0) (hN : v.sz ≤ 2000000) : (bytesV (sortV v)).length ≤ 80000000 := by
  have := bytesV_sz (sortV_ok (check_valid h).ok.1) (by rw [sortV_sz]; exact hN)
  rw [sortV_sz] at this; omega
/-- What Encode gives. -/
noncomputable def encV (v : Vl) : List UInt8 := if checkV v = 0 then bytesV (sortV v) else []
theorem Encode_ok {v : Vl} (hN : v.sz ≤ 2000000) {st0 st : St} {cs : List TV} {K : TV → Int → St → Prop} (h : VlR st0 v cs) (hke : Keeps st0 st) (hk : ∀ u st', StExt st st' → RdB u (encV v) → K u (checkV v : Nat) st') :
    CallT PR fn_canon_Encode [.agg cs] [.one .tv, .one (.int .i64)] st K := by
  cases v with
  | mk s l f =>
  have h0 := h
  obtain ⟨ub, ul, uf, xl, xf, rfl, _⟩ := h.cells
  refine vc_canon_Encode _ _ _ _ _ _ _ _ _ _ _ _ _ st K (Check_ok hN h0 hke fun st1 e1 => BIf_intro (fun g => ?_) fun g => ?_)
  · exact hk _ st1 e1 (by unfold encV; rw [if_neg (by omega)]; exact .inl ⟨rfl, rfl, rfl⟩)
  · have hc : checkV (.mk s l f) = 0 := by omega
    have hv := (check_valid hc).ok
    have hlen := encode_len hc hN
    refine Sorted_ok hN (check_cnt hc) hv.2 (VlR.keep (hke.trans e1.keeps) h0) fun ub1 ul1 uf1 st2 hs o1 o2 o3 e2 => ?_
    refine put_ok 2000000 _ (by rw [sortV_sz]; exact hN) (by omega) (sortV_ok hv.1) hs (StExt.refl st2) (OwnB.nil _ _) (by simp only [List.length_nil]; omega) fun u st3 e3 ho => ?_
    have := hk u st3 ((e1.trans e2).trans e3) (by unfold encV; rw [if_pos hc]; exact ho.rd)
    rw [hc] at this; exact this
theorem RdB.len {u : TV} {l : List UInt8} (h : RdB u l) : lenS u = l.length := Rd.lenS h
end Go.TVF
end

section
namespace Go.TVF
open Go Go.Proofs
set_option linter.unusedVariables false
set_option linter.unusedSimpArgs false
/-- Reads from bytes at a place: a value and the place behind it, or an error. -/
abbrev Ps (α : Type) := List UInt8 → Nat → Except Nat (α × Nat)
def Ps.ok {α : Type} (x : α) : Ps α := fun _ a => .ok (x, a)
def Ps.bad {α : Type} (e : Nat) : Ps α := fun _ _ => .error e
def Ps.bnd {α β : Type} (f : Ps α) (g : α → Ps β) : Ps β := fun B a => match f B a with
  | .error e => .error e
  | .ok (x, b) => g x B b
def oneP : Ps Nat := fun B a => match B[a]? with
  | none => .error 4
  | some c => .ok (c.toNat, a + 1)
def mostP (lim : Nat) : Ps Nat := oneP.bnd fun x => if lim < x then .bad 3 else .ok x
def natP : Nat → Nat → Nat → Ps Nat
  | 0, _, _ => .bad 3
  | k + 1, i, n => oneP.bnd fun x => if x < 128 then (if x = 0 ∧ 0 < i then .bad 3 else .ok (n + x * 128 ^ i)) else natP k (i + 1) (n + (x - 128) * 128 ^ i)
def natF : Ps Nat := natP 9 0 0
def takeP (n : Nat) : Ps (List UInt8) := fun B a => if B.length - a < n then .error 4 else .ok ((B.drop a).take n, a + n)
def strP : Ps (List UInt8) := natF.bnd takeP
def zagI (n : Nat) : Int := if n % 2 = 1 then -(n / 2 : Nat) - 1 else (n / 2 : Nat)
def intP : Ps Int := natF.bnd fun n => .ok (zagI n)
def numP : Ps (Bool × List UInt8 × Int) := (mostP 2).bnd fun s => if s = 0 then .ok (false, [], 0) else intP.bnd fun x => strP.bnd fun dg => .ok (decide (s = 2), dg, x)
def repP {α : Type} (f : Ps α) : Nat → Ps (List α)
  | 0 => .ok []
  | n + 1 => f.bnd fun x => (repP f n).bnd fun l => .ok (x :: l)
def scK (k : Nat) : Sc := ⟨(k : Nat), false, false, [], 0, 0, 0, 0, 0, [], []⟩
/-- A value, so many levels being allowed. -/
def rdV : Nat → Ps Vl
  | 0 => .bad 9
  | d + 1 => (mostP 7).bnd fun k =>
    if k = 1 then (mostP 1).bnd fun b => .ok (.mk { scK 1 with b := decide (b = 1) } [] [])
    else if k = 2 then numP.bnd fun x => .ok (.mk { scK 2 with neg := x.1, dg := x.2.1, ex := x.2.2 } [] [])
    else if k = 3 then oneP.bnd fun a => natF.bnd fun b => natF.bnd fun c => intP.bnd fun z => .ok (.mk { scK 3 with tk := a, td := b, tn := c, tz := z } [] [])
    else if k = 4 then strP.bnd fun s => .ok (.mk { scK 4 with text := s } [] [])
    else if k = 5 then strP.bnd fun s => .ok (.mk { scK 5 with bytes := s } [] [])
    else if k = 6 then natF.bnd fun n => (repP (rdV d) n).bnd fun l => .ok (.mk (scK 6) l [])
    else if k = 7 then natF.bnd fun n => (repP (strP.bnd fun key => (rdV d).bnd fun v => .ok (Fd.mk key v)) n).bnd fun f => .ok (.mk (scK 7) [] f)
    else .ok (.mk (scK k) [] [])
/-- The reader is at a place, or has met an error. -/
def RS (r : Nat) (u : TV) (B : List UInt8) (st : St) : Except Nat Nat → Prop
  | .ok a => r < st.nb ∧ a ≤ B.length ∧ st.box r = .cells [u, .int .i64 (a : Nat), .int .i64 0]
  | .error e => r < st.nb ∧ e ≠ 0 ∧ e < 100 ∧ ∃ a : Nat, st.box r = .cells [u, .int .i64 (a : Nat), .int .i64 (e : Nat)]
/-- What reading comes to. -/
def After {α : Type} (S : Except Nat Nat) (f : Nat → Except Nat (α × Nat)) (Q : α → Prop) (T : Except Nat Nat) : Prop := match S with
  | .error e => T = .error e
  | .ok a => match f a with
    | .error e => T = .error e
    | .ok (y, b) => Q y ∧ T = .ok b
theorem RS.lt {r : Nat} {u : TV} {B : List UInt8} {st : St} {S : Except Nat Nat} (h : RS r u B st S) : r < st.nb := by cases S <;> exact h.1
/-- Bytes and places are not too many. -/
structure InB (u : TV) (B : List UInt8) : Prop where
  rd : RdB u B
  len : B.length ≤ 1000000000
/-- The error of a state, 0 if none. -/
def errS : Except Nat Nat → Nat
  | .ok _ => 0
  | .error e => e
theorem RS.err {r : Nat} {u : TV} {B : List UInt8} {st : St} {S : Except Nat Nat} (h : RS r u B st S) : ldCell st [] (.t (.box r 2)) 0 = some (.int .i64 (errS S : Nat)) := by
  cases S with
  | ok a => simp [ldCell, h.2.2, errS]
  | error e => obtain ⟨_, _, _, a, hb⟩ := h; simp [ldCell, hb, errS]
theorem RS.src {r : Nat} {u : TV} {B : List UInt8} {st : St} {S : Except Nat Nat} (h : RS r u B st S) : ldCell st [] (.t (.box r 0)) 0 = some u := by
  cases S with
  | ok a => simp [ldCell, h.2.2]
  | error e => obtain ⟨_, _, _, a, hb⟩ := h; simp [ldCell, hb]
theorem RS.at {r a : Nat} {u : TV} {B : List UInt8} {st : St} (h : RS r u B st (.ok a)) : ldCell st [] (.t (.box r 1)) 0 = some (.int .i64 (a : Nat)) := by simp [ldCell, h.2.2]
theorem RS.putErr {r a e : Nat} {u : TV} {B : List UInt8} {st : St} {k : St → Prop} (h : RS r u B st (.ok a)) (he : e ≠ 0) (he2 : e < 100) (hk : ∀ st', StX (· = r) st st' → RS r u B st' (.error e) → k st') : stB st (.box r 2) [.int .i64 (e : Nat)] k :=
  ⟨_, h.2.2, by simp, hk _ (StX.put (S := (· = r)) rfl _) ⟨h.1, he, he2, a, by simp [St.put, setAll]⟩⟩
theorem RS.putAt {r a b : Nat} {u : TV} {B : List UInt8} {st : St} {k : St → Prop} (h : RS r u B st (.ok a)) (hb : b ≤ B.length) (hk : ∀ st', StX (· = r) st st' → RS r u B st' (.ok b) → k st') : stB st (.box r 1) [.int .i64 (b : Nat)] k :=
  ⟨_, h.2.2, by simp, hk _ (StX.put (S := (· = r)) rfl _) ⟨h.1, hb, by simp [St.put, setAll]⟩⟩
/-- After an error, or after this one. -/
def Erred (S : Except Nat Nat) (e : Nat) (T : Except Nat Nat) : Prop := match S with
  | .error e' => T = .error e'
  | .ok _ => T = .error e
theorem rfail_ok {r e : Nat} {u : TV} {B : List UInt8} {st : St} {S : Except Nat Nat} {K : St → Prop} (h : RS r u B st S) (he : e ≠ 0) (he2 : e < 100) (hk : ∀ st' T, StX (· = r) st st' → RS r u B st' T → Erred S e T → K st') : CallT PR fn_canon_reader_fail [.box r 0, .int .i64 (e : Nat)] [] st K := by
  refine vc_canon_reader_fail r _ st K (optK_intro h.err (decT_int ?_))
  cases S with
  | ok a => exact BIf_intro (fun _ => h.putErr he he2 fun st' e' h' => hk st' _ e' h' rfl) fun g => absurd rfl g
  | error e' => exact BIf_intro (fun g => by have := h.2.1; simp only [errS] at g; omega) fun _ => hk st _ (StX.refl _ _) h rfl
theorem rone_ok {r : Nat} {u : TV} {B : List UInt8} {st : St} {S : Except Nat Nat} {K : Int → St → Prop} (hB : InB u B) (h : RS r u B st S) (hk : ∀ (x : Nat) st' T, x < 256 → StX (· = r) st st' → RS r u B st' T → After S (oneP B) (x = ·) T → K (x : Nat) st') :
    CallT PR fn_canon_reader_one [.box r 0] [.one (.int .u8)] st K := by
  refine vc_canon_reader_one r st K (optK_intro h.err (decT_int ?_))
  cases S with
  | error e => exact BIf_intro (fun _ => hk 0 st _ (by omega) (StX.refl _ _) h rfl) fun g => absurd (show ((e : Nat) : Int) ≠ 0 by have := h.2.1; omega) g
  | ok a =>
    have ha := h.2.1
    have hl := hB.len
    refine BIf_intro (fun g => absurd rfl g) fun _ => optK_intro h.at (decT_int (optK_intro h.src (need_intro hB.rd.isSl ?_)))
    rw [hB.rd.lenS]
    refine BIf_intro (fun g => ?_) fun g => ?_
    · refine rfail_ok (e := 4) h (by omega) (by omega) fun st' T e' h' hE => hk 0 st' T (by omega) e' h' ?_
      have : B[a]? = none := List.getElem?_eq_none (by omega)
      simp only [After, oneP, this]; exact hE
    · refine optK_intro h.at (decT_int ?_)
      rw [wrap64 _ (by omega) (by omega)]
      refine h.putAt (b := a + 1) (by omega) fun st' e' h' => optK_intro h'.src (optK_intro h'.at (decT_int ?_))
      rw [wrap64 _ (by omega) (by omega), show (((a + 1 : Nat) : Int) - 1) = ((a : Nat) : Int) by omega, hB.rd.lenZ, Int.toNat_natCast]
      refine ⟨⟨by omega, by omega⟩, optK_intro (hB.rd.ld st' a (by omega)) (decT_int (hk _ st' (.ok (a + 1)) (UInt8.toNat_lt _) e' h' ?_))⟩
      have : B[a]? = some (B[a]'(by omega)) := List.getElem?_eq_getElem (by omega)
      simp only [After, oneP, this]; exact ⟨trivial, trivial⟩
theorem After.bnd {α β : Type} {S T1 T : Except Nat Nat} {f : Ps α} {g : α → Ps β} {B : List UInt8} {x : α} {Q : β → Prop} (h : After S (f B) (x = ·) T1) (k : After T1 (g x B) Q T) : After S (f.bnd g B) Q T := by
  cases S with
  | error e => simp only [After] at h; subst h; exact k
  | ok a =>
    simp only [After, Ps.bnd] at h ⊢
    cases hf : f B a with
    | error e => rw [hf] at h; simp only at h; subst h; exact k
    | ok p =>
      obtain ⟨y, b⟩ := p
      rw [hf] at h
      simp only at h
      obtain ⟨rfl, rfl⟩ := h
      exact k
theorem After.ok {α : Type} {S : Except Nat Nat} {x : α} {B : List UInt8} {Q : α → Prop} (h : Q x) : After S (Ps.ok x B) Q S := by
  cases S with
  | error e => rfl
  | ok a => exact ⟨h, rfl⟩
theorem After.bad {α : Type} {S T : Except Nat Nat} {e : Nat} {B : List UInt8} {Q : α → Prop} (h : Erred S e T) : After S (Ps.bad (α := α) e B) Q T := by
  cases S with
  | error e => exact h
  | ok a => exact h
/-- What reading gave, or anything after an error. -/
theorem After.mono {α : Type} {S T : Except Nat Nat} {f : Nat → Except Nat (α × Nat)} {Q Q' : α → Prop} (h : After S f Q T) (k : ∀ x, Q x → Q' x) : After S f Q' T := by
  cases S with
  | error e => exact h
  | ok a =>
    simp only [After] at h ⊢
    cases hf : f a with
    | error e => rw [hf] at h; exact h
    | ok p => obtain ⟨y, b⟩ := p; rw [hf] at h; exact ⟨k _ h.1, h.2⟩
/-- After an error what was read does not matter. -/
theorem After.err {α : Type} {S : Except Nat Nat} {e : Nat} {f : Nat → Except Nat (α × Nat)} {Q Q' : α → Prop} (h : After S f Q (.error e)) : After S f Q' (.error e) := by
  cases S with
  | error e' => exact h
  | ok a =>
    simp only [After] at h ⊢
    cases hf : f a with
    | error e => rw [hf] at h; exact h
    | ok p => obtain ⟨y, b⟩ := p; rw [hf] at h; exact absurd h.2 (by simp)
theorem rmost_ok {r lim : Nat} {u : TV} {B : List UInt8} {st : St} {S : Except Nat Nat} {K : Int → St → Prop} (hB : InB u B) (h : RS r u B st S) (hk : ∀ (x : Nat) st' T, x < 256 → StX (· = r) st st' → RS r u B st' T → After S (mostP lim B) (x = ·) T → K (x : Nat) st') :
    CallT PR fn_canon_reader_most [.box r 0, .int .u8 (lim : Nat)] [.one (.int .u8)] st K := by
  refine vc_canon_reader_most r _ st K (rone_ok hB h fun x st1 T1 hx e1 h1 a1 => BIf_intro (fun g => ?_) fun g => ?_)
  · refine rfail_ok (e := 3) h1 (by omega) (by omega) fun st2 T e2 h2 hE => hk x st2 T hx (e1.trans e2) h2 (a1.bnd ?_)
    rw [if_pos (by omega)]; exact After.bad hE
  · refine hk x st1 T1 hx e1 h1 (a1.bnd ?_)
    rw [if_neg (by omega)]; exact After.ok rfl
theorem wrapU64 (x : Int) (h1 : 0 ≤ x) (h2 : x ≤ 18446744073709551615) : IntKind.wrap .u64 x = x := by
  unfold IntKind.wrap
  simp only [IntKind.signed, IntKind.bits]
  simp
  omega
theorem orU (n y i : Nat) (hn : n < 128 ^ i) (hi : i ≤ 8) (hy : y < 128) : bitsI .or .u64 (n : Nat) (IntKind.u64.wrap ((IntKind.u64.wrap (y : Nat)) * 2 ^ (min (Int.toNat (IntKind.i64.wrap (7 * (i : Nat)))) (IntKind.bits .u64)))) = ((n + y * 128 ^ i : Nat) : Int) := by
  have h7 : IntKind.i64.wrap (7 * ((i : Nat) : Int)) = ((7 * i : Nat) : Int) := by rw [wrap64 _ (by omega) (by omega)]; omega
  have hp : (128 : Nat) ^ i = 2 ^ (7 * i) := by rw [Nat.pow_mul]
  have hb : min (7 * i) (IntKind.bits .u64) = 7 * i := Nat.min_eq_left (by show 7 * i ≤ 64; omega)
  have hle : (128 : Nat) ^ i ≤ 128 ^ 8 := Nat.pow_le_pow_right (by omega) hi
  have h8 : (128 : Nat) ^ 8 = 72057594037927936 := by decide
  have hyp : y * 128 ^ i ≤ 127 * 128 ^ i := Nat.mul_le_mul_right _ (by omega)
  have hsum : n + y * 128 ^ i < 9223372036854775808 := by omega
  rw [h7, Int.toNat_natCast, hb, u64_nat y (by omega)]
  have e2 : ((y : Nat) : Int) * 2 ^ (7 * i) = ((y * 128 ^ i : Nat) : Int) := by rw [hp]; push_cast; rfl
  rw [e2, wrapU64 _ (by omega) (by omega)]
  show IntKind.wrap .u64 ((BitVec.ofInt 64 ((n : Nat) : Int) ||| BitVec.ofInt 64 ((y * 128 ^ i : Nat) : Int)).toNat : Int) = _
  simp only [BitVec.ofInt_natCast, BitVec.toNat_or, BitVec.toNat_ofNat]
  rw [Nat.mod_eq_of_lt (by omega), Nat.mod_eq_of_lt (by omega)]
  have e3 : n ||| y * 128 ^ i = n + y * 128 ^ i := by
    rw [Nat.or_comm, hp, Nat.add_comm, ← Nat.shiftLeft_eq, Nat.shiftLeft_add_eq_or_of_lt (by rw [← hp]; exact hn)]
  rw [e3, wrapU64 _ (by omega) (by omega)]
set_option maxRecDepth 10000 in
theorem and127N : ∀ x : Nat, x < 256 → x &&& 127 = x % 128 := by decide
theorem and127 (x : Nat) (h : x < 256) : bitsI .and .u8 (x : Nat) 127 = ((x % 128 : Nat) : Int) := by
  show IntKind.wrap .u8 ((BitVec.ofInt 8 ((x : Nat) : Int) &&& BitVec.ofInt 8 ((127 : Nat) : Int)).toNat : Int) = _
  simp only [BitVec.ofInt_natCast, BitVec.toNat_and, BitVec.toNat_ofNat]
  rw [Nat.mod_eq_of_lt (by omega), Nat.mod_eq_of_lt (by omega), and127N x h, wrapU8 _ (by omega) (by omega)]
theorem pow_bnd {n x i : Nat} (hi : i ≤ 8) (hn : n < 128 ^ i) (hx : x < 128) : n + x * 128 ^ i < 128 ^ (i + 1) := by
  have : x * 128 ^ i ≤ 127 * 128 ^ i := Nat.mul_le_mul_right _ (by omega)
  rw [Nat.pow_succ]; omega
set_option maxRecDepth 20000 in
theorem rnat_ok {r : Nat} {u : TV} {B : List UInt8} {st : St} {S : Except Nat Nat} {K : Int → St → Prop} (hB : InB u B) (h : RS r u B st S) (hk : ∀ (n : Nat) st' T, n < 9223372036854775808 → StX (· = r) st st' → RS r u B st' T → After S (natF B) (n = ·) T → K (n : Nat) st') :
    CallT PR fn_canon_reader_natural [.box r 0] [.one (.int .u64)] st K := by
  have top : (128 : Nat) ^ 9 = 9223372036854775808 := by decide
  refine vc_canon_reader_natural r st K ⟨fun n i p st' => TV.box r 0 = p ∧ ∃ (k m : Nat) (S' : Except Nat Nat), n = (m : Nat) ∧ i = (k : Nat) ∧ k ≤ 9 ∧ m < 128 ^ k ∧ StX (· = r) st st' ∧ RS r u B st' S' ∧ ∀ (Q : Nat → Prop) T, After S' (natP (9 - k) k m B) Q T → After S (natF B) Q T,
    fun _ i _ _ => (9 - i).toNat, ⟨rfl, 0, 0, S, rfl, rfl, by omega, by decide, StX.refl _ _, h, fun Q T a => a⟩, ?_⟩
  rintro _ _ _ st1 ⟨rfl, k, m, S', rfl, rfl, hk9, hm, e1, h1, tr⟩
  refine BIf_intro (fun g => ?_) fun g => ?_
  · have hk8 : k ≤ 8 := by omega
    have e9 : 9 - k = (8 - k) + 1 := by omega
    refine rone_ok hB h1 fun x st2 T hx e2 h2 a2 => need_intro rfl (need_intro rfl (optK_intro h2.err (decT_int (BIf_intro (fun g2 => ?_) fun g2 => ?_))))
    · refine hk 0 st2 T (by omega) (e1.trans e2) h2 (tr _ _ ?_)
      cases T with
      | ok b => simp [errS] at g2
      | error e =>
        rw [e9]
        exact (a2.bnd (g := fun x => if x < 128 then (if x = 0 ∧ 0 < k then .bad 3 else .ok (m + x * 128 ^ k)) else natP (8 - k) (k + 1) (m + (x - 128) * 128 ^ k)) (Q := fun _ => True) rfl).err
    · cases T with
      | error e => have := h2.2.1; simp only [errS] at g2; omega
      | ok b =>
      have step : ∀ (Q : Nat → Prop) T', After (.ok b) ((if x < 128 then (if x = 0 ∧ 0 < k then Ps.bad 3 else Ps.ok (m + x * 128 ^ k)) else natP (8 - k) (k + 1) (m + (x - 128) * 128 ^ k)) B) Q T' → After S (natF B) Q T' := fun Q T' a => tr _ _ (by
        rw [e9]
        exact a2.bnd (g := fun x => if x < 128 then (if x = 0 ∧ 0 < k then .bad 3 else .ok (m + x * 128 ^ k)) else natP (8 - k) (k + 1) (m + (x - 128) * 128 ^ k)) a)
      have hw7 : (0 : Int) ≤ IntKind.i64.wrap (7 * ((k : Nat) : Int)) := by rw [wrap64 _ (by omega) (by omega)]; omega
      rw [and127 x hx, orU m (x % 128) k hm hk8 (by omega)]
      have hb := pow_bnd hk8 hm (show x % 128 < 128 by omega)
      have hle : (128 : Nat) ^ (k + 1) ≤ 128 ^ 9 := Nat.pow_le_pow_right (by omega) (by omega)
      refine need_intro (decide_eq_true hw7) ?_
      refine BIf_intro (fun g3 => ?_) fun g3 => ?_
      · have hx8 : x < 128 := by omega
        refine BIf_intro (fun g4 => BIf_intro (fun g5 => ?_) fun g5 => ?_) fun g4 => ?_
        · refine rfail_ok (e := 3) h2 (by omega) (by omega) fun st3 T3 e3 h3 hE => hk _ st3 T3 (by omega) ((e1.trans e2).trans e3) h3 (step _ _ ?_)
          rw [if_pos hx8, if_pos ⟨by omega, by omega⟩]
          exact After.bad hE
        · refine hk _ st2 _ (by omega) (e1.trans e2) h2 (step _ _ ?_)
          rw [if_pos hx8, if_neg (by omega)]
          exact After.ok (by rw [Nat.mod_eq_of_lt hx8])
        · refine hk _ st2 _ (by omega) (e1.trans e2) h2 (step _ _ ?_)
          rw [if_pos hx8, if_neg (by omega)]
          exact After.ok (by rw [Nat.mod_eq_of_lt hx8])
      · rw [wrap64 _ (by omega) (by omega)]
        refine ⟨⟨rfl, k + 1, m + x % 128 * 128 ^ k, .ok b, rfl, by omega, by omega, hb, e1.trans e2, h2, fun Q T a => step Q T ?_⟩, by dsimp only; omega⟩
        rw [if_neg (by omega), show x - 128 = x % 128 by omega, show 8 - k = 9 - (k + 1) by omega]
        exact a
  · refine rfail_ok (e := 3) h1 (by omega) (by omega) fun st3 T3 e3 h3 hE => hk 0 st3 T3 (by omega) (e1.trans e3) h3 (tr _ _ ?_)
    rw [show 9 - k = 0 by omega]
    exact After.bad hE
end Go.TVF
end

section
namespace Go.TVF
open Go Go.Proofs
set_option linter.unusedVariables false
set_option linter.unusedSimpArgs false
theorem zag_div (n : Nat) (h : n < 9223372036854775808) : IntKind.i64.wrap (IntKind.u64.wrap (Int.tdiv ((n : Nat) : Int) 2)) = ((n / 2 : Nat) : Int) := by
  have e : Int.tdiv ((n : Nat) : Int) 2 = ((n / 2 : Nat) : Int) := by rw [Int.tdiv_eq_ediv_of_nonneg (by omega)]; omega
  rw [e, wrapU64 _ (by omega) (by omega), wrap64 _ (by omega) (by omega)]
theorem tmod2 (n : Nat) : Int.tmod ((n : Nat) : Int) 2 = ((n % 2 : Nat) : Int) := by rw [Int.tmod_eq_emod_of_nonneg (by omega)]; omega
theorem rint_ok {r : Nat} {u : TV} {B : List UInt8} {st : St} {S : Except Nat Nat} {K : Int → St → Prop} (hB : InB u B) (h : RS r u B st S) (hk : ∀ (n : Int) st' T, StX (· = r) st st' → RS r u B st' T → After S (intP B) (n = ·) T → K n st') :
    CallT PR fn_canon_reader_integer [.box r 0] [.one (.int .i64)] st K := by
  refine vc_canon_reader_integer r st K (rnat_ok hB h fun n st1 T hn e1 h1 a1 => ?_)
  rw [zag_div n hn, tmod2]
  have fin : ∀ z : Int, z = zagI n → K z st1 := fun z hz => hk z st1 T e1 h1 (a1.bnd (After.ok hz))
  refine BIf_intro (fun g => fin _ ?_) fun g => fin _ ?_
  · unfold zagI
    rw [wrap64 (0 - _) (by omega) (by omega), wrap64 _ (by omega) (by omega), if_pos (by omega)]; omega
  · unfold zagI
    rw [if_neg (by omega)]
theorem slB {u : TV} {B : List UInt8} {a b : Nat} (h : RdB u B) (hb : b ≤ B.length) (hab : a ≤ b) : RdB (slT 1 .non u a b) ((B.drop a).take (b - a)) := by
  have hl : ((B.drop a).take (b - a)).length = b - a := by rw [List.length_take, List.length_drop]; omega
  rcases h with ⟨rfl, h1, h2⟩ | ⟨tip, rfl⟩
  · have : B = [] := List.length_eq_zero_iff.1 h1
    subst this
    exact .inl ⟨rfl, by simp, by simp; rfl⟩
  · refine .inr ⟨.non, ?_⟩
    simp only [slT, Nat.mul_one]
    rw [hl]
    congr 1
    simp only [bytesT]
    rw [List.map_take, List.map_drop, List.drop_take]
theorem rstr_ok {r : Nat} {u : TV} {B : List UInt8} {st : St} {S : Except Nat Nat} {K : List UInt8 → St → Prop} (hB : InB u B) (h : RS r u B st S) (hk : ∀ (s : List UInt8) st' T, StX (· = r) st st' → RS r u B st' T → s.length ≤ B.length → After S (strP B) (s = ·) T → K s st') :
    CallT PR fn_canon_reader_str [.box r 0] [.one .str] st K := by
  have hl := hB.len
  refine vc_canon_reader_str r st K (rnat_ok hB h fun n st1 T hn e1 h1 a1 => optK_intro h1.err (decT_int (BIf_intro (fun g => ?_) fun g => ?_)))
  · cases T with
    | ok b => simp [errS] at g
    | error e => exact hk [] st1 _ e1 h1 (by simp) (a1.bnd rfl)
  · cases T with
    | error e => have := h1.2.1; simp only [errS] at g; omega
    | ok b =>
    have hb := h1.2.1
    refine optK_intro h1.src (need_intro hB.rd.isSl (optK_intro h1.at (decT_int ?_)))
    rw [hB.rd.lenS, wrap64 _ (by omega) (by omega), wrapU64 _ (by omega) (by omega)]
    refine BIf_intro (fun g2 => ?_) fun g2 => ?_
    · refine rfail_ok (e := 4) h1 (by omega) (by omega) fun st2 T2 e2 h2 hE => hk [] st2 T2 (e1.trans e2) h2 (by simp) (a1.bnd ?_)
      simp only [After, takeP]
      rw [if_pos (by omega)]; exact hE
    · refine optK_intro h1.at (decT_int (optK_intro h1.at (decT_int ?_)))
      rw [wrap64 ((n : Nat) : Int) (by omega) (by omega), wrap64 _ (by omega) (by omega), show ((b : Nat) : Int) + ((n : Nat) : Int) = ((b + n : Nat) : Int) by omega]
      refine h1.putAt (b := b + n) (by omega) fun st2 e2 h2 => optK_intro h2.src (optK_intro h2.at (decT_int ?_))
      rw [hB.rd.lenS, Int.toNat_natCast, Int.toNat_natCast]
      have hs := slB hB.rd (show b + n ≤ B.length by omega) (Nat.le_add_right b n)
      rw [Nat.add_sub_cancel_left] at hs
      refine ⟨⟨hB.rd.isLst, by omega, by omega, by omega⟩, optK_intro (x := .str ((B.drop b).take n)) (by rw [hs.toBytes]; rfl) (decT_str (hk _ st2 _ (e1.trans e2) h2 ?_ (a1.bnd ?_)))⟩
      · rw [List.length_take, List.length_drop]; omega
      · simp only [After, takeP]
        rw [if_neg (by omega)]; exact ⟨rfl, rfl⟩
theorem rnum_ok {r : Nat} {u : TV} {B : List UInt8} {st : St} {S : Except Nat Nat} {K : Bool → List UInt8 → Int → St → Prop} (hB : InB u B) (h : RS r u B st S) (hk : ∀ (x : Bool × List UInt8 × Int) st' T, StX (· = r) st st' → RS r u B st' T → After S (numP B) (x = ·) T → K x.1 x.2.1 x.2.2 st') :
    CallT PR fn_canon_reader_number [.box r 0] [.agg [.bool, .str, .int .i64]] st K := by
  refine vc_canon_reader_number r st K (rmost_ok (lim := 2) hB h fun s st1 T hs e1 h1 a1 => BIf_intro (fun g => ?_) fun g => optK_intro h1.err (decT_int (BIf_intro (fun g2 => ?_) fun g2 => ?_)))
  · refine hk (false, [], 0) st1 T e1 h1 (a1.bnd ?_)
    rw [if_pos (by omega)]; exact After.ok rfl
  · cases T with
    | ok b => simp [errS] at g2
    | error e => exact hk (false, [], 0) st1 _ e1 h1 (a1.bnd rfl)
  · refine rint_ok hB h1 fun x st2 T2 e2 h2 a2 => rstr_ok hB h2 fun dg st3 T3 e3 h3 _ a3 => ?_
    have hd : decide (((s : Nat) : Int) = 2) = decide (s = 2) := decide_eq_decide.2 (by omega)
    rw [hd]
    refine hk (decide (s = 2), dg, x) st3 T3 ((e1.trans e2).trans e3) h3 (a1.bnd ?_)
    rw [if_neg (by omega)]
    exact a2.bnd (a3.bnd (After.ok rfl))
end Go.TVF
end

section
namespace Go.TVF
open Go Go.Proofs
set_option linter.unusedVariables false
set_option linter.unusedSimpArgs false
theorem bnd_ok {α β : Type} {f : Ps α} {g : α → Ps β} {B : List UInt8} {a c : Nat} {y : β} : (f.bnd g) B a = .ok (y, c) ↔ ∃ x b, f B a = .ok (x, b) ∧ g x B b = .ok (y, c) := by
  unfold Ps.bnd
  cases hf : f B a with
  | error e => simp
  | ok p =>
    obtain ⟨x, b⟩ := p
    simp only [Except.ok.injEq, Prod.mk.injEq, reduceCtorEq, false_or]
    exact ⟨fun h => ⟨x, b, ⟨rfl, rfl⟩, h⟩, fun ⟨_, _, ⟨h1, h2⟩, h⟩ => by subst h1 h2; exact h⟩
theorem bnd_err {α β : Type} {f : Ps α} {g : α → Ps β} {B : List UInt8} {a e : Nat} : (f.bnd g) B a = .error e ↔ f B a = .error e ∨ ∃ x b, f B a = .ok (x, b) ∧ g x B b = .error e := by
  unfold Ps.bnd
  cases hf : f B a with
  | error e => simp
  | ok p =>
    obtain ⟨x, b⟩ := p
    simp only [Except.ok.injEq, Prod.mk.injEq, reduceCtorEq, false_or]
    exact ⟨fun h => ⟨x, b, ⟨rfl, rfl⟩, h⟩, fun ⟨_, _, ⟨h1, h2⟩, h⟩ => by subst h1 h2; exact h⟩
theorem one_inv {B : List UInt8} {a b x : Nat} (h : oneP B a = .ok (x, b)) : b = a + 1 ∧ a < B.length := by
  unfold oneP at h
  cases hb : B[a]? with
  | none => rw [hb] at h; cases h
  | some c =>
    rw [hb] at h
    simp only [Except.ok.injEq, Prod.mk.injEq] at h
    exact ⟨h.2.symm, (List.getElem?_eq_some_iff.1 hb).1⟩
theorem okP_inv {α : Type} {x y : α} {B : List UInt8} {a b : Nat} (h : Ps.ok x B a = .ok (y, b)) : x = y ∧ a = b := by
  simpa [Ps.ok] using h
theorem badP_inv {α : Type} {y : α} {e : Nat} {B : List UInt8} {a b : Nat} (h : (Ps.bad e : Ps α) B a = .ok (y, b)) : False := by simp [Ps.bad] at h
theorem most_inv {lim : Nat} {B : List UInt8} {a b x : Nat} (h : mostP lim B a = .ok (x, b)) : b = a + 1 ∧ a < B.length := by
  obtain ⟨y, c, h1, h2⟩ := bnd_ok.1 h
  have := one_inv h1
  split at h2
  · exact (badP_inv h2).elim
  · obtain ⟨_, rfl⟩ := okP_inv h2; exact this
theorem nat_inv : ∀ (k i n : Nat) {B : List UInt8} {a b x : Nat}, natP k i n B a = .ok (x, b) → a ≤ b ∧ b ≤ B.length
  | 0, i, n, B, a, b, x, h => (badP_inv h).elim
  | k + 1, i, n, B, a, b, x, h => by
    obtain ⟨y, c, h1, h2⟩ := bnd_ok.1 h
    have := one_inv h1
    split at h2
    · split at h2
      · exact (badP_inv h2).elim
      · obtain ⟨_, rfl⟩ := okP_inv h2; omega
    · have := nat_inv k _ _ h2; omega
theorem str_inv {B : List UInt8} {a b : Nat} {s : List UInt8} (h : strP B a = .ok (s, b)) : a + s.length ≤ b ∧ b ≤ B.length := by
  obtain ⟨n, c, h1, h2⟩ := bnd_ok.1 h
  have := nat_inv _ _ _ h1
  unfold takeP at h2
  split at h2
  · cases h2
  · simp only [Except.ok.injEq, Prod.mk.injEq] at h2
    obtain ⟨rfl, rfl⟩ := h2
    rw [List.length_take, List.length_drop]; omega
theorem int_inv {B : List UInt8} {a b : Nat} {z : Int} (h : intP B a = .ok (z, b)) : a ≤ b := by
  obtain ⟨n, c, h1, h2⟩ := bnd_ok.1 h
  obtain ⟨_, rfl⟩ := okP_inv h2
  exact (nat_inv _ _ _ h1).1
theorem num_inv {B : List UInt8} {a b : Nat} {x : Bool × List UInt8 × Int} (h : numP B a = .ok (x, b)) : a + x.2.1.length ≤ b := by
  obtain ⟨s, c, h1, h2⟩ := bnd_ok.1 h
  have := most_inv h1
  split at h2
  · obtain ⟨rfl, rfl⟩ := okP_inv h2; simp only [List.length_nil]; omega
  · obtain ⟨z, c2, h3, h4⟩ := bnd_ok.1 h2
    obtain ⟨dg, c3, h5, h6⟩ := bnd_ok.1 h4
    obtain ⟨rfl, rfl⟩ := okP_inv h6
    have := int_inv h3
    have := (str_inv h5).1
    simp only; omega
theorem rep_inv {α : Type} {f : Ps α} {m : α → Nat} {B : List UInt8} (hf : ∀ a x b, f B a = .ok (x, b) → a + m x ≤ b) : ∀ (n a : Nat) (l : List α) (b : Nat), repP f n B a = .ok (l, b) → a + (l.map m).sum ≤ b
  | 0, a, l, b, h => by obtain ⟨rfl, rfl⟩ := okP_inv h; simp
  | n + 1, a, l, b, h => by
    obtain ⟨x, c, h1, h2⟩ := bnd_ok.1 h
    obtain ⟨r, c2, h3, h4⟩ := bnd_ok.1 h2
    obtain ⟨rfl, rfl⟩ := okP_inv h4
    have := hf _ _ _ h1
    have := rep_inv hf n _ _ _ h3
    simp only [List.map_cons, List.sum_cons]; omega
theorem vsSz_sum : ∀ l : List Vl, vsSz l = (l.map Vl.sz).sum
  | [] => rfl
  | v :: r => by unfold vsSz; rw [vsSz_sum r]; rfl
theorem fsSz_sum : ∀ l : List Fd, fsSz l = (l.map Fd.sz).sum
  | [] => rfl
  | v :: r => by unfold fsSz; rw [fsSz_sum r]; rfl
theorem rdV_inv : ∀ (d : Nat) {B : List UInt8} {a b : Nat} {v : Vl}, rdV d B a = .ok (v, b) → a + v.sz ≤ b
  | 0, B, a, b, v, h => (badP_inv h).elim
  | d + 1, B, a, b, v, h => by
    obtain ⟨k, c, h1, h2⟩ := bnd_ok.1 h
    have hc := most_inv h1
    split at h2
    · obtain ⟨x, c2, h3, h4⟩ := bnd_ok.1 h2
      have := most_inv h3
      obtain ⟨rfl, rfl⟩ := okP_inv h4
      rw [szs]; simp only [scK, List.length_nil, vsSz, fsSz]; omega
    split at h2
    · obtain ⟨x, c2, h3, h4⟩ := bnd_ok.1 h2
      have := num_inv h3
      obtain ⟨rfl, rfl⟩ := okP_inv h4
      rw [szs]; simp only [scK, List.length_nil, vsSz, fsSz]; omega
    split at h2
    · obtain ⟨x, c2, h3, h4⟩ := bnd_ok.1 h2
      obtain ⟨y, c3, h5, h6⟩ := bnd_ok.1 h4
      obtain ⟨z, c4, h7, h8⟩ := bnd_ok.1 h6
      obtain ⟨w, c5, h9, h10⟩ := bnd_ok.1 h8
      have := one_inv h3
      have := nat_inv _ _ _ h5
      have := nat_inv _ _ _ h7
      have := int_inv h9
      obtain ⟨rfl, rfl⟩ := okP_inv h10
      rw [szs]; simp only [scK, List.length_nil, vsSz, fsSz]; omega
    split at h2
    · obtain ⟨x, c2, h3, h4⟩ := bnd_ok.1 h2
      have := str_inv h3
      obtain ⟨rfl, rfl⟩ := okP_inv h4
      rw [szs]; simp only [scK, List.length_nil, vsSz, fsSz]; omega
    split at h2
    · obtain ⟨x, c2, h3, h4⟩ := bnd_ok.1 h2
      have := str_inv h3
      obtain ⟨rfl, rfl⟩ := okP_inv h4
      rw [szs]; simp only [scK, List.length_nil, vsSz, fsSz]; omega
    split at h2
    · obtain ⟨n, c2, h3, h4⟩ := bnd_ok.1 h2
      have := nat_inv _ _ _ h3
      obtain ⟨l, c3, h5, h6⟩ := bnd_ok.1 h4
      have := rep_inv (m := Vl.sz) (fun a x b hx => rdV_inv d hx) _ _ _ _ h5
      obtain ⟨rfl, rfl⟩ := okP_inv h6
      rw [← vsSz_sum] at this
      rw [szs]; simp only [scK, List.length_nil, fsSz]; omega
    split at h2
    · obtain ⟨n, c2, h3, h4⟩ := bnd_ok.1 h2
      have := nat_inv _ _ _ h3
      obtain ⟨l, c3, h5, h6⟩ := bnd_ok.1 h4
      have := rep_inv (m := Fd.sz) (fun a x b hx => by
        obtain ⟨key, e1, q1, q2⟩ := bnd_ok.1 hx
        obtain ⟨w, e2, q3, q4⟩ := bnd_ok.1 q2
        have := str_inv q1
        have := rdV_inv d q3
        obtain ⟨rfl, rfl⟩ := okP_inv q4
        rw [szd]; omega) _ _ _ _ h5
      obtain ⟨rfl, rfl⟩ := okP_inv h6
      rw [← fsSz_sum] at this
      rw [szs]; simp only [scK, List.length_nil, vsSz]; omega
    · obtain ⟨rfl, rfl⟩ := okP_inv h2
      rw [szs]; simp only [scK, List.length_nil, vsSz, fsSz]; omega
theorem StX.fresh {S : Nat → Prop} {a b : St} (h : StX S a b) (T : Option Nat) : StX S a (b.fresh T) :=
  h.trans ⟨Nat.le_refl _, fun _ _ _ => rfl, Nat.le_succ _, fun i hi => by simp only [St.fresh]; rw [if_neg (by omega)], fun i hi => by simp only [St.fresh]; rw [if_neg (by omega)], fun _ _ => rfl⟩
theorem StX.retire {S : Nat → Prop} {a b : St} (h : StX S a b) {id : Nat} (hid : a.nt ≤ id) : StX S a (b.retire id) :=
  ⟨h.nb, h.box, h.nt, fun i hi => by simp only [St.retire]; rw [if_neg (by omega)]; exact h.live i hi, h.ty, h.bt⟩
theorem Own.extX {S : Nat → Prop} {b sz : Nat} {st st' : St} {v : TV} {n : Nat} {xs : List TV} (h : Own b sz st v n xs) (e : StX S st st') : Own b sz st' v n xs := by
  rcases h with h | ⟨tip, h, ht | ⟨id, h1, h2, h3, h4⟩⟩
  · exact .inl h
  · exact .inr ⟨tip, h, .inl ht⟩
  · exact .inr ⟨tip, h, .inr ⟨id, h1, h2, Nat.lt_of_lt_of_le h3 e.nt, (e.live id h3).trans h4⟩⟩
theorem appK_X {S : Nat → Prop} {T b sz bytes : Nat} {st0 st : St} {v : TV} {n k : Nat} {xs ys : List TV} {K : TV → St → Prop} (e : StX S st0 st) (hb : b = st0.nt) (h : Own b sz st v n xs) (hby : (n + k) * bytes ≤ 140737488355328) (hk1 : k ≠ 0)
    (hK : ∀ v' st', StX S st0 st' → st'.box = st.box → st'.nb = st.nb → Own b sz st' v' (n + k) (xs ++ ys) → K v' st') : appK T sz bytes v k ys st K := by
  subst hb
  rcases h with ⟨rfl, rfl, rfl⟩ | ⟨tip, rfl, ht⟩
  · simp only [appK]
    cases k with
    | zero => exact absurd rfl hk1
    | succ m =>
      simp only [need_iff]
      refine ⟨by simpa using hby, hK _ _ (e.fresh _) rfl rfl ?_⟩
      simp only [List.nil_append, Nat.zero_add]
      exact Own.fresh _ _ e.nt
  · simp only [appK, Nat.beq_refl]
    refine ⟨hby, ?_⟩
    rcases ht with rfl | ⟨id, rfl, h1, h2, h3⟩
    · cases k with
      | zero => exact absurd rfl hk1
      | succ m => exact hK _ _ (e.fresh _) rfl rfl (Own.fresh _ _ e.nt)
    · exact ⟨h3, hK _ _ ((e.retire h1).fresh _) rfl rfl (Own.fresh (st := st.retire id) _ _ e.nt)⟩
theorem RS.same {r : Nat} {u : TV} {B : List UInt8} {st st' : St} {S : Except Nat Nat} (h : RS r u B st S) (hb : st'.box = st.box) (hn : st'.nb = st.nb) : RS r u B st' S := by
  cases S <;> simp only [RS, hb, hn] at * <;> exact h
/-- What came of reading, for what is read behind it. -/
theorem After.elim {α : Type} {S T : Except Nat Nat} {f : Ps α} {B : List UInt8} {Q : α → Prop} (h : After S (f B) Q T) :
    (∃ e, T = .error e ∧ ∀ (β : Type) (g : α → Ps β) (Q' : β → Prop), After S (f.bnd g B) Q' (.error e)) ∨ (∃ x a b, S = .ok a ∧ T = .ok b ∧ f B a = .ok (x, b) ∧ Q x ∧ ∀ (β : Type) (g : α → Ps β) (Q' : β → Prop) T', After (.ok b) (g x B) Q' T' → After S (f.bnd g B) Q' T') := by
  cases S with
  | error e => simp only [After] at h; subst h; exact .inl ⟨e, rfl, fun _ _ _ => rfl⟩
  | ok a =>
    simp only [After] at h
    cases hf : f B a with
    | error e =>
      rw [hf] at h; simp only at h; subst h
      exact .inl ⟨e, rfl, fun β g Q' => by simp [After, Ps.bnd, hf]⟩
    | ok p =>
      obtain ⟨x, b⟩ := p
      rw [hf] at h
      obtain ⟨hQ, rfl⟩ := h
      exact .inr ⟨x, a, b, rfl, rfl, hf, hQ, fun β g Q' T' k => by simpa [After, Ps.bnd, hf] using k⟩
end Go.TVF
end

section
namespace Go.TVF
open Go Go.Proofs
set_option linter.unusedVariables false
set_option linter.unusedSimpArgs false
theorem vlLeaf (st : St) (s : Sc) (h : s.bytes = []) : VlR st (.mk s [] []) (cellsV s .nilSlice .nilSlice .nilSlice) := by
  unfold VlR
  refine ⟨_, _, _, [], [], rfl, ?_, .of_rd (.inl ⟨rfl, rfl, rfl⟩), by unfold VsR; rfl, .of_rd (.inl ⟨rfl, rfl, rfl⟩), by unfold FsR; rfl⟩
  rw [h]; exact .of_rd (.inl ⟨rfl, rfl, rfl⟩)
theorem FsR.snoc0 {st : St} {d : Fd} {cd : List TV} {l : List Fd} {xs : List TV} (h : FsR st l xs) (hd : FdR st d cd) : FsR st (l ++ [d]) (xs ++ cd) := by
  obtain ⟨cks, rfl, hall⟩ := h.chunks
  have := FsR.of_chunks (hall.snoc hd)
  simpa using this
/-- What the loop over parts has come to. -/
def LoopS {α : Type} (f : Ps α) (B : List UInt8) (n : Nat) (T0 : Except Nat Nat) (k : Nat) (S' : Except Nat Nat) (R : List α → Prop) : Prop := match S' with
  | .error e => ∀ Q : List α → Prop, After T0 (repP f n B) Q (.error e)
  | .ok a => k ≤ a ∧ ∃ vs : List α, vs.length = k ∧ R vs ∧ ∀ (Q : List α → Prop) T, After (.ok a) (repP f (n - k) B) (fun l => Q (vs ++ l)) T → After T0 (repP f n B) Q T
theorem LoopS.err {α : Type} {f : Ps α} {B : List UInt8} {n k e : Nat} {T0 : Except Nat Nat} {a : Nat} {R R' : List α → Prop} {Q0 : α → Prop} (h : LoopS f B n T0 k (.ok a) R) (hk : k < n) (h1 : After (.ok a) (f B) Q0 (.error e)) : LoopS f B n T0 (k + 1) (.error e) R' := by
  obtain ⟨_, vs, _, _, tr⟩ := h
  intro Q
  refine tr Q _ ?_
  rw [show n - k = (n - (k + 1)) + 1 by omega]
  rcases h1.elim with ⟨e', he, tr2⟩ | ⟨_, _, _, _, he, _⟩
  · cases he; exact tr2 _ _ _
  · cases he
theorem LoopS.step {α : Type} {f : Ps α} {B : List UInt8} {n k b : Nat} {T0 : Except Nat Nat} {a : Nat} {R R' : List α → Prop} {Q0 : α → Prop} (h : LoopS f B n T0 k (.ok a) R) (hk : k < n) (h1 : After (.ok a) (f B) Q0 (.ok b)) (hadv : ∀ x, f B a = .ok (x, b) → a < b)
    (hR : ∀ vs x, vs.length = k → R vs → Q0 x → R' (vs ++ [x])) : LoopS f B n T0 (k + 1) (.ok b) R' := by
  obtain ⟨hka, vs, hvl, hv, tr⟩ := h
  rcases h1.elim with ⟨e', he, _⟩ | ⟨x, a', b', ha, hb, hf, hQ, tr2⟩
  · cases he
  · cases ha; cases hb
    have := hadv x hf
    refine ⟨by omega, vs ++ [x], by simp [hvl], hR vs x hvl hv hQ, fun Q T h => tr Q T ?_⟩
    rw [show n - k = (n - (k + 1)) + 1 by omega]
    refine tr2 _ _ _ _ ?_
    rcases h.elim with ⟨e, rfl, tr3⟩ | ⟨l, _, _, ha, rfl, _, hQ', tr3⟩
    · exact tr3 _ _ _
    · refine tr3 _ _ _ _ (After.ok ?_)
      simpa using hQ'
theorem LoopS.done {α β : Type} {f : Ps α} {B : List UInt8} {n : Nat} {T0 S' : Except Nat Nat} {R : List α → Prop} {g : List α → β} {Q : β → Prop} (h : LoopS f B n T0 n S' R) (hQ : ∀ vs, R vs → Q (g vs)) : After T0 ((repP f n).bnd (fun l => .ok (g l)) B) Q S' := by
  cases S' with
  | error e =>
    rcases (h (fun _ => True)).elim with ⟨e', he, tr⟩ | ⟨_, _, _, _, he, _⟩
    · cases he; exact tr _ _ _
    · cases he
  | ok a =>
    obtain ⟨_, vs, _, hR, tr⟩ := h
    have h2 := tr (fun l => R l) (.ok a) (by rw [Nat.sub_self]; exact ⟨by simpa using hR, rfl⟩)
    rcases h2.elim with ⟨e', he, _⟩ | ⟨x, _, b, ha, hb, _, hx, tr3⟩
    · cases he
    · cases hb; exact tr3 _ _ _ _ (After.ok (hQ x hx))
theorem LoopS.out {α β : Type} {f : Ps α} {B : List UInt8} {n k e : Nat} {T0 : Except Nat Nat} {R : List α → Prop} {g : List α → β} {Q : β → Prop} (h : LoopS f B n T0 k (.error e) R) : After T0 ((repP f n).bnd (fun l => .ok (g l)) B) Q (.error e) := by
  rcases (h (fun _ => True)).elim with ⟨e', he, tr⟩ | ⟨_, _, _, _, he, _⟩
  · cases he; exact tr _ _ _
  · cases he
set_option maxRecDepth 4000 in
theorem rvalue_ok : ∀ d, d ≤ 48 → ∀ {r : Nat} {u : TV} {B : List UInt8} {st : St} {S : Except Nat Nat} {K : Int → Bool → Bool → List UInt8 → Int → Int → Int → Int → Int → List UInt8 → TV → TV → TV → St → Prop}, InB u B → RS r u B st S →
    (∀ s ub ul uf st' T, oneT ub = true → oneT ul = true → oneT uf = true → StX (· = r) st st' → RS r u B st' T → After S (rdV d B) (fun v => VlR St.zero v (cellsV s ub ul uf)) T → K s.kind s.b s.neg s.dg s.ex s.tk s.td s.tn s.tz s.text ub ul uf st') →
    CallT PR fn_canon_reader_value [.box r 0, .int .i64 (49 - (d : Nat))] [.agg [.int .i64, .bool, .bool, .str, .int .i64, .int .i64, .int .i64, .int .i64, .int .i64, .str, .tv, .tv, .tv]] st K := by
  intro d
  induction d with
  | zero =>
    intro hd r u B st S K hB h hk
    have hl := hB.len
    refine vc_canon_reader_value r _ st K ⟨fun p D k1 b1 b2 s1 k2 k3 k4 k5 k6 s2 v1 v2 v3 st' => TV.box r 0 = p ∧ StX (· = r) st st' ∧ ∃ e, RS r u B st' (.error e) ∧ After S (rdV 0 B) (fun _ => True) (.error e), ?_, ?_⟩
    · refine optK_intro h.err (decT_int ?_)
      cases S with
      | ok a => exact BIf_intro (fun _ => BIf_intro (fun _ => rfail_ok (e := 9) h (by omega) (by omega) fun st' T e' h' hE => ⟨rfl, e', 9, by rw [show T = .error 9 from hE] at h'; exact h', rfl⟩) fun g => absurd (by omega) g) fun g => absurd rfl g
      | error e => exact BIf_intro (fun g => by have := h.2.1; simp only [errS] at g; omega) fun _ => ⟨rfl, StX.refl _ _, e, h, rfl⟩
    · rintro _ D k1 b1 b2 s1 k2 k3 k4 k5 k6 s2 v1 v2 v3 st1 ⟨rfl, e1, e, h1, hA⟩
      refine rmost_ok (lim := 7) hB h1 fun x st2 T hx e2 h2 a2 => ?_
      have hT : T = .error e := a2
      subst hT
      refine need_intro rfl (need_intro rfl (optK_intro h2.err (decT_int (BIf_intro (fun _ => ?_) fun g => absurd (show ((e : Nat) : Int) ≠ 0 by have := h2.2.1; omega) g))))
      exact hk ⟨0, false, false, [], 0, 0, 0, 0, 0, [], []⟩ .nilSlice .nilSlice .nilSlice st2 _ rfl rfl rfl (e1.trans e2) h2 hA.err
  | succ d ih =>
    intro hd r u B st S K hB h hk
    have hl := hB.len
    refine vc_canon_reader_value r _ st K ⟨fun p D k1 b1 b2 s1 k2 k3 k4 k5 k6 s2 v1 v2 v3 st' => TV.box r 0 = p ∧ D = 49 - ((d + 1 : Nat) : Int) ∧ st = st', ?_, ?_⟩
    · refine optK_intro h.err (decT_int (BIf_intro (fun _ => BIf_intro (fun g => by omega) fun _ => ⟨rfl, rfl, rfl⟩) fun _ => ⟨rfl, rfl, rfl⟩))
    rintro _ _ k1 b1 b2 s1 k2 k3 k4 k5 k6 s2 v1 v2 v3 _ ⟨rfl, rfl, rfl⟩
    refine rmost_ok (lim := 7) hB h fun x st1 T hx e1 h1 a1 => need_intro rfl (need_intro rfl (optK_intro h1.err (decT_int ?_)))
    have hdec : rdV (d + 1) = _ := rdV.eq_2 d
    rcases a1.elim with ⟨e, rfl, tr⟩ | ⟨x', a, b, rfl, rfl, hf, rfl, tr⟩
    · refine BIf_intro (fun _ => ?_) fun g => absurd (show ((e : Nat) : Int) ≠ 0 by have := h1.2.1; omega) g
      refine hk ⟨0, false, false, [], 0, 0, 0, 0, 0, [], []⟩ .nilSlice .nilSlice .nilSlice st1 _ rfl rfl rfl e1 h1 ?_
      rw [hdec]; exact tr _ _ _
    refine BIf_intro (fun g => absurd rfl g) fun _ => ?_
    have hb := h1.2.1
    have step : ∀ (Q : Vl → Prop) (g : Ps Vl) T', (if x = 1 then (mostP 1).bnd fun b => Ps.ok (Vl.mk { scK 1 with b := decide (b = 1) } [] [])
      else if x = 2 then numP.bnd fun x => .ok (.mk { scK 2 with neg := x.1, dg := x.2.1, ex := x.2.2 } [] [])
      else if x = 3 then oneP.bnd fun a => natF.bnd fun b => natF.bnd fun c => intP.bnd fun z => .ok (.mk { scK 3 with tk := a, td := b, tn := c, tz := z } [] [])
      else if x = 4 then strP.bnd fun s => .ok (.mk { scK 4 with text := s } [] [])
      else if x = 5 then strP.bnd fun s => .ok (.mk { scK 5 with bytes := s } [] [])
      else if x = 6 then natF.bnd fun n => (repP (rdV d) n).bnd fun l => .ok (.mk (scK 6) l [])
      else if x = 7 then natF.bnd fun n => (repP (strP.bnd fun key => (rdV d).bnd fun v => .ok (Fd.mk key v)) n).bnd fun f => .ok (.mk (scK 7) [] f)
      else .ok (.mk (scK x) [] [])) = g → After (.ok b) (g B) Q T' → After (.ok a) (rdV (d + 1) B) Q T' := fun Q g T' hg hA => by
        rw [hdec]
        subst hg
        exact tr _ _ Q T' hA
    rw [wrap64 ((x : Nat) : Int) (by omega) (by omega)]
    refine BIf_intro (fun g1 => ?_) fun g1 => ?_
    · have hx1 : x = 1 := by omega
      subst hx1
      refine rmost_ok (lim := 1) hB h1 fun y st2 T2 hy e2 h2 a2 => ?_
      have hdy : decide (((y : Nat) : Int) = 1) = decide (y = 1) := decide_eq_decide.2 (by omega)
      rw [hdy]
      exact hk { scK 1 with b := decide (y = 1) } .nilSlice .nilSlice .nilSlice st2 T2 rfl rfl rfl (e1.trans e2) h2 (step _ _ _ (if_pos rfl) (a2.bnd (After.ok (vlLeaf _ _ rfl))))
    refine BIf_intro (fun g2 => ?_) fun g2 => ?_
    · have hx1 : x = 2 := by omega
      subst hx1
      refine rnum_ok hB h1 fun y st2 T2 e2 h2 a2 => ?_
      exact hk { scK 2 with neg := y.1, dg := y.2.1, ex := y.2.2 } .nilSlice .nilSlice .nilSlice st2 T2 rfl rfl rfl (e1.trans e2) h2 (step _ _ _ ((if_neg (by omega)).trans (if_pos rfl)) (a2.bnd (After.ok (vlLeaf _ _ rfl))))
    refine BIf_intro (fun g3 => ?_) fun g3 => ?_
    · have hx1 : x = 3 := by omega
      subst hx1
      refine rone_ok hB h1 fun y1 st2 T2 hy e2 h2 a2 => rnat_ok hB h2 fun y2 st3 T3 hy2 e3 h3 a3 => rnat_ok hB h3 fun y3 st4 T4 hy3 e4 h4 a4 => rint_ok hB h4 fun y4 st5 T5 e5 h5 a5 => ?_
      rw [wrap64 ((y1 : Nat) : Int) (by omega) (by omega), wrap64 ((y2 : Nat) : Int) (by omega) (by omega), wrap64 ((y3 : Nat) : Int) (by omega) (by omega)]
      exact hk { scK 3 with tk := y1, td := y2, tn := y3, tz := y4 } .nilSlice .nilSlice .nilSlice st5 T5 rfl rfl rfl ((((e1.trans e2).trans e3).trans e4).trans e5) h5 (step _ _ _ ((if_neg (by omega)).trans ((if_neg (by omega)).trans (if_pos rfl))) (a2.bnd (a3.bnd (a4.bnd (a5.bnd (After.ok (vlLeaf _ _ rfl)))))))
    refine BIf_intro (fun g4 => ?_) fun g4 => ?_
    · have hx1 : x = 4 := by omega
      subst hx1
      refine rstr_ok hB h1 fun y st2 T2 e2 h2 _ a2 => ?_
      exact hk { scK 4 with text := y } .nilSlice .nilSlice .nilSlice st2 T2 rfl rfl rfl (e1.trans e2) h2 (step _ _ _ ((if_neg (by omega)).trans ((if_neg (by omega)).trans ((if_neg (by omega)).trans (if_pos rfl)))) (a2.bnd (After.ok (vlLeaf _ _ rfl))))
    refine BIf_intro (fun g5 => ?_) fun g5 => ?_
    · have hx1 : x = 5 := by omega
      subst hx1
      refine rstr_ok hB h1 fun y st2 T2 e2 h2 _ a2 => need_intro rfl (need_intro rfl ?_)
      refine hk { scK 5 with bytes := y } (.list 1 (.own st2.nt) y.length (bytesT y)) .nilSlice .nilSlice (st2.fresh (some 5)) T2 rfl rfl rfl ((e1.trans e2).fresh _) (h2.same rfl rfl) (step _ _ _ ((if_neg (by omega)).trans ((if_neg (by omega)).trans ((if_neg (by omega)).trans ((if_neg (by omega)).trans (if_pos rfl))))) (a2.bnd (After.ok ?_)))
      unfold VlR
      exact ⟨_, _, _, [], [], rfl, .of_rd (.inr ⟨_, rfl⟩), .of_rd (.inl ⟨rfl, rfl, rfl⟩), by unfold VsR; rfl, .of_rd (.inl ⟨rfl, rfl, rfl⟩), by unfold FsR; rfl⟩
    refine BIf_intro (fun g6 => ?_) fun g6 => ?_
    · have hx1 : x = 6 := by omega
      subst hx1
      refine rnat_ok hB h1 fun n st2 T2 hn e2 h2 a2 => ?_
      have stepL : ∀ (Q : Vl → Prop) T', After T2 ((repP (rdV d) n).bnd (fun l => .ok (.mk (scK 6) l [])) B) Q T' → After (.ok a) (rdV (d + 1) B) Q T' := fun Q T' hA =>
        step _ _ _ ((if_neg (by omega)).trans ((if_neg (by omega)).trans ((if_neg (by omega)).trans ((if_neg (by omega)).trans ((if_neg (by omega)).trans (if_pos rfl)))))) (a2.bnd hA)
      refine ⟨fun i p D a1 a2 a3 a4 a5 a6 a7 a8 a9 a10 a11 a12 a13 c1 c2 c3 c4 c5 c6 c7 c8 c9 c10 c11 c12 c13 st' => TV.box r 0 = p ∧ D = 49 - ((d + 1 : Nat) : Int) ∧ ((6 : Nat) : Int) = c1 ∧ false = c2 ∧ false = c3 ∧ ([] : List UInt8) = c4 ∧ (0 : Int) = c5 ∧ (0 : Int) = c6 ∧ (0 : Int) = c7 ∧ (0 : Int) = c8 ∧ (0 : Int) = c9 ∧ ([] : List UInt8) = c10 ∧ TV.nilSlice = c11 ∧ TV.nilSlice = c13 ∧ ∃ (k : Nat) (S' : Except Nat Nat), i = ((n - k : Nat) : Int) ∧ k ≤ n ∧ k ≤ B.length + 1 ∧ StX (· = r) st2 st' ∧ RS r u B st' S' ∧ oneT c12 = true ∧ LoopS (rdV d) B n T2 k S' (fun vs => ∃ xs, Own st2.nt 13 st' c12 k xs ∧ VsR St.zero vs xs),
        fun i _ _ _ _ _ _ _ _ _ _ _ _ _ _ _ _ _ _ _ _ _ _ _ _ _ _ _ _ _ => i.toNat, ⟨rfl, rfl, rfl, rfl, rfl, rfl, rfl, rfl, rfl, rfl, rfl, rfl, rfl, rfl, 0, T2, rfl, Nat.zero_le _, Nat.zero_le _, StX.refl _ _, h2, rfl, ?_⟩, ?_⟩
      · cases T2 with
        | error e =>
          intro Q
          rcases a2.elim with ⟨e', he, _⟩ | ⟨_, _, _, _, he, _⟩
          · rfl
          · cases he
        | ok b2 => exact ⟨Nat.zero_le _, [], rfl, ⟨[], Own.nil _ _ _, by unfold VsR; rfl⟩, fun Q T hA => hA⟩
      rintro _ _ _ a1 a2 a3 a4 a5 a6 a7 a8 a9 a10 a11 a12 a13 _ _ _ _ _ _ _ _ _ _ _ c12 _ st3 ⟨rfl, rfl, rfl, rfl, rfl, rfl, rfl, rfl, rfl, rfl, rfl, rfl, rfl, rfl, k, S', rfl, hkn, hkB, e3, h3, o3, hL⟩
      have fin : ∀ T, RS r u B st3 T → After T2 ((repP (rdV d) n).bnd (fun l => Ps.ok (Vl.mk (scK 6) l [])) B) (fun v => VlR St.zero v (cellsV (scK 6) .nilSlice c12 .nilSlice)) T → K 6 false false [] 0 0 0 0 0 [] .nilSlice c12 .nilSlice st3 := fun T hT hA =>
        hk (scK 6) .nilSlice c12 .nilSlice st3 T rfl o3 rfl ((e1.trans e2).trans e3) hT (stepL _ _ hA)
      have hQ : ∀ vs : List Vl, vs.length = k → (∃ xs, Own st2.nt 13 st3 c12 k xs ∧ VsR St.zero vs xs) → VlR St.zero (.mk (scK 6) vs []) (cellsV (scK 6) .nilSlice c12 .nilSlice) := by
        rintro vs rfl ⟨xs, ho, hv⟩
        unfold VlR
        exact ⟨_, _, _, xs, [], rfl, .of_rd (.inl ⟨rfl, rfl, rfl⟩), .of_rd ho.rd, hv, .of_rd (.inl ⟨rfl, rfl, rfl⟩), by unfold FsR; rfl⟩
      have hone : List.all [TV.int .i64 6, .bool false, .bool false, .str [], .int .i64 0, .int .i64 0, .int .i64 0, .int .i64 0, .int .i64 0, .str [], .nilSlice, c12, .nilSlice] oneT = true := one13 rfl o3 rfl
      refine BIf_intro (fun q => ?_) fun q => ?_
      · refine need_intro rfl (need_intro rfl (optK_intro h3.err (decT_int (BIf_intro (fun q2 => ?_) fun q2 => ?_))))
        · cases S' with
          | error e => have := h3.2.1; simp only [errS] at q2; omega
          | ok a' =>
          have ha' := h3.2.1
          have hka := hL.1
          have hD : IntKind.i64.wrap (49 - ((d + 1 : Nat) : Int) + 1) = 49 - ((d : Nat) : Int) := by rw [wrap64 _ (by omega) (by omega)]; omega
          rw [hD]
          refine ih (by omega) hB h3 fun s wb wl wf st4 T4 p1 p2 p3 e4 h4 a4 => need_intro (one13 p1 p2 p3) ?_
          have hown : ∃ xs, Own st2.nt 13 st3 c12 k xs := by obtain ⟨_, vs, _, ⟨xs, ho, _⟩, _⟩ := hL; exact ⟨xs, ho⟩
          obtain ⟨xs0, ho0⟩ := hown
          refine appK_X (e3.trans e4) rfl (ho0.extX e4) (by omega) (by omega) fun v' st5 e5 hbx hnb ho5 => need_intro (by simp [ho5.rd.one]) ?_
          have h5 := h4.same hbx hnb
          rw [wrapU64 _ (by omega) (by omega)]
          cases T4 with
          | error e =>
            exact ⟨⟨rfl, rfl, rfl, rfl, rfl, rfl, rfl, rfl, rfl, rfl, rfl, rfl, rfl, rfl, k + 1, .error e, by omega, by omega, by omega, e5, h5, ho5.rd.one, hL.err (by omega) a4⟩, by dsimp only; omega⟩
          | ok b4 =>
            refine ⟨⟨rfl, rfl, rfl, rfl, rfl, rfl, rfl, rfl, rfl, rfl, rfl, rfl, rfl, rfl, k + 1, .ok b4, by omega, by omega, by omega, e5, h5, ho5.rd.one, hL.step (by omega) a4 (fun v hv => by have := rdV_inv d hv; have := v.sz_pos; omega) fun vs v hvl hR hv => ?_⟩, by dsimp only; omega⟩
            obtain ⟨xs, ho, hvs⟩ := hR
            have hxe : xs = xs0 := by
              rcases ho with ⟨c1, c2, c3⟩ | ⟨tip, c1, _⟩ <;> rcases ho0 with ⟨d1, d2, d3⟩ | ⟨tip', d1, _⟩
              · rw [c3, d3]
              · rw [c1] at d1; cases d1
              · rw [c1] at d1; cases d1
              · rw [c1] at d1; injection d1
            subst hxe
            exact ⟨_, ho5, VsR.snoc hvs hv⟩
        · cases S' with
          | ok a' => simp [errS] at q2
          | error e => exact need_intro hone (fin _ h3 hL.out)
      · have hkk : k = n := by omega
        subst hkk
        refine need_intro hone (fin S' h3 ?_)
        exact LoopS.done (g := fun l => Vl.mk (scK 6) l []) (R := fun vs => vs.length = k ∧ ∃ xs, Own st2.nt 13 st3 c12 k xs ∧ VsR St.zero vs xs) (by
          cases S' with
          | error e => exact hL
          | ok a' => obtain ⟨c1, vs, c2, c3, c4⟩ := hL; exact ⟨c1, vs, c2, ⟨c2, c3⟩, c4⟩) fun vs hv => hQ vs hv.1 hv.2
    refine BIf_intro (fun g7 => ?_) fun g7 => ?_
    · have hx1 : x = 7 := by omega
      subst hx1
      refine rnat_ok hB h1 fun n st2 T2 hn e2 h2 a2 => ?_
      have stepL : ∀ (Q : Vl → Prop) T', After T2 ((repP (strP.bnd fun key => (rdV d).bnd fun v => .ok (Fd.mk key v)) n).bnd (fun f => .ok (.mk (scK 7) [] f)) B) Q T' → After (.ok a) (rdV (d + 1) B) Q T' := fun Q T' hA =>
        step _ _ _ ((if_neg (by omega)).trans ((if_neg (by omega)).trans ((if_neg (by omega)).trans ((if_neg (by omega)).trans ((if_neg (by omega)).trans ((if_neg (by omega)).trans (if_pos rfl))))))) (a2.bnd hA)
      generalize hfp : (strP.bnd fun key => (rdV d).bnd fun v => Ps.ok (Fd.mk key v)) = fp at stepL
      refine ⟨fun i p D a1 a2 a3 a4 a5 a6 a7 a8 a9 a10 a11 a12 a13 c1 c2 c3 c4 c5 c6 c7 c8 c9 c10 c11 c12 c13 st' => TV.box r 0 = p ∧ D = 49 - ((d + 1 : Nat) : Int) ∧ ((7 : Nat) : Int) = c1 ∧ false = c2 ∧ false = c3 ∧ ([] : List UInt8) = c4 ∧ (0 : Int) = c5 ∧ (0 : Int) = c6 ∧ (0 : Int) = c7 ∧ (0 : Int) = c8 ∧ (0 : Int) = c9 ∧ ([] : List UInt8) = c10 ∧ TV.nilSlice = c11 ∧ TV.nilSlice = c12 ∧ ∃ (k : Nat) (S' : Except Nat Nat), i = ((n - k : Nat) : Int) ∧ k ≤ n ∧ k ≤ B.length + 1 ∧ StX (· = r) st2 st' ∧ RS r u B st' S' ∧ oneT c13 = true ∧ LoopS fp B n T2 k S' (fun vs => ∃ xs, Own st2.nt 14 st' c13 k xs ∧ FsR St.zero vs xs),
        fun i _ _ _ _ _ _ _ _ _ _ _ _ _ _ _ _ _ _ _ _ _ _ _ _ _ _ _ _ _ => i.toNat, ⟨rfl, rfl, rfl, rfl, rfl, rfl, rfl, rfl, rfl, rfl, rfl, rfl, rfl, rfl, 0, T2, rfl, Nat.zero_le _, Nat.zero_le _, StX.refl _ _, h2, rfl, ?_⟩, ?_⟩
      · cases T2 with
        | error e =>
          intro Q
          rcases a2.elim with ⟨e', he, _⟩ | ⟨_, _, _, _, he, _⟩
          · rfl
          · cases he
        | ok b2 => exact ⟨Nat.zero_le _, [], rfl, ⟨[], Own.nil _ _ _, by unfold FsR; rfl⟩, fun Q T hA => hA⟩
      rintro _ _ _ a1 a2 a3 a4 a5 a6 a7 a8 a9 a10 a11 a12 a13 _ _ _ _ _ _ _ _ _ _ _ _ c13 st3 ⟨rfl, rfl, rfl, rfl, rfl, rfl, rfl, rfl, rfl, rfl, rfl, rfl, rfl, rfl, k, S', rfl, hkn, hkB, e3, h3, o3, hL⟩
      have fin : ∀ T, RS r u B st3 T → After T2 ((repP fp n).bnd (fun l => Ps.ok (Vl.mk (scK 7) [] l)) B) (fun v => VlR St.zero v (cellsV (scK 7) .nilSlice .nilSlice c13)) T → K 7 false false [] 0 0 0 0 0 [] .nilSlice .nilSlice c13 st3 := fun T hT hA =>
        hk (scK 7) .nilSlice .nilSlice c13 st3 T rfl rfl o3 ((e1.trans e2).trans e3) hT (stepL _ _ hA)
      have hQ : ∀ vs : List Fd, vs.length = k → (∃ xs, Own st2.nt 14 st3 c13 k xs ∧ FsR St.zero vs xs) → VlR St.zero (.mk (scK 7) [] vs) (cellsV (scK 7) .nilSlice .nilSlice c13) := by
        rintro vs rfl ⟨xs, ho, hv⟩
        unfold VlR
        exact ⟨_, _, _, [], xs, rfl, .of_rd (.inl ⟨rfl, rfl, rfl⟩), .of_rd (.inl ⟨rfl, rfl, rfl⟩), by unfold VsR; rfl, .of_rd ho.rd, hv⟩
      have hone : List.all [TV.int .i64 7, .bool false, .bool false, .str [], .int .i64 0, .int .i64 0, .int .i64 0, .int .i64 0, .int .i64 0, .str [], .nilSlice, .nilSlice, c13] oneT = true := one13 rfl rfl o3
      refine BIf_intro (fun q => ?_) fun q => ?_
      · refine need_intro rfl (need_intro rfl (optK_intro h3.err (decT_int (BIf_intro (fun q2 => ?_) fun q2 => ?_))))
        · cases S' with
          | error e => have := h3.2.1; simp only [errS] at q2; omega
          | ok a' =>
          have ha' := h3.2.1
          have hka := hL.1
          have hD : IntKind.i64.wrap (49 - ((d + 1 : Nat) : Int) + 1) = 49 - ((d : Nat) : Int) := by rw [wrap64 _ (by omega) (by omega)]; omega
          rw [hD]
          refine rstr_ok hB h3 fun key st3' T3' e3' h3' _ a3 => ?_
          refine ih (by omega) hB h3' fun s wb wl wf st4 T4 p1 p2 p3 e4 h4 a4 => need_intro (one14 p1 p2 p3) ?_
          have hown : ∃ xs, Own st2.nt 14 st3 c13 k xs := by obtain ⟨_, vs, _, ⟨xs, ho, _⟩, _⟩ := hL; exact ⟨xs, ho⟩
          obtain ⟨xs0, ho0⟩ := hown
          refine appK_X ((e3.trans e3').trans e4) rfl ((ho0.extX e3').extX e4) (by omega) (by omega) fun v' st5 e5 hbx hnb ho5 => need_intro (by simp [ho5.rd.one]) ?_
          have h5 := h4.same hbx hnb
          have a5 : After (.ok a') (fp B) (fun x => FdR St.zero x (.str key :: cellsV s wb wl wf)) T4 := by
            rw [← hfp]
            refine a3.bnd ?_
            rcases a4.elim with ⟨e, rfl, tr3⟩ | ⟨v, _, b, rfl, rfl, _, hv, tr3⟩
            · exact tr3 _ _ _
            · exact tr3 _ _ _ _ (After.ok (by unfold FdR; exact ⟨_, rfl, hv⟩))
          rw [wrapU64 _ (by omega) (by omega)]
          cases T4 with
          | error e =>
            exact ⟨⟨rfl, rfl, rfl, rfl, rfl, rfl, rfl, rfl, rfl, rfl, rfl, rfl, rfl, rfl, k + 1, .error e, by omega, by omega, by omega, e5, h5, ho5.rd.one, hL.err (by omega) a5⟩, by dsimp only; omega⟩
          | ok b4 =>
            refine ⟨⟨rfl, rfl, rfl, rfl, rfl, rfl, rfl, rfl, rfl, rfl, rfl, rfl, rfl, rfl, k + 1, .ok b4, by omega, by omega, by omega, e5, h5, ho5.rd.one, hL.step (by omega) a5 (fun v hv => by
              rw [← hfp] at hv
              obtain ⟨key, e1, q1, q2⟩ := bnd_ok.1 hv
              obtain ⟨w, e2, q3, q4⟩ := bnd_ok.1 q2
              have := str_inv q1
              have := rdV_inv d q3
              have := w.sz_pos
              obtain ⟨_, rfl⟩ := okP_inv q4
              omega) fun vs v hvl hR hv => ?_⟩, by dsimp only; omega⟩
            obtain ⟨xs, ho, hvs⟩ := hR
            have hxe : xs = xs0 := by
              rcases ho with ⟨c1, c2, c3⟩ | ⟨tip, c1, _⟩ <;> rcases ho0 with ⟨d1, d2, d3⟩ | ⟨tip', d1, _⟩
              · rw [c3, d3]
              · rw [c1] at d1; cases d1
              · rw [c1] at d1; cases d1
              · rw [c1] at d1; injection d1
            subst hxe
            exact ⟨_, ho5, FsR.snoc0 hvs hv⟩
        · cases S' with
          | ok a' => simp [errS] at q2
          | error e => exact need_intro hone (fin _ h3 hL.out)
      · have hkk : k = n := by omega
        subst hkk
        refine need_intro hone (fin S' h3 ?_)
        exact LoopS.done (g := fun l => Vl.mk (scK 7) [] l) (R := fun vs => vs.length = k ∧ ∃ xs, Own st2.nt 14 st3 c13 k xs ∧ FsR St.zero vs xs) (by
          cases S' with
          | error e => exact hL
          | ok a' => obtain ⟨c1, vs, c2, c3, c4⟩ := hL; exact ⟨c1, vs, c2, ⟨c2, c3⟩, c4⟩) fun vs hv => hQ vs hv.1 hv.2
    · refine hk (scK x) .nilSlice .nilSlice .nilSlice st1 _ rfl rfl rfl e1 h1 (step _ _ _ ((if_neg (by omega)).trans ((if_neg (by omega)).trans ((if_neg (by omega)).trans ((if_neg (by omega)).trans ((if_neg (by omega)).trans ((if_neg (by omega)).trans (if_neg (by omega)))))))) (After.ok (vlLeaf _ _ rfl)))
end Go.TVF
end

section
namespace Go.TVF
open Go Go.Proofs
set_option linter.unusedVariables false
set_option linter.unusedSimpArgs false
def vZ : Vl := .mk (scK 0) [] []
/-- What Decode gives. -/
noncomputable def decR (B : List UInt8) : Vl × Nat × Nat := match rdV 48 B 0 with
  | .error e => (vZ, 0, e)
  | .ok (v, b) => if checkV v ≠ 0 then (vZ, 0, checkV v) else if bytesV (sortV v) ≠ B.take b then (vZ, 0, 3) else (v, b, 0)
theorem keeps0 (st : St) : Keeps St.zero st := ⟨Nat.zero_le _, fun i hi => absurd hi (Nat.not_lt_zero _)⟩
theorem Decode_ok {u : TV} {B : List UInt8} (hB : InB u B) (hz : ∀ v b, rdV 48 B 0 = .ok (v, b) → v.sz ≤ 2000000) {st : St} {K : Int → Bool → Bool → List UInt8 → Int → Int → Int → Int → Int → List UInt8 → TV → TV → TV → Int → Int → St → Prop}
    (hk : ∀ s ub ul uf st', StExt st st' → oneT ub = true → oneT ul = true → oneT uf = true → VlR St.zero (decR B).1 (cellsV s ub ul uf) → K s.kind s.b s.neg s.dg s.ex s.tk s.td s.tn s.tz s.text ub ul uf ((decR B).2.1 : Nat) ((decR B).2.2 : Nat) st') :
    CallT PR fn_canon_Decode [u] [.agg [.int .i64, .bool, .bool, .str, .int .i64, .int .i64, .int .i64, .int .i64, .int .i64, .str, .tv, .tv, .tv], .one (.int .i64), .one (.int .i64)] st K := by
  have hl := hB.len
  have hz0 : ∀ st' n e, StExt st st' → decR B = (vZ, n, e) → K 0 false false [] 0 0 0 0 0 [] .nilSlice .nilSlice .nilSlice (n : Nat) (e : Nat) st' := fun st' n e he hd => by
    have := hk (scK 0) .nilSlice .nilSlice .nilSlice st' he rfl rfl rfl (by rw [hd]; exact vlLeaf _ _ rfl)
    rw [hd] at this; exact this
  obtain ⟨st0, hst0⟩ : ∃ st0, st0 = st.push (.cells [u, .int .i64 0, .int .i64 0]) (some 58) := ⟨_, rfl⟩
  have e0 : StExt st st0 := hst0 ▸ (StExt.refl st).push _ _
  have hrs : RS st.nb u B st0 (.ok 0) := by rw [hst0]; exact ⟨by simp [St.push], Nat.zero_le _, by simp [St.push]⟩
  have hdec : decR B = decR B := rfl
  conv at hdec => rhs; unfold decR
  refine vc_canon_Decode u st K (need_intro (by simp [hB.rd.one]) ?_)
  rw [← hst0]
  refine rvalue_ok 48 (by omega) hB hrs fun s ub ul uf st1 T p1 p2 p3 e1 h1 a1 => ?_
  have es : StExt st st1 := StX.ext e0 e1 (fun i hi => by rw [hi]; exact Nat.le_refl _)
  refine need_intro (one13 p1 p2 p3) (optK_intro h1.err (decT_int ?_))
  cases T with
  | error e =>
    refine BIf_intro (fun _ => optK_intro h1.err (decT_int (hz0 st1 0 e es ?_))) fun g => absurd (show ((e : Nat) : Int) ≠ 0 by have := h1.2.1; omega) g
    simp only [After] at a1
    cases hr : rdV 48 B 0 with
    | error e' =>
      rw [hr] at a1 hdec
      simp only [Except.error.injEq] at a1
      rw [hdec, a1]
    | ok p => rw [hr] at a1; exact absurd a1.2 (by simp)
  | ok b =>
    refine BIf_intro (fun g => absurd rfl g) fun _ => ?_
    simp only [After] at a1
    cases hr : rdV 48 B 0 with
    | error e' => rw [hr] at a1; simp at a1
    | ok p =>
    obtain ⟨v, b'⟩ := p
    rw [hr] at a1 hdec
    simp only [Except.ok.injEq] at a1
    obtain ⟨hv, rfl⟩ := a1
    simp only at hdec
    have hvz := hz v b hr
    have hbl := h1.2.1
    refine Check_ok hvz (VlR.keep (keeps0 st1) hv) (Keeps.refl _) fun st2 e2 => ?_
    have h2 : ldCell st2 [] (.t (.box st.nb 1)) 0 = some (.int .i64 (b : Nat)) := by
      rw [← h1.at]
      simp only [ldCell, e2.box st.nb h1.lt]
    refine BIf_intro (fun g => ?_) fun g => ?_
    · refine hz0 st2 0 _ (es.trans e2) ?_
      rw [hdec, if_pos (by omega)]
    · have hc : checkV v = 0 := by omega
      rw [if_neg (by omega)] at hdec
      have hok := (check_valid hc).ok
      refine optK_intro h2 (decT_int ?_)
      rw [hB.rd.lenS, Int.toNat_natCast]
      have hs := slB hB.rd hbl (Nat.zero_le b)
      rw [List.drop_zero, Nat.sub_zero] at hs
      refine ⟨⟨hB.rd.isLst, by omega, by omega⟩, optK_intro (x := .str (B.take b)) (by rw [hs.toBytes]; rfl) (decT_str ?_)⟩
      refine Sorted_ok hvz (check_cnt hc) hok.2 (VlR.keep (keeps0 st2) hv) fun wb wl wf st3 hw q1 q2 q3 e3 => ?_
      have hb2 : st.nb < st2.nb := Nat.lt_of_lt_of_le h1.lt e2.nb
      have hb3 : st.nb < st3.nb := Nat.lt_of_lt_of_le hb2 e3.nb
      have h3 : ldCell st3 [] (.t (.box st.nb 1)) 0 = some (.int .i64 (b : Nat)) := by rw [← h2]; simp only [ldCell, e3.box st.nb hb2]
      refine ⟨h3, ?_⟩
      have hlen := encode_len hc hvz
      refine put_ok 2000000 (sortV v) (by rw [sortV_sz]; exact hvz) (by omega) (sortV_ok hok.1) (st0 := st3) hw (StExt.refl _) (OwnB.nil _ _) (by simp; omega) fun v7 st4 e4 ho4 => ?_
      have h4 : ldCell st4 [] (.t (.box st.nb 1)) 0 = some (.int .i64 (b : Nat)) := by rw [← h3]; simp only [ldCell, e4.box st.nb hb3]
      rw [List.nil_append] at ho4
      refine ⟨h4, optK_intro (x := .str (bytesV (sortV v))) (by rw [ho4.rd.toBytes]; rfl) (decT_str (BIf_intro (fun g2 => ?_) fun g2 => ?_))⟩
      · refine hz0 st4 0 3 (((es.trans e2).trans e3).trans e4) ?_
        rw [hdec, if_pos g2]
      · rw [if_neg g2] at hdec
        refine optK_intro h4 (decT_int (need_intro (one13 p1 p2 p3) ?_))
        have := hk s ub ul uf st4 (((es.trans e2).trans e3).trans e4) p1 p2 p3 (by rw [hdec]; exact hv)
        rw [hdec] at this; exact this
end Go.TVF
end

section
namespace Go.TVF
open Go Go.Proofs
set_option linter.unusedVariables false
set_option linter.unusedSimpArgs false
/-- From these bytes this is read; from any of them that stop early, the error 4. -/
structure Rds {α : Type} (f : Ps α) (x : α) (E : List UInt8) : Prop where
  good : ∀ B a rest, B.drop a = E ++ rest → f B a = .ok (x, a + E.length)
  short : ∀ B a m, m < E.length → B.drop a = E.take m → f B a = .error 4
theorem Rds.bnd {α β : Type} {f : Ps α} {g : α → Ps β} {x : α} {y : β} {E F : List UInt8} (h : Rds f x E) (k : Rds (g x) y F) : Rds (f.bnd g) y (E ++ F) := by
  constructor
  · intro B a rest hB
    rw [List.append_assoc] at hB
    have h1 := h.good B a _ hB
    have h2 := k.good B (a + E.length) rest (by rw [← List.drop_drop, hB, List.drop_left])
    exact bnd_ok.2 ⟨x, _, h1, by rw [h2, List.length_append, Nat.add_assoc]⟩
  · intro B a m hm hB
    by_cases hc : m < E.length
    · rw [List.take_append_of_le_length (by omega)] at hB
      exact bnd_err.2 (.inl (h.short B a m hc hB))
    · rw [List.take_append, List.take_of_length_le (by omega)] at hB
      rw [List.length_append] at hm
      refine bnd_err.2 (.inr ⟨x, _, h.good B a _ hB, k.short B _ (m - E.length) (by omega) (by rw [← List.drop_drop, hB, List.drop_left])⟩)
theorem Rds.ok {α : Type} (x : α) : Rds (Ps.ok x) x [] := ⟨fun B a rest _ => rfl, fun B a m hm _ => absurd hm (Nat.not_lt_zero _)⟩
theorem Rds.map {α β : Type} {f : Ps α} {g : α → β} {x : α} {E : List UInt8} (h : Rds f x E) : Rds (f.bnd fun y => .ok (g y)) (g x) E := by
  have := h.bnd (g := fun y => Ps.ok (g y)) (Rds.ok (g x))
  rwa [List.append_nil] at this
theorem rds_one (c : UInt8) : Rds oneP c.toNat [c] := by
  constructor
  · intro B a rest hB
    have : B[a]? = some c := by
      have := congrArg (fun z : List UInt8 => z[0]?) hB
      simpa using this
    unfold oneP; rw [this]; rfl
  · intro B a m hm hB
    have hm0 : m = 0 := by simpa using hm
    subst hm0
    have : B[a]? = none := by
      have := congrArg (fun z : List UInt8 => z[0]?) hB
      simpa using this
    unfold oneP; rw [this]
theorem Rds.of_eq {α : Type} {f g : Ps α} {x : α} {E : List UInt8} (h : Rds f x E) (e : g = f) : Rds g x E := e ▸ h
theorem rds_most (c : UInt8) (lim : Nat) (h : c.toNat ≤ lim) : Rds (mostP lim) c.toNat [c] :=
  (rds_one c).bnd (F := []) (g := fun x => if lim < x then .bad 3 else .ok x) ((Rds.ok c.toNat).of_eq (by rw [if_neg (by omega)]))
theorem rds_nat : ∀ (k i acc n : Nat), 0 < k → n < 128 ^ k → (i = 0 ∨ 0 < n) → Rds (natP k i acc) (acc + n * 128 ^ i) (natB n)
  | 0, i, acc, n, h, _, _ => absurd h (Nat.lt_irrefl 0)
  | k + 1, i, acc, n, _, hn, hi => by
    rw [natB]
    split
    · rename_i h
      have e : n.toUInt8.toNat = n := natB_lt n (by omega)
      refine (rds_one n.toUInt8).bnd (F := []) ((Rds.ok _).of_eq ?_)
      rw [e, if_pos h, if_neg (by omega)]
    · rename_i h
      have e : (n % 128 + 128).toUInt8.toNat = n % 128 + 128 := natB_lt _ (by omega)
      have hk : 0 < k := by
        rcases Nat.eq_zero_or_pos k with rfl | hk
        · simp at hn; omega
        · exact hk
      have hd : n / 128 < 128 ^ k := by
        rw [Nat.div_lt_iff_lt_mul (by omega)]
        rw [Nat.pow_succ] at hn; exact hn
      have ih := rds_nat k (i + 1) (acc + n % 128 * 128 ^ i) (n / 128) hk hd (.inr (by omega))
      have hv : acc + n % 128 * 128 ^ i + n / 128 * 128 ^ (i + 1) = acc + n * 128 ^ i := by
        have : n = n % 128 + n / 128 * 128 := by omega
        have h2 : n * 128 ^ i = (n % 128 + n / 128 * 128) * 128 ^ i := by rw [← this]
        rw [h2, Nat.add_mul, Nat.pow_succ, Nat.mul_assoc, Nat.mul_comm 128 (128 ^ i), Nat.add_assoc]
      rw [hv] at ih
      have := (rds_one (n % 128 + 128).toUInt8).bnd (g := fun x => if x < 128 then (if x = 0 ∧ 0 < i then .bad 3 else .ok (acc + x * 128 ^ i)) else natP k (i + 1) (acc + (x - 128) * 128 ^ i)) (ih.of_eq (by
        rw [e, if_neg (by omega), Nat.add_sub_cancel]))
      exact this
theorem rds_natF (n : Nat) (h : n < 9223372036854775808) : Rds natF n (natB n) := by
  have := rds_nat 9 0 0 n (by omega) (by rw [show (128 : Nat) ^ 9 = 9223372036854775808 by decide]; exact h) (.inl rfl)
  rw [Nat.zero_add, Nat.pow_zero, Nat.mul_one] at this
  exact this
theorem rds_take (s : List UInt8) : Rds (takeP s.length) s s := by
  constructor
  · intro B a rest hB
    have hl := congrArg List.length hB
    rw [List.length_drop, List.length_append] at hl
    unfold takeP
    rw [if_neg (by omega), hB, List.take_left]
  · intro B a m hm hB
    have hl := congrArg List.length hB
    rw [List.length_drop, List.length_take] at hl
    unfold takeP
    rw [if_pos (by omega)]
theorem rds_str (s : List UInt8) (h : s.length < 9223372036854775808) : Rds strP s (strB s) := (rds_natF s.length h).bnd (rds_take s)
theorem zag_zig (z : Int) : zagI (zig z) = z := by
  unfold zagI zig
  split <;> split <;> omega
theorem rds_int (z : Int) (h1 : -100000000000 ≤ z) (h2 : z ≤ 100000000000) : Rds intP z (natB (zig z)) := by
  have := (rds_natF (zig z) (by have := zig_le h1 h2; omega)).map (g := zagI)
  rw [zag_zig] at this; exact this
theorem rds_num {neg : Bool} {dg : List UInt8} {ex : Int} (h : DecOk neg dg ex) : Rds numP (neg, dg, ex) (numB neg dg ex) := by
  unfold numB
  by_cases hd : dg = []
  · subst hd
    obtain ⟨rfl, rfl⟩ := h.1 rfl
    rw [if_pos rfl]
    exact (rds_most 0 2 (by decide)).bnd (F := []) ((Rds.ok _).of_eq (by rw [if_pos (by decide)]))
  · rw [if_neg hd]
    obtain ⟨h1, h2, h3, h4, h5, h6⟩ := h.2 hd
    have rest := ((rds_int ex (by omega) (by omega)).bnd (g := fun x => strP.bnd fun d => Ps.ok (neg, d, x)) ((rds_str dg (by omega)).map (g := fun d => (neg, d, ex))))
    cases neg with
    | false =>
      have := (rds_most 1 2 (by decide)).bnd (g := fun s => if s = 0 then .ok (false, [], 0) else intP.bnd fun x => strP.bnd fun d => .ok (decide (s = 2), d, x)) (rest.of_eq (by rw [if_neg (by decide)]; rfl))
      exact this
    | true =>
      have := (rds_most 2 2 (by decide)).bnd (g := fun s => if s = 0 then .ok (false, [], 0) else intP.bnd fun x => strP.bnd fun d => .ok (decide (s = 2), d, x)) (rest.of_eq (by rw [if_neg (by decide)]; rfl))
      exact this
theorem rds_rep {α : Type} {f : Ps α} {m : α → List UInt8} : ∀ (l : List α), (∀ x, x ∈ l → Rds f x (m x)) → Rds (repP f l.length) l (l.flatMap m)
  | [], _ => Rds.ok []
  | x :: l, h => by
    have := (h x (.head _)).bnd (g := fun y => (repP f l.length).bnd fun r => Ps.ok (y :: r)) ((rds_rep l fun y hy => h y (.tail _ hy)).map (g := fun r => x :: r))
    exact this
mutual
/-- What a value must be that is read from its bytes. -/
def EncV : Vl → Prop
  | .mk s l f => OwnOk s l f ∧ DecOk s.neg s.dg s.ex ∧ (s.kind = 3 → TimeOk s.tk s.td s.tn s.tz) ∧ s.text.length ≤ 65536 ∧ s.bytes.length ≤ 65536 ∧ EncVs l ∧ EncFs f
def EncVs : List Vl → Prop
  | [] => True
  | v :: r => EncV v ∧ EncVs r
def EncD : Fd → Prop
  | .mk k v => k.length ≤ 1024 ∧ EncV v
def EncFs : List Fd → Prop
  | [] => True
  | d :: r => EncD d ∧ EncFs r
end
mutual
def lvV : Vl → Nat
  | .mk _ l f => 1 + max (lvVs l) (lvFs f)
def lvVs : List Vl → Nat
  | [] => 0
  | v :: r => max (lvV v) (lvVs r)
def lvD : Fd → Nat
  | .mk _ v => lvV v
def lvFs : List Fd → Nat
  | [] => 0
  | d :: r => max (lvD d) (lvFs r)
end
theorem EncVs_iff : ∀ {l : List Vl}, EncVs l ↔ ∀ v, v ∈ l → EncV v
  | [] => by unfold EncVs; simp
  | x :: r => by unfold EncVs; rw [EncVs_iff]; simp
theorem EncFs_iff : ∀ {l : List Fd}, EncFs l ↔ ∀ v, v ∈ l → EncD v
  | [] => by unfold EncFs; simp
  | x :: r => by unfold EncFs; rw [EncFs_iff]; simp
theorem lvVs_le {l : List Vl} {n : Nat} : lvVs l ≤ n ↔ ∀ v, v ∈ l → lvV v ≤ n := by
  induction l with
  | nil => unfold lvVs; simp
  | cons x r ih => unfold lvVs; rw [Nat.max_le, ih]; simp
theorem lvFs_le {l : List Fd} {n : Nat} : lvFs l ≤ n ↔ ∀ v, v ∈ l → lvD v ≤ n := by
  induction l with
  | nil => unfold lvFs; simp
  | cons x r ih => unfold lvFs; rw [Nat.max_le, ih]; simp
theorem bytesVs_flat : ∀ l : List Vl, bytesVs l = l.flatMap bytesV
  | [] => rfl
  | v :: r => by unfold bytesVs; rw [bytesVs_flat r]; rfl
theorem bytesFs_flat : ∀ l : List Fd, bytesFs l = l.flatMap bytesD
  | [] => rfl
  | v :: r => by unfold bytesFs; rw [bytesFs_flat r]; rfl
theorem sc_own0 {s : Sc} {l : List Vl} {f : List Fd} (h : OwnOk s l f) {t : Sc} (hk : s.kind = t.kind) (h1 : s.kind = 1 → s.b = t.b) (h1' : s.kind ≠ 1 → t.b = false) (h2 : s.kind = 2 → s.neg = t.neg ∧ s.dg = t.dg ∧ s.ex = t.ex) (h2' : s.kind ≠ 2 → t.neg = false ∧ t.dg = [] ∧ t.ex = 0)
    (h3 : s.kind = 3 → s.tk = t.tk ∧ s.td = t.td ∧ s.tn = t.tn ∧ s.tz = t.tz) (h3' : s.kind ≠ 3 → t.tk = 0 ∧ t.td = 0 ∧ t.tn = 0 ∧ t.tz = 0) (h4 : s.kind = 4 → s.text = t.text) (h4' : s.kind ≠ 4 → t.text = []) (h5 : s.kind = 5 → s.bytes = t.bytes) (h5' : s.kind ≠ 5 → t.bytes = []) : s = t := by
  have a1 : s.b = t.b := by
    by_cases k : s.kind = 1
    · exact h1 k
    · rw [h.bo k, h1' k]
  have a2 : s.neg = t.neg ∧ s.dg = t.dg ∧ s.ex = t.ex := by
    by_cases k : s.kind = 2
    · exact h2 k
    · obtain ⟨x1, x2, x3⟩ := h.nu k
      obtain ⟨y1, y2, y3⟩ := h2' k
      rw [x1, x2, x3, y1, y2, y3]; exact ⟨rfl, rfl, rfl⟩
  have a3 : s.tk = t.tk ∧ s.td = t.td ∧ s.tn = t.tn ∧ s.tz = t.tz := by
    by_cases k : s.kind = 3
    · exact h3 k
    · obtain ⟨x1, x2, x3, x4⟩ := h.ti k
      obtain ⟨y1, y2, y3, y4⟩ := h3' k
      rw [x1, x2, x3, x4, y1, y2, y3, y4]; exact ⟨rfl, rfl, rfl, rfl⟩
  have a4 : s.text = t.text := by
    by_cases k : s.kind = 4
    · exact h4 k
    · rw [h.tx k, h4' k]
  have a5 : s.bytes = t.bytes := by
    by_cases k : s.kind = 5
    · exact h5 k
    · rw [h.by_ k, h5' k]
  cases s; cases t; simp_all
end Go.TVF
end

section
namespace Go.TVF
open Go Go.Proofs
set_option linter.unusedVariables false
set_option linter.unusedSimpArgs false
theorem kb {s : Sc} {k : Nat} (h : s.kind = (k : Nat)) (hk : k ≤ 7) : s.kind.toNat.toUInt8.toNat = k := by
  rw [h, Int.toNat_natCast, natB_lt _ (by omega)]
theorem rds_value : ∀ (d : Nat) (v : Vl), lvV v ≤ d → v.sz ≤ 2000000 → EncV v → Rds (rdV d) v (bytesV v)
  | 0, .mk s l f, h, _, _ => by unfold lvV at h; omega
  | d + 1, .mk s l f, h, hz, hE => by
    have hsz := szs s l f
    have hll := vsSz_len l
    have hfl := fsSz_len f
    unfold lvV at h
    unfold EncV at hE
    obtain ⟨own, dec, tim, htx, hby, hl, hf⟩ := hE
    have k0 := own.k0
    have k7 := own.k7
    obtain ⟨k, hk⟩ : ∃ k : Nat, s.kind = (k : Nat) := ⟨s.kind.toNat, by omega⟩
    have hk7 : k ≤ 7 := by omega
    have hkb := kb hk hk7
    have main : ∀ (g : Ps Vl) (F : List UInt8), Rds g (.mk s l f) F → (if k = 1 then (mostP 1).bnd fun b => Ps.ok (Vl.mk { scK 1 with b := decide (b = 1) } [] [])
      else if k = 2 then numP.bnd fun x => .ok (.mk { scK 2 with neg := x.1, dg := x.2.1, ex := x.2.2 } [] [])
      else if k = 3 then oneP.bnd fun a => natF.bnd fun b => natF.bnd fun c => intP.bnd fun z => .ok (.mk { scK 3 with tk := a, td := b, tn := c, tz := z } [] [])
      else if k = 4 then strP.bnd fun s => .ok (.mk { scK 4 with text := s } [] [])
      else if k = 5 then strP.bnd fun s => .ok (.mk { scK 5 with bytes := s } [] [])
      else if k = 6 then natF.bnd fun n => (repP (rdV d) n).bnd fun l => .ok (.mk (scK 6) l [])
      else if k = 7 then natF.bnd fun n => (repP (strP.bnd fun key => (rdV d).bnd fun v => .ok (Fd.mk key v)) n).bnd fun f => .ok (.mk (scK 7) [] f)
      else .ok (.mk (scK k) [] [])) = g → bytesV (.mk s l f) = s.kind.toNat.toUInt8 :: F → Rds (rdV (d + 1)) (.mk s l f) (bytesV (.mk s l f)) := by
      intro g F hg he hb
      rw [hb, rdV.eq_2 d]
      have := (rds_most s.kind.toNat.toUInt8 7 (by omega)).bnd (F := F) (y := Vl.mk s l f) (g := fun k => if k = 1 then (mostP 1).bnd fun b => Ps.ok (Vl.mk { scK 1 with b := decide (b = 1) } [] [])
        else if k = 2 then numP.bnd fun x => .ok (.mk { scK 2 with neg := x.1, dg := x.2.1, ex := x.2.2 } [] [])
        else if k = 3 then oneP.bnd fun a => natF.bnd fun b => natF.bnd fun c => intP.bnd fun z => .ok (.mk { scK 3 with tk := a, td := b, tn := c, tz := z } [] [])
        else if k = 4 then strP.bnd fun s => .ok (.mk { scK 4 with text := s } [] [])
        else if k = 5 then strP.bnd fun s => .ok (.mk { scK 5 with bytes := s } [] [])
        else if k = 6 then natF.bnd fun n => (repP (rdV d) n).bnd fun l => .ok (.mk (scK 6) l [])
        else if k = 7 then natF.bnd fun n => (repP (strP.bnd fun key => (rdV d).bnd fun v => .ok (Fd.mk key v)) n).bnd fun f => .ok (.mk (scK 7) [] f)
        else .ok (.mk (scK k) [] [])) (by rw [hkb]; exact hg.of_eq he)
      exact this
    have nols : s.kind ≠ 6 → l = [] := own.ls
    have nofs : s.kind ≠ 7 → f = [] := own.fs
    have z0 : ∀ j : Nat, (scK j).b = false ∧ (scK j).neg = false ∧ (scK j).dg = [] ∧ (scK j).ex = 0 ∧ (scK j).tk = 0 ∧ (scK j).td = 0 ∧ (scK j).tn = 0 ∧ (scK j).tz = 0 ∧ (scK j).text = [] ∧ (scK j).bytes = [] := fun j => ⟨rfl, rfl, rfl, rfl, rfl, rfl, rfl, rfl, rfl, rfl⟩
    by_cases h1 : k = 1
    · subst h1
      have e1 := nols (by omega)
      have e2 := nofs (by omega)
      subst e1 e2
      have hs : s = { scK 1 with b := s.b } := sc_own0 own hk (fun _ => rfl) (by omega) (by omega) (fun _ => ⟨rfl, rfl, rfl⟩) (by omega) (fun _ => ⟨rfl, rfl, rfl, rfl⟩) (by omega) (fun _ => rfl) (by omega) (fun _ => rfl)
      refine main _ [if s.b then 1 else 0] ?_ (if_pos rfl) (by rw [bytesV, if_pos (by omega)])
      have := (rds_most (if s.b then 1 else 0) 1 (by cases s.b <;> decide)).map (g := fun b => Vl.mk { scK 1 with b := decide (b = 1) } [] [])
      rw [show decide ((if s.b then (1 : UInt8) else 0).toNat = 1) = s.b by cases s.b <;> decide, ← hs] at this
      exact this
    by_cases h2 : k = 2
    · subst h2
      have e1 := nols (by omega)
      have e2 := nofs (by omega)
      subst e1 e2
      have hs : s = { scK 2 with neg := s.neg, dg := s.dg, ex := s.ex } := sc_own0 own hk (by omega) (fun _ => rfl) (fun _ => ⟨rfl, rfl, rfl⟩) (by omega) (by omega) (fun _ => ⟨rfl, rfl, rfl, rfl⟩) (by omega) (fun _ => rfl) (by omega) (fun _ => rfl)
      refine main _ (numB s.neg s.dg s.ex) ?_ ((if_neg (by omega)).trans (if_pos rfl)) (by rw [bytesV, if_neg (by omega), if_pos (by omega)])
      have := (rds_num dec).map (g := fun x => Vl.mk { scK 2 with neg := x.1, dg := x.2.1, ex := x.2.2 } [] [])
      rw [← hs] at this
      exact this
    by_cases h3 : k = 3
    · subst h3
      have e1 := nols (by omega)
      have e2 := nofs (by omega)
      subst e1 e2
      have t := tim hk
      obtain ⟨t1, t2, t3, t4, t5, t6, t7, t8, _⟩ := t
      have hs : s = { scK 3 with tk := s.tk, td := s.td, tn := s.tn, tz := s.tz } := sc_own0 own hk (by omega) (fun _ => rfl) (by omega) (fun _ => ⟨rfl, rfl, rfl⟩) (fun _ => ⟨rfl, rfl, rfl, rfl⟩) (by omega) (by omega) (fun _ => rfl) (by omega) (fun _ => rfl)
      have c1 : ((s.tk.toNat.toUInt8.toNat : Nat) : Int) = s.tk := by rw [natB_lt _ (by omega)]; omega
      have c2 : ((s.td.toNat : Nat) : Int) = s.td := by omega
      have c3 : ((s.tn.toNat : Nat) : Int) = s.tn := by omega
      refine main _ (s.tk.toNat.toUInt8 :: (natB s.td.toNat ++ (natB s.tn.toNat ++ natB (zig s.tz)))) ?_ ((if_neg (by omega)).trans ((if_neg (by omega)).trans (if_pos rfl))) (by rw [bytesV, if_neg (by omega), if_neg (by omega), if_pos (by omega)])
      have r4 := (rds_int s.tz (by omega) (by omega)).map (g := fun z => Vl.mk { scK 3 with tk := ((s.tk.toNat.toUInt8.toNat : Nat) : Int), td := ((s.td.toNat : Nat) : Int), tn := ((s.tn.toNat : Nat) : Int), tz := z } [] [])
      have r3 := (rds_natF s.tn.toNat (by omega)).bnd (g := fun c => intP.bnd fun z => Ps.ok (Vl.mk { scK 3 with tk := ((s.tk.toNat.toUInt8.toNat : Nat) : Int), td := ((s.td.toNat : Nat) : Int), tn := ((c : Nat) : Int), tz := z } [] [])) r4
      have r2 := (rds_natF s.td.toNat (by omega)).bnd (g := fun b => natF.bnd fun c => intP.bnd fun z => Ps.ok (Vl.mk { scK 3 with tk := ((s.tk.toNat.toUInt8.toNat : Nat) : Int), td := ((b : Nat) : Int), tn := ((c : Nat) : Int), tz := z } [] [])) r3
      have r1 := (rds_one s.tk.toNat.toUInt8).bnd (g := fun a => natF.bnd fun b => natF.bnd fun c => intP.bnd fun z => Ps.ok (Vl.mk { scK 3 with tk := ((a : Nat) : Int), td := ((b : Nat) : Int), tn := ((c : Nat) : Int), tz := z } [] [])) r2
      rw [c1, c2, c3, ← hs] at r1
      exact r1
    by_cases h4 : k = 4
    · subst h4
      have e1 := nols (by omega)
      have e2 := nofs (by omega)
      subst e1 e2
      have hs : s = { scK 4 with text := s.text } := sc_own0 own hk (by omega) (fun _ => rfl) (by omega) (fun _ => ⟨rfl, rfl, rfl⟩) (by omega) (fun _ => ⟨rfl, rfl, rfl, rfl⟩) (fun _ => rfl) (by omega) (by omega) (fun _ => rfl)
      refine main _ (strB s.text) ?_ ((if_neg (by omega)).trans ((if_neg (by omega)).trans ((if_neg (by omega)).trans (if_pos rfl)))) (by rw [bytesV, if_neg (by omega), if_neg (by omega), if_neg (by omega), if_pos (by omega)])
      have := (rds_str s.text (by omega)).map (g := fun x => Vl.mk { scK 4 with text := x } [] [])
      rw [← hs] at this
      exact this
    by_cases h5 : k = 5
    · subst h5
      have e1 := nols (by omega)
      have e2 := nofs (by omega)
      subst e1 e2
      have hs : s = { scK 5 with bytes := s.bytes } := sc_own0 own hk (by omega) (fun _ => rfl) (by omega) (fun _ => ⟨rfl, rfl, rfl⟩) (by omega) (fun _ => ⟨rfl, rfl, rfl, rfl⟩) (by omega) (fun _ => rfl) (fun _ => rfl) (by omega)
      refine main _ (strB s.bytes) ?_ ((if_neg (by omega)).trans ((if_neg (by omega)).trans ((if_neg (by omega)).trans ((if_neg (by omega)).trans (if_pos rfl))))) (by rw [bytesV, if_neg (by omega), if_neg (by omega), if_neg (by omega), if_neg (by omega), if_pos (by omega)])
      have := (rds_str s.bytes (by omega)).map (g := fun x => Vl.mk { scK 5 with bytes := x } [] [])
      rw [← hs] at this
      exact this
    by_cases h6 : k = 6
    · subst h6
      have e2 := nofs (by omega)
      subst e2
      have hs : s = scK 6 := sc_own0 own hk (by omega) (fun _ => rfl) (by omega) (fun _ => ⟨rfl, rfl, rfl⟩) (by omega) (fun _ => ⟨rfl, rfl, rfl, rfl⟩) (by omega) (fun _ => rfl) (by omega) (fun _ => rfl)
      refine main _ (natB l.length ++ bytesVs l) ?_ ((if_neg (by omega)).trans ((if_neg (by omega)).trans ((if_neg (by omega)).trans ((if_neg (by omega)).trans ((if_neg (by omega)).trans (if_pos rfl)))))) (by rw [bytesV, if_neg (by omega), if_neg (by omega), if_neg (by omega), if_neg (by omega), if_neg (by omega), if_pos (by omega)])
      have hrep : Rds (repP (rdV d) l.length) l (bytesVs l) := by
        rw [bytesVs_flat]
        exact rds_rep l fun x hx => rds_value d x (by have := lvVs_le.1 (show lvVs l ≤ d by omega) x hx; exact this) (by have := vsSz_mem hx; omega) (EncVs_iff.1 hl x hx)
      have := (rds_natF l.length (by omega)).bnd (g := fun n => (repP (rdV d) n).bnd fun l => Ps.ok (Vl.mk (scK 6) l [])) (hrep.map (g := fun l => Vl.mk (scK 6) l []))
      rw [← hs] at this
      exact hs ▸ this
    by_cases h7 : k = 7
    · subst h7
      have e1 := nols (by omega)
      subst e1
      have hs : s = scK 7 := sc_own0 own hk (by omega) (fun _ => rfl) (by omega) (fun _ => ⟨rfl, rfl, rfl⟩) (by omega) (fun _ => ⟨rfl, rfl, rfl, rfl⟩) (by omega) (fun _ => rfl) (by omega) (fun _ => rfl)
      refine main _ (natB f.length ++ bytesFs f) ?_ ((if_neg (by omega)).trans ((if_neg (by omega)).trans ((if_neg (by omega)).trans ((if_neg (by omega)).trans ((if_neg (by omega)).trans ((if_neg (by omega)).trans (if_pos rfl))))))) (by rw [bytesV, if_neg (by omega), if_neg (by omega), if_neg (by omega), if_neg (by omega), if_neg (by omega), if_neg (by omega), if_pos (by omega)])
      have hrep : Rds (repP (strP.bnd fun key => (rdV d).bnd fun v => Ps.ok (Fd.mk key v)) f.length) f (bytesFs f) := by
        rw [bytesFs_flat]
        refine rds_rep f fun x hx => ?_
        have hlv := lvFs_le.1 (show lvFs f ≤ d by omega) x hx
        have hzx := fsSz_mem hx
        have hex := EncFs_iff.1 hf x hx
        obtain ⟨key, w⟩ := x
        rw [szd] at hzx
        unfold EncD at hex
        unfold lvD at hlv
        unfold bytesD
        exact (rds_str key (by omega)).bnd (g := fun key => (rdV d).bnd fun v => Ps.ok (Fd.mk key v)) ((rds_value d w hlv (by omega) hex.2).map (g := fun v => Fd.mk key v))
      have := (rds_natF f.length (by omega)).bnd (g := fun n => (repP (strP.bnd fun key => (rdV d).bnd fun v => Ps.ok (Fd.mk key v)) n).bnd fun f => Ps.ok (Vl.mk (scK 7) [] f)) (hrep.map (g := fun f => Vl.mk (scK 7) [] f))
      rw [← hs] at this
      exact hs ▸ this
    · have e1 := nols (by omega)
      have e2 := nofs (by omega)
      subst e1 e2
      have hs : s = scK k := sc_own0 own hk (by omega) (fun _ => rfl) (by omega) (fun _ => ⟨rfl, rfl, rfl⟩) (by omega) (fun _ => ⟨rfl, rfl, rfl, rfl⟩) (by omega) (fun _ => rfl) (by omega) (fun _ => rfl)
      refine main _ [] (Rds.ok _) ((if_neg (by omega)).trans ((if_neg (by omega)).trans ((if_neg (by omega)).trans ((if_neg (by omega)).trans ((if_neg (by omega)).trans ((if_neg (by omega)).trans ((if_neg (by omega)).trans (by rw [← hs])))))))) (by rw [bytesV, if_neg (by omega), if_neg (by omega), if_neg (by omega), if_neg (by omega), if_neg (by omega), if_neg (by omega), if_neg (by omega)])
end Go.TVF
end

section
namespace Go.TVF
open Go Go.Proofs
set_option linter.unusedVariables false
set_option linter.unusedSimpArgs false
mutual
theorem Valid.enc : ∀ {v : Vl}, Valid v → EncV v
  | .mk s l f, h => by
    unfold Valid at h
    unfold EncV
    obtain ⟨h1, h2, h3⟩ := h
    exact ⟨h1.own, h1.dec, h1.time, h1.tlen, h1.blen, Valids.enc h2, Validf.enc h3 fun d hd => ((keysE_nd f [] h1.keys).2 d hd).2.2⟩
theorem Valids.enc : ∀ {l : List Vl}, Valids l → EncVs l
  | [], h => by unfold EncVs; trivial
  | v :: r, h => by
    unfold Valids at h
    unfold EncVs
    exact ⟨Valid.enc h.1, Valids.enc h.2⟩
theorem ValidD.enc : ∀ {d : Fd}, ValidD d → d.key.length ≤ 1024 → EncD d
  | .mk k v, h, hk => by
    unfold ValidD at h
    unfold EncD
    exact ⟨hk, Valid.enc h⟩
theorem Validf.enc : ∀ {f : List Fd}, Validf f → (∀ d, d ∈ f → d.key.length ≤ 1024) → EncFs f
  | [], h, _ => by unfold EncFs; trivial
  | d :: r, h, hk => by
    unfold Validf at h
    unfold EncFs
    exact ⟨ValidD.enc h.1 (hk d (.head _)), Validf.enc h.2 fun x hx => hk x (.tail _ hx)⟩
end
theorem sortVs_nil {l : List Vl} (h : l = []) : sortVs l = [] := by subst h; rfl
theorem sortFs_nil {f : List Fd} (h : f = []) : sortFd (sortFs f) = [] := by subst h; rfl
mutual
theorem EncV.sort : ∀ {v : Vl}, EncV v → EncV (sortV v)
  | .mk s l f, h => by
    unfold EncV at h
    unfold sortV EncV
    obtain ⟨o, h1, h2, h3, h4, h5, h6⟩ := h
    exact ⟨⟨o.k0, o.k7, o.bo, o.nu, o.ti, o.tx, o.by_, fun h => sortVs_nil (o.ls h), fun h => sortFs_nil (o.fs h)⟩, h1, h2, h3, h4, EncVs.sort h5, EncFs_iff.2 fun d hd => EncFs_iff.1 (EncFs.sort h6) d ((sortFd_perm _).mem_iff.1 hd)⟩
theorem EncVs.sort : ∀ {l : List Vl}, EncVs l → EncVs (sortVs l)
  | [], h => by unfold sortVs EncVs; trivial
  | v :: r, h => by
    unfold EncVs at h
    unfold sortVs EncVs
    exact ⟨EncV.sort h.1, EncVs.sort h.2⟩
theorem EncD.sort : ∀ {d : Fd}, EncD d → EncD (sortD d)
  | .mk k v, h => by unfold EncD at h; unfold sortD EncD; exact ⟨h.1, EncV.sort h.2⟩
theorem EncFs.sort : ∀ {f : List Fd}, EncFs f → EncFs (sortFs f)
  | [], h => by unfold sortFs EncFs; trivial
  | d :: r, h => by
    unfold EncFs at h
    unfold sortFs EncFs
    exact ⟨EncD.sort h.1, EncFs.sort h.2⟩
end
mutual
theorem lv_sort : ∀ v : Vl, lvV (sortV v) ≤ lvV v
  | .mk s l f => by
    have h1 := lvs_sort l
    have h2 := lvf_sort f
    have h3 : lvFs (sortFd (sortFs f)) ≤ lvFs (sortFs f) := lvFs_le.2 fun d hd => lvFs_le.1 (Nat.le_refl _) d ((sortFd_perm _).mem_iff.1 hd)
    unfold sortV lvV
    omega
theorem lvs_sort : ∀ l : List Vl, lvVs (sortVs l) ≤ lvVs l
  | [] => by unfold sortVs; exact Nat.le_refl _
  | v :: r => by
    have := lv_sort v
    have := lvs_sort r
    unfold sortVs lvVs; omega
theorem lvd_sort : ∀ d : Fd, lvD (sortD d) ≤ lvD d
  | .mk k v => by unfold sortD lvD; exact lv_sort v
theorem lvf_sort : ∀ f : List Fd, lvFs (sortFs f) ≤ lvFs f
  | [] => by unfold sortFs; exact Nat.le_refl _
  | d :: r => by
    have := lvd_sort d
    have := lvf_sort r
    unfold sortFs lvFs; omega
end
mutual
theorem chkV_lv : ∀ (v : Vl) (d n : Nat), (chkV d n v).2 = 0 → lvV v ≤ 49 - d
  | .mk s l f, d, n, h => by
    unfold chkV at h
    split at h
    · cases h
    split at h
    · cases h
    split at h
    · rename_i h1; exact absurd h h1
    · obtain ⟨h1, h2⟩ := thenE_zero h
      have := chkVs_lv l (d + 1) (n + 1) h1
      have := chkFs_lv f (d + 1) _ h2
      unfold lvV; omega
theorem chkVs_lv : ∀ (l : List Vl) (d n : Nat), (chkVs d n l).2 = 0 → lvVs l ≤ 49 - d
  | [], d, n, h => by unfold lvVs; omega
  | v :: r, d, n, h => by
    unfold chkVs at h
    obtain ⟨h1, h2⟩ := thenE_zero h
    have := chkV_lv v d n h1
    have := chkVs_lv r d _ h2
    unfold lvVs; omega
theorem chkD_lv : ∀ (x : Fd) (d n : Nat), (chkD d n x).2 = 0 → lvD x ≤ 49 - d
  | .mk k v, d, n, h => by unfold chkD at h; unfold lvD; exact chkV_lv v d n h
theorem chkFs_lv : ∀ (f : List Fd) (d n : Nat), (chkFs d n f).2 = 0 → lvFs f ≤ 49 - d
  | [], d, n, h => by unfold lvFs; omega
  | x :: r, d, n, h => by
    unfold chkFs at h
    obtain ⟨h1, h2⟩ := thenE_zero h
    have := chkD_lv x d n h1
    have := chkFs_lv r d _ h2
    unfold lvFs; omega
end
theorem rds_sorted {v : Vl} (h : checkV v = 0) (hN : v.sz ≤ 2000000) : Rds (rdV 48) (sortV v) (bytesV (sortV v)) :=
  rds_value 48 _ (Nat.le_trans (lv_sort v) (chkV_lv v 1 0 h)) (by rw [sortV_sz]; exact hN) (Valid.enc (check_valid h)).sort
theorem bytesV_pos (v : Vl) : 0 < (bytesV v).length := by cases v; unfold bytesV; simp
theorem decR_cut {v : Vl} (h : checkV v = 0) (hN : v.sz ≤ 2000000) {m : Nat} (hm : m < (bytesV (sortV v)).length) : rdV 48 ((bytesV (sortV v)).take m) 0 = .error 4 :=
  (rds_sorted h hN).short _ 0 m hm (by rw [List.drop_zero])
end Go.TVF
end

section
namespace Go.TVF
open Go Go.Proofs
set_option linter.unusedVariables false
set_option linter.unusedSimpArgs false
theorem lcuts_ok {v : Vl} (hN : v.sz ≤ 2000000) {a : Int} (h0 : 0 ≤ a) (h1 : a ≤ 65535) {st : St} {cs : List TV} {K : Bool → St → Prop} (h : VlR st v cs) (hk : ∀ st', K true st') : CallT PR fn_datakitlaw10_CanonCuts [.agg cs, .int .u16 a] [.one .bool] st K := by
  have a0 := h
  have hke := Keeps.refl st
  cases v with
  | mk s l f =>
  obtain ⟨_, _, _, _, _, rfl, _⟩ := h.cells
  refine vc_datakitlaw10_CanonCuts _ _ _ _ _ _ _ _ _ _ _ _ _ a st K (Small_ok hN a0 hke fun b => BIf_bool (fun _ => hk st) fun _ => rCheck_ok hN a0 hke fun st1 e1 => BIf_intro (fun _ => hk st1) fun g => ?_)
  have hc : checkV (.mk s l f) = 0 := by omega
  refine Encode_ok hN a0 (hke.trans e1.keeps) fun u st2 e2 hu => ?_
  rw [hc]
  have hE : encV (.mk s l f) = bytesV (sortV (.mk s l f)) := by unfold encV; rw [if_pos hc]
  rw [hE] at hu
  have hpos := bytesV_pos (sortV (.mk s l f))
  have hlen := encode_len hc hN
  have hcut := fun m hm => decR_cut (m := m) hc hN hm
  generalize bytesV (sortV (.mk s l f)) = B at hu hpos hlen hcut
  have hls := hu.len
  refine BIf_intro (fun g => absurd rfl g) fun _ => need_intro hu.isSl ?_
  rw [hls]
  refine BIf_intro (fun g => by omega) fun g2 => need_intro hu.isSl (need_intro (decide_eq_true g2) ?_)
  obtain ⟨n, rfl⟩ : ∃ n : Nat, a = (n : Nat) := ⟨a.toNat, by omega⟩
  have hm : Int.tmod (IntKind.i64.wrap ((n : Nat) : Int)) ((B.length : Nat) : Int) = ((n % B.length : Nat) : Int) := by
    rw [wrap64 _ (by omega) (by omega), Int.tmod_eq_emod_of_nonneg (by omega)]; omega
  have hlt : n % B.length < B.length := Nat.mod_lt _ hpos
  rw [hm, Int.toNat_natCast]
  have hs := slB hu (Nat.le_of_lt hlt) (Nat.zero_le _)
  rw [List.drop_zero, Nat.sub_zero] at hs
  have hr := hcut _ hlt
  have hd : decR (B.take (n % B.length)) = (vZ, 0, 4) := by unfold decR; rw [hr]
  refine ⟨⟨Rd.isLst hu, by omega, by omega⟩, ?_⟩
  refine Decode_ok ⟨hs, by rw [List.length_take]; omega⟩ (fun w b hw => by rw [hr] at hw; cases hw) fun s' wb wl wf st3 e3 p1 p2 p3 _ => need_intro (one13 p1 p2 p3) ?_
  rw [hd]
  exact BIf_intro (fun _ => hk st3) fun g => absurd rfl g
end Go.TVF
end

section
namespace Go.TVF
open Go Go.Proofs
set_option linter.unusedVariables false
abbrev decQs : List (Nat × (Nat → List TV → Prop)) := [(1, cellQ .bool), (1, strQ), (1, cellQ (.int .i64))]
abbrev timeQs : List (Nat × (Nat → List TV → Prop)) := [(1, cellQ (.int .i64)), (1, cellQ (.int .i64)), (1, cellQ (.int .i64)), (1, cellQ (.int .i64))]
def valQ (k : Nat) (tv : List TV) : Prop := ∃ v : Vl, VlR St.zero v tv ∧ v.sz ≤ k
def fldQ (k : Nat) (tv : List TV) : Prop := ∃ d : Fd, FdR St.zero d tv ∧ d.sz ≤ k
abbrev sliceQ (c : Nat) (S : Nat → List TV → Prop) (k : Nat) (tv : List TV) : Prop := ∃ v, tv = [v] ∧ SlQ c S k v
abbrev inQ (Ss : List (Nat × (Nat → List TV → Prop))) (k : Nat) (tv : List TV) : Prop := ∃ k', k' + 1 ≤ k ∧ EachQ Ss k' tv
abbrev valQs : List (Nat × (Nat → List TV → Prop)) := [(1, cellQ (.int .i64)), (1, cellQ .bool), (3, inQ decQs), (4, inQ timeQs), (1, strQ), (1, sliceQ 1 (cellQ (.int .u8))), (1, sliceQ 13 valQ), (1, sliceQ 14 fldQ)]
abbrev fldQs : List (Nat × (Nat → List TV → Prop)) := [(1, strQ), (13, valQ)]
theorem SlQ.bytes {k : Nat} {v : TV} (h : SlQ 1 (cellQ (.int .u8)) k v) : ∃ l : List UInt8, SlR St.zero 1 v l.length (bytesT l) ∧ l.length ≤ k := by
  rcases h with rfl | ⟨ps, rfl, h, hk⟩
  · exact ⟨[], .inl (.inl ⟨rfl, rfl, rfl⟩), Nat.zero_le _⟩
  · have : ∃ l : List UInt8, l.length = ps.length ∧ (ps.map (·.1)).flatten = bytesT l ∧ l.length ≤ (ps.map (·.2)).sum := by
      clear hk
      induction ps with
      | nil => exact ⟨[], rfl, rfl, Nat.zero_le _⟩
      | cons p r ih =>
        obtain ⟨l, h1, h2, h3⟩ := ih (fun q hq => h q (.tail _ hq))
        obtain ⟨hl, ⟨n, ys, hp, hw, rfl⟩, h1k⟩ := h p (.head _)
        have hn : 0 ≤ n ∧ n ≤ 255 := by simpa [Lit.wf, IntKind.min, IntKind.max, IntKind.signed, IntKind.bits] using hw
        refine ⟨n.toNat.toUInt8 :: l, by simp [h1], ?_, by simp only [List.length_cons, List.map_cons, List.sum_cons]; omega⟩
        rw [List.map_cons, List.flatten_cons, hp, h2]
        simp only [bytesT, List.map_cons, byteT, List.cons_append, List.nil_append, List.cons.injEq, and_true, TV.int.injEq, true_and]
        have := natB_lt n.toNat (by omega)
        omega
    obtain ⟨l, h1, h2, h3⟩ := this
    exact ⟨l, .inl (.inr ⟨.non, by rw [h1, h2]⟩), by omega⟩
theorem SlQ.vals {k : Nat} {v : TV} (h : SlQ 13 valQ k v) : ∃ l xl, SlR St.zero 13 v l.length xl ∧ VsR St.zero l xl ∧ vsSz l ≤ k := by
  rcases h with rfl | ⟨ps, rfl, h, hk⟩
  · exact ⟨[], [], .inl (.inl ⟨rfl, rfl, rfl⟩), by unfold VsR; rfl, by unfold vsSz; exact Nat.zero_le _⟩
  · have : ∃ l : List Vl, l.length = ps.length ∧ VsR St.zero l (ps.map (·.1)).flatten ∧ vsSz l ≤ (ps.map (·.2)).sum := by
      clear hk
      induction ps with
      | nil => exact ⟨[], rfl, by unfold VsR; rfl, by unfold vsSz; exact Nat.zero_le _⟩
      | cons p r ih =>
        obtain ⟨l, h1, h2, h3⟩ := ih (fun q hq => h q (.tail _ hq))
        obtain ⟨hl, v, hv, hz⟩ := h p (.head _)
        exact ⟨v :: l, by simp [h1], by unfold VsR; exact ⟨_, _, by simp, hv, h2⟩, by unfold vsSz; simp only [List.map_cons, List.sum_cons]; omega⟩
    obtain ⟨l, h1, h2, h3⟩ := this
    exact ⟨l, _, .inl (.inr ⟨.non, by rw [h1]⟩), h2, by omega⟩
theorem SlQ.flds {k : Nat} {v : TV} (h : SlQ 14 fldQ k v) : ∃ l xl, SlR St.zero 14 v l.length xl ∧ FsR St.zero l xl ∧ fsSz l ≤ k := by
  rcases h with rfl | ⟨ps, rfl, h, hk⟩
  · exact ⟨[], [], .inl (.inl ⟨rfl, rfl, rfl⟩), by unfold FsR; rfl, by unfold fsSz; exact Nat.zero_le _⟩
  · have : ∃ l : List Fd, l.length = ps.length ∧ FsR St.zero l (ps.map (·.1)).flatten ∧ fsSz l ≤ (ps.map (·.2)).sum := by
      clear hk
      induction ps with
      | nil => exact ⟨[], rfl, by unfold FsR; rfl, by unfold fsSz; exact Nat.zero_le _⟩
      | cons p r ih =>
        obtain ⟨l, h1, h2, h3⟩ := ih (fun q hq => h q (.tail _ hq))
        obtain ⟨hl, v, hv, hz⟩ := h p (.head _)
        exact ⟨v :: l, by simp [h1], by unfold FsR; exact ⟨_, _, by simp, hv, h2⟩, by unfold fsSz; simp only [List.map_cons, List.sum_cons]; omega⟩
    obtain ⟨l, h1, h2, h3⟩ := this
    exact ⟨l, _, .inl (.inr ⟨.non, by rw [h1]⟩), h2, by omega⟩
theorem cellQ_int {kd : IntKind} {k : Nat} {tv : List TV} (h : cellQ (.int kd) k tv) : ∃ n, tv = [.int kd n] := by
  obtain ⟨⟨n, ys, rfl, _, rfl⟩, _⟩ := h; exact ⟨n, rfl⟩
theorem cellQ_bool {k : Nat} {tv : List TV} (h : cellQ .bool k tv) : ∃ b, tv = [.bool b] := by
  obtain ⟨⟨n, ys, rfl, rfl⟩, _⟩ := h; exact ⟨n, rfl⟩
theorem each_field {k : Nat} {tv : List TV} (h : inQ fldQs k tv) : fldQ k tv := by
  obtain ⟨k0, hk0, _, _, k1, k2, rfl, _, ⟨key, rfl, _, hkey⟩, ⟨_, _, k3, k4, rfl, _, ⟨v, hv, hz⟩, rfl, h2⟩, h1⟩ := h
  refine ⟨.mk key v, by unfold FdR; exact ⟨_, by simp, hv⟩, by unfold Fd.sz; omega⟩
theorem each_value {k : Nat} {tv : List TV} (h : inQ valQs k tv) : valQ k tv := by
  obtain ⟨k0, hk0, _, _, a1, r1, rfl, _, q1, ⟨_, _, a2, r2, rfl, _, q2, ⟨_, _, a3, r3, rfl, _, q3, ⟨_, _, a4, r4, rfl, _, q4, ⟨_, _, a5, r5, rfl, _, q5, ⟨_, _, a6, r6, rfl, _, q6, ⟨_, _, a7, r7, rfl, _, q7, ⟨_, _, a8, r8, rfl, _, q8, rfl, h8⟩, h7⟩, h6⟩, h5⟩, h4⟩, h3⟩, h2⟩, h1⟩ := h
  obtain ⟨kd, rfl⟩ := cellQ_int q1
  obtain ⟨bo, rfl⟩ := cellQ_bool q2
  obtain ⟨d0, hd0, _, _, d1, d2, rfl, _, p1, ⟨_, _, d3, d4, rfl, _, ⟨dg, rfl, _, hdg⟩, ⟨_, _, d5, d6, rfl, _, p3, rfl, g3⟩, g2⟩, g1⟩ := q3
  obtain ⟨ng, rfl⟩ := cellQ_bool p1
  obtain ⟨ex, rfl⟩ := cellQ_int p3
  obtain ⟨_, _, _, _, _, _, rfl, _, t1, ⟨_, _, _, _, rfl, _, t2, ⟨_, _, _, _, rfl, _, t3, ⟨_, _, _, _, rfl, _, t4, rfl, _⟩, _⟩, _⟩, _⟩ := q4
  obtain ⟨tk, rfl⟩ := cellQ_int t1
  obtain ⟨td, rfl⟩ := cellQ_int t2
  obtain ⟨tn, rfl⟩ := cellQ_int t3
  obtain ⟨tz, rfl⟩ := cellQ_int t4
  obtain ⟨tx, rfl, _, htx⟩ := q5
  obtain ⟨ub, rfl, q6⟩ := q6
  obtain ⟨ul, rfl, q7⟩ := q7
  obtain ⟨uf, rfl, q8⟩ := q8
  obtain ⟨bs, hb, hbl⟩ := q6.bytes
  obtain ⟨l, xl, hl, hlv, hlz⟩ := q7.vals
  obtain ⟨f, xf, hf, hfv, hfz⟩ := q8.flds
  refine ⟨.mk ⟨kd, bo, ng, dg, ex, tk, td, tn, tz, tx, bs⟩ l f, ?_, by rw [szs]; simp only; omega⟩
  unfold VlR
  exact ⟨ub, ul, uf, xl, xf, by simp, hb, hl, hlv, hf, hfv⟩
/-- A value that came in, not too great. -/
def IsVal (t : TV) : Prop := ∃ v cs, t = .agg cs ∧ VlR St.zero v cs ∧ v.sz ≤ 1048576
section
variable {H : Type} {enc : TypeId × Value → H} {P : Program} {w : World} {base b0 : Nat} {held : Bool} {bk : DataW H → Nat}
theorem open_val {t : TypeId} {fs : Array Field} {v : Value} {d : DataW H} {p : List MemPlace} (ht : P.underlying t = some (.struct fs)) (hop : ∀ n, OpQ bk enc P w base held n 13 valQ t)
    (hval : Value.okWide P w .any b0 t v) (h : DataW.Trod enc P w base (fun _ => true) held t v d p) (hk : bk d ≤ 1048576) : ∃ tv, Rel (Ghost.start w) w tv v ∧ IsVal tv := by
  simp only [Value.okWide, ht] at hval
  obtain ⟨vs, rfl, _, _⟩ := hval
  obtain ⟨n, hn⟩ := h
  obtain ⟨cs, hr, _, vl, hv, hz⟩ := (hop n).2 _ _ hn
  have := Rel.agg cs vs.toList hr.1 hr.2
  rw [Array.toArray_toList] at this
  exact ⟨_, this, vl, cs, rfl, hv, Nat.le_trans hz hk⟩
end
end Go.TVF
end
