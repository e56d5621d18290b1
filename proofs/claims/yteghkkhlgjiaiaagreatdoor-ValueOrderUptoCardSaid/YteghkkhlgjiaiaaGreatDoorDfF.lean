/- What the laws below rest on: a framework for Go programs, and contracts of the functions that they reach. -/
import Derived.Test.YteghkkhlgjiaiaaGreatDoorDfE
section
namespace Go.TVF
open Go Go.Proofs
set_option linter.unusedVariables false
set_option linter.unusedSimpArgs false
/-- Some cells of an element of a row of one's own are written. -/
theorem OwnSl.storeAt {st : St} {sz n i o : Nat} {u : TV} {xs ys : List TV} {bs : List Nat} (h : OwnSl st sz u n xs bs) (hl : xs.length = n * sz) (hi : i < n) (ho : o + ys.length ≤ sz) (hy : 0 < ys.length) {k : St → Prop}
    (hk : ∀ st' xs', OwnSl st' sz u n xs' bs → xs'.length = n * sz → (∀ j, j < i * sz + o ∨ i * sz + o + ys.length ≤ j → xs'[j]? = xs[j]?) → (∀ j, j < ys.length → xs'[i * sz + o + j]? = ys[j]?) → StX (· ∈ bs) st st' → k st') : stB st (fldT (ixT sz u i) o) ys k := by
  have hb : i * sz + sz ≤ n * sz := by
    have := Nat.mul_le_mul_right sz (show i + 1 ≤ n by omega)
    rw [Nat.add_mul] at this; omega
  have e : xs = xs.take (i * sz + o) ++ (xs.drop (i * sz + o)).take ys.length ++ xs.drop (i * sz + o + ys.length) := by
    rw [List.append_assoc, show xs.drop (i * sz + o + ys.length) = (xs.drop (i * sz + o)).drop ys.length from (List.drop_drop ..).symm, List.take_append_drop, List.take_append_drop]
  have hA : (xs.take (i * sz + o)).length = i * sz + o := by rw [List.length_take]; omega
  have hc : ((xs.drop (i * sz + o)).take ys.length).length = ys.length := by rw [List.length_take, List.length_drop]; omega
  rw [e] at h
  refine h.store (ys := ys) hA (by omega) (by omega) fun st' h' ex => hk st' _ h' ?_ (fun j hj => ?_) (fun j hj => ?_) ex
  · simp only [List.length_append, List.length_drop]; omega
  · rcases hj with hj | hj
    · rw [List.append_assoc, List.getElem?_append_left (by omega), List.getElem?_take_of_lt hj]
    · rw [List.getElem?_append_right (by rw [List.length_append]; omega), List.getElem?_drop]
      congr 1
      rw [List.length_append]; omega
  · rw [List.getElem?_append_left (by rw [List.length_append]; omega), List.getElem?_append_right (by omega)]
    congr 1; omega
theorem byte_wrap (x : Int) : ∃ c : UInt8, IntKind.u8.wrap x = ((c.toNat : Nat) : Int) := by
  have := wf_wrap .u8 x
  simp [Lit.wf, IntKind.min, IntKind.max, IntKind.signed, IntKind.bits] at this
  refine ⟨(IntKind.u8.wrap x).toNat.toUInt8, ?_⟩
  rw [natB_lt _ (by omega)]; omega
theorem ldBx {st : St} {u x : TV} {n i : Nat} {xs : List TV} (h : SlR st 1 u n xs) (hl : xs.length = n) (hi : i < n) (hx : xs[i]? = some x) : ldCell st [] (.t (ixT 1 u i)) 0 = some x := by
  have := h.ldc (by omega) hi
  rw [Nat.mul_one, List.drop_eq_getElem_cons (by omega), List.take_succ_cons, List.take_zero] at this
  rw [List.getElem?_eq_getElem (by omega)] at hx
  rw [Option.some.inj hx] at this
  simp only [ldCells] at this
  cases hh : ldCell st [] (.t (ixT 1 u i)) 0 with
  | none => rw [hh] at this; cases this
  | some y => rw [hh] at this; simpa using this
theorem lcopies_ok {v : Vl} (hN : v.sz ≤ 2000000) {st : St} {cs : List TV} {K : Bool → St → Prop} (h : VlR st v cs) (hk : ∀ st', K true st') : CallT PR fn_datakitlaw07_ValueCopies [.agg cs] [.one .bool] st K := by
  have a0 := h
  have hke := Keeps.refl st
  cases v with
  | mk s l f =>
  have hsz := szs s l f
  have hll := vsSz_len l
  have hfl := fsSz_len f
  obtain ⟨ub, ul, uf, yl, yf, rfl, t1, t2, t3, t4, t5⟩ := h.cells
  refine vc_datakitlaw07_ValueCopies _ _ _ _ _ _ _ _ _ _ _ _ _ st K (fit_ok (by omega) a0 hke fun b1 st1 e1 hf1 => BIf_bool (fun _ => lives_ok fun st' _ => hk st') fun q1 => ?_)
  obtain ⟨va, ca⟩ := hf1 (by simpa using q1)
  have ke1 := hke.trans e1.keeps
  refine rCopy_ok 2000000 _ hN (by omega) a0 ke1 fun wb wl wf st3 hw p1 p2 p3 e3 => need_intro (one13 p1 p2 p3) ?_
  have ke3 := ke1.trans e3.keeps
  refine copy_ok hN ca (VlR.keep ke3 a0) fun cb cl cf st4 fp hc o1 o2 o3 nd lo e4 => need_intro (one13 o1 o2 o3) ?_
  have ke4 := ke3.trans e4.keeps
  refine Same_ok 2000000 _ _ hN hN (by omega) hc.rd (VlR.keep ke4 a0) (Keeps.refl _) fun r1 i1 => BIf_bool (fun g => ?_) fun _ => ?_
  · rw [i1.2 rfl] at g; simp at g
  have hc0 := hc
  unfold VlO at hc0
  obtain ⟨cb', cl', cf', xl, xf, bb, bl, bf, fl, ff, hcs, w1, w2, w3, w4, w5, hfp⟩ := hc0
  have hcs2 : cellsV s cb cl cf = cellsV s cb' cl' cf' := hcs
  simp only [cellsV, List.cons.injEq, and_true, true_and] at hcs2
  obtain ⟨rfl, rfl, rfl⟩ := hcs2
  have lenl := w3.rd.len
  have lenf := w5.rd.len
  have nd1 : ∀ x, x ∈ bl → x ∉ bb := fun x hx hb => by
    rw [hfp] at nd
    exact (List.nodup_append.1 nd).2.2 x hb x (List.mem_append_left _ hx) rfl
  have nd2 : ∀ x, x ∈ bf → x ∉ bb := fun x hx hb => by
    rw [hfp] at nd
    exact (List.nodup_append.1 nd).2.2 x hb x (List.mem_append_right _ (List.mem_append_right _ (List.mem_append_left _ hx))) rfl
  have nd3 : ∀ x, x ∈ bf → x ∉ bl := fun x hx hb => by
    rw [hfp] at nd
    exact (List.nodup_append.1 (List.nodup_append.1 nd).2.1).2.2 x hb x (List.mem_append_right _ (List.mem_append_left _ hx)) rfl
  have lob : ∀ x, x ∈ bb → st3.nb ≤ x := fun x hx => lo x (by rw [hfp]; exact List.mem_append_left _ hx)
  have lol : ∀ x, x ∈ bl → st3.nb ≤ x := fun x hx => lo x (by rw [hfp]; exact List.mem_append_right _ (List.mem_append_left _ hx))
  have lof : ∀ x, x ∈ bf → st3.nb ≤ x := fun x hx => lo x (by rw [hfp]; exact List.mem_append_right _ (List.mem_append_right _ (List.mem_append_right _ (List.mem_append_left _ hx))))
  refine ⟨fun i a1 a2 a3 a4 a5 a6 a7 a8 a9 a10 a11 a12 a13 b1 b2 b3 b4 b5 b6 b7 b8 b9 b10 b11 b12 b13 c1 c2 c3 c4 c5 c6 c7 c8 c9 c10 c11 c12 c13 st' => s.kind = a1 ∧ s.b = a2 ∧ s.neg = a3 ∧ s.dg = a4 ∧ s.ex = a5 ∧ s.tk = a6 ∧ s.td = a7 ∧ s.tn = a8 ∧ s.tz = a9 ∧ s.text = a10 ∧ ub = a11 ∧ ul = a12 ∧ uf = a13 ∧ s.kind = b1 ∧ s.b = b2 ∧ s.neg = b3 ∧ s.dg = b4 ∧ s.ex = b5 ∧ s.tk = b6 ∧ s.td = b7 ∧ s.tn = b8 ∧ s.tz = b9 ∧ s.text = b10 ∧ wb = b11 ∧ wl = b12 ∧ wf = b13 ∧ cb = c11 ∧ cl = c12 ∧ cf = c13 ∧ ∃ (k : Nat) (xs : List TV), i = k ∧ k ≤ s.bytes.length ∧ xs.length = s.bytes.length ∧ (∀ j, j < s.bytes.length → ∃ c : UInt8, xs[j]? = some (byteT c)) ∧ OwnSl st' 1 cb s.bytes.length xs bb ∧ OwnSl st' 13 cl l.length xl bl ∧ OwnSl st' 14 cf f.length xf bf ∧ StExt st3 st',
    fun i _ _ _ _ _ _ _ _ _ _ _ _ _ _ _ _ _ _ _ _ _ _ _ _ _ _ _ _ _ _ _ _ _ _ _ _ _ _ _ _ => (s.bytes.length - i).toNat, ⟨rfl, rfl, rfl, rfl, rfl, rfl, rfl, rfl, rfl, rfl, rfl, rfl, rfl, rfl, rfl, rfl, rfl, rfl, rfl, rfl, rfl, rfl, rfl, rfl, rfl, rfl, rfl, rfl, rfl, 0, _, rfl, Nat.zero_le _, length_bytesT _, fun j hj => ⟨s.bytes[j], bytesT_get _ _ hj⟩, w1, w2, w4, e4⟩, ?_⟩
  rintro _ _ _ _ _ _ _ _ _ _ _ _ _ _ _ _ _ _ _ _ _ _ _ _ _ _ _ c1 c2 c3 c4 c5 c6 c7 c8 c9 c10 _ _ _ st5 ⟨rfl, rfl, rfl, rfl, rfl, rfl, rfl, rfl, rfl, rfl, rfl, rfl, rfl, rfl, rfl, rfl, rfl, rfl, rfl, rfl, rfl, rfl, rfl, rfl, rfl, rfl, rfl, rfl, rfl, k, xs, rfl, hkl, hxl, hby, u1, u2, u3, e5⟩
  refine need_intro u1.rd.isSl (BIf_intro (fun g => ?_) fun g => ?_)
  · rw [u1.rd.lenS] at g
    rw [u1.rd.lenZ, Int.toNat_natCast]
    obtain ⟨c, hcx⟩ := hby k (by omega)
    refine ⟨⟨by omega, by omega⟩, optK_intro (ldBx u1.rd hxl (by omega) hcx) (decT_int ⟨⟨by omega, by omega⟩, ?_⟩)⟩
    rw [fldT0 u1 (by omega)]
    refine u1.storeAt (by omega) (by omega) (by simp) (by simp) fun st6 xs' h6 hl6 hq1 hq2 ex => ?_
    rw [wrap64 _ (by omega) (by omega)]
    refine ⟨⟨rfl, rfl, rfl, rfl, rfl, rfl, rfl, rfl, rfl, rfl, rfl, rfl, rfl, rfl, rfl, rfl, rfl, rfl, rfl, rfl, rfl, rfl, rfl, rfl, rfl, rfl, rfl, rfl, rfl, k + 1, xs', by omega, by omega, by omega, fun j hj => ?_, h6, u2.frame ex nd1, u3.frame ex nd2, StX.ext e5 ex lob⟩, by dsimp only; omega⟩
    by_cases hjk : j = k
    · subst hjk
      obtain ⟨c', hc'⟩ := byte_wrap (((c.toNat : Nat) : Int) + 1)
      refine ⟨c', ?_⟩
      have := hq2 0 (by simp)
      simp only [Nat.mul_one, Nat.add_zero, List.getElem?_cons_zero] at this
      rw [this, hc']; rfl
    · obtain ⟨c', hc'⟩ := hby j hj
      refine ⟨c', ?_⟩
      rw [hq1 j (by simp only [List.length_singleton]; omega)]; exact hc'
  · refine ⟨fun i a1 a2 a3 a4 a5 a6 a7 a8 a9 a10 a11 a12 a13 b1 b2 b3 b4 b5 b6 b7 b8 b9 b10 b11 b12 b13 c1 c2 c3 c4 c5 c6 c7 c8 c9 c10 c11 c12 c13 st' => s.kind = a1 ∧ s.b = a2 ∧ s.neg = a3 ∧ s.dg = a4 ∧ s.ex = a5 ∧ s.tk = a6 ∧ s.td = a7 ∧ s.tn = a8 ∧ s.tz = a9 ∧ s.text = a10 ∧ ub = a11 ∧ ul = a12 ∧ uf = a13 ∧ s.kind = b1 ∧ s.b = b2 ∧ s.neg = b3 ∧ s.dg = b4 ∧ s.ex = b5 ∧ s.tk = b6 ∧ s.td = b7 ∧ s.tn = b8 ∧ s.tz = b9 ∧ s.text = b10 ∧ wb = b11 ∧ wl = b12 ∧ wf = b13 ∧ cb = c11 ∧ cl = c12 ∧ cf = c13 ∧ ∃ (k : Nat) (xs : List TV), i = k ∧ k ≤ l.length ∧ xs.length = l.length * 13 ∧ OwnSl st' 13 cl l.length xs bl ∧ OwnSl st' 14 cf f.length xf bf ∧ StExt st3 st',
      fun i _ _ _ _ _ _ _ _ _ _ _ _ _ _ _ _ _ _ _ _ _ _ _ _ _ _ _ _ _ _ _ _ _ _ _ _ _ _ _ _ => (l.length - i).toNat, ⟨rfl, rfl, rfl, rfl, rfl, rfl, rfl, rfl, rfl, rfl, rfl, rfl, rfl, rfl, rfl, rfl, rfl, rfl, rfl, rfl, rfl, rfl, rfl, rfl, rfl, rfl, rfl, rfl, rfl, 0, _, rfl, Nat.zero_le _, lenl, u2, u3, e5⟩, ?_⟩
    rintro _ _ _ _ _ _ _ _ _ _ _ _ _ _ _ _ _ _ _ _ _ _ _ _ _ _ _ c1 c2 c3 c4 c5 c6 c7 c8 c9 c10 _ _ _ st7 ⟨rfl, rfl, rfl, rfl, rfl, rfl, rfl, rfl, rfl, rfl, rfl, rfl, rfl, rfl, rfl, rfl, rfl, rfl, rfl, rfl, rfl, rfl, rfl, rfl, rfl, rfl, rfl, rfl, rfl, q, ys, rfl, hql, hyl, n2, n3, e7⟩
    refine need_intro n2.rd.isSl (BIf_intro (fun g2 => ?_) fun g2 => ?_)
    · rw [n2.rd.lenS] at g2
      rw [n2.rd.lenZ, Int.toNat_natCast]
      refine ⟨⟨by omega, by omega⟩, ?_⟩
      rw [fldT0 n2 (by omega)]
      refine n2.storeAt hyl (by omega) (by simp) (by simp) fun st8 xs' h8 hl8 _ _ ex => ?_
      rw [wrap64 _ (by omega) (by omega)]
      exact ⟨⟨rfl, rfl, rfl, rfl, rfl, rfl, rfl, rfl, rfl, rfl, rfl, rfl, rfl, rfl, rfl, rfl, rfl, rfl, rfl, rfl, rfl, rfl, rfl, rfl, rfl, rfl, rfl, rfl, rfl, q + 1, xs', by omega, by omega, hl8, h8, n3.frame ex nd3, StX.ext e7 ex lol⟩, by dsimp only; omega⟩
    · refine ⟨fun i a1 a2 a3 a4 a5 a6 a7 a8 a9 a10 a11 a12 a13 b1 b2 b3 b4 b5 b6 b7 b8 b9 b10 b11 b12 b13 c1 c2 c3 c4 c5 c6 c7 c8 c9 c10 c11 c12 c13 st' => s.kind = a1 ∧ s.b = a2 ∧ s.neg = a3 ∧ s.dg = a4 ∧ s.ex = a5 ∧ s.tk = a6 ∧ s.td = a7 ∧ s.tn = a8 ∧ s.tz = a9 ∧ s.text = a10 ∧ ub = a11 ∧ ul = a12 ∧ uf = a13 ∧ s.kind = b1 ∧ s.b = b2 ∧ s.neg = b3 ∧ s.dg = b4 ∧ s.ex = b5 ∧ s.tk = b6 ∧ s.td = b7 ∧ s.tn = b8 ∧ s.tz = b9 ∧ s.text = b10 ∧ wb = b11 ∧ wl = b12 ∧ wf = b13 ∧ cb = c11 ∧ cl = c12 ∧ cf = c13 ∧ ∃ (k : Nat) (xs : List TV), i = k ∧ k ≤ f.length ∧ xs.length = f.length * 14 ∧ (∀ j, k * 14 ≤ j → xs[j]? = xf[j]?) ∧ OwnSl st' 14 cf f.length xs bf ∧ StExt st3 st',
        fun i _ _ _ _ _ _ _ _ _ _ _ _ _ _ _ _ _ _ _ _ _ _ _ _ _ _ _ _ _ _ _ _ _ _ _ _ _ _ _ _ => (f.length - i).toNat, ⟨rfl, rfl, rfl, rfl, rfl, rfl, rfl, rfl, rfl, rfl, rfl, rfl, rfl, rfl, rfl, rfl, rfl, rfl, rfl, rfl, rfl, rfl, rfl, rfl, rfl, rfl, rfl, rfl, rfl, 0, _, rfl, Nat.zero_le _, lenf, fun j _ => rfl, n3, e7⟩, ?_⟩
      rintro _ _ _ _ _ _ _ _ _ _ _ _ _ _ _ _ _ _ _ _ _ _ _ _ _ _ _ c1 c2 c3 c4 c5 c6 c7 c8 c9 c10 _ _ _ st9 ⟨rfl, rfl, rfl, rfl, rfl, rfl, rfl, rfl, rfl, rfl, rfl, rfl, rfl, rfl, rfl, rfl, rfl, rfl, rfl, rfl, rfl, rfl, rfl, rfl, rfl, rfl, rfl, rfl, rfl, p, zs, rfl, hpl, hzl, hzx, m3, e9⟩
      refine need_intro m3.rd.isSl (BIf_intro (fun g3 => ?_) fun g3 => ?_)
      · rw [m3.rd.lenS] at g3
        have hp : p < f.length := by omega
        have gd : f[p]? = some f[p] := List.getElem?_eq_getElem hp
        generalize f[p] = d at gd
        obtain ⟨cs, hR, hcd, hcl⟩ := w5.rd.get gd
        obtain ⟨cs', rfl, _⟩ := hR.val
        have hxk : xf[p * 14]? = some (.str d.key) := by
          have := congrArg (fun z : List TV => z[0]?) hcd
          simpa using this
        have hkz : d.key.length ≤ 2000000 := by
          have := fsSz_mem (mem_of_get gd)
          obtain ⟨kk, vv⟩ := d
          rw [szd] at this
          simp only [Fd.key]; omega
        have hptr := m3.rd.isPtr hp
        rw [m3.rd.lenZ, Int.toNat_natCast]
        refine ⟨⟨by omega, by omega⟩, need_intro hptr (optK_intro (m3.rd.ldf hzl hp (by omega) (by rw [Nat.add_zero, hzx _ (Nat.le_refl _)]; exact hxk)) (decT_str ⟨by simp [str0]; omega, ⟨by omega, by omega⟩, need_intro hptr ?_⟩))⟩
        refine m3.storeAt hzl hp (by simp) (by simp) fun st10 xs' h10 hl10 hq1 _ ex => ?_
        rw [wrap64 _ (by omega) (by omega)]
        refine ⟨⟨rfl, rfl, rfl, rfl, rfl, rfl, rfl, rfl, rfl, rfl, rfl, rfl, rfl, rfl, rfl, rfl, rfl, rfl, rfl, rfl, rfl, rfl, rfl, rfl, rfl, rfl, rfl, rfl, rfl, p + 1, xs', by omega, by omega, hl10, fun j hj => ?_, h10, StX.ext e9 ex lof⟩, by dsimp only; omega⟩
        rw [hq1 j (by simp only [List.length_singleton]; omega)]
        exact hzx j (by omega)
      · have ke9 := ke3.trans e9.keeps
        refine Same_ok 2000000 (.mk s l f) (.mk s l f) hN hN (by omega) (VlR.keep ke9 a0) (VlR.keep e9.keeps hw) (Keeps.refl _) fun r2 i2 => ?_
        rw [i2.2 rfl]
        exact lives_ok fun st' _ => hk st'
end Go.TVF
end
