/- What the laws below rest on: a framework for Go programs, and contracts of the functions that they reach. -/
import Derived.Test.YteghkkhlgjiaiaaGreatDoorDfD
section
namespace Go.TVF
open Go Go.Proofs
set_option linter.unusedVariables false
set_option linter.unusedSimpArgs false
theorem SlR.isPtr {st : St} {sz n i : Nat} {u : TV} {xs : List TV} (h : SlR st sz u n xs) (hi : i < n) : TVF.isPtr (ixT sz u i) = true := by
  rcases h with (⟨rfl, rfl, rfl⟩ | ⟨tip, rfl⟩) | ⟨b, off, cap, l, rfl, _⟩
  · omega
  · rfl
  · rfl
theorem SlR.ldcf {st : St} {sz n i f m : Nat} {u : TV} {xs : List TV} (h : SlR st sz u n xs) (hl : xs.length = n * sz) (hi : i < n) (hf : f + m ≤ sz) : ldCells st [] (.t (fldT (ixT sz u i) f)) 0 m = some ((xs.drop (i * sz + f)).take m) := by
  have hm : (i + 1) * sz ≤ n * sz := Nat.mul_le_mul_right _ hi
  rw [Nat.add_mul, Nat.one_mul] at hm
  rcases h with (⟨rfl, rfl, rfl⟩ | ⟨tip, rfl⟩) | ⟨b, off, cap, l, rfl, h2, h3, h4, h5, rfl⟩
  · omega
  · show ldCells st [] (.t (.rptr ((xs.drop (i * sz)).drop f))) 0 m = _
    rw [List.drop_drop, lds_rptr m 0 (by rw [List.length_drop]; omega), List.drop_zero]
  · have hc : n * sz ≤ cap * sz := Nat.mul_le_mul_right _ h5
    have e1 : (((l.drop off).take (n * sz)).drop (i * sz + f)).take m = (l.drop (off + i * sz + f)).take m := by
      rw [List.drop_take, List.drop_drop, List.take_take, Nat.min_eq_left (by omega), Nat.add_assoc]
    rw [e1]
    have e := lds_mid (B := l.drop (off + i * sz + f + m)) (st := st) (b := b) ((l.drop (off + i * sz + f)).take m) l 0 (off + i * sz + f) h3 (by
      have := List.take_append_drop m (l.drop (off + i * sz + f))
      rw [List.drop_drop] at this
      rw [Nat.add_zero]; exact this.symm)
    rw [show ((l.drop (off + i * sz + f)).take m).length = m by simp; omega] at e
    exact e
theorem SlR.ldf {st : St} {sz n i f : Nat} {u x : TV} {xs : List TV} (h : SlR st sz u n xs) (hl : xs.length = n * sz) (hi : i < n) (hf : f < sz) (hx : xs[i * sz + f]? = some x) : ldCell st [] (.t (fldT (ixT sz u i) f)) 0 = some x := by
  have := h.ldcf (f := f) (m := 1) hl hi (by omega)
  have hlt : i * sz + f < xs.length := by
    obtain ⟨q, _⟩ := List.getElem?_eq_some_iff.1 hx
    exact q
  rw [List.drop_eq_getElem_cons hlt] at this
  rw [List.getElem?_eq_getElem hlt] at hx
  simp only [ldCells, List.take_succ_cons, List.take_zero] at this
  cases hq : ldCell st [] (.t (fldT (ixT sz u i) f)) 0 with
  | none => rw [hq] at this; cases this
  | some y =>
    rw [hq] at this
    simp only [Option.map_some, Option.some.injEq, List.cons.injEq, and_true] at this
    rw [this]; exact hx
theorem SlR.toBytes {st : St} {u : TV} {l : List UInt8} (h : SlR st 1 u l.length (bytesT l)) : TVF.toBytes st u = some l := by
  have hl : (bytesT l).length = l.length := length_bytesT l
  rcases h with (⟨rfl, h1, _⟩ | ⟨tip, rfl⟩) | ⟨b, off, cap, m, rfl, h2, h3, h4, h5, h6⟩
  · rw [List.eq_nil_of_length_eq_zero h1]; rfl
  · simp [TVF.toBytes, asBytes_bytesT]
  · have e := lds_mid (B := m.drop (off + l.length)) (st := st) (b := b) (bytesT l) m 0 off h3 (by
      rw [h6, Nat.add_zero, Nat.mul_one, ← List.drop_drop, List.take_append_drop])
    rw [hl] at e
    simp only [TVF.toBytes, Nat.beq_refl, e, asBytes_bytesT]
/-- The key of a field is loaded. -/
theorem key14 {st0 st : St} {uf : TV} {xf : List TV} {l : List Fd} (hke : Keeps st0 st) (h2 : SlR st0 14 uf l.length xf) (h3 : FsR st0 l xf) {i : Int} {k : Nat} (hi : i = k) {d : Fd} (hd : l[k]? = some d) {f : List UInt8 → Prop} (hf : f d.key) :
    (0 ≤ i ∧ i < (lenZ 14 uf : Int)) ∧ need (TVF.isPtr (ixT 14 uf (Int.toNat i))) (optK (ldCell st [] (.t (fldT (ixT 14 uf (Int.toNat i)) 0)) 0) fun x => decT .str x f) := by
  subst hi
  obtain ⟨hk, _⟩ := List.getElem?_eq_some_iff.1 hd
  obtain ⟨cw, hw, hcw, hcl⟩ := h3.get hd
  rw [h2.lenZ, Int.toNat_natCast]
  have hx : xf[k * 14 + 0]? = some (.str d.key) := by
    cases d with
    | mk key w =>
      unfold FdR at hw
      obtain ⟨cs, rfl, _⟩ := hw
      have := congrArg (fun z => z[0]?) hcw
      simpa [Fd.key] using this
  exact ⟨⟨by omega, by omega⟩, need_intro (h2.isPtr hk) (optK_intro ((h2.keep hke).ldf h3.len hk (by omega) hx) hf)⟩
/-- The value of a field is loaded. -/
theorem val14 {st0 st : St} {uf : TV} {xf : List TV} {l : List Fd} (hke : Keeps st0 st) (h2 : SlR st0 14 uf l.length xf) (h3 : FsR st0 l xf) {i : Int} {k : Nat} (hi : i = k) (hk : k < l.length) {f : Fun [.int .i64, .bool, .bool, .str, .int .i64, .int .i64, .int .i64, .int .i64, .int .i64, .str, .tv, .tv, .tv] Prop}
    (hf : ∀ key s' l' f' ub1 ul1 uf1, l[k]? = some (.mk key (.mk s' l' f')) → VlR st0 (.mk s' l' f') (cellsV s' ub1 ul1 uf1) → List.all (cellsV s' ub1 ul1 uf1) oneT = true → f s'.kind s'.b s'.neg s'.dg s'.ex s'.tk s'.td s'.tn s'.tz s'.text ub1 ul1 uf1) :
    (0 ≤ i ∧ i < (lenZ 14 uf : Int)) ∧ need (TVF.isPtr (ixT 14 uf (Int.toNat i))) (optK ((ldCells st [] (.t (fldT (ixT 14 uf (Int.toNat i)) 1)) 0 13).map TV.agg) fun x => decA [.int .i64, .bool, .bool, .str, .int .i64, .int .i64, .int .i64, .int .i64, .int .i64, .str, .tv, .tv, .tv] x f) := by
  subst hi
  have gw : l[k]? = some l[k] := List.getElem?_eq_getElem hk
  obtain ⟨cw, hw, hcw, hcl⟩ := h3.get gw
  rw [h2.lenZ, Int.toNat_natCast]
  refine ⟨⟨by omega, by omega⟩, need_intro (h2.isPtr hk) ?_⟩
  rw [(h2.keep hke).ldcf (f := 1) (m := 13) h3.len hk (by omega)]
  generalize l[k] = w at *
  cases w with
  | mk key w =>
  cases w with
  | mk s' l' f' =>
  unfold FdR at hw
  obtain ⟨cw2, rfl, hw1⟩ := hw
  have hw2 := hw1
  unfold VlR at hw2
  obtain ⟨ub', ul', uf', xl', xf', rfl, w1, w2, w3, w4, w5⟩ := hw2
  have e : (xf.drop (k * 14 + 1)).take 13 = cellsV s' ub' ul' uf' := by
    rw [← List.drop_drop]
    have := congrArg (fun z => z.drop 1) hcw
    simp only [List.drop_take] at this
    simpa [cellsV] using this
  rw [e]
  exact optK_intro rfl (decA13 (hf key s' l' f' ub' ul' uf' gw hw1 (one13 w1.one w2.one w4.one)))
theorem All2.append {α β : Type} {R : α → β → Prop} {l l' : List α} {m m' : List β} (h : All2 R l m) (h' : All2 R l' m') : All2 R (l ++ l') (m ++ m') := by
  induction h with
  | nil => exact h'
  | cons r _ ih => exact .cons r ih
theorem All2.take {α β : Type} {R : α → β → Prop} {l : List α} {m : List β} (h : All2 R l m) : ∀ k, All2 R (l.take k) (m.take k) := by
  induction h with
  | nil => intro k; simp; exact .nil
  | cons r _ ih =>
    intro k
    cases k with
    | zero => exact .nil
    | succ k => exact .cons r (ih k)
theorem All2.drop {α β : Type} {R : α → β → Prop} {l : List α} {m : List β} (h : All2 R l m) : ∀ k, All2 R (l.drop k) (m.drop k) := by
  induction h with
  | nil => intro k; simp; exact .nil
  | cons r h ih =>
    intro k
    cases k with
    | zero => exact .cons r h
    | succ k => exact ih k
theorem Rd.src {sz n : Nat} {v : TV} {xs : List TV} (h : Rd sz v n xs) (hl : xs.length = n * sz) (st : St) : appSrc st sz v = some (n, xs) := (SlR.of_rd (st := st) h).src hl
end Go.TVF
end

section
namespace Go.TVF
open Go Go.Proofs
set_option linter.unusedVariables false
set_option linter.unusedSimpArgs false
theorem Keeps.trans {a b c : St} (h : Keeps a b) (k : Keeps b c) : Keeps a c := ⟨Nat.le_trans h.1 k.1, fun i hi => (k.2 i (Nat.lt_of_lt_of_le hi h.1)).trans (h.2 i hi)⟩
theorem Keeps.refl (a : St) : Keeps a a := ⟨Nat.le_refl _, fun _ _ => rfl⟩
theorem decT_str {s : List UInt8} {f : List UInt8 → Prop} (h : f s) : decT .str (.str s) f := h
theorem decT_int {k : IntKind} {n : Int} {f : Int → Prop} (h : f n) : decT (.int k) (.int k n) f := by
  simp only [decT]; exact h
theorem decT_bool {b : Bool} {f : Bool → Prop} (h : f b) : decT .bool (.bool b) f := h
end Go.TVF
end

section
set_option linter.unusedVariables false
set_option linter.unusedSimpArgs false
namespace Go.TVF
open Go Go.Proofs
theorem K_eq {α : Type} {K : α → St → Prop} {a b : α} {st : St} (h : a = b) (hk : K b st) : K a st := h ▸ hk
theorem character_ok' {r : Int} {st : St} {K : Bool → St → Prop} (h0 : 0 ≤ r) (hk : K (decide (isChar r.toNat)) st) : CallT PR fn_datakitref03_character [.int .i64 r] [.one (.bool)] st K := by
  refine vc_datakitref03_character _ st K (BIf_intro (fun _ => BIf_intro (fun h2 => BIf_intro (fun h3 => ?_) fun h3 => ?_) fun h2 => ?_) fun h1 => absurd h0 h1)
  · have : isChar r.toNat := by unfold isChar; omega
    simpa [this] using hk
  · have : decide ((57343 : Int) < r) = decide (isChar r.toNat) := by
      rw [Bool.eq_iff_iff]; simp only [decide_eq_true_eq]; unfold isChar; omega
    rw [this]; exact hk
  · have : ¬ isChar r.toNat := by unfold isChar; omega
    simpa [this] using hk
theorem toBytes_full (st : St) (n : Nat) (l : List UInt8) (xs : List TV) (h : xs = bytesT l) : (toBytes st (.list 1 .full n xs)).map TV.str = some (.str l) := by
  subst h; simp [toBytes, asBytes_bytesT]
theorem u8wrap (n : Nat) : IntKind.wrap .u8 (n : Int) = ((UInt8.ofNat n).toNat : Int) := by
  unfold IntKind.wrap
  simp only [IntKind.signed, IntKind.bits]
  simp
  try omega
theorem orN (a b m : Nat) (hb : b < 2 ^ m) (h : a * 2 ^ m + b < 2 ^ 63) (x y : Int) (hx : x = ((a * 2 ^ m : Nat) : Int)) (hy : y = (b : Int)) : bitsI .or .i64 x y = ((a * 2 ^ m + b : Nat) : Int) := by
  rw [hx, hy]; exact or_add a b m hb h
theorem encode_ok' {R : Int} {r : Nat} {st : St} {K : List UInt8 → Int → St → Prop} (hR : R = (r : Int)) (hr : r < 2 ^ 40) (hk : K (if isChar r then encU r else []) (if isChar r then 0 else 2) st) : CallT PR fn_datakitref03_Encode [.int .i64 R] [.one (.str), .one (.int .i64)] st K := by
  have shr : ∀ m, m ≤ 64 → Int.fdiv R (2 ^ (min m (IntKind.bits .i64))) = ((r / 2 ^ m : Nat) : Int) := fun m hm => by rw [hR]; exact shr_i64 r m hm
  have s6 := shr 6 (by decide)
  have s12 := shr 12 (by decide)
  have s18 := shr 18 (by decide)
  have m63 : ∀ x : Nat, x < 2 ^ 63 → bitsI .and .i64 (x : Int) (63 : Int) = ((x % 64 : Nat) : Int) := fun x hx => and_mask x 6 hx (by decide)
  have mR : bitsI .and .i64 R (63 : Int) = ((r % 64 : Nat) : Int) := by rw [hR]; exact m63 r (by omega)
  have o128 : ∀ x : Nat, x < 64 → bitsI .or .i64 (128 : Int) (x : Int) = ((128 + x : Nat) : Int) := fun x hx => orN 2 x 6 (by omega) (by omega) _ _ rfl rfl
  have hR0 : 0 ≤ R := by omega
  have hRn : R.toNat = r := by omega
  refine vc_datakitref03_Encode _ st K (character_ok' hR0 (BIf_bool (fun h0 => ?_) fun h0 => ?_))
  · have hc : ¬ isChar r := by rw [hRn] at h0; simpa using h0
    rw [if_neg hc, if_neg hc] at hk
    exact hk
  · have hc : isChar r := by rw [hRn] at h0; simpa using h0
    rw [if_pos hc, if_pos hc] at hk
    unfold encU at hk
    refine BIf_intro (fun h1 => ?_) fun h1 => BIf_intro (fun h2 => ?_) fun h2 => BIf_intro (fun h3 => ?_) fun h3 => ?_
    · rw [if_pos (by omega)] at hk
      exact optK_intro (toBytes_full _ _ _ _ (by simp only [bytesT, List.map, byteT]; rw [hR, u8wrap])) hk
    · rw [if_neg (by omega), if_pos (by omega)] at hk
      have o192 : bitsI .or .i64 (192 : Int) ((r / 2 ^ 6 : Nat) : Int) = ((192 + r / 64 : Nat) : Int) := orN 6 _ 5 (by omega) (by omega) _ _ rfl rfl
      refine optK_intro (toBytes_full _ _ _ _ ?_) hk
      simp only [bytesT, List.map, byteT]
      rw [show Int.toNat (6 : Int) = 6 from rfl, s6, o192, mR, o128 _ (by omega), u8wrap, u8wrap]
    · rw [if_neg (by omega), if_neg (by omega), if_pos (by omega)] at hk
      have o224 : bitsI .or .i64 (224 : Int) ((r / 2 ^ 12 : Nat) : Int) = ((224 + r / 4096 : Nat) : Int) := orN 14 _ 4 (by omega) (by omega) _ _ rfl rfl
      refine optK_intro (toBytes_full _ _ _ _ ?_) hk
      simp only [bytesT, List.map, byteT]
      rw [show Int.toNat (6 : Int) = 6 from rfl, show Int.toNat (12 : Int) = 12 from rfl, s6, s12, o224, mR, m63 (r / 2 ^ 6) (by omega), o128 _ (by omega), o128 _ (by omega), u8wrap, u8wrap, u8wrap]
    · rw [if_neg (by omega), if_neg (by omega), if_neg (by omega)] at hk
      have hr2 : r ≤ 1114111 := hc.1
      have o240 : bitsI .or .i64 (240 : Int) ((r / 2 ^ 18 : Nat) : Int) = ((240 + r / 262144 : Nat) : Int) := orN 30 _ 3 (by omega) (by omega) _ _ rfl rfl
      refine optK_intro (toBytes_full _ _ _ _ ?_) hk
      simp only [bytesT, List.map, byteT]
      rw [show Int.toNat (6 : Int) = 6 from rfl, show Int.toNat (12 : Int) = 12 from rfl, show Int.toNat (18 : Int) = 18 from rfl, s6, s12, s18, o240, mR, m63 (r / 2 ^ 6) (by omega), m63 (r / 2 ^ 12) (by omega), o128 _ (by omega), o128 _ (by omega), o128 _ (by omega), u8wrap, u8wrap, u8wrap, u8wrap]
theorem encode_ok {r : Nat} {st : St} {K : List UInt8 → Int → St → Prop} (hr : r < 2 ^ 40) (hk : K (if isChar r then encU r else []) (if isChar r then 0 else 2) st) : CallT PR fn_datakitref03_Encode [.int .i64 (r : Int)] [.one (.str), .one (.int .i64)] st K :=
  encode_ok' rfl hr hk
/-- What the reference's Decode gives at a place. -/
def rD (l : List UInt8) : Nat × Nat := if ul l = 0 then (0, 0) else (ur l, ul l)
theorem rdecode_ok' {s : List UInt8} {I : Int} {i : Nat} {st : St} {K : Int → Int → St → Prop} (hI : I = (i : Int)) (hl : s.length ≤ 2000000) (hi : i ≤ s.length) (hk : K ((rD (s.drop i)).1 : Nat) ((rD (s.drop i)).2 : Nat) st) : CallT PR fn_datakitref03_Decode [.str s, .int .i64 I] [.one (.int .i64), .one (.int .i64)] st K := by
  refine vc_datakitref03_Decode s I st K (BIf_intro (fun h => by omega) fun _ => BIf_intro (fun h => ?_) fun h => ⟨⟨by omega, by omega⟩, ?_⟩)
  · have : s.drop i = [] := List.drop_of_length_le (by omega)
    have h0 : rD (s.drop i) = (0, 0) := by rw [this]; simp [rD, ul]
    rw [h0] at hk; exact hk
  · have hne : s.drop i ≠ [] := by
      intro h0
      have := congrArg List.length h0
      simp at this; omega
    have href := refU_eq (s.drop i) hne
    have hb0 : (List.getD s (Int.toNat I) 0).toNat = bt (s.drop i) 0 := by rw [bt_drop, hI]; rfl
    have hlt := bt_lt (s.drop i) 0
    have hlen : (s.drop i).length = s.length - i := by simp
    rw [hb0, wrapB8 _ (by omega)]
    have m15 : bitsI .and .i64 ((bt (s.drop i) 0 : Nat) : Int) (15 : Int) = ((bt (s.drop i) 0 % 16 : Nat) : Int) := and_mask _ 4 (by omega) (by decide)
    have m7 : bitsI .and .i64 ((bt (s.drop i) 0 : Nat) : Int) (7 : Int) = ((bt (s.drop i) 0 % 8 : Nat) : Int) := and_mask _ 3 (by omega) (by decide)
    have m31 : bitsI .and .i64 ((bt (s.drop i) 0 : Nat) : Int) (31 : Int) = ((bt (s.drop i) 0 % 32 : Nat) : Int) := and_mask _ 5 (by omega) (by decide)
    rw [m15, m7, m31]
    refine ⟨fun size r s' at' st1 => s = s' ∧ I = at' ∧ st = st1 ∧ ((rsz (bt (s.drop i) 0) : Nat) : Int) = size ∧ ((rb0 (bt (s.drop i) 0) : Nat) : Int) = r, ?_, ?_⟩
    · refine BIf_intro (fun h1 => ⟨rfl, rfl, rfl, ?_, ?_⟩) fun h1 => BIf_intro (fun h2 => ⟨rfl, rfl, rfl, ?_, ?_⟩) fun h2 => BIf_intro (fun h3 => ⟨rfl, rfl, rfl, ?_, ?_⟩) fun h3 => ⟨rfl, rfl, rfl, ?_, ?_⟩
      · unfold rsz; rw [if_pos (by omega)]; rfl
      · unfold rb0; rw [if_pos (by omega)]
      · unfold rsz; rw [if_neg (by omega), if_pos (by omega)]; rfl
      · unfold rb0; rw [if_neg (by omega), if_pos (by omega)]
      · unfold rsz; rw [if_neg (by omega), if_neg (by omega), if_pos (by omega)]; rfl
      · unfold rb0; rw [if_neg (by omega), if_neg (by omega), if_pos (by omega)]
      · unfold rsz; rw [if_neg (by omega), if_neg (by omega), if_neg (by omega)]; rfl
      · unfold rb0; rw [if_neg (by omega), if_neg (by omega), if_neg (by omega)]
    · rintro _ _ _ _ _ ⟨rfl, rfl, rfl, rfl, rfl⟩
      have hs := rsz_le (bt (s.drop i) 0)
      have hr0 := rb0_lt _ hlt
      generalize hsz : rsz (bt (s.drop i) 0) = size at *
      generalize hrr : rb0 (bt (s.drop i) 0) = r0 at *
      have hra := racc_lt (s.drop i) r0 hr0
      unfold refU at href
      simp only [hsz, hrr] at href
      rw [wrap64 _ (by omega) (by omega)]
      refine BIf_intro (fun h1 => ?_) fun h1 => ?_
      · rw [if_pos (by omega)] at href
        have : rD (s.drop i) = (0, 0) := by unfold rD; rw [← href]
        rw [this] at hk; exact hk
      · rw [if_neg (by omega)] at href
        refine ⟨fun r j s' at' sz st2 => s = s' ∧ I = at' ∧ st = st2 ∧ ((size : Nat) : Int) = sz ∧ ∃ k : Nat, j = ((k + 1 : Nat) : Int) ∧ k + 1 ≤ size ∧ r = ((racc (s.drop i) r0 k : Nat) : Int), fun _ j _ _ sz _ => (sz - j).toNat, ⟨rfl, rfl, rfl, rfl, 0, rfl, hs.1, rfl⟩, ?_⟩
        rintro _ _ _ _ _ _ ⟨rfl, rfl, rfl, rfl, k, rfl, hk1, rfl⟩
        have hrk := hra k
        have h64 : 64 ^ k ≤ 64 ^ 3 := Nat.pow_le_pow_right (by decide) (by omega)
        refine BIf_intro (fun h2 => ?_) fun h2 => ?_
        · rw [wrap64 _ (by omega) (by omega)]
          have hbk : (List.getD s (Int.toNat (I + ((k + 1 : Nat) : Int))) 0).toNat = bt (s.drop i) (k + 1) := by
            rw [bt_drop, show Int.toNat (I + ((k + 1 : Nat) : Int)) = i + (k + 1) by omega]; rfl
          have hbl := bt_lt (s.drop i) (k + 1)
          have hand : bitsI .and .i64 (IntKind.i64.wrap ((bt (s.drop i) (k + 1) : Nat) : Int)) (63 : Int) = ((bt (s.drop i) (k + 1) % 64 : Nat) : Int) := by
            rw [wrapB8 _ (by omega)]; exact and_mask _ 6 (by omega) (by decide)
          have hmul : IntKind.i64.wrap (((racc (s.drop i) r0 k : Nat) : Int) * 2 ^ (min (Int.toNat (6 : Int)) (IntKind.bits .i64))) = ((racc (s.drop i) r0 k * 2 ^ 6 : Nat) : Int) := by
            rw [show (2 : Int) ^ (min (Int.toNat (6 : Int)) (IntKind.bits .i64)) = 64 by decide, wrap64 _ (by omega) (by omega)]; omega
          refine ⟨⟨by omega, by omega⟩, ?_⟩
          rw [hbk, hand, hmul, or_add _ _ 6 (by omega) (by omega), wrap64 _ (by omega) (by omega)]
          exact ⟨⟨rfl, rfl, rfl, rfl, k + 1, by omega, by omega, by simp only [racc]⟩, by dsimp only; omega⟩
        · have hks : k = size - 1 := by omega
          subst hks
          refine encode_ok (by omega) ?_
          generalize hR : racc (s.drop i) r0 (size - 1) = R at *
          refine BIf_intro (fun h3 => ?_) fun h3 => ?_
          · have hc : ¬ isChar R := by intro hc; rw [if_pos hc] at h3; exact h3 rfl
            rw [if_neg (fun h => hc h.1)] at href
            have : rD (s.drop i) = (0, 0) := by unfold rD; rw [← href]
            rw [this] at hk; exact hk
          · have hc : isChar R := by
              apply Decidable.byContradiction
              intro hc; rw [if_neg hc] at h3; exact h3 (by decide)
            rw [if_pos hc, wrap64 _ (by omega) (by omega)]
            refine ⟨⟨by omega, by omega, by omega⟩, ?_⟩
            rw [take_drop_sub, show Int.toNat (I + (size : Int)) - Int.toNat I = size by omega, show Int.toNat I = i by omega]
            refine BIf_intro (fun h4 => ?_) fun h4 => ?_
            · rw [if_neg (fun h => h4 h.2)] at href
              have : rD (s.drop i) = (0, 0) := by unfold rD; rw [← href]
              rw [this] at hk; exact hk
            · rw [if_pos ⟨hc, Decidable.not_not.1 h4⟩] at href
              have : rD (s.drop i) = (R, size) := by unfold rD; rw [← href]
              rw [this] at hk; exact hk
theorem rdecode_ok {s : List UInt8} {i : Nat} {st : St} {K : Int → Int → St → Prop} (hl : s.length ≤ 2000000) (hi : i ≤ s.length) (hk : K ((rD (s.drop i)).1 : Nat) ((rD (s.drop i)).2 : Nat) st) : CallT PR fn_datakitref03_Decode [.str s, .int .i64 (i : Int)] [.one (.int .i64), .one (.int .i64)] st K :=
  rdecode_ok' rfl hl hi hk
theorem vlen_le' (l : List UInt8) : vlen l ≤ l.length := vlen_le _ l (Nat.le_refl _)
theorem vlen_nil : vlen [] = 0 := vlen_zero _ (by simp [ul])
theorem boundaries_ok {s : List UInt8} {st : St} {K : TV → Bool → St → Prop} (hl : s.length ≤ 2000000)
    (hk : ∀ v xs st', StExt st st' → Rd 1 v (xs.length + 1) (xs ++ [.int .i64 ((vlen s : Nat) : Int)]) → xs.length ≤ s.length → K v (decide (vlen s = s.length)) st') : CallT PR fn_datakitref03_Boundaries [.str s] [.one (.tv), .one (.bool)] st K := by
  have hv := vlen_le' s
  refine vc_datakitref03_Boundaries s st K ⟨fun v i s' st' => s = s' ∧ StExt st st' ∧ ∃ (k : Nat) (xs : List TV), i = (k : Int) ∧ k ≤ s.length ∧ k + vlen (s.drop k) = vlen s ∧ xs.length ≤ k ∧ Own st.nt 1 st' v (xs.length + 1) (xs ++ [.int .i64 (k : Int)]), fun _ i _ _ => (s.length - i).toNat, ⟨rfl, StExt.refl _, 0, [], rfl, by omega, by simp, by simp, Own.full _ _ _ _ _⟩, ?_⟩
  rintro v _ _ st1 ⟨rfl, e, k, xs, rfl, h1, h2, h3, h4⟩
  refine BIf_intro (fun g1 => ?_) fun g1 => ?_
  · have hle := ul_le (s.drop k)
    rw [List.length_drop] at hle
    refine rdecode_ok hl h1 ?_
    unfold rD
    by_cases h0 : ul (s.drop k) = 0
    · rw [if_pos h0]
      rw [vlen_zero _ h0] at h2
      refine BIf_intro (fun _ => ?_) fun h => absurd rfl h
      have := hk v xs st1 e (by rw [← h2]; exact h4.rd) (by omega)
      rw [decide_eq_false (by omega)] at this
      exact this
    · rw [if_neg h0]
      rw [vlen_step _ h0, List.drop_drop] at h2
      have w : IntKind.i64.wrap ((k : Int) + (ul (s.drop k) : Nat)) = ((k + ul (s.drop k) : Nat) : Int) := by rw [wrap64 _ (by omega) (by omega)]; omega
      refine BIf_intro (fun h => by simp only at h; omega) fun _ => ?_
      dsimp only
      rw [w]
      refine appK_own e rfl h4 (by omega) (fun h => by cases h) fun v' st' e' _ ho => ⟨⟨rfl, e', k + ul (s.drop k), xs ++ [.int .i64 (k : Int)], rfl, by omega, by omega, by rw [List.length_append]; simp; omega, ?_⟩, by omega⟩
      rw [List.length_append]; exact ho
  · rw [show s.drop k = [] from List.drop_of_length_le (by omega), vlen_nil] at h2
    have hks : k = vlen s := by omega
    have := hk v xs st1 e (by rw [← hks]; exact h4.rd) (by omega)
    rw [decide_eq_true (by omega)] at this
    exact this
theorem rvalid_ok {s : List UInt8} {st : St} {K : Bool → St → Prop} (hl : s.length ≤ 2000000) (hk : ∀ st', StExt st st' → K (decide (vlen s = s.length)) st') : CallT PR fn_datakitref03_Valid [.str s] [.one (.bool)] st K :=
  vc_datakitref03_Valid s st K (boundaries_ok hl fun v xs st1 e hr hx => hk st1 e)
/-- What a first byte announces: the size (0: none), and its bits. -/
def hdS (b : Nat) : Nat := if b < 128 then 1 else if 192 ≤ b ∧ b < 224 then 2 else if 224 ≤ b ∧ b < 240 then 3 else if 240 ≤ b ∧ b < 248 then 4 else 0
def hdB (b : Nat) : Nat := if b < 128 then b else if 192 ≤ b ∧ b < 224 then b % 32 else if 224 ≤ b ∧ b < 240 then b % 16 else if 240 ≤ b ∧ b < 248 then b % 8 else 0
def wid (r : Nat) : Nat := if r < 128 then 1 else if r < 2048 then 2 else if r < 65536 then 3 else 4
theorem and_mask8 (a m : Nat) (ha : a < 256) (hm : m ≤ 8) : bitsI .and .u8 (a : Int) ((2 ^ m - 1 : Nat) : Int) = ((a % 2 ^ m : Nat) : Int) := by
  have : 2 ^ m ≤ 2 ^ 8 := Nat.pow_le_pow_right (by decide) hm
  rw [and_u8 _ _ ha (by omega), Nat.and_two_pow_sub_one_eq_mod]
theorem head_ok {B : Int} {b : Nat} {st : St} {K : Int → Int → St → Prop} (hB : B = (b : Int)) (hb : b < 256) (hk : K (hdS b : Nat) (hdB b : Nat) st) : CallT PR fn_utf_head [.int .u8 B] [.one (.int .i64), .one (.int .i64)] st K := by
  have m31 : bitsI .and .u8 B (31 : Int) = ((b % 32 : Nat) : Int) := by rw [hB]; exact and_mask8 b 5 hb (by decide)
  have m15 : bitsI .and .u8 B (15 : Int) = ((b % 16 : Nat) : Int) := by rw [hB]; exact and_mask8 b 4 hb (by decide)
  have m7 : bitsI .and .u8 B (7 : Int) = ((b % 8 : Nat) : Int) := by rw [hB]; exact and_mask8 b 3 hb (by decide)
  unfold hdS hdB at hk
  have kk : ∀ (x y x' y' : Int), x = x' → y = y' → K x' y' st → K x y st := fun x y x' y' h1 h2 hk => by rw [h1, h2]; exact hk
  refine vc_utf_head B st K ?_
  rw [m31, m15, m7, wrap64 B (by omega) (by omega), wrap64 ((b % 32 : Nat) : Int) (by omega) (by omega), wrap64 ((b % 16 : Nat) : Int) (by omega) (by omega), wrap64 ((b % 8 : Nat) : Int) (by omega) (by omega)]
  by_cases g1 : b < 128
  · rw [if_pos g1, if_pos g1] at hk
    exact BIf_intro (fun _ => kk _ _ _ _ rfl hB hk) fun h => by omega
  rw [if_neg g1, if_neg g1] at hk
  refine BIf_intro (fun h => by omega) fun _ => ?_
  by_cases g2 : 192 ≤ b ∧ b < 224
  · rw [if_pos g2, if_pos g2] at hk
    exact BIf_intro (fun _ => BIf_intro (fun _ => hk) fun h => by omega) fun h => by omega
  rw [if_neg g2, if_neg g2] at hk
  by_cases g3 : 224 ≤ b ∧ b < 240
  · rw [if_pos g3, if_pos g3] at hk
    refine BIf_intro (fun _ => BIf_intro (fun h => by omega) fun _ => ?_) fun h => by omega
    exact BIf_intro (fun _ => BIf_intro (fun _ => hk) fun h => by omega) fun h => by omega
  rw [if_neg g3, if_neg g3] at hk
  by_cases g4 : 240 ≤ b ∧ b < 248
  · rw [if_pos g4, if_pos g4] at hk
    refine BIf_intro (fun _ => BIf_intro (fun h => by omega) fun _ => ?_) fun h => by omega
    refine BIf_intro (fun _ => BIf_intro (fun h => by omega) fun _ => ?_) fun h => by omega
    exact BIf_intro (fun _ => BIf_intro (fun _ => hk) fun h => by omega) fun h => by omega
  rw [if_neg g4, if_neg g4] at hk
  repeat' first
    | exact hk
    | omega
    | refine BIf_intro (fun _ => ?_) fun _ => ?_
theorem scalar_ok {R : Int} {r : Nat} {st : St} {K : Bool → St → Prop} (hR : R = (r : Int)) (hk : K (decide (isChar r)) st) : CallT PR fn_utf_scalar [.int .i64 R] [.one (.bool)] st K := by
  unfold isChar at hk
  refine vc_utf_scalar R st K (BIf_intro (fun _ => BIf_intro (fun h2 => BIf_intro (fun h3 => ?_) fun h3 => ?_) fun h2 => ?_) fun h1 => by omega)
  · exact K_eq (decide_eq_true (by omega)).symm hk
  · exact K_eq (decide_eq_decide.2 (by omega)) hk
  · exact K_eq (decide_eq_false (by omega)).symm hk
theorem width_ok {R : Int} {r : Nat} {st : St} {K : Int → St → Prop} (hR : R = (r : Int)) (hk : K (wid r : Nat) st) : CallT PR fn_utf_width [.int .i64 R] [.one (.int .i64)] st K := by
  unfold wid at hk
  refine vc_utf_width R st K (BIf_intro (fun h1 => ?_) fun h1 => BIf_intro (fun h2 => ?_) fun h2 => BIf_intro (fun h3 => ?_) fun h3 => ?_)
  · rw [if_pos (by omega)] at hk; exact hk
  · rw [if_neg (by omega), if_pos (by omega)] at hk; exact hk
  · rw [if_neg (by omega), if_neg (by omega), if_pos (by omega)] at hk; exact hk
  · rw [if_neg (by omega), if_neg (by omega), if_neg (by omega)] at hk; exact hk
/-- The program's test of a character, as arithmetic. -/
def pdOk (l : List UInt8) : Prop := hdS (bt l 0) ≠ 0 ∧ hdS (bt l 0) ≤ l.length ∧ (∀ j, 1 ≤ j → j < hdS (bt l 0) → bt l j / 64 = 2) ∧ isChar (racc l (hdB (bt l 0)) (hdS (bt l 0) - 1)) ∧ wid (racc l (hdB (bt l 0)) (hdS (bt l 0) - 1)) = hdS (bt l 0)
theorem pd_val (l : List UInt8) (h : l ≠ []) (hp : pdOk l) : ul l = hdS (bt l 0) ∧ ur l = racc l (hdB (bt l 0)) (hdS (bt l 0) - 1) := by
  obtain ⟨p1, p2, p3, p4, p5⟩ := hp
  have e := refU_eq l h
  have h0 := bt_lt l 0
  have e0 : (l.getD 0 0).toNat = bt l 0 := rfl
  have e1 : (l.getD 1 0).toNat = bt l 1 := rfl
  have e2 : (l.getD 2 0).toNat = bt l 2 := rfl
  have e3 : (l.getD 3 0).toNat = bt l 3 := rfl
  have fin : ∀ n r, rsz (bt l 0) = n → rb0 (bt l 0) = r → n = hdS (bt l 0) → r = hdB (bt l 0) → encU (racc l r (n - 1)) = l.take n → ul l = hdS (bt l 0) ∧ ur l = racc l (hdB (bt l 0)) (hdS (bt l 0) - 1) := by
    intro n r hn hr hn2 hr2 henc
    unfold refU at e
    simp only [hn, hr] at e
    rw [if_neg (by omega), if_pos ⟨by rw [hr2, hn2]; exact p4, henc⟩] at e
    by_cases hz : ul l = 0
    · rw [if_pos hz] at e; simp only [Prod.mk.injEq] at e; omega
    · rw [if_neg hz] at e; simp only [Prod.mk.injEq] at e
      exact ⟨by omega, by rw [← hr2, ← hn2]; exact e.1.symm⟩
  have h1 := bt_lt l 1
  have h2 := bt_lt l 2
  have h3 := bt_lt l 3
  by_cases g1 : bt l 0 < 128
  · have hs : hdS (bt l 0) = 1 := by unfold hdS; rw [if_pos g1]
    have hb : hdB (bt l 0) = bt l 0 := by unfold hdB; rw [if_pos g1]
    refine fin 1 (bt l 0) (by unfold rsz; rw [if_neg (by omega), if_neg (by omega), if_neg (by omega)]) (by unfold rb0; rw [if_neg (by omega), if_neg (by omega), if_neg (by omega)]) hs.symm hb.symm ?_
    rw [take_one l (by omega)]
    simp only [Nat.sub_self, racc]
    unfold encU
    rw [if_pos g1]
    simp only [cons_eq2, ofNat_eq, e0, and_true]
    omega
  by_cases g2 : 192 ≤ bt l 0 ∧ bt l 0 < 224
  · have hs : hdS (bt l 0) = 2 := by unfold hdS; rw [if_neg g1, if_pos g2]
    have hb : hdB (bt l 0) = bt l 0 % 32 := by unfold hdB; rw [if_neg g1, if_pos g2]
    rw [hs] at p3 p5
    rw [hb] at p5
    have q1 := p3 1 (by omega) (by omega)
    refine fin 2 (bt l 0 % 32) (by unfold rsz; rw [if_neg (by omega), if_neg (by omega), if_pos (by omega)]) (by unfold rb0; rw [if_neg (by omega), if_neg (by omega), if_pos (by omega)]) hs.symm hb.symm ?_
    rw [take_two l (by omega)]
    simp only [Nat.reduceSub, racc, Nat.zero_add] at p5 ⊢
    generalize bt l 0 = b0 at *
    generalize bt l 1 = b1 at *
    unfold wid at p5
    unfold encU
    by_cases k1 : b0 % 32 * 64 + b1 % 64 < 128
    · rw [if_pos k1] at p5; omega
    rw [if_neg k1] at p5 ⊢
    by_cases k2 : b0 % 32 * 64 + b1 % 64 < 2048
    · rw [if_pos k2]
      simp only [cons_eq2, ofNat_eq, e0, e1, and_true]
      omega
    · rw [if_neg k2] at p5; split at p5 <;> omega
  by_cases g3 : 224 ≤ bt l 0 ∧ bt l 0 < 240
  · have hs : hdS (bt l 0) = 3 := by unfold hdS; rw [if_neg g1, if_neg g2, if_pos g3]
    have hb : hdB (bt l 0) = bt l 0 % 16 := by unfold hdB; rw [if_neg g1, if_neg g2, if_pos g3]
    rw [hs] at p3 p5
    rw [hb] at p5
    have q1 := p3 1 (by omega) (by omega)
    have q2 := p3 2 (by omega) (by omega)
    refine fin 3 (bt l 0 % 16) (by unfold rsz; rw [if_neg (by omega), if_pos (by omega)]) (by unfold rb0; rw [if_neg (by omega), if_pos (by omega)]) hs.symm hb.symm ?_
    rw [take_three l (by omega)]
    simp only [Nat.reduceSub, racc, Nat.zero_add, Nat.reduceAdd] at p5 ⊢
    generalize bt l 0 = b0 at *
    generalize bt l 1 = b1 at *
    generalize bt l 2 = b2 at *
    generalize hr : (b0 % 16 * 64 + b1 % 64) * 64 + b2 % 64 = r at *
    unfold wid at p5
    unfold encU
    by_cases k1 : r < 128
    · rw [if_pos k1] at p5; omega
    rw [if_neg k1] at p5 ⊢
    by_cases k2 : r < 2048
    · rw [if_pos k2] at p5; omega
    rw [if_neg k2] at p5 ⊢
    by_cases k3 : r < 65536
    · rw [if_pos k3]
      simp only [cons_eq2, ofNat_eq, e0, e1, e2, and_true]
      omega
    · rw [if_neg k3] at p5; omega
  by_cases g4 : 240 ≤ bt l 0 ∧ bt l 0 < 248
  · have hs : hdS (bt l 0) = 4 := by unfold hdS; rw [if_neg g1, if_neg g2, if_neg g3, if_pos g4]
    have hb : hdB (bt l 0) = bt l 0 % 8 := by unfold hdB; rw [if_neg g1, if_neg g2, if_neg g3, if_pos g4]
    rw [hs] at p3 p4 p5
    rw [hb] at p4 p5
    have q1 := p3 1 (by omega) (by omega)
    have q2 := p3 2 (by omega) (by omega)
    have q3 := p3 3 (by omega) (by omega)
    refine fin 4 (bt l 0 % 8) (by unfold rsz; rw [if_pos (by omega)]) (by unfold rb0; rw [if_pos (by omega)]) hs.symm hb.symm ?_
    rw [take_four l (by omega)]
    simp only [Nat.reduceSub, racc, Nat.zero_add, Nat.reduceAdd] at p4 p5 ⊢
    generalize bt l 0 = b0 at *
    generalize bt l 1 = b1 at *
    generalize bt l 2 = b2 at *
    generalize bt l 3 = b3 at *
    generalize hr : ((b0 % 8 * 64 + b1 % 64) * 64 + b2 % 64) * 64 + b3 % 64 = r at *
    unfold wid at p5
    unfold encU
    by_cases k1 : r < 128
    · rw [if_pos k1] at p5; omega
    rw [if_neg k1] at p5 ⊢
    by_cases k2 : r < 2048
    · rw [if_pos k2] at p5; omega
    rw [if_neg k2] at p5 ⊢
    by_cases k3 : r < 65536
    · rw [if_pos k3] at p5; omega
    rw [if_neg k3]
    have := p4.1
    simp only [cons_eq2, ofNat_eq, e0, e1, e2, e3, and_true]
    omega
  · exfalso
    unfold hdS at p1
    rw [if_neg g1, if_neg g2, if_neg g3, if_neg g4] at p1
    exact p1 rfl
theorem pd_iff (l : List UInt8) (h : l ≠ []) : ul l ≠ 0 → pdOk l := by
  intro hu
  have e := refU_eq l h
  rw [if_neg hu] at e
  have h0 := bt_lt l 0
  have e0 : (l.getD 0 0).toNat = bt l 0 := rfl
  have e1 : (l.getD 1 0).toNat = bt l 1 := rfl
  have e2 : (l.getD 2 0).toNat = bt l 2 := rfl
  have e3 : (l.getD 3 0).toNat = bt l 3 := rfl
  have h1 := bt_lt l 1
  have h2 := bt_lt l 2
  have h3 := bt_lt l 3
  have hc : ¬ l.length < rsz (bt l 0) ∧ isChar (racc l (rb0 (bt l 0)) (rsz (bt l 0) - 1)) ∧ encU (racc l (rb0 (bt l 0)) (rsz (bt l 0) - 1)) = l.take (rsz (bt l 0)) := by
    unfold refU at e
    simp only at e
    split at e
    · simp only [Prod.mk.injEq] at e; omega
    · split at e
      · rename_i a b; exact ⟨a, b⟩
      · simp only [Prod.mk.injEq] at e; omega
  obtain ⟨hl, hch, henc⟩ := hc
  by_cases g4 : 240 ≤ bt l 0
  · have r4 : rsz (bt l 0) = 4 := by unfold rsz; rw [if_pos g4]
    have rb : rb0 (bt l 0) = bt l 0 % 8 := by unfold rb0; rw [if_pos g4]
    rw [r4, rb] at henc hch
    rw [r4] at hl
    rw [take_four l (by omega)] at henc
    unfold pdOk hdS hdB
    simp only [Nat.reduceSub, racc, Nat.zero_add, Nat.reduceAdd] at henc hch
    generalize hb0 : bt l 0 = b0 at *
    generalize hb1 : bt l 1 = b1 at *
    generalize hb2 : bt l 2 = b2 at *
    generalize hb3 : bt l 3 = b3 at *
    have hr0 : ∃ r, r = ((b0 % 8 * 64 + b1 % 64) * 64 + b2 % 64) * 64 + b3 % 64 := ⟨_, rfl⟩
    obtain ⟨r, hr⟩ := hr0
    rw [← hr] at henc hch
    have hmax := hch.1
    unfold encU at henc
    have hw : wid r = 4 ∧ b0 = 240 + r / 262144 ∧ b1 / 64 = 2 ∧ b2 / 64 = 2 ∧ b3 / 64 = 2 := by
      unfold wid
      split at henc
      · simp at henc
      · split at henc
        · simp at henc
        · split at henc
          · simp at henc
          · simp only [cons_eq2, ofNat_eq, e0, e1, e2, e3, and_true] at henc
            refine ⟨by rw [if_neg ‹_›, if_neg ‹_›, if_neg ‹_›], by omega, by omega, by omega, by omega⟩
    rw [if_neg (show ¬ b0 < 128 by omega), if_neg (show ¬ (192 ≤ b0 ∧ b0 < 224) by omega), if_neg (show ¬ (224 ≤ b0 ∧ b0 < 240) by omega), if_pos (show 240 ≤ b0 ∧ b0 < 248 by omega), if_neg (show ¬ b0 < 128 by omega), if_neg (show ¬ (192 ≤ b0 ∧ b0 < 224) by omega), if_neg (show ¬ (224 ≤ b0 ∧ b0 < 240) by omega), if_pos (show 240 ≤ b0 ∧ b0 < 248 by omega)]
    simp only [Nat.reduceSub, racc, Nat.zero_add, Nat.reduceAdd, hb1, hb2, hb3]
    rw [← hr]
    refine ⟨by omega, by omega, fun j j1 j2 => ?_, hch, hw.1⟩
    have : j = 1 ∨ j = 2 ∨ j = 3 := by omega
    rcases this with rfl | rfl | rfl <;> omega
  by_cases g3 : 224 ≤ bt l 0
  · have r4 : rsz (bt l 0) = 3 := by unfold rsz; rw [if_neg g4, if_pos g3]
    have rb : rb0 (bt l 0) = bt l 0 % 16 := by unfold rb0; rw [if_neg g4, if_pos g3]
    rw [r4, rb] at henc hch
    rw [r4] at hl
    rw [take_three l (by omega)] at henc
    unfold pdOk hdS hdB
    simp only [Nat.reduceSub, racc, Nat.zero_add, Nat.reduceAdd] at henc hch
    generalize hb0 : bt l 0 = b0 at *
    generalize hb1 : bt l 1 = b1 at *
    generalize hb2 : bt l 2 = b2 at *
    have hr0 : ∃ r, r = (b0 % 16 * 64 + b1 % 64) * 64 + b2 % 64 := ⟨_, rfl⟩
    obtain ⟨r, hr⟩ := hr0
    rw [← hr] at henc hch
    unfold encU at henc
    have hw : wid r = 3 ∧ b1 / 64 = 2 ∧ b2 / 64 = 2 := by
      unfold wid
      split at henc
      · simp at henc
      · split at henc
        · simp at henc
        · split at henc
          · simp only [cons_eq2, ofNat_eq, e0, e1, e2, and_true] at henc
            refine ⟨by rw [if_neg ‹_›, if_neg ‹_›, if_pos ‹_›], by omega, by omega⟩
          · simp at henc
    rw [if_neg (show ¬ b0 < 128 by omega), if_neg (show ¬ (192 ≤ b0 ∧ b0 < 224) by omega), if_pos (show 224 ≤ b0 ∧ b0 < 240 by omega), if_neg (show ¬ b0 < 128 by omega), if_neg (show ¬ (192 ≤ b0 ∧ b0 < 224) by omega), if_pos (show 224 ≤ b0 ∧ b0 < 240 by omega)]
    simp only [Nat.reduceSub, racc, Nat.zero_add, Nat.reduceAdd, hb1, hb2]
    rw [← hr]
    refine ⟨by omega, by omega, fun j j1 j2 => ?_, hch, hw.1⟩
    have : j = 1 ∨ j = 2 := by omega
    rcases this with rfl | rfl <;> omega
  by_cases g2 : 192 ≤ bt l 0
  · have r4 : rsz (bt l 0) = 2 := by unfold rsz; rw [if_neg g4, if_neg g3, if_pos g2]
    have rb : rb0 (bt l 0) = bt l 0 % 32 := by unfold rb0; rw [if_neg g4, if_neg g3, if_pos g2]
    rw [r4, rb] at henc hch
    rw [r4] at hl
    rw [take_two l (by omega)] at henc
    unfold pdOk hdS hdB
    simp only [Nat.reduceSub, racc, Nat.zero_add, Nat.reduceAdd] at henc hch
    generalize hb0 : bt l 0 = b0 at *
    generalize hb1 : bt l 1 = b1 at *
    have hr0 : ∃ r, r = b0 % 32 * 64 + b1 % 64 := ⟨_, rfl⟩
    obtain ⟨r, hr⟩ := hr0
    rw [← hr] at henc hch
    unfold encU at henc
    have hw : wid r = 2 ∧ b1 / 64 = 2 := by
      unfold wid
      split at henc
      · simp at henc
      · split at henc
        · simp only [cons_eq2, ofNat_eq, e0, e1, and_true] at henc
          refine ⟨by rw [if_neg ‹_›, if_pos ‹_›], by omega⟩
        · split at henc <;> simp at henc
    rw [if_neg (show ¬ b0 < 128 by omega), if_pos (show 192 ≤ b0 ∧ b0 < 224 by omega), if_neg (show ¬ b0 < 128 by omega), if_pos (show 192 ≤ b0 ∧ b0 < 224 by omega)]
    simp only [Nat.reduceSub, racc, Nat.zero_add, hb1]
    rw [← hr]
    refine ⟨by omega, by omega, fun j j1 j2 => ?_, hch, hw.1⟩
    have : j = 1 := by omega
    subst this; omega
  · have r4 : rsz (bt l 0) = 1 := by unfold rsz; rw [if_neg g4, if_neg g3, if_neg g2]
    have rb : rb0 (bt l 0) = bt l 0 := by unfold rb0; rw [if_neg g4, if_neg g3, if_neg g2]
    rw [r4, rb] at henc hch
    rw [r4] at hl
    rw [take_one l (by omega)] at henc
    unfold pdOk hdS hdB
    simp only [Nat.sub_self, racc] at henc hch
    generalize hb0 : bt l 0 = b0 at *
    have hlt : b0 < 128 := by
      unfold encU at henc
      split at henc
      · assumption
      · split at henc
        · simp at henc
        · split at henc <;> simp at henc
    rw [if_pos hlt, if_pos hlt]
    simp only [Nat.sub_self, racc]
    refine ⟨by omega, by omega, fun j j1 j2 => by omega, hch, by unfold wid; rw [if_pos hlt]⟩
theorem uDecode_ok {s : List UInt8} {I : Int} {i : Nat} {st : St} {K : Int → Int → St → Prop} (hI : I = (i : Int)) (hl : s.length ≤ 2000000) (hi : i ≤ s.length) (hk : K ((rD (s.drop i)).1 : Nat) ((rD (s.drop i)).2 : Nat) st) :
    CallT PR fn_utf_Decode [.str s, .int .i64 I] [.one (.int .i64), .one (.int .i64)] st K := by
  have no : ¬ pdOk (s.drop i) → s.drop i ≠ [] → K 0 0 st := fun h hne => by
    have : ul (s.drop i) = 0 := Decidable.byContradiction fun h0 => h (pd_iff _ hne h0)
    unfold rD at hk
    rw [if_pos this] at hk; exact hk
  have yes : pdOk (s.drop i) → s.drop i ≠ [] → K (racc (s.drop i) (hdB (bt (s.drop i) 0)) (hdS (bt (s.drop i) 0) - 1) : Nat) (hdS (bt (s.drop i) 0) : Nat) st := fun h hne => by
    have hv := pd_val _ hne h
    unfold rD at hk
    rw [if_neg (by rw [hv.1]; exact h.1), hv.1, hv.2] at hk
    exact hk
  have hlen : (s.drop i).length = s.length - i := by simp
  have hb : ∀ j, bt (s.drop i) j = (s.getD (i + j) 0).toNat := bt_drop s i
  refine vc_utf_Decode s I st K (BIf_intro (fun h => by omega) fun _ => BIf_intro (fun h => ?_) fun h => ⟨⟨by omega, by omega⟩, ?_⟩)
  · have : s.drop i = [] := List.drop_of_length_le (by omega)
    have h0 : rD (s.drop i) = (0, 0) := by rw [this]; simp [rD, ul]
    rw [h0] at hk; exact hk
  have hne : s.drop i ≠ [] := by
    intro h0
    have := congrArg List.length h0
    rw [hlen] at this; simp only [List.length_nil] at this; omega
  have hb0 : (List.getD s (Int.toNat I) 0).toNat = bt (s.drop i) 0 := by rw [hb, hI]; rfl
  have hlt := bt_lt (s.drop i) 0
  rw [hb0]
  refine head_ok rfl hlt ?_
  have hsz : hdS (bt (s.drop i) 0) ≤ 4 := by unfold hdS; repeat' split
                                             all_goals omega
  have hbz : hdB (bt (s.drop i) 0) < 256 := by unfold hdB; repeat' split
                                               all_goals omega
  unfold pdOk at no yes
  generalize hdS (bt (s.drop i) 0) = n at *
  generalize hdB (bt (s.drop i) 0) = r0 at *
  rw [wrap64 _ (by omega) (by omega)]
  refine BIf_intro (fun g => no (fun hh => hh.1 (by omega)) hne) fun g1 => BIf_intro (fun g => no (fun hh => by omega) hne) fun g2 => ?_
  have hra := racc_lt (s.drop i) r0 hbz
  refine ⟨fun r j s' at' sz st2 => s = s' ∧ I = at' ∧ st = st2 ∧ ((n : Nat) : Int) = sz ∧ ∃ k : Nat, j = ((k + 1 : Nat) : Int) ∧ k + 1 ≤ n ∧ r = ((racc (s.drop i) r0 k : Nat) : Int) ∧ ∀ m, 1 ≤ m → m ≤ k → bt (s.drop i) m / 64 = 2, fun _ j _ _ sz _ => (sz - j).toNat, ⟨rfl, rfl, rfl, rfl, 0, rfl, by omega, rfl, fun m h1 h2 => by omega⟩, ?_⟩
  rintro _ _ _ _ _ _ ⟨rfl, rfl, rfl, rfl, k, rfl, hk1, rfl, hall⟩
  have hrk := hra k
  have h64 : 64 ^ k ≤ 64 ^ 3 := Nat.pow_le_pow_right (by decide) (by omega)
  refine BIf_intro (fun h2 => ?_) fun h2 => ?_
  · rw [wrap64 (I + ((k + 1 : Nat) : Int)) (by omega) (by omega)]
    have hbk : (List.getD s (Int.toNat (I + ((k + 1 : Nat) : Int))) 0).toNat = bt (s.drop i) (k + 1) := by
      rw [hb, show Int.toNat (I + ((k + 1 : Nat) : Int)) = i + (k + 1) by omega]
    have hbl := bt_lt (s.drop i) (k + 1)
    have h192 : bitsI .and .u8 ((bt (s.drop i) (k + 1) : Nat) : Int) (192 : Int) = ((bt (s.drop i) (k + 1) &&& 192 : Nat) : Int) := and_u8 _ 192 hbl (by decide)
    have hand : IntKind.i64.wrap (bitsI .and .u8 ((bt (s.drop i) (k + 1) : Nat) : Int) (63 : Int)) = ((bt (s.drop i) (k + 1) % 64 : Nat) : Int) := by
      rw [show (63 : Int) = ((2 ^ 6 - 1 : Nat) : Int) by decide, and_mask8 _ 6 hbl (by decide), wrap64 _ (by omega) (by omega)]
    have hmul : IntKind.i64.wrap (((racc (s.drop i) r0 k : Nat) : Int) * 2 ^ (min (Int.toNat (6 : Int)) (IntKind.bits .i64))) = ((racc (s.drop i) r0 k * 2 ^ 6 : Nat) : Int) := by
      rw [show (2 : Int) ^ (min (Int.toNat (6 : Int)) (IntKind.bits .i64)) = 64 by decide, wrap64 _ (by omega) (by omega)]; omega
    have hc : (bt (s.drop i) (k + 1) &&& 192) = 128 ↔ bt (s.drop i) (k + 1) / 64 = 2 := by
      have : ∀ x, x < 256 → ((x &&& 192) = 128 ↔ x / 64 = 2) := by decide +kernel
      exact this _ hbl
    refine ⟨⟨by omega, by omega⟩, ?_⟩
    rw [hbk, h192, hand, hmul, or_add _ _ 6 (by omega) (by omega), wrap64 _ (by omega) (by omega)]
    refine BIf_intro (fun h3 => no (fun hh => h3 ?_) hne) fun h3 => ?_
    · have := hh.2.2.1 (k + 1) (by omega) (by omega)
      rw [hc.2 this]; rfl
    · have h4 : bt (s.drop i) (k + 1) / 64 = 2 := hc.1 (by omega)
      refine ⟨⟨rfl, rfl, rfl, rfl, k + 1, by omega, by omega, by simp only [racc], fun m m1 m2 => ?_⟩, by dsimp only; omega⟩
      by_cases hm : m = k + 1
      · rw [hm]; exact h4
      · exact hall m m1 (by omega)
  · have hks : k = n - 1 := by omega
    subst hks
    refine scalar_ok rfl (BIf_bool (fun h3 => no (fun hh => ?_) hne) fun h3 => width_ok rfl (BIf_intro (fun h4 => no (fun hh => ?_) hne) fun h4 => ?_))
    · simp only [Bool.not_eq_true', decide_eq_false_iff_not] at h3
      exact h3 hh.2.2.2.1
    · rw [hh.2.2.2.2] at h4; exact h4 rfl
    · simp only [Bool.not_eq_false', decide_eq_true_eq] at h3
      exact yes ⟨by omega, by omega, fun m m1 m2 => hall m m1 (by omega), h3, by omega⟩ hne
theorem uLen_ok {s : List UInt8} {st : St} {K : Int → Int → St → Prop} (hl : s.length ≤ 2000000) (hk : ∀ n : Int, K n (if vlen s = s.length then 0 else 5) st) : CallT PR fn_utf_Len [.str s] [.one (.int .i64), .one (.int .i64)] st K := by
  have hv := vlen_le' s
  refine vc_utf_Len s st K ⟨fun n i s' st' => s = s' ∧ st = st' ∧ ∃ k : Nat, i = (k : Int) ∧ k ≤ s.length ∧ k + vlen (s.drop k) = vlen s, fun _ i _ _ => (s.length - i).toNat, ⟨rfl, rfl, 0, rfl, by omega, by simp⟩, ?_⟩
  rintro n _ _ _ ⟨rfl, rfl, k, rfl, h1, h2⟩
  refine BIf_intro (fun g1 => uDecode_ok rfl hl h1 ?_) fun g1 => ?_
  · have hle := ul_le (s.drop k)
    rw [List.length_drop] at hle
    unfold rD
    by_cases h0 : ul (s.drop k) = 0
    · rw [if_pos h0]
      rw [vlen_zero _ h0] at h2
      have := hk 0
      rw [if_neg (by omega)] at this
      exact BIf_intro (fun _ => this) fun h => absurd rfl h
    · rw [if_neg h0]
      rw [vlen_step _ h0, List.drop_drop] at h2
      refine BIf_intro (fun h => absurd h (by show ¬ ((ul (s.drop k) : Nat) : Int) = 0; omega)) fun _ => ?_
      have w : IntKind.i64.wrap ((k : Int) + (ul (s.drop k) : Nat)) = ((k + ul (s.drop k) : Nat) : Int) := by rw [wrap64 _ (by omega) (by omega)]; omega
      dsimp only
      rw [w]
      exact ⟨⟨rfl, rfl, _, rfl, by omega, by omega⟩, by omega⟩
  · rw [show s.drop k = [] from List.drop_of_length_le (by omega), vlen_nil] at h2
    have := hk n
    rw [if_pos (by omega)] at this
    exact this
theorem uValid_ok {s : List UInt8} {st : St} {K : Bool → St → Prop} (hl : s.length ≤ 2000000) (hk : K (decide (vlen s = s.length)) st) : CallT PR fn_utf_Valid [.str s] [.one (.bool)] st K := by
  refine vc_utf_Valid s st K (uLen_ok hl fun n => ?_)
  by_cases h : vlen s = s.length
  · rw [if_pos h]; rw [decide_eq_true h] at hk; exact hk
  · rw [if_neg h]; rw [decide_eq_false h] at hk; exact hk
end Go.TVF
end

section
namespace Go.TVF
open Go Go.Proofs
set_option linter.unusedVariables false
set_option linter.unusedSimpArgs false
theorem trimRight_ok {l : List UInt8} {c : UInt8} (hc : c.toNat < 128) (hl : l.length ≤ 9223372036854775807) {st : St} {K : List UInt8 → St → Prop} (hk : K (Lib.trimRightB l c) st) : CallT PR fn_strings_TrimRight [.str l, .str [c]] [.one .str] st K := by
  refine tcalls_enter (fun _ _ => by kernel_rfl) fun g w vargs s hr => ?_
  obtain ⟨v, u, rfl, hv, hu⟩ := relL_two hr
  rw [rel_str_inv hv, rel_str_inv hu]
  refine Calls.mono (Tryz.strings_TrimRight_one ⟨l.toArray⟩ c hc w (by simpa [ByteArray.size] using hl)) ?_
  rintro e w' ⟨rfl, rfl⟩
  exact ⟨_, rfl, .str _, st, g, hk, s, Rel.str _, Ext.refl _ _⟩
theorem trimRightB_len (l : List UInt8) : (Lib.trimRightB l 48).length + zerosN l = l.length := by
  unfold Lib.trimRightB zerosN
  have := congrArg List.length (List.takeWhile_append_dropWhile (p := fun x : UInt8 => x == 48) (l := l.reverse))
  rw [List.length_append, List.length_reverse] at this
  rw [List.length_reverse]; omega
theorem zeros_ok {l : List UInt8} (hl : l.length ≤ 2000000) {st : St} {K : Int → St → Prop} (hk : K (zerosN l : Nat) st) : CallT PR fn_digits_Zeros [.str l] [.one (.int .i64)] st K := by
  refine vc_digits_Zeros _ st K (trimRight_ok (by decide) (by omega) ?_)
  have := trimRightB_len l
  rw [wrap64 _ (by omega) (by omega), show ((l.length : Nat) : Int) - ((Lib.trimRightB l 48).length : Int) = (zerosN l : Nat) by omega]
  exact hk
theorem tw_len {p : UInt8 → Bool} : ∀ (r : List UInt8) (n : Nat), n ≤ r.length → (∀ j x, j < n → r[j]? = some x → p x = true) → (∀ x, r[n]? = some x → p x = false) → (r.takeWhile p).length = n
  | [], n, h, _, _ => by simp at h; simp [h]
  | a :: r, 0, _, _, h => by simp [List.takeWhile_cons, h a rfl]
  | a :: r, n + 1, h, h1, h2 => by
    rw [List.takeWhile_cons, if_pos (h1 0 a (by omega) rfl), List.length_cons, tw_len r n (by simpa using h) (fun j x hj hx => h1 (j + 1) x (by omega) (by simpa using hx)) (fun x hx => h2 x (by simpa using hx))]
theorem rev_getD (l : List UInt8) (n : Nat) (h : n < l.length) : l.reverse[n]? = some (List.getD l (l.length - 1 - n) 0) := by
  rw [List.getElem?_reverse h, List.getD_eq_getElem?_getD, List.getElem?_eq_getElem (by omega), Option.getD_some]
theorem rzeros_ok {l : List UInt8} (hl : l.length ≤ 2000000) {st : St} {K : Int → St → Prop} (hk : K (zerosN l : Nat) st) : CallT PR fn_datakitref01_Zeros [.str l] [.one (.int .i64)] st K := by
  refine vc_datakitref01_Zeros l st K ⟨fun i s st' => l = s ∧ st = st' ∧ ∃ n : Nat, i = n ∧ n ≤ l.length ∧ ∀ j x, j < n → l.reverse[j]? = some x → (x == 48) = true, fun i _ _ => (l.length - i).toNat, ⟨rfl, rfl, 0, rfl, Nat.zero_le _, fun j x hj => absurd hj (Nat.not_lt_zero _)⟩, ?_⟩
  rintro _ _ _ ⟨rfl, rfl, n, rfl, hn, hall⟩
  refine BIf_intro (fun g => ?_) fun g => ?_
  · have hr := rev_getD l n (by omega)
    rw [wrap64 ((l.length : Int) - 1) (by omega) (by omega), wrap64 _ (by omega) (by omega), show Int.toNat ((l.length : Int) - 1 - (n : Int)) = l.length - 1 - n by omega]
    refine ⟨⟨by omega, by omega⟩, ?_⟩
    generalize List.getD l (l.length - 1 - n) 0 = c at hr ⊢
    refine BIf_intro (fun g2 => ?_) fun g2 => ?_
    · rw [wrap64 _ (by omega) (by omega)]
      refine ⟨⟨rfl, rfl, n + 1, by omega, by omega, fun j x hj hx => ?_⟩, by dsimp only; omega⟩
      by_cases hjn : j = n
      · subst hjn
        rw [hr] at hx
        rw [← Option.some.inj hx]
        simpa [← UInt8.toNat_inj] using (by omega : c.toNat = 48)
      · exact hall j x (by omega) hx
    · have : zerosN l = n := tw_len _ n (by simpa using hn) hall fun x hx => by
        rw [hr] at hx
        rw [← Option.some.inj hx]
        have : c ≠ 48 := fun e => g2 (by rw [e]; rfl)
        simpa using this
      rw [← this]; exact hk
  · have : zerosN l = n := tw_len _ n (by simpa using hn) hall fun x hx => by
      rw [List.getElem?_eq_none (by simp; omega)] at hx; cases hx
    rw [← this]; exact hk
theorem getD_mem {l : List UInt8} {n : Nat} (h : n < l.length) : List.getD l n 0 ∈ l := by
  rw [List.getD_eq_getElem?_getD, List.getElem?_eq_getElem h, Option.getD_some]
  exact List.getElem_mem h
theorem all_snoc {P : UInt8 → Prop} {l : List UInt8} {n : Nat} (h : n < l.length) (h1 : ∀ c, c ∈ l.take n → P c) (h2 : P (List.getD l n 0)) : ∀ c, c ∈ l.take (n + 1) → P c := by
  intro c hc
  rw [getD_take _ _ 0 h] at hc
  rcases List.mem_append.1 hc with hc | hc
  · exact h1 c hc
  · rw [List.mem_singleton.1 hc]; exact h2
theorem all_ok {l : List UInt8} (hl : l.length ≤ 2000000) {st : St} {K : Bool → St → Prop} (hk : K (decide (∀ c, c ∈ l → isDg c)) st) : CallT PR fn_digits_all [.str l] [.one .bool] st K := by
  refine vc_digits_all l st K ⟨fun i s m st' => l = s ∧ (l.length : Int) = m ∧ st = st' ∧ ∃ n : Nat, i = n ∧ n ≤ l.length ∧ ∀ c, c ∈ l.take n → isDg c, fun i _ _ _ => (l.length - i).toNat, ⟨rfl, rfl, rfl, 0, rfl, Nat.zero_le _, fun c hc => by simp at hc⟩, ?_⟩
  rintro _ _ _ _ ⟨rfl, rfl, rfl, n, rfl, hn, hall⟩
  refine BIf_intro (fun g => ?_) fun g => ?_
  · have hm := getD_mem (l := l) (n := n) (by omega)
    have bad : ¬ isDg (List.getD l n 0) → K false st := fun hb => by
      rw [decide_eq_false fun h => hb (h _ hm)] at hk; exact hk
    rw [Int.toNat_natCast]
    refine ⟨⟨by omega, by omega⟩, BIf_intro (fun g2 => bad (by unfold isDg; omega)) fun g2 => ⟨⟨by omega, by omega⟩, BIf_intro (fun g3 => bad (by unfold isDg; omega)) fun g3 => ?_⟩⟩
    rw [wrap64 _ (by omega) (by omega)]
    exact ⟨⟨rfl, rfl, rfl, n + 1, by omega, by omega, all_snoc (by omega) hall (by unfold isDg; omega)⟩, by dsimp only; omega⟩
  · have : n = l.length := by omega
    subst this
    rw [List.take_length] at hall
    rw [decide_eq_true hall] at hk; exact hk
theorem rDigits_ok {l : List UInt8} (hl : l.length ≤ 2000000) {st : St} {K : Bool → St → Prop} (hk : K (decide (∀ c, c ∈ l → isDg c)) st) : CallT PR fn_datakitref01_Digits [.str l] [.one .bool] st K := by
  refine vc_datakitref01_Digits l st K ⟨fun i s st' => l = s ∧ st = st' ∧ ∃ n : Nat, i = n ∧ n ≤ l.length ∧ ∀ c, c ∈ l.take n → isDg c, fun i _ _ => (l.length - i).toNat, ⟨rfl, rfl, 0, rfl, Nat.zero_le _, fun c hc => by simp at hc⟩, ?_⟩
  rintro _ _ _ ⟨rfl, rfl, n, rfl, hn, hall⟩
  refine BIf_intro (fun g => ?_) fun g => ?_
  · have hm := getD_mem (l := l) (n := n) (by omega)
    have bad : ¬ isDg (List.getD l n 0) → K false st := fun hb => by
      rw [decide_eq_false fun h => hb (h _ hm)] at hk; exact hk
    rw [Int.toNat_natCast]
    refine ⟨⟨by omega, by omega⟩, BIf_intro (fun g2 => bad (by unfold isDg; omega)) fun g2 => ⟨⟨by omega, by omega⟩, BIf_intro (fun g3 => bad (by unfold isDg; omega)) fun g3 => ?_⟩⟩
    rw [wrap64 _ (by omega) (by omega)]
    exact ⟨⟨rfl, rfl, n + 1, by omega, by omega, all_snoc (by omega) hall (by unfold isDg; omega)⟩, by dsimp only; omega⟩
  · have : n = l.length := by omega
    subst this
    rw [List.take_length] at hall
    rw [decide_eq_true hall] at hk; exact hk
/-- A numeral. -/
def NumOk (l : List UInt8) : Prop := l.length ≤ 600 ∧ (∀ c, c ∈ l → isDg c) ∧ (l ≠ [] → l.getD 0 0 ≠ 48)
instance (l : List UInt8) : Decidable (NumOk l) := inferInstanceAs (Decidable (_ ∧ _ ∧ (_ → _)))
theorem ne48 (c : UInt8) : decide ((c.toNat : Int) ≠ 48) = decide (c ≠ 48) := by
  have : ((c.toNat : Int) ≠ 48) ↔ c ≠ 48 := by rw [ne_eq, ne_eq, ← UInt8.toNat_inj]; exact not_congr ⟨fun h => Int.ofNat.inj h, fun h => by rw [h]; rfl⟩
  exact decide_eq_decide.2 this
theorem dValid_ok {l : List UInt8} (hl : l.length ≤ 2000000) {st : St} {K : Bool → St → Prop} (hk : K (decide (NumOk l)) st) : CallT PR fn_digits_Valid [.str l] [.one .bool] st K := by
  have no : ¬ NumOk l → K false st := fun h => by rw [decide_eq_false h] at hk; exact hk
  refine vc_digits_Valid l st K (BIf_intro (fun g => all_ok hl (BIf_intro (fun g2 => BIf_intro (fun g3 => ?_) fun g3 => ⟨⟨by omega, by have := List.length_pos_iff.2 g3; omega⟩, ?_⟩) fun g2 => no fun h => g2 h.2.1)) fun g => no fun h => g (by have := h.1; omega))
  · rw [decide_eq_true (show NumOk l from ⟨by omega, g2, fun h => absurd g3 h⟩)] at hk; exact hk
  · rw [ne48]
    refine K_eq (decide_eq_decide.2 ?_) hk
    exact ⟨fun h => ⟨by omega, g2, fun _ => h⟩, fun h => h.2.2 g3⟩
theorem rNum_ok {l : List UInt8} (hl : l.length ≤ 2000000) {st : St} {K : Bool → St → Prop} (hk : K (decide (NumOk l)) st) : CallT PR fn_datakitref01_Valid [.str l] [.one .bool] st K := by
  have no : ¬ NumOk l → K false st := fun h => by rw [decide_eq_false h] at hk; exact hk
  refine vc_datakitref01_Valid l st K (BIf_intro (fun g => rDigits_ok hl (BIf_intro (fun g2 => BIf_intro (fun g3 => ?_) fun g3 => ⟨⟨by omega, by omega⟩, ?_⟩) fun g2 => no fun h => g2 h.2.1)) fun g => no fun h => g (by have := h.1; omega))
  · rw [decide_eq_true (show NumOk l from ⟨by omega, g2, fun h => absurd (List.eq_nil_of_length_eq_zero (by omega)) h⟩)] at hk; exact hk
  · rw [ne48]
    refine K_eq (decide_eq_decide.2 ?_) hk
    exact ⟨fun h => ⟨by omega, g2, fun _ => h⟩, fun h => h.2.2 fun e => g3 (by rw [e]; rfl)⟩
theorem decOk_iff {neg : Bool} {l : List UInt8} {ex : Int} (h : l ≠ []) : DecOk neg l ex ↔ NumOk l ∧ l.length ≤ 120 ∧ zerosN l = 0 ∧ -400 ≤ ex ∧ ex ≤ 400 := by
  unfold DecOk NumOk
  constructor
  · intro g
    obtain ⟨g1, g2, g3, g4, g5, g6⟩ := g.2 h
    exact ⟨⟨by omega, g2, fun _ => g3⟩, g1, g4, g5, g6⟩
  · rintro ⟨⟨g1, g2, g3⟩, g4, g5, g6, g7⟩
    exact ⟨fun e => absurd e h, fun _ => ⟨g4, g2, g3 h, g5, g6, g7⟩⟩
theorem decOk_nil {neg : Bool} {ex : Int} : DecOk neg [] ex ↔ neg = false ∧ ex = 0 := by
  unfold DecOk
  exact ⟨fun g => g.1 rfl, fun g => ⟨fun _ => g, fun h => absurd rfl h⟩⟩
theorem decValid_ok {neg : Bool} {l : List UInt8} {ex : Int} (hl : l.length ≤ 2000000) {st : St} {K : Bool → St → Prop} (hk : K (decide (DecOk neg l ex)) st) : CallT PR fn_decimal_Valid [.agg [.bool neg, .str l, .int .i64 ex]] [.one .bool] st K := by
  have no : ¬ DecOk neg l ex → K false st := fun h => by rw [decide_eq_false h] at hk; exact hk
  refine vc_decimal_Valid _ _ _ st K (BIf_intro (fun g => ?_) fun g => ?_)
  · subst g
    refine K_eq ?_ hk
    rw [Bool.eq_iff_iff]
    simp [decOk_nil]
  · refine dValid_ok hl (BIf_intro (fun g2 => BIf_intro (fun g3 => zeros_ok hl (BIf_intro (fun g4 => BIf_intro (fun g5 => ?_) fun g5 => ?_) fun g4 => ?_)) fun g3 => ?_) fun g2 => ?_)
    · exact K_eq (decide_eq_decide.2 (by rw [decOk_iff g]; exact ⟨fun h => ⟨g2, by omega, by omega, g5, h⟩, fun h => h.2.2.2.2⟩)) hk
    · exact no fun h => g5 ((decOk_iff g).1 h).2.2.2.1
    · exact no fun h => g4 (by have := ((decOk_iff g).1 h).2.2.1; omega)
    · exact no fun h => g3 (by have := ((decOk_iff g).1 h).2.1; omega)
    · exact no fun h => g2 ((decOk_iff g).1 h).1
theorem rDec_ok {neg : Bool} {l : List UInt8} {ex : Int} (hl : l.length ≤ 2000000) {st : St} {K : Bool → St → Prop} (hk : K (decide (DecOk neg l ex)) st) : CallT PR fn_datakitref02_Valid [.agg [.bool neg, .str l, .int .i64 ex]] [.one .bool] st K := by
  have no : ¬ DecOk neg l ex → K false st := fun h => by rw [decide_eq_false h] at hk; exact hk
  refine vc_datakitref02_Valid _ _ _ st K (BIf_intro (fun g => ?_) fun g => ?_)
  · subst g
    cases neg
    · exact K_eq (by rw [Bool.eq_iff_iff]; simp [decOk_nil]) hk
    · exact K_eq (by rw [Bool.eq_iff_iff]; simp [decOk_nil]) hk
  · refine BIf_intro (fun g3 => rNum_ok hl (BIf_intro (fun g2 => rzeros_ok hl (BIf_intro (fun g4 => BIf_intro (fun g5 => ?_) fun g5 => ?_) fun g4 => ?_)) fun g2 => ?_)) fun g3 => ?_
    · exact K_eq (decide_eq_decide.2 (by rw [decOk_iff g]; exact ⟨fun h => ⟨g2, by omega, by omega, g5, h⟩, fun h => h.2.2.2.2⟩)) hk
    · exact no fun h => g5 ((decOk_iff g).1 h).2.2.2.1
    · exact no fun h => g4 (by have := ((decOk_iff g).1 h).2.2.1; omega)
    · exact no fun h => g2 ((decOk_iff g).1 h).1
    · exact no fun h => g3 (by have := ((decOk_iff g).1 h).2.1; omega)
theorem dated_ok {k : Int} {st : St} {K : Bool → St → Prop} (hk : K (decide (k = 1 ∨ k = 3 ∨ k = 4)) st) : CallT PR fn_datakitref05_dated [.int .i64 k] [.one .bool] st K := by
  refine vc_datakitref05_dated _ st K ?_
  repeat' first
    | exact K_eq (Eq.symm (decide_eq_true (by omega))) hk
    | exact K_eq (decide_eq_decide.2 (by omega)) hk
    | refine BIf_intro (fun _ => ?_) fun _ => ?_
theorem clocked_ok {k : Int} {st : St} {K : Bool → St → Prop} (hk : K (decide (k = 2 ∨ k = 3 ∨ k = 4)) st) : CallT PR fn_datakitref05_clocked [.int .i64 k] [.one .bool] st K := by
  refine vc_datakitref05_clocked _ st K ?_
  repeat' first
    | exact K_eq (Eq.symm (decide_eq_true (by omega))) hk
    | exact K_eq (decide_eq_decide.2 (by omega)) hk
    | refine BIf_intro (fun _ => ?_) fun _ => ?_
theorem rTime_ok {k d n z : Int} {st : St} {K : Bool → St → Prop} (hk : K (decide (TimeOk k d n z)) st) : CallT PR fn_datakitref05_Valid [.agg [.int .i64 k, .int .i64 d, .int .i64 n, .int .i64 z]] [.one .bool] st K := by
  refine vc_datakitref05_Valid _ _ _ _ st K ?_
  repeat' first
    | exact K_eq (Eq.symm (decide_eq_false (by unfold TimeOk; omega))) hk
    | exact K_eq (Eq.symm (decide_eq_true (by unfold TimeOk; omega))) hk
    | exact K_eq (decide_eq_decide.2 (by unfold TimeOk; omega)) hk
    | refine BIf_intro (fun _ => ?_) fun _ => ?_
    | refine dated_ok ?_
    | refine clocked_ok ?_
end Go.TVF
end

section
namespace Go.TVF
open Go Go.Proofs
set_option linter.unusedVariables false
set_option linter.unusedSimpArgs false
theorem oac {c p r : Bool} {K : Bool → Prop} {R1 R2 : Prop} (h1 : K r → R1) (h2 : K r → R2) (hk : K (!(c && p) && r)) : BIf c (BIf p (K false) R1) R2 := by
  cases c <;> cases p <;> simp only [Bool.true_and, Bool.false_and, Bool.not_true, Bool.not_false] at hk <;> first | exact h1 hk | exact h2 hk | exact hk
theorem oaf {c r : Bool} {K : Bool → Prop} {R : Prop} (h : K r → R) (hk : K (!c && r)) : BIf c (K false) R := by
  cases c <;> simp only [Bool.true_and, Bool.false_and, Bool.not_true, Bool.not_false] at hk <;> first | exact h hk | exact hk
theorem oab {c p r : Bool} {K : Bool → Prop} {R1 R2 : Prop} (h1 : K r → R1) (h2 : K r → R2) (hk : K ((c || p) && r)) : BIf c R1 (BIf p R2 (K false)) := by
  cases c <;> cases p <;> simp only [Bool.true_and, Bool.false_and, Bool.or_true, Bool.or_false, Bool.true_or, Bool.false_or] at hk <;> first | exact h1 hk | exact h2 hk | exact hk
theorem oan {c p r s : Bool} {K : Bool → Prop} {R1 R2 : Prop} (hs : s = true) (h1 : K r → R1) (h2 : K r → R2) (hk : K ((c || p) && r)) : BIf c R1 (need s (BIf p R2 (K false))) := by
  subst hs; exact oab h1 h2 hk
theorem oae {c p s : Bool} {K : Bool → Prop} (hs : s = true) (hk : K (c || p)) : BIf c (K true) (need s (K p)) := by
  subst hs; cases c <;> exact hk
def owB (s : Sc) (l : List Vl) (f : List Fd) : Bool :=
  !decide (s.kind < 0) && (!decide (7 < s.kind) && (!(decide (s.kind ≠ 1) && s.b) && (!(decide (s.kind ≠ 2) && !((s.neg == false) && (decide (s.dg = []) && (decide (s.ex = 0) && true)))) && (!(decide (s.kind ≠ 3) && !(decide (s.tk = 0) && (decide (s.td = 0) && (decide (s.tn = 0) && (decide (s.tz = 0) && true))))) &&
    ((decide (s.kind = 4) || decide (s.text = [])) && ((decide (s.kind = 5) || decide ((s.bytes.length : Int) = 0)) && ((decide (s.kind = 6) || decide ((l.length : Int) = 0)) && (decide (s.kind = 7) || decide ((f.length : Int) = 0)))))))))
theorem len_zero' {α : Type} {l : List α} : (l.length : Int) = 0 ↔ l = [] := by
  rw [← List.length_eq_zero_iff]; omega
theorem owB_true {s : Sc} {l : List Vl} {f : List Fd} : owB s l f = true ↔ OwnOk s l f := by
  unfold owB
  simp only [Bool.and_eq_true, Bool.not_eq_true', Bool.or_eq_true, Bool.and_eq_false_imp, decide_eq_true_eq, Bool.not_eq_false', beq_iff_eq, decide_eq_false_iff_not, len_zero', ne_eq, and_true, Int.not_lt]
  constructor
  · rintro ⟨h0, h7, a, b, c, d, e, f, g⟩
    exact ⟨h0, h7, a, b, c, fun h => d.resolve_left h, fun h => e.resolve_left h, fun h => f.resolve_left h, fun h => g.resolve_left h⟩
  · rintro ⟨h0, h7, a, b, c, d, e, f, g⟩
    exact ⟨h0, h7, a, b, c, Decidable.or_iff_not_imp_left.2 d, Decidable.or_iff_not_imp_left.2 e, Decidable.or_iff_not_imp_left.2 f, Decidable.or_iff_not_imp_left.2 g⟩
theorem owB_eq {s : Sc} {l : List Vl} {f : List Fd} : owB s l f = decide (OwnOk s l f) := by
  rw [Bool.eq_iff_iff, decide_eq_true_eq]; exact owB_true
theorem own_ok {s : Sc} {l : List Vl} {f : List Fd} {ub ul uf : TV} {st : St} {K : Bool → St → Prop} (h1 : isSl ub = true) (h2 : isSl ul = true) (h3 : isSl uf = true) (l1 : lenS ub = s.bytes.length) (l2 : lenS ul = l.length) (l3 : lenS uf = f.length) (hk : K (decide (OwnOk s l f)) st) :
    CallT PR fn_datakitref07_own [.agg (cellsV s ub ul uf)] [.one .bool] st K := by
  rw [← owB_eq] at hk
  unfold owB at hk
  refine vc_datakitref07_own _ _ _ _ _ _ _ _ _ _ _ _ _ st K ?_
  rw [l1, l2, l3]
  revert hk
  repeat' first
    | (refine fun hk => oae (K := fun b => K b st) h3 hk)
    | (refine fun hk => oan (K := fun b => K b st) h1 ?_ ?_ hk)
    | (refine fun hk => oan (K := fun b => K b st) h2 ?_ ?_ hk)
    | (refine fun hk => oab (K := fun b => K b st) ?_ ?_ hk)
    | (refine fun hk => oac (K := fun b => K b st) ?_ ?_ hk)
    | (refine fun hk => oaf (K := fun b => K b st) ?_ hk)
theorem key_ok {s : List UInt8} (hl : s.length ≤ 2000000) {st : St} {K : Int → St → Prop} (hk : K ((if U8 s then (if 1024 < s.length then 10 else 0) else 5 : Nat) : Int) st) : CallT PR fn_value_key [.str s] [.one (.int .i64)] st K := by
  refine vc_value_key _ st K (uValid_ok hl (BIf_bool (fun g => ?_) fun g => ?_))
  · have hu : ¬ U8 s := by unfold U8; simpa using g
    rw [if_neg hu] at hk; exact hk
  · have hu : U8 s := by unfold U8; simpa using g
    rw [if_pos hu] at hk
    refine BIf_intro (fun g2 => ?_) fun g2 => ?_
    · have h3 : 1024 < s.length := by omega
      rw [if_pos h3] at hk; exact hk
    · have h3 : ¬ 1024 < s.length := by omega
      rw [if_neg h3] at hk; exact hk
theorem findM_setM (k k' : List UInt8) (v : TV) : ∀ es : List (List UInt8 × TV), findM k (setM k' v es) = if k = k' then some v else findM k es
  | [] => by
    simp only [setM, findM]
    by_cases h : k = k' <;> simp [h]
  | (k1, v1) :: es => by
    simp only [setM]
    by_cases h1 : k' = k1
    · simp only [h1, decide_true, findM]
      by_cases h : k = k1 <;> simp [h]
    · simp only [h1, decide_false, findM, findM_setM k k' v es]
      by_cases h : k = k1
      · simp [h, Ne.symm h1]
      · simp [h]
/-- A map holds names. -/
def MapN (es : List (List UInt8 × TV)) (ns : List (List UInt8)) : Prop := ∀ t, findM t es = if t ∈ ns then some (.bool true) else none
theorem MapN.add {es : List (List UInt8 × TV)} {ns : List (List UInt8)} (h : MapN es ns) (t : List UInt8) : MapN (setM t (.bool true) es) (t :: ns) := by
  intro k
  rw [findM_setM]
  by_cases hk : k = t
  · simp [hk]
  · rw [if_neg hk, h k]; simp [hk]
theorem keysE_cons (seen : List (List UInt8)) (d : Fd) (r : List Fd) : keysE seen (d :: r) = if U8 d.key then (if 1024 < d.key.length then 10 else if d.key ∈ seen then 8 else keysE (d.key :: seen) r) else 5 := rfl
theorem keysE_congr : ∀ (f : List Fd) (s s' : List (List UInt8)), (∀ x, x ∈ s ↔ x ∈ s') → keysE s f = keysE s' f
  | [], s, s', _ => rfl
  | d :: r, s, s', h => by
    rw [keysE_cons, keysE_cons, keysE_congr r (d.key :: s) (d.key :: s') (fun x => by simp [h x])]
    by_cases hd : d.key ∈ s
    · rw [if_pos hd, if_pos ((h _).1 hd)]
    · rw [if_neg hd, if_neg fun g => hd ((h _).2 g)]
theorem drop_get {α : Type} {l : List α} {k : Nat} {x : α} (h : l[k]? = some x) : l.drop k = x :: l.drop (k + 1) := by
  obtain ⟨q1, q2⟩ := List.getElem?_eq_some_iff.1 h
  rw [List.drop_eq_getElem_cons q1, q2]
theorem key_len {f : List Fd} {d : Fd} (h : d ∈ f) : d.key.length ≤ fsSz f := by
  have := fsSz_mem h
  cases d; unfold Fd.sz at this; simp only [Fd.key]; omega
theorem keys_ok {st0 st : St} {uf : TV} {xf : List TV} {f : List Fd} (hke : Keeps st0 st) (h4 : SlR st0 14 uf f.length xf) (h5 : FsR st0 f xf) (hN : fsSz f ≤ 2000000) {K : Int → St → Prop} (hk : ∀ st', StExt st st' → K (keysE [] f : Nat) st') :
    CallT PR fn_value_keys [uf] [.one (.int .i64)] st K := by
  have hfl := fsSz_len f
  refine vc_value_keys _ st K (need_intro h4.isSl ⟨fun i m u n st' => .map st.nb = m ∧ uf = u ∧ (f.length : Int) = n ∧ ∃ (k : Nat) (ns : List (List UInt8)) (es : List (List UInt8 × TV)), i = k ∧ k ≤ f.length ∧ StExt st st' ∧ st.nb < st'.nb ∧ st'.box st.nb = .map es ∧ MapN es ns ∧ keysE [] f = keysE ns (f.drop k), fun i _ _ _ _ => (f.length - i).toNat,
    ⟨rfl, rfl, by rw [h4.lenS], 0, [], [], rfl, Nat.zero_le _, (StExt.refl st).push _ _, by simp [St.push], by simp [St.push], fun t => by simp [findM], rfl⟩, ?_⟩)
  rintro _ _ _ _ st1 ⟨rfl, rfl, rfl, k, ns, es, rfl, hkf, e1, hb, hm, hns, hE⟩
  refine BIf_intro (fun g => ?_) fun g => ?_
  · refine el14 (hke.trans e1.keeps) h4 h5 rfl (by omega) fun key s' l' f' ub1 ul1 uf1 gw hw on => need_intro on ?_
    have hmem := mem_of_get gw
    have hkl := key_len hmem
    rw [drop_get gw, keysE_cons] at hE
    change keysE [] f = if U8 key then (if 1024 < key.length then 10 else if key ∈ ns then 8 else keysE (key :: ns) (f.drop (k + 1))) else 5 at hE
    change key.length ≤ _ at hkl
    refine key_ok (by omega) ?_
    by_cases g1 : U8 key
    case neg =>
      rw [if_neg g1] at hE ⊢
      refine BIf_intro (fun _ => ?_) fun h => absurd (by decide) h
      rw [← hE]; exact hk st1 e1
    rw [if_pos g1] at hE ⊢
    by_cases g2 : 1024 < key.length
    · rw [if_pos g2] at hE ⊢
      refine BIf_intro (fun _ => ?_) fun h => absurd (by decide) h
      rw [← hE]; exact hk st1 e1
    rw [if_neg g2] at hE ⊢
    refine BIf_intro (fun h => absurd rfl h) fun _ => optK_intro (x := es) (by simp only [mapOf, hm]) ?_
    rw [hns key]
    by_cases g3 : key ∈ ns
    · rw [if_pos g3] at hE ⊢
      refine decT_bool (BIf_bool (fun _ => ?_) fun h => by cases h)
      have := hk st1 e1
      rw [hE] at this; exact this
    · rw [if_neg g3] at hE ⊢
      refine decT_bool (BIf_bool (fun h => by cases h) fun _ => ⟨es, hm, ?_⟩)
      rw [wrap64 _ (by omega) (by omega)]
      exact ⟨⟨rfl, rfl, rfl, k + 1, key :: ns, _, by omega, by omega, StX.ext e1 (StX.put (S := fun i => i = st.nb) rfl _) (fun i hi => by rw [hi]; exact Nat.le_refl _), hb, by simp [St.put], hns.add key, hE⟩, by dsimp only; omega⟩
  · have : k = f.length := by omega
    subst this
    rw [List.drop_length] at hE
    have := hk st1 e1
    rw [hE] at this; exact this
theorem Keys_ok {st0 st : St} {uf : TV} {xf : List TV} {f : List Fd} (hke : Keeps st0 st) (h4 : SlR st0 14 uf f.length xf) (h5 : FsR st0 f xf) (hN : fsSz f ≤ 2000000) {K : Int → St → Prop} (hk : ∀ st', StExt st st' → K (keysE [] f : Nat) st') :
    CallT PR fn_datakitref07_Keys [uf] [.one (.int .i64)] st K := by
  have hfl := fsSz_len f
  refine vc_datakitref07_Keys _ st K ⟨fun i u st' => uf = u ∧ ∃ k : Nat, i = k ∧ k ≤ f.length ∧ StExt st st' ∧ keysE [] f = keysE ((f.take k).map Fd.key) (f.drop k), fun i _ _ => (f.length - i).toNat, ⟨rfl, 0, rfl, Nat.zero_le _, StExt.refl _, rfl⟩, ?_⟩
  rintro _ _ st1 ⟨rfl, k, rfl, hkf, e1, hE⟩
  refine need_intro h4.isSl (BIf_intro (fun g => ?_) fun g => ?_)
  · rw [h4.lenS] at g
    have gd : f[k]? = some f[k] := List.getElem?_eq_getElem (by omega)
    generalize f[k] = d at gd
    have hkl := key_len (mem_of_get gd)
    rw [drop_get gd, keysE_cons] at hE
    refine key14 (hke.trans e1.keeps) h4 h5 rfl gd (rvalid_ok (by omega) fun st2 e2 => ?_)
    have e12 := e1.trans e2
    by_cases g1 : U8 d.key
    case neg =>
      rw [if_neg g1] at hE
      refine BIf_bool (fun _ => ?_) fun h => absurd (by unfold U8; simpa using h) g1
      have := hk st2 e12
      rw [hE] at this; exact this
    rw [if_pos g1] at hE
    refine BIf_bool (fun h => absurd g1 (by unfold U8; simpa using h)) fun _ => key14 (hke.trans e12.keeps) h4 h5 rfl gd ?_
    by_cases g2 : 1024 < d.key.length
    · rw [if_pos g2] at hE
      refine BIf_intro (fun _ => ?_) fun h => absurd (by omega) h
      have := hk st2 e12
      rw [hE] at this; exact this
    rw [if_neg g2] at hE
    refine BIf_intro (fun h => absurd (by omega) g2) fun _ => ?_
    refine ⟨fun i u j st' => uf = u ∧ j = (k : Int) ∧ st2 = st' ∧ ∃ q : Nat, i = q ∧ q ≤ k ∧ ∀ (j : Nat) (x : Fd), j < q → f[j]? = some x → x.key ≠ d.key, fun i _ _ _ => (k - i).toNat, ⟨rfl, rfl, rfl, 0, rfl, Nat.zero_le _, fun j x hj => absurd hj (Nat.not_lt_zero _)⟩, ?_⟩
    rintro _ _ _ _ ⟨rfl, rfl, rfl, q, rfl, hq, hne⟩
    refine BIf_intro (fun g3 => ?_) fun g3 => ?_
    · have gx : f[q]? = some f[q] := List.getElem?_eq_getElem (by omega)
      generalize f[q] = x at gx
      refine key14 (hke.trans e12.keeps) h4 h5 rfl gx (key14 (hke.trans e12.keeps) h4 h5 rfl gd (BIf_intro (fun g4 => ?_) fun g4 => ?_))
      · rw [if_pos] at hE
        · have := hk st2 e12
          rw [hE] at this; exact this
        · rw [← g4]
          refine List.mem_map_of_mem ?_
          have : (f.take k)[q]? = some x := by rw [List.getElem?_take, if_pos (by omega)]; exact gx
          exact mem_of_get this
      · rw [wrap64 _ (by omega) (by omega)]
        refine ⟨⟨rfl, rfl, rfl, q + 1, by omega, by omega, fun j y hj hy => ?_⟩, by dsimp only; omega⟩
        by_cases hjq : j = q
        · subst hjq
          rw [gx] at hy
          rw [← Option.some.inj hy]; exact g4
        · exact hne j y (by omega) hy
    · have hqk : q = k := by omega
      subst hqk
      rw [if_neg] at hE
      · rw [wrap64 _ (by omega) (by omega)]
        refine ⟨⟨rfl, q + 1, by omega, by omega, e12, ?_⟩, by dsimp only; omega⟩
        rw [hE]
        refine keysE_congr _ _ _ fun x => ?_
        rw [take_snoc gd]
        simp [or_comm]
      · intro hm
        obtain ⟨x, hx, he⟩ := List.mem_map.1 hm
        obtain ⟨j, hj⟩ := List.getElem?_of_mem hx
        rw [List.getElem?_take] at hj
        split at hj
        · rename_i hlt
          exact hne j x hlt hj he
        · cases hj
  · rw [h4.lenS] at g
    have : k = f.length := by omega
    subst this
    rw [List.drop_length] at hE
    have := hk st1 e1
    rw [hE] at this; exact this
end Go.TVF
end

section
namespace Go.TVF
open Go Go.Proofs
set_option linter.unusedVariables false
set_option linter.unusedSimpArgs false
theorem chkV_eq {d n : Nat} {s : Sc} {l : List Vl} {f : List Fd} (h1 : ¬ 48 < d) (h2 : ¬ 65536 ≤ n) (h3 : oneE s l f = 0) : chkV d n (.mk s l f) = thenE (chkVs (d + 1) (n + 1) l) fun m => chkFs (d + 1) m f := by
  unfold chkV; rw [if_neg h1, if_neg h2, if_neg (fun h => h h3)]
theorem chkV_one {d n : Nat} {s : Sc} {l : List Vl} {f : List Fd} (h1 : ¬ 48 < d) (h2 : ¬ 65536 ≤ n) (h3 : oneE s l f ≠ 0) : chkV d n (.mk s l f) = (n, oneE s l f) := by
  unfold chkV; rw [if_neg h1, if_neg h2, if_pos h3]
theorem chkVs_cons (d n : Nat) (v : Vl) (r : List Vl) : chkVs d n (v :: r) = thenE (chkV d n v) fun m => chkVs d m r := by rw [chkVs]
theorem chkFs_cons (d n : Nat) (k : List UInt8) (v : Vl) (r : List Fd) : chkFs d n (.mk k v :: r) = thenE (chkV d n v) fun m => chkFs d m r := by rw [chkFs, chkD]
end Go.TVF
end

section
namespace Go.TVF
open Go Go.Proofs
set_option linter.unusedVariables false
set_option linter.unusedSimpArgs false
theorem one_ok {s : Sc} {l : List Vl} {f : List Fd} (hN : (Vl.mk s l f).sz ≤ 2000000) {st0 st : St} {ub ul uf : TV} {K : Int → St → Prop} (h : VlR st0 (.mk s l f) (cellsV s ub ul uf)) (hke : Keeps st0 st) (hk : ∀ st', StExt st st' → K (oneE s l f : Nat) st') :
    CallT PR fn_datakitref07_one [.agg (cellsV s ub ul uf)] [.one (.int .i64)] st K := by
  have hsz : (Vl.mk s l f).sz = 1 + s.bytes.length + s.text.length + s.dg.length + vsSz l + fsSz f := by unfold Vl.sz; rfl
  unfold VlR at h
  obtain ⟨ub', ul', uf', xl, xf, hcs, h1, h2, h3, h4, h5⟩ := h
  simp only [cellsV, List.cons.injEq, and_true, true_and] at hcs
  obtain ⟨rfl, rfl, rfl⟩ := hcs
  refine vc_datakitref07_one _ _ _ _ _ _ _ _ _ _ _ _ _ st K (own_ok h1.isSl h2.isSl h4.isSl h1.lenS h2.lenS h4.lenS ?_)
  have kk : ∀ (c : Nat) (st' : St), oneE s l f = c → StExt st st' → K (c : Int) st' := fun c st' hc e => by rw [← hc]; exact hk st' e
  by_cases ho : OwnOk s l f
  case neg => exact BIf_bool (fun _ => kk 6 st (by unfold oneE; rw [if_neg ho]) (StExt.refl _)) fun h => by rw [decide_eq_false ho] at h; cases h
  refine BIf_bool (fun h => by rw [decide_eq_true ho] at h; cases h) fun _ => rDec_ok (by omega) ?_
  by_cases hq : DecOk s.neg s.dg s.ex
  case neg => exact BIf_bool (fun _ => kk 2 st (by unfold oneE; rw [if_pos ho, if_neg hq]) (StExt.refl _)) fun h => by rw [decide_eq_false hq] at h; cases h
  refine BIf_bool (fun h => by rw [decide_eq_true hq] at h; cases h) fun _ => ?_
  have rest : (s.kind = 3 → TimeOk s.tk s.td s.tn s.tz) → CallT PR fn_datakitref03_Valid [.str s.text] [.one (.bool)] st (fun (b4 : Bool) (st4 : St) => BIf (!b4) (K 5 st4) (BIf (decide (65536 < (s.text.length : Int))) (K 10 st4) (need (isSl ub) (BIf (decide (65536 < (lenS ub : Int))) (K 10 st4) (
      CallT PR fn_datakitref07_Keys [uf] [.one (.int .i64)] st4 fun (n1 : Int) (st5 : St) => K n1 st5))))) := by
    intro hq2
    refine rvalid_ok (by omega) fun st1 e1 => ?_
    by_cases hu : U8 s.text
    case neg => exact BIf_bool (fun _ => kk 5 st1 (by unfold oneE; rw [if_pos ho, if_pos hq, if_pos hq2, if_neg hu]) e1) fun h => absurd (by unfold U8; simpa using h) hu
    have h6 : oneE s l f = if 65536 < s.text.length then 10 else if 65536 < s.bytes.length then 10 else keysE [] f := by unfold oneE; rw [if_pos ho, if_pos hq, if_pos hq2, if_pos hu]
    refine BIf_bool (fun h => absurd hu (by unfold U8; simpa using h)) fun _ => BIf_intro (fun g5 => ?_) fun g5 => need_intro h1.isSl (BIf_intro (fun g6 => ?_) fun g6 => ?_)
    · exact kk 10 st1 (by rw [h6, if_pos (by omega)]) e1
    · rw [h1.lenS] at g6
      exact kk 10 st1 (by rw [h6, if_neg (by omega), if_pos (by omega)]) e1
    · rw [h1.lenS] at g6
      exact Keys_ok (hke.trans e1.keeps) h4 h5 (by omega) fun st2 e2 => kk _ st2 (by rw [h6, if_neg (by omega), if_neg (by omega)]) (e1.trans e2)
  refine BIf_intro (fun g3 => rTime_ok ?_) fun g3 => rest fun h => absurd h g3
  by_cases hq2 : TimeOk s.tk s.td s.tn s.tz
  · exact BIf_bool (fun h => by rw [decide_eq_true hq2] at h; cases h) fun _ => rest fun _ => hq2
  · exact BIf_bool (fun _ => kk 2 st (by unfold oneE; rw [if_pos ho, if_pos hq, if_neg fun h => hq2 (h g3)]) (StExt.refl _)) fun h => by rw [decide_eq_false hq2] at h; cases h
/-- The values directly in a value. -/
def kidsV (s : Sc) (l : List Vl) (f : List Fd) : List Vl := if s.kind = 7 then f.map Fd.val else l
theorem chkFs_map (d : Nat) : ∀ (f : List Fd) (n : Nat), chkFs d n f = chkVs d n (f.map Fd.val)
  | [], n => by simp [chkFs, chkVs]
  | .mk k v :: r, n => by
    rw [chkFs_cons, List.map_cons, chkVs_cons]
    have : (fun m => chkFs d m r) = fun m => chkVs d m (r.map Fd.val) := funext fun m => chkFs_map d r m
    rw [this]; rfl
theorem thenE_id (x : Nat × Nat) : thenE x (fun m => (m, 0)) = x := by
  unfold thenE; split
  · rename_i h; exact Prod.ext rfl h.symm
  · rfl
theorem chkV_kids {d n : Nat} {s : Sc} {l : List Vl} {f : List Fd} (ho : OwnOk s l f) : (thenE (chkVs (d + 1) (n + 1) l) fun m => chkFs (d + 1) m f) = chkVs (d + 1) (n + 1) (kidsV s l f) := by
  unfold kidsV
  by_cases h7 : s.kind = 7
  · rw [if_pos h7, ho.ls (by omega), chkVs, thenE_ok rfl, chkFs_map]
  · rw [if_neg h7, ho.fs h7]
    simp only [chkFs]
    exact thenE_id _
mutual
theorem chkV_le : ∀ (v : Vl) (d n : Nat), n ≤ 65536 → (chkV d n v).2 = 0 → (chkV d n v).1 ≤ 65536
  | .mk s l f, d, n, hn, h => by
    unfold chkV at h ⊢
    split at h
    · cases h
    · rename_i g1
      rw [if_neg g1]
      split at h
      · cases h
      · rename_i g2
        rw [if_neg g2]
        split at h
        · rename_i h1; exact absurd h h1
        · rename_i g3
          rw [if_neg g3]
          obtain ⟨h2, h3⟩ := thenE_zero h
          rw [thenE_ok h2]
          exact chkFs_le f _ _ (chkVs_le l _ _ (by omega) h2) h3
theorem chkVs_le : ∀ (l : List Vl) (d n : Nat), n ≤ 65536 → (chkVs d n l).2 = 0 → (chkVs d n l).1 ≤ 65536
  | [], d, n, hn, _ => by unfold chkVs; exact hn
  | v :: r, d, n, hn, h => by
    unfold chkVs at h ⊢
    obtain ⟨h2, h3⟩ := thenE_zero h
    rw [thenE_ok h2]
    exact chkVs_le r _ _ (chkV_le v _ _ hn h2) h3
theorem chkD_le : ∀ (x : Fd) (d n : Nat), n ≤ 65536 → (chkD d n x).2 = 0 → (chkD d n x).1 ≤ 65536
  | .mk k v, d, n, hn, h => by unfold chkD at h ⊢; exact chkV_le v _ _ hn h
theorem chkFs_le : ∀ (l : List Fd) (d n : Nat), n ≤ 65536 → (chkFs d n l).2 = 0 → (chkFs d n l).1 ≤ 65536
  | [], d, n, hn, _ => by unfold chkFs; exact hn
  | x :: r, d, n, hn, h => by
    unfold chkFs at h ⊢
    obtain ⟨h2, h3⟩ := thenE_zero h
    rw [thenE_ok h2]
    exact chkFs_le r _ _ (chkD_le x _ _ hn h2) h3
end
theorem VsR.snoc {st : St} {v : Vl} {cv : List TV} : ∀ {l : List Vl} {xs : List TV}, VsR st l xs → VlR st v cv → VsR st (l ++ [v]) (xs ++ cv)
  | [], xs, h, hv => by
    unfold VsR at h
    subst h
    show VsR st [v] _
    unfold VsR
    exact ⟨cv, [], by simp, hv, by unfold VsR; rfl⟩
  | w :: r, xs, h, hv => by
    unfold VsR at h
    obtain ⟨a, b, rfl, h1, h2⟩ := h
    show VsR st (w :: (r ++ [v])) _
    unfold VsR
    exact ⟨a, b ++ cv, by simp, h1, VsR.snoc h2 hv⟩
theorem kids_ok {s : Sc} {l : List Vl} {f : List Fd} (hN : (Vl.mk s l f).sz ≤ 2000000) {st0 st : St} {ub ul uf : TV} {K : TV → St → Prop} (h : VlR st0 (.mk s l f) (cellsV s ub ul uf)) (hke : Keeps st0 st)
    (hk : ∀ u xl st', StExt st st' → SlR st' 13 u (kidsV s l f).length xl → VsR st' (kidsV s l f) xl → K u st') : CallT PR fn_datakitref07_Kids [.agg (cellsV s ub ul uf)] [.one .tv] st K := by
  have hsz : (Vl.mk s l f).sz = 1 + s.bytes.length + s.text.length + s.dg.length + vsSz l + fsSz f := by unfold Vl.sz; rfl
  have hfl := fsSz_len f
  unfold VlR at h
  obtain ⟨ub', ul', uf', xl, xf, hcs, h1, h2, h3, h4, h5⟩ := h
  simp only [cellsV, List.cons.injEq, and_true, true_and] at hcs
  obtain ⟨rfl, rfl, rfl⟩ := hcs
  refine vc_datakitref07_Kids _ _ _ _ _ _ _ _ _ _ _ _ _ st K (BIf_intro (fun g => ?_) fun g => ?_)
  · have e : kidsV s l f = l := by unfold kidsV; rw [if_neg g]
    rw [e] at hk
    exact hk ul xl st (StExt.refl _) (h2.keep hke) (VsR.keep hke h3)
  · have e : kidsV s l f = f.map Fd.val := by unfold kidsV; rw [if_pos (by omega)]
    rw [e, List.length_map] at hk
    refine ⟨fun o i kd bo ng dg ex tk td tn tz tx u1 u2 u3 st' => uf = u3 ∧ ∃ (k : Nat) (xs : List TV), i = k ∧ k ≤ f.length ∧ StExt st st' ∧ Own st.nt 13 st' o k xs ∧ VsR st ((f.take k).map Fd.val) xs, fun _ i _ _ _ _ _ _ _ _ _ _ _ _ _ _ => (f.length - i).toNat,
      ⟨rfl, 0, [], rfl, Nat.zero_le _, StExt.refl _, Own.nil _ _ _, by simp only [List.take_zero, List.map_nil]; unfold VsR; rfl⟩, ?_⟩
    rintro o _ kd bo ng dg ex tk td tn tz tx u1 u2 _ st1 ⟨rfl, k, xs, rfl, hkf, e1, ho, hv⟩
    refine need_intro h4.isSl (BIf_intro (fun g2 => ?_) fun g2 => ?_)
    · rw [h4.lenS] at g2
      refine val14 (hke.trans e1.keeps) h4 h5 rfl (by omega) fun key s' l' f' ub1 ul1 uf1 gw hw on => need_intro on ?_
      refine appK_own e1 rfl ho (by omega) (fun h => by cases h) fun v2 st2 e2 _ ho2 => ?_
      rw [wrap64 _ (by omega) (by omega)]
      refine ⟨⟨rfl, k + 1, _, by omega, by omega, e2, ho2, ?_⟩, by dsimp only; omega⟩
      rw [take_snoc gw, List.map_append]
      exact VsR.snoc hv (VlR.keep hke hw)
    · rw [h4.lenS] at g2
      have hkk : k = f.length := by omega
      subst hkk
      rw [List.take_length] at hv
      exact hk o xs st1 e1 (.of_rd ho.rd) (VsR.keep e1.keeps hv)
theorem kids_sz {s : Sc} {l : List Vl} {f : List Fd} {k : Nat} {w : Vl} (h : (kidsV s l f)[k]? = some w) : w.sz + 1 ≤ (Vl.mk s l f).sz := by
  have hsz : (Vl.mk s l f).sz = 1 + s.bytes.length + s.text.length + s.dg.length + vsSz l + fsSz f := by unfold Vl.sz; rfl
  unfold kidsV at h
  split at h
  · rw [List.getElem?_map] at h
    obtain ⟨d, hd, rfl⟩ := Option.map_eq_some_iff.1 h
    have := fsSz_get hd
    cases d; unfold Fd.sz at this; simp only [Fd.val]; omega
  · have := vsSz_get h; omega
theorem kids_len {s : Sc} {l : List Vl} {f : List Fd} : (kidsV s l f).length ≤ (Vl.mk s l f).sz := by
  have hsz : (Vl.mk s l f).sz = 1 + s.bytes.length + s.text.length + s.dg.length + vsSz l + fsSz f := by unfold Vl.sz; rfl
  have := vsSz_len l
  have := fsSz_len f
  unfold kidsV; split
  · rw [List.length_map]; omega
  · omega
theorem look_ok : ∀ (N : Nat) (v : Vl), v.sz ≤ N → N ≤ 2000000 → ∀ {st0 st : St} {cs : List TV} {d n : Nat} {D : Int} {K : Int → Int → St → Prop}, VlR st0 v cs → Keeps st0 st → n ≤ 65536 → D = (d : Int) → d ≤ 100 →
    (∀ st', StExt st st' → K ((chkV d n v).1 : Nat) ((chkV d n v).2 : Nat) st') → CallT PR fn_datakitref07_look [.agg cs, .int .i64 D, .int .i64 (n : Nat)] [.one (.int .i64), .one (.int .i64)] st K := by
  intro N
  induction N with
  | zero => intro v h; have := v.sz_pos; omega
  | succ N ih =>
  intro v hN hN2 st0 st cs d n D K h hke hn hD hd hk
  subst hD
  cases v with
  | mk s l f =>
  have hcs : ∃ ub ul uf, cs = cellsV s ub ul uf := by
    have h0 := h
    unfold VlR at h0
    obtain ⟨ub, ul, uf, xl, xf, rfl, _⟩ := h0
    exact ⟨ub, ul, uf, rfl⟩
  obtain ⟨ub, ul, uf, rfl⟩ := hcs
  have kk : ∀ (x : Nat × Nat) (st' : St), chkV d n (.mk s l f) = x → StExt st st' → K (x.1 : Nat) (x.2 : Nat) st' := fun x st' hx e => by rw [← hx]; exact hk st' e
  refine vc_datakitref07_look _ _ _ _ _ _ _ _ _ _ _ _ _ (d : Int) (n : Int) st K (BIf_intro (fun g => ?_) fun g => BIf_intro (fun g2 => ?_) fun g2 => ?_)
  · exact kk (n, 9) st (by unfold chkV; rw [if_pos (by omega)]) (StExt.refl _)
  · exact kk (n, 10) st (by unfold chkV; rw [if_neg (by omega), if_pos (by omega)]) (StExt.refl _)
  have hg1 : ¬ 48 < d := by omega
  have hg2 : ¬ 65536 ≤ n := by omega
  refine one_ok (l := l) (f := f) (by omega) h hke fun st1 e1 => BIf_intro (fun g3 => ?_) fun g3 => ?_
  · exact kk (n, oneE s l f) st1 (chkV_one hg1 hg2 (by omega)) e1
  have hone : oneE s l f = 0 := by omega
  have ho : OwnOk s l f := (oneE_zero.1 hone).own
  have hC : chkV d n (.mk s l f) = chkVs (d + 1) (n + 1) (kidsV s l f) := by rw [chkV_eq hg1 hg2 hone, chkV_kids ho]
  refine kids_ok (l := l) (f := f) (by omega) h (hke.trans e1.keeps) fun u xl st2 e2 hu hv => ?_
  have e12 := e1.trans e2
  have hlen := kids_len (s := s) (l := l) (f := f)
  rw [wrap64 ((n : Int) + 1) (by omega) (by omega)]
  refine ⟨fun c i dp u' st' => u = u' ∧ dp = (d : Int) ∧ ∃ k m : Nat, i = k ∧ k ≤ (kidsV s l f).length ∧ c = (m : Int) ∧ m ≤ 65536 ∧ StExt st2 st' ∧ chkVs (d + 1) (n + 1) (kidsV s l f) = chkVs (d + 1) m ((kidsV s l f).drop k), fun _ i _ _ _ => ((kidsV s l f).length - i).toNat,
    ⟨rfl, rfl, 0, n + 1, rfl, Nat.zero_le _, by omega, by omega, StExt.refl _, rfl⟩, ?_⟩
  rintro _ _ _ _ st3 ⟨rfl, rfl, k, m, rfl, hkl, rfl, hm, e3, hE⟩
  refine need_intro hu.isSl (BIf_intro (fun g4 => ?_) fun g4 => ?_)
  · rw [hu.lenS] at g4
    refine el13 e3.keeps hu hv rfl (by omega) fun s' l' f' ub1 ul1 uf1 gw hw on => ?_
    have hwsz := kids_sz gw
    rw [drop_get gw, chkVs_cons] at hE
    rw [wrap64 _ (by omega) (by omega)]
    refine ih _ (by omega) (by omega) (d := d + 1) hw e3.keeps hm (by omega) (by omega) fun st4 e4 => ?_
    refine BIf_intro (fun g5 => ?_) fun g5 => ?_
    · have hne : (chkV (d + 1) m (.mk s' l' f')).2 ≠ 0 := by omega
      rw [thenE_err hne] at hE
      exact kk _ st4 (by rw [hC, hE]) (e12.trans (e3.trans e4))
    · have hz : (chkV (d + 1) m (.mk s' l' f')).2 = 0 := by omega
      rw [thenE_ok hz] at hE
      rw [wrap64 _ (by omega) (by omega)]
      exact ⟨⟨rfl, rfl, k + 1, _, by omega, by omega, rfl, chkV_le _ _ _ hm hz, e3.trans e4, hE⟩, by dsimp only; omega⟩
  · rw [hu.lenS] at g4
    have hkk : k = (kidsV s l f).length := by omega
    subst hkk
    rw [List.drop_length, chkVs] at hE
    exact kk (m, 0) st3 (by rw [hC, hE]) (e12.trans e3)
theorem rCheck_ok {v : Vl} (hN : v.sz ≤ 2000000) {st0 st : St} {cs : List TV} {K : Int → St → Prop} (h : VlR st0 v cs) (hke : Keeps st0 st) (hk : ∀ st', StExt st st' → K (checkV v : Nat) st') :
    CallT PR fn_datakitref07_Check [.agg cs] [.one (.int .i64)] st K := by
  have h0 := h
  cases v with
  | mk s l f =>
  unfold VlR at h0
  obtain ⟨ub, ul, uf, xl, xf, rfl, _⟩ := h0
  exact vc_datakitref07_Check _ _ _ _ _ _ _ _ _ _ _ _ _ st K (look_ok 2000000 _ hN (by omega) (d := 1) (n := 0) h hke (by omega) rfl (by omega) hk)
end Go.TVF
end

section
namespace Go.TVF
open Go Go.Proofs
set_option linter.unusedVariables false
set_option linter.unusedSimpArgs false
theorem VlR.cells {st : St} {s : Sc} {l : List Vl} {f : List Fd} {cs : List TV} (h : VlR st (.mk s l f) cs) : ∃ ub ul uf xl xf, cs = cellsV s ub ul uf ∧ SlR st 1 ub s.bytes.length (bytesT s.bytes) ∧ SlR st 13 ul l.length xl ∧ VsR st l xl ∧ SlR st 14 uf f.length xf ∧ FsR st f xf := by
  unfold VlR at h
  obtain ⟨ub, ul, uf, xl, xf, rfl, h⟩ := h
  exact ⟨ub, ul, uf, xl, xf, rfl, h⟩
theorem szs (s : Sc) (l : List Vl) (f : List Fd) : (Vl.mk s l f).sz = 1 + s.bytes.length + s.text.length + s.dg.length + vsSz l + fsSz f := by unfold Vl.sz; rfl
theorem szd (k : List UInt8) (v : Vl) : (Fd.mk k v).sz = k.length + v.sz := by unfold Fd.sz; rfl
theorem room_ok : ∀ (N : Nat) (v : Vl), v.sz ≤ N → N ≤ 2000000 → ∀ {st0 st : St} {cs : List TV} {L D : Int} {K : Int → St → Prop}, VlR st0 v cs → Keeps st0 st → (∀ r, K r st) → CallT PR fn_datakitref07_room [.agg cs, .int .i64 L, .int .i64 D] [.one (.int .i64)] st K := by
  intro N
  induction N with
  | zero => intro v h; have := v.sz_pos; omega
  | succ N ih =>
  intro v hN hN2 st0 st cs L D K h hke hk
  cases v with
  | mk s l f =>
  have hsz := szs s l f
  have hll := vsSz_len l
  have hfl := fsSz_len f
  obtain ⟨ub, ul, uf, xl, xf, rfl, h1, h2, h3, h4, h5⟩ := h.cells
  have fields : ∀ (X : Int) (I1 : Int → Int → Int → Int → Bool → Bool → List UInt8 → Int → Int → Int → Int → Int → List UInt8 → TV → TV → TV → St → Prop), True := fun _ _ => trivial
  refine vc_datakitref07_room _ _ _ _ _ _ _ _ _ _ _ _ _ L D st K (BIf_intro (fun _ => hk _) fun _ => need_intro h2.isSl (BIf_intro (fun _ => hk _) fun _ => need_intro h4.isSl (BIf_intro (fun _ => hk _) fun _ => ?_)))
  refine ⟨fun le i dp kd bo ng dg ex tk td tn tz tx u1 u2 u3 st' => ul = u2 ∧ uf = u3 ∧ st = st' ∧ ∃ k : Nat, i = k ∧ k ≤ l.length, fun _ i _ _ _ _ _ _ _ _ _ _ _ _ _ _ _ => (l.length - i).toNat, ⟨rfl, rfl, rfl, 0, rfl, Nat.zero_le _⟩, ?_⟩
  rintro le _ dp kd bo ng dg ex tk td tn tz tx u1 _ _ _ ⟨rfl, rfl, rfl, k, rfl, hkl⟩
  refine need_intro h2.isSl (BIf_intro (fun g => BIf_intro (fun _ => ?_) fun _ => ?_) fun _ => ?_)
  · rw [h2.lenS] at g
    refine el13 hke h2 h3 rfl (by omega) fun s' l' f' ub1 ul1 uf1 gw hw on => ?_
    have hwsz := vsSz_get gw
    rw [wrap64 ((k : Int) + 1) (by omega) (by omega)]
    exact ih _ (by omega) (by omega) hw hke fun r => ⟨⟨rfl, rfl, rfl, k + 1, by omega, by omega⟩, by dsimp only; omega⟩
  all_goals
    refine ⟨fun le i dp kd bo ng dg ex tk td tn tz tx u1 u2 u3 st' => uf = u3 ∧ st = st' ∧ ∃ k : Nat, i = k ∧ k ≤ f.length, fun _ i _ _ _ _ _ _ _ _ _ _ _ _ _ _ _ => (f.length - i).toNat, ⟨rfl, rfl, 0, rfl, Nat.zero_le _⟩, ?_⟩
    rintro le _ dp kd bo ng dg ex tk td tn tz tx u1 u2 _ _ ⟨rfl, rfl, k, rfl, hkl⟩
    refine need_intro h4.isSl (BIf_intro (fun g => BIf_intro (fun _ => ?_) fun _ => hk _) fun _ => hk _)
    rw [h4.lenS] at g
    refine val14 hke h4 h5 rfl (by omega) fun key s' l' f' ub1 ul1 uf1 gw hw on => ?_
    have hwsz := fsSz_get gw
    have hwk := szd key (.mk s' l' f')
    rw [wrap64 ((k : Int) + 1) (by omega) (by omega)]
    exact ih (.mk s' l' f') (by omega) (by omega) hw hke fun r => ⟨⟨rfl, rfl, k + 1, by omega, by omega⟩, by dsimp only; omega⟩
theorem Small_ok {v : Vl} (hN : v.sz ≤ 2000000) {st0 st : St} {cs : List TV} {L D : Int} {K : Bool → St → Prop} (h : VlR st0 v cs) (hke : Keeps st0 st) (hk : ∀ b, K b st) : CallT PR fn_datakitref07_Small [.agg cs, .int .i64 L, .int .i64 D] [.one .bool] st K := by
  cases v with
  | mk s l f =>
  have h0 := h
  obtain ⟨ub, ul, uf, xl, xf, rfl, _⟩ := h.cells
  exact vc_datakitref07_Small _ _ _ _ _ _ _ _ _ _ _ _ _ L D st K (room_ok 2000000 _ hN (by omega) h0 hke fun r => hk _)
theorem keyLd {st0 st : St} {uf : TV} {xf : List TV} {l : List Fd} (hke : Keeps st0 st) (h2 : SlR st0 14 uf l.length xf) (h3 : FsR st0 l xf) {k : Nat} {d : Fd} (hd : l[k]? = some d) : ldCell st [] (.t (fldT (ixT 14 uf k) 0)) 0 = some (.str d.key) := by
  obtain ⟨hk, _⟩ := List.getElem?_eq_some_iff.1 hd
  obtain ⟨cw, hw, hcw, hcl⟩ := h3.get hd
  have hx : xf[k * 14 + 0]? = some (.str d.key) := by
    cases d with
    | mk key w =>
      unfold FdR at hw
      obtain ⟨cs, rfl, _⟩ := hw
      have := congrArg (fun z => z[0]?) hcw
      simpa [Fd.key] using this
  exact (h2.keep hke).ldf h3.len hk (by omega) hx
end Go.TVF
end

section
namespace Go.TVF
open Go Go.Proofs
set_option linter.unusedVariables false
set_option linter.unusedSimpArgs false
mutual
theorem chkV_cnt : ∀ (v : Vl) (d n : Nat), (chkV d n v).2 = 0 → (chkV d n v).1 = n + v.cnt
  | .mk s l f, d, n, h => by
    unfold chkV at h ⊢
    unfold Vl.cnt
    split at h
    · cases h
    · rename_i g1
      rw [if_neg g1]
      split at h
      · cases h
      · rename_i g2
        rw [if_neg g2]
        split at h
        · rename_i h1; exact absurd h h1
        · rename_i g3
          rw [if_neg g3]
          obtain ⟨h2, h3⟩ := thenE_zero h
          rw [thenE_ok h2, chkFs_cnt f _ _ h3, chkVs_cnt l _ _ h2]; omega
theorem chkVs_cnt : ∀ (l : List Vl) (d n : Nat), (chkVs d n l).2 = 0 → (chkVs d n l).1 = n + vsCnt l
  | [], d, n, _ => by unfold chkVs vsCnt; rfl
  | v :: r, d, n, h => by
    unfold chkVs at h ⊢
    unfold vsCnt
    obtain ⟨h2, h3⟩ := thenE_zero h
    rw [thenE_ok h2, chkVs_cnt r _ _ h3, chkV_cnt v _ _ h2]; omega
theorem chkD_cnt : ∀ (x : Fd) (d n : Nat), (chkD d n x).2 = 0 → (chkD d n x).1 = n + x.cnt
  | .mk k v, d, n, h => by unfold chkD at h ⊢; unfold Fd.cnt; exact chkV_cnt v _ _ h
theorem chkFs_cnt : ∀ (l : List Fd) (d n : Nat), (chkFs d n l).2 = 0 → (chkFs d n l).1 = n + fsCnt l
  | [], d, n, _ => by unfold chkFs fsCnt; rfl
  | x :: r, d, n, h => by
    unfold chkFs at h ⊢
    unfold fsCnt
    obtain ⟨h2, h3⟩ := thenE_zero h
    rw [thenE_ok h2, chkFs_cnt r _ _ h3, chkD_cnt x _ _ h2]; omega
end
theorem check_cnt {v : Vl} (h : checkV v = 0) : v.cnt ≤ 65536 := by
  have h1 := chkV_cnt v 1 0 h
  have h2 := chkV_le v 1 0 (by omega) h
  omega
theorem check_valid {v : Vl} (h : checkV v = 0) : Valid v := chkV_ok v 1 0 h
theorem RdB.len {u : TV} {l : List UInt8} (h : RdB u l) : lenS u = l.length := Rd.lenS h
end Go.TVF
end

section
namespace Go.TVF
open Go Go.Proofs
set_option linter.unusedVariables false
set_option linter.unusedSimpArgs false
theorem take_eq_snoc {α : Type} {l m : List α} {k : Nat} {x y : α} (h : l.take k = m.take k) (hx : l[k]? = some x) (hy : m[k]? = some y) (e : x = y) : l.take (k + 1) = m.take (k + 1) := by
  rw [take_snoc hx, take_snoc hy, h, e]
theorem sc_eq {s t : Sc} (h1 : s.kind = t.kind) (h2 : s.b = t.b) (h3 : s.neg = t.neg) (h4 : s.dg = t.dg) (h5 : s.ex = t.ex) (h6 : s.tk = t.tk) (h7 : s.td = t.td) (h8 : s.tn = t.tn) (h9 : s.tz = t.tz) (h10 : s.text = t.text) (h11 : s.bytes = t.bytes) : s = t := by
  cases s; cases t; simp_all
theorem Same_ok : ∀ (N : Nat) (v w : Vl), v.sz ≤ N → w.sz ≤ 2000000 → N ≤ 2000000 → ∀ {st0 st : St} {cs ds : List TV} {K : Bool → St → Prop}, VlR st0 v cs → VlR st0 w ds → Keeps st0 st → (∀ r, (r = true ↔ v = w) → K r st) →
    CallT PR fn_datakitref07_Same [.agg cs, .agg ds] [.one .bool] st K := by
  intro N
  induction N with
  | zero => intro v w h; have := v.sz_pos; omega
  | succ N ih =>
  intro v w hN hW hN2 st0 st cs ds K h h' hke hk
  cases v with
  | mk s l f =>
  cases w with
  | mk t m g =>
  have hsz := szs s l f
  have hll := vsSz_len l
  have hfl := fsSz_len f
  have hsz' := szs t m g
  have hll' := vsSz_len m
  have hfl' := fsSz_len g
  obtain ⟨ub, ul, uf, xl, xf, rfl, h1, h2, h3, h4, h5⟩ := h.cells
  obtain ⟨wb, wl, wf, yl, yf, rfl, k1, k2, k3, k4, k5⟩ := h'.cells
  have no : (Vl.mk s l f ≠ Vl.mk t m g) → K false st := fun hne => hk false ⟨fun h => (by cases h), fun h => absurd h hne⟩
  have inj : Vl.mk s l f = Vl.mk t m g ↔ s = t ∧ l = m ∧ f = g := by simp
  refine vc_datakitref07_Same _ _ _ _ _ _ _ _ _ _ _ _ _ _ _ _ _ _ _ _ _ _ _ _ _ _ st K ?_
  refine BIf_intro (fun e => no fun h => e (by rw [(inj.1 h).1])) fun e1 => BIf_bool (fun e => no fun h => ?_) fun e2 => BIf_bool (fun e => no fun h => ?_) fun e3 => BIf_bool (fun e => no fun h => ?_) fun e4 => BIf_intro (fun e => no fun h => e (by rw [(inj.1 h).1])) fun e5 => ?_
  · rw [(inj.1 h).1] at e; simp at e
  · rw [(inj.1 h).1] at e; simp at e
  · rw [(inj.1 h).1] at e; simp at e
  refine optK_intro (x := .str s.bytes) (by rw [(h1.keep hke).toBytes]; rfl) (decT_str (optK_intro (x := TV.str t.bytes) (by rw [(k1.keep hke).toBytes]; rfl) (decT_str ?_)))
  refine BIf_intro (fun e => no fun h => e (by rw [(inj.1 h).1])) fun e6 => ?_
  have hst : s = t := by
    simp only [Bool.not_eq_false', Bool.and_eq_true, beq_iff_eq, decide_eq_true_eq, and_true] at e2 e3 e4
    exact sc_eq (Decidable.not_not.1 e1) e2 e3.1 e3.2.1 e3.2.2 e4.1 e4.2.1 e4.2.2.1 e4.2.2.2 (Decidable.not_not.1 e5) (Decidable.not_not.1 e6)
  subst hst
  refine need_intro h2.isSl (need_intro k2.isSl ?_)
  rw [h2.lenS, k2.lenS]
  refine BIf_intro (fun e => no fun h => e (by rw [(inj.1 h).2.1])) fun e7 => need_intro h4.isSl (need_intro k4.isSl ?_)
  rw [h4.lenS, k4.lenS]
  refine BIf_intro (fun e => no fun h => e (by rw [(inj.1 h).2.2])) fun e8 => ?_
  have ell : l.length = m.length := by omega
  have efl : f.length = g.length := by omega
  refine ⟨fun i a1 a2 a3 a4 a5 a6 a7 a8 a9 a10 a11 a12 a13 b1 b2 b3 b4 b5 b6 b7 b8 b9 b10 b11 b12 b13 st' => ul = a12 ∧ uf = a13 ∧ wl = b12 ∧ wf = b13 ∧ st = st' ∧ ∃ k : Nat, i = k ∧ k ≤ l.length ∧ l.take k = m.take k, fun i _ _ _ _ _ _ _ _ _ _ _ _ _ _ _ _ _ _ _ _ _ _ _ _ _ _ _ => (l.length - i).toNat,
    ⟨rfl, rfl, rfl, rfl, rfl, 0, rfl, Nat.zero_le _, rfl⟩, ?_⟩
  rintro _ a1 a2 a3 a4 a5 a6 a7 a8 a9 a10 a11 _ _ b1 b2 b3 b4 b5 b6 b7 b8 b9 b10 b11 _ _ _ ⟨rfl, rfl, rfl, rfl, rfl, k, rfl, hkl, hE⟩
  refine need_intro h2.isSl (BIf_intro (fun q => ?_) fun q => ?_)
  · rw [h2.lenS] at q
    refine el13 hke h2 h3 rfl (by omega) fun s1 l1 f1 ub1 ul1 uf1 gw hw on => el13 hke k2 k3 rfl (by omega) fun s2 l2 f2 ub2 ul2 uf2 gw2 hw2 on2 => ?_
    have hwsz := vsSz_get gw
    have hwsz2 := vsSz_get gw2
    refine ih _ (.mk s2 l2 f2) (by omega) (by omega) (by omega) hw hw2 hke fun r hr => BIf_bool (fun hb => no fun h => ?_) fun hb => ?_
    · rw [(inj.1 h).2.1, gw2] at gw
      rw [hr.2 (Option.some.inj gw).symm] at hb; cases hb
    · rw [wrap64 _ (by omega) (by omega)]
      exact ⟨⟨rfl, rfl, rfl, rfl, rfl, k + 1, by omega, by omega, take_eq_snoc hE gw gw2 (hr.1 (by simpa using hb))⟩, by dsimp only; omega⟩
  · rw [h2.lenS] at q
    have hlm : l = m := by
      have : k = l.length := by omega
      rw [this, List.take_length, ell, List.take_length] at hE; exact hE
    subst hlm
    refine ⟨fun i a1 a2 a3 a4 a5 a6 a7 a8 a9 a10 a11 a12 a13 b1 b2 b3 b4 b5 b6 b7 b8 b9 b10 b11 b12 b13 st' => uf = a13 ∧ wf = b13 ∧ st = st' ∧ ∃ k : Nat, i = k ∧ k ≤ f.length ∧ f.take k = g.take k, fun i _ _ _ _ _ _ _ _ _ _ _ _ _ _ _ _ _ _ _ _ _ _ _ _ _ _ _ => (f.length - i).toNat,
      ⟨rfl, rfl, rfl, 0, rfl, Nat.zero_le _, rfl⟩, ?_⟩
    rintro _ a1 a2 a3 a4 a5 a6 a7 a8 a9 a10 a11 a12 _ b1 b2 b3 b4 b5 b6 b7 b8 b9 b10 b11 b12 _ _ ⟨rfl, rfl, rfl, k, rfl, hkl, hF⟩
    refine need_intro h4.isSl (BIf_intro (fun q => ?_) fun q => ?_)
    · rw [h4.lenS] at q
      have gd : f[k]? = some f[k] := List.getElem?_eq_getElem (by omega)
      have gd2 : g[k]? = some g[k] := List.getElem?_eq_getElem (by omega)
      generalize f[k] = d at gd
      generalize g[k] = d2 at gd2
      refine key14 hke h4 h5 rfl gd (key14 hke k4 k5 rfl gd2 (BIf_intro (fun e => ?_) fun e => ?_))
      · refine ⟨keyLd hke k4 k5 gd2, keyLd hke h4 h5 gd, no fun h => e ?_⟩
        rw [(inj.1 h).2.2, gd2] at gd
        rw [Option.some.inj gd]
      · refine val14 hke h4 h5 rfl (by omega) fun key1 s1 l1 f1 ub1 ul1 uf1 gw hw on => val14 hke k4 k5 rfl (by omega) fun key2 s2 l2 f2 ub2 ul2 uf2 gw2 hw2 on2 => ?_
        have hwsz := fsSz_get gw
        have hwsz2 := fsSz_get gw2
        have hwk := szd key1 (.mk s1 l1 f1)
        have hwk2 := szd key2 (.mk s2 l2 f2)
        refine ih (.mk s1 l1 f1) (.mk s2 l2 f2) (by omega) (by omega) (by omega) hw hw2 hke fun r hr => ⟨keyLd hke k4 k5 gd2, keyLd hke h4 h5 gd, BIf_bool (fun hb => no fun h => ?_) fun hb => ?_⟩
        · rw [(inj.1 h).2.2, gw2] at gw
          have := Option.some.inj gw
          simp only [Fd.mk.injEq] at this
          rw [hr.2 this.2.symm] at hb; cases hb
        · rw [wrap64 _ (by omega) (by omega)]
          refine ⟨⟨rfl, rfl, rfl, k + 1, by omega, by omega, take_eq_snoc hF gw gw2 ?_⟩, by dsimp only; omega⟩
          rw [gd] at gw
          rw [gd2] at gw2
          have q1 := Option.some.inj gw
          have q2 := Option.some.inj gw2
          subst q1 q2
          have := hr.1 (by simpa using hb)
          simp only [Fd.key, Decidable.not_not] at e
          rw [e, this]
    · rw [h4.lenS] at q
      have hfg : f = g := by
        have : k = f.length := by omega
        rw [this, List.take_length, efl, List.take_length] at hF; exact hF
      exact hk true ⟨fun _ => by rw [hfg], fun _ => rfl⟩
end Go.TVF
end

section
namespace Go.TVF
open Go Go.Proofs
set_option linter.unusedVariables false
abbrev decQs : List (Nat × (Nat → List TV → Prop)) := [(1, cellQ .bool), (1, strQ), (1, cellQ (.int .i64))]
abbrev timeQs : List (Nat × (Nat → List TV → Prop)) := [(1, cellQ (.int .i64)), (1, cellQ (.int .i64)), (1, cellQ (.int .i64)), (1, cellQ (.int .i64))]
def valQ (k : Nat) (tv : List TV) : Prop := ∃ v : Vl, VlR St.zero v tv ∧ v.sz ≤ k
def fldQ (k : Nat) (tv : List TV) : Prop := ∃ d : Fd, FdR St.zero d tv ∧ d.sz ≤ k
abbrev sliceQ (c : Nat) (S : Nat → List TV → Prop) (k : Nat) (tv : List TV) : Prop := ∃ v, tv = [v] ∧ SlQ c S k v
abbrev inQ (Ss : List (Nat × (Nat → List TV → Prop))) (k : Nat) (tv : List TV) : Prop := ∃ k', k' + 1 ≤ k ∧ EachQ Ss k' tv
abbrev valQs : List (Nat × (Nat → List TV → Prop)) := [(1, cellQ (.int .i64)), (1, cellQ .bool), (3, inQ decQs), (4, inQ timeQs), (1, strQ), (1, sliceQ 1 (cellQ (.int .u8))), (1, sliceQ 13 valQ), (1, sliceQ 14 fldQ)]
abbrev fldQs : List (Nat × (Nat → List TV → Prop)) := [(1, strQ), (13, valQ)]
theorem SlQ.bytes {k : Nat} {v : TV} (h : SlQ 1 (cellQ (.int .u8)) k v) : ∃ l : List UInt8, SlR St.zero 1 v l.length (bytesT l) ∧ l.length ≤ k := by
  rcases h with rfl | ⟨ps, rfl, h, hk⟩
  · exact ⟨[], .inl (.inl ⟨rfl, rfl, rfl⟩), Nat.zero_le _⟩
  · have : ∃ l : List UInt8, l.length = ps.length ∧ (ps.map (·.1)).flatten = bytesT l ∧ l.length ≤ (ps.map (·.2)).sum := by
      clear hk
      induction ps with
      | nil => exact ⟨[], rfl, rfl, Nat.zero_le _⟩
      | cons p r ih =>
        obtain ⟨l, h1, h2, h3⟩ := ih (fun q hq => h q (.tail _ hq))
        obtain ⟨hl, ⟨n, ys, hp, hw, rfl⟩, h1k⟩ := h p (.head _)
        have hn : 0 ≤ n ∧ n ≤ 255 := by simpa [Lit.wf, IntKind.min, IntKind.max, IntKind.signed, IntKind.bits] using hw
        refine ⟨n.toNat.toUInt8 :: l, by simp [h1], ?_, by simp only [List.length_cons, List.map_cons, List.sum_cons]; omega⟩
        rw [List.map_cons, List.flatten_cons, hp, h2]
        simp only [bytesT, List.map_cons, byteT, List.cons_append, List.nil_append, List.cons.injEq, and_true, TV.int.injEq, true_and]
        have := natB_lt n.toNat (by omega)
        omega
    obtain ⟨l, h1, h2, h3⟩ := this
    exact ⟨l, .inl (.inr ⟨.non, by rw [h1, h2]⟩), by omega⟩
theorem SlQ.vals {k : Nat} {v : TV} (h : SlQ 13 valQ k v) : ∃ l xl, SlR St.zero 13 v l.length xl ∧ VsR St.zero l xl ∧ vsSz l ≤ k := by
  rcases h with rfl | ⟨ps, rfl, h, hk⟩
  · exact ⟨[], [], .inl (.inl ⟨rfl, rfl, rfl⟩), by unfold VsR; rfl, by unfold vsSz; exact Nat.zero_le _⟩
  · have : ∃ l : List Vl, l.length = ps.length ∧ VsR St.zero l (ps.map (·.1)).flatten ∧ vsSz l ≤ (ps.map (·.2)).sum := by
      clear hk
      induction ps with
      | nil => exact ⟨[], rfl, by unfold VsR; rfl, by unfold vsSz; exact Nat.zero_le _⟩
      | cons p r ih =>
        obtain ⟨l, h1, h2, h3⟩ := ih (fun q hq => h q (.tail _ hq))
        obtain ⟨hl, v, hv, hz⟩ := h p (.head _)
        exact ⟨v :: l, by simp [h1], by unfold VsR; exact ⟨_, _, by simp, hv, h2⟩, by unfold vsSz; simp only [List.map_cons, List.sum_cons]; omega⟩
    obtain ⟨l, h1, h2, h3⟩ := this
    exact ⟨l, _, .inl (.inr ⟨.non, by rw [h1]⟩), h2, by omega⟩
theorem SlQ.flds {k : Nat} {v : TV} (h : SlQ 14 fldQ k v) : ∃ l xl, SlR St.zero 14 v l.length xl ∧ FsR St.zero l xl ∧ fsSz l ≤ k := by
  rcases h with rfl | ⟨ps, rfl, h, hk⟩
  · exact ⟨[], [], .inl (.inl ⟨rfl, rfl, rfl⟩), by unfold FsR; rfl, by unfold fsSz; exact Nat.zero_le _⟩
  · have : ∃ l : List Fd, l.length = ps.length ∧ FsR St.zero l (ps.map (·.1)).flatten ∧ fsSz l ≤ (ps.map (·.2)).sum := by
      clear hk
      induction ps with
      | nil => exact ⟨[], rfl, by unfold FsR; rfl, by unfold fsSz; exact Nat.zero_le _⟩
      | cons p r ih =>
        obtain ⟨l, h1, h2, h3⟩ := ih (fun q hq => h q (.tail _ hq))
        obtain ⟨hl, v, hv, hz⟩ := h p (.head _)
        exact ⟨v :: l, by simp [h1], by unfold FsR; exact ⟨_, _, by simp, hv, h2⟩, by unfold fsSz; simp only [List.map_cons, List.sum_cons]; omega⟩
    obtain ⟨l, h1, h2, h3⟩ := this
    exact ⟨l, _, .inl (.inr ⟨.non, by rw [h1]⟩), h2, by omega⟩
theorem cellQ_int {kd : IntKind} {k : Nat} {tv : List TV} (h : cellQ (.int kd) k tv) : ∃ n, tv = [.int kd n] := by
  obtain ⟨⟨n, ys, rfl, _, rfl⟩, _⟩ := h; exact ⟨n, rfl⟩
theorem cellQ_bool {k : Nat} {tv : List TV} (h : cellQ .bool k tv) : ∃ b, tv = [.bool b] := by
  obtain ⟨⟨n, ys, rfl, rfl⟩, _⟩ := h; exact ⟨n, rfl⟩
theorem each_field {k : Nat} {tv : List TV} (h : inQ fldQs k tv) : fldQ k tv := by
  obtain ⟨k0, hk0, _, _, k1, k2, rfl, _, ⟨key, rfl, _, hkey⟩, ⟨_, _, k3, k4, rfl, _, ⟨v, hv, hz⟩, rfl, h2⟩, h1⟩ := h
  refine ⟨.mk key v, by unfold FdR; exact ⟨_, by simp, hv⟩, by unfold Fd.sz; omega⟩
theorem each_value {k : Nat} {tv : List TV} (h : inQ valQs k tv) : valQ k tv := by
  obtain ⟨k0, hk0, _, _, a1, r1, rfl, _, q1, ⟨_, _, a2, r2, rfl, _, q2, ⟨_, _, a3, r3, rfl, _, q3, ⟨_, _, a4, r4, rfl, _, q4, ⟨_, _, a5, r5, rfl, _, q5, ⟨_, _, a6, r6, rfl, _, q6, ⟨_, _, a7, r7, rfl, _, q7, ⟨_, _, a8, r8, rfl, _, q8, rfl, h8⟩, h7⟩, h6⟩, h5⟩, h4⟩, h3⟩, h2⟩, h1⟩ := h
  obtain ⟨kd, rfl⟩ := cellQ_int q1
  obtain ⟨bo, rfl⟩ := cellQ_bool q2
  obtain ⟨d0, hd0, _, _, d1, d2, rfl, _, p1, ⟨_, _, d3, d4, rfl, _, ⟨dg, rfl, _, hdg⟩, ⟨_, _, d5, d6, rfl, _, p3, rfl, g3⟩, g2⟩, g1⟩ := q3
  obtain ⟨ng, rfl⟩ := cellQ_bool p1
  obtain ⟨ex, rfl⟩ := cellQ_int p3
  obtain ⟨_, _, _, _, _, _, rfl, _, t1, ⟨_, _, _, _, rfl, _, t2, ⟨_, _, _, _, rfl, _, t3, ⟨_, _, _, _, rfl, _, t4, rfl, _⟩, _⟩, _⟩, _⟩ := q4
  obtain ⟨tk, rfl⟩ := cellQ_int t1
  obtain ⟨td, rfl⟩ := cellQ_int t2
  obtain ⟨tn, rfl⟩ := cellQ_int t3
  obtain ⟨tz, rfl⟩ := cellQ_int t4
  obtain ⟨tx, rfl, _, htx⟩ := q5
  obtain ⟨ub, rfl, q6⟩ := q6
  obtain ⟨ul, rfl, q7⟩ := q7
  obtain ⟨uf, rfl, q8⟩ := q8
  obtain ⟨bs, hb, hbl⟩ := q6.bytes
  obtain ⟨l, xl, hl, hlv, hlz⟩ := q7.vals
  obtain ⟨f, xf, hf, hfv, hfz⟩ := q8.flds
  refine ⟨.mk ⟨kd, bo, ng, dg, ex, tk, td, tn, tz, tx, bs⟩ l f, ?_, by rw [szs]; simp only; omega⟩
  unfold VlR
  exact ⟨ub, ul, uf, xl, xf, by simp, hb, hl, hlv, hf, hfv⟩
/-- A value that came in, not too great. -/
def IsVal (t : TV) : Prop := ∃ v cs, t = .agg cs ∧ VlR St.zero v cs ∧ v.sz ≤ 1048576
section
variable {H : Type} {enc : TypeId × Value → H} {P : Program} {w : World} {base b0 : Nat} {held : Bool} {bk : DataW H → Nat}
theorem open_val {t : TypeId} {fs : Array Field} {v : Value} {d : DataW H} {p : List MemPlace} (ht : P.underlying t = some (.struct fs)) (hop : ∀ n, OpQ bk enc P w base held n 13 valQ t)
    (hval : Value.okWide P w .any b0 t v) (h : DataW.Trod enc P w base (fun _ => true) held t v d p) (hk : bk d ≤ 1048576) : ∃ tv, Rel (Ghost.start w) w tv v ∧ IsVal tv := by
  simp only [Value.okWide, ht] at hval
  obtain ⟨vs, rfl, _, _⟩ := hval
  obtain ⟨n, hn⟩ := h
  obtain ⟨cs, hr, _, vl, hv, hz⟩ := (hop n).2 _ _ hn
  have := Rel.agg cs vs.toList hr.1 hr.2
  rw [Array.toArray_toList] at this
  exact ⟨_, this, vl, cs, rfl, hv, Nat.le_trans hz hk⟩
end
end Go.TVF
end

section
namespace Go.TVF
open Go Go.Proofs
set_option linter.unusedVariables false
set_option linter.unusedSimpArgs false
def kidsP (l : List Vl) (f : List Fd) : List Vl := l ++ f.map Fd.val
mutual
def depV : Vl → Nat
  | .mk _ l f => 1 + max (depVs l) (depFs f)
def depVs : List Vl → Nat
  | [] => 0
  | v :: r => max (depV v) (depVs r)
def depD : Fd → Nat
  | .mk _ v => depV v
def depFs : List Fd → Nat
  | [] => 0
  | d :: r => max (depD d) (depFs r)
end
theorem depVs_app : ∀ l m : List Vl, depVs (l ++ m) = max (depVs l) (depVs m)
  | [], m => by simp [depVs]
  | v :: r, m => by simp only [List.cons_append, depVs, depVs_app r m]; omega
theorem depFs_map : ∀ f : List Fd, depFs f = depVs (f.map Fd.val)
  | [] => rfl
  | .mk k v :: r => by simp only [List.map_cons, depVs, depFs, depFs_map r, depD, Fd.val]
theorem vsCnt_app : ∀ l m : List Vl, vsCnt (l ++ m) = vsCnt l + vsCnt m
  | [], m => by simp [vsCnt]
  | v :: r, m => by simp only [List.cons_append, vsCnt, vsCnt_app r m]; omega
theorem fsCnt_map : ∀ f : List Fd, fsCnt f = vsCnt (f.map Fd.val)
  | [] => rfl
  | .mk k v :: r => by simp only [List.map_cons, vsCnt, fsCnt, fsCnt_map r, Fd.cnt, Fd.val]
theorem cnt_kids (s : Sc) (l : List Vl) (f : List Fd) : (Vl.mk s l f).cnt = 1 + vsCnt (kidsP l f) := by
  unfold kidsP Vl.cnt
  rw [vsCnt_app, ← fsCnt_map]; omega
theorem dep_kids (s : Sc) (l : List Vl) (f : List Fd) : depV (Vl.mk s l f) = 1 + depVs (kidsP l f) := by
  unfold kidsP depV
  rw [depVs_app, ← depFs_map]
mutual
theorem dep_cnt : ∀ v : Vl, depV v ≤ v.cnt
  | .mk s l f => by
    unfold depV Vl.cnt
    have := deps_cnt l
    have := depf_cnt f
    omega
theorem deps_cnt : ∀ l : List Vl, depVs l ≤ vsCnt l
  | [] => by unfold depVs; exact Nat.zero_le _
  | v :: r => by
    unfold depVs vsCnt
    have := dep_cnt v
    have := deps_cnt r
    omega
theorem depd_cnt : ∀ d : Fd, depD d ≤ d.cnt
  | .mk k v => by unfold depD Fd.cnt; exact dep_cnt v
theorem depf_cnt : ∀ l : List Fd, depFs l ≤ fsCnt l
  | [] => by unfold depFs; exact Nat.zero_le _
  | d :: r => by
    unfold depFs fsCnt
    have := depd_cnt d
    have := depf_cnt r
    omega
end
theorem VsR.all_one {st : St} : ∀ {l : List Vl} {xs : List TV}, VsR st l xs → List.all xs oneT = true
  | [], xs, h => by unfold VsR at h; subst h; rfl
  | .mk s l f :: r, xs, h => by
    unfold VsR at h
    obtain ⟨a, b, rfl, h1, h2⟩ := h
    obtain ⟨ub, ul, uf, xl, xf, rfl, q1, q2, _, q4, _⟩ := h1.cells
    rw [List.all_append, VsR.all_one h2, Bool.and_true]
    exact one13 q1.one q2.one q4.one
theorem VsR.app {st : St} : ∀ {l m : List Vl} {xs ys : List TV}, VsR st l xs → VsR st m ys → VsR st (l ++ m) (xs ++ ys)
  | [], m, xs, ys, h, hm => by unfold VsR at h; subst h; exact hm
  | v :: r, m, xs, ys, h, hm => by
    unfold VsR at h
    obtain ⟨a, b, rfl, h1, h2⟩ := h
    show VsR st (v :: (r ++ m)) _
    unfold VsR
    exact ⟨a, b ++ ys, by simp, h1, VsR.app h2 hm⟩
theorem cloneV_ok {st0 st : St} {u : TV} {l : List Vl} {xl : List TV} (hke : Keeps st0 st) (h : SlR st0 13 u l.length xl) (hv : VsR st0 l xl) (hl : l.length ≤ 2000000) {K : TV → St → Prop} (hk : ∀ v st', StExt st st' → Own st.nt 13 st' v l.length xl → K v st') :
    CallT PR fn_slices_Clone___api_Value_api_Value_ [u] [.one .tv] st K := by
  have hxl := hv.len
  refine vc_slices_Clone___api_Value_api_Value_ _ st K (need_intro h.isSl ?_)
  cases hq : isNilT u with
  | true =>
    show K .nilSlice st
    have h0 : l = [] := by
      rcases h with (⟨rfl, h1, _⟩ | ⟨tip, rfl⟩) | ⟨b, off, cap, m, rfl, _⟩
      · exact List.eq_nil_of_length_eq_zero h1
      · cases hq
      · cases hq
    subst h0
    have hx0 : xl = [] := List.eq_nil_of_length_eq_zero (by simpa using hxl)
    subst hx0
    exact hk _ st (StExt.refl _) (Own.nil _ _ _)
  | false =>
    refine optK_intro ((h.keep hke).src hxl) (need_intro hv.all_one ?_)
    refine appK_own (StExt.refl st) rfl (Own.full st.nt 13 st 0 []) (by simp only; omega) (fun h0 => ?_) fun v1 st1 e1 _ ho => ?_
    · simp only at h0
      exact List.eq_nil_of_length_eq_zero (by rw [hxl, h0, Nat.zero_mul])
    · rw [List.nil_append, Nat.zero_add] at ho
      exact hk v1 st1 e1 ho
theorem pkids_ok {s : Sc} {l : List Vl} {f : List Fd} (hN : (Vl.mk s l f).sz ≤ 2000000) {st0 st : St} {ub ul uf : TV} {K : TV → St → Prop} (h : VlR st0 (.mk s l f) (cellsV s ub ul uf)) (hke : Keeps st0 st)
    (hk : ∀ u xl st', StExt st st' → SlR st' 13 u (kidsP l f).length xl → VsR st' (kidsP l f) xl → K u st') : CallT PR fn_value_kids [.agg (cellsV s ub ul uf)] [.one .tv] st K := by
  have hsz := szs s l f
  have hll := vsSz_len l
  have hfl := fsSz_len f
  obtain ⟨ub', ul', uf', xl, xf, hcs, h1, h2, h3, h4, h5⟩ := h.cells
  simp only [cellsV, List.cons.injEq, and_true, true_and] at hcs
  obtain ⟨rfl, rfl, rfl⟩ := hcs
  have hxl := h3.len
  refine vc_value_kids _ _ _ _ _ _ _ _ _ _ _ _ _ st K (cloneV_ok hke h2 h3 (by omega) fun v1 st1 e1 ho1 => need_intro h4.isSl ?_)
  refine ⟨fun o i u n st' => uf = u ∧ n = (f.length : Int) ∧ ∃ (k : Nat) (xs : List TV), i = k ∧ k ≤ f.length ∧ StExt st st' ∧ Own st.nt 13 st' o (l.length + k) (xl ++ xs) ∧ VsR st0 ((f.take k).map Fd.val) xs, fun _ i _ _ _ => (f.length - i).toNat,
    ⟨rfl, by rw [h4.lenS], 0, [], rfl, Nat.zero_le _, e1, by simpa using ho1, by simp only [List.take_zero, List.map_nil]; unfold VsR; rfl⟩, ?_⟩
  rintro o _ _ _ st2 ⟨rfl, rfl, k, xs, rfl, hkf, e2, ho, hv⟩
  refine BIf_intro (fun g2 => ?_) fun g2 => ?_
  · refine el14 (hke.trans e2.keeps) h4 h5 rfl (by omega) fun key s' l' f' ub1 ul1 uf1 gw hw on => need_intro on ?_
    have on2 : List.all (cellsV s' ub1 ul1 uf1) oneT = true := by
      rw [List.all_cons] at on; exact (Bool.and_eq_true_iff.1 on).2
    refine need_intro on2 (appK_own e2 rfl ho (by omega) (fun h => by cases h) fun v2 st3 e3 _ ho2 => ?_)
    rw [wrap64 _ (by omega) (by omega)]
    refine ⟨⟨rfl, rfl, k + 1, xs ++ cellsV s' ub1 ul1 uf1, by omega, by omega, e3, by simpa [cellsV, Nat.add_assoc] using ho2, ?_⟩, by dsimp only; omega⟩
    rw [take_snoc gw, List.map_append]
    exact VsR.snoc hv hw
  · have hkk : k = f.length := by omega
    subst hkk
    rw [List.take_length] at hv
    have hke2 := hke.trans e2.keeps
    refine hk o (xl ++ xs) st2 e2 ?_ (VsR.keep hke2 (VsR.app h3 hv))
    unfold kidsP
    rw [List.length_append, List.length_map]
    exact .of_rd ho.rd
theorem vsCnt_take {l : List Vl} {k : Nat} {w : Vl} (h : l[k]? = some w) : vsCnt (l.take (k + 1)) = vsCnt (l.take k) + w.cnt := by
  rw [take_snoc h, vsCnt_app]; simp [vsCnt]
theorem depVs_take {l : List Vl} {k : Nat} {w : Vl} (h : l[k]? = some w) : depVs (l.take (k + 1)) = max (depVs (l.take k)) (depV w) := by
  rw [take_snoc h, depVs_app]; simp [depVs]
theorem vsCnt_take_le (l : List Vl) (k : Nat) : vsCnt (l.take k) ≤ vsCnt l := by
  have := vsCnt_app (l.take k) (l.drop k)
  rw [List.take_append_drop] at this; omega
theorem vsCnt_len (l : List Vl) : l.length ≤ vsCnt l := by
  induction l with
  | nil => exact Nat.zero_le _
  | cons v r ih => unfold vsCnt; have := v.cnt_pos; simp only [List.length_cons]; omega
theorem depVs_take_le (l : List Vl) (k : Nat) : depVs (l.take k) ≤ depVs l := by
  have := depVs_app (l.take k) (l.drop k)
  rw [List.take_append_drop] at this; omega
mutual
theorem cnt_sz : ∀ v : Vl, v.cnt ≤ v.sz
  | .mk s l f => by
    have := cnts_sz l
    have := cntf_sz f
    unfold Vl.cnt; rw [szs]; omega
theorem cnts_sz : ∀ l : List Vl, vsCnt l ≤ vsSz l
  | [] => by unfold vsCnt; exact Nat.zero_le _
  | v :: r => by
    unfold vsCnt vsSz
    have := cnt_sz v
    have := cnts_sz r
    omega
theorem cntd_sz : ∀ d : Fd, d.cnt ≤ d.sz
  | .mk k v => by unfold Fd.cnt Fd.sz; have := cnt_sz v; omega
theorem cntf_sz : ∀ l : List Fd, fsCnt l ≤ fsSz l
  | [] => by unfold fsCnt; exact Nat.zero_le _
  | d :: r => by
    unfold fsCnt fsSz
    have := cntd_sz d
    have := cntf_sz r
    omega
end
theorem kidsP_sz {s : Sc} {l : List Vl} {f : List Fd} {k : Nat} {w : Vl} (h : (kidsP l f)[k]? = some w) : w.sz + 1 ≤ (Vl.mk s l f).sz := by
  have hsz := szs s l f
  rcases List.mem_append.1 (mem_of_get h) with h | h
  · have := vsSz_mem h; omega
  · obtain ⟨d, hd, rfl⟩ := List.mem_map.1 h
    have := fsSz_mem hd
    cases d; rw [szd] at this; simp only [Fd.val]; omega
theorem size_ok : ∀ (N : Nat) (v : Vl), v.sz ≤ N → N ≤ 2000000 → ∀ {st0 st : St} {cs : List TV} {L : Int} {K : Int → St → Prop}, VlR st0 v cs → Keeps st0 st → (v.cnt : Int) ≤ L → L ≤ 100000000 → (∀ st', StExt st st' → K (v.cnt : Nat) st') →
    CallT PR fn_value_size [.agg cs, .int .i64 L] [.one (.int .i64)] st K := by
  intro N
  induction N with
  | zero => intro v h; have := v.sz_pos; omega
  | succ N ih =>
  intro v hN hN2 st0 st cs L K h hke hL hL2 hk
  cases v with
  | mk s l f =>
  have h0 := h
  obtain ⟨ub, ul, uf, xl, xf, rfl, _⟩ := h.cells
  have hC := cnt_kids s l f
  have hcs := cnt_sz (.mk s l f)
  have hpos := (Vl.mk s l f).cnt_pos
  have hlen := vsCnt_len (kidsP l f)
  refine vc_value_size _ _ _ _ _ _ _ _ _ _ _ _ _ L st K (BIf_intro (fun g => by omega) fun _ => pkids_ok (by omega) h0 hke fun u xl st1 e1 hu hv => need_intro hu.isSl ?_)
  refine ⟨fun n i le u' m st' => u = u' ∧ le = L ∧ m = ((kidsP l f).length : Int) ∧ ∃ k : Nat, i = k ∧ k ≤ (kidsP l f).length ∧ n = ((1 + vsCnt ((kidsP l f).take k) : Nat) : Int) ∧ StExt st1 st', fun _ i _ _ _ _ => ((kidsP l f).length - i).toNat,
    ⟨rfl, rfl, by rw [hu.lenS], 0, rfl, Nat.zero_le _, rfl, StExt.refl _⟩, ?_⟩
  rintro _ _ _ _ _ st2 ⟨rfl, rfl, rfl, k, rfl, hkl, rfl, e2⟩
  have htk := vsCnt_take_le (kidsP l f) k
  refine BIf_intro (fun g => ?_) fun g => ?_
  · refine el13 e2.keeps hu hv rfl (by omega) fun s' l' f' ub1 ul1 uf1 gw hw on => need_intro on ?_
    have hwsz := kidsP_sz (s := s) gw
    have hwc := vsCnt_take gw
    have htk2 := vsCnt_take_le (kidsP l f) (k + 1)
    rw [wrap64 (_ - 1) (by omega) (by omega)]
    refine ih _ (by omega) (by omega) hw e2.keeps (by omega) (by omega) fun st3 e3 => ?_
    rw [wrap64 _ (by omega) (by omega), wrap64 _ (by omega) (by omega)]
    exact ⟨⟨rfl, rfl, rfl, k + 1, by omega, by omega, by omega, e2.trans e3⟩, by dsimp only; omega⟩
  · have hkk : k = (kidsP l f).length := by omega
    rw [hkk, List.take_length, ← hC]
    exact hk st2 (e1.trans e2)
theorem Size_ok {v : Vl} (hN : v.sz ≤ 2000000) (hC : v.cnt ≤ 65536) {st0 st : St} {cs : List TV} {K : Int → St → Prop} (h : VlR st0 v cs) (hke : Keeps st0 st) (hk : ∀ st', StExt st st' → K (v.cnt : Nat) st') : CallT PR fn_value_Size [.agg cs] [.one (.int .i64)] st K := by
  cases v with
  | mk s l f =>
  have h0 := h
  obtain ⟨ub, ul, uf, xl, xf, rfl, _⟩ := h.cells
  exact vc_value_Size _ _ _ _ _ _ _ _ _ _ _ _ _ st K (size_ok 2000000 _ hN (by omega) h0 hke (by omega) (by omega) hk)
theorem deep_ok : ∀ (N : Nat) (v : Vl), v.sz ≤ N → N ≤ 2000000 → ∀ {st0 st : St} {cs : List TV} {L : Int} {K : Int → St → Prop}, VlR st0 v cs → Keeps st0 st → (v.cnt : Int) ≤ L → L ≤ 100000000 → (∀ st', StExt st st' → K (depV v : Nat) st') →
    CallT PR fn_value_deep [.agg cs, .int .i64 L] [.one (.int .i64)] st K := by
  intro N
  induction N with
  | zero => intro v h; have := v.sz_pos; omega
  | succ N ih =>
  intro v hN hN2 st0 st cs L K h hke hL hL2 hk
  cases v with
  | mk s l f =>
  have h0 := h
  obtain ⟨ub, ul, uf, xl, xf, rfl, _⟩ := h.cells
  have hC := cnt_kids s l f
  have hD := dep_kids s l f
  have hcs := cnt_sz (.mk s l f)
  have hpos := (Vl.mk s l f).cnt_pos
  have hlen := vsCnt_len (kidsP l f)
  have hdc := deps_cnt (kidsP l f)
  refine vc_value_deep _ _ _ _ _ _ _ _ _ _ _ _ _ L st K (BIf_intro (fun g => ?_) fun _ => pkids_ok (by omega) h0 hke fun u xl st1 e1 hu hv => need_intro hu.isSl ?_)
  · have := hk st (StExt.refl _)
    rw [show depV (.mk s l f) = 1 by omega] at this; exact this
  refine ⟨fun n i le u' m st' => u = u' ∧ le = L ∧ m = ((kidsP l f).length : Int) ∧ ∃ k : Nat, i = k ∧ k ≤ (kidsP l f).length ∧ n = ((1 + depVs ((kidsP l f).take k) : Nat) : Int) ∧ StExt st1 st', fun _ i _ _ _ _ => ((kidsP l f).length - i).toNat,
    ⟨rfl, rfl, by rw [hu.lenS], 0, rfl, Nat.zero_le _, rfl, StExt.refl _⟩, ?_⟩
  rintro _ _ _ _ _ st2 ⟨rfl, rfl, rfl, k, rfl, hkl, rfl, e2⟩
  have htk := depVs_take_le (kidsP l f) k
  refine BIf_intro (fun g => ?_) fun g => ?_
  · refine el13 e2.keeps hu hv rfl (by omega) fun s' l' f' ub1 ul1 uf1 gw hw on => need_intro on ?_
    have hwsz := kidsP_sz (s := s) gw
    have hwc := vsCnt_take gw
    have hwd := depVs_take gw
    have htk2 := depVs_take_le (kidsP l f) (k + 1)
    have htk3 := vsCnt_take_le (kidsP l f) (k + 1)
    rw [wrap64 (_ - 1) (by omega) (by omega)]
    refine ih _ (by omega) (by omega) hw e2.keeps (by omega) (by omega) fun st3 e3 => ?_
    rw [wrap64 _ (by omega) (by omega), wrap64 _ (by omega) (by omega)]
    exact ⟨⟨rfl, rfl, rfl, k + 1, by omega, by omega, by rw [hwd]; omega, e2.trans e3⟩, by dsimp only; omega⟩
  · have hkk : k = (kidsP l f).length := by omega
    rw [hkk, List.take_length, ← hD]
    exact hk st2 (e1.trans e2)
theorem Depth_ok {v : Vl} (hN : v.sz ≤ 2000000) (hC : v.cnt ≤ 65536) {st0 st : St} {cs : List TV} {K : Int → St → Prop} (h : VlR st0 v cs) (hke : Keeps st0 st) (hk : ∀ st', StExt st st' → K (depV v : Nat) st') : CallT PR fn_value_Depth [.agg cs] [.one (.int .i64)] st K := by
  cases v with
  | mk s l f =>
  have h0 := h
  obtain ⟨ub, ul, uf, xl, xf, rfl, _⟩ := h.cells
  exact vc_value_Depth _ _ _ _ _ _ _ _ _ _ _ _ _ st K (deep_ok 2000000 _ hN (by omega) h0 hke (by omega) (by omega) hk)
end Go.TVF
end

section
namespace Go.TVF
open Go Go.Proofs
set_option linter.unusedVariables false
set_option linter.unusedSimpArgs false
def sgn (x y : Int) : Int := if x < y then -1 else if y < x then 1 else 0
def thenC (x y : Int) : Int := if x ≠ 0 then x else y
abbrev lexC := Lib.compareBytes
theorem intC_ok {x y : Int} {st : St} {K : Int → St → Prop} (hk : K (sgn x y) st) : CallT PR fn_cmp_Compare_int_ [.int .i64 x, .int .i64 y] [.one (.int .i64)] st K := by
  unfold sgn at hk
  refine vc_cmp_Compare_int_ _ _ st K (vc_cmp_isNaN_int_ _ st _ (vc_cmp_isNaN_int_ _ st _ (BIf_intro (fun h => absurd rfl h) fun _ => BIf_intro (fun h => absurd rfl h) fun _ => BIf_intro (fun g => ?_) fun g => BIf_intro (fun g2 => ?_) fun g2 => ?_)))
  · rw [if_pos g] at hk; exact hk
  · rw [if_neg g, if_pos g2] at hk; exact hk
  · rw [if_neg g, if_neg g2] at hk; exact hk
theorem byteC_ok {x y : Int} {st : St} {K : Int → St → Prop} (hk : K (sgn x y) st) : CallT PR fn_cmp_Compare_byte_ [.int .u8 x, .int .u8 y] [.one (.int .i64)] st K := by
  unfold sgn at hk
  refine vc_cmp_Compare_byte_ _ _ st K (vc_cmp_isNaN_byte_ _ st _ (vc_cmp_isNaN_byte_ _ st _ (BIf_intro (fun h => absurd rfl h) fun _ => BIf_intro (fun h => absurd rfl h) fun _ => BIf_intro (fun g => ?_) fun g => BIf_intro (fun g2 => ?_) fun g2 => ?_)))
  · rw [if_pos g] at hk; exact hk
  · rw [if_neg g, if_pos g2] at hk; exact hk
  · rw [if_neg g, if_neg g2] at hk; exact hk
theorem flag_ok {b : Bool} {st : St} {K : Int → St → Prop} (hk : K (if b then 1 else 0) st) : CallT PR fn_value_flag [.bool b] [.one (.int .i64)] st K :=
  vc_value_flag _ st K (by cases b <;> exact hk)
theorem SlR.ldb {st : St} {u : TV} {l : List UInt8} {k : Nat} (h : SlR st 1 u l.length (bytesT l)) (hk : k < l.length) : ldCell st [] (.t (ixT 1 u k)) 0 = some (byteT l[k]) := by
  have := h.ldc (by rw [length_bytesT]; omega) hk
  rw [List.drop_eq_getElem_cons (by rw [length_bytesT]; omega)] at this
  simp only [ldCells, List.take_succ_cons, List.take_zero] at this
  cases hq : ldCell st [] (.t (ixT 1 u k)) 0 with
  | none => rw [hq] at this; cases this
  | some y =>
    rw [hq] at this
    simp only [Option.map_some, Option.some.injEq, List.cons.injEq, and_true] at this
    rw [this]; simp [bytesT]
theorem lex_step {a b : List UInt8} {k : Nat} (ha : k < a.length) (hb : k < b.length) : lexC (a.drop k) (b.drop k) = thenC (sgn (a[k].toNat : Int) (b[k].toNat : Int)) (lexC (a.drop (k + 1)) (b.drop (k + 1))) := by
  rw [List.drop_eq_getElem_cons ha, List.drop_eq_getElem_cons hb]
  unfold lexC
  rw [Lib.compareBytes]
  unfold thenC sgn
  have e1 : (a[k] < b[k]) ↔ (a[k].toNat : Int) < (b[k].toNat : Int) := by rw [UInt8.lt_iff_toNat_lt]; omega
  have e2 : (b[k] < a[k]) ↔ (b[k].toNat : Int) < (a[k].toNat : Int) := by rw [UInt8.lt_iff_toNat_lt]; omega
  by_cases h1 : a[k] < b[k]
  · rw [if_pos h1, if_pos (e1.1 h1)]; rfl
  · rw [if_neg h1, if_neg (fun h => h1 (e1.2 h))]
    by_cases h2 : b[k] < a[k]
    · rw [if_pos h2, if_pos (e2.1 h2)]; rfl
    · rw [if_neg h2, if_neg (fun h => h2 (e2.2 h))]; simp
theorem bytesC_ok {a b : List UInt8} {u v : TV} {st : St} {K : Int → St → Prop} (ha : SlR st 1 u a.length (bytesT a)) (hb : SlR st 1 v b.length (bytesT b)) (hl : a.length ≤ 2000000) (hm : b.length ≤ 2000000) (hk : K (lexC a b) st) :
    CallT PR fn_slices_Compare___byte_byte_ [u, v] [.one (.int .i64)] st K := by
  refine vc_slices_Compare___byte_byte_ _ _ st K (need_intro ha.isSl ⟨fun i u1 v1 u2 n st' => u = u1 ∧ v = v1 ∧ u = u2 ∧ n = (a.length : Int) ∧ st = st' ∧ ∃ k : Nat, i = k ∧ k ≤ a.length ∧ k ≤ b.length ∧ lexC a b = lexC (a.drop k) (b.drop k), fun i _ _ _ _ _ => (a.length - i).toNat,
    ⟨rfl, rfl, rfl, by rw [ha.lenS], rfl, 0, rfl, Nat.zero_le _, Nat.zero_le _, rfl⟩, ?_⟩)
  rintro _ _ _ _ _ _ ⟨rfl, rfl, rfl, rfl, rfl, k, rfl, hka, hkb, hE⟩
  refine BIf_intro (fun g => ?_) fun g => need_intro ha.isSl (need_intro hb.isSl ?_)
  · rw [ha.lenZ, hb.lenZ, Int.toNat_natCast]
    refine ⟨⟨by omega, by omega⟩, optK_intro (ha.ldb (by omega)) (decT_int (need_intro hb.isSl ?_))⟩
    rw [hb.lenS]
    refine BIf_intro (fun g2 => ?_) fun g2 => ⟨⟨by omega, by omega⟩, optK_intro (hb.ldb (by omega)) (decT_int (byteC_ok ?_))⟩
    · have hkk : k = b.length := by omega
      have h1 : lexC a b = 1 := by
        rw [hE, hkk, List.drop_length, List.drop_eq_getElem_cons (by omega)]; rfl
      rw [h1] at hk; exact hk
    · have hs := lex_step (a := a) (b := b) (k := k) (by omega) (by omega)
      refine BIf_intro (fun g3 => ?_) fun g3 => ?_
      · rw [hE, hs] at hk
        unfold thenC at hk
        rw [if_pos g3] at hk; exact hk
      · rw [wrap64 _ (by omega) (by omega)]
        refine ⟨⟨rfl, rfl, rfl, rfl, rfl, k + 1, by omega, by omega, by omega, ?_⟩, by dsimp only; omega⟩
        rw [hE, hs]
        unfold thenC
        rw [if_neg g3]
  · rw [ha.lenS, hb.lenS]
    have hkk : k = a.length := by omega
    refine BIf_intro (fun g2 => ?_) fun g2 => ?_
    · have h1 : lexC a b = -1 := by
        rw [hE, hkk, List.drop_length, List.drop_eq_getElem_cons (by omega)]; rfl
      rw [h1] at hk; exact hk
    · have h1 : lexC a b = 0 := by
        rw [hE, hkk, List.drop_length, List.drop_of_length_le (by omega)]; rfl
      rw [h1] at hk; exact hk
def numC (a b : List UInt8) : Int := if a.length < b.length then -1 else if b.length < a.length then 1 else lexC a b
def zs (n : Nat) : List UInt8 := List.replicate n 48
def decS (a : List UInt8) (x : Int) (b : List UInt8) (y : Int) : Int :=
  if a = [] then numC a b else if b = [] then numC a b else if (a.length : Int) + x < b.length + y then -1 else if (b.length : Int) + y < a.length + x then 1 else lexC (a ++ zs (b.length - a.length)) (b ++ zs (a.length - b.length))
def decC (na : Bool) (a : List UInt8) (x : Int) (nb : Bool) (b : List UInt8) (y : Int) : Int :=
  if na then (if nb then decS b y a x else -1) else if nb then 1 else decS a x b y
theorem repeatL_zs : ∀ n, Lib.repeatL [48] n = zs n
  | 0 => rfl
  | n + 1 => by
    show [48] ++ Lib.repeatL [48] n = _
    rw [repeatL_zs n]; rfl
theorem zs_len (n : Nat) : (zs n).length = n := by simp [zs]
theorem repeat_ok {n : Nat} (hn : n ≤ 2000000) {st : St} {K : List UInt8 → St → Prop} (hk : K (zs n) st) : CallT PR fn_strings_Repeat [.str [48], .int .i64 (n : Int)] [.one .str] st K := by
  refine tcalls_enter (fun _ _ => by kernel_rfl) fun g w vargs s hr => ?_
  obtain ⟨v, u, rfl, hv, hu⟩ := relL_two hr
  rw [rel_str_inv hv, rel_int_inv hu]
  refine Calls.mono (Tryz.strings_Repeat ⟨#[48]⟩ n w (by omega) (by simp [ByteArray.size]; omega)) ?_
  rintro e w' ⟨rfl, hb⟩
  obtain ⟨s', e'⟩ := s.world hb.size (s.below.trans (hb.mono s.fits)) hb.block
  refine ⟨_, rfl, .str (zs n), st, g, hk, s', ?_, e'⟩
  have : Lib.repeatL (ByteArray.mk #[48]).data.toList n = zs n := repeatL_zs n
  rw [this]; exact Rel.str _
theorem decNum_ok {a b : List UInt8} {st : St} {K : Int → St → Prop} (hk : K (numC a b) st) : CallT PR fn_decimal_cmp [.str a, .str b] [.one (.int .i64)] st K := by
  unfold numC at hk
  refine vc_decimal_cmp _ _ st K (BIf_intro (fun g => BIf_intro (fun g2 => ?_) fun g2 => ?_) fun g => compare_ok ?_)
  · rw [if_pos (by omega)] at hk; exact hk
  · rw [if_neg (by omega), if_pos (by omega)] at hk; exact hk
  · rw [if_neg (by omega), if_neg (by omega)] at hk; exact hk
theorem align_num {a b : List UInt8} {x y : Int} (ha : a ≠ []) (hb : b ≠ []) : numC (a ++ zs (x - min x y).toNat) (b ++ zs (y - min x y).toNat) = decS a x b y := by
  unfold numC decS
  rw [if_neg ha, if_neg hb]
  simp only [List.length_append, zs_len]
  by_cases h1 : (a.length : Int) + x < b.length + y
  · rw [if_pos (by omega), if_pos h1]
  · rw [if_neg (by omega), if_neg h1]
    by_cases h2 : (b.length : Int) + y < a.length + x
    · rw [if_pos (by omega), if_pos h2]
    · rw [if_neg (by omega), if_neg h2]
      rw [show (x - min x y).toNat = b.length - a.length by omega, show (y - min x y).toNat = a.length - b.length by omega]
theorem decSize_ok {na nb : Bool} {a b : List UInt8} {x y : Int} (ha : DecOk na a x) (hb : DecOk nb b y) {st : St} {K : Int → St → Prop} (hk : K (decS a x b y) st) :
    CallT PR fn_decimal_size [.agg [.bool na, .str a, .int .i64 x], .agg [.bool nb, .str b, .int .i64 y]] [.one (.int .i64)] st K := by
  have la : a.length ≤ 120 := by by_cases h : a = []; (rw [h]; simp); exact ((decOk_iff h).1 ha).2.1
  have lb : b.length ≤ 120 := by by_cases h : b = []; (rw [h]; simp); exact ((decOk_iff h).1 hb).2.1
  refine vc_decimal_size _ _ _ _ _ _ st K (vc_decimal_align _ _ _ _ _ _ st _ (decValid_ok (by omega) (BIf_bool (fun h => by rw [decide_eq_true ha] at h; cases h) fun _ => decValid_ok (by omega) (BIf_bool (fun h => by rw [decide_eq_true hb] at h; cases h) fun _ => BIf_intro (fun g => ?_) fun g => BIf_intro (fun g2 => ?_) fun g2 => ?_))))
  · refine decNum_ok ?_
    unfold decS at hk
    rw [if_pos g, g] at hk; exact hk
  · refine decNum_ok ?_
    unfold decS at hk
    rw [if_neg g, if_pos g2, g2] at hk; exact hk
  · have ex := ((decOk_iff g).1 ha).2.2.2
    have ey := ((decOk_iff g2).1 hb).2.2.2
    rw [wrap64 _ (by omega) (by omega), wrap64 _ (by omega) (by omega), show x - min x y = (((x - min x y).toNat : Nat) : Int) by omega, show y - min x y = (((y - min x y).toNat : Nat) : Int) by omega]
    refine repeat_ok (by omega) ⟨by rw [zs_len]; omega, repeat_ok (by omega) ⟨by rw [zs_len]; omega, decNum_ok ?_⟩⟩
    rw [align_num g g2]; exact hk
theorem decCmp_ok {na nb : Bool} {a b : List UInt8} {x y : Int} (ha : DecOk na a x) (hb : DecOk nb b y) {st : St} {K : Int → St → Prop} (hk : K (decC na a x nb b y) st) :
    CallT PR fn_decimal_Cmp [.agg [.bool na, .str a, .int .i64 x], .agg [.bool nb, .str b, .int .i64 y]] [.one (.int .i64)] st K := by
  refine vc_decimal_Cmp _ _ _ _ _ _ st K ?_
  unfold decC at hk
  cases na <;> cases nb <;> simp only [BIf]
  · exact decSize_ok ha hb hk
  · exact hk
  · exact hk
  · exact decSize_ok hb ha hk
theorem SlR.of_box {st : St} {b n : Nat} {xs : List TV} (hb : b < st.nb) (h : st.box b = .cells xs) (hl : xs.length = n) : SlR st 1 (.ms 1 b 0 n n) n xs :=
  .inr ⟨b, 0, n, xs, rfl, hb, h, by omega, Nat.le_refl _, by simp [← hl]⟩
def momD (d n z : Int) : Int := d + (n - z * 60000000000) / 86400000000000
def momN (n z : Int) : Int := (n - z * 60000000000) % 86400000000000
def timC (k d n z k' d' n' z' : Int) : Int := thenC (sgn k k') (thenC (sgn (momD d n z) (momD d' n' z')) (thenC (sgn (momN n z) (momN n' z')) (sgn z z')))
theorem tdiv_neg {n : Int} (h : n < 0) (w : Int) : Int.tdiv n w = -((-n) / w) ∧ Int.tmod n w = -((-n) % w) := by
  constructor
  · have := Int.neg_tdiv (-n) w
    rw [Int.neg_neg] at this
    rw [this, Int.tdiv_eq_ediv_of_nonneg (by omega)]
  · have := Int.neg_tmod (-n) w
    rw [Int.neg_neg] at this
    rw [this, Int.tmod_eq_emod_of_nonneg (by omega)]
theorem moment_ok {k d n z : Int} (h : TimeOk k d n z) {st : St} {K : Int → Int → St → Prop} (hk : K (momD d n z) (momN n z) st) : CallT PR fn_moment_moment [.agg [.int .i64 k, .int .i64 d, .int .i64 n, .int .i64 z]] [.agg [.int .i64, .int .i64]] st K := by
  unfold TimeOk at h
  unfold momD momN at hk
  refine vc_moment_moment _ _ _ _ st K ?_
  rw [wrap64 (z * 60000000000) (by omega) (by omega), wrap64 _ (by omega) (by omega)]
  generalize hm : n - z * 60000000000 = m at hk ⊢
  have hm1 : -1000000000000000 ≤ m ∧ m ≤ 1000000000000000 := by omega
  refine vc_moment_carry _ _ st _ ?_
  by_cases h0 : m < 0
  · obtain ⟨t1, t2⟩ := tdiv_neg h0 86400000000000
    rw [t1, t2]
    refine BIf_intro (fun g => ?_) fun g => ?_
    · have e1 : -(-m / 86400000000000) - 1 = m / 86400000000000 := by omega
      rw [wrap64 (-(-m / 86400000000000)) (by omega) (by omega), e1, wrap64 (m / 86400000000000) (by omega) (by omega), wrap64 (d + m / 86400000000000) (by omega) (by omega), wrap64 (m / 86400000000000 * 86400000000000) (by omega) (by omega), wrap64 (m - m / 86400000000000 * 86400000000000) (by omega) (by omega)]
      rw [show m - m / 86400000000000 * 86400000000000 = m % 86400000000000 by omega]
      exact hk
    · have e1 : -(-m / 86400000000000) = m / 86400000000000 := by omega
      rw [e1, wrap64 (m / 86400000000000) (by omega) (by omega), wrap64 (d + m / 86400000000000) (by omega) (by omega), wrap64 (m / 86400000000000 * 86400000000000) (by omega) (by omega), wrap64 (m - m / 86400000000000 * 86400000000000) (by omega) (by omega)]
      rw [show m - m / 86400000000000 * 86400000000000 = m % 86400000000000 by omega]
      exact hk
  · rw [Int.tdiv_eq_ediv_of_nonneg (by omega), Int.tmod_eq_emod_of_nonneg (by omega)]
    refine BIf_intro (fun g => by omega) fun g => ?_
    rw [wrap64 (m / 86400000000000) (by omega) (by omega), wrap64 (d + m / 86400000000000) (by omega) (by omega), wrap64 (m / 86400000000000 * 86400000000000) (by omega) (by omega), wrap64 (m - m / 86400000000000 * 86400000000000) (by omega) (by omega)]
    rw [show m - m / 86400000000000 * 86400000000000 = m % 86400000000000 by omega]
    exact hk
theorem sgn_self (x : Int) : sgn x x = 0 := by unfold sgn; rw [if_neg (by omega), if_neg (by omega)]
theorem thenC_pos {x y : Int} (h : x ≠ 0) : thenC x y = x := by unfold thenC; rw [if_pos h]
theorem thenC_zero {x y : Int} (h : x = 0) : thenC x y = y := by unfold thenC; rw [if_neg (fun g => g h)]
theorem timeCmp_ok {k d n z k' d' n' z' : Int} (h : TimeOk k d n z) (h' : TimeOk k' d' n' z') {st : St} {K : Int → St → Prop} (hk : K (timC k d n z k' d' n' z') st) :
    CallT PR fn_moment_Cmp [.agg [.int .i64 k, .int .i64 d, .int .i64 n, .int .i64 z], .agg [.int .i64 k', .int .i64 d', .int .i64 n', .int .i64 z']] [.one (.int .i64)] st K := by
  unfold timC at hk
  refine vc_moment_Cmp _ _ _ _ _ _ _ _ st K (BIf_bool (fun g => ?_) fun _ => intC_ok (BIf_intro (fun g => ?_) fun g => moment_ok h (moment_ok h' (vc_moment_compare _ _ _ _ st _ ?_))))
  · simp only [Bool.and_eq_true, decide_eq_true_eq, and_true] at g
    obtain ⟨rfl, rfl, rfl, rfl⟩ := g
    rw [sgn_self, sgn_self, sgn_self, sgn_self] at hk
    exact hk
  · rw [thenC_pos g] at hk; exact hk
  · rw [thenC_zero (Decidable.not_not.1 g)] at hk
    have fin : ∀ r, thenC (sgn (momD d n z) (momD d' n' z')) (sgn (momN n z) (momN n' z')) = r → BIf (decide (r ≠ 0)) (K r st) (CallT PR fn_cmp_Compare_int_ [.int .i64 z, .int .i64 z'] [.one (.int .i64)] st fun (n7 : Int) (st5 : St) => K n7 st5) := by
      intro r hr
      unfold thenC at hk hr
      by_cases g1 : sgn (momD d n z) (momD d' n' z') ≠ 0
      · rw [if_pos g1] at hk hr
        subst hr
        exact BIf_intro (fun _ => hk) fun g3 => absurd g1 g3
      · rw [if_neg g1] at hk hr
        subst hr
        refine BIf_intro (fun g3 => ?_) fun g3 => intC_ok ?_
        · rw [if_pos g3] at hk; exact hk
        · rw [if_neg g3] at hk; exact hk
    refine BIf_bool (fun g2 => ?_) fun _ => intC_ok (BIf_intro (fun g2 => ?_) fun g2 => intC_ok ?_)
    · simp only [Bool.and_eq_true, decide_eq_true_eq, and_true] at g2
      exact fin 0 (by rw [g2.1, g2.2, sgn_self, sgn_self]; rfl)
    · exact fin _ (thenC_pos g2)
    · exact fin _ (thenC_zero (Decidable.not_not.1 g2))
end Go.TVF
end

section
namespace Go.TVF
open Go Go.Proofs
set_option linter.unusedVariables false
set_option linter.unusedSimpArgs false
/-- Lists, element by element, then by their lengths. -/
def cmpL {α : Type} (c : α → α → Int) : List α → List α → Int
  | [], [] => 0
  | [], _ :: _ => -1
  | _ :: _, [] => 1
  | a :: x, b :: y => thenC (c a b) (cmpL c x y)
def keyC (a b : Fd) : Int := lexC a.key b.key
def cmpN : Nat → Vl → Vl → Int
  | 0, _, _ => 0
  | n + 1, .mk s l f, .mk t m g =>
    if s.kind ≠ t.kind then sgn s.kind t.kind else if s.kind = 1 then (if s.b then 1 else 0) - (if t.b then 1 else 0)
    else if s.kind = 2 then decC s.neg s.dg s.ex t.neg t.dg t.ex else if s.kind = 3 then timC s.tk s.td s.tn s.tz t.tk t.td t.tn t.tz
    else if s.kind = 4 then lexC s.text t.text else if s.kind = 5 then lexC s.bytes t.bytes else if s.kind = 6 then cmpL (cmpN n) l m
    else if s.kind = 7 then thenC (cmpL keyC (sortFd f) (sortFd g)) (cmpL (fun a b => cmpN n a.val b.val) (sortFd f) (sortFd g)) else 0
theorem cmpL_end {α : Type} {c : α → α → Int} {l m : List α} {k : Nat} (h : k = l.length ∨ k = m.length) (hl : k ≤ l.length) (hm : k ≤ m.length) : cmpL c (l.drop k) (m.drop k) = sgn (l.length : Int) (m.length : Int) := by
  rcases h with rfl | rfl
  · rw [List.drop_length]
    by_cases e : l.length = m.length
    · rw [e, List.drop_length, sgn_self]; rfl
    · rw [List.drop_eq_getElem_cons (by omega)]
      unfold sgn; rw [if_pos (by omega)]; rfl
  · rw [List.drop_length]
    by_cases e : l.length = m.length
    · rw [← e, List.drop_length, sgn_self]; rfl
    · rw [List.drop_eq_getElem_cons (by omega)]
      unfold sgn; rw [if_neg (by omega), if_pos (by omega)]; rfl
theorem cmpL_step {α : Type} {c : α → α → Int} {l m : List α} {k : Nat} {x y : α} (hx : l[k]? = some x) (hy : m[k]? = some y) : cmpL c (l.drop k) (m.drop k) = thenC (c x y) (cmpL c (l.drop (k + 1)) (m.drop (k + 1))) := by
  rw [drop_get hx, drop_get hy]; rfl
/-- compare over values: what is handed in compares elements as c does. -/
theorem compareV_ok {c : Vl → Vl → Int} {st0 st : St} {u v one : TV} {l m : List Vl} {xl xm : List TV} (hke : Keeps st0 st) (hu : SlR st0 13 u l.length xl) (hl : VsR st0 l xl) (hv : SlR st0 13 v m.length xm) (hm : VsR st0 m xm)
    (hll : l.length ≤ 2000000) (hlm : m.length ≤ 2000000) (hone : ∀ (a b : Vl) (ca cb : List TV) (st1 : St) (K1 : Int → St → Prop), a ∈ l → b ∈ m → VlR st0 a ca → VlR st0 b cb → StExt st st1 → (∀ st2, StExt st1 st2 → K1 (c a b) st2) → callK PR one [.agg ca, .agg cb] [.one (.int .i64)] st1 K1)
    {K : Int → St → Prop} (hk : ∀ st', StExt st st' → K (cmpL c l m) st') : CallT PR fn_value_compare_api_Value_ [u, v, one] [.one (.int .i64)] st K := by
  refine vc_value_compare_api_Value_ _ _ _ st K ⟨fun i u1 v1 o1 st' => u = u1 ∧ v = v1 ∧ one = o1 ∧ ∃ k : Nat, i = k ∧ k ≤ l.length ∧ k ≤ m.length ∧ StExt st st' ∧ cmpL c l m = cmpL c (l.drop k) (m.drop k), fun i _ _ _ _ => (l.length - i).toNat,
    ⟨rfl, rfl, rfl, 0, rfl, Nat.zero_le _, Nat.zero_le _, StExt.refl _, rfl⟩, ?_⟩
  rintro _ _ _ _ st1 ⟨rfl, rfl, rfl, k, rfl, hkl, hkm, e1, hE⟩
  have hke1 := hke.trans e1.keeps
  refine need_intro hu.isSl ?_
  rw [hu.lenS, hv.lenS]
  refine BIf_intro (fun g => need_intro hv.isSl (BIf_intro (fun g2 => ?_) fun g2 => need_intro hu.isSl (need_intro hv.isSl (intC_ok ?_)))) fun g => need_intro hu.isSl (need_intro hv.isSl (intC_ok ?_))
  · refine el13 hke1 hu hl rfl (by omega) fun s1 l1 f1 ub1 ul1 uf1 gw hw on => el13 hke1 hv hm rfl (by omega) fun s2 l2 f2 ub2 ul2 uf2 gw2 hw2 on2 => ?_
    have hs := cmpL_step (c := c) gw gw2
    refine hone _ _ _ _ st1 _ (mem_of_get gw) (mem_of_get gw2) hw hw2 e1 fun st2 e2 => BIf_intro (fun g3 => ?_) fun g3 => ?_
    · rw [hs, thenC_pos g3] at hE
      have := hk st2 (e1.trans e2)
      rw [hE] at this; exact this
    · rw [hs, thenC_zero (Decidable.not_not.1 g3)] at hE
      rw [wrap64 _ (by omega) (by omega)]
      exact ⟨⟨rfl, rfl, rfl, k + 1, by omega, by omega, by omega, e1.trans e2, hE⟩, by dsimp only; omega⟩
  · have := hk st1 e1
    rw [hE, cmpL_end (.inr (by omega)) hkl hkm] at this; exact this
  · have := hk st1 e1
    rw [hE, cmpL_end (.inl (by omega)) hkl hkm] at this; exact this
theorem compareF_ok {c : Fd → Fd → Int} {st0 st : St} {u v one : TV} {l m : List Fd} {xl xm : List TV} (hke : Keeps st0 st) (hu : SlR st0 14 u l.length xl) (hl : FsR st0 l xl) (hv : SlR st0 14 v m.length xm) (hm : FsR st0 m xm)
    (hll : l.length ≤ 2000000) (hlm : m.length ≤ 2000000) (hone : ∀ (a b : Fd) (ca cb : List TV) (st1 : St) (K1 : Int → St → Prop), a ∈ l → b ∈ m → FdR st0 a ca → FdR st0 b cb → StExt st st1 → (∀ st2, StExt st1 st2 → K1 (c a b) st2) → callK PR one [.agg ca, .agg cb] [.one (.int .i64)] st1 K1)
    {K : Int → St → Prop} (hk : ∀ st', StExt st st' → K (cmpL c l m) st') : CallT PR fn_value_compare_api_Field_ [u, v, one] [.one (.int .i64)] st K := by
  refine vc_value_compare_api_Field_ _ _ _ st K ⟨fun i u1 v1 o1 st' => u = u1 ∧ v = v1 ∧ one = o1 ∧ ∃ k : Nat, i = k ∧ k ≤ l.length ∧ k ≤ m.length ∧ StExt st st' ∧ cmpL c l m = cmpL c (l.drop k) (m.drop k), fun i _ _ _ _ => (l.length - i).toNat,
    ⟨rfl, rfl, rfl, 0, rfl, Nat.zero_le _, Nat.zero_le _, StExt.refl _, rfl⟩, ?_⟩
  rintro _ _ _ _ st1 ⟨rfl, rfl, rfl, k, rfl, hkl, hkm, e1, hE⟩
  have hke1 := hke.trans e1.keeps
  refine need_intro hu.isSl ?_
  rw [hu.lenS, hv.lenS]
  refine BIf_intro (fun g => need_intro hv.isSl (BIf_intro (fun g2 => ?_) fun g2 => need_intro hu.isSl (need_intro hv.isSl (intC_ok ?_)))) fun g => need_intro hu.isSl (need_intro hv.isSl (intC_ok ?_))
  · refine el14 hke1 hu hl rfl (by omega) fun k1 s1 l1 f1 ub1 ul1 uf1 gw hw on => el14 hke1 hv hm rfl (by omega) fun k2 s2 l2 f2 ub2 ul2 uf2 gw2 hw2 on2 => ?_
    have hs := cmpL_step (c := c) gw gw2
    refine hone _ _ _ _ st1 _ (mem_of_get gw) (mem_of_get gw2) (by unfold FdR; exact ⟨_, rfl, hw⟩) (by unfold FdR; exact ⟨_, rfl, hw2⟩) e1 fun st2 e2 => BIf_intro (fun g3 => ?_) fun g3 => ?_
    · rw [hs, thenC_pos g3] at hE
      have := hk st2 (e1.trans e2)
      rw [hE] at this; exact this
    · rw [hs, thenC_zero (Decidable.not_not.1 g3)] at hE
      rw [wrap64 _ (by omega) (by omega)]
      exact ⟨⟨rfl, rfl, rfl, k + 1, by omega, by omega, by omega, e1.trans e2, hE⟩, by dsimp only; omega⟩
  · have := hk st1 e1
    rw [hE, cmpL_end (.inr (by omega)) hkl hkm] at this; exact this
  · have := hk st1 e1
    rw [hE, cmpL_end (.inl (by omega)) hkl hkm] at this; exact this
/-- The program's sorted fields, of distinct keys. -/
theorem psorted_ok {s : Sc} {l : List Vl} {f : List Fd} (hN : (Vl.mk s l f).sz ≤ 2000000) (hkn : KeysNd f) {st0 st : St} {ub ul uf : TV} {K : TV → St → Prop} (h : VlR st0 (.mk s l f) (cellsV s ub ul uf)) (hke : Keeps st0 st)
    (hk : ∀ v st' xl, StExt st st' → SlR st' 14 v (sortFd f).length xl → FsR st' (sortFd f) xl → K v st') : CallT PR fn_value_sorted [.agg (cellsV s ub ul uf)] [.one .tv] st K := by
  have hsz := szs s l f
  have hfl := fsSz_len f
  obtain ⟨ub', ul', uf', xl, xf, hcs, h1, h2, h3, h4, h5⟩ := h.cells
  simp only [cellsV, List.cons.injEq, and_true, true_and] at hcs
  obtain ⟨rfl, rfl, rfl⟩ := hcs
  obtain ⟨cks, rfl, hall⟩ := (FsR.keep hke h5).chunks
  refine sorted_okG (α := Fd) (g := id) (R := FdR st) (fun a c hr => hr) hall (s := s) (f := f) (by simp) rfl (h4.keep hke) (by omega) fun v st' la' cks' bs hp hs e ho hR hnd hlo => ?_
  rw [List.map_id] at hs
  have hE : la' = sortFd f := sorted_eq hkn hp hs
  subst hE
  exact hk v st' _ e ho.rd (FsR.keep e.keeps (FsR.of_chunks hR))
end Go.TVF
end

section
namespace Go.TVF
open Go Go.Proofs
set_option linter.unusedVariables false
set_option linter.unusedSimpArgs false
theorem Valids.mem : ∀ {l : List Vl} {v : Vl}, Valids l → v ∈ l → Valid v
  | [], v, _, h => by cases h
  | a :: r, v, hv, h => by
    unfold Valids at hv
    rcases List.mem_cons.1 h with rfl | h
    · exact hv.1
    · exact Valids.mem hv.2 h
theorem Validf.mem : ∀ {l : List Fd} {d : Fd}, Validf l → d ∈ l → Valid d.val
  | [], v, _, h => by cases h
  | a :: r, v, hv, h => by
    unfold Validf at hv
    rcases List.mem_cons.1 h with rfl | h
    · cases v; have := hv.1; unfold ValidD at this; exact this
    · exact Validf.mem hv.2 h
theorem sort_mem {f : List Fd} {d : Fd} (h : d ∈ sortFd f) : d ∈ f := (sortFd_perm f).mem_iff.1 h
theorem FdR.val {st : St} {d : Fd} {cs : List TV} (h : FdR st d cs) : ∃ c, cs = .str d.key :: c ∧ VlR st d.val c := by
  cases d; unfold FdR at h; exact h
theorem order_ok : ∀ (N : Nat) (v w : Vl), v.sz ≤ N → w.sz ≤ 2000000 → N ≤ 2000000 → Valid v → Valid w → ∀ {st0 st : St} {cs ds : List TV} {L : Int} {K : Int → St → Prop}, VlR st0 v cs → VlR st0 w ds → Keeps st0 st → (v.cnt : Int) ≤ L → L ≤ 100000000 →
    (∀ st', StExt st st' → K (cmpN N v w) st') → CallT PR fn_value_order [.agg cs, .agg ds, .int .i64 L] [.one (.int .i64)] st K := by
  intro N
  induction N with
  | zero => intro v w h; have := v.sz_pos; omega
  | succ N ih =>
  intro v w hN hW hN2 hV hV2 st0 st cs ds L K h h' hke hL hL2 hk
  cases v with
  | mk s l f =>
  cases w with
  | mk t m g =>
  have hsz := szs s l f
  have hll := vsSz_len l
  have hfl := fsSz_len f
  have hsz' := szs t m g
  have hll' := vsSz_len m
  have hfl' := fsSz_len g
  have hv0 := hV
  have hw0 := hV2
  unfold Valid at hV hV2
  have hpos := (Vl.mk s l f).cnt_pos
  have hcnt : (Vl.mk s l f).cnt = 1 + vsCnt l + fsCnt f := by unfold Vl.cnt; rfl
  have ha := h
  have hb := h'
  obtain ⟨ub, ul, uf, xl, xf, rfl, h1, h2, h3, h4, h5⟩ := h.cells
  obtain ⟨wb, wl, wf, yl, yf, rfl, k1, k2, k3, k4, k5⟩ := h'.cells
  unfold cmpN at hk
  obtain ⟨st1, hst1⟩ : ∃ st1, st1 = st.push (.cells [.int .i64 L]) (some 3) := ⟨_, rfl⟩
  have e1 : StExt st st1 := hst1 ▸ (StExt.refl st).push _ _
  have hb1 : st1.box st.nb = .cells [.int .i64 L] := by rw [hst1]; simp [St.push]
  have hn1 : st.nb < st1.nb := by rw [hst1]; simp [St.push]
  have hke1 := hke.trans e1.keeps
  have hld : ∀ st', StExt st1 st' → ldCell st' [] (.t (.box st.nb 0)) 0 = some (.int .i64 L) := fun st' e => by simp [ldCell, (e.box st.nb hn1).trans hb1]
  refine vc_value_order _ _ _ _ _ _ _ _ _ _ _ _ _ _ _ _ _ _ _ _ _ _ _ _ _ _ L st K ?_
  rw [← hst1]
  refine BIf_intro (fun e => intC_ok ?_) fun e => optK_intro (hld st1 (StExt.refl _)) (decT_int (BIf_intro (fun g => by omega) fun _ => ?_))
  · have := hk st1 e1
    rw [if_pos e] at this; exact this
  have hkd : s.kind = t.kind := Decidable.not_not.1 e
  rw [if_neg e] at hk
  refine BIf_intro (fun g1 => ?_) fun g1 => ?_
  · rw [if_pos g1] at hk
    refine flag_ok (flag_ok ?_)
    have := hk st1 e1
    rw [wrap64 _ (by cases s.b <;> cases t.b <;> decide) (by cases s.b <;> cases t.b <;> decide)]
    exact this
  rw [if_neg g1] at hk
  refine BIf_intro (fun g2 => ?_) fun g2 => ?_
  · rw [if_pos g2] at hk
    exact decCmp_ok hV.1.dec hV2.1.dec (hk st1 e1)
  rw [if_neg g2] at hk
  refine BIf_intro (fun g3 => ?_) fun g3 => ?_
  · rw [if_pos g3] at hk
    exact timeCmp_ok (hV.1.time g3) (hV2.1.time (by omega)) (hk st1 e1)
  rw [if_neg g3] at hk
  refine BIf_intro (fun g4 => ?_) fun g4 => ?_
  · rw [if_pos g4] at hk
    exact compare_ok (hk st1 e1)
  rw [if_neg g4] at hk
  refine BIf_intro (fun g5 => ?_) fun g5 => ?_
  · rw [if_pos g5] at hk
    exact bytesC_ok (h1.keep hke1) (k1.keep hke1) (by omega) (by omega) (hk st1 e1)
  rw [if_neg g5] at hk
  refine BIf_intro (fun g6 => ?_) fun g6 => ?_
  · rw [if_pos g6] at hk
    refine compareV_ok (c := cmpN N) hke1 h2 h3 k2 k3 (by omega) (by omega) (fun a b ca cb st2 K1 hma hmb hra hrb e2 hK1 => ?_) fun st2 e2 => hk st2 (e1.trans e2)
    obtain ⟨s1, l1, f1⟩ := a
    obtain ⟨s2, l2, f2⟩ := b
    have hsa := vsSz_mem hma
    have hsb := vsSz_mem hmb
    have hca : (Vl.mk s1 l1 f1).cnt ≤ vsCnt l := by
      obtain ⟨i, hi⟩ := List.getElem?_of_mem hma
      exact vsCnt_get hi
    have hra0 := hra
    have hrb0 := hrb
    obtain ⟨_, _, _, _, _, rfl, _⟩ := hra.cells
    obtain ⟨_, _, _, _, _, rfl, _⟩ := hrb.cells
    refine vc_value_order_1 _ _ _ _ _ _ _ _ _ _ _ _ _ _ _ _ _ _ _ _ _ _ _ _ _ _ _ st2 K1 (optK_intro (hld st2 e2) (decT_int ?_))
    rw [wrap64 _ (by omega) (by omega)]
    exact ih _ _ (by omega) (by omega) (by omega) (hV.2.1.mem hma) (hV2.2.1.mem hmb) hra0 hrb0 (hke1.trans e2.keeps) (by omega) (by omega) hK1
  rw [if_neg g6] at hk
  refine BIf_intro (fun g7 => ?_) fun g7 => ?_
  · rw [if_pos g7] at hk
    have kn1 := (keysE_nd _ _ hV.1.keys).1
    have kn2 := (keysE_nd _ _ hV2.1.keys).1
    have el1 := (sortFd_perm f).length_eq
    have el2 := (sortFd_perm g).length_eq
    refine psorted_ok (by omega) kn1 ha hke1 fun v1 st2 x1 e2 hs1 hr1 => ?_
    refine psorted_ok (by omega) kn2 hb (hke1.trans e2.keeps) fun v2 st3 x2 e3 hs2 hr2 => ?_
    have hs1' := hs1.keep e3.keeps
    have hr1' := FsR.keep e3.keeps hr1
    have e13 := (e1.trans e2).trans e3
    have e1_3 := e2.trans e3
    refine compareF_ok (c := keyC) (Keeps.refl st3) hs1' hr1' hs2 hr2 (by omega) (by omega) (fun a b ca cb st4 K1 hma hmb hra hrb e4 hK1 => ?_) fun st4 e4 => ?_
    · obtain ⟨ka, a⟩ := a
      obtain ⟨kb, b⟩ := b
      obtain ⟨s1, l1, f1⟩ := a
      obtain ⟨s2, l2, f2⟩ := b
      obtain ⟨ca', rfl, hra2⟩ := hra.val
      obtain ⟨cb', rfl, hrb2⟩ := hrb.val
      obtain ⟨_, _, _, _, _, rfl, _⟩ := (show VlR st3 (.mk s1 l1 f1) ca' from hra2).cells
      obtain ⟨_, _, _, _, _, rfl, _⟩ := (show VlR st3 (.mk s2 l2 f2) cb' from hrb2).cells
      exact vc_value_order_2 _ _ _ _ _ _ _ _ _ _ _ _ _ _ _ _ _ _ _ _ _ _ _ _ _ _ _ _ st4 K1 (compare_ok (hK1 st4 (StExt.refl _)))
    · refine BIf_intro (fun g8 => ?_) fun g8 => ?_
      · have := hk st4 (e13.trans e4)
        rw [thenC_pos g8] at this; exact this
      · rw [thenC_zero (Decidable.not_not.1 g8)] at hk
        refine compareF_ok (c := fun a b => cmpN N a.val b.val) e4.keeps hs1' hr1' hs2 hr2 (by omega) (by omega) (fun a b ca cb st5 K1 hma hmb hra hrb e5 hK1 => ?_) fun st5 e5 => hk st5 ((e13.trans e4).trans e5)
        have hma := sort_mem hma
        have hmb := sort_mem hmb
        have hsa := fsSz_mem hma
        have hsb := fsSz_mem hmb
        have hva := hV.2.2.mem hma
        have hvb := hV2.2.2.mem hmb
        have hca : a.cnt ≤ fsCnt f := by
          obtain ⟨i, hi⟩ := List.getElem?_of_mem hma
          exact fsCnt_get hi
        obtain ⟨ka, a⟩ := a
        obtain ⟨kb, b⟩ := b
        obtain ⟨s1, l1, f1⟩ := a
        obtain ⟨s2, l2, f2⟩ := b
        have hz1 := szd ka (.mk s1 l1 f1)
        have hz2 := szd kb (.mk s2 l2 f2)
        have hc1 : (Fd.mk ka (.mk s1 l1 f1)).cnt = (Vl.mk s1 l1 f1).cnt := by unfold Fd.cnt; rfl
        obtain ⟨ca', rfl, hra2⟩ := hra.val
        obtain ⟨cb', rfl, hrb2⟩ := hrb.val
        have hra0 : VlR st3 (.mk s1 l1 f1) ca' := hra2
        have hrb0 : VlR st3 (.mk s2 l2 f2) cb' := hrb2
        obtain ⟨_, _, _, _, _, rfl, _⟩ := hra0.cells
        obtain ⟨_, _, _, _, _, rfl, _⟩ := hrb0.cells
        refine vc_value_order_3 _ _ _ _ _ _ _ _ _ _ _ _ _ _ _ _ _ _ _ _ _ _ _ _ _ _ _ _ _ st5 K1 (optK_intro (hld st5 ((e1_3.trans e4).trans e5)) (decT_int ?_))
        rw [wrap64 _ (by omega) (by omega)]
        exact ih (.mk s1 l1 f1) (.mk s2 l2 f2) (by omega) (by omega) (by omega) hva hvb hra0 hrb0 (e4.trans e5).keeps (by omega) (by omega) hK1
  · rw [if_neg g7] at hk
    exact hk st1 e1
theorem Cmp_ok {v w : Vl} (hN : v.sz ≤ 2000000) (hW : w.sz ≤ 2000000) (hV : Valid v) (hV2 : Valid w) (hC : v.cnt ≤ 65536) {st0 st : St} {cs ds : List TV} {K : Int → St → Prop} (h : VlR st0 v cs) (h' : VlR st0 w ds) (hke : Keeps st0 st) (hk : ∀ st', StExt st st' → K (cmpN 2000000 v w) st') :
    CallT PR fn_value_Cmp [.agg cs, .agg ds] [.one (.int .i64)] st K := by
  have ha := h
  have hb := h'
  cases v; cases w
  obtain ⟨_, _, _, _, _, rfl, _⟩ := h.cells
  obtain ⟨_, _, _, _, _, rfl, _⟩ := h'.cells
  exact vc_value_Cmp _ _ _ _ _ _ _ _ _ _ _ _ _ _ _ _ _ _ _ _ _ _ _ _ _ _ st K (order_ok 2000000 _ _ hN hW (by omega) hV hV2 ha hb hke (by omega) (by omega) hk)
end Go.TVF
end

section
namespace Go.TVF
open Go Go.Proofs
set_option linter.unusedVariables false
set_option linter.unusedSimpArgs false
theorem bytesE_ok {a b : List UInt8} {u v : TV} {st : St} {K : Bool → St → Prop} (ha : SlR st 1 u a.length (bytesT a)) (hb : SlR st 1 v b.length (bytesT b)) (hl : a.length ≤ 2000000) (hm : b.length ≤ 2000000) (hk : ∀ r, (r = true ↔ a = b) → K r st) :
    CallT PR fn_slices_Equal___byte_byte_ [u, v] [.one .bool] st K := by
  have no : a ≠ b → K false st := fun hne => hk false ⟨fun h => (by cases h), fun h => absurd h hne⟩
  refine vc_slices_Equal___byte_byte_ _ _ st K (need_intro ha.isSl (need_intro hb.isSl ?_))
  rw [ha.lenS, hb.lenS]
  refine BIf_intro (fun e => no fun h => e (by rw [h])) fun e => need_intro ha.isSl ⟨fun i u1 v1 n st' => u = u1 ∧ v = v1 ∧ n = (a.length : Int) ∧ st = st' ∧ ∃ k : Nat, i = k ∧ k ≤ a.length ∧ a.take k = b.take k, fun i _ _ _ _ => (a.length - i).toNat,
    ⟨rfl, rfl, rfl, rfl, 0, rfl, Nat.zero_le _, rfl⟩, ?_⟩
  have el : a.length = b.length := by omega
  rintro _ _ _ _ _ ⟨rfl, rfl, rfl, rfl, k, rfl, hka, hE⟩
  refine BIf_intro (fun g => ?_) fun g => ?_
  · rw [ha.lenZ, hb.lenZ, Int.toNat_natCast]
    refine ⟨⟨by omega, by omega⟩, optK_intro (ha.ldb (by omega)) (decT_int ⟨⟨by omega, by omega⟩, optK_intro (hb.ldb (by omega)) (decT_int (BIf_intro (fun g3 => no fun h => ?_) fun g3 => ?_))⟩)⟩
    · subst h; exact g3 rfl
    · rw [wrap64 _ (by omega) (by omega)]
      refine ⟨⟨rfl, rfl, rfl, rfl, k + 1, by omega, by omega, ?_⟩, by dsimp only; omega⟩
      refine take_eq_snoc hE (List.getElem?_eq_getElem (by omega)) (List.getElem?_eq_getElem (by omega)) ?_
      have := Decidable.not_not.1 g3
      exact UInt8.toNat.inj (by omega)
  · have hkk : k = a.length := by omega
    rw [hkk, List.take_length, el, List.take_length] at hE
    exact hk true ⟨fun _ => hE, fun _ => rfl⟩
/-- slices.EqualFunc over values: what is handed in tells whether g agrees. -/
theorem equalV_ok {γ : Type} {g : Vl → γ} {st0 st : St} {u v one : TV} {l m : List Vl} {xl xm : List TV} (hke : Keeps st0 st) (hu : SlR st0 13 u l.length xl) (hl : VsR st0 l xl) (hv : SlR st0 13 v m.length xm) (hm : VsR st0 m xm)
    (hll : l.length ≤ 2000000) (hlm : m.length ≤ 2000000) (hone : ∀ (a b : Vl) (ca cb : List TV) (st1 : St) (K1 : Bool → St → Prop), a ∈ l → b ∈ m → VlR st0 a ca → VlR st0 b cb → StExt st st1 → (∀ r st2, StExt st1 st2 → (r = true ↔ g a = g b) → K1 r st2) → callK PR one [.agg ca, .agg cb] [.one .bool] st1 K1)
    {K : Bool → St → Prop} (hk : ∀ r st', StExt st st' → (r = true ↔ l.map g = m.map g) → K r st') : CallT PR fn_slices_EqualFunc___api_Value___api_Value_api_Value_api_Value_ [u, v, one] [.one .bool] st K := by
  have no : ∀ st', StExt st st' → l.map g ≠ m.map g → K false st' := fun st' e hne => hk false st' e ⟨fun h => (by cases h), fun h => absurd h hne⟩
  refine vc_slices_EqualFunc___api_Value___api_Value_api_Value_api_Value_ _ _ _ st K (need_intro hu.isSl (need_intro hv.isSl ?_))
  rw [hu.lenS, hv.lenS]
  refine BIf_intro (fun e => no st (StExt.refl _) fun h => e (by have := congrArg List.length h; simp only [List.length_map] at this; rw [this])) fun e => need_intro hu.isSl ⟨fun i v1 o1 u1 n st' => v = v1 ∧ one = o1 ∧ u = u1 ∧ n = (l.length : Int) ∧ ∃ k : Nat, i = k ∧ k ≤ l.length ∧ StExt st st' ∧ (l.map g).take k = (m.map g).take k, fun i _ _ _ _ _ => (l.length - i).toNat,
    ⟨rfl, rfl, rfl, rfl, 0, rfl, Nat.zero_le _, StExt.refl _, rfl⟩, ?_⟩
  have el : l.length = m.length := by omega
  rintro _ _ _ _ _ st1 ⟨rfl, rfl, rfl, rfl, k, rfl, hkl, e1, hE⟩
  have hke1 := hke.trans e1.keeps
  refine BIf_intro (fun q => ?_) fun q => ?_
  · refine el13 hke1 hu hl rfl (by omega) fun s1 l1 f1 ub1 ul1 uf1 gw hw on => need_intro on (el13 hke1 hv hm rfl (by omega) fun s2 l2 f2 ub2 ul2 uf2 gw2 hw2 on2 => need_intro on2 ?_)
    refine hone _ _ _ _ st1 _ (mem_of_get gw) (mem_of_get gw2) hw hw2 e1 fun r st2 e2 hr => BIf_bool (fun hb => no st2 (e1.trans e2) fun h => ?_) fun hb => ?_
    · have h1 := congrArg (fun z => z[k]?) h
      simp only [List.getElem?_map, gw, gw2, Option.map_some, Option.some.injEq] at h1
      rw [hr.2 h1] at hb; cases hb
    · rw [wrap64 _ (by omega) (by omega)]
      refine ⟨⟨rfl, rfl, rfl, rfl, k + 1, by omega, by omega, e1.trans e2, ?_⟩, by dsimp only; omega⟩
      exact take_eq_snoc hE (by rw [List.getElem?_map, gw]; rfl) (by rw [List.getElem?_map, gw2]; rfl) (hr.1 (by simpa using hb))
  · refine hk true st1 e1 ⟨fun _ => ?_, fun _ => rfl⟩
    have : k = l.length := by omega
    rw [List.take_of_length_le (by simp; omega), List.take_of_length_le (by simp; omega)] at hE
    exact hE
theorem equalF_ok {γ : Type} {g : Fd → γ} {st0 st : St} {u v one : TV} {l m : List Fd} {xl xm : List TV} (hke : Keeps st0 st) (hu : SlR st0 14 u l.length xl) (hl : FsR st0 l xl) (hv : SlR st0 14 v m.length xm) (hm : FsR st0 m xm)
    (hll : l.length ≤ 2000000) (hlm : m.length ≤ 2000000) (hone : ∀ (a b : Fd) (ca cb : List TV) (st1 : St) (K1 : Bool → St → Prop), a ∈ l → b ∈ m → FdR st0 a ca → FdR st0 b cb → StExt st st1 → (∀ r st2, StExt st1 st2 → (r = true ↔ g a = g b) → K1 r st2) → callK PR one [.agg ca, .agg cb] [.one .bool] st1 K1)
    {K : Bool → St → Prop} (hk : ∀ r st', StExt st st' → (r = true ↔ l.map g = m.map g) → K r st') : CallT PR fn_slices_EqualFunc___api_Field___api_Field_api_Field_api_Field_ [u, v, one] [.one .bool] st K := by
  have no : ∀ st', StExt st st' → l.map g ≠ m.map g → K false st' := fun st' e hne => hk false st' e ⟨fun h => (by cases h), fun h => absurd h hne⟩
  refine vc_slices_EqualFunc___api_Field___api_Field_api_Field_api_Field_ _ _ _ st K (need_intro hu.isSl (need_intro hv.isSl ?_))
  rw [hu.lenS, hv.lenS]
  refine BIf_intro (fun e => no st (StExt.refl _) fun h => e (by have := congrArg List.length h; simp only [List.length_map] at this; rw [this])) fun e => need_intro hu.isSl ⟨fun i v1 o1 u1 n st' => v = v1 ∧ one = o1 ∧ u = u1 ∧ n = (l.length : Int) ∧ ∃ k : Nat, i = k ∧ k ≤ l.length ∧ StExt st st' ∧ (l.map g).take k = (m.map g).take k, fun i _ _ _ _ _ => (l.length - i).toNat,
    ⟨rfl, rfl, rfl, rfl, 0, rfl, Nat.zero_le _, StExt.refl _, rfl⟩, ?_⟩
  have el : l.length = m.length := by omega
  rintro _ _ _ _ _ st1 ⟨rfl, rfl, rfl, rfl, k, rfl, hkl, e1, hE⟩
  have hke1 := hke.trans e1.keeps
  refine BIf_intro (fun q => ?_) fun q => ?_
  · refine el14 hke1 hu hl rfl (by omega) fun k1 s1 l1 f1 ub1 ul1 uf1 gw hw on => need_intro on (el14 hke1 hv hm rfl (by omega) fun k2 s2 l2 f2 ub2 ul2 uf2 gw2 hw2 on2 => need_intro on2 ?_)
    refine hone _ _ _ _ st1 _ (mem_of_get gw) (mem_of_get gw2) (by unfold FdR; exact ⟨_, rfl, hw⟩) (by unfold FdR; exact ⟨_, rfl, hw2⟩) e1 fun r st2 e2 hr => BIf_bool (fun hb => no st2 (e1.trans e2) fun h => ?_) fun hb => ?_
    · have h1 := congrArg (fun z => z[k]?) h
      simp only [List.getElem?_map, gw, gw2, Option.map_some, Option.some.injEq] at h1
      rw [hr.2 h1] at hb; cases hb
    · rw [wrap64 _ (by omega) (by omega)]
      refine ⟨⟨rfl, rfl, rfl, rfl, k + 1, by omega, by omega, e1.trans e2, ?_⟩, by dsimp only; omega⟩
      exact take_eq_snoc hE (by rw [List.getElem?_map, gw]; rfl) (by rw [List.getElem?_map, gw2]; rfl) (hr.1 (by simpa using hb))
  · refine hk true st1 e1 ⟨fun _ => ?_, fun _ => rfl⟩
    have : k = l.length := by omega
    rw [List.take_of_length_le (by simp; omega), List.take_of_length_le (by simp; omega)] at hE
    exact hE
/-- How two values are looked at: as they are, or with sorted fields. -/
def nrm (ex : Bool) (v : Vl) : Vl := if ex then v else sortV v
def nrmD (ex : Bool) : Fd → List UInt8 × Vl
  | .mk k v => (k, nrm ex v)
def flds (ex : Bool) (f : List Fd) : List Fd := if ex then f else sortFd f
theorem nrmD_id (f : List Fd) : ∀ g : List Fd, f.map (nrmD true) = g.map (nrmD true) → f = g := by
  induction f with
  | nil => intro g h; cases g with | nil => rfl | cons b g => simp at h
  | cons a f ih =>
    intro g h
    cases g with
    | nil => simp at h
    | cons b g =>
      simp only [List.map_cons, List.cons.injEq] at h
      rw [ih g h.2]
      cases a; cases b
      have := h.1
      simp only [nrmD, nrm, if_true, Prod.mk.injEq] at this
      rw [this.1, this.2]
theorem nrmD_sort (f : List Fd) : ∀ g : List Fd, f.map (nrmD false) = g.map (nrmD false) ↔ f.map sortD = g.map sortD := by
  induction f with
  | nil => intro g; cases g <;> simp
  | cons a f ih =>
    intro g
    cases g with
    | nil => simp
    | cons b g =>
      simp only [List.map_cons, List.cons.injEq, ih g]
      cases a; cases b
      simp [nrmD, nrm, sortD]
theorem nrm_mk (ex : Bool) (s t : Sc) (l m : List Vl) (f g : List Fd) : nrm ex (.mk s l f) = nrm ex (.mk t m g) ↔ s = t ∧ l.map (nrm ex) = m.map (nrm ex) ∧ (flds ex f).map (nrmD ex) = (flds ex g).map (nrmD ex) := by
  cases ex
  · have e1 : nrm false = sortV := funext fun v => rfl
    rw [e1]
    unfold sortV
    rw [sortVs_map, sortVs_map, sortFs_map, sortFs_map, sortFd_map sortD_key, sortFd_map sortD_key]
    simp only [flds, Bool.false_eq_true, if_false, nrmD_sort, Vl.mk.injEq]
  · have e1 : nrm true = id := funext fun v => rfl
    rw [e1]
    simp only [flds, if_true, List.map_id, id]
    constructor
    · intro h; simp only [Vl.mk.injEq] at h; obtain ⟨rfl, rfl, rfl⟩ := h; exact ⟨rfl, rfl, rfl⟩
    · rintro ⟨rfl, rfl, h⟩; rw [nrmD_id _ _ h]
theorem stB_new {st : St} {o : AObj} {T : Option Nat} {x y : TV} {k : St → Prop} (ho : o = .cells [x]) (hk : ∀ st', StExt st st' → st'.box st.nb = .cells [y] → st.nb < st'.nb → k st') : stB (st.push o T) (.box st.nb 0) [y] k := by
  subst ho
  refine ⟨[x], by simp [St.push], by simp, ?_⟩
  refine hk _ (((StExt.refl st).push _ _).put (Nat.le_refl _) _) (by simp [St.put, setAll]) (by simp [St.put, St.push])
/-- same. -/
theorem psame_ok (ex : Bool) : ∀ (N : Nat) (v w : Vl), v.sz ≤ N → w.sz ≤ 2000000 → N ≤ 2000000 → (ex = false → KNd v ∧ KNd w) → ∀ {st0 st : St} {cs ds : List TV} {L : Int} {K : Bool → St → Prop}, VlR st0 v cs → VlR st0 w ds → Keeps st0 st → (v.cnt : Int) ≤ L → L ≤ 100000000 →
    (∀ r st', StExt st st' → (r = true ↔ nrm ex v = nrm ex w) → K r st') → CallT PR fn_value_same [.agg cs, .agg ds, .bool ex, .int .i64 L] [.one .bool] st K := by
  intro N
  induction N with
  | zero => intro v w h; have := v.sz_pos; omega
  | succ N ih =>
  intro v w hN hW hN2 hV st0 st cs ds L K h h' hke hL hL2 hk
  cases v with
  | mk s l f =>
  cases w with
  | mk t m g =>
  have hsz := szs s l f
  have hll := vsSz_len l
  have hfl := fsSz_len f
  have hsz' := szs t m g
  have hll' := vsSz_len m
  have hfl' := fsSz_len g
  have hpos := (Vl.mk s l f).cnt_pos
  have hcnt : (Vl.mk s l f).cnt = 1 + vsCnt l + fsCnt f := by unfold Vl.cnt; rfl
  have ha := h
  have hb := h'
  obtain ⟨ub, ul, uf, xl, xf, rfl, h1, h2, h3, h4, h5⟩ := h.cells
  obtain ⟨wb, wl, wf, yl, yf, rfl, k1, k2, k3, k4, k5⟩ := h'.cells
  rw [nrm_mk] at hk
  obtain ⟨st1, hst1⟩ : ∃ st1, st1 = (st.push (.cells [.bool ex]) (some 4)).push (.cells [.int .i64 L]) (some 3) := ⟨_, rfl⟩
  have e1 : StExt st st1 := hst1 ▸ ((StExt.refl st).push _ _).push _ _
  have hb1 : st1.box st.nb = .cells [.bool ex] := by rw [hst1]; simp [St.push]
  have hb2 : st1.box (st.nb + 1) = .cells [.int .i64 L] := by rw [hst1]; simp [St.push]
  have hn1 : st.nb + 1 < st1.nb := by rw [hst1]; simp [St.push]
  have hke1 := hke.trans e1.keeps
  have hldx : ∀ st', StExt st1 st' → ldCell st' [] (.t (.box st.nb 0)) 0 = some (.bool ex) := fun st' e => by simp [ldCell, (e.box st.nb (by omega)).trans hb1]
  have hldl : ∀ st', StExt st1 st' → ldCell st' [] (.t (.box (st.nb + 1) 0)) 0 = some (.int .i64 L) := fun st' e => by simp [ldCell, (e.box (st.nb + 1) hn1).trans hb2]
  have no : ∀ st', StExt st1 st' → ¬ (s = t ∧ l.map (nrm ex) = m.map (nrm ex) ∧ (flds ex f).map (nrmD ex) = (flds ex g).map (nrmD ex)) → K false st' := fun st' e hne => hk false st' (e1.trans e) ⟨fun h => (by cases h), fun h => absurd h hne⟩
  refine vc_value_same _ _ _ _ _ _ _ _ _ _ _ _ _ _ _ _ _ _ _ _ _ _ _ _ _ _ ex L st K ?_
  rw [show (st.push (.cells [.bool ex]) (some 4)).nb = st.nb + 1 from rfl, ← hst1]
  have r1 := StExt.refl st1
  refine BIf_intro (fun e => no st1 r1 fun h => e (by rw [h.1])) fun q1 => BIf_bool (fun e => no st1 r1 fun h => ?_) fun q2 => BIf_bool (fun e => no st1 r1 fun h => ?_) fun q3 => BIf_bool (fun e => no st1 r1 fun h => ?_) fun q4 => BIf_intro (fun e => no st1 r1 fun h => e (by rw [h.1])) fun q5 => ?_
  · rw [h.1] at e; simp at e
  · rw [h.1] at e; simp at e
  · rw [h.1] at e; simp at e
  refine bytesE_ok (h1.keep hke1) (k1.keep hke1) (by omega) (by omega) fun r hr => BIf_bool (fun e => no st1 r1 fun h => ?_) fun q6 => ?_
  · rw [hr.2 (by rw [h.1])] at e; cases e
  have hst : s = t := by
    simp only [Bool.not_eq_false', Bool.and_eq_true, beq_iff_eq, decide_eq_true_eq, and_true] at q2 q3 q4
    exact sc_eq (Decidable.not_not.1 q1) q2 q3.1 q3.2.1 q3.2.2 q4.1 q4.2.1 q4.2.2.1 q4.2.2.2 (Decidable.not_not.1 q5) (hr.1 (by simpa using q6))
  subst hst
  refine optK_intro (hldl st1 r1) (decT_int (BIf_intro (fun g => by omega) fun _ => optK_intro (hldx st1 r1) (decT_bool ?_)))
  -- The closure and both comparisons, from fields that are as asked for.
  have rest : ∀ (st2 : St) (v1 v2 : TV) (x1 x2 : List TV), StExt st1 st2 → SlR st2 14 v1 (flds ex f).length x1 → FsR st2 (flds ex f) x1 → SlR st2 14 v2 (flds ex g).length x2 → FsR st2 (flds ex g) x2 →
      stB (st2.push (.cells [.nilFunc]) (some 36)) (.box st2.nb 0) [.func fn_value_same_1 [.box st.nb 0, .box (st.nb + 1) 0]] fun (st4 : St) =>
        optK (ldCell st4 [] (.t (.box st2.nb 0)) 0) fun (v3 : TV) => CallT PR fn_slices_EqualFunc___api_Value___api_Value_api_Value_api_Value_ [ul, wl, v3] [.one (.bool)] st4 fun (b3 : Bool) (st5 : St) =>
          BIf b3 (CallT PR fn_slices_EqualFunc___api_Field___api_Field_api_Field_api_Field_ [v1, v2, (.func fn_value_same_2 [(.box st2.nb 0)])] [.one (.bool)] st5 fun (b4 : Bool) (st6 : St) => K (b4) st6) (K (false) st5) := by
    intro st2 v1 v2 x1 x2 e2 p1 p2 p3 p4
    refine stB_new (x := .nilFunc) rfl fun st4 e4 hbx hnx => ?_
    have hldc : ∀ st', StExt st4 st' → ldCell st' [] (.t (.box st2.nb 0)) 0 = some (.func fn_value_same_1 [.box st.nb 0, .box (st.nb + 1) 0]) := fun st' e => by simp [ldCell, (e.box st2.nb hnx).trans hbx]
    have e14 := e2.trans e4
    have hke4 := hke1.trans e14.keeps
    -- the closure
    have clo : ∀ (a b : Vl) (ca cb : List TV) (st5 : St) (K1 : Bool → St → Prop) (st0' : St), a.sz ≤ N → b.sz ≤ 2000000 → (ex = false → KNd a ∧ KNd b) → (a.cnt : Int) ≤ L - 1 → VlR st0' a ca → VlR st0' b cb → Keeps st0' st5 → StExt st4 st5 → (∀ r st6, StExt st5 st6 → (r = true ↔ nrm ex a = nrm ex b) → K1 r st6) →
        CallT PR fn_value_same_1 ([.agg ca, .agg cb] ++ [.box st.nb 0, .box (st.nb + 1) 0]) [.one .bool] st5 K1 := by
      intro a b ca cb st5 K1 st0' hz1 hz2 hkn hc hra hrb hk5 e5 hK1
      have hra0 := hra
      have hrb0 := hrb
      obtain ⟨s1, l1, f1⟩ := a
      obtain ⟨s2, l2, f2⟩ := b
      obtain ⟨_, _, _, _, _, rfl, _⟩ := hra.cells
      obtain ⟨_, _, _, _, _, rfl, _⟩ := hrb.cells
      refine vc_value_same_1 _ _ _ _ _ _ _ _ _ _ _ _ _ _ _ _ _ _ _ _ _ _ _ _ _ _ _ _ st5 K1 (optK_intro (hldx st5 (e14.trans e5)) (decT_bool (optK_intro (hldl st5 (e14.trans e5)) (decT_int ?_))))
      rw [wrap64 _ (by omega) (by omega)]
      exact ih _ _ hz1 hz2 (by omega) hkn hra0 hrb0 hk5 hc (by omega) hK1
    refine optK_intro (hldc st4 (StExt.refl _)) (equalV_ok (g := nrm ex) hke4 h2 h3 k2 k3 (by omega) (by omega) (fun a b ca cb st5 K1 hma hmb hra hrb e5 hK1 => ?_) fun r st5 e5 hr => ?_)
    · have hsa := vsSz_mem hma
      have hsb := vsSz_mem hmb
      have hca : a.cnt ≤ vsCnt l := by
        obtain ⟨i, hi⟩ := List.getElem?_of_mem hma
        exact vsCnt_get hi
      refine clo a b ca cb st5 K1 st0 (by omega) (by omega) (fun e => ?_) (by omega) hra hrb (hke4.trans e5.keeps) e5 hK1
      have := hV e
      unfold KNd at this
      exact ⟨this.1.1.mem hma, this.2.1.mem hmb⟩
    · refine BIf_bool (fun hb => ?_) fun hb => no st5 (e14.trans e5) fun h => ?_
      · have e25 := e4.trans e5
        refine equalF_ok (g := nrmD ex) e25.keeps p1 p2 p3 p4 ?_ ?_ (fun a b ca cb st6 K1 hma hmb hra hrb e6 hK1 => ?_) fun r2 st6 e6 hr2 => hk r2 st6 (((e1.trans e14).trans e5).trans e6) ⟨fun h => ⟨rfl, hr.1 hb, hr2.1 h⟩, fun h => hr2.2 h.2.2⟩
        · unfold flds; split
          · omega
          · have := (sortFd_perm f).length_eq; omega
        · unfold flds; split
          · omega
          · have := (sortFd_perm g).length_eq; omega
        · have hma' : a ∈ f := by
            unfold flds at hma; split at hma
            · exact hma
            · exact sort_mem hma
          have hmb' : b ∈ g := by
            unfold flds at hmb; split at hmb
            · exact hmb
            · exact sort_mem hmb
          have hsa := fsSz_mem hma'
          have hsb := fsSz_mem hmb'
          have hca : a.cnt ≤ fsCnt f := by
            obtain ⟨i, hi⟩ := List.getElem?_of_mem hma'
            exact fsCnt_get hi
          obtain ⟨ka, a⟩ := a
          obtain ⟨kb, b⟩ := b
          have hz1 := szd ka a
          have hz2 := szd kb b
          have hc1 : (Fd.mk ka a).cnt = a.cnt := by unfold Fd.cnt; rfl
          obtain ⟨ca', rfl, hra2⟩ := hra.val
          obtain ⟨cb', rfl, hrb2⟩ := hrb.val
          have hra0 : VlR st2 a ca' := hra2
          have hrb0 : VlR st2 b cb' := hrb2
          have hcl := clo a b ca' cb' st6 (fun r st7 => K1 r st7) st2 (by omega) (by omega) (fun e => by
            have := hV e
            unfold KNd at this
            have q1 := this.1.2.2.mem hma'
            have q2 := this.2.2.2.mem hmb'
            unfold KNdD at q1 q2
            exact ⟨q1, q2⟩) (by omega) hra0 hrb0 (e25.trans e6).keeps (e5.trans e6)
          obtain ⟨s1, l1, f1⟩ := a
          obtain ⟨s2, l2, f2⟩ := b
          obtain ⟨_, _, _, _, _, rfl, _⟩ := hra0.cells
          obtain ⟨_, _, _, _, _, rfl, _⟩ := hrb0.cells
          refine vc_value_same_2 _ _ _ _ _ _ _ _ _ _ _ _ _ _ _ _ _ _ _ _ _ _ _ _ _ _ _ _ _ st6 K1 (BIf_intro (fun ek => optK_intro (hldc st6 (e5.trans e6)) (hcl fun r st7 e7 hr7 => hK1 r st7 e7 ?_)) fun ek => hK1 false st6 (StExt.refl _) ⟨fun h => (by cases h), fun h => ?_⟩)
          · simp only [nrmD, Prod.mk.injEq]
            exact ⟨fun h => ⟨ek, hr7.1 h⟩, fun h => hr7.2 h.2⟩
          · simp only [nrmD, Prod.mk.injEq] at h
            exact absurd h.1 ek
      · rw [hr.2 h.2.1] at hb; cases hb
  refine BIf_bool (fun hex => ?_) fun hex => ?_
  · have hex' : ex = false := by simpa using hex
    have hkn := hV hex'
    unfold KNd at hkn
    have hfx : ∀ z, flds ex z = sortFd z := fun z => by rw [hex']; rfl
    refine psorted_ok (by omega) hkn.1.2.1 ha hke1 fun v1 st2 x1 e2 hs1 hr1 => ?_
    refine psorted_ok (by omega) hkn.2.2.1 hb (hke1.trans e2.keeps) fun v2 st3 x2 e3 hs2 hr2 => ?_
    exact rest st3 v1 v2 x1 x2 (e2.trans e3) (by rw [hfx]; exact hs1.keep e3.keeps) (by rw [hfx]; exact FsR.keep e3.keeps hr1) (by rw [hfx]; exact hs2) (by rw [hfx]; exact hr2)
  · have hex' : ex = true := by simpa using hex
    have hfx : ∀ z, flds ex z = z := fun z => by rw [hex']; rfl
    exact rest st1 uf wf xf yf r1 (by rw [hfx]; exact h4.keep hke1) (by rw [hfx]; exact FsR.keep hke1 h5) (by rw [hfx]; exact k4.keep hke1) (by rw [hfx]; exact FsR.keep hke1 k5)
theorem pSame_ok {v w : Vl} (hN : v.sz ≤ 2000000) (hW : w.sz ≤ 2000000) (hC : v.cnt ≤ 65536) {st0 st : St} {cs ds : List TV} {K : Bool → St → Prop} (h : VlR st0 v cs) (h' : VlR st0 w ds) (hke : Keeps st0 st) (hk : ∀ r st', StExt st st' → (r = true ↔ v = w) → K r st') :
    CallT PR fn_value_Same [.agg cs, .agg ds] [.one .bool] st K := by
  have ha := h
  have hb := h'
  cases v; cases w
  obtain ⟨_, _, _, _, _, rfl, _⟩ := h.cells
  obtain ⟨_, _, _, _, _, rfl, _⟩ := h'.cells
  exact vc_value_Same _ _ _ _ _ _ _ _ _ _ _ _ _ _ _ _ _ _ _ _ _ _ _ _ _ _ st K (psame_ok true 2000000 _ _ hN hW (by omega) (fun h => by cases h) ha hb hke (by omega) (by omega) hk)
theorem pEqual_ok {v w : Vl} (hN : v.sz ≤ 2000000) (hW : w.sz ≤ 2000000) (hC : v.cnt ≤ 65536) (hV : KNd v) (hV2 : KNd w) {st0 st : St} {cs ds : List TV} {K : Bool → St → Prop} (h : VlR st0 v cs) (h' : VlR st0 w ds) (hke : Keeps st0 st) (hk : ∀ r st', StExt st st' → (r = true ↔ sortV v = sortV w) → K r st') :
    CallT PR fn_value_Equal [.agg cs, .agg ds] [.one .bool] st K := by
  have ha := h
  have hb := h'
  cases v; cases w
  obtain ⟨_, _, _, _, _, rfl, _⟩ := h.cells
  obtain ⟨_, _, _, _, _, rfl, _⟩ := h'.cells
  exact vc_value_Equal _ _ _ _ _ _ _ _ _ _ _ _ _ _ _ _ _ _ _ _ _ _ _ _ _ _ st K (psame_ok false 2000000 _ _ hN hW (by omega) (fun h => ⟨hV, hV2⟩) ha hb hke (by omega) (by omega) hk)
end Go.TVF
end

section
namespace Go.TVF
open Go Go.Proofs
set_option linter.unusedVariables false
set_option linter.unusedSimpArgs false
theorem appK_ownK {T b sz bytes : Nat} {st0 st : St} {v : TV} {n k : Nat} {xs ys : List TV} {K : TV → St → Prop} (e : StExt st0 st) (hb : b = st0.nt) (h : Own b sz st v n xs) (hby : (n + k) * bytes ≤ 140737488355328) (hys : k = 0 → ys = [])
    (hK : ∀ v' st', StExt st0 st' → Keeps st st' → Own b sz st' v' (n + k) (xs ++ ys) → K v' st') : appK T sz bytes v k ys st K := by
  subst hb
  have kk : ∀ st' : St, st'.nb = st.nb → st'.box = st.box → Keeps st st' := fun st' a b => ⟨Nat.le_of_eq a.symm, fun i _ => by rw [b]⟩
  rcases h with ⟨rfl, rfl, rfl⟩ | ⟨tip, rfl, ht⟩
  · simp only [appK]
    cases k with
    | zero => rw [hys rfl] at hK; exact hK _ _ e (kk _ rfl rfl) (.nil _ _ _)
    | succ m =>
      simp only [need_iff]
      refine ⟨by simpa using hby, hK _ _ (e.fresh _) (kk _ rfl rfl) ?_⟩
      simp only [List.nil_append, Nat.zero_add]
      exact Own.fresh _ _ e.nt
  · simp only [appK, Nat.beq_refl]
    refine ⟨hby, ?_⟩
    rcases ht with rfl | ⟨id, rfl, h1, h2, h3⟩
    · cases k with
      | zero => rw [hys rfl] at hK; simp only [List.append_nil] at hK; exact hK _ _ e (kk _ rfl rfl) (Own.full _ _ _ _ _)
      | succ m => exact hK _ _ (e.fresh _) (kk _ rfl rfl) (Own.fresh _ _ e.nt)
    · exact ⟨h3, hK _ _ ((e.retire h1).fresh _) (kk _ rfl rfl) (Own.fresh (st := st.retire id) _ _ e.nt)⟩
theorem FsR.snoc {st : St} {d : Fd} {cd : List TV} {l : List Fd} {xs : List TV} (h : FsR st l xs) (hd : FdR st d cd) : FsR st (l ++ [d]) (xs ++ cd) := by
  obtain ⟨cks, rfl, hall⟩ := h.chunks
  have := FsR.of_chunks (hall.snoc hd)
  simpa using this
/-- Copy. -/
theorem rCopy_ok : ∀ (N : Nat) (v : Vl), v.sz ≤ N → N ≤ 2000000 → ∀ {st0 st : St} {cs : List TV} {K : Int → Bool → Bool → List UInt8 → Int → Int → Int → Int → Int → List UInt8 → TV → TV → TV → St → Prop}, VlR st0 v cs → Keeps st0 st →
    (∀ ub ul uf st', VlR st' v (cellsV v.sc ub ul uf) → oneT ub = true → oneT ul = true → oneT uf = true → StExt st st' → K v.sc.kind v.sc.b v.sc.neg v.sc.dg v.sc.ex v.sc.tk v.sc.td v.sc.tn v.sc.tz v.sc.text ub ul uf st') →
    CallT PR fn_datakitref07_Copy [.agg cs] [.agg [.int .i64, .bool, .bool, .str, .int .i64, .int .i64, .int .i64, .int .i64, .int .i64, .str, .tv, .tv, .tv]] st K := by
  intro N
  induction N with
  | zero => intro v h; have := v.sz_pos; omega
  | succ N ih =>
  intro v hN hN2 st0 st cs K h hke hk
  cases v with
  | mk s l f =>
  have hsz := szs s l f
  have hll := vsSz_len l
  have hfl := fsSz_len f
  obtain ⟨ub0, ul, uf, xl, xf, rfl, h1, h2, h3, h4, h5⟩ := h.cells
  refine vc_datakitref07_Copy _ _ _ _ _ _ _ _ _ _ _ _ _ st K (need_intro (one13 h1.one h2.one h4.one) (optK_intro ((h1.keep hke).src (by rw [length_bytesT]; omega)) (need_intro (bytes_one _) ?_)))
  refine appK_own (StExt.refl st) rfl (Own.full st.nt 1 st 0 []) (by omega) (fun h0 => by
    have : s.bytes = [] := List.length_eq_zero_iff.1 h0
    rw [this]; rfl) fun ub st0' e0 _ hob => need_intro (by simp [hob.rd.one]) ?_
  simp only [List.nil_append, Nat.zero_add] at hob
  have hkb := hke.trans e0.keeps
  refine ⟨fun i k1 b1 b2 s1 k2 k3 k4 k5 k6 s2 v1 v2 v3 k7 b3 b4 s3 k8 k9 k10 k11 k12 s4 v4 v5 v6 k13 b5 b6 s5 k14 k15 k16 k17 k18 s6 v7 v8 v9 st' =>
      ul = v2 ∧ uf = v3 ∧ s.kind = k13 ∧ s.b = b5 ∧ s.neg = b6 ∧ s.dg = s5 ∧ s.ex = k14 ∧ s.tk = k15 ∧ s.td = k16 ∧ s.tn = k17 ∧ s.tz = k18 ∧ s.text = s6 ∧ ub = v7 ∧ TV.nilSlice = v9 ∧ ∃ (k : Nat) (xs : List TV), i = k ∧ k ≤ l.length ∧ StExt st0' st' ∧ Own st0'.nt 13 st' v8 k xs ∧ VsR st' (l.take k) xs,
    fun i _ _ _ _ _ _ _ _ _ _ _ _ _ _ _ _ _ _ _ _ _ _ _ _ _ _ _ _ _ _ _ _ _ _ _ _ _ _ _ _ => (l.length - i).toNat,
    ⟨rfl, rfl, rfl, rfl, rfl, rfl, rfl, rfl, rfl, rfl, rfl, rfl, rfl, rfl, 0, [], rfl, Nat.zero_le _, StExt.refl _, Own.nil _ _ _, by simp only [List.take_zero]; unfold VsR; rfl⟩, ?_⟩
  rintro _ k1 b1 b2 s1 k2 k3 k4 k5 k6 s2 v1 _ _ k7 b3 b4 s3 k8 k9 k10 k11 k12 s4 v4 v5 v6 _ _ _ _ _ _ _ _ _ _ _ v8 _ st1 ⟨rfl, rfl, rfl, rfl, rfl, rfl, rfl, rfl, rfl, rfl, rfl, rfl, rfl, rfl, k, xs, rfl, hkl, e1, ho, hv⟩
  have hke1 := hkb.trans e1.keeps
  refine need_intro h2.isSl (BIf_intro (fun g => ?_) fun g => ?_)
  · rw [h2.lenS] at g
    refine el13 hke1 h2 h3 rfl (by omega) fun s1 l1 f1 ub1 ul1 uf1 gw hw on => ?_
    have hwsz := vsSz_get gw
    refine ih (.mk s1 l1 f1) (by omega) (by omega) hw hke1 fun wb wl wf st2 hw2 o1 o2 o3 e2 => need_intro (one13 o1 o2 o3) ?_
    refine appK_ownK (e1.trans e2) rfl (ho.ext e2) (by omega) (fun h => by cases h) fun v9 st3 e3 e3' ho3 => need_intro (by simp [ho3.rd.one]) ?_
    rw [wrap64 _ (by omega) (by omega)]
    refine ⟨⟨rfl, rfl, rfl, rfl, rfl, rfl, rfl, rfl, rfl, rfl, rfl, rfl, rfl, rfl, k + 1, _, by omega, by omega, e3, ho3, ?_⟩, by dsimp only; omega⟩
    rw [take_snoc gw]
    exact VsR.snoc (VsR.keep (e2.keeps.trans e3') hv) (VlR.keep e3' hw2)
  · rw [h2.lenS] at g
    have hkk : k = l.length := by omega
    subst hkk
    rw [List.take_length] at hv
    refine ⟨fun i k1 b1 b2 s1 k2 k3 k4 k5 k6 s2 v1 v2 v3 k7 b3 b4 s3 k8 k9 k10 k11 k12 s4 v4 v5 v6 k13 b5 b6 s5 k14 k15 k16 k17 k18 s6 v7 w1 w2 st' =>
      uf = v3 ∧ s.kind = k13 ∧ s.b = b5 ∧ s.neg = b6 ∧ s.dg = s5 ∧ s.ex = k14 ∧ s.tk = k15 ∧ s.td = k16 ∧ s.tn = k17 ∧ s.tz = k18 ∧ s.text = s6 ∧ ub = v7 ∧ v8 = w1 ∧ ∃ (k : Nat) (ys : List TV), i = k ∧ k ≤ f.length ∧ StExt st1 st' ∧ Own st1.nt 14 st' w2 k ys ∧ FsR st' (f.take k) ys,
      fun i _ _ _ _ _ _ _ _ _ _ _ _ _ _ _ _ _ _ _ _ _ _ _ _ _ _ _ _ _ _ _ _ _ _ _ _ _ _ _ _ => (f.length - i).toNat,
      ⟨rfl, rfl, rfl, rfl, rfl, rfl, rfl, rfl, rfl, rfl, rfl, rfl, rfl, 0, [], rfl, Nat.zero_le _, StExt.refl _, Own.nil _ _ _, by simp only [List.take_zero]; unfold FsR; rfl⟩, ?_⟩
    rintro _ k1 b1 b2 s1 k2 k3 k4 k5 k6 s2 v1 v2 _ k7 b3 b4 s3 k8 k9 k10 k11 k12 s4 v4 v5 v6 _ _ _ _ _ _ _ _ _ _ _ _ w8 st5 ⟨rfl, rfl, rfl, rfl, rfl, rfl, rfl, rfl, rfl, rfl, rfl, rfl, rfl, q, ys, rfl, hql, e5, ho5, hv5⟩
    have hke5 := hke1.trans e5.keeps
    refine need_intro h4.isSl (BIf_intro (fun g2 => ?_) fun g2 => ?_)
    · rw [h4.lenS] at g2
      have gd : f[q]? = some f[q] := List.getElem?_eq_getElem (by omega)
      generalize f[q] = d at gd
      refine key14 hke5 h4 h5 rfl gd ?_
      refine val14 hke5 h4 h5 rfl (by omega) fun key s1 l1 f1 ub1 ul1 uf1 gw hw on => ?_
      rw [gd] at gw
      have hde := Option.some.inj gw
      subst hde
      have hsa := fsSz_mem (mem_of_get gd)
      have hzd := szd key (.mk s1 l1 f1)
      refine ih (.mk s1 l1 f1) (by omega) (by omega) hw hke5 fun wb wl wf st6 hw2 o1 o2 o3 e6 => ⟨keyLd (hke5.trans e6.keeps) h4 h5 gd, need_intro (one14 o1 o2 o3) ?_⟩
      refine appK_ownK (e5.trans e6) rfl (ho5.ext e6) (by omega) (fun h => by cases h) fun v9 st7 e7 e7' ho7 => need_intro (by simp [ho7.rd.one]) ?_
      rw [wrap64 _ (by omega) (by omega)]
      refine ⟨⟨rfl, rfl, rfl, rfl, rfl, rfl, rfl, rfl, rfl, rfl, rfl, rfl, rfl, q + 1, _, by omega, by omega, e7, ho7, ?_⟩, by dsimp only; omega⟩
      rw [take_snoc gd]
      refine FsR.snoc (FsR.keep (e6.keeps.trans e7') hv5) ?_
      unfold FdR
      exact ⟨_, rfl, VlR.keep e7' hw2⟩
    · rw [h4.lenS] at g2
      have hqq : q = f.length := by omega
      subst hqq
      rw [List.take_length] at hv5
      refine need_intro (one13 hob.rd.one ho.rd.one ho5.rd.one) (hk ub v8 w8 st5 ?_ hob.rd.one ho.rd.one ho5.rd.one ((e0.trans e1).trans e5))
      unfold VlR
      exact ⟨ub, v8, w8, xs, ys, rfl, .of_rd hob.rd, .of_rd ho.rd, VsR.keep e5.keeps hv, .of_rd ho5.rd, hv5⟩
end Go.TVF
end

section
namespace Go.TVF
open Go Go.Proofs
set_option linter.unusedVariables false
set_option linter.unusedSimpArgs false
def scZ : Sc := ⟨0, false, false, [], 0, 0, 0, 0, 0, [], []⟩
theorem vl_leaf (st : St) (s : Sc) (h : s.bytes = []) : VlR st (.mk s [] []) (cellsV s .nilSlice .nilSlice .nilSlice) := by
  unfold VlR
  refine ⟨_, _, _, [], [], rfl, ?_, .of_rd (.inl ⟨rfl, rfl, rfl⟩), by unfold VsR; rfl, .of_rd (.inl ⟨rfl, rfl, rfl⟩), by unfold FsR; rfl⟩
  rw [h]; exact .of_rd (.inl ⟨rfl, rfl, rfl⟩)
def vInt (c : UInt8) : Vl := .mk { scZ with kind := 2, dg := [c] } [] []
def vText (s : List UInt8) : Vl := .mk { scZ with kind := 4, text := s } [] []
def vList (l : List Vl) : Vl := .mk { scZ with kind := 6 } l []
def vMap (f : List Fd) : Vl := .mk { scZ with kind := 7 } [] f
theorem reverse1 {u : TV} {x : TV} {st : St} {K : St → Prop} (h : SlR st 1 u 1 [x]) (hk : K st) : CallT PR fn_digits_reverse [u] [] st K := by
  refine vc_digits_reverse u st K (need_intro h.isSl ⟨fun i k v st' => i = 0 ∧ k = 0 ∧ st = st', fun _ _ _ _ => 0, ⟨rfl, by rw [h.lenS]; rfl, rfl⟩, ?_⟩)
  rintro _ _ v _ ⟨rfl, rfl, rfl⟩
  exact BIf_intro (fun g => by omega) fun _ => hk
theorem fromInt1 {n : Int} {c : UInt8} (h0 : 0 < n) (h9 : n < 10) (hc : c.toNat = 48 + n.toNat) {st : St} {K : List UInt8 → St → Prop} (hk : ∀ st', StExt st st' → K [c] st') : CallT PR fn_digits_FromInt [.int .i64 n] [.one .str] st K := by
  have hm : Int.tmod n 10 = n := by rw [Int.tmod_eq_emod_of_nonneg (by omega)]; omega
  have hd : Int.tdiv n 10 = 0 := by rw [Int.tdiv_eq_ediv_of_nonneg (by omega)]; omega
  have hb : IntKind.u8.wrap (IntKind.i64.wrap (48 + Int.tmod n 10)) = ((c.toNat : Nat) : Int) := by
    rw [hm, wrap64 _ (by omega) (by omega), w8_int (by omega) (by omega), natB_lt _ (by omega)]
    omega
  refine vc_digits_FromInt n st K ⟨fun i b st' => (i = n ∧ b = .nilSlice ∧ st = st') ∨ (i = 0 ∧ StExt st st' ∧ SlR st' 1 b 1 (bytesT [c])), fun i _ _ => i.toNat, .inl ⟨rfl, rfl, rfl⟩, ?_⟩
  rintro i b st1 (⟨rfl, rfl, rfl⟩ | ⟨rfl, e, hs⟩)
  · refine BIf_intro (fun _ => ?_) fun g => by omega
    rw [hd, hb]
    refine appB_ownO (OwnSl.nil st 1) (by omega) rfl (by omega) fun u' st' bs' ho e _ => ?_
    refine ⟨.inr ⟨by decide, StX.ext (StExt.refl _) e (fun x hx => by cases hx), ho.rd⟩, by dsimp only; rw [wrap64 _ (by omega) (by omega)]; omega⟩
  · refine BIf_intro (fun g => by omega) fun _ => reverse1 (x := byteT c) hs (optK_intro (x := .str [c]) (by rw [SlR.toBytes (l := [c]) hs]; rfl) (decT_str (hk st1 e)))
theorem Int1_ok {n : Int} {c : UInt8} (h0 : 0 < n) (h9 : n < 10) (hc : c.toNat = 48 + n.toNat) (hne : Lib.trimRightB [c] 48 = [c]) {st : St} {K : Int → Bool → Bool → List UInt8 → Int → Int → Int → Int → Int → List UInt8 → TV → TV → TV → St → Prop}
    (hk : ∀ st', StExt st st' → K 2 false false [c] 0 0 0 0 0 [] .nilSlice .nilSlice .nilSlice st') :
    CallT PR fn_value_Int [.int .i64 n] [.agg [.int .i64, .bool, .bool, .str, .int .i64, .int .i64, .int .i64, .int .i64, .int .i64, .str, .tv, .tv, .tv]] st K := by
  refine vc_value_Int n st K (vc_decimal_FromInt n st _ (BIf_intro (fun g => by omega) fun _ => fromInt1 h0 h9 hc fun st1 e1 => ?_))
  rw [decide_eq_false (show ¬ n < 0 by omega)]
  refine vc_decimal_norm false [c] 0 st1 _ (BIf_intro (fun g => by cases g) fun _ => trimRight_ok (c := 48) (by decide) (by simp) ?_)
  rw [hne]
  simp only [List.length_singleton]
  refine ⟨by decide, BIf_intro (fun g => absurd g (by decide)) fun _ => BIf_intro (fun g => absurd g (by decide)) fun _ => BIf_intro (fun g => absurd g (by rw [show (IntKind.i64.wrap (((1 : Nat) : Int) - IntKind.i64.wrap (((1 : Nat) : Int) - ((1 : Nat) : Int)))).toNat = 1 from by decide]; simp)) fun _ => ?_⟩
  exact vc_value_Num _ _ _ _ _ (need_intro rfl (hk st1 e1))
theorem List_ok {l : List Vl} {xl : List TV} {u : TV} (hs : vsSz l ≤ 1000000) (hc : vsCnt l ≤ 60000) {st : St} (hu : SlR st 13 u l.length xl) (hv : VsR st l xl) {K : Int → Bool → Bool → List UInt8 → Int → Int → Int → Int → Int → List UInt8 → TV → TV → TV → St → Prop}
    (hk : ∀ ub ul uf st', VlR st' (vList l) (cellsV { scZ with kind := 6 } ub ul uf) → oneT ub = true → oneT ul = true → oneT uf = true → StExt st st' → K 6 false false [] 0 0 0 0 0 [] ub ul uf st') :
    CallT PR fn_value_List [u] [.agg [.int .i64, .bool, .bool, .str, .int .i64, .int .i64, .int .i64, .int .i64, .int .i64, .str, .tv, .tv, .tv]] st K := by
  have hw : VlR st (vList l) (cellsV { scZ with kind := 6 } .nilSlice u .nilSlice) := by
    unfold vList VlR
    exact ⟨_, _, _, xl, [], rfl, .of_rd (.inl ⟨rfl, rfl, rfl⟩), hu, hv, .of_rd (.inl ⟨rfl, rfl, rfl⟩), by unfold FsR; rfl⟩
  have hz : (vList l).sz = 1 + vsSz l := by unfold vList Vl.sz fsSz; rfl
  have hcn : (vList l).cnt = 1 + vsCnt l := by unfold vList Vl.cnt fsCnt; rfl
  exact vc_value_List u st K (need_intro (by simp [hu.one]) (copied_ok 2000000 _ (by omega) (by omega) hw (by omega) (by omega) fun ub ul uf st' fp g o1 o2 o3 nd lo e => need_intro (one13 o1 o2 o3) (hk ub ul uf st' g.rd o1 o2 o3 e)))
theorem Map_ok {f : List Fd} {xf : List TV} {u : TV} (hs : fsSz f ≤ 1000000) (hc : fsCnt f ≤ 60000) (he : keysE [] f = 0) {st : St} (hu : SlR st 14 u f.length xf) (hv : FsR st f xf) {K : Int → Bool → Bool → List UInt8 → Int → Int → Int → Int → Int → List UInt8 → TV → TV → TV → Int → St → Prop}
    (hk : ∀ ub ul uf st', VlR st' (vMap f) (cellsV { scZ with kind := 7 } ub ul uf) → oneT ub = true → oneT ul = true → oneT uf = true → StExt st st' → K 7 false false [] 0 0 0 0 0 [] ub ul uf 0 st') :
    CallT PR fn_value_Map [u] [.agg [.int .i64, .bool, .bool, .str, .int .i64, .int .i64, .int .i64, .int .i64, .int .i64, .str, .tv, .tv, .tv], .one (.int .i64)] st K := by
  have hz : (vMap f).sz = 1 + fsSz f := by unfold vMap Vl.sz vsSz; simp [scZ]
  have hcn : (vMap f).cnt = 1 + fsCnt f := by unfold vMap Vl.cnt vsCnt; rfl
  refine vc_value_Map u st K (keys_ok (Keeps.refl st) hu hv (by omega) fun st1 e1 => ?_)
  rw [he]
  have hw : VlR st1 (vMap f) (cellsV { scZ with kind := 7 } .nilSlice .nilSlice u) := by
    unfold vMap VlR
    exact ⟨_, _, _, [], xf, rfl, .of_rd (.inl ⟨rfl, rfl, rfl⟩), .of_rd (.inl ⟨rfl, rfl, rfl⟩), by unfold VsR; rfl, hu.keep e1.keeps, FsR.keep e1.keeps hv⟩
  exact BIf_intro (fun g => absurd rfl g) fun _ => need_intro (by simp [hu.one]) (copied_ok 2000000 _ (by omega) (by omega) hw (by omega) (by omega) fun ub ul uf st' fp g o1 o2 o3 nd lo e => need_intro (one13 o1 o2 o3) (hk ub ul uf st' g.rd o1 o2 o3 (e1.trans e)))
end Go.TVF
end

section
namespace Go.TVF
open Go Go.Proofs
set_option linter.unusedVariables false
set_option linter.unusedSimpArgs false
theorem VsR.cons {st : St} {v : Vl} {l : List Vl} {a b : List TV} (h : VlR st v a) (k : VsR st l b) : VsR st (v :: l) (a ++ b) := by
  unfold VsR; exact ⟨a, b, rfl, h, k⟩
theorem VsR.nil (st : St) : VsR st [] [] := by unfold VsR; rfl
theorem FsR.cons {st : St} {v : Fd} {l : List Fd} {a b : List TV} (h : FdR st v a) (k : FsR st l b) : FsR st (v :: l) (a ++ b) := by
  unfold FsR; exact ⟨a, b, rfl, h, k⟩
theorem FsR.nil (st : St) : FsR st [] [] := by unfold FsR; rfl
theorem u8_nil : U8 [] := by unfold U8; rw [vlen_zero _ (by simp [ul])]; rfl
theorem valid_int {c : UInt8} (h : DecOk false [c] 0) : Valid (vInt c) := by
  unfold vInt Valid
  exact ⟨⟨⟨by simp, by simp, by simp [scZ], by simp, by simp [scZ], by simp [scZ], by simp [scZ], by simp, by simp⟩, h, by simp, u8_nil, by simp [scZ], by simp [scZ], rfl⟩, by unfold Valids; trivial, by unfold Validf; trivial⟩
theorem valid_text {s : List UInt8} (h : U8 s) (hl : s.length ≤ 65536) : Valid (vText s) := by
  unfold vText Valid
  exact ⟨⟨⟨by simp, by simp, by simp [scZ], by simp [scZ], by simp [scZ], by simp, by simp [scZ], by simp, by simp⟩, by constructor <;> simp [scZ], by simp, h, hl, by simp [scZ], rfl⟩, by unfold Valids; trivial, by unfold Validf; trivial⟩
theorem valid_list {l : List Vl} (h : Valids l) : Valid (vList l) := by
  unfold vList Valid
  exact ⟨⟨⟨by simp, by simp, by simp [scZ], by simp [scZ], by simp [scZ], by simp [scZ], by simp [scZ], by simp, by simp⟩, by constructor <;> simp [scZ], by simp, u8_nil, by simp [scZ], by simp [scZ], rfl⟩, h, by unfold Validf; trivial⟩
theorem cmp_kind {N : Nat} {s t : Sc} {l m : List Vl} {f g : List Fd} (h : s.kind ≠ t.kind) : cmpN (N + 1) (.mk s l f) (.mk t m g) = sgn s.kind t.kind := by
  rw [cmpN, if_pos h]
theorem cmp_list (N : Nat) (l m : List Vl) : cmpN (N + 1) (vList l) (vList m) = cmpL (cmpN N) l m := by
  unfold vList
  rw [cmpN]; simp
theorem cmp_int (N : Nat) (c d : UInt8) : cmpN (N + 1) (vInt c) (vInt d) = decC false [c] 0 false [d] 0 := by
  unfold vInt
  rw [cmpN]; simp [scZ]
theorem dec49 : DecOk false [49] 0 := by decide
theorem dec50 : DecOk false [50] 0 := by decide
theorem sz_int (c : UInt8) : (vInt c).sz = 2 := by unfold vInt Vl.sz vsSz fsSz; simp [scZ]
theorem cnt_int (c : UInt8) : (vInt c).cnt = 1 := by unfold vInt Vl.cnt vsCnt fsCnt; rfl
theorem u8_97 : U8 [97] := by
  unfold U8
  rw [vlen_step _ (by decide), show ul [97] = 1 from by decide]
  show 1 + vlen [] = 1
  rw [vlen_zero _ (by simp [ul])]
theorem u8_49 : U8 [49] := by
  unfold U8
  rw [vlen_step _ (by decide), show ul [49] = 1 from by decide]
  show 1 + vlen [] = 1
  rw [vlen_zero _ (by simp [ul])]
theorem lives_ok {st : St} {K : Bool → St → Prop} (hk : ∀ st', StExt st st' → K true st') : CallT PR fn_datakitlaw07_lives [] [.one .bool] st K := by
  have li : ∀ (st : St) (c : UInt8), VlR st (vInt c) (cellsV { scZ with kind := 2, dg := [c] } .nilSlice .nilSlice .nilSlice) := fun st c => vl_leaf st _ rfl
  have hzL : vsSz [vInt 49, vInt 50] = 4 := by simp only [vsSz, sz_int]
  have hcL : vsCnt [vInt 49, vInt 50] = 2 := by simp only [vsCnt, cnt_int]
  have hzM : vsSz [vInt 49] = 2 := by simp only [vsSz, sz_int]
  have hcM : vsCnt [vInt 49] = 1 := by simp only [vsCnt, cnt_int]
  have hL : (vList [vInt 49, vInt 50]).sz = 5 := by unfold vList; rw [Vl.sz, hzL]; unfold fsSz; simp [scZ]
  have hLc : (vList [vInt 49, vInt 50]).cnt = 3 := by unfold vList; rw [Vl.cnt, hcL]; unfold fsCnt; rfl
  have hMz : (vList [vInt 49]).sz = 3 := by unfold vList; rw [Vl.sz, hzM]; unfold fsSz; simp [scZ]
  have vL : Valid (vList [vInt 49, vInt 50]) := valid_list (by unfold Valids; exact ⟨valid_int dec49, by unfold Valids; exact ⟨valid_int dec50, by unfold Valids; trivial⟩⟩)
  have vM : Valid (vList [vInt 49]) := valid_list (by unfold Valids; exact ⟨valid_int dec49, by unfold Valids; trivial⟩)
  refine vc_datakitlaw07_lives st K (Int1_ok (c := 49) (by omega) (by omega) (by decide) (by decide) fun st1 e1 => Int1_ok (c := 50) (by omega) (by omega) (by decide) (by decide) fun st2 e2 => ?_)
  have hxs := VsR.cons (li st2 49) (VsR.cons (li st2 50) (.nil st2))
  refine List_ok (l := [vInt 49, vInt 50]) (by omega) (by omega) (.of_rd (.inr ⟨.full, rfl⟩)) hxs fun ub ul uf st3 hl o1 o2 o3 e3 => need_intro (one13 o1 o2 o3) ?_
  have hfs : FsR st3 [.mk str1 (vList [vInt 49, vInt 50])] ((.str str1 :: cellsV { scZ with kind := 6 } ub ul uf) ++ []) := FsR.cons (by unfold FdR; exact ⟨_, rfl, hl⟩) (.nil _)
  have hsF : fsSz [.mk str1 (vList [vInt 49, vInt 50])] = 6 := by unfold fsSz fsSz; rw [szd, hL]; rfl
  have hcF : fsCnt [.mk str1 (vList [vInt 49, vInt 50])] = 3 := by unfold fsCnt fsCnt; unfold Fd.cnt; rw [hLc]
  have hkE : keysE [] [.mk str1 (vList [vInt 49, vInt 50])] = 0 := by
    unfold keysE
    rw [if_pos (show U8 (Fd.mk str1 (vList [vInt 49, vInt 50])).key from u8_97), if_neg (show ¬ 1024 < (Fd.mk str1 (vList [vInt 49, vInt 50])).key.length from by decide), if_neg (by simp)]; rfl
  refine Map_ok (f := [.mk str1 (vList [vInt 49, vInt 50])]) (by omega) (by omega) hkE (.of_rd (.inr ⟨.full, rfl⟩)) hfs fun vb vl vf st4 hm p1 p2 p3 e4 => need_intro (one13 p1 p2 p3) (BIf_intro (fun _ => ?_) fun g => absurd rfl g)
  refine Int1_ok (c := 50) (by omega) (by omega) (by decide) (by decide) fun st5 e5 => vc_value_Text _ st5 _ ?_
  refine Cmp_ok (v := vInt 50) (w := vText str2) (by rw [sz_int]; omega) (by unfold vText Vl.sz vsSz fsSz; simp [scZ, str2]) (valid_int dec50) (valid_text u8_49 (by decide)) (by rw [cnt_int]; omega) (li st5 50) (vl_leaf st5 _ rfl) (Keeps.refl _) fun st6 e6 => ?_
  rw [show cmpN 2000000 (vInt 50) (vText str2) = -1 from cmp_kind (N := 1999999) (by simp)]
  refine BIf_intro (fun _ => Int1_ok (c := 49) (by omega) (by omega) (by decide) (by decide) fun st7 e7 => ?_) fun g => absurd rfl g
  refine List_ok (l := [vInt 49]) (by omega) (by omega) (.of_rd (.inr ⟨.full, rfl⟩)) (VsR.cons (li st7 49) (.nil st7)) fun xb xl xf st8 hl8 q1 q2 q3 e8 => ?_
  have e38 := ((e4.trans e5).trans e6).trans (e7.trans e8)
  refine Cmp_ok (v := vList [vInt 49, vInt 50]) (w := vList [vInt 49]) (by omega) (by omega) vL vM (by omega) (VlR.keep e38.keeps hl) hl8 (Keeps.refl _) fun st9 e9 => ?_
  rw [show cmpN 2000000 (vList [vInt 49, vInt 50]) (vList [vInt 49]) = 1 from by
    rw [show (2000000 : Nat) = 1999998 + 1 + 1 from rfl, cmp_list]
    unfold cmpL
    rw [cmp_int, show decC false [49] 0 false [49] 0 = 0 from by decide, thenC_zero rfl]; rfl]
  refine BIf_intro (fun _ => ?_) fun g => absurd rfl g
  have e49 := ((e5.trans e6).trans (e7.trans e8)).trans e9
  have hMs : (vMap [.mk str1 (vList [vInt 49, vInt 50])]).sz = 7 := by unfold vMap; rw [Vl.sz, hsF]; unfold vsSz; simp [scZ]
  have hMc : (vMap [.mk str1 (vList [vInt 49, vInt 50])]).cnt = 4 := by unfold vMap; rw [Vl.cnt, hcF]; unfold vsCnt; rfl
  have hMd : depV (vMap [.mk str1 (vList [vInt 49, vInt 50])]) = 3 := by
    simp [vMap, vList, vInt, depV, depVs, depFs, depD]
  refine Size_ok (v := vMap [.mk str1 (vList [vInt 49, vInt 50])]) (by omega) (by omega) hm e49.keeps fun st10 e10 => ?_
  rw [hMc]
  refine BIf_intro (fun _ => Depth_ok (v := vMap [.mk str1 (vList [vInt 49, vInt 50])]) (by omega) (by omega) hm (e49.trans e10).keeps fun st11 e11 => ?_) fun g => absurd rfl g
  rw [hMd]
  refine BIf_intro (fun _ => ?_) fun g => absurd rfl g
  refine vc_value_Name 5 st11 _ (BIf_intro (fun g => absurd g (by decide)) fun _ => BIf_intro (fun g => absurd g (by decide)) fun _ => ⟨⟨by decide, by decide⟩, optK_intro (x := .str str3) rfl (decT_str ?_)⟩)
  rw [decide_eq_true rfl]
  exact hk st11 ((((((e1.trans e2).trans e3).trans e4).trans e49).trans e10).trans e11)
/-- fit. -/
theorem fit_ok {v : Vl} (hN : v.sz ≤ 2000000) {st0 st : St} {cs : List TV} {K : Bool → St → Prop} (h : VlR st0 v cs) (hke : Keeps st0 st) (hk : ∀ b st', StExt st st' → (b = true → Valid v ∧ v.cnt ≤ 65536) → K b st') :
    CallT PR fn_datakitlaw07_fit [.agg cs] [.one .bool] st K := by
  have h0 := h
  cases v
  obtain ⟨_, _, _, _, _, rfl, _⟩ := h.cells
  refine vc_datakitlaw07_fit _ _ _ _ _ _ _ _ _ _ _ _ _ st K (Small_ok hN h0 hke fun b => BIf_bool (fun _ => rCheck_ok hN h0 hke fun st1 e1 => ?_) fun _ => hk _ st (StExt.refl _) fun h => by cases h)
  refine hk _ st1 e1 fun hd => ?_
  have : checkV _ = 0 := Int.ofNat.inj (by simpa using hd)
  exact ⟨check_valid this, check_cnt this⟩
end Go.TVF
end

section
namespace Go.TVF
open Go Go.Proofs
set_option linter.unusedVariables false
set_option linter.unusedSimpArgs false
theorem KeysNd.perm {f g : List Fd} (h : KeysNd f) (p : f.Perm g) : KeysNd g := by
  unfold KeysNd at *
  exact (p.map Fd.key).nodup_iff.1 h
theorem KeysNd.sortFs {f : List Fd} (h : KeysNd f) : KeysNd (sortFs f) := by
  unfold KeysNd at *
  rw [sortFs_map, List.map_map]
  have : Fd.key ∘ sortD = Fd.key := funext fun d => sortD_key d
  rw [this]; exact h
theorem beq_of_iff {b c : Bool} {p : Prop} (hb : b = true ↔ p) (hc : c = true ↔ p) : b = c := by
  cases b <;> cases c <;> simp_all
end Go.TVF
end

section
namespace Go.TVF
open Go Go.Proofs
set_option linter.unusedVariables false
set_option linter.unusedSimpArgs false
/-- A comparison is a total order (up to what compares as alike), where P holds. -/
structure Pre {α : Type} (P : α → Prop) (c : α → α → Int) : Prop where
  anti : ∀ x y, P x → P y → c y x = - c x y
  trans : ∀ x y z, P x → P y → P z → c x y ≤ 0 → c y z ≤ 0 → c x z ≤ 0
theorem Pre.lt {α : Type} {P : α → Prop} {c : α → α → Int} (h : Pre P c) {x y z : α} (hx : P x) (hy : P y) (hz : P z) (h1 : c x y ≤ 0) (h2 : c y z ≤ 0) (h3 : c x y ≠ 0 ∨ c y z ≠ 0) : c x z ≠ 0 := by
  intro h0
  have a1 := h.anti x y hx hy
  have a2 := h.anti y z hy hz
  have a3 := h.anti x z hx hz
  have t1 := h.trans z x y hz hx hy (by omega) h1
  have t2 := h.trans y z x hy hz hx h2 (by omega)
  omega
theorem Pre.mono {α : Type} {P Q : α → Prop} {c : α → α → Int} (h : Pre P c) (k : ∀ x, Q x → P x) : Pre Q c :=
  ⟨fun x y hx hy => h.anti x y (k x hx) (k y hy), fun x y z hx hy hz => h.trans x y z (k x hx) (k y hy) (k z hz)⟩
theorem Pre.congr {α : Type} {P : α → Prop} {c d : α → α → Int} (h : Pre P c) (e : ∀ x y, P x → P y → d x y = c x y) : Pre P d :=
  ⟨fun x y hx hy => by rw [e x y hx hy, e y x hy hx]; exact h.anti x y hx hy, fun x y z hx hy hz h1 h2 => by rw [e x y hx hy] at h1; rw [e y z hy hz] at h2; rw [e x z hx hz]; exact h.trans x y z hx hy hz h1 h2⟩
theorem Pre.on {α β : Type} {P : α → Prop} {Q : β → Prop} {c : α → α → Int} (h : Pre P c) (g : β → α) (k : ∀ x, Q x → P (g x)) : Pre Q fun x y => c (g x) (g y) :=
  ⟨fun x y hx hy => h.anti _ _ (k x hx) (k y hy), fun x y z hx hy hz => h.trans _ _ _ (k x hx) (k y hy) (k z hz)⟩
theorem Pre.rev {α : Type} {P : α → Prop} {c : α → α → Int} (h : Pre P c) : Pre P fun x y => c y x :=
  ⟨fun x y hx hy => h.anti y x hy hx, fun x y z hx hy hz h1 h2 => h.trans z y x hz hy hx h2 h1⟩
theorem sgn_tri (x y : Int) : (x < y ∧ sgn x y = -1) ∨ (x = y ∧ sgn x y = 0) ∨ (y < x ∧ sgn x y = 1) := by
  unfold sgn
  by_cases h : x < y
  · exact .inl ⟨h, if_pos h⟩
  · by_cases h2 : y < x
    · exact .inr (.inr ⟨h2, by rw [if_neg h, if_pos h2]⟩)
    · exact .inr (.inl ⟨by omega, by rw [if_neg h, if_neg h2]⟩)
theorem sgn_zero {x y : Int} : sgn x y = 0 ↔ x = y := by
  rcases sgn_tri x y with ⟨h, e⟩ | ⟨h, e⟩ | ⟨h, e⟩ <;> rw [e] <;> omega
theorem pre_sgn : Pre (fun _ => True) sgn :=
  ⟨fun x y _ _ => by rcases sgn_tri x y with ⟨h, e⟩ | ⟨h, e⟩ | ⟨h, e⟩ <;> rcases sgn_tri y x with ⟨k, q⟩ | ⟨k, q⟩ | ⟨k, q⟩ <;> rw [e, q] <;> omega, fun x y z _ _ _ h1 h2 => by
    rcases sgn_tri x y with ⟨h, e⟩ | ⟨h, e⟩ | ⟨h, e⟩ <;> rcases sgn_tri y z with ⟨k, q⟩ | ⟨k, q⟩ | ⟨k, q⟩ <;> rcases sgn_tri x z with ⟨j, r⟩ | ⟨j, r⟩ | ⟨j, r⟩ <;> omega⟩
/-- By one thing first, then, among those alike in it, by a comparison that may depend on it. -/
theorem Pre.fib {α : Type} {P : α → Prop} (f : α → Int) {c : Int → α → α → Int} (h : ∀ k, Pre (fun x => P x ∧ f x = k) (c k)) : Pre P fun x y => thenC (sgn (f x) (f y)) (c (f x) x y) := by
  constructor
  · intro x y hx hy
    rcases sgn_tri (f x) (f y) with ⟨k, e⟩ | ⟨k, e⟩ | ⟨k, e⟩
    · have : sgn (f y) (f x) = 1 := by rcases sgn_tri (f y) (f x) with ⟨j, r⟩ | ⟨j, r⟩ | ⟨j, r⟩ <;> omega
      simp only [e, this, thenC_pos (show (1 : Int) ≠ 0 by omega), thenC_pos (show (-1 : Int) ≠ 0 by omega)]
      omega
    · simp only [k, sgn_self, thenC_zero]
      exact (h (f y)).anti x y ⟨hx, k⟩ ⟨hy, rfl⟩
    · have : sgn (f y) (f x) = -1 := by rcases sgn_tri (f y) (f x) with ⟨j, r⟩ | ⟨j, r⟩ | ⟨j, r⟩ <;> omega
      simp only [e, this, thenC_pos (show (1 : Int) ≠ 0 by omega), thenC_pos (show (-1 : Int) ≠ 0 by omega)]
  · intro x y z hx hy hz h1 h2
    rcases sgn_tri (f x) (f y) with ⟨k, e⟩ | ⟨k, e⟩ | ⟨k, e⟩
    · rcases sgn_tri (f y) (f z) with ⟨j, r⟩ | ⟨j, r⟩ | ⟨j, r⟩
      · have : sgn (f x) (f z) = -1 := by rcases sgn_tri (f x) (f z) with ⟨j', r'⟩ | ⟨j', r'⟩ | ⟨j', r'⟩ <;> omega
        rw [this, thenC_pos (by omega)]; omega
      · have : sgn (f x) (f z) = -1 := by rcases sgn_tri (f x) (f z) with ⟨j', r'⟩ | ⟨j', r'⟩ | ⟨j', r'⟩ <;> omega
        rw [this, thenC_pos (by omega)]; omega
      · rw [r, thenC_pos (by omega)] at h2; omega
    · rcases sgn_tri (f y) (f z) with ⟨j, r⟩ | ⟨j, r⟩ | ⟨j, r⟩
      · have : sgn (f x) (f z) = -1 := by rcases sgn_tri (f x) (f z) with ⟨j', r'⟩ | ⟨j', r'⟩ | ⟨j', r'⟩ <;> omega
        rw [this, thenC_pos (by omega)]; omega
      · have hxz : f x = f z := by omega
        rw [e, thenC_zero rfl] at h1
        rw [r, thenC_zero rfl, ← k] at h2
        rw [hxz, sgn_self, thenC_zero rfl, ← hxz]
        exact (h (f x)).trans x y z ⟨hx, rfl⟩ ⟨hy, k.symm⟩ ⟨hz, hxz.symm⟩ h1 h2
      · rw [r, thenC_pos (by omega)] at h2; omega
    · rw [e, thenC_pos (by omega)] at h1; omega
theorem thenC_le {a a' b b' c c' : Int} (t : a ≤ 0 → b ≤ 0 → c ≤ 0) (s : a ≤ 0 → b ≤ 0 → a ≠ 0 ∨ b ≠ 0 → c ≠ 0) (t' : a = 0 → b = 0 → a' ≤ 0 → b' ≤ 0 → c' ≤ 0) (z : a = 0 → b = 0 → c = 0) (h1 : thenC a a' ≤ 0) (h2 : thenC b b' ≤ 0) : thenC c c' ≤ 0 := by
  unfold thenC at *
  split at h1 <;> split at h2 <;> split <;> omega
theorem Pre.zero {α : Type} {P : α → Prop} {c : α → α → Int} (h : Pre P c) {x y z : α} (hx : P x) (hy : P y) (hz : P z) (h1 : c x y = 0) (h2 : c y z = 0) : c x z = 0 := by
  have a1 := h.anti x y hx hy
  have a2 := h.anti y z hy hz
  have a3 := h.anti x z hx hz
  have t1 := h.trans x y z hx hy hz (by omega) (by omega)
  have t2 := h.trans z y x hz hy hx (by omega) (by omega)
  omega
theorem thenC_neg {a a' b b' : Int} (h : b = -a) (h' : b' = -a') : thenC b b' = - thenC a a' := by
  unfold thenC
  split <;> split <;> omega
theorem Pre.then {α : Type} {P : α → Prop} {c d : α → α → Int} (h : Pre P c) (k : Pre P d) : Pre P fun x y => thenC (c x y) (d x y) :=
  ⟨fun x y hx hy => thenC_neg (h.anti x y hx hy) (k.anti x y hx hy), fun x y z hx hy hz h1 h2 => thenC_le (h.trans x y z hx hy hz) (h.lt hx hy hz) (fun _ _ => k.trans x y z hx hy hz) (h.zero hx hy hz) h1 h2⟩
theorem Pre.list {α : Type} {P : α → Prop} {c : α → α → Int} (h : Pre P c) : Pre (fun l : List α => ∀ x, x ∈ l → P x) (cmpL c) := by
  constructor
  · intro l
    induction l with
    | nil => intro m _ _; cases m <;> rfl
    | cons a l ih =>
      intro m hl hm
      cases m with
      | nil => rfl
      | cons b m => exact thenC_neg (h.anti a b (hl a (.head _)) (hm b (.head _))) (ih m (fun x hx => hl x (.tail _ hx)) fun x hx => hm x (.tail _ hx))
  · intro l
    induction l with
    | nil => intro m n _ _ _ _ _; cases n <;> simp [cmpL]
    | cons a l ih =>
      intro m n hl hm hn h1 h2
      cases m with
      | nil => simp [cmpL] at h1
      | cons b m =>
        cases n with
        | nil => simp [cmpL] at h2
        | cons d n =>
          have pa := hl a (.head _)
          have pb := hm b (.head _)
          have pd := hn d (.head _)
          exact thenC_le (h.trans a b d pa pb pd) (h.lt pa pb pd) (fun _ _ => ih m n (fun x hx => hl x (.tail _ hx)) (fun x hx => hm x (.tail _ hx)) fun x hx => hn x (.tail _ hx)) (h.zero pa pb pd) h1 h2
theorem lexL : ∀ a b : List UInt8, lexC a b = cmpL (fun x y => sgn (x.toNat : Int) (y.toNat : Int)) a b
  | [], [] => rfl
  | [], _ :: _ => rfl
  | _ :: _, [] => rfl
  | x :: a, y :: b => by
    have := lexL a b
    unfold lexC at *
    rw [Lib.compareBytes, cmpL, this]
    have e1 : (x < y) ↔ (x.toNat : Int) < (y.toNat : Int) := by rw [UInt8.lt_iff_toNat_lt]; omega
    have e2 : (y < x) ↔ (y.toNat : Int) < (x.toNat : Int) := by rw [UInt8.lt_iff_toNat_lt]; omega
    simp only [e1, e2]
    rcases sgn_tri (x.toNat : Int) (y.toNat : Int) with ⟨h, e⟩ | ⟨h, e⟩ | ⟨h, e⟩
    · rw [e, if_pos h]; rfl
    · rw [e, if_neg (by omega), if_neg (by omega)]; rfl
    · rw [e, if_neg (by omega), if_pos h]; rfl
theorem pre_lex : Pre (fun _ => True) lexC :=
  ((pre_sgn.on (Q := fun _ => True) (fun x : UInt8 => (x.toNat : Int)) fun _ _ => trivial).list.mono fun _ _ _ _ => trivial).congr fun x y _ _ => lexL x y
theorem cmpL_zero {α γ : Type} {c : α → α → Int} {g : α → γ} : ∀ {l m : List α}, (∀ a b, a ∈ l → b ∈ m → (c a b = 0 ↔ g a = g b)) → (cmpL c l m = 0 ↔ l.map g = m.map g)
  | [], [], _ => by simp [cmpL]
  | [], _ :: _, _ => by simp [cmpL]
  | _ :: _, [], _ => by simp [cmpL]
  | a :: l, b :: m, h => by
    have ih := cmpL_zero (l := l) (m := m) fun x y hx hy => h x y (.tail _ hx) (.tail _ hy)
    have h0 := h a b (.head _) (.head _)
    rw [cmpL, List.map_cons, List.map_cons, List.cons.injEq, ← h0, ← ih]
    unfold thenC
    split <;> omega
theorem lex_zero {a b : List UInt8} : lexC a b = 0 ↔ a = b := by
  rw [lexL, cmpL_zero (g := fun x : UInt8 => x) (fun x y _ _ => by rw [sgn_zero]; exact ⟨fun h => UInt8.toNat.inj (by omega), fun h => by rw [h]⟩)]
  simp
theorem thenC_eq0 {x y : Int} : thenC x y = 0 ↔ x = 0 ∧ y = 0 := by unfold thenC; split <;> omega
theorem cmpL_app {α : Type} {c : α → α → Int} {s t : List α} : ∀ {a b : List α}, a.length = b.length → cmpL c (a ++ s) (b ++ t) = thenC (cmpL c a b) (cmpL c s t)
  | [], [], _ => rfl
  | x :: a, y :: b, h => by
    have := cmpL_app (c := c) (s := s) (t := t) (a := a) (b := b) (by simpa using h)
    simp only [List.cons_append, cmpL, this]
    unfold thenC; split <;> simp_all
theorem lex_app {a b s : List UInt8} (h : a.length = b.length) : lexC (a ++ s) (b ++ s) = lexC a b := by
  rw [lexL, cmpL_app h, ← lexL, ← lexL, lex_zero.2 rfl]
  unfold thenC; split <;> simp_all
def expE (a : List UInt8) (x : Int) : Int := if a = [] then -100000 else a.length + x
def padK (a : List UInt8) : List UInt8 := a ++ zs (120 - a.length)
/-- What is asked of digits and an exponent. -/
def DgOk (p : List UInt8 × Int) : Prop := p.1.length ≤ 120 ∧ -10000 ≤ p.2
theorem decS_key {a b : List UInt8} {x y : Int} (ha : DgOk (a, x)) (hb : DgOk (b, y)) : decS a x b y = thenC (sgn (expE a x) (expE b y)) (lexC (padK a) (padK b)) := by
  unfold DgOk at ha hb
  simp only at ha hb
  unfold decS expE
  by_cases h1 : a = []
  · subst h1
    rw [if_pos rfl, if_pos rfl]
    unfold numC
    by_cases h2 : b = []
    · subst h2
      have e0 : lexC (padK []) (padK []) = 0 := lex_zero.2 rfl
      rw [if_pos rfl, sgn_self, thenC_zero rfl, e0]
      rfl
    · have : 0 < b.length := List.length_pos_iff.2 h2
      rw [if_neg h2, if_pos (by simpa using this)]
      have : sgn (-100000) ((b.length : Int) + y) = -1 := by unfold sgn; rw [if_pos (by omega)]
      rw [this]; rfl
  · have ha1 : 0 < a.length := List.length_pos_iff.2 h1
    rw [if_neg h1, if_neg h1]
    by_cases h2 : b = []
    · subst h2
      rw [if_pos rfl, if_pos rfl]
      unfold numC
      rw [if_neg (by simp), if_pos (by simpa using ha1)]
      have : sgn ((a.length : Int) + x) (-100000) = 1 := by unfold sgn; rw [if_neg (by omega), if_pos (by omega)]
      rw [this]; rfl
    · rw [if_neg h2, if_neg h2]
      rcases sgn_tri ((a.length : Int) + x) ((b.length : Int) + y) with ⟨h, e⟩ | ⟨h, e⟩ | ⟨h, e⟩
      · rw [if_pos h, e]; rfl
      · rw [if_neg (by omega), if_neg (by omega), e, thenC_zero rfl]
        have ea : padK a = (a ++ zs (b.length - a.length)) ++ zs (120 - max a.length b.length) := by
          unfold padK zs; rw [List.append_assoc, List.replicate_append_replicate]; congr 2; omega
        have eb : padK b = (b ++ zs (a.length - b.length)) ++ zs (120 - max a.length b.length) := by
          unfold padK zs; rw [List.append_assoc, List.replicate_append_replicate]; congr 2; omega
        rw [ea, eb, lex_app (by simp only [List.length_append, zs_len]; omega)]
      · rw [if_neg (by omega), if_pos h, e]; rfl
theorem pre_decS : Pre DgOk fun p q => decS p.1 p.2 q.1 q.2 :=
  (((pre_sgn.on (Q := DgOk) (fun p : List UInt8 × Int => expE p.1 p.2) fun _ _ => trivial).then (pre_lex.on (Q := DgOk) (fun p : List UInt8 × Int => padK p.1) fun _ _ => trivial))).congr fun p q hp hq => decS_key hp hq
def flagI (b : Bool) : Int := if b then 0 else 1
theorem pre_decC : Pre (fun p : Bool × List UInt8 × Int => DgOk p.2) fun p q => decC p.1 p.2.1 p.2.2 q.1 q.2.1 q.2.2 := by
  have d := pre_decS.on (Q := fun p : Bool × List UInt8 × Int => DgOk p.2) (fun p => p.2) fun _ h => h
  have := Pre.fib (P := fun p : Bool × List UInt8 × Int => DgOk p.2) (fun p => flagI p.1) (c := fun k p q => if k = 0 then decS q.2.1 q.2.2 p.2.1 p.2.2 else decS p.2.1 p.2.2 q.2.1 q.2.2) fun k => by
    by_cases hk : k = 0
    · simp only [if_pos hk]
      exact d.rev.mono fun _ h => h.1
    · simp only [if_neg hk]
      exact d.mono fun _ h => h.1
  refine this.congr fun p q hp hq => ?_
  obtain ⟨n, p⟩ := p
  obtain ⟨m, q⟩ := q
  unfold decC flagI
  cases n <;> cases m <;> simp [sgn, thenC]
theorem dec_dg {neg : Bool} {a : List UInt8} {x : Int} (h : DecOk neg a x) : DgOk (a, x) := by
  unfold DgOk
  by_cases h1 : a = []
  · subst h1; have := (h.1 rfl).2; simp only at *; exact ⟨by simp, by omega⟩
  · have := h.2 h1; simp only; exact ⟨this.1, by omega⟩
theorem no_zeros {b : List UInt8} (n : Nat) (a : List UInt8) (h : zerosN b = 0) (e : b = a ++ zs n) : n = 0 := by
  cases n with
  | zero => rfl
  | succ n =>
    exfalso
    subst e
    unfold zerosN zs at h
    rw [List.reverse_append, List.reverse_replicate] at h
    simp [List.replicate_succ] at h
theorem decS_zero {na nb : Bool} {a b : List UInt8} {x y : Int} (ha : DecOk na a x) (hb : DecOk nb b y) : decS a x b y = 0 ↔ a = b ∧ x = y := by
  constructor
  · intro h
    rw [decS_key (dec_dg ha) (dec_dg hb), thenC_eq0, sgn_zero, lex_zero] at h
    obtain ⟨h1, h2⟩ := h
    unfold expE at h1
    by_cases e1 : a = []
    · by_cases e2 : b = []
      · subst e1 e2
        exact ⟨rfl, by rw [(ha.1 rfl).2, (hb.1 rfl).2]⟩
      · rw [if_pos e1, if_neg e2] at h1
        have := (hb.2 e2)
        omega
    · have da := ha.2 e1
      by_cases e2 : b = []
      · rw [if_neg e1, if_pos e2] at h1
        omega
      · have db := hb.2 e2
        rw [if_neg e1, if_neg e2] at h1
        unfold padK at h2
        have hlen : a.length = b.length := by
          by_cases hl : a.length < b.length
          · have : b = a ++ zs (b.length - a.length) := by
              have h3 := congrArg (List.take b.length) h2
              rw [List.take_left] at h3
              exact h3.symm.trans (by
                rw [List.take_append, List.take_of_length_le (show a.length ≤ b.length by omega)]
                congr 1
                unfold zs
                rw [List.take_replicate]; congr 1; omega)
            have := no_zeros _ _ db.2.2.2.1 this
            omega
          · by_cases hl2 : b.length < a.length
            · have : a = b ++ zs (a.length - b.length) := by
                have h3 := congrArg (List.take a.length) h2
                rw [List.take_left] at h3
                exact h3.trans (by
                  rw [List.take_append, List.take_of_length_le (show b.length ≤ a.length by omega)]
                  congr 1
                  unfold zs
                  rw [List.take_replicate]; congr 1; omega)
              have := no_zeros _ _ da.2.2.2.1 this
              omega
            · omega
        refine ⟨List.append_inj_left h2 hlen, by omega⟩
  · rintro ⟨rfl, rfl⟩
    rw [decS_key (dec_dg ha) (dec_dg hb), sgn_self, thenC_zero rfl, lex_zero]
theorem decC_zero {na nb : Bool} {a b : List UInt8} {x y : Int} (ha : DecOk na a x) (hb : DecOk nb b y) : decC na a x nb b y = 0 ↔ na = nb ∧ a = b ∧ x = y := by
  unfold decC
  cases na <;> cases nb <;> simp only [if_true, if_false, Bool.false_eq_true, true_and, false_and, iff_false]
  · exact decS_zero ha hb
  · simp
  · simp
  · rw [decS_zero hb ha]; exact ⟨fun h => ⟨h.1.symm, h.2.symm⟩, fun h => ⟨h.1.symm, h.2.symm⟩⟩
theorem pre_timC : Pre (fun _ => True) fun p q : Int × Int × Int × Int => timC p.1 p.2.1 p.2.2.1 p.2.2.2 q.1 q.2.1 q.2.2.1 q.2.2.2 := by
  have s : ∀ f : Int × Int × Int × Int → Int, Pre (fun _ => True) fun p q => sgn (f p) (f q) := fun f => pre_sgn.on f fun _ _ => trivial
  exact (s fun p => p.1).then ((s fun p => momD p.2.1 p.2.2.1 p.2.2.2).then ((s fun p => momN p.2.2.1 p.2.2.2).then (s fun p => p.2.2.2)))
theorem timC_zero {k d n z k' d' n' z' : Int} (h : TimeOk k d n z) (h' : TimeOk k' d' n' z') : timC k d n z k' d' n' z' = 0 ↔ k = k' ∧ d = d' ∧ n = n' ∧ z = z' := by
  unfold timC
  rw [thenC_eq0, thenC_eq0, thenC_eq0, sgn_zero, sgn_zero, sgn_zero, sgn_zero]
  unfold momD momN
  constructor
  · rintro ⟨rfl, h1, h2, rfl⟩
    have q1 := h.2.2.2.2.1
    have q2 := h.2.2.2.2.2.1
    have q3 := h'.2.2.2.2.1
    have q4 := h'.2.2.2.2.2.1
    have : n = n' := by omega
    subst this
    exact ⟨rfl, by omega, rfl, rfl⟩
  · rintro ⟨rfl, rfl, rfl, rfl⟩
    exact ⟨rfl, rfl, rfl, rfl⟩
end Go.TVF
end

section
namespace Go.TVF
open Go Go.Proofs
set_option linter.unusedVariables false
set_option linter.unusedSimpArgs false
def Vl.ls : Vl → List Vl
  | .mk _ l _ => l
def Vl.fs : Vl → List Fd
  | .mk _ _ f => f
/-- The comparison among values of one kind. -/
def fibC (n : Nat) (k : Int) (v w : Vl) : Int :=
  if k = 1 then (if v.sc.b then 1 else 0) - (if w.sc.b then 1 else 0)
  else if k = 2 then decC v.sc.neg v.sc.dg v.sc.ex w.sc.neg w.sc.dg w.sc.ex else if k = 3 then timC v.sc.tk v.sc.td v.sc.tn v.sc.tz w.sc.tk w.sc.td w.sc.tn w.sc.tz
  else if k = 4 then lexC v.sc.text w.sc.text else if k = 5 then lexC v.sc.bytes w.sc.bytes else if k = 6 then cmpL (cmpN n) v.ls w.ls
  else if k = 7 then thenC (cmpL keyC (sortFd v.fs) (sortFd w.fs)) (cmpL (fun a b => cmpN n a.val b.val) (sortFd v.fs) (sortFd w.fs)) else 0
theorem cmp_fib (n : Nat) (v w : Vl) : cmpN (n + 1) v w = thenC (sgn v.sc.kind w.sc.kind) (fibC n v.sc.kind v w) := by
  obtain ⟨s, l, f⟩ := v
  obtain ⟨t, m, g⟩ := w
  rw [cmpN]
  show _ = thenC (sgn s.kind t.kind) (fibC n s.kind (.mk s l f) (.mk t m g))
  by_cases h : s.kind = t.kind
  · rw [if_neg (fun g => g h), h, sgn_self, thenC_zero rfl]; rfl
  · rw [if_pos h, thenC_pos (fun e => h (sgn_zero.1 e))]
theorem Valid.mem {v x : Vl} (h : Valid v) (hx : x ∈ v.ls) : Valid x := by
  obtain ⟨s, l, f⟩ := v
  unfold Valid at h
  exact h.2.1.mem hx
theorem Valid.memf {v : Vl} {x : Fd} (h : Valid v) (hx : x ∈ v.fs) : Valid x.val := by
  obtain ⟨s, l, f⟩ := v
  unfold Valid at h
  exact h.2.2.mem hx
theorem sz_mem {v x : Vl} (hx : x ∈ v.ls) : x.sz + 1 ≤ v.sz := by
  obtain ⟨s, l, f⟩ := v
  have := szs s l f
  have := vsSz_mem (l := l) hx
  omega
theorem sz_memf {v : Vl} {x : Fd} (hx : x ∈ v.fs) : x.val.sz + 1 ≤ v.sz := by
  obtain ⟨s, l, f⟩ := v
  have := szs s l f
  have := fsSz_mem (l := f) hx
  obtain ⟨k, y⟩ := x
  rw [szd] at this
  simp only [Fd.val]; omega
theorem Valid.one {v : Vl} (h : Valid v) : OneOk v.sc v.ls v.fs := by
  obtain ⟨s, l, f⟩ := v
  unfold Valid at h
  exact h.1
theorem pre_diff {α : Type} {P : α → Prop} (f : α → Int) : Pre P fun x y => f x - f y := ⟨fun x y _ _ => by omega, fun x y z _ _ _ h1 h2 => by omega⟩
theorem pre_cmp : ∀ N, Pre (fun v : Vl => v.sz ≤ N ∧ Valid v) (cmpN N) := by
  intro N
  induction N with
  | zero => exact ⟨fun v w _ _ => by cases v; cases w; rfl, fun v w z _ _ _ _ _ => by cases v; cases z; exact Int.le_refl _⟩
  | succ N ih =>
    refine (Pre.fib (fun v : Vl => v.sc.kind) (c := fibC N) fun k => ?_).congr fun x y _ _ => cmp_fib N x y
    unfold fibC
    by_cases h1 : k = 1
    · simp only [if_pos h1]; exact pre_diff _
    simp only [if_neg h1]
    by_cases h2 : k = 2
    · simp only [if_pos h2]
      exact pre_decC.on (Q := fun v : Vl => (v.sz ≤ N + 1 ∧ Valid v) ∧ v.sc.kind = k) (fun v : Vl => (v.sc.neg, v.sc.dg, v.sc.ex)) fun v hv => dec_dg hv.1.2.one.dec
    simp only [if_neg h2]
    by_cases h3 : k = 3
    · simp only [if_pos h3]; exact pre_timC.on (fun v : Vl => (v.sc.tk, v.sc.td, v.sc.tn, v.sc.tz)) fun v _ => trivial
    simp only [if_neg h3]
    by_cases h4 : k = 4
    · simp only [if_pos h4]; exact pre_lex.on (fun v : Vl => v.sc.text) fun v _ => trivial
    simp only [if_neg h4]
    by_cases h5 : k = 5
    · simp only [if_pos h5]; exact pre_lex.on (fun v : Vl => v.sc.bytes) fun v _ => trivial
    simp only [if_neg h5]
    by_cases h6 : k = 6
    · simp only [if_pos h6]
      exact ih.list.on (fun v : Vl => v.ls) fun v hv x hx => ⟨by have := sz_mem hx; have := hv.1.1; omega, hv.1.2.mem hx⟩
    simp only [if_neg h6]
    by_cases h7 : k = 7
    · simp only [if_pos h7]
      have p1 : Pre (fun v : Vl => (v.sz ≤ N + 1 ∧ Valid v) ∧ v.sc.kind = k) fun v w => cmpL keyC (sortFd v.fs) (sortFd w.fs) :=
        (pre_lex.on (Q := fun _ => True) Fd.key fun _ _ => trivial).list.on (fun v : Vl => sortFd v.fs) fun v _ x _ => trivial
      have p2 : Pre (fun v : Vl => (v.sz ≤ N + 1 ∧ Valid v) ∧ v.sc.kind = k) fun v w => cmpL (fun a b => cmpN N a.val b.val) (sortFd v.fs) (sortFd w.fs) :=
        (ih.on (Q := fun d : Fd => d.val.sz ≤ N ∧ Valid d.val) Fd.val fun _ h => h).list.on (fun v : Vl => sortFd v.fs) fun v hv x hx => ⟨by have := sz_memf (sort_mem hx); have := hv.1.1; omega, hv.1.2.memf (sort_mem hx)⟩
      exact p1.then p2
    · simp only [if_neg h7]
      exact ⟨fun _ _ _ _ => rfl, fun _ _ _ _ _ _ _ _ => Int.le_refl _⟩
theorem cmpL_bnd {α : Type} {c : α → α → Int} (h : ∀ x y, -1 ≤ c x y ∧ c x y ≤ 1) : ∀ l m, -1 ≤ cmpL c l m ∧ cmpL c l m ≤ 1
  | [], [] => by simp [cmpL]
  | [], _ :: _ => by simp [cmpL]
  | _ :: _, [] => by simp [cmpL]
  | a :: l, b :: m => by
    have := cmpL_bnd h l m
    have := h a b
    rw [cmpL]; unfold thenC; split <;> omega
theorem sgn_bnd (x y : Int) : -1 ≤ sgn x y ∧ sgn x y ≤ 1 := by rcases sgn_tri x y with ⟨_, e⟩ | ⟨_, e⟩ | ⟨_, e⟩ <;> rw [e] <;> omega
theorem thenC_bnd {x y : Int} (h : -1 ≤ x ∧ x ≤ 1) (k : -1 ≤ y ∧ y ≤ 1) : -1 ≤ thenC x y ∧ thenC x y ≤ 1 := by unfold thenC; split <;> omega
theorem lex_bnd (a b : List UInt8) : -1 ≤ lexC a b ∧ lexC a b ≤ 1 := by rw [lexL]; exact cmpL_bnd (fun x y => sgn_bnd _ _) a b
theorem decS_bnd (a : List UInt8) (x : Int) (b : List UInt8) (y : Int) : -1 ≤ decS a x b y ∧ decS a x b y ≤ 1 := by
  have h1 := lex_bnd a b
  have h2 := lex_bnd (a ++ zs (b.length - a.length)) (b ++ zs (a.length - b.length))
  unfold decS numC
  repeat' split
  all_goals omega
theorem cmp_bnd : ∀ N v w, -1 ≤ cmpN N v w ∧ cmpN N v w ≤ 1 := by
  intro N
  induction N with
  | zero => intro v w; cases v; cases w; rw [cmpN]; omega
  | succ N ih =>
    intro v w
    rw [cmp_fib]
    refine thenC_bnd (sgn_bnd _ _) ?_
    unfold fibC
    split
    · split <;> split <;> omega
    split
    · have h1 := decS_bnd v.sc.dg v.sc.ex w.sc.dg w.sc.ex
      have h2 := decS_bnd w.sc.dg w.sc.ex v.sc.dg v.sc.ex
      unfold decC
      repeat' split
      all_goals omega
    split
    · unfold timC
      exact thenC_bnd (sgn_bnd _ _) (thenC_bnd (sgn_bnd _ _) (thenC_bnd (sgn_bnd _ _) (sgn_bnd _ _)))
    split
    · exact lex_bnd _ _
    split
    · exact lex_bnd _ _
    split
    · exact cmpL_bnd ih _ _
    split
    · exact thenC_bnd (cmpL_bnd (fun x y => lex_bnd _ _) _ _) (cmpL_bnd (fun x y => ih _ _) _ _)
    · omega
theorem sc_own {s t : Sc} {l m : List Vl} {f g : List Fd} (hs : OwnOk s l f) (ht : OwnOk t m g) (hk : s.kind = t.kind) (h1 : s.kind = 1 → s.b = t.b) (h2 : s.kind = 2 → s.neg = t.neg ∧ s.dg = t.dg ∧ s.ex = t.ex)
    (h3 : s.kind = 3 → s.tk = t.tk ∧ s.td = t.td ∧ s.tn = t.tn ∧ s.tz = t.tz) (h4 : s.kind = 4 → s.text = t.text) (h5 : s.kind = 5 → s.bytes = t.bytes) : s = t := by
  have n2 : s.neg = t.neg ∧ s.dg = t.dg ∧ s.ex = t.ex := by
    by_cases h : s.kind = 2
    · exact h2 h
    · obtain ⟨a1, a2, a3⟩ := hs.nu h
      obtain ⟨b1, b2, b3⟩ := ht.nu (by rw [← hk]; exact h)
      rw [a1, a2, a3, b1, b2, b3]; exact ⟨rfl, rfl, rfl⟩
  have n3 : s.tk = t.tk ∧ s.td = t.td ∧ s.tn = t.tn ∧ s.tz = t.tz := by
    by_cases h : s.kind = 3
    · exact h3 h
    · obtain ⟨a1, a2, a3, a4⟩ := hs.ti h
      obtain ⟨b1, b2, b3, b4⟩ := ht.ti (by rw [← hk]; exact h)
      rw [a1, a2, a3, a4, b1, b2, b3, b4]; exact ⟨rfl, rfl, rfl, rfl⟩
  refine sc_eq hk ?_ n2.1 n2.2.1 n2.2.2 n3.1 n3.2.1 n3.2.2.1 n3.2.2.2 ?_ ?_
  · by_cases h : s.kind = 1
    · exact h1 h
    · rw [hs.bo h, ht.bo (by rw [← hk]; exact h)]
  · by_cases h : s.kind = 4
    · exact h4 h
    · rw [hs.tx h, ht.tx (by rw [← hk]; exact h)]
  · by_cases h : s.kind = 5
    · exact h5 h
    · rw [hs.by_ h, ht.by_ (by rw [← hk]; exact h)]
theorem map_both {F G : List Fd} {h : Vl → Vl} : ((F.map Fd.key = G.map Fd.key) ∧ F.map (fun d => h d.val) = G.map (fun d => h d.val)) ↔ F.map (fun d => (d.key, h d.val)) = G.map (fun d => (d.key, h d.val)) := by
  induction F generalizing G with
  | nil => cases G <;> simp
  | cons a F ih =>
    cases G with
    | nil => simp
    | cons b G =>
      simp only [List.map_cons, List.cons.injEq, Prod.mk.injEq, ← ih]
      constructor
      · rintro ⟨⟨h1, h2⟩, h3, h4⟩; exact ⟨⟨h1, h3⟩, h2, h4⟩
      · rintro ⟨⟨h1, h3⟩, h2, h4⟩; exact ⟨⟨h1, h2⟩, h3, h4⟩
theorem cmp_zero : ∀ (N : Nat) (v w : Vl), v.sz ≤ N → Valid v → Valid w → (cmpN N v w = 0 ↔ sortV v = sortV w) := by
  intro N
  induction N with
  | zero => intro v w h; have := v.sz_pos; omega
  | succ N ih =>
  intro v w hN hV hW
  have hvm : ∀ x, x ∈ v.ls → x.sz ≤ N ∧ Valid x := fun x hx => ⟨by have := sz_mem hx; omega, hV.mem hx⟩
  have hvf : ∀ x, x ∈ v.fs → x.val.sz ≤ N ∧ Valid x.val := fun x hx => ⟨by have := sz_memf hx; omega, hV.memf hx⟩
  have hwm : ∀ x, x ∈ w.ls → Valid x := fun x hx => hW.mem hx
  have hwf : ∀ x, x ∈ w.fs → Valid x.val := fun x hx => hW.memf hx
  have o1 := hV.one
  have o2 := hW.one
  obtain ⟨s, l, f⟩ := v
  obtain ⟨t, m, g⟩ := w
  simp only [Vl.ls, Vl.fs] at hvm hvf hwm hwf o1 o2
  have o1 : OneOk s l f := o1
  have o2 : OneOk t m g := o2
  rw [cmp_fib, thenC_eq0, sgn_zero]
  show (s.kind = t.kind ∧ fibC N s.kind (.mk s l f) (.mk t m g) = 0) ↔ nrm false (.mk s l f) = nrm false (.mk t m g)
  rw [nrm_mk]
  refine (Decidable.em (s.kind = t.kind)).elim (fun hk => ?_) fun hk => ⟨fun h => absurd h.1 hk, fun h => absurd (by rw [h.1]) hk⟩
  have hs : ∀ p : Prop, (s = t → p) → (p → s = t) → (p ↔ s = t) := fun p a b => ⟨b, a⟩
  -- kinds without values in them
  have leaf : s.kind ≠ 6 → s.kind ≠ 7 → ∀ p : Prop, (p ↔ s = t) → ((s.kind = t.kind ∧ p) ↔ s = t ∧ l.map (nrm false) = m.map (nrm false) ∧ (flds false f).map (nrmD false) = (flds false g).map (nrmD false)) := by
    intro h6 h7 p hp
    have e1 := o1.own.ls h6
    have e2 := o1.own.fs h7
    have e3 := o2.own.ls (by rw [← hk]; exact h6)
    have e4 := o2.own.fs (by rw [← hk]; exact h7)
    subst e1 e2 e3 e4
    rw [hp]
    exact ⟨fun h => ⟨h.2, rfl, rfl⟩, fun h => ⟨hk, h.1⟩⟩
  unfold fibC
  have k0 := o1.own.k0
  have k7 := o1.own.k7
  split
  · rename_i h
    refine leaf (by omega) (by omega) _ ⟨fun e => sc_own o1.own o2.own hk (fun _ => ?_) (by omega) (by omega) (by omega) (by omega), fun e => by subst e; exact Int.sub_self _⟩
    have e' : (if s.b then (1 : Int) else 0) - (if t.b then 1 else 0) = 0 := e
    cases hb1 : s.b <;> cases hb2 : t.b <;> simp [hb1, hb2] at e' ⊢
  split
  · rename_i h
    have z := decC_zero o1.dec o2.dec
    refine leaf (by omega) (by omega) _ ⟨fun e => sc_own o1.own o2.own hk (by omega) (fun _ => z.1 e) (by omega) (by omega) (by omega), fun e => by subst e; exact z.2 ⟨rfl, rfl, rfl⟩⟩
  split
  · rename_i h
    have z := timC_zero (o1.time h) (o2.time (by rw [← hk]; exact h))
    refine leaf (by omega) (by omega) _ ⟨fun e => sc_own o1.own o2.own hk (by omega) (by omega) (fun _ => z.1 e) (by omega) (by omega), fun e => by subst e; exact z.2 ⟨rfl, rfl, rfl, rfl⟩⟩
  split
  · rename_i h
    refine leaf (by omega) (by omega) _ ⟨fun e => sc_own o1.own o2.own hk (by omega) (by omega) (by omega) (fun _ => lex_zero.1 e) (by omega), fun e => by subst e; exact lex_zero.2 rfl⟩
  split
  · rename_i h
    refine leaf (by omega) (by omega) _ ⟨fun e => sc_own o1.own o2.own hk (by omega) (by omega) (by omega) (by omega) (fun _ => lex_zero.1 e), fun e => by subst e; exact lex_zero.2 rfl⟩
  split
  · rename_i h
    have hst : s = t := sc_own o1.own o2.own hk (by omega) (by omega) (by omega) (by omega) (by omega)
    have e2 := o1.own.fs (by omega)
    have e4 := o2.own.fs (by omega)
    subst e2 e4
    have z : cmpL (cmpN N) l m = 0 ↔ l.map (nrm false) = m.map (nrm false) := cmpL_zero fun a b ha hb => ih a b (hvm a ha).1 (hvm a ha).2 (hwm b hb)
    exact ⟨fun e => ⟨hst, z.1 e.2, rfl⟩, fun e => ⟨hk, z.2 e.2.1⟩⟩
  split
  · rename_i h
    have hst : s = t := sc_own o1.own o2.own hk (by omega) (by omega) (by omega) (by omega) (by omega)
    have e2 := o1.own.ls (by omega)
    have e4 := o2.own.ls (by omega)
    subst e2 e4
    have z1 : cmpL keyC (sortFd f) (sortFd g) = 0 ↔ (sortFd f).map Fd.key = (sortFd g).map Fd.key := cmpL_zero fun a b _ _ => lex_zero
    have z2 : cmpL (fun a b => cmpN N a.val b.val) (sortFd f) (sortFd g) = 0 ↔ (sortFd f).map (fun d => sortV d.val) = (sortFd g).map (fun d => sortV d.val) :=
      cmpL_zero fun a b ha hb => ih a.val b.val (hvf a (sort_mem ha)).1 (hvf a (sort_mem ha)).2 (hwf b (sort_mem hb))
    have en : nrmD false = fun d => (d.key, sortV d.val) := funext fun d => by cases d; rfl
    have z : thenC (cmpL keyC (sortFd f) (sortFd g)) (cmpL (fun a b => cmpN N a.val b.val) (sortFd f) (sortFd g)) = 0 ↔ (flds false f).map (nrmD false) = (flds false g).map (nrmD false) := by
      rw [thenC_eq0, z1, z2, en]
      exact map_both (h := sortV)
    exact ⟨fun e => ⟨hst, rfl, z.1 e.2⟩, fun e => ⟨hk, z.2 e.2.2⟩⟩
  · refine leaf (by omega) (by omega) _ ⟨fun _ => sc_own o1.own o2.own hk (by omega) (by omega) (by omega) (by omega) (by omega), fun _ => rfl⟩
end Go.TVF
end

section
namespace Go.TVF
open Go Go.Proofs
set_option linter.unusedVariables false
set_option linter.unusedSimpArgs false
/-- Three values that came in. -/
def IsVals3 (t : TV) : Prop := ∃ v1 v2 v3 c1 c2 c3, t = .agg (c1 ++ (c2 ++ c3)) ∧ VlR St.zero v1 c1 ∧ VlR St.zero v2 c2 ∧ VlR St.zero v3 c3 ∧ v1.sz ≤ 1048576 ∧ v2.sz ≤ 1048576 ∧ v3.sz ≤ 1048576
section
variable {H : Type} {enc : TypeId × Value → H} {P : Program} {w : World} {base b0 : Nat} {held : Bool} {bk : DataW H → Nat}
theorem open_vals3 {t e : TypeId} {v : Value} {d : DataW H} {p : List MemPlace} (hb : Blk bk) (ht : P.underlying t = some (.array 3 e)) (hct : P.cellsOf t = 39) (hop : ∀ n, OpQ bk enc P w base held n 13 valQ e)
    (hval : Value.okWide P w .any b0 t v) (h : DataW.Trod enc P w base (fun _ => true) held t v d p) (hk : bk d ≤ 1048576) : ∃ tv, Rel (Ghost.start w) w tv v ∧ IsVals3 tv := by
  simp only [Value.okWide, ht] at hval
  obtain ⟨vs, rfl, _, _⟩ := hval
  obtain ⟨n, hn⟩ := h
  obtain ⟨xs, m, rfl, hx, hl, hxl, hi⟩ := DataW.trod_array ht hn
  simp only [Prod.mk.injEq] at hx
  obtain ⟨rfl, rfl⟩ := hx
  rw [hct] at hl
  replace hl : vs.toList.length = 39 := hl
  have hce : P.cellsOf e = 13 := (hop 0).1
  rw [hce] at hi
  match xs, hxl with
  | [x0, x1, x2], _ =>
  have hs := hb.agg [x0.1, x1.1, x2.1]
  simp only [List.map_cons, List.map_nil, List.sum_cons, List.sum_nil] at hs hk
  obtain ⟨c1, r1, _, v1, h1, z1⟩ := (hop m).2 _ _ (hi 0 (by omega))
  obtain ⟨c2, r2, _, v2, h2, z2⟩ := (hop m).2 _ _ (hi 1 (by omega))
  obtain ⟨c3, r3, _, v3, h3, z3⟩ := (hop m).2 _ _ (hi 2 (by omega))
  have e1 : vs.toList = (vs.toList.drop (0 * 13)).take 13 ++ ((vs.toList.drop (1 * 13)).take 13 ++ (vs.toList.drop (2 * 13)).take 13) := by
    rw [List.take_of_length_le (show (vs.toList.drop (2 * 13)).length ≤ 13 by rw [List.length_drop]; omega), show 2 * 13 = 13 + 13 from rfl, ← List.drop_drop, Nat.one_mul, List.take_append_drop, Nat.zero_mul, List.drop_zero, List.take_append_drop]
  have hr := RelL.append r1 (RelL.append r2 r3)
  have hr2 := hr
  replace hr2 := e1.symm ▸ hr
  have := Rel.agg (c1 ++ (c2 ++ c3)) vs.toList hr2.1 hr2.2
  rw [Array.toArray_toList] at this
  exact ⟨_, this, v1, v2, v3, c1, c2, c3, rfl, h1, h2, h3, by omega, by omega, by omega⟩
end
theorem lorder_ok {a b c : Vl} (ha : a.sz ≤ 2000000) (hb : b.sz ≤ 2000000) (hc : c.sz ≤ 2000000) {st : St} {ca cb cc : List TV} {K : Bool → St → Prop} (h1 : VlR st a ca) (h2 : VlR st b cb) (h3 : VlR st c cc) (hk : ∀ st', K true st') :
    CallT PR fn_datakitlaw07_ValueOrder [.agg (ca ++ (cb ++ cc))] [.one .bool] st K := by
  have a0 := h1
  have b0 := h2
  have c0 := h3
  have hke := Keeps.refl st
  have fin : Valid a → Valid b → a.cnt ≤ 65536 → ∀ st' : St, Keeps st st' → CallT PR fn_value_Same [.agg ca, .agg cb] [.one .bool] st' fun (b8 : Bool) (st11 : St) =>
      BIf (!b8) (CallT PR fn_datakitlaw07_lives [] [.one (.bool)] st11 fun (b9 : Bool) (st12 : St) => K b9 st12)
        (CallT PR fn_value_Equal [.agg ca, .agg cb] [.one .bool] st11 fun (b10 : Bool) (st13 : St) => BIf b10 (CallT PR fn_datakitlaw07_lives [] [.one (.bool)] st13 fun (b11 : Bool) (st14 : St) => K b11 st14) (K false st13)) := by
    intro va vb ca' st' ke
    refine pSame_ok ha hb ca' a0 b0 ke fun r1 st1 e1 i1 => BIf_bool (fun _ => lives_ok fun st' _ => hk st') fun q => ?_
    have hab := i1.1 (by simpa using q)
    refine pEqual_ok ha hb ca' va.ok.2 vb.ok.2 a0 b0 (ke.trans e1.keeps) fun r2 st2 e2 i2 => ?_
    rw [i2.2 (by rw [hab])]
    exact lives_ok fun st' _ => hk st'
  cases a with
  | mk s1 l1 f1 =>
  cases b with
  | mk s2 l2 f2 =>
  cases c with
  | mk s3 l3 f3 =>
  obtain ⟨ub1, ul1, uf1, _, _, rfl, p1, p2, _, p4, _⟩ := h1.cells
  obtain ⟨ub2, ul2, uf2, _, _, rfl, q1, q2, _, q4, _⟩ := h2.cells
  obtain ⟨ub3, ul3, uf3, _, _, rfl, r1, r2, _, r4, _⟩ := h3.cells
  refine vc_datakitlaw07_ValueOrder _ _ _ _ _ _ _ _ _ _ _ _ _ _ _ _ _ _ _ _ _ _ _ _ _ _ _ _ _ _ _ _ _ _ _ _ _ _ _ st K ⟨by decide, by decide, by decide, need_intro (one13 p1.one p2.one p4.one) (need_intro (one13 q1.one q2.one q4.one) (need_intro (one13 r1.one r2.one r4.one) ?_))⟩
  refine fit_ok ha a0 hke fun b1 st1 e1 hf1 => BIf_bool (fun _ => lives_ok fun st' _ => hk st') fun g1 => ?_
  obtain ⟨va, cna⟩ := hf1 (by simpa using g1)
  have ke1 := hke.trans e1.keeps
  refine fit_ok hb b0 ke1 fun b2 st2 e2 hf2 => BIf_bool (fun _ => lives_ok fun st' _ => hk st') fun g2 => ?_
  obtain ⟨vb, cnb⟩ := hf2 (by simpa using g2)
  have ke2 := ke1.trans e2.keeps
  refine fit_ok hc c0 ke2 fun b3 st3 e3 hf3 => BIf_bool (fun _ => lives_ok fun st' _ => hk st') fun g3 => ?_
  obtain ⟨vc, cnc⟩ := hf3 (by simpa using g3)
  have ke3 := ke2.trans e3.keeps
  have P := pre_cmp 2000000
  have pa := And.intro ha va
  have pb := And.intro hb vb
  have pc := And.intro hc vc
  have bnd := cmp_bnd 2000000 (.mk s1 l1 f1) (.mk s2 l2 f2)
  refine Cmp_ok ha hb va vb cna a0 b0 ke3 fun st4 e4 => ?_
  have ke4 := ke3.trans e4.keeps
  refine Cmp_ok hb ha vb va cnb b0 a0 ke4 fun st5 e5 => BIf_intro (fun g => absurd ?_ g) fun _ => ?_
  · rw [wrap64 _ (by omega) (by omega), P.anti _ _ pa pb]; omega
  have ke5 := ke4.trans e5.keeps
  refine pEqual_ok ha hb cna va.ok.2 vb.ok.2 a0 b0 ke5 fun r5 st6 e6 i5 => ?_
  have hz := cmp_zero 2000000 _ _ ha va vb
  have : decide (cmpN 2000000 (.mk s1 l1 f1) (.mk s2 l2 f2) = 0) = r5 := beq_of_iff (p := sortV (.mk s1 l1 f1) = sortV (.mk s2 l2 f2)) (by rw [decide_eq_true_eq]; exact hz) i5
  rw [this]
  refine BIf_bool (fun g => by simp at g) fun _ => ?_
  have ke6 := ke5.trans e6.keeps
  refine Cmp_ok ha ha va va cna a0 a0 ke6 fun st7 e7 => BIf_intro (fun g => absurd ?_ g) fun _ => ?_
  · have := P.anti _ _ pa pa; omega
  have ke7 := ke6.trans e7.keeps
  refine BIf_intro (fun _ => fin va vb cna st7 ke7) fun g4 => ?_
  refine Cmp_ok hb hc vb vc cnb b0 c0 ke7 fun st8 e8 => ?_
  have ke8 := ke7.trans e8.keeps
  refine BIf_intro (fun _ => fin va vb cna st8 ke8) fun g5 => ?_
  refine Cmp_ok ha hc va vc cna a0 c0 ke8 fun st9 e9 => ?_
  refine BIf_intro (fun _ => fin va vb cna st9 (ke8.trans e9.keeps)) fun g6 => absurd ?_ g6
  exact P.trans _ _ _ pa pb pc (by omega) (by omega)
end Go.TVF
end
