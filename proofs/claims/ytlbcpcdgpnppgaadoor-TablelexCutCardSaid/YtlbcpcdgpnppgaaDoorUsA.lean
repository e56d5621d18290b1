/- Library functions and UTF-8, as called. -/
import Derived.Test.YtlbcpcdgpnppgaaDoorUtA
import Derived.Test.YtlbcpcdgpnppgaaDoorShA
import Derived.Test.YtlbcpcdgpnppgaaDoorVaA
import Derived.Test.YtlbcpcdgpnppgaaDoorVaB
import Derived.Test.YtlbcpcdgpnppgaaDoorVaC
import Derived.Test.YtlbcpcdgpnppgaaDoorVaD
set_option linter.unusedVariables false
set_option linter.unusedSimpArgs false
namespace Go.TVF
open Go Go.Proofs Go.RowKit

theorem Sim.grown {g : Ghost} {st : St} {loc : List (Option (List TV))} {w w' : World} (s : Sim g st loc w) (h : Below w.heap.size w w') : Sim g st loc w' ∧ Ext g w g w' :=
  s.world h.size (s.below.trans (h.mono s.fits)) h.block

theorem rel_str_inv {g : Ghost} {w : World} {l : List UInt8} {v : Value} (h : Rel g w (.str l) v) : v = .string ⟨l.toArray⟩ := by cases h; rfl
theorem rel_int_inv {g : Ghost} {w : World} {k : IntKind} {n : Int} {v : Value} (h : Rel g w (.int k n) v) : v = .int k n := by cases h; rfl

theorem relL_one {g : Ghost} {w : World} {x : TV} {vs : List Value} (h : RelL g w [x] vs) : ∃ v, vs = [v] ∧ Rel g w x v := by
  obtain ⟨v, h1, h2⟩ := h.get? (i := 0) rfl
  have := h.1
  cases vs with
  | nil => simp at this
  | cons a r => cases r with
    | nil => simp at h1; subst h1; exact ⟨_, rfl, h2⟩
    | cons b r => simp at this
theorem relL_two {g : Ghost} {w : World} {x y : TV} {vs : List Value} (h : RelL g w [x, y] vs) : ∃ v u, vs = [v, u] ∧ Rel g w x v ∧ Rel g w y u := by
  obtain ⟨v, h1, h2⟩ := h.get? (i := 0) rfl
  obtain ⟨u, h3, h4⟩ := h.get? (i := 1) rfl
  have := h.1
  cases vs with
  | nil => simp at this
  | cons a r => cases r with
    | nil => simp at this
    | cons b r => cases r with
      | nil => simp at h1 h3; subst h1 h3; exact ⟨_, _, rfl, h2, h4⟩
      | cons c r => simp at this

/-- What utf8.DecodeRuneInString gives. -/
def dG (l : List UInt8) : Nat × Nat := if l = [] then (65533, 0) else dN l
theorem dG_eq (l : List UInt8) : Lib.decodeGo ⟨l.toArray⟩ = dG l := by
  unfold Lib.decodeGo dG
  by_cases h : l = []
  · subst h; rfl
  · rw [if_neg h, if_neg (by simpa [ByteArray.size] using h), Lib.decode_at]
    unfold dN bt
    have hg : ∀ i, (ByteArray.get! ⟨l.toArray⟩ i) = l.getD i 0 := fun i => by
      simp [ByteArray.get!, List.getD]
      rfl
    simp only [hg, Nat.zero_add, Nat.sub_zero]
    rfl

theorem decode_ok {l : List UInt8} {st : St} {K : Int → Int → St → Prop} (hk : K ((dG l).1 : Nat) ((dG l).2 : Nat) st) : CallT PR fn_utf8_DecodeRuneInString [.str l] [.one (.int .i32), .one (.int .i64)] st K := by
  refine tcalls_enter (fun _ _ => Tryd.call103 _ _) fun g w vargs s hr => ?_
  obtain ⟨v, rfl, hv⟩ := relL_one hr
  rw [rel_str_inv hv]
  refine Calls.mono (Tryd.utf8_DecodeRuneInString ⟨l.toArray⟩ w (s.glob w s.below)) ?_
  rintro e w' ⟨rfl, hb⟩
  obtain ⟨s', e'⟩ := s.grown hb
  rw [dG_eq]
  exact ⟨_, rfl, .tuple [.int .i32 ((dG l).1 : Nat), .int .i64 ((dG l).2 : Nat)], st, g, hk, s', Rel.tuple _ [_, _] rfl (RelL.cons (Rel.int _ _) (RelL.cons (Rel.int _ _) (RelL.nil _ _))).2, e'⟩

theorem indexByte_ok {l : List UInt8} {c : Int} {st : St} {K : Int → St → Prop} (hk : K (Lib.indexByte l c.toNat.toUInt8) st) : CallT PR fn_strings_IndexByte [.str l, .int .u8 c] [.one (.int .i64)] st K := by
  refine tcalls_enter (fun _ _ => Tryd.call58 _ _) fun g w vargs s hr => ?_
  obtain ⟨v, u, rfl, hv, hu⟩ := relL_two hr
  rw [rel_str_inv hv, rel_int_inv hu]
  refine Calls.mono (Tryd.strings_IndexByte ⟨l.toArray⟩ c w) ?_
  rintro e w' ⟨rfl, rfl⟩
  exact ⟨_, rfl, .int .i64 _, st, g, hk, s, Rel.int _ _, Ext.refl _ _⟩

/-! The reference's UTF-8. -/
theorem character_ok' {r : Int} {st : St} {K : Bool → St → Prop} (h0 : 0 ≤ r) (hk : K (decide (isChar r.toNat)) st) : CallT PR fn_datakitref03_character [.int .i64 r] [.one (.bool)] st K := by
  refine vc_datakitref03_character _ st K (BIf_intro (fun _ => BIf_intro (fun h2 => BIf_intro (fun h3 => ?_) fun h3 => ?_) fun h2 => ?_) fun h1 => absurd h0 h1)
  · have : isChar r.toNat := by unfold isChar; omega
    simpa [this] using hk
  · have : decide ((57343 : Int) < r) = decide (isChar r.toNat) := by
      rw [Bool.eq_iff_iff]; simp only [decide_eq_true_eq]; unfold isChar; omega
    rw [this]; exact hk
  · have : ¬ isChar r.toNat := by unfold isChar; omega
    simpa [this] using hk
theorem character_ok {r : Nat} {st : St} {K : Bool → St → Prop} (hk : K (decide (isChar r)) st) : CallT PR fn_datakitref03_character [.int .i64 (r : Int)] [.one (.bool)] st K :=
  character_ok' (Int.natCast_nonneg r) (by rw [Int.toNat_natCast]; exact hk)

theorem toBytes_full (st : St) (n : Nat) (l : List UInt8) (xs : List TV) (h : xs = bytesT l) : (toBytes st (.list 1 .full n xs)).map TV.str = some (.str l) := by
  subst h; simp [toBytes, asBytes_bytesT]

theorem u8wrap (n : Nat) : IntKind.wrap .u8 (n : Int) = ((UInt8.ofNat n).toNat : Int) := by
  unfold IntKind.wrap
  simp only [IntKind.signed, IntKind.bits]
  simp
  try omega

theorem orN (a b m : Nat) (hb : b < 2 ^ m) (h : a * 2 ^ m + b < 2 ^ 63) (x y : Int) (hx : x = ((a * 2 ^ m : Nat) : Int)) (hy : y = (b : Int)) : bitsI .or .i64 x y = ((a * 2 ^ m + b : Nat) : Int) := by
  rw [hx, hy]; exact or_add a b m hb h

theorem encode_ok' {R : Int} {r : Nat} {st : St} {K : List UInt8 → Int → St → Prop} (hR : R = (r : Int)) (hr : r < 2 ^ 40) (hk : K (if isChar r then encU r else []) (if isChar r then 0 else 2) st) : CallT PR fn_datakitref03_Encode [.int .i64 R] [.one (.str), .one (.int .i64)] st K := by
  have shr : ∀ m, m ≤ 64 → Int.fdiv R (2 ^ (min m (IntKind.bits .i64))) = ((r / 2 ^ m : Nat) : Int) := fun m hm => by rw [hR]; exact shr_i64 r m hm
  have s6 := shr 6 (by decide)
  have s12 := shr 12 (by decide)
  have s18 := shr 18 (by decide)
  have m63 : ∀ x : Nat, x < 2 ^ 63 → bitsI .and .i64 (x : Int) (63 : Int) = ((x % 64 : Nat) : Int) := fun x hx => and_mask x 6 hx (by decide)
  have mR : bitsI .and .i64 R (63 : Int) = ((r % 64 : Nat) : Int) := by rw [hR]; exact m63 r (by omega)
  have o128 : ∀ x : Nat, x < 64 → bitsI .or .i64 (128 : Int) (x : Int) = ((128 + x : Nat) : Int) := fun x hx => orN 2 x 6 (by omega) (by omega) _ _ rfl rfl
  have hR0 : 0 ≤ R := by omega
  have hRn : R.toNat = r := by omega
  refine vc_datakitref03_Encode _ st K (character_ok' hR0 (BIf_bool (fun h0 => ?_) fun h0 => ?_))
  · have hc : ¬ isChar r := by rw [hRn] at h0; simpa using h0
    rw [if_neg hc, if_neg hc] at hk
    exact hk
  · have hc : isChar r := by rw [hRn] at h0; simpa using h0
    rw [if_pos hc, if_pos hc] at hk
    unfold encU at hk
    refine BIf_intro (fun h1 => ?_) fun h1 => BIf_intro (fun h2 => ?_) fun h2 => BIf_intro (fun h3 => ?_) fun h3 => ?_
    · rw [if_pos (by omega)] at hk
      exact optK_intro (toBytes_full _ _ _ _ (by simp only [bytesT, List.map, byteT]; rw [hR, u8wrap])) hk
    · rw [if_neg (by omega), if_pos (by omega)] at hk
      have o192 : bitsI .or .i64 (192 : Int) ((r / 2 ^ 6 : Nat) : Int) = ((192 + r / 64 : Nat) : Int) := orN 6 _ 5 (by omega) (by omega) _ _ rfl rfl
      refine optK_intro (toBytes_full _ _ _ _ ?_) hk
      simp only [bytesT, List.map, byteT]
      rw [show Int.toNat (6 : Int) = 6 from rfl, s6, o192, mR, o128 _ (by omega), u8wrap, u8wrap]
    · rw [if_neg (by omega), if_neg (by omega), if_pos (by omega)] at hk
      have o224 : bitsI .or .i64 (224 : Int) ((r / 2 ^ 12 : Nat) : Int) = ((224 + r / 4096 : Nat) : Int) := orN 14 _ 4 (by omega) (by omega) _ _ rfl rfl
      refine optK_intro (toBytes_full _ _ _ _ ?_) hk
      simp only [bytesT, List.map, byteT]
      rw [show Int.toNat (6 : Int) = 6 from rfl, show Int.toNat (12 : Int) = 12 from rfl, s6, s12, o224, mR, m63 (r / 2 ^ 6) (by omega), o128 _ (by omega), o128 _ (by omega), u8wrap, u8wrap, u8wrap]
    · rw [if_neg (by omega), if_neg (by omega), if_neg (by omega)] at hk
      have hr2 : r ≤ 1114111 := hc.1
      have o240 : bitsI .or .i64 (240 : Int) ((r / 2 ^ 18 : Nat) : Int) = ((240 + r / 262144 : Nat) : Int) := orN 30 _ 3 (by omega) (by omega) _ _ rfl rfl
      refine optK_intro (toBytes_full _ _ _ _ ?_) hk
      simp only [bytesT, List.map, byteT]
      rw [show Int.toNat (6 : Int) = 6 from rfl, show Int.toNat (12 : Int) = 12 from rfl, show Int.toNat (18 : Int) = 18 from rfl, s6, s12, s18, o240, mR, m63 (r / 2 ^ 6) (by omega), m63 (r / 2 ^ 12) (by omega), o128 _ (by omega), o128 _ (by omega), o128 _ (by omega), u8wrap, u8wrap, u8wrap, u8wrap]
theorem encode_ok {r : Nat} {st : St} {K : List UInt8 → Int → St → Prop} (hr : r < 2 ^ 40) (hk : K (if isChar r then encU r else []) (if isChar r then 0 else 2) st) : CallT PR fn_datakitref03_Encode [.int .i64 (r : Int)] [.one (.str), .one (.int .i64)] st K :=
  encode_ok' rfl hr hk

/-- What the reference's Decode gives at a place. -/
def rD (l : List UInt8) : Nat × Nat := if ul l = 0 then (0, 0) else (ur l, ul l)

theorem rdecode_ok' {s : List UInt8} {I : Int} {i : Nat} {st : St} {K : Int → Int → St → Prop} (hI : I = (i : Int)) (hl : s.length ≤ 2000000) (hi : i ≤ s.length) (hk : K ((rD (s.drop i)).1 : Nat) ((rD (s.drop i)).2 : Nat) st) : CallT PR fn_datakitref03_Decode [.str s, .int .i64 I] [.one (.int .i64), .one (.int .i64)] st K := by
  refine vc_datakitref03_Decode s I st K (BIf_intro (fun h => by omega) fun _ => BIf_intro (fun h => ?_) fun h => ⟨⟨by omega, by omega⟩, ?_⟩)
  · have : s.drop i = [] := List.drop_of_length_le (by omega)
    have h0 : rD (s.drop i) = (0, 0) := by rw [this]; simp [rD, ul]
    rw [h0] at hk; exact hk
  · have hne : s.drop i ≠ [] := by
      intro h0
      have := congrArg List.length h0
      simp at this; omega
    have href := refU_eq (s.drop i) hne
    have hb0 : (List.getD s (Int.toNat I) 0).toNat = bt (s.drop i) 0 := by rw [bt_drop, hI]; rfl
    have hlt := bt_lt (s.drop i) 0
    have hlen : (s.drop i).length = s.length - i := by simp
    rw [hb0, wrapB8 _ (by omega)]
    have m15 : bitsI .and .i64 ((bt (s.drop i) 0 : Nat) : Int) (15 : Int) = ((bt (s.drop i) 0 % 16 : Nat) : Int) := and_mask _ 4 (by omega) (by decide)
    have m7 : bitsI .and .i64 ((bt (s.drop i) 0 : Nat) : Int) (7 : Int) = ((bt (s.drop i) 0 % 8 : Nat) : Int) := and_mask _ 3 (by omega) (by decide)
    have m31 : bitsI .and .i64 ((bt (s.drop i) 0 : Nat) : Int) (31 : Int) = ((bt (s.drop i) 0 % 32 : Nat) : Int) := and_mask _ 5 (by omega) (by decide)
    rw [m15, m7, m31]
    refine ⟨fun size r s' at' st1 => s = s' ∧ I = at' ∧ st = st1 ∧ ((rsz (bt (s.drop i) 0) : Nat) : Int) = size ∧ ((rb0 (bt (s.drop i) 0) : Nat) : Int) = r, ?_, ?_⟩
    · refine BIf_intro (fun h1 => ⟨rfl, rfl, rfl, ?_, ?_⟩) fun h1 => BIf_intro (fun h2 => ⟨rfl, rfl, rfl, ?_, ?_⟩) fun h2 => BIf_intro (fun h3 => ⟨rfl, rfl, rfl, ?_, ?_⟩) fun h3 => ⟨rfl, rfl, rfl, ?_, ?_⟩
      · unfold rsz; rw [if_pos (by omega)]; rfl
      · unfold rb0; rw [if_pos (by omega)]
      · unfold rsz; rw [if_neg (by omega), if_pos (by omega)]; rfl
      · unfold rb0; rw [if_neg (by omega), if_pos (by omega)]
      · unfold rsz; rw [if_neg (by omega), if_neg (by omega), if_pos (by omega)]; rfl
      · unfold rb0; rw [if_neg (by omega), if_neg (by omega), if_pos (by omega)]
      · unfold rsz; rw [if_neg (by omega), if_neg (by omega), if_neg (by omega)]; rfl
      · unfold rb0; rw [if_neg (by omega), if_neg (by omega), if_neg (by omega)]
    · rintro _ _ _ _ _ ⟨rfl, rfl, rfl, rfl, rfl⟩
      have hs := rsz_le (bt (s.drop i) 0)
      have hr0 := rb0_lt _ hlt
      generalize hsz : rsz (bt (s.drop i) 0) = size at *
      generalize hrr : rb0 (bt (s.drop i) 0) = r0 at *
      have hra := racc_lt (s.drop i) r0 hr0
      unfold refU at href
      simp only [hsz, hrr] at href
      rw [wrap64 _ (by omega) (by omega)]
      refine BIf_intro (fun h1 => ?_) fun h1 => ?_
      · rw [if_pos (by omega)] at href
        have : rD (s.drop i) = (0, 0) := by unfold rD; rw [← href]
        rw [this] at hk; exact hk
      · rw [if_neg (by omega)] at href
        refine ⟨fun r j s' at' sz st2 => s = s' ∧ I = at' ∧ st = st2 ∧ ((size : Nat) : Int) = sz ∧ ∃ k : Nat, j = ((k + 1 : Nat) : Int) ∧ k + 1 ≤ size ∧ r = ((racc (s.drop i) r0 k : Nat) : Int), fun _ j _ _ sz _ => (sz - j).toNat, ⟨rfl, rfl, rfl, rfl, 0, rfl, hs.1, rfl⟩, ?_⟩
        rintro _ _ _ _ _ _ ⟨rfl, rfl, rfl, rfl, k, rfl, hk1, rfl⟩
        have hrk := hra k
        have h64 : 64 ^ k ≤ 64 ^ 3 := Nat.pow_le_pow_right (by decide) (by omega)
        refine BIf_intro (fun h2 => ?_) fun h2 => ?_
        · rw [wrap64 _ (by omega) (by omega)]
          have hbk : (List.getD s (Int.toNat (I + ((k + 1 : Nat) : Int))) 0).toNat = bt (s.drop i) (k + 1) := by
            rw [bt_drop, show Int.toNat (I + ((k + 1 : Nat) : Int)) = i + (k + 1) by omega]; rfl
          have hbl := bt_lt (s.drop i) (k + 1)
          have hand : bitsI .and .i64 (IntKind.i64.wrap ((bt (s.drop i) (k + 1) : Nat) : Int)) (63 : Int) = ((bt (s.drop i) (k + 1) % 64 : Nat) : Int) := by
            rw [wrapB8 _ (by omega)]; exact and_mask _ 6 (by omega) (by decide)
          have hmul : IntKind.i64.wrap (((racc (s.drop i) r0 k : Nat) : Int) * 2 ^ (min (Int.toNat (6 : Int)) (IntKind.bits .i64))) = ((racc (s.drop i) r0 k * 2 ^ 6 : Nat) : Int) := by
            rw [show (2 : Int) ^ (min (Int.toNat (6 : Int)) (IntKind.bits .i64)) = 64 by decide, wrap64 _ (by omega) (by omega)]; omega
          refine ⟨⟨by omega, by omega⟩, ?_⟩
          rw [hbk, hand, hmul, or_add _ _ 6 (by omega) (by omega), wrap64 _ (by omega) (by omega)]
          exact ⟨⟨rfl, rfl, rfl, rfl, k + 1, by omega, by omega, by simp only [racc]⟩, by dsimp only; omega⟩
        · have hks : k = size - 1 := by omega
          subst hks
          refine encode_ok (by omega) ?_
          generalize hR : racc (s.drop i) r0 (size - 1) = R at *
          refine BIf_intro (fun h3 => ?_) fun h3 => ?_
          · have hc : ¬ isChar R := by intro hc; rw [if_pos hc] at h3; exact h3 rfl
            rw [if_neg (fun h => hc h.1)] at href
            have : rD (s.drop i) = (0, 0) := by unfold rD; rw [← href]
            rw [this] at hk; exact hk
          · have hc : isChar R := by
              apply Decidable.byContradiction
              intro hc; rw [if_neg hc] at h3; exact h3 (by decide)
            rw [if_pos hc, wrap64 _ (by omega) (by omega)]
            refine ⟨⟨by omega, by omega, by omega⟩, ?_⟩
            rw [take_drop_sub, show Int.toNat (I + (size : Int)) - Int.toNat I = size by omega, show Int.toNat I = i by omega]
            refine BIf_intro (fun h4 => ?_) fun h4 => ?_
            · rw [if_neg (fun h => h4 h.2)] at href
              have : rD (s.drop i) = (0, 0) := by unfold rD; rw [← href]
              rw [this] at hk; exact hk
            · rw [if_pos ⟨hc, Decidable.not_not.1 h4⟩] at href
              have : rD (s.drop i) = (R, size) := by unfold rD; rw [← href]
              rw [this] at hk; exact hk
theorem rdecode_ok {s : List UInt8} {i : Nat} {st : St} {K : Int → Int → St → Prop} (hl : s.length ≤ 2000000) (hi : i ≤ s.length) (hk : K ((rD (s.drop i)).1 : Nat) ((rD (s.drop i)).2 : Nat) st) : CallT PR fn_datakitref03_Decode [.str s, .int .i64 (i : Int)] [.one (.int .i64), .one (.int .i64)] st K :=
  rdecode_ok' rfl hl hi hk
end Go.TVF
