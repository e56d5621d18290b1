/- Base: what its functions compute. -/
import Derived.Test.YtphnhocpknhpgaaVcB
set_option linter.unusedVariables false
set_option linter.unusedSimpArgs false
namespace Go.TVF
open Go Go.Proofs

/-! Bits. -/
theorem or_i64 (x y : Nat) (hx : x < 2 ^ 63) (hy : y < 2 ^ 63) : bitsI .or .i64 (x : Int) (y : Int) = ((x ||| y : Nat) : Int) := by
  have h : x ||| y < 2 ^ 63 := Nat.or_lt_two_pow hx hy
  show IntKind.wrap .i64 ((BitVec.ofInt 64 (x : Int) ||| BitVec.ofInt 64 (y : Int)).toNat : Int) = _
  simp only [BitVec.ofInt_natCast, BitVec.toNat_or, BitVec.toNat_ofNat]
  rw [Nat.mod_eq_of_lt (by omega), Nat.mod_eq_of_lt (by omega), wrap64 _ (by omega) (by omega)]
theorem and_i64 (x y : Nat) (hx : x < 2 ^ 63) (hy : y < 2 ^ 63) : bitsI .and .i64 (x : Int) (y : Int) = ((x &&& y : Nat) : Int) := by
  have h : x &&& y < 2 ^ 63 := Nat.and_lt_two_pow _ hy
  show IntKind.wrap .i64 ((BitVec.ofInt 64 (x : Int) &&& BitVec.ofInt 64 (y : Int)).toNat : Int) = _
  simp only [BitVec.ofInt_natCast, BitVec.toNat_and, BitVec.toNat_ofNat]
  rw [Nat.mod_eq_of_lt (by omega), Nat.mod_eq_of_lt (by omega), wrap64 _ (by omega) (by omega)]
theorem and_u8 (x y : Nat) (hx : x < 2 ^ 8) (hy : y < 2 ^ 8) : bitsI .and .u8 (x : Int) (y : Int) = ((x &&& y : Nat) : Int) := by
  have h : x &&& y < 2 ^ 8 := Nat.and_lt_two_pow _ hy
  show IntKind.wrap .u8 ((BitVec.ofInt 8 (x : Int) &&& BitVec.ofInt 8 (y : Int)).toNat : Int) = _
  simp only [BitVec.ofInt_natCast, BitVec.toNat_and, BitVec.toNat_ofNat]
  rw [Nat.mod_eq_of_lt (by omega), Nat.mod_eq_of_lt (by omega), wrapU8 _ (by omega) (by omega)]
theorem or_add (a b m : Nat) (hb : b < 2 ^ m) (h : a * 2 ^ m + b < 2 ^ 63) : bitsI .or .i64 ((a * 2 ^ m : Nat) : Int) (b : Int) = ((a * 2 ^ m + b : Nat) : Int) := by
  have hb' : b < 2 ^ 63 := by omega
  rw [or_i64 _ _ (by omega) hb', Nat.mul_comm a, Nat.two_pow_add_eq_or_of_lt hb]
theorem and_mask (a m : Nat) (ha : a < 2 ^ 63) (hm : m < 63) : bitsI .and .i64 (a : Int) ((2 ^ m - 1 : Nat) : Int) = ((a % 2 ^ m : Nat) : Int) := by
  have : 2 ^ m < 2 ^ 63 := Nat.pow_lt_pow_right (by decide) hm
  rw [and_i64 _ _ ha (by omega), Nat.and_two_pow_sub_one_eq_mod]
theorem byteLe (x : UInt8) : x.toNat ≤ 255 := by have := x.toNat_lt; omega
theorem wrapB8 (n : Nat) (h : n ≤ 255) : IntKind.wrap .i64 (n : Int) = n := wrap64 _ (by omega) (by omega)
theorem byteOf (n : Nat) (h : n < 256) : byteT (UInt8.ofNat n) = .int .u8 (n : Int) := by
  simp [byteT, UInt8.toNat_ofNat, Nat.mod_eq_of_lt h]
theorem getD_take {α : Type} (l : List α) (i : Nat) (d : α) (h : i < l.length) : l.take (i + 1) = l.take i ++ [l.getD i d] := by
  rw [List.take_add_one, List.getElem?_eq_getElem h, List.getD, List.getElem?_eq_getElem h]; rfl

/-! Digits. -/
def fnd : List UInt8 → UInt8 → Int
  | [], _ => -1
  | a :: al, c => if a = c then 0 else if fnd al c < 0 then -1 else fnd al c + 1

theorem fnd_ge (al : List UInt8) (c : UInt8) : -1 ≤ fnd al c := by
  induction al with
  | nil => simp [fnd]
  | cons a al ih => simp only [fnd]; split <;> (try split) <;> omega
theorem fnd_lt (al : List UInt8) (c : UInt8) : fnd al c < al.length := by
  induction al with
  | nil => simp [fnd]
  | cons a al ih => simp only [fnd, List.length_cons]; split <;> (try split) <;> omega
theorem fnd_at : ∀ (al : List UInt8) (c : UInt8) (i : Nat), i < al.length → al.getD i 0 = c → (∀ j, j < i → al.getD j 0 ≠ c) → fnd al c = i
  | [], c, i, h, _, _ => absurd h (Nat.not_lt_zero _)
  | a :: al, c, 0, _, h1, _ => by
    have h1' : a = c := by simpa [List.getD] using h1
    simp [fnd, h1']
  | a :: al, c, i + 1, h, h1, h2 => by
    have ha : a ≠ c := by simpa [List.getD] using h2 0 (by omega)
    have := fnd_at al c i (by simpa using h) (by simpa [List.getD] using h1) (fun j hj => by simpa [List.getD] using h2 (j + 1) (by omega))
    simp only [fnd, if_neg ha, this]
    rw [if_neg (by omega)]; omega
theorem fnd_no : ∀ (al : List UInt8) (c : UInt8), (∀ j, j < al.length → al.getD j 0 ≠ c) → fnd al c = -1
  | [], c, _ => rfl
  | a :: al, c, h => by
    have ha : a ≠ c := by simpa [List.getD] using h 0 (by simp)
    have := fnd_no al c (fun j hj => by simpa [List.getD] using h (j + 1) (by simpa using hj))
    simp [fnd, if_neg ha, this]

theorem byte_eq (a c : UInt8) : ((a.toNat : Int) = (c.toNat : Int)) ↔ a = c := by
  constructor
  · intro h; exact UInt8.toNat_inj.1 (by omega)
  · intro h; rw [h]

theorem find48_ok {al : List UInt8} {c : UInt8} {st : St} {K : Int → St → Prop} (hl : (al.length : Int) ≤ 1000000) (hk : K (fnd al c) st) : CallT Try.prog 48 [.str al, .int .u8 (c.toNat : Int)] [.one (.int .i64)] st K := by
  refine vc48 al _ st K ⟨fun i s c' st' => s = al ∧ c' = (c.toNat : Int) ∧ st' = st ∧ 0 ≤ i ∧ i ≤ al.length ∧ ∀ j : Nat, (j : Int) < i → al.getD j 0 ≠ c, fun i _ _ _ => (al.length - i).toNat, ⟨rfl, rfl, rfl, by omega, by omega, fun j h => absurd h (by omega)⟩, ?_⟩
  rintro i _ _ _ ⟨rfl, rfl, rfl, h1, h2, h3⟩
  refine BIf_intro (fun h4 => ⟨⟨h1, h4⟩, BIf_intro (fun h5 => ?_) fun h5 => ?_⟩) fun h4 => ?_
  · rw [byte_eq] at h5
    have := fnd_at _ c i.toNat (by omega) h5 (fun j hj => h3 j (by omega))
    rw [this] at hk
    rwa [show ((i.toNat : Nat) : Int) = i by omega] at hk
  · rw [byte_eq] at h5
    rw [wrap64 (i + 1) (by omega) (by omega)]
    refine ⟨⟨rfl, rfl, rfl, by omega, by omega, fun j hj => ?_⟩, by dsimp only; omega⟩
    by_cases hji : (j : Int) = i
    · have : j = i.toNat := by omega
      subst this; exact h5
    · exact h3 j (by omega)
  · rw [fnd_no _ c (fun j hj => h3 j (by omega))] at hk; exact hk

/-- A finder's closure. -/
def Finds (st : St) (v : TV) (al : List UInt8) : Prop := ∃ b, v = .func 51 [.box b 0] ∧ b < st.nb ∧ st.box b = .cells [.str al]
theorem Finds.ext {st st' : St} {v : TV} {al : List UInt8} (h : Finds st v al) (e : StExt st st') : Finds st' v al := by
  obtain ⟨b, h1, h2, h3⟩ := h
  exact ⟨b, h1, Nat.lt_of_lt_of_le h2 e.nb, by rw [e.box b h2, h3]⟩

theorem value_ok {v : TV} {al : List UInt8} {c : UInt8} {st : St} {K : Int → St → Prop} (h : Finds st v al) (hl : (al.length : Int) ≤ 1000000) (hk : K (fnd al c) st) : callK Try.prog v [.int .u8 (c.toNat : Int)] [.one (.int .i64)] st K := by
  obtain ⟨b, rfl, hb, hc⟩ := h
  have hld : ldCell st [] (.t (.box b 0)) 0 = some (.str al) := by simp only [ldCell, hc]; rfl
  refine vc51 _ _ st K (optK_intro hld ?_)
  refine ⟨fun i c' v' n st' => v' = .box b 0 ∧ n = (al.length : Int) ∧ c' = (c.toNat : Int) ∧ st' = st ∧ 0 ≤ i ∧ i ≤ al.length ∧ ∀ j : Nat, (j : Int) < i → al.getD j 0 ≠ c, fun i _ _ _ _ => (al.length - i).toNat, ⟨rfl, rfl, rfl, rfl, by omega, by omega, fun j h => absurd h (by omega)⟩, ?_⟩
  rintro i _ _ _ _ ⟨rfl, rfl, rfl, rfl, h1, h2, h3⟩
  refine BIf_intro (fun h4 => optK_intro hld ⟨⟨h1, h4⟩, BIf_intro (fun h5 => ?_) fun h5 => ?_⟩) fun h4 => ?_
  · rw [byte_eq] at h5
    have := fnd_at _ c i.toNat (by omega) h5 (fun j hj => h3 j (by omega))
    rw [this] at hk
    rwa [show ((i.toNat : Nat) : Int) = i by omega] at hk
  · rw [byte_eq] at h5
    rw [wrap64 (i + 1) (by omega) (by omega)]
    refine ⟨⟨rfl, rfl, rfl, rfl, by omega, by omega, fun j hj => ?_⟩, by dsimp only; omega⟩
    by_cases hji : (j : Int) = i
    · have : j = i.toNat := by omega
      subst this; exact h5
    · exact h3 j (by omega)
  · rw [fnd_no _ c (fun j hj => h3 j (by omega))] at hk; exact hk

theorem finder_ok {al : List UInt8} {st : St} {K : TV → St → Prop} (hk : ∀ v st', StExt st st' → Finds st' v al → K v st') : CallT Try.prog 47 [.str al] [.one (.tv)] st K := by
  refine vc47 al st K (hk _ _ ((StExt.refl st).push _) ⟨st.nb, rfl, by simp [St.push], by simp [St.push]⟩)

/-! Hex. -/
def hexL (l : List UInt8) : List UInt8 := l.flatMap fun c => [bstr9.getD (c.toNat / 16) 0, bstr9.getD (c.toNat % 16) 0]
theorem hexL_length (l : List UInt8) : (hexL l).length = 2 * l.length := by
  induction l with
  | nil => rfl
  | cons a l ih => simp only [hexL, List.flatMap_cons, List.length_append] at ih ⊢; rw [ih]; simp; omega
theorem hexL_take (l : List UInt8) (i : Nat) (h : i < l.length) : hexL (l.take (i + 1)) = hexL (l.take i) ++ [bstr9.getD (l[i].toNat / 16) 0, bstr9.getD (l[i].toNat % 16) 0] := by
  rw [getD_take l i 0 h]
  simp only [hexL, List.flatMap_append, List.flatMap_cons, List.flatMap_nil, List.append_nil]
  rw [show l.getD i 0 = l[i] by simp [List.getD, h]]

theorem hi_eq (c : UInt8) : Int.fdiv (c.toNat : Int) (2 ^ (min (Int.toNat (4 : Int)) (IntKind.bits .u8))) = ((c.toNat / 16 : Nat) : Int) := by
  show Int.fdiv (c.toNat : Int) ((16 : Nat) : Int) = _
  rw [Int.fdiv_eq_ediv_of_nonneg _ (by omega)]; rfl
theorem lo_eq (c : UInt8) : bitsI .and .u8 (c.toNat : Int) (15 : Int) = ((c.toNat % 16 : Nat) : Int) := by
  have := byteLe c
  have h := and_u8 c.toNat 15 (by omega) (by omega)
  rw [show (15 : Nat) = 2 ^ 4 - 1 from rfl, Nat.and_two_pow_sub_one_eq_mod] at h
  exact h

theorem hex_ok {b : TV} {l : List UInt8} {st : St} {K : List UInt8 → St → Prop} (h : RdB b l) (hl : (l.length : Int) ≤ 1000000) (hk : ∀ st', StExt st st' → K (hexL l) st') : CallT Try.prog 44 [b] [.one (.str)] st K := by
  refine vc44 b st K (need_intro h.isSl ⟨?_, need_intro h.isSl ?_⟩)
  · rw [h.lenS, wrap64 _ (by omega) (by omega)]
    refine ⟨by omega, by omega, by omega⟩
  · refine ⟨fun out n v n2 st' => v = b ∧ n2 = (l.length : Int) ∧ 0 ≤ n ∧ n ≤ l.length ∧ StExt st st' ∧ OwnB st.nt st' out (hexL (l.take n.toNat)), fun _ n _ _ _ => (l.length - n).toNat, ⟨rfl, by rw [h.lenS], by omega, by omega, (StExt.refl st).fresh, Own.fresh 0 [] (Nat.le_refl _)⟩, ?_⟩
    rintro out n _ _ st' ⟨rfl, rfl, h1, h2, e, ho⟩
    refine BIf_intro (fun h3 => ?_) fun h3 => ?_
    · have hi : n.toNat < l.length := by omega
      refine ⟨⟨h1, by rw [h.lenZ]; omega⟩, optK_intro (h.ld _ n.toNat hi) ?_⟩
      show _ ∧ _ ∧ _
      rw [hi_eq, lo_eq]
      have hb := byteLe l[n.toNat]
      refine ⟨⟨by omega, by show _ < (16 : Int); omega⟩, ⟨by omega, by show _ < (16 : Int); omega⟩, ?_⟩
      have hh := hexL_length (l.take n.toNat)
      rw [List.length_take] at hh
      refine appK_bytes (ys := [bstr9.getD (l[n.toNat].toNat / 16) 0, bstr9.getD (l[n.toNat].toNat % 16) 0]) e ho (by simp; omega) fun v' st2 e2 hb2 ho2 => ?_
      rw [wrap64 _ (by omega) (by omega)]
      refine ⟨⟨rfl, rfl, by omega, by omega, e2, ?_⟩, by dsimp only; omega⟩
      rw [← hexL_take l n.toNat hi] at ho2
      rwa [show (n + 1).toNat = n.toNat + 1 by omega]
    · have : n.toNat = l.length := by omega
      rw [this, List.take_length] at ho
      refine optK_intro (x := .str (hexL l)) (by rw [ho.rd.toBytes]; rfl) ?_
      exact hk _ e

theorem rhex_ok {b : TV} {l : List UInt8} {st : St} {K : List UInt8 → St → Prop} (h : RdB b l) (hl : (l.length : Int) ≤ 1000000) (hk : ∀ st', StExt st st' → K (hexL l) st') : CallT Try.prog 45 [b] [.one (.str)] st K := by
  refine vc45 b st K ?_
  refine ⟨fun out n v st' => v = b ∧ 0 ≤ n ∧ n ≤ l.length ∧ StExt st st' ∧ OwnB st.nt st' out (hexL (l.take n.toNat)), fun _ n _ _ => (l.length - n).toNat, ⟨rfl, by omega, by omega, StExt.refl st, OwnB.nil _ _⟩, ?_⟩
  rintro out n _ st' ⟨rfl, h1, h2, e, ho⟩
  refine need_intro h.isSl ?_
  rw [h.lenS, h.lenZ]
  refine BIf_intro (fun h3 => ?_) fun h3 => ?_
  · have hi : n.toNat < l.length := by omega
    refine ⟨⟨h1, by omega⟩, optK_intro (h.ld _ n.toNat hi) ?_⟩
    show _ ∧ _ ∧ _
    rw [hi_eq]
    have hb := byteLe l[n.toNat]
    refine ⟨⟨by omega, by show _ < (16 : Int); omega⟩, ⟨h1, by omega⟩, optK_intro (h.ld _ n.toNat hi) ?_⟩
    show _ ∧ _
    rw [lo_eq]
    refine ⟨⟨by omega, by show _ < (16 : Int); omega⟩, ?_⟩
    have hh := hexL_length (l.take n.toNat)
    rw [List.length_take] at hh
    refine appK_bytes (ys := [bstr9.getD (l[n.toNat].toNat / 16) 0, bstr9.getD (l[n.toNat].toNat % 16) 0]) e ho (by simp; omega) fun v' st2 e2 hb2 ho2 => ?_
    rw [wrap64 _ (by omega) (by omega)]
    refine ⟨⟨rfl, by omega, by omega, e2, ?_⟩, by dsimp only; omega⟩
    rw [← hexL_take l n.toNat hi] at ho2
    rwa [show (n + 1).toNat = n.toNat + 1 by omega]
  · have : n.toNat = l.length := by omega
    rw [this, List.take_length] at ho
    refine optK_intro (x := .str (hexL l)) (by rw [ho.rd.toBytes]; rfl) ?_
    exact hk _ e
end Go.TVF
