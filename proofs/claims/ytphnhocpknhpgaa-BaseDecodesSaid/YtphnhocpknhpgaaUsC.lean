/- Base: Unhex and Encode. -/
import Derived.Test.YtphnhocpknhpgaaUsB
set_option linter.unusedVariables false
set_option linter.unusedSimpArgs false
namespace Go.TVF
open Go Go.Proofs

def v16 (c : UInt8) : Nat := (fnd bstr9 c).toNat
def unP : List UInt8 → List UInt8
  | a :: b :: r => UInt8.ofNat (v16 a * 16 + v16 b) :: unP r
  | _ => []
def okHex (s : List UInt8) : Prop := ∀ j, j < s.length → 0 ≤ fnd bstr9 (s.getD j 0)
open Classical in
noncomputable def unhexR (s : List UInt8) : Int := if okHex s then (if s.length % 2 = 1 then 4 else 0) else 3
open Classical in
noncomputable def unhexO (s : List UInt8) : List UInt8 := if okHex s then (if s.length % 2 = 1 then [] else unP s) else []

theorem drop2 (s : List UInt8) (i : Nat) (h : i + 1 < s.length) : s.drop i = s.getD i 0 :: s.getD (i + 1) 0 :: s.drop (i + 2) := by
  rw [List.drop_eq_getElem_cons (by omega), List.drop_eq_getElem_cons (by omega)]
  simp [List.getD, show i < s.length by omega, h]

theorem pow4 : (2 : Int) ^ (min (Int.toNat (4 : Int)) (IntKind.bits .i64)) = 16 := by decide
theorem pow8 : (2 : Int) ^ (min (Int.toNat (8 : Int)) (IntKind.bits .i64)) = 256 := by decide
theorem pow6 : (2 : Int) ^ (min (Int.toNat (6 : Int)) (IntKind.bits .i64)) = 64 := by decide

theorem hexbyte (x y : Int) (hx : 0 ≤ x) (hx2 : x < 16) (hy : 0 ≤ y) (hy2 : y < 16) :
    IntKind.u8.wrap (bitsI .or .i64 (IntKind.i64.wrap (x * 2 ^ (min (Int.toNat (4 : Int)) (IntKind.bits .i64)))) y) = ((x.toNat * 16 + y.toNat : Nat) : Int) := by
  rw [pow4, wrap64 _ (by omega) (by omega)]
  have := or_add x.toNat y.toNat 4 (by omega) (by omega)
  rw [show x * 16 = ((x.toNat * 2 ^ 4 : Nat) : Int) by omega, show y = ((y.toNat : Nat) : Int) by omega, this]
  rw [wrapU8 _ (by omega) (by omega)]
  omega

theorem v16_lt (c : UInt8) : fnd bstr9 c < 16 := fnd_lt bstr9 c

theorem unhex_ok {s : List UInt8} {st : St} {K : TV → Int → St → Prop} (hl : (s.length : Int) ≤ 1000000) (hk : ∀ v st', StExt st st' → RdB v (unhexO s) → K v (unhexR s) st') : CallT Try.prog 42 [.str s] [.one (.tv), .one (.int .i64)] st K := by
  refine vc42 s st K (finder_ok fun v st1 e1 hf => ?_)
  refine ⟨fun n s' v' n2 st' => s = s' ∧ v = v' ∧ (s.length : Int) = n2 ∧ st1 = st' ∧ 0 ≤ n ∧ n ≤ s.length ∧ ∀ j : Nat, (j : Int) < n → 0 ≤ fnd bstr9 (s.getD j 0), fun n _ _ _ _ => (s.length - n).toNat, ⟨rfl, rfl, rfl, rfl, by omega, by omega, fun j h => absurd h (by omega)⟩, ?_⟩
  rintro n _ _ _ _ ⟨rfl, rfl, rfl, rfl, h1, h2, h3⟩
  refine BIf_intro (fun h4 => ⟨⟨h1, h4⟩, value_ok hf (by decide) (BIf_intro (fun h5 => ?_) fun h5 => ?_)⟩) fun h4 => ?_
  · have hno : ¬ okHex s := fun ho => absurd (ho n.toNat (by omega)) (by omega)
    have := hk .nilSlice _ e1 (by simp only [unhexO, if_neg hno]; exact .inl ⟨rfl, rfl, rfl⟩)
    simpa only [unhexR, if_neg hno] using this
  · rw [wrap64 (n + 1) (by omega) (by omega)]
    refine ⟨⟨rfl, rfl, rfl, rfl, by omega, by omega, fun j hj => ?_⟩, by dsimp only; omega⟩
    by_cases hji : (j : Int) = n
    · have : j = n.toNat := by omega
      subst this; omega
    · exact h3 j (by omega)
  · have ho : okHex s := fun j hj => h3 j (by omega)
    rw [show Int.tmod (s.length : Int) 2 = ((s.length % 2 : Nat) : Int) by rw [Int.tmod_eq_emod_of_nonneg (by omega)]; rfl]
    refine BIf_intro (fun h5 => ?_) fun h5 => ?_
    · have hodd : s.length % 2 = 1 := by omega
      have := hk .nilSlice _ e1 (by simp only [unhexO, if_pos ho, if_pos hodd]; exact .inl ⟨rfl, rfl, rfl⟩)
      simpa only [unhexR, if_pos ho, if_pos hodd] using this
    · have hev : s.length % 2 = 0 := by omega
      refine ⟨fun out i s2 v2 st2 => s = s2 ∧ v = v2 ∧ 0 ≤ i ∧ i ≤ s.length ∧ i % 2 = 0 ∧ StExt st1 st2 ∧ ∃ o, OwnB st1.nt st2 out o ∧ o ++ unP (s.drop i.toNat) = unP s ∧ (o.length : Int) ≤ i, fun _ i _ _ _ => (s.length - i).toNat, ⟨rfl, rfl, by omega, by omega, by omega, StExt.refl _, [], OwnB.nil _ _, rfl, by simp⟩, ?_⟩
      rintro out i _ _ st2 ⟨rfl, rfl, g1, g2, g3, e2, o, hown, ho1, ho2⟩
      refine BIf_intro (fun g4 => ?_) fun g4 => ?_
      · have hw : IntKind.i64.wrap (i + 1) = i + 1 := wrap64 _ (by omega) (by omega)
        rw [hw]
        refine ⟨⟨g1, g4⟩, ⟨by omega, by omega⟩, value_ok (hf.ext e2) (by decide) (value_ok (hf.ext e2) (by decide) ?_)⟩
        have a1 := ho i.toNat (by omega)
        have a2 := ho (i + 1).toNat (by omega)
        rw [hexbyte _ _ a1 (v16_lt _) a2 (v16_lt _)]
        have a3 := v16_lt (s.getD i.toNat 0)
        have a4 := v16_lt (s.getD (i + 1).toNat 0)
        rw [← byteOf _ (by omega)]
        refine appK_bytes (st0 := st1) (ys := [UInt8.ofNat ((fnd bstr9 (s.getD i.toNat 0)).toNat * 16 + (fnd bstr9 (s.getD (i + 1).toNat 0)).toNat)]) e2 hown (by simp; omega) fun v3 st3 e3 hb3 ho3 => ?_
        rw [wrap64 (i + 2) (by omega) (by omega)]
        refine ⟨⟨rfl, rfl, by omega, by omega, by omega, e3, _, ho3, ?_, by simp; omega⟩, by dsimp only; omega⟩
        rw [← ho1, List.append_assoc]
        congr 1
        rw [drop2 s i.toNat (by omega), show (i + 2).toNat = i.toNat + 2 by omega, show (i + 1).toNat = i.toNat + 1 by omega]
        rfl
      · have := hk out st2 (e1.trans e2) (by
          simp only [unhexO, if_pos ho, if_neg (show ¬ s.length % 2 = 1 by omega)]
          rw [← ho1, List.drop_of_length_le (by omega)]
          simpa [unP] using hown.rd)
        simpa only [unhexR, if_pos ho, if_neg (show ¬ s.length % 2 = 1 by omega)] using this

theorem runhex_ok {s : List UInt8} {st : St} {K : TV → Int → St → Prop} (hl : (s.length : Int) ≤ 1000000) (hk : ∀ v st', StExt st st' → RdB v (unhexO s) → K v (unhexR s) st') : CallT Try.prog 43 [.str s] [.one (.tv), .one (.int .i64)] st K := by
  refine vc43 s st K ?_
  refine ⟨fun n s' st' => s = s' ∧ st = st' ∧ 0 ≤ n ∧ n ≤ s.length ∧ ∀ j : Nat, (j : Int) < n → 0 ≤ fnd bstr9 (s.getD j 0), fun n _ _ => (s.length - n).toNat, ⟨rfl, rfl, by omega, by omega, fun j h => absurd h (by omega)⟩, ?_⟩
  rintro n _ _ ⟨rfl, rfl, h1, h2, h3⟩
  refine BIf_intro (fun h4 => ⟨⟨h1, h4⟩, find48_ok (by decide) (BIf_intro (fun h5 => ?_) fun h5 => ?_)⟩) fun h4 => ?_
  · have hno : ¬ okHex s := fun ho => absurd (ho n.toNat (by omega)) (by omega)
    have := hk .nilSlice _ (StExt.refl _) (by simp only [unhexO, if_neg hno]; exact .inl ⟨rfl, rfl, rfl⟩)
    simpa only [unhexR, if_neg hno] using this
  · rw [wrap64 (n + 1) (by omega) (by omega)]
    refine ⟨⟨rfl, rfl, by omega, by omega, fun j hj => ?_⟩, by dsimp only; omega⟩
    by_cases hji : (j : Int) = n
    · have : j = n.toNat := by omega
      subst this; omega
    · exact h3 j (by omega)
  · have ho : okHex s := fun j hj => h3 j (by omega)
    rw [show Int.tmod (s.length : Int) 2 = ((s.length % 2 : Nat) : Int) by rw [Int.tmod_eq_emod_of_nonneg (by omega)]; rfl]
    refine BIf_intro (fun h5 => ?_) fun h5 => ?_
    · have hodd : s.length % 2 = 1 := by omega
      have := hk .nilSlice _ (StExt.refl _) (by simp only [unhexO, if_pos ho, if_pos hodd]; exact .inl ⟨rfl, rfl, rfl⟩)
      simpa only [unhexR, if_pos ho, if_pos hodd] using this
    · have hev : s.length % 2 = 0 := by omega
      refine ⟨fun out i s2 st2 => s = s2 ∧ 0 ≤ i ∧ i ≤ s.length ∧ i % 2 = 0 ∧ StExt st st2 ∧ ∃ o, OwnB st.nt st2 out o ∧ o ++ unP (s.drop i.toNat) = unP s ∧ (o.length : Int) ≤ i, fun _ i _ _ => (s.length - i).toNat, ⟨rfl, by omega, by omega, by omega, StExt.refl _, [], OwnB.nil _ _, rfl, by simp⟩, ?_⟩
      rintro out i _ st2 ⟨rfl, g1, g2, g3, e2, o, hown, ho1, ho2⟩
      refine BIf_intro (fun g4 => ?_) fun g4 => ?_
      · have hw : IntKind.i64.wrap (i + 1) = i + 1 := wrap64 _ (by omega) (by omega)
        rw [hw]
        refine ⟨⟨g1, g4⟩, ⟨by omega, by omega⟩, find48_ok (by decide) (find48_ok (by decide) ?_)⟩
        have a1 := ho i.toNat (by omega)
        have a2 := ho (i + 1).toNat (by omega)
        rw [hexbyte _ _ a1 (v16_lt _) a2 (v16_lt _)]
        have a3 := v16_lt (s.getD i.toNat 0)
        have a4 := v16_lt (s.getD (i + 1).toNat 0)
        rw [← byteOf _ (by omega)]
        refine appK_bytes (st0 := st) (ys := [UInt8.ofNat ((fnd bstr9 (s.getD i.toNat 0)).toNat * 16 + (fnd bstr9 (s.getD (i + 1).toNat 0)).toNat)]) e2 hown (by simp; omega) fun v3 st3 e3 hb3 ho3 => ?_
        rw [wrap64 (i + 2) (by omega) (by omega)]
        refine ⟨⟨rfl, by omega, by omega, by omega, e3, _, ho3, ?_, by simp; omega⟩, by dsimp only; omega⟩
        rw [← ho1, List.append_assoc]
        congr 1
        rw [drop2 s i.toNat (by omega), show (i + 2).toNat = i.toNat + 2 by omega, show (i + 1).toNat = i.toNat + 1 by omega]
        rfl
      · have := hk out st2 e2 (by
          simp only [unhexO, if_pos ho, if_neg (show ¬ s.length % 2 = 1 by omega)]
          rw [← ho1, List.drop_of_length_le (by omega)]
          simpa [unP] using hown.rd)
        simpa only [unhexR, if_pos ho, if_neg (show ¬ s.length % 2 = 1 by omega)] using this

theorem same_ok {a b : TV} {l r : List UInt8} {st : St} {K : Bool → St → Prop} (ha : RdB a l) (hb : RdB b r) (hk : K (decide (l = r)) st) : CallT Try.prog 35 [a, b] [.one (.bool)] st K := by
  refine vc35 a b st K (optK_intro (x := .str l) (by rw [ha.toBytes]; rfl) ?_)
  refine optK_intro (x := .str r) (by rw [hb.toBytes]; rfl) ?_
  exact hk
end Go.TVF
