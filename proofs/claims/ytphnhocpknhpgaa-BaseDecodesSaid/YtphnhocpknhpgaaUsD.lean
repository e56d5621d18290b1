/- Base: Encode. -/
import Derived.Test.YtphnhocpknhpgaaUsC
set_option linter.unusedVariables false
set_option linter.unusedSimpArgs false
namespace Go.TVF
open Go Go.Proofs

/-- The first k bytes as a number. -/
def W (d : List UInt8) : Nat → Nat
  | 0 => 0
  | k + 1 => W d k * 256 + (d.getD k 0).toNat
theorem W_lt (d : List UInt8) : ∀ k, W d k < 256 ^ k
  | 0 => by simp [W]
  | k + 1 => by
    have h1 := W_lt d k
    have h2 := byteLe (d.getD k 0)
    rw [W, Nat.pow_succ]; omega
def grpk (d : List UInt8) (pad : Bool) (k : Nat) : List UInt8 :=
  if k ≤ min 3 d.length then [bstr8.getD (W d 3 / 2 ^ (18 - 6 * k) % 64) 0] else if pad = true then [61] else []
def grp (d : List UInt8) (pad : Bool) (k : Nat) : List UInt8 := (List.range k).flatMap (grpk d pad)
theorem grp_succ (d : List UInt8) (pad : Bool) (k : Nat) : grp d pad (k + 1) = grp d pad k ++ grpk d pad k := by
  simp [grp, List.range_succ]
theorem grpk_le (d : List UInt8) (pad : Bool) (k : Nat) : (grpk d pad k).length ≤ 1 := by
  unfold grpk; split <;> (try split) <;> simp
theorem grp_le (d : List UInt8) (pad : Bool) : ∀ k, (grp d pad k).length ≤ k
  | 0 => by simp [grp]
  | k + 1 => by
    rw [grp_succ, List.length_append]
    have := grp_le d pad k
    have := grpk_le d pad k
    omega

def encG (pad : Bool) : List UInt8 → List UInt8
  | [] => []
  | a :: r => grp (a :: r) pad 4 ++ encG pad ((a :: r).drop 3)
termination_by l => l.length
decreasing_by simp; omega

theorem encG_nil (pad : Bool) : encG pad [] = [] := by rw [encG]
theorem encG_step (pad : Bool) (d : List UInt8) (h : 0 < d.length) : encG pad d = grp d pad 4 ++ encG pad (d.drop 3) := by
  cases d with
  | nil => simp at h
  | cons a r => rw [encG]

theorem shr_i64 (x m : Nat) (h : m ≤ 64) : Int.fdiv (x : Int) (2 ^ (min m (IntKind.bits .i64))) = ((x / 2 ^ m : Nat) : Int) := by
  rw [show min m (IntKind.bits .i64) = m from Nat.min_eq_left h, show (2 : Int) ^ m = ((2 ^ m : Nat) : Int) by simp, Int.fdiv_eq_ediv_of_nonneg _ (Int.natCast_nonneg _)]
  rfl

theorem enc_ok {b : TV} {l : List UInt8} {pad : Bool} {st : St} {K : List UInt8 → St → Prop} (h : RdB b l) (hl : (l.length : Int) ≤ 1000000) (hk : ∀ st', StExt st st' → K (encG pad l) st') : CallT Try.prog 36 [b, .bool pad] [.one (.str)] st K := by
  refine vc36 b pad st K ⟨fun out i b' pad' st1 => b = b' ∧ pad = pad' ∧ StExt st st1 ∧ 0 ≤ i ∧ i ≤ 1000002 ∧ ∃ o, OwnB st.nt st1 out o ∧ o ++ encG pad (l.drop i.toNat) = encG pad l ∧ (o.length : Int) ≤ 2 * i, fun _ i _ _ _ => (l.length - i).toNat, ⟨rfl, rfl, StExt.refl _, by omega, by omega, [], OwnB.nil _ _, rfl, by simp⟩, ?_⟩
  rintro out i _ _ st1 ⟨rfl, rfl, e1, h1, h1', o, hown, ho1, ho2⟩
  refine need_intro h.isSl ?_
  rw [h.lenS]
  refine BIf_intro (fun h2 => need_intro h.isSl ?_) fun h2 => ?_
  · have hd : (l.drop i.toNat).length = l.length - i.toNat := by simp
    rw [wrap64 ((l.length : Int) - i) (by omega) (by omega)]
    refine ⟨fun word n b' pad' out' i' n2 st2 => b = b' ∧ pad = pad' ∧ out = out' ∧ i = i' ∧ n2 = min (3 : Int) (l.length - i) ∧ st1 = st2 ∧ 0 ≤ n ∧ n ≤ 3 ∧ word = (W (l.drop i.toNat) n.toNat : Nat), fun _ n _ _ _ _ _ _ => (3 - n).toNat, ⟨rfl, rfl, rfl, rfl, rfl, rfl, by omega, by omega, rfl⟩, ?_⟩
    rintro word n _ _ _ _ n2 _ ⟨rfl, rfl, rfl, rfl, hn2, rfl, g1, g2, rfl⟩
    refine BIf_intro (fun g3 => BIf_intro (fun g4 => ?_) fun g4 => ?_) fun g3 => ?_
    · have hW := W_lt (l.drop i.toNat) n.toNat
      have hW2 : 256 ^ n.toNat ≤ 256 ^ 2 := Nat.pow_le_pow_right (by decide) (by omega)
      have hi : (i + n).toNat < l.length := by omega
      rw [wrap64 (i + n) (by omega) (by omega), h.lenZ, wrap64 (n + 1) (by omega) (by omega)]
      refine ⟨⟨by omega, by omega⟩, optK_intro (h.ld _ (i + n).toNat hi) ?_⟩
      show (_ ∧ _)
      have hb := byteLe l[(i + n).toNat]
      refine ⟨⟨rfl, rfl, rfl, rfl, hn2, rfl, by omega, by omega, ?_⟩, by dsimp only; omega⟩
      rw [pow8, wrapB8 _ hb, wrap64 _ (by omega) (by omega)]
      have := or_add (W (l.drop i.toNat) n.toNat) l[(i + n).toNat].toNat 8 (by omega) (by omega)
      rw [show ((W (l.drop i.toNat) n.toNat : Nat) : Int) * 256 = ((W (l.drop i.toNat) n.toNat * 2 ^ 8 : Nat) : Int) by omega, this, show (n + 1).toNat = n.toNat + 1 by omega, W]
      have hg : (l.drop i.toNat).getD n.toNat 0 = l[(i + n).toNat] := by
        have : i.toNat + n.toNat = (i + n).toNat := by omega
        simp [List.getD, this, hi]
      rw [hg]
    · have hW := W_lt (l.drop i.toNat) n.toNat
      have hW2 : 256 ^ n.toNat ≤ 256 ^ 2 := Nat.pow_le_pow_right (by decide) (by omega)
      rw [wrap64 (n + 1) (by omega) (by omega)]
      refine ⟨⟨rfl, rfl, rfl, rfl, hn2, rfl, by omega, by omega, ?_⟩, by dsimp only; omega⟩
      rw [pow8, wrap64 _ (by omega) (by omega), show (n + 1).toNat = n.toNat + 1 by omega, W]
      have hg : (l.drop i.toNat).getD n.toNat 0 = 0 := by
        have : (l.drop i.toNat).length ≤ n.toNat := by rw [hd]; omega
        simp only [List.getD]
        rw [List.getElem?_eq_none (by omega)]; rfl
      rw [hg]
      show _ = ((_ + 0 : Nat) : Int)
      omega
    · have hn3 : n.toNat = 3 := by omega
      rw [hn3]
      refine ⟨fun out' k b' pad' i' n4 word st2 => b = b' ∧ pad = pad' ∧ i = i' ∧ n2 = n4 ∧ word = (W (l.drop i.toNat) 3 : Nat) ∧ StExt st st2 ∧ 0 ≤ k ∧ k ≤ 4 ∧ OwnB st.nt st2 out' (o ++ grp (l.drop i.toNat) pad k.toNat), fun _ k _ _ _ _ _ _ => (4 - k).toNat, ⟨rfl, rfl, rfl, rfl, rfl, e1, by omega, by omega, by simpa [grp] using hown⟩, ?_⟩
      rintro out' k _ _ _ _ word st2 ⟨rfl, rfl, rfl, rfl, rfl, e2, k1, k2, hown2⟩
      have hgl := grp_le (l.drop i.toNat) pad k.toNat
      have hlen : (o ++ grp (l.drop i.toNat) pad k.toNat).length ≤ o.length + 4 := by rw [List.length_append]; omega
      have hmin : min 3 (l.drop i.toNat).length = (min (3 : Int) (l.length - i)).toNat := by rw [hd]; omega
      refine BIf_intro (fun k3 => ?_) fun k3 => ?_
      · have hw1 : IntKind.i64.wrap (k + 1) = k + 1 := wrap64 _ (by omega) (by omega)
        have ht : (k + 1).toNat = k.toNat + 1 := by omega
        rw [hw1]
        refine BIf_intro (fun k4 => ?_) fun k4 => BIf_iff.2 ⟨fun hp => ?_, fun hp => ?_⟩
        · rw [wrap64 (6 * k) (by omega) (by omega), wrap64 (18 - 6 * k) (by omega) (by omega)]
          have hW := W_lt (l.drop i.toNat) 3
          have hq : W (l.drop i.toNat) 3 / 2 ^ (18 - 6 * k).toNat < 2 ^ 63 := Nat.lt_of_le_of_lt (Nat.div_le_self _ _) (by omega)
          have hand := and_mask (W (l.drop i.toNat) 3 / 2 ^ (18 - 6 * k).toNat) 6 hq (by decide)
          rw [shr_i64 _ _ (by omega), show (63 : Int) = ((2 ^ 6 - 1 : Nat) : Int) by decide, hand]
          have hm : W (l.drop i.toNat) 3 / 2 ^ (18 - 6 * k).toNat % 2 ^ 6 < 64 := Nat.mod_lt _ (by decide)
          refine need_intro (decide_eq_true (by omega)) ⟨⟨by omega, by show _ < (64 : Int); omega⟩, ?_⟩
          refine appK_bytes (ys := [bstr8.getD (W (l.drop i.toNat) 3 / 2 ^ (18 - 6 * k).toNat % 2 ^ 6) 0]) e2 hown2 (by simp at hlen ⊢; omega) fun v' st3 e3 _ hown3 => ?_
          refine ⟨⟨rfl, rfl, rfl, rfl, rfl, e3, by omega, by omega, ?_⟩, by dsimp only; omega⟩
          rw [ht, grp_succ, grpk, if_pos (by omega), show 18 - 6 * k.toNat = (18 - 6 * k).toNat by omega, ← List.append_assoc]
          exact hown3
        · refine appK_bytes (ys := [61]) e2 hown2 (by simp at hlen ⊢; omega) fun v' st3 e3 _ hown3 => ?_
          refine ⟨⟨rfl, rfl, rfl, rfl, rfl, e3, by omega, by omega, ?_⟩, by dsimp only; omega⟩
          rw [ht, grp_succ, grpk, if_neg (by omega), if_pos hp, ← List.append_assoc]
          exact hown3
        · refine ⟨⟨rfl, rfl, rfl, rfl, rfl, e2, by omega, by omega, ?_⟩, by dsimp only; omega⟩
          rw [ht, grp_succ, grpk, if_neg (by omega), if_neg (by simp [hp]), List.append_nil]
          exact hown2
      · have hk4 : k.toNat = 4 := by omega
        rw [hk4] at hown2 hlen
        rw [wrap64 (i + 3) (by omega) (by omega)]
        refine ⟨⟨rfl, rfl, e2, by omega, by omega, _, hown2, ?_, by omega⟩, by dsimp only; omega⟩
        rw [← ho1, encG_step pad (l.drop i.toNat) (by omega), List.append_assoc, List.drop_drop, show (i + 3).toNat = i.toNat + 3 by omega]
  · rw [List.drop_of_length_le (by omega), encG_nil, List.append_nil] at ho1
    rw [ho1] at hown
    refine optK_intro (x := .str (encG pad l)) (by rw [hown.rd.toBytes]; rfl) ?_
    exact hk _ e1
end Go.TVF
