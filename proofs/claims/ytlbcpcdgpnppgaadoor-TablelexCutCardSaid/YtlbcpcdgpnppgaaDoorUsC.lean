/- tablelex: quoted strings: their parts, program and reference. -/
import Derived.Test.YtlbcpcdgpnppgaaDoorUsB
set_option linter.unusedVariables false
set_option linter.unusedSimpArgs false
namespace Go.TVF
open Go Go.Proofs

/-! Appending a character. -/
theorem wrapU32 (x : Int) (h1 : 0 ≤ x) (h2 : x ≤ 4294967295) : IntKind.wrap .u32 x = x := by
  unfold IntKind.wrap
  simp only [IntKind.signed, IntKind.bits]
  simp
  omega
theorem wrap32 (x : Int) (h1 : -2147483648 ≤ x) (h2 : x ≤ 2147483647) : IntKind.wrap .i32 x = x := by
  unfold IntKind.wrap
  simp only [IntKind.signed, IntKind.bits]
  simp
  omega
theorem u8wrapN (n : Nat) : IntKind.wrap .u8 (n : Int) = ((n % 256 : Nat) : Int) := by rw [u8wrap]; simp
theorem or_u8 (x y : Nat) (hx : x < 2 ^ 8) (hy : y < 2 ^ 8) : bitsI .or .u8 (x : Int) (y : Int) = ((x ||| y : Nat) : Int) := by
  have h : x ||| y < 2 ^ 8 := Nat.or_lt_two_pow hx hy
  show IntKind.wrap .u8 ((BitVec.ofInt 8 (x : Int) ||| BitVec.ofInt 8 (y : Int)).toNat : Int) = _
  simp only [BitVec.ofInt_natCast, BitVec.toNat_or, BitVec.toNat_ofNat]
  rw [Nat.mod_eq_of_lt (by omega), Nat.mod_eq_of_lt (by omega), wrapU8 _ (by omega) (by omega)]
theorem or8N (a b m : Nat) (hb : b < 2 ^ m) (h : a * 2 ^ m + b < 2 ^ 8) (x y : Int) (hx : x = ((a * 2 ^ m : Nat) : Int)) (hy : y = (b : Int)) : bitsI .or .u8 x y = ((a * 2 ^ m + b : Nat) : Int) := by
  have hb' : b < 2 ^ 8 := by omega
  rw [hx, hy, or_u8 _ _ (by omega) hb', Nat.mul_comm a, Nat.two_pow_add_eq_or_of_lt hb]
theorem low6 (x : Nat) : bitsI .and .u8 (IntKind.u8.wrap (x : Int)) (63 : Int) = ((x % 64 : Nat) : Int) := by
  rw [u8wrapN, show (63 : Int) = ((63 : Nat) : Int) from rfl, and_u8 _ _ (by omega) (by omega), show (63 : Nat) = 2 ^ 6 - 1 from rfl, Nat.and_two_pow_sub_one_eq_mod]
  congr 1; omega
theorem cont8 (x : Nat) : bitsI .or .u8 (128 : Int) (bitsI .and .u8 (IntKind.u8.wrap (x : Int)) (63 : Int)) = (((UInt8.ofNat (128 + x % 64)).toNat : Nat) : Int) := by
  rw [low6, or8N 2 (x % 64) 6 (by omega) (by omega) (128 : Int) _ rfl rfl]
  simp
  omega
theorem lead8 (a b m : Nat) (hb : b < 2 ^ m) (h : a * 2 ^ m + b < 2 ^ 8) (x : Int) (hx : x = ((a * 2 ^ m : Nat) : Int)) : bitsI .or .u8 x (IntKind.u8.wrap (b : Int)) = (((UInt8.ofNat (a * 2 ^ m + b)).toNat : Nat) : Int) := by
  have hb' : b < 256 := by omega
  rw [u8wrapN, Nat.mod_eq_of_lt hb', or8N a b m hb h _ _ hx rfl, UInt8.toNat_ofNat', Nat.mod_eq_of_lt (show a * 2 ^ m + b < 2 ^ 8 from h)]

theorem encU_len (r : Nat) : 1 ≤ (encU r).length ∧ (encU r).length ≤ 4 := by
  unfold encU
  repeat' split
  all_goals simp

theorem appK_ys {T : Nat} {st0 st : St} {v : TV} {l ys : List UInt8} {k : Nat} {xs : List TV} {K : TV → St → Prop} (e : StExt st0 st) (h : OwnB st0.nt st v l) (hkl : k = ys.length) (hx : xs = bytesT ys) (hby : l.length + ys.length ≤ 140737488355328)
    (hK : ∀ v' st', StExt st0 st' → st'.box = st.box → OwnB st0.nt st' v' (l ++ ys) → K v' st') : appK T 1 1 v k xs st K := by
  subst hkl hx
  exact appK_bytes e h hby hK

theorem appendRune_ok {R : Int} {r : Nat} {st0 st : St} {v : TV} {l : List UInt8} {K : TV → St → Prop} (hR : R = (r : Int)) (hc : isChar r) (e : StExt st0 st) (h : OwnB st0.nt st v l) (hby : l.length ≤ 140737488355320)
    (hk : ∀ v' st', StExt st0 st' → OwnB st0.nt st' v' (l ++ encU r) → K v' st') : CallT PR fn_utf8_AppendRune [v, .int .i32 R] [.one (.tv)] st K := by
  have hr2 : r ≤ 1114111 := hc.1
  have hu : IntKind.u32.wrap R = R := wrapU32 _ (by omega) (by omega)
  have hel := encU_len r
  have shr : ∀ m, m ≤ 32 → Int.fdiv R (2 ^ (min m (IntKind.bits .i32))) = ((r / 2 ^ m : Nat) : Int) := fun m hm => by
    rw [hR, show min m (IntKind.bits .i32) = m from Nat.min_eq_left hm, show (2 : Int) ^ m = ((2 ^ m : Nat) : Int) by simp, Int.fdiv_eq_ediv_of_nonneg _ (Int.natCast_nonneg _)]
    rfl
  have s6 := shr 6 (by decide)
  have s12 := shr 12 (by decide)
  have s18 := shr 18 (by decide)
  have cR : bitsI .or .u8 (128 : Int) (bitsI .and .u8 (IntKind.u8.wrap R) (63 : Int)) = (((UInt8.ofNat (128 + r % 64)).toNat : Nat) : Int) := by rw [hR]; exact cont8 r
  have i6 : Int.toNat (6 : Int) = 6 := rfl
  have i12 : Int.toNat (12 : Int) = 12 := rfl
  have i18 : Int.toNat (18 : Int) = 18 := rfl
  refine vc_utf8_AppendRune v R st K ?_
  rw [hu]
  refine BIf_intro (fun h1 => ?_) fun h1 => ?_
  · have hE : encU r = [UInt8.ofNat r] := by unfold encU; rw [if_pos (by omega)]
    rw [hE] at hk hel
    exact appK_ys e h rfl (by simp only [bytesT, List.map, byteT]; rw [hR, u8wrap]) (by simp; omega) fun v' st' e' _ ho => hk v' st' e' ho
  · refine vc_utf8_appendRuneNonASCII v R st _ ?_
    rw [hu]
    refine BIf_intro (fun h2 => ?_) fun h2 => ?_
    · have hE : encU r = [UInt8.ofNat (192 + r / 64), UInt8.ofNat (128 + r % 64)] := by unfold encU; rw [if_neg (by omega), if_pos (by omega)]
      rw [hE] at hk
      refine appK_ys e h rfl ?_ (by simp; omega) fun v' st' e' _ ho => hk v' st' e' ho
      simp only [bytesT, List.map, byteT]
      rw [cR, i6, s6, lead8 6 (r / 2 ^ 6) 5 (by omega) (by omega) (192 : Int) rfl]
    · have t3 : r < 65536 → appK 5 1 1 v 3 [(.int .u8 (bitsI .or .u8 (224 : Int) (IntKind.u8.wrap (Int.fdiv R (2 ^ (min (Int.toNat (12 : Int)) (IntKind.bits .i32))))))), (.int .u8 (bitsI .or .u8 (128 : Int) (bitsI .and .u8 (IntKind.u8.wrap (Int.fdiv R (2 ^ (min (Int.toNat (6 : Int)) (IntKind.bits .i32))))) (63 : Int)))), (.int .u8 (bitsI .or .u8 (128 : Int) (bitsI .and .u8 (IntKind.u8.wrap R) (63 : Int))))] st K := by
        intro h3
        have hE : encU r = [UInt8.ofNat (224 + r / 4096), UInt8.ofNat (128 + r / 64 % 64), UInt8.ofNat (128 + r % 64)] := by unfold encU; rw [if_neg (by omega), if_neg (by omega), if_pos (by omega)]
        rw [hE] at hk
        refine appK_ys e h rfl ?_ (by simp; omega) fun v' st' e' _ ho => hk v' st' e' ho
        simp only [bytesT, List.map, byteT]
        rw [cR, i6, i12, s6, s12, lead8 14 (r / 2 ^ 12) 4 (by omega) (by omega) (224 : Int) rfl, cont8]
      have t4 : ¬ r < 65536 → appK 5 1 1 v 4 [(.int .u8 (bitsI .or .u8 (240 : Int) (IntKind.u8.wrap (Int.fdiv R (2 ^ (min (Int.toNat (18 : Int)) (IntKind.bits .i32))))))), (.int .u8 (bitsI .or .u8 (128 : Int) (bitsI .and .u8 (IntKind.u8.wrap (Int.fdiv R (2 ^ (min (Int.toNat (12 : Int)) (IntKind.bits .i32))))) (63 : Int)))), (.int .u8 (bitsI .or .u8 (128 : Int) (bitsI .and .u8 (IntKind.u8.wrap (Int.fdiv R (2 ^ (min (Int.toNat (6 : Int)) (IntKind.bits .i32))))) (63 : Int)))), (.int .u8 (bitsI .or .u8 (128 : Int) (bitsI .and .u8 (IntKind.u8.wrap R) (63 : Int))))] st K := by
        intro h3
        have hE : encU r = [UInt8.ofNat (240 + r / 262144), UInt8.ofNat (128 + r / 4096 % 64), UInt8.ofNat (128 + r / 64 % 64), UInt8.ofNat (128 + r % 64)] := by unfold encU; rw [if_neg (by omega), if_neg (by omega), if_neg (by omega)]
        rw [hE] at hk
        refine appK_ys e h rfl ?_ (by simp; omega) fun v' st' e' _ ho => hk v' st' e' ho
        simp only [bytesT, List.map, byteT]
        rw [cR, i6, i12, i18, s6, s12, s18, lead8 30 (r / 2 ^ 18) 3 (by omega) (by omega) (240 : Int) rfl, cont8, cont8]
      unfold isChar at hc
      refine BIf_intro (fun h3 => BIf_intro (fun _ => t3 (by omega)) fun h4 => absurd h3 h4) fun h3 => BIf_intro (fun h4 => BIf_intro (fun h5 => t3 (by omega)) fun h5 => BIf_intro (fun h6 => BIf_intro (fun _ => t4 (by omega)) fun h7 => by omega) fun h6 => by omega) fun h4 => by omega

end Go.TVF
