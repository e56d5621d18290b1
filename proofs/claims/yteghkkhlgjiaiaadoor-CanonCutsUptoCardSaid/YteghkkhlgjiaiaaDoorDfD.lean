/- What the laws below rest on: a framework for Go programs, and contracts of the functions that they reach. -/
import Derived.Test.YteghkkhlgjiaiaaDoorDfC
import Derived.Shelf.Small.Strs
import Derived.Shelf.Strings.Trim
import Derived.Test.YteghkkhlgjiaiaaDoorProg
section
set_option linter.unusedVariables false
namespace Go.TVF
open Go Go.Proofs
set_option maxRecDepth 100000 in
theorem vc_datakitref03_Boundaries (s : List UInt8) (st : St) (K : TV → Bool → St → Prop) (h : ∃ (I1 : TV → Int → List UInt8 → St → Prop) (M1 : TV → Int → List UInt8 → St → Nat), (I1 ((.list 1 .full 1 [(.int .i64 (0 : Int))])) ((0 : Int)) (s) st) ∧ ∀ (l_1 : TV) (at_1 : Int) (s_1 : List UInt8) (st1 : St), I1 l_1 at_1 s_1 st1 → (BIf (decide (at_1 < ((s_1).length : Int))) (CallT PR fn_datakitref03_Decode [(.str s_1), (.int .i64 at_1)] [.one (.int .i64), .one (.int .i64)] st1 (fun (n1 : Int) (n2 : Int) (st2 : St) => BIf (decide (n2 = (0 : Int))) (K (l_1) (false) st2) (appK 3 1 8 l_1 1 [(.int .i64 (IntKind.i64.wrap (at_1 + n2)))] st2 (fun (v1 : TV) (st3 : St) => (I1 (v1) ((IntKind.i64.wrap (at_1 + n2))) (s_1) st3 ∧ M1 (v1) ((IntKind.i64.wrap (at_1 + n2))) (s_1) st3 < M1 l_1 at_1 s_1 st1))))) (K (l_1) (true) st1))) : CallT PR fn_datakitref03_Boundaries [(.str s)] [.one (.tv), .one (.bool)] st K :=
  tcalls_fw (cfg := ⟨[], [], []⟩) (h := (.seq .none (.seq .none (.seq .none (.seq (.block (.loop ⟨[(4, .tv), (5, .int .i64), (0, .str)], [], [], []⟩ .none)) .none))))) mixed (fun _ _ => Tryd.call70 _ _) Tryd.func70 (by kernel_rfl) (by kernel_rfl) h
set_option maxRecDepth 100000 in
theorem vc_digits_all (s : List UInt8) (st : St) (K : Bool → St → Prop) (h : ∃ (I1 : Int → List UInt8 → Int → St → Prop) (M1 : Int → List UInt8 → Int → St → Nat), (I1 ((0 : Int)) (s) (((s).length : Int)) st) ∧ ∀ (n_1 : Int) (s_1 : List UInt8) (n_2 : Int) (st1 : St), I1 n_1 s_1 n_2 st1 → (BIf (decide (n_1 < n_2)) (((0 ≤ n_1 ∧ n_1 < ((s_1).length : Int)) ∧ BIf (decide (((List.getD s_1 (Int.toNat n_1) 0).toNat : Int) < (48 : Int))) (K (false) st1) (((0 ≤ n_1 ∧ n_1 < ((s_1).length : Int)) ∧ BIf (decide ((57 : Int) < ((List.getD s_1 (Int.toNat n_1) 0).toNat : Int))) (K (false) st1) ((I1 ((IntKind.i64.wrap (n_1 + (1 : Int)))) (s_1) (n_2) st1 ∧ M1 ((IntKind.i64.wrap (n_1 + (1 : Int)))) (s_1) (n_2) st1 < M1 n_1 s_1 n_2 st1)))))) (K (true) st1))) : CallT PR fn_digits_all [(.str s)] [.one (.bool)] st K :=
  tcalls_fw (cfg := ⟨[], [], []⟩) (h := (.seq .none (.seq (.seq .none (.block (.loop ⟨[(6, .int .i64), (0, .str), (5, .int .i64)], [], [], []⟩ .none))) .none))) mixed (fun _ _ => Tryd.call71 _ _) Tryd.func71 (by kernel_rfl) (by kernel_rfl) h
set_option maxRecDepth 100000 in
theorem vc_utf_Decode (s : List UInt8) (atx : Int) (st : St) (K : Int → Int → St → Prop) (h : BIf (decide (atx < (0 : Int))) (K ((0 : Int)) ((0 : Int)) st) (BIf (decide (((s).length : Int) ≤ atx)) (K ((0 : Int)) ((0 : Int)) st) (((0 ≤ atx ∧ atx < ((s).length : Int)) ∧ CallT PR fn_utf_head [(.int .u8 ((List.getD s (Int.toNat atx) 0).toNat : Int))] [.one (.int .i64), .one (.int .i64)] st (fun (n1 : Int) (n2 : Int) (st1 : St) => BIf (decide (n1 = (0 : Int))) (K ((0 : Int)) ((0 : Int)) st1) (BIf (decide ((IntKind.i64.wrap (((s).length : Int) - atx)) < n1)) (K ((0 : Int)) ((0 : Int)) st1) (∃ (I1 : Int → Int → List UInt8 → Int → Int → St → Prop) (M1 : Int → Int → List UInt8 → Int → Int → St → Nat), (I1 (n2) ((1 : Int)) (s) (atx) (n1) st1) ∧ ∀ (r_1 : Int) (i_1 : Int) (s_1 : List UInt8) (at_1 : Int) (n_1 : Int) (st2 : St), I1 r_1 i_1 s_1 at_1 n_1 st2 → (BIf (decide (i_1 < n_1)) (((0 ≤ (IntKind.i64.wrap (at_1 + i_1)) ∧ (IntKind.i64.wrap (at_1 + i_1)) < ((s_1).length : Int)) ∧ BIf (decide ((bitsI .and .u8 ((List.getD s_1 (Int.toNat (IntKind.i64.wrap (at_1 + i_1))) 0).toNat : Int) (192 : Int)) ≠ (128 : Int))) (K ((0 : Int)) ((0 : Int)) st2) ((I1 ((bitsI .or .i64 (IntKind.i64.wrap (r_1 * 2 ^ (min (Int.toNat (6 : Int)) (IntKind.bits .i64)))) (IntKind.i64.wrap (bitsI .and .u8 ((List.getD s_1 (Int.toNat (IntKind.i64.wrap (at_1 + i_1))) 0).toNat : Int) (63 : Int))))) ((IntKind.i64.wrap (i_1 + (1 : Int)))) (s_1) (at_1) (n_1) st2 ∧ M1 ((bitsI .or .i64 (IntKind.i64.wrap (r_1 * 2 ^ (min (Int.toNat (6 : Int)) (IntKind.bits .i64)))) (IntKind.i64.wrap (bitsI .and .u8 ((List.getD s_1 (Int.toNat (IntKind.i64.wrap (at_1 + i_1))) 0).toNat : Int) (63 : Int))))) ((IntKind.i64.wrap (i_1 + (1 : Int)))) (s_1) (at_1) (n_1) st2 < M1 r_1 i_1 s_1 at_1 n_1 st2)))) (CallT PR fn_utf_scalar [(.int .i64 r_1)] [.one (.bool)] st2 (fun (b1 : Bool) (st3 : St) => BIf (!b1) (K ((0 : Int)) ((0 : Int)) st3) (CallT PR fn_utf_width [(.int .i64 r_1)] [.one (.int .i64)] st3 (fun (n3 : Int) (st4 : St) => BIf (decide (n3 ≠ n_1)) (K ((0 : Int)) ((0 : Int)) st4) (K (r_1) (n_1) st4))))))))))))) : CallT PR fn_utf_Decode [(.str s), (.int .i64 atx)] [.one (.int .i64), .one (.int .i64)] st K :=
  tcalls_fw (cfg := ⟨[], [], []⟩) (h := (.seq .none (.seq .none (.seq .none (.seq .none (.seq (.seq .none (.block (.loop ⟨[(4, .int .i64), (7, .int .i64), (0, .str), (1, .int .i64), (6, .int .i64)], [], [], []⟩ .none))) .none)))))) mixed (fun _ _ => Tryd.call73 _ _) Tryd.func73 (by kernel_rfl) (by kernel_rfl) h
set_option maxRecDepth 100000 in
theorem vc_slices_stableCmpFunc_api_Field_ (data : TV) (n : Int) (cmp : TV) (st : St) (K : St → Prop) (h : ∃ (I1 : Int → Int → TV → Int → TV → Int → St → Prop) (M1 : Int → Int → TV → Int → TV → Int → St → Nat), (I1 ((0 : Int)) ((20 : Int)) (data) (n) (cmp) ((20 : Int)) st) ∧ ∀ (a_1 : Int) (b_1 : Int) (data_1 : TV) (n_1 : Int) (cmp_1 : TV) (blockSize_1 : Int) (st1 : St), I1 a_1 b_1 data_1 n_1 cmp_1 blockSize_1 st1 → (BIf (decide (b_1 ≤ n_1)) (CallT PR fn_slices_insertionSortCmpFunc_api_Field_ [data_1, (.int .i64 a_1), (.int .i64 b_1), cmp_1] [] st1 (fun  (st2 : St) => (I1 (b_1) ((IntKind.i64.wrap (b_1 + blockSize_1))) (data_1) (n_1) (cmp_1) (blockSize_1) st2 ∧ M1 (b_1) ((IntKind.i64.wrap (b_1 + blockSize_1))) (data_1) (n_1) (cmp_1) (blockSize_1) st2 < M1 a_1 b_1 data_1 n_1 cmp_1 blockSize_1 st1))) (CallT PR fn_slices_insertionSortCmpFunc_api_Field_ [data_1, (.int .i64 a_1), (.int .i64 n_1), cmp_1] [] st1 (fun  (st3 : St) => ∃ (I2 : Int → TV → Int → TV → St → Prop) (M2 : Int → TV → Int → TV → St → Nat), (I2 (blockSize_1) (data_1) (n_1) (cmp_1) st3) ∧ ∀ (blockSize_2 : Int) (data_2 : TV) (n_2 : Int) (cmp_2 : TV) (st4 : St), I2 blockSize_2 data_2 n_2 cmp_2 st4 → (BIf (decide (blockSize_2 < n_2)) (∃ (I3 : Int → Int → TV → Int → TV → Int → St → Prop) (M3 : Int → Int → TV → Int → TV → Int → St → Nat), (I3 ((0 : Int)) ((IntKind.i64.wrap ((2 : Int) * blockSize_2))) (data_2) (n_2) (cmp_2) (blockSize_2) st4) ∧ ∀ (a_2 : Int) (b_2 : Int) (data_3 : TV) (n_3 : Int) (cmp_3 : TV) (blockSize_3 : Int) (st5 : St), I3 a_2 b_2 data_3 n_3 cmp_3 blockSize_3 st5 → (BIf (decide (b_2 ≤ n_3)) (CallT PR fn_slices_symMergeCmpFunc_api_Field_ [data_3, (.int .i64 a_2), (.int .i64 (IntKind.i64.wrap (a_2 + blockSize_3))), (.int .i64 b_2), cmp_3] [] st5 (fun  (st6 : St) => (I3 (b_2) ((IntKind.i64.wrap (b_2 + (IntKind.i64.wrap ((2 : Int) * blockSize_3))))) (data_3) (n_3) (cmp_3) (blockSize_3) st6 ∧ M3 (b_2) ((IntKind.i64.wrap (b_2 + (IntKind.i64.wrap ((2 : Int) * blockSize_3))))) (data_3) (n_3) (cmp_3) (blockSize_3) st6 < M3 a_2 b_2 data_3 n_3 cmp_3 blockSize_3 st5))) (BIf (decide ((IntKind.i64.wrap (a_2 + blockSize_3)) < n_3)) (CallT PR fn_slices_symMergeCmpFunc_api_Field_ [data_3, (.int .i64 a_2), (.int .i64 (IntKind.i64.wrap (a_2 + blockSize_3))), (.int .i64 n_3), cmp_3] [] st5 (fun  (st7 : St) => (I2 ((IntKind.i64.wrap (blockSize_3 * (2 : Int)))) (data_3) (n_3) (cmp_3) st7 ∧ M2 ((IntKind.i64.wrap (blockSize_3 * (2 : Int)))) (data_3) (n_3) (cmp_3) st7 < M2 blockSize_2 data_2 n_2 cmp_2 st4))) ((I2 ((IntKind.i64.wrap (blockSize_3 * (2 : Int)))) (data_3) (n_3) (cmp_3) st5 ∧ M2 ((IntKind.i64.wrap (blockSize_3 * (2 : Int)))) (data_3) (n_3) (cmp_3) st5 < M2 blockSize_2 data_2 n_2 cmp_2 st4))))) (K  st4)))))) : CallT PR fn_slices_stableCmpFunc_api_Field_ [data, (.int .i64 n), cmp] [] st K :=
  tcalls_fw (cfg := ⟨[], [], []⟩) (h := (.seq .none (.seq .none (.seq (.block (.loop ⟨[(7, .int .i64), (8, .int .i64), (0, .tv), (1, .int .i64), (2, .tv), (6, .int .i64)], [], [], []⟩ .none)) (.seq .none (.block (.loop ⟨[(6, .int .i64), (0, .tv), (1, .int .i64), (2, .tv)], [], [], []⟩ (.seq .none (.block (.seq .none (.seq (.block (.loop ⟨[(7, .int .i64), (8, .int .i64), (0, .tv), (1, .int .i64), (2, .tv), (6, .int .i64)], [], [], []⟩ .none)) .none))))))))))) mixed (fun _ _ => Tryd.call74 _ _) Tryd.func74 (by kernel_rfl) (by kernel_rfl) h
set_option maxRecDepth 100000 in
theorem vc_datakitref01_Digits (s : List UInt8) (st : St) (K : Bool → St → Prop) (h : ∃ (I1 : Int → List UInt8 → St → Prop) (M1 : Int → List UInt8 → St → Nat), (I1 ((0 : Int)) (s) st) ∧ ∀ (i_1 : Int) (s_1 : List UInt8) (st1 : St), I1 i_1 s_1 st1 → (BIf (decide (i_1 < ((s_1).length : Int))) (((0 ≤ i_1 ∧ i_1 < ((s_1).length : Int)) ∧ BIf (decide (((List.getD s_1 (Int.toNat i_1) 0).toNat : Int) < (48 : Int))) (K (false) st1) (((0 ≤ i_1 ∧ i_1 < ((s_1).length : Int)) ∧ BIf (decide ((57 : Int) < ((List.getD s_1 (Int.toNat i_1) 0).toNat : Int))) (K (false) st1) ((I1 ((IntKind.i64.wrap (i_1 + (1 : Int)))) (s_1) st1 ∧ M1 ((IntKind.i64.wrap (i_1 + (1 : Int)))) (s_1) st1 < M1 i_1 s_1 st1)))))) (K (true) st1))) : CallT PR fn_datakitref01_Digits [(.str s)] [.one (.bool)] st K :=
  tcalls_fw (cfg := ⟨[], [], []⟩) (h := (.seq .none (.seq (.seq .none (.block (.loop ⟨[(3, .int .i64), (0, .str)], [], [], []⟩ .none))) .none))) mixed (fun _ _ => Tryd.call76 _ _) Tryd.func76 (by kernel_rfl) (by kernel_rfl) h
set_option maxRecDepth 100000 in
theorem vc_datakitref03_Decode (s : List UInt8) (atx : Int) (st : St) (K : Int → Int → St → Prop) (h : BIf (decide (atx < (0 : Int))) (K ((0 : Int)) ((0 : Int)) st) (BIf (decide (((s).length : Int) ≤ atx)) (K ((0 : Int)) ((0 : Int)) st) (((0 ≤ atx ∧ atx < ((s).length : Int)) ∧ ∃ (C1 : Int → Int → List UInt8 → Int → St → Prop), (BIf (decide ((240 : Int) ≤ (IntKind.i64.wrap ((List.getD s (Int.toNat atx) 0).toNat : Int)))) (C1 ((4 : Int)) ((bitsI .and .i64 (IntKind.i64.wrap ((List.getD s (Int.toNat atx) 0).toNat : Int)) (7 : Int))) (s) (atx) st) (BIf (decide ((224 : Int) ≤ (IntKind.i64.wrap ((List.getD s (Int.toNat atx) 0).toNat : Int)))) (C1 ((3 : Int)) ((bitsI .and .i64 (IntKind.i64.wrap ((List.getD s (Int.toNat atx) 0).toNat : Int)) (15 : Int))) (s) (atx) st) (BIf (decide ((192 : Int) ≤ (IntKind.i64.wrap ((List.getD s (Int.toNat atx) 0).toNat : Int)))) (C1 ((2 : Int)) ((bitsI .and .i64 (IntKind.i64.wrap ((List.getD s (Int.toNat atx) 0).toNat : Int)) (31 : Int))) (s) (atx) st) (C1 ((1 : Int)) ((IntKind.i64.wrap ((List.getD s (Int.toNat atx) 0).toNat : Int))) (s) (atx) st)))) ∧ ∀ (size_1 : Int) (r_1 : Int) (s_1 : List UInt8) (at_1 : Int) (st1 : St), C1 size_1 r_1 s_1 at_1 st1 → (BIf (decide ((IntKind.i64.wrap (((s_1).length : Int) - at_1)) < size_1)) (K ((0 : Int)) ((0 : Int)) st1) (∃ (I1 : Int → Int → List UInt8 → Int → Int → St → Prop) (M1 : Int → Int → List UInt8 → Int → Int → St → Nat), (I1 (r_1) ((1 : Int)) (s_1) (at_1) (size_1) st1) ∧ ∀ (r_2 : Int) (i_1 : Int) (s_2 : List UInt8) (at_2 : Int) (size_2 : Int) (st2 : St), I1 r_2 i_1 s_2 at_2 size_2 st2 → (BIf (decide (i_1 < size_2)) (((0 ≤ (IntKind.i64.wrap (at_2 + i_1)) ∧ (IntKind.i64.wrap (at_2 + i_1)) < ((s_2).length : Int)) ∧ (I1 ((bitsI .or .i64 (IntKind.i64.wrap (r_2 * 2 ^ (min (Int.toNat (6 : Int)) (IntKind.bits .i64)))) (bitsI .and .i64 (IntKind.i64.wrap ((List.getD s_2 (Int.toNat (IntKind.i64.wrap (at_2 + i_1))) 0).toNat : Int)) (63 : Int)))) ((IntKind.i64.wrap (i_1 + (1 : Int)))) (s_2) (at_2) (size_2) st2 ∧ M1 ((bitsI .or .i64 (IntKind.i64.wrap (r_2 * 2 ^ (min (Int.toNat (6 : Int)) (IntKind.bits .i64)))) (bitsI .and .i64 (IntKind.i64.wrap ((List.getD s_2 (Int.toNat (IntKind.i64.wrap (at_2 + i_1))) 0).toNat : Int)) (63 : Int)))) ((IntKind.i64.wrap (i_1 + (1 : Int)))) (s_2) (at_2) (size_2) st2 < M1 r_2 i_1 s_2 at_2 size_2 st2))) (CallT PR fn_datakitref03_Encode [(.int .i64 r_2)] [.one (.str), .one (.int .i64)] st2 (fun (s1 : List UInt8) (n1 : Int) (st3 : St) => BIf (decide (n1 ≠ (0 : Int))) (K ((0 : Int)) ((0 : Int)) st3) (((0 ≤ at_2 ∧ at_2 ≤ (IntKind.i64.wrap (at_2 + size_2)) ∧ (IntKind.i64.wrap (at_2 + size_2)) ≤ ((s_2).length : Int)) ∧ BIf (decide (s1 ≠ (List.drop (Int.toNat at_2) (List.take (Int.toNat (IntKind.i64.wrap (at_2 + size_2))) s_2)))) (K ((0 : Int)) ((0 : Int)) st3) (K (r_2) (size_2) st3)))))))))))) : CallT PR fn_datakitref03_Decode [(.str s), (.int .i64 atx)] [.one (.int .i64), .one (.int .i64)] st K :=
  tcalls_fw (cfg := ⟨[], [], []⟩) (h := (.seq .none (.seq .none (.seq .none (.seq .none (.cut ⟨[(7, .int .i64), (8, .int .i64), (0, .str), (1, .int .i64)], [], [], []⟩ .none (.seq .none (.seq (.seq .none (.block (.loop ⟨[(8, .int .i64), (9, .int .i64), (0, .str), (1, .int .i64), (7, .int .i64)], [], [], []⟩ .none))) .none)))))))) mixed (fun _ _ => Tryd.call77 _ _) Tryd.func77 (by kernel_rfl) (by kernel_rfl) h
set_option maxRecDepth 100000 in
theorem vc_utf_head (b : Int) (st : St) (K : Int → Int → St → Prop) (h : BIf (decide (b < (128 : Int))) (K ((1 : Int)) ((IntKind.i64.wrap b)) st) (BIf (decide ((192 : Int) ≤ b)) (BIf (decide (b < (224 : Int))) (K ((2 : Int)) ((IntKind.i64.wrap (bitsI .and .u8 b (31 : Int)))) st) (BIf (decide ((224 : Int) ≤ b)) (BIf (decide (b < (240 : Int))) (K ((3 : Int)) ((IntKind.i64.wrap (bitsI .and .u8 b (15 : Int)))) st) (BIf (decide ((240 : Int) ≤ b)) (BIf (decide (b < (248 : Int))) (K ((4 : Int)) ((IntKind.i64.wrap (bitsI .and .u8 b (7 : Int)))) st) (K ((0 : Int)) ((0 : Int)) st)) (K ((0 : Int)) ((0 : Int)) st))) (BIf (decide ((240 : Int) ≤ b)) (BIf (decide (b < (248 : Int))) (K ((4 : Int)) ((IntKind.i64.wrap (bitsI .and .u8 b (7 : Int)))) st) (K ((0 : Int)) ((0 : Int)) st)) (K ((0 : Int)) ((0 : Int)) st)))) (BIf (decide ((224 : Int) ≤ b)) (BIf (decide (b < (240 : Int))) (K ((3 : Int)) ((IntKind.i64.wrap (bitsI .and .u8 b (15 : Int)))) st) (BIf (decide ((240 : Int) ≤ b)) (BIf (decide (b < (248 : Int))) (K ((4 : Int)) ((IntKind.i64.wrap (bitsI .and .u8 b (7 : Int)))) st) (K ((0 : Int)) ((0 : Int)) st)) (K ((0 : Int)) ((0 : Int)) st))) (BIf (decide ((240 : Int) ≤ b)) (BIf (decide (b < (248 : Int))) (K ((4 : Int)) ((IntKind.i64.wrap (bitsI .and .u8 b (7 : Int)))) st) (K ((0 : Int)) ((0 : Int)) st)) (K ((0 : Int)) ((0 : Int)) st))))) : CallT PR fn_utf_head [(.int .u8 b)] [.one (.int .i64), .one (.int .i64)] st K :=
  tcalls_fw (cfg := ⟨[], [], []⟩) (h := .none) mixed (fun _ _ => Tryd.call82 _ _) Tryd.func82 (by kernel_rfl) (by kernel_rfl) h
set_option maxRecDepth 100000 in
theorem vc_utf_scalar (r : Int) (st : St) (K : Bool → St → Prop) (h : BIf (decide ((0 : Int) ≤ r)) (BIf (decide (r ≤ (1114111 : Int))) (BIf (decide (r < (55296 : Int))) (K (true) st) (K ((decide ((57343 : Int) < r))) st)) (K (false) st)) (K (false) st)) : CallT PR fn_utf_scalar [(.int .i64 r)] [.one (.bool)] st K :=
  tcalls_fw (cfg := ⟨[], [], []⟩) (h := .none) mixed (fun _ _ => Tryd.call83 _ _) Tryd.func83 (by kernel_rfl) (by kernel_rfl) h
set_option maxRecDepth 100000 in
theorem vc_utf_width (r : Int) (st : St) (K : Int → St → Prop) (h : BIf (decide (r < (128 : Int))) (K ((1 : Int)) st) (BIf (decide (r < (2048 : Int))) (K ((2 : Int)) st) (BIf (decide (r < (65536 : Int))) (K ((3 : Int)) st) (K ((4 : Int)) st)))) : CallT PR fn_utf_width [(.int .i64 r)] [.one (.int .i64)] st K :=
  tcalls_fw (cfg := ⟨[], [], []⟩) (h := .none) mixed (fun _ _ => Tryd.call84 _ _) Tryd.func84 (by kernel_rfl) (by kernel_rfl) h
set_option maxRecDepth 100000 in
theorem vc_slices_insertionSortCmpFunc_api_Field_ (data : TV) (a : Int) (b : Int) (cmp : TV) (st : St) (K : St → Prop) (h : ∃ (I1 : Int → TV → Int → Int → TV → St → Prop) (M1 : Int → TV → Int → Int → TV → St → Nat), (I1 ((IntKind.i64.wrap (a + (1 : Int)))) (data) (a) (b) (cmp) st) ∧ ∀ (i_1 : Int) (data_1 : TV) (a_1 : Int) (b_1 : Int) (cmp_1 : TV) (st1 : St), I1 i_1 data_1 a_1 b_1 cmp_1 st1 → (BIf (decide (i_1 < b_1)) (∃ (I2 : Int → TV → Int → Int → TV → Int → St → Prop) (M2 : Int → TV → Int → Int → TV → Int → St → Nat), (I2 (i_1) (data_1) (a_1) (b_1) (cmp_1) (i_1) st1) ∧ ∀ (j_1 : Int) (data_2 : TV) (a_2 : Int) (b_2 : Int) (cmp_2 : TV) (i_2 : Int) (st2 : St), I2 j_1 data_2 a_2 b_2 cmp_2 i_2 st2 → (BIf (decide (a_2 < j_1)) (((0 ≤ j_1 ∧ j_1 < (lenZ 14 data_2 : Int)) ∧ optK ((ldCells st2 [] (.t (ixT 14 data_2 (Int.toNat j_1))) 0 14).map TV.agg) (fun (x1 : TV) => decA [.str, .int .i64, .bool, .bool, .str, .int .i64, .int .i64, .int .i64, .int .i64, .int .i64, .str, .tv, .tv, .tv] x1 (fun (s1 : List UInt8) (n1 : Int) (b1 : Bool) (b2 : Bool) (s2 : List UInt8) (n2 : Int) (n3 : Int) (n4 : Int) (n5 : Int) (n6 : Int) (s3 : List UInt8) (v1 : TV) (v2 : TV) (v3 : TV) => ((0 ≤ (IntKind.i64.wrap (j_1 - (1 : Int))) ∧ (IntKind.i64.wrap (j_1 - (1 : Int))) < (lenZ 14 data_2 : Int)) ∧ optK ((ldCells st2 [] (.t (ixT 14 data_2 (Int.toNat (IntKind.i64.wrap (j_1 - (1 : Int)))))) 0 14).map TV.agg) (fun (x2 : TV) => decA [.str, .int .i64, .bool, .bool, .str, .int .i64, .int .i64, .int .i64, .int .i64, .int .i64, .str, .tv, .tv, .tv] x2 (fun (s4 : List UInt8) (n7 : Int) (b3 : Bool) (b4 : Bool) (s5 : List UInt8) (n8 : Int) (n9 : Int) (n10 : Int) (n11 : Int) (n12 : Int) (s6 : List UInt8) (v4 : TV) (v5 : TV) (v6 : TV) => callK PR cmp_2 [(.agg [(.str s1), (.int .i64 n1), (.bool b1), (.bool b2), (.str s2), (.int .i64 n2), (.int .i64 n3), (.int .i64 n4), (.int .i64 n5), (.int .i64 n6), (.str s3), v1, v2, v3]), (.agg [(.str s4), (.int .i64 n7), (.bool b3), (.bool b4), (.str s5), (.int .i64 n8), (.int .i64 n9), (.int .i64 n10), (.int .i64 n11), (.int .i64 n12), (.str s6), v4, v5, v6])] [.one (.int .i64)] st2 (fun (n13 : Int) (st3 : St) => BIf (decide (n13 < (0 : Int))) (((0 ≤ (IntKind.i64.wrap (j_1 - (1 : Int))) ∧ (IntKind.i64.wrap (j_1 - (1 : Int))) < (lenZ 14 data_2 : Int)) ∧ optK ((ldCells st3 [] (.t (ixT 14 data_2 (Int.toNat (IntKind.i64.wrap (j_1 - (1 : Int)))))) 0 14).map TV.agg) (fun (x3 : TV) => decA [.str, .int .i64, .bool, .bool, .str, .int .i64, .int .i64, .int .i64, .int .i64, .int .i64, .str, .tv, .tv, .tv] x3 (fun (s7 : List UInt8) (n14 : Int) (b5 : Bool) (b6 : Bool) (s8 : List UInt8) (n15 : Int) (n16 : Int) (n17 : Int) (n18 : Int) (n19 : Int) (s9 : List UInt8) (v7 : TV) (v8 : TV) (v9 : TV) => ((0 ≤ j_1 ∧ j_1 < (lenZ 14 data_2 : Int)) ∧ optK ((ldCells st3 [] (.t (ixT 14 data_2 (Int.toNat j_1))) 0 14).map TV.agg) (fun (x4 : TV) => decA [.str, .int .i64, .bool, .bool, .str, .int .i64, .int .i64, .int .i64, .int .i64, .int .i64, .str, .tv, .tv, .tv] x4 (fun (s10 : List UInt8) (n20 : Int) (b7 : Bool) (b8 : Bool) (s11 : List UInt8) (n21 : Int) (n22 : Int) (n23 : Int) (n24 : Int) (n25 : Int) (s12 : List UInt8) (v10 : TV) (v11 : TV) (v12 : TV) => ((0 ≤ j_1 ∧ j_1 < (lenZ 14 data_2 : Int)) ∧ need (List.all [(.str s7), (.int .i64 n14), (.bool b5), (.bool b6), (.str s8), (.int .i64 n15), (.int .i64 n16), (.int .i64 n17), (.int .i64 n18), (.int .i64 n19), (.str s9), v7, v8, v9] oneT) (stB st3 (ixT 14 data_2 (Int.toNat j_1)) [(.str s7), (.int .i64 n14), (.bool b5), (.bool b6), (.str s8), (.int .i64 n15), (.int .i64 n16), (.int .i64 n17), (.int .i64 n18), (.int .i64 n19), (.str s9), v7, v8, v9] (fun (st4 : St) => ((0 ≤ (IntKind.i64.wrap (j_1 - (1 : Int))) ∧ (IntKind.i64.wrap (j_1 - (1 : Int))) < (lenZ 14 data_2 : Int)) ∧ need (List.all [(.str s10), (.int .i64 n20), (.bool b7), (.bool b8), (.str s11), (.int .i64 n21), (.int .i64 n22), (.int .i64 n23), (.int .i64 n24), (.int .i64 n25), (.str s12), v10, v11, v12] oneT) (stB st4 (ixT 14 data_2 (Int.toNat (IntKind.i64.wrap (j_1 - (1 : Int))))) [(.str s10), (.int .i64 n20), (.bool b7), (.bool b8), (.str s11), (.int .i64 n21), (.int .i64 n22), (.int .i64 n23), (.int .i64 n24), (.int .i64 n25), (.str s12), v10, v11, v12] (fun (st5 : St) => (I2 ((IntKind.i64.wrap (j_1 - (1 : Int)))) (data_2) (a_2) (b_2) (cmp_2) (i_2) st5 ∧ M2 ((IntKind.i64.wrap (j_1 - (1 : Int)))) (data_2) (a_2) (b_2) (cmp_2) (i_2) st5 < M2 j_1 data_2 a_2 b_2 cmp_2 i_2 st2)))))))))))))) ((I1 ((IntKind.i64.wrap (i_2 + (1 : Int)))) (data_2) (a_2) (b_2) (cmp_2) st3 ∧ M1 ((IntKind.i64.wrap (i_2 + (1 : Int)))) (data_2) (a_2) (b_2) (cmp_2) st3 < M1 i_1 data_1 a_1 b_1 cmp_1 st1)))))))))) ((I1 ((IntKind.i64.wrap (i_2 + (1 : Int)))) (data_2) (a_2) (b_2) (cmp_2) st2 ∧ M1 ((IntKind.i64.wrap (i_2 + (1 : Int)))) (data_2) (a_2) (b_2) (cmp_2) st2 < M1 i_1 data_1 a_1 b_1 cmp_1 st1)))) (K  st1))) : CallT PR fn_slices_insertionSortCmpFunc_api_Field_ [data, (.int .i64 a), (.int .i64 b), cmp] [] st K :=
  tcalls_fw (cfg := ⟨[], [], [26, 31]⟩) (h := (.seq .none (.block (.loop ⟨[(8, .int .i64), (0, .tv), (1, .int .i64), (2, .int .i64), (3, .tv)], [], [], []⟩ (.seq .none (.seq (.block (.seq .none (.block (.loop ⟨[(9, .int .i64), (0, .tv), (1, .int .i64), (2, .int .i64), (3, .tv), (8, .int .i64)], [], [], []⟩ .none)))) .none)))))) mixed (fun _ _ => Tryd.call85 _ _) Tryd.func85 (by kernel_rfl) (by kernel_rfl) h
set_option maxRecDepth 100000 in
theorem vc_slices_symMergeCmpFunc_api_Field_ (data : TV) (a : Int) (m : Int) (b : Int) (cmp : TV) (st : St) (K : St → Prop) (h : BIf (decide ((IntKind.i64.wrap (m - a)) = (1 : Int))) (∃ (I1 : Int → Int → TV → Int → TV → St → Prop) (M1 : Int → Int → TV → Int → TV → St → Nat), (I1 (m) (b) (data) (a) (cmp) st) ∧ ∀ (i_1 : Int) (j_1 : Int) (data_1 : TV) (a_1 : Int) (cmp_1 : TV) (st1 : St), I1 i_1 j_1 data_1 a_1 cmp_1 st1 → (BIf (decide (i_1 < j_1)) (((0 ≤ (IntKind.i64.wrap (Int.fdiv (IntKind.u64.wrap (IntKind.i64.wrap (i_1 + j_1))) (2 ^ (min (Int.toNat (1 : Int)) (IntKind.bits .u64))))) ∧ (IntKind.i64.wrap (Int.fdiv (IntKind.u64.wrap (IntKind.i64.wrap (i_1 + j_1))) (2 ^ (min (Int.toNat (1 : Int)) (IntKind.bits .u64))))) < (lenZ 14 data_1 : Int)) ∧ optK ((ldCells st1 [] (.t (ixT 14 data_1 (Int.toNat (IntKind.i64.wrap (Int.fdiv (IntKind.u64.wrap (IntKind.i64.wrap (i_1 + j_1))) (2 ^ (min (Int.toNat (1 : Int)) (IntKind.bits .u64)))))))) 0 14).map TV.agg) (fun (x1 : TV) => decA [.str, .int .i64, .bool, .bool, .str, .int .i64, .int .i64, .int .i64, .int .i64, .int .i64, .str, .tv, .tv, .tv] x1 (fun (s1 : List UInt8) (n1 : Int) (b1 : Bool) (b2 : Bool) (s2 : List UInt8) (n2 : Int) (n3 : Int) (n4 : Int) (n5 : Int) (n6 : Int) (s3 : List UInt8) (v1 : TV) (v2 : TV) (v3 : TV) => ((0 ≤ a_1 ∧ a_1 < (lenZ 14 data_1 : Int)) ∧ optK ((ldCells st1 [] (.t (ixT 14 data_1 (Int.toNat a_1))) 0 14).map TV.agg) (fun (x2 : TV) => decA [.str, .int .i64, .bool, .bool, .str, .int .i64, .int .i64, .int .i64, .int .i64, .int .i64, .str, .tv, .tv, .tv] x2 (fun (s4 : List UInt8) (n7 : Int) (b3 : Bool) (b4 : Bool) (s5 : List UInt8) (n8 : Int) (n9 : Int) (n10 : Int) (n11 : Int) (n12 : Int) (s6 : List UInt8) (v4 : TV) (v5 : TV) (v6 : TV) => callK PR cmp_1 [(.agg [(.str s1), (.int .i64 n1), (.bool b1), (.bool b2), (.str s2), (.int .i64 n2), (.int .i64 n3), (.int .i64 n4), (.int .i64 n5), (.int .i64 n6), (.str s3), v1, v2, v3]), (.agg [(.str s4), (.int .i64 n7), (.bool b3), (.bool b4), (.str s5), (.int .i64 n8), (.int .i64 n9), (.int .i64 n10), (.int .i64 n11), (.int .i64 n12), (.str s6), v4, v5, v6])] [.one (.int .i64)] st1 (fun (n13 : Int) (st2 : St) => BIf (decide (n13 < (0 : Int))) ((I1 ((IntKind.i64.wrap ((IntKind.i64.wrap (Int.fdiv (IntKind.u64.wrap (IntKind.i64.wrap (i_1 + j_1))) (2 ^ (min (Int.toNat (1 : Int)) (IntKind.bits .u64))))) + (1 : Int)))) (j_1) (data_1) (a_1) (cmp_1) st2 ∧ M1 ((IntKind.i64.wrap ((IntKind.i64.wrap (Int.fdiv (IntKind.u64.wrap (IntKind.i64.wrap (i_1 + j_1))) (2 ^ (min (Int.toNat (1 : Int)) (IntKind.bits .u64))))) + (1 : Int)))) (j_1) (data_1) (a_1) (cmp_1) st2 < M1 i_1 j_1 data_1 a_1 cmp_1 st1)) ((I1 (i_1) ((IntKind.i64.wrap (Int.fdiv (IntKind.u64.wrap (IntKind.i64.wrap (i_1 + j_1))) (2 ^ (min (Int.toNat (1 : Int)) (IntKind.bits .u64)))))) (data_1) (a_1) (cmp_1) st2 ∧ M1 (i_1) ((IntKind.i64.wrap (Int.fdiv (IntKind.u64.wrap (IntKind.i64.wrap (i_1 + j_1))) (2 ^ (min (Int.toNat (1 : Int)) (IntKind.bits .u64)))))) (data_1) (a_1) (cmp_1) st2 < M1 i_1 j_1 data_1 a_1 cmp_1 st1)))))))))) (∃ (I2 : Int → TV → Int → St → Prop) (M2 : Int → TV → Int → St → Nat), (I2 (a_1) (data_1) (i_1) st1) ∧ ∀ (k_1 : Int) (data_2 : TV) (i_2 : Int) (st3 : St), I2 k_1 data_2 i_2 st3 → (BIf (decide (k_1 < (IntKind.i64.wrap (i_2 - (1 : Int))))) (((0 ≤ (IntKind.i64.wrap (k_1 + (1 : Int))) ∧ (IntKind.i64.wrap (k_1 + (1 : Int))) < (lenZ 14 data_2 : Int)) ∧ optK ((ldCells st3 [] (.t (ixT 14 data_2 (Int.toNat (IntKind.i64.wrap (k_1 + (1 : Int)))))) 0 14).map TV.agg) (fun (x3 : TV) => decA [.str, .int .i64, .bool, .bool, .str, .int .i64, .int .i64, .int .i64, .int .i64, .int .i64, .str, .tv, .tv, .tv] x3 (fun (s7 : List UInt8) (n14 : Int) (b5 : Bool) (b6 : Bool) (s8 : List UInt8) (n15 : Int) (n16 : Int) (n17 : Int) (n18 : Int) (n19 : Int) (s9 : List UInt8) (v7 : TV) (v8 : TV) (v9 : TV) => ((0 ≤ k_1 ∧ k_1 < (lenZ 14 data_2 : Int)) ∧ optK ((ldCells st3 [] (.t (ixT 14 data_2 (Int.toNat k_1))) 0 14).map TV.agg) (fun (x4 : TV) => decA [.str, .int .i64, .bool, .bool, .str, .int .i64, .int .i64, .int .i64, .int .i64, .int .i64, .str, .tv, .tv, .tv] x4 (fun (s10 : List UInt8) (n20 : Int) (b7 : Bool) (b8 : Bool) (s11 : List UInt8) (n21 : Int) (n22 : Int) (n23 : Int) (n24 : Int) (n25 : Int) (s12 : List UInt8) (v10 : TV) (v11 : TV) (v12 : TV) => ((0 ≤ k_1 ∧ k_1 < (lenZ 14 data_2 : Int)) ∧ need (List.all [(.str s7), (.int .i64 n14), (.bool b5), (.bool b6), (.str s8), (.int .i64 n15), (.int .i64 n16), (.int .i64 n17), (.int .i64 n18), (.int .i64 n19), (.str s9), v7, v8, v9] oneT) (stB st3 (ixT 14 data_2 (Int.toNat k_1)) [(.str s7), (.int .i64 n14), (.bool b5), (.bool b6), (.str s8), (.int .i64 n15), (.int .i64 n16), (.int .i64 n17), (.int .i64 n18), (.int .i64 n19), (.str s9), v7, v8, v9] (fun (st4 : St) => ((0 ≤ (IntKind.i64.wrap (k_1 + (1 : Int))) ∧ (IntKind.i64.wrap (k_1 + (1 : Int))) < (lenZ 14 data_2 : Int)) ∧ need (List.all [(.str s10), (.int .i64 n20), (.bool b7), (.bool b8), (.str s11), (.int .i64 n21), (.int .i64 n22), (.int .i64 n23), (.int .i64 n24), (.int .i64 n25), (.str s12), v10, v11, v12] oneT) (stB st4 (ixT 14 data_2 (Int.toNat (IntKind.i64.wrap (k_1 + (1 : Int))))) [(.str s10), (.int .i64 n20), (.bool b7), (.bool b8), (.str s11), (.int .i64 n21), (.int .i64 n22), (.int .i64 n23), (.int .i64 n24), (.int .i64 n25), (.str s12), v10, v11, v12] (fun (st5 : St) => (I2 ((IntKind.i64.wrap (k_1 + (1 : Int)))) (data_2) (i_2) st5 ∧ M2 ((IntKind.i64.wrap (k_1 + (1 : Int)))) (data_2) (i_2) st5 < M2 k_1 data_2 i_2 st3)))))))))))))) (K  st3))))) (BIf (decide ((IntKind.i64.wrap (b - m)) = (1 : Int))) (∃ (I3 : Int → Int → TV → Int → TV → St → Prop) (M3 : Int → Int → TV → Int → TV → St → Nat), (I3 (a) (m) (data) (m) (cmp) st) ∧ ∀ (i_3 : Int) (j_2 : Int) (data_3 : TV) (m_1 : Int) (cmp_2 : TV) (st6 : St), I3 i_3 j_2 data_3 m_1 cmp_2 st6 → (BIf (decide (i_3 < j_2)) (((0 ≤ m_1 ∧ m_1 < (lenZ 14 data_3 : Int)) ∧ optK ((ldCells st6 [] (.t (ixT 14 data_3 (Int.toNat m_1))) 0 14).map TV.agg) (fun (x5 : TV) => decA [.str, .int .i64, .bool, .bool, .str, .int .i64, .int .i64, .int .i64, .int .i64, .int .i64, .str, .tv, .tv, .tv] x5 (fun (s13 : List UInt8) (n26 : Int) (b9 : Bool) (b10 : Bool) (s14 : List UInt8) (n27 : Int) (n28 : Int) (n29 : Int) (n30 : Int) (n31 : Int) (s15 : List UInt8) (v13 : TV) (v14 : TV) (v15 : TV) => ((0 ≤ (IntKind.i64.wrap (Int.fdiv (IntKind.u64.wrap (IntKind.i64.wrap (i_3 + j_2))) (2 ^ (min (Int.toNat (1 : Int)) (IntKind.bits .u64))))) ∧ (IntKind.i64.wrap (Int.fdiv (IntKind.u64.wrap (IntKind.i64.wrap (i_3 + j_2))) (2 ^ (min (Int.toNat (1 : Int)) (IntKind.bits .u64))))) < (lenZ 14 data_3 : Int)) ∧ optK ((ldCells st6 [] (.t (ixT 14 data_3 (Int.toNat (IntKind.i64.wrap (Int.fdiv (IntKind.u64.wrap (IntKind.i64.wrap (i_3 + j_2))) (2 ^ (min (Int.toNat (1 : Int)) (IntKind.bits .u64)))))))) 0 14).map TV.agg) (fun (x6 : TV) => decA [.str, .int .i64, .bool, .bool, .str, .int .i64, .int .i64, .int .i64, .int .i64, .int .i64, .str, .tv, .tv, .tv] x6 (fun (s16 : List UInt8) (n32 : Int) (b11 : Bool) (b12 : Bool) (s17 : List UInt8) (n33 : Int) (n34 : Int) (n35 : Int) (n36 : Int) (n37 : Int) (s18 : List UInt8) (v16 : TV) (v17 : TV) (v18 : TV) => callK PR cmp_2 [(.agg [(.str s13), (.int .i64 n26), (.bool b9), (.bool b10), (.str s14), (.int .i64 n27), (.int .i64 n28), (.int .i64 n29), (.int .i64 n30), (.int .i64 n31), (.str s15), v13, v14, v15]), (.agg [(.str s16), (.int .i64 n32), (.bool b11), (.bool b12), (.str s17), (.int .i64 n33), (.int .i64 n34), (.int .i64 n35), (.int .i64 n36), (.int .i64 n37), (.str s18), v16, v17, v18])] [.one (.int .i64)] st6 (fun (n38 : Int) (st7 : St) => BIf (!(decide (n38 < (0 : Int)))) ((I3 ((IntKind.i64.wrap ((IntKind.i64.wrap (Int.fdiv (IntKind.u64.wrap (IntKind.i64.wrap (i_3 + j_2))) (2 ^ (min (Int.toNat (1 : Int)) (IntKind.bits .u64))))) + (1 : Int)))) (j_2) (data_3) (m_1) (cmp_2) st7 ∧ M3 ((IntKind.i64.wrap ((IntKind.i64.wrap (Int.fdiv (IntKind.u64.wrap (IntKind.i64.wrap (i_3 + j_2))) (2 ^ (min (Int.toNat (1 : Int)) (IntKind.bits .u64))))) + (1 : Int)))) (j_2) (data_3) (m_1) (cmp_2) st7 < M3 i_3 j_2 data_3 m_1 cmp_2 st6)) ((I3 (i_3) ((IntKind.i64.wrap (Int.fdiv (IntKind.u64.wrap (IntKind.i64.wrap (i_3 + j_2))) (2 ^ (min (Int.toNat (1 : Int)) (IntKind.bits .u64)))))) (data_3) (m_1) (cmp_2) st7 ∧ M3 (i_3) ((IntKind.i64.wrap (Int.fdiv (IntKind.u64.wrap (IntKind.i64.wrap (i_3 + j_2))) (2 ^ (min (Int.toNat (1 : Int)) (IntKind.bits .u64)))))) (data_3) (m_1) (cmp_2) st7 < M3 i_3 j_2 data_3 m_1 cmp_2 st6)))))))))) (∃ (I4 : Int → TV → Int → St → Prop) (M4 : Int → TV → Int → St → Nat), (I4 (m_1) (data_3) (i_3) st6) ∧ ∀ (k_2 : Int) (data_4 : TV) (i_4 : Int) (st8 : St), I4 k_2 data_4 i_4 st8 → (BIf (decide (i_4 < k_2)) (((0 ≤ (IntKind.i64.wrap (k_2 - (1 : Int))) ∧ (IntKind.i64.wrap (k_2 - (1 : Int))) < (lenZ 14 data_4 : Int)) ∧ optK ((ldCells st8 [] (.t (ixT 14 data_4 (Int.toNat (IntKind.i64.wrap (k_2 - (1 : Int)))))) 0 14).map TV.agg) (fun (x7 : TV) => decA [.str, .int .i64, .bool, .bool, .str, .int .i64, .int .i64, .int .i64, .int .i64, .int .i64, .str, .tv, .tv, .tv] x7 (fun (s19 : List UInt8) (n39 : Int) (b13 : Bool) (b14 : Bool) (s20 : List UInt8) (n40 : Int) (n41 : Int) (n42 : Int) (n43 : Int) (n44 : Int) (s21 : List UInt8) (v19 : TV) (v20 : TV) (v21 : TV) => ((0 ≤ k_2 ∧ k_2 < (lenZ 14 data_4 : Int)) ∧ optK ((ldCells st8 [] (.t (ixT 14 data_4 (Int.toNat k_2))) 0 14).map TV.agg) (fun (x8 : TV) => decA [.str, .int .i64, .bool, .bool, .str, .int .i64, .int .i64, .int .i64, .int .i64, .int .i64, .str, .tv, .tv, .tv] x8 (fun (s22 : List UInt8) (n45 : Int) (b15 : Bool) (b16 : Bool) (s23 : List UInt8) (n46 : Int) (n47 : Int) (n48 : Int) (n49 : Int) (n50 : Int) (s24 : List UInt8) (v22 : TV) (v23 : TV) (v24 : TV) => ((0 ≤ k_2 ∧ k_2 < (lenZ 14 data_4 : Int)) ∧ need (List.all [(.str s19), (.int .i64 n39), (.bool b13), (.bool b14), (.str s20), (.int .i64 n40), (.int .i64 n41), (.int .i64 n42), (.int .i64 n43), (.int .i64 n44), (.str s21), v19, v20, v21] oneT) (stB st8 (ixT 14 data_4 (Int.toNat k_2)) [(.str s19), (.int .i64 n39), (.bool b13), (.bool b14), (.str s20), (.int .i64 n40), (.int .i64 n41), (.int .i64 n42), (.int .i64 n43), (.int .i64 n44), (.str s21), v19, v20, v21] (fun (st9 : St) => ((0 ≤ (IntKind.i64.wrap (k_2 - (1 : Int))) ∧ (IntKind.i64.wrap (k_2 - (1 : Int))) < (lenZ 14 data_4 : Int)) ∧ need (List.all [(.str s22), (.int .i64 n45), (.bool b15), (.bool b16), (.str s23), (.int .i64 n46), (.int .i64 n47), (.int .i64 n48), (.int .i64 n49), (.int .i64 n50), (.str s24), v22, v23, v24] oneT) (stB st9 (ixT 14 data_4 (Int.toNat (IntKind.i64.wrap (k_2 - (1 : Int))))) [(.str s22), (.int .i64 n45), (.bool b15), (.bool b16), (.str s23), (.int .i64 n46), (.int .i64 n47), (.int .i64 n48), (.int .i64 n49), (.int .i64 n50), (.str s24), v22, v23, v24] (fun (st10 : St) => (I4 ((IntKind.i64.wrap (k_2 - (1 : Int)))) (data_4) (i_4) st10 ∧ M4 ((IntKind.i64.wrap (k_2 - (1 : Int)))) (data_4) (i_4) st10 < M4 k_2 data_4 i_4 st8)))))))))))))) (K  st8))))) (∃ (C1 : Int → Int → TV → Int → Int → Int → TV → Int → Int → St → Prop), (BIf (decide ((IntKind.i64.wrap (Int.fdiv (IntKind.u64.wrap (IntKind.i64.wrap (a + b))) (2 ^ (min (Int.toNat (1 : Int)) (IntKind.bits .u64))))) < m)) (C1 ((IntKind.i64.wrap ((IntKind.i64.wrap ((IntKind.i64.wrap (Int.fdiv (IntKind.u64.wrap (IntKind.i64.wrap (a + b))) (2 ^ (min (Int.toNat (1 : Int)) (IntKind.bits .u64))))) + m)) - b))) ((IntKind.i64.wrap (Int.fdiv (IntKind.u64.wrap (IntKind.i64.wrap (a + b))) (2 ^ (min (Int.toNat (1 : Int)) (IntKind.bits .u64)))))) (data) (a) (m) (b) (cmp) ((IntKind.i64.wrap (Int.fdiv (IntKind.u64.wrap (IntKind.i64.wrap (a + b))) (2 ^ (min (Int.toNat (1 : Int)) (IntKind.bits .u64)))))) ((IntKind.i64.wrap ((IntKind.i64.wrap (Int.fdiv (IntKind.u64.wrap (IntKind.i64.wrap (a + b))) (2 ^ (min (Int.toNat (1 : Int)) (IntKind.bits .u64))))) + m))) st) (C1 (a) (m) (data) (a) (m) (b) (cmp) ((IntKind.i64.wrap (Int.fdiv (IntKind.u64.wrap (IntKind.i64.wrap (a + b))) (2 ^ (min (Int.toNat (1 : Int)) (IntKind.bits .u64)))))) ((IntKind.i64.wrap ((IntKind.i64.wrap (Int.fdiv (IntKind.u64.wrap (IntKind.i64.wrap (a + b))) (2 ^ (min (Int.toNat (1 : Int)) (IntKind.bits .u64))))) + m))) st)) ∧ ∀ (start_1 : Int) (r_1 : Int) (data_5 : TV) (a_2 : Int) (m_2 : Int) (b_1 : Int) (cmp_3 : TV) (mid_1 : Int) (n_1 : Int) (st11 : St), C1 start_1 r_1 data_5 a_2 m_2 b_1 cmp_3 mid_1 n_1 st11 → (∃ (I5 : Int → Int → TV → Int → Int → Int → TV → Int → Int → Int → St → Prop) (M5 : Int → Int → TV → Int → Int → Int → TV → Int → Int → Int → St → Nat), (I5 (start_1) (r_1) (data_5) (a_2) (m_2) (b_1) (cmp_3) (mid_1) (n_1) ((IntKind.i64.wrap (n_1 - (1 : Int)))) st11) ∧ ∀ (start_2 : Int) (r_2 : Int) (data_6 : TV) (a_3 : Int) (m_3 : Int) (b_2 : Int) (cmp_4 : TV) (mid_2 : Int) (n_2 : Int) (p_1 : Int) (st12 : St), I5 start_2 r_2 data_6 a_3 m_3 b_2 cmp_4 mid_2 n_2 p_1 st12 → (BIf (decide (start_2 < r_2)) (((0 ≤ (IntKind.i64.wrap (p_1 - (IntKind.i64.wrap (Int.fdiv (IntKind.u64.wrap (IntKind.i64.wrap (start_2 + r_2))) (2 ^ (min (Int.toNat (1 : Int)) (IntKind.bits .u64))))))) ∧ (IntKind.i64.wrap (p_1 - (IntKind.i64.wrap (Int.fdiv (IntKind.u64.wrap (IntKind.i64.wrap (start_2 + r_2))) (2 ^ (min (Int.toNat (1 : Int)) (IntKind.bits .u64))))))) < (lenZ 14 data_6 : Int)) ∧ optK ((ldCells st12 [] (.t (ixT 14 data_6 (Int.toNat (IntKind.i64.wrap (p_1 - (IntKind.i64.wrap (Int.fdiv (IntKind.u64.wrap (IntKind.i64.wrap (start_2 + r_2))) (2 ^ (min (Int.toNat (1 : Int)) (IntKind.bits .u64)))))))))) 0 14).map TV.agg) (fun (x9 : TV) => decA [.str, .int .i64, .bool, .bool, .str, .int .i64, .int .i64, .int .i64, .int .i64, .int .i64, .str, .tv, .tv, .tv] x9 (fun (s25 : List UInt8) (n51 : Int) (b17 : Bool) (b18 : Bool) (s26 : List UInt8) (n52 : Int) (n53 : Int) (n54 : Int) (n55 : Int) (n56 : Int) (s27 : List UInt8) (v25 : TV) (v26 : TV) (v27 : TV) => ((0 ≤ (IntKind.i64.wrap (Int.fdiv (IntKind.u64.wrap (IntKind.i64.wrap (start_2 + r_2))) (2 ^ (min (Int.toNat (1 : Int)) (IntKind.bits .u64))))) ∧ (IntKind.i64.wrap (Int.fdiv (IntKind.u64.wrap (IntKind.i64.wrap (start_2 + r_2))) (2 ^ (min (Int.toNat (1 : Int)) (IntKind.bits .u64))))) < (lenZ 14 data_6 : Int)) ∧ optK ((ldCells st12 [] (.t (ixT 14 data_6 (Int.toNat (IntKind.i64.wrap (Int.fdiv (IntKind.u64.wrap (IntKind.i64.wrap (start_2 + r_2))) (2 ^ (min (Int.toNat (1 : Int)) (IntKind.bits .u64)))))))) 0 14).map TV.agg) (fun (x10 : TV) => decA [.str, .int .i64, .bool, .bool, .str, .int .i64, .int .i64, .int .i64, .int .i64, .int .i64, .str, .tv, .tv, .tv] x10 (fun (s28 : List UInt8) (n57 : Int) (b19 : Bool) (b20 : Bool) (s29 : List UInt8) (n58 : Int) (n59 : Int) (n60 : Int) (n61 : Int) (n62 : Int) (s30 : List UInt8) (v28 : TV) (v29 : TV) (v30 : TV) => callK PR cmp_4 [(.agg [(.str s25), (.int .i64 n51), (.bool b17), (.bool b18), (.str s26), (.int .i64 n52), (.int .i64 n53), (.int .i64 n54), (.int .i64 n55), (.int .i64 n56), (.str s27), v25, v26, v27]), (.agg [(.str s28), (.int .i64 n57), (.bool b19), (.bool b20), (.str s29), (.int .i64 n58), (.int .i64 n59), (.int .i64 n60), (.int .i64 n61), (.int .i64 n62), (.str s30), v28, v29, v30])] [.one (.int .i64)] st12 (fun (n63 : Int) (st13 : St) => BIf (!(decide (n63 < (0 : Int)))) ((I5 ((IntKind.i64.wrap ((IntKind.i64.wrap (Int.fdiv (IntKind.u64.wrap (IntKind.i64.wrap (start_2 + r_2))) (2 ^ (min (Int.toNat (1 : Int)) (IntKind.bits .u64))))) + (1 : Int)))) (r_2) (data_6) (a_3) (m_3) (b_2) (cmp_4) (mid_2) (n_2) (p_1) st13 ∧ M5 ((IntKind.i64.wrap ((IntKind.i64.wrap (Int.fdiv (IntKind.u64.wrap (IntKind.i64.wrap (start_2 + r_2))) (2 ^ (min (Int.toNat (1 : Int)) (IntKind.bits .u64))))) + (1 : Int)))) (r_2) (data_6) (a_3) (m_3) (b_2) (cmp_4) (mid_2) (n_2) (p_1) st13 < M5 start_2 r_2 data_6 a_3 m_3 b_2 cmp_4 mid_2 n_2 p_1 st12)) ((I5 (start_2) ((IntKind.i64.wrap (Int.fdiv (IntKind.u64.wrap (IntKind.i64.wrap (start_2 + r_2))) (2 ^ (min (Int.toNat (1 : Int)) (IntKind.bits .u64)))))) (data_6) (a_3) (m_3) (b_2) (cmp_4) (mid_2) (n_2) (p_1) st13 ∧ M5 (start_2) ((IntKind.i64.wrap (Int.fdiv (IntKind.u64.wrap (IntKind.i64.wrap (start_2 + r_2))) (2 ^ (min (Int.toNat (1 : Int)) (IntKind.bits .u64)))))) (data_6) (a_3) (m_3) (b_2) (cmp_4) (mid_2) (n_2) (p_1) st13 < M5 start_2 r_2 data_6 a_3 m_3 b_2 cmp_4 mid_2 n_2 p_1 st12)))))))))) (BIf (decide (start_2 < m_3)) (BIf (decide (m_3 < (IntKind.i64.wrap (n_2 - start_2)))) (CallT PR fn_slices_rotateCmpFunc_api_Field_ [data_6, (.int .i64 start_2), (.int .i64 m_3), (.int .i64 (IntKind.i64.wrap (n_2 - start_2))), cmp_4] [] st12 (fun  (st14 : St) => BIf (decide (a_3 < start_2)) (BIf (decide (start_2 < mid_2)) (CallT PR fn_slices_symMergeCmpFunc_api_Field_ [data_6, (.int .i64 a_3), (.int .i64 start_2), (.int .i64 mid_2), cmp_4] [] st14 (fun  (st15 : St) => BIf (decide (mid_2 < (IntKind.i64.wrap (n_2 - start_2)))) (BIf (decide ((IntKind.i64.wrap (n_2 - start_2)) < b_2)) (CallT PR fn_slices_symMergeCmpFunc_api_Field_ [data_6, (.int .i64 mid_2), (.int .i64 (IntKind.i64.wrap (n_2 - start_2))), (.int .i64 b_2), cmp_4] [] st15 (fun  (st16 : St) => K  st16)) (K  st15)) (K  st15))) (BIf (decide (mid_2 < (IntKind.i64.wrap (n_2 - start_2)))) (BIf (decide ((IntKind.i64.wrap (n_2 - start_2)) < b_2)) (CallT PR fn_slices_symMergeCmpFunc_api_Field_ [data_6, (.int .i64 mid_2), (.int .i64 (IntKind.i64.wrap (n_2 - start_2))), (.int .i64 b_2), cmp_4] [] st14 (fun  (st17 : St) => K  st17)) (K  st14)) (K  st14))) (BIf (decide (mid_2 < (IntKind.i64.wrap (n_2 - start_2)))) (BIf (decide ((IntKind.i64.wrap (n_2 - start_2)) < b_2)) (CallT PR fn_slices_symMergeCmpFunc_api_Field_ [data_6, (.int .i64 mid_2), (.int .i64 (IntKind.i64.wrap (n_2 - start_2))), (.int .i64 b_2), cmp_4] [] st14 (fun  (st18 : St) => K  st18)) (K  st14)) (K  st14)))) (BIf (decide (a_3 < start_2)) (BIf (decide (start_2 < mid_2)) (CallT PR fn_slices_symMergeCmpFunc_api_Field_ [data_6, (.int .i64 a_3), (.int .i64 start_2), (.int .i64 mid_2), cmp_4] [] st12 (fun  (st19 : St) => BIf (decide (mid_2 < (IntKind.i64.wrap (n_2 - start_2)))) (BIf (decide ((IntKind.i64.wrap (n_2 - start_2)) < b_2)) (CallT PR fn_slices_symMergeCmpFunc_api_Field_ [data_6, (.int .i64 mid_2), (.int .i64 (IntKind.i64.wrap (n_2 - start_2))), (.int .i64 b_2), cmp_4] [] st19 (fun  (st20 : St) => K  st20)) (K  st19)) (K  st19))) (BIf (decide (mid_2 < (IntKind.i64.wrap (n_2 - start_2)))) (BIf (decide ((IntKind.i64.wrap (n_2 - start_2)) < b_2)) (CallT PR fn_slices_symMergeCmpFunc_api_Field_ [data_6, (.int .i64 mid_2), (.int .i64 (IntKind.i64.wrap (n_2 - start_2))), (.int .i64 b_2), cmp_4] [] st12 (fun  (st21 : St) => K  st21)) (K  st12)) (K  st12))) (BIf (decide (mid_2 < (IntKind.i64.wrap (n_2 - start_2)))) (BIf (decide ((IntKind.i64.wrap (n_2 - start_2)) < b_2)) (CallT PR fn_slices_symMergeCmpFunc_api_Field_ [data_6, (.int .i64 mid_2), (.int .i64 (IntKind.i64.wrap (n_2 - start_2))), (.int .i64 b_2), cmp_4] [] st12 (fun  (st22 : St) => K  st22)) (K  st12)) (K  st12)))) (BIf (decide (a_3 < start_2)) (BIf (decide (start_2 < mid_2)) (CallT PR fn_slices_symMergeCmpFunc_api_Field_ [data_6, (.int .i64 a_3), (.int .i64 start_2), (.int .i64 mid_2), cmp_4] [] st12 (fun  (st23 : St) => BIf (decide (mid_2 < (IntKind.i64.wrap (n_2 - start_2)))) (BIf (decide ((IntKind.i64.wrap (n_2 - start_2)) < b_2)) (CallT PR fn_slices_symMergeCmpFunc_api_Field_ [data_6, (.int .i64 mid_2), (.int .i64 (IntKind.i64.wrap (n_2 - start_2))), (.int .i64 b_2), cmp_4] [] st23 (fun  (st24 : St) => K  st24)) (K  st23)) (K  st23))) (BIf (decide (mid_2 < (IntKind.i64.wrap (n_2 - start_2)))) (BIf (decide ((IntKind.i64.wrap (n_2 - start_2)) < b_2)) (CallT PR fn_slices_symMergeCmpFunc_api_Field_ [data_6, (.int .i64 mid_2), (.int .i64 (IntKind.i64.wrap (n_2 - start_2))), (.int .i64 b_2), cmp_4] [] st12 (fun  (st25 : St) => K  st25)) (K  st12)) (K  st12))) (BIf (decide (mid_2 < (IntKind.i64.wrap (n_2 - start_2)))) (BIf (decide ((IntKind.i64.wrap (n_2 - start_2)) < b_2)) (CallT PR fn_slices_symMergeCmpFunc_api_Field_ [data_6, (.int .i64 mid_2), (.int .i64 (IntKind.i64.wrap (n_2 - start_2))), (.int .i64 b_2), cmp_4] [] st12 (fun  (st26 : St) => K  st26)) (K  st12)) (K  st12))))))))) : CallT PR fn_slices_symMergeCmpFunc_api_Field_ [data, (.int .i64 a), (.int .i64 m), (.int .i64 b), cmp] [] st K :=
  tcalls_fw (cfg := ⟨[], [], [44, 48, 96, 100, 164, 168]⟩) (h := (.seq (.seq .none (.cond (.seq .none (.seq .none (.seq (.block (.loop ⟨[(10, .int .i64), (11, .int .i64), (0, .tv), (1, .int .i64), (4, .tv)], [], [], []⟩ .none)) (.seq (.seq .none (.block (.loop ⟨[(13, .int .i64), (0, .tv), (10, .int .i64)], [], [], []⟩ .none))) .none)))) .none)) (.seq (.seq .none (.cond (.seq .none (.seq .none (.seq (.block (.loop ⟨[(14, .int .i64), (15, .int .i64), (0, .tv), (2, .int .i64), (4, .tv)], [], [], []⟩ .none)) (.seq (.seq .none (.block (.loop ⟨[(17, .int .i64), (0, .tv), (14, .int .i64)], [], [], []⟩ .none))) .none)))) .none)) (.seq .none (.seq .none (.seq .none (.cut ⟨[(20, .int .i64), (21, .int .i64), (0, .tv), (1, .int .i64), (2, .int .i64), (3, .int .i64), (4, .tv), (18, .int .i64), (19, .int .i64)], [], [], []⟩ .none (.seq .none (.seq (.block (.loop ⟨[(20, .int .i64), (21, .int .i64), (0, .tv), (1, .int .i64), (2, .int .i64), (3, .int .i64), (4, .tv), (18, .int .i64), (19, .int .i64), (22, .int .i64)], [], [], []⟩ .none)) .none))))))))) mixed (fun _ _ => Tryd.call86 _ _) Tryd.func86 (by kernel_rfl) (by kernel_rfl) h
end Go.TVF
end

section
set_option linter.unusedVariables false
namespace Go.TVF
open Go Go.Proofs
set_option maxRecDepth 100000 in
theorem vc_datakitref03_Encode (r : Int) (st : St) (K : List UInt8 → Int → St → Prop) (h : CallT PR fn_datakitref03_character [(.int .i64 r)] [.one (.bool)] st (fun (b1 : Bool) (st1 : St) => BIf (!b1) (K (([] : List UInt8)) ((2 : Int)) st1) (BIf (decide (r < (128 : Int))) (optK ((toBytes st1 (.list 1 .full 1 [(.int .u8 (IntKind.u8.wrap r))])).map TV.str) (fun (x1 : TV) => decT (.str) x1 (fun (s1 : List UInt8) => K (s1) ((0 : Int)) st1))) (BIf (decide (r < (2048 : Int))) (optK ((toBytes st1 (.list 1 .full 2 [(.int .u8 (IntKind.u8.wrap (bitsI .or .i64 (192 : Int) (Int.fdiv r (2 ^ (min (Int.toNat (6 : Int)) (IntKind.bits .i64))))))), (.int .u8 (IntKind.u8.wrap (bitsI .or .i64 (128 : Int) (bitsI .and .i64 r (63 : Int)))))])).map TV.str) (fun (x2 : TV) => decT (.str) x2 (fun (s2 : List UInt8) => K (s2) ((0 : Int)) st1))) (BIf (decide (r < (65536 : Int))) (optK ((toBytes st1 (.list 1 .full 3 [(.int .u8 (IntKind.u8.wrap (bitsI .or .i64 (224 : Int) (Int.fdiv r (2 ^ (min (Int.toNat (12 : Int)) (IntKind.bits .i64))))))), (.int .u8 (IntKind.u8.wrap (bitsI .or .i64 (128 : Int) (bitsI .and .i64 (Int.fdiv r (2 ^ (min (Int.toNat (6 : Int)) (IntKind.bits .i64)))) (63 : Int))))), (.int .u8 (IntKind.u8.wrap (bitsI .or .i64 (128 : Int) (bitsI .and .i64 r (63 : Int)))))])).map TV.str) (fun (x3 : TV) => decT (.str) x3 (fun (s3 : List UInt8) => K (s3) ((0 : Int)) st1))) (optK ((toBytes st1 (.list 1 .full 4 [(.int .u8 (IntKind.u8.wrap (bitsI .or .i64 (240 : Int) (Int.fdiv r (2 ^ (min (Int.toNat (18 : Int)) (IntKind.bits .i64))))))), (.int .u8 (IntKind.u8.wrap (bitsI .or .i64 (128 : Int) (bitsI .and .i64 (Int.fdiv r (2 ^ (min (Int.toNat (12 : Int)) (IntKind.bits .i64)))) (63 : Int))))), (.int .u8 (IntKind.u8.wrap (bitsI .or .i64 (128 : Int) (bitsI .and .i64 (Int.fdiv r (2 ^ (min (Int.toNat (6 : Int)) (IntKind.bits .i64)))) (63 : Int))))), (.int .u8 (IntKind.u8.wrap (bitsI .or .i64 (128 : Int) (bitsI .and .i64 r (63 : Int)))))])).map TV.str) (fun (x4 : TV) => decT (.str) x4 (fun (s4 : List UInt8) => K (s4) ((0 : Int)) st1)))))))) : CallT PR fn_datakitref03_Encode [(.int .i64 r)] [.one (.str), .one (.int .i64)] st K :=
  tcalls_fw (cfg := ⟨[], [], []⟩) (h := .none) mixed (fun _ _ => Tryd.call88 _ _) Tryd.func88 (by kernel_rfl) (by kernel_rfl) h
set_option maxRecDepth 100000 in
theorem vc_slices_rotateCmpFunc_api_Field_ (data : TV) (a : Int) (m : Int) (b : Int) (cmp : TV) (st : St) (K : St → Prop) (h : ∃ (I1 : Int → Int → TV → Int → TV → St → Prop) (M1 : Int → Int → TV → Int → TV → St → Nat), (I1 ((IntKind.i64.wrap (m - a))) ((IntKind.i64.wrap (b - m))) (data) (m) (cmp) st) ∧ ∀ (i_1 : Int) (j_1 : Int) (data_1 : TV) (m_1 : Int) (cmp_1 : TV) (st1 : St), I1 i_1 j_1 data_1 m_1 cmp_1 st1 → (BIf (decide (i_1 ≠ j_1)) (BIf (decide (j_1 < i_1)) (CallT PR fn_slices_swapRangeCmpFunc_api_Field_ [data_1, (.int .i64 (IntKind.i64.wrap (m_1 - i_1))), (.int .i64 m_1), (.int .i64 j_1), cmp_1] [] st1 (fun  (st2 : St) => (I1 ((IntKind.i64.wrap (i_1 - j_1))) (j_1) (data_1) (m_1) (cmp_1) st2 ∧ M1 ((IntKind.i64.wrap (i_1 - j_1))) (j_1) (data_1) (m_1) (cmp_1) st2 < M1 i_1 j_1 data_1 m_1 cmp_1 st1))) (CallT PR fn_slices_swapRangeCmpFunc_api_Field_ [data_1, (.int .i64 (IntKind.i64.wrap (m_1 - i_1))), (.int .i64 (IntKind.i64.wrap ((IntKind.i64.wrap (m_1 + j_1)) - i_1))), (.int .i64 i_1), cmp_1] [] st1 (fun  (st3 : St) => (I1 (i_1) ((IntKind.i64.wrap (j_1 - i_1))) (data_1) (m_1) (cmp_1) st3 ∧ M1 (i_1) ((IntKind.i64.wrap (j_1 - i_1))) (data_1) (m_1) (cmp_1) st3 < M1 i_1 j_1 data_1 m_1 cmp_1 st1)))) (CallT PR fn_slices_swapRangeCmpFunc_api_Field_ [data_1, (.int .i64 (IntKind.i64.wrap (m_1 - i_1))), (.int .i64 m_1), (.int .i64 i_1), cmp_1] [] st1 (fun  (st4 : St) => K  st4)))) : CallT PR fn_slices_rotateCmpFunc_api_Field_ [data, (.int .i64 a), (.int .i64 m), (.int .i64 b), cmp] [] st K :=
  tcalls_fw (cfg := ⟨[], [], []⟩) (h := (.seq .none (.seq .none (.seq (.block (.loop ⟨[(10, .int .i64), (11, .int .i64), (0, .tv), (2, .int .i64), (4, .tv)], [], [], []⟩ .none)) .none)))) mixed (fun _ _ => Tryd.call92 _ _) Tryd.func92 (by kernel_rfl) (by kernel_rfl) h
set_option maxRecDepth 100000 in
theorem vc_datakitref03_character (r : Int) (st : St) (K : Bool → St → Prop) (h : BIf (decide ((0 : Int) ≤ r)) (BIf (decide (r ≤ (1114111 : Int))) (BIf (decide (r < (55296 : Int))) (K (true) st) (K ((decide ((57343 : Int) < r))) st)) (K (false) st)) (K (false) st)) : CallT PR fn_datakitref03_character [(.int .i64 r)] [.one (.bool)] st K :=
  tcalls_fw (cfg := ⟨[], [], []⟩) (h := .none) mixed (fun _ _ => Tryd.call93 _ _) Tryd.func93 (by kernel_rfl) (by kernel_rfl) h
set_option maxRecDepth 100000 in
theorem vc_slices_swapRangeCmpFunc_api_Field_ (data : TV) (a : Int) (b : Int) (n : Int) (cmp : TV) (st : St) (K : St → Prop) (h : ∃ (I1 : Int → TV → Int → Int → Int → St → Prop) (M1 : Int → TV → Int → Int → Int → St → Nat), (I1 ((0 : Int)) (data) (a) (b) (n) st) ∧ ∀ (i_1 : Int) (data_1 : TV) (a_1 : Int) (b_1 : Int) (n_1 : Int) (st1 : St), I1 i_1 data_1 a_1 b_1 n_1 st1 → (BIf (decide (i_1 < n_1)) (((0 ≤ (IntKind.i64.wrap (b_1 + i_1)) ∧ (IntKind.i64.wrap (b_1 + i_1)) < (lenZ 14 data_1 : Int)) ∧ optK ((ldCells st1 [] (.t (ixT 14 data_1 (Int.toNat (IntKind.i64.wrap (b_1 + i_1))))) 0 14).map TV.agg) (fun (x1 : TV) => decA [.str, .int .i64, .bool, .bool, .str, .int .i64, .int .i64, .int .i64, .int .i64, .int .i64, .str, .tv, .tv, .tv] x1 (fun (s1 : List UInt8) (n1 : Int) (b1 : Bool) (b2 : Bool) (s2 : List UInt8) (n2 : Int) (n3 : Int) (n4 : Int) (n5 : Int) (n6 : Int) (s3 : List UInt8) (v1 : TV) (v2 : TV) (v3 : TV) => ((0 ≤ (IntKind.i64.wrap (a_1 + i_1)) ∧ (IntKind.i64.wrap (a_1 + i_1)) < (lenZ 14 data_1 : Int)) ∧ optK ((ldCells st1 [] (.t (ixT 14 data_1 (Int.toNat (IntKind.i64.wrap (a_1 + i_1))))) 0 14).map TV.agg) (fun (x2 : TV) => decA [.str, .int .i64, .bool, .bool, .str, .int .i64, .int .i64, .int .i64, .int .i64, .int .i64, .str, .tv, .tv, .tv] x2 (fun (s4 : List UInt8) (n7 : Int) (b3 : Bool) (b4 : Bool) (s5 : List UInt8) (n8 : Int) (n9 : Int) (n10 : Int) (n11 : Int) (n12 : Int) (s6 : List UInt8) (v4 : TV) (v5 : TV) (v6 : TV) => ((0 ≤ (IntKind.i64.wrap (a_1 + i_1)) ∧ (IntKind.i64.wrap (a_1 + i_1)) < (lenZ 14 data_1 : Int)) ∧ need (List.all [(.str s1), (.int .i64 n1), (.bool b1), (.bool b2), (.str s2), (.int .i64 n2), (.int .i64 n3), (.int .i64 n4), (.int .i64 n5), (.int .i64 n6), (.str s3), v1, v2, v3] oneT) (stB st1 (ixT 14 data_1 (Int.toNat (IntKind.i64.wrap (a_1 + i_1)))) [(.str s1), (.int .i64 n1), (.bool b1), (.bool b2), (.str s2), (.int .i64 n2), (.int .i64 n3), (.int .i64 n4), (.int .i64 n5), (.int .i64 n6), (.str s3), v1, v2, v3] (fun (st2 : St) => ((0 ≤ (IntKind.i64.wrap (b_1 + i_1)) ∧ (IntKind.i64.wrap (b_1 + i_1)) < (lenZ 14 data_1 : Int)) ∧ need (List.all [(.str s4), (.int .i64 n7), (.bool b3), (.bool b4), (.str s5), (.int .i64 n8), (.int .i64 n9), (.int .i64 n10), (.int .i64 n11), (.int .i64 n12), (.str s6), v4, v5, v6] oneT) (stB st2 (ixT 14 data_1 (Int.toNat (IntKind.i64.wrap (b_1 + i_1)))) [(.str s4), (.int .i64 n7), (.bool b3), (.bool b4), (.str s5), (.int .i64 n8), (.int .i64 n9), (.int .i64 n10), (.int .i64 n11), (.int .i64 n12), (.str s6), v4, v5, v6] (fun (st3 : St) => (I1 ((IntKind.i64.wrap (i_1 + (1 : Int)))) (data_1) (a_1) (b_1) (n_1) st3 ∧ M1 ((IntKind.i64.wrap (i_1 + (1 : Int)))) (data_1) (a_1) (b_1) (n_1) st3 < M1 i_1 data_1 a_1 b_1 n_1 st1)))))))))))))) (K  st1))) : CallT PR fn_slices_swapRangeCmpFunc_api_Field_ [data, (.int .i64 a), (.int .i64 b), (.int .i64 n), cmp] [] st K :=
  tcalls_fw (cfg := ⟨[], [], []⟩) (h := (.seq .none (.block (.loop ⟨[(10, .int .i64), (0, .tv), (1, .int .i64), (2, .int .i64), (3, .int .i64)], [], [], []⟩ .none)))) mixed (fun _ _ => Tryd.call97 _ _) Tryd.func97 (by kernel_rfl) (by kernel_rfl) h
end Go.TVF
end

section
set_option linter.unusedVariables false
namespace Go.TVF
open Go Go.Proofs
structure StX (S : Nat → Prop) (a b : St) : Prop where
  nb : a.nb ≤ b.nb
  box : ∀ i, i < a.nb → ¬ S i → b.box i = a.box i
  nt : a.nt ≤ b.nt
  live : ∀ i, i < a.nt → b.live i = a.live i
  ty : ∀ i, i < a.nt → b.ty i = a.ty i
  bt : ∀ i, i < a.nb → b.bt i = a.bt i
theorem StX.refl (S : Nat → Prop) (a : St) : StX S a a := ⟨Nat.le_refl _, fun _ _ _ => rfl, Nat.le_refl _, fun _ _ => rfl, fun _ _ => rfl, fun _ _ => rfl⟩
theorem StX.trans {S : Nat → Prop} {a b c : St} (h : StX S a b) (k : StX S b c) : StX S a c :=
  ⟨Nat.le_trans h.nb k.nb, fun i hi hs => (k.box i (Nat.lt_of_lt_of_le hi h.nb) hs).trans (h.box i hi hs), Nat.le_trans h.nt k.nt, fun i hi => (k.live i (Nat.lt_of_lt_of_le hi h.nt)).trans (h.live i hi), fun i hi => (k.ty i (Nat.lt_of_lt_of_le hi h.nt)).trans (h.ty i hi), fun i hi => (k.bt i (Nat.lt_of_lt_of_le hi h.nb)).trans (h.bt i hi)⟩
theorem StX.mono {S T : Nat → Prop} {a b : St} (h : StX S a b) (k : ∀ i, S i → T i) : StX T a b :=
  ⟨h.nb, fun i hi hs => h.box i hi fun g => hs (k i g), h.nt, h.live, h.ty, h.bt⟩
theorem StX.of {S : Nat → Prop} {a b : St} (h : StExt a b) : StX S a b := ⟨h.nb, fun i hi _ => h.box i hi, h.nt, h.live, h.ty, h.bt⟩
theorem StX.ext {S : Nat → Prop} {a b c : St} (h : StExt a b) (k : StX S b c) (hs : ∀ i, S i → a.nb ≤ i) : StExt a c :=
  ⟨Nat.le_trans h.nb k.nb, fun i hi => (k.box i (Nat.lt_of_lt_of_le hi h.nb) fun g => absurd (hs i g) (by omega)).trans (h.box i hi), Nat.le_trans h.nt k.nt, fun i hi => (k.live i (Nat.lt_of_lt_of_le hi h.nt)).trans (h.live i hi), fun i hi => (k.ty i (Nat.lt_of_lt_of_le hi h.nt)).trans (h.ty i hi), fun i hi => (k.bt i (Nat.lt_of_lt_of_le hi h.nb)).trans (h.bt i hi)⟩
theorem StX.put {S : Nat → Prop} {a : St} {i : Nat} (hi : S i) (o : AObj) : StX S a (a.put i o) :=
  ⟨Nat.le_refl _, fun j hj hs => by simp only [St.put]; rw [if_neg (by rintro rfl; exact hs hi)], Nat.le_refl _, fun _ _ => rfl, fun _ _ => rfl, fun _ _ => rfl⟩
end Go.TVF
end

section
namespace Go.TVF
abbrev tyField : Nat := 61
end Go.TVF
end

section
namespace Go.TVF
open Go Go.Proofs
set_option linter.unusedVariables false
set_option linter.unusedSimpArgs false
/-- The cells of a field, by its key. -/
def CkK (k : List UInt8) (cs : List TV) : Prop := ∃ (n1 : Int) (b1 b2 : Bool) (s2 : List UInt8) (n2 n3 n4 n5 n6 : Int) (s3 : List UInt8) (u1 u2 u3 : TV),
  cs = [.str k, .int .i64 n1, .bool b1, .bool b2, .str s2, .int .i64 n2, .int .i64 n3, .int .i64 n4, .int .i64 n5, .int .i64 n6, .str s3, u1, u2, u3] ∧ oneT u1 = true ∧ oneT u2 = true ∧ oneT u3 = true
def Ck (cs : List TV) : Prop := ∃ k, CkK k cs
theorem Ck.len {cs : List TV} (h : Ck cs) : cs.length = 14 := by obtain ⟨k, n1, b1, b2, s2, n2, n3, n4, n5, n6, s3, u1, u2, u3, rfl, _⟩ := h; rfl
theorem Ck.one {cs : List TV} (h : Ck cs) : List.all cs oneT = true := by
  obtain ⟨k, n1, b1, b2, s2, n2, n3, n4, n5, n6, s3, u1, u2, u3, rfl, h1, h2, h3⟩ := h
  simp [oneT] at h1 h2 h3 ⊢
  simp [h1, h2, h3]
theorem decA14 {k : List UInt8} {n1 : Int} {b1 b2 : Bool} {s2 : List UInt8} {n2 n3 n4 n5 n6 : Int} {s3 : List UInt8} {u1 u2 u3 : TV} {f : Fun [.str, .int .i64, .bool, .bool, .str, .int .i64, .int .i64, .int .i64, .int .i64, .int .i64, .str, .tv, .tv, .tv] Prop} (h : f k n1 b1 b2 s2 n2 n3 n4 n5 n6 s3 u1 u2 u3) :
    decA [.str, .int .i64, .bool, .bool, .str, .int .i64, .int .i64, .int .i64, .int .i64, .int .i64, .str, .tv, .tv, .tv] (.agg [.str k, .int .i64 n1, .bool b1, .bool b2, .str s2, .int .i64 n2, .int .i64 n3, .int .i64 n4, .int .i64 n5, .int .i64 n6, .str s3, u1, u2, u3]) f := h
/-- A row of fields over a box. -/
structure BxF (st : St) (b n cap : Nat) (cks : List (List TV)) : Prop where
  lt : b < st.nb
  len : cks.length = n
  le : n ≤ cap
  ck : ∀ c, c ∈ cks → Ck c
  box : ∃ tail, st.box b = .cells (cks.flatten ++ tail) ∧ (cks.flatten ++ tail).length = cap * 14
theorem flat_len : ∀ {cks : List (List TV)}, (∀ c, c ∈ cks → Ck c) → cks.flatten.length = cks.length * 14
  | [], _ => rfl
  | c :: r, h => by
    rw [List.flatten_cons, List.length_append, (h c (.head _)).len, flat_len fun x hx => h x (.tail _ hx), List.length_cons]; omega
theorem flat_at : ∀ {cks : List (List TV)} {i : Nat} {c : List TV}, (∀ c, c ∈ cks → Ck c) → cks[i]? = some c → ∃ A B, cks.flatten = A ++ c ++ B ∧ A.length = i * 14 ∧ ∀ d : List TV, (cks.set i d).flatten = A ++ d ++ B
  | [], i, c, _, hi => by simp at hi
  | x :: r, 0, c, h, hi => by
    simp only [List.getElem?_cons_zero, Option.some.injEq] at hi
    subst hi
    exact ⟨[], r.flatten, by simp, by simp, fun d => by simp⟩
  | x :: r, i + 1, c, h, hi => by
    obtain ⟨A, B, h1, h2, h3⟩ := flat_at (fun y hy => h y (.tail _ hy)) (by simpa using hi : r[i]? = some c)
    refine ⟨x ++ A, B, by rw [List.flatten_cons, h1]; simp, by rw [List.length_append, (h x (.head _)).len, h2]; omega, fun d => by rw [List.set_cons_succ, List.flatten_cons, h3 d]; simp⟩
theorem setAll_mid : ∀ (ys A c B : List TV), ys.length = c.length → setAll (A ++ c ++ B) A.length ys = A ++ ys ++ B
  | [], A, c, B, h => by
    have : c = [] := List.eq_nil_of_length_eq_zero (by simpa using h.symm)
    subst this; rfl
  | y :: ys, A, [], B, h => by simp at h
  | y :: ys, A, x :: c, B, h => by
    rw [setAll]
    have e : (A ++ x :: c ++ B).set A.length y = (A ++ [y]) ++ c ++ B := by simp
    rw [e]
    have := setAll_mid ys (A ++ [y]) c B (by simpa using h)
    rw [List.length_append] at this
    rw [show A.length + 1 = A.length + [y].length from rfl, this]
    simp
theorem lds_mid {st : St} {b : Nat} {B : List TV} : ∀ (c : List TV) (l : List TV) (j o : Nat), st.box b = .cells l → l.drop (o + j) = c ++ B → ldCells st [] (.t (.box b o)) j c.length = some c
  | [], l, j, o, h, hd => rfl
  | x :: c, l, j, o, h, hd => by
    have hx : l[o + j]? = some x := by
      have := congrArg (fun z : List TV => z[0]?) hd
      simpa using this
    have hd2 : l.drop (o + (j + 1)) = c ++ B := by
      have := congrArg (fun z : List TV => z.drop 1) hd
      simpa [List.drop_drop, Nat.add_assoc] using this
    show (match ldCell st [] (.t (.box b o)) j with | some x => (ldCells st [] (.t (.box b o)) (j + 1) c.length).map (x :: ·) | none => none) = _
    have : ldCell st [] (.t (.box b o)) j = some x := by simp only [ldCell, h]; exact hx
    rw [this]
    simp only
    rw [lds_mid c l (j + 1) o h hd2]; rfl
theorem BxF.ld {st : St} {b n cap : Nat} {cks : List (List TV)} (h : BxF st b n cap cks) {i : Nat} {c : List TV} (hi : cks[i]? = some c) : (ldCells st [] (.t (ixT 14 (.ms 14 b 0 n cap) i)) 0 14).map TV.agg = some (.agg c) := by
  obtain ⟨tail, h1, h2⟩ := h.box
  obtain ⟨A, B, h3, h4, _⟩ := flat_at h.ck hi
  have hc := (h.ck c (List.mem_of_getElem? hi)).len
  have := lds_mid (B := B ++ tail) (st := st) (b := b) c (cks.flatten ++ tail) 0 (0 + i * 14) h1 (by
    rw [h3, Nat.add_zero, Nat.zero_add, ← h4]; simp)
  rw [hc] at this
  show Option.map TV.agg (ldCells st [] (.t (.box b (0 + i * 14))) 0 14) = _
  rw [this]; rfl
theorem BxF.st {st : St} {b n cap : Nat} {cks : List (List TV)} (h : BxF st b n cap cks) {i : Nat} {c ys : List TV} (hi : cks[i]? = some c) (hy : Ck ys) {k : St → Prop} (hk : ∀ st', BxF st' b n cap (cks.set i ys) → StX (· = b) st st' → k st') :
    stB st (ixT 14 (.ms 14 b 0 n cap) i) ys k := by
  obtain ⟨tail, h1, h2⟩ := h.box
  obtain ⟨A, B, h3, h4, h5⟩ := flat_at h.ck hi
  have hc := (h.ck c (List.mem_of_getElem? hi)).len
  have hl : (cks.flatten ++ tail).length = A.length + 14 + B.length + tail.length := by rw [h3]; simp [hc]; omega
  have he : setAll (cks.flatten ++ tail) (0 + i * 14) ys = (cks.set i ys).flatten ++ tail := by
    rw [Nat.zero_add, ← h4, h3, List.append_assoc, setAll_mid ys A c (B ++ tail) (by rw [hy.len, hc]), h5 ys]
    simp
  refine ⟨_, h1, by rw [hl, hy.len, ← h4]; omega, ?_⟩
  rw [he]
  refine hk _ ⟨h.lt, by rw [List.length_set]; exact h.len, h.le, fun x hx => ?_, tail, by simp [St.put], ?_⟩ (StX.put (S := (· = b)) (show b = b from rfl) _)
  · rcases List.mem_or_eq_of_mem_set hx with hx | rfl
    · exact h.ck x hx
    · exact hy
  · rw [← he, Nat.zero_add]; simpa [length_setAll] using h2
theorem BxF.lenZ {st : St} {b n cap : Nat} {cks : List (List TV)} (h : BxF st b n cap cks) : lenZ 14 (.ms 14 b 0 n cap) = cks.length := by rw [h.len]; rfl
end Go.TVF
end

section
namespace Go.TVF
open Go Go.Proofs
set_option linter.unusedVariables false
set_option linter.unusedSimpArgs false
section
variable {st : St} {b n cap : Nat}
theorem swapRange_ok {P X Y Z Q : List (List TV)} {cmp : TV} (h : BxF st b n cap (P ++ X ++ Y ++ Z ++ Q)) (hz : Z.length = X.length) (hn : n ≤ 100000000) {A B N : Int} (hA : A = (P.length : Int)) (hB : B = ((P.length + X.length + Y.length : Nat) : Int)) (hN : N = (X.length : Int)) {K : St → Prop}
    (hk : ∀ st', BxF st' b n cap (P ++ Z ++ Y ++ X ++ Q) → StX (· = b) st st' → K st') :
    CallT PR fn_slices_swapRangeCmpFunc_api_Field_ [.ms 14 b 0 n cap, .int .i64 A, .int .i64 B, .int .i64 N, cmp] [] st K := by
  have hlen := h.len
  simp only [List.length_append] at hlen
  refine vc_slices_swapRangeCmpFunc_api_Field_ _ A B N cmp st K ⟨fun i d a b' n' st' => d = .ms 14 b 0 n cap ∧ a = A ∧ b' = B ∧ n' = N ∧ ∃ k : Nat, i = (k : Int) ∧ k ≤ X.length ∧ BxF st' b n cap (P ++ (Z.take k ++ X.drop k) ++ Y ++ (X.take k ++ Z.drop k) ++ Q) ∧ StX (· = b) st st',
    fun i _ _ _ _ _ => (X.length - i).toNat, ⟨rfl, rfl, rfl, rfl, 0, rfl, Nat.zero_le _, by simpa using h, StX.refl _ _⟩, ?_⟩
  rintro _ _ _ _ _ st1 ⟨rfl, rfl, rfl, rfl, k, rfl, hkl, hb, e⟩
  subst hA hB hN
  refine BIf_intro (fun g => ?_) fun g => ?_
  · have hkx : k < X.length := by omega
    rw [wrap64 _ (by omega) (by omega), wrap64 _ (by omega) (by omega), wrap64 _ (by omega) (by omega)]
    have i1 : Int.toNat (((P.length + X.length + Y.length : Nat) : Int) + (k : Int)) = P.length + X.length + Y.length + k := by omega
    have i2 : Int.toNat ((P.length : Int) + (k : Int)) = P.length + k := by omega
    rw [i1, i2, hb.lenZ]
    have hl := hb.len
    have hx : (P ++ (Z.take k ++ X.drop k) ++ Y ++ (X.take k ++ Z.drop k) ++ Q)[P.length + k]? = some X[k] := by
      simp only [List.append_assoc]
      rw [List.getElem?_append_right (by omega), Nat.add_sub_cancel_left, List.getElem?_append_right (by simp; omega), List.getElem?_append_left (by simp; omega)]
      simp [show k - min k Z.length = 0 by omega, hkx]
    have hzz : (P ++ (Z.take k ++ X.drop k) ++ Y ++ (X.take k ++ Z.drop k) ++ Q)[P.length + X.length + Y.length + k]? = some (Z[k]'(by omega)) := by
      have e1 : (P ++ (Z.take k ++ X.drop k) ++ Y ++ (X.take k ++ Z.drop k) ++ Q) = (P ++ (Z.take k ++ X.drop k) ++ Y ++ X.take k) ++ (Z.drop k ++ Q) := by simp
      have e2 : (P ++ (Z.take k ++ X.drop k) ++ Y ++ X.take k).length = P.length + X.length + Y.length + k := by simp; omega
      rw [e1, List.getElem?_append_right (by omega), e2, Nat.sub_self, List.getElem?_append_left (by simp; omega)]
      simp [show k < Z.length by omega]
    have cx := hb.ck _ (List.mem_of_getElem? hx)
    have cz := hb.ck _ (List.mem_of_getElem? hzz)
    have l1 := hb.ld hzz
    have l2 := hb.ld hx
    have hsw := swp_run (P := P) (X := X) (Y := Y) (Z := Z) (Q := Q) hkx hz
    unfold swp at hsw
    rw [hx, hzz] at hsw
    simp only at hsw
    have o1 := cx.one
    have o2 := cz.one
    generalize hcx : X[k] = x at *
    generalize hcz : (Z[k]'(by omega)) = z at *
    have cx' := cx
    have cz' := cz
    obtain ⟨kx, n1, b1, b2, s2, n2, n3, n4, n5, n6, s3, u1, u2, u3, rfl, _⟩ := cx
    obtain ⟨kz, m1, c1, c2, t2, m2, m3, m4, m5, m6, t3, v1, v2, v3, rfl, _⟩ := cz
    refine ⟨⟨by omega, by omega⟩, optK_intro l1 (decA14 ⟨⟨by omega, by omega⟩, optK_intro l2 (decA14 ⟨⟨by omega, by omega⟩, need_intro o2 (hb.st hx cz' fun st2 hb2 e2 => ⟨⟨by omega, by omega⟩, need_intro o1 ?_⟩)⟩)⟩)⟩
    · have hg : ∃ y, (List.set (P ++ (Z.take k ++ X.drop k) ++ Y ++ (X.take k ++ Z.drop k) ++ Q) (P.length + k) [.str kz, .int .i64 m1, .bool c1, .bool c2, .str t2, .int .i64 m2, .int .i64 m3, .int .i64 m4, .int .i64 m5, .int .i64 m6, .str t3, v1, v2, v3])[P.length + X.length + Y.length + k]? = some y :=
        ⟨_, List.getElem?_eq_getElem (by rw [List.length_set, hl]; omega)⟩
      obtain ⟨y, hy⟩ := hg
      refine hb2.st hy cx' fun st3 hb3 e3 => ⟨⟨rfl, rfl, rfl, rfl, k + 1, by omega, by omega, ?_, (e.trans e2).trans e3⟩, by dsimp only; omega⟩
      rw [hsw] at hb3
      exact hb3
  · have : k = X.length := by omega
    subst this
    refine hk _ ?_ e
    rw [List.take_of_length_le (show Z.length ≤ X.length by omega), List.drop_length, List.take_length, List.drop_of_length_le (show Z.length ≤ X.length by omega), List.append_nil, List.append_nil] at hb
    exact hb
theorem rotate_ok {P U V Q : List (List TV)} {cmp : TV} (h : BxF st b n cap (P ++ U ++ V ++ Q)) (hn : n ≤ 100000000) (hU : 0 < U.length) (hV : 0 < V.length) {A M B : Int} (hA : A = (P.length : Int)) (hM : M = ((P.length + U.length : Nat) : Int)) (hB : B = ((P.length + U.length + V.length : Nat) : Int)) {K : St → Prop}
    (hk : ∀ st', BxF st' b n cap (P ++ V ++ U ++ Q) → StX (· = b) st st' → K st') :
    CallT PR fn_slices_rotateCmpFunc_api_Field_ [.ms 14 b 0 n cap, .int .i64 A, .int .i64 M, .int .i64 B, cmp] [] st K := by
  have hlen := h.len
  simp only [List.length_append] at hlen
  refine vc_slices_rotateCmpFunc_api_Field_ _ A M B cmp st K ⟨fun i j d m' c' st' => d = .ms 14 b 0 n cap ∧ m' = M ∧ ∃ P' U' V' Q' : List (List TV), P' ++ V' ++ U' ++ Q' = P ++ V ++ U ++ Q ∧ P'.length + U'.length = P.length + U.length ∧ i = (U'.length : Int) ∧ j = (V'.length : Int) ∧ 0 < U'.length ∧ 0 < V'.length ∧ BxF st' b n cap (P' ++ U' ++ V' ++ Q') ∧ StX (· = b) st st',
    fun i j _ _ _ _ => (i + j).toNat, ⟨rfl, rfl, P, U, V, Q, rfl, rfl, ?_, ?_, hU, hV, h, StX.refl _ _⟩, ?_⟩
  · rw [wrap64 _ (by omega) (by omega)]; omega
  · rw [wrap64 _ (by omega) (by omega)]; omega
  rintro _ _ _ _ c' st1 ⟨rfl, rfl, P', U', V', Q', hfin, hm, rfl, rfl, hu, hv, hb, e⟩
  have hlb := hb.len
  simp only [List.length_append] at hlb
  subst hA hM hB
  have wa : IntKind.i64.wrap (((P.length + U.length : Nat) : Int) - (U'.length : Int)) = (P'.length : Int) := by rw [wrap64 _ (by omega) (by omega)]; omega
  refine BIf_intro (fun g => BIf_intro (fun g2 => ?_) fun g2 => ?_) fun g => ?_
  · rw [wa, wrap64 _ (by omega) (by omega)]
    have hX : U' = U'.take V'.length ++ U'.drop V'.length := (List.take_append_drop _ _).symm
    have l1 : (U'.take V'.length).length = V'.length := by simp; omega
    have l2 : (U'.drop V'.length).length = U'.length - V'.length := by simp
    generalize U'.take V'.length = X at *
    generalize U'.drop V'.length = Y at *
    subst hX
    simp only [List.length_append] at *
    refine swapRange_ok (P := P') (X := X) (Y := Y) (Z := V') (Q := Q') (by simpa using hb) (by omega) hn rfl (by omega) (by omega) fun st2 hb2 e2 => ⟨⟨trivial, trivial, P' ++ V', Y, X, Q', ?_, by simp only [List.length_append]; omega, by omega, by omega, by omega, by omega, by simpa using hb2, e.trans e2⟩, by omega⟩
    rw [← hfin]; simp
  · have hjw : IntKind.i64.wrap (IntKind.i64.wrap (((P.length + U.length : Nat) : Int) + (V'.length : Int)) - (U'.length : Int)) = (P'.length : Int) + (V'.length : Int) := by
      rw [wrap64 (((P.length + U.length : Nat) : Int) + (V'.length : Int)) (by omega) (by omega), wrap64 _ (by omega) (by omega)]; omega
    rw [wa, hjw, wrap64 _ (by omega) (by omega)]
    have hX : V' = V'.take (V'.length - U'.length) ++ V'.drop (V'.length - U'.length) := (List.take_append_drop _ _).symm
    have l1 : (V'.take (V'.length - U'.length)).length = V'.length - U'.length := by simp
    have l2 : (V'.drop (V'.length - U'.length)).length = U'.length := by simp; omega
    generalize V'.take (V'.length - U'.length) = Y at *
    generalize V'.drop (V'.length - U'.length) = Z at *
    subst hX
    simp only [List.length_append] at *
    refine swapRange_ok (P := P') (X := U') (Y := Y) (Z := Z) (Q := Q') (by simpa using hb) (by omega) hn rfl (by omega) rfl fun st2 hb2 e2 => ⟨⟨trivial, trivial, P', Z, Y, U' ++ Q', ?_, by omega, by omega, by omega, by omega, by omega, by simpa using hb2, e.trans e2⟩, by omega⟩
    rw [← hfin]; simp
  · have huv : U'.length = V'.length := by omega
    rw [wa]
    refine swapRange_ok (P := P') (X := U') (Y := []) (Z := V') (Q := Q') (by simpa using hb) huv.symm hn rfl (by simp; omega) rfl fun st2 hb2 e2 => hk _ ?_ (e.trans e2)
    rw [← hfin]; simpa using hb2
end
end Go.TVF
end

section
namespace Go.TVF
open Go Go.Proofs
set_option linter.unusedVariables false
set_option linter.unusedSimpArgs false
section
variable {st : St} {b n cap : Nat} {cks : List (List TV)}
def keyOf (c : List TV) : List UInt8 := match c with | .str k :: _ => k | _ => []
/-- What the comparing function gives: below zero exactly where the first key is less. -/
def CmpOk (cmp : TV) : Prop := ∀ (c d : List TV) (st : St) (K : Int → St → Prop), Ck c → Ck d → (∀ (r : Int) st', StExt st st' → (r < 0 ↔ Op.bytesLess (keyOf c) (keyOf d) = true) → K r st') → callK PR cmp [.agg c, .agg d] [.one (.int .i64)] st K
theorem swap_vc {I J : Int} {i j : Nat} {x y : List TV} {K : St → Prop} (h : BxF st b n cap cks) (hI : I = (i : Int)) (hJ : J = (j : Int)) (hi : cks[i]? = some x) (hj : cks[j]? = some y) (hk : ∀ st', BxF st' b n cap ((cks.set i y).set j x) → StX (· = b) st st' → K st') :
    ((0 ≤ J ∧ J < (lenZ 14 (.ms 14 b 0 n cap) : Int)) ∧ optK ((ldCells st [] (.t (ixT 14 (.ms 14 b 0 n cap) (Int.toNat J))) 0 14).map TV.agg) (fun (x1 : TV) => decA [.str, .int .i64, .bool, .bool, .str, .int .i64, .int .i64, .int .i64, .int .i64, .int .i64, .str, .tv, .tv, .tv] x1 (fun (a0 : List UInt8) (a1 : Int) (a2 : Bool) (a3 : Bool) (a4 : List UInt8) (a5 : Int) (a6 : Int) (a7 : Int) (a8 : Int) (a9 : Int) (a10 : List UInt8) (a11 : TV) (a12 : TV) (a13 : TV) => ((0 ≤ I ∧ I < (lenZ 14 (.ms 14 b 0 n cap) : Int)) ∧ optK ((ldCells st [] (.t (ixT 14 (.ms 14 b 0 n cap) (Int.toNat I))) 0 14).map TV.agg) (fun (x2 : TV) => decA [.str, .int .i64, .bool, .bool, .str, .int .i64, .int .i64, .int .i64, .int .i64, .int .i64, .str, .tv, .tv, .tv] x2 (fun (c0 : List UInt8) (c1 : Int) (c2 : Bool) (c3 : Bool) (c4 : List UInt8) (c5 : Int) (c6 : Int) (c7 : Int) (c8 : Int) (c9 : Int) (c10 : List UInt8) (c11 : TV) (c12 : TV) (c13 : TV) => ((0 ≤ I ∧ I < (lenZ 14 (.ms 14 b 0 n cap) : Int)) ∧ need (List.all [(.str a0), (.int .i64 a1), (.bool a2), (.bool a3), (.str a4), (.int .i64 a5), (.int .i64 a6), (.int .i64 a7), (.int .i64 a8), (.int .i64 a9), (.str a10), a11, a12, a13] oneT) (stB st (ixT 14 (.ms 14 b 0 n cap) (Int.toNat I)) [(.str a0), (.int .i64 a1), (.bool a2), (.bool a3), (.str a4), (.int .i64 a5), (.int .i64 a6), (.int .i64 a7), (.int .i64 a8), (.int .i64 a9), (.str a10), a11, a12, a13] (fun (st2 : St) => ((0 ≤ J ∧ J < (lenZ 14 (.ms 14 b 0 n cap) : Int)) ∧ need (List.all [(.str c0), (.int .i64 c1), (.bool c2), (.bool c3), (.str c4), (.int .i64 c5), (.int .i64 c6), (.int .i64 c7), (.int .i64 c8), (.int .i64 c9), (.str c10), c11, c12, c13] oneT) (stB st2 (ixT 14 (.ms 14 b 0 n cap) (Int.toNat J)) [(.str c0), (.int .i64 c1), (.bool c2), (.bool c3), (.str c4), (.int .i64 c5), (.int .i64 c6), (.int .i64 c7), (.int .i64 c8), (.int .i64 c9), (.str c10), c11, c12, c13] K))))))))))) := by
  subst hI hJ
  have li := (List.getElem?_eq_some_iff.1 hi).1
  have lj := (List.getElem?_eq_some_iff.1 hj).1
  have cx := h.ck _ (List.mem_of_getElem? hi)
  have cy := h.ck _ (List.mem_of_getElem? hj)
  have l1 := h.ld hj
  have l2 := h.ld hi
  have o1 := cx.one
  have o2 := cy.one
  have cx' := cx
  have cy' := cy
  simp only [Int.toNat_natCast]
  rw [h.lenZ]
  obtain ⟨kx, n1, b1, b2, s2, n2, n3, n4, n5, n6, s3, u1, u2, u3, rfl, _⟩ := cx
  obtain ⟨ky, m1, c1, c2, t2, m2, m3, m4, m5, m6, t3, v1, v2, v3, rfl, _⟩ := cy
  refine ⟨⟨by omega, by omega⟩, optK_intro l1 (decA14 ⟨⟨by omega, by omega⟩, optK_intro l2 (decA14 ⟨⟨by omega, by omega⟩, need_intro o2 (h.st hi cy' fun st2 hb2 e2 => ⟨⟨by omega, by omega⟩, need_intro o1 ?_⟩)⟩)⟩)⟩
  obtain ⟨z, hz⟩ : ∃ z, (cks.set i [.str ky, .int .i64 m1, .bool c1, .bool c2, .str t2, .int .i64 m2, .int .i64 m3, .int .i64 m4, .int .i64 m5, .int .i64 m6, .str t3, v1, v2, v3])[j]? = some z := ⟨_, List.getElem?_eq_getElem (by rw [List.length_set]; exact lj)⟩
  exact hb2.st hz cx' fun st3 hb3 e3 => hk st3 hb3 (e2.trans e3)
theorem cmp_vc {cmp : TV} (hc : CmpOk cmp) {I J : Int} {i j : Nat} {x y : List TV} {K : Int → St → Prop} (h : BxF st b n cap cks) (hI : I = (i : Int)) (hJ : J = (j : Int)) (hi : cks[i]? = some x) (hj : cks[j]? = some y) (hk : ∀ (r : Int) st', StExt st st' → (r < 0 ↔ Op.bytesLess (keyOf x) (keyOf y) = true) → K r st') :
    ((0 ≤ I ∧ I < (lenZ 14 (.ms 14 b 0 n cap) : Int)) ∧ optK ((ldCells st [] (.t (ixT 14 (.ms 14 b 0 n cap) (Int.toNat I))) 0 14).map TV.agg) (fun (x1 : TV) => decA [.str, .int .i64, .bool, .bool, .str, .int .i64, .int .i64, .int .i64, .int .i64, .int .i64, .str, .tv, .tv, .tv] x1 (fun (a0 : List UInt8) (a1 : Int) (a2 : Bool) (a3 : Bool) (a4 : List UInt8) (a5 : Int) (a6 : Int) (a7 : Int) (a8 : Int) (a9 : Int) (a10 : List UInt8) (a11 : TV) (a12 : TV) (a13 : TV) => ((0 ≤ J ∧ J < (lenZ 14 (.ms 14 b 0 n cap) : Int)) ∧ optK ((ldCells st [] (.t (ixT 14 (.ms 14 b 0 n cap) (Int.toNat J))) 0 14).map TV.agg) (fun (x2 : TV) => decA [.str, .int .i64, .bool, .bool, .str, .int .i64, .int .i64, .int .i64, .int .i64, .int .i64, .str, .tv, .tv, .tv] x2 (fun (c0 : List UInt8) (c1 : Int) (c2 : Bool) (c3 : Bool) (c4 : List UInt8) (c5 : Int) (c6 : Int) (c7 : Int) (c8 : Int) (c9 : Int) (c10 : List UInt8) (c11 : TV) (c12 : TV) (c13 : TV) => callK PR cmp [(.agg [(.str a0), (.int .i64 a1), (.bool a2), (.bool a3), (.str a4), (.int .i64 a5), (.int .i64 a6), (.int .i64 a7), (.int .i64 a8), (.int .i64 a9), (.str a10), a11, a12, a13]), (.agg [(.str c0), (.int .i64 c1), (.bool c2), (.bool c3), (.str c4), (.int .i64 c5), (.int .i64 c6), (.int .i64 c7), (.int .i64 c8), (.int .i64 c9), (.str c10), c11, c12, c13])] [.one (.int .i64)] st K)))))) := by
  subst hI hJ
  have li := (List.getElem?_eq_some_iff.1 hi).1
  have lj := (List.getElem?_eq_some_iff.1 hj).1
  have cx := h.ck _ (List.mem_of_getElem? hi)
  have cy := h.ck _ (List.mem_of_getElem? hj)
  have l1 := h.ld hi
  have l2 := h.ld hj
  have cx' := cx
  have cy' := cy
  simp only [Int.toNat_natCast]
  rw [h.lenZ]
  obtain ⟨kx, n1, b1, b2, s2, n2, n3, n4, n5, n6, s3, u1, u2, u3, rfl, _⟩ := cx
  obtain ⟨ky, m1, c1, c2, t2, m2, m3, m4, m5, m6, t3, v1, v2, v3, rfl, _⟩ := cy
  exact ⟨⟨by omega, by omega⟩, optK_intro l1 (decA14 ⟨⟨by omega, by omega⟩, optK_intro l2 (decA14 (hc _ _ _ _ cx' cy' hk))⟩)⟩
theorem BxF.ext {st' : St} (h : BxF st b n cap cks) (e : StExt st st') : BxF st' b n cap cks := ⟨Nat.lt_of_lt_of_le h.lt e.nb, h.len, h.le, h.ck, by
  obtain ⟨t, h1, h2⟩ := h.box
  exact ⟨t, (e.box b h.lt).trans h1, h2⟩⟩
end
end Go.TVF
end

section
namespace Go.TVF
open Go Go.Proofs
set_option linter.unusedVariables false
set_option linter.unusedSimpArgs false
theorem less_irrefl : ∀ x : List UInt8, Op.bytesLess x x = false
  | [] => rfl
  | a :: x => by
    have := less_irrefl x
    simp [Op.bytesLess, this]
theorem less_asymm : ∀ x y : List UInt8, Op.bytesLess x y = true → Op.bytesLess y x = false
  | [], [], h => by cases h
  | [], b :: y, h => rfl
  | a :: x, [], h => by cases h
  | a :: x, b :: y, h => by
    simp only [Op.bytesLess, Bool.or_eq_true, Bool.and_eq_true, decide_eq_true_eq, beq_iff_eq] at h
    simp only [Op.bytesLess, Bool.or_eq_false_iff, Bool.and_eq_false_iff, decide_eq_false_iff_not, beq_eq_false_iff_ne]
    rcases h with h | ⟨rfl, h⟩
    · exact ⟨fun g => absurd (UInt8.lt_trans h g) (UInt8.lt_irrefl _), .inl (fun e => by subst e; exact UInt8.lt_irrefl _ h)⟩
    · exact ⟨UInt8.lt_irrefl _, .inr (less_asymm x y h)⟩
theorem less_trans_neg : ∀ x y z : List UInt8, Op.bytesLess y x = false → Op.bytesLess z y = false → Op.bytesLess z x = false
  | [], _, [], _, _ => rfl
  | a :: x, _, [], h1, h2 => by
    rename_i y
    cases y with
    | nil => cases h1
    | cons b y => cases h2
  | [], y, c :: z, _, _ => rfl
  | a :: x, [], c :: z, h1, h2 => by cases h1
  | a :: x, b :: y, c :: z, h1, h2 => by
    simp only [Op.bytesLess, Bool.or_eq_false_iff, Bool.and_eq_false_iff, decide_eq_false_iff_not, beq_eq_false_iff_ne, UInt8.not_lt] at h1 h2 ⊢
    obtain ⟨h1, h3⟩ := h1
    obtain ⟨h2, h4⟩ := h2
    refine ⟨UInt8.le_trans h1 h2, ?_⟩
    by_cases hca : c = a
    · right
      subst hca
      have hbc : b = c := UInt8.le_antisymm h2 h1
      subst hbc
      exact less_trans_neg x y z (h3.resolve_left (fun h => h rfl)) (h4.resolve_left (fun h => h rfl))
    · exact .inl hca
def lek (c d : List TV) : Prop := Op.bytesLess (keyOf d) (keyOf c) = false
theorem lek_trans (x y z : List TV) (h1 : lek x y) (h2 : lek y z) : lek x z := less_trans_neg _ _ _ h1 h2
theorem lek_refl (x : List TV) : lek x x := less_irrefl _
theorem lek_of_less {x y : List TV} (h : Op.bytesLess (keyOf x) (keyOf y) = true) : lek x y := less_asymm _ _ h
section
variable {st : St} {b n cap : Nat}
theorem insertion_ok {P L Q : List (List TV)} {cmp : TV} (hc : CmpOk cmp) (h : BxF st b n cap (P ++ L ++ Q)) (hn : n ≤ 100000000) {A B : Int} (hA : A = (P.length : Int)) (hB : B = ((P.length + L.length : Nat) : Int)) {K : St → Prop}
    (hk : ∀ st' M, M.Perm L → Srt lek M → BxF st' b n cap (P ++ M ++ Q) → StX (· = b) st st' → K st') :
    CallT PR fn_slices_insertionSortCmpFunc_api_Field_ [.ms 14 b 0 n cap, .int .i64 A, .int .i64 B, cmp] [] st K := by
  have hlen := h.len
  simp only [List.length_append] at hlen
  refine vc_slices_insertionSortCmpFunc_api_Field_ _ A B cmp st K ⟨fun i d a b' c' st' => d = .ms 14 b 0 n cap ∧ a = A ∧ b' = B ∧ cmp = c' ∧ ∃ (k : Nat) (M R : List (List TV)), i = ((P.length + k : Nat) : Int) ∧ 1 ≤ k ∧ k ≤ L.length + 1 ∧ M.length = min k L.length ∧ (M ++ R).Perm L ∧ Srt lek M ∧ BxF st' b n cap (P ++ M ++ R ++ Q) ∧ StX (· = b) st st',
    fun i _ _ _ _ _ => (P.length + L.length + 1 - i).toNat, ⟨rfl, rfl, rfl, rfl, 1, L.take 1, L.drop 1, ?_, Nat.le_refl _, by omega, by simp, (by rw [List.take_append_drop]), ?_, (by rw [List.append_assoc P, List.take_append_drop]; exact h), StX.refl _ _⟩, ?_⟩
  · rw [wrap64 _ (by omega) (by omega)]; omega
  · cases L with
    | nil => exact List.Pairwise.nil
    | cons x L => exact List.pairwise_singleton _ _
  rintro _ _ _ _ _ st1 ⟨rfl, rfl, rfl, rfl, k, M, R, rfl, hk1, hkl, hM, hp, hs, hb, e⟩
  subst hA hB
  refine BIf_intro (fun g => ?_) fun g => ?_
  · have hml : M.length = k := by omega
    have hpl := hp.length_eq
    simp only [List.length_append] at hpl
    obtain ⟨x, R', rfl⟩ : ∃ x R', R = x :: R' := by cases R with | nil => simp at hpl; omega | cons x R => exact ⟨x, R, rfl⟩
    simp only [List.length_cons] at hpl
    refine ⟨fun j d a b' c' i' st' => d = .ms 14 b 0 n cap ∧ a = (P.length : Int) ∧ b' = ((P.length + L.length : Nat) : Int) ∧ cmp = c' ∧ i' = ((P.length + k : Nat) : Int) ∧ ∃ A' B' : List (List TV), j = ((P.length + A'.length : Nat) : Int) ∧ A'.length + B'.length = k ∧ (A' ++ x :: B' ++ R').Perm L ∧ Srt lek (A' ++ B') ∧ (∀ y, B'.head? = some y → lek x y) ∧ BxF st' b n cap (P ++ (A' ++ x :: B') ++ R' ++ Q) ∧ StX (· = b) st st',
      fun j _ _ _ _ _ _ => j.toNat, ⟨rfl, rfl, rfl, rfl, rfl, M, [], by omega, by simpa using hml, by simpa using hp, by simpa using hs, fun y hy => by simp at hy, by simpa using hb, e⟩, ?_⟩
    rintro _ _ _ _ _ _ st2 ⟨rfl, rfl, rfl, rfl, rfl, A', B', rfl, hab, hp2, hs2, hx, hb2, e2⟩
    have hp2l := hp2.length_eq
    simp only [List.length_append, List.length_cons] at hp2l
    have next : ∀ st', StX (· = b) st st' → BxF st' b n cap (P ++ (A' ++ x :: B') ++ R' ++ Q) → (∀ y, A'.getLast? = some y → lek y x) →
        ∃ (k' : Nat) (M R : List (List TV)), IntKind.i64.wrap (((P.length + k : Nat) : Int) + 1) = ((P.length + k' : Nat) : Int) ∧ 1 ≤ k' ∧ k' ≤ L.length + 1 ∧ M.length = min k' L.length ∧ (M ++ R).Perm L ∧ Srt lek M ∧ BxF st' b n cap (P ++ M ++ R ++ Q) ∧ StX (· = b) st st' := fun st' e' hb' hy =>
      ⟨k + 1, A' ++ x :: B', R', by rw [wrap64 _ (by omega) (by omega)]; omega, by omega, by omega, by simp only [List.length_append, List.length_cons]; omega, hp2, srt_put lek_trans lek_refl hs2 hy hx, hb', e'⟩
    have ms : (P.length + L.length + 1 - IntKind.i64.wrap (((P.length + k : Nat) : Int) + 1)).toNat < (P.length + L.length + 1 - ((P.length + k : Nat) : Int)).toNat := by
      rw [wrap64 _ (by omega) (by omega)]; omega
    refine BIf_intro (fun g2 => ?_) fun g2 => ?_
    · have hA0 : A' ≠ [] := by intro h0; subst h0; simp at g2
      obtain ⟨A'', y, hA'⟩ : ∃ A'' y, A' = A'' ++ [y] := ⟨_, _, (List.dropLast_concat_getLast hA0).symm⟩
      subst hA'
      simp only [List.length_append, List.length_cons, List.length_nil] at hab g2 hp2l
      have wj : IntKind.i64.wrap (((P.length + (A'' ++ [y]).length : Nat) : Int) - 1) = ((P.length + A''.length : Nat) : Int) := by
        rw [wrap64 _ (by simp; omega) (by simp; omega)]; simp; omega
      have ec : P ++ (A'' ++ [y] ++ x :: B') ++ R' ++ Q = (P ++ A'') ++ y :: x :: (B' ++ R' ++ Q) := by simp
      have gi : (P ++ (A'' ++ [y] ++ x :: B') ++ R' ++ Q)[P.length + (A'' ++ [y]).length]? = some x := by
        rw [ec, List.getElem?_append_right (by simp)]
        simp [show P.length + (A''.length + 1) - (P.length + A''.length) = 1 by omega]
      have gj : (P ++ (A'' ++ [y] ++ x :: B') ++ R' ++ Q)[P.length + A''.length]? = some y := by
        rw [ec, List.getElem?_append_right (by simp)]
        simp
      rw [wj]
      refine cmp_vc hc hb2 rfl rfl gi gj fun r st3 e3 hr => ?_
      have hb3 := hb2.ext e3
      have e23 := e2.trans (StX.of e3)
      refine BIf_intro (fun g3 => ?_) fun g3 => ?_
      · refine swap_vc hb3 rfl rfl gi gj fun st4 hb4 e4 => ?_
        have hset : ((P ++ (A'' ++ [y] ++ x :: B') ++ R' ++ Q).set (P.length + (A'' ++ [y]).length) y).set (P.length + A''.length) x = P ++ (A'' ++ x :: y :: B') ++ R' ++ Q := by
          rw [ec, List.set_append_right _ _ (by simp)]
          rw [show P.length + (A'' ++ [y]).length - (P ++ A'').length = 1 by simp only [List.length_append, List.length_cons, List.length_nil]; omega, List.set_cons_succ, List.set_cons_zero, List.set_append_right _ _ (by simp)]
          rw [show P.length + A''.length - (P ++ A'').length = 0 by simp, List.set_cons_zero]
          simp
        rw [hset] at hb4
        refine ⟨⟨rfl, rfl, rfl, rfl, rfl, A'', y :: B', rfl, by simp only [List.length_cons]; omega, ?_, by simpa using hs2, fun z hz => ?_, hb4, e23.trans e4⟩, by simp; omega⟩
        · refine List.Perm.trans ?_ hp2
          simp only [List.append_assoc, List.cons_append, List.nil_append]
          exact List.Perm.append_left _ (List.Perm.swap _ _ _)
        · simp at hz; subst hz
          exact lek_of_less (hr.1 g3)
      · refine ⟨⟨rfl, rfl, rfl, rfl, next st3 e23 hb3 fun z hz => ?_⟩, ms⟩
        simp at hz; subst hz
        cases hq : Op.bytesLess (keyOf x) (keyOf y) with
        | true => exact absurd (hr.2 hq) g3
        | false => exact hq
    · have hA0 : A' = [] := by
        cases A' with
        | nil => rfl
        | cons z A' => simp at g2; omega
      exact ⟨⟨rfl, rfl, rfl, rfl, next st2 e2 hb2 fun z hz => by subst hA0; simp at hz⟩, ms⟩
  · have hp' := hp.length_eq
    simp only [List.length_append] at hp'
    have hR : R = [] := List.eq_nil_of_length_eq_zero (by omega)
    subst hR
    exact hk st1 M (by simpa using hp) hs (by simpa using hb) e
end
end Go.TVF
end

section
namespace Go.TVF
open Go Go.Proofs
set_option linter.unusedVariables false
set_option linter.unusedSimpArgs false
theorem half_nat (i j : Nat) (h : i + j ≤ 1000000000) : IntKind.i64.wrap (Int.fdiv (IntKind.u64.wrap (IntKind.i64.wrap ((i : Int) + (j : Int)))) (2 ^ (min (Int.toNat (1 : Int)) (IntKind.bits .u64)))) = (((i + j) / 2 : Nat) : Int) := by
  rw [wrap64 ((i : Int) + (j : Int)) (by omega) (by omega)]
  have hu : IntKind.u64.wrap ((i : Int) + (j : Int)) = ((i + j : Nat) : Int) := by
    unfold IntKind.wrap
    simp only [IntKind.signed, IntKind.bits]
    simp
    omega
  rw [hu]
  have h2 : ((2 : Int) ^ (min (Int.toNat (1 : Int)) (IntKind.bits .u64))) = 2 := by decide
  rw [h2]
  have h3 : Int.fdiv ((i + j : Nat) : Int) 2 = (((i + j) / 2 : Nat) : Int) := by
    rw [Int.fdiv_eq_ediv_of_nonneg _ (by omega)]; omega
  rw [h3, wrap64 _ (by omega) (by omega)]
theorem getLast_take {α : Type} {l : List α} {k : Nat} {x : α} (h : l[k]? = some x) : (l.take (k + 1)).getLast? = some x := by
  obtain ⟨hk, rfl⟩ := List.getElem?_eq_some_iff.1 h
  rw [List.take_succ_eq_append_getElem hk, List.getLast?_concat]
theorem head_drop {α : Type} {l : List α} {k : Nat} {x : α} (h : l[k]? = some x) : (l.drop k).head? = some x := by
  rw [List.head?_drop, h]
section
variable {st : St} {b n cap : Nat}
/-- One element put into the run behind it. -/
theorem sm_one {P R Q : List (List TV)} {x : List TV} {cmp : TV} (hc : CmpOk cmp) (h : BxF st b n cap (P ++ [x] ++ R ++ Q)) (hn : n ≤ 100000000) (hs : Srt lek R) (hR : 0 < R.length) {A M B : Int} (hA : A = (P.length : Int)) (hM : M = ((P.length + 1 : Nat) : Int)) (hB : B = ((P.length + 1 + R.length : Nat) : Int)) {K : St → Prop}
    (hk : ∀ st' W, W.Perm ([x] ++ R) → Srt lek W → BxF st' b n cap (P ++ W ++ Q) → StX (· = b) st st' → K st') :
    CallT PR fn_slices_symMergeCmpFunc_api_Field_ [.ms 14 b 0 n cap, .int .i64 A, .int .i64 M, .int .i64 B, cmp] [] st K := by
  have hlen := h.len
  simp only [List.length_append, List.length_cons, List.length_nil] at hlen
  refine vc_slices_symMergeCmpFunc_api_Field_ _ A M B cmp st K (BIf_intro (fun _ => ?_) fun g => absurd (by subst hA hM; rw [wrap64 _ (by omega) (by omega)]; omega) g)
  refine ⟨fun i j d a c' st' => d = .ms 14 b 0 n cap ∧ a = A ∧ cmp = c' ∧ ∃ u v : Nat, i = ((P.length + 1 + u : Nat) : Int) ∧ j = ((P.length + 1 + v : Nat) : Int) ∧ u ≤ v ∧ v ≤ R.length ∧ (∀ y, (R.take u).getLast? = some y → lek y x) ∧ (∀ y, (R.drop v).head? = some y → lek x y) ∧ BxF st' b n cap (P ++ [x] ++ R ++ Q) ∧ StX (· = b) st st',
    fun i j _ _ _ _ => (j - i).toNat, ⟨rfl, rfl, rfl, 0, R.length, by omega, by omega, Nat.zero_le _, Nat.le_refl _, fun y hy => by simp at hy, fun y hy => by simp at hy, h, StX.refl _ _⟩, ?_⟩
  rintro _ _ _ _ _ st1 ⟨rfl, rfl, rfl, u, v, rfl, rfl, huv, hv, h1, h2, hb, e⟩
  subst hA hM hB
  have gx : (P ++ [x] ++ R ++ Q)[P.length]? = some x := by simp
  refine BIf_intro (fun g => ?_) fun g => ?_
  · rw [half_nat _ _ (by omega)]
    obtain ⟨w, hw⟩ : ∃ w, (P.length + 1 + u + (P.length + 1 + v)) / 2 = P.length + 1 + w := ⟨(u + v) / 2, by omega⟩
    have hwu : u ≤ w := by omega
    have hwv : w < v := by omega
    have hwr : w < R.length := by omega
    rw [hw]
    have gy : (P ++ [x] ++ R ++ Q)[P.length + 1 + w]? = some R[w] := by
      rw [List.append_assoc (P ++ [x]), List.getElem?_append_right (by simp only [List.length_append, List.length_cons, List.length_nil]; omega), List.getElem?_append_left (by simp only [List.length_append, List.length_cons, List.length_nil]; omega)]
      simp [show P.length + 1 + w - (P.length + 1) = w by omega, hwr]
    have gw : R[w]? = some R[w] := List.getElem?_eq_getElem hwr
    refine cmp_vc hc hb rfl rfl gy gx fun r st2 e2 hr => ?_
    have hb2 := hb.ext e2
    have e12 := e.trans (StX.of e2)
    refine BIf_intro (fun g3 => ?_) fun g3 => ?_
    · exact ⟨⟨rfl, rfl, rfl, w + 1, v, by rw [wrap64 _ (by omega) (by omega)]; omega, rfl, by omega, hv, fun y hy => by rw [getLast_take gw] at hy; cases hy; exact lek_of_less (hr.1 g3), h2, hb2, e12⟩, by dsimp only; rw [wrap64 _ (by omega) (by omega)]; omega⟩
    · refine ⟨⟨rfl, rfl, rfl, u, w, rfl, rfl, hwu, by omega, h1, fun y hy => ?_, hb2, e12⟩, by dsimp only; omega⟩
      rw [head_drop gw] at hy; cases hy
      cases hq : Op.bytesLess (keyOf R[w]) (keyOf x) with
      | true => exact absurd (hr.2 hq) g3
      | false => exact hq
  · obtain rfl : u = v := by omega
    refine ⟨fun k d i st' => d = .ms 14 b 0 n cap ∧ i = ((P.length + 1 + u : Nat) : Int) ∧ ∃ w : Nat, k = ((P.length + w : Nat) : Int) ∧ w ≤ u ∧ BxF st' b n cap (P ++ R.take w ++ [x] ++ R.drop w ++ Q) ∧ StX (· = b) st st',
      fun k _ _ _ => (P.length + u - k).toNat, ⟨rfl, rfl, 0, by omega, Nat.zero_le _, by simpa using hb, e⟩, ?_⟩
    rintro _ _ _ st3 ⟨rfl, rfl, w, rfl, hwu, hb3, e3⟩
    have wi : IntKind.i64.wrap (((P.length + 1 + u : Nat) : Int) - 1) = ((P.length + u : Nat) : Int) := by rw [wrap64 _ (by omega) (by omega)]; omega
    rw [wi]
    refine BIf_intro (fun g4 => ?_) fun g4 => ?_
    · have hwr : w < R.length := by omega
      have wk : IntKind.i64.wrap (((P.length + w : Nat) : Int) + 1) = ((P.length + w + 1 : Nat) : Int) := by rw [wrap64 _ (by omega) (by omega)]; omega
      have hd : R.drop w = R[w] :: R.drop (w + 1) := List.drop_eq_getElem_cons hwr
      have ec : P ++ R.take w ++ [x] ++ R.drop w ++ Q = (P ++ R.take w) ++ x :: R[w] :: (R.drop (w + 1) ++ Q) := by rw [hd]; simp only [List.append_assoc, List.cons_append, List.nil_append]
      have lc : (P ++ R.take w).length = P.length + w := by simp; omega
      rw [ec] at hb3
      have gi : ((P ++ R.take w) ++ x :: R[w] :: (R.drop (w + 1) ++ Q))[P.length + w]? = some x := by
        rw [List.getElem?_append_right (by omega), lc, Nat.sub_self]; rfl
      have gj : ((P ++ R.take w) ++ x :: R[w] :: (R.drop (w + 1) ++ Q))[P.length + w + 1]? = some R[w] := by
        rw [List.getElem?_append_right (by omega), lc, show P.length + w + 1 - (P.length + w) = 1 by omega]; rfl
      rw [wk]
      refine swap_vc hb3 rfl rfl gi gj fun st4 hb4 e4 => ⟨⟨rfl, rfl, w + 1, rfl, by omega, ?_, e3.trans e4⟩, by dsimp only; omega⟩
      have hset : ((((P ++ R.take w) ++ x :: R[w] :: (R.drop (w + 1) ++ Q)).set (P.length + w) R[w]).set (P.length + w + 1) x) = P ++ R.take (w + 1) ++ [x] ++ R.drop (w + 1) ++ Q := by
        rw [List.set_append_right _ _ (by omega), lc, Nat.sub_self, List.set_cons_zero, List.set_append_right _ _ (by omega), lc, show P.length + w + 1 - (P.length + w) = 1 by omega, List.set_cons_succ, List.set_cons_zero]
        have t1 : R.take (w + 1) = R.take w ++ [R[w]] := by rw [List.take_succ_eq_append_getElem hwr]
        rw [t1]; simp only [List.append_assoc, List.cons_append, List.nil_append]
      rw [hset] at hb4
      exact hb4
    · obtain rfl : w = u := by omega
      refine hk st3 (R.take w ++ x :: R.drop w) ?_ (srt_put lek_trans lek_refl (by rw [List.take_append_drop]; exact hs) h1 h2) (by simpa using hb3) e3
      refine List.perm_middle.trans ?_
      rw [List.take_append_drop]; exact List.Perm.refl _
/-- One element put into the run before it. -/
theorem sm_two {P L Q : List (List TV)} {x : List TV} {cmp : TV} (hc : CmpOk cmp) (h : BxF st b n cap (P ++ L ++ [x] ++ Q)) (hn : n ≤ 100000000) (hs : Srt lek L) (hL : 1 < L.length) {A M B : Int} (hA : A = (P.length : Int)) (hM : M = ((P.length + L.length : Nat) : Int)) (hB : B = ((P.length + L.length + 1 : Nat) : Int)) {K : St → Prop}
    (hk : ∀ st' W, W.Perm (L ++ [x]) → Srt lek W → BxF st' b n cap (P ++ W ++ Q) → StX (· = b) st st' → K st') :
    CallT PR fn_slices_symMergeCmpFunc_api_Field_ [.ms 14 b 0 n cap, .int .i64 A, .int .i64 M, .int .i64 B, cmp] [] st K := by
  have hlen := h.len
  simp only [List.length_append, List.length_cons, List.length_nil] at hlen
  refine vc_slices_symMergeCmpFunc_api_Field_ _ A M B cmp st K (BIf_intro (fun g => absurd g (by subst hA hM; rw [wrap64 _ (by omega) (by omega)]; omega)) fun _ => BIf_intro (fun _ => ?_) fun g => absurd (by subst hB hM; rw [wrap64 _ (by omega) (by omega)]; omega) g)
  refine ⟨fun i j d m c' st' => d = .ms 14 b 0 n cap ∧ m = M ∧ cmp = c' ∧ ∃ u v : Nat, i = ((P.length + u : Nat) : Int) ∧ j = ((P.length + v : Nat) : Int) ∧ u ≤ v ∧ v ≤ L.length ∧ (∀ y, (L.take u).getLast? = some y → lek y x) ∧ (∀ y, (L.drop v).head? = some y → lek x y) ∧ BxF st' b n cap (P ++ L ++ [x] ++ Q) ∧ StX (· = b) st st',
    fun i j _ _ _ _ => (j - i).toNat, ⟨rfl, rfl, rfl, 0, L.length, by omega, by omega, Nat.zero_le _, Nat.le_refl _, fun y hy => by simp at hy, fun y hy => by simp at hy, h, StX.refl _ _⟩, ?_⟩
  rintro _ _ _ _ _ st1 ⟨rfl, rfl, rfl, u, v, rfl, rfl, huv, hv, h1, h2, hb, e⟩
  subst hA hM hB
  have gx : (P ++ L ++ [x] ++ Q)[P.length + L.length]? = some x := by
    rw [List.append_assoc (P ++ L), List.getElem?_append_right (by simp), List.length_append, Nat.sub_self]; rfl
  refine BIf_intro (fun g => ?_) fun g => ?_
  · rw [half_nat _ _ (by omega)]
    obtain ⟨w, hw⟩ : ∃ w, (P.length + u + (P.length + v)) / 2 = P.length + w := ⟨(u + v) / 2, by omega⟩
    have hwu : u ≤ w := by omega
    have hwv : w < v := by omega
    have hwr : w < L.length := by omega
    rw [hw]
    have gy : (P ++ L ++ [x] ++ Q)[P.length + w]? = some L[w] := by
      rw [List.append_assoc, List.append_assoc, List.getElem?_append_right (by omega), List.getElem?_append_left (by omega), Nat.add_sub_cancel_left]
      exact List.getElem?_eq_getElem hwr
    have gw : L[w]? = some L[w] := List.getElem?_eq_getElem hwr
    refine cmp_vc hc hb rfl rfl gx gy fun r st2 e2 hr => ?_
    have hb2 := hb.ext e2
    have e12 := e.trans (StX.of e2)
    refine BIf_bool (fun g3 => ?_) fun g3 => ?_
    · refine ⟨⟨rfl, rfl, rfl, w + 1, v, by rw [wrap64 _ (by omega) (by omega)]; omega, rfl, by omega, hv, fun y hy => ?_, h2, hb2, e12⟩, by dsimp only; rw [wrap64 _ (by omega) (by omega)]; omega⟩
      rw [getLast_take gw] at hy; cases hy
      cases hq : Op.bytesLess (keyOf x) (keyOf L[w]) with
      | true => have := hr.2 hq; simp at g3; omega
      | false => exact hq
    · exact ⟨⟨rfl, rfl, rfl, u, w, rfl, rfl, hwu, by omega, h1, fun y hy => by rw [head_drop gw] at hy; cases hy; exact lek_of_less (hr.1 (by simpa using g3)), hb2, e12⟩, by dsimp only; omega⟩
  · obtain rfl : u = v := by omega
    refine ⟨fun k d i st' => d = .ms 14 b 0 n cap ∧ i = ((P.length + u : Nat) : Int) ∧ ∃ w : Nat, k = ((P.length + w : Nat) : Int) ∧ u ≤ w ∧ w ≤ L.length ∧ BxF st' b n cap (P ++ L.take w ++ [x] ++ L.drop w ++ Q) ∧ StX (· = b) st st',
      fun k _ _ _ => k.toNat, ⟨rfl, rfl, L.length, by omega, hv, Nat.le_refl _, by simpa using hb, e⟩, ?_⟩
    rintro _ _ _ st3 ⟨rfl, rfl, w, rfl, hwu, hwl, hb3, e3⟩
    refine BIf_intro (fun g4 => ?_) fun g4 => ?_
    · obtain ⟨w, rfl⟩ : ∃ w', w = w' + 1 := ⟨w - 1, by omega⟩
      have hwr : w < L.length := by omega
      have wk : IntKind.i64.wrap (((P.length + (w + 1) : Nat) : Int) - 1) = ((P.length + w : Nat) : Int) := by rw [wrap64 _ (by omega) (by omega)]; omega
      have t1 : L.take (w + 1) = L.take w ++ [L[w]] := by rw [List.take_succ_eq_append_getElem hwr]
      have ec : P ++ L.take (w + 1) ++ [x] ++ L.drop (w + 1) ++ Q = (P ++ L.take w) ++ L[w] :: x :: (L.drop (w + 1) ++ Q) := by rw [t1]; simp only [List.append_assoc, List.cons_append, List.nil_append]
      have lc : (P ++ L.take w).length = P.length + w := by simp; omega
      rw [ec] at hb3
      have gi : ((P ++ L.take w) ++ L[w] :: x :: (L.drop (w + 1) ++ Q))[P.length + (w + 1)]? = some x := by
        rw [List.getElem?_append_right (by omega), lc, show P.length + (w + 1) - (P.length + w) = 1 by omega]; rfl
      have gj : ((P ++ L.take w) ++ L[w] :: x :: (L.drop (w + 1) ++ Q))[P.length + w]? = some L[w] := by
        rw [List.getElem?_append_right (by omega), lc, Nat.sub_self]; rfl
      rw [wk]
      refine swap_vc hb3 rfl rfl gi gj fun st4 hb4 e4 => ⟨⟨rfl, rfl, w, rfl, by omega, by omega, ?_, e3.trans e4⟩, by dsimp only; omega⟩
      have hset : ((((P ++ L.take w) ++ L[w] :: x :: (L.drop (w + 1) ++ Q)).set (P.length + (w + 1)) L[w]).set (P.length + w) x) = P ++ L.take w ++ [x] ++ L.drop w ++ Q := by
        rw [List.set_append_right _ _ (by omega), lc, show P.length + (w + 1) - (P.length + w) = 1 by omega, List.set_cons_succ, List.set_cons_zero, List.set_append_right _ _ (by omega), lc, Nat.sub_self, List.set_cons_zero]
        have hd : L.drop w = L[w] :: L.drop (w + 1) := List.drop_eq_getElem_cons hwr
        rw [hd]; simp only [List.append_assoc, List.cons_append, List.nil_append]
      rw [hset] at hb4
      exact hb4
    · obtain rfl : w = u := by omega
      refine hk st3 (L.take w ++ x :: L.drop w) ?_ (srt_put lek_trans lek_refl (by rw [List.take_append_drop]; exact hs) h1 h2) (by simpa using hb3) e3
      refine List.perm_middle.trans ?_
      rw [List.take_append_drop]
      exact List.perm_append_comm (l₁ := [x])
end
end Go.TVF
end

section
namespace Go.TVF
open Go Go.Proofs
set_option linter.unusedVariables false
set_option linter.unusedSimpArgs false
section
variable {b n cap : Nat}
theorem symMerge_ok {cmp : TV} (hc : CmpOk cmp) (hn : n ≤ 100000000) : ∀ (N : Nat) {st : St} {P L R Q : List (List TV)} {A M B : Int} {K : St → Prop}, L.length + R.length ≤ N → 0 < L.length → 0 < R.length → BxF st b n cap (P ++ L ++ R ++ Q) → Srt lek L → Srt lek R →
    A = (P.length : Int) → M = ((P.length + L.length : Nat) : Int) → B = ((P.length + L.length + R.length : Nat) : Int) →
    (∀ st' W, W.Perm (L ++ R) → Srt lek W → BxF st' b n cap (P ++ W ++ Q) → StX (· = b) st st' → K st') →
    CallT PR fn_slices_symMergeCmpFunc_api_Field_ [.ms 14 b 0 n cap, .int .i64 A, .int .i64 M, .int .i64 B, cmp] [] st K := by
  intro N
  induction N with
  | zero => intro st P L R Q A M B K h0 h1; omega
  | succ N ih =>
  intro st P L R Q A M B K hN hL hR h sL sR hA hM hB hk
  have hlen := h.len
  simp only [List.length_append] at hlen
  by_cases hL1 : L.length = 1
  · obtain ⟨x, rfl⟩ := List.length_eq_one_iff.1 hL1
    exact sm_one hc h hn sR hR hA (by simpa using hM) (by simpa using hB) hk
  by_cases hR1 : R.length = 1
  · obtain ⟨x, rfl⟩ := List.length_eq_one_iff.1 hR1
    exact sm_two hc h hn sL (by omega) hA hM (by simpa using hB) hk
  subst hA hM hB
  refine vc_slices_symMergeCmpFunc_api_Field_ _ _ _ _ cmp st K (BIf_intro (fun g => absurd g (by rw [wrap64 _ (by omega) (by omega)]; omega)) fun _ => BIf_intro (fun g => absurd g (by rw [wrap64 _ (by omega) (by omega)]; omega)) fun _ => ?_)
  obtain ⟨H, hH⟩ : ∃ H, H = (L.length + R.length) / 2 := ⟨_, rfl⟩
  have hmid := half_nat P.length (P.length + L.length + R.length) (by omega)
  have hmid2 : (P.length + (P.length + L.length + R.length)) / 2 = P.length + H := by omega
  rw [hmid2] at hmid
  rw [hmid]
  -- the bounds of the search
  obtain ⟨u0, v0, hb0⟩ : ∃ u0 v0 : Nat, (P.length + H < P.length + L.length → u0 = H - R.length ∧ v0 = H) ∧ (¬ P.length + H < P.length + L.length → u0 = 0 ∧ v0 = L.length) := by
    by_cases g : P.length + H < P.length + L.length
    · exact ⟨H - R.length, H, fun _ => ⟨rfl, rfl⟩, fun g' => absurd g g'⟩
    · exact ⟨0, L.length, fun g' => absurd g' g, fun _ => ⟨rfl, rfl⟩⟩
  have hnw : IntKind.i64.wrap (((P.length + H : Nat) : Int) + ((P.length + L.length : Nat) : Int)) = ((P.length + H + (P.length + L.length) : Nat) : Int) := by rw [wrap64 _ (by omega) (by omega)]; omega
  rw [hnw]
  refine ⟨fun s r d a m b' c mid n' st' => d = .ms 14 b 0 n cap ∧ a = (P.length : Int) ∧ m = ((P.length + L.length : Nat) : Int) ∧ b' = ((P.length + L.length + R.length : Nat) : Int) ∧ cmp = c ∧ mid = ((P.length + H : Nat) : Int) ∧ n' = ((P.length + H + (P.length + L.length) : Nat) : Int) ∧ st = st' ∧ s = ((P.length + u0 : Nat) : Int) ∧ r = ((P.length + v0 : Nat) : Int), ?_, ?_⟩
  · refine BIf_intro (fun g => ?_) fun g => ?_
    · obtain ⟨h1, h2⟩ := hb0.1 (by omega)
      exact ⟨rfl, rfl, rfl, rfl, rfl, rfl, rfl, rfl, by rw [wrap64 _ (by omega) (by omega)]; omega, by omega⟩
    · obtain ⟨h1, h2⟩ := hb0.2 (by omega)
      exact ⟨rfl, rfl, rfl, rfl, rfl, rfl, rfl, rfl, by omega, by omega⟩
  rintro _ _ _ _ _ _ _ _ _ _ ⟨rfl, rfl, rfl, rfl, rfl, rfl, rfl, rfl, rfl, rfl⟩
  have hu0 : u0 ≤ v0 ∧ v0 ≤ L.length ∧ v0 ≤ H ∧ H ≤ u0 + R.length := by
    by_cases g : P.length + H < P.length + L.length
    · obtain ⟨h1, h2⟩ := hb0.1 g; omega
    · obtain ⟨h1, h2⟩ := hb0.2 g; omega
  obtain ⟨q1, q2, q3, q4⟩ := hu0
  refine ⟨fun s r d a m b' c mid n' p st' => d = .ms 14 b 0 n cap ∧ a = (P.length : Int) ∧ m = ((P.length + L.length : Nat) : Int) ∧ b' = ((P.length + L.length + R.length : Nat) : Int) ∧ cmp = c ∧ mid = ((P.length + H : Nat) : Int) ∧ n' = ((P.length + H + (P.length + L.length) : Nat) : Int) ∧ p = ((P.length + H + (P.length + L.length) : Nat) : Int) - 1 ∧
      ∃ u v : Nat, s = ((P.length + u : Nat) : Int) ∧ r = ((P.length + v : Nat) : Int) ∧ u0 ≤ u ∧ u ≤ v ∧ v ≤ v0 ∧ (∀ x, (L.take u).getLast? = some x → ∀ y, (R.drop (H - u)).head? = some y → lek x y) ∧ (∀ x, (R.take (H - v)).getLast? = some x → ∀ y, (L.drop v).head? = some y → lek x y) ∧ BxF st' b n cap (P ++ L ++ R ++ Q) ∧ StX (· = b) st st',
    fun s r _ _ _ _ _ _ _ _ _ => (r - s).toNat, ⟨rfl, rfl, rfl, rfl, rfl, rfl, rfl, by rw [wrap64 _ (by omega) (by omega)], u0, v0, rfl, rfl, Nat.le_refl _, q1, Nat.le_refl _, ?_, ?_, h, StX.refl _ _⟩, ?_⟩
  · intro x hx y hy
    by_cases g : P.length + H < P.length + L.length
    · obtain ⟨h1, h2⟩ := hb0.1 g
      rw [List.drop_of_length_le (by omega)] at hy; simp at hy
    · obtain ⟨h1, h2⟩ := hb0.2 g
      rw [h1] at hx; simp at hx
  · intro x hx y hy
    by_cases g : P.length + H < P.length + L.length
    · obtain ⟨h1, h2⟩ := hb0.1 g
      rw [h2, Nat.sub_self] at hx; simp at hx
    · obtain ⟨h1, h2⟩ := hb0.2 g
      rw [h2, List.drop_length] at hy; simp at hy
  rintro _ _ _ _ _ _ _ _ _ _ st1 ⟨rfl, rfl, rfl, rfl, rfl, rfl, rfl, rfl, u, v, rfl, rfl, hu, huv, hv, j1, j2, hb, e⟩
  refine BIf_intro (fun g => ?_) fun g => ?_
  · -- one step of the search
    rw [half_nat _ _ (by omega)]
    obtain ⟨w, hw⟩ : ∃ w, (P.length + u + (P.length + v)) / 2 = P.length + w := ⟨(u + v) / 2, by omega⟩
    have hwu : u ≤ w := by omega
    have hwv : w < v := by omega
    have hwl : w < L.length := by omega
    have hwr : H - w - 1 < R.length := by omega
    rw [hw]
    have wp : IntKind.i64.wrap (((P.length + H + (P.length + L.length) : Nat) : Int) - 1 - ((P.length + w : Nat) : Int)) = ((P.length + L.length + (H - w - 1) : Nat) : Int) := by rw [wrap64 _ (by omega) (by omega)]; omega
    rw [wp]
    have gy : (P ++ L ++ R ++ Q)[P.length + w]? = some L[w] := by
      rw [List.append_assoc, List.append_assoc, List.getElem?_append_right (by omega), List.getElem?_append_left (by omega), Nat.add_sub_cancel_left]
      exact List.getElem?_eq_getElem hwl
    have gx : (P ++ L ++ R ++ Q)[P.length + L.length + (H - w - 1)]? = some R[H - w - 1] := by
      rw [List.append_assoc (P ++ L), List.getElem?_append_right (by rw [List.length_append]; omega), List.length_append, Nat.add_sub_cancel_left, List.getElem?_append_left hwr]
      exact List.getElem?_eq_getElem hwr
    have ly : L[w]? = some L[w] := List.getElem?_eq_getElem hwl
    have lx : R[H - w - 1]? = some R[H - w - 1] := List.getElem?_eq_getElem hwr
    refine cmp_vc hc hb rfl rfl gx gy fun r st2 e2 hr => ?_
    have hb2 := hb.ext e2
    have e12 := e.trans (StX.of e2)
    refine BIf_bool (fun g3 => ?_) fun g3 => ?_
    · refine ⟨⟨rfl, rfl, rfl, rfl, rfl, rfl, rfl, rfl, w + 1, v, by rw [wrap64 _ (by omega) (by omega)]; omega, rfl, by omega, by omega, hv, fun x hx y hy => ?_, j2, hb2, e12⟩, by dsimp only; rw [wrap64 _ (by omega) (by omega)]; omega⟩
      rw [getLast_take ly] at hx; cases hx
      rw [show H - (w + 1) = H - w - 1 by omega, head_drop lx] at hy; cases hy
      cases hq : Op.bytesLess (keyOf R[H - w - 1]) (keyOf L[w]) with
      | true => have := hr.2 hq; simp at g3; omega
      | false => exact hq
    · refine ⟨⟨rfl, rfl, rfl, rfl, rfl, rfl, rfl, rfl, u, w, rfl, rfl, hu, hwu, by omega, j1, fun x hx y hy => ?_, hb2, e12⟩, by dsimp only; omega⟩
      rw [show H - w = H - w - 1 + 1 by omega, getLast_take lx] at hx; cases hx
      rw [head_drop ly] at hy; cases hy
      exact lek_of_less (hr.1 (by simpa using g3))
  · obtain rfl : u = v := by omega
    obtain ⟨E, hE⟩ : ∃ E, E = H - u := ⟨_, rfl⟩
    rw [← hE] at j1 j2
    have wend : IntKind.i64.wrap (((P.length + H + (P.length + L.length) : Nat) : Int) - ((P.length + u : Nat) : Int)) = ((P.length + L.length + E : Nat) : Int) := by rw [wrap64 _ (by omega) (by omega)]; omega
    rw [wend]
    have hER : E ≤ R.length := by omega
    have huL : u ≤ L.length := by omega
    have dL : L = L.take u ++ L.drop u := (List.take_append_drop _ _).symm
    have dR : R = R.take E ++ R.drop E := (List.take_append_drop _ _).symm
    have a1 : (L.take u).length = u := by simp; omega
    have a2 : (L.drop u).length = L.length - u := by simp
    have a3 : (R.take E).length = E := by simp; omega
    have a4 : (R.drop E).length = R.length - E := by simp
    generalize hL1' : L.take u = L1 at *
    generalize hL2' : L.drop u = L2 at *
    generalize hR1' : R.take E = R1 at *
    generalize hR2' : R.drop E = R2 at *
    have sL' : Srt lek (L1 ++ L2) := dL ▸ sL
    have sR' : Srt lek (R1 ++ R2) := dR ▸ sR
    obtain ⟨z1, z2, _⟩ := List.pairwise_append.1 sL'
    obtain ⟨z3, z4, _⟩ := List.pairwise_append.1 sR'
    -- the second half
    have second : ∀ st2 W1, W1.Perm (L1 ++ R1) → Srt lek W1 → BxF st2 b n cap (P ++ W1 ++ L2 ++ R2 ++ Q) → StX (· = b) st st2 →
        BIf (decide (((P.length + H : Nat) : Int) < ((P.length + L.length + E : Nat) : Int))) (BIf (decide (((P.length + L.length + E : Nat) : Int) < ((P.length + L.length + R.length : Nat) : Int)))
          (CallT PR fn_slices_symMergeCmpFunc_api_Field_ [.ms 14 b 0 n cap, .int .i64 ((P.length + H : Nat) : Int), .int .i64 ((P.length + L.length + E : Nat) : Int), .int .i64 ((P.length + L.length + R.length : Nat) : Int), cmp] [] st2 (fun s => K s)) (K st2)) (K st2) := by
      intro st2 W1 p1 s1 hb2 e2
      have lw := p1.length_eq
      rw [List.length_append] at lw
      have fin : ∀ st3 W2, W2.Perm (L2 ++ R2) → Srt lek W2 → BxF st3 b n cap (P ++ W1 ++ W2 ++ Q) → StX (· = b) st st3 → K st3 := fun st3 W2 p2 s2 hb3 e3 => by
        obtain ⟨t1, t2⟩ := srt_halves lek_trans lek_refl sL' sR' j2 j1 p1 p2 s1 s2
        exact hk st3 (W1 ++ W2) (by rw [dL, dR]; exact t1) t2 (by simpa using hb3) e3
      refine BIf_intro (fun g1 => BIf_intro (fun g2 => ?_) fun g2 => ?_) fun g1 => ?_
      · refine ih (P := P ++ W1) (L := L2) (R := R2) (Q := Q) (by omega) (by omega) (by omega) hb2 z2 z4 (by rw [List.length_append]; omega) (by rw [List.length_append]; omega) (by rw [List.length_append]; omega) fun st3 W2 p2 s2 hb3 e3 => fin st3 W2 p2 s2 hb3 (e2.trans e3)
      · have : R2 = [] := List.eq_nil_of_length_eq_zero (by omega)
        subst this
        exact fin st2 L2 (by simp) z2 (by simpa using hb2) e2
      · have : L2 = [] := List.eq_nil_of_length_eq_zero (by omega)
        subst this
        exact fin st2 R2 (by simp) z4 (by simpa using hb2) e2
    -- both halves
    have both : ∀ st2, BxF st2 b n cap (P ++ L1 ++ R1 ++ L2 ++ R2 ++ Q) → StX (· = b) st st2 →
        (∀ W1 st3, W1.Perm (L1 ++ R1) → Srt lek W1 → BxF st3 b n cap (P ++ W1 ++ L2 ++ R2 ++ Q) → StX (· = b) st st3 → True) := fun _ _ _ _ _ _ _ _ _ => trivial
    have firstCall : ∀ (st2 : St) (K' : St → Prop), 0 < L1.length → 0 < R1.length → BxF st2 b n cap (P ++ L1 ++ R1 ++ L2 ++ R2 ++ Q) → (∀ st3 W1, W1.Perm (L1 ++ R1) → Srt lek W1 → BxF st3 b n cap (P ++ W1 ++ L2 ++ R2 ++ Q) → StX (· = b) st2 st3 → K' st3) →
        CallT PR fn_slices_symMergeCmpFunc_api_Field_ [.ms 14 b 0 n cap, .int .i64 (P.length : Int), .int .i64 ((P.length + u : Nat) : Int), .int .i64 ((P.length + H : Nat) : Int), cmp] [] st2 K' := by
      intro st2 K' y1 y2 hb2 hK'
      exact ih (P := P) (L := L1) (R := R1) (Q := L2 ++ R2 ++ Q) (by omega) y1 y2 (by simpa using hb2) z1 z3 rfl (by omega) (by omega) fun st3 W1 p1 s1 hb3 e3 => hK' st3 W1 p1 s1 (by simpa using hb3) e3
    have hb' : BxF st1 b n cap (P ++ (L1 ++ L2) ++ (R1 ++ R2) ++ Q) := by rw [← dL, ← dR]; exact hb
    refine BIf_intro (fun g1 => BIf_intro (fun g2 => ?_) fun g2 => ?_) fun g1 => ?_
    · refine rotate_ok (P := P ++ L1) (U := L2) (V := R1) (Q := R2 ++ Q) (by simpa using hb') hn (by omega) (by omega) (by rw [List.length_append]; omega) (by rw [List.length_append]; omega) (by rw [List.length_append]; omega) fun st2 hb2 e2 => ?_
      have hb2' : BxF st2 b n cap (P ++ L1 ++ R1 ++ L2 ++ R2 ++ Q) := by simpa using hb2
      have e12 := e.trans e2
      refine BIf_intro (fun g3 => BIf_intro (fun g4 => ?_) fun g4 => ?_) fun g3 => ?_
      · exact firstCall st2 _ (by omega) (by omega) hb2' fun st3 W1 p1 s1 hb3 e3 => second st3 W1 p1 s1 hb3 (e12.trans e3)
      · have : R1 = [] := List.eq_nil_of_length_eq_zero (by omega)
        subst this
        exact second st2 L1 (by simp) z1 (by simpa using hb2') e12
      · have : L1 = [] := List.eq_nil_of_length_eq_zero (by omega)
        subst this
        exact second st2 R1 (by simp) z3 (by simpa using hb2') e12
    · have hR0 : R1 = [] := List.eq_nil_of_length_eq_zero (by omega)
      subst hR0
      have hb2' : BxF st1 b n cap (P ++ L1 ++ [] ++ L2 ++ R2 ++ Q) := by simpa using hb'
      refine BIf_intro (fun g3 => BIf_intro (fun g4 => ?_) fun g4 => ?_) fun g3 => ?_
      · exact absurd g4 (by simp at a3; omega)
      · exact second st1 L1 (by simp) z1 (by simpa using hb2') e
      · exact second st1 L1 (by simp) z1 (by simpa using hb2') e
    · have hL0 : L2 = [] := List.eq_nil_of_length_eq_zero (by omega)
      subst hL0
      have hb2' : BxF st1 b n cap (P ++ L1 ++ R1 ++ [] ++ R2 ++ Q) := by simpa using hb'
      refine BIf_intro (fun g3 => BIf_intro (fun g4 => ?_) fun g4 => ?_) fun g3 => ?_
      · exact firstCall st1 _ (by omega) (by omega) hb2' fun st3 W1 p1 s1 hb3 e3 => second st3 W1 p1 s1 hb3 (e.trans e3)
      · have : R1 = [] := List.eq_nil_of_length_eq_zero (by omega)
        subst this
        exact second st1 L1 (by simp) z1 (by simpa using hb2') e
      · have : L1 = [] := List.eq_nil_of_length_eq_zero (by omega)
        subst this
        exact second st1 R1 (by simp) z3 (by simpa using hb2') e
end
end Go.TVF
end

section
namespace Go.TVF
open Go Go.Proofs
set_option linter.unusedVariables false
set_option linter.unusedSimpArgs false
/-- All aligned blocks of this length are sorted. -/
def SB (bs : Nat) (l : List (List TV)) : Prop := ∀ k, Srt lek ((l.drop (k * bs)).take bs)
theorem SB.nil (bs : Nat) : SB bs [] := fun k => by simp only [List.drop_nil, List.take_nil]; exact List.Pairwise.nil
theorem SB.app {bs q : Nat} {S M : List (List TV)} (h : SB bs S) (hq : S.length = q * bs) (hm : M.length ≤ bs) (hs : Srt lek M) : SB bs (S ++ M) := fun k => by
  rcases Nat.lt_trichotomy k q with hk | hk | hk
  · have : (k + 1) * bs ≤ q * bs := Nat.mul_le_mul_right _ hk
    rw [Nat.add_mul, Nat.one_mul] at this
    rw [List.drop_append_of_le_length (by omega), List.take_append_of_le_length (by rw [List.length_drop]; omega)]
    exact h k
  · subst hk
    rw [← hq, List.drop_left, List.take_of_length_le hm]
    exact hs
  · have : (q + 1) * bs ≤ k * bs := Nat.mul_le_mul_right _ hk
    rw [Nat.add_mul, Nat.one_mul] at this
    rw [List.drop_of_length_le (by rw [List.length_append]; omega), List.take_nil]
    exact List.Pairwise.nil
theorem SB.drop {bs q : Nat} {l : List (List TV)} (h : SB bs l) : SB bs (l.drop (q * bs)) := fun k => by
  rw [List.drop_drop, ← Nat.add_mul]
  exact h (q + k)
theorem SB.all {bs : Nat} {l : List (List TV)} (h : SB bs l) (hl : l.length ≤ bs) : Srt lek l := by
  have := h 0
  rw [Nat.zero_mul, List.drop_zero, List.take_of_length_le hl] at this
  exact this
section
variable {st : St} {b n cap : Nat}
theorem stable_ok {cmp : TV} (hc : CmpOk cmp) {D0 : List (List TV)} (h : BxF st b n cap D0) (hn : n ≤ 100000000) {N : Int} (hN : N = (n : Int)) {K : St → Prop} (hk : ∀ st' W, W.Perm D0 → Srt lek W → BxF st' b n cap W → StX (· = b) st st' → K st') :
    CallT PR fn_slices_stableCmpFunc_api_Field_ [.ms 14 b 0 n cap, .int .i64 N, cmp] [] st K := by
  have hlen := h.len
  subst hN
  refine vc_slices_stableCmpFunc_api_Field_ _ _ cmp st K ⟨fun a b' d n' c bs st' => d = .ms 14 b 0 n cap ∧ n' = (n : Int) ∧ cmp = c ∧ bs = 20 ∧ ∃ (q : Nat) (S T : List (List TV)), a = ((q * 20 : Nat) : Int) ∧ b' = ((q * 20 + 20 : Nat) : Int) ∧ q * 20 ≤ n ∧ S.length = q * 20 ∧ SB 20 S ∧ (S ++ T).Perm D0 ∧ BxF st' b n cap (S ++ T) ∧ StX (· = b) st st',
    fun a _ _ _ _ _ _ => (n - a).toNat, ⟨rfl, rfl, rfl, rfl, 0, [], D0, by omega, by omega, by omega, rfl, SB.nil _, by simp, by simpa using h, StX.refl _ _⟩, ?_⟩
  rintro _ _ _ _ _ _ st1 ⟨rfl, rfl, rfl, rfl, q, S, T, rfl, rfl, hqn, hS, sb, hp, hb, e⟩
  have hl1 := hb.len
  rw [List.length_append] at hl1
  refine BIf_intro (fun g => ?_) fun g => ?_
  · have hT : T = T.take 20 ++ T.drop 20 := (List.take_append_drop _ _).symm
    have lx : (T.take 20).length = 20 := by simp; omega
    generalize T.take 20 = X at *
    generalize T.drop 20 = Y at *
    subst hT
    refine insertion_ok (P := S) (L := X) (Q := Y) hc (by simpa using hb) hn (by omega) (by omega) fun st2 M pm sm hb2 e2 => ?_
    have lm := pm.length_eq
    refine ⟨⟨rfl, rfl, rfl, rfl, q + 1, S ++ M, Y, by omega, by rw [wrap64 _ (by omega) (by omega)]; omega, by omega, by rw [List.length_append]; omega, sb.app hS (by omega) sm, ?_, hb2, e.trans e2⟩, by dsimp only; omega⟩
    rw [List.append_assoc]
    exact ((pm.append_right Y).append_left S).trans hp
  · refine insertion_ok (P := S) (L := T) (Q := []) hc (by simpa using hb) hn (by omega) (by omega) fun st2 M pm sm hb2 e2 => ?_
    have lm := pm.length_eq
    rw [List.append_nil] at hb2
    refine ⟨fun bs d n' c st' => d = .ms 14 b 0 n cap ∧ n' = (n : Int) ∧ cmp = c ∧ ∃ (s : Nat) (D : List (List TV)), bs = (s : Int) ∧ 20 ≤ s ∧ s ≤ 200000020 ∧ SB s D ∧ D.Perm D0 ∧ BxF st' b n cap D ∧ StX (· = b) st st',
      fun bs _ _ _ _ => (n - bs).toNat, ⟨rfl, rfl, rfl, 20, S ++ M, rfl, Nat.le_refl _, by omega, sb.app hS (by omega) sm, (pm.append_left S).trans hp, hb2, e.trans e2⟩, ?_⟩
    rintro _ _ _ _ st3 ⟨rfl, rfl, rfl, s, D, rfl, hs20, hsm, sbD, pD, hbD, eD⟩
    have hlD := hbD.len
    refine BIf_intro (fun g2 => ?_) fun g2 => hk st3 D pD (sbD.all (by omega)) hbD eD
    have w2 : IntKind.i64.wrap (2 * (s : Int)) = ((2 * s : Nat) : Int) := by rw [wrap64 _ (by omega) (by omega)]; omega
    have ws2 : IntKind.i64.wrap ((s : Int) * 2) = ((2 * s : Nat) : Int) := by rw [wrap64 _ (by omega) (by omega)]; omega
    refine ⟨fun a b' d n' c bs st' => d = .ms 14 b 0 n cap ∧ n' = (n : Int) ∧ cmp = c ∧ bs = (s : Int) ∧ ∃ (q : Nat) (S T : List (List TV)), a = ((q * (2 * s) : Nat) : Int) ∧ b' = ((q * (2 * s) + 2 * s : Nat) : Int) ∧ q * (2 * s) ≤ n ∧ S.length = q * (2 * s) ∧ SB (2 * s) S ∧ SB s T ∧ (S ++ T).Perm D0 ∧ BxF st' b n cap (S ++ T) ∧ StX (· = b) st st',
      fun a _ _ _ _ _ _ => (n - a).toNat, ⟨rfl, rfl, rfl, rfl, 0, [], D, by simp, by rw [w2]; simp, by omega, by simp, SB.nil _, sbD, by simpa using pD, by simpa using hbD, eD⟩, ?_⟩
    rintro _ _ _ _ _ _ st4 ⟨rfl, rfl, rfl, rfl, q2, S2, T2, rfl, rfl, hq2, hS2, sbS, sbT, p2, hb4, e4⟩
    have hl4 := hb4.len
    rw [List.length_append] at hl4
    generalize hQ : q2 * (2 * s) = Qn at *
    have d1 := sbT 0
    have d2 := sbT 1
    rw [Nat.zero_mul, List.drop_zero] at d1
    rw [Nat.one_mul] at d2
    refine BIf_intro (fun g3 => ?_) fun g3 => ?_
    · rw [w2]
      have wa : IntKind.i64.wrap ((Qn : Int) + (s : Int)) = ((Qn + s : Nat) : Int) := by rw [wrap64 _ (by omega) (by omega)]; omega
      rw [wa]
      have sb3 : SB s (T2.drop (2 * s)) := SB.drop (q := 2) sbT
      have hT : T2 = T2.take s ++ ((T2.drop s).take s ++ T2.drop (2 * s)) := by
        have : T2.drop (2 * s) = (T2.drop s).drop s := by rw [List.drop_drop]; congr 1; omega
        rw [this, List.take_append_drop, List.take_append_drop]
      have lx : (T2.take s).length = s := by simp; omega
      have ly : ((T2.drop s).take s).length = s := by simp; omega
      generalize T2.take s = X at *
      generalize (T2.drop s).take s = Y at *
      generalize T2.drop (2 * s) = Z at *
      subst hT
      refine symMerge_ok hc hn _ (P := S2) (L := X) (R := Y) (Q := Z) (Nat.le_refl _) (by omega) (by omega) (by simpa using hb4) d1 d2 (by omega) (by omega) (by omega) fun st5 W pw sw hb5 e5 => ?_
      have lw := pw.length_eq
      rw [List.length_append] at lw
      refine ⟨⟨rfl, rfl, rfl, rfl, q2 + 1, S2 ++ W, Z, by rw [Nat.add_mul, hQ]; omega, by rw [wrap64 _ (by omega) (by omega), Nat.add_mul, hQ]; omega, by rw [Nat.add_mul, hQ]; omega, by rw [List.length_append, Nat.add_mul, hQ]; omega, sbS.app (by rw [hQ]; exact hS2) (by omega) sw, sb3, ?_, hb5, e4.trans e5⟩, by dsimp only; omega⟩
      refine List.Perm.trans ?_ p2
      rw [List.append_assoc]
      exact ((pw.append_right Z).append_left S2).trans (by simp)
    · have wa : IntKind.i64.wrap ((Qn : Int) + (s : Int)) = ((Qn + s : Nat) : Int) := by rw [wrap64 _ (by omega) (by omega)]; omega
      rw [wa, ws2]
      refine BIf_intro (fun g4 => ?_) fun g4 => ?_
      · have hT : T2 = T2.take s ++ T2.drop s := (List.take_append_drop _ _).symm
        have lx : (T2.take s).length = s := by simp; omega
        have ly : (T2.drop s).length = T2.length - s := by simp
        rw [List.take_of_length_le (by omega)] at d2
        generalize T2.take s = X at *
        generalize T2.drop s = Y at *
        subst hT
        rw [List.length_append] at *
        refine symMerge_ok hc hn _ (P := S2) (L := X) (R := Y) (Q := []) (Nat.le_refl _) (by omega) (by omega) (by simpa using hb4) d1 d2 (by omega) (by omega) (by omega) fun st5 W pw sw hb5 e5 => ?_
        have lw := pw.length_eq
        rw [List.length_append] at lw
        rw [List.append_nil] at hb5
        exact ⟨⟨rfl, rfl, rfl, 2 * s, S2 ++ W, rfl, by omega, by omega, sbS.app (by rw [hQ]; exact hS2) (by omega) sw, (pw.append_left S2).trans p2, hb5, e4.trans e5⟩, by dsimp only; omega⟩
      · refine ⟨⟨rfl, rfl, rfl, 2 * s, S2 ++ T2, rfl, by omega, by omega, sbS.app (by rw [hQ]; exact hS2) (by omega) (sbT.all (by omega)), p2, hb4, e4⟩, by dsimp only; omega⟩
theorem sortStable_ok {cmp : TV} (hc : CmpOk cmp) {D0 : List (List TV)} (h : BxF st b n cap D0) (hn : n ≤ 100000000) {K : St → Prop} (hk : ∀ st' W, W.Perm D0 → Srt lek W → BxF st' b n cap W → StX (· = b) st st' → K st') :
    CallT PR fn_slices_SortStableFunc___api_Field_api_Field_ [.ms 14 b 0 n cap, cmp] [] st K :=
  vc_slices_SortStableFunc___api_Field_api_Field_ _ cmp st K (need_intro rfl (stable_ok hc h hn rfl hk))
end
end Go.TVF
end

section
set_option linter.unusedVariables false
namespace Go.Proofs
open Go.Shelf
def Tryd.lays162_ren : Go.Shelf.Ren := ⟨fun | 162 => 72 | 232 => 78 | 227 => 79 | 234 => 80 | 236 => 81 | 228 => 89 | 271 => 90 | 151 => 91 | 120 => 94 | 197 => 95 | 152 => 96 | 260 => 98 | 137 => 99 | 119 => 100 | 224 => 101 | 225 => 102 | 217 => 103 | 266 => 104 | n => n, fun | 9 => 9 | 4 => 4 | 3 => 3 | 5 => 5 | 117 => 110 | 116 => 109 | 0 => 0 | 124 => 113 | 21 => 21 | 105 => 120 | 46 => 87 | 119 => 126 | 139 => 129 | 138 => 128 | n => n, fun | 3 => 1 | 4 => 2 | n => n⟩
theorem Tryd.lays162 : Go.Proofs.Lays.n162 Tryd.prog Tryd.lays162_ren := {
  mixed := by kernel_rfl
  f119 := Tryd.func100.trans (congrArg some (by kernel_rfl))
  f120 := Tryd.func94.trans (congrArg some (by kernel_rfl))
  f137 := Tryd.func99.trans (congrArg some (by kernel_rfl))
  f151 := Tryd.func91.trans (congrArg some (by kernel_rfl))
  f152 := Tryd.func96.trans (congrArg some (by kernel_rfl))
  f162 := Tryd.func72.trans (congrArg some (by kernel_rfl))
  f197 := Tryd.func95.trans (congrArg some (by kernel_rfl))
  f217 := Tryd.func103.trans (congrArg some (by kernel_rfl))
  f224 := Tryd.func101.trans (congrArg some (by kernel_rfl))
  f225 := Tryd.func102.trans (congrArg some (by kernel_rfl))
  f227 := Tryd.func79.trans (congrArg some (by kernel_rfl))
  f228 := Tryd.func89.trans (congrArg some (by kernel_rfl))
  f232 := Tryd.func78.trans (congrArg some (by kernel_rfl))
  f234 := Tryd.func80.trans (congrArg some (by kernel_rfl))
  f236 := Tryd.func81.trans (congrArg some (by kernel_rfl))
  f260 := Tryd.func98.trans (congrArg some (by kernel_rfl))
  f266 := Tryd.func104.trans (congrArg some (by kernel_rfl))
  f271 := Tryd.func90.trans (congrArg some (by kernel_rfl))
  t0 := Tryd.underlying0
  a0 := Tryd.isAgg0
  z0 := Tryd.sizeOf0
  v0 := Tryd.zeroValue0
  t3 := Tryd.underlying3
  a3 := Tryd.isAgg3
  z3 := Tryd.sizeOf3
  v3 := Tryd.zeroValue3
  t4 := Tryd.underlying4
  a4 := Tryd.isAgg4
  z4 := Tryd.sizeOf4
  v4 := Tryd.zeroValue4
  t5 := Tryd.underlying5
  a5 := Tryd.isAgg5
  z5 := Tryd.sizeOf5
  v5 := Tryd.zeroValue5
  t9 := Tryd.underlying9
  a9 := Tryd.isAgg9
  z9 := Tryd.sizeOf9
  v9 := Tryd.zeroValue9
  t21 := Tryd.underlying21
  a21 := Tryd.isAgg21
  z21 := Tryd.sizeOf21
  v21 := Tryd.zeroValue21
  t46 := Tryd.underlying87
  a46 := Tryd.isAgg87
  z46 := Tryd.sizeOf87
  v46 := Tryd.zeroValue87
  t105 := Tryd.underlying120
  a105 := Tryd.isAgg120
  z105 := Tryd.sizeOf120
  v105 := Tryd.zeroValue120
  t116 := Tryd.underlying109
  a116 := Tryd.isAgg109
  z116 := Tryd.sizeOf109
  t117 := Tryd.underlying110
  a117 := Tryd.isAgg110
  z117 := Tryd.sizeOf110
  v117 := Tryd.zeroValue110
  t119 := Tryd.underlying126
  a119 := Tryd.isAgg126
  z119 := Tryd.sizeOf126
  t124 := Tryd.underlying113
  a124 := Tryd.isAgg113
  z124 := Tryd.sizeOf113
  v124 := Tryd.zeroValue113
  t138 := Tryd.underlying128
  a138 := Tryd.isAgg128
  z138 := Tryd.sizeOf128
  v138 := Tryd.zeroValue128
  t139 := Tryd.underlying129
  a139 := Tryd.isAgg129
  z139 := Tryd.sizeOf129
  v139 := Tryd.zeroValue129
  g3 := by kernel_rfl
  g4 := by kernel_rfl }
open Go.RowKit in
theorem Tryd.strings_TrimRight_one (s : ByteArray) (c : UInt8) (hc : c.toNat < 128) (w : World) (hs : s.size ≤ 9223372036854775807) :
    Calls Tryd.prog 72 #[.string s, .string ⟨#[c]⟩] w fun e w' => e = .returned (.string ⟨(Lib.trimRightB s.data.toList c).toArray⟩) ∧ w' = w := Any.strings_TrimRight_one Tryd.lays162 s c hc w hs
def Tryd.lays106_ren : Go.Shelf.Ren := ⟨fun | 106 => 64 | 213 => 75 | 265 => 87 | n => n, fun | 9 => 9 | 3 => 3 | n => n, fun | n => n⟩
theorem Tryd.lays106 : Go.Proofs.Lays.n106 Tryd.prog Tryd.lays106_ren := {
  mixed := by kernel_rfl
  f106 := Tryd.func64.trans (congrArg some (by kernel_rfl))
  f213 := Tryd.func75.trans (congrArg some (by kernel_rfl))
  f265 := Tryd.func87.trans (congrArg some (by kernel_rfl))
  t3 := Tryd.underlying3
  a3 := Tryd.isAgg3
  z3 := Tryd.sizeOf3
  v3 := Tryd.zeroValue3
  t9 := Tryd.underlying9
  a9 := Tryd.isAgg9
  z9 := Tryd.sizeOf9
  v9 := Tryd.zeroValue9 }
open Go.RowKit in
theorem Tryd.strings_Compare (a b : ByteArray) (w : World) :
    Calls Tryd.prog 64 #[.string a, .string b] w fun e w' => e = .returned (.int .i64 (Lib.compareBytes a.data.toList b.data.toList)) ∧ w' = w := Any.strings_Compare Tryd.lays106 a b w
end Go.Proofs
end

section
set_option linter.unusedVariables false
namespace Go.TVF
open Go Go.Proofs
theorem rel_str_inv {g : Ghost} {w : World} {l : List UInt8} {v : Value} (h : Rel g w (.str l) v) : v = .string ⟨l.toArray⟩ := by cases h; rfl
theorem relL_two {g : Ghost} {w : World} {x y : TV} {vs : List Value} (h : RelL g w [x, y] vs) : ∃ v u, vs = [v, u] ∧ Rel g w x v ∧ Rel g w y u := by
  obtain ⟨v, h1, h2⟩ := h.get? (i := 0) rfl
  obtain ⟨u, h3, h4⟩ := h.get? (i := 1) rfl
  have := h.1
  cases vs with
  | nil => simp at this
  | cons a r => cases r with
    | nil => simp at this
    | cons b r => cases r with
      | nil => simp at h1 h3; subst h1 h3; exact ⟨_, _, rfl, h2, h4⟩
      | cons c r => simp at this
theorem compare_less : ∀ a b : List UInt8, Lib.compareBytes a b < 0 ↔ Op.bytesLess a b = true
  | [], [] => by simp [Lib.compareBytes, Op.bytesLess]
  | [], _ :: _ => by simp [Lib.compareBytes, Op.bytesLess]
  | _ :: _, [] => by simp [Lib.compareBytes, Op.bytesLess]
  | a :: x, b :: y => by
    unfold Lib.compareBytes Op.bytesLess
    by_cases h1 : a < b
    · simp [h1]
    · by_cases h2 : b < a
      · have hne : a ≠ b := fun e => by subst e; exact UInt8.lt_irrefl _ h2
        simp [h1, h2, hne]
      · have he : a = b := UInt8.le_antisymm (UInt8.not_lt.1 h2) (UInt8.not_lt.1 h1)
        subst he
        simp [h1, compare_less x y]
theorem compare_ok {a b : List UInt8} {st : St} {K : Int → St → Prop} (hk : K (Lib.compareBytes a b) st) : CallT PR fn_strings_Compare [.str a, .str b] [.one (.int .i64)] st K := by
  refine tcalls_enter (fun _ _ => by kernel_rfl) fun g w vargs s hr => ?_
  obtain ⟨v, u, rfl, hv, hu⟩ := relL_two hr
  rw [rel_str_inv hv, rel_str_inv hu]
  refine Calls.mono (Tryd.strings_Compare ⟨a.toArray⟩ ⟨b.toArray⟩ w) ?_
  rintro e w' ⟨rfl, rfl⟩
  exact ⟨_, rfl, .int .i64 _, st, g, hk, s, Rel.int _ _, Ext.refl _ _⟩
theorem sorted1_cmp : CmpOk (.func fn_value_sorted_1 []) := by
  intro c d st K hc hd hk
  obtain ⟨kx, n1, b1, b2, s2, n2, n3, n4, n5, n6, s3, u1, u2, u3, rfl, _⟩ := hc
  obtain ⟨ky, m1, c1, c2, t2, m2, m3, m4, m5, m6, t3, v1, v2, v3, rfl, _⟩ := hd
  exact vc_value_sorted_1 _ _ _ _ _ _ _ _ _ _ _ _ _ _ _ _ _ _ _ _ _ _ _ _ _ _ _ _ st K (compare_ok (hk _ st (StExt.refl _) (compare_less _ _)))
end Go.TVF
end

section
namespace Go.TVF
open Go Go.Proofs
set_option linter.unusedVariables false
set_option linter.unusedSimpArgs false
/-- Two lists whose elements are related one by one. -/
inductive All2 {α β : Type} (R : α → β → Prop) : List α → List β → Prop
  | nil : All2 R [] []
  | cons {a : α} {b : β} {l : List α} {m : List β} : R a b → All2 R l m → All2 R (a :: l) (b :: m)
theorem All2.len {α β : Type} {R : α → β → Prop} {l : List α} {m : List β} (h : All2 R l m) : l.length = m.length := by
  induction h with
  | nil => rfl
  | cons _ _ ih => simp [ih]
theorem All2.perm {α β : Type} {R : α → β → Prop} {m m' : List β} (p : m'.Perm m) : ∀ {l : List α}, All2 R l m → ∃ l', l'.Perm l ∧ All2 R l' m' := by
  induction p with
  | nil => intro l h; cases h; exact ⟨[], .nil, .nil⟩
  | cons x p ih =>
    intro l h
    cases h with
    | cons r h => obtain ⟨l', p', h'⟩ := ih h; exact ⟨_ :: l', p'.cons _, .cons r h'⟩
  | swap x y l0 =>
    intro l h
    cases h with
    | cons r1 h => cases h with
      | cons r2 h => exact ⟨_, List.Perm.swap _ _ _, .cons r2 (.cons r1 h)⟩
  | trans p1 p2 ih1 ih2 =>
    intro l h
    obtain ⟨l1, q1, h1⟩ := ih2 h
    obtain ⟨l2, q2, h2⟩ := ih1 h1
    exact ⟨l2, q2.trans q1, h2⟩
theorem All2.mono {α β : Type} {R R' : α → β → Prop} (hm : ∀ a b, R a b → R' a b) {l : List α} {m : List β} (h : All2 R l m) : All2 R' l m := by
  induction h with
  | nil => exact .nil
  | cons r _ ih => exact .cons (hm _ _ r) ih
theorem FsR.chunks {st : St} : ∀ {f : List Fd} {xs : List TV}, FsR st f xs → ∃ cks : List (List TV), xs = cks.flatten ∧ All2 (FdR st) f cks
  | [], xs, h => by unfold FsR at h; subst h; exact ⟨[], rfl, .nil⟩
  | d :: r, xs, h => by
    unfold FsR at h
    obtain ⟨a, b, rfl, h1, h2⟩ := h
    obtain ⟨cks, rfl, h3⟩ := FsR.chunks h2
    exact ⟨a :: cks, by simp, .cons h1 h3⟩
theorem FsR.of_chunks {st : St} {f : List Fd} {cks : List (List TV)} (h : All2 (FdR st) f cks) : FsR st f cks.flatten := by
  induction h with
  | nil => unfold FsR; rfl
  | cons r _ ih => unfold FsR; exact ⟨_, _, by simp, r, ih⟩
theorem SlR.one {st : St} {sz n : Nat} {u : TV} {xs : List TV} (h : SlR st sz u n xs) : oneT u = true := by
  rcases h with (⟨rfl, _⟩ | ⟨tip, rfl⟩) | ⟨b, off, cap, l, rfl, _⟩ <;> rfl
theorem FdR.ck {st : St} {d : Fd} {cs : List TV} (h : FdR st d cs) : Ck cs ∧ keyOf cs = d.key := by
  cases d with
  | mk k v =>
    unfold FdR at h
    obtain ⟨c, rfl, h⟩ := h
    cases v with
    | mk s l f =>
      unfold VlR at h
      obtain ⟨ub, ul, uf, xl, xf, rfl, h1, h2, _, h3, _⟩ := h
      exact ⟨⟨k, _, _, _, _, _, _, _, _, _, _, ub, ul, uf, rfl, h1.one, h2.one, h3.one⟩, rfl⟩
theorem All2.cks {st : St} {f : List Fd} {cks : List (List TV)} (h : All2 (FdR st) f cks) : ∀ c, c ∈ cks → Ck c := by
  induction h with
  | nil => intro c hc; cases hc
  | cons r _ ih =>
    intro c hc
    rcases List.mem_cons.1 hc with rfl | hc
    · exact r.ck.1
    · exact ih c hc
theorem SlR.src {st : St} {sz n : Nat} {u : TV} {xs : List TV} (h : SlR st sz u n xs) (hl : xs.length = n * sz) : appSrc st sz u = some (n, xs) := by
  rcases h with (⟨rfl, rfl, rfl⟩ | ⟨tip, rfl⟩) | ⟨b, off, cap, l, rfl, h2, h3, h4, h5, rfl⟩
  · rfl
  · simp [appSrc]
  · have hlt : n * sz ≤ cap * sz := Nat.mul_le_mul_right _ h5
    have e := lds_mid (B := l.drop (off + n * sz)) (st := st) (b := b) ((l.drop off).take (n * sz)) l 0 off h3 (by
      rw [Nat.add_zero, ← List.drop_drop, List.take_append_drop])
    rw [show ((l.drop off).take (n * sz)).length = n * sz by simp; omega] at e
    simp only [appSrc, Nat.beq_refl]
    rw [e]
theorem FsR.all_one {st : St} {f : List Fd} {xs : List TV} (h : FsR st f xs) : List.all xs oneT = true := by
  obtain ⟨cks, rfl, h2⟩ := h.chunks
  rw [List.all_flatten, List.all_eq_true]
  exact fun c hc => (h2.cks c hc).one
theorem StExt.keeps {a b : St} (h : StExt a b) : Keeps a b := ⟨h.nb, h.box⟩
section
variable {st : St}
/-- An empty row is sorted as it lies. -/
theorem stable_empty {data cmp : TV} {K : St → Prop} (hk : K st) : CallT PR fn_slices_stableCmpFunc_api_Field_ [data, .int .i64 0, cmp] [] st K := by
  refine vc_slices_stableCmpFunc_api_Field_ _ _ cmp st K ⟨fun a b' d n' c bs st' => a = 0 ∧ b' = 20 ∧ n' = 0 ∧ bs = 20 ∧ st = st', fun _ _ _ _ _ _ _ => 0, ⟨rfl, rfl, rfl, rfl, rfl⟩, ?_⟩
  rintro _ _ _ _ _ _ _ ⟨rfl, rfl, rfl, rfl, rfl⟩
  refine BIf_intro (fun g => absurd g (by omega)) fun _ => ?_
  refine vc_slices_insertionSortCmpFunc_api_Field_ _ _ _ _ st _ ⟨fun i _ _ b' _ st' => i = 1 ∧ b' = 0 ∧ st = st', fun _ _ _ _ _ _ => 0, ⟨by rw [wrap64 _ (by omega) (by omega)]; rfl, rfl, rfl⟩, ?_⟩
  rintro _ _ _ _ _ _ ⟨rfl, rfl, rfl⟩
  refine BIf_intro (fun g => absurd g (by omega)) fun _ => ?_
  refine ⟨fun bs _ n' _ st' => bs = 20 ∧ n' = 0 ∧ st = st', fun _ _ _ _ _ => 0, ⟨rfl, rfl, rfl⟩, ?_⟩
  rintro _ _ _ _ _ ⟨rfl, rfl, rfl⟩
  exact BIf_intro (fun g => absurd g (by omega)) fun _ => hk
/-- The fields by their keys. -/
def SrtF (f : List Fd) : Prop := f.Pairwise fun x y => Op.bytesLess y.key x.key = false
theorem srtF_of {st : St} {f : List Fd} {cks : List (List TV)} (h : All2 (FdR st) f cks) (hs : Srt lek cks) : SrtF f := by
  induction h with
  | nil => exact List.Pairwise.nil
  | cons r t ih =>
    rename_i d c f' cks'
    obtain ⟨h1, h2⟩ := List.pairwise_cons.1 hs
    refine List.pairwise_cons.2 ⟨fun x hx => ?_, ih h2⟩
    have : ∀ {l : List Fd} {m : List (List TV)}, All2 (FdR st) l m → x ∈ l → ∃ y, y ∈ m ∧ FdR st x y := by
      intro l m h
      induction h with
      | nil => intro hx; cases hx
      | cons r _ ih =>
        intro hx
        rcases List.mem_cons.1 hx with rfl | hx
        · exact ⟨_, .head _, r⟩
        · obtain ⟨y, h1, h2⟩ := ih hx; exact ⟨y, .tail _ h1, h2⟩
    obtain ⟨y, hy, hxy⟩ := this t hx
    have := h1 y hy
    unfold lek at this
    rw [hxy.ck.2, r.ck.2] at this
    exact this
end
end Go.TVF
end

section
namespace Go.TVF
open Go Go.Proofs
set_option linter.unusedVariables false
set_option linter.unusedSimpArgs false
/-- A row of its own: nothing yet, or a box (the list of the boxes). -/
def OwnSl (st : St) (sz : Nat) (u : TV) (n : Nat) (xs : List TV) (bs : List Nat) : Prop :=
  (n = 0 ∧ xs = [] ∧ bs = [] ∧ (u = .nilSlice ∨ u = .list sz .full 0 [])) ∨ ∃ b cap tail, u = .ms sz b 0 n cap ∧ b < st.nb ∧ st.box b = .cells (xs ++ tail) ∧ (xs ++ tail).length = cap * sz ∧ xs.length = n * sz ∧ n ≤ cap ∧ bs = [b]
theorem OwnSl.rd {st : St} {sz n : Nat} {u : TV} {xs : List TV} {bs : List Nat} (h : OwnSl st sz u n xs bs) : SlR st sz u n xs := by
  rcases h with ⟨rfl, rfl, rfl, rfl | rfl⟩ | ⟨b, cap, tail, rfl, h1, h2, h3, h4, h5, rfl⟩
  · exact .inl (.inl ⟨rfl, rfl, rfl⟩)
  · exact .inl (.inr ⟨_, rfl⟩)
  · exact .inr ⟨b, 0, cap, _, rfl, h1, h2, by omega, h5, by rw [List.drop_zero, ← h4, List.take_left]⟩
theorem OwnSl.frame {S : Nat → Prop} {st st' : St} (e : StX S st st') {sz n : Nat} {u : TV} {xs : List TV} {bs : List Nat} (hs : ∀ x, x ∈ bs → ¬ S x) (h : OwnSl st sz u n xs bs) : OwnSl st' sz u n xs bs := by
  rcases h with h | ⟨b, cap, tail, rfl, h1, h2, h3, h4, h5, rfl⟩
  · exact .inl h
  · exact .inr ⟨b, cap, tail, rfl, Nat.lt_of_lt_of_le h1 e.nb, (e.box b h1 (hs b (.head _))).trans h2, h3, h4, h5, rfl⟩
theorem OwnSl.lt {st : St} {sz n : Nat} {u : TV} {xs : List TV} {bs : List Nat} (h : OwnSl st sz u n xs bs) : ∀ x, x ∈ bs → x < st.nb := by
  rcases h with ⟨_, _, rfl, _⟩ | ⟨b, cap, tail, rfl, h1, h2, h3, h4, h5, rfl⟩
  · intro x hx; cases hx
  · intro x hx; rcases List.mem_singleton.1 hx with rfl; exact h1
mutual
/-- The cells are the tree; its boxes, each once. -/
def VlO (st : St) : Vl → List TV → List Nat → Prop
  | .mk s l f, cs, fp => ∃ ub ul uf xl xf bb bl bf fl ff, cs = [.int .i64 s.kind, .bool s.b, .bool s.neg, .str s.dg, .int .i64 s.ex, .int .i64 s.tk, .int .i64 s.td, .int .i64 s.tn, .int .i64 s.tz, .str s.text, ub, ul, uf] ∧
      OwnSl st 1 ub s.bytes.length (bytesT s.bytes) bb ∧ OwnSl st 13 ul l.length xl bl ∧ VsO st l xl fl ∧ OwnSl st 14 uf f.length xf bf ∧ FsO st f xf ff ∧ fp = bb ++ (bl ++ (fl ++ (bf ++ ff)))
def VsO (st : St) : List Vl → List TV → List Nat → Prop
  | [], xs, fp => xs = [] ∧ fp = []
  | v :: r, xs, fp => ∃ a b p q, xs = a ++ b ∧ fp = p ++ q ∧ VlO st v a p ∧ VsO st r b q
def FdO (st : St) : Fd → List TV → List Nat → Prop
  | .mk k v, xs, fp => ∃ cs, xs = .str k :: cs ∧ VlO st v cs fp
def FsO (st : St) : List Fd → List TV → List Nat → Prop
  | [], xs, fp => xs = [] ∧ fp = []
  | d :: r, xs, fp => ∃ a b p q, xs = a ++ b ∧ fp = p ++ q ∧ FdO st d a p ∧ FsO st r b q
end
mutual
theorem VlO.rd {st : St} : ∀ {v : Vl} {cs : List TV} {fp : List Nat}, VlO st v cs fp → VlR st v cs
  | .mk s l f, cs, fp, h => by
    unfold VlO at h
    unfold VlR
    obtain ⟨ub, ul, uf, xl, xf, bb, bl, bf, fl, ff, h0, h1, h2, h3, h4, h5, _⟩ := h
    exact ⟨ub, ul, uf, xl, xf, h0, h1.rd, h2.rd, VsO.rd h3, h4.rd, FsO.rd h5⟩
theorem VsO.rd {st : St} : ∀ {l : List Vl} {cs : List TV} {fp : List Nat}, VsO st l cs fp → VsR st l cs
  | [], cs, fp, h => by unfold VsO at h; unfold VsR; exact h.1
  | v :: r, cs, fp, h => by
    unfold VsO at h
    unfold VsR
    obtain ⟨a, b, p, q, h0, _, h1, h2⟩ := h
    exact ⟨a, b, h0, VlO.rd h1, VsO.rd h2⟩
theorem FdO.rd {st : St} : ∀ {d : Fd} {cs : List TV} {fp : List Nat}, FdO st d cs fp → FdR st d cs
  | .mk key v, cs, fp, h => by
    unfold FdO at h
    unfold FdR
    obtain ⟨c, h0, h1⟩ := h
    exact ⟨c, h0, VlO.rd h1⟩
theorem FsO.rd {st : St} : ∀ {l : List Fd} {cs : List TV} {fp : List Nat}, FsO st l cs fp → FsR st l cs
  | [], cs, fp, h => by unfold FsO at h; unfold FsR; exact h.1
  | d :: r, cs, fp, h => by
    unfold FsO at h
    unfold FsR
    obtain ⟨a, b, p, q, h0, _, h1, h2⟩ := h
    exact ⟨a, b, h0, FdO.rd h1, FsO.rd h2⟩
end
mutual
theorem VlO.frame {S : Nat → Prop} {st st' : St} (e : StX S st st') : ∀ {v : Vl} {cs : List TV} {fp : List Nat}, (∀ x, x ∈ fp → ¬ S x) → VlO st v cs fp → VlO st' v cs fp
  | .mk s l f, cs, fp, hs, h => by
    unfold VlO at h ⊢
    obtain ⟨ub, ul, uf, xl, xf, bb, bl, bf, fl, ff, h0, h1, h2, h3, h4, h5, h6⟩ := h
    subst h6
    simp only [List.mem_append] at hs
    exact ⟨ub, ul, uf, xl, xf, bb, bl, bf, fl, ff, h0, h1.frame e (fun x hx => hs x (.inl hx)), h2.frame e (fun x hx => hs x (.inr (.inl hx))), VsO.frame e (fun x hx => hs x (.inr (.inr (.inl hx)))) h3,
      h4.frame e (fun x hx => hs x (.inr (.inr (.inr (.inl hx))))), FsO.frame e (fun x hx => hs x (.inr (.inr (.inr (.inr hx))))) h5, rfl⟩
theorem VsO.frame {S : Nat → Prop} {st st' : St} (e : StX S st st') : ∀ {l : List Vl} {cs : List TV} {fp : List Nat}, (∀ x, x ∈ fp → ¬ S x) → VsO st l cs fp → VsO st' l cs fp
  | [], cs, fp, hs, h => by unfold VsO at h ⊢; exact h
  | v :: r, cs, fp, hs, h => by
    unfold VsO at h ⊢
    obtain ⟨a, b, p, q, h0, rfl, h1, h2⟩ := h
    simp only [List.mem_append] at hs
    exact ⟨a, b, p, q, h0, rfl, VlO.frame e (fun x hx => hs x (.inl hx)) h1, VsO.frame e (fun x hx => hs x (.inr hx)) h2⟩
theorem FdO.frame {S : Nat → Prop} {st st' : St} (e : StX S st st') : ∀ {d : Fd} {cs : List TV} {fp : List Nat}, (∀ x, x ∈ fp → ¬ S x) → FdO st d cs fp → FdO st' d cs fp
  | .mk key v, cs, fp, hs, h => by
    unfold FdO at h ⊢
    obtain ⟨c, h0, h1⟩ := h
    exact ⟨c, h0, VlO.frame e hs h1⟩
theorem FsO.frame {S : Nat → Prop} {st st' : St} (e : StX S st st') : ∀ {l : List Fd} {cs : List TV} {fp : List Nat}, (∀ x, x ∈ fp → ¬ S x) → FsO st l cs fp → FsO st' l cs fp
  | [], cs, fp, hs, h => by unfold FsO at h ⊢; exact h
  | d :: r, cs, fp, hs, h => by
    unfold FsO at h ⊢
    obtain ⟨a, b, p, q, h0, rfl, h1, h2⟩ := h
    simp only [List.mem_append] at hs
    exact ⟨a, b, p, q, h0, rfl, FdO.frame e (fun x hx => hs x (.inl hx)) h1, FsO.frame e (fun x hx => hs x (.inr hx)) h2⟩
end
theorem VsO.snoc {st : St} {v : Vl} {cv : List TV} {pv : List Nat} : ∀ {l : List Vl} {xs : List TV} {fp : List Nat}, VsO st l xs fp → VlO st v cv pv → VsO st (l ++ [v]) (xs ++ cv) (fp ++ pv)
  | [], xs, fp, h, hv => by
    unfold VsO at h
    obtain ⟨rfl, rfl⟩ := h
    show VsO st [v] _ _
    unfold VsO
    exact ⟨cv, [], pv, [], by simp, by simp, hv, by unfold VsO; exact ⟨rfl, rfl⟩⟩
  | w :: r, xs, fp, h, hv => by
    unfold VsO at h
    obtain ⟨a, b, p, q, rfl, rfl, h1, h2⟩ := h
    show VsO st (w :: (r ++ [v])) _ _
    unfold VsO
    exact ⟨a, b ++ cv, p, q ++ pv, by simp, by simp, h1, VsO.snoc h2 hv⟩
theorem FsO.snoc {st : St} {d : Fd} {cv : List TV} {pv : List Nat} : ∀ {l : List Fd} {xs : List TV} {fp : List Nat}, FsO st l xs fp → FdO st d cv pv → FsO st (l ++ [d]) (xs ++ cv) (fp ++ pv)
  | [], xs, fp, h, hv => by
    unfold FsO at h
    obtain ⟨rfl, rfl⟩ := h
    show FsO st [d] _ _
    unfold FsO
    exact ⟨cv, [], pv, [], by simp, by simp, hv, by unfold FsO; exact ⟨rfl, rfl⟩⟩
  | w :: r, xs, fp, h, hv => by
    unfold FsO at h
    obtain ⟨a, b, p, q, rfl, rfl, h1, h2⟩ := h
    show FsO st (w :: (r ++ [d])) _ _
    unfold FsO
    exact ⟨a, b ++ cv, p, q ++ pv, by simp, by simp, h1, FsO.snoc h2 hv⟩
theorem setAll_end (xs ys tail : List TV) (h : ys.length ≤ tail.length) : setAll (xs ++ tail) xs.length ys = xs ++ ys ++ tail.drop ys.length := by
  have e : tail = tail.take ys.length ++ tail.drop ys.length := (List.take_append_drop _ _).symm
  have := setAll_mid ys xs (tail.take ys.length) (tail.drop ys.length) (by simp; omega)
  rw [List.append_assoc, List.take_append_drop] at this
  exact this
/-- An append to a row of its own. -/
theorem appB_ownO {T sz bytes : Nat} {st : St} {u : TV} {n k : Nat} {xs ys : List TV} {bs : List Nat} {K : TV → St → Prop} (h : OwnSl st sz u n xs bs) (hk1 : 0 < k) (hy : ys.length = k * sz) (hby : (n + k) * bytes ≤ 140737488355328)
    (hK : ∀ u' st' bs', OwnSl st' sz u' (n + k) (xs ++ ys) bs' → StX (· ∈ bs) st st' → ((bs' = bs ∧ bs ≠ []) ∨ bs' = [st.nb]) → K u' st') : appB T sz bytes u k ys st K := by
  obtain ⟨m, rfl⟩ : ∃ m, k = m + 1 := ⟨k - 1, by omega⟩
  have fresh : ∀ (zs : List TV) (N cap : Nat), zs.length = N * sz → N ≤ cap → OwnSl (st.push (.cells (zs ++ junks ((cap - N) * sz))) (some T)) sz (.ms sz st.nb 0 N cap) N zs [st.nb] := fun zs N cap h1 h2 =>
    .inr ⟨st.nb, cap, junks ((cap - N) * sz), rfl, by simp [St.push], by simp [St.push], by rw [List.length_append, h1]; simp only [junks, List.length_replicate]; rw [← Nat.add_mul]; congr 1; omega, h1, h2, rfl⟩
  rcases h with ⟨rfl, rfl, rfl, rfl | rfl⟩ | ⟨b, cap, tail, rfl, h1, h2, h3, h4, h5, rfl⟩
  · simp only [appB, need_iff]
    refine ⟨by simpa using hby, fun cap hc => hK _ _ [st.nb] ?_ (StX.of ((StExt.refl st).push _ _)) (.inr rfl)⟩
    have := fresh ys (m + 1) cap hy hc
    simpa using this
  · simp only [appB, Nat.beq_refl]
    refine ⟨hby, fun cap hc => hK _ _ [st.nb] ?_ (StX.of ((StExt.refl st).push _ _)) (.inr rfl)⟩
    have := fresh ys (0 + (m + 1)) cap (by rw [hy]; congr 1; omega) hc
    simpa using this
  · simp only [appB, Nat.beq_refl]
    rw [List.length_append] at h3
    refine ⟨hby, _, h2, by rw [List.length_append]; omega, fun hc => ?_, fun hc cap' hc' => ?_⟩
    · have hmul : (n + (m + 1)) * sz ≤ cap * sz := Nat.mul_le_mul_right _ hc
      rw [Nat.add_mul] at hmul
      rw [Nat.zero_add, ← h4, setAll_end xs ys tail (by omega)]
      refine hK _ _ [b] (.inr ⟨b, cap, tail.drop ys.length, rfl, h1, by simp [St.put], by simp only [List.length_append, List.length_drop]; omega, by rw [List.length_append, h4, hy, ← Nat.add_mul], hc, rfl⟩) (StX.put (S := (· ∈ [b])) (.head _) _) (.inl ⟨rfl, by simp⟩)
    · rw [List.drop_zero, ← h4, List.take_left]
      exact hK _ _ [st.nb] (fresh (xs ++ ys) (n + (m + 1)) cap' (by rw [List.length_append, h4, hy, ← Nat.add_mul]) hc') (StX.of ((StExt.refl st).push _ _)) (.inr rfl)
end Go.TVF
end

section
namespace Go.TVF
open Go Go.Proofs
set_option linter.unusedVariables false
set_option linter.unusedSimpArgs false
mutual
def Vl.sz : Vl → Nat
  | .mk s l f => 1 + s.bytes.length + s.text.length + s.dg.length + vsSz l + fsSz f
def vsSz : List Vl → Nat
  | [] => 0
  | v :: r => v.sz + vsSz r
def Fd.sz : Fd → Nat
  | .mk k v => k.length + v.sz
def fsSz : List Fd → Nat
  | [] => 0
  | d :: r => d.sz + fsSz r
end
theorem Vl.sz_pos (v : Vl) : 1 ≤ v.sz := by cases v; unfold Vl.sz; omega
theorem vsSz_len : ∀ l : List Vl, l.length ≤ vsSz l
  | [] => Nat.le_refl _
  | v :: r => by have := vsSz_len r; have := v.sz_pos; unfold vsSz; simp only [List.length_cons]; omega
theorem fsSz_len : ∀ l : List Fd, l.length ≤ fsSz l
  | [] => Nat.le_refl _
  | .mk k v :: r => by have := fsSz_len r; have := v.sz_pos; unfold fsSz Fd.sz; simp only [List.length_cons]; omega
theorem vsSz_get : ∀ {l : List Vl} {i : Nat} {v : Vl}, l[i]? = some v → v.sz ≤ vsSz l
  | [], i, v, h => by simp at h
  | w :: r, 0, v, h => by simp at h; subst h; unfold vsSz; omega
  | w :: r, i + 1, v, h => by have := vsSz_get (by simpa using h : r[i]? = some v); unfold vsSz; omega
theorem fsSz_get : ∀ {l : List Fd} {i : Nat} {d : Fd}, l[i]? = some d → d.sz ≤ fsSz l
  | [], i, v, h => by simp at h
  | w :: r, 0, v, h => by simp at h; subst h; unfold fsSz; omega
  | w :: r, i + 1, v, h => by have := fsSz_get (by simpa using h : r[i]? = some v); unfold fsSz; omega
theorem lds_rptr {st : St} {ys : List TV} : ∀ (k j : Nat), j + k ≤ ys.length → ldCells st [] (.t (.rptr ys)) j k = some ((ys.drop j).take k)
  | 0, j, h => by simp [ldCells]
  | k + 1, j, h => by
    show (match ldCell st [] (.t (.rptr ys)) j with | some x => (ldCells st [] (.t (.rptr ys)) (j + 1) k).map (x :: ·) | none => none) = _
    have hj : j < ys.length := by omega
    have : ldCell st [] (.t (.rptr ys)) j = some ys[j] := by simp [ldCell, hj]
    rw [this]
    simp only
    rw [lds_rptr k (j + 1) (by omega), List.drop_eq_getElem_cons hj]
    rfl
theorem SlR.ldc {st : St} {sz n i : Nat} {u : TV} {xs : List TV} (h : SlR st sz u n xs) (hl : xs.length = n * sz) (hi : i < n) : ldCells st [] (.t (ixT sz u i)) 0 sz = some ((xs.drop (i * sz)).take sz) := by
  have hm : (i + 1) * sz ≤ n * sz := Nat.mul_le_mul_right _ hi
  rw [Nat.add_mul, Nat.one_mul] at hm
  rcases h with (⟨rfl, rfl, rfl⟩ | ⟨tip, rfl⟩) | ⟨b, off, cap, l, rfl, h2, h3, h4, h5, rfl⟩
  · omega
  · show ldCells st [] (.t (.rptr (xs.drop (i * sz)))) 0 sz = _
    rw [lds_rptr sz 0 (by rw [List.length_drop]; omega), List.drop_zero]
  · have hc : n * sz ≤ cap * sz := Nat.mul_le_mul_right _ h5
    have e1 : (((l.drop off).take (n * sz)).drop (i * sz)).take sz = (l.drop (off + i * sz)).take sz := by
      rw [List.drop_take, List.drop_drop, List.take_take, Nat.min_eq_left (by omega)]
    rw [e1]
    have e := lds_mid (B := l.drop (off + i * sz + sz)) (st := st) (b := b) ((l.drop (off + i * sz)).take sz) l 0 (off + i * sz) h3 (by
      have := List.take_append_drop sz (l.drop (off + i * sz))
      rw [List.drop_drop] at this
      rw [Nat.add_zero]; exact this.symm)
    rw [show ((l.drop (off + i * sz)).take sz).length = sz by simp; omega] at e
    exact e
theorem SlR.lenZ {st : St} {sz n : Nat} {u : TV} {xs : List TV} (h : SlR st sz u n xs) : TVF.lenZ sz u = n := by
  rcases h with (⟨rfl, rfl, rfl⟩ | ⟨tip, rfl⟩) | ⟨b, off, cap, l, rfl, h2, h3, h4, h5, rfl⟩
  · rfl
  · simp [TVF.lenZ]
  · simp [TVF.lenZ]
theorem SlR.lenS {st : St} {sz n : Nat} {u : TV} {xs : List TV} (h : SlR st sz u n xs) : TVF.lenS u = n := by
  rcases h with (⟨rfl, rfl, rfl⟩ | ⟨tip, rfl⟩) | ⟨b, off, cap, l, rfl, h2, h3, h4, h5, rfl⟩ <;> rfl
theorem SlR.isSl {st : St} {sz n : Nat} {u : TV} {xs : List TV} (h : SlR st sz u n xs) : TVF.isSl u = true := by
  rcases h with (⟨rfl, rfl, rfl⟩ | ⟨tip, rfl⟩) | ⟨b, off, cap, l, rfl, h2, h3, h4, h5, rfl⟩ <;> rfl
theorem OwnSl.nil (st : St) (sz : Nat) : OwnSl st sz .nilSlice 0 [] [] := .inl ⟨rfl, rfl, rfl, .inl rfl⟩
theorem decA13 {n1 : Int} {b1 b2 : Bool} {s2 : List UInt8} {n2 n3 n4 n5 n6 : Int} {s3 : List UInt8} {u1 u2 u3 : TV} {f : Fun [.int .i64, .bool, .bool, .str, .int .i64, .int .i64, .int .i64, .int .i64, .int .i64, .str, .tv, .tv, .tv] Prop} (h : f n1 b1 b2 s2 n2 n3 n4 n5 n6 s3 u1 u2 u3) :
    decA [.int .i64, .bool, .bool, .str, .int .i64, .int .i64, .int .i64, .int .i64, .int .i64, .str, .tv, .tv, .tv] (.agg [.int .i64 n1, .bool b1, .bool b2, .str s2, .int .i64 n2, .int .i64 n3, .int .i64 n4, .int .i64 n5, .int .i64 n6, .str s3, u1, u2, u3]) f := h
theorem one13 {n1 : Int} {b1 b2 : Bool} {s2 : List UInt8} {n2 n3 n4 n5 n6 : Int} {s3 : List UInt8} {u1 u2 u3 : TV} (h1 : oneT u1 = true) (h2 : oneT u2 = true) (h3 : oneT u3 = true) :
    List.all [.int .i64 n1, .bool b1, .bool b2, .str s2, .int .i64 n2, .int .i64 n3, .int .i64 n4, .int .i64 n5, .int .i64 n6, .str s3, u1, u2, u3] oneT = true := by
  simp only [List.all_cons, List.all_nil, h1, h2, h3, Bool.and_true]; rfl
/-- A copy of bytes. -/
theorem cloneB_ok {st : St} {u : TV} {l : List UInt8} (h : SlR st 1 u l.length (bytesT l)) (hl : l.length ≤ 10000000) {K : TV → St → Prop} (hk : ∀ v st' bs, OwnSl st' 1 v l.length (bytesT l) bs → StExt st st' → (∀ x, x ∈ bs → st.nb ≤ x) → bs.Nodup → K v st') :
    CallT PR fn_slices_Clone___byte_byte_ [u] [.one .tv] st K := by
  have hb1 : (bytesT l).length = l.length * 1 := by rw [length_bytesT]; omega
  have hone : List.all (bytesT l) oneT = true := by
    rw [List.all_eq_true]; intro x hx
    simp only [bytesT, List.mem_map] at hx
    obtain ⟨y, _, rfl⟩ := hx; rfl
  refine vc_slices_Clone___byte_byte_ _ st K (need_intro h.isSl ?_)
  cases hq : isNilT u with
  | true =>
    show K .nilSlice st
    have h0 : l = [] := by
      rcases h with (⟨rfl, h1, _⟩ | ⟨tip, rfl⟩) | ⟨b, off, cap, m, rfl, _⟩
      · exact List.eq_nil_of_length_eq_zero h1
      · cases hq
      · cases hq
    subst h0
    exact hk _ st [] (OwnSl.nil _ _) (StExt.refl _) (fun x hx => by cases hx) List.nodup_nil
  | false =>
    show optK (appSrc st 1 u) _
    refine optK_intro (h.src hb1) (need_intro hone ?_)
    cases hlen : l.length with
    | zero =>
      have h0 : l = [] := List.eq_nil_of_length_eq_zero hlen
      subst h0
      simp only [appB, Nat.beq_refl]
      exact ⟨by omega, hk _ st [] (.inl ⟨rfl, rfl, rfl, .inr rfl⟩) (StExt.refl _) (fun x hx => by cases hx) List.nodup_nil⟩
    | succ m =>
      refine appB_ownO (.inl ⟨rfl, rfl, rfl, .inr rfl⟩) (by omega) (by rw [hb1, hlen]) (by omega) fun u' st' bs' ho e hbs => ?_
      rw [Nat.zero_add, List.nil_append, ← hlen] at ho
      rcases hbs with ⟨_, h0⟩ | rfl
      · exact absurd rfl h0
      · exact hk _ st' _ ho (StX.ext (StExt.refl st) e (fun i hi => by cases hi)) (fun x hx => by rw [List.mem_singleton.1 hx]; exact Nat.le_refl _) (by simp)
end Go.TVF
end

section
namespace Go.TVF
open Go Go.Proofs
set_option linter.unusedVariables false
set_option linter.unusedSimpArgs false
mutual
theorem VlO.lt {st : St} : ∀ {v : Vl} {cs : List TV} {fp : List Nat}, VlO st v cs fp → ∀ x, x ∈ fp → x < st.nb
  | .mk s l f, cs, fp, h => by
    unfold VlO at h
    obtain ⟨ub, ul, uf, xl, xf, bb, bl, bf, fl, ff, h0, h1, h2, h3, h4, h5, rfl⟩ := h
    intro x hx
    simp only [List.mem_append] at hx
    rcases hx with hx | hx | hx | hx | hx
    · exact h1.lt x hx
    · exact h2.lt x hx
    · exact VsO.lt h3 x hx
    · exact h4.lt x hx
    · exact FsO.lt h5 x hx
theorem VsO.lt {st : St} : ∀ {l : List Vl} {cs : List TV} {fp : List Nat}, VsO st l cs fp → ∀ x, x ∈ fp → x < st.nb
  | [], cs, fp, h => by unfold VsO at h; rw [h.2]; intro x hx; cases hx
  | v :: r, cs, fp, h => by
    unfold VsO at h
    obtain ⟨a, b, p, q, _, rfl, h1, h2⟩ := h
    intro x hx
    rcases List.mem_append.1 hx with hx | hx
    · exact VlO.lt h1 x hx
    · exact VsO.lt h2 x hx
theorem FdO.lt {st : St} : ∀ {d : Fd} {cs : List TV} {fp : List Nat}, FdO st d cs fp → ∀ x, x ∈ fp → x < st.nb
  | .mk key v, cs, fp, h => by
    unfold FdO at h
    obtain ⟨c, _, h1⟩ := h
    exact VlO.lt h1
theorem FsO.lt {st : St} : ∀ {l : List Fd} {cs : List TV} {fp : List Nat}, FsO st l cs fp → ∀ x, x ∈ fp → x < st.nb
  | [], cs, fp, h => by unfold FsO at h; rw [h.2]; intro x hx; cases hx
  | d :: r, cs, fp, h => by
    unfold FsO at h
    obtain ⟨a, b, p, q, _, rfl, h1, h2⟩ := h
    intro x hx
    rcases List.mem_append.1 hx with hx | hx
    · exact FdO.lt h1 x hx
    · exact FsO.lt h2 x hx
end
theorem Vl.cnt_pos (v : Vl) : 1 ≤ v.cnt := by cases v; unfold Vl.cnt; omega
theorem vsCnt_get : ∀ {l : List Vl} {i : Nat} {v : Vl}, l[i]? = some v → v.cnt ≤ vsCnt l
  | [], i, v, h => by simp at h
  | w :: r, 0, v, h => by simp at h; subst h; unfold vsCnt; omega
  | w :: r, i + 1, v, h => by have := vsCnt_get (by simpa using h : r[i]? = some v); unfold vsCnt; omega
theorem fsCnt_get : ∀ {l : List Fd} {i : Nat} {d : Fd}, l[i]? = some d → d.cnt ≤ fsCnt l
  | [], i, v, h => by simp at h
  | w :: r, 0, v, h => by simp at h; subst h; unfold fsCnt; omega
  | w :: r, i + 1, v, h => by have := fsCnt_get (by simpa using h : r[i]? = some v); unfold fsCnt; omega
theorem nodup_app {A B : List Nat} (ha : A.Nodup) (hb : B.Nodup) (h : ∀ x, x ∈ A → x ∉ B) : (A ++ B).Nodup :=
  List.nodup_append.2 ⟨ha, hb, fun x hx y hy e => h x hx (e ▸ hy)⟩
/-- What is to be known of a row under way: its box, its elements' boxes. -/
structure Grow (b0 : Nat) (st : St) (bl fl : List Nat) : Prop where
  nd : (bl ++ fl).Nodup
  lo : ∀ x, x ∈ bl ++ fl → b0 ≤ x
theorem Grow.nil (b0 : Nat) (st : St) : Grow b0 st [] [] := ⟨List.nodup_nil, fun x hx => by cases hx⟩
/-- One element more. -/
theorem Grow.snoc {b0 m k : Nat} {st st' : St} {bl fl bs' fp : List Nat} (h : Grow b0 st bl fl) (hm : ∀ x, x ∈ bl ++ fl → x < m) (h0 : b0 ≤ m) (hk : ∀ x, x ∈ fp → m ≤ x ∧ x < k) (nd : fp.Nodup) (hmk : m ≤ k) (hb : (bs' = bl ∧ bl ≠ []) ∨ bs' = [k]) : Grow b0 st' bs' (fl ++ fp) := by
  have ndf := (List.nodup_append.1 h.nd)
  have hfl : ∀ x, x ∈ fl → x < m := fun x hx => hm x (List.mem_append_right _ hx)
  have nfp : (fl ++ fp).Nodup := nodup_app ndf.2.1 nd fun x hx hx' => by have := hfl x hx; have := (hk x hx').1; omega
  rcases hb with ⟨rfl, _⟩ | rfl
  · refine ⟨nodup_app ndf.1 nfp fun x hx hx' => ?_, fun x hx => ?_⟩
    · rcases List.mem_append.1 hx' with hx' | hx'
      · exact ndf.2.2 x hx x hx' rfl
      · have := hm x (List.mem_append_left _ hx); have := (hk x hx').1; omega
    · rcases List.mem_append.1 hx with hx | hx
      · exact h.lo x (List.mem_append_left _ hx)
      · rcases List.mem_append.1 hx with hx | hx
        · exact h.lo x (List.mem_append_right _ hx)
        · have := (hk x hx).1; omega
  · refine ⟨nodup_app (by simp) nfp fun x hx hx' => ?_, fun x hx => ?_⟩
    · rcases List.mem_singleton.1 hx with rfl
      rcases List.mem_append.1 hx' with hx' | hx'
      · have := hfl x hx'; omega
      · have := (hk x hx').2; omega
    · rcases List.mem_append.1 hx with hx | hx
      · rcases List.mem_singleton.1 hx with rfl; omega
      · rcases List.mem_append.1 hx with hx | hx
        · exact h.lo x (List.mem_append_right _ hx)
        · have := (hk x hx).1; omega
theorem one14 {k : List UInt8} {n1 : Int} {b1 b2 : Bool} {s2 : List UInt8} {n2 n3 n4 n5 n6 : Int} {s3 : List UInt8} {u1 u2 u3 : TV} (h1 : oneT u1 = true) (h2 : oneT u2 = true) (h3 : oneT u3 = true) :
    List.all [.str k, .int .i64 n1, .bool b1, .bool b2, .str s2, .int .i64 n2, .int .i64 n3, .int .i64 n4, .int .i64 n5, .int .i64 n6, .str s3, u1, u2, u3] oneT = true := by
  simp only [List.all_cons, List.all_nil, h1, h2, h3, Bool.and_true]; rfl
def cellsV (s : Sc) (ub ul uf : TV) : List TV := [.int .i64 s.kind, .bool s.b, .bool s.neg, .str s.dg, .int .i64 s.ex, .int .i64 s.tk, .int .i64 s.td, .int .i64 s.tn, .int .i64 s.tz, .str s.text, ub, ul, uf]
theorem copied_ok : ∀ (N : Nat) (v : Vl), v.sz ≤ N → N ≤ 2000000 → ∀ {st : St} {cs : List TV} {L : Int} {K : Int → Bool → Bool → List UInt8 → Int → Int → Int → Int → Int → List UInt8 → TV → TV → TV → St → Prop}, VlR st v cs → (v.cnt : Int) ≤ L → L ≤ 100000000 →
    (∀ ub ul uf st' fp, VlO st' v (cellsV v.sc ub ul uf) fp → oneT ub = true → oneT ul = true → oneT uf = true → fp.Nodup → (∀ x, x ∈ fp → st.nb ≤ x) → StExt st st' → K v.sc.kind v.sc.b v.sc.neg v.sc.dg v.sc.ex v.sc.tk v.sc.td v.sc.tn v.sc.tz v.sc.text ub ul uf st') →
    CallT PR fn_value_copied [.agg cs, .int .i64 L] [.agg [.int .i64, .bool, .bool, .str, .int .i64, .int .i64, .int .i64, .int .i64, .int .i64, .str, .tv, .tv, .tv]] st K := by
  intro N
  induction N with
  | zero => intro v h; have := v.sz_pos; omega
  | succ N ih =>
  intro v hN hN2 st cs L K h hL hL2 hk
  cases v with
  | mk s l f =>
  have hsz : (Vl.mk s l f).sz = 1 + s.bytes.length + s.text.length + s.dg.length + vsSz l + fsSz f := by unfold Vl.sz; rfl
  have hct : (Vl.mk s l f).cnt = 1 + vsCnt l + fsCnt f := by unfold Vl.cnt; rfl
  have hll := vsSz_len l
  have hfl := fsSz_len f
  unfold VlR at h
  obtain ⟨ub, ul, uf, xl, xf, rfl, h1, h2, h3, h4, h5⟩ := h
  have hxl := h3.len
  have hxf := h5.len
  refine vc_value_copied _ _ _ _ _ _ _ _ _ _ _ _ _ L st K (cloneB_ok h1 (by omega) fun v1 st1 bb ho e1 lo1 nd1 => need_intro (by rw [List.all_cons, ho.rd.one]; rfl) (BIf_intro (fun g => absurd g (by omega)) fun _ => need_intro h2.isSl ?_))
  refine ⟨fun l1 n1 left u n2 a1 a2 a3 a4 a5 a6 a7 a8 a9 a10 a11 a12 a13 _ _ _ _ _ _ _ _ _ _ _ _ _ st' => L = left ∧ ul = u ∧ (l.length : Int) = n2 ∧ s.kind = a1 ∧ s.b = a2 ∧ s.neg = a3 ∧ s.dg = a4 ∧ s.ex = a5 ∧ s.tk = a6 ∧ s.td = a7 ∧ s.tn = a8 ∧ s.tz = a9 ∧ s.text = a10 ∧ v1 = a11 ∧ uf = a13 ∧
      ∃ (k : Nat) (ys : List TV) (bl fp : List Nat), n1 = (k : Int) ∧ k ≤ l.length ∧ OwnSl st' 13 l1 k ys bl ∧ VsO st' (l.take k) ys fp ∧ Grow st1.nb st' bl fp ∧ StExt st1 st',
    fun _ n1 _ _ _ _ _ _ _ _ _ _ _ _ _ _ _ _ _ _ _ _ _ _ _ _ _ _ _ _ _ _ => (l.length - n1).toNat, ⟨rfl, rfl, by rw [h2.lenS], rfl, rfl, rfl, rfl, rfl, rfl, rfl, rfl, rfl, rfl, rfl, rfl, 0, [], [], [], rfl, Nat.zero_le _, OwnSl.nil _ _, by simp only [List.take_zero]; unfold VsO; exact ⟨rfl, rfl⟩, Grow.nil _ _, StExt.refl _⟩, ?_⟩
  rintro l1 _ _ _ _ _ _ _ _ _ _ _ _ _ _ _ v3 _ _ _ _ _ _ _ _ _ _ _ _ _ _ st2 ⟨rfl, rfl, rfl, rfl, rfl, rfl, rfl, rfl, rfl, rfl, rfl, rfl, rfl, rfl, rfl, k, ys, bl, fp, rfl, hkl, hol, hvs, hgr, e2⟩
  have e12 := e1.trans e2
  refine BIf_intro (fun g => ?_) fun g => ?_
  · have hkl2 : k < l.length := by omega
    have h2' := h2.keep e12.keeps
    have h3' := h3.keep e12.keeps
    have gw : l[k]? = some l[k] := List.getElem?_eq_getElem hkl2
    obtain ⟨cw, hw, hcw, hcl⟩ := h3'.get gw
    have hwsz := vsSz_get gw
    have hwct := vsCnt_get gw
    have hwc1 := (l[k]).cnt_pos
    generalize l[k] = w at *
    have hld : (ldCells st2 [] (.t (ixT 13 ul (Int.toNat (k : Int)))) 0 13).map TV.agg = some (.agg cw) := by
      rw [Int.toNat_natCast, h2'.ldc hxl hkl2, hcw]; rfl
    rw [h2'.lenZ]
    have hw0 := hw
    cases w with
    | mk s' l' f' =>
    unfold VlR at hw0
    obtain ⟨ub', ul', uf', xl', xf', rfl, w1, w2, w3, w4, w5⟩ := hw0
    refine ⟨⟨by omega, by omega⟩, optK_intro hld (decA13 (need_intro (one13 w1.one w2.one w4.one) ?_))⟩
    rw [wrap64 _ (by omega) (by omega)]
    refine ih _ (by omega) (by omega) hw (by omega) (by omega) fun ub2 ul2 uf2 st3 fp2 ho2 o1 o2 o3 nd2 lo2 e3 => need_intro (one13 o1 o2 o3) ?_
    have hol3 := hol.frame (StX.of (S := fun _ => False) e3) (fun _ _ h => h)
    have hvs3 := hvs.frame (StX.of (S := fun _ => False) e3) (fun _ _ h => h)
    refine appB_ownO hol3 (by omega) rfl (by omega) fun u' st4 bs' ho4 e4 hbs => ?_
    have hm : ∀ x, x ∈ bl ++ fp → x < st2.nb := fun x hx => (List.mem_append.1 hx).elim (hol.lt x) (hvs.lt x)
    have hlt2 := ho2.lt
    have hnd := List.nodup_append.1 hgr.nd
    have e14 : StExt st1 st4 := StX.ext (e2.trans e3) e4 fun i hi => hgr.lo i (List.mem_append_left _ hi)
    have hvs4 : VsO st4 (l.take (k + 1)) (ys ++ cellsV s' ub2 ul2 uf2) (fp ++ fp2) := by
      have t1 : l.take (k + 1) = l.take k ++ [.mk s' l' f'] := by
        have := (List.getElem?_eq_some_iff.1 gw)
        obtain ⟨q1, q2⟩ := this
        rw [List.take_succ_eq_append_getElem q1, q2]
      rw [t1]
      exact VsO.snoc (hvs3.frame e4 fun x hx hx' => hnd.2.2 x hx' x hx rfl) (ho2.frame e4 fun x hx hx' => by have := lo2 x hx; have := hol.lt x hx'; omega)
    exact ⟨⟨rfl, rfl, rfl, rfl, rfl, rfl, rfl, rfl, rfl, rfl, rfl, rfl, rfl, rfl, rfl, k + 1, _, bs', fp ++ fp2, by rw [wrap64 _ (by omega) (by omega)]; omega, by omega, ho4, hvs4, hgr.snoc hm e2.nb (fun x hx => ⟨lo2 x hx, hlt2 x hx⟩) nd2 e3.nb hbs, e14⟩, by dsimp only; rw [wrap64 _ (by omega) (by omega)]; omega⟩
  · have hk : k = l.length := by omega
    subst hk
    rw [List.take_length] at hvs
    have hm : ∀ x, x ∈ bl ++ fp → x < st2.nb := fun x hx => (List.mem_append.1 hx).elim (hol.lt x) (hvs.lt x)
    refine need_intro h4.isSl ?_
    refine ⟨fun f1 n1 left l2 u n2 a1 a2 a3 a4 a5 a6 a7 a8 a9 a10 a11 a12 a13 _ _ _ _ _ _ _ _ _ _ _ _ _ st' => L = left ∧ l1 = l2 ∧ uf = u ∧ (f.length : Int) = n2 ∧ s.kind = a1 ∧ s.b = a2 ∧ s.neg = a3 ∧ s.dg = a4 ∧ s.ex = a5 ∧ s.tk = a6 ∧ s.td = a7 ∧ s.tn = a8 ∧ s.tz = a9 ∧ s.text = a10 ∧ v1 = a11 ∧
        ∃ (k : Nat) (zs : List TV) (bf ff : List Nat), n1 = (k : Int) ∧ k ≤ f.length ∧ OwnSl st' 14 f1 k zs bf ∧ FsO st' (f.take k) zs ff ∧ Grow st2.nb st' bf ff ∧ StExt st2 st',
      fun _ n1 _ _ _ _ _ _ _ _ _ _ _ _ _ _ _ _ _ _ _ _ _ _ _ _ _ _ _ _ _ _ _ => (f.length - n1).toNat, ⟨rfl, rfl, rfl, by rw [h4.lenS], rfl, rfl, rfl, rfl, rfl, rfl, rfl, rfl, rfl, rfl, rfl, 0, [], [], [], rfl, Nat.zero_le _, OwnSl.nil _ _, by simp only [List.take_zero]; unfold FsO; exact ⟨rfl, rfl⟩, Grow.nil _ _, StExt.refl _⟩, ?_⟩
    rintro f1 _ _ _ _ _ _ _ _ _ _ _ _ _ _ _ _ _ _ _ _ _ _ _ _ _ _ _ _ _ _ _ st5 ⟨rfl, rfl, rfl, rfl, rfl, rfl, rfl, rfl, rfl, rfl, rfl, rfl, rfl, rfl, rfl, k, zs, bf, ff, rfl, hkf, hof, hfs, hgf, e5⟩
    have e15 := e12.trans e5
    refine BIf_intro (fun g => ?_) fun g => ?_
    · have hkf2 : k < f.length := by omega
      have h4' := h4.keep e15.keeps
      have h5' := h5.keep e15.keeps
      have gw : f[k]? = some f[k] := List.getElem?_eq_getElem hkf2
      obtain ⟨cw, hw, hcw, hcl⟩ := h5'.get gw
      have hwsz := fsSz_get gw
      have hwct := fsCnt_get gw
      generalize f[k] = w at *
      have hld : (ldCells st5 [] (.t (ixT 14 uf (Int.toNat (k : Int)))) 0 14).map TV.agg = some (.agg cw) := by
        rw [Int.toNat_natCast, h4'.ldc hxf hkf2, hcw]; rfl
      rw [h4'.lenZ]
      cases w with
      | mk key w =>
      unfold FdR at hw
      obtain ⟨cw2, rfl, hw⟩ := hw
      have hwk : (Fd.mk key w).sz = key.length + w.sz := by unfold Fd.sz; rfl
      have hwk2 : (Fd.mk key w).cnt = w.cnt := by unfold Fd.cnt; rfl
      have hwc1 := w.cnt_pos
      have hw0 := hw
      cases w with
      | mk s' l' f' =>
      unfold VlR at hw0
      obtain ⟨ub', ul', uf', xl', xf', rfl, w1, w2, w3, w4, w5⟩ := hw0
      refine ⟨⟨by omega, by omega⟩, optK_intro hld (decA14 (need_intro (one14 w1.one w2.one w4.one) ?_))⟩
      rw [wrap64 _ (by omega) (by omega)]
      refine ih _ (by omega) (by omega) hw (by omega) (by omega) fun ub2 ul2 uf2 st6 fp2 ho2 o1 o2 o3 nd2 lo2 e6 => need_intro (one14 o1 o2 o3) ?_
      have hof6 := hof.frame (StX.of (S := fun _ => False) e6) (fun _ _ h => h)
      have hfs6 := hfs.frame (StX.of (S := fun _ => False) e6) (fun _ _ h => h)
      refine appB_ownO hof6 (by omega) rfl (by omega) fun u' st7 bs' ho7 e7 hbs => ?_
      have hm5 : ∀ x, x ∈ bf ++ ff → x < st5.nb := fun x hx => (List.mem_append.1 hx).elim (hof.lt x) (hfs.lt x)
      have hlt2 := ho2.lt
      have hnd := List.nodup_append.1 hgf.nd
      have e27 : StExt st2 st7 := StX.ext (e5.trans e6) e7 fun i hi => hgf.lo i (List.mem_append_left _ hi)
      have hd7 : FdO st7 (.mk key (.mk s' l' f')) (.str key :: cellsV s' ub2 ul2 uf2) fp2 := by
        unfold FdO
        exact ⟨_, rfl, ho2.frame e7 fun x hx hx' => by have := lo2 x hx; have := hof.lt x hx'; omega⟩
      have hfs7 : FsO st7 (f.take (k + 1)) (zs ++ .str key :: cellsV s' ub2 ul2 uf2) (ff ++ fp2) := by
        have t1 : f.take (k + 1) = f.take k ++ [.mk key (.mk s' l' f')] := by
          obtain ⟨q1, q2⟩ := List.getElem?_eq_some_iff.1 gw
          rw [List.take_succ_eq_append_getElem q1, q2]
        rw [t1]
        exact FsO.snoc (hfs6.frame e7 fun x hx hx' => hnd.2.2 x hx' x hx rfl) hd7
      exact ⟨⟨rfl, rfl, rfl, rfl, rfl, rfl, rfl, rfl, rfl, rfl, rfl, rfl, rfl, rfl, rfl, k + 1, _, bs', ff ++ fp2, by rw [wrap64 _ (by omega) (by omega)]; omega, by omega, ho7, hfs7, hgf.snoc hm5 e5.nb (fun x hx => ⟨lo2 x hx, hlt2 x hx⟩) nd2 e6.nb hbs, e27⟩, by dsimp only; rw [wrap64 _ (by omega) (by omega)]; omega⟩
    · have hk2 : k = f.length := by omega
      subst hk2
      rw [List.take_length] at hfs
      have ho5 := ho.frame (StX.of (S := fun _ => False) (e2.trans e5)) (fun _ _ h => h)
      have hol5 := hol.frame (StX.of (S := fun _ => False) e5) (fun _ _ h => h)
      have hvs5 := hvs.frame (StX.of (S := fun _ => False) e5) (fun _ _ h => h)
      have hb1 := ho.lt
      have e1n := e1.nb
      have e2n := e2.nb
      refine need_intro (by rw [List.all_cons, hol.rd.one]; rfl) (need_intro (by rw [List.all_cons, hof.rd.one]; rfl) (need_intro (one13 ho.rd.one hol.rd.one hof.rd.one) ?_))
      refine hk v1 l1 f1 st5 (bb ++ (bl ++ (fp ++ (bf ++ ff)))) (by unfold VlO; exact ⟨v1, l1, f1, ys, zs, bb, bl, bf, fp, ff, rfl, ho5, hol5, hvs5, hof, hfs, rfl⟩) ho.rd.one hol.rd.one hof.rd.one ?_ ?_ e15
      · have e : bl ++ (fp ++ (bf ++ ff)) = (bl ++ fp) ++ (bf ++ ff) := by simp
        rw [e]
        refine nodup_app nd1 (nodup_app hgr.nd hgf.nd fun x hx hx' => ?_) fun x hx hx' => ?_
        · have := hm x hx; have := hgf.lo x hx'; omega
        · have := hb1 x hx
          rcases List.mem_append.1 hx' with hx' | hx'
          · have := hgr.lo x hx'; omega
          · have := hgf.lo x hx'; omega
      · intro x hx
        have e : bb ++ (bl ++ (fp ++ (bf ++ ff))) = bb ++ ((bl ++ fp) ++ (bf ++ ff)) := by simp
        rw [e] at hx
        rcases List.mem_append.1 hx with hx | hx
        · exact lo1 x hx
        · rcases List.mem_append.1 hx with hx | hx
          · have := hgr.lo x hx; omega
          · have := hgf.lo x hx; omega
end Go.TVF
end

section
namespace Go.TVF
open Go Go.Proofs
set_option linter.unusedVariables false
set_option linter.unusedSimpArgs false
theorem less_eq : ∀ x y : List UInt8, Op.bytesLess x y = false → Op.bytesLess y x = false → x = y
  | [], [], _, _ => rfl
  | [], b :: y, h, _ => by cases h
  | a :: x, [], _, h => by cases h
  | a :: x, b :: y, h1, h2 => by
    simp only [Op.bytesLess, Bool.or_eq_false_iff, Bool.and_eq_false_iff, decide_eq_false_iff_not, beq_eq_false_iff_ne, UInt8.not_lt] at h1 h2
    have hab : a = b := UInt8.le_antisymm h2.1 h1.1
    subst hab
    rw [less_eq x y (h1.2.resolve_left fun h => h rfl) (h2.2.resolve_left fun h => h rfl)]
/-- A field put in its place: behind those whose keys are not greater. -/
def insF (d : Fd) : List Fd → List Fd
  | [] => [d]
  | x :: r => match Op.bytesLess d.key x.key with
    | true => d :: x :: r
    | false => x :: insF d r
def sortFd (f : List Fd) : List Fd := f.foldl (fun out d => insF d out) []
theorem insF_perm (d : Fd) : ∀ l : List Fd, (insF d l).Perm (d :: l)
  | [] => List.Perm.refl _
  | x :: r => by
    unfold insF
    split
    · exact List.Perm.refl _
    · exact ((insF_perm d r).cons x).trans (List.Perm.swap _ _ _)
theorem insF_mem {d x : Fd} {l : List Fd} (h : x ∈ insF d l) : x = d ∨ x ∈ l := by
  have := (insF_perm d l).mem_iff.1 h
  exact List.mem_cons.1 this
theorem insF_srt (d : Fd) : ∀ l : List Fd, SrtF l → SrtF (insF d l)
  | [], _ => List.pairwise_singleton _ _
  | x :: r, h => by
    obtain ⟨h1, h2⟩ := List.pairwise_cons.1 h
    unfold insF
    split
    · rename_i hl
      refine List.pairwise_cons.2 ⟨fun y hy => ?_, h⟩
      have hx := less_asymm _ _ hl
      rcases List.mem_cons.1 hy with rfl | hy
      · exact hx
      · exact less_trans_neg _ _ _ hx (h1 y hy)
    · rename_i hl
      refine List.pairwise_cons.2 ⟨fun y hy => ?_, insF_srt d r h2⟩
      rcases insF_mem hy with rfl | hy
      · exact hl
      · exact h1 y hy
theorem foldIns (f : List Fd) : ∀ out : List Fd, SrtF out → SrtF (f.foldl (fun out d => insF d out) out) ∧ (f.foldl (fun out d => insF d out) out).Perm (out ++ f) := by
  induction f with
  | nil => intro out h; exact ⟨h, by simp⟩
  | cons d f ih =>
    intro out h
    obtain ⟨h1, h2⟩ := ih (insF d out) (insF_srt d out h)
    refine ⟨h1, h2.trans ?_⟩
    refine ((insF_perm d out).append_right f).trans ?_
    simp only [List.cons_append]
    exact (List.perm_middle).symm
theorem sortFd_srt (f : List Fd) : SrtF (sortFd f) := (foldIns f [] List.Pairwise.nil).1
theorem sortFd_perm (f : List Fd) : (sortFd f).Perm f := by
  have := (foldIns f [] List.Pairwise.nil).2
  rw [List.nil_append] at this
  exact this
/-- The keys, each once. -/
def KeysNd (f : List Fd) : Prop := (f.map Fd.key).Nodup
theorem key_inj {f : List Fd} (h : KeysNd f) {x y : Fd} (hx : x ∈ f) (hy : y ∈ f) (e : x.key = y.key) : x = y := by
  induction f with
  | nil => cases hx
  | cons d f ih =>
    unfold KeysNd at h
    rw [List.map_cons, List.nodup_cons] at h
    rcases List.mem_cons.1 hx with h1 | h1 <;> rcases List.mem_cons.1 hy with h2 | h2
    · rw [h1, h2]
    · exact absurd (by rw [← h1, e]; exact List.mem_map_of_mem h2) h.1
    · exact absurd (by rw [← h2, ← e]; exact List.mem_map_of_mem h1) h.1
    · exact ih h.2 h1 h2
/-- There is one sorted order where no key stands twice. -/
theorem srt_uniq : ∀ {l m : List Fd}, KeysNd l → SrtF l → SrtF m → l.Perm m → l = m
  | [], m, _, _, _, p => (List.Perm.nil_eq p)
  | x :: l, [], _, _, _, p => by have := p.length_eq; simp at this
  | x :: l, y :: m, hk, hl, hm, p => by
    obtain ⟨l1, l2⟩ := List.pairwise_cons.1 hl
    obtain ⟨m1, m2⟩ := List.pairwise_cons.1 hm
    have hxy : x = y := by
      have hy : y ∈ x :: l := p.mem_iff.2 (.head _)
      have hx : x ∈ y :: m := p.mem_iff.1 (.head _)
      refine key_inj hk (.head _) hy (less_eq _ _ ?_ ?_)
      · rcases List.mem_cons.1 hx with rfl | hx
        · exact less_irrefl _
        · exact m1 x hx
      · rcases List.mem_cons.1 hy with rfl | hy
        · exact less_irrefl _
        · exact l1 y hy
    subst hxy
    unfold KeysNd at hk
    rw [List.map_cons, List.nodup_cons] at hk
    rw [srt_uniq hk.2 l2 m2 (List.Perm.cons_inv p)]
theorem sorted_eq {f f' : List Fd} (hk : KeysNd f) (p : f'.Perm f) (s : SrtF f') : f' = sortFd f :=
  srt_uniq (((p.map Fd.key).nodup_iff).2 hk) s (sortFd_srt f) (p.trans (sortFd_perm f).symm)
mutual
/-- The value whose fields are sorted, in it too. -/
def sortV : Vl → Vl
  | .mk s l f => .mk s (sortVs l) (sortFd (sortFs f))
def sortVs : List Vl → List Vl
  | [] => []
  | v :: r => sortV v :: sortVs r
def sortD : Fd → Fd
  | .mk k v => .mk k (sortV v)
def sortFs : List Fd → List Fd
  | [] => []
  | d :: r => sortD d :: sortFs r
end
theorem sortD_key (d : Fd) : (sortD d).key = d.key := by cases d; rfl
theorem sortFs_map : ∀ f : List Fd, sortFs f = f.map sortD
  | [] => by unfold sortFs; rfl
  | d :: r => by unfold sortFs; rw [sortFs_map r]; rfl
theorem sortVs_map : ∀ l : List Vl, sortVs l = l.map sortV
  | [] => by unfold sortVs; rfl
  | d :: r => by unfold sortVs; rw [sortVs_map r]; rfl
theorem insF_map {g : Fd → Fd} (hg : ∀ d, (g d).key = d.key) (d : Fd) : ∀ l : List Fd, insF (g d) (l.map g) = (insF d l).map g
  | [] => rfl
  | x :: r => by
    rw [List.map_cons]
    unfold insF
    rw [hg, hg]
    cases Op.bytesLess d.key x.key with
    | true => rfl
    | false => simp only [List.map_cons]; rw [insF_map hg d r]
theorem sortFd_map {g : Fd → Fd} (hg : ∀ d, (g d).key = d.key) (f : List Fd) : sortFd (f.map g) = (sortFd f).map g := by
  have key : ∀ (f out : List Fd), (f.map g).foldl (fun out d => insF d out) (out.map g) = (f.foldl (fun out d => insF d out) out).map g := by
    intro f
    induction f with
    | nil => intro out; rfl
    | cons d f ih => intro out; simp only [List.map_cons, List.foldl_cons]; rw [insF_map hg, ih]
  exact key f []
end Go.TVF
end

section
namespace Go.TVF
open Go Go.Proofs
set_option linter.unusedVariables false
set_option linter.unusedSimpArgs false
theorem All2.map_left {α β γ : Type} {R : α → γ → Prop} {S : β → γ → Prop} {g : α → β} (h : ∀ a c, R a c → S (g a) c) {l : List α} {m : List γ} (hl : All2 R l m) : All2 S (l.map g) m := by
  induction hl with
  | nil => exact .nil
  | cons r _ ih => exact .cons (h _ _ r) ih
section
variable {st : St}
/-- A sorted copy: a row of its own, its elements those of the fields; what is known of each goes with it. -/
theorem sorted_okG {α : Type} {g : α → Fd} {R : α → List TV → Prop} {la : List α} {cks0 : List (List TV)} (hR : ∀ a c, R a c → FdR st (g a) c) (hall0 : All2 R la cks0) {s : Sc} {ub ul uf : TV} {f : List Fd} {xf : List TV} (hfe : f = la.map g) (hxe : xf = cks0.flatten) (hu : SlR st 14 uf f.length xf) (hn : f.length ≤ 2000000) {K : TV → St → Prop}
    (hk : ∀ v st' (la' : List α) (cks : List (List TV)) bs, la'.Perm la → SrtF (la'.map g) → StExt st st' → OwnSl st' 14 v la'.length cks.flatten bs → All2 R la' cks → bs.Nodup → (∀ x, x ∈ bs → st.nb ≤ x) → K v st') :
    CallT PR fn_value_sorted [.agg [.int .i64 s.kind, .bool s.b, .bool s.neg, .str s.dg, .int .i64 s.ex, .int .i64 s.tk, .int .i64 s.td, .int .i64 s.tn, .int .i64 s.tz, .str s.text, ub, ul, uf]] [.one .tv] st K := by
  have hall1 : All2 (FdR st) f cks0 := hfe ▸ All2.map_left hR hall0
  have hf : FsR st f xf := hxe ▸ FsR.of_chunks hall1
  have hl := hf.len
  have hlal : la.length = f.length := by rw [hfe, List.length_map]
  have hsl : isSl uf = true := by rcases hu with (⟨rfl, _⟩ | ⟨tip, rfl⟩) | ⟨b, off, cap, l, rfl, _⟩ <;> rfl
  refine vc_value_sorted _ _ _ _ _ _ _ _ _ _ _ _ _ st K (vc_slices_Clone___api_Field_api_Field_ _ st _ (need_intro hsl ?_))
  have empty : ∀ v, f = [] → isSl v = true → lenS v = 0 → (v = .nilSlice ∨ v = .list 14 .full 0 []) → CallT PR fn_slices_SortStableFunc___api_Field_api_Field_ [v, .func fn_value_sorted_1 []] [] st fun st2 => K v st2 := by
    intro v h0 h1 h2 h3
    refine vc_slices_SortStableFunc___api_Field_api_Field_ _ _ st _ (need_intro h1 ?_)
    rw [h2]
    refine stable_empty ?_
    have hla : la = [] := List.eq_nil_of_length_eq_zero (by rw [hlal, h0]; rfl)
    refine hk v st [] [] [] (by rw [hla]) List.Pairwise.nil (StExt.refl _) (.inl ⟨rfl, rfl, rfl, ?_⟩) .nil List.nodup_nil (fun x hx => by cases hx)
    exact h3
  have hb : ∀ (X Y : Prop), (isNilT uf = true → X) → (isNilT uf = false → Y) → BIf (isNilT uf) X Y := by
    intro X Y h1 h2
    cases hq : isNilT uf with
    | true => exact h1 hq
    | false => exact h2 hq
  refine hb _ _ (fun h => ?_) fun h => ?_
  · have h0 : f = [] := by
      rcases hu with (⟨rfl, h1, _⟩ | ⟨tip, rfl⟩) | ⟨b, off, cap, l, rfl, _⟩
      · exact List.eq_nil_of_length_eq_zero h1
      · cases h
      · cases h
    exact empty _ h0 rfl rfl (.inl rfl)
  · refine optK_intro (hu.src hl) (need_intro hf.all_one ?_)
    simp only [appB, Nat.beq_refl]
    refine ⟨by omega, ?_⟩
    cases hlen : f.length with
    | zero =>
      have h0 : f = [] := List.eq_nil_of_length_eq_zero hlen
      exact empty _ h0 rfl rfl (.inr rfl)
    | succ m =>
      intro cap hcap
      subst hxe
      obtain ⟨cks, hcke⟩ : ∃ cks, cks = cks0 := ⟨_, rfl⟩
      subst hcke
      have hall := hall1
      have hcl := hall.len
      obtain ⟨st1, hst1⟩ : ∃ st1, st1 = st.push (.cells ([] ++ cks.flatten ++ junks ((cap - (0 + (m + 1))) * 14))) (some tyField) := ⟨_, rfl⟩
      rw [← hst1]
      have e1 : StExt st st1 := hst1 ▸ (StExt.refl st).push _ _
      have hbx : BxF st1 st.nb (0 + (m + 1)) cap cks := by
        refine ⟨by rw [hst1]; simp [St.push], by omega, by omega, hall.cks, junks ((cap - (0 + (m + 1))) * 14), by rw [hst1]; simp [St.push], ?_⟩
        rw [List.length_append, hl]
        simp only [junks, List.length_replicate]
        rw [← Nat.add_mul]; congr 1; omega
      refine sortStable_ok sorted1_cmp hbx (by omega) fun st2 W pw sw hb2 e2 => ?_
      have e12 : StExt st st2 := StX.ext e1 e2 (fun i hi => by rw [hi]; exact Nat.le_refl _)
      obtain ⟨la', pla, hall'⟩ := hall0.perm pw
      have hlal' : la'.length = 0 + (m + 1) := by rw [pla.length_eq, hlal, hlen]; omega
      obtain ⟨tail, hbox, hbl⟩ := hb2.box
      have hWl : W.flatten.length = la'.length * 14 := by rw [flat_len hb2.ck, hb2.len, hlal']
      have hallF : All2 (FdR st) (la'.map g) W := All2.map_left hR hall'
      rw [← hlal']
      exact hk _ st2 la' W [st.nb] pla (srtF_of hallF sw) e12 (.inr ⟨st.nb, cap, tail, rfl, hb2.lt, hbox, hbl, hWl, by rw [hlal']; exact hb2.le, rfl⟩) hall' (by simp) (fun x hx => by rw [List.mem_singleton.1 hx]; exact Nat.le_refl _)
end
end Go.TVF
end

section
namespace Go.TVF
open Go Go.Proofs
set_option linter.unusedVariables false
set_option linter.unusedSimpArgs false
def RV (st : St) (a : Vl × List Nat) (c : List TV) : Prop := VlO st a.1 c a.2
def RD (st : St) (a : Fd × List Nat) (c : List TV) : Prop := FdO st a.1 c a.2
theorem VsO.all2 {st : St} : ∀ {l : List Vl} {xs : List TV} {fp : List Nat}, VsO st l xs fp → ∃ (la : List (Vl × List Nat)) (cks : List (List TV)), la.map Prod.fst = l ∧ cks.flatten = xs ∧ (la.map Prod.snd).flatten = fp ∧ All2 (RV st) la cks
  | [], xs, fp, h => by unfold VsO at h; obtain ⟨rfl, rfl⟩ := h; exact ⟨[], [], rfl, rfl, rfl, .nil⟩
  | v :: r, xs, fp, h => by
    unfold VsO at h
    obtain ⟨a, b, p, q, rfl, rfl, h1, h2⟩ := h
    obtain ⟨la, cks, rfl, rfl, rfl, h3⟩ := VsO.all2 h2
    exact ⟨(v, p) :: la, a :: cks, rfl, rfl, rfl, .cons h1 h3⟩
theorem VsO.of_all2 {st : St} {la : List (Vl × List Nat)} {cks : List (List TV)} (h : All2 (RV st) la cks) : VsO st (la.map Prod.fst) cks.flatten (la.map Prod.snd).flatten := by
  induction h with
  | nil => unfold VsO; exact ⟨rfl, rfl⟩
  | cons r _ ih => simp only [List.map_cons, List.flatten_cons]; unfold VsO; exact ⟨_, _, _, _, rfl, rfl, r, ih⟩
theorem FsO.all2 {st : St} : ∀ {l : List Fd} {xs : List TV} {fp : List Nat}, FsO st l xs fp → ∃ (la : List (Fd × List Nat)) (cks : List (List TV)), la.map Prod.fst = l ∧ cks.flatten = xs ∧ (la.map Prod.snd).flatten = fp ∧ All2 (RD st) la cks
  | [], xs, fp, h => by unfold FsO at h; obtain ⟨rfl, rfl⟩ := h; exact ⟨[], [], rfl, rfl, rfl, .nil⟩
  | v :: r, xs, fp, h => by
    unfold FsO at h
    obtain ⟨a, b, p, q, rfl, rfl, h1, h2⟩ := h
    obtain ⟨la, cks, rfl, rfl, rfl, h3⟩ := FsO.all2 h2
    exact ⟨(v, p) :: la, a :: cks, rfl, rfl, rfl, .cons h1 h3⟩
theorem FsO.of_all2 {st : St} {la : List (Fd × List Nat)} {cks : List (List TV)} (h : All2 (RD st) la cks) : FsO st (la.map Prod.fst) cks.flatten (la.map Prod.snd).flatten := by
  induction h with
  | nil => unfold FsO; exact ⟨rfl, rfl⟩
  | cons r _ ih => simp only [List.map_cons, List.flatten_cons]; unfold FsO; exact ⟨_, _, _, _, rfl, rfl, r, ih⟩
theorem All2.snoc {α β : Type} {R : α → β → Prop} {a : α} {b : β} {l : List α} {m : List β} (h : All2 R l m) (r : R a b) : All2 R (l ++ [a]) (m ++ [b]) := by
  induction h with
  | nil => exact .cons r .nil
  | cons r' _ ih => exact .cons r' ih
theorem All2.frameV {S : Nat → Prop} {st st' : St} (e : StX S st st') {la : List (Vl × List Nat)} {cks : List (List TV)} (h : All2 (RV st) la cks) (hs : ∀ x, x ∈ (la.map Prod.snd).flatten → ¬ S x) : All2 (RV st') la cks := by
  induction h with
  | nil => exact .nil
  | cons r _ ih =>
    simp only [List.map_cons, List.flatten_cons, List.mem_append] at hs
    exact .cons (VlO.frame e (fun x hx => hs x (.inl hx)) r) (ih fun x hx => hs x (.inr hx))
theorem All2.frameD {S : Nat → Prop} {st st' : St} (e : StX S st st') {la : List (Fd × List Nat)} {cks : List (List TV)} (h : All2 (RD st) la cks) (hs : ∀ x, x ∈ (la.map Prod.snd).flatten → ¬ S x) : All2 (RD st') la cks := by
  induction h with
  | nil => exact .nil
  | cons r _ ih =>
    simp only [List.map_cons, List.flatten_cons, List.mem_append] at hs
    exact .cons (FdO.frame e (fun x hx => hs x (.inl hx)) r) (ih fun x hx => hs x (.inr hx))
theorem All2.lenV {st : St} {la : List (Vl × List Nat)} {cks : List (List TV)} (h : All2 (RV st) la cks) : cks.flatten.length = la.length * 13 := by
  have := (VsO.of_all2 h).rd.len
  rw [List.length_map] at this; exact this
theorem All2.lenD {st : St} {la : List (Fd × List Nat)} {cks : List (List TV)} (h : All2 (RD st) la cks) : cks.flatten.length = la.length * 14 := by
  have := (FsO.of_all2 h).rd.len
  rw [List.length_map] at this; exact this
/-- An element of a row of one's own is written. -/
theorem OwnSl.store {st : St} {sz n i o : Nat} {u : TV} {A c B ys : List TV} {bs : List Nat} (h : OwnSl st sz u n (A ++ c ++ B) bs) (hA : A.length = i * sz + o) (hc : 0 < c.length) (hy : ys.length = c.length) {k : St → Prop} (hk : ∀ st', OwnSl st' sz u n (A ++ ys ++ B) bs → StX (· ∈ bs) st st' → k st') : stB st (fldT (ixT sz u i) o) ys k := by
  rcases h with ⟨_, h1, _⟩ | ⟨b, cap, tail, rfl, h1, h2, h3, h4, h5, rfl⟩
  · simp only [List.append_eq_nil_iff] at h1
    rw [h1.1.2] at hc
    exact absurd hc (by simp)
  · have e : A ++ c ++ B ++ tail = A ++ c ++ (B ++ tail) := by simp
    have e2 : setAll (A ++ c ++ B ++ tail) (0 + i * sz + o) ys = A ++ ys ++ B ++ tail := by
      rw [e, show 0 + i * sz + o = A.length by omega, setAll_mid ys A c (B ++ tail) hy]; simp
    refine ⟨_, h2, by simp only [List.length_append]; omega, ?_⟩
    rw [e2]
    refine hk _ (.inr ⟨b, cap, tail, rfl, h1, by simp [St.put], ?_, ?_, h5, rfl⟩) (StX.put (S := (· ∈ [b])) (.head _) _)
    · simp only [List.length_append] at h3 ⊢; omega
    · simp only [List.length_append] at h4 ⊢; omega
theorem OwnSl.ld {st : St} {sz n i o : Nat} {u : TV} {A c B : List TV} {bs : List Nat} (h : OwnSl st sz u n (A ++ c ++ B) bs) (hA : A.length = i * sz + o) (hc : 0 < c.length) : ldCells st [] (.t (fldT (ixT sz u i) o)) 0 c.length = some c := by
  rcases h with ⟨_, h1, _⟩ | ⟨b, cap, tail, rfl, h1, h2, h3, h4, h5, rfl⟩
  · simp only [List.append_eq_nil_iff] at h1
    rw [h1.1.2] at hc
    exact absurd hc (by simp)
  · exact lds_mid (B := B ++ tail) c _ 0 (0 + i * sz + o) h2 (by
      rw [show 0 + i * sz + o + 0 = A.length by omega, List.append_assoc, List.append_assoc, List.drop_left])
theorem fld0 {st : St} {sz n i : Nat} {u : TV} {xs : List TV} {bs : List Nat} (h : OwnSl st sz u n xs bs) (hn : 0 < n) : fldT (ixT sz u i) 0 = ixT sz u i ∧ isPtr (ixT sz u i) = true := by
  rcases h with ⟨h1, _⟩ | ⟨b, cap, tail, rfl, _⟩
  · omega
  · exact ⟨rfl, rfl⟩
mutual
/-- No key stands twice, at no level. -/
def KNd : Vl → Prop
  | .mk _ l f => KNds l ∧ KeysNd f ∧ KNdf f
def KNds : List Vl → Prop
  | [] => True
  | v :: r => KNd v ∧ KNds r
def KNdD : Fd → Prop
  | .mk _ v => KNd v
def KNdf : List Fd → Prop
  | [] => True
  | d :: r => KNdD d ∧ KNdf r
end
theorem KNds.mem : ∀ {l : List Vl} {v : Vl}, KNds l → v ∈ l → KNd v
  | [], v, _, h => by cases h
  | w :: r, v, hk, h => by
    unfold KNds at hk
    rcases List.mem_cons.1 h with rfl | h
    · exact hk.1
    · exact KNds.mem hk.2 h
theorem KNdf.mem : ∀ {l : List Fd} {v : Fd}, KNdf l → v ∈ l → KNdD v
  | [], v, _, h => by cases h
  | w :: r, v, hk, h => by
    unfold KNdf at hk
    rcases List.mem_cons.1 h with rfl | h
    · exact hk.1
    · exact KNdf.mem hk.2 h
theorem vsSz_mem {l : List Vl} {v : Vl} (h : v ∈ l) : v.sz ≤ vsSz l := by
  obtain ⟨i, hi⟩ := List.getElem?_of_mem h
  exact vsSz_get hi
theorem fsSz_mem {l : List Fd} {v : Fd} (h : v ∈ l) : v.sz ≤ fsSz l := by
  obtain ⟨i, hi⟩ := List.getElem?_of_mem h
  exact fsSz_get hi
end Go.TVF
end

section
namespace Go.TVF
open Go Go.Proofs
set_option linter.unusedVariables false
set_option linter.unusedSimpArgs false
theorem StX.out2 {S T : Nat → Prop} {a b c : St} (h : StX S a b) (k : StX T b c) (hs : ∀ i, i < a.nb → T i → S i) : StX S a c :=
  ⟨Nat.le_trans h.nb k.nb, fun i hi g => (k.box i (Nat.lt_of_lt_of_le hi h.nb) fun t => g (hs i hi t)).trans (h.box i hi g), Nat.le_trans h.nt k.nt, fun i hi => (k.live i (Nat.lt_of_lt_of_le hi h.nt)).trans (h.live i hi), fun i hi => (k.ty i (Nat.lt_of_lt_of_le hi h.nt)).trans (h.ty i hi), fun i hi => (k.bt i (Nat.lt_of_lt_of_le hi h.nb)).trans (h.bt i hi)⟩
/-- Boxes after one element's were changed. -/
theorem swapFp {A p q B : List Nat} {m : Nat} (h : (A ++ (p ++ B)).Nodup) (hA : ∀ x, x ∈ A → x < m) (hB : ∀ x, x ∈ B → x < m) (hq : q.Nodup) (hin : ∀ x, x ∈ q → x ∈ p ∨ m ≤ x) : (A ++ q ++ B).Nodup := by
  obtain ⟨h1, h2, h3⟩ := List.nodup_append.1 h
  obtain ⟨h4, h5, h6⟩ := List.nodup_append.1 h2
  refine nodup_app (nodup_app h1 hq fun x hx hx' => ?_) h5 fun x hx hx' => ?_
  · rcases hin x hx' with h | h
    · exact h3 x hx x (List.mem_append_left _ h) rfl
    · have := hA x hx; omega
  · rcases List.mem_append.1 hx with hx | hx
    · exact h3 x hx x (List.mem_append_right _ hx') rfl
    · rcases hin x hx with h | h
      · exact h6 x h x hx' rfl
      · have := hB x hx'; omega
theorem fldT0 {st : St} {sz n i : Nat} {u : TV} {xs : List TV} {bs : List Nat} (h : OwnSl st sz u n xs bs) (hn : 0 < n) : ixT sz u i = fldT (ixT sz u i) 0 := ((fld0 h hn).1).symm
theorem arranged_ok : ∀ (N : Nat) (v : Vl), v.sz ≤ N → N ≤ 2000000 → KNd v → ∀ {st : St} {cs : List TV} {fp : List Nat} {K : Int → Bool → Bool → List UInt8 → Int → Int → Int → Int → Int → List UInt8 → TV → TV → TV → St → Prop}, VlO st v cs fp → fp.Nodup →
    (∀ ub ul uf st' fp', VlO st' (sortV v) (cellsV v.sc ub ul uf) fp' → oneT ub = true → oneT ul = true → oneT uf = true → fp'.Nodup → (∀ x, x ∈ fp' → x ∈ fp ∨ st.nb ≤ x) → StX (· ∈ fp) st st' → K v.sc.kind v.sc.b v.sc.neg v.sc.dg v.sc.ex v.sc.tk v.sc.td v.sc.tn v.sc.tz v.sc.text ub ul uf st') →
    CallT PR fn_value_arranged [.agg cs] [.agg [.int .i64, .bool, .bool, .str, .int .i64, .int .i64, .int .i64, .int .i64, .int .i64, .str, .tv, .tv, .tv]] st K := by
  intro N
  induction N with
  | zero => intro v h; have := v.sz_pos; omega
  | succ N ih =>
  intro v hN hN2 hkn st cs fp K h hnd hk
  cases v with
  | mk s l f =>
  have hsz : (Vl.mk s l f).sz = 1 + s.bytes.length + s.text.length + s.dg.length + vsSz l + fsSz f := by unfold Vl.sz; rfl
  have hll := vsSz_len l
  have hfl := fsSz_len f
  unfold KNd at hkn
  obtain ⟨kn1, kn2, kn3⟩ := hkn
  unfold VlO at h
  obtain ⟨ub, ul, uf, xl, xf, bb, bl, bf, fl, ff, rfl, h1, h2, h3, h4, h5, rfl⟩ := h
  obtain ⟨la, cl, rfl, rfl, rfl, hal⟩ := h3.all2
  obtain ⟨lf, cf, rfl, rfl, rfl, haf⟩ := h5.all2
  simp only [List.length_map] at h2 h4 hll hfl
  obtain ⟨FL, hFL⟩ : ∃ FL, FL = (la.map Prod.snd).flatten := ⟨_, rfl⟩
  obtain ⟨FF, hFF⟩ : ∃ FF, FF = (lf.map Prod.snd).flatten := ⟨_, rfl⟩
  rw [← hFL, ← hFF] at hnd
  obtain ⟨nb1, nd2, dj1⟩ := List.nodup_append.1 hnd
  obtain ⟨nb2, nd3, dj2⟩ := List.nodup_append.1 nd2
  obtain ⟨nb3, nd4, dj3⟩ := List.nodup_append.1 nd3
  obtain ⟨nb4, nb5, dj4⟩ := List.nodup_append.1 nd4
  have hltL : ∀ x, x ∈ FL → x < st.nb := hFL ▸ (VsO.of_all2 hal).lt
  have hltF : ∀ x, x ∈ FF → x < st.nb := hFF ▸ (FsO.of_all2 haf).lt
  have hltl := h2.lt
  refine vc_value_arranged _ _ _ _ _ _ _ _ _ _ _ _ _ st K (need_intro h2.rd.isSl ?_)
  refine ⟨fun n1 n2 a1 a2 a3 a4 a5 a6 a7 a8 a9 a10 a11 a12 a13 _ _ _ _ _ _ _ _ _ _ _ _ _ st' => (la.length : Int) = n2 ∧ s.kind = a1 ∧ s.b = a2 ∧ s.neg = a3 ∧ s.dg = a4 ∧ s.ex = a5 ∧ s.tk = a6 ∧ s.td = a7 ∧ s.tn = a8 ∧ s.tz = a9 ∧ s.text = a10 ∧ ub = a11 ∧ ul = a12 ∧ uf = a13 ∧
      ∃ (D T : List (Vl × List Nat)) (cD cT : List (List TV)), n1 = (D.length : Int) ∧ D.length + T.length = la.length ∧ D.map Prod.fst ++ (T.map Prod.fst).map sortV = (la.map Prod.fst).map sortV ∧ (∀ a, a ∈ T → a ∈ la) ∧
        All2 (RV st') D cD ∧ All2 (RV st') T cT ∧ OwnSl st' 13 ul la.length (cD.flatten ++ cT.flatten) bl ∧ ((D.map Prod.snd).flatten ++ (T.map Prod.snd).flatten).Nodup ∧ (∀ x, x ∈ (D.map Prod.snd).flatten ++ (T.map Prod.snd).flatten → x ∈ FL ∨ st.nb ≤ x) ∧ (∀ x, x ∈ (T.map Prod.snd).flatten → x ∈ FL) ∧ StX (· ∈ bl ++ FL) st st',
    fun n1 _ _ _ _ _ _ _ _ _ _ _ _ _ _ _ _ _ _ _ _ _ _ _ _ _ _ _ _ => (la.length - n1).toNat, ⟨by rw [h2.rd.lenS], rfl, rfl, rfl, rfl, rfl, rfl, rfl, rfl, rfl, rfl, rfl, rfl, rfl, [], la, [], cl, rfl, by simp, rfl, fun a h => h, .nil, hal, by simpa using h2, by simpa [hFL] using nb3, fun x hx => .inl (by simpa [hFL] using hx), fun x hx => hFL ▸ hx, StX.refl _ _⟩, ?_⟩
  rintro _ _ _ _ _ _ _ _ _ _ _ _ _ _ _ _ _ _ _ _ _ _ _ _ _ _ _ _ st1 ⟨rfl, rfl, rfl, rfl, rfl, rfl, rfl, rfl, rfl, rfl, rfl, rfl, rfl, rfl, D, T, cD, cT, rfl, hDT, hmap, hTm, aD, aT, ho, hn1, hin, hTF, e1⟩
  have e1n := e1.nb
  refine BIf_intro (fun g => ?_) fun g => ?_
  · cases aT with
    | nil => simp at hDT; omega
    | cons r aT =>
    rename_i a c T cT
    obtain ⟨w, p⟩ := a
    have hw : VlO st1 w c p := r
    have hwm : w ∈ la.map Prod.fst := List.mem_map_of_mem (f := Prod.fst) (hTm (w, p) (.head _))
    have hwsz := vsSz_mem hwm
    simp only [List.length_cons] at hDT
    simp only [List.map_cons, List.flatten_cons] at hn1 hin hTF hmap ho
    have hclen := hw.rd.len
    have lD := aD.lenV
    have ho' : OwnSl st1 13 ul la.length (cD.flatten ++ c ++ cT.flatten) bl := by simpa using ho
    have hld := ho'.ld (i := D.length) (o := 0) (by omega) (by omega)
    rw [← fldT0 ho' (by omega), hclen] at hld
    obtain ⟨m1, m2, m3⟩ := List.nodup_append.1 hn1
    obtain ⟨m4, m5, m6⟩ := List.nodup_append.1 m2
    have hw0 := hw
    cases w with
    | mk s' l' f' =>
    unfold VlO at hw0
    obtain ⟨ub', ul', uf', xl', xf', bb', bl', bf', fl', ff', rfl, w1, w2, w3, w4, w5, rfl⟩ := hw0
    have hlz : TVF.lenZ 13 ul = la.length := ho.rd.lenZ
    rw [hlz, Int.toNat_natCast]
    refine ⟨⟨by omega, by omega⟩, optK_intro (x := .agg _) (by rw [hld]; rfl) (decA13 ?_)⟩
    refine ih _ (by omega) (by omega) (kn1.mem hwm) hw m4 fun ub2 ul2 uf2 st2 fp2 hO o1 o2 o3 ndp inp e2 => ⟨⟨by omega, by omega⟩, need_intro (one13 o1 o2 o3) ?_⟩
    generalize hp : (bb' ++ (bl' ++ (fl' ++ (bf' ++ ff')))) = p at *
    have hpF : ∀ x, x ∈ p → x ∈ FL := fun x hx => hTF x (List.mem_append_left _ hx)
    have e2n := e2.nb
    have ho2 : OwnSl st2 13 ul la.length (cD.flatten ++ [.int .i64 s'.kind, .bool s'.b, .bool s'.neg, .str s'.dg, .int .i64 s'.ex, .int .i64 s'.tk, .int .i64 s'.td, .int .i64 s'.tn, .int .i64 s'.tz, .str s'.text, ub', ul', uf'] ++ cT.flatten) bl :=
      ho'.frame e2 fun x hx hx' => dj2 x hx x (List.mem_append_left _ (hpF x hx')) rfl
    rw [fldT0 ho2 (by omega)]
    refine ho2.store (ys := cellsV s' ub2 ul2 uf2) (by omega) (by simp) rfl fun st3 ho3 e3 => ?_
    have blx : ∀ x, x ∈ bl → x < st.nb := hltl
    have aD3 : All2 (RV st3) D cD := (aD.frameV e2 fun x hx hx' => m3 x hx x (List.mem_append_left _ hx') rfl).frameV e3 fun x hx hx' => by
      rcases hin x (List.mem_append_left _ hx) with h | h
      · exact dj2 x hx' x (List.mem_append_left _ h) rfl
      · have := blx x hx'; omega
    have aT3 : All2 (RV st3) T cT := (aT.frameV e2 fun x hx hx' => m6 x hx' x hx rfl).frameV e3 fun x hx hx' => dj2 x hx' x (List.mem_append_left _ (hTF x (List.mem_append_right _ hx))) rfl
    have hO3 : VlO st3 (sortV (.mk s' l' f')) (cellsV s' ub2 ul2 uf2) fp2 := hO.frame e3 fun x hx hx' => by
      rcases inp x hx with h | h
      · exact dj2 x hx' x (List.mem_append_left _ (hpF x h)) rfl
      · have := blx x hx'; omega
    refine ⟨⟨rfl, rfl, rfl, rfl, rfl, rfl, rfl, rfl, rfl, rfl, rfl, rfl, rfl, rfl, D ++ [(sortV (.mk s' l' f'), fp2)], T, cD ++ [cellsV s' ub2 ul2 uf2], cT, ?_, ?_, ?_, fun a ha => hTm a (.tail _ ha), aD3.snoc hO3, aT3, ?_, ?_, ?_, fun x hx => hTF x (List.mem_append_right _ hx), ?_⟩, ?_⟩
    · rw [wrap64 _ (by omega) (by omega)]; simp
    · simp only [List.length_append, List.length_cons, List.length_nil]; omega
    · rw [← hmap]; simp
    · simpa using ho3
    · have := swapFp hn1 (VsO.of_all2 aD).lt (VsO.of_all2 aT).lt ndp inp
      simpa using this
    · intro x hx
      simp only [List.map_append, List.map_cons, List.map_nil, List.flatten_append, List.flatten_cons, List.flatten_nil, List.append_nil, List.mem_append] at hx
      rcases hx with (hx | hx) | hx
      · exact hin x (List.mem_append_left _ hx)
      · rcases inp x hx with h | h
        · exact .inl (hpF x h)
        · exact .inr (by omega)
      · exact .inl (hTF x (List.mem_append_right _ hx))
    · exact (e1.trans (e2.mono fun x hx => List.mem_append_right _ (hpF x hx))).trans (e3.mono fun x hx => List.mem_append_left _ hx)
    · dsimp only
      rw [wrap64 _ (by omega) (by omega)]; omega
  · have hT0 : T = [] := List.eq_nil_of_length_eq_zero (by omega)
    subst hT0
    cases aT
    simp only [List.map_nil, List.append_nil, List.flatten_nil] at hmap ho hn1 hin
    have hbb := h1.lt
    have hbf := h4.lt
    have disjS : ∀ x, x ∈ bl ++ FL → x ∉ bf ∧ x ∉ FF ∧ x ∉ bb := fun x hx => by
      rcases List.mem_append.1 hx with hx | hx
      · exact ⟨fun h => dj2 x hx x (List.mem_append_right _ (List.mem_append_left _ h)) rfl, fun h => dj2 x hx x (List.mem_append_right _ (List.mem_append_right _ h)) rfl, fun h => dj1 x h x (List.mem_append_left _ hx) rfl⟩
      · exact ⟨fun h => dj3 x hx x (List.mem_append_left _ h) rfl, fun h => dj3 x hx x (List.mem_append_right _ h) rfl, fun h => dj1 x h x (List.mem_append_right _ (List.mem_append_left _ hx)) rfl⟩
    have haf1 : All2 (RD st1) lf cf := haf.frameD e1 fun x hx hx' => (disjS x hx').2.1 (hFF ▸ hx)
    have h41 := h4.frame e1 fun x hx hx' => (disjS x hx').1 hx
    have hu1 : SlR st1 14 uf (lf.map Prod.fst).length cf.flatten := by rw [List.length_map]; exact h41.rd
    refine sorted_okG (g := Prod.fst) (R := RD st1) (fun a c r => FdO.rd r) haf1 rfl rfl hu1 (by rw [List.length_map]; omega) fun v13 st4 la' ck' bs hpm hsr e4 ho4 ha4 ndb lob => ?_
    have hlen' : la'.length = lf.length := hpm.length_eq
    have hkey : la'.map Prod.fst = sortFd (lf.map Prod.fst) := sorted_eq kn2 (hpm.map _) hsr
    have hpF : ∀ x, x ∈ (la'.map Prod.snd).flatten → x ∈ FF := fun x hx => by
      rw [hFF]
      simp only [List.mem_flatten, List.mem_map] at hx ⊢
      obtain ⟨q, ⟨a, ha, rfl⟩, hx⟩ := hx
      exact ⟨_, ⟨a, hpm.mem_iff.1 ha, rfl⟩, hx⟩
    have hndF : ((la'.map Prod.snd).flatten).Nodup := by
      have : ((la'.map Prod.snd).flatten).Perm FF := by rw [hFF]; exact (hpm.map _).flatten
      exact this.nodup_iff.2 nb5
    have ha4' : All2 (RD st4) la' ck' := ha4.frameD (StX.of (S := fun _ => False) e4) (fun _ _ h => h)
    have e4n := e4.nb
    refine need_intro (by rw [List.all_cons, ho4.rd.one]; rfl) (need_intro ho4.rd.isSl ?_)
    refine ⟨fun n1 n2 a1 a2 a3 a4 a5 a6 a7 a8 a9 a10 a11 a12 a13 _ _ _ _ _ _ _ _ _ _ _ _ _ st' => (la'.length : Int) = n2 ∧ s.kind = a1 ∧ s.b = a2 ∧ s.neg = a3 ∧ s.dg = a4 ∧ s.ex = a5 ∧ s.tk = a6 ∧ s.td = a7 ∧ s.tn = a8 ∧ s.tz = a9 ∧ s.text = a10 ∧ ub = a11 ∧ ul = a12 ∧ v13 = a13 ∧
        ∃ (E T : List (Fd × List Nat)) (cE cT : List (List TV)), n1 = (E.length : Int) ∧ E.length + T.length = la'.length ∧ E.map Prod.fst ++ (T.map Prod.fst).map sortD = (la'.map Prod.fst).map sortD ∧ (∀ a, a ∈ T → a ∈ la') ∧
          All2 (RD st') E cE ∧ All2 (RD st') T cT ∧ OwnSl st' 14 v13 la'.length (cE.flatten ++ cT.flatten) bs ∧ ((E.map Prod.snd).flatten ++ (T.map Prod.snd).flatten).Nodup ∧ (∀ x, x ∈ (E.map Prod.snd).flatten ++ (T.map Prod.snd).flatten → x ∈ FF ∨ st4.nb ≤ x) ∧ (∀ x, x ∈ (T.map Prod.snd).flatten → x ∈ FF) ∧ StX (· ∈ bs ++ FF) st4 st',
      fun n1 _ _ _ _ _ _ _ _ _ _ _ _ _ _ _ _ _ _ _ _ _ _ _ _ _ _ _ _ => (la'.length - n1).toNat, ⟨by rw [ho4.rd.lenS], rfl, rfl, rfl, rfl, rfl, rfl, rfl, rfl, rfl, rfl, rfl, rfl, rfl, [], la', [], ck', rfl, by simp, rfl, fun a h => h, .nil, ha4', by simpa using ho4, by simpa using hndF, fun x hx => .inl (hpF x (by simpa using hx)), hpF, StX.refl _ _⟩, ?_⟩
    rintro _ _ _ _ _ _ _ _ _ _ _ _ _ _ _ _ _ _ _ _ _ _ _ _ _ _ _ _ st5 ⟨rfl, rfl, rfl, rfl, rfl, rfl, rfl, rfl, rfl, rfl, rfl, rfl, rfl, rfl, E, T, cE, cT, rfl, hET, hmap2, hTm2, aE, aT2, ho5, hn5, hin5, hTF5, e5⟩
    have e5n := e5.nb
    refine BIf_intro (fun g => ?_) fun g => ?_
    · cases aT2 with
      | nil => simp at hET; omega
      | cons r aT2 =>
      rename_i a c T cT
      obtain ⟨d, p⟩ := a
      cases d with
      | mk key w =>
      have hd : FdO st5 (.mk key w) c p := r
      unfold FdO at hd
      obtain ⟨cw, rfl, hw⟩ := hd
      have hdm : (Fd.mk key w, p) ∈ lf := hpm.mem_iff.1 (hTm2 _ (.head _))
      have hwm : Fd.mk key w ∈ lf.map Prod.fst := List.mem_map_of_mem (f := Prod.fst) hdm
      have hwsz := fsSz_mem hwm
      have hwk : (Fd.mk key w).sz = key.length + w.sz := by unfold Fd.sz; rfl
      have hkw : KNd w := by have := kn3.mem hwm; unfold KNdD at this; exact this
      simp only [List.length_cons] at hET
      simp only [List.map_cons, List.flatten_cons] at hn5 hin5 hTF5 hmap2 ho5
      have hclen := hw.rd.len
      have lE := aE.lenD
      have ho' : OwnSl st5 14 v13 la'.length ((cE.flatten ++ [.str key]) ++ cw ++ cT.flatten) bs := by simpa using ho5
      have lE1 : (cE.flatten ++ [TV.str key]).length = E.length * 14 + 1 := by simp only [List.length_append, List.length_cons, List.length_nil]; omega
      have hld := ho'.ld (i := E.length) (o := 1) lE1 (by omega)
      rw [hclen] at hld
      obtain ⟨m1, m2, m3⟩ := List.nodup_append.1 hn5
      obtain ⟨m4, m5, m6⟩ := List.nodup_append.1 m2
      have hw0 := hw
      cases w with
      | mk s' l' f' =>
      unfold VlO at hw0
      obtain ⟨ub', ul', uf', xl', xf', bb', bl', bf', fl', ff', rfl, w1, w2, w3, w4, w5, rfl⟩ := hw0
      have hlz : TVF.lenZ 14 v13 = la'.length := ho5.rd.lenZ
      rw [hlz, Int.toNat_natCast]
      refine ⟨⟨by omega, by omega⟩, need_intro (fld0 ho5 (by omega)).2 (optK_intro (x := .agg _) (by rw [hld]; rfl) (decA13 ?_))⟩
      refine ih _ (by omega) (by omega) hkw hw m4 fun ub2 ul2 uf2 st6 fp2 hO o1 o2 o3 ndp inp e6 => ⟨⟨by omega, by omega⟩, need_intro (fld0 ho5 (by omega)).2 (need_intro (one13 o1 o2 o3) ?_)⟩
      generalize hp : (bb' ++ (bl' ++ (fl' ++ (bf' ++ ff')))) = p at *
      have hpF2 : ∀ x, x ∈ p → x ∈ FF := fun x hx => hTF5 x (List.mem_append_left _ hx)
      have e6n := e6.nb
      have bsx : ∀ x, x ∈ bs → x < st4.nb := ho4.lt
      have bsF : ∀ x, x ∈ bs → x ∉ FF := fun x hx hx' => by have := lob x hx; have := hltF x hx'; omega
      refine (ho'.frame e6 fun x hx hx' => bsF x hx (hpF2 x hx')).store (ys := cellsV s' ub2 ul2 uf2) lE1 (by simp) rfl fun st7 ho7 e7 => ?_
      have bsOut : ∀ x, x ∈ FF ∨ st4.nb ≤ x → x ∉ bs := fun x h hx => by
        rcases h with h | h
        · exact bsF x hx h
        · have := bsx x hx; omega
      have aE7 : All2 (RD st7) E cE := (aE.frameD e6 fun x hx hx' => m3 x hx x (List.mem_append_left _ hx') rfl).frameD e7 fun x hx => bsOut x (hin5 x (List.mem_append_left _ hx))
      have aT7 : All2 (RD st7) T cT := (aT2.frameD e6 fun x hx hx' => m6 x hx' x hx rfl).frameD e7 fun x hx => bsOut x (.inl (hTF5 x (List.mem_append_right _ hx)))
      have hO7 : FdO st7 (sortD (.mk key (.mk s' l' f'))) (.str key :: cellsV s' ub2 ul2 uf2) fp2 := by
        unfold sortD FdO
        exact ⟨_, rfl, hO.frame e7 fun x hx => bsOut x ((inp x hx).elim (fun h => .inl (hpF2 x h)) fun h => .inr (by omega))⟩
      refine ⟨⟨rfl, rfl, rfl, rfl, rfl, rfl, rfl, rfl, rfl, rfl, rfl, rfl, rfl, rfl, E ++ [(sortD (.mk key (.mk s' l' f')), fp2)], T, cE ++ [.str key :: cellsV s' ub2 ul2 uf2], cT, ?_, ?_, ?_, fun a ha => hTm2 a (.tail _ ha), aE7.snoc hO7, aT7, ?_, ?_, ?_, fun x hx => hTF5 x (List.mem_append_right _ hx), ?_⟩, ?_⟩
      · rw [wrap64 _ (by omega) (by omega)]; simp
      · simp only [List.length_append, List.length_cons, List.length_nil]; omega
      · rw [← hmap2]; simp
      · simpa using ho7
      · have := swapFp hn5 (FsO.of_all2 aE).lt (FsO.of_all2 aT2).lt ndp inp
        simpa using this
      · intro x hx
        simp only [List.map_append, List.map_cons, List.map_nil, List.flatten_append, List.flatten_cons, List.flatten_nil, List.append_nil, List.mem_append] at hx
        rcases hx with (hx | hx) | hx
        · exact hin5 x (List.mem_append_left _ hx)
        · rcases inp x hx with h | h
          · exact .inl (hpF2 x h)
          · exact .inr (by omega)
        · exact .inl (hTF5 x (List.mem_append_right _ hx))
      · exact (e5.trans (e6.mono fun x hx => List.mem_append_right _ (hpF2 x hx))).trans (e7.mono fun x hx => List.mem_append_left _ hx)
      · dsimp only
        rw [wrap64 _ (by omega) (by omega)]; omega
    · have hT0 : T = [] := List.eq_nil_of_length_eq_zero (by omega)
      subst hT0
      cases aT2
      simp only [List.map_nil, List.append_nil, List.flatten_nil] at hmap2 ho5 hn5 hin5
      have hD1 : ∀ x, x ∈ (D.map Prod.snd).flatten → x < st1.nb := (VsO.of_all2 aD).lt
      -- what the last steps left alone
      have disjT : ∀ x, (x ∈ bb ∨ x ∈ bl ∨ x ∈ (D.map Prod.snd).flatten) → x ∉ bs ++ FF := fun x hx hx' => by
        rcases List.mem_append.1 hx' with h | h
        · have h9 := lob x h
          rcases hx with hx | hx | hx
          · have := hbb x hx; omega
          · have := hltl x hx; omega
          · have := hD1 x hx; omega
        · rcases hx with hx | hx | hx
          · exact dj1 x hx x (List.mem_append_right _ (List.mem_append_right _ (List.mem_append_right _ h))) rfl
          · exact dj2 x hx x (List.mem_append_right _ (List.mem_append_right _ h)) rfl
          · rcases hin x hx with h8 | h8
            · exact dj3 x h8 x (List.mem_append_right _ h) rfl
            · have := hltF x h; omega
      have f0 := StX.of (S := fun _ => False) e4
      have hb5 := ((h1.frame e1 fun x hx hx' => (disjS x hx').2.2 hx).frame f0 (fun _ _ h => h)).frame e5 fun x hx => disjT x (.inl hx)
      have hl5 := (ho.frame f0 (fun _ _ h => h)).frame e5 fun x hx => disjT x (.inr (.inl hx))
      have hD5 := (aD.frameV f0 (fun _ _ h => h)).frameV e5 fun x hx => disjT x (.inr (.inr hx))
      have lenD : D.length = la.length := by omega
      refine need_intro (one13 h1.rd.one h2.rd.one ho4.rd.one) (hk ub ul v13 st5 (bb ++ (bl ++ ((D.map Prod.snd).flatten ++ (bs ++ (E.map Prod.snd).flatten)))) ?_ h1.rd.one h2.rd.one ho4.rd.one ?_ ?_ ?_)
      · unfold sortV VlO
        refine ⟨ub, ul, v13, cD.flatten, cE.flatten, bb, bl, bs, _, _, rfl, hb5, ?_, ?_, ?_, ?_, rfl⟩
        · rw [sortVs_map, List.length_map, List.length_map]; exact hl5
        · rw [sortVs_map, ← hmap]; exact VsO.of_all2 hD5
        · rw [(sortFd_perm _).length_eq, sortFs_map, List.length_map, List.length_map, ← hlen']; exact ho5
        · rw [sortFs_map, sortFd_map sortD_key, ← hkey, ← hmap2]; exact FsO.of_all2 aE
      · have ltst4 : ∀ x, x ∈ bs → st1.nb ≤ x ∧ x < st4.nb := fun x hx => ⟨lob x hx, ho4.lt x hx⟩
        refine nodup_app nb1 (nodup_app nb2 (nodup_app hn1 (nodup_app ndb hn5 fun x hx hx' => ?_) fun x hx hx' => ?_) fun x hx hx' => ?_) fun x hx hx' => ?_
        · have := ltst4 x hx
          rcases hin5 x hx' with h | h
          · have := hltF x h; omega
          · omega
        · have q1 := hD1 x hx
          rcases List.mem_append.1 hx' with hx' | hx'
          · have := ltst4 x hx'; omega
          · rcases hin5 x hx' with h | h
            · rcases hin x hx with h8 | h8
              · exact dj3 x h8 x (List.mem_append_right _ h) rfl
              · have := hltF x h; omega
            · omega
        · have q1 := hltl x hx
          rcases List.mem_append.1 hx' with hx' | hx'
          · rcases hin x hx' with h8 | h8
            · exact dj2 x hx x (List.mem_append_left _ h8) rfl
            · omega
          · rcases List.mem_append.1 hx' with hx' | hx'
            · have := ltst4 x hx'; omega
            · rcases hin5 x hx' with h | h
              · exact dj2 x hx x (List.mem_append_right _ (List.mem_append_right _ h)) rfl
              · omega
        · have q1 := hbb x hx
          rcases List.mem_append.1 hx' with hx' | hx'
          · exact dj1 x hx x (List.mem_append_left _ hx') rfl
          · rcases List.mem_append.1 hx' with hx' | hx'
            · rcases hin x hx' with h8 | h8
              · exact dj1 x hx x (List.mem_append_right _ (List.mem_append_left _ h8)) rfl
              · omega
            · rcases List.mem_append.1 hx' with hx' | hx'
              · have := ltst4 x hx'; omega
              · rcases hin5 x hx' with h | h
                · exact dj1 x hx x (List.mem_append_right _ (List.mem_append_right _ (List.mem_append_right _ h))) rfl
                · omega
      · intro x hx
        rw [← hFL, ← hFF]
        simp only [List.mem_append] at hx ⊢
        rcases hx with hx | hx | hx | hx | hx
        · exact .inl (.inl hx)
        · exact .inl (.inr (.inl hx))
        · rcases hin x hx with h8 | h8
          · exact .inl (.inr (.inr (.inl h8)))
          · exact .inr h8
        · have := lob x hx; exact .inr (by omega)
        · rcases hin5 x hx with h | h
          · exact .inl (.inr (.inr (.inr (.inr h))))
          · exact .inr (by omega)
      · rw [← hFL, ← hFF]
        refine (((e1.mono fun x hx => ?_).trans (StX.of e4))).out2 e5 fun i hi hx => ?_
        · simp only [List.mem_append] at hx ⊢
          rcases hx with hx | hx
          · exact .inr (.inl hx)
          · exact .inr (.inr (.inl hx))
        · simp only [List.mem_append] at hx ⊢
          rcases hx with hx | hx
          · have := lob i hx; omega
          · exact .inr (.inr (.inr (.inr hx)))
end Go.TVF
end

section
namespace Go.TVF
open Go Go.Proofs
set_option linter.unusedVariables false
set_option linter.unusedSimpArgs false
theorem copy_ok {v : Vl} (hN : v.sz ≤ 2000000) (hC : v.cnt ≤ 65536) {st : St} {cs : List TV} {K : Int → Bool → Bool → List UInt8 → Int → Int → Int → Int → Int → List UInt8 → TV → TV → TV → St → Prop} (h : VlR st v cs)
    (hk : ∀ ub ul uf st' fp, VlO st' v (cellsV v.sc ub ul uf) fp → oneT ub = true → oneT ul = true → oneT uf = true → fp.Nodup → (∀ x, x ∈ fp → st.nb ≤ x) → StExt st st' → K v.sc.kind v.sc.b v.sc.neg v.sc.dg v.sc.ex v.sc.tk v.sc.td v.sc.tn v.sc.tz v.sc.text ub ul uf st') :
    CallT PR fn_value_Copy [.agg cs] [.agg [.int .i64, .bool, .bool, .str, .int .i64, .int .i64, .int .i64, .int .i64, .int .i64, .str, .tv, .tv, .tv]] st K := by
  have h0 := h
  cases v with
  | mk s l f =>
  unfold VlR at h0
  obtain ⟨ub, ul, uf, xl, xf, rfl, _⟩ := h0
  exact vc_value_Copy _ _ _ _ _ _ _ _ _ _ _ _ _ st K (copied_ok 2000000 _ hN (by omega) h (by omega) (by omega) fun ub ul uf st' fp g o1 o2 o3 nd lo e => need_intro (one13 o1 o2 o3) (hk ub ul uf st' fp g o1 o2 o3 nd lo e))
/-- The sorted copy. -/
theorem Sorted_ok {v : Vl} (hN : v.sz ≤ 2000000) (hC : v.cnt ≤ 65536) (hkn : KNd v) {st : St} {cs : List TV} {K : Int → Bool → Bool → List UInt8 → Int → Int → Int → Int → Int → List UInt8 → TV → TV → TV → St → Prop} (h : VlR st v cs)
    (hk : ∀ ub ul uf st', VlR st' (sortV v) (cellsV v.sc ub ul uf) → oneT ub = true → oneT ul = true → oneT uf = true → StExt st st' → K v.sc.kind v.sc.b v.sc.neg v.sc.dg v.sc.ex v.sc.tk v.sc.td v.sc.tn v.sc.tz v.sc.text ub ul uf st') :
    CallT PR fn_value_Sorted [.agg cs] [.agg [.int .i64, .bool, .bool, .str, .int .i64, .int .i64, .int .i64, .int .i64, .int .i64, .str, .tv, .tv, .tv]] st K := by
  have h0 := h
  cases v with
  | mk s l f =>
  unfold VlR at h0
  obtain ⟨ub, ul, uf, xl, xf, rfl, _⟩ := h0
  exact vc_value_Sorted _ _ _ _ _ _ _ _ _ _ _ _ _ st K (copy_ok hN hC h fun ub ul uf st1 fp g o1 o2 o3 nd lo e =>
    arranged_ok 2000000 _ hN (by omega) hkn g nd fun ub2 ul2 uf2 st2 fp2 g2 p1 p2 p3 _ _ e2 => need_intro (one13 p1 p2 p3) (hk ub2 ul2 uf2 st2 g2.rd p1 p2 p3 (StX.ext e e2 lo)))
end Go.TVF
end

section
namespace Go.TVF
open Go Go.Proofs
set_option linter.unusedVariables false
set_option linter.unusedSimpArgs false
def natB (n : Nat) : List UInt8 := if h : n < 128 then [n.toUInt8] else (n % 128 + 128).toUInt8 :: natB (n / 128)
termination_by n
decreasing_by omega
theorem natB_len (n : Nat) : (natB n).length ≤ n + 1 := by
  induction n using Nat.strongRecOn with
  | _ n ih =>
    unfold natB
    split
    · simp
    · have := ih (n / 128) (by omega)
      simp only [List.length_cons]; omega
theorem appK_ys {T : Nat} {st0 st : St} {v : TV} {l ys : List UInt8} {k : Nat} {xs : List TV} {K : TV → St → Prop} (e : StExt st0 st) (h : OwnB st0.nt st v l) (hkl : k = ys.length) (hx : xs = bytesT ys) (hby : l.length + ys.length ≤ 140737488355328)
    (hK : ∀ v' st', StExt st0 st' → st'.box = st.box → OwnB st0.nt st' v' (l ++ ys) → K v' st') : appK T 1 1 v k xs st K := by
  subst hkl hx
  exact appK_bytes e h hby hK
theorem w8_lt (n : Nat) (h : n < 256) : IntKind.u8.wrap (n : Int) = ((n.toUInt8.toNat : Nat) : Int) := by
  rw [wrapU8 _ (by omega) (by omega)]
  simp
  omega
theorem natB_lt (n : Nat) (h : n < 256) : n.toUInt8.toNat = n := by simp; omega
theorem fdiv128 (n : Nat) : Int.fdiv (n : Int) (2 ^ (min (Int.toNat (7 : Int)) (IntKind.bits .u64))) = ((n / 128 : Nat) : Int) := by
  have h2 : ((2 : Int) ^ (min (Int.toNat (7 : Int)) (IntKind.bits .u64))) = 128 := by decide
  rw [h2, Int.fdiv_eq_ediv_of_nonneg _ (by omega)]; omega
theorem or_u8 (x y : Nat) (hx : x < 2 ^ 8) (hy : y < 2 ^ 8) : bitsI .or .u8 (x : Int) (y : Int) = ((x ||| y : Nat) : Int) := by
  have h : x ||| y < 2 ^ 8 := Nat.or_lt_two_pow hx hy
  show IntKind.wrap .u8 ((BitVec.ofInt 8 (x : Int) ||| BitVec.ofInt 8 (y : Int)).toNat : Int) = _
  simp only [BitVec.ofInt_natCast, BitVec.toNat_or, BitVec.toNat_ofNat]
  rw [Nat.mod_eq_of_lt (by omega), Nat.mod_eq_of_lt (by omega), wrapU8 _ (by omega) (by omega)]
set_option maxRecDepth 10000 in
theorem or128 : ∀ x : Nat, x < 256 → x ||| 128 = x % 128 + 128 := by decide
theorem hi_byte (n : Nat) : bitsI .or .u8 (IntKind.u8.wrap (n : Int)) (128 : Int) = (((n % 128 + 128).toUInt8.toNat : Nat) : Int) := by
  have h1 : IntKind.u8.wrap (n : Int) = ((n % 256 : Nat) : Int) := by
    unfold IntKind.wrap
    simp only [IntKind.signed, IntKind.bits]
    simp
  rw [h1]
  have := or_u8 (n % 256) 128 (by omega) (by omega)
  rw [show ((128 : Nat) : Int) = (128 : Int) from rfl] at this
  rw [this, or128 _ (by omega), natB_lt _ (by omega)]
  omega
theorem natB_lenP : ∀ (m n : Nat), n < 128 ^ (m + 1) → (natB n).length ≤ m + 1
  | 0, n, h => by unfold natB; rw [dif_pos (by simpa using h)]; simp
  | m + 1, n, h => by
    unfold natB
    split
    · simp
    · have := natB_lenP m (n / 128) (by
        rw [Nat.div_lt_iff_lt_mul (by omega)]
        rw [Nat.pow_succ] at h; exact h)
      simp only [List.length_cons]; omega
theorem natB_len9 {n : Nat} (h : n < 9223372036854775808) : (natB n).length ≤ 9 := natB_lenP 8 n (by simpa using h)
/-- The bytes of a natural are put behind. -/
theorem natural_ok {st0 st : St} {v : TV} {l : List UInt8} {n : Nat} {N : Int} (hN : N = (n : Int)) (hn : n ≤ 1000000000000000000) (e : StExt st0 st) (h : OwnB st0.nt st v l) (hl : l.length ≤ 100000000000) {K : TV → St → Prop}
    (hk : ∀ v' st', StExt st0 st' → OwnB st0.nt st' v' (l ++ natB n) → K v' st') : CallT PR fn_canon_natural [v, .int .u64 N] [.one .tv] st K := by
  subst hN
  have hL := natB_len9 (n := n) (by omega)
  refine vc_canon_natural _ _ st K ⟨fun u m st' => ∃ (k : Nat) (p : List UInt8), m = (k : Int) ∧ natB n = p ++ natB k ∧ k ≤ n ∧ StExt st0 st' ∧ OwnB st0.nt st' u (l ++ p), fun _ m _ => m.toNat, ⟨n, [], rfl, rfl, Nat.le_refl _, e, by simpa using h⟩, ?_⟩
  rintro u _ st1 ⟨k, p, rfl, hp, hkn, e1, h1⟩
  have hpl : p.length ≤ 9 := by rw [hp, List.length_append] at hL; omega
  refine BIf_intro (fun g => ?_) fun g => ?_
  · have hk' : natB k = (k % 128 + 128).toUInt8 :: natB (k / 128) := by rw [natB]; rw [dif_neg (by omega)]
    refine appK_ys (ys := [(k % 128 + 128).toUInt8]) e1 h1 rfl (by simp only [bytesT, List.map_cons, List.map_nil, byteT]; rw [hi_byte]) (by simp only [List.length_append, List.length_cons, List.length_nil]; omega) fun v' st' e' _ ho => ?_
    rw [fdiv128]
    refine ⟨⟨k / 128, p ++ [(k % 128 + 128).toUInt8], rfl, by rw [hp, hk']; simp, by omega, e', by simpa using ho⟩, by dsimp only; omega⟩
  · have hk' : natB k = [k.toUInt8] := by rw [natB]; rw [dif_pos (by omega)]
    refine appK_ys (ys := [k.toUInt8]) e1 h1 rfl (by simp only [bytesT, List.map_cons, List.map_nil, byteT]; rw [w8_lt _ (by omega)]) (by simp only [List.length_append, List.length_cons, List.length_nil]; omega) fun v' st' e' _ ho => hk v' st' e' (by rw [hp, hk', ← List.append_assoc]; exact ho)
end Go.TVF
end

section
namespace Go.TVF
open Go Go.Proofs
set_option linter.unusedVariables false
set_option linter.unusedSimpArgs false
theorem u64_nat (n : Nat) (h : n ≤ 1000000000000000) : IntKind.u64.wrap (n : Int) = (n : Int) := by
  unfold IntKind.wrap
  simp only [IntKind.signed, IntKind.bits]
  simp
  omega
/-- A string's length and its bytes. -/
def strB (s : List UInt8) : List UInt8 := natB s.length ++ s
theorem str_ok {st0 st : St} {v : TV} {l s : List UInt8} (hs : s.length ≤ 10000000000) (e : StExt st0 st) (h : OwnB st0.nt st v l) (hl : l.length ≤ 10000000000) {K : TV → St → Prop} (hk : ∀ v' st', StExt st0 st' → OwnB st0.nt st' v' (l ++ strB s) → K v' st') :
    CallT PR fn_canon_str [v, .str s] [.one .tv] st K := by
  refine vc_canon_str _ _ st K (natural_ok (u64_nat _ (by omega)) (by omega) e h (by omega) fun v1 st1 e1 h1 => optK_intro (src_str st1 s) (need_intro ?_ ?_))
  · rw [List.all_eq_true]; intro x hx
    simp only [bytesT, List.mem_map] at hx
    obtain ⟨y, _, rfl⟩ := hx; rfl
  · have := natB_len s.length
    exact appK_bytes e1 h1 (by rw [List.length_append]; omega) fun v' st' e' _ ho => hk v' st' e' (by simpa [strB] using ho)
theorem countV_ok {st0 st : St} {v u : TV} {l : List UInt8} {n : Nat} {sz : Nat} {xs : List TV} (hu : SlR st sz u n xs) (hn : n ≤ 10000000000) (e : StExt st0 st) (h : OwnB st0.nt st v l) (hl : l.length ≤ 10000000000) {K : TV → St → Prop} (hk : ∀ v' st', StExt st0 st' → OwnB st0.nt st' v' (l ++ natB n) → K v' st') :
    CallT PR fn_canon_count_api_Value_ [v, u] [.one .tv] st K := by
  refine vc_canon_count_api_Value_ _ _ st K (need_intro hu.isSl ?_)
  rw [hu.lenS]
  exact natural_ok (u64_nat _ (by omega)) (by omega) e h (by omega) hk
theorem countF_ok {st0 st : St} {v u : TV} {l : List UInt8} {n : Nat} {sz : Nat} {xs : List TV} (hu : SlR st sz u n xs) (hn : n ≤ 10000000000) (e : StExt st0 st) (h : OwnB st0.nt st v l) (hl : l.length ≤ 10000000000) {K : TV → St → Prop} (hk : ∀ v' st', StExt st0 st' → OwnB st0.nt st' v' (l ++ natB n) → K v' st') :
    CallT PR fn_canon_count_api_Field_ [v, u] [.one .tv] st K := by
  refine vc_canon_count_api_Field_ _ _ st K (need_intro hu.isSl ?_)
  rw [hu.lenS]
  exact natural_ok (u64_nat _ (by omega)) (by omega) e h (by omega) hk
theorem countB_ok {st0 st : St} {v u : TV} {l : List UInt8} {n : Nat} {sz : Nat} {xs : List TV} (hu : SlR st sz u n xs) (hn : n ≤ 10000000000) (e : StExt st0 st) (h : OwnB st0.nt st v l) (hl : l.length ≤ 10000000000) {K : TV → St → Prop} (hk : ∀ v' st', StExt st0 st' → OwnB st0.nt st' v' (l ++ natB n) → K v' st') :
    CallT PR fn_canon_count_byte_ [v, u] [.one .tv] st K := by
  refine vc_canon_count_byte_ _ _ st K (need_intro hu.isSl ?_)
  rw [hu.lenS]
  exact natural_ok (u64_nat _ (by omega)) (by omega) e h (by omega) hk
/-- The natural of an integer. -/
def zig (n : Int) : Nat := if 0 ≤ n then (2 * n).toNat else (-2 * n - 1).toNat
theorem zig_le {n : Int} (h1 : -100000000000 ≤ n) (h2 : n ≤ 100000000000) : zig n ≤ 200000000000 := by unfold zig; split <;> omega
theorem fold_ok {n : Int} (h1 : -100000000000 ≤ n) (h2 : n ≤ 100000000000) {st : St} {K : Int → St → Prop} (hk : K (zig n : Nat) st) : CallT PR fn_canon_fold [.int .i64 n] [.one (.int .u64)] st K := by
  refine vc_canon_fold n st K (BIf_intro (fun g => ?_) fun g => ?_)
  · rw [wrap64 (n + 1) (by omega) (by omega), wrap64 _ (by omega) (by omega)]
    obtain ⟨m, hm⟩ : ∃ m : Nat, (0 : Int) - (n + 1) = (m : Int) := ⟨(0 - (n + 1)).toNat, by omega⟩
    rw [hm, u64_nat m (by omega), show (m : Int) * 2 = ((m * 2 : Nat) : Int) by omega, u64_nat _ (by omega), show ((m * 2 : Nat) : Int) + 1 = ((m * 2 + 1 : Nat) : Int) by omega, u64_nat _ (by omega)]
    have : zig n = m * 2 + 1 := by unfold zig; rw [if_neg (by omega)]; omega
    rw [← this]; exact hk
  · obtain ⟨m, hm⟩ : ∃ m : Nat, n = (m : Int) := ⟨n.toNat, by omega⟩
    subst hm
    rw [u64_nat m (by omega), show (m : Int) * 2 = ((m * 2 : Nat) : Int) by omega, u64_nat _ (by omega)]
    have : zig (m : Int) = m * 2 := by unfold zig; rw [if_pos (by omega)]; omega
    rw [← this]; exact hk
end Go.TVF
end

section
namespace Go.TVF
open Go Go.Proofs
set_option linter.unusedVariables false
set_option linter.unusedSimpArgs false
def numB (neg : Bool) (dg : List UInt8) (ex : Int) : List UInt8 := if dg = [] then [0] else (if neg then 2 else 1) :: (natB (zig ex) ++ strB dg)
theorem zig_len (ex : Int) (h1 : -1000000 ≤ ex) (h2 : ex ≤ 1000000) : (natB (zig ex)).length ≤ 3000000 := by
  have := natB_len (zig ex)
  have : zig ex ≤ 2000000 := by unfold zig; split <;> omega
  omega
theorem number_ok {st0 st : St} {v : TV} {l dg : List UInt8} {neg : Bool} {ex : Int} (hd : dg.length ≤ 10000000) (h1 : -1000000 ≤ ex) (h2 : ex ≤ 1000000) (e : StExt st0 st) (h : OwnB st0.nt st v l) (hl : l.length ≤ 1000000000) {K : TV → St → Prop} (hk : ∀ v' st', StExt st0 st' → OwnB st0.nt st' v' (l ++ numB neg dg ex) → K v' st') :
    CallT PR fn_canon_number [v, .agg [.bool neg, .str dg, .int .i64 ex]] [.one .tv] st K := by
  have hz := zig_len ex h1 h2
  have rest : ∀ (c : UInt8) (v2 : TV) (st2 : St), dg ≠ [] → (if neg then 2 else 1) = c → StExt st0 st2 → OwnB st0.nt st2 v2 (l ++ [c]) → CallT PR fn_canon_fold [.int .i64 ex] [.one (.int .u64)] st2 fun (n1 : Int) (st3 : St) => CallT PR fn_canon_natural [v2, .int .u64 n1] [.one .tv] st3 fun (v3 : TV) (st4 : St) => CallT PR fn_canon_str [v3, .str dg] [.one .tv] st4 fun (v4 : TV) (st5 : St) => K v4 st5 := by
    intro c v2 st2 hne hc e2 h2'
    refine fold_ok (by omega) (by omega) (natural_ok rfl (by have := zig_le (n := ex) (by omega) (by omega); omega) e2 h2' (by simp only [List.length_append, List.length_cons, List.length_nil]; omega) fun v3 st4 e4 h4 => str_ok (by omega) e4 h4 (by simp only [List.length_append, List.length_cons, List.length_nil]; omega) fun v4 st5 e5 h5 => hk v4 st5 e5 ?_)
    unfold numB
    rw [if_neg hne, hc]
    simpa using h5
  refine vc_canon_number _ neg dg ex st K (BIf_intro (fun g => ?_) fun g => BIf_bool (fun hneg => ?_) fun hneg => ?_)
  · refine appK_ys (ys := [0]) e h rfl rfl (by simp only [List.length_cons, List.length_nil]; omega) fun v' st' e' _ ho => hk v' st' e' ?_
    unfold numB; rw [if_pos g]; exact ho
  · exact appK_ys (ys := [2]) e h rfl rfl (by simp only [List.length_cons, List.length_nil]; omega) fun v' st' e' _ ho => rest 2 v' st' g (by rw [hneg]; rfl) e' ho
  · exact appK_ys (ys := [1]) e h rfl rfl (by simp only [List.length_cons, List.length_nil]; omega) fun v' st' e' _ ho => rest 1 v' st' g (by rw [hneg]; rfl) e' ho
end Go.TVF
end

section
namespace Go.TVF
open Go Go.Proofs
set_option linter.unusedVariables false
set_option linter.unusedSimpArgs false
/-- What a value's own fields may be (of a valid value). -/
structure ScOk (s : Sc) : Prop where
  k0 : 0 ≤ s.kind
  k7 : s.kind ≤ 7
  dg : s.dg.length ≤ 10000000
  e1 : -1000000 ≤ s.ex
  e2 : s.ex ≤ 1000000
  t0 : 0 ≤ s.tk
  t4 : s.tk ≤ 255
  d0 : 0 ≤ s.td
  d1 : s.td ≤ 100000000000
  n0 : 0 ≤ s.tn
  n1 : s.tn ≤ 100000000000000
  z0 : -1000000 ≤ s.tz
  z1 : s.tz ≤ 1000000
mutual
def VOk : Vl → Prop
  | .mk s l f => ScOk s ∧ VsOk l ∧ FsOk f
def VsOk : List Vl → Prop
  | [] => True
  | v :: r => VOk v ∧ VsOk r
def FdOk : Fd → Prop
  | .mk _ v => VOk v
def FsOk : List Fd → Prop
  | [] => True
  | d :: r => FdOk d ∧ FsOk r
end
mutual
/-- The canonical bytes, the fields in the order in which they stand. -/
def bytesV : Vl → List UInt8
  | .mk s l f => s.kind.toNat.toUInt8 :: (if s.kind = 1 then [if s.b then 1 else 0] else if s.kind = 2 then numB s.neg s.dg s.ex
      else if s.kind = 3 then s.tk.toNat.toUInt8 :: (natB s.td.toNat ++ (natB s.tn.toNat ++ natB (zig s.tz))) else if s.kind = 4 then strB s.text
      else if s.kind = 5 then strB s.bytes else if s.kind = 6 then natB l.length ++ bytesVs l else if s.kind = 7 then natB f.length ++ bytesFs f else [])
def bytesVs : List Vl → List UInt8
  | [] => []
  | v :: r => bytesV v ++ bytesVs r
def bytesD : Fd → List UInt8
  | .mk k v => strB k ++ bytesV v
def bytesFs : List Fd → List UInt8
  | [] => []
  | d :: r => bytesD d ++ bytesFs r
end
theorem bytesVs_app : ∀ l m : List Vl, bytesVs (l ++ m) = bytesVs l ++ bytesVs m
  | [], m => by simp [bytesVs]
  | v :: r, m => by simp only [List.cons_append, bytesVs]; rw [bytesVs_app r m, List.append_assoc]
theorem bytesFs_app : ∀ l m : List Fd, bytesFs (l ++ m) = bytesFs l ++ bytesFs m
  | [], m => by simp [bytesFs]
  | v :: r, m => by simp only [List.cons_append, bytesFs]; rw [bytesFs_app r m, List.append_assoc]
end Go.TVF
end

section
namespace Go.TVF
open Go Go.Proofs
set_option linter.unusedVariables false
set_option linter.unusedSimpArgs false
/-- The zeros at the end. -/
def zerosN (l : List UInt8) : Nat := (l.reverse.takeWhile (· == 48)).length
def isDg (c : UInt8) : Prop := 48 ≤ c.toNat ∧ c.toNat ≤ 57
instance (c : UInt8) : Decidable (isDg c) := inferInstanceAs (Decidable (_ ∧ _))
/-- A valid decimal. -/
def DecOk (neg : Bool) (dg : List UInt8) (ex : Int) : Prop :=
  (dg = [] → neg = false ∧ ex = 0) ∧ (dg ≠ [] → dg.length ≤ 120 ∧ (∀ c, c ∈ dg → isDg c) ∧ dg.getD 0 0 ≠ 48 ∧ zerosN dg = 0 ∧ -400 ≤ ex ∧ ex ≤ 400)
instance (neg : Bool) (dg : List UInt8) (ex : Int) : Decidable (DecOk neg dg ex) := inferInstanceAs (Decidable ((_ → _) ∧ (_ → _)))
/-- A valid time. -/
def TimeOk (k d n z : Int) : Prop :=
  1 ≤ k ∧ k ≤ 4 ∧ 0 ≤ d ∧ d ≤ 3652058 ∧ 0 ≤ n ∧ n ≤ 86399999999999 ∧ -1439 ≤ z ∧ z ≤ 1439 ∧ (k = 2 → d = 0) ∧ (k = 1 → n = 0) ∧ (k ≠ 4 → z = 0)
instance (k d n z : Int) : Decidable (TimeOk k d n z) := inferInstanceAs (Decidable (_ ∧ _ ∧ _ ∧ _ ∧ _ ∧ _ ∧ _ ∧ _ ∧ (_ → _) ∧ (_ → _) ∧ (_ → _)))
/-- The kind is a kind, and what the kind does not have is zero. -/
structure OwnOk (s : Sc) (l : List Vl) (f : List Fd) : Prop where
  k0 : 0 ≤ s.kind
  k7 : s.kind ≤ 7
  bo : s.kind ≠ 1 → s.b = false
  nu : s.kind ≠ 2 → s.neg = false ∧ s.dg = [] ∧ s.ex = 0
  ti : s.kind ≠ 3 → s.tk = 0 ∧ s.td = 0 ∧ s.tn = 0 ∧ s.tz = 0
  tx : s.kind ≠ 4 → s.text = []
  by_ : s.kind ≠ 5 → s.bytes = []
  ls : s.kind ≠ 6 → l = []
  fs : s.kind ≠ 7 → f = []
noncomputable instance (s : Sc) (l : List Vl) (f : List Fd) : Decidable (OwnOk s l f) := Classical.propDecidable _
def U8 (s : List UInt8) : Prop := vlen s = s.length
instance (s : List UInt8) : Decidable (U8 s) := inferInstanceAs (Decidable (_ = _))
/-- What is wrong with keys, some being taken. -/
def keysE (seen : List (List UInt8)) : List Fd → Nat
  | [] => 0
  | d :: r => if U8 d.key then (if 1024 < d.key.length then 10 else if d.key ∈ seen then 8 else keysE (d.key :: seen) r) else 5
/-- What is wrong with a value but for the values in it. -/
noncomputable def oneE (s : Sc) (l : List Vl) (f : List Fd) : Nat :=
  if OwnOk s l f then (if DecOk s.neg s.dg s.ex then (if s.kind = 3 → TimeOk s.tk s.td s.tn s.tz then (if U8 s.text then (if 65536 < s.text.length then 10 else if 65536 < s.bytes.length then 10 else keysE [] f) else 5) else 2) else 2) else 6
/-- How many values were visited, and what is wrong. -/
noncomputable def thenE (x : Nat × Nat) (f : Nat → Nat × Nat) : Nat × Nat := if x.2 = 0 then f x.1 else x
mutual
noncomputable def chkV (d n : Nat) : Vl → Nat × Nat
  | .mk s l f => if 48 < d then (n, 9) else if 65536 ≤ n then (n, 10) else if oneE s l f ≠ 0 then (n, oneE s l f) else thenE (chkVs (d + 1) (n + 1) l) fun m => chkFs (d + 1) m f
noncomputable def chkVs (d n : Nat) : List Vl → Nat × Nat
  | [] => (n, 0)
  | v :: r => thenE (chkV d n v) fun m => chkVs d m r
noncomputable def chkD (d n : Nat) : Fd → Nat × Nat
  | .mk _ v => chkV d n v
noncomputable def chkFs (d n : Nat) : List Fd → Nat × Nat
  | [] => (n, 0)
  | x :: r => thenE (chkD d n x) fun m => chkFs d m r
end
/-- P7.1. -/
noncomputable def checkV (v : Vl) : Nat := (chkV 1 0 v).2
theorem thenE_zero {x : Nat × Nat} {f : Nat → Nat × Nat} (h : (thenE x f).2 = 0) : x.2 = 0 ∧ (f x.1).2 = 0 := by
  unfold thenE at h
  split at h
  · rename_i h0; exact ⟨h0, h⟩
  · rename_i h0; exact absurd h h0
theorem thenE_ok {x : Nat × Nat} {f : Nat → Nat × Nat} (h : x.2 = 0) : thenE x f = f x.1 := by unfold thenE; rw [if_pos h]
theorem thenE_err {x : Nat × Nat} {f : Nat → Nat × Nat} (h : x.2 ≠ 0) : thenE x f = x := by unfold thenE; rw [if_neg h]
theorem keysE_nd : ∀ (f : List Fd) (seen : List (List UInt8)), keysE seen f = 0 → KeysNd f ∧ (∀ d, d ∈ f → d.key ∉ seen ∧ U8 d.key ∧ d.key.length ≤ 1024)
  | [], seen, _ => ⟨List.nodup_nil, fun d h => by cases h⟩
  | d :: r, seen, h => by
    unfold keysE at h
    split at h
    · rename_i h1
      split at h
      · cases h
      · rename_i h2
        split at h
        · cases h
        · rename_i h3
          obtain ⟨k1, k2⟩ := keysE_nd r (d.key :: seen) h
          refine ⟨?_, fun x hx => ?_⟩
          · unfold KeysNd
            rw [List.map_cons, List.nodup_cons]
            refine ⟨fun hm => ?_, k1⟩
            obtain ⟨x, hx, he⟩ := List.mem_map.1 hm
            exact (k2 x hx).1 (he ▸ .head _)
          · rcases List.mem_cons.1 hx with rfl | hx
            · exact ⟨h3, h1, by omega⟩
            · obtain ⟨q1, q2, q3⟩ := k2 x hx
              exact ⟨fun hm => q1 (.tail _ hm), q2, q3⟩
    · cases h
/-- What a valid value is, but for the values in it. -/
structure OneOk (s : Sc) (l : List Vl) (f : List Fd) : Prop where
  own : OwnOk s l f
  dec : DecOk s.neg s.dg s.ex
  time : s.kind = 3 → TimeOk s.tk s.td s.tn s.tz
  text : U8 s.text
  tlen : s.text.length ≤ 65536
  blen : s.bytes.length ≤ 65536
  keys : keysE [] f = 0
theorem oneE_zero {s : Sc} {l : List Vl} {f : List Fd} : oneE s l f = 0 ↔ OneOk s l f := by
  unfold oneE
  constructor
  · intro h
    split at h
    · rename_i h1
      split at h
      · rename_i h2
        split at h
        · rename_i h3
          split at h
          · rename_i h4
            split at h
            · cases h
            · rename_i h5
              split at h
              · cases h
              · rename_i h6
                exact ⟨h1, h2, h3, h4, by omega, by omega, h⟩
          · cases h
        · cases h
      · cases h
    · cases h
  · intro h
    rw [if_pos h.own, if_pos h.dec, if_pos h.time, if_pos h.text, if_neg (by have := h.tlen; omega), if_neg (by have := h.blen; omega)]
    exact h.keys
mutual
def Valid : Vl → Prop
  | .mk s l f => OneOk s l f ∧ Valids l ∧ Validf f
def Valids : List Vl → Prop
  | [] => True
  | v :: r => Valid v ∧ Valids r
def ValidD : Fd → Prop
  | .mk _ v => Valid v
def Validf : List Fd → Prop
  | [] => True
  | d :: r => ValidD d ∧ Validf r
end
mutual
theorem chkV_ok : ∀ (v : Vl) (d n : Nat), (chkV d n v).2 = 0 → Valid v
  | .mk s l f, d, n, h => by
    unfold chkV at h
    unfold Valid
    split at h
    · cases h
    · split at h
      · cases h
      · split at h
        · rename_i h1; exact absurd h h1
        · rename_i h1
          obtain ⟨h2, h3⟩ := thenE_zero h
          exact ⟨oneE_zero.1 (Decidable.of_not_not h1), chkVs_ok l _ _ h2, chkFs_ok f _ _ h3⟩
theorem chkVs_ok : ∀ (l : List Vl) (d n : Nat), (chkVs d n l).2 = 0 → Valids l
  | [], d, n, _ => by unfold Valids; trivial
  | v :: r, d, n, h => by
    unfold chkVs at h
    unfold Valids
    obtain ⟨h2, h3⟩ := thenE_zero h
    exact ⟨chkV_ok v _ _ h2, chkVs_ok r _ _ h3⟩
theorem chkD_ok : ∀ (x : Fd) (d n : Nat), (chkD d n x).2 = 0 → ValidD x
  | .mk k v, d, n, h => by unfold chkD at h; unfold ValidD; exact chkV_ok v _ _ h
theorem chkFs_ok : ∀ (l : List Fd) (d n : Nat), (chkFs d n l).2 = 0 → Validf l
  | [], d, n, _ => by unfold Validf; trivial
  | x :: r, d, n, h => by
    unfold chkFs at h
    unfold Validf
    obtain ⟨h2, h3⟩ := thenE_zero h
    exact ⟨chkD_ok x _ _ h2, chkFs_ok r _ _ h3⟩
end
theorem OneOk.sc {s : Sc} {l : List Vl} {f : List Fd} (h : OneOk s l f) : ScOk s := by
  obtain ⟨own, dec, time, text, tlen, blen, keys⟩ := h
  have hd : s.dg.length ≤ 120 ∧ -400 ≤ s.ex ∧ s.ex ≤ 400 := by
    by_cases h0 : s.dg = []
    · have := dec.1 h0; rw [h0]; simp only [List.length_nil]; omega
    · have := dec.2 h0; exact ⟨this.1, this.2.2.2.2⟩
  have ht : 0 ≤ s.tk ∧ s.tk ≤ 255 ∧ 0 ≤ s.td ∧ s.td ≤ 100000000000 ∧ 0 ≤ s.tn ∧ s.tn ≤ 100000000000000 ∧ -1000000 ≤ s.tz ∧ s.tz ≤ 1000000 := by
    by_cases h3 : s.kind = 3
    · have := time h3; unfold TimeOk at this; omega
    · have := own.ti h3; omega
  exact ⟨own.k0, own.k7, by omega, by omega, by omega, ht.1, ht.2.1, ht.2.2.1, ht.2.2.2.1, ht.2.2.2.2.1, ht.2.2.2.2.2.1, ht.2.2.2.2.2.2.1, ht.2.2.2.2.2.2.2⟩
mutual
theorem Valid.ok : ∀ {v : Vl}, Valid v → VOk v ∧ KNd v
  | .mk s l f, h => by
    unfold Valid at h
    unfold VOk KNd
    obtain ⟨h1, h2, h3⟩ := h
    have a := Valids.ok h2
    have b := Validf.ok h3
    exact ⟨⟨h1.sc, a.1, b.1⟩, a.2, (keysE_nd _ _ h1.keys).1, b.2⟩
theorem Valids.ok : ∀ {l : List Vl}, Valids l → VsOk l ∧ KNds l
  | [], h => by unfold VsOk KNds; exact ⟨trivial, trivial⟩
  | v :: r, h => by
    unfold Valids at h
    unfold VsOk KNds
    have a := Valid.ok h.1
    have b := Valids.ok h.2
    exact ⟨⟨a.1, b.1⟩, a.2, b.2⟩
theorem ValidD.ok : ∀ {x : Fd}, ValidD x → FdOk x ∧ KNdD x
  | .mk k v, h => by unfold ValidD at h; unfold FdOk KNdD; exact Valid.ok h
theorem Validf.ok : ∀ {l : List Fd}, Validf l → FsOk l ∧ KNdf l
  | [], h => by unfold FsOk KNdf; exact ⟨trivial, trivial⟩
  | v :: r, h => by
    unfold Validf at h
    unfold FsOk KNdf
    have a := ValidD.ok h.1
    have b := Validf.ok h.2
    exact ⟨⟨a.1, b.1⟩, a.2, b.2⟩
end
end Go.TVF
end
