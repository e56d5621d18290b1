/- What the laws below rest on: a framework for Go programs, and contracts of the functions that they reach. -/
import Derived.Test.YtlbcpcdgpnppgaaDoorDeC
section
set_option linter.unusedVariables false
namespace Go.TVF
open Go Go.Proofs
set_option maxRecDepth 100000 in
theorem vc_delim_ours (n_0 : Int) (n_1 : List UInt8) (n_2 : List UInt8) (n_3 : TV) (n_4 : List UInt8) (d_0 : Int) (d_1 : Int) (d_2 : Bool) (d_3 : Bool) (st : St) (K : Bool → St → Prop) (h : CallT PR fn_tree_Check [(.agg [(.int .i64 n_0), (.str n_1), (.str n_2), n_3, (.str n_4)])] [.one (.int .i64)] st (fun (n1 : Int) (st1 : St) => BIf (decide (n1 ≠ (0 : Int))) (K (false) st1) (CallT PR fn_tree_Print [(.agg [(.int .i64 n_0), (.str n_1), (.str n_2), n_3, (.str n_4)])] [.one (.str)] st1 (fun (s1 : List UInt8) (st2 : St) => CallT PR fn_limit_Usual [] [.agg [.int .i64, .int .i64, .int .i64, .int .i64, .int .i64]] st2 (fun (n2 : Int) (n3 : Int) (n4 : Int) (n5 : Int) (n6 : Int) (st3 : St) => CallT PR fn_delim_Parse [(.str s1), (.agg [(.int .u8 d_0), (.int .u8 d_1), (.bool d_2), (.bool d_3)]), (.agg [(.int .i64 n2), (.int .i64 n3), (.int .i64 n4), (.int .i64 n5), (.int .i64 n6)])] [.agg [.int .i64, .str, .str, .tv, .str], .one (.int .i64), .one (.int .i64)] st3 (fun (n7 : Int) (s2 : List UInt8) (s3 : List UInt8) (v1 : TV) (s4 : List UInt8) (n8 : Int) (n9 : Int) (st4 : St) => need (List.all [(.int .i64 n7), (.str s2), (.str s3), v1, (.str s4)] oneT) (BIf (decide (n9 = (0 : Int))) (CallT PR fn_tree_Same [(.agg [(.int .i64 n7), (.str s2), (.str s3), v1, (.str s4)]), (.agg [(.int .i64 n_0), (.str n_1), (.str n_2), n_3, (.str n_4)])] [.one (.bool)] st4 (fun (b1 : Bool) (st5 : St) => K (b1) st5)) (K (false) st4)))))))) : CallT PR fn_delim_ours [(.agg [(.int .i64 n_0), (.str n_1), (.str n_2), n_3, (.str n_4)]), (.agg [(.int .u8 d_0), (.int .u8 d_1), (.bool d_2), (.bool d_3)])] [.one (.bool)] st K :=
  tcalls_fw (cfg := ⟨[2, 3, 5], [], []⟩) (h := .none) mixed (fun _ _ => Tryd.call74 _ _) Tryd.func74 (by kernel_rfl) (by kernel_rfl) h
set_option maxRecDepth 100000 in
theorem vc_delim_text (cell : List UInt8) (d_0 : Int) (d_1 : Int) (d_2 : Bool) (d_3 : Bool) (st : St) (K : List UInt8 → Bool → St → Prop) (h : BIf (decide (cell = ([] : List UInt8))) (K (cell) (false) st) (((0 ≤ (0 : Int) ∧ (0 : Int) < ((cell).length : Int)) ∧ BIf (decide (((List.getD cell (Int.toNat (0 : Int)) 0).toNat : Int) ≠ d_1)) (K (cell) (false) st) (optK ((toBytes st (.list 1 .full 1 [(.int .u8 d_1)])).map TV.str) (fun (x1 : TV) => decT (.str) x1 (fun (s1 : List UInt8) => ((0 ≤ (1 : Int) ∧ (1 : Int) ≤ (IntKind.i64.wrap (((cell).length : Int) - (1 : Int))) ∧ (IntKind.i64.wrap (((cell).length : Int) - (1 : Int))) ≤ ((cell).length : Int)) ∧ ((s1).length + (s1).length ≤ 9223372036854775807 ∧ CallT PR fn_strings_ReplaceAll [(.str (List.drop (Int.toNat (1 : Int)) (List.take (Int.toNat (IntKind.i64.wrap (((cell).length : Int) - (1 : Int)))) cell))), (.str (s1 ++ s1)), (.str s1)] [.one (.str)] st (fun (s2 : List UInt8) (st1 : St) => K (s2) (true) st1))))))))) : CallT PR fn_delim_text [(.str cell), (.agg [(.int .u8 d_0), (.int .u8 d_1), (.bool d_2), (.bool d_3)])] [.one (.str), .one (.bool)] st K :=
  tcalls_fw (cfg := ⟨[3], [], []⟩) (h := .none) mixed (fun _ _ => Tryd.call75 _ _) Tryd.func75 (by kernel_rfl) (by kernel_rfl) h
set_option maxRecDepth 100000 in
theorem vc_tree_check (n_0 : Int) (n_1 : List UInt8) (n_2 : List UInt8) (n_3 : TV) (n_4 : List UInt8) (depth : Int) (seen : Nat) (st : St) (K : Int → St → Prop) (h : BIf (decide ((192 : Int) < depth)) (K ((9 : Int)) st) (optK (ldCell st [] (.t (.box seen 0)) 0) (fun (x1 : TV) => decT (.int .i64) x1 (fun (n1 : Int) => stB st (.box seen 0) [(.int .i64 (IntKind.i64.wrap (n1 + (1 : Int))))] (fun (st1 : St) => optK (ldCell st1 [] (.t (.box seen 0)) 0) (fun (x2 : TV) => decT (.int .i64) x2 (fun (n2 : Int) => BIf (decide ((524288 : Int) < n2)) (K ((10 : Int)) st1) (BIf (decide (n_0 < (1 : Int))) (K ((6 : Int)) st1) (BIf (decide ((12 : Int) ≤ n_0)) (K ((6 : Int)) st1) (CallT PR fn_tree_leaf [(.int .i64 n_0)] [.one (.bool)] st1 (fun (b1 : Bool) (st2 : St) => BIf b1 (need (isSl n_3) (BIf (decide ((0 : Int) < (lenS n_3 : Int))) (K ((1 : Int)) st2) (BIf (decide (n_4 ≠ ([] : List UInt8))) (K ((1 : Int)) st2) (need (isSl n_3) (∃ (I1 : Int → Int → TV → TV → Int → St → Prop) (M1 : Int → Int → TV → TV → Int → St → Nat), (I1 ((0 : Int)) (depth) ((.box seen 0)) (n_3) ((lenS n_3 : Int)) st2) ∧ ∀ (n_1 : Int) (depth_1 : Int) (seen_1 : TV) (v_1 : TV) (n_2 : Int) (st3 : St), I1 n_1 depth_1 seen_1 v_1 n_2 st3 → (BIf (decide (n_1 < n_2)) (((0 ≤ n_1 ∧ n_1 < (lenZ 5 v_1 : Int)) ∧ optK ((ldCells st3 [] (.t (ixT 5 v_1 (Int.toNat n_1))) 0 5).map TV.agg) (fun (x3 : TV) => decA [.int .i64, .str, .str, .tv, .str] x3 (fun (n3 : Int) (s1 : List UInt8) (s2 : List UInt8) (v1 : TV) (s3 : List UInt8) => need (List.all [(.int .i64 n3), (.str s1), (.str s2), v1, (.str s3)] oneT) (CallT PR fn_tree_check [(.agg [(.int .i64 n3), (.str s1), (.str s2), v1, (.str s3)]), (.int .i64 (IntKind.i64.wrap (depth_1 + (1 : Int)))), seen_1] [.one (.int .i64)] st3 (fun (n4 : Int) (st4 : St) => BIf (decide (n4 ≠ (0 : Int))) (K (n4) st4) ((I1 ((IntKind.i64.wrap (n_1 + (1 : Int)))) (depth_1) (seen_1) (v_1) (n_2) st4 ∧ M1 ((IntKind.i64.wrap (n_1 + (1 : Int)))) (depth_1) (seen_1) (v_1) (n_2) st4 < M1 n_1 depth_1 seen_1 v_1 n_2 st3)))))))) (K ((0 : Int)) st3))))))) (need (isSl n_3) (∃ (I2 : Int → Int → TV → TV → Int → St → Prop) (M2 : Int → Int → TV → TV → Int → St → Nat), (I2 ((0 : Int)) (depth) ((.box seen 0)) (n_3) ((lenS n_3 : Int)) st2) ∧ ∀ (n_3 : Int) (depth_2 : Int) (seen_2 : TV) (v_2 : TV) (n_4 : Int) (st5 : St), I2 n_3 depth_2 seen_2 v_2 n_4 st5 → (BIf (decide (n_3 < n_4)) (((0 ≤ n_3 ∧ n_3 < (lenZ 5 v_2 : Int)) ∧ optK ((ldCells st5 [] (.t (ixT 5 v_2 (Int.toNat n_3))) 0 5).map TV.agg) (fun (x4 : TV) => decA [.int .i64, .str, .str, .tv, .str] x4 (fun (n5 : Int) (s4 : List UInt8) (s5 : List UInt8) (v2 : TV) (s6 : List UInt8) => need (List.all [(.int .i64 n5), (.str s4), (.str s5), v2, (.str s6)] oneT) (CallT PR fn_tree_check [(.agg [(.int .i64 n5), (.str s4), (.str s5), v2, (.str s6)]), (.int .i64 (IntKind.i64.wrap (depth_2 + (1 : Int)))), seen_2] [.one (.int .i64)] st5 (fun (n6 : Int) (st6 : St) => BIf (decide (n6 ≠ (0 : Int))) (K (n6) st6) ((I2 ((IntKind.i64.wrap (n_3 + (1 : Int)))) (depth_2) (seen_2) (v_2) (n_4) st6 ∧ M2 ((IntKind.i64.wrap (n_3 + (1 : Int)))) (depth_2) (seen_2) (v_2) (n_4) st6 < M2 n_3 depth_2 seen_2 v_2 n_4 st5)))))))) (K ((0 : Int)) st5))))))))))))))) : CallT PR fn_tree_check [(.agg [(.int .i64 n_0), (.str n_1), (.str n_2), n_3, (.str n_4)]), (.int .i64 depth), (.box seen 0)] [.one (.int .i64)] st K :=
  tcalls_fw (cfg := ⟨[3, 8], [], []⟩) (h := (.seq .none (.seq .none (.seq .none (.seq .none (.seq .none (.seq (.seq .none (.block (.loop ⟨[(46, .int .i64), (1, .int .i64), (2, .tv), (44, .tv), (45, .int .i64)], [], [], []⟩ .none))) .none))))))) mixed (fun _ _ => Tryd.call76 _ _) Tryd.func76 (by kernel_rfl) (by kernel_rfl) h
set_option maxRecDepth 100000 in
theorem vc_tree_write (b : Nat) (n_0 : Int) (n_1 : List UInt8) (n_2 : List UInt8) (n_3 : TV) (n_4 : List UInt8) (st : St) (K : St → Prop) (h : CallT PR fn_strings_Builder_WriteString [(.box b 0), (.str n_1)] [.one (.int .i64), .one (.tv)] st (fun (n1 : Int) (v1 : TV) (st1 : St) => CallT PR fn_strings_Builder_WriteString [(.box b 0), (.str n_2)] [.one (.int .i64), .one (.tv)] st1 (fun (n2 : Int) (v2 : TV) (st2 : St) => need (isSl n_3) (∃ (I1 : Int → TV → TV → Int → Int → List UInt8 → List UInt8 → TV → List UInt8 → St → Prop) (M1 : Int → TV → TV → Int → Int → List UInt8 → List UInt8 → TV → List UInt8 → St → Nat), (I1 ((0 : Int)) ((.box b 0)) (n_3) ((lenS n_3 : Int)) (n_0) (n_1) (n_2) (n_3) (n_4) st2) ∧ ∀ (n_1 : Int) (b_1 : TV) (v_1 : TV) (n_2 : Int) (n3 : Int) (s1 : List UInt8) (s2 : List UInt8) (v3 : TV) (s3 : List UInt8) (st3 : St), I1 n_1 b_1 v_1 n_2 n3 s1 s2 v3 s3 st3 → (BIf (decide (n_1 < n_2)) (((0 ≤ n_1 ∧ n_1 < (lenZ 5 v_1 : Int)) ∧ optK ((ldCells st3 [] (.t (ixT 5 v_1 (Int.toNat n_1))) 0 5).map TV.agg) (fun (x1 : TV) => decA [.int .i64, .str, .str, .tv, .str] x1 (fun (n4 : Int) (s4 : List UInt8) (s5 : List UInt8) (v4 : TV) (s6 : List UInt8) => need (List.all [(.int .i64 n4), (.str s4), (.str s5), v4, (.str s6)] oneT) (CallT PR fn_tree_write [b_1, (.agg [(.int .i64 n4), (.str s4), (.str s5), v4, (.str s6)])] [] st3 (fun  (st4 : St) => (I1 ((IntKind.i64.wrap (n_1 + (1 : Int)))) (b_1) (v_1) (n_2) (n3) (s1) (s2) (v3) (s3) st4 ∧ M1 ((IntKind.i64.wrap (n_1 + (1 : Int)))) (b_1) (v_1) (n_2) (n3) (s1) (s2) (v3) (s3) st4 < M1 n_1 b_1 v_1 n_2 n3 s1 s2 v3 s3 st3))))))) (CallT PR fn_strings_Builder_WriteString [b_1, (.str s3)] [.one (.int .i64), .one (.tv)] st3 (fun (n5 : Int) (v5 : TV) (st5 : St) => K  st5))))))) : CallT PR fn_tree_write [(.box b 0), (.agg [(.int .i64 n_0), (.str n_1), (.str n_2), n_3, (.str n_4)])] [] st K :=
  tcalls_fw (cfg := ⟨[3, 5], [], []⟩) (h := (.seq .none (.seq .none (.seq .none (.seq (.seq .none (.block (.loop ⟨[(17, .int .i64), (0, .tv), (15, .tv), (16, .int .i64)], [(3, 0, 0)], [(0, 5)], [(0, 0, .int .i64), (0, 1, .str), (0, 2, .str), (0, 3, .tv), (0, 4, .str)]⟩ .none))) .none))))) mixed (fun _ _ => Tryd.call77 _ _) Tryd.func77 (by kernel_rfl) (by kernel_rfl) h
set_option maxRecDepth 100000 in
theorem vc_datakitref20_Before (src : List UInt8) (l_0 : Int) (l_1 : Int) (l_2 : Int) (l_3 : Int) (l_4 : Int) (st : St) (K : Int → Int → St → Prop) (h : CallT PR fn_datakitref11_Valid [(.agg [(.int .i64 l_0), (.int .i64 l_1), (.int .i64 l_2), (.int .i64 l_3), (.int .i64 l_4)])] [.one (.bool)] st (fun (b1 : Bool) (st1 : St) => BIf (!b1) (K ((0 : Int)) ((1 : Int)) st1) (BIf (decide (l_2 < ((src).length : Int))) (K ((0 : Int)) ((10 : Int)) st1) (CallT PR fn_datakitref03_Bad [(.str src)] [.one (.int .i64)] st1 (fun (n1 : Int) (st2 : St) => BIf (decide (n1 < ((src).length : Int))) (K (n1) ((5 : Int)) st2) (K ((0 : Int)) ((0 : Int)) st2)))))) : CallT PR fn_datakitref20_Before [(.str src), (.agg [(.int .i64 l_0), (.int .i64 l_1), (.int .i64 l_2), (.int .i64 l_3), (.int .i64 l_4)])] [.one (.int .i64), .one (.int .i64)] st K :=
  tcalls_fw (cfg := ⟨[3], [], []⟩) (h := .none) mixed (fun _ _ => Tryd.call78 _ _) Tryd.func78 (by kernel_rfl) (by kernel_rfl) h
set_option maxRecDepth 100000 in
theorem vc_datakitref27_state_begin (x_0 : List UInt8) (x_1 : Int) (x_2 : Int) (x_3 : Bool) (x_4 : Bool) (x_5 : Int) (x_6 : Int) (x_7 : Int) (x_8 : Int) (x_9 : Int) (x_10 : Int) (x_11 : Int) (x_12 : Int) (x_13 : Int) (depth : Int) (st : St) (K : List UInt8 → Int → Int → Bool → Bool → Int → Int → Int → Int → Int → Int → Int → Int → Int → St → Prop) (h : BIf (decide (x_5 < depth)) (CallT PR fn_datakitref27_state_fail [(.agg [(.str x_0), (.int .u8 x_1), (.int .u8 x_2), (.bool x_3), (.bool x_4), (.int .i64 x_5), (.int .i64 x_6), (.int .i64 x_7), (.int .i64 x_8), (.int .i64 x_9), (.int .i64 x_10), (.int .i64 x_11), (.int .i64 x_12), (.int .i64 x_13)]), (.int .i64 x_10), (.int .i64 (9 : Int))] [.agg [.str, .int .u8, .int .u8, .bool, .bool, .int .i64, .int .i64, .int .i64, .int .i64, .int .i64, .int .i64, .int .i64, .int .i64, .int .i64]] st (fun (s1 : List UInt8) (n1 : Int) (n2 : Int) (b1 : Bool) (b2 : Bool) (n3 : Int) (n4 : Int) (n5 : Int) (n6 : Int) (n7 : Int) (n8 : Int) (n9 : Int) (n10 : Int) (n11 : Int) (st1 : St) => K (s1) (n1) (n2) (b1) (b2) (n3) (n4) (n5) (n6) (n7) (n8) (n9) (n10) (n11) st1)) (BIf (decide (x_6 ≤ x_11)) (CallT PR fn_datakitref27_state_fail [(.agg [(.str x_0), (.int .u8 x_1), (.int .u8 x_2), (.bool x_3), (.bool x_4), (.int .i64 x_5), (.int .i64 x_6), (.int .i64 x_7), (.int .i64 x_8), (.int .i64 x_9), (.int .i64 x_10), (.int .i64 x_11), (.int .i64 x_12), (.int .i64 x_13)]), (.int .i64 x_10), (.int .i64 (10 : Int))] [.agg [.str, .int .u8, .int .u8, .bool, .bool, .int .i64, .int .i64, .int .i64, .int .i64, .int .i64, .int .i64, .int .i64, .int .i64, .int .i64]] st (fun (s2 : List UInt8) (n12 : Int) (n13 : Int) (b3 : Bool) (b4 : Bool) (n14 : Int) (n15 : Int) (n16 : Int) (n17 : Int) (n18 : Int) (n19 : Int) (n20 : Int) (n21 : Int) (n22 : Int) (st2 : St) => K (s2) (n12) (n13) (b3) (b4) (n14) (n15) (n16) (n17) (n18) (n19) (n20) (n21) (n22) st2)) (K (x_0) (x_1) (x_2) (x_3) (x_4) (x_5) (x_6) (x_7) (x_8) (x_9) (x_10) ((IntKind.i64.wrap (x_11 + (1 : Int)))) (x_12) (x_13) st))) : CallT PR fn_datakitref27_state_begin [(.agg [(.str x_0), (.int .u8 x_1), (.int .u8 x_2), (.bool x_3), (.bool x_4), (.int .i64 x_5), (.int .i64 x_6), (.int .i64 x_7), (.int .i64 x_8), (.int .i64 x_9), (.int .i64 x_10), (.int .i64 x_11), (.int .i64 x_12), (.int .i64 x_13)]), (.int .i64 depth)] [.agg [.str, .int .u8, .int .u8, .bool, .bool, .int .i64, .int .i64, .int .i64, .int .i64, .int .i64, .int .i64, .int .i64, .int .i64, .int .i64]] st K :=
  tcalls_fw (cfg := ⟨[2, 4], [], []⟩) (h := .none) mixed (fun _ _ => Tryd.call79 _ _) Tryd.func79 (by kernel_rfl) (by kernel_rfl) h
set_option maxRecDepth 100000 in
theorem vc_datakitref27_record (x_0 : List UInt8) (x_1 : Int) (x_2 : Int) (x_3 : Bool) (x_4 : Bool) (x_5 : Int) (x_6 : Int) (x_7 : Int) (x_8 : Int) (x_9 : Int) (x_10 : Int) (x_11 : Int) (x_12 : Int) (x_13 : Int) (many : Int) (header : Bool) (st : St) (K : List UInt8 → Int → Int → Bool → Bool → Int → Int → Int → Int → Int → Int → Int → Int → Int → Int → List UInt8 → List UInt8 → TV → List UInt8 → Int → St → Prop) (h : ∃ (C1 : Int → Bool → TV → List UInt8 → Int → Int → Bool → Bool → Int → Int → Int → Int → Int → Int → Int → Int → Int → Int → List UInt8 → List UInt8 → TV → List UInt8 → St → Prop), (BIf (!header) (CallT PR fn_datakitref27_state_begin [(.agg [(.str x_0), (.int .u8 x_1), (.int .u8 x_2), (.bool x_3), (.bool x_4), (.int .i64 x_5), (.int .i64 x_6), (.int .i64 x_7), (.int .i64 x_8), (.int .i64 x_9), (.int .i64 x_10), (.int .i64 x_11), (.int .i64 x_12), (.int .i64 x_13)]), (.int .i64 (2 : Int))] [.agg [.str, .int .u8, .int .u8, .bool, .bool, .int .i64, .int .i64, .int .i64, .int .i64, .int .i64, .int .i64, .int .i64, .int .i64, .int .i64]] st (fun (s1 : List UInt8) (n1 : Int) (n2 : Int) (b1 : Bool) (b2 : Bool) (n3 : Int) (n4 : Int) (n5 : Int) (n6 : Int) (n7 : Int) (n8 : Int) (n9 : Int) (n10 : Int) (n11 : Int) (st1 : St) => C1 (many) (header) (.nilSlice) (s1) (n1) (n2) (b1) (b2) (n3) (n4) (n5) (n6) (n7) (n8) (n9) (n10) (n11) ((8 : Int)) (([] : List UInt8)) (([] : List UInt8)) (.nilSlice) (([] : List UInt8)) st1)) (C1 (many) (header) (.nilSlice) (x_0) (x_1) (x_2) (x_3) (x_4) (x_5) (x_6) (x_7) (x_8) (x_9) (x_10) (x_11) (x_12) (x_13) ((8 : Int)) (([] : List UInt8)) (([] : List UInt8)) (.nilSlice) (([] : List UInt8)) st)) ∧ ∀ (many_1 : Int) (header_1 : Bool) (names_1 : TV) (s2 : List UInt8) (n12 : Int) (n13 : Int) (b3 : Bool) (b4 : Bool) (n14 : Int) (n15 : Int) (n16 : Int) (n17 : Int) (n18 : Int) (n19 : Int) (n20 : Int) (n21 : Int) (n22 : Int) (n23 : Int) (s3 : List UInt8) (s4 : List UInt8) (v1 : TV) (s5 : List UInt8) (st2 : St), C1 many_1 header_1 names_1 s2 n12 n13 b3 b4 n14 n15 n16 n17 n18 n19 n20 n21 n22 n23 s3 s4 v1 s5 st2 → (∃ (I1 : TV → Int → Int → Bool → List UInt8 → Int → Int → Bool → Bool → Int → Int → Int → Int → Int → Int → Int → Int → Int → Int → List UInt8 → List UInt8 → TV → List UInt8 → St → Prop) (M1 : TV → Int → Int → Bool → List UInt8 → Int → Int → Bool → Bool → Int → Int → Int → Int → Int → Int → Int → Int → Int → Int → List UInt8 → List UInt8 → TV → List UInt8 → St → Nat), (I1 (names_1) ((0 : Int)) (many_1) (header_1) (s2) (n12) (n13) (b3) (b4) (n14) (n15) (n16) (n17) (n18) (n19) (n20) (n21) (n22) (n23) (s3) (s4) (v1) (s5) st2) ∧ ∀ (names_2 : TV) (k_1 : Int) (many_2 : Int) (header_2 : Bool) (s6 : List UInt8) (n24 : Int) (n25 : Int) (b5 : Bool) (b6 : Bool) (n26 : Int) (n27 : Int) (n28 : Int) (n29 : Int) (n30 : Int) (n31 : Int) (n32 : Int) (n33 : Int) (n34 : Int) (n35 : Int) (s7 : List UInt8) (s8 : List UInt8) (v2 : TV) (s9 : List UInt8) (st3 : St), I1 names_2 k_1 many_2 header_2 s6 n24 n25 b5 b6 n26 n27 n28 n29 n30 n31 n32 n33 n34 n35 s7 s8 v2 s9 st3 → (BIf (decide (n34 = (0 : Int))) (BIf (decide ((0 : Int) < many_2)) (BIf (decide (k_1 = many_2)) (CallT PR fn_datakitref27_state_fail [(.agg [(.str s6), (.int .u8 n24), (.int .u8 n25), (.bool b5), (.bool b6), (.int .i64 n26), (.int .i64 n27), (.int .i64 n28), (.int .i64 n29), (.int .i64 n30), (.int .i64 n31), (.int .i64 n32), (.int .i64 n33), (.int .i64 n34)]), (.int .i64 n31), (.int .i64 (10 : Int))] [.agg [.str, .int .u8, .int .u8, .bool, .bool, .int .i64, .int .i64, .int .i64, .int .i64, .int .i64, .int .i64, .int .i64, .int .i64, .int .i64]] st3 (fun (s10 : List UInt8) (n36 : Int) (n37 : Int) (b7 : Bool) (b8 : Bool) (n38 : Int) (n39 : Int) (n40 : Int) (n41 : Int) (n42 : Int) (n43 : Int) (n44 : Int) (n45 : Int) (n46 : Int) (st4 : St) => need (List.all [(.int .i64 n35), (.str s7), (.str s8), v2, (.str s9)] oneT) (K (s10) (n36) (n37) (b7) (b8) (n38) (n39) (n40) (n41) (n42) (n43) (n44) (n45) (n46) (n35) (s7) (s8) (v2) (s9) ((0 : Int)) st4))) (∃ (C2 : Int → Bool → TV → Int → Int → List UInt8 → Int → Int → Bool → Bool → Int → Int → Int → Int → Int → Int → Int → Int → Int → Int → List UInt8 → List UInt8 → TV → List UInt8 → St → Prop), (BIf (!header_2) (CallT PR fn_datakitref27_state_begin [(.agg [(.str s6), (.int .u8 n24), (.int .u8 n25), (.bool b5), (.bool b6), (.int .i64 n26), (.int .i64 n27), (.int .i64 n28), (.int .i64 n29), (.int .i64 n30), (.int .i64 n31), (.int .i64 n32), (.int .i64 n33), (.int .i64 n34)]), (.int .i64 (3 : Int))] [.agg [.str, .int .u8, .int .u8, .bool, .bool, .int .i64, .int .i64, .int .i64, .int .i64, .int .i64, .int .i64, .int .i64, .int .i64, .int .i64]] st3 (fun (s11 : List UInt8) (n47 : Int) (n48 : Int) (b9 : Bool) (b10 : Bool) (n49 : Int) (n50 : Int) (n51 : Int) (n52 : Int) (n53 : Int) (n54 : Int) (n55 : Int) (n56 : Int) (n57 : Int) (st5 : St) => C2 (many_2) (header_2) (names_2) (k_1) (n31) (s11) (n47) (n48) (b9) (b10) (n49) (n50) (n51) (n52) (n53) (n54) (n55) (n56) (n57) (n35) (s7) (s8) (v2) (s9) st5)) (C2 (many_2) (header_2) (names_2) (k_1) (n31) (s6) (n24) (n25) (b5) (b6) (n26) (n27) (n28) (n29) (n30) (n31) (n32) (n33) (n34) (n35) (s7) (s8) (v2) (s9) st3)) ∧ ∀ (many_3 : Int) (header_3 : Bool) (names_3 : TV) (k_2 : Int) (from_1 : Int) (s12 : List UInt8) (n58 : Int) (n59 : Int) (b11 : Bool) (b12 : Bool) (n60 : Int) (n61 : Int) (n62 : Int) (n63 : Int) (n64 : Int) (n65 : Int) (n66 : Int) (n67 : Int) (n68 : Int) (n69 : Int) (s13 : List UInt8) (s14 : List UInt8) (v3 : TV) (s15 : List UInt8) (st6 : St), C2 many_3 header_3 names_3 k_2 from_1 s12 n58 n59 b11 b12 n60 n61 n62 n63 n64 n65 n66 n67 n68 n69 s13 s14 v3 s15 st6 → (CallT PR fn_datakitref27_cell [(.agg [(.str s12), (.int .u8 n58), (.int .u8 n59), (.bool b11), (.bool b12), (.int .i64 n60), (.int .i64 n61), (.int .i64 n62), (.int .i64 n63), (.int .i64 n64), (.int .i64 n65), (.int .i64 n66), (.int .i64 n67), (.int .i64 n68)])] [.agg [.str, .int .u8, .int .u8, .bool, .bool, .int .i64, .int .i64, .int .i64, .int .i64, .int .i64, .int .i64, .int .i64, .int .i64, .int .i64], .one (.str)] st6 (fun (s16 : List UInt8) (n70 : Int) (n71 : Int) (b13 : Bool) (b14 : Bool) (n72 : Int) (n73 : Int) (n74 : Int) (n75 : Int) (n76 : Int) (n77 : Int) (n78 : Int) (n79 : Int) (n80 : Int) (s17 : List UInt8) (st7 : St) => CallT PR fn_datakitref27_Plain [(.str s17), (.agg [(.int .u8 n70), (.int .u8 n71), (.bool b13), (.bool b14)])] [.one (.str)] st7 (fun (s18 : List UInt8) (st8 : St) => ∃ (C3 : Int → Bool → TV → Int → Int → List UInt8 → List UInt8 → List UInt8 → Int → Int → Bool → Bool → Int → Int → Int → Int → Int → Int → Int → Int → Int → Int → List UInt8 → List UInt8 → TV → List UInt8 → St → Prop), (BIf header_3 (BIf (decide ((1024 : Int) < ((s18).length : Int))) (CallT PR fn_datakitref27_state_fail [(.agg [(.str s16), (.int .u8 n70), (.int .u8 n71), (.bool b13), (.bool b14), (.int .i64 n72), (.int .i64 n73), (.int .i64 n74), (.int .i64 n75), (.int .i64 n76), (.int .i64 n77), (.int .i64 n78), (.int .i64 n79), (.int .i64 n80)]), (.int .i64 from_1), (.int .i64 (10 : Int))] [.agg [.str, .int .u8, .int .u8, .bool, .bool, .int .i64, .int .i64, .int .i64, .int .i64, .int .i64, .int .i64, .int .i64, .int .i64, .int .i64]] st8 (fun (s19 : List UInt8) (n81 : Int) (n82 : Int) (b15 : Bool) (b16 : Bool) (n83 : Int) (n84 : Int) (n85 : Int) (n86 : Int) (n87 : Int) (n88 : Int) (n89 : Int) (n90 : Int) (n91 : Int) (st9 : St) => C3 (many_3) (header_3) (names_3) (k_2) (from_1) (s17) (s18) (s19) (n81) (n82) (b15) (b16) (n83) (n84) (n85) (n86) (n87) (n88) (n89) (n90) (n91) (n69) (s13) (s14) (v3) (s15) st9)) (BIf (decide ((65536 : Int) < ((s18).length : Int))) (CallT PR fn_datakitref27_state_fail [(.agg [(.str s16), (.int .u8 n70), (.int .u8 n71), (.bool b13), (.bool b14), (.int .i64 n72), (.int .i64 n73), (.int .i64 n74), (.int .i64 n75), (.int .i64 n76), (.int .i64 n77), (.int .i64 n78), (.int .i64 n79), (.int .i64 n80)]), (.int .i64 from_1), (.int .i64 (10 : Int))] [.agg [.str, .int .u8, .int .u8, .bool, .bool, .int .i64, .int .i64, .int .i64, .int .i64, .int .i64, .int .i64, .int .i64, .int .i64, .int .i64]] st8 (fun (s20 : List UInt8) (n92 : Int) (n93 : Int) (b17 : Bool) (b18 : Bool) (n94 : Int) (n95 : Int) (n96 : Int) (n97 : Int) (n98 : Int) (n99 : Int) (n100 : Int) (n101 : Int) (n102 : Int) (st10 : St) => C3 (many_3) (header_3) (names_3) (k_2) (from_1) (s17) (s18) (s20) (n92) (n93) (b17) (b18) (n94) (n95) (n96) (n97) (n98) (n99) (n100) (n101) (n102) (n69) (s13) (s14) (v3) (s15) st10)) (C3 (many_3) (header_3) (names_3) (k_2) (from_1) (s17) (s18) (s16) (n70) (n71) (b13) (b14) (n72) (n73) (n74) (n75) (n76) (n77) (n78) (n79) (n80) (n69) (s13) (s14) (v3) (s15) st8))) (BIf (decide ((65536 : Int) < ((s18).length : Int))) (CallT PR fn_datakitref27_state_fail [(.agg [(.str s16), (.int .u8 n70), (.int .u8 n71), (.bool b13), (.bool b14), (.int .i64 n72), (.int .i64 n73), (.int .i64 n74), (.int .i64 n75), (.int .i64 n76), (.int .i64 n77), (.int .i64 n78), (.int .i64 n79), (.int .i64 n80)]), (.int .i64 from_1), (.int .i64 (10 : Int))] [.agg [.str, .int .u8, .int .u8, .bool, .bool, .int .i64, .int .i64, .int .i64, .int .i64, .int .i64, .int .i64, .int .i64, .int .i64, .int .i64]] st8 (fun (s21 : List UInt8) (n103 : Int) (n104 : Int) (b19 : Bool) (b20 : Bool) (n105 : Int) (n106 : Int) (n107 : Int) (n108 : Int) (n109 : Int) (n110 : Int) (n111 : Int) (n112 : Int) (n113 : Int) (st11 : St) => C3 (many_3) (header_3) (names_3) (k_2) (from_1) (s17) (s18) (s21) (n103) (n104) (b19) (b20) (n105) (n106) (n107) (n108) (n109) (n110) (n111) (n112) (n113) (n69) (s13) (s14) (v3) (s15) st11)) (C3 (many_3) (header_3) (names_3) (k_2) (from_1) (s17) (s18) (s16) (n70) (n71) (b13) (b14) (n72) (n73) (n74) (n75) (n76) (n77) (n78) (n79) (n80) (n69) (s13) (s14) (v3) (s15) st8))) ∧ ∀ (many_4 : Int) (header_4 : Bool) (names_4 : TV) (k_3 : Int) (from_2 : Int) (s_1 : List UInt8) (t_1 : List UInt8) (s22 : List UInt8) (n114 : Int) (n115 : Int) (b21 : Bool) (b22 : Bool) (n116 : Int) (n117 : Int) (n118 : Int) (n119 : Int) (n120 : Int) (n121 : Int) (n122 : Int) (n123 : Int) (n124 : Int) (n125 : Int) (s23 : List UInt8) (s24 : List UInt8) (v4 : TV) (s25 : List UInt8) (st12 : St), C3 many_4 header_4 names_4 k_3 from_2 s_1 t_1 s22 n114 n115 b21 b22 n116 n117 n118 n119 n120 n121 n122 n123 n124 n125 s23 s24 v4 s25 st12 → (∃ (I2 : Int → Int → Bool → TV → Int → Int → List UInt8 → List UInt8 → List UInt8 → Int → Int → Bool → Bool → Int → Int → Int → Int → Int → Int → Int → Int → Int → Int → List UInt8 → List UInt8 → TV → List UInt8 → St → Prop) (M2 : Int → Int → Bool → TV → Int → Int → List UInt8 → List UInt8 → List UInt8 → Int → Int → Bool → Bool → Int → Int → Int → Int → Int → Int → Int → Int → Int → Int → List UInt8 → List UInt8 → TV → List UInt8 → St → Nat), (I2 ((0 : Int)) (many_4) (header_4) (names_4) (k_3) (from_2) (s_1) (t_1) (s22) (n114) (n115) (b21) (b22) (n116) (n117) (n118) (n119) (n120) (n121) (n122) (n123) (n124) (n125) (s23) (s24) (v4) (s25) st12) ∧ ∀ (i_1 : Int) (many_5 : Int) (header_5 : Bool) (names_5 : TV) (k_4 : Int) (from_3 : Int) (s_2 : List UInt8) (t_2 : List UInt8) (s26 : List UInt8) (n126 : Int) (n127 : Int) (b23 : Bool) (b24 : Bool) (n128 : Int) (n129 : Int) (n130 : Int) (n131 : Int) (n132 : Int) (n133 : Int) (n134 : Int) (n135 : Int) (n136 : Int) (n137 : Int) (s27 : List UInt8) (s28 : List UInt8) (v5 : TV) (s29 : List UInt8) (st13 : St), I2 i_1 many_5 header_5 names_5 k_4 from_3 s_2 t_2 s26 n126 n127 b23 b24 n128 n129 n130 n131 n132 n133 n134 n135 n136 n137 s27 s28 v5 s29 st13 → (BIf header_5 (need (isSl names_5) (BIf (decide (i_1 < (lenS names_5 : Int))) (((0 ≤ i_1 ∧ i_1 < (lenZ 1 names_5 : Int)) ∧ optK (ldCell st13 [] (.t (ixT 1 names_5 (Int.toNat i_1))) 0) (fun (x1 : TV) => decT (.str) x1 (fun (s30 : List UInt8) => BIf (decide (s30 = t_2)) (CallT PR fn_datakitref27_state_fail [(.agg [(.str s26), (.int .u8 n126), (.int .u8 n127), (.bool b23), (.bool b24), (.int .i64 n128), (.int .i64 n129), (.int .i64 n130), (.int .i64 n131), (.int .i64 n132), (.int .i64 n133), (.int .i64 n134), (.int .i64 n135), (.int .i64 n136)]), (.int .i64 from_3), (.int .i64 (8 : Int))] [.agg [.str, .int .u8, .int .u8, .bool, .bool, .int .i64, .int .i64, .int .i64, .int .i64, .int .i64, .int .i64, .int .i64, .int .i64, .int .i64]] st13 (fun (s31 : List UInt8) (n138 : Int) (n139 : Int) (b25 : Bool) (b26 : Bool) (n140 : Int) (n141 : Int) (n142 : Int) (n143 : Int) (n144 : Int) (n145 : Int) (n146 : Int) (n147 : Int) (n148 : Int) (st14 : St) => (I2 ((IntKind.i64.wrap (i_1 + (1 : Int)))) (many_5) (header_5) (names_5) (k_4) (from_3) (s_2) (t_2) (s31) (n138) (n139) (b25) (b26) (n140) (n141) (n142) (n143) (n144) (n145) (n146) (n147) (n148) (n137) (s27) (s28) (v5) (s29) st14 ∧ M2 ((IntKind.i64.wrap (i_1 + (1 : Int)))) (many_5) (header_5) (names_5) (k_4) (from_3) (s_2) (t_2) (s31) (n138) (n139) (b25) (b26) (n140) (n141) (n142) (n143) (n144) (n145) (n146) (n147) (n148) (n137) (s27) (s28) (v5) (s29) st14 < M2 i_1 many_5 header_5 names_5 k_4 from_3 s_2 t_2 s26 n126 n127 b23 b24 n128 n129 n130 n131 n132 n133 n134 n135 n136 n137 s27 s28 v5 s29 st13))) ((I2 ((IntKind.i64.wrap (i_1 + (1 : Int)))) (many_5) (header_5) (names_5) (k_4) (from_3) (s_2) (t_2) (s26) (n126) (n127) (b23) (b24) (n128) (n129) (n130) (n131) (n132) (n133) (n134) (n135) (n136) (n137) (s27) (s28) (v5) (s29) st13 ∧ M2 ((IntKind.i64.wrap (i_1 + (1 : Int)))) (many_5) (header_5) (names_5) (k_4) (from_3) (s_2) (t_2) (s26) (n126) (n127) (b23) (b24) (n128) (n129) (n130) (n131) (n132) (n133) (n134) (n135) (n136) (n137) (s27) (s28) (v5) (s29) st13 < M2 i_1 many_5 header_5 names_5 k_4 from_3 s_2 t_2 s26 n126 n127 b23 b24 n128 n129 n130 n131 n132 n133 n134 n135 n136 n137 s27 s28 v5 s29 st13)))))) (appK 9 1 16 names_5 1 [(.str t_2)] st13 (fun (v6 : TV) (st15 : St) => CallT PR fn_datakitref27_followed [(.agg [(.str s26), (.int .u8 n126), (.int .u8 n127), (.bool b23), (.bool b24), (.int .i64 n128), (.int .i64 n129), (.int .i64 n130), (.int .i64 n131), (.int .i64 n132), (.int .i64 n133), (.int .i64 n134), (.int .i64 n135), (.int .i64 n136)])] [.agg [.str, .int .u8, .int .u8, .bool, .bool, .int .i64, .int .i64, .int .i64, .int .i64, .int .i64, .int .i64, .int .i64, .int .i64, .int .i64]] st15 (fun (s32 : List UInt8) (n149 : Int) (n150 : Int) (b27 : Bool) (b28 : Bool) (n151 : Int) (n152 : Int) (n153 : Int) (n154 : Int) (n155 : Int) (n156 : Int) (n157 : Int) (n158 : Int) (n159 : Int) (st16 : St) => BIf (decide (n159 ≠ (0 : Int))) (need (List.all [(.int .i64 n137), (.str s27), (.str s28), v5, (.str s29)] oneT) (K (s32) (n149) (n150) (b27) (b28) (n151) (n152) (n153) (n154) (n155) (n156) (n157) (n158) (n159) (n137) (s27) (s28) (v5) (s29) ((0 : Int)) st16)) (BIf (decide (n156 < ((s32).length : Int))) (((0 ≤ n156 ∧ n156 < ((s32).length : Int)) ∧ BIf (decide (((List.getD s32 (Int.toNat n156) 0).toNat : Int) = n149)) (((0 ≤ n156 ∧ n156 ≤ (IntKind.i64.wrap (n156 + (1 : Int))) ∧ (IntKind.i64.wrap (n156 + (1 : Int))) ≤ ((s32).length : Int)) ∧ appK 49 5 80 (.list 5 .full 1 [(.int .i64 (2 : Int)), (.str ([] : List UInt8)), (.str s_2), .nilSlice, (.str ([] : List UInt8))]) 1 [(.int .i64 (11 : Int)), (.str ([] : List UInt8)), (.str (List.drop (Int.toNat n156) (List.take (Int.toNat (IntKind.i64.wrap (n156 + (1 : Int)))) s32))), .nilSlice, (.str ([] : List UInt8))] st16 (fun (v7 : TV) (st17 : St) => need (List.all [v7] oneT) (need (List.all [(.int .i64 (5 : Int)), (.str ([] : List UInt8)), (.str ([] : List UInt8)), v7, (.str ([] : List UInt8))] oneT) (appK 49 5 80 v5 1 [(.int .i64 (5 : Int)), (.str ([] : List UInt8)), (.str ([] : List UInt8)), v7, (.str ([] : List UInt8))] st17 (fun (v8 : TV) (st18 : St) => need (List.all [v8] oneT) ((I1 (v6) ((IntKind.i64.wrap (k_4 + (1 : Int)))) (many_5) (header_5) (s32) (n149) (n150) (b27) (b28) (n151) (n152) (n153) (n154) (n155) ((IntKind.i64.wrap (n156 + (1 : Int)))) (n157) (n158) (n159) (n137) (s27) (s28) (v8) (s29) st18 ∧ M1 (v6) ((IntKind.i64.wrap (k_4 + (1 : Int)))) (many_5) (header_5) (s32) (n149) (n150) (b27) (b28) (n151) (n152) (n153) (n154) (n155) ((IntKind.i64.wrap (n156 + (1 : Int)))) (n157) (n158) (n159) (n137) (s27) (s28) (v8) (s29) st18 < M1 names_2 k_1 many_2 header_2 s6 n24 n25 b5 b6 n26 n27 n28 n29 n30 n31 n32 n33 n34 n35 s7 s8 v2 s9 st3)))))))) (appK 49 5 80 v5 1 [(.int .i64 (5 : Int)), (.str ([] : List UInt8)), (.str ([] : List UInt8)), (.list 5 .full 1 [(.int .i64 (2 : Int)), (.str ([] : List UInt8)), (.str s_2), .nilSlice, (.str ([] : List UInt8))]), (.str ([] : List UInt8))] st16 (fun (v9 : TV) (st19 : St) => need (List.all [v9] oneT) (BIf (decide ((IntKind.i64.wrap (k_4 + (1 : Int))) < many_5)) (CallT PR fn_datakitref27_state_fail [(.agg [(.str s32), (.int .u8 n149), (.int .u8 n150), (.bool b27), (.bool b28), (.int .i64 n151), (.int .i64 n152), (.int .i64 n153), (.int .i64 n154), (.int .i64 n155), (.int .i64 n156), (.int .i64 n157), (.int .i64 n158), (.int .i64 n159)]), (.int .i64 n156), (.int .i64 (10 : Int))] [.agg [.str, .int .u8, .int .u8, .bool, .bool, .int .i64, .int .i64, .int .i64, .int .i64, .int .i64, .int .i64, .int .i64, .int .i64, .int .i64]] st19 (fun (s33 : List UInt8) (n160 : Int) (n161 : Int) (b29 : Bool) (b30 : Bool) (n162 : Int) (n163 : Int) (n164 : Int) (n165 : Int) (n166 : Int) (n167 : Int) (n168 : Int) (n169 : Int) (n170 : Int) (st20 : St) => need (List.all [(.int .i64 n137), (.str s27), (.str s28), v9, (.str s29)] oneT) (K (s33) (n160) (n161) (b29) (b30) (n162) (n163) (n164) (n165) (n166) (n167) (n168) (n169) (n170) (n137) (s27) (s28) (v9) (s29) ((0 : Int)) st20))) (CallT PR fn_datakitref27_ends [(.str s32), (.int .i64 n156)] [.one (.int .i64)] st19 (fun (n171 : Int) (st21 : St) => ((0 ≤ n156 ∧ n156 ≤ (IntKind.i64.wrap (n156 + n171)) ∧ (IntKind.i64.wrap (n156 + n171)) ≤ ((s32).length : Int)) ∧ need (List.all [(.int .i64 n137), (.str s27), (.str s28), v9, (.str (List.drop (Int.toNat n156) (List.take (Int.toNat (IntKind.i64.wrap (n156 + n171))) s32)))] oneT) (K (s32) (n149) (n150) (b27) (b28) (n151) (n152) (n153) (n154) (n155) ((IntKind.i64.wrap (n156 + n171))) (n157) (n158) (n159) (n137) (s27) (s28) (v9) ((List.drop (Int.toNat n156) (List.take (Int.toNat (IntKind.i64.wrap (n156 + n171))) s32))) ((IntKind.i64.wrap (k_4 + (1 : Int)))) st21))))))))) (appK 49 5 80 v5 1 [(.int .i64 (5 : Int)), (.str ([] : List UInt8)), (.str ([] : List UInt8)), (.list 5 .full 1 [(.int .i64 (2 : Int)), (.str ([] : List UInt8)), (.str s_2), .nilSlice, (.str ([] : List UInt8))]), (.str ([] : List UInt8))] st16 (fun (v10 : TV) (st22 : St) => need (List.all [v10] oneT) (BIf (decide ((IntKind.i64.wrap (k_4 + (1 : Int))) < many_5)) (CallT PR fn_datakitref27_state_fail [(.agg [(.str s32), (.int .u8 n149), (.int .u8 n150), (.bool b27), (.bool b28), (.int .i64 n151), (.int .i64 n152), (.int .i64 n153), (.int .i64 n154), (.int .i64 n155), (.int .i64 n156), (.int .i64 n157), (.int .i64 n158), (.int .i64 n159)]), (.int .i64 n156), (.int .i64 (10 : Int))] [.agg [.str, .int .u8, .int .u8, .bool, .bool, .int .i64, .int .i64, .int .i64, .int .i64, .int .i64, .int .i64, .int .i64, .int .i64, .int .i64]] st22 (fun (s34 : List UInt8) (n172 : Int) (n173 : Int) (b31 : Bool) (b32 : Bool) (n174 : Int) (n175 : Int) (n176 : Int) (n177 : Int) (n178 : Int) (n179 : Int) (n180 : Int) (n181 : Int) (n182 : Int) (st23 : St) => need (List.all [(.int .i64 n137), (.str s27), (.str s28), v10, (.str s29)] oneT) (K (s34) (n172) (n173) (b31) (b32) (n174) (n175) (n176) (n177) (n178) (n179) (n180) (n181) (n182) (n137) (s27) (s28) (v10) (s29) ((0 : Int)) st23))) (CallT PR fn_datakitref27_ends [(.str s32), (.int .i64 n156)] [.one (.int .i64)] st22 (fun (n183 : Int) (st24 : St) => ((0 ≤ n156 ∧ n156 ≤ (IntKind.i64.wrap (n156 + n183)) ∧ (IntKind.i64.wrap (n156 + n183)) ≤ ((s32).length : Int)) ∧ need (List.all [(.int .i64 n137), (.str s27), (.str s28), v10, (.str (List.drop (Int.toNat n156) (List.take (Int.toNat (IntKind.i64.wrap (n156 + n183))) s32)))] oneT) (K (s32) (n149) (n150) (b27) (b28) (n151) (n152) (n153) (n154) (n155) ((IntKind.i64.wrap (n156 + n183))) (n157) (n158) (n159) (n137) (s27) (s28) (v10) ((List.drop (Int.toNat n156) (List.take (Int.toNat (IntKind.i64.wrap (n156 + n183))) s32))) ((IntKind.i64.wrap (k_4 + (1 : Int)))) st24))))))))))))) (appK 9 1 16 names_5 1 [(.str t_2)] st13 (fun (v11 : TV) (st25 : St) => CallT PR fn_datakitref27_followed [(.agg [(.str s26), (.int .u8 n126), (.int .u8 n127), (.bool b23), (.bool b24), (.int .i64 n128), (.int .i64 n129), (.int .i64 n130), (.int .i64 n131), (.int .i64 n132), (.int .i64 n133), (.int .i64 n134), (.int .i64 n135), (.int .i64 n136)])] [.agg [.str, .int .u8, .int .u8, .bool, .bool, .int .i64, .int .i64, .int .i64, .int .i64, .int .i64, .int .i64, .int .i64, .int .i64, .int .i64]] st25 (fun (s35 : List UInt8) (n184 : Int) (n185 : Int) (b33 : Bool) (b34 : Bool) (n186 : Int) (n187 : Int) (n188 : Int) (n189 : Int) (n190 : Int) (n191 : Int) (n192 : Int) (n193 : Int) (n194 : Int) (st26 : St) => BIf (decide (n194 ≠ (0 : Int))) (need (List.all [(.int .i64 n137), (.str s27), (.str s28), v5, (.str s29)] oneT) (K (s35) (n184) (n185) (b33) (b34) (n186) (n187) (n188) (n189) (n190) (n191) (n192) (n193) (n194) (n137) (s27) (s28) (v5) (s29) ((0 : Int)) st26)) (BIf (decide (n191 < ((s35).length : Int))) (((0 ≤ n191 ∧ n191 < ((s35).length : Int)) ∧ BIf (decide (((List.getD s35 (Int.toNat n191) 0).toNat : Int) = n184)) (((0 ≤ n191 ∧ n191 ≤ (IntKind.i64.wrap (n191 + (1 : Int))) ∧ (IntKind.i64.wrap (n191 + (1 : Int))) ≤ ((s35).length : Int)) ∧ appK 49 5 80 (.list 5 .full 1 [(.int .i64 (2 : Int)), (.str ([] : List UInt8)), (.str s_2), .nilSlice, (.str ([] : List UInt8))]) 1 [(.int .i64 (11 : Int)), (.str ([] : List UInt8)), (.str (List.drop (Int.toNat n191) (List.take (Int.toNat (IntKind.i64.wrap (n191 + (1 : Int)))) s35))), .nilSlice, (.str ([] : List UInt8))] st26 (fun (v12 : TV) (st27 : St) => need (List.all [v12] oneT) (need (List.all [(.int .i64 (5 : Int)), (.str ([] : List UInt8)), (.str ([] : List UInt8)), v12, (.str ([] : List UInt8))] oneT) (appK 49 5 80 v5 1 [(.int .i64 (5 : Int)), (.str ([] : List UInt8)), (.str ([] : List UInt8)), v12, (.str ([] : List UInt8))] st27 (fun (v13 : TV) (st28 : St) => need (List.all [v13] oneT) ((I1 (v11) ((IntKind.i64.wrap (k_4 + (1 : Int)))) (many_5) (header_5) (s35) (n184) (n185) (b33) (b34) (n186) (n187) (n188) (n189) (n190) ((IntKind.i64.wrap (n191 + (1 : Int)))) (n192) (n193) (n194) (n137) (s27) (s28) (v13) (s29) st28 ∧ M1 (v11) ((IntKind.i64.wrap (k_4 + (1 : Int)))) (many_5) (header_5) (s35) (n184) (n185) (b33) (b34) (n186) (n187) (n188) (n189) (n190) ((IntKind.i64.wrap (n191 + (1 : Int)))) (n192) (n193) (n194) (n137) (s27) (s28) (v13) (s29) st28 < M1 names_2 k_1 many_2 header_2 s6 n24 n25 b5 b6 n26 n27 n28 n29 n30 n31 n32 n33 n34 n35 s7 s8 v2 s9 st3)))))))) (appK 49 5 80 v5 1 [(.int .i64 (5 : Int)), (.str ([] : List UInt8)), (.str ([] : List UInt8)), (.list 5 .full 1 [(.int .i64 (2 : Int)), (.str ([] : List UInt8)), (.str s_2), .nilSlice, (.str ([] : List UInt8))]), (.str ([] : List UInt8))] st26 (fun (v14 : TV) (st29 : St) => need (List.all [v14] oneT) (BIf (decide ((IntKind.i64.wrap (k_4 + (1 : Int))) < many_5)) (CallT PR fn_datakitref27_state_fail [(.agg [(.str s35), (.int .u8 n184), (.int .u8 n185), (.bool b33), (.bool b34), (.int .i64 n186), (.int .i64 n187), (.int .i64 n188), (.int .i64 n189), (.int .i64 n190), (.int .i64 n191), (.int .i64 n192), (.int .i64 n193), (.int .i64 n194)]), (.int .i64 n191), (.int .i64 (10 : Int))] [.agg [.str, .int .u8, .int .u8, .bool, .bool, .int .i64, .int .i64, .int .i64, .int .i64, .int .i64, .int .i64, .int .i64, .int .i64, .int .i64]] st29 (fun (s36 : List UInt8) (n195 : Int) (n196 : Int) (b35 : Bool) (b36 : Bool) (n197 : Int) (n198 : Int) (n199 : Int) (n200 : Int) (n201 : Int) (n202 : Int) (n203 : Int) (n204 : Int) (n205 : Int) (st30 : St) => need (List.all [(.int .i64 n137), (.str s27), (.str s28), v14, (.str s29)] oneT) (K (s36) (n195) (n196) (b35) (b36) (n197) (n198) (n199) (n200) (n201) (n202) (n203) (n204) (n205) (n137) (s27) (s28) (v14) (s29) ((0 : Int)) st30))) (CallT PR fn_datakitref27_ends [(.str s35), (.int .i64 n191)] [.one (.int .i64)] st29 (fun (n206 : Int) (st31 : St) => ((0 ≤ n191 ∧ n191 ≤ (IntKind.i64.wrap (n191 + n206)) ∧ (IntKind.i64.wrap (n191 + n206)) ≤ ((s35).length : Int)) ∧ need (List.all [(.int .i64 n137), (.str s27), (.str s28), v14, (.str (List.drop (Int.toNat n191) (List.take (Int.toNat (IntKind.i64.wrap (n191 + n206))) s35)))] oneT) (K (s35) (n184) (n185) (b33) (b34) (n186) (n187) (n188) (n189) (n190) ((IntKind.i64.wrap (n191 + n206))) (n192) (n193) (n194) (n137) (s27) (s28) (v14) ((List.drop (Int.toNat n191) (List.take (Int.toNat (IntKind.i64.wrap (n191 + n206))) s35))) ((IntKind.i64.wrap (k_4 + (1 : Int)))) st31))))))))) (appK 49 5 80 v5 1 [(.int .i64 (5 : Int)), (.str ([] : List UInt8)), (.str ([] : List UInt8)), (.list 5 .full 1 [(.int .i64 (2 : Int)), (.str ([] : List UInt8)), (.str s_2), .nilSlice, (.str ([] : List UInt8))]), (.str ([] : List UInt8))] st26 (fun (v15 : TV) (st32 : St) => need (List.all [v15] oneT) (BIf (decide ((IntKind.i64.wrap (k_4 + (1 : Int))) < many_5)) (CallT PR fn_datakitref27_state_fail [(.agg [(.str s35), (.int .u8 n184), (.int .u8 n185), (.bool b33), (.bool b34), (.int .i64 n186), (.int .i64 n187), (.int .i64 n188), (.int .i64 n189), (.int .i64 n190), (.int .i64 n191), (.int .i64 n192), (.int .i64 n193), (.int .i64 n194)]), (.int .i64 n191), (.int .i64 (10 : Int))] [.agg [.str, .int .u8, .int .u8, .bool, .bool, .int .i64, .int .i64, .int .i64, .int .i64, .int .i64, .int .i64, .int .i64, .int .i64, .int .i64]] st32 (fun (s37 : List UInt8) (n207 : Int) (n208 : Int) (b37 : Bool) (b38 : Bool) (n209 : Int) (n210 : Int) (n211 : Int) (n212 : Int) (n213 : Int) (n214 : Int) (n215 : Int) (n216 : Int) (n217 : Int) (st33 : St) => need (List.all [(.int .i64 n137), (.str s27), (.str s28), v15, (.str s29)] oneT) (K (s37) (n207) (n208) (b37) (b38) (n209) (n210) (n211) (n212) (n213) (n214) (n215) (n216) (n217) (n137) (s27) (s28) (v15) (s29) ((0 : Int)) st33))) (CallT PR fn_datakitref27_ends [(.str s35), (.int .i64 n191)] [.one (.int .i64)] st32 (fun (n218 : Int) (st34 : St) => ((0 ≤ n191 ∧ n191 ≤ (IntKind.i64.wrap (n191 + n218)) ∧ (IntKind.i64.wrap (n191 + n218)) ≤ ((s35).length : Int)) ∧ need (List.all [(.int .i64 n137), (.str s27), (.str s28), v15, (.str (List.drop (Int.toNat n191) (List.take (Int.toNat (IntKind.i64.wrap (n191 + n218))) s35)))] oneT) (K (s35) (n184) (n185) (b33) (b34) (n186) (n187) (n188) (n189) (n190) ((IntKind.i64.wrap (n191 + n218))) (n192) (n193) (n194) (n137) (s27) (s28) (v15) ((List.drop (Int.toNat n191) (List.take (Int.toNat (IntKind.i64.wrap (n191 + n218))) s35))) ((IntKind.i64.wrap (k_4 + (1 : Int)))) st34)))))))))))))))))) (∃ (C4 : Int → Bool → TV → Int → Int → List UInt8 → Int → Int → Bool → Bool → Int → Int → Int → Int → Int → Int → Int → Int → Int → Int → List UInt8 → List UInt8 → TV → List UInt8 → St → Prop), (BIf (!header_2) (CallT PR fn_datakitref27_state_begin [(.agg [(.str s6), (.int .u8 n24), (.int .u8 n25), (.bool b5), (.bool b6), (.int .i64 n26), (.int .i64 n27), (.int .i64 n28), (.int .i64 n29), (.int .i64 n30), (.int .i64 n31), (.int .i64 n32), (.int .i64 n33), (.int .i64 n34)]), (.int .i64 (3 : Int))] [.agg [.str, .int .u8, .int .u8, .bool, .bool, .int .i64, .int .i64, .int .i64, .int .i64, .int .i64, .int .i64, .int .i64, .int .i64, .int .i64]] st3 (fun (s38 : List UInt8) (n219 : Int) (n220 : Int) (b39 : Bool) (b40 : Bool) (n221 : Int) (n222 : Int) (n223 : Int) (n224 : Int) (n225 : Int) (n226 : Int) (n227 : Int) (n228 : Int) (n229 : Int) (st35 : St) => C4 (many_2) (header_2) (names_2) (k_1) (n31) (s38) (n219) (n220) (b39) (b40) (n221) (n222) (n223) (n224) (n225) (n226) (n227) (n228) (n229) (n35) (s7) (s8) (v2) (s9) st35)) (C4 (many_2) (header_2) (names_2) (k_1) (n31) (s6) (n24) (n25) (b5) (b6) (n26) (n27) (n28) (n29) (n30) (n31) (n32) (n33) (n34) (n35) (s7) (s8) (v2) (s9) st3)) ∧ ∀ (many_6 : Int) (header_6 : Bool) (names_6 : TV) (k_5 : Int) (from_4 : Int) (s39 : List UInt8) (n230 : Int) (n231 : Int) (b41 : Bool) (b42 : Bool) (n232 : Int) (n233 : Int) (n234 : Int) (n235 : Int) (n236 : Int) (n237 : Int) (n238 : Int) (n239 : Int) (n240 : Int) (n241 : Int) (s40 : List UInt8) (s41 : List UInt8) (v16 : TV) (s42 : List UInt8) (st36 : St), C4 many_6 header_6 names_6 k_5 from_4 s39 n230 n231 b41 b42 n232 n233 n234 n235 n236 n237 n238 n239 n240 n241 s40 s41 v16 s42 st36 → (CallT PR fn_datakitref27_cell [(.agg [(.str s39), (.int .u8 n230), (.int .u8 n231), (.bool b41), (.bool b42), (.int .i64 n232), (.int .i64 n233), (.int .i64 n234), (.int .i64 n235), (.int .i64 n236), (.int .i64 n237), (.int .i64 n238), (.int .i64 n239), (.int .i64 n240)])] [.agg [.str, .int .u8, .int .u8, .bool, .bool, .int .i64, .int .i64, .int .i64, .int .i64, .int .i64, .int .i64, .int .i64, .int .i64, .int .i64], .one (.str)] st36 (fun (s43 : List UInt8) (n242 : Int) (n243 : Int) (b43 : Bool) (b44 : Bool) (n244 : Int) (n245 : Int) (n246 : Int) (n247 : Int) (n248 : Int) (n249 : Int) (n250 : Int) (n251 : Int) (n252 : Int) (s44 : List UInt8) (st37 : St) => CallT PR fn_datakitref27_Plain [(.str s44), (.agg [(.int .u8 n242), (.int .u8 n243), (.bool b43), (.bool b44)])] [.one (.str)] st37 (fun (s45 : List UInt8) (st38 : St) => ∃ (C5 : Int → Bool → TV → Int → Int → List UInt8 → List UInt8 → List UInt8 → Int → Int → Bool → Bool → Int → Int → Int → Int → Int → Int → Int → Int → Int → Int → List UInt8 → List UInt8 → TV → List UInt8 → St → Prop), (BIf header_6 (BIf (decide ((1024 : Int) < ((s45).length : Int))) (CallT PR fn_datakitref27_state_fail [(.agg [(.str s43), (.int .u8 n242), (.int .u8 n243), (.bool b43), (.bool b44), (.int .i64 n244), (.int .i64 n245), (.int .i64 n246), (.int .i64 n247), (.int .i64 n248), (.int .i64 n249), (.int .i64 n250), (.int .i64 n251), (.int .i64 n252)]), (.int .i64 from_4), (.int .i64 (10 : Int))] [.agg [.str, .int .u8, .int .u8, .bool, .bool, .int .i64, .int .i64, .int .i64, .int .i64, .int .i64, .int .i64, .int .i64, .int .i64, .int .i64]] st38 (fun (s46 : List UInt8) (n253 : Int) (n254 : Int) (b45 : Bool) (b46 : Bool) (n255 : Int) (n256 : Int) (n257 : Int) (n258 : Int) (n259 : Int) (n260 : Int) (n261 : Int) (n262 : Int) (n263 : Int) (st39 : St) => C5 (many_6) (header_6) (names_6) (k_5) (from_4) (s44) (s45) (s46) (n253) (n254) (b45) (b46) (n255) (n256) (n257) (n258) (n259) (n260) (n261) (n262) (n263) (n241) (s40) (s41) (v16) (s42) st39)) (BIf (decide ((65536 : Int) < ((s45).length : Int))) (CallT PR fn_datakitref27_state_fail [(.agg [(.str s43), (.int .u8 n242), (.int .u8 n243), (.bool b43), (.bool b44), (.int .i64 n244), (.int .i64 n245), (.int .i64 n246), (.int .i64 n247), (.int .i64 n248), (.int .i64 n249), (.int .i64 n250), (.int .i64 n251), (.int .i64 n252)]), (.int .i64 from_4), (.int .i64 (10 : Int))] [.agg [.str, .int .u8, .int .u8, .bool, .bool, .int .i64, .int .i64, .int .i64, .int .i64, .int .i64, .int .i64, .int .i64, .int .i64, .int .i64]] st38 (fun (s47 : List UInt8) (n264 : Int) (n265 : Int) (b47 : Bool) (b48 : Bool) (n266 : Int) (n267 : Int) (n268 : Int) (n269 : Int) (n270 : Int) (n271 : Int) (n272 : Int) (n273 : Int) (n274 : Int) (st40 : St) => C5 (many_6) (header_6) (names_6) (k_5) (from_4) (s44) (s45) (s47) (n264) (n265) (b47) (b48) (n266) (n267) (n268) (n269) (n270) (n271) (n272) (n273) (n274) (n241) (s40) (s41) (v16) (s42) st40)) (C5 (many_6) (header_6) (names_6) (k_5) (from_4) (s44) (s45) (s43) (n242) (n243) (b43) (b44) (n244) (n245) (n246) (n247) (n248) (n249) (n250) (n251) (n252) (n241) (s40) (s41) (v16) (s42) st38))) (BIf (decide ((65536 : Int) < ((s45).length : Int))) (CallT PR fn_datakitref27_state_fail [(.agg [(.str s43), (.int .u8 n242), (.int .u8 n243), (.bool b43), (.bool b44), (.int .i64 n244), (.int .i64 n245), (.int .i64 n246), (.int .i64 n247), (.int .i64 n248), (.int .i64 n249), (.int .i64 n250), (.int .i64 n251), (.int .i64 n252)]), (.int .i64 from_4), (.int .i64 (10 : Int))] [.agg [.str, .int .u8, .int .u8, .bool, .bool, .int .i64, .int .i64, .int .i64, .int .i64, .int .i64, .int .i64, .int .i64, .int .i64, .int .i64]] st38 (fun (s48 : List UInt8) (n275 : Int) (n276 : Int) (b49 : Bool) (b50 : Bool) (n277 : Int) (n278 : Int) (n279 : Int) (n280 : Int) (n281 : Int) (n282 : Int) (n283 : Int) (n284 : Int) (n285 : Int) (st41 : St) => C5 (many_6) (header_6) (names_6) (k_5) (from_4) (s44) (s45) (s48) (n275) (n276) (b49) (b50) (n277) (n278) (n279) (n280) (n281) (n282) (n283) (n284) (n285) (n241) (s40) (s41) (v16) (s42) st41)) (C5 (many_6) (header_6) (names_6) (k_5) (from_4) (s44) (s45) (s43) (n242) (n243) (b43) (b44) (n244) (n245) (n246) (n247) (n248) (n249) (n250) (n251) (n252) (n241) (s40) (s41) (v16) (s42) st38))) ∧ ∀ (many_7 : Int) (header_7 : Bool) (names_7 : TV) (k_6 : Int) (from_5 : Int) (s_3 : List UInt8) (t_3 : List UInt8) (s49 : List UInt8) (n286 : Int) (n287 : Int) (b51 : Bool) (b52 : Bool) (n288 : Int) (n289 : Int) (n290 : Int) (n291 : Int) (n292 : Int) (n293 : Int) (n294 : Int) (n295 : Int) (n296 : Int) (n297 : Int) (s50 : List UInt8) (s51 : List UInt8) (v17 : TV) (s52 : List UInt8) (st42 : St), C5 many_7 header_7 names_7 k_6 from_5 s_3 t_3 s49 n286 n287 b51 b52 n288 n289 n290 n291 n292 n293 n294 n295 n296 n297 s50 s51 v17 s52 st42 → (∃ (I3 : Int → Int → Bool → TV → Int → Int → List UInt8 → List UInt8 → List UInt8 → Int → Int → Bool → Bool → Int → Int → Int → Int → Int → Int → Int → Int → Int → Int → List UInt8 → List UInt8 → TV → List UInt8 → St → Prop) (M3 : Int → Int → Bool → TV → Int → Int → List UInt8 → List UInt8 → List UInt8 → Int → Int → Bool → Bool → Int → Int → Int → Int → Int → Int → Int → Int → Int → Int → List UInt8 → List UInt8 → TV → List UInt8 → St → Nat), (I3 ((0 : Int)) (many_7) (header_7) (names_7) (k_6) (from_5) (s_3) (t_3) (s49) (n286) (n287) (b51) (b52) (n288) (n289) (n290) (n291) (n292) (n293) (n294) (n295) (n296) (n297) (s50) (s51) (v17) (s52) st42) ∧ ∀ (i_2 : Int) (many_8 : Int) (header_8 : Bool) (names_8 : TV) (k_7 : Int) (from_6 : Int) (s_4 : List UInt8) (t_4 : List UInt8) (s53 : List UInt8) (n298 : Int) (n299 : Int) (b53 : Bool) (b54 : Bool) (n300 : Int) (n301 : Int) (n302 : Int) (n303 : Int) (n304 : Int) (n305 : Int) (n306 : Int) (n307 : Int) (n308 : Int) (n309 : Int) (s54 : List UInt8) (s55 : List UInt8) (v18 : TV) (s56 : List UInt8) (st43 : St), I3 i_2 many_8 header_8 names_8 k_7 from_6 s_4 t_4 s53 n298 n299 b53 b54 n300 n301 n302 n303 n304 n305 n306 n307 n308 n309 s54 s55 v18 s56 st43 → (BIf header_8 (need (isSl names_8) (BIf (decide (i_2 < (lenS names_8 : Int))) (((0 ≤ i_2 ∧ i_2 < (lenZ 1 names_8 : Int)) ∧ optK (ldCell st43 [] (.t (ixT 1 names_8 (Int.toNat i_2))) 0) (fun (x2 : TV) => decT (.str) x2 (fun (s57 : List UInt8) => BIf (decide (s57 = t_4)) (CallT PR fn_datakitref27_state_fail [(.agg [(.str s53), (.int .u8 n298), (.int .u8 n299), (.bool b53), (.bool b54), (.int .i64 n300), (.int .i64 n301), (.int .i64 n302), (.int .i64 n303), (.int .i64 n304), (.int .i64 n305), (.int .i64 n306), (.int .i64 n307), (.int .i64 n308)]), (.int .i64 from_6), (.int .i64 (8 : Int))] [.agg [.str, .int .u8, .int .u8, .bool, .bool, .int .i64, .int .i64, .int .i64, .int .i64, .int .i64, .int .i64, .int .i64, .int .i64, .int .i64]] st43 (fun (s58 : List UInt8) (n310 : Int) (n311 : Int) (b55 : Bool) (b56 : Bool) (n312 : Int) (n313 : Int) (n314 : Int) (n315 : Int) (n316 : Int) (n317 : Int) (n318 : Int) (n319 : Int) (n320 : Int) (st44 : St) => (I3 ((IntKind.i64.wrap (i_2 + (1 : Int)))) (many_8) (header_8) (names_8) (k_7) (from_6) (s_4) (t_4) (s58) (n310) (n311) (b55) (b56) (n312) (n313) (n314) (n315) (n316) (n317) (n318) (n319) (n320) (n309) (s54) (s55) (v18) (s56) st44 ∧ M3 ((IntKind.i64.wrap (i_2 + (1 : Int)))) (many_8) (header_8) (names_8) (k_7) (from_6) (s_4) (t_4) (s58) (n310) (n311) (b55) (b56) (n312) (n313) (n314) (n315) (n316) (n317) (n318) (n319) (n320) (n309) (s54) (s55) (v18) (s56) st44 < M3 i_2 many_8 header_8 names_8 k_7 from_6 s_4 t_4 s53 n298 n299 b53 b54 n300 n301 n302 n303 n304 n305 n306 n307 n308 n309 s54 s55 v18 s56 st43))) ((I3 ((IntKind.i64.wrap (i_2 + (1 : Int)))) (many_8) (header_8) (names_8) (k_7) (from_6) (s_4) (t_4) (s53) (n298) (n299) (b53) (b54) (n300) (n301) (n302) (n303) (n304) (n305) (n306) (n307) (n308) (n309) (s54) (s55) (v18) (s56) st43 ∧ M3 ((IntKind.i64.wrap (i_2 + (1 : Int)))) (many_8) (header_8) (names_8) (k_7) (from_6) (s_4) (t_4) (s53) (n298) (n299) (b53) (b54) (n300) (n301) (n302) (n303) (n304) (n305) (n306) (n307) (n308) (n309) (s54) (s55) (v18) (s56) st43 < M3 i_2 many_8 header_8 names_8 k_7 from_6 s_4 t_4 s53 n298 n299 b53 b54 n300 n301 n302 n303 n304 n305 n306 n307 n308 n309 s54 s55 v18 s56 st43)))))) (appK 9 1 16 names_8 1 [(.str t_4)] st43 (fun (v19 : TV) (st45 : St) => CallT PR fn_datakitref27_followed [(.agg [(.str s53), (.int .u8 n298), (.int .u8 n299), (.bool b53), (.bool b54), (.int .i64 n300), (.int .i64 n301), (.int .i64 n302), (.int .i64 n303), (.int .i64 n304), (.int .i64 n305), (.int .i64 n306), (.int .i64 n307), (.int .i64 n308)])] [.agg [.str, .int .u8, .int .u8, .bool, .bool, .int .i64, .int .i64, .int .i64, .int .i64, .int .i64, .int .i64, .int .i64, .int .i64, .int .i64]] st45 (fun (s59 : List UInt8) (n321 : Int) (n322 : Int) (b57 : Bool) (b58 : Bool) (n323 : Int) (n324 : Int) (n325 : Int) (n326 : Int) (n327 : Int) (n328 : Int) (n329 : Int) (n330 : Int) (n331 : Int) (st46 : St) => BIf (decide (n331 ≠ (0 : Int))) (need (List.all [(.int .i64 n309), (.str s54), (.str s55), v18, (.str s56)] oneT) (K (s59) (n321) (n322) (b57) (b58) (n323) (n324) (n325) (n326) (n327) (n328) (n329) (n330) (n331) (n309) (s54) (s55) (v18) (s56) ((0 : Int)) st46)) (BIf (decide (n328 < ((s59).length : Int))) (((0 ≤ n328 ∧ n328 < ((s59).length : Int)) ∧ BIf (decide (((List.getD s59 (Int.toNat n328) 0).toNat : Int) = n321)) (((0 ≤ n328 ∧ n328 ≤ (IntKind.i64.wrap (n328 + (1 : Int))) ∧ (IntKind.i64.wrap (n328 + (1 : Int))) ≤ ((s59).length : Int)) ∧ appK 49 5 80 (.list 5 .full 1 [(.int .i64 (2 : Int)), (.str ([] : List UInt8)), (.str s_4), .nilSlice, (.str ([] : List UInt8))]) 1 [(.int .i64 (11 : Int)), (.str ([] : List UInt8)), (.str (List.drop (Int.toNat n328) (List.take (Int.toNat (IntKind.i64.wrap (n328 + (1 : Int)))) s59))), .nilSlice, (.str ([] : List UInt8))] st46 (fun (v20 : TV) (st47 : St) => need (List.all [v20] oneT) (need (List.all [(.int .i64 (5 : Int)), (.str ([] : List UInt8)), (.str ([] : List UInt8)), v20, (.str ([] : List UInt8))] oneT) (appK 49 5 80 v18 1 [(.int .i64 (5 : Int)), (.str ([] : List UInt8)), (.str ([] : List UInt8)), v20, (.str ([] : List UInt8))] st47 (fun (v21 : TV) (st48 : St) => need (List.all [v21] oneT) ((I1 (v19) ((IntKind.i64.wrap (k_7 + (1 : Int)))) (many_8) (header_8) (s59) (n321) (n322) (b57) (b58) (n323) (n324) (n325) (n326) (n327) ((IntKind.i64.wrap (n328 + (1 : Int)))) (n329) (n330) (n331) (n309) (s54) (s55) (v21) (s56) st48 ∧ M1 (v19) ((IntKind.i64.wrap (k_7 + (1 : Int)))) (many_8) (header_8) (s59) (n321) (n322) (b57) (b58) (n323) (n324) (n325) (n326) (n327) ((IntKind.i64.wrap (n328 + (1 : Int)))) (n329) (n330) (n331) (n309) (s54) (s55) (v21) (s56) st48 < M1 names_2 k_1 many_2 header_2 s6 n24 n25 b5 b6 n26 n27 n28 n29 n30 n31 n32 n33 n34 n35 s7 s8 v2 s9 st3)))))))) (appK 49 5 80 v18 1 [(.int .i64 (5 : Int)), (.str ([] : List UInt8)), (.str ([] : List UInt8)), (.list 5 .full 1 [(.int .i64 (2 : Int)), (.str ([] : List UInt8)), (.str s_4), .nilSlice, (.str ([] : List UInt8))]), (.str ([] : List UInt8))] st46 (fun (v22 : TV) (st49 : St) => need (List.all [v22] oneT) (BIf (decide ((IntKind.i64.wrap (k_7 + (1 : Int))) < many_8)) (CallT PR fn_datakitref27_state_fail [(.agg [(.str s59), (.int .u8 n321), (.int .u8 n322), (.bool b57), (.bool b58), (.int .i64 n323), (.int .i64 n324), (.int .i64 n325), (.int .i64 n326), (.int .i64 n327), (.int .i64 n328), (.int .i64 n329), (.int .i64 n330), (.int .i64 n331)]), (.int .i64 n328), (.int .i64 (10 : Int))] [.agg [.str, .int .u8, .int .u8, .bool, .bool, .int .i64, .int .i64, .int .i64, .int .i64, .int .i64, .int .i64, .int .i64, .int .i64, .int .i64]] st49 (fun (s60 : List UInt8) (n332 : Int) (n333 : Int) (b59 : Bool) (b60 : Bool) (n334 : Int) (n335 : Int) (n336 : Int) (n337 : Int) (n338 : Int) (n339 : Int) (n340 : Int) (n341 : Int) (n342 : Int) (st50 : St) => need (List.all [(.int .i64 n309), (.str s54), (.str s55), v22, (.str s56)] oneT) (K (s60) (n332) (n333) (b59) (b60) (n334) (n335) (n336) (n337) (n338) (n339) (n340) (n341) (n342) (n309) (s54) (s55) (v22) (s56) ((0 : Int)) st50))) (CallT PR fn_datakitref27_ends [(.str s59), (.int .i64 n328)] [.one (.int .i64)] st49 (fun (n343 : Int) (st51 : St) => ((0 ≤ n328 ∧ n328 ≤ (IntKind.i64.wrap (n328 + n343)) ∧ (IntKind.i64.wrap (n328 + n343)) ≤ ((s59).length : Int)) ∧ need (List.all [(.int .i64 n309), (.str s54), (.str s55), v22, (.str (List.drop (Int.toNat n328) (List.take (Int.toNat (IntKind.i64.wrap (n328 + n343))) s59)))] oneT) (K (s59) (n321) (n322) (b57) (b58) (n323) (n324) (n325) (n326) (n327) ((IntKind.i64.wrap (n328 + n343))) (n329) (n330) (n331) (n309) (s54) (s55) (v22) ((List.drop (Int.toNat n328) (List.take (Int.toNat (IntKind.i64.wrap (n328 + n343))) s59))) ((IntKind.i64.wrap (k_7 + (1 : Int)))) st51))))))))) (appK 49 5 80 v18 1 [(.int .i64 (5 : Int)), (.str ([] : List UInt8)), (.str ([] : List UInt8)), (.list 5 .full 1 [(.int .i64 (2 : Int)), (.str ([] : List UInt8)), (.str s_4), .nilSlice, (.str ([] : List UInt8))]), (.str ([] : List UInt8))] st46 (fun (v23 : TV) (st52 : St) => need (List.all [v23] oneT) (BIf (decide ((IntKind.i64.wrap (k_7 + (1 : Int))) < many_8)) (CallT PR fn_datakitref27_state_fail [(.agg [(.str s59), (.int .u8 n321), (.int .u8 n322), (.bool b57), (.bool b58), (.int .i64 n323), (.int .i64 n324), (.int .i64 n325), (.int .i64 n326), (.int .i64 n327), (.int .i64 n328), (.int .i64 n329), (.int .i64 n330), (.int .i64 n331)]), (.int .i64 n328), (.int .i64 (10 : Int))] [.agg [.str, .int .u8, .int .u8, .bool, .bool, .int .i64, .int .i64, .int .i64, .int .i64, .int .i64, .int .i64, .int .i64, .int .i64, .int .i64]] st52 (fun (s61 : List UInt8) (n344 : Int) (n345 : Int) (b61 : Bool) (b62 : Bool) (n346 : Int) (n347 : Int) (n348 : Int) (n349 : Int) (n350 : Int) (n351 : Int) (n352 : Int) (n353 : Int) (n354 : Int) (st53 : St) => need (List.all [(.int .i64 n309), (.str s54), (.str s55), v23, (.str s56)] oneT) (K (s61) (n344) (n345) (b61) (b62) (n346) (n347) (n348) (n349) (n350) (n351) (n352) (n353) (n354) (n309) (s54) (s55) (v23) (s56) ((0 : Int)) st53))) (CallT PR fn_datakitref27_ends [(.str s59), (.int .i64 n328)] [.one (.int .i64)] st52 (fun (n355 : Int) (st54 : St) => ((0 ≤ n328 ∧ n328 ≤ (IntKind.i64.wrap (n328 + n355)) ∧ (IntKind.i64.wrap (n328 + n355)) ≤ ((s59).length : Int)) ∧ need (List.all [(.int .i64 n309), (.str s54), (.str s55), v23, (.str (List.drop (Int.toNat n328) (List.take (Int.toNat (IntKind.i64.wrap (n328 + n355))) s59)))] oneT) (K (s59) (n321) (n322) (b57) (b58) (n323) (n324) (n325) (n326) (n327) ((IntKind.i64.wrap (n328 + n355))) (n329) (n330) (n331) (n309) (s54) (s55) (v23) ((List.drop (Int.toNat n328) (List.take (Int.toNat (IntKind.i64.wrap (n328 + n355))) s59))) ((IntKind.i64.wrap (k_7 + (1 : Int)))) st54))))))))))))) (appK 9 1 16 names_8 1 [(.str t_4)] st43 (fun (v24 : TV) (st55 : St) => CallT PR fn_datakitref27_followed [(.agg [(.str s53), (.int .u8 n298), (.int .u8 n299), (.bool b53), (.bool b54), (.int .i64 n300), (.int .i64 n301), (.int .i64 n302), (.int .i64 n303), (.int .i64 n304), (.int .i64 n305), (.int .i64 n306), (.int .i64 n307), (.int .i64 n308)])] [.agg [.str, .int .u8, .int .u8, .bool, .bool, .int .i64, .int .i64, .int .i64, .int .i64, .int .i64, .int .i64, .int .i64, .int .i64, .int .i64]] st55 (fun (s62 : List UInt8) (n356 : Int) (n357 : Int) (b63 : Bool) (b64 : Bool) (n358 : Int) (n359 : Int) (n360 : Int) (n361 : Int) (n362 : Int) (n363 : Int) (n364 : Int) (n365 : Int) (n366 : Int) (st56 : St) => BIf (decide (n366 ≠ (0 : Int))) (need (List.all [(.int .i64 n309), (.str s54), (.str s55), v18, (.str s56)] oneT) (K (s62) (n356) (n357) (b63) (b64) (n358) (n359) (n360) (n361) (n362) (n363) (n364) (n365) (n366) (n309) (s54) (s55) (v18) (s56) ((0 : Int)) st56)) (BIf (decide (n363 < ((s62).length : Int))) (((0 ≤ n363 ∧ n363 < ((s62).length : Int)) ∧ BIf (decide (((List.getD s62 (Int.toNat n363) 0).toNat : Int) = n356)) (((0 ≤ n363 ∧ n363 ≤ (IntKind.i64.wrap (n363 + (1 : Int))) ∧ (IntKind.i64.wrap (n363 + (1 : Int))) ≤ ((s62).length : Int)) ∧ appK 49 5 80 (.list 5 .full 1 [(.int .i64 (2 : Int)), (.str ([] : List UInt8)), (.str s_4), .nilSlice, (.str ([] : List UInt8))]) 1 [(.int .i64 (11 : Int)), (.str ([] : List UInt8)), (.str (List.drop (Int.toNat n363) (List.take (Int.toNat (IntKind.i64.wrap (n363 + (1 : Int)))) s62))), .nilSlice, (.str ([] : List UInt8))] st56 (fun (v25 : TV) (st57 : St) => need (List.all [v25] oneT) (need (List.all [(.int .i64 (5 : Int)), (.str ([] : List UInt8)), (.str ([] : List UInt8)), v25, (.str ([] : List UInt8))] oneT) (appK 49 5 80 v18 1 [(.int .i64 (5 : Int)), (.str ([] : List UInt8)), (.str ([] : List UInt8)), v25, (.str ([] : List UInt8))] st57 (fun (v26 : TV) (st58 : St) => need (List.all [v26] oneT) ((I1 (v24) ((IntKind.i64.wrap (k_7 + (1 : Int)))) (many_8) (header_8) (s62) (n356) (n357) (b63) (b64) (n358) (n359) (n360) (n361) (n362) ((IntKind.i64.wrap (n363 + (1 : Int)))) (n364) (n365) (n366) (n309) (s54) (s55) (v26) (s56) st58 ∧ M1 (v24) ((IntKind.i64.wrap (k_7 + (1 : Int)))) (many_8) (header_8) (s62) (n356) (n357) (b63) (b64) (n358) (n359) (n360) (n361) (n362) ((IntKind.i64.wrap (n363 + (1 : Int)))) (n364) (n365) (n366) (n309) (s54) (s55) (v26) (s56) st58 < M1 names_2 k_1 many_2 header_2 s6 n24 n25 b5 b6 n26 n27 n28 n29 n30 n31 n32 n33 n34 n35 s7 s8 v2 s9 st3)))))))) (appK 49 5 80 v18 1 [(.int .i64 (5 : Int)), (.str ([] : List UInt8)), (.str ([] : List UInt8)), (.list 5 .full 1 [(.int .i64 (2 : Int)), (.str ([] : List UInt8)), (.str s_4), .nilSlice, (.str ([] : List UInt8))]), (.str ([] : List UInt8))] st56 (fun (v27 : TV) (st59 : St) => need (List.all [v27] oneT) (BIf (decide ((IntKind.i64.wrap (k_7 + (1 : Int))) < many_8)) (CallT PR fn_datakitref27_state_fail [(.agg [(.str s62), (.int .u8 n356), (.int .u8 n357), (.bool b63), (.bool b64), (.int .i64 n358), (.int .i64 n359), (.int .i64 n360), (.int .i64 n361), (.int .i64 n362), (.int .i64 n363), (.int .i64 n364), (.int .i64 n365), (.int .i64 n366)]), (.int .i64 n363), (.int .i64 (10 : Int))] [.agg [.str, .int .u8, .int .u8, .bool, .bool, .int .i64, .int .i64, .int .i64, .int .i64, .int .i64, .int .i64, .int .i64, .int .i64, .int .i64]] st59 (fun (s63 : List UInt8) (n367 : Int) (n368 : Int) (b65 : Bool) (b66 : Bool) (n369 : Int) (n370 : Int) (n371 : Int) (n372 : Int) (n373 : Int) (n374 : Int) (n375 : Int) (n376 : Int) (n377 : Int) (st60 : St) => need (List.all [(.int .i64 n309), (.str s54), (.str s55), v27, (.str s56)] oneT) (K (s63) (n367) (n368) (b65) (b66) (n369) (n370) (n371) (n372) (n373) (n374) (n375) (n376) (n377) (n309) (s54) (s55) (v27) (s56) ((0 : Int)) st60))) (CallT PR fn_datakitref27_ends [(.str s62), (.int .i64 n363)] [.one (.int .i64)] st59 (fun (n378 : Int) (st61 : St) => ((0 ≤ n363 ∧ n363 ≤ (IntKind.i64.wrap (n363 + n378)) ∧ (IntKind.i64.wrap (n363 + n378)) ≤ ((s62).length : Int)) ∧ need (List.all [(.int .i64 n309), (.str s54), (.str s55), v27, (.str (List.drop (Int.toNat n363) (List.take (Int.toNat (IntKind.i64.wrap (n363 + n378))) s62)))] oneT) (K (s62) (n356) (n357) (b63) (b64) (n358) (n359) (n360) (n361) (n362) ((IntKind.i64.wrap (n363 + n378))) (n364) (n365) (n366) (n309) (s54) (s55) (v27) ((List.drop (Int.toNat n363) (List.take (Int.toNat (IntKind.i64.wrap (n363 + n378))) s62))) ((IntKind.i64.wrap (k_7 + (1 : Int)))) st61))))))))) (appK 49 5 80 v18 1 [(.int .i64 (5 : Int)), (.str ([] : List UInt8)), (.str ([] : List UInt8)), (.list 5 .full 1 [(.int .i64 (2 : Int)), (.str ([] : List UInt8)), (.str s_4), .nilSlice, (.str ([] : List UInt8))]), (.str ([] : List UInt8))] st56 (fun (v28 : TV) (st62 : St) => need (List.all [v28] oneT) (BIf (decide ((IntKind.i64.wrap (k_7 + (1 : Int))) < many_8)) (CallT PR fn_datakitref27_state_fail [(.agg [(.str s62), (.int .u8 n356), (.int .u8 n357), (.bool b63), (.bool b64), (.int .i64 n358), (.int .i64 n359), (.int .i64 n360), (.int .i64 n361), (.int .i64 n362), (.int .i64 n363), (.int .i64 n364), (.int .i64 n365), (.int .i64 n366)]), (.int .i64 n363), (.int .i64 (10 : Int))] [.agg [.str, .int .u8, .int .u8, .bool, .bool, .int .i64, .int .i64, .int .i64, .int .i64, .int .i64, .int .i64, .int .i64, .int .i64, .int .i64]] st62 (fun (s64 : List UInt8) (n379 : Int) (n380 : Int) (b67 : Bool) (b68 : Bool) (n381 : Int) (n382 : Int) (n383 : Int) (n384 : Int) (n385 : Int) (n386 : Int) (n387 : Int) (n388 : Int) (n389 : Int) (st63 : St) => need (List.all [(.int .i64 n309), (.str s54), (.str s55), v28, (.str s56)] oneT) (K (s64) (n379) (n380) (b67) (b68) (n381) (n382) (n383) (n384) (n385) (n386) (n387) (n388) (n389) (n309) (s54) (s55) (v28) (s56) ((0 : Int)) st63))) (CallT PR fn_datakitref27_ends [(.str s62), (.int .i64 n363)] [.one (.int .i64)] st62 (fun (n390 : Int) (st64 : St) => ((0 ≤ n363 ∧ n363 ≤ (IntKind.i64.wrap (n363 + n390)) ∧ (IntKind.i64.wrap (n363 + n390)) ≤ ((s62).length : Int)) ∧ need (List.all [(.int .i64 n309), (.str s54), (.str s55), v28, (.str (List.drop (Int.toNat n363) (List.take (Int.toNat (IntKind.i64.wrap (n363 + n390))) s62)))] oneT) (K (s62) (n356) (n357) (b63) (b64) (n358) (n359) (n360) (n361) (n362) ((IntKind.i64.wrap (n363 + n390))) (n364) (n365) (n366) (n309) (s54) (s55) (v28) ((List.drop (Int.toNat n363) (List.take (Int.toNat (IntKind.i64.wrap (n363 + n390))) s62))) ((IntKind.i64.wrap (k_7 + (1 : Int)))) st64)))))))))))))))))) (need (List.all [(.int .i64 n35), (.str s7), (.str s8), v2, (.str s9)] oneT) (K (s6) (n24) (n25) (b5) (b6) (n26) (n27) (n28) (n29) (n30) (n31) (n32) (n33) (n34) (n35) (s7) (s8) (v2) (s9) ((0 : Int)) st3))))) : CallT PR fn_datakitref27_record [(.agg [(.str x_0), (.int .u8 x_1), (.int .u8 x_2), (.bool x_3), (.bool x_4), (.int .i64 x_5), (.int .i64 x_6), (.int .i64 x_7), (.int .i64 x_8), (.int .i64 x_9), (.int .i64 x_10), (.int .i64 x_11), (.int .i64 x_12), (.int .i64 x_13)]), (.int .i64 many), (.bool header)] [.agg [.str, .int .u8, .int .u8, .bool, .bool, .int .i64, .int .i64, .int .i64, .int .i64, .int .i64, .int .i64, .int .i64, .int .i64, .int .i64], .agg [.int .i64, .str, .str, .tv, .str], .one (.int .i64)] st K :=
  tcalls_fw (cfg := ⟨[3, 6, 7, 9, 16], [], []⟩) (h := (.seq .none (.seq .none (.seq .none (.cut ⟨[(1, .int .i64), (2, .bool), (10, .tv)], [(3, 0, 0), (6, 1, 0), (7, 2, 0), (9, 3, 0)], [(0, 14), (1, 14), (2, 5), (3, 5)], [(0, 0, .str), (0, 1, .int .u8), (0, 2, .int .u8), (0, 3, .bool), (0, 4, .bool), (0, 5, .int .i64), (0, 6, .int .i64), (0, 7, .int .i64), (0, 8, .int .i64), (0, 9, .int .i64), (0, 10, .int .i64), (0, 11, .int .i64), (0, 12, .int .i64), (0, 13, .int .i64), (3, 0, .int .i64), (3, 1, .str), (3, 2, .str), (3, 3, .tv), (3, 4, .str)]⟩ .none (.seq (.seq .none (.block (.loop ⟨[(10, .tv), (11, .int .i64), (1, .int .i64), (2, .bool)], [(3, 0, 0), (6, 1, 0), (7, 2, 0), (9, 3, 0)], [(0, 14), (1, 14), (2, 5), (3, 5)], [(0, 0, .str), (0, 1, .int .u8), (0, 2, .int .u8), (0, 3, .bool), (0, 4, .bool), (0, 5, .int .i64), (0, 6, .int .i64), (0, 7, .int .i64), (0, 8, .int .i64), (0, 9, .int .i64), (0, 10, .int .i64), (0, 11, .int .i64), (0, 12, .int .i64), (0, 13, .int .i64), (3, 0, .int .i64), (3, 1, .str), (3, 2, .str), (3, 3, .tv), (3, 4, .str)]⟩ (.seq .none (.seq (.block (.seq .none (.seq .none (.cut ⟨[(1, .int .i64), (2, .bool), (10, .tv), (11, .int .i64), (12, .int .i64)], [(3, 0, 0), (6, 1, 0), (7, 2, 0), (9, 3, 0)], [(0, 14), (1, 14), (2, 5), (3, 5)], [(0, 0, .str), (0, 1, .int .u8), (0, 2, .int .u8), (0, 3, .bool), (0, 4, .bool), (0, 5, .int .i64), (0, 6, .int .i64), (0, 7, .int .i64), (0, 8, .int .i64), (0, 9, .int .i64), (0, 10, .int .i64), (0, 11, .int .i64), (0, 12, .int .i64), (0, 13, .int .i64), (3, 0, .int .i64), (3, 1, .str), (3, 2, .str), (3, 3, .tv), (3, 4, .str)]⟩ .none (.seq .none (.seq .none (.seq .none (.cut ⟨[(1, .int .i64), (2, .bool), (10, .tv), (11, .int .i64), (12, .int .i64), (13, .str), (14, .str)], [(3, 0, 0), (6, 1, 0), (7, 2, 0), (9, 3, 0)], [(0, 14), (1, 14), (2, 5), (3, 5)], [(0, 0, .str), (0, 1, .int .u8), (0, 2, .int .u8), (0, 3, .bool), (0, 4, .bool), (0, 5, .int .i64), (0, 6, .int .i64), (0, 7, .int .i64), (0, 8, .int .i64), (0, 9, .int .i64), (0, 10, .int .i64), (0, 11, .int .i64), (0, 12, .int .i64), (0, 13, .int .i64), (3, 0, .int .i64), (3, 1, .str), (3, 2, .str), (3, 3, .tv), (3, 4, .str)]⟩ .none (.seq (.seq .none (.block (.loop ⟨[(15, .int .i64), (1, .int .i64), (2, .bool), (10, .tv), (11, .int .i64), (12, .int .i64), (13, .str), (14, .str)], [(3, 0, 0), (6, 1, 0), (7, 2, 0), (9, 3, 0)], [(0, 14), (1, 14), (2, 5), (3, 5)], [(0, 0, .str), (0, 1, .int .u8), (0, 2, .int .u8), (0, 3, .bool), (0, 4, .bool), (0, 5, .int .i64), (0, 6, .int .i64), (0, 7, .int .i64), (0, 8, .int .i64), (0, 9, .int .i64), (0, 10, .int .i64), (0, 11, .int .i64), (0, 12, .int .i64), (0, 13, .int .i64), (3, 0, .int .i64), (3, 1, .str), (3, 2, .str), (3, 3, .tv), (3, 4, .str)]⟩ .none))) .none))))))))) .none))))) .none)))))) mixed (fun _ _ => Tryd.call80 _ _) Tryd.func80 (by kernel_rfl) (by kernel_rfl) h
end Go.TVF
end

section
set_option linter.unusedVariables false
namespace Go.TVF
open Go Go.Proofs
set_option maxRecDepth 100000 in
theorem vc_delim_special (b : Int) (st : St) (K : Bool → St → Prop) (h : CallT PR fn_delim_letter [(.int .u8 b)] [.one (.bool)] st (fun (b1 : Bool) (st1 : St) => BIf b1 (K (true) st1) (BIf (decide ((48 : Int) ≤ b)) (BIf (decide (b ≤ (57 : Int))) (K (true) st1) (BIf (decide (b = (43 : Int))) (K (true) st1) (BIf (decide (b = (45 : Int))) (K (true) st1) (BIf (decide (b = (46 : Int))) (K (true) st1) (K ((decide (b = (58 : Int)))) st1))))) (BIf (decide (b = (43 : Int))) (K (true) st1) (BIf (decide (b = (45 : Int))) (K (true) st1) (BIf (decide (b = (46 : Int))) (K (true) st1) (K ((decide (b = (58 : Int)))) st1))))))) : CallT PR fn_delim_special [(.int .u8 b)] [.one (.bool)] st K :=
  tcalls_fw (cfg := ⟨[], [], []⟩) (h := .none) mixed (fun _ _ => Tryd.call81 _ _) Tryd.func81 (by kernel_rfl) (by kernel_rfl) h
set_option maxRecDepth 100000 in
theorem vc_datakitref27_mark (c : Int) (st : St) (K : Bool → St → Prop) (h : CallT PR fn_datakitref19_Letter [(.int .u8 c)] [.one (.bool)] st (fun (b1 : Bool) (st1 : St) => BIf (!b1) (CallT PR fn_datakitref19_Digit [(.int .u8 c)] [.one (.bool)] st1 (fun (b2 : Bool) (st2 : St) => BIf (!b2) (BIf (decide (c ≠ (43 : Int))) (BIf (decide (c ≠ (45 : Int))) (BIf (decide (c ≠ (46 : Int))) (K ((decide (c ≠ (58 : Int)))) st2) (K (false) st2)) (K (false) st2)) (K (false) st2)) (K (false) st2))) (K (false) st1))) : CallT PR fn_datakitref27_mark [(.int .u8 c)] [.one (.bool)] st K :=
  tcalls_fw (cfg := ⟨[], [], []⟩) (h := .none) mixed (fun _ _ => Tryd.call82 _ _) Tryd.func82 (by kernel_rfl) (by kernel_rfl) h
set_option maxRecDepth 100000 in
theorem vc_datakitref13_room (n_0 : Int) (n_1 : List UInt8) (n_2 : List UInt8) (n_3 : TV) (n_4 : List UInt8) (left : Int) (depth : Int) (long : Int) (st : St) (K : Int → St → Prop) (h : BIf (decide (depth ≤ (0 : Int))) (K ((-1 : Int)) st) (need (isSl n_3) (BIf (decide ((IntKind.i64.wrap (left - (1 : Int))) < (lenS n_3 : Int))) (K ((-1 : Int)) st) (BIf (decide (long < ((n_1).length : Int))) (K ((-1 : Int)) st) (BIf (decide (long < ((n_2).length : Int))) (K ((-1 : Int)) st) (BIf (decide (long < ((n_4).length : Int))) (K ((-1 : Int)) st) (∃ (I1 : Int → Int → Int → Int → Int → List UInt8 → List UInt8 → TV → List UInt8 → St → Prop) (M1 : Int → Int → Int → Int → Int → List UInt8 → List UInt8 → TV → List UInt8 → St → Nat), (I1 ((IntKind.i64.wrap (left - (1 : Int)))) ((0 : Int)) (depth) (long) (n_0) (n_1) (n_2) (n_3) (n_4) st) ∧ ∀ (left_1 : Int) (i_1 : Int) (depth_1 : Int) (long_1 : Int) (n1 : Int) (s1 : List UInt8) (s2 : List UInt8) (v1 : TV) (s3 : List UInt8) (st1 : St), I1 left_1 i_1 depth_1 long_1 n1 s1 s2 v1 s3 st1 → (need (isSl v1) (BIf (decide (i_1 < (lenS v1 : Int))) (BIf (decide ((0 : Int) ≤ left_1)) (((0 ≤ i_1 ∧ i_1 < (lenZ 5 v1 : Int)) ∧ optK ((ldCells st1 [] (.t (ixT 5 v1 (Int.toNat i_1))) 0 5).map TV.agg) (fun (x1 : TV) => decA [.int .i64, .str, .str, .tv, .str] x1 (fun (n2 : Int) (s4 : List UInt8) (s5 : List UInt8) (v2 : TV) (s6 : List UInt8) => CallT PR fn_datakitref13_room [(.agg [(.int .i64 n2), (.str s4), (.str s5), v2, (.str s6)]), (.int .i64 left_1), (.int .i64 (IntKind.i64.wrap (depth_1 - (1 : Int)))), (.int .i64 long_1)] [.one (.int .i64)] st1 (fun (n3 : Int) (st2 : St) => (I1 (n3) ((IntKind.i64.wrap (i_1 + (1 : Int)))) (depth_1) (long_1) (n1) (s1) (s2) (v1) (s3) st2 ∧ M1 (n3) ((IntKind.i64.wrap (i_1 + (1 : Int)))) (depth_1) (long_1) (n1) (s1) (s2) (v1) (s3) st2 < M1 left_1 i_1 depth_1 long_1 n1 s1 s2 v1 s3 st1)))))) (K (left_1) st1)) (K (left_1) st1)))))))))) : CallT PR fn_datakitref13_room [(.agg [(.int .i64 n_0), (.str n_1), (.str n_2), n_3, (.str n_4)]), (.int .i64 left), (.int .i64 depth), (.int .i64 long)] [.one (.int .i64)] st K :=
  tcalls_fw (cfg := ⟨[4], [], []⟩) (h := (.seq .none (.seq .none (.seq .none (.seq (.seq .none (.block (.loop ⟨[(1, .int .i64), (9, .int .i64), (2, .int .i64), (3, .int .i64)], [(4, 0, 0)], [(0, 5)], [(0, 0, .int .i64), (0, 1, .str), (0, 2, .str), (0, 3, .tv), (0, 4, .str)]⟩ .none))) .none))))) mixed (fun _ _ => Tryd.call83 _ _) Tryd.func83 (by kernel_rfl) (by kernel_rfl) h
set_option maxRecDepth 100000 in
theorem vc_datakitref27_Is (n_0 : Int) (n_1 : List UInt8) (n_2 : List UInt8) (n_3 : TV) (n_4 : List UInt8) (d_0 : Int) (d_1 : Int) (d_2 : Bool) (d_3 : Bool) (st : St) (K : Bool → St → Prop) (h : CallT PR fn_datakitref13_Check [(.agg [(.int .i64 n_0), (.str n_1), (.str n_2), n_3, (.str n_4)])] [.one (.int .i64)] st (fun (n1 : Int) (st1 : St) => BIf (decide (n1 ≠ (0 : Int))) (K (false) st1) (CallT PR fn_datakitref13_Print [(.agg [(.int .i64 n_0), (.str n_1), (.str n_2), n_3, (.str n_4)])] [.one (.str)] st1 (fun (s1 : List UInt8) (st2 : St) => CallT PR fn_datakitref11_Usual [] [.agg [.int .i64, .int .i64, .int .i64, .int .i64, .int .i64]] st2 (fun (n2 : Int) (n3 : Int) (n4 : Int) (n5 : Int) (n6 : Int) (st3 : St) => CallT PR fn_datakitref27_Parse [(.str s1), (.agg [(.int .u8 d_0), (.int .u8 d_1), (.bool d_2), (.bool d_3)]), (.agg [(.int .i64 n2), (.int .i64 n3), (.int .i64 n4), (.int .i64 n5), (.int .i64 n6)])] [.agg [.int .i64, .str, .str, .tv, .str], .one (.int .i64), .one (.int .i64)] st3 (fun (n7 : Int) (s2 : List UInt8) (s3 : List UInt8) (v1 : TV) (s4 : List UInt8) (n8 : Int) (n9 : Int) (st4 : St) => need (List.all [(.int .i64 n7), (.str s2), (.str s3), v1, (.str s4)] oneT) (BIf (decide (n9 = (0 : Int))) (CallT PR fn_datakitref13_Same [(.agg [(.int .i64 n7), (.str s2), (.str s3), v1, (.str s4)]), (.agg [(.int .i64 n_0), (.str n_1), (.str n_2), n_3, (.str n_4)])] [.one (.bool)] st4 (fun (b1 : Bool) (st5 : St) => K (b1) st5)) (K (false) st4)))))))) : CallT PR fn_datakitref27_Is [(.agg [(.int .i64 n_0), (.str n_1), (.str n_2), n_3, (.str n_4)]), (.agg [(.int .u8 d_0), (.int .u8 d_1), (.bool d_2), (.bool d_3)])] [.one (.bool)] st K :=
  tcalls_fw (cfg := ⟨[2, 3, 5], [], []⟩) (h := .none) mixed (fun _ _ => Tryd.call84 _ _) Tryd.func84 (by kernel_rfl) (by kernel_rfl) h
set_option maxRecDepth 100000 in
theorem vc_datakitref27_Plain (s : List UInt8) (d_0 : Int) (d_1 : Int) (d_2 : Bool) (d_3 : Bool) (st : St) (K : List UInt8 → St → Prop) (h : BIf (decide (s = ([] : List UInt8))) (K (s) st) (((0 ≤ (0 : Int) ∧ (0 : Int) < ((s).length : Int)) ∧ BIf (decide (((List.getD s (Int.toNat (0 : Int)) 0).toNat : Int) ≠ d_1)) (K (s) st) (∃ (I1 : List UInt8 → Int → List UInt8 → Int → Int → Bool → Bool → St → Prop) (M1 : List UInt8 → Int → List UInt8 → Int → Int → Bool → Bool → St → Nat), (I1 (([] : List UInt8)) ((1 : Int)) (s) (d_0) (d_1) (d_2) (d_3) st) ∧ ∀ (out_1 : List UInt8) (i_1 : Int) (s_1 : List UInt8) (n1 : Int) (n2 : Int) (b1 : Bool) (b2 : Bool) (st1 : St), I1 out_1 i_1 s_1 n1 n2 b1 b2 st1 → (BIf (decide ((IntKind.i64.wrap (i_1 + (1 : Int))) < ((s_1).length : Int))) (((0 ≤ i_1 ∧ i_1 ≤ (IntKind.i64.wrap (i_1 + (1 : Int))) ∧ (IntKind.i64.wrap (i_1 + (1 : Int))) ≤ ((s_1).length : Int)) ∧ ((out_1).length + ((List.drop (Int.toNat i_1) (List.take (Int.toNat (IntKind.i64.wrap (i_1 + (1 : Int)))) s_1))).length ≤ 9223372036854775807 ∧ ((0 ≤ i_1 ∧ i_1 < ((s_1).length : Int)) ∧ BIf (decide (((List.getD s_1 (Int.toNat i_1) 0).toNat : Int) = n2)) ((I1 ((out_1 ++ (List.drop (Int.toNat i_1) (List.take (Int.toNat (IntKind.i64.wrap (i_1 + (1 : Int)))) s_1)))) ((IntKind.i64.wrap ((IntKind.i64.wrap (i_1 + (1 : Int))) + (1 : Int)))) (s_1) (n1) (n2) (b1) (b2) st1 ∧ M1 ((out_1 ++ (List.drop (Int.toNat i_1) (List.take (Int.toNat (IntKind.i64.wrap (i_1 + (1 : Int)))) s_1)))) ((IntKind.i64.wrap ((IntKind.i64.wrap (i_1 + (1 : Int))) + (1 : Int)))) (s_1) (n1) (n2) (b1) (b2) st1 < M1 out_1 i_1 s_1 n1 n2 b1 b2 st1)) ((I1 ((out_1 ++ (List.drop (Int.toNat i_1) (List.take (Int.toNat (IntKind.i64.wrap (i_1 + (1 : Int)))) s_1)))) ((IntKind.i64.wrap (i_1 + (1 : Int)))) (s_1) (n1) (n2) (b1) (b2) st1 ∧ M1 ((out_1 ++ (List.drop (Int.toNat i_1) (List.take (Int.toNat (IntKind.i64.wrap (i_1 + (1 : Int)))) s_1)))) ((IntKind.i64.wrap (i_1 + (1 : Int)))) (s_1) (n1) (n2) (b1) (b2) st1 < M1 out_1 i_1 s_1 n1 n2 b1 b2 st1)))))) (K (out_1) st1)))))) : CallT PR fn_datakitref27_Plain [(.str s), (.agg [(.int .u8 d_0), (.int .u8 d_1), (.bool d_2), (.bool d_3)])] [.one (.str)] st K :=
  tcalls_fw (cfg := ⟨[3], [], []⟩) (h := (.seq .none (.seq .none (.seq .none (.seq (.seq .none (.block (.loop ⟨[(5, .str), (6, .int .i64), (0, .str)], [(3, 0, 0)], [(0, 4)], [(0, 0, .int .u8), (0, 1, .int .u8), (0, 2, .bool), (0, 3, .bool)]⟩ .none))) .none))))) mixed (fun _ _ => Tryd.call85 _ _) Tryd.func85 (by kernel_rfl) (by kernel_rfl) h
set_option maxRecDepth 100000 in
theorem vc_datakitref11_Usual  (st : St) (K : Int → Int → Int → Int → Int → St → Prop) (h : K ((48 : Int)) ((65536 : Int)) ((1048576 : Int)) ((1024 : Int)) ((65536 : Int)) st) : CallT PR fn_datakitref11_Usual [] [.agg [.int .i64, .int .i64, .int .i64, .int .i64, .int .i64]] st K :=
  tcalls_fw (cfg := ⟨[0], [], []⟩) (h := .none) mixed (fun _ _ => Tryd.call87 _ _) Tryd.func87 (by kernel_rfl) (by kernel_rfl) h
set_option maxRecDepth 100000 in
theorem vc_utf_Valid (s : List UInt8) (st : St) (K : Bool → St → Prop) (h : CallT PR fn_utf_Len [(.str s)] [.one (.int .i64), .one (.int .i64)] st (fun (n1 : Int) (n2 : Int) (st1 : St) => K ((decide (n2 = (0 : Int)))) st1)) : CallT PR fn_utf_Valid [(.str s)] [.one (.bool)] st K :=
  tcalls_fw (cfg := ⟨[], [], []⟩) (h := .none) mixed (fun _ _ => Tryd.call88 _ _) Tryd.func88 (by kernel_rfl) (by kernel_rfl) h
set_option maxRecDepth 100000 in
theorem vc_datakitref27_InQuotes (s : List UInt8) (d_0 : Int) (d_1 : Int) (d_2 : Bool) (d_3 : Bool) (st : St) (K : List UInt8 → St → Prop) (h : optK ((toBytes st (.list 1 .full 1 [(.int .u8 d_1)])).map TV.str) (fun (x1 : TV) => decT (.str) x1 (fun (s1 : List UInt8) => ∃ (I1 : List UInt8 → Int → List UInt8 → List UInt8 → Int → Int → Bool → Bool → St → Prop) (M1 : List UInt8 → Int → List UInt8 → List UInt8 → Int → Int → Bool → Bool → St → Nat), (I1 (s1) ((0 : Int)) (s) (s1) (d_0) (d_1) (d_2) (d_3) st) ∧ ∀ (out_1 : List UInt8) (i_1 : Int) (s_1 : List UInt8) (q_1 : List UInt8) (n1 : Int) (n2 : Int) (b1 : Bool) (b2 : Bool) (st1 : St), I1 out_1 i_1 s_1 q_1 n1 n2 b1 b2 st1 → (BIf (decide (i_1 < ((s_1).length : Int))) (((0 ≤ i_1 ∧ i_1 ≤ (IntKind.i64.wrap (i_1 + (1 : Int))) ∧ (IntKind.i64.wrap (i_1 + (1 : Int))) ≤ ((s_1).length : Int)) ∧ ((out_1).length + ((List.drop (Int.toNat i_1) (List.take (Int.toNat (IntKind.i64.wrap (i_1 + (1 : Int)))) s_1))).length ≤ 9223372036854775807 ∧ ((0 ≤ i_1 ∧ i_1 < ((s_1).length : Int)) ∧ BIf (decide (((List.getD s_1 (Int.toNat i_1) 0).toNat : Int) = n2)) ((((out_1 ++ (List.drop (Int.toNat i_1) (List.take (Int.toNat (IntKind.i64.wrap (i_1 + (1 : Int)))) s_1)))).length + (q_1).length ≤ 9223372036854775807 ∧ (I1 (((out_1 ++ (List.drop (Int.toNat i_1) (List.take (Int.toNat (IntKind.i64.wrap (i_1 + (1 : Int)))) s_1))) ++ q_1)) ((IntKind.i64.wrap (i_1 + (1 : Int)))) (s_1) (q_1) (n1) (n2) (b1) (b2) st1 ∧ M1 (((out_1 ++ (List.drop (Int.toNat i_1) (List.take (Int.toNat (IntKind.i64.wrap (i_1 + (1 : Int)))) s_1))) ++ q_1)) ((IntKind.i64.wrap (i_1 + (1 : Int)))) (s_1) (q_1) (n1) (n2) (b1) (b2) st1 < M1 out_1 i_1 s_1 q_1 n1 n2 b1 b2 st1))) ((I1 ((out_1 ++ (List.drop (Int.toNat i_1) (List.take (Int.toNat (IntKind.i64.wrap (i_1 + (1 : Int)))) s_1)))) ((IntKind.i64.wrap (i_1 + (1 : Int)))) (s_1) (q_1) (n1) (n2) (b1) (b2) st1 ∧ M1 ((out_1 ++ (List.drop (Int.toNat i_1) (List.take (Int.toNat (IntKind.i64.wrap (i_1 + (1 : Int)))) s_1)))) ((IntKind.i64.wrap (i_1 + (1 : Int)))) (s_1) (q_1) (n1) (n2) (b1) (b2) st1 < M1 out_1 i_1 s_1 q_1 n1 n2 b1 b2 st1)))))) (((out_1).length + (q_1).length ≤ 9223372036854775807 ∧ K ((out_1 ++ q_1)) st1)))))) : CallT PR fn_datakitref27_InQuotes [(.str s), (.agg [(.int .u8 d_0), (.int .u8 d_1), (.bool d_2), (.bool d_3)])] [.one (.str)] st K :=
  tcalls_fw (cfg := ⟨[3], [], []⟩) (h := (.seq .none (.seq .none (.seq .none (.seq (.seq .none (.block (.loop ⟨[(6, .str), (7, .int .i64), (0, .str), (5, .str)], [(3, 0, 0)], [(0, 4)], [(0, 0, .int .u8), (0, 1, .int .u8), (0, 2, .bool), (0, 3, .bool)]⟩ .none))) .none))))) mixed (fun _ _ => Tryd.call91 _ _) Tryd.func91 (by kernel_rfl) (by kernel_rfl) h
set_option maxRecDepth 100000 in
theorem vc_strings_Builder_Len (b : Nat) (st : St) (K : Int → St → Prop) (h : optK (ldCell st [] (.t (.box b 1)) 0) (fun (v1 : TV) => need (isSl v1) (K ((lenS v1 : Int)) st))) : CallT PR fn_strings_Builder_Len [(.box b 0)] [.one (.int .i64)] st K :=
  tcalls_fw (cfg := ⟨[], [], []⟩) (h := .none) mixed (fun _ _ => Tryd.call92 _ _) Tryd.func92 (by kernel_rfl) (by kernel_rfl) h
set_option maxRecDepth 100000 in
theorem vc_strings_Builder_WriteByte (b : Nat) (c : Int) (st : St) (K : TV → St → Prop) (h : CallT PR fn_strings_Builder_copyCheck [(.box b 0)] [] st (fun  (st1 : St) => optK (ldCell st1 [] (.t (.box b 1)) 0) (fun (v1 : TV) => appK 5 1 1 v1 1 [(.int .u8 c)] st1 (fun (v2 : TV) (st2 : St) => need (List.all [v2] oneT) (stB st2 (.box b 1) [v2] (fun (st3 : St) => K (.nilIface) st3)))))) : CallT PR fn_strings_Builder_WriteByte [(.box b 0), (.int .u8 c)] [.one (.tv)] st K :=
  tcalls_fw (cfg := ⟨[], [], []⟩) (h := .none) mixed (fun _ _ => Tryd.call93 _ _) Tryd.func93 (by kernel_rfl) (by kernel_rfl) h
set_option maxRecDepth 100000 in
theorem vc_utf_Decode (s : List UInt8) (atx : Int) (st : St) (K : Int → Int → St → Prop) (h : BIf (decide (atx < (0 : Int))) (K ((0 : Int)) ((0 : Int)) st) (BIf (decide (((s).length : Int) ≤ atx)) (K ((0 : Int)) ((0 : Int)) st) (((0 ≤ atx ∧ atx < ((s).length : Int)) ∧ CallT PR fn_utf_head [(.int .u8 ((List.getD s (Int.toNat atx) 0).toNat : Int))] [.one (.int .i64), .one (.int .i64)] st (fun (n1 : Int) (n2 : Int) (st1 : St) => BIf (decide (n1 = (0 : Int))) (K ((0 : Int)) ((0 : Int)) st1) (BIf (decide ((IntKind.i64.wrap (((s).length : Int) - atx)) < n1)) (K ((0 : Int)) ((0 : Int)) st1) (∃ (I1 : Int → Int → List UInt8 → Int → Int → St → Prop) (M1 : Int → Int → List UInt8 → Int → Int → St → Nat), (I1 (n2) ((1 : Int)) (s) (atx) (n1) st1) ∧ ∀ (r_1 : Int) (i_1 : Int) (s_1 : List UInt8) (at_1 : Int) (n_1 : Int) (st2 : St), I1 r_1 i_1 s_1 at_1 n_1 st2 → (BIf (decide (i_1 < n_1)) (((0 ≤ (IntKind.i64.wrap (at_1 + i_1)) ∧ (IntKind.i64.wrap (at_1 + i_1)) < ((s_1).length : Int)) ∧ BIf (decide ((bitsI .and .u8 ((List.getD s_1 (Int.toNat (IntKind.i64.wrap (at_1 + i_1))) 0).toNat : Int) (192 : Int)) ≠ (128 : Int))) (K ((0 : Int)) ((0 : Int)) st2) ((I1 ((bitsI .or .i64 (IntKind.i64.wrap (r_1 * 2 ^ (min (Int.toNat (6 : Int)) (IntKind.bits .i64)))) (IntKind.i64.wrap (bitsI .and .u8 ((List.getD s_1 (Int.toNat (IntKind.i64.wrap (at_1 + i_1))) 0).toNat : Int) (63 : Int))))) ((IntKind.i64.wrap (i_1 + (1 : Int)))) (s_1) (at_1) (n_1) st2 ∧ M1 ((bitsI .or .i64 (IntKind.i64.wrap (r_1 * 2 ^ (min (Int.toNat (6 : Int)) (IntKind.bits .i64)))) (IntKind.i64.wrap (bitsI .and .u8 ((List.getD s_1 (Int.toNat (IntKind.i64.wrap (at_1 + i_1))) 0).toNat : Int) (63 : Int))))) ((IntKind.i64.wrap (i_1 + (1 : Int)))) (s_1) (at_1) (n_1) st2 < M1 r_1 i_1 s_1 at_1 n_1 st2)))) (CallT PR fn_utf_scalar [(.int .i64 r_1)] [.one (.bool)] st2 (fun (b1 : Bool) (st3 : St) => BIf (!b1) (K ((0 : Int)) ((0 : Int)) st3) (CallT PR fn_utf_width [(.int .i64 r_1)] [.one (.int .i64)] st3 (fun (n3 : Int) (st4 : St) => BIf (decide (n3 ≠ n_1)) (K ((0 : Int)) ((0 : Int)) st4) (K (r_1) (n_1) st4))))))))))))) : CallT PR fn_utf_Decode [(.str s), (.int .i64 atx)] [.one (.int .i64), .one (.int .i64)] st K :=
  tcalls_fw (cfg := ⟨[], [], []⟩) (h := (.seq .none (.seq .none (.seq .none (.seq .none (.seq (.seq .none (.block (.loop ⟨[(4, .int .i64), (7, .int .i64), (0, .str), (1, .int .i64), (6, .int .i64)], [], [], []⟩ .none))) .none)))))) mixed (fun _ _ => Tryd.call113 _ _) Tryd.func113 (by kernel_rfl) (by kernel_rfl) h
set_option maxRecDepth 100000 in
theorem vc_delim_parser_value (p : Nat) (depth : Int) (st : St) (K : Bool → St → Prop) (h : optK (ldCell st [] (.t (.box p 5)) 0) (fun (x1 : TV) => decT (.int .i64) x1 (fun (n1 : Int) => BIf (decide (n1 < depth)) (optK (ldCell st [] (.t (.box p 10)) 0) (fun (x2 : TV) => decT (.int .i64) x2 (fun (n2 : Int) => CallT PR fn_delim_parser_fail [(.box p 0), (.int .i64 n2), (.int .i64 (9 : Int))] [.one (.bool)] st (fun (b1 : Bool) (st1 : St) => K (b1) st1)))) (optK (ldCell st [] (.t (.box p 11)) 0) (fun (x3 : TV) => decT (.int .i64) x3 (fun (n3 : Int) => optK (ldCell st [] (.t (.box p 6)) 0) (fun (x4 : TV) => decT (.int .i64) x4 (fun (n4 : Int) => BIf (decide (n4 ≤ n3)) (optK (ldCell st [] (.t (.box p 10)) 0) (fun (x5 : TV) => decT (.int .i64) x5 (fun (n5 : Int) => CallT PR fn_delim_parser_fail [(.box p 0), (.int .i64 n5), (.int .i64 (10 : Int))] [.one (.bool)] st (fun (b2 : Bool) (st2 : St) => K (b2) st2)))) (optK (ldCell st [] (.t (.box p 11)) 0) (fun (x6 : TV) => decT (.int .i64) x6 (fun (n6 : Int) => stB st (.box p 11) [(.int .i64 (IntKind.i64.wrap (n6 + (1 : Int))))] (fun (st3 : St) => K (true) st3)))))))))))) : CallT PR fn_delim_parser_value [(.box p 0), (.int .i64 depth)] [.one (.bool)] st K :=
  tcalls_fw (cfg := ⟨[], [], []⟩) (h := .none) mixed (fun _ _ => Tryd.call114 _ _) Tryd.func114 (by kernel_rfl) (by kernel_rfl) h
set_option maxRecDepth 100000 in
theorem vc_delim_parser_fail (p : Nat) (atx : Int) (e : Int) (st : St) (K : Bool → St → Prop) (h : stB st (.box p 14) [(.int .i64 atx)] (fun (st1 : St) => stB st1 (.box p 15) [(.int .i64 e)] (fun (st2 : St) => K (false) st2))) : CallT PR fn_delim_parser_fail [(.box p 0), (.int .i64 atx), (.int .i64 e)] [.one (.bool)] st K :=
  tcalls_fw (cfg := ⟨[], [], []⟩) (h := .none) mixed (fun _ _ => Tryd.call115 _ _) Tryd.func115 (by kernel_rfl) (by kernel_rfl) h
set_option maxRecDepth 100000 in
theorem vc_delim_parser_entry (p : Nat) (header : Bool) (st : St) (K : Int → List UInt8 → List UInt8 → TV → List UInt8 → Bool → St → Prop) (h : BIf (!header) (CallT PR fn_delim_parser_value [(.box p 0), (.int .i64 (3 : Int))] [.one (.bool)] st (fun (b1 : Bool) (st1 : St) => BIf (!b1) (K ((5 : Int)) (([] : List UInt8)) (([] : List UInt8)) (.nilSlice) (([] : List UInt8)) (false) st1) (optK (ldCell st1 [] (.t (.box p 10)) 0) (fun (x1 : TV) => decT (.int .i64) x1 (fun (n1 : Int) => CallT PR fn_delim_parser_cell [(.box p 0)] [.one (.bool)] st1 (fun (b2 : Bool) (st2 : St) => BIf (!b2) (K ((5 : Int)) (([] : List UInt8)) (([] : List UInt8)) (.nilSlice) (([] : List UInt8)) (false) st2) (optK (ldCell st2 [] (.t (.box p 0)) 0) (fun (x2 : TV) => decT (.str) x2 (fun (s1 : List UInt8) => optK (ldCell st2 [] (.t (.box p 10)) 0) (fun (x3 : TV) => decT (.int .i64) x3 (fun (n2 : Int) => ((0 ≤ n1 ∧ n1 ≤ n2 ∧ n2 ≤ ((s1).length : Int)) ∧ optK ((ldCells st2 [] (.t (.box p 1)) 0 4).map TV.agg) (fun (x4 : TV) => decA [.int .u8, .int .u8, .bool, .bool] x4 (fun (n3 : Int) (n4 : Int) (b3 : Bool) (b4 : Bool) => CallT PR fn_delim_text [(.str (List.drop (Int.toNat n1) (List.take (Int.toNat n2) s1))), (.agg [(.int .u8 n3), (.int .u8 n4), (.bool b3), (.bool b4)])] [.one (.str), .one (.bool)] st2 (fun (s2 : List UInt8) (b5 : Bool) (st3 : St) => ∃ (C1 : Int → TV → Bool → Int → List UInt8 → List UInt8 → Int → List UInt8 → List UInt8 → TV → List UInt8 → St → Prop), (BIf header (C1 ((1024 : Int)) ((.box p 0)) (header) (n1) ((List.drop (Int.toNat n1) (List.take (Int.toNat n2) s1))) (s2) ((5 : Int)) (([] : List UInt8)) (([] : List UInt8)) (.nilSlice) (([] : List UInt8)) st3) (C1 ((65536 : Int)) ((.box p 0)) (header) (n1) ((List.drop (Int.toNat n1) (List.take (Int.toNat n2) s1))) (s2) ((5 : Int)) (([] : List UInt8)) (([] : List UInt8)) (.nilSlice) (([] : List UInt8)) st3)) ∧ ∀ (most_1 : Int) (p_1 : TV) (header_1 : Bool) (from_1 : Int) (cell_1 : List UInt8) (s_1 : List UInt8) (n5 : Int) (s3 : List UInt8) (s4 : List UInt8) (v1 : TV) (s5 : List UInt8) (st4 : St), C1 most_1 p_1 header_1 from_1 cell_1 s_1 n5 s3 s4 v1 s5 st4 → (BIf (decide (most_1 < ((s_1).length : Int))) (CallT PR fn_delim_parser_fail [p_1, (.int .i64 from_1), (.int .i64 (10 : Int))] [.one (.bool)] st4 (fun (b6 : Bool) (st5 : St) => need (List.all [(.int .i64 n5), (.str s3), (.str s4), v1, (.str s5)] oneT) (K (n5) (s3) (s4) (v1) (s5) (b6) st5))) (BIf header_1 (need (isPtr p_1) (need (isPtr p_1) (optK (ldCell st4 [] (.t (fldT p_1 13)) 0) (fun (v2 : TV) => optK (mapOf st4 v2) (fun (es1 : List (List UInt8 × TV)) => decT (.bool) (orZero (.bool false) (findM s_1 es1)) (fun (b7 : Bool) => BIf b7 (CallT PR fn_delim_parser_fail [p_1, (.int .i64 from_1), (.int .i64 (8 : Int))] [.one (.bool)] st4 (fun (b8 : Bool) (st6 : St) => need (List.all [(.int .i64 n5), (.str s3), (.str s4), v1, (.str s5)] oneT) (K (n5) (s3) (s4) (v1) (s5) (b8) st6))) (need (isPtr p_1) (need (isPtr p_1) (optK (ldCell st4 [] (.t (fldT p_1 13)) 0) (fun (v3 : TV) => muK v3 s_1 (.bool true) st4 (fun (st7 : St) => appK 49 5 80 v1 1 [(.int .i64 (2 : Int)), (.str ([] : List UInt8)), (.str cell_1), .nilSlice, (.str ([] : List UInt8))] st7 (fun (v4 : TV) (st8 : St) => need (List.all [v4] oneT) (need (isPtr p_1) (need (isPtr p_1) (optK (ldCell st8 [] (.t (fldT p_1 10)) 0) (fun (x7 : TV) => decT (.int .i64) x7 (fun (n6 : Int) => need (isPtr p_1) (need (isPtr p_1) (optK (ldCell st8 [] (.t (fldT p_1 0)) 0) (fun (x8 : TV) => decT (.str) x8 (fun (s6 : List UInt8) => BIf (decide (n6 < ((s6).length : Int))) (need (isPtr p_1) (need (isPtr p_1) (optK (ldCell st8 [] (.t (fldT p_1 0)) 0) (fun (x9 : TV) => decT (.str) x9 (fun (s7 : List UInt8) => need (isPtr p_1) (need (isPtr p_1) (optK (ldCell st8 [] (.t (fldT p_1 10)) 0) (fun (x10 : TV) => decT (.int .i64) x10 (fun (n7 : Int) => ((0 ≤ n7 ∧ n7 < ((s7).length : Int)) ∧ need (isPtr p_1) (need (isPtr p_1) (need (isPtr (fldT p_1 1)) (optK (ldCell st8 [] (.t (fldT (fldT p_1 1) 0)) 0) (fun (x11 : TV) => decT (.int .u8) x11 (fun (n8 : Int) => BIf (decide (((List.getD s7 (Int.toNat n7) 0).toNat : Int) = n8)) (need (isPtr p_1) (need (isPtr p_1) (optK (ldCell st8 [] (.t (fldT p_1 10)) 0) (fun (x12 : TV) => decT (.int .i64) x12 (fun (n9 : Int) => need (isPtr p_1) (need (isPtr p_1) (stB st8 (fldT p_1 10) [(.int .i64 (IntKind.i64.wrap (n9 + (1 : Int))))] (fun (st9 : St) => need (isPtr p_1) (need (isPtr p_1) (need (isPtr (fldT p_1 1)) (optK (ldCell st9 [] (.t (fldT (fldT p_1 1) 0)) 0) (fun (x13 : TV) => decT (.int .u8) x13 (fun (n10 : Int) => optK ((toBytes st9 (.list 1 .full 1 [(.int .u8 n10)])).map TV.str) (fun (x14 : TV) => decT (.str) x14 (fun (s8 : List UInt8) => appK 49 5 80 v4 1 [(.int .i64 (11 : Int)), (.str ([] : List UInt8)), (.str s8), .nilSlice, (.str ([] : List UInt8))] st9 (fun (v5 : TV) (st10 : St) => need (List.all [v5] oneT) (need (List.all [(.int .i64 n5), (.str s3), (.str s4), v5, (.str s5)] oneT) (K (n5) (s3) (s4) (v5) (s5) (true) st10)))))))))))))))))) (need (List.all [(.int .i64 n5), (.str s3), (.str s4), v4, (.str s5)] oneT) (K (n5) (s3) (s4) (v4) (s5) (true) st8))))))))))))))))) (need (List.all [(.int .i64 n5), (.str s3), (.str s4), v4, (.str s5)] oneT) (K (n5) (s3) (s4) (v4) (s5) (true) st8))))))))))))))))))))))) (appK 49 5 80 v1 1 [(.int .i64 (2 : Int)), (.str ([] : List UInt8)), (.str cell_1), .nilSlice, (.str ([] : List UInt8))] st4 (fun (v6 : TV) (st11 : St) => need (List.all [v6] oneT) (need (isPtr p_1) (need (isPtr p_1) (optK (ldCell st11 [] (.t (fldT p_1 10)) 0) (fun (x15 : TV) => decT (.int .i64) x15 (fun (n11 : Int) => need (isPtr p_1) (need (isPtr p_1) (optK (ldCell st11 [] (.t (fldT p_1 0)) 0) (fun (x16 : TV) => decT (.str) x16 (fun (s9 : List UInt8) => BIf (decide (n11 < ((s9).length : Int))) (need (isPtr p_1) (need (isPtr p_1) (optK (ldCell st11 [] (.t (fldT p_1 0)) 0) (fun (x17 : TV) => decT (.str) x17 (fun (s10 : List UInt8) => need (isPtr p_1) (need (isPtr p_1) (optK (ldCell st11 [] (.t (fldT p_1 10)) 0) (fun (x18 : TV) => decT (.int .i64) x18 (fun (n12 : Int) => ((0 ≤ n12 ∧ n12 < ((s10).length : Int)) ∧ need (isPtr p_1) (need (isPtr p_1) (need (isPtr (fldT p_1 1)) (optK (ldCell st11 [] (.t (fldT (fldT p_1 1) 0)) 0) (fun (x19 : TV) => decT (.int .u8) x19 (fun (n13 : Int) => BIf (decide (((List.getD s10 (Int.toNat n12) 0).toNat : Int) = n13)) (need (isPtr p_1) (need (isPtr p_1) (optK (ldCell st11 [] (.t (fldT p_1 10)) 0) (fun (x20 : TV) => decT (.int .i64) x20 (fun (n14 : Int) => need (isPtr p_1) (need (isPtr p_1) (stB st11 (fldT p_1 10) [(.int .i64 (IntKind.i64.wrap (n14 + (1 : Int))))] (fun (st12 : St) => need (isPtr p_1) (need (isPtr p_1) (need (isPtr (fldT p_1 1)) (optK (ldCell st12 [] (.t (fldT (fldT p_1 1) 0)) 0) (fun (x21 : TV) => decT (.int .u8) x21 (fun (n15 : Int) => optK ((toBytes st12 (.list 1 .full 1 [(.int .u8 n15)])).map TV.str) (fun (x22 : TV) => decT (.str) x22 (fun (s11 : List UInt8) => appK 49 5 80 v6 1 [(.int .i64 (11 : Int)), (.str ([] : List UInt8)), (.str s11), .nilSlice, (.str ([] : List UInt8))] st12 (fun (v7 : TV) (st13 : St) => need (List.all [v7] oneT) (need (List.all [(.int .i64 n5), (.str s3), (.str s4), v7, (.str s5)] oneT) (K (n5) (s3) (s4) (v7) (s5) (true) st13)))))))))))))))))) (need (List.all [(.int .i64 n5), (.str s3), (.str s4), v6, (.str s5)] oneT) (K (n5) (s3) (s4) (v6) (s5) (true) st11))))))))))))))))) (need (List.all [(.int .i64 n5), (.str s3), (.str s4), v6, (.str s5)] oneT) (K (n5) (s3) (s4) (v6) (s5) (true) st11)))))))))))))))))))))))))))))) (optK (ldCell st [] (.t (.box p 10)) 0) (fun (x23 : TV) => decT (.int .i64) x23 (fun (n16 : Int) => CallT PR fn_delim_parser_cell [(.box p 0)] [.one (.bool)] st (fun (b9 : Bool) (st14 : St) => BIf (!b9) (K ((5 : Int)) (([] : List UInt8)) (([] : List UInt8)) (.nilSlice) (([] : List UInt8)) (false) st14) (optK (ldCell st14 [] (.t (.box p 0)) 0) (fun (x24 : TV) => decT (.str) x24 (fun (s12 : List UInt8) => optK (ldCell st14 [] (.t (.box p 10)) 0) (fun (x25 : TV) => decT (.int .i64) x25 (fun (n17 : Int) => ((0 ≤ n16 ∧ n16 ≤ n17 ∧ n17 ≤ ((s12).length : Int)) ∧ optK ((ldCells st14 [] (.t (.box p 1)) 0 4).map TV.agg) (fun (x26 : TV) => decA [.int .u8, .int .u8, .bool, .bool] x26 (fun (n18 : Int) (n19 : Int) (b10 : Bool) (b11 : Bool) => CallT PR fn_delim_text [(.str (List.drop (Int.toNat n16) (List.take (Int.toNat n17) s12))), (.agg [(.int .u8 n18), (.int .u8 n19), (.bool b10), (.bool b11)])] [.one (.str), .one (.bool)] st14 (fun (s13 : List UInt8) (b12 : Bool) (st15 : St) => ∃ (C2 : Int → TV → Bool → Int → List UInt8 → List UInt8 → Int → List UInt8 → List UInt8 → TV → List UInt8 → St → Prop), (BIf header (C2 ((1024 : Int)) ((.box p 0)) (header) (n16) ((List.drop (Int.toNat n16) (List.take (Int.toNat n17) s12))) (s13) ((5 : Int)) (([] : List UInt8)) (([] : List UInt8)) (.nilSlice) (([] : List UInt8)) st15) (C2 ((65536 : Int)) ((.box p 0)) (header) (n16) ((List.drop (Int.toNat n16) (List.take (Int.toNat n17) s12))) (s13) ((5 : Int)) (([] : List UInt8)) (([] : List UInt8)) (.nilSlice) (([] : List UInt8)) st15)) ∧ ∀ (most_2 : Int) (p_2 : TV) (header_2 : Bool) (from_2 : Int) (cell_2 : List UInt8) (s_2 : List UInt8) (n20 : Int) (s14 : List UInt8) (s15 : List UInt8) (v8 : TV) (s16 : List UInt8) (st16 : St), C2 most_2 p_2 header_2 from_2 cell_2 s_2 n20 s14 s15 v8 s16 st16 → (BIf (decide (most_2 < ((s_2).length : Int))) (CallT PR fn_delim_parser_fail [p_2, (.int .i64 from_2), (.int .i64 (10 : Int))] [.one (.bool)] st16 (fun (b13 : Bool) (st17 : St) => need (List.all [(.int .i64 n20), (.str s14), (.str s15), v8, (.str s16)] oneT) (K (n20) (s14) (s15) (v8) (s16) (b13) st17))) (BIf header_2 (need (isPtr p_2) (need (isPtr p_2) (optK (ldCell st16 [] (.t (fldT p_2 13)) 0) (fun (v9 : TV) => optK (mapOf st16 v9) (fun (es2 : List (List UInt8 × TV)) => decT (.bool) (orZero (.bool false) (findM s_2 es2)) (fun (b14 : Bool) => BIf b14 (CallT PR fn_delim_parser_fail [p_2, (.int .i64 from_2), (.int .i64 (8 : Int))] [.one (.bool)] st16 (fun (b15 : Bool) (st18 : St) => need (List.all [(.int .i64 n20), (.str s14), (.str s15), v8, (.str s16)] oneT) (K (n20) (s14) (s15) (v8) (s16) (b15) st18))) (need (isPtr p_2) (need (isPtr p_2) (optK (ldCell st16 [] (.t (fldT p_2 13)) 0) (fun (v10 : TV) => muK v10 s_2 (.bool true) st16 (fun (st19 : St) => appK 49 5 80 v8 1 [(.int .i64 (2 : Int)), (.str ([] : List UInt8)), (.str cell_2), .nilSlice, (.str ([] : List UInt8))] st19 (fun (v11 : TV) (st20 : St) => need (List.all [v11] oneT) (need (isPtr p_2) (need (isPtr p_2) (optK (ldCell st20 [] (.t (fldT p_2 10)) 0) (fun (x29 : TV) => decT (.int .i64) x29 (fun (n21 : Int) => need (isPtr p_2) (need (isPtr p_2) (optK (ldCell st20 [] (.t (fldT p_2 0)) 0) (fun (x30 : TV) => decT (.str) x30 (fun (s17 : List UInt8) => BIf (decide (n21 < ((s17).length : Int))) (need (isPtr p_2) (need (isPtr p_2) (optK (ldCell st20 [] (.t (fldT p_2 0)) 0) (fun (x31 : TV) => decT (.str) x31 (fun (s18 : List UInt8) => need (isPtr p_2) (need (isPtr p_2) (optK (ldCell st20 [] (.t (fldT p_2 10)) 0) (fun (x32 : TV) => decT (.int .i64) x32 (fun (n22 : Int) => ((0 ≤ n22 ∧ n22 < ((s18).length : Int)) ∧ need (isPtr p_2) (need (isPtr p_2) (need (isPtr (fldT p_2 1)) (optK (ldCell st20 [] (.t (fldT (fldT p_2 1) 0)) 0) (fun (x33 : TV) => decT (.int .u8) x33 (fun (n23 : Int) => BIf (decide (((List.getD s18 (Int.toNat n22) 0).toNat : Int) = n23)) (need (isPtr p_2) (need (isPtr p_2) (optK (ldCell st20 [] (.t (fldT p_2 10)) 0) (fun (x34 : TV) => decT (.int .i64) x34 (fun (n24 : Int) => need (isPtr p_2) (need (isPtr p_2) (stB st20 (fldT p_2 10) [(.int .i64 (IntKind.i64.wrap (n24 + (1 : Int))))] (fun (st21 : St) => need (isPtr p_2) (need (isPtr p_2) (need (isPtr (fldT p_2 1)) (optK (ldCell st21 [] (.t (fldT (fldT p_2 1) 0)) 0) (fun (x35 : TV) => decT (.int .u8) x35 (fun (n25 : Int) => optK ((toBytes st21 (.list 1 .full 1 [(.int .u8 n25)])).map TV.str) (fun (x36 : TV) => decT (.str) x36 (fun (s19 : List UInt8) => appK 49 5 80 v11 1 [(.int .i64 (11 : Int)), (.str ([] : List UInt8)), (.str s19), .nilSlice, (.str ([] : List UInt8))] st21 (fun (v12 : TV) (st22 : St) => need (List.all [v12] oneT) (need (List.all [(.int .i64 n20), (.str s14), (.str s15), v12, (.str s16)] oneT) (K (n20) (s14) (s15) (v12) (s16) (true) st22)))))))))))))))))) (need (List.all [(.int .i64 n20), (.str s14), (.str s15), v11, (.str s16)] oneT) (K (n20) (s14) (s15) (v11) (s16) (true) st20))))))))))))))))) (need (List.all [(.int .i64 n20), (.str s14), (.str s15), v11, (.str s16)] oneT) (K (n20) (s14) (s15) (v11) (s16) (true) st20))))))))))))))))))))))) (appK 49 5 80 v8 1 [(.int .i64 (2 : Int)), (.str ([] : List UInt8)), (.str cell_2), .nilSlice, (.str ([] : List UInt8))] st16 (fun (v13 : TV) (st23 : St) => need (List.all [v13] oneT) (need (isPtr p_2) (need (isPtr p_2) (optK (ldCell st23 [] (.t (fldT p_2 10)) 0) (fun (x37 : TV) => decT (.int .i64) x37 (fun (n26 : Int) => need (isPtr p_2) (need (isPtr p_2) (optK (ldCell st23 [] (.t (fldT p_2 0)) 0) (fun (x38 : TV) => decT (.str) x38 (fun (s20 : List UInt8) => BIf (decide (n26 < ((s20).length : Int))) (need (isPtr p_2) (need (isPtr p_2) (optK (ldCell st23 [] (.t (fldT p_2 0)) 0) (fun (x39 : TV) => decT (.str) x39 (fun (s21 : List UInt8) => need (isPtr p_2) (need (isPtr p_2) (optK (ldCell st23 [] (.t (fldT p_2 10)) 0) (fun (x40 : TV) => decT (.int .i64) x40 (fun (n27 : Int) => ((0 ≤ n27 ∧ n27 < ((s21).length : Int)) ∧ need (isPtr p_2) (need (isPtr p_2) (need (isPtr (fldT p_2 1)) (optK (ldCell st23 [] (.t (fldT (fldT p_2 1) 0)) 0) (fun (x41 : TV) => decT (.int .u8) x41 (fun (n28 : Int) => BIf (decide (((List.getD s21 (Int.toNat n27) 0).toNat : Int) = n28)) (need (isPtr p_2) (need (isPtr p_2) (optK (ldCell st23 [] (.t (fldT p_2 10)) 0) (fun (x42 : TV) => decT (.int .i64) x42 (fun (n29 : Int) => need (isPtr p_2) (need (isPtr p_2) (stB st23 (fldT p_2 10) [(.int .i64 (IntKind.i64.wrap (n29 + (1 : Int))))] (fun (st24 : St) => need (isPtr p_2) (need (isPtr p_2) (need (isPtr (fldT p_2 1)) (optK (ldCell st24 [] (.t (fldT (fldT p_2 1) 0)) 0) (fun (x43 : TV) => decT (.int .u8) x43 (fun (n30 : Int) => optK ((toBytes st24 (.list 1 .full 1 [(.int .u8 n30)])).map TV.str) (fun (x44 : TV) => decT (.str) x44 (fun (s22 : List UInt8) => appK 49 5 80 v13 1 [(.int .i64 (11 : Int)), (.str ([] : List UInt8)), (.str s22), .nilSlice, (.str ([] : List UInt8))] st24 (fun (v14 : TV) (st25 : St) => need (List.all [v14] oneT) (need (List.all [(.int .i64 n20), (.str s14), (.str s15), v14, (.str s16)] oneT) (K (n20) (s14) (s15) (v14) (s16) (true) st25)))))))))))))))))) (need (List.all [(.int .i64 n20), (.str s14), (.str s15), v13, (.str s16)] oneT) (K (n20) (s14) (s15) (v13) (s16) (true) st23))))))))))))))))) (need (List.all [(.int .i64 n20), (.str s14), (.str s15), v13, (.str s16)] oneT) (K (n20) (s14) (s15) (v13) (s16) (true) st23))))))))))))))))))))))))))))) : CallT PR fn_delim_parser_entry [(.box p 0), (.bool header)] [.agg [.int .i64, .str, .str, .tv, .str], .one (.bool)] st K :=
  tcalls_fw (cfg := ⟨[4, 6], [], []⟩) (h := (.seq .none (.seq .none (.seq .none (.seq .none (.seq .none (.seq .none (.seq .none (.seq .none (.cut ⟨[(11, .int .i64), (0, .tv), (1, .bool), (7, .int .i64), (8, .str), (9, .str)], [(4, 0, 0), (6, 1, 0)], [(0, 5), (1, 5)], [(1, 0, .int .i64), (1, 1, .str), (1, 2, .str), (1, 3, .tv), (1, 4, .str)]⟩ .none .none)))))))))) mixed (fun _ _ => Tryd.call116 _ _) Tryd.func116 (by kernel_rfl) (by kernel_rfl) h
end Go.TVF
end

section
set_option linter.unusedVariables false
namespace Go.TVF
open Go Go.Proofs
set_option maxRecDepth 100000 in
theorem vc_delim_parser_lineEnd (p : Nat) (r : Nat) (st : St) (K : Bool → St → Prop) (h : optK (ldCell st [] (.t (.box p 10)) 0) (fun (x1 : TV) => decT (.int .i64) x1 (fun (n1 : Int) => optK (ldCell st [] (.t (.box p 10)) 0) (fun (x2 : TV) => decT (.int .i64) x2 (fun (n2 : Int) => optK (ldCell st [] (.t (.box p 0)) 0) (fun (x3 : TV) => decT (.str) x3 (fun (s1 : List UInt8) => BIf (decide (n2 = ((s1).length : Int))) (K (true) st) (optK (ldCell st [] (.t (.box p 0)) 0) (fun (x4 : TV) => decT (.str) x4 (fun (s2 : List UInt8) => optK (ldCell st [] (.t (.box p 10)) 0) (fun (x5 : TV) => decT (.int .i64) x5 (fun (n3 : Int) => ((0 ≤ n3 ∧ n3 < ((s2).length : Int)) ∧ BIf (decide (((List.getD s2 (Int.toNat n3) 0).toNat : Int) = (13 : Int))) (optK (ldCell st [] (.t (.box p 10)) 0) (fun (x6 : TV) => decT (.int .i64) x6 (fun (n4 : Int) => stB st (.box p 10) [(.int .i64 (IntKind.i64.wrap (n4 + (1 : Int))))] (fun (st1 : St) => optK (ldCell st1 [] (.t (.box p 10)) 0) (fun (x7 : TV) => decT (.int .i64) x7 (fun (n5 : Int) => optK (ldCell st1 [] (.t (.box p 0)) 0) (fun (x8 : TV) => decT (.str) x8 (fun (s3 : List UInt8) => BIf (decide (n5 = ((s3).length : Int))) (optK (ldCell st1 [] (.t (.box p 10)) 0) (fun (x9 : TV) => decT (.int .i64) x9 (fun (n6 : Int) => CallT PR fn_delim_parser_fail [(.box p 0), (.int .i64 n6), (.int .i64 (4 : Int))] [.one (.bool)] st1 (fun (b1 : Bool) (st2 : St) => K (b1) st2)))) (optK (ldCell st1 [] (.t (.box p 0)) 0) (fun (x10 : TV) => decT (.str) x10 (fun (s4 : List UInt8) => optK (ldCell st1 [] (.t (.box p 10)) 0) (fun (x11 : TV) => decT (.int .i64) x11 (fun (n7 : Int) => ((0 ≤ n7 ∧ n7 < ((s4).length : Int)) ∧ BIf (decide (((List.getD s4 (Int.toNat n7) 0).toNat : Int) ≠ (10 : Int))) (CallT PR fn_delim_parser_fail [(.box p 0), (.int .i64 n1), (.int .i64 (3 : Int))] [.one (.bool)] st1 (fun (b2 : Bool) (st3 : St) => K (b2) st3)) (optK (ldCell st1 [] (.t (.box p 10)) 0) (fun (x12 : TV) => decT (.int .i64) x12 (fun (n8 : Int) => stB st1 (.box p 10) [(.int .i64 (IntKind.i64.wrap (n8 + (1 : Int))))] (fun (st4 : St) => optK (ldCell st4 [] (.t (.box p 0)) 0) (fun (x13 : TV) => decT (.str) x13 (fun (s5 : List UInt8) => optK (ldCell st4 [] (.t (.box p 10)) 0) (fun (x14 : TV) => decT (.int .i64) x14 (fun (n9 : Int) => ((0 ≤ n1 ∧ n1 ≤ n9 ∧ n9 ≤ ((s5).length : Int)) ∧ stB st4 (.box r 4) [(.str (List.drop (Int.toNat n1) (List.take (Int.toNat n9) s5)))] (fun (st5 : St) => K (true) st5)))))))))))))))))))))))) (BIf (decide (((List.getD s2 (Int.toNat n3) 0).toNat : Int) = (10 : Int))) (optK (ldCell st [] (.t (.box p 10)) 0) (fun (x15 : TV) => decT (.int .i64) x15 (fun (n10 : Int) => stB st (.box p 10) [(.int .i64 (IntKind.i64.wrap (n10 + (1 : Int))))] (fun (st6 : St) => optK (ldCell st6 [] (.t (.box p 0)) 0) (fun (x16 : TV) => decT (.str) x16 (fun (s6 : List UInt8) => optK (ldCell st6 [] (.t (.box p 10)) 0) (fun (x17 : TV) => decT (.int .i64) x17 (fun (n11 : Int) => ((0 ≤ n1 ∧ n1 ≤ n11 ∧ n11 ≤ ((s6).length : Int)) ∧ stB st6 (.box r 4) [(.str (List.drop (Int.toNat n1) (List.take (Int.toNat n11) s6)))] (fun (st7 : St) => K (true) st7)))))))))) (CallT PR fn_delim_parser_fail [(.box p 0), (.int .i64 n1), (.int .i64 (3 : Int))] [.one (.bool)] st (fun (b3 : Bool) (st8 : St) => K (b3) st8)))))))))))))))) : CallT PR fn_delim_parser_lineEnd [(.box p 0), (.box r 0)] [.one (.bool)] st K :=
  tcalls_fw (cfg := ⟨[], [], []⟩) (h := .none) mixed (fun _ _ => Tryd.call117 _ _) Tryd.func117 (by kernel_rfl) (by kernel_rfl) h
set_option maxRecDepth 100000 in
theorem vc_tree_leaf (kind : Int) (st : St) (K : Bool → St → Prop) (h : BIf (decide (kind = (2 : Int))) (BIf (decide (kind = (2 : Int))) (K (true) st) (K (false) st)) (BIf (decide (kind = (6 : Int))) (BIf (decide (kind = (6 : Int))) (K (true) st) (K (false) st)) (BIf (decide (kind = (10 : Int))) (BIf (decide (kind = (10 : Int))) (K (true) st) (K (false) st)) (BIf (decide (kind = (11 : Int))) (K (true) st) (K (false) st))))) : CallT PR fn_tree_leaf [(.int .i64 kind)] [.one (.bool)] st K :=
  tcalls_fw (cfg := ⟨[], [], []⟩) (h := .none) mixed (fun _ _ => Tryd.call118 _ _) Tryd.func118 (by kernel_rfl) (by kernel_rfl) h
set_option maxRecDepth 100000 in
theorem vc_datakitref11_Valid (l_0 : Int) (l_1 : Int) (l_2 : Int) (l_3 : Int) (l_4 : Int) (st : St) (K : Bool → St → Prop) (h : BIf (decide ((1 : Int) ≤ l_0)) (BIf (decide (l_0 ≤ (48 : Int))) (BIf (decide ((1 : Int) ≤ l_1)) (BIf (decide (l_1 ≤ (65536 : Int))) (BIf (decide ((1 : Int) ≤ l_2)) (BIf (decide (l_2 ≤ (1048576 : Int))) (BIf (decide ((0 : Int) ≤ l_3)) (BIf (decide (l_3 ≤ (1024 : Int))) (BIf (decide ((0 : Int) ≤ l_4)) (K ((decide (l_4 ≤ (65536 : Int)))) st) (K (false) st)) (K (false) st)) (K (false) st)) (K (false) st)) (K (false) st)) (K (false) st)) (K (false) st)) (K (false) st)) (K (false) st)) : CallT PR fn_datakitref11_Valid [(.agg [(.int .i64 l_0), (.int .i64 l_1), (.int .i64 l_2), (.int .i64 l_3), (.int .i64 l_4)])] [.one (.bool)] st K :=
  tcalls_fw (cfg := ⟨[1], [], []⟩) (h := .none) mixed (fun _ _ => Tryd.call119 _ _) Tryd.func119 (by kernel_rfl) (by kernel_rfl) h
set_option maxRecDepth 100000 in
theorem vc_datakitref27_state_fail (x_0 : List UInt8) (x_1 : Int) (x_2 : Int) (x_3 : Bool) (x_4 : Bool) (x_5 : Int) (x_6 : Int) (x_7 : Int) (x_8 : Int) (x_9 : Int) (x_10 : Int) (x_11 : Int) (x_12 : Int) (x_13 : Int) (off : Int) (e : Int) (st : St) (K : List UInt8 → Int → Int → Bool → Bool → Int → Int → Int → Int → Int → Int → Int → Int → Int → St → Prop) (h : BIf (decide (x_13 = (0 : Int))) (K (x_0) (x_1) (x_2) (x_3) (x_4) (x_5) (x_6) (x_7) (x_8) (x_9) (x_10) (x_11) (off) (e) st) (K (x_0) (x_1) (x_2) (x_3) (x_4) (x_5) (x_6) (x_7) (x_8) (x_9) (x_10) (x_11) (x_12) (x_13) st)) : CallT PR fn_datakitref27_state_fail [(.agg [(.str x_0), (.int .u8 x_1), (.int .u8 x_2), (.bool x_3), (.bool x_4), (.int .i64 x_5), (.int .i64 x_6), (.int .i64 x_7), (.int .i64 x_8), (.int .i64 x_9), (.int .i64 x_10), (.int .i64 x_11), (.int .i64 x_12), (.int .i64 x_13)]), (.int .i64 off), (.int .i64 e)] [.agg [.str, .int .u8, .int .u8, .bool, .bool, .int .i64, .int .i64, .int .i64, .int .i64, .int .i64, .int .i64, .int .i64, .int .i64, .int .i64]] st K :=
  tcalls_fw (cfg := ⟨[3, 6], [], []⟩) (h := .none) mixed (fun _ _ => Tryd.call120 _ _) Tryd.func120 (by kernel_rfl) (by kernel_rfl) h
set_option maxRecDepth 100000 in
theorem vc_datakitref27_cell (x_0 : List UInt8) (x_1 : Int) (x_2 : Int) (x_3 : Bool) (x_4 : Bool) (x_5 : Int) (x_6 : Int) (x_7 : Int) (x_8 : Int) (x_9 : Int) (x_10 : Int) (x_11 : Int) (x_12 : Int) (x_13 : Int) (st : St) (K : List UInt8 → Int → Int → Bool → Bool → Int → Int → Int → Int → Int → Int → Int → Int → Int → List UInt8 → St → Prop) (h : BIf (decide (x_10 < ((x_0).length : Int))) (((0 ≤ x_10 ∧ x_10 < ((x_0).length : Int)) ∧ BIf (decide (((List.getD x_0 (Int.toNat x_10) 0).toNat : Int) = x_2)) (∃ (I1 : Int → List UInt8 → Int → Int → Bool → Bool → Int → Int → Int → Int → Int → Int → Int → Int → Int → St → Prop) (M1 : Int → List UInt8 → Int → Int → Bool → Bool → Int → Int → Int → Int → Int → Int → Int → Int → Int → St → Nat), (I1 (x_10) (x_0) (x_1) (x_2) (x_3) (x_4) (x_5) (x_6) (x_7) (x_8) (x_9) ((IntKind.i64.wrap (x_10 + (1 : Int)))) (x_11) (x_12) (x_13) st) ∧ ∀ (from_1 : Int) (s1 : List UInt8) (n1 : Int) (n2 : Int) (b1 : Bool) (b2 : Bool) (n3 : Int) (n4 : Int) (n5 : Int) (n6 : Int) (n7 : Int) (n8 : Int) (n9 : Int) (n10 : Int) (n11 : Int) (st1 : St), I1 from_1 s1 n1 n2 b1 b2 n3 n4 n5 n6 n7 n8 n9 n10 n11 st1 → (BIf (decide (n8 < ((s1).length : Int))) (((0 ≤ n8 ∧ n8 < ((s1).length : Int)) ∧ BIf (decide (((List.getD s1 (Int.toNat n8) 0).toNat : Int) ≠ n2)) (((0 ≤ n8 ∧ n8 < ((s1).length : Int)) ∧ BIf (decide (((List.getD s1 (Int.toNat n8) 0).toNat : Int) = n2)) ((I1 (from_1) (s1) (n1) (n2) (b1) (b2) (n3) (n4) (n5) (n6) (n7) ((IntKind.i64.wrap ((IntKind.i64.wrap (n8 + (1 : Int))) + (1 : Int)))) (n9) (n10) (n11) st1 ∧ M1 (from_1) (s1) (n1) (n2) (b1) (b2) (n3) (n4) (n5) (n6) (n7) ((IntKind.i64.wrap ((IntKind.i64.wrap (n8 + (1 : Int))) + (1 : Int)))) (n9) (n10) (n11) st1 < M1 from_1 s1 n1 n2 b1 b2 n3 n4 n5 n6 n7 n8 n9 n10 n11 st1)) ((I1 (from_1) (s1) (n1) (n2) (b1) (b2) (n3) (n4) (n5) (n6) (n7) ((IntKind.i64.wrap (n8 + (1 : Int)))) (n9) (n10) (n11) st1 ∧ M1 (from_1) (s1) (n1) (n2) (b1) (b2) (n3) (n4) (n5) (n6) (n7) ((IntKind.i64.wrap (n8 + (1 : Int)))) (n9) (n10) (n11) st1 < M1 from_1 s1 n1 n2 b1 b2 n3 n4 n5 n6 n7 n8 n9 n10 n11 st1)))) (BIf (decide ((IntKind.i64.wrap (n8 + (1 : Int))) < ((s1).length : Int))) (((0 ≤ (IntKind.i64.wrap (n8 + (1 : Int))) ∧ (IntKind.i64.wrap (n8 + (1 : Int))) < ((s1).length : Int)) ∧ BIf (decide (((List.getD s1 (Int.toNat (IntKind.i64.wrap (n8 + (1 : Int)))) 0).toNat : Int) = n2)) (((0 ≤ n8 ∧ n8 < ((s1).length : Int)) ∧ BIf (decide (((List.getD s1 (Int.toNat n8) 0).toNat : Int) = n2)) ((I1 (from_1) (s1) (n1) (n2) (b1) (b2) (n3) (n4) (n5) (n6) (n7) ((IntKind.i64.wrap ((IntKind.i64.wrap (n8 + (1 : Int))) + (1 : Int)))) (n9) (n10) (n11) st1 ∧ M1 (from_1) (s1) (n1) (n2) (b1) (b2) (n3) (n4) (n5) (n6) (n7) ((IntKind.i64.wrap ((IntKind.i64.wrap (n8 + (1 : Int))) + (1 : Int)))) (n9) (n10) (n11) st1 < M1 from_1 s1 n1 n2 b1 b2 n3 n4 n5 n6 n7 n8 n9 n10 n11 st1)) ((I1 (from_1) (s1) (n1) (n2) (b1) (b2) (n3) (n4) (n5) (n6) (n7) ((IntKind.i64.wrap (n8 + (1 : Int)))) (n9) (n10) (n11) st1 ∧ M1 (from_1) (s1) (n1) (n2) (b1) (b2) (n3) (n4) (n5) (n6) (n7) ((IntKind.i64.wrap (n8 + (1 : Int)))) (n9) (n10) (n11) st1 < M1 from_1 s1 n1 n2 b1 b2 n3 n4 n5 n6 n7 n8 n9 n10 n11 st1)))) (BIf (decide (((s1).length : Int) ≤ n8)) (CallT PR fn_datakitref27_state_fail [(.agg [(.str s1), (.int .u8 n1), (.int .u8 n2), (.bool b1), (.bool b2), (.int .i64 n3), (.int .i64 n4), (.int .i64 n5), (.int .i64 n6), (.int .i64 n7), (.int .i64 n8), (.int .i64 n9), (.int .i64 n10), (.int .i64 n11)]), (.int .i64 ((s1).length : Int)), (.int .i64 (4 : Int))] [.agg [.str, .int .u8, .int .u8, .bool, .bool, .int .i64, .int .i64, .int .i64, .int .i64, .int .i64, .int .i64, .int .i64, .int .i64, .int .i64]] st1 (fun (s2 : List UInt8) (n12 : Int) (n13 : Int) (b3 : Bool) (b4 : Bool) (n14 : Int) (n15 : Int) (n16 : Int) (n17 : Int) (n18 : Int) (n19 : Int) (n20 : Int) (n21 : Int) (n22 : Int) (st2 : St) => K (s2) (n12) (n13) (b3) (b4) (n14) (n15) (n16) (n17) (n18) (n19) (n20) (n21) (n22) (([] : List UInt8)) st2)) (((0 ≤ from_1 ∧ from_1 ≤ (IntKind.i64.wrap (n8 + (1 : Int))) ∧ (IntKind.i64.wrap (n8 + (1 : Int))) ≤ ((s1).length : Int)) ∧ K (s1) (n1) (n2) (b1) (b2) (n3) (n4) (n5) (n6) (n7) ((IntKind.i64.wrap (n8 + (1 : Int)))) (n9) (n10) (n11) ((List.drop (Int.toNat from_1) (List.take (Int.toNat (IntKind.i64.wrap (n8 + (1 : Int)))) s1))) st1))))) (BIf (decide (((s1).length : Int) ≤ n8)) (CallT PR fn_datakitref27_state_fail [(.agg [(.str s1), (.int .u8 n1), (.int .u8 n2), (.bool b1), (.bool b2), (.int .i64 n3), (.int .i64 n4), (.int .i64 n5), (.int .i64 n6), (.int .i64 n7), (.int .i64 n8), (.int .i64 n9), (.int .i64 n10), (.int .i64 n11)]), (.int .i64 ((s1).length : Int)), (.int .i64 (4 : Int))] [.agg [.str, .int .u8, .int .u8, .bool, .bool, .int .i64, .int .i64, .int .i64, .int .i64, .int .i64, .int .i64, .int .i64, .int .i64, .int .i64]] st1 (fun (s3 : List UInt8) (n23 : Int) (n24 : Int) (b5 : Bool) (b6 : Bool) (n25 : Int) (n26 : Int) (n27 : Int) (n28 : Int) (n29 : Int) (n30 : Int) (n31 : Int) (n32 : Int) (n33 : Int) (st3 : St) => K (s3) (n23) (n24) (b5) (b6) (n25) (n26) (n27) (n28) (n29) (n30) (n31) (n32) (n33) (([] : List UInt8)) st3)) (((0 ≤ from_1 ∧ from_1 ≤ (IntKind.i64.wrap (n8 + (1 : Int))) ∧ (IntKind.i64.wrap (n8 + (1 : Int))) ≤ ((s1).length : Int)) ∧ K (s1) (n1) (n2) (b1) (b2) (n3) (n4) (n5) (n6) (n7) ((IntKind.i64.wrap (n8 + (1 : Int)))) (n9) (n10) (n11) ((List.drop (Int.toNat from_1) (List.take (Int.toNat (IntKind.i64.wrap (n8 + (1 : Int)))) s1))) st1)))))) (BIf (decide (((s1).length : Int) ≤ n8)) (CallT PR fn_datakitref27_state_fail [(.agg [(.str s1), (.int .u8 n1), (.int .u8 n2), (.bool b1), (.bool b2), (.int .i64 n3), (.int .i64 n4), (.int .i64 n5), (.int .i64 n6), (.int .i64 n7), (.int .i64 n8), (.int .i64 n9), (.int .i64 n10), (.int .i64 n11)]), (.int .i64 ((s1).length : Int)), (.int .i64 (4 : Int))] [.agg [.str, .int .u8, .int .u8, .bool, .bool, .int .i64, .int .i64, .int .i64, .int .i64, .int .i64, .int .i64, .int .i64, .int .i64, .int .i64]] st1 (fun (s4 : List UInt8) (n34 : Int) (n35 : Int) (b7 : Bool) (b8 : Bool) (n36 : Int) (n37 : Int) (n38 : Int) (n39 : Int) (n40 : Int) (n41 : Int) (n42 : Int) (n43 : Int) (n44 : Int) (st4 : St) => K (s4) (n34) (n35) (b7) (b8) (n36) (n37) (n38) (n39) (n40) (n41) (n42) (n43) (n44) (([] : List UInt8)) st4)) (((0 ≤ from_1 ∧ from_1 ≤ (IntKind.i64.wrap (n8 + (1 : Int))) ∧ (IntKind.i64.wrap (n8 + (1 : Int))) ≤ ((s1).length : Int)) ∧ K (s1) (n1) (n2) (b1) (b2) (n3) (n4) (n5) (n6) (n7) ((IntKind.i64.wrap (n8 + (1 : Int)))) (n9) (n10) (n11) ((List.drop (Int.toNat from_1) (List.take (Int.toNat (IntKind.i64.wrap (n8 + (1 : Int)))) s1))) st1))))) (∃ (I2 : Int → List UInt8 → Int → Int → Bool → Bool → Int → Int → Int → Int → Int → Int → Int → Int → Int → St → Prop) (M2 : Int → List UInt8 → Int → Int → Bool → Bool → Int → Int → Int → Int → Int → Int → Int → Int → Int → St → Nat), (I2 (x_10) (x_0) (x_1) (x_2) (x_3) (x_4) (x_5) (x_6) (x_7) (x_8) (x_9) (x_10) (x_11) (x_12) (x_13) st) ∧ ∀ (from_2 : Int) (s5 : List UInt8) (n45 : Int) (n46 : Int) (b9 : Bool) (b10 : Bool) (n47 : Int) (n48 : Int) (n49 : Int) (n50 : Int) (n51 : Int) (n52 : Int) (n53 : Int) (n54 : Int) (n55 : Int) (st5 : St), I2 from_2 s5 n45 n46 b9 b10 n47 n48 n49 n50 n51 n52 n53 n54 n55 st5 → (BIf (decide (n52 < ((s5).length : Int))) (((0 ≤ n52 ∧ n52 < ((s5).length : Int)) ∧ BIf (decide (((List.getD s5 (Int.toNat n52) 0).toNat : Int) ≠ n45)) (((0 ≤ n52 ∧ n52 < ((s5).length : Int)) ∧ BIf (decide (((List.getD s5 (Int.toNat n52) 0).toNat : Int) ≠ (10 : Int))) (((0 ≤ n52 ∧ n52 < ((s5).length : Int)) ∧ BIf (decide (((List.getD s5 (Int.toNat n52) 0).toNat : Int) ≠ (13 : Int))) (((0 ≤ n52 ∧ n52 < ((s5).length : Int)) ∧ BIf (decide (((List.getD s5 (Int.toNat n52) 0).toNat : Int) = n46)) (CallT PR fn_datakitref27_state_fail [(.agg [(.str s5), (.int .u8 n45), (.int .u8 n46), (.bool b9), (.bool b10), (.int .i64 n47), (.int .i64 n48), (.int .i64 n49), (.int .i64 n50), (.int .i64 n51), (.int .i64 n52), (.int .i64 n53), (.int .i64 n54), (.int .i64 n55)]), (.int .i64 n52), (.int .i64 (3 : Int))] [.agg [.str, .int .u8, .int .u8, .bool, .bool, .int .i64, .int .i64, .int .i64, .int .i64, .int .i64, .int .i64, .int .i64, .int .i64, .int .i64]] st5 (fun (s6 : List UInt8) (n56 : Int) (n57 : Int) (b11 : Bool) (b12 : Bool) (n58 : Int) (n59 : Int) (n60 : Int) (n61 : Int) (n62 : Int) (n63 : Int) (n64 : Int) (n65 : Int) (n66 : Int) (st6 : St) => K (s6) (n56) (n57) (b11) (b12) (n58) (n59) (n60) (n61) (n62) (n63) (n64) (n65) (n66) (([] : List UInt8)) st6)) ((I2 (from_2) (s5) (n45) (n46) (b9) (b10) (n47) (n48) (n49) (n50) (n51) ((IntKind.i64.wrap (n52 + (1 : Int)))) (n53) (n54) (n55) st5 ∧ M2 (from_2) (s5) (n45) (n46) (b9) (b10) (n47) (n48) (n49) (n50) (n51) ((IntKind.i64.wrap (n52 + (1 : Int)))) (n53) (n54) (n55) st5 < M2 from_2 s5 n45 n46 b9 b10 n47 n48 n49 n50 n51 n52 n53 n54 n55 st5)))) (((0 ≤ from_2 ∧ from_2 ≤ n52 ∧ n52 ≤ ((s5).length : Int)) ∧ K (s5) (n45) (n46) (b9) (b10) (n47) (n48) (n49) (n50) (n51) (n52) (n53) (n54) (n55) ((List.drop (Int.toNat from_2) (List.take (Int.toNat n52) s5))) st5)))) (((0 ≤ from_2 ∧ from_2 ≤ n52 ∧ n52 ≤ ((s5).length : Int)) ∧ K (s5) (n45) (n46) (b9) (b10) (n47) (n48) (n49) (n50) (n51) (n52) (n53) (n54) (n55) ((List.drop (Int.toNat from_2) (List.take (Int.toNat n52) s5))) st5)))) (((0 ≤ from_2 ∧ from_2 ≤ n52 ∧ n52 ≤ ((s5).length : Int)) ∧ K (s5) (n45) (n46) (b9) (b10) (n47) (n48) (n49) (n50) (n51) (n52) (n53) (n54) (n55) ((List.drop (Int.toNat from_2) (List.take (Int.toNat n52) s5))) st5)))) (((0 ≤ from_2 ∧ from_2 ≤ n52 ∧ n52 ≤ ((s5).length : Int)) ∧ K (s5) (n45) (n46) (b9) (b10) (n47) (n48) (n49) (n50) (n51) (n52) (n53) (n54) (n55) ((List.drop (Int.toNat from_2) (List.take (Int.toNat n52) s5))) st5)))))) (∃ (I3 : Int → List UInt8 → Int → Int → Bool → Bool → Int → Int → Int → Int → Int → Int → Int → Int → Int → St → Prop) (M3 : Int → List UInt8 → Int → Int → Bool → Bool → Int → Int → Int → Int → Int → Int → Int → Int → Int → St → Nat), (I3 (x_10) (x_0) (x_1) (x_2) (x_3) (x_4) (x_5) (x_6) (x_7) (x_8) (x_9) (x_10) (x_11) (x_12) (x_13) st) ∧ ∀ (from_3 : Int) (s7 : List UInt8) (n67 : Int) (n68 : Int) (b13 : Bool) (b14 : Bool) (n69 : Int) (n70 : Int) (n71 : Int) (n72 : Int) (n73 : Int) (n74 : Int) (n75 : Int) (n76 : Int) (n77 : Int) (st7 : St), I3 from_3 s7 n67 n68 b13 b14 n69 n70 n71 n72 n73 n74 n75 n76 n77 st7 → (BIf (decide (n74 < ((s7).length : Int))) (((0 ≤ n74 ∧ n74 < ((s7).length : Int)) ∧ BIf (decide (((List.getD s7 (Int.toNat n74) 0).toNat : Int) ≠ n67)) (((0 ≤ n74 ∧ n74 < ((s7).length : Int)) ∧ BIf (decide (((List.getD s7 (Int.toNat n74) 0).toNat : Int) ≠ (10 : Int))) (((0 ≤ n74 ∧ n74 < ((s7).length : Int)) ∧ BIf (decide (((List.getD s7 (Int.toNat n74) 0).toNat : Int) ≠ (13 : Int))) (((0 ≤ n74 ∧ n74 < ((s7).length : Int)) ∧ BIf (decide (((List.getD s7 (Int.toNat n74) 0).toNat : Int) = n68)) (CallT PR fn_datakitref27_state_fail [(.agg [(.str s7), (.int .u8 n67), (.int .u8 n68), (.bool b13), (.bool b14), (.int .i64 n69), (.int .i64 n70), (.int .i64 n71), (.int .i64 n72), (.int .i64 n73), (.int .i64 n74), (.int .i64 n75), (.int .i64 n76), (.int .i64 n77)]), (.int .i64 n74), (.int .i64 (3 : Int))] [.agg [.str, .int .u8, .int .u8, .bool, .bool, .int .i64, .int .i64, .int .i64, .int .i64, .int .i64, .int .i64, .int .i64, .int .i64, .int .i64]] st7 (fun (s8 : List UInt8) (n78 : Int) (n79 : Int) (b15 : Bool) (b16 : Bool) (n80 : Int) (n81 : Int) (n82 : Int) (n83 : Int) (n84 : Int) (n85 : Int) (n86 : Int) (n87 : Int) (n88 : Int) (st8 : St) => K (s8) (n78) (n79) (b15) (b16) (n80) (n81) (n82) (n83) (n84) (n85) (n86) (n87) (n88) (([] : List UInt8)) st8)) ((I3 (from_3) (s7) (n67) (n68) (b13) (b14) (n69) (n70) (n71) (n72) (n73) ((IntKind.i64.wrap (n74 + (1 : Int)))) (n75) (n76) (n77) st7 ∧ M3 (from_3) (s7) (n67) (n68) (b13) (b14) (n69) (n70) (n71) (n72) (n73) ((IntKind.i64.wrap (n74 + (1 : Int)))) (n75) (n76) (n77) st7 < M3 from_3 s7 n67 n68 b13 b14 n69 n70 n71 n72 n73 n74 n75 n76 n77 st7)))) (((0 ≤ from_3 ∧ from_3 ≤ n74 ∧ n74 ≤ ((s7).length : Int)) ∧ K (s7) (n67) (n68) (b13) (b14) (n69) (n70) (n71) (n72) (n73) (n74) (n75) (n76) (n77) ((List.drop (Int.toNat from_3) (List.take (Int.toNat n74) s7))) st7)))) (((0 ≤ from_3 ∧ from_3 ≤ n74 ∧ n74 ≤ ((s7).length : Int)) ∧ K (s7) (n67) (n68) (b13) (b14) (n69) (n70) (n71) (n72) (n73) (n74) (n75) (n76) (n77) ((List.drop (Int.toNat from_3) (List.take (Int.toNat n74) s7))) st7)))) (((0 ≤ from_3 ∧ from_3 ≤ n74 ∧ n74 ≤ ((s7).length : Int)) ∧ K (s7) (n67) (n68) (b13) (b14) (n69) (n70) (n71) (n72) (n73) (n74) (n75) (n76) (n77) ((List.drop (Int.toNat from_3) (List.take (Int.toNat n74) s7))) st7)))) (((0 ≤ from_3 ∧ from_3 ≤ n74 ∧ n74 ≤ ((s7).length : Int)) ∧ K (s7) (n67) (n68) (b13) (b14) (n69) (n70) (n71) (n72) (n73) (n74) (n75) (n76) (n77) ((List.drop (Int.toNat from_3) (List.take (Int.toNat n74) s7))) st7))))) : CallT PR fn_datakitref27_cell [(.agg [(.str x_0), (.int .u8 x_1), (.int .u8 x_2), (.bool x_3), (.bool x_4), (.int .i64 x_5), (.int .i64 x_6), (.int .i64 x_7), (.int .i64 x_8), (.int .i64 x_9), (.int .i64 x_10), (.int .i64 x_11), (.int .i64 x_12), (.int .i64 x_13)])] [.agg [.str, .int .u8, .int .u8, .bool, .bool, .int .i64, .int .i64, .int .i64, .int .i64, .int .i64, .int .i64, .int .i64, .int .i64, .int .i64], .one (.str)] st K :=
  tcalls_fw (cfg := ⟨[1, 2], [], []⟩) (h := (.seq .none (.seq .none (.seq (.seq .none (.cond (.seq .none (.seq (.block (.loop ⟨[(4, .int .i64)], [(1, 0, 0), (2, 1, 0)], [(0, 14), (1, 14)], [(0, 0, .str), (0, 1, .int .u8), (0, 2, .int .u8), (0, 3, .bool), (0, 4, .bool), (0, 5, .int .i64), (0, 6, .int .i64), (0, 7, .int .i64), (0, 8, .int .i64), (0, 9, .int .i64), (0, 10, .int .i64), (0, 11, .int .i64), (0, 12, .int .i64), (0, 13, .int .i64)]⟩ .none)) .none)) (.block (.loop ⟨[(4, .int .i64)], [(1, 0, 0), (2, 1, 0)], [(0, 14), (1, 14)], [(0, 0, .str), (0, 1, .int .u8), (0, 2, .int .u8), (0, 3, .bool), (0, 4, .bool), (0, 5, .int .i64), (0, 6, .int .i64), (0, 7, .int .i64), (0, 8, .int .i64), (0, 9, .int .i64), (0, 10, .int .i64), (0, 11, .int .i64), (0, 12, .int .i64), (0, 13, .int .i64)]⟩ .none)))) .none)))) mixed (fun _ _ => Tryd.call121 _ _) Tryd.func121 (by kernel_rfl) (by kernel_rfl) h
set_option maxRecDepth 100000 in
theorem vc_datakitref27_followed (x_0 : List UInt8) (x_1 : Int) (x_2 : Int) (x_3 : Bool) (x_4 : Bool) (x_5 : Int) (x_6 : Int) (x_7 : Int) (x_8 : Int) (x_9 : Int) (x_10 : Int) (x_11 : Int) (x_12 : Int) (x_13 : Int) (st : St) (K : List UInt8 → Int → Int → Bool → Bool → Int → Int → Int → Int → Int → Int → Int → Int → Int → St → Prop) (h : BIf (decide (x_10 < ((x_0).length : Int))) (((0 ≤ x_10 ∧ x_10 < ((x_0).length : Int)) ∧ BIf (decide (((List.getD x_0 (Int.toNat x_10) 0).toNat : Int) ≠ x_1)) (CallT PR fn_datakitref27_ends [(.str x_0), (.int .i64 x_10)] [.one (.int .i64)] st (fun (n1 : Int) (st1 : St) => BIf (decide (n1 = (-1 : Int))) (CallT PR fn_datakitref27_state_fail [(.agg [(.str x_0), (.int .u8 x_1), (.int .u8 x_2), (.bool x_3), (.bool x_4), (.int .i64 x_5), (.int .i64 x_6), (.int .i64 x_7), (.int .i64 x_8), (.int .i64 x_9), (.int .i64 x_10), (.int .i64 x_11), (.int .i64 x_12), (.int .i64 x_13)]), (.int .i64 x_10), (.int .i64 (3 : Int))] [.agg [.str, .int .u8, .int .u8, .bool, .bool, .int .i64, .int .i64, .int .i64, .int .i64, .int .i64, .int .i64, .int .i64, .int .i64, .int .i64]] st1 (fun (s1 : List UInt8) (n2 : Int) (n3 : Int) (b1 : Bool) (b2 : Bool) (n4 : Int) (n5 : Int) (n6 : Int) (n7 : Int) (n8 : Int) (n9 : Int) (n10 : Int) (n11 : Int) (n12 : Int) (st2 : St) => K (s1) (n2) (n3) (b1) (b2) (n4) (n5) (n6) (n7) (n8) (n9) (n10) (n11) (n12) st2)) (BIf (decide (n1 = (-2 : Int))) (CallT PR fn_datakitref27_state_fail [(.agg [(.str x_0), (.int .u8 x_1), (.int .u8 x_2), (.bool x_3), (.bool x_4), (.int .i64 x_5), (.int .i64 x_6), (.int .i64 x_7), (.int .i64 x_8), (.int .i64 x_9), (.int .i64 x_10), (.int .i64 x_11), (.int .i64 x_12), (.int .i64 x_13)]), (.int .i64 ((x_0).length : Int)), (.int .i64 (4 : Int))] [.agg [.str, .int .u8, .int .u8, .bool, .bool, .int .i64, .int .i64, .int .i64, .int .i64, .int .i64, .int .i64, .int .i64, .int .i64, .int .i64]] st1 (fun (s2 : List UInt8) (n13 : Int) (n14 : Int) (b3 : Bool) (b4 : Bool) (n15 : Int) (n16 : Int) (n17 : Int) (n18 : Int) (n19 : Int) (n20 : Int) (n21 : Int) (n22 : Int) (n23 : Int) (st3 : St) => K (s2) (n13) (n14) (b3) (b4) (n15) (n16) (n17) (n18) (n19) (n20) (n21) (n22) (n23) st3)) (K (x_0) (x_1) (x_2) (x_3) (x_4) (x_5) (x_6) (x_7) (x_8) (x_9) (x_10) (x_11) (x_12) (x_13) st1)))) (K (x_0) (x_1) (x_2) (x_3) (x_4) (x_5) (x_6) (x_7) (x_8) (x_9) (x_10) (x_11) (x_12) (x_13) st))) (K (x_0) (x_1) (x_2) (x_3) (x_4) (x_5) (x_6) (x_7) (x_8) (x_9) (x_10) (x_11) (x_12) (x_13) st)) : CallT PR fn_datakitref27_followed [(.agg [(.str x_0), (.int .u8 x_1), (.int .u8 x_2), (.bool x_3), (.bool x_4), (.int .i64 x_5), (.int .i64 x_6), (.int .i64 x_7), (.int .i64 x_8), (.int .i64 x_9), (.int .i64 x_10), (.int .i64 x_11), (.int .i64 x_12), (.int .i64 x_13)])] [.agg [.str, .int .u8, .int .u8, .bool, .bool, .int .i64, .int .i64, .int .i64, .int .i64, .int .i64, .int .i64, .int .i64, .int .i64, .int .i64]] st K :=
  tcalls_fw (cfg := ⟨[1, 2], [], []⟩) (h := .none) mixed (fun _ _ => Tryd.call122 _ _) Tryd.func122 (by kernel_rfl) (by kernel_rfl) h
set_option maxRecDepth 100000 in
theorem vc_datakitref27_ends (s : List UInt8) (atx : Int) (st : St) (K : Int → St → Prop) (h : BIf (decide (atx = ((s).length : Int))) (K ((0 : Int)) st) (((0 ≤ atx ∧ atx < ((s).length : Int)) ∧ BIf (decide (((List.getD s (Int.toNat atx) 0).toNat : Int) = (10 : Int))) (K ((1 : Int)) st) (((0 ≤ atx ∧ atx < ((s).length : Int)) ∧ BIf (decide (((List.getD s (Int.toNat atx) 0).toNat : Int) ≠ (13 : Int))) (K ((-1 : Int)) st) (BIf (decide ((IntKind.i64.wrap (atx + (1 : Int))) = ((s).length : Int))) (K ((-2 : Int)) st) (((0 ≤ (IntKind.i64.wrap (atx + (1 : Int))) ∧ (IntKind.i64.wrap (atx + (1 : Int))) < ((s).length : Int)) ∧ BIf (decide (((List.getD s (Int.toNat (IntKind.i64.wrap (atx + (1 : Int)))) 0).toNat : Int) = (10 : Int))) (K ((2 : Int)) st) (K ((-1 : Int)) st))))))))) : CallT PR fn_datakitref27_ends [(.str s), (.int .i64 atx)] [.one (.int .i64)] st K :=
  tcalls_fw (cfg := ⟨[], [], []⟩) (h := .none) mixed (fun _ _ => Tryd.call123 _ _) Tryd.func123 (by kernel_rfl) (by kernel_rfl) h
set_option maxRecDepth 100000 in
theorem vc_delim_letter (b : Int) (st : St) (K : Bool → St → Prop) (h : BIf (decide ((97 : Int) ≤ b)) (BIf (decide (b ≤ (122 : Int))) (K (true) st) (BIf (decide ((65 : Int) ≤ b)) (K ((decide (b ≤ (90 : Int)))) st) (K (false) st))) (BIf (decide ((65 : Int) ≤ b)) (K ((decide (b ≤ (90 : Int)))) st) (K (false) st))) : CallT PR fn_delim_letter [(.int .u8 b)] [.one (.bool)] st K :=
  tcalls_fw (cfg := ⟨[], [], []⟩) (h := .none) mixed (fun _ _ => Tryd.call124 _ _) Tryd.func124 (by kernel_rfl) (by kernel_rfl) h
set_option maxRecDepth 100000 in
theorem vc_datakitref13_Check (n_0 : Int) (n_1 : List UInt8) (n_2 : List UInt8) (n_3 : TV) (n_4 : List UInt8) (st : St) (K : Int → St → Prop) (h : CallT PR fn_datakitref13_look [(.agg [(.int .i64 n_0), (.str n_1), (.str n_2), n_3, (.str n_4)]), (.int .i64 (1 : Int)), (.int .i64 (0 : Int))] [.one (.int .i64), .one (.int .i64)] st (fun (n1 : Int) (n2 : Int) (st1 : St) => BIf (decide (n2 = (0 : Int))) (CallT PR fn_datakitref13_Len [(.agg [(.int .i64 n_0), (.str n_1), (.str n_2), n_3, (.str n_4)])] [.one (.int .i64)] st1 (fun (n3 : Int) (st2 : St) => BIf (decide ((1048576 : Int) < n3)) (K ((10 : Int)) st2) (K (n2) st2))) (K (n2) st1))) : CallT PR fn_datakitref13_Check [(.agg [(.int .i64 n_0), (.str n_1), (.str n_2), n_3, (.str n_4)])] [.one (.int .i64)] st K :=
  tcalls_fw (cfg := ⟨[1], [], []⟩) (h := .none) mixed (fun _ _ => Tryd.call125 _ _) Tryd.func125 (by kernel_rfl) (by kernel_rfl) h
set_option maxRecDepth 100000 in
theorem vc_datakitref13_Print (n_0 : Int) (n_1 : List UInt8) (n_2 : List UInt8) (n_3 : TV) (n_4 : List UInt8) (st : St) (K : List UInt8 → St → Prop) (h : ((n_1).length + (n_2).length ≤ 9223372036854775807 ∧ ∃ (I1 : List UInt8 → Int → Int → List UInt8 → List UInt8 → TV → List UInt8 → St → Prop) (M1 : List UInt8 → Int → Int → List UInt8 → List UInt8 → TV → List UInt8 → St → Nat), (I1 ((n_1 ++ n_2)) ((0 : Int)) (n_0) (n_1) (n_2) (n_3) (n_4) st) ∧ ∀ (s_1 : List UInt8) (i_1 : Int) (n1 : Int) (s1 : List UInt8) (s2 : List UInt8) (v1 : TV) (s3 : List UInt8) (st1 : St), I1 s_1 i_1 n1 s1 s2 v1 s3 st1 → (need (isSl v1) (BIf (decide (i_1 < (lenS v1 : Int))) (((0 ≤ i_1 ∧ i_1 < (lenZ 5 v1 : Int)) ∧ optK ((ldCells st1 [] (.t (ixT 5 v1 (Int.toNat i_1))) 0 5).map TV.agg) (fun (x1 : TV) => decA [.int .i64, .str, .str, .tv, .str] x1 (fun (n2 : Int) (s4 : List UInt8) (s5 : List UInt8) (v2 : TV) (s6 : List UInt8) => CallT PR fn_datakitref13_Print [(.agg [(.int .i64 n2), (.str s4), (.str s5), v2, (.str s6)])] [.one (.str)] st1 (fun (s7 : List UInt8) (st2 : St) => ((s_1).length + (s7).length ≤ 9223372036854775807 ∧ (I1 ((s_1 ++ s7)) ((IntKind.i64.wrap (i_1 + (1 : Int)))) (n1) (s1) (s2) (v1) (s3) st2 ∧ M1 ((s_1 ++ s7)) ((IntKind.i64.wrap (i_1 + (1 : Int)))) (n1) (s1) (s2) (v1) (s3) st2 < M1 s_1 i_1 n1 s1 s2 v1 s3 st1))))))) (((s_1).length + (s3).length ≤ 9223372036854775807 ∧ K ((s_1 ++ s3)) st1)))))) : CallT PR fn_datakitref13_Print [(.agg [(.int .i64 n_0), (.str n_1), (.str n_2), n_3, (.str n_4)])] [.one (.str)] st K :=
  tcalls_fw (cfg := ⟨[1], [], []⟩) (h := (.seq .none (.seq .none (.seq (.seq .none (.block (.loop ⟨[(3, .str), (4, .int .i64)], [(1, 0, 0)], [(0, 5)], [(0, 0, .int .i64), (0, 1, .str), (0, 2, .str), (0, 3, .tv), (0, 4, .str)]⟩ .none))) .none)))) mixed (fun _ _ => Tryd.call126 _ _) Tryd.func126 (by kernel_rfl) (by kernel_rfl) h
set_option maxRecDepth 100000 in
theorem vc_utf_Len (s : List UInt8) (st : St) (K : Int → Int → St → Prop) (h : ∃ (I1 : Int → Int → List UInt8 → St → Prop) (M1 : Int → Int → List UInt8 → St → Nat), (I1 ((0 : Int)) ((0 : Int)) (s) st) ∧ ∀ (n_1 : Int) (at_1 : Int) (s_1 : List UInt8) (st1 : St), I1 n_1 at_1 s_1 st1 → (BIf (decide (at_1 < ((s_1).length : Int))) (CallT PR fn_utf_Decode [(.str s_1), (.int .i64 at_1)] [.one (.int .i64), .one (.int .i64)] st1 (fun (n1 : Int) (n2 : Int) (st2 : St) => BIf (decide (n2 = (0 : Int))) (K ((0 : Int)) ((5 : Int)) st2) ((I1 ((IntKind.i64.wrap (n_1 + (1 : Int)))) ((IntKind.i64.wrap (at_1 + n2))) (s_1) st2 ∧ M1 ((IntKind.i64.wrap (n_1 + (1 : Int)))) ((IntKind.i64.wrap (at_1 + n2))) (s_1) st2 < M1 n_1 at_1 s_1 st1)))) (K (n_1) ((0 : Int)) st1))) : CallT PR fn_utf_Len [(.str s)] [.one (.int .i64), .one (.int .i64)] st K :=
  tcalls_fw (cfg := ⟨[], [], []⟩) (h := (.seq .none (.seq .none (.seq (.seq .none (.block (.loop ⟨[(4, .int .i64), (5, .int .i64), (0, .str)], [], [], []⟩ .none))) .none)))) mixed (fun _ _ => Tryd.call127 _ _) Tryd.func127 (by kernel_rfl) (by kernel_rfl) h
set_option maxRecDepth 100000 in
theorem vc_utf_head (b : Int) (st : St) (K : Int → Int → St → Prop) (h : BIf (decide (b < (128 : Int))) (K ((1 : Int)) ((IntKind.i64.wrap b)) st) (BIf (decide ((192 : Int) ≤ b)) (BIf (decide (b < (224 : Int))) (K ((2 : Int)) ((IntKind.i64.wrap (bitsI .and .u8 b (31 : Int)))) st) (BIf (decide ((224 : Int) ≤ b)) (BIf (decide (b < (240 : Int))) (K ((3 : Int)) ((IntKind.i64.wrap (bitsI .and .u8 b (15 : Int)))) st) (BIf (decide ((240 : Int) ≤ b)) (BIf (decide (b < (248 : Int))) (K ((4 : Int)) ((IntKind.i64.wrap (bitsI .and .u8 b (7 : Int)))) st) (K ((0 : Int)) ((0 : Int)) st)) (K ((0 : Int)) ((0 : Int)) st))) (BIf (decide ((240 : Int) ≤ b)) (BIf (decide (b < (248 : Int))) (K ((4 : Int)) ((IntKind.i64.wrap (bitsI .and .u8 b (7 : Int)))) st) (K ((0 : Int)) ((0 : Int)) st)) (K ((0 : Int)) ((0 : Int)) st)))) (BIf (decide ((224 : Int) ≤ b)) (BIf (decide (b < (240 : Int))) (K ((3 : Int)) ((IntKind.i64.wrap (bitsI .and .u8 b (15 : Int)))) st) (BIf (decide ((240 : Int) ≤ b)) (BIf (decide (b < (248 : Int))) (K ((4 : Int)) ((IntKind.i64.wrap (bitsI .and .u8 b (7 : Int)))) st) (K ((0 : Int)) ((0 : Int)) st)) (K ((0 : Int)) ((0 : Int)) st))) (BIf (decide ((240 : Int) ≤ b)) (BIf (decide (b < (248 : Int))) (K ((4 : Int)) ((IntKind.i64.wrap (bitsI .and .u8 b (7 : Int)))) st) (K ((0 : Int)) ((0 : Int)) st)) (K ((0 : Int)) ((0 : Int)) st))))) : CallT PR fn_utf_head [(.int .u8 b)] [.one (.int .i64), .one (.int .i64)] st K :=
  tcalls_fw (cfg := ⟨[], [], []⟩) (h := .none) mixed (fun _ _ => Tryd.call139 _ _) Tryd.func139 (by kernel_rfl) (by kernel_rfl) h
end Go.TVF
end

section
set_option linter.unusedVariables false
namespace Go.TVF
open Go Go.Proofs
set_option maxRecDepth 100000 in
theorem vc_utf_scalar (r : Int) (st : St) (K : Bool → St → Prop) (h : BIf (decide ((0 : Int) ≤ r)) (BIf (decide (r ≤ (1114111 : Int))) (BIf (decide (r < (55296 : Int))) (K (true) st) (K ((decide ((57343 : Int) < r))) st)) (K (false) st)) (K (false) st)) : CallT PR fn_utf_scalar [(.int .i64 r)] [.one (.bool)] st K :=
  tcalls_fw (cfg := ⟨[], [], []⟩) (h := .none) mixed (fun _ _ => Tryd.call140 _ _) Tryd.func140 (by kernel_rfl) (by kernel_rfl) h
set_option maxRecDepth 100000 in
theorem vc_utf_width (r : Int) (st : St) (K : Int → St → Prop) (h : BIf (decide (r < (128 : Int))) (K ((1 : Int)) st) (BIf (decide (r < (2048 : Int))) (K ((2 : Int)) st) (BIf (decide (r < (65536 : Int))) (K ((3 : Int)) st) (K ((4 : Int)) st)))) : CallT PR fn_utf_width [(.int .i64 r)] [.one (.int .i64)] st K :=
  tcalls_fw (cfg := ⟨[], [], []⟩) (h := .none) mixed (fun _ _ => Tryd.call141 _ _) Tryd.func141 (by kernel_rfl) (by kernel_rfl) h
set_option maxRecDepth 100000 in
theorem vc_delim_parser_cell (p : Nat) (st : St) (K : Bool → St → Prop) (h : optK (ldCell st [] (.t (.box p 10)) 0) (fun (x1 : TV) => decT (.int .i64) x1 (fun (n1 : Int) => optK (ldCell st [] (.t (.box p 0)) 0) (fun (x2 : TV) => decT (.str) x2 (fun (s1 : List UInt8) => BIf (decide (n1 < ((s1).length : Int))) (optK (ldCell st [] (.t (.box p 0)) 0) (fun (x3 : TV) => decT (.str) x3 (fun (s2 : List UInt8) => optK (ldCell st [] (.t (.box p 10)) 0) (fun (x4 : TV) => decT (.int .i64) x4 (fun (n2 : Int) => ((0 ≤ n2 ∧ n2 < ((s2).length : Int)) ∧ optK (ldCell st [] (.t (.box p 2)) 0) (fun (x5 : TV) => decT (.int .u8) x5 (fun (n3 : Int) => BIf (decide (((List.getD s2 (Int.toNat n2) 0).toNat : Int) = n3)) (CallT PR fn_delim_parser_quoted [(.box p 0)] [.one (.bool)] st (fun (b1 : Bool) (st1 : St) => K (b1) st1)) (∃ (I1 : TV → St → Prop) (M1 : TV → St → Nat), (I1 ((.box p 0)) st) ∧ ∀ (p_1 : TV) (st2 : St), I1 p_1 st2 → (need (isPtr p_1) (need (isPtr p_1) (optK (ldCell st2 [] (.t (fldT p_1 10)) 0) (fun (x6 : TV) => decT (.int .i64) x6 (fun (n4 : Int) => need (isPtr p_1) (need (isPtr p_1) (optK (ldCell st2 [] (.t (fldT p_1 0)) 0) (fun (x7 : TV) => decT (.str) x7 (fun (s3 : List UInt8) => BIf (decide (n4 < ((s3).length : Int))) (need (isPtr p_1) (need (isPtr p_1) (optK (ldCell st2 [] (.t (fldT p_1 0)) 0) (fun (x8 : TV) => decT (.str) x8 (fun (s4 : List UInt8) => need (isPtr p_1) (need (isPtr p_1) (optK (ldCell st2 [] (.t (fldT p_1 10)) 0) (fun (x9 : TV) => decT (.int .i64) x9 (fun (n5 : Int) => ((0 ≤ n5 ∧ n5 < ((s4).length : Int)) ∧ need (isPtr p_1) (need (isPtr p_1) (need (isPtr (fldT p_1 1)) (optK (ldCell st2 [] (.t (fldT (fldT p_1 1) 0)) 0) (fun (x10 : TV) => decT (.int .u8) x10 (fun (n6 : Int) => BIf (decide (((List.getD s4 (Int.toNat n5) 0).toNat : Int) = n6)) (BIf (decide (((List.getD s4 (Int.toNat n5) 0).toNat : Int) = n6)) (K (true) st2) (need (isPtr p_1) (need (isPtr p_1) (need (isPtr (fldT p_1 1)) (optK (ldCell st2 [] (.t (fldT (fldT p_1 1) 1)) 0) (fun (x11 : TV) => decT (.int .u8) x11 (fun (n7 : Int) => BIf (decide (((List.getD s4 (Int.toNat n5) 0).toNat : Int) = n7)) (need (isPtr p_1) (need (isPtr p_1) (optK (ldCell st2 [] (.t (fldT p_1 10)) 0) (fun (x12 : TV) => decT (.int .i64) x12 (fun (n8 : Int) => CallT PR fn_delim_parser_fail [p_1, (.int .i64 n8), (.int .i64 (3 : Int))] [.one (.bool)] st2 (fun (b2 : Bool) (st3 : St) => K (b2) st3)))))) (need (isPtr p_1) (need (isPtr p_1) (optK (ldCell st2 [] (.t (fldT p_1 10)) 0) (fun (x13 : TV) => decT (.int .i64) x13 (fun (n9 : Int) => need (isPtr p_1) (need (isPtr p_1) (stB st2 (fldT p_1 10) [(.int .i64 (IntKind.i64.wrap (n9 + (1 : Int))))] (fun (st4 : St) => (I1 (p_1) st4 ∧ M1 (p_1) st4 < M1 p_1 st2)))))))))))))))) (BIf (decide (((List.getD s4 (Int.toNat n5) 0).toNat : Int) = (10 : Int))) (BIf (decide (((List.getD s4 (Int.toNat n5) 0).toNat : Int) = (10 : Int))) (K (true) st2) (need (isPtr p_1) (need (isPtr p_1) (need (isPtr (fldT p_1 1)) (optK (ldCell st2 [] (.t (fldT (fldT p_1 1) 1)) 0) (fun (x14 : TV) => decT (.int .u8) x14 (fun (n10 : Int) => BIf (decide (((List.getD s4 (Int.toNat n5) 0).toNat : Int) = n10)) (need (isPtr p_1) (need (isPtr p_1) (optK (ldCell st2 [] (.t (fldT p_1 10)) 0) (fun (x15 : TV) => decT (.int .i64) x15 (fun (n11 : Int) => CallT PR fn_delim_parser_fail [p_1, (.int .i64 n11), (.int .i64 (3 : Int))] [.one (.bool)] st2 (fun (b3 : Bool) (st5 : St) => K (b3) st5)))))) (need (isPtr p_1) (need (isPtr p_1) (optK (ldCell st2 [] (.t (fldT p_1 10)) 0) (fun (x16 : TV) => decT (.int .i64) x16 (fun (n12 : Int) => need (isPtr p_1) (need (isPtr p_1) (stB st2 (fldT p_1 10) [(.int .i64 (IntKind.i64.wrap (n12 + (1 : Int))))] (fun (st6 : St) => (I1 (p_1) st6 ∧ M1 (p_1) st6 < M1 p_1 st2)))))))))))))))) (BIf (decide (((List.getD s4 (Int.toNat n5) 0).toNat : Int) = (13 : Int))) (K (true) st2) (need (isPtr p_1) (need (isPtr p_1) (need (isPtr (fldT p_1 1)) (optK (ldCell st2 [] (.t (fldT (fldT p_1 1) 1)) 0) (fun (x17 : TV) => decT (.int .u8) x17 (fun (n13 : Int) => BIf (decide (((List.getD s4 (Int.toNat n5) 0).toNat : Int) = n13)) (need (isPtr p_1) (need (isPtr p_1) (optK (ldCell st2 [] (.t (fldT p_1 10)) 0) (fun (x18 : TV) => decT (.int .i64) x18 (fun (n14 : Int) => CallT PR fn_delim_parser_fail [p_1, (.int .i64 n14), (.int .i64 (3 : Int))] [.one (.bool)] st2 (fun (b4 : Bool) (st7 : St) => K (b4) st7)))))) (need (isPtr p_1) (need (isPtr p_1) (optK (ldCell st2 [] (.t (fldT p_1 10)) 0) (fun (x19 : TV) => decT (.int .i64) x19 (fun (n15 : Int) => need (isPtr p_1) (need (isPtr p_1) (stB st2 (fldT p_1 10) [(.int .i64 (IntKind.i64.wrap (n15 + (1 : Int))))] (fun (st8 : St) => (I1 (p_1) st8 ∧ M1 (p_1) st8 < M1 p_1 st2)))))))))))))))))))))))))))))))) (K (true) st2))))))))))))))))))) (∃ (I2 : TV → St → Prop) (M2 : TV → St → Nat), (I2 ((.box p 0)) st) ∧ ∀ (p_2 : TV) (st9 : St), I2 p_2 st9 → (need (isPtr p_2) (need (isPtr p_2) (optK (ldCell st9 [] (.t (fldT p_2 10)) 0) (fun (x20 : TV) => decT (.int .i64) x20 (fun (n16 : Int) => need (isPtr p_2) (need (isPtr p_2) (optK (ldCell st9 [] (.t (fldT p_2 0)) 0) (fun (x21 : TV) => decT (.str) x21 (fun (s5 : List UInt8) => BIf (decide (n16 < ((s5).length : Int))) (need (isPtr p_2) (need (isPtr p_2) (optK (ldCell st9 [] (.t (fldT p_2 0)) 0) (fun (x22 : TV) => decT (.str) x22 (fun (s6 : List UInt8) => need (isPtr p_2) (need (isPtr p_2) (optK (ldCell st9 [] (.t (fldT p_2 10)) 0) (fun (x23 : TV) => decT (.int .i64) x23 (fun (n17 : Int) => ((0 ≤ n17 ∧ n17 < ((s6).length : Int)) ∧ need (isPtr p_2) (need (isPtr p_2) (need (isPtr (fldT p_2 1)) (optK (ldCell st9 [] (.t (fldT (fldT p_2 1) 0)) 0) (fun (x24 : TV) => decT (.int .u8) x24 (fun (n18 : Int) => BIf (decide (((List.getD s6 (Int.toNat n17) 0).toNat : Int) = n18)) (BIf (decide (((List.getD s6 (Int.toNat n17) 0).toNat : Int) = n18)) (K (true) st9) (need (isPtr p_2) (need (isPtr p_2) (need (isPtr (fldT p_2 1)) (optK (ldCell st9 [] (.t (fldT (fldT p_2 1) 1)) 0) (fun (x25 : TV) => decT (.int .u8) x25 (fun (n19 : Int) => BIf (decide (((List.getD s6 (Int.toNat n17) 0).toNat : Int) = n19)) (need (isPtr p_2) (need (isPtr p_2) (optK (ldCell st9 [] (.t (fldT p_2 10)) 0) (fun (x26 : TV) => decT (.int .i64) x26 (fun (n20 : Int) => CallT PR fn_delim_parser_fail [p_2, (.int .i64 n20), (.int .i64 (3 : Int))] [.one (.bool)] st9 (fun (b5 : Bool) (st10 : St) => K (b5) st10)))))) (need (isPtr p_2) (need (isPtr p_2) (optK (ldCell st9 [] (.t (fldT p_2 10)) 0) (fun (x27 : TV) => decT (.int .i64) x27 (fun (n21 : Int) => need (isPtr p_2) (need (isPtr p_2) (stB st9 (fldT p_2 10) [(.int .i64 (IntKind.i64.wrap (n21 + (1 : Int))))] (fun (st11 : St) => (I2 (p_2) st11 ∧ M2 (p_2) st11 < M2 p_2 st9)))))))))))))))) (BIf (decide (((List.getD s6 (Int.toNat n17) 0).toNat : Int) = (10 : Int))) (BIf (decide (((List.getD s6 (Int.toNat n17) 0).toNat : Int) = (10 : Int))) (K (true) st9) (need (isPtr p_2) (need (isPtr p_2) (need (isPtr (fldT p_2 1)) (optK (ldCell st9 [] (.t (fldT (fldT p_2 1) 1)) 0) (fun (x28 : TV) => decT (.int .u8) x28 (fun (n22 : Int) => BIf (decide (((List.getD s6 (Int.toNat n17) 0).toNat : Int) = n22)) (need (isPtr p_2) (need (isPtr p_2) (optK (ldCell st9 [] (.t (fldT p_2 10)) 0) (fun (x29 : TV) => decT (.int .i64) x29 (fun (n23 : Int) => CallT PR fn_delim_parser_fail [p_2, (.int .i64 n23), (.int .i64 (3 : Int))] [.one (.bool)] st9 (fun (b6 : Bool) (st12 : St) => K (b6) st12)))))) (need (isPtr p_2) (need (isPtr p_2) (optK (ldCell st9 [] (.t (fldT p_2 10)) 0) (fun (x30 : TV) => decT (.int .i64) x30 (fun (n24 : Int) => need (isPtr p_2) (need (isPtr p_2) (stB st9 (fldT p_2 10) [(.int .i64 (IntKind.i64.wrap (n24 + (1 : Int))))] (fun (st13 : St) => (I2 (p_2) st13 ∧ M2 (p_2) st13 < M2 p_2 st9)))))))))))))))) (BIf (decide (((List.getD s6 (Int.toNat n17) 0).toNat : Int) = (13 : Int))) (K (true) st9) (need (isPtr p_2) (need (isPtr p_2) (need (isPtr (fldT p_2 1)) (optK (ldCell st9 [] (.t (fldT (fldT p_2 1) 1)) 0) (fun (x31 : TV) => decT (.int .u8) x31 (fun (n25 : Int) => BIf (decide (((List.getD s6 (Int.toNat n17) 0).toNat : Int) = n25)) (need (isPtr p_2) (need (isPtr p_2) (optK (ldCell st9 [] (.t (fldT p_2 10)) 0) (fun (x32 : TV) => decT (.int .i64) x32 (fun (n26 : Int) => CallT PR fn_delim_parser_fail [p_2, (.int .i64 n26), (.int .i64 (3 : Int))] [.one (.bool)] st9 (fun (b7 : Bool) (st14 : St) => K (b7) st14)))))) (need (isPtr p_2) (need (isPtr p_2) (optK (ldCell st9 [] (.t (fldT p_2 10)) 0) (fun (x33 : TV) => decT (.int .i64) x33 (fun (n27 : Int) => need (isPtr p_2) (need (isPtr p_2) (stB st9 (fldT p_2 10) [(.int .i64 (IntKind.i64.wrap (n27 + (1 : Int))))] (fun (st15 : St) => (I2 (p_2) st15 ∧ M2 (p_2) st15 < M2 p_2 st9)))))))))))))))))))))))))))))))) (K (true) st9)))))))))))))))) : CallT PR fn_delim_parser_cell [(.box p 0)] [.one (.bool)] st K :=
  tcalls_fw (cfg := ⟨[], [], []⟩) (h := (.seq .none (.seq .none (.seq (.block (.loop ⟨[(0, .tv)], [], [], []⟩ .none)) .none)))) mixed (fun _ _ => Tryd.call142 _ _) Tryd.func142 (by kernel_rfl) (by kernel_rfl) h
set_option maxRecDepth 100000 in
theorem vc_datakitref13_look (n_0 : Int) (n_1 : List UInt8) (n_2 : List UInt8) (n_3 : TV) (n_4 : List UInt8) (depth : Int) (seen : Int) (st : St) (K : Int → Int → St → Prop) (h : BIf (decide ((192 : Int) < depth)) (K (seen) ((9 : Int)) st) (BIf (decide ((524288 : Int) ≤ seen)) (K (seen) ((10 : Int)) st) (BIf (decide (n_0 < (1 : Int))) (K (seen) ((6 : Int)) st) (BIf (decide ((11 : Int) < n_0)) (K (seen) ((6 : Int)) st) (CallT PR fn_datakitref13_Leaf [(.int .i64 n_0)] [.one (.bool)] st (fun (b1 : Bool) (st1 : St) => BIf b1 (need (isSl n_3) (BIf (decide ((0 : Int) < (lenS n_3 : Int))) (K (seen) ((1 : Int)) st1) (BIf (decide (n_4 ≠ ([] : List UInt8))) (K (seen) ((1 : Int)) st1) (∃ (I1 : Int → Int → Int → Int → List UInt8 → List UInt8 → TV → List UInt8 → St → Prop) (M1 : Int → Int → Int → Int → List UInt8 → List UInt8 → TV → List UInt8 → St → Nat), (I1 ((IntKind.i64.wrap (seen + (1 : Int)))) ((0 : Int)) (depth) (n_0) (n_1) (n_2) (n_3) (n_4) st1) ∧ ∀ (seen_1 : Int) (i_1 : Int) (depth_1 : Int) (n1 : Int) (s1 : List UInt8) (s2 : List UInt8) (v1 : TV) (s3 : List UInt8) (st2 : St), I1 seen_1 i_1 depth_1 n1 s1 s2 v1 s3 st2 → (need (isSl v1) (BIf (decide (i_1 < (lenS v1 : Int))) (((0 ≤ i_1 ∧ i_1 < (lenZ 5 v1 : Int)) ∧ optK ((ldCells st2 [] (.t (ixT 5 v1 (Int.toNat i_1))) 0 5).map TV.agg) (fun (x1 : TV) => decA [.int .i64, .str, .str, .tv, .str] x1 (fun (n2 : Int) (s4 : List UInt8) (s5 : List UInt8) (v2 : TV) (s6 : List UInt8) => CallT PR fn_datakitref13_look [(.agg [(.int .i64 n2), (.str s4), (.str s5), v2, (.str s6)]), (.int .i64 (IntKind.i64.wrap (depth_1 + (1 : Int)))), (.int .i64 seen_1)] [.one (.int .i64), .one (.int .i64)] st2 (fun (n3 : Int) (n4 : Int) (st3 : St) => BIf (decide (n4 ≠ (0 : Int))) (K (n3) (n4) st3) ((I1 (n3) ((IntKind.i64.wrap (i_1 + (1 : Int)))) (depth_1) (n1) (s1) (s2) (v1) (s3) st3 ∧ M1 (n3) ((IntKind.i64.wrap (i_1 + (1 : Int)))) (depth_1) (n1) (s1) (s2) (v1) (s3) st3 < M1 seen_1 i_1 depth_1 n1 s1 s2 v1 s3 st2))))))) (K (seen_1) ((0 : Int)) st2))))))) (∃ (I2 : Int → Int → Int → Int → List UInt8 → List UInt8 → TV → List UInt8 → St → Prop) (M2 : Int → Int → Int → Int → List UInt8 → List UInt8 → TV → List UInt8 → St → Nat), (I2 ((IntKind.i64.wrap (seen + (1 : Int)))) ((0 : Int)) (depth) (n_0) (n_1) (n_2) (n_3) (n_4) st1) ∧ ∀ (seen_2 : Int) (i_2 : Int) (depth_2 : Int) (n5 : Int) (s7 : List UInt8) (s8 : List UInt8) (v3 : TV) (s9 : List UInt8) (st4 : St), I2 seen_2 i_2 depth_2 n5 s7 s8 v3 s9 st4 → (need (isSl v3) (BIf (decide (i_2 < (lenS v3 : Int))) (((0 ≤ i_2 ∧ i_2 < (lenZ 5 v3 : Int)) ∧ optK ((ldCells st4 [] (.t (ixT 5 v3 (Int.toNat i_2))) 0 5).map TV.agg) (fun (x2 : TV) => decA [.int .i64, .str, .str, .tv, .str] x2 (fun (n6 : Int) (s10 : List UInt8) (s11 : List UInt8) (v4 : TV) (s12 : List UInt8) => CallT PR fn_datakitref13_look [(.agg [(.int .i64 n6), (.str s10), (.str s11), v4, (.str s12)]), (.int .i64 (IntKind.i64.wrap (depth_2 + (1 : Int)))), (.int .i64 seen_2)] [.one (.int .i64), .one (.int .i64)] st4 (fun (n7 : Int) (n8 : Int) (st5 : St) => BIf (decide (n8 ≠ (0 : Int))) (K (n7) (n8) st5) ((I2 (n7) ((IntKind.i64.wrap (i_2 + (1 : Int)))) (depth_2) (n5) (s7) (s8) (v3) (s9) st5 ∧ M2 (n7) ((IntKind.i64.wrap (i_2 + (1 : Int)))) (depth_2) (n5) (s7) (s8) (v3) (s9) st5 < M2 seen_2 i_2 depth_2 n5 s7 s8 v3 s9 st4))))))) (K (seen_2) ((0 : Int)) st4)))))))))) : CallT PR fn_datakitref13_look [(.agg [(.int .i64 n_0), (.str n_1), (.str n_2), n_3, (.str n_4)]), (.int .i64 depth), (.int .i64 seen)] [.one (.int .i64), .one (.int .i64)] st K :=
  tcalls_fw (cfg := ⟨[3], [], []⟩) (h := (.seq .none (.seq .none (.seq .none (.seq .none (.seq .none (.seq .none (.seq (.seq .none (.block (.loop ⟨[(2, .int .i64), (8, .int .i64), (1, .int .i64)], [(3, 0, 0)], [(0, 5)], [(0, 0, .int .i64), (0, 1, .str), (0, 2, .str), (0, 3, .tv), (0, 4, .str)]⟩ .none))) .none)))))))) mixed (fun _ _ => Tryd.call143 _ _) Tryd.func143 (by kernel_rfl) (by kernel_rfl) h
set_option maxRecDepth 100000 in
theorem vc_datakitref13_Len (n_0 : Int) (n_1 : List UInt8) (n_2 : List UInt8) (n_3 : TV) (n_4 : List UInt8) (st : St) (K : Int → St → Prop) (h : ∃ (I1 : Int → Int → Int → List UInt8 → List UInt8 → TV → List UInt8 → St → Prop) (M1 : Int → Int → Int → List UInt8 → List UInt8 → TV → List UInt8 → St → Nat), (I1 ((IntKind.i64.wrap ((IntKind.i64.wrap (((n_1).length : Int) + ((n_2).length : Int))) + ((n_4).length : Int)))) ((0 : Int)) (n_0) (n_1) (n_2) (n_3) (n_4) st) ∧ ∀ (k_1 : Int) (i_1 : Int) (n1 : Int) (s1 : List UInt8) (s2 : List UInt8) (v1 : TV) (s3 : List UInt8) (st1 : St), I1 k_1 i_1 n1 s1 s2 v1 s3 st1 → (need (isSl v1) (BIf (decide (i_1 < (lenS v1 : Int))) (((0 ≤ i_1 ∧ i_1 < (lenZ 5 v1 : Int)) ∧ optK ((ldCells st1 [] (.t (ixT 5 v1 (Int.toNat i_1))) 0 5).map TV.agg) (fun (x1 : TV) => decA [.int .i64, .str, .str, .tv, .str] x1 (fun (n2 : Int) (s4 : List UInt8) (s5 : List UInt8) (v2 : TV) (s6 : List UInt8) => CallT PR fn_datakitref13_Len [(.agg [(.int .i64 n2), (.str s4), (.str s5), v2, (.str s6)])] [.one (.int .i64)] st1 (fun (n3 : Int) (st2 : St) => (I1 ((IntKind.i64.wrap (k_1 + n3))) ((IntKind.i64.wrap (i_1 + (1 : Int)))) (n1) (s1) (s2) (v1) (s3) st2 ∧ M1 ((IntKind.i64.wrap (k_1 + n3))) ((IntKind.i64.wrap (i_1 + (1 : Int)))) (n1) (s1) (s2) (v1) (s3) st2 < M1 k_1 i_1 n1 s1 s2 v1 s3 st1)))))) (K (k_1) st1)))) : CallT PR fn_datakitref13_Len [(.agg [(.int .i64 n_0), (.str n_1), (.str n_2), n_3, (.str n_4)])] [.one (.int .i64)] st K :=
  tcalls_fw (cfg := ⟨[1], [], []⟩) (h := (.seq .none (.seq .none (.seq (.seq .none (.block (.loop ⟨[(3, .int .i64), (4, .int .i64)], [(1, 0, 0)], [(0, 5)], [(0, 0, .int .i64), (0, 1, .str), (0, 2, .str), (0, 3, .tv), (0, 4, .str)]⟩ .none))) .none)))) mixed (fun _ _ => Tryd.call144 _ _) Tryd.func144 (by kernel_rfl) (by kernel_rfl) h
set_option maxRecDepth 100000 in
theorem vc_delim_parser_quoted (p : Nat) (st : St) (K : Bool → St → Prop) (h : optK (ldCell st [] (.t (.box p 10)) 0) (fun (x1 : TV) => decT (.int .i64) x1 (fun (n1 : Int) => stB st (.box p 10) [(.int .i64 (IntKind.i64.wrap (n1 + (1 : Int))))] (fun (st1 : St) => ∃ (I1 : TV → St → Prop) (M1 : TV → St → Nat), (I1 ((.box p 0)) st1) ∧ ∀ (p_1 : TV) (st2 : St), I1 p_1 st2 → (need (isPtr p_1) (need (isPtr p_1) (optK (ldCell st2 [] (.t (fldT p_1 10)) 0) (fun (x2 : TV) => decT (.int .i64) x2 (fun (n2 : Int) => need (isPtr p_1) (need (isPtr p_1) (optK (ldCell st2 [] (.t (fldT p_1 0)) 0) (fun (x3 : TV) => decT (.str) x3 (fun (s1 : List UInt8) => BIf (decide (n2 < ((s1).length : Int))) (need (isPtr p_1) (need (isPtr p_1) (optK (ldCell st2 [] (.t (fldT p_1 0)) 0) (fun (x4 : TV) => decT (.str) x4 (fun (s2 : List UInt8) => need (isPtr p_1) (need (isPtr p_1) (optK (ldCell st2 [] (.t (fldT p_1 10)) 0) (fun (x5 : TV) => decT (.int .i64) x5 (fun (n3 : Int) => ((0 ≤ n3 ∧ n3 < ((s2).length : Int)) ∧ need (isPtr p_1) (need (isPtr p_1) (need (isPtr (fldT p_1 1)) (optK (ldCell st2 [] (.t (fldT (fldT p_1 1) 1)) 0) (fun (x6 : TV) => decT (.int .u8) x6 (fun (n4 : Int) => BIf (decide (((List.getD s2 (Int.toNat n3) 0).toNat : Int) ≠ n4)) (need (isPtr p_1) (need (isPtr p_1) (optK (ldCell st2 [] (.t (fldT p_1 10)) 0) (fun (x7 : TV) => decT (.int .i64) x7 (fun (n5 : Int) => need (isPtr p_1) (need (isPtr p_1) (stB st2 (fldT p_1 10) [(.int .i64 (IntKind.i64.wrap (n5 + (1 : Int))))] (fun (st3 : St) => (I1 (p_1) st3 ∧ M1 (p_1) st3 < M1 p_1 st2))))))))) (need (isPtr p_1) (need (isPtr p_1) (optK (ldCell st2 [] (.t (fldT p_1 10)) 0) (fun (x8 : TV) => decT (.int .i64) x8 (fun (n6 : Int) => need (isPtr p_1) (need (isPtr p_1) (stB st2 (fldT p_1 10) [(.int .i64 (IntKind.i64.wrap (n6 + (1 : Int))))] (fun (st4 : St) => need (isPtr p_1) (need (isPtr p_1) (optK (ldCell st4 [] (.t (fldT p_1 10)) 0) (fun (x9 : TV) => decT (.int .i64) x9 (fun (n7 : Int) => need (isPtr p_1) (need (isPtr p_1) (optK (ldCell st4 [] (.t (fldT p_1 0)) 0) (fun (x10 : TV) => decT (.str) x10 (fun (s3 : List UInt8) => BIf (decide (n7 = ((s3).length : Int))) (K (true) st4) (need (isPtr p_1) (need (isPtr p_1) (optK (ldCell st4 [] (.t (fldT p_1 0)) 0) (fun (x11 : TV) => decT (.str) x11 (fun (s4 : List UInt8) => need (isPtr p_1) (need (isPtr p_1) (optK (ldCell st4 [] (.t (fldT p_1 10)) 0) (fun (x12 : TV) => decT (.int .i64) x12 (fun (n8 : Int) => ((0 ≤ n8 ∧ n8 < ((s4).length : Int)) ∧ need (isPtr p_1) (need (isPtr p_1) (need (isPtr (fldT p_1 1)) (optK (ldCell st4 [] (.t (fldT (fldT p_1 1) 1)) 0) (fun (x13 : TV) => decT (.int .u8) x13 (fun (n9 : Int) => BIf (decide (((List.getD s4 (Int.toNat n8) 0).toNat : Int) ≠ n9)) (K (true) st4) (need (isPtr p_1) (need (isPtr p_1) (optK (ldCell st4 [] (.t (fldT p_1 10)) 0) (fun (x14 : TV) => decT (.int .i64) x14 (fun (n10 : Int) => need (isPtr p_1) (need (isPtr p_1) (stB st4 (fldT p_1 10) [(.int .i64 (IntKind.i64.wrap (n10 + (1 : Int))))] (fun (st5 : St) => (I1 (p_1) st5 ∧ M1 (p_1) st5 < M1 p_1 st2))))))))))))))))))))))))))))))))))))))))))))))))))))))) (need (isPtr p_1) (need (isPtr p_1) (optK (ldCell st2 [] (.t (fldT p_1 0)) 0) (fun (x15 : TV) => decT (.str) x15 (fun (s5 : List UInt8) => CallT PR fn_delim_parser_fail [p_1, (.int .i64 ((s5).length : Int)), (.int .i64 (4 : Int))] [.one (.bool)] st2 (fun (b1 : Bool) (st6 : St) => K (b1) st6))))))))))))))))))) : CallT PR fn_delim_parser_quoted [(.box p 0)] [.one (.bool)] st K :=
  tcalls_fw (cfg := ⟨[], [], []⟩) (h := (.seq .none (.seq (.seq .none (.block (.loop ⟨[(0, .tv)], [], [], []⟩ .none))) .none))) mixed (fun _ _ => Tryd.call151 _ _) Tryd.func151 (by kernel_rfl) (by kernel_rfl) h
set_option maxRecDepth 100000 in
theorem vc_datakitref13_Leaf (kind : Int) (st : St) (K : Bool → St → Prop) (h : BIf (decide (kind = (2 : Int))) (K (true) st) (BIf (decide (kind = (6 : Int))) (K (true) st) (BIf (decide (kind = (10 : Int))) (K (true) st) (K ((decide (kind = (11 : Int)))) st)))) : CallT PR fn_datakitref13_Leaf [(.int .i64 kind)] [.one (.bool)] st K :=
  tcalls_fw (cfg := ⟨[], [], []⟩) (h := .none) mixed (fun _ _ => Tryd.call152 _ _) Tryd.func152 (by kernel_rfl) (by kernel_rfl) h
end Go.TVF
end

section
set_option linter.unusedVariables false
set_option linter.unusedSimpArgs false
namespace Go.TVF
open Go Go.Proofs Go.RowKit
theorem Sim.grown {g : Ghost} {st : St} {loc : List (Option (List TV))} {w w' : World} (s : Sim g st loc w) (h : Below w.heap.size w w') : Sim g st loc w' ∧ Ext g w g w' :=
  s.world h.size (s.below.trans (h.mono s.fits)) h.block
theorem rel_str_inv {g : Ghost} {w : World} {l : List UInt8} {v : Value} (h : Rel g w (.str l) v) : v = .string ⟨l.toArray⟩ := by cases h; rfl
theorem relL_one {g : Ghost} {w : World} {x : TV} {vs : List Value} (h : RelL g w [x] vs) : ∃ v, vs = [v] ∧ Rel g w x v := by
  obtain ⟨v, h1, h2⟩ := h.get? (i := 0) rfl
  have := h.1
  cases vs with
  | nil => simp at this
  | cons a r => cases r with
    | nil => simp at h1; subst h1; exact ⟨_, rfl, h2⟩
    | cons b r => simp at this
theorem character_ok' {r : Int} {st : St} {K : Bool → St → Prop} (h0 : 0 ≤ r) (hk : K (decide (isChar r.toNat)) st) : CallT PR fn_datakitref03_character [.int .i64 r] [.one (.bool)] st K := by
  refine vc_datakitref03_character _ st K (BIf_intro (fun _ => BIf_intro (fun h2 => BIf_intro (fun h3 => ?_) fun h3 => ?_) fun h2 => ?_) fun h1 => absurd h0 h1)
  · have : isChar r.toNat := by unfold isChar; omega
    simpa [this] using hk
  · have : decide ((57343 : Int) < r) = decide (isChar r.toNat) := by
      rw [Bool.eq_iff_iff]; simp only [decide_eq_true_eq]; unfold isChar; omega
    rw [this]; exact hk
  · have : ¬ isChar r.toNat := by unfold isChar; omega
    simpa [this] using hk
theorem toBytes_full (st : St) (n : Nat) (l : List UInt8) (xs : List TV) (h : xs = bytesT l) : (toBytes st (.list 1 .full n xs)).map TV.str = some (.str l) := by
  subst h; simp [toBytes, asBytes_bytesT]
theorem u8wrap (n : Nat) : IntKind.wrap .u8 (n : Int) = ((UInt8.ofNat n).toNat : Int) := by
  unfold IntKind.wrap
  simp only [IntKind.signed, IntKind.bits]
  simp
  try omega
theorem orN (a b m : Nat) (hb : b < 2 ^ m) (h : a * 2 ^ m + b < 2 ^ 63) (x y : Int) (hx : x = ((a * 2 ^ m : Nat) : Int)) (hy : y = (b : Int)) : bitsI .or .i64 x y = ((a * 2 ^ m + b : Nat) : Int) := by
  rw [hx, hy]; exact or_add a b m hb h
theorem encode_ok' {R : Int} {r : Nat} {st : St} {K : List UInt8 → Int → St → Prop} (hR : R = (r : Int)) (hr : r < 2 ^ 40) (hk : K (if isChar r then encU r else []) (if isChar r then 0 else 2) st) : CallT PR fn_datakitref03_Encode [.int .i64 R] [.one (.str), .one (.int .i64)] st K := by
  have shr : ∀ m, m ≤ 64 → Int.fdiv R (2 ^ (min m (IntKind.bits .i64))) = ((r / 2 ^ m : Nat) : Int) := fun m hm => by rw [hR]; exact shr_i64 r m hm
  have s6 := shr 6 (by decide)
  have s12 := shr 12 (by decide)
  have s18 := shr 18 (by decide)
  have m63 : ∀ x : Nat, x < 2 ^ 63 → bitsI .and .i64 (x : Int) (63 : Int) = ((x % 64 : Nat) : Int) := fun x hx => and_mask x 6 hx (by decide)
  have mR : bitsI .and .i64 R (63 : Int) = ((r % 64 : Nat) : Int) := by rw [hR]; exact m63 r (by omega)
  have o128 : ∀ x : Nat, x < 64 → bitsI .or .i64 (128 : Int) (x : Int) = ((128 + x : Nat) : Int) := fun x hx => orN 2 x 6 (by omega) (by omega) _ _ rfl rfl
  have hR0 : 0 ≤ R := by omega
  have hRn : R.toNat = r := by omega
  refine vc_datakitref03_Encode _ st K (character_ok' hR0 (BIf_bool (fun h0 => ?_) fun h0 => ?_))
  · have hc : ¬ isChar r := by rw [hRn] at h0; simpa using h0
    rw [if_neg hc, if_neg hc] at hk
    exact hk
  · have hc : isChar r := by rw [hRn] at h0; simpa using h0
    rw [if_pos hc, if_pos hc] at hk
    unfold encU at hk
    refine BIf_intro (fun h1 => ?_) fun h1 => BIf_intro (fun h2 => ?_) fun h2 => BIf_intro (fun h3 => ?_) fun h3 => ?_
    · rw [if_pos (by omega)] at hk
      exact optK_intro (toBytes_full _ _ _ _ (by simp only [bytesT, List.map, byteT]; rw [hR, u8wrap])) hk
    · rw [if_neg (by omega), if_pos (by omega)] at hk
      have o192 : bitsI .or .i64 (192 : Int) ((r / 2 ^ 6 : Nat) : Int) = ((192 + r / 64 : Nat) : Int) := orN 6 _ 5 (by omega) (by omega) _ _ rfl rfl
      refine optK_intro (toBytes_full _ _ _ _ ?_) hk
      simp only [bytesT, List.map, byteT]
      rw [show Int.toNat (6 : Int) = 6 from rfl, s6, o192, mR, o128 _ (by omega), u8wrap, u8wrap]
    · rw [if_neg (by omega), if_neg (by omega), if_pos (by omega)] at hk
      have o224 : bitsI .or .i64 (224 : Int) ((r / 2 ^ 12 : Nat) : Int) = ((224 + r / 4096 : Nat) : Int) := orN 14 _ 4 (by omega) (by omega) _ _ rfl rfl
      refine optK_intro (toBytes_full _ _ _ _ ?_) hk
      simp only [bytesT, List.map, byteT]
      rw [show Int.toNat (6 : Int) = 6 from rfl, show Int.toNat (12 : Int) = 12 from rfl, s6, s12, o224, mR, m63 (r / 2 ^ 6) (by omega), o128 _ (by omega), o128 _ (by omega), u8wrap, u8wrap, u8wrap]
    · rw [if_neg (by omega), if_neg (by omega), if_neg (by omega)] at hk
      have hr2 : r ≤ 1114111 := hc.1
      have o240 : bitsI .or .i64 (240 : Int) ((r / 2 ^ 18 : Nat) : Int) = ((240 + r / 262144 : Nat) : Int) := orN 30 _ 3 (by omega) (by omega) _ _ rfl rfl
      refine optK_intro (toBytes_full _ _ _ _ ?_) hk
      simp only [bytesT, List.map, byteT]
      rw [show Int.toNat (6 : Int) = 6 from rfl, show Int.toNat (12 : Int) = 12 from rfl, show Int.toNat (18 : Int) = 18 from rfl, s6, s12, s18, o240, mR, m63 (r / 2 ^ 6) (by omega), m63 (r / 2 ^ 12) (by omega), o128 _ (by omega), o128 _ (by omega), o128 _ (by omega), u8wrap, u8wrap, u8wrap, u8wrap]
theorem encode_ok {r : Nat} {st : St} {K : List UInt8 → Int → St → Prop} (hr : r < 2 ^ 40) (hk : K (if isChar r then encU r else []) (if isChar r then 0 else 2) st) : CallT PR fn_datakitref03_Encode [.int .i64 (r : Int)] [.one (.str), .one (.int .i64)] st K :=
  encode_ok' rfl hr hk
/-- What the reference's Decode gives at a place. -/
def rD (l : List UInt8) : Nat × Nat := if ul l = 0 then (0, 0) else (ur l, ul l)
theorem rdecode_ok' {s : List UInt8} {I : Int} {i : Nat} {st : St} {K : Int → Int → St → Prop} (hI : I = (i : Int)) (hl : s.length ≤ 2000000) (hi : i ≤ s.length) (hk : K ((rD (s.drop i)).1 : Nat) ((rD (s.drop i)).2 : Nat) st) : CallT PR fn_datakitref03_Decode [.str s, .int .i64 I] [.one (.int .i64), .one (.int .i64)] st K := by
  refine vc_datakitref03_Decode s I st K (BIf_intro (fun h => by omega) fun _ => BIf_intro (fun h => ?_) fun h => ⟨⟨by omega, by omega⟩, ?_⟩)
  · have : s.drop i = [] := List.drop_of_length_le (by omega)
    have h0 : rD (s.drop i) = (0, 0) := by rw [this]; simp [rD, ul]
    rw [h0] at hk; exact hk
  · have hne : s.drop i ≠ [] := by
      intro h0
      have := congrArg List.length h0
      simp at this; omega
    have href := refU_eq (s.drop i) hne
    have hb0 : (List.getD s (Int.toNat I) 0).toNat = bt (s.drop i) 0 := by rw [bt_drop, hI]; rfl
    have hlt := bt_lt (s.drop i) 0
    have hlen : (s.drop i).length = s.length - i := by simp
    rw [hb0, wrapB8 _ (by omega)]
    have m15 : bitsI .and .i64 ((bt (s.drop i) 0 : Nat) : Int) (15 : Int) = ((bt (s.drop i) 0 % 16 : Nat) : Int) := and_mask _ 4 (by omega) (by decide)
    have m7 : bitsI .and .i64 ((bt (s.drop i) 0 : Nat) : Int) (7 : Int) = ((bt (s.drop i) 0 % 8 : Nat) : Int) := and_mask _ 3 (by omega) (by decide)
    have m31 : bitsI .and .i64 ((bt (s.drop i) 0 : Nat) : Int) (31 : Int) = ((bt (s.drop i) 0 % 32 : Nat) : Int) := and_mask _ 5 (by omega) (by decide)
    rw [m15, m7, m31]
    refine ⟨fun size r s' at' st1 => s = s' ∧ I = at' ∧ st = st1 ∧ ((rsz (bt (s.drop i) 0) : Nat) : Int) = size ∧ ((rb0 (bt (s.drop i) 0) : Nat) : Int) = r, ?_, ?_⟩
    · refine BIf_intro (fun h1 => ⟨rfl, rfl, rfl, ?_, ?_⟩) fun h1 => BIf_intro (fun h2 => ⟨rfl, rfl, rfl, ?_, ?_⟩) fun h2 => BIf_intro (fun h3 => ⟨rfl, rfl, rfl, ?_, ?_⟩) fun h3 => ⟨rfl, rfl, rfl, ?_, ?_⟩
      · unfold rsz; rw [if_pos (by omega)]; rfl
      · unfold rb0; rw [if_pos (by omega)]
      · unfold rsz; rw [if_neg (by omega), if_pos (by omega)]; rfl
      · unfold rb0; rw [if_neg (by omega), if_pos (by omega)]
      · unfold rsz; rw [if_neg (by omega), if_neg (by omega), if_pos (by omega)]; rfl
      · unfold rb0; rw [if_neg (by omega), if_neg (by omega), if_pos (by omega)]
      · unfold rsz; rw [if_neg (by omega), if_neg (by omega), if_neg (by omega)]; rfl
      · unfold rb0; rw [if_neg (by omega), if_neg (by omega), if_neg (by omega)]
    · rintro _ _ _ _ _ ⟨rfl, rfl, rfl, rfl, rfl⟩
      have hs := rsz_le (bt (s.drop i) 0)
      have hr0 := rb0_lt _ hlt
      generalize hsz : rsz (bt (s.drop i) 0) = size at *
      generalize hrr : rb0 (bt (s.drop i) 0) = r0 at *
      have hra := racc_lt (s.drop i) r0 hr0
      unfold refU at href
      simp only [hsz, hrr] at href
      rw [wrap64 _ (by omega) (by omega)]
      refine BIf_intro (fun h1 => ?_) fun h1 => ?_
      · rw [if_pos (by omega)] at href
        have : rD (s.drop i) = (0, 0) := by unfold rD; rw [← href]
        rw [this] at hk; exact hk
      · rw [if_neg (by omega)] at href
        refine ⟨fun r j s' at' sz st2 => s = s' ∧ I = at' ∧ st = st2 ∧ ((size : Nat) : Int) = sz ∧ ∃ k : Nat, j = ((k + 1 : Nat) : Int) ∧ k + 1 ≤ size ∧ r = ((racc (s.drop i) r0 k : Nat) : Int), fun _ j _ _ sz _ => (sz - j).toNat, ⟨rfl, rfl, rfl, rfl, 0, rfl, hs.1, rfl⟩, ?_⟩
        rintro _ _ _ _ _ _ ⟨rfl, rfl, rfl, rfl, k, rfl, hk1, rfl⟩
        have hrk := hra k
        have h64 : 64 ^ k ≤ 64 ^ 3 := Nat.pow_le_pow_right (by decide) (by omega)
        refine BIf_intro (fun h2 => ?_) fun h2 => ?_
        · rw [wrap64 _ (by omega) (by omega)]
          have hbk : (List.getD s (Int.toNat (I + ((k + 1 : Nat) : Int))) 0).toNat = bt (s.drop i) (k + 1) := by
            rw [bt_drop, show Int.toNat (I + ((k + 1 : Nat) : Int)) = i + (k + 1) by omega]; rfl
          have hbl := bt_lt (s.drop i) (k + 1)
          have hand : bitsI .and .i64 (IntKind.i64.wrap ((bt (s.drop i) (k + 1) : Nat) : Int)) (63 : Int) = ((bt (s.drop i) (k + 1) % 64 : Nat) : Int) := by
            rw [wrapB8 _ (by omega)]; exact and_mask _ 6 (by omega) (by decide)
          have hmul : IntKind.i64.wrap (((racc (s.drop i) r0 k : Nat) : Int) * 2 ^ (min (Int.toNat (6 : Int)) (IntKind.bits .i64))) = ((racc (s.drop i) r0 k * 2 ^ 6 : Nat) : Int) := by
            rw [show (2 : Int) ^ (min (Int.toNat (6 : Int)) (IntKind.bits .i64)) = 64 by decide, wrap64 _ (by omega) (by omega)]; omega
          refine ⟨⟨by omega, by omega⟩, ?_⟩
          rw [hbk, hand, hmul, or_add _ _ 6 (by omega) (by omega), wrap64 _ (by omega) (by omega)]
          exact ⟨⟨rfl, rfl, rfl, rfl, k + 1, by omega, by omega, by simp only [racc]⟩, by dsimp only; omega⟩
        · have hks : k = size - 1 := by omega
          subst hks
          refine encode_ok (by omega) ?_
          generalize hR : racc (s.drop i) r0 (size - 1) = R at *
          refine BIf_intro (fun h3 => ?_) fun h3 => ?_
          · have hc : ¬ isChar R := by intro hc; rw [if_pos hc] at h3; exact h3 rfl
            rw [if_neg (fun h => hc h.1)] at href
            have : rD (s.drop i) = (0, 0) := by unfold rD; rw [← href]
            rw [this] at hk; exact hk
          · have hc : isChar R := by
              apply Decidable.byContradiction
              intro hc; rw [if_neg hc] at h3; exact h3 (by decide)
            rw [if_pos hc, wrap64 _ (by omega) (by omega)]
            refine ⟨⟨by omega, by omega, by omega⟩, ?_⟩
            rw [take_drop_sub, show Int.toNat (I + (size : Int)) - Int.toNat I = size by omega, show Int.toNat I = i by omega]
            refine BIf_intro (fun h4 => ?_) fun h4 => ?_
            · rw [if_neg (fun h => h4 h.2)] at href
              have : rD (s.drop i) = (0, 0) := by unfold rD; rw [← href]
              rw [this] at hk; exact hk
            · rw [if_pos ⟨hc, Decidable.not_not.1 h4⟩] at href
              have : rD (s.drop i) = (R, size) := by unfold rD; rw [← href]
              rw [this] at hk; exact hk
theorem rdecode_ok {s : List UInt8} {i : Nat} {st : St} {K : Int → Int → St → Prop} (hl : s.length ≤ 2000000) (hi : i ≤ s.length) (hk : K ((rD (s.drop i)).1 : Nat) ((rD (s.drop i)).2 : Nat) st) : CallT PR fn_datakitref03_Decode [.str s, .int .i64 (i : Int)] [.one (.int .i64), .one (.int .i64)] st K :=
  rdecode_ok' rfl hl hi hk
end Go.TVF
end

section
set_option linter.unusedVariables false
set_option linter.unusedSimpArgs false
namespace Go.TVF
open Go Go.Proofs
theorem K_eq {α : Type} {K : α → St → Prop} {a b : α} {st : St} (h : a = b) (hk : K b st) : K a st := h ▸ hk
/-- A function value that tells a class of bytes, now and later. -/
def Cls (st : St) (v : TV) (p : Int → Bool) : Prop :=
  ∀ st', StExt st st' → ∀ (c : Int) (K : Bool → St → Prop), K (p c) st' → callK PR v [.int .u8 c] [.one (.bool)] st' K
theorem Cls.ext {st st' : St} {v : TV} {p : Int → Bool} (h : Cls st v p) (e : StExt st st') : Cls st' v p := fun st2 e2 => h st2 (e.trans e2)
theorem stB_box {st : St} {b : Nat} {l xs : List TV} {k : St → Prop} (hb : st.box b = .cells l) (hl : 0 + xs.length ≤ l.length) (hk : k (st.put b (.cells (setAll l 0 xs)))) : stB st (.box b 0) xs k := ⟨l, hb, hl, hk⟩
theorem box_push (st : St) (o : AObj) (T : Option Nat) : (st.push o T).box st.nb = o := by simp [St.push]
theorem box_put (st : St) (b : Nat) (o : AObj) : (st.put b o).box b = o := by simp [St.put]
def letterB (c : Int) : Bool := decide (97 ≤ c ∧ c ≤ 122 ∨ 65 ≤ c ∧ c ≤ 90)
def digitB (c : Int) : Bool := decide (48 ≤ c ∧ c ≤ 57)
theorem letter_ok {c : Int} {st : St} {K : Bool → St → Prop} (hk : K (letterB c) st) : CallT PR fn_datakitref19_Letter [.int .u8 c] [.one (.bool)] st K := by
  refine vc_datakitref19_Letter c st K ?_
  unfold letterB at hk
  repeat' (refine BIf_intro (fun _ => ?_) fun _ => ?_)
  all_goals first | exact K_eq (decide_eq_true (by omega)).symm hk | exact K_eq (decide_eq_false (by omega)).symm hk | exact K_eq (decide_eq_decide.2 (by omega)) hk
theorem digit_ok {c : Int} {st : St} {K : Bool → St → Prop} (hk : K (digitB c) st) : CallT PR fn_datakitref19_Digit [.int .u8 c] [.one (.bool)] st K := by
  refine vc_datakitref19_Digit c st K ?_
  unfold digitB at hk
  repeat' (refine BIf_intro (fun _ => ?_) fun _ => ?_)
  all_goals first | exact K_eq (decide_eq_true (by omega)).symm hk | exact K_eq (decide_eq_false (by omega)).symm hk | exact K_eq (decide_eq_decide.2 (by omega)) hk
end Go.TVF
end

section
set_option linter.unusedVariables false
set_option linter.unusedSimpArgs false
namespace Go.TVF
open Go Go.Proofs
def hexD (c : Nat) : Option Nat := if 48 ≤ c ∧ c ≤ 57 then some (c - 48) else if 97 ≤ c ∧ c ≤ 102 then some (c - 87) else if 65 ≤ c ∧ c ≤ 70 then some (c - 55) else none
/-- Digits, as many as asked: their number, or what is wrong. -/
def hexS : Nat → List UInt8 → Nat → Except Int Nat
  | 0, _, acc => .ok acc
  | k + 1, [], acc => .error 4
  | k + 1, c :: cs, acc => match hexD c.toNat with
    | none => .error 3
    | some d => hexS k cs (acc * 16 + d)
end Go.TVF
end

section
set_option linter.unusedVariables false
set_option linter.unusedSimpArgs false
namespace Go.TVF
open Go Go.Proofs
/-- What follows a backslash and u: the character, and how many bytes. -/
def escS (l : List UInt8) : Except Int (Nat × Nat) :=
  match hexS 4 l 0 with
  | .error e => .error e
  | .ok n =>
    if 56320 ≤ n ∧ n ≤ 57343 then .error 5
    else if n < 55296 ∨ 57343 < n then .ok (n, 4)
    else if l.length ≤ 4 then .error 4
    else if bt l 4 ≠ 92 then .error 5
    else if l.length ≤ 5 then .error 4
    else if bt l 5 ≠ 117 then .error 5
    else match hexS 4 (l.drop 6) 0 with
      | .error e => .error e
      | .ok m => if m < 56320 ∨ 57343 < m then .error 5 else .ok (65536 + (n - 55296) * 1024 + (m - 56320), 10)
end Go.TVF
end

section
set_option linter.unusedVariables false
set_option linter.unusedSimpArgs false
namespace Go.TVF
open Go Go.Proofs
def simE (c : Nat) : Option UInt8 := if c = 34 then some 34 else if c = 92 then some 92 else if c = 47 then some 47 else if c = 98 then some 8 else if c = 102 then some 12 else if c = 110 then some 10 else if c = 114 then some 13 else if c = 116 then some 9 else none
/-- What follows an opening mark: what it stands for, and how many bytes. -/
def qF : Nat → Nat → List UInt8 → List UInt8 → Nat → Except Int (List UInt8 × Nat)
  | 0, _, _, _, _ => .error 4
  | f + 1, m, l, acc, n =>
    if l.length = 0 then .error 4
    else if bt l 0 = m then .ok (acc, n + 1)
    else if ul l = 0 ∨ bt l 0 < 32 then .error 5
    else if bt l 0 ≠ 92 ∨ m = 39 then qF f m (l.drop (ul l)) (acc ++ l.take (ul l)) (n + ul l)
    else if l.length ≤ 1 then .error 4
    else if bt l 1 = 117 then match escS (l.drop 2) with
      | .error e => .error e
      | .ok p => qF f m (l.drop (2 + p.2)) (acc ++ encU p.1) (n + (2 + p.2))
    else match simE (bt l 1) with
      | none => .error 3
      | some c => qF f m (l.drop 2) (acc ++ [c]) (n + 2)
end Go.TVF
end

section
set_option linter.unusedVariables false
set_option linter.unusedSimpArgs false
namespace Go.TVF
open Go Go.Proofs
theorem vlen_le' (l : List UInt8) : vlen l ≤ l.length := vlen_le _ l (Nat.le_refl _)
theorem vlen_nil : vlen [] = 0 := vlen_zero _ (by simp [ul])
theorem Rd.ldx {sz : Nat} {v : TV} {n : Nat} {xs : List TV} (h : Rd sz v n xs) (st : St) (i j : Nat) {x : TV} (hx : xs[i * sz + j]? = some x) : ldCell st [] (.t (ixT sz v i)) j = some x := by
  obtain ⟨hlt, hx⟩ := List.getElem?_eq_some_iff.1 hx
  rw [h.ld st i j hlt, hx]
theorem Rd.ldfx {sz : Nat} {v : TV} {n : Nat} {xs : List TV} (h : Rd sz v n xs) (st : St) (i j : Nat) {x : TV} (hx : xs[i * sz + j]? = some x) : ldCell st [] (.t (fldT (ixT sz v i) j)) 0 = some x := by
  obtain ⟨hlt, hx⟩ := List.getElem?_eq_some_iff.1 hx
  rw [h.ldf st i j hlt, hx]
theorem boundaries_ok {s : List UInt8} {st : St} {K : TV → Bool → St → Prop} (hl : s.length ≤ 2000000)
    (hk : ∀ v xs st', StExt st st' → Rd 1 v (xs.length + 1) (xs ++ [.int .i64 ((vlen s : Nat) : Int)]) → xs.length ≤ s.length → K v (decide (vlen s = s.length)) st') : CallT PR fn_datakitref03_Boundaries [.str s] [.one (.tv), .one (.bool)] st K := by
  have hv := vlen_le' s
  refine vc_datakitref03_Boundaries s st K ⟨fun v i s' st' => s = s' ∧ StExt st st' ∧ ∃ (k : Nat) (xs : List TV), i = (k : Int) ∧ k ≤ s.length ∧ k + vlen (s.drop k) = vlen s ∧ xs.length ≤ k ∧ Own st.nt 1 st' v (xs.length + 1) (xs ++ [.int .i64 (k : Int)]), fun _ i _ _ => (s.length - i).toNat, ⟨rfl, StExt.refl _, 0, [], rfl, by omega, by simp, by simp, Own.full _ _ _ _ _⟩, ?_⟩
  rintro v _ _ st1 ⟨rfl, e, k, xs, rfl, h1, h2, h3, h4⟩
  refine BIf_intro (fun g1 => ?_) fun g1 => ?_
  · have hle := ul_le (s.drop k)
    rw [List.length_drop] at hle
    refine rdecode_ok hl h1 ?_
    unfold rD
    by_cases h0 : ul (s.drop k) = 0
    · rw [if_pos h0]
      rw [vlen_zero _ h0] at h2
      refine BIf_intro (fun _ => ?_) fun h => absurd rfl h
      have := hk v xs st1 e (by rw [← h2]; exact h4.rd) (by omega)
      rw [decide_eq_false (by omega)] at this
      exact this
    · rw [if_neg h0]
      rw [vlen_step _ h0, List.drop_drop] at h2
      have w : IntKind.i64.wrap ((k : Int) + (ul (s.drop k) : Nat)) = ((k + ul (s.drop k) : Nat) : Int) := by rw [wrap64 _ (by omega) (by omega)]; omega
      refine BIf_intro (fun h => by simp only at h; omega) fun _ => ?_
      dsimp only
      rw [w]
      refine appK_own e rfl h4 (by omega) (fun h => by cases h) fun v' st' e' _ ho => ⟨⟨rfl, e', k + ul (s.drop k), xs ++ [.int .i64 (k : Int)], rfl, by omega, by omega, by rw [List.length_append]; simp; omega, ?_⟩, by omega⟩
      rw [List.length_append]; exact ho
  · rw [show s.drop k = [] from List.drop_of_length_le (by omega), vlen_nil] at h2
    have hks : k = vlen s := by omega
    have := hk v xs st1 e (by rw [← hks]; exact h4.rd) (by omega)
    rw [decide_eq_true (by omega)] at this
    exact this
theorem rbad_ok {s : List UInt8} {st : St} {K : Int → St → Prop} (hl : s.length ≤ 2000000) (hk : ∀ st', StExt st st' → K ((vlen s : Nat) : Int) st') : CallT PR fn_datakitref03_Bad [.str s] [.one (.int .i64)] st K := by
  refine vc_datakitref03_Bad s st K (boundaries_ok hl fun v xs st1 e hr hx => need_intro hr.isSl ?_)
  rw [hr.lenS, hr.lenZ]
  have w : IntKind.i64.wrap (((xs.length + 1 : Nat) : Int) - 1) = (xs.length : Nat) := by rw [wrap64 _ (by omega) (by omega)]; omega
  rw [w]
  refine ⟨⟨by omega, by omega⟩, optK_intro (hr.ldx st1 _ 0 (x := .int .i64 ((vlen s : Nat) : Int)) ?_) (hk st1 e)⟩
  rw [Int.toNat_natCast]; simp
theorem rvalid_ok {s : List UInt8} {st : St} {K : Bool → St → Prop} (hl : s.length ≤ 2000000) (hk : ∀ st', StExt st st' → K (decide (vlen s = s.length)) st') : CallT PR fn_datakitref03_Valid [.str s] [.one (.bool)] st K :=
  vc_datakitref03_Valid s st K (boundaries_ok hl fun v xs st1 e hr hx => hk st1 e)
end Go.TVF
end

section
set_option linter.unusedVariables false
set_option linter.unusedSimpArgs false
namespace Go.TVF
open Go Go.Proofs
def hexC (n : Nat) : UInt8 := str9.getD n 0
/-- A byte within quotes. -/
def escN (n : Nat) : List UInt8 := if n = 34 then [92, 34] else if n = 92 then [92, 92] else if n = 8 then [92, 98] else if n = 12 then [92, 102] else if n = 10 then [92, 110] else if n = 13 then [92, 114] else if n = 9 then [92, 116]
  else if n < 32 then [92, 117, 48, 48, hexC (n / 16), hexC (n % 16)] else [UInt8.ofNat n]
def escQ (s : List UInt8) : List UInt8 := s.flatMap fun c => escN c.toNat
def quo (s : List UInt8) : List UInt8 := 34 :: (escQ s ++ [34])
end Go.TVF
end

section
set_option linter.unusedVariables false
set_option linter.unusedSimpArgs false
namespace Go.TVF
open Go Go.Proofs Go.RowKit
theorem noEscape_ok {b : Nat} {st : St} {K : TV → St → Prop} (hk : K (.box b 0) st) : CallT PR fn_abi_NoEscape [.box b 0] [.one (.tv)] st K := by
  refine tcalls_value fun g w vargs s hr => ?_
  obtain ⟨v, rfl, hv⟩ := relL_one hr
  refine ⟨v, w, ?_, .box b 0, st, g, hk, s, hv, Ext.refl _ _⟩
  show (callFunc 138 #[v]).run Tryd.prog w = _
  rw [run_callFunc_extern Tryd.func138 (by kernel_rfl) (by kernel_rfl) (by kernel_rfl) (e := Extern.AbiNoEscape.same) (by kernel_rfl)]
  rfl
/-- A builder that the call has made (behind the state st0), and what it holds. -/
def Bld (st0 : St) (b : Nat) (st : St) (buf : List UInt8) : Prop :=
  StExt st0 st ∧ st0.nb ≤ b ∧ b < st.nb ∧ st.bt b = some 109 ∧ ∃ p v, st.box b = .cells [p, v] ∧ (p = .nilPtr ∨ p = .box b 0) ∧
    ((v = .nilSlice ∧ buf = []) ∨ ∃ id, v = .list 1 (.own id) buf.length (bytesT buf) ∧ buf ≠ [] ∧ st0.nt ≤ id ∧ id < st.nt ∧ st.live id = true ∧ st.ty id = some 5)
theorem Bld.new {st0 st : St} (e : StExt st0 st) : Bld st0 st.nb (st.push (.cells [.nilPtr, .nilSlice]) (some 109)) [] :=
  ⟨e.push _ _, e.nb, by simp [St.push], by simp [St.push], .nilPtr, .nilSlice, box_push _ _ _, .inl rfl, .inl ⟨rfl, rfl⟩⟩
theorem copyCheck_ok {st0 st : St} {b : Nat} {buf : List UInt8} {K : St → Prop} (h : Bld st0 b st buf) (hk : ∀ st', Bld st0 b st' buf → K st') : CallT PR fn_strings_Builder_copyCheck [.box b 0] [] st K := by
  have h0 := h
  obtain ⟨e, h1, h2, h3, p, v, hb, hp, hv⟩ := h
  refine vc_strings_Builder_copyCheck b st K (optK_intro (x := p) (by simp [ldCell, hb]) (need_intro (by rcases hp with rfl | rfl <;> rfl) ?_))
  rcases hp with rfl | rfl
  · refine (show BIf true _ _ from ⟨by simp [ldCell, hb], noEscape_ok ?_⟩)
    refine ⟨⟨rfl, h3, _, hb, rfl⟩, need_intro rfl ⟨_, hb, by simp, hk _ ?_⟩⟩
    exact ⟨e.put h1 _, h1, h2, h3, .box b 0, v, box_put _ _ _, .inr rfl, hv⟩
  · exact (show BIf false _ _ from optK_intro (x := .box b 0) (by simp [ldCell, hb]) ⟨rfl, hk st h0⟩)
theorem writeString_ok {st0 st : St} {b : Nat} {buf s : List UInt8} {K : Int → TV → St → Prop} (h : Bld st0 b st buf) (hl : buf.length + s.length ≤ 140737488355328) (hk : ∀ st', Bld st0 b st' (buf ++ s) → K (s.length : Int) .nilIface st') :
    CallT PR fn_strings_Builder_WriteString [.box b 0, .str s] [.one (.int .i64), .one (.tv)] st K := by
  refine vc_strings_Builder_WriteString b s st K (copyCheck_ok h fun st1 h1 => ?_)
  obtain ⟨e, a1, a2, a3, p, v, hb, hp, hv⟩ := h1
  refine optK_intro (x := v) (by simp [ldCell, hb]) (optK_intro (src_str st1 s) (need_intro (one_bytesT s) ?_))
  rcases hv with ⟨rfl, rfl⟩ | ⟨id, rfl, n1, n2, n3, n4, n5⟩
  · cases s with
    | nil =>
      simp only [appK, List.length_nil, bytesT, List.map_nil]
      exact need_intro rfl ⟨_, hb, by simp, hk _ ⟨e.put a1 _, a1, a2, a3, p, .nilSlice, box_put _ _ _, hp, .inl ⟨rfl, rfl⟩⟩⟩
    | cons c r =>
      simp only [appK, List.length_cons, Nat.mul_one]
      refine need_intro (by simp only [List.length_nil, List.length_cons] at hl; simp; omega) (need_intro rfl ⟨_, hb, by simp, hk _ ?_⟩)
      exact ⟨(e.fresh _).put a1 _, a1, a2, a3, p, _, box_put _ _ _, hp, .inr ⟨st1.nt, rfl, by simp, e.nt, by simp [St.put, St.fresh], by simp [St.put, St.fresh], by simp [St.put, St.fresh]⟩⟩
  · simp only [appK, Nat.beq_refl, Nat.mul_one]
    refine ⟨hl, n4, need_intro rfl ⟨_, hb, by simp, hk _ ?_⟩⟩
    refine ⟨((e.retire n2).fresh _).put a1 _, a1, a2, a3, p, _, box_put _ _ _, hp, .inr ⟨st1.nt, ?_, by simp [n1], e.nt, by simp [St.put, St.fresh, St.retire], by simp [St.put, St.fresh, St.retire], by simp [St.put, St.fresh, St.retire, n5, tyJoin]⟩⟩
    rw [List.length_append, ← bytesT_append]
theorem builderString_ok {st0 st : St} {b : Nat} {buf : List UInt8} {K : List UInt8 → St → Prop} (h : Bld st0 b st buf) (hl : buf.length ≤ 140737488355328) (hk : ∀ st', StExt st0 st' → K buf st') :
    CallT PR fn_strings_Builder_String [.box b 0] [.one (.str)] st K := by
  obtain ⟨e, h1, h2, h3, p, v, hb, hp, hv⟩ := h
  have hld : ldCell st [] (.t (.box b 1)) 0 = some v := by simp [ldCell, hb]
  rcases hv with ⟨rfl, rfl⟩ | ⟨id, rfl, n1, n2, n3, n4, n5⟩
  · refine vc_strings_Builder_String b st K (optK_intro hld (optK_intro (x := .nilPtr) rfl (optK_intro hld (need_intro rfl ?_))))
    exact ⟨rfl, hk st e⟩
  · refine vc_strings_Builder_String b st K (optK_intro hld (optK_intro (x := .sptr (.list 1 (.own id) buf.length (bytesT buf))) ?_ (optK_intro hld (need_intro rfl ?_))))
    case refine_2 => exact ⟨⟨rfl, by omega, n4, n5⟩, optK_intro (asBytes_bytesT buf) (hk _ (e.retire n2))⟩
    simp only [sdataO]
    cases hz : buf.length.beq 0 with
    | true => exact absurd (List.eq_nil_of_length_eq_zero (Nat.eq_of_beq_eq_true hz)) n1
    | false => rfl
end Go.TVF
end

section
set_option linter.unusedVariables false
set_option linter.unusedSimpArgs false
namespace Go.TVF
open Go Go.Proofs
theorem bt_take (l : List UInt8) (m j : Nat) : bt (l.take m) j = if j < m then bt l j else 0 := by
  unfold bt
  by_cases h : j < m
  · rw [if_pos h]; simp [List.getD, List.getElem?_take, h]
  · rw [if_neg h]; simp [List.getD, List.getElem?_take, h]
/-- A byte at which no character begins. -/
def contB (n : Nat) : Prop := 128 ≤ n ∧ n < 192
theorem ul_cont (l : List UInt8) (j : Nat) (h1 : 0 < j) (h2 : j < ul l) : contB (bt l j) := by
  have h : ul l ≠ 0 := by omega
  have hne : l ≠ [] := fun h0 => h (by simp [ul, h0])
  have hv := dN_val l h
  have h4 := (ul_char l h).2.2.2
  unfold dN Lib.decodeN at hv
  have hz := (ul_zero l hne).2
  unfold contB
  have hj : j = 1 ∨ j = 2 ∨ j = 3 := by omega
  repeat' split at hv
  all_goals simp only [Prod.mk.injEq] at hv
  all_goals first
    | omega
    | (rcases hj with rfl | rfl | rfl <;> omega)
    | (exfalso; have := ul_not l h; omega)
theorem racc_take (l : List UInt8) (m r0 : Nat) : ∀ j, j < m → racc (l.take m) r0 j = racc l r0 j
  | 0, _ => rfl
  | j + 1, h => by
    simp only [racc]
    rw [racc_take l m r0 j (by omega), bt_take, if_pos h]
theorem ul_take {l : List UInt8} {m : Nat} (h : ul l ≠ 0) (hm : ul l ≤ m) : ul (l.take m) = ul l ∧ ur (l.take m) = ur l := by
  have hne : l ≠ [] := fun h0 => h (by simp [ul, h0])
  have hle := ul_le l
  have hne2 : l.take m ≠ [] := by
    intro h0
    have := congrArg List.length h0
    rw [List.length_take] at this
    simp only [List.length_nil] at this
    have : 0 < l.length := List.length_pos_iff.2 hne
    omega
  have e1 := refU_eq l hne
  have e2 := refU_eq (l.take m) hne2
  rw [if_neg h] at e1
  have hs := rsz_le (bt l 0)
  unfold refU at e1
  simp only at e1
  by_cases g1 : l.length < rsz (bt l 0)
  · rw [if_pos g1] at e1
    simp only [Prod.mk.injEq] at e1; omega
  rw [if_neg g1] at e1
  split at e1
  · rename_i hc
    simp only [Prod.mk.injEq] at e1
    unfold refU at e2
    simp only at e2
    rw [bt_take, if_pos (show 0 < m by omega), racc_take _ _ _ _ (by omega), if_neg (by rw [List.length_take]; omega), List.take_take, Nat.min_eq_left (by omega), if_pos hc] at e2
    split at e2
    · simp only [Prod.mk.injEq] at e2; omega
    · simp only [Prod.mk.injEq] at e2; omega
  · simp only [Prod.mk.injEq] at e1; omega
/-- A place between two characters, or the end. -/
def Bd (s : List UInt8) (k : Nat) : Prop := k ≤ s.length ∧ (k = s.length ∨ ¬ contB (bt s k))
theorem Bd.char {s : List UInt8} {k j : Nat} (h : Bd s k) (hj : j < k) : j + ul (s.drop j) ≤ k := by
  apply Decidable.byContradiction
  intro hn
  have hle := ul_le (s.drop j)
  rw [List.length_drop] at hle
  have := ul_cont (s.drop j) (k - j) (by omega) (by omega)
  rw [bt_drop, show j + (k - j) = k by omega] at this
  rcases h.2 with h | h
  · have := h; omega
  · exact h this
theorem drop_take' (s : List UInt8) (j k : Nat) : (s.take k).drop j = (s.drop j).take (k - j) := List.drop_take ..
theorem Bd.ul {s : List UInt8} {k j : Nat} (h : Bd s k) (hj : j < k) (h0 : ul (s.drop j) ≠ 0) : TVF.ul ((s.take k).drop j) = TVF.ul (s.drop j) ∧ TVF.ur ((s.take k).drop j) = TVF.ur (s.drop j) := by
  have := h.char hj
  rw [drop_take']
  exact ul_take h0 (by omega)
end Go.TVF
end

section
set_option linter.unusedVariables false
set_option linter.unusedSimpArgs false
namespace Go.TVF
open Go Go.Proofs
/-- What a first byte announces: the size (0: none), and its bits. -/
def hdS (b : Nat) : Nat := if b < 128 then 1 else if 192 ≤ b ∧ b < 224 then 2 else if 224 ≤ b ∧ b < 240 then 3 else if 240 ≤ b ∧ b < 248 then 4 else 0
def hdB (b : Nat) : Nat := if b < 128 then b else if 192 ≤ b ∧ b < 224 then b % 32 else if 224 ≤ b ∧ b < 240 then b % 16 else if 240 ≤ b ∧ b < 248 then b % 8 else 0
def wid (r : Nat) : Nat := if r < 128 then 1 else if r < 2048 then 2 else if r < 65536 then 3 else 4
theorem and_mask8 (a m : Nat) (ha : a < 256) (hm : m ≤ 8) : bitsI .and .u8 (a : Int) ((2 ^ m - 1 : Nat) : Int) = ((a % 2 ^ m : Nat) : Int) := by
  have : 2 ^ m ≤ 2 ^ 8 := Nat.pow_le_pow_right (by decide) hm
  rw [and_u8 _ _ ha (by omega), Nat.and_two_pow_sub_one_eq_mod]
theorem head_ok {B : Int} {b : Nat} {st : St} {K : Int → Int → St → Prop} (hB : B = (b : Int)) (hb : b < 256) (hk : K (hdS b : Nat) (hdB b : Nat) st) : CallT PR fn_utf_head [.int .u8 B] [.one (.int .i64), .one (.int .i64)] st K := by
  have m31 : bitsI .and .u8 B (31 : Int) = ((b % 32 : Nat) : Int) := by rw [hB]; exact and_mask8 b 5 hb (by decide)
  have m15 : bitsI .and .u8 B (15 : Int) = ((b % 16 : Nat) : Int) := by rw [hB]; exact and_mask8 b 4 hb (by decide)
  have m7 : bitsI .and .u8 B (7 : Int) = ((b % 8 : Nat) : Int) := by rw [hB]; exact and_mask8 b 3 hb (by decide)
  unfold hdS hdB at hk
  have kk : ∀ (x y x' y' : Int), x = x' → y = y' → K x' y' st → K x y st := fun x y x' y' h1 h2 hk => by rw [h1, h2]; exact hk
  refine vc_utf_head B st K ?_
  rw [m31, m15, m7, wrap64 B (by omega) (by omega), wrap64 ((b % 32 : Nat) : Int) (by omega) (by omega), wrap64 ((b % 16 : Nat) : Int) (by omega) (by omega), wrap64 ((b % 8 : Nat) : Int) (by omega) (by omega)]
  by_cases g1 : b < 128
  · rw [if_pos g1, if_pos g1] at hk
    exact BIf_intro (fun _ => kk _ _ _ _ rfl hB hk) fun h => by omega
  rw [if_neg g1, if_neg g1] at hk
  refine BIf_intro (fun h => by omega) fun _ => ?_
  by_cases g2 : 192 ≤ b ∧ b < 224
  · rw [if_pos g2, if_pos g2] at hk
    exact BIf_intro (fun _ => BIf_intro (fun _ => hk) fun h => by omega) fun h => by omega
  rw [if_neg g2, if_neg g2] at hk
  by_cases g3 : 224 ≤ b ∧ b < 240
  · rw [if_pos g3, if_pos g3] at hk
    refine BIf_intro (fun _ => BIf_intro (fun h => by omega) fun _ => ?_) fun h => by omega
    exact BIf_intro (fun _ => BIf_intro (fun _ => hk) fun h => by omega) fun h => by omega
  rw [if_neg g3, if_neg g3] at hk
  by_cases g4 : 240 ≤ b ∧ b < 248
  · rw [if_pos g4, if_pos g4] at hk
    refine BIf_intro (fun _ => BIf_intro (fun h => by omega) fun _ => ?_) fun h => by omega
    refine BIf_intro (fun _ => BIf_intro (fun h => by omega) fun _ => ?_) fun h => by omega
    exact BIf_intro (fun _ => BIf_intro (fun _ => hk) fun h => by omega) fun h => by omega
  rw [if_neg g4, if_neg g4] at hk
  repeat' first
    | exact hk
    | omega
    | refine BIf_intro (fun _ => ?_) fun _ => ?_
theorem scalar_ok {R : Int} {r : Nat} {st : St} {K : Bool → St → Prop} (hR : R = (r : Int)) (hk : K (decide (isChar r)) st) : CallT PR fn_utf_scalar [.int .i64 R] [.one (.bool)] st K := by
  unfold isChar at hk
  refine vc_utf_scalar R st K (BIf_intro (fun _ => BIf_intro (fun h2 => BIf_intro (fun h3 => ?_) fun h3 => ?_) fun h2 => ?_) fun h1 => by omega)
  · exact K_eq (decide_eq_true (by omega)).symm hk
  · exact K_eq (decide_eq_decide.2 (by omega)) hk
  · exact K_eq (decide_eq_false (by omega)).symm hk
theorem width_ok {R : Int} {r : Nat} {st : St} {K : Int → St → Prop} (hR : R = (r : Int)) (hk : K (wid r : Nat) st) : CallT PR fn_utf_width [.int .i64 R] [.one (.int .i64)] st K := by
  unfold wid at hk
  refine vc_utf_width R st K (BIf_intro (fun h1 => ?_) fun h1 => BIf_intro (fun h2 => ?_) fun h2 => BIf_intro (fun h3 => ?_) fun h3 => ?_)
  · rw [if_pos (by omega)] at hk; exact hk
  · rw [if_neg (by omega), if_pos (by omega)] at hk; exact hk
  · rw [if_neg (by omega), if_neg (by omega), if_pos (by omega)] at hk; exact hk
  · rw [if_neg (by omega), if_neg (by omega), if_neg (by omega)] at hk; exact hk
/-- The program's test of a character, as arithmetic. -/
def pdOk (l : List UInt8) : Prop := hdS (bt l 0) ≠ 0 ∧ hdS (bt l 0) ≤ l.length ∧ (∀ j, 1 ≤ j → j < hdS (bt l 0) → bt l j / 64 = 2) ∧ isChar (racc l (hdB (bt l 0)) (hdS (bt l 0) - 1)) ∧ wid (racc l (hdB (bt l 0)) (hdS (bt l 0) - 1)) = hdS (bt l 0)
theorem pd_val (l : List UInt8) (h : l ≠ []) (hp : pdOk l) : ul l = hdS (bt l 0) ∧ ur l = racc l (hdB (bt l 0)) (hdS (bt l 0) - 1) := by
  obtain ⟨p1, p2, p3, p4, p5⟩ := hp
  have e := refU_eq l h
  have h0 := bt_lt l 0
  have e0 : (l.getD 0 0).toNat = bt l 0 := rfl
  have e1 : (l.getD 1 0).toNat = bt l 1 := rfl
  have e2 : (l.getD 2 0).toNat = bt l 2 := rfl
  have e3 : (l.getD 3 0).toNat = bt l 3 := rfl
  have fin : ∀ n r, rsz (bt l 0) = n → rb0 (bt l 0) = r → n = hdS (bt l 0) → r = hdB (bt l 0) → encU (racc l r (n - 1)) = l.take n → ul l = hdS (bt l 0) ∧ ur l = racc l (hdB (bt l 0)) (hdS (bt l 0) - 1) := by
    intro n r hn hr hn2 hr2 henc
    unfold refU at e
    simp only [hn, hr] at e
    rw [if_neg (by omega), if_pos ⟨by rw [hr2, hn2]; exact p4, henc⟩] at e
    by_cases hz : ul l = 0
    · rw [if_pos hz] at e; simp only [Prod.mk.injEq] at e; omega
    · rw [if_neg hz] at e; simp only [Prod.mk.injEq] at e
      exact ⟨by omega, by rw [← hr2, ← hn2]; exact e.1.symm⟩
  have h1 := bt_lt l 1
  have h2 := bt_lt l 2
  have h3 := bt_lt l 3
  by_cases g1 : bt l 0 < 128
  · have hs : hdS (bt l 0) = 1 := by unfold hdS; rw [if_pos g1]
    have hb : hdB (bt l 0) = bt l 0 := by unfold hdB; rw [if_pos g1]
    refine fin 1 (bt l 0) (by unfold rsz; rw [if_neg (by omega), if_neg (by omega), if_neg (by omega)]) (by unfold rb0; rw [if_neg (by omega), if_neg (by omega), if_neg (by omega)]) hs.symm hb.symm ?_
    rw [take_one l (by omega)]
    simp only [Nat.sub_self, racc]
    unfold encU
    rw [if_pos g1]
    simp only [cons_eq2, ofNat_eq, e0, and_true]
    omega
  by_cases g2 : 192 ≤ bt l 0 ∧ bt l 0 < 224
  · have hs : hdS (bt l 0) = 2 := by unfold hdS; rw [if_neg g1, if_pos g2]
    have hb : hdB (bt l 0) = bt l 0 % 32 := by unfold hdB; rw [if_neg g1, if_pos g2]
    rw [hs] at p3 p5
    rw [hb] at p5
    have q1 := p3 1 (by omega) (by omega)
    refine fin 2 (bt l 0 % 32) (by unfold rsz; rw [if_neg (by omega), if_neg (by omega), if_pos (by omega)]) (by unfold rb0; rw [if_neg (by omega), if_neg (by omega), if_pos (by omega)]) hs.symm hb.symm ?_
    rw [take_two l (by omega)]
    simp only [Nat.reduceSub, racc, Nat.zero_add] at p5 ⊢
    generalize bt l 0 = b0 at *
    generalize bt l 1 = b1 at *
    unfold wid at p5
    unfold encU
    by_cases k1 : b0 % 32 * 64 + b1 % 64 < 128
    · rw [if_pos k1] at p5; omega
    rw [if_neg k1] at p5 ⊢
    by_cases k2 : b0 % 32 * 64 + b1 % 64 < 2048
    · rw [if_pos k2]
      simp only [cons_eq2, ofNat_eq, e0, e1, and_true]
      omega
    · rw [if_neg k2] at p5; split at p5 <;> omega
  by_cases g3 : 224 ≤ bt l 0 ∧ bt l 0 < 240
  · have hs : hdS (bt l 0) = 3 := by unfold hdS; rw [if_neg g1, if_neg g2, if_pos g3]
    have hb : hdB (bt l 0) = bt l 0 % 16 := by unfold hdB; rw [if_neg g1, if_neg g2, if_pos g3]
    rw [hs] at p3 p5
    rw [hb] at p5
    have q1 := p3 1 (by omega) (by omega)
    have q2 := p3 2 (by omega) (by omega)
    refine fin 3 (bt l 0 % 16) (by unfold rsz; rw [if_neg (by omega), if_pos (by omega)]) (by unfold rb0; rw [if_neg (by omega), if_pos (by omega)]) hs.symm hb.symm ?_
    rw [take_three l (by omega)]
    simp only [Nat.reduceSub, racc, Nat.zero_add, Nat.reduceAdd] at p5 ⊢
    generalize bt l 0 = b0 at *
    generalize bt l 1 = b1 at *
    generalize bt l 2 = b2 at *
    generalize hr : (b0 % 16 * 64 + b1 % 64) * 64 + b2 % 64 = r at *
    unfold wid at p5
    unfold encU
    by_cases k1 : r < 128
    · rw [if_pos k1] at p5; omega
    rw [if_neg k1] at p5 ⊢
    by_cases k2 : r < 2048
    · rw [if_pos k2] at p5; omega
    rw [if_neg k2] at p5 ⊢
    by_cases k3 : r < 65536
    · rw [if_pos k3]
      simp only [cons_eq2, ofNat_eq, e0, e1, e2, and_true]
      omega
    · rw [if_neg k3] at p5; omega
  by_cases g4 : 240 ≤ bt l 0 ∧ bt l 0 < 248
  · have hs : hdS (bt l 0) = 4 := by unfold hdS; rw [if_neg g1, if_neg g2, if_neg g3, if_pos g4]
    have hb : hdB (bt l 0) = bt l 0 % 8 := by unfold hdB; rw [if_neg g1, if_neg g2, if_neg g3, if_pos g4]
    rw [hs] at p3 p4 p5
    rw [hb] at p4 p5
    have q1 := p3 1 (by omega) (by omega)
    have q2 := p3 2 (by omega) (by omega)
    have q3 := p3 3 (by omega) (by omega)
    refine fin 4 (bt l 0 % 8) (by unfold rsz; rw [if_pos (by omega)]) (by unfold rb0; rw [if_pos (by omega)]) hs.symm hb.symm ?_
    rw [take_four l (by omega)]
    simp only [Nat.reduceSub, racc, Nat.zero_add, Nat.reduceAdd] at p4 p5 ⊢
    generalize bt l 0 = b0 at *
    generalize bt l 1 = b1 at *
    generalize bt l 2 = b2 at *
    generalize bt l 3 = b3 at *
    generalize hr : ((b0 % 8 * 64 + b1 % 64) * 64 + b2 % 64) * 64 + b3 % 64 = r at *
    unfold wid at p5
    unfold encU
    by_cases k1 : r < 128
    · rw [if_pos k1] at p5; omega
    rw [if_neg k1] at p5 ⊢
    by_cases k2 : r < 2048
    · rw [if_pos k2] at p5; omega
    rw [if_neg k2] at p5 ⊢
    by_cases k3 : r < 65536
    · rw [if_pos k3] at p5; omega
    rw [if_neg k3]
    have := p4.1
    simp only [cons_eq2, ofNat_eq, e0, e1, e2, e3, and_true]
    omega
  · exfalso
    unfold hdS at p1
    rw [if_neg g1, if_neg g2, if_neg g3, if_neg g4] at p1
    exact p1 rfl
theorem pd_iff (l : List UInt8) (h : l ≠ []) : ul l ≠ 0 → pdOk l := by
  intro hu
  have e := refU_eq l h
  rw [if_neg hu] at e
  have h0 := bt_lt l 0
  have e0 : (l.getD 0 0).toNat = bt l 0 := rfl
  have e1 : (l.getD 1 0).toNat = bt l 1 := rfl
  have e2 : (l.getD 2 0).toNat = bt l 2 := rfl
  have e3 : (l.getD 3 0).toNat = bt l 3 := rfl
  have h1 := bt_lt l 1
  have h2 := bt_lt l 2
  have h3 := bt_lt l 3
  have hc : ¬ l.length < rsz (bt l 0) ∧ isChar (racc l (rb0 (bt l 0)) (rsz (bt l 0) - 1)) ∧ encU (racc l (rb0 (bt l 0)) (rsz (bt l 0) - 1)) = l.take (rsz (bt l 0)) := by
    unfold refU at e
    simp only at e
    split at e
    · simp only [Prod.mk.injEq] at e; omega
    · split at e
      · rename_i a b; exact ⟨a, b⟩
      · simp only [Prod.mk.injEq] at e; omega
  obtain ⟨hl, hch, henc⟩ := hc
  by_cases g4 : 240 ≤ bt l 0
  · have r4 : rsz (bt l 0) = 4 := by unfold rsz; rw [if_pos g4]
    have rb : rb0 (bt l 0) = bt l 0 % 8 := by unfold rb0; rw [if_pos g4]
    rw [r4, rb] at henc hch
    rw [r4] at hl
    rw [take_four l (by omega)] at henc
    unfold pdOk hdS hdB
    simp only [Nat.reduceSub, racc, Nat.zero_add, Nat.reduceAdd] at henc hch
    generalize hb0 : bt l 0 = b0 at *
    generalize hb1 : bt l 1 = b1 at *
    generalize hb2 : bt l 2 = b2 at *
    generalize hb3 : bt l 3 = b3 at *
    have hr0 : ∃ r, r = ((b0 % 8 * 64 + b1 % 64) * 64 + b2 % 64) * 64 + b3 % 64 := ⟨_, rfl⟩
    obtain ⟨r, hr⟩ := hr0
    rw [← hr] at henc hch
    have hmax := hch.1
    unfold encU at henc
    have hw : wid r = 4 ∧ b0 = 240 + r / 262144 ∧ b1 / 64 = 2 ∧ b2 / 64 = 2 ∧ b3 / 64 = 2 := by
      unfold wid
      split at henc
      · simp at henc
      · split at henc
        · simp at henc
        · split at henc
          · simp at henc
          · simp only [cons_eq2, ofNat_eq, e0, e1, e2, e3, and_true] at henc
            refine ⟨by rw [if_neg ‹_›, if_neg ‹_›, if_neg ‹_›], by omega, by omega, by omega, by omega⟩
    rw [if_neg (show ¬ b0 < 128 by omega), if_neg (show ¬ (192 ≤ b0 ∧ b0 < 224) by omega), if_neg (show ¬ (224 ≤ b0 ∧ b0 < 240) by omega), if_pos (show 240 ≤ b0 ∧ b0 < 248 by omega), if_neg (show ¬ b0 < 128 by omega), if_neg (show ¬ (192 ≤ b0 ∧ b0 < 224) by omega), if_neg (show ¬ (224 ≤ b0 ∧ b0 < 240) by omega), if_pos (show 240 ≤ b0 ∧ b0 < 248 by omega)]
    simp only [Nat.reduceSub, racc, Nat.zero_add, Nat.reduceAdd, hb1, hb2, hb3]
    rw [← hr]
    refine ⟨by omega, by omega, fun j j1 j2 => ?_, hch, hw.1⟩
    have : j = 1 ∨ j = 2 ∨ j = 3 := by omega
    rcases this with rfl | rfl | rfl <;> omega
  by_cases g3 : 224 ≤ bt l 0
  · have r4 : rsz (bt l 0) = 3 := by unfold rsz; rw [if_neg g4, if_pos g3]
    have rb : rb0 (bt l 0) = bt l 0 % 16 := by unfold rb0; rw [if_neg g4, if_pos g3]
    rw [r4, rb] at henc hch
    rw [r4] at hl
    rw [take_three l (by omega)] at henc
    unfold pdOk hdS hdB
    simp only [Nat.reduceSub, racc, Nat.zero_add, Nat.reduceAdd] at henc hch
    generalize hb0 : bt l 0 = b0 at *
    generalize hb1 : bt l 1 = b1 at *
    generalize hb2 : bt l 2 = b2 at *
    have hr0 : ∃ r, r = (b0 % 16 * 64 + b1 % 64) * 64 + b2 % 64 := ⟨_, rfl⟩
    obtain ⟨r, hr⟩ := hr0
    rw [← hr] at henc hch
    unfold encU at henc
    have hw : wid r = 3 ∧ b1 / 64 = 2 ∧ b2 / 64 = 2 := by
      unfold wid
      split at henc
      · simp at henc
      · split at henc
        · simp at henc
        · split at henc
          · simp only [cons_eq2, ofNat_eq, e0, e1, e2, and_true] at henc
            refine ⟨by rw [if_neg ‹_›, if_neg ‹_›, if_pos ‹_›], by omega, by omega⟩
          · simp at henc
    rw [if_neg (show ¬ b0 < 128 by omega), if_neg (show ¬ (192 ≤ b0 ∧ b0 < 224) by omega), if_pos (show 224 ≤ b0 ∧ b0 < 240 by omega), if_neg (show ¬ b0 < 128 by omega), if_neg (show ¬ (192 ≤ b0 ∧ b0 < 224) by omega), if_pos (show 224 ≤ b0 ∧ b0 < 240 by omega)]
    simp only [Nat.reduceSub, racc, Nat.zero_add, Nat.reduceAdd, hb1, hb2]
    rw [← hr]
    refine ⟨by omega, by omega, fun j j1 j2 => ?_, hch, hw.1⟩
    have : j = 1 ∨ j = 2 := by omega
    rcases this with rfl | rfl <;> omega
  by_cases g2 : 192 ≤ bt l 0
  · have r4 : rsz (bt l 0) = 2 := by unfold rsz; rw [if_neg g4, if_neg g3, if_pos g2]
    have rb : rb0 (bt l 0) = bt l 0 % 32 := by unfold rb0; rw [if_neg g4, if_neg g3, if_pos g2]
    rw [r4, rb] at henc hch
    rw [r4] at hl
    rw [take_two l (by omega)] at henc
    unfold pdOk hdS hdB
    simp only [Nat.reduceSub, racc, Nat.zero_add, Nat.reduceAdd] at henc hch
    generalize hb0 : bt l 0 = b0 at *
    generalize hb1 : bt l 1 = b1 at *
    have hr0 : ∃ r, r = b0 % 32 * 64 + b1 % 64 := ⟨_, rfl⟩
    obtain ⟨r, hr⟩ := hr0
    rw [← hr] at henc hch
    unfold encU at henc
    have hw : wid r = 2 ∧ b1 / 64 = 2 := by
      unfold wid
      split at henc
      · simp at henc
      · split at henc
        · simp only [cons_eq2, ofNat_eq, e0, e1, and_true] at henc
          refine ⟨by rw [if_neg ‹_›, if_pos ‹_›], by omega⟩
        · split at henc <;> simp at henc
    rw [if_neg (show ¬ b0 < 128 by omega), if_pos (show 192 ≤ b0 ∧ b0 < 224 by omega), if_neg (show ¬ b0 < 128 by omega), if_pos (show 192 ≤ b0 ∧ b0 < 224 by omega)]
    simp only [Nat.reduceSub, racc, Nat.zero_add, hb1]
    rw [← hr]
    refine ⟨by omega, by omega, fun j j1 j2 => ?_, hch, hw.1⟩
    have : j = 1 := by omega
    subst this; omega
  · have r4 : rsz (bt l 0) = 1 := by unfold rsz; rw [if_neg g4, if_neg g3, if_neg g2]
    have rb : rb0 (bt l 0) = bt l 0 := by unfold rb0; rw [if_neg g4, if_neg g3, if_neg g2]
    rw [r4, rb] at henc hch
    rw [r4] at hl
    rw [take_one l (by omega)] at henc
    unfold pdOk hdS hdB
    simp only [Nat.sub_self, racc] at henc hch
    generalize hb0 : bt l 0 = b0 at *
    have hlt : b0 < 128 := by
      unfold encU at henc
      split at henc
      · assumption
      · split at henc
        · simp at henc
        · split at henc <;> simp at henc
    rw [if_pos hlt, if_pos hlt]
    simp only [Nat.sub_self, racc]
    refine ⟨by omega, by omega, fun j j1 j2 => by omega, hch, by unfold wid; rw [if_pos hlt]⟩
theorem uDecode_ok {s : List UInt8} {I : Int} {i : Nat} {st : St} {K : Int → Int → St → Prop} (hI : I = (i : Int)) (hl : s.length ≤ 2000000) (hi : i ≤ s.length) (hk : K ((rD (s.drop i)).1 : Nat) ((rD (s.drop i)).2 : Nat) st) :
    CallT PR fn_utf_Decode [.str s, .int .i64 I] [.one (.int .i64), .one (.int .i64)] st K := by
  have no : ¬ pdOk (s.drop i) → s.drop i ≠ [] → K 0 0 st := fun h hne => by
    have : ul (s.drop i) = 0 := Decidable.byContradiction fun h0 => h (pd_iff _ hne h0)
    unfold rD at hk
    rw [if_pos this] at hk; exact hk
  have yes : pdOk (s.drop i) → s.drop i ≠ [] → K (racc (s.drop i) (hdB (bt (s.drop i) 0)) (hdS (bt (s.drop i) 0) - 1) : Nat) (hdS (bt (s.drop i) 0) : Nat) st := fun h hne => by
    have hv := pd_val _ hne h
    unfold rD at hk
    rw [if_neg (by rw [hv.1]; exact h.1), hv.1, hv.2] at hk
    exact hk
  have hlen : (s.drop i).length = s.length - i := by simp
  have hb : ∀ j, bt (s.drop i) j = (s.getD (i + j) 0).toNat := bt_drop s i
  refine vc_utf_Decode s I st K (BIf_intro (fun h => by omega) fun _ => BIf_intro (fun h => ?_) fun h => ⟨⟨by omega, by omega⟩, ?_⟩)
  · have : s.drop i = [] := List.drop_of_length_le (by omega)
    have h0 : rD (s.drop i) = (0, 0) := by rw [this]; simp [rD, ul]
    rw [h0] at hk; exact hk
  have hne : s.drop i ≠ [] := by
    intro h0
    have := congrArg List.length h0
    rw [hlen] at this; simp only [List.length_nil] at this; omega
  have hb0 : (List.getD s (Int.toNat I) 0).toNat = bt (s.drop i) 0 := by rw [hb, hI]; rfl
  have hlt := bt_lt (s.drop i) 0
  rw [hb0]
  refine head_ok rfl hlt ?_
  have hsz : hdS (bt (s.drop i) 0) ≤ 4 := by unfold hdS; repeat' split
                                             all_goals omega
  have hbz : hdB (bt (s.drop i) 0) < 256 := by unfold hdB; repeat' split
                                               all_goals omega
  unfold pdOk at no yes
  generalize hdS (bt (s.drop i) 0) = n at *
  generalize hdB (bt (s.drop i) 0) = r0 at *
  rw [wrap64 _ (by omega) (by omega)]
  refine BIf_intro (fun g => no (fun hh => hh.1 (by omega)) hne) fun g1 => BIf_intro (fun g => no (fun hh => by omega) hne) fun g2 => ?_
  have hra := racc_lt (s.drop i) r0 hbz
  refine ⟨fun r j s' at' sz st2 => s = s' ∧ I = at' ∧ st = st2 ∧ ((n : Nat) : Int) = sz ∧ ∃ k : Nat, j = ((k + 1 : Nat) : Int) ∧ k + 1 ≤ n ∧ r = ((racc (s.drop i) r0 k : Nat) : Int) ∧ ∀ m, 1 ≤ m → m ≤ k → bt (s.drop i) m / 64 = 2, fun _ j _ _ sz _ => (sz - j).toNat, ⟨rfl, rfl, rfl, rfl, 0, rfl, by omega, rfl, fun m h1 h2 => by omega⟩, ?_⟩
  rintro _ _ _ _ _ _ ⟨rfl, rfl, rfl, rfl, k, rfl, hk1, rfl, hall⟩
  have hrk := hra k
  have h64 : 64 ^ k ≤ 64 ^ 3 := Nat.pow_le_pow_right (by decide) (by omega)
  refine BIf_intro (fun h2 => ?_) fun h2 => ?_
  · rw [wrap64 (I + ((k + 1 : Nat) : Int)) (by omega) (by omega)]
    have hbk : (List.getD s (Int.toNat (I + ((k + 1 : Nat) : Int))) 0).toNat = bt (s.drop i) (k + 1) := by
      rw [hb, show Int.toNat (I + ((k + 1 : Nat) : Int)) = i + (k + 1) by omega]
    have hbl := bt_lt (s.drop i) (k + 1)
    have h192 : bitsI .and .u8 ((bt (s.drop i) (k + 1) : Nat) : Int) (192 : Int) = ((bt (s.drop i) (k + 1) &&& 192 : Nat) : Int) := and_u8 _ 192 hbl (by decide)
    have hand : IntKind.i64.wrap (bitsI .and .u8 ((bt (s.drop i) (k + 1) : Nat) : Int) (63 : Int)) = ((bt (s.drop i) (k + 1) % 64 : Nat) : Int) := by
      rw [show (63 : Int) = ((2 ^ 6 - 1 : Nat) : Int) by decide, and_mask8 _ 6 hbl (by decide), wrap64 _ (by omega) (by omega)]
    have hmul : IntKind.i64.wrap (((racc (s.drop i) r0 k : Nat) : Int) * 2 ^ (min (Int.toNat (6 : Int)) (IntKind.bits .i64))) = ((racc (s.drop i) r0 k * 2 ^ 6 : Nat) : Int) := by
      rw [show (2 : Int) ^ (min (Int.toNat (6 : Int)) (IntKind.bits .i64)) = 64 by decide, wrap64 _ (by omega) (by omega)]; omega
    have hc : (bt (s.drop i) (k + 1) &&& 192) = 128 ↔ bt (s.drop i) (k + 1) / 64 = 2 := by
      have : ∀ x, x < 256 → ((x &&& 192) = 128 ↔ x / 64 = 2) := by decide +kernel
      exact this _ hbl
    refine ⟨⟨by omega, by omega⟩, ?_⟩
    rw [hbk, h192, hand, hmul, or_add _ _ 6 (by omega) (by omega), wrap64 _ (by omega) (by omega)]
    refine BIf_intro (fun h3 => no (fun hh => h3 ?_) hne) fun h3 => ?_
    · have := hh.2.2.1 (k + 1) (by omega) (by omega)
      rw [hc.2 this]; rfl
    · have h4 : bt (s.drop i) (k + 1) / 64 = 2 := hc.1 (by omega)
      refine ⟨⟨rfl, rfl, rfl, rfl, k + 1, by omega, by omega, by simp only [racc], fun m m1 m2 => ?_⟩, by dsimp only; omega⟩
      by_cases hm : m = k + 1
      · rw [hm]; exact h4
      · exact hall m m1 (by omega)
  · have hks : k = n - 1 := by omega
    subst hks
    refine scalar_ok rfl (BIf_bool (fun h3 => no (fun hh => ?_) hne) fun h3 => width_ok rfl (BIf_intro (fun h4 => no (fun hh => ?_) hne) fun h4 => ?_))
    · simp only [Bool.not_eq_true', decide_eq_false_iff_not] at h3
      exact h3 hh.2.2.2.1
    · rw [hh.2.2.2.2] at h4; exact h4 rfl
    · simp only [Bool.not_eq_false', decide_eq_true_eq] at h3
      exact yes ⟨by omega, by omega, fun m m1 m2 => hall m m1 (by omega), h3, by omega⟩ hne
theorem uLen_ok {s : List UInt8} {st : St} {K : Int → Int → St → Prop} (hl : s.length ≤ 2000000) (hk : ∀ n : Int, K n (if vlen s = s.length then 0 else 5) st) : CallT PR fn_utf_Len [.str s] [.one (.int .i64), .one (.int .i64)] st K := by
  have hv := vlen_le' s
  refine vc_utf_Len s st K ⟨fun n i s' st' => s = s' ∧ st = st' ∧ ∃ k : Nat, i = (k : Int) ∧ k ≤ s.length ∧ k + vlen (s.drop k) = vlen s, fun _ i _ _ => (s.length - i).toNat, ⟨rfl, rfl, 0, rfl, by omega, by simp⟩, ?_⟩
  rintro n _ _ _ ⟨rfl, rfl, k, rfl, h1, h2⟩
  refine BIf_intro (fun g1 => uDecode_ok rfl hl h1 ?_) fun g1 => ?_
  · have hle := ul_le (s.drop k)
    rw [List.length_drop] at hle
    unfold rD
    by_cases h0 : ul (s.drop k) = 0
    · rw [if_pos h0]
      rw [vlen_zero _ h0] at h2
      have := hk 0
      rw [if_neg (by omega)] at this
      exact BIf_intro (fun _ => this) fun h => absurd rfl h
    · rw [if_neg h0]
      rw [vlen_step _ h0, List.drop_drop] at h2
      refine BIf_intro (fun h => absurd h (by show ¬ ((ul (s.drop k) : Nat) : Int) = 0; omega)) fun _ => ?_
      have w : IntKind.i64.wrap ((k : Int) + (ul (s.drop k) : Nat)) = ((k + ul (s.drop k) : Nat) : Int) := by rw [wrap64 _ (by omega) (by omega)]; omega
      dsimp only
      rw [w]
      exact ⟨⟨rfl, rfl, _, rfl, by omega, by omega⟩, by omega⟩
  · rw [show s.drop k = [] from List.drop_of_length_le (by omega), vlen_nil] at h2
    have := hk n
    rw [if_pos (by omega)] at this
    exact this
theorem uValid_ok {s : List UInt8} {st : St} {K : Bool → St → Prop} (hl : s.length ≤ 2000000) (hk : K (decide (vlen s = s.length)) st) : CallT PR fn_utf_Valid [.str s] [.one (.bool)] st K := by
  refine vc_utf_Valid s st K (uLen_ok hl fun n => ?_)
  by_cases h : vlen s = s.length
  · rw [if_pos h]; rw [decide_eq_true h] at hk; exact hk
  · rw [if_neg h]; rw [decide_eq_false h] at hk; exact hk
theorem invalid_ok {s : List UInt8} {st : St} {K : Int → St → Prop} (hl : s.length ≤ 2000000) (hk : K (if vlen s = s.length then -1 else ((vlen s : Nat) : Int)) st) : CallT PR fn_delim_invalid [.str s] [.one (.int .i64)] st K := by
  have hv := vlen_le' s
  refine vc_delim_invalid s st K ⟨fun i s' st' => s = s' ∧ st = st' ∧ ∃ k : Nat, i = (k : Int) ∧ k ≤ s.length ∧ k + vlen (s.drop k) = vlen s, fun i _ _ => (s.length - i).toNat, ⟨rfl, rfl, 0, rfl, by omega, by simp⟩, ?_⟩
  rintro _ _ _ ⟨rfl, rfl, k, rfl, h1, h2⟩
  refine BIf_intro (fun g1 => uDecode_ok rfl hl h1 ?_) fun g1 => ?_
  · have hle := ul_le (s.drop k)
    rw [List.length_drop] at hle
    unfold rD
    by_cases h0 : ul (s.drop k) = 0
    · rw [if_pos h0]
      rw [vlen_zero _ h0] at h2
      rw [if_neg (by omega)] at hk
      refine BIf_intro (fun _ => ?_) fun h => absurd rfl h
      rw [show k = vlen s by omega]; exact hk
    · rw [if_neg h0]
      rw [vlen_step _ h0, List.drop_drop] at h2
      refine BIf_intro (fun h => absurd h (by show ¬ ((ul (s.drop k) : Nat) : Int) = 0; omega)) fun _ => ?_
      have w : IntKind.i64.wrap ((k : Int) + (ul (s.drop k) : Nat)) = ((k + ul (s.drop k) : Nat) : Int) := by rw [wrap64 _ (by omega) (by omega)]; omega
      dsimp only
      rw [w]
      exact ⟨⟨rfl, rfl, _, rfl, by omega, by omega⟩, by omega⟩
  · rw [show s.drop k = [] from List.drop_of_length_le (by omega), vlen_nil] at h2
    rw [if_pos (by omega)] at hk; exact hk
end Go.TVF
end

section
set_option linter.unusedVariables false
set_option linter.unusedSimpArgs false
namespace Go.TVF
open Go Go.Proofs
inductive Nd where
  | mk (kind : Int) (lead text : List UInt8) (kids : List Nd) (tail : List UInt8)
mutual
/-- The cells of a node. -/
def NdC : Nd → List TV → Prop
  | .mk k l t ks tl, cs => ∃ v xs, cs = [.int .i64 k, .str l, .str t, v, .str tl] ∧ Rd 5 v ks.length xs ∧ KidsC ks xs
def KidsC : List Nd → List TV → Prop
  | [], xs => xs = []
  | n :: r, xs => ∃ a b, xs = a ++ b ∧ NdC n a ∧ KidsC r b
end
theorem NdC.len {n : Nd} {cs : List TV} (h : NdC n cs) : cs.length = 5 := by
  cases n
  unfold NdC at h
  obtain ⟨v, xs, rfl, _⟩ := h
  rfl
theorem KidsC.len : ∀ {ks : List Nd} {xs : List TV}, KidsC ks xs → xs.length = 5 * ks.length
  | [], xs, h => by unfold KidsC at h; subst h; rfl
  | n :: r, xs, h => by
    unfold KidsC at h
    obtain ⟨a, b, rfl, ha, hb⟩ := h
    rw [List.length_append, ha.len, hb.len, List.length_cons]; omega
theorem KidsC.get : ∀ {ks : List Nd} {xs : List TV}, KidsC ks xs → ∀ {i : Nat} {n : Nd}, ks[i]? = some n → ∃ cs, NdC n cs ∧ ∀ j x, cs[j]? = some x → xs[i * 5 + j]? = some x
  | [], xs, h, i, n, hi => by simp at hi
  | m :: r, xs, h, 0, n, hi => by
    unfold KidsC at h
    obtain ⟨a, b, rfl, ha, hb⟩ := h
    simp only [List.getElem?_cons_zero, Option.some.injEq] at hi
    subst hi
    refine ⟨a, ha, fun j x hj => ?_⟩
    rw [Nat.zero_mul, Nat.zero_add, List.getElem?_append_left (List.getElem?_eq_some_iff.1 hj).1]
    exact hj
  | m :: r, xs, h, i + 1, n, hi => by
    unfold KidsC at h
    obtain ⟨a, b, rfl, ha, hb⟩ := h
    obtain ⟨cs, h1, h2⟩ := hb.get (i := i) (n := n) (by simpa using hi)
    refine ⟨cs, h1, fun j x hj => ?_⟩
    have hl := ha.len
    rw [List.getElem?_append_right (by omega), show (i + 1) * 5 + j - a.length = i * 5 + j by omega]
    exact h2 j x hj
theorem KidsC.append : ∀ {ks js : List Nd} {xs ys : List TV}, KidsC ks xs → KidsC js ys → KidsC (ks ++ js) (xs ++ ys)
  | [], js, xs, ys, h, g => by unfold KidsC at h; subst h; exact g
  | n :: r, js, xs, ys, h, g => by
    unfold KidsC at h
    obtain ⟨a, b, rfl, ha, hb⟩ := h
    rw [List.cons_append]
    unfold KidsC
    exact ⟨a, b ++ ys, by rw [List.append_assoc], ha, hb.append g⟩
theorem KidsC.one {n : Nd} {cs : List TV} (h : NdC n cs) : KidsC [n] cs := by
  unfold KidsC
  exact ⟨cs, [], by simp, h, by unfold KidsC; rfl⟩
theorem KidsC.nil : KidsC [] [] := by unfold KidsC; rfl
/-- A child, loaded whole. -/
theorem kid_ld {v : TV} {ks : List Nd} {xs : List TV} (hr : Rd 5 v ks.length xs) (hk : KidsC ks xs) (st : St) {i : Nat} {k : Int} {l t tl : List UInt8} {js : List Nd} (hi : ks[i]? = some (.mk k l t js tl)) :
    ∃ u ys, (ldCells st [] (.t (ixT 5 v i)) 0 5).map TV.agg = some (.agg [.int .i64 k, .str l, .str t, u, .str tl]) ∧ Rd 5 u js.length ys ∧ KidsC js ys ∧ oneT u = true := by
  obtain ⟨cs, hc, hx⟩ := hk.get hi
  unfold NdC at hc
  obtain ⟨u, ys, rfl, h1, h2⟩ := hc
  refine ⟨u, ys, ?_, h1, h2, h1.one⟩
  simp only [ldCells, Nat.zero_add, Nat.reduceAdd]
  rw [hr.ldx st i 0 (hx 0 _ rfl), hr.ldx st i 1 (hx 1 _ rfl), hr.ldx st i 2 (hx 2 _ rfl), hr.ldx st i 3 (hx 3 _ rfl), hr.ldx st i 4 (hx 4 _ rfl)]
  rfl
theorem one5 {k : Int} {l t tl : List UInt8} {u : TV} (h : oneT u = true) : List.all [.int .i64 k, .str l, .str t, u, .str tl] oneT = true := by
  simp only [List.all_cons, h]; rfl
mutual
/-- How many nodes there are. -/
def ncnt : Nd → Nat
  | .mk _ _ _ ks _ => 1 + kcnt ks
def kcnt : List Nd → Nat
  | [] => 0
  | n :: r => ncnt n + kcnt r
end
theorem ncnt_pos (n : Nd) : 1 ≤ ncnt n := by cases n; unfold ncnt; omega
theorem kcnt_len : ∀ ks : List Nd, ks.length ≤ kcnt ks
  | [] => by simp [kcnt]
  | n :: r => by
    have h1 := ncnt_pos n
    have h2 := kcnt_len r
    simp only [kcnt, List.length_cons]; omega
theorem kcnt_mem : ∀ (ks : List Nd) {i : Nat} {n : Nd} (h : ks[i]? = some n), ncnt n ≤ kcnt ks
  | [], i, n, h => by simp at h
  | m :: r, 0, n, h => by simp only [List.getElem?_cons_zero, Option.some.injEq] at h; subst h; simp only [kcnt]; omega
  | m :: r, i + 1, n, h => by
    have := kcnt_mem r (i := i) (n := n) (by simpa using h)
    simp only [kcnt]; omega
mutual
/-- How long the text is. -/
def nlen : Nd → Nat
  | .mk _ l t ks tl => l.length + t.length + tl.length + klen ks
def klen : List Nd → Nat
  | [] => 0
  | n :: r => nlen n + klen r
end
mutual
/-- The text. -/
def ntext : Nd → List UInt8
  | .mk _ l t ks tl => l ++ t ++ ktext ks ++ tl
def ktext : List Nd → List UInt8
  | [] => []
  | n :: r => ntext n ++ ktext r
end
mutual
theorem ntext_len : ∀ n : Nd, (ntext n).length = nlen n
  | .mk _ l t ks tl => by
    have := ktext_len ks
    simp only [ntext, nlen, List.length_append]; omega
theorem ktext_len : ∀ ks : List Nd, (ktext ks).length = klen ks
  | [] => rfl
  | n :: r => by
    have h1 := ntext_len n
    have h2 := ktext_len r
    simp only [ktext, klen, List.length_append]; omega
end
theorem klen_take (ks : List Nd) (i : Nat) (n : Nd) (h : ks[i]? = some n) : klen (ks.take (i + 1)) = klen (ks.take i) + nlen n := by
  rw [List.take_add_one, h]
  generalize ks.take i = a
  induction a with
  | nil => simp [klen]
  | cons m r ih => simp only [Option.toList_some, List.cons_append, klen] at ih ⊢; omega
theorem klen_split (ks : List Nd) (i : Nat) : klen ks = klen (ks.take i) + klen (ks.drop i) := by
  conv => lhs; rw [← List.take_append_drop i ks]
  generalize ks.take i = a
  induction a with
  | nil => simp [klen]
  | cons m r ih => simp only [List.cons_append, klen] at ih ⊢; omega
theorem klen_mem (ks : List Nd) (i : Nat) (n : Nd) (h : ks[i]? = some n) : klen (ks.take i) + nlen n ≤ klen ks := by
  have h1 := klen_take ks i n h
  have h2 := klen_split ks (i + 1)
  omega
theorem ktext_take (ks : List Nd) (i : Nat) (n : Nd) (h : ks[i]? = some n) : ktext (ks.take (i + 1)) = ktext (ks.take i) ++ ntext n := by
  rw [List.take_add_one, h]
  generalize ks.take i = a
  induction a with
  | nil => simp [ktext]
  | cons m r ih => simp only [Option.toList_some, List.cons_append, ktext, List.append_assoc] at ih ⊢; rw [ih]
theorem mem_of_get {ks : List Nd} {i : Nat} {n : Nd} (h : ks[i]? = some n) : n ∈ ks := List.mem_of_getElem? h
theorem tlen_ok : ∀ (n : Nd) {cs : List TV} (hc : NdC n cs) (hl : nlen n ≤ 1000000000000000) (hcn : ncnt n ≤ 1000000000000000) {st : St} {K : Int → St → Prop} (hk : K (nlen n : Nat) st), CallT PR fn_tree_Len [.agg cs] [.one (.int .i64)] st K
  | .mk k l t ks tl, cs, hc, hl, hcn, st, K, hk => by
    simp only [ncnt] at hcn
    have hkl0 := kcnt_len ks
    unfold NdC at hc
    obtain ⟨v, xs, rfl, hr, hx⟩ := hc
    simp only [nlen] at hl hk
    refine vc_tree_Len k l t v tl st K (need_intro hr.isSl ⟨fun s i w n st' => v = w ∧ n = (ks.length : Int) ∧ st = st' ∧ ∃ j : Nat, i = (j : Int) ∧ j ≤ ks.length ∧ s = ((l.length + t.length + tl.length + klen (ks.take j) : Nat) : Int), fun _ i _ _ _ => (ks.length - i).toNat, ⟨rfl, by rw [hr.lenS], rfl, 0, rfl, by omega, ?_⟩, ?_⟩)
    · rw [wrap64 ((l.length : Int) + t.length) (by omega) (by omega), wrap64 _ (by omega) (by omega)]
      simp only [List.take_zero, klen]; omega
    rintro _ _ _ _ _ ⟨rfl, rfl, rfl, j, rfl, h1, rfl⟩
    rw [hr.lenZ, show Int.toNat (j : Int) = j from rfl]
    refine BIf_intro (fun g => ?_) fun g => ?_
    · have hlt : j < ks.length := by omega
      have hget := List.getElem?_eq_getElem hlt
      generalize hn : ks[j] = n at hget
      obtain ⟨k', l', t', js, tl'⟩ := n
      obtain ⟨u, ys, hld, h2, h3, h4⟩ := kid_ld hr hx st hget
      have hm := klen_mem ks j _ hget
      have hcm := kcnt_mem ks hget
      have ht := klen_take ks j _ hget
      refine ⟨⟨by omega, by omega⟩, optK_intro hld (need_intro (one5 h4) ?_)⟩
      refine tlen_ok (.mk k' l' t' js tl') (by unfold NdC; exact ⟨u, ys, rfl, h2, h3⟩) (by omega) (by omega) ?_
      have w1 : IntKind.i64.wrap (((l.length + t.length + tl.length + klen (ks.take j) : Nat) : Int) + (nlen (.mk k' l' t' js tl') : Nat)) = ((l.length + t.length + tl.length + klen (ks.take (j + 1)) : Nat) : Int) := by
        rw [wrap64 _ (by omega) (by omega)]; omega
      have w2 : IntKind.i64.wrap ((j : Int) + 1) = ((j + 1 : Nat) : Int) := by rw [wrap64 _ (by omega) (by omega)]; omega
      rw [w1, w2]
      exact ⟨⟨rfl, rfl, rfl, j + 1, rfl, by omega, rfl⟩, by dsimp only; omega⟩
    · rw [List.take_of_length_le (by omega)]; exact hk
termination_by n => SizeOf.sizeOf n
decreasing_by
  have := List.sizeOf_lt_of_mem (mem_of_get hget)
  simp only [Nd.mk.sizeOf_spec] at this ⊢
  omega
theorem rlen_ok : ∀ (n : Nd) {cs : List TV} (hc : NdC n cs) (hl : nlen n ≤ 1000000000000000) (hcn : ncnt n ≤ 1000000000000000) {st : St} {K : Int → St → Prop} (hk : K (nlen n : Nat) st), CallT PR fn_datakitref13_Len [.agg cs] [.one (.int .i64)] st K
  | .mk k l t ks tl, cs, hc, hl, hcn, st, K, hk => by
    simp only [ncnt] at hcn
    have hkl0 := kcnt_len ks
    unfold NdC at hc
    obtain ⟨v, xs, rfl, hr, hx⟩ := hc
    simp only [nlen] at hl hk
    refine vc_datakitref13_Len k l t v tl st K ⟨fun s i k' l' t' w tl' st' => v = w ∧ st = st' ∧ ∃ j : Nat, i = (j : Int) ∧ j ≤ ks.length ∧ s = ((l.length + t.length + tl.length + klen (ks.take j) : Nat) : Int), fun _ i _ _ _ _ _ _ => (ks.length - i).toNat, ⟨rfl, rfl, 0, rfl, by omega, ?_⟩, ?_⟩
    · rw [wrap64 ((l.length : Int) + t.length) (by omega) (by omega), wrap64 _ (by omega) (by omega)]
      simp only [List.take_zero, klen]; omega
    rintro _ _ _ _ _ _ _ _ ⟨rfl, rfl, j, rfl, h1, rfl⟩
    refine need_intro hr.isSl ?_
    rw [hr.lenS, hr.lenZ, show Int.toNat (j : Int) = j from rfl]
    refine BIf_intro (fun g => ?_) fun g => ?_
    · have hlt : j < ks.length := by omega
      have hget := List.getElem?_eq_getElem hlt
      generalize hn : ks[j] = n at hget
      obtain ⟨k', l', t', js, tl'⟩ := n
      obtain ⟨u, ys, hld, h2, h3, h4⟩ := kid_ld hr hx st hget
      have hm := klen_mem ks j _ hget
      have hcm := kcnt_mem ks hget
      have ht := klen_take ks j _ hget
      refine ⟨⟨by omega, by omega⟩, optK_intro hld ?_⟩
      refine rlen_ok (.mk k' l' t' js tl') (by unfold NdC; exact ⟨u, ys, rfl, h2, h3⟩) (by omega) (by omega) ?_
      have w1 : IntKind.i64.wrap (((l.length + t.length + tl.length + klen (ks.take j) : Nat) : Int) + (nlen (.mk k' l' t' js tl') : Nat)) = ((l.length + t.length + tl.length + klen (ks.take (j + 1)) : Nat) : Int) := by
        rw [wrap64 _ (by omega) (by omega)]; omega
      have w2 : IntKind.i64.wrap ((j : Int) + 1) = ((j + 1 : Nat) : Int) := by rw [wrap64 _ (by omega) (by omega)]; omega
      rw [w1, w2]
      exact ⟨⟨rfl, rfl, j + 1, rfl, by omega, rfl⟩, by dsimp only; omega⟩
    · rw [List.take_of_length_le (by omega)]; exact hk
termination_by n => SizeOf.sizeOf n
decreasing_by
  have := List.sizeOf_lt_of_mem (mem_of_get hget)
  simp only [Nd.mk.sizeOf_spec] at this ⊢
  omega
theorem rprint_ok : ∀ (n : Nd) {cs : List TV} (hc : NdC n cs) (hl : nlen n ≤ 1000000000000000) (hcn : ncnt n ≤ 1000000000000000) {st : St} {K : List UInt8 → St → Prop} (hk : K (ntext n) st), CallT PR fn_datakitref13_Print [.agg cs] [.one (.str)] st K
  | .mk k l t ks tl, cs, hc, hl, hcn, st, K, hk => by
    simp only [ncnt] at hcn
    have hkl0 := kcnt_len ks
    unfold NdC at hc
    obtain ⟨v, xs, rfl, hr, hx⟩ := hc
    simp only [nlen] at hl
    simp only [ntext] at hk
    refine vc_datakitref13_Print k l t v tl st K ⟨by omega, fun s i k' l' t' w tl' st' => v = w ∧ tl = tl' ∧ st = st' ∧ ∃ j : Nat, i = (j : Int) ∧ j ≤ ks.length ∧ s = l ++ t ++ ktext (ks.take j), fun _ i _ _ _ _ _ _ => (ks.length - i).toNat, ⟨rfl, rfl, rfl, 0, rfl, by omega, by simp [ktext]⟩, ?_⟩
    rintro _ _ _ _ _ _ _ _ ⟨rfl, rfl, rfl, j, rfl, h1, rfl⟩
    refine need_intro hr.isSl ?_
    rw [hr.lenS, hr.lenZ, show Int.toNat (j : Int) = j from rfl]
    have hkl := ktext_len (ks.take j)
    refine BIf_intro (fun g => ?_) fun g => ?_
    · have hlt : j < ks.length := by omega
      have hget := List.getElem?_eq_getElem hlt
      generalize hn : ks[j] = n at hget
      obtain ⟨k', l', t', js, tl'⟩ := n
      obtain ⟨u, ys, hld, h2, h3, h4⟩ := kid_ld hr hx st hget
      have hm := klen_mem ks j _ hget
      have hcm := kcnt_mem ks hget
      have ht := ktext_take ks j _ hget
      refine ⟨⟨by omega, by omega⟩, optK_intro hld ?_⟩
      refine rprint_ok (.mk k' l' t' js tl') (by unfold NdC; exact ⟨u, ys, rfl, h2, h3⟩) (by omega) (by omega) ⟨?_, ?_⟩
      · rw [ntext_len]; simp only [List.length_append]; omega
      · rw [wrap64 ((j : Int) + 1) (by omega) (by omega)]
        exact ⟨⟨rfl, rfl, rfl, j + 1, by omega, by omega, by rw [ht]; simp⟩, by dsimp only; omega⟩
    · rw [List.take_of_length_le (by omega)] at hkl ⊢
      exact ⟨by simp only [List.length_append]; omega, hk⟩
termination_by n => SizeOf.sizeOf n
decreasing_by
  have := List.sizeOf_lt_of_mem (mem_of_get hget)
  simp only [Nd.mk.sizeOf_spec] at this ⊢
  omega
theorem write_ok : ∀ (n : Nd) {cs : List TV} (hc : NdC n cs) {st0 st : St} {b : Nat} {buf : List UInt8} (hb : Bld st0 b st buf) (hl : buf.length + nlen n ≤ 100000000000000) (hcn : ncnt n ≤ 1000000000000000) {K : St → Prop} (hk : ∀ st', Bld st0 b st' (buf ++ ntext n) → K st'), CallT PR fn_tree_write [.box b 0, .agg cs] [] st K
  | .mk k l t ks tl, cs, hc, st0, st, b, buf, hb, hl, hcn, K, hk => by
    simp only [ncnt] at hcn
    have hkl0 := kcnt_len ks
    unfold NdC at hc
    obtain ⟨v, xs, rfl, hr, hx⟩ := hc
    simp only [nlen] at hl
    simp only [ntext] at hk
    refine vc_tree_write b k l t v tl st K (writeString_ok hb (by omega) fun st1 b1 => writeString_ok b1 (by rw [List.length_append]; omega) fun st2 b2 => need_intro hr.isSl ?_)
    refine ⟨fun i b' w n k' l' t' w' tl' st' => TV.box b 0 = b' ∧ v = w ∧ n = (ks.length : Int) ∧ tl = tl' ∧ ∃ j : Nat, i = (j : Int) ∧ j ≤ ks.length ∧ Bld st0 b st' (buf ++ l ++ t ++ ktext (ks.take j)), fun i _ _ _ _ _ _ _ _ _ => (ks.length - i).toNat, ⟨rfl, rfl, by rw [hr.lenS], rfl, 0, rfl, by omega, by simpa [ktext] using b2⟩, ?_⟩
    rintro _ _ _ _ _ _ _ _ _ st3 ⟨rfl, rfl, rfl, rfl, j, rfl, h1, b3⟩
    rw [hr.lenZ, show Int.toNat (j : Int) = j from rfl]
    have hkl := ktext_len (ks.take j)
    refine BIf_intro (fun g => ?_) fun g => ?_
    · have hlt : j < ks.length := by omega
      have hget := List.getElem?_eq_getElem hlt
      generalize hn : ks[j] = n at hget
      obtain ⟨k', l', t', js, tl'⟩ := n
      obtain ⟨u, ys, hld, h2, h3, h4⟩ := kid_ld hr hx st3 hget
      have hm := klen_mem ks j _ hget
      have hcm := kcnt_mem ks hget
      have ht := ktext_take ks j _ hget
      refine ⟨⟨by omega, by omega⟩, optK_intro hld (need_intro (one5 h4) ?_)⟩
      refine write_ok (.mk k' l' t' js tl') (by unfold NdC; exact ⟨u, ys, rfl, h2, h3⟩) b3 (by simp only [List.length_append]; omega) (by omega) fun st4 b4 => ?_
      rw [wrap64 ((j : Int) + 1) (by omega) (by omega)]
      exact ⟨⟨rfl, rfl, rfl, rfl, j + 1, by omega, by omega, by rw [ht]; simpa using b4⟩, by dsimp only; omega⟩
    · rw [List.take_of_length_le (by omega)] at hkl b3
      exact writeString_ok b3 (by simp only [List.length_append]; omega) fun st4 b4 => hk st4 (by simpa using b4)
termination_by n => SizeOf.sizeOf n
decreasing_by
  have := List.sizeOf_lt_of_mem (mem_of_get hget)
  simp only [Nd.mk.sizeOf_spec] at this ⊢
  omega
theorem tprint_ok {n : Nd} {cs : List TV} (hc : NdC n cs) (hl : nlen n ≤ 100000000000000) (hcn : ncnt n ≤ 1000000000000000) {st : St} {K : List UInt8 → St → Prop} (hk : ∀ st', StExt st st' → K (ntext n) st') : CallT PR fn_tree_Print [.agg cs] [.one (.str)] st K := by
  have hc0 := hc
  obtain ⟨k, l, t, ks, tl⟩ := n
  unfold NdC at hc
  obtain ⟨v, xs, rfl, hr, hx⟩ := hc
  refine vc_tree_Print k l t v tl st K (write_ok _ hc0 (Bld.new (StExt.refl st)) (by simpa using hl) hcn fun st1 b1 => ?_)
  have hn := ntext_len (.mk k l t ks tl)
  exact builderString_ok b1 (by simp only [List.nil_append]; omega) fun st2 e => hk st2 e
def leafB (k : Int) : Bool := decide (k = 2 ∨ k = 6 ∨ k = 10 ∨ k = 11)
theorem leaf_ok {k : Int} {st : St} {K : Bool → St → Prop} (hk : K (leafB k) st) : CallT PR fn_tree_leaf [.int .i64 k] [.one (.bool)] st K := by
  unfold leafB at hk
  refine vc_tree_leaf k st K ?_
  repeat' first
    | exact K_eq (decide_eq_true (by omega)).symm hk
    | exact K_eq (decide_eq_false (by omega)).symm hk
    | refine BIf_intro (fun _ => ?_) fun _ => ?_
theorem rleaf_ok {k : Int} {st : St} {K : Bool → St → Prop} (hk : K (leafB k) st) : CallT PR fn_datakitref13_Leaf [.int .i64 k] [.one (.bool)] st K := by
  unfold leafB at hk
  refine vc_datakitref13_Leaf k st K ?_
  repeat' first
    | exact K_eq (decide_eq_true (by omega)).symm hk
    | exact K_eq (decide_eq_decide.2 (by omega)) hk
    | refine BIf_intro (fun _ => ?_) fun _ => ?_
mutual
/-- Visits a tree: how many nodes have been seen, or what is wrong. -/
def chk : Nd → Int → Int → Except Int Int
  | .mk k l t ks tl, d, s => if 192 < d then .error 9 else if 524288 ≤ s then .error 10 else if k < 1 ∨ 11 < k then .error 6
    else if leafB k = true ∧ (ks.length ≠ 0 ∨ tl ≠ []) then .error 1 else chkL ks (d + 1) (s + 1)
def chkL : List Nd → Int → Int → Except Int Int
  | [], d, s => .ok s
  | n :: r, d, s => match chk n d s with | .error e => .error e | .ok s' => chkL r d s'
end
end Go.TVF
end

section
set_option linter.unusedVariables false
set_option linter.unusedSimpArgs false
namespace Go.TVF
open Go Go.Proofs
open Go.RowKit (Below)
def sub1 (q : UInt8) (new : List UInt8) (c : UInt8) : List UInt8 := if c = q then new else [c]
theorem index1 (q : UInt8) : ∀ s : List UInt8, (Lib.index s [q] = -1 ∧ q ∉ s) ∨ ∃ i : Nat, Lib.index s [q] = i ∧ q ∉ s.take i ∧ i < s.length ∧ s = s.take i ++ q :: s.drop (i + 1)
  | [] => .inl ⟨by simp [Lib.index], by simp⟩
  | c :: l => by
    have hp : [q].isPrefixOf (c :: l) = (q == c) := by simp [List.isPrefixOf]
    unfold Lib.index
    rw [hp]
    by_cases hc : q = c
    · subst hc
      exact .inr ⟨0, by simp, by simp, by simp, by simp⟩
    · have hb : (q == c) = false := by simpa using hc
      rw [hb]
      rcases index1 q l with ⟨h1, h2⟩ | ⟨i, h1, h2, h3, h4⟩
      · left
        rw [h1]
        exact ⟨by simp, by simp [hc, h2]⟩
      · right
        refine ⟨i + 1, ?_, ?_, by simp; omega, ?_⟩
        · rw [h1]
          have : ((i : Int) == -1) = false := by simp
          simp [this]
        · simp [hc, h2]
        · simp only [List.take_succ_cons, List.drop_succ_cons, List.cons_append]
          rw [← h4]
theorem flat_none (q : UInt8) (new : List UInt8) : ∀ s : List UInt8, q ∉ s → s.flatMap (sub1 q new) = s
  | [], _ => rfl
  | c :: l, h => by
    simp only [List.mem_cons, not_or] at h
    rw [List.flatMap_cons, flat_none q new l h.2]
    simp [sub1, Ne.symm h.1]
theorem count1 (q : UInt8) (new : List UInt8) : ∀ (n : Nat) (s : List UInt8), s.length ≤ n → Lib.count s [q] ≤ s.length ∧ Lib.replaceK [q] new (Lib.count s [q]) s = s.flatMap (sub1 q new) := by
  intro n
  induction n with
  | zero =>
    intro s hs
    have : s = [] := List.eq_nil_of_length_eq_zero (by omega)
    subst this
    rw [Lib.count_miss (by simp [Lib.index])]
    exact ⟨by simp, rfl⟩
  | succ n ih =>
    intro s hs
    rcases index1 q s with ⟨h1, h2⟩ | ⟨i, h1, h2, h3, h4⟩
    · rw [Lib.count_miss h1]
      exact ⟨by simp, by rw [flat_none q new s h2]; rfl⟩
    · rw [Lib.count_hit (by simp) h1]
      obtain ⟨c1, c2⟩ := ih (s.drop (i + 1)) (by simp; omega)
      have hl : [q].length = 1 := rfl
      rw [hl]
      refine ⟨by simp at c1 ⊢; omega, ?_⟩
      rw [Nat.add_comm, Lib.replaceK_hit _ _ _ _ i h1, hl, c2]
      conv => rhs; rw [h4]
      rw [List.flatMap_append, List.flatMap_cons, flat_none q new _ h2]
      simp [sub1]
theorem relL_three {g : Ghost} {w : World} {x y z : TV} {vs : List Value} (h : RelL g w [x, y, z] vs) : ∃ v u t, vs = [v, u, t] ∧ Rel g w x v ∧ Rel g w y u ∧ Rel g w z t := by
  obtain ⟨v, h1, h2⟩ := h.get? (i := 0) rfl
  obtain ⟨u, h3, h4⟩ := h.get? (i := 1) rfl
  obtain ⟨t, h5, h6⟩ := h.get? (i := 2) rfl
  have hl := h.1
  match vs, hl with
  | [a, b, c], _ => simp at h1 h3 h5; subst h1 h3 h5; exact ⟨_, _, _, rfl, h2, h4, h6⟩
theorem replaceAll_ok {s : List UInt8} {q a b : UInt8} {st : St} {K : List UInt8 → St → Prop} (hne : [q] ≠ [a, b]) (hl : s.length ≤ 2000000000) (hk : K (s.flatMap (sub1 q [a, b])) st) :
    CallT PR fn_strings_ReplaceAll [.str s, .str [q], .str [a, b]] [.one (.str)] st K := by
  refine tcalls_enter (fun _ _ => Tryd.call89 _ _) fun g w vargs sim hr => ?_
  obtain ⟨v1, v2, v3, rfl, h1, h2, h3⟩ := relL_three hr
  rw [rel_str_inv h1, rel_str_inv h2, rel_str_inv h3]
  obtain ⟨_, m, hm⟩ := sim.glob w sim.below
  obtain ⟨c1, c2⟩ := count1 q [a, b] s.length s (Nat.le_refl _)
  have hcB : Lib.countB ⟨s.toArray⟩ ⟨#[q]⟩ = Lib.count s [q] := rfl
  refine Calls.mono (Tryd.strings_ReplaceAll ⟨s.toArray⟩ ⟨#[q]⟩ ⟨#[a, b]⟩ m w ?_ hm ?_ ?_) ?_
  · show s.toArray.size < _
    simp; omega
  · show 1 ≤ (#[q] : Array UInt8).size
    simp
  · rw [hcB]
    show s.toArray.size + _ * (#[a, b] : Array UInt8).size ≤ _
    simp; omega
  · rintro e w' ⟨rfl, hb⟩
    obtain ⟨s', e'⟩ := sim.grown hb
    have hv : Lib.replaceAll s [q] [a, b] = s.flatMap (sub1 q [a, b]) := by
      unfold Lib.replaceAll Lib.replace
      rw [if_neg (by simp), ← c2]
      congr 1
    refine ⟨_, rfl, .str (s.flatMap (sub1 q [a, b])), st, g, hk, s', ?_, e'⟩
    show Rel g w' _ (.string ⟨(Lib.replaceAll s [q] [a, b]).toArray⟩)
    rw [hv]
    exact Rel.str _
end Go.TVF
end
