/- What the laws below rest on: a framework for Go programs, and contracts of the functions that they reach. -/
import Derived.Test.YtagglahlkknacaaGreatDoorDfC
import Derived.Shelf.Small.Strs
import Derived.Shelf.Strings.Repeat
import Derived.Shelf.Strings.Trim
import Derived.Test.YtagglahlkknacaaGreatDoorProg
section
set_option linter.unusedVariables false
namespace Go.TVF
open Go Go.Proofs
set_option maxRecDepth 100000 in
theorem vc_decimal_Valid (d_0 : Bool) (d_1 : List UInt8) (d_2 : Int) (st : St) (K : Bool → St → Prop) (h : BIf (decide (d_1 = ([] : List UInt8))) (K (((d_0 == false) && (decide (d_1 = ([] : List UInt8)) && (decide (d_2 = (0 : Int)) && true)))) st) (CallT PR fn_digits_Valid [(.str d_1)] [.one (.bool)] st (fun (b1 : Bool) (st1 : St) => BIf b1 (BIf (decide (((d_1).length : Int) ≤ (120 : Int))) (CallT PR fn_digits_Zeros [(.str d_1)] [.one (.int .i64)] st1 (fun (n1 : Int) (st2 : St) => BIf (decide (n1 = (0 : Int))) (BIf (decide ((-400 : Int) ≤ d_2)) (K ((decide (d_2 ≤ (400 : Int)))) st2) (K (false) st2)) (K (false) st2))) (K (false) st1)) (K (false) st1)))) : CallT PR fn_decimal_Valid [(.agg [(.bool d_0), (.str d_1), (.int .i64 d_2)])] [.one (.bool)] st K :=
  tcalls_fw (cfg := ⟨[1], [], []⟩) (h := .none) mixed (fun _ _ => Tryz.call131 _ _) Tryz.func131 (by kernel_rfl) (by kernel_rfl) h
set_option maxRecDepth 100000 in
theorem vc_decimal_whole (n : Int) (st : St) (K : List UInt8 → St → Prop) (h : BIf (decide (n = (0 : Int))) (K (str12) st) (CallT PR fn_digits_FromInt [(.int .i64 n)] [.one (.str)] st (fun (s1 : List UInt8) (st1 : St) => K (s1) st1))) : CallT PR fn_decimal_whole [(.int .i64 n)] [.one (.str)] st K :=
  tcalls_fw (cfg := ⟨[], [], []⟩) (h := .none) mixed (fun _ _ => Tryz.call133 _ _) Tryz.func133 (by kernel_rfl) (by kernel_rfl) h
set_option maxRecDepth 100000 in
theorem vc_moment_Valid (t_0 : Int) (t_1 : Int) (t_2 : Int) (t_3 : Int) (st : St) (K : Bool → St → Prop) (h : BIf (decide (t_0 < (1 : Int))) (K (false) st) (BIf (decide ((4 : Int) < t_0)) (K (false) st) (BIf (decide (t_1 < (0 : Int))) (K (false) st) (BIf (decide ((3652058 : Int) < t_1)) (K (false) st) (BIf (decide (t_2 < (0 : Int))) (K (false) st) (BIf (decide ((86399999999999 : Int) < t_2)) (K (false) st) (BIf (decide (t_3 < (-1439 : Int))) (K (false) st) (BIf (decide ((1439 : Int) < t_3)) (K (false) st) (BIf (decide (t_0 = (2 : Int))) (BIf (decide (t_1 = (0 : Int))) (K ((decide (t_3 = (0 : Int)))) st) (K (false) st)) (BIf (decide (t_0 = (1 : Int))) (BIf (decide (t_2 = (0 : Int))) (K ((decide (t_3 = (0 : Int)))) st) (K (false) st)) (BIf (decide (t_0 = (3 : Int))) (K ((decide (t_3 = (0 : Int)))) st) (K (true) st)))))))))))) : CallT PR fn_moment_Valid [(.agg [(.int .i64 t_0), (.int .i64 t_1), (.int .i64 t_2), (.int .i64 t_3)])] [.one (.bool)] st K :=
  tcalls_fw (cfg := ⟨[1], [], []⟩) (h := .none) mixed (fun _ _ => Tryz.call134 _ _) Tryz.func134 (by kernel_rfl) (by kernel_rfl) h
set_option maxRecDepth 100000 in
theorem vc_moment_dateText (n : Int) (st : St) (K : List UInt8 → St → Prop) (h : CallT PR fn_calendar_Date [(.int .i64 n)] [.one (.int .i64), .one (.int .i64), .one (.int .i64), .one (.int .i64)] st (fun (n1 : Int) (n2 : Int) (n3 : Int) (n4 : Int) (st1 : St) => CallT PR fn_moment_digits [(.int .i64 n1), (.int .i64 (4 : Int))] [.one (.str)] st1 (fun (s1 : List UInt8) (st2 : St) => ((s1).length + (str9).length ≤ 9223372036854775807 ∧ CallT PR fn_moment_digits [(.int .i64 n2), (.int .i64 (2 : Int))] [.one (.str)] st2 (fun (s2 : List UInt8) (st3 : St) => (((s1 ++ str9)).length + (s2).length ≤ 9223372036854775807 ∧ ((((s1 ++ str9) ++ s2)).length + (str9).length ≤ 9223372036854775807 ∧ CallT PR fn_moment_digits [(.int .i64 n3), (.int .i64 (2 : Int))] [.one (.str)] st3 (fun (s3 : List UInt8) (st4 : St) => (((((s1 ++ str9) ++ s2) ++ str9)).length + (s3).length ≤ 9223372036854775807 ∧ K (((((s1 ++ str9) ++ s2) ++ str9) ++ s3)) st4))))))))) : CallT PR fn_moment_dateText [(.int .i64 n)] [.one (.str)] st K :=
  tcalls_fw (cfg := ⟨[], [], []⟩) (h := .none) mixed (fun _ _ => Tryz.call135 _ _) Tryz.func135 (by kernel_rfl) (by kernel_rfl) h
set_option maxRecDepth 100000 in
theorem vc_moment_clockText (nano : Int) (st : St) (K : List UInt8 → St → Prop) (h : CallT PR fn_moment_digits [(.int .i64 (IntKind.i64.wrap (Int.tdiv (IntKind.i64.wrap (Int.tdiv nano (1000000000 : Int))) (3600 : Int)))), (.int .i64 (2 : Int))] [.one (.str)] st (fun (s1 : List UInt8) (st1 : St) => ((s1).length + (str34).length ≤ 9223372036854775807 ∧ CallT PR fn_moment_digits [(.int .i64 (Int.tmod (IntKind.i64.wrap (Int.tdiv (IntKind.i64.wrap (Int.tdiv nano (1000000000 : Int))) (60 : Int))) (60 : Int))), (.int .i64 (2 : Int))] [.one (.str)] st1 (fun (s2 : List UInt8) (st2 : St) => (((s1 ++ str34)).length + (s2).length ≤ 9223372036854775807 ∧ ((((s1 ++ str34) ++ s2)).length + (str34).length ≤ 9223372036854775807 ∧ CallT PR fn_moment_digits [(.int .i64 (Int.tmod (IntKind.i64.wrap (Int.tdiv nano (1000000000 : Int))) (60 : Int))), (.int .i64 (2 : Int))] [.one (.str)] st2 (fun (s3 : List UInt8) (st3 : St) => (((((s1 ++ str34) ++ s2) ++ str34)).length + (s3).length ≤ 9223372036854775807 ∧ BIf (decide ((Int.tmod nano (1000000000 : Int)) = (0 : Int))) (K (((((s1 ++ str34) ++ s2) ++ str34) ++ s3)) st3) (CallT PR fn_moment_digits [(.int .i64 (Int.tmod nano (1000000000 : Int))), (.int .i64 (9 : Int))] [.one (.str)] st3 (fun (s4 : List UInt8) (st4 : St) => ∃ (I1 : List UInt8 → List UInt8 → St → Prop) (M1 : List UInt8 → List UInt8 → St → Nat), (I1 (s4) (((((s1 ++ str34) ++ s2) ++ str34) ++ s3)) st4) ∧ ∀ (f_1 : List UInt8) (s_1 : List UInt8) (st5 : St), I1 f_1 s_1 st5 → (((0 ≤ (IntKind.i64.wrap (((f_1).length : Int) - (1 : Int))) ∧ (IntKind.i64.wrap (((f_1).length : Int) - (1 : Int))) < ((f_1).length : Int)) ∧ BIf (decide (((List.getD f_1 (Int.toNat (IntKind.i64.wrap (((f_1).length : Int) - (1 : Int)))) 0).toNat : Int) = (48 : Int))) (((0 ≤ (IntKind.i64.wrap (((f_1).length : Int) - (1 : Int))) ∧ (IntKind.i64.wrap (((f_1).length : Int) - (1 : Int))) ≤ ((f_1).length : Int)) ∧ (I1 ((List.take (Int.toNat (IntKind.i64.wrap (((f_1).length : Int) - (1 : Int)))) f_1)) (s_1) st5 ∧ M1 ((List.take (Int.toNat (IntKind.i64.wrap (((f_1).length : Int) - (1 : Int)))) f_1)) (s_1) st5 < M1 f_1 s_1 st5))) (((s_1).length + (str10).length ≤ 9223372036854775807 ∧ (((s_1 ++ str10)).length + (f_1).length ≤ 9223372036854775807 ∧ K (((s_1 ++ str10) ++ f_1)) st5))))))))))))))) : CallT PR fn_moment_clockText [(.int .i64 nano)] [.one (.str)] st K :=
  tcalls_fw (cfg := ⟨[], [], []⟩) (h := (.seq .none (.seq .none (.seq .none (.seq .none (.seq .none (.seq (.block (.loop ⟨[(6, .str), (5, .str)], [], [], []⟩ .none)) .none))))))) mixed (fun _ _ => Tryz.call136 _ _) Tryz.func136 (by kernel_rfl) (by kernel_rfl) h
set_option maxRecDepth 100000 in
theorem vc_moment_offsetText (n : Int) (st : St) (K : List UInt8 → St → Prop) (h : BIf (decide (n = (0 : Int))) (K (str30) st) (BIf (decide (n < (0 : Int))) (CallT PR fn_moment_digits [(.int .i64 (IntKind.i64.wrap (Int.tdiv (IntKind.i64.wrap (0 - n)) (60 : Int)))), (.int .i64 (2 : Int))] [.one (.str)] st (fun (s1 : List UInt8) (st1 : St) => ((str9).length + (s1).length ≤ 9223372036854775807 ∧ (((str9 ++ s1)).length + (str34).length ≤ 9223372036854775807 ∧ CallT PR fn_moment_digits [(.int .i64 (Int.tmod (IntKind.i64.wrap (0 - n)) (60 : Int))), (.int .i64 (2 : Int))] [.one (.str)] st1 (fun (s2 : List UInt8) (st2 : St) => ((((str9 ++ s1) ++ str34)).length + (s2).length ≤ 9223372036854775807 ∧ K ((((str9 ++ s1) ++ str34) ++ s2)) st2)))))) (CallT PR fn_moment_digits [(.int .i64 (IntKind.i64.wrap (Int.tdiv n (60 : Int)))), (.int .i64 (2 : Int))] [.one (.str)] st (fun (s3 : List UInt8) (st3 : St) => ((str11).length + (s3).length ≤ 9223372036854775807 ∧ (((str11 ++ s3)).length + (str34).length ≤ 9223372036854775807 ∧ CallT PR fn_moment_digits [(.int .i64 (Int.tmod n (60 : Int))), (.int .i64 (2 : Int))] [.one (.str)] st3 (fun (s4 : List UInt8) (st4 : St) => ((((str11 ++ s3) ++ str34)).length + (s4).length ≤ 9223372036854775807 ∧ K ((((str11 ++ s3) ++ str34) ++ s4)) st4)))))))) : CallT PR fn_moment_offsetText [(.int .i64 n)] [.one (.str)] st K :=
  tcalls_fw (cfg := ⟨[], [], []⟩) (h := .none) mixed (fun _ _ => Tryz.call137 _ _) Tryz.func137 (by kernel_rfl) (by kernel_rfl) h
set_option maxRecDepth 100000 in
theorem vc_datakitref05_Valid (t_0 : Int) (t_1 : Int) (t_2 : Int) (t_3 : Int) (st : St) (K : Bool → St → Prop) (h : BIf (decide (t_0 < (1 : Int))) (K (false) st) (BIf (decide ((4 : Int) < t_0)) (K (false) st) (BIf (decide (t_1 < (0 : Int))) (K (false) st) (BIf (decide ((3652058 : Int) < t_1)) (K (false) st) (BIf (decide (t_2 < (0 : Int))) (K (false) st) (BIf (decide ((86399999999999 : Int) < t_2)) (K (false) st) (BIf (decide (t_3 < (-1439 : Int))) (K (false) st) (BIf (decide ((1439 : Int) < t_3)) (K (false) st) (CallT PR fn_datakitref05_dated [(.int .i64 t_0)] [.one (.bool)] st (fun (b1 : Bool) (st1 : St) => BIf b1 (CallT PR fn_datakitref05_clocked [(.int .i64 t_0)] [.one (.bool)] st1 (fun (b2 : Bool) (st2 : St) => BIf b2 (BIf (decide (t_0 = (4 : Int))) (K (true) st2) (K ((decide (t_3 = (0 : Int)))) st2)) (BIf (decide (t_2 = (0 : Int))) (BIf (decide (t_0 = (4 : Int))) (K (true) st2) (K ((decide (t_3 = (0 : Int)))) st2)) (K (false) st2)))) (BIf (decide (t_1 = (0 : Int))) (CallT PR fn_datakitref05_clocked [(.int .i64 t_0)] [.one (.bool)] st1 (fun (b3 : Bool) (st3 : St) => BIf b3 (BIf (decide (t_0 = (4 : Int))) (K (true) st3) (K ((decide (t_3 = (0 : Int)))) st3)) (BIf (decide (t_2 = (0 : Int))) (BIf (decide (t_0 = (4 : Int))) (K (true) st3) (K ((decide (t_3 = (0 : Int)))) st3)) (K (false) st3)))) (K (false) st1)))))))))))) : CallT PR fn_datakitref05_Valid [(.agg [(.int .i64 t_0), (.int .i64 t_1), (.int .i64 t_2), (.int .i64 t_3)])] [.one (.bool)] st K :=
  tcalls_fw (cfg := ⟨[1], [], []⟩) (h := .none) mixed (fun _ _ => Tryz.call141 _ _) Tryz.func141 (by kernel_rfl) (by kernel_rfl) h
set_option maxRecDepth 100000 in
theorem vc_value_sorted (v_0 : Int) (v_1 : Bool) (v_2 : Bool) (v_3 : List UInt8) (v_4 : Int) (v_5 : Int) (v_6 : Int) (v_7 : Int) (v_8 : Int) (v_9 : List UInt8) (v_10 : TV) (v_11 : TV) (v_12 : TV) (st : St) (K : TV → St → Prop) (h : CallT PR fn_slices_Clone___api_Field_api_Field_ [v_12] [.one (.tv)] st (fun (v1 : TV) (st1 : St) => CallT PR fn_slices_SortStableFunc___api_Field_api_Field_ [v1, (.func fn_value_sorted_1 [])] [] st1 (fun  (st2 : St) => K (v1) st2))) : CallT PR fn_value_sorted [(.agg [(.int .i64 v_0), (.bool v_1), (.bool v_2), (.str v_3), (.int .i64 v_4), (.int .i64 v_5), (.int .i64 v_6), (.int .i64 v_7), (.int .i64 v_8), (.str v_9), v_10, v_11, v_12])] [.one (.tv)] st K :=
  tcalls_fw (cfg := ⟨[1], [], []⟩) (h := .none) mixed (fun _ _ => Tryz.call148 _ _) Tryz.func148 (by kernel_rfl) (by kernel_rfl) h
set_option maxRecDepth 100000 in
theorem vc_canon_write (w : Nat) (v_0 : Int) (v_1 : Bool) (v_2 : Bool) (v_3 : List UInt8) (v_4 : Int) (v_5 : Int) (v_6 : Int) (v_7 : Int) (v_8 : Int) (v_9 : List UInt8) (v_10 : TV) (v_11 : TV) (v_12 : TV) (st : St) (K : St → Prop) (h : BIf (decide (v_0 = (0 : Int))) (CallT PR fn_strings_Builder_WriteString [(.box w 0), (.str str21)] [.one (.int .i64), .one (.tv)] st (fun (n1 : Int) (v1 : TV) (st1 : St) => K  st1)) (BIf (decide (v_0 = (1 : Int))) (BIf v_1 (CallT PR fn_strings_Builder_WriteString [(.box w 0), (.str str7)] [.one (.int .i64), .one (.tv)] st (fun (n2 : Int) (v2 : TV) (st2 : St) => K  st2)) (CallT PR fn_strings_Builder_WriteString [(.box w 0), (.str str8)] [.one (.int .i64), .one (.tv)] st (fun (n3 : Int) (v3 : TV) (st3 : St) => K  st3))) (BIf (decide (v_0 = (2 : Int))) (CallT PR fn_decimal_Text [(.agg [(.bool v_2), (.str v_3), (.int .i64 v_4)])] [.one (.str)] st (fun (s1 : List UInt8) (st4 : St) => CallT PR fn_strings_Builder_WriteString [(.box w 0), (.str s1)] [.one (.int .i64), .one (.tv)] st4 (fun (n4 : Int) (v4 : TV) (st5 : St) => K  st5))) (BIf (decide (v_0 = (3 : Int))) (CallT PR fn_moment_Text [(.agg [(.int .i64 v_5), (.int .i64 v_6), (.int .i64 v_7), (.int .i64 v_8)])] [.one (.str)] st (fun (s2 : List UInt8) (st6 : St) => ((str44).length + (s2).length ≤ 9223372036854775807 ∧ (((str44 ++ s2)).length + (str35).length ≤ 9223372036854775807 ∧ CallT PR fn_strings_Builder_WriteString [(.box w 0), (.str ((str44 ++ s2) ++ str35))] [.one (.int .i64), .one (.tv)] st6 (fun (n5 : Int) (v5 : TV) (st7 : St) => K  st7))))) (BIf (decide (v_0 = (4 : Int))) (CallT PR fn_canon_quote [(.box w 0), (.str v_9)] [] st (fun  (st8 : St) => K  st8)) (BIf (decide (v_0 = (5 : Int))) (CallT PR fn_base_Encode [v_10, (.bool true)] [.one (.str)] st (fun (s3 : List UInt8) (st9 : St) => ((str45).length + (s3).length ≤ 9223372036854775807 ∧ (((str45 ++ s3)).length + (str35).length ≤ 9223372036854775807 ∧ CallT PR fn_strings_Builder_WriteString [(.box w 0), (.str ((str45 ++ s3) ++ str35))] [.one (.int .i64), .one (.tv)] st9 (fun (n6 : Int) (v6 : TV) (st10 : St) => K  st10))))) (BIf (decide (v_0 = (6 : Int))) (CallT PR fn_strings_Builder_WriteByte [(.box w 0), (.int .u8 (91 : Int))] [.one (.tv)] st (fun (v7 : TV) (st11 : St) => need (isSl v_11) (∃ (I1 : Int → TV → TV → Int → St → Prop) (M1 : Int → TV → TV → Int → St → Nat), (I1 ((0 : Int)) ((.box w 0)) (v_11) ((lenS v_11 : Int)) st11) ∧ ∀ (n_1 : Int) (w_1 : TV) (v_1 : TV) (n_2 : Int) (st12 : St), I1 n_1 w_1 v_1 n_2 st12 → (BIf (decide (n_1 < n_2)) (((0 ≤ n_1 ∧ n_1 < (lenZ 13 v_1 : Int)) ∧ optK ((ldCells st12 [] (.t (ixT 13 v_1 (Int.toNat n_1))) 0 13).map TV.agg) (fun (x1 : TV) => decA [.int .i64, .bool, .bool, .str, .int .i64, .int .i64, .int .i64, .int .i64, .int .i64, .str, .tv, .tv, .tv] x1 (fun (n7 : Int) (b1 : Bool) (b2 : Bool) (s4 : List UInt8) (n8 : Int) (n9 : Int) (n10 : Int) (n11 : Int) (n12 : Int) (s5 : List UInt8) (v8 : TV) (v9 : TV) (v10 : TV) => need (List.all [(.int .i64 n7), (.bool b1), (.bool b2), (.str s4), (.int .i64 n8), (.int .i64 n9), (.int .i64 n10), (.int .i64 n11), (.int .i64 n12), (.str s5), v8, v9, v10] oneT) (BIf (decide ((0 : Int) < n_1)) (CallT PR fn_strings_Builder_WriteByte [w_1, (.int .u8 (44 : Int))] [.one (.tv)] st12 (fun (v11 : TV) (st13 : St) => CallT PR fn_canon_write [w_1, (.agg [(.int .i64 n7), (.bool b1), (.bool b2), (.str s4), (.int .i64 n8), (.int .i64 n9), (.int .i64 n10), (.int .i64 n11), (.int .i64 n12), (.str s5), v8, v9, v10])] [] st13 (fun  (st14 : St) => (I1 ((IntKind.i64.wrap (n_1 + (1 : Int)))) (w_1) (v_1) (n_2) st14 ∧ M1 ((IntKind.i64.wrap (n_1 + (1 : Int)))) (w_1) (v_1) (n_2) st14 < M1 n_1 w_1 v_1 n_2 st12)))) (CallT PR fn_canon_write [w_1, (.agg [(.int .i64 n7), (.bool b1), (.bool b2), (.str s4), (.int .i64 n8), (.int .i64 n9), (.int .i64 n10), (.int .i64 n11), (.int .i64 n12), (.str s5), v8, v9, v10])] [] st12 (fun  (st15 : St) => (I1 ((IntKind.i64.wrap (n_1 + (1 : Int)))) (w_1) (v_1) (n_2) st15 ∧ M1 ((IntKind.i64.wrap (n_1 + (1 : Int)))) (w_1) (v_1) (n_2) st15 < M1 n_1 w_1 v_1 n_2 st12)))))))) (CallT PR fn_strings_Builder_WriteByte [w_1, (.int .u8 (93 : Int))] [.one (.tv)] st12 (fun (v12 : TV) (st16 : St) => K  st16)))))) (BIf (decide (v_0 = (7 : Int))) (CallT PR fn_strings_Builder_WriteByte [(.box w 0), (.int .u8 (123 : Int))] [.one (.tv)] st (fun (v13 : TV) (st17 : St) => need (isSl v_12) (∃ (I2 : Int → TV → TV → Int → St → Prop) (M2 : Int → TV → TV → Int → St → Nat), (I2 ((0 : Int)) ((.box w 0)) (v_12) ((lenS v_12 : Int)) st17) ∧ ∀ (n_3 : Int) (w_2 : TV) (v_2 : TV) (n_4 : Int) (st18 : St), I2 n_3 w_2 v_2 n_4 st18 → (BIf (decide (n_3 < n_4)) (((0 ≤ n_3 ∧ n_3 < (lenZ 14 v_2 : Int)) ∧ optK ((ldCells st18 [] (.t (ixT 14 v_2 (Int.toNat n_3))) 0 14).map TV.agg) (fun (x2 : TV) => decA [.str, .int .i64, .bool, .bool, .str, .int .i64, .int .i64, .int .i64, .int .i64, .int .i64, .str, .tv, .tv, .tv] x2 (fun (s6 : List UInt8) (n13 : Int) (b3 : Bool) (b4 : Bool) (s7 : List UInt8) (n14 : Int) (n15 : Int) (n16 : Int) (n17 : Int) (n18 : Int) (s8 : List UInt8) (v14 : TV) (v15 : TV) (v16 : TV) => need (List.all [(.str s6), (.int .i64 n13), (.bool b3), (.bool b4), (.str s7), (.int .i64 n14), (.int .i64 n15), (.int .i64 n16), (.int .i64 n17), (.int .i64 n18), (.str s8), v14, v15, v16] oneT) (BIf (decide ((0 : Int) < n_3)) (CallT PR fn_strings_Builder_WriteByte [w_2, (.int .u8 (44 : Int))] [.one (.tv)] st18 (fun (v17 : TV) (st19 : St) => CallT PR fn_canon_quote [w_2, (.str s6)] [] st19 (fun  (st20 : St) => CallT PR fn_strings_Builder_WriteByte [w_2, (.int .u8 (58 : Int))] [.one (.tv)] st20 (fun (v18 : TV) (st21 : St) => CallT PR fn_canon_write [w_2, (.agg [(.int .i64 n13), (.bool b3), (.bool b4), (.str s7), (.int .i64 n14), (.int .i64 n15), (.int .i64 n16), (.int .i64 n17), (.int .i64 n18), (.str s8), v14, v15, v16])] [] st21 (fun  (st22 : St) => (I2 ((IntKind.i64.wrap (n_3 + (1 : Int)))) (w_2) (v_2) (n_4) st22 ∧ M2 ((IntKind.i64.wrap (n_3 + (1 : Int)))) (w_2) (v_2) (n_4) st22 < M2 n_3 w_2 v_2 n_4 st18)))))) (CallT PR fn_canon_quote [w_2, (.str s6)] [] st18 (fun  (st23 : St) => CallT PR fn_strings_Builder_WriteByte [w_2, (.int .u8 (58 : Int))] [.one (.tv)] st23 (fun (v19 : TV) (st24 : St) => CallT PR fn_canon_write [w_2, (.agg [(.int .i64 n13), (.bool b3), (.bool b4), (.str s7), (.int .i64 n14), (.int .i64 n15), (.int .i64 n16), (.int .i64 n17), (.int .i64 n18), (.str s8), v14, v15, v16])] [] st24 (fun  (st25 : St) => (I2 ((IntKind.i64.wrap (n_3 + (1 : Int)))) (w_2) (v_2) (n_4) st25 ∧ M2 ((IntKind.i64.wrap (n_3 + (1 : Int)))) (w_2) (v_2) (n_4) st25 < M2 n_3 w_2 v_2 n_4 st18)))))))))) (CallT PR fn_strings_Builder_WriteByte [w_2, (.int .u8 (125 : Int))] [.one (.tv)] st18 (fun (v20 : TV) (st26 : St) => K  st26)))))) (K  st))))))))) : CallT PR fn_canon_write [(.box w 0), (.agg [(.int .i64 v_0), (.bool v_1), (.bool v_2), (.str v_3), (.int .i64 v_4), (.int .i64 v_5), (.int .i64 v_6), (.int .i64 v_7), (.int .i64 v_8), (.str v_9), v_10, v_11, v_12])] [] st K :=
  tcalls_fw (cfg := ⟨[3, 5, 7], [], []⟩) (h := (.seq .none (.seq .none (.block (.seq .none (.cond .none (.seq .none (.cond .none (.seq .none (.cond .none (.seq .none (.cond .none (.seq .none (.cond .none (.seq .none (.cond .none (.seq .none (.cond (.seq .none (.seq (.seq .none (.block (.loop ⟨[(60, .int .i64), (0, .tv), (58, .tv), (59, .int .i64)], [], [], []⟩ .none))) .none)) (.seq .none (.cond (.seq .none (.seq (.seq .none (.block (.loop ⟨[(82, .int .i64), (0, .tv), (80, .tv), (81, .int .i64)], [], [], []⟩ .none))) .none)) .none)))))))))))))))))))) mixed (fun _ _ => Tryz.call153 _ _) Tryz.func153 (by kernel_rfl) (by kernel_rfl) h
set_option maxRecDepth 100000 in
theorem vc_strings_Builder_String (b : Nat) (st : St) (K : List UInt8 → St → Prop) (h : optK (ldCell st [] (.t (.box b 1)) 0) (fun (v1 : TV) => optK (sdataO v1) (fun (v2 : TV) => optK (ldCell st [] (.t (.box b 1)) 0) (fun (v3 : TV) => need (isSl v3) (usK 5 v2 (lenS v3 : Int) st (fun (s1 : List UInt8) (st1 : St) => K (s1) st1)))))) : CallT PR fn_strings_Builder_String [(.box b 0)] [.one (.str)] st K :=
  tcalls_fw (cfg := ⟨[], [], []⟩) (h := .none) mixed (fun _ _ => Tryz.call154 _ _) Tryz.func154 (by kernel_rfl) (by kernel_rfl) h
end Go.TVF
end

section
set_option linter.unusedVariables false
namespace Go.TVF
open Go Go.Proofs
set_option maxRecDepth 100000 in
theorem vc_datakitref07_Fields (l : TV) (st : St) (K : TV → St → Prop) (h : ∃ (I1 : TV → Int → TV → St → Prop) (M1 : TV → Int → TV → St → Nat), (I1 (.nilSlice) ((0 : Int)) (l) st) ∧ ∀ (out_1 : TV) (i_1 : Int) (l_1 : TV) (st1 : St), I1 out_1 i_1 l_1 st1 → (need (isSl l_1) (BIf (decide (i_1 < (lenS l_1 : Int))) (∃ (I2 : Int → TV → TV → Int → St → Prop) (M2 : Int → TV → TV → Int → St → Nat), (I2 ((0 : Int)) (l_1) (out_1) (i_1) st1) ∧ ∀ (k_1 : Int) (l_2 : TV) (out_2 : TV) (i_2 : Int) (st2 : St), I2 k_1 l_2 out_2 i_2 st2 → (need (isSl out_2) (BIf (decide (k_1 < (lenS out_2 : Int))) (((0 ≤ k_1 ∧ k_1 < (lenZ 14 out_2 : Int)) ∧ need (isPtr (ixT 14 out_2 (Int.toNat k_1))) (optK (ldCell st2 [] (.t (fldT (ixT 14 out_2 (Int.toNat k_1)) 0)) 0) (fun (x1 : TV) => decT (.str) x1 (fun (s1 : List UInt8) => ((0 ≤ i_2 ∧ i_2 < (lenZ 14 l_2 : Int)) ∧ need (isPtr (ixT 14 l_2 (Int.toNat i_2))) (optK (ldCell st2 [] (.t (fldT (ixT 14 l_2 (Int.toNat i_2)) 0)) 0) (fun (x2 : TV) => decT (.str) x2 (fun (s2 : List UInt8) => BIf (Op.bytesLess s1 s2 || decide (s1 = s2)) ((I2 ((IntKind.i64.wrap (k_1 + (1 : Int)))) (l_2) (out_2) (i_2) st2 ∧ M2 ((IntKind.i64.wrap (k_1 + (1 : Int)))) (l_2) (out_2) (i_2) st2 < M2 k_1 l_2 out_2 i_2 st2)) (((isLst 14 out_2 = true ∧ 0 ≤ k_1 ∧ k_1 ≤ (lenS out_2 : Int)) ∧ optK (appSrc st2 14 (slT 14 .non out_2 0 (Int.toNat k_1))) (fun (q2 : Nat × List TV) => need (List.all q2.2 oneT) (appK 82 14 184 (.list 14 .full 0 []) q2.1 q2.2 st2 (fun (v1 : TV) (st3 : St) => ((0 ≤ i_2 ∧ i_2 < (lenZ 14 l_2 : Int)) ∧ optK ((ldCells st3 [] (.t (ixT 14 l_2 (Int.toNat i_2))) 0 14).map TV.agg) (fun (x3 : TV) => decA [.str, .int .i64, .bool, .bool, .str, .int .i64, .int .i64, .int .i64, .int .i64, .int .i64, .str, .tv, .tv, .tv] x3 (fun (s3 : List UInt8) (n1 : Int) (b1 : Bool) (b2 : Bool) (s4 : List UInt8) (n2 : Int) (n3 : Int) (n4 : Int) (n5 : Int) (n6 : Int) (s5 : List UInt8) (v2 : TV) (v3 : TV) (v4 : TV) => need (List.all [(.str s3), (.int .i64 n1), (.bool b1), (.bool b2), (.str s4), (.int .i64 n2), (.int .i64 n3), (.int .i64 n4), (.int .i64 n5), (.int .i64 n6), (.str s5), v2, v3, v4] oneT) (appK 82 14 184 v1 1 [(.str s3), (.int .i64 n1), (.bool b1), (.bool b2), (.str s4), (.int .i64 n2), (.int .i64 n3), (.int .i64 n4), (.int .i64 n5), (.int .i64 n6), (.str s5), v2, v3, v4] st3 (fun (v5 : TV) (st4 : St) => ((isLst 14 out_2 = true ∧ 0 ≤ k_1 ∧ k_1 ≤ (lenS out_2 : Int)) ∧ optK (appSrc st4 14 (slT 14 .non out_2 (Int.toNat k_1) (lenS out_2))) (fun (q1 : Nat × List TV) => need (List.all q1.2 oneT) (appK 82 14 184 v5 q1.1 q1.2 st4 (fun (v6 : TV) (st5 : St) => (I1 (v6) ((IntKind.i64.wrap (i_2 + (1 : Int)))) (l_2) st5 ∧ M1 (v6) ((IntKind.i64.wrap (i_2 + (1 : Int)))) (l_2) st5 < M1 out_1 i_1 l_1 st1)))))))))))))))))))))))) (((isLst 14 out_2 = true ∧ 0 ≤ k_1 ∧ k_1 ≤ (lenS out_2 : Int)) ∧ optK (appSrc st2 14 (slT 14 .non out_2 0 (Int.toNat k_1))) (fun (q4 : Nat × List TV) => need (List.all q4.2 oneT) (appK 82 14 184 (.list 14 .full 0 []) q4.1 q4.2 st2 (fun (v7 : TV) (st6 : St) => ((0 ≤ i_2 ∧ i_2 < (lenZ 14 l_2 : Int)) ∧ optK ((ldCells st6 [] (.t (ixT 14 l_2 (Int.toNat i_2))) 0 14).map TV.agg) (fun (x4 : TV) => decA [.str, .int .i64, .bool, .bool, .str, .int .i64, .int .i64, .int .i64, .int .i64, .int .i64, .str, .tv, .tv, .tv] x4 (fun (s6 : List UInt8) (n7 : Int) (b3 : Bool) (b4 : Bool) (s7 : List UInt8) (n8 : Int) (n9 : Int) (n10 : Int) (n11 : Int) (n12 : Int) (s8 : List UInt8) (v8 : TV) (v9 : TV) (v10 : TV) => need (List.all [(.str s6), (.int .i64 n7), (.bool b3), (.bool b4), (.str s7), (.int .i64 n8), (.int .i64 n9), (.int .i64 n10), (.int .i64 n11), (.int .i64 n12), (.str s8), v8, v9, v10] oneT) (appK 82 14 184 v7 1 [(.str s6), (.int .i64 n7), (.bool b3), (.bool b4), (.str s7), (.int .i64 n8), (.int .i64 n9), (.int .i64 n10), (.int .i64 n11), (.int .i64 n12), (.str s8), v8, v9, v10] st6 (fun (v11 : TV) (st7 : St) => ((isLst 14 out_2 = true ∧ 0 ≤ k_1 ∧ k_1 ≤ (lenS out_2 : Int)) ∧ optK (appSrc st7 14 (slT 14 .non out_2 (Int.toNat k_1) (lenS out_2))) (fun (q3 : Nat × List TV) => need (List.all q3.2 oneT) (appK 82 14 184 v11 q3.1 q3.2 st7 (fun (v12 : TV) (st8 : St) => (I1 (v12) ((IntKind.i64.wrap (i_2 + (1 : Int)))) (l_2) st8 ∧ M1 (v12) ((IntKind.i64.wrap (i_2 + (1 : Int)))) (l_2) st8 < M1 out_1 i_1 l_1 st1)))))))))))))))))) (K (out_1) st1)))) : CallT PR fn_datakitref07_Fields [l] [.one (.tv)] st K :=
  tcalls_fw (cfg := ⟨[], [], []⟩) (h := (.seq .none (.seq .none (.seq (.seq .none (.block (.loop ⟨[(3, .tv), (4, .int .i64), (0, .tv)], [], [], []⟩ (.seq .none (.seq (.block (.seq .none (.seq (.block (.loop ⟨[(5, .int .i64), (0, .tv), (3, .tv), (4, .int .i64)], [], [], []⟩ .none)) .none))) .none))))) .none)))) mixed (fun _ _ => Tryz.call157 _ _) Tryz.func157 (by kernel_rfl) (by kernel_rfl) h
set_option maxRecDepth 100000 in
theorem vc_datakitref07_one (v_0 : Int) (v_1 : Bool) (v_2 : Bool) (v_3 : List UInt8) (v_4 : Int) (v_5 : Int) (v_6 : Int) (v_7 : Int) (v_8 : Int) (v_9 : List UInt8) (v_10 : TV) (v_11 : TV) (v_12 : TV) (st : St) (K : Int → St → Prop) (h : CallT PR fn_datakitref07_own [(.agg [(.int .i64 v_0), (.bool v_1), (.bool v_2), (.str v_3), (.int .i64 v_4), (.int .i64 v_5), (.int .i64 v_6), (.int .i64 v_7), (.int .i64 v_8), (.str v_9), v_10, v_11, v_12])] [.one (.bool)] st (fun (b1 : Bool) (st1 : St) => BIf (!b1) (K ((6 : Int)) st1) (CallT PR fn_datakitref02_Valid [(.agg [(.bool v_2), (.str v_3), (.int .i64 v_4)])] [.one (.bool)] st1 (fun (b2 : Bool) (st2 : St) => BIf (!b2) (K ((2 : Int)) st2) (BIf (decide (v_0 = (3 : Int))) (CallT PR fn_datakitref05_Valid [(.agg [(.int .i64 v_5), (.int .i64 v_6), (.int .i64 v_7), (.int .i64 v_8)])] [.one (.bool)] st2 (fun (b3 : Bool) (st3 : St) => BIf (!b3) (K ((2 : Int)) st3) (CallT PR fn_datakitref03_Valid [(.str v_9)] [.one (.bool)] st3 (fun (b4 : Bool) (st4 : St) => BIf (!b4) (K ((5 : Int)) st4) (BIf (decide ((65536 : Int) < ((v_9).length : Int))) (K ((10 : Int)) st4) (need (isSl v_10) (BIf (decide ((65536 : Int) < (lenS v_10 : Int))) (K ((10 : Int)) st4) (CallT PR fn_datakitref07_Keys [v_12] [.one (.int .i64)] st4 (fun (n1 : Int) (st5 : St) => K (n1) st5))))))))) (CallT PR fn_datakitref03_Valid [(.str v_9)] [.one (.bool)] st2 (fun (b5 : Bool) (st6 : St) => BIf (!b5) (K ((5 : Int)) st6) (BIf (decide ((65536 : Int) < ((v_9).length : Int))) (K ((10 : Int)) st6) (need (isSl v_10) (BIf (decide ((65536 : Int) < (lenS v_10 : Int))) (K ((10 : Int)) st6) (CallT PR fn_datakitref07_Keys [v_12] [.one (.int .i64)] st6 (fun (n2 : Int) (st7 : St) => K (n2) st7)))))))))))) : CallT PR fn_datakitref07_one [(.agg [(.int .i64 v_0), (.bool v_1), (.bool v_2), (.str v_3), (.int .i64 v_4), (.int .i64 v_5), (.int .i64 v_6), (.int .i64 v_7), (.int .i64 v_8), (.str v_9), v_10, v_11, v_12])] [.one (.int .i64)] st K :=
  tcalls_fw (cfg := ⟨[1], [], []⟩) (h := .none) mixed (fun _ _ => Tryz.call158 _ _) Tryz.func158 (by kernel_rfl) (by kernel_rfl) h
set_option maxRecDepth 100000 in
theorem vc_canon_number (b : TV) (d_0 : Bool) (d_1 : List UInt8) (d_2 : Int) (st : St) (K : TV → St → Prop) (h : BIf (decide (d_1 = ([] : List UInt8))) (appK 5 1 1 b 1 [(.int .u8 (0 : Int))] st (fun (v1 : TV) (st1 : St) => K (v1) st1)) (BIf d_0 (appK 5 1 1 b 1 [(.int .u8 (2 : Int))] st (fun (v2 : TV) (st2 : St) => CallT PR fn_canon_fold [(.int .i64 d_2)] [.one (.int .u64)] st2 (fun (n1 : Int) (st3 : St) => CallT PR fn_canon_natural [v2, (.int .u64 n1)] [.one (.tv)] st3 (fun (v3 : TV) (st4 : St) => CallT PR fn_canon_str [v3, (.str d_1)] [.one (.tv)] st4 (fun (v4 : TV) (st5 : St) => K (v4) st5))))) (appK 5 1 1 b 1 [(.int .u8 (1 : Int))] st (fun (v5 : TV) (st6 : St) => CallT PR fn_canon_fold [(.int .i64 d_2)] [.one (.int .u64)] st6 (fun (n2 : Int) (st7 : St) => CallT PR fn_canon_natural [v5, (.int .u64 n2)] [.one (.tv)] st7 (fun (v6 : TV) (st8 : St) => CallT PR fn_canon_str [v6, (.str d_1)] [.one (.tv)] st8 (fun (v7 : TV) (st9 : St) => K (v7) st9))))))) : CallT PR fn_canon_number [b, (.agg [(.bool d_0), (.str d_1), (.int .i64 d_2)])] [.one (.tv)] st K :=
  tcalls_fw (cfg := ⟨[3], [], []⟩) (h := .none) mixed (fun _ _ => Tryz.call159 _ _) Tryz.func159 (by kernel_rfl) (by kernel_rfl) h
set_option maxRecDepth 100000 in
theorem vc_canon_natural (b : TV) (n : Int) (st : St) (K : TV → St → Prop) (h : ∃ (I1 : TV → Int → St → Prop) (M1 : TV → Int → St → Nat), (I1 (b) (n) st) ∧ ∀ (b_1 : TV) (n_1 : Int) (st1 : St), I1 b_1 n_1 st1 → (BIf (decide ((128 : Int) ≤ n_1)) (appK 5 1 1 b_1 1 [(.int .u8 (bitsI .or .u8 (IntKind.u8.wrap n_1) (128 : Int)))] st1 (fun (v1 : TV) (st2 : St) => (I1 (v1) ((Int.fdiv n_1 (2 ^ (min (Int.toNat (7 : Int)) (IntKind.bits .u64))))) st2 ∧ M1 (v1) ((Int.fdiv n_1 (2 ^ (min (Int.toNat (7 : Int)) (IntKind.bits .u64))))) st2 < M1 b_1 n_1 st1))) (appK 5 1 1 b_1 1 [(.int .u8 (IntKind.u8.wrap n_1))] st1 (fun (v2 : TV) (st3 : St) => K (v2) st3)))) : CallT PR fn_canon_natural [b, (.int .u64 n)] [.one (.tv)] st K :=
  tcalls_fw (cfg := ⟨[], [], []⟩) (h := (.seq .none (.seq (.block (.loop ⟨[(0, .tv), (1, .int .u64)], [], [], []⟩ .none)) .none))) mixed (fun _ _ => Tryz.call160 _ _) Tryz.func160 (by kernel_rfl) (by kernel_rfl) h
set_option maxRecDepth 100000 in
theorem vc_canon_fold (n : Int) (st : St) (K : Int → St → Prop) (h : BIf (decide (n < (0 : Int))) (K ((IntKind.u64.wrap ((IntKind.u64.wrap ((IntKind.u64.wrap (IntKind.i64.wrap (0 - (IntKind.i64.wrap (n + (1 : Int)))))) * (2 : Int))) + (1 : Int)))) st) (K ((IntKind.u64.wrap ((IntKind.u64.wrap n) * (2 : Int)))) st)) : CallT PR fn_canon_fold [(.int .i64 n)] [.one (.int .u64)] st K :=
  tcalls_fw (cfg := ⟨[], [], []⟩) (h := .none) mixed (fun _ _ => Tryz.call161 _ _) Tryz.func161 (by kernel_rfl) (by kernel_rfl) h
set_option maxRecDepth 100000 in
theorem vc_canon_str (b : TV) (s : List UInt8) (st : St) (K : TV → St → Prop) (h : CallT PR fn_canon_natural [b, (.int .u64 (IntKind.u64.wrap ((s).length : Int)))] [.one (.tv)] st (fun (v1 : TV) (st1 : St) => optK (appSrc st1 1 (.str s)) (fun (q1 : Nat × List TV) => need (List.all q1.2 oneT) (appK 5 1 1 v1 q1.1 q1.2 st1 (fun (v2 : TV) (st2 : St) => K (v2) st2))))) : CallT PR fn_canon_str [b, (.str s)] [.one (.tv)] st K :=
  tcalls_fw (cfg := ⟨[], [], []⟩) (h := .none) mixed (fun _ _ => Tryz.call162 _ _) Tryz.func162 (by kernel_rfl) (by kernel_rfl) h
set_option maxRecDepth 100000 in
theorem vc_canon_count_byte_ (b : TV) (l : TV) (st : St) (K : TV → St → Prop) (h : need (isSl l) (CallT PR fn_canon_natural [b, (.int .u64 (IntKind.u64.wrap (lenS l : Int)))] [.one (.tv)] st (fun (v1 : TV) (st1 : St) => K (v1) st1))) : CallT PR fn_canon_count_byte_ [b, l] [.one (.tv)] st K :=
  tcalls_fw (cfg := ⟨[], [], []⟩) (h := .none) mixed (fun _ _ => Tryz.call163 _ _) Tryz.func163 (by kernel_rfl) (by kernel_rfl) h
set_option maxRecDepth 100000 in
theorem vc_canon_count_api_Value_ (b : TV) (l : TV) (st : St) (K : TV → St → Prop) (h : need (isSl l) (CallT PR fn_canon_natural [b, (.int .u64 (IntKind.u64.wrap (lenS l : Int)))] [.one (.tv)] st (fun (v1 : TV) (st1 : St) => K (v1) st1))) : CallT PR fn_canon_count_api_Value_ [b, l] [.one (.tv)] st K :=
  tcalls_fw (cfg := ⟨[], [], []⟩) (h := .none) mixed (fun _ _ => Tryz.call164 _ _) Tryz.func164 (by kernel_rfl) (by kernel_rfl) h
set_option maxRecDepth 100000 in
theorem vc_canon_count_api_Field_ (b : TV) (l : TV) (st : St) (K : TV → St → Prop) (h : need (isSl l) (CallT PR fn_canon_natural [b, (.int .u64 (IntKind.u64.wrap (lenS l : Int)))] [.one (.tv)] st (fun (v1 : TV) (st1 : St) => K (v1) st1))) : CallT PR fn_canon_count_api_Field_ [b, l] [.one (.tv)] st K :=
  tcalls_fw (cfg := ⟨[], [], []⟩) (h := .none) mixed (fun _ _ => Tryz.call165 _ _) Tryz.func165 (by kernel_rfl) (by kernel_rfl) h
set_option maxRecDepth 100000 in
theorem vc_value_arranged (v_0 : Int) (v_1 : Bool) (v_2 : Bool) (v_3 : List UInt8) (v_4 : Int) (v_5 : Int) (v_6 : Int) (v_7 : Int) (v_8 : Int) (v_9 : List UInt8) (v_10 : TV) (v_11 : TV) (v_12 : TV) (st : St) (K : Int → Bool → Bool → List UInt8 → Int → Int → Int → Int → Int → List UInt8 → TV → TV → TV → St → Prop) (h : need (isSl v_11) (∃ (I1 : Int → Int → Int → Bool → Bool → List UInt8 → Int → Int → Int → Int → Int → List UInt8 → TV → TV → TV → Int → Bool → Bool → List UInt8 → Int → Int → Int → Int → Int → List UInt8 → TV → TV → TV → St → Prop) (M1 : Int → Int → Int → Bool → Bool → List UInt8 → Int → Int → Int → Int → Int → List UInt8 → TV → TV → TV → Int → Bool → Bool → List UInt8 → Int → Int → Int → Int → Int → List UInt8 → TV → TV → TV → St → Nat), (I1 ((0 : Int)) ((lenS v_11 : Int)) (v_0) (v_1) (v_2) (v_3) (v_4) (v_5) (v_6) (v_7) (v_8) (v_9) (v_10) (v_11) (v_12) ((0 : Int)) (false) (false) (([] : List UInt8)) ((0 : Int)) ((0 : Int)) ((0 : Int)) ((0 : Int)) ((0 : Int)) (([] : List UInt8)) (.nilSlice) (.nilSlice) (.nilSlice) st) ∧ ∀ (n_1 : Int) (n_2 : Int) (n1 : Int) (b1 : Bool) (b2 : Bool) (s1 : List UInt8) (n2 : Int) (n3 : Int) (n4 : Int) (n5 : Int) (n6 : Int) (s2 : List UInt8) (v1 : TV) (v2 : TV) (v3 : TV) (n7 : Int) (b3 : Bool) (b4 : Bool) (s3 : List UInt8) (n8 : Int) (n9 : Int) (n10 : Int) (n11 : Int) (n12 : Int) (s4 : List UInt8) (v4 : TV) (v5 : TV) (v6 : TV) (st1 : St), I1 n_1 n_2 n1 b1 b2 s1 n2 n3 n4 n5 n6 s2 v1 v2 v3 n7 b3 b4 s3 n8 n9 n10 n11 n12 s4 v4 v5 v6 st1 → (BIf (decide (n_1 < n_2)) (((0 ≤ n_1 ∧ n_1 < (lenZ 13 v2 : Int)) ∧ optK ((ldCells st1 [] (.t (ixT 13 v2 (Int.toNat n_1))) 0 13).map TV.agg) (fun (x1 : TV) => decA [.int .i64, .bool, .bool, .str, .int .i64, .int .i64, .int .i64, .int .i64, .int .i64, .str, .tv, .tv, .tv] x1 (fun (n13 : Int) (b5 : Bool) (b6 : Bool) (s5 : List UInt8) (n14 : Int) (n15 : Int) (n16 : Int) (n17 : Int) (n18 : Int) (s6 : List UInt8) (v7 : TV) (v8 : TV) (v9 : TV) => CallT PR fn_value_arranged [(.agg [(.int .i64 n13), (.bool b5), (.bool b6), (.str s5), (.int .i64 n14), (.int .i64 n15), (.int .i64 n16), (.int .i64 n17), (.int .i64 n18), (.str s6), v7, v8, v9])] [.agg [.int .i64, .bool, .bool, .str, .int .i64, .int .i64, .int .i64, .int .i64, .int .i64, .str, .tv, .tv, .tv]] st1 (fun (n19 : Int) (b7 : Bool) (b8 : Bool) (s7 : List UInt8) (n20 : Int) (n21 : Int) (n22 : Int) (n23 : Int) (n24 : Int) (s8 : List UInt8) (v10 : TV) (v11 : TV) (v12 : TV) (st2 : St) => ((0 ≤ n_1 ∧ n_1 < (lenZ 13 v2 : Int)) ∧ need (List.all [(.int .i64 n19), (.bool b7), (.bool b8), (.str s7), (.int .i64 n20), (.int .i64 n21), (.int .i64 n22), (.int .i64 n23), (.int .i64 n24), (.str s8), v10, v11, v12] oneT) (stB st2 (ixT 13 v2 (Int.toNat n_1)) [(.int .i64 n19), (.bool b7), (.bool b8), (.str s7), (.int .i64 n20), (.int .i64 n21), (.int .i64 n22), (.int .i64 n23), (.int .i64 n24), (.str s8), v10, v11, v12] (fun (st3 : St) => (I1 ((IntKind.i64.wrap (n_1 + (1 : Int)))) (n_2) (n1) (b1) (b2) (s1) (n2) (n3) (n4) (n5) (n6) (s2) (v1) (v2) (v3) (n7) (b3) (b4) (s3) (n8) (n9) (n10) (n11) (n12) (s4) (v4) (v5) (v6) st3 ∧ M1 ((IntKind.i64.wrap (n_1 + (1 : Int)))) (n_2) (n1) (b1) (b2) (s1) (n2) (n3) (n4) (n5) (n6) (s2) (v1) (v2) (v3) (n7) (b3) (b4) (s3) (n8) (n9) (n10) (n11) (n12) (s4) (v4) (v5) (v6) st3 < M1 n_1 n_2 n1 b1 b2 s1 n2 n3 n4 n5 n6 s2 v1 v2 v3 n7 b3 b4 s3 n8 n9 n10 n11 n12 s4 v4 v5 v6 st1))))))))) (CallT PR fn_value_sorted [(.agg [(.int .i64 n1), (.bool b1), (.bool b2), (.str s1), (.int .i64 n2), (.int .i64 n3), (.int .i64 n4), (.int .i64 n5), (.int .i64 n6), (.str s2), v1, v2, v3])] [.one (.tv)] st1 (fun (v13 : TV) (st4 : St) => need (List.all [v13] oneT) (need (isSl v13) (∃ (I2 : Int → Int → Int → Bool → Bool → List UInt8 → Int → Int → Int → Int → Int → List UInt8 → TV → TV → TV → Int → Bool → Bool → List UInt8 → Int → Int → Int → Int → Int → List UInt8 → TV → TV → TV → St → Prop) (M2 : Int → Int → Int → Bool → Bool → List UInt8 → Int → Int → Int → Int → Int → List UInt8 → TV → TV → TV → Int → Bool → Bool → List UInt8 → Int → Int → Int → Int → Int → List UInt8 → TV → TV → TV → St → Nat), (I2 ((0 : Int)) ((lenS v13 : Int)) (n1) (b1) (b2) (s1) (n2) (n3) (n4) (n5) (n6) (s2) (v1) (v2) (v13) (n7) (b3) (b4) (s3) (n8) (n9) (n10) (n11) (n12) (s4) (v4) (v5) (v6) st4) ∧ ∀ (n_3 : Int) (n_4 : Int) (n25 : Int) (b9 : Bool) (b10 : Bool) (s9 : List UInt8) (n26 : Int) (n27 : Int) (n28 : Int) (n29 : Int) (n30 : Int) (s10 : List UInt8) (v14 : TV) (v15 : TV) (v16 : TV) (n31 : Int) (b11 : Bool) (b12 : Bool) (s11 : List UInt8) (n32 : Int) (n33 : Int) (n34 : Int) (n35 : Int) (n36 : Int) (s12 : List UInt8) (v17 : TV) (v18 : TV) (v19 : TV) (st5 : St), I2 n_3 n_4 n25 b9 b10 s9 n26 n27 n28 n29 n30 s10 v14 v15 v16 n31 b11 b12 s11 n32 n33 n34 n35 n36 s12 v17 v18 v19 st5 → (BIf (decide (n_3 < n_4)) (((0 ≤ n_3 ∧ n_3 < (lenZ 14 v16 : Int)) ∧ need (isPtr (ixT 14 v16 (Int.toNat n_3))) (optK ((ldCells st5 [] (.t (fldT (ixT 14 v16 (Int.toNat n_3)) 1)) 0 13).map TV.agg) (fun (x2 : TV) => decA [.int .i64, .bool, .bool, .str, .int .i64, .int .i64, .int .i64, .int .i64, .int .i64, .str, .tv, .tv, .tv] x2 (fun (n37 : Int) (b13 : Bool) (b14 : Bool) (s13 : List UInt8) (n38 : Int) (n39 : Int) (n40 : Int) (n41 : Int) (n42 : Int) (s14 : List UInt8) (v20 : TV) (v21 : TV) (v22 : TV) => CallT PR fn_value_arranged [(.agg [(.int .i64 n37), (.bool b13), (.bool b14), (.str s13), (.int .i64 n38), (.int .i64 n39), (.int .i64 n40), (.int .i64 n41), (.int .i64 n42), (.str s14), v20, v21, v22])] [.agg [.int .i64, .bool, .bool, .str, .int .i64, .int .i64, .int .i64, .int .i64, .int .i64, .str, .tv, .tv, .tv]] st5 (fun (n43 : Int) (b15 : Bool) (b16 : Bool) (s15 : List UInt8) (n44 : Int) (n45 : Int) (n46 : Int) (n47 : Int) (n48 : Int) (s16 : List UInt8) (v23 : TV) (v24 : TV) (v25 : TV) (st6 : St) => ((0 ≤ n_3 ∧ n_3 < (lenZ 14 v16 : Int)) ∧ need (isPtr (ixT 14 v16 (Int.toNat n_3))) (need (List.all [(.int .i64 n43), (.bool b15), (.bool b16), (.str s15), (.int .i64 n44), (.int .i64 n45), (.int .i64 n46), (.int .i64 n47), (.int .i64 n48), (.str s16), v23, v24, v25] oneT) (stB st6 (fldT (ixT 14 v16 (Int.toNat n_3)) 1) [(.int .i64 n43), (.bool b15), (.bool b16), (.str s15), (.int .i64 n44), (.int .i64 n45), (.int .i64 n46), (.int .i64 n47), (.int .i64 n48), (.str s16), v23, v24, v25] (fun (st7 : St) => (I2 ((IntKind.i64.wrap (n_3 + (1 : Int)))) (n_4) (n25) (b9) (b10) (s9) (n26) (n27) (n28) (n29) (n30) (s10) (v14) (v15) (v16) (n31) (b11) (b12) (s11) (n32) (n33) (n34) (n35) (n36) (s12) (v17) (v18) (v19) st7 ∧ M2 ((IntKind.i64.wrap (n_3 + (1 : Int)))) (n_4) (n25) (b9) (b10) (s9) (n26) (n27) (n28) (n29) (n30) (s10) (v14) (v15) (v16) (n31) (b11) (b12) (s11) (n32) (n33) (n34) (n35) (n36) (s12) (v17) (v18) (v19) st7 < M2 n_3 n_4 n25 b9 b10 s9 n26 n27 n28 n29 n30 s10 v14 v15 v16 n31 b11 b12 s11 n32 n33 n34 n35 n36 s12 v17 v18 v19 st5))))))))))) (need (List.all [(.int .i64 n25), (.bool b9), (.bool b10), (.str s9), (.int .i64 n26), (.int .i64 n27), (.int .i64 n28), (.int .i64 n29), (.int .i64 n30), (.str s10), v14, v15, v16] oneT) (K (n25) (b9) (b10) (s9) (n26) (n27) (n28) (n29) (n30) (s10) (v14) (v15) (v16) st5)))))))))) : CallT PR fn_value_arranged [(.agg [(.int .i64 v_0), (.bool v_1), (.bool v_2), (.str v_3), (.int .i64 v_4), (.int .i64 v_5), (.int .i64 v_6), (.int .i64 v_7), (.int .i64 v_8), (.str v_9), v_10, v_11, v_12])] [.agg [.int .i64, .bool, .bool, .str, .int .i64, .int .i64, .int .i64, .int .i64, .int .i64, .str, .tv, .tv, .tv]] st K :=
  tcalls_fw (cfg := ⟨[1, 2], [], [18, 39]⟩) (h := (.seq .none (.seq (.seq .none (.block (.loop ⟨[(8, .int .i64), (7, .int .i64)], [(1, 0, 0), (2, 1, 0)], [(0, 13), (1, 13)], [(0, 0, .int .i64), (0, 1, .bool), (0, 2, .bool), (0, 3, .str), (0, 4, .int .i64), (0, 5, .int .i64), (0, 6, .int .i64), (0, 7, .int .i64), (0, 8, .int .i64), (0, 9, .str), (0, 10, .tv), (0, 11, .tv), (0, 12, .tv), (1, 0, .int .i64), (1, 1, .bool), (1, 2, .bool), (1, 3, .str), (1, 4, .int .i64), (1, 5, .int .i64), (1, 6, .int .i64), (1, 7, .int .i64), (1, 8, .int .i64), (1, 9, .str), (1, 10, .tv), (1, 11, .tv), (1, 12, .tv)]⟩ .none))) (.seq .none (.seq (.seq .none (.block (.loop ⟨[(28, .int .i64), (27, .int .i64)], [(1, 0, 0), (2, 1, 0)], [(0, 13), (1, 13)], [(0, 0, .int .i64), (0, 1, .bool), (0, 2, .bool), (0, 3, .str), (0, 4, .int .i64), (0, 5, .int .i64), (0, 6, .int .i64), (0, 7, .int .i64), (0, 8, .int .i64), (0, 9, .str), (0, 10, .tv), (0, 11, .tv), (0, 12, .tv), (1, 0, .int .i64), (1, 1, .bool), (1, 2, .bool), (1, 3, .str), (1, 4, .int .i64), (1, 5, .int .i64), (1, 6, .int .i64), (1, 7, .int .i64), (1, 8, .int .i64), (1, 9, .str), (1, 10, .tv), (1, 11, .tv), (1, 12, .tv)]⟩ .none))) .none))))) mixed (fun _ _ => Tryz.call166 _ _) Tryz.func166 (by kernel_rfl) (by kernel_rfl) h
set_option maxRecDepth 100000 in
theorem vc_utf_Len (s : List UInt8) (st : St) (K : Int → Int → St → Prop) (h : ∃ (I1 : Int → Int → List UInt8 → St → Prop) (M1 : Int → Int → List UInt8 → St → Nat), (I1 ((0 : Int)) ((0 : Int)) (s) st) ∧ ∀ (n_1 : Int) (at_1 : Int) (s_1 : List UInt8) (st1 : St), I1 n_1 at_1 s_1 st1 → (BIf (decide (at_1 < ((s_1).length : Int))) (CallT PR fn_utf_Decode [(.str s_1), (.int .i64 at_1)] [.one (.int .i64), .one (.int .i64)] st1 (fun (n1 : Int) (n2 : Int) (st2 : St) => BIf (decide (n2 = (0 : Int))) (K ((0 : Int)) ((5 : Int)) st2) ((I1 ((IntKind.i64.wrap (n_1 + (1 : Int)))) ((IntKind.i64.wrap (at_1 + n2))) (s_1) st2 ∧ M1 ((IntKind.i64.wrap (n_1 + (1 : Int)))) ((IntKind.i64.wrap (at_1 + n2))) (s_1) st2 < M1 n_1 at_1 s_1 st1)))) (K (n_1) ((0 : Int)) st1))) : CallT PR fn_utf_Len [(.str s)] [.one (.int .i64), .one (.int .i64)] st K :=
  tcalls_fw (cfg := ⟨[], [], []⟩) (h := (.seq .none (.seq .none (.seq (.seq .none (.block (.loop ⟨[(4, .int .i64), (5, .int .i64), (0, .str)], [], [], []⟩ .none))) .none)))) mixed (fun _ _ => Tryz.call170 _ _) Tryz.func170 (by kernel_rfl) (by kernel_rfl) h
end Go.TVF
end

section
set_option linter.unusedVariables false
namespace Go.TVF
open Go Go.Proofs
set_option maxRecDepth 100000 in
theorem vc_slices_Clone___byte_byte_ (s : TV) (st : St) (K : TV → St → Prop) (h : need (isSl s) (BIf (isNilT s) (K (.nilSlice) st) (optK (appSrc st 1 s) (fun (q1 : Nat × List TV) => need (List.all q1.2 oneT) (appB 5 1 1 (.list 1 .full 0 []) q1.1 q1.2 st (fun (v1 : TV) (st1 : St) => K (v1) st1)))))) : CallT PR fn_slices_Clone___byte_byte_ [s] [.one (.tv)] st K :=
  tcalls_fw (cfg := ⟨[], [7], []⟩) (h := .none) mixed (fun _ _ => Tryz.call190 _ _) Tryz.func190 (by kernel_rfl) (by kernel_rfl) h
set_option maxRecDepth 100000 in
theorem vc_value_extra (v_0 : Int) (v_1 : Bool) (v_2 : Bool) (v_3 : List UInt8) (v_4 : Int) (v_5 : Int) (v_6 : Int) (v_7 : Int) (v_8 : Int) (v_9 : List UInt8) (v_10 : TV) (v_11 : TV) (v_12 : TV) (st : St) (K : Bool → St → Prop) (h : BIf (decide (v_0 ≠ (1 : Int))) (BIf v_1 (K (true) st) (BIf (decide (v_0 ≠ (2 : Int))) (BIf (!((v_2 == false) && (decide (v_3 = ([] : List UInt8)) && (decide (v_4 = (0 : Int)) && true)))) (K (true) st) (BIf (decide (v_0 ≠ (3 : Int))) (BIf (!(decide (v_5 = (0 : Int)) && (decide (v_6 = (0 : Int)) && (decide (v_7 = (0 : Int)) && (decide (v_8 = (0 : Int)) && true))))) (K (true) st) (BIf (decide (v_0 ≠ (4 : Int))) (BIf (decide (v_9 ≠ ([] : List UInt8))) (K (true) st) (BIf (decide (v_0 ≠ (5 : Int))) (need (isSl v_10) (BIf (decide ((0 : Int) < (lenS v_10 : Int))) (K (true) st) (BIf (decide (v_0 ≠ (6 : Int))) (need (isSl v_11) (BIf (decide ((0 : Int) < (lenS v_11 : Int))) (K (true) st) (BIf (decide (v_0 ≠ (7 : Int))) (need (isSl v_12) (K ((decide ((0 : Int) < (lenS v_12 : Int)))) st)) (K (false) st)))) (BIf (decide (v_0 ≠ (7 : Int))) (need (isSl v_12) (K ((decide ((0 : Int) < (lenS v_12 : Int)))) st)) (K (false) st))))) (BIf (decide (v_0 ≠ (6 : Int))) (need (isSl v_11) (BIf (decide ((0 : Int) < (lenS v_11 : Int))) (K (true) st) (BIf (decide (v_0 ≠ (7 : Int))) (need (isSl v_12) (K ((decide ((0 : Int) < (lenS v_12 : Int)))) st)) (K (false) st)))) (BIf (decide (v_0 ≠ (7 : Int))) (need (isSl v_12) (K ((decide ((0 : Int) < (lenS v_12 : Int)))) st)) (K (false) st))))) (BIf (decide (v_0 ≠ (5 : Int))) (need (isSl v_10) (BIf (decide ((0 : Int) < (lenS v_10 : Int))) (K (true) st) (BIf (decide (v_0 ≠ (6 : Int))) (need (isSl v_11) (BIf (decide ((0 : Int) < (lenS v_11 : Int))) (K (true) st) (BIf (decide (v_0 ≠ (7 : Int))) (need (isSl v_12) (K ((decide ((0 : Int) < (lenS v_12 : Int)))) st)) (K (false) st)))) (BIf (decide (v_0 ≠ (7 : Int))) (need (isSl v_12) (K ((decide ((0 : Int) < (lenS v_12 : Int)))) st)) (K (false) st))))) (BIf (decide (v_0 ≠ (6 : Int))) (need (isSl v_11) (BIf (decide ((0 : Int) < (lenS v_11 : Int))) (K (true) st) (BIf (decide (v_0 ≠ (7 : Int))) (need (isSl v_12) (K ((decide ((0 : Int) < (lenS v_12 : Int)))) st)) (K (false) st)))) (BIf (decide (v_0 ≠ (7 : Int))) (need (isSl v_12) (K ((decide ((0 : Int) < (lenS v_12 : Int)))) st)) (K (false) st)))))) (BIf (decide (v_0 ≠ (4 : Int))) (BIf (decide (v_9 ≠ ([] : List UInt8))) (K (true) st) (BIf (decide (v_0 ≠ (5 : Int))) (need (isSl v_10) (BIf (decide ((0 : Int) < (lenS v_10 : Int))) (K (true) st) (BIf (decide (v_0 ≠ (6 : Int))) (need (isSl v_11) (BIf (decide ((0 : Int) < (lenS v_11 : Int))) (K (true) st) (BIf (decide (v_0 ≠ (7 : Int))) (need (isSl v_12) (K ((decide ((0 : Int) < (lenS v_12 : Int)))) st)) (K (false) st)))) (BIf (decide (v_0 ≠ (7 : Int))) (need (isSl v_12) (K ((decide ((0 : Int) < (lenS v_12 : Int)))) st)) (K (false) st))))) (BIf (decide (v_0 ≠ (6 : Int))) (need (isSl v_11) (BIf (decide ((0 : Int) < (lenS v_11 : Int))) (K (true) st) (BIf (decide (v_0 ≠ (7 : Int))) (need (isSl v_12) (K ((decide ((0 : Int) < (lenS v_12 : Int)))) st)) (K (false) st)))) (BIf (decide (v_0 ≠ (7 : Int))) (need (isSl v_12) (K ((decide ((0 : Int) < (lenS v_12 : Int)))) st)) (K (false) st))))) (BIf (decide (v_0 ≠ (5 : Int))) (need (isSl v_10) (BIf (decide ((0 : Int) < (lenS v_10 : Int))) (K (true) st) (BIf (decide (v_0 ≠ (6 : Int))) (need (isSl v_11) (BIf (decide ((0 : Int) < (lenS v_11 : Int))) (K (true) st) (BIf (decide (v_0 ≠ (7 : Int))) (need (isSl v_12) (K ((decide ((0 : Int) < (lenS v_12 : Int)))) st)) (K (false) st)))) (BIf (decide (v_0 ≠ (7 : Int))) (need (isSl v_12) (K ((decide ((0 : Int) < (lenS v_12 : Int)))) st)) (K (false) st))))) (BIf (decide (v_0 ≠ (6 : Int))) (need (isSl v_11) (BIf (decide ((0 : Int) < (lenS v_11 : Int))) (K (true) st) (BIf (decide (v_0 ≠ (7 : Int))) (need (isSl v_12) (K ((decide ((0 : Int) < (lenS v_12 : Int)))) st)) (K (false) st)))) (BIf (decide (v_0 ≠ (7 : Int))) (need (isSl v_12) (K ((decide ((0 : Int) < (lenS v_12 : Int)))) st)) (K (false) st))))))) (BIf (decide (v_0 ≠ (3 : Int))) (BIf (!(decide (v_5 = (0 : Int)) && (decide (v_6 = (0 : Int)) && (decide (v_7 = (0 : Int)) && (decide (v_8 = (0 : Int)) && true))))) (K (true) st) (BIf (decide (v_0 ≠ (4 : Int))) (BIf (decide (v_9 ≠ ([] : List UInt8))) (K (true) st) (BIf (decide (v_0 ≠ (5 : Int))) (need (isSl v_10) (BIf (decide ((0 : Int) < (lenS v_10 : Int))) (K (true) st) (BIf (decide (v_0 ≠ (6 : Int))) (need (isSl v_11) (BIf (decide ((0 : Int) < (lenS v_11 : Int))) (K (true) st) (BIf (decide (v_0 ≠ (7 : Int))) (need (isSl v_12) (K ((decide ((0 : Int) < (lenS v_12 : Int)))) st)) (K (false) st)))) (BIf (decide (v_0 ≠ (7 : Int))) (need (isSl v_12) (K ((decide ((0 : Int) < (lenS v_12 : Int)))) st)) (K (false) st))))) (BIf (decide (v_0 ≠ (6 : Int))) (need (isSl v_11) (BIf (decide ((0 : Int) < (lenS v_11 : Int))) (K (true) st) (BIf (decide (v_0 ≠ (7 : Int))) (need (isSl v_12) (K ((decide ((0 : Int) < (lenS v_12 : Int)))) st)) (K (false) st)))) (BIf (decide (v_0 ≠ (7 : Int))) (need (isSl v_12) (K ((decide ((0 : Int) < (lenS v_12 : Int)))) st)) (K (false) st))))) (BIf (decide (v_0 ≠ (5 : Int))) (need (isSl v_10) (BIf (decide ((0 : Int) < (lenS v_10 : Int))) (K (true) st) (BIf (decide (v_0 ≠ (6 : Int))) (need (isSl v_11) (BIf (decide ((0 : Int) < (lenS v_11 : Int))) (K (true) st) (BIf (decide (v_0 ≠ (7 : Int))) (need (isSl v_12) (K ((decide ((0 : Int) < (lenS v_12 : Int)))) st)) (K (false) st)))) (BIf (decide (v_0 ≠ (7 : Int))) (need (isSl v_12) (K ((decide ((0 : Int) < (lenS v_12 : Int)))) st)) (K (false) st))))) (BIf (decide (v_0 ≠ (6 : Int))) (need (isSl v_11) (BIf (decide ((0 : Int) < (lenS v_11 : Int))) (K (true) st) (BIf (decide (v_0 ≠ (7 : Int))) (need (isSl v_12) (K ((decide ((0 : Int) < (lenS v_12 : Int)))) st)) (K (false) st)))) (BIf (decide (v_0 ≠ (7 : Int))) (need (isSl v_12) (K ((decide ((0 : Int) < (lenS v_12 : Int)))) st)) (K (false) st)))))) (BIf (decide (v_0 ≠ (4 : Int))) (BIf (decide (v_9 ≠ ([] : List UInt8))) (K (true) st) (BIf (decide (v_0 ≠ (5 : Int))) (need (isSl v_10) (BIf (decide ((0 : Int) < (lenS v_10 : Int))) (K (true) st) (BIf (decide (v_0 ≠ (6 : Int))) (need (isSl v_11) (BIf (decide ((0 : Int) < (lenS v_11 : Int))) (K (true) st) (BIf (decide (v_0 ≠ (7 : Int))) (need (isSl v_12) (K ((decide ((0 : Int) < (lenS v_12 : Int)))) st)) (K (false) st)))) (BIf (decide (v_0 ≠ (7 : Int))) (need (isSl v_12) (K ((decide ((0 : Int) < (lenS v_12 : Int)))) st)) (K (false) st))))) (BIf (decide (v_0 ≠ (6 : Int))) (need (isSl v_11) (BIf (decide ((0 : Int) < (lenS v_11 : Int))) (K (true) st) (BIf (decide (v_0 ≠ (7 : Int))) (need (isSl v_12) (K ((decide ((0 : Int) < (lenS v_12 : Int)))) st)) (K (false) st)))) (BIf (decide (v_0 ≠ (7 : Int))) (need (isSl v_12) (K ((decide ((0 : Int) < (lenS v_12 : Int)))) st)) (K (false) st))))) (BIf (decide (v_0 ≠ (5 : Int))) (need (isSl v_10) (BIf (decide ((0 : Int) < (lenS v_10 : Int))) (K (true) st) (BIf (decide (v_0 ≠ (6 : Int))) (need (isSl v_11) (BIf (decide ((0 : Int) < (lenS v_11 : Int))) (K (true) st) (BIf (decide (v_0 ≠ (7 : Int))) (need (isSl v_12) (K ((decide ((0 : Int) < (lenS v_12 : Int)))) st)) (K (false) st)))) (BIf (decide (v_0 ≠ (7 : Int))) (need (isSl v_12) (K ((decide ((0 : Int) < (lenS v_12 : Int)))) st)) (K (false) st))))) (BIf (decide (v_0 ≠ (6 : Int))) (need (isSl v_11) (BIf (decide ((0 : Int) < (lenS v_11 : Int))) (K (true) st) (BIf (decide (v_0 ≠ (7 : Int))) (need (isSl v_12) (K ((decide ((0 : Int) < (lenS v_12 : Int)))) st)) (K (false) st)))) (BIf (decide (v_0 ≠ (7 : Int))) (need (isSl v_12) (K ((decide ((0 : Int) < (lenS v_12 : Int)))) st)) (K (false) st)))))))) (BIf (decide (v_0 ≠ (2 : Int))) (BIf (!((v_2 == false) && (decide (v_3 = ([] : List UInt8)) && (decide (v_4 = (0 : Int)) && true)))) (K (true) st) (BIf (decide (v_0 ≠ (3 : Int))) (BIf (!(decide (v_5 = (0 : Int)) && (decide (v_6 = (0 : Int)) && (decide (v_7 = (0 : Int)) && (decide (v_8 = (0 : Int)) && true))))) (K (true) st) (BIf (decide (v_0 ≠ (4 : Int))) (BIf (decide (v_9 ≠ ([] : List UInt8))) (K (true) st) (BIf (decide (v_0 ≠ (5 : Int))) (need (isSl v_10) (BIf (decide ((0 : Int) < (lenS v_10 : Int))) (K (true) st) (BIf (decide (v_0 ≠ (6 : Int))) (need (isSl v_11) (BIf (decide ((0 : Int) < (lenS v_11 : Int))) (K (true) st) (BIf (decide (v_0 ≠ (7 : Int))) (need (isSl v_12) (K ((decide ((0 : Int) < (lenS v_12 : Int)))) st)) (K (false) st)))) (BIf (decide (v_0 ≠ (7 : Int))) (need (isSl v_12) (K ((decide ((0 : Int) < (lenS v_12 : Int)))) st)) (K (false) st))))) (BIf (decide (v_0 ≠ (6 : Int))) (need (isSl v_11) (BIf (decide ((0 : Int) < (lenS v_11 : Int))) (K (true) st) (BIf (decide (v_0 ≠ (7 : Int))) (need (isSl v_12) (K ((decide ((0 : Int) < (lenS v_12 : Int)))) st)) (K (false) st)))) (BIf (decide (v_0 ≠ (7 : Int))) (need (isSl v_12) (K ((decide ((0 : Int) < (lenS v_12 : Int)))) st)) (K (false) st))))) (BIf (decide (v_0 ≠ (5 : Int))) (need (isSl v_10) (BIf (decide ((0 : Int) < (lenS v_10 : Int))) (K (true) st) (BIf (decide (v_0 ≠ (6 : Int))) (need (isSl v_11) (BIf (decide ((0 : Int) < (lenS v_11 : Int))) (K (true) st) (BIf (decide (v_0 ≠ (7 : Int))) (need (isSl v_12) (K ((decide ((0 : Int) < (lenS v_12 : Int)))) st)) (K (false) st)))) (BIf (decide (v_0 ≠ (7 : Int))) (need (isSl v_12) (K ((decide ((0 : Int) < (lenS v_12 : Int)))) st)) (K (false) st))))) (BIf (decide (v_0 ≠ (6 : Int))) (need (isSl v_11) (BIf (decide ((0 : Int) < (lenS v_11 : Int))) (K (true) st) (BIf (decide (v_0 ≠ (7 : Int))) (need (isSl v_12) (K ((decide ((0 : Int) < (lenS v_12 : Int)))) st)) (K (false) st)))) (BIf (decide (v_0 ≠ (7 : Int))) (need (isSl v_12) (K ((decide ((0 : Int) < (lenS v_12 : Int)))) st)) (K (false) st)))))) (BIf (decide (v_0 ≠ (4 : Int))) (BIf (decide (v_9 ≠ ([] : List UInt8))) (K (true) st) (BIf (decide (v_0 ≠ (5 : Int))) (need (isSl v_10) (BIf (decide ((0 : Int) < (lenS v_10 : Int))) (K (true) st) (BIf (decide (v_0 ≠ (6 : Int))) (need (isSl v_11) (BIf (decide ((0 : Int) < (lenS v_11 : Int))) (K (true) st) (BIf (decide (v_0 ≠ (7 : Int))) (need (isSl v_12) (K ((decide ((0 : Int) < (lenS v_12 : Int)))) st)) (K (false) st)))) (BIf (decide (v_0 ≠ (7 : Int))) (need (isSl v_12) (K ((decide ((0 : Int) < (lenS v_12 : Int)))) st)) (K (false) st))))) (BIf (decide (v_0 ≠ (6 : Int))) (need (isSl v_11) (BIf (decide ((0 : Int) < (lenS v_11 : Int))) (K (true) st) (BIf (decide (v_0 ≠ (7 : Int))) (need (isSl v_12) (K ((decide ((0 : Int) < (lenS v_12 : Int)))) st)) (K (false) st)))) (BIf (decide (v_0 ≠ (7 : Int))) (need (isSl v_12) (K ((decide ((0 : Int) < (lenS v_12 : Int)))) st)) (K (false) st))))) (BIf (decide (v_0 ≠ (5 : Int))) (need (isSl v_10) (BIf (decide ((0 : Int) < (lenS v_10 : Int))) (K (true) st) (BIf (decide (v_0 ≠ (6 : Int))) (need (isSl v_11) (BIf (decide ((0 : Int) < (lenS v_11 : Int))) (K (true) st) (BIf (decide (v_0 ≠ (7 : Int))) (need (isSl v_12) (K ((decide ((0 : Int) < (lenS v_12 : Int)))) st)) (K (false) st)))) (BIf (decide (v_0 ≠ (7 : Int))) (need (isSl v_12) (K ((decide ((0 : Int) < (lenS v_12 : Int)))) st)) (K (false) st))))) (BIf (decide (v_0 ≠ (6 : Int))) (need (isSl v_11) (BIf (decide ((0 : Int) < (lenS v_11 : Int))) (K (true) st) (BIf (decide (v_0 ≠ (7 : Int))) (need (isSl v_12) (K ((decide ((0 : Int) < (lenS v_12 : Int)))) st)) (K (false) st)))) (BIf (decide (v_0 ≠ (7 : Int))) (need (isSl v_12) (K ((decide ((0 : Int) < (lenS v_12 : Int)))) st)) (K (false) st))))))) (BIf (decide (v_0 ≠ (3 : Int))) (BIf (!(decide (v_5 = (0 : Int)) && (decide (v_6 = (0 : Int)) && (decide (v_7 = (0 : Int)) && (decide (v_8 = (0 : Int)) && true))))) (K (true) st) (BIf (decide (v_0 ≠ (4 : Int))) (BIf (decide (v_9 ≠ ([] : List UInt8))) (K (true) st) (BIf (decide (v_0 ≠ (5 : Int))) (need (isSl v_10) (BIf (decide ((0 : Int) < (lenS v_10 : Int))) (K (true) st) (BIf (decide (v_0 ≠ (6 : Int))) (need (isSl v_11) (BIf (decide ((0 : Int) < (lenS v_11 : Int))) (K (true) st) (BIf (decide (v_0 ≠ (7 : Int))) (need (isSl v_12) (K ((decide ((0 : Int) < (lenS v_12 : Int)))) st)) (K (false) st)))) (BIf (decide (v_0 ≠ (7 : Int))) (need (isSl v_12) (K ((decide ((0 : Int) < (lenS v_12 : Int)))) st)) (K (false) st))))) (BIf (decide (v_0 ≠ (6 : Int))) (need (isSl v_11) (BIf (decide ((0 : Int) < (lenS v_11 : Int))) (K (true) st) (BIf (decide (v_0 ≠ (7 : Int))) (need (isSl v_12) (K ((decide ((0 : Int) < (lenS v_12 : Int)))) st)) (K (false) st)))) (BIf (decide (v_0 ≠ (7 : Int))) (need (isSl v_12) (K ((decide ((0 : Int) < (lenS v_12 : Int)))) st)) (K (false) st))))) (BIf (decide (v_0 ≠ (5 : Int))) (need (isSl v_10) (BIf (decide ((0 : Int) < (lenS v_10 : Int))) (K (true) st) (BIf (decide (v_0 ≠ (6 : Int))) (need (isSl v_11) (BIf (decide ((0 : Int) < (lenS v_11 : Int))) (K (true) st) (BIf (decide (v_0 ≠ (7 : Int))) (need (isSl v_12) (K ((decide ((0 : Int) < (lenS v_12 : Int)))) st)) (K (false) st)))) (BIf (decide (v_0 ≠ (7 : Int))) (need (isSl v_12) (K ((decide ((0 : Int) < (lenS v_12 : Int)))) st)) (K (false) st))))) (BIf (decide (v_0 ≠ (6 : Int))) (need (isSl v_11) (BIf (decide ((0 : Int) < (lenS v_11 : Int))) (K (true) st) (BIf (decide (v_0 ≠ (7 : Int))) (need (isSl v_12) (K ((decide ((0 : Int) < (lenS v_12 : Int)))) st)) (K (false) st)))) (BIf (decide (v_0 ≠ (7 : Int))) (need (isSl v_12) (K ((decide ((0 : Int) < (lenS v_12 : Int)))) st)) (K (false) st)))))) (BIf (decide (v_0 ≠ (4 : Int))) (BIf (decide (v_9 ≠ ([] : List UInt8))) (K (true) st) (BIf (decide (v_0 ≠ (5 : Int))) (need (isSl v_10) (BIf (decide ((0 : Int) < (lenS v_10 : Int))) (K (true) st) (BIf (decide (v_0 ≠ (6 : Int))) (need (isSl v_11) (BIf (decide ((0 : Int) < (lenS v_11 : Int))) (K (true) st) (BIf (decide (v_0 ≠ (7 : Int))) (need (isSl v_12) (K ((decide ((0 : Int) < (lenS v_12 : Int)))) st)) (K (false) st)))) (BIf (decide (v_0 ≠ (7 : Int))) (need (isSl v_12) (K ((decide ((0 : Int) < (lenS v_12 : Int)))) st)) (K (false) st))))) (BIf (decide (v_0 ≠ (6 : Int))) (need (isSl v_11) (BIf (decide ((0 : Int) < (lenS v_11 : Int))) (K (true) st) (BIf (decide (v_0 ≠ (7 : Int))) (need (isSl v_12) (K ((decide ((0 : Int) < (lenS v_12 : Int)))) st)) (K (false) st)))) (BIf (decide (v_0 ≠ (7 : Int))) (need (isSl v_12) (K ((decide ((0 : Int) < (lenS v_12 : Int)))) st)) (K (false) st))))) (BIf (decide (v_0 ≠ (5 : Int))) (need (isSl v_10) (BIf (decide ((0 : Int) < (lenS v_10 : Int))) (K (true) st) (BIf (decide (v_0 ≠ (6 : Int))) (need (isSl v_11) (BIf (decide ((0 : Int) < (lenS v_11 : Int))) (K (true) st) (BIf (decide (v_0 ≠ (7 : Int))) (need (isSl v_12) (K ((decide ((0 : Int) < (lenS v_12 : Int)))) st)) (K (false) st)))) (BIf (decide (v_0 ≠ (7 : Int))) (need (isSl v_12) (K ((decide ((0 : Int) < (lenS v_12 : Int)))) st)) (K (false) st))))) (BIf (decide (v_0 ≠ (6 : Int))) (need (isSl v_11) (BIf (decide ((0 : Int) < (lenS v_11 : Int))) (K (true) st) (BIf (decide (v_0 ≠ (7 : Int))) (need (isSl v_12) (K ((decide ((0 : Int) < (lenS v_12 : Int)))) st)) (K (false) st)))) (BIf (decide (v_0 ≠ (7 : Int))) (need (isSl v_12) (K ((decide ((0 : Int) < (lenS v_12 : Int)))) st)) (K (false) st)))))))) : CallT PR fn_value_extra [(.agg [(.int .i64 v_0), (.bool v_1), (.bool v_2), (.str v_3), (.int .i64 v_4), (.int .i64 v_5), (.int .i64 v_6), (.int .i64 v_7), (.int .i64 v_8), (.str v_9), v_10, v_11, v_12])] [.one (.bool)] st K :=
  tcalls_fw (cfg := ⟨[1], [], []⟩) (h := .none) mixed (fun _ _ => Tryz.call198 _ _) Tryz.func198 (by kernel_rfl) (by kernel_rfl) h
end Go.TVF
end

section
set_option linter.unusedVariables false
namespace Go.TVF
open Go Go.Proofs
set_option maxRecDepth 100000 in
theorem vc_value_keys (l : TV) (st : St) (K : Int → St → Prop) (h : need (isSl l) (∃ (I1 : Int → TV → TV → Int → St → Prop) (M1 : Int → TV → TV → Int → St → Nat), (I1 ((0 : Int)) ((.map st.nb)) (l) ((lenS l : Int)) (st.push (.map []) none)) ∧ ∀ (n_1 : Int) (seen_1 : TV) (v_1 : TV) (n_2 : Int) (st1 : St), I1 n_1 seen_1 v_1 n_2 st1 → (BIf (decide (n_1 < n_2)) (((0 ≤ n_1 ∧ n_1 < (lenZ 14 v_1 : Int)) ∧ optK ((ldCells st1 [] (.t (ixT 14 v_1 (Int.toNat n_1))) 0 14).map TV.agg) (fun (x1 : TV) => decA [.str, .int .i64, .bool, .bool, .str, .int .i64, .int .i64, .int .i64, .int .i64, .int .i64, .str, .tv, .tv, .tv] x1 (fun (s1 : List UInt8) (n1 : Int) (b1 : Bool) (b2 : Bool) (s2 : List UInt8) (n2 : Int) (n3 : Int) (n4 : Int) (n5 : Int) (n6 : Int) (s3 : List UInt8) (v1 : TV) (v2 : TV) (v3 : TV) => need (List.all [(.str s1), (.int .i64 n1), (.bool b1), (.bool b2), (.str s2), (.int .i64 n2), (.int .i64 n3), (.int .i64 n4), (.int .i64 n5), (.int .i64 n6), (.str s3), v1, v2, v3] oneT) (CallT PR fn_value_key [(.str s1)] [.one (.int .i64)] st1 (fun (n7 : Int) (st2 : St) => BIf (decide (n7 ≠ (0 : Int))) (K (n7) st2) (optK (mapOf st2 seen_1) (fun (es1 : List (List UInt8 × TV)) => decT (.bool) (orZero (.bool false) (findM s1 es1)) (fun (b3 : Bool) => BIf b3 (K ((8 : Int)) st2) (muK seen_1 s1 (.bool true) st2 (fun (st3 : St) => (I1 ((IntKind.i64.wrap (n_1 + (1 : Int)))) (seen_1) (v_1) (n_2) st3 ∧ M1 ((IntKind.i64.wrap (n_1 + (1 : Int)))) (seen_1) (v_1) (n_2) st3 < M1 n_1 seen_1 v_1 n_2 st1)))))))))))) (K ((0 : Int)) st1)))) : CallT PR fn_value_keys [l] [.one (.int .i64)] st K :=
  tcalls_fw (cfg := ⟨[5], [], []⟩) (h := (.seq .none (.seq .none (.seq (.seq .none (.block (.loop ⟨[(10, .int .i64), (3, .tv), (8, .tv), (9, .int .i64)], [], [], []⟩ .none))) .none)))) mixed (fun _ _ => Tryz.call199 _ _) Tryz.func199 (by kernel_rfl) (by kernel_rfl) h
set_option maxRecDepth 100000 in
theorem vc_datakitref03_Boundaries (s : List UInt8) (st : St) (K : TV → Bool → St → Prop) (h : ∃ (I1 : TV → Int → List UInt8 → St → Prop) (M1 : TV → Int → List UInt8 → St → Nat), (I1 ((.list 1 .full 1 [(.int .i64 (0 : Int))])) ((0 : Int)) (s) st) ∧ ∀ (l_1 : TV) (at_1 : Int) (s_1 : List UInt8) (st1 : St), I1 l_1 at_1 s_1 st1 → (BIf (decide (at_1 < ((s_1).length : Int))) (CallT PR fn_datakitref03_Decode [(.str s_1), (.int .i64 at_1)] [.one (.int .i64), .one (.int .i64)] st1 (fun (n1 : Int) (n2 : Int) (st2 : St) => BIf (decide (n2 = (0 : Int))) (K (l_1) (false) st2) (appK 3 1 8 l_1 1 [(.int .i64 (IntKind.i64.wrap (at_1 + n2)))] st2 (fun (v1 : TV) (st3 : St) => (I1 (v1) ((IntKind.i64.wrap (at_1 + n2))) (s_1) st3 ∧ M1 (v1) ((IntKind.i64.wrap (at_1 + n2))) (s_1) st3 < M1 l_1 at_1 s_1 st1))))) (K (l_1) (true) st1))) : CallT PR fn_datakitref03_Boundaries [(.str s)] [.one (.tv), .one (.bool)] st K :=
  tcalls_fw (cfg := ⟨[], [], []⟩) (h := (.seq .none (.seq .none (.seq .none (.seq (.block (.loop ⟨[(4, .tv), (5, .int .i64), (0, .str)], [], [], []⟩ .none)) .none))))) mixed (fun _ _ => Tryz.call204 _ _) Tryz.func204 (by kernel_rfl) (by kernel_rfl) h
set_option maxRecDepth 100000 in
theorem vc_calendar_Month (year : Int) (month : Int) (st : St) (K : Int → St → Prop) (h : CallT PR fn_calendar_valid [(.int .i64 year)] [.one (.bool)] st (fun (b1 : Bool) (st1 : St) => BIf (!b1) (K ((0 : Int)) st1) (BIf (decide (month < (1 : Int))) (K ((0 : Int)) st1) (BIf (decide ((12 : Int) < month)) (K ((0 : Int)) st1) (BIf (decide (month = (2 : Int))) (CallT PR fn_calendar_Leap [(.int .i64 year)] [.one (.bool)] st1 (fun (b2 : Bool) (st2 : St) => BIf b2 (K ((29 : Int)) st2) (((0 ≤ (IntKind.i64.wrap (month - (1 : Int))) ∧ (IntKind.i64.wrap (month - (1 : Int))) < ((12 : Nat) : Int)) ∧ optK ((([(.int .i64 (31 : Int)), (.int .i64 (28 : Int)), (.int .i64 (31 : Int)), (.int .i64 (30 : Int)), (.int .i64 (31 : Int)), (.int .i64 (30 : Int)), (.int .i64 (31 : Int)), (.int .i64 (31 : Int)), (.int .i64 (30 : Int)), (.int .i64 (31 : Int)), (.int .i64 (30 : Int)), (.int .i64 (31 : Int))] : List TV)[(0 + (Int.toNat (IntKind.i64.wrap (month - (1 : Int)))) * 1) + 0]?)) (fun (x1 : TV) => decT (.int .i64) x1 (fun (n1 : Int) => K (n1) st2)))))) (((0 ≤ (IntKind.i64.wrap (month - (1 : Int))) ∧ (IntKind.i64.wrap (month - (1 : Int))) < ((12 : Nat) : Int)) ∧ optK ((([(.int .i64 (31 : Int)), (.int .i64 (28 : Int)), (.int .i64 (31 : Int)), (.int .i64 (30 : Int)), (.int .i64 (31 : Int)), (.int .i64 (30 : Int)), (.int .i64 (31 : Int)), (.int .i64 (31 : Int)), (.int .i64 (30 : Int)), (.int .i64 (31 : Int)), (.int .i64 (30 : Int)), (.int .i64 (31 : Int))] : List TV)[(0 + (Int.toNat (IntKind.i64.wrap (month - (1 : Int)))) * 1) + 0]?)) (fun (x2 : TV) => decT (.int .i64) x2 (fun (n2 : Int) => K (n2) st1))))))))) : CallT PR fn_calendar_Month [(.int .i64 year), (.int .i64 month)] [.one (.int .i64)] st K :=
  tcalls_fw (cfg := ⟨[5], [], []⟩) (h := .none) mixed (fun _ _ => Tryz.call222 _ _) Tryz.func222 (by kernel_rfl) (by kernel_rfl) h
set_option maxRecDepth 100000 in
theorem vc_calendar_start (year : Int) (st : St) (K : Int → St → Prop) (h : K ((IntKind.i64.wrap ((IntKind.i64.wrap ((IntKind.i64.wrap ((IntKind.i64.wrap ((365 : Int) * (IntKind.i64.wrap (year - (1 : Int))))) + (IntKind.i64.wrap (Int.tdiv (IntKind.i64.wrap (year - (1 : Int))) (4 : Int))))) - (IntKind.i64.wrap (Int.tdiv (IntKind.i64.wrap (year - (1 : Int))) (100 : Int))))) + (IntKind.i64.wrap (Int.tdiv (IntKind.i64.wrap (year - (1 : Int))) (400 : Int)))))) st) : CallT PR fn_calendar_start [(.int .i64 year)] [.one (.int .i64)] st K :=
  tcalls_fw (cfg := ⟨[], [], []⟩) (h := .none) mixed (fun _ _ => Tryz.call223 _ _) Tryz.func223 (by kernel_rfl) (by kernel_rfl) h
set_option maxRecDepth 100000 in
theorem vc_datakitref03_Decode (s : List UInt8) (atx : Int) (st : St) (K : Int → Int → St → Prop) (h : BIf (decide (atx < (0 : Int))) (K ((0 : Int)) ((0 : Int)) st) (BIf (decide (((s).length : Int) ≤ atx)) (K ((0 : Int)) ((0 : Int)) st) (((0 ≤ atx ∧ atx < ((s).length : Int)) ∧ ∃ (C1 : Int → Int → List UInt8 → Int → St → Prop), (BIf (decide ((240 : Int) ≤ (IntKind.i64.wrap ((List.getD s (Int.toNat atx) 0).toNat : Int)))) (C1 ((4 : Int)) ((bitsI .and .i64 (IntKind.i64.wrap ((List.getD s (Int.toNat atx) 0).toNat : Int)) (7 : Int))) (s) (atx) st) (BIf (decide ((224 : Int) ≤ (IntKind.i64.wrap ((List.getD s (Int.toNat atx) 0).toNat : Int)))) (C1 ((3 : Int)) ((bitsI .and .i64 (IntKind.i64.wrap ((List.getD s (Int.toNat atx) 0).toNat : Int)) (15 : Int))) (s) (atx) st) (BIf (decide ((192 : Int) ≤ (IntKind.i64.wrap ((List.getD s (Int.toNat atx) 0).toNat : Int)))) (C1 ((2 : Int)) ((bitsI .and .i64 (IntKind.i64.wrap ((List.getD s (Int.toNat atx) 0).toNat : Int)) (31 : Int))) (s) (atx) st) (C1 ((1 : Int)) ((IntKind.i64.wrap ((List.getD s (Int.toNat atx) 0).toNat : Int))) (s) (atx) st)))) ∧ ∀ (size_1 : Int) (r_1 : Int) (s_1 : List UInt8) (at_1 : Int) (st1 : St), C1 size_1 r_1 s_1 at_1 st1 → (BIf (decide ((IntKind.i64.wrap (((s_1).length : Int) - at_1)) < size_1)) (K ((0 : Int)) ((0 : Int)) st1) (∃ (I1 : Int → Int → List UInt8 → Int → Int → St → Prop) (M1 : Int → Int → List UInt8 → Int → Int → St → Nat), (I1 (r_1) ((1 : Int)) (s_1) (at_1) (size_1) st1) ∧ ∀ (r_2 : Int) (i_1 : Int) (s_2 : List UInt8) (at_2 : Int) (size_2 : Int) (st2 : St), I1 r_2 i_1 s_2 at_2 size_2 st2 → (BIf (decide (i_1 < size_2)) (((0 ≤ (IntKind.i64.wrap (at_2 + i_1)) ∧ (IntKind.i64.wrap (at_2 + i_1)) < ((s_2).length : Int)) ∧ (I1 ((bitsI .or .i64 (IntKind.i64.wrap (r_2 * 2 ^ (min (Int.toNat (6 : Int)) (IntKind.bits .i64)))) (bitsI .and .i64 (IntKind.i64.wrap ((List.getD s_2 (Int.toNat (IntKind.i64.wrap (at_2 + i_1))) 0).toNat : Int)) (63 : Int)))) ((IntKind.i64.wrap (i_1 + (1 : Int)))) (s_2) (at_2) (size_2) st2 ∧ M1 ((bitsI .or .i64 (IntKind.i64.wrap (r_2 * 2 ^ (min (Int.toNat (6 : Int)) (IntKind.bits .i64)))) (bitsI .and .i64 (IntKind.i64.wrap ((List.getD s_2 (Int.toNat (IntKind.i64.wrap (at_2 + i_1))) 0).toNat : Int)) (63 : Int)))) ((IntKind.i64.wrap (i_1 + (1 : Int)))) (s_2) (at_2) (size_2) st2 < M1 r_2 i_1 s_2 at_2 size_2 st2))) (CallT PR fn_datakitref03_Encode [(.int .i64 r_2)] [.one (.str), .one (.int .i64)] st2 (fun (s1 : List UInt8) (n1 : Int) (st3 : St) => BIf (decide (n1 ≠ (0 : Int))) (K ((0 : Int)) ((0 : Int)) st3) (((0 ≤ at_2 ∧ at_2 ≤ (IntKind.i64.wrap (at_2 + size_2)) ∧ (IntKind.i64.wrap (at_2 + size_2)) ≤ ((s_2).length : Int)) ∧ BIf (decide (s1 ≠ (List.drop (Int.toNat at_2) (List.take (Int.toNat (IntKind.i64.wrap (at_2 + size_2))) s_2)))) (K ((0 : Int)) ((0 : Int)) st3) (K (r_2) (size_2) st3)))))))))))) : CallT PR fn_datakitref03_Decode [(.str s), (.int .i64 atx)] [.one (.int .i64), .one (.int .i64)] st K :=
  tcalls_fw (cfg := ⟨[], [], []⟩) (h := (.seq .none (.seq .none (.seq .none (.seq .none (.cut ⟨[(7, .int .i64), (8, .int .i64), (0, .str), (1, .int .i64)], [], [], []⟩ .none (.seq .none (.seq (.seq .none (.block (.loop ⟨[(8, .int .i64), (9, .int .i64), (0, .str), (1, .int .i64), (7, .int .i64)], [], [], []⟩ .none))) .none)))))))) mixed (fun _ _ => Tryz.call225 _ _) Tryz.func225 (by kernel_rfl) (by kernel_rfl) h
set_option maxRecDepth 100000 in
theorem vc_datakitref01_Zeros (a : List UInt8) (st : St) (K : Int → St → Prop) (h : ∃ (I1 : Int → List UInt8 → St → Prop) (M1 : Int → List UInt8 → St → Nat), (I1 ((0 : Int)) (a) st) ∧ ∀ (n_1 : Int) (a_1 : List UInt8) (st1 : St), I1 n_1 a_1 st1 → (BIf (decide (n_1 < ((a_1).length : Int))) (((0 ≤ (IntKind.i64.wrap ((IntKind.i64.wrap (((a_1).length : Int) - (1 : Int))) - n_1)) ∧ (IntKind.i64.wrap ((IntKind.i64.wrap (((a_1).length : Int) - (1 : Int))) - n_1)) < ((a_1).length : Int)) ∧ BIf (decide (((List.getD a_1 (Int.toNat (IntKind.i64.wrap ((IntKind.i64.wrap (((a_1).length : Int) - (1 : Int))) - n_1))) 0).toNat : Int) = (48 : Int))) ((I1 ((IntKind.i64.wrap (n_1 + (1 : Int)))) (a_1) st1 ∧ M1 ((IntKind.i64.wrap (n_1 + (1 : Int)))) (a_1) st1 < M1 n_1 a_1 st1)) (K (n_1) st1))) (K (n_1) st1))) : CallT PR fn_datakitref01_Zeros [(.str a)] [.one (.int .i64)] st K :=
  tcalls_fw (cfg := ⟨[], [], []⟩) (h := (.seq .none (.seq .none (.seq (.block (.loop ⟨[(3, .int .i64), (0, .str)], [], [], []⟩ .none)) .none)))) mixed (fun _ _ => Tryz.call229 _ _) Tryz.func229 (by kernel_rfl) (by kernel_rfl) h
end Go.TVF
end

section
set_option linter.unusedVariables false
namespace Go.TVF
open Go Go.Proofs
set_option maxRecDepth 100000 in
theorem vc_digits_Valid (s : List UInt8) (st : St) (K : Bool → St → Prop) (h : BIf (decide (((s).length : Int) ≤ (600 : Int))) (CallT PR fn_digits_all [(.str s)] [.one (.bool)] st (fun (b1 : Bool) (st1 : St) => BIf b1 (BIf (decide (s = ([] : List UInt8))) (K (true) st1) (((0 ≤ (0 : Int) ∧ (0 : Int) < ((s).length : Int)) ∧ K ((decide (((List.getD s (Int.toNat (0 : Int)) 0).toNat : Int) ≠ (48 : Int)))) st1))) (K (false) st1))) (K (false) st)) : CallT PR fn_digits_Valid [(.str s)] [.one (.bool)] st K :=
  tcalls_fw (cfg := ⟨[], [], []⟩) (h := .none) mixed (fun _ _ => Tryz.call232 _ _) Tryz.func232 (by kernel_rfl) (by kernel_rfl) h
set_option maxRecDepth 100000 in
theorem vc_digits_Zeros (a : List UInt8) (st : St) (K : Int → St → Prop) (h : CallT PR fn_strings_TrimRight [(.str a), (.str str12)] [.one (.str)] st (fun (s1 : List UInt8) (st1 : St) => K ((IntKind.i64.wrap (((a).length : Int) - ((s1).length : Int)))) st1)) : CallT PR fn_digits_Zeros [(.str a)] [.one (.int .i64)] st K :=
  tcalls_fw (cfg := ⟨[], [], []⟩) (h := .none) mixed (fun _ _ => Tryz.call233 _ _) Tryz.func233 (by kernel_rfl) (by kernel_rfl) h
set_option maxRecDepth 100000 in
theorem vc_strings_Builder_WriteString (b : Nat) (s : List UInt8) (st : St) (K : Int → TV → St → Prop) (h : CallT PR fn_strings_Builder_copyCheck [(.box b 0)] [] st (fun  (st1 : St) => optK (ldCell st1 [] (.t (.box b 1)) 0) (fun (v1 : TV) => optK (appSrc st1 1 (.str s)) (fun (q1 : Nat × List TV) => need (List.all q1.2 oneT) (appK 5 1 1 v1 q1.1 q1.2 st1 (fun (v2 : TV) (st2 : St) => need (List.all [v2] oneT) (stB st2 (.box b 1) [v2] (fun (st3 : St) => K (((s).length : Int)) (.nilIface) st3)))))))) : CallT PR fn_strings_Builder_WriteString [(.box b 0), (.str s)] [.one (.int .i64), .one (.tv)] st K :=
  tcalls_fw (cfg := ⟨[], [], []⟩) (h := .none) mixed (fun _ _ => Tryz.call236 _ _) Tryz.func236 (by kernel_rfl) (by kernel_rfl) h
set_option maxRecDepth 100000 in
theorem vc_digits_FromInt (n : Int) (st : St) (K : List UInt8 → St → Prop) (h : ∃ (I1 : Int → TV → St → Prop) (M1 : Int → TV → St → Nat), (I1 (n) (.nilSlice) st) ∧ ∀ (n_1 : Int) (b_1 : TV) (st1 : St), I1 n_1 b_1 st1 → (BIf (decide ((0 : Int) < n_1)) (appB 5 1 1 b_1 1 [(.int .u8 (IntKind.u8.wrap (IntKind.i64.wrap ((48 : Int) + (Int.tmod n_1 (10 : Int))))))] st1 (fun (v1 : TV) (st2 : St) => (I1 ((IntKind.i64.wrap (Int.tdiv n_1 (10 : Int)))) (v1) st2 ∧ M1 ((IntKind.i64.wrap (Int.tdiv n_1 (10 : Int)))) (v1) st2 < M1 n_1 b_1 st1))) (CallT PR fn_digits_reverse [b_1] [] st1 (fun  (st3 : St) => optK ((toBytes st3 b_1).map TV.str) (fun (x1 : TV) => decT (.str) x1 (fun (s1 : List UInt8) => K (s1) st3)))))) : CallT PR fn_digits_FromInt [(.int .i64 n)] [.one (.str)] st K :=
  tcalls_fw (cfg := ⟨[], [14], []⟩) (h := (.seq .none (.seq .none (.seq (.block (.loop ⟨[(0, .int .i64), (3, .tv)], [], [], []⟩ .none)) .none)))) mixed (fun _ _ => Tryz.call238 _ _) Tryz.func238 (by kernel_rfl) (by kernel_rfl) h
set_option maxRecDepth 100000 in
theorem vc_calendar_Date (n : Int) (st : St) (K : Int → Int → Int → Int → St → Prop) (h : CallT PR fn_calendar_known [(.int .i64 n)] [.one (.bool)] st (fun (b1 : Bool) (st1 : St) => BIf (!b1) (K ((0 : Int)) ((0 : Int)) ((0 : Int)) ((2 : Int)) st1) (∃ (I1 : Int → Int → St → Prop) (M1 : Int → Int → St → Nat), (I1 ((IntKind.i64.wrap ((IntKind.i64.wrap (Int.tdiv n (366 : Int))) + (1 : Int)))) (n) st1) ∧ ∀ (year_1 : Int) (n_1 : Int) (st2 : St), I1 year_1 n_1 st2 → (BIf (decide (year_1 < (9999 : Int))) (CallT PR fn_calendar_start [(.int .i64 (IntKind.i64.wrap (year_1 + (1 : Int))))] [.one (.int .i64)] st2 (fun (n1 : Int) (st3 : St) => BIf (decide (n1 ≤ n_1)) ((I1 ((IntKind.i64.wrap (year_1 + (1 : Int)))) (n_1) st3 ∧ M1 ((IntKind.i64.wrap (year_1 + (1 : Int)))) (n_1) st3 < M1 year_1 n_1 st2)) (CallT PR fn_calendar_start [(.int .i64 year_1)] [.one (.int .i64)] st3 (fun (n2 : Int) (st4 : St) => ∃ (I2 : Int → Int → Int → St → Prop) (M2 : Int → Int → Int → St → Nat), (I2 ((1 : Int)) ((IntKind.i64.wrap (n_1 - n2))) (year_1) st4) ∧ ∀ (month_1 : Int) (rest_1 : Int) (year_2 : Int) (st5 : St), I2 month_1 rest_1 year_2 st5 → (CallT PR fn_calendar_Month [(.int .i64 year_2), (.int .i64 month_1)] [.one (.int .i64)] st5 (fun (n3 : Int) (st6 : St) => BIf (decide (n3 ≤ rest_1)) (CallT PR fn_calendar_Month [(.int .i64 year_2), (.int .i64 month_1)] [.one (.int .i64)] st6 (fun (n4 : Int) (st7 : St) => (I2 ((IntKind.i64.wrap (month_1 + (1 : Int)))) ((IntKind.i64.wrap (rest_1 - n4))) (year_2) st7 ∧ M2 ((IntKind.i64.wrap (month_1 + (1 : Int)))) ((IntKind.i64.wrap (rest_1 - n4))) (year_2) st7 < M2 month_1 rest_1 year_2 st5))) (K (year_2) (month_1) ((IntKind.i64.wrap (rest_1 + (1 : Int)))) ((0 : Int)) st6))))))) (CallT PR fn_calendar_start [(.int .i64 year_1)] [.one (.int .i64)] st2 (fun (n5 : Int) (st8 : St) => ∃ (I3 : Int → Int → Int → St → Prop) (M3 : Int → Int → Int → St → Nat), (I3 ((1 : Int)) ((IntKind.i64.wrap (n_1 - n5))) (year_1) st8) ∧ ∀ (month_2 : Int) (rest_2 : Int) (year_3 : Int) (st9 : St), I3 month_2 rest_2 year_3 st9 → (CallT PR fn_calendar_Month [(.int .i64 year_3), (.int .i64 month_2)] [.one (.int .i64)] st9 (fun (n6 : Int) (st10 : St) => BIf (decide (n6 ≤ rest_2)) (CallT PR fn_calendar_Month [(.int .i64 year_3), (.int .i64 month_2)] [.one (.int .i64)] st10 (fun (n7 : Int) (st11 : St) => (I3 ((IntKind.i64.wrap (month_2 + (1 : Int)))) ((IntKind.i64.wrap (rest_2 - n7))) (year_3) st11 ∧ M3 ((IntKind.i64.wrap (month_2 + (1 : Int)))) ((IntKind.i64.wrap (rest_2 - n7))) (year_3) st11 < M3 month_2 rest_2 year_3 st9))) (K (year_3) (month_2) ((IntKind.i64.wrap (rest_2 + (1 : Int)))) ((0 : Int)) st10))))))))) : CallT PR fn_calendar_Date [(.int .i64 n)] [.one (.int .i64), .one (.int .i64), .one (.int .i64), .one (.int .i64)] st K :=
  tcalls_fw (cfg := ⟨[], [], []⟩) (h := (.seq .none (.seq .none (.seq .none (.seq (.block (.loop ⟨[(2, .int .i64), (0, .int .i64)], [], [], []⟩ .none)) (.seq .none (.seq .none (.seq (.block (.loop ⟨[(3, .int .i64), (6, .int .i64), (2, .int .i64)], [], [], []⟩ .none)) .none)))))))) mixed (fun _ _ => Tryz.call239 _ _) Tryz.func239 (by kernel_rfl) (by kernel_rfl) h
set_option maxRecDepth 100000 in
theorem vc_moment_digits (n : Int) (width : Int) (st : St) (K : List UInt8 → St → Prop) (h : ((0 ≤ width ∧ width ≤ width ∧ Int.toNat width * 1 ≤ 140737488355328) ∧ ∃ (I1 : Int → Int → TV → St → Prop) (M1 : Int → Int → TV → St → Nat), (I1 (n) ((IntKind.i64.wrap (width - (1 : Int)))) ((.ms 1 st.nb 0 (Int.toNat width) (Int.toNat width))) (st.push (.cells (zrep [(.int .u8 (0 : Int))] (Int.toNat width * 1))) (some 5))) ∧ ∀ (n_1 : Int) (i_1 : Int) (b_1 : TV) (st1 : St), I1 n_1 i_1 b_1 st1 → (BIf (decide ((0 : Int) ≤ i_1)) (((0 ≤ i_1 ∧ i_1 < (lenZ 1 b_1 : Int)) ∧ stB st1 (ixT 1 b_1 (Int.toNat i_1)) [(.int .u8 (IntKind.u8.wrap (IntKind.i64.wrap ((48 : Int) + (Int.tmod n_1 (10 : Int))))))] (fun (st2 : St) => (I1 ((IntKind.i64.wrap (Int.tdiv n_1 (10 : Int)))) ((IntKind.i64.wrap (i_1 - (1 : Int)))) (b_1) st2 ∧ M1 ((IntKind.i64.wrap (Int.tdiv n_1 (10 : Int)))) ((IntKind.i64.wrap (i_1 - (1 : Int)))) (b_1) st2 < M1 n_1 i_1 b_1 st1)))) (optK ((toBytes st1 b_1).map TV.str) (fun (x1 : TV) => decT (.str) x1 (fun (s1 : List UInt8) => K (s1) st1)))))) : CallT PR fn_moment_digits [(.int .i64 n), (.int .i64 width)] [.one (.str)] st K :=
  tcalls_fw (cfg := ⟨[], [8], []⟩) (h := (.seq .none (.seq .none (.seq (.seq .none (.block (.loop ⟨[(0, .int .i64), (6, .int .i64), (5, .tv)], [], [], []⟩ .none))) .none)))) mixed (fun _ _ => Tryz.call240 _ _) Tryz.func240 (by kernel_rfl) (by kernel_rfl) h
set_option maxRecDepth 100000 in
theorem vc_datakitref05_dated (kind : Int) (st : St) (K : Bool → St → Prop) (h : BIf (decide (kind = (1 : Int))) (K (true) st) (BIf (decide (kind = (3 : Int))) (K (true) st) (K ((decide (kind = (4 : Int)))) st))) : CallT PR fn_datakitref05_dated [(.int .i64 kind)] [.one (.bool)] st K :=
  tcalls_fw (cfg := ⟨[], [], []⟩) (h := .none) mixed (fun _ _ => Tryz.call243 _ _) Tryz.func243 (by kernel_rfl) (by kernel_rfl) h
set_option maxRecDepth 100000 in
theorem vc_datakitref05_clocked (kind : Int) (st : St) (K : Bool → St → Prop) (h : BIf (decide (kind = (2 : Int))) (K (true) st) (BIf (decide (kind = (3 : Int))) (K (true) st) (K ((decide (kind = (4 : Int)))) st))) : CallT PR fn_datakitref05_clocked [(.int .i64 kind)] [.one (.bool)] st K :=
  tcalls_fw (cfg := ⟨[], [], []⟩) (h := .none) mixed (fun _ _ => Tryz.call244 _ _) Tryz.func244 (by kernel_rfl) (by kernel_rfl) h
set_option maxRecDepth 100000 in
theorem vc_slices_Clone___api_Field_api_Field_ (s : TV) (st : St) (K : TV → St → Prop) (h : need (isSl s) (BIf (isNilT s) (K (.nilSlice) st) (optK (appSrc st 14 s) (fun (q1 : Nat × List TV) => need (List.all q1.2 oneT) (appB 82 14 184 (.list 14 .full 0 []) q1.1 q1.2 st (fun (v1 : TV) (st1 : St) => K (v1) st1)))))) : CallT PR fn_slices_Clone___api_Field_api_Field_ [s] [.one (.tv)] st K :=
  tcalls_fw (cfg := ⟨[], [7], []⟩) (h := .none) mixed (fun _ _ => Tryz.call248 _ _) Tryz.func248 (by kernel_rfl) (by kernel_rfl) h
set_option maxRecDepth 100000 in
theorem vc_slices_SortStableFunc___api_Field_api_Field_ (x : TV) (cmp : TV) (st : St) (K : St → Prop) (h : need (isSl x) (CallT PR fn_slices_stableCmpFunc_api_Field_ [x, (.int .i64 (lenS x : Int)), cmp] [] st (fun  (st1 : St) => K  st1))) : CallT PR fn_slices_SortStableFunc___api_Field_api_Field_ [x, cmp] [] st K :=
  tcalls_fw (cfg := ⟨[], [], []⟩) (h := .none) mixed (fun _ _ => Tryz.call249 _ _) Tryz.func249 (by kernel_rfl) (by kernel_rfl) h
set_option maxRecDepth 100000 in
theorem vc_value_sorted_1 (a_0 : List UInt8) (a_1 : Int) (a_2 : Bool) (a_3 : Bool) (a_4 : List UInt8) (a_5 : Int) (a_6 : Int) (a_7 : Int) (a_8 : Int) (a_9 : Int) (a_10 : List UInt8) (a_11 : TV) (a_12 : TV) (a_13 : TV) (b_0 : List UInt8) (b_1 : Int) (b_2 : Bool) (b_3 : Bool) (b_4 : List UInt8) (b_5 : Int) (b_6 : Int) (b_7 : Int) (b_8 : Int) (b_9 : Int) (b_10 : List UInt8) (b_11 : TV) (b_12 : TV) (b_13 : TV) (st : St) (K : Int → St → Prop) (h : CallT PR fn_strings_Compare [(.str a_0), (.str b_0)] [.one (.int .i64)] st (fun (n1 : Int) (st1 : St) => K (n1) st1)) : CallT PR fn_value_sorted_1 [(.agg [(.str a_0), (.int .i64 a_1), (.bool a_2), (.bool a_3), (.str a_4), (.int .i64 a_5), (.int .i64 a_6), (.int .i64 a_7), (.int .i64 a_8), (.int .i64 a_9), (.str a_10), a_11, a_12, a_13]), (.agg [(.str b_0), (.int .i64 b_1), (.bool b_2), (.bool b_3), (.str b_4), (.int .i64 b_5), (.int .i64 b_6), (.int .i64 b_7), (.int .i64 b_8), (.int .i64 b_9), (.str b_10), b_11, b_12, b_13])] [.one (.int .i64)] st K :=
  tcalls_fw (cfg := ⟨[2, 3], [], []⟩) (h := .none) mixed (fun _ _ => Tryz.call250 _ _) Tryz.func250 (by kernel_rfl) (by kernel_rfl) h
set_option maxRecDepth 100000 in
theorem vc_canon_quote (w : Nat) (s : List UInt8) (st : St) (K : St → Prop) (h : CallT PR fn_strings_Builder_WriteByte [(.box w 0), (.int .u8 (34 : Int))] [.one (.tv)] st (fun (v1 : TV) (st1 : St) => ∃ (I1 : Int → TV → List UInt8 → St → Prop) (M1 : Int → TV → List UInt8 → St → Nat), (I1 ((0 : Int)) ((.box w 0)) (s) st1) ∧ ∀ (i_1 : Int) (w_1 : TV) (s_1 : List UInt8) (st2 : St), I1 i_1 w_1 s_1 st2 → (BIf (decide (i_1 < ((s_1).length : Int))) (((0 ≤ i_1 ∧ i_1 < ((s_1).length : Int)) ∧ CallT PR fn_canon_short [(.int .u8 ((List.getD s_1 (Int.toNat i_1) 0).toNat : Int))] [.one (.int .u8)] st2 (fun (n1 : Int) (st3 : St) => BIf (decide (n1 ≠ (0 : Int))) (CallT PR fn_strings_Builder_WriteByte [w_1, (.int .u8 (92 : Int))] [.one (.tv)] st3 (fun (v2 : TV) (st4 : St) => CallT PR fn_strings_Builder_WriteByte [w_1, (.int .u8 n1)] [.one (.tv)] st4 (fun (v3 : TV) (st5 : St) => (I1 ((IntKind.i64.wrap (i_1 + (1 : Int)))) (w_1) (s_1) st5 ∧ M1 ((IntKind.i64.wrap (i_1 + (1 : Int)))) (w_1) (s_1) st5 < M1 i_1 w_1 s_1 st2)))) (BIf (decide (((List.getD s_1 (Int.toNat i_1) 0).toNat : Int) < (32 : Int))) (CallT PR fn_strings_Builder_WriteString [w_1, (.str str43)] [.one (.int .i64), .one (.tv)] st3 (fun (n2 : Int) (v4 : TV) (st6 : St) => ((0 ≤ (Int.fdiv ((List.getD s_1 (Int.toNat i_1) 0).toNat : Int) (2 ^ (min (Int.toNat (4 : Int)) (IntKind.bits .u8)))) ∧ (Int.fdiv ((List.getD s_1 (Int.toNat i_1) 0).toNat : Int) (2 ^ (min (Int.toNat (4 : Int)) (IntKind.bits .u8)))) < ((str20).length : Int)) ∧ CallT PR fn_strings_Builder_WriteByte [w_1, (.int .u8 ((List.getD str20 (Int.toNat (Int.fdiv ((List.getD s_1 (Int.toNat i_1) 0).toNat : Int) (2 ^ (min (Int.toNat (4 : Int)) (IntKind.bits .u8))))) 0).toNat : Int))] [.one (.tv)] st6 (fun (v5 : TV) (st7 : St) => ((0 ≤ (bitsI .and .u8 ((List.getD s_1 (Int.toNat i_1) 0).toNat : Int) (15 : Int)) ∧ (bitsI .and .u8 ((List.getD s_1 (Int.toNat i_1) 0).toNat : Int) (15 : Int)) < ((str20).length : Int)) ∧ CallT PR fn_strings_Builder_WriteByte [w_1, (.int .u8 ((List.getD str20 (Int.toNat (bitsI .and .u8 ((List.getD s_1 (Int.toNat i_1) 0).toNat : Int) (15 : Int))) 0).toNat : Int))] [.one (.tv)] st7 (fun (v6 : TV) (st8 : St) => (I1 ((IntKind.i64.wrap (i_1 + (1 : Int)))) (w_1) (s_1) st8 ∧ M1 ((IntKind.i64.wrap (i_1 + (1 : Int)))) (w_1) (s_1) st8 < M1 i_1 w_1 s_1 st2))))))) (CallT PR fn_strings_Builder_WriteByte [w_1, (.int .u8 ((List.getD s_1 (Int.toNat i_1) 0).toNat : Int))] [.one (.tv)] st3 (fun (v7 : TV) (st9 : St) => (I1 ((IntKind.i64.wrap (i_1 + (1 : Int)))) (w_1) (s_1) st9 ∧ M1 ((IntKind.i64.wrap (i_1 + (1 : Int)))) (w_1) (s_1) st9 < M1 i_1 w_1 s_1 st2))))))) (CallT PR fn_strings_Builder_WriteByte [w_1, (.int .u8 (34 : Int))] [.one (.tv)] st2 (fun (v8 : TV) (st10 : St) => K  st10))))) : CallT PR fn_canon_quote [(.box w 0), (.str s)] [] st K :=
  tcalls_fw (cfg := ⟨[], [], []⟩) (h := (.seq .none (.seq (.seq .none (.block (.loop ⟨[(4, .int .i64), (0, .tv), (1, .str)], [], [], []⟩ .none))) .none))) mixed (fun _ _ => Tryz.call252 _ _) Tryz.func252 (by kernel_rfl) (by kernel_rfl) h
set_option maxRecDepth 100000 in
theorem vc_base_Encode (b : TV) (pad : Bool) (st : St) (K : List UInt8 → St → Prop) (h : ∃ (I1 : TV → Int → TV → Bool → St → Prop) (M1 : TV → Int → TV → Bool → St → Nat), (I1 (.nilSlice) ((0 : Int)) (b) (pad) st) ∧ ∀ (out_1 : TV) (i_1 : Int) (b_1 : TV) (pad_1 : Bool) (st1 : St), I1 out_1 i_1 b_1 pad_1 st1 → (need (isSl b_1) (BIf (decide (i_1 < (lenS b_1 : Int))) (need (isSl b_1) (∃ (I2 : Int → Int → TV → Bool → TV → Int → Int → St → Prop) (M2 : Int → Int → TV → Bool → TV → Int → Int → St → Nat), (I2 ((0 : Int)) ((0 : Int)) (b_1) (pad_1) (out_1) (i_1) ((min (3 : Int) (IntKind.i64.wrap ((lenS b_1 : Int) - i_1)))) st1) ∧ ∀ (word_1 : Int) (n_1 : Int) (b_2 : TV) (pad_2 : Bool) (out_2 : TV) (i_2 : Int) (n_2 : Int) (st2 : St), I2 word_1 n_1 b_2 pad_2 out_2 i_2 n_2 st2 → (BIf (decide (n_1 < (3 : Int))) (BIf (decide (n_1 < n_2)) (((0 ≤ (IntKind.i64.wrap (i_2 + n_1)) ∧ (IntKind.i64.wrap (i_2 + n_1)) < (lenZ 1 b_2 : Int)) ∧ optK (ldCell st2 [] (.t (ixT 1 b_2 (Int.toNat (IntKind.i64.wrap (i_2 + n_1))))) 0) (fun (x1 : TV) => decT (.int .u8) x1 (fun (n1 : Int) => (I2 ((bitsI .or .i64 (IntKind.i64.wrap (word_1 * 2 ^ (min (Int.toNat (8 : Int)) (IntKind.bits .i64)))) (IntKind.i64.wrap n1))) ((IntKind.i64.wrap (n_1 + (1 : Int)))) (b_2) (pad_2) (out_2) (i_2) (n_2) st2 ∧ M2 ((bitsI .or .i64 (IntKind.i64.wrap (word_1 * 2 ^ (min (Int.toNat (8 : Int)) (IntKind.bits .i64)))) (IntKind.i64.wrap n1))) ((IntKind.i64.wrap (n_1 + (1 : Int)))) (b_2) (pad_2) (out_2) (i_2) (n_2) st2 < M2 word_1 n_1 b_2 pad_2 out_2 i_2 n_2 st2))))) ((I2 ((IntKind.i64.wrap (word_1 * 2 ^ (min (Int.toNat (8 : Int)) (IntKind.bits .i64))))) ((IntKind.i64.wrap (n_1 + (1 : Int)))) (b_2) (pad_2) (out_2) (i_2) (n_2) st2 ∧ M2 ((IntKind.i64.wrap (word_1 * 2 ^ (min (Int.toNat (8 : Int)) (IntKind.bits .i64))))) ((IntKind.i64.wrap (n_1 + (1 : Int)))) (b_2) (pad_2) (out_2) (i_2) (n_2) st2 < M2 word_1 n_1 b_2 pad_2 out_2 i_2 n_2 st2))) (∃ (I3 : TV → Int → TV → Bool → Int → Int → Int → St → Prop) (M3 : TV → Int → TV → Bool → Int → Int → Int → St → Nat), (I3 (out_2) ((0 : Int)) (b_2) (pad_2) (i_2) (n_2) (word_1) st2) ∧ ∀ (out_3 : TV) (n_3 : Int) (b_3 : TV) (pad_3 : Bool) (i_3 : Int) (n_4 : Int) (word_2 : Int) (st3 : St), I3 out_3 n_3 b_3 pad_3 i_3 n_4 word_2 st3 → (BIf (decide (n_3 < (4 : Int))) (BIf (decide (n_3 ≤ n_4)) (need (decide (0 ≤ (IntKind.i64.wrap ((18 : Int) - (IntKind.i64.wrap ((6 : Int) * n_3)))))) (((0 ≤ (bitsI .and .i64 (Int.fdiv word_2 (2 ^ (min (Int.toNat (IntKind.i64.wrap ((18 : Int) - (IntKind.i64.wrap ((6 : Int) * n_3))))) (IntKind.bits .i64)))) (63 : Int)) ∧ (bitsI .and .i64 (Int.fdiv word_2 (2 ^ (min (Int.toNat (IntKind.i64.wrap ((18 : Int) - (IntKind.i64.wrap ((6 : Int) * n_3))))) (IntKind.bits .i64)))) (63 : Int)) < ((str46).length : Int)) ∧ appK 5 1 1 out_3 1 [(.int .u8 ((List.getD str46 (Int.toNat (bitsI .and .i64 (Int.fdiv word_2 (2 ^ (min (Int.toNat (IntKind.i64.wrap ((18 : Int) - (IntKind.i64.wrap ((6 : Int) * n_3))))) (IntKind.bits .i64)))) (63 : Int))) 0).toNat : Int))] st3 (fun (v1 : TV) (st4 : St) => (I3 (v1) ((IntKind.i64.wrap (n_3 + (1 : Int)))) (b_3) (pad_3) (i_3) (n_4) (word_2) st4 ∧ M3 (v1) ((IntKind.i64.wrap (n_3 + (1 : Int)))) (b_3) (pad_3) (i_3) (n_4) (word_2) st4 < M3 out_3 n_3 b_3 pad_3 i_3 n_4 word_2 st3))))) (BIf pad_3 (appK 5 1 1 out_3 1 [(.int .u8 (61 : Int))] st3 (fun (v2 : TV) (st5 : St) => (I3 (v2) ((IntKind.i64.wrap (n_3 + (1 : Int)))) (b_3) (pad_3) (i_3) (n_4) (word_2) st5 ∧ M3 (v2) ((IntKind.i64.wrap (n_3 + (1 : Int)))) (b_3) (pad_3) (i_3) (n_4) (word_2) st5 < M3 out_3 n_3 b_3 pad_3 i_3 n_4 word_2 st3))) ((I3 (out_3) ((IntKind.i64.wrap (n_3 + (1 : Int)))) (b_3) (pad_3) (i_3) (n_4) (word_2) st3 ∧ M3 (out_3) ((IntKind.i64.wrap (n_3 + (1 : Int)))) (b_3) (pad_3) (i_3) (n_4) (word_2) st3 < M3 out_3 n_3 b_3 pad_3 i_3 n_4 word_2 st3)))) ((I1 (out_3) ((IntKind.i64.wrap (i_3 + (3 : Int)))) (b_3) (pad_3) st3 ∧ M1 (out_3) ((IntKind.i64.wrap (i_3 + (3 : Int)))) (b_3) (pad_3) st3 < M1 out_1 i_1 b_1 pad_1 st1))))))) (optK ((toBytes st1 out_1).map TV.str) (fun (x2 : TV) => decT (.str) x2 (fun (s1 : List UInt8) => K (s1) st1)))))) : CallT PR fn_base_Encode [b, (.bool pad)] [.one (.str)] st K :=
  tcalls_fw (cfg := ⟨[], [], []⟩) (h := (.seq .none (.seq .none (.seq (.seq .none (.block (.loop ⟨[(5, .tv), (6, .int .i64), (0, .tv), (1, .bool)], [], [], []⟩ (.seq .none (.seq (.block (.seq .none (.seq .none (.seq (.seq .none (.block (.loop ⟨[(8, .int .i64), (22, .int .i64), (0, .tv), (1, .bool), (5, .tv), (6, .int .i64), (7, .int .i64)], [], [], []⟩ .none))) (.seq .none (.block (.loop ⟨[(5, .tv), (40, .int .i64), (0, .tv), (1, .bool), (6, .int .i64), (7, .int .i64), (8, .int .i64)], [], [], []⟩ .none))))))) .none))))) .none)))) mixed (fun _ _ => Tryz.call253 _ _) Tryz.func253 (by kernel_rfl) (by kernel_rfl) h
set_option maxRecDepth 100000 in
theorem vc_strings_Builder_WriteByte (b : Nat) (c : Int) (st : St) (K : TV → St → Prop) (h : CallT PR fn_strings_Builder_copyCheck [(.box b 0)] [] st (fun  (st1 : St) => optK (ldCell st1 [] (.t (.box b 1)) 0) (fun (v1 : TV) => appK 5 1 1 v1 1 [(.int .u8 c)] st1 (fun (v2 : TV) (st2 : St) => need (List.all [v2] oneT) (stB st2 (.box b 1) [v2] (fun (st3 : St) => K (.nilIface) st3)))))) : CallT PR fn_strings_Builder_WriteByte [(.box b 0), (.int .u8 c)] [.one (.tv)] st K :=
  tcalls_fw (cfg := ⟨[], [], []⟩) (h := .none) mixed (fun _ _ => Tryz.call254 _ _) Tryz.func254 (by kernel_rfl) (by kernel_rfl) h
set_option maxRecDepth 100000 in
theorem vc_datakitref07_own (v_0 : Int) (v_1 : Bool) (v_2 : Bool) (v_3 : List UInt8) (v_4 : Int) (v_5 : Int) (v_6 : Int) (v_7 : Int) (v_8 : Int) (v_9 : List UInt8) (v_10 : TV) (v_11 : TV) (v_12 : TV) (st : St) (K : Bool → St → Prop) (h : BIf (decide (v_0 < (0 : Int))) (K (false) st) (BIf (decide ((7 : Int) < v_0)) (K (false) st) (BIf (decide (v_0 ≠ (1 : Int))) (BIf v_1 (K (false) st) (BIf (decide (v_0 ≠ (2 : Int))) (BIf (!((v_2 == false) && (decide (v_3 = ([] : List UInt8)) && (decide (v_4 = (0 : Int)) && true)))) (K (false) st) (BIf (decide (v_0 ≠ (3 : Int))) (BIf (!(decide (v_5 = (0 : Int)) && (decide (v_6 = (0 : Int)) && (decide (v_7 = (0 : Int)) && (decide (v_8 = (0 : Int)) && true))))) (K (false) st) (BIf (decide (v_0 = (4 : Int))) (BIf (decide (v_0 = (5 : Int))) (BIf (decide (v_0 = (6 : Int))) (BIf (decide (v_0 = (7 : Int))) (K (true) st) (need (isSl v_12) (K ((decide ((lenS v_12 : Int) = (0 : Int)))) st))) (need (isSl v_11) (BIf (decide ((lenS v_11 : Int) = (0 : Int))) (BIf (decide (v_0 = (7 : Int))) (K (true) st) (need (isSl v_12) (K ((decide ((lenS v_12 : Int) = (0 : Int)))) st))) (K (false) st)))) (need (isSl v_10) (BIf (decide ((lenS v_10 : Int) = (0 : Int))) (BIf (decide (v_0 = (6 : Int))) (BIf (decide (v_0 = (7 : Int))) (K (true) st) (need (isSl v_12) (K ((decide ((lenS v_12 : Int) = (0 : Int)))) st))) (need (isSl v_11) (BIf (decide ((lenS v_11 : Int) = (0 : Int))) (BIf (decide (v_0 = (7 : Int))) (K (true) st) (need (isSl v_12) (K ((decide ((lenS v_12 : Int) = (0 : Int)))) st))) (K (false) st)))) (K (false) st)))) (BIf (decide (v_9 = ([] : List UInt8))) (BIf (decide (v_0 = (5 : Int))) (BIf (decide (v_0 = (6 : Int))) (BIf (decide (v_0 = (7 : Int))) (K (true) st) (need (isSl v_12) (K ((decide ((lenS v_12 : Int) = (0 : Int)))) st))) (need (isSl v_11) (BIf (decide ((lenS v_11 : Int) = (0 : Int))) (BIf (decide (v_0 = (7 : Int))) (K (true) st) (need (isSl v_12) (K ((decide ((lenS v_12 : Int) = (0 : Int)))) st))) (K (false) st)))) (need (isSl v_10) (BIf (decide ((lenS v_10 : Int) = (0 : Int))) (BIf (decide (v_0 = (6 : Int))) (BIf (decide (v_0 = (7 : Int))) (K (true) st) (need (isSl v_12) (K ((decide ((lenS v_12 : Int) = (0 : Int)))) st))) (need (isSl v_11) (BIf (decide ((lenS v_11 : Int) = (0 : Int))) (BIf (decide (v_0 = (7 : Int))) (K (true) st) (need (isSl v_12) (K ((decide ((lenS v_12 : Int) = (0 : Int)))) st))) (K (false) st)))) (K (false) st)))) (K (false) st)))) (BIf (decide (v_0 = (4 : Int))) (BIf (decide (v_0 = (5 : Int))) (BIf (decide (v_0 = (6 : Int))) (BIf (decide (v_0 = (7 : Int))) (K (true) st) (need (isSl v_12) (K ((decide ((lenS v_12 : Int) = (0 : Int)))) st))) (need (isSl v_11) (BIf (decide ((lenS v_11 : Int) = (0 : Int))) (BIf (decide (v_0 = (7 : Int))) (K (true) st) (need (isSl v_12) (K ((decide ((lenS v_12 : Int) = (0 : Int)))) st))) (K (false) st)))) (need (isSl v_10) (BIf (decide ((lenS v_10 : Int) = (0 : Int))) (BIf (decide (v_0 = (6 : Int))) (BIf (decide (v_0 = (7 : Int))) (K (true) st) (need (isSl v_12) (K ((decide ((lenS v_12 : Int) = (0 : Int)))) st))) (need (isSl v_11) (BIf (decide ((lenS v_11 : Int) = (0 : Int))) (BIf (decide (v_0 = (7 : Int))) (K (true) st) (need (isSl v_12) (K ((decide ((lenS v_12 : Int) = (0 : Int)))) st))) (K (false) st)))) (K (false) st)))) (BIf (decide (v_9 = ([] : List UInt8))) (BIf (decide (v_0 = (5 : Int))) (BIf (decide (v_0 = (6 : Int))) (BIf (decide (v_0 = (7 : Int))) (K (true) st) (need (isSl v_12) (K ((decide ((lenS v_12 : Int) = (0 : Int)))) st))) (need (isSl v_11) (BIf (decide ((lenS v_11 : Int) = (0 : Int))) (BIf (decide (v_0 = (7 : Int))) (K (true) st) (need (isSl v_12) (K ((decide ((lenS v_12 : Int) = (0 : Int)))) st))) (K (false) st)))) (need (isSl v_10) (BIf (decide ((lenS v_10 : Int) = (0 : Int))) (BIf (decide (v_0 = (6 : Int))) (BIf (decide (v_0 = (7 : Int))) (K (true) st) (need (isSl v_12) (K ((decide ((lenS v_12 : Int) = (0 : Int)))) st))) (need (isSl v_11) (BIf (decide ((lenS v_11 : Int) = (0 : Int))) (BIf (decide (v_0 = (7 : Int))) (K (true) st) (need (isSl v_12) (K ((decide ((lenS v_12 : Int) = (0 : Int)))) st))) (K (false) st)))) (K (false) st)))) (K (false) st))))) (BIf (decide (v_0 ≠ (3 : Int))) (BIf (!(decide (v_5 = (0 : Int)) && (decide (v_6 = (0 : Int)) && (decide (v_7 = (0 : Int)) && (decide (v_8 = (0 : Int)) && true))))) (K (false) st) (BIf (decide (v_0 = (4 : Int))) (BIf (decide (v_0 = (5 : Int))) (BIf (decide (v_0 = (6 : Int))) (BIf (decide (v_0 = (7 : Int))) (K (true) st) (need (isSl v_12) (K ((decide ((lenS v_12 : Int) = (0 : Int)))) st))) (need (isSl v_11) (BIf (decide ((lenS v_11 : Int) = (0 : Int))) (BIf (decide (v_0 = (7 : Int))) (K (true) st) (need (isSl v_12) (K ((decide ((lenS v_12 : Int) = (0 : Int)))) st))) (K (false) st)))) (need (isSl v_10) (BIf (decide ((lenS v_10 : Int) = (0 : Int))) (BIf (decide (v_0 = (6 : Int))) (BIf (decide (v_0 = (7 : Int))) (K (true) st) (need (isSl v_12) (K ((decide ((lenS v_12 : Int) = (0 : Int)))) st))) (need (isSl v_11) (BIf (decide ((lenS v_11 : Int) = (0 : Int))) (BIf (decide (v_0 = (7 : Int))) (K (true) st) (need (isSl v_12) (K ((decide ((lenS v_12 : Int) = (0 : Int)))) st))) (K (false) st)))) (K (false) st)))) (BIf (decide (v_9 = ([] : List UInt8))) (BIf (decide (v_0 = (5 : Int))) (BIf (decide (v_0 = (6 : Int))) (BIf (decide (v_0 = (7 : Int))) (K (true) st) (need (isSl v_12) (K ((decide ((lenS v_12 : Int) = (0 : Int)))) st))) (need (isSl v_11) (BIf (decide ((lenS v_11 : Int) = (0 : Int))) (BIf (decide (v_0 = (7 : Int))) (K (true) st) (need (isSl v_12) (K ((decide ((lenS v_12 : Int) = (0 : Int)))) st))) (K (false) st)))) (need (isSl v_10) (BIf (decide ((lenS v_10 : Int) = (0 : Int))) (BIf (decide (v_0 = (6 : Int))) (BIf (decide (v_0 = (7 : Int))) (K (true) st) (need (isSl v_12) (K ((decide ((lenS v_12 : Int) = (0 : Int)))) st))) (need (isSl v_11) (BIf (decide ((lenS v_11 : Int) = (0 : Int))) (BIf (decide (v_0 = (7 : Int))) (K (true) st) (need (isSl v_12) (K ((decide ((lenS v_12 : Int) = (0 : Int)))) st))) (K (false) st)))) (K (false) st)))) (K (false) st)))) (BIf (decide (v_0 = (4 : Int))) (BIf (decide (v_0 = (5 : Int))) (BIf (decide (v_0 = (6 : Int))) (BIf (decide (v_0 = (7 : Int))) (K (true) st) (need (isSl v_12) (K ((decide ((lenS v_12 : Int) = (0 : Int)))) st))) (need (isSl v_11) (BIf (decide ((lenS v_11 : Int) = (0 : Int))) (BIf (decide (v_0 = (7 : Int))) (K (true) st) (need (isSl v_12) (K ((decide ((lenS v_12 : Int) = (0 : Int)))) st))) (K (false) st)))) (need (isSl v_10) (BIf (decide ((lenS v_10 : Int) = (0 : Int))) (BIf (decide (v_0 = (6 : Int))) (BIf (decide (v_0 = (7 : Int))) (K (true) st) (need (isSl v_12) (K ((decide ((lenS v_12 : Int) = (0 : Int)))) st))) (need (isSl v_11) (BIf (decide ((lenS v_11 : Int) = (0 : Int))) (BIf (decide (v_0 = (7 : Int))) (K (true) st) (need (isSl v_12) (K ((decide ((lenS v_12 : Int) = (0 : Int)))) st))) (K (false) st)))) (K (false) st)))) (BIf (decide (v_9 = ([] : List UInt8))) (BIf (decide (v_0 = (5 : Int))) (BIf (decide (v_0 = (6 : Int))) (BIf (decide (v_0 = (7 : Int))) (K (true) st) (need (isSl v_12) (K ((decide ((lenS v_12 : Int) = (0 : Int)))) st))) (need (isSl v_11) (BIf (decide ((lenS v_11 : Int) = (0 : Int))) (BIf (decide (v_0 = (7 : Int))) (K (true) st) (need (isSl v_12) (K ((decide ((lenS v_12 : Int) = (0 : Int)))) st))) (K (false) st)))) (need (isSl v_10) (BIf (decide ((lenS v_10 : Int) = (0 : Int))) (BIf (decide (v_0 = (6 : Int))) (BIf (decide (v_0 = (7 : Int))) (K (true) st) (need (isSl v_12) (K ((decide ((lenS v_12 : Int) = (0 : Int)))) st))) (need (isSl v_11) (BIf (decide ((lenS v_11 : Int) = (0 : Int))) (BIf (decide (v_0 = (7 : Int))) (K (true) st) (need (isSl v_12) (K ((decide ((lenS v_12 : Int) = (0 : Int)))) st))) (K (false) st)))) (K (false) st)))) (K (false) st)))))) (BIf (decide (v_0 ≠ (2 : Int))) (BIf (!((v_2 == false) && (decide (v_3 = ([] : List UInt8)) && (decide (v_4 = (0 : Int)) && true)))) (K (false) st) (BIf (decide (v_0 ≠ (3 : Int))) (BIf (!(decide (v_5 = (0 : Int)) && (decide (v_6 = (0 : Int)) && (decide (v_7 = (0 : Int)) && (decide (v_8 = (0 : Int)) && true))))) (K (false) st) (BIf (decide (v_0 = (4 : Int))) (BIf (decide (v_0 = (5 : Int))) (BIf (decide (v_0 = (6 : Int))) (BIf (decide (v_0 = (7 : Int))) (K (true) st) (need (isSl v_12) (K ((decide ((lenS v_12 : Int) = (0 : Int)))) st))) (need (isSl v_11) (BIf (decide ((lenS v_11 : Int) = (0 : Int))) (BIf (decide (v_0 = (7 : Int))) (K (true) st) (need (isSl v_12) (K ((decide ((lenS v_12 : Int) = (0 : Int)))) st))) (K (false) st)))) (need (isSl v_10) (BIf (decide ((lenS v_10 : Int) = (0 : Int))) (BIf (decide (v_0 = (6 : Int))) (BIf (decide (v_0 = (7 : Int))) (K (true) st) (need (isSl v_12) (K ((decide ((lenS v_12 : Int) = (0 : Int)))) st))) (need (isSl v_11) (BIf (decide ((lenS v_11 : Int) = (0 : Int))) (BIf (decide (v_0 = (7 : Int))) (K (true) st) (need (isSl v_12) (K ((decide ((lenS v_12 : Int) = (0 : Int)))) st))) (K (false) st)))) (K (false) st)))) (BIf (decide (v_9 = ([] : List UInt8))) (BIf (decide (v_0 = (5 : Int))) (BIf (decide (v_0 = (6 : Int))) (BIf (decide (v_0 = (7 : Int))) (K (true) st) (need (isSl v_12) (K ((decide ((lenS v_12 : Int) = (0 : Int)))) st))) (need (isSl v_11) (BIf (decide ((lenS v_11 : Int) = (0 : Int))) (BIf (decide (v_0 = (7 : Int))) (K (true) st) (need (isSl v_12) (K ((decide ((lenS v_12 : Int) = (0 : Int)))) st))) (K (false) st)))) (need (isSl v_10) (BIf (decide ((lenS v_10 : Int) = (0 : Int))) (BIf (decide (v_0 = (6 : Int))) (BIf (decide (v_0 = (7 : Int))) (K (true) st) (need (isSl v_12) (K ((decide ((lenS v_12 : Int) = (0 : Int)))) st))) (need (isSl v_11) (BIf (decide ((lenS v_11 : Int) = (0 : Int))) (BIf (decide (v_0 = (7 : Int))) (K (true) st) (need (isSl v_12) (K ((decide ((lenS v_12 : Int) = (0 : Int)))) st))) (K (false) st)))) (K (false) st)))) (K (false) st)))) (BIf (decide (v_0 = (4 : Int))) (BIf (decide (v_0 = (5 : Int))) (BIf (decide (v_0 = (6 : Int))) (BIf (decide (v_0 = (7 : Int))) (K (true) st) (need (isSl v_12) (K ((decide ((lenS v_12 : Int) = (0 : Int)))) st))) (need (isSl v_11) (BIf (decide ((lenS v_11 : Int) = (0 : Int))) (BIf (decide (v_0 = (7 : Int))) (K (true) st) (need (isSl v_12) (K ((decide ((lenS v_12 : Int) = (0 : Int)))) st))) (K (false) st)))) (need (isSl v_10) (BIf (decide ((lenS v_10 : Int) = (0 : Int))) (BIf (decide (v_0 = (6 : Int))) (BIf (decide (v_0 = (7 : Int))) (K (true) st) (need (isSl v_12) (K ((decide ((lenS v_12 : Int) = (0 : Int)))) st))) (need (isSl v_11) (BIf (decide ((lenS v_11 : Int) = (0 : Int))) (BIf (decide (v_0 = (7 : Int))) (K (true) st) (need (isSl v_12) (K ((decide ((lenS v_12 : Int) = (0 : Int)))) st))) (K (false) st)))) (K (false) st)))) (BIf (decide (v_9 = ([] : List UInt8))) (BIf (decide (v_0 = (5 : Int))) (BIf (decide (v_0 = (6 : Int))) (BIf (decide (v_0 = (7 : Int))) (K (true) st) (need (isSl v_12) (K ((decide ((lenS v_12 : Int) = (0 : Int)))) st))) (need (isSl v_11) (BIf (decide ((lenS v_11 : Int) = (0 : Int))) (BIf (decide (v_0 = (7 : Int))) (K (true) st) (need (isSl v_12) (K ((decide ((lenS v_12 : Int) = (0 : Int)))) st))) (K (false) st)))) (need (isSl v_10) (BIf (decide ((lenS v_10 : Int) = (0 : Int))) (BIf (decide (v_0 = (6 : Int))) (BIf (decide (v_0 = (7 : Int))) (K (true) st) (need (isSl v_12) (K ((decide ((lenS v_12 : Int) = (0 : Int)))) st))) (need (isSl v_11) (BIf (decide ((lenS v_11 : Int) = (0 : Int))) (BIf (decide (v_0 = (7 : Int))) (K (true) st) (need (isSl v_12) (K ((decide ((lenS v_12 : Int) = (0 : Int)))) st))) (K (false) st)))) (K (false) st)))) (K (false) st))))) (BIf (decide (v_0 ≠ (3 : Int))) (BIf (!(decide (v_5 = (0 : Int)) && (decide (v_6 = (0 : Int)) && (decide (v_7 = (0 : Int)) && (decide (v_8 = (0 : Int)) && true))))) (K (false) st) (BIf (decide (v_0 = (4 : Int))) (BIf (decide (v_0 = (5 : Int))) (BIf (decide (v_0 = (6 : Int))) (BIf (decide (v_0 = (7 : Int))) (K (true) st) (need (isSl v_12) (K ((decide ((lenS v_12 : Int) = (0 : Int)))) st))) (need (isSl v_11) (BIf (decide ((lenS v_11 : Int) = (0 : Int))) (BIf (decide (v_0 = (7 : Int))) (K (true) st) (need (isSl v_12) (K ((decide ((lenS v_12 : Int) = (0 : Int)))) st))) (K (false) st)))) (need (isSl v_10) (BIf (decide ((lenS v_10 : Int) = (0 : Int))) (BIf (decide (v_0 = (6 : Int))) (BIf (decide (v_0 = (7 : Int))) (K (true) st) (need (isSl v_12) (K ((decide ((lenS v_12 : Int) = (0 : Int)))) st))) (need (isSl v_11) (BIf (decide ((lenS v_11 : Int) = (0 : Int))) (BIf (decide (v_0 = (7 : Int))) (K (true) st) (need (isSl v_12) (K ((decide ((lenS v_12 : Int) = (0 : Int)))) st))) (K (false) st)))) (K (false) st)))) (BIf (decide (v_9 = ([] : List UInt8))) (BIf (decide (v_0 = (5 : Int))) (BIf (decide (v_0 = (6 : Int))) (BIf (decide (v_0 = (7 : Int))) (K (true) st) (need (isSl v_12) (K ((decide ((lenS v_12 : Int) = (0 : Int)))) st))) (need (isSl v_11) (BIf (decide ((lenS v_11 : Int) = (0 : Int))) (BIf (decide (v_0 = (7 : Int))) (K (true) st) (need (isSl v_12) (K ((decide ((lenS v_12 : Int) = (0 : Int)))) st))) (K (false) st)))) (need (isSl v_10) (BIf (decide ((lenS v_10 : Int) = (0 : Int))) (BIf (decide (v_0 = (6 : Int))) (BIf (decide (v_0 = (7 : Int))) (K (true) st) (need (isSl v_12) (K ((decide ((lenS v_12 : Int) = (0 : Int)))) st))) (need (isSl v_11) (BIf (decide ((lenS v_11 : Int) = (0 : Int))) (BIf (decide (v_0 = (7 : Int))) (K (true) st) (need (isSl v_12) (K ((decide ((lenS v_12 : Int) = (0 : Int)))) st))) (K (false) st)))) (K (false) st)))) (K (false) st)))) (BIf (decide (v_0 = (4 : Int))) (BIf (decide (v_0 = (5 : Int))) (BIf (decide (v_0 = (6 : Int))) (BIf (decide (v_0 = (7 : Int))) (K (true) st) (need (isSl v_12) (K ((decide ((lenS v_12 : Int) = (0 : Int)))) st))) (need (isSl v_11) (BIf (decide ((lenS v_11 : Int) = (0 : Int))) (BIf (decide (v_0 = (7 : Int))) (K (true) st) (need (isSl v_12) (K ((decide ((lenS v_12 : Int) = (0 : Int)))) st))) (K (false) st)))) (need (isSl v_10) (BIf (decide ((lenS v_10 : Int) = (0 : Int))) (BIf (decide (v_0 = (6 : Int))) (BIf (decide (v_0 = (7 : Int))) (K (true) st) (need (isSl v_12) (K ((decide ((lenS v_12 : Int) = (0 : Int)))) st))) (need (isSl v_11) (BIf (decide ((lenS v_11 : Int) = (0 : Int))) (BIf (decide (v_0 = (7 : Int))) (K (true) st) (need (isSl v_12) (K ((decide ((lenS v_12 : Int) = (0 : Int)))) st))) (K (false) st)))) (K (false) st)))) (BIf (decide (v_9 = ([] : List UInt8))) (BIf (decide (v_0 = (5 : Int))) (BIf (decide (v_0 = (6 : Int))) (BIf (decide (v_0 = (7 : Int))) (K (true) st) (need (isSl v_12) (K ((decide ((lenS v_12 : Int) = (0 : Int)))) st))) (need (isSl v_11) (BIf (decide ((lenS v_11 : Int) = (0 : Int))) (BIf (decide (v_0 = (7 : Int))) (K (true) st) (need (isSl v_12) (K ((decide ((lenS v_12 : Int) = (0 : Int)))) st))) (K (false) st)))) (need (isSl v_10) (BIf (decide ((lenS v_10 : Int) = (0 : Int))) (BIf (decide (v_0 = (6 : Int))) (BIf (decide (v_0 = (7 : Int))) (K (true) st) (need (isSl v_12) (K ((decide ((lenS v_12 : Int) = (0 : Int)))) st))) (need (isSl v_11) (BIf (decide ((lenS v_11 : Int) = (0 : Int))) (BIf (decide (v_0 = (7 : Int))) (K (true) st) (need (isSl v_12) (K ((decide ((lenS v_12 : Int) = (0 : Int)))) st))) (K (false) st)))) (K (false) st)))) (K (false) st)))))))) : CallT PR fn_datakitref07_own [(.agg [(.int .i64 v_0), (.bool v_1), (.bool v_2), (.str v_3), (.int .i64 v_4), (.int .i64 v_5), (.int .i64 v_6), (.int .i64 v_7), (.int .i64 v_8), (.str v_9), v_10, v_11, v_12])] [.one (.bool)] st K :=
  tcalls_fw (cfg := ⟨[1], [], []⟩) (h := .none) mixed (fun _ _ => Tryz.call257 _ _) Tryz.func257 (by kernel_rfl) (by kernel_rfl) h
end Go.TVF
end

section
set_option linter.unusedVariables false
namespace Go.TVF
open Go Go.Proofs
set_option maxRecDepth 100000 in
theorem vc_datakitref02_Valid (d_0 : Bool) (d_1 : List UInt8) (d_2 : Int) (st : St) (K : Bool → St → Prop) (h : BIf (decide (d_1 = ([] : List UInt8))) (BIf (!d_0) (K ((decide (d_2 = (0 : Int)))) st) (K (false) st)) (BIf (decide (((d_1).length : Int) ≤ (120 : Int))) (CallT PR fn_datakitref01_Valid [(.str d_1)] [.one (.bool)] st (fun (b1 : Bool) (st1 : St) => BIf b1 (CallT PR fn_datakitref01_Zeros [(.str d_1)] [.one (.int .i64)] st1 (fun (n1 : Int) (st2 : St) => BIf (decide (n1 = (0 : Int))) (BIf (decide ((-400 : Int) ≤ d_2)) (K ((decide (d_2 ≤ (400 : Int)))) st2) (K (false) st2)) (K (false) st2))) (K (false) st1))) (K (false) st))) : CallT PR fn_datakitref02_Valid [(.agg [(.bool d_0), (.str d_1), (.int .i64 d_2)])] [.one (.bool)] st K :=
  tcalls_fw (cfg := ⟨[1], [], []⟩) (h := .none) mixed (fun _ _ => Tryz.call258 _ _) Tryz.func258 (by kernel_rfl) (by kernel_rfl) h
set_option maxRecDepth 100000 in
theorem vc_datakitref07_Keys (l : TV) (st : St) (K : Int → St → Prop) (h : ∃ (I1 : Int → TV → St → Prop) (M1 : Int → TV → St → Nat), (I1 ((0 : Int)) (l) st) ∧ ∀ (i_1 : Int) (l_1 : TV) (st1 : St), I1 i_1 l_1 st1 → (need (isSl l_1) (BIf (decide (i_1 < (lenS l_1 : Int))) (((0 ≤ i_1 ∧ i_1 < (lenZ 14 l_1 : Int)) ∧ need (isPtr (ixT 14 l_1 (Int.toNat i_1))) (optK (ldCell st1 [] (.t (fldT (ixT 14 l_1 (Int.toNat i_1)) 0)) 0) (fun (x1 : TV) => decT (.str) x1 (fun (s1 : List UInt8) => CallT PR fn_datakitref03_Valid [(.str s1)] [.one (.bool)] st1 (fun (b1 : Bool) (st2 : St) => BIf (!b1) (K ((5 : Int)) st2) (((0 ≤ i_1 ∧ i_1 < (lenZ 14 l_1 : Int)) ∧ need (isPtr (ixT 14 l_1 (Int.toNat i_1))) (optK (ldCell st2 [] (.t (fldT (ixT 14 l_1 (Int.toNat i_1)) 0)) 0) (fun (x2 : TV) => decT (.str) x2 (fun (s2 : List UInt8) => BIf (decide ((1024 : Int) < ((s2).length : Int))) (K ((10 : Int)) st2) (∃ (I2 : Int → TV → Int → St → Prop) (M2 : Int → TV → Int → St → Nat), (I2 ((0 : Int)) (l_1) (i_1) st2) ∧ ∀ (k_1 : Int) (l_2 : TV) (i_2 : Int) (st3 : St), I2 k_1 l_2 i_2 st3 → (BIf (decide (k_1 < i_2)) (((0 ≤ k_1 ∧ k_1 < (lenZ 14 l_2 : Int)) ∧ need (isPtr (ixT 14 l_2 (Int.toNat k_1))) (optK (ldCell st3 [] (.t (fldT (ixT 14 l_2 (Int.toNat k_1)) 0)) 0) (fun (x3 : TV) => decT (.str) x3 (fun (s3 : List UInt8) => ((0 ≤ i_2 ∧ i_2 < (lenZ 14 l_2 : Int)) ∧ need (isPtr (ixT 14 l_2 (Int.toNat i_2))) (optK (ldCell st3 [] (.t (fldT (ixT 14 l_2 (Int.toNat i_2)) 0)) 0) (fun (x4 : TV) => decT (.str) x4 (fun (s4 : List UInt8) => BIf (decide (s3 = s4)) (K ((8 : Int)) st3) ((I2 ((IntKind.i64.wrap (k_1 + (1 : Int)))) (l_2) (i_2) st3 ∧ M2 ((IntKind.i64.wrap (k_1 + (1 : Int)))) (l_2) (i_2) st3 < M2 k_1 l_2 i_2 st3))))))))))) ((I1 ((IntKind.i64.wrap (i_2 + (1 : Int)))) (l_2) st3 ∧ M1 ((IntKind.i64.wrap (i_2 + (1 : Int)))) (l_2) st3 < M1 i_1 l_1 st1))))))))))))))) (K ((0 : Int)) st1)))) : CallT PR fn_datakitref07_Keys [l] [.one (.int .i64)] st K :=
  tcalls_fw (cfg := ⟨[], [], []⟩) (h := (.seq .none (.seq (.seq .none (.block (.loop ⟨[(3, .int .i64), (0, .tv)], [], [], []⟩ (.seq .none (.seq (.block (.seq .none (.seq .none (.seq .none (.block (.loop ⟨[(4, .int .i64), (0, .tv), (3, .int .i64)], [], [], []⟩ .none)))))) .none))))) .none))) mixed (fun _ _ => Tryz.call259 _ _) Tryz.func259 (by kernel_rfl) (by kernel_rfl) h
set_option maxRecDepth 100000 in
theorem vc_utf_Decode (s : List UInt8) (atx : Int) (st : St) (K : Int → Int → St → Prop) (h : BIf (decide (atx < (0 : Int))) (K ((0 : Int)) ((0 : Int)) st) (BIf (decide (((s).length : Int) ≤ atx)) (K ((0 : Int)) ((0 : Int)) st) (((0 ≤ atx ∧ atx < ((s).length : Int)) ∧ CallT PR fn_utf_head [(.int .u8 ((List.getD s (Int.toNat atx) 0).toNat : Int))] [.one (.int .i64), .one (.int .i64)] st (fun (n1 : Int) (n2 : Int) (st1 : St) => BIf (decide (n1 = (0 : Int))) (K ((0 : Int)) ((0 : Int)) st1) (BIf (decide ((IntKind.i64.wrap (((s).length : Int) - atx)) < n1)) (K ((0 : Int)) ((0 : Int)) st1) (∃ (I1 : Int → Int → List UInt8 → Int → Int → St → Prop) (M1 : Int → Int → List UInt8 → Int → Int → St → Nat), (I1 (n2) ((1 : Int)) (s) (atx) (n1) st1) ∧ ∀ (r_1 : Int) (i_1 : Int) (s_1 : List UInt8) (at_1 : Int) (n_1 : Int) (st2 : St), I1 r_1 i_1 s_1 at_1 n_1 st2 → (BIf (decide (i_1 < n_1)) (((0 ≤ (IntKind.i64.wrap (at_1 + i_1)) ∧ (IntKind.i64.wrap (at_1 + i_1)) < ((s_1).length : Int)) ∧ BIf (decide ((bitsI .and .u8 ((List.getD s_1 (Int.toNat (IntKind.i64.wrap (at_1 + i_1))) 0).toNat : Int) (192 : Int)) ≠ (128 : Int))) (K ((0 : Int)) ((0 : Int)) st2) ((I1 ((bitsI .or .i64 (IntKind.i64.wrap (r_1 * 2 ^ (min (Int.toNat (6 : Int)) (IntKind.bits .i64)))) (IntKind.i64.wrap (bitsI .and .u8 ((List.getD s_1 (Int.toNat (IntKind.i64.wrap (at_1 + i_1))) 0).toNat : Int) (63 : Int))))) ((IntKind.i64.wrap (i_1 + (1 : Int)))) (s_1) (at_1) (n_1) st2 ∧ M1 ((bitsI .or .i64 (IntKind.i64.wrap (r_1 * 2 ^ (min (Int.toNat (6 : Int)) (IntKind.bits .i64)))) (IntKind.i64.wrap (bitsI .and .u8 ((List.getD s_1 (Int.toNat (IntKind.i64.wrap (at_1 + i_1))) 0).toNat : Int) (63 : Int))))) ((IntKind.i64.wrap (i_1 + (1 : Int)))) (s_1) (at_1) (n_1) st2 < M1 r_1 i_1 s_1 at_1 n_1 st2)))) (CallT PR fn_utf_scalar [(.int .i64 r_1)] [.one (.bool)] st2 (fun (b1 : Bool) (st3 : St) => BIf (!b1) (K ((0 : Int)) ((0 : Int)) st3) (CallT PR fn_utf_width [(.int .i64 r_1)] [.one (.int .i64)] st3 (fun (n3 : Int) (st4 : St) => BIf (decide (n3 ≠ n_1)) (K ((0 : Int)) ((0 : Int)) st4) (K (r_1) (n_1) st4))))))))))))) : CallT PR fn_utf_Decode [(.str s), (.int .i64 atx)] [.one (.int .i64), .one (.int .i64)] st K :=
  tcalls_fw (cfg := ⟨[], [], []⟩) (h := (.seq .none (.seq .none (.seq .none (.seq .none (.seq (.seq .none (.block (.loop ⟨[(4, .int .i64), (7, .int .i64), (0, .str), (1, .int .i64), (6, .int .i64)], [], [], []⟩ .none))) .none)))))) mixed (fun _ _ => Tryz.call261 _ _) Tryz.func261 (by kernel_rfl) (by kernel_rfl) h
set_option maxRecDepth 100000 in
theorem vc_value_key (s : List UInt8) (st : St) (K : Int → St → Prop) (h : CallT PR fn_utf_Valid [(.str s)] [.one (.bool)] st (fun (b1 : Bool) (st1 : St) => BIf (!b1) (K ((5 : Int)) st1) (BIf (decide ((1024 : Int) < ((s).length : Int))) (K ((10 : Int)) st1) (K ((0 : Int)) st1)))) : CallT PR fn_value_key [(.str s)] [.one (.int .i64)] st K :=
  tcalls_fw (cfg := ⟨[], [], []⟩) (h := .none) mixed (fun _ _ => Tryz.call276 _ _) Tryz.func276 (by kernel_rfl) (by kernel_rfl) h
set_option maxRecDepth 100000 in
theorem vc_calendar_valid (year : Int) (st : St) (K : Bool → St → Prop) (h : BIf (decide ((1 : Int) ≤ year)) (K ((decide (year ≤ (9999 : Int)))) st) (K (false) st)) : CallT PR fn_calendar_valid [(.int .i64 year)] [.one (.bool)] st K :=
  tcalls_fw (cfg := ⟨[], [], []⟩) (h := .none) mixed (fun _ _ => Tryz.call287 _ _) Tryz.func287 (by kernel_rfl) (by kernel_rfl) h
set_option maxRecDepth 100000 in
theorem vc_calendar_Leap (year : Int) (st : St) (K : Bool → St → Prop) (h : CallT PR fn_calendar_valid [(.int .i64 year)] [.one (.bool)] st (fun (b1 : Bool) (st1 : St) => BIf b1 (BIf (decide ((Int.tmod year (4 : Int)) = (0 : Int))) (BIf (decide ((Int.tmod year (100 : Int)) ≠ (0 : Int))) (K (true) st1) (K ((decide ((Int.tmod year (400 : Int)) = (0 : Int)))) st1)) (K (false) st1)) (K (false) st1))) : CallT PR fn_calendar_Leap [(.int .i64 year)] [.one (.bool)] st K :=
  tcalls_fw (cfg := ⟨[], [], []⟩) (h := .none) mixed (fun _ _ => Tryz.call288 _ _) Tryz.func288 (by kernel_rfl) (by kernel_rfl) h
set_option maxRecDepth 100000 in
theorem vc_datakitref03_Encode (r : Int) (st : St) (K : List UInt8 → Int → St → Prop) (h : CallT PR fn_datakitref03_character [(.int .i64 r)] [.one (.bool)] st (fun (b1 : Bool) (st1 : St) => BIf (!b1) (K (([] : List UInt8)) ((2 : Int)) st1) (BIf (decide (r < (128 : Int))) (optK ((toBytes st1 (.list 1 .full 1 [(.int .u8 (IntKind.u8.wrap r))])).map TV.str) (fun (x1 : TV) => decT (.str) x1 (fun (s1 : List UInt8) => K (s1) ((0 : Int)) st1))) (BIf (decide (r < (2048 : Int))) (optK ((toBytes st1 (.list 1 .full 2 [(.int .u8 (IntKind.u8.wrap (bitsI .or .i64 (192 : Int) (Int.fdiv r (2 ^ (min (Int.toNat (6 : Int)) (IntKind.bits .i64))))))), (.int .u8 (IntKind.u8.wrap (bitsI .or .i64 (128 : Int) (bitsI .and .i64 r (63 : Int)))))])).map TV.str) (fun (x2 : TV) => decT (.str) x2 (fun (s2 : List UInt8) => K (s2) ((0 : Int)) st1))) (BIf (decide (r < (65536 : Int))) (optK ((toBytes st1 (.list 1 .full 3 [(.int .u8 (IntKind.u8.wrap (bitsI .or .i64 (224 : Int) (Int.fdiv r (2 ^ (min (Int.toNat (12 : Int)) (IntKind.bits .i64))))))), (.int .u8 (IntKind.u8.wrap (bitsI .or .i64 (128 : Int) (bitsI .and .i64 (Int.fdiv r (2 ^ (min (Int.toNat (6 : Int)) (IntKind.bits .i64)))) (63 : Int))))), (.int .u8 (IntKind.u8.wrap (bitsI .or .i64 (128 : Int) (bitsI .and .i64 r (63 : Int)))))])).map TV.str) (fun (x3 : TV) => decT (.str) x3 (fun (s3 : List UInt8) => K (s3) ((0 : Int)) st1))) (optK ((toBytes st1 (.list 1 .full 4 [(.int .u8 (IntKind.u8.wrap (bitsI .or .i64 (240 : Int) (Int.fdiv r (2 ^ (min (Int.toNat (18 : Int)) (IntKind.bits .i64))))))), (.int .u8 (IntKind.u8.wrap (bitsI .or .i64 (128 : Int) (bitsI .and .i64 (Int.fdiv r (2 ^ (min (Int.toNat (12 : Int)) (IntKind.bits .i64)))) (63 : Int))))), (.int .u8 (IntKind.u8.wrap (bitsI .or .i64 (128 : Int) (bitsI .and .i64 (Int.fdiv r (2 ^ (min (Int.toNat (6 : Int)) (IntKind.bits .i64)))) (63 : Int))))), (.int .u8 (IntKind.u8.wrap (bitsI .or .i64 (128 : Int) (bitsI .and .i64 r (63 : Int)))))])).map TV.str) (fun (x4 : TV) => decT (.str) x4 (fun (s4 : List UInt8) => K (s4) ((0 : Int)) st1)))))))) : CallT PR fn_datakitref03_Encode [(.int .i64 r)] [.one (.str), .one (.int .i64)] st K :=
  tcalls_fw (cfg := ⟨[], [], []⟩) (h := .none) mixed (fun _ _ => Tryz.call290 _ _) Tryz.func290 (by kernel_rfl) (by kernel_rfl) h
set_option maxRecDepth 100000 in
theorem vc_datakitref01_Valid (s : List UInt8) (st : St) (K : Bool → St → Prop) (h : BIf (decide (((s).length : Int) ≤ (600 : Int))) (CallT PR fn_datakitref01_Digits [(.str s)] [.one (.bool)] st (fun (b1 : Bool) (st1 : St) => BIf b1 (BIf (decide (((s).length : Int) = (0 : Int))) (K (true) st1) (((0 ≤ (0 : Int) ∧ (0 : Int) < ((s).length : Int)) ∧ K ((decide (((List.getD s (Int.toNat (0 : Int)) 0).toNat : Int) ≠ (48 : Int)))) st1))) (K (false) st1))) (K (false) st)) : CallT PR fn_datakitref01_Valid [(.str s)] [.one (.bool)] st K :=
  tcalls_fw (cfg := ⟨[], [], []⟩) (h := .none) mixed (fun _ _ => Tryz.call291 _ _) Tryz.func291 (by kernel_rfl) (by kernel_rfl) h
end Go.TVF
end

section
set_option linter.unusedVariables false
namespace Go.TVF
open Go Go.Proofs
set_option maxRecDepth 100000 in
theorem vc_digits_all (s : List UInt8) (st : St) (K : Bool → St → Prop) (h : ∃ (I1 : Int → List UInt8 → Int → St → Prop) (M1 : Int → List UInt8 → Int → St → Nat), (I1 ((0 : Int)) (s) (((s).length : Int)) st) ∧ ∀ (n_1 : Int) (s_1 : List UInt8) (n_2 : Int) (st1 : St), I1 n_1 s_1 n_2 st1 → (BIf (decide (n_1 < n_2)) (((0 ≤ n_1 ∧ n_1 < ((s_1).length : Int)) ∧ BIf (decide (((List.getD s_1 (Int.toNat n_1) 0).toNat : Int) < (48 : Int))) (K (false) st1) (((0 ≤ n_1 ∧ n_1 < ((s_1).length : Int)) ∧ BIf (decide ((57 : Int) < ((List.getD s_1 (Int.toNat n_1) 0).toNat : Int))) (K (false) st1) ((I1 ((IntKind.i64.wrap (n_1 + (1 : Int)))) (s_1) (n_2) st1 ∧ M1 ((IntKind.i64.wrap (n_1 + (1 : Int)))) (s_1) (n_2) st1 < M1 n_1 s_1 n_2 st1)))))) (K (true) st1))) : CallT PR fn_digits_all [(.str s)] [.one (.bool)] st K :=
  tcalls_fw (cfg := ⟨[], [], []⟩) (h := (.seq .none (.seq (.seq .none (.block (.loop ⟨[(6, .int .i64), (0, .str), (5, .int .i64)], [], [], []⟩ .none))) .none))) mixed (fun _ _ => Tryz.call293 _ _) Tryz.func293 (by kernel_rfl) (by kernel_rfl) h
set_option maxRecDepth 100000 in
theorem vc_strings_Builder_copyCheck (b : Nat) (st : St) (K : St → Prop) (h : optK (ldCell st [] (.t (.box b 0)) 0) (fun (v1 : TV) => need (isPtr0 v1) (BIf (isNilT v1) (((ldCell st [] (.t (.box b 0)) 0).isSome = true ∧ CallT PR fn_abi_NoEscape [(.box b 0)] [.one (.tv)] st (fun (v2 : TV) (st1 : St) => unsK 199 2 v2 st1 (fun (v3 : TV) => need (List.all [v3] oneT) (stB st1 (.box b 0) [v3] (fun (st2 : St) => K  st2)))))) (optK (ldCell st [] (.t (.box b 0)) 0) (fun (v4 : TV) => (v4 = (.box b 0) ∧ K  st)))))) : CallT PR fn_strings_Builder_copyCheck [(.box b 0)] [] st K :=
  tcalls_fw (cfg := ⟨[], [], []⟩) (h := .none) mixed (fun _ _ => Tryz.call296 _ _) Tryz.func296 (by kernel_rfl) (by kernel_rfl) h
set_option maxRecDepth 100000 in
theorem vc_digits_reverse (b : TV) (st : St) (K : St → Prop) (h : need (isSl b) (∃ (I1 : Int → Int → TV → St → Prop) (M1 : Int → Int → TV → St → Nat), (I1 ((0 : Int)) ((IntKind.i64.wrap ((lenS b : Int) - (1 : Int)))) (b) st) ∧ ∀ (i_1 : Int) (k_1 : Int) (b_1 : TV) (st1 : St), I1 i_1 k_1 b_1 st1 → (BIf (decide (i_1 < k_1)) (((0 ≤ k_1 ∧ k_1 < (lenZ 1 b_1 : Int)) ∧ optK (ldCell st1 [] (.t (ixT 1 b_1 (Int.toNat k_1))) 0) (fun (x1 : TV) => decT (.int .u8) x1 (fun (n1 : Int) => ((0 ≤ i_1 ∧ i_1 < (lenZ 1 b_1 : Int)) ∧ optK (ldCell st1 [] (.t (ixT 1 b_1 (Int.toNat i_1))) 0) (fun (x2 : TV) => decT (.int .u8) x2 (fun (n2 : Int) => ((0 ≤ i_1 ∧ i_1 < (lenZ 1 b_1 : Int)) ∧ stB st1 (ixT 1 b_1 (Int.toNat i_1)) [(.int .u8 n1)] (fun (st2 : St) => ((0 ≤ k_1 ∧ k_1 < (lenZ 1 b_1 : Int)) ∧ stB st2 (ixT 1 b_1 (Int.toNat k_1)) [(.int .u8 n2)] (fun (st3 : St) => (I1 ((IntKind.i64.wrap (i_1 + (1 : Int)))) ((IntKind.i64.wrap (k_1 - (1 : Int)))) (b_1) st3 ∧ M1 ((IntKind.i64.wrap (i_1 + (1 : Int)))) ((IntKind.i64.wrap (k_1 - (1 : Int)))) (b_1) st3 < M1 i_1 k_1 b_1 st1)))))))))))) (K  st1)))) : CallT PR fn_digits_reverse [b] [] st K :=
  tcalls_fw (cfg := ⟨[], [], []⟩) (h := (.seq .none (.block (.loop ⟨[(2, .int .i64), (3, .int .i64), (0, .tv)], [], [], []⟩ .none)))) mixed (fun _ _ => Tryz.call298 _ _) Tryz.func298 (by kernel_rfl) (by kernel_rfl) h
set_option maxRecDepth 100000 in
theorem vc_calendar_known (n : Int) (st : St) (K : Bool → St → Prop) (h : BIf (decide ((0 : Int) ≤ n)) (K ((decide (n ≤ (3652058 : Int)))) st) (K (false) st)) : CallT PR fn_calendar_known [(.int .i64 n)] [.one (.bool)] st K :=
  tcalls_fw (cfg := ⟨[], [], []⟩) (h := .none) mixed (fun _ _ => Tryz.call299 _ _) Tryz.func299 (by kernel_rfl) (by kernel_rfl) h
set_option maxRecDepth 100000 in
theorem vc_slices_stableCmpFunc_api_Field_ (data : TV) (n : Int) (cmp : TV) (st : St) (K : St → Prop) (h : ∃ (I1 : Int → Int → TV → Int → TV → Int → St → Prop) (M1 : Int → Int → TV → Int → TV → Int → St → Nat), (I1 ((0 : Int)) ((20 : Int)) (data) (n) (cmp) ((20 : Int)) st) ∧ ∀ (a_1 : Int) (b_1 : Int) (data_1 : TV) (n_1 : Int) (cmp_1 : TV) (blockSize_1 : Int) (st1 : St), I1 a_1 b_1 data_1 n_1 cmp_1 blockSize_1 st1 → (BIf (decide (b_1 ≤ n_1)) (CallT PR fn_slices_insertionSortCmpFunc_api_Field_ [data_1, (.int .i64 a_1), (.int .i64 b_1), cmp_1] [] st1 (fun  (st2 : St) => (I1 (b_1) ((IntKind.i64.wrap (b_1 + blockSize_1))) (data_1) (n_1) (cmp_1) (blockSize_1) st2 ∧ M1 (b_1) ((IntKind.i64.wrap (b_1 + blockSize_1))) (data_1) (n_1) (cmp_1) (blockSize_1) st2 < M1 a_1 b_1 data_1 n_1 cmp_1 blockSize_1 st1))) (CallT PR fn_slices_insertionSortCmpFunc_api_Field_ [data_1, (.int .i64 a_1), (.int .i64 n_1), cmp_1] [] st1 (fun  (st3 : St) => ∃ (I2 : Int → TV → Int → TV → St → Prop) (M2 : Int → TV → Int → TV → St → Nat), (I2 (blockSize_1) (data_1) (n_1) (cmp_1) st3) ∧ ∀ (blockSize_2 : Int) (data_2 : TV) (n_2 : Int) (cmp_2 : TV) (st4 : St), I2 blockSize_2 data_2 n_2 cmp_2 st4 → (BIf (decide (blockSize_2 < n_2)) (∃ (I3 : Int → Int → TV → Int → TV → Int → St → Prop) (M3 : Int → Int → TV → Int → TV → Int → St → Nat), (I3 ((0 : Int)) ((IntKind.i64.wrap ((2 : Int) * blockSize_2))) (data_2) (n_2) (cmp_2) (blockSize_2) st4) ∧ ∀ (a_2 : Int) (b_2 : Int) (data_3 : TV) (n_3 : Int) (cmp_3 : TV) (blockSize_3 : Int) (st5 : St), I3 a_2 b_2 data_3 n_3 cmp_3 blockSize_3 st5 → (BIf (decide (b_2 ≤ n_3)) (CallT PR fn_slices_symMergeCmpFunc_api_Field_ [data_3, (.int .i64 a_2), (.int .i64 (IntKind.i64.wrap (a_2 + blockSize_3))), (.int .i64 b_2), cmp_3] [] st5 (fun  (st6 : St) => (I3 (b_2) ((IntKind.i64.wrap (b_2 + (IntKind.i64.wrap ((2 : Int) * blockSize_3))))) (data_3) (n_3) (cmp_3) (blockSize_3) st6 ∧ M3 (b_2) ((IntKind.i64.wrap (b_2 + (IntKind.i64.wrap ((2 : Int) * blockSize_3))))) (data_3) (n_3) (cmp_3) (blockSize_3) st6 < M3 a_2 b_2 data_3 n_3 cmp_3 blockSize_3 st5))) (BIf (decide ((IntKind.i64.wrap (a_2 + blockSize_3)) < n_3)) (CallT PR fn_slices_symMergeCmpFunc_api_Field_ [data_3, (.int .i64 a_2), (.int .i64 (IntKind.i64.wrap (a_2 + blockSize_3))), (.int .i64 n_3), cmp_3] [] st5 (fun  (st7 : St) => (I2 ((IntKind.i64.wrap (blockSize_3 * (2 : Int)))) (data_3) (n_3) (cmp_3) st7 ∧ M2 ((IntKind.i64.wrap (blockSize_3 * (2 : Int)))) (data_3) (n_3) (cmp_3) st7 < M2 blockSize_2 data_2 n_2 cmp_2 st4))) ((I2 ((IntKind.i64.wrap (blockSize_3 * (2 : Int)))) (data_3) (n_3) (cmp_3) st5 ∧ M2 ((IntKind.i64.wrap (blockSize_3 * (2 : Int)))) (data_3) (n_3) (cmp_3) st5 < M2 blockSize_2 data_2 n_2 cmp_2 st4))))) (K  st4)))))) : CallT PR fn_slices_stableCmpFunc_api_Field_ [data, (.int .i64 n), cmp] [] st K :=
  tcalls_fw (cfg := ⟨[], [], []⟩) (h := (.seq .none (.seq .none (.seq (.block (.loop ⟨[(7, .int .i64), (8, .int .i64), (0, .tv), (1, .int .i64), (2, .tv), (6, .int .i64)], [], [], []⟩ .none)) (.seq .none (.block (.loop ⟨[(6, .int .i64), (0, .tv), (1, .int .i64), (2, .tv)], [], [], []⟩ (.seq .none (.block (.seq .none (.seq (.block (.loop ⟨[(7, .int .i64), (8, .int .i64), (0, .tv), (1, .int .i64), (2, .tv), (6, .int .i64)], [], [], []⟩ .none)) .none))))))))))) mixed (fun _ _ => Tryz.call301 _ _) Tryz.func301 (by kernel_rfl) (by kernel_rfl) h
set_option maxRecDepth 100000 in
theorem vc_canon_short (b : Int) (st : St) (K : Int → St → Prop) (h : ∃ (C1 : Bool → Int → Int → St → Prop), (BIf (decide (b = (34 : Int))) (C1 ((decide (b = (34 : Int)))) (b) (b) st) (C1 ((decide (b = (92 : Int)))) (b) (b) st)) ∧ ∀ (b_1 : Bool) (b_2 : Int) (n_1 : Int) (st1 : St), C1 b_1 b_2 n_1 st1 → (BIf b_1 (K (b_2) st1) (BIf (decide (n_1 = (8 : Int))) (K ((98 : Int)) st1) (BIf (decide (n_1 = (12 : Int))) (K ((102 : Int)) st1) (BIf (decide (n_1 = (10 : Int))) (K ((110 : Int)) st1) (BIf (decide (n_1 = (13 : Int))) (K ((114 : Int)) st1) (BIf (decide (n_1 = (9 : Int))) (K ((116 : Int)) st1) (K ((0 : Int)) st1)))))))) : CallT PR fn_canon_short [(.int .u8 b)] [.one (.int .u8)] st K :=
  tcalls_fw (cfg := ⟨[], [], []⟩) (h := (.seq .none (.seq (.seq .none (.block (.cut ⟨[(4, .bool), (0, .int .u8), (3, .int .u8)], [], [], []⟩ .none .none))) .none))) mixed (fun _ _ => Tryz.call303 _ _) Tryz.func303 (by kernel_rfl) (by kernel_rfl) h
set_option maxRecDepth 100000 in
theorem vc_utf_head (b : Int) (st : St) (K : Int → Int → St → Prop) (h : BIf (decide (b < (128 : Int))) (K ((1 : Int)) ((IntKind.i64.wrap b)) st) (BIf (decide ((192 : Int) ≤ b)) (BIf (decide (b < (224 : Int))) (K ((2 : Int)) ((IntKind.i64.wrap (bitsI .and .u8 b (31 : Int)))) st) (BIf (decide ((224 : Int) ≤ b)) (BIf (decide (b < (240 : Int))) (K ((3 : Int)) ((IntKind.i64.wrap (bitsI .and .u8 b (15 : Int)))) st) (BIf (decide ((240 : Int) ≤ b)) (BIf (decide (b < (248 : Int))) (K ((4 : Int)) ((IntKind.i64.wrap (bitsI .and .u8 b (7 : Int)))) st) (K ((0 : Int)) ((0 : Int)) st)) (K ((0 : Int)) ((0 : Int)) st))) (BIf (decide ((240 : Int) ≤ b)) (BIf (decide (b < (248 : Int))) (K ((4 : Int)) ((IntKind.i64.wrap (bitsI .and .u8 b (7 : Int)))) st) (K ((0 : Int)) ((0 : Int)) st)) (K ((0 : Int)) ((0 : Int)) st)))) (BIf (decide ((224 : Int) ≤ b)) (BIf (decide (b < (240 : Int))) (K ((3 : Int)) ((IntKind.i64.wrap (bitsI .and .u8 b (15 : Int)))) st) (BIf (decide ((240 : Int) ≤ b)) (BIf (decide (b < (248 : Int))) (K ((4 : Int)) ((IntKind.i64.wrap (bitsI .and .u8 b (7 : Int)))) st) (K ((0 : Int)) ((0 : Int)) st)) (K ((0 : Int)) ((0 : Int)) st))) (BIf (decide ((240 : Int) ≤ b)) (BIf (decide (b < (248 : Int))) (K ((4 : Int)) ((IntKind.i64.wrap (bitsI .and .u8 b (7 : Int)))) st) (K ((0 : Int)) ((0 : Int)) st)) (K ((0 : Int)) ((0 : Int)) st))))) : CallT PR fn_utf_head [(.int .u8 b)] [.one (.int .i64), .one (.int .i64)] st K :=
  tcalls_fw (cfg := ⟨[], [], []⟩) (h := .none) mixed (fun _ _ => Tryz.call304 _ _) Tryz.func304 (by kernel_rfl) (by kernel_rfl) h
set_option maxRecDepth 100000 in
theorem vc_utf_scalar (r : Int) (st : St) (K : Bool → St → Prop) (h : BIf (decide ((0 : Int) ≤ r)) (BIf (decide (r ≤ (1114111 : Int))) (BIf (decide (r < (55296 : Int))) (K (true) st) (K ((decide ((57343 : Int) < r))) st)) (K (false) st)) (K (false) st)) : CallT PR fn_utf_scalar [(.int .i64 r)] [.one (.bool)] st K :=
  tcalls_fw (cfg := ⟨[], [], []⟩) (h := .none) mixed (fun _ _ => Tryz.call305 _ _) Tryz.func305 (by kernel_rfl) (by kernel_rfl) h
set_option maxRecDepth 100000 in
theorem vc_utf_width (r : Int) (st : St) (K : Int → St → Prop) (h : BIf (decide (r < (128 : Int))) (K ((1 : Int)) st) (BIf (decide (r < (2048 : Int))) (K ((2 : Int)) st) (BIf (decide (r < (65536 : Int))) (K ((3 : Int)) st) (K ((4 : Int)) st)))) : CallT PR fn_utf_width [(.int .i64 r)] [.one (.int .i64)] st K :=
  tcalls_fw (cfg := ⟨[], [], []⟩) (h := .none) mixed (fun _ _ => Tryz.call306 _ _) Tryz.func306 (by kernel_rfl) (by kernel_rfl) h
set_option maxRecDepth 100000 in
theorem vc_datakitref03_character (r : Int) (st : St) (K : Bool → St → Prop) (h : BIf (decide ((0 : Int) ≤ r)) (BIf (decide (r ≤ (1114111 : Int))) (BIf (decide (r < (55296 : Int))) (K (true) st) (K ((decide ((57343 : Int) < r))) st)) (K (false) st)) (K (false) st)) : CallT PR fn_datakitref03_character [(.int .i64 r)] [.one (.bool)] st K :=
  tcalls_fw (cfg := ⟨[], [], []⟩) (h := .none) mixed (fun _ _ => Tryz.call318 _ _) Tryz.func318 (by kernel_rfl) (by kernel_rfl) h
set_option maxRecDepth 100000 in
theorem vc_datakitref01_Digits (s : List UInt8) (st : St) (K : Bool → St → Prop) (h : ∃ (I1 : Int → List UInt8 → St → Prop) (M1 : Int → List UInt8 → St → Nat), (I1 ((0 : Int)) (s) st) ∧ ∀ (i_1 : Int) (s_1 : List UInt8) (st1 : St), I1 i_1 s_1 st1 → (BIf (decide (i_1 < ((s_1).length : Int))) (((0 ≤ i_1 ∧ i_1 < ((s_1).length : Int)) ∧ BIf (decide (((List.getD s_1 (Int.toNat i_1) 0).toNat : Int) < (48 : Int))) (K (false) st1) (((0 ≤ i_1 ∧ i_1 < ((s_1).length : Int)) ∧ BIf (decide ((57 : Int) < ((List.getD s_1 (Int.toNat i_1) 0).toNat : Int))) (K (false) st1) ((I1 ((IntKind.i64.wrap (i_1 + (1 : Int)))) (s_1) st1 ∧ M1 ((IntKind.i64.wrap (i_1 + (1 : Int)))) (s_1) st1 < M1 i_1 s_1 st1)))))) (K (true) st1))) : CallT PR fn_datakitref01_Digits [(.str s)] [.one (.bool)] st K :=
  tcalls_fw (cfg := ⟨[], [], []⟩) (h := (.seq .none (.seq (.seq .none (.block (.loop ⟨[(3, .int .i64), (0, .str)], [], [], []⟩ .none))) .none))) mixed (fun _ _ => Tryz.call319 _ _) Tryz.func319 (by kernel_rfl) (by kernel_rfl) h
set_option maxRecDepth 100000 in
theorem vc_slices_insertionSortCmpFunc_api_Field_ (data : TV) (a : Int) (b : Int) (cmp : TV) (st : St) (K : St → Prop) (h : ∃ (I1 : Int → TV → Int → Int → TV → St → Prop) (M1 : Int → TV → Int → Int → TV → St → Nat), (I1 ((IntKind.i64.wrap (a + (1 : Int)))) (data) (a) (b) (cmp) st) ∧ ∀ (i_1 : Int) (data_1 : TV) (a_1 : Int) (b_1 : Int) (cmp_1 : TV) (st1 : St), I1 i_1 data_1 a_1 b_1 cmp_1 st1 → (BIf (decide (i_1 < b_1)) (∃ (I2 : Int → TV → Int → Int → TV → Int → St → Prop) (M2 : Int → TV → Int → Int → TV → Int → St → Nat), (I2 (i_1) (data_1) (a_1) (b_1) (cmp_1) (i_1) st1) ∧ ∀ (j_1 : Int) (data_2 : TV) (a_2 : Int) (b_2 : Int) (cmp_2 : TV) (i_2 : Int) (st2 : St), I2 j_1 data_2 a_2 b_2 cmp_2 i_2 st2 → (BIf (decide (a_2 < j_1)) (((0 ≤ j_1 ∧ j_1 < (lenZ 14 data_2 : Int)) ∧ optK ((ldCells st2 [] (.t (ixT 14 data_2 (Int.toNat j_1))) 0 14).map TV.agg) (fun (x1 : TV) => decA [.str, .int .i64, .bool, .bool, .str, .int .i64, .int .i64, .int .i64, .int .i64, .int .i64, .str, .tv, .tv, .tv] x1 (fun (s1 : List UInt8) (n1 : Int) (b1 : Bool) (b2 : Bool) (s2 : List UInt8) (n2 : Int) (n3 : Int) (n4 : Int) (n5 : Int) (n6 : Int) (s3 : List UInt8) (v1 : TV) (v2 : TV) (v3 : TV) => ((0 ≤ (IntKind.i64.wrap (j_1 - (1 : Int))) ∧ (IntKind.i64.wrap (j_1 - (1 : Int))) < (lenZ 14 data_2 : Int)) ∧ optK ((ldCells st2 [] (.t (ixT 14 data_2 (Int.toNat (IntKind.i64.wrap (j_1 - (1 : Int)))))) 0 14).map TV.agg) (fun (x2 : TV) => decA [.str, .int .i64, .bool, .bool, .str, .int .i64, .int .i64, .int .i64, .int .i64, .int .i64, .str, .tv, .tv, .tv] x2 (fun (s4 : List UInt8) (n7 : Int) (b3 : Bool) (b4 : Bool) (s5 : List UInt8) (n8 : Int) (n9 : Int) (n10 : Int) (n11 : Int) (n12 : Int) (s6 : List UInt8) (v4 : TV) (v5 : TV) (v6 : TV) => callK PR cmp_2 [(.agg [(.str s1), (.int .i64 n1), (.bool b1), (.bool b2), (.str s2), (.int .i64 n2), (.int .i64 n3), (.int .i64 n4), (.int .i64 n5), (.int .i64 n6), (.str s3), v1, v2, v3]), (.agg [(.str s4), (.int .i64 n7), (.bool b3), (.bool b4), (.str s5), (.int .i64 n8), (.int .i64 n9), (.int .i64 n10), (.int .i64 n11), (.int .i64 n12), (.str s6), v4, v5, v6])] [.one (.int .i64)] st2 (fun (n13 : Int) (st3 : St) => BIf (decide (n13 < (0 : Int))) (((0 ≤ (IntKind.i64.wrap (j_1 - (1 : Int))) ∧ (IntKind.i64.wrap (j_1 - (1 : Int))) < (lenZ 14 data_2 : Int)) ∧ optK ((ldCells st3 [] (.t (ixT 14 data_2 (Int.toNat (IntKind.i64.wrap (j_1 - (1 : Int)))))) 0 14).map TV.agg) (fun (x3 : TV) => decA [.str, .int .i64, .bool, .bool, .str, .int .i64, .int .i64, .int .i64, .int .i64, .int .i64, .str, .tv, .tv, .tv] x3 (fun (s7 : List UInt8) (n14 : Int) (b5 : Bool) (b6 : Bool) (s8 : List UInt8) (n15 : Int) (n16 : Int) (n17 : Int) (n18 : Int) (n19 : Int) (s9 : List UInt8) (v7 : TV) (v8 : TV) (v9 : TV) => ((0 ≤ j_1 ∧ j_1 < (lenZ 14 data_2 : Int)) ∧ optK ((ldCells st3 [] (.t (ixT 14 data_2 (Int.toNat j_1))) 0 14).map TV.agg) (fun (x4 : TV) => decA [.str, .int .i64, .bool, .bool, .str, .int .i64, .int .i64, .int .i64, .int .i64, .int .i64, .str, .tv, .tv, .tv] x4 (fun (s10 : List UInt8) (n20 : Int) (b7 : Bool) (b8 : Bool) (s11 : List UInt8) (n21 : Int) (n22 : Int) (n23 : Int) (n24 : Int) (n25 : Int) (s12 : List UInt8) (v10 : TV) (v11 : TV) (v12 : TV) => ((0 ≤ j_1 ∧ j_1 < (lenZ 14 data_2 : Int)) ∧ need (List.all [(.str s7), (.int .i64 n14), (.bool b5), (.bool b6), (.str s8), (.int .i64 n15), (.int .i64 n16), (.int .i64 n17), (.int .i64 n18), (.int .i64 n19), (.str s9), v7, v8, v9] oneT) (stB st3 (ixT 14 data_2 (Int.toNat j_1)) [(.str s7), (.int .i64 n14), (.bool b5), (.bool b6), (.str s8), (.int .i64 n15), (.int .i64 n16), (.int .i64 n17), (.int .i64 n18), (.int .i64 n19), (.str s9), v7, v8, v9] (fun (st4 : St) => ((0 ≤ (IntKind.i64.wrap (j_1 - (1 : Int))) ∧ (IntKind.i64.wrap (j_1 - (1 : Int))) < (lenZ 14 data_2 : Int)) ∧ need (List.all [(.str s10), (.int .i64 n20), (.bool b7), (.bool b8), (.str s11), (.int .i64 n21), (.int .i64 n22), (.int .i64 n23), (.int .i64 n24), (.int .i64 n25), (.str s12), v10, v11, v12] oneT) (stB st4 (ixT 14 data_2 (Int.toNat (IntKind.i64.wrap (j_1 - (1 : Int))))) [(.str s10), (.int .i64 n20), (.bool b7), (.bool b8), (.str s11), (.int .i64 n21), (.int .i64 n22), (.int .i64 n23), (.int .i64 n24), (.int .i64 n25), (.str s12), v10, v11, v12] (fun (st5 : St) => (I2 ((IntKind.i64.wrap (j_1 - (1 : Int)))) (data_2) (a_2) (b_2) (cmp_2) (i_2) st5 ∧ M2 ((IntKind.i64.wrap (j_1 - (1 : Int)))) (data_2) (a_2) (b_2) (cmp_2) (i_2) st5 < M2 j_1 data_2 a_2 b_2 cmp_2 i_2 st2)))))))))))))) ((I1 ((IntKind.i64.wrap (i_2 + (1 : Int)))) (data_2) (a_2) (b_2) (cmp_2) st3 ∧ M1 ((IntKind.i64.wrap (i_2 + (1 : Int)))) (data_2) (a_2) (b_2) (cmp_2) st3 < M1 i_1 data_1 a_1 b_1 cmp_1 st1)))))))))) ((I1 ((IntKind.i64.wrap (i_2 + (1 : Int)))) (data_2) (a_2) (b_2) (cmp_2) st2 ∧ M1 ((IntKind.i64.wrap (i_2 + (1 : Int)))) (data_2) (a_2) (b_2) (cmp_2) st2 < M1 i_1 data_1 a_1 b_1 cmp_1 st1)))) (K  st1))) : CallT PR fn_slices_insertionSortCmpFunc_api_Field_ [data, (.int .i64 a), (.int .i64 b), cmp] [] st K :=
  tcalls_fw (cfg := ⟨[], [], [26, 31]⟩) (h := (.seq .none (.block (.loop ⟨[(8, .int .i64), (0, .tv), (1, .int .i64), (2, .int .i64), (3, .tv)], [], [], []⟩ (.seq .none (.seq (.block (.seq .none (.block (.loop ⟨[(9, .int .i64), (0, .tv), (1, .int .i64), (2, .int .i64), (3, .tv), (8, .int .i64)], [], [], []⟩ .none)))) .none)))))) mixed (fun _ _ => Tryz.call322 _ _) Tryz.func322 (by kernel_rfl) (by kernel_rfl) h
set_option maxRecDepth 100000 in
theorem vc_slices_symMergeCmpFunc_api_Field_ (data : TV) (a : Int) (m : Int) (b : Int) (cmp : TV) (st : St) (K : St → Prop) (h : BIf (decide ((IntKind.i64.wrap (m - a)) = (1 : Int))) (∃ (I1 : Int → Int → TV → Int → TV → St → Prop) (M1 : Int → Int → TV → Int → TV → St → Nat), (I1 (m) (b) (data) (a) (cmp) st) ∧ ∀ (i_1 : Int) (j_1 : Int) (data_1 : TV) (a_1 : Int) (cmp_1 : TV) (st1 : St), I1 i_1 j_1 data_1 a_1 cmp_1 st1 → (BIf (decide (i_1 < j_1)) (((0 ≤ (IntKind.i64.wrap (Int.fdiv (IntKind.u64.wrap (IntKind.i64.wrap (i_1 + j_1))) (2 ^ (min (Int.toNat (1 : Int)) (IntKind.bits .u64))))) ∧ (IntKind.i64.wrap (Int.fdiv (IntKind.u64.wrap (IntKind.i64.wrap (i_1 + j_1))) (2 ^ (min (Int.toNat (1 : Int)) (IntKind.bits .u64))))) < (lenZ 14 data_1 : Int)) ∧ optK ((ldCells st1 [] (.t (ixT 14 data_1 (Int.toNat (IntKind.i64.wrap (Int.fdiv (IntKind.u64.wrap (IntKind.i64.wrap (i_1 + j_1))) (2 ^ (min (Int.toNat (1 : Int)) (IntKind.bits .u64)))))))) 0 14).map TV.agg) (fun (x1 : TV) => decA [.str, .int .i64, .bool, .bool, .str, .int .i64, .int .i64, .int .i64, .int .i64, .int .i64, .str, .tv, .tv, .tv] x1 (fun (s1 : List UInt8) (n1 : Int) (b1 : Bool) (b2 : Bool) (s2 : List UInt8) (n2 : Int) (n3 : Int) (n4 : Int) (n5 : Int) (n6 : Int) (s3 : List UInt8) (v1 : TV) (v2 : TV) (v3 : TV) => ((0 ≤ a_1 ∧ a_1 < (lenZ 14 data_1 : Int)) ∧ optK ((ldCells st1 [] (.t (ixT 14 data_1 (Int.toNat a_1))) 0 14).map TV.agg) (fun (x2 : TV) => decA [.str, .int .i64, .bool, .bool, .str, .int .i64, .int .i64, .int .i64, .int .i64, .int .i64, .str, .tv, .tv, .tv] x2 (fun (s4 : List UInt8) (n7 : Int) (b3 : Bool) (b4 : Bool) (s5 : List UInt8) (n8 : Int) (n9 : Int) (n10 : Int) (n11 : Int) (n12 : Int) (s6 : List UInt8) (v4 : TV) (v5 : TV) (v6 : TV) => callK PR cmp_1 [(.agg [(.str s1), (.int .i64 n1), (.bool b1), (.bool b2), (.str s2), (.int .i64 n2), (.int .i64 n3), (.int .i64 n4), (.int .i64 n5), (.int .i64 n6), (.str s3), v1, v2, v3]), (.agg [(.str s4), (.int .i64 n7), (.bool b3), (.bool b4), (.str s5), (.int .i64 n8), (.int .i64 n9), (.int .i64 n10), (.int .i64 n11), (.int .i64 n12), (.str s6), v4, v5, v6])] [.one (.int .i64)] st1 (fun (n13 : Int) (st2 : St) => BIf (decide (n13 < (0 : Int))) ((I1 ((IntKind.i64.wrap ((IntKind.i64.wrap (Int.fdiv (IntKind.u64.wrap (IntKind.i64.wrap (i_1 + j_1))) (2 ^ (min (Int.toNat (1 : Int)) (IntKind.bits .u64))))) + (1 : Int)))) (j_1) (data_1) (a_1) (cmp_1) st2 ∧ M1 ((IntKind.i64.wrap ((IntKind.i64.wrap (Int.fdiv (IntKind.u64.wrap (IntKind.i64.wrap (i_1 + j_1))) (2 ^ (min (Int.toNat (1 : Int)) (IntKind.bits .u64))))) + (1 : Int)))) (j_1) (data_1) (a_1) (cmp_1) st2 < M1 i_1 j_1 data_1 a_1 cmp_1 st1)) ((I1 (i_1) ((IntKind.i64.wrap (Int.fdiv (IntKind.u64.wrap (IntKind.i64.wrap (i_1 + j_1))) (2 ^ (min (Int.toNat (1 : Int)) (IntKind.bits .u64)))))) (data_1) (a_1) (cmp_1) st2 ∧ M1 (i_1) ((IntKind.i64.wrap (Int.fdiv (IntKind.u64.wrap (IntKind.i64.wrap (i_1 + j_1))) (2 ^ (min (Int.toNat (1 : Int)) (IntKind.bits .u64)))))) (data_1) (a_1) (cmp_1) st2 < M1 i_1 j_1 data_1 a_1 cmp_1 st1)))))))))) (∃ (I2 : Int → TV → Int → St → Prop) (M2 : Int → TV → Int → St → Nat), (I2 (a_1) (data_1) (i_1) st1) ∧ ∀ (k_1 : Int) (data_2 : TV) (i_2 : Int) (st3 : St), I2 k_1 data_2 i_2 st3 → (BIf (decide (k_1 < (IntKind.i64.wrap (i_2 - (1 : Int))))) (((0 ≤ (IntKind.i64.wrap (k_1 + (1 : Int))) ∧ (IntKind.i64.wrap (k_1 + (1 : Int))) < (lenZ 14 data_2 : Int)) ∧ optK ((ldCells st3 [] (.t (ixT 14 data_2 (Int.toNat (IntKind.i64.wrap (k_1 + (1 : Int)))))) 0 14).map TV.agg) (fun (x3 : TV) => decA [.str, .int .i64, .bool, .bool, .str, .int .i64, .int .i64, .int .i64, .int .i64, .int .i64, .str, .tv, .tv, .tv] x3 (fun (s7 : List UInt8) (n14 : Int) (b5 : Bool) (b6 : Bool) (s8 : List UInt8) (n15 : Int) (n16 : Int) (n17 : Int) (n18 : Int) (n19 : Int) (s9 : List UInt8) (v7 : TV) (v8 : TV) (v9 : TV) => ((0 ≤ k_1 ∧ k_1 < (lenZ 14 data_2 : Int)) ∧ optK ((ldCells st3 [] (.t (ixT 14 data_2 (Int.toNat k_1))) 0 14).map TV.agg) (fun (x4 : TV) => decA [.str, .int .i64, .bool, .bool, .str, .int .i64, .int .i64, .int .i64, .int .i64, .int .i64, .str, .tv, .tv, .tv] x4 (fun (s10 : List UInt8) (n20 : Int) (b7 : Bool) (b8 : Bool) (s11 : List UInt8) (n21 : Int) (n22 : Int) (n23 : Int) (n24 : Int) (n25 : Int) (s12 : List UInt8) (v10 : TV) (v11 : TV) (v12 : TV) => ((0 ≤ k_1 ∧ k_1 < (lenZ 14 data_2 : Int)) ∧ need (List.all [(.str s7), (.int .i64 n14), (.bool b5), (.bool b6), (.str s8), (.int .i64 n15), (.int .i64 n16), (.int .i64 n17), (.int .i64 n18), (.int .i64 n19), (.str s9), v7, v8, v9] oneT) (stB st3 (ixT 14 data_2 (Int.toNat k_1)) [(.str s7), (.int .i64 n14), (.bool b5), (.bool b6), (.str s8), (.int .i64 n15), (.int .i64 n16), (.int .i64 n17), (.int .i64 n18), (.int .i64 n19), (.str s9), v7, v8, v9] (fun (st4 : St) => ((0 ≤ (IntKind.i64.wrap (k_1 + (1 : Int))) ∧ (IntKind.i64.wrap (k_1 + (1 : Int))) < (lenZ 14 data_2 : Int)) ∧ need (List.all [(.str s10), (.int .i64 n20), (.bool b7), (.bool b8), (.str s11), (.int .i64 n21), (.int .i64 n22), (.int .i64 n23), (.int .i64 n24), (.int .i64 n25), (.str s12), v10, v11, v12] oneT) (stB st4 (ixT 14 data_2 (Int.toNat (IntKind.i64.wrap (k_1 + (1 : Int))))) [(.str s10), (.int .i64 n20), (.bool b7), (.bool b8), (.str s11), (.int .i64 n21), (.int .i64 n22), (.int .i64 n23), (.int .i64 n24), (.int .i64 n25), (.str s12), v10, v11, v12] (fun (st5 : St) => (I2 ((IntKind.i64.wrap (k_1 + (1 : Int)))) (data_2) (i_2) st5 ∧ M2 ((IntKind.i64.wrap (k_1 + (1 : Int)))) (data_2) (i_2) st5 < M2 k_1 data_2 i_2 st3)))))))))))))) (K  st3))))) (BIf (decide ((IntKind.i64.wrap (b - m)) = (1 : Int))) (∃ (I3 : Int → Int → TV → Int → TV → St → Prop) (M3 : Int → Int → TV → Int → TV → St → Nat), (I3 (a) (m) (data) (m) (cmp) st) ∧ ∀ (i_3 : Int) (j_2 : Int) (data_3 : TV) (m_1 : Int) (cmp_2 : TV) (st6 : St), I3 i_3 j_2 data_3 m_1 cmp_2 st6 → (BIf (decide (i_3 < j_2)) (((0 ≤ m_1 ∧ m_1 < (lenZ 14 data_3 : Int)) ∧ optK ((ldCells st6 [] (.t (ixT 14 data_3 (Int.toNat m_1))) 0 14).map TV.agg) (fun (x5 : TV) => decA [.str, .int .i64, .bool, .bool, .str, .int .i64, .int .i64, .int .i64, .int .i64, .int .i64, .str, .tv, .tv, .tv] x5 (fun (s13 : List UInt8) (n26 : Int) (b9 : Bool) (b10 : Bool) (s14 : List UInt8) (n27 : Int) (n28 : Int) (n29 : Int) (n30 : Int) (n31 : Int) (s15 : List UInt8) (v13 : TV) (v14 : TV) (v15 : TV) => ((0 ≤ (IntKind.i64.wrap (Int.fdiv (IntKind.u64.wrap (IntKind.i64.wrap (i_3 + j_2))) (2 ^ (min (Int.toNat (1 : Int)) (IntKind.bits .u64))))) ∧ (IntKind.i64.wrap (Int.fdiv (IntKind.u64.wrap (IntKind.i64.wrap (i_3 + j_2))) (2 ^ (min (Int.toNat (1 : Int)) (IntKind.bits .u64))))) < (lenZ 14 data_3 : Int)) ∧ optK ((ldCells st6 [] (.t (ixT 14 data_3 (Int.toNat (IntKind.i64.wrap (Int.fdiv (IntKind.u64.wrap (IntKind.i64.wrap (i_3 + j_2))) (2 ^ (min (Int.toNat (1 : Int)) (IntKind.bits .u64)))))))) 0 14).map TV.agg) (fun (x6 : TV) => decA [.str, .int .i64, .bool, .bool, .str, .int .i64, .int .i64, .int .i64, .int .i64, .int .i64, .str, .tv, .tv, .tv] x6 (fun (s16 : List UInt8) (n32 : Int) (b11 : Bool) (b12 : Bool) (s17 : List UInt8) (n33 : Int) (n34 : Int) (n35 : Int) (n36 : Int) (n37 : Int) (s18 : List UInt8) (v16 : TV) (v17 : TV) (v18 : TV) => callK PR cmp_2 [(.agg [(.str s13), (.int .i64 n26), (.bool b9), (.bool b10), (.str s14), (.int .i64 n27), (.int .i64 n28), (.int .i64 n29), (.int .i64 n30), (.int .i64 n31), (.str s15), v13, v14, v15]), (.agg [(.str s16), (.int .i64 n32), (.bool b11), (.bool b12), (.str s17), (.int .i64 n33), (.int .i64 n34), (.int .i64 n35), (.int .i64 n36), (.int .i64 n37), (.str s18), v16, v17, v18])] [.one (.int .i64)] st6 (fun (n38 : Int) (st7 : St) => BIf (!(decide (n38 < (0 : Int)))) ((I3 ((IntKind.i64.wrap ((IntKind.i64.wrap (Int.fdiv (IntKind.u64.wrap (IntKind.i64.wrap (i_3 + j_2))) (2 ^ (min (Int.toNat (1 : Int)) (IntKind.bits .u64))))) + (1 : Int)))) (j_2) (data_3) (m_1) (cmp_2) st7 ∧ M3 ((IntKind.i64.wrap ((IntKind.i64.wrap (Int.fdiv (IntKind.u64.wrap (IntKind.i64.wrap (i_3 + j_2))) (2 ^ (min (Int.toNat (1 : Int)) (IntKind.bits .u64))))) + (1 : Int)))) (j_2) (data_3) (m_1) (cmp_2) st7 < M3 i_3 j_2 data_3 m_1 cmp_2 st6)) ((I3 (i_3) ((IntKind.i64.wrap (Int.fdiv (IntKind.u64.wrap (IntKind.i64.wrap (i_3 + j_2))) (2 ^ (min (Int.toNat (1 : Int)) (IntKind.bits .u64)))))) (data_3) (m_1) (cmp_2) st7 ∧ M3 (i_3) ((IntKind.i64.wrap (Int.fdiv (IntKind.u64.wrap (IntKind.i64.wrap (i_3 + j_2))) (2 ^ (min (Int.toNat (1 : Int)) (IntKind.bits .u64)))))) (data_3) (m_1) (cmp_2) st7 < M3 i_3 j_2 data_3 m_1 cmp_2 st6)))))))))) (∃ (I4 : Int → TV → Int → St → Prop) (M4 : Int → TV → Int → St → Nat), (I4 (m_1) (data_3) (i_3) st6) ∧ ∀ (k_2 : Int) (data_4 : TV) (i_4 : Int) (st8 : St), I4 k_2 data_4 i_4 st8 → (BIf (decide (i_4 < k_2)) (((0 ≤ (IntKind.i64.wrap (k_2 - (1 : Int))) ∧ (IntKind.i64.wrap (k_2 - (1 : Int))) < (lenZ 14 data_4 : Int)) ∧ optK ((ldCells st8 [] (.t (ixT 14 data_4 (Int.toNat (IntKind.i64.wrap (k_2 - (1 : Int)))))) 0 14).map TV.agg) (fun (x7 : TV) => decA [.str, .int .i64, .bool, .bool, .str, .int .i64, .int .i64, .int .i64, .int .i64, .int .i64, .str, .tv, .tv, .tv] x7 (fun (s19 : List UInt8) (n39 : Int) (b13 : Bool) (b14 : Bool) (s20 : List UInt8) (n40 : Int) (n41 : Int) (n42 : Int) (n43 : Int) (n44 : Int) (s21 : List UInt8) (v19 : TV) (v20 : TV) (v21 : TV) => ((0 ≤ k_2 ∧ k_2 < (lenZ 14 data_4 : Int)) ∧ optK ((ldCells st8 [] (.t (ixT 14 data_4 (Int.toNat k_2))) 0 14).map TV.agg) (fun (x8 : TV) => decA [.str, .int .i64, .bool, .bool, .str, .int .i64, .int .i64, .int .i64, .int .i64, .int .i64, .str, .tv, .tv, .tv] x8 (fun (s22 : List UInt8) (n45 : Int) (b15 : Bool) (b16 : Bool) (s23 : List UInt8) (n46 : Int) (n47 : Int) (n48 : Int) (n49 : Int) (n50 : Int) (s24 : List UInt8) (v22 : TV) (v23 : TV) (v24 : TV) => ((0 ≤ k_2 ∧ k_2 < (lenZ 14 data_4 : Int)) ∧ need (List.all [(.str s19), (.int .i64 n39), (.bool b13), (.bool b14), (.str s20), (.int .i64 n40), (.int .i64 n41), (.int .i64 n42), (.int .i64 n43), (.int .i64 n44), (.str s21), v19, v20, v21] oneT) (stB st8 (ixT 14 data_4 (Int.toNat k_2)) [(.str s19), (.int .i64 n39), (.bool b13), (.bool b14), (.str s20), (.int .i64 n40), (.int .i64 n41), (.int .i64 n42), (.int .i64 n43), (.int .i64 n44), (.str s21), v19, v20, v21] (fun (st9 : St) => ((0 ≤ (IntKind.i64.wrap (k_2 - (1 : Int))) ∧ (IntKind.i64.wrap (k_2 - (1 : Int))) < (lenZ 14 data_4 : Int)) ∧ need (List.all [(.str s22), (.int .i64 n45), (.bool b15), (.bool b16), (.str s23), (.int .i64 n46), (.int .i64 n47), (.int .i64 n48), (.int .i64 n49), (.int .i64 n50), (.str s24), v22, v23, v24] oneT) (stB st9 (ixT 14 data_4 (Int.toNat (IntKind.i64.wrap (k_2 - (1 : Int))))) [(.str s22), (.int .i64 n45), (.bool b15), (.bool b16), (.str s23), (.int .i64 n46), (.int .i64 n47), (.int .i64 n48), (.int .i64 n49), (.int .i64 n50), (.str s24), v22, v23, v24] (fun (st10 : St) => (I4 ((IntKind.i64.wrap (k_2 - (1 : Int)))) (data_4) (i_4) st10 ∧ M4 ((IntKind.i64.wrap (k_2 - (1 : Int)))) (data_4) (i_4) st10 < M4 k_2 data_4 i_4 st8)))))))))))))) (K  st8))))) (∃ (C1 : Int → Int → TV → Int → Int → Int → TV → Int → Int → St → Prop), (BIf (decide ((IntKind.i64.wrap (Int.fdiv (IntKind.u64.wrap (IntKind.i64.wrap (a + b))) (2 ^ (min (Int.toNat (1 : Int)) (IntKind.bits .u64))))) < m)) (C1 ((IntKind.i64.wrap ((IntKind.i64.wrap ((IntKind.i64.wrap (Int.fdiv (IntKind.u64.wrap (IntKind.i64.wrap (a + b))) (2 ^ (min (Int.toNat (1 : Int)) (IntKind.bits .u64))))) + m)) - b))) ((IntKind.i64.wrap (Int.fdiv (IntKind.u64.wrap (IntKind.i64.wrap (a + b))) (2 ^ (min (Int.toNat (1 : Int)) (IntKind.bits .u64)))))) (data) (a) (m) (b) (cmp) ((IntKind.i64.wrap (Int.fdiv (IntKind.u64.wrap (IntKind.i64.wrap (a + b))) (2 ^ (min (Int.toNat (1 : Int)) (IntKind.bits .u64)))))) ((IntKind.i64.wrap ((IntKind.i64.wrap (Int.fdiv (IntKind.u64.wrap (IntKind.i64.wrap (a + b))) (2 ^ (min (Int.toNat (1 : Int)) (IntKind.bits .u64))))) + m))) st) (C1 (a) (m) (data) (a) (m) (b) (cmp) ((IntKind.i64.wrap (Int.fdiv (IntKind.u64.wrap (IntKind.i64.wrap (a + b))) (2 ^ (min (Int.toNat (1 : Int)) (IntKind.bits .u64)))))) ((IntKind.i64.wrap ((IntKind.i64.wrap (Int.fdiv (IntKind.u64.wrap (IntKind.i64.wrap (a + b))) (2 ^ (min (Int.toNat (1 : Int)) (IntKind.bits .u64))))) + m))) st)) ∧ ∀ (start_1 : Int) (r_1 : Int) (data_5 : TV) (a_2 : Int) (m_2 : Int) (b_1 : Int) (cmp_3 : TV) (mid_1 : Int) (n_1 : Int) (st11 : St), C1 start_1 r_1 data_5 a_2 m_2 b_1 cmp_3 mid_1 n_1 st11 → (∃ (I5 : Int → Int → TV → Int → Int → Int → TV → Int → Int → Int → St → Prop) (M5 : Int → Int → TV → Int → Int → Int → TV → Int → Int → Int → St → Nat), (I5 (start_1) (r_1) (data_5) (a_2) (m_2) (b_1) (cmp_3) (mid_1) (n_1) ((IntKind.i64.wrap (n_1 - (1 : Int)))) st11) ∧ ∀ (start_2 : Int) (r_2 : Int) (data_6 : TV) (a_3 : Int) (m_3 : Int) (b_2 : Int) (cmp_4 : TV) (mid_2 : Int) (n_2 : Int) (p_1 : Int) (st12 : St), I5 start_2 r_2 data_6 a_3 m_3 b_2 cmp_4 mid_2 n_2 p_1 st12 → (BIf (decide (start_2 < r_2)) (((0 ≤ (IntKind.i64.wrap (p_1 - (IntKind.i64.wrap (Int.fdiv (IntKind.u64.wrap (IntKind.i64.wrap (start_2 + r_2))) (2 ^ (min (Int.toNat (1 : Int)) (IntKind.bits .u64))))))) ∧ (IntKind.i64.wrap (p_1 - (IntKind.i64.wrap (Int.fdiv (IntKind.u64.wrap (IntKind.i64.wrap (start_2 + r_2))) (2 ^ (min (Int.toNat (1 : Int)) (IntKind.bits .u64))))))) < (lenZ 14 data_6 : Int)) ∧ optK ((ldCells st12 [] (.t (ixT 14 data_6 (Int.toNat (IntKind.i64.wrap (p_1 - (IntKind.i64.wrap (Int.fdiv (IntKind.u64.wrap (IntKind.i64.wrap (start_2 + r_2))) (2 ^ (min (Int.toNat (1 : Int)) (IntKind.bits .u64)))))))))) 0 14).map TV.agg) (fun (x9 : TV) => decA [.str, .int .i64, .bool, .bool, .str, .int .i64, .int .i64, .int .i64, .int .i64, .int .i64, .str, .tv, .tv, .tv] x9 (fun (s25 : List UInt8) (n51 : Int) (b17 : Bool) (b18 : Bool) (s26 : List UInt8) (n52 : Int) (n53 : Int) (n54 : Int) (n55 : Int) (n56 : Int) (s27 : List UInt8) (v25 : TV) (v26 : TV) (v27 : TV) => ((0 ≤ (IntKind.i64.wrap (Int.fdiv (IntKind.u64.wrap (IntKind.i64.wrap (start_2 + r_2))) (2 ^ (min (Int.toNat (1 : Int)) (IntKind.bits .u64))))) ∧ (IntKind.i64.wrap (Int.fdiv (IntKind.u64.wrap (IntKind.i64.wrap (start_2 + r_2))) (2 ^ (min (Int.toNat (1 : Int)) (IntKind.bits .u64))))) < (lenZ 14 data_6 : Int)) ∧ optK ((ldCells st12 [] (.t (ixT 14 data_6 (Int.toNat (IntKind.i64.wrap (Int.fdiv (IntKind.u64.wrap (IntKind.i64.wrap (start_2 + r_2))) (2 ^ (min (Int.toNat (1 : Int)) (IntKind.bits .u64)))))))) 0 14).map TV.agg) (fun (x10 : TV) => decA [.str, .int .i64, .bool, .bool, .str, .int .i64, .int .i64, .int .i64, .int .i64, .int .i64, .str, .tv, .tv, .tv] x10 (fun (s28 : List UInt8) (n57 : Int) (b19 : Bool) (b20 : Bool) (s29 : List UInt8) (n58 : Int) (n59 : Int) (n60 : Int) (n61 : Int) (n62 : Int) (s30 : List UInt8) (v28 : TV) (v29 : TV) (v30 : TV) => callK PR cmp_4 [(.agg [(.str s25), (.int .i64 n51), (.bool b17), (.bool b18), (.str s26), (.int .i64 n52), (.int .i64 n53), (.int .i64 n54), (.int .i64 n55), (.int .i64 n56), (.str s27), v25, v26, v27]), (.agg [(.str s28), (.int .i64 n57), (.bool b19), (.bool b20), (.str s29), (.int .i64 n58), (.int .i64 n59), (.int .i64 n60), (.int .i64 n61), (.int .i64 n62), (.str s30), v28, v29, v30])] [.one (.int .i64)] st12 (fun (n63 : Int) (st13 : St) => BIf (!(decide (n63 < (0 : Int)))) ((I5 ((IntKind.i64.wrap ((IntKind.i64.wrap (Int.fdiv (IntKind.u64.wrap (IntKind.i64.wrap (start_2 + r_2))) (2 ^ (min (Int.toNat (1 : Int)) (IntKind.bits .u64))))) + (1 : Int)))) (r_2) (data_6) (a_3) (m_3) (b_2) (cmp_4) (mid_2) (n_2) (p_1) st13 ∧ M5 ((IntKind.i64.wrap ((IntKind.i64.wrap (Int.fdiv (IntKind.u64.wrap (IntKind.i64.wrap (start_2 + r_2))) (2 ^ (min (Int.toNat (1 : Int)) (IntKind.bits .u64))))) + (1 : Int)))) (r_2) (data_6) (a_3) (m_3) (b_2) (cmp_4) (mid_2) (n_2) (p_1) st13 < M5 start_2 r_2 data_6 a_3 m_3 b_2 cmp_4 mid_2 n_2 p_1 st12)) ((I5 (start_2) ((IntKind.i64.wrap (Int.fdiv (IntKind.u64.wrap (IntKind.i64.wrap (start_2 + r_2))) (2 ^ (min (Int.toNat (1 : Int)) (IntKind.bits .u64)))))) (data_6) (a_3) (m_3) (b_2) (cmp_4) (mid_2) (n_2) (p_1) st13 ∧ M5 (start_2) ((IntKind.i64.wrap (Int.fdiv (IntKind.u64.wrap (IntKind.i64.wrap (start_2 + r_2))) (2 ^ (min (Int.toNat (1 : Int)) (IntKind.bits .u64)))))) (data_6) (a_3) (m_3) (b_2) (cmp_4) (mid_2) (n_2) (p_1) st13 < M5 start_2 r_2 data_6 a_3 m_3 b_2 cmp_4 mid_2 n_2 p_1 st12)))))))))) (BIf (decide (start_2 < m_3)) (BIf (decide (m_3 < (IntKind.i64.wrap (n_2 - start_2)))) (CallT PR fn_slices_rotateCmpFunc_api_Field_ [data_6, (.int .i64 start_2), (.int .i64 m_3), (.int .i64 (IntKind.i64.wrap (n_2 - start_2))), cmp_4] [] st12 (fun  (st14 : St) => BIf (decide (a_3 < start_2)) (BIf (decide (start_2 < mid_2)) (CallT PR fn_slices_symMergeCmpFunc_api_Field_ [data_6, (.int .i64 a_3), (.int .i64 start_2), (.int .i64 mid_2), cmp_4] [] st14 (fun  (st15 : St) => BIf (decide (mid_2 < (IntKind.i64.wrap (n_2 - start_2)))) (BIf (decide ((IntKind.i64.wrap (n_2 - start_2)) < b_2)) (CallT PR fn_slices_symMergeCmpFunc_api_Field_ [data_6, (.int .i64 mid_2), (.int .i64 (IntKind.i64.wrap (n_2 - start_2))), (.int .i64 b_2), cmp_4] [] st15 (fun  (st16 : St) => K  st16)) (K  st15)) (K  st15))) (BIf (decide (mid_2 < (IntKind.i64.wrap (n_2 - start_2)))) (BIf (decide ((IntKind.i64.wrap (n_2 - start_2)) < b_2)) (CallT PR fn_slices_symMergeCmpFunc_api_Field_ [data_6, (.int .i64 mid_2), (.int .i64 (IntKind.i64.wrap (n_2 - start_2))), (.int .i64 b_2), cmp_4] [] st14 (fun  (st17 : St) => K  st17)) (K  st14)) (K  st14))) (BIf (decide (mid_2 < (IntKind.i64.wrap (n_2 - start_2)))) (BIf (decide ((IntKind.i64.wrap (n_2 - start_2)) < b_2)) (CallT PR fn_slices_symMergeCmpFunc_api_Field_ [data_6, (.int .i64 mid_2), (.int .i64 (IntKind.i64.wrap (n_2 - start_2))), (.int .i64 b_2), cmp_4] [] st14 (fun  (st18 : St) => K  st18)) (K  st14)) (K  st14)))) (BIf (decide (a_3 < start_2)) (BIf (decide (start_2 < mid_2)) (CallT PR fn_slices_symMergeCmpFunc_api_Field_ [data_6, (.int .i64 a_3), (.int .i64 start_2), (.int .i64 mid_2), cmp_4] [] st12 (fun  (st19 : St) => BIf (decide (mid_2 < (IntKind.i64.wrap (n_2 - start_2)))) (BIf (decide ((IntKind.i64.wrap (n_2 - start_2)) < b_2)) (CallT PR fn_slices_symMergeCmpFunc_api_Field_ [data_6, (.int .i64 mid_2), (.int .i64 (IntKind.i64.wrap (n_2 - start_2))), (.int .i64 b_2), cmp_4] [] st19 (fun  (st20 : St) => K  st20)) (K  st19)) (K  st19))) (BIf (decide (mid_2 < (IntKind.i64.wrap (n_2 - start_2)))) (BIf (decide ((IntKind.i64.wrap (n_2 - start_2)) < b_2)) (CallT PR fn_slices_symMergeCmpFunc_api_Field_ [data_6, (.int .i64 mid_2), (.int .i64 (IntKind.i64.wrap (n_2 - start_2))), (.int .i64 b_2), cmp_4] [] st12 (fun  (st21 : St) => K  st21)) (K  st12)) (K  st12))) (BIf (decide (mid_2 < (IntKind.i64.wrap (n_2 - start_2)))) (BIf (decide ((IntKind.i64.wrap (n_2 - start_2)) < b_2)) (CallT PR fn_slices_symMergeCmpFunc_api_Field_ [data_6, (.int .i64 mid_2), (.int .i64 (IntKind.i64.wrap (n_2 - start_2))), (.int .i64 b_2), cmp_4] [] st12 (fun  (st22 : St) => K  st22)) (K  st12)) (K  st12)))) (BIf (decide (a_3 < start_2)) (BIf (decide (start_2 < mid_2)) (CallT PR fn_slices_symMergeCmpFunc_api_Field_ [data_6, (.int .i64 a_3), (.int .i64 start_2), (.int .i64 mid_2), cmp_4] [] st12 (fun  (st23 : St) => BIf (decide (mid_2 < (IntKind.i64.wrap (n_2 - start_2)))) (BIf (decide ((IntKind.i64.wrap (n_2 - start_2)) < b_2)) (CallT PR fn_slices_symMergeCmpFunc_api_Field_ [data_6, (.int .i64 mid_2), (.int .i64 (IntKind.i64.wrap (n_2 - start_2))), (.int .i64 b_2), cmp_4] [] st23 (fun  (st24 : St) => K  st24)) (K  st23)) (K  st23))) (BIf (decide (mid_2 < (IntKind.i64.wrap (n_2 - start_2)))) (BIf (decide ((IntKind.i64.wrap (n_2 - start_2)) < b_2)) (CallT PR fn_slices_symMergeCmpFunc_api_Field_ [data_6, (.int .i64 mid_2), (.int .i64 (IntKind.i64.wrap (n_2 - start_2))), (.int .i64 b_2), cmp_4] [] st12 (fun  (st25 : St) => K  st25)) (K  st12)) (K  st12))) (BIf (decide (mid_2 < (IntKind.i64.wrap (n_2 - start_2)))) (BIf (decide ((IntKind.i64.wrap (n_2 - start_2)) < b_2)) (CallT PR fn_slices_symMergeCmpFunc_api_Field_ [data_6, (.int .i64 mid_2), (.int .i64 (IntKind.i64.wrap (n_2 - start_2))), (.int .i64 b_2), cmp_4] [] st12 (fun  (st26 : St) => K  st26)) (K  st12)) (K  st12))))))))) : CallT PR fn_slices_symMergeCmpFunc_api_Field_ [data, (.int .i64 a), (.int .i64 m), (.int .i64 b), cmp] [] st K :=
  tcalls_fw (cfg := ⟨[], [], [44, 48, 96, 100, 164, 168]⟩) (h := (.seq (.seq .none (.cond (.seq .none (.seq .none (.seq (.block (.loop ⟨[(10, .int .i64), (11, .int .i64), (0, .tv), (1, .int .i64), (4, .tv)], [], [], []⟩ .none)) (.seq (.seq .none (.block (.loop ⟨[(13, .int .i64), (0, .tv), (10, .int .i64)], [], [], []⟩ .none))) .none)))) .none)) (.seq (.seq .none (.cond (.seq .none (.seq .none (.seq (.block (.loop ⟨[(14, .int .i64), (15, .int .i64), (0, .tv), (2, .int .i64), (4, .tv)], [], [], []⟩ .none)) (.seq (.seq .none (.block (.loop ⟨[(17, .int .i64), (0, .tv), (14, .int .i64)], [], [], []⟩ .none))) .none)))) .none)) (.seq .none (.seq .none (.seq .none (.cut ⟨[(20, .int .i64), (21, .int .i64), (0, .tv), (1, .int .i64), (2, .int .i64), (3, .int .i64), (4, .tv), (18, .int .i64), (19, .int .i64)], [], [], []⟩ .none (.seq .none (.seq (.block (.loop ⟨[(20, .int .i64), (21, .int .i64), (0, .tv), (1, .int .i64), (2, .int .i64), (3, .int .i64), (4, .tv), (18, .int .i64), (19, .int .i64), (22, .int .i64)], [], [], []⟩ .none)) .none))))))))) mixed (fun _ _ => Tryz.call323 _ _) Tryz.func323 (by kernel_rfl) (by kernel_rfl) h
end Go.TVF
end

section
set_option linter.unusedVariables false
namespace Go.TVF
open Go Go.Proofs
set_option maxRecDepth 100000 in
theorem vc_slices_rotateCmpFunc_api_Field_ (data : TV) (a : Int) (m : Int) (b : Int) (cmp : TV) (st : St) (K : St → Prop) (h : ∃ (I1 : Int → Int → TV → Int → TV → St → Prop) (M1 : Int → Int → TV → Int → TV → St → Nat), (I1 ((IntKind.i64.wrap (m - a))) ((IntKind.i64.wrap (b - m))) (data) (m) (cmp) st) ∧ ∀ (i_1 : Int) (j_1 : Int) (data_1 : TV) (m_1 : Int) (cmp_1 : TV) (st1 : St), I1 i_1 j_1 data_1 m_1 cmp_1 st1 → (BIf (decide (i_1 ≠ j_1)) (BIf (decide (j_1 < i_1)) (CallT PR fn_slices_swapRangeCmpFunc_api_Field_ [data_1, (.int .i64 (IntKind.i64.wrap (m_1 - i_1))), (.int .i64 m_1), (.int .i64 j_1), cmp_1] [] st1 (fun  (st2 : St) => (I1 ((IntKind.i64.wrap (i_1 - j_1))) (j_1) (data_1) (m_1) (cmp_1) st2 ∧ M1 ((IntKind.i64.wrap (i_1 - j_1))) (j_1) (data_1) (m_1) (cmp_1) st2 < M1 i_1 j_1 data_1 m_1 cmp_1 st1))) (CallT PR fn_slices_swapRangeCmpFunc_api_Field_ [data_1, (.int .i64 (IntKind.i64.wrap (m_1 - i_1))), (.int .i64 (IntKind.i64.wrap ((IntKind.i64.wrap (m_1 + j_1)) - i_1))), (.int .i64 i_1), cmp_1] [] st1 (fun  (st3 : St) => (I1 (i_1) ((IntKind.i64.wrap (j_1 - i_1))) (data_1) (m_1) (cmp_1) st3 ∧ M1 (i_1) ((IntKind.i64.wrap (j_1 - i_1))) (data_1) (m_1) (cmp_1) st3 < M1 i_1 j_1 data_1 m_1 cmp_1 st1)))) (CallT PR fn_slices_swapRangeCmpFunc_api_Field_ [data_1, (.int .i64 (IntKind.i64.wrap (m_1 - i_1))), (.int .i64 m_1), (.int .i64 i_1), cmp_1] [] st1 (fun  (st4 : St) => K  st4)))) : CallT PR fn_slices_rotateCmpFunc_api_Field_ [data, (.int .i64 a), (.int .i64 m), (.int .i64 b), cmp] [] st K :=
  tcalls_fw (cfg := ⟨[], [], []⟩) (h := (.seq .none (.seq .none (.seq (.block (.loop ⟨[(10, .int .i64), (11, .int .i64), (0, .tv), (2, .int .i64), (4, .tv)], [], [], []⟩ .none)) .none)))) mixed (fun _ _ => Tryz.call332 _ _) Tryz.func332 (by kernel_rfl) (by kernel_rfl) h
set_option maxRecDepth 100000 in
theorem vc_slices_swapRangeCmpFunc_api_Field_ (data : TV) (a : Int) (b : Int) (n : Int) (cmp : TV) (st : St) (K : St → Prop) (h : ∃ (I1 : Int → TV → Int → Int → Int → St → Prop) (M1 : Int → TV → Int → Int → Int → St → Nat), (I1 ((0 : Int)) (data) (a) (b) (n) st) ∧ ∀ (i_1 : Int) (data_1 : TV) (a_1 : Int) (b_1 : Int) (n_1 : Int) (st1 : St), I1 i_1 data_1 a_1 b_1 n_1 st1 → (BIf (decide (i_1 < n_1)) (((0 ≤ (IntKind.i64.wrap (b_1 + i_1)) ∧ (IntKind.i64.wrap (b_1 + i_1)) < (lenZ 14 data_1 : Int)) ∧ optK ((ldCells st1 [] (.t (ixT 14 data_1 (Int.toNat (IntKind.i64.wrap (b_1 + i_1))))) 0 14).map TV.agg) (fun (x1 : TV) => decA [.str, .int .i64, .bool, .bool, .str, .int .i64, .int .i64, .int .i64, .int .i64, .int .i64, .str, .tv, .tv, .tv] x1 (fun (s1 : List UInt8) (n1 : Int) (b1 : Bool) (b2 : Bool) (s2 : List UInt8) (n2 : Int) (n3 : Int) (n4 : Int) (n5 : Int) (n6 : Int) (s3 : List UInt8) (v1 : TV) (v2 : TV) (v3 : TV) => ((0 ≤ (IntKind.i64.wrap (a_1 + i_1)) ∧ (IntKind.i64.wrap (a_1 + i_1)) < (lenZ 14 data_1 : Int)) ∧ optK ((ldCells st1 [] (.t (ixT 14 data_1 (Int.toNat (IntKind.i64.wrap (a_1 + i_1))))) 0 14).map TV.agg) (fun (x2 : TV) => decA [.str, .int .i64, .bool, .bool, .str, .int .i64, .int .i64, .int .i64, .int .i64, .int .i64, .str, .tv, .tv, .tv] x2 (fun (s4 : List UInt8) (n7 : Int) (b3 : Bool) (b4 : Bool) (s5 : List UInt8) (n8 : Int) (n9 : Int) (n10 : Int) (n11 : Int) (n12 : Int) (s6 : List UInt8) (v4 : TV) (v5 : TV) (v6 : TV) => ((0 ≤ (IntKind.i64.wrap (a_1 + i_1)) ∧ (IntKind.i64.wrap (a_1 + i_1)) < (lenZ 14 data_1 : Int)) ∧ need (List.all [(.str s1), (.int .i64 n1), (.bool b1), (.bool b2), (.str s2), (.int .i64 n2), (.int .i64 n3), (.int .i64 n4), (.int .i64 n5), (.int .i64 n6), (.str s3), v1, v2, v3] oneT) (stB st1 (ixT 14 data_1 (Int.toNat (IntKind.i64.wrap (a_1 + i_1)))) [(.str s1), (.int .i64 n1), (.bool b1), (.bool b2), (.str s2), (.int .i64 n2), (.int .i64 n3), (.int .i64 n4), (.int .i64 n5), (.int .i64 n6), (.str s3), v1, v2, v3] (fun (st2 : St) => ((0 ≤ (IntKind.i64.wrap (b_1 + i_1)) ∧ (IntKind.i64.wrap (b_1 + i_1)) < (lenZ 14 data_1 : Int)) ∧ need (List.all [(.str s4), (.int .i64 n7), (.bool b3), (.bool b4), (.str s5), (.int .i64 n8), (.int .i64 n9), (.int .i64 n10), (.int .i64 n11), (.int .i64 n12), (.str s6), v4, v5, v6] oneT) (stB st2 (ixT 14 data_1 (Int.toNat (IntKind.i64.wrap (b_1 + i_1)))) [(.str s4), (.int .i64 n7), (.bool b3), (.bool b4), (.str s5), (.int .i64 n8), (.int .i64 n9), (.int .i64 n10), (.int .i64 n11), (.int .i64 n12), (.str s6), v4, v5, v6] (fun (st3 : St) => (I1 ((IntKind.i64.wrap (i_1 + (1 : Int)))) (data_1) (a_1) (b_1) (n_1) st3 ∧ M1 ((IntKind.i64.wrap (i_1 + (1 : Int)))) (data_1) (a_1) (b_1) (n_1) st3 < M1 i_1 data_1 a_1 b_1 n_1 st1)))))))))))))) (K  st1))) : CallT PR fn_slices_swapRangeCmpFunc_api_Field_ [data, (.int .i64 a), (.int .i64 b), (.int .i64 n), cmp] [] st K :=
  tcalls_fw (cfg := ⟨[], [], []⟩) (h := (.seq .none (.block (.loop ⟨[(10, .int .i64), (0, .tv), (1, .int .i64), (2, .int .i64), (3, .int .i64)], [], [], []⟩ .none)))) mixed (fun _ _ => Tryz.call335 _ _) Tryz.func335 (by kernel_rfl) (by kernel_rfl) h
end Go.TVF
end

section
set_option linter.unusedVariables false
namespace Go.TVF
open Go Go.Proofs
structure StX (S : Nat → Prop) (a b : St) : Prop where
  nb : a.nb ≤ b.nb
  box : ∀ i, i < a.nb → ¬ S i → b.box i = a.box i
  nt : a.nt ≤ b.nt
  live : ∀ i, i < a.nt → b.live i = a.live i
  ty : ∀ i, i < a.nt → b.ty i = a.ty i
  bt : ∀ i, i < a.nb → b.bt i = a.bt i
theorem StX.refl (S : Nat → Prop) (a : St) : StX S a a := ⟨Nat.le_refl _, fun _ _ _ => rfl, Nat.le_refl _, fun _ _ => rfl, fun _ _ => rfl, fun _ _ => rfl⟩
theorem StX.trans {S : Nat → Prop} {a b c : St} (h : StX S a b) (k : StX S b c) : StX S a c :=
  ⟨Nat.le_trans h.nb k.nb, fun i hi hs => (k.box i (Nat.lt_of_lt_of_le hi h.nb) hs).trans (h.box i hi hs), Nat.le_trans h.nt k.nt, fun i hi => (k.live i (Nat.lt_of_lt_of_le hi h.nt)).trans (h.live i hi), fun i hi => (k.ty i (Nat.lt_of_lt_of_le hi h.nt)).trans (h.ty i hi), fun i hi => (k.bt i (Nat.lt_of_lt_of_le hi h.nb)).trans (h.bt i hi)⟩
theorem StX.mono {S T : Nat → Prop} {a b : St} (h : StX S a b) (k : ∀ i, S i → T i) : StX T a b :=
  ⟨h.nb, fun i hi hs => h.box i hi fun g => hs (k i g), h.nt, h.live, h.ty, h.bt⟩
theorem StX.of {S : Nat → Prop} {a b : St} (h : StExt a b) : StX S a b := ⟨h.nb, fun i hi _ => h.box i hi, h.nt, h.live, h.ty, h.bt⟩
theorem StX.ext {S : Nat → Prop} {a b c : St} (h : StExt a b) (k : StX S b c) (hs : ∀ i, S i → a.nb ≤ i) : StExt a c :=
  ⟨Nat.le_trans h.nb k.nb, fun i hi => (k.box i (Nat.lt_of_lt_of_le hi h.nb) fun g => absurd (hs i g) (by omega)).trans (h.box i hi), Nat.le_trans h.nt k.nt, fun i hi => (k.live i (Nat.lt_of_lt_of_le hi h.nt)).trans (h.live i hi), fun i hi => (k.ty i (Nat.lt_of_lt_of_le hi h.nt)).trans (h.ty i hi), fun i hi => (k.bt i (Nat.lt_of_lt_of_le hi h.nb)).trans (h.bt i hi)⟩
theorem StX.put {S : Nat → Prop} {a : St} {i : Nat} (hi : S i) (o : AObj) : StX S a (a.put i o) :=
  ⟨Nat.le_refl _, fun j hj hs => by simp only [St.put]; rw [if_neg (by rintro rfl; exact hs hi)], Nat.le_refl _, fun _ _ => rfl, fun _ _ => rfl, fun _ _ => rfl⟩
end Go.TVF
end

section
namespace Go.TVF
abbrev tyField : Nat := 82
/-- strings.Builder -/
abbrev tyBld : Nat := 199
end Go.TVF
end

section
namespace Go.TVF
open Go Go.Proofs
set_option linter.unusedVariables false
set_option linter.unusedSimpArgs false
/-- The cells of a field, by its key. -/
def CkK (k : List UInt8) (cs : List TV) : Prop := ∃ (n1 : Int) (b1 b2 : Bool) (s2 : List UInt8) (n2 n3 n4 n5 n6 : Int) (s3 : List UInt8) (u1 u2 u3 : TV),
  cs = [.str k, .int .i64 n1, .bool b1, .bool b2, .str s2, .int .i64 n2, .int .i64 n3, .int .i64 n4, .int .i64 n5, .int .i64 n6, .str s3, u1, u2, u3] ∧ oneT u1 = true ∧ oneT u2 = true ∧ oneT u3 = true
def Ck (cs : List TV) : Prop := ∃ k, CkK k cs
theorem Ck.len {cs : List TV} (h : Ck cs) : cs.length = 14 := by obtain ⟨k, n1, b1, b2, s2, n2, n3, n4, n5, n6, s3, u1, u2, u3, rfl, _⟩ := h; rfl
theorem Ck.one {cs : List TV} (h : Ck cs) : List.all cs oneT = true := by
  obtain ⟨k, n1, b1, b2, s2, n2, n3, n4, n5, n6, s3, u1, u2, u3, rfl, h1, h2, h3⟩ := h
  simp [oneT] at h1 h2 h3 ⊢
  simp [h1, h2, h3]
theorem decA14 {k : List UInt8} {n1 : Int} {b1 b2 : Bool} {s2 : List UInt8} {n2 n3 n4 n5 n6 : Int} {s3 : List UInt8} {u1 u2 u3 : TV} {f : Fun [.str, .int .i64, .bool, .bool, .str, .int .i64, .int .i64, .int .i64, .int .i64, .int .i64, .str, .tv, .tv, .tv] Prop} (h : f k n1 b1 b2 s2 n2 n3 n4 n5 n6 s3 u1 u2 u3) :
    decA [.str, .int .i64, .bool, .bool, .str, .int .i64, .int .i64, .int .i64, .int .i64, .int .i64, .str, .tv, .tv, .tv] (.agg [.str k, .int .i64 n1, .bool b1, .bool b2, .str s2, .int .i64 n2, .int .i64 n3, .int .i64 n4, .int .i64 n5, .int .i64 n6, .str s3, u1, u2, u3]) f := h
/-- A row of fields over a box. -/
structure BxF (st : St) (b n cap : Nat) (cks : List (List TV)) : Prop where
  lt : b < st.nb
  len : cks.length = n
  le : n ≤ cap
  ck : ∀ c, c ∈ cks → Ck c
  box : ∃ tail, st.box b = .cells (cks.flatten ++ tail) ∧ (cks.flatten ++ tail).length = cap * 14
theorem flat_len : ∀ {cks : List (List TV)}, (∀ c, c ∈ cks → Ck c) → cks.flatten.length = cks.length * 14
  | [], _ => rfl
  | c :: r, h => by
    rw [List.flatten_cons, List.length_append, (h c (.head _)).len, flat_len fun x hx => h x (.tail _ hx), List.length_cons]; omega
theorem flat_at : ∀ {cks : List (List TV)} {i : Nat} {c : List TV}, (∀ c, c ∈ cks → Ck c) → cks[i]? = some c → ∃ A B, cks.flatten = A ++ c ++ B ∧ A.length = i * 14 ∧ ∀ d : List TV, (cks.set i d).flatten = A ++ d ++ B
  | [], i, c, _, hi => by simp at hi
  | x :: r, 0, c, h, hi => by
    simp only [List.getElem?_cons_zero, Option.some.injEq] at hi
    subst hi
    exact ⟨[], r.flatten, by simp, by simp, fun d => by simp⟩
  | x :: r, i + 1, c, h, hi => by
    obtain ⟨A, B, h1, h2, h3⟩ := flat_at (fun y hy => h y (.tail _ hy)) (by simpa using hi : r[i]? = some c)
    refine ⟨x ++ A, B, by rw [List.flatten_cons, h1]; simp, by rw [List.length_append, (h x (.head _)).len, h2]; omega, fun d => by rw [List.set_cons_succ, List.flatten_cons, h3 d]; simp⟩
theorem setAll_mid : ∀ (ys A c B : List TV), ys.length = c.length → setAll (A ++ c ++ B) A.length ys = A ++ ys ++ B
  | [], A, c, B, h => by
    have : c = [] := List.eq_nil_of_length_eq_zero (by simpa using h.symm)
    subst this; rfl
  | y :: ys, A, [], B, h => by simp at h
  | y :: ys, A, x :: c, B, h => by
    rw [setAll]
    have e : (A ++ x :: c ++ B).set A.length y = (A ++ [y]) ++ c ++ B := by simp
    rw [e]
    have := setAll_mid ys (A ++ [y]) c B (by simpa using h)
    rw [List.length_append] at this
    rw [show A.length + 1 = A.length + [y].length from rfl, this]
    simp
theorem lds_mid {st : St} {b : Nat} {B : List TV} : ∀ (c : List TV) (l : List TV) (j o : Nat), st.box b = .cells l → l.drop (o + j) = c ++ B → ldCells st [] (.t (.box b o)) j c.length = some c
  | [], l, j, o, h, hd => rfl
  | x :: c, l, j, o, h, hd => by
    have hx : l[o + j]? = some x := by
      have := congrArg (fun z : List TV => z[0]?) hd
      simpa using this
    have hd2 : l.drop (o + (j + 1)) = c ++ B := by
      have := congrArg (fun z : List TV => z.drop 1) hd
      simpa [List.drop_drop, Nat.add_assoc] using this
    show (match ldCell st [] (.t (.box b o)) j with | some x => (ldCells st [] (.t (.box b o)) (j + 1) c.length).map (x :: ·) | none => none) = _
    have : ldCell st [] (.t (.box b o)) j = some x := by simp only [ldCell, h]; exact hx
    rw [this]
    simp only
    rw [lds_mid c l (j + 1) o h hd2]; rfl
theorem BxF.ld {st : St} {b n cap : Nat} {cks : List (List TV)} (h : BxF st b n cap cks) {i : Nat} {c : List TV} (hi : cks[i]? = some c) : (ldCells st [] (.t (ixT 14 (.ms 14 b 0 n cap) i)) 0 14).map TV.agg = some (.agg c) := by
  obtain ⟨tail, h1, h2⟩ := h.box
  obtain ⟨A, B, h3, h4, _⟩ := flat_at h.ck hi
  have hc := (h.ck c (List.mem_of_getElem? hi)).len
  have := lds_mid (B := B ++ tail) (st := st) (b := b) c (cks.flatten ++ tail) 0 (0 + i * 14) h1 (by
    rw [h3, Nat.add_zero, Nat.zero_add, ← h4]; simp)
  rw [hc] at this
  show Option.map TV.agg (ldCells st [] (.t (.box b (0 + i * 14))) 0 14) = _
  rw [this]; rfl
theorem BxF.st {st : St} {b n cap : Nat} {cks : List (List TV)} (h : BxF st b n cap cks) {i : Nat} {c ys : List TV} (hi : cks[i]? = some c) (hy : Ck ys) {k : St → Prop} (hk : ∀ st', BxF st' b n cap (cks.set i ys) → StX (· = b) st st' → k st') :
    stB st (ixT 14 (.ms 14 b 0 n cap) i) ys k := by
  obtain ⟨tail, h1, h2⟩ := h.box
  obtain ⟨A, B, h3, h4, h5⟩ := flat_at h.ck hi
  have hc := (h.ck c (List.mem_of_getElem? hi)).len
  have hl : (cks.flatten ++ tail).length = A.length + 14 + B.length + tail.length := by rw [h3]; simp [hc]; omega
  have he : setAll (cks.flatten ++ tail) (0 + i * 14) ys = (cks.set i ys).flatten ++ tail := by
    rw [Nat.zero_add, ← h4, h3, List.append_assoc, setAll_mid ys A c (B ++ tail) (by rw [hy.len, hc]), h5 ys]
    simp
  refine ⟨_, h1, by rw [hl, hy.len, ← h4]; omega, ?_⟩
  rw [he]
  refine hk _ ⟨h.lt, by rw [List.length_set]; exact h.len, h.le, fun x hx => ?_, tail, by simp [St.put], ?_⟩ (StX.put (S := (· = b)) (show b = b from rfl) _)
  · rcases List.mem_or_eq_of_mem_set hx with hx | rfl
    · exact h.ck x hx
    · exact hy
  · rw [← he, Nat.zero_add]; simpa [length_setAll] using h2
theorem BxF.lenZ {st : St} {b n cap : Nat} {cks : List (List TV)} (h : BxF st b n cap cks) : lenZ 14 (.ms 14 b 0 n cap) = cks.length := by rw [h.len]; rfl
end Go.TVF
end

section
namespace Go.TVF
open Go Go.Proofs
set_option linter.unusedVariables false
set_option linter.unusedSimpArgs false
section
variable {st : St} {b n cap : Nat}
theorem swapRange_ok {P X Y Z Q : List (List TV)} {cmp : TV} (h : BxF st b n cap (P ++ X ++ Y ++ Z ++ Q)) (hz : Z.length = X.length) (hn : n ≤ 100000000) {A B N : Int} (hA : A = (P.length : Int)) (hB : B = ((P.length + X.length + Y.length : Nat) : Int)) (hN : N = (X.length : Int)) {K : St → Prop}
    (hk : ∀ st', BxF st' b n cap (P ++ Z ++ Y ++ X ++ Q) → StX (· = b) st st' → K st') :
    CallT PR fn_slices_swapRangeCmpFunc_api_Field_ [.ms 14 b 0 n cap, .int .i64 A, .int .i64 B, .int .i64 N, cmp] [] st K := by
  have hlen := h.len
  simp only [List.length_append] at hlen
  refine vc_slices_swapRangeCmpFunc_api_Field_ _ A B N cmp st K ⟨fun i d a b' n' st' => d = .ms 14 b 0 n cap ∧ a = A ∧ b' = B ∧ n' = N ∧ ∃ k : Nat, i = (k : Int) ∧ k ≤ X.length ∧ BxF st' b n cap (P ++ (Z.take k ++ X.drop k) ++ Y ++ (X.take k ++ Z.drop k) ++ Q) ∧ StX (· = b) st st',
    fun i _ _ _ _ _ => (X.length - i).toNat, ⟨rfl, rfl, rfl, rfl, 0, rfl, Nat.zero_le _, by simpa using h, StX.refl _ _⟩, ?_⟩
  rintro _ _ _ _ _ st1 ⟨rfl, rfl, rfl, rfl, k, rfl, hkl, hb, e⟩
  subst hA hB hN
  refine BIf_intro (fun g => ?_) fun g => ?_
  · have hkx : k < X.length := by omega
    rw [wrap64 _ (by omega) (by omega), wrap64 _ (by omega) (by omega), wrap64 _ (by omega) (by omega)]
    have i1 : Int.toNat (((P.length + X.length + Y.length : Nat) : Int) + (k : Int)) = P.length + X.length + Y.length + k := by omega
    have i2 : Int.toNat ((P.length : Int) + (k : Int)) = P.length + k := by omega
    rw [i1, i2, hb.lenZ]
    have hl := hb.len
    have hx : (P ++ (Z.take k ++ X.drop k) ++ Y ++ (X.take k ++ Z.drop k) ++ Q)[P.length + k]? = some X[k] := by
      simp only [List.append_assoc]
      rw [List.getElem?_append_right (by omega), Nat.add_sub_cancel_left, List.getElem?_append_right (by simp; omega), List.getElem?_append_left (by simp; omega)]
      simp [show k - min k Z.length = 0 by omega, hkx]
    have hzz : (P ++ (Z.take k ++ X.drop k) ++ Y ++ (X.take k ++ Z.drop k) ++ Q)[P.length + X.length + Y.length + k]? = some (Z[k]'(by omega)) := by
      have e1 : (P ++ (Z.take k ++ X.drop k) ++ Y ++ (X.take k ++ Z.drop k) ++ Q) = (P ++ (Z.take k ++ X.drop k) ++ Y ++ X.take k) ++ (Z.drop k ++ Q) := by simp
      have e2 : (P ++ (Z.take k ++ X.drop k) ++ Y ++ X.take k).length = P.length + X.length + Y.length + k := by simp; omega
      rw [e1, List.getElem?_append_right (by omega), e2, Nat.sub_self, List.getElem?_append_left (by simp; omega)]
      simp [show k < Z.length by omega]
    have cx := hb.ck _ (List.mem_of_getElem? hx)
    have cz := hb.ck _ (List.mem_of_getElem? hzz)
    have l1 := hb.ld hzz
    have l2 := hb.ld hx
    have hsw := swp_run (P := P) (X := X) (Y := Y) (Z := Z) (Q := Q) hkx hz
    unfold swp at hsw
    rw [hx, hzz] at hsw
    simp only at hsw
    have o1 := cx.one
    have o2 := cz.one
    generalize hcx : X[k] = x at *
    generalize hcz : (Z[k]'(by omega)) = z at *
    have cx' := cx
    have cz' := cz
    obtain ⟨kx, n1, b1, b2, s2, n2, n3, n4, n5, n6, s3, u1, u2, u3, rfl, _⟩ := cx
    obtain ⟨kz, m1, c1, c2, t2, m2, m3, m4, m5, m6, t3, v1, v2, v3, rfl, _⟩ := cz
    refine ⟨⟨by omega, by omega⟩, optK_intro l1 (decA14 ⟨⟨by omega, by omega⟩, optK_intro l2 (decA14 ⟨⟨by omega, by omega⟩, need_intro o2 (hb.st hx cz' fun st2 hb2 e2 => ⟨⟨by omega, by omega⟩, need_intro o1 ?_⟩)⟩)⟩)⟩
    · have hg : ∃ y, (List.set (P ++ (Z.take k ++ X.drop k) ++ Y ++ (X.take k ++ Z.drop k) ++ Q) (P.length + k) [.str kz, .int .i64 m1, .bool c1, .bool c2, .str t2, .int .i64 m2, .int .i64 m3, .int .i64 m4, .int .i64 m5, .int .i64 m6, .str t3, v1, v2, v3])[P.length + X.length + Y.length + k]? = some y :=
        ⟨_, List.getElem?_eq_getElem (by rw [List.length_set, hl]; omega)⟩
      obtain ⟨y, hy⟩ := hg
      refine hb2.st hy cx' fun st3 hb3 e3 => ⟨⟨rfl, rfl, rfl, rfl, k + 1, by omega, by omega, ?_, (e.trans e2).trans e3⟩, by dsimp only; omega⟩
      rw [hsw] at hb3
      exact hb3
  · have : k = X.length := by omega
    subst this
    refine hk _ ?_ e
    rw [List.take_of_length_le (show Z.length ≤ X.length by omega), List.drop_length, List.take_length, List.drop_of_length_le (show Z.length ≤ X.length by omega), List.append_nil, List.append_nil] at hb
    exact hb
theorem rotate_ok {P U V Q : List (List TV)} {cmp : TV} (h : BxF st b n cap (P ++ U ++ V ++ Q)) (hn : n ≤ 100000000) (hU : 0 < U.length) (hV : 0 < V.length) {A M B : Int} (hA : A = (P.length : Int)) (hM : M = ((P.length + U.length : Nat) : Int)) (hB : B = ((P.length + U.length + V.length : Nat) : Int)) {K : St → Prop}
    (hk : ∀ st', BxF st' b n cap (P ++ V ++ U ++ Q) → StX (· = b) st st' → K st') :
    CallT PR fn_slices_rotateCmpFunc_api_Field_ [.ms 14 b 0 n cap, .int .i64 A, .int .i64 M, .int .i64 B, cmp] [] st K := by
  have hlen := h.len
  simp only [List.length_append] at hlen
  refine vc_slices_rotateCmpFunc_api_Field_ _ A M B cmp st K ⟨fun i j d m' c' st' => d = .ms 14 b 0 n cap ∧ m' = M ∧ ∃ P' U' V' Q' : List (List TV), P' ++ V' ++ U' ++ Q' = P ++ V ++ U ++ Q ∧ P'.length + U'.length = P.length + U.length ∧ i = (U'.length : Int) ∧ j = (V'.length : Int) ∧ 0 < U'.length ∧ 0 < V'.length ∧ BxF st' b n cap (P' ++ U' ++ V' ++ Q') ∧ StX (· = b) st st',
    fun i j _ _ _ _ => (i + j).toNat, ⟨rfl, rfl, P, U, V, Q, rfl, rfl, ?_, ?_, hU, hV, h, StX.refl _ _⟩, ?_⟩
  · rw [wrap64 _ (by omega) (by omega)]; omega
  · rw [wrap64 _ (by omega) (by omega)]; omega
  rintro _ _ _ _ c' st1 ⟨rfl, rfl, P', U', V', Q', hfin, hm, rfl, rfl, hu, hv, hb, e⟩
  have hlb := hb.len
  simp only [List.length_append] at hlb
  subst hA hM hB
  have wa : IntKind.i64.wrap (((P.length + U.length : Nat) : Int) - (U'.length : Int)) = (P'.length : Int) := by rw [wrap64 _ (by omega) (by omega)]; omega
  refine BIf_intro (fun g => BIf_intro (fun g2 => ?_) fun g2 => ?_) fun g => ?_
  · rw [wa, wrap64 _ (by omega) (by omega)]
    have hX : U' = U'.take V'.length ++ U'.drop V'.length := (List.take_append_drop _ _).symm
    have l1 : (U'.take V'.length).length = V'.length := by simp; omega
    have l2 : (U'.drop V'.length).length = U'.length - V'.length := by simp
    generalize U'.take V'.length = X at *
    generalize U'.drop V'.length = Y at *
    subst hX
    simp only [List.length_append] at *
    refine swapRange_ok (P := P') (X := X) (Y := Y) (Z := V') (Q := Q') (by simpa using hb) (by omega) hn rfl (by omega) (by omega) fun st2 hb2 e2 => ⟨⟨trivial, trivial, P' ++ V', Y, X, Q', ?_, by simp only [List.length_append]; omega, by omega, by omega, by omega, by omega, by simpa using hb2, e.trans e2⟩, by omega⟩
    rw [← hfin]; simp
  · have hjw : IntKind.i64.wrap (IntKind.i64.wrap (((P.length + U.length : Nat) : Int) + (V'.length : Int)) - (U'.length : Int)) = (P'.length : Int) + (V'.length : Int) := by
      rw [wrap64 (((P.length + U.length : Nat) : Int) + (V'.length : Int)) (by omega) (by omega), wrap64 _ (by omega) (by omega)]; omega
    rw [wa, hjw, wrap64 _ (by omega) (by omega)]
    have hX : V' = V'.take (V'.length - U'.length) ++ V'.drop (V'.length - U'.length) := (List.take_append_drop _ _).symm
    have l1 : (V'.take (V'.length - U'.length)).length = V'.length - U'.length := by simp
    have l2 : (V'.drop (V'.length - U'.length)).length = U'.length := by simp; omega
    generalize V'.take (V'.length - U'.length) = Y at *
    generalize V'.drop (V'.length - U'.length) = Z at *
    subst hX
    simp only [List.length_append] at *
    refine swapRange_ok (P := P') (X := U') (Y := Y) (Z := Z) (Q := Q') (by simpa using hb) (by omega) hn rfl (by omega) rfl fun st2 hb2 e2 => ⟨⟨trivial, trivial, P', Z, Y, U' ++ Q', ?_, by omega, by omega, by omega, by omega, by omega, by simpa using hb2, e.trans e2⟩, by omega⟩
    rw [← hfin]; simp
  · have huv : U'.length = V'.length := by omega
    rw [wa]
    refine swapRange_ok (P := P') (X := U') (Y := []) (Z := V') (Q := Q') (by simpa using hb) huv.symm hn rfl (by simp; omega) rfl fun st2 hb2 e2 => hk _ ?_ (e.trans e2)
    rw [← hfin]; simpa using hb2
end
end Go.TVF
end

section
namespace Go.TVF
open Go Go.Proofs
set_option linter.unusedVariables false
set_option linter.unusedSimpArgs false
section
variable {st : St} {b n cap : Nat} {cks : List (List TV)}
def keyOf (c : List TV) : List UInt8 := match c with | .str k :: _ => k | _ => []
/-- What the comparing function gives: below zero exactly where the first key is less. -/
def CmpOk (cmp : TV) : Prop := ∀ (c d : List TV) (st : St) (K : Int → St → Prop), Ck c → Ck d → (∀ (r : Int) st', StExt st st' → (r < 0 ↔ Op.bytesLess (keyOf c) (keyOf d) = true) → K r st') → callK PR cmp [.agg c, .agg d] [.one (.int .i64)] st K
theorem swap_vc {I J : Int} {i j : Nat} {x y : List TV} {K : St → Prop} (h : BxF st b n cap cks) (hI : I = (i : Int)) (hJ : J = (j : Int)) (hi : cks[i]? = some x) (hj : cks[j]? = some y) (hk : ∀ st', BxF st' b n cap ((cks.set i y).set j x) → StX (· = b) st st' → K st') :
    ((0 ≤ J ∧ J < (lenZ 14 (.ms 14 b 0 n cap) : Int)) ∧ optK ((ldCells st [] (.t (ixT 14 (.ms 14 b 0 n cap) (Int.toNat J))) 0 14).map TV.agg) (fun (x1 : TV) => decA [.str, .int .i64, .bool, .bool, .str, .int .i64, .int .i64, .int .i64, .int .i64, .int .i64, .str, .tv, .tv, .tv] x1 (fun (a0 : List UInt8) (a1 : Int) (a2 : Bool) (a3 : Bool) (a4 : List UInt8) (a5 : Int) (a6 : Int) (a7 : Int) (a8 : Int) (a9 : Int) (a10 : List UInt8) (a11 : TV) (a12 : TV) (a13 : TV) => ((0 ≤ I ∧ I < (lenZ 14 (.ms 14 b 0 n cap) : Int)) ∧ optK ((ldCells st [] (.t (ixT 14 (.ms 14 b 0 n cap) (Int.toNat I))) 0 14).map TV.agg) (fun (x2 : TV) => decA [.str, .int .i64, .bool, .bool, .str, .int .i64, .int .i64, .int .i64, .int .i64, .int .i64, .str, .tv, .tv, .tv] x2 (fun (c0 : List UInt8) (c1 : Int) (c2 : Bool) (c3 : Bool) (c4 : List UInt8) (c5 : Int) (c6 : Int) (c7 : Int) (c8 : Int) (c9 : Int) (c10 : List UInt8) (c11 : TV) (c12 : TV) (c13 : TV) => ((0 ≤ I ∧ I < (lenZ 14 (.ms 14 b 0 n cap) : Int)) ∧ need (List.all [(.str a0), (.int .i64 a1), (.bool a2), (.bool a3), (.str a4), (.int .i64 a5), (.int .i64 a6), (.int .i64 a7), (.int .i64 a8), (.int .i64 a9), (.str a10), a11, a12, a13] oneT) (stB st (ixT 14 (.ms 14 b 0 n cap) (Int.toNat I)) [(.str a0), (.int .i64 a1), (.bool a2), (.bool a3), (.str a4), (.int .i64 a5), (.int .i64 a6), (.int .i64 a7), (.int .i64 a8), (.int .i64 a9), (.str a10), a11, a12, a13] (fun (st2 : St) => ((0 ≤ J ∧ J < (lenZ 14 (.ms 14 b 0 n cap) : Int)) ∧ need (List.all [(.str c0), (.int .i64 c1), (.bool c2), (.bool c3), (.str c4), (.int .i64 c5), (.int .i64 c6), (.int .i64 c7), (.int .i64 c8), (.int .i64 c9), (.str c10), c11, c12, c13] oneT) (stB st2 (ixT 14 (.ms 14 b 0 n cap) (Int.toNat J)) [(.str c0), (.int .i64 c1), (.bool c2), (.bool c3), (.str c4), (.int .i64 c5), (.int .i64 c6), (.int .i64 c7), (.int .i64 c8), (.int .i64 c9), (.str c10), c11, c12, c13] K))))))))))) := by
  subst hI hJ
  have li := (List.getElem?_eq_some_iff.1 hi).1
  have lj := (List.getElem?_eq_some_iff.1 hj).1
  have cx := h.ck _ (List.mem_of_getElem? hi)
  have cy := h.ck _ (List.mem_of_getElem? hj)
  have l1 := h.ld hj
  have l2 := h.ld hi
  have o1 := cx.one
  have o2 := cy.one
  have cx' := cx
  have cy' := cy
  simp only [Int.toNat_natCast]
  rw [h.lenZ]
  obtain ⟨kx, n1, b1, b2, s2, n2, n3, n4, n5, n6, s3, u1, u2, u3, rfl, _⟩ := cx
  obtain ⟨ky, m1, c1, c2, t2, m2, m3, m4, m5, m6, t3, v1, v2, v3, rfl, _⟩ := cy
  refine ⟨⟨by omega, by omega⟩, optK_intro l1 (decA14 ⟨⟨by omega, by omega⟩, optK_intro l2 (decA14 ⟨⟨by omega, by omega⟩, need_intro o2 (h.st hi cy' fun st2 hb2 e2 => ⟨⟨by omega, by omega⟩, need_intro o1 ?_⟩)⟩)⟩)⟩
  obtain ⟨z, hz⟩ : ∃ z, (cks.set i [.str ky, .int .i64 m1, .bool c1, .bool c2, .str t2, .int .i64 m2, .int .i64 m3, .int .i64 m4, .int .i64 m5, .int .i64 m6, .str t3, v1, v2, v3])[j]? = some z := ⟨_, List.getElem?_eq_getElem (by rw [List.length_set]; exact lj)⟩
  exact hb2.st hz cx' fun st3 hb3 e3 => hk st3 hb3 (e2.trans e3)
theorem cmp_vc {cmp : TV} (hc : CmpOk cmp) {I J : Int} {i j : Nat} {x y : List TV} {K : Int → St → Prop} (h : BxF st b n cap cks) (hI : I = (i : Int)) (hJ : J = (j : Int)) (hi : cks[i]? = some x) (hj : cks[j]? = some y) (hk : ∀ (r : Int) st', StExt st st' → (r < 0 ↔ Op.bytesLess (keyOf x) (keyOf y) = true) → K r st') :
    ((0 ≤ I ∧ I < (lenZ 14 (.ms 14 b 0 n cap) : Int)) ∧ optK ((ldCells st [] (.t (ixT 14 (.ms 14 b 0 n cap) (Int.toNat I))) 0 14).map TV.agg) (fun (x1 : TV) => decA [.str, .int .i64, .bool, .bool, .str, .int .i64, .int .i64, .int .i64, .int .i64, .int .i64, .str, .tv, .tv, .tv] x1 (fun (a0 : List UInt8) (a1 : Int) (a2 : Bool) (a3 : Bool) (a4 : List UInt8) (a5 : Int) (a6 : Int) (a7 : Int) (a8 : Int) (a9 : Int) (a10 : List UInt8) (a11 : TV) (a12 : TV) (a13 : TV) => ((0 ≤ J ∧ J < (lenZ 14 (.ms 14 b 0 n cap) : Int)) ∧ optK ((ldCells st [] (.t (ixT 14 (.ms 14 b 0 n cap) (Int.toNat J))) 0 14).map TV.agg) (fun (x2 : TV) => decA [.str, .int .i64, .bool, .bool, .str, .int .i64, .int .i64, .int .i64, .int .i64, .int .i64, .str, .tv, .tv, .tv] x2 (fun (c0 : List UInt8) (c1 : Int) (c2 : Bool) (c3 : Bool) (c4 : List UInt8) (c5 : Int) (c6 : Int) (c7 : Int) (c8 : Int) (c9 : Int) (c10 : List UInt8) (c11 : TV) (c12 : TV) (c13 : TV) => callK PR cmp [(.agg [(.str a0), (.int .i64 a1), (.bool a2), (.bool a3), (.str a4), (.int .i64 a5), (.int .i64 a6), (.int .i64 a7), (.int .i64 a8), (.int .i64 a9), (.str a10), a11, a12, a13]), (.agg [(.str c0), (.int .i64 c1), (.bool c2), (.bool c3), (.str c4), (.int .i64 c5), (.int .i64 c6), (.int .i64 c7), (.int .i64 c8), (.int .i64 c9), (.str c10), c11, c12, c13])] [.one (.int .i64)] st K)))))) := by
  subst hI hJ
  have li := (List.getElem?_eq_some_iff.1 hi).1
  have lj := (List.getElem?_eq_some_iff.1 hj).1
  have cx := h.ck _ (List.mem_of_getElem? hi)
  have cy := h.ck _ (List.mem_of_getElem? hj)
  have l1 := h.ld hi
  have l2 := h.ld hj
  have cx' := cx
  have cy' := cy
  simp only [Int.toNat_natCast]
  rw [h.lenZ]
  obtain ⟨kx, n1, b1, b2, s2, n2, n3, n4, n5, n6, s3, u1, u2, u3, rfl, _⟩ := cx
  obtain ⟨ky, m1, c1, c2, t2, m2, m3, m4, m5, m6, t3, v1, v2, v3, rfl, _⟩ := cy
  exact ⟨⟨by omega, by omega⟩, optK_intro l1 (decA14 ⟨⟨by omega, by omega⟩, optK_intro l2 (decA14 (hc _ _ _ _ cx' cy' hk))⟩)⟩
theorem BxF.ext {st' : St} (h : BxF st b n cap cks) (e : StExt st st') : BxF st' b n cap cks := ⟨Nat.lt_of_lt_of_le h.lt e.nb, h.len, h.le, h.ck, by
  obtain ⟨t, h1, h2⟩ := h.box
  exact ⟨t, (e.box b h.lt).trans h1, h2⟩⟩
end
end Go.TVF
end

section
namespace Go.TVF
open Go Go.Proofs
set_option linter.unusedVariables false
set_option linter.unusedSimpArgs false
theorem less_irrefl : ∀ x : List UInt8, Op.bytesLess x x = false
  | [] => rfl
  | a :: x => by
    have := less_irrefl x
    simp [Op.bytesLess, this]
theorem less_asymm : ∀ x y : List UInt8, Op.bytesLess x y = true → Op.bytesLess y x = false
  | [], [], h => by cases h
  | [], b :: y, h => rfl
  | a :: x, [], h => by cases h
  | a :: x, b :: y, h => by
    simp only [Op.bytesLess, Bool.or_eq_true, Bool.and_eq_true, decide_eq_true_eq, beq_iff_eq] at h
    simp only [Op.bytesLess, Bool.or_eq_false_iff, Bool.and_eq_false_iff, decide_eq_false_iff_not, beq_eq_false_iff_ne]
    rcases h with h | ⟨rfl, h⟩
    · exact ⟨fun g => absurd (UInt8.lt_trans h g) (UInt8.lt_irrefl _), .inl (fun e => by subst e; exact UInt8.lt_irrefl _ h)⟩
    · exact ⟨UInt8.lt_irrefl _, .inr (less_asymm x y h)⟩
theorem less_trans_neg : ∀ x y z : List UInt8, Op.bytesLess y x = false → Op.bytesLess z y = false → Op.bytesLess z x = false
  | [], _, [], _, _ => rfl
  | a :: x, _, [], h1, h2 => by
    rename_i y
    cases y with
    | nil => cases h1
    | cons b y => cases h2
  | [], y, c :: z, _, _ => rfl
  | a :: x, [], c :: z, h1, h2 => by cases h1
  | a :: x, b :: y, c :: z, h1, h2 => by
    simp only [Op.bytesLess, Bool.or_eq_false_iff, Bool.and_eq_false_iff, decide_eq_false_iff_not, beq_eq_false_iff_ne, UInt8.not_lt] at h1 h2 ⊢
    obtain ⟨h1, h3⟩ := h1
    obtain ⟨h2, h4⟩ := h2
    refine ⟨UInt8.le_trans h1 h2, ?_⟩
    by_cases hca : c = a
    · right
      subst hca
      have hbc : b = c := UInt8.le_antisymm h2 h1
      subst hbc
      exact less_trans_neg x y z (h3.resolve_left (fun h => h rfl)) (h4.resolve_left (fun h => h rfl))
    · exact .inl hca
def lek (c d : List TV) : Prop := Op.bytesLess (keyOf d) (keyOf c) = false
theorem lek_trans (x y z : List TV) (h1 : lek x y) (h2 : lek y z) : lek x z := less_trans_neg _ _ _ h1 h2
theorem lek_refl (x : List TV) : lek x x := less_irrefl _
theorem lek_of_less {x y : List TV} (h : Op.bytesLess (keyOf x) (keyOf y) = true) : lek x y := less_asymm _ _ h
section
variable {st : St} {b n cap : Nat}
theorem insertion_ok {P L Q : List (List TV)} {cmp : TV} (hc : CmpOk cmp) (h : BxF st b n cap (P ++ L ++ Q)) (hn : n ≤ 100000000) {A B : Int} (hA : A = (P.length : Int)) (hB : B = ((P.length + L.length : Nat) : Int)) {K : St → Prop}
    (hk : ∀ st' M, M.Perm L → Srt lek M → BxF st' b n cap (P ++ M ++ Q) → StX (· = b) st st' → K st') :
    CallT PR fn_slices_insertionSortCmpFunc_api_Field_ [.ms 14 b 0 n cap, .int .i64 A, .int .i64 B, cmp] [] st K := by
  have hlen := h.len
  simp only [List.length_append] at hlen
  refine vc_slices_insertionSortCmpFunc_api_Field_ _ A B cmp st K ⟨fun i d a b' c' st' => d = .ms 14 b 0 n cap ∧ a = A ∧ b' = B ∧ cmp = c' ∧ ∃ (k : Nat) (M R : List (List TV)), i = ((P.length + k : Nat) : Int) ∧ 1 ≤ k ∧ k ≤ L.length + 1 ∧ M.length = min k L.length ∧ (M ++ R).Perm L ∧ Srt lek M ∧ BxF st' b n cap (P ++ M ++ R ++ Q) ∧ StX (· = b) st st',
    fun i _ _ _ _ _ => (P.length + L.length + 1 - i).toNat, ⟨rfl, rfl, rfl, rfl, 1, L.take 1, L.drop 1, ?_, Nat.le_refl _, by omega, by simp, (by rw [List.take_append_drop]), ?_, (by rw [List.append_assoc P, List.take_append_drop]; exact h), StX.refl _ _⟩, ?_⟩
  · rw [wrap64 _ (by omega) (by omega)]; omega
  · cases L with
    | nil => exact List.Pairwise.nil
    | cons x L => exact List.pairwise_singleton _ _
  rintro _ _ _ _ _ st1 ⟨rfl, rfl, rfl, rfl, k, M, R, rfl, hk1, hkl, hM, hp, hs, hb, e⟩
  subst hA hB
  refine BIf_intro (fun g => ?_) fun g => ?_
  · have hml : M.length = k := by omega
    have hpl := hp.length_eq
    simp only [List.length_append] at hpl
    obtain ⟨x, R', rfl⟩ : ∃ x R', R = x :: R' := by cases R with | nil => simp at hpl; omega | cons x R => exact ⟨x, R, rfl⟩
    simp only [List.length_cons] at hpl
    refine ⟨fun j d a b' c' i' st' => d = .ms 14 b 0 n cap ∧ a = (P.length : Int) ∧ b' = ((P.length + L.length : Nat) : Int) ∧ cmp = c' ∧ i' = ((P.length + k : Nat) : Int) ∧ ∃ A' B' : List (List TV), j = ((P.length + A'.length : Nat) : Int) ∧ A'.length + B'.length = k ∧ (A' ++ x :: B' ++ R').Perm L ∧ Srt lek (A' ++ B') ∧ (∀ y, B'.head? = some y → lek x y) ∧ BxF st' b n cap (P ++ (A' ++ x :: B') ++ R' ++ Q) ∧ StX (· = b) st st',
      fun j _ _ _ _ _ _ => j.toNat, ⟨rfl, rfl, rfl, rfl, rfl, M, [], by omega, by simpa using hml, by simpa using hp, by simpa using hs, fun y hy => by simp at hy, by simpa using hb, e⟩, ?_⟩
    rintro _ _ _ _ _ _ st2 ⟨rfl, rfl, rfl, rfl, rfl, A', B', rfl, hab, hp2, hs2, hx, hb2, e2⟩
    have hp2l := hp2.length_eq
    simp only [List.length_append, List.length_cons] at hp2l
    have next : ∀ st', StX (· = b) st st' → BxF st' b n cap (P ++ (A' ++ x :: B') ++ R' ++ Q) → (∀ y, A'.getLast? = some y → lek y x) →
        ∃ (k' : Nat) (M R : List (List TV)), IntKind.i64.wrap (((P.length + k : Nat) : Int) + 1) = ((P.length + k' : Nat) : Int) ∧ 1 ≤ k' ∧ k' ≤ L.length + 1 ∧ M.length = min k' L.length ∧ (M ++ R).Perm L ∧ Srt lek M ∧ BxF st' b n cap (P ++ M ++ R ++ Q) ∧ StX (· = b) st st' := fun st' e' hb' hy =>
      ⟨k + 1, A' ++ x :: B', R', by rw [wrap64 _ (by omega) (by omega)]; omega, by omega, by omega, by simp only [List.length_append, List.length_cons]; omega, hp2, srt_put lek_trans lek_refl hs2 hy hx, hb', e'⟩
    have ms : (P.length + L.length + 1 - IntKind.i64.wrap (((P.length + k : Nat) : Int) + 1)).toNat < (P.length + L.length + 1 - ((P.length + k : Nat) : Int)).toNat := by
      rw [wrap64 _ (by omega) (by omega)]; omega
    refine BIf_intro (fun g2 => ?_) fun g2 => ?_
    · have hA0 : A' ≠ [] := by intro h0; subst h0; simp at g2
      obtain ⟨A'', y, hA'⟩ : ∃ A'' y, A' = A'' ++ [y] := ⟨_, _, (List.dropLast_concat_getLast hA0).symm⟩
      subst hA'
      simp only [List.length_append, List.length_cons, List.length_nil] at hab g2 hp2l
      have wj : IntKind.i64.wrap (((P.length + (A'' ++ [y]).length : Nat) : Int) - 1) = ((P.length + A''.length : Nat) : Int) := by
        rw [wrap64 _ (by simp; omega) (by simp; omega)]; simp; omega
      have ec : P ++ (A'' ++ [y] ++ x :: B') ++ R' ++ Q = (P ++ A'') ++ y :: x :: (B' ++ R' ++ Q) := by simp
      have gi : (P ++ (A'' ++ [y] ++ x :: B') ++ R' ++ Q)[P.length + (A'' ++ [y]).length]? = some x := by
        rw [ec, List.getElem?_append_right (by simp)]
        simp [show P.length + (A''.length + 1) - (P.length + A''.length) = 1 by omega]
      have gj : (P ++ (A'' ++ [y] ++ x :: B') ++ R' ++ Q)[P.length + A''.length]? = some y := by
        rw [ec, List.getElem?_append_right (by simp)]
        simp
      rw [wj]
      refine cmp_vc hc hb2 rfl rfl gi gj fun r st3 e3 hr => ?_
      have hb3 := hb2.ext e3
      have e23 := e2.trans (StX.of e3)
      refine BIf_intro (fun g3 => ?_) fun g3 => ?_
      · refine swap_vc hb3 rfl rfl gi gj fun st4 hb4 e4 => ?_
        have hset : ((P ++ (A'' ++ [y] ++ x :: B') ++ R' ++ Q).set (P.length + (A'' ++ [y]).length) y).set (P.length + A''.length) x = P ++ (A'' ++ x :: y :: B') ++ R' ++ Q := by
          rw [ec, List.set_append_right _ _ (by simp)]
          rw [show P.length + (A'' ++ [y]).length - (P ++ A'').length = 1 by simp only [List.length_append, List.length_cons, List.length_nil]; omega, List.set_cons_succ, List.set_cons_zero, List.set_append_right _ _ (by simp)]
          rw [show P.length + A''.length - (P ++ A'').length = 0 by simp, List.set_cons_zero]
          simp
        rw [hset] at hb4
        refine ⟨⟨rfl, rfl, rfl, rfl, rfl, A'', y :: B', rfl, by simp only [List.length_cons]; omega, ?_, by simpa using hs2, fun z hz => ?_, hb4, e23.trans e4⟩, by simp; omega⟩
        · refine List.Perm.trans ?_ hp2
          simp only [List.append_assoc, List.cons_append, List.nil_append]
          exact List.Perm.append_left _ (List.Perm.swap _ _ _)
        · simp at hz; subst hz
          exact lek_of_less (hr.1 g3)
      · refine ⟨⟨rfl, rfl, rfl, rfl, next st3 e23 hb3 fun z hz => ?_⟩, ms⟩
        simp at hz; subst hz
        cases hq : Op.bytesLess (keyOf x) (keyOf y) with
        | true => exact absurd (hr.2 hq) g3
        | false => exact hq
    · have hA0 : A' = [] := by
        cases A' with
        | nil => rfl
        | cons z A' => simp at g2; omega
      exact ⟨⟨rfl, rfl, rfl, rfl, next st2 e2 hb2 fun z hz => by subst hA0; simp at hz⟩, ms⟩
  · have hp' := hp.length_eq
    simp only [List.length_append] at hp'
    have hR : R = [] := List.eq_nil_of_length_eq_zero (by omega)
    subst hR
    exact hk st1 M (by simpa using hp) hs (by simpa using hb) e
end
end Go.TVF
end

section
namespace Go.TVF
open Go Go.Proofs
set_option linter.unusedVariables false
set_option linter.unusedSimpArgs false
theorem half_nat (i j : Nat) (h : i + j ≤ 1000000000) : IntKind.i64.wrap (Int.fdiv (IntKind.u64.wrap (IntKind.i64.wrap ((i : Int) + (j : Int)))) (2 ^ (min (Int.toNat (1 : Int)) (IntKind.bits .u64)))) = (((i + j) / 2 : Nat) : Int) := by
  rw [wrap64 ((i : Int) + (j : Int)) (by omega) (by omega)]
  have hu : IntKind.u64.wrap ((i : Int) + (j : Int)) = ((i + j : Nat) : Int) := by
    unfold IntKind.wrap
    simp only [IntKind.signed, IntKind.bits]
    simp
    omega
  rw [hu]
  have h2 : ((2 : Int) ^ (min (Int.toNat (1 : Int)) (IntKind.bits .u64))) = 2 := by decide
  rw [h2]
  have h3 : Int.fdiv ((i + j : Nat) : Int) 2 = (((i + j) / 2 : Nat) : Int) := by
    rw [Int.fdiv_eq_ediv_of_nonneg _ (by omega)]; omega
  rw [h3, wrap64 _ (by omega) (by omega)]
theorem getLast_take {α : Type} {l : List α} {k : Nat} {x : α} (h : l[k]? = some x) : (l.take (k + 1)).getLast? = some x := by
  obtain ⟨hk, rfl⟩ := List.getElem?_eq_some_iff.1 h
  rw [List.take_succ_eq_append_getElem hk, List.getLast?_concat]
theorem head_drop {α : Type} {l : List α} {k : Nat} {x : α} (h : l[k]? = some x) : (l.drop k).head? = some x := by
  rw [List.head?_drop, h]
section
variable {st : St} {b n cap : Nat}
/-- One element put into the run behind it. -/
theorem sm_one {P R Q : List (List TV)} {x : List TV} {cmp : TV} (hc : CmpOk cmp) (h : BxF st b n cap (P ++ [x] ++ R ++ Q)) (hn : n ≤ 100000000) (hs : Srt lek R) (hR : 0 < R.length) {A M B : Int} (hA : A = (P.length : Int)) (hM : M = ((P.length + 1 : Nat) : Int)) (hB : B = ((P.length + 1 + R.length : Nat) : Int)) {K : St → Prop}
    (hk : ∀ st' W, W.Perm ([x] ++ R) → Srt lek W → BxF st' b n cap (P ++ W ++ Q) → StX (· = b) st st' → K st') :
    CallT PR fn_slices_symMergeCmpFunc_api_Field_ [.ms 14 b 0 n cap, .int .i64 A, .int .i64 M, .int .i64 B, cmp] [] st K := by
  have hlen := h.len
  simp only [List.length_append, List.length_cons, List.length_nil] at hlen
  refine vc_slices_symMergeCmpFunc_api_Field_ _ A M B cmp st K (BIf_intro (fun _ => ?_) fun g => absurd (by subst hA hM; rw [wrap64 _ (by omega) (by omega)]; omega) g)
  refine ⟨fun i j d a c' st' => d = .ms 14 b 0 n cap ∧ a = A ∧ cmp = c' ∧ ∃ u v : Nat, i = ((P.length + 1 + u : Nat) : Int) ∧ j = ((P.length + 1 + v : Nat) : Int) ∧ u ≤ v ∧ v ≤ R.length ∧ (∀ y, (R.take u).getLast? = some y → lek y x) ∧ (∀ y, (R.drop v).head? = some y → lek x y) ∧ BxF st' b n cap (P ++ [x] ++ R ++ Q) ∧ StX (· = b) st st',
    fun i j _ _ _ _ => (j - i).toNat, ⟨rfl, rfl, rfl, 0, R.length, by omega, by omega, Nat.zero_le _, Nat.le_refl _, fun y hy => by simp at hy, fun y hy => by simp at hy, h, StX.refl _ _⟩, ?_⟩
  rintro _ _ _ _ _ st1 ⟨rfl, rfl, rfl, u, v, rfl, rfl, huv, hv, h1, h2, hb, e⟩
  subst hA hM hB
  have gx : (P ++ [x] ++ R ++ Q)[P.length]? = some x := by simp
  refine BIf_intro (fun g => ?_) fun g => ?_
  · rw [half_nat _ _ (by omega)]
    obtain ⟨w, hw⟩ : ∃ w, (P.length + 1 + u + (P.length + 1 + v)) / 2 = P.length + 1 + w := ⟨(u + v) / 2, by omega⟩
    have hwu : u ≤ w := by omega
    have hwv : w < v := by omega
    have hwr : w < R.length := by omega
    rw [hw]
    have gy : (P ++ [x] ++ R ++ Q)[P.length + 1 + w]? = some R[w] := by
      rw [List.append_assoc (P ++ [x]), List.getElem?_append_right (by simp only [List.length_append, List.length_cons, List.length_nil]; omega), List.getElem?_append_left (by simp only [List.length_append, List.length_cons, List.length_nil]; omega)]
      simp [show P.length + 1 + w - (P.length + 1) = w by omega, hwr]
    have gw : R[w]? = some R[w] := List.getElem?_eq_getElem hwr
    refine cmp_vc hc hb rfl rfl gy gx fun r st2 e2 hr => ?_
    have hb2 := hb.ext e2
    have e12 := e.trans (StX.of e2)
    refine BIf_intro (fun g3 => ?_) fun g3 => ?_
    · exact ⟨⟨rfl, rfl, rfl, w + 1, v, by rw [wrap64 _ (by omega) (by omega)]; omega, rfl, by omega, hv, fun y hy => by rw [getLast_take gw] at hy; cases hy; exact lek_of_less (hr.1 g3), h2, hb2, e12⟩, by dsimp only; rw [wrap64 _ (by omega) (by omega)]; omega⟩
    · refine ⟨⟨rfl, rfl, rfl, u, w, rfl, rfl, hwu, by omega, h1, fun y hy => ?_, hb2, e12⟩, by dsimp only; omega⟩
      rw [head_drop gw] at hy; cases hy
      cases hq : Op.bytesLess (keyOf R[w]) (keyOf x) with
      | true => exact absurd (hr.2 hq) g3
      | false => exact hq
  · obtain rfl : u = v := by omega
    refine ⟨fun k d i st' => d = .ms 14 b 0 n cap ∧ i = ((P.length + 1 + u : Nat) : Int) ∧ ∃ w : Nat, k = ((P.length + w : Nat) : Int) ∧ w ≤ u ∧ BxF st' b n cap (P ++ R.take w ++ [x] ++ R.drop w ++ Q) ∧ StX (· = b) st st',
      fun k _ _ _ => (P.length + u - k).toNat, ⟨rfl, rfl, 0, by omega, Nat.zero_le _, by simpa using hb, e⟩, ?_⟩
    rintro _ _ _ st3 ⟨rfl, rfl, w, rfl, hwu, hb3, e3⟩
    have wi : IntKind.i64.wrap (((P.length + 1 + u : Nat) : Int) - 1) = ((P.length + u : Nat) : Int) := by rw [wrap64 _ (by omega) (by omega)]; omega
    rw [wi]
    refine BIf_intro (fun g4 => ?_) fun g4 => ?_
    · have hwr : w < R.length := by omega
      have wk : IntKind.i64.wrap (((P.length + w : Nat) : Int) + 1) = ((P.length + w + 1 : Nat) : Int) := by rw [wrap64 _ (by omega) (by omega)]; omega
      have hd : R.drop w = R[w] :: R.drop (w + 1) := List.drop_eq_getElem_cons hwr
      have ec : P ++ R.take w ++ [x] ++ R.drop w ++ Q = (P ++ R.take w) ++ x :: R[w] :: (R.drop (w + 1) ++ Q) := by rw [hd]; simp only [List.append_assoc, List.cons_append, List.nil_append]
      have lc : (P ++ R.take w).length = P.length + w := by simp; omega
      rw [ec] at hb3
      have gi : ((P ++ R.take w) ++ x :: R[w] :: (R.drop (w + 1) ++ Q))[P.length + w]? = some x := by
        rw [List.getElem?_append_right (by omega), lc, Nat.sub_self]; rfl
      have gj : ((P ++ R.take w) ++ x :: R[w] :: (R.drop (w + 1) ++ Q))[P.length + w + 1]? = some R[w] := by
        rw [List.getElem?_append_right (by omega), lc, show P.length + w + 1 - (P.length + w) = 1 by omega]; rfl
      rw [wk]
      refine swap_vc hb3 rfl rfl gi gj fun st4 hb4 e4 => ⟨⟨rfl, rfl, w + 1, rfl, by omega, ?_, e3.trans e4⟩, by dsimp only; omega⟩
      have hset : ((((P ++ R.take w) ++ x :: R[w] :: (R.drop (w + 1) ++ Q)).set (P.length + w) R[w]).set (P.length + w + 1) x) = P ++ R.take (w + 1) ++ [x] ++ R.drop (w + 1) ++ Q := by
        rw [List.set_append_right _ _ (by omega), lc, Nat.sub_self, List.set_cons_zero, List.set_append_right _ _ (by omega), lc, show P.length + w + 1 - (P.length + w) = 1 by omega, List.set_cons_succ, List.set_cons_zero]
        have t1 : R.take (w + 1) = R.take w ++ [R[w]] := by rw [List.take_succ_eq_append_getElem hwr]
        rw [t1]; simp only [List.append_assoc, List.cons_append, List.nil_append]
      rw [hset] at hb4
      exact hb4
    · obtain rfl : w = u := by omega
      refine hk st3 (R.take w ++ x :: R.drop w) ?_ (srt_put lek_trans lek_refl (by rw [List.take_append_drop]; exact hs) h1 h2) (by simpa using hb3) e3
      refine List.perm_middle.trans ?_
      rw [List.take_append_drop]; exact List.Perm.refl _
/-- One element put into the run before it. -/
theorem sm_two {P L Q : List (List TV)} {x : List TV} {cmp : TV} (hc : CmpOk cmp) (h : BxF st b n cap (P ++ L ++ [x] ++ Q)) (hn : n ≤ 100000000) (hs : Srt lek L) (hL : 1 < L.length) {A M B : Int} (hA : A = (P.length : Int)) (hM : M = ((P.length + L.length : Nat) : Int)) (hB : B = ((P.length + L.length + 1 : Nat) : Int)) {K : St → Prop}
    (hk : ∀ st' W, W.Perm (L ++ [x]) → Srt lek W → BxF st' b n cap (P ++ W ++ Q) → StX (· = b) st st' → K st') :
    CallT PR fn_slices_symMergeCmpFunc_api_Field_ [.ms 14 b 0 n cap, .int .i64 A, .int .i64 M, .int .i64 B, cmp] [] st K := by
  have hlen := h.len
  simp only [List.length_append, List.length_cons, List.length_nil] at hlen
  refine vc_slices_symMergeCmpFunc_api_Field_ _ A M B cmp st K (BIf_intro (fun g => absurd g (by subst hA hM; rw [wrap64 _ (by omega) (by omega)]; omega)) fun _ => BIf_intro (fun _ => ?_) fun g => absurd (by subst hB hM; rw [wrap64 _ (by omega) (by omega)]; omega) g)
  refine ⟨fun i j d m c' st' => d = .ms 14 b 0 n cap ∧ m = M ∧ cmp = c' ∧ ∃ u v : Nat, i = ((P.length + u : Nat) : Int) ∧ j = ((P.length + v : Nat) : Int) ∧ u ≤ v ∧ v ≤ L.length ∧ (∀ y, (L.take u).getLast? = some y → lek y x) ∧ (∀ y, (L.drop v).head? = some y → lek x y) ∧ BxF st' b n cap (P ++ L ++ [x] ++ Q) ∧ StX (· = b) st st',
    fun i j _ _ _ _ => (j - i).toNat, ⟨rfl, rfl, rfl, 0, L.length, by omega, by omega, Nat.zero_le _, Nat.le_refl _, fun y hy => by simp at hy, fun y hy => by simp at hy, h, StX.refl _ _⟩, ?_⟩
  rintro _ _ _ _ _ st1 ⟨rfl, rfl, rfl, u, v, rfl, rfl, huv, hv, h1, h2, hb, e⟩
  subst hA hM hB
  have gx : (P ++ L ++ [x] ++ Q)[P.length + L.length]? = some x := by
    rw [List.append_assoc (P ++ L), List.getElem?_append_right (by simp), List.length_append, Nat.sub_self]; rfl
  refine BIf_intro (fun g => ?_) fun g => ?_
  · rw [half_nat _ _ (by omega)]
    obtain ⟨w, hw⟩ : ∃ w, (P.length + u + (P.length + v)) / 2 = P.length + w := ⟨(u + v) / 2, by omega⟩
    have hwu : u ≤ w := by omega
    have hwv : w < v := by omega
    have hwr : w < L.length := by omega
    rw [hw]
    have gy : (P ++ L ++ [x] ++ Q)[P.length + w]? = some L[w] := by
      rw [List.append_assoc, List.append_assoc, List.getElem?_append_right (by omega), List.getElem?_append_left (by omega), Nat.add_sub_cancel_left]
      exact List.getElem?_eq_getElem hwr
    have gw : L[w]? = some L[w] := List.getElem?_eq_getElem hwr
    refine cmp_vc hc hb rfl rfl gx gy fun r st2 e2 hr => ?_
    have hb2 := hb.ext e2
    have e12 := e.trans (StX.of e2)
    refine BIf_bool (fun g3 => ?_) fun g3 => ?_
    · refine ⟨⟨rfl, rfl, rfl, w + 1, v, by rw [wrap64 _ (by omega) (by omega)]; omega, rfl, by omega, hv, fun y hy => ?_, h2, hb2, e12⟩, by dsimp only; rw [wrap64 _ (by omega) (by omega)]; omega⟩
      rw [getLast_take gw] at hy; cases hy
      cases hq : Op.bytesLess (keyOf x) (keyOf L[w]) with
      | true => have := hr.2 hq; simp at g3; omega
      | false => exact hq
    · exact ⟨⟨rfl, rfl, rfl, u, w, rfl, rfl, hwu, by omega, h1, fun y hy => by rw [head_drop gw] at hy; cases hy; exact lek_of_less (hr.1 (by simpa using g3)), hb2, e12⟩, by dsimp only; omega⟩
  · obtain rfl : u = v := by omega
    refine ⟨fun k d i st' => d = .ms 14 b 0 n cap ∧ i = ((P.length + u : Nat) : Int) ∧ ∃ w : Nat, k = ((P.length + w : Nat) : Int) ∧ u ≤ w ∧ w ≤ L.length ∧ BxF st' b n cap (P ++ L.take w ++ [x] ++ L.drop w ++ Q) ∧ StX (· = b) st st',
      fun k _ _ _ => k.toNat, ⟨rfl, rfl, L.length, by omega, hv, Nat.le_refl _, by simpa using hb, e⟩, ?_⟩
    rintro _ _ _ st3 ⟨rfl, rfl, w, rfl, hwu, hwl, hb3, e3⟩
    refine BIf_intro (fun g4 => ?_) fun g4 => ?_
    · obtain ⟨w, rfl⟩ : ∃ w', w = w' + 1 := ⟨w - 1, by omega⟩
      have hwr : w < L.length := by omega
      have wk : IntKind.i64.wrap (((P.length + (w + 1) : Nat) : Int) - 1) = ((P.length + w : Nat) : Int) := by rw [wrap64 _ (by omega) (by omega)]; omega
      have t1 : L.take (w + 1) = L.take w ++ [L[w]] := by rw [List.take_succ_eq_append_getElem hwr]
      have ec : P ++ L.take (w + 1) ++ [x] ++ L.drop (w + 1) ++ Q = (P ++ L.take w) ++ L[w] :: x :: (L.drop (w + 1) ++ Q) := by rw [t1]; simp only [List.append_assoc, List.cons_append, List.nil_append]
      have lc : (P ++ L.take w).length = P.length + w := by simp; omega
      rw [ec] at hb3
      have gi : ((P ++ L.take w) ++ L[w] :: x :: (L.drop (w + 1) ++ Q))[P.length + (w + 1)]? = some x := by
        rw [List.getElem?_append_right (by omega), lc, show P.length + (w + 1) - (P.length + w) = 1 by omega]; rfl
      have gj : ((P ++ L.take w) ++ L[w] :: x :: (L.drop (w + 1) ++ Q))[P.length + w]? = some L[w] := by
        rw [List.getElem?_append_right (by omega), lc, Nat.sub_self]; rfl
      rw [wk]
      refine swap_vc hb3 rfl rfl gi gj fun st4 hb4 e4 => ⟨⟨rfl, rfl, w, rfl, by omega, by omega, ?_, e3.trans e4⟩, by dsimp only; omega⟩
      have hset : ((((P ++ L.take w) ++ L[w] :: x :: (L.drop (w + 1) ++ Q)).set (P.length + (w + 1)) L[w]).set (P.length + w) x) = P ++ L.take w ++ [x] ++ L.drop w ++ Q := by
        rw [List.set_append_right _ _ (by omega), lc, show P.length + (w + 1) - (P.length + w) = 1 by omega, List.set_cons_succ, List.set_cons_zero, List.set_append_right _ _ (by omega), lc, Nat.sub_self, List.set_cons_zero]
        have hd : L.drop w = L[w] :: L.drop (w + 1) := List.drop_eq_getElem_cons hwr
        rw [hd]; simp only [List.append_assoc, List.cons_append, List.nil_append]
      rw [hset] at hb4
      exact hb4
    · obtain rfl : w = u := by omega
      refine hk st3 (L.take w ++ x :: L.drop w) ?_ (srt_put lek_trans lek_refl (by rw [List.take_append_drop]; exact hs) h1 h2) (by simpa using hb3) e3
      refine List.perm_middle.trans ?_
      rw [List.take_append_drop]
      exact List.perm_append_comm (l₁ := [x])
end
end Go.TVF
end

section
namespace Go.TVF
open Go Go.Proofs
set_option linter.unusedVariables false
set_option linter.unusedSimpArgs false
section
variable {b n cap : Nat}
theorem symMerge_ok {cmp : TV} (hc : CmpOk cmp) (hn : n ≤ 100000000) : ∀ (N : Nat) {st : St} {P L R Q : List (List TV)} {A M B : Int} {K : St → Prop}, L.length + R.length ≤ N → 0 < L.length → 0 < R.length → BxF st b n cap (P ++ L ++ R ++ Q) → Srt lek L → Srt lek R →
    A = (P.length : Int) → M = ((P.length + L.length : Nat) : Int) → B = ((P.length + L.length + R.length : Nat) : Int) →
    (∀ st' W, W.Perm (L ++ R) → Srt lek W → BxF st' b n cap (P ++ W ++ Q) → StX (· = b) st st' → K st') →
    CallT PR fn_slices_symMergeCmpFunc_api_Field_ [.ms 14 b 0 n cap, .int .i64 A, .int .i64 M, .int .i64 B, cmp] [] st K := by
  intro N
  induction N with
  | zero => intro st P L R Q A M B K h0 h1; omega
  | succ N ih =>
  intro st P L R Q A M B K hN hL hR h sL sR hA hM hB hk
  have hlen := h.len
  simp only [List.length_append] at hlen
  by_cases hL1 : L.length = 1
  · obtain ⟨x, rfl⟩ := List.length_eq_one_iff.1 hL1
    exact sm_one hc h hn sR hR hA (by simpa using hM) (by simpa using hB) hk
  by_cases hR1 : R.length = 1
  · obtain ⟨x, rfl⟩ := List.length_eq_one_iff.1 hR1
    exact sm_two hc h hn sL (by omega) hA hM (by simpa using hB) hk
  subst hA hM hB
  refine vc_slices_symMergeCmpFunc_api_Field_ _ _ _ _ cmp st K (BIf_intro (fun g => absurd g (by rw [wrap64 _ (by omega) (by omega)]; omega)) fun _ => BIf_intro (fun g => absurd g (by rw [wrap64 _ (by omega) (by omega)]; omega)) fun _ => ?_)
  obtain ⟨H, hH⟩ : ∃ H, H = (L.length + R.length) / 2 := ⟨_, rfl⟩
  have hmid := half_nat P.length (P.length + L.length + R.length) (by omega)
  have hmid2 : (P.length + (P.length + L.length + R.length)) / 2 = P.length + H := by omega
  rw [hmid2] at hmid
  rw [hmid]
  -- the bounds of the search
  obtain ⟨u0, v0, hb0⟩ : ∃ u0 v0 : Nat, (P.length + H < P.length + L.length → u0 = H - R.length ∧ v0 = H) ∧ (¬ P.length + H < P.length + L.length → u0 = 0 ∧ v0 = L.length) := by
    by_cases g : P.length + H < P.length + L.length
    · exact ⟨H - R.length, H, fun _ => ⟨rfl, rfl⟩, fun g' => absurd g g'⟩
    · exact ⟨0, L.length, fun g' => absurd g' g, fun _ => ⟨rfl, rfl⟩⟩
  have hnw : IntKind.i64.wrap (((P.length + H : Nat) : Int) + ((P.length + L.length : Nat) : Int)) = ((P.length + H + (P.length + L.length) : Nat) : Int) := by rw [wrap64 _ (by omega) (by omega)]; omega
  rw [hnw]
  refine ⟨fun s r d a m b' c mid n' st' => d = .ms 14 b 0 n cap ∧ a = (P.length : Int) ∧ m = ((P.length + L.length : Nat) : Int) ∧ b' = ((P.length + L.length + R.length : Nat) : Int) ∧ cmp = c ∧ mid = ((P.length + H : Nat) : Int) ∧ n' = ((P.length + H + (P.length + L.length) : Nat) : Int) ∧ st = st' ∧ s = ((P.length + u0 : Nat) : Int) ∧ r = ((P.length + v0 : Nat) : Int), ?_, ?_⟩
  · refine BIf_intro (fun g => ?_) fun g => ?_
    · obtain ⟨h1, h2⟩ := hb0.1 (by omega)
      exact ⟨rfl, rfl, rfl, rfl, rfl, rfl, rfl, rfl, by rw [wrap64 _ (by omega) (by omega)]; omega, by omega⟩
    · obtain ⟨h1, h2⟩ := hb0.2 (by omega)
      exact ⟨rfl, rfl, rfl, rfl, rfl, rfl, rfl, rfl, by omega, by omega⟩
  rintro _ _ _ _ _ _ _ _ _ _ ⟨rfl, rfl, rfl, rfl, rfl, rfl, rfl, rfl, rfl, rfl⟩
  have hu0 : u0 ≤ v0 ∧ v0 ≤ L.length ∧ v0 ≤ H ∧ H ≤ u0 + R.length := by
    by_cases g : P.length + H < P.length + L.length
    · obtain ⟨h1, h2⟩ := hb0.1 g; omega
    · obtain ⟨h1, h2⟩ := hb0.2 g; omega
  obtain ⟨q1, q2, q3, q4⟩ := hu0
  refine ⟨fun s r d a m b' c mid n' p st' => d = .ms 14 b 0 n cap ∧ a = (P.length : Int) ∧ m = ((P.length + L.length : Nat) : Int) ∧ b' = ((P.length + L.length + R.length : Nat) : Int) ∧ cmp = c ∧ mid = ((P.length + H : Nat) : Int) ∧ n' = ((P.length + H + (P.length + L.length) : Nat) : Int) ∧ p = ((P.length + H + (P.length + L.length) : Nat) : Int) - 1 ∧
      ∃ u v : Nat, s = ((P.length + u : Nat) : Int) ∧ r = ((P.length + v : Nat) : Int) ∧ u0 ≤ u ∧ u ≤ v ∧ v ≤ v0 ∧ (∀ x, (L.take u).getLast? = some x → ∀ y, (R.drop (H - u)).head? = some y → lek x y) ∧ (∀ x, (R.take (H - v)).getLast? = some x → ∀ y, (L.drop v).head? = some y → lek x y) ∧ BxF st' b n cap (P ++ L ++ R ++ Q) ∧ StX (· = b) st st',
    fun s r _ _ _ _ _ _ _ _ _ => (r - s).toNat, ⟨rfl, rfl, rfl, rfl, rfl, rfl, rfl, by rw [wrap64 _ (by omega) (by omega)], u0, v0, rfl, rfl, Nat.le_refl _, q1, Nat.le_refl _, ?_, ?_, h, StX.refl _ _⟩, ?_⟩
  · intro x hx y hy
    by_cases g : P.length + H < P.length + L.length
    · obtain ⟨h1, h2⟩ := hb0.1 g
      rw [List.drop_of_length_le (by omega)] at hy; simp at hy
    · obtain ⟨h1, h2⟩ := hb0.2 g
      rw [h1] at hx; simp at hx
  · intro x hx y hy
    by_cases g : P.length + H < P.length + L.length
    · obtain ⟨h1, h2⟩ := hb0.1 g
      rw [h2, Nat.sub_self] at hx; simp at hx
    · obtain ⟨h1, h2⟩ := hb0.2 g
      rw [h2, List.drop_length] at hy; simp at hy
  rintro _ _ _ _ _ _ _ _ _ _ st1 ⟨rfl, rfl, rfl, rfl, rfl, rfl, rfl, rfl, u, v, rfl, rfl, hu, huv, hv, j1, j2, hb, e⟩
  refine BIf_intro (fun g => ?_) fun g => ?_
  · -- one step of the search
    rw [half_nat _ _ (by omega)]
    obtain ⟨w, hw⟩ : ∃ w, (P.length + u + (P.length + v)) / 2 = P.length + w := ⟨(u + v) / 2, by omega⟩
    have hwu : u ≤ w := by omega
    have hwv : w < v := by omega
    have hwl : w < L.length := by omega
    have hwr : H - w - 1 < R.length := by omega
    rw [hw]
    have wp : IntKind.i64.wrap (((P.length + H + (P.length + L.length) : Nat) : Int) - 1 - ((P.length + w : Nat) : Int)) = ((P.length + L.length + (H - w - 1) : Nat) : Int) := by rw [wrap64 _ (by omega) (by omega)]; omega
    rw [wp]
    have gy : (P ++ L ++ R ++ Q)[P.length + w]? = some L[w] := by
      rw [List.append_assoc, List.append_assoc, List.getElem?_append_right (by omega), List.getElem?_append_left (by omega), Nat.add_sub_cancel_left]
      exact List.getElem?_eq_getElem hwl
    have gx : (P ++ L ++ R ++ Q)[P.length + L.length + (H - w - 1)]? = some R[H - w - 1] := by
      rw [List.append_assoc (P ++ L), List.getElem?_append_right (by rw [List.length_append]; omega), List.length_append, Nat.add_sub_cancel_left, List.getElem?_append_left hwr]
      exact List.getElem?_eq_getElem hwr
    have ly : L[w]? = some L[w] := List.getElem?_eq_getElem hwl
    have lx : R[H - w - 1]? = some R[H - w - 1] := List.getElem?_eq_getElem hwr
    refine cmp_vc hc hb rfl rfl gx gy fun r st2 e2 hr => ?_
    have hb2 := hb.ext e2
    have e12 := e.trans (StX.of e2)
    refine BIf_bool (fun g3 => ?_) fun g3 => ?_
    · refine ⟨⟨rfl, rfl, rfl, rfl, rfl, rfl, rfl, rfl, w + 1, v, by rw [wrap64 _ (by omega) (by omega)]; omega, rfl, by omega, by omega, hv, fun x hx y hy => ?_, j2, hb2, e12⟩, by dsimp only; rw [wrap64 _ (by omega) (by omega)]; omega⟩
      rw [getLast_take ly] at hx; cases hx
      rw [show H - (w + 1) = H - w - 1 by omega, head_drop lx] at hy; cases hy
      cases hq : Op.bytesLess (keyOf R[H - w - 1]) (keyOf L[w]) with
      | true => have := hr.2 hq; simp at g3; omega
      | false => exact hq
    · refine ⟨⟨rfl, rfl, rfl, rfl, rfl, rfl, rfl, rfl, u, w, rfl, rfl, hu, hwu, by omega, j1, fun x hx y hy => ?_, hb2, e12⟩, by dsimp only; omega⟩
      rw [show H - w = H - w - 1 + 1 by omega, getLast_take lx] at hx; cases hx
      rw [head_drop ly] at hy; cases hy
      exact lek_of_less (hr.1 (by simpa using g3))
  · obtain rfl : u = v := by omega
    obtain ⟨E, hE⟩ : ∃ E, E = H - u := ⟨_, rfl⟩
    rw [← hE] at j1 j2
    have wend : IntKind.i64.wrap (((P.length + H + (P.length + L.length) : Nat) : Int) - ((P.length + u : Nat) : Int)) = ((P.length + L.length + E : Nat) : Int) := by rw [wrap64 _ (by omega) (by omega)]; omega
    rw [wend]
    have hER : E ≤ R.length := by omega
    have huL : u ≤ L.length := by omega
    have dL : L = L.take u ++ L.drop u := (List.take_append_drop _ _).symm
    have dR : R = R.take E ++ R.drop E := (List.take_append_drop _ _).symm
    have a1 : (L.take u).length = u := by simp; omega
    have a2 : (L.drop u).length = L.length - u := by simp
    have a3 : (R.take E).length = E := by simp; omega
    have a4 : (R.drop E).length = R.length - E := by simp
    generalize hL1' : L.take u = L1 at *
    generalize hL2' : L.drop u = L2 at *
    generalize hR1' : R.take E = R1 at *
    generalize hR2' : R.drop E = R2 at *
    have sL' : Srt lek (L1 ++ L2) := dL ▸ sL
    have sR' : Srt lek (R1 ++ R2) := dR ▸ sR
    obtain ⟨z1, z2, _⟩ := List.pairwise_append.1 sL'
    obtain ⟨z3, z4, _⟩ := List.pairwise_append.1 sR'
    -- the second half
    have second : ∀ st2 W1, W1.Perm (L1 ++ R1) → Srt lek W1 → BxF st2 b n cap (P ++ W1 ++ L2 ++ R2 ++ Q) → StX (· = b) st st2 →
        BIf (decide (((P.length + H : Nat) : Int) < ((P.length + L.length + E : Nat) : Int))) (BIf (decide (((P.length + L.length + E : Nat) : Int) < ((P.length + L.length + R.length : Nat) : Int)))
          (CallT PR fn_slices_symMergeCmpFunc_api_Field_ [.ms 14 b 0 n cap, .int .i64 ((P.length + H : Nat) : Int), .int .i64 ((P.length + L.length + E : Nat) : Int), .int .i64 ((P.length + L.length + R.length : Nat) : Int), cmp] [] st2 (fun s => K s)) (K st2)) (K st2) := by
      intro st2 W1 p1 s1 hb2 e2
      have lw := p1.length_eq
      rw [List.length_append] at lw
      have fin : ∀ st3 W2, W2.Perm (L2 ++ R2) → Srt lek W2 → BxF st3 b n cap (P ++ W1 ++ W2 ++ Q) → StX (· = b) st st3 → K st3 := fun st3 W2 p2 s2 hb3 e3 => by
        obtain ⟨t1, t2⟩ := srt_halves lek_trans lek_refl sL' sR' j2 j1 p1 p2 s1 s2
        exact hk st3 (W1 ++ W2) (by rw [dL, dR]; exact t1) t2 (by simpa using hb3) e3
      refine BIf_intro (fun g1 => BIf_intro (fun g2 => ?_) fun g2 => ?_) fun g1 => ?_
      · refine ih (P := P ++ W1) (L := L2) (R := R2) (Q := Q) (by omega) (by omega) (by omega) hb2 z2 z4 (by rw [List.length_append]; omega) (by rw [List.length_append]; omega) (by rw [List.length_append]; omega) fun st3 W2 p2 s2 hb3 e3 => fin st3 W2 p2 s2 hb3 (e2.trans e3)
      · have : R2 = [] := List.eq_nil_of_length_eq_zero (by omega)
        subst this
        exact fin st2 L2 (by simp) z2 (by simpa using hb2) e2
      · have : L2 = [] := List.eq_nil_of_length_eq_zero (by omega)
        subst this
        exact fin st2 R2 (by simp) z4 (by simpa using hb2) e2
    -- both halves
    have both : ∀ st2, BxF st2 b n cap (P ++ L1 ++ R1 ++ L2 ++ R2 ++ Q) → StX (· = b) st st2 →
        (∀ W1 st3, W1.Perm (L1 ++ R1) → Srt lek W1 → BxF st3 b n cap (P ++ W1 ++ L2 ++ R2 ++ Q) → StX (· = b) st st3 → True) := fun _ _ _ _ _ _ _ _ _ => trivial
    have firstCall : ∀ (st2 : St) (K' : St → Prop), 0 < L1.length → 0 < R1.length → BxF st2 b n cap (P ++ L1 ++ R1 ++ L2 ++ R2 ++ Q) → (∀ st3 W1, W1.Perm (L1 ++ R1) → Srt lek W1 → BxF st3 b n cap (P ++ W1 ++ L2 ++ R2 ++ Q) → StX (· = b) st2 st3 → K' st3) →
        CallT PR fn_slices_symMergeCmpFunc_api_Field_ [.ms 14 b 0 n cap, .int .i64 (P.length : Int), .int .i64 ((P.length + u : Nat) : Int), .int .i64 ((P.length + H : Nat) : Int), cmp] [] st2 K' := by
      intro st2 K' y1 y2 hb2 hK'
      exact ih (P := P) (L := L1) (R := R1) (Q := L2 ++ R2 ++ Q) (by omega) y1 y2 (by simpa using hb2) z1 z3 rfl (by omega) (by omega) fun st3 W1 p1 s1 hb3 e3 => hK' st3 W1 p1 s1 (by simpa using hb3) e3
    have hb' : BxF st1 b n cap (P ++ (L1 ++ L2) ++ (R1 ++ R2) ++ Q) := by rw [← dL, ← dR]; exact hb
    refine BIf_intro (fun g1 => BIf_intro (fun g2 => ?_) fun g2 => ?_) fun g1 => ?_
    · refine rotate_ok (P := P ++ L1) (U := L2) (V := R1) (Q := R2 ++ Q) (by simpa using hb') hn (by omega) (by omega) (by rw [List.length_append]; omega) (by rw [List.length_append]; omega) (by rw [List.length_append]; omega) fun st2 hb2 e2 => ?_
      have hb2' : BxF st2 b n cap (P ++ L1 ++ R1 ++ L2 ++ R2 ++ Q) := by simpa using hb2
      have e12 := e.trans e2
      refine BIf_intro (fun g3 => BIf_intro (fun g4 => ?_) fun g4 => ?_) fun g3 => ?_
      · exact firstCall st2 _ (by omega) (by omega) hb2' fun st3 W1 p1 s1 hb3 e3 => second st3 W1 p1 s1 hb3 (e12.trans e3)
      · have : R1 = [] := List.eq_nil_of_length_eq_zero (by omega)
        subst this
        exact second st2 L1 (by simp) z1 (by simpa using hb2') e12
      · have : L1 = [] := List.eq_nil_of_length_eq_zero (by omega)
        subst this
        exact second st2 R1 (by simp) z3 (by simpa using hb2') e12
    · have hR0 : R1 = [] := List.eq_nil_of_length_eq_zero (by omega)
      subst hR0
      have hb2' : BxF st1 b n cap (P ++ L1 ++ [] ++ L2 ++ R2 ++ Q) := by simpa using hb'
      refine BIf_intro (fun g3 => BIf_intro (fun g4 => ?_) fun g4 => ?_) fun g3 => ?_
      · exact absurd g4 (by simp at a3; omega)
      · exact second st1 L1 (by simp) z1 (by simpa using hb2') e
      · exact second st1 L1 (by simp) z1 (by simpa using hb2') e
    · have hL0 : L2 = [] := List.eq_nil_of_length_eq_zero (by omega)
      subst hL0
      have hb2' : BxF st1 b n cap (P ++ L1 ++ R1 ++ [] ++ R2 ++ Q) := by simpa using hb'
      refine BIf_intro (fun g3 => BIf_intro (fun g4 => ?_) fun g4 => ?_) fun g3 => ?_
      · exact firstCall st1 _ (by omega) (by omega) hb2' fun st3 W1 p1 s1 hb3 e3 => second st3 W1 p1 s1 hb3 (e.trans e3)
      · have : R1 = [] := List.eq_nil_of_length_eq_zero (by omega)
        subst this
        exact second st1 L1 (by simp) z1 (by simpa using hb2') e
      · have : L1 = [] := List.eq_nil_of_length_eq_zero (by omega)
        subst this
        exact second st1 R1 (by simp) z3 (by simpa using hb2') e
end
end Go.TVF
end

section
namespace Go.TVF
open Go Go.Proofs
set_option linter.unusedVariables false
set_option linter.unusedSimpArgs false
/-- All aligned blocks of this length are sorted. -/
def SB (bs : Nat) (l : List (List TV)) : Prop := ∀ k, Srt lek ((l.drop (k * bs)).take bs)
theorem SB.nil (bs : Nat) : SB bs [] := fun k => by simp only [List.drop_nil, List.take_nil]; exact List.Pairwise.nil
theorem SB.app {bs q : Nat} {S M : List (List TV)} (h : SB bs S) (hq : S.length = q * bs) (hm : M.length ≤ bs) (hs : Srt lek M) : SB bs (S ++ M) := fun k => by
  rcases Nat.lt_trichotomy k q with hk | hk | hk
  · have : (k + 1) * bs ≤ q * bs := Nat.mul_le_mul_right _ hk
    rw [Nat.add_mul, Nat.one_mul] at this
    rw [List.drop_append_of_le_length (by omega), List.take_append_of_le_length (by rw [List.length_drop]; omega)]
    exact h k
  · subst hk
    rw [← hq, List.drop_left, List.take_of_length_le hm]
    exact hs
  · have : (q + 1) * bs ≤ k * bs := Nat.mul_le_mul_right _ hk
    rw [Nat.add_mul, Nat.one_mul] at this
    rw [List.drop_of_length_le (by rw [List.length_append]; omega), List.take_nil]
    exact List.Pairwise.nil
theorem SB.drop {bs q : Nat} {l : List (List TV)} (h : SB bs l) : SB bs (l.drop (q * bs)) := fun k => by
  rw [List.drop_drop, ← Nat.add_mul]
  exact h (q + k)
theorem SB.all {bs : Nat} {l : List (List TV)} (h : SB bs l) (hl : l.length ≤ bs) : Srt lek l := by
  have := h 0
  rw [Nat.zero_mul, List.drop_zero, List.take_of_length_le hl] at this
  exact this
section
variable {st : St} {b n cap : Nat}
theorem stable_ok {cmp : TV} (hc : CmpOk cmp) {D0 : List (List TV)} (h : BxF st b n cap D0) (hn : n ≤ 100000000) {N : Int} (hN : N = (n : Int)) {K : St → Prop} (hk : ∀ st' W, W.Perm D0 → Srt lek W → BxF st' b n cap W → StX (· = b) st st' → K st') :
    CallT PR fn_slices_stableCmpFunc_api_Field_ [.ms 14 b 0 n cap, .int .i64 N, cmp] [] st K := by
  have hlen := h.len
  subst hN
  refine vc_slices_stableCmpFunc_api_Field_ _ _ cmp st K ⟨fun a b' d n' c bs st' => d = .ms 14 b 0 n cap ∧ n' = (n : Int) ∧ cmp = c ∧ bs = 20 ∧ ∃ (q : Nat) (S T : List (List TV)), a = ((q * 20 : Nat) : Int) ∧ b' = ((q * 20 + 20 : Nat) : Int) ∧ q * 20 ≤ n ∧ S.length = q * 20 ∧ SB 20 S ∧ (S ++ T).Perm D0 ∧ BxF st' b n cap (S ++ T) ∧ StX (· = b) st st',
    fun a _ _ _ _ _ _ => (n - a).toNat, ⟨rfl, rfl, rfl, rfl, 0, [], D0, by omega, by omega, by omega, rfl, SB.nil _, by simp, by simpa using h, StX.refl _ _⟩, ?_⟩
  rintro _ _ _ _ _ _ st1 ⟨rfl, rfl, rfl, rfl, q, S, T, rfl, rfl, hqn, hS, sb, hp, hb, e⟩
  have hl1 := hb.len
  rw [List.length_append] at hl1
  refine BIf_intro (fun g => ?_) fun g => ?_
  · have hT : T = T.take 20 ++ T.drop 20 := (List.take_append_drop _ _).symm
    have lx : (T.take 20).length = 20 := by simp; omega
    generalize T.take 20 = X at *
    generalize T.drop 20 = Y at *
    subst hT
    refine insertion_ok (P := S) (L := X) (Q := Y) hc (by simpa using hb) hn (by omega) (by omega) fun st2 M pm sm hb2 e2 => ?_
    have lm := pm.length_eq
    refine ⟨⟨rfl, rfl, rfl, rfl, q + 1, S ++ M, Y, by omega, by rw [wrap64 _ (by omega) (by omega)]; omega, by omega, by rw [List.length_append]; omega, sb.app hS (by omega) sm, ?_, hb2, e.trans e2⟩, by dsimp only; omega⟩
    rw [List.append_assoc]
    exact ((pm.append_right Y).append_left S).trans hp
  · refine insertion_ok (P := S) (L := T) (Q := []) hc (by simpa using hb) hn (by omega) (by omega) fun st2 M pm sm hb2 e2 => ?_
    have lm := pm.length_eq
    rw [List.append_nil] at hb2
    refine ⟨fun bs d n' c st' => d = .ms 14 b 0 n cap ∧ n' = (n : Int) ∧ cmp = c ∧ ∃ (s : Nat) (D : List (List TV)), bs = (s : Int) ∧ 20 ≤ s ∧ s ≤ 200000020 ∧ SB s D ∧ D.Perm D0 ∧ BxF st' b n cap D ∧ StX (· = b) st st',
      fun bs _ _ _ _ => (n - bs).toNat, ⟨rfl, rfl, rfl, 20, S ++ M, rfl, Nat.le_refl _, by omega, sb.app hS (by omega) sm, (pm.append_left S).trans hp, hb2, e.trans e2⟩, ?_⟩
    rintro _ _ _ _ st3 ⟨rfl, rfl, rfl, s, D, rfl, hs20, hsm, sbD, pD, hbD, eD⟩
    have hlD := hbD.len
    refine BIf_intro (fun g2 => ?_) fun g2 => hk st3 D pD (sbD.all (by omega)) hbD eD
    have w2 : IntKind.i64.wrap (2 * (s : Int)) = ((2 * s : Nat) : Int) := by rw [wrap64 _ (by omega) (by omega)]; omega
    have ws2 : IntKind.i64.wrap ((s : Int) * 2) = ((2 * s : Nat) : Int) := by rw [wrap64 _ (by omega) (by omega)]; omega
    refine ⟨fun a b' d n' c bs st' => d = .ms 14 b 0 n cap ∧ n' = (n : Int) ∧ cmp = c ∧ bs = (s : Int) ∧ ∃ (q : Nat) (S T : List (List TV)), a = ((q * (2 * s) : Nat) : Int) ∧ b' = ((q * (2 * s) + 2 * s : Nat) : Int) ∧ q * (2 * s) ≤ n ∧ S.length = q * (2 * s) ∧ SB (2 * s) S ∧ SB s T ∧ (S ++ T).Perm D0 ∧ BxF st' b n cap (S ++ T) ∧ StX (· = b) st st',
      fun a _ _ _ _ _ _ => (n - a).toNat, ⟨rfl, rfl, rfl, rfl, 0, [], D, by simp, by rw [w2]; simp, by omega, by simp, SB.nil _, sbD, by simpa using pD, by simpa using hbD, eD⟩, ?_⟩
    rintro _ _ _ _ _ _ st4 ⟨rfl, rfl, rfl, rfl, q2, S2, T2, rfl, rfl, hq2, hS2, sbS, sbT, p2, hb4, e4⟩
    have hl4 := hb4.len
    rw [List.length_append] at hl4
    generalize hQ : q2 * (2 * s) = Qn at *
    have d1 := sbT 0
    have d2 := sbT 1
    rw [Nat.zero_mul, List.drop_zero] at d1
    rw [Nat.one_mul] at d2
    refine BIf_intro (fun g3 => ?_) fun g3 => ?_
    · rw [w2]
      have wa : IntKind.i64.wrap ((Qn : Int) + (s : Int)) = ((Qn + s : Nat) : Int) := by rw [wrap64 _ (by omega) (by omega)]; omega
      rw [wa]
      have sb3 : SB s (T2.drop (2 * s)) := SB.drop (q := 2) sbT
      have hT : T2 = T2.take s ++ ((T2.drop s).take s ++ T2.drop (2 * s)) := by
        have : T2.drop (2 * s) = (T2.drop s).drop s := by rw [List.drop_drop]; congr 1; omega
        rw [this, List.take_append_drop, List.take_append_drop]
      have lx : (T2.take s).length = s := by simp; omega
      have ly : ((T2.drop s).take s).length = s := by simp; omega
      generalize T2.take s = X at *
      generalize (T2.drop s).take s = Y at *
      generalize T2.drop (2 * s) = Z at *
      subst hT
      refine symMerge_ok hc hn _ (P := S2) (L := X) (R := Y) (Q := Z) (Nat.le_refl _) (by omega) (by omega) (by simpa using hb4) d1 d2 (by omega) (by omega) (by omega) fun st5 W pw sw hb5 e5 => ?_
      have lw := pw.length_eq
      rw [List.length_append] at lw
      refine ⟨⟨rfl, rfl, rfl, rfl, q2 + 1, S2 ++ W, Z, by rw [Nat.add_mul, hQ]; omega, by rw [wrap64 _ (by omega) (by omega), Nat.add_mul, hQ]; omega, by rw [Nat.add_mul, hQ]; omega, by rw [List.length_append, Nat.add_mul, hQ]; omega, sbS.app (by rw [hQ]; exact hS2) (by omega) sw, sb3, ?_, hb5, e4.trans e5⟩, by dsimp only; omega⟩
      refine List.Perm.trans ?_ p2
      rw [List.append_assoc]
      exact ((pw.append_right Z).append_left S2).trans (by simp)
    · have wa : IntKind.i64.wrap ((Qn : Int) + (s : Int)) = ((Qn + s : Nat) : Int) := by rw [wrap64 _ (by omega) (by omega)]; omega
      rw [wa, ws2]
      refine BIf_intro (fun g4 => ?_) fun g4 => ?_
      · have hT : T2 = T2.take s ++ T2.drop s := (List.take_append_drop _ _).symm
        have lx : (T2.take s).length = s := by simp; omega
        have ly : (T2.drop s).length = T2.length - s := by simp
        rw [List.take_of_length_le (by omega)] at d2
        generalize T2.take s = X at *
        generalize T2.drop s = Y at *
        subst hT
        rw [List.length_append] at *
        refine symMerge_ok hc hn _ (P := S2) (L := X) (R := Y) (Q := []) (Nat.le_refl _) (by omega) (by omega) (by simpa using hb4) d1 d2 (by omega) (by omega) (by omega) fun st5 W pw sw hb5 e5 => ?_
        have lw := pw.length_eq
        rw [List.length_append] at lw
        rw [List.append_nil] at hb5
        exact ⟨⟨rfl, rfl, rfl, 2 * s, S2 ++ W, rfl, by omega, by omega, sbS.app (by rw [hQ]; exact hS2) (by omega) sw, (pw.append_left S2).trans p2, hb5, e4.trans e5⟩, by dsimp only; omega⟩
      · refine ⟨⟨rfl, rfl, rfl, 2 * s, S2 ++ T2, rfl, by omega, by omega, sbS.app (by rw [hQ]; exact hS2) (by omega) (sbT.all (by omega)), p2, hb4, e4⟩, by dsimp only; omega⟩
theorem sortStable_ok {cmp : TV} (hc : CmpOk cmp) {D0 : List (List TV)} (h : BxF st b n cap D0) (hn : n ≤ 100000000) {K : St → Prop} (hk : ∀ st' W, W.Perm D0 → Srt lek W → BxF st' b n cap W → StX (· = b) st st' → K st') :
    CallT PR fn_slices_SortStableFunc___api_Field_api_Field_ [.ms 14 b 0 n cap, cmp] [] st K :=
  vc_slices_SortStableFunc___api_Field_api_Field_ _ cmp st K (need_intro rfl (stable_ok hc h hn rfl hk))
end
end Go.TVF
end

section
set_option linter.unusedVariables false
namespace Go.Proofs
open Go.Shelf
def Tryz.lays162_ren : Go.Shelf.Ren := ⟨fun | 162 => 284 | 232 => 314 | 227 => 214 | 234 => 315 | 236 => 316 | 228 => 282 | 271 => 330 | 151 => 283 | 120 => 333 | 197 => 167 | 152 => 313 | 260 => 260 | 137 => 138 | 119 => 327 | 224 => 328 | 225 => 329 | 217 => 241 | 266 => 300 | n => n, fun | 9 => 9 | 4 => 4 | 3 => 3 | 5 => 5 | 117 => 250 | 116 => 249 | 0 => 0 | 124 => 253 | 21 => 21 | 105 => 213 | 46 => 189 | 119 => 306 | 139 => 309 | 138 => 308 | n => n, fun | 3 => 0 | 4 => 1 | n => n⟩
theorem Tryz.lays162 : Go.Proofs.Lays.n162 Tryz.prog Tryz.lays162_ren := {
  mixed := by kernel_rfl
  f119 := Tryz.func327.trans (congrArg some (by kernel_rfl))
  f120 := Tryz.func333.trans (congrArg some (by kernel_rfl))
  f137 := Tryz.func138.trans (congrArg some (by kernel_rfl))
  f151 := Tryz.func283.trans (congrArg some (by kernel_rfl))
  f152 := Tryz.func313.trans (congrArg some (by kernel_rfl))
  f162 := Tryz.func284.trans (congrArg some (by kernel_rfl))
  f197 := Tryz.func167.trans (congrArg some (by kernel_rfl))
  f217 := Tryz.func241.trans (congrArg some (by kernel_rfl))
  f224 := Tryz.func328.trans (congrArg some (by kernel_rfl))
  f225 := Tryz.func329.trans (congrArg some (by kernel_rfl))
  f227 := Tryz.func214.trans (congrArg some (by kernel_rfl))
  f228 := Tryz.func282.trans (congrArg some (by kernel_rfl))
  f232 := Tryz.func314.trans (congrArg some (by kernel_rfl))
  f234 := Tryz.func315.trans (congrArg some (by kernel_rfl))
  f236 := Tryz.func316.trans (congrArg some (by kernel_rfl))
  f260 := Tryz.func260.trans (congrArg some (by kernel_rfl))
  f266 := Tryz.func300.trans (congrArg some (by kernel_rfl))
  f271 := Tryz.func330.trans (congrArg some (by kernel_rfl))
  t0 := Tryz.underlying0
  a0 := Tryz.isAgg0
  z0 := Tryz.sizeOf0
  v0 := Tryz.zeroValue0
  t3 := Tryz.underlying3
  a3 := Tryz.isAgg3
  z3 := Tryz.sizeOf3
  v3 := Tryz.zeroValue3
  t4 := Tryz.underlying4
  a4 := Tryz.isAgg4
  z4 := Tryz.sizeOf4
  v4 := Tryz.zeroValue4
  t5 := Tryz.underlying5
  a5 := Tryz.isAgg5
  z5 := Tryz.sizeOf5
  v5 := Tryz.zeroValue5
  t9 := Tryz.underlying9
  a9 := Tryz.isAgg9
  z9 := Tryz.sizeOf9
  v9 := Tryz.zeroValue9
  t21 := Tryz.underlying21
  a21 := Tryz.isAgg21
  z21 := Tryz.sizeOf21
  v21 := Tryz.zeroValue21
  t46 := Tryz.underlying189
  a46 := Tryz.isAgg189
  z46 := Tryz.sizeOf189
  v46 := Tryz.zeroValue189
  t105 := Tryz.underlying213
  a105 := Tryz.isAgg213
  z105 := Tryz.sizeOf213
  v105 := Tryz.zeroValue213
  t116 := Tryz.underlying249
  a116 := Tryz.isAgg249
  z116 := Tryz.sizeOf249
  t117 := Tryz.underlying250
  a117 := Tryz.isAgg250
  z117 := Tryz.sizeOf250
  v117 := Tryz.zeroValue250
  t119 := Tryz.underlying306
  a119 := Tryz.isAgg306
  z119 := Tryz.sizeOf306
  t124 := Tryz.underlying253
  a124 := Tryz.isAgg253
  z124 := Tryz.sizeOf253
  v124 := Tryz.zeroValue253
  t138 := Tryz.underlying308
  a138 := Tryz.isAgg308
  z138 := Tryz.sizeOf308
  v138 := Tryz.zeroValue308
  t139 := Tryz.underlying309
  a139 := Tryz.isAgg309
  z139 := Tryz.sizeOf309
  v139 := Tryz.zeroValue309
  g3 := by kernel_rfl
  g4 := by kernel_rfl }
open Go.RowKit in
theorem Tryz.strings_TrimRight_one (s : ByteArray) (c : UInt8) (hc : c.toNat < 128) (w : World) (hs : s.size ≤ 9223372036854775807) :
    Calls Tryz.prog 284 #[.string s, .string ⟨#[c]⟩] w fun e w' => e = .returned (.string ⟨(Lib.trimRightB s.data.toList c).toArray⟩) ∧ w' = w := Any.strings_TrimRight_one Tryz.lays162 s c hc w hs
def Tryz.lays106_ren : Go.Shelf.Ren := ⟨fun | 106 => 251 | 213 => 302 | 265 => 324 | n => n, fun | 9 => 9 | 3 => 3 | n => n, fun | n => n⟩
theorem Tryz.lays106 : Go.Proofs.Lays.n106 Tryz.prog Tryz.lays106_ren := {
  mixed := by kernel_rfl
  f106 := Tryz.func251.trans (congrArg some (by kernel_rfl))
  f213 := Tryz.func302.trans (congrArg some (by kernel_rfl))
  f265 := Tryz.func324.trans (congrArg some (by kernel_rfl))
  t3 := Tryz.underlying3
  a3 := Tryz.isAgg3
  z3 := Tryz.sizeOf3
  v3 := Tryz.zeroValue3
  t9 := Tryz.underlying9
  a9 := Tryz.isAgg9
  z9 := Tryz.sizeOf9
  v9 := Tryz.zeroValue9 }
open Go.RowKit in
theorem Tryz.strings_Compare (a b : ByteArray) (w : World) :
    Calls Tryz.prog 251 #[.string a, .string b] w fun e w' => e = .returned (.int .i64 (Lib.compareBytes a.data.toList b.data.toList)) ∧ w' = w := Any.strings_Compare Tryz.lays106 a b w
def Tryz.lays105_ren : Go.Shelf.Ren := ⟨fun | 105 => 132 | 212 => 234 | 99 => 113 | 165 => 235 | 166 => 236 | 170 => 237 | 169 => 154 | 263 => 294 | 264 => 295 | 206 => 211 | 240 => 296 | 241 => 297 | 276 => 320 | 277 => 321 | n => n, fun | 9 => 9 | 3 => 3 | 4 => 4 | 20 => 20 | 0 => 0 | 46 => 189 | 109 => 261 | 5 => 5 | 72 => 199 | 76 => 266 | 51 => 293 | 146 => 299 | 53 => 207 | 148 => 301 | 70 => 197 | 37 => 29 | 75 => 265 | 127 => 278 | 164 => 316 | 80 => 201 | n => n, fun | n => n⟩
theorem Tryz.lays105 : Go.Proofs.Lays.n105 Tryz.prog Tryz.lays105_ren := {
  mixed := by kernel_rfl
  f99 := Tryz.func113.trans (congrArg some (by kernel_rfl))
  f105 := Tryz.func132.trans (congrArg some (by kernel_rfl))
  f165 := Tryz.func235.trans (congrArg some (by kernel_rfl))
  f166 := Tryz.func236.trans (congrArg some (by kernel_rfl))
  f169 := Tryz.func154.trans (congrArg some (by kernel_rfl))
  f170 := Tryz.func237.trans (congrArg some (by kernel_rfl))
  f206 := Tryz.func211.trans (congrArg some (by kernel_rfl))
  f212 := Tryz.func234.trans (congrArg some (by kernel_rfl))
  f240 := Tryz.func296.trans (congrArg some (by kernel_rfl))
  f241 := Tryz.func297.trans (congrArg some (by kernel_rfl))
  f263 := Tryz.func294.trans (congrArg some (by kernel_rfl))
  f264 := Tryz.func295.trans (congrArg some (by kernel_rfl))
  f276 := Tryz.func320.trans (congrArg some (by kernel_rfl))
  f277 := Tryz.func321.trans (congrArg some (by kernel_rfl))
  t0 := Tryz.underlying0
  a0 := Tryz.isAgg0
  z0 := Tryz.sizeOf0
  v0 := Tryz.zeroValue0
  t3 := Tryz.underlying3
  a3 := Tryz.isAgg3
  z3 := Tryz.sizeOf3
  v3 := Tryz.zeroValue3
  t4 := Tryz.underlying4
  a4 := Tryz.isAgg4
  z4 := Tryz.sizeOf4
  v4 := Tryz.zeroValue4
  t5 := Tryz.underlying5
  a5 := Tryz.isAgg5
  z5 := Tryz.sizeOf5
  v5 := Tryz.zeroValue5
  t9 := Tryz.underlying9
  a9 := Tryz.isAgg9
  z9 := Tryz.sizeOf9
  v9 := Tryz.zeroValue9
  t20 := Tryz.underlying20
  a20 := Tryz.isAgg20
  z20 := Tryz.sizeOf20
  v20 := Tryz.zeroValue20
  t37 := Tryz.underlying29
  a37 := Tryz.isAgg29
  z37 := Tryz.sizeOf29
  v37 := Tryz.zeroValue29
  t46 := Tryz.underlying189
  a46 := Tryz.isAgg189
  z46 := Tryz.sizeOf189
  v46 := Tryz.zeroValue189
  t51 := Tryz.underlying293
  a51 := Tryz.isAgg293
  z51 := Tryz.sizeOf293
  v51 := Tryz.zeroValue293
  t53 := Tryz.underlying207
  a53 := Tryz.isAgg207
  z53 := Tryz.sizeOf207
  v53 := Tryz.zeroValue207
  t70 := Tryz.underlying197
  a70 := Tryz.isAgg197
  z70 := Tryz.sizeOf197
  v70 := Tryz.zeroValue197
  t72 := Tryz.underlying199
  a72 := Tryz.isAgg199
  z72 := Tryz.sizeOf199
  v72 := Tryz.zeroValue199
  t75 := Tryz.underlying265
  a75 := Tryz.isAgg265
  z75 := Tryz.sizeOf265
  v75 := Tryz.zeroValue265
  t76 := Tryz.underlying266
  a76 := Tryz.isAgg266
  z76 := Tryz.sizeOf266
  v76 := Tryz.zeroValue266
  t109 := Tryz.underlying261
  a109 := Tryz.isAgg261
  z109 := Tryz.sizeOf261
  v109 := Tryz.zeroValue261
  t127 := Tryz.underlying278
  a127 := Tryz.isAgg278
  z127 := Tryz.sizeOf278
  v127 := Tryz.zeroValue278
  t146 := Tryz.underlying299
  a146 := Tryz.isAgg299
  z146 := Tryz.sizeOf299
  v146 := Tryz.zeroValue299
  t148 := Tryz.underlying301
  a148 := Tryz.isAgg301
  z148 := Tryz.sizeOf301
  v148 := Tryz.zeroValue301
  t164 := Tryz.underlying316
  a164 := Tryz.isAgg316
  z164 := Tryz.sizeOf316
  v164 := Tryz.zeroValue316 }
theorem Tryz.Builder_Extra_105 : Builder.Extra Tryz.prog Tryz.lays105_ren := {
  sizeBuilder := by kernel_rfl
  liesBuilder := by kernel_rfl
  t5 := Tryz.underlying5
  a5 := Tryz.isAgg5
  z5 := Tryz.sizeOf5
  v5 := Tryz.zeroValue5
  infoByte := by kernel_rfl
  cellsByte := by kernel_rfl
  sizeByte := by kernel_rfl
  neB5 := by decide }
open Go.RowKit Go.Lib in
theorem Tryz.strings_Repeat (s : ByteArray) (c : Nat) (w : World) (hc : c ≤ 9223372036854775807) (hlen : s.size * c ≤ 140737488355328) :
    Calls Tryz.prog 132 #[.string s, .int .i64 c] w fun e w' => e = .returned (.string ⟨(Lib.repeatL s.data.toList c).toArray⟩) ∧ Below w.heap.size w w' := Any.strings_Repeat Tryz.lays105 Tryz.Builder_Extra_105 s c w hc hlen
end Go.Proofs
end

section
set_option linter.unusedVariables false
namespace Go.TVF
open Go Go.Proofs
theorem rel_str_inv {g : Ghost} {w : World} {l : List UInt8} {v : Value} (h : Rel g w (.str l) v) : v = .string ⟨l.toArray⟩ := by cases h; rfl
theorem rel_int_inv {g : Ghost} {w : World} {k : IntKind} {n : Int} {v : Value} (h : Rel g w (.int k n) v) : v = .int k n := by cases h; rfl
theorem relL_one {g : Ghost} {w : World} {x : TV} {vs : List Value} (h : RelL g w [x] vs) : ∃ v, vs = [v] ∧ Rel g w x v := by
  obtain ⟨v, h1, h2⟩ := h.get? (i := 0) rfl
  have := h.1
  cases vs with
  | nil => simp at this
  | cons a r => cases r with
    | nil => simp at h1; subst h1; exact ⟨_, rfl, h2⟩
    | cons b r => simp at this
theorem relL_two {g : Ghost} {w : World} {x y : TV} {vs : List Value} (h : RelL g w [x, y] vs) : ∃ v u, vs = [v, u] ∧ Rel g w x v ∧ Rel g w y u := by
  obtain ⟨v, h1, h2⟩ := h.get? (i := 0) rfl
  obtain ⟨u, h3, h4⟩ := h.get? (i := 1) rfl
  have := h.1
  cases vs with
  | nil => simp at this
  | cons a r => cases r with
    | nil => simp at this
    | cons b r => cases r with
      | nil => simp at h1 h3; subst h1 h3; exact ⟨_, _, rfl, h2, h4⟩
      | cons c r => simp at this
theorem compare_less : ∀ a b : List UInt8, Lib.compareBytes a b < 0 ↔ Op.bytesLess a b = true
  | [], [] => by simp [Lib.compareBytes, Op.bytesLess]
  | [], _ :: _ => by simp [Lib.compareBytes, Op.bytesLess]
  | _ :: _, [] => by simp [Lib.compareBytes, Op.bytesLess]
  | a :: x, b :: y => by
    unfold Lib.compareBytes Op.bytesLess
    by_cases h1 : a < b
    · simp [h1]
    · by_cases h2 : b < a
      · have hne : a ≠ b := fun e => by subst e; exact UInt8.lt_irrefl _ h2
        simp [h1, h2, hne]
      · have he : a = b := UInt8.le_antisymm (UInt8.not_lt.1 h2) (UInt8.not_lt.1 h1)
        subst he
        simp [h1, compare_less x y]
theorem compare_ok {a b : List UInt8} {st : St} {K : Int → St → Prop} (hk : K (Lib.compareBytes a b) st) : CallT PR fn_strings_Compare [.str a, .str b] [.one (.int .i64)] st K := by
  refine tcalls_enter (fun _ _ => by kernel_rfl) fun g w vargs s hr => ?_
  obtain ⟨v, u, rfl, hv, hu⟩ := relL_two hr
  rw [rel_str_inv hv, rel_str_inv hu]
  refine Calls.mono (Tryz.strings_Compare ⟨a.toArray⟩ ⟨b.toArray⟩ w) ?_
  rintro e w' ⟨rfl, rfl⟩
  exact ⟨_, rfl, .int .i64 _, st, g, hk, s, Rel.int _ _, Ext.refl _ _⟩
theorem sorted1_cmp : CmpOk (.func fn_value_sorted_1 []) := by
  intro c d st K hc hd hk
  obtain ⟨kx, n1, b1, b2, s2, n2, n3, n4, n5, n6, s3, u1, u2, u3, rfl, _⟩ := hc
  obtain ⟨ky, m1, c1, c2, t2, m2, m3, m4, m5, m6, t3, v1, v2, v3, rfl, _⟩ := hd
  exact vc_value_sorted_1 _ _ _ _ _ _ _ _ _ _ _ _ _ _ _ _ _ _ _ _ _ _ _ _ _ _ _ _ st K (compare_ok (hk _ st (StExt.refl _) (compare_less _ _)))
end Go.TVF
end
