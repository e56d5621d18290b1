/- What the laws below rest on: a framework for Go programs, and contracts of the functions that they reach. -/
import Derived.Test.YtbbjecpcjdmfgaaGreatDoorSbC
import Derived.Lib.DecodeN
set_option maxRecDepth 20000
set_option linter.unusedVariables false
set_option linter.unusedSimpArgs false
namespace Go.TVF
open Go.IntKind(i64 u8)
open Go Go.Proofs
theorem KG (v_0:Int) (v_1:Bool) (v_2:Bool) (v_3:B8) (v_4:Int) (v_5:Int) (v_6:Int) (v_7:Int) (v_8:Int) (v_9:B8) (v_10:TV) (v_11:TV) (v_12:TV) (st:St) (K:Bool->St->Prop) (h:BId (v_0≠1) (BIf v_1 (K true st) (BId (v_0≠2) (BIf (!((v_2==false)&&(decide (v_3=([]:B8))&&(decide (v_4=(0:Int))&&true)))) (K true st) (BId (v_0≠3) (BIf (!(decide (v_5=(0:Int))&&(decide (v_6=(0:Int))&&(decide (v_7=(0:Int))&&(decide (v_8=(0:Int))&&true))))) (K true st) (BId (v_0≠4) (BId (v_9≠([]:B8)) (K true st) (BId (v_0≠5) (need (isSl v_10) (BId ((0:Int)<(lenS v_10:Int)) (K true st) (BId (v_0≠6) (need (isSl v_11) (BId ((0:Int)<(lenS v_11:Int)) (K true st) (BId (v_0≠7) (need (isSl v_12) (K ((decide ((0:Int)<(lenS v_12:Int)))) st)) (K false st)))) (BId (v_0≠7) (need (isSl v_12) (K ((decide ((0:Int)<(lenS v_12:Int)))) st)) (K false st))))) (BId (v_0≠6) (need (isSl v_11) (BId ((0:Int)<(lenS v_11:Int)) (K true st) (BId (v_0≠7) (need (isSl v_12) (K ((decide ((0:Int)<(lenS v_12:Int)))) st)) (K false st)))) (BId (v_0≠7) (need (isSl v_12) (K ((decide ((0:Int)<(lenS v_12:Int)))) st)) (K false st))))) (BId (v_0≠5) (need (isSl v_10) (BId ((0:Int)<(lenS v_10:Int)) (K true st) (BId (v_0≠6) (need (isSl v_11) (BId ((0:Int)<(lenS v_11:Int)) (K true st) (BId (v_0≠7) (need (isSl v_12) (K ((decide ((0:Int)<(lenS v_12:Int)))) st)) (K false st)))) (BId (v_0≠7) (need (isSl v_12) (K ((decide ((0:Int)<(lenS v_12:Int)))) st)) (K false st))))) (BId (v_0≠6) (need (isSl v_11) (BId ((0:Int)<(lenS v_11:Int)) (K true st) (BId (v_0≠7) (need (isSl v_12) (K ((decide ((0:Int)<(lenS v_12:Int)))) st)) (K false st)))) (BId (v_0≠7) (need (isSl v_12) (K ((decide ((0:Int)<(lenS v_12:Int)))) st)) (K false st)))))) (BId (v_0≠4) (BId (v_9≠([]:B8)) (K true st) (BId (v_0≠5) (need (isSl v_10) (BId ((0:Int)<(lenS v_10:Int)) (K true st) (BId (v_0≠6) (need (isSl v_11) (BId ((0:Int)<(lenS v_11:Int)) (K true st) (BId (v_0≠7) (need (isSl v_12) (K ((decide ((0:Int)<(lenS v_12:Int)))) st)) (K false st)))) (BId (v_0≠7) (need (isSl v_12) (K ((decide ((0:Int)<(lenS v_12:Int)))) st)) (K false st))))) (BId (v_0≠6) (need (isSl v_11) (BId ((0:Int)<(lenS v_11:Int)) (K true st) (BId (v_0≠7) (need (isSl v_12) (K ((decide ((0:Int)<(lenS v_12:Int)))) st)) (K false st)))) (BId (v_0≠7) (need (isSl v_12) (K ((decide ((0:Int)<(lenS v_12:Int)))) st)) (K false st))))) (BId (v_0≠5) (need (isSl v_10) (BId ((0:Int)<(lenS v_10:Int)) (K true st) (BId (v_0≠6) (need (isSl v_11) (BId ((0:Int)<(lenS v_11:Int)) (K true st) (BId (v_0≠7) (need (isSl v_12) (K ((decide ((0:Int)<(lenS v_12:Int)))) st)) (K false st)))) (BId (v_0≠7) (need (isSl v_12) (K ((decide ((0:Int)<(lenS v_12:Int)))) st)) (K false st))))) (BId (v_0≠6) (need (isSl v_11) (BId ((0:Int)<(lenS v_11:Int)) (K true st) (BId (v_0≠7) (need (isSl v_12) (K ((decide ((0:Int)<(lenS v_12:Int)))) st)) (K false st)))) (BId (v_0≠7) (need (isSl v_12) (K ((decide ((0:Int)<(lenS v_12:Int)))) st)) (K false st))))))) (BId (v_0≠3) (BIf (!(decide (v_5=(0:Int))&&(decide (v_6=(0:Int))&&(decide (v_7=(0:Int))&&(decide (v_8=(0:Int))&&true))))) (K true st) (BId (v_0≠4) (BId (v_9≠([]:B8)) (K true st) (BId (v_0≠5) (need (isSl v_10) (BId ((0:Int)<(lenS v_10:Int)) (K true st) (BId (v_0≠6) (need (isSl v_11) (BId ((0:Int)<(lenS v_11:Int)) (K true st) (BId (v_0≠7) (need (isSl v_12) (K ((decide ((0:Int)<(lenS v_12:Int)))) st)) (K false st)))) (BId (v_0≠7) (need (isSl v_12) (K ((decide ((0:Int)<(lenS v_12:Int)))) st)) (K false st))))) (BId (v_0≠6) (need (isSl v_11) (BId ((0:Int)<(lenS v_11:Int)) (K true st) (BId (v_0≠7) (need (isSl v_12) (K ((decide ((0:Int)<(lenS v_12:Int)))) st)) (K false st)))) (BId (v_0≠7) (need (isSl v_12) (K ((decide ((0:Int)<(lenS v_12:Int)))) st)) (K false st))))) (BId (v_0≠5) (need (isSl v_10) (BId ((0:Int)<(lenS v_10:Int)) (K true st) (BId (v_0≠6) (need (isSl v_11) (BId ((0:Int)<(lenS v_11:Int)) (K true st) (BId (v_0≠7) (need (isSl v_12) (K ((decide ((0:Int)<(lenS v_12:Int)))) st)) (K false st)))) (BId (v_0≠7) (need (isSl v_12) (K ((decide ((0:Int)<(lenS v_12:Int)))) st)) (K false st))))) (BId (v_0≠6) (need (isSl v_11) (BId ((0:Int)<(lenS v_11:Int)) (K true st) (BId (v_0≠7) (need (isSl v_12) (K ((decide ((0:Int)<(lenS v_12:Int)))) st)) (K false st)))) (BId (v_0≠7) (need (isSl v_12) (K ((decide ((0:Int)<(lenS v_12:Int)))) st)) (K false st)))))) (BId (v_0≠4) (BId (v_9≠([]:B8)) (K true st) (BId (v_0≠5) (need (isSl v_10) (BId ((0:Int)<(lenS v_10:Int)) (K true st) (BId (v_0≠6) (need (isSl v_11) (BId ((0:Int)<(lenS v_11:Int)) (K true st) (BId (v_0≠7) (need (isSl v_12) (K ((decide ((0:Int)<(lenS v_12:Int)))) st)) (K false st)))) (BId (v_0≠7) (need (isSl v_12) (K ((decide ((0:Int)<(lenS v_12:Int)))) st)) (K false st))))) (BId (v_0≠6) (need (isSl v_11) (BId ((0:Int)<(lenS v_11:Int)) (K true st) (BId (v_0≠7) (need (isSl v_12) (K ((decide ((0:Int)<(lenS v_12:Int)))) st)) (K false st)))) (BId (v_0≠7) (need (isSl v_12) (K ((decide ((0:Int)<(lenS v_12:Int)))) st)) (K false st))))) (BId (v_0≠5) (need (isSl v_10) (BId ((0:Int)<(lenS v_10:Int)) (K true st) (BId (v_0≠6) (need (isSl v_11) (BId ((0:Int)<(lenS v_11:Int)) (K true st) (BId (v_0≠7) (need (isSl v_12) (K ((decide ((0:Int)<(lenS v_12:Int)))) st)) (K false st)))) (BId (v_0≠7) (need (isSl v_12) (K ((decide ((0:Int)<(lenS v_12:Int)))) st)) (K false st))))) (BId (v_0≠6) (need (isSl v_11) (BId ((0:Int)<(lenS v_11:Int)) (K true st) (BId (v_0≠7) (need (isSl v_12) (K ((decide ((0:Int)<(lenS v_12:Int)))) st)) (K false st)))) (BId (v_0≠7) (need (isSl v_12) (K ((decide ((0:Int)<(lenS v_12:Int)))) st)) (K false st)))))))) (BId (v_0≠2) (BIf (!((v_2==false)&&(decide (v_3=([]:B8))&&(decide (v_4=(0:Int))&&true)))) (K true st) (BId (v_0≠3) (BIf (!(decide (v_5=(0:Int))&&(decide (v_6=(0:Int))&&(decide (v_7=(0:Int))&&(decide (v_8=(0:Int))&&true))))) (K true st) (BId (v_0≠4) (BId (v_9≠([]:B8)) (K true st) (BId (v_0≠5) (need (isSl v_10) (BId ((0:Int)<(lenS v_10:Int)) (K true st) (BId (v_0≠6) (need (isSl v_11) (BId ((0:Int)<(lenS v_11:Int)) (K true st) (BId (v_0≠7) (need (isSl v_12) (K ((decide ((0:Int)<(lenS v_12:Int)))) st)) (K false st)))) (BId (v_0≠7) (need (isSl v_12) (K ((decide ((0:Int)<(lenS v_12:Int)))) st)) (K false st))))) (BId (v_0≠6) (need (isSl v_11) (BId ((0:Int)<(lenS v_11:Int)) (K true st) (BId (v_0≠7) (need (isSl v_12) (K ((decide ((0:Int)<(lenS v_12:Int)))) st)) (K false st)))) (BId (v_0≠7) (need (isSl v_12) (K ((decide ((0:Int)<(lenS v_12:Int)))) st)) (K false st))))) (BId (v_0≠5) (need (isSl v_10) (BId ((0:Int)<(lenS v_10:Int)) (K true st) (BId (v_0≠6) (need (isSl v_11) (BId ((0:Int)<(lenS v_11:Int)) (K true st) (BId (v_0≠7) (need (isSl v_12) (K ((decide ((0:Int)<(lenS v_12:Int)))) st)) (K false st)))) (BId (v_0≠7) (need (isSl v_12) (K ((decide ((0:Int)<(lenS v_12:Int)))) st)) (K false st))))) (BId (v_0≠6) (need (isSl v_11) (BId ((0:Int)<(lenS v_11:Int)) (K true st) (BId (v_0≠7) (need (isSl v_12) (K ((decide ((0:Int)<(lenS v_12:Int)))) st)) (K false st)))) (BId (v_0≠7) (need (isSl v_12) (K ((decide ((0:Int)<(lenS v_12:Int)))) st)) (K false st)))))) (BId (v_0≠4) (BId (v_9≠([]:B8)) (K true st) (BId (v_0≠5) (need (isSl v_10) (BId ((0:Int)<(lenS v_10:Int)) (K true st) (BId (v_0≠6) (need (isSl v_11) (BId ((0:Int)<(lenS v_11:Int)) (K true st) (BId (v_0≠7) (need (isSl v_12) (K ((decide ((0:Int)<(lenS v_12:Int)))) st)) (K false st)))) (BId (v_0≠7) (need (isSl v_12) (K ((decide ((0:Int)<(lenS v_12:Int)))) st)) (K false st))))) (BId (v_0≠6) (need (isSl v_11) (BId ((0:Int)<(lenS v_11:Int)) (K true st) (BId (v_0≠7) (need (isSl v_12) (K ((decide ((0:Int)<(lenS v_12:Int)))) st)) (K false st)))) (BId (v_0≠7) (need (isSl v_12) (K ((decide ((0:Int)<(lenS v_12:Int)))) st)) (K false st))))) (BId (v_0≠5) (need (isSl v_10) (BId ((0:Int)<(lenS v_10:Int)) (K true st) (BId (v_0≠6) (need (isSl v_11) (BId ((0:Int)<(lenS v_11:Int)) (K true st) (BId (v_0≠7) (need (isSl v_12) (K ((decide ((0:Int)<(lenS v_12:Int)))) st)) (K false st)))) (BId (v_0≠7) (need (isSl v_12) (K ((decide ((0:Int)<(lenS v_12:Int)))) st)) (K false st))))) (BId (v_0≠6) (need (isSl v_11) (BId ((0:Int)<(lenS v_11:Int)) (K true st) (BId (v_0≠7) (need (isSl v_12) (K ((decide ((0:Int)<(lenS v_12:Int)))) st)) (K false st)))) (BId (v_0≠7) (need (isSl v_12) (K ((decide ((0:Int)<(lenS v_12:Int)))) st)) (K false st))))))) (BId (v_0≠3) (BIf (!(decide (v_5=(0:Int))&&(decide (v_6=(0:Int))&&(decide (v_7=(0:Int))&&(decide (v_8=(0:Int))&&true))))) (K true st) (BId (v_0≠4) (BId (v_9≠([]:B8)) (K true st) (BId (v_0≠5) (need (isSl v_10) (BId ((0:Int)<(lenS v_10:Int)) (K true st) (BId (v_0≠6) (need (isSl v_11) (BId ((0:Int)<(lenS v_11:Int)) (K true st) (BId (v_0≠7) (need (isSl v_12) (K ((decide ((0:Int)<(lenS v_12:Int)))) st)) (K false st)))) (BId (v_0≠7) (need (isSl v_12) (K ((decide ((0:Int)<(lenS v_12:Int)))) st)) (K false st))))) (BId (v_0≠6) (need (isSl v_11) (BId ((0:Int)<(lenS v_11:Int)) (K true st) (BId (v_0≠7) (need (isSl v_12) (K ((decide ((0:Int)<(lenS v_12:Int)))) st)) (K false st)))) (BId (v_0≠7) (need (isSl v_12) (K ((decide ((0:Int)<(lenS v_12:Int)))) st)) (K false st))))) (BId (v_0≠5) (need (isSl v_10) (BId ((0:Int)<(lenS v_10:Int)) (K true st) (BId (v_0≠6) (need (isSl v_11) (BId ((0:Int)<(lenS v_11:Int)) (K true st) (BId (v_0≠7) (need (isSl v_12) (K ((decide ((0:Int)<(lenS v_12:Int)))) st)) (K false st)))) (BId (v_0≠7) (need (isSl v_12) (K ((decide ((0:Int)<(lenS v_12:Int)))) st)) (K false st))))) (BId (v_0≠6) (need (isSl v_11) (BId ((0:Int)<(lenS v_11:Int)) (K true st) (BId (v_0≠7) (need (isSl v_12) (K ((decide ((0:Int)<(lenS v_12:Int)))) st)) (K false st)))) (BId (v_0≠7) (need (isSl v_12) (K ((decide ((0:Int)<(lenS v_12:Int)))) st)) (K false st)))))) (BId (v_0≠4) (BId (v_9≠([]:B8)) (K true st) (BId (v_0≠5) (need (isSl v_10) (BId ((0:Int)<(lenS v_10:Int)) (K true st) (BId (v_0≠6) (need (isSl v_11) (BId ((0:Int)<(lenS v_11:Int)) (K true st) (BId (v_0≠7) (need (isSl v_12) (K ((decide ((0:Int)<(lenS v_12:Int)))) st)) (K false st)))) (BId (v_0≠7) (need (isSl v_12) (K ((decide ((0:Int)<(lenS v_12:Int)))) st)) (K false st))))) (BId (v_0≠6) (need (isSl v_11) (BId ((0:Int)<(lenS v_11:Int)) (K true st) (BId (v_0≠7) (need (isSl v_12) (K ((decide ((0:Int)<(lenS v_12:Int)))) st)) (K false st)))) (BId (v_0≠7) (need (isSl v_12) (K ((decide ((0:Int)<(lenS v_12:Int)))) st)) (K false st))))) (BId (v_0≠5) (need (isSl v_10) (BId ((0:Int)<(lenS v_10:Int)) (K true st) (BId (v_0≠6) (need (isSl v_11) (BId ((0:Int)<(lenS v_11:Int)) (K true st) (BId (v_0≠7) (need (isSl v_12) (K ((decide ((0:Int)<(lenS v_12:Int)))) st)) (K false st)))) (BId (v_0≠7) (need (isSl v_12) (K ((decide ((0:Int)<(lenS v_12:Int)))) st)) (K false st))))) (BId (v_0≠6) (need (isSl v_11) (BId ((0:Int)<(lenS v_11:Int)) (K true st) (BId (v_0≠7) (need (isSl v_12) (K ((decide ((0:Int)<(lenS v_12:Int)))) st)) (K false st)))) (BId (v_0≠7) (need (isSl v_12) (K ((decide ((0:Int)<(lenS v_12:Int)))) st)) (K false st)))))))):CallT PR EW [(.agg (cV v_0 v_1 v_2 v_3 v_4 v_5 v_6 v_7 v_8 v_9 v_10 v_11 v_12))] [.one .bool] st K:=
 Ae (cfg:=⟨[1],[],[]⟩) (h:= .none) mixed (fun _ _=>Tryz.call88 _ _) Tryz.func88 (by kernel_rfl) (by kernel_rfl) h
theorem Jv (d_0:Bool) (d_1:B8) (d_2:Int) (st:St) (K:Bool->St->Prop) (h:BId (d_1=([]:B8)) (K (((d_0==false)&&(decide (d_1=([]:B8))&&(decide (d_2=(0:Int))&&true)))) st) (CallT PR El [.str d_1] [.one .bool] st (fun (b1:Bool) a=>BIf b1 (BId ((d_1.length:Int)<=(120:Int)) (CallT PR Ek [.str d_1] [.one (.int .i64)] a (fun (n1:Int) b=>BId (n1=0) (BId ((-400:Int)<=d_2) (K ((decide (d_2<=400))) b) (K false b)) (K false b))) (K false a)) (K false a)))):CallT PR D2 [(.agg [.bool d_0,.str d_1,.int .i64 d_2])] [.one .bool] st K:=
 Ae (cfg:=⟨[1],[],[]⟩) (h:= .none) mixed (fun _ _=>Tryz.call89 _ _) Tryz.func89 (by kernel_rfl) (by kernel_rfl) h
theorem Kk (t_0:Int) (t_1:Int) (t_2:Int) (t_3:Int) (st:St) (K:Bool->St->Prop) (h:BId (t_0<1) (K false st) (BId ((4:Int)<t_0) (K false st) (BId (t_1<0) (K false st) (BId ((3652058:Int)<t_1) (K false st) (BId (t_2<0) (K false st) (BId ((86399999999999:Int)<t_2) (K false st) (BId (t_3<(-1439:Int)) (K false st) (BId ((1439:Int)<t_3) (K false st) (BId (t_0=2) (BId (t_1=0) (K ((decide (t_3=0))) st) (K false st)) (BId (t_0=1) (BId (t_2=0) (K ((decide (t_3=0))) st) (K false st)) (BId (t_0=3) (K ((decide (t_3=0))) st) (K true st)))))))))))):CallT PR Do [(.agg [.int .i64 t_0,.int .i64 t_1,.int .i64 t_2,.int .i64 t_3])] [.one .bool] st K:=
 Ae (cfg:=⟨[1],[],[]⟩) (h:= .none) mixed (fun _ _=>Tryz.call90 _ _) Tryz.func90 (by kernel_rfl) (by kernel_rfl) h
theorem LR (l:TV) (st:St) (K:Int->St->Prop) (h:need (isSl l) (∃(I1:Int->TV->TV->Int->St->Prop) (M1:Int->TV->TV->Int->St->Nat),(I1 0 ((.map st.nb)) l ((lenS l:Int)) (st.push (.map []) none))/\∀b a c d e,I1 b a c d e->(BId (b<d) (((0<=b/\b<(lenZ 14 c:Int))/\Ai ((Al e [] (.t (ixT 14 c b.toNat)) 0 14).map TV.agg) (fun (x1:TV)=>Cd [.str,.int .i64,.bool,.bool,.str,.int .i64,.int .i64,.int .i64,.int .i64,.int .i64,.str,.tv,.tv,.tv] x1 (fun (s1:B8) (n1:Int) (b1 b2:Bool) (s2:B8) (n2 n3 n4 n5 n6:Int) (s3:B8) (v1 v2 v3:TV)=>need (List.all [.str s1,.int .i64 n1,.bool b1,.bool b2,.str s2,.int .i64 n2,.int .i64 n3,.int .i64 n4,.int .i64 n5,.int .i64 n6,.str s3,v1,v2,v3] Aq) (CallT PR GC [.str s1] [.one (.int .i64)] e (fun (n7:Int) f=>BId (n7≠0) (K n7 f) (Ai (Et f a) (fun (es1:List (B8×TV))=>AS .bool (At (.bool false) (Aw s1 es1)) (fun (b3:Bool)=>BIf b3 (K 8 f) (muK a s1 (.bool true) f (fun g=>(I1 ((i64.wrap (b+(1:Int)))) a c d g/\M1 ((i64.wrap (b+(1:Int)))) a c d g<M1 b a c d e)))))))))))) (K 0 e)))):CallT PR FF [l] [.one (.int .i64)] st K:=
 Ae (cfg:=⟨[5],[],[]⟩) (h:=(.seq .none (.seq .none (.seq (.seq .none (.block (.loop ⟨[(10,.int .i64),(3,.tv),(8,.tv),(9,.int .i64)],[],[],[]⟩ .none))) .none)))) mixed (fun _ _=>Tryz.call91 _ _) Tryz.func91 (by kernel_rfl) (by kernel_rfl) h
theorem IH (x_0:Int) (x_1:Bool) (x_2:Bool) (x_3:B8) (x_4:Int) (x_5:Int) (x_6:Int) (x_7:Int) (x_8:Int) (x_9:B8) (x_10:TV) (x_11:TV) (x_12:TV) (st:St) (K:Bool->St->Prop) (h:K ((decide (x_0≠7))) st):CallT PR Fp [(.agg (cV x_0 x_1 x_2 x_3 x_4 x_5 x_6 x_7 x_8 x_9 x_10 x_11 x_12))] [.one .bool] st K:=
 Ae (cfg:=⟨[1],[],[]⟩) (h:= .none) mixed (fun _ _=>Tryz.call92 _ _) Tryz.func92 (by kernel_rfl) (by kernel_rfl) h
theorem HQ (v_0:Int) (v_1:Bool) (v_2:Bool) (v_3:B8) (v_4:Int) (v_5:Int) (v_6:Int) (v_7:Int) (v_8:Int) (v_9:B8) (v_10:TV) (v_11:TV) (v_12:TV) (st:St) (K:Int->St->Prop) (h:CallT PR Db [(.agg (cV v_0 v_1 v_2 v_3 v_4 v_5 v_6 v_7 v_8 v_9 v_10 v_11 v_12))] [.one .bool] st (fun (b1:Bool) d=>BIf (!b1) (K 6 d) (CallT PR CE [(.agg [.bool v_2,.str v_3,.int .i64 v_4])] [.one .bool] d (fun (b2:Bool) c=>BIf (!b2) (K 2 c) (BId (v_0=3) (CallT PR CD [(.agg [.int .i64 v_5,.int .i64 v_6,.int .i64 v_7,.int .i64 v_8])] [.one .bool] c (fun (b3:Bool) e=>BIf (!b3) (K 2 e) (CallT PR A1 [.str v_9] [.one .bool] e (fun (b4:Bool) b=>BIf (!b4) (K 5 b) (BId ((65536:Int)<(v_9.length:Int)) (K 10 b) (need (isSl v_10) (BId ((65536:Int)<(lenS v_10:Int)) (K 10 b) (CallT PR Bo [v_12] [.one (.int .i64)] b (fun (n1:Int) f=>K n1 f))))))))) (CallT PR A1 [.str v_9] [.one .bool] c (fun (b5:Bool) a=>BIf (!b5) (K 5 a) (BId ((65536:Int)<(v_9.length:Int)) (K 10 a) (need (isSl v_10) (BId ((65536:Int)<(lenS v_10:Int)) (K 10 a) (CallT PR Bo [v_12] [.one (.int .i64)] a (fun (n2:Int) g=>K n2 g)))))))))))):CallT PR Dc [(.agg (cV v_0 v_1 v_2 v_3 v_4 v_5 v_6 v_7 v_8 v_9 v_10 v_11 v_12))] [.one (.int .i64)] st K:=
 Ae (cfg:=⟨[1],[],[]⟩) (h:= .none) mixed (fun _ _=>Tryz.call93 _ _) Tryz.func93 (by kernel_rfl) (by kernel_rfl) h
theorem Cm (s:TV) (f:TV) (st:St) (K:Int->St->Prop) (h:need (isSl s) (∃(I1:Int->TV->TV->Int->St->Prop) (M1:Int->TV->TV->Int->St->Nat),(I1 0 s f ((lenS s:Int)) st)/\∀a b c d e,I1 a b c d e->(BId (a<d) (((0<=a/\a<(lenZ 13 b:Int))/\Ai ((Al e [] (.t (ixT 13 b a.toNat)) 0 13).map TV.agg) (fun (x1:TV)=>Cd [.int .i64,.bool,.bool,.str,.int .i64,.int .i64,.int .i64,.int .i64,.int .i64,.str,.tv,.tv,.tv] x1 (fun (n1:Int) (b1 b2:Bool) (s1:B8) (n2 n3 n4 n5 n6:Int) (s2:B8) (v1 v2 v3:TV)=>MV PR c [(.agg (cV n1 b1 b2 s1 n2 n3 n4 n5 n6 s2 v1 v2 v3))] [.one .bool] e (fun (b3:Bool) g=>BIf b3 (K a g) ((I1 ((i64.wrap (a+(1:Int)))) b c d g/\M1 ((i64.wrap (a+(1:Int)))) b c d g<M1 a b c d e))))))) (K (-1) e)))):CallT PR Ba [s,f] [.one (.int .i64)] st K:=
 Ae (cfg:=⟨[],[],[]⟩) (h:=(.seq .none (.seq (.seq .none (.block (.loop ⟨[(8,.int .i64),(0,.tv),(1,.tv),(7,.int .i64)],[],[],[]⟩ .none))) .none))) mixed (fun _ _=>Tryz.call94 _ _) Tryz.func94 (by kernel_rfl) (by kernel_rfl) h
theorem Cn (s:TV) (f:TV) (st:St) (K:Int->St->Prop) (h:need (isSl s) (∃(I1:Int->TV->TV->Int->St->Prop) (M1:Int->TV->TV->Int->St->Nat),(I1 0 s f ((lenS s:Int)) st)/\∀a b c d e,I1 a b c d e->(BId (a<d) (((0<=a/\a<(lenZ 14 b:Int))/\Ai ((Al e [] (.t (ixT 14 b a.toNat)) 0 14).map TV.agg) (fun (x1:TV)=>Cd [.str,.int .i64,.bool,.bool,.str,.int .i64,.int .i64,.int .i64,.int .i64,.int .i64,.str,.tv,.tv,.tv] x1 (fun (s1:B8) (n1:Int) (b1 b2:Bool) (s2:B8) (n2 n3 n4 n5 n6:Int) (s3:B8) (v1 v2 v3:TV)=>MV PR c [(.agg [.str s1,.int .i64 n1,.bool b1,.bool b2,.str s2,.int .i64 n2,.int .i64 n3,.int .i64 n4,.int .i64 n5,.int .i64 n6,.str s3,v1,v2,v3])] [.one .bool] e (fun (b3:Bool) g=>BIf b3 (K a g) ((I1 ((i64.wrap (a+(1:Int)))) b c d g/\M1 ((i64.wrap (a+(1:Int)))) b c d g<M1 a b c d e))))))) (K (-1) e)))):CallT PR Bb [s,f] [.one (.int .i64)] st K:=
 Ae (cfg:=⟨[],[],[]⟩) (h:=(.seq .none (.seq (.seq .none (.block (.loop ⟨[(8,.int .i64),(0,.tv),(1,.tv),(7,.int .i64)],[],[],[]⟩ .none))) .none))) mixed (fun _ _=>Tryz.call95 _ _) Tryz.func95 (by kernel_rfl) (by kernel_rfl) h
theorem Pv (s:B8) (st:St) (K:Int->Int->St->Prop) (h:∃(I1:Int->Int->B8->St->Prop) (M1:Int->Int->B8->St->Nat),(I1 0 0 s st)/\∀c a b d,I1 c a b d->(BId (a<(b.length:Int)) (CallT PR FI [.str b,.int .i64 a] [.one (.int .i64),.one (.int .i64)] d (fun (n1 n2:Int) e=>BId (n2=0) (K 0 5 e) ((I1 ((i64.wrap (c+(1:Int)))) ((i64.wrap (a+n2))) b e/\M1 ((i64.wrap (c+(1:Int)))) ((i64.wrap (a+n2))) b e<M1 c a b d)))) (K c 0 d))):CallT PR Ix [.str s] [.one (.int .i64),.one (.int .i64)] st K:=
 Ae (cfg:=⟨[],[],[]⟩) (h:=(.seq .none (.seq .none (.seq (.seq .none (.block (.loop ⟨[(4,.int .i64),(5,.int .i64),(0,.str)],[],[],[]⟩ .none))) .none)))) mixed (fun _ _=>Tryz.call96 _ _) Tryz.func96 (by kernel_rfl) (by kernel_rfl) h
theorem ER (s:B8) (st:St) (K:TV->Bool->St->Prop) (h:∃(I1:TV->Int->B8->St->Prop) (M1:TV->Int->B8->St->Nat),(I1 ((.list 1 .full 1 [.int .i64 0])) 0 s st)/\∀c a b d,I1 c a b d->(BId (a<(b.length:Int)) (CallT PR BD [.str b,.int .i64 a] [.one (.int .i64),.one (.int .i64)] d (fun (n1 n2:Int) e=>BId (n2=0) (K c false e) (Bl 3 1 8 c 1 [(.int .i64 (i64.wrap (a+n2)))] e (fun (v1:TV) f=>(I1 v1 ((i64.wrap (a+n2))) b f/\M1 v1 ((i64.wrap (a+n2))) b f<M1 c a b d))))) (K c true d))):CallT PR BN [.str s] [.one .tv,.one .bool] st K:=
 Ae (cfg:=⟨[],[],[]⟩) (h:=(.seq .none (.seq .none (.seq .none (.seq (.block (.loop ⟨[(4,.tv),(5,.int .i64),(0,.str)],[],[],[]⟩ .none)) .none))))) mixed (fun _ _=>Tryz.call98 _ _) Tryz.func98 (by kernel_rfl) (by kernel_rfl) h
theorem Kh (v_0:Int) (v_1:Bool) (v_2:Bool) (v_3:B8) (v_4:Int) (v_5:Int) (v_6:Int) (v_7:Int) (v_8:Int) (v_9:B8) (v_10:TV) (v_11:TV) (v_12:TV) (st:St) (K:Bool->St->Prop) (h:BId (v_0=0) (BIf (!v_1) (BIf ((v_2==false)&&(decide (v_3=([]:B8))&&(decide (v_4=(0:Int))&&true))) (BIf (decide (v_5=(0:Int))&&(decide (v_6=(0:Int))&&(decide (v_7=(0:Int))&&(decide (v_8=(0:Int))&&true)))) (BId (v_9=([]:B8)) (need (isSl v_10) (BId ((lenS v_10:Int)=(0:Int)) (need (isSl v_11) (BId ((lenS v_11:Int)=(0:Int)) (need (isSl v_12) (K ((decide ((lenS v_12:Int)=(0:Int)))) st)) (K false st))) (K false st))) (K false st)) (K false st)) (K false st)) (K false st)) (K false st)):CallT PR Cv [(.agg (cV v_0 v_1 v_2 v_3 v_4 v_5 v_6 v_7 v_8 v_9 v_10 v_11 v_12))] [.one .bool] st K:=
 Ae (cfg:=⟨[1],[],[]⟩) (h:= .none) mixed (fun _ _=>Tryz.call103 _ _) Tryz.func103 (by kernel_rfl) (by kernel_rfl) h
theorem LP (v_0:Int) (b:Bool) (v_2:Bool) (v_3:B8) (v_4:Int) (v_5:Int) (v_6:Int) (v_7:Int) (v_8:Int) (v_9:B8) (v_10:TV) (v_11:TV) (v_12:TV) (left:Int) (st:St) (K:Int->St->Prop) (h:BId (left<1) (K 1 st) (CallT PR D7 [(.agg (cV v_0 b v_2 v_3 v_4 v_5 v_6 v_7 v_8 v_9 v_10 v_11 v_12))] [.one .tv] st (fun (v1:TV) i=>need (isSl v1) (∃(I1:Int->Int->Int->TV->Int->St->Prop) (M1:Int->Int->Int->TV->Int->St->Nat),(I1 1 0 left v1 ((lenS v1:Int)) i)/\∀d c a b f e,I1 d c a b f e->(BId (c<f) (((0<=c/\c<(lenZ 13 b:Int))/\Ai ((Al e [] (.t (ixT 13 b c.toNat)) 0 13).map TV.agg) (fun (x1:TV)=>Cd [.int .i64,.bool,.bool,.str,.int .i64,.int .i64,.int .i64,.int .i64,.int .i64,.str,.tv,.tv,.tv] x1 (fun (n1:Int) (b1 b2:Bool) (s1:B8) (n2 n3 n4 n5 n6:Int) (s2:B8) (v2 v3 v4:TV)=>need (List.all (cV n1 b1 b2 s1 n2 n3 n4 n5 n6 s2 v2 v3 v4) Aq) (CallT PR D6 [(.agg (cV n1 b1 b2 s1 n2 n3 n4 n5 n6 s2 v2 v3 v4)),(.int .i64 (i64.wrap (a-(1:Int))))] [.one (.int .i64)] e (fun (n7:Int) g=>(I1 ((i64.wrap (d+n7))) ((i64.wrap (c+(1:Int)))) a b f g/\M1 ((i64.wrap (d+n7))) ((i64.wrap (c+(1:Int)))) a b f g<M1 d c a b f e))))))) (K d e)))))):CallT PR D6 [(.agg (cV v_0 b v_2 v_3 v_4 v_5 v_6 v_7 v_8 v_9 v_10 v_11 v_12)),.int .i64 left] [.one (.int .i64)] st K:=
 Ae (cfg:=⟨[2,7],[],[]⟩) (h:=(.seq .none (.seq .none (.seq .none (.seq (.seq .none (.block (.loop ⟨[(5,.int .i64),(14,.int .i64),(1,.int .i64),(12,.tv),(13,.int .i64)],[],[],[]⟩ .none))) .none))))) mixed (fun _ _=>Tryz.call104 _ _) Tryz.func104 (by kernel_rfl) (by kernel_rfl) h
theorem LS (v_0:Int) (b:Bool) (v_2:Bool) (v_3:B8) (v_4:Int) (v_5:Int) (v_6:Int) (v_7:Int) (v_8:Int) (v_9:B8) (v_10:TV) (v_11:TV) (v_12:TV) (left:Int) (st:St) (K:Int->St->Prop) (h:BId (left<=1) (K 1 st) (CallT PR D7 [(.agg (cV v_0 b v_2 v_3 v_4 v_5 v_6 v_7 v_8 v_9 v_10 v_11 v_12))] [.one .tv] st (fun (v1:TV) i=>need (isSl v1) (∃(I1:Int->Int->Int->TV->Int->St->Prop) (M1:Int->Int->Int->TV->Int->St->Nat),(I1 1 0 left v1 ((lenS v1:Int)) i)/\∀d c a b f e,I1 d c a b f e->(BId (c<f) (((0<=c/\c<(lenZ 13 b:Int))/\Ai ((Al e [] (.t (ixT 13 b c.toNat)) 0 13).map TV.agg) (fun (x1:TV)=>Cd [.int .i64,.bool,.bool,.str,.int .i64,.int .i64,.int .i64,.int .i64,.int .i64,.str,.tv,.tv,.tv] x1 (fun (n1:Int) (b1 b2:Bool) (s1:B8) (n2 n3 n4 n5 n6:Int) (s2:B8) (v2 v3 v4:TV)=>need (List.all (cV n1 b1 b2 s1 n2 n3 n4 n5 n6 s2 v2 v3 v4) Aq) (CallT PR D8 [(.agg (cV n1 b1 b2 s1 n2 n3 n4 n5 n6 s2 v2 v3 v4)),(.int .i64 (i64.wrap (a-(1:Int))))] [.one (.int .i64)] e (fun (n7:Int) g=>(I1 ((max d (i64.wrap ((1:Int)+n7)))) ((i64.wrap (c+(1:Int)))) a b f g/\M1 ((max d (i64.wrap ((1:Int)+n7)))) ((i64.wrap (c+(1:Int)))) a b f g<M1 d c a b f e))))))) (K d e)))))):CallT PR D8 [(.agg (cV v_0 b v_2 v_3 v_4 v_5 v_6 v_7 v_8 v_9 v_10 v_11 v_12)),.int .i64 left] [.one (.int .i64)] st K:=
 Ae (cfg:=⟨[2,7],[],[]⟩) (h:=(.seq .none (.seq .none (.seq .none (.seq (.seq .none (.block (.loop ⟨[(5,.int .i64),(14,.int .i64),(1,.int .i64),(12,.tv),(13,.int .i64)],[],[],[]⟩ .none))) .none))))) mixed (fun _ _=>Tryz.call105 _ _) Tryz.func105 (by kernel_rfl) (by kernel_rfl) h
theorem C9 (s:TV) (f:TV) (st:St) (K:Int->St->Prop) (h:need (isSl s) (∃(I1:Int->TV->TV->Int->St->Prop) (M1:Int->TV->TV->Int->St->Nat),(I1 0 s f ((lenS s:Int)) st)/\∀a b c d e,I1 a b c d e->(BId (a<d) (((0<=a/\a<(lenZ 1 b:Int))/\Ai (Ac e [] (.t (ixT 1 b a.toNat)) 0) (fun (x1:TV)=>AS .str x1 (fun (s1:B8)=>MV PR c [.str s1] [.one .bool] e (fun (b1:Bool) g=>BIf b1 (K a g) ((I1 ((i64.wrap (a+(1:Int)))) b c d g/\M1 ((i64.wrap (a+(1:Int)))) b c d g<M1 a b c d e))))))) (K (-1) e)))):CallT PR Bz [s,f] [.one (.int .i64)] st K:=
 Ae (cfg:=⟨[],[],[]⟩) (h:=(.seq .none (.seq (.seq .none (.block (.loop ⟨[(8,.int .i64),(0,.tv),(1,.tv),(7,.int .i64)],[],[],[]⟩ .none))) .none))) mixed (fun _ _=>Tryz.call106 _ _) Tryz.func106 (by kernel_rfl) (by kernel_rfl) h
theorem Km (s:B8) (st:St) (K:Bool->St->Prop) (h:BId ((s.length:Int)<=(600:Int)) (CallT PR FJ [.str s] [.one .bool] st (fun (b1:Bool) a=>BIf b1 (BId (s=([]:B8)) (K true a) (((0<=(0:Int)/\(0:Int)<(s.length:Int))/\K ((decide (((List.getD s (Int.toNat (0:Int)) 0).toNat:Int)≠(48:Int)))) a))) (K false a))) (K false st)):CallT PR El [.str s] [.one .bool] st K:=
 Ae (cfg:=⟨[],[],[]⟩) (h:= .none) mixed (fun _ _=>Tryz.call110 _ _) Tryz.func110 (by kernel_rfl) (by kernel_rfl) h
theorem Kl (a:B8) (st:St) (K:Int->St->Prop) (h:CallT PR Ed [.str a,.str str6] [.one .str] st (fun (s1:B8) b=>K ((i64.wrap ((a.length:Int)-(s1.length:Int)))) b)):CallT PR Ek [.str a] [.one (.int .i64)] st K:=
 Ae (cfg:=⟨[],[],[]⟩) (h:= .none) mixed (fun _ _=>Tryz.call111 _ _) Tryz.func111 (by kernel_rfl) (by kernel_rfl) h
theorem Na (s:B8) (st:St) (K:Int->St->Prop) (h:CallT PR EE [.str s] [.one .bool] st (fun (b1:Bool) a=>BIf (!b1) (K 5 a) (BId ((1024:Int)<(s.length:Int)) (K 10 a) (K 0 a)))):CallT PR GC [.str s] [.one (.int .i64)] st K:=
 Ae (cfg:=⟨[],[],[]⟩) (h:= .none) mixed (fun _ _=>Tryz.call112 _ _) Tryz.func112 (by kernel_rfl) (by kernel_rfl) h
theorem HO (v_0:Int) (v_1:Bool) (v_2:Bool) (v_3:B8) (v_4:Int) (v_5:Int) (v_6:Int) (v_7:Int) (v_8:Int) (v_9:B8) (v_10:TV) (v_11:TV) (v_12:TV) (st:St) (K:Bool->St->Prop) (h:BId (v_0<0) (K false st) (BId ((7:Int)<v_0) (K false st) (BId (v_0≠1) (BIf v_1 (K false st) (BId (v_0≠2) (BIf (!((v_2==false)&&(decide (v_3=([]:B8))&&(decide (v_4=(0:Int))&&true)))) (K false st) (BId (v_0≠3) (BIf (!(decide (v_5=(0:Int))&&(decide (v_6=(0:Int))&&(decide (v_7=(0:Int))&&(decide (v_8=(0:Int))&&true))))) (K false st) (BId (v_0=4) (BId (v_0=5) (BId (v_0=6) (BId (v_0=7) (K true st) (need (isSl v_12) (K ((decide ((lenS v_12:Int)=(0:Int)))) st))) (need (isSl v_11) (BId ((lenS v_11:Int)=(0:Int)) (BId (v_0=7) (K true st) (need (isSl v_12) (K ((decide ((lenS v_12:Int)=(0:Int)))) st))) (K false st)))) (need (isSl v_10) (BId ((lenS v_10:Int)=(0:Int)) (BId (v_0=6) (BId (v_0=7) (K true st) (need (isSl v_12) (K ((decide ((lenS v_12:Int)=(0:Int)))) st))) (need (isSl v_11) (BId ((lenS v_11:Int)=(0:Int)) (BId (v_0=7) (K true st) (need (isSl v_12) (K ((decide ((lenS v_12:Int)=(0:Int)))) st))) (K false st)))) (K false st)))) (BId (v_9=([]:B8)) (BId (v_0=5) (BId (v_0=6) (BId (v_0=7) (K true st) (need (isSl v_12) (K ((decide ((lenS v_12:Int)=(0:Int)))) st))) (need (isSl v_11) (BId ((lenS v_11:Int)=(0:Int)) (BId (v_0=7) (K true st) (need (isSl v_12) (K ((decide ((lenS v_12:Int)=(0:Int)))) st))) (K false st)))) (need (isSl v_10) (BId ((lenS v_10:Int)=(0:Int)) (BId (v_0=6) (BId (v_0=7) (K true st) (need (isSl v_12) (K ((decide ((lenS v_12:Int)=(0:Int)))) st))) (need (isSl v_11) (BId ((lenS v_11:Int)=(0:Int)) (BId (v_0=7) (K true st) (need (isSl v_12) (K ((decide ((lenS v_12:Int)=(0:Int)))) st))) (K false st)))) (K false st)))) (K false st)))) (BId (v_0=4) (BId (v_0=5) (BId (v_0=6) (BId (v_0=7) (K true st) (need (isSl v_12) (K ((decide ((lenS v_12:Int)=(0:Int)))) st))) (need (isSl v_11) (BId ((lenS v_11:Int)=(0:Int)) (BId (v_0=7) (K true st) (need (isSl v_12) (K ((decide ((lenS v_12:Int)=(0:Int)))) st))) (K false st)))) (need (isSl v_10) (BId ((lenS v_10:Int)=(0:Int)) (BId (v_0=6) (BId (v_0=7) (K true st) (need (isSl v_12) (K ((decide ((lenS v_12:Int)=(0:Int)))) st))) (need (isSl v_11) (BId ((lenS v_11:Int)=(0:Int)) (BId (v_0=7) (K true st) (need (isSl v_12) (K ((decide ((lenS v_12:Int)=(0:Int)))) st))) (K false st)))) (K false st)))) (BId (v_9=([]:B8)) (BId (v_0=5) (BId (v_0=6) (BId (v_0=7) (K true st) (need (isSl v_12) (K ((decide ((lenS v_12:Int)=(0:Int)))) st))) (need (isSl v_11) (BId ((lenS v_11:Int)=(0:Int)) (BId (v_0=7) (K true st) (need (isSl v_12) (K ((decide ((lenS v_12:Int)=(0:Int)))) st))) (K false st)))) (need (isSl v_10) (BId ((lenS v_10:Int)=(0:Int)) (BId (v_0=6) (BId (v_0=7) (K true st) (need (isSl v_12) (K ((decide ((lenS v_12:Int)=(0:Int)))) st))) (need (isSl v_11) (BId ((lenS v_11:Int)=(0:Int)) (BId (v_0=7) (K true st) (need (isSl v_12) (K ((decide ((lenS v_12:Int)=(0:Int)))) st))) (K false st)))) (K false st)))) (K false st))))) (BId (v_0≠3) (BIf (!(decide (v_5=(0:Int))&&(decide (v_6=(0:Int))&&(decide (v_7=(0:Int))&&(decide (v_8=(0:Int))&&true))))) (K false st) (BId (v_0=4) (BId (v_0=5) (BId (v_0=6) (BId (v_0=7) (K true st) (need (isSl v_12) (K ((decide ((lenS v_12:Int)=(0:Int)))) st))) (need (isSl v_11) (BId ((lenS v_11:Int)=(0:Int)) (BId (v_0=7) (K true st) (need (isSl v_12) (K ((decide ((lenS v_12:Int)=(0:Int)))) st))) (K false st)))) (need (isSl v_10) (BId ((lenS v_10:Int)=(0:Int)) (BId (v_0=6) (BId (v_0=7) (K true st) (need (isSl v_12) (K ((decide ((lenS v_12:Int)=(0:Int)))) st))) (need (isSl v_11) (BId ((lenS v_11:Int)=(0:Int)) (BId (v_0=7) (K true st) (need (isSl v_12) (K ((decide ((lenS v_12:Int)=(0:Int)))) st))) (K false st)))) (K false st)))) (BId (v_9=([]:B8)) (BId (v_0=5) (BId (v_0=6) (BId (v_0=7) (K true st) (need (isSl v_12) (K ((decide ((lenS v_12:Int)=(0:Int)))) st))) (need (isSl v_11) (BId ((lenS v_11:Int)=(0:Int)) (BId (v_0=7) (K true st) (need (isSl v_12) (K ((decide ((lenS v_12:Int)=(0:Int)))) st))) (K false st)))) (need (isSl v_10) (BId ((lenS v_10:Int)=(0:Int)) (BId (v_0=6) (BId (v_0=7) (K true st) (need (isSl v_12) (K ((decide ((lenS v_12:Int)=(0:Int)))) st))) (need (isSl v_11) (BId ((lenS v_11:Int)=(0:Int)) (BId (v_0=7) (K true st) (need (isSl v_12) (K ((decide ((lenS v_12:Int)=(0:Int)))) st))) (K false st)))) (K false st)))) (K false st)))) (BId (v_0=4) (BId (v_0=5) (BId (v_0=6) (BId (v_0=7) (K true st) (need (isSl v_12) (K ((decide ((lenS v_12:Int)=(0:Int)))) st))) (need (isSl v_11) (BId ((lenS v_11:Int)=(0:Int)) (BId (v_0=7) (K true st) (need (isSl v_12) (K ((decide ((lenS v_12:Int)=(0:Int)))) st))) (K false st)))) (need (isSl v_10) (BId ((lenS v_10:Int)=(0:Int)) (BId (v_0=6) (BId (v_0=7) (K true st) (need (isSl v_12) (K ((decide ((lenS v_12:Int)=(0:Int)))) st))) (need (isSl v_11) (BId ((lenS v_11:Int)=(0:Int)) (BId (v_0=7) (K true st) (need (isSl v_12) (K ((decide ((lenS v_12:Int)=(0:Int)))) st))) (K false st)))) (K false st)))) (BId (v_9=([]:B8)) (BId (v_0=5) (BId (v_0=6) (BId (v_0=7) (K true st) (need (isSl v_12) (K ((decide ((lenS v_12:Int)=(0:Int)))) st))) (need (isSl v_11) (BId ((lenS v_11:Int)=(0:Int)) (BId (v_0=7) (K true st) (need (isSl v_12) (K ((decide ((lenS v_12:Int)=(0:Int)))) st))) (K false st)))) (need (isSl v_10) (BId ((lenS v_10:Int)=(0:Int)) (BId (v_0=6) (BId (v_0=7) (K true st) (need (isSl v_12) (K ((decide ((lenS v_12:Int)=(0:Int)))) st))) (need (isSl v_11) (BId ((lenS v_11:Int)=(0:Int)) (BId (v_0=7) (K true st) (need (isSl v_12) (K ((decide ((lenS v_12:Int)=(0:Int)))) st))) (K false st)))) (K false st)))) (K false st)))))) (BId (v_0≠2) (BIf (!((v_2==false)&&(decide (v_3=([]:B8))&&(decide (v_4=(0:Int))&&true)))) (K false st) (BId (v_0≠3) (BIf (!(decide (v_5=(0:Int))&&(decide (v_6=(0:Int))&&(decide (v_7=(0:Int))&&(decide (v_8=(0:Int))&&true))))) (K false st) (BId (v_0=4) (BId (v_0=5) (BId (v_0=6) (BId (v_0=7) (K true st) (need (isSl v_12) (K ((decide ((lenS v_12:Int)=(0:Int)))) st))) (need (isSl v_11) (BId ((lenS v_11:Int)=(0:Int)) (BId (v_0=7) (K true st) (need (isSl v_12) (K ((decide ((lenS v_12:Int)=(0:Int)))) st))) (K false st)))) (need (isSl v_10) (BId ((lenS v_10:Int)=(0:Int)) (BId (v_0=6) (BId (v_0=7) (K true st) (need (isSl v_12) (K ((decide ((lenS v_12:Int)=(0:Int)))) st))) (need (isSl v_11) (BId ((lenS v_11:Int)=(0:Int)) (BId (v_0=7) (K true st) (need (isSl v_12) (K ((decide ((lenS v_12:Int)=(0:Int)))) st))) (K false st)))) (K false st)))) (BId (v_9=([]:B8)) (BId (v_0=5) (BId (v_0=6) (BId (v_0=7) (K true st) (need (isSl v_12) (K ((decide ((lenS v_12:Int)=(0:Int)))) st))) (need (isSl v_11) (BId ((lenS v_11:Int)=(0:Int)) (BId (v_0=7) (K true st) (need (isSl v_12) (K ((decide ((lenS v_12:Int)=(0:Int)))) st))) (K false st)))) (need (isSl v_10) (BId ((lenS v_10:Int)=(0:Int)) (BId (v_0=6) (BId (v_0=7) (K true st) (need (isSl v_12) (K ((decide ((lenS v_12:Int)=(0:Int)))) st))) (need (isSl v_11) (BId ((lenS v_11:Int)=(0:Int)) (BId (v_0=7) (K true st) (need (isSl v_12) (K ((decide ((lenS v_12:Int)=(0:Int)))) st))) (K false st)))) (K false st)))) (K false st)))) (BId (v_0=4) (BId (v_0=5) (BId (v_0=6) (BId (v_0=7) (K true st) (need (isSl v_12) (K ((decide ((lenS v_12:Int)=(0:Int)))) st))) (need (isSl v_11) (BId ((lenS v_11:Int)=(0:Int)) (BId (v_0=7) (K true st) (need (isSl v_12) (K ((decide ((lenS v_12:Int)=(0:Int)))) st))) (K false st)))) (need (isSl v_10) (BId ((lenS v_10:Int)=(0:Int)) (BId (v_0=6) (BId (v_0=7) (K true st) (need (isSl v_12) (K ((decide ((lenS v_12:Int)=(0:Int)))) st))) (need (isSl v_11) (BId ((lenS v_11:Int)=(0:Int)) (BId (v_0=7) (K true st) (need (isSl v_12) (K ((decide ((lenS v_12:Int)=(0:Int)))) st))) (K false st)))) (K false st)))) (BId (v_9=([]:B8)) (BId (v_0=5) (BId (v_0=6) (BId (v_0=7) (K true st) (need (isSl v_12) (K ((decide ((lenS v_12:Int)=(0:Int)))) st))) (need (isSl v_11) (BId ((lenS v_11:Int)=(0:Int)) (BId (v_0=7) (K true st) (need (isSl v_12) (K ((decide ((lenS v_12:Int)=(0:Int)))) st))) (K false st)))) (need (isSl v_10) (BId ((lenS v_10:Int)=(0:Int)) (BId (v_0=6) (BId (v_0=7) (K true st) (need (isSl v_12) (K ((decide ((lenS v_12:Int)=(0:Int)))) st))) (need (isSl v_11) (BId ((lenS v_11:Int)=(0:Int)) (BId (v_0=7) (K true st) (need (isSl v_12) (K ((decide ((lenS v_12:Int)=(0:Int)))) st))) (K false st)))) (K false st)))) (K false st))))) (BId (v_0≠3) (BIf (!(decide (v_5=(0:Int))&&(decide (v_6=(0:Int))&&(decide (v_7=(0:Int))&&(decide (v_8=(0:Int))&&true))))) (K false st) (BId (v_0=4) (BId (v_0=5) (BId (v_0=6) (BId (v_0=7) (K true st) (need (isSl v_12) (K ((decide ((lenS v_12:Int)=(0:Int)))) st))) (need (isSl v_11) (BId ((lenS v_11:Int)=(0:Int)) (BId (v_0=7) (K true st) (need (isSl v_12) (K ((decide ((lenS v_12:Int)=(0:Int)))) st))) (K false st)))) (need (isSl v_10) (BId ((lenS v_10:Int)=(0:Int)) (BId (v_0=6) (BId (v_0=7) (K true st) (need (isSl v_12) (K ((decide ((lenS v_12:Int)=(0:Int)))) st))) (need (isSl v_11) (BId ((lenS v_11:Int)=(0:Int)) (BId (v_0=7) (K true st) (need (isSl v_12) (K ((decide ((lenS v_12:Int)=(0:Int)))) st))) (K false st)))) (K false st)))) (BId (v_9=([]:B8)) (BId (v_0=5) (BId (v_0=6) (BId (v_0=7) (K true st) (need (isSl v_12) (K ((decide ((lenS v_12:Int)=(0:Int)))) st))) (need (isSl v_11) (BId ((lenS v_11:Int)=(0:Int)) (BId (v_0=7) (K true st) (need (isSl v_12) (K ((decide ((lenS v_12:Int)=(0:Int)))) st))) (K false st)))) (need (isSl v_10) (BId ((lenS v_10:Int)=(0:Int)) (BId (v_0=6) (BId (v_0=7) (K true st) (need (isSl v_12) (K ((decide ((lenS v_12:Int)=(0:Int)))) st))) (need (isSl v_11) (BId ((lenS v_11:Int)=(0:Int)) (BId (v_0=7) (K true st) (need (isSl v_12) (K ((decide ((lenS v_12:Int)=(0:Int)))) st))) (K false st)))) (K false st)))) (K false st)))) (BId (v_0=4) (BId (v_0=5) (BId (v_0=6) (BId (v_0=7) (K true st) (need (isSl v_12) (K ((decide ((lenS v_12:Int)=(0:Int)))) st))) (need (isSl v_11) (BId ((lenS v_11:Int)=(0:Int)) (BId (v_0=7) (K true st) (need (isSl v_12) (K ((decide ((lenS v_12:Int)=(0:Int)))) st))) (K false st)))) (need (isSl v_10) (BId ((lenS v_10:Int)=(0:Int)) (BId (v_0=6) (BId (v_0=7) (K true st) (need (isSl v_12) (K ((decide ((lenS v_12:Int)=(0:Int)))) st))) (need (isSl v_11) (BId ((lenS v_11:Int)=(0:Int)) (BId (v_0=7) (K true st) (need (isSl v_12) (K ((decide ((lenS v_12:Int)=(0:Int)))) st))) (K false st)))) (K false st)))) (BId (v_9=([]:B8)) (BId (v_0=5) (BId (v_0=6) (BId (v_0=7) (K true st) (need (isSl v_12) (K ((decide ((lenS v_12:Int)=(0:Int)))) st))) (need (isSl v_11) (BId ((lenS v_11:Int)=(0:Int)) (BId (v_0=7) (K true st) (need (isSl v_12) (K ((decide ((lenS v_12:Int)=(0:Int)))) st))) (K false st)))) (need (isSl v_10) (BId ((lenS v_10:Int)=(0:Int)) (BId (v_0=6) (BId (v_0=7) (K true st) (need (isSl v_12) (K ((decide ((lenS v_12:Int)=(0:Int)))) st))) (need (isSl v_11) (BId ((lenS v_11:Int)=(0:Int)) (BId (v_0=7) (K true st) (need (isSl v_12) (K ((decide ((lenS v_12:Int)=(0:Int)))) st))) (K false st)))) (K false st)))) (K false st)))))))):CallT PR Db [(.agg (cV v_0 v_1 v_2 v_3 v_4 v_5 v_6 v_7 v_8 v_9 v_10 v_11 v_12))] [.one .bool] st K:=
 Ae (cfg:=⟨[1],[],[]⟩) (h:= .none) mixed (fun _ _=>Tryz.call113 _ _) Tryz.func113 (by kernel_rfl) (by kernel_rfl) h
theorem GU (d_0:Bool) (d_1:B8) (d_2:Int) (st:St) (K:Bool->St->Prop) (h:BId (d_1=([]:B8)) (BIf (!d_0) (K ((decide (d_2=0))) st) (K false st)) (BId ((d_1.length:Int)<=(120:Int)) (CallT PR CG [.str d_1] [.one .bool] st (fun (b1:Bool) b=>BIf b1 (CallT PR CF [.str d_1] [.one (.int .i64)] b (fun (n1:Int) a=>BId (n1=0) (BId ((-400:Int)<=d_2) (K ((decide (d_2<=400))) a) (K false a)) (K false a))) (K false b))) (K false st))):CallT PR CE [(.agg [.bool d_0,.str d_1,.int .i64 d_2])] [.one .bool] st K:=
 Ae (cfg:=⟨[1],[],[]⟩) (h:= .none) mixed (fun _ _=>Tryz.call114 _ _) Tryz.func114 (by kernel_rfl) (by kernel_rfl) h
theorem GS (t_0:Int) (t_1:Int) (t_2:Int) (t_3:Int) (st:St) (K:Bool->St->Prop) (h:BId (t_0<1) (K false st) (BId ((4:Int)<t_0) (K false st) (BId (t_1<0) (K false st) (BId ((3652058:Int)<t_1) (K false st) (BId (t_2<0) (K false st) (BId ((86399999999999:Int)<t_2) (K false st) (BId (t_3<(-1439:Int)) (K false st) (BId ((1439:Int)<t_3) (K false st) (CallT PR CC [.int .i64 t_0] [.one .bool] st (fun (b1:Bool) c=>BIf b1 (CallT PR Bs [.int .i64 t_0] [.one .bool] c (fun (b2:Bool) b=>BIf b2 (BId (t_0=4) (K true b) (K ((decide (t_3=0))) b)) (BId (t_2=0) (BId (t_0=4) (K true b) (K ((decide (t_3=0))) b)) (K false b)))) (BId (t_1=0) (CallT PR Bs [.int .i64 t_0] [.one .bool] c (fun (b3:Bool) a=>BIf b3 (BId (t_0=4) (K true a) (K ((decide (t_3=0))) a)) (BId (t_2=0) (BId (t_0=4) (K true a) (K ((decide (t_3=0))) a)) (K false a)))) (K false c)))))))))))):CallT PR CD [(.agg [.int .i64 t_0,.int .i64 t_1,.int .i64 t_2,.int .i64 t_3])] [.one .bool] st K:=
 Ae (cfg:=⟨[1],[],[]⟩) (h:= .none) mixed (fun _ _=>Tryz.call115 _ _) Tryz.func115 (by kernel_rfl) (by kernel_rfl) h
theorem G9 (l:TV) (st:St) (K:Int->St->Prop) (h:∃(I1:Int->TV->St->Prop) (M1:Int->TV->St->Nat),(I1 0 l st)/\∀b c g,I1 b c g->(need (isSl c) (BId (b<(lenS c:Int)) (((0<=b/\b<(lenZ 14 c:Int))/\need (isPtr (ixT 14 c b.toNat)) (Ai (Ac g [] (.t (Au (ixT 14 c b.toNat) 0)) 0) (fun (x1:TV)=>AS .str x1 (fun (s1:B8)=>CallT PR A1 [.str s1] [.one .bool] g (fun (b1:Bool) i=>BIf (!b1) (K 5 i) (((0<=b/\b<(lenZ 14 c:Int))/\need (isPtr (ixT 14 c b.toNat)) (Ai (Ac i [] (.t (Au (ixT 14 c b.toNat) 0)) 0) (fun (x2:TV)=>AS .str x2 (fun (s2:B8)=>BId ((1024:Int)<(s2.length:Int)) (K 10 i) (∃(I2:Int->TV->Int->St->Prop) (M2:Int->TV->Int->St->Nat),(I2 0 c b i)/\∀f a d e,I2 f a d e->(BId (f<d) (((0<=f/\f<(lenZ 14 a:Int))/\need (isPtr (ixT 14 a f.toNat)) (Ai (Ac e [] (.t (Au (ixT 14 a f.toNat) 0)) 0) (fun (x3:TV)=>AS .str x3 (fun (s3:B8)=>((0<=d/\d<(lenZ 14 a:Int))/\need (isPtr (ixT 14 a d.toNat)) (Ai (Ac e [] (.t (Au (ixT 14 a d.toNat) 0)) 0) (fun (x4:TV)=>AS .str x4 (fun (s4:B8)=>BId (s3=s4) (K 8 e) ((I2 ((i64.wrap (f+(1:Int)))) a d e/\M2 ((i64.wrap (f+(1:Int)))) a d e<M2 f a d e))))))))))) ((I1 ((i64.wrap (d+(1:Int)))) a e/\M1 ((i64.wrap (d+(1:Int)))) a e<M1 b c g))))))))))))))) (K 0 g)))):CallT PR Bo [l] [.one (.int .i64)] st K:=
 Ae (cfg:=⟨[],[],[]⟩) (h:=(.seq .none (.seq (.seq .none (.block (.loop ⟨[(3,.int .i64),(0,.tv)],[],[],[]⟩ (.seq .none (.seq (.block (.seq .none (.seq .none (.seq .none (.block (.loop ⟨[(4,.int .i64),(0,.tv),(3,.int .i64)],[],[],[]⟩ .none)))))) .none))))) .none))) mixed (fun _ _=>Tryz.call116 _ _) Tryz.func116 (by kernel_rfl) (by kernel_rfl) h
theorem LW (s:B8) (atx:Int) (st:St) (K:Int->Int->St->Prop) (h:BId (atx<0) (K 0 0 st) (BId ((s.length:Int)<=atx) (K 0 0 st) (((0<=atx/\atx<(s.length:Int))/\CallT PR Hq [(.int .u8 ((List.getD s atx.toNat 0).toNat:Int))] [.one (.int .i64),.one (.int .i64)] st (fun (n1 n2:Int) g=>BId (n1=0) (K 0 0 g) (BId ((i64.wrap ((s.length:Int)-atx))<n1) (K 0 0 g) (∃(I1:Int->Int->B8->Int->Int->St->Prop) (M1:Int->Int->B8->Int->Int->St->Nat),(I1 n2 1 s atx n1 g)/\∀d b c a e f,I1 d b c a e f->(BId (b<e) (((0<=(i64.wrap (a+b))/\(i64.wrap (a+b))<(c.length:Int))/\BId ((AH .and .u8 ((List.getD c (Int.toNat (i64.wrap (a+b))) 0).toNat:Int) (192:Int))≠(128:Int)) (K 0 0 f) ((I1 ((AH .or .i64 (i64.wrap (d*2^(min (Int.toNat (6:Int)) (IntKind.bits .i64)))) (i64.wrap (AH .and .u8 ((List.getD c (Int.toNat (i64.wrap (a+b))) 0).toNat:Int) (63:Int))))) ((i64.wrap (b+(1:Int)))) c a e f/\M1 ((AH .or .i64 (i64.wrap (d*2^(min (Int.toNat (6:Int)) (IntKind.bits .i64)))) (i64.wrap (AH .and .u8 ((List.getD c (Int.toNat (i64.wrap (a+b))) 0).toNat:Int) (63:Int))))) ((i64.wrap (b+(1:Int)))) c a e f<M1 d b c a e f)))) (CallT PR FH [.int .i64 d] [.one .bool] f (fun (b1:Bool) j=>BIf (!b1) (K 0 0 j) (CallT PR GD [.int .i64 d] [.one (.int .i64)] j (fun (n3:Int) i=>BId (n3≠e) (K 0 0 i) (K d e i))))))))))))):CallT PR FI [.str s,.int .i64 atx] [.one (.int .i64),.one (.int .i64)] st K:=
 Ae (cfg:=⟨[],[],[]⟩) (h:=(.seq .none (.seq .none (.seq .none (.seq .none (.seq (.seq .none (.block (.loop ⟨[(4,.int .i64),(7,.int .i64),(0,.str),(1,.int .i64),(6,.int .i64)],[],[],[]⟩ .none))) .none)))))) mixed (fun _ _=>Tryz.call117 _ _) Tryz.func117 (by kernel_rfl) (by kernel_rfl) h
theorem Gi (s:B8) (atx:Int) (st:St) (K:Int->Int->St->Prop) (h:BId (atx<0) (K 0 0 st) (BId ((s.length:Int)<=atx) (K 0 0 st) (((0<=atx/\atx<(s.length:Int))/\∃(C1:Int->Int->B8->Int->St->Prop),(BId ((240:Int)<=(i64.wrap ((List.getD s atx.toNat 0).toNat:Int))) (C1 4 ((AH .and .i64 (i64.wrap ((List.getD s atx.toNat 0).toNat:Int)) (7:Int))) s atx st) (BId ((224:Int)<=(i64.wrap ((List.getD s atx.toNat 0).toNat:Int))) (C1 3 ((AH .and .i64 (i64.wrap ((List.getD s atx.toNat 0).toNat:Int)) (15:Int))) s atx st) (BId ((192:Int)<=(i64.wrap ((List.getD s atx.toNat 0).toNat:Int))) (C1 2 ((AH .and .i64 (i64.wrap ((List.getD s atx.toNat 0).toNat:Int)) (31:Int))) s atx st) (C1 1 ((i64.wrap ((List.getD s atx.toNat 0).toNat:Int))) s atx st))))/\∀e m j i k,C1 e m j i k->(BId ((i64.wrap ((j.length:Int)-i))<e) (K 0 0 k) (∃(I1:Int->Int->B8->Int->Int->St->Prop) (M1:Int->Int->B8->Int->Int->St->Nat),(I1 m 1 j i e k)/\∀f d c a b g,I1 f d c a b g->(BId (d<b) (((0<=(i64.wrap (a+d))/\(i64.wrap (a+d))<(c.length:Int))/\(I1 ((AH .or .i64 (i64.wrap (f*2^(min (Int.toNat (6:Int)) (IntKind.bits .i64)))) (AH .and .i64 (i64.wrap ((List.getD c (Int.toNat (i64.wrap (a+d))) 0).toNat:Int)) (63:Int)))) ((i64.wrap (d+(1:Int)))) c a b g/\M1 ((AH .or .i64 (i64.wrap (f*2^(min (Int.toNat (6:Int)) (IntKind.bits .i64)))) (AH .and .i64 (i64.wrap ((List.getD c (Int.toNat (i64.wrap (a+d))) 0).toNat:Int)) (63:Int)))) ((i64.wrap (d+(1:Int)))) c a b g<M1 f d c a b g))) (CallT PR BC [.int .i64 f] [.one .str,.one (.int .i64)] g (fun (s1:B8) (n1:Int) l=>BId (n1≠0) (K 0 0 l) (((0<=a/\a<=(i64.wrap (a+b))/\(i64.wrap (a+b))<=(c.length:Int))/\BId (s1≠(List.drop a.toNat (List.take (Int.toNat (i64.wrap (a+b))) c))) (K 0 0 l) (K f b l)))))))))))):CallT PR BD [.str s,.int .i64 atx] [.one (.int .i64),.one (.int .i64)] st K:=
 Ae (cfg:=⟨[],[],[]⟩) (h:=(.seq .none (.seq .none (.seq .none (.seq .none (.cut ⟨[(7,.int .i64),(8,.int .i64),(0,.str),(1,.int .i64)],[],[],[]⟩ .none (.seq .none (.seq (.seq .none (.block (.loop ⟨[(8,.int .i64),(9,.int .i64),(0,.str),(1,.int .i64),(7,.int .i64)],[],[],[]⟩ .none))) .none)))))))) mixed (fun _ _=>Tryz.call120 _ _) Tryz.func120 (by kernel_rfl) (by kernel_rfl) h
theorem LQ (v_0:Int) (b:Bool) (v_2:Bool) (v_3:B8) (v_4:Int) (v_5:Int) (v_6:Int) (v_7:Int) (v_8:Int) (v_9:B8) (v_10:TV) (v_11:TV) (v_12:TV) (st:St) (K:TV->St->Prop) (h:CallT PR AW [v_11] [.one .tv] st (fun (v1:TV) g=>need (isSl v_12) (∃(I1:TV->Int->TV->Int->St->Prop) (M1:TV->Int->TV->Int->St->Nat),(I1 v1 0 v_12 ((lenS v_12:Int)) g)/\∀e a b c d,I1 e a b c d->(BId (a<c) (((0<=a/\a<(lenZ 14 b:Int))/\Ai ((Al d [] (.t (ixT 14 b a.toNat)) 0 14).map TV.agg) (fun (x1:TV)=>Cd [.str,.int .i64,.bool,.bool,.str,.int .i64,.int .i64,.int .i64,.int .i64,.int .i64,.str,.tv,.tv,.tv] x1 (fun (s1:B8) (n1:Int) (b1 b2:Bool) (s2:B8) (n2 n3 n4 n5 n6:Int) (s3:B8) (v2 v3 v4:TV)=>need (List.all [.str s1,.int .i64 n1,.bool b1,.bool b2,.str s2,.int .i64 n2,.int .i64 n3,.int .i64 n4,.int .i64 n5,.int .i64 n6,.str s3,v2,v3,v4] Aq) (need (List.all (cV n1 b1 b2 s2 n2 n3 n4 n5 n6 s3 v2 v3 v4) Aq) (Bl 33 13 168 e 1 (cV n1 b1 b2 s2 n2 n3 n4 n5 n6 s3 v2 v3 v4) d (fun (v5:TV) f=>(I1 v5 ((i64.wrap (a+(1:Int)))) b c f/\M1 v5 ((i64.wrap (a+(1:Int)))) b c f<M1 e a b c d)))))))) (K e d))))):CallT PR D7 [(.agg (cV v_0 b v_2 v_3 v_4 v_5 v_6 v_7 v_8 v_9 v_10 v_11 v_12))] [.one .tv] st K:=
 Ae (cfg:=⟨[1,5],[],[]⟩) (h:=(.seq .none (.seq .none (.seq (.seq .none (.block (.loop ⟨[(3,.tv),(12,.int .i64),(10,.tv),(11,.int .i64)],[],[],[]⟩ .none))) .none)))) mixed (fun _ _=>Tryz.call123 _ _) Tryz.func123 (by kernel_rfl) (by kernel_rfl) h
theorem LX (s:B8) (st:St) (K:Bool->St->Prop) (h:∃(I1:Int->B8->Int->St->Prop) (M1:Int->B8->Int->St->Nat),(I1 0 s ((s.length:Int)) st)/\∀a b d c,I1 a b d c->(BId (a<d) (((0<=a/\a<(b.length:Int))/\BId (((List.getD b a.toNat 0).toNat:Int)<(48:Int)) (K false c) (((0<=a/\a<(b.length:Int))/\BId ((57:Int)<((List.getD b a.toNat 0).toNat:Int)) (K false c) ((I1 ((i64.wrap (a+(1:Int)))) b d c/\M1 ((i64.wrap (a+(1:Int)))) b d c<M1 a b d c)))))) (K true c))):CallT PR FJ [.str s] [.one .bool] st K:=
 Ae (cfg:=⟨[],[],[]⟩) (h:=(.seq .none (.seq (.seq .none (.block (.loop ⟨[(6,.int .i64),(0,.str),(5,.int .i64)],[],[],[]⟩ .none))) .none))) mixed (fun _ _=>Tryz.call125 _ _) Tryz.func125 (by kernel_rfl) (by kernel_rfl) h
theorem GW (s:B8) (st:St) (K:Bool->St->Prop) (h:BId ((s.length:Int)<=(600:Int)) (CallT PR Cq [.str s] [.one .bool] st (fun (b1:Bool) a=>BIf b1 (BId ((s.length:Int)=(0:Int)) (K true a) (((0<=(0:Int)/\(0:Int)<(s.length:Int))/\K ((decide (((List.getD s (Int.toNat (0:Int)) 0).toNat:Int)≠(48:Int)))) a))) (K false a))) (K false st)):CallT PR CG [.str s] [.one .bool] st K:=
 Ae (cfg:=⟨[],[],[]⟩) (h:= .none) mixed (fun _ _=>Tryz.call127 _ _) Tryz.func127 (by kernel_rfl) (by kernel_rfl) h
theorem GV (a:B8) (st:St) (K:Int->St->Prop) (h:∃(I1:Int->B8->St->Prop) (M1:Int->B8->St->Nat),(I1 0 a st)/\∀c b d,I1 c b d->(BId (c<(b.length:Int)) (((0<=(i64.wrap ((i64.wrap ((b.length:Int)-(1:Int)))-c))/\(i64.wrap ((i64.wrap ((b.length:Int)-(1:Int)))-c))<(b.length:Int))/\BId (((List.getD b (Int.toNat (i64.wrap ((i64.wrap ((b.length:Int)-(1:Int)))-c))) 0).toNat:Int)=(48:Int)) ((I1 ((i64.wrap (c+(1:Int)))) b d/\M1 ((i64.wrap (c+(1:Int)))) b d<M1 c b d)) (K c d))) (K c d))):CallT PR CF [.str a] [.one (.int .i64)] st K:=
 Ae (cfg:=⟨[],[],[]⟩) (h:=(.seq .none (.seq .none (.seq (.block (.loop ⟨[(3,.int .i64),(0,.str)],[],[],[]⟩ .none)) .none)))) mixed (fun _ _=>Tryz.call128 _ _) Tryz.func128 (by kernel_rfl) (by kernel_rfl) h
theorem GR (kind:Int) (st:St) (K:Bool->St->Prop) (h:BId (kind=1) (K true st) (BId (kind=3) (K true st) (K ((decide (kind=4))) st))):CallT PR CC [.int .i64 kind] [.one .bool] st K:=
 Ae (cfg:=⟨[],[],[]⟩) (h:= .none) mixed (fun _ _=>Tryz.call129 _ _) Tryz.func129 (by kernel_rfl) (by kernel_rfl) h
theorem FS (kind:Int) (st:St) (K:Bool->St->Prop) (h:BId (kind=2) (K true st) (BId (kind=3) (K true st) (K ((decide (kind=4))) st))):CallT PR Bs [.int .i64 kind] [.one .bool] st K:=
 Ae (cfg:=⟨[],[],[]⟩) (h:= .none) mixed (fun _ _=>Tryz.call130 _ _) Tryz.func130 (by kernel_rfl) (by kernel_rfl) h
theorem N9 (b:Int) (st:St) (K:Int->Int->St->Prop) (h:BId (b<128) (K 1 ((i64.wrap b)) st) (BId ((192:Int)<=b) (BId (b<224) (K 2 ((i64.wrap (AH .and .u8 b (31:Int)))) st) (BId ((224:Int)<=b) (BId (b<240) (K 3 ((i64.wrap (AH .and .u8 b (15:Int)))) st) (BId ((240:Int)<=b) (BId (b<248) (K 4 ((i64.wrap (AH .and .u8 b (7:Int)))) st) (K 0 0 st)) (K 0 0 st))) (BId ((240:Int)<=b) (BId (b<248) (K 4 ((i64.wrap (AH .and .u8 b (7:Int)))) st) (K 0 0 st)) (K 0 0 st)))) (BId ((224:Int)<=b) (BId (b<240) (K 3 ((i64.wrap (AH .and .u8 b (15:Int)))) st) (BId ((240:Int)<=b) (BId (b<248) (K 4 ((i64.wrap (AH .and .u8 b (7:Int)))) st) (K 0 0 st)) (K 0 0 st))) (BId ((240:Int)<=b) (BId (b<248) (K 4 ((i64.wrap (AH .and .u8 b (7:Int)))) st) (K 0 0 st)) (K 0 0 st))))):CallT PR Hq [.int .u8 b] [.one (.int .i64),.one (.int .i64)] st K:=
 Ae (cfg:=⟨[],[],[]⟩) (h:= .none) mixed (fun _ _=>Tryz.call131 _ _) Tryz.func131 (by kernel_rfl) (by kernel_rfl) h
theorem LV (r:Int) (st:St) (K:Bool->St->Prop) (h:BId ((0:Int)<=r) (BId (r<=1114111) (BId (r<55296) (K true st) (K ((decide ((57343:Int)<r))) st)) (K false st)) (K false st)):CallT PR FH [.int .i64 r] [.one .bool] st K:=
 Ae (cfg:=⟨[],[],[]⟩) (h:= .none) mixed (fun _ _=>Tryz.call132 _ _) Tryz.func132 (by kernel_rfl) (by kernel_rfl) h
theorem Nb (r:Int) (st:St) (K:Int->St->Prop) (h:BId (r<128) (K 1 st) (BId (r<2048) (K 2 st) (BId (r<65536) (K 3 st) (K 4 st)))):CallT PR GD [.int .i64 r] [.one (.int .i64)] st K:=
 Ae (cfg:=⟨[],[],[]⟩) (h:= .none) mixed (fun _ _=>Tryz.call133 _ _) Tryz.func133 (by kernel_rfl) (by kernel_rfl) h
theorem Gh (r:Int) (st:St) (K:B8->Int->St->Prop) (h:CallT PR BU [.int .i64 r] [.one .bool] st (fun (b1:Bool) a=>BIf (!b1) (K [] 2 a) (BId (r<128) (Ai ((toBytes a (.list 1 .full 1 [(.int .u8 (u8.wrap r))])).map TV.str) (fun (x1:TV)=>AS .str x1 (fun (s1:B8)=>K s1 0 a))) (BId (r<2048) (Ai ((toBytes a (.list 1 .full 2 [(.int .u8 (u8.wrap (AH .or .i64 (192:Int) (Int.fdiv r (2^(min (Int.toNat (6:Int)) (IntKind.bits .i64))))))),(.int .u8 (u8.wrap (AH .or .i64 (128:Int) (AH .and .i64 r (63:Int)))))])).map TV.str) (fun (x2:TV)=>AS .str x2 (fun (s2:B8)=>K s2 0 a))) (BId (r<65536) (Ai ((toBytes a (.list 1 .full 3 [(.int .u8 (u8.wrap (AH .or .i64 (224:Int) (Int.fdiv r (2^(min (Int.toNat (12:Int)) (IntKind.bits .i64))))))),(.int .u8 (u8.wrap (AH .or .i64 (128:Int) (AH .and .i64 (Int.fdiv r (2^(min (Int.toNat (6:Int)) (IntKind.bits .i64)))) (63:Int))))),(.int .u8 (u8.wrap (AH .or .i64 (128:Int) (AH .and .i64 r (63:Int)))))])).map TV.str) (fun (x3:TV)=>AS .str x3 (fun (s3:B8)=>K s3 0 a))) (Ai ((toBytes a (.list 1 .full 4 [(.int .u8 (u8.wrap (AH .or .i64 (240:Int) (Int.fdiv r (2^(min (Int.toNat (18:Int)) (IntKind.bits .i64))))))),(.int .u8 (u8.wrap (AH .or .i64 (128:Int) (AH .and .i64 (Int.fdiv r (2^(min (Int.toNat (12:Int)) (IntKind.bits .i64)))) (63:Int))))),(.int .u8 (u8.wrap (AH .or .i64 (128:Int) (AH .and .i64 (Int.fdiv r (2^(min (Int.toNat (6:Int)) (IntKind.bits .i64)))) (63:Int))))),(.int .u8 (u8.wrap (AH .or .i64 (128:Int) (AH .and .i64 r (63:Int)))))])).map TV.str) (fun (x4:TV)=>AS .str x4 (fun (s4:B8)=>K s4 0 a)))))))):CallT PR BC [.int .i64 r] [.one .str,.one (.int .i64)] st K:=
 Ae (cfg:=⟨[],[],[]⟩) (h:= .none) mixed (fun _ _=>Tryz.call134 _ _) Tryz.func134 (by kernel_rfl) (by kernel_rfl) h
theorem CK (s:TV) (st:St) (K:TV->St->Prop) (h:need (isSl s) (BIf (CP s) (K .nilSlice st) (Ai (BV st 13 s) (fun (q1:Nat×List TV)=>need (List.all q1.2 Aq) (Bl 33 13 168 (.list 13 .full 0 []) q1.1 q1.2 st (fun (v1:TV) a=>K v1 a)))))):CallT PR AW [s] [.one .tv] st K:=
 Ae (cfg:=⟨[],[],[]⟩) (h:= .none) mixed (fun _ _=>Tryz.call138 _ _) Tryz.func138 (by kernel_rfl) (by kernel_rfl) h
theorem Gj (s:B8) (st:St) (K:Bool->St->Prop) (h:∃(I1:Int->B8->St->Prop) (M1:Int->B8->St->Nat),(I1 0 s st)/\∀a b c,I1 a b c->(BId (a<(b.length:Int)) (((0<=a/\a<(b.length:Int))/\BId (((List.getD b a.toNat 0).toNat:Int)<(48:Int)) (K false c) (((0<=a/\a<(b.length:Int))/\BId ((57:Int)<((List.getD b a.toNat 0).toNat:Int)) (K false c) ((I1 ((i64.wrap (a+(1:Int)))) b c/\M1 ((i64.wrap (a+(1:Int)))) b c<M1 a b c)))))) (K true c))):CallT PR Cq [.str s] [.one .bool] st K:=
 Ae (cfg:=⟨[],[],[]⟩) (h:=(.seq .none (.seq (.seq .none (.block (.loop ⟨[(3,.int .i64),(0,.str)],[],[],[]⟩ .none))) .none))) mixed (fun _ _=>Tryz.call143 _ _) Tryz.func143 (by kernel_rfl) (by kernel_rfl) h
theorem Fe (r:Int) (st:St) (K:Bool->St->Prop) (h:BId ((0:Int)<=r) (BId (r<=1114111) (BId (r<55296) (K true st) (K ((decide ((57343:Int)<r))) st)) (K false st)) (K false st)):CallT PR BU [.int .i64 r] [.one .bool] st K:=
 Ae (cfg:=⟨[],[],[]⟩) (h:= .none) mixed (fun _ _=>Tryz.call144 _ _) Tryz.func144 (by kernel_rfl) (by kernel_rfl) h
section
structure Sc where
 kind:Int
 b:Bool
 neg:Bool
 dg:B8
 ex:Int
 tk:Int
 td:Int
 tn:Int
 tz:Int
 text:B8
 bytes:B8
mutual
inductive Vl where
 | mk (s:Sc) (l:List Vl) (f:List Fd)
inductive Fd where
 | mk (k:B8) (v:Vl)
end
def Vl.sc:Vl->Sc | .mk s _ _=>s
def Vl.list:Vl->List Vl | .mk _ l _=>l
def Vl.flds:Vl->List Fd | .mk _ _ f=>f
def Fd.key:Fd->B8 | .mk k _=>k
def Fd.val:Fd->Vl | .mk _ v=>v
def SlR (st:St) (sz:Nat) (v:TV) (n:Nat) (xs:List TV):Prop:=
 Rd sz v n xs∨∃b off cap l,v= .ms sz b off n cap/\b<st.nb/\st.box b= .cells l/\off+cap*sz<=l.length/\n<=cap/\xs=(l.drop off).take (n*sz)
theorem SlR.of_rd {st:St} {sz n:Nat} {v:TV} {xs:List TV} (h:Rd sz v n xs):SlR st sz v n xs:= .inl h
def A7 (st st':St):Prop:=st.nb<=st'.nb/\∀b,b<st.nb->st'.box b=st.box b
theorem SlR.keep {st st':St} (k:A7 st st') {sz n:Nat} {v:TV} {xs:List TV} (h:SlR st sz v n xs):SlR st' sz v n xs:=by
 rcases h with h | ⟨b,off,cap,l,h1,h2,h3,h4,h5,h6⟩
 ·exact .inl h
 ·exact .inr ⟨b,off,cap,l,h1,Nat.lt_of_lt_of_le h2 k.1,(k.2 b h2).trans h3,h4,h5,h6⟩
mutual
def VlR (st:St):Vl->List TV->Prop
 | .mk s l f,cs=>∃ub ul uf xl xf,cs=[.int .i64 s.kind,.bool s.b,.bool s.neg,.str s.dg,.int .i64 s.ex,.int .i64 s.tk,.int .i64 s.td,.int .i64 s.tn,.int .i64 s.tz,.str s.text,ub,ul,uf]/\
   SlR st 1 ub s.bytes.length (AM s.bytes)/\SlR st 13 ul l.length xl/\VsR st l xl/\SlR st 14 uf f.length xf/\FsR st f xf
def VsR (st:St):List Vl->List TV->Prop
 | [],xs=>xs=[]
 | v::r,xs=>∃a b,xs=a++b/\VlR st v a/\VsR st r b
def FdR (st:St):Fd->List TV->Prop
 | .mk k v,xs=>∃cs,xs= .str k::cs/\VlR st v cs
def FsR (st:St):List Fd->List TV->Prop
 | [],xs=>xs=[]
 | d::r,xs=>∃a b,xs=a++b/\FdR st d a/\FsR st r b
end
mutual
theorem VlR.keep {st st':St} (k:A7 st st'):∀{v:Vl} {cs:List TV},VlR st v cs->VlR st' v cs
 | .mk s l f,cs,h=>by
  unfold VlR at h⊢
  obtain⟨ub,ul,uf,xl,xf,h0,h1,h2,h3,h4,h5⟩:=h
  exact⟨ub,ul,uf,xl,xf,h0,h1.keep k,h2.keep k,VsR.keep k h3,h4.keep k,FsR.keep k h5⟩
theorem VsR.keep {st st':St} (k:A7 st st'):∀{l:List Vl} {cs:List TV},VsR st l cs->VsR st' l cs
 | [],cs,h=>by unfold VsR at h⊢;exact h
 | v::r,cs,h=>by
  unfold VsR at h⊢
  obtain⟨a,b,h0,h1,h2⟩:=h
  exact⟨a,b,h0,VlR.keep k h1,VsR.keep k h2⟩
theorem FdR.keep {st st':St} (k:A7 st st'):∀{d:Fd} {cs:List TV},FdR st d cs->FdR st' d cs
 | .mk key v,cs,h=>by
  unfold FdR at h⊢
  obtain⟨c,h0,h1⟩:=h
  exact⟨c,h0,VlR.keep k h1⟩
theorem FsR.keep {st st':St} (k:A7 st st'):∀{l:List Fd} {cs:List TV},FsR st l cs->FsR st' l cs
 | [],cs,h=>by unfold FsR at h⊢;exact h
 | d::r,cs,h=>by
  unfold FsR at h⊢
  obtain⟨a,b,h0,h1,h2⟩:=h
  exact⟨a,b,h0,FdR.keep k h1,FsR.keep k h2⟩
end
theorem VlR.len {st:St} {v:Vl} {cs:List TV} (h:VlR st v cs):cs.length=13:=by
 cases v;unfold VlR at h;obtain⟨ub,ul,uf,xl,xf,rfl,_⟩:=h;rfl
theorem FdR.len {st:St} {v:Fd} {cs:List TV} (h:FdR st v cs):cs.length=14:=by
 cases v;unfold FdR at h;obtain⟨c,rfl,h⟩:=h;simp[h.len]
theorem VsR.len {st:St}:∀{l:List Vl} {xs:List TV},VsR st l xs->xs.length=l.length*13
 | [],xs,h=>by unfold VsR at h;subst h;rfl
 | v::r,xs,h=>by
  unfold VsR at h
  obtain⟨a,b,rfl,h1,h2⟩:=h
  rw[List.length_append,h1.len,VsR.len h2,List.length_cons];omega
theorem FsR.len {st:St}:∀{l:List Fd} {xs:List TV},FsR st l xs->xs.length=l.length*14
 | [],xs,h=>by unfold FsR at h;subst h;rfl
 | v::r,xs,h=>by
  unfold FsR at h
  obtain⟨a,b,rfl,h1,h2⟩:=h
  rw[List.length_append,h1.len,FsR.len h2,List.length_cons];omega
theorem VsR.get {st:St}:∀{l:List Vl} {xs:List TV} {i:Nat} {v:Vl},VsR st l xs->l[i]? =some v->∃cs,VlR st v cs/\(xs.drop (i*13)).take 13=cs/\cs.length=13
 | [],xs,i,v,h,hi=>by simp at hi
 | w::r,xs,i,v,h,hi=>by
  unfold VsR at h
  obtain⟨a,b,rfl,h1,h2⟩:=h
  cases i with
  | zero=>
   simp only[List.getElem?_cons_zero,Option.some.injEq]at hi
   subst hi
   refine⟨a,h1,?_,h1.len⟩
   rw[Nat.zero_mul,List.drop_zero,<-h1.len,List.take_left]
  | succ i=>
   obtain⟨cs,h3,h4,h5⟩:=VsR.get h2 (by simpa using hi)
   refine⟨cs,h3,?_,h5⟩
   rw[show(i+1)*13=a.length+i*13 by rw[h1.len];omega,List.drop_append]
   simp only[Nat.add_sub_cancel_left]
   rw[List.drop_of_length_le (by omega),List.nil_append];exact h4
theorem FsR.get {st:St}:∀{l:List Fd} {xs:List TV} {i:Nat} {v:Fd},FsR st l xs->l[i]? =some v->∃cs,FdR st v cs/\(xs.drop (i*14)).take 14=cs/\cs.length=14
 | [],xs,i,v,h,hi=>by simp at hi
 | w::r,xs,i,v,h,hi=>by
  unfold FsR at h
  obtain⟨a,b,rfl,h1,h2⟩:=h
  cases i with
  | zero=>
   simp only[List.getElem?_cons_zero,Option.some.injEq]at hi
   subst hi
   refine⟨a,h1,?_,h1.len⟩
   rw[Nat.zero_mul,List.drop_zero,<-h1.len,List.take_left]
  | succ i=>
   obtain⟨cs,h3,h4,h5⟩:=FsR.get h2 (by simpa using hi)
   refine⟨cs,h3,?_,h5⟩
   rw[show(i+1)*14=a.length+i*14 by rw[h1.len];omega,List.drop_append]
   simp only[Nat.add_sub_cancel_left]
   rw[List.drop_of_length_le (by omega),List.nil_append];exact h4
mutual
def Vl.cnt:Vl->Nat
 | .mk _ l f=>1+Az l+Ay f
def Az:List Vl->Nat
 | []=>0
 | v::r=>v.cnt+Az r
def Fd.cnt:Fd->Nat
 | .mk _ v=>v.cnt
def Ay:List Fd->Nat
 | []=>0
 | d::r=>d.cnt+Ay r
end
end
structure StX (S:Nat->Prop) (a b:St):Prop where
 nb:a.nb<=b.nb
 box:∀i,i<a.nb->¬S i->b.box i=a.box i
 nt:a.nt<=b.nt
 live:∀i,i<a.nt->b.live i=a.live i
 ty:∀i,i<a.nt->b.ty i=a.ty i
 bt:∀i,i<a.nb->b.bt i=a.bt i
theorem StX.trans {S:Nat->Prop} {a b c:St} (h:StX S a b) (k:StX S b c):StX S a c:=
 ⟨Nat.le_trans h.nb k.nb,fun i hi hs=>(k.box i (Nat.lt_of_lt_of_le hi h.nb) hs).trans (h.box i hi hs),Nat.le_trans h.nt k.nt,fun i hi=>(k.live i (Nat.lt_of_lt_of_le hi h.nt)).trans (h.live i hi),fun i hi=>(k.ty i (Nat.lt_of_lt_of_le hi h.nt)).trans (h.ty i hi),fun i hi=>(k.bt i (Nat.lt_of_lt_of_le hi h.nb)).trans (h.bt i hi)⟩
theorem StX.of {S:Nat->Prop} {a b:St} (h:Ah a b):StX S a b:=⟨h.nb,fun i hi _=>h.box i hi,h.nt,h.live,h.ty,h.bt⟩
theorem StX.ext {S:Nat->Prop} {a b c:St} (h:Ah a b) (k:StX S b c) (hs:∀i,S i->a.nb<=i):Ah a c:=
 ⟨Nat.le_trans h.nb k.nb,fun i hi=>(k.box i (Nat.lt_of_lt_of_le hi h.nb) fun g=>absurd (hs i g) (by omega)).trans (h.box i hi),Nat.le_trans h.nt k.nt,fun i hi=>(k.live i (Nat.lt_of_lt_of_le hi h.nt)).trans (h.live i hi),fun i hi=>(k.ty i (Nat.lt_of_lt_of_le hi h.nt)).trans (h.ty i hi),fun i hi=>(k.bt i (Nat.lt_of_lt_of_le hi h.nb)).trans (h.bt i hi)⟩
theorem StX.put {S:Nat->Prop} {a:St} {i:Nat} (hi:S i) (o:Jr):StX S a (a.put i o):=
 ⟨Nat.le_refl _,fun j hj hs=>by simp only[St.put];rw[if_neg (by rintro rfl;exact hs hi)],Nat.le_refl _,fun _ _=>rfl,fun _ _=>rfl,fun _ _=>rfl⟩
theorem Tj {k:B8} {n1:Int} {b1 b2:Bool} {s2:B8} {n2 n3 n4 n5 n6:Int} {s3:B8} {u1 u2 u3:TV} {f:Fun [.str,.int .i64,.bool,.bool,.str,.int .i64,.int .i64,.int .i64,.int .i64,.int .i64,.str,.tv,.tv,.tv] Prop} (h:f k n1 b1 b2 s2 n2 n3 n4 n5 n6 s3 u1 u2 u3):
  Cd [.str,.int .i64,.bool,.bool,.str,.int .i64,.int .i64,.int .i64,.int .i64,.int .i64,.str,.tv,.tv,.tv] (.agg [.str k,.int .i64 n1,.bool b1,.bool b2,.str s2,.int .i64 n2,.int .i64 n3,.int .i64 n4,.int .i64 n5,.int .i64 n6,.str s3,u1,u2,u3]) f:=h
theorem KW:∀(ys A c B:List TV),ys.length=c.length->setAll (A++c++B) A.length ys=A++ys++B
 | [],A,c,B,h=>by
  have:c=[]:=List.eq_nil_of_length_eq_zero (by simpa using h.symm)
  subst this;rfl
 | y::ys,A,[],B,h=>by simp at h
 | y::ys,A,x::c,B,h=>by
  rw[setAll]
  have e:(A++x::c++B).set A.length y=(A++[y])++c++B:=by simp
  rw[e]
  have:=KW ys (A++[y]) c B (by simpa using h)
  rw[List.length_append]at this
  rw[show A.length+1=A.length+ [y].length from rfl,this]
  simp
theorem Jc {st:St} {b:Nat} {B:List TV}:∀(c:List TV) (l:List TV) (j o:Nat),st.box b= .cells l->l.drop (o+j)=c++B->Al st [] (.t (.box b o)) j c.length=some c
 | [],l,j,o,h,hd=>rfl
 | x::c,l,j,o,h,hd=>by
  have hx:l[o+j]? =some x:=by
   have:=congrArg (fun z:List TV=>z[0]?) hd
   simpa using this
  have hd2:l.drop (o+(j+1))=c++B:=by
   have:=congrArg (fun z:List TV=>z.drop 1) hd
   simpa [List.drop_drop,Nat.add_assoc]using this
  show(match Ac st [] (.t (.box b o)) j with | some x=>(Al st [] (.t (.box b o)) (j+1) c.length).map (x::·) | none=>none)=_
  have:Ac st [] (.t (.box b o)) j=some x:=by simp only[Ac,h];exact hx
  rw[this]
  simp only
  rw[Jc c l (j+1) o h hd2];rfl
theorem Hi {g:Ghost} {w:World} {l:B8} {v:Value} (h:Rel g w (.str l) v):v= .string ⟨l.toArray⟩:=by cases h;rfl
theorem Sn {g:Ghost} {w:World} {x:TV} {vs:List Value} (h:AE g w [x] vs):∃v,vs=[v]/\Rel g w x v:=by
 obtain⟨v,h1,h2⟩:=h.get? (i:=0) rfl
 have:=h.1
 cases vs with
 | nil=>simp at this
 | cons a r=>cases r with
  | nil=>simp at h1;subst h1;exact⟨_,rfl,h2⟩
  | cons b r=>simp at this
theorem Sm {g:Ghost} {w:World} {x y:TV} {vs:List Value} (h:AE g w [x,y] vs):∃v u,vs=[v,u]/\Rel g w x v/\Rel g w y u:=by
 obtain⟨v,h1,h2⟩:=h.get? (i:=0) rfl
 obtain⟨u,h3,h4⟩:=h.get? (i:=1) rfl
 have:=h.1
 cases vs with
 | nil=>simp at this
 | cons a r=>cases r with
  | nil=>simp at this
  | cons b r=>cases r with
   | nil=>simp at h1 h3;subst h1 h3;exact⟨_,_,rfl,h2,h4⟩
   | cons c r=>simp at this
section
inductive Pt {α β:Type} (R:α->β->Prop):List α->List β->Prop
 | nil:Pt R [] []
 | cons {a:α} {b:β} {l:List α} {m:List β}:R a b->Pt R l m->Pt R (a::l) (b::m)
theorem FsR.chunks {st:St}:∀{f:List Fd} {xs:List TV},FsR st f xs->∃cks:List (List TV),xs=cks.flatten/\Pt (FdR st) f cks
 | [],xs,h=>by unfold FsR at h;subst h;exact⟨[],rfl,.nil⟩
 | d::r,xs,h=>by
  unfold FsR at h
  obtain⟨a,b,rfl,h1,h2⟩:=h
  obtain⟨cks,rfl,h3⟩:=FsR.chunks h2
  exact⟨a::cks,by simp,.cons h1 h3⟩
theorem FsR.of_chunks {st:St} {f:List Fd} {cks:List (List TV)} (h:Pt (FdR st) f cks):FsR st f cks.flatten:=by
 induction h with
 | nil=>unfold FsR;rfl
 | cons r _ ih=>unfold FsR;exact⟨_,_,by simp,r,ih⟩
theorem SlR.one {st:St} {sz n:Nat} {u:TV} {xs:List TV} (h:SlR st sz u n xs):Aq u=true:=by
 rcases h with(⟨rfl,_⟩ | ⟨tip,rfl⟩) | ⟨b,off,cap,l,rfl,_⟩<;>rfl
theorem SlR.src {st:St} {sz n:Nat} {u:TV} {xs:List TV} (h:SlR st sz u n xs) (hl:xs.length=n*sz):BV st sz u=some (n,xs):=by
 rcases h with(⟨rfl,rfl,rfl⟩ | ⟨tip,rfl⟩) | ⟨b,off,cap,l,rfl,h2,h3,h4,h5,rfl⟩
 ·rfl
 ·simp[BV]
 ·have hlt:n*sz<=cap*sz:=Nat.mul_le_mul_right _ h5
  have e:=Jc (B:=l.drop (off+n*sz)) (st:=st) (b:=b) ((l.drop off).take (n*sz)) l 0 off h3 (by
   rw[Nat.add_zero,<-List.drop_drop,List.take_append_drop])
  rw[show((l.drop off).take (n*sz)).length=n*sz by simp;omega]at e
  simp only[BV,Nat.beq_refl]
  rw[e]
theorem Ah.keeps {a b:St} (h:Ah a b):A7 a b:=⟨h.nb,h.box⟩
section
variable {st:St}
end
end
section
def CY (st:St) (sz:Nat) (u:TV) (n:Nat) (xs:List TV) (bs:List Nat):Prop:=
 (n=0/\xs=[]/\bs=[]/\(u= .nilSlice∨u= .list sz .full 0 []))∨∃b cap tail,u= .ms sz b 0 n cap/\b<st.nb/\st.box b= .cells (xs++tail)/\(xs++tail).length=cap*sz/\xs.length=n*sz/\n<=cap/\bs=[b]
theorem CY.rd {st:St} {sz n:Nat} {u:TV} {xs:List TV} {bs:List Nat} (h:CY st sz u n xs bs):SlR st sz u n xs:=by
 rcases h with⟨rfl,rfl,rfl,rfl | rfl⟩ | ⟨b,cap,tail,rfl,h1,h2,h3,h4,h5,rfl⟩
 ·exact .inl (.inl ⟨rfl,rfl,rfl⟩)
 ·exact .inl (.inr ⟨_,rfl⟩)
 ·exact .inr ⟨b,0,cap,_,rfl,h1,h2,by omega,h5,by rw[List.drop_zero,<-h4,List.take_left]⟩
theorem CY.frame {S:Nat->Prop} {st st':St} (e:StX S st st') {sz n:Nat} {u:TV} {xs:List TV} {bs:List Nat} (hs:∀x,x∈bs->¬S x) (h:CY st sz u n xs bs):CY st' sz u n xs bs:=by
 rcases h with h | ⟨b,cap,tail,rfl,h1,h2,h3,h4,h5,rfl⟩
 ·exact .inl h
 ·exact .inr ⟨b,cap,tail,rfl,Nat.lt_of_lt_of_le h1 e.nb,(e.box b h1 (hs b (.head _))).trans h2,h3,h4,h5,rfl⟩
theorem CY.lt {st:St} {sz n:Nat} {u:TV} {xs:List TV} {bs:List Nat} (h:CY st sz u n xs bs):∀x,x∈bs->x<st.nb:=by
 rcases h with⟨_,_,rfl,_⟩ | ⟨b,cap,tail,rfl,h1,h2,h3,h4,h5,rfl⟩
 ·intro x hx;cases hx
 ·intro x hx;rcases List.mem_singleton.1 hx with rfl;exact h1
mutual
def VlO (st:St):Vl->List TV->List Nat->Prop
 | .mk s l f,cs,fp=>∃ub ul uf xl xf bb bl bf fl ff,cs=[.int .i64 s.kind,.bool s.b,.bool s.neg,.str s.dg,.int .i64 s.ex,.int .i64 s.tk,.int .i64 s.td,.int .i64 s.tn,.int .i64 s.tz,.str s.text,ub,ul,uf]/\
   CY st 1 ub s.bytes.length (AM s.bytes) bb/\CY st 13 ul l.length xl bl/\VsO st l xl fl/\CY st 14 uf f.length xf bf/\FsO st f xf ff/\fp=bb++(bl++(fl++(bf++ff)))
def VsO (st:St):List Vl->List TV->List Nat->Prop
 | [],xs,fp=>xs=[]/\fp=[]
 | v::r,xs,fp=>∃a b p q,xs=a++b/\fp=p++q/\VlO st v a p/\VsO st r b q
def FdO (st:St):Fd->List TV->List Nat->Prop
 | .mk k v,xs,fp=>∃cs,xs= .str k::cs/\VlO st v cs fp
def FsO (st:St):List Fd->List TV->List Nat->Prop
 | [],xs,fp=>xs=[]/\fp=[]
 | d::r,xs,fp=>∃a b p q,xs=a++b/\fp=p++q/\FdO st d a p/\FsO st r b q
end
mutual
theorem VlO.frame {S:Nat->Prop} {st st':St} (e:StX S st st'):∀{v:Vl} {cs:List TV} {fp:List Nat},(∀x,x∈fp->¬S x)->VlO st v cs fp->VlO st' v cs fp
 | .mk s l f,cs,fp,hs,h=>by
  unfold VlO at h⊢
  obtain⟨ub,ul,uf,xl,xf,bb,bl,bf,fl,ff,h0,h1,h2,h3,h4,h5,h6⟩:=h
  subst h6
  simp only[List.mem_append]at hs
  exact⟨ub,ul,uf,xl,xf,bb,bl,bf,fl,ff,h0,h1.frame e (fun x hx=>hs x (.inl hx)),h2.frame e (fun x hx=>hs x (.inr (.inl hx))),VsO.frame e (fun x hx=>hs x (.inr (.inr (.inl hx)))) h3,
   h4.frame e (fun x hx=>hs x (.inr (.inr (.inr (.inl hx))))),FsO.frame e (fun x hx=>hs x (.inr (.inr (.inr (.inr hx))))) h5,rfl⟩
theorem VsO.frame {S:Nat->Prop} {st st':St} (e:StX S st st'):∀{l:List Vl} {cs:List TV} {fp:List Nat},(∀x,x∈fp->¬S x)->VsO st l cs fp->VsO st' l cs fp
 | [],cs,fp,hs,h=>by unfold VsO at h⊢;exact h
 | v::r,cs,fp,hs,h=>by
  unfold VsO at h⊢
  obtain⟨a,b,p,q,h0,rfl,h1,h2⟩:=h
  simp only[List.mem_append]at hs
  exact⟨a,b,p,q,h0,rfl,VlO.frame e (fun x hx=>hs x (.inl hx)) h1,VsO.frame e (fun x hx=>hs x (.inr hx)) h2⟩
theorem FdO.frame {S:Nat->Prop} {st st':St} (e:StX S st st'):∀{d:Fd} {cs:List TV} {fp:List Nat},(∀x,x∈fp->¬S x)->FdO st d cs fp->FdO st' d cs fp
 | .mk key v,cs,fp,hs,h=>by
  unfold FdO at h⊢
  obtain⟨c,h0,h1⟩:=h
  exact⟨c,h0,VlO.frame e hs h1⟩
theorem FsO.frame {S:Nat->Prop} {st st':St} (e:StX S st st'):∀{l:List Fd} {cs:List TV} {fp:List Nat},(∀x,x∈fp->¬S x)->FsO st l cs fp->FsO st' l cs fp
 | [],cs,fp,hs,h=>by unfold FsO at h⊢;exact h
 | d::r,cs,fp,hs,h=>by
  unfold FsO at h⊢
  obtain⟨a,b,p,q,h0,rfl,h1,h2⟩:=h
  simp only[List.mem_append]at hs
  exact⟨a,b,p,q,h0,rfl,FdO.frame e (fun x hx=>hs x (.inl hx)) h1,FsO.frame e (fun x hx=>hs x (.inr hx)) h2⟩
end
theorem VsO.snoc {st:St} {v:Vl} {cv:List TV} {pv:List Nat}:∀{l:List Vl} {xs:List TV} {fp:List Nat},VsO st l xs fp->VlO st v cv pv->VsO st (l++[v]) (xs++cv) (fp++pv)
 | [],xs,fp,h,hv=>by
  unfold VsO at h
  obtain⟨rfl,rfl⟩:=h
  show VsO st [v] _ _
  unfold VsO
  exact⟨cv,[],pv,[],by simp,by simp,hv,by unfold VsO;exact⟨rfl,rfl⟩⟩
 | w::r,xs,fp,h,hv=>by
  unfold VsO at h
  obtain⟨a,b,p,q,rfl,rfl,h1,h2⟩:=h
  show VsO st (w::(r++[v])) _ _
  unfold VsO
  exact⟨a,b++cv,p,q++pv,by simp,by simp,h1,VsO.snoc h2 hv⟩
theorem FsO.snoc {st:St} {d:Fd} {cv:List TV} {pv:List Nat}:∀{l:List Fd} {xs:List TV} {fp:List Nat},FsO st l xs fp->FdO st d cv pv->FsO st (l++[d]) (xs++cv) (fp++pv)
 | [],xs,fp,h,hv=>by
  unfold FsO at h
  obtain⟨rfl,rfl⟩:=h
  show FsO st [d] _ _
  unfold FsO
  exact⟨cv,[],pv,[],by simp,by simp,hv,by unfold FsO;exact⟨rfl,rfl⟩⟩
 | w::r,xs,fp,h,hv=>by
  unfold FsO at h
  obtain⟨a,b,p,q,rfl,rfl,h1,h2⟩:=h
  show FsO st (w::(r++[d])) _ _
  unfold FsO
  exact⟨a,b++cv,p,q++pv,by simp,by simp,h1,FsO.snoc h2 hv⟩
theorem PG (xs ys tail:List TV) (h:ys.length<=tail.length):setAll (xs++tail) xs.length ys=xs++ys++tail.drop ys.length:=by
 have e:tail=tail.take ys.length++tail.drop ys.length:=(List.take_append_drop _ _).symm
 have:=KW ys xs (tail.take ys.length) (tail.drop ys.length) (by simp;omega)
 rw[List.append_assoc,List.take_append_drop]at this
 exact this
theorem J0 {T sz bytes:Nat} {st:St} {u:TV} {n k:Nat} {xs ys:List TV} {bs:List Nat} {K:TV->St->Prop} (h:CY st sz u n xs bs) (hk1:0<k) (hy:ys.length=k*sz) (hby:(n+k)*bytes<=140737488355328)
  (hK:∀u' st' bs',CY st' sz u' (n+k) (xs++ys) bs'->StX (·∈bs) st st'->((bs'=bs/\bs≠ [])∨bs'=[st.nb])->K u' st'):Jo T sz bytes u k ys st K:=by
 obtain⟨m,rfl⟩:∃m,k=m+1:=⟨k-1,by omega⟩
 have fresh:∀(zs:List TV) (N cap:Nat),zs.length=N*sz->N<=cap->CY (st.push (.cells (zs++Fm ((cap-N)*sz))) (some T)) sz (.ms sz st.nb 0 N cap) N zs [st.nb]:=fun zs N cap h1 h2=>
  .inr ⟨st.nb,cap,Fm ((cap-N)*sz),rfl,by simp[St.push],by simp[St.push],by rw[List.length_append,h1];simp only[Fm,List.length_replicate];rw[<-Nat.add_mul];congr 1;omega,h1,h2,rfl⟩
 rcases h with⟨rfl,rfl,rfl,rfl | rfl⟩ | ⟨b,cap,tail,rfl,h1,h2,h3,h4,h5,rfl⟩
 ·simp only[Jo,Ag]
  refine⟨by simpa using hby,fun cap hc=>hK _ _ [st.nb] ?_ (StX.of ((Ah.refl st).push _ _)) (.inr rfl)⟩
  have:=fresh ys (m+1) cap hy hc
  simpa using this
 ·simp only[Jo,Nat.beq_refl]
  refine⟨hby,fun cap hc=>hK _ _ [st.nb] ?_ (StX.of ((Ah.refl st).push _ _)) (.inr rfl)⟩
  have:=fresh ys (0+(m+1)) cap (by rw[hy];congr 1;omega) hc
  simpa using this
 ·simp only[Jo,Nat.beq_refl]
  rw[List.length_append]at h3
  refine⟨hby,_,h2,by rw[List.length_append];omega,fun hc=>?_,fun hc cap' hc'=>?_⟩
  ·have hmul:(n+(m+1))*sz<=cap*sz:=Nat.mul_le_mul_right _ hc
   rw[Nat.add_mul]at hmul
   rw[Nat.zero_add,<-h4,PG xs ys tail (by omega)]
   refine hK _ _ [b] (.inr ⟨b,cap,tail.drop ys.length,rfl,h1,by simp[St.put],by simp only[List.length_append,List.length_drop];omega,by rw[List.length_append,h4,hy,<-Nat.add_mul],hc,rfl⟩) (StX.put (S:=(·∈ [b])) (.head _) _) (.inl ⟨rfl,by simp⟩)
  ·rw[List.drop_zero,<-h4,List.take_left]
   exact hK _ _ [st.nb] (fresh (xs++ys) (n+(m+1)) cap' (by rw[List.length_append,h4,hy,<-Nat.add_mul]) hc') (StX.of ((Ah.refl st).push _ _)) (.inr rfl)
end
section
mutual
def Vl.sz:Vl->Nat
 | .mk s l f=>1+s.bytes.length+s.text.length+s.dg.length+Bw l+Bu f
def Bw:List Vl->Nat
 | []=>0
 | v::r=>v.sz+Bw r
def Fd.sz:Fd->Nat
 | .mk k v=>k.length+v.sz
def Bu:List Fd->Nat
 | []=>0
 | d::r=>d.sz+Bu r
end
theorem Vl.sz_pos (v:Vl):1<=v.sz:=by cases v;unfold Vl.sz;omega
theorem BJ:∀l:List Vl,l.length<=Bw l
 | []=>Nat.le_refl _
 | v::r=>by have:=BJ r;have:=v.sz_pos;unfold Bw;simp only[List.length_cons];omega
theorem By:∀l:List Fd,l.length<=Bu l
 | []=>Nat.le_refl _
 | .mk k v::r=>by have:=By r;have:=v.sz_pos;unfold Bu Fd.sz;simp only[List.length_cons];omega
theorem Cr:∀{l:List Vl} {i:Nat} {v:Vl},l[i]? =some v->v.sz<=Bw l
 | [],i,v,h=>by simp at h
 | w::r,0,v,h=>by simp at h;subst h;unfold Bw;omega
 | w::r,i+1,v,h=>by have:=Cr (by simpa using h:r[i]? =some v);unfold Bw;omega
theorem Cg:∀{l:List Fd} {i:Nat} {d:Fd},l[i]? =some d->d.sz<=Bu l
 | [],i,v,h=>by simp at h
 | w::r,0,v,h=>by simp at h;subst h;unfold Bu;omega
 | w::r,i+1,v,h=>by have:=Cg (by simpa using h:r[i]? =some v);unfold Bu;omega
theorem Lg {st:St} {ys:List TV}:∀(k j:Nat),j+k<=ys.length->Al st [] (.t (.rptr ys)) j k=some ((ys.drop j).take k)
 | 0,j,h=>by simp[Al]
 | k+1,j,h=>by
  show(match Ac st [] (.t (.rptr ys)) j with | some x=>(Al st [] (.t (.rptr ys)) (j+1) k).map (x::·) | none=>none)=_
  have hj:j<ys.length:=by omega
  have:Ac st [] (.t (.rptr ys)) j=some ys[j]:=by simp[Ac,hj]
  rw[this]
  simp only
  rw[Lg k (j+1) (by omega),List.drop_eq_getElem_cons hj]
  rfl
theorem SlR.ldc {st:St} {sz n i:Nat} {u:TV} {xs:List TV} (h:SlR st sz u n xs) (hl:xs.length=n*sz) (hi:i<n):Al st [] (.t (ixT sz u i)) 0 sz=some ((xs.drop (i*sz)).take sz):=by
 have hm:(i+1)*sz<=n*sz:=Nat.mul_le_mul_right _ hi
 rw[Nat.add_mul,Nat.one_mul]at hm
 rcases h with(⟨rfl,rfl,rfl⟩ | ⟨tip,rfl⟩) | ⟨b,off,cap,l,rfl,h2,h3,h4,h5,rfl⟩
 ·omega
 ·show Al st [] (.t (.rptr (xs.drop (i*sz)))) 0 sz=_
  rw[Lg sz 0 (by rw[List.length_drop];omega),List.drop_zero]
 ·have hc:n*sz<=cap*sz:=Nat.mul_le_mul_right _ h5
  have e1:(((l.drop off).take (n*sz)).drop (i*sz)).take sz=(l.drop (off+i*sz)).take sz:=by
   rw[List.drop_take,List.drop_drop,List.take_take,Nat.min_eq_left (by omega)]
  rw[e1]
  have e:=Jc (B:=l.drop (off+i*sz+sz)) (st:=st) (b:=b) ((l.drop (off+i*sz)).take sz) l 0 (off+i*sz) h3 (by
   have:=List.take_append_drop sz (l.drop (off+i*sz))
   rw[List.drop_drop]at this
   rw[Nat.add_zero];exact this.symm)
  rw[show((l.drop (off+i*sz)).take sz).length=sz by simp;omega]at e
  exact e
theorem SlR.lenZ {st:St} {sz n:Nat} {u:TV} {xs:List TV} (h:SlR st sz u n xs):TVF.lenZ sz u=n:=by
 rcases h with(⟨rfl,rfl,rfl⟩ | ⟨tip,rfl⟩) | ⟨b,off,cap,l,rfl,h2,h3,h4,h5,rfl⟩
 ·rfl
 ·simp[TVF.lenZ]
 ·simp[TVF.lenZ]
theorem SlR.lenS {st:St} {sz n:Nat} {u:TV} {xs:List TV} (h:SlR st sz u n xs):TVF.lenS u=n:=by
 rcases h with(⟨rfl,rfl,rfl⟩ | ⟨tip,rfl⟩) | ⟨b,off,cap,l,rfl,h2,h3,h4,h5,rfl⟩<;>rfl
theorem SlR.isSl {st:St} {sz n:Nat} {u:TV} {xs:List TV} (h:SlR st sz u n xs):TVF.isSl u=true:=by
 rcases h with(⟨rfl,rfl,rfl⟩ | ⟨tip,rfl⟩) | ⟨b,off,cap,l,rfl,h2,h3,h4,h5,rfl⟩<;>rfl
theorem CY.nil (st:St) (sz:Nat):CY st sz .nilSlice 0 [] []:= .inl ⟨rfl,rfl,rfl,.inl rfl⟩
theorem JW {n1:Int} {b1 b2:Bool} {s2:B8} {n2 n3 n4 n5 n6:Int} {s3:B8} {u1 u2 u3:TV} {f:Fun [.int .i64,.bool,.bool,.str,.int .i64,.int .i64,.int .i64,.int .i64,.int .i64,.str,.tv,.tv,.tv] Prop} (h:f n1 b1 b2 s2 n2 n3 n4 n5 n6 s3 u1 u2 u3):
  Cd [.int .i64,.bool,.bool,.str,.int .i64,.int .i64,.int .i64,.int .i64,.int .i64,.str,.tv,.tv,.tv] (.agg [.int .i64 n1,.bool b1,.bool b2,.str s2,.int .i64 n2,.int .i64 n3,.int .i64 n4,.int .i64 n5,.int .i64 n6,.str s3,u1,u2,u3]) f:=h
theorem C7 {n1:Int} {b1 b2:Bool} {s2:B8} {n2 n3 n4 n5 n6:Int} {s3:B8} {u1 u2 u3:TV} (h1:Aq u1=true) (h2:Aq u2=true) (h3:Aq u3=true):
  List.all [.int .i64 n1,.bool b1,.bool b2,.str s2,.int .i64 n2,.int .i64 n3,.int .i64 n4,.int .i64 n5,.int .i64 n6,.str s3,u1,u2,u3] Aq=true:=by
 simp only[List.all_cons,List.all_nil,h1,h2,h3,Bool.and_true];rfl
theorem RS {st:St} {u:TV} {l:B8} (h:SlR st 1 u l.length (AM l)) (hl:l.length<=10000000) {K:TV->St->Prop} (hk:∀v st' bs,CY st' 1 v l.length (AM l) bs->Ah st st'->(∀x,x∈bs->st.nb<=x)->bs.Nodup->K v st'):
  CallT PR Bv [u] [.one .tv] st K:=by
 have hb1:(AM l).length=l.length*1:=by rw[FA];omega
 have hone:List.all (AM l) Aq=true:=by
  rw[List.all_eq_true];intro x hx
  simp only[AM,List.mem_map]at hx
  obtain⟨y,_,rfl⟩:=hx;rfl
 refine Ej _ st K (Aa h.isSl ?_)
 cases hq:CP u with
 | true=>
  show K .nilSlice st
  have h0:l=[]:=by
   rcases h with(⟨rfl,h1,_⟩ | ⟨tip,rfl⟩) | ⟨b,off,cap,m,rfl,_⟩
   ·exact List.eq_nil_of_length_eq_zero h1
   ·cases hq
   ·cases hq
  subst h0
  exact hk _ st [] (CY.nil _ _) (Ah.refl _) (fun x hx=>by cases hx) List.nodup_nil
 | false=>
  show Ai (BV st 1 u) _
  refine Ad (h.src hb1) (Aa hone ?_)
  cases hlen:l.length with
  | zero=>
   have h0:l=[]:=List.eq_nil_of_length_eq_zero hlen
   subst h0
   simp only[Jo,Nat.beq_refl]
   exact⟨by omega,hk _ st [] (.inl ⟨rfl,rfl,rfl,.inr rfl⟩) (Ah.refl _) (fun x hx=>by cases hx) List.nodup_nil⟩
  | succ m=>
   refine J0 (.inl ⟨rfl,rfl,rfl,.inr rfl⟩) (by omega) (by rw[hb1,hlen]) (by omega) fun u' st' bs' ho e hbs=>?_
   rw[Nat.zero_add,List.nil_append,<-hlen]at ho
   rcases hbs with⟨_,h0⟩ | rfl
   ·exact absurd rfl h0
   ·exact hk _ st' _ ho (StX.ext (Ah.refl st) e (fun i hi=>by cases hi)) (fun x hx=>by rw[List.mem_singleton.1 hx];exact Nat.le_refl _) (by simp)
end
section
mutual
theorem VlO.lt {st:St}:∀{v:Vl} {cs:List TV} {fp:List Nat},VlO st v cs fp->∀x,x∈fp->x<st.nb
 | .mk s l f,cs,fp,h=>by
  unfold VlO at h
  obtain⟨ub,ul,uf,xl,xf,bb,bl,bf,fl,ff,h0,h1,h2,h3,h4,h5,rfl⟩:=h
  intro x hx
  simp only[List.mem_append]at hx
  rcases hx with hx | hx | hx | hx | hx
  ·exact h1.lt x hx
  ·exact h2.lt x hx
  ·exact VsO.lt h3 x hx
  ·exact h4.lt x hx
  ·exact FsO.lt h5 x hx
theorem VsO.lt {st:St}:∀{l:List Vl} {cs:List TV} {fp:List Nat},VsO st l cs fp->∀x,x∈fp->x<st.nb
 | [],cs,fp,h=>by unfold VsO at h;rw[h.2];intro x hx;cases hx
 | v::r,cs,fp,h=>by
  unfold VsO at h
  obtain⟨a,b,p,q,_,rfl,h1,h2⟩:=h
  intro x hx
  rcases List.mem_append.1 hx with hx | hx
  ·exact VlO.lt h1 x hx
  ·exact VsO.lt h2 x hx
theorem FdO.lt {st:St}:∀{d:Fd} {cs:List TV} {fp:List Nat},FdO st d cs fp->∀x,x∈fp->x<st.nb
 | .mk key v,cs,fp,h=>by
  unfold FdO at h
  obtain⟨c,_,h1⟩:=h
  exact VlO.lt h1
theorem FsO.lt {st:St}:∀{l:List Fd} {cs:List TV} {fp:List Nat},FsO st l cs fp->∀x,x∈fp->x<st.nb
 | [],cs,fp,h=>by unfold FsO at h;rw[h.2];intro x hx;cases hx
 | d::r,cs,fp,h=>by
  unfold FsO at h
  obtain⟨a,b,p,q,_,rfl,h1,h2⟩:=h
  intro x hx
  rcases List.mem_append.1 hx with hx | hx
  ·exact FdO.lt h1 x hx
  ·exact FsO.lt h2 x hx
end
theorem Vl.cnt_pos (v:Vl):1<=v.cnt:=by cases v;unfold Vl.cnt;omega
theorem Mj:∀{l:List Vl} {i:Nat} {v:Vl},l[i]? =some v->v.cnt<=Az l
 | [],i,v,h=>by simp at h
 | w::r,0,v,h=>by simp at h;subst h;unfold Az;omega
 | w::r,i+1,v,h=>by have:=Mj (by simpa using h:r[i]? =some v);unfold Az;omega
theorem ML:∀{l:List Fd} {i:Nat} {d:Fd},l[i]? =some d->d.cnt<=Ay l
 | [],i,v,h=>by simp at h
 | w::r,0,v,h=>by simp at h;subst h;unfold Ay;omega
 | w::r,i+1,v,h=>by have:=ML (by simpa using h:r[i]? =some v);unfold Ay;omega
theorem FY {A B:List Nat} (ha:A.Nodup) (hb:B.Nodup) (h:∀x,x∈A->x∉B):(A++B).Nodup:=
 List.nodup_append.2 ⟨ha,hb,fun x hx y hy e=>h x hx (e▸hy)⟩
structure NZ (b0:Nat) (st:St) (bl fl:List Nat):Prop where
 nd:(bl++fl).Nodup
 lo:∀x,x∈bl++fl->b0<=x
theorem NZ.nil (b0:Nat) (st:St):NZ b0 st [] []:=⟨List.nodup_nil,fun x hx=>by cases hx⟩
theorem NZ.snoc {b0 m k:Nat} {st st':St} {bl fl bs' fp:List Nat} (h:NZ b0 st bl fl) (hm:∀x,x∈bl++fl->x<m) (h0:b0<=m) (hk:∀x,x∈fp->m<=x/\x<k) (nd:fp.Nodup) (hmk:m<=k) (hb:(bs'=bl/\bl≠ [])∨bs'=[k]):NZ b0 st' bs' (fl++fp):=by
 have ndf:=(List.nodup_append.1 h.nd)
 have hfl:∀x,x∈fl->x<m:=fun x hx=>hm x (List.mem_append_right _ hx)
 have nfp:(fl++fp).Nodup:=FY ndf.2.1 nd fun x hx hx'=>by have:=hfl x hx;have:=(hk x hx').1;omega
 rcases hb with⟨rfl,_⟩ | rfl
 ·refine⟨FY ndf.1 nfp fun x hx hx'=>?_,fun x hx=>?_⟩
  ·rcases List.mem_append.1 hx' with hx' | hx'
   ·exact ndf.2.2 x hx x hx' rfl
   ·have:=hm x (List.mem_append_left _ hx);have:=(hk x hx').1;omega
  ·rcases List.mem_append.1 hx with hx | hx
   ·exact h.lo x (List.mem_append_left _ hx)
   ·rcases List.mem_append.1 hx with hx | hx
    ·exact h.lo x (List.mem_append_right _ hx)
    ·have:=(hk x hx).1;omega
 ·refine⟨FY (by simp) nfp fun x hx hx'=>?_,fun x hx=>?_⟩
  ·rcases List.mem_singleton.1 hx with rfl
   rcases List.mem_append.1 hx' with hx' | hx'
   ·have:=hfl x hx';omega
   ·have:=(hk x hx').2;omega
  ·rcases List.mem_append.1 hx with hx | hx
   ·rcases List.mem_singleton.1 hx with rfl;omega
   ·rcases List.mem_append.1 hx with hx | hx
    ·exact h.lo x (List.mem_append_right _ hx)
    ·have:=(hk x hx).1;omega
theorem QF {k:B8} {n1:Int} {b1 b2:Bool} {s2:B8} {n2 n3 n4 n5 n6:Int} {s3:B8} {u1 u2 u3:TV} (h1:Aq u1=true) (h2:Aq u2=true) (h3:Aq u3=true):
  List.all [.str k,.int .i64 n1,.bool b1,.bool b2,.str s2,.int .i64 n2,.int .i64 n3,.int .i64 n4,.int .i64 n5,.int .i64 n6,.str s3,u1,u2,u3] Aq=true:=by
 simp only[List.all_cons,List.all_nil,h1,h2,h3,Bool.and_true];rfl
def AA (s:Sc) (ub ul uf:TV):List TV:=[.int .i64 s.kind,.bool s.b,.bool s.neg,.str s.dg,.int .i64 s.ex,.int .i64 s.tk,.int .i64 s.td,.int .i64 s.tn,.int .i64 s.tz,.str s.text,ub,ul,uf]
theorem RP:∀(N:Nat) (v:Vl),v.sz<=N->N<=2000000->∀{st:St} {cs:List TV} {L:Int} {K:Int->Bool->Bool->B8->Int->Int->Int->Int->Int->B8->TV->TV->TV->St->Prop},VlR st v cs->(v.cnt:Int)<=L->L<=100000000->
  (∀ub ul uf st' fp,VlO st' v (AA v.sc ub ul uf) fp->Aq ub=true->Aq ul=true->Aq uf=true->fp.Nodup->(∀x,x∈fp->st.nb<=x)->Ah st st'->K v.sc.kind v.sc.b v.sc.neg v.sc.dg v.sc.ex v.sc.tk v.sc.td v.sc.tn v.sc.tz v.sc.text ub ul uf st')->
  CallT PR Cu [.agg cs,.int .i64 L] [.agg [.int .i64,.bool,.bool,.str,.int .i64,.int .i64,.int .i64,.int .i64,.int .i64,.str,.tv,.tv,.tv]] st K:=by
 intro N
 induction N with
 | zero=>intro v h;have:=v.sz_pos;omega
 | succ N ih=>
 intro v hN hN2 st cs L K h hL hL2 hk
 cases v with
 | mk s l f=>
 have hsz:(Vl.mk s l f).sz=1+s.bytes.length+s.text.length+s.dg.length+Bw l+Bu f:=by unfold Vl.sz;rfl
 have hct:(Vl.mk s l f).cnt=1+Az l+Ay f:=by unfold Vl.cnt;rfl
 have hll:=BJ l
 have hfl:=By f
 unfold VlR at h
 obtain⟨ub,ul,uf,xl,xf,rfl,h1,h2,h3,h4,h5⟩:=h
 have hxl:=h3.len
 have hxf:=h5.len
 refine Kg _ _ _ _ _ _ _ _ _ _ _ _ _ L st K (RS h1 (by omega) fun v1 st1 bb ho e1 lo1 nd1=>Aa (by rw[List.all_cons,ho.rd.one];rfl) (Ab (fun g=>absurd g (by omega)) fun _=>Aa h2.isSl ?_))
 refine⟨fun l1 n1 left u n2 a1 a2 a3 a4 a5 a6 a7 a8 a9 a10 a11 a12 a13 _ _ _ _ _ _ _ _ _ _ _ _ _ st'=>L=left/\ul=u/\(l.length:Int)=n2/\s.kind=a1/\s.b=a2/\s.neg=a3/\s.dg=a4/\s.ex=a5/\s.tk=a6/\s.td=a7/\s.tn=a8/\s.tz=a9/\s.text=a10/\v1=a11/\uf=a13/\
   ∃(k:Nat) (ys:List TV) (bl fp:List Nat),n1=(k:Int)/\k<=l.length/\CY st' 13 l1 k ys bl/\VsO st' (l.take k) ys fp/\NZ st1.nb st' bl fp/\Ah st1 st',
  fun _ n1 _ _ _ _ _ _ _ _ _ _ _ _ _ _ _ _ _ _ _ _ _ _ _ _ _ _ _ _ _ _=>(l.length-n1).toNat,⟨rfl,rfl,by rw[h2.lenS],rfl,rfl,rfl,rfl,rfl,rfl,rfl,rfl,rfl,rfl,rfl,rfl,0,[],[],[],rfl,Nat.zero_le _,CY.nil _ _,by simp only[List.take_zero];unfold VsO;exact⟨rfl,rfl⟩,NZ.nil _ _,Ah.refl _⟩,?_⟩
 rintro l1 _ _ _ _ _ _ _ _ _ _ _ _ _ _ _ v3 _ _ _ _ _ _ _ _ _ _ _ _ _ _ st2 ⟨rfl,rfl,rfl,rfl,rfl,rfl,rfl,rfl,rfl,rfl,rfl,rfl,rfl,rfl,rfl,k,ys,bl,fp,rfl,hkl,hol,hvs,hgr,e2⟩
 have e12:=e1.trans e2
 refine Ab (fun g=>?_) fun g=>?_
 ·have hkl2:k<l.length:=by omega
  have h2':=h2.keep e12.keeps
  have h3':=h3.keep e12.keeps
  have gw:l[k]? =some l[k]:=List.getElem?_eq_getElem hkl2
  obtain⟨cw,hw,hcw,hcl⟩:=h3'.get gw
  have hwsz:=Cr gw
  have hwct:=Mj gw
  have hwc1:=(l[k]).cnt_pos
  generalize l[k]=w at*
  have hld:(Al st2 [] (.t (ixT 13 ul (Int.toNat (k:Int)))) 0 13).map TV.agg=some (.agg cw):=by
   rw[Int.toNat_natCast,h2'.ldc hxl hkl2,hcw];rfl
  rw[h2'.lenZ]
  have hw0:=hw
  cases w with
  | mk s' l' f'=>
  unfold VlR at hw0
  obtain⟨ub',ul',uf',xl',xf',rfl,w1,w2,w3,w4,w5⟩:=hw0
  refine⟨⟨by omega,by omega⟩,Ad hld (JW (Aa (C7 w1.one w2.one w4.one) ?_))⟩
  rw[Aj _ (by omega) (by omega)]
  refine ih _ (by omega) (by omega) hw (by omega) (by omega) fun ub2 ul2 uf2 st3 fp2 ho2 o1 o2 o3 nd2 lo2 e3=>Aa (C7 o1 o2 o3) ?_
  have hol3:=hol.frame (StX.of (S:=fun _=>False) e3) (fun _ _ h=>h)
  have hvs3:=hvs.frame (StX.of (S:=fun _=>False) e3) (fun _ _ h=>h)
  refine J0 hol3 (by omega) rfl (by omega) fun u' st4 bs' ho4 e4 hbs=>?_
  have hm:∀x,x∈bl++fp->x<st2.nb:=fun x hx=>(List.mem_append.1 hx).elim (hol.lt x) (hvs.lt x)
  have hlt2:=ho2.lt
  have hnd:=List.nodup_append.1 hgr.nd
  have e14:Ah st1 st4:=StX.ext (e2.trans e3) e4 fun i hi=>hgr.lo i (List.mem_append_left _ hi)
  have hvs4:VsO st4 (l.take (k+1)) (ys++AA s' ub2 ul2 uf2) (fp++fp2):=by
   have t1:l.take (k+1)=l.take k++[.mk s' l' f']:=by
    have:=(List.getElem?_eq_some_iff.1 gw)
    obtain⟨q1,q2⟩:=this
    rw[List.take_succ_eq_append_getElem q1,q2]
   rw[t1]
   exact VsO.snoc (hvs3.frame e4 fun x hx hx'=>hnd.2.2 x hx' x hx rfl) (ho2.frame e4 fun x hx hx'=>by have:=lo2 x hx;have:=hol.lt x hx';omega)
  exact⟨⟨rfl,rfl,rfl,rfl,rfl,rfl,rfl,rfl,rfl,rfl,rfl,rfl,rfl,rfl,rfl,k+1,_,bs',fp++fp2,by rw[Aj _ (by omega) (by omega)];omega,by omega,ho4,hvs4,hgr.snoc hm e2.nb (fun x hx=>⟨lo2 x hx,hlt2 x hx⟩) nd2 e3.nb hbs,e14⟩,by dsimp only;rw[Aj _ (by omega) (by omega)];omega⟩
 ·have hk:k=l.length:=by omega
  subst hk
  rw[List.take_length]at hvs
  have hm:∀x,x∈bl++fp->x<st2.nb:=fun x hx=>(List.mem_append.1 hx).elim (hol.lt x) (hvs.lt x)
  refine Aa h4.isSl ?_
  refine⟨fun f1 n1 left l2 u n2 a1 a2 a3 a4 a5 a6 a7 a8 a9 a10 a11 a12 a13 _ _ _ _ _ _ _ _ _ _ _ _ _ st'=>L=left/\l1=l2/\uf=u/\(f.length:Int)=n2/\s.kind=a1/\s.b=a2/\s.neg=a3/\s.dg=a4/\s.ex=a5/\s.tk=a6/\s.td=a7/\s.tn=a8/\s.tz=a9/\s.text=a10/\v1=a11/\
    ∃(k:Nat) (zs:List TV) (bf ff:List Nat),n1=(k:Int)/\k<=f.length/\CY st' 14 f1 k zs bf/\FsO st' (f.take k) zs ff/\NZ st2.nb st' bf ff/\Ah st2 st',
   fun _ n1 _ _ _ _ _ _ _ _ _ _ _ _ _ _ _ _ _ _ _ _ _ _ _ _ _ _ _ _ _ _ _=>(f.length-n1).toNat,⟨rfl,rfl,rfl,by rw[h4.lenS],rfl,rfl,rfl,rfl,rfl,rfl,rfl,rfl,rfl,rfl,rfl,0,[],[],[],rfl,Nat.zero_le _,CY.nil _ _,by simp only[List.take_zero];unfold FsO;exact⟨rfl,rfl⟩,NZ.nil _ _,Ah.refl _⟩,?_⟩
  rintro f1 _ _ _ _ _ _ _ _ _ _ _ _ _ _ _ _ _ _ _ _ _ _ _ _ _ _ _ _ _ _ _ st5 ⟨rfl,rfl,rfl,rfl,rfl,rfl,rfl,rfl,rfl,rfl,rfl,rfl,rfl,rfl,rfl,k,zs,bf,ff,rfl,hkf,hof,hfs,hgf,e5⟩
  have e15:=e12.trans e5
  refine Ab (fun g=>?_) fun g=>?_
  ·have hkf2:k<f.length:=by omega
   have h4':=h4.keep e15.keeps
   have h5':=h5.keep e15.keeps
   have gw:f[k]? =some f[k]:=List.getElem?_eq_getElem hkf2
   obtain⟨cw,hw,hcw,hcl⟩:=h5'.get gw
   have hwsz:=Cg gw
   have hwct:=ML gw
   generalize f[k]=w at*
   have hld:(Al st5 [] (.t (ixT 14 uf (Int.toNat (k:Int)))) 0 14).map TV.agg=some (.agg cw):=by
    rw[Int.toNat_natCast,h4'.ldc hxf hkf2,hcw];rfl
   rw[h4'.lenZ]
   cases w with
   | mk key w=>
   unfold FdR at hw
   obtain⟨cw2,rfl,hw⟩:=hw
   have hwk:(Fd.mk key w).sz=key.length+w.sz:=by unfold Fd.sz;rfl
   have hwk2:(Fd.mk key w).cnt=w.cnt:=by unfold Fd.cnt;rfl
   have hwc1:=w.cnt_pos
   have hw0:=hw
   cases w with
   | mk s' l' f'=>
   unfold VlR at hw0
   obtain⟨ub',ul',uf',xl',xf',rfl,w1,w2,w3,w4,w5⟩:=hw0
   refine⟨⟨by omega,by omega⟩,Ad hld (Tj (Aa (QF w1.one w2.one w4.one) ?_))⟩
   rw[Aj _ (by omega) (by omega)]
   refine ih _ (by omega) (by omega) hw (by omega) (by omega) fun ub2 ul2 uf2 st6 fp2 ho2 o1 o2 o3 nd2 lo2 e6=>Aa (QF o1 o2 o3) ?_
   have hof6:=hof.frame (StX.of (S:=fun _=>False) e6) (fun _ _ h=>h)
   have hfs6:=hfs.frame (StX.of (S:=fun _=>False) e6) (fun _ _ h=>h)
   refine J0 hof6 (by omega) rfl (by omega) fun u' st7 bs' ho7 e7 hbs=>?_
   have hm5:∀x,x∈bf++ff->x<st5.nb:=fun x hx=>(List.mem_append.1 hx).elim (hof.lt x) (hfs.lt x)
   have hlt2:=ho2.lt
   have hnd:=List.nodup_append.1 hgf.nd
   have e27:Ah st2 st7:=StX.ext (e5.trans e6) e7 fun i hi=>hgf.lo i (List.mem_append_left _ hi)
   have hd7:FdO st7 (.mk key (.mk s' l' f')) (.str key::AA s' ub2 ul2 uf2) fp2:=by
    unfold FdO
    exact⟨_,rfl,ho2.frame e7 fun x hx hx'=>by have:=lo2 x hx;have:=hof.lt x hx';omega⟩
   have hfs7:FsO st7 (f.take (k+1)) (zs++ .str key::AA s' ub2 ul2 uf2) (ff++fp2):=by
    have t1:f.take (k+1)=f.take k++[.mk key (.mk s' l' f')]:=by
     obtain⟨q1,q2⟩:=List.getElem?_eq_some_iff.1 gw
     rw[List.take_succ_eq_append_getElem q1,q2]
    rw[t1]
    exact FsO.snoc (hfs6.frame e7 fun x hx hx'=>hnd.2.2 x hx' x hx rfl) hd7
   exact⟨⟨rfl,rfl,rfl,rfl,rfl,rfl,rfl,rfl,rfl,rfl,rfl,rfl,rfl,rfl,rfl,k+1,_,bs',ff++fp2,by rw[Aj _ (by omega) (by omega)];omega,by omega,ho7,hfs7,hgf.snoc hm5 e5.nb (fun x hx=>⟨lo2 x hx,hlt2 x hx⟩) nd2 e6.nb hbs,e27⟩,by dsimp only;rw[Aj _ (by omega) (by omega)];omega⟩
  ·have hk2:k=f.length:=by omega
   subst hk2
   rw[List.take_length]at hfs
   have ho5:=ho.frame (StX.of (S:=fun _=>False) (e2.trans e5)) (fun _ _ h=>h)
   have hol5:=hol.frame (StX.of (S:=fun _=>False) e5) (fun _ _ h=>h)
   have hvs5:=hvs.frame (StX.of (S:=fun _=>False) e5) (fun _ _ h=>h)
   have hb1:=ho.lt
   have e1n:=e1.nb
   have e2n:=e2.nb
   refine Aa (by rw[List.all_cons,hol.rd.one];rfl) (Aa (by rw[List.all_cons,hof.rd.one];rfl) (Aa (C7 ho.rd.one hol.rd.one hof.rd.one) ?_))
   refine hk v1 l1 f1 st5 (bb++(bl++(fp++(bf++ff)))) (by unfold VlO;exact⟨v1,l1,f1,ys,zs,bb,bl,bf,fp,ff,rfl,ho5,hol5,hvs5,hof,hfs,rfl⟩) ho.rd.one hol.rd.one hof.rd.one ?_ ?_ e15
   ·have e:bl++(fp++(bf++ff))=(bl++fp)++(bf++ff):=by simp
    rw[e]
    refine FY nd1 (FY hgr.nd hgf.nd fun x hx hx'=>?_) fun x hx hx'=>?_
    ·have:=hm x hx;have:=hgf.lo x hx';omega
    ·have:=hb1 x hx
     rcases List.mem_append.1 hx' with hx' | hx'
     ·have:=hgr.lo x hx';omega
     ·have:=hgf.lo x hx';omega
   ·intro x hx
    have e:bb++(bl++(fp++(bf++ff)))=bb++((bl++fp)++(bf++ff)):=by simp
    rw[e]at hx
    rcases List.mem_append.1 hx with hx | hx
    ·exact lo1 x hx
    ·rcases List.mem_append.1 hx with hx | hx
     ·have:=hgr.lo x hx;omega
     ·have:=hgf.lo x hx;omega
end
def LO (f:List Fd):Prop:=(f.map Fd.key).Nodup
theorem Pt.snoc {α β:Type} {R:α->β->Prop} {a:α} {b:β} {l:List α} {m:List β} (h:Pt R l m) (r:R a b):Pt R (l++[a]) (m++[b]):=by
 induction h with
 | nil=>exact .cons r .nil
 | cons r' _ ih=>exact .cons r' ih
theorem N7 {l:List Vl} {v:Vl} (h:v∈l):v.sz<=Bw l:=by
 obtain⟨i,hi⟩:=List.getElem?_of_mem h
 exact Cr hi
theorem Jf {l:List Fd} {v:Fd} (h:v∈l):v.sz<=Bu l:=by
 obtain⟨i,hi⟩:=List.getElem?_of_mem h
 exact Cg hi
theorem copy_ok {v:Vl} (hN:v.sz<=2000000) (hC:v.cnt<=65536) {st:St} {cs:List TV} {K:Int->Bool->Bool->B8->Int->Int->Int->Int->Int->B8->TV->TV->TV->St->Prop} (h:VlR st v cs)
  (hk:∀ub ul uf st' fp,VlO st' v (AA v.sc ub ul uf) fp->Aq ub=true->Aq ul=true->Aq uf=true->fp.Nodup->(∀x,x∈fp->st.nb<=x)->Ah st st'->K v.sc.kind v.sc.b v.sc.neg v.sc.dg v.sc.ex v.sc.tk v.sc.td v.sc.tn v.sc.tz v.sc.text ub ul uf st'):
  CallT PR Dj [.agg cs] [.agg [.int .i64,.bool,.bool,.str,.int .i64,.int .i64,.int .i64,.int .i64,.int .i64,.str,.tv,.tv,.tv]] st K:=by
 have h0:=h
 cases v with
 | mk s l f=>
 unfold VlR at h0
 obtain⟨ub,ul,uf,xl,xf,rfl,_⟩:=h0
 exact LU _ _ _ _ _ _ _ _ _ _ _ _ _ st K (RP 2000000 _ hN (by omega) h (by omega) (by omega) fun ub ul uf st' fp g o1 o2 o3 nd lo e=>Aa (C7 o1 o2 o3) (hk ub ul uf st' fp g o1 o2 o3 nd lo e))
theorem QG (n:Nat) (h:n<256):n.toUInt8.toNat=n:=by simp;omega
theorem RU (l:B8):List.all (AM l) Aq=true:=by
 rw[List.all_eq_true];intro x hx
 simp only[AM,List.mem_map]at hx
 obtain⟨y,_,rfl⟩:=hx;rfl
theorem JU {st0 st:St} {ul:TV} {xl:List TV} {l:List Vl} (hke:A7 st0 st) (h2:SlR st0 13 ul l.length xl) (h3:VsR st0 l xl) {i:Int} {k:Nat} (hi:i=k) (hk:k<l.length) {f:Fun [.int .i64,.bool,.bool,.str,.int .i64,.int .i64,.int .i64,.int .i64,.int .i64,.str,.tv,.tv,.tv] Prop}
  (hf:∀s' l' f' ub1 ul1 uf1,l[k]? =some (.mk s' l' f')->VlR st0 (.mk s' l' f') (AA s' ub1 ul1 uf1)->List.all (AA s' ub1 ul1 uf1) Aq=true->f s'.kind s'.b s'.neg s'.dg s'.ex s'.tk s'.td s'.tn s'.tz s'.text ub1 ul1 uf1):
  (0<=i/\i<(lenZ 13 ul:Int))/\Ai ((Al st [] (.t (ixT 13 ul (Int.toNat i))) 0 13).map TV.agg) fun x=>Cd [.int .i64,.bool,.bool,.str,.int .i64,.int .i64,.int .i64,.int .i64,.int .i64,.str,.tv,.tv,.tv] x f:=by
 subst hi
 have gw:l[k]? =some l[k]:=List.getElem?_eq_getElem hk
 obtain⟨cw,hw,hcw,hcl⟩:=h3.get gw
 rw[h2.lenZ,Int.toNat_natCast,(h2.keep hke).ldc h3.len hk,hcw]
 generalize l[k]=w at*
 cases w with
 | mk s' l' f'=>
 have hw0:=hw
 unfold VlR at hw0
 obtain⟨ub',ul',uf',xl',xf',rfl,w1,w2,w3,w4,w5⟩:=hw0
 exact⟨⟨by omega,by omega⟩,Ad rfl (JW (hf s' l' f' ub' ul' uf' gw hw (C7 w1.one w2.one w4.one)))⟩
theorem O6 {st0 st:St} {uf:TV} {xf:List TV} {l:List Fd} (hke:A7 st0 st) (h2:SlR st0 14 uf l.length xf) (h3:FsR st0 l xf) {i:Int} {k:Nat} (hi:i=k) (hk:k<l.length) {f:Fun [.str,.int .i64,.bool,.bool,.str,.int .i64,.int .i64,.int .i64,.int .i64,.int .i64,.str,.tv,.tv,.tv] Prop}
  (hf:∀key s' l' f' ub1 ul1 uf1,l[k]? =some (.mk key (.mk s' l' f'))->VlR st0 (.mk s' l' f') (AA s' ub1 ul1 uf1)->List.all (.str key::AA s' ub1 ul1 uf1) Aq=true->f key s'.kind s'.b s'.neg s'.dg s'.ex s'.tk s'.td s'.tn s'.tz s'.text ub1 ul1 uf1):
  (0<=i/\i<(lenZ 14 uf:Int))/\Ai ((Al st [] (.t (ixT 14 uf (Int.toNat i))) 0 14).map TV.agg) fun x=>Cd [.str,.int .i64,.bool,.bool,.str,.int .i64,.int .i64,.int .i64,.int .i64,.int .i64,.str,.tv,.tv,.tv] x f:=by
 subst hi
 have gw:l[k]? =some l[k]:=List.getElem?_eq_getElem hk
 obtain⟨cw,hw,hcw,hcl⟩:=h3.get gw
 rw[h2.lenZ,Int.toNat_natCast,(h2.keep hke).ldc h3.len hk,hcw]
 generalize l[k]=w at*
 cases w with
 | mk key w=>
 cases w with
 | mk s' l' f'=>
 have hw0:=hw
 unfold FdR at hw0
 obtain⟨cw2,rfl,hw1⟩:=hw0
 have hw2:=hw1
 unfold VlR at hw2
 obtain⟨ub',ul',uf',xl',xf',rfl,w1,w2,w3,w4,w5⟩:=hw2
 exact⟨⟨by omega,by omega⟩,Ad rfl (Tj (hf key s' l' f' ub' ul' uf' gw hw1 (QF w1.one w2.one w4.one)))⟩
theorem A0 {α:Type} {l:List α} {k:Nat} {v:α} (h:l[k]? =some v):l.take (k+1)=l.take k++[v]:=by
 obtain⟨q1,q2⟩:=List.getElem?_eq_some_iff.1 h
 rw[List.take_succ_eq_append_getElem q1,q2]
theorem Dp {α:Type} {l:List α} {k:Nat} {v:α} (h:l[k]? =some v):v∈l:=by
 obtain⟨q1,q2⟩:=List.getElem?_eq_some_iff.1 h
 rw[<-q2];exact List.getElem_mem q1
end Go.TVF
section
namespace Go.TVF
open Go.IntKind(i64 u8)
open Go
theorem or_i64 (x y:Nat) (hx:x<2^63) (hy:y<2^63):AH .or .i64 (x:Int) (y:Int)=((x ||| y:Nat):Int):=by
 have h:x ||| y<2^63:=Nat.or_lt_two_pow hx hy
 show IntKind.wrap .i64 ((BitVec.ofInt 64 (x:Int) ||| BitVec.ofInt 64 (y:Int)).toNat:Int)=_
 simp only[BitVec.ofInt_natCast,BitVec.toNat_or,BitVec.toNat_ofNat]
 rw[Nat.mod_eq_of_lt (by omega),Nat.mod_eq_of_lt (by omega),Aj _ (by omega) (by omega)]
theorem and_i64 (x y:Nat) (hx:x<2^63) (hy:y<2^63):AH .and .i64 (x:Int) (y:Int)=((x&&&y:Nat):Int):=by
 have h:x&&&y<2^63:=Nat.and_lt_two_pow _ hy
 show IntKind.wrap .i64 ((BitVec.ofInt 64 (x:Int)&&&BitVec.ofInt 64 (y:Int)).toNat:Int)=_
 simp only[BitVec.ofInt_natCast,BitVec.toNat_and,BitVec.toNat_ofNat]
 rw[Nat.mod_eq_of_lt (by omega),Nat.mod_eq_of_lt (by omega),Aj _ (by omega) (by omega)]
theorem TA (x y:Nat) (hx:x<2^8) (hy:y<2^8):AH .and .u8 (x:Int) (y:Int)=((x&&&y:Nat):Int):=by
 have h:x&&&y<2^8:=Nat.and_lt_two_pow _ hy
 show IntKind.wrap .u8 ((BitVec.ofInt 8 (x:Int)&&&BitVec.ofInt 8 (y:Int)).toNat:Int)=_
 simp only[BitVec.ofInt_natCast,BitVec.toNat_and,BitVec.toNat_ofNat]
 rw[Nat.mod_eq_of_lt (by omega),Nat.mod_eq_of_lt (by omega),wrapU8 _ (by omega) (by omega)]
theorem PP (a b m:Nat) (hb:b<2^m) (h:a*2^m+b<2^63):AH .or .i64 ((a*2^m:Nat):Int) (b:Int)=((a*2^m+b:Nat):Int):=by
 have hb':b<2^63:=by omega
 rw[or_i64 _ _ (by omega) hb',Nat.mul_comm a,Nat.two_pow_add_eq_or_of_lt hb]
theorem Hv (a m:Nat) (ha:a<2^63) (hm:m<63):AH .and .i64 (a:Int) ((2^m-1:Nat):Int)=((a%2^m:Nat):Int):=by
 have:2^m<2^63:=Nat.pow_lt_pow_right (by decide) hm
 rw[and_i64 _ _ ha (by omega),Nat.and_two_pow_sub_one_eq_mod]
theorem R5 (n:Nat) (h:n<=255):IntKind.wrap .i64 (n:Int)=n:=Aj _ (by omega) (by omega)
theorem F9 {α:Type} (l:List α) (i:Nat) (d:α) (h:i<l.length):l.take (i+1)=l.take i++[l.getD i d]:=by
 rw[List.take_add_one,List.getElem?_eq_getElem h,List.getD,List.getElem?_eq_getElem h];rfl
theorem shr_i64 (x m:Nat) (h:m<=64):Int.fdiv (x:Int) (2^(min m (IntKind.bits .i64)))=((x/2^m:Nat):Int):=by
 rw[show min m (IntKind.bits .i64)=m from Nat.min_eq_left h,show(2:Int)^m=((2^m:Nat):Int) by simp,Int.fdiv_eq_ediv_of_nonneg _ (Int.natCast_nonneg _)]
 rfl
theorem RH {α:Type} (l:List α) (i j:Nat) (d:α):(l.drop i).getD j d=l.getD (i+j) d:=by
 simp[List.getD,List.getElem?_drop]
theorem LY {α:Type} (l:List α) (i j:Nat):(l.take j).drop i=(l.drop i).take (j-i):=by
 rw[List.drop_take]
def bt (l:B8) (i:Nat):Nat:=(l.getD i 0).toNat
theorem Ev (l:B8) (i:Nat):bt l i<256:=(l.getD i 0).toNat_lt
theorem NS (l:B8) (i j:Nat):bt (l.drop i) j=bt l (i+j):=by simp[bt,RH]
def dN (l:B8):Nat×Nat:=Lib.decodeN l.length (bt l 0) (bt l 1) (bt l 2) (bt l 3)
def ul (l:B8):Nat:=if l=[]∨dN l=(65533,1)then 0 else(dN l).2
def ur (l:B8):Nat:=(dN l).1
def AV (r:Nat):Prop:=r<=1114111/\(r<55296∨57343<r)
instance (r:Nat):Decidable (AV r):=by unfold AV;infer_instance
def E0 (r:Nat):B8:=
 if r<128 then [UInt8.ofNat r]else if r<2048 then [UInt8.ofNat (192+r/64),UInt8.ofNat (128+r%64)]
 else if r<65536 then [UInt8.ofNat (224+r/4096),UInt8.ofNat (128+r/64%64),UInt8.ofNat (128+r%64)]
 else [UInt8.ofNat (240+r/262144),UInt8.ofNat (128+r/4096%64),UInt8.ofNat (128+r/64%64),UInt8.ofNat (128+r%64)]
theorem CL (n:Nat) (c:UInt8):UInt8.ofNat n=c↔n%256=c.toNat:=by
 rw[<-UInt8.toNat_inj];simp
theorem IM (l:B8) (h:1<=l.length):l.take 1=[l.getD 0 0]:=by
 rw[F9 l 0 0 (by omega)];rfl
theorem IL (l:B8) (h:2<=l.length):l.take 2=[l.getD 0 0,l.getD 1 0]:=by
 rw[F9 l 1 0 (by omega),IM l (by omega)];rfl
theorem Gn (l:B8) (h:3<=l.length):l.take 3=[l.getD 0 0,l.getD 1 0,l.getD 2 0]:=by
 rw[F9 l 2 0 (by omega),IL l (by omega)];rfl
theorem Jx (l:B8) (h:4<=l.length):l.take 4=[l.getD 0 0,l.getD 1 0,l.getD 2 0,l.getD 3 0]:=by
 rw[F9 l 3 0 (by omega),Gn l (by omega)];rfl
def rsz (b0:Nat):Nat:=if 240<=b0 then 4 else if 224<=b0 then 3 else if 192<=b0 then 2 else 1
def rb0 (b0:Nat):Nat:=if 240<=b0 then b0%8 else if 224<=b0 then b0%16 else if 192<=b0 then b0%32 else b0
def Cs (l:B8) (r0:Nat):Nat->Nat
 | 0=>r0
 | j+1=>Cs l r0 j*64+bt l (j+1)%64
theorem Nw (l:B8) (r0:Nat) (h:r0<256):∀j,Cs l r0 j<256*64^j
 | 0=>by simpa [Cs]using h
 | j+1=>by
  have:=Nw l r0 h j
  have h2:=Nat.mod_lt (bt l (j+1)) (show 0<64 by omega)
  simp only[Cs,Nat.pow_succ]
  omega
theorem rb0_lt (b0:Nat) (h:b0<256):rb0 b0<256:=by
 unfold rb0
 repeat' split
 all_goals omega
theorem Sj (b0:Nat):1<=rsz b0/\rsz b0<=4:=by
 unfold rsz
 repeat' split
 all_goals omega
def Rv (l:B8):Nat×Nat:=
 let size:=rsz (bt l 0)
 let r:=Cs l (rb0 (bt l 0)) (size-1)
 if l.length<size then(0,0)else if AV r/\E0 r=l.take size then(r,size)else(0,0)
theorem CU {a b:UInt8} {x y:B8}:(a::x=b::y)↔a=b/\x=y:=by simp
set_option maxHeartbeats 4000000 in
theorem Kt (l:B8) (h:l≠ []):Rv l=if ul l=0 then(0,0)else(ur l,ul l):=by
 have hl:1<=l.length:=by cases l with | nil=>exact absurd rfl h | cons a r=>simp
 have h0:=Ev l 0
 have h1:=Ev l 1
 have h2:=Ev l 2
 have h3:=Ev l 3
 have e0:(l.getD 0 0).toNat=bt l 0:=rfl
 have e1:(l.getD 1 0).toNat=bt l 1:=rfl
 have e2:(l.getD 2 0).toNat=bt l 2:=rfl
 have e3:(l.getD 3 0).toNat=bt l 3:=rfl
 have hul:ul l=if dN l=(65533,1)then 0 else(dN l).2:=by simp[ul,h]
 rw[hul,ur]
 unfold dN
 generalize hb0:bt l 0=b0 at*
 generalize hb1:bt l 1=b1 at*
 generalize hb2:bt l 2=b2 at*
 generalize hb3:bt l 3=b3 at*
 unfold Rv
 simp only[hb0]
 by_cases c4:240<=b0
 ·have r4:rsz b0=4:=by unfold rsz;rw[if_pos c4]
  have rb:rb0 b0=b0%8:=by unfold rb0;rw[if_pos c4]
  rw[r4,rb]
  simp only[Nat.reduceSub,Cs,hb1,hb2,hb3,Nat.zero_add,Nat.reduceAdd]
  by_cases hn:l.length<4
  ·rw[if_pos hn]
   have:Lib.decodeN l.length b0 b1 b2 b3=(65533,1):=by
    unfold Lib.decodeN
    rw[if_neg (by omega),if_neg (by omega),if_neg (by omega),if_neg (by omega)]
   rw[this];simp
  ·rw[if_neg hn]
   have hEnc:(AV (((b0%8*64+b1%64)*64+b2%64)*64+b3%64)/\E0 (((b0%8*64+b1%64)*64+b2%64)*64+b3%64)=l.take 4)↔(b0/8=30/\b1/64=2/\b2/64=2/\b3/64=2/\65536<=((b0%8*64+b1%64)*64+b2%64)*64+b3%64/\((b0%8*64+b1%64)*64+b2%64)*64+b3%64<=1114111):=by
    rw[Jx l (by omega)]
    generalize hr:((b0%8*64+b1%64)*64+b2%64)*64+b3%64=r
    unfold AV E0
    by_cases k1:r<128
    ·rw[if_pos k1];simp;omega
    ·rw[if_neg k1]
     by_cases k2:r<2048
     ·rw[if_pos k2];simp;omega
     ·rw[if_neg k2]
      by_cases k3:r<65536
      ·rw[if_pos k3];simp;omega
      ·rw[if_neg k3]
       simp only[CU,CL,e0,e1,e2,e3,and_true]
       omega
   by_cases hE:b0/8=30/\b1/64=2/\b2/64=2/\b3/64=2/\65536<=((b0%8*64+b1%64)*64+b2%64)*64+b3%64/\((b0%8*64+b1%64)*64+b2%64)*64+b3%64<=1114111
   ·rw[if_pos (hEnc.2 hE)]
    have:Lib.decodeN l.length b0 b1 b2 b3=(((b0%8*64+b1%64)*64+b2%64)*64+b3%64,4):=by
     unfold Lib.decodeN
     rw[if_neg (by omega),if_neg (by omega),if_neg (by omega),if_pos (by omega),if_pos (by omega)]
     simp only[Prod.mk.injEq,and_true];omega
    rw[this];simp
   ·rw[if_neg (fun hh=>hE (hEnc.1 hh))]
    have:Lib.decodeN l.length b0 b1 b2 b3=(65533,1):=by
     unfold Lib.decodeN
     rw[if_neg (by omega),if_neg (by omega),if_neg (by omega)]
     split
     ·rw[if_neg (by omega)]
     ·rfl
    rw[this];simp
 ·by_cases c3:224<=b0
  ·have r4:rsz b0=3:=by unfold rsz;rw[if_neg c4,if_pos c3]
   have rb:rb0 b0=b0%16:=by unfold rb0;rw[if_neg c4,if_pos c3]
   rw[r4,rb]
   simp only[Nat.reduceSub,Cs,hb1,hb2,Nat.zero_add,Nat.reduceAdd]
   by_cases hn:l.length<3
   ·rw[if_pos hn]
    have:Lib.decodeN l.length b0 b1 b2 b3=(65533,1):=by
     unfold Lib.decodeN
     rw[if_neg (by omega),if_neg (by omega),if_neg (by omega),if_neg (by omega)]
    rw[this];simp
   ·rw[if_neg hn]
    have hEnc:(AV ((b0%16*64+b1%64)*64+b2%64)/\E0 ((b0%16*64+b1%64)*64+b2%64)=l.take 3)↔(b1/64=2/\b2/64=2/\2048<=(b0%16*64+b1%64)*64+b2%64/\AV ((b0%16*64+b1%64)*64+b2%64)):=by
     rw[Gn l (by omega)]
     generalize hr:(b0%16*64+b1%64)*64+b2%64=r
     unfold AV E0
     by_cases k1:r<128
     ·rw[if_pos k1];simp;omega
     ·rw[if_neg k1]
      by_cases k2:r<2048
      ·rw[if_pos k2];simp;omega
      ·rw[if_neg k2]
       by_cases k3:r<65536
       ·rw[if_pos k3]
        simp only[CU,CL,e0,e1,e2,and_true]
        omega
       ·omega
    by_cases hE:b1/64=2/\b2/64=2/\2048<=(b0%16*64+b1%64)*64+b2%64/\AV ((b0%16*64+b1%64)*64+b2%64)
    ·rw[if_pos (hEnc.2 hE)]
     have:Lib.decodeN l.length b0 b1 b2 b3=((b0%16*64+b1%64)*64+b2%64,3):=by
      unfold AV at hE
      unfold Lib.decodeN
      rw[if_neg (by omega),if_neg (by omega),if_pos (by omega),if_pos (by omega)]
      simp only[Prod.mk.injEq,and_true];omega
     rw[this];simp
    ·rw[if_neg (fun hh=>hE (hEnc.1 hh))]
     have:Lib.decodeN l.length b0 b1 b2 b3=(65533,1):=by
      unfold AV at hE
      unfold Lib.decodeN
      rw[if_neg (by omega),if_neg (by omega)]
      split
      ·rw[if_neg (by omega)]
      ·rw[if_neg (by omega)]
     rw[this];simp
  ·by_cases c2:192<=b0
   ·have r4:rsz b0=2:=by unfold rsz;rw[if_neg c4,if_neg c3,if_pos c2]
    have rb:rb0 b0=b0%32:=by unfold rb0;rw[if_neg c4,if_neg c3,if_pos c2]
    rw[r4,rb]
    simp only[Nat.reduceSub,Cs,hb1,Nat.zero_add,Nat.reduceAdd]
    by_cases hn:l.length<2
    ·rw[if_pos hn]
     have:Lib.decodeN l.length b0 b1 b2 b3=(65533,1):=by
      unfold Lib.decodeN
      rw[if_neg (by omega),if_neg (by omega),if_neg (by omega),if_neg (by omega)]
     rw[this];simp
    ·rw[if_neg hn]
     have hEnc:(AV (b0%32*64+b1%64)/\E0 (b0%32*64+b1%64)=l.take 2)↔(b1/64=2/\128<=b0%32*64+b1%64):=by
      rw[IL l (by omega)]
      generalize hr:b0%32*64+b1%64=r
      unfold AV E0
      by_cases k1:r<128
      ·rw[if_pos k1];simp;omega
      ·rw[if_neg k1,if_pos (by omega)]
       simp only[CU,CL,e0,e1,and_true]
       omega
     by_cases hE:b1/64=2/\128<=b0%32*64+b1%64
     ·rw[if_pos (hEnc.2 hE)]
      have:Lib.decodeN l.length b0 b1 b2 b3=(b0%32*64+b1%64,2):=by
       unfold Lib.decodeN
       rw[if_neg (by omega),if_pos (by omega),if_pos (by omega)]
      rw[this];simp
     ·rw[if_neg (fun hh=>hE (hEnc.1 hh))]
      have:Lib.decodeN l.length b0 b1 b2 b3=(65533,1):=by
       unfold Lib.decodeN
       rw[if_neg (by omega)]
       split
       ·rw[if_neg (by omega)]
       ·rw[if_neg (by omega),if_neg (by omega)]
      rw[this];simp
   ·have r4:rsz b0=1:=by unfold rsz;rw[if_neg c4,if_neg c3,if_neg c2]
    have rb:rb0 b0=b0:=by unfold rb0;rw[if_neg c4,if_neg c3,if_neg c2]
    rw[r4,rb]
    simp only[Nat.reduceSub,Cs]
    rw[if_neg (by omega),IM l hl]
    have hEnc:(AV b0/\E0 b0=[l.getD 0 0])↔b0<128:=by
     unfold AV E0
     by_cases k1:b0<128
     ·rw[if_pos k1];simp only[CU,CL,e0,and_true];omega
     ·rw[if_neg k1,if_pos (by omega)];simp;omega
    by_cases hE:b0<128
    ·rw[if_pos (hEnc.2 hE)]
     have:Lib.decodeN l.length b0 b1 b2 b3=(b0,1):=by unfold Lib.decodeN;rw[if_pos hE]
     rw[this,if_neg (by simp;omega)]
     simp only[Prod.mk.injEq]
     rw[if_neg (by omega)]
     simp
    ·rw[if_neg (fun hh=>hE (hEnc.1 hh))]
     have:Lib.decodeN l.length b0 b1 b2 b3=(65533,1):=by
      unfold Lib.decodeN
      rw[if_neg (by omega),if_neg (by omega),if_neg (by omega),if_neg (by omega)]
     rw[this];simp
theorem ul_char (l:B8) (h:ul l≠0):AV (ur l)/\E0 (ur l)=l.take (ul l)/\ul l<=l.length/\ul l<=4:=by
 have hne:l≠ []:=fun h0=>h (by simp[ul,h0])
 have e:=Kt l hne
 rw[if_neg h]at e
 unfold Rv at e
 simp only at e
 split at e
 ·simp only[Prod.mk.injEq]at e;omega
 ·split at e
  ·rename_i hn hc
   simp only[Prod.mk.injEq]at e
   rw[<-e.1,<-e.2]
   exact⟨hc.1,hc.2,by omega,(Sj _).2⟩
  ·simp only[Prod.mk.injEq]at e;omega
theorem Od (l:B8):ul l<=l.length:=by
 by_cases h:ul l=0
 ·omega
 ·exact(ul_char l h).2.2.1
theorem R8 (l:B8) (h:l≠ []) (hb:bt l 0<128):ul l=1/\ur l=bt l 0:=by
 have:dN l=(bt l 0,1):=by unfold dN Lib.decodeN;rw[if_pos hb]
 unfold ul ur
 rw[this,if_neg (by simp[h];omega)]
 exact⟨rfl,rfl⟩
theorem Nd (l:B8) (h:l≠ []):ul l=0↔dN l=(65533,1):=by
 have hul:ul l=if dN l=(65533,1)then 0 else(dN l).2:=by simp[ul,h]
 rw[hul]
 constructor
 ·intro h0
  by_cases hd:dN l=(65533,1)
  ·exact hd
  ·rw[if_neg hd]at h0
   exfalso
   unfold dN Lib.decodeN at h0
   repeat' split at h0
   all_goals simp at h0
 ·intro h0;rw[if_pos h0]
theorem Tl (l:B8) (h:ul l≠0):dN l=(ur l,ul l):=by
 have hne:l≠ []:=fun h0=>h (by simp[ul,h0])
 have hul:ul l=if dN l=(65533,1)then 0 else(dN l).2:=by simp[ul,hne]
 have hd:dN l≠(65533,1):=fun hd=>h ((Nd l hne).2 hd)
 rw[if_neg hd]at hul
 rw[hul];rfl
theorem ul_not (l:B8) (h:ul l≠0):¬(ur l=65533/\ul l=1):=by
 intro hh
 have hne:l≠ []:=fun h0=>h (by simp[ul,h0])
 have:=Tl l h
 rw[hh.1,hh.2]at this
 exact h ((Nd l hne).2 this)
def DO (l:B8):Nat:=if h:ul l=0 then 0 else ul l+DO (l.drop (ul l))
termination_by l.length
decreasing_by
 have:=Od l
 simp only[List.length_drop];omega
theorem BX (l:B8) (h:ul l=0):DO l=0:=by rw[DO,dif_pos h]
theorem FQ (l:B8) (h:ul l≠0):DO l=ul l+DO (l.drop (ul l)):=by rw[DO,dif_neg h]
theorem QB:∀(n:Nat) (l:B8),l.length<=n->DO l<=l.length
 | 0,l,h=>by
  have:l=[]:=List.eq_nil_of_length_eq_zero (by omega)
  subst this
  rw[BX _ (by simp[ul])];simp
 | n+1,l,h=>by
  by_cases h0:ul l=0
  ·rw[BX l h0];omega
  ·have h1:=Od l
   have h2:=QB n (l.drop (ul l)) (by simp only[List.length_drop];omega)
   rw[FQ l h0]
   simp only[List.length_drop]at h2;omega
end Go.TVF
end
namespace Go.TVF
open Go.IntKind(i64 u8)
open Go Go.Proofs
def Iv (c:UInt8):Prop:=48<=c.toNat/\c.toNat<=57
instance (c:UInt8):Decidable (Iv c):=inferInstanceAs (Decidable (_/\_))
def Ge (l:B8):Nat:=(l.reverse.takeWhile (·==48)).length
def DA (neg:Bool) (dg:B8) (ex:Int):Prop:=
 (dg=[]->neg=false/\ex=0)/\(dg≠ []->dg.length<=120/\(∀c,c∈dg->Iv c)/\dg.getD 0 0≠48/\Ge dg=0/\ -400<=ex/\ex<=400)
instance (neg:Bool) (dg:B8) (ex:Int):Decidable (DA neg dg ex):=inferInstanceAs (Decidable ((_->_)/\(_->_)))
def De (k d n z:Int):Prop:=
 1<=k/\k<=4/\0<=d/\d<=3652058/\0<=n/\n<=86399999999999/\ -1439<=z/\z<=1439/\(k=2->d=0)/\(k=1->n=0)/\(k≠4->z=0)
instance (k d n z:Int):Decidable (De k d n z):=inferInstanceAs (Decidable (_/\_/\_/\_/\_/\_/\_/\_/\(_->_)/\(_->_)/\(_->_)))
def leapY (y:Nat):Prop:=y%4=0/\(y%100≠0∨y%400=0)
instance (y:Nat):Decidable (leapY y):=inferInstanceAs (Decidable (_/\_))
section
structure Gb (s:Sc) (l:List Vl) (f:List Fd):Prop where
 k0:0<=s.kind
 k7:s.kind<=7
 bo:s.kind≠1->s.b=false
 nu:s.kind≠2->s.neg=false/\s.dg=[]/\s.ex=0
 ti:s.kind≠3->s.tk=0/\s.td=0/\s.tn=0/\s.tz=0
 tx:s.kind≠4->s.text=[]
 by_:s.kind≠5->s.bytes=[]
 ls:s.kind≠6->l=[]
 fs:s.kind≠7->f=[]
noncomputable instance (s:Sc) (l:List Vl) (f:List Fd):Decidable (Gb s l f):=Classical.propDecidable _
def U8 (s:B8):Prop:=DO s=s.length
instance (s:B8):Decidable (U8 s):=inferInstanceAs (Decidable (_=_))
def Cf (seen:List B8):List Fd->Nat
 | []=>0
 | d::r=>if U8 d.key then(if 1024<d.key.length then 10 else if d.key∈seen then 8 else Cf (d.key::seen) r)else 5
noncomputable def Da (s:Sc) (l:List Vl) (f:List Fd):Nat:=
 if Gb s l f then(if DA s.neg s.dg s.ex then(if s.kind=3->De s.tk s.td s.tn s.tz then(if U8 s.text then(if 65536<s.text.length then 10 else if 65536<s.bytes.length then 10 else Cf [] f)else 5)else 2)else 2)else 6
noncomputable def ET (x:Nat×Nat) (f:Nat->Nat×Nat):Nat×Nat:=if x.2=0 then f x.1 else x
mutual
noncomputable def B5 (d n:Nat):Vl->Nat×Nat
 | .mk s l f=>if 48<d then(n,9)else if 65536<=n then(n,10)else if Da s l f≠0 then(n,Da s l f)else ET (Bq (d+1) (n+1) l) fun m=>BG (d+1) m f
noncomputable def Bq (d n:Nat):List Vl->Nat×Nat
 | []=>(n,0)
 | v::r=>ET (B5 d n v) fun m=>Bq d m r
noncomputable def Jm (d n:Nat):Fd->Nat×Nat
 | .mk _ v=>B5 d n v
noncomputable def BG (d n:Nat):List Fd->Nat×Nat
 | []=>(n,0)
 | x::r=>ET (Jm d n x) fun m=>BG d m r
end
noncomputable def AP (v:Vl):Nat:=(B5 1 0 v).2
theorem Bt {x:Nat×Nat} {f:Nat->Nat×Nat} (h:(ET x f).2=0):x.2=0/\(f x.1).2=0:=by
 unfold ET at h
 split at h
 ·rename_i h0;exact⟨h0,h⟩
 ·rename_i h0;exact absurd h h0
theorem BZ {x:Nat×Nat} {f:Nat->Nat×Nat} (h:x.2=0):ET x f=f x.1:=by unfold ET;rw[if_pos h]
theorem Hz {x:Nat×Nat} {f:Nat->Nat×Nat} (h:x.2≠0):ET x f=x:=by unfold ET;rw[if_neg h]
theorem OV:∀(f:List Fd) (seen:List B8),Cf seen f=0->LO f/\(∀d,d∈f->d.key∉seen/\U8 d.key/\d.key.length<=1024)
 | [],seen,_=>⟨List.nodup_nil,fun d h=>by cases h⟩
 | d::r,seen,h=>by
  unfold Cf at h
  split at h
  ·rename_i h1
   split at h
   ·cases h
   ·rename_i h2
    split at h
    ·cases h
    ·rename_i h3
     obtain⟨k1,k2⟩:=OV r (d.key::seen) h
     refine⟨?_,fun x hx=>?_⟩
     ·unfold LO
      rw[List.map_cons,List.nodup_cons]
      refine⟨fun hm=>?_,k1⟩
      obtain⟨x,hx,he⟩:=List.mem_map.1 hm
      exact(k2 x hx).1 (he▸.head _)
     ·rcases List.mem_cons.1 hx with rfl | hx
      ·exact⟨h3,h1,by omega⟩
      ·obtain⟨q1,q2,q3⟩:=k2 x hx
       exact⟨fun hm=>q1 (.tail _ hm),q2,q3⟩
  ·cases h
structure M8 (s:Sc) (l:List Vl) (f:List Fd):Prop where
 own:Gb s l f
 dec:DA s.neg s.dg s.ex
 time:s.kind=3->De s.tk s.td s.tn s.tz
 text:U8 s.text
 tlen:s.text.length<=65536
 blen:s.bytes.length<=65536
 keys:Cf [] f=0
theorem JJ {s:Sc} {l:List Vl} {f:List Fd}:Da s l f=0↔M8 s l f:=by
 unfold Da
 constructor
 ·intro h
  split at h
  ·rename_i h1
   split at h
   ·rename_i h2
    split at h
    ·rename_i h3
     split at h
     ·rename_i h4
      split at h
      ·cases h
      ·rename_i h5
       split at h
       ·cases h
       ·rename_i h6
        exact⟨h1,h2,h3,h4,by omega,by omega,h⟩
     ·cases h
    ·cases h
   ·cases h
  ·cases h
 ·intro h
  rw[if_pos h.own,if_pos h.dec,if_pos h.time,if_pos h.text,if_neg (by have:=h.tlen;omega),if_neg (by have:=h.blen;omega)]
  exact h.keys
mutual
def AD:Vl->Prop
 | .mk s l f=>M8 s l f/\BW l/\BE f
def BW:List Vl->Prop
 | []=>True
 | v::r=>AD v/\BW r
def Ep:Fd->Prop
 | .mk _ v=>AD v
def BE:List Fd->Prop
 | []=>True
 | d::r=>Ep d/\BE r
end
mutual
theorem NM:∀(v:Vl) (d n:Nat),(B5 d n v).2=0->AD v
 | .mk s l f,d,n,h=>by
  unfold B5 at h
  unfold AD
  split at h
  ·cases h
  ·split at h
   ·cases h
   ·split at h
    ·rename_i h1;exact absurd h h1
    ·rename_i h1
     obtain⟨h2,h3⟩:=Bt h
     exact⟨JJ.1 (Decidable.of_not_not h1),Pe l _ _ h2,Pi f _ _ h3⟩
theorem Pe:∀(l:List Vl) (d n:Nat),(Bq d n l).2=0->BW l
 | [],d,n,_=>by unfold BW;trivial
 | v::r,d,n,h=>by
  unfold Bq at h
  unfold BW
  obtain⟨h2,h3⟩:=Bt h
  exact⟨NM v _ _ h2,Pe r _ _ h3⟩
theorem chkD_ok:∀(x:Fd) (d n:Nat),(Jm d n x).2=0->Ep x
 | .mk k v,d,n,h=>by unfold Jm at h;unfold Ep;exact NM v _ _ h
theorem Pi:∀(l:List Fd) (d n:Nat),(BG d n l).2=0->BE l
 | [],d,n,_=>by unfold BE;trivial
 | x::r,d,n,h=>by
  unfold BG at h
  unfold BE
  obtain⟨h2,h3⟩:=Bt h
  exact⟨chkD_ok x _ _ h2,Pi r _ _ h3⟩
end
end
theorem SlR.isPtr {st:St} {sz n i:Nat} {u:TV} {xs:List TV} (h:SlR st sz u n xs) (hi:i<n):TVF.isPtr (ixT sz u i)=true:=by
 rcases h with(⟨rfl,rfl,rfl⟩ | ⟨tip,rfl⟩) | ⟨b,off,cap,l,rfl,_⟩
 ·omega
 ·rfl
 ·rfl
theorem SlR.ldcf {st:St} {sz n i f m:Nat} {u:TV} {xs:List TV} (h:SlR st sz u n xs) (hl:xs.length=n*sz) (hi:i<n) (hf:f+m<=sz):Al st [] (.t (Au (ixT sz u i) f)) 0 m=some ((xs.drop (i*sz+f)).take m):=by
 have hm:(i+1)*sz<=n*sz:=Nat.mul_le_mul_right _ hi
 rw[Nat.add_mul,Nat.one_mul]at hm
 rcases h with(⟨rfl,rfl,rfl⟩ | ⟨tip,rfl⟩) | ⟨b,off,cap,l,rfl,h2,h3,h4,h5,rfl⟩
 ·omega
 ·show Al st [] (.t (.rptr ((xs.drop (i*sz)).drop f))) 0 m=_
  rw[List.drop_drop,Lg m 0 (by rw[List.length_drop];omega),List.drop_zero]
 ·have hc:n*sz<=cap*sz:=Nat.mul_le_mul_right _ h5
  have e1:(((l.drop off).take (n*sz)).drop (i*sz+f)).take m=(l.drop (off+i*sz+f)).take m:=by
   rw[List.drop_take,List.drop_drop,List.take_take,Nat.min_eq_left (by omega),Nat.add_assoc]
  rw[e1]
  have e:=Jc (B:=l.drop (off+i*sz+f+m)) (st:=st) (b:=b) ((l.drop (off+i*sz+f)).take m) l 0 (off+i*sz+f) h3 (by
   have:=List.take_append_drop m (l.drop (off+i*sz+f))
   rw[List.drop_drop]at this
   rw[Nat.add_zero];exact this.symm)
  rw[show((l.drop (off+i*sz+f)).take m).length=m by simp;omega]at e
  exact e
theorem SlR.ldf {st:St} {sz n i f:Nat} {u x:TV} {xs:List TV} (h:SlR st sz u n xs) (hl:xs.length=n*sz) (hi:i<n) (hf:f<sz) (hx:xs[i*sz+f]? =some x):Ac st [] (.t (Au (ixT sz u i) f)) 0=some x:=by
 have:=h.ldcf (f:=f) (m:=1) hl hi (by omega)
 have hlt:i*sz+f<xs.length:=by
  obtain⟨q,_⟩:=List.getElem?_eq_some_iff.1 hx
  exact q
 rw[List.drop_eq_getElem_cons hlt]at this
 rw[List.getElem?_eq_getElem hlt]at hx
 simp only[Al,List.take_succ_cons,List.take_zero]at this
 cases hq:Ac st [] (.t (Au (ixT sz u i) f)) 0 with
 | none=>rw[hq]at this;cases this
 | some y=>
  rw[hq]at this
  simp only[Option.map_some,Option.some.injEq,List.cons.injEq,and_true]at this
  rw[this];exact hx
theorem SlR.toBytes {st:St} {u:TV} {l:B8} (h:SlR st 1 u l.length (AM l)):TVF.toBytes st u=some l:=by
 have hl:(AM l).length=l.length:=FA l
 rcases h with(⟨rfl,h1,_⟩ | ⟨tip,rfl⟩) | ⟨b,off,cap,m,rfl,h2,h3,h4,h5,h6⟩
 ·rw[List.eq_nil_of_length_eq_zero h1];rfl
 ·simp[TVF.toBytes,DN]
 ·have e:=Jc (B:=m.drop (off+l.length)) (st:=st) (b:=b) (AM l) m 0 off h3 (by
   rw[h6,Nat.add_zero,Nat.mul_one,<-List.drop_drop,List.take_append_drop])
  rw[hl]at e
  simp only[TVF.toBytes,Nat.beq_refl,e,DN]
theorem Lk {st0 st:St} {uf:TV} {xf:List TV} {l:List Fd} (hke:A7 st0 st) (h2:SlR st0 14 uf l.length xf) (h3:FsR st0 l xf) {i:Int} {k:Nat} (hi:i=k) {d:Fd} (hd:l[k]? =some d) {f:B8->Prop} (hf:f d.key):
  (0<=i/\i<(lenZ 14 uf:Int))/\need (TVF.isPtr (ixT 14 uf (Int.toNat i))) (Ai (Ac st [] (.t (Au (ixT 14 uf (Int.toNat i)) 0)) 0) fun x=>AS .str x f):=by
 subst hi
 obtain⟨hk,_⟩:=List.getElem?_eq_some_iff.1 hd
 obtain⟨cw,hw,hcw,hcl⟩:=h3.get hd
 rw[h2.lenZ,Int.toNat_natCast]
 have hx:xf[k*14+0]? =some (.str d.key):=by
  cases d with
  | mk key w=>
   unfold FdR at hw
   obtain⟨cs,rfl,_⟩:=hw
   have:=congrArg (fun z=>z[0]?) hcw
   simpa [Fd.key]using this
 exact⟨⟨by omega,by omega⟩,Aa (h2.isPtr hk) (Ad ((h2.keep hke).ldf h3.len hk (by omega) hx) hf)⟩
theorem Mm {st0 st:St} {uf:TV} {xf:List TV} {l:List Fd} (hke:A7 st0 st) (h2:SlR st0 14 uf l.length xf) (h3:FsR st0 l xf) {i:Int} {k:Nat} (hi:i=k) (hk:k<l.length) {f:Fun [.int .i64,.bool,.bool,.str,.int .i64,.int .i64,.int .i64,.int .i64,.int .i64,.str,.tv,.tv,.tv] Prop}
  (hf:∀key s' l' f' ub1 ul1 uf1,l[k]? =some (.mk key (.mk s' l' f'))->VlR st0 (.mk s' l' f') (AA s' ub1 ul1 uf1)->List.all (AA s' ub1 ul1 uf1) Aq=true->f s'.kind s'.b s'.neg s'.dg s'.ex s'.tk s'.td s'.tn s'.tz s'.text ub1 ul1 uf1):
  (0<=i/\i<(lenZ 14 uf:Int))/\need (TVF.isPtr (ixT 14 uf (Int.toNat i))) (Ai ((Al st [] (.t (Au (ixT 14 uf (Int.toNat i)) 1)) 0 13).map TV.agg) fun x=>Cd [.int .i64,.bool,.bool,.str,.int .i64,.int .i64,.int .i64,.int .i64,.int .i64,.str,.tv,.tv,.tv] x f):=by
 subst hi
 have gw:l[k]? =some l[k]:=List.getElem?_eq_getElem hk
 obtain⟨cw,hw,hcw,hcl⟩:=h3.get gw
 rw[h2.lenZ,Int.toNat_natCast]
 refine⟨⟨by omega,by omega⟩,Aa (h2.isPtr hk) ?_⟩
 rw[(h2.keep hke).ldcf (f:=1) (m:=13) h3.len hk (by omega)]
 generalize l[k]=w at*
 cases w with
 | mk key w=>
 cases w with
 | mk s' l' f'=>
 unfold FdR at hw
 obtain⟨cw2,rfl,hw1⟩:=hw
 have hw2:=hw1
 unfold VlR at hw2
 obtain⟨ub',ul',uf',xl',xf',rfl,w1,w2,w3,w4,w5⟩:=hw2
 have e:(xf.drop (k*14+1)).take 13=AA s' ub' ul' uf':=by
  rw[<-List.drop_drop]
  have:=congrArg (fun z=>z.drop 1) hcw
  simp only[List.drop_take]at this
  simpa [AA]using this
 rw[e]
 exact Ad rfl (JW (hf key s' l' f' ub' ul' uf' gw hw1 (C7 w1.one w2.one w4.one)))
theorem Rd.src {sz n:Nat} {v:TV} {xs:List TV} (h:Rd sz v n xs) (hl:xs.length=n*sz) (st:St):BV st sz v=some (n,xs):=(SlR.of_rd (st:=st) h).src hl
theorem A7.trans {a b c:St} (h:A7 a b) (k:A7 b c):A7 a c:=⟨Nat.le_trans h.1 k.1,fun i hi=>(k.2 i (Nat.lt_of_lt_of_le hi h.1)).trans (h.2 i hi)⟩
theorem Dk {s:B8} {f:B8->Prop} (h:f s):AS .str (.str s) f:=h
theorem Cj {k:IntKind} {n:Int} {f:Int->Prop} (h:f n):AS (.int k) (.int k n) f:=by
 simp only[AS];exact h
theorem Dz {b:Bool} {f:Bool->Prop} (h:f b):AS .bool (.bool b) f:=h
theorem Gd {α:Type} {K:α->St->Prop} {a b:α} {st:St} (h:a=b) (hk:K b st):K a st:=h▸hk
theorem Md {r:Int} {st:St} {K:Bool->St->Prop} (h0:0<=r) (hk:K (decide (AV r.toNat)) st):CallT PR BU [.int .i64 r] [.one (.bool)] st K:=by
 refine Fe _ st K (Ab (fun _=>Ab (fun h2=>Ab (fun h3=>?_) fun h3=>?_) fun h2=>?_) fun h1=>absurd h0 h1)
 ·have:AV r.toNat:=by unfold AV;omega
  simpa [this]using hk
 ·have:decide ((57343:Int)<r)=decide (AV r.toNat):=by
   rw[Bool.eq_iff_iff];simp only[decide_eq_true_eq];unfold AV;omega
  rw[this];exact hk
 ·have:¬AV r.toNat:=by unfold AV;omega
  simpa [this]using hk
theorem Ew (st:St) (n:Nat) (l:B8) (xs:List TV) (h:xs=AM l):(toBytes st (.list 1 .full n xs)).map TV.str=some (.str l):=by
 subst h;simp[toBytes,DN]
theorem Fy (n:Nat):IntKind.wrap .u8 (n:Int)=((UInt8.ofNat n).toNat:Int):=by
 unfold IntKind.wrap
 simp only[IntKind.signed,IntKind.bits]
 simp
 try omega
theorem orN (a b m:Nat) (hb:b<2^m) (h:a*2^m+b<2^63) (x y:Int) (hx:x=((a*2^m:Nat):Int)) (hy:y=(b:Int)):AH .or .i64 x y=((a*2^m+b:Nat):Int):=by
 rw[hx,hy];exact PP a b m hb h
theorem Qc {R:Int} {r:Nat} {st:St} {K:B8->Int->St->Prop} (hR:R=(r:Int)) (hr:r<2^40) (hk:K (if AV r then E0 r else []) (if AV r then 0 else 2) st):CallT PR BC [.int .i64 R] [.one (.str),.one (.int .i64)] st K:=by
 have shr:∀m,m<=64->Int.fdiv R (2^(min m (IntKind.bits .i64)))=((r/2^m:Nat):Int):=fun m hm=>by rw[hR];exact shr_i64 r m hm
 have s6:=shr 6 (by decide)
 have s12:=shr 12 (by decide)
 have s18:=shr 18 (by decide)
 have m63:∀x:Nat,x<2^63->AH .and .i64 (x:Int) (63:Int)=((x%64:Nat):Int):=fun x hx=>Hv x 6 hx (by decide)
 have mR:AH .and .i64 R (63:Int)=((r%64:Nat):Int):=by rw[hR];exact m63 r (by omega)
 have o128:∀x:Nat,x<64->AH .or .i64 (128:Int) (x:Int)=((128+x:Nat):Int):=fun x hx=>orN 2 x 6 (by omega) (by omega) _ _ rfl rfl
 have hR0:0<=R:=by omega
 have hRn:R.toNat=r:=by omega
 refine Gh _ st K (Md hR0 (As (fun h0=>?_) fun h0=>?_))
 ·have hc:¬AV r:=by rw[hRn]at h0;simpa using h0
  rw[if_neg hc,if_neg hc]at hk
  exact hk
 ·have hc:AV r:=by rw[hRn]at h0;simpa using h0
  rw[if_pos hc,if_pos hc]at hk
  unfold E0 at hk
  refine Ab (fun h1=>?_) fun h1=>Ab (fun h2=>?_) fun h2=>Ab (fun h3=>?_) fun h3=>?_
  ·rw[if_pos (by omega)]at hk
   exact Ad (Ew _ _ _ _ (by simp only[AM,List.map,Jn];rw[hR,Fy])) hk
  ·rw[if_neg (by omega),if_pos (by omega)]at hk
   have o192:AH .or .i64 (192:Int) ((r/2^6:Nat):Int)=((192+r/64:Nat):Int):=orN 6 _ 5 (by omega) (by omega) _ _ rfl rfl
   refine Ad (Ew _ _ _ _ ?_) hk
   simp only[AM,List.map,Jn]
   rw[show Int.toNat (6:Int)=6 from rfl,s6,o192,mR,o128 _ (by omega),Fy,Fy]
  ·rw[if_neg (by omega),if_neg (by omega),if_pos (by omega)]at hk
   have o224:AH .or .i64 (224:Int) ((r/2^12:Nat):Int)=((224+r/4096:Nat):Int):=orN 14 _ 4 (by omega) (by omega) _ _ rfl rfl
   refine Ad (Ew _ _ _ _ ?_) hk
   simp only[AM,List.map,Jn]
   rw[show Int.toNat (6:Int)=6 from rfl,show Int.toNat (12:Int)=12 from rfl,s6,s12,o224,mR,m63 (r/2^6) (by omega),o128 _ (by omega),o128 _ (by omega),Fy,Fy,Fy]
  ·rw[if_neg (by omega),if_neg (by omega),if_neg (by omega)]at hk
   have hr2:r<=1114111:=hc.1
   have o240:AH .or .i64 (240:Int) ((r/2^18:Nat):Int)=((240+r/262144:Nat):Int):=orN 30 _ 3 (by omega) (by omega) _ _ rfl rfl
   refine Ad (Ew _ _ _ _ ?_) hk
   simp only[AM,List.map,Jn]
   rw[show Int.toNat (6:Int)=6 from rfl,show Int.toNat (12:Int)=12 from rfl,show Int.toNat (18:Int)=18 from rfl,s6,s12,s18,o240,mR,m63 (r/2^6) (by omega),m63 (r/2^12) (by omega),o128 _ (by omega),o128 _ (by omega),o128 _ (by omega),Fy,Fy,Fy,Fy]
theorem RJ {r:Nat} {st:St} {K:B8->Int->St->Prop} (hr:r<2^40) (hk:K (if AV r then E0 r else []) (if AV r then 0 else 2) st):CallT PR BC [.int .i64 (r:Int)] [.one (.str),.one (.int .i64)] st K:=
 Qc rfl hr hk
def rD (l:B8):Nat×Nat:=if ul l=0 then(0,0)else(ur l,ul l)
theorem OB {s:B8} {I:Int} {i:Nat} {st:St} {K:Int->Int->St->Prop} (hI:I=(i:Int)) (hl:s.length<=2000000) (hi:i<=s.length) (hk:K ((rD (s.drop i)).1:Nat) ((rD (s.drop i)).2:Nat) st):CallT PR BD [.str s,.int .i64 I] [.one (.int .i64),.one (.int .i64)] st K:=by
 refine Gi s I st K (Ab (fun h=>by omega) fun _=>Ab (fun h=>?_) fun h=>⟨⟨by omega,by omega⟩,?_⟩)
 ·have:s.drop i=[]:=List.drop_of_length_le (by omega)
  have h0:rD (s.drop i)=(0,0):=by rw[this];simp[rD,ul]
  rw[h0]at hk;exact hk
 ·have hne:s.drop i≠ []:=by
   intro h0
   have:=congrArg List.length h0
   simp at this;omega
  have href:=Kt (s.drop i) hne
  have hb0:(List.getD s (Int.toNat I) 0).toNat=bt (s.drop i) 0:=by rw[NS,hI];rfl
  have hlt:=Ev (s.drop i) 0
  have hlen:(s.drop i).length=s.length-i:=by simp
  rw[hb0,R5 _ (by omega)]
  have m15:AH .and .i64 ((bt (s.drop i) 0:Nat):Int) (15:Int)=((bt (s.drop i) 0%16:Nat):Int):=Hv _ 4 (by omega) (by decide)
  have m7:AH .and .i64 ((bt (s.drop i) 0:Nat):Int) (7:Int)=((bt (s.drop i) 0%8:Nat):Int):=Hv _ 3 (by omega) (by decide)
  have m31:AH .and .i64 ((bt (s.drop i) 0:Nat):Int) (31:Int)=((bt (s.drop i) 0%32:Nat):Int):=Hv _ 5 (by omega) (by decide)
  rw[m15,m7,m31]
  refine⟨fun size r s' at' st1=>s=s'/\I=at'/\st=st1/\((rsz (bt (s.drop i) 0):Nat):Int)=size/\((rb0 (bt (s.drop i) 0):Nat):Int)=r,?_,?_⟩
  ·refine Ab (fun h1=>⟨rfl,rfl,rfl,?_,?_⟩) fun h1=>Ab (fun h2=>⟨rfl,rfl,rfl,?_,?_⟩) fun h2=>Ab (fun h3=>⟨rfl,rfl,rfl,?_,?_⟩) fun h3=>⟨rfl,rfl,rfl,?_,?_⟩
   ·unfold rsz;rw[if_pos (by omega)];rfl
   ·unfold rb0;rw[if_pos (by omega)]
   ·unfold rsz;rw[if_neg (by omega),if_pos (by omega)];rfl
   ·unfold rb0;rw[if_neg (by omega),if_pos (by omega)]
   ·unfold rsz;rw[if_neg (by omega),if_neg (by omega),if_pos (by omega)];rfl
   ·unfold rb0;rw[if_neg (by omega),if_neg (by omega),if_pos (by omega)]
   ·unfold rsz;rw[if_neg (by omega),if_neg (by omega),if_neg (by omega)];rfl
   ·unfold rb0;rw[if_neg (by omega),if_neg (by omega),if_neg (by omega)]
  ·rintro _ _ _ _ _ ⟨rfl,rfl,rfl,rfl,rfl⟩
   have hs:=Sj (bt (s.drop i) 0)
   have hr0:=rb0_lt _ hlt
   generalize hsz:rsz (bt (s.drop i) 0)=size at*
   generalize hrr:rb0 (bt (s.drop i) 0)=r0 at*
   have hra:=Nw (s.drop i) r0 hr0
   unfold Rv at href
   simp only[hsz,hrr]at href
   rw[Aj _ (by omega) (by omega)]
   refine Ab (fun h1=>?_) fun h1=>?_
   ·rw[if_pos (by omega)]at href
    have:rD (s.drop i)=(0,0):=by unfold rD;rw[<-href]
    rw[this]at hk;exact hk
   ·rw[if_neg (by omega)]at href
    refine⟨fun r j s' at' sz st2=>s=s'/\I=at'/\st=st2/\((size:Nat):Int)=sz/\∃k:Nat,j=((k+1:Nat):Int)/\k+1<=size/\r=((Cs (s.drop i) r0 k:Nat):Int),fun _ j _ _ sz _=>(sz-j).toNat,⟨rfl,rfl,rfl,rfl,0,rfl,hs.1,rfl⟩,?_⟩
    rintro _ _ _ _ _ _ ⟨rfl,rfl,rfl,rfl,k,rfl,hk1,rfl⟩
    have hrk:=hra k
    have h64:64^k<=64^3:=Nat.pow_le_pow_right (by decide) (by omega)
    refine Ab (fun h2=>?_) fun h2=>?_
    ·rw[Aj _ (by omega) (by omega)]
     have hbk:(List.getD s (Int.toNat (I+((k+1:Nat):Int))) 0).toNat=bt (s.drop i) (k+1):=by
      rw[NS,show Int.toNat (I+((k+1:Nat):Int))=i+(k+1) by omega];rfl
     have hbl:=Ev (s.drop i) (k+1)
     have hand:AH .and .i64 (i64.wrap ((bt (s.drop i) (k+1):Nat):Int)) (63:Int)=((bt (s.drop i) (k+1)%64:Nat):Int):=by
      rw[R5 _ (by omega)];exact Hv _ 6 (by omega) (by decide)
     have hmul:i64.wrap (((Cs (s.drop i) r0 k:Nat):Int)*2^(min (Int.toNat (6:Int)) (IntKind.bits .i64)))=((Cs (s.drop i) r0 k*2^6:Nat):Int):=by
      rw[show(2:Int)^(min (Int.toNat (6:Int)) (IntKind.bits .i64))=64 by decide,Aj _ (by omega) (by omega)];omega
     refine⟨⟨by omega,by omega⟩,?_⟩
     rw[hbk,hand,hmul,PP _ _ 6 (by omega) (by omega),Aj _ (by omega) (by omega)]
     exact⟨⟨rfl,rfl,rfl,rfl,k+1,by omega,by omega,by simp only[Cs]⟩,by dsimp only;omega⟩
    ·have hks:k=size-1:=by omega
     subst hks
     refine RJ (by omega) ?_
     generalize hR:Cs (s.drop i) r0 (size-1)=R at*
     refine Ab (fun h3=>?_) fun h3=>?_
     ·have hc:¬AV R:=by intro hc;rw[if_pos hc]at h3;exact h3 rfl
      rw[if_neg (fun h=>hc h.1)]at href
      have:rD (s.drop i)=(0,0):=by unfold rD;rw[<-href]
      rw[this]at hk;exact hk
     ·have hc:AV R:=by
       apply Decidable.byContradiction
       intro hc;rw[if_neg hc]at h3;exact h3 (by decide)
      rw[if_pos hc,Aj _ (by omega) (by omega)]
      refine⟨⟨by omega,by omega,by omega⟩,?_⟩
      rw[LY,show Int.toNat (I+(size:Int))-Int.toNat I=size by omega,show Int.toNat I=i by omega]
      refine Ab (fun h4=>?_) fun h4=>?_
      ·rw[if_neg (fun h=>h4 h.2)]at href
       have:rD (s.drop i)=(0,0):=by unfold rD;rw[<-href]
       rw[this]at hk;exact hk
      ·rw[if_pos ⟨hc,Decidable.not_not.1 h4⟩]at href
       have:rD (s.drop i)=(R,size):=by unfold rD;rw[<-href]
       rw[this]at hk;exact hk
theorem PL {s:B8} {i:Nat} {st:St} {K:Int->Int->St->Prop} (hl:s.length<=2000000) (hi:i<=s.length) (hk:K ((rD (s.drop i)).1:Nat) ((rD (s.drop i)).2:Nat) st):CallT PR BD [.str s,.int .i64 (i:Int)] [.one (.int .i64),.one (.int .i64)] st K:=
 OB rfl hl hi hk
theorem N8 (l:B8):DO l<=l.length:=QB _ l (Nat.le_refl _)
theorem KE:DO []=0:=BX _ (by simp[ul])
theorem Rd.ldx {sz:Nat} {v:TV} {n:Nat} {xs:List TV} (h:Rd sz v n xs) (st:St) (i j:Nat) {x:TV} (hx:xs[i*sz+j]? =some x):Ac st [] (.t (ixT sz v i)) j=some x:=by
 obtain⟨hlt,hx⟩:=List.getElem?_eq_some_iff.1 hx
 rw[h.ld st i j hlt,hx]
theorem Rd.ldfx {sz:Nat} {v:TV} {n:Nat} {xs:List TV} (h:Rd sz v n xs) (st:St) (i j:Nat) {x:TV} (hx:xs[i*sz+j]? =some x):Ac st [] (.t (Au (ixT sz v i) j)) 0=some x:=by
 obtain⟨hlt,hx⟩:=List.getElem?_eq_some_iff.1 hx
 rw[h.ldf st i j hlt,hx]
theorem Me {s:B8} {st:St} {K:TV->Bool->St->Prop} (hl:s.length<=2000000)
  (hk:∀v xs st',Ah st st'->Rd 1 v (xs.length+1) (xs++[.int .i64 ((DO s:Nat):Int)])->xs.length<=s.length->K v (decide (DO s=s.length)) st'):CallT PR BN [.str s] [.one (.tv),.one (.bool)] st K:=by
 have hv:=N8 s
 refine ER s st K ⟨fun v i s' st'=>s=s'/\Ah st st'/\∃(k:Nat) (xs:List TV),i=(k:Int)/\k<=s.length/\k+DO (s.drop k)=DO s/\xs.length<=k/\Own st.nt 1 st' v (xs.length+1) (xs++[.int .i64 (k:Int)]),fun _ i _ _=>(s.length-i).toNat,⟨rfl,Ah.refl _,0,[],rfl,by omega,by simp,by simp,Own.full _ _ _ _ _⟩,?_⟩
 rintro v _ _ st1 ⟨rfl,e,k,xs,rfl,h1,h2,h3,h4⟩
 refine Ab (fun g1=>?_) fun g1=>?_
 ·have hle:=Od (s.drop k)
  rw[List.length_drop]at hle
  refine PL hl h1 ?_
  unfold rD
  by_cases h0:ul (s.drop k)=0
  ·rw[if_pos h0]
   rw[BX _ h0]at h2
   refine Ab (fun _=>?_) fun h=>absurd rfl h
   have:=hk v xs st1 e (by rw[<-h2];exact h4.rd) (by omega)
   rw[decide_eq_false (by omega)]at this
   exact this
  ·rw[if_neg h0]
   rw[FQ _ h0,List.drop_drop]at h2
   have w:i64.wrap ((k:Int)+(ul (s.drop k):Nat))=((k+ul (s.drop k):Nat):Int):=by rw[Aj _ (by omega) (by omega)];omega
   refine Ab (fun h=>by simp only at h;omega) fun _=>?_
   dsimp only
   rw[w]
   refine Hu e rfl h4 (by omega) (fun h=>by cases h) fun v' st' e' _ ho=>⟨⟨rfl,e',k+ul (s.drop k),xs++[.int .i64 (k:Int)],rfl,by omega,by omega,by rw[List.length_append];simp;omega,?_⟩,by omega⟩
   rw[List.length_append];exact ho
 ·rw[show s.drop k=[]from List.drop_of_length_le (by omega),KE]at h2
  have hks:k=DO s:=by omega
  have:=hk v xs st1 e (by rw[<-hks];exact h4.rd) (by omega)
  rw[decide_eq_true (by omega)]at this
  exact this
theorem Mr {s:B8} {st:St} {K:Bool->St->Prop} (hl:s.length<=2000000) (hk:∀st',Ah st st'->K (decide (DO s=s.length)) st'):CallT PR A1 [.str s] [.one (.bool)] st K:=
 GT s st K (Me hl fun v xs st1 e hr hx=>hk st1 e)
def hdS (b:Nat):Nat:=if b<128 then 1 else if 192<=b/\b<224 then 2 else if 224<=b/\b<240 then 3 else if 240<=b/\b<248 then 4 else 0
def hdB (b:Nat):Nat:=if b<128 then b else if 192<=b/\b<224 then b%32 else if 224<=b/\b<240 then b%16 else if 240<=b/\b<248 then b%8 else 0
def wid (r:Nat):Nat:=if r<128 then 1 else if r<2048 then 2 else if r<65536 then 3 else 4
theorem HN (a m:Nat) (ha:a<256) (hm:m<=8):AH .and .u8 (a:Int) ((2^m-1:Nat):Int)=((a%2^m:Nat):Int):=by
 have:2^m<=2^8:=Nat.pow_le_pow_right (by decide) hm
 rw[TA _ _ ha (by omega),Nat.and_two_pow_sub_one_eq_mod]
theorem head_ok {B:Int} {b:Nat} {st:St} {K:Int->Int->St->Prop} (hB:B=(b:Int)) (hb:b<256) (hk:K (hdS b:Nat) (hdB b:Nat) st):CallT PR Hq [.int .u8 B] [.one (.int .i64),.one (.int .i64)] st K:=by
 have m31:AH .and .u8 B (31:Int)=((b%32:Nat):Int):=by rw[hB];exact HN b 5 hb (by decide)
 have m15:AH .and .u8 B (15:Int)=((b%16:Nat):Int):=by rw[hB];exact HN b 4 hb (by decide)
 have m7:AH .and .u8 B (7:Int)=((b%8:Nat):Int):=by rw[hB];exact HN b 3 hb (by decide)
 unfold hdS hdB at hk
 have kk:∀(x y x' y':Int),x=x'->y=y'->K x' y' st->K x y st:=fun x y x' y' h1 h2 hk=>by rw[h1,h2];exact hk
 refine N9 B st K ?_
 rw[m31,m15,m7,Aj B (by omega) (by omega),Aj ((b%32:Nat):Int) (by omega) (by omega),Aj ((b%16:Nat):Int) (by omega) (by omega),Aj ((b%8:Nat):Int) (by omega) (by omega)]
 by_cases g1:b<128
 ·rw[if_pos g1,if_pos g1]at hk
  exact Ab (fun _=>kk _ _ _ _ rfl hB hk) fun h=>by omega
 rw[if_neg g1,if_neg g1]at hk
 refine Ab (fun h=>by omega) fun _=>?_
 by_cases g2:192<=b/\b<224
 ·rw[if_pos g2,if_pos g2]at hk
  exact Ab (fun _=>Ab (fun _=>hk) fun h=>by omega) fun h=>by omega
 rw[if_neg g2,if_neg g2]at hk
 by_cases g3:224<=b/\b<240
 ·rw[if_pos g3,if_pos g3]at hk
  refine Ab (fun _=>Ab (fun h=>by omega) fun _=>?_) fun h=>by omega
  exact Ab (fun _=>Ab (fun _=>hk) fun h=>by omega) fun h=>by omega
 rw[if_neg g3,if_neg g3]at hk
 by_cases g4:240<=b/\b<248
 ·rw[if_pos g4,if_pos g4]at hk
  refine Ab (fun _=>Ab (fun h=>by omega) fun _=>?_) fun h=>by omega
  refine Ab (fun _=>Ab (fun h=>by omega) fun _=>?_) fun h=>by omega
  exact Ab (fun _=>Ab (fun _=>hk) fun h=>by omega) fun h=>by omega
 rw[if_neg g4,if_neg g4]at hk
 repeat' first
  | exact hk
  | omega
  | refine Ab (fun _=>?_) fun _=>?_
theorem Rs {R:Int} {r:Nat} {st:St} {K:Bool->St->Prop} (hR:R=(r:Int)) (hk:K (decide (AV r)) st):CallT PR FH [.int .i64 R] [.one (.bool)] st K:=by
 unfold AV at hk
 refine LV R st K (Ab (fun _=>Ab (fun h2=>Ab (fun h3=>?_) fun h3=>?_) fun h2=>?_) fun h1=>by omega)
 ·exact Gd (decide_eq_true (by omega)).symm hk
 ·exact Gd (decide_eq_decide.2 (by omega)) hk
 ·exact Gd (decide_eq_false (by omega)).symm hk
theorem R6 {R:Int} {r:Nat} {st:St} {K:Int->St->Prop} (hR:R=(r:Int)) (hk:K (wid r:Nat) st):CallT PR GD [.int .i64 R] [.one (.int .i64)] st K:=by
 unfold wid at hk
 refine Nb R st K (Ab (fun h1=>?_) fun h1=>Ab (fun h2=>?_) fun h2=>Ab (fun h3=>?_) fun h3=>?_)
 ·rw[if_pos (by omega)]at hk;exact hk
 ·rw[if_neg (by omega),if_pos (by omega)]at hk;exact hk
 ·rw[if_neg (by omega),if_neg (by omega),if_pos (by omega)]at hk;exact hk
 ·rw[if_neg (by omega),if_neg (by omega),if_neg (by omega)]at hk;exact hk
def Nx (l:B8):Prop:=hdS (bt l 0)≠0/\hdS (bt l 0)<=l.length/\(∀j,1<=j->j<hdS (bt l 0)->bt l j/64=2)/\AV (Cs l (hdB (bt l 0)) (hdS (bt l 0)-1))/\wid (Cs l (hdB (bt l 0)) (hdS (bt l 0)-1))=hdS (bt l 0)
theorem pd_val (l:B8) (h:l≠ []) (hp:Nx l):ul l=hdS (bt l 0)/\ur l=Cs l (hdB (bt l 0)) (hdS (bt l 0)-1):=by
 obtain⟨p1,p2,p3,p4,p5⟩:=hp
 have e:=Kt l h
 have h0:=Ev l 0
 have e0:(l.getD 0 0).toNat=bt l 0:=rfl
 have e1:(l.getD 1 0).toNat=bt l 1:=rfl
 have e2:(l.getD 2 0).toNat=bt l 2:=rfl
 have e3:(l.getD 3 0).toNat=bt l 3:=rfl
 have fin:∀n r,rsz (bt l 0)=n->rb0 (bt l 0)=r->n=hdS (bt l 0)->r=hdB (bt l 0)->E0 (Cs l r (n-1))=l.take n->ul l=hdS (bt l 0)/\ur l=Cs l (hdB (bt l 0)) (hdS (bt l 0)-1):=by
  intro n r hn hr hn2 hr2 henc
  unfold Rv at e
  simp only[hn,hr]at e
  rw[if_neg (by omega),if_pos ⟨by rw[hr2,hn2];exact p4,henc⟩]at e
  by_cases hz:ul l=0
  ·rw[if_pos hz]at e;simp only[Prod.mk.injEq]at e;omega
  ·rw[if_neg hz]at e;simp only[Prod.mk.injEq]at e
   exact⟨by omega,by rw[<-hr2,<-hn2];exact e.1.symm⟩
 have h1:=Ev l 1
 have h2:=Ev l 2
 have h3:=Ev l 3
 by_cases g1:bt l 0<128
 ·have hs:hdS (bt l 0)=1:=by unfold hdS;rw[if_pos g1]
  have hb:hdB (bt l 0)=bt l 0:=by unfold hdB;rw[if_pos g1]
  refine fin 1 (bt l 0) (by unfold rsz;rw[if_neg (by omega),if_neg (by omega),if_neg (by omega)]) (by unfold rb0;rw[if_neg (by omega),if_neg (by omega),if_neg (by omega)]) hs.symm hb.symm ?_
  rw[IM l (by omega)]
  simp only[Nat.sub_self,Cs]
  unfold E0
  rw[if_pos g1]
  simp only[CU,CL,e0,and_true]
  omega
 by_cases g2:192<=bt l 0/\bt l 0<224
 ·have hs:hdS (bt l 0)=2:=by unfold hdS;rw[if_neg g1,if_pos g2]
  have hb:hdB (bt l 0)=bt l 0%32:=by unfold hdB;rw[if_neg g1,if_pos g2]
  rw[hs]at p3 p5
  rw[hb]at p5
  have q1:=p3 1 (by omega) (by omega)
  refine fin 2 (bt l 0%32) (by unfold rsz;rw[if_neg (by omega),if_neg (by omega),if_pos (by omega)]) (by unfold rb0;rw[if_neg (by omega),if_neg (by omega),if_pos (by omega)]) hs.symm hb.symm ?_
  rw[IL l (by omega)]
  simp only[Nat.reduceSub,Cs,Nat.zero_add]at p5⊢
  generalize bt l 0=b0 at*
  generalize bt l 1=b1 at*
  unfold wid at p5
  unfold E0
  by_cases k1:b0%32*64+b1%64<128
  ·rw[if_pos k1]at p5;omega
  rw[if_neg k1]at p5⊢
  by_cases k2:b0%32*64+b1%64<2048
  ·rw[if_pos k2]
   simp only[CU,CL,e0,e1,and_true]
   omega
  ·rw[if_neg k2]at p5;split at p5<;>omega
 by_cases g3:224<=bt l 0/\bt l 0<240
 ·have hs:hdS (bt l 0)=3:=by unfold hdS;rw[if_neg g1,if_neg g2,if_pos g3]
  have hb:hdB (bt l 0)=bt l 0%16:=by unfold hdB;rw[if_neg g1,if_neg g2,if_pos g3]
  rw[hs]at p3 p5
  rw[hb]at p5
  have q1:=p3 1 (by omega) (by omega)
  have q2:=p3 2 (by omega) (by omega)
  refine fin 3 (bt l 0%16) (by unfold rsz;rw[if_neg (by omega),if_pos (by omega)]) (by unfold rb0;rw[if_neg (by omega),if_pos (by omega)]) hs.symm hb.symm ?_
  rw[Gn l (by omega)]
  simp only[Nat.reduceSub,Cs,Nat.zero_add,Nat.reduceAdd]at p5⊢
  generalize bt l 0=b0 at*
  generalize bt l 1=b1 at*
  generalize bt l 2=b2 at*
  generalize hr:(b0%16*64+b1%64)*64+b2%64=r at*
  unfold wid at p5
  unfold E0
  by_cases k1:r<128
  ·rw[if_pos k1]at p5;omega
  rw[if_neg k1]at p5⊢
  by_cases k2:r<2048
  ·rw[if_pos k2]at p5;omega
  rw[if_neg k2]at p5⊢
  by_cases k3:r<65536
  ·rw[if_pos k3]
   simp only[CU,CL,e0,e1,e2,and_true]
   omega
  ·rw[if_neg k3]at p5;omega
 by_cases g4:240<=bt l 0/\bt l 0<248
 ·have hs:hdS (bt l 0)=4:=by unfold hdS;rw[if_neg g1,if_neg g2,if_neg g3,if_pos g4]
  have hb:hdB (bt l 0)=bt l 0%8:=by unfold hdB;rw[if_neg g1,if_neg g2,if_neg g3,if_pos g4]
  rw[hs]at p3 p4 p5
  rw[hb]at p4 p5
  have q1:=p3 1 (by omega) (by omega)
  have q2:=p3 2 (by omega) (by omega)
  have q3:=p3 3 (by omega) (by omega)
  refine fin 4 (bt l 0%8) (by unfold rsz;rw[if_pos (by omega)]) (by unfold rb0;rw[if_pos (by omega)]) hs.symm hb.symm ?_
  rw[Jx l (by omega)]
  simp only[Nat.reduceSub,Cs,Nat.zero_add,Nat.reduceAdd]at p4 p5⊢
  generalize bt l 0=b0 at*
  generalize bt l 1=b1 at*
  generalize bt l 2=b2 at*
  generalize bt l 3=b3 at*
  generalize hr:((b0%8*64+b1%64)*64+b2%64)*64+b3%64=r at*
  unfold wid at p5
  unfold E0
  by_cases k1:r<128
  ·rw[if_pos k1]at p5;omega
  rw[if_neg k1]at p5⊢
  by_cases k2:r<2048
  ·rw[if_pos k2]at p5;omega
  rw[if_neg k2]at p5⊢
  by_cases k3:r<65536
  ·rw[if_pos k3]at p5;omega
  rw[if_neg k3]
  have:=p4.1
  simp only[CU,CL,e0,e1,e2,e3,and_true]
  omega
 ·exfalso
  unfold hdS at p1
  rw[if_neg g1,if_neg g2,if_neg g3,if_neg g4]at p1
  exact p1 rfl
theorem pd_iff (l:B8) (h:l≠ []):ul l≠0->Nx l:=by
 intro hu
 have e:=Kt l h
 rw[if_neg hu]at e
 have h0:=Ev l 0
 have e0:(l.getD 0 0).toNat=bt l 0:=rfl
 have e1:(l.getD 1 0).toNat=bt l 1:=rfl
 have e2:(l.getD 2 0).toNat=bt l 2:=rfl
 have e3:(l.getD 3 0).toNat=bt l 3:=rfl
 have h1:=Ev l 1
 have h2:=Ev l 2
 have h3:=Ev l 3
 have hc:¬l.length<rsz (bt l 0)/\AV (Cs l (rb0 (bt l 0)) (rsz (bt l 0)-1))/\E0 (Cs l (rb0 (bt l 0)) (rsz (bt l 0)-1))=l.take (rsz (bt l 0)):=by
  unfold Rv at e
  simp only at e
  split at e
  ·simp only[Prod.mk.injEq]at e;omega
  ·split at e
   ·rename_i a b;exact⟨a,b⟩
   ·simp only[Prod.mk.injEq]at e;omega
 obtain⟨hl,hch,henc⟩:=hc
 by_cases g4:240<=bt l 0
 ·have r4:rsz (bt l 0)=4:=by unfold rsz;rw[if_pos g4]
  have rb:rb0 (bt l 0)=bt l 0%8:=by unfold rb0;rw[if_pos g4]
  rw[r4,rb]at henc hch
  rw[r4]at hl
  rw[Jx l (by omega)]at henc
  unfold Nx hdS hdB
  simp only[Nat.reduceSub,Cs,Nat.zero_add,Nat.reduceAdd]at henc hch
  generalize hb0:bt l 0=b0 at*
  generalize hb1:bt l 1=b1 at*
  generalize hb2:bt l 2=b2 at*
  generalize hb3:bt l 3=b3 at*
  have hr0:∃r,r=((b0%8*64+b1%64)*64+b2%64)*64+b3%64:=⟨_,rfl⟩
  obtain⟨r,hr⟩:=hr0
  rw[<-hr]at henc hch
  have hmax:=hch.1
  unfold E0 at henc
  have hw:wid r=4/\b0=240+r/262144/\b1/64=2/\b2/64=2/\b3/64=2:=by
   unfold wid
   split at henc
   ·simp at henc
   ·split at henc
    ·simp at henc
    ·split at henc
     ·simp at henc
     ·simp only[CU,CL,e0,e1,e2,e3,and_true]at henc
      refine⟨by rw[if_neg ‹_›,if_neg ‹_›,if_neg ‹_›],by omega,by omega,by omega,by omega⟩
  rw[if_neg (show ¬b0<128 by omega),if_neg (show ¬(192<=b0/\b0<224) by omega),if_neg (show ¬(224<=b0/\b0<240) by omega),if_pos (show 240<=b0/\b0<248 by omega),if_neg (show ¬b0<128 by omega),if_neg (show ¬(192<=b0/\b0<224) by omega),if_neg (show ¬(224<=b0/\b0<240) by omega),if_pos (show 240<=b0/\b0<248 by omega)]
  simp only[Nat.reduceSub,Cs,Nat.zero_add,Nat.reduceAdd,hb1,hb2,hb3]
  rw[<-hr]
  refine⟨by omega,by omega,fun j j1 j2=>?_,hch,hw.1⟩
  have:j=1∨j=2∨j=3:=by omega
  rcases this with rfl | rfl | rfl<;>omega
 by_cases g3:224<=bt l 0
 ·have r4:rsz (bt l 0)=3:=by unfold rsz;rw[if_neg g4,if_pos g3]
  have rb:rb0 (bt l 0)=bt l 0%16:=by unfold rb0;rw[if_neg g4,if_pos g3]
  rw[r4,rb]at henc hch
  rw[r4]at hl
  rw[Gn l (by omega)]at henc
  unfold Nx hdS hdB
  simp only[Nat.reduceSub,Cs,Nat.zero_add,Nat.reduceAdd]at henc hch
  generalize hb0:bt l 0=b0 at*
  generalize hb1:bt l 1=b1 at*
  generalize hb2:bt l 2=b2 at*
  have hr0:∃r,r=(b0%16*64+b1%64)*64+b2%64:=⟨_,rfl⟩
  obtain⟨r,hr⟩:=hr0
  rw[<-hr]at henc hch
  unfold E0 at henc
  have hw:wid r=3/\b1/64=2/\b2/64=2:=by
   unfold wid
   split at henc
   ·simp at henc
   ·split at henc
    ·simp at henc
    ·split at henc
     ·simp only[CU,CL,e0,e1,e2,and_true]at henc
      refine⟨by rw[if_neg ‹_›,if_neg ‹_›,if_pos ‹_›],by omega,by omega⟩
     ·simp at henc
  rw[if_neg (show ¬b0<128 by omega),if_neg (show ¬(192<=b0/\b0<224) by omega),if_pos (show 224<=b0/\b0<240 by omega),if_neg (show ¬b0<128 by omega),if_neg (show ¬(192<=b0/\b0<224) by omega),if_pos (show 224<=b0/\b0<240 by omega)]
  simp only[Nat.reduceSub,Cs,Nat.zero_add,Nat.reduceAdd,hb1,hb2]
  rw[<-hr]
  refine⟨by omega,by omega,fun j j1 j2=>?_,hch,hw.1⟩
  have:j=1∨j=2:=by omega
  rcases this with rfl | rfl<;>omega
 by_cases g2:192<=bt l 0
 ·have r4:rsz (bt l 0)=2:=by unfold rsz;rw[if_neg g4,if_neg g3,if_pos g2]
  have rb:rb0 (bt l 0)=bt l 0%32:=by unfold rb0;rw[if_neg g4,if_neg g3,if_pos g2]
  rw[r4,rb]at henc hch
  rw[r4]at hl
  rw[IL l (by omega)]at henc
  unfold Nx hdS hdB
  simp only[Nat.reduceSub,Cs,Nat.zero_add,Nat.reduceAdd]at henc hch
  generalize hb0:bt l 0=b0 at*
  generalize hb1:bt l 1=b1 at*
  have hr0:∃r,r=b0%32*64+b1%64:=⟨_,rfl⟩
  obtain⟨r,hr⟩:=hr0
  rw[<-hr]at henc hch
  unfold E0 at henc
  have hw:wid r=2/\b1/64=2:=by
   unfold wid
   split at henc
   ·simp at henc
   ·split at henc
    ·simp only[CU,CL,e0,e1,and_true]at henc
     refine⟨by rw[if_neg ‹_›,if_pos ‹_›],by omega⟩
    ·split at henc<;>simp at henc
  rw[if_neg (show ¬b0<128 by omega),if_pos (show 192<=b0/\b0<224 by omega),if_neg (show ¬b0<128 by omega),if_pos (show 192<=b0/\b0<224 by omega)]
  simp only[Nat.reduceSub,Cs,Nat.zero_add,hb1]
  rw[<-hr]
  refine⟨by omega,by omega,fun j j1 j2=>?_,hch,hw.1⟩
  have:j=1:=by omega
  subst this;omega
 ·have r4:rsz (bt l 0)=1:=by unfold rsz;rw[if_neg g4,if_neg g3,if_neg g2]
  have rb:rb0 (bt l 0)=bt l 0:=by unfold rb0;rw[if_neg g4,if_neg g3,if_neg g2]
  rw[r4,rb]at henc hch
  rw[r4]at hl
  rw[IM l (by omega)]at henc
  unfold Nx hdS hdB
  simp only[Nat.sub_self,Cs]at henc hch
  generalize hb0:bt l 0=b0 at*
  have hlt:b0<128:=by
   unfold E0 at henc
   split at henc
   ·assumption
   ·split at henc
    ·simp at henc
    ·split at henc<;>simp at henc
  rw[if_pos hlt,if_pos hlt]
  simp only[Nat.sub_self,Cs]
  refine⟨by omega,by omega,fun j j1 j2=>by omega,hch,by unfold wid;rw[if_pos hlt]⟩
theorem Pw {s:B8} {I:Int} {i:Nat} {st:St} {K:Int->Int->St->Prop} (hI:I=(i:Int)) (hl:s.length<=2000000) (hi:i<=s.length) (hk:K ((rD (s.drop i)).1:Nat) ((rD (s.drop i)).2:Nat) st):
  CallT PR FI [.str s,.int .i64 I] [.one (.int .i64),.one (.int .i64)] st K:=by
 have no:¬Nx (s.drop i)->s.drop i≠ []->K 0 0 st:=fun h hne=>by
  have:ul (s.drop i)=0:=Decidable.byContradiction fun h0=>h (pd_iff _ hne h0)
  unfold rD at hk
  rw[if_pos this]at hk;exact hk
 have yes:Nx (s.drop i)->s.drop i≠ []->K (Cs (s.drop i) (hdB (bt (s.drop i) 0)) (hdS (bt (s.drop i) 0)-1):Nat) (hdS (bt (s.drop i) 0):Nat) st:=fun h hne=>by
  have hv:=pd_val _ hne h
  unfold rD at hk
  rw[if_neg (by rw[hv.1];exact h.1),hv.1,hv.2]at hk
  exact hk
 have hlen:(s.drop i).length=s.length-i:=by simp
 have hb:∀j,bt (s.drop i) j=(s.getD (i+j) 0).toNat:=NS s i
 refine LW s I st K (Ab (fun h=>by omega) fun _=>Ab (fun h=>?_) fun h=>⟨⟨by omega,by omega⟩,?_⟩)
 ·have:s.drop i=[]:=List.drop_of_length_le (by omega)
  have h0:rD (s.drop i)=(0,0):=by rw[this];simp[rD,ul]
  rw[h0]at hk;exact hk
 have hne:s.drop i≠ []:=by
  intro h0
  have:=congrArg List.length h0
  rw[hlen]at this;simp only[List.length_nil]at this;omega
 have hb0:(List.getD s (Int.toNat I) 0).toNat=bt (s.drop i) 0:=by rw[hb,hI];rfl
 have hlt:=Ev (s.drop i) 0
 rw[hb0]
 refine head_ok rfl hlt ?_
 have hsz:hdS (bt (s.drop i) 0)<=4:=by unfold hdS;(repeat' split)<;>omega
 have hbz:hdB (bt (s.drop i) 0)<256:=by unfold hdB;(repeat' split)<;>omega
 unfold Nx at no yes
 generalize hdS (bt (s.drop i) 0)=n at*
 generalize hdB (bt (s.drop i) 0)=r0 at*
 rw[Aj _ (by omega) (by omega)]
 refine Ab (fun g=>no (fun hh=>hh.1 (by omega)) hne) fun g1=>Ab (fun g=>no (fun hh=>by omega) hne) fun g2=>?_
 have hra:=Nw (s.drop i) r0 hbz
 refine⟨fun r j s' at' sz st2=>s=s'/\I=at'/\st=st2/\((n:Nat):Int)=sz/\∃k:Nat,j=((k+1:Nat):Int)/\k+1<=n/\r=((Cs (s.drop i) r0 k:Nat):Int)/\∀m,1<=m->m<=k->bt (s.drop i) m/64=2,fun _ j _ _ sz _=>(sz-j).toNat,⟨rfl,rfl,rfl,rfl,0,rfl,by omega,rfl,fun m h1 h2=>by omega⟩,?_⟩
 rintro _ _ _ _ _ _ ⟨rfl,rfl,rfl,rfl,k,rfl,hk1,rfl,hall⟩
 have hrk:=hra k
 have h64:64^k<=64^3:=Nat.pow_le_pow_right (by decide) (by omega)
 refine Ab (fun h2=>?_) fun h2=>?_
 ·rw[Aj (I+((k+1:Nat):Int)) (by omega) (by omega)]
  have hbk:(List.getD s (Int.toNat (I+((k+1:Nat):Int))) 0).toNat=bt (s.drop i) (k+1):=by
   rw[hb,show Int.toNat (I+((k+1:Nat):Int))=i+(k+1) by omega]
  have hbl:=Ev (s.drop i) (k+1)
  have h192:AH .and .u8 ((bt (s.drop i) (k+1):Nat):Int) (192:Int)=((bt (s.drop i) (k+1)&&&192:Nat):Int):=TA _ 192 hbl (by decide)
  have hand:i64.wrap (AH .and .u8 ((bt (s.drop i) (k+1):Nat):Int) (63:Int))=((bt (s.drop i) (k+1)%64:Nat):Int):=by
   rw[show(63:Int)=((2^6-1:Nat):Int) by decide,HN _ 6 hbl (by decide),Aj _ (by omega) (by omega)]
  have hmul:i64.wrap (((Cs (s.drop i) r0 k:Nat):Int)*2^(min (Int.toNat (6:Int)) (IntKind.bits .i64)))=((Cs (s.drop i) r0 k*2^6:Nat):Int):=by
   rw[show(2:Int)^(min (Int.toNat (6:Int)) (IntKind.bits .i64))=64 by decide,Aj _ (by omega) (by omega)];omega
  have hc:(bt (s.drop i) (k+1)&&&192)=128↔bt (s.drop i) (k+1)/64=2:=by
   have:∀x,x<256->((x&&&192)=128↔x/64=2):=by decide+kernel
   exact this _ hbl
  refine⟨⟨by omega,by omega⟩,?_⟩
  rw[hbk,h192,hand,hmul,PP _ _ 6 (by omega) (by omega),Aj _ (by omega) (by omega)]
  refine Ab (fun h3=>no (fun hh=>h3 ?_) hne) fun h3=>?_
  ·have:=hh.2.2.1 (k+1) (by omega) (by omega)
   rw[hc.2 this];rfl
  ·have h4:bt (s.drop i) (k+1)/64=2:=hc.1 (by omega)
   refine⟨⟨rfl,rfl,rfl,rfl,k+1,by omega,by omega,by simp only[Cs],fun m m1 m2=>?_⟩,by dsimp only;omega⟩
   by_cases hm:m=k+1
   ·rw[hm];exact h4
   ·exact hall m m1 (by omega)
 ·have hks:k=n-1:=by omega
  subst hks
  refine Rs rfl (As (fun h3=>no (fun hh=>?_) hne) fun h3=>R6 rfl (Ab (fun h4=>no (fun hh=>?_) hne) fun h4=>?_))
  ·simp only[Bool.not_eq_true',decide_eq_false_iff_not]at h3
   exact h3 hh.2.2.2.1
  ·rw[hh.2.2.2.2]at h4;exact h4 rfl
  ·simp only[Bool.not_eq_false',decide_eq_true_eq]at h3
   exact yes ⟨by omega,by omega,fun m m1 m2=>hall m m1 (by omega),h3,by omega⟩ hne
theorem uLen_ok {s:B8} {st:St} {K:Int->Int->St->Prop} (hl:s.length<=2000000) (hk:∀n:Int,K n (if DO s=s.length then 0 else 5) st):CallT PR Ix [.str s] [.one (.int .i64),.one (.int .i64)] st K:=by
 have hv:=N8 s
 refine Pv s st K ⟨fun n i s' st'=>s=s'/\st=st'/\∃k:Nat,i=(k:Int)/\k<=s.length/\k+DO (s.drop k)=DO s,fun _ i _ _=>(s.length-i).toNat,⟨rfl,rfl,0,rfl,by omega,by simp⟩,?_⟩
 rintro n _ _ _ ⟨rfl,rfl,k,rfl,h1,h2⟩
 refine Ab (fun g1=>Pw rfl hl h1 ?_) fun g1=>?_
 ·have hle:=Od (s.drop k)
  rw[List.length_drop]at hle
  unfold rD
  by_cases h0:ul (s.drop k)=0
  ·rw[if_pos h0]
   rw[BX _ h0]at h2
   have:=hk 0
   rw[if_neg (by omega)]at this
   exact Ab (fun _=>this) fun h=>absurd rfl h
  ·rw[if_neg h0]
   rw[FQ _ h0,List.drop_drop]at h2
   refine Ab (fun h=>absurd h (by show ¬((ul (s.drop k):Nat):Int)=0;omega)) fun _=>?_
   have w:i64.wrap ((k:Int)+(ul (s.drop k):Nat))=((k+ul (s.drop k):Nat):Int):=by rw[Aj _ (by omega) (by omega)];omega
   dsimp only
   rw[w]
   exact⟨⟨rfl,rfl,_,rfl,by omega,by omega⟩,by omega⟩
 ·rw[show s.drop k=[]from List.drop_of_length_le (by omega),KE]at h2
  have:=hk n
  rw[if_pos (by omega)]at this
  exact this
theorem Mn {s:B8} {st:St} {K:Bool->St->Prop} (hl:s.length<=2000000) (hk:K (decide (DO s=s.length)) st):CallT PR EE [.str s] [.one (.bool)] st K:=by
 refine Nc s st K (uLen_ok hl fun n=>?_)
 by_cases h:DO s=s.length
 ·rw[if_pos h];rw[decide_eq_true h]at hk;exact hk
 ·rw[if_neg h];rw[decide_eq_false h]at hk;exact hk
theorem Nf {l:B8} {c:UInt8} (hc:c.toNat<128) (hl:l.length<=9223372036854775807) {st:St} {K:B8->St->Prop} (hk:K (Lib.trimRightB l c) st):CallT PR Ed [.str l,.str [c]] [.one .str] st K:=by
 refine Gm (fun _ _=>by kernel_rfl) fun g w vargs s hr=>?_
 obtain⟨v,u,rfl,hv,hu⟩:=Sm hr
 rw[Hi hv,Hi hu]
 refine Calls.mono (Tryz.strings_TrimRight_one ⟨l.toArray⟩ c hc w (by simpa [ByteArray.size]using hl)) ?_
 rintro e w' ⟨rfl,rfl⟩
 exact⟨_,rfl,.str _,st,g,hk,s,Rel.str _,Ext.refl _ _⟩
theorem KP (l:B8):(Lib.trimRightB l 48).length+Ge l=l.length:=by
 unfold Lib.trimRightB Ge
 have:=congrArg List.length (List.takeWhile_append_dropWhile (p:=fun x:UInt8=>x==48) (l:=l.reverse))
 rw[List.length_append,List.length_reverse]at this
 rw[List.length_reverse];omega
theorem R4 {l:B8} (hl:l.length<=2000000) {st:St} {K:Int->St->Prop} (hk:K (Ge l:Nat) st):CallT PR Ek [.str l] [.one (.int .i64)] st K:=by
 refine Kl _ st K (Nf (by decide) (by omega) ?_)
 have:=KP l
 rw[Aj _ (by omega) (by omega),show((l.length:Nat):Int)-((Lib.trimRightB l 48).length:Int)=(Ge l:Nat) by omega]
 exact hk
theorem Py {p:UInt8->Bool}:∀(r:B8) (n:Nat),n<=r.length->(∀j x,j<n->r[j]? =some x->p x=true)->(∀x,r[n]? =some x->p x=false)->(r.takeWhile p).length=n
 | [],n,h,_,_=>by simp at h;simp[h]
 | a::r,0,_,_,h=>by simp[List.takeWhile_cons,h a rfl]
 | a::r,n+1,h,h1,h2=>by
  rw[List.takeWhile_cons,if_pos (h1 0 a (by omega) rfl),List.length_cons,Py r n (by simpa using h) (fun j x hj hx=>h1 (j+1) x (by omega) (by simpa using hx)) (fun x hx=>h2 x (by simpa using hx))]
theorem Sl (l:B8) (n:Nat) (h:n<l.length):l.reverse[n]? =some (List.getD l (l.length-1-n) 0):=by
 rw[List.getElem?_reverse h,List.getD_eq_getElem?_getD,List.getElem?_eq_getElem (by omega),Option.getD_some]
theorem Rt {l:B8} (hl:l.length<=2000000) {st:St} {K:Int->St->Prop} (hk:K (Ge l:Nat) st):CallT PR CF [.str l] [.one (.int .i64)] st K:=by
 refine GV l st K ⟨fun i s st'=>l=s/\st=st'/\∃n:Nat,i=n/\n<=l.length/\∀j x,j<n->l.reverse[j]? =some x->(x==48)=true,fun i _ _=>(l.length-i).toNat,⟨rfl,rfl,0,rfl,Nat.zero_le _,fun j x hj=>absurd hj (Nat.not_lt_zero _)⟩,?_⟩
 rintro _ _ _ ⟨rfl,rfl,n,rfl,hn,hall⟩
 refine Ab (fun g=>?_) fun g=>?_
 ·have hr:=Sl l n (by omega)
  rw[Aj ((l.length:Int)-1) (by omega) (by omega),Aj _ (by omega) (by omega),show Int.toNat ((l.length:Int)-1-(n:Int))=l.length-1-n by omega]
  refine⟨⟨by omega,by omega⟩,?_⟩
  generalize List.getD l (l.length-1-n) 0=c at hr⊢
  refine Ab (fun g2=>?_) fun g2=>?_
  ·rw[Aj _ (by omega) (by omega)]
   refine⟨⟨rfl,rfl,n+1,by omega,by omega,fun j x hj hx=>?_⟩,by dsimp only;omega⟩
   by_cases hjn:j=n
   ·subst hjn
    rw[hr]at hx
    rw[<-Option.some.inj hx]
    simpa [<-UInt8.toNat_inj]using (by omega:c.toNat=48)
   ·exact hall j x (by omega) hx
  ·have:Ge l=n:=Py _ n (by simpa using hn) hall fun x hx=>by
    rw[hr]at hx
    rw[<-Option.some.inj hx]
    have:c≠48:=fun e=>g2 (by rw[e];rfl)
    simpa using this
   rw[<-this];exact hk
 ·have:Ge l=n:=Py _ n (by simpa using hn) hall fun x hx=>by
   rw[List.getElem?_eq_none (by simp;omega)]at hx;cases hx
  rw[<-this];exact hk
theorem O1 {l:B8} {n:Nat} (h:n<l.length):List.getD l n 0∈l:=by
 rw[List.getD_eq_getElem?_getD,List.getElem?_eq_getElem h,Option.getD_some]
 exact List.getElem_mem h
theorem Pr {P:UInt8->Prop} {l:B8} {n:Nat} (h:n<l.length) (h1:∀c,c∈l.take n->P c) (h2:P (List.getD l n 0)):∀c,c∈l.take (n+1)->P c:=by
 intro c hc
 rw[F9 _ _ 0 h]at hc
 rcases List.mem_append.1 hc with hc | hc
 ·exact h1 c hc
 ·rw[List.mem_singleton.1 hc];exact h2
theorem all_ok {l:B8} (hl:l.length<=2000000) {st:St} {K:Bool->St->Prop} (hk:K (decide (∀c,c∈l->Iv c)) st):CallT PR FJ [.str l] [.one .bool] st K:=by
 refine LX l st K ⟨fun i s m st'=>l=s/\(l.length:Int)=m/\st=st'/\∃n:Nat,i=n/\n<=l.length/\∀c,c∈l.take n->Iv c,fun i _ _ _=>(l.length-i).toNat,⟨rfl,rfl,rfl,0,rfl,Nat.zero_le _,fun c hc=>by simp at hc⟩,?_⟩
 rintro _ _ _ _ ⟨rfl,rfl,rfl,n,rfl,hn,hall⟩
 refine Ab (fun g=>?_) fun g=>?_
 ·have hm:=O1 (l:=l) (n:=n) (by omega)
  have bad:¬Iv (List.getD l n 0)->K false st:=fun hb=>by
   rw[decide_eq_false fun h=>hb (h _ hm)]at hk;exact hk
  rw[Int.toNat_natCast]
  refine⟨⟨by omega,by omega⟩,Ab (fun g2=>bad (by unfold Iv;omega)) fun g2=>⟨⟨by omega,by omega⟩,Ab (fun g3=>bad (by unfold Iv;omega)) fun g3=>?_⟩⟩
  rw[Aj _ (by omega) (by omega)]
  exact⟨⟨rfl,rfl,rfl,n+1,by omega,by omega,Pr (by omega) hall (by unfold Iv;omega)⟩,by dsimp only;omega⟩
 ·have:n=l.length:=by omega
  subst this
  rw[List.take_length]at hall
  rw[decide_eq_true hall]at hk;exact hk
theorem PM {l:B8} (hl:l.length<=2000000) {st:St} {K:Bool->St->Prop} (hk:K (decide (∀c,c∈l->Iv c)) st):CallT PR Cq [.str l] [.one .bool] st K:=by
 refine Gj l st K ⟨fun i s st'=>l=s/\st=st'/\∃n:Nat,i=n/\n<=l.length/\∀c,c∈l.take n->Iv c,fun i _ _=>(l.length-i).toNat,⟨rfl,rfl,0,rfl,Nat.zero_le _,fun c hc=>by simp at hc⟩,?_⟩
 rintro _ _ _ ⟨rfl,rfl,n,rfl,hn,hall⟩
 refine Ab (fun g=>?_) fun g=>?_
 ·have hm:=O1 (l:=l) (n:=n) (by omega)
  have bad:¬Iv (List.getD l n 0)->K false st:=fun hb=>by
   rw[decide_eq_false fun h=>hb (h _ hm)]at hk;exact hk
  rw[Int.toNat_natCast]
  refine⟨⟨by omega,by omega⟩,Ab (fun g2=>bad (by unfold Iv;omega)) fun g2=>⟨⟨by omega,by omega⟩,Ab (fun g3=>bad (by unfold Iv;omega)) fun g3=>?_⟩⟩
  rw[Aj _ (by omega) (by omega)]
  exact⟨⟨rfl,rfl,n+1,by omega,by omega,Pr (by omega) hall (by unfold Iv;omega)⟩,by dsimp only;omega⟩
 ·have:n=l.length:=by omega
  subst this
  rw[List.take_length]at hall
  rw[decide_eq_true hall]at hk;exact hk
def Jp (l:B8):Prop:=l.length<=600/\(∀c,c∈l->Iv c)/\(l≠ []->l.getD 0 0≠48)
instance (l:B8):Decidable (Jp l):=inferInstanceAs (Decidable (_/\_/\(_->_)))
theorem ne48 (c:UInt8):decide ((c.toNat:Int)≠48)=decide (c≠48):=by
 have:((c.toNat:Int)≠48)↔c≠48:=by rw[ne_eq,ne_eq,<-UInt8.toNat_inj];exact not_congr ⟨fun h=>Int.ofNat.inj h,fun h=>by rw[h];rfl⟩
 exact decide_eq_decide.2 this
theorem RN {l:B8} (hl:l.length<=2000000) {st:St} {K:Bool->St->Prop} (hk:K (decide (Jp l)) st):CallT PR El [.str l] [.one .bool] st K:=by
 have no:¬Jp l->K false st:=fun h=>by rw[decide_eq_false h]at hk;exact hk
 refine Km l st K (Ab (fun g=>all_ok hl (Ab (fun g2=>Ab (fun g3=>?_) fun g3=>⟨⟨by omega,by have:=List.length_pos_iff.2 g3;omega⟩,?_⟩) fun g2=>no fun h=>g2 h.2.1)) fun g=>no fun h=>g (by have:=h.1;omega))
 ·rw[decide_eq_true (show Jp l from⟨by omega,g2,fun h=>absurd g3 h⟩)]at hk;exact hk
 ·rw[ne48]
  refine Gd (decide_eq_decide.2 ?_) hk
  exact⟨fun h=>⟨by omega,g2,fun _=>h⟩,fun h=>h.2.2 g3⟩
theorem rNum_ok {l:B8} (hl:l.length<=2000000) {st:St} {K:Bool->St->Prop} (hk:K (decide (Jp l)) st):CallT PR CG [.str l] [.one .bool] st K:=by
 have no:¬Jp l->K false st:=fun h=>by rw[decide_eq_false h]at hk;exact hk
 refine GW l st K (Ab (fun g=>PM hl (Ab (fun g2=>Ab (fun g3=>?_) fun g3=>⟨⟨by omega,by omega⟩,?_⟩) fun g2=>no fun h=>g2 h.2.1)) fun g=>no fun h=>g (by have:=h.1;omega))
 ·rw[decide_eq_true (show Jp l from⟨by omega,g2,fun h=>absurd (List.eq_nil_of_length_eq_zero (by omega)) h⟩)]at hk;exact hk
 ·rw[ne48]
  refine Gd (decide_eq_decide.2 ?_) hk
  exact⟨fun h=>⟨by omega,g2,fun _=>h⟩,fun h=>h.2.2 fun e=>g3 (by rw[e];rfl)⟩
theorem Cy {neg:Bool} {l:B8} {ex:Int} (h:l≠ []):DA neg l ex↔Jp l/\l.length<=120/\Ge l=0/\ -400<=ex/\ex<=400:=by
 unfold DA Jp
 constructor
 ·intro g
  obtain⟨g1,g2,g3,g4,g5,g6⟩:=g.2 h
  exact⟨⟨by omega,g2,fun _=>g3⟩,g1,g4,g5,g6⟩
 ·rintro⟨⟨g1,g2,g3⟩,g4,g5,g6,g7⟩
  exact⟨fun e=>absurd e h,fun _=>⟨g4,g2,g3 h,g5,g6,g7⟩⟩
theorem HJ {neg:Bool} {ex:Int}:DA neg [] ex↔neg=false/\ex=0:=by
 unfold DA
 exact⟨fun g=>g.1 rfl,fun g=>⟨fun _=>g,fun h=>absurd rfl h⟩⟩
theorem O9 {neg:Bool} {l:B8} {ex:Int} (hl:l.length<=2000000) {st:St} {K:Bool->St->Prop} (hk:K (decide (DA neg l ex)) st):CallT PR D2 [.agg [.bool neg,.str l,.int .i64 ex]] [.one .bool] st K:=by
 have no:¬DA neg l ex->K false st:=fun h=>by rw[decide_eq_false h]at hk;exact hk
 refine Jv _ _ _ st K (Ab (fun g=>?_) fun g=>?_)
 ·subst g
  refine Gd ?_ hk
  rw[Bool.eq_iff_iff]
  simp[HJ]
 ·refine RN hl (Ab (fun g2=>Ab (fun g3=>R4 hl (Ab (fun g4=>Ab (fun g5=>?_) fun g5=>?_) fun g4=>?_)) fun g3=>?_) fun g2=>?_)
  ·exact Gd (decide_eq_decide.2 (by rw[Cy g];exact⟨fun h=>⟨g2,by omega,by omega,g5,h⟩,fun h=>h.2.2.2.2⟩)) hk
  ·exact no fun h=>g5 ((Cy g).1 h).2.2.2.1
  ·exact no fun h=>g4 (by have:=((Cy g).1 h).2.2.1;omega)
  ·exact no fun h=>g3 (by have:=((Cy g).1 h).2.1;omega)
  ·exact no fun h=>g2 ((Cy g).1 h).1
theorem rDec_ok {neg:Bool} {l:B8} {ex:Int} (hl:l.length<=2000000) {st:St} {K:Bool->St->Prop} (hk:K (decide (DA neg l ex)) st):CallT PR CE [.agg [.bool neg,.str l,.int .i64 ex]] [.one .bool] st K:=by
 have no:¬DA neg l ex->K false st:=fun h=>by rw[decide_eq_false h]at hk;exact hk
 refine GU _ _ _ st K (Ab (fun g=>?_) fun g=>?_)
 ·subst g
  cases neg
  ·exact Gd (by rw[Bool.eq_iff_iff];simp[HJ]) hk
  ·exact Gd (by rw[Bool.eq_iff_iff];simp[HJ]) hk
 ·refine Ab (fun g3=>rNum_ok hl (Ab (fun g2=>Rt hl (Ab (fun g4=>Ab (fun g5=>?_) fun g5=>?_) fun g4=>?_)) fun g2=>?_)) fun g3=>?_
  ·exact Gd (decide_eq_decide.2 (by rw[Cy g];exact⟨fun h=>⟨g2,by omega,by omega,g5,h⟩,fun h=>h.2.2.2.2⟩)) hk
  ·exact no fun h=>g5 ((Cy g).1 h).2.2.2.1
  ·exact no fun h=>g4 (by have:=((Cy g).1 h).2.2.1;omega)
  ·exact no fun h=>g2 ((Cy g).1 h).1
  ·exact no fun h=>g3 (by have:=((Cy g).1 h).2.1;omega)
theorem Ng {k d n z:Int} {st:St} {K:Bool->St->Prop} (hk:K (decide (De k d n z)) st):CallT PR Do [.agg [.int .i64 k,.int .i64 d,.int .i64 n,.int .i64 z]] [.one .bool] st K:=by
 refine Kk _ _ _ _ st K ?_
 repeat' first
  | exact Gd (Eq.symm (decide_eq_false (by unfold De;omega))) hk
  | exact Gd (Eq.symm (decide_eq_true (by unfold De;omega))) hk
  | exact Gd (decide_eq_decide.2 (by unfold De;omega)) hk
  | refine Ab (fun _=>?_) fun _=>?_
theorem Tk {k:Int} {st:St} {K:Bool->St->Prop} (hk:K (decide (k=1∨k=3∨k=4)) st):CallT PR CC [.int .i64 k] [.one .bool] st K:=by
 refine GR _ st K ?_
 repeat' first
  | exact Gd (Eq.symm (decide_eq_true (by omega))) hk
  | exact Gd (decide_eq_decide.2 (by omega)) hk
  | refine Ab (fun _=>?_) fun _=>?_
theorem Qi {k:Int} {st:St} {K:Bool->St->Prop} (hk:K (decide (k=2∨k=3∨k=4)) st):CallT PR Bs [.int .i64 k] [.one .bool] st K:=by
 refine FS _ st K ?_
 repeat' first
  | exact Gd (Eq.symm (decide_eq_true (by omega))) hk
  | exact Gd (decide_eq_decide.2 (by omega)) hk
  | refine Ab (fun _=>?_) fun _=>?_
theorem Sp {k d n z:Int} {st:St} {K:Bool->St->Prop} (hk:K (decide (De k d n z)) st):CallT PR CD [.agg [.int .i64 k,.int .i64 d,.int .i64 n,.int .i64 z]] [.one .bool] st K:=by
 refine GS _ _ _ _ st K ?_
 repeat' first
  | exact Gd (Eq.symm (decide_eq_false (by unfold De;omega))) hk
  | exact Gd (Eq.symm (decide_eq_true (by unfold De;omega))) hk
  | exact Gd (decide_eq_decide.2 (by unfold De;omega)) hk
  | refine Ab (fun _=>?_) fun _=>?_
  | refine Tk ?_
  | refine Qi ?_
theorem orc {c p r:Bool} {K:Bool->Prop} {R1 R2:Prop} (h1:K r->R1) (h2:K r->R2) (hk:K ((c&&p) || r)):BIf c (BIf p (K true) R1) R2:=by
 cases c<;>cases p<;>simp only[Bool.true_and,Bool.false_and,Bool.true_or,Bool.false_or]at hk<;>first | exact h1 hk | exact h2 hk | exact hk
theorem orn {c p r s:Bool} {K:Bool->Prop} {R1 R2:Prop} (hs:s=true) (h1:K r->R1) (h2:K r->R2) (hk:K ((c&&p) || r)):BIf c (need s (BIf p (K true) R1)) R2:=by
 subst hs;exact orc h1 h2 hk
theorem ore {c p s:Bool} {K:Bool->Prop} (hs:s=true) (hk:K (c&&p)):BIf c (need s (K p)) (K false):=by
 subst hs;cases c<;>exact hk
def exB (s:Sc) (l:List Vl) (f:List Fd):Bool:=
 (decide (s.kind≠1)&&s.b) || ((decide (s.kind≠2)&& !((s.neg==false)&&(decide (s.dg=[])&&(decide (s.ex=0)&&true)))) || ((decide (s.kind≠3)&& !(decide (s.tk=0)&&(decide (s.td=0)&&(decide (s.tn=0)&&(decide (s.tz=0)&&true))))) ||
  ((decide (s.kind≠4)&&decide (s.text≠ [])) || ((decide (s.kind≠5)&&decide (0<(s.bytes.length:Int))) || ((decide (s.kind≠6)&&decide (0<(l.length:Int))) || (decide (s.kind≠7)&&decide (0<(f.length:Int))))))))
theorem SN {α:Type} {l:List α}:¬0<(l.length:Int)↔l=[]:=by
 rw[<-List.length_eq_zero_iff];omega
theorem MM {s:Sc} {l:List Vl} {f:List Fd} (h0:0<=s.kind) (h7:s.kind<=7):exB s l f=false↔Gb s l f:=by
 unfold exB
 simp only[Bool.or_eq_false_iff,Bool.and_eq_false_imp,decide_eq_true_eq,Bool.not_eq_false',Bool.and_eq_true,beq_iff_eq,decide_eq_false_iff_not,SN,ne_eq,Decidable.not_not,and_true]
 constructor
 ·rintro⟨a,b,c,d,e,f,g⟩;exact⟨h0,h7,a,b,c,d,e,f,g⟩
 ·rintro⟨_,_,a,b,c,d,e,f,g⟩;exact⟨a,b,c,d,e,f,g⟩
theorem exB_eq {s:Sc} {l:List Vl} {f:List Fd} (h0:0<=s.kind) (h7:s.kind<=7):exB s l f= !decide (Gb s l f):=by
 cases h:exB s l f with
 | false=>rw[decide_eq_true ((MM h0 h7).1 h)];rfl
 | true=>rw[decide_eq_false fun o=>by rw[(MM h0 h7).2 o]at h;cases h];rfl
theorem S7 {s:Sc} {l:List Vl} {f:List Fd} {ub ul uf:TV} {st:St} {K:Bool->St->Prop} (h1:isSl ub=true) (h2:isSl ul=true) (h3:isSl uf=true) (l1:lenS ub=s.bytes.length) (l2:lenS ul=l.length) (l3:lenS uf=f.length) (hk:K (exB s l f) st):
  CallT PR EW [.agg (AA s ub ul uf)] [.one .bool] st K:=by
 unfold exB at hk
 refine KG _ _ _ _ _ _ _ _ _ _ _ _ _ st K ?_
 rw[l1,l2,l3]
 revert hk
 repeat' first
  | (refine fun hk=>ore (K:=fun b=>K b st) h3 hk)
  | (refine fun hk=>orn (K:=fun b=>K b st) h1 ?_ ?_ hk)
  | (refine fun hk=>orn (K:=fun b=>K b st) h2 ?_ ?_ hk)
  | (refine fun hk=>orc (K:=fun b=>K b st) ?_ ?_ hk)
theorem oac {c p r:Bool} {K:Bool->Prop} {R1 R2:Prop} (h1:K r->R1) (h2:K r->R2) (hk:K (!(c&&p)&&r)):BIf c (BIf p (K false) R1) R2:=by
 cases c<;>cases p<;>simp only[Bool.true_and,Bool.false_and,Bool.not_true,Bool.not_false]at hk<;>first | exact h1 hk | exact h2 hk | exact hk
theorem oaf {c r:Bool} {K:Bool->Prop} {R:Prop} (h:K r->R) (hk:K (!c&&r)):BIf c (K false) R:=by
 cases c<;>simp only[Bool.true_and,Bool.false_and,Bool.not_true,Bool.not_false]at hk<;>first | exact h hk | exact hk
theorem oab {c p r:Bool} {K:Bool->Prop} {R1 R2:Prop} (h1:K r->R1) (h2:K r->R2) (hk:K ((c || p)&&r)):BIf c R1 (BIf p R2 (K false)):=by
 cases c<;>cases p<;>simp only[Bool.true_and,Bool.false_and,Bool.or_true,Bool.or_false,Bool.true_or,Bool.false_or]at hk<;>first | exact h1 hk | exact h2 hk | exact hk
theorem oan {c p r s:Bool} {K:Bool->Prop} {R1 R2:Prop} (hs:s=true) (h1:K r->R1) (h2:K r->R2) (hk:K ((c || p)&&r)):BIf c R1 (need s (BIf p R2 (K false))):=by
 subst hs;exact oab h1 h2 hk
theorem oae {c p s:Bool} {K:Bool->Prop} (hs:s=true) (hk:K (c || p)):BIf c (K true) (need s (K p)):=by
 subst hs;cases c<;>exact hk
def owB (s:Sc) (l:List Vl) (f:List Fd):Bool:=
 !decide (s.kind<0)&&(!decide (7<s.kind)&&(!(decide (s.kind≠1)&&s.b)&&(!(decide (s.kind≠2)&& !((s.neg==false)&&(decide (s.dg=[])&&(decide (s.ex=0)&&true))))&&(!(decide (s.kind≠3)&& !(decide (s.tk=0)&&(decide (s.td=0)&&(decide (s.tn=0)&&(decide (s.tz=0)&&true)))))&&
  ((decide (s.kind=4) || decide (s.text=[]))&&((decide (s.kind=5) || decide ((s.bytes.length:Int)=0))&&((decide (s.kind=6) || decide ((l.length:Int)=0))&&(decide (s.kind=7) || decide ((f.length:Int)=0)))))))))
theorem RE {α:Type} {l:List α}:(l.length:Int)=0↔l=[]:=by
 rw[<-List.length_eq_zero_iff];omega
theorem Sw {s:Sc} {l:List Vl} {f:List Fd}:owB s l f=true↔Gb s l f:=by
 unfold owB
 simp only[Bool.and_eq_true,Bool.not_eq_true',Bool.or_eq_true,Bool.and_eq_false_imp,decide_eq_true_eq,Bool.not_eq_false',beq_iff_eq,decide_eq_false_iff_not,RE,ne_eq,and_true,Int.not_lt]
 constructor
 ·rintro⟨h0,h7,a,b,c,d,e,f,g⟩
  exact⟨h0,h7,a,b,c,fun h=>d.resolve_left h,fun h=>e.resolve_left h,fun h=>f.resolve_left h,fun h=>g.resolve_left h⟩
 ·rintro⟨h0,h7,a,b,c,d,e,f,g⟩
  exact⟨h0,h7,a,b,c,Decidable.or_iff_not_imp_left.2 d,Decidable.or_iff_not_imp_left.2 e,Decidable.or_iff_not_imp_left.2 f,Decidable.or_iff_not_imp_left.2 g⟩
theorem owB_eq {s:Sc} {l:List Vl} {f:List Fd}:owB s l f=decide (Gb s l f):=by
 rw[Bool.eq_iff_iff,decide_eq_true_eq];exact Sw
theorem own_ok {s:Sc} {l:List Vl} {f:List Fd} {ub ul uf:TV} {st:St} {K:Bool->St->Prop} (h1:isSl ub=true) (h2:isSl ul=true) (h3:isSl uf=true) (l1:lenS ub=s.bytes.length) (l2:lenS ul=l.length) (l3:lenS uf=f.length) (hk:K (decide (Gb s l f)) st):
  CallT PR Db [.agg (AA s ub ul uf)] [.one .bool] st K:=by
 rw[<-owB_eq]at hk
 unfold owB at hk
 refine HO _ _ _ _ _ _ _ _ _ _ _ _ _ st K ?_
 rw[l1,l2,l3]
 revert hk
 repeat' first
  | (refine fun hk=>oae (K:=fun b=>K b st) h3 hk)
  | (refine fun hk=>oan (K:=fun b=>K b st) h1 ?_ ?_ hk)
  | (refine fun hk=>oan (K:=fun b=>K b st) h2 ?_ ?_ hk)
  | (refine fun hk=>oab (K:=fun b=>K b st) ?_ ?_ hk)
  | (refine fun hk=>oac (K:=fun b=>K b st) ?_ ?_ hk)
  | (refine fun hk=>oaf (K:=fun b=>K b st) ?_ hk)
theorem key_ok {s:B8} (hl:s.length<=2000000) {st:St} {K:Int->St->Prop} (hk:K ((if U8 s then(if 1024<s.length then 10 else 0)else 5:Nat):Int) st):CallT PR GC [.str s] [.one (.int .i64)] st K:=by
 refine Na _ st K (Mn hl (As (fun g=>?_) fun g=>?_))
 ·have hu:¬U8 s:=by unfold U8;simpa using g
  rw[if_neg hu]at hk;exact hk
 ·have hu:U8 s:=by unfold U8;simpa using g
  rw[if_pos hu]at hk
  refine Ab (fun g2=>?_) fun g2=>?_
  ·have h3:1024<s.length:=by omega
   rw[if_pos h3]at hk;exact hk
  ·have h3:¬1024<s.length:=by omega
   rw[if_neg h3]at hk;exact hk
theorem Iy (k k':B8) (v:TV):∀es:List (B8×TV),Aw k (Fz k' v es)=if k=k' then some v else Aw k es
 | []=>by
  simp only[Fz,Aw]
  by_cases h:k=k'<;>simp[h]
 | (k1,v1)::es=>by
  simp only[Fz]
  by_cases h1:k'=k1
  ·simp only[h1,decide_true,Aw]
   by_cases h:k=k1<;>simp[h]
  ·simp only[h1,decide_false,Aw,Iy k k' v es]
   by_cases h:k=k1
   ·simp[h,Ne.symm h1]
   ·simp[h]
def MapN (es:List (B8×TV)) (ns:List B8):Prop:=∀t,Aw t es=if t∈ns then some (.bool true)else none
theorem MapN.add {es:List (B8×TV)} {ns:List B8} (h:MapN es ns) (t:B8):MapN (Fz t (.bool true) es) (t::ns):=by
 intro k
 rw[Iy]
 by_cases hk:k=t
 ·simp[hk]
 ·rw[if_neg hk,h k];simp[hk]
theorem Gz (seen:List B8) (d:Fd) (r:List Fd):Cf seen (d::r)=if U8 d.key then(if 1024<d.key.length then 10 else if d.key∈seen then 8 else Cf (d.key::seen) r)else 5:=rfl
theorem Kb:∀(f:List Fd) (s s':List B8),(∀x,x∈s↔x∈s')->Cf s f=Cf s' f
 | [],s,s',_=>rfl
 | d::r,s,s',h=>by
  rw[Gz,Gz,Kb r (d.key::s) (d.key::s') (fun x=>by simp[h x])]
  by_cases hd:d.key∈s
  ·rw[if_pos hd,if_pos ((h _).1 hd)]
  ·rw[if_neg hd,if_neg fun g=>hd ((h _).2 g)]
theorem E4 {α:Type} {l:List α} {k:Nat} {x:α} (h:l[k]? =some x):l.drop k=x::l.drop (k+1):=by
 obtain⟨q1,q2⟩:=List.getElem?_eq_some_iff.1 h
 rw[List.drop_eq_getElem_cons q1,q2]
theorem QQ {f:List Fd} {d:Fd} (h:d∈f):d.key.length<=Bu f:=by
 have:=Jf h
 cases d;unfold Fd.sz at this;simp only[Fd.key];omega
theorem keys_ok {st0 st:St} {uf:TV} {xf:List TV} {f:List Fd} (hke:A7 st0 st) (h4:SlR st0 14 uf f.length xf) (h5:FsR st0 f xf) (hN:Bu f<=2000000) {K:Int->St->Prop} (hk:∀st',Ah st st'->K (Cf [] f:Nat) st'):
  CallT PR FF [uf] [.one (.int .i64)] st K:=by
 have hfl:=By f
 refine LR _ st K (Aa h4.isSl ⟨fun i m u n st'=> .map st.nb=m/\uf=u/\(f.length:Int)=n/\∃(k:Nat) (ns:List B8) (es:List (B8×TV)),i=k/\k<=f.length/\Ah st st'/\st.nb<st'.nb/\st'.box st.nb= .map es/\MapN es ns/\Cf [] f=Cf ns (f.drop k),fun i _ _ _ _=>(f.length-i).toNat,
  ⟨rfl,rfl,by rw[h4.lenS],0,[],[],rfl,Nat.zero_le _,(Ah.refl st).push _ _,by simp[St.push],by simp[St.push],fun t=>by simp[Aw],rfl⟩,?_⟩)
 rintro _ _ _ _ st1 ⟨rfl,rfl,rfl,k,ns,es,rfl,hkf,e1,hb,hm,hns,hE⟩
 refine Ab (fun g=>?_) fun g=>?_
 ·refine O6 (hke.trans e1.keeps) h4 h5 rfl (by omega) fun key s' l' f' ub1 ul1 uf1 gw hw on=>Aa on ?_
  have hmem:=Dp gw
  have hkl:=QQ hmem
  rw[E4 gw,Gz]at hE
  change Cf [] f=if U8 key then(if 1024<key.length then 10 else if key∈ns then 8 else Cf (key::ns) (f.drop (k+1)))else 5 at hE
  change key.length<=_ at hkl
  refine key_ok (by omega) ?_
  by_cases g1:U8 key
  case neg=>
   rw[if_neg g1]at hE⊢
   refine Ab (fun _=>?_) fun h=>absurd (by decide) h
   rw[<-hE];exact hk st1 e1
  rw[if_pos g1]at hE⊢
  by_cases g2:1024<key.length
  ·rw[if_pos g2]at hE⊢
   refine Ab (fun _=>?_) fun h=>absurd (by decide) h
   rw[<-hE];exact hk st1 e1
  rw[if_neg g2]at hE⊢
  refine Ab (fun h=>absurd rfl h) fun _=>Ad (x:=es) (by simp only[Et,hm]) ?_
  rw[hns key]
  by_cases g3:key∈ns
  ·rw[if_pos g3]at hE⊢
   refine Dz (As (fun _=>?_) fun h=>by cases h)
   have:=hk st1 e1
   rw[hE]at this;exact this
  ·rw[if_neg g3]at hE⊢
   refine Dz (As (fun h=>by cases h) fun _=>⟨es,hm,?_⟩)
   rw[Aj _ (by omega) (by omega)]
   exact⟨⟨rfl,rfl,rfl,k+1,key::ns,_,by omega,by omega,StX.ext e1 (StX.put (S:=fun i=>i=st.nb) rfl _) (fun i hi=>by rw[hi];exact Nat.le_refl _),hb,by simp[St.put],hns.add key,hE⟩,by dsimp only;omega⟩
 ·have:k=f.length:=by omega
  subst this
  rw[List.drop_length]at hE
  have:=hk st1 e1
  rw[hE]at this;exact this
theorem Keys_ok {st0 st:St} {uf:TV} {xf:List TV} {f:List Fd} (hke:A7 st0 st) (h4:SlR st0 14 uf f.length xf) (h5:FsR st0 f xf) (hN:Bu f<=2000000) {K:Int->St->Prop} (hk:∀st',Ah st st'->K (Cf [] f:Nat) st'):
  CallT PR Bo [uf] [.one (.int .i64)] st K:=by
 have hfl:=By f
 refine G9 _ st K ⟨fun i u st'=>uf=u/\∃k:Nat,i=k/\k<=f.length/\Ah st st'/\Cf [] f=Cf ((f.take k).map Fd.key) (f.drop k),fun i _ _=>(f.length-i).toNat,⟨rfl,0,rfl,Nat.zero_le _,Ah.refl _,rfl⟩,?_⟩
 rintro _ _ st1 ⟨rfl,k,rfl,hkf,e1,hE⟩
 refine Aa h4.isSl (Ab (fun g=>?_) fun g=>?_)
 ·rw[h4.lenS]at g
  have gd:f[k]? =some f[k]:=List.getElem?_eq_getElem (by omega)
  generalize f[k]=d at gd
  have hkl:=QQ (Dp gd)
  rw[E4 gd,Gz]at hE
  refine Lk (hke.trans e1.keeps) h4 h5 rfl gd (Mr (by omega) fun st2 e2=>?_)
  have e12:=e1.trans e2
  by_cases g1:U8 d.key
  case neg=>
   rw[if_neg g1]at hE
   refine As (fun _=>?_) fun h=>absurd (by unfold U8;simpa using h) g1
   have:=hk st2 e12
   rw[hE]at this;exact this
  rw[if_pos g1]at hE
  refine As (fun h=>absurd g1 (by unfold U8;simpa using h)) fun _=>Lk (hke.trans e12.keeps) h4 h5 rfl gd ?_
  by_cases g2:1024<d.key.length
  ·rw[if_pos g2]at hE
   refine Ab (fun _=>?_) fun h=>absurd (by omega) h
   have:=hk st2 e12
   rw[hE]at this;exact this
  rw[if_neg g2]at hE
  refine Ab (fun h=>absurd (by omega) g2) fun _=>?_
  refine⟨fun i u j st'=>uf=u/\j=(k:Int)/\st2=st'/\∃q:Nat,i=q/\q<=k/\∀(j:Nat) (x:Fd),j<q->f[j]? =some x->x.key≠d.key,fun i _ _ _=>(k-i).toNat,⟨rfl,rfl,rfl,0,rfl,Nat.zero_le _,fun j x hj=>absurd hj (Nat.not_lt_zero _)⟩,?_⟩
  rintro _ _ _ _ ⟨rfl,rfl,rfl,q,rfl,hq,hne⟩
  refine Ab (fun g3=>?_) fun g3=>?_
  ·have gx:f[q]? =some f[q]:=List.getElem?_eq_getElem (by omega)
   generalize f[q]=x at gx
   refine Lk (hke.trans e12.keeps) h4 h5 rfl gx (Lk (hke.trans e12.keeps) h4 h5 rfl gd (Ab (fun g4=>?_) fun g4=>?_))
   ·rw[if_pos]at hE
    ·have:=hk st2 e12
     rw[hE]at this;exact this
    ·rw[<-g4]
     refine List.mem_map_of_mem ?_
     have:(f.take k)[q]? =some x:=by rw[List.getElem?_take,if_pos (by omega)];exact gx
     exact Dp this
   ·rw[Aj _ (by omega) (by omega)]
    refine⟨⟨rfl,rfl,rfl,q+1,by omega,by omega,fun j y hj hy=>?_⟩,by dsimp only;omega⟩
    by_cases hjq:j=q
    ·subst hjq
     rw[gx]at hy
     rw[<-Option.some.inj hy];exact g4
    ·exact hne j y (by omega) hy
  ·have hqk:q=k:=by omega
   subst hqk
   rw[if_neg]at hE
   ·rw[Aj _ (by omega) (by omega)]
    refine⟨⟨rfl,q+1,by omega,by omega,e12,?_⟩,by dsimp only;omega⟩
    rw[hE]
    refine Kb _ _ _ fun x=>?_
    rw[A0 gd]
    simp[or_comm]
   ·intro hm
    obtain⟨x,hx,he⟩:=List.mem_map.1 hm
    obtain⟨j,hj⟩:=List.getElem?_of_mem hx
    rw[List.getElem?_take]at hj
    split at hj
    ·rename_i hlt
     exact hne j x hlt hj he
    ·cases hj
 ·rw[h4.lenS]at g
  have:k=f.length:=by omega
  subst this
  rw[List.drop_length]at hE
  have:=hk st1 e1
  rw[hE]at this;exact this
end Go.TVF
