/- What the laws below rest on: a framework for Go programs, and contracts of the functions that they reach. -/
import Derived.Test.YtpfhcnpnngjpnaaGreatDoorGcD
import Derived.Lib.DecodeN
set_option maxRecDepth 20000
set_option linter.unusedVariables false
set_option linter.unusedSimpArgs false
namespace Go.TVF
open Go.IntKind(i64 u8)
open Go Go.Proofs
theorem EC (b:Nat) (s:B8) (st:St) (K:Int->TV->St->Prop) (h:CallT PR Bv [(.box b 0)] [] st (fun (a:St)=>Ag (Ac a [] (.t (.box b 1)) 0) (fun (v1:TV)=>Ag (Jr a 1 (.str s)) (fun (q1:Nat×List TV)=>need (List.all q1.2 Ap) (AU 5 1 1 v1 q1.1 q1.2 a (fun (v2:TV) d=>need (List.all [v2] Ap) (stB d (.box b 1) [v2] (fun c=>K ((s.length:Int)) .nilIface c)))))))):CallT PR AP [(.box b 0),.str s] [.one (.int .i64),.one .tv] st K:=
 Ae (cfg:=⟨[],[],[]⟩) (h:= .none) mixed (fun _ _=>Tryz.call196 _ _) Tryz.func196 (by kernel_rfl) (by kernel_rfl) h
theorem NA (v_0:Int) (v_1:Bool) (v_2:Bool) (v_3:B8) (v_4:Int) (v_5:Int) (v_6:Int) (v_7:Int) (v_8:Int) (v_9:B8) (v_10:TV) (v_11:TV) (v_12:TV) (st:St) (K:Bool->St->Prop) (h:BId (v_0≠1) (BIf v_1 (K true st) (BId (v_0≠2) (BIf (!((v_2==false)&&(decide (v_3=([]:B8))&&(decide (v_4=(0:Int))&&true)))) (K true st) (BId (v_0≠3) (BIf (!(decide (v_5=(0:Int))&&(decide (v_6=(0:Int))&&(decide (v_7=(0:Int))&&(decide (v_8=(0:Int))&&true))))) (K true st) (BId (v_0≠4) (BId (v_9≠([]:B8)) (K true st) (BId (v_0≠5) (need (isSl v_10) (BId ((0:Int)<(lenS v_10:Int)) (K true st) (BId (v_0≠6) (need (isSl v_11) (BId ((0:Int)<(lenS v_11:Int)) (K true st) (BId (v_0≠7) (need (isSl v_12) (K ((decide ((0:Int)<(lenS v_12:Int)))) st)) (K false st)))) (BId (v_0≠7) (need (isSl v_12) (K ((decide ((0:Int)<(lenS v_12:Int)))) st)) (K false st))))) (BId (v_0≠6) (need (isSl v_11) (BId ((0:Int)<(lenS v_11:Int)) (K true st) (BId (v_0≠7) (need (isSl v_12) (K ((decide ((0:Int)<(lenS v_12:Int)))) st)) (K false st)))) (BId (v_0≠7) (need (isSl v_12) (K ((decide ((0:Int)<(lenS v_12:Int)))) st)) (K false st))))) (BId (v_0≠5) (need (isSl v_10) (BId ((0:Int)<(lenS v_10:Int)) (K true st) (BId (v_0≠6) (need (isSl v_11) (BId ((0:Int)<(lenS v_11:Int)) (K true st) (BId (v_0≠7) (need (isSl v_12) (K ((decide ((0:Int)<(lenS v_12:Int)))) st)) (K false st)))) (BId (v_0≠7) (need (isSl v_12) (K ((decide ((0:Int)<(lenS v_12:Int)))) st)) (K false st))))) (BId (v_0≠6) (need (isSl v_11) (BId ((0:Int)<(lenS v_11:Int)) (K true st) (BId (v_0≠7) (need (isSl v_12) (K ((decide ((0:Int)<(lenS v_12:Int)))) st)) (K false st)))) (BId (v_0≠7) (need (isSl v_12) (K ((decide ((0:Int)<(lenS v_12:Int)))) st)) (K false st)))))) (BId (v_0≠4) (BId (v_9≠([]:B8)) (K true st) (BId (v_0≠5) (need (isSl v_10) (BId ((0:Int)<(lenS v_10:Int)) (K true st) (BId (v_0≠6) (need (isSl v_11) (BId ((0:Int)<(lenS v_11:Int)) (K true st) (BId (v_0≠7) (need (isSl v_12) (K ((decide ((0:Int)<(lenS v_12:Int)))) st)) (K false st)))) (BId (v_0≠7) (need (isSl v_12) (K ((decide ((0:Int)<(lenS v_12:Int)))) st)) (K false st))))) (BId (v_0≠6) (need (isSl v_11) (BId ((0:Int)<(lenS v_11:Int)) (K true st) (BId (v_0≠7) (need (isSl v_12) (K ((decide ((0:Int)<(lenS v_12:Int)))) st)) (K false st)))) (BId (v_0≠7) (need (isSl v_12) (K ((decide ((0:Int)<(lenS v_12:Int)))) st)) (K false st))))) (BId (v_0≠5) (need (isSl v_10) (BId ((0:Int)<(lenS v_10:Int)) (K true st) (BId (v_0≠6) (need (isSl v_11) (BId ((0:Int)<(lenS v_11:Int)) (K true st) (BId (v_0≠7) (need (isSl v_12) (K ((decide ((0:Int)<(lenS v_12:Int)))) st)) (K false st)))) (BId (v_0≠7) (need (isSl v_12) (K ((decide ((0:Int)<(lenS v_12:Int)))) st)) (K false st))))) (BId (v_0≠6) (need (isSl v_11) (BId ((0:Int)<(lenS v_11:Int)) (K true st) (BId (v_0≠7) (need (isSl v_12) (K ((decide ((0:Int)<(lenS v_12:Int)))) st)) (K false st)))) (BId (v_0≠7) (need (isSl v_12) (K ((decide ((0:Int)<(lenS v_12:Int)))) st)) (K false st))))))) (BId (v_0≠3) (BIf (!(decide (v_5=(0:Int))&&(decide (v_6=(0:Int))&&(decide (v_7=(0:Int))&&(decide (v_8=(0:Int))&&true))))) (K true st) (BId (v_0≠4) (BId (v_9≠([]:B8)) (K true st) (BId (v_0≠5) (need (isSl v_10) (BId ((0:Int)<(lenS v_10:Int)) (K true st) (BId (v_0≠6) (need (isSl v_11) (BId ((0:Int)<(lenS v_11:Int)) (K true st) (BId (v_0≠7) (need (isSl v_12) (K ((decide ((0:Int)<(lenS v_12:Int)))) st)) (K false st)))) (BId (v_0≠7) (need (isSl v_12) (K ((decide ((0:Int)<(lenS v_12:Int)))) st)) (K false st))))) (BId (v_0≠6) (need (isSl v_11) (BId ((0:Int)<(lenS v_11:Int)) (K true st) (BId (v_0≠7) (need (isSl v_12) (K ((decide ((0:Int)<(lenS v_12:Int)))) st)) (K false st)))) (BId (v_0≠7) (need (isSl v_12) (K ((decide ((0:Int)<(lenS v_12:Int)))) st)) (K false st))))) (BId (v_0≠5) (need (isSl v_10) (BId ((0:Int)<(lenS v_10:Int)) (K true st) (BId (v_0≠6) (need (isSl v_11) (BId ((0:Int)<(lenS v_11:Int)) (K true st) (BId (v_0≠7) (need (isSl v_12) (K ((decide ((0:Int)<(lenS v_12:Int)))) st)) (K false st)))) (BId (v_0≠7) (need (isSl v_12) (K ((decide ((0:Int)<(lenS v_12:Int)))) st)) (K false st))))) (BId (v_0≠6) (need (isSl v_11) (BId ((0:Int)<(lenS v_11:Int)) (K true st) (BId (v_0≠7) (need (isSl v_12) (K ((decide ((0:Int)<(lenS v_12:Int)))) st)) (K false st)))) (BId (v_0≠7) (need (isSl v_12) (K ((decide ((0:Int)<(lenS v_12:Int)))) st)) (K false st)))))) (BId (v_0≠4) (BId (v_9≠([]:B8)) (K true st) (BId (v_0≠5) (need (isSl v_10) (BId ((0:Int)<(lenS v_10:Int)) (K true st) (BId (v_0≠6) (need (isSl v_11) (BId ((0:Int)<(lenS v_11:Int)) (K true st) (BId (v_0≠7) (need (isSl v_12) (K ((decide ((0:Int)<(lenS v_12:Int)))) st)) (K false st)))) (BId (v_0≠7) (need (isSl v_12) (K ((decide ((0:Int)<(lenS v_12:Int)))) st)) (K false st))))) (BId (v_0≠6) (need (isSl v_11) (BId ((0:Int)<(lenS v_11:Int)) (K true st) (BId (v_0≠7) (need (isSl v_12) (K ((decide ((0:Int)<(lenS v_12:Int)))) st)) (K false st)))) (BId (v_0≠7) (need (isSl v_12) (K ((decide ((0:Int)<(lenS v_12:Int)))) st)) (K false st))))) (BId (v_0≠5) (need (isSl v_10) (BId ((0:Int)<(lenS v_10:Int)) (K true st) (BId (v_0≠6) (need (isSl v_11) (BId ((0:Int)<(lenS v_11:Int)) (K true st) (BId (v_0≠7) (need (isSl v_12) (K ((decide ((0:Int)<(lenS v_12:Int)))) st)) (K false st)))) (BId (v_0≠7) (need (isSl v_12) (K ((decide ((0:Int)<(lenS v_12:Int)))) st)) (K false st))))) (BId (v_0≠6) (need (isSl v_11) (BId ((0:Int)<(lenS v_11:Int)) (K true st) (BId (v_0≠7) (need (isSl v_12) (K ((decide ((0:Int)<(lenS v_12:Int)))) st)) (K false st)))) (BId (v_0≠7) (need (isSl v_12) (K ((decide ((0:Int)<(lenS v_12:Int)))) st)) (K false st)))))))) (BId (v_0≠2) (BIf (!((v_2==false)&&(decide (v_3=([]:B8))&&(decide (v_4=(0:Int))&&true)))) (K true st) (BId (v_0≠3) (BIf (!(decide (v_5=(0:Int))&&(decide (v_6=(0:Int))&&(decide (v_7=(0:Int))&&(decide (v_8=(0:Int))&&true))))) (K true st) (BId (v_0≠4) (BId (v_9≠([]:B8)) (K true st) (BId (v_0≠5) (need (isSl v_10) (BId ((0:Int)<(lenS v_10:Int)) (K true st) (BId (v_0≠6) (need (isSl v_11) (BId ((0:Int)<(lenS v_11:Int)) (K true st) (BId (v_0≠7) (need (isSl v_12) (K ((decide ((0:Int)<(lenS v_12:Int)))) st)) (K false st)))) (BId (v_0≠7) (need (isSl v_12) (K ((decide ((0:Int)<(lenS v_12:Int)))) st)) (K false st))))) (BId (v_0≠6) (need (isSl v_11) (BId ((0:Int)<(lenS v_11:Int)) (K true st) (BId (v_0≠7) (need (isSl v_12) (K ((decide ((0:Int)<(lenS v_12:Int)))) st)) (K false st)))) (BId (v_0≠7) (need (isSl v_12) (K ((decide ((0:Int)<(lenS v_12:Int)))) st)) (K false st))))) (BId (v_0≠5) (need (isSl v_10) (BId ((0:Int)<(lenS v_10:Int)) (K true st) (BId (v_0≠6) (need (isSl v_11) (BId ((0:Int)<(lenS v_11:Int)) (K true st) (BId (v_0≠7) (need (isSl v_12) (K ((decide ((0:Int)<(lenS v_12:Int)))) st)) (K false st)))) (BId (v_0≠7) (need (isSl v_12) (K ((decide ((0:Int)<(lenS v_12:Int)))) st)) (K false st))))) (BId (v_0≠6) (need (isSl v_11) (BId ((0:Int)<(lenS v_11:Int)) (K true st) (BId (v_0≠7) (need (isSl v_12) (K ((decide ((0:Int)<(lenS v_12:Int)))) st)) (K false st)))) (BId (v_0≠7) (need (isSl v_12) (K ((decide ((0:Int)<(lenS v_12:Int)))) st)) (K false st)))))) (BId (v_0≠4) (BId (v_9≠([]:B8)) (K true st) (BId (v_0≠5) (need (isSl v_10) (BId ((0:Int)<(lenS v_10:Int)) (K true st) (BId (v_0≠6) (need (isSl v_11) (BId ((0:Int)<(lenS v_11:Int)) (K true st) (BId (v_0≠7) (need (isSl v_12) (K ((decide ((0:Int)<(lenS v_12:Int)))) st)) (K false st)))) (BId (v_0≠7) (need (isSl v_12) (K ((decide ((0:Int)<(lenS v_12:Int)))) st)) (K false st))))) (BId (v_0≠6) (need (isSl v_11) (BId ((0:Int)<(lenS v_11:Int)) (K true st) (BId (v_0≠7) (need (isSl v_12) (K ((decide ((0:Int)<(lenS v_12:Int)))) st)) (K false st)))) (BId (v_0≠7) (need (isSl v_12) (K ((decide ((0:Int)<(lenS v_12:Int)))) st)) (K false st))))) (BId (v_0≠5) (need (isSl v_10) (BId ((0:Int)<(lenS v_10:Int)) (K true st) (BId (v_0≠6) (need (isSl v_11) (BId ((0:Int)<(lenS v_11:Int)) (K true st) (BId (v_0≠7) (need (isSl v_12) (K ((decide ((0:Int)<(lenS v_12:Int)))) st)) (K false st)))) (BId (v_0≠7) (need (isSl v_12) (K ((decide ((0:Int)<(lenS v_12:Int)))) st)) (K false st))))) (BId (v_0≠6) (need (isSl v_11) (BId ((0:Int)<(lenS v_11:Int)) (K true st) (BId (v_0≠7) (need (isSl v_12) (K ((decide ((0:Int)<(lenS v_12:Int)))) st)) (K false st)))) (BId (v_0≠7) (need (isSl v_12) (K ((decide ((0:Int)<(lenS v_12:Int)))) st)) (K false st))))))) (BId (v_0≠3) (BIf (!(decide (v_5=(0:Int))&&(decide (v_6=(0:Int))&&(decide (v_7=(0:Int))&&(decide (v_8=(0:Int))&&true))))) (K true st) (BId (v_0≠4) (BId (v_9≠([]:B8)) (K true st) (BId (v_0≠5) (need (isSl v_10) (BId ((0:Int)<(lenS v_10:Int)) (K true st) (BId (v_0≠6) (need (isSl v_11) (BId ((0:Int)<(lenS v_11:Int)) (K true st) (BId (v_0≠7) (need (isSl v_12) (K ((decide ((0:Int)<(lenS v_12:Int)))) st)) (K false st)))) (BId (v_0≠7) (need (isSl v_12) (K ((decide ((0:Int)<(lenS v_12:Int)))) st)) (K false st))))) (BId (v_0≠6) (need (isSl v_11) (BId ((0:Int)<(lenS v_11:Int)) (K true st) (BId (v_0≠7) (need (isSl v_12) (K ((decide ((0:Int)<(lenS v_12:Int)))) st)) (K false st)))) (BId (v_0≠7) (need (isSl v_12) (K ((decide ((0:Int)<(lenS v_12:Int)))) st)) (K false st))))) (BId (v_0≠5) (need (isSl v_10) (BId ((0:Int)<(lenS v_10:Int)) (K true st) (BId (v_0≠6) (need (isSl v_11) (BId ((0:Int)<(lenS v_11:Int)) (K true st) (BId (v_0≠7) (need (isSl v_12) (K ((decide ((0:Int)<(lenS v_12:Int)))) st)) (K false st)))) (BId (v_0≠7) (need (isSl v_12) (K ((decide ((0:Int)<(lenS v_12:Int)))) st)) (K false st))))) (BId (v_0≠6) (need (isSl v_11) (BId ((0:Int)<(lenS v_11:Int)) (K true st) (BId (v_0≠7) (need (isSl v_12) (K ((decide ((0:Int)<(lenS v_12:Int)))) st)) (K false st)))) (BId (v_0≠7) (need (isSl v_12) (K ((decide ((0:Int)<(lenS v_12:Int)))) st)) (K false st)))))) (BId (v_0≠4) (BId (v_9≠([]:B8)) (K true st) (BId (v_0≠5) (need (isSl v_10) (BId ((0:Int)<(lenS v_10:Int)) (K true st) (BId (v_0≠6) (need (isSl v_11) (BId ((0:Int)<(lenS v_11:Int)) (K true st) (BId (v_0≠7) (need (isSl v_12) (K ((decide ((0:Int)<(lenS v_12:Int)))) st)) (K false st)))) (BId (v_0≠7) (need (isSl v_12) (K ((decide ((0:Int)<(lenS v_12:Int)))) st)) (K false st))))) (BId (v_0≠6) (need (isSl v_11) (BId ((0:Int)<(lenS v_11:Int)) (K true st) (BId (v_0≠7) (need (isSl v_12) (K ((decide ((0:Int)<(lenS v_12:Int)))) st)) (K false st)))) (BId (v_0≠7) (need (isSl v_12) (K ((decide ((0:Int)<(lenS v_12:Int)))) st)) (K false st))))) (BId (v_0≠5) (need (isSl v_10) (BId ((0:Int)<(lenS v_10:Int)) (K true st) (BId (v_0≠6) (need (isSl v_11) (BId ((0:Int)<(lenS v_11:Int)) (K true st) (BId (v_0≠7) (need (isSl v_12) (K ((decide ((0:Int)<(lenS v_12:Int)))) st)) (K false st)))) (BId (v_0≠7) (need (isSl v_12) (K ((decide ((0:Int)<(lenS v_12:Int)))) st)) (K false st))))) (BId (v_0≠6) (need (isSl v_11) (BId ((0:Int)<(lenS v_11:Int)) (K true st) (BId (v_0≠7) (need (isSl v_12) (K ((decide ((0:Int)<(lenS v_12:Int)))) st)) (K false st)))) (BId (v_0≠7) (need (isSl v_12) (K ((decide ((0:Int)<(lenS v_12:Int)))) st)) (K false st)))))))):CallT PR F3 [(.agg (cV v_0 v_1 v_2 v_3 v_4 v_5 v_6 v_7 v_8 v_9 v_10 v_11 v_12))] [.one .bool] st K:=
 Ae (cfg:=⟨[1],[],[]⟩) (h:= .none) mixed (fun _ _=>Tryz.call197 _ _) Tryz.func197 (by kernel_rfl) (by kernel_rfl) h
theorem LI (d_0:Bool) (d_1:B8) (d_2:Int) (st:St) (K:Bool->St->Prop) (h:BId (d_1=([]:B8)) (K (((d_0==false)&&(decide (d_1=([]:B8))&&(decide (d_2=(0:Int))&&true)))) st) (CallT PR DQ [.str d_1] [.one .bool] st (fun (b1:Bool) a=>BIf b1 (BId ((d_1.length:Int)<=(120:Int)) (CallT PR Fb [.str d_1] [.one (.int .i64)] a (fun (n1:Int) b=>BId (n1=0) (BId ((-400:Int)<=d_2) (K ((decide (d_2<=400))) b) (K false b)) (K false b))) (K false a)) (K false a)))):CallT PR Dv [(.agg [.bool d_0,.str d_1,.int .i64 d_2])] [.one .bool] st K:=
 Ae (cfg:=⟨[1],[],[]⟩) (h:= .none) mixed (fun _ _=>Tryz.call198 _ _) Tryz.func198 (by kernel_rfl) (by kernel_rfl) h
theorem MR (t_0:Int) (t_1:Int) (t_2:Int) (t_3:Int) (st:St) (K:Bool->St->Prop) (h:BId (t_0<1) (K false st) (BId ((4:Int)<t_0) (K false st) (BId (t_1<0) (K false st) (BId ((3652058:Int)<t_1) (K false st) (BId (t_2<0) (K false st) (BId ((86399999999999:Int)<t_2) (K false st) (BId (t_3<(-1439:Int)) (K false st) (BId ((1439:Int)<t_3) (K false st) (BId (t_0=2) (BId (t_1=0) (K ((decide (t_3=0))) st) (K false st)) (BId (t_0=1) (BId (t_2=0) (K ((decide (t_3=0))) st) (K false st)) (BId (t_0=3) (K ((decide (t_3=0))) st) (K true st)))))))))))):CallT PR CB [(.agg [.int .i64 t_0,.int .i64 t_1,.int .i64 t_2,.int .i64 t_3])] [.one .bool] st K:=
 Ae (cfg:=⟨[1],[],[]⟩) (h:= .none) mixed (fun _ _=>Tryz.call199 _ _) Tryz.func199 (by kernel_rfl) (by kernel_rfl) h
theorem OV (l:TV) (st:St) (K:Int->St->Prop) (h:need (isSl l) (∃(I1:Int->TV->TV->Int->St->Prop) (M1:Int->TV->TV->Int->St->Nat),(I1 0 ((.map st.nb)) l ((lenS l:Int)) (st.push (.map []) none))/\∀b a c e d,I1 b a c e d->(BId (b<e) (((0<=b/\b<(lenZ 14 c:Int))/\Ag ((Aj d [] (.t (ixT 14 c b.toNat)) 0 14).map TV.agg) (fun (x1:TV)=>AW [.str,.int .i64,.bool,.bool,.str,.int .i64,.int .i64,.int .i64,.int .i64,.int .i64,.str,.tv,.tv,.tv] x1 (fun (s1:B8) (n1:Int) (b1 b2:Bool) (s2:B8) (n2 n3 n4 n5 n6:Int) (s3:B8) (v1 v2 v3:TV)=>need (List.all [.str s1,.int .i64 n1,.bool b1,.bool b2,.str s2,.int .i64 n2,.int .i64 n3,.int .i64 n4,.int .i64 n5,.int .i64 n6,.str s3,v1,v2,v3] Ap) (CallT PR HO [.str s1] [.one (.int .i64)] d (fun (n7:Int) f=>BId (n7≠0) (K n7 f) (Ag (Je f a) (fun (es1:List (B8×TV))=>Af .bool (L8 (.bool false) (Dm s1 es1)) (fun (b3:Bool)=>BIf b3 (K 8 f) (muK a s1 (.bool true) f (fun g=>(I1 ((i64.wrap (b+(1:Int)))) a c e g/\M1 ((i64.wrap (b+(1:Int)))) a c e g<M1 b a c e d)))))))))))) (K 0 d)))):CallT PR GL [l] [.one (.int .i64)] st K:=
 Ae (cfg:=⟨[5],[],[]⟩) (h:=(.seq .none (.seq .none (.seq (.seq .none (.block (.loop ⟨[(10,.int .i64),(3,.tv),(8,.tv),(9,.int .i64)],[],[],[]⟩ .none))) .none)))) mixed (fun _ _=>Tryz.call200 _ _) Tryz.func200 (by kernel_rfl) (by kernel_rfl) h
theorem FT (s:B8) (st:St) (K:TV->Bool->St->Prop) (h:∃(I1:TV->Int->B8->St->Prop) (M1:TV->Int->B8->St->Nat),(I1 ((.list 1 .full 1 [.int .i64 0])) 0 s st)/\∀c a b d,I1 c a b d->(BId (a<(b.length:Int)) (CallT PR BC [.str b,.int .i64 a] [.one (.int .i64),.one (.int .i64)] d (fun (n1 n2:Int) e=>BId (n2=0) (K c false e) (AU 3 1 8 c 1 [(.int .i64 (i64.wrap (a+n2)))] e (fun (v1:TV) f=>(I1 v1 ((i64.wrap (a+n2))) b f/\M1 v1 ((i64.wrap (a+n2))) b f<M1 c a b d))))) (K c true d))):CallT PR BI [.str s] [.one .tv,.one .bool] st K:=
 Ae (cfg:=⟨[],[],[]⟩) (h:=(.seq .none (.seq .none (.seq .none (.seq (.block (.loop ⟨[(4,.tv),(5,.int .i64),(0,.str)],[],[],[]⟩ .none)) .none))))) mixed (fun _ _=>Tryz.call202 _ _) Tryz.func202 (by kernel_rfl) (by kernel_rfl) h
theorem Ht (c:Int) (st:St) (K:Bool->St->Prop) (h:BId ((97:Int)<=c) (BId (c<=122) (K true st) (BId ((65:Int)<=c) (K ((decide (c<=90))) st) (K false st))) (BId ((65:Int)<=c) (K ((decide (c<=90))) st) (K false st))):CallT PR Ct [.int .u8 c] [.one .bool] st K:=
 Ae (cfg:=⟨[],[],[]⟩) (h:= .none) mixed (fun _ _=>Tryz.call204 _ _) Tryz.func204 (by kernel_rfl) (by kernel_rfl) h
theorem Im (c:Int) (st:St) (K:Bool->St->Prop) (h:BId ((48:Int)<=c) (K ((decide (c<=57))) st) (K false st)):CallT PR BN [.int .u8 c] [.one .bool] st K:=
 Ae (cfg:=⟨[],[],[]⟩) (h:= .none) mixed (fun _ _=>Tryz.call205 _ _) Tryz.func205 (by kernel_rfl) (by kernel_rfl) h
theorem Rv (b:Int) (st:St) (K:Int->Int->St->Prop) (h:BId (b<128) (K 1 ((i64.wrap b)) st) (BId ((192:Int)<=b) (BId (b<224) (K 2 ((i64.wrap (AJ .and .u8 b (31:Int)))) st) (BId ((224:Int)<=b) (BId (b<240) (K 3 ((i64.wrap (AJ .and .u8 b (15:Int)))) st) (BId ((240:Int)<=b) (BId (b<248) (K 4 ((i64.wrap (AJ .and .u8 b (7:Int)))) st) (K 0 0 st)) (K 0 0 st))) (BId ((240:Int)<=b) (BId (b<248) (K 4 ((i64.wrap (AJ .and .u8 b (7:Int)))) st) (K 0 0 st)) (K 0 0 st)))) (BId ((224:Int)<=b) (BId (b<240) (K 3 ((i64.wrap (AJ .and .u8 b (15:Int)))) st) (BId ((240:Int)<=b) (BId (b<248) (K 4 ((i64.wrap (AJ .and .u8 b (7:Int)))) st) (K 0 0 st)) (K 0 0 st))) (BId ((240:Int)<=b) (BId (b<248) (K 4 ((i64.wrap (AJ .and .u8 b (7:Int)))) st) (K 0 0 st)) (K 0 0 st))))):CallT PR Jj [.int .u8 b] [.one (.int .i64),.one (.int .i64)] st K:=
 Ae (cfg:=⟨[],[],[]⟩) (h:= .none) mixed (fun _ _=>Tryz.call210 _ _) Tryz.func210 (by kernel_rfl) (by kernel_rfl) h
theorem OY (r:Int) (st:St) (K:Bool->St->Prop) (h:BId ((0:Int)<=r) (BId (r<=1114111) (BId (r<55296) (K true st) (K ((decide ((57343:Int)<r))) st)) (K false st)) (K false st)):CallT PR GN [.int .i64 r] [.one .bool] st K:=
 Ae (cfg:=⟨[],[],[]⟩) (h:= .none) mixed (fun _ _=>Tryz.call211 _ _) Tryz.func211 (by kernel_rfl) (by kernel_rfl) h
theorem Qn (r:Int) (st:St) (K:Int->St->Prop) (h:BId (r<128) (K 1 st) (BId (r<2048) (K 2 st) (BId (r<65536) (K 3 st) (K 4 st)))):CallT PR HP [.int .i64 r] [.one (.int .i64)] st K:=
 Ae (cfg:=⟨[],[],[]⟩) (h:= .none) mixed (fun _ _=>Tryz.call212 _ _) Tryz.func212 (by kernel_rfl) (by kernel_rfl) h
theorem LG (n:Int) (st:St) (K:B8->St->Prop) (h:BId (n=0) (K K3 st) (CallT PR Ej [.int .i64 n] [.one .str] st (fun (s1:B8) a=>K s1 a))):CallT PR Du [.int .i64 n] [.one .str] st K:=
 Ae (cfg:=⟨[],[],[]⟩) (h:= .none) mixed (fun _ _=>Tryz.call222 _ _) Tryz.func222 (by kernel_rfl) (by kernel_rfl) h
theorem Ko (n:Int) (st:St) (K:B8->St->Prop) (h:CallT PR EL [.int .i64 n] [.one (.int .i64),.one (.int .i64),.one (.int .i64),.one (.int .i64)] st (fun (n1 n2 n3 n4:Int) b=>CallT PR AH [.int .i64 n1,.int .i64 4] [.one .str] b (fun (s1:B8) d=>(s1.length+EV.length<=9223372036854775807/\CallT PR AH [.int .i64 n2,.int .i64 2] [.one .str] d (fun (s2:B8) a=>(((s1++EV)).length+s2.length<=9223372036854775807/\((((s1++EV)++s2)).length+EV.length<=9223372036854775807/\CallT PR AH [.int .i64 n3,.int .i64 2] [.one .str] a (fun (s3:B8) c=>(((((s1++EV)++s2)++EV)).length+s3.length<=9223372036854775807/\K (((((s1++EV)++s2)++EV)++s3)) c))))))))):CallT PR Bg [.int .i64 n] [.one .str] st K:=
 Ae (cfg:=⟨[],[],[]⟩) (h:= .none) mixed (fun _ _=>Tryz.call223 _ _) Tryz.func223 (by kernel_rfl) (by kernel_rfl) h
theorem JP (nano:Int) (st:St) (K:B8->St->Prop) (h:CallT PR AH [(.int .i64 (i64.wrap (Int.tdiv (i64.wrap (Int.tdiv nano (1000000000:Int))) (3600:Int)))),.int .i64 2] [.one .str] st (fun (s1:B8) e=>(s1.length+Dy.length<=9223372036854775807/\CallT PR AH [(.int .i64 (Int.tmod (i64.wrap (Int.tdiv (i64.wrap (Int.tdiv nano (1000000000:Int))) (60:Int))) (60:Int))),.int .i64 2] [.one .str] e (fun (s2:B8) f=>(((s1++Dy)).length+s2.length<=9223372036854775807/\((((s1++Dy)++s2)).length+Dy.length<=9223372036854775807/\CallT PR AH [(.int .i64 (Int.tmod (i64.wrap (Int.tdiv nano (1000000000:Int))) (60:Int))),.int .i64 2] [.one .str] f (fun (s3:B8) d=>(((((s1++Dy)++s2)++Dy)).length+s3.length<=9223372036854775807/\BId ((Int.tmod nano (1000000000:Int))=(0:Int)) (K (((((s1++Dy)++s2)++Dy)++s3)) d) (CallT PR AH [(.int .i64 (Int.tmod nano (1000000000:Int))),.int .i64 9] [.one .str] d (fun (s4:B8) g=>∃(I1:B8->B8->St->Prop) (M1:B8->B8->St->Nat),(I1 s4 (((((s1++Dy)++s2)++Dy)++s3)) g)/\∀a b c,I1 a b c->(((0<=(i64.wrap ((a.length:Int)-(1:Int)))/\(i64.wrap ((a.length:Int)-(1:Int)))<(a.length:Int))/\BId (((List.getD a (Int.toNat (i64.wrap ((a.length:Int)-(1:Int)))) 0).toNat:Int)=(48:Int)) (((0<=(i64.wrap ((a.length:Int)-(1:Int)))/\(i64.wrap ((a.length:Int)-(1:Int)))<=(a.length:Int))/\(I1 ((List.take (Int.toNat (i64.wrap ((a.length:Int)-(1:Int)))) a)) b c/\M1 ((List.take (Int.toNat (i64.wrap ((a.length:Int)-(1:Int)))) a)) b c<M1 a b c))) ((b.length+J2.length<=9223372036854775807/\(((b++J2)).length+a.length<=9223372036854775807/\K (((b++J2)++a)) c))))))))))))))):CallT PR Bc [.int .i64 nano] [.one .str] st K:=
 Ae (cfg:=⟨[],[],[]⟩) (h:=(.seq .none (.seq .none (.seq .none (.seq .none (.seq .none (.seq (.block (.loop ⟨[(6,.str),(5,.str)],[],[],[]⟩ .none)) .none))))))) mixed (fun _ _=>Tryz.call224 _ _) Tryz.func224 (by kernel_rfl) (by kernel_rfl) h
theorem IJ (n:Int) (st:St) (K:B8->St->Prop) (h:BId (n=0) (K str24 st) (BId (n<0) (CallT PR AH [(.int .i64 (i64.wrap (Int.tdiv (i64.wrap (0-n)) (60:Int)))),.int .i64 2] [.one .str] st (fun (s1:B8) b=>(EV.length+s1.length<=9223372036854775807/\(((EV++s1)).length+Dy.length<=9223372036854775807/\CallT PR AH [(.int .i64 (Int.tmod (i64.wrap (0-n)) (60:Int))),.int .i64 2] [.one .str] b (fun (s2:B8) d=>((((EV++s1)++Dy)).length+s2.length<=9223372036854775807/\K ((((EV++s1)++Dy)++s2)) d)))))) (CallT PR AH [(.int .i64 (i64.wrap (Int.tdiv n (60:Int)))),.int .i64 2] [.one .str] st (fun (s3:B8) a=>(RK.length+s3.length<=9223372036854775807/\(((RK++s3)).length+Dy.length<=9223372036854775807/\CallT PR AH [(.int .i64 (Int.tmod n (60:Int))),.int .i64 2] [.one .str] a (fun (s4:B8) c=>((((RK++s3)++Dy)).length+s4.length<=9223372036854775807/\K ((((RK++s3)++Dy)++s4)) c)))))))):CallT PR Di [.int .i64 n] [.one .str] st K:=
 Ae (cfg:=⟨[],[],[]⟩) (h:= .none) mixed (fun _ _=>Tryz.call225 _ _) Tryz.func225 (by kernel_rfl) (by kernel_rfl) h
theorem Hv (year:Int) (st:St) (K:Int->St->Prop) (h:∃(I1:Int->Int->Int->St->Prop) (M1:Int->Int->Int->St->Nat),(I1 0 1 year st)/\∀c b a d,I1 c b a d->(BId (b<=12) (CallT PR Be [.int .i64 a,.int .i64 b] [.one (.int .i64)] d (fun (n1:Int) e=>(I1 ((i64.wrap (c+n1))) ((i64.wrap (b+(1:Int)))) a e/\M1 ((i64.wrap (c+n1))) ((i64.wrap (b+(1:Int)))) a e<M1 c b a d))) (K c d))):CallT PR Cu [.int .i64 year] [.one (.int .i64)] st K:=
 Ae (cfg:=⟨[],[],[]⟩) (h:=(.seq .none (.seq .none (.seq (.seq .none (.block (.loop ⟨[(3,.int .i64),(4,.int .i64),(0,.int .i64)],[],[],[]⟩ .none))) .none)))) mixed (fun _ _=>Tryz.call233 _ _) Tryz.func233 (by kernel_rfl) (by kernel_rfl) h
theorem Iu (year:Int) (month:Int) (st:St) (K:Int->St->Prop) (h:BId (year<1) (K 0 st) (BId ((9999:Int)<year) (K 0 st) (∃(C1:Bool->Int->Int->St->Prop),(BId (month=1) (C1 ((decide (month=1))) year month st) (BId (month=3) (C1 ((decide (month=3))) year month st) (BId (month=5) (C1 ((decide (month=5))) year month st) (BId (month=7) (C1 ((decide (month=7))) year month st) (BId (month=8) (C1 ((decide (month=8))) year month st) (BId (month=10) (C1 ((decide (month=10))) year month st) (C1 ((decide (month=12))) year month st)))))))/\∀e c b a,C1 e c b a->(BIf e (K 31 a) (BId (b=4) (BId (b=4) (K 30 a) (BId (b=2) (CallT PR A7 [.int .i64 c] [.one .bool] a (fun (b1:Bool) f=>BIf b1 (K 29 f) (K 28 f))) (K 0 a))) (BId (b=6) (BId (b=6) (K 30 a) (BId (b=2) (CallT PR A7 [.int .i64 c] [.one .bool] a (fun (b2:Bool) g=>BIf b2 (K 29 g) (K 28 g))) (K 0 a))) (BId (b=9) (BId (b=9) (K 30 a) (BId (b=2) (CallT PR A7 [.int .i64 c] [.one .bool] a (fun (b3:Bool) i=>BIf b3 (K 29 i) (K 28 i))) (K 0 a))) (BId (b=11) (K 30 a) (BId (b=2) (CallT PR A7 [.int .i64 c] [.one .bool] a (fun (b4:Bool) d=>BIf b4 (K 29 d) (K 28 d))) (K 0 a)))))))))):CallT PR Be [.int .i64 year,.int .i64 month] [.one (.int .i64)] st K:=
 Ae (cfg:=⟨[],[],[]⟩) (h:=(.seq .none (.seq .none (.seq (.seq .none (.block (.cut ⟨[(12,.bool),(0,.int .i64),(11,.int .i64)],[],[],[]⟩ .none .none))) .none)))) mixed (fun _ _=>Tryz.call234 _ _) Tryz.func234 (by kernel_rfl) (by kernel_rfl) h
theorem GE (s:B8) (prefixx:B8) (st:St) (K:Bool->St->Prop) (h:BId ((prefixx.length:Int)<=(s.length:Int)) (((0<=(prefixx.length:Int)/\(prefixx.length:Int)<=(s.length:Int))/\K ((decide ((List.take (Int.toNat (prefixx.length:Int)) s)=prefixx))) st)) (K false st)):CallT PR DN [.str s,.str prefixx] [.one .bool] st K:=
 Ae (cfg:=⟨[],[],[]⟩) (h:= .none) mixed (fun _ _=>Tryz.call235 _ _) Tryz.func235 (by kernel_rfl) (by kernel_rfl) h
theorem MW (s:B8) (st:St) (K:Int->Int->St->Prop) (h:CallT PR DQ [.str s] [.one .bool] st (fun (b1:Bool) f=>BIf (!b1) (K 0 3 f) (∃(I1:Int->Int->B8->Int->St->Prop) (M1:Int->Int->B8->Int->St->Nat),(I1 0 0 s ((s.length:Int)) f)/\∀c a b e d,I1 c a b e d->(BId (a<e) (((0<=a/\a<(b.length:Int))/\BId ((i64.wrap (Int.tdiv (i64.wrap ((9223372036854775807:Int)-(i64.wrap (u8.wrap (((List.getD b a.toNat 0).toNat:Int)-(48:Int)))))) (10:Int)))<c) (K 0 2 d) ((I1 ((i64.wrap ((i64.wrap (c*(10:Int)))+(i64.wrap (u8.wrap (((List.getD b a.toNat 0).toNat:Int)-(48:Int))))))) ((i64.wrap (a+(1:Int)))) b e d/\M1 ((i64.wrap ((i64.wrap (c*(10:Int)))+(i64.wrap (u8.wrap (((List.getD b a.toNat 0).toNat:Int)-(48:Int))))))) ((i64.wrap (a+(1:Int)))) b e d<M1 c a b e d)))) (K c 0 d))))):CallT PR Fc [.str s] [.one (.int .i64),.one (.int .i64)] st K:=
 Ae (cfg:=⟨[],[],[]⟩) (h:=(.seq .none (.seq .none (.seq .none (.seq (.seq .none (.block (.loop ⟨[(4,.int .i64),(12,.int .i64),(0,.str),(11,.int .i64)],[],[],[]⟩ .none))) .none))))) mixed (fun _ _=>Tryz.call236 _ _) Tryz.func236 (by kernel_rfl) (by kernel_rfl) h
theorem MZ (neg:Bool) (s:B8) (exp:Int) (st:St) (K:Bool->B8->Int->Int->St->Prop) (h:BId (s=([]:B8)) (K false [] 0 0 st) (CallT PR Dh [.str s,.str K3] [.one .str] st (fun (s1:B8) a=>((0<=(i64.wrap ((s.length:Int)-(i64.wrap ((s.length:Int)-(s1.length:Int)))))/\(i64.wrap ((s.length:Int)-(i64.wrap ((s.length:Int)-(s1.length:Int)))))<=(s.length:Int))/\BId ((i64.wrap ((400:Int)-(i64.wrap ((s.length:Int)-(s1.length:Int)))))<exp) (K false [] 0 2 a) (BId (exp<(i64.wrap ((-400:Int)-(i64.wrap ((s.length:Int)-(s1.length:Int)))))) (K false [] 0 2 a) (BId ((120:Int)<(((List.take (Int.toNat (i64.wrap ((s.length:Int)-(i64.wrap ((s.length:Int)-(s1.length:Int)))))) s)).length:Int)) (K false [] 0 2 a) (K neg ((List.take (Int.toNat (i64.wrap ((s.length:Int)-(i64.wrap ((s.length:Int)-(s1.length:Int)))))) s)) ((i64.wrap (exp+(i64.wrap ((s.length:Int)-(s1.length:Int)))))) 0 a))))))):CallT PR Fg [.bool neg,.str s,.int .i64 exp] [.agg [.bool,.str,.int .i64],.one (.int .i64)] st K:=
 Ae (cfg:=⟨[6],[],[]⟩) (h:= .none) mixed (fun _ _=>Tryz.call241 _ _) Tryz.func241 (by kernel_rfl) (by kernel_rfl) h
theorem Ho (r:Nat) (f:Nat) (st:St) (K:St->Prop) (h:CallT PR Ax [(.box r 0),.int .i64 2] [.one (.int .i64)] st (fun (n1:Int) i=>stB i (.box f 3) [.int .i64 n1] (fun k=>CallT PR AC [(.box r 0),.str Dy] [.one (.int .u8)] k (fun (n2:Int) l=>CallT PR Ax [(.box r 0),.int .i64 2] [.one (.int .i64)] l (fun (n3:Int) m=>stB m (.box f 4) [.int .i64 n3] (fun g=>CallT PR AC [(.box r 0),.str Dy] [.one (.int .u8)] g (fun (n4:Int) e=>CallT PR Ax [(.box r 0),.int .i64 2] [.one (.int .i64)] e (fun (n5:Int) j=>stB j (.box f 5) [.int .i64 n5] (fun a=>Ag (Ac a [] (.t (.box r 0)) 0) (fun (x1:TV)=>Af .str x1 (fun (s1:B8)=>BId (s1≠([]:B8)) (Ag (Ac a [] (.t (.box r 0)) 0) (fun (x2:TV)=>Af .str x2 (fun (s2:B8)=>((0<=(0:Int)/\(0:Int)<(s2.length:Int))/\BId (((List.getD s2 (Int.toNat (0:Int)) 0).toNat:Int)=(46:Int)) (Ag (Ac a [] (.t (.box r 0)) 0) (fun (x3:TV)=>Af .str x3 (fun (s3:B8)=>((0<=(1:Int)/\(1:Int)<=(s3.length:Int))/\stB a (.box r 0) [(.str (List.drop (Int.toNat (1:Int)) s3))] (fun d=>CallT PR BV [(.box r 0)] [.one (.int .i64)] d (fun (n6:Int) b=>stB b (.box f 6) [.int .i64 n6] (fun c=>K c))))))) (K a))))) (K a)))))))))))):CallT PR A9 [(.box r 0),(.box f 0)] [] st K:=
 Ae (cfg:=⟨[],[],[]⟩) (h:= .none) mixed (fun _ _=>Tryz.call242 _ _) Tryz.func242 (by kernel_rfl) (by kernel_rfl) h
theorem Id (r:Nat) (f:Nat) (st:St) (K:St->Prop) (h:CallT PR Ax [(.box r 0),.int .i64 4] [.one (.int .i64)] st (fun (n1:Int) d=>stB d (.box f 0) [.int .i64 n1] (fun g=>CallT PR AC [(.box r 0),.str EV] [.one (.int .u8)] g (fun (n2:Int) i=>CallT PR Ax [(.box r 0),.int .i64 2] [.one (.int .i64)] i (fun (n3:Int) j=>stB j (.box f 1) [.int .i64 n3] (fun c=>CallT PR AC [(.box r 0),.str EV] [.one (.int .u8)] c (fun (n4:Int) a=>CallT PR Ax [(.box r 0),.int .i64 2] [.one (.int .i64)] a (fun (n5:Int) e=>stB e (.box f 2) [.int .i64 n5] (fun b=>K b))))))))):CallT PR BL [(.box r 0),(.box f 0)] [] st K:=
 Ae (cfg:=⟨[],[],[]⟩) (h:= .none) mixed (fun _ _=>Tryz.call243 _ _) Tryz.func243 (by kernel_rfl) (by kernel_rfl) h
theorem II (r:Nat) (of:B8) (st:St) (K:Int->St->Prop) (h:Ag (Ac st [] (.t (.box r 0)) 0) (fun (x1:TV)=>Af .str x1 (fun (s1:B8)=>BId (s1≠([]:B8)) (∃(I1:Int->TV->B8->Int->St->Prop) (M1:Int->TV->B8->Int->St->Nat),(I1 0 ((.box r 0)) of ((of.length:Int)) st)/\∀c a b e d,I1 c a b e d->(BId (c<e) (need (isPtr a) (need (isPtr a) (Ag (Ac d [] (.t (Ao a 0)) 0) (fun (x2:TV)=>Af .str x2 (fun (s2:B8)=>((0<=(0:Int)/\(0:Int)<(s2.length:Int))/\((0<=c/\c<(b.length:Int))/\BId (((List.getD s2 (Int.toNat (0:Int)) 0).toNat:Int)=((List.getD b c.toNat 0).toNat:Int)) (need (isPtr a) (need (isPtr a) (Ag (Ac d [] (.t (Ao a 0)) 0) (fun (x3:TV)=>Af .str x3 (fun (s3:B8)=>((0<=(1:Int)/\(1:Int)<=(s3.length:Int))/\need (isPtr a) (need (isPtr a) (stB d (Ao a 0) [(.str (List.drop (Int.toNat (1:Int)) s3))] (fun f=>((0<=c/\c<(b.length:Int))/\K (((List.getD b c.toNat 0).toNat:Int)) f)))))))))) ((I1 ((i64.wrap (c+(1:Int)))) a b e d/\M1 ((i64.wrap (c+(1:Int)))) a b e d<M1 c a b e d))))))))) (need (isPtr a) (need (isPtr a) (stB d (Ao a 1) [.bool true] (fun g=>K 0 g)))))) (stB st (.box r 1) [.bool true] (fun i=>K 0 i))))):CallT PR AC [(.box r 0),.str of] [.one (.int .u8)] st K:=
 Ae (cfg:=⟨[],[],[]⟩) (h:=(.seq .none (.seq (.seq .none (.cond (.seq .none (.block (.loop ⟨[(13,.int .i64),(0,.tv),(1,.str),(12,.int .i64)],[],[],[]⟩ .none))) .none)) .none))) mixed (fun _ _=>Tryz.call244 _ _) Tryz.func244 (by kernel_rfl) (by kernel_rfl) h
theorem GZ (r:Nat) (f:Nat) (st:St) (K:St->Prop) (h:CallT PR AC [(.box r 0),.str str31] [.one (.int .u8)] st (fun (n1:Int) k=>stB k (.box f 7) [.int .u8 n1] (fun a=>Ag (Ac a [] (.t (.box f 7)) 0) (fun (x1:TV)=>Af (.int .u8) x1 (fun (n2:Int)=>BId (n2=43) (CallT PR Ax [(.box r 0),.int .i64 2] [.one (.int .i64)] a (fun (n3:Int) m=>stB m (.box f 8) [.int .i64 n3] (fun n=>CallT PR AC [(.box r 0),.str Dy] [.one (.int .u8)] n (fun (n4:Int) j=>CallT PR Ax [(.box r 0),.int .i64 2] [.one (.int .i64)] j (fun (n5:Int) g=>stB g (.box f 9) [.int .i64 n5] (fun l=>K l)))))) (Ag (Ac a [] (.t (.box f 7)) 0) (fun (x2:TV)=>Af (.int .u8) x2 (fun (n6:Int)=>BId (n6=45) (CallT PR Ax [(.box r 0),.int .i64 2] [.one (.int .i64)] a (fun (n7:Int) i=>stB i (.box f 8) [.int .i64 n7] (fun e=>CallT PR AC [(.box r 0),.str Dy] [.one (.int .u8)] e (fun (n8:Int) b=>CallT PR Ax [(.box r 0),.int .i64 2] [.one (.int .i64)] b (fun (n9:Int) c=>stB c (.box f 9) [.int .i64 n9] (fun d=>K d)))))) (K a))))))))):CallT PR Br [(.box r 0),(.box f 0)] [] st K:=
 Ae (cfg:=⟨[],[],[]⟩) (h:= .none) mixed (fun _ _=>Tryz.call245 _ _) Tryz.func245 (by kernel_rfl) (by kernel_rfl) h
theorem KU (year:Int) (month:Int) (st:St) (K:Int->St->Prop) (h:CallT PR CZ [.int .i64 year] [.one .bool] st (fun (b1:Bool) a=>BIf (!b1) (K 0 a) (BId (month<1) (K 0 a) (BId ((12:Int)<month) (K 0 a) (BId (month=2) (CallT PR EK [.int .i64 year] [.one .bool] a (fun (b2:Bool) b=>BIf b2 (K 29 b) (((0<=(i64.wrap (month-(1:Int)))/\(i64.wrap (month-(1:Int)))<((12:Nat):Int))/\Ag ((([.int .i64 31,.int .i64 28,.int .i64 31,.int .i64 30,.int .i64 31,.int .i64 30,.int .i64 31,.int .i64 31,.int .i64 30,.int .i64 31,.int .i64 30,.int .i64 31]:List TV)[(0+(Int.toNat (i64.wrap (month-(1:Int))))*1)+0]?)) (fun (x1:TV)=>Af (.int .i64) x1 (fun (n1:Int)=>K n1 b)))))) (((0<=(i64.wrap (month-(1:Int)))/\(i64.wrap (month-(1:Int)))<((12:Nat):Int))/\Ag ((([.int .i64 31,.int .i64 28,.int .i64 31,.int .i64 30,.int .i64 31,.int .i64 30,.int .i64 31,.int .i64 31,.int .i64 30,.int .i64 31,.int .i64 30,.int .i64 31]:List TV)[(0+(Int.toNat (i64.wrap (month-(1:Int))))*1)+0]?)) (fun (x2:TV)=>Af (.int .i64) x2 (fun (n2:Int)=>K n2 a))))))))):CallT PR AR [.int .i64 year,.int .i64 month] [.one (.int .i64)] st K:=
 Ae (cfg:=⟨[5],[],[]⟩) (h:= .none) mixed (fun _ _=>Tryz.call246 _ _) Tryz.func246 (by kernel_rfl) (by kernel_rfl) h
theorem KR (year:Int) (st:St) (K:Int->St->Prop) (h:K ((i64.wrap ((i64.wrap ((i64.wrap ((i64.wrap ((365:Int)*(i64.wrap (year-(1:Int)))))+(i64.wrap (Int.tdiv (i64.wrap (year-(1:Int))) (4:Int)))))-(i64.wrap (Int.tdiv (i64.wrap (year-(1:Int))) (100:Int)))))+(i64.wrap (Int.tdiv (i64.wrap (year-(1:Int))) (400:Int)))))) st):CallT PR Bs [.int .i64 year] [.one (.int .i64)] st K:=
 Ae (cfg:=⟨[],[],[]⟩) (h:= .none) mixed (fun _ _=>Tryz.call247 _ _) Tryz.func247 (by kernel_rfl) (by kernel_rfl) h
theorem IA (s:B8) (st:St) (K:B8->St->Prop) (h:∃(I1:Int->B8->St->Prop) (M1:Int->B8->St->Nat),(I1 0 s st)/\∀a b c,I1 a b c->(BId (a<(b.length:Int)) (((0<=a/\a<(b.length:Int))/\BId (((List.getD b a.toNat 0).toNat:Int)=(48:Int)) ((I1 ((i64.wrap (a+(1:Int)))) b c/\M1 ((i64.wrap (a+(1:Int)))) b c<M1 a b c)) (((0<=a/\a<=(b.length:Int))/\K ((List.drop a.toNat b)) c)))) (((0<=a/\a<=(b.length:Int))/\K ((List.drop a.toNat b)) c)))):CallT PR BQ [.str s] [.one .str] st K:=
 Ae (cfg:=⟨[],[],[]⟩) (h:=(.seq .none (.seq .none (.seq (.block (.loop ⟨[(3,.int .i64),(0,.str)],[],[],[]⟩ .none)) .none)))) mixed (fun _ _=>Tryz.call248 _ _) Tryz.func248 (by kernel_rfl) (by kernel_rfl) h
theorem Iz (s:B8) (st:St) (K:Int->Int->St->Prop) (h:CallT PR CX [.str s] [.one .bool] st (fun (b1:Bool) e=>BIf (!b1) (K 0 3 e) (BId ((19:Int)<(s.length:Int)) (K 0 2 e) (BId ((s.length:Int)=(19:Int)) (BIf (!(Op.bytesLess s str32 || decide (s=str32))) (K 0 2 e) (∃(I1:Int->Int->B8->St->Prop) (M1:Int->Int->B8->St->Nat),(I1 0 0 s e)/\∀f b c i,I1 f b c i->(BId (b<(c.length:Int)) (((0<=b/\b<(c.length:Int))/\(I1 ((i64.wrap ((i64.wrap ((i64.wrap ((10:Int)*f))+(i64.wrap ((List.getD c b.toNat 0).toNat:Int))))-(48:Int)))) ((i64.wrap (b+(1:Int)))) c i/\M1 ((i64.wrap ((i64.wrap ((i64.wrap ((10:Int)*f))+(i64.wrap ((List.getD c b.toNat 0).toNat:Int))))-(48:Int)))) ((i64.wrap (b+(1:Int)))) c i<M1 f b c i))) (K f 0 i)))) (∃(I2:Int->Int->B8->St->Prop) (M2:Int->Int->B8->St->Nat),(I2 0 0 s e)/\∀g a d j,I2 g a d j->(BId (a<(d.length:Int)) (((0<=a/\a<(d.length:Int))/\(I2 ((i64.wrap ((i64.wrap ((i64.wrap ((10:Int)*g))+(i64.wrap ((List.getD d a.toNat 0).toNat:Int))))-(48:Int)))) ((i64.wrap (a+(1:Int)))) d j/\M2 ((i64.wrap ((i64.wrap ((i64.wrap ((10:Int)*g))+(i64.wrap ((List.getD d a.toNat 0).toNat:Int))))-(48:Int)))) ((i64.wrap (a+(1:Int)))) d j<M2 g a d j))) (K g 0 j))))))):CallT PR CY [.str s] [.one (.int .i64),.one (.int .i64)] st K:=
 Ae (cfg:=⟨[],[],[]⟩) (h:=(.seq .none (.seq .none (.seq .none (.seq .none (.seq (.seq .none (.block (.loop ⟨[(4,.int .i64),(5,.int .i64),(0,.str)],[],[],[]⟩ .none))) .none)))))) mixed (fun _ _=>Tryz.call249 _ _) Tryz.func249 (by kernel_rfl) (by kernel_rfl) h
theorem Ix (a:B8) (st:St) (K:Int->St->Prop) (h:∃(I1:Int->B8->St->Prop) (M1:Int->B8->St->Nat),(I1 0 a st)/\∀b c d,I1 b c d->(BId (b<(c.length:Int)) (((0<=(i64.wrap ((i64.wrap ((c.length:Int)-(1:Int)))-b))/\(i64.wrap ((i64.wrap ((c.length:Int)-(1:Int)))-b))<(c.length:Int))/\BId (((List.getD c (Int.toNat (i64.wrap ((i64.wrap ((c.length:Int)-(1:Int)))-b))) 0).toNat:Int)=(48:Int)) ((I1 ((i64.wrap (b+(1:Int)))) c d/\M1 ((i64.wrap (b+(1:Int)))) c d<M1 b c d)) (K b d))) (K b d))):CallT PR CW [.str a] [.one (.int .i64)] st K:=
 Ae (cfg:=⟨[],[],[]⟩) (h:=(.seq .none (.seq .none (.seq (.block (.loop ⟨[(3,.int .i64),(0,.str)],[],[],[]⟩ .none)) .none)))) mixed (fun _ _=>Tryz.call250 _ _) Tryz.func250 (by kernel_rfl) (by kernel_rfl) h
theorem Hw (year:Int) (st:St) (K:Int->St->Prop) (h:∃(I1:Int->Int->Int->St->Prop) (M1:Int->Int->Int->St->Nat),(I1 0 1 year st)/\∀c b a d,I1 c b a d->(BId (b<a) (CallT PR Cu [.int .i64 b] [.one (.int .i64)] d (fun (n1:Int) e=>(I1 ((i64.wrap (c+n1))) ((i64.wrap (b+(1:Int)))) a e/\M1 ((i64.wrap (c+n1))) ((i64.wrap (b+(1:Int)))) a e<M1 c b a d))) (K c d))):CallT PR Cv [.int .i64 year] [.one (.int .i64)] st K:=
 Ae (cfg:=⟨[],[],[]⟩) (h:=(.seq .none (.seq .none (.seq (.seq .none (.block (.loop ⟨[(3,.int .i64),(4,.int .i64),(0,.int .i64)],[],[],[]⟩ .none))) .none)))) mixed (fun _ _=>Tryz.call251 _ _) Tryz.func251 (by kernel_rfl) (by kernel_rfl) h
theorem SU (s:B8) (st:St) (K:Int->Int->St->Prop) (h:∃(I1:Int->Int->B8->St->Prop) (M1:Int->Int->B8->St->Nat),(I1 0 0 s st)/\∀c a b d,I1 c a b d->(BId (a<(b.length:Int)) (CallT PR DL [.str b,.int .i64 a] [.one (.int .i64),.one (.int .i64)] d (fun (n1 n2:Int) e=>BId (n2=0) (K 0 5 e) ((I1 ((i64.wrap (c+(1:Int)))) ((i64.wrap (a+n2))) b e/\M1 ((i64.wrap (c+(1:Int)))) ((i64.wrap (a+n2))) b e<M1 c a b d)))) (K c 0 d))):CallT PR KB [.str s] [.one (.int .i64),.one (.int .i64)] st K:=
 Ae (cfg:=⟨[],[],[]⟩) (h:=(.seq .none (.seq .none (.seq (.seq .none (.block (.loop ⟨[(4,.int .i64),(5,.int .i64),(0,.str)],[],[],[]⟩ .none))) .none)))) mixed (fun _ _=>Tryz.call256 _ _) Tryz.func256 (by kernel_rfl) (by kernel_rfl) h
theorem E8 (b:Nat) (st:St) (K:St->Prop) (h:Ag (Ac st [] (.t (.box b 0)) 0) (fun (v1:TV)=>need (TL v1) (BIf (On v1) (((Ac st [] (.t (.box b 0)) 0).isSome=true/\CallT PR H7 [(.box b 0)] [.one .tv] st (fun (v2:TV) a=>unsK 188 2 v2 a (fun (v3:TV)=>need (List.all [v3] Ap) (stB a (.box b 0) [v3] (fun c=>K c)))))) (Ag (Ac st [] (.t (.box b 0)) 0) (fun (v4:TV)=>(v4=(.box b 0)/\K st)))))):CallT PR Bv [(.box b 0)] [] st K:=
 Ae (cfg:=⟨[],[],[]⟩) (h:= .none) mixed (fun _ _=>Tryz.call266 _ _) Tryz.func266 (by kernel_rfl) (by kernel_rfl) h
theorem MV (s:B8) (st:St) (K:Bool->St->Prop) (h:BId ((s.length:Int)<=(600:Int)) (CallT PR GQ [.str s] [.one .bool] st (fun (b1:Bool) a=>BIf b1 (BId (s=([]:B8)) (K true a) (((0<=(0:Int)/\(0:Int)<(s.length:Int))/\K ((decide (((List.getD s (Int.toNat (0:Int)) 0).toNat:Int)≠(48:Int)))) a))) (K false a))) (K false st)):CallT PR DQ [.str s] [.one .bool] st K:=
 Ae (cfg:=⟨[],[],[]⟩) (h:= .none) mixed (fun _ _=>Tryz.call267 _ _) Tryz.func267 (by kernel_rfl) (by kernel_rfl) h
theorem MU (a:B8) (st:St) (K:Int->St->Prop) (h:CallT PR Dh [.str a,.str K3] [.one .str] st (fun (s1:B8) b=>K ((i64.wrap ((a.length:Int)-(s1.length:Int)))) b)):CallT PR Fb [.str a] [.one (.int .i64)] st K:=
 Ae (cfg:=⟨[],[],[]⟩) (h:= .none) mixed (fun _ _=>Tryz.call268 _ _) Tryz.func268 (by kernel_rfl) (by kernel_rfl) h
theorem Ql (s:B8) (st:St) (K:Int->St->Prop) (h:CallT PR Ef [.str s] [.one .bool] st (fun (b1:Bool) a=>BIf (!b1) (K 5 a) (BId ((1024:Int)<(s.length:Int)) (K 10 a) (K 0 a)))):CallT PR HO [.str s] [.one (.int .i64)] st K:=
 Ae (cfg:=⟨[],[],[]⟩) (h:= .none) mixed (fun _ _=>Tryz.call269 _ _) Tryz.func269 (by kernel_rfl) (by kernel_rfl) h
theorem Hy (s:B8) (atx:Int) (st:St) (K:Int->Int->St->Prop) (h:BId (atx<0) (K 0 0 st) (BId ((s.length:Int)<=atx) (K 0 0 st) (((0<=atx/\atx<(s.length:Int))/\∃(C1:Int->Int->B8->Int->St->Prop),(BId ((240:Int)<=(i64.wrap ((List.getD s atx.toNat 0).toNat:Int))) (C1 4 ((AJ .and .i64 (i64.wrap ((List.getD s atx.toNat 0).toNat:Int)) (7:Int))) s atx st) (BId ((224:Int)<=(i64.wrap ((List.getD s atx.toNat 0).toNat:Int))) (C1 3 ((AJ .and .i64 (i64.wrap ((List.getD s atx.toNat 0).toNat:Int)) (15:Int))) s atx st) (BId ((192:Int)<=(i64.wrap ((List.getD s atx.toNat 0).toNat:Int))) (C1 2 ((AJ .and .i64 (i64.wrap ((List.getD s atx.toNat 0).toNat:Int)) (31:Int))) s atx st) (C1 1 ((i64.wrap ((List.getD s atx.toNat 0).toNat:Int))) s atx st))))/\∀e m j i k,C1 e m j i k->(BId ((i64.wrap ((j.length:Int)-i))<e) (K 0 0 k) (∃(I1:Int->Int->B8->Int->Int->St->Prop) (M1:Int->Int->B8->Int->Int->St->Nat),(I1 m 1 j i e k)/\∀f c d a b g,I1 f c d a b g->(BId (c<b) (((0<=(i64.wrap (a+c))/\(i64.wrap (a+c))<(d.length:Int))/\(I1 ((AJ .or .i64 (i64.wrap (f*2^(min (Int.toNat (6:Int)) (IntKind.bits .i64)))) (AJ .and .i64 (i64.wrap ((List.getD d (Int.toNat (i64.wrap (a+c))) 0).toNat:Int)) (63:Int)))) ((i64.wrap (c+(1:Int)))) d a b g/\M1 ((AJ .or .i64 (i64.wrap (f*2^(min (Int.toNat (6:Int)) (IntKind.bits .i64)))) (AJ .and .i64 (i64.wrap ((List.getD d (Int.toNat (i64.wrap (a+c))) 0).toNat:Int)) (63:Int)))) ((i64.wrap (c+(1:Int)))) d a b g<M1 f c d a b g))) (CallT PR BB [.int .i64 f] [.one .str,.one (.int .i64)] g (fun (s1:B8) (n1:Int) l=>BId (n1≠0) (K 0 0 l) (((0<=a/\a<=(i64.wrap (a+b))/\(i64.wrap (a+b))<=(d.length:Int))/\BId (s1≠(List.drop a.toNat (List.take (Int.toNat (i64.wrap (a+b))) d))) (K 0 0 l) (K f b l)))))))))))):CallT PR BC [.str s,.int .i64 atx] [.one (.int .i64),.one (.int .i64)] st K:=
 Ae (cfg:=⟨[],[],[]⟩) (h:=(.seq .none (.seq .none (.seq .none (.seq .none (.cut ⟨[(7,.int .i64),(8,.int .i64),(0,.str),(1,.int .i64)],[],[],[]⟩ .none (.seq .none (.seq (.seq .none (.block (.loop ⟨[(8,.int .i64),(9,.int .i64),(0,.str),(1,.int .i64),(7,.int .i64)],[],[],[]⟩ .none))) .none)))))))) mixed (fun _ _=>Tryz.call271 _ _) Tryz.func271 (by kernel_rfl) (by kernel_rfl) h
theorem KP (n:Int) (st:St) (K:B8->St->Prop) (h:∃(I1:Int->TV->St->Prop) (M1:Int->TV->St->Nat),(I1 n .nilSlice st)/\∀a b c,I1 a b c->(BId ((0:Int)<a) (Nf 5 1 1 b 1 [(.int .u8 (u8.wrap (i64.wrap ((48:Int)+(Int.tmod a (10:Int))))))] c (fun (v1:TV) d=>(I1 ((i64.wrap (Int.tdiv a (10:Int)))) v1 d/\M1 ((i64.wrap (Int.tdiv a (10:Int)))) v1 d<M1 a b c))) (CallT PR Ei [b] [] c (fun (e:St)=>Ag ((toBytes e b).map TV.str) (fun (x1:TV)=>Af .str x1 (fun (s1:B8)=>K s1 e)))))):CallT PR Ej [.int .i64 n] [.one .str] st K:=
 Ae (cfg:=⟨[],[14],[]⟩) (h:=(.seq .none (.seq .none (.seq (.block (.loop ⟨[(0,.int .i64),(3,.tv)],[],[],[]⟩ .none)) .none)))) mixed (fun _ _=>Tryz.call277 _ _) Tryz.func277 (by kernel_rfl) (by kernel_rfl) h
theorem LM (n:Int) (st:St) (K:Int->Int->Int->Int->St->Prop) (h:CallT PR Gw [.int .i64 n] [.one .bool] st (fun (b1:Bool) q=>BIf (!b1) (K 0 0 0 2 q) (∃(I1:Int->Int->St->Prop) (M1:Int->Int->St->Nat),(I1 ((i64.wrap ((i64.wrap (Int.tdiv n (366:Int)))+(1:Int)))) n q)/\∀a i j,I1 a i j->(BId (a<9999) (CallT PR Bs [(.int .i64 (i64.wrap (a+(1:Int))))] [.one (.int .i64)] j (fun (n1:Int) m=>BId (n1<=i) ((I1 ((i64.wrap (a+(1:Int)))) i m/\M1 ((i64.wrap (a+(1:Int)))) i m<M1 a i j)) (CallT PR Bs [.int .i64 a] [.one (.int .i64)] m (fun (n2:Int) u=>∃(I2:Int->Int->Int->St->Prop) (M2:Int->Int->Int->St->Nat),(I2 1 ((i64.wrap (i-n2))) a u)/\∀b g d p,I2 b g d p->(CallT PR AR [.int .i64 d,.int .i64 b] [.one (.int .i64)] p (fun (n3:Int) s=>BId (n3<=g) (CallT PR AR [.int .i64 d,.int .i64 b] [.one (.int .i64)] s (fun (n4:Int) r=>(I2 ((i64.wrap (b+(1:Int)))) ((i64.wrap (g-n4))) d r/\M2 ((i64.wrap (b+(1:Int)))) ((i64.wrap (g-n4))) d r<M2 b g d p))) (K d b ((i64.wrap (g+(1:Int)))) 0 s))))))) (CallT PR Bs [.int .i64 a] [.one (.int .i64)] j (fun (n5:Int) t=>∃(I3:Int->Int->Int->St->Prop) (M3:Int->Int->Int->St->Nat),(I3 1 ((i64.wrap (i-n5))) a t)/\∀c f e l,I3 c f e l->(CallT PR AR [.int .i64 e,.int .i64 c] [.one (.int .i64)] l (fun (n6:Int) k=>BId (n6<=f) (CallT PR AR [.int .i64 e,.int .i64 c] [.one (.int .i64)] k (fun (n7:Int) o=>(I3 ((i64.wrap (c+(1:Int)))) ((i64.wrap (f-n7))) e o/\M3 ((i64.wrap (c+(1:Int)))) ((i64.wrap (f-n7))) e o<M3 c f e l))) (K e c ((i64.wrap (f+(1:Int)))) 0 k))))))))):CallT PR EL [.int .i64 n] [.one (.int .i64),.one (.int .i64),.one (.int .i64),.one (.int .i64)] st K:=
 Ae (cfg:=⟨[],[],[]⟩) (h:=(.seq .none (.seq .none (.seq .none (.seq (.block (.loop ⟨[(2,.int .i64),(0,.int .i64)],[],[],[]⟩ .none)) (.seq .none (.seq .none (.seq (.block (.loop ⟨[(3,.int .i64),(6,.int .i64),(2,.int .i64)],[],[],[]⟩ .none)) .none)))))))) mixed (fun _ _=>Tryz.call278 _ _) Tryz.func278 (by kernel_rfl) (by kernel_rfl) h
theorem LC (n:Int) (width:Int) (st:St) (K:B8->St->Prop) (h:((0<=width/\width<=width/\Int.toNat width*1<=140737488355328)/\∃(I1:Int->Int->TV->St->Prop) (M1:Int->Int->TV->St->Nat),(I1 n ((i64.wrap (width-(1:Int)))) ((.ms 1 st.nb 0 width.toNat width.toNat)) (st.push (.cells (Ib [.int .u8 0] (Int.toNat width*1))) (some 5)))/\∀d a b c,I1 d a b c->(BId ((0:Int)<=a) (((0<=a/\a<(lenZ 1 b:Int))/\stB c (ixT 1 b a.toNat) [(.int .u8 (u8.wrap (i64.wrap ((48:Int)+(Int.tmod d (10:Int))))))] (fun e=>(I1 ((i64.wrap (Int.tdiv d (10:Int)))) ((i64.wrap (a-(1:Int)))) b e/\M1 ((i64.wrap (Int.tdiv d (10:Int)))) ((i64.wrap (a-(1:Int)))) b e<M1 d a b c)))) (Ag ((toBytes c b).map TV.str) (fun (x1:TV)=>Af .str x1 (fun (s1:B8)=>K s1 c)))))):CallT PR AH [.int .i64 n,.int .i64 width] [.one .str] st K:=
 Ae (cfg:=⟨[],[8],[]⟩) (h:=(.seq .none (.seq .none (.seq (.seq .none (.block (.loop ⟨[(0,.int .i64),(6,.int .i64),(5,.tv)],[],[],[]⟩ .none))) .none)))) mixed (fun _ _=>Tryz.call279 _ _) Tryz.func279 (by kernel_rfl) (by kernel_rfl) h
theorem IX (year:Int) (st:St) (K:Bool->St->Prop) (h:BId ((1:Int)<=year) (BId (year<=9999) (BId ((Int.tmod year (4:Int))=(0:Int)) (BId ((Int.tmod year (100:Int))≠(0:Int)) (K true st) (K ((decide ((Int.tmod year (400:Int))=(0:Int)))) st)) (K ((decide ((Int.tmod year (400:Int))=(0:Int)))) st)) (K false st)) (K false st)):CallT PR A7 [.int .i64 year] [.one .bool] st K:=
 Ae (cfg:=⟨[],[],[]⟩) (h:= .none) mixed (fun _ _=>Tryz.call286 _ _) Tryz.func286 (by kernel_rfl) (by kernel_rfl) h
theorem G0 (r:Nat) (width:Int) (st:St) (K:Int->St->Prop) (h:Ag (Ac st [] (.t (.box r 0)) 0) (fun (x1:TV)=>Af .str x1 (fun (s1:B8)=>BId ((s1.length:Int)<width) (stB st (.box r 1) [.bool true] (fun i=>K 0 i)) (∃(I1:Int->Int->TV->Int->Int->St->Prop) (M1:Int->Int->TV->Int->Int->St->Nat),(I1 0 0 ((.box r 0)) width width st)/\∀e c a b f d,I1 e c a b f d->(BId (c<f) (need (isPtr a) (need (isPtr a) (Ag (Ac d [] (.t (Ao a 0)) 0) (fun (x2:TV)=>Af .str x2 (fun (s2:B8)=>((0<=c/\c<(s2.length:Int))/\BId (((List.getD s2 c.toNat 0).toNat:Int)<(48:Int)) (need (isPtr a) (need (isPtr a) (stB d (Ao a 1) [.bool true] (fun j=>K 0 j)))) (need (isPtr a) (need (isPtr a) (Ag (Ac d [] (.t (Ao a 0)) 0) (fun (x3:TV)=>Af .str x3 (fun (s3:B8)=>((0<=c/\c<(s3.length:Int))/\BId ((57:Int)<((List.getD s3 c.toNat 0).toNat:Int)) (need (isPtr a) (need (isPtr a) (stB d (Ao a 1) [.bool true] (fun k=>K 0 k)))) (need (isPtr a) (need (isPtr a) (Ag (Ac d [] (.t (Ao a 0)) 0) (fun (x4:TV)=>Af .str x4 (fun (s4:B8)=>((0<=c/\c<(s4.length:Int))/\(I1 ((i64.wrap ((i64.wrap ((10:Int)*e))+(i64.wrap (u8.wrap (((List.getD s4 c.toNat 0).toNat:Int)-(48:Int))))))) ((i64.wrap (c+(1:Int)))) a b f d/\M1 ((i64.wrap ((i64.wrap ((10:Int)*e))+(i64.wrap (u8.wrap (((List.getD s4 c.toNat 0).toNat:Int)-(48:Int))))))) ((i64.wrap (c+(1:Int)))) a b f d<M1 e c a b f d))))))))))))))))))) (need (isPtr a) (need (isPtr a) (Ag (Ac d [] (.t (Ao a 0)) 0) (fun (x5:TV)=>Af .str x5 (fun (s5:B8)=>((0<=b/\b<=(s5.length:Int))/\need (isPtr a) (need (isPtr a) (stB d (Ao a 0) [(.str (List.drop b.toNat s5))] (fun g=>K e g)))))))))))))):CallT PR Ax [(.box r 0),.int .i64 width] [.one (.int .i64)] st K:=
 Ae (cfg:=⟨[],[],[]⟩) (h:=(.seq .none (.seq .none (.seq .none (.seq (.seq .none (.block (.loop ⟨[(5,.int .i64),(18,.int .i64),(0,.tv),(1,.int .i64),(17,.int .i64)],[],[],[]⟩ .none))) .none))))) mixed (fun _ _=>Tryz.call290 _ _) Tryz.func290 (by kernel_rfl) (by kernel_rfl) h
theorem Gf (r:Nat) (st:St) (K:Int->St->Prop) (h:∃(I1:Int->Int->TV->St->Prop) (M1:Int->Int->TV->St->Nat),(I1 0 0 ((.box r 0)) st)/\∀d b a c,I1 d b a c->(need (isPtr a) (need (isPtr a) (Ag (Ac c [] (.t (Ao a 0)) 0) (fun (x1:TV)=>Af .str x1 (fun (s1:B8)=>BId (b<(s1.length:Int)) (need (isPtr a) (need (isPtr a) (Ag (Ac c [] (.t (Ao a 0)) 0) (fun (x2:TV)=>Af .str x2 (fun (s2:B8)=>((0<=b/\b<(s2.length:Int))/\BId ((48:Int)<=((List.getD s2 b.toNat 0).toNat:Int)) (need (isPtr a) (need (isPtr a) (Ag (Ac c [] (.t (Ao a 0)) 0) (fun (x3:TV)=>Af .str x3 (fun (s3:B8)=>((0<=b/\b<(s3.length:Int))/\BId (((List.getD s3 b.toNat 0).toNat:Int)<=(57:Int)) (BId (b<9) (need (isPtr a) (need (isPtr a) (Ag (Ac c [] (.t (Ao a 0)) 0) (fun (x4:TV)=>Af .str x4 (fun (s4:B8)=>((0<=b/\b<(s4.length:Int))/\(I1 ((i64.wrap ((i64.wrap ((10:Int)*d))+(i64.wrap (u8.wrap (((List.getD s4 b.toNat 0).toNat:Int)-(48:Int))))))) ((i64.wrap (b+(1:Int)))) a c/\M1 ((i64.wrap ((i64.wrap ((10:Int)*d))+(i64.wrap (u8.wrap (((List.getD s4 b.toNat 0).toNat:Int)-(48:Int))))))) ((i64.wrap (b+(1:Int)))) a c<M1 d b a c))))))) ((I1 d ((i64.wrap (b+(1:Int)))) a c/\M1 d ((i64.wrap (b+(1:Int)))) a c<M1 d b a c))) (BId (b<1) (need (isPtr a) (need (isPtr a) (stB c (Ao a 1) [.bool true] (fun x=>K 0 x)))) (BId ((9:Int)<b) (need (isPtr a) (need (isPtr a) (stB c (Ao a 1) [.bool true] (fun v=>K 0 v)))) (need (isPtr a) (need (isPtr a) (Ag (Ac c [] (.t (Ao a 0)) 0) (fun (x5:TV)=>Af .str x5 (fun (s5:B8)=>((0<=b/\b<=(s5.length:Int))/\need (isPtr a) (need (isPtr a) (stB c (Ao a 0) [(.str (List.drop b.toNat s5))] (fun y=>∃(I2:Int->Int->St->Prop) (M2:Int->Int->St->Nat),(I2 d b y)/\∀i g k,I2 i g k->(BId (g<9) ((I2 ((i64.wrap (i*(10:Int)))) ((i64.wrap (g+(1:Int)))) k/\M2 ((i64.wrap (i*(10:Int)))) ((i64.wrap (g+(1:Int)))) k<M2 i g k)) (K i k))))))))))))))))))) (BId (b<1) (need (isPtr a) (need (isPtr a) (stB c (Ao a 1) [.bool true] (fun w=>K 0 w)))) (BId ((9:Int)<b) (need (isPtr a) (need (isPtr a) (stB c (Ao a 1) [.bool true] (fun s=>K 0 s)))) (need (isPtr a) (need (isPtr a) (Ag (Ac c [] (.t (Ao a 0)) 0) (fun (x6:TV)=>Af .str x6 (fun (s6:B8)=>((0<=b/\b<=(s6.length:Int))/\need (isPtr a) (need (isPtr a) (stB c (Ao a 0) [(.str (List.drop b.toNat s6))] (fun u=>∃(I3:Int->Int->St->Prop) (M3:Int->Int->St->Nat),(I3 d b u)/\∀n m f,I3 n m f->(BId (m<9) ((I3 ((i64.wrap (n*(10:Int)))) ((i64.wrap (m+(1:Int)))) f/\M3 ((i64.wrap (n*(10:Int)))) ((i64.wrap (m+(1:Int)))) f<M3 n m f)) (K n f))))))))))))))))))) (BId (b<1) (need (isPtr a) (need (isPtr a) (stB c (Ao a 1) [.bool true] (fun o=>K 0 o)))) (BId ((9:Int)<b) (need (isPtr a) (need (isPtr a) (stB c (Ao a 1) [.bool true] (fun q=>K 0 q)))) (need (isPtr a) (need (isPtr a) (Ag (Ac c [] (.t (Ao a 0)) 0) (fun (x7:TV)=>Af .str x7 (fun (s7:B8)=>((0<=b/\b<=(s7.length:Int))/\need (isPtr a) (need (isPtr a) (stB c (Ao a 0) [(.str (List.drop b.toNat s7))] (fun p=>∃(I4:Int->Int->St->Prop) (M4:Int->Int->St->Nat),(I4 d b p)/\∀j l e,I4 j l e->(BId (l<9) ((I4 ((i64.wrap (j*(10:Int)))) ((i64.wrap (l+(1:Int)))) e/\M4 ((i64.wrap (j*(10:Int)))) ((i64.wrap (l+(1:Int)))) e<M4 j l e)) (K j e))))))))))))))))))):CallT PR BV [(.box r 0)] [.one (.int .i64)] st K:=
 Ae (cfg:=⟨[],[],[]⟩) (h:=(.seq .none (.seq .none (.seq (.block (.loop ⟨[(3,.int .i64),(4,.int .i64),(0,.tv)],[],[],[]⟩ .none)) (.seq .none (.seq .none (.seq (.block (.loop ⟨[(3,.int .i64),(4,.int .i64)],[],[],[]⟩ .none)) .none))))))) mixed (fun _ _=>Tryz.call291 _ _) Tryz.func291 (by kernel_rfl) (by kernel_rfl) h
theorem KQ (year:Int) (st:St) (K:Bool->St->Prop) (h:BId ((1:Int)<=year) (K ((decide (year<=9999))) st) (K false st)):CallT PR CZ [.int .i64 year] [.one .bool] st K:=
 Ae (cfg:=⟨[],[],[]⟩) (h:= .none) mixed (fun _ _=>Tryz.call292 _ _) Tryz.func292 (by kernel_rfl) (by kernel_rfl) h
theorem LL (year:Int) (st:St) (K:Bool->St->Prop) (h:CallT PR CZ [.int .i64 year] [.one .bool] st (fun (b1:Bool) a=>BIf b1 (BId ((Int.tmod year (4:Int))=(0:Int)) (BId ((Int.tmod year (100:Int))≠(0:Int)) (K true a) (K ((decide ((Int.tmod year (400:Int))=(0:Int)))) a)) (K false a)) (K false a))):CallT PR EK [.int .i64 year] [.one .bool] st K:=
 Ae (cfg:=⟨[],[],[]⟩) (h:= .none) mixed (fun _ _=>Tryz.call293 _ _) Tryz.func293 (by kernel_rfl) (by kernel_rfl) h
theorem Iy (s:B8) (st:St) (K:Bool->St->Prop) (h:BId ((s.length:Int)<=(600:Int)) (CallT PR Cy [.str s] [.one .bool] st (fun (b1:Bool) a=>BIf b1 (BId ((s.length:Int)=(0:Int)) (K true a) (((0<=(0:Int)/\(0:Int)<(s.length:Int))/\K ((decide (((List.getD s (Int.toNat (0:Int)) 0).toNat:Int)≠(48:Int)))) a))) (K false a))) (K false st)):CallT PR CX [.str s] [.one .bool] st K:=
 Ae (cfg:=⟨[],[],[]⟩) (h:= .none) mixed (fun _ _=>Tryz.call294 _ _) Tryz.func294 (by kernel_rfl) (by kernel_rfl) h
theorem O4 (s:B8) (st:St) (K:Bool->St->Prop) (h:∃(I1:Int->B8->Int->St->Prop) (M1:Int->B8->Int->St->Nat),(I1 0 s ((s.length:Int)) st)/\∀a b d c,I1 a b d c->(BId (a<d) (((0<=a/\a<(b.length:Int))/\BId (((List.getD b a.toNat 0).toNat:Int)<(48:Int)) (K false c) (((0<=a/\a<(b.length:Int))/\BId ((57:Int)<((List.getD b a.toNat 0).toNat:Int)) (K false c) ((I1 ((i64.wrap (a+(1:Int)))) b d c/\M1 ((i64.wrap (a+(1:Int)))) b d c<M1 a b d c)))))) (K true c))):CallT PR GQ [.str s] [.one .bool] st K:=
 Ae (cfg:=⟨[],[],[]⟩) (h:=(.seq .none (.seq (.seq .none (.block (.loop ⟨[(6,.int .i64),(0,.str),(5,.int .i64)],[],[],[]⟩ .none))) .none))) mixed (fun _ _=>Tryz.call301 _ _) Tryz.func301 (by kernel_rfl) (by kernel_rfl) h
theorem Hx (r:Int) (st:St) (K:B8->Int->St->Prop) (h:CallT PR BW [.int .i64 r] [.one .bool] st (fun (b1:Bool) a=>BIf (!b1) (K [] 2 a) (BId (r<128) (Ag ((toBytes a (.list 1 .full 1 [(.int .u8 (u8.wrap r))])).map TV.str) (fun (x1:TV)=>Af .str x1 (fun (s1:B8)=>K s1 0 a))) (BId (r<2048) (Ag ((toBytes a (.list 1 .full 2 [(.int .u8 (u8.wrap (AJ .or .i64 (192:Int) (Int.fdiv r (2^(min (Int.toNat (6:Int)) (IntKind.bits .i64))))))),(.int .u8 (u8.wrap (AJ .or .i64 (128:Int) (AJ .and .i64 r (63:Int)))))])).map TV.str) (fun (x2:TV)=>Af .str x2 (fun (s2:B8)=>K s2 0 a))) (BId (r<65536) (Ag ((toBytes a (.list 1 .full 3 [(.int .u8 (u8.wrap (AJ .or .i64 (224:Int) (Int.fdiv r (2^(min (Int.toNat (12:Int)) (IntKind.bits .i64))))))),(.int .u8 (u8.wrap (AJ .or .i64 (128:Int) (AJ .and .i64 (Int.fdiv r (2^(min (Int.toNat (6:Int)) (IntKind.bits .i64)))) (63:Int))))),(.int .u8 (u8.wrap (AJ .or .i64 (128:Int) (AJ .and .i64 r (63:Int)))))])).map TV.str) (fun (x3:TV)=>Af .str x3 (fun (s3:B8)=>K s3 0 a))) (Ag ((toBytes a (.list 1 .full 4 [(.int .u8 (u8.wrap (AJ .or .i64 (240:Int) (Int.fdiv r (2^(min (Int.toNat (18:Int)) (IntKind.bits .i64))))))),(.int .u8 (u8.wrap (AJ .or .i64 (128:Int) (AJ .and .i64 (Int.fdiv r (2^(min (Int.toNat (12:Int)) (IntKind.bits .i64)))) (63:Int))))),(.int .u8 (u8.wrap (AJ .or .i64 (128:Int) (AJ .and .i64 (Int.fdiv r (2^(min (Int.toNat (6:Int)) (IntKind.bits .i64)))) (63:Int))))),(.int .u8 (u8.wrap (AJ .or .i64 (128:Int) (AJ .and .i64 r (63:Int)))))])).map TV.str) (fun (x4:TV)=>Af .str x4 (fun (s4:B8)=>K s4 0 a)))))))):CallT PR BB [.int .i64 r] [.one .str,.one (.int .i64)] st K:=
 Ae (cfg:=⟨[],[],[]⟩) (h:= .none) mixed (fun _ _=>Tryz.call302 _ _) Tryz.func302 (by kernel_rfl) (by kernel_rfl) h
theorem KO (b:TV) (st:St) (K:St->Prop) (h:need (isSl b) (∃(I1:Int->Int->TV->St->Prop) (M1:Int->Int->TV->St->Nat),(I1 0 ((i64.wrap ((lenS b:Int)-(1:Int)))) b st)/\∀d c a e,I1 d c a e->(BId (d<c) (((0<=c/\c<(lenZ 1 a:Int))/\Ag (Ac e [] (.t (ixT 1 a c.toNat)) 0) (fun (x1:TV)=>Af (.int .u8) x1 (fun (n1:Int)=>((0<=d/\d<(lenZ 1 a:Int))/\Ag (Ac e [] (.t (ixT 1 a d.toNat)) 0) (fun (x2:TV)=>Af (.int .u8) x2 (fun (n2:Int)=>((0<=d/\d<(lenZ 1 a:Int))/\stB e (ixT 1 a d.toNat) [.int .u8 n1] (fun g=>((0<=c/\c<(lenZ 1 a:Int))/\stB g (ixT 1 a c.toNat) [.int .u8 n2] (fun f=>(I1 ((i64.wrap (d+(1:Int)))) ((i64.wrap (c-(1:Int)))) a f/\M1 ((i64.wrap (d+(1:Int)))) ((i64.wrap (c-(1:Int)))) a f<M1 d c a e)))))))))))) (K e)))):CallT PR Ei [b] [] st K:=
 Ae (cfg:=⟨[],[],[]⟩) (h:=(.seq .none (.block (.loop ⟨[(2,.int .i64),(3,.int .i64),(0,.tv)],[],[],[]⟩ .none)))) mixed (fun _ _=>Tryz.call306 _ _) Tryz.func306 (by kernel_rfl) (by kernel_rfl) h
theorem KS (n:Int) (st:St) (K:Bool->St->Prop) (h:BId ((0:Int)<=n) (K ((decide (n<=3652058))) st) (K false st)):CallT PR Gw [.int .i64 n] [.one .bool] st K:=
 Ae (cfg:=⟨[],[],[]⟩) (h:= .none) mixed (fun _ _=>Tryz.call307 _ _) Tryz.func307 (by kernel_rfl) (by kernel_rfl) h
theorem HA (s:B8) (st:St) (K:Bool->St->Prop) (h:∃(I1:Int->B8->St->Prop) (M1:Int->B8->St->Nat),(I1 0 s st)/\∀a b c,I1 a b c->(BId (a<(b.length:Int)) (((0<=a/\a<(b.length:Int))/\BId (((List.getD b a.toNat 0).toNat:Int)<(48:Int)) (K false c) (((0<=a/\a<(b.length:Int))/\BId ((57:Int)<((List.getD b a.toNat 0).toNat:Int)) (K false c) ((I1 ((i64.wrap (a+(1:Int)))) b c/\M1 ((i64.wrap (a+(1:Int)))) b c<M1 a b c)))))) (K true c))):CallT PR Cy [.str s] [.one .bool] st K:=
 Ae (cfg:=⟨[],[],[]⟩) (h:=(.seq .none (.seq (.seq .none (.block (.loop ⟨[(3,.int .i64),(0,.str)],[],[],[]⟩ .none))) .none))) mixed (fun _ _=>Tryz.call316 _ _) Tryz.func316 (by kernel_rfl) (by kernel_rfl) h
theorem Gh (r:Int) (st:St) (K:Bool->St->Prop) (h:BId ((0:Int)<=r) (BId (r<=1114111) (BId (r<55296) (K true st) (K ((decide ((57343:Int)<r))) st)) (K false st)) (K false st)):CallT PR BW [.int .i64 r] [.one .bool] st K:=
 Ae (cfg:=⟨[],[],[]⟩) (h:= .none) mixed (fun _ _=>Tryz.call320 _ _) Tryz.func320 (by kernel_rfl) (by kernel_rfl) h
section
structure Sc where
 kind:Int
 b:Bool
 neg:Bool
 dg:B8
 ex:Int
 tk:Int
 td:Int
 tn:Int
 tz:Int
 text:B8
 bytes:B8
mutual
inductive Vl where
 | mk (s:Sc) (l:List Vl) (f:List Fd)
inductive Fd where
 | mk (k:B8) (v:Vl)
end
def Vl.sc:Vl->Sc | .mk s _ _=>s
def Fd.key:Fd->B8 | .mk k _=>k
def SlR (st:St) (sz:Nat) (v:TV) (n:Nat) (xs:List TV):Prop:=
 Rd sz v n xs∨∃b off cap l,v= .ms sz b off n cap/\b<st.nb/\st.box b= .cells l/\off+cap*sz<=l.length/\n<=cap/\xs=(l.drop off).take (n*sz)
theorem SlR.of_rd {st:St} {sz n:Nat} {v:TV} {xs:List TV} (h:Rd sz v n xs):SlR st sz v n xs:= .inl h
def Es (st st':St):Prop:=st.nb<=st'.nb/\∀b,b<st.nb->st'.box b=st.box b
theorem SlR.keep {st st':St} (k:Es st st') {sz n:Nat} {v:TV} {xs:List TV} (h:SlR st sz v n xs):SlR st' sz v n xs:=by
 rcases h with h | ⟨b,off,cap,l,h1,h2,h3,h4,h5,h6⟩
 ·exact .inl h
 ·exact .inr ⟨b,off,cap,l,h1,Nat.lt_of_lt_of_le h2 k.1,(k.2 b h2).trans h3,h4,h5,h6⟩
mutual
def VlR (st:St):Vl->List TV->Prop
 | .mk s l f,cs=>∃ub ul uf xl xf,cs=[.int .i64 s.kind,.bool s.b,.bool s.neg,.str s.dg,.int .i64 s.ex,.int .i64 s.tk,.int .i64 s.td,.int .i64 s.tn,.int .i64 s.tz,.str s.text,ub,ul,uf]/\
   SlR st 1 ub s.bytes.length (AF s.bytes)/\SlR st 13 ul l.length xl/\VsR st l xl/\SlR st 14 uf f.length xf/\FsR st f xf
def VsR (st:St):List Vl->List TV->Prop
 | [],xs=>xs=[]
 | v::r,xs=>∃a b,xs=a++b/\VlR st v a/\VsR st r b
def FdR (st:St):Fd->List TV->Prop
 | .mk k v,xs=>∃cs,xs= .str k::cs/\VlR st v cs
def FsR (st:St):List Fd->List TV->Prop
 | [],xs=>xs=[]
 | d::r,xs=>∃a b,xs=a++b/\FdR st d a/\FsR st r b
end
theorem VlR.len {st:St} {v:Vl} {cs:List TV} (h:VlR st v cs):cs.length=13:=by
 cases v;unfold VlR at h;obtain⟨ub,ul,uf,xl,xf,rfl,_⟩:=h;rfl
theorem FdR.len {st:St} {v:Fd} {cs:List TV} (h:FdR st v cs):cs.length=14:=by
 cases v;unfold FdR at h;obtain⟨c,rfl,h⟩:=h;simp[h.len]
theorem VsR.len {st:St}:∀{l:List Vl} {xs:List TV},VsR st l xs->xs.length=l.length*13
 | [],xs,h=>by unfold VsR at h;subst h;rfl
 | v::r,xs,h=>by
  unfold VsR at h
  obtain⟨a,b,rfl,h1,h2⟩:=h
  rw[List.length_append,h1.len,VsR.len h2,List.length_cons];omega
theorem FsR.len {st:St}:∀{l:List Fd} {xs:List TV},FsR st l xs->xs.length=l.length*14
 | [],xs,h=>by unfold FsR at h;subst h;rfl
 | v::r,xs,h=>by
  unfold FsR at h
  obtain⟨a,b,rfl,h1,h2⟩:=h
  rw[List.length_append,h1.len,FsR.len h2,List.length_cons];omega
theorem VsR.get {st:St}:∀{l:List Vl} {xs:List TV} {i:Nat} {v:Vl},VsR st l xs->l[i]? =some v->∃cs,VlR st v cs/\(xs.drop (i*13)).take 13=cs/\cs.length=13
 | [],xs,i,v,h,hi=>by simp at hi
 | w::r,xs,i,v,h,hi=>by
  unfold VsR at h
  obtain⟨a,b,rfl,h1,h2⟩:=h
  cases i with
  | zero=>
   simp only[List.getElem?_cons_zero,Option.some.injEq]at hi
   subst hi
   refine⟨a,h1,?_,h1.len⟩
   rw[Nat.zero_mul,List.drop_zero,<-h1.len,List.take_left]
  | succ i=>
   obtain⟨cs,h3,h4,h5⟩:=VsR.get h2 (by simpa using hi)
   refine⟨cs,h3,?_,h5⟩
   rw[show(i+1)*13=a.length+i*13 by rw[h1.len];omega,List.drop_append]
   simp only[Nat.add_sub_cancel_left]
   rw[List.drop_of_length_le (by omega),List.nil_append];exact h4
theorem FsR.get {st:St}:∀{l:List Fd} {xs:List TV} {i:Nat} {v:Fd},FsR st l xs->l[i]? =some v->∃cs,FdR st v cs/\(xs.drop (i*14)).take 14=cs/\cs.length=14
 | [],xs,i,v,h,hi=>by simp at hi
 | w::r,xs,i,v,h,hi=>by
  unfold FsR at h
  obtain⟨a,b,rfl,h1,h2⟩:=h
  cases i with
  | zero=>
   simp only[List.getElem?_cons_zero,Option.some.injEq]at hi
   subst hi
   refine⟨a,h1,?_,h1.len⟩
   rw[Nat.zero_mul,List.drop_zero,<-h1.len,List.take_left]
  | succ i=>
   obtain⟨cs,h3,h4,h5⟩:=FsR.get h2 (by simpa using hi)
   refine⟨cs,h3,?_,h5⟩
   rw[show(i+1)*14=a.length+i*14 by rw[h1.len];omega,List.drop_append]
   simp only[Nat.add_sub_cancel_left]
   rw[List.drop_of_length_le (by omega),List.nil_append];exact h4
end
structure StX (S:Nat->Prop) (a b:St):Prop where
 nb:a.nb<=b.nb
 box:∀i,i<a.nb->¬S i->b.box i=a.box i
 nt:a.nt<=b.nt
 live:∀i,i<a.nt->b.live i=a.live i
 ty:∀i,i<a.nt->b.ty i=a.ty i
 bt:∀i,i<a.nb->b.bt i=a.bt i
theorem StX.refl (S:Nat->Prop) (a:St):StX S a a:=⟨Nat.le_refl _,fun _ _ _=>rfl,Nat.le_refl _,fun _ _=>rfl,fun _ _=>rfl,fun _ _=>rfl⟩
theorem StX.trans {S:Nat->Prop} {a b c:St} (h:StX S a b) (k:StX S b c):StX S a c:=
 ⟨Nat.le_trans h.nb k.nb,fun i hi hs=>(k.box i (Nat.lt_of_lt_of_le hi h.nb) hs).trans (h.box i hi hs),Nat.le_trans h.nt k.nt,fun i hi=>(k.live i (Nat.lt_of_lt_of_le hi h.nt)).trans (h.live i hi),fun i hi=>(k.ty i (Nat.lt_of_lt_of_le hi h.nt)).trans (h.ty i hi),fun i hi=>(k.bt i (Nat.lt_of_lt_of_le hi h.nb)).trans (h.bt i hi)⟩
theorem StX.mono {S T:Nat->Prop} {a b:St} (h:StX S a b) (k:∀i,S i->T i):StX T a b:=
 ⟨h.nb,fun i hi hs=>h.box i hi fun g=>hs (k i g),h.nt,h.live,h.ty,h.bt⟩
theorem StX.of {S:Nat->Prop} {a b:St} (h:Ar a b):StX S a b:=⟨h.nb,fun i hi _=>h.box i hi,h.nt,h.live,h.ty,h.bt⟩
theorem StX.ext {S:Nat->Prop} {a b c:St} (h:Ar a b) (k:StX S b c) (hs:∀i,S i->a.nb<=i):Ar a c:=
 ⟨Nat.le_trans h.nb k.nb,fun i hi=>(k.box i (Nat.lt_of_lt_of_le hi h.nb) fun g=>absurd (hs i g) (by omega)).trans (h.box i hi),Nat.le_trans h.nt k.nt,fun i hi=>(k.live i (Nat.lt_of_lt_of_le hi h.nt)).trans (h.live i hi),fun i hi=>(k.ty i (Nat.lt_of_lt_of_le hi h.nt)).trans (h.ty i hi),fun i hi=>(k.bt i (Nat.lt_of_lt_of_le hi h.nb)).trans (h.bt i hi)⟩
theorem StX.put {S:Nat->Prop} {a:St} {i:Nat} (hi:S i) (o:KH):StX S a (a.put i o):=
 ⟨Nat.le_refl _,fun j hj hs=>by simp only[St.put];rw[if_neg (by rintro rfl;exact hs hi)],Nat.le_refl _,fun _ _=>rfl,fun _ _=>rfl,fun _ _=>rfl⟩
theorem decA14 {k:B8} {n1:Int} {b1 b2:Bool} {s2:B8} {n2 n3 n4 n5 n6:Int} {s3:B8} {u1 u2 u3:TV} {f:Fun [.str,.int .i64,.bool,.bool,.str,.int .i64,.int .i64,.int .i64,.int .i64,.int .i64,.str,.tv,.tv,.tv] Prop} (h:f k n1 b1 b2 s2 n2 n3 n4 n5 n6 s3 u1 u2 u3):
  AW [.str,.int .i64,.bool,.bool,.str,.int .i64,.int .i64,.int .i64,.int .i64,.int .i64,.str,.tv,.tv,.tv] (.agg [.str k,.int .i64 n1,.bool b1,.bool b2,.str s2,.int .i64 n2,.int .i64 n3,.int .i64 n4,.int .i64 n5,.int .i64 n6,.str s3,u1,u2,u3]) f:=h
theorem NX:∀(ys A c B:List TV),ys.length=c.length->setAll (A++c++B) A.length ys=A++ys++B
 | [],A,c,B,h=>by
  have:c=[]:=List.eq_nil_of_length_eq_zero (by simpa using h.symm)
  subst this;rfl
 | y::ys,A,[],B,h=>by simp at h
 | y::ys,A,x::c,B,h=>by
  rw[setAll]
  have e:(A++x::c++B).set A.length y=(A++[y])++c++B:=by simp
  rw[e]
  have:=NX ys (A++[y]) c B (by simpa using h)
  rw[List.length_append]at this
  rw[show A.length+1=A.length+ [y].length from rfl,this]
  simp
theorem Nm {st:St} {b:Nat} {B:List TV}:∀(c:List TV) (l:List TV) (j o:Nat),st.box b= .cells l->l.drop (o+j)=c++B->Aj st [] (.t (.box b o)) j c.length=some c
 | [],l,j,o,h,hd=>rfl
 | x::c,l,j,o,h,hd=>by
  have hx:l[o+j]? =some x:=by
   have:=congrArg (fun z:List TV=>z[0]?) hd
   simpa using this
  have hd2:l.drop (o+(j+1))=c++B:=by
   have:=congrArg (fun z:List TV=>z.drop 1) hd
   simpa [List.drop_drop,Nat.add_assoc]using this
  show(match Ac st [] (.t (.box b o)) j with | some x=>(Aj st [] (.t (.box b o)) (j+1) c.length).map (x::·) | none=>none)=_
  have:Ac st [] (.t (.box b o)) j=some x:=by simp only[Ac,h];exact hx
  rw[this]
  simp only
  rw[Nm c l (j+1) o h hd2];rfl
theorem Bn {g:Ghost} {w:World} {l:B8} {v:Value} (h:Rel g w (.str l) v):v= .string ⟨l.toArray⟩:=by cases h;rfl
theorem R3 {g:Ghost} {w:World} {k:IntKind} {n:Int} {v:Value} (h:Rel g w (.int k n) v):v= .int k n:=by cases h;rfl
theorem WD {g:Ghost} {w:World} {x:TV} {vs:List Value} (h:AK g w [x] vs):∃v,vs=[v]/\Rel g w x v:=by
 obtain⟨v,h1,h2⟩:=h.get? (i:=0) rfl
 have:=h.1
 cases vs with
 | nil=>simp at this
 | cons a r=>cases r with
  | nil=>simp at h1;subst h1;exact⟨_,rfl,h2⟩
  | cons b r=>simp at this
theorem N2 {g:Ghost} {w:World} {x y:TV} {vs:List Value} (h:AK g w [x,y] vs):∃v u,vs=[v,u]/\Rel g w x v/\Rel g w y u:=by
 obtain⟨v,h1,h2⟩:=h.get? (i:=0) rfl
 obtain⟨u,h3,h4⟩:=h.get? (i:=1) rfl
 have:=h.1
 cases vs with
 | nil=>simp at this
 | cons a r=>cases r with
  | nil=>simp at this
  | cons b r=>cases r with
   | nil=>simp at h1 h3;subst h1 h3;exact⟨_,_,rfl,h2,h4⟩
   | cons c r=>simp at this
section
inductive SR {α β:Type} (R:α->β->Prop):List α->List β->Prop
 | nil:SR R [] []
 | cons {a:α} {b:β} {l:List α} {m:List β}:R a b->SR R l m->SR R (a::l) (b::m)
theorem FsR.chunks {st:St}:∀{f:List Fd} {xs:List TV},FsR st f xs->∃cks:List (List TV),xs=cks.flatten/\SR (FdR st) f cks
 | [],xs,h=>by unfold FsR at h;subst h;exact⟨[],rfl,.nil⟩
 | d::r,xs,h=>by
  unfold FsR at h
  obtain⟨a,b,rfl,h1,h2⟩:=h
  obtain⟨cks,rfl,h3⟩:=FsR.chunks h2
  exact⟨a::cks,by simp,.cons h1 h3⟩
theorem FsR.of_chunks {st:St} {f:List Fd} {cks:List (List TV)} (h:SR (FdR st) f cks):FsR st f cks.flatten:=by
 induction h with
 | nil=>unfold FsR;rfl
 | cons r _ ih=>unfold FsR;exact⟨_,_,by simp,r,ih⟩
theorem SlR.one {st:St} {sz n:Nat} {u:TV} {xs:List TV} (h:SlR st sz u n xs):Ap u=true:=by
 rcases h with(⟨rfl,_⟩ | ⟨tip,rfl⟩) | ⟨b,off,cap,l,rfl,_⟩<;>rfl
theorem Ar.keeps {a b:St} (h:Ar a b):Es a b:=⟨h.nb,h.box⟩
section
variable {st:St}
end
end
def Ia (st:St) (sz:Nat) (u:TV) (n:Nat) (xs:List TV) (bs:List Nat):Prop:=
 (n=0/\xs=[]/\bs=[]/\(u= .nilSlice∨u= .list sz .full 0 []))∨∃b cap tail,u= .ms sz b 0 n cap/\b<st.nb/\st.box b= .cells (xs++tail)/\(xs++tail).length=cap*sz/\xs.length=n*sz/\n<=cap/\bs=[b]
theorem Ia.rd {st:St} {sz n:Nat} {u:TV} {xs:List TV} {bs:List Nat} (h:Ia st sz u n xs bs):SlR st sz u n xs:=by
 rcases h with⟨rfl,rfl,rfl,rfl | rfl⟩ | ⟨b,cap,tail,rfl,h1,h2,h3,h4,h5,rfl⟩
 ·exact .inl (.inl ⟨rfl,rfl,rfl⟩)
 ·exact .inl (.inr ⟨_,rfl⟩)
 ·exact .inr ⟨b,0,cap,_,rfl,h1,h2,by omega,h5,by rw[List.drop_zero,<-h4,List.take_left]⟩
theorem S7 (xs ys tail:List TV) (h:ys.length<=tail.length):setAll (xs++tail) xs.length ys=xs++ys++tail.drop ys.length:=by
 have e:tail=tail.take ys.length++tail.drop ys.length:=(List.take_append_drop _ _).symm
 have:=NX ys xs (tail.take ys.length) (tail.drop ys.length) (by simp;omega)
 rw[List.append_assoc,List.take_append_drop]at this
 exact this
theorem V9 {T sz bytes:Nat} {st:St} {u:TV} {n k:Nat} {xs ys:List TV} {bs:List Nat} {K:TV->St->Prop} (h:Ia st sz u n xs bs) (hk1:0<k) (hy:ys.length=k*sz) (hby:(n+k)*bytes<=140737488355328)
  (hK:∀u' st' bs',Ia st' sz u' (n+k) (xs++ys) bs'->StX (·∈bs) st st'->((bs'=bs/\bs≠ [])∨bs'=[st.nb])->K u' st'):Nf T sz bytes u k ys st K:=by
 obtain⟨m,rfl⟩:∃m,k=m+1:=⟨k-1,by omega⟩
 have fresh:∀(zs:List TV) (N cap:Nat),zs.length=N*sz->N<=cap->Ia (st.push (.cells (zs++Gt ((cap-N)*sz))) (some T)) sz (.ms sz st.nb 0 N cap) N zs [st.nb]:=fun zs N cap h1 h2=>
  .inr ⟨st.nb,cap,Gt ((cap-N)*sz),rfl,by simp[St.push],by simp[St.push],by rw[List.length_append,h1];simp only[Gt,List.length_replicate];rw[<-Nat.add_mul];congr 1;omega,h1,h2,rfl⟩
 rcases h with⟨rfl,rfl,rfl,rfl | rfl⟩ | ⟨b,cap,tail,rfl,h1,h2,h3,h4,h5,rfl⟩
 ·simp only[Nf,Au]
  refine⟨by simpa using hby,fun cap hc=>hK _ _ [st.nb] ?_ (StX.of ((Ar.refl st).push _ _)) (.inr rfl)⟩
  have:=fresh ys (m+1) cap hy hc
  simpa using this
 ·simp only[Nf,Nat.beq_refl]
  refine⟨hby,fun cap hc=>hK _ _ [st.nb] ?_ (StX.of ((Ar.refl st).push _ _)) (.inr rfl)⟩
  have:=fresh ys (0+(m+1)) cap (by rw[hy];congr 1;omega) hc
  simpa using this
 ·simp only[Nf,Nat.beq_refl]
  rw[List.length_append]at h3
  refine⟨hby,_,h2,by rw[List.length_append];omega,fun hc=>?_,fun hc cap' hc'=>?_⟩
  ·have hmul:(n+(m+1))*sz<=cap*sz:=Nat.mul_le_mul_right _ hc
   rw[Nat.add_mul]at hmul
   rw[Nat.zero_add,<-h4,S7 xs ys tail (by omega)]
   refine hK _ _ [b] (.inr ⟨b,cap,tail.drop ys.length,rfl,h1,by simp[St.put],by simp only[List.length_append,List.length_drop];omega,by rw[List.length_append,h4,hy,<-Nat.add_mul],hc,rfl⟩) (StX.put (S:=(·∈ [b])) (.head _) _) (.inl ⟨rfl,by simp⟩)
  ·rw[List.drop_zero,<-h4,List.take_left]
   exact hK _ _ [st.nb] (fresh (xs++ys) (n+(m+1)) cap' (by rw[List.length_append,h4,hy,<-Nat.add_mul]) hc') (StX.of ((Ar.refl st).push _ _)) (.inr rfl)
section
mutual
def Vl.sz:Vl->Nat
 | .mk s l f=>1+s.bytes.length+s.text.length+s.dg.length+Ea l+FC f
def Ea:List Vl->Nat
 | []=>0
 | v::r=>v.sz+Ea r
def Fd.sz:Fd->Nat
 | .mk k v=>k.length+v.sz
def FC:List Fd->Nat
 | []=>0
 | d::r=>d.sz+FC r
end
theorem Vl.sz_pos (v:Vl):1<=v.sz:=by cases v;unfold Vl.sz;omega
theorem KJ:∀l:List Vl,l.length<=Ea l
 | []=>Nat.le_refl _
 | v::r=>by have:=KJ r;have:=v.sz_pos;unfold Ea;simp only[List.length_cons];omega
theorem Jg:∀l:List Fd,l.length<=FC l
 | []=>Nat.le_refl _
 | .mk k v::r=>by have:=Jg r;have:=v.sz_pos;unfold FC Fd.sz;simp only[List.length_cons];omega
theorem KK:∀{l:List Vl} {i:Nat} {v:Vl},l[i]? =some v->v.sz<=Ea l
 | [],i,v,h=>by simp at h
 | w::r,0,v,h=>by simp at h;subst h;unfold Ea;omega
 | w::r,i+1,v,h=>by have:=KK (by simpa using h:r[i]? =some v);unfold Ea;omega
theorem Jh:∀{l:List Fd} {i:Nat} {d:Fd},l[i]? =some d->d.sz<=FC l
 | [],i,v,h=>by simp at h
 | w::r,0,v,h=>by simp at h;subst h;unfold FC;omega
 | w::r,i+1,v,h=>by have:=Jh (by simpa using h:r[i]? =some v);unfold FC;omega
theorem Oi {st:St} {ys:List TV}:∀(k j:Nat),j+k<=ys.length->Aj st [] (.t (.rptr ys)) j k=some ((ys.drop j).take k)
 | 0,j,h=>by simp[Aj]
 | k+1,j,h=>by
  show(match Ac st [] (.t (.rptr ys)) j with | some x=>(Aj st [] (.t (.rptr ys)) (j+1) k).map (x::·) | none=>none)=_
  have hj:j<ys.length:=by omega
  have:Ac st [] (.t (.rptr ys)) j=some ys[j]:=by simp[Ac,hj]
  rw[this]
  simp only
  rw[Oi k (j+1) (by omega),List.drop_eq_getElem_cons hj]
  rfl
theorem SlR.ldc {st:St} {sz n i:Nat} {u:TV} {xs:List TV} (h:SlR st sz u n xs) (hl:xs.length=n*sz) (hi:i<n):Aj st [] (.t (ixT sz u i)) 0 sz=some ((xs.drop (i*sz)).take sz):=by
 have hm:(i+1)*sz<=n*sz:=Nat.mul_le_mul_right _ hi
 rw[Nat.add_mul,Nat.one_mul]at hm
 rcases h with(⟨rfl,rfl,rfl⟩ | ⟨tip,rfl⟩) | ⟨b,off,cap,l,rfl,h2,h3,h4,h5,rfl⟩
 ·omega
 ·show Aj st [] (.t (.rptr (xs.drop (i*sz)))) 0 sz=_
  rw[Oi sz 0 (by rw[List.length_drop];omega),List.drop_zero]
 ·have hc:n*sz<=cap*sz:=Nat.mul_le_mul_right _ h5
  have e1:(((l.drop off).take (n*sz)).drop (i*sz)).take sz=(l.drop (off+i*sz)).take sz:=by
   rw[List.drop_take,List.drop_drop,List.take_take,Nat.min_eq_left (by omega)]
  rw[e1]
  have e:=Nm (B:=l.drop (off+i*sz+sz)) (st:=st) (b:=b) ((l.drop (off+i*sz)).take sz) l 0 (off+i*sz) h3 (by
   have:=List.take_append_drop sz (l.drop (off+i*sz))
   rw[List.drop_drop]at this
   rw[Nat.add_zero];exact this.symm)
  rw[show((l.drop (off+i*sz)).take sz).length=sz by simp;omega]at e
  exact e
theorem SlR.lenZ {st:St} {sz n:Nat} {u:TV} {xs:List TV} (h:SlR st sz u n xs):TVF.lenZ sz u=n:=by
 rcases h with(⟨rfl,rfl,rfl⟩ | ⟨tip,rfl⟩) | ⟨b,off,cap,l,rfl,h2,h3,h4,h5,rfl⟩
 ·rfl
 ·simp[TVF.lenZ]
 ·simp[TVF.lenZ]
theorem SlR.lenS {st:St} {sz n:Nat} {u:TV} {xs:List TV} (h:SlR st sz u n xs):TVF.lenS u=n:=by
 rcases h with(⟨rfl,rfl,rfl⟩ | ⟨tip,rfl⟩) | ⟨b,off,cap,l,rfl,h2,h3,h4,h5,rfl⟩<;>rfl
theorem SlR.isSl {st:St} {sz n:Nat} {u:TV} {xs:List TV} (h:SlR st sz u n xs):TVF.isSl u=true:=by
 rcases h with(⟨rfl,rfl,rfl⟩ | ⟨tip,rfl⟩) | ⟨b,off,cap,l,rfl,h2,h3,h4,h5,rfl⟩<;>rfl
theorem Ia.nil (st:St) (sz:Nat):Ia st sz .nilSlice 0 [] []:= .inl ⟨rfl,rfl,rfl,.inl rfl⟩
theorem XB {n1:Int} {b1 b2:Bool} {s2:B8} {n2 n3 n4 n5 n6:Int} {s3:B8} {u1 u2 u3:TV} {f:Fun [.int .i64,.bool,.bool,.str,.int .i64,.int .i64,.int .i64,.int .i64,.int .i64,.str,.tv,.tv,.tv] Prop} (h:f n1 b1 b2 s2 n2 n3 n4 n5 n6 s3 u1 u2 u3):
  AW [.int .i64,.bool,.bool,.str,.int .i64,.int .i64,.int .i64,.int .i64,.int .i64,.str,.tv,.tv,.tv] (.agg [.int .i64 n1,.bool b1,.bool b2,.str s2,.int .i64 n2,.int .i64 n3,.int .i64 n4,.int .i64 n5,.int .i64 n6,.str s3,u1,u2,u3]) f:=h
theorem B7 {n1:Int} {b1 b2:Bool} {s2:B8} {n2 n3 n4 n5 n6:Int} {s3:B8} {u1 u2 u3:TV} (h1:Ap u1=true) (h2:Ap u2=true) (h3:Ap u3=true):
  List.all [.int .i64 n1,.bool b1,.bool b2,.str s2,.int .i64 n2,.int .i64 n3,.int .i64 n4,.int .i64 n5,.int .i64 n6,.str s3,u1,u2,u3] Ap=true:=by
 simp only[List.all_cons,List.all_nil,h1,h2,h3,Bool.and_true];rfl
end
theorem one14 {k:B8} {n1:Int} {b1 b2:Bool} {s2:B8} {n2 n3 n4 n5 n6:Int} {s3:B8} {u1 u2 u3:TV} (h1:Ap u1=true) (h2:Ap u2=true) (h3:Ap u3=true):
  List.all [.str k,.int .i64 n1,.bool b1,.bool b2,.str s2,.int .i64 n2,.int .i64 n3,.int .i64 n4,.int .i64 n5,.int .i64 n6,.str s3,u1,u2,u3] Ap=true:=by
 simp only[List.all_cons,List.all_nil,h1,h2,h3,Bool.and_true];rfl
def Bh (s:Sc) (ub ul uf:TV):List TV:=[.int .i64 s.kind,.bool s.b,.bool s.neg,.str s.dg,.int .i64 s.ex,.int .i64 s.tk,.int .i64 s.td,.int .i64 s.tn,.int .i64 s.tz,.str s.text,ub,ul,uf]
theorem SR.snoc {α β:Type} {R:α->β->Prop} {a:α} {b:β} {l:List α} {m:List β} (h:SR R l m) (r:R a b):SR R (l++[a]) (m++[b]):=by
 induction h with
 | nil=>exact .cons r .nil
 | cons r' _ ih=>exact .cons r' ih
theorem Xn {l:List Fd} {v:Fd} (h:v∈l):v.sz<=FC l:=by
 obtain⟨i,hi⟩:=List.getElem?_of_mem h
 exact Jh hi
theorem natB_lt (n:Nat) (h:n<256):n.toUInt8.toNat=n:=by simp;omega
theorem el13 {st0 st:St} {ul:TV} {xl:List TV} {l:List Vl} (hke:Es st0 st) (h2:SlR st0 13 ul l.length xl) (h3:VsR st0 l xl) {i:Int} {k:Nat} (hi:i=k) (hk:k<l.length) {f:Fun [.int .i64,.bool,.bool,.str,.int .i64,.int .i64,.int .i64,.int .i64,.int .i64,.str,.tv,.tv,.tv] Prop}
  (hf:∀s' l' f' ub1 ul1 uf1,l[k]? =some (.mk s' l' f')->VlR st0 (.mk s' l' f') (Bh s' ub1 ul1 uf1)->List.all (Bh s' ub1 ul1 uf1) Ap=true->f s'.kind s'.b s'.neg s'.dg s'.ex s'.tk s'.td s'.tn s'.tz s'.text ub1 ul1 uf1):
  (0<=i/\i<(lenZ 13 ul:Int))/\Ag ((Aj st [] (.t (ixT 13 ul (Int.toNat i))) 0 13).map TV.agg) fun x=>AW [.int .i64,.bool,.bool,.str,.int .i64,.int .i64,.int .i64,.int .i64,.int .i64,.str,.tv,.tv,.tv] x f:=by
 subst hi
 have gw:l[k]? =some l[k]:=List.getElem?_eq_getElem hk
 obtain⟨cw,hw,hcw,hcl⟩:=h3.get gw
 rw[h2.lenZ,Int.toNat_natCast,(h2.keep hke).ldc h3.len hk,hcw]
 generalize l[k]=w at*
 cases w with
 | mk s' l' f'=>
 have hw0:=hw
 unfold VlR at hw0
 obtain⟨ub',ul',uf',xl',xf',rfl,w1,w2,w3,w4,w5⟩:=hw0
 exact⟨⟨by omega,by omega⟩,Ad rfl (XB (hf s' l' f' ub' ul' uf' gw hw (B7 w1.one w2.one w4.one)))⟩
theorem el14 {st0 st:St} {uf:TV} {xf:List TV} {l:List Fd} (hke:Es st0 st) (h2:SlR st0 14 uf l.length xf) (h3:FsR st0 l xf) {i:Int} {k:Nat} (hi:i=k) (hk:k<l.length) {f:Fun [.str,.int .i64,.bool,.bool,.str,.int .i64,.int .i64,.int .i64,.int .i64,.int .i64,.str,.tv,.tv,.tv] Prop}
  (hf:∀key s' l' f' ub1 ul1 uf1,l[k]? =some (.mk key (.mk s' l' f'))->VlR st0 (.mk s' l' f') (Bh s' ub1 ul1 uf1)->List.all (.str key::Bh s' ub1 ul1 uf1) Ap=true->f key s'.kind s'.b s'.neg s'.dg s'.ex s'.tk s'.td s'.tn s'.tz s'.text ub1 ul1 uf1):
  (0<=i/\i<(lenZ 14 uf:Int))/\Ag ((Aj st [] (.t (ixT 14 uf (Int.toNat i))) 0 14).map TV.agg) fun x=>AW [.str,.int .i64,.bool,.bool,.str,.int .i64,.int .i64,.int .i64,.int .i64,.int .i64,.str,.tv,.tv,.tv] x f:=by
 subst hi
 have gw:l[k]? =some l[k]:=List.getElem?_eq_getElem hk
 obtain⟨cw,hw,hcw,hcl⟩:=h3.get gw
 rw[h2.lenZ,Int.toNat_natCast,(h2.keep hke).ldc h3.len hk,hcw]
 generalize l[k]=w at*
 cases w with
 | mk key w=>
 cases w with
 | mk s' l' f'=>
 have hw0:=hw
 unfold FdR at hw0
 obtain⟨cw2,rfl,hw1⟩:=hw0
 have hw2:=hw1
 unfold VlR at hw2
 obtain⟨ub',ul',uf',xl',xf',rfl,w1,w2,w3,w4,w5⟩:=hw2
 exact⟨⟨by omega,by omega⟩,Ad rfl (decA14 (hf key s' l' f' ub' ul' uf' gw hw1 (one14 w1.one w2.one w4.one)))⟩
theorem Pu {α:Type} {l:List α} {k:Nat} {v:α} (h:l[k]? =some v):l.take (k+1)=l.take k++[v]:=by
 obtain⟨q1,q2⟩:=List.getElem?_eq_some_iff.1 h
 rw[List.take_succ_eq_append_getElem q1,q2]
theorem TC {α:Type} {l:List α} {k:Nat} {v:α} (h:l[k]? =some v):v∈l:=by
 obtain⟨q1,q2⟩:=List.getElem?_eq_some_iff.1 h
 rw[<-q2];exact List.getElem_mem q1
end Go.TVF
section
namespace Go.TVF
open Go.IntKind(i64 u8)
open Go
theorem or_i64 (x y:Nat) (hx:x<2^63) (hy:y<2^63):AJ .or .i64 (x:Int) (y:Int)=((x ||| y:Nat):Int):=by
 have h:x ||| y<2^63:=Nat.or_lt_two_pow hx hy
 show IntKind.wrap .i64 ((BitVec.ofInt 64 (x:Int) ||| BitVec.ofInt 64 (y:Int)).toNat:Int)=_
 simp only[BitVec.ofInt_natCast,BitVec.toNat_or,BitVec.toNat_ofNat]
 rw[Nat.mod_eq_of_lt (by omega),Nat.mod_eq_of_lt (by omega),Ah _ (by omega) (by omega)]
theorem and_i64 (x y:Nat) (hx:x<2^63) (hy:y<2^63):AJ .and .i64 (x:Int) (y:Int)=((x&&&y:Nat):Int):=by
 have h:x&&&y<2^63:=Nat.and_lt_two_pow _ hy
 show IntKind.wrap .i64 ((BitVec.ofInt 64 (x:Int)&&&BitVec.ofInt 64 (y:Int)).toNat:Int)=_
 simp only[BitVec.ofInt_natCast,BitVec.toNat_and,BitVec.toNat_ofNat]
 rw[Nat.mod_eq_of_lt (by omega),Nat.mod_eq_of_lt (by omega),Ah _ (by omega) (by omega)]
theorem Uu (x y:Nat) (hx:x<2^8) (hy:y<2^8):AJ .and .u8 (x:Int) (y:Int)=((x&&&y:Nat):Int):=by
 have h:x&&&y<2^8:=Nat.and_lt_two_pow _ hy
 show IntKind.wrap .u8 ((BitVec.ofInt 8 (x:Int)&&&BitVec.ofInt 8 (y:Int)).toNat:Int)=_
 simp only[BitVec.ofInt_natCast,BitVec.toNat_and,BitVec.toNat_ofNat]
 rw[Nat.mod_eq_of_lt (by omega),Nat.mod_eq_of_lt (by omega),LB _ (by omega) (by omega)]
theorem QK (a b m:Nat) (hb:b<2^m) (h:a*2^m+b<2^63):AJ .or .i64 ((a*2^m:Nat):Int) (b:Int)=((a*2^m+b:Nat):Int):=by
 have hb':b<2^63:=by omega
 rw[or_i64 _ _ (by omega) hb',Nat.mul_comm a,Nat.two_pow_add_eq_or_of_lt hb]
theorem Js (a m:Nat) (ha:a<2^63) (hm:m<63):AJ .and .i64 (a:Int) ((2^m-1:Nat):Int)=((a%2^m:Nat):Int):=by
 have:2^m<2^63:=Nat.pow_lt_pow_right (by decide) hm
 rw[and_i64 _ _ ha (by omega),Nat.and_two_pow_sub_one_eq_mod]
theorem Wg (n:Nat) (h:n<=255):IntKind.wrap .i64 (n:Int)=n:=Ah _ (by omega) (by omega)
theorem EH {α:Type} (l:List α) (i:Nat) (d:α) (h:i<l.length):l.take (i+1)=l.take i++[l.getD i d]:=by
 rw[List.take_add_one,List.getElem?_eq_getElem h,List.getD,List.getElem?_eq_getElem h];rfl
theorem shr_i64 (x m:Nat) (h:m<=64):Int.fdiv (x:Int) (2^(min m (IntKind.bits .i64)))=((x/2^m:Nat):Int):=by
 rw[show min m (IntKind.bits .i64)=m from Nat.min_eq_left h,show(2:Int)^m=((2^m:Nat):Int) by simp,Int.fdiv_eq_ediv_of_nonneg _ (Int.natCast_nonneg _)]
 rfl
theorem Hd {α:Type} (l:List α) (i j:Nat) (d:α):(l.drop i).getD j d=l.getD (i+j) d:=by
 simp[List.getD,List.getElem?_drop]
theorem P6 {α:Type} (l:List α) (i:Nat) (d:α) (h:i<l.length):l.drop i=l.getD i d::l.drop (i+1):=by
 rw[List.drop_eq_getElem_cons h,List.getD,List.getElem?_eq_getElem h];rfl
theorem EN {α:Type} (l:List α) (i j:Nat):(l.take j).drop i=(l.drop i).take (j-i):=by
 rw[List.drop_take]
def bt (l:B8) (i:Nat):Nat:=(l.getD i 0).toNat
theorem Ey (l:B8) (i:Nat):bt l i<256:=(l.getD i 0).toNat_lt
theorem Nu (l:B8) (i j:Nat):bt (l.drop i) j=bt l (i+j):=by simp[bt,Hd]
def dN (l:B8):Nat×Nat:=Lib.decodeN l.length (bt l 0) (bt l 1) (bt l 2) (bt l 3)
def ul (l:B8):Nat:=if l=[]∨dN l=(65533,1)then 0 else(dN l).2
def ur (l:B8):Nat:=(dN l).1
def AZ (r:Nat):Prop:=r<=1114111/\(r<55296∨57343<r)
instance (r:Nat):Decidable (AZ r):=by unfold AZ;infer_instance
def FG (r:Nat):B8:=
 if r<128 then [UInt8.ofNat r]else if r<2048 then [UInt8.ofNat (192+r/64),UInt8.ofNat (128+r%64)]
 else if r<65536 then [UInt8.ofNat (224+r/4096),UInt8.ofNat (128+r/64%64),UInt8.ofNat (128+r%64)]
 else [UInt8.ofNat (240+r/262144),UInt8.ofNat (128+r/4096%64),UInt8.ofNat (128+r/64%64),UInt8.ofNat (128+r%64)]
theorem Dc (n:Nat) (c:UInt8):UInt8.ofNat n=c↔n%256=c.toNat:=by
 rw[<-UInt8.toNat_inj];simp
theorem K0 (l:B8) (h:1<=l.length):l.take 1=[l.getD 0 0]:=by
 rw[EH l 0 0 (by omega)];rfl
theorem KZ (l:B8) (h:2<=l.length):l.take 2=[l.getD 0 0,l.getD 1 0]:=by
 rw[EH l 1 0 (by omega),K0 l (by omega)];rfl
theorem HE (l:B8) (h:3<=l.length):l.take 3=[l.getD 0 0,l.getD 1 0,l.getD 2 0]:=by
 rw[EH l 2 0 (by omega),KZ l (by omega)];rfl
theorem LU (l:B8) (h:4<=l.length):l.take 4=[l.getD 0 0,l.getD 1 0,l.getD 2 0,l.getD 3 0]:=by
 rw[EH l 3 0 (by omega),HE l (by omega)];rfl
def rsz (b0:Nat):Nat:=if 240<=b0 then 4 else if 224<=b0 then 3 else if 192<=b0 then 2 else 1
def rb0 (b0:Nat):Nat:=if 240<=b0 then b0%8 else if 224<=b0 then b0%16 else if 192<=b0 then b0%32 else b0
def BS (l:B8) (r0:Nat):Nat->Nat
 | 0=>r0
 | j+1=>BS l r0 j*64+bt l (j+1)%64
theorem Ni (l:B8) (r0:Nat) (h:r0<256):∀j,BS l r0 j<256*64^j
 | 0=>by simpa [BS]using h
 | j+1=>by
  have:=Ni l r0 h j
  have h2:=Nat.mod_lt (bt l (j+1)) (show 0<64 by omega)
  simp only[BS,Nat.pow_succ]
  omega
theorem rb0_lt (b0:Nat) (h:b0<256):rb0 b0<256:=by
 unfold rb0
 repeat' split
 all_goals omega
theorem Ta (b0:Nat):1<=rsz b0/\rsz b0<=4:=by
 unfold rsz
 repeat' split
 all_goals omega
def R5 (l:B8):Nat×Nat:=
 let size:=rsz (bt l 0)
 let r:=BS l (rb0 (bt l 0)) (size-1)
 if l.length<size then(0,0)else if AZ r/\FG r=l.take size then(r,size)else(0,0)
theorem Do {a b:UInt8} {x y:B8}:(a::x=b::y)↔a=b/\x=y:=by simp
set_option maxHeartbeats 4000000 in
theorem JD (l:B8) (h:l≠ []):R5 l=if ul l=0 then(0,0)else(ur l,ul l):=by
 have hl:1<=l.length:=by cases l with | nil=>exact absurd rfl h | cons a r=>simp
 have h0:=Ey l 0
 have h1:=Ey l 1
 have h2:=Ey l 2
 have h3:=Ey l 3
 have e0:(l.getD 0 0).toNat=bt l 0:=rfl
 have e1:(l.getD 1 0).toNat=bt l 1:=rfl
 have e2:(l.getD 2 0).toNat=bt l 2:=rfl
 have e3:(l.getD 3 0).toNat=bt l 3:=rfl
 have hul:ul l=if dN l=(65533,1)then 0 else(dN l).2:=by simp[ul,h]
 rw[hul,ur]
 unfold dN
 generalize hb0:bt l 0=b0 at*
 generalize hb1:bt l 1=b1 at*
 generalize hb2:bt l 2=b2 at*
 generalize hb3:bt l 3=b3 at*
 unfold R5
 simp only[hb0]
 by_cases c4:240<=b0
 ·have r4:rsz b0=4:=by unfold rsz;rw[if_pos c4]
  have rb:rb0 b0=b0%8:=by unfold rb0;rw[if_pos c4]
  rw[r4,rb]
  simp only[Nat.reduceSub,BS,hb1,hb2,hb3,Nat.zero_add,Nat.reduceAdd]
  by_cases hn:l.length<4
  ·rw[if_pos hn]
   have:Lib.decodeN l.length b0 b1 b2 b3=(65533,1):=by
    unfold Lib.decodeN
    rw[if_neg (by omega),if_neg (by omega),if_neg (by omega),if_neg (by omega)]
   rw[this];simp
  ·rw[if_neg hn]
   have hEnc:(AZ (((b0%8*64+b1%64)*64+b2%64)*64+b3%64)/\FG (((b0%8*64+b1%64)*64+b2%64)*64+b3%64)=l.take 4)↔(b0/8=30/\b1/64=2/\b2/64=2/\b3/64=2/\65536<=((b0%8*64+b1%64)*64+b2%64)*64+b3%64/\((b0%8*64+b1%64)*64+b2%64)*64+b3%64<=1114111):=by
    rw[LU l (by omega)]
    generalize hr:((b0%8*64+b1%64)*64+b2%64)*64+b3%64=r
    unfold AZ FG
    by_cases k1:r<128
    ·rw[if_pos k1];simp;omega
    ·rw[if_neg k1]
     by_cases k2:r<2048
     ·rw[if_pos k2];simp;omega
     ·rw[if_neg k2]
      by_cases k3:r<65536
      ·rw[if_pos k3];simp;omega
      ·rw[if_neg k3]
       simp only[Do,Dc,e0,e1,e2,e3,and_true]
       omega
   by_cases hE:b0/8=30/\b1/64=2/\b2/64=2/\b3/64=2/\65536<=((b0%8*64+b1%64)*64+b2%64)*64+b3%64/\((b0%8*64+b1%64)*64+b2%64)*64+b3%64<=1114111
   ·rw[if_pos (hEnc.2 hE)]
    have:Lib.decodeN l.length b0 b1 b2 b3=(((b0%8*64+b1%64)*64+b2%64)*64+b3%64,4):=by
     unfold Lib.decodeN
     rw[if_neg (by omega),if_neg (by omega),if_neg (by omega),if_pos (by omega),if_pos (by omega)]
     simp only[Prod.mk.injEq,and_true];omega
    rw[this];simp
   ·rw[if_neg (fun hh=>hE (hEnc.1 hh))]
    have:Lib.decodeN l.length b0 b1 b2 b3=(65533,1):=by
     unfold Lib.decodeN
     rw[if_neg (by omega),if_neg (by omega),if_neg (by omega)]
     split
     ·rw[if_neg (by omega)]
     ·rfl
    rw[this];simp
 ·by_cases c3:224<=b0
  ·have r4:rsz b0=3:=by unfold rsz;rw[if_neg c4,if_pos c3]
   have rb:rb0 b0=b0%16:=by unfold rb0;rw[if_neg c4,if_pos c3]
   rw[r4,rb]
   simp only[Nat.reduceSub,BS,hb1,hb2,Nat.zero_add,Nat.reduceAdd]
   by_cases hn:l.length<3
   ·rw[if_pos hn]
    have:Lib.decodeN l.length b0 b1 b2 b3=(65533,1):=by
     unfold Lib.decodeN
     rw[if_neg (by omega),if_neg (by omega),if_neg (by omega),if_neg (by omega)]
    rw[this];simp
   ·rw[if_neg hn]
    have hEnc:(AZ ((b0%16*64+b1%64)*64+b2%64)/\FG ((b0%16*64+b1%64)*64+b2%64)=l.take 3)↔(b1/64=2/\b2/64=2/\2048<=(b0%16*64+b1%64)*64+b2%64/\AZ ((b0%16*64+b1%64)*64+b2%64)):=by
     rw[HE l (by omega)]
     generalize hr:(b0%16*64+b1%64)*64+b2%64=r
     unfold AZ FG
     by_cases k1:r<128
     ·rw[if_pos k1];simp;omega
     ·rw[if_neg k1]
      by_cases k2:r<2048
      ·rw[if_pos k2];simp;omega
      ·rw[if_neg k2]
       by_cases k3:r<65536
       ·rw[if_pos k3]
        simp only[Do,Dc,e0,e1,e2,and_true]
        omega
       ·omega
    by_cases hE:b1/64=2/\b2/64=2/\2048<=(b0%16*64+b1%64)*64+b2%64/\AZ ((b0%16*64+b1%64)*64+b2%64)
    ·rw[if_pos (hEnc.2 hE)]
     have:Lib.decodeN l.length b0 b1 b2 b3=((b0%16*64+b1%64)*64+b2%64,3):=by
      unfold AZ at hE
      unfold Lib.decodeN
      rw[if_neg (by omega),if_neg (by omega),if_pos (by omega),if_pos (by omega)]
      simp only[Prod.mk.injEq,and_true];omega
     rw[this];simp
    ·rw[if_neg (fun hh=>hE (hEnc.1 hh))]
     have:Lib.decodeN l.length b0 b1 b2 b3=(65533,1):=by
      unfold AZ at hE
      unfold Lib.decodeN
      rw[if_neg (by omega),if_neg (by omega)]
      split
      ·rw[if_neg (by omega)]
      ·rw[if_neg (by omega)]
     rw[this];simp
  ·by_cases c2:192<=b0
   ·have r4:rsz b0=2:=by unfold rsz;rw[if_neg c4,if_neg c3,if_pos c2]
    have rb:rb0 b0=b0%32:=by unfold rb0;rw[if_neg c4,if_neg c3,if_pos c2]
    rw[r4,rb]
    simp only[Nat.reduceSub,BS,hb1,Nat.zero_add,Nat.reduceAdd]
    by_cases hn:l.length<2
    ·rw[if_pos hn]
     have:Lib.decodeN l.length b0 b1 b2 b3=(65533,1):=by
      unfold Lib.decodeN
      rw[if_neg (by omega),if_neg (by omega),if_neg (by omega),if_neg (by omega)]
     rw[this];simp
    ·rw[if_neg hn]
     have hEnc:(AZ (b0%32*64+b1%64)/\FG (b0%32*64+b1%64)=l.take 2)↔(b1/64=2/\128<=b0%32*64+b1%64):=by
      rw[KZ l (by omega)]
      generalize hr:b0%32*64+b1%64=r
      unfold AZ FG
      by_cases k1:r<128
      ·rw[if_pos k1];simp;omega
      ·rw[if_neg k1,if_pos (by omega)]
       simp only[Do,Dc,e0,e1,and_true]
       omega
     by_cases hE:b1/64=2/\128<=b0%32*64+b1%64
     ·rw[if_pos (hEnc.2 hE)]
      have:Lib.decodeN l.length b0 b1 b2 b3=(b0%32*64+b1%64,2):=by
       unfold Lib.decodeN
       rw[if_neg (by omega),if_pos (by omega),if_pos (by omega)]
      rw[this];simp
     ·rw[if_neg (fun hh=>hE (hEnc.1 hh))]
      have:Lib.decodeN l.length b0 b1 b2 b3=(65533,1):=by
       unfold Lib.decodeN
       rw[if_neg (by omega)]
       split
       ·rw[if_neg (by omega)]
       ·rw[if_neg (by omega),if_neg (by omega)]
      rw[this];simp
   ·have r4:rsz b0=1:=by unfold rsz;rw[if_neg c4,if_neg c3,if_neg c2]
    have rb:rb0 b0=b0:=by unfold rb0;rw[if_neg c4,if_neg c3,if_neg c2]
    rw[r4,rb]
    simp only[Nat.reduceSub,BS]
    rw[if_neg (by omega),K0 l hl]
    have hEnc:(AZ b0/\FG b0=[l.getD 0 0])↔b0<128:=by
     unfold AZ FG
     by_cases k1:b0<128
     ·rw[if_pos k1];simp only[Do,Dc,e0,and_true];omega
     ·rw[if_neg k1,if_pos (by omega)];simp;omega
    by_cases hE:b0<128
    ·rw[if_pos (hEnc.2 hE)]
     have:Lib.decodeN l.length b0 b1 b2 b3=(b0,1):=by unfold Lib.decodeN;rw[if_pos hE]
     rw[this,if_neg (by simp;omega)]
     simp only[Prod.mk.injEq]
     rw[if_neg (by omega)]
     simp
    ·rw[if_neg (fun hh=>hE (hEnc.1 hh))]
     have:Lib.decodeN l.length b0 b1 b2 b3=(65533,1):=by
      unfold Lib.decodeN
      rw[if_neg (by omega),if_neg (by omega),if_neg (by omega),if_neg (by omega)]
     rw[this];simp
theorem ul_char (l:B8) (h:ul l≠0):AZ (ur l)/\FG (ur l)=l.take (ul l)/\ul l<=l.length/\ul l<=4:=by
 have hne:l≠ []:=fun h0=>h (by simp[ul,h0])
 have e:=JD l hne
 rw[if_neg h]at e
 unfold R5 at e
 simp only at e
 split at e
 ·simp only[Prod.mk.injEq]at e;omega
 ·split at e
  ·rename_i hn hc
   simp only[Prod.mk.injEq]at e
   rw[<-e.1,<-e.2]
   exact⟨hc.1,hc.2,by omega,(Ta _).2⟩
  ·simp only[Prod.mk.injEq]at e;omega
theorem Ps (l:B8):ul l<=l.length:=by
 by_cases h:ul l=0
 ·omega
 ·exact(ul_char l h).2.2.1
theorem Wl (l:B8) (h:l≠ []) (hb:bt l 0<128):ul l=1/\ur l=bt l 0:=by
 have:dN l=(bt l 0,1):=by unfold dN Lib.decodeN;rw[if_pos hb]
 unfold ul ur
 rw[this,if_neg (by simp[h];omega)]
 exact⟨rfl,rfl⟩
def Bj (l:B8):Nat:=if h:ul l=0 then 0 else ul l+Bj (l.drop (ul l))
termination_by l.length
decreasing_by
 have:=Ps l
 simp only[List.length_drop];omega
theorem DY (l:B8) (h:ul l=0):Bj l=0:=by rw[Bj,dif_pos h]
theorem EA (l:B8) (h:ul l≠0):Bj l=ul l+Bj (l.drop (ul l)):=by rw[Bj,dif_neg h]
theorem UE:∀(n:Nat) (l:B8),l.length<=n->Bj l<=l.length
 | 0,l,h=>by
  have:l=[]:=List.eq_nil_of_length_eq_zero (by omega)
  subst this
  rw[DY _ (by simp[ul])];simp
 | n+1,l,h=>by
  by_cases h0:ul l=0
  ·rw[DY l h0];omega
  ·have h1:=Ps l
   have h2:=UE n (l.drop (ul l)) (by simp only[List.length_drop];omega)
   rw[EA l h0]
   simp only[List.length_drop]at h2;omega
end Go.TVF
end
namespace Go.TVF
open Go.IntKind(i64 u8)
open Go Go.Proofs
section
def Nb (n:Nat):B8:=if h:n=0 then []else Nb (n/10)++[(48+n%10).toUInt8]
termination_by n
decreasing_by omega
theorem Md:Nb 0=[]:=by unfold Nb;rw[dif_pos rfl]
theorem PQ {n:Nat} (h:0<n):Nb n=Nb (n/10)++[(48+n%10).toUInt8]:=by
 rw[Nb.eq_def,dif_neg (by omega)]
theorem Oe:∀(k n:Nat),n<10^k->(Nb n).length<=k
 | 0,n,h=>by rw[show n=0 by simpa using h,Md];simp
 | k+1,n,h=>by
  by_cases h0:n=0
  ·rw[h0,Md];simp
  ·rw[PQ (by omega),List.length_append]
   have:=Oe k (n/10) (by rw[Nat.div_lt_iff_lt_mul (by omega)];rw[Nat.pow_succ]at h;exact h)
   simp only[List.length_cons,List.length_nil];omega
def whN (n:Nat):B8:=if n=0 then [48]else Nb n
def expT (p:Int):B8:=101::(if p<1 then 45::whN (1-p).toNat else whN (p-1).toNat)
def dcT (neg:Bool) (dg:B8) (ex:Int):B8:=
 if dg=[]then [48]else(if neg then [45]else [])++
  (if 0<=ex/\dg.length+ex<=21 then dg++List.replicate ex.toNat 48
  else if ex<0/\1<=dg.length+ex/\dg.length+ex<=21 then dg.take (dg.length+ex).toNat++46::dg.drop (dg.length+ex).toNat
  else if-5<=dg.length+ex/\dg.length+ex<=0 then 48::46::(List.replicate (-(dg.length+ex)).toNat 48++dg)
  else dg.take 1++((if 1<dg.length then 46::dg.drop 1 else [])++expT (dg.length+ex)))
def Ca:Nat->Nat->B8
 | 0,_=>[]
 | w+1,n=>Ca w (n/10)++[(48+n%10).toUInt8]
theorem Bw:∀w n,(Ca w n).length=w
 | 0,_=>rfl
 | w+1,n=>by simp[Ca,Bw w]
def AS (c:UInt8):Prop:=48<=c.toNat/\c.toNat<=57
instance (c:UInt8):Decidable (AS c):=inferInstanceAs (Decidable (_/\_))
def Bu (l:B8):Nat:=(l.reverse.takeWhile (·==48)).length
def Fq (neg:Bool) (dg:B8) (ex:Int):Prop:=
 (dg=[]->neg=false/\ex=0)/\(dg≠ []->dg.length<=120/\(∀c,c∈dg->AS c)/\dg.getD 0 0≠48/\Bu dg=0/\ -400<=ex/\ex<=400)
instance (neg:Bool) (dg:B8) (ex:Int):Decidable (Fq neg dg ex):=inferInstanceAs (Decidable ((_->_)/\(_->_)))
def Fj (k d n z:Int):Prop:=
 1<=k/\k<=4/\0<=d/\d<=3652058/\0<=n/\n<=86399999999999/\ -1439<=z/\z<=1439/\(k=2->d=0)/\(k=1->n=0)/\(k≠4->z=0)
instance (k d n z:Int):Decidable (Fj k d n z):=inferInstanceAs (Decidable (_/\_/\_/\_/\_/\_/\_/\_/\(_->_)/\(_->_)/\(_->_)))
theorem U5 (k:Nat) (h:k<10):(48+k).toUInt8.toNat=48+k:=by simp;omega
def Lt (l:B8):B8:=(l.reverse.dropWhile (·==48)).reverse
theorem Qa (l:B8) (c:UInt8):Lt (l++[c])=if c=48 then Lt l else l++[c]:=by
 unfold Lt
 rw[List.reverse_append,List.reverse_singleton,List.singleton_append,List.dropWhile_cons]
 by_cases h:c=48
 ·rw[if_pos h,if_pos (by simp[h])]
 ·rw[if_neg h,if_neg (by simp[h])];simp
theorem XE (l:B8):(Lt l).length<=l.length:=by
 unfold Lt
 rw[List.length_reverse]
 have:=(List.dropWhile_sublist (l:=l.reverse) (fun x:UInt8=>x==48)).length_le
 rw[List.length_reverse]at this;exact this
def Q5 (n:Nat):B8:=Ca 2 (n/1000000000/3600)++58::(Ca 2 (n/1000000000/60%60)++58::(Ca 2 (n/1000000000%60)++(if n%1000000000=0 then []else 46::Lt (Ca 9 (n%1000000000)))))
def VN (z:Int):B8:=if z=0 then [90]else(if z<0 then 45 else 43)::(Ca 2 (z.natAbs/60)++58::Ca 2 (z.natAbs%60))
def MF (y:Nat):Prop:=y%4=0/\(y%100≠0∨y%400=0)
instance (y:Nat):Decidable (MF y):=inferInstanceAs (Decidable (_/\_))
def JX (y m:Nat):Nat:=if m=2 then(if MF y then 29 else 28)else if m=4∨m=6∨m=9∨m=11 then 30 else 31
def EW (y:Nat):Nat->Nat
 | 0=>0
 | 1=>0
 | m+2=>EW y (m+1)+JX y (m+1)
def yrS (y:Nat):Nat:=365*(y-1)+(y-1)/4-(y-1)/100+(y-1)/400
def HZ (n y m d:Nat):Prop:=1<=y/\y<=9999/\1<=m/\m<=12/\1<=d/\d<=JX y m/\n=yrS y+EW y m+(d-1)
theorem Rq {a b:Nat} (h1:1<=a) (h:a<=b):yrS a<=yrS b:=by
 rcases Nat.eq_or_lt_of_le h with rfl | h
 ·exact Nat.le_refl _
 ·unfold yrS;omega
theorem monS_12 (y:Nat):EW y 12+JX y 12=if MF y then 366 else 365:=by
 simp only[EW,JX]
 by_cases h:MF y<;>simp[h]
theorem T8 (k q:Nat) (h:0<q):(k+1)/q=k/q+(if (k+1)%q=0 then 1 else 0):=by
 rw[Nat.succ_div]
 congr 1
 simp only[Nat.dvd_iff_mod_eq_zero]
theorem KI {y:Nat} (h:1<=y):yrS (y+1)=yrS y+(EW y 12+JX y 12):=by
 rw[monS_12]
 obtain⟨k,rfl⟩:∃k,y=k+1:=⟨y-1,by omega⟩
 unfold yrS
 simp only[Nat.add_sub_cancel]
 rw[T8 k 4 (by omega),T8 k 100 (by omega),T8 k 400 (by omega)]
 have m1:(k+1)%400=0->(k+1)%100=0:=fun h=>by omega
 have m2:(k+1)%100=0->(k+1)%4=0:=fun h=>by omega
 have m3:k/100<=k/4:=by omega
 by_cases a4:(k+1)%4=0
 ·rw[if_pos a4]
  by_cases a100:(k+1)%100=0
  ·rw[if_pos a100]
   by_cases a400:(k+1)%400=0
   ·rw[if_pos a400,if_pos ⟨a4,.inr a400⟩];omega
   ·rw[if_neg a400,if_neg (fun h=>h.2.elim (fun h=>h a100) a400)];omega
  ·rw[if_neg a100,if_neg (fun h=>a100 (m1 h)),if_pos ⟨a4,.inl a100⟩];omega
 ·rw[if_neg a4,if_neg (fun h=>a4 (m2 h)),if_neg (fun h=>a4 (m2 (m1 h))),if_neg (fun h=>a4 h.1)];omega
theorem Me (y:Nat):∀{a b:Nat},a<=b->EW y a<=EW y b:=by
 intro a b h
 induction b with
 | zero=>rw[show a=0 by omega];exact Nat.le_refl _
 | succ b ih=>
  by_cases hab:a=b+1
  ·rw[hab];exact Nat.le_refl _
  ·refine Nat.le_trans (ih (by omega)) ?_
   cases b with
   | zero=>exact Nat.le_refl _
   | succ b=>simp only[EW];omega
theorem D7 (y:Nat) {m:Nat} (h:1<=m):EW y (m+1)=EW y m+JX y m:=by
 cases m with
 | zero=>omega
 | succ m=>rfl
theorem HZ.uniq {n y m d y' m' d':Nat} (h:HZ n y m d) (h':HZ n y' m' d'):y=y'/\m=m'/\d=d':=by
 obtain⟨a1,a2,a3,a4,a5,a6,a7⟩:=h
 obtain⟨b1,b2,b3,b4,b5,b6,b7⟩:=h'
 have within:∀{y m d:Nat},1<=y->1<=m->m<=12->1<=d->d<=JX y m->EW y m+(d-1)<EW y 12+JX y 12:=by
  intro y m d h1 h2 h3 h4 h5
  by_cases hm:m=12
  ·subst hm;omega
  ·have:=Me y (a:=m+1) (b:=12) (by omega)
   rw[D7 y h2]at this;omega
 have w1:=within a1 a3 a4 a5 a6
 have w2:=within b1 b3 b4 b5 b6
 have hy:y=y':=by
  rcases Nat.lt_trichotomy y y' with h | h | h
  ·have:=Rq (a:=y+1) (b:=y') (by omega) (by omega)
   rw[KI a1]at this;omega
  ·exact h
  ·have:=Rq (a:=y'+1) (b:=y) (by omega) (by omega)
   rw[KI b1]at this;omega
 subst hy
 have hm:m=m':=by
  rcases Nat.lt_trichotomy m m' with h | h | h
  ·have:=Me y (a:=m+1) (b:=m') (by omega)
   rw[D7 y a3]at this;omega
  ·exact h
  ·have:=Me y (a:=m'+1) (b:=m) (by omega)
   rw[D7 y b3]at this;omega
 subst hm
 exact⟨rfl,rfl,by omega⟩
open Classical in
noncomputable def OF (n:Nat):Nat×Nat×Nat:=if h:∃p:Nat×Nat×Nat,HZ n p.1 p.2.1 p.2.2 then h.choose else(0,0,0)
theorem V4 {n y m d:Nat} (h:HZ n y m d):OF n=(y,m,d):=by
 have hex:∃p:Nat×Nat×Nat,HZ n p.1 p.2.1 p.2.2:=⟨(y,m,d),h⟩
 unfold OF
 rw[dif_pos hex]
 obtain⟨h1,h2,h3⟩:=hex.choose_spec.uniq h
 exact Prod.ext h1 (Prod.ext h2 h3)
noncomputable def OG (n:Nat):B8:=Ca 4 (OF n).1++45::(Ca 2 (OF n).2.1++45::Ca 2 (OF n).2.2)
noncomputable def S4 (k td tn tz:Int):B8:=
 if k=1 then OG td.toNat else if k=2 then Q5 tn.toNat else if k=3 then OG td.toNat++84::Q5 tn.toNat else OG td.toNat++84::(Q5 tn.toNat++VN tz)
end
section
structure OR (s:Sc) (l:List Vl) (f:List Fd):Prop where
 k0:0<=s.kind
 k7:s.kind<=7
 bo:s.kind≠1->s.b=false
 nu:s.kind≠2->s.neg=false/\s.dg=[]/\s.ex=0
 ti:s.kind≠3->s.tk=0/\s.td=0/\s.tn=0/\s.tz=0
 tx:s.kind≠4->s.text=[]
 by_:s.kind≠5->s.bytes=[]
 ls:s.kind≠6->l=[]
 fs:s.kind≠7->f=[]
noncomputable instance (s:Sc) (l:List Vl) (f:List Fd):Decidable (OR s l f):=Classical.propDecidable _
def U8 (s:B8):Prop:=Bj s=s.length
instance (s:B8):Decidable (U8 s):=inferInstanceAs (Decidable (_=_))
def Hc (seen:List B8):List Fd->Nat
 | []=>0
 | d::r=>if U8 d.key then(if 1024<d.key.length then 10 else if d.key∈seen then 8 else Hc (d.key::seen) r)else 5
noncomputable def F1 (s:Sc) (l:List Vl) (f:List Fd):Nat:=
 if OR s l f then(if Fq s.neg s.dg s.ex then(if s.kind=3->Fj s.tk s.td s.tn s.tz then(if U8 s.text then(if 65536<s.text.length then 10 else if 65536<s.bytes.length then 10 else Hc [] f)else 5)else 2)else 2)else 6
noncomputable def G5 (x:Nat×Nat) (f:Nat->Nat×Nat):Nat×Nat:=if x.2=0 then f x.1 else x
mutual
noncomputable def Eu (d n:Nat):Vl->Nat×Nat
 | .mk s l f=>if 48<d then(n,9)else if 65536<=n then(n,10)else if F1 s l f≠0 then(n,F1 s l f)else G5 (Hi (d+1) (n+1) l) fun m=>Hj (d+1) m f
noncomputable def Hi (d n:Nat):List Vl->Nat×Nat
 | []=>(n,0)
 | v::r=>G5 (Eu d n v) fun m=>Hi d m r
noncomputable def chkD (d n:Nat):Fd->Nat×Nat
 | .mk _ v=>Eu d n v
noncomputable def Hj (d n:Nat):List Fd->Nat×Nat
 | []=>(n,0)
 | x::r=>G5 (chkD d n x) fun m=>Hj d m r
end
noncomputable def Jp (v:Vl):Nat:=(Eu 1 0 v).2
theorem Kt {x:Nat×Nat} {f:Nat->Nat×Nat} (h:(G5 x f).2=0):x.2=0/\(f x.1).2=0:=by
 unfold G5 at h
 split at h
 ·rename_i h0;exact⟨h0,h⟩
 ·rename_i h0;exact absurd h h0
theorem NN {x:Nat×Nat} {f:Nat->Nat×Nat} (h:x.2=0):G5 x f=f x.1:=by unfold G5;rw[if_pos h]
theorem LS {x:Nat×Nat} {f:Nat->Nat×Nat} (h:x.2≠0):G5 x f=x:=by unfold G5;rw[if_neg h]
structure Qk (s:Sc) (l:List Vl) (f:List Fd):Prop where
 own:OR s l f
 dec:Fq s.neg s.dg s.ex
 time:s.kind=3->Fj s.tk s.td s.tn s.tz
 text:U8 s.text
 tlen:s.text.length<=65536
 blen:s.bytes.length<=65536
 keys:Hc [] f=0
theorem PO {s:Sc} {l:List Vl} {f:List Fd}:F1 s l f=0↔Qk s l f:=by
 unfold F1
 constructor
 ·intro h
  split at h
  ·rename_i h1
   split at h
   ·rename_i h2
    split at h
    ·rename_i h3
     split at h
     ·rename_i h4
      split at h
      ·cases h
      ·rename_i h5
       split at h
       ·cases h
       ·rename_i h6
        exact⟨h1,h2,h3,h4,by omega,by omega,h⟩
     ·cases h
    ·cases h
   ·cases h
  ·cases h
 ·intro h
  rw[if_pos h.own,if_pos h.dec,if_pos h.time,if_pos h.text,if_neg (by have:=h.tlen;omega),if_neg (by have:=h.blen;omega)]
  exact h.keys
mutual
def MQ:Vl->Prop
 | .mk s l f=>Qk s l f/\Mt l/\Mu f
def Mt:List Vl->Prop
 | []=>True
 | v::r=>MQ v/\Mt r
def Uw:Fd->Prop
 | .mk _ v=>MQ v
def Mu:List Fd->Prop
 | []=>True
 | d::r=>Uw d/\Mu r
end
mutual
theorem Q6:∀(v:Vl) (d n:Nat),(Eu d n v).2=0->MQ v
 | .mk s l f,d,n,h=>by
  unfold Eu at h
  unfold MQ
  split at h
  ·cases h
  ·split at h
   ·cases h
   ·split at h
    ·rename_i h1;exact absurd h h1
    ·rename_i h1
     obtain⟨h2,h3⟩:=Kt h
     exact⟨PO.1 (Decidable.of_not_not h1),SF l _ _ h2,SH f _ _ h3⟩
theorem SF:∀(l:List Vl) (d n:Nat),(Hi d n l).2=0->Mt l
 | [],d,n,_=>by unfold Mt;trivial
 | v::r,d,n,h=>by
  unfold Hi at h
  unfold Mt
  obtain⟨h2,h3⟩:=Kt h
  exact⟨Q6 v _ _ h2,SF r _ _ h3⟩
theorem chkD_ok:∀(x:Fd) (d n:Nat),(chkD d n x).2=0->Uw x
 | .mk k v,d,n,h=>by unfold chkD at h;unfold Uw;exact Q6 v _ _ h
theorem SH:∀(l:List Fd) (d n:Nat),(Hj d n l).2=0->Mu l
 | [],d,n,_=>by unfold Mu;trivial
 | x::r,d,n,h=>by
  unfold Hj at h
  unfold Mu
  obtain⟨h2,h3⟩:=Kt h
  exact⟨chkD_ok x _ _ h2,SH r _ _ h3⟩
end
end
theorem SlR.isPtr {st:St} {sz n i:Nat} {u:TV} {xs:List TV} (h:SlR st sz u n xs) (hi:i<n):TVF.isPtr (ixT sz u i)=true:=by
 rcases h with(⟨rfl,rfl,rfl⟩ | ⟨tip,rfl⟩) | ⟨b,off,cap,l,rfl,_⟩
 ·omega
 ·rfl
 ·rfl
theorem SlR.ldcf {st:St} {sz n i f m:Nat} {u:TV} {xs:List TV} (h:SlR st sz u n xs) (hl:xs.length=n*sz) (hi:i<n) (hf:f+m<=sz):Aj st [] (.t (Ao (ixT sz u i) f)) 0 m=some ((xs.drop (i*sz+f)).take m):=by
 have hm:(i+1)*sz<=n*sz:=Nat.mul_le_mul_right _ hi
 rw[Nat.add_mul,Nat.one_mul]at hm
 rcases h with(⟨rfl,rfl,rfl⟩ | ⟨tip,rfl⟩) | ⟨b,off,cap,l,rfl,h2,h3,h4,h5,rfl⟩
 ·omega
 ·show Aj st [] (.t (.rptr ((xs.drop (i*sz)).drop f))) 0 m=_
  rw[List.drop_drop,Oi m 0 (by rw[List.length_drop];omega),List.drop_zero]
 ·have hc:n*sz<=cap*sz:=Nat.mul_le_mul_right _ h5
  have e1:(((l.drop off).take (n*sz)).drop (i*sz+f)).take m=(l.drop (off+i*sz+f)).take m:=by
   rw[List.drop_take,List.drop_drop,List.take_take,Nat.min_eq_left (by omega),Nat.add_assoc]
  rw[e1]
  have e:=Nm (B:=l.drop (off+i*sz+f+m)) (st:=st) (b:=b) ((l.drop (off+i*sz+f)).take m) l 0 (off+i*sz+f) h3 (by
   have:=List.take_append_drop m (l.drop (off+i*sz+f))
   rw[List.drop_drop]at this
   rw[Nat.add_zero];exact this.symm)
  rw[show((l.drop (off+i*sz+f)).take m).length=m by simp;omega]at e
  exact e
theorem SlR.ldf {st:St} {sz n i f:Nat} {u x:TV} {xs:List TV} (h:SlR st sz u n xs) (hl:xs.length=n*sz) (hi:i<n) (hf:f<sz) (hx:xs[i*sz+f]? =some x):Ac st [] (.t (Ao (ixT sz u i) f)) 0=some x:=by
 have:=h.ldcf (f:=f) (m:=1) hl hi (by omega)
 have hlt:i*sz+f<xs.length:=by
  obtain⟨q,_⟩:=List.getElem?_eq_some_iff.1 hx
  exact q
 rw[List.drop_eq_getElem_cons hlt]at this
 rw[List.getElem?_eq_getElem hlt]at hx
 simp only[Aj,List.take_succ_cons,List.take_zero]at this
 cases hq:Ac st [] (.t (Ao (ixT sz u i) f)) 0 with
 | none=>rw[hq]at this;cases this
 | some y=>
  rw[hq]at this
  simp only[Option.map_some,Option.some.injEq,List.cons.injEq,and_true]at this
  rw[this];exact hx
theorem SlR.toBytes {st:St} {u:TV} {l:B8} (h:SlR st 1 u l.length (AF l)):TVF.toBytes st u=some l:=by
 have hl:(AF l).length=l.length:=DI l
 rcases h with(⟨rfl,h1,_⟩ | ⟨tip,rfl⟩) | ⟨b,off,cap,m,rfl,h2,h3,h4,h5,h6⟩
 ·rw[List.eq_nil_of_length_eq_zero h1];rfl
 ·simp[TVF.toBytes,Dq]
 ·have e:=Nm (B:=m.drop (off+l.length)) (st:=st) (b:=b) (AF l) m 0 off h3 (by
   rw[h6,Nat.add_zero,Nat.mul_one,<-List.drop_drop,List.take_append_drop])
  rw[hl]at e
  simp only[TVF.toBytes,Nat.beq_refl,e,Dq]
theorem key14 {st0 st:St} {uf:TV} {xf:List TV} {l:List Fd} (hke:Es st0 st) (h2:SlR st0 14 uf l.length xf) (h3:FsR st0 l xf) {i:Int} {k:Nat} (hi:i=k) {d:Fd} (hd:l[k]? =some d) {f:B8->Prop} (hf:f d.key):
  (0<=i/\i<(lenZ 14 uf:Int))/\need (TVF.isPtr (ixT 14 uf (Int.toNat i))) (Ag (Ac st [] (.t (Ao (ixT 14 uf (Int.toNat i)) 0)) 0) fun x=>Af .str x f):=by
 subst hi
 obtain⟨hk,_⟩:=List.getElem?_eq_some_iff.1 hd
 obtain⟨cw,hw,hcw,hcl⟩:=h3.get hd
 rw[h2.lenZ,Int.toNat_natCast]
 have hx:xf[k*14+0]? =some (.str d.key):=by
  cases d with
  | mk key w=>
   unfold FdR at hw
   obtain⟨cs,rfl,_⟩:=hw
   have:=congrArg (fun z=>z[0]?) hcw
   simpa [Fd.key]using this
 exact⟨⟨by omega,by omega⟩,Ab (h2.isPtr hk) (Ad ((h2.keep hke).ldf h3.len hk (by omega) hx) hf)⟩
theorem val14 {st0 st:St} {uf:TV} {xf:List TV} {l:List Fd} (hke:Es st0 st) (h2:SlR st0 14 uf l.length xf) (h3:FsR st0 l xf) {i:Int} {k:Nat} (hi:i=k) (hk:k<l.length) {f:Fun [.int .i64,.bool,.bool,.str,.int .i64,.int .i64,.int .i64,.int .i64,.int .i64,.str,.tv,.tv,.tv] Prop}
  (hf:∀key s' l' f' ub1 ul1 uf1,l[k]? =some (.mk key (.mk s' l' f'))->VlR st0 (.mk s' l' f') (Bh s' ub1 ul1 uf1)->List.all (Bh s' ub1 ul1 uf1) Ap=true->f s'.kind s'.b s'.neg s'.dg s'.ex s'.tk s'.td s'.tn s'.tz s'.text ub1 ul1 uf1):
  (0<=i/\i<(lenZ 14 uf:Int))/\need (TVF.isPtr (ixT 14 uf (Int.toNat i))) (Ag ((Aj st [] (.t (Ao (ixT 14 uf (Int.toNat i)) 1)) 0 13).map TV.agg) fun x=>AW [.int .i64,.bool,.bool,.str,.int .i64,.int .i64,.int .i64,.int .i64,.int .i64,.str,.tv,.tv,.tv] x f):=by
 subst hi
 have gw:l[k]? =some l[k]:=List.getElem?_eq_getElem hk
 obtain⟨cw,hw,hcw,hcl⟩:=h3.get gw
 rw[h2.lenZ,Int.toNat_natCast]
 refine⟨⟨by omega,by omega⟩,Ab (h2.isPtr hk) ?_⟩
 rw[(h2.keep hke).ldcf (f:=1) (m:=13) h3.len hk (by omega)]
 generalize l[k]=w at*
 cases w with
 | mk key w=>
 cases w with
 | mk s' l' f'=>
 unfold FdR at hw
 obtain⟨cw2,rfl,hw1⟩:=hw
 have hw2:=hw1
 unfold VlR at hw2
 obtain⟨ub',ul',uf',xl',xf',rfl,w1,w2,w3,w4,w5⟩:=hw2
 have e:(xf.drop (k*14+1)).take 13=Bh s' ub' ul' uf':=by
  rw[<-List.drop_drop]
  have:=congrArg (fun z=>z.drop 1) hcw
  simp only[List.drop_take]at this
  simpa [Bh]using this
 rw[e]
 exact Ad rfl (XB (hf key s' l' f' ub' ul' uf' gw hw1 (B7 w1.one w2.one w4.one)))
theorem Es.trans {a b c:St} (h:Es a b) (k:Es b c):Es a c:=⟨Nat.le_trans h.1 k.1,fun i hi=>(k.2 i (Nat.lt_of_lt_of_le hi h.1)).trans (h.2 i hi)⟩
theorem Ak {s:B8} {f:B8->Prop} (h:f s):Af .str (.str s) f:=h
theorem AB {k:IntKind} {n:Int} {f:Int->Prop} (h:f n):Af (.int k) (.int k n) f:=by
 simp only[Af];exact h
theorem Aq {b:Bool} {f:Bool->Prop} (h:f b):Af .bool (.bool b) f:=h
theorem Cb {α:Type} {K:α->St->Prop} {a b:α} {st:St} (h:a=b) (hk:K b st):K a st:=h▸hk
theorem Pj {r:Int} {st:St} {K:Bool->St->Prop} (h0:0<=r) (hk:K (decide (AZ r.toNat)) st):CallT PR BW [.int .i64 r] [.one (.bool)] st K:=by
 refine Gh _ st K (Aa (fun _=>Aa (fun h2=>Aa (fun h3=>?_) fun h3=>?_) fun h2=>?_) fun h1=>absurd h0 h1)
 ·have:AZ r.toNat:=by unfold AZ;omega
  simpa [this]using hk
 ·have:decide ((57343:Int)<r)=decide (AZ r.toNat):=by
   rw[Bool.eq_iff_iff];simp only[decide_eq_true_eq];unfold AZ;omega
  rw[this];exact hk
 ·have:¬AZ r.toNat:=by unfold AZ;omega
  simpa [this]using hk
theorem Ft (st:St) (n:Nat) (l:B8) (xs:List TV) (h:xs=AF l):(toBytes st (.list 1 .full n xs)).map TV.str=some (.str l):=by
 subst h;simp[toBytes,Dq]
theorem GH (n:Nat):IntKind.wrap .u8 (n:Int)=((UInt8.ofNat n).toNat:Int):=by
 unfold IntKind.wrap
 simp only[IntKind.signed,IntKind.bits]
 simp
 try omega
theorem orN (a b m:Nat) (hb:b<2^m) (h:a*2^m+b<2^63) (x y:Int) (hx:x=((a*2^m:Nat):Int)) (hy:y=(b:Int)):AJ .or .i64 x y=((a*2^m+b:Nat):Int):=by
 rw[hx,hy];exact QK a b m hb h
theorem TY {R:Int} {r:Nat} {st:St} {K:B8->Int->St->Prop} (hR:R=(r:Int)) (hr:r<2^40) (hk:K (if AZ r then FG r else []) (if AZ r then 0 else 2) st):CallT PR BB [.int .i64 R] [.one (.str),.one (.int .i64)] st K:=by
 have shr:∀m,m<=64->Int.fdiv R (2^(min m (IntKind.bits .i64)))=((r/2^m:Nat):Int):=fun m hm=>by rw[hR];exact shr_i64 r m hm
 have s6:=shr 6 (by decide)
 have s12:=shr 12 (by decide)
 have s18:=shr 18 (by decide)
 have m63:∀x:Nat,x<2^63->AJ .and .i64 (x:Int) (63:Int)=((x%64:Nat):Int):=fun x hx=>Js x 6 hx (by decide)
 have mR:AJ .and .i64 R (63:Int)=((r%64:Nat):Int):=by rw[hR];exact m63 r (by omega)
 have o128:∀x:Nat,x<64->AJ .or .i64 (128:Int) (x:Int)=((128+x:Nat):Int):=fun x hx=>orN 2 x 6 (by omega) (by omega) _ _ rfl rfl
 have hR0:0<=R:=by omega
 have hRn:R.toNat=r:=by omega
 refine Hx _ st K (Pj hR0 (Am (fun h0=>?_) fun h0=>?_))
 ·have hc:¬AZ r:=by rw[hRn]at h0;simpa using h0
  rw[if_neg hc,if_neg hc]at hk
  exact hk
 ·have hc:AZ r:=by rw[hRn]at h0;simpa using h0
  rw[if_pos hc,if_pos hc]at hk
  unfold FG at hk
  refine Aa (fun h1=>?_) fun h1=>Aa (fun h2=>?_) fun h2=>Aa (fun h3=>?_) fun h3=>?_
  ·rw[if_pos (by omega)]at hk
   exact Ad (Ft _ _ _ _ (by simp only[AF,List.map,Gd];rw[hR,GH])) hk
  ·rw[if_neg (by omega),if_pos (by omega)]at hk
   have o192:AJ .or .i64 (192:Int) ((r/2^6:Nat):Int)=((192+r/64:Nat):Int):=orN 6 _ 5 (by omega) (by omega) _ _ rfl rfl
   refine Ad (Ft _ _ _ _ ?_) hk
   simp only[AF,List.map,Gd]
   rw[show Int.toNat (6:Int)=6 from rfl,s6,o192,mR,o128 _ (by omega),GH,GH]
  ·rw[if_neg (by omega),if_neg (by omega),if_pos (by omega)]at hk
   have o224:AJ .or .i64 (224:Int) ((r/2^12:Nat):Int)=((224+r/4096:Nat):Int):=orN 14 _ 4 (by omega) (by omega) _ _ rfl rfl
   refine Ad (Ft _ _ _ _ ?_) hk
   simp only[AF,List.map,Gd]
   rw[show Int.toNat (6:Int)=6 from rfl,show Int.toNat (12:Int)=12 from rfl,s6,s12,o224,mR,m63 (r/2^6) (by omega),o128 _ (by omega),o128 _ (by omega),GH,GH,GH]
  ·rw[if_neg (by omega),if_neg (by omega),if_neg (by omega)]at hk
   have hr2:r<=1114111:=hc.1
   have o240:AJ .or .i64 (240:Int) ((r/2^18:Nat):Int)=((240+r/262144:Nat):Int):=orN 30 _ 3 (by omega) (by omega) _ _ rfl rfl
   refine Ad (Ft _ _ _ _ ?_) hk
   simp only[AF,List.map,Gd]
   rw[show Int.toNat (6:Int)=6 from rfl,show Int.toNat (12:Int)=12 from rfl,show Int.toNat (18:Int)=18 from rfl,s6,s12,s18,o240,mR,m63 (r/2^6) (by omega),m63 (r/2^12) (by omega),o128 _ (by omega),o128 _ (by omega),o128 _ (by omega),GH,GH,GH,GH]
theorem V0 {r:Nat} {st:St} {K:B8->Int->St->Prop} (hr:r<2^40) (hk:K (if AZ r then FG r else []) (if AZ r then 0 else 2) st):CallT PR BB [.int .i64 (r:Int)] [.one (.str),.one (.int .i64)] st K:=
 TY rfl hr hk
def rD (l:B8):Nat×Nat:=if ul l=0 then(0,0)else(ur l,ul l)
theorem R7 {s:B8} {I:Int} {i:Nat} {st:St} {K:Int->Int->St->Prop} (hI:I=(i:Int)) (hl:s.length<=2000000) (hi:i<=s.length) (hk:K ((rD (s.drop i)).1:Nat) ((rD (s.drop i)).2:Nat) st):CallT PR BC [.str s,.int .i64 I] [.one (.int .i64),.one (.int .i64)] st K:=by
 refine Hy s I st K (Aa (fun h=>by omega) fun _=>Aa (fun h=>?_) fun h=>⟨⟨by omega,by omega⟩,?_⟩)
 ·have:s.drop i=[]:=List.drop_of_length_le (by omega)
  have h0:rD (s.drop i)=(0,0):=by rw[this];simp[rD,ul]
  rw[h0]at hk;exact hk
 ·have hne:s.drop i≠ []:=by
   intro h0
   have:=congrArg List.length h0
   simp at this;omega
  have href:=JD (s.drop i) hne
  have hb0:(List.getD s (Int.toNat I) 0).toNat=bt (s.drop i) 0:=by rw[Nu,hI];rfl
  have hlt:=Ey (s.drop i) 0
  have hlen:(s.drop i).length=s.length-i:=by simp
  rw[hb0,Wg _ (by omega)]
  have m15:AJ .and .i64 ((bt (s.drop i) 0:Nat):Int) (15:Int)=((bt (s.drop i) 0%16:Nat):Int):=Js _ 4 (by omega) (by decide)
  have m7:AJ .and .i64 ((bt (s.drop i) 0:Nat):Int) (7:Int)=((bt (s.drop i) 0%8:Nat):Int):=Js _ 3 (by omega) (by decide)
  have m31:AJ .and .i64 ((bt (s.drop i) 0:Nat):Int) (31:Int)=((bt (s.drop i) 0%32:Nat):Int):=Js _ 5 (by omega) (by decide)
  rw[m15,m7,m31]
  refine⟨fun size r s' at' st1=>s=s'/\I=at'/\st=st1/\((rsz (bt (s.drop i) 0):Nat):Int)=size/\((rb0 (bt (s.drop i) 0):Nat):Int)=r,?_,?_⟩
  ·refine Aa (fun h1=>⟨rfl,rfl,rfl,?_,?_⟩) fun h1=>Aa (fun h2=>⟨rfl,rfl,rfl,?_,?_⟩) fun h2=>Aa (fun h3=>⟨rfl,rfl,rfl,?_,?_⟩) fun h3=>⟨rfl,rfl,rfl,?_,?_⟩
   ·unfold rsz;rw[if_pos (by omega)];rfl
   ·unfold rb0;rw[if_pos (by omega)]
   ·unfold rsz;rw[if_neg (by omega),if_pos (by omega)];rfl
   ·unfold rb0;rw[if_neg (by omega),if_pos (by omega)]
   ·unfold rsz;rw[if_neg (by omega),if_neg (by omega),if_pos (by omega)];rfl
   ·unfold rb0;rw[if_neg (by omega),if_neg (by omega),if_pos (by omega)]
   ·unfold rsz;rw[if_neg (by omega),if_neg (by omega),if_neg (by omega)];rfl
   ·unfold rb0;rw[if_neg (by omega),if_neg (by omega),if_neg (by omega)]
  ·rintro _ _ _ _ _ ⟨rfl,rfl,rfl,rfl,rfl⟩
   have hs:=Ta (bt (s.drop i) 0)
   have hr0:=rb0_lt _ hlt
   generalize hsz:rsz (bt (s.drop i) 0)=size at*
   generalize hrr:rb0 (bt (s.drop i) 0)=r0 at*
   have hra:=Ni (s.drop i) r0 hr0
   unfold R5 at href
   simp only[hsz,hrr]at href
   rw[Ah _ (by omega) (by omega)]
   refine Aa (fun h1=>?_) fun h1=>?_
   ·rw[if_pos (by omega)]at href
    have:rD (s.drop i)=(0,0):=by unfold rD;rw[<-href]
    rw[this]at hk;exact hk
   ·rw[if_neg (by omega)]at href
    refine⟨fun r j s' at' sz st2=>s=s'/\I=at'/\st=st2/\((size:Nat):Int)=sz/\∃k:Nat,j=((k+1:Nat):Int)/\k+1<=size/\r=((BS (s.drop i) r0 k:Nat):Int),fun _ j _ _ sz _=>(sz-j).toNat,⟨rfl,rfl,rfl,rfl,0,rfl,hs.1,rfl⟩,?_⟩
    rintro _ _ _ _ _ _ ⟨rfl,rfl,rfl,rfl,k,rfl,hk1,rfl⟩
    have hrk:=hra k
    have h64:64^k<=64^3:=Nat.pow_le_pow_right (by decide) (by omega)
    refine Aa (fun h2=>?_) fun h2=>?_
    ·rw[Ah _ (by omega) (by omega)]
     have hbk:(List.getD s (Int.toNat (I+((k+1:Nat):Int))) 0).toNat=bt (s.drop i) (k+1):=by
      rw[Nu,show Int.toNat (I+((k+1:Nat):Int))=i+(k+1) by omega];rfl
     have hbl:=Ey (s.drop i) (k+1)
     have hand:AJ .and .i64 (i64.wrap ((bt (s.drop i) (k+1):Nat):Int)) (63:Int)=((bt (s.drop i) (k+1)%64:Nat):Int):=by
      rw[Wg _ (by omega)];exact Js _ 6 (by omega) (by decide)
     have hmul:i64.wrap (((BS (s.drop i) r0 k:Nat):Int)*2^(min (Int.toNat (6:Int)) (IntKind.bits .i64)))=((BS (s.drop i) r0 k*2^6:Nat):Int):=by
      rw[show(2:Int)^(min (Int.toNat (6:Int)) (IntKind.bits .i64))=64 by decide,Ah _ (by omega) (by omega)];omega
     refine⟨⟨by omega,by omega⟩,?_⟩
     rw[hbk,hand,hmul,QK _ _ 6 (by omega) (by omega),Ah _ (by omega) (by omega)]
     exact⟨⟨rfl,rfl,rfl,rfl,k+1,by omega,by omega,by simp only[BS]⟩,by dsimp only;omega⟩
    ·have hks:k=size-1:=by omega
     subst hks
     refine V0 (by omega) ?_
     generalize hR:BS (s.drop i) r0 (size-1)=R at*
     refine Aa (fun h3=>?_) fun h3=>?_
     ·have hc:¬AZ R:=by intro hc;rw[if_pos hc]at h3;exact h3 rfl
      rw[if_neg (fun h=>hc h.1)]at href
      have:rD (s.drop i)=(0,0):=by unfold rD;rw[<-href]
      rw[this]at hk;exact hk
     ·have hc:AZ R:=by
       apply Decidable.byContradiction
       intro hc;rw[if_neg hc]at h3;exact h3 (by decide)
      rw[if_pos hc,Ah _ (by omega) (by omega)]
      refine⟨⟨by omega,by omega,by omega⟩,?_⟩
      rw[EN,show Int.toNat (I+(size:Int))-Int.toNat I=size by omega,show Int.toNat I=i by omega]
      refine Aa (fun h4=>?_) fun h4=>?_
      ·rw[if_neg (fun h=>h4 h.2)]at href
       have:rD (s.drop i)=(0,0):=by unfold rD;rw[<-href]
       rw[this]at hk;exact hk
      ·rw[if_pos ⟨hc,Decidable.not_not.1 h4⟩]at href
       have:rD (s.drop i)=(R,size):=by unfold rD;rw[<-href]
       rw[this]at hk;exact hk
theorem Ti {s:B8} {i:Nat} {st:St} {K:Int->Int->St->Prop} (hl:s.length<=2000000) (hi:i<=s.length) (hk:K ((rD (s.drop i)).1:Nat) ((rD (s.drop i)).2:Nat) st):CallT PR BC [.str s,.int .i64 (i:Int)] [.one (.int .i64),.one (.int .i64)] st K:=
 R7 rfl hl hi hk
theorem KN (l:B8):Bj l<=l.length:=UE _ l (Nat.le_refl _)
theorem KM:Bj []=0:=DY _ (by simp[ul])
theorem Rd.ldx {sz:Nat} {v:TV} {n:Nat} {xs:List TV} (h:Rd sz v n xs) (st:St) (i j:Nat) {x:TV} (hx:xs[i*sz+j]? =some x):Ac st [] (.t (ixT sz v i)) j=some x:=by
 obtain⟨hlt,hx⟩:=List.getElem?_eq_some_iff.1 hx
 rw[h.ld st i j hlt,hx]
theorem Rd.ldfx {sz:Nat} {v:TV} {n:Nat} {xs:List TV} (h:Rd sz v n xs) (st:St) (i j:Nat) {x:TV} (hx:xs[i*sz+j]? =some x):Ac st [] (.t (Ao (ixT sz v i) j)) 0=some x:=by
 obtain⟨hlt,hx⟩:=List.getElem?_eq_some_iff.1 hx
 rw[h.ldf st i j hlt,hx]
theorem Pk {s:B8} {st:St} {K:TV->Bool->St->Prop} (hl:s.length<=2000000)
  (hk:∀v xs st',Ar st st'->Rd 1 v (xs.length+1) (xs++[.int .i64 ((Bj s:Nat):Int)])->xs.length<=s.length->K v (decide (Bj s=s.length)) st'):CallT PR BI [.str s] [.one (.tv),.one (.bool)] st K:=by
 have hv:=KN s
 refine FT s st K ⟨fun v i s' st'=>s=s'/\Ar st st'/\∃(k:Nat) (xs:List TV),i=(k:Int)/\k<=s.length/\k+Bj (s.drop k)=Bj s/\xs.length<=k/\Own st.nt 1 st' v (xs.length+1) (xs++[.int .i64 (k:Int)]),fun _ i _ _=>(s.length-i).toNat,⟨rfl,Ar.refl _,0,[],rfl,by omega,by simp,by simp,Own.full _ _ _ _ _⟩,?_⟩
 rintro v _ _ st1 ⟨rfl,e,k,xs,rfl,h1,h2,h3,h4⟩
 refine Aa (fun g1=>?_) fun g1=>?_
 ·have hle:=Ps (s.drop k)
  rw[List.length_drop]at hle
  refine Ti hl h1 ?_
  unfold rD
  by_cases h0:ul (s.drop k)=0
  ·rw[if_pos h0]
   rw[DY _ h0]at h2
   refine Aa (fun _=>?_) fun h=>absurd rfl h
   have:=hk v xs st1 e (by rw[<-h2];exact h4.rd) (by omega)
   rw[decide_eq_false (by omega)]at this
   exact this
  ·rw[if_neg h0]
   rw[EA _ h0,List.drop_drop]at h2
   have w:i64.wrap ((k:Int)+(ul (s.drop k):Nat))=((k+ul (s.drop k):Nat):Int):=by rw[Ah _ (by omega) (by omega)];omega
   refine Aa (fun h=>by simp only at h;omega) fun _=>?_
   dsimp only
   rw[w]
   refine By e rfl h4 (by omega) (fun h=>by cases h) fun v' st' e' _ ho=>⟨⟨rfl,e',k+ul (s.drop k),xs++[.int .i64 (k:Int)],rfl,by omega,by omega,by rw[List.length_append];simp;omega,?_⟩,by omega⟩
   rw[List.length_append];exact ho
 ·rw[show s.drop k=[]from List.drop_of_length_le (by omega),KM]at h2
  have hks:k=Bj s:=by omega
  have:=hk v xs st1 e (by rw[<-hks];exact h4.rd) (by omega)
  rw[decide_eq_true (by omega)]at this
  exact this
def hdS (b:Nat):Nat:=if b<128 then 1 else if 192<=b/\b<224 then 2 else if 224<=b/\b<240 then 3 else if 240<=b/\b<248 then 4 else 0
def hdB (b:Nat):Nat:=if b<128 then b else if 192<=b/\b<224 then b%32 else if 224<=b/\b<240 then b%16 else if 240<=b/\b<248 then b%8 else 0
def wid (r:Nat):Nat:=if r<128 then 1 else if r<2048 then 2 else if r<65536 then 3 else 4
theorem Hm (a m:Nat) (ha:a<256) (hm:m<=8):AJ .and .u8 (a:Int) ((2^m-1:Nat):Int)=((a%2^m:Nat):Int):=by
 have:2^m<=2^8:=Nat.pow_le_pow_right (by decide) hm
 rw[Uu _ _ ha (by omega),Nat.and_two_pow_sub_one_eq_mod]
theorem UX {B:Int} {b:Nat} {st:St} {K:Int->Int->St->Prop} (hB:B=(b:Int)) (hb:b<256) (hk:K (hdS b:Nat) (hdB b:Nat) st):CallT PR Jj [.int .u8 B] [.one (.int .i64),.one (.int .i64)] st K:=by
 have m31:AJ .and .u8 B (31:Int)=((b%32:Nat):Int):=by rw[hB];exact Hm b 5 hb (by decide)
 have m15:AJ .and .u8 B (15:Int)=((b%16:Nat):Int):=by rw[hB];exact Hm b 4 hb (by decide)
 have m7:AJ .and .u8 B (7:Int)=((b%8:Nat):Int):=by rw[hB];exact Hm b 3 hb (by decide)
 unfold hdS hdB at hk
 have kk:∀(x y x' y':Int),x=x'->y=y'->K x' y' st->K x y st:=fun x y x' y' h1 h2 hk=>by rw[h1,h2];exact hk
 refine Rv B st K ?_
 rw[m31,m15,m7,Ah B (by omega) (by omega),Ah ((b%32:Nat):Int) (by omega) (by omega),Ah ((b%16:Nat):Int) (by omega) (by omega),Ah ((b%8:Nat):Int) (by omega) (by omega)]
 by_cases g1:b<128
 ·rw[if_pos g1,if_pos g1]at hk
  exact Aa (fun _=>kk _ _ _ _ rfl hB hk) fun h=>by omega
 rw[if_neg g1,if_neg g1]at hk
 refine Aa (fun h=>by omega) fun _=>?_
 by_cases g2:192<=b/\b<224
 ·rw[if_pos g2,if_pos g2]at hk
  exact Aa (fun _=>Aa (fun _=>hk) fun h=>by omega) fun h=>by omega
 rw[if_neg g2,if_neg g2]at hk
 by_cases g3:224<=b/\b<240
 ·rw[if_pos g3,if_pos g3]at hk
  refine Aa (fun _=>Aa (fun h=>by omega) fun _=>?_) fun h=>by omega
  exact Aa (fun _=>Aa (fun _=>hk) fun h=>by omega) fun h=>by omega
 rw[if_neg g3,if_neg g3]at hk
 by_cases g4:240<=b/\b<248
 ·rw[if_pos g4,if_pos g4]at hk
  refine Aa (fun _=>Aa (fun h=>by omega) fun _=>?_) fun h=>by omega
  refine Aa (fun _=>Aa (fun h=>by omega) fun _=>?_) fun h=>by omega
  exact Aa (fun _=>Aa (fun _=>hk) fun h=>by omega) fun h=>by omega
 rw[if_neg g4,if_neg g4]at hk
 repeat' first
  | exact hk
  | omega
  | refine Aa (fun _=>?_) fun _=>?_
theorem Px {R:Int} {r:Nat} {st:St} {K:Bool->St->Prop} (hR:R=(r:Int)) (hk:K (decide (AZ r)) st):CallT PR GN [.int .i64 R] [.one (.bool)] st K:=by
 unfold AZ at hk
 refine OY R st K (Aa (fun _=>Aa (fun h2=>Aa (fun h3=>?_) fun h3=>?_) fun h2=>?_) fun h1=>by omega)
 ·exact Cb (decide_eq_true (by omega)).symm hk
 ·exact Cb (decide_eq_decide.2 (by omega)) hk
 ·exact Cb (decide_eq_false (by omega)).symm hk
theorem Rs {R:Int} {r:Nat} {st:St} {K:Int->St->Prop} (hR:R=(r:Int)) (hk:K (wid r:Nat) st):CallT PR HP [.int .i64 R] [.one (.int .i64)] st K:=by
 unfold wid at hk
 refine Qn R st K (Aa (fun h1=>?_) fun h1=>Aa (fun h2=>?_) fun h2=>Aa (fun h3=>?_) fun h3=>?_)
 ·rw[if_pos (by omega)]at hk;exact hk
 ·rw[if_neg (by omega),if_pos (by omega)]at hk;exact hk
 ·rw[if_neg (by omega),if_neg (by omega),if_pos (by omega)]at hk;exact hk
 ·rw[if_neg (by omega),if_neg (by omega),if_neg (by omega)]at hk;exact hk
def M9 (l:B8):Prop:=hdS (bt l 0)≠0/\hdS (bt l 0)<=l.length/\(∀j,1<=j->j<hdS (bt l 0)->bt l j/64=2)/\AZ (BS l (hdB (bt l 0)) (hdS (bt l 0)-1))/\wid (BS l (hdB (bt l 0)) (hdS (bt l 0)-1))=hdS (bt l 0)
theorem WO (l:B8) (h:l≠ []) (hp:M9 l):ul l=hdS (bt l 0)/\ur l=BS l (hdB (bt l 0)) (hdS (bt l 0)-1):=by
 obtain⟨p1,p2,p3,p4,p5⟩:=hp
 have e:=JD l h
 have h0:=Ey l 0
 have e0:(l.getD 0 0).toNat=bt l 0:=rfl
 have e1:(l.getD 1 0).toNat=bt l 1:=rfl
 have e2:(l.getD 2 0).toNat=bt l 2:=rfl
 have e3:(l.getD 3 0).toNat=bt l 3:=rfl
 have fin:∀n r,rsz (bt l 0)=n->rb0 (bt l 0)=r->n=hdS (bt l 0)->r=hdB (bt l 0)->FG (BS l r (n-1))=l.take n->ul l=hdS (bt l 0)/\ur l=BS l (hdB (bt l 0)) (hdS (bt l 0)-1):=by
  intro n r hn hr hn2 hr2 henc
  unfold R5 at e
  simp only[hn,hr]at e
  rw[if_neg (by omega),if_pos ⟨by rw[hr2,hn2];exact p4,henc⟩]at e
  by_cases hz:ul l=0
  ·rw[if_pos hz]at e;simp only[Prod.mk.injEq]at e;omega
  ·rw[if_neg hz]at e;simp only[Prod.mk.injEq]at e
   exact⟨by omega,by rw[<-hr2,<-hn2];exact e.1.symm⟩
 have h1:=Ey l 1
 have h2:=Ey l 2
 have h3:=Ey l 3
 by_cases g1:bt l 0<128
 ·have hs:hdS (bt l 0)=1:=by unfold hdS;rw[if_pos g1]
  have hb:hdB (bt l 0)=bt l 0:=by unfold hdB;rw[if_pos g1]
  refine fin 1 (bt l 0) (by unfold rsz;rw[if_neg (by omega),if_neg (by omega),if_neg (by omega)]) (by unfold rb0;rw[if_neg (by omega),if_neg (by omega),if_neg (by omega)]) hs.symm hb.symm ?_
  rw[K0 l (by omega)]
  simp only[Nat.sub_self,BS]
  unfold FG
  rw[if_pos g1]
  simp only[Do,Dc,e0,and_true]
  omega
 by_cases g2:192<=bt l 0/\bt l 0<224
 ·have hs:hdS (bt l 0)=2:=by unfold hdS;rw[if_neg g1,if_pos g2]
  have hb:hdB (bt l 0)=bt l 0%32:=by unfold hdB;rw[if_neg g1,if_pos g2]
  rw[hs]at p3 p5
  rw[hb]at p5
  have q1:=p3 1 (by omega) (by omega)
  refine fin 2 (bt l 0%32) (by unfold rsz;rw[if_neg (by omega),if_neg (by omega),if_pos (by omega)]) (by unfold rb0;rw[if_neg (by omega),if_neg (by omega),if_pos (by omega)]) hs.symm hb.symm ?_
  rw[KZ l (by omega)]
  simp only[Nat.reduceSub,BS,Nat.zero_add]at p5⊢
  generalize bt l 0=b0 at*
  generalize bt l 1=b1 at*
  unfold wid at p5
  unfold FG
  by_cases k1:b0%32*64+b1%64<128
  ·rw[if_pos k1]at p5;omega
  rw[if_neg k1]at p5⊢
  by_cases k2:b0%32*64+b1%64<2048
  ·rw[if_pos k2]
   simp only[Do,Dc,e0,e1,and_true]
   omega
  ·rw[if_neg k2]at p5;split at p5<;>omega
 by_cases g3:224<=bt l 0/\bt l 0<240
 ·have hs:hdS (bt l 0)=3:=by unfold hdS;rw[if_neg g1,if_neg g2,if_pos g3]
  have hb:hdB (bt l 0)=bt l 0%16:=by unfold hdB;rw[if_neg g1,if_neg g2,if_pos g3]
  rw[hs]at p3 p5
  rw[hb]at p5
  have q1:=p3 1 (by omega) (by omega)
  have q2:=p3 2 (by omega) (by omega)
  refine fin 3 (bt l 0%16) (by unfold rsz;rw[if_neg (by omega),if_pos (by omega)]) (by unfold rb0;rw[if_neg (by omega),if_pos (by omega)]) hs.symm hb.symm ?_
  rw[HE l (by omega)]
  simp only[Nat.reduceSub,BS,Nat.zero_add,Nat.reduceAdd]at p5⊢
  generalize bt l 0=b0 at*
  generalize bt l 1=b1 at*
  generalize bt l 2=b2 at*
  generalize hr:(b0%16*64+b1%64)*64+b2%64=r at*
  unfold wid at p5
  unfold FG
  by_cases k1:r<128
  ·rw[if_pos k1]at p5;omega
  rw[if_neg k1]at p5⊢
  by_cases k2:r<2048
  ·rw[if_pos k2]at p5;omega
  rw[if_neg k2]at p5⊢
  by_cases k3:r<65536
  ·rw[if_pos k3]
   simp only[Do,Dc,e0,e1,e2,and_true]
   omega
  ·rw[if_neg k3]at p5;omega
 by_cases g4:240<=bt l 0/\bt l 0<248
 ·have hs:hdS (bt l 0)=4:=by unfold hdS;rw[if_neg g1,if_neg g2,if_neg g3,if_pos g4]
  have hb:hdB (bt l 0)=bt l 0%8:=by unfold hdB;rw[if_neg g1,if_neg g2,if_neg g3,if_pos g4]
  rw[hs]at p3 p4 p5
  rw[hb]at p4 p5
  have q1:=p3 1 (by omega) (by omega)
  have q2:=p3 2 (by omega) (by omega)
  have q3:=p3 3 (by omega) (by omega)
  refine fin 4 (bt l 0%8) (by unfold rsz;rw[if_pos (by omega)]) (by unfold rb0;rw[if_pos (by omega)]) hs.symm hb.symm ?_
  rw[LU l (by omega)]
  simp only[Nat.reduceSub,BS,Nat.zero_add,Nat.reduceAdd]at p4 p5⊢
  generalize bt l 0=b0 at*
  generalize bt l 1=b1 at*
  generalize bt l 2=b2 at*
  generalize bt l 3=b3 at*
  generalize hr:((b0%8*64+b1%64)*64+b2%64)*64+b3%64=r at*
  unfold wid at p5
  unfold FG
  by_cases k1:r<128
  ·rw[if_pos k1]at p5;omega
  rw[if_neg k1]at p5⊢
  by_cases k2:r<2048
  ·rw[if_pos k2]at p5;omega
  rw[if_neg k2]at p5⊢
  by_cases k3:r<65536
  ·rw[if_pos k3]at p5;omega
  rw[if_neg k3]
  have:=p4.1
  simp only[Do,Dc,e0,e1,e2,e3,and_true]
  omega
 ·exfalso
  unfold hdS at p1
  rw[if_neg g1,if_neg g2,if_neg g3,if_neg g4]at p1
  exact p1 rfl
theorem WP (l:B8) (h:l≠ []):ul l≠0->M9 l:=by
 intro hu
 have e:=JD l h
 rw[if_neg hu]at e
 have h0:=Ey l 0
 have e0:(l.getD 0 0).toNat=bt l 0:=rfl
 have e1:(l.getD 1 0).toNat=bt l 1:=rfl
 have e2:(l.getD 2 0).toNat=bt l 2:=rfl
 have e3:(l.getD 3 0).toNat=bt l 3:=rfl
 have h1:=Ey l 1
 have h2:=Ey l 2
 have h3:=Ey l 3
 have hc:¬l.length<rsz (bt l 0)/\AZ (BS l (rb0 (bt l 0)) (rsz (bt l 0)-1))/\FG (BS l (rb0 (bt l 0)) (rsz (bt l 0)-1))=l.take (rsz (bt l 0)):=by
  unfold R5 at e
  simp only at e
  split at e
  ·simp only[Prod.mk.injEq]at e;omega
  ·split at e
   ·rename_i a b;exact⟨a,b⟩
   ·simp only[Prod.mk.injEq]at e;omega
 obtain⟨hl,hch,henc⟩:=hc
 by_cases g4:240<=bt l 0
 ·have r4:rsz (bt l 0)=4:=by unfold rsz;rw[if_pos g4]
  have rb:rb0 (bt l 0)=bt l 0%8:=by unfold rb0;rw[if_pos g4]
  rw[r4,rb]at henc hch
  rw[r4]at hl
  rw[LU l (by omega)]at henc
  unfold M9 hdS hdB
  simp only[Nat.reduceSub,BS,Nat.zero_add,Nat.reduceAdd]at henc hch
  generalize hb0:bt l 0=b0 at*
  generalize hb1:bt l 1=b1 at*
  generalize hb2:bt l 2=b2 at*
  generalize hb3:bt l 3=b3 at*
  have hr0:∃r,r=((b0%8*64+b1%64)*64+b2%64)*64+b3%64:=⟨_,rfl⟩
  obtain⟨r,hr⟩:=hr0
  rw[<-hr]at henc hch
  have hmax:=hch.1
  unfold FG at henc
  have hw:wid r=4/\b0=240+r/262144/\b1/64=2/\b2/64=2/\b3/64=2:=by
   unfold wid
   split at henc
   ·simp at henc
   ·split at henc
    ·simp at henc
    ·split at henc
     ·simp at henc
     ·simp only[Do,Dc,e0,e1,e2,e3,and_true]at henc
      refine⟨by rw[if_neg ‹_›,if_neg ‹_›,if_neg ‹_›],by omega,by omega,by omega,by omega⟩
  rw[if_neg (show ¬b0<128 by omega),if_neg (show ¬(192<=b0/\b0<224) by omega),if_neg (show ¬(224<=b0/\b0<240) by omega),if_pos (show 240<=b0/\b0<248 by omega),if_neg (show ¬b0<128 by omega),if_neg (show ¬(192<=b0/\b0<224) by omega),if_neg (show ¬(224<=b0/\b0<240) by omega),if_pos (show 240<=b0/\b0<248 by omega)]
  simp only[Nat.reduceSub,BS,Nat.zero_add,Nat.reduceAdd,hb1,hb2,hb3]
  rw[<-hr]
  refine⟨by omega,by omega,fun j j1 j2=>?_,hch,hw.1⟩
  have:j=1∨j=2∨j=3:=by omega
  rcases this with rfl | rfl | rfl<;>omega
 by_cases g3:224<=bt l 0
 ·have r4:rsz (bt l 0)=3:=by unfold rsz;rw[if_neg g4,if_pos g3]
  have rb:rb0 (bt l 0)=bt l 0%16:=by unfold rb0;rw[if_neg g4,if_pos g3]
  rw[r4,rb]at henc hch
  rw[r4]at hl
  rw[HE l (by omega)]at henc
  unfold M9 hdS hdB
  simp only[Nat.reduceSub,BS,Nat.zero_add,Nat.reduceAdd]at henc hch
  generalize hb0:bt l 0=b0 at*
  generalize hb1:bt l 1=b1 at*
  generalize hb2:bt l 2=b2 at*
  have hr0:∃r,r=(b0%16*64+b1%64)*64+b2%64:=⟨_,rfl⟩
  obtain⟨r,hr⟩:=hr0
  rw[<-hr]at henc hch
  unfold FG at henc
  have hw:wid r=3/\b1/64=2/\b2/64=2:=by
   unfold wid
   split at henc
   ·simp at henc
   ·split at henc
    ·simp at henc
    ·split at henc
     ·simp only[Do,Dc,e0,e1,e2,and_true]at henc
      refine⟨by rw[if_neg ‹_›,if_neg ‹_›,if_pos ‹_›],by omega,by omega⟩
     ·simp at henc
  rw[if_neg (show ¬b0<128 by omega),if_neg (show ¬(192<=b0/\b0<224) by omega),if_pos (show 224<=b0/\b0<240 by omega),if_neg (show ¬b0<128 by omega),if_neg (show ¬(192<=b0/\b0<224) by omega),if_pos (show 224<=b0/\b0<240 by omega)]
  simp only[Nat.reduceSub,BS,Nat.zero_add,Nat.reduceAdd,hb1,hb2]
  rw[<-hr]
  refine⟨by omega,by omega,fun j j1 j2=>?_,hch,hw.1⟩
  have:j=1∨j=2:=by omega
  rcases this with rfl | rfl<;>omega
 by_cases g2:192<=bt l 0
 ·have r4:rsz (bt l 0)=2:=by unfold rsz;rw[if_neg g4,if_neg g3,if_pos g2]
  have rb:rb0 (bt l 0)=bt l 0%32:=by unfold rb0;rw[if_neg g4,if_neg g3,if_pos g2]
  rw[r4,rb]at henc hch
  rw[r4]at hl
  rw[KZ l (by omega)]at henc
  unfold M9 hdS hdB
  simp only[Nat.reduceSub,BS,Nat.zero_add,Nat.reduceAdd]at henc hch
  generalize hb0:bt l 0=b0 at*
  generalize hb1:bt l 1=b1 at*
  have hr0:∃r,r=b0%32*64+b1%64:=⟨_,rfl⟩
  obtain⟨r,hr⟩:=hr0
  rw[<-hr]at henc hch
  unfold FG at henc
  have hw:wid r=2/\b1/64=2:=by
   unfold wid
   split at henc
   ·simp at henc
   ·split at henc
    ·simp only[Do,Dc,e0,e1,and_true]at henc
     refine⟨by rw[if_neg ‹_›,if_pos ‹_›],by omega⟩
    ·split at henc<;>simp at henc
  rw[if_neg (show ¬b0<128 by omega),if_pos (show 192<=b0/\b0<224 by omega),if_neg (show ¬b0<128 by omega),if_pos (show 192<=b0/\b0<224 by omega)]
  simp only[Nat.reduceSub,BS,Nat.zero_add,hb1]
  rw[<-hr]
  refine⟨by omega,by omega,fun j j1 j2=>?_,hch,hw.1⟩
  have:j=1:=by omega
  subst this;omega
 ·have r4:rsz (bt l 0)=1:=by unfold rsz;rw[if_neg g4,if_neg g3,if_neg g2]
  have rb:rb0 (bt l 0)=bt l 0:=by unfold rb0;rw[if_neg g4,if_neg g3,if_neg g2]
  rw[r4,rb]at henc hch
  rw[r4]at hl
  rw[K0 l (by omega)]at henc
  unfold M9 hdS hdB
  simp only[Nat.sub_self,BS]at henc hch
  generalize hb0:bt l 0=b0 at*
  have hlt:b0<128:=by
   unfold FG at henc
   split at henc
   ·assumption
   ·split at henc
    ·simp at henc
    ·split at henc<;>simp at henc
  rw[if_pos hlt,if_pos hlt]
  simp only[Nat.sub_self,BS]
  refine⟨by omega,by omega,fun j j1 j2=>by omega,hch,by unfold wid;rw[if_pos hlt]⟩
theorem SY {s:B8} {I:Int} {i:Nat} {st:St} {K:Int->Int->St->Prop} (hI:I=(i:Int)) (hl:s.length<=2000000) (hi:i<=s.length) (hk:K ((rD (s.drop i)).1:Nat) ((rD (s.drop i)).2:Nat) st):
  CallT PR DL [.str s,.int .i64 I] [.one (.int .i64),.one (.int .i64)] st K:=by
 have no:¬M9 (s.drop i)->s.drop i≠ []->K 0 0 st:=fun h hne=>by
  have:ul (s.drop i)=0:=Decidable.byContradiction fun h0=>h (WP _ hne h0)
  unfold rD at hk
  rw[if_pos this]at hk;exact hk
 have yes:M9 (s.drop i)->s.drop i≠ []->K (BS (s.drop i) (hdB (bt (s.drop i) 0)) (hdS (bt (s.drop i) 0)-1):Nat) (hdS (bt (s.drop i) 0):Nat) st:=fun h hne=>by
  have hv:=WO _ hne h
  unfold rD at hk
  rw[if_neg (by rw[hv.1];exact h.1),hv.1,hv.2]at hk
  exact hk
 have hlen:(s.drop i).length=s.length-i:=by simp
 have hb:∀j,bt (s.drop i) j=(s.getD (i+j) 0).toNat:=Nu s i
 refine J1 s I st K (Aa (fun h=>by omega) fun _=>Aa (fun h=>?_) fun h=>⟨⟨by omega,by omega⟩,?_⟩)
 ·have:s.drop i=[]:=List.drop_of_length_le (by omega)
  have h0:rD (s.drop i)=(0,0):=by rw[this];simp[rD,ul]
  rw[h0]at hk;exact hk
 have hne:s.drop i≠ []:=by
  intro h0
  have:=congrArg List.length h0
  rw[hlen]at this;simp only[List.length_nil]at this;omega
 have hb0:(List.getD s (Int.toNat I) 0).toNat=bt (s.drop i) 0:=by rw[hb,hI];rfl
 have hlt:=Ey (s.drop i) 0
 rw[hb0]
 refine UX rfl hlt ?_
 have hsz:hdS (bt (s.drop i) 0)<=4:=by unfold hdS;(repeat' split)<;>omega
 have hbz:hdB (bt (s.drop i) 0)<256:=by unfold hdB;(repeat' split)<;>omega
 unfold M9 at no yes
 generalize hdS (bt (s.drop i) 0)=n at*
 generalize hdB (bt (s.drop i) 0)=r0 at*
 rw[Ah _ (by omega) (by omega)]
 refine Aa (fun g=>no (fun hh=>hh.1 (by omega)) hne) fun g1=>Aa (fun g=>no (fun hh=>by omega) hne) fun g2=>?_
 have hra:=Ni (s.drop i) r0 hbz
 refine⟨fun r j s' at' sz st2=>s=s'/\I=at'/\st=st2/\((n:Nat):Int)=sz/\∃k:Nat,j=((k+1:Nat):Int)/\k+1<=n/\r=((BS (s.drop i) r0 k:Nat):Int)/\∀m,1<=m->m<=k->bt (s.drop i) m/64=2,fun _ j _ _ sz _=>(sz-j).toNat,⟨rfl,rfl,rfl,rfl,0,rfl,by omega,rfl,fun m h1 h2=>by omega⟩,?_⟩
 rintro _ _ _ _ _ _ ⟨rfl,rfl,rfl,rfl,k,rfl,hk1,rfl,hall⟩
 have hrk:=hra k
 have h64:64^k<=64^3:=Nat.pow_le_pow_right (by decide) (by omega)
 refine Aa (fun h2=>?_) fun h2=>?_
 ·rw[Ah (I+((k+1:Nat):Int)) (by omega) (by omega)]
  have hbk:(List.getD s (Int.toNat (I+((k+1:Nat):Int))) 0).toNat=bt (s.drop i) (k+1):=by
   rw[hb,show Int.toNat (I+((k+1:Nat):Int))=i+(k+1) by omega]
  have hbl:=Ey (s.drop i) (k+1)
  have h192:AJ .and .u8 ((bt (s.drop i) (k+1):Nat):Int) (192:Int)=((bt (s.drop i) (k+1)&&&192:Nat):Int):=Uu _ 192 hbl (by decide)
  have hand:i64.wrap (AJ .and .u8 ((bt (s.drop i) (k+1):Nat):Int) (63:Int))=((bt (s.drop i) (k+1)%64:Nat):Int):=by
   rw[show(63:Int)=((2^6-1:Nat):Int) by decide,Hm _ 6 hbl (by decide),Ah _ (by omega) (by omega)]
  have hmul:i64.wrap (((BS (s.drop i) r0 k:Nat):Int)*2^(min (Int.toNat (6:Int)) (IntKind.bits .i64)))=((BS (s.drop i) r0 k*2^6:Nat):Int):=by
   rw[show(2:Int)^(min (Int.toNat (6:Int)) (IntKind.bits .i64))=64 by decide,Ah _ (by omega) (by omega)];omega
  have hc:(bt (s.drop i) (k+1)&&&192)=128↔bt (s.drop i) (k+1)/64=2:=by
   have:∀x,x<256->((x&&&192)=128↔x/64=2):=by decide+kernel
   exact this _ hbl
  refine⟨⟨by omega,by omega⟩,?_⟩
  rw[hbk,h192,hand,hmul,QK _ _ 6 (by omega) (by omega),Ah _ (by omega) (by omega)]
  refine Aa (fun h3=>no (fun hh=>h3 ?_) hne) fun h3=>?_
  ·have:=hh.2.2.1 (k+1) (by omega) (by omega)
   rw[hc.2 this];rfl
  ·have h4:bt (s.drop i) (k+1)/64=2:=hc.1 (by omega)
   refine⟨⟨rfl,rfl,rfl,rfl,k+1,by omega,by omega,by simp only[BS],fun m m1 m2=>?_⟩,by dsimp only;omega⟩
   by_cases hm:m=k+1
   ·rw[hm];exact h4
   ·exact hall m m1 (by omega)
 ·have hks:k=n-1:=by omega
  subst hks
  refine Px rfl (Am (fun h3=>no (fun hh=>?_) hne) fun h3=>Rs rfl (Aa (fun h4=>no (fun hh=>?_) hne) fun h4=>?_))
  ·simp only[Bool.not_eq_true',decide_eq_false_iff_not]at h3
   exact h3 hh.2.2.2.1
  ·rw[hh.2.2.2.2]at h4;exact h4 rfl
  ·simp only[Bool.not_eq_false',decide_eq_true_eq]at h3
   exact yes ⟨by omega,by omega,fun m m1 m2=>hall m m1 (by omega),h3,by omega⟩ hne
theorem uLen_ok {s:B8} {st:St} {K:Int->Int->St->Prop} (hl:s.length<=2000000) (hk:∀n:Int,K n (if Bj s=s.length then 0 else 5) st):CallT PR KB [.str s] [.one (.int .i64),.one (.int .i64)] st K:=by
 have hv:=KN s
 refine SU s st K ⟨fun n i s' st'=>s=s'/\st=st'/\∃k:Nat,i=(k:Int)/\k<=s.length/\k+Bj (s.drop k)=Bj s,fun _ i _ _=>(s.length-i).toNat,⟨rfl,rfl,0,rfl,by omega,by simp⟩,?_⟩
 rintro n _ _ _ ⟨rfl,rfl,k,rfl,h1,h2⟩
 refine Aa (fun g1=>SY rfl hl h1 ?_) fun g1=>?_
 ·have hle:=Ps (s.drop k)
  rw[List.length_drop]at hle
  unfold rD
  by_cases h0:ul (s.drop k)=0
  ·rw[if_pos h0]
   rw[DY _ h0]at h2
   have:=hk 0
   rw[if_neg (by omega)]at this
   exact Aa (fun _=>this) fun h=>absurd rfl h
  ·rw[if_neg h0]
   rw[EA _ h0,List.drop_drop]at h2
   refine Aa (fun h=>absurd h (by show ¬((ul (s.drop k):Nat):Int)=0;omega)) fun _=>?_
   have w:i64.wrap ((k:Int)+(ul (s.drop k):Nat))=((k+ul (s.drop k):Nat):Int):=by rw[Ah _ (by omega) (by omega)];omega
   dsimp only
   rw[w]
   exact⟨⟨rfl,rfl,_,rfl,by omega,by omega⟩,by omega⟩
 ·rw[show s.drop k=[]from List.drop_of_length_le (by omega),KM]at h2
  have:=hk n
  rw[if_pos (by omega)]at this
  exact this
theorem LN {s:B8} {st:St} {K:Bool->St->Prop} (hl:s.length<=2000000) (hk:K (decide (Bj s=s.length)) st):CallT PR Ef [.str s] [.one (.bool)] st K:=by
 refine Qo s st K (uLen_ok hl fun n=>?_)
 by_cases h:Bj s=s.length
 ·rw[if_pos h];rw[decide_eq_true h]at hk;exact hk
 ·rw[if_neg h];rw[decide_eq_false h]at hk;exact hk
theorem KX {l:B8} {c:UInt8} (hc:c.toNat<128) (hl:l.length<=9223372036854775807) {st:St} {K:B8->St->Prop} (hk:K (Lib.trimRightB l c) st):CallT PR Dh [.str l,.str [c]] [.one .str] st K:=by
 refine Ds (fun _ _=>by kernel_rfl) fun g w vargs s hr=>?_
 obtain⟨v,u,rfl,hv,hu⟩:=N2 hr
 rw[Bn hv,Bn hu]
 refine Calls.mono (Tryz.strings_TrimRight_one ⟨l.toArray⟩ c hc w (by simpa [ByteArray.size]using hl)) ?_
 rintro e w' ⟨rfl,rfl⟩
 exact⟨_,rfl,.str _,st,g,hk,s,Rel.str _,Ext.refl _ _⟩
theorem IY (l:B8):(Lib.trimRightB l 48).length+Bu l=l.length:=by
 unfold Lib.trimRightB Bu
 have:=congrArg List.length (List.takeWhile_append_dropWhile (p:=fun x:UInt8=>x==48) (l:=l.reverse))
 rw[List.length_append,List.length_reverse]at this
 rw[List.length_reverse];omega
theorem We {l:B8} (hl:l.length<=2000000) {st:St} {K:Int->St->Prop} (hk:K (Bu l:Nat) st):CallT PR Fb [.str l] [.one (.int .i64)] st K:=by
 refine MU _ st K (KX (by decide) (by omega) ?_)
 have:=IY l
 rw[Ah _ (by omega) (by omega),show((l.length:Nat):Int)-((Lib.trimRightB l 48).length:Int)=(Bu l:Nat) by omega]
 exact hk
theorem SZ {p:UInt8->Bool}:∀(r:B8) (n:Nat),n<=r.length->(∀j x,j<n->r[j]? =some x->p x=true)->(∀x,r[n]? =some x->p x=false)->(r.takeWhile p).length=n
 | [],n,h,_,_=>by simp at h;simp[h]
 | a::r,0,_,_,h=>by simp[List.takeWhile_cons,h a rfl]
 | a::r,n+1,h,h1,h2=>by
  rw[List.takeWhile_cons,if_pos (h1 0 a (by omega) rfl),List.length_cons,SZ r n (by simpa using h) (fun j x hj hx=>h1 (j+1) x (by omega) (by simpa using hx)) (fun x hx=>h2 x (by simpa using hx))]
theorem WC (l:B8) (n:Nat) (h:n<l.length):l.reverse[n]? =some (List.getD l (l.length-1-n) 0):=by
 rw[List.getElem?_reverse h,List.getD_eq_getElem?_getD,List.getElem?_eq_getElem (by omega),Option.getD_some]
theorem Vz {l:B8} (hl:l.length<=2000000) {st:St} {K:Int->St->Prop} (hk:K (Bu l:Nat) st):CallT PR CW [.str l] [.one (.int .i64)] st K:=by
 refine Ix l st K ⟨fun i s st'=>l=s/\st=st'/\∃n:Nat,i=n/\n<=l.length/\∀j x,j<n->l.reverse[j]? =some x->(x==48)=true,fun i _ _=>(l.length-i).toNat,⟨rfl,rfl,0,rfl,Nat.zero_le _,fun j x hj=>absurd hj (Nat.not_lt_zero _)⟩,?_⟩
 rintro _ _ _ ⟨rfl,rfl,n,rfl,hn,hall⟩
 refine Aa (fun g=>?_) fun g=>?_
 ·have hr:=WC l n (by omega)
  rw[Ah ((l.length:Int)-1) (by omega) (by omega),Ah _ (by omega) (by omega),show Int.toNat ((l.length:Int)-1-(n:Int))=l.length-1-n by omega]
  refine⟨⟨by omega,by omega⟩,?_⟩
  generalize List.getD l (l.length-1-n) 0=c at hr⊢
  refine Aa (fun g2=>?_) fun g2=>?_
  ·rw[Ah _ (by omega) (by omega)]
   refine⟨⟨rfl,rfl,n+1,by omega,by omega,fun j x hj hx=>?_⟩,by dsimp only;omega⟩
   by_cases hjn:j=n
   ·subst hjn
    rw[hr]at hx
    rw[<-Option.some.inj hx]
    simpa [<-UInt8.toNat_inj]using (by omega:c.toNat=48)
   ·exact hall j x (by omega) hx
  ·have:Bu l=n:=SZ _ n (by simpa using hn) hall fun x hx=>by
    rw[hr]at hx
    rw[<-Option.some.inj hx]
    have:c≠48:=fun e=>g2 (by rw[e];rfl)
    simpa using this
   rw[<-this];exact hk
 ·have:Bu l=n:=SZ _ n (by simpa using hn) hall fun x hx=>by
   rw[List.getElem?_eq_none (by simp;omega)]at hx;cases hx
  rw[<-this];exact hk
theorem F2 {l:B8} {n:Nat} (h:n<l.length):List.getD l n 0∈l:=by
 rw[List.getD_eq_getElem?_getD,List.getElem?_eq_getElem h,Option.getD_some]
 exact List.getElem_mem h
theorem SO {P:UInt8->Prop} {l:B8} {n:Nat} (h:n<l.length) (h1:∀c,c∈l.take n->P c) (h2:P (List.getD l n 0)):∀c,c∈l.take (n+1)->P c:=by
 intro c hc
 rw[EH _ _ 0 h]at hc
 rcases List.mem_append.1 hc with hc | hc
 ·exact h1 c hc
 ·rw[List.mem_singleton.1 hc];exact h2
theorem all_ok {l:B8} (hl:l.length<=2000000) {st:St} {K:Bool->St->Prop} (hk:K (decide (∀c,c∈l->AS c)) st):CallT PR GQ [.str l] [.one .bool] st K:=by
 refine O4 l st K ⟨fun i s m st'=>l=s/\(l.length:Int)=m/\st=st'/\∃n:Nat,i=n/\n<=l.length/\∀c,c∈l.take n->AS c,fun i _ _ _=>(l.length-i).toNat,⟨rfl,rfl,rfl,0,rfl,Nat.zero_le _,fun c hc=>by simp at hc⟩,?_⟩
 rintro _ _ _ _ ⟨rfl,rfl,rfl,n,rfl,hn,hall⟩
 refine Aa (fun g=>?_) fun g=>?_
 ·have hm:=F2 (l:=l) (n:=n) (by omega)
  have bad:¬AS (List.getD l n 0)->K false st:=fun hb=>by
   rw[decide_eq_false fun h=>hb (h _ hm)]at hk;exact hk
  rw[Int.toNat_natCast]
  refine⟨⟨by omega,by omega⟩,Aa (fun g2=>bad (by unfold AS;omega)) fun g2=>⟨⟨by omega,by omega⟩,Aa (fun g3=>bad (by unfold AS;omega)) fun g3=>?_⟩⟩
  rw[Ah _ (by omega) (by omega)]
  exact⟨⟨rfl,rfl,rfl,n+1,by omega,by omega,SO (by omega) hall (by unfold AS;omega)⟩,by dsimp only;omega⟩
 ·have:n=l.length:=by omega
  subst this
  rw[List.take_length]at hall
  rw[decide_eq_true hall]at hk;exact hk
theorem Tl {l:B8} (hl:l.length<=2000000) {st:St} {K:Bool->St->Prop} (hk:K (decide (∀c,c∈l->AS c)) st):CallT PR Cy [.str l] [.one .bool] st K:=by
 refine HA l st K ⟨fun i s st'=>l=s/\st=st'/\∃n:Nat,i=n/\n<=l.length/\∀c,c∈l.take n->AS c,fun i _ _=>(l.length-i).toNat,⟨rfl,rfl,0,rfl,Nat.zero_le _,fun c hc=>by simp at hc⟩,?_⟩
 rintro _ _ _ ⟨rfl,rfl,n,rfl,hn,hall⟩
 refine Aa (fun g=>?_) fun g=>?_
 ·have hm:=F2 (l:=l) (n:=n) (by omega)
  have bad:¬AS (List.getD l n 0)->K false st:=fun hb=>by
   rw[decide_eq_false fun h=>hb (h _ hm)]at hk;exact hk
  rw[Int.toNat_natCast]
  refine⟨⟨by omega,by omega⟩,Aa (fun g2=>bad (by unfold AS;omega)) fun g2=>⟨⟨by omega,by omega⟩,Aa (fun g3=>bad (by unfold AS;omega)) fun g3=>?_⟩⟩
  rw[Ah _ (by omega) (by omega)]
  exact⟨⟨rfl,rfl,n+1,by omega,by omega,SO (by omega) hall (by unfold AS;omega)⟩,by dsimp only;omega⟩
 ·have:n=l.length:=by omega
  subst this
  rw[List.take_length]at hall
  rw[decide_eq_true hall]at hk;exact hk
def Ju (l:B8):Prop:=l.length<=600/\(∀c,c∈l->AS c)/\(l≠ []->l.getD 0 0≠48)
instance (l:B8):Decidable (Ju l):=inferInstanceAs (Decidable (_/\_/\(_->_)))
theorem ne48 (c:UInt8):decide ((c.toNat:Int)≠48)=decide (c≠48):=by
 have:((c.toNat:Int)≠48)↔c≠48:=by rw[ne_eq,ne_eq,<-UInt8.toNat_inj];exact not_congr ⟨fun h=>Int.ofNat.inj h,fun h=>by rw[h];rfl⟩
 exact decide_eq_decide.2 this
theorem P9 {l:B8} (hl:l.length<=2000000) {st:St} {K:Bool->St->Prop} (hk:K (decide (Ju l)) st):CallT PR DQ [.str l] [.one .bool] st K:=by
 have no:¬Ju l->K false st:=fun h=>by rw[decide_eq_false h]at hk;exact hk
 refine MV l st K (Aa (fun g=>all_ok hl (Aa (fun g2=>Aa (fun g3=>?_) fun g3=>⟨⟨by omega,by have:=List.length_pos_iff.2 g3;omega⟩,?_⟩) fun g2=>no fun h=>g2 h.2.1)) fun g=>no fun h=>g (by have:=h.1;omega))
 ·rw[decide_eq_true (show Ju l from⟨by omega,g2,fun h=>absurd g3 h⟩)]at hk;exact hk
 ·rw[ne48]
  refine Cb (decide_eq_decide.2 ?_) hk
  exact⟨fun h=>⟨by omega,g2,fun _=>h⟩,fun h=>h.2.2 g3⟩
theorem rNum_ok {l:B8} (hl:l.length<=2000000) {st:St} {K:Bool->St->Prop} (hk:K (decide (Ju l)) st):CallT PR CX [.str l] [.one .bool] st K:=by
 have no:¬Ju l->K false st:=fun h=>by rw[decide_eq_false h]at hk;exact hk
 refine Iy l st K (Aa (fun g=>Tl hl (Aa (fun g2=>Aa (fun g3=>?_) fun g3=>⟨⟨by omega,by omega⟩,?_⟩) fun g2=>no fun h=>g2 h.2.1)) fun g=>no fun h=>g (by have:=h.1;omega))
 ·rw[decide_eq_true (show Ju l from⟨by omega,g2,fun h=>absurd (List.eq_nil_of_length_eq_zero (by omega)) h⟩)]at hk;exact hk
 ·rw[ne48]
  refine Cb (decide_eq_decide.2 ?_) hk
  exact⟨fun h=>⟨by omega,g2,fun _=>h⟩,fun h=>h.2.2 fun e=>g3 (by rw[e];rfl)⟩
theorem Hg {neg:Bool} {l:B8} {ex:Int} (h:l≠ []):Fq neg l ex↔Ju l/\l.length<=120/\Bu l=0/\ -400<=ex/\ex<=400:=by
 unfold Fq Ju
 constructor
 ·intro g
  obtain⟨g1,g2,g3,g4,g5,g6⟩:=g.2 h
  exact⟨⟨by omega,g2,fun _=>g3⟩,g1,g4,g5,g6⟩
 ·rintro⟨⟨g1,g2,g3⟩,g4,g5,g6,g7⟩
  exact⟨fun e=>absurd e h,fun _=>⟨g4,g2,g3 h,g5,g6,g7⟩⟩
theorem P8 {neg:Bool} {ex:Int}:Fq neg [] ex↔neg=false/\ex=0:=by
 unfold Fq
 exact⟨fun g=>g.1 rfl,fun g=>⟨fun _=>g,fun h=>absurd rfl h⟩⟩
theorem MJ {neg:Bool} {l:B8} {ex:Int} (hl:l.length<=2000000) {st:St} {K:Bool->St->Prop} (hk:K (decide (Fq neg l ex)) st):CallT PR Dv [.agg [.bool neg,.str l,.int .i64 ex]] [.one .bool] st K:=by
 have no:¬Fq neg l ex->K false st:=fun h=>by rw[decide_eq_false h]at hk;exact hk
 refine LI _ _ _ st K (Aa (fun g=>?_) fun g=>?_)
 ·subst g
  refine Cb ?_ hk
  rw[Bool.eq_iff_iff]
  simp[P8]
 ·refine P9 hl (Aa (fun g2=>Aa (fun g3=>We hl (Aa (fun g4=>Aa (fun g5=>?_) fun g5=>?_) fun g4=>?_)) fun g3=>?_) fun g2=>?_)
  ·exact Cb (decide_eq_decide.2 (by rw[Hg g];exact⟨fun h=>⟨g2,by omega,by omega,g5,h⟩,fun h=>h.2.2.2.2⟩)) hk
  ·exact no fun h=>g5 ((Hg g).1 h).2.2.2.1
  ·exact no fun h=>g4 (by have:=((Hg g).1 h).2.2.1;omega)
  ·exact no fun h=>g3 (by have:=((Hg g).1 h).2.1;omega)
  ·exact no fun h=>g2 ((Hg g).1 h).1
theorem KY {k d n z:Int} {st:St} {K:Bool->St->Prop} (hk:K (decide (Fj k d n z)) st):CallT PR CB [.agg [.int .i64 k,.int .i64 d,.int .i64 n,.int .i64 z]] [.one .bool] st K:=by
 refine MR _ _ _ _ st K ?_
 repeat' first
  | exact Cb (Eq.symm (decide_eq_false (by unfold Fj;omega))) hk
  | exact Cb (Eq.symm (decide_eq_true (by unfold Fj;omega))) hk
  | exact Cb (decide_eq_decide.2 (by unfold Fj;omega)) hk
  | refine Aa (fun _=>?_) fun _=>?_
theorem orc {c p r:Bool} {K:Bool->Prop} {R1 R2:Prop} (h1:K r->R1) (h2:K r->R2) (hk:K ((c&&p) || r)):BIf c (BIf p (K true) R1) R2:=by
 cases c<;>cases p<;>simp only[Bool.true_and,Bool.false_and,Bool.true_or,Bool.false_or]at hk<;>first | exact h1 hk | exact h2 hk | exact hk
theorem orn {c p r s:Bool} {K:Bool->Prop} {R1 R2:Prop} (hs:s=true) (h1:K r->R1) (h2:K r->R2) (hk:K ((c&&p) || r)):BIf c (need s (BIf p (K true) R1)) R2:=by
 subst hs;exact orc h1 h2 hk
theorem ore {c p s:Bool} {K:Bool->Prop} (hs:s=true) (hk:K (c&&p)):BIf c (need s (K p)) (K false):=by
 subst hs;cases c<;>exact hk
def exB (s:Sc) (l:List Vl) (f:List Fd):Bool:=
 (decide (s.kind≠1)&&s.b) || ((decide (s.kind≠2)&& !((s.neg==false)&&(decide (s.dg=[])&&(decide (s.ex=0)&&true)))) || ((decide (s.kind≠3)&& !(decide (s.tk=0)&&(decide (s.td=0)&&(decide (s.tn=0)&&(decide (s.tz=0)&&true))))) ||
  ((decide (s.kind≠4)&&decide (s.text≠ [])) || ((decide (s.kind≠5)&&decide (0<(s.bytes.length:Int))) || ((decide (s.kind≠6)&&decide (0<(l.length:Int))) || (decide (s.kind≠7)&&decide (0<(f.length:Int))))))))
theorem W8 {α:Type} {l:List α}:¬0<(l.length:Int)↔l=[]:=by
 rw[<-List.length_eq_zero_iff];omega
theorem P4 {s:Sc} {l:List Vl} {f:List Fd} (h0:0<=s.kind) (h7:s.kind<=7):exB s l f=false↔OR s l f:=by
 unfold exB
 simp only[Bool.or_eq_false_iff,Bool.and_eq_false_imp,decide_eq_true_eq,Bool.not_eq_false',Bool.and_eq_true,beq_iff_eq,decide_eq_false_iff_not,W8,ne_eq,Decidable.not_not,and_true]
 constructor
 ·rintro⟨a,b,c,d,e,f,g⟩;exact⟨h0,h7,a,b,c,d,e,f,g⟩
 ·rintro⟨_,_,a,b,c,d,e,f,g⟩;exact⟨a,b,c,d,e,f,g⟩
theorem exB_eq {s:Sc} {l:List Vl} {f:List Fd} (h0:0<=s.kind) (h7:s.kind<=7):exB s l f= !decide (OR s l f):=by
 cases h:exB s l f with
 | false=>rw[decide_eq_true ((P4 h0 h7).1 h)];rfl
 | true=>rw[decide_eq_false fun o=>by rw[(P4 h0 h7).2 o]at h;cases h];rfl
theorem Xu {s:Sc} {l:List Vl} {f:List Fd} {ub ul uf:TV} {st:St} {K:Bool->St->Prop} (h1:isSl ub=true) (h2:isSl ul=true) (h3:isSl uf=true) (l1:lenS ub=s.bytes.length) (l2:lenS ul=l.length) (l3:lenS uf=f.length) (hk:K (exB s l f) st):
  CallT PR F3 [.agg (Bh s ub ul uf)] [.one .bool] st K:=by
 unfold exB at hk
 refine NA _ _ _ _ _ _ _ _ _ _ _ _ _ st K ?_
 rw[l1,l2,l3]
 revert hk
 repeat' first
  | (refine fun hk=>ore (K:=fun b=>K b st) h3 hk)
  | (refine fun hk=>orn (K:=fun b=>K b st) h1 ?_ ?_ hk)
  | (refine fun hk=>orn (K:=fun b=>K b st) h2 ?_ ?_ hk)
  | (refine fun hk=>orc (K:=fun b=>K b st) ?_ ?_ hk)
theorem key_ok {s:B8} (hl:s.length<=2000000) {st:St} {K:Int->St->Prop} (hk:K ((if U8 s then(if 1024<s.length then 10 else 0)else 5:Nat):Int) st):CallT PR HO [.str s] [.one (.int .i64)] st K:=by
 refine Ql _ st K (LN hl (Am (fun g=>?_) fun g=>?_))
 ·have hu:¬U8 s:=by unfold U8;simpa using g
  rw[if_neg hu]at hk;exact hk
 ·have hu:U8 s:=by unfold U8;simpa using g
  rw[if_pos hu]at hk
  refine Aa (fun g2=>?_) fun g2=>?_
  ·have h3:1024<s.length:=by omega
   rw[if_pos h3]at hk;exact hk
  ·have h3:¬1024<s.length:=by omega
   rw[if_neg h3]at hk;exact hk
theorem Ou (k k':B8) (v:TV):∀es:List (B8×TV),Dm k (JV k' v es)=if k=k' then some v else Dm k es
 | []=>by
  simp only[JV,Dm]
  by_cases h:k=k'<;>simp[h]
 | (k1,v1)::es=>by
  simp only[JV]
  by_cases h1:k'=k1
  ·simp only[h1,decide_true,Dm]
   by_cases h:k=k1<;>simp[h]
  ·simp only[h1,decide_false,Dm,Ou k k' v es]
   by_cases h:k=k1
   ·simp[h,Ne.symm h1]
   ·simp[h]
def XS (es:List (B8×TV)) (ns:List B8):Prop:=∀t,Dm t es=if t∈ns then some (.bool true)else none
theorem XS.add {es:List (B8×TV)} {ns:List B8} (h:XS es ns) (t:B8):XS (JV t (.bool true) es) (t::ns):=by
 intro k
 rw[Ou]
 by_cases hk:k=t
 ·simp[hk]
 ·rw[if_neg hk,h k];simp[hk]
theorem TJ (seen:List B8) (d:Fd) (r:List Fd):Hc seen (d::r)=if U8 d.key then(if 1024<d.key.length then 10 else if d.key∈seen then 8 else Hc (d.key::seen) r)else 5:=rfl
theorem OA {α:Type} {l:List α} {k:Nat} {x:α} (h:l[k]? =some x):l.drop k=x::l.drop (k+1):=by
 obtain⟨q1,q2⟩:=List.getElem?_eq_some_iff.1 h
 rw[List.drop_eq_getElem_cons q1,q2]
theorem key_len {f:List Fd} {d:Fd} (h:d∈f):d.key.length<=FC f:=by
 have:=Xn h
 cases d;unfold Fd.sz at this;simp only[Fd.key];omega
theorem keys_ok {st0 st:St} {uf:TV} {xf:List TV} {f:List Fd} (hke:Es st0 st) (h4:SlR st0 14 uf f.length xf) (h5:FsR st0 f xf) (hN:FC f<=2000000) {K:Int->St->Prop} (hk:∀st',Ar st st'->K (Hc [] f:Nat) st'):
  CallT PR GL [uf] [.one (.int .i64)] st K:=by
 have hfl:=Jg f
 refine OV _ st K (Ab h4.isSl ⟨fun i m u n st'=> .map st.nb=m/\uf=u/\(f.length:Int)=n/\∃(k:Nat) (ns:List B8) (es:List (B8×TV)),i=k/\k<=f.length/\Ar st st'/\st.nb<st'.nb/\st'.box st.nb= .map es/\XS es ns/\Hc [] f=Hc ns (f.drop k),fun i _ _ _ _=>(f.length-i).toNat,
  ⟨rfl,rfl,by rw[h4.lenS],0,[],[],rfl,Nat.zero_le _,(Ar.refl st).push _ _,by simp[St.push],by simp[St.push],fun t=>by simp[Dm],rfl⟩,?_⟩)
 rintro _ _ _ _ st1 ⟨rfl,rfl,rfl,k,ns,es,rfl,hkf,e1,hb,hm,hns,hE⟩
 refine Aa (fun g=>?_) fun g=>?_
 ·refine el14 (hke.trans e1.keeps) h4 h5 rfl (by omega) fun key s' l' f' ub1 ul1 uf1 gw hw on=>Ab on ?_
  have hmem:=TC gw
  have hkl:=key_len hmem
  rw[OA gw,TJ]at hE
  change Hc [] f=if U8 key then(if 1024<key.length then 10 else if key∈ns then 8 else Hc (key::ns) (f.drop (k+1)))else 5 at hE
  change key.length<=_ at hkl
  refine key_ok (by omega) ?_
  by_cases g1:U8 key
  case neg=>
   rw[if_neg g1]at hE⊢
   refine Aa (fun _=>?_) fun h=>absurd (by decide) h
   rw[<-hE];exact hk st1 e1
  rw[if_pos g1]at hE⊢
  by_cases g2:1024<key.length
  ·rw[if_pos g2]at hE⊢
   refine Aa (fun _=>?_) fun h=>absurd (by decide) h
   rw[<-hE];exact hk st1 e1
  rw[if_neg g2]at hE⊢
  refine Aa (fun h=>absurd rfl h) fun _=>Ad (x:=es) (by simp only[Je,hm]) ?_
  rw[hns key]
  by_cases g3:key∈ns
  ·rw[if_pos g3]at hE⊢
   refine Aq (Am (fun _=>?_) fun h=>by cases h)
   have:=hk st1 e1
   rw[hE]at this;exact this
  ·rw[if_neg g3]at hE⊢
   refine Aq (Am (fun h=>by cases h) fun _=>⟨es,hm,?_⟩)
   rw[Ah _ (by omega) (by omega)]
   exact⟨⟨rfl,rfl,rfl,k+1,key::ns,_,by omega,by omega,StX.ext e1 (StX.put (S:=fun i=>i=st.nb) rfl _) (fun i hi=>by rw[hi];exact Nat.le_refl _),hb,by simp[St.put],hns.add key,hE⟩,by dsimp only;omega⟩
 ·have:k=f.length:=by omega
  subst this
  rw[List.drop_length]at hE
  have:=hk st1 e1
  rw[hE]at this;exact this
theorem Es.stx {b:Nat} {a c d:St} (h:Es a c) (k:StX (fun i=>i=b) c d) (hb:a.nb<=b):Es a d:=
 ⟨Nat.le_trans h.1 k.nb,fun i hi=>(k.box i (Nat.lt_of_lt_of_le hi h.1) (by omega)).trans (h.2 i hi)⟩
theorem chkV_eq {d n:Nat} {s:Sc} {l:List Vl} {f:List Fd} (h1:¬48<d) (h2:¬65536<=n) (h3:F1 s l f=0):Eu d n (.mk s l f)=G5 (Hi (d+1) (n+1) l) fun m=>Hj (d+1) m f:=by
 unfold Eu;rw[if_neg h1,if_neg h2,if_neg (fun h=>h h3)]
theorem SG {d n:Nat} {s:Sc} {l:List Vl} {f:List Fd} (h1:¬48<d) (h2:¬65536<=n) (h3:F1 s l f≠0):Eu d n (.mk s l f)=(n,F1 s l f):=by
 unfold Eu;rw[if_neg h1,if_neg h2,if_pos h3]
theorem Ue (d n:Nat) (v:Vl) (r:List Vl):Hi d n (v::r)=G5 (Eu d n v) fun m=>Hi d m r:=by rw[Hi]
theorem Uf (d n:Nat) (k:B8) (v:Vl) (r:List Fd):Hj d n (.mk k v::r)=G5 (Eu d n v) fun m=>Hj d m r:=by rw[Hj,chkD]
theorem ST:U8 []:=by unfold U8;rw[KM];rfl
theorem XH:∀(N:Nat) (v:Vl),v.sz<=N->N<=2000000->∀{st0 st:St} {cs:List TV} {b d n:Nat} {D:Int} {K:Int->St->Prop},VlR st0 v cs->Es st0 st->st0.nb<=b->b<st.nb->st.box b= .cells [.int .i64 (n:Nat)]->n<=65536->D=(d:Int)->d<=100->
  (∀st' (m:Nat),StX (fun i=>i=b) st st'->st'.box b= .cells [.int .i64 (m:Nat)]->((Eu d n v).2=0->m=(Eu d n v).1/\m<=65536)->K ((Eu d n v).2:Nat) st')->CallT PR Dg [.agg cs,.int .i64 D,.box b 0] [.one (.int .i64)] st K:=by
 intro N
 induction N with
 | zero=>intro v h;have:=v.sz_pos;omega
 | succ N ih=>
 intro v hN hN2 st0 st cs b d n D K h hke hb0 hb hbx hn hD hd hk
 subst hD
 cases v with
 | mk s l f=>
 have hsz:(Vl.mk s l f).sz=1+s.bytes.length+s.text.length+s.dg.length+Ea l+FC f:=by unfold Vl.sz;rfl
 have hll:=KJ l
 have hfl:=Jg f
 unfold VlR at h
 obtain⟨ub,ul,uf,xl,xf,rfl,h1,h2,h3,h4,h5⟩:=h
 refine NB _ _ _ _ _ _ _ _ _ _ _ _ _ (d:Int) b st K ?_
 refine Ad (x:= .int .i64 (n:Nat)) (by simp[Ac,hbx]) (AB ?_)
 rw[Ah _ (by omega) (by omega)]
 refine⟨_,hbx,by simp,?_⟩
 obtain⟨st1,hst1⟩:∃st1,st1=st.put b (.cells (setAll [.int .i64 (n:Nat)] 0 [.int .i64 ((n:Int)+1)])):=⟨_,rfl⟩
 rw[<-hst1]
 have e1:StX (fun i=>i=b) st st1:=by rw[hst1];exact StX.put (S:=fun i=>i=b) rfl _
 have hb1:st1.box b= .cells [.int .i64 ((n+1:Nat):Int)]:=by rw[hst1];simp[St.put,setAll]
 have hke1:=hke.stx e1 hb0
 refine⟨fun dp p kd bo ng dg ex tk td tn tz tx u1 u2 u3 st'=>dp=d/\p= .box b 0/\ul=u2/\uf=u3/\¬48<d/\¬65536<=n/\F1 s l f=Hc [] f/\StX (fun i=>i=b) st st'/\st'.box b= .cells [.int .i64 ((n+1:Nat):Int)],?_,?_⟩
 ·--the value but for the values in it
  refine Aa (fun g=>?_) fun g=>?_
  ·have hc:Eu d n (.mk s l f)=(n,9):=by unfold Eu;rw[if_pos (by omega)]
   have:=hk st1 (n+1) e1 hb1 (by rw[hc];intro h;cases h)
   rw[hc]at this;exact this
  refine Ad (x:= .int .i64 ((n+1:Nat):Int)) (by simp[Ac,hb1]) (AB (Aa (fun g2=>?_) fun g2=>?_))
  ·have hc:Eu d n (.mk s l f)=(n,10):=by unfold Eu;rw[if_neg (by omega),if_pos (by omega)]
   have:=hk st1 (n+1) e1 hb1 (by rw[hc];intro h;cases h)
   rw[hc]at this;exact this
  have hg1:¬48<d:=by omega
  have hg2:¬65536<=n:=by omega
  --an error of the value itself
  have err:∀st',StX (fun i=>i=b) st st'->st'.box b= .cells [.int .i64 ((n+1:Nat):Int)]->F1 s l f≠0->K ((F1 s l f:Nat):Int) st':=fun st' e' hb' ho=>by
   have hc:=SG hg1 hg2 ho
   have:=hk st' (n+1) e' hb' (by rw[hc];intro h;exact absurd h ho)
   rw[hc]at this;exact this
  refine⟨fun q dp p kd bo ng dg ex tk td tn tz tx u1 u2 u3 st'=>dp=d/\p= .box b 0/\kd=s.kind/\ng=s.neg/\dg=s.dg/\ex=s.ex/\tk=s.tk/\td=s.td/\tn=s.tn/\tz=s.tz/\tx=s.text/\ub=u1/\ul=u2/\uf=u3/\q= !decide (OR s l f)/\st1=st',?_,?_⟩
  ·refine Aa (fun g3=>?_) fun g3=>Aa (fun g4=>?_) fun g4=>?_
   ·exact⟨rfl,rfl,rfl,rfl,rfl,rfl,rfl,rfl,rfl,rfl,rfl,rfl,rfl,rfl,by rw[decide_eq_false fun o=>by have:=o.k0;omega];rfl,rfl⟩
   ·exact⟨rfl,rfl,rfl,rfl,rfl,rfl,rfl,rfl,rfl,rfl,rfl,rfl,rfl,rfl,by rw[decide_eq_false fun o=>by have:=o.k7;omega];rfl,rfl⟩
   ·exact Xu (s:=s) (l:=l) (f:=f) h1.isSl h2.isSl h4.isSl h1.lenS h2.lenS h4.lenS ⟨rfl,rfl,rfl,rfl,rfl,rfl,rfl,rfl,rfl,rfl,rfl,rfl,rfl,rfl,exB_eq (by omega) (by omega),rfl⟩
  rintro q _ _ _ bo _ _ _ _ _ _ _ _ _ _ _ _ ⟨rfl,rfl,rfl,rfl,rfl,rfl,rfl,rfl,rfl,rfl,rfl,rfl,rfl,rfl,rfl,rfl⟩
  by_cases ho:OR s l f
  case neg=>
   refine Am (fun _=>?_) fun h=>by rw[decide_eq_false ho]at h;cases h
   have h6:F1 s l f=6:=by unfold F1;rw[if_neg ho]
   have:=err st1 e1 hb1 (by rw[h6];decide)
   rw[h6]at this;exact this
  refine Am (fun h=>by rw[decide_eq_true ho]at h;cases h) fun _=>?_
  have hdec:s.kind≠2->Fq s.neg s.dg s.ex:=fun hk2=>by
   obtain⟨q1,q2,q3⟩:=ho.nu hk2
   rw[q2];exact P8.2 ⟨q1,q3⟩
  refine⟨fun q dp p kd bo ng dg ex tk td tn tz tx u1 u2 u3 st'=>dp=d/\p= .box b 0/\kd=s.kind/\tx=s.text/\ub=u1/\ul=u2/\uf=u3/\q= !(decide (Fq s.neg s.dg s.ex)&&decide (s.kind=3->Fj s.tk s.td s.tn s.tz))/\st1=st',?_,?_⟩
  ·refine Aa (fun g3=>MJ (by omega) ?_) fun g3=>Aa (fun g4=>KY ?_) fun g4=>?_
   ·by_cases hq:Fq s.neg s.dg s.ex
    ·refine Am (fun h=>by rw[decide_eq_true hq]at h;cases h) fun _=>Aa (fun g4=>by omega) fun g4=>?_
     exact⟨rfl,rfl,rfl,rfl,rfl,rfl,rfl,by rw[decide_eq_true hq,decide_eq_true fun h=>absurd h g4];rfl,rfl⟩
    ·refine Am (fun h=>?_) fun h=>by rw[decide_eq_false hq]at h;cases h
     exact⟨rfl,rfl,rfl,rfl,rfl,rfl,rfl,by rw[decide_eq_false hq];rfl,rfl⟩
   ·exact⟨rfl,rfl,rfl,rfl,rfl,rfl,rfl,by rw[decide_eq_true (hdec g3),decide_eq_decide.2 (show(s.kind=3->Fj s.tk s.td s.tn s.tz)↔_ from⟨fun h=>h g4,fun h _=>h⟩)];rfl,rfl⟩
   ·exact⟨rfl,rfl,rfl,rfl,rfl,rfl,rfl,by rw[decide_eq_true (hdec g3),decide_eq_true fun h=>absurd h g4];rfl,rfl⟩
  rintro q _ _ _ bo2 ng2 dg2 ex2 tk2 td2 tn2 tz2 _ _ _ _ _ ⟨rfl,rfl,rfl,rfl,rfl,rfl,rfl,rfl,rfl⟩
  by_cases hq:Fq s.neg s.dg s.ex
  case neg=>
   refine Am (fun _=>?_) fun h=>by rw[decide_eq_false hq]at h;cases h
   have h6:F1 s l f=2:=by unfold F1;rw[if_pos ho,if_neg hq]
   have:=err st1 e1 hb1 (by rw[h6];decide)
   rw[h6]at this;exact this
  by_cases hq2:s.kind=3->Fj s.tk s.td s.tn s.tz
  case neg=>
   refine Am (fun _=>?_) fun h=>by rw[decide_eq_true hq,decide_eq_false hq2]at h;cases h
   have h6:F1 s l f=2:=by unfold F1;rw[if_pos ho,if_pos hq,if_neg hq2]
   have:=err st1 e1 hb1 (by rw[h6];decide)
   rw[h6]at this;exact this
  refine Am (fun h=>by rw[decide_eq_true hq,decide_eq_true hq2]at h;cases h) fun _=>?_
  --sizes
  have sizes:U8 s.text->∀(X:Prop),(F1 s l f=Hc [] f->X)->BIf (decide (65536<(s.text.length:Int))) (K 10 st1) (need (isSl ub) (BIf (decide (65536<(lenS ub:Int))) (K 10 st1) X)):=fun hu X hX=>by
   have h6:F1 s l f=if 65536<s.text.length then 10 else if 65536<s.bytes.length then 10 else Hc [] f:=by unfold F1;rw[if_pos ho,if_pos hq,if_pos hq2,if_pos hu]
   refine Aa (fun g5=>?_) fun g5=>Ab h1.isSl (Aa (fun g6=>?_) fun g6=>?_)
   ·rw[if_pos (by omega)]at h6
    have:=err st1 e1 hb1 (by rw[h6];decide)
    rw[h6]at this;exact this
   ·rw[h1.lenS]at g6
    rw[if_neg (by omega),if_pos (by omega)]at h6
    have:=err st1 e1 hb1 (by rw[h6];decide)
    rw[h6]at this;exact this
   ·rw[h1.lenS]at g6
    rw[if_neg (by omega),if_neg (by omega)]at h6
    exact hX h6
  refine Aa (fun g3=>LN (by omega) (Am (fun g4=>?_) fun g4=>?_)) fun g3=>?_
  ·have hu:¬U8 s.text:=by unfold U8;simpa using g4
   have h6:F1 s l f=5:=by unfold F1;rw[if_pos ho,if_pos hq,if_pos hq2,if_neg hu]
   have:=err st1 e1 hb1 (by rw[h6];decide)
   rw[h6]at this;exact this
  ·exact sizes (by unfold U8;simpa using g4) _ fun h6=>⟨rfl,rfl,rfl,rfl,hg1,hg2,h6,e1,hb1⟩
  ·exact sizes (by rw[ho.tx g3];exact ST) _ fun h6=>⟨rfl,rfl,rfl,rfl,hg1,hg2,h6,e1,hb1⟩
 ·rintro _ _ kd bo ng dg ex tk td tn tz tx u1 _ _ st2 ⟨rfl,rfl,rfl,rfl,hg1,hg2,h6,e2,hb2⟩
  have hke2:=hke.stx e2 hb0
  refine keys_ok hke2 h4 h5 (by omega) fun st3 e3=>?_
  have e23:=e2.trans (StX.of e3)
  have hb3:st3.box b= .cells [.int .i64 ((n+1:Nat):Int)]:=(e3.box b (by have:=e2.nb;omega)).trans hb2
  refine Aa (fun g=>?_) fun g=>Ab h2.isSl ?_
  ·have ho:F1 s l f≠0:=by rw[h6];omega
   have hc:=SG hg1 hg2 ho
   have:=hk st3 (n+1) e23 hb3 (by rw[hc];intro h;exact absurd h ho)
   rw[hc,h6]at this;exact this
  have hone:F1 s l f=0:=by rw[h6];omega
  have hC:=chkV_eq hg1 hg2 hone
  refine⟨fun i dp p u m kd bo ng dg ex tk td tn tz tx u1 u2 u3 st'=>dp=d/\p= .box b 0/\ul=u/\m=(l.length:Int)/\uf=u3/\∃k c:Nat,i=k/\k<=l.length/\c<=65536/\StX (fun i=>i=b) st st'/\st'.box b= .cells [.int .i64 ((c:Nat):Int)]/\Hi (d+1) (n+1) l=Hi (d+1) c (l.drop k),
   fun i _ _ _ _ _ _ _ _ _ _ _ _ _ _ _ _ _ _=>(l.length-i).toNat,⟨rfl,rfl,rfl,by rw[h2.lenS],rfl,0,n+1,rfl,Nat.zero_le _,by omega,e23,hb3,rfl⟩,?_⟩
  rintro _ _ _ _ _ kd bo ng dg ex tk td tn tz tx u1 u2 _ st4 ⟨rfl,rfl,rfl,rfl,rfl,k,c,rfl,hkl,hc,e4,hb4,hE⟩
  have hke4:=hke.stx e4 hb0
  refine Aa (fun g3=>?_) fun g3=>?_
  ·refine el13 hke4 h2 h3 rfl (by omega) fun s' l' f' ub1 ul1 uf1 gw hw on=>Ab on ?_
   have hwsz:=KK gw
   rw[OA gw,Ue]at hE
   rw[Ah _ (by omega) (by omega)]
   refine ih _ (by omega) (by omega) (d:=d+1) hw hke4 hb0 (by have:=e4.nb;omega) hb4 hc (by omega) (by omega) fun st5 m e5 hb5 hm=>?_
   have e45:=e4.trans e5
   refine Aa (fun g4=>?_) fun g4=>?_
   ·have hne:(Eu (d+1) c (.mk s' l' f')).2≠0:=by omega
    rw[LS hne]at hE
    have hc2:Eu d n (.mk s l f)=Eu (d+1) c (.mk s' l' f'):=by rw[hC,hE,LS hne]
    have:=hk st5 m e45 hb5 (by rw[hc2];intro h;exact absurd h hne)
    rw[hc2]at this;exact this
   ·have hz:(Eu (d+1) c (.mk s' l' f')).2=0:=by omega
    rw[NN hz]at hE
    obtain⟨hm1,hm2⟩:=hm hz
    rw[Ah _ (by omega) (by omega)]
    exact⟨⟨rfl,rfl,rfl,rfl,rfl,k+1,m,by omega,by omega,hm2,e45,hb5,by rw[hE,hm1]⟩,by dsimp only;omega⟩
  ·have hkk:k=l.length:=by omega
   subst hkk
   rw[List.drop_length]at hE
   have hE2:Hi (d+1) (n+1) l=(c,0):=by rw[hE,Hi]
   rw[hE2,NN rfl]at hC
   refine Ab h4.isSl ?_
   refine⟨fun i dp p u m st'=>dp=d/\p= .box b 0/\uf=u/\m=(f.length:Int)/\∃k c2:Nat,i=k/\k<=f.length/\c2<=65536/\StX (fun i=>i=b) st st'/\st'.box b= .cells [.int .i64 ((c2:Nat):Int)]/\Hj (d+1) c f=Hj (d+1) c2 (f.drop k),
    fun i _ _ _ _ _=>(f.length-i).toNat,⟨rfl,rfl,rfl,by rw[h4.lenS],0,c,rfl,Nat.zero_le _,hc,e4,hb4,rfl⟩,?_⟩
   rintro _ _ _ _ _ st5 ⟨rfl,rfl,rfl,rfl,k,c2,rfl,hkf,hc2,e5,hb5,hF⟩
   have hke5:=hke.stx e5 hb0
   refine Aa (fun g4=>?_) fun g4=>?_
   ·refine el14 hke5 h4 h5 rfl (by omega) fun key s' l' f' ub1 ul1 uf1 gw hw on=>Ab on ?_
    have hwsz:=Jh gw
    have hwk:(Fd.mk key (.mk s' l' f')).sz=key.length+(Vl.mk s' l' f').sz:=by unfold Fd.sz;rfl
    rw[OA gw,Uf]at hF
    rw[Ah _ (by omega) (by omega)]
    refine ih (.mk s' l' f') (by omega) (by omega) (d:=d+1) hw hke5 hb0 (by have:=e5.nb;omega) hb5 hc2 (by omega) (by omega) fun st6 m e6 hb6 hm=>?_
    have e56:=e5.trans e6
    refine Aa (fun g5=>?_) fun g5=>?_
    ·have hne:(Eu (d+1) c2 (.mk s' l' f')).2≠0:=by omega
     rw[LS hne]at hF
     have hc3:Eu d n (.mk s l f)=Eu (d+1) c2 (.mk s' l' f'):=by rw[hC];exact hF
     have:=hk st6 m e56 hb6 (by rw[hc3];intro h;exact absurd h hne)
     rw[hc3]at this;exact this
    ·have hz:(Eu (d+1) c2 (.mk s' l' f')).2=0:=by omega
     rw[NN hz]at hF
     obtain⟨hm1,hm2⟩:=hm hz
     rw[Ah _ (by omega) (by omega)]
     exact⟨⟨rfl,rfl,rfl,rfl,k+1,m,by omega,by omega,hm2,e56,hb6,by rw[hF,hm1]⟩,by dsimp only;omega⟩
   ·have hkk:k=f.length:=by omega
    subst hkk
    rw[List.drop_length]at hF
    have hF2:Eu d n (.mk s l f)=(c2,0):=by rw[hC];show Hj (d+1) c f=_;rw[hF,Hj]
    have:=hk st5 c2 e5 hb5 (by rw[hF2];exact fun _=>⟨rfl,hc2⟩)
    rw[hF2]at this;exact this
theorem XT {v:Vl} (hN:v.sz<=2000000) {st0 st:St} {cs:List TV} {K:Int->St->Prop} (h:VlR st0 v cs) (hke:Es st0 st) (hk:∀st',Ar st st'->K (Jp v:Nat) st'):
  CallT PR F4 [.agg cs] [.one (.int .i64)] st K:=by
 have h0:=h
 cases v with
 | mk s l f=>
 unfold VlR at h0
 obtain⟨ub,ul,uf,xl,xf,rfl,_⟩:=h0
 have he:Ar st (st.push (.cells [.int .i64 0]) (some 3)):=(Ar.refl st).push _ _
 refine NC _ _ _ _ _ _ _ _ _ _ _ _ _ st K ⟨[.int .i64 0],by simp[St.push],by simp,?_⟩
 obtain⟨st1,hst1⟩:∃st1,st1=(st.push (.cells [.int .i64 0]) (some 3)).put st.nb (.cells (setAll [.int .i64 0] 0 [.int .i64 0])):=⟨_,rfl⟩
 rw[<-hst1]
 have e1:Ar st st1:=by rw[hst1];exact StX.ext he (StX.put (S:=fun i=>i=st.nb) rfl _) (fun i hi=>by rw[hi];exact Nat.le_refl _)
 have hb1:st1.box st.nb= .cells [.int .i64 ((0:Nat):Int)]:=by rw[hst1];simp[St.put,setAll]
 exact XH 2000000 _ hN (by omega) (d:=1) h (hke.trans e1.keeps) hke.1 (by rw[hst1];simp[St.put,St.push]) hb1 (by omega) rfl (by omega) fun st2 m e2 hb2 _=>hk st2 (StX.ext e1 e2 (fun i hi=>by rw[hi];exact Nat.le_refl _))
theorem VsR.snoc {st:St} {v:Vl} {cv:List TV}:∀{l:List Vl} {xs:List TV},VsR st l xs->VlR st v cv->VsR st (l++[v]) (xs++cv)
 | [],xs,h,hv=>by
  unfold VsR at h
  subst h
  show VsR st [v] _
  unfold VsR
  exact⟨cv,[],by simp,hv,by unfold VsR;rfl⟩
 | w::r,xs,h,hv=>by
  unfold VsR at h
  obtain⟨a,b,rfl,h1,h2⟩:=h
  show VsR st (w::(r++[v])) _
  unfold VsR
  exact⟨a,b++cv,by simp,h1,VsR.snoc h2 hv⟩
theorem VlR.cells {st:St} {s:Sc} {l:List Vl} {f:List Fd} {cs:List TV} (h:VlR st (.mk s l f) cs):∃ub ul uf xl xf,cs=Bh s ub ul uf/\SlR st 1 ub s.bytes.length (AF s.bytes)/\SlR st 13 ul l.length xl/\VsR st l xl/\SlR st 14 uf f.length xf/\FsR st f xf:=by
 unfold VlR at h
 obtain⟨ub,ul,uf,xl,xf,rfl,h⟩:=h
 exact⟨ub,ul,uf,xl,xf,rfl,h⟩
theorem szs (s:Sc) (l:List Vl) (f:List Fd):(Vl.mk s l f).sz=1+s.bytes.length+s.text.length+s.dg.length+Ea l+FC f:=by unfold Vl.sz;rfl
theorem szd (k:B8) (v:Vl):(Fd.mk k v).sz=k.length+v.sz:=by unfold Fd.sz;rfl
theorem UU {st0 st:St} {uf:TV} {xf:List TV} {l:List Fd} (hke:Es st0 st) (h2:SlR st0 14 uf l.length xf) (h3:FsR st0 l xf) {k:Nat} {d:Fd} (hd:l[k]? =some d):Ac st [] (.t (Ao (ixT 14 uf k) 0)) 0=some (.str d.key):=by
 obtain⟨hk,_⟩:=List.getElem?_eq_some_iff.1 hd
 obtain⟨cw,hw,hcw,hcl⟩:=h3.get hd
 have hx:xf[k*14+0]? =some (.str d.key):=by
  cases d with
  | mk key w=>
   unfold FdR at hw
   obtain⟨cs,rfl,_⟩:=hw
   have:=congrArg (fun z=>z[0]?) hcw
   simpa [Fd.key]using this
 exact(h2.keep hke).ldf h3.len hk (by omega) hx
theorem SI {v:Vl} (h:Jp v=0):MQ v:=Q6 v 1 0 h
def Aw (s:B8):B8:=s.takeWhile fun c=>decide (AS c)
def FX (n:Nat) (l:B8):Nat:=l.foldl (fun n c=>10*n+(c.toNat-48)) n
def Bq (l:B8):Nat:=FX 0 l
def A1 (l:B8):B8:=l.dropWhile (·==48)
def dcN (neg:Bool) (s:B8) (ex:Int):Bool×B8×Int×Int:=
 if s=[]then(false,[],0,0)else if 400<ex+Bu s∨ex+Bu s< -400∨120<s.length-Bu s then(false,[],0,2)else(neg,s.take (s.length-Bu s),ex+Bu s,0)
def Kk:Bool×B8×Int×Int:=(false,[],0,3)
def dcX (neg:Bool) (all:B8) (ex:Int) (less:Bool) (r:B8):Bool×B8×Int×Int:=
 if r=[]∨(Aw r).length≠r.length then Kk else dcN neg (A1 all) (if less then ex-Bq r else ex+Bq r)
def dcE (neg:Bool) (all:B8) (ex:Int) (r:B8):Bool×B8×Int×Int:=
 if r=[]then dcN neg (A1 all) ex else if r.getD 0 0=101∨r.getD 0 0=69 then
  (if (r.drop 1).getD 0 0=45 then dcX neg all ex true (r.drop 2)else if (r.drop 1).getD 0 0=43 then dcX neg all ex false (r.drop 2)else dcX neg all ex false (r.drop 1))
 else Kk
def dcF (neg:Bool) (a:B8) (r:B8):Bool×B8×Int×Int:=
 if r.getD 0 0=46 then(if Aw (r.drop 1)=[]then Kk else dcE neg (a++Aw (r.drop 1)) (-(Aw (r.drop 1)).length) (r.drop (1+(Aw (r.drop 1)).length)))
 else dcE neg a 0 r
def dcQ (neg:Bool) (s:B8):Bool×B8×Int×Int:=
 if Aw s=[]∨(1<(Aw s).length/\s.getD 0 0=48)then Kk else dcF neg (Aw s) (s.drop (Aw s).length)
def dcP (s:B8):Bool×B8×Int×Int:=if s.getD 0 0=45 then dcQ true (s.drop 1)else dcQ false s
theorem V1 {a r:B8} (ha:∀c,c∈a->AS c) (hr:¬AS (r.getD 0 0)):Aw (a++r)=a:=by
 induction a with
 | nil=>
  cases r with
  | nil=>rfl
  | cons c r=>exact List.takeWhile_cons_of_neg (by simpa using hr)
 | cons c a ih=>
  unfold Aw at ih⊢
  rw[List.cons_append,List.takeWhile_cons_of_pos (by simpa using ha c List.mem_cons_self),ih fun x hx=>ha x (List.mem_cons_of_mem _ hx)]
theorem F8 (s:B8):∀c,c∈Aw s->AS c:=by
 induction s with
 | nil=>intro c h;cases h
 | cons a s ih=>
  intro c h
  unfold Aw at h ih
  rw[List.takeWhile_cons]at h
  split at h
  ·rename_i hd
   rcases List.mem_cons.1 h with rfl | h
   ·exact of_decide_eq_true hd
   ·exact ih c h
  ·cases h
theorem Ck (s:B8):(Aw s).length<=s.length:=(List.takeWhile_sublist _).length_le
theorem Mq (s:B8):s=Aw s++s.drop (Aw s).length:=by
 induction s with
 | nil=>rfl
 | cons a s ih=>
  unfold Aw at ih⊢
  rw[List.takeWhile_cons]
  split
  ·rw[List.length_cons,List.drop_succ_cons,List.cons_append,<-ih]
  ·rfl
theorem DU (s:B8):s.take (Aw s).length=Aw s:=by
 have h:=Mq s
 have:s.take (Aw s).length=(Aw s++s.drop (Aw s).length).take (Aw s).length:=by rw[<-h]
 rw[this,List.take_left]
theorem Nx (l:B8):Bu l<=l.length:=by
 unfold Bu
 have:=(List.takeWhile_sublist (l:=l.reverse) (fun x:UInt8=>x==48)).length_le
 rwa [List.length_reverse]at this
theorem I0 {c:UInt8} {l:B8} (h:c≠48):A1 (c::l)=c::l:=by
 unfold A1;rw[List.dropWhile_cons,if_neg (by simpa using h)]
theorem Ku (k:Nat) (l:B8):A1 (List.replicate k 48++l)=A1 l:=by
 induction k with
 | zero=>rfl
 | succ k ih=>rw[List.replicate_succ,List.cons_append];unfold A1 at ih⊢;rw[List.dropWhile_cons,if_pos (by simp),ih]
theorem NK (n:Nat) (a b:B8):FX n (a++b)=FX (FX n a) b:=by
 unfold FX;rw[List.foldl_append]
def b0 (s:B8) (k:Nat):UInt8:=s.getD k 0
def dv (s:B8) (k:Nat):Nat:=(b0 s k).toNat-48
def d2 (s:B8) (k:Nat):Nat:=dv s k*10+dv s (k+1)
def dd (s:B8) (k:Nat):Prop:=AS (b0 s k)/\AS (b0 s (k+1))
instance (s:B8) (k:Nat):Decidable (dd s k):=inferInstanceAs (Decidable (_/\_))
def Ji (s:B8):Prop:=dd s 0/\b0 s 2=58/\dd s 3/\b0 s 5=58/\dd s 6
instance (s:B8):Decidable (Ji s):=inferInstanceAs (Decidable (_/\_/\_/\_/\_))
def DK (s:B8):Prop:=dd s 0/\dd s 2/\b0 s 4=45/\dd s 5/\b0 s 7=45/\dd s 8
instance (s:B8):Decidable (DK s):=inferInstanceAs (Decidable (_/\_/\_/\_/\_/\_))
def Ln (f:B8):Nat:=Bq (f++List.replicate (9-f.length) 48)
def Gb (s:B8):Option (Nat×Nat×Nat×Nat×B8):=
 if Ji s then
  (if b0 s 8=46 then(if Aw (s.drop 9)=[]∨9<(Aw (s.drop 9)).length then none else some (d2 s 0,d2 s 3,d2 s 6,Ln (Aw (s.drop 9)),s.drop (9+(Aw (s.drop 9)).length)))
  else some (d2 s 0,d2 s 3,d2 s 6,0,s.drop 8))
 else none
def Na (s:B8):Option (Bool×Nat×Nat):=
 if s=[90]∨s=[122]then some (false,0,0)else if s.length=6/\(b0 s 0=43∨b0 s 0=45)/\dd s 1/\b0 s 3=58/\dd s 4 then some (decide (b0 s 0=45),d2 s 1,d2 s 4)else none
def okD (y m d:Nat):Prop:=1<=y/\y<=9999/\1<=m/\m<=12/\1<=d/\d<=JX y m
instance (y m d:Nat):Decidable (okD y m d):=inferInstanceAs (Decidable (_/\_/\_/\_/\_/\_))
def JY (y m d:Nat):Nat:=yrS y+EW y m+(d-1)
abbrev TmR:=Int×Int×Int×Int×Int
def H4:TmR:=(0,0,0,0,3)
def H3:TmR:=(0,0,0,0,2)
def okC (h m s:Nat):Prop:=h<=23/\m<=59/\s<=59
instance (h m s:Nat):Decidable (okC h m s):=inferInstanceAs (Decidable (_/\_/\_))
def Fn (h m s f:Nat):Nat:=((h*60+m)*60+s)*1000000000+f
def tmO (y mo d h m s f:Nat) (r:B8):TmR:=
 if r=[]then(if okD y mo d/\okC h m s then(3,(JY y mo d:Nat),(Fn h m s f:Nat),0,0)else H3)
 else match Na r with
  | none=>H4
  | some (ls,oh,om)=>if okD y mo d/\okC h m s/\oh<=23/\om<=59 then(4,(JY y mo d:Nat),(Fn h m s f:Nat),if ls then-((oh*60+om:Nat):Int)else((oh*60+om:Nat):Int),0)else H3
def tmD (y mo d:Nat) (r:B8):TmR:=
 if r=[]then(if okD y mo d then(1,(JY y mo d:Nat),0,0,0)else H3)
 else if b0 r 0=84∨b0 r 0=116∨b0 r 0=32 then
  match Gb (r.drop 1)with
  | none=>H4
  | some (h,m,s,f,r')=>tmO y mo d h m s f r'
 else H4
def tmP (s:B8):TmR:=
 if DK s then tmD (d2 s 0*100+d2 s 2) (d2 s 5) (d2 s 8) (s.drop 10)
 else match Gb s with
  | none=>H4
  | some (h,m,sc,f,r)=>if r=[]then(if okC h m sc then(2,0,(Fn h m sc f:Nat),0,0)else H3)else H4
theorem KW:∀(l:B8) (a:Nat),FX a l=a*10^l.length+FX 0 l
 | [],a=>by simp[FX]
 | c::l,a=>by
  have h1:=KW l (10*a+(c.toNat-48))
  have h2:=KW l (10*0+(c.toNat-48))
  show FX (10*a+(c.toNat-48)) l=_+FX (10*0+(c.toNat-48)) l
  rw[h1,h2,List.length_cons,Nat.pow_succ,Nat.add_mul,Nat.add_mul]
  have:10*a*10^l.length=a*(10^l.length*10):=by rw[Nat.mul_comm 10 a,Nat.mul_assoc,Nat.mul_comm 10]
  omega
theorem Pp:∀(w n:Nat),n<10^w->Bq (Ca w n)=n
 | 0,n,h=>by rw[show n=0 by simpa using h];rfl
 | w+1,n,h=>by
  have:=Pp w (n/10) (by rw[Nat.div_lt_iff_lt_mul (by omega)];rw[Nat.pow_succ]at h;exact h)
  unfold Bq at this⊢
  rw[Ca,NK,this]
  unfold FX
  rw[List.foldl_cons,List.foldl_nil,U5 _ (by omega)];omega
theorem XD:∀(l:B8),∃k,l=Lt l++List.replicate k 48:=by
 intro l
 have:∀n (l:B8),l.length=n->∃k,l=Lt l++List.replicate k 48:=by
  intro n
  induction n with
  | zero=>intro l h;rw[List.eq_nil_of_length_eq_zero h];exact⟨0,rfl⟩
  | succ n ih=>
   intro l h
   have hne:l≠ []:=fun e=>by rw[e]at h;simp at h
   have hl:=List.dropLast_concat_getLast hne
   generalize l.dropLast=a at hl
   generalize l.getLast hne=c at hl
   rw[<-hl,Qa]
   rw[<-hl,List.length_append]at h
   by_cases h0:c=48
   ·obtain⟨k,hk⟩:=ih a (by simpa using h)
    rw[if_pos h0]
    refine⟨k+1,?_⟩
    rw[List.replicate_succ',<-List.append_assoc,<-hk,h0]
   ·rw[if_neg h0];exact⟨0,by simp⟩
 exact this _ l rfl
theorem VV {n:Nat} (h:n<1000000000):Ln (Lt (Ca 9 n))=n:=by
 obtain⟨k,hk⟩:=XD (Ca 9 n)
 have hl:=congrArg List.length hk
 rw[Bw,List.length_append,List.length_replicate]at hl
 unfold Ln
 rw[show 9-(Lt (Ca 9 n)).length=k by omega,<-hk]
 exact Pp 9 n h
theorem cut0_ne {n:Nat} (h:n<1000000000) (h0:n≠0):Lt (Ca 9 n)≠ []:=by
 intro e
 have:=VV h
 rw[e]at this
 exact h0 (this.symm.trans (by decide))
theorem HL (y m:Nat):JX y m<=31:=by
 have ite:∀{p:Prop} [Decidable p] {a b:Nat},a<=31->b<=31->(if p then a else b)<=31:=fun h1 h2=>by split<;>assumption
 unfold JX
 exact ite (ite (by omega) (by omega)) (ite (by omega) (by omega))
theorem datT_eq {n y m d:Nat} (h:HZ n y m d):OG n=Ca 4 y++45::(Ca 2 m++45::Ca 2 d):=by unfold OG;rw[V4 h]
theorem Jy:∀(l:B8),(∀c,c∈l->AS c)->Bq l<10^l.length
 | [],_=>by decide
 | c::l,h=>by
  have ih:=Jy l fun x hx=>h x (.tail _ hx)
  have hc:=(h c (.head _)).2
  unfold Bq at ih⊢
  rw[show FX 0 (c::l)=FX (c.toNat-48) l by simp[FX],KW,List.length_cons,Nat.pow_succ]
  have:(c.toNat-48)*10^l.length<=9*10^l.length:=Nat.mul_le_mul_right _ (by omega)
  omega
theorem valN_ge {c:UInt8} {l:B8} (hc:AS c) (h0:c≠48):10^l.length<=Bq (c::l):=by
 unfold Bq
 rw[show FX 0 (c::l)=FX (c.toNat-48) l by simp[FX],KW]
 have h1:=hc.1
 have h2:c.toNat≠48:=fun e=>h0 (UInt8.toNat_inj.1 (by simpa using e))
 have:1*10^l.length<=(c.toNat-48)*10^l.length:=Nat.mul_le_mul_right _ (by omega)
 omega
theorem FV:∀l:B8,Bq (A1 l)=Bq l
 | []=>rfl
 | c::l=>by
  by_cases h:c=48
  ·subst h
   have:=Ku 1 l
   rw[show List.replicate 1 (48:UInt8)++l=48::l from rfl]at this
   rw[this,FV l]
   unfold Bq
   rw[show FX 0 (48::l)=FX 0 l by simp[FX]]
  ·rw[I0 h]
theorem HF (l:B8):∀c,c∈A1 l->c∈l:=fun c h=>(List.dropWhile_sublist (l:=l) (fun x:UInt8=>x==48)).subset h
theorem ED (l:B8):(A1 l).length<=l.length:=(List.dropWhile_sublist (l:=l) (fun x:UInt8=>x==48)).length_le
theorem IZ (l:B8):(A1 l).getD 0 0≠48:=by
 induction l with
 | nil=>decide
 | cons c l ih=>
  by_cases h:c=48
  ·subst h
   have:=Ku 1 l
   rw[show List.replicate 1 (48:UInt8)++l=48::l from rfl]at this
   rw[this];exact ih
  ·rw[I0 h];exact h
theorem Ry {l:B8} {k:Nat} (h:∀c,c∈l->AS c) (hk:k<(A1 l).length):10^k<=Bq l:=by
 rw[<-FV l]
 have h0:=IZ l
 have hs:=HF l
 generalize A1 l=m at*
 cases m with
 | nil=>exact absurd hk (Nat.not_lt_zero _)
 | cons c m=>
  have:=valN_ge (l:=m) (h c (hs c (.head _))) h0
  rw[List.length_cons]at hk
  exact Nat.le_trans (Nat.pow_le_pow_right (by decide) (by omega)) this
theorem Pq {l:B8} {k:Nat} (h:∀c,c∈l->AS c) (hk:(A1 l).length<=k):Bq l<10^k:=by
 rw[<-FV l]
 exact Nat.lt_of_lt_of_le (Jy _ fun c hc=>h c (HF l c hc)) (Nat.pow_le_pow_right (by decide) hk)
theorem Vd {neg:Bool} {s:B8} {ex n m:Int} (hl:s.length<=100000000) (h1: -100000000<=ex) (h2:ex<=100000000) (hn:1000000000<=n) (hm:1000000000<=m) (less:Bool):
  dcN neg s (if less then ex-n else ex+n)=dcN neg s (if less then ex-m else ex+m):=by
 unfold dcN
 have hz:=Nx s
 by_cases h:s=[]
 ·rw[if_pos h,if_pos h]
 ·rw[if_neg h,if_neg h]
  cases less with
  | true=>
   simp only[if_true]
   rw[if_pos (by omega),if_pos (by omega)]
  | false=>
   simp only[Bool.false_eq_true,if_false]
   rw[if_pos (by omega),if_pos (by omega)]
theorem Vc (neg:Bool) (s:B8) (ex:Int):(dcN neg s ex).2.1.length<=s.length:=by
 unfold dcN
 split
 ·simp
 split
 ·simp
 ·show(s.take _).length<=_
  rw[List.length_take];omega
theorem Q0 (neg:Bool) (all:B8) (ex:Int) (less:Bool) (r:B8):(dcX neg all ex less r).2.1.length<=all.length:=by
 unfold dcX
 split
 ·simp[Kk]
 ·exact Nat.le_trans (Vc _ _ _) (ED all)
theorem Vf (neg:Bool) (all:B8) (ex:Int) (r:B8):(dcE neg all ex r).2.1.length<=all.length:=by
 unfold dcE
 split
 ·exact Nat.le_trans (Vc _ _ _) (ED all)
 split
 ·split
  ·exact Q0 _ _ _ _ _
  split
  ·exact Q0 _ _ _ _ _
  ·exact Q0 _ _ _ _ _
 ·simp[Kk]
theorem dcF_len (neg:Bool) (a r:B8):(dcF neg a r).2.1.length<=a.length+r.length:=by
 unfold dcF
 split
 ·split
  ·simp[Kk]
  ·refine Nat.le_trans (Vf _ _ _ _) ?_
   rw[List.length_append]
   have:=Ck (r.drop 1)
   rw[List.length_drop]at this
   omega
 ·exact Nat.le_trans (Vf _ _ _ _) (Nat.le_add_right _ _)
theorem Va (neg:Bool) (s:B8):(dcQ neg s).2.1.length<=s.length:=by
 unfold dcQ
 split
 ·simp[Kk]
 ·refine Nat.le_trans (dcF_len _ _ _) ?_
  have:=Ck s
  rw[List.length_drop];omega
theorem dcP_len (s:B8):(dcP s).2.1.length<=s.length:=by
 unfold dcP
 split
 ·refine Nat.le_trans (Va _ _) ?_
  rw[List.length_drop];omega
 ·exact Va _ _
end Go.TVF
