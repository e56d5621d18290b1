/- What the laws below rest on: a framework for Go programs, and contracts of the functions that they reach. -/
import Derived.Test.YtpfhcnpnngjpnaaGreatDoorGfC
set_option maxRecDepth 20000
set_option linter.unusedVariables false
set_option linter.unusedSimpArgs false
namespace Go.TVF
open Go.IntKind(i64 u8)
open Go Go.Proofs
theorem HT (r:Nat) (f:Nat) (st:St) (K:St->Prop) (h:CallT PR Ay [(.box r 0),.int .i64 2] [.one (.int .i64)] st (fun (n1:Int) j=>stB j (.box f 3) [.int .i64 n1] (fun l=>CallT PR AE [(.box r 0),.str DL] [.one (.int .u8)] l (fun (n2:Int) e=>CallT PR Ay [(.box r 0),.int .i64 2] [.one (.int .i64)] e (fun (n3:Int) i=>stB i (.box f 4) [.int .i64 n3] (fun g=>CallT PR AE [(.box r 0),.str DL] [.one (.int .u8)] g (fun (n4:Int) m=>CallT PR Ay [(.box r 0),.int .i64 2] [.one (.int .i64)] m (fun (n5:Int) k=>stB k (.box f 5) [.int .i64 n5] (fun a=>Ae (Ad a [] (.t (.box r 0)) 0) (fun (x1:TV)=>Af .str x1 (fun (s1:B8)=>BId (s1≠([]:B8)) (Ae (Ad a [] (.t (.box r 0)) 0) (fun (x2:TV)=>Af .str x2 (fun (s2:B8)=>((0<=(0:Int)/\(0:Int)<(s2.length:Int))/\BId (((List.getD s2 (Int.toNat (0:Int)) 0).toNat:Int)=(46:Int)) (Ae (Ad a [] (.t (.box r 0)) 0) (fun (x3:TV)=>Af .str x3 (fun (s3:B8)=>((0<=(1:Int)/\(1:Int)<=(s3.length:Int))/\stB a (.box r 0) [(.str (List.drop (Int.toNat (1:Int)) s3))] (fun d=>CallT PR Cf [(.box r 0)] [.one (.int .i64)] d (fun (n6:Int) c=>stB c (.box f 6) [.int .i64 n6] (fun b=>K b))))))) (K a))))) (K a)))))))))))):CallT PR Bp [(.box r 0),(.box f 0)] [] st K:=
 Ag (cfg:=⟨[],[],[]⟩) (h:= .none) mixed (fun _ _=>Tryz.call242 _ _) Tryz.func242 (by kernel_rfl) (by kernel_rfl) h
theorem IJ (r:Nat) (f:Nat) (st:St) (K:St->Prop) (h:CallT PR Ay [(.box r 0),.int .i64 4] [.one (.int .i64)] st (fun (n1:Int) d=>stB d (.box f 0) [.int .i64 n1] (fun i=>CallT PR AE [(.box r 0),.str Fc] [.one (.int .u8)] i (fun (n2:Int) a=>CallT PR Ay [(.box r 0),.int .i64 2] [.one (.int .i64)] a (fun (n3:Int) c=>stB c (.box f 1) [.int .i64 n3] (fun b=>CallT PR AE [(.box r 0),.str Fc] [.one (.int .u8)] b (fun (n4:Int) j=>CallT PR Ay [(.box r 0),.int .i64 2] [.one (.int .i64)] j (fun (n5:Int) e=>stB e (.box f 2) [.int .i64 n5] (fun g=>K g))))))))):CallT PR Cb [(.box r 0),(.box f 0)] [] st K:=
 Ag (cfg:=⟨[],[],[]⟩) (h:= .none) mixed (fun _ _=>Tryz.call243 _ _) Tryz.func243 (by kernel_rfl) (by kernel_rfl) h
theorem IX (r:Nat) (of:B8) (st:St) (K:Int->St->Prop) (h:Ae (Ad st [] (.t (.box r 0)) 0) (fun (x1:TV)=>Af .str x1 (fun (s1:B8)=>BId (s1≠([]:B8)) (∃(I1:Int->TV->B8->Int->St->Prop) (M1:Int->TV->B8->Int->St->Nat),(I1 0 ((.box r 0)) of ((of.length:Int)) st)/\∀b a c e d,I1 b a c e d->(BId (b<e) (need (isPtr a) (need (isPtr a) (Ae (Ad d [] (.t (Ao a 0)) 0) (fun (x2:TV)=>Af .str x2 (fun (s2:B8)=>((0<=(0:Int)/\(0:Int)<(s2.length:Int))/\((0<=b/\b<(c.length:Int))/\BId (((List.getD s2 (Int.toNat (0:Int)) 0).toNat:Int)=((List.getD c b.toNat 0).toNat:Int)) (need (isPtr a) (need (isPtr a) (Ae (Ad d [] (.t (Ao a 0)) 0) (fun (x3:TV)=>Af .str x3 (fun (s3:B8)=>((0<=(1:Int)/\(1:Int)<=(s3.length:Int))/\need (isPtr a) (need (isPtr a) (stB d (Ao a 0) [(.str (List.drop (Int.toNat (1:Int)) s3))] (fun i=>((0<=b/\b<(c.length:Int))/\K (((List.getD c b.toNat 0).toNat:Int)) i)))))))))) ((I1 ((i64.wrap (b+(1:Int)))) a c e d/\M1 ((i64.wrap (b+(1:Int)))) a c e d<M1 b a c e d))))))))) (need (isPtr a) (need (isPtr a) (stB d (Ao a 1) [.bool true] (fun f=>K 0 f)))))) (stB st (.box r 1) [.bool true] (fun g=>K 0 g))))):CallT PR AE [(.box r 0),.str of] [.one (.int .u8)] st K:=
 Ag (cfg:=⟨[],[],[]⟩) (h:=(.seq .none (.seq (.seq .none (.cond (.seq .none (.block (.loop ⟨[(13,.int .i64),(0,.tv),(1,.str),(12,.int .i64)],[],[],[]⟩ .none))) .none)) .none))) mixed (fun _ _=>Tryz.call244 _ _) Tryz.func244 (by kernel_rfl) (by kernel_rfl) h
theorem Hn (r:Nat) (f:Nat) (st:St) (K:St->Prop) (h:CallT PR AE [(.box r 0),.str str31] [.one (.int .u8)] st (fun (n1:Int) k=>stB k (.box f 7) [.int .u8 n1] (fun a=>Ae (Ad a [] (.t (.box f 7)) 0) (fun (x1:TV)=>Af (.int .u8) x1 (fun (n2:Int)=>BId (n2=43) (CallT PR Ay [(.box r 0),.int .i64 2] [.one (.int .i64)] a (fun (n3:Int) g=>stB g (.box f 8) [.int .i64 n3] (fun j=>CallT PR AE [(.box r 0),.str DL] [.one (.int .u8)] j (fun (n4:Int) i=>CallT PR Ay [(.box r 0),.int .i64 2] [.one (.int .i64)] i (fun (n5:Int) n=>stB n (.box f 9) [.int .i64 n5] (fun l=>K l)))))) (Ae (Ad a [] (.t (.box f 7)) 0) (fun (x2:TV)=>Af (.int .u8) x2 (fun (n6:Int)=>BId (n6=45) (CallT PR Ay [(.box r 0),.int .i64 2] [.one (.int .i64)] a (fun (n7:Int) m=>stB m (.box f 8) [.int .i64 n7] (fun e=>CallT PR AE [(.box r 0),.str DL] [.one (.int .u8)] e (fun (n8:Int) c=>CallT PR Ay [(.box r 0),.int .i64 2] [.one (.int .i64)] c (fun (n9:Int) b=>stB b (.box f 9) [.int .i64 n9] (fun d=>K d)))))) (K a))))))))):CallT PR BP [(.box r 0),(.box f 0)] [] st K:=
 Ag (cfg:=⟨[],[],[]⟩) (h:= .none) mixed (fun _ _=>Tryz.call245 _ _) Tryz.func245 (by kernel_rfl) (by kernel_rfl) h
theorem K8 (year:Int) (month:Int) (st:St) (K:Int->St->Prop) (h:CallT PR Dg [.int .i64 year] [.one .bool] st (fun (b1:Bool) a=>BIf (!b1) (K 0 a) (BId (month<1) (K 0 a) (BId ((12:Int)<month) (K 0 a) (BId (month=2) (CallT PR EU [.int .i64 year] [.one .bool] a (fun (b2:Bool) b=>BIf b2 (K 29 b) (((0<=(i64.wrap (month-(1:Int)))/\(i64.wrap (month-(1:Int)))<((12:Nat):Int))/\Ae ((([.int .i64 31,.int .i64 28,.int .i64 31,.int .i64 30,.int .i64 31,.int .i64 30,.int .i64 31,.int .i64 31,.int .i64 30,.int .i64 31,.int .i64 30,.int .i64 31]:List TV)[(0+(Int.toNat (i64.wrap (month-(1:Int))))*1)+0]?)) (fun (x1:TV)=>Af (.int .i64) x1 (fun (n1:Int)=>K n1 b)))))) (((0<=(i64.wrap (month-(1:Int)))/\(i64.wrap (month-(1:Int)))<((12:Nat):Int))/\Ae ((([.int .i64 31,.int .i64 28,.int .i64 31,.int .i64 30,.int .i64 31,.int .i64 30,.int .i64 31,.int .i64 31,.int .i64 30,.int .i64 31,.int .i64 30,.int .i64 31]:List TV)[(0+(Int.toNat (i64.wrap (month-(1:Int))))*1)+0]?)) (fun (x2:TV)=>Af (.int .i64) x2 (fun (n2:Int)=>K n2 a))))))))):CallT PR AY [.int .i64 year,.int .i64 month] [.one (.int .i64)] st K:=
 Ag (cfg:=⟨[5],[],[]⟩) (h:= .none) mixed (fun _ _=>Tryz.call246 _ _) Tryz.func246 (by kernel_rfl) (by kernel_rfl) h
theorem K6 (year:Int) (st:St) (K:Int->St->Prop) (h:K ((i64.wrap ((i64.wrap ((i64.wrap ((i64.wrap ((365:Int)*(i64.wrap (year-(1:Int)))))+(i64.wrap (Int.tdiv (i64.wrap (year-(1:Int))) (4:Int)))))-(i64.wrap (Int.tdiv (i64.wrap (year-(1:Int))) (100:Int)))))+(i64.wrap (Int.tdiv (i64.wrap (year-(1:Int))) (400:Int)))))) st):CallT PR BQ [.int .i64 year] [.one (.int .i64)] st K:=
 Ag (cfg:=⟨[],[],[]⟩) (h:= .none) mixed (fun _ _=>Tryz.call247 _ _) Tryz.func247 (by kernel_rfl) (by kernel_rfl) h
theorem VC (s:B8) (st:St) (K:Int->Int->St->Prop) (h:∃(I1:Int->Int->B8->St->Prop) (M1:Int->Int->B8->St->Nat),(I1 0 0 s st)/\∀c a b d,I1 c a b d->(BId (a<(b.length:Int)) (CallT PR E7 [.str b,.int .i64 a] [.one (.int .i64),.one (.int .i64)] d (fun (n1 n2:Int) e=>BId (n2=0) (K 0 5 e) ((I1 ((i64.wrap (c+(1:Int)))) ((i64.wrap (a+n2))) b e/\M1 ((i64.wrap (c+(1:Int)))) ((i64.wrap (a+n2))) b e<M1 c a b d)))) (K c 0 d))):CallT PR KL [.str s] [.one (.int .i64),.one (.int .i64)] st K:=
 Ag (cfg:=⟨[],[],[]⟩) (h:=(.seq .none (.seq .none (.seq (.seq .none (.block (.loop ⟨[(4,.int .i64),(5,.int .i64),(0,.str)],[],[],[]⟩ .none))) .none)))) mixed (fun _ _=>Tryz.call256 _ _) Tryz.func256 (by kernel_rfl) (by kernel_rfl) h
theorem NC (v_0:Int) (b:Bool) (v_2:Bool) (v_3:B8) (v_4:Int) (v_5:Int) (v_6:Int) (v_7:Int) (v_8:Int) (v_9:B8) (v_10:TV) (v_11:TV) (v_12:TV) (st:St) (K:TV->St->Prop) (h:need (isSl v_12) (∃(I1:Int->TV->TV->Int->St->Prop) (M1:Int->TV->TV->Int->St->Nat),(I1 0 ((.map st.nb)) v_12 ((lenS v_12:Int)) (st.push (.map []) none))/\∀a c b e d,I1 a c b e d->(BId (a<e) (((0<=a/\a<(lenZ 14 b:Int))/\Ae ((Ah d [] (.t (ixT 14 b a.toNat)) 0 14).map TV.agg) (fun (x1:TV)=>AM [.str,.int .i64,.bool,.bool,.str,.int .i64,.int .i64,.int .i64,.int .i64,.int .i64,.str,.tv,.tv,.tv] x1 (fun (s1:B8) (n1:Int) (b1 b2:Bool) (s2:B8) (n2 n3 n4 n5 n6:Int) (s3:B8) (v1 v2 v3:TV)=>need (List.all [.str s1,.int .i64 n1,.bool b1,.bool b2,.str s2,.int .i64 n2,.int .i64 n3,.int .i64 n4,.int .i64 n5,.int .i64 n6,.str s3,v1,v2,v3] As) (muK c s1 (.int .i64 a) d (fun f=>(I1 ((i64.wrap (a+(1:Int)))) c b e f/\M1 ((i64.wrap (a+(1:Int)))) c b e f<M1 a c b e d))))))) (K c d)))):CallT PR BV [(.agg (cV v_0 b v_2 v_3 v_4 v_5 v_6 v_7 v_8 v_9 v_10 v_11 v_12))] [.one .tv] st K:=
 Ag (cfg:=⟨[1,5],[],[]⟩) (h:=(.seq .none (.seq .none (.seq (.seq .none (.block (.loop ⟨[(10,.int .i64),(3,.tv),(8,.tv),(9,.int .i64)],[],[],[]⟩ .none))) .none)))) mixed (fun _ _=>Tryz.call257 _ _) Tryz.func257 (by kernel_rfl) (by kernel_rfl) h
theorem CT (b:Nat) (c:Int) (st:St) (K:TV->St->Prop) (h:CallT PR A2 [(.box b 0)] [] st (fun (a:St)=>Ae (Ad a [] (.t (.box b 1)) 0) (fun (v1:TV)=>BF 5 1 1 v1 1 [.int .u8 c] a (fun (v2:TV) e=>need (List.all [v2] As) (stB e (.box b 1) [v2] (fun d=>K .nilIface d)))))):CallT PR AK [(.box b 0),.int .u8 c] [.one .tv] st K:=
 Ag (cfg:=⟨[],[],[]⟩) (h:= .none) mixed (fun _ _=>Tryz.call260 _ _) Tryz.func260 (by kernel_rfl) (by kernel_rfl) h
theorem Dn (s:TV) (st:St) (K:TV->St->Prop) (h:need (isSl s) (BIf (Ft s) (K .nilSlice st) (Ae (EW st 14 s) (fun (q1:Nat×List TV)=>need (List.all q1.2 As) (LU 136 14 184 (.list 14 .full 0 []) q1.1 q1.2 st (fun (v1:TV) a=>K v1 a)))))):CallT PR BI [s] [.one .tv] st K:=
 Ag (cfg:=⟨[],[7],[]⟩) (h:= .none) mixed (fun _ _=>Tryz.call261 _ _) Tryz.func261 (by kernel_rfl) (by kernel_rfl) h
theorem Bb (x:TV) (cmp:TV) (st:St) (K:St->Prop) (h:need (isSl x) (CallT PR A1 [x,(.int .i64 (lenS x:Int)),cmp] [] st (fun (a:St)=>K a))):CallT PR AC [x,cmp] [] st K:=
 Ag (cfg:=⟨[],[],[]⟩) (h:= .none) mixed (fun _ _=>Tryz.call262 _ _) Tryz.func262 (by kernel_rfl) (by kernel_rfl) h
theorem K0 (a_0:B8) (a_1:Int) (a_2:Bool) (a_3:Bool) (a_4:B8) (a_5:Int) (a_6:Int) (a_7:Int) (a_8:Int) (a_9:Int) (a_10:B8) (a_11:TV) (a_12:TV) (a_13:TV) (b_0:B8) (b_1:Int) (b_2:Bool) (b_3:Bool) (b_4:B8) (b_5:Int) (b_6:Int) (b_7:Int) (b_8:Int) (b_9:Int) (b_10:B8) (b_11:TV) (b_12:TV) (b_13:TV) (st:St) (K:Int->St->Prop) (h:CallT PR Ge [.str a_0,.str b_0] [.one (.int .i64)] st (fun (n1:Int) a=>K n1 a)):CallT PR Df [(.agg [.str a_0,.int .i64 a_1,.bool a_2,.bool a_3,.str a_4,.int .i64 a_5,.int .i64 a_6,.int .i64 a_7,.int .i64 a_8,.int .i64 a_9,.str a_10,a_11,a_12,a_13]),(.agg [.str b_0,.int .i64 b_1,.bool b_2,.bool b_3,.str b_4,.int .i64 b_5,.int .i64 b_6,.int .i64 b_7,.int .i64 b_8,.int .i64 b_9,.str b_10,b_11,b_12,b_13])] [.one (.int .i64)] st K:=
 Ag (cfg:=⟨[2,3],[],[]⟩) (h:= .none) mixed (fun _ _=>Tryz.call263 _ _) Tryz.func263 (by kernel_rfl) (by kernel_rfl) h
theorem CS (b:Nat) (st:St) (K:St->Prop) (h:Ae (Ad st [] (.t (.box b 0)) 0) (fun (v1:TV)=>need (Wq v1) (BIf (Ft v1) (((Ad st [] (.t (.box b 0)) 0).isSome=true/\CallT PR FB [(.box b 0)] [.one .tv] st (fun (v2:TV) a=>unsK 188 2 v2 a (fun (v3:TV)=>need (List.all [v3] As) (stB a (.box b 0) [v3] (fun c=>K c)))))) (Ae (Ad st [] (.t (.box b 0)) 0) (fun (v4:TV)=>(v4=(.box b 0)/\K st)))))):CallT PR A2 [(.box b 0)] [] st K:=
 Ag (cfg:=⟨[],[],[]⟩) (h:= .none) mixed (fun _ _=>Tryz.call266 _ _) Tryz.func266 (by kernel_rfl) (by kernel_rfl) h
theorem NE (s:B8) (st:St) (K:Bool->St->Prop) (h:BId ((s.length:Int)<=(600:Int)) (CallT PR Hb [.str s] [.one .bool] st (fun (b1:Bool) a=>BIf b1 (BId (s=([]:B8)) (K true a) (((0<=(0:Int)/\(0:Int)<(s.length:Int))/\K ((decide (((List.getD s (Int.toNat (0:Int)) 0).toNat:Int)≠(48:Int)))) a))) (K false a))) (K false st)):CallT PR D4 [.str s] [.one .bool] st K:=
 Ag (cfg:=⟨[],[],[]⟩) (h:= .none) mixed (fun _ _=>Tryz.call267 _ _) Tryz.func267 (by kernel_rfl) (by kernel_rfl) h
theorem ND (a:B8) (st:St) (K:Int->St->Prop) (h:CallT PR Du [.str a,.str Lg] [.one .str] st (fun (s1:B8) b=>K ((i64.wrap ((a.length:Int)-(s1.length:Int)))) b)):CallT PR Fu [.str a] [.one (.int .i64)] st K:=
 Ag (cfg:=⟨[],[],[]⟩) (h:= .none) mixed (fun _ _=>Tryz.call268 _ _) Tryz.func268 (by kernel_rfl) (by kernel_rfl) h
theorem RV (s:B8) (st:St) (K:Int->St->Prop) (h:CallT PR Ew [.str s] [.one .bool] st (fun (b1:Bool) a=>BIf (!b1) (K 5 a) (BId ((1024:Int)<(s.length:Int)) (K 10 a) (K 0 a)))):CallT PR Ii [.str s] [.one (.int .i64)] st K:=
 Ag (cfg:=⟨[],[],[]⟩) (h:= .none) mixed (fun _ _=>Tryz.call269 _ _) Tryz.func269 (by kernel_rfl) (by kernel_rfl) h
theorem Dm (s:TV) (st:St) (K:TV->St->Prop) (h:need (isSl s) (BIf (Ft s) (K .nilSlice st) (Ae (EW st 13 s) (fun (q1:Nat×List TV)=>need (List.all q1.2 As) (BF 63 13 168 (.list 13 .full 0 []) q1.1 q1.2 st (fun (v1:TV) a=>K v1 a)))))):CallT PR A7 [s] [.one .tv] st K:=
 Ag (cfg:=⟨[],[],[]⟩) (h:= .none) mixed (fun _ _=>Tryz.call270 _ _) Tryz.func270 (by kernel_rfl) (by kernel_rfl) h
theorem K4 (n:Int) (st:St) (K:B8->St->Prop) (h:∃(I1:Int->TV->St->Prop) (M1:Int->TV->St->Nat),(I1 n .nilSlice st)/\∀a b c,I1 a b c->(BId ((0:Int)<a) (LU 5 1 1 b 1 [(.int .u8 (u8.wrap (i64.wrap ((48:Int)+(Int.tmod a (10:Int))))))] c (fun (v1:TV) e=>(I1 ((i64.wrap (Int.tdiv a (10:Int)))) v1 e/\M1 ((i64.wrap (Int.tdiv a (10:Int)))) v1 e<M1 a b c))) (CallT PR EA [b] [] c (fun (d:St)=>Ae ((toBytes d b).map TV.str) (fun (x1:TV)=>Af .str x1 (fun (s1:B8)=>K s1 d)))))):CallT PR EB [.int .i64 n] [.one .str] st K:=
 Ag (cfg:=⟨[],[14],[]⟩) (h:=(.seq .none (.seq .none (.seq (.block (.loop ⟨[(0,.int .i64),(3,.tv)],[],[],[]⟩ .none)) .none)))) mixed (fun _ _=>Tryz.call277 _ _) Tryz.func277 (by kernel_rfl) (by kernel_rfl) h
theorem Ma (n:Int) (st:St) (K:Int->Int->Int->Int->St->Prop) (h:CallT PR GF [.int .i64 n] [.one .bool] st (fun (b1:Bool) q=>BIf (!b1) (K 0 0 0 2 q) (∃(I1:Int->Int->St->Prop) (M1:Int->Int->St->Nat),(I1 ((i64.wrap ((i64.wrap (Int.tdiv n (366:Int)))+(1:Int)))) n q)/\∀a i j,I1 a i j->(BId (a<9999) (CallT PR BQ [(.int .i64 (i64.wrap (a+(1:Int))))] [.one (.int .i64)] j (fun (n1:Int) l=>BId (n1<=i) ((I1 ((i64.wrap (a+(1:Int)))) i l/\M1 ((i64.wrap (a+(1:Int)))) i l<M1 a i j)) (CallT PR BQ [.int .i64 a] [.one (.int .i64)] l (fun (n2:Int) t=>∃(I2:Int->Int->Int->St->Prop) (M2:Int->Int->Int->St->Nat),(I2 1 ((i64.wrap (i-n2))) a t)/\∀c g e p,I2 c g e p->(CallT PR AY [.int .i64 e,.int .i64 c] [.one (.int .i64)] p (fun (n3:Int) s=>BId (n3<=g) (CallT PR AY [.int .i64 e,.int .i64 c] [.one (.int .i64)] s (fun (n4:Int) r=>(I2 ((i64.wrap (c+(1:Int)))) ((i64.wrap (g-n4))) e r/\M2 ((i64.wrap (c+(1:Int)))) ((i64.wrap (g-n4))) e r<M2 c g e p))) (K e c ((i64.wrap (g+(1:Int)))) 0 s))))))) (CallT PR BQ [.int .i64 a] [.one (.int .i64)] j (fun (n5:Int) u=>∃(I3:Int->Int->Int->St->Prop) (M3:Int->Int->Int->St->Nat),(I3 1 ((i64.wrap (i-n5))) a u)/\∀b f d k,I3 b f d k->(CallT PR AY [.int .i64 d,.int .i64 b] [.one (.int .i64)] k (fun (n6:Int) o=>BId (n6<=f) (CallT PR AY [.int .i64 d,.int .i64 b] [.one (.int .i64)] o (fun (n7:Int) m=>(I3 ((i64.wrap (b+(1:Int)))) ((i64.wrap (f-n7))) d m/\M3 ((i64.wrap (b+(1:Int)))) ((i64.wrap (f-n7))) d m<M3 b f d k))) (K d b ((i64.wrap (f+(1:Int)))) 0 o))))))))):CallT PR EV [.int .i64 n] [.one (.int .i64),.one (.int .i64),.one (.int .i64),.one (.int .i64)] st K:=
 Ag (cfg:=⟨[],[],[]⟩) (h:=(.seq .none (.seq .none (.seq .none (.seq (.block (.loop ⟨[(2,.int .i64),(0,.int .i64)],[],[],[]⟩ .none)) (.seq .none (.seq .none (.seq (.block (.loop ⟨[(3,.int .i64),(6,.int .i64),(2,.int .i64)],[],[],[]⟩ .none)) .none)))))))) mixed (fun _ _=>Tryz.call278 _ _) Tryz.func278 (by kernel_rfl) (by kernel_rfl) h
theorem LZ (n:Int) (width:Int) (st:St) (K:B8->St->Prop) (h:((0<=width/\width<=width/\Int.toNat width*1<=140737488355328)/\∃(I1:Int->Int->TV->St->Prop) (M1:Int->Int->TV->St->Nat),(I1 n ((i64.wrap (width-(1:Int)))) ((.ms 1 st.nb 0 width.toNat width.toNat)) (st.push (.cells (GR [.int .u8 0] (Int.toNat width*1))) (some 5)))/\∀d a b c,I1 d a b c->(BId ((0:Int)<=a) (((0<=a/\a<(lenZ 1 b:Int))/\stB c (ixT 1 b a.toNat) [(.int .u8 (u8.wrap (i64.wrap ((48:Int)+(Int.tmod d (10:Int))))))] (fun e=>(I1 ((i64.wrap (Int.tdiv d (10:Int)))) ((i64.wrap (a-(1:Int)))) b e/\M1 ((i64.wrap (Int.tdiv d (10:Int)))) ((i64.wrap (a-(1:Int)))) b e<M1 d a b c)))) (Ae ((toBytes c b).map TV.str) (fun (x1:TV)=>Af .str x1 (fun (s1:B8)=>K s1 c)))))):CallT PR AP [.int .i64 n,.int .i64 width] [.one .str] st K:=
 Ag (cfg:=⟨[],[8],[]⟩) (h:=(.seq .none (.seq .none (.seq (.seq .none (.block (.loop ⟨[(0,.int .i64),(6,.int .i64),(5,.tv)],[],[],[]⟩ .none))) .none)))) mixed (fun _ _=>Tryz.call279 _ _) Tryz.func279 (by kernel_rfl) (by kernel_rfl) h
theorem Ho (r:Nat) (width:Int) (st:St) (K:Int->St->Prop) (h:Ae (Ad st [] (.t (.box r 0)) 0) (fun (x1:TV)=>Af .str x1 (fun (s1:B8)=>BId ((s1.length:Int)<width) (stB st (.box r 1) [.bool true] (fun k=>K 0 k)) (∃(I1:Int->Int->TV->Int->Int->St->Prop) (M1:Int->Int->TV->Int->Int->St->Nat),(I1 0 0 ((.box r 0)) width width st)/\∀f c a b e d,I1 f c a b e d->(BId (c<e) (need (isPtr a) (need (isPtr a) (Ae (Ad d [] (.t (Ao a 0)) 0) (fun (x2:TV)=>Af .str x2 (fun (s2:B8)=>((0<=c/\c<(s2.length:Int))/\BId (((List.getD s2 c.toNat 0).toNat:Int)<(48:Int)) (need (isPtr a) (need (isPtr a) (stB d (Ao a 1) [.bool true] (fun g=>K 0 g)))) (need (isPtr a) (need (isPtr a) (Ae (Ad d [] (.t (Ao a 0)) 0) (fun (x3:TV)=>Af .str x3 (fun (s3:B8)=>((0<=c/\c<(s3.length:Int))/\BId ((57:Int)<((List.getD s3 c.toNat 0).toNat:Int)) (need (isPtr a) (need (isPtr a) (stB d (Ao a 1) [.bool true] (fun j=>K 0 j)))) (need (isPtr a) (need (isPtr a) (Ae (Ad d [] (.t (Ao a 0)) 0) (fun (x4:TV)=>Af .str x4 (fun (s4:B8)=>((0<=c/\c<(s4.length:Int))/\(I1 ((i64.wrap ((i64.wrap ((10:Int)*f))+(i64.wrap (u8.wrap (((List.getD s4 c.toNat 0).toNat:Int)-(48:Int))))))) ((i64.wrap (c+(1:Int)))) a b e d/\M1 ((i64.wrap ((i64.wrap ((10:Int)*f))+(i64.wrap (u8.wrap (((List.getD s4 c.toNat 0).toNat:Int)-(48:Int))))))) ((i64.wrap (c+(1:Int)))) a b e d<M1 f c a b e d))))))))))))))))))) (need (isPtr a) (need (isPtr a) (Ae (Ad d [] (.t (Ao a 0)) 0) (fun (x5:TV)=>Af .str x5 (fun (s5:B8)=>((0<=b/\b<=(s5.length:Int))/\need (isPtr a) (need (isPtr a) (stB d (Ao a 0) [(.str (List.drop b.toNat s5))] (fun i=>K f i)))))))))))))):CallT PR Ay [(.box r 0),.int .i64 width] [.one (.int .i64)] st K:=
 Ag (cfg:=⟨[],[],[]⟩) (h:=(.seq .none (.seq .none (.seq .none (.seq (.seq .none (.block (.loop ⟨[(5,.int .i64),(18,.int .i64),(0,.tv),(1,.int .i64),(17,.int .i64)],[],[],[]⟩ .none))) .none))))) mixed (fun _ _=>Tryz.call290 _ _) Tryz.func290 (by kernel_rfl) (by kernel_rfl) h
theorem Gp (r:Nat) (st:St) (K:Int->St->Prop) (h:∃(I1:Int->Int->TV->St->Prop) (M1:Int->Int->TV->St->Nat),(I1 0 0 ((.box r 0)) st)/\∀d b a c,I1 d b a c->(need (isPtr a) (need (isPtr a) (Ae (Ad c [] (.t (Ao a 0)) 0) (fun (x1:TV)=>Af .str x1 (fun (s1:B8)=>BId (b<(s1.length:Int)) (need (isPtr a) (need (isPtr a) (Ae (Ad c [] (.t (Ao a 0)) 0) (fun (x2:TV)=>Af .str x2 (fun (s2:B8)=>((0<=b/\b<(s2.length:Int))/\BId ((48:Int)<=((List.getD s2 b.toNat 0).toNat:Int)) (need (isPtr a) (need (isPtr a) (Ae (Ad c [] (.t (Ao a 0)) 0) (fun (x3:TV)=>Af .str x3 (fun (s3:B8)=>((0<=b/\b<(s3.length:Int))/\BId (((List.getD s3 b.toNat 0).toNat:Int)<=(57:Int)) (BId (b<9) (need (isPtr a) (need (isPtr a) (Ae (Ad c [] (.t (Ao a 0)) 0) (fun (x4:TV)=>Af .str x4 (fun (s4:B8)=>((0<=b/\b<(s4.length:Int))/\(I1 ((i64.wrap ((i64.wrap ((10:Int)*d))+(i64.wrap (u8.wrap (((List.getD s4 b.toNat 0).toNat:Int)-(48:Int))))))) ((i64.wrap (b+(1:Int)))) a c/\M1 ((i64.wrap ((i64.wrap ((10:Int)*d))+(i64.wrap (u8.wrap (((List.getD s4 b.toNat 0).toNat:Int)-(48:Int))))))) ((i64.wrap (b+(1:Int)))) a c<M1 d b a c))))))) ((I1 d ((i64.wrap (b+(1:Int)))) a c/\M1 d ((i64.wrap (b+(1:Int)))) a c<M1 d b a c))) (BId (b<1) (need (isPtr a) (need (isPtr a) (stB c (Ao a 1) [.bool true] (fun u=>K 0 u)))) (BId ((9:Int)<b) (need (isPtr a) (need (isPtr a) (stB c (Ao a 1) [.bool true] (fun s=>K 0 s)))) (need (isPtr a) (need (isPtr a) (Ae (Ad c [] (.t (Ao a 0)) 0) (fun (x5:TV)=>Af .str x5 (fun (s5:B8)=>((0<=b/\b<=(s5.length:Int))/\need (isPtr a) (need (isPtr a) (stB c (Ao a 0) [(.str (List.drop b.toNat s5))] (fun v=>∃(I2:Int->Int->St->Prop) (M2:Int->Int->St->Nat),(I2 d b v)/\∀m i n,I2 m i n->(BId (i<9) ((I2 ((i64.wrap (m*(10:Int)))) ((i64.wrap (i+(1:Int)))) n/\M2 ((i64.wrap (m*(10:Int)))) ((i64.wrap (i+(1:Int)))) n<M2 m i n)) (K m n))))))))))))))))))) (BId (b<1) (need (isPtr a) (need (isPtr a) (stB c (Ao a 1) [.bool true] (fun y=>K 0 y)))) (BId ((9:Int)<b) (need (isPtr a) (need (isPtr a) (stB c (Ao a 1) [.bool true] (fun w=>K 0 w)))) (need (isPtr a) (need (isPtr a) (Ae (Ad c [] (.t (Ao a 0)) 0) (fun (x6:TV)=>Af .str x6 (fun (s6:B8)=>((0<=b/\b<=(s6.length:Int))/\need (isPtr a) (need (isPtr a) (stB c (Ao a 0) [(.str (List.drop b.toNat s6))] (fun x=>∃(I3:Int->Int->St->Prop) (M3:Int->Int->St->Nat),(I3 d b x)/\∀k j f,I3 k j f->(BId (j<9) ((I3 ((i64.wrap (k*(10:Int)))) ((i64.wrap (j+(1:Int)))) f/\M3 ((i64.wrap (k*(10:Int)))) ((i64.wrap (j+(1:Int)))) f<M3 k j f)) (K k f))))))))))))))))))) (BId (b<1) (need (isPtr a) (need (isPtr a) (stB c (Ao a 1) [.bool true] (fun p=>K 0 p)))) (BId ((9:Int)<b) (need (isPtr a) (need (isPtr a) (stB c (Ao a 1) [.bool true] (fun o=>K 0 o)))) (need (isPtr a) (need (isPtr a) (Ae (Ad c [] (.t (Ao a 0)) 0) (fun (x7:TV)=>Af .str x7 (fun (s7:B8)=>((0<=b/\b<=(s7.length:Int))/\need (isPtr a) (need (isPtr a) (stB c (Ao a 0) [(.str (List.drop b.toNat s7))] (fun q=>∃(I4:Int->Int->St->Prop) (M4:Int->Int->St->Nat),(I4 d b q)/\∀g l e,I4 g l e->(BId (l<9) ((I4 ((i64.wrap (g*(10:Int)))) ((i64.wrap (l+(1:Int)))) e/\M4 ((i64.wrap (g*(10:Int)))) ((i64.wrap (l+(1:Int)))) e<M4 g l e)) (K g e))))))))))))))))))):CallT PR Cf [(.box r 0)] [.one (.int .i64)] st K:=
 Ag (cfg:=⟨[],[],[]⟩) (h:=(.seq .none (.seq .none (.seq (.block (.loop ⟨[(3,.int .i64),(4,.int .i64),(0,.tv)],[],[],[]⟩ .none)) (.seq .none (.seq .none (.seq (.block (.loop ⟨[(3,.int .i64),(4,.int .i64)],[],[],[]⟩ .none)) .none))))))) mixed (fun _ _=>Tryz.call291 _ _) Tryz.func291 (by kernel_rfl) (by kernel_rfl) h
theorem K5 (year:Int) (st:St) (K:Bool->St->Prop) (h:BId ((1:Int)<=year) (K ((decide (year<=9999))) st) (K false st)):CallT PR Dg [.int .i64 year] [.one .bool] st K:=
 Ag (cfg:=⟨[],[],[]⟩) (h:= .none) mixed (fun _ _=>Tryz.call292 _ _) Tryz.func292 (by kernel_rfl) (by kernel_rfl) h
theorem L9 (year:Int) (st:St) (K:Bool->St->Prop) (h:CallT PR Dg [.int .i64 year] [.one .bool] st (fun (b1:Bool) a=>BIf b1 (BId ((Int.tmod year (4:Int))=(0:Int)) (BId ((Int.tmod year (100:Int))≠(0:Int)) (K true a) (K ((decide ((Int.tmod year (400:Int))=(0:Int)))) a)) (K false a)) (K false a))):CallT PR EU [.int .i64 year] [.one .bool] st K:=
 Ag (cfg:=⟨[],[],[]⟩) (h:= .none) mixed (fun _ _=>Tryz.call293 _ _) Tryz.func293 (by kernel_rfl) (by kernel_rfl) h
theorem B3 (data:TV) (n:Int) (cmp:TV) (st:St) (K:St->Prop) (h:∃(I1:Int->Int->TV->Int->TV->Int->St->Prop) (M1:Int->Int->TV->Int->TV->Int->St->Nat),(I1 0 20 data n cmp 20 st)/\∀u k f o g b t,I1 u k f o g b t->(BId (k<=o) (CallT PR AQ [f,.int .i64 u,.int .i64 k,g] [] t (fun (v:St)=>(I1 k ((i64.wrap (k+b))) f o g b v/\M1 k ((i64.wrap (k+b))) f o g b v<M1 u k f o g b t))) (CallT PR AQ [f,.int .i64 u,.int .i64 o,g] [] t (fun (y:St)=>∃(I2:Int->TV->Int->TV->St->Prop) (M2:Int->TV->Int->TV->St->Nat),(I2 b f o g y)/\∀c j s m r,I2 c j s m r->(BId (c<s) (∃(I3:Int->Int->TV->Int->TV->Int->St->Prop) (M3:Int->Int->TV->Int->TV->Int->St->Nat),(I3 0 ((i64.wrap ((2:Int)*c))) j s m c r)/\∀p l d i e a q,I3 p l d i e a q->(BId (l<=i) (CallT PR Aj [d,.int .i64 p,(.int .i64 (i64.wrap (p+a))),.int .i64 l,e] [] q (fun (x:St)=>(I3 l ((i64.wrap (l+(i64.wrap ((2:Int)*a))))) d i e a x/\M3 l ((i64.wrap (l+(i64.wrap ((2:Int)*a))))) d i e a x<M3 p l d i e a q))) (BId ((i64.wrap (p+a))<i) (CallT PR Aj [d,.int .i64 p,(.int .i64 (i64.wrap (p+a))),.int .i64 i,e] [] q (fun (w:St)=>(I2 ((i64.wrap (a*(2:Int)))) d i e w/\M2 ((i64.wrap (a*(2:Int)))) d i e w<M2 c j s m r))) ((I2 ((i64.wrap (a*(2:Int)))) d i e q/\M2 ((i64.wrap (a*(2:Int)))) d i e q<M2 c j s m r))))) (K r)))))):CallT PR A1 [data,.int .i64 n,cmp] [] st K:=
 Ag (cfg:=⟨[],[],[]⟩) (h:=(.seq .none (.seq .none (.seq (.block (.loop ⟨[(7,.int .i64),(8,.int .i64),(0,.tv),(1,.int .i64),(2,.tv),(6,.int .i64)],[],[],[]⟩ .none)) (.seq .none (.block (.loop ⟨[(6,.int .i64),(0,.tv),(1,.int .i64),(2,.tv)],[],[],[]⟩ (.seq .none (.block (.seq .none (.seq (.block (.loop ⟨[(7,.int .i64),(8,.int .i64),(0,.tv),(1,.int .i64),(2,.tv),(6,.int .i64)],[],[],[]⟩ .none)) .none))))))))))) mixed (fun _ _=>Tryz.call297 _ _) Tryz.func297 (by kernel_rfl) (by kernel_rfl) h
theorem Qt (s:B8) (st:St) (K:Bool->St->Prop) (h:∃(I1:Int->B8->Int->St->Prop) (M1:Int->B8->Int->St->Nat),(I1 0 s ((s.length:Int)) st)/\∀a b d c,I1 a b d c->(BId (a<d) (((0<=a/\a<(b.length:Int))/\BId (((List.getD b a.toNat 0).toNat:Int)<(48:Int)) (K false c) (((0<=a/\a<(b.length:Int))/\BId ((57:Int)<((List.getD b a.toNat 0).toNat:Int)) (K false c) ((I1 ((i64.wrap (a+(1:Int)))) b d c/\M1 ((i64.wrap (a+(1:Int)))) b d c<M1 a b d c)))))) (K true c))):CallT PR Hb [.str s] [.one .bool] st K:=
 Ag (cfg:=⟨[],[],[]⟩) (h:=(.seq .none (.seq (.seq .none (.block (.loop ⟨[(6,.int .i64),(0,.str),(5,.int .i64)],[],[],[]⟩ .none))) .none))) mixed (fun _ _=>Tryz.call301 _ _) Tryz.func301 (by kernel_rfl) (by kernel_rfl) h
theorem K3 (b:TV) (st:St) (K:St->Prop) (h:need (isSl b) (∃(I1:Int->Int->TV->St->Prop) (M1:Int->Int->TV->St->Nat),(I1 0 ((i64.wrap ((lenS b:Int)-(1:Int)))) b st)/\∀c d a e,I1 c d a e->(BId (c<d) (((0<=d/\d<(lenZ 1 a:Int))/\Ae (Ad e [] (.t (ixT 1 a d.toNat)) 0) (fun (x1:TV)=>Af (.int .u8) x1 (fun (n1:Int)=>((0<=c/\c<(lenZ 1 a:Int))/\Ae (Ad e [] (.t (ixT 1 a c.toNat)) 0) (fun (x2:TV)=>Af (.int .u8) x2 (fun (n2:Int)=>((0<=c/\c<(lenZ 1 a:Int))/\stB e (ixT 1 a c.toNat) [.int .u8 n1] (fun g=>((0<=d/\d<(lenZ 1 a:Int))/\stB g (ixT 1 a d.toNat) [.int .u8 n2] (fun f=>(I1 ((i64.wrap (c+(1:Int)))) ((i64.wrap (d-(1:Int)))) a f/\M1 ((i64.wrap (c+(1:Int)))) ((i64.wrap (d-(1:Int)))) a f<M1 c d a e)))))))))))) (K e)))):CallT PR EA [b] [] st K:=
 Ag (cfg:=⟨[],[],[]⟩) (h:=(.seq .none (.block (.loop ⟨[(2,.int .i64),(3,.int .i64),(0,.tv)],[],[],[]⟩ .none)))) mixed (fun _ _=>Tryz.call306 _ _) Tryz.func306 (by kernel_rfl) (by kernel_rfl) h
theorem K7 (n:Int) (st:St) (K:Bool->St->Prop) (h:BId ((0:Int)<=n) (K ((decide (n<=3652058))) st) (K false st)):CallT PR GF [.int .i64 n] [.one .bool] st K:=
 Ag (cfg:=⟨[],[],[]⟩) (h:= .none) mixed (fun _ _=>Tryz.call307 _ _) Tryz.func307 (by kernel_rfl) (by kernel_rfl) h
theorem Bs (data:TV) (a:Int) (b:Int) (cmp:TV) (st:St) (K:St->Prop) (h:∃(I1:Int->TV->Int->Int->TV->St->Prop) (M1:Int->TV->Int->Int->TV->St->Nat),(I1 ((i64.wrap (a+(1:Int)))) data a b cmp st)/\∀m f q p k n,I1 m f q p k n->(BId (m<p) (∃(I2:Int->TV->Int->Int->TV->Int->St->Prop) (M2:Int->TV->Int->Int->TV->Int->St->Nat),(I2 m f q p k m n)/\∀d c g j e i l,I2 d c g j e i l->(BId (g<d) (((0<=d/\d<(lenZ 14 c:Int))/\Ae ((Ah l [] (.t (ixT 14 c d.toNat)) 0 14).map TV.agg) (fun (x1:TV)=>AM [.str,.int .i64,.bool,.bool,.str,.int .i64,.int .i64,.int .i64,.int .i64,.int .i64,.str,.tv,.tv,.tv] x1 (fun (s1:B8) (n1:Int) (b1 b2:Bool) (s2:B8) (n2 n3 n4 n5 n6:Int) (s3:B8) (v1 v2 v3:TV)=>((0<=(i64.wrap (d-(1:Int)))/\(i64.wrap (d-(1:Int)))<(lenZ 14 c:Int))/\Ae ((Ah l [] (.t (ixT 14 c (Int.toNat (i64.wrap (d-(1:Int)))))) 0 14).map TV.agg) (fun (x2:TV)=>AM [.str,.int .i64,.bool,.bool,.str,.int .i64,.int .i64,.int .i64,.int .i64,.int .i64,.str,.tv,.tv,.tv] x2 (fun (s4:B8) (n7:Int) (b3 b4:Bool) (s5:B8) (n8 n9 b9 c3 c2:Int) (s6:B8) (v4 v5 v6:TV)=>GJ PR e [(.agg [.str s1,.int .i64 n1,.bool b1,.bool b2,.str s2,.int .i64 n2,.int .i64 n3,.int .i64 n4,.int .i64 n5,.int .i64 n6,.str s3,v1,v2,v3]),(.agg [.str s4,.int .i64 n7,.bool b3,.bool b4,.str s5,.int .i64 n8,.int .i64 n9,.int .i64 b9,.int .i64 c3,.int .i64 c2,.str s6,v4,v5,v6])] [.one (.int .i64)] l (fun (c0:Int) o=>BId (c0<0) (((0<=(i64.wrap (d-(1:Int)))/\(i64.wrap (d-(1:Int)))<(lenZ 14 c:Int))/\Ae ((Ah o [] (.t (ixT 14 c (Int.toNat (i64.wrap (d-(1:Int)))))) 0 14).map TV.agg) (fun (x3:TV)=>AM [.str,.int .i64,.bool,.bool,.str,.int .i64,.int .i64,.int .i64,.int .i64,.int .i64,.str,.tv,.tv,.tv] x3 (fun (s7:B8) (a5:Int) (b5 b6:Bool) (s8:B8) (s a3 b0 a0 v:Int) (s9:B8) (v7 v8 v9:TV)=>((0<=d/\d<(lenZ 14 c:Int))/\Ae ((Ah o [] (.t (ixT 14 c d.toNat)) 0 14).map TV.agg) (fun (x4:TV)=>AM [.str,.int .i64,.bool,.bool,.str,.int .i64,.int .i64,.int .i64,.int .i64,.int .i64,.str,.tv,.tv,.tv] x4 (fun (x:B8) (a7:Int) (b7 b8:Bool) (a2:B8) (u w a9 a4 a1:Int) (r:B8) (y a6 z:TV)=>((0<=d/\d<(lenZ 14 c:Int))/\need (List.all [.str s7,.int .i64 a5,.bool b5,.bool b6,.str s8,.int .i64 s,.int .i64 a3,.int .i64 b0,.int .i64 a0,.int .i64 v,.str s9,v7,v8,v9] As) (stB o (ixT 14 c d.toNat) [.str s7,.int .i64 a5,.bool b5,.bool b6,.str s8,.int .i64 s,.int .i64 a3,.int .i64 b0,.int .i64 a0,.int .i64 v,.str s9,v7,v8,v9] (fun c1=>((0<=(i64.wrap (d-(1:Int)))/\(i64.wrap (d-(1:Int)))<(lenZ 14 c:Int))/\need (List.all [.str x,.int .i64 a7,.bool b7,.bool b8,.str a2,.int .i64 u,.int .i64 w,.int .i64 a9,.int .i64 a4,.int .i64 a1,.str r,y,a6,z] As) (stB c1 (ixT 14 c (Int.toNat (i64.wrap (d-(1:Int))))) [.str x,.int .i64 a7,.bool b7,.bool b8,.str a2,.int .i64 u,.int .i64 w,.int .i64 a9,.int .i64 a4,.int .i64 a1,.str r,y,a6,z] (fun a8=>(I2 ((i64.wrap (d-(1:Int)))) c g j e i a8/\M2 ((i64.wrap (d-(1:Int)))) c g j e i a8<M2 d c g j e i l)))))))))))))) ((I1 ((i64.wrap (i+(1:Int)))) c g j e o/\M1 ((i64.wrap (i+(1:Int)))) c g j e o<M1 m f q p k n)))))))))) ((I1 ((i64.wrap (i+(1:Int)))) c g j e l/\M1 ((i64.wrap (i+(1:Int)))) c g j e l<M1 m f q p k n)))) (K n))):CallT PR AQ [data,.int .i64 a,.int .i64 b,cmp] [] st K:=
 Ag (cfg:=⟨[],[],[26,31]⟩) (h:=(.seq .none (.block (.loop ⟨[(8,.int .i64),(0,.tv),(1,.int .i64),(2,.int .i64),(3,.tv)],[],[],[]⟩ (.seq .none (.seq (.block (.seq .none (.block (.loop ⟨[(9,.int .i64),(0,.tv),(1,.int .i64),(2,.int .i64),(3,.tv),(8,.int .i64)],[],[],[]⟩ .none)))) .none)))))) mixed (fun _ _=>Tryz.call317 _ _) Tryz.func317 (by kernel_rfl) (by kernel_rfl) h
theorem Ba (data:TV) (a:Int) (m:Int) (b:Int) (cmp:TV) (st:St) (K:St->Prop) (h:BId ((i64.wrap (m-a))=(1:Int)) (∃(I1:Int->Int->TV->Int->TV->St->Prop) (M1:Int->Int->TV->Int->TV->St->Nat),(I1 m b data a cmp st)/\∀s y j a1 w a5,I1 s y j a1 w a5->(BId (s<y) (((0<=(i64.wrap (Int.fdiv (IntKind.u64.wrap (i64.wrap (s+y))) (2^(min (Int.toNat (1:Int)) (IntKind.bits .u64)))))/\(i64.wrap (Int.fdiv (IntKind.u64.wrap (i64.wrap (s+y))) (2^(min (Int.toNat (1:Int)) (IntKind.bits .u64)))))<(lenZ 14 j:Int))/\Ae ((Ah a5 [] (.t (ixT 14 j (Int.toNat (i64.wrap (Int.fdiv (IntKind.u64.wrap (i64.wrap (s+y))) (2^(min (Int.toNat (1:Int)) (IntKind.bits .u64)))))))) 0 14).map TV.agg) (fun (x1:TV)=>AM [.str,.int .i64,.bool,.bool,.str,.int .i64,.int .i64,.int .i64,.int .i64,.int .i64,.str,.tv,.tv,.tv] x1 (fun (s1:B8) (n1:Int) (b1 b2:Bool) (s2:B8) (n2 n3 n4 n5 n6:Int) (s3:B8) (v1 v2 v3:TV)=>((0<=a1/\a1<(lenZ 14 j:Int))/\Ae ((Ah a5 [] (.t (ixT 14 j a1.toNat)) 0 14).map TV.agg) (fun (x2:TV)=>AM [.str,.int .i64,.bool,.bool,.str,.int .i64,.int .i64,.int .i64,.int .i64,.int .i64,.str,.tv,.tv,.tv] x2 (fun (s4:B8) (n7:Int) (b3 b4:Bool) (s5:B8) (n8 n9 p1 m1 k3:Int) (s6:B8) (v4 v5 v6:TV)=>GJ PR w [(.agg [.str s1,.int .i64 n1,.bool b1,.bool b2,.str s2,.int .i64 n2,.int .i64 n3,.int .i64 n4,.int .i64 n5,.int .i64 n6,.str s3,v1,v2,v3]),(.agg [.str s4,.int .i64 n7,.bool b3,.bool b4,.str s5,.int .i64 n8,.int .i64 n9,.int .i64 p1,.int .i64 m1,.int .i64 k3,.str s6,v4,v5,v6])] [.one (.int .i64)] a5 (fun (m6:Int) c9=>BId (m6<0) ((I1 ((i64.wrap ((i64.wrap (Int.fdiv (IntKind.u64.wrap (i64.wrap (s+y))) (2^(min (Int.toNat (1:Int)) (IntKind.bits .u64)))))+(1:Int)))) y j a1 w c9/\M1 ((i64.wrap ((i64.wrap (Int.fdiv (IntKind.u64.wrap (i64.wrap (s+y))) (2^(min (Int.toNat (1:Int)) (IntKind.bits .u64)))))+(1:Int)))) y j a1 w c9<M1 s y j a1 w a5)) ((I1 s ((i64.wrap (Int.fdiv (IntKind.u64.wrap (i64.wrap (s+y))) (2^(min (Int.toNat (1:Int)) (IntKind.bits .u64)))))) j a1 w c9/\M1 s ((i64.wrap (Int.fdiv (IntKind.u64.wrap (i64.wrap (s+y))) (2^(min (Int.toNat (1:Int)) (IntKind.bits .u64)))))) j a1 w c9<M1 s y j a1 w a5)))))))))) (∃(I2:Int->TV->Int->St->Prop) (M2:Int->TV->Int->St->Nat),(I2 a1 j s a5)/\∀q o c0 a7,I2 q o c0 a7->(BId (q<(i64.wrap (c0-(1:Int)))) (((0<=(i64.wrap (q+(1:Int)))/\(i64.wrap (q+(1:Int)))<(lenZ 14 o:Int))/\Ae ((Ah a7 [] (.t (ixT 14 o (Int.toNat (i64.wrap (q+(1:Int)))))) 0 14).map TV.agg) (fun (x3:TV)=>AM [.str,.int .i64,.bool,.bool,.str,.int .i64,.int .i64,.int .i64,.int .i64,.int .i64,.str,.tv,.tv,.tv] x3 (fun (s7:B8) (d9:Int) (b5 b6:Bool) (s8:B8) (f5 g0 f3 f9 d6:Int) (s9:B8) (v7 v8 v9:TV)=>((0<=q/\q<(lenZ 14 o:Int))/\Ae ((Ah a7 [] (.t (ixT 14 o q.toNat)) 0 14).map TV.agg) (fun (x4:TV)=>AM [.str,.int .i64,.bool,.bool,.str,.int .i64,.int .i64,.int .i64,.int .i64,.int .i64,.str,.tv,.tv,.tv] x4 (fun (h4:B8) (g2:Int) (b7 b8:Bool) (i0:B8) (d4 f6 g5 i1 h9:Int) (g9:B8) (h5 e1 h7:TV)=>((0<=q/\q<(lenZ 14 o:Int))/\need (List.all [.str s7,.int .i64 d9,.bool b5,.bool b6,.str s8,.int .i64 f5,.int .i64 g0,.int .i64 f3,.int .i64 f9,.int .i64 d6,.str s9,v7,v8,v9] As) (stB a7 (ixT 14 o q.toNat) [.str s7,.int .i64 d9,.bool b5,.bool b6,.str s8,.int .i64 f5,.int .i64 g0,.int .i64 f3,.int .i64 f9,.int .i64 d6,.str s9,v7,v8,v9] (fun o1=>((0<=(i64.wrap (q+(1:Int)))/\(i64.wrap (q+(1:Int)))<(lenZ 14 o:Int))/\need (List.all [.str h4,.int .i64 g2,.bool b7,.bool b8,.str i0,.int .i64 d4,.int .i64 f6,.int .i64 g5,.int .i64 i1,.int .i64 h9,.str g9,h5,e1,h7] As) (stB o1 (ixT 14 o (Int.toNat (i64.wrap (q+(1:Int))))) [.str h4,.int .i64 g2,.bool b7,.bool b8,.str i0,.int .i64 d4,.int .i64 f6,.int .i64 g5,.int .i64 i1,.int .i64 h9,.str g9,h5,e1,h7] (fun g3=>(I2 ((i64.wrap (q+(1:Int)))) o c0 g3/\M2 ((i64.wrap (q+(1:Int)))) o c0 g3<M2 q o c0 a7)))))))))))))) (K a7))))) (BId ((i64.wrap (b-m))=(1:Int)) (∃(I3:Int->Int->TV->Int->TV->St->Prop) (M3:Int->Int->TV->Int->TV->St->Nat),(I3 a m data m cmp st)/\∀u z l a0 v a6,I3 u z l a0 v a6->(BId (u<z) (((0<=a0/\a0<(lenZ 14 l:Int))/\Ae ((Ah a6 [] (.t (ixT 14 l a0.toNat)) 0 14).map TV.agg) (fun (x5:TV)=>AM [.str,.int .i64,.bool,.bool,.str,.int .i64,.int .i64,.int .i64,.int .i64,.int .i64,.str,.tv,.tv,.tv] x5 (fun (k9:B8) (j5:Int) (b9 m4:Bool) (l9:B8) (o9 j9 m5 o4 o7:Int) (l1:B8) (p7 n0 p5:TV)=>((0<=(i64.wrap (Int.fdiv (IntKind.u64.wrap (i64.wrap (u+z))) (2^(min (Int.toNat (1:Int)) (IntKind.bits .u64)))))/\(i64.wrap (Int.fdiv (IntKind.u64.wrap (i64.wrap (u+z))) (2^(min (Int.toNat (1:Int)) (IntKind.bits .u64)))))<(lenZ 14 l:Int))/\Ae ((Ah a6 [] (.t (ixT 14 l (Int.toNat (i64.wrap (Int.fdiv (IntKind.u64.wrap (i64.wrap (u+z))) (2^(min (Int.toNat (1:Int)) (IntKind.bits .u64)))))))) 0 14).map TV.agg) (fun (x6:TV)=>AM [.str,.int .i64,.bool,.bool,.str,.int .i64,.int .i64,.int .i64,.int .i64,.int .i64,.str,.tv,.tv,.tv] x6 (fun (m0:B8) (p9:Int) (l6 q1:Bool) (k0:B8) (m9 q3 o0 m3 p0:Int) (o2:B8) (j4 k2 o5:TV)=>GJ PR v [(.agg [.str k9,.int .i64 j5,.bool b9,.bool m4,.str l9,.int .i64 o9,.int .i64 j9,.int .i64 m5,.int .i64 o4,.int .i64 o7,.str l1,p7,n0,p5]),(.agg [.str m0,.int .i64 p9,.bool l6,.bool q1,.str k0,.int .i64 m9,.int .i64 q3,.int .i64 o0,.int .i64 m3,.int .i64 p0,.str o2,j4,k2,o5])] [.one (.int .i64)] a6 (fun (l0:Int) c6=>BIf (!(decide (l0<0))) ((I3 ((i64.wrap ((i64.wrap (Int.fdiv (IntKind.u64.wrap (i64.wrap (u+z))) (2^(min (Int.toNat (1:Int)) (IntKind.bits .u64)))))+(1:Int)))) z l a0 v c6/\M3 ((i64.wrap ((i64.wrap (Int.fdiv (IntKind.u64.wrap (i64.wrap (u+z))) (2^(min (Int.toNat (1:Int)) (IntKind.bits .u64)))))+(1:Int)))) z l a0 v c6<M3 u z l a0 v a6)) ((I3 u ((i64.wrap (Int.fdiv (IntKind.u64.wrap (i64.wrap (u+z))) (2^(min (Int.toNat (1:Int)) (IntKind.bits .u64)))))) l a0 v c6/\M3 u ((i64.wrap (Int.fdiv (IntKind.u64.wrap (i64.wrap (u+z))) (2^(min (Int.toNat (1:Int)) (IntKind.bits .u64)))))) l a0 v c6<M3 u z l a0 v a6)))))))))) (∃(I4:Int->TV->Int->St->Prop) (M4:Int->TV->Int->St->Nat),(I4 a0 l u a6)/\∀p k c2 a9,I4 p k c2 a9->(BId (c2<p) (((0<=(i64.wrap (p-(1:Int)))/\(i64.wrap (p-(1:Int)))<(lenZ 14 k:Int))/\Ae ((Ah a9 [] (.t (ixT 14 k (Int.toNat (i64.wrap (p-(1:Int)))))) 0 14).map TV.agg) (fun (x7:TV)=>AM [.str,.int .i64,.bool,.bool,.str,.int .i64,.int .i64,.int .i64,.int .i64,.int .i64,.str,.tv,.tv,.tv] x7 (fun (e3:B8) (f8:Int) (e7 g4:Bool) (h3:B8) (e5 g6 f4 d3 f0:Int) (e9:B8) (g7 e2 f7:TV)=>((0<=p/\p<(lenZ 14 k:Int))/\Ae ((Ah a9 [] (.t (ixT 14 k p.toNat)) 0 14).map TV.agg) (fun (x8:TV)=>AM [.str,.int .i64,.bool,.bool,.str,.int .i64,.int .i64,.int .i64,.int .i64,.int .i64,.str,.tv,.tv,.tv] x8 (fun (h6:B8) (e8:Int) (h1 i2:Bool) (i3:B8) (e6 d7 e4 d8 f2:Int) (h8:B8) (d5 g1 f1:TV)=>((0<=p/\p<(lenZ 14 k:Int))/\need (List.all [.str e3,.int .i64 f8,.bool e7,.bool g4,.str h3,.int .i64 e5,.int .i64 g6,.int .i64 f4,.int .i64 d3,.int .i64 f0,.str e9,g7,e2,f7] As) (stB a9 (ixT 14 k p.toNat) [.str e3,.int .i64 f8,.bool e7,.bool g4,.str h3,.int .i64 e5,.int .i64 g6,.int .i64 f4,.int .i64 d3,.int .i64 f0,.str e9,g7,e2,f7] (fun k7=>((0<=(i64.wrap (p-(1:Int)))/\(i64.wrap (p-(1:Int)))<(lenZ 14 k:Int))/\need (List.all [.str h6,.int .i64 e8,.bool h1,.bool i2,.str i3,.int .i64 e6,.int .i64 d7,.int .i64 e4,.int .i64 d8,.int .i64 f2,.str h8,d5,g1,f1] As) (stB k7 (ixT 14 k (Int.toNat (i64.wrap (p-(1:Int))))) [.str h6,.int .i64 e8,.bool h1,.bool i2,.str i3,.int .i64 e6,.int .i64 d7,.int .i64 e4,.int .i64 d8,.int .i64 f2,.str h8,d5,g1,f1] (fun d1=>(I4 ((i64.wrap (p-(1:Int)))) k c2 d1/\M4 ((i64.wrap (p-(1:Int)))) k c2 d1<M4 p k c2 a9)))))))))))))) (K a9))))) (∃(C1:Int->Int->TV->Int->Int->Int->TV->Int->Int->St->Prop),(BId ((i64.wrap (Int.fdiv (IntKind.u64.wrap (i64.wrap (a+b))) (2^(min (Int.toNat (1:Int)) (IntKind.bits .u64)))))<m) (C1 ((i64.wrap ((i64.wrap ((i64.wrap (Int.fdiv (IntKind.u64.wrap (i64.wrap (a+b))) (2^(min (Int.toNat (1:Int)) (IntKind.bits .u64)))))+m))-b))) ((i64.wrap (Int.fdiv (IntKind.u64.wrap (i64.wrap (a+b))) (2^(min (Int.toNat (1:Int)) (IntKind.bits .u64)))))) data a m b cmp ((i64.wrap (Int.fdiv (IntKind.u64.wrap (i64.wrap (a+b))) (2^(min (Int.toNat (1:Int)) (IntKind.bits .u64)))))) ((i64.wrap ((i64.wrap (Int.fdiv (IntKind.u64.wrap (i64.wrap (a+b))) (2^(min (Int.toNat (1:Int)) (IntKind.bits .u64)))))+m))) st) (C1 a m data a m b cmp ((i64.wrap (Int.fdiv (IntKind.u64.wrap (i64.wrap (a+b))) (2^(min (Int.toNat (1:Int)) (IntKind.bits .u64)))))) ((i64.wrap ((i64.wrap (Int.fdiv (IntKind.u64.wrap (i64.wrap (a+b))) (2^(min (Int.toNat (1:Int)) (IntKind.bits .u64)))))+m))) st))/\∀a8 g8 c1 e0 h0 h2 c7 c8 d0 d2,C1 a8 g8 c1 e0 h0 h2 c7 c8 d0 d2->(∃(I5:Int->Int->TV->Int->Int->Int->TV->Int->Int->Int->St->Prop) (M5:Int->Int->TV->Int->Int->Int->TV->Int->Int->Int->St->Nat),(I5 a8 g8 c1 e0 h0 h2 c7 c8 d0 ((i64.wrap (d0-(1:Int)))) d2)/\∀c r e x a3 n g d f a2 i,I5 c r e x a3 n g d f a2 i->(BId (c<r) (((0<=(i64.wrap (a2-(i64.wrap (Int.fdiv (IntKind.u64.wrap (i64.wrap (c+r))) (2^(min (Int.toNat (1:Int)) (IntKind.bits .u64)))))))/\(i64.wrap (a2-(i64.wrap (Int.fdiv (IntKind.u64.wrap (i64.wrap (c+r))) (2^(min (Int.toNat (1:Int)) (IntKind.bits .u64)))))))<(lenZ 14 e:Int))/\Ae ((Ah i [] (.t (ixT 14 e (Int.toNat (i64.wrap (a2-(i64.wrap (Int.fdiv (IntKind.u64.wrap (i64.wrap (c+r))) (2^(min (Int.toNat (1:Int)) (IntKind.bits .u64)))))))))) 0 14).map TV.agg) (fun (x9:TV)=>AM [.str,.int .i64,.bool,.bool,.str,.int .i64,.int .i64,.int .i64,.int .i64,.int .i64,.str,.tv,.tv,.tv] x9 (fun (j7:B8) (k5:Int) (p8 q0:Bool) (q2:B8) (m7 j3 l4 l5 o6:Int) (m2:B8) (p6 p3 k1:TV)=>((0<=(i64.wrap (Int.fdiv (IntKind.u64.wrap (i64.wrap (c+r))) (2^(min (Int.toNat (1:Int)) (IntKind.bits .u64)))))/\(i64.wrap (Int.fdiv (IntKind.u64.wrap (i64.wrap (c+r))) (2^(min (Int.toNat (1:Int)) (IntKind.bits .u64)))))<(lenZ 14 e:Int))/\Ae ((Ah i [] (.t (ixT 14 e (Int.toNat (i64.wrap (Int.fdiv (IntKind.u64.wrap (i64.wrap (c+r))) (2^(min (Int.toNat (1:Int)) (IntKind.bits .u64)))))))) 0 14).map TV.agg) (fun (p2:TV)=>AM [.str,.int .i64,.bool,.bool,.str,.int .i64,.int .i64,.int .i64,.int .i64,.int .i64,.str,.tv,.tv,.tv] p2 (fun (l7:B8) (k6:Int) (o8 o3:Bool) (p4:B8) (l8 l2 k8 j8 j6:Int) (m8:B8) (l3 k4 q4:TV)=>GJ PR g [(.agg [.str j7,.int .i64 k5,.bool p8,.bool q0,.str q2,.int .i64 m7,.int .i64 j3,.int .i64 l4,.int .i64 l5,.int .i64 o6,.str m2,p6,p3,k1]),(.agg [.str l7,.int .i64 k6,.bool o8,.bool o3,.str p4,.int .i64 l8,.int .i64 l2,.int .i64 k8,.int .i64 j8,.int .i64 j6,.str m8,l3,k4,q4])] [.one (.int .i64)] i (fun (q5:Int) b0=>BIf (!(decide (q5<0))) ((I5 ((i64.wrap ((i64.wrap (Int.fdiv (IntKind.u64.wrap (i64.wrap (c+r))) (2^(min (Int.toNat (1:Int)) (IntKind.bits .u64)))))+(1:Int)))) r e x a3 n g d f a2 b0/\M5 ((i64.wrap ((i64.wrap (Int.fdiv (IntKind.u64.wrap (i64.wrap (c+r))) (2^(min (Int.toNat (1:Int)) (IntKind.bits .u64)))))+(1:Int)))) r e x a3 n g d f a2 b0<M5 c r e x a3 n g d f a2 i)) ((I5 c ((i64.wrap (Int.fdiv (IntKind.u64.wrap (i64.wrap (c+r))) (2^(min (Int.toNat (1:Int)) (IntKind.bits .u64)))))) e x a3 n g d f a2 b0/\M5 c ((i64.wrap (Int.fdiv (IntKind.u64.wrap (i64.wrap (c+r))) (2^(min (Int.toNat (1:Int)) (IntKind.bits .u64)))))) e x a3 n g d f a2 b0<M5 c r e x a3 n g d f a2 i)))))))))) (BId (c<a3) (BId (a3<(i64.wrap (f-c))) (CallT PR Bg [e,.int .i64 c,.int .i64 a3,(.int .i64 (i64.wrap (f-c))),g] [] i (fun (a4:St)=>BId (x<c) (BId (c<d) (CallT PR Aj [e,.int .i64 x,.int .i64 c,.int .i64 d,g] [] a4 (fun (c5:St)=>BId (d<(i64.wrap (f-c))) (BId ((i64.wrap (f-c))<n) (CallT PR Aj [e,.int .i64 d,(.int .i64 (i64.wrap (f-c))),.int .i64 n,g] [] c5 (fun (i8:St)=>K i8)) (K c5)) (K c5))) (BId (d<(i64.wrap (f-c))) (BId ((i64.wrap (f-c))<n) (CallT PR Aj [e,.int .i64 d,(.int .i64 (i64.wrap (f-c))),.int .i64 n,g] [] a4 (fun (i7:St)=>K i7)) (K a4)) (K a4))) (BId (d<(i64.wrap (f-c))) (BId ((i64.wrap (f-c))<n) (CallT PR Aj [e,.int .i64 d,(.int .i64 (i64.wrap (f-c))),.int .i64 n,g] [] a4 (fun (i5:St)=>K i5)) (K a4)) (K a4)))) (BId (x<c) (BId (c<d) (CallT PR Aj [e,.int .i64 x,.int .i64 c,.int .i64 d,g] [] i (fun (c4:St)=>BId (d<(i64.wrap (f-c))) (BId ((i64.wrap (f-c))<n) (CallT PR Aj [e,.int .i64 d,(.int .i64 (i64.wrap (f-c))),.int .i64 n,g] [] c4 (fun (i4:St)=>K i4)) (K c4)) (K c4))) (BId (d<(i64.wrap (f-c))) (BId ((i64.wrap (f-c))<n) (CallT PR Aj [e,.int .i64 d,(.int .i64 (i64.wrap (f-c))),.int .i64 n,g] [] i (fun (i9:St)=>K i9)) (K i)) (K i))) (BId (d<(i64.wrap (f-c))) (BId ((i64.wrap (f-c))<n) (CallT PR Aj [e,.int .i64 d,(.int .i64 (i64.wrap (f-c))),.int .i64 n,g] [] i (fun (j1:St)=>K j1)) (K i)) (K i)))) (BId (x<c) (BId (c<d) (CallT PR Aj [e,.int .i64 x,.int .i64 c,.int .i64 d,g] [] i (fun (c3:St)=>BId (d<(i64.wrap (f-c))) (BId ((i64.wrap (f-c))<n) (CallT PR Aj [e,.int .i64 d,(.int .i64 (i64.wrap (f-c))),.int .i64 n,g] [] c3 (fun (i6:St)=>K i6)) (K c3)) (K c3))) (BId (d<(i64.wrap (f-c))) (BId ((i64.wrap (f-c))<n) (CallT PR Aj [e,.int .i64 d,(.int .i64 (i64.wrap (f-c))),.int .i64 n,g] [] i (fun (j0:St)=>K j0)) (K i)) (K i))) (BId (d<(i64.wrap (f-c))) (BId ((i64.wrap (f-c))<n) (CallT PR Aj [e,.int .i64 d,(.int .i64 (i64.wrap (f-c))),.int .i64 n,g] [] i (fun (j2:St)=>K j2)) (K i)) (K i))))))))):CallT PR Aj [data,.int .i64 a,.int .i64 m,.int .i64 b,cmp] [] st K:=
 Ag (cfg:=⟨[],[],[44,48,96,100,164,168]⟩) (h:=(.seq (.seq .none (.cond (.seq .none (.seq .none (.seq (.block (.loop ⟨[(10,.int .i64),(11,.int .i64),(0,.tv),(1,.int .i64),(4,.tv)],[],[],[]⟩ .none)) (.seq (.seq .none (.block (.loop ⟨[(13,.int .i64),(0,.tv),(10,.int .i64)],[],[],[]⟩ .none))) .none)))) .none)) (.seq (.seq .none (.cond (.seq .none (.seq .none (.seq (.block (.loop ⟨[(14,.int .i64),(15,.int .i64),(0,.tv),(2,.int .i64),(4,.tv)],[],[],[]⟩ .none)) (.seq (.seq .none (.block (.loop ⟨[(17,.int .i64),(0,.tv),(14,.int .i64)],[],[],[]⟩ .none))) .none)))) .none)) (.seq .none (.seq .none (.seq .none (.cut ⟨[(20,.int .i64),(21,.int .i64),(0,.tv),(1,.int .i64),(2,.int .i64),(3,.int .i64),(4,.tv),(18,.int .i64),(19,.int .i64)],[],[],[]⟩ .none (.seq .none (.seq (.block (.loop ⟨[(20,.int .i64),(21,.int .i64),(0,.tv),(1,.int .i64),(2,.int .i64),(3,.int .i64),(4,.tv),(18,.int .i64),(19,.int .i64),(22,.int .i64)],[],[],[]⟩ .none)) .none))))))))) mixed (fun _ _=>Tryz.call318 _ _) Tryz.func318 (by kernel_rfl) (by kernel_rfl) h
theorem D9 (data:TV) (a:Int) (m:Int) (b:Int) (cmp:TV) (st:St) (K:St->Prop) (h:∃(I1:Int->Int->TV->Int->TV->St->Prop) (M1:Int->Int->TV->Int->TV->St->Nat),(I1 ((i64.wrap (m-a))) ((i64.wrap (b-m))) data m cmp st)/\∀e f c g d i,I1 e f c g d i->(BId (e≠f) (BId (f<e) (CallT PR AI [c,(.int .i64 (i64.wrap (g-e))),.int .i64 g,.int .i64 f,d] [] i (fun (k:St)=>(I1 ((i64.wrap (e-f))) f c g d k/\M1 ((i64.wrap (e-f))) f c g d k<M1 e f c g d i))) (CallT PR AI [c,(.int .i64 (i64.wrap (g-e))),(.int .i64 (i64.wrap ((i64.wrap (g+f))-e))),.int .i64 e,d] [] i (fun (j:St)=>(I1 e ((i64.wrap (f-e))) c g d j/\M1 e ((i64.wrap (f-e))) c g d j<M1 e f c g d i)))) (CallT PR AI [c,(.int .i64 (i64.wrap (g-e))),.int .i64 g,.int .i64 e,d] [] i (fun (l:St)=>K l)))):CallT PR Bg [data,.int .i64 a,.int .i64 m,.int .i64 b,cmp] [] st K:=
 Ag (cfg:=⟨[],[],[]⟩) (h:=(.seq .none (.seq .none (.seq (.block (.loop ⟨[(10,.int .i64),(11,.int .i64),(0,.tv),(2,.int .i64),(4,.tv)],[],[],[]⟩ .none)) .none)))) mixed (fun _ _=>Tryz.call329 _ _) Tryz.func329 (by kernel_rfl) (by kernel_rfl) h
theorem DE (data:TV) (a:Int) (b:Int) (n:Int) (cmp:TV) (st:St) (K:St->Prop) (h:∃(I1:Int->TV->Int->Int->Int->St->Prop) (M1:Int->TV->Int->Int->Int->St->Nat),(I1 0 data a b n st)/\∀d c f e i g,I1 d c f e i g->(BId (d<i) (((0<=(i64.wrap (e+d))/\(i64.wrap (e+d))<(lenZ 14 c:Int))/\Ae ((Ah g [] (.t (ixT 14 c (Int.toNat (i64.wrap (e+d))))) 0 14).map TV.agg) (fun (x1:TV)=>AM [.str,.int .i64,.bool,.bool,.str,.int .i64,.int .i64,.int .i64,.int .i64,.int .i64,.str,.tv,.tv,.tv] x1 (fun (s1:B8) (n1:Int) (b1 b2:Bool) (s2:B8) (n2 n3 n4 n5 n6:Int) (s3:B8) (v1 v2 v3:TV)=>((0<=(i64.wrap (f+d))/\(i64.wrap (f+d))<(lenZ 14 c:Int))/\Ae ((Ah g [] (.t (ixT 14 c (Int.toNat (i64.wrap (f+d))))) 0 14).map TV.agg) (fun (x2:TV)=>AM [.str,.int .i64,.bool,.bool,.str,.int .i64,.int .i64,.int .i64,.int .i64,.int .i64,.str,.tv,.tv,.tv] x2 (fun (s4:B8) (n7:Int) (b3 b4:Bool) (s5:B8) (n8 n9 m l k:Int) (s6:B8) (v4 v5 v6:TV)=>((0<=(i64.wrap (f+d))/\(i64.wrap (f+d))<(lenZ 14 c:Int))/\need (List.all [.str s1,.int .i64 n1,.bool b1,.bool b2,.str s2,.int .i64 n2,.int .i64 n3,.int .i64 n4,.int .i64 n5,.int .i64 n6,.str s3,v1,v2,v3] As) (stB g (ixT 14 c (Int.toNat (i64.wrap (f+d)))) [.str s1,.int .i64 n1,.bool b1,.bool b2,.str s2,.int .i64 n2,.int .i64 n3,.int .i64 n4,.int .i64 n5,.int .i64 n6,.str s3,v1,v2,v3] (fun o=>((0<=(i64.wrap (e+d))/\(i64.wrap (e+d))<(lenZ 14 c:Int))/\need (List.all [.str s4,.int .i64 n7,.bool b3,.bool b4,.str s5,.int .i64 n8,.int .i64 n9,.int .i64 m,.int .i64 l,.int .i64 k,.str s6,v4,v5,v6] As) (stB o (ixT 14 c (Int.toNat (i64.wrap (e+d)))) [.str s4,.int .i64 n7,.bool b3,.bool b4,.str s5,.int .i64 n8,.int .i64 n9,.int .i64 m,.int .i64 l,.int .i64 k,.str s6,v4,v5,v6] (fun j=>(I1 ((i64.wrap (d+(1:Int)))) c f e i j/\M1 ((i64.wrap (d+(1:Int)))) c f e i j<M1 d c f e i g)))))))))))))) (K g))):CallT PR AI [data,.int .i64 a,.int .i64 b,.int .i64 n,cmp] [] st K:=
 Ag (cfg:=⟨[],[],[]⟩) (h:=(.seq .none (.block (.loop ⟨[(10,.int .i64),(0,.tv),(1,.int .i64),(2,.int .i64),(3,.int .i64)],[],[],[]⟩ .none)))) mixed (fun _ _=>Tryz.call333 _ _) Tryz.func333 (by kernel_rfl) (by kernel_rfl) h
theorem Ol (st:St) (K:Int->Int->Int->Int->Int->St->Prop) (h:K 48 65536 1048576 1024 65536 st):CallT PR Ez [] [.agg [.int .i64,.int .i64,.int .i64,.int .i64,.int .i64]] st K:=
 Ag (cfg:=⟨[0],[],[]⟩) (h:= .none) mixed (fun _ _=>Tryz.call53 _ _) Tryz.func53 (by kernel_rfl) (by kernel_rfl) h
theorem Os (src:B8) (d_0:Int) (d_1:Int) (d_2:Bool) (d_3:Bool) (l_0:Int) (l_1:Int) (l_2:Int) (l_3:Int) (l_4:Int) (st:St) (K:Int->B8->B8->TV->B8->Int->Int->St->Prop) (h:CallT PR B6 [(.agg [.int .u8 d_0,.int .u8 d_1,.bool d_2,.bool d_3])] [.one .bool] st (fun (b1:Bool) g=>BIf (!b1) (K 0 [] [] .nilSlice [] 0 1 g) (CallT PR Gf [(.agg [.int .i64 l_0,.int .i64 l_1,.int .i64 l_2,.int .i64 l_3,.int .i64 l_4])] [.one .bool] g (fun (b2:Bool) f=>BIf (!b2) (K 0 [] [] .nilSlice [] 0 1 f) (BId (l_2<(src.length:Int)) (K 0 [] [] .nilSlice [] 0 10 f) (CallT PR ER [.str src] [.one (.int .i64)] f (fun (n1:Int) c=>BId ((0:Int)<=n1) (K 0 [] [] .nilSlice [] n1 5 c) (need (List.all [(.map c.nb)] As) (∃(I1:B8->TV->Int->B8->B8->TV->B8->St->Prop) (M1:B8->TV->Int->B8->B8->TV->B8->St->Nat),(I1 src ((.box (c.push (.map []) none).nb 0)) 1 [] [] .nilSlice [] ((c.push (.map []) none).push (.cells [.str src,.int .u8 d_0,.int .u8 d_1,.bool d_2,.bool d_3,.int .i64 l_0,.int .i64 l_1,.int .i64 l_2,.int .i64 l_3,.int .i64 l_4,.int .i64 0,.int .i64 1,.int .i64 0,(.map c.nb),.int .i64 0,.int .i64 0]) (some 180)))/\∀b a n2 s1 s2 v1 s3 d,I1 b a n2 s1 s2 v1 s3 d->(need (isPtr a) (need (isPtr a) (Ae (Ad d [] (.t (Ao a 10)) 0) (fun (x1:TV)=>Af (.int .i64) x1 (fun (n3:Int)=>BId (n3<(b.length:Int)) (need (isSl v1) (CallT PR CO [a,(.int .i64 (lenS v1:Int))] [.agg [.int .i64,.str,.str,.tv,.str],.one .bool] d (fun (n4:Int) (s4 s5:B8) (v2:TV) (s6:B8) (b3:Bool) e=>need (List.all [.int .i64 n4,.str s4,.str s5,v2,.str s6] As) (BIf (!b3) (need (isPtr a) (need (isPtr a) (Ae (Ad e [] (.t (Ao a 14)) 0) (fun (x2:TV)=>Af (.int .i64) x2 (fun (n5:Int)=>need (isPtr a) (need (isPtr a) (Ae (Ad e [] (.t (Ao a 15)) 0) (fun (x3:TV)=>Af (.int .i64) x3 (fun (n6:Int)=>K 0 [] [] .nilSlice [] n5 n6 e))))))))) (need (List.all [.int .i64 n4,.str s4,.str s5,v2,.str s6] As) (BF 79 5 80 v1 1 [.int .i64 n4,.str s4,.str s5,v2,.str s6] e (fun (v3:TV) i=>need (List.all [v3] As) ((I1 b a n2 s1 s2 v3 s3 i/\M1 b a n2 s1 s2 v3 s3 i<M1 b a n2 s1 s2 v1 s3 d))))))))) (need (List.all [.int .i64 n2,.str s1,.str s2,v1,.str s3] As) (K n2 s1 s2 v1 s3 0 0 d)))))))))))))))):CallT PR EC [.str src,(.agg [.int .u8 d_0,.int .u8 d_1,.bool d_2,.bool d_3]),(.agg [.int .i64 l_0,.int .i64 l_1,.int .i64 l_2,.int .i64 l_3,.int .i64 l_4])] [.agg [.int .i64,.str,.str,.tv,.str],.one (.int .i64),.one (.int .i64)] st K:=
 Ag (cfg:=⟨[4,5,6,11,12],[],[]⟩) (h:=(.seq .none (.seq .none (.seq .none (.seq .none (.seq .none (.seq .none (.seq (.block (.loop ⟨[(0,.str),(10,.tv)],[(6,2,0),(11,3,0)],[(2,5),(3,5)],[(3,0,.int .i64),(3,1,.str),(3,2,.str),(3,3,.tv),(3,4,.str)]⟩ .none)) .none)))))))) mixed (fun _ _=>Tryz.call55 _ _) Tryz.func55 (by kernel_rfl) (by kernel_rfl) h
theorem Qq (n_0:Int) (n_1:B8) (n_2:B8) (n_3:TV) (n_4:B8) (st:St) (K:Int->St->Prop) (h:stB (st.push (.cells [.int .i64 0]) (some 3)) (.box st.nb 0) [.int .i64 0] (fun c=>CallT PR DX [(.agg [.int .i64 n_0,.str n_1,.str n_2,n_3,.str n_4]),.int .i64 1,(.box st.nb 0)] [.one (.int .i64)] c (fun (n1:Int) b=>BId (n1≠0) (K n1 b) (CallT PR GE [(.agg [.int .i64 n_0,.str n_1,.str n_2,n_3,.str n_4])] [.one (.int .i64)] b (fun (n2:Int) a=>BId ((1048576:Int)<n2) (K 10 a) (K 0 a)))))):CallT PR G7 [(.agg [.int .i64 n_0,.str n_1,.str n_2,n_3,.str n_4])] [.one (.int .i64)] st K:=
 Ag (cfg:=⟨[1],[],[]⟩) (h:= .none) mixed (fun _ _=>Tryz.call56 _ _) Tryz.func56 (by kernel_rfl) (by kernel_rfl) h
theorem Qp (n_0:Int) (n_1:B8) (n_2:B8) (n_3:TV) (n_4:B8) (st:St) (K:B8->St->Prop) (h:CallT PR E8 [(.box st.nb 0),(.agg [.int .i64 n_0,.str n_1,.str n_2,n_3,.str n_4])] [] (st.push (.cells [.nilPtr,.nilSlice]) (some 188)) (fun (a:St)=>CallT PR A0 [(.box st.nb 0)] [.one .str] a (fun (s1:B8) b=>K s1 b))):CallT PR G6 [(.agg [.int .i64 n_0,.str n_1,.str n_2,n_3,.str n_4])] [.one .str] st K:=
 Ag (cfg:=⟨[1],[],[]⟩) (h:= .none) mixed (fun _ _=>Tryz.call57 _ _) Tryz.func57 (by kernel_rfl) (by kernel_rfl) h
theorem IM (st:St) (K:Int->Int->Bool->Bool->St->Prop) (h:K 44 34 true true st):CallT PR Cc [] [.agg [.int .u8,.int .u8,.bool,.bool]] st K:=
 Ag (cfg:=⟨[0],[],[]⟩) (h:= .none) mixed (fun _ _=>Tryz.call62 _ _) Tryz.func62 (by kernel_rfl) (by kernel_rfl) h
theorem IO (st:St) (K:Int->Int->Int->Int->Int->St->Prop) (h:K 48 65536 1048576 1024 65536 st):CallT PR Dd [] [.agg [.int .i64,.int .i64,.int .i64,.int .i64,.int .i64]] st K:=
 Ag (cfg:=⟨[0],[],[]⟩) (h:= .none) mixed (fun _ _=>Tryz.call63 _ _) Tryz.func63 (by kernel_rfl) (by kernel_rfl) h
theorem Oo (d_0:Int) (d_1:Int) (d_2:Bool) (d_3:Bool) (st:St) (K:Bool->St->Prop) (h:BId (d_0≠9) (BId (d_0<32) (K false st) (BId ((126:Int)<d_0) (K false st) (BId (d_1<33) (K false st) (BId ((126:Int)<d_1) (K false st) (BId (d_0≠d_1) (CallT PR B2 [.int .u8 d_0] [.one .bool] st (fun (b1:Bool) b=>BIf (!b1) (CallT PR B2 [.int .u8 d_1] [.one .bool] b (fun (b2:Bool) c=>K ((!b2)) c)) (K false b))) (K false st)))))) (BId (d_1<33) (K false st) (BId ((126:Int)<d_1) (K false st) (BId (d_0≠d_1) (CallT PR B2 [.int .u8 d_0] [.one .bool] st (fun (b3:Bool) a=>BIf (!b3) (CallT PR B2 [.int .u8 d_1] [.one .bool] a (fun (b4:Bool) d=>K ((!b4)) d)) (K false a))) (K false st))))):CallT PR B6 [(.agg [.int .u8 d_0,.int .u8 d_1,.bool d_2,.bool d_3])] [.one .bool] st K:=
 Ag (cfg:=⟨[1],[],[]⟩) (h:= .none) mixed (fun _ _=>Tryz.call69 _ _) Tryz.func69 (by kernel_rfl) (by kernel_rfl) h
theorem Ok (l_0:Int) (l_1:Int) (l_2:Int) (l_3:Int) (l_4:Int) (st:St) (K:Bool->St->Prop) (h:BId ((1:Int)<=l_0) (BId (l_0<=48) (BId ((1:Int)<=l_1) (BId (l_1<=65536) (BId ((1:Int)<=l_2) (BId (l_2<=1048576) (BId ((0:Int)<=l_3) (BId (l_3<=1024) (BId ((0:Int)<=l_4) (K ((decide (l_4<=65536))) st) (K false st)) (K false st)) (K false st)) (K false st)) (K false st)) (K false st)) (K false st)) (K false st)) (K false st)):CallT PR Gf [(.agg [.int .i64 l_0,.int .i64 l_1,.int .i64 l_2,.int .i64 l_3,.int .i64 l_4])] [.one .bool] st K:=
 Ag (cfg:=⟨[1],[],[]⟩) (h:= .none) mixed (fun _ _=>Tryz.call70 _ _) Tryz.func70 (by kernel_rfl) (by kernel_rfl) h
theorem IN (st:St) (K:Int->Int->Int->Int->Int->St->Prop) (h:CallT PR Dd [] [.agg [.int .i64,.int .i64,.int .i64,.int .i64,.int .i64]] st (fun (n1 n2 n3 n4 n5:Int) a=>K n1 n2 n3 n4 n5 a)):CallT PR Dc [] [.agg [.int .i64,.int .i64,.int .i64,.int .i64,.int .i64]] st K:=
 Ag (cfg:=⟨[0],[],[]⟩) (h:= .none) mixed (fun _ _=>Tryz.call86 _ _) Tryz.func86 (by kernel_rfl) (by kernel_rfl) h
theorem L4 (n_0:Int) (b:B8) (f:B8) (a:TV) (d:B8) (d_0:Int) (d_1:Int) (d_2:Bool) (d_3:Bool) (st:St) (K:TV->Int->St->Prop) (h:CallT PR E9 [(.agg [.int .i64 n_0,.str b,.str f,a,.str d]),(.agg [.int .u8 d_0,.int .u8 d_1,.bool d_2,.bool d_3])] [.one .bool] st (fun (b1:Bool) q=>BIf (!b1) (K .nilSlice 1 q) (need (isSl a) (∃(I1:TV->Int->TV->Int->Int->Int->Bool->Bool->St->Prop) (M1:TV->Int->TV->Int->Int->Int->Bool->Bool->St->Nat),(I1 .nilSlice 0 a ((lenS a:Int)) d_0 d_1 d_2 d_3 q)/\∀e b m f n1 n2 b2 b3 n,I1 e b m f n1 n2 b2 b3 n->(BId (b<f) (((0<=b/\b<(lenZ 5 m:Int))/\Ae ((Ah n [] (.t (ixT 5 m b.toNat)) 0 5).map TV.agg) (fun (x1:TV)=>AM [.int .i64,.str,.str,.tv,.str] x1 (fun (n3:Int) (s1 s2:B8) (v1:TV) (s3:B8)=>need (List.all [.int .i64 n3,.str s1,.str s2,v1,.str s3] As) (need (isSl v1) (∃(I2:TV->Int->TV->TV->Int->Int->TV->Int->Int->Int->Bool->Bool->St->Prop) (M2:TV->Int->TV->TV->Int->Int->TV->Int->Int->Int->Bool->Bool->St->Nat),(I2 .nilSlice 0 e m f b v1 ((lenS v1:Int)) n1 n2 b2 b3 n)/\∀j a c g d k i o n4 n5 b4 b5 l,I2 j a c g d k i o n4 n5 b4 b5 l->(BId (a<o) (((0<=a/\a<(lenZ 5 i:Int))/\Ae ((Ah l [] (.t (ixT 5 i a.toNat)) 0 5).map TV.agg) (fun (x2:TV)=>AM [.int .i64,.str,.str,.tv,.str] x2 (fun (n6:Int) (s4 s5:B8) (v2:TV) (s6:B8)=>need (List.all [.int .i64 n6,.str s4,.str s5,v2,.str s6] As) (((0<=(0:Int)/\(0:Int)<(lenZ 5 v2:Int))/\need (isPtr (ixT 5 v2 (Int.toNat (0:Int)))) (Ae (Ad GO [] (.t (Ao (ixT 5 v2 (Int.toNat (0:Int))) 2)) 0) (fun (x3:TV)=>Af .str x3 (fun (s7:B8)=>CallT PR C9 [.str s7,(.agg [.int .u8 n4,.int .u8 n5,.bool b4,.bool b5])] [.one .str,.one .bool] l (fun (s8:B8) (b6:Bool) s=>BF 9 1 16 j 1 [.str s8] s (fun (v3:TV) p=>(I2 v3 ((i64.wrap (a+(1:Int)))) c g d k i o n4 n5 b4 b5 p/\M2 v3 ((i64.wrap (a+(1:Int)))) c g d k i o n4 n5 b4 b5 p<M2 j a c g d k i o n4 n5 b4 b5 l)))))))))))) (need (List.all [j] As) (need (List.all [j] As) (BF 22 1 24 c 1 [j] l (fun (v4:TV) r=>(I1 v4 ((i64.wrap (k+(1:Int)))) g d n4 n5 b4 b5 r/\M1 v4 ((i64.wrap (k+(1:Int)))) g d n4 n5 b4 b5 r<M1 e b m f n1 n2 b2 b3 n)))))))))))) (K e 0 n)))))):CallT PR ES [(.agg [.int .i64 n_0,.str b,.str f,a,.str d]),(.agg [.int .u8 d_0,.int .u8 d_1,.bool d_2,.bool d_3])] [.one .tv,.one (.int .i64)] st K:=
 Ag (cfg:=⟨[2,3,8,11],[],[]⟩) (h:=(.seq .none (.seq .none (.seq .none (.seq (.seq .none (.block (.loop ⟨[(6,.tv),(21,.int .i64),(19,.tv),(20,.int .i64)],[(3,1,0)],[(1,4)],[(1,0,.int .u8),(1,1,.int .u8),(1,2,.bool),(1,3,.bool)]⟩ (.seq .none (.seq .none (.seq (.block (.seq .none (.seq .none (.seq (.seq .none (.block (.loop ⟨[(9,.tv),(28,.int .i64),(6,.tv),(19,.tv),(20,.int .i64),(21,.int .i64),(26,.tv),(27,.int .i64)],[(3,1,0)],[(1,4)],[(1,0,.int .u8),(1,1,.int .u8),(1,2,.bool),(1,3,.bool)]⟩ .none))) .none)))) .none)))))) .none))))) mixed (fun _ _=>Tryz.call105 _ _) Tryz.func105 (by kernel_rfl) (by kernel_rfl) h
theorem NH (n_0:Int) (b:B8) (f:B8) (a:TV) (d:B8) (d_0:Int) (d_1:Int) (d_2:Bool) (d_3:Bool) (st:St) (K:TV->Int->St->Prop) (h:CallT PR E9 [(.agg [.int .i64 n_0,.str b,.str f,a,.str d]),(.agg [.int .u8 d_0,.int .u8 d_1,.bool d_2,.bool d_3])] [.one .bool] st (fun (b1:Bool) q=>BIf (!b1) (K .nilSlice 1 q) (need (isSl a) (∃(I1:TV->Int->TV->Int->Int->Int->Bool->Bool->St->Prop) (M1:TV->Int->TV->Int->Int->Int->Bool->Bool->St->Nat),(I1 .nilSlice 0 a ((lenS a:Int)) d_0 d_1 d_2 d_3 q)/\∀e b m f n1 n2 b2 b3 n,I1 e b m f n1 n2 b2 b3 n->(BId (b<f) (((0<=b/\b<(lenZ 5 m:Int))/\Ae ((Ah n [] (.t (ixT 5 m b.toNat)) 0 5).map TV.agg) (fun (x1:TV)=>AM [.int .i64,.str,.str,.tv,.str] x1 (fun (n3:Int) (s1 s2:B8) (v1:TV) (s3:B8)=>need (List.all [.int .i64 n3,.str s1,.str s2,v1,.str s3] As) (need (isSl v1) (∃(I2:TV->Int->TV->TV->Int->Int->TV->Int->Int->Int->Bool->Bool->St->Prop) (M2:TV->Int->TV->TV->Int->Int->TV->Int->Int->Int->Bool->Bool->St->Nat),(I2 .nilSlice 0 e m f b v1 ((lenS v1:Int)) n1 n2 b2 b3 n)/\∀j a c g d k i o n4 n5 b4 b5 l,I2 j a c g d k i o n4 n5 b4 b5 l->(BId (a<o) (((0<=a/\a<(lenZ 5 i:Int))/\Ae ((Ah l [] (.t (ixT 5 i a.toNat)) 0 5).map TV.agg) (fun (x2:TV)=>AM [.int .i64,.str,.str,.tv,.str] x2 (fun (n6:Int) (s4 s5:B8) (v2:TV) (s6:B8)=>need (List.all [.int .i64 n6,.str s4,.str s5,v2,.str s6] As) (((0<=(0:Int)/\(0:Int)<(lenZ 5 v2:Int))/\need (isPtr (ixT 5 v2 (Int.toNat (0:Int)))) (Ae (Ad GO [] (.t (Ao (ixT 5 v2 (Int.toNat (0:Int))) 2)) 0) (fun (x3:TV)=>Af .str x3 (fun (s7:B8)=>CallT PR C9 [.str s7,(.agg [.int .u8 n4,.int .u8 n5,.bool b4,.bool b5])] [.one .str,.one .bool] l (fun (s8:B8) (b6:Bool) s=>BF 4 1 1 j 1 [.bool b6] s (fun (v3:TV) p=>(I2 v3 ((i64.wrap (a+(1:Int)))) c g d k i o n4 n5 b4 b5 p/\M2 v3 ((i64.wrap (a+(1:Int)))) c g d k i o n4 n5 b4 b5 p<M2 j a c g d k i o n4 n5 b4 b5 l)))))))))))) (need (List.all [j] As) (need (List.all [j] As) (BF 164 1 24 c 1 [j] l (fun (v4:TV) r=>(I1 v4 ((i64.wrap (k+(1:Int)))) g d n4 n5 b4 b5 r/\M1 v4 ((i64.wrap (k+(1:Int)))) g d n4 n5 b4 b5 r<M1 e b m f n1 n2 b2 b3 n)))))))))))) (K e 0 n)))))):CallT PR Fy [(.agg [.int .i64 n_0,.str b,.str f,a,.str d]),(.agg [.int .u8 d_0,.int .u8 d_1,.bool d_2,.bool d_3])] [.one .tv,.one (.int .i64)] st K:=
 Ag (cfg:=⟨[2,3,8,11],[],[]⟩) (h:=(.seq .none (.seq .none (.seq .none (.seq (.seq .none (.block (.loop ⟨[(6,.tv),(21,.int .i64),(19,.tv),(20,.int .i64)],[(3,1,0)],[(1,4)],[(1,0,.int .u8),(1,1,.int .u8),(1,2,.bool),(1,3,.bool)]⟩ (.seq .none (.seq .none (.seq (.block (.seq .none (.seq .none (.seq (.seq .none (.block (.loop ⟨[(9,.tv),(28,.int .i64),(6,.tv),(19,.tv),(20,.int .i64),(21,.int .i64),(26,.tv),(27,.int .i64)],[(3,1,0)],[(1,4)],[(1,0,.int .u8),(1,1,.int .u8),(1,2,.bool),(1,3,.bool)]⟩ .none))) .none)))) .none)))))) .none))))) mixed (fun _ _=>Tryz.call106 _ _) Tryz.func106 (by kernel_rfl) (by kernel_rfl) h
theorem L3 (src:B8) (st:St) (K:Int->St->Prop) (h:∃(I1:Int->B8->St->Prop) (M1:Int->B8->St->Nat),(I1 0 src st)/\∀b a c,I1 b a c->(BId (b<(a.length:Int)) (CallT PR E7 [.str a,.int .i64 b] [.one (.int .i64),.one (.int .i64)] c (fun (n1 n2:Int) d=>BId (n2=0) (K b d) ((I1 ((i64.wrap (b+n2))) a d/\M1 ((i64.wrap (b+n2))) a d<M1 b a c)))) (K (-1) c))):CallT PR ER [.str src] [.one (.int .i64)] st K:=
 Ag (cfg:=⟨[],[],[]⟩) (h:=(.seq .none (.seq (.seq .none (.block (.loop ⟨[(3,.int .i64),(0,.str)],[],[],[]⟩ .none))) .none))) mixed (fun _ _=>Tryz.call118 _ _) Tryz.func118 (by kernel_rfl) (by kernel_rfl) h
theorem HU (p:Nat) (number:Int) (st:St) (K:Int->B8->B8->TV->B8->Bool->St->Prop) (h:BId (number=0) (Ae (Ad st [] (.t (.box p 3)) 0) (fun (x1:TV)=>Af .bool x1 (fun (b1:Bool)=>stB (st.push (.cells [.int .i64 0,(.str []),(.str []),.nilSlice,(.str [])]) (some 79)) (.box st.nb 0) [.int .i64 8,(.str []),(.str []),.nilSlice,(.str [])] (fun st1=>BIf (!b1) (CallT PR BB [(.box p 0),.int .i64 2] [.one .bool] st1 (fun (b2:Bool) k8=>BIf (!b2) (Ae ((Ah k8 [] (.t (.box st.nb 0)) 0 5).map TV.agg) (fun (x2:TV)=>AM [.int .i64,.str,.str,.tv,.str] x2 (fun (n1:Int) (s1 s2:B8) (v1:TV) (s3:B8)=>need (List.all [.int .i64 n1,.str s1,.str s2,v1,.str s3] As) (K n1 s1 s2 v1 s3 false k8)))) (∃(I1:TV->Int->Bool->TV->St->Prop) (M1:TV->Int->Bool->TV->St->Nat),(I1 ((.box p 0)) number b1 ((.box st.nb 0)) k8)/\∀d j l b x,I1 d j l b x->(BId ((0:Int)<j) (need (isPtr b) (Ae (Ad x [] (.t (Ao b 3)) 0) (fun (v2:TV)=>need (isSl v2) (need (isPtr d) (need (isPtr d) (Ae (Ad x [] (.t (Ao d 12)) 0) (fun (x4:TV)=>Af (.int .i64) x4 (fun (n2:Int)=>BId (n2<=(lenS v2:Int)) (Ae ((Ah x [] (.t b) 0 5).map TV.agg) (fun (x5:TV)=>AM [.int .i64,.str,.str,.tv,.str] x5 (fun (n3:Int) (s4 s5:B8) (v3:TV) (s6:B8)=>need (isPtr d) (need (isPtr d) (Ae (Ad x [] (.t (Ao d 10)) 0) (fun (x6:TV)=>Af (.int .i64) x6 (fun (n4:Int)=>CallT PR Al [d,.int .i64 n4,.int .i64 10] [.one .bool] x (fun (b3:Bool) y9=>(Ah y9 [] (.t b) 0 5=some [.int .i64 n3,.str s4,.str s5,v3,.str s6]/\need (List.all [.int .i64 n3,.str s4,.str s5,v3,.str s6] As) (K n3 s4 s5 v3 s6 b3 y9)))))))))) (CallT PR AW [d,.bool l] [.agg [.int .i64,.str,.str,.tv,.str],.one .bool] x (fun (n5:Int) (s7 s8:B8) (v4:TV) (s9:B8) (b4:Bool) f3=>need (List.all [.int .i64 n5,.str s7,.str s8,v4,.str s9] As) (BIf (!b4) (Ae ((Ah f3 [] (.t b) 0 5).map TV.agg) (fun (x7:TV)=>AM [.int .i64,.str,.str,.tv,.str] x7 (fun (n6:Int) (s10 z5:B8) (v5:TV) (s12:B8)=>need (List.all [.int .i64 n6,.str s10,.str z5,v5,.str s12] As) (K n6 s10 z5 v5 s12 false f3)))) (need (isPtr b) (Ae (Ad f3 [] (.t (Ao b 3)) 0) (fun (v6:TV)=>need (isSl v6) (need (isPtr b) (need (List.all [.int .i64 n5,.str s7,.str s8,v4,.str s9] As) ((((lenS v6:Int)=(lenS v6:Int))/\BF 79 5 80 v6 1 [.int .i64 n5,.str s7,.str s8,v4,.str s9] f3 (fun (v7:TV) st6=>stB st6 (Ao b 3) [v7] (fun e9=>need (isSl v4) (BId ((lenS v4:Int)=(1:Int)) (need (isPtr d) (need (isPtr d) (Ae (Ad e9 [] (.t (Ao d 10)) 0) (fun (x9:TV)=>Af (.int .i64) x9 (fun (n7:Int)=>CallT PR AT [d,b] [.one .bool] e9 (fun (b5:Bool) w=>BIf (!b5) (Ae ((Ah w [] (.t b) 0 5).map TV.agg) (fun (x10:TV)=>AM [.int .i64,.str,.str,.tv,.str] x10 (fun (n8:Int) (t1 s14:B8) (v8:TV) (x0:B8)=>need (List.all [.int .i64 n8,.str t1,.str s14,v8,.str x0] As) (K n8 t1 s14 v8 x0 false w)))) (BId (j=0) (need (isPtr b) (Ae (Ad w [] (.t (Ao b 3)) 0) (fun (v9:TV)=>need (isSl v9) (need (isPtr d) (need (isPtr d) (stB w (Ao d 12) [(.int .i64 (lenS v9:Int))] (fun a3=>need (isPtr b) (Ae (Ad a3 [] (.t (Ao b 3)) 0) (fun (v10:TV)=>need (isSl v10) (need (isPtr d) (need (isPtr d) (Ae (Ad a3 [] (.t (Ao d 12)) 0) (fun (x13:TV)=>Af (.int .i64) x13 (fun (n9:Int)=>BId ((lenS v10:Int)<n9) (Ae ((Ah a3 [] (.t b) 0 5).map TV.agg) (fun (x14:TV)=>AM [.int .i64,.str,.str,.tv,.str] x14 (fun (k4:Int) (g2 i4:B8) (f8:TV) (m4:B8)=>CallT PR Al [d,.int .i64 n7,.int .i64 10] [.one .bool] a3 (fun (b6:Bool) o6=>(Ah o6 [] (.t b) 0 5=some [.int .i64 k4,.str g2,.str i4,f8,.str m4]/\need (List.all [.int .i64 k4,.str g2,.str i4,f8,.str m4] As) (K k4 g2 i4 f8 m4 b6 o6)))))) (Ae ((Ah a3 [] (.t b) 0 5).map TV.agg) (fun (x15:TV)=>AM [.int .i64,.str,.str,.tv,.str] x15 (fun (y0:Int) (t3 s20:B8) (z4:TV) (t5:B8)=>need (List.all [.int .i64 y0,.str t3,.str s20,z4,.str t5] As) (K y0 t3 s20 z4 t5 true a3)))))))))))))))))) (need (isPtr b) (Ae (Ad w [] (.t (Ao b 3)) 0) (fun (v13:TV)=>need (isSl v13) (need (isPtr d) (need (isPtr d) (Ae (Ad w [] (.t (Ao d 12)) 0) (fun (x17:TV)=>Af (.int .i64) x17 (fun (n12:Int)=>BId ((lenS v13:Int)<n12) (Ae ((Ah w [] (.t b) 0 5).map TV.agg) (fun (x18:TV)=>AM [.int .i64,.str,.str,.tv,.str] x18 (fun (g8:Int) (k9 r1:B8) (k2:TV) (r0:B8)=>CallT PR Al [d,.int .i64 n7,.int .i64 10] [.one .bool] w (fun (b7:Bool) g7=>(Ah g7 [] (.t b) 0 5=some [.int .i64 g8,.str k9,.str r1,k2,.str r0]/\need (List.all [.int .i64 g8,.str k9,.str r1,k2,.str r0] As) (K g8 k9 r1 k2 r0 b7 g7)))))) (Ae ((Ah w [] (.t b) 0 5).map TV.agg) (fun (x19:TV)=>AM [.int .i64,.str,.str,.tv,.str] x19 (fun (r9:Int) (s25 s26:B8) (w0:TV) (y1:B8)=>need (List.all [.int .i64 r9,.str s25,.str s26,w0,.str y1] As) (K r9 s25 s26 w0 y1 true w))))))))))))))))))) ((I1 d j l b e9/\M1 d j l b e9<M1 d j l b x))))))))))))))))))))))) (CallT PR AW [d,.bool l] [.agg [.int .i64,.str,.str,.tv,.str],.one .bool] x (fun (j7:Int) (p5 q6:B8) (c3:TV) (k0:B8) (b8:Bool) c1=>need (List.all [.int .i64 j7,.str p5,.str q6,c3,.str k0] As) (BIf (!b8) (Ae ((Ah c1 [] (.t b) 0 5).map TV.agg) (fun (x20:TV)=>AM [.int .i64,.str,.str,.tv,.str] x20 (fun (u6:Int) (s31 s32:B8) (v17:TV) (r6:B8)=>need (List.all [.int .i64 u6,.str s31,.str s32,v17,.str r6] As) (K u6 s31 s32 v17 r6 false c1)))) (need (isPtr b) (Ae (Ad c1 [] (.t (Ao b 3)) 0) (fun (f2:TV)=>need (isSl f2) (need (isPtr b) (need (List.all [.int .i64 j7,.str p5,.str q6,c3,.str k0] As) ((((lenS f2:Int)=(lenS f2:Int))/\BF 79 5 80 f2 1 [.int .i64 j7,.str p5,.str q6,c3,.str k0] c1 (fun (v19:TV) st13=>stB st13 (Ao b 3) [v19] (fun b0=>need (isSl c3) (BId ((lenS c3:Int)=(1:Int)) (need (isPtr d) (need (isPtr d) (Ae (Ad b0 [] (.t (Ao d 10)) 0) (fun (x22:TV)=>Af (.int .i64) x22 (fun (y4:Int)=>CallT PR AT [d,b] [.one .bool] b0 (fun (b9:Bool) q=>BIf (!b9) (Ae ((Ah q [] (.t b) 0 5).map TV.agg) (fun (x23:TV)=>AM [.int .i64,.str,.str,.tv,.str] x23 (fun (y8:Int) (s34 s35:B8) (v20:TV) (z1:B8)=>need (List.all [.int .i64 y8,.str s34,.str s35,v20,.str z1] As) (K y8 s34 s35 v20 z1 false q)))) (BId (j=0) (need (isPtr b) (Ae (Ad q [] (.t (Ao b 3)) 0) (fun (u4:TV)=>need (isSl u4) (need (isPtr d) (need (isPtr d) (stB q (Ao d 12) [(.int .i64 (lenS u4:Int))] (fun z=>need (isPtr b) (Ae (Ad z [] (.t (Ao b 3)) 0) (fun (w7:TV)=>need (isSl w7) (need (isPtr d) (need (isPtr d) (Ae (Ad z [] (.t (Ao d 12)) 0) (fun (x26:TV)=>Af (.int .i64) x26 (fun (n19:Int)=>BId ((lenS w7:Int)<n19) (Ae ((Ah z [] (.t b) 0 5).map TV.agg) (fun (x27:TV)=>AM [.int .i64,.str,.str,.tv,.str] x27 (fun (q2:Int) (r3 h2:B8) (q0:TV) (k3:B8)=>CallT PR Al [d,.int .i64 y4,.int .i64 10] [.one .bool] z (fun (b10:Bool) h6=>(Ah h6 [] (.t b) 0 5=some [.int .i64 q2,.str r3,.str h2,q0,.str k3]/\need (List.all [.int .i64 q2,.str r3,.str h2,q0,.str k3] As) (K q2 r3 h2 q0 k3 b10 h6)))))) (Ae ((Ah z [] (.t b) 0 5).map TV.agg) (fun (x28:TV)=>AM [.int .i64,.str,.str,.tv,.str] x28 (fun (n21:Int) (t8 w1:B8) (v24:TV) (y2:B8)=>need (List.all [.int .i64 n21,.str t8,.str w1,v24,.str y2] As) (K n21 t8 w1 v24 y2 true z)))))))))))))))))) (need (isPtr b) (Ae (Ad q [] (.t (Ao b 3)) 0) (fun (v25:TV)=>need (isSl v25) (need (isPtr d) (need (isPtr d) (Ae (Ad q [] (.t (Ao d 12)) 0) (fun (x30:TV)=>Af (.int .i64) x30 (fun (n22:Int)=>BId ((lenS v25:Int)<n22) (Ae ((Ah q [] (.t b) 0 5).map TV.agg) (fun (x31:TV)=>AM [.int .i64,.str,.str,.tv,.str] x31 (fun (q4:Int) (p2 m2:B8) (h5:TV) (h3:B8)=>CallT PR Al [d,.int .i64 y4,.int .i64 10] [.one .bool] q (fun (b11:Bool) g9=>(Ah g9 [] (.t b) 0 5=some [.int .i64 q4,.str p2,.str m2,h5,.str h3]/\need (List.all [.int .i64 q4,.str p2,.str m2,h5,.str h3] As) (K q4 p2 m2 h5 h3 b11 g9)))))) (Ae ((Ah q [] (.t b) 0 5).map TV.agg) (fun (x32:TV)=>AM [.int .i64,.str,.str,.tv,.str] x32 (fun (z6:Int) (u8 s47:B8) (r7:TV) (s48:B8)=>need (List.all [.int .i64 z6,.str u8,.str s47,r7,.str s48] As) (K z6 u8 s47 r7 s48 true q))))))))))))))))))) ((I1 d j l b b0/\M1 d j l b b0<M1 d j l b x))))))))))))))))))) (∃(I2:TV->Int->Bool->TV->St->Prop) (M2:TV->Int->Bool->TV->St->Nat),(I2 ((.box p 0)) number b1 ((.box st.nb 0)) st1)/\∀f i m c v,I2 f i m c v->(BId ((0:Int)<i) (need (isPtr c) (Ae (Ad v [] (.t (Ao c 3)) 0) (fun (v28:TV)=>need (isSl v28) (need (isPtr f) (need (isPtr f) (Ae (Ad v [] (.t (Ao f 12)) 0) (fun (x34:TV)=>Af (.int .i64) x34 (fun (n25:Int)=>BId (n25<=(lenS v28:Int)) (Ae ((Ah v [] (.t c) 0 5).map TV.agg) (fun (x35:TV)=>AM [.int .i64,.str,.str,.tv,.str] x35 (fun (l3:Int) (o1 i9:B8) (i6:TV) (m9:B8)=>need (isPtr f) (need (isPtr f) (Ae (Ad v [] (.t (Ao f 10)) 0) (fun (x36:TV)=>Af (.int .i64) x36 (fun (n27:Int)=>CallT PR Al [f,.int .i64 n27,.int .i64 10] [.one .bool] v (fun (b12:Bool) j3=>(Ah j3 [] (.t c) 0 5=some [.int .i64 l3,.str o1,.str i9,i6,.str m9]/\need (List.all [.int .i64 l3,.str o1,.str i9,i6,.str m9] As) (K l3 o1 i9 i6 m9 b12 j3)))))))))) (CallT PR AW [f,.bool m] [.agg [.int .i64,.str,.str,.tv,.str],.one .bool] v (fun (f5:Int) (g6 o4:B8) (c6:TV) (l2:B8) (b13:Bool) c2=>need (List.all [.int .i64 f5,.str g6,.str o4,c6,.str l2] As) (BIf (!b13) (Ae ((Ah c2 [] (.t c) 0 5).map TV.agg) (fun (x37:TV)=>AM [.int .i64,.str,.str,.tv,.str] x37 (fun (u1:Int) (u5 s56:B8) (z2:TV) (s57:B8)=>need (List.all [.int .i64 u1,.str u5,.str s56,z2,.str s57] As) (K u1 u5 s56 z2 s57 false c2)))) (need (isPtr c) (Ae (Ad c2 [] (.t (Ao c 3)) 0) (fun (e8:TV)=>need (isSl e8) (need (isPtr c) (need (List.all [.int .i64 f5,.str g6,.str o4,c6,.str l2] As) ((((lenS e8:Int)=(lenS e8:Int))/\BF 79 5 80 e8 1 [.int .i64 f5,.str g6,.str o4,c6,.str l2] c2 (fun (v33:TV) st22=>stB st22 (Ao c 3) [v33] (fun a6=>need (isSl c6) (BId ((lenS c6:Int)=(1:Int)) (need (isPtr f) (need (isPtr f) (Ae (Ad a6 [] (.t (Ao f 10)) 0) (fun (x39:TV)=>Af (.int .i64) x39 (fun (n30:Int)=>CallT PR AT [f,c] [.one .bool] a6 (fun (b14:Bool) o=>BIf (!b14) (Ae ((Ah o [] (.t c) 0 5).map TV.agg) (fun (x40:TV)=>AM [.int .i64,.str,.str,.tv,.str] x40 (fun (n31:Int) (u3 s59:B8) (w9:TV) (y5:B8)=>need (List.all [.int .i64 n31,.str u3,.str s59,w9,.str y5] As) (K n31 u3 s59 w9 y5 false o)))) (BId (i=0) (need (isPtr c) (Ae (Ad o [] (.t (Ao c 3)) 0) (fun (v35:TV)=>need (isSl v35) (need (isPtr f) (need (isPtr f) (stB o (Ao f 12) [(.int .i64 (lenS v35:Int))] (fun a2=>need (isPtr c) (Ae (Ad a2 [] (.t (Ao c 3)) 0) (fun (v36:TV)=>need (isSl v36) (need (isPtr f) (need (isPtr f) (Ae (Ad a2 [] (.t (Ao f 12)) 0) (fun (x43:TV)=>Af (.int .i64) x43 (fun (n32:Int)=>BId ((lenS v36:Int)<n32) (Ae ((Ah a2 [] (.t c) 0 5).map TV.agg) (fun (x44:TV)=>AM [.int .i64,.str,.str,.tv,.str] x44 (fun (k1:Int) (g4 p3:B8) (h4:TV) (q7:B8)=>CallT PR Al [f,.int .i64 n30,.int .i64 10] [.one .bool] a2 (fun (b15:Bool) i0=>(Ah i0 [] (.t c) 0 5=some [.int .i64 k1,.str g4,.str p3,h4,.str q7]/\need (List.all [.int .i64 k1,.str g4,.str p3,h4,.str q7] As) (K k1 g4 p3 h4 q7 b15 i0)))))) (Ae ((Ah a2 [] (.t c) 0 5).map TV.agg) (fun (x45:TV)=>AM [.int .i64,.str,.str,.tv,.str] x45 (fun (n34:Int) (u2 s65:B8) (x8:TV) (s66:B8)=>need (List.all [.int .i64 n34,.str u2,.str s65,x8,.str s66] As) (K n34 u2 s65 x8 s66 true a2)))))))))))))))))) (need (isPtr c) (Ae (Ad o [] (.t (Ao c 3)) 0) (fun (z8:TV)=>need (isSl z8) (need (isPtr f) (need (isPtr f) (Ae (Ad o [] (.t (Ao f 12)) 0) (fun (x47:TV)=>Af (.int .i64) x47 (fun (n35:Int)=>BId ((lenS z8:Int)<n35) (Ae ((Ah o [] (.t c) 0 5).map TV.agg) (fun (x48:TV)=>AM [.int .i64,.str,.str,.tv,.str] x48 (fun (l8:Int) (h0 q3:B8) (l0:TV) (h9:B8)=>CallT PR Al [f,.int .i64 n30,.int .i64 10] [.one .bool] o (fun (b16:Bool) f7=>(Ah f7 [] (.t c) 0 5=some [.int .i64 l8,.str h0,.str q3,l0,.str h9]/\need (List.all [.int .i64 l8,.str h0,.str q3,l0,.str h9] As) (K l8 h0 q3 l0 h9 b16 f7)))))) (Ae ((Ah o [] (.t c) 0 5).map TV.agg) (fun (x49:TV)=>AM [.int .i64,.str,.str,.tv,.str] x49 (fun (z0:Int) (z7 w2:B8) (v41:TV) (t6:B8)=>need (List.all [.int .i64 z0,.str z7,.str w2,v41,.str t6] As) (K z0 z7 w2 v41 t6 true o))))))))))))))))))) ((I2 f i m c a6/\M2 f i m c a6<M2 f i m c v))))))))))))))))))))))) (CallT PR AW [f,.bool m] [.agg [.int .i64,.str,.str,.tv,.str],.one .bool] v (fun (g0:Int) (o5 p1:B8) (c4:TV) (i8:B8) (b17:Bool) a8=>need (List.all [.int .i64 g0,.str o5,.str p1,c4,.str i8] As) (BIf (!b17) (Ae ((Ah a8 [] (.t c) 0 5).map TV.agg) (fun (x50:TV)=>AM [.int .i64,.str,.str,.tv,.str] x50 (fun (n39:Int) (s76 s77:B8) (v43:TV) (s78:B8)=>need (List.all [.int .i64 n39,.str s76,.str s77,v43,.str s78] As) (K n39 s76 s77 v43 s78 false a8)))) (need (isPtr c) (Ae (Ad a8 [] (.t (Ao c 3)) 0) (fun (f1:TV)=>need (isSl f1) (need (isPtr c) (need (List.all [.int .i64 g0,.str o5,.str p1,c4,.str i8] As) ((((lenS f1:Int)=(lenS f1:Int))/\BF 79 5 80 f1 1 [.int .i64 g0,.str o5,.str p1,c4,.str i8] a8 (fun (v45:TV) st29=>stB st29 (Ao c 3) [v45] (fun a9=>need (isSl c4) (BId ((lenS c4:Int)=(1:Int)) (need (isPtr f) (need (isPtr f) (Ae (Ad a9 [] (.t (Ao f 10)) 0) (fun (x52:TV)=>Af (.int .i64) x52 (fun (t4:Int)=>CallT PR AT [f,c] [.one .bool] a9 (fun (b18:Bool) n=>BIf (!b18) (Ae ((Ah n [] (.t c) 0 5).map TV.agg) (fun (x53:TV)=>AM [.int .i64,.str,.str,.tv,.str] x53 (fun (v0:Int) (s79 y6:B8) (v46:TV) (u9:B8)=>need (List.all [.int .i64 v0,.str s79,.str y6,v46,.str u9] As) (K v0 s79 y6 v46 u9 false n)))) (BId (i=0) (need (isPtr c) (Ae (Ad n [] (.t (Ao c 3)) 0) (fun (z9:TV)=>need (isSl z9) (need (isPtr f) (need (isPtr f) (stB n (Ao f 12) [(.int .i64 (lenS z9:Int))] (fun a1=>need (isPtr c) (Ae (Ad a1 [] (.t (Ao c 3)) 0) (fun (v48:TV)=>need (isSl v48) (need (isPtr f) (need (isPtr f) (Ae (Ad a1 [] (.t (Ao f 12)) 0) (fun (x56:TV)=>Af (.int .i64) x56 (fun (n42:Int)=>BId ((lenS v48:Int)<n42) (Ae ((Ah a1 [] (.t c) 0 5).map TV.agg) (fun (x57:TV)=>AM [.int .i64,.str,.str,.tv,.str] x57 (fun (l1:Int) (j8 n0:B8) (j9:TV) (r2:B8)=>CallT PR Al [f,.int .i64 t4,.int .i64 10] [.one .bool] a1 (fun (b19:Bool) i5=>(Ah i5 [] (.t c) 0 5=some [.int .i64 l1,.str j8,.str n0,j9,.str r2]/\need (List.all [.int .i64 l1,.str j8,.str n0,j9,.str r2] As) (K l1 j8 n0 j9 r2 b19 i5)))))) (Ae ((Ah a1 [] (.t c) 0 5).map TV.agg) (fun (x58:TV)=>AM [.int .i64,.str,.str,.tv,.str] x58 (fun (t7:Int) (s85 s86:B8) (t0:TV) (z3:B8)=>need (List.all [.int .i64 t7,.str s85,.str s86,t0,.str z3] As) (K t7 s85 s86 t0 z3 true a1)))))))))))))))))) (need (isPtr c) (Ae (Ad n [] (.t (Ao c 3)) 0) (fun (u7:TV)=>need (isSl u7) (need (isPtr f) (need (isPtr f) (Ae (Ad n [] (.t (Ao f 12)) 0) (fun (x60:TV)=>Af (.int .i64) x60 (fun (n45:Int)=>BId ((lenS u7:Int)<n45) (Ae ((Ah n [] (.t c) 0 5).map TV.agg) (fun (x61:TV)=>AM [.int .i64,.str,.str,.tv,.str] x61 (fun (p4:Int) (m3 k5:B8) (q1:TV) (k6:B8)=>CallT PR Al [f,.int .i64 t4,.int .i64 10] [.one .bool] n (fun (b20:Bool) i2=>(Ah i2 [] (.t c) 0 5=some [.int .i64 p4,.str m3,.str k5,q1,.str k6]/\need (List.all [.int .i64 p4,.str m3,.str k5,q1,.str k6] As) (K p4 m3 k5 q1 k6 b20 i2)))))) (Ae ((Ah n [] (.t c) 0 5).map TV.agg) (fun (x62:TV)=>AM [.int .i64,.str,.str,.tv,.str] x62 (fun (r5:Int) (y7 y3:B8) (w3:TV) (w6:B8)=>need (List.all [.int .i64 r5,.str y7,.str y3,w3,.str w6] As) (K r5 y7 y3 w3 w6 true n))))))))))))))))))) ((I2 f i m c a9/\M2 f i m c a9<M2 f i m c v))))))))))))))))))))) (stB (st.push (.cells [.int .i64 0,(.str []),(.str []),.nilSlice,(.str [])]) (some 79)) (.box st.nb 0) [.int .i64 8,(.str []),(.str []),.nilSlice,(.str [])] (fun st35=>CallT PR BB [(.box p 0),.int .i64 2] [.one .bool] st35 (fun (b21:Bool) d6=>BIf (!b21) (Ae ((Ah d6 [] (.t (.box st.nb 0)) 0 5).map TV.agg) (fun (x63:TV)=>AM [.int .i64,.str,.str,.tv,.str] x63 (fun (n48:Int) (s94 s95:B8) (t2:TV) (u0:B8)=>need (List.all [.int .i64 n48,.str s94,.str s95,t2,.str u0] As) (K n48 s94 s95 t2 u0 false d6)))) (∃(I3:TV->Int->Bool->TV->St->Prop) (M3:TV->Int->Bool->TV->St->Nat),(I3 ((.box p 0)) number false ((.box st.nb 0)) d6)/\∀e g k a u,I3 e g k a u->(BId ((0:Int)<g) (need (isPtr a) (Ae (Ad u [] (.t (Ao a 3)) 0) (fun (v55:TV)=>need (isSl v55) (need (isPtr e) (need (isPtr e) (Ae (Ad u [] (.t (Ao e 12)) 0) (fun (x65:TV)=>Af (.int .i64) x65 (fun (n49:Int)=>BId (n49<=(lenS v55:Int)) (Ae ((Ah u [] (.t a) 0 5).map TV.agg) (fun (x66:TV)=>AM [.int .i64,.str,.str,.tv,.str] x66 (fun (l9:Int) (g1 j1:B8) (o3:TV) (m7:B8)=>need (isPtr e) (need (isPtr e) (Ae (Ad u [] (.t (Ao e 10)) 0) (fun (x67:TV)=>Af (.int .i64) x67 (fun (n51:Int)=>CallT PR Al [e,.int .i64 n51,.int .i64 10] [.one .bool] u (fun (b22:Bool) m6=>(Ah m6 [] (.t a) 0 5=some [.int .i64 l9,.str g1,.str j1,o3,.str m7]/\need (List.all [.int .i64 l9,.str g1,.str j1,o3,.str m7] As) (K l9 g1 j1 o3 m7 b22 m6)))))))))) (CallT PR AW [e,.bool k] [.agg [.int .i64,.str,.str,.tv,.str],.one .bool] u (fun (p8:Int) (e0 d9:B8) (c5:TV) (e1:B8) (b23:Bool) a5=>need (List.all [.int .i64 p8,.str e0,.str d9,c5,.str e1] As) (BIf (!b23) (Ae ((Ah a5 [] (.t a) 0 5).map TV.agg) (fun (x68:TV)=>AM [.int .i64,.str,.str,.tv,.str] x68 (fun (n53:Int) (j5 g3:B8) (v58:TV) (m0:B8)=>need (List.all [.int .i64 n53,.str j5,.str g3,v58,.str m0] As) (K n53 j5 g3 v58 m0 false a5)))) (need (isPtr a) (Ae (Ad a5 [] (.t (Ao a 3)) 0) (fun (f0:TV)=>need (isSl f0) (need (isPtr a) (need (List.all [.int .i64 p8,.str e0,.str d9,c5,.str e1] As) ((((lenS f0:Int)=(lenS f0:Int))/\BF 79 5 80 f0 1 [.int .i64 p8,.str e0,.str d9,c5,.str e1] a5 (fun (v60:TV) st40=>stB st40 (Ao a 3) [v60] (fun c0=>need (isSl c5) (BId ((lenS c5:Int)=(1:Int)) (need (isPtr e) (need (isPtr e) (Ae (Ad c0 [] (.t (Ao e 10)) 0) (fun (x70:TV)=>Af (.int .i64) x70 (fun (x3:Int)=>CallT PR AT [e,a] [.one .bool] c0 (fun (b24:Bool) r=>BIf (!b24) (Ae ((Ah r [] (.t a) 0 5).map TV.agg) (fun (x71:TV)=>AM [.int .i64,.str,.str,.tv,.str] x71 (fun (n55:Int) (m8 o9:B8) (v61:TV) (i3:B8)=>need (List.all [.int .i64 n55,.str m8,.str o9,v61,.str i3] As) (K n55 m8 o9 v61 i3 false r)))) (BId (g=0) (need (isPtr a) (Ae (Ad r [] (.t (Ao a 3)) 0) (fun (r8:TV)=>need (isSl r8) (need (isPtr e) (need (isPtr e) (stB r (Ao e 12) [(.int .i64 (lenS r8:Int))] (fun a0=>need (isPtr a) (Ae (Ad a0 [] (.t (Ao a 3)) 0) (fun (w4:TV)=>need (isSl w4) (need (isPtr e) (need (isPtr e) (Ae (Ad a0 [] (.t (Ao e 12)) 0) (fun (x74:TV)=>Af (.int .i64) x74 (fun (n56:Int)=>BId ((lenS w4:Int)<n56) (Ae ((Ah a0 [] (.t a) 0 5).map TV.agg) (fun (x75:TV)=>AM [.int .i64,.str,.str,.tv,.str] x75 (fun (o8:Int) (e4 e6:B8) (g5:TV) (d4:B8)=>CallT PR Al [e,.int .i64 x3,.int .i64 10] [.one .bool] a0 (fun (b25:Bool) j4=>(Ah j4 [] (.t a) 0 5=some [.int .i64 o8,.str e4,.str e6,g5,.str d4]/\need (List.all [.int .i64 o8,.str e4,.str e6,g5,.str d4] As) (K o8 e4 e6 g5 d4 b25 j4)))))) (Ae ((Ah a0 [] (.t a) 0 5).map TV.agg) (fun (x76:TV)=>AM [.int .i64,.str,.str,.tv,.str] x76 (fun (n58:Int) (l5 f6:B8) (r4:TV) (f9:B8)=>need (List.all [.int .i64 n58,.str l5,.str f6,r4,.str f9] As) (K n58 l5 f6 r4 f9 true a0)))))))))))))))))) (need (isPtr a) (Ae (Ad r [] (.t (Ao a 3)) 0) (fun (t9:TV)=>need (isSl t9) (need (isPtr e) (need (isPtr e) (Ae (Ad r [] (.t (Ao e 12)) 0) (fun (x78:TV)=>Af (.int .i64) x78 (fun (n59:Int)=>BId ((lenS t9:Int)<n59) (Ae ((Ah r [] (.t a) 0 5).map TV.agg) (fun (x79:TV)=>AM [.int .i64,.str,.str,.tv,.str] x79 (fun (p0:Int) (e5 e3:B8) (l4:TV) (d5:B8)=>CallT PR Al [e,.int .i64 x3,.int .i64 10] [.one .bool] r (fun (b26:Bool) m1=>(Ah m1 [] (.t a) 0 5=some [.int .i64 p0,.str e5,.str e3,l4,.str d5]/\need (List.all [.int .i64 p0,.str e5,.str e3,l4,.str d5] As) (K p0 e5 e3 l4 d5 b26 m1)))))) (Ae ((Ah r [] (.t a) 0 5).map TV.agg) (fun (x80:TV)=>AM [.int .i64,.str,.str,.tv,.str] x80 (fun (w8:Int) (i7 p9:B8) (s0:TV) (p7:B8)=>need (List.all [.int .i64 w8,.str i7,.str p9,s0,.str p7] As) (K w8 i7 p9 s0 p7 true r))))))))))))))))))) ((I3 e g k a c0/\M3 e g k a c0<M3 e g k a u))))))))))))))))))))))) (CallT PR AW [e,.bool k] [.agg [.int .i64,.str,.str,.tv,.str],.one .bool] u (fun (f4:Int) (d3 c9:B8) (c7:TV) (e2:B8) (b27:Bool) a7=>need (List.all [.int .i64 f4,.str d3,.str c9,c7,.str e2] As) (BIf (!b27) (Ae ((Ah a7 [] (.t a) 0 5).map TV.agg) (fun (x81:TV)=>AM [.int .i64,.str,.str,.tv,.str] x81 (fun (n63:Int) (q9 l6:B8) (v70:TV) (m5:B8)=>need (List.all [.int .i64 n63,.str q9,.str l6,v70,.str m5] As) (K n63 q9 l6 v70 m5 false a7)))) (need (isPtr a) (Ae (Ad a7 [] (.t (Ao a 3)) 0) (fun (e7:TV)=>need (isSl e7) (need (isPtr a) (need (List.all [.int .i64 f4,.str d3,.str c9,c7,.str e2] As) ((((lenS e7:Int)=(lenS e7:Int))/\BF 79 5 80 e7 1 [.int .i64 f4,.str d3,.str c9,c7,.str e2] a7 (fun (v72:TV) st47=>stB st47 (Ao a 3) [v72] (fun a4=>need (isSl c7) (BId ((lenS c7:Int)=(1:Int)) (need (isPtr e) (need (isPtr e) (Ae (Ad a4 [] (.t (Ao e 10)) 0) (fun (x83:TV)=>Af (.int .i64) x83 (fun (n64:Int)=>CallT PR AT [e,a] [.one .bool] a4 (fun (b28:Bool) s=>BIf (!b28) (Ae ((Ah s [] (.t a) 0 5).map TV.agg) (fun (x84:TV)=>AM [.int .i64,.str,.str,.tv,.str] x84 (fun (n65:Int) (j2 o2:B8) (v73:TV) (j6:B8)=>need (List.all [.int .i64 n65,.str j2,.str o2,v73,.str j6] As) (K n65 j2 o2 v73 j6 false s)))) (BId (g=0) (need (isPtr a) (Ae (Ad s [] (.t (Ao a 3)) 0) (fun (v74:TV)=>need (isSl v74) (need (isPtr e) (need (isPtr e) (stB s (Ao e 12) [(.int .i64 (lenS v74:Int))] (fun y=>need (isPtr a) (Ae (Ad y [] (.t (Ao a 3)) 0) (fun (v75:TV)=>need (isSl v75) (need (isPtr e) (need (isPtr e) (Ae (Ad y [] (.t (Ao e 12)) 0) (fun (x87:TV)=>Af (.int .i64) x87 (fun (n66:Int)=>BId ((lenS v75:Int)<n66) (Ae ((Ah y [] (.t a) 0 5).map TV.agg) (fun (x88:TV)=>AM [.int .i64,.str,.str,.tv,.str] x88 (fun (h1:Int) (d0 c8:B8) (j0:TV) (d1:B8)=>CallT PR Al [e,.int .i64 n64,.int .i64 10] [.one .bool] y (fun (b29:Bool) q5=>(Ah q5 [] (.t a) 0 5=some [.int .i64 h1,.str d0,.str c8,j0,.str d1]/\need (List.all [.int .i64 h1,.str d0,.str c8,j0,.str d1] As) (K h1 d0 c8 j0 d1 b29 q5)))))) (Ae ((Ah y [] (.t a) 0 5).map TV.agg) (fun (x89:TV)=>AM [.int .i64,.str,.str,.tv,.str] x89 (fun (w5:Int) (o7 p6:B8) (v77:TV) (q8:B8)=>need (List.all [.int .i64 w5,.str o7,.str p6,v77,.str q8] As) (K w5 o7 p6 v77 q8 true y)))))))))))))))))) (need (isPtr a) (Ae (Ad s [] (.t (Ao a 3)) 0) (fun (v78:TV)=>need (isSl v78) (need (isPtr e) (need (isPtr e) (Ae (Ad s [] (.t (Ao e 12)) 0) (fun (x91:TV)=>Af (.int .i64) x91 (fun (n69:Int)=>BId ((lenS v78:Int)<n69) (Ae ((Ah s [] (.t a) 0 5).map TV.agg) (fun (x92:TV)=>AM [.int .i64,.str,.str,.tv,.str] x92 (fun (h8:Int) (d8 d7:B8) (i1:TV) (d2:B8)=>CallT PR Al [e,.int .i64 n64,.int .i64 10] [.one .bool] s (fun (b30:Bool) l7=>(Ah l7 [] (.t a) 0 5=some [.int .i64 h8,.str d8,.str d7,i1,.str d2]/\need (List.all [.int .i64 h8,.str d8,.str d7,i1,.str d2] As) (K h8 d8 d7 i1 d2 b30 l7)))))) (Ae ((Ah s [] (.t a) 0 5).map TV.agg) (fun (x93:TV)=>AM [.int .i64,.str,.str,.tv,.str] x93 (fun (n71:Int) (k7 h7:B8) (v80:TV) (o0:B8)=>need (List.all [.int .i64 n71,.str k7,.str h7,v80,.str o0] As) (K n71 k7 h7 v80 o0 true s))))))))))))))))))) ((I3 e g k a a4/\M3 e g k a a4<M3 e g k a u))))))))))))))))))))):CallT PR CO [(.box p 0),.int .i64 number] [.agg [.int .i64,.str,.str,.tv,.str],.one .bool] st K:=
 Ag (cfg:=⟨[4,8],[],[41,46,93]⟩) (h:=(.seq .none (.seq .none (.seq .none (.seq .none (.seq (.block (.loop ⟨[(0,.tv),(1,.int .i64),(6,.bool),(7,.tv)],[(4,0,0)],[(0,5)],[]⟩ .none)) .none)))))) mixed (fun _ _=>Tryz.call119 _ _) Tryz.func119 (by kernel_rfl) (by kernel_rfl) h
theorem Qo (n_0:Int) (f:B8) (i:B8) (a:TV) (g:B8) (depth:Int) (seen:Nat) (st:St) (K:Int->St->Prop) (h:BId ((192:Int)<depth) (K 9 st) (Ae (Ad st [] (.t (.box seen 0)) 0) (fun (x1:TV)=>Af (.int .i64) x1 (fun (n1:Int)=>stB st (.box seen 0) [(.int .i64 (i64.wrap (n1+(1:Int))))] (fun n=>Ae (Ad n [] (.t (.box seen 0)) 0) (fun (x2:TV)=>Af (.int .i64) x2 (fun (n2:Int)=>BId ((524288:Int)<n2) (K 10 n) (BId (n_0<1) (K 6 n) (BId ((12:Int)<=n_0) (K 6 n) (CallT PR Ik [.int .i64 n_0] [.one .bool] n (fun (b1:Bool) o=>BIf b1 (need (isSl a) (BId ((0:Int)<(lenS a:Int)) (K 1 o) (BId (g≠([]:B8)) (K 1 o) (need (isSl a) (∃(I1:Int->Int->TV->TV->Int->St->Prop) (M1:Int->Int->TV->TV->Int->St->Nat),(I1 0 depth ((.box seen 0)) a ((lenS a:Int)) o)/\∀f b d j i l,I1 f b d j i l->(BId (f<i) (((0<=f/\f<(lenZ 5 j:Int))/\Ae ((Ah l [] (.t (ixT 5 j f.toNat)) 0 5).map TV.agg) (fun (x3:TV)=>AM [.int .i64,.str,.str,.tv,.str] x3 (fun (n3:Int) (s1 s2:B8) (v1:TV) (s3:B8)=>need (List.all [.int .i64 n3,.str s1,.str s2,v1,.str s3] As) (CallT PR DX [(.agg [.int .i64 n3,.str s1,.str s2,v1,.str s3]),(.int .i64 (i64.wrap (b+(1:Int)))),d] [.one (.int .i64)] l (fun (n4:Int) p=>BId (n4≠0) (K n4 p) ((I1 ((i64.wrap (f+(1:Int)))) b d j i p/\M1 ((i64.wrap (f+(1:Int)))) b d j i p<M1 f b d j i l)))))))) (K 0 l))))))) (need (isSl a) (∃(I2:Int->Int->TV->TV->Int->St->Prop) (M2:Int->Int->TV->TV->Int->St->Nat),(I2 0 depth ((.box seen 0)) a ((lenS a:Int)) o)/\∀a c e k g m,I2 a c e k g m->(BId (a<g) (((0<=a/\a<(lenZ 5 k:Int))/\Ae ((Ah m [] (.t (ixT 5 k a.toNat)) 0 5).map TV.agg) (fun (x4:TV)=>AM [.int .i64,.str,.str,.tv,.str] x4 (fun (n5:Int) (s4 s5:B8) (v2:TV) (s6:B8)=>need (List.all [.int .i64 n5,.str s4,.str s5,v2,.str s6] As) (CallT PR DX [(.agg [.int .i64 n5,.str s4,.str s5,v2,.str s6]),(.int .i64 (i64.wrap (c+(1:Int)))),e] [.one (.int .i64)] m (fun (n6:Int) q=>BId (n6≠0) (K n6 q) ((I2 ((i64.wrap (a+(1:Int)))) c e k g q/\M2 ((i64.wrap (a+(1:Int)))) c e k g q<M2 a c e k g m)))))))) (K 0 m))))))))))))))):CallT PR DX [(.agg [.int .i64 n_0,.str f,.str i,a,.str g]),.int .i64 depth,(.box seen 0)] [.one (.int .i64)] st K:=
 Ag (cfg:=⟨[3,8],[],[]⟩) (h:=(.seq .none (.seq .none (.seq .none (.seq .none (.seq .none (.seq (.seq .none (.block (.loop ⟨[(46,.int .i64),(1,.int .i64),(2,.tv),(44,.tv),(45,.int .i64)],[],[],[]⟩ .none))) .none))))))) mixed (fun _ _=>Tryz.call120 _ _) Tryz.func120 (by kernel_rfl) (by kernel_rfl) h
theorem Tw (n_0:Int) (a:B8) (c:B8) (n_3:TV) (n_4:B8) (st:St) (K:Int->St->Prop) (h:need (isSl n_3) (∃(I1:Int->Int->TV->Int->St->Prop) (M1:Int->Int->TV->Int->St->Nat),(I1 ((i64.wrap ((i64.wrap ((a.length:Int)+(c.length:Int)))+(n_4.length:Int)))) 0 n_3 ((lenS n_3:Int)) st)/\∀b a d c e,I1 b a d c e->(BId (a<c) (((0<=a/\a<(lenZ 5 d:Int))/\Ae ((Ah e [] (.t (ixT 5 d a.toNat)) 0 5).map TV.agg) (fun (x1:TV)=>AM [.int .i64,.str,.str,.tv,.str] x1 (fun (n1:Int) (s1 s2:B8) (v1:TV) (s3:B8)=>need (List.all [.int .i64 n1,.str s1,.str s2,v1,.str s3] As) (CallT PR GE [(.agg [.int .i64 n1,.str s1,.str s2,v1,.str s3])] [.one (.int .i64)] e (fun (n2:Int) f=>(I1 ((i64.wrap (b+n2))) ((i64.wrap (a+(1:Int)))) d c f/\M1 ((i64.wrap (b+n2))) ((i64.wrap (a+(1:Int)))) d c f<M1 b a d c e))))))) (K b e)))):CallT PR GE [(.agg [.int .i64 n_0,.str a,.str c,n_3,.str n_4])] [.one (.int .i64)] st K:=
 Ag (cfg:=⟨[1,5],[],[]⟩) (h:=(.seq .none (.seq .none (.seq (.seq .none (.block (.loop ⟨[(3,.int .i64),(20,.int .i64),(18,.tv),(19,.int .i64)],[],[],[]⟩ .none))) .none)))) mixed (fun _ _=>Tryz.call121 _ _) Tryz.func121 (by kernel_rfl) (by kernel_rfl) h
theorem Qm (b:Nat) (n_0:Int) (a:B8) (c:B8) (n_3:TV) (n_4:B8) (st:St) (K:St->Prop) (h:CallT PR Ax [(.box b 0),.str a] [.one (.int .i64),.one .tv] st (fun (n1:Int) (v1:TV) j=>CallT PR Ax [(.box b 0),.str c] [.one (.int .i64),.one .tv] j (fun (n2:Int) (v2:TV) k=>need (isSl n_3) (∃(I1:Int->TV->TV->Int->Int->B8->B8->TV->B8->St->Prop) (M1:Int->TV->TV->Int->Int->B8->B8->TV->B8->St->Nat),(I1 0 ((.box b 0)) n_3 ((lenS n_3:Int)) n_0 a c n_3 n_4 k)/\∀a e d c n3 s1 s2 v3 s3 f,I1 a e d c n3 s1 s2 v3 s3 f->(BId (a<c) (((0<=a/\a<(lenZ 5 d:Int))/\Ae ((Ah f [] (.t (ixT 5 d a.toNat)) 0 5).map TV.agg) (fun (x1:TV)=>AM [.int .i64,.str,.str,.tv,.str] x1 (fun (n4:Int) (s4 s5:B8) (v4:TV) (s6:B8)=>need (List.all [.int .i64 n4,.str s4,.str s5,v4,.str s6] As) (CallT PR E8 [e,(.agg [.int .i64 n4,.str s4,.str s5,v4,.str s6])] [] f (fun (g:St)=>(I1 ((i64.wrap (a+(1:Int)))) e d c n3 s1 s2 v3 s3 g/\M1 ((i64.wrap (a+(1:Int)))) e d c n3 s1 s2 v3 s3 g<M1 a e d c n3 s1 s2 v3 s3 f))))))) (CallT PR Ax [e,.str s3] [.one (.int .i64),.one .tv] f (fun (n5:Int) (v5:TV) i=>K i))))))):CallT PR E8 [(.box b 0),(.agg [.int .i64 n_0,.str a,.str c,n_3,.str n_4])] [] st K:=
 Ag (cfg:=⟨[3,5],[],[]⟩) (h:=(.seq .none (.seq .none (.seq .none (.seq (.seq .none (.block (.loop ⟨[(17,.int .i64),(0,.tv),(15,.tv),(16,.int .i64)],[(3,0,0)],[(0,5)],[(0,0,.int .i64),(0,1,.str),(0,2,.str),(0,3,.tv),(0,4,.str)]⟩ .none))) .none))))) mixed (fun _ _=>Tryz.call122 _ _) Tryz.func122 (by kernel_rfl) (by kernel_rfl) h
theorem L0 (b:Int) (st:St) (K:Bool->St->Prop) (h:CallT PR Fx [.int .u8 b] [.one .bool] st (fun (b1:Bool) a=>BIf b1 (K true a) (BId ((48:Int)<=b) (BId (b<=57) (K true a) (BId (b=43) (K true a) (BId (b=45) (K true a) (BId (b=46) (K true a) (K ((decide (b=58))) a))))) (BId (b=43) (K true a) (BId (b=45) (K true a) (BId (b=46) (K true a) (K ((decide (b=58))) a))))))):CallT PR B2 [.int .u8 b] [.one .bool] st K:=
 Ag (cfg:=⟨[],[],[]⟩) (h:= .none) mixed (fun _ _=>Tryz.call128 _ _) Tryz.func128 (by kernel_rfl) (by kernel_rfl) h
theorem Oq (s:B8) (d_0:Int) (d_1:Int) (d_2:Bool) (d_3:Bool) (st:St) (K:B8->Int->St->Prop) (h:CallT PR B6 [(.agg [.int .u8 d_0,.int .u8 d_1,.bool d_2,.bool d_3])] [.one .bool] st (fun (b1:Bool) f=>BIf (!b1) (K [] 1 f) (CallT PR Ew [.str s] [.one .bool] f (fun (b2:Bool) e=>BIf (!b2) (K [] 5 e) (Ae ((toBytes e (.list 1 .full 1 [.int .u8 d_1])).map TV.str) (fun (x1:TV)=>Af .str x1 (fun (s1:B8)=>∃(I1:Int->B8->B8->Int->Int->Bool->Bool->St->Prop) (M1:Int->B8->B8->Int->Int->Bool->Bool->St->Nat),(I1 0 s s1 d_0 d_1 d_2 d_3 e)/\∀c b a n1 n2 b3 b4 d,I1 c b a n1 n2 b3 b4 d->(BId (c<(b.length:Int)) (((0<=c/\c<(b.length:Int))/\BId (((List.getD b c.toNat 0).toNat:Int)=n1) ((a.length+a.length<=9223372036854775807/\CallT PR AJ [.str b,.str a,(.str (a++a))] [.one .str] d (fun (s2:B8) i=>(a.length+s2.length<=9223372036854775807/\(((a++s2)).length+a.length<=9223372036854775807/\K (((a++s2)++a)) 0 i))))) (BId (((List.getD b c.toNat 0).toNat:Int)=n2) ((a.length+a.length<=9223372036854775807/\CallT PR AJ [.str b,.str a,(.str (a++a))] [.one .str] d (fun (s3:B8) g=>(a.length+s3.length<=9223372036854775807/\(((a++s3)).length+a.length<=9223372036854775807/\K (((a++s3)++a)) 0 g))))) (BId (((List.getD b c.toNat 0).toNat:Int)=(10:Int)) ((a.length+a.length<=9223372036854775807/\CallT PR AJ [.str b,.str a,(.str (a++a))] [.one .str] d (fun (s4:B8) k=>(a.length+s4.length<=9223372036854775807/\(((a++s4)).length+a.length<=9223372036854775807/\K (((a++s4)++a)) 0 k))))) (BId (((List.getD b c.toNat 0).toNat:Int)=(13:Int)) ((a.length+a.length<=9223372036854775807/\CallT PR AJ [.str b,.str a,(.str (a++a))] [.one .str] d (fun (s5:B8) j=>(a.length+s5.length<=9223372036854775807/\(((a++s5)).length+a.length<=9223372036854775807/\K (((a++s5)++a)) 0 j))))) ((I1 ((i64.wrap (c+(1:Int)))) b a n1 n2 b3 b4 d/\M1 ((i64.wrap (c+(1:Int)))) b a n1 n2 b3 b4 d<M1 c b a n1 n2 b3 b4 d))))))) (K b 0 d))))))))):CallT PR Cz [.str s,(.agg [.int .u8 d_0,.int .u8 d_1,.bool d_2,.bool d_3])] [.one .str,.one (.int .i64)] st K:=
 Ag (cfg:=⟨[3],[],[]⟩) (h:=(.seq .none (.seq .none (.seq .none (.seq .none (.seq (.seq .none (.block (.loop ⟨[(7,.int .i64),(0,.str),(6,.str)],[(3,0,0)],[(0,4)],[(0,0,.int .u8),(0,1,.int .u8),(0,2,.bool),(0,3,.bool)]⟩ .none))) .none)))))) mixed (fun _ _=>Tryz.call145 _ _) Tryz.func145 (by kernel_rfl) (by kernel_rfl) h
theorem Qv (n_0:Int) (n_1:B8) (n_2:B8) (n_3:TV) (n_4:B8) (d_0:Int) (d_1:Int) (d_2:Bool) (d_3:Bool) (st:St) (K:Bool->St->Prop) (h:CallT PR G7 [(.agg [.int .i64 n_0,.str n_1,.str n_2,n_3,.str n_4])] [.one (.int .i64)] st (fun (n1:Int) b=>BId (n1≠0) (K false b) (CallT PR G6 [(.agg [.int .i64 n_0,.str n_1,.str n_2,n_3,.str n_4])] [.one .str] b (fun (s1:B8) e=>CallT PR Ez [] [.agg [.int .i64,.int .i64,.int .i64,.int .i64,.int .i64]] e (fun (n2 n3 n4 n5 n6:Int) c=>CallT PR EC [.str s1,(.agg [.int .u8 d_0,.int .u8 d_1,.bool d_2,.bool d_3]),(.agg [.int .i64 n2,.int .i64 n3,.int .i64 n4,.int .i64 n5,.int .i64 n6])] [.agg [.int .i64,.str,.str,.tv,.str],.one (.int .i64),.one (.int .i64)] c (fun (n7:Int) (s2 s3:B8) (v1:TV) (s4:B8) (n8 n9:Int) a=>need (List.all [.int .i64 n7,.str s2,.str s3,v1,.str s4] As) (BId (n9=0) (CallT PR FR [(.agg [.int .i64 n7,.str s2,.str s3,v1,.str s4]),(.agg [.int .i64 n_0,.str n_1,.str n_2,n_3,.str n_4])] [.one .bool] a (fun (b1:Bool) d=>K b1 d)) (K false a)))))))):CallT PR E9 [(.agg [.int .i64 n_0,.str n_1,.str n_2,n_3,.str n_4]),(.agg [.int .u8 d_0,.int .u8 d_1,.bool d_2,.bool d_3])] [.one .bool] st K:=
 Ag (cfg:=⟨[2,3,5],[],[]⟩) (h:= .none) mixed (fun _ _=>Tryz.call173 _ _) Tryz.func173 (by kernel_rfl) (by kernel_rfl) h
theorem Qu (cell:B8) (d_0:Int) (d_1:Int) (d_2:Bool) (d_3:Bool) (st:St) (K:B8->Bool->St->Prop) (h:BId (cell=([]:B8)) (K cell false st) (((0<=(0:Int)/\(0:Int)<(cell.length:Int))/\BId (((List.getD cell (Int.toNat (0:Int)) 0).toNat:Int)≠d_1) (K cell false st) (Ae ((toBytes st (.list 1 .full 1 [.int .u8 d_1])).map TV.str) (fun (x1:TV)=>Af .str x1 (fun (s1:B8)=>((0<=(1:Int)/\(1:Int)<=(i64.wrap ((cell.length:Int)-(1:Int)))/\(i64.wrap ((cell.length:Int)-(1:Int)))<=(cell.length:Int))/\(s1.length+s1.length<=9223372036854775807/\CallT PR AJ [(.str (List.drop (Int.toNat (1:Int)) (List.take (Int.toNat (i64.wrap ((cell.length:Int)-(1:Int)))) cell))),(.str (s1++s1)),.str s1] [.one .str] st (fun (s2:B8) a=>K s2 true a))))))))):CallT PR C9 [.str cell,(.agg [.int .u8 d_0,.int .u8 d_1,.bool d_2,.bool d_3])] [.one .str,.one .bool] st K:=
 Ag (cfg:=⟨[3],[],[]⟩) (h:= .none) mixed (fun _ _=>Tryz.call174 _ _) Tryz.func174 (by kernel_rfl) (by kernel_rfl) h
theorem IK (p:Nat) (depth:Int) (st:St) (K:Bool->St->Prop) (h:Ae (Ad st [] (.t (.box p 5)) 0) (fun (x1:TV)=>Af (.int .i64) x1 (fun (n1:Int)=>BId (n1<depth) (Ae (Ad st [] (.t (.box p 10)) 0) (fun (x2:TV)=>Af (.int .i64) x2 (fun (n2:Int)=>CallT PR Al [(.box p 0),.int .i64 n2,.int .i64 9] [.one .bool] st (fun (b1:Bool) c=>K b1 c)))) (Ae (Ad st [] (.t (.box p 11)) 0) (fun (x3:TV)=>Af (.int .i64) x3 (fun (n3:Int)=>Ae (Ad st [] (.t (.box p 6)) 0) (fun (x4:TV)=>Af (.int .i64) x4 (fun (n4:Int)=>BId (n4<=n3) (Ae (Ad st [] (.t (.box p 10)) 0) (fun (x5:TV)=>Af (.int .i64) x5 (fun (n5:Int)=>CallT PR Al [(.box p 0),.int .i64 n5,.int .i64 10] [.one .bool] st (fun (b2:Bool) b=>K b2 b)))) (Ae (Ad st [] (.t (.box p 11)) 0) (fun (x6:TV)=>Af (.int .i64) x6 (fun (n6:Int)=>stB st (.box p 11) [(.int .i64 (i64.wrap (n6+(1:Int))))] (fun a=>K true a)))))))))))):CallT PR BB [(.box p 0),.int .i64 depth] [.one .bool] st K:=
 Ag (cfg:=⟨[],[],[]⟩) (h:= .none) mixed (fun _ _=>Tryz.call191 _ _) Tryz.func191 (by kernel_rfl) (by kernel_rfl) h
theorem IZ (p:Nat) (atx:Int) (e:Int) (st:St) (K:Bool->St->Prop) (h:stB st (.box p 14) [.int .i64 atx] (fun a=>stB a (.box p 15) [.int .i64 e] (fun b=>K false b))):CallT PR Al [(.box p 0),.int .i64 atx,.int .i64 e] [.one .bool] st K:=
 Ag (cfg:=⟨[],[],[]⟩) (h:= .none) mixed (fun _ _=>Tryz.call192 _ _) Tryz.func192 (by kernel_rfl) (by kernel_rfl) h
theorem IL (p:Nat) (header:Bool) (st:St) (K:Int->B8->B8->TV->B8->Bool->St->Prop) (h:BIf (!header) (CallT PR BB [(.box p 0),.int .i64 3] [.one .bool] st (fun (b1:Bool) c0=>BIf (!b1) (K 5 [] [] .nilSlice [] false c0) (Ae (Ad c0 [] (.t (.box p 10)) 0) (fun (x1:TV)=>Af (.int .i64) x1 (fun (n1:Int)=>CallT PR Cm [(.box p 0)] [.one .bool] c0 (fun (b2:Bool) a2=>BIf (!b2) (K 5 [] [] .nilSlice [] false a2) (Ae (Ad a2 [] (.t (.box p 0)) 0) (fun (x2:TV)=>Af .str x2 (fun (s1:B8)=>Ae (Ad a2 [] (.t (.box p 10)) 0) (fun (x3:TV)=>Af (.int .i64) x3 (fun (n2:Int)=>((0<=n1/\n1<=n2/\n2<=(s1.length:Int))/\Ae ((Ah a2 [] (.t (.box p 1)) 0 4).map TV.agg) (fun (x4:TV)=>AM [.int .u8,.int .u8,.bool,.bool] x4 (fun (n3 n4:Int) (b3 b4:Bool)=>CallT PR C9 [(.str (List.drop n1.toNat (List.take n2.toNat s1))),(.agg [.int .u8 n3,.int .u8 n4,.bool b3,.bool b4])] [.one .str,.one .bool] a2 (fun (s2:B8) (b5:Bool) c6=>∃(C1:Int->TV->Bool->Int->B8->B8->Int->B8->B8->TV->B8->St->Prop),(BIf header (C1 1024 ((.box p 0)) header n1 ((List.drop n1.toNat (List.take n2.toNat s1))) s2 5 [] [] .nilSlice [] c6) (C1 65536 ((.box p 0)) header n1 ((List.drop n1.toNat (List.take n2.toNat s1))) s2 5 [] [] .nilSlice [] c6))/\∀z b r s o a7 n5 s3 s4 v1 s5 m,C1 z b r s o a7 n5 s3 s4 v1 s5 m->(BId (z<(a7.length:Int)) (CallT PR Al [b,.int .i64 s,.int .i64 10] [.one .bool] m (fun (b6:Bool) h5=>need (List.all [.int .i64 n5,.str s3,.str s4,v1,.str s5] As) (K n5 s3 s4 v1 s5 b6 h5))) (BIf r (need (isPtr b) (need (isPtr b) (Ae (Ad m [] (.t (Ao b 13)) 0) (fun (v2:TV)=>Ae (Es m v2) (fun (es1:List (B8×TV))=>Af .bool (F7 (.bool false) (BR a7 es1)) (fun (b7:Bool)=>BIf b7 (CallT PR Al [b,.int .i64 s,.int .i64 8] [.one .bool] m (fun (b8:Bool) i0=>need (List.all [.int .i64 n5,.str s3,.str s4,v1,.str s5] As) (K n5 s3 s4 v1 s5 b8 i0))) (need (isPtr b) (need (isPtr b) (Ae (Ad m [] (.t (Ao b 13)) 0) (fun (v3:TV)=>muK v3 a7 (.bool true) m (fun e9=>BF 79 5 80 v1 1 [.int .i64 2,(.str []),.str o,.nilSlice,(.str [])] e9 (fun (v4:TV) l=>need (List.all [v4] As) (need (isPtr b) (need (isPtr b) (Ae (Ad l [] (.t (Ao b 10)) 0) (fun (x7:TV)=>Af (.int .i64) x7 (fun (n6:Int)=>need (isPtr b) (need (isPtr b) (Ae (Ad l [] (.t (Ao b 0)) 0) (fun (x8:TV)=>Af .str x8 (fun (s6:B8)=>BId (n6<(s6.length:Int)) (need (isPtr b) (need (isPtr b) (Ae (Ad l [] (.t (Ao b 0)) 0) (fun (x9:TV)=>Af .str x9 (fun (s7:B8)=>need (isPtr b) (need (isPtr b) (Ae (Ad l [] (.t (Ao b 10)) 0) (fun (i3:TV)=>Af (.int .i64) i3 (fun (n7:Int)=>((0<=n7/\n7<(s7.length:Int))/\need (isPtr b) (need (isPtr b) (need (isPtr (Ao b 1)) (Ae (Ad l [] (.t (Ao (Ao b 1) 0)) 0) (fun (j0:TV)=>Af (.int .u8) j0 (fun (n8:Int)=>BId (((List.getD s7 n7.toNat 0).toNat:Int)=n8) (need (isPtr b) (need (isPtr b) (Ae (Ad l [] (.t (Ao b 10)) 0) (fun (i5:TV)=>Af (.int .i64) i5 (fun (n9:Int)=>need (isPtr b) (need (isPtr b) (stB l (Ao b 10) [(.int .i64 (i64.wrap (n9+(1:Int))))] (fun b0=>need (isPtr b) (need (isPtr b) (need (isPtr (Ao b 1)) (Ae (Ad b0 [] (.t (Ao (Ao b 1) 0)) 0) (fun (h0:TV)=>Af (.int .u8) h0 (fun (i1:Int)=>Ae ((toBytes b0 (.list 1 .full 1 [.int .u8 i1])).map TV.str) (fun (i4:TV)=>Af .str i4 (fun (s8:B8)=>BF 79 5 80 v4 1 [.int .i64 11,(.str []),.str s8,.nilSlice,(.str [])] b0 (fun (v5:TV) d1=>need (List.all [v5] As) (need (List.all [.int .i64 n5,.str s3,.str s4,v5,.str s5] As) (K n5 s3 s4 v5 s5 true d1)))))))))))))))))) (need (List.all [.int .i64 n5,.str s3,.str s4,v4,.str s5] As) (K n5 s3 s4 v4 s5 true l))))))))))))))))) (need (List.all [.int .i64 n5,.str s3,.str s4,v4,.str s5] As) (K n5 s3 s4 v4 s5 true l))))))))))))))))))))))) (BF 79 5 80 v1 1 [.int .i64 2,(.str []),.str o,.nilSlice,(.str [])] m (fun (v6:TV) j=>need (List.all [v6] As) (need (isPtr b) (need (isPtr b) (Ae (Ad j [] (.t (Ao b 10)) 0) (fun (f6:TV)=>Af (.int .i64) f6 (fun (g2:Int)=>need (isPtr b) (need (isPtr b) (Ae (Ad j [] (.t (Ao b 0)) 0) (fun (g4:TV)=>Af .str g4 (fun (s9:B8)=>BId (g2<(s9.length:Int)) (need (isPtr b) (need (isPtr b) (Ae (Ad j [] (.t (Ao b 0)) 0) (fun (e4:TV)=>Af .str e4 (fun (d0:B8)=>need (isPtr b) (need (isPtr b) (Ae (Ad j [] (.t (Ao b 10)) 0) (fun (f8:TV)=>Af (.int .i64) f8 (fun (a9:Int)=>((0<=a9/\a9<(d0.length:Int))/\need (isPtr b) (need (isPtr b) (need (isPtr (Ao b 1)) (Ae (Ad j [] (.t (Ao (Ao b 1) 0)) 0) (fun (f2:TV)=>Af (.int .u8) f2 (fun (g9:Int)=>BId (((List.getD d0 a9.toNat 0).toNat:Int)=g9) (need (isPtr b) (need (isPtr b) (Ae (Ad j [] (.t (Ao b 10)) 0) (fun (e0:TV)=>Af (.int .i64) e0 (fun (f0:Int)=>need (isPtr b) (need (isPtr b) (stB j (Ao b 10) [(.int .i64 (i64.wrap (f0+(1:Int))))] (fun a3=>need (isPtr b) (need (isPtr b) (need (isPtr (Ao b 1)) (Ae (Ad a3 [] (.t (Ao (Ao b 1) 0)) 0) (fun (h7:TV)=>Af (.int .u8) h7 (fun (g8:Int)=>Ae ((toBytes a3 (.list 1 .full 1 [.int .u8 g8])).map TV.str) (fun (i7:TV)=>Af .str i7 (fun (j5:B8)=>BF 79 5 80 v6 1 [.int .i64 11,(.str []),.str j5,.nilSlice,(.str [])] a3 (fun (v7:TV) d7=>need (List.all [v7] As) (need (List.all [.int .i64 n5,.str s3,.str s4,v7,.str s5] As) (K n5 s3 s4 v7 s5 true d7)))))))))))))))))) (need (List.all [.int .i64 n5,.str s3,.str s4,v6,.str s5] As) (K n5 s3 s4 v6 s5 true j))))))))))))))))) (need (List.all [.int .i64 n5,.str s3,.str s4,v6,.str s5] As) (K n5 s3 s4 v6 s5 true j)))))))))))))))))))))))))))))) (Ae (Ad st [] (.t (.box p 10)) 0) (fun (h3:TV)=>Af (.int .i64) h3 (fun (v:Int)=>CallT PR Cm [(.box p 0)] [.one .bool] st (fun (b9:Bool) w=>BIf (!b9) (K 5 [] [] .nilSlice [] false w) (Ae (Ad w [] (.t (.box p 0)) 0) (fun (e5:TV)=>Af .str e5 (fun (a8:B8)=>Ae (Ad w [] (.t (.box p 10)) 0) (fun (g1:TV)=>Af (.int .i64) g1 (fun (a0:Int)=>((0<=v/\v<=a0/\a0<=(a8.length:Int))/\Ae ((Ah w [] (.t (.box p 1)) 0 4).map TV.agg) (fun (j8:TV)=>AM [.int .u8,.int .u8,.bool,.bool] j8 (fun (h1 e6:Int) (g6 g0:Bool)=>CallT PR C9 [(.str (List.drop v.toNat (List.take a0.toNat a8))),(.agg [.int .u8 h1,.int .u8 e6,.bool g6,.bool g0])] [.one .str,.one .bool] w (fun (c7:B8) (k0:Bool) c4=>∃(C2:Int->TV->Bool->Int->B8->B8->Int->B8->B8->TV->B8->St->Prop),(BIf header (C2 1024 ((.box p 0)) header v ((List.drop v.toNat (List.take a0.toNat a8))) c7 5 [] [] .nilSlice [] c4) (C2 65536 ((.box p 0)) header v ((List.drop v.toNat (List.take a0.toNat a8))) c7 5 [] [] .nilSlice [] c4))/\∀a1 a u n q a6 f d c v8 e k,C2 a1 a u n q a6 f d c v8 e k->(BId (a1<(a6.length:Int)) (CallT PR Al [a,.int .i64 n,.int .i64 10] [.one .bool] k (fun (f9:Bool) d4=>need (List.all [.int .i64 f,.str d,.str c,v8,.str e] As) (K f d c v8 e f9 d4))) (BIf u (need (isPtr a) (need (isPtr a) (Ae (Ad k [] (.t (Ao a 13)) 0) (fun (v9:TV)=>Ae (Es k v9) (fun (es2:List (B8×TV))=>Af .bool (F7 (.bool false) (BR a6 es2)) (fun (h6:Bool)=>BIf h6 (CallT PR Al [a,.int .i64 n,.int .i64 8] [.one .bool] k (fun (i9:Bool) d3=>need (List.all [.int .i64 f,.str d,.str c,v8,.str e] As) (K f d c v8 e i9 d3))) (need (isPtr a) (need (isPtr a) (Ae (Ad k [] (.t (Ao a 13)) 0) (fun (j2:TV)=>muK j2 a6 (.bool true) k (fun d2=>BF 79 5 80 v8 1 [.int .i64 2,(.str []),.str q,.nilSlice,(.str [])] d2 (fun (x:TV) i=>need (List.all [x] As) (need (isPtr a) (need (isPtr a) (Ae (Ad i [] (.t (Ao a 10)) 0) (fun (i8:TV)=>Af (.int .i64) i8 (fun (e1:Int)=>need (isPtr a) (need (isPtr a) (Ae (Ad i [] (.t (Ao a 0)) 0) (fun (j7:TV)=>Af .str j7 (fun (e8:B8)=>BId (e1<(e8.length:Int)) (need (isPtr a) (need (isPtr a) (Ae (Ad i [] (.t (Ao a 0)) 0) (fun (f5:TV)=>Af .str f5 (fun (c9:B8)=>need (isPtr a) (need (isPtr a) (Ae (Ad i [] (.t (Ao a 10)) 0) (fun (f1:TV)=>Af (.int .i64) f1 (fun (c1:Int)=>((0<=c1/\c1<(c9.length:Int))/\need (isPtr a) (need (isPtr a) (need (isPtr (Ao a 1)) (Ae (Ad i [] (.t (Ao (Ao a 1) 0)) 0) (fun (g5:TV)=>Af (.int .u8) g5 (fun (h9:Int)=>BId (((List.getD c9 c1.toNat 0).toNat:Int)=h9) (need (isPtr a) (need (isPtr a) (Ae (Ad i [] (.t (Ao a 10)) 0) (fun (j9:TV)=>Af (.int .i64) j9 (fun (j6:Int)=>need (isPtr a) (need (isPtr a) (stB i (Ao a 10) [(.int .i64 (i64.wrap (j6+(1:Int))))] (fun a5=>need (isPtr a) (need (isPtr a) (need (isPtr (Ao a 1)) (Ae (Ad a5 [] (.t (Ao (Ao a 1) 0)) 0) (fun (i2:TV)=>Af (.int .u8) i2 (fun (j4:Int)=>Ae ((toBytes a5 (.list 1 .full 1 [.int .u8 j4])).map TV.str) (fun (f7:TV)=>Af .str f7 (fun (f4:B8)=>BF 79 5 80 x 1 [.int .i64 11,(.str []),.str f4,.nilSlice,(.str [])] a5 (fun (c5:TV) d6=>need (List.all [c5] As) (need (List.all [.int .i64 f,.str d,.str c,c5,.str e] As) (K f d c c5 e true d6)))))))))))))))))) (need (List.all [.int .i64 f,.str d,.str c,x,.str e] As) (K f d c x e true i))))))))))))))))) (need (List.all [.int .i64 f,.str d,.str c,x,.str e] As) (K f d c x e true i))))))))))))))))))))))) (BF 79 5 80 v8 1 [.int .i64 2,(.str []),.str q,.nilSlice,(.str [])] k (fun (y:TV) g=>need (List.all [y] As) (need (isPtr a) (need (isPtr a) (Ae (Ad g [] (.t (Ao a 10)) 0) (fun (g3:TV)=>Af (.int .i64) g3 (fun (e2:Int)=>need (isPtr a) (need (isPtr a) (Ae (Ad g [] (.t (Ao a 0)) 0) (fun (i6:TV)=>Af .str i6 (fun (j1:B8)=>BId (e2<(j1.length:Int)) (need (isPtr a) (need (isPtr a) (Ae (Ad g [] (.t (Ao a 0)) 0) (fun (h8:TV)=>Af .str h8 (fun (c8:B8)=>need (isPtr a) (need (isPtr a) (Ae (Ad g [] (.t (Ao a 10)) 0) (fun (f3:TV)=>Af (.int .i64) f3 (fun (c3:Int)=>((0<=c3/\c3<(c8.length:Int))/\need (isPtr a) (need (isPtr a) (need (isPtr (Ao a 1)) (Ae (Ad g [] (.t (Ao (Ao a 1) 0)) 0) (fun (d8:TV)=>Af (.int .u8) d8 (fun (e7:Int)=>BId (((List.getD c8 c3.toNat 0).toNat:Int)=e7) (need (isPtr a) (need (isPtr a) (Ae (Ad g [] (.t (Ao a 10)) 0) (fun (d9:TV)=>Af (.int .i64) d9 (fun (g7:Int)=>need (isPtr a) (need (isPtr a) (stB g (Ao a 10) [(.int .i64 (i64.wrap (g7+(1:Int))))] (fun a4=>need (isPtr a) (need (isPtr a) (need (isPtr (Ao a 1)) (Ae (Ad a4 [] (.t (Ao (Ao a 1) 0)) 0) (fun (h4:TV)=>Af (.int .u8) h4 (fun (h2:Int)=>Ae ((toBytes a4 (.list 1 .full 1 [.int .u8 h2])).map TV.str) (fun (e3:TV)=>Af .str e3 (fun (j3:B8)=>BF 79 5 80 y 1 [.int .i64 11,(.str []),.str j3,.nilSlice,(.str [])] a4 (fun (c2:TV) d5=>need (List.all [c2] As) (need (List.all [.int .i64 f,.str d,.str c,c2,.str e] As) (K f d c c2 e true d5)))))))))))))))))) (need (List.all [.int .i64 f,.str d,.str c,y,.str e] As) (K f d c y e true g))))))))))))))))) (need (List.all [.int .i64 f,.str d,.str c,y,.str e] As) (K f d c y e true g))))))))))))))))))))))))))))):CallT PR AW [(.box p 0),.bool header] [.agg [.int .i64,.str,.str,.tv,.str],.one .bool] st K:=
 Ag (cfg:=⟨[4,6],[],[]⟩) (h:=(.seq .none (.seq .none (.seq .none (.seq .none (.seq .none (.seq .none (.seq .none (.seq .none (.cut ⟨[(11,.int .i64),(0,.tv),(1,.bool),(7,.int .i64),(8,.str),(9,.str)],[(4,0,0),(6,1,0)],[(0,5),(1,5)],[(1,0,.int .i64),(1,1,.str),(1,2,.str),(1,3,.tv),(1,4,.str)]⟩ .none .none)))))))))) mixed (fun _ _=>Tryz.call193 _ _) Tryz.func193 (by kernel_rfl) (by kernel_rfl) h
theorem Hp (p:Nat) (r:Nat) (st:St) (K:Bool->St->Prop) (h:Ae (Ad st [] (.t (.box p 10)) 0) (fun (x1:TV)=>Af (.int .i64) x1 (fun (n1:Int)=>Ae (Ad st [] (.t (.box p 10)) 0) (fun (x2:TV)=>Af (.int .i64) x2 (fun (n2:Int)=>Ae (Ad st [] (.t (.box p 0)) 0) (fun (x3:TV)=>Af .str x3 (fun (s1:B8)=>BId (n2=(s1.length:Int)) (K true st) (Ae (Ad st [] (.t (.box p 0)) 0) (fun (x4:TV)=>Af .str x4 (fun (s2:B8)=>Ae (Ad st [] (.t (.box p 10)) 0) (fun (x5:TV)=>Af (.int .i64) x5 (fun (n3:Int)=>((0<=n3/\n3<(s2.length:Int))/\BId (((List.getD s2 n3.toNat 0).toNat:Int)=(13:Int)) (Ae (Ad st [] (.t (.box p 10)) 0) (fun (x6:TV)=>Af (.int .i64) x6 (fun (n4:Int)=>stB st (.box p 10) [(.int .i64 (i64.wrap (n4+(1:Int))))] (fun a=>Ae (Ad a [] (.t (.box p 10)) 0) (fun (x7:TV)=>Af (.int .i64) x7 (fun (n5:Int)=>Ae (Ad a [] (.t (.box p 0)) 0) (fun (x8:TV)=>Af .str x8 (fun (s3:B8)=>BId (n5=(s3.length:Int)) (Ae (Ad a [] (.t (.box p 10)) 0) (fun (x9:TV)=>Af (.int .i64) x9 (fun (n6:Int)=>CallT PR Al [(.box p 0),.int .i64 n6,.int .i64 4] [.one .bool] a (fun (b1:Bool) s=>K b1 s)))) (Ae (Ad a [] (.t (.box p 0)) 0) (fun (o:TV)=>Af .str o (fun (s4:B8)=>Ae (Ad a [] (.t (.box p 10)) 0) (fun (j:TV)=>Af (.int .i64) j (fun (n7:Int)=>((0<=n7/\n7<(s4.length:Int))/\BId (((List.getD s4 n7.toNat 0).toNat:Int)≠(10:Int)) (CallT PR Al [(.box p 0),.int .i64 n1,.int .i64 3] [.one .bool] a (fun (b2:Bool) e=>K b2 e)) (Ae (Ad a [] (.t (.box p 10)) 0) (fun (v:TV)=>Af (.int .i64) v (fun (n8:Int)=>stB a (.box p 10) [(.int .i64 (i64.wrap (n8+(1:Int))))] (fun b=>Ae (Ad b [] (.t (.box p 0)) 0) (fun (i:TV)=>Af .str i (fun (s5:B8)=>Ae (Ad b [] (.t (.box p 10)) 0) (fun (u:TV)=>Af (.int .i64) u (fun (n9:Int)=>((0<=n1/\n1<=n9/\n9<=(s5.length:Int))/\stB b (.box r 4) [(.str (List.drop n1.toNat (List.take n9.toNat s5)))] (fun f=>K true f)))))))))))))))))))))))) (BId (((List.getD s2 n3.toNat 0).toNat:Int)=(10:Int)) (Ae (Ad st [] (.t (.box p 10)) 0) (fun (q:TV)=>Af (.int .i64) q (fun (g:Int)=>stB st (.box p 10) [(.int .i64 (i64.wrap (g+(1:Int))))] (fun d=>Ae (Ad d [] (.t (.box p 0)) 0) (fun (l:TV)=>Af .str l (fun (s6:B8)=>Ae (Ad d [] (.t (.box p 10)) 0) (fun (k:TV)=>Af (.int .i64) k (fun (c:Int)=>((0<=n1/\n1<=c/\c<=(s6.length:Int))/\stB d (.box r 4) [(.str (List.drop n1.toNat (List.take c.toNat s6)))] (fun m=>K true m)))))))))) (CallT PR Al [(.box p 0),.int .i64 n1,.int .i64 3] [.one .bool] st (fun (b3:Bool) n=>K b3 n)))))))))))))))):CallT PR AT [(.box p 0),(.box r 0)] [.one .bool] st K:=
 Ag (cfg:=⟨[],[],[]⟩) (h:= .none) mixed (fun _ _=>Tryz.call194 _ _) Tryz.func194 (by kernel_rfl) (by kernel_rfl) h
theorem RZ (kind:Int) (st:St) (K:Bool->St->Prop) (h:BId (kind=2) (BId (kind=2) (K true st) (K false st)) (BId (kind=6) (BId (kind=6) (K true st) (K false st)) (BId (kind=10) (BId (kind=10) (K true st) (K false st)) (BId (kind=11) (K true st) (K false st))))):CallT PR Ik [.int .i64 kind] [.one .bool] st K:=
 Ag (cfg:=⟨[],[],[]⟩) (h:= .none) mixed (fun _ _=>Tryz.call195 _ _) Tryz.func195 (by kernel_rfl) (by kernel_rfl) h
theorem NG (b:Int) (st:St) (K:Bool->St->Prop) (h:BId ((97:Int)<=b) (BId (b<=122) (K true st) (BId ((65:Int)<=b) (K ((decide (b<=90))) st) (K false st))) (BId ((65:Int)<=b) (K ((decide (b<=90))) st) (K false st))):CallT PR Fx [.int .u8 b] [.one .bool] st K:=
 Ag (cfg:=⟨[],[],[]⟩) (h:= .none) mixed (fun _ _=>Tryz.call203 _ _) Tryz.func203 (by kernel_rfl) (by kernel_rfl) h
theorem R0 (a_0:Int) (a_1:B8) (a_2:B8) (a_3:TV) (a_4:B8) (b_0:Int) (b_1:B8) (b_2:B8) (b_3:TV) (b_4:B8) (st:St) (K:Bool->St->Prop) (h:BId (a_0≠b_0) (K false st) (BId (a_1≠b_1) (K false st) (BId (a_2≠b_2) (K false st) (BId (a_4≠b_4) (K false st) (need (isSl a_3) (need (isSl b_3) (BId ((lenS a_3:Int)≠(lenS b_3:Int)) (K false st) (need (isSl a_3) (∃(I1:Int->Int->Int->B8->B8->TV->B8->Int->B8->B8->TV->B8->St->Prop) (M1:Int->Int->Int->B8->B8->TV->B8->Int->B8->B8->TV->B8->St->Nat),(I1 0 ((lenS a_3:Int)) a_0 a_1 a_2 a_3 a_4 b_0 b_1 b_2 b_3 b_4 st)/\∀a b n1 s1 s2 v1 s3 n2 s4 s5 v2 s6 c,I1 a b n1 s1 s2 v1 s3 n2 s4 s5 v2 s6 c->(BId (a<b) (((0<=a/\a<(lenZ 5 v1:Int))/\Ae ((Ah GO [] (.t (ixT 5 v1 a.toNat)) 0 5).map TV.agg) (fun (x1:TV)=>AM [.int .i64,.str,.str,.tv,.str] x1 (fun (n3:Int) (s7 s8:B8) (v3:TV) (s9:B8)=>((0<=a/\a<(lenZ 5 v2:Int))/\Ae ((Ah GO [] (.t (ixT 5 v2 a.toNat)) 0 5).map TV.agg) (fun (x2:TV)=>AM [.int .i64,.str,.str,.tv,.str] x2 (fun (n4:Int) (g e:B8) (v4:TV) (f:B8)=>CallT PR FR [(.agg [.int .i64 n3,.str s7,.str s8,v3,.str s9]),(.agg [.int .i64 n4,.str g,.str e,v4,.str f])] [.one .bool] c (fun (b1:Bool) d=>BIf (!b1) (K false d) ((I1 ((i64.wrap (a+(1:Int)))) b n1 s1 s2 v1 s3 n2 s4 s5 v2 s6 d/\M1 ((i64.wrap (a+(1:Int)))) b n1 s1 s2 v1 s3 n2 s4 s5 v2 s6 d<M1 a b n1 s1 s2 v1 s3 n2 s4 s5 v2 s6 c)))))))))) (K true c))))))))))):CallT PR FR [(.agg [.int .i64 a_0,.str a_1,.str a_2,a_3,.str a_4]),(.agg [.int .i64 b_0,.str b_1,.str b_2,b_3,.str b_4])] [.one .bool] st K:=
 Ag (cfg:=⟨[2,3],[],[]⟩) (h:=(.seq .none (.seq .none (.seq (.seq .none (.block (.loop ⟨[(44,.int .i64),(43,.int .i64)],[(2,0,0),(3,1,0)],[(0,5),(1,5)],[(0,0,.int .i64),(0,1,.str),(0,2,.str),(0,3,.tv),(0,4,.str),(1,0,.int .i64),(1,1,.str),(1,2,.str),(1,3,.tv),(1,4,.str)]⟩ .none))) .none)))) mixed (fun _ _=>Tryz.call252 _ _) Tryz.func252 (by kernel_rfl) (by kernel_rfl) h
theorem Qw (cells:TV) (d_0:Int) (d_1:Int) (d_2:Bool) (d_3:Bool) (st:St) (K:B8->Int->St->Prop) (h:CallT PR B6 [(.agg [.int .u8 d_0,.int .u8 d_1,.bool d_2,.bool d_3])] [.one .bool] st (fun (b1:Bool) f=>BIf (!b1) (K [] 1 f) (need (isSl cells) (BId ((lenS cells:Int)=(0:Int)) (K [] 1 f) (need (isSl cells) (∃(I1:Int->TV->TV->Int->Int->Int->Bool->Bool->St->Prop) (M1:Int->TV->TV->Int->Int->Int->Bool->Bool->St->Nat),(I1 0 ((.box f.nb 0)) cells ((lenS cells:Int)) d_0 d_1 d_2 d_3 (f.push (.cells [.nilPtr,.nilSlice]) (some 188)))/\∀b a c d n1 n2 b2 b3 e,I1 b a c d n1 n2 b2 b3 e->(BId (b<d) (((0<=b/\b<(lenZ 1 c:Int))/\Ae (Ad e [] (.t (ixT 1 c b.toNat)) 0) (fun (x1:TV)=>Af .str x1 (fun (s1:B8)=>BId ((0:Int)<b) (CallT PR AK [a,.int .u8 n1] [.one .tv] e (fun (v1:TV) m=>CallT PR Cz [.str s1,(.agg [.int .u8 n1,.int .u8 n2,.bool b2,.bool b3])] [.one .str,.one (.int .i64)] m (fun (s2:B8) (n3:Int) i=>BId (n3≠0) (K [] n3 i) (CallT PR Ax [a,.str s2] [.one (.int .i64),.one .tv] i (fun (n4:Int) (v2:TV) g=>(I1 ((i64.wrap (b+(1:Int)))) a c d n1 n2 b2 b3 g/\M1 ((i64.wrap (b+(1:Int)))) a c d n1 n2 b2 b3 g<M1 b a c d n1 n2 b2 b3 e)))))) (CallT PR Cz [.str s1,(.agg [.int .u8 n1,.int .u8 n2,.bool b2,.bool b3])] [.one .str,.one (.int .i64)] e (fun (s3:B8) (n5:Int) k=>BId (n5≠0) (K [] n5 k) (CallT PR Ax [a,.str s3] [.one (.int .i64),.one .tv] k (fun (n6:Int) (v3:TV) j=>(I1 ((i64.wrap (b+(1:Int)))) a c d n1 n2 b2 b3 j/\M1 ((i64.wrap (b+(1:Int)))) a c d n1 n2 b2 b3 j<M1 b a c d n1 n2 b2 b3 e))))))))) (CallT PR AK [a,.int .u8 10] [.one .tv] e (fun (v4:TV) n=>CallT PR A0 [a] [.one .str] n (fun (s4:B8) l=>K s4 0 l)))))))))):CallT PR Hc [cells,(.agg [.int .u8 d_0,.int .u8 d_1,.bool d_2,.bool d_3])] [.one .str,.one (.int .i64)] st K:=
 Ag (cfg:=⟨[3],[],[]⟩) (h:=(.seq .none (.seq .none (.seq .none (.seq (.seq .none (.block (.loop ⟨[(21,.int .i64),(6,.tv),(19,.tv),(20,.int .i64)],[(3,0,0)],[(0,4)],[(0,0,.int .u8),(0,1,.int .u8),(0,2,.bool),(0,3,.bool)]⟩ .none))) .none))))) mixed (fun _ _=>Tryz.call258 _ _) Tryz.func258 (by kernel_rfl) (by kernel_rfl) h
theorem I0 (p:Nat) (st:St) (K:Bool->St->Prop) (h:Ae (Ad st [] (.t (.box p 10)) 0) (fun (x1:TV)=>Af (.int .i64) x1 (fun (n1:Int)=>Ae (Ad st [] (.t (.box p 0)) 0) (fun (x2:TV)=>Af .str x2 (fun (s1:B8)=>BId (n1<(s1.length:Int)) (Ae (Ad st [] (.t (.box p 0)) 0) (fun (x3:TV)=>Af .str x3 (fun (s2:B8)=>Ae (Ad st [] (.t (.box p 10)) 0) (fun (x4:TV)=>Af (.int .i64) x4 (fun (n2:Int)=>((0<=n2/\n2<(s2.length:Int))/\Ae (Ad st [] (.t (.box p 2)) 0) (fun (x5:TV)=>Af (.int .u8) x5 (fun (n3:Int)=>BId (((List.getD s2 n2.toNat 0).toNat:Int)=n3) (CallT PR CP [(.box p 0)] [.one .bool] st (fun (b1:Bool) s=>K b1 s)) (∃(I1:TV->St->Prop) (M1:TV->St->Nat),(I1 ((.box p 0)) st)/\∀b d,I1 b d->(need (isPtr b) (need (isPtr b) (Ae (Ad d [] (.t (Ao b 10)) 0) (fun (x6:TV)=>Af (.int .i64) x6 (fun (n4:Int)=>need (isPtr b) (need (isPtr b) (Ae (Ad d [] (.t (Ao b 0)) 0) (fun (x7:TV)=>Af .str x7 (fun (s3:B8)=>BId (n4<(s3.length:Int)) (need (isPtr b) (need (isPtr b) (Ae (Ad d [] (.t (Ao b 0)) 0) (fun (x8:TV)=>Af .str x8 (fun (s4:B8)=>need (isPtr b) (need (isPtr b) (Ae (Ad d [] (.t (Ao b 10)) 0) (fun (x9:TV)=>Af (.int .i64) x9 (fun (n5:Int)=>((0<=n5/\n5<(s4.length:Int))/\need (isPtr b) (need (isPtr b) (need (isPtr (Ao b 1)) (Ae (Ad d [] (.t (Ao (Ao b 1) 0)) 0) (fun (v:TV)=>Af (.int .u8) v (fun (n6:Int)=>BId (((List.getD s4 n5.toNat 0).toNat:Int)=n6) (BId (((List.getD s4 n5.toNat 0).toNat:Int)=n6) (K true d) (need (isPtr b) (need (isPtr b) (need (isPtr (Ao b 1)) (Ae (Ad d [] (.t (Ao (Ao b 1) 1)) 0) (fun (b8:TV)=>Af (.int .u8) b8 (fun (n7:Int)=>BId (((List.getD s4 n5.toNat 0).toNat:Int)=n7) (need (isPtr b) (need (isPtr b) (Ae (Ad d [] (.t (Ao b 10)) 0) (fun (a0:TV)=>Af (.int .i64) a0 (fun (n8:Int)=>CallT PR Al [b,.int .i64 n8,.int .i64 3] [.one .bool] d (fun (b2:Bool) a1=>K b2 a1)))))) (need (isPtr b) (need (isPtr b) (Ae (Ad d [] (.t (Ao b 10)) 0) (fun (b0:TV)=>Af (.int .i64) b0 (fun (n9:Int)=>need (isPtr b) (need (isPtr b) (stB d (Ao b 10) [(.int .i64 (i64.wrap (n9+(1:Int))))] (fun k=>(I1 b k/\M1 b k<M1 b d)))))))))))))))) (BId (((List.getD s4 n5.toNat 0).toNat:Int)=(10:Int)) (BId (((List.getD s4 n5.toNat 0).toNat:Int)=(10:Int)) (K true d) (need (isPtr b) (need (isPtr b) (need (isPtr (Ao b 1)) (Ae (Ad d [] (.t (Ao (Ao b 1) 1)) 0) (fun (w:TV)=>Af (.int .u8) w (fun (u:Int)=>BId (((List.getD s4 n5.toNat 0).toNat:Int)=u) (need (isPtr b) (need (isPtr b) (Ae (Ad d [] (.t (Ao b 10)) 0) (fun (c0:TV)=>Af (.int .i64) c0 (fun (d4:Int)=>CallT PR Al [b,.int .i64 d4,.int .i64 3] [.one .bool] d (fun (b3:Bool) d2=>K b3 d2)))))) (need (isPtr b) (need (isPtr b) (Ae (Ad d [] (.t (Ao b 10)) 0) (fun (d7:TV)=>Af (.int .i64) d7 (fun (d0:Int)=>need (isPtr b) (need (isPtr b) (stB d (Ao b 10) [(.int .i64 (i64.wrap (d0+(1:Int))))] (fun m=>(I1 b m/\M1 b m<M1 b d)))))))))))))))) (BId (((List.getD s4 n5.toNat 0).toNat:Int)=(13:Int)) (K true d) (need (isPtr b) (need (isPtr b) (need (isPtr (Ao b 1)) (Ae (Ad d [] (.t (Ao (Ao b 1) 1)) 0) (fun (a6:TV)=>Af (.int .u8) a6 (fun (a2:Int)=>BId (((List.getD s4 n5.toNat 0).toNat:Int)=a2) (need (isPtr b) (need (isPtr b) (Ae (Ad d [] (.t (Ao b 10)) 0) (fun (c1:TV)=>Af (.int .i64) c1 (fun (c7:Int)=>CallT PR Al [b,.int .i64 c7,.int .i64 3] [.one .bool] d (fun (b4:Bool) c5=>K b4 c5)))))) (need (isPtr b) (need (isPtr b) (Ae (Ad d [] (.t (Ao b 10)) 0) (fun (d6:TV)=>Af (.int .i64) d6 (fun (y:Int)=>need (isPtr b) (need (isPtr b) (stB d (Ao b 10) [(.int .i64 (i64.wrap (y+(1:Int))))] (fun l=>(I1 b l/\M1 b l<M1 b d)))))))))))))))))))))))))))))))) (K true d))))))))))))))))))) (∃(I2:TV->St->Prop) (M2:TV->St->Nat),(I2 ((.box p 0)) st)/\∀a c,I2 a c->(need (isPtr a) (need (isPtr a) (Ae (Ad c [] (.t (Ao a 10)) 0) (fun (x:TV)=>Af (.int .i64) x (fun (c3:Int)=>need (isPtr a) (need (isPtr a) (Ae (Ad c [] (.t (Ao a 0)) 0) (fun (d8:TV)=>Af .str d8 (fun (s5:B8)=>BId (c3<(s5.length:Int)) (need (isPtr a) (need (isPtr a) (Ae (Ad c [] (.t (Ao a 0)) 0) (fun (a3:TV)=>Af .str a3 (fun (s6:B8)=>need (isPtr a) (need (isPtr a) (Ae (Ad c [] (.t (Ao a 10)) 0) (fun (c9:TV)=>Af (.int .i64) c9 (fun (e:Int)=>((0<=e/\e<(s6.length:Int))/\need (isPtr a) (need (isPtr a) (need (isPtr (Ao a 1)) (Ae (Ad c [] (.t (Ao (Ao a 1) 0)) 0) (fun (a8:TV)=>Af (.int .u8) a8 (fun (j:Int)=>BId (((List.getD s6 e.toNat 0).toNat:Int)=j) (BId (((List.getD s6 e.toNat 0).toNat:Int)=j) (K true c) (need (isPtr a) (need (isPtr a) (need (isPtr (Ao a 1)) (Ae (Ad c [] (.t (Ao (Ao a 1) 1)) 0) (fun (c4:TV)=>Af (.int .u8) c4 (fun (a9:Int)=>BId (((List.getD s6 e.toNat 0).toNat:Int)=a9) (need (isPtr a) (need (isPtr a) (Ae (Ad c [] (.t (Ao a 10)) 0) (fun (d3:TV)=>Af (.int .i64) d3 (fun (d1:Int)=>CallT PR Al [a,.int .i64 d1,.int .i64 3] [.one .bool] c (fun (b5:Bool) n=>K b5 n)))))) (need (isPtr a) (need (isPtr a) (Ae (Ad c [] (.t (Ao a 10)) 0) (fun (e2:TV)=>Af (.int .i64) e2 (fun (z:Int)=>need (isPtr a) (need (isPtr a) (stB c (Ao a 10) [(.int .i64 (i64.wrap (z+(1:Int))))] (fun g=>(I2 a g/\M2 a g<M2 a c)))))))))))))))) (BId (((List.getD s6 e.toNat 0).toNat:Int)=(10:Int)) (BId (((List.getD s6 e.toNat 0).toNat:Int)=(10:Int)) (K true c) (need (isPtr a) (need (isPtr a) (need (isPtr (Ao a 1)) (Ae (Ad c [] (.t (Ao (Ao a 1) 1)) 0) (fun (r:TV)=>Af (.int .u8) r (fun (b9:Int)=>BId (((List.getD s6 e.toNat 0).toNat:Int)=b9) (need (isPtr a) (need (isPtr a) (Ae (Ad c [] (.t (Ao a 10)) 0) (fun (a5:TV)=>Af (.int .i64) a5 (fun (d9:Int)=>CallT PR Al [a,.int .i64 d9,.int .i64 3] [.one .bool] c (fun (b6:Bool) o=>K b6 o)))))) (need (isPtr a) (need (isPtr a) (Ae (Ad c [] (.t (Ao a 10)) 0) (fun (c8:TV)=>Af (.int .i64) c8 (fun (c6:Int)=>need (isPtr a) (need (isPtr a) (stB c (Ao a 10) [(.int .i64 (i64.wrap (c6+(1:Int))))] (fun i=>(I2 a i/\M2 a i<M2 a c)))))))))))))))) (BId (((List.getD s6 e.toNat 0).toNat:Int)=(13:Int)) (K true c) (need (isPtr a) (need (isPtr a) (need (isPtr (Ao a 1)) (Ae (Ad c [] (.t (Ao (Ao a 1) 1)) 0) (fun (a7:TV)=>Af (.int .u8) a7 (fun (c2:Int)=>BId (((List.getD s6 e.toNat 0).toNat:Int)=c2) (need (isPtr a) (need (isPtr a) (Ae (Ad c [] (.t (Ao a 10)) 0) (fun (d5:TV)=>Af (.int .i64) d5 (fun (a4:Int)=>CallT PR Al [a,.int .i64 a4,.int .i64 3] [.one .bool] c (fun (b7:Bool) q=>K b7 q)))))) (need (isPtr a) (need (isPtr a) (Ae (Ad c [] (.t (Ao a 10)) 0) (fun (e1:TV)=>Af (.int .i64) e1 (fun (e0:Int)=>need (isPtr a) (need (isPtr a) (stB c (Ao a 10) [(.int .i64 (i64.wrap (e0+(1:Int))))] (fun f=>(I2 a f/\M2 a f<M2 a c)))))))))))))))))))))))))))))))) (K true c)))))))))))))))):CallT PR Cm [(.box p 0)] [.one .bool] st K:=
 Ag (cfg:=⟨[],[],[]⟩) (h:=(.seq .none (.seq .none (.seq (.block (.loop ⟨[(0,.tv)],[],[],[]⟩ .none)) .none)))) mixed (fun _ _=>Tryz.call265 _ _) Tryz.func265 (by kernel_rfl) (by kernel_rfl) h
theorem HV (p:Nat) (st:St) (K:Bool->St->Prop) (h:Ae (Ad st [] (.t (.box p 10)) 0) (fun (x1:TV)=>Af (.int .i64) x1 (fun (n1:Int)=>stB st (.box p 10) [(.int .i64 (i64.wrap (n1+(1:Int))))] (fun f=>∃(I1:TV->St->Prop) (M1:TV->St->Nat),(I1 ((.box p 0)) f)/\∀a b,I1 a b->(need (isPtr a) (need (isPtr a) (Ae (Ad b [] (.t (Ao a 10)) 0) (fun (x2:TV)=>Af (.int .i64) x2 (fun (n2:Int)=>need (isPtr a) (need (isPtr a) (Ae (Ad b [] (.t (Ao a 0)) 0) (fun (x3:TV)=>Af .str x3 (fun (s1:B8)=>BId (n2<(s1.length:Int)) (need (isPtr a) (need (isPtr a) (Ae (Ad b [] (.t (Ao a 0)) 0) (fun (x4:TV)=>Af .str x4 (fun (s2:B8)=>need (isPtr a) (need (isPtr a) (Ae (Ad b [] (.t (Ao a 10)) 0) (fun (x5:TV)=>Af (.int .i64) x5 (fun (n3:Int)=>((0<=n3/\n3<(s2.length:Int))/\need (isPtr a) (need (isPtr a) (need (isPtr (Ao a 1)) (Ae (Ad b [] (.t (Ao (Ao a 1) 1)) 0) (fun (x6:TV)=>Af (.int .u8) x6 (fun (n4:Int)=>BId (((List.getD s2 n3.toNat 0).toNat:Int)≠n4) (need (isPtr a) (need (isPtr a) (Ae (Ad b [] (.t (Ao a 10)) 0) (fun (x7:TV)=>Af (.int .i64) x7 (fun (n5:Int)=>need (isPtr a) (need (isPtr a) (stB b (Ao a 10) [(.int .i64 (i64.wrap (n5+(1:Int))))] (fun d=>(I1 a d/\M1 a d<M1 a b))))))))) (need (isPtr a) (need (isPtr a) (Ae (Ad b [] (.t (Ao a 10)) 0) (fun (x8:TV)=>Af (.int .i64) x8 (fun (n6:Int)=>need (isPtr a) (need (isPtr a) (stB b (Ao a 10) [(.int .i64 (i64.wrap (n6+(1:Int))))] (fun c=>need (isPtr a) (need (isPtr a) (Ae (Ad c [] (.t (Ao a 10)) 0) (fun (x9:TV)=>Af (.int .i64) x9 (fun (n7:Int)=>need (isPtr a) (need (isPtr a) (Ae (Ad c [] (.t (Ao a 0)) 0) (fun (k:TV)=>Af .str k (fun (s3:B8)=>BId (n7=(s3.length:Int)) (K true c) (need (isPtr a) (need (isPtr a) (Ae (Ad c [] (.t (Ao a 0)) 0) (fun (j:TV)=>Af .str j (fun (s4:B8)=>need (isPtr a) (need (isPtr a) (Ae (Ad c [] (.t (Ao a 10)) 0) (fun (o:TV)=>Af (.int .i64) o (fun (n8:Int)=>((0<=n8/\n8<(s4.length:Int))/\need (isPtr a) (need (isPtr a) (need (isPtr (Ao a 1)) (Ae (Ad c [] (.t (Ao (Ao a 1) 1)) 0) (fun (i:TV)=>Af (.int .u8) i (fun (n9:Int)=>BId (((List.getD s4 n8.toNat 0).toNat:Int)≠n9) (K true c) (need (isPtr a) (need (isPtr a) (Ae (Ad c [] (.t (Ao a 10)) 0) (fun (m:TV)=>Af (.int .i64) m (fun (g:Int)=>need (isPtr a) (need (isPtr a) (stB c (Ao a 10) [(.int .i64 (i64.wrap (g+(1:Int))))] (fun e=>(I1 a e/\M1 a e<M1 a b))))))))))))))))))))))))))))))))))))))))))))))))))))))) (need (isPtr a) (need (isPtr a) (Ae (Ad b [] (.t (Ao a 0)) 0) (fun (l:TV)=>Af .str l (fun (s5:B8)=>CallT PR Al [a,(.int .i64 (s5.length:Int)),.int .i64 4] [.one .bool] b (fun (b1:Bool) n=>K b1 n))))))))))))))))))):CallT PR CP [(.box p 0)] [.one .bool] st K:=
 Ag (cfg:=⟨[],[],[]⟩) (h:=(.seq .none (.seq (.seq .none (.block (.loop ⟨[(0,.tv)],[],[],[]⟩ .none))) .none))) mixed (fun _ _=>Tryz.call299 _ _) Tryz.func299 (by kernel_rfl) (by kernel_rfl) h
end Go.TVF
section
namespace Go.TVF
open Go.IntKind(i64 u8)
section
variable {α:Type}
def swp (l:List α) (i j:Nat):List α:=match l[i]?,l[j]? with | some x,some y=>(l.set i y).set j x | _,_=>l
theorem swp_mid {P Y Q:List α} {x z:α}:swp (P++x::(Y++z::Q)) P.length (P.length+1+Y.length)=P++z::(Y++x::Q):=by
 have h1:(P++x::(Y++z::Q))[P.length]? =some x:=by simp
 have h2:(P++x::(Y++z::Q))[P.length+1+Y.length]? =some z:=by
  rw[List.getElem?_append_right (by omega)]
  rw[show P.length+1+Y.length-P.length=Y.length+1 by omega,List.getElem?_cons_succ,List.getElem?_append_right (by omega)]
  simp
 unfold swp
 rw[h1,h2]
 simp only
 rw[List.set_append_right _ _ (by omega),Nat.sub_self,List.set_cons_zero,List.set_append_right _ _ (by omega)]
 rw[show P.length+1+Y.length-P.length=Y.length+1 by omega,List.set_cons_succ,List.set_append_right _ _ (by omega),Nat.sub_self,List.set_cons_zero]
theorem swp_run {P X Y Z Q:List α} {i:Nat} (hi:i<X.length) (hz:Z.length=X.length):
  swp (P++(Z.take i++X.drop i)++Y++(X.take i++Z.drop i)++Q) (P.length+i) (P.length+X.length+Y.length+i)=P++(Z.take (i+1)++X.drop (i+1))++Y++(X.take (i+1)++Z.drop (i+1))++Q:=by
 have hx:X.drop i=X[i]::X.drop (i+1):=List.drop_eq_getElem_cons hi
 have hzd:Z.drop i=Z[i]'(by omega)::Z.drop (i+1):=List.drop_eq_getElem_cons (by omega)
 have e1:P++(Z.take i++X.drop i)++Y++(X.take i++Z.drop i)++Q=(P++Z.take i)++X[i]::((X.drop (i+1)++Y++X.take i)++Z[i]'(by omega)::(Z.drop (i+1)++Q)):=by
  have h1:P++(Z.take i++X.drop i)++Y++(X.take i++Z.drop i)++Q=P++Z.take i++X.drop i++(Y++X.take i++(Z.drop i++Q)):=by simp only[List.append_assoc]
  rw[h1,hx,hzd]
  simp only[List.append_assoc,List.cons_append]
 have l1:(P++Z.take i).length=P.length+i:=by simp;omega
 have l2:(X.drop (i+1)++Y++X.take i).length=X.length-1+Y.length:=by simp;omega
 rw[e1]
 have:=swp_mid (P:=P++Z.take i) (Y:=X.drop (i+1)++Y++X.take i) (Q:=Z.drop (i+1)++Q) (x:=X[i]) (z:=Z[i]'(by omega))
 rw[l1,l2,show P.length+i+1+(X.length-1+Y.length)=P.length+X.length+Y.length+i by omega]at this
 rw[this]
 have t1:X.take (i+1)=X.take i++[X[i]]:=by rw[List.take_succ_eq_append_getElem hi]
 have t2:Z.take (i+1)=Z.take i++[Z[i]'(by omega)]:=by rw[List.take_succ_eq_append_getElem (by omega)]
 simp only[t1,t2,List.append_assoc,List.cons_append,List.nil_append]
variable (le:α->α->Prop)
def Srt (l:List α):Prop:=l.Pairwise le
variable {le}
theorem NV (tr:∀x y z,le x y->le y z->le x z) {A B:List α} (ha:Srt le A) (hb:Srt le B) (h:∀x,A.getLast? =some x->∀y,B.head? =some y->le x y) (rf:∀x,le x x):Srt le (A++B):=by
 refine List.pairwise_append.2 ⟨ha,hb,fun x hx y hy=>?_⟩
 rcases List.eq_nil_or_concat A with rfl | ⟨A',a,hA⟩
 ·simp at hx
 rw[List.concat_eq_append]at hA
 subst hA
 cases B with
 | nil=>simp at hy
 | cons b B=>
  have hab:=h a (by simp) b rfl
  have h1:le x a:=by
   rcases List.mem_append.1 hx with h | h
   ·exact(List.pairwise_append.1 ha).2.2 x h a (by simp)
   ·simp at h;subst h;exact rf x
  have h2:le b y:=by
   rcases List.mem_cons.1 hy with h | h
   ·subst h;exact rf y
   ·exact(List.pairwise_cons.1 hb).1 y h
  exact tr _ _ _ h1 (tr _ _ _ hab h2)
theorem VJ (tr:∀x y z,le x y->le y z->le x z) {L1 L2 R1 R2 M1 M2:List α} (rf:∀x,le x x) (hL:Srt le (L1++L2)) (hR:Srt le (R1++R2)) (h1:∀x,R1.getLast? =some x->∀y,L2.head? =some y->le x y) (h2:∀x,L1.getLast? =some x->∀y,R2.head? =some y->le x y)
  (p1:M1.Perm (L1++R1)) (p2:M2.Perm (L2++R2)) (s1:Srt le M1) (s2:Srt le M2):(M1++M2).Perm (L1++L2++(R1++R2))/\Srt le (M1++M2):=by
 obtain⟨a1,a2,a3⟩:=List.pairwise_append.1 hL
 obtain⟨b1,b2,b3⟩:=List.pairwise_append.1 hR
 have c1:=List.pairwise_append.1 (NV tr b1 a2 h1 rf)
 have c2:=List.pairwise_append.1 (NV tr a1 b2 h2 rf)
 constructor
 ·refine(p1.append p2).trans ?_
  simp only[List.append_assoc]
  refine List.Perm.append_left _ ?_
  rw[<-List.append_assoc,<-List.append_assoc]
  exact List.Perm.append_right _ List.perm_append_comm
 ·refine List.pairwise_append.2 ⟨s1,s2,fun x hx y hy=>?_⟩
  rcases List.mem_append.1 (p1.mem_iff.1 hx)with hx | hx<;>rcases List.mem_append.1 (p2.mem_iff.1 hy)with hy | hy
  ·exact a3 x hx y hy
  ·exact c2.2.2 x hx y hy
  ·exact c1.2.2 x hx y hy
  ·exact b3 x hx y hy
theorem Sj (tr:∀x y z,le x y->le y z->le x z) {A B:List α} {x:α} (rf:∀x,le x x) (h:Srt le (A++B)) (h1:∀y,A.getLast? =some y->le y x) (h2:∀y,B.head? =some y->le x y):Srt le (A++x::B):=by
 obtain⟨a,b,c⟩:=List.pairwise_append.1 h
 refine NV tr a ?_ (fun y hy z hz=>by simp at hz;subst hz;exact h1 y hy) rf
 exact NV (A:=[x]) tr (List.pairwise_singleton _ _) b (fun y hy z hz=>by simp at hy;subst hy;exact h2 z hz) rf
end
end Go.TVF
end
namespace Go.TVF
open Go.IntKind(i64 u8)
open Go Go.Proofs
section
structure Sc where
 kind:Int
 b:Bool
 neg:Bool
 dg:B8
 ex:Int
 tk:Int
 td:Int
 tn:Int
 tz:Int
 text:B8
 bytes:B8
mutual
inductive Vl where
 | mk (s:Sc) (l:List Vl) (f:List Fd)
inductive Fd where
 | mk (k:B8) (v:Vl)
end
def Vl.sc:Vl->Sc | .mk s _ _=>s
def Vl.list:Vl->List Vl | .mk _ l _=>l
def Vl.flds:Vl->List Fd | .mk _ _ f=>f
def Fd.key:Fd->B8 | .mk k _=>k
def Fd.val:Fd->Vl | .mk _ v=>v
def SlR (st:St) (sz:Nat) (v:TV) (n:Nat) (xs:List TV):Prop:=
 Rd sz v n xs∨∃b off cap l,v= .ms sz b off n cap/\b<st.nb/\st.box b= .cells l/\off+cap*sz<=l.length/\n<=cap/\xs=(l.drop off).take (n*sz)
theorem SlR.of_rd {st:St} {sz n:Nat} {v:TV} {xs:List TV} (h:Rd sz v n xs):SlR st sz v n xs:= .inl h
def Bu (st st':St):Prop:=st.nb<=st'.nb/\∀b,b<st.nb->st'.box b=st.box b
theorem SlR.keep {st st':St} (k:Bu st st') {sz n:Nat} {v:TV} {xs:List TV} (h:SlR st sz v n xs):SlR st' sz v n xs:=by
 rcases h with h | ⟨b,off,cap,l,h1,h2,h3,h4,h5,h6⟩
 ·exact .inl h
 ·exact .inr ⟨b,off,cap,l,h1,Nat.lt_of_lt_of_le h2 k.1,(k.2 b h2).trans h3,h4,h5,h6⟩
mutual
def VlR (st:St):Vl->List TV->Prop
 | .mk s l f,cs=>∃ub ul uf xl xf,cs=[.int .i64 s.kind,.bool s.b,.bool s.neg,.str s.dg,.int .i64 s.ex,.int .i64 s.tk,.int .i64 s.td,.int .i64 s.tn,.int .i64 s.tz,.str s.text,ub,ul,uf]/\
   SlR st 1 ub s.bytes.length (AD s.bytes)/\SlR st 13 ul l.length xl/\VsR st l xl/\SlR st 14 uf f.length xf/\FsR st f xf
def VsR (st:St):List Vl->List TV->Prop
 | [],xs=>xs=[]
 | v::r,xs=>∃a b,xs=a++b/\VlR st v a/\VsR st r b
def FdR (st:St):Fd->List TV->Prop
 | .mk k v,xs=>∃cs,xs= .str k::cs/\VlR st v cs
def FsR (st:St):List Fd->List TV->Prop
 | [],xs=>xs=[]
 | d::r,xs=>∃a b,xs=a++b/\FdR st d a/\FsR st r b
end
mutual
theorem VlR.keep {st st':St} (k:Bu st st'):∀{v:Vl} {cs:List TV},VlR st v cs->VlR st' v cs
 | .mk s l f,cs,h=>by
  unfold VlR at h⊢
  obtain⟨ub,ul,uf,xl,xf,h0,h1,h2,h3,h4,h5⟩:=h
  exact⟨ub,ul,uf,xl,xf,h0,h1.keep k,h2.keep k,VsR.keep k h3,h4.keep k,FsR.keep k h5⟩
theorem VsR.keep {st st':St} (k:Bu st st'):∀{l:List Vl} {cs:List TV},VsR st l cs->VsR st' l cs
 | [],cs,h=>by unfold VsR at h⊢;exact h
 | v::r,cs,h=>by
  unfold VsR at h⊢
  obtain⟨a,b,h0,h1,h2⟩:=h
  exact⟨a,b,h0,VlR.keep k h1,VsR.keep k h2⟩
theorem FdR.keep {st st':St} (k:Bu st st'):∀{d:Fd} {cs:List TV},FdR st d cs->FdR st' d cs
 | .mk key v,cs,h=>by
  unfold FdR at h⊢
  obtain⟨c,h0,h1⟩:=h
  exact⟨c,h0,VlR.keep k h1⟩
theorem FsR.keep {st st':St} (k:Bu st st'):∀{l:List Fd} {cs:List TV},FsR st l cs->FsR st' l cs
 | [],cs,h=>by unfold FsR at h⊢;exact h
 | d::r,cs,h=>by
  unfold FsR at h⊢
  obtain⟨a,b,h0,h1,h2⟩:=h
  exact⟨a,b,h0,FdR.keep k h1,FsR.keep k h2⟩
end
theorem VlR.len {st:St} {v:Vl} {cs:List TV} (h:VlR st v cs):cs.length=13:=by
 cases v;unfold VlR at h;obtain⟨ub,ul,uf,xl,xf,rfl,_⟩:=h;rfl
theorem FdR.len {st:St} {v:Fd} {cs:List TV} (h:FdR st v cs):cs.length=14:=by
 cases v;unfold FdR at h;obtain⟨c,rfl,h⟩:=h;simp[h.len]
theorem VsR.len {st:St}:∀{l:List Vl} {xs:List TV},VsR st l xs->xs.length=l.length*13
 | [],xs,h=>by unfold VsR at h;subst h;rfl
 | v::r,xs,h=>by
  unfold VsR at h
  obtain⟨a,b,rfl,h1,h2⟩:=h
  rw[List.length_append,h1.len,VsR.len h2,List.length_cons];omega
theorem FsR.len {st:St}:∀{l:List Fd} {xs:List TV},FsR st l xs->xs.length=l.length*14
 | [],xs,h=>by unfold FsR at h;subst h;rfl
 | v::r,xs,h=>by
  unfold FsR at h
  obtain⟨a,b,rfl,h1,h2⟩:=h
  rw[List.length_append,h1.len,FsR.len h2,List.length_cons];omega
theorem VsR.get {st:St}:∀{l:List Vl} {xs:List TV} {i:Nat} {v:Vl},VsR st l xs->l[i]? =some v->∃cs,VlR st v cs/\(xs.drop (i*13)).take 13=cs/\cs.length=13
 | [],xs,i,v,h,hi=>by simp at hi
 | w::r,xs,i,v,h,hi=>by
  unfold VsR at h
  obtain⟨a,b,rfl,h1,h2⟩:=h
  cases i with
  | zero=>
   simp only[List.getElem?_cons_zero,Option.some.injEq]at hi
   subst hi
   refine⟨a,h1,?_,h1.len⟩
   rw[Nat.zero_mul,List.drop_zero,<-h1.len,List.take_left]
  | succ i=>
   obtain⟨cs,h3,h4,h5⟩:=VsR.get h2 (by simpa using hi)
   refine⟨cs,h3,?_,h5⟩
   rw[show(i+1)*13=a.length+i*13 by rw[h1.len];omega,List.drop_append]
   simp only[Nat.add_sub_cancel_left]
   rw[List.drop_of_length_le (by omega),List.nil_append];exact h4
theorem FsR.get {st:St}:∀{l:List Fd} {xs:List TV} {i:Nat} {v:Fd},FsR st l xs->l[i]? =some v->∃cs,FdR st v cs/\(xs.drop (i*14)).take 14=cs/\cs.length=14
 | [],xs,i,v,h,hi=>by simp at hi
 | w::r,xs,i,v,h,hi=>by
  unfold FsR at h
  obtain⟨a,b,rfl,h1,h2⟩:=h
  cases i with
  | zero=>
   simp only[List.getElem?_cons_zero,Option.some.injEq]at hi
   subst hi
   refine⟨a,h1,?_,h1.len⟩
   rw[Nat.zero_mul,List.drop_zero,<-h1.len,List.take_left]
  | succ i=>
   obtain⟨cs,h3,h4,h5⟩:=FsR.get h2 (by simpa using hi)
   refine⟨cs,h3,?_,h5⟩
   rw[show(i+1)*14=a.length+i*14 by rw[h1.len];omega,List.drop_append]
   simp only[Nat.add_sub_cancel_left]
   rw[List.drop_of_length_le (by omega),List.nil_append];exact h4
mutual
def Vl.cnt:Vl->Nat
 | .mk _ l f=>1+A8 l+Cs f
def A8:List Vl->Nat
 | []=>0
 | v::r=>v.cnt+A8 r
def Fd.cnt:Fd->Nat
 | .mk _ v=>v.cnt
def Cs:List Fd->Nat
 | []=>0
 | d::r=>d.cnt+Cs r
end
end
structure StX (S:Nat->Prop) (a b:St):Prop where
 nb:a.nb<=b.nb
 box:∀i,i<a.nb->¬S i->b.box i=a.box i
 nt:a.nt<=b.nt
 live:∀i,i<a.nt->b.live i=a.live i
 ty:∀i,i<a.nt->b.ty i=a.ty i
 bt:∀i,i<a.nb->b.bt i=a.bt i
theorem StX.refl (S:Nat->Prop) (a:St):StX S a a:=⟨Nat.le_refl _,fun _ _ _=>rfl,Nat.le_refl _,fun _ _=>rfl,fun _ _=>rfl,fun _ _=>rfl⟩
theorem StX.trans {S:Nat->Prop} {a b c:St} (h:StX S a b) (k:StX S b c):StX S a c:=
 ⟨Nat.le_trans h.nb k.nb,fun i hi hs=>(k.box i (Nat.lt_of_lt_of_le hi h.nb) hs).trans (h.box i hi hs),Nat.le_trans h.nt k.nt,fun i hi=>(k.live i (Nat.lt_of_lt_of_le hi h.nt)).trans (h.live i hi),fun i hi=>(k.ty i (Nat.lt_of_lt_of_le hi h.nt)).trans (h.ty i hi),fun i hi=>(k.bt i (Nat.lt_of_lt_of_le hi h.nb)).trans (h.bt i hi)⟩
theorem StX.mono {S T:Nat->Prop} {a b:St} (h:StX S a b) (k:∀i,S i->T i):StX T a b:=
 ⟨h.nb,fun i hi hs=>h.box i hi fun g=>hs (k i g),h.nt,h.live,h.ty,h.bt⟩
theorem StX.of {S:Nat->Prop} {a b:St} (h:Ak a b):StX S a b:=⟨h.nb,fun i hi _=>h.box i hi,h.nt,h.live,h.ty,h.bt⟩
theorem StX.ext {S:Nat->Prop} {a b c:St} (h:Ak a b) (k:StX S b c) (hs:∀i,S i->a.nb<=i):Ak a c:=
 ⟨Nat.le_trans h.nb k.nb,fun i hi=>(k.box i (Nat.lt_of_lt_of_le hi h.nb) fun g=>absurd (hs i g) (by omega)).trans (h.box i hi),Nat.le_trans h.nt k.nt,fun i hi=>(k.live i (Nat.lt_of_lt_of_le hi h.nt)).trans (h.live i hi),fun i hi=>(k.ty i (Nat.lt_of_lt_of_le hi h.nt)).trans (h.ty i hi),fun i hi=>(k.bt i (Nat.lt_of_lt_of_le hi h.nb)).trans (h.bt i hi)⟩
theorem StX.put {S:Nat->Prop} {a:St} {i:Nat} (hi:S i) (o:J6):StX S a (a.put i o):=
 ⟨Nat.le_refl _,fun j hj hs=>by simp only[St.put];rw[if_neg (by rintro rfl;exact hs hi)],Nat.le_refl _,fun _ _=>rfl,fun _ _=>rfl,fun _ _=>rfl⟩
end Go.TVF
section
namespace Go.TVF
open Go.IntKind(i64 u8)
abbrev tyField:Nat:=136
abbrev tyBld:Nat:=188
end Go.TVF
end
namespace Go.TVF
open Go.IntKind(i64 u8)
open Go Go.Proofs
def CkK (k:B8) (cs:List TV):Prop:=∃(n1:Int) (b1 b2:Bool) (s2:B8) (n2 n3 n4 n5 n6:Int) (s3:B8) (u1 u2 u3:TV),
 cs=[.str k,.int .i64 n1,.bool b1,.bool b2,.str s2,.int .i64 n2,.int .i64 n3,.int .i64 n4,.int .i64 n5,.int .i64 n6,.str s3,u1,u2,u3]/\As u1=true/\As u2=true/\As u3=true
def Ck (cs:List TV):Prop:=∃k,CkK k cs
theorem Ck.len {cs:List TV} (h:Ck cs):cs.length=14:=by obtain⟨k,n1,b1,b2,s2,n2,n3,n4,n5,n6,s3,u1,u2,u3,rfl,_⟩:=h;rfl
theorem Ck.one {cs:List TV} (h:Ck cs):List.all cs As=true:=by
 obtain⟨k,n1,b1,b2,s2,n2,n3,n4,n5,n6,s3,u1,u2,u3,rfl,h1,h2,h3⟩:=h
 simp[As]at h1 h2 h3⊢
 simp[h1,h2,h3]
theorem KO {k:B8} {n1:Int} {b1 b2:Bool} {s2:B8} {n2 n3 n4 n5 n6:Int} {s3:B8} {u1 u2 u3:TV} {f:Fun [.str,.int .i64,.bool,.bool,.str,.int .i64,.int .i64,.int .i64,.int .i64,.int .i64,.str,.tv,.tv,.tv] Prop} (h:f k n1 b1 b2 s2 n2 n3 n4 n5 n6 s3 u1 u2 u3):
  AM [.str,.int .i64,.bool,.bool,.str,.int .i64,.int .i64,.int .i64,.int .i64,.int .i64,.str,.tv,.tv,.tv] (.agg [.str k,.int .i64 n1,.bool b1,.bool b2,.str s2,.int .i64 n2,.int .i64 n3,.int .i64 n4,.int .i64 n5,.int .i64 n6,.str s3,u1,u2,u3]) f:=h
structure BxF (st:St) (b n cap:Nat) (cks:List (List TV)):Prop where
 lt:b<st.nb
 len:cks.length=n
 le:n<=cap
 ck:∀c,c∈cks->Ck c
 box:∃tail,st.box b= .cells (cks.flatten++tail)/\(cks.flatten++tail).length=cap*14
theorem UQ:∀{cks:List (List TV)},(∀c,c∈cks->Ck c)->cks.flatten.length=cks.length*14
 | [],_=>rfl
 | c::r,h=>by
  rw[List.flatten_cons,List.length_append,(h c (.head _)).len,UQ fun x hx=>h x (.tail _ hx),List.length_cons];omega
theorem SJ:∀{cks:List (List TV)} {i:Nat} {c:List TV},(∀c,c∈cks->Ck c)->cks[i]? =some c->∃A B,cks.flatten=A++c++B/\A.length=i*14/\∀d:List TV,(cks.set i d).flatten=A++d++B
 | [],i,c,_,hi=>by simp at hi
 | x::r,0,c,h,hi=>by
  simp only[List.getElem?_cons_zero,Option.some.injEq]at hi
  subst hi
  exact⟨[],r.flatten,by simp,by simp,fun d=>by simp⟩
 | x::r,i+1,c,h,hi=>by
  obtain⟨A,B,h1,h2,h3⟩:=SJ (fun y hy=>h y (.tail _ hy)) (by simpa using hi:r[i]? =some c)
  refine⟨x++A,B,by rw[List.flatten_cons,h1];simp,by rw[List.length_append,(h x (.head _)).len,h2];omega,fun d=>by rw[List.set_cons_succ,List.flatten_cons,h3 d];simp⟩
theorem H9:∀(ys A c B:List TV),ys.length=c.length->setAll (A++c++B) A.length ys=A++ys++B
 | [],A,c,B,h=>by
  have:c=[]:=List.eq_nil_of_length_eq_zero (by simpa using h.symm)
  subst this;rfl
 | y::ys,A,[],B,h=>by simp at h
 | y::ys,A,x::c,B,h=>by
  rw[setAll]
  have e:(A++x::c++B).set A.length y=(A++[y])++c++B:=by simp
  rw[e]
  have:=H9 ys (A++[y]) c B (by simpa using h)
  rw[List.length_append]at this
  rw[show A.length+1=A.length+ [y].length from rfl,this]
  simp
theorem LB {st:St} {b:Nat} {B:List TV}:∀(c:List TV) (l:List TV) (j o:Nat),st.box b= .cells l->l.drop (o+j)=c++B->Ah st [] (.t (.box b o)) j c.length=some c
 | [],l,j,o,h,hd=>rfl
 | x::c,l,j,o,h,hd=>by
  have hx:l[o+j]? =some x:=by
   have:=congrArg (fun z:List TV=>z[0]?) hd
   simpa using this
  have hd2:l.drop (o+(j+1))=c++B:=by
   have:=congrArg (fun z:List TV=>z.drop 1) hd
   simpa [List.drop_drop,Nat.add_assoc]using this
  show(match Ad st [] (.t (.box b o)) j with | some x=>(Ah st [] (.t (.box b o)) (j+1) c.length).map (x::·) | none=>none)=_
  have:Ad st [] (.t (.box b o)) j=some x:=by simp only[Ad,h];exact hx
  rw[this]
  simp only
  rw[LB c l (j+1) o h hd2];rfl
theorem BxF.ld {st:St} {b n cap:Nat} {cks:List (List TV)} (h:BxF st b n cap cks) {i:Nat} {c:List TV} (hi:cks[i]? =some c):(Ah st [] (.t (ixT 14 (.ms 14 b 0 n cap) i)) 0 14).map TV.agg=some (.agg c):=by
 obtain⟨tail,h1,h2⟩:=h.box
 obtain⟨A,B,h3,h4,_⟩:=SJ h.ck hi
 have hc:=(h.ck c (List.mem_of_getElem? hi)).len
 have:=LB (B:=B++tail) (st:=st) (b:=b) c (cks.flatten++tail) 0 (0+i*14) h1 (by
  rw[h3,Nat.add_zero,Nat.zero_add,<-h4];simp)
 rw[hc]at this
 show Option.map TV.agg (Ah st [] (.t (.box b (0+i*14))) 0 14)=_
 rw[this];rfl
theorem BxF.st {st:St} {b n cap:Nat} {cks:List (List TV)} (h:BxF st b n cap cks) {i:Nat} {c ys:List TV} (hi:cks[i]? =some c) (hy:Ck ys) {k:St->Prop} (hk:∀st',BxF st' b n cap (cks.set i ys)->StX (·=b) st st'->k st'):
  stB st (ixT 14 (.ms 14 b 0 n cap) i) ys k:=by
 obtain⟨tail,h1,h2⟩:=h.box
 obtain⟨A,B,h3,h4,h5⟩:=SJ h.ck hi
 have hc:=(h.ck c (List.mem_of_getElem? hi)).len
 have hl:(cks.flatten++tail).length=A.length+14+B.length+tail.length:=by rw[h3];simp[hc];omega
 have he:setAll (cks.flatten++tail) (0+i*14) ys=(cks.set i ys).flatten++tail:=by
  rw[Nat.zero_add,<-h4,h3,List.append_assoc,H9 ys A c (B++tail) (by rw[hy.len,hc]),h5 ys]
  simp
 refine⟨_,h1,by rw[hl,hy.len,<-h4];omega,?_⟩
 rw[he]
 refine hk _ ⟨h.lt,by rw[List.length_set];exact h.len,h.le,fun x hx=>?_,tail,by simp[St.put],?_⟩ (StX.put (S:=(·=b)) (show b=b from rfl) _)
 ·rcases List.mem_or_eq_of_mem_set hx with hx | rfl
  ·exact h.ck x hx
  ·exact hy
 ·rw[<-he,Nat.zero_add];simpa [GY]using h2
theorem BxF.lenZ {st:St} {b n cap:Nat} {cks:List (List TV)} (h:BxF st b n cap cks):lenZ 14 (.ms 14 b 0 n cap)=cks.length:=by rw[h.len];rfl
section
section
variable {st:St} {b n cap:Nat}
theorem H4 {P X Y Z Q:List (List TV)} {cmp:TV} (h:BxF st b n cap (P++X++Y++Z++Q)) (hz:Z.length=X.length) (hn:n<=100000000) {A B N:Int} (hA:A=(P.length:Int)) (hB:B=((P.length+X.length+Y.length:Nat):Int)) (hN:N=(X.length:Int)) {K:St->Prop}
  (hk:∀st',BxF st' b n cap (P++Z++Y++X++Q)->StX (·=b) st st'->K st'):
  CallT PR AI [.ms 14 b 0 n cap,.int .i64 A,.int .i64 B,.int .i64 N,cmp] [] st K:=by
 have hlen:=h.len
 simp only[List.length_append]at hlen
 refine DE _ A B N cmp st K ⟨fun i d a b' n' st'=>d= .ms 14 b 0 n cap/\a=A/\b'=B/\n'=N/\∃k:Nat,i=(k:Int)/\k<=X.length/\BxF st' b n cap (P++(Z.take k++X.drop k)++Y++(X.take k++Z.drop k)++Q)/\StX (·=b) st st',
  fun i _ _ _ _ _=>(X.length-i).toNat,⟨rfl,rfl,rfl,rfl,0,rfl,Nat.zero_le _,by simpa using h,StX.refl _ _⟩,?_⟩
 rintro _ _ _ _ _ st1 ⟨rfl,rfl,rfl,rfl,k,rfl,hkl,hb,e⟩
 subst hA hB hN
 refine Aa (fun g=>?_) fun g=>?_
 ·have hkx:k<X.length:=by omega
  rw[Ai _ (by omega) (by omega),Ai _ (by omega) (by omega),Ai _ (by omega) (by omega)]
  have i1:Int.toNat (((P.length+X.length+Y.length:Nat):Int)+(k:Int))=P.length+X.length+Y.length+k:=by omega
  have i2:Int.toNat ((P.length:Int)+(k:Int))=P.length+k:=by omega
  rw[i1,i2,hb.lenZ]
  have hl:=hb.len
  have hx:(P++(Z.take k++X.drop k)++Y++(X.take k++Z.drop k)++Q)[P.length+k]? =some X[k]:=by
   simp only[List.append_assoc]
   rw[List.getElem?_append_right (by omega),Nat.add_sub_cancel_left,List.getElem?_append_right (by simp;omega),List.getElem?_append_left (by simp;omega)]
   simp[show k-min k Z.length=0 by omega,hkx]
  have hzz:(P++(Z.take k++X.drop k)++Y++(X.take k++Z.drop k)++Q)[P.length+X.length+Y.length+k]? =some (Z[k]'(by omega)):=by
   have e1:(P++(Z.take k++X.drop k)++Y++(X.take k++Z.drop k)++Q)=(P++(Z.take k++X.drop k)++Y++X.take k)++(Z.drop k++Q):=by simp
   have e2:(P++(Z.take k++X.drop k)++Y++X.take k).length=P.length+X.length+Y.length+k:=by simp;omega
   rw[e1,List.getElem?_append_right (by omega),e2,Nat.sub_self,List.getElem?_append_left (by simp;omega)]
   simp[show k<Z.length by omega]
  have cx:=hb.ck _ (List.mem_of_getElem? hx)
  have cz:=hb.ck _ (List.mem_of_getElem? hzz)
  have l1:=hb.ld hzz
  have l2:=hb.ld hx
  have hsw:=swp_run (P:=P) (X:=X) (Y:=Y) (Z:=Z) (Q:=Q) hkx hz
  unfold swp at hsw
  rw[hx,hzz]at hsw
  simp only at hsw
  have o1:=cx.one
  have o2:=cz.one
  generalize hcx:X[k]=x at*
  generalize hcz:(Z[k]'(by omega))=z at*
  have cx':=cx
  have cz':=cz
  obtain⟨kx,n1,b1,b2,s2,n2,n3,n4,n5,n6,s3,u1,u2,u3,rfl,_⟩:=cx
  obtain⟨kz,m1,c1,c2,t2,m2,m3,m4,m5,m6,t3,v1,v2,v3,rfl,_⟩:=cz
  refine⟨⟨by omega,by omega⟩,Ac l1 (KO ⟨⟨by omega,by omega⟩,Ac l2 (KO ⟨⟨by omega,by omega⟩,Ab o2 (hb.st hx cz' fun st2 hb2 e2=>⟨⟨by omega,by omega⟩,Ab o1 ?_⟩)⟩)⟩)⟩
  ·have hg:∃y,(List.set (P++(Z.take k++X.drop k)++Y++(X.take k++Z.drop k)++Q) (P.length+k) [.str kz,.int .i64 m1,.bool c1,.bool c2,.str t2,.int .i64 m2,.int .i64 m3,.int .i64 m4,.int .i64 m5,.int .i64 m6,.str t3,v1,v2,v3])[P.length+X.length+Y.length+k]? =some y:=
    ⟨_,List.getElem?_eq_getElem (by rw[List.length_set,hl];omega)⟩
   obtain⟨y,hy⟩:=hg
   refine hb2.st hy cx' fun st3 hb3 e3=>⟨⟨rfl,rfl,rfl,rfl,k+1,by omega,by omega,?_,(e.trans e2).trans e3⟩,by dsimp only;omega⟩
   rw[hsw]at hb3
   exact hb3
 ·have:k=X.length:=by omega
  subst this
  refine hk _ ?_ e
  rw[List.take_of_length_le (show Z.length<=X.length by omega),List.drop_length,List.take_length,List.drop_of_length_le (show Z.length<=X.length by omega),List.append_nil,List.append_nil]at hb
  exact hb
theorem YI {P U V Q:List (List TV)} {cmp:TV} (h:BxF st b n cap (P++U++V++Q)) (hn:n<=100000000) (hU:0<U.length) (hV:0<V.length) {A M B:Int} (hA:A=(P.length:Int)) (hM:M=((P.length+U.length:Nat):Int)) (hB:B=((P.length+U.length+V.length:Nat):Int)) {K:St->Prop}
  (hk:∀st',BxF st' b n cap (P++V++U++Q)->StX (·=b) st st'->K st'):
  CallT PR Bg [.ms 14 b 0 n cap,.int .i64 A,.int .i64 M,.int .i64 B,cmp] [] st K:=by
 have hlen:=h.len
 simp only[List.length_append]at hlen
 refine D9 _ A M B cmp st K ⟨fun i j d m' c' st'=>d= .ms 14 b 0 n cap/\m'=M/\∃P' U' V' Q':List (List TV),P'++V'++U'++Q'=P++V++U++Q/\P'.length+U'.length=P.length+U.length/\i=(U'.length:Int)/\j=(V'.length:Int)/\0<U'.length/\0<V'.length/\BxF st' b n cap (P'++U'++V'++Q')/\StX (·=b) st st',
  fun i j _ _ _ _=>(i+j).toNat,⟨rfl,rfl,P,U,V,Q,rfl,rfl,?_,?_,hU,hV,h,StX.refl _ _⟩,?_⟩
 ·rw[Ai _ (by omega) (by omega)];omega
 ·rw[Ai _ (by omega) (by omega)];omega
 rintro _ _ _ _ c' st1 ⟨rfl,rfl,P',U',V',Q',hfin,hm,rfl,rfl,hu,hv,hb,e⟩
 have hlb:=hb.len
 simp only[List.length_append]at hlb
 subst hA hM hB
 have wa:i64.wrap (((P.length+U.length:Nat):Int)-(U'.length:Int))=(P'.length:Int):=by rw[Ai _ (by omega) (by omega)];omega
 refine Aa (fun g=>Aa (fun g2=>?_) fun g2=>?_) fun g=>?_
 ·rw[wa,Ai _ (by omega) (by omega)]
  have hX:U'=U'.take V'.length++U'.drop V'.length:=(List.take_append_drop _ _).symm
  have l1:(U'.take V'.length).length=V'.length:=by simp;omega
  have l2:(U'.drop V'.length).length=U'.length-V'.length:=by simp
  generalize U'.take V'.length=X at*
  generalize U'.drop V'.length=Y at*
  subst hX
  simp only[List.length_append]at*
  refine H4 (P:=P') (X:=X) (Y:=Y) (Z:=V') (Q:=Q') (by simpa using hb) (by omega) hn rfl (by omega) (by omega) fun st2 hb2 e2=>⟨⟨trivial,trivial,P'++V',Y,X,Q',?_,by simp only[List.length_append];omega,by omega,by omega,by omega,by omega,by simpa using hb2,e.trans e2⟩,by omega⟩
  rw[<-hfin];simp
 ·have hjw:i64.wrap (i64.wrap (((P.length+U.length:Nat):Int)+(V'.length:Int))-(U'.length:Int))=(P'.length:Int)+(V'.length:Int):=by
   rw[Ai (((P.length+U.length:Nat):Int)+(V'.length:Int)) (by omega) (by omega),Ai _ (by omega) (by omega)];omega
  rw[wa,hjw,Ai _ (by omega) (by omega)]
  have hX:V'=V'.take (V'.length-U'.length)++V'.drop (V'.length-U'.length):=(List.take_append_drop _ _).symm
  have l1:(V'.take (V'.length-U'.length)).length=V'.length-U'.length:=by simp
  have l2:(V'.drop (V'.length-U'.length)).length=U'.length:=by simp;omega
  generalize V'.take (V'.length-U'.length)=Y at*
  generalize V'.drop (V'.length-U'.length)=Z at*
  subst hX
  simp only[List.length_append]at*
  refine H4 (P:=P') (X:=U') (Y:=Y) (Z:=Z) (Q:=Q') (by simpa using hb) (by omega) hn rfl (by omega) rfl fun st2 hb2 e2=>⟨⟨trivial,trivial,P',Z,Y,U'++Q',?_,by omega,by omega,by omega,by omega,by omega,by simpa using hb2,e.trans e2⟩,by omega⟩
  rw[<-hfin];simp
 ·have huv:U'.length=V'.length:=by omega
  rw[wa]
  refine H4 (P:=P') (X:=U') (Y:=[]) (Z:=V') (Q:=Q') (by simpa using hb) huv.symm hn rfl (by simp;omega) rfl fun st2 hb2 e2=>hk _ ?_ (e.trans e2)
  rw[<-hfin];simpa using hb2
end
end
section
section
variable {st:St} {b n cap:Nat} {cks:List (List TV)}
def Fi (c:List TV):B8:=match c with | .str k::_=>k | _=>[]
def Nw (cmp:TV):Prop:=∀(c d:List TV) (st:St) (K:Int->St->Prop),Ck c->Ck d->(∀(r:Int) st',Ak st st'->(r<0↔Op.bytesLess (Fi c) (Fi d)=true)->K r st')->GJ PR cmp [.agg c,.agg d] [.one (.int .i64)] st K
theorem Sg {I J:Int} {i j:Nat} {x y:List TV} {K:St->Prop} (h:BxF st b n cap cks) (hI:I=(i:Int)) (hJ:J=(j:Int)) (hi:cks[i]? =some x) (hj:cks[j]? =some y) (hk:∀st',BxF st' b n cap ((cks.set i y).set j x)->StX (·=b) st st'->K st'):
  ((0<=J/\J<(lenZ 14 (.ms 14 b 0 n cap):Int))/\Ae ((Ah st [] (.t (ixT 14 (.ms 14 b 0 n cap) (Int.toNat J))) 0 14).map TV.agg) (fun (x1:TV)=>AM [.str,.int .i64,.bool,.bool,.str,.int .i64,.int .i64,.int .i64,.int .i64,.int .i64,.str,.tv,.tv,.tv] x1 (fun (a0:B8) (a1:Int) (a2:Bool) (a3:Bool) (a4:B8) (a5:Int) (a6:Int) (a7:Int) (a8:Int) (a9:Int) (a10:B8) (a11:TV) (a12:TV) (a13:TV)=>((0<=I/\I<(lenZ 14 (.ms 14 b 0 n cap):Int))/\Ae ((Ah st [] (.t (ixT 14 (.ms 14 b 0 n cap) (Int.toNat I))) 0 14).map TV.agg) (fun (x2:TV)=>AM [.str,.int .i64,.bool,.bool,.str,.int .i64,.int .i64,.int .i64,.int .i64,.int .i64,.str,.tv,.tv,.tv] x2 (fun (c0:B8) (c1:Int) (c2:Bool) (c3:Bool) (c4:B8) (c5:Int) (c6:Int) (c7:Int) (c8:Int) (c9:Int) (c10:B8) (c11:TV) (c12:TV) (c13:TV)=>((0<=I/\I<(lenZ 14 (.ms 14 b 0 n cap):Int))/\need (List.all [(.str a0),(.int .i64 a1),(.bool a2),(.bool a3),(.str a4),(.int .i64 a5),(.int .i64 a6),(.int .i64 a7),(.int .i64 a8),(.int .i64 a9),(.str a10),a11,a12,a13] As) (stB st (ixT 14 (.ms 14 b 0 n cap) (Int.toNat I)) [(.str a0),(.int .i64 a1),(.bool a2),(.bool a3),(.str a4),(.int .i64 a5),(.int .i64 a6),(.int .i64 a7),(.int .i64 a8),(.int .i64 a9),(.str a10),a11,a12,a13] (fun (st2:St)=>((0<=J/\J<(lenZ 14 (.ms 14 b 0 n cap):Int))/\need (List.all [(.str c0),(.int .i64 c1),(.bool c2),(.bool c3),(.str c4),(.int .i64 c5),(.int .i64 c6),(.int .i64 c7),(.int .i64 c8),(.int .i64 c9),(.str c10),c11,c12,c13] As) (stB st2 (ixT 14 (.ms 14 b 0 n cap) (Int.toNat J)) [(.str c0),(.int .i64 c1),(.bool c2),(.bool c3),(.str c4),(.int .i64 c5),(.int .i64 c6),(.int .i64 c7),(.int .i64 c8),(.int .i64 c9),(.str c10),c11,c12,c13] K))))))))))):=by
 subst hI hJ
 have li:=(List.getElem?_eq_some_iff.1 hi).1
 have lj:=(List.getElem?_eq_some_iff.1 hj).1
 have cx:=h.ck _ (List.mem_of_getElem? hi)
 have cy:=h.ck _ (List.mem_of_getElem? hj)
 have l1:=h.ld hj
 have l2:=h.ld hi
 have o1:=cx.one
 have o2:=cy.one
 have cx':=cx
 have cy':=cy
 simp only[Int.toNat_natCast]
 rw[h.lenZ]
 obtain⟨kx,n1,b1,b2,s2,n2,n3,n4,n5,n6,s3,u1,u2,u3,rfl,_⟩:=cx
 obtain⟨ky,m1,c1,c2,t2,m2,m3,m4,m5,m6,t3,v1,v2,v3,rfl,_⟩:=cy
 refine⟨⟨by omega,by omega⟩,Ac l1 (KO ⟨⟨by omega,by omega⟩,Ac l2 (KO ⟨⟨by omega,by omega⟩,Ab o2 (h.st hi cy' fun st2 hb2 e2=>⟨⟨by omega,by omega⟩,Ab o1 ?_⟩)⟩)⟩)⟩
 obtain⟨z,hz⟩:∃z,(cks.set i [.str ky,.int .i64 m1,.bool c1,.bool c2,.str t2,.int .i64 m2,.int .i64 m3,.int .i64 m4,.int .i64 m5,.int .i64 m6,.str t3,v1,v2,v3])[j]? =some z:=⟨_,List.getElem?_eq_getElem (by rw[List.length_set];exact lj)⟩
 exact hb2.st hz cx' fun st3 hb3 e3=>hk st3 hb3 (e2.trans e3)
theorem S3 {cmp:TV} (hc:Nw cmp) {I J:Int} {i j:Nat} {x y:List TV} {K:Int->St->Prop} (h:BxF st b n cap cks) (hI:I=(i:Int)) (hJ:J=(j:Int)) (hi:cks[i]? =some x) (hj:cks[j]? =some y) (hk:∀(r:Int) st',Ak st st'->(r<0↔Op.bytesLess (Fi x) (Fi y)=true)->K r st'):
  ((0<=I/\I<(lenZ 14 (.ms 14 b 0 n cap):Int))/\Ae ((Ah st [] (.t (ixT 14 (.ms 14 b 0 n cap) (Int.toNat I))) 0 14).map TV.agg) (fun (x1:TV)=>AM [.str,.int .i64,.bool,.bool,.str,.int .i64,.int .i64,.int .i64,.int .i64,.int .i64,.str,.tv,.tv,.tv] x1 (fun (a0:B8) (a1:Int) (a2:Bool) (a3:Bool) (a4:B8) (a5:Int) (a6:Int) (a7:Int) (a8:Int) (a9:Int) (a10:B8) (a11:TV) (a12:TV) (a13:TV)=>((0<=J/\J<(lenZ 14 (.ms 14 b 0 n cap):Int))/\Ae ((Ah st [] (.t (ixT 14 (.ms 14 b 0 n cap) (Int.toNat J))) 0 14).map TV.agg) (fun (x2:TV)=>AM [.str,.int .i64,.bool,.bool,.str,.int .i64,.int .i64,.int .i64,.int .i64,.int .i64,.str,.tv,.tv,.tv] x2 (fun (c0:B8) (c1:Int) (c2:Bool) (c3:Bool) (c4:B8) (c5:Int) (c6:Int) (c7:Int) (c8:Int) (c9:Int) (c10:B8) (c11:TV) (c12:TV) (c13:TV)=>GJ PR cmp [(.agg [(.str a0),(.int .i64 a1),(.bool a2),(.bool a3),(.str a4),(.int .i64 a5),(.int .i64 a6),(.int .i64 a7),(.int .i64 a8),(.int .i64 a9),(.str a10),a11,a12,a13]),(.agg [(.str c0),(.int .i64 c1),(.bool c2),(.bool c3),(.str c4),(.int .i64 c5),(.int .i64 c6),(.int .i64 c7),(.int .i64 c8),(.int .i64 c9),(.str c10),c11,c12,c13])] [.one (.int .i64)] st K)))))):=by
 subst hI hJ
 have li:=(List.getElem?_eq_some_iff.1 hi).1
 have lj:=(List.getElem?_eq_some_iff.1 hj).1
 have cx:=h.ck _ (List.mem_of_getElem? hi)
 have cy:=h.ck _ (List.mem_of_getElem? hj)
 have l1:=h.ld hi
 have l2:=h.ld hj
 have cx':=cx
 have cy':=cy
 simp only[Int.toNat_natCast]
 rw[h.lenZ]
 obtain⟨kx,n1,b1,b2,s2,n2,n3,n4,n5,n6,s3,u1,u2,u3,rfl,_⟩:=cx
 obtain⟨ky,m1,c1,c2,t2,m2,m3,m4,m5,m6,t3,v1,v2,v3,rfl,_⟩:=cy
 exact⟨⟨by omega,by omega⟩,Ac l1 (KO ⟨⟨by omega,by omega⟩,Ac l2 (KO (hc _ _ _ _ cx' cy' hk))⟩)⟩
theorem BxF.ext {st':St} (h:BxF st b n cap cks) (e:Ak st st'):BxF st' b n cap cks:=⟨Nat.lt_of_lt_of_le h.lt e.nb,h.len,h.le,h.ck,by
 obtain⟨t,h1,h2⟩:=h.box
 exact⟨t,(e.box b h.lt).trans h1,h2⟩⟩
end
end
section
theorem GA:∀x:B8,Op.bytesLess x x=false
 | []=>rfl
 | a::x=>by
  have:=GA x
  simp[Op.bytesLess,this]
theorem KG:∀x y:B8,Op.bytesLess x y=true->Op.bytesLess y x=false
 | [],[],h=>by cases h
 | [],b::y,h=>rfl
 | a::x,[],h=>by cases h
 | a::x,b::y,h=>by
  simp only[Op.bytesLess,Bool.or_eq_true,Bool.and_eq_true,decide_eq_true_eq,beq_iff_eq]at h
  simp only[Op.bytesLess,Bool.or_eq_false_iff,Bool.and_eq_false_iff,decide_eq_false_iff_not,beq_eq_false_iff_ne]
  rcases h with h | ⟨rfl,h⟩
  ·exact⟨fun g=>absurd (UInt8.lt_trans h g) (UInt8.lt_irrefl _),.inl (fun e=>by subst e;exact UInt8.lt_irrefl _ h)⟩
  ·exact⟨UInt8.lt_irrefl _,.inr (KG x y h)⟩
theorem Ga:∀x y z:B8,Op.bytesLess y x=false->Op.bytesLess z y=false->Op.bytesLess z x=false
 | [],_,[],_,_=>rfl
 | a::x,_,[],h1,h2=>by
  rename_i y
  cases y with
  | nil=>cases h1
  | cons b y=>cases h2
 | [],y,c::z,_,_=>rfl
 | a::x,[],c::z,h1,h2=>by cases h1
 | a::x,b::y,c::z,h1,h2=>by
  simp only[Op.bytesLess,Bool.or_eq_false_iff,Bool.and_eq_false_iff,decide_eq_false_iff_not,beq_eq_false_iff_ne,UInt8.not_lt]at h1 h2⊢
  obtain⟨h1,h3⟩:=h1
  obtain⟨h2,h4⟩:=h2
  refine⟨UInt8.le_trans h1 h2,?_⟩
  by_cases hca:c=a
  ·right
   subst hca
   have hbc:b=c:=UInt8.le_antisymm h2 h1
   subst hbc
   exact Ga x y z (h3.resolve_left (fun h=>h rfl)) (h4.resolve_left (fun h=>h rfl))
  ·exact .inl hca
def lek (c d:List TV):Prop:=Op.bytesLess (Fi d) (Fi c)=false
theorem JN (x y z:List TV) (h1:lek x y) (h2:lek y z):lek x z:=Ga _ _ _ h1 h2
theorem LA (x:List TV):lek x x:=GA _
theorem GB {x y:List TV} (h:Op.bytesLess (Fi x) (Fi y)=true):lek x y:=KG _ _ h
section
variable {st:St} {b n cap:Nat}
theorem LF {P L Q:List (List TV)} {cmp:TV} (hc:Nw cmp) (h:BxF st b n cap (P++L++Q)) (hn:n<=100000000) {A B:Int} (hA:A=(P.length:Int)) (hB:B=((P.length+L.length:Nat):Int)) {K:St->Prop}
  (hk:∀st' M,M.Perm L->Srt lek M->BxF st' b n cap (P++M++Q)->StX (·=b) st st'->K st'):
  CallT PR AQ [.ms 14 b 0 n cap,.int .i64 A,.int .i64 B,cmp] [] st K:=by
 have hlen:=h.len
 simp only[List.length_append]at hlen
 refine Bs _ A B cmp st K ⟨fun i d a b' c' st'=>d= .ms 14 b 0 n cap/\a=A/\b'=B/\cmp=c'/\∃(k:Nat) (M R:List (List TV)),i=((P.length+k:Nat):Int)/\1<=k/\k<=L.length+1/\M.length=min k L.length/\(M++R).Perm L/\Srt lek M/\BxF st' b n cap (P++M++R++Q)/\StX (·=b) st st',
  fun i _ _ _ _ _=>(P.length+L.length+1-i).toNat,⟨rfl,rfl,rfl,rfl,1,L.take 1,L.drop 1,?_,Nat.le_refl _,by omega,by simp,(by rw[List.take_append_drop]),?_,(by rw[List.append_assoc P,List.take_append_drop];exact h),StX.refl _ _⟩,?_⟩
 ·rw[Ai _ (by omega) (by omega)];omega
 ·cases L with
  | nil=>exact List.Pairwise.nil
  | cons x L=>exact List.pairwise_singleton _ _
 rintro _ _ _ _ _ st1 ⟨rfl,rfl,rfl,rfl,k,M,R,rfl,hk1,hkl,hM,hp,hs,hb,e⟩
 subst hA hB
 refine Aa (fun g=>?_) fun g=>?_
 ·have hml:M.length=k:=by omega
  have hpl:=hp.length_eq
  simp only[List.length_append]at hpl
  obtain⟨x,R',rfl⟩:∃x R',R=x::R':=by cases R with | nil=>simp at hpl;omega | cons x R=>exact⟨x,R,rfl⟩
  simp only[List.length_cons]at hpl
  refine⟨fun j d a b' c' i' st'=>d= .ms 14 b 0 n cap/\a=(P.length:Int)/\b'=((P.length+L.length:Nat):Int)/\cmp=c'/\i'=((P.length+k:Nat):Int)/\∃A' B':List (List TV),j=((P.length+A'.length:Nat):Int)/\A'.length+B'.length=k/\(A'++x::B'++R').Perm L/\Srt lek (A'++B')/\(∀y,B'.head? =some y->lek x y)/\BxF st' b n cap (P++(A'++x::B')++R'++Q)/\StX (·=b) st st',
   fun j _ _ _ _ _ _=>j.toNat,⟨rfl,rfl,rfl,rfl,rfl,M,[],by omega,by simpa using hml,by simpa using hp,by simpa using hs,fun y hy=>by simp at hy,by simpa using hb,e⟩,?_⟩
  rintro _ _ _ _ _ _ st2 ⟨rfl,rfl,rfl,rfl,rfl,A',B',rfl,hab,hp2,hs2,hx,hb2,e2⟩
  have hp2l:=hp2.length_eq
  simp only[List.length_append,List.length_cons]at hp2l
  have next:∀st',StX (·=b) st st'->BxF st' b n cap (P++(A'++x::B')++R'++Q)->(∀y,A'.getLast? =some y->lek y x)->
    ∃(k':Nat) (M R:List (List TV)),i64.wrap (((P.length+k:Nat):Int)+1)=((P.length+k':Nat):Int)/\1<=k'/\k'<=L.length+1/\M.length=min k' L.length/\(M++R).Perm L/\Srt lek M/\BxF st' b n cap (P++M++R++Q)/\StX (·=b) st st':=fun st' e' hb' hy=>
   ⟨k+1,A'++x::B',R',by rw[Ai _ (by omega) (by omega)];omega,by omega,by omega,by simp only[List.length_append,List.length_cons];omega,hp2,Sj JN LA hs2 hy hx,hb',e'⟩
  have ms:(P.length+L.length+1-i64.wrap (((P.length+k:Nat):Int)+1)).toNat<(P.length+L.length+1-((P.length+k:Nat):Int)).toNat:=by
   rw[Ai _ (by omega) (by omega)];omega
  refine Aa (fun g2=>?_) fun g2=>?_
  ·have hA0:A'≠ []:=by intro h0;subst h0;simp at g2
   obtain⟨A'',y,hA'⟩:∃A'' y,A'=A''++[y]:=⟨_,_,(List.dropLast_concat_getLast hA0).symm⟩
   subst hA'
   simp only[List.length_append,List.length_cons,List.length_nil]at hab g2 hp2l
   have wj:i64.wrap (((P.length+(A''++[y]).length:Nat):Int)-1)=((P.length+A''.length:Nat):Int):=by
    rw[Ai _ (by simp;omega) (by simp;omega)];simp;omega
   have ec:P++(A''++[y]++x::B')++R'++Q=(P++A'')++y::x::(B'++R'++Q):=by simp
   have gi:(P++(A''++[y]++x::B')++R'++Q)[P.length+(A''++[y]).length]? =some x:=by
    rw[ec,List.getElem?_append_right (by simp)]
    simp[show P.length+(A''.length+1)-(P.length+A''.length)=1 by omega]
   have gj:(P++(A''++[y]++x::B')++R'++Q)[P.length+A''.length]? =some y:=by
    rw[ec,List.getElem?_append_right (by simp)]
    simp
   rw[wj]
   refine S3 hc hb2 rfl rfl gi gj fun r st3 e3 hr=>?_
   have hb3:=hb2.ext e3
   have e23:=e2.trans (StX.of e3)
   refine Aa (fun g3=>?_) fun g3=>?_
   ·refine Sg hb3 rfl rfl gi gj fun st4 hb4 e4=>?_
    have hset:((P++(A''++[y]++x::B')++R'++Q).set (P.length+(A''++[y]).length) y).set (P.length+A''.length) x=P++(A''++x::y::B')++R'++Q:=by
     rw[ec,List.set_append_right _ _ (by simp)]
     rw[show P.length+(A''++[y]).length-(P++A'').length=1 by simp only[List.length_append,List.length_cons,List.length_nil];omega,List.set_cons_succ,List.set_cons_zero,List.set_append_right _ _ (by simp)]
     rw[show P.length+A''.length-(P++A'').length=0 by simp,List.set_cons_zero]
     simp
    rw[hset]at hb4
    refine⟨⟨rfl,rfl,rfl,rfl,rfl,A'',y::B',rfl,by simp only[List.length_cons];omega,?_,by simpa using hs2,fun z hz=>?_,hb4,e23.trans e4⟩,by simp;omega⟩
    ·refine List.Perm.trans ?_ hp2
     simp only[List.append_assoc,List.cons_append,List.nil_append]
     exact List.Perm.append_left _ (List.Perm.swap _ _ _)
    ·simp at hz;subst hz
     exact GB (hr.1 g3)
   ·refine⟨⟨rfl,rfl,rfl,rfl,next st3 e23 hb3 fun z hz=>?_⟩,ms⟩
    simp at hz;subst hz
    cases hq:Op.bytesLess (Fi x) (Fi y)with
    | true=>exact absurd (hr.2 hq) g3
    | false=>exact hq
  ·have hA0:A'=[]:=by
    cases A' with
    | nil=>rfl
    | cons z A'=>simp at g2;omega
   exact⟨⟨rfl,rfl,rfl,rfl,next st2 e2 hb2 fun z hz=>by subst hA0;simp at hz⟩,ms⟩
 ·have hp':=hp.length_eq
  simp only[List.length_append]at hp'
  have hR:R=[]:=List.eq_nil_of_length_eq_zero (by omega)
  subst hR
  exact hk st1 M (by simpa using hp) hs (by simpa using hb) e
end
end
section
theorem LG (i j:Nat) (h:i+j<=1000000000):i64.wrap (Int.fdiv (IntKind.u64.wrap (i64.wrap ((i:Int)+(j:Int)))) (2^(min (Int.toNat (1:Int)) (IntKind.bits .u64))))=(((i+j)/2:Nat):Int):=by
 rw[Ai ((i:Int)+(j:Int)) (by omega) (by omega)]
 have hu:IntKind.u64.wrap ((i:Int)+(j:Int))=((i+j:Nat):Int):=by
  unfold IntKind.wrap
  simp only[IntKind.signed,IntKind.bits]
  simp
  omega
 rw[hu]
 have h2:((2:Int)^(min (Int.toNat (1:Int)) (IntKind.bits .u64)))=2:=by decide
 rw[h2]
 have h3:Int.fdiv ((i+j:Nat):Int) 2=(((i+j)/2:Nat):Int):=by
  rw[Int.fdiv_eq_ediv_of_nonneg _ (by omega)];omega
 rw[h3,Ai _ (by omega) (by omega)]
theorem FO {α:Type} {l:List α} {k:Nat} {x:α} (h:l[k]? =some x):(l.take (k+1)).getLast? =some x:=by
 obtain⟨hk,rfl⟩:=List.getElem?_eq_some_iff.1 h
 rw[List.take_succ_eq_append_getElem hk,List.getLast?_concat]
theorem JO {α:Type} {l:List α} {k:Nat} {x:α} (h:l[k]? =some x):(l.drop k).head? =some x:=by
 rw[List.head?_drop,h]
section
variable {st:St} {b n cap:Nat}
theorem sm_one {P R Q:List (List TV)} {x:List TV} {cmp:TV} (hc:Nw cmp) (h:BxF st b n cap (P++[x]++R++Q)) (hn:n<=100000000) (hs:Srt lek R) (hR:0<R.length) {A M B:Int} (hA:A=(P.length:Int)) (hM:M=((P.length+1:Nat):Int)) (hB:B=((P.length+1+R.length:Nat):Int)) {K:St->Prop}
  (hk:∀st' W,W.Perm ([x]++R)->Srt lek W->BxF st' b n cap (P++W++Q)->StX (·=b) st st'->K st'):
  CallT PR Aj [.ms 14 b 0 n cap,.int .i64 A,.int .i64 M,.int .i64 B,cmp] [] st K:=by
 have hlen:=h.len
 simp only[List.length_append,List.length_cons,List.length_nil]at hlen
 refine Ba _ A M B cmp st K (Aa (fun _=>?_) fun g=>absurd (by subst hA hM;rw[Ai _ (by omega) (by omega)];omega) g)
 refine⟨fun i j d a c' st'=>d= .ms 14 b 0 n cap/\a=A/\cmp=c'/\∃u v:Nat,i=((P.length+1+u:Nat):Int)/\j=((P.length+1+v:Nat):Int)/\u<=v/\v<=R.length/\(∀y,(R.take u).getLast? =some y->lek y x)/\(∀y,(R.drop v).head? =some y->lek x y)/\BxF st' b n cap (P++[x]++R++Q)/\StX (·=b) st st',
  fun i j _ _ _ _=>(j-i).toNat,⟨rfl,rfl,rfl,0,R.length,by omega,by omega,Nat.zero_le _,Nat.le_refl _,fun y hy=>by simp at hy,fun y hy=>by simp at hy,h,StX.refl _ _⟩,?_⟩
 rintro _ _ _ _ _ st1 ⟨rfl,rfl,rfl,u,v,rfl,rfl,huv,hv,h1,h2,hb,e⟩
 subst hA hM hB
 have gx:(P++[x]++R++Q)[P.length]? =some x:=by simp
 refine Aa (fun g=>?_) fun g=>?_
 ·rw[LG _ _ (by omega)]
  obtain⟨w,hw⟩:∃w,(P.length+1+u+(P.length+1+v))/2=P.length+1+w:=⟨(u+v)/2,by omega⟩
  have hwu:u<=w:=by omega
  have hwv:w<v:=by omega
  have hwr:w<R.length:=by omega
  rw[hw]
  have gy:(P++[x]++R++Q)[P.length+1+w]? =some R[w]:=by
   rw[List.append_assoc (P++[x]),List.getElem?_append_right (by simp only[List.length_append,List.length_cons,List.length_nil];omega),List.getElem?_append_left (by simp only[List.length_append,List.length_cons,List.length_nil];omega)]
   simp[show P.length+1+w-(P.length+1)=w by omega,hwr]
  have gw:R[w]? =some R[w]:=List.getElem?_eq_getElem hwr
  refine S3 hc hb rfl rfl gy gx fun r st2 e2 hr=>?_
  have hb2:=hb.ext e2
  have e12:=e.trans (StX.of e2)
  refine Aa (fun g3=>?_) fun g3=>?_
  ·exact⟨⟨rfl,rfl,rfl,w+1,v,by rw[Ai _ (by omega) (by omega)];omega,rfl,by omega,hv,fun y hy=>by rw[FO gw]at hy;cases hy;exact GB (hr.1 g3),h2,hb2,e12⟩,by dsimp only;rw[Ai _ (by omega) (by omega)];omega⟩
  ·refine⟨⟨rfl,rfl,rfl,u,w,rfl,rfl,hwu,by omega,h1,fun y hy=>?_,hb2,e12⟩,by dsimp only;omega⟩
   rw[JO gw]at hy;cases hy
   cases hq:Op.bytesLess (Fi R[w]) (Fi x)with
   | true=>exact absurd (hr.2 hq) g3
   | false=>exact hq
 ·obtain rfl:u=v:=by omega
  refine⟨fun k d i st'=>d= .ms 14 b 0 n cap/\i=((P.length+1+u:Nat):Int)/\∃w:Nat,k=((P.length+w:Nat):Int)/\w<=u/\BxF st' b n cap (P++R.take w++[x]++R.drop w++Q)/\StX (·=b) st st',
   fun k _ _ _=>(P.length+u-k).toNat,⟨rfl,rfl,0,by omega,Nat.zero_le _,by simpa using hb,e⟩,?_⟩
  rintro _ _ _ st3 ⟨rfl,rfl,w,rfl,hwu,hb3,e3⟩
  have wi:i64.wrap (((P.length+1+u:Nat):Int)-1)=((P.length+u:Nat):Int):=by rw[Ai _ (by omega) (by omega)];omega
  rw[wi]
  refine Aa (fun g4=>?_) fun g4=>?_
  ·have hwr:w<R.length:=by omega
   have wk:i64.wrap (((P.length+w:Nat):Int)+1)=((P.length+w+1:Nat):Int):=by rw[Ai _ (by omega) (by omega)];omega
   have hd:R.drop w=R[w]::R.drop (w+1):=List.drop_eq_getElem_cons hwr
   have ec:P++R.take w++[x]++R.drop w++Q=(P++R.take w)++x::R[w]::(R.drop (w+1)++Q):=by rw[hd];simp only[List.append_assoc,List.cons_append,List.nil_append]
   have lc:(P++R.take w).length=P.length+w:=by simp;omega
   rw[ec]at hb3
   have gi:((P++R.take w)++x::R[w]::(R.drop (w+1)++Q))[P.length+w]? =some x:=by
    rw[List.getElem?_append_right (by omega),lc,Nat.sub_self];rfl
   have gj:((P++R.take w)++x::R[w]::(R.drop (w+1)++Q))[P.length+w+1]? =some R[w]:=by
    rw[List.getElem?_append_right (by omega),lc,show P.length+w+1-(P.length+w)=1 by omega];rfl
   rw[wk]
   refine Sg hb3 rfl rfl gi gj fun st4 hb4 e4=>⟨⟨rfl,rfl,w+1,rfl,by omega,?_,e3.trans e4⟩,by dsimp only;omega⟩
   have hset:((((P++R.take w)++x::R[w]::(R.drop (w+1)++Q)).set (P.length+w) R[w]).set (P.length+w+1) x)=P++R.take (w+1)++[x]++R.drop (w+1)++Q:=by
    rw[List.set_append_right _ _ (by omega),lc,Nat.sub_self,List.set_cons_zero,List.set_append_right _ _ (by omega),lc,show P.length+w+1-(P.length+w)=1 by omega,List.set_cons_succ,List.set_cons_zero]
    have t1:R.take (w+1)=R.take w++[R[w]]:=by rw[List.take_succ_eq_append_getElem hwr]
    rw[t1];simp only[List.append_assoc,List.cons_append,List.nil_append]
   rw[hset]at hb4
   exact hb4
  ·obtain rfl:w=u:=by omega
   refine hk st3 (R.take w++x::R.drop w) ?_ (Sj JN LA (by rw[List.take_append_drop];exact hs) h1 h2) (by simpa using hb3) e3
   refine List.perm_middle.trans ?_
   rw[List.take_append_drop];exact List.Perm.refl _
theorem sm_two {P L Q:List (List TV)} {x:List TV} {cmp:TV} (hc:Nw cmp) (h:BxF st b n cap (P++L++[x]++Q)) (hn:n<=100000000) (hs:Srt lek L) (hL:1<L.length) {A M B:Int} (hA:A=(P.length:Int)) (hM:M=((P.length+L.length:Nat):Int)) (hB:B=((P.length+L.length+1:Nat):Int)) {K:St->Prop}
  (hk:∀st' W,W.Perm (L++[x])->Srt lek W->BxF st' b n cap (P++W++Q)->StX (·=b) st st'->K st'):
  CallT PR Aj [.ms 14 b 0 n cap,.int .i64 A,.int .i64 M,.int .i64 B,cmp] [] st K:=by
 have hlen:=h.len
 simp only[List.length_append,List.length_cons,List.length_nil]at hlen
 refine Ba _ A M B cmp st K (Aa (fun g=>absurd g (by subst hA hM;rw[Ai _ (by omega) (by omega)];omega)) fun _=>Aa (fun _=>?_) fun g=>absurd (by subst hB hM;rw[Ai _ (by omega) (by omega)];omega) g)
 refine⟨fun i j d m c' st'=>d= .ms 14 b 0 n cap/\m=M/\cmp=c'/\∃u v:Nat,i=((P.length+u:Nat):Int)/\j=((P.length+v:Nat):Int)/\u<=v/\v<=L.length/\(∀y,(L.take u).getLast? =some y->lek y x)/\(∀y,(L.drop v).head? =some y->lek x y)/\BxF st' b n cap (P++L++[x]++Q)/\StX (·=b) st st',
  fun i j _ _ _ _=>(j-i).toNat,⟨rfl,rfl,rfl,0,L.length,by omega,by omega,Nat.zero_le _,Nat.le_refl _,fun y hy=>by simp at hy,fun y hy=>by simp at hy,h,StX.refl _ _⟩,?_⟩
 rintro _ _ _ _ _ st1 ⟨rfl,rfl,rfl,u,v,rfl,rfl,huv,hv,h1,h2,hb,e⟩
 subst hA hM hB
 have gx:(P++L++[x]++Q)[P.length+L.length]? =some x:=by
  rw[List.append_assoc (P++L),List.getElem?_append_right (by simp),List.length_append,Nat.sub_self];rfl
 refine Aa (fun g=>?_) fun g=>?_
 ·rw[LG _ _ (by omega)]
  obtain⟨w,hw⟩:∃w,(P.length+u+(P.length+v))/2=P.length+w:=⟨(u+v)/2,by omega⟩
  have hwu:u<=w:=by omega
  have hwv:w<v:=by omega
  have hwr:w<L.length:=by omega
  rw[hw]
  have gy:(P++L++[x]++Q)[P.length+w]? =some L[w]:=by
   rw[List.append_assoc,List.append_assoc,List.getElem?_append_right (by omega),List.getElem?_append_left (by omega),Nat.add_sub_cancel_left]
   exact List.getElem?_eq_getElem hwr
  have gw:L[w]? =some L[w]:=List.getElem?_eq_getElem hwr
  refine S3 hc hb rfl rfl gx gy fun r st2 e2 hr=>?_
  have hb2:=hb.ext e2
  have e12:=e.trans (StX.of e2)
  refine Aq (fun g3=>?_) fun g3=>?_
  ·refine⟨⟨rfl,rfl,rfl,w+1,v,by rw[Ai _ (by omega) (by omega)];omega,rfl,by omega,hv,fun y hy=>?_,h2,hb2,e12⟩,by dsimp only;rw[Ai _ (by omega) (by omega)];omega⟩
   rw[FO gw]at hy;cases hy
   cases hq:Op.bytesLess (Fi x) (Fi L[w])with
   | true=>have:=hr.2 hq;simp at g3;omega
   | false=>exact hq
  ·exact⟨⟨rfl,rfl,rfl,u,w,rfl,rfl,hwu,by omega,h1,fun y hy=>by rw[JO gw]at hy;cases hy;exact GB (hr.1 (by simpa using g3)),hb2,e12⟩,by dsimp only;omega⟩
 ·obtain rfl:u=v:=by omega
  refine⟨fun k d i st'=>d= .ms 14 b 0 n cap/\i=((P.length+u:Nat):Int)/\∃w:Nat,k=((P.length+w:Nat):Int)/\u<=w/\w<=L.length/\BxF st' b n cap (P++L.take w++[x]++L.drop w++Q)/\StX (·=b) st st',
   fun k _ _ _=>k.toNat,⟨rfl,rfl,L.length,by omega,hv,Nat.le_refl _,by simpa using hb,e⟩,?_⟩
  rintro _ _ _ st3 ⟨rfl,rfl,w,rfl,hwu,hwl,hb3,e3⟩
  refine Aa (fun g4=>?_) fun g4=>?_
  ·obtain⟨w,rfl⟩:∃w',w=w'+1:=⟨w-1,by omega⟩
   have hwr:w<L.length:=by omega
   have wk:i64.wrap (((P.length+(w+1):Nat):Int)-1)=((P.length+w:Nat):Int):=by rw[Ai _ (by omega) (by omega)];omega
   have t1:L.take (w+1)=L.take w++[L[w]]:=by rw[List.take_succ_eq_append_getElem hwr]
   have ec:P++L.take (w+1)++[x]++L.drop (w+1)++Q=(P++L.take w)++L[w]::x::(L.drop (w+1)++Q):=by rw[t1];simp only[List.append_assoc,List.cons_append,List.nil_append]
   have lc:(P++L.take w).length=P.length+w:=by simp;omega
   rw[ec]at hb3
   have gi:((P++L.take w)++L[w]::x::(L.drop (w+1)++Q))[P.length+(w+1)]? =some x:=by
    rw[List.getElem?_append_right (by omega),lc,show P.length+(w+1)-(P.length+w)=1 by omega];rfl
   have gj:((P++L.take w)++L[w]::x::(L.drop (w+1)++Q))[P.length+w]? =some L[w]:=by
    rw[List.getElem?_append_right (by omega),lc,Nat.sub_self];rfl
   rw[wk]
   refine Sg hb3 rfl rfl gi gj fun st4 hb4 e4=>⟨⟨rfl,rfl,w,rfl,by omega,by omega,?_,e3.trans e4⟩,by dsimp only;omega⟩
   have hset:((((P++L.take w)++L[w]::x::(L.drop (w+1)++Q)).set (P.length+(w+1)) L[w]).set (P.length+w) x)=P++L.take w++[x]++L.drop w++Q:=by
    rw[List.set_append_right _ _ (by omega),lc,show P.length+(w+1)-(P.length+w)=1 by omega,List.set_cons_succ,List.set_cons_zero,List.set_append_right _ _ (by omega),lc,Nat.sub_self,List.set_cons_zero]
    have hd:L.drop w=L[w]::L.drop (w+1):=List.drop_eq_getElem_cons hwr
    rw[hd];simp only[List.append_assoc,List.cons_append,List.nil_append]
   rw[hset]at hb4
   exact hb4
  ·obtain rfl:w=u:=by omega
   refine hk st3 (L.take w++x::L.drop w) ?_ (Sj JN LA (by rw[List.take_append_drop];exact hs) h1 h2) (by simpa using hb3) e3
   refine List.perm_middle.trans ?_
   rw[List.take_append_drop]
   exact List.perm_append_comm (l₁:=[x])
end
end
end Go.TVF
