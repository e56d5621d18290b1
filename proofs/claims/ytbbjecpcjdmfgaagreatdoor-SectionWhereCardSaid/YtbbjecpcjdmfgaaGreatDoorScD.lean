/- What the laws below rest on: a framework for Go programs, and contracts of the functions that they reach. -/
import Derived.Test.YtbbjecpcjdmfgaaGreatDoorScC
import Derived.Lib.DecodeN
set_option maxRecDepth 20000
set_option linter.unusedVariables false
set_option linter.unusedSimpArgs false
namespace Go.TVF
open Go.IntKind(i64 u8)
open Go Go.Proofs
theorem Ge (b:Nat) (depth:Int) (st:St) (K:TV->St->Prop) (h:need (List.all [(.map st.nb)] Ah) (Ai (Ac ((st.push (.map []) none).push (.cells [.nilSlice,(.map st.nb),.int .i64 depth]) (some 89)) [] (.t (.box b 2)) 0) (fun (v1:TV)=>puK v1 (.box (st.push (.map []) none).nb 0) (.bool true) ((st.push (.map []) none).push (.cells [.nilSlice,(.map st.nb),.int .i64 depth]) (some 89)) (fun a=>Ai (Ac a [] (.t (.box b 3)) 0) (fun (x2:TV)=>AE (.int .i64) x2 (fun (n1:Int)=>stB a (.box b 3) [(.int .i64 (i64.wrap (n1+(1:Int))))] (fun c=>K ((.box (st.push (.map []) none).nb 0)) c))))))):CallT PR AC [(.box b 0),.int .i64 depth] [.one .tv] st K:=
 Af (cfg:=⟨[],[],[]⟩) (h:= .none) mixed (fun _ _=>Tryz.call70 _ _) Tryz.func70 (by kernel_rfl) (by kernel_rfl) h
theorem JM (a_0:Bool) (a_1:Bool) (a_2:TV) (a_3:Int) (a_4:Bool) (a_5:Bool) (a_6:B8) (a_7:Int) (a_8:Int) (a_9:Int) (a_10:Int) (a_11:Int) (a_12:B8) (a_13:TV) (a_14:TV) (a_15:TV) (st:St) (K:Bool->St->Prop) (h:need (isSl a_2) (BId ((0:Int)<(lenS a_2:Int)) (BIf a_0 (BIf (!a_0) (K true st) (CallT PR CI [(.agg (cV a_3 a_4 a_5 a_6 a_7 a_8 a_9 a_10 a_11 a_12 a_13 a_14 a_15))] [.one .bool] st (fun (b1:Bool) b=>K b1 b))) (BIf (!a_1) (BIf (!a_0) (K true st) (CallT PR CI [(.agg (cV a_3 a_4 a_5 a_6 a_7 a_8 a_9 a_10 a_11 a_12 a_13 a_14 a_15))] [.one .bool] st (fun (b2:Bool) a=>K b2 a))) (K false st))) (K false st))):CallT PR C7 [(.agg [.bool a_0,.bool a_1,a_2,.int .i64 a_3,.bool a_4,.bool a_5,.str a_6,.int .i64 a_7,.int .i64 a_8,.int .i64 a_9,.int .i64 a_10,.int .i64 a_11,.str a_12,a_13,a_14,a_15])] [.one .bool] st K:=
 Af (cfg:=⟨[1],[],[]⟩) (h:= .none) mixed (fun _ _=>Tryz.call71 _ _) Tryz.func71 (by kernel_rfl) (by kernel_rfl) h
theorem Gf (b:Nat) (t:Nat) (a_0:Bool) (a_1:Bool) (a_2:TV) (a_3:Int) (a_4:Bool) (a_5:Bool) (a_6:B8) (a_7:Int) (a_8:Int) (a_9:Int) (a_10:Int) (a_11:Int) (a_12:B8) (a_13:TV) (a_14:TV) (a_15:TV) (st:St) (K:TV->Bool->St->Prop) (h:need (isSl a_2) (((isLst 1 a_2=true/\0<=(i64.wrap ((lenS a_2:Int)-(1:Int)))/\(i64.wrap ((lenS a_2:Int)-(1:Int)))<=(lenS a_2:Int))/\need (isSl (slT 1 .non a_2 0 (Int.toNat (i64.wrap ((lenS a_2:Int)-(1:Int)))))) (∃(I1:TV->Int->TV->TV->Int->Bool->Bool->TV->V13 (St->Prop)) (M1:TV->Int->TV->TV->Int->Bool->Bool->TV->V13 (St->Nat)),(I1 ((.box t 0)) 0 ((.box b 0)) ((slT 1 .non a_2 0 (Int.toNat (i64.wrap ((lenS a_2:Int)-(1:Int)))))) ((lenS (slT 1 .non a_2 0 (Int.toNat (i64.wrap ((lenS a_2:Int)-(1:Int))))):Int)) a_0 a_1 a_2 a_3 a_4 a_5 a_6 a_7 a_8 a_9 a_10 a_11 a_12 a_13 a_14 a_15 st)/\∀e c f d g b1 b2 v1 n1 b3 b4 s1 n2 n3 n4 n5 n6 s2 v2 v3 v4 a,I1 e c f d g b1 b2 v1 n1 b3 b4 s1 n2 n3 n4 n5 n6 s2 v2 v3 v4 a->(BId (c<g) (((0<=c/\c<(lenZ 1 d:Int))/\Ai (Ac a [] (.t (ixT 1 d c.toNat)) 0) (fun (x1:TV)=>AE .str x1 (fun (s3:B8)=>need (isPtr e) (need (isPtr e) (Ai (Ac a [] (.t (At e 1)) 0) (fun (v5:TV)=>Ai (ED a v5) (fun (es1:List (B8×TV))=>need (FC (Ar .nilPtr (Av s3 es1))) (BIf (CN (Ar .nilPtr (Av s3 es1))) (need (isPtr e) (need (isPtr e) (Ai (Ac a [] (.t (At e 2)) 0) (fun (x3:TV)=>AE (.int .i64) x3 (fun (n7:Int)=>CallT PR AC [f,(.int .i64 (i64.wrap (n7+(1:Int))))] [.one .tv] a (fun (v6:TV) m=>need (List.all [v6] Ah) (CallT PR AO [e,.str s3,(.box m.nb 0)] [] (m.push (.cells [v6,.nilSlice,.int .i64 0,.bool false,.bool false,(.str []),.int .i64 0,.int .i64 0,.int .i64 0,.int .i64 0,.int .i64 0,(.str []),.nilSlice,.nilSlice,.nilSlice,.int .i64 0]) (some 92)) (fun (l:St)=>(I1 v6 ((i64.wrap (c+(1:Int)))) f d g b1 b2 v1 n1 b3 b4 s1 n2 n3 n4 n5 n6 s2 v2 v3 v4 l/\M1 v6 ((i64.wrap (c+(1:Int)))) f d g b1 b2 v1 n1 b3 b4 s1 n2 n3 n4 n5 n6 s2 v2 v3 v4 l<M1 e c f d g b1 b2 v1 n1 b3 b4 s1 n2 n3 n4 n5 n6 s2 v2 v3 v4 a))))))))) (need (isPtr (Ar .nilPtr (Av s3 es1))) (need (isPtr (Ar .nilPtr (Av s3 es1))) (Ai (Ac a [] (.t (At (Ar .nilPtr (Av s3 es1)) 0)) 0) (fun (v7:TV)=>need (FC v7) (BIf (!CN v7) (need (isPtr (Ar .nilPtr (Av s3 es1))) (need (isPtr (Ar .nilPtr (Av s3 es1))) (Ai (Ac a [] (.t (At (Ar .nilPtr (Av s3 es1)) 0)) 0) (fun (v8:TV)=>(I1 v8 ((i64.wrap (c+(1:Int)))) f d g b1 b2 v1 n1 b3 b4 s1 n2 n3 n4 n5 n6 s2 v2 v3 v4 a/\M1 v8 ((i64.wrap (c+(1:Int)))) f d g b1 b2 v1 n1 b3 b4 s1 n2 n3 n4 n5 n6 s2 v2 v3 v4 a<M1 e c f d g b1 b2 v1 n1 b3 b4 s1 n2 n3 n4 n5 n6 s2 v2 v3 v4 a))))) (need (isPtr (Ar .nilPtr (Av s3 es1))) (need (isPtr (Ar .nilPtr (Av s3 es1))) (Ai (Ac a [] (.t (At (Ar .nilPtr (Av s3 es1)) 1)) 0) (fun (v9:TV)=>need (isSl v9) (BId ((0:Int)<(lenS v9:Int)) (BIf b1 (need (isPtr (Ar .nilPtr (Av s3 es1))) (need (isPtr (Ar .nilPtr (Av s3 es1))) (Ai (Ac a [] (.t (At (Ar .nilPtr (Av s3 es1)) 1)) 0) (fun (j:TV)=>need (isPtr (Ar .nilPtr (Av s3 es1))) (need (isPtr (Ar .nilPtr (Av s3 es1))) (Ai (Ac a [] (.t (At (Ar .nilPtr (Av s3 es1)) 1)) 0) (fun (i:TV)=>need (isSl i) (((0<=(i64.wrap ((lenS i:Int)-(1:Int)))/\(i64.wrap ((lenS i:Int)-(1:Int)))<(lenZ 1 j:Int))/\Ai (Ac a [] (.t (ixT 1 j (Int.toNat (i64.wrap ((lenS i:Int)-(1:Int)))))) 0) (fun (k:TV)=>(I1 k ((i64.wrap (c+(1:Int)))) f d g b1 b2 v1 n1 b3 b4 s1 n2 n3 n4 n5 n6 s2 v2 v3 v4 a/\M1 k ((i64.wrap (c+(1:Int)))) f d g b1 b2 v1 n1 b3 b4 s1 n2 n3 n4 n5 n6 s2 v2 v3 v4 a<M1 e c f d g b1 b2 v1 n1 b3 b4 s1 n2 n3 n4 n5 n6 s2 v2 v3 v4 a))))))))))) (K .nilPtr false a)) (K .nilPtr false a)))))))))))))))))))) (K e true a)))))):CallT PR Cj [(.box b 0),(.box t 0),(.agg [.bool a_0,.bool a_1,a_2,.int .i64 a_3,.bool a_4,.bool a_5,.str a_6,.int .i64 a_7,.int .i64 a_8,.int .i64 a_9,.int .i64 a_10,.int .i64 a_11,.str a_12,a_13,a_14,a_15])] [.one .tv,.one .bool] st K:=
 Af (cfg:=⟨[5],[],[]⟩) (h:=(.seq .none (.seq (.seq .none (.block (.loop ⟨[(1,.tv),(20,.int .i64),(0,.tv),(18,.tv),(19,.int .i64)],[(5,0,0)],[(0,16)],[(0,0,.bool),(0,1,.bool),(0,2,.tv),(0,3,.int .i64),(0,4,.bool),(0,5,.bool),(0,6,.str),(0,7,.int .i64),(0,8,.int .i64),(0,9,.int .i64),(0,10,.int .i64),(0,11,.int .i64),(0,12,.str),(0,13,.tv),(0,14,.tv),(0,15,.tv)]⟩ .none))) .none))) mixed (fun _ _=>Tryz.call72 _ _) Tryz.func72 (by kernel_rfl) (by kernel_rfl) h
theorem Fq (b:Nat) (t:Nat) (key:B8) (st:St) (K:Int->St->Prop) (h:Ai (Ac st [] (.t (.box t 1)) 0) (fun (v1:TV)=>Ai (ED st v1) (fun (es1:List (B8×TV))=>need (FC (Ar .nilPtr (Av key es1))) (BIf (CN (Ar .nilPtr (Av key es1))) (CallT PR AO [(.box t 0),.str key,(.box st.nb 0)] [] (st.push (.cells [.nilPtr,.nilSlice,.int .i64 0,.bool false,.bool false,(.str []),.int .i64 0,.int .i64 0,.int .i64 0,.int .i64 0,.int .i64 0,(.str []),.nilSlice,.nilSlice,.nilSlice,.int .i64 0]) (some 92)) (fun (e:St)=>Ai (Ac e [] (.t (.box b 3)) 0) (fun (x2:TV)=>AE (.int .i64) x2 (fun (n1:Int)=>stB e (.box b 3) [(.int .i64 (i64.wrap (n1+(1:Int))))] (fun f=>Ai (Ac f [] (.t (.box t 2)) 0) (fun (x3:TV)=>AE (.int .i64) x3 (fun (n2:Int)=>CallT PR AC [(.box b 0),(.int .i64 (i64.wrap (n2+(2:Int))))] [.one .tv] f (fun (v2:TV) k=>need (List.all [v2] Ah) (stB k (.box b 1) [v2] (fun c=>Ai (Ac c [] (.t (.box st.nb 1)) 0) (fun (v3:TV)=>Ai (Ac c [] (.t (.box b 1)) 0) (fun (v4:TV)=>need (List.all [v4] Ah) (need (List.all [v4] Ah) (Cl 71 1 8 v3 1 [v4] c (fun (v5:TV) i=>need (List.all [v5] Ah) (stB i (.box st.nb 1) [v5] (fun j=>K 0 j))))))))))))))))) (need (isPtr (Ar .nilPtr (Av key es1))) (need (isPtr (Ar .nilPtr (Av key es1))) (Ai (Ac st [] (.t (At (Ar .nilPtr (Av key es1)) 1)) 0) (fun (v6:TV)=>need (isSl v6) (BId ((lenS v6:Int)=(0:Int)) (K 6 st) (Ai (Ac st [] (.t (.box t 2)) 0) (fun (x7:TV)=>AE (.int .i64) x7 (fun (n3:Int)=>CallT PR AC [(.box b 0),(.int .i64 (i64.wrap (n3+(2:Int))))] [.one .tv] st (fun (v7:TV) m=>need (List.all [v7] Ah) (stB m (.box b 1) [v7] (fun a=>need (isPtr (Ar .nilPtr (Av key es1))) (need (isPtr (Ar .nilPtr (Av key es1))) (Ai (Ac a [] (.t (At (Ar .nilPtr (Av key es1)) 1)) 0) (fun (v8:TV)=>Ai (Ac a [] (.t (.box b 1)) 0) (fun (v9:TV)=>need (List.all [v9] Ah) (need (List.all [v9] Ah) (Cl 71 1 8 v8 1 [v9] a (fun (d:TV) l=>need (isPtr (Ar .nilPtr (Av key es1))) (need (isPtr (Ar .nilPtr (Av key es1))) (need (List.all [d] Ah) (stB l (At (Ar .nilPtr (Av key es1)) 1) [d] (fun g=>K 0 g)))))))))))))))))))))))))):CallT PR BU [(.box b 0),(.box t 0),.str key] [.one (.int .i64)] st K:=
 Af (cfg:=⟨[],[],[]⟩) (h:= .none) mixed (fun _ _=>Tryz.call73 _ _) Tryz.func73 (by kernel_rfl) (by kernel_rfl) h
theorem FR (b:Nat) (t:Nat) (key:B8) (st:St) (K:Int->St->Prop) (h:Ai (Ac st [] (.t (.box t 1)) 0) (fun (v1:TV)=>Ai (ED st v1) (fun (es1:List (B8×TV))=>need (FC (Ar .nilPtr (Av key es1))) (BIf (CN (Ar .nilPtr (Av key es1))) (Ai (Ac st [] (.t (.box t 2)) 0) (fun (x2:TV)=>AE (.int .i64) x2 (fun (n1:Int)=>CallT PR AC [(.box b 0),(.int .i64 (i64.wrap (n1+(1:Int))))] [.one .tv] st (fun (v2:TV) c=>need (List.all [v2] Ah) (CallT PR AO [(.box t 0),.str key,(.box c.nb 0)] [] (c.push (.cells [v2,.nilSlice,.int .i64 0,.bool false,.bool false,(.str []),.int .i64 0,.int .i64 0,.int .i64 0,.int .i64 0,.int .i64 0,(.str []),.nilSlice,.nilSlice,.nilSlice,.int .i64 0]) (some 92)) (fun (a:St)=>Ai (Ac a [] (.t (.box c.nb 0)) 0) (fun (v3:TV)=>need (FC v3) (BIf (CN v3) (K 8 a) (Ai (Ac a [] (.t (.box b 2)) 0) (fun (v4:TV)=>Ai (Ac a [] (.t (.box c.nb 0)) 0) (fun (v5:TV)=>Ai (plook a v4 v5 false (.bool false)) (fun (x6:TV)=>AE .bool x6 (fun (b1:Bool)=>BIf (!b1) (K 8 a) (Ai (Ac a [] (.t (.box b 2)) 0) (fun (v6:TV)=>Ai (Ac a [] (.t (.box c.nb 0)) 0) (fun (v7:TV)=>pdK v6 v7 a (fun f=>Ai (Ac f [] (.t (.box c.nb 0)) 0) (fun (v8:TV)=>need (List.all [v8] Ah) (stB f (.box b 1) [v8] (fun j=>K 0 j)))))))))))))))))))) (need (isPtr (Ar .nilPtr (Av key es1))) (need (isPtr (Ar .nilPtr (Av key es1))) (Ai (Ac st [] (.t (At (Ar .nilPtr (Av key es1)) 0)) 0) (fun (v9:TV)=>need (FC v9) (BIf (CN v9) (K 8 st) (Ai (Ac st [] (.t (.box b 2)) 0) (fun (g:TV)=>need (isPtr (Ar .nilPtr (Av key es1))) (need (isPtr (Ar .nilPtr (Av key es1))) (Ai (Ac st [] (.t (At (Ar .nilPtr (Av key es1)) 0)) 0) (fun (l:TV)=>Ai (plook st g l false (.bool false)) (fun (n:TV)=>AE .bool n (fun (b2:Bool)=>BIf (!b2) (K 8 st) (Ai (Ac st [] (.t (.box b 2)) 0) (fun (k:TV)=>need (isPtr (Ar .nilPtr (Av key es1))) (need (isPtr (Ar .nilPtr (Av key es1))) (Ai (Ac st [] (.t (At (Ar .nilPtr (Av key es1)) 0)) 0) (fun (i:TV)=>pdK k i st (fun e=>need (isPtr (Ar .nilPtr (Av key es1))) (need (isPtr (Ar .nilPtr (Av key es1))) (Ai (Ac e [] (.t (At (Ar .nilPtr (Av key es1)) 0)) 0) (fun (d:TV)=>need (List.all [d] Ah) (stB e (.box b 1) [d] (fun m=>K 0 m))))))))))))))))))))))))))):CallT PR B3 [(.box b 0),(.box t 0),.str key] [.one (.int .i64)] st K:=
 Af (cfg:=⟨[],[],[]⟩) (h:= .none) mixed (fun _ _=>Tryz.call74 _ _) Tryz.func74 (by kernel_rfl) (by kernel_rfl) h
theorem HO (t:Nat) (key:B8) (e:Nat) (st:St) (K:St->Prop) (h:Ai (Ac st [] (.t (.box t 0)) 0) (fun (v1:TV)=>Cl 9 1 16 v1 1 [.str key] st (fun (v2:TV) b=>need (List.all [v2] Ah) (stB b (.box t 0) [v2] (fun a=>Ai (Ac a [] (.t (.box t 1)) 0) (fun (v3:TV)=>muK v3 key (.box e 0) a (fun c=>K c))))))):CallT PR AO [(.box t 0),.str key,(.box e 0)] [] st K:=
 Af (cfg:=⟨[],[],[]⟩) (h:= .none) mixed (fun _ _=>Tryz.call75 _ _) Tryz.func75 (by kernel_rfl) (by kernel_rfl) h
theorem MZ (v_0:Int) (v_1:Bool) (v_2:Bool) (v_3:B8) (v_4:Int) (v_5:Int) (v_6:Int) (v_7:Int) (v_8:Int) (v_9:B8) (v_10:TV) (v_11:TV) (v_12:TV) (st:St) (K:Int->St->Prop) (h:CallT PR Ex [(.agg (cV v_0 v_1 v_2 v_3 v_4 v_5 v_6 v_7 v_8 v_9 v_10 v_11 v_12)),.int .i64 65536] [.one (.int .i64)] st (fun (n1:Int) a=>K n1 a)):CallT PR Gl [(.agg (cV v_0 v_1 v_2 v_3 v_4 v_5 v_6 v_7 v_8 v_9 v_10 v_11 v_12))] [.one (.int .i64)] st K:=
 Af (cfg:=⟨[1],[],[]⟩) (h:= .none) mixed (fun _ _=>Tryz.call76 _ _) Tryz.func76 (by kernel_rfl) (by kernel_rfl) h
theorem LO (v_0:Int) (v_1:Bool) (v_2:Bool) (v_3:B8) (v_4:Int) (v_5:Int) (v_6:Int) (v_7:Int) (v_8:Int) (v_9:B8) (v_10:TV) (v_11:TV) (v_12:TV) (st:St) (K:Int->St->Prop) (h:CallT PR Ez [(.agg (cV v_0 v_1 v_2 v_3 v_4 v_5 v_6 v_7 v_8 v_9 v_10 v_11 v_12)),.int .i64 65536] [.one (.int .i64)] st (fun (n1:Int) a=>K n1 a)):CallT PR FF [(.agg (cV v_0 v_1 v_2 v_3 v_4 v_5 v_6 v_7 v_8 v_9 v_10 v_11 v_12))] [.one (.int .i64)] st K:=
 Af (cfg:=⟨[1],[],[]⟩) (h:= .none) mixed (fun _ _=>Tryz.call77 _ _) Tryz.func77 (by kernel_rfl) (by kernel_rfl) h
theorem C8 (s:TV) (f:TV) (st:St) (K:Bool->St->Prop) (h:CallT PR BE [s,f] [.one (.int .i64)] st (fun (n1:Int) a=>K ((decide ((0:Int)<=n1))) a)):CallT PR Ay [s,f] [.one .bool] st K:=
 Af (cfg:=⟨[],[],[]⟩) (h:= .none) mixed (fun _ _=>Tryz.call78 _ _) Tryz.func78 (by kernel_rfl) (by kernel_rfl) h
theorem LQ (s:B8) (st:St) (K:Bool->St->Prop) (h:CallT PR E3 [.str s] [.one .bool] st (fun (b1:Bool) a=>BIf (!b1) (K true a) (K ((decide ((1024:Int)<(s.length:Int)))) a))):CallT PR Be [.str s] [.one .bool] st K:=
 Af (cfg:=⟨[],[],[]⟩) (h:= .none) mixed (fun _ _=>Tryz.call79 _ _) Tryz.func79 (by kernel_rfl) (by kernel_rfl) h
theorem EP (s:TV) (st:St) (K:TV->St->Prop) (h:need (isSl s) (BIf (CN s) (K .nilSlice st) (Ai (Cu st 1 s) (fun (q1:Nat×List TV)=>need (List.all q1.2 Ah) (Gu 5 1 1 (.list 1 .full 0 []) q1.1 q1.2 st (fun (v1:TV) a=>K v1 a)))))):CallT PR Bz [s] [.one .tv] st K:=
 Af (cfg:=⟨[],[7],[]⟩) (h:= .none) mixed (fun _ _=>Tryz.call80 _ _) Tryz.func80 (by kernel_rfl) (by kernel_rfl) h
theorem GU (a_0:Bool) (a_1:Bool) (a_2:TV) (a_3:Int) (a_4:Bool) (a_5:Bool) (a_6:B8) (a_7:Int) (a_8:Int) (a_9:Int) (a_10:Int) (a_11:Int) (a_12:B8) (a_13:TV) (a_14:TV) (a_15:TV) (st:St) (K:Bool->St->Prop) (h:need (isSl a_2) (BId ((0:Int)<(lenS a_2:Int)) (BIf a_0 (BIf (!a_0) (K true st) (CallT PR Bk [(.agg (cV a_3 a_4 a_5 a_6 a_7 a_8 a_9 a_10 a_11 a_12 a_13 a_14 a_15))] [.one .bool] st (fun (b1:Bool) b=>K b1 b))) (BIf (!a_1) (BIf (!a_0) (K true st) (CallT PR Bk [(.agg (cV a_3 a_4 a_5 a_6 a_7 a_8 a_9 a_10 a_11 a_12 a_13 a_14 a_15))] [.one .bool] st (fun (b2:Bool) a=>K b2 a))) (K false st))) (K false st))):CallT PR BK [(.agg [.bool a_0,.bool a_1,a_2,.int .i64 a_3,.bool a_4,.bool a_5,.str a_6,.int .i64 a_7,.int .i64 a_8,.int .i64 a_9,.int .i64 a_10,.int .i64 a_11,.str a_12,a_13,a_14,a_15])] [.one .bool] st K:=
 Af (cfg:=⟨[1],[],[]⟩) (h:= .none) mixed (fun _ _=>Tryz.call81 _ _) Tryz.func81 (by kernel_rfl) (by kernel_rfl) h
theorem Hv (x_0:Int) (x_1:Bool) (x_2:Bool) (x_3:B8) (x_4:Int) (x_5:Int) (x_6:Int) (x_7:Int) (x_8:Int) (x_9:B8) (x_10:TV) (x_11:TV) (x_12:TV) (x_13:TV) (x_14:TV) (fromx:TV) (keys:TV) (header:Bool) (st:St) (K:V13 (TV->TV->TV->Int->St->Prop)) (h:∃(I1:TV->Int->TV->Bool->V13 (TV->TV->V13 (TV->TV->St->Prop))) (M1:TV->Int->TV->Bool->V13 (TV->TV->V13 (TV->TV->St->Nat))),(I1 fromx 0 keys header x_0 x_1 x_2 x_3 x_4 x_5 x_6 x_7 x_8 x_9 x_10 x_11 x_12 x_13 x_14 0 false false [] 0 0 0 0 0 [] .nilSlice .nilSlice .nilSlice .nilSlice .nilSlice st)/\∀k c b a n1 b1 b2 s1 n2 n3 n4 n5 n6 s2 v1 v2 v3 v4 v5 n7 b3 b4 s3 n8 n9 d f g s4 v6 v7 v8 v9 e j,I1 k c b a n1 b1 b2 s1 n2 n3 n4 n5 n6 s2 v1 v2 v3 v4 v5 n7 b3 b4 s3 n8 n9 d f g s4 v6 v7 v8 v9 e j->(need (isSl b) (BId (c<(lenS b:Int)) (((0<=c/\c<(lenZ 1 b:Int))/\Ai (Ac j [] (.t (ixT 1 b c.toNat)) 0) (fun (x1:TV)=>AE .str x1 (fun (s5:B8)=>CallT PR A4 [k,(.agg [.bool false,.str s5,.int .i64 0])] [.one .tv] j (fun (i:TV) a4=>need (isSl b) (BId ((i64.wrap (c+(1:Int)))=(lenS b:Int)) (need (List.all [.int .i64 n1,.bool b1,.bool b2,.str s1,.int .i64 n2,.int .i64 n3,.int .i64 n4,.int .i64 n5,.int .i64 n6,.str s2,v1,v2,v3,v4,v5] Ah) (K n1 b1 b2 s1 n2 n3 n4 n5 n6 s2 v1 v2 v3 v4 v5 i 0 a4)) (CallT PR Ce [(.agg (cV n1 b1 b2 s1 n2 n3 n4 n5 n6 s2 v1 v2 v3)),i] [sV,.one .bool] a4 (fun (b0:Int) (b5 b6:Bool) (s6:B8) (a7 a9 a6 a8 a5:Int) (s7:B8) (c1 m c0:TV) (b7:Bool) y=>need (List.all (cV b0 b5 b6 s6 a7 a9 a6 a8 a5 s7 c1 m c0) Ah) (BIf (!b7) (CallT PR Az [(.agg (cV n1 b1 b2 s1 n2 n3 n4 n5 n6 s2 v1 v2 v3)),i,(.agg (cV 7 false false [] 0 0 0 0 0 [] .nilSlice .nilSlice .nilSlice))] [sV] y (fun (u:Int) (b8 b9:Bool) (s8:B8) (s p w x q:Int) (s9:B8) (v r o:TV) a1=>need (List.all (cV u b8 b9 s8 s p w x q s9 v r o) Ah) ((I1 i ((i64.wrap (c+(1:Int)))) b a u b8 b9 s8 s p w x q s9 v r o v4 v5 n7 b3 b4 s3 n8 n9 d f g s4 v6 v7 v8 v9 e a1/\M1 i ((i64.wrap (c+(1:Int)))) b a u b8 b9 s8 s p w x q s9 v r o v4 v5 n7 b3 b4 s3 n8 n9 d f g s4 v6 v7 v8 v9 e a1<M1 k c b a n1 b1 b2 s1 n2 n3 n4 n5 n6 s2 v1 v2 v3 v4 v5 n7 b3 b4 s3 n8 n9 d f g s4 v6 v7 v8 v9 e j)))) (CallT PR Bf [(.agg [.int .i64 n1,.bool b1,.bool b2,.str s1,.int .i64 n2,.int .i64 n3,.int .i64 n4,.int .i64 n5,.int .i64 n6,.str s2,v1,v2,v3,v4,v5]),i] [.one (.int .i64),.one (.int .i64)] y (fun (n c2:Int) l=>BId (n=1) (need (List.all [.int .i64 n1,.bool b1,.bool b2,.str s1,.int .i64 n2,.int .i64 n3,.int .i64 n4,.int .i64 n5,.int .i64 n6,.str s2,v1,v2,v3,v4,v5] Ah) (K n1 b1 b2 s1 n2 n3 n4 n5 n6 s2 v1 v2 v3 v4 v5 .nilSlice 8 l)) (BId (n=3) (BIf (!a) (need (List.all [.int .i64 n1,.bool b1,.bool b2,.str s1,.int .i64 n2,.int .i64 n3,.int .i64 n4,.int .i64 n5,.int .i64 n6,.str s2,v1,v2,v3,v4,v5] Ah) (K n1 b1 b2 s1 n2 n3 n4 n5 n6 s2 v1 v2 v3 v4 v5 .nilSlice 8 l)) (BId (n=3) (need (isSl m) (CallT PR A4 [i,(.agg [.bool true,(.str []),(.int .i64 (i64.wrap ((lenS m:Int)-(1:Int))))])] [.one .tv] l (fun (a2:TV) a3=>(I1 a2 ((i64.wrap (c+(1:Int)))) b a n1 b1 b2 s1 n2 n3 n4 n5 n6 s2 v1 v2 v3 v4 v5 n7 b3 b4 s3 n8 n9 d f g s4 v6 v7 v8 v9 e a3/\M1 a2 ((i64.wrap (c+(1:Int)))) b a n1 b1 b2 s1 n2 n3 n4 n5 n6 s2 v1 v2 v3 v4 v5 n7 b3 b4 s3 n8 n9 d f g s4 v6 v7 v8 v9 e a3<M1 k c b a n1 b1 b2 s1 n2 n3 n4 n5 n6 s2 v1 v2 v3 v4 v5 n7 b3 b4 s3 n8 n9 d f g s4 v6 v7 v8 v9 e j)))) ((I1 i ((i64.wrap (c+(1:Int)))) b a n1 b1 b2 s1 n2 n3 n4 n5 n6 s2 v1 v2 v3 v4 v5 n7 b3 b4 s3 n8 n9 d f g s4 v6 v7 v8 v9 e l/\M1 i ((i64.wrap (c+(1:Int)))) b a n1 b1 b2 s1 n2 n3 n4 n5 n6 s2 v1 v2 v3 v4 v5 n7 b3 b4 s3 n8 n9 d f g s4 v6 v7 v8 v9 e l<M1 k c b a n1 b1 b2 s1 n2 n3 n4 n5 n6 s2 v1 v2 v3 v4 v5 n7 b3 b4 s3 n8 n9 d f g s4 v6 v7 v8 v9 e j)))) (BId (n=3) (need (isSl m) (CallT PR A4 [i,(.agg [.bool true,(.str []),(.int .i64 (i64.wrap ((lenS m:Int)-(1:Int))))])] [.one .tv] l (fun (z:TV) a0=>(I1 z ((i64.wrap (c+(1:Int)))) b a n1 b1 b2 s1 n2 n3 n4 n5 n6 s2 v1 v2 v3 v4 v5 n7 b3 b4 s3 n8 n9 d f g s4 v6 v7 v8 v9 e a0/\M1 z ((i64.wrap (c+(1:Int)))) b a n1 b1 b2 s1 n2 n3 n4 n5 n6 s2 v1 v2 v3 v4 v5 n7 b3 b4 s3 n8 n9 d f g s4 v6 v7 v8 v9 e a0<M1 k c b a n1 b1 b2 s1 n2 n3 n4 n5 n6 s2 v1 v2 v3 v4 v5 n7 b3 b4 s3 n8 n9 d f g s4 v6 v7 v8 v9 e j)))) ((I1 i ((i64.wrap (c+(1:Int)))) b a n1 b1 b2 s1 n2 n3 n4 n5 n6 s2 v1 v2 v3 v4 v5 n7 b3 b4 s3 n8 n9 d f g s4 v6 v7 v8 v9 e l/\M1 i ((i64.wrap (c+(1:Int)))) b a n1 b1 b2 s1 n2 n3 n4 n5 n6 s2 v1 v2 v3 v4 v5 n7 b3 b4 s3 n8 n9 d f g s4 v6 v7 v8 v9 e l<M1 k c b a n1 b1 b2 s1 n2 n3 n4 n5 n6 s2 v1 v2 v3 v4 v5 n7 b3 b4 s3 n8 n9 d f g s4 v6 v7 v8 v9 e j))))))))))))))) (need (List.all [.int .i64 n1,.bool b1,.bool b2,.str s1,.int .i64 n2,.int .i64 n3,.int .i64 n4,.int .i64 n5,.int .i64 n6,.str s2,v1,v2,v3,v4,v5] Ah) (K n1 b1 b2 s1 n2 n3 n4 n5 n6 s2 v1 v2 v3 v4 v5 k 0 j))))):CallT PR CP [(.agg [.int .i64 x_0,.bool x_1,.bool x_2,.str x_3,.int .i64 x_4,.int .i64 x_5,.int .i64 x_6,.int .i64 x_7,.int .i64 x_8,.str x_9,x_10,x_11,x_12,x_13,x_14]),fromx,keys,.bool header] [.agg [.int .i64,.bool,.bool,.str,.int .i64,.int .i64,.int .i64,.int .i64,.int .i64,.str,.tv,.tv,.tv,.tv,.tv],.one .tv,.one (.int .i64)] st K:=
 Af (cfg:=⟨[4,8,13],[],[]⟩) (h:=(.seq .none (.seq .none (.seq (.seq .none (.block (.loop ⟨[(11,.tv),(12,.int .i64),(2,.tv),(3,.bool)],[(4,0,0),(8,1,0)],[(0,15),(1,15)],[(0,0,.int .i64),(0,1,.bool),(0,2,.bool),(0,3,.str),(0,4,.int .i64),(0,5,.int .i64),(0,6,.int .i64),(0,7,.int .i64),(0,8,.int .i64),(0,9,.str),(0,10,.tv),(0,11,.tv),(0,12,.tv),(0,13,.tv),(0,14,.tv),(1,0,.int .i64),(1,1,.bool),(1,2,.bool),(1,3,.str),(1,4,.int .i64),(1,5,.int .i64),(1,6,.int .i64),(1,7,.int .i64),(1,8,.int .i64),(1,9,.str),(1,10,.tv),(1,11,.tv),(1,12,.tv),(1,13,.tv),(1,14,.tv)]⟩ .none))) .none)))) mixed (fun _ _=>Tryz.call82 _ _) Tryz.func82 (by kernel_rfl) (by kernel_rfl) h
theorem HR (v_0:Int) (v_1:Bool) (v_2:Bool) (v_3:B8) (v_4:Int) (v_5:Int) (v_6:Int) (v_7:Int) (v_8:Int) (v_9:B8) (v_10:TV) (v_11:TV) (v_12:TV) (p:TV) (st:St) (K:V13 (Bool->St->Prop)) (h:∃(I1:Int->TV->V13 (V13 (St->Prop))) (M1:Int->TV->V13 (V13 (St->Nat))),(I1 0 p v_0 v_1 v_2 v_3 v_4 v_5 v_6 v_7 v_8 v_9 v_10 v_11 v_12 0 false false [] 0 0 0 0 0 [] .nilSlice .nilSlice .nilSlice st)/\∀a b n1 b1 b2 s1 n2 n3 n4 n5 n6 s2 v1 v2 v3 n7 b3 b4 s3 n8 n9 d e f s4 v4 v5 v6 c,I1 a b n1 b1 b2 s1 n2 n3 n4 n5 n6 s2 v1 v2 v3 n7 b3 b4 s3 n8 n9 d e f s4 v4 v5 v6 c->(need (isSl b) (BId (a<(lenS b:Int)) (((0<=a/\a<(lenZ 3 b:Int))/\need (isPtr (ixT 3 b a.toNat)) (Ai (Ac c [] (.t (At (ixT 3 b a.toNat) 0)) 0) (fun (x1:TV)=>AE .bool x1 (fun (b5:Bool)=>BIf b5 (((0<=a/\a<(lenZ 3 b:Int))/\need (isPtr (ixT 3 b a.toNat)) (Ai (Ac c [] (.t (At (ixT 3 b a.toNat) 2)) 0) (fun (x2:TV)=>AE (.int .i64) x2 (fun (a0:Int)=>need (isSl v2) (BId ((lenS v2:Int)<=a0) (K 0 false false [] 0 0 0 0 0 [] .nilSlice .nilSlice .nilSlice false c) (((0<=a/\a<(lenZ 3 b:Int))/\need (isPtr (ixT 3 b a.toNat)) (Ai (Ac c [] (.t (At (ixT 3 b a.toNat) 2)) 0) (fun (x3:TV)=>AE (.int .i64) x3 (fun (u:Int)=>((0<=u/\u<(lenZ 13 v2:Int))/\Ai ((Al c [] (.t (ixT 13 v2 u.toNat)) 0 13).map TV.agg) (fun (x4:TV)=>BG [.int .i64,.bool,.bool,.str,.int .i64,.int .i64,.int .i64,.int .i64,.int .i64,.str,.tv,.tv,.tv] x4 (fun (x:Int) (b6 b7:Bool) (s5:B8) (s w r z y:Int) (s6:B8) (v7 v8 v9:TV)=>need (List.all (cV x b6 b7 s5 s w r z y s6 v7 v8 v9) Ah) ((I1 ((i64.wrap (a+(1:Int)))) b x b6 b7 s5 s w r z y s6 v7 v8 v9 n7 b3 b4 s3 n8 n9 d e f s4 v4 v5 v6 c/\M1 ((i64.wrap (a+(1:Int)))) b x b6 b7 s5 s w r z y s6 v7 v8 v9 n7 b3 b4 s3 n8 n9 d e f s4 v4 v5 v6 c<M1 a b n1 b1 b2 s1 n2 n3 n4 n5 n6 s2 v1 v2 v3 n7 b3 b4 s3 n8 n9 d e f s4 v4 v5 v6 c)))))))))))))))) (((0<=a/\a<(lenZ 3 b:Int))/\need (isPtr (ixT 3 b a.toNat)) (Ai (Ac c [] (.t (At (ixT 3 b a.toNat) 1)) 0) (fun (x5:TV)=>AE .str x5 (fun (s7:B8)=>CallT PR CT [(.agg (cV n1 b1 b2 s1 n2 n3 n4 n5 n6 s2 v1 v2 v3)),.str s7] [sV,.one .bool] c (fun (i:Int) (b8 b9:Bool) (s8:B8) (n q j k g:Int) (s9:B8) (l o m:TV) (a1:Bool) v=>need (List.all (cV i b8 b9 s8 n q j k g s9 l o m) Ah) (BIf (!a1) (K 0 false false [] 0 0 0 0 0 [] .nilSlice .nilSlice .nilSlice false v) (need (List.all (cV i b8 b9 s8 n q j k g s9 l o m) Ah) ((I1 ((i64.wrap (a+(1:Int)))) b i b8 b9 s8 n q j k g s9 l o m n7 b3 b4 s3 n8 n9 d e f s4 v4 v5 v6 v/\M1 ((i64.wrap (a+(1:Int)))) b i b8 b9 s8 n q j k g s9 l o m n7 b3 b4 s3 n8 n9 d e f s4 v4 v5 v6 v<M1 a b n1 b1 b2 s1 n2 n3 n4 n5 n6 s2 v1 v2 v3 n7 b3 b4 s3 n8 n9 d e f s4 v4 v5 v6 c))))))))))))))) (need (List.all (cV n1 b1 b2 s1 n2 n3 n4 n5 n6 s2 v1 v2 v3) Ah) (K n1 b1 b2 s1 n2 n3 n4 n5 n6 s2 v1 v2 v3 true c))))):CallT PR Ce [(.agg (cV v_0 v_1 v_2 v_3 v_4 v_5 v_6 v_7 v_8 v_9 v_10 v_11 v_12)),p] [sV,.one .bool] st K:=
 Af (cfg:=⟨[2,4,7],[],[45]⟩) (h:=(.seq .none (.seq (.seq .none (.block (.loop ⟨[(6,.int .i64),(1,.tv)],[(2,0,0),(4,1,0)],[(0,13),(1,13)],[(0,0,.int .i64),(0,1,.bool),(0,2,.bool),(0,3,.str),(0,4,.int .i64),(0,5,.int .i64),(0,6,.int .i64),(0,7,.int .i64),(0,8,.int .i64),(0,9,.str),(0,10,.tv),(0,11,.tv),(0,12,.tv),(1,0,.int .i64),(1,1,.bool),(1,2,.bool),(1,3,.str),(1,4,.int .i64),(1,5,.int .i64),(1,6,.int .i64),(1,7,.int .i64),(1,8,.int .i64),(1,9,.str),(1,10,.tv),(1,11,.tv),(1,12,.tv)]⟩ .none))) .none))) mixed (fun _ _=>Tryz.call83 _ _) Tryz.func83 (by kernel_rfl) (by kernel_rfl) h
theorem Fs (x_0:Int) (x_1:Bool) (x_2:Bool) (x_3:B8) (x_4:Int) (x_5:Int) (x_6:Int) (x_7:Int) (x_8:Int) (x_9:B8) (x_10:TV) (x_11:TV) (x_12:TV) (x_13:TV) (x_14:TV) (p:TV) (st:St) (K:Int->Int->St->Prop) (h:∃(I1:Int->TV->V13 (TV->TV->St->Prop)) (M1:Int->TV->V13 (TV->TV->St->Nat)),(I1 0 p x_0 x_1 x_2 x_3 x_4 x_5 x_6 x_7 x_8 x_9 x_10 x_11 x_12 x_13 x_14 st)/\∀a b n1 b1 b2 s1 n2 n3 n4 n5 n6 s2 v1 v2 v3 v4 v5 c,I1 a b n1 b1 b2 s1 n2 n3 n4 n5 n6 s2 v1 v2 v3 v4 v5 c->(need (isSl v5) (BId (a<(lenS v5:Int)) (((0<=a/\a<(lenZ 3 v5:Int))/\need (isPtr (ixT 3 v5 a.toNat)) (Ai (Ac c [] (.t (At (ixT 3 v5 a.toNat) 0)) 0) (fun (v6:TV)=>CallT PR BY [v6,b] [.one .bool] c (fun (b3:Bool) d=>BIf b3 (((0<=a/\a<(lenZ 3 v5:Int))/\need (isPtr (ixT 3 v5 a.toNat)) (Ai (Ac d [] (.t (At (ixT 3 v5 a.toNat) 1)) 0) (fun (x2:TV)=>AE (.int .i64) x2 (fun (n7:Int)=>K n7 a d))))) ((I1 ((i64.wrap (a+(1:Int)))) b n1 b1 b2 s1 n2 n3 n4 n5 n6 s2 v1 v2 v3 v4 v5 d/\M1 ((i64.wrap (a+(1:Int)))) b n1 b1 b2 s1 n2 n3 n4 n5 n6 s2 v1 v2 v3 v4 v5 d<M1 a b n1 b1 b2 s1 n2 n3 n4 n5 n6 s2 v1 v2 v3 v4 v5 c))))))) (K 0 (-1) c)))):CallT PR Bf [(.agg [.int .i64 x_0,.bool x_1,.bool x_2,.str x_3,.int .i64 x_4,.int .i64 x_5,.int .i64 x_6,.int .i64 x_7,.int .i64 x_8,.str x_9,x_10,x_11,x_12,x_13,x_14]),p] [.one (.int .i64),.one (.int .i64)] st K:=
 Af (cfg:=⟨[2],[],[]⟩) (h:=(.seq .none (.seq (.seq .none (.block (.loop ⟨[(6,.int .i64),(1,.tv)],[(2,0,0)],[(0,15)],[(0,0,.int .i64),(0,1,.bool),(0,2,.bool),(0,3,.str),(0,4,.int .i64),(0,5,.int .i64),(0,6,.int .i64),(0,7,.int .i64),(0,8,.int .i64),(0,9,.str),(0,10,.tv),(0,11,.tv),(0,12,.tv),(0,13,.tv),(0,14,.tv)]⟩ .none))) .none))) mixed (fun _ _=>Tryz.call84 _ _) Tryz.func84 (by kernel_rfl) (by kernel_rfl) h
theorem EZ (v_0:Int) (v_1:Bool) (v_2:Bool) (v_3:B8) (v_4:Int) (v_5:Int) (v_6:Int) (v_7:Int) (v_8:Int) (v_9:B8) (v_10:TV) (v_11:TV) (v_12:TV) (p:TV) (x_0:Int) (x_1:Bool) (x_2:Bool) (x_3:B8) (x_4:Int) (x_5:Int) (x_6:Int) (x_7:Int) (x_8:Int) (x_9:B8) (x_10:TV) (x_11:TV) (x_12:TV) (st:St) (K:V13 (St->Prop)) (h:need (isSl p) (BId ((lenS p:Int)=(0:Int)) (need (List.all (cV x_0 x_1 x_2 x_3 x_4 x_5 x_6 x_7 x_8 x_9 x_10 x_11 x_12) Ah) (K x_0 x_1 x_2 x_3 x_4 x_5 x_6 x_7 x_8 x_9 x_10 x_11 x_12 st)) (((0<=(0:Int)/\(0:Int)<(lenZ 3 p:Int))/\need (isPtr (ixT 3 p (Int.toNat (0:Int)))) (Ai (Ac st [] (.t (At (ixT 3 p (Int.toNat (0:Int))) 0)) 0) (fun (x1:TV)=>AE .bool x1 (fun (b1:Bool)=>BIf b1 (Ai (Cu st 13 v_11) (fun (q1:Nat×List TV)=>need (List.all q1.2 Ah) (Gu 33 13 168 (.list 13 .full 0 []) q1.1 q1.2 st (fun (v1:TV) a7=>((0<=(0:Int)/\(0:Int)<(lenZ 3 p:Int))/\need (isPtr (ixT 3 p (Int.toNat (0:Int)))) (Ai (Ac a7 [] (.t (At (ixT 3 p (Int.toNat (0:Int))) 2)) 0) (fun (x2:TV)=>AE (.int .i64) x2 (fun (n1:Int)=>need (isSl v1) (BId (n1=(lenS v1:Int)) (Gu 33 13 168 v1 1 (cV 0 false false [] 0 0 0 0 0 [] .nilSlice .nilSlice .nilSlice) a7 (fun (v2:TV) d3=>((0<=(0:Int)/\(0:Int)<(lenZ 3 p:Int))/\need (isPtr (ixT 3 p (Int.toNat (0:Int)))) (Ai (Ac d3 [] (.t (At (ixT 3 p (Int.toNat (0:Int))) 2)) 0) (fun (x3:TV)=>AE (.int .i64) x3 (fun (n2:Int)=>((0<=(0:Int)/\(0:Int)<(lenZ 3 p:Int))/\need (isPtr (ixT 3 p (Int.toNat (0:Int)))) (Ai (Ac d3 [] (.t (At (ixT 3 p (Int.toNat (0:Int))) 2)) 0) (fun (x4:TV)=>AE (.int .i64) x4 (fun (n3:Int)=>((0<=n3/\n3<(lenZ 13 v2:Int))/\Ai ((Al d3 [] (.t (ixT 13 v2 n3.toNat)) 0 13).map TV.agg) (fun (x5:TV)=>BG [.int .i64,.bool,.bool,.str,.int .i64,.int .i64,.int .i64,.int .i64,.int .i64,.str,.tv,.tv,.tv] x5 (fun (n4:Int) (b2 b3:Bool) (s1:B8) (n5 n6 n7 n8 n9:Int) (s2:B8) (v3 v4 v5:TV)=>((isLst 3 p=true/\0<=(1:Int)/\(1:Int)<=(lenS p:Int))/\CallT PR Az [(.agg (cV n4 b2 b3 s1 n5 n6 n7 n8 n9 s2 v3 v4 v5)),(slT 3 .non p (Int.toNat (1:Int)) (lenS p)),(.agg (cV x_0 x_1 x_2 x_3 x_4 x_5 x_6 x_7 x_8 x_9 x_10 x_11 x_12))] [sV] d3 (fun (f9:Int) (b4 b5:Bool) (s3:B8) (g5 e9 g7 j6 j9:Int) (s4:B8) (v6 v7 v8:TV) d6=>(Ac d6 [] (.t (At (ixT 3 p (Int.toNat (0:Int))) 2)) 0=some (.int .i64 n3)/\(Ac d6 [] (.t (At (ixT 3 p (Int.toNat (0:Int))) 2)) 0=some (.int .i64 n2)/\((0<=n2/\n2<(lenZ 13 v2:Int))/\need (List.all (cV f9 b4 b5 s3 g5 e9 g7 j6 j9 s4 v6 v7 v8) Ah) (stB d6 (ixT 13 v2 n2.toNat) (cV f9 b4 b5 s3 g5 e9 g7 j6 j9 s4 v6 v7 v8) (fun u0=>need (List.all [v2] Ah) (need (List.all (cV v_0 v_1 v_2 v_3 v_4 v_5 v_6 v_7 v_8 v_9 v_10 v2 v_12) Ah) (K v_0 v_1 v_2 v_3 v_4 v_5 v_6 v_7 v_8 v_9 v_10 v2 v_12 u0)))))))))))))))))))))) (((0<=(0:Int)/\(0:Int)<(lenZ 3 p:Int))/\need (isPtr (ixT 3 p (Int.toNat (0:Int)))) (Ai (Ac a7 [] (.t (At (ixT 3 p (Int.toNat (0:Int))) 2)) 0) (fun (x6:TV)=>AE (.int .i64) x6 (fun (c8:Int)=>((0<=(0:Int)/\(0:Int)<(lenZ 3 p:Int))/\need (isPtr (ixT 3 p (Int.toNat (0:Int)))) (Ai (Ac a7 [] (.t (At (ixT 3 p (Int.toNat (0:Int))) 2)) 0) (fun (x7:TV)=>AE (.int .i64) x7 (fun (d0:Int)=>((0<=d0/\d0<(lenZ 13 v1:Int))/\Ai ((Al a7 [] (.t (ixT 13 v1 d0.toNat)) 0 13).map TV.agg) (fun (x8:TV)=>BG [.int .i64,.bool,.bool,.str,.int .i64,.int .i64,.int .i64,.int .i64,.int .i64,.str,.tv,.tv,.tv] x8 (fun (l6:Int) (b6 b7:Bool) (s5:B8) (r7 p1 t3 p3 u7:Int) (s6:B8) (v9 o5 t1:TV)=>((isLst 3 p=true/\0<=(1:Int)/\(1:Int)<=(lenS p:Int))/\CallT PR Az [(.agg (cV l6 b6 b7 s5 r7 p1 t3 p3 u7 s6 v9 o5 t1)),(slT 3 .non p (Int.toNat (1:Int)) (lenS p)),(.agg (cV x_0 x_1 x_2 x_3 x_4 x_5 x_6 x_7 x_8 x_9 x_10 x_11 x_12))] [sV] a7 (fun (f7:Int) (b8 b9:Bool) (s7:B8) (f6 h5 h3 j3 g6:Int) (s8:B8) (i7 d7 k3:TV) d4=>(Ac d4 [] (.t (At (ixT 3 p (Int.toNat (0:Int))) 2)) 0=some (.int .i64 d0)/\(Ac d4 [] (.t (At (ixT 3 p (Int.toNat (0:Int))) 2)) 0=some (.int .i64 c8)/\((0<=c8/\c8<(lenZ 13 v1:Int))/\need (List.all (cV f7 b8 b9 s7 f6 h5 h3 j3 g6 s8 i7 d7 k3) Ah) (stB d4 (ixT 13 v1 c8.toNat) (cV f7 b8 b9 s7 f6 h5 h3 j3 g6 s8 i7 d7 k3) (fun n0=>need (List.all [v1] Ah) (need (List.all (cV v_0 v_1 v_2 v_3 v_4 v_5 v_6 v_7 v_8 v_9 v_10 v1 v_12) Ah) (K v_0 v_1 v_2 v_3 v_4 v_5 v_6 v_7 v_8 v_9 v_10 v1 v_12 n0)))))))))))))))))))))))))))))) (Ai (Cu st 14 v_12) (fun (q2:Nat×List TV)=>need (List.all q2.2 Ah) (Gu 65 14 184 (.list 14 .full 0 []) q2.1 q2.2 st (fun (p2:TV) m4=>∃(I1:Int->TV->TV->V13 (V13 (V13 (St->Prop)))) (M1:Int->TV->TV->V13 (V13 (V13 (St->Nat)))),(I1 0 p p2 v_0 v_1 v_2 v_3 v_4 v_5 v_6 v_7 v_8 v_9 v_10 v_11 v_12 x_0 x_1 x_2 x_3 x_4 x_5 x_6 x_7 x_8 x_9 x_10 x_11 x_12 0 false false [] 0 0 0 0 0 [] .nilSlice .nilSlice .nilSlice m4)/\∀a c b e f q s9 l i g o k n m j b0 v a6 a0 x u a4 y z a2 a5 w a3 a1 c1 a8 c5 c6 c0 c7 c9 c3 c2 d1 d2 a9 c4 d,I1 a c b e f q s9 l i g o k n m j b0 v a6 a0 x u a4 y z a2 a5 w a3 a1 c1 a8 c5 c6 c0 c7 c9 c3 c2 d1 d2 a9 c4 d->(need (isSl b) (BId (a<(lenS b:Int)) (((0<=a/\a<(lenZ 14 b:Int))/\need (isPtr (ixT 14 b a.toNat)) (Ai (Ac d [] (.t (At (ixT 14 b a.toNat) 0)) 0) (fun (x9:TV)=>AE .str x9 (fun (m1:B8)=>((0<=(0:Int)/\(0:Int)<(lenZ 3 c:Int))/\need (isPtr (ixT 3 c (Int.toNat (0:Int)))) (Ai (Ac d [] (.t (At (ixT 3 c (Int.toNat (0:Int))) 1)) 0) (fun (u2:TV)=>AE .str u2 (fun (r0:B8)=>BId (m1≠r0) ((I1 ((i64.wrap (a+(1:Int)))) c b e f q s9 l i g o k n m j b0 v a6 a0 x u a4 y z a2 a5 w a3 a1 c1 a8 c5 c6 c0 c7 c9 c3 c2 d1 d2 a9 c4 d/\M1 ((i64.wrap (a+(1:Int)))) c b e f q s9 l i g o k n m j b0 v a6 a0 x u a4 y z a2 a5 w a3 a1 c1 a8 c5 c6 c0 c7 c9 c3 c2 d1 d2 a9 c4 d<M1 a c b e f q s9 l i g o k n m j b0 v a6 a0 x u a4 y z a2 a5 w a3 a1 c1 a8 c5 c6 c0 c7 c9 c3 c2 d1 d2 a9 c4 d)) (need (isSl b) (BId (a=(lenS b:Int)) (((0<=(0:Int)/\(0:Int)<(lenZ 3 c:Int))/\need (isPtr (ixT 3 c (Int.toNat (0:Int)))) (Ai (Ac d [] (.t (At (ixT 3 c (Int.toNat (0:Int))) 1)) 0) (fun (p4:TV)=>AE .str p4 (fun (q7:B8)=>Gu 65 14 184 b 1 [.str q7,.int .i64 0,.bool false,.bool false,(.str []),.int .i64 0,.int .i64 0,.int .i64 0,.int .i64 0,.int .i64 0,(.str []),.nilSlice,.nilSlice,.nilSlice] d (fun (s:TV) e0=>((0<=a/\a<(lenZ 14 s:Int))/\need (isPtr (ixT 14 s a.toNat)) (Ai ((Al e0 [] (.t (At (ixT 14 s a.toNat) 1)) 0 13).map TV.agg) (fun (u1:TV)=>BG [.int .i64,.bool,.bool,.str,.int .i64,.int .i64,.int .i64,.int .i64,.int .i64,.str,.tv,.tv,.tv] u1 (fun (l9:Int) (p9 p6:Bool) (m7:B8) (r4 m6 l7 r8 l4:Int) (t7:B8) (m3 r9 r2:TV)=>((isLst 3 c=true/\0<=(1:Int)/\(1:Int)<=(lenS c:Int))/\CallT PR Az [(.agg (cV l9 p9 p6 m7 r4 m6 l7 r8 l4 t7 m3 r9 r2)),(slT 3 .non c (Int.toNat (1:Int)) (lenS c)),(.agg (cV v a6 a0 x u a4 y z a2 a5 w a3 a1))] [sV] e0 (fun (g9:Int) (j4 i1:Bool) (f2:B8) (e4 j2 j1 j7 e3:Int) (h1:B8) (i2 i6 h4:TV) l1=>((0<=a/\a<(lenZ 14 s:Int))/\need (isPtr (ixT 14 s a.toNat)) (need (List.all (cV g9 j4 i1 f2 e4 j2 j1 j7 e3 h1 i2 i6 h4) Ah) (stB l1 (At (ixT 14 s a.toNat) 1) (cV g9 j4 i1 f2 e4 j2 j1 j7 e3 h1 i2 i6 h4) (fun k8=>need (List.all [s] Ah) (need (List.all (cV e f q s9 l i g o k n m j s) Ah) (K e f q s9 l i g o k n m j s k8)))))))))))))))))) (((0<=a/\a<(lenZ 14 b:Int))/\need (isPtr (ixT 14 b a.toNat)) (Ai ((Al d [] (.t (At (ixT 14 b a.toNat) 1)) 0 13).map TV.agg) (fun (u6:TV)=>BG [.int .i64,.bool,.bool,.str,.int .i64,.int .i64,.int .i64,.int .i64,.int .i64,.str,.tv,.tv,.tv] u6 (fun (r1:Int) (o4 o2:Bool) (p5:B8) (p0 m9 m5 q0 t4:Int) (s0:B8) (l8 l3 l5:TV)=>((isLst 3 c=true/\0<=(1:Int)/\(1:Int)<=(lenS c:Int))/\CallT PR Az [(.agg (cV r1 o4 o2 p5 p0 m9 m5 q0 t4 s0 l8 l3 l5)),(slT 3 .non c (Int.toNat (1:Int)) (lenS c)),(.agg (cV v a6 a0 x u a4 y z a2 a5 w a3 a1))] [sV] d (fun (h7:Int) (f4 j5:Bool) (d9:B8) (h0 d8 f1 e2 h2:Int) (g2:B8) (e8 j0 e7:TV) k6=>((0<=a/\a<(lenZ 14 b:Int))/\need (isPtr (ixT 14 b a.toNat)) (need (List.all (cV h7 f4 j5 d9 h0 d8 f1 e2 h2 g2 e8 j0 e7) Ah) (stB k6 (At (ixT 14 b a.toNat) 1) (cV h7 f4 j5 d9 h0 d8 f1 e2 h2 g2 e8 j0 e7) (fun k5=>need (List.all [b] Ah) (need (List.all (cV e f q s9 l i g o k n m j b) Ah) (K e f q s9 l i g o k n m j b k5)))))))))))))))))))))))) (need (isSl b) (BId (a=(lenS b:Int)) (((0<=(0:Int)/\(0:Int)<(lenZ 3 c:Int))/\need (isPtr (ixT 3 c (Int.toNat (0:Int)))) (Ai (Ac d [] (.t (At (ixT 3 c (Int.toNat (0:Int))) 1)) 0) (fun (q5:TV)=>AE .str q5 (fun (t8:B8)=>Gu 65 14 184 b 1 [.str t8,.int .i64 0,.bool false,.bool false,(.str []),.int .i64 0,.int .i64 0,.int .i64 0,.int .i64 0,.int .i64 0,(.str []),.nilSlice,.nilSlice,.nilSlice] d (fun (r:TV) d5=>((0<=a/\a<(lenZ 14 r:Int))/\need (isPtr (ixT 14 r a.toNat)) (Ai ((Al d5 [] (.t (At (ixT 14 r a.toNat) 1)) 0 13).map TV.agg) (fun (u4:TV)=>BG [.int .i64,.bool,.bool,.str,.int .i64,.int .i64,.int .i64,.int .i64,.int .i64,.str,.tv,.tv,.tv] u4 (fun (m8:Int) (t5 q8:Bool) (q4:B8) (q3 o3 m2 r6 o6:Int) (q9:B8) (t0 u3 o8:TV)=>((isLst 3 c=true/\0<=(1:Int)/\(1:Int)<=(lenS c:Int))/\CallT PR Az [(.agg (cV m8 t5 q8 q4 q3 o3 m2 r6 o6 q9 t0 u3 o8)),(slT 3 .non c (Int.toNat (1:Int)) (lenS c)),(.agg (cV v a6 a0 x u a4 y z a2 a5 w a3 a1))] [sV] d5 (fun (k1:Int) (k0 f3:Bool) (e1:B8) (i8 h8 i9 j8 g8:Int) (f5:B8) (e5 i5 g1:TV) k7=>((0<=a/\a<(lenZ 14 r:Int))/\need (isPtr (ixT 14 r a.toNat)) (need (List.all (cV k1 k0 f3 e1 i8 h8 i9 j8 g8 f5 e5 i5 g1) Ah) (stB k7 (At (ixT 14 r a.toNat) 1) (cV k1 k0 f3 e1 i8 h8 i9 j8 g8 f5 e5 i5 g1) (fun k9=>need (List.all [r] Ah) (need (List.all (cV e f q s9 l i g o k n m j r) Ah) (K e f q s9 l i g o k n m j r k9)))))))))))))))))) (((0<=a/\a<(lenZ 14 b:Int))/\need (isPtr (ixT 14 b a.toNat)) (Ai ((Al d [] (.t (At (ixT 14 b a.toNat) 1)) 0 13).map TV.agg) (fun (o7:TV)=>BG [.int .i64,.bool,.bool,.str,.int .i64,.int .i64,.int .i64,.int .i64,.int .i64,.str,.tv,.tv,.tv] o7 (fun (t2:Int) (t6 p8:Bool) (u5:B8) (p7 o1 r5 t9 r3:Int) (q6:B8) (o0 m0 o9:TV)=>((isLst 3 c=true/\0<=(1:Int)/\(1:Int)<=(lenS c:Int))/\CallT PR Az [(.agg (cV t2 t6 p8 u5 p7 o1 r5 t9 r3 q6 o0 m0 o9)),(slT 3 .non c (Int.toNat (1:Int)) (lenS c)),(.agg (cV v a6 a0 x u a4 y z a2 a5 w a3 a1))] [sV] d (fun (i3:Int) (g4 k2:Bool) (h6:B8) (f8 g0 i0 f0 k4:Int) (g3:B8) (e6 i4 h9:TV) l2=>((0<=a/\a<(lenZ 14 b:Int))/\need (isPtr (ixT 14 b a.toNat)) (need (List.all (cV i3 g4 k2 h6 f8 g0 i0 f0 k4 g3 e6 i4 h9) Ah) (stB l2 (At (ixT 14 b a.toNat) 1) (cV i3 g4 k2 h6 f8 g0 i0 f0 k4 g3 e6 i4 h9) (fun l0=>need (List.all [b] Ah) (need (List.all (cV e f q s9 l i g o k n m j b) Ah) (K e f q s9 l i g o k n m j b l0)))))))))))))))))))))))))))):CallT PR Az [(.agg (cV v_0 v_1 v_2 v_3 v_4 v_5 v_6 v_7 v_8 v_9 v_10 v_11 v_12)),p,(.agg (cV x_0 x_1 x_2 x_3 x_4 x_5 x_6 x_7 x_8 x_9 x_10 x_11 x_12))] [sV] st K:=
 Af (cfg:=⟨[3,5,6],[21,32,56,86],[37,42,44,93]⟩) (h:=(.seq .none (.seq .none (.seq .none (.seq .none (.seq .none (.seq (.block (.loop ⟨[(9,.int .i64),(1,.tv),(8,.tv)],[(3,0,0),(5,1,0),(6,2,0)],[(0,13),(1,13),(2,13)],[(0,0,.int .i64),(0,1,.bool),(0,2,.bool),(0,3,.str),(0,4,.int .i64),(0,5,.int .i64),(0,6,.int .i64),(0,7,.int .i64),(0,8,.int .i64),(0,9,.str),(0,10,.tv),(0,11,.tv),(0,12,.tv),(1,0,.int .i64),(1,1,.bool),(1,2,.bool),(1,3,.str),(1,4,.int .i64),(1,5,.int .i64),(1,6,.int .i64),(1,7,.int .i64),(1,8,.int .i64),(1,9,.str),(1,10,.tv),(1,11,.tv),(1,12,.tv),(2,0,.int .i64),(2,1,.bool),(2,2,.bool),(2,3,.str),(2,4,.int .i64),(2,5,.int .i64),(2,6,.int .i64),(2,7,.int .i64),(2,8,.int .i64),(2,9,.str),(2,10,.tv),(2,11,.tv),(2,12,.tv)]⟩ .none)) .none))))))) mixed (fun _ _=>Tryz.call85 _ _) Tryz.func85 (by kernel_rfl) (by kernel_rfl) h
theorem Ft (x_0:Int) (x_1:Bool) (x_2:Bool) (x_3:B8) (x_4:Int) (x_5:Int) (x_6:Int) (x_7:Int) (x_8:Int) (x_9:B8) (x_10:TV) (x_11:TV) (x_12:TV) (x_13:TV) (x_14:TV) (p:TV) (what:Int) (index:Int) (st:St) (K:V13 (TV->TV->St->Prop)) (h:Ai (Cu st 3 x_14) (fun (q1:Nat×List TV)=>need (List.all q1.2 Ah) (Cl 95 3 40 (.list 3 .full 0 []) q1.1 q1.2 st (fun (v1:TV) b=>need (List.all [p] Ah) (need (List.all [p,.int .i64 what,.int .i64 index] Ah) (Cl 95 3 40 v1 1 [p,.int .i64 what,.int .i64 index] b (fun (v2:TV) a=>need (List.all [v2] Ah) (need (List.all [.int .i64 x_0,.bool x_1,.bool x_2,.str x_3,.int .i64 x_4,.int .i64 x_5,.int .i64 x_6,.int .i64 x_7,.int .i64 x_8,.str x_9,x_10,x_11,x_12,x_13,v2] Ah) (K x_0 x_1 x_2 x_3 x_4 x_5 x_6 x_7 x_8 x_9 x_10 x_11 x_12 x_13 v2 a))))))))):CallT PR AQ [(.agg [.int .i64 x_0,.bool x_1,.bool x_2,.str x_3,.int .i64 x_4,.int .i64 x_5,.int .i64 x_6,.int .i64 x_7,.int .i64 x_8,.str x_9,x_10,x_11,x_12,x_13,x_14]),p,.int .i64 what,.int .i64 index] [.agg [.int .i64,.bool,.bool,.str,.int .i64,.int .i64,.int .i64,.int .i64,.int .i64,.str,.tv,.tv,.tv,.tv,.tv]] st K:=
 Af (cfg:=⟨[4,8],[],[]⟩) (h:= .none) mixed (fun _ _=>Tryz.call86 _ _) Tryz.func86 (by kernel_rfl) (by kernel_rfl) h
theorem HQ (p:TV) (s_0:Bool) (s_1:B8) (s_2:Int) (st:St) (K:TV->St->Prop) (h:Ai (Cu st 3 p) (fun (q1:Nat×List TV)=>need (List.all q1.2 Ah) (Cl 56 3 32 (.list 3 .full 0 []) q1.1 q1.2 st (fun (v1:TV) b=>Cl 56 3 32 v1 1 [.bool s_0,.str s_1,.int .i64 s_2] b (fun (v2:TV) a=>K v2 a))))):CallT PR A4 [p,(.agg [.bool s_0,.str s_1,.int .i64 s_2])] [.one .tv] st K:=
 Af (cfg:=⟨[3],[],[]⟩) (h:= .none) mixed (fun _ _=>Tryz.call87 _ _) Tryz.func87 (by kernel_rfl) (by kernel_rfl) h
theorem LM (v_0:Int) (v_1:Bool) (v_2:Bool) (v_3:B8) (v_4:Int) (v_5:Int) (v_6:Int) (v_7:Int) (v_8:Int) (v_9:B8) (v_10:TV) (v_11:TV) (v_12:TV) (st:St) (K:Bool->St->Prop) (h:BId (v_0≠1) (BIf v_1 (K true st) (BId (v_0≠2) (BIf (!((v_2==false)&&(decide (v_3=([]:B8))&&(decide (v_4=(0:Int))&&true)))) (K true st) (BId (v_0≠3) (BIf (!(decide (v_5=(0:Int))&&(decide (v_6=(0:Int))&&(decide (v_7=(0:Int))&&(decide (v_8=(0:Int))&&true))))) (K true st) (BId (v_0≠4) (BId (v_9≠([]:B8)) (K true st) (BId (v_0≠5) (need (isSl v_10) (BId ((0:Int)<(lenS v_10:Int)) (K true st) (BId (v_0≠6) (need (isSl v_11) (BId ((0:Int)<(lenS v_11:Int)) (K true st) (BId (v_0≠7) (need (isSl v_12) (K ((decide ((0:Int)<(lenS v_12:Int)))) st)) (K false st)))) (BId (v_0≠7) (need (isSl v_12) (K ((decide ((0:Int)<(lenS v_12:Int)))) st)) (K false st))))) (BId (v_0≠6) (need (isSl v_11) (BId ((0:Int)<(lenS v_11:Int)) (K true st) (BId (v_0≠7) (need (isSl v_12) (K ((decide ((0:Int)<(lenS v_12:Int)))) st)) (K false st)))) (BId (v_0≠7) (need (isSl v_12) (K ((decide ((0:Int)<(lenS v_12:Int)))) st)) (K false st))))) (BId (v_0≠5) (need (isSl v_10) (BId ((0:Int)<(lenS v_10:Int)) (K true st) (BId (v_0≠6) (need (isSl v_11) (BId ((0:Int)<(lenS v_11:Int)) (K true st) (BId (v_0≠7) (need (isSl v_12) (K ((decide ((0:Int)<(lenS v_12:Int)))) st)) (K false st)))) (BId (v_0≠7) (need (isSl v_12) (K ((decide ((0:Int)<(lenS v_12:Int)))) st)) (K false st))))) (BId (v_0≠6) (need (isSl v_11) (BId ((0:Int)<(lenS v_11:Int)) (K true st) (BId (v_0≠7) (need (isSl v_12) (K ((decide ((0:Int)<(lenS v_12:Int)))) st)) (K false st)))) (BId (v_0≠7) (need (isSl v_12) (K ((decide ((0:Int)<(lenS v_12:Int)))) st)) (K false st)))))) (BId (v_0≠4) (BId (v_9≠([]:B8)) (K true st) (BId (v_0≠5) (need (isSl v_10) (BId ((0:Int)<(lenS v_10:Int)) (K true st) (BId (v_0≠6) (need (isSl v_11) (BId ((0:Int)<(lenS v_11:Int)) (K true st) (BId (v_0≠7) (need (isSl v_12) (K ((decide ((0:Int)<(lenS v_12:Int)))) st)) (K false st)))) (BId (v_0≠7) (need (isSl v_12) (K ((decide ((0:Int)<(lenS v_12:Int)))) st)) (K false st))))) (BId (v_0≠6) (need (isSl v_11) (BId ((0:Int)<(lenS v_11:Int)) (K true st) (BId (v_0≠7) (need (isSl v_12) (K ((decide ((0:Int)<(lenS v_12:Int)))) st)) (K false st)))) (BId (v_0≠7) (need (isSl v_12) (K ((decide ((0:Int)<(lenS v_12:Int)))) st)) (K false st))))) (BId (v_0≠5) (need (isSl v_10) (BId ((0:Int)<(lenS v_10:Int)) (K true st) (BId (v_0≠6) (need (isSl v_11) (BId ((0:Int)<(lenS v_11:Int)) (K true st) (BId (v_0≠7) (need (isSl v_12) (K ((decide ((0:Int)<(lenS v_12:Int)))) st)) (K false st)))) (BId (v_0≠7) (need (isSl v_12) (K ((decide ((0:Int)<(lenS v_12:Int)))) st)) (K false st))))) (BId (v_0≠6) (need (isSl v_11) (BId ((0:Int)<(lenS v_11:Int)) (K true st) (BId (v_0≠7) (need (isSl v_12) (K ((decide ((0:Int)<(lenS v_12:Int)))) st)) (K false st)))) (BId (v_0≠7) (need (isSl v_12) (K ((decide ((0:Int)<(lenS v_12:Int)))) st)) (K false st))))))) (BId (v_0≠3) (BIf (!(decide (v_5=(0:Int))&&(decide (v_6=(0:Int))&&(decide (v_7=(0:Int))&&(decide (v_8=(0:Int))&&true))))) (K true st) (BId (v_0≠4) (BId (v_9≠([]:B8)) (K true st) (BId (v_0≠5) (need (isSl v_10) (BId ((0:Int)<(lenS v_10:Int)) (K true st) (BId (v_0≠6) (need (isSl v_11) (BId ((0:Int)<(lenS v_11:Int)) (K true st) (BId (v_0≠7) (need (isSl v_12) (K ((decide ((0:Int)<(lenS v_12:Int)))) st)) (K false st)))) (BId (v_0≠7) (need (isSl v_12) (K ((decide ((0:Int)<(lenS v_12:Int)))) st)) (K false st))))) (BId (v_0≠6) (need (isSl v_11) (BId ((0:Int)<(lenS v_11:Int)) (K true st) (BId (v_0≠7) (need (isSl v_12) (K ((decide ((0:Int)<(lenS v_12:Int)))) st)) (K false st)))) (BId (v_0≠7) (need (isSl v_12) (K ((decide ((0:Int)<(lenS v_12:Int)))) st)) (K false st))))) (BId (v_0≠5) (need (isSl v_10) (BId ((0:Int)<(lenS v_10:Int)) (K true st) (BId (v_0≠6) (need (isSl v_11) (BId ((0:Int)<(lenS v_11:Int)) (K true st) (BId (v_0≠7) (need (isSl v_12) (K ((decide ((0:Int)<(lenS v_12:Int)))) st)) (K false st)))) (BId (v_0≠7) (need (isSl v_12) (K ((decide ((0:Int)<(lenS v_12:Int)))) st)) (K false st))))) (BId (v_0≠6) (need (isSl v_11) (BId ((0:Int)<(lenS v_11:Int)) (K true st) (BId (v_0≠7) (need (isSl v_12) (K ((decide ((0:Int)<(lenS v_12:Int)))) st)) (K false st)))) (BId (v_0≠7) (need (isSl v_12) (K ((decide ((0:Int)<(lenS v_12:Int)))) st)) (K false st)))))) (BId (v_0≠4) (BId (v_9≠([]:B8)) (K true st) (BId (v_0≠5) (need (isSl v_10) (BId ((0:Int)<(lenS v_10:Int)) (K true st) (BId (v_0≠6) (need (isSl v_11) (BId ((0:Int)<(lenS v_11:Int)) (K true st) (BId (v_0≠7) (need (isSl v_12) (K ((decide ((0:Int)<(lenS v_12:Int)))) st)) (K false st)))) (BId (v_0≠7) (need (isSl v_12) (K ((decide ((0:Int)<(lenS v_12:Int)))) st)) (K false st))))) (BId (v_0≠6) (need (isSl v_11) (BId ((0:Int)<(lenS v_11:Int)) (K true st) (BId (v_0≠7) (need (isSl v_12) (K ((decide ((0:Int)<(lenS v_12:Int)))) st)) (K false st)))) (BId (v_0≠7) (need (isSl v_12) (K ((decide ((0:Int)<(lenS v_12:Int)))) st)) (K false st))))) (BId (v_0≠5) (need (isSl v_10) (BId ((0:Int)<(lenS v_10:Int)) (K true st) (BId (v_0≠6) (need (isSl v_11) (BId ((0:Int)<(lenS v_11:Int)) (K true st) (BId (v_0≠7) (need (isSl v_12) (K ((decide ((0:Int)<(lenS v_12:Int)))) st)) (K false st)))) (BId (v_0≠7) (need (isSl v_12) (K ((decide ((0:Int)<(lenS v_12:Int)))) st)) (K false st))))) (BId (v_0≠6) (need (isSl v_11) (BId ((0:Int)<(lenS v_11:Int)) (K true st) (BId (v_0≠7) (need (isSl v_12) (K ((decide ((0:Int)<(lenS v_12:Int)))) st)) (K false st)))) (BId (v_0≠7) (need (isSl v_12) (K ((decide ((0:Int)<(lenS v_12:Int)))) st)) (K false st)))))))) (BId (v_0≠2) (BIf (!((v_2==false)&&(decide (v_3=([]:B8))&&(decide (v_4=(0:Int))&&true)))) (K true st) (BId (v_0≠3) (BIf (!(decide (v_5=(0:Int))&&(decide (v_6=(0:Int))&&(decide (v_7=(0:Int))&&(decide (v_8=(0:Int))&&true))))) (K true st) (BId (v_0≠4) (BId (v_9≠([]:B8)) (K true st) (BId (v_0≠5) (need (isSl v_10) (BId ((0:Int)<(lenS v_10:Int)) (K true st) (BId (v_0≠6) (need (isSl v_11) (BId ((0:Int)<(lenS v_11:Int)) (K true st) (BId (v_0≠7) (need (isSl v_12) (K ((decide ((0:Int)<(lenS v_12:Int)))) st)) (K false st)))) (BId (v_0≠7) (need (isSl v_12) (K ((decide ((0:Int)<(lenS v_12:Int)))) st)) (K false st))))) (BId (v_0≠6) (need (isSl v_11) (BId ((0:Int)<(lenS v_11:Int)) (K true st) (BId (v_0≠7) (need (isSl v_12) (K ((decide ((0:Int)<(lenS v_12:Int)))) st)) (K false st)))) (BId (v_0≠7) (need (isSl v_12) (K ((decide ((0:Int)<(lenS v_12:Int)))) st)) (K false st))))) (BId (v_0≠5) (need (isSl v_10) (BId ((0:Int)<(lenS v_10:Int)) (K true st) (BId (v_0≠6) (need (isSl v_11) (BId ((0:Int)<(lenS v_11:Int)) (K true st) (BId (v_0≠7) (need (isSl v_12) (K ((decide ((0:Int)<(lenS v_12:Int)))) st)) (K false st)))) (BId (v_0≠7) (need (isSl v_12) (K ((decide ((0:Int)<(lenS v_12:Int)))) st)) (K false st))))) (BId (v_0≠6) (need (isSl v_11) (BId ((0:Int)<(lenS v_11:Int)) (K true st) (BId (v_0≠7) (need (isSl v_12) (K ((decide ((0:Int)<(lenS v_12:Int)))) st)) (K false st)))) (BId (v_0≠7) (need (isSl v_12) (K ((decide ((0:Int)<(lenS v_12:Int)))) st)) (K false st)))))) (BId (v_0≠4) (BId (v_9≠([]:B8)) (K true st) (BId (v_0≠5) (need (isSl v_10) (BId ((0:Int)<(lenS v_10:Int)) (K true st) (BId (v_0≠6) (need (isSl v_11) (BId ((0:Int)<(lenS v_11:Int)) (K true st) (BId (v_0≠7) (need (isSl v_12) (K ((decide ((0:Int)<(lenS v_12:Int)))) st)) (K false st)))) (BId (v_0≠7) (need (isSl v_12) (K ((decide ((0:Int)<(lenS v_12:Int)))) st)) (K false st))))) (BId (v_0≠6) (need (isSl v_11) (BId ((0:Int)<(lenS v_11:Int)) (K true st) (BId (v_0≠7) (need (isSl v_12) (K ((decide ((0:Int)<(lenS v_12:Int)))) st)) (K false st)))) (BId (v_0≠7) (need (isSl v_12) (K ((decide ((0:Int)<(lenS v_12:Int)))) st)) (K false st))))) (BId (v_0≠5) (need (isSl v_10) (BId ((0:Int)<(lenS v_10:Int)) (K true st) (BId (v_0≠6) (need (isSl v_11) (BId ((0:Int)<(lenS v_11:Int)) (K true st) (BId (v_0≠7) (need (isSl v_12) (K ((decide ((0:Int)<(lenS v_12:Int)))) st)) (K false st)))) (BId (v_0≠7) (need (isSl v_12) (K ((decide ((0:Int)<(lenS v_12:Int)))) st)) (K false st))))) (BId (v_0≠6) (need (isSl v_11) (BId ((0:Int)<(lenS v_11:Int)) (K true st) (BId (v_0≠7) (need (isSl v_12) (K ((decide ((0:Int)<(lenS v_12:Int)))) st)) (K false st)))) (BId (v_0≠7) (need (isSl v_12) (K ((decide ((0:Int)<(lenS v_12:Int)))) st)) (K false st))))))) (BId (v_0≠3) (BIf (!(decide (v_5=(0:Int))&&(decide (v_6=(0:Int))&&(decide (v_7=(0:Int))&&(decide (v_8=(0:Int))&&true))))) (K true st) (BId (v_0≠4) (BId (v_9≠([]:B8)) (K true st) (BId (v_0≠5) (need (isSl v_10) (BId ((0:Int)<(lenS v_10:Int)) (K true st) (BId (v_0≠6) (need (isSl v_11) (BId ((0:Int)<(lenS v_11:Int)) (K true st) (BId (v_0≠7) (need (isSl v_12) (K ((decide ((0:Int)<(lenS v_12:Int)))) st)) (K false st)))) (BId (v_0≠7) (need (isSl v_12) (K ((decide ((0:Int)<(lenS v_12:Int)))) st)) (K false st))))) (BId (v_0≠6) (need (isSl v_11) (BId ((0:Int)<(lenS v_11:Int)) (K true st) (BId (v_0≠7) (need (isSl v_12) (K ((decide ((0:Int)<(lenS v_12:Int)))) st)) (K false st)))) (BId (v_0≠7) (need (isSl v_12) (K ((decide ((0:Int)<(lenS v_12:Int)))) st)) (K false st))))) (BId (v_0≠5) (need (isSl v_10) (BId ((0:Int)<(lenS v_10:Int)) (K true st) (BId (v_0≠6) (need (isSl v_11) (BId ((0:Int)<(lenS v_11:Int)) (K true st) (BId (v_0≠7) (need (isSl v_12) (K ((decide ((0:Int)<(lenS v_12:Int)))) st)) (K false st)))) (BId (v_0≠7) (need (isSl v_12) (K ((decide ((0:Int)<(lenS v_12:Int)))) st)) (K false st))))) (BId (v_0≠6) (need (isSl v_11) (BId ((0:Int)<(lenS v_11:Int)) (K true st) (BId (v_0≠7) (need (isSl v_12) (K ((decide ((0:Int)<(lenS v_12:Int)))) st)) (K false st)))) (BId (v_0≠7) (need (isSl v_12) (K ((decide ((0:Int)<(lenS v_12:Int)))) st)) (K false st)))))) (BId (v_0≠4) (BId (v_9≠([]:B8)) (K true st) (BId (v_0≠5) (need (isSl v_10) (BId ((0:Int)<(lenS v_10:Int)) (K true st) (BId (v_0≠6) (need (isSl v_11) (BId ((0:Int)<(lenS v_11:Int)) (K true st) (BId (v_0≠7) (need (isSl v_12) (K ((decide ((0:Int)<(lenS v_12:Int)))) st)) (K false st)))) (BId (v_0≠7) (need (isSl v_12) (K ((decide ((0:Int)<(lenS v_12:Int)))) st)) (K false st))))) (BId (v_0≠6) (need (isSl v_11) (BId ((0:Int)<(lenS v_11:Int)) (K true st) (BId (v_0≠7) (need (isSl v_12) (K ((decide ((0:Int)<(lenS v_12:Int)))) st)) (K false st)))) (BId (v_0≠7) (need (isSl v_12) (K ((decide ((0:Int)<(lenS v_12:Int)))) st)) (K false st))))) (BId (v_0≠5) (need (isSl v_10) (BId ((0:Int)<(lenS v_10:Int)) (K true st) (BId (v_0≠6) (need (isSl v_11) (BId ((0:Int)<(lenS v_11:Int)) (K true st) (BId (v_0≠7) (need (isSl v_12) (K ((decide ((0:Int)<(lenS v_12:Int)))) st)) (K false st)))) (BId (v_0≠7) (need (isSl v_12) (K ((decide ((0:Int)<(lenS v_12:Int)))) st)) (K false st))))) (BId (v_0≠6) (need (isSl v_11) (BId ((0:Int)<(lenS v_11:Int)) (K true st) (BId (v_0≠7) (need (isSl v_12) (K ((decide ((0:Int)<(lenS v_12:Int)))) st)) (K false st)))) (BId (v_0≠7) (need (isSl v_12) (K ((decide ((0:Int)<(lenS v_12:Int)))) st)) (K false st)))))))):CallT PR FE [(.agg (cV v_0 v_1 v_2 v_3 v_4 v_5 v_6 v_7 v_8 v_9 v_10 v_11 v_12))] [.one .bool] st K:=
 Af (cfg:=⟨[1],[],[]⟩) (h:= .none) mixed (fun _ _=>Tryz.call88 _ _) Tryz.func88 (by kernel_rfl) (by kernel_rfl) h
theorem Kq (d_0:Bool) (d_1:B8) (d_2:Int) (st:St) (K:Bool->St->Prop) (h:BId (d_1=([]:B8)) (K (((d_0==false)&&(decide (d_1=([]:B8))&&(decide (d_2=(0:Int))&&true)))) st) (CallT PR EU [.str d_1] [.one .bool] st (fun (b1:Bool) b=>BIf b1 (BId ((d_1.length:Int)<=(120:Int)) (CallT PR ET [.str d_1] [.one (.int .i64)] b (fun (n1:Int) a=>BId (n1=0) (BId ((-400:Int)<=d_2) (K ((decide (d_2<=400))) a) (K false a)) (K false a))) (K false b)) (K false b)))):CallT PR Es [(.agg [.bool d_0,.str d_1,.int .i64 d_2])] [.one .bool] st K:=
 Af (cfg:=⟨[1],[],[]⟩) (h:= .none) mixed (fun _ _=>Tryz.call89 _ _) Tryz.func89 (by kernel_rfl) (by kernel_rfl) h
theorem Lh (t_0:Int) (t_1:Int) (t_2:Int) (t_3:Int) (st:St) (K:Bool->St->Prop) (h:BId (t_0<1) (K false st) (BId ((4:Int)<t_0) (K false st) (BId (t_1<0) (K false st) (BId ((3652058:Int)<t_1) (K false st) (BId (t_2<0) (K false st) (BId ((86399999999999:Int)<t_2) (K false st) (BId (t_3<(-1439:Int)) (K false st) (BId ((1439:Int)<t_3) (K false st) (BId (t_0=2) (BId (t_1=0) (K ((decide (t_3=0))) st) (K false st)) (BId (t_0=1) (BId (t_2=0) (K ((decide (t_3=0))) st) (K false st)) (BId (t_0=3) (K ((decide (t_3=0))) st) (K true st)))))))))))):CallT PR DS [(.agg [.int .i64 t_0,.int .i64 t_1,.int .i64 t_2,.int .i64 t_3])] [.one .bool] st K:=
 Af (cfg:=⟨[1],[],[]⟩) (h:= .none) mixed (fun _ _=>Tryz.call90 _ _) Tryz.func90 (by kernel_rfl) (by kernel_rfl) h
theorem MX (l:TV) (st:St) (K:Int->St->Prop) (h:need (isSl l) (∃(I1:Int->TV->TV->Int->St->Prop) (M1:Int->TV->TV->Int->St->Nat),(I1 0 ((.map st.nb)) l ((lenS l:Int)) (st.push (.map []) none))/\∀b a c e d,I1 b a c e d->(BId (b<e) (((0<=b/\b<(lenZ 14 c:Int))/\Ai ((Al d [] (.t (ixT 14 c b.toNat)) 0 14).map TV.agg) (fun (x1:TV)=>BG [.str,.int .i64,.bool,.bool,.str,.int .i64,.int .i64,.int .i64,.int .i64,.int .i64,.str,.tv,.tv,.tv] x1 (fun (s1:B8) (n1:Int) (b1 b2:Bool) (s2:B8) (n2 n3 n4 n5 n6:Int) (s3:B8) (v1 v2 v3:TV)=>need (List.all [.str s1,.int .i64 n1,.bool b1,.bool b2,.str s2,.int .i64 n2,.int .i64 n3,.int .i64 n4,.int .i64 n5,.int .i64 n6,.str s3,v1,v2,v3] Ah) (CallT PR He [.str s1] [.one (.int .i64)] d (fun (n7:Int) f=>BId (n7≠0) (K n7 f) (Ai (ED f a) (fun (es1:List (B8×TV))=>AE .bool (Ar (.bool false) (Av s1 es1)) (fun (b3:Bool)=>BIf b3 (K 8 f) (muK a s1 (.bool true) f (fun g=>(I1 ((i64.wrap (b+(1:Int)))) a c e g/\M1 ((i64.wrap (b+(1:Int)))) a c e g<M1 b a c e d)))))))))))) (K 0 d)))):CallT PR Gk [l] [.one (.int .i64)] st K:=
 Af (cfg:=⟨[5],[],[]⟩) (h:=(.seq .none (.seq .none (.seq (.seq .none (.block (.loop ⟨[(10,.int .i64),(3,.tv),(8,.tv),(9,.int .i64)],[],[],[]⟩ .none))) .none)))) mixed (fun _ _=>Tryz.call91 _ _) Tryz.func91 (by kernel_rfl) (by kernel_rfl) h
theorem I4 (v_0:Int) (v_1:Bool) (v_2:Bool) (v_3:B8) (v_4:Int) (v_5:Int) (v_6:Int) (v_7:Int) (v_8:Int) (v_9:B8) (v_10:TV) (v_11:TV) (v_12:TV) (st:St) (K:Int->St->Prop) (h:CallT PR DG [(.agg (cV v_0 v_1 v_2 v_3 v_4 v_5 v_6 v_7 v_8 v_9 v_10 v_11 v_12))] [.one .bool] st (fun (b1:Bool) d=>BIf (!b1) (K 6 d) (CallT PR CX [(.agg [.bool v_2,.str v_3,.int .i64 v_4])] [.one .bool] d (fun (b2:Bool) c=>BIf (!b2) (K 2 c) (BId (v_0=3) (CallT PR CW [(.agg [.int .i64 v_5,.int .i64 v_6,.int .i64 v_7,.int .i64 v_8])] [.one .bool] c (fun (b3:Bool) e=>BIf (!b3) (K 2 e) (CallT PR AP [.str v_9] [.one .bool] e (fun (b4:Bool) a=>BIf (!b4) (K 5 a) (BId ((65536:Int)<(v_9.length:Int)) (K 10 a) (need (isSl v_10) (BId ((65536:Int)<(lenS v_10:Int)) (K 10 a) (CallT PR Br [v_12] [.one (.int .i64)] a (fun (n1:Int) f=>K n1 f))))))))) (CallT PR AP [.str v_9] [.one .bool] c (fun (b5:Bool) b=>BIf (!b5) (K 5 b) (BId ((65536:Int)<(v_9.length:Int)) (K 10 b) (need (isSl v_10) (BId ((65536:Int)<(lenS v_10:Int)) (K 10 b) (CallT PR Br [v_12] [.one (.int .i64)] b (fun (n2:Int) g=>K n2 g)))))))))))):CallT PR DH [(.agg (cV v_0 v_1 v_2 v_3 v_4 v_5 v_6 v_7 v_8 v_9 v_10 v_11 v_12))] [.one (.int .i64)] st K:=
 Af (cfg:=⟨[1],[],[]⟩) (h:= .none) mixed (fun _ _=>Tryz.call93 _ _) Tryz.func93 (by kernel_rfl) (by kernel_rfl) h
theorem QT (s:B8) (st:St) (K:Int->Int->St->Prop) (h:∃(I1:Int->Int->B8->St->Prop) (M1:Int->Int->B8->St->Nat),(I1 0 0 s st)/\∀c a b d,I1 c a b d->(BId (a<(b.length:Int)) (CallT PR Gn [.str b,.int .i64 a] [.one (.int .i64),.one (.int .i64)] d (fun (n1 n2:Int) e=>BId (n2=0) (K 0 5 e) ((I1 ((i64.wrap (c+(1:Int)))) ((i64.wrap (a+n2))) b e/\M1 ((i64.wrap (c+(1:Int)))) ((i64.wrap (a+n2))) b e<M1 c a b d)))) (K c 0 d))):CallT PR JD [.str s] [.one (.int .i64),.one (.int .i64)] st K:=
 Af (cfg:=⟨[],[],[]⟩) (h:=(.seq .none (.seq .none (.seq (.seq .none (.block (.loop ⟨[(4,.int .i64),(5,.int .i64),(0,.str)],[],[],[]⟩ .none))) .none)))) mixed (fun _ _=>Tryz.call96 _ _) Tryz.func96 (by kernel_rfl) (by kernel_rfl) h
theorem LT (v_0:Int) (v_1:Bool) (v_2:Bool) (v_3:B8) (v_4:Int) (v_5:Int) (v_6:Int) (v_7:Int) (v_8:Int) (v_9:B8) (v_10:TV) (v_11:TV) (v_12:TV) (s_0:Bool) (s_1:B8) (s_2:Int) (st:St) (K:Int->Int->St->Prop) (h:CallT PR Ir [(.agg (cV v_0 v_1 v_2 v_3 v_4 v_5 v_6 v_7 v_8 v_9 v_10 v_11 v_12)),(.agg [.bool s_0,.str s_1,.int .i64 s_2])] [.one .bool] st (fun (b1:Bool) a=>BIf (!b1) (K 0 6 a) (BIf (!s_0) (CallT PR EV [(.agg (cV v_0 v_1 v_2 v_3 v_4 v_5 v_6 v_7 v_8 v_9 v_10 v_11 v_12)),.str s_1] [.one (.int .i64)] a (fun (n1:Int) b=>BId (n1<0) (K 0 7 b) (BIf s_0 (need (isSl v_11) (BId ((lenS v_11:Int)<=n1) (K 0 7 b) (K n1 0 b))) (K n1 0 b)))) (BId (s_2<0) (K 0 7 a) (BIf s_0 (need (isSl v_11) (BId ((lenS v_11:Int)<=s_2) (K 0 7 a) (K s_2 0 a))) (K s_2 0 a)))))):CallT PR FG [(.agg (cV v_0 v_1 v_2 v_3 v_4 v_5 v_6 v_7 v_8 v_9 v_10 v_11 v_12)),(.agg [.bool s_0,.str s_1,.int .i64 s_2])] [.one (.int .i64),.one (.int .i64)] st K:=
 Af (cfg:=⟨[2,3],[],[]⟩) (h:= .none) mixed (fun _ _=>Tryz.call97 _ _) Tryz.func97 (by kernel_rfl) (by kernel_rfl) h
theorem Fu (s:B8) (st:St) (K:TV->Bool->St->Prop) (h:∃(I1:TV->Int->B8->St->Prop) (M1:TV->Int->B8->St->Nat),(I1 ((.list 1 .full 1 [.int .i64 0])) 0 s st)/\∀c a b d,I1 c a b d->(BId (a<(b.length:Int)) (CallT PR BM [.str b,.int .i64 a] [.one (.int .i64),.one (.int .i64)] d (fun (n1 n2:Int) f=>BId (n2=0) (K c false f) (Cl 3 1 8 c 1 [(.int .i64 (i64.wrap (a+n2)))] f (fun (v1:TV) e=>(I1 v1 ((i64.wrap (a+n2))) b e/\M1 v1 ((i64.wrap (a+n2))) b e<M1 c a b d))))) (K c true d))):CallT PR BV [.str s] [.one .tv,.one .bool] st K:=
 Af (cfg:=⟨[],[],[]⟩) (h:=(.seq .none (.seq .none (.seq .none (.seq (.block (.loop ⟨[(4,.tv),(5,.int .i64),(0,.str)],[],[],[]⟩ .none)) .none))))) mixed (fun _ _=>Tryz.call98 _ _) Tryz.func98 (by kernel_rfl) (by kernel_rfl) h
theorem Lg (v_0:Int) (v_1:Bool) (v_2:Bool) (v_3:B8) (v_4:Int) (v_5:Int) (v_6:Int) (v_7:Int) (v_8:Int) (v_9:B8) (v_10:TV) (v_11:TV) (v_12:TV) (st:St) (K:Bool->St->Prop) (h:BId (v_0=0) (BIf (!v_1) (BIf ((v_2==false)&&(decide (v_3=([]:B8))&&(decide (v_4=(0:Int))&&true))) (BIf (decide (v_5=(0:Int))&&(decide (v_6=(0:Int))&&(decide (v_7=(0:Int))&&(decide (v_8=(0:Int))&&true)))) (BId (v_9=([]:B8)) (need (isSl v_10) (BId ((lenS v_10:Int)=(0:Int)) (need (isSl v_11) (BId ((lenS v_11:Int)=(0:Int)) (need (isSl v_12) (K ((decide ((lenS v_12:Int)=(0:Int)))) st)) (K false st))) (K false st))) (K false st)) (K false st)) (K false st)) (K false st)) (K false st)):CallT PR CI [(.agg (cV v_0 v_1 v_2 v_3 v_4 v_5 v_6 v_7 v_8 v_9 v_10 v_11 v_12))] [.one .bool] st K:=
 Af (cfg:=⟨[1],[],[]⟩) (h:= .none) mixed (fun _ _=>Tryz.call103 _ _) Tryz.func103 (by kernel_rfl) (by kernel_rfl) h
theorem MV (v_0:Int) (b:Bool) (v_2:Bool) (v_3:B8) (v_4:Int) (v_5:Int) (v_6:Int) (v_7:Int) (v_8:Int) (v_9:B8) (v_10:TV) (v_11:TV) (v_12:TV) (left:Int) (st:St) (K:Int->St->Prop) (h:BId (left<1) (K 1 st) (CallT PR Ey [(.agg (cV v_0 b v_2 v_3 v_4 v_5 v_6 v_7 v_8 v_9 v_10 v_11 v_12))] [.one .tv] st (fun (v1:TV) i=>need (isSl v1) (∃(I1:Int->Int->Int->TV->Int->St->Prop) (M1:Int->Int->Int->TV->Int->St->Nat),(I1 1 0 left v1 ((lenS v1:Int)) i)/\∀d c a b e f,I1 d c a b e f->(BId (c<e) (((0<=c/\c<(lenZ 13 b:Int))/\Ai ((Al f [] (.t (ixT 13 b c.toNat)) 0 13).map TV.agg) (fun (x1:TV)=>BG [.int .i64,.bool,.bool,.str,.int .i64,.int .i64,.int .i64,.int .i64,.int .i64,.str,.tv,.tv,.tv] x1 (fun (n1:Int) (b1 b2:Bool) (s1:B8) (n2 n3 n4 n5 n6:Int) (s2:B8) (v2 v3 v4:TV)=>need (List.all (cV n1 b1 b2 s1 n2 n3 n4 n5 n6 s2 v2 v3 v4) Ah) (CallT PR Ex [(.agg (cV n1 b1 b2 s1 n2 n3 n4 n5 n6 s2 v2 v3 v4)),(.int .i64 (i64.wrap (a-(1:Int))))] [.one (.int .i64)] f (fun (n7:Int) g=>(I1 ((i64.wrap (d+n7))) ((i64.wrap (c+(1:Int)))) a b e g/\M1 ((i64.wrap (d+n7))) ((i64.wrap (c+(1:Int)))) a b e g<M1 d c a b e f))))))) (K d f)))))):CallT PR Ex [(.agg (cV v_0 b v_2 v_3 v_4 v_5 v_6 v_7 v_8 v_9 v_10 v_11 v_12)),.int .i64 left] [.one (.int .i64)] st K:=
 Af (cfg:=⟨[2,7],[],[]⟩) (h:=(.seq .none (.seq .none (.seq .none (.seq (.seq .none (.block (.loop ⟨[(5,.int .i64),(14,.int .i64),(1,.int .i64),(12,.tv),(13,.int .i64)],[],[],[]⟩ .none))) .none))))) mixed (fun _ _=>Tryz.call104 _ _) Tryz.func104 (by kernel_rfl) (by kernel_rfl) h
theorem MY (v_0:Int) (b:Bool) (v_2:Bool) (v_3:B8) (v_4:Int) (v_5:Int) (v_6:Int) (v_7:Int) (v_8:Int) (v_9:B8) (v_10:TV) (v_11:TV) (v_12:TV) (left:Int) (st:St) (K:Int->St->Prop) (h:BId (left<=1) (K 1 st) (CallT PR Ey [(.agg (cV v_0 b v_2 v_3 v_4 v_5 v_6 v_7 v_8 v_9 v_10 v_11 v_12))] [.one .tv] st (fun (v1:TV) i=>need (isSl v1) (∃(I1:Int->Int->Int->TV->Int->St->Prop) (M1:Int->Int->Int->TV->Int->St->Nat),(I1 1 0 left v1 ((lenS v1:Int)) i)/\∀d c a b e f,I1 d c a b e f->(BId (c<e) (((0<=c/\c<(lenZ 13 b:Int))/\Ai ((Al f [] (.t (ixT 13 b c.toNat)) 0 13).map TV.agg) (fun (x1:TV)=>BG [.int .i64,.bool,.bool,.str,.int .i64,.int .i64,.int .i64,.int .i64,.int .i64,.str,.tv,.tv,.tv] x1 (fun (n1:Int) (b1 b2:Bool) (s1:B8) (n2 n3 n4 n5 n6:Int) (s2:B8) (v2 v3 v4:TV)=>need (List.all (cV n1 b1 b2 s1 n2 n3 n4 n5 n6 s2 v2 v3 v4) Ah) (CallT PR Ez [(.agg (cV n1 b1 b2 s1 n2 n3 n4 n5 n6 s2 v2 v3 v4)),(.int .i64 (i64.wrap (a-(1:Int))))] [.one (.int .i64)] f (fun (n7:Int) g=>(I1 ((max d (i64.wrap ((1:Int)+n7)))) ((i64.wrap (c+(1:Int)))) a b e g/\M1 ((max d (i64.wrap ((1:Int)+n7)))) ((i64.wrap (c+(1:Int)))) a b e g<M1 d c a b e f))))))) (K d f)))))):CallT PR Ez [(.agg (cV v_0 b v_2 v_3 v_4 v_5 v_6 v_7 v_8 v_9 v_10 v_11 v_12)),.int .i64 left] [.one (.int .i64)] st K:=
 Af (cfg:=⟨[2,7],[],[]⟩) (h:=(.seq .none (.seq .none (.seq .none (.seq (.seq .none (.block (.loop ⟨[(5,.int .i64),(14,.int .i64),(1,.int .i64),(12,.tv),(13,.int .i64)],[],[],[]⟩ .none))) .none))))) mixed (fun _ _=>Tryz.call105 _ _) Tryz.func105 (by kernel_rfl) (by kernel_rfl) h
theorem DA (s:TV) (f:TV) (st:St) (K:Int->St->Prop) (h:need (isSl s) (∃(I1:Int->TV->TV->Int->St->Prop) (M1:Int->TV->TV->Int->St->Nat),(I1 0 s f ((lenS s:Int)) st)/\∀a b c e d,I1 a b c e d->(BId (a<e) (((0<=a/\a<(lenZ 1 b:Int))/\Ai (Ac d [] (.t (ixT 1 b a.toNat)) 0) (fun (x1:TV)=>AE .str x1 (fun (s1:B8)=>SG PR c [.str s1] [.one .bool] d (fun (b1:Bool) g=>BIf b1 (K a g) ((I1 ((i64.wrap (a+(1:Int)))) b c e g/\M1 ((i64.wrap (a+(1:Int)))) b c e g<M1 a b c e d))))))) (K (-1) d)))):CallT PR BE [s,f] [.one (.int .i64)] st K:=
 Af (cfg:=⟨[],[],[]⟩) (h:=(.seq .none (.seq (.seq .none (.block (.loop ⟨[(8,.int .i64),(0,.tv),(1,.tv),(7,.int .i64)],[],[],[]⟩ .none))) .none))) mixed (fun _ _=>Tryz.call106 _ _) Tryz.func106 (by kernel_rfl) (by kernel_rfl) h
theorem Hu (v_0:Int) (v_1:Bool) (v_2:Bool) (v_3:B8) (v_4:Int) (v_5:Int) (v_6:Int) (v_7:Int) (v_8:Int) (v_9:B8) (v_10:TV) (v_11:TV) (v_12:TV) (st:St) (K:Bool->St->Prop) (h:BId (v_0=0) (BIf (!v_1) (BIf ((v_2==false)&&(decide (v_3=([]:B8))&&(decide (v_4=(0:Int))&&true))) (BIf (decide (v_5=(0:Int))&&(decide (v_6=(0:Int))&&(decide (v_7=(0:Int))&&(decide (v_8=(0:Int))&&true)))) (BId (v_9=([]:B8)) (need (isSl v_10) (BId ((lenS v_10:Int)=(0:Int)) (need (isSl v_11) (BId ((lenS v_11:Int)=(0:Int)) (need (isSl v_12) (K ((decide ((lenS v_12:Int)=(0:Int)))) st)) (K false st))) (K false st))) (K false st)) (K false st)) (K false st)) (K false st)) (K false st)):CallT PR Bk [(.agg (cV v_0 v_1 v_2 v_3 v_4 v_5 v_6 v_7 v_8 v_9 v_10 v_11 v_12))] [.one .bool] st K:=
 Af (cfg:=⟨[1],[],[]⟩) (h:= .none) mixed (fun _ _=>Tryz.call108 _ _) Tryz.func108 (by kernel_rfl) (by kernel_rfl) h
theorem HC (v_0:Int) (v_1:Bool) (v_2:Bool) (v_3:B8) (v_4:Int) (v_5:Int) (v_6:Int) (v_7:Int) (v_8:Int) (v_9:B8) (v_10:TV) (v_11:TV) (v_12:TV) (key:B8) (st:St) (K:V13 (Bool->St->Prop)) (h:∃(I1:Int->B8->V13 (V13 (St->Prop))) (M1:Int->B8->V13 (V13 (St->Nat))),(I1 0 key v_0 v_1 v_2 v_3 v_4 v_5 v_6 v_7 v_8 v_9 v_10 v_11 v_12 0 false false [] 0 0 0 0 0 [] .nilSlice .nilSlice .nilSlice st)/\∀a b n1 b1 b2 s1 n2 n3 n4 n5 n6 s2 v1 v2 v3 n7 b3 b4 s3 n8 n9 d f e s4 v4 v5 v6 c,I1 a b n1 b1 b2 s1 n2 n3 n4 n5 n6 s2 v1 v2 v3 n7 b3 b4 s3 n8 n9 d f e s4 v4 v5 v6 c->(need (isSl v3) (BId (a<(lenS v3:Int)) (((0<=a/\a<(lenZ 14 v3:Int))/\need (isPtr (ixT 14 v3 a.toNat)) (Ai (Ac c [] (.t (At (ixT 14 v3 a.toNat) 0)) 0) (fun (x1:TV)=>AE .str x1 (fun (s5:B8)=>BId (s5=b) (((0<=a/\a<(lenZ 14 v3:Int))/\need (isPtr (ixT 14 v3 a.toNat)) (Ai ((Al c [] (.t (At (ixT 14 v3 a.toNat) 1)) 0 13).map TV.agg) (fun (x2:TV)=>BG [.int .i64,.bool,.bool,.str,.int .i64,.int .i64,.int .i64,.int .i64,.int .i64,.str,.tv,.tv,.tv] x2 (fun (l:Int) (b5 b6:Bool) (s6:B8) (i j g k m:Int) (s7:B8) (v7 v8 v9:TV)=>need (List.all (cV l b5 b6 s6 i j g k m s7 v7 v8 v9) Ah) (K l b5 b6 s6 i j g k m s7 v7 v8 v9 true c)))))) ((I1 ((i64.wrap (a+(1:Int)))) b n1 b1 b2 s1 n2 n3 n4 n5 n6 s2 v1 v2 v3 n7 b3 b4 s3 n8 n9 d f e s4 v4 v5 v6 c/\M1 ((i64.wrap (a+(1:Int)))) b n1 b1 b2 s1 n2 n3 n4 n5 n6 s2 v1 v2 v3 n7 b3 b4 s3 n8 n9 d f e s4 v4 v5 v6 c<M1 a b n1 b1 b2 s1 n2 n3 n4 n5 n6 s2 v1 v2 v3 n7 b3 b4 s3 n8 n9 d f e s4 v4 v5 v6 c))))))) (K 0 false false [] 0 0 0 0 0 [] .nilSlice .nilSlice .nilSlice false c)))):CallT PR CT [(.agg (cV v_0 v_1 v_2 v_3 v_4 v_5 v_6 v_7 v_8 v_9 v_10 v_11 v_12)),.str key] [sV,.one .bool] st K:=
 Af (cfg:=⟨[2,4],[],[]⟩) (h:=(.seq .none (.seq (.seq .none (.block (.loop ⟨[(6,.int .i64),(1,.str)],[(2,0,0),(4,1,0)],[(0,13),(1,13)],[(0,0,.int .i64),(0,1,.bool),(0,2,.bool),(0,3,.str),(0,4,.int .i64),(0,5,.int .i64),(0,6,.int .i64),(0,7,.int .i64),(0,8,.int .i64),(0,9,.str),(0,10,.tv),(0,11,.tv),(0,12,.tv),(1,0,.int .i64),(1,1,.bool),(1,2,.bool),(1,3,.str),(1,4,.int .i64),(1,5,.int .i64),(1,6,.int .i64),(1,7,.int .i64),(1,8,.int .i64),(1,9,.str),(1,10,.tv),(1,11,.tv),(1,12,.tv)]⟩ .none))) .none))) mixed (fun _ _=>Tryz.call109 _ _) Tryz.func109 (by kernel_rfl) (by kernel_rfl) h
theorem Lj (s:B8) (st:St) (K:Bool->St->Prop) (h:BId ((s.length:Int)<=(600:Int)) (CallT PR Gp [.str s] [.one .bool] st (fun (b1:Bool) a=>BIf b1 (BId (s=([]:B8)) (K true a) (((0<=(0:Int)/\(0:Int)<(s.length:Int))/\K ((decide (((List.getD s (Int.toNat (0:Int)) 0).toNat:Int)≠(48:Int)))) a))) (K false a))) (K false st)):CallT PR EU [.str s] [.one .bool] st K:=
 Af (cfg:=⟨[],[],[]⟩) (h:= .none) mixed (fun _ _=>Tryz.call110 _ _) Tryz.func110 (by kernel_rfl) (by kernel_rfl) h
theorem Li (a:B8) (st:St) (K:Int->St->Prop) (h:CallT PR EI [.str a,.str str6] [.one .str] st (fun (s1:B8) b=>K ((i64.wrap ((a.length:Int)-(s1.length:Int)))) b)):CallT PR ET [.str a] [.one (.int .i64)] st K:=
 Af (cfg:=⟨[],[],[]⟩) (h:= .none) mixed (fun _ _=>Tryz.call111 _ _) Tryz.func111 (by kernel_rfl) (by kernel_rfl) h
theorem Ok (s:B8) (st:St) (K:Int->St->Prop) (h:CallT PR D9 [.str s] [.one .bool] st (fun (b1:Bool) a=>BIf (!b1) (K 5 a) (BId ((1024:Int)<(s.length:Int)) (K 10 a) (K 0 a)))):CallT PR He [.str s] [.one (.int .i64)] st K:=
 Af (cfg:=⟨[],[],[]⟩) (h:= .none) mixed (fun _ _=>Tryz.call112 _ _) Tryz.func112 (by kernel_rfl) (by kernel_rfl) h
theorem I0 (v_0:Int) (v_1:Bool) (v_2:Bool) (v_3:B8) (v_4:Int) (v_5:Int) (v_6:Int) (v_7:Int) (v_8:Int) (v_9:B8) (v_10:TV) (v_11:TV) (v_12:TV) (st:St) (K:Bool->St->Prop) (h:BId (v_0<0) (K false st) (BId ((7:Int)<v_0) (K false st) (BId (v_0≠1) (BIf v_1 (K false st) (BId (v_0≠2) (BIf (!((v_2==false)&&(decide (v_3=([]:B8))&&(decide (v_4=(0:Int))&&true)))) (K false st) (BId (v_0≠3) (BIf (!(decide (v_5=(0:Int))&&(decide (v_6=(0:Int))&&(decide (v_7=(0:Int))&&(decide (v_8=(0:Int))&&true))))) (K false st) (BId (v_0=4) (BId (v_0=5) (BId (v_0=6) (BId (v_0=7) (K true st) (need (isSl v_12) (K ((decide ((lenS v_12:Int)=(0:Int)))) st))) (need (isSl v_11) (BId ((lenS v_11:Int)=(0:Int)) (BId (v_0=7) (K true st) (need (isSl v_12) (K ((decide ((lenS v_12:Int)=(0:Int)))) st))) (K false st)))) (need (isSl v_10) (BId ((lenS v_10:Int)=(0:Int)) (BId (v_0=6) (BId (v_0=7) (K true st) (need (isSl v_12) (K ((decide ((lenS v_12:Int)=(0:Int)))) st))) (need (isSl v_11) (BId ((lenS v_11:Int)=(0:Int)) (BId (v_0=7) (K true st) (need (isSl v_12) (K ((decide ((lenS v_12:Int)=(0:Int)))) st))) (K false st)))) (K false st)))) (BId (v_9=([]:B8)) (BId (v_0=5) (BId (v_0=6) (BId (v_0=7) (K true st) (need (isSl v_12) (K ((decide ((lenS v_12:Int)=(0:Int)))) st))) (need (isSl v_11) (BId ((lenS v_11:Int)=(0:Int)) (BId (v_0=7) (K true st) (need (isSl v_12) (K ((decide ((lenS v_12:Int)=(0:Int)))) st))) (K false st)))) (need (isSl v_10) (BId ((lenS v_10:Int)=(0:Int)) (BId (v_0=6) (BId (v_0=7) (K true st) (need (isSl v_12) (K ((decide ((lenS v_12:Int)=(0:Int)))) st))) (need (isSl v_11) (BId ((lenS v_11:Int)=(0:Int)) (BId (v_0=7) (K true st) (need (isSl v_12) (K ((decide ((lenS v_12:Int)=(0:Int)))) st))) (K false st)))) (K false st)))) (K false st)))) (BId (v_0=4) (BId (v_0=5) (BId (v_0=6) (BId (v_0=7) (K true st) (need (isSl v_12) (K ((decide ((lenS v_12:Int)=(0:Int)))) st))) (need (isSl v_11) (BId ((lenS v_11:Int)=(0:Int)) (BId (v_0=7) (K true st) (need (isSl v_12) (K ((decide ((lenS v_12:Int)=(0:Int)))) st))) (K false st)))) (need (isSl v_10) (BId ((lenS v_10:Int)=(0:Int)) (BId (v_0=6) (BId (v_0=7) (K true st) (need (isSl v_12) (K ((decide ((lenS v_12:Int)=(0:Int)))) st))) (need (isSl v_11) (BId ((lenS v_11:Int)=(0:Int)) (BId (v_0=7) (K true st) (need (isSl v_12) (K ((decide ((lenS v_12:Int)=(0:Int)))) st))) (K false st)))) (K false st)))) (BId (v_9=([]:B8)) (BId (v_0=5) (BId (v_0=6) (BId (v_0=7) (K true st) (need (isSl v_12) (K ((decide ((lenS v_12:Int)=(0:Int)))) st))) (need (isSl v_11) (BId ((lenS v_11:Int)=(0:Int)) (BId (v_0=7) (K true st) (need (isSl v_12) (K ((decide ((lenS v_12:Int)=(0:Int)))) st))) (K false st)))) (need (isSl v_10) (BId ((lenS v_10:Int)=(0:Int)) (BId (v_0=6) (BId (v_0=7) (K true st) (need (isSl v_12) (K ((decide ((lenS v_12:Int)=(0:Int)))) st))) (need (isSl v_11) (BId ((lenS v_11:Int)=(0:Int)) (BId (v_0=7) (K true st) (need (isSl v_12) (K ((decide ((lenS v_12:Int)=(0:Int)))) st))) (K false st)))) (K false st)))) (K false st))))) (BId (v_0≠3) (BIf (!(decide (v_5=(0:Int))&&(decide (v_6=(0:Int))&&(decide (v_7=(0:Int))&&(decide (v_8=(0:Int))&&true))))) (K false st) (BId (v_0=4) (BId (v_0=5) (BId (v_0=6) (BId (v_0=7) (K true st) (need (isSl v_12) (K ((decide ((lenS v_12:Int)=(0:Int)))) st))) (need (isSl v_11) (BId ((lenS v_11:Int)=(0:Int)) (BId (v_0=7) (K true st) (need (isSl v_12) (K ((decide ((lenS v_12:Int)=(0:Int)))) st))) (K false st)))) (need (isSl v_10) (BId ((lenS v_10:Int)=(0:Int)) (BId (v_0=6) (BId (v_0=7) (K true st) (need (isSl v_12) (K ((decide ((lenS v_12:Int)=(0:Int)))) st))) (need (isSl v_11) (BId ((lenS v_11:Int)=(0:Int)) (BId (v_0=7) (K true st) (need (isSl v_12) (K ((decide ((lenS v_12:Int)=(0:Int)))) st))) (K false st)))) (K false st)))) (BId (v_9=([]:B8)) (BId (v_0=5) (BId (v_0=6) (BId (v_0=7) (K true st) (need (isSl v_12) (K ((decide ((lenS v_12:Int)=(0:Int)))) st))) (need (isSl v_11) (BId ((lenS v_11:Int)=(0:Int)) (BId (v_0=7) (K true st) (need (isSl v_12) (K ((decide ((lenS v_12:Int)=(0:Int)))) st))) (K false st)))) (need (isSl v_10) (BId ((lenS v_10:Int)=(0:Int)) (BId (v_0=6) (BId (v_0=7) (K true st) (need (isSl v_12) (K ((decide ((lenS v_12:Int)=(0:Int)))) st))) (need (isSl v_11) (BId ((lenS v_11:Int)=(0:Int)) (BId (v_0=7) (K true st) (need (isSl v_12) (K ((decide ((lenS v_12:Int)=(0:Int)))) st))) (K false st)))) (K false st)))) (K false st)))) (BId (v_0=4) (BId (v_0=5) (BId (v_0=6) (BId (v_0=7) (K true st) (need (isSl v_12) (K ((decide ((lenS v_12:Int)=(0:Int)))) st))) (need (isSl v_11) (BId ((lenS v_11:Int)=(0:Int)) (BId (v_0=7) (K true st) (need (isSl v_12) (K ((decide ((lenS v_12:Int)=(0:Int)))) st))) (K false st)))) (need (isSl v_10) (BId ((lenS v_10:Int)=(0:Int)) (BId (v_0=6) (BId (v_0=7) (K true st) (need (isSl v_12) (K ((decide ((lenS v_12:Int)=(0:Int)))) st))) (need (isSl v_11) (BId ((lenS v_11:Int)=(0:Int)) (BId (v_0=7) (K true st) (need (isSl v_12) (K ((decide ((lenS v_12:Int)=(0:Int)))) st))) (K false st)))) (K false st)))) (BId (v_9=([]:B8)) (BId (v_0=5) (BId (v_0=6) (BId (v_0=7) (K true st) (need (isSl v_12) (K ((decide ((lenS v_12:Int)=(0:Int)))) st))) (need (isSl v_11) (BId ((lenS v_11:Int)=(0:Int)) (BId (v_0=7) (K true st) (need (isSl v_12) (K ((decide ((lenS v_12:Int)=(0:Int)))) st))) (K false st)))) (need (isSl v_10) (BId ((lenS v_10:Int)=(0:Int)) (BId (v_0=6) (BId (v_0=7) (K true st) (need (isSl v_12) (K ((decide ((lenS v_12:Int)=(0:Int)))) st))) (need (isSl v_11) (BId ((lenS v_11:Int)=(0:Int)) (BId (v_0=7) (K true st) (need (isSl v_12) (K ((decide ((lenS v_12:Int)=(0:Int)))) st))) (K false st)))) (K false st)))) (K false st)))))) (BId (v_0≠2) (BIf (!((v_2==false)&&(decide (v_3=([]:B8))&&(decide (v_4=(0:Int))&&true)))) (K false st) (BId (v_0≠3) (BIf (!(decide (v_5=(0:Int))&&(decide (v_6=(0:Int))&&(decide (v_7=(0:Int))&&(decide (v_8=(0:Int))&&true))))) (K false st) (BId (v_0=4) (BId (v_0=5) (BId (v_0=6) (BId (v_0=7) (K true st) (need (isSl v_12) (K ((decide ((lenS v_12:Int)=(0:Int)))) st))) (need (isSl v_11) (BId ((lenS v_11:Int)=(0:Int)) (BId (v_0=7) (K true st) (need (isSl v_12) (K ((decide ((lenS v_12:Int)=(0:Int)))) st))) (K false st)))) (need (isSl v_10) (BId ((lenS v_10:Int)=(0:Int)) (BId (v_0=6) (BId (v_0=7) (K true st) (need (isSl v_12) (K ((decide ((lenS v_12:Int)=(0:Int)))) st))) (need (isSl v_11) (BId ((lenS v_11:Int)=(0:Int)) (BId (v_0=7) (K true st) (need (isSl v_12) (K ((decide ((lenS v_12:Int)=(0:Int)))) st))) (K false st)))) (K false st)))) (BId (v_9=([]:B8)) (BId (v_0=5) (BId (v_0=6) (BId (v_0=7) (K true st) (need (isSl v_12) (K ((decide ((lenS v_12:Int)=(0:Int)))) st))) (need (isSl v_11) (BId ((lenS v_11:Int)=(0:Int)) (BId (v_0=7) (K true st) (need (isSl v_12) (K ((decide ((lenS v_12:Int)=(0:Int)))) st))) (K false st)))) (need (isSl v_10) (BId ((lenS v_10:Int)=(0:Int)) (BId (v_0=6) (BId (v_0=7) (K true st) (need (isSl v_12) (K ((decide ((lenS v_12:Int)=(0:Int)))) st))) (need (isSl v_11) (BId ((lenS v_11:Int)=(0:Int)) (BId (v_0=7) (K true st) (need (isSl v_12) (K ((decide ((lenS v_12:Int)=(0:Int)))) st))) (K false st)))) (K false st)))) (K false st)))) (BId (v_0=4) (BId (v_0=5) (BId (v_0=6) (BId (v_0=7) (K true st) (need (isSl v_12) (K ((decide ((lenS v_12:Int)=(0:Int)))) st))) (need (isSl v_11) (BId ((lenS v_11:Int)=(0:Int)) (BId (v_0=7) (K true st) (need (isSl v_12) (K ((decide ((lenS v_12:Int)=(0:Int)))) st))) (K false st)))) (need (isSl v_10) (BId ((lenS v_10:Int)=(0:Int)) (BId (v_0=6) (BId (v_0=7) (K true st) (need (isSl v_12) (K ((decide ((lenS v_12:Int)=(0:Int)))) st))) (need (isSl v_11) (BId ((lenS v_11:Int)=(0:Int)) (BId (v_0=7) (K true st) (need (isSl v_12) (K ((decide ((lenS v_12:Int)=(0:Int)))) st))) (K false st)))) (K false st)))) (BId (v_9=([]:B8)) (BId (v_0=5) (BId (v_0=6) (BId (v_0=7) (K true st) (need (isSl v_12) (K ((decide ((lenS v_12:Int)=(0:Int)))) st))) (need (isSl v_11) (BId ((lenS v_11:Int)=(0:Int)) (BId (v_0=7) (K true st) (need (isSl v_12) (K ((decide ((lenS v_12:Int)=(0:Int)))) st))) (K false st)))) (need (isSl v_10) (BId ((lenS v_10:Int)=(0:Int)) (BId (v_0=6) (BId (v_0=7) (K true st) (need (isSl v_12) (K ((decide ((lenS v_12:Int)=(0:Int)))) st))) (need (isSl v_11) (BId ((lenS v_11:Int)=(0:Int)) (BId (v_0=7) (K true st) (need (isSl v_12) (K ((decide ((lenS v_12:Int)=(0:Int)))) st))) (K false st)))) (K false st)))) (K false st))))) (BId (v_0≠3) (BIf (!(decide (v_5=(0:Int))&&(decide (v_6=(0:Int))&&(decide (v_7=(0:Int))&&(decide (v_8=(0:Int))&&true))))) (K false st) (BId (v_0=4) (BId (v_0=5) (BId (v_0=6) (BId (v_0=7) (K true st) (need (isSl v_12) (K ((decide ((lenS v_12:Int)=(0:Int)))) st))) (need (isSl v_11) (BId ((lenS v_11:Int)=(0:Int)) (BId (v_0=7) (K true st) (need (isSl v_12) (K ((decide ((lenS v_12:Int)=(0:Int)))) st))) (K false st)))) (need (isSl v_10) (BId ((lenS v_10:Int)=(0:Int)) (BId (v_0=6) (BId (v_0=7) (K true st) (need (isSl v_12) (K ((decide ((lenS v_12:Int)=(0:Int)))) st))) (need (isSl v_11) (BId ((lenS v_11:Int)=(0:Int)) (BId (v_0=7) (K true st) (need (isSl v_12) (K ((decide ((lenS v_12:Int)=(0:Int)))) st))) (K false st)))) (K false st)))) (BId (v_9=([]:B8)) (BId (v_0=5) (BId (v_0=6) (BId (v_0=7) (K true st) (need (isSl v_12) (K ((decide ((lenS v_12:Int)=(0:Int)))) st))) (need (isSl v_11) (BId ((lenS v_11:Int)=(0:Int)) (BId (v_0=7) (K true st) (need (isSl v_12) (K ((decide ((lenS v_12:Int)=(0:Int)))) st))) (K false st)))) (need (isSl v_10) (BId ((lenS v_10:Int)=(0:Int)) (BId (v_0=6) (BId (v_0=7) (K true st) (need (isSl v_12) (K ((decide ((lenS v_12:Int)=(0:Int)))) st))) (need (isSl v_11) (BId ((lenS v_11:Int)=(0:Int)) (BId (v_0=7) (K true st) (need (isSl v_12) (K ((decide ((lenS v_12:Int)=(0:Int)))) st))) (K false st)))) (K false st)))) (K false st)))) (BId (v_0=4) (BId (v_0=5) (BId (v_0=6) (BId (v_0=7) (K true st) (need (isSl v_12) (K ((decide ((lenS v_12:Int)=(0:Int)))) st))) (need (isSl v_11) (BId ((lenS v_11:Int)=(0:Int)) (BId (v_0=7) (K true st) (need (isSl v_12) (K ((decide ((lenS v_12:Int)=(0:Int)))) st))) (K false st)))) (need (isSl v_10) (BId ((lenS v_10:Int)=(0:Int)) (BId (v_0=6) (BId (v_0=7) (K true st) (need (isSl v_12) (K ((decide ((lenS v_12:Int)=(0:Int)))) st))) (need (isSl v_11) (BId ((lenS v_11:Int)=(0:Int)) (BId (v_0=7) (K true st) (need (isSl v_12) (K ((decide ((lenS v_12:Int)=(0:Int)))) st))) (K false st)))) (K false st)))) (BId (v_9=([]:B8)) (BId (v_0=5) (BId (v_0=6) (BId (v_0=7) (K true st) (need (isSl v_12) (K ((decide ((lenS v_12:Int)=(0:Int)))) st))) (need (isSl v_11) (BId ((lenS v_11:Int)=(0:Int)) (BId (v_0=7) (K true st) (need (isSl v_12) (K ((decide ((lenS v_12:Int)=(0:Int)))) st))) (K false st)))) (need (isSl v_10) (BId ((lenS v_10:Int)=(0:Int)) (BId (v_0=6) (BId (v_0=7) (K true st) (need (isSl v_12) (K ((decide ((lenS v_12:Int)=(0:Int)))) st))) (need (isSl v_11) (BId ((lenS v_11:Int)=(0:Int)) (BId (v_0=7) (K true st) (need (isSl v_12) (K ((decide ((lenS v_12:Int)=(0:Int)))) st))) (K false st)))) (K false st)))) (K false st)))))))):CallT PR DG [(.agg (cV v_0 v_1 v_2 v_3 v_4 v_5 v_6 v_7 v_8 v_9 v_10 v_11 v_12))] [.one .bool] st K:=
 Af (cfg:=⟨[1],[],[]⟩) (h:= .none) mixed (fun _ _=>Tryz.call113 _ _) Tryz.func113 (by kernel_rfl) (by kernel_rfl) h
theorem HH (d_0:Bool) (d_1:B8) (d_2:Int) (st:St) (K:Bool->St->Prop) (h:BId (d_1=([]:B8)) (BIf (!d_0) (K ((decide (d_2=0))) st) (K false st)) (BId ((d_1.length:Int)<=(120:Int)) (CallT PR CZ [.str d_1] [.one .bool] st (fun (b1:Bool) b=>BIf b1 (CallT PR CY [.str d_1] [.one (.int .i64)] b (fun (n1:Int) a=>BId (n1=0) (BId ((-400:Int)<=d_2) (K ((decide (d_2<=400))) a) (K false a)) (K false a))) (K false b))) (K false st))):CallT PR CX [(.agg [.bool d_0,.str d_1,.int .i64 d_2])] [.one .bool] st K:=
 Af (cfg:=⟨[1],[],[]⟩) (h:= .none) mixed (fun _ _=>Tryz.call114 _ _) Tryz.func114 (by kernel_rfl) (by kernel_rfl) h
theorem HF (t_0:Int) (t_1:Int) (t_2:Int) (t_3:Int) (st:St) (K:Bool->St->Prop) (h:BId (t_0<1) (K false st) (BId ((4:Int)<t_0) (K false st) (BId (t_1<0) (K false st) (BId ((3652058:Int)<t_1) (K false st) (BId (t_2<0) (K false st) (BId ((86399999999999:Int)<t_2) (K false st) (BId (t_3<(-1439:Int)) (K false st) (BId ((1439:Int)<t_3) (K false st) (CallT PR CV [.int .i64 t_0] [.one .bool] st (fun (b1:Bool) c=>BIf b1 (CallT PR Bw [.int .i64 t_0] [.one .bool] c (fun (b2:Bool) b=>BIf b2 (BId (t_0=4) (K true b) (K ((decide (t_3=0))) b)) (BId (t_2=0) (BId (t_0=4) (K true b) (K ((decide (t_3=0))) b)) (K false b)))) (BId (t_1=0) (CallT PR Bw [.int .i64 t_0] [.one .bool] c (fun (b3:Bool) a=>BIf b3 (BId (t_0=4) (K true a) (K ((decide (t_3=0))) a)) (BId (t_2=0) (BId (t_0=4) (K true a) (K ((decide (t_3=0))) a)) (K false a)))) (K false c)))))))))))):CallT PR CW [(.agg [.int .i64 t_0,.int .i64 t_1,.int .i64 t_2,.int .i64 t_3])] [.one .bool] st K:=
 Af (cfg:=⟨[1],[],[]⟩) (h:= .none) mixed (fun _ _=>Tryz.call115 _ _) Tryz.func115 (by kernel_rfl) (by kernel_rfl) h
theorem HY (l:TV) (st:St) (K:Int->St->Prop) (h:∃(I1:Int->TV->St->Prop) (M1:Int->TV->St->Nat),(I1 0 l st)/\∀b d g,I1 b d g->(need (isSl d) (BId (b<(lenS d:Int)) (((0<=b/\b<(lenZ 14 d:Int))/\need (isPtr (ixT 14 d b.toNat)) (Ai (Ac g [] (.t (At (ixT 14 d b.toNat) 0)) 0) (fun (x1:TV)=>AE .str x1 (fun (s1:B8)=>CallT PR AP [.str s1] [.one .bool] g (fun (b1:Bool) i=>BIf (!b1) (K 5 i) (((0<=b/\b<(lenZ 14 d:Int))/\need (isPtr (ixT 14 d b.toNat)) (Ai (Ac i [] (.t (At (ixT 14 d b.toNat) 0)) 0) (fun (x2:TV)=>AE .str x2 (fun (s2:B8)=>BId ((1024:Int)<(s2.length:Int)) (K 10 i) (∃(I2:Int->TV->Int->St->Prop) (M2:Int->TV->Int->St->Nat),(I2 0 d b i)/\∀f a c e,I2 f a c e->(BId (f<c) (((0<=f/\f<(lenZ 14 a:Int))/\need (isPtr (ixT 14 a f.toNat)) (Ai (Ac e [] (.t (At (ixT 14 a f.toNat) 0)) 0) (fun (x3:TV)=>AE .str x3 (fun (s3:B8)=>((0<=c/\c<(lenZ 14 a:Int))/\need (isPtr (ixT 14 a c.toNat)) (Ai (Ac e [] (.t (At (ixT 14 a c.toNat) 0)) 0) (fun (x4:TV)=>AE .str x4 (fun (s4:B8)=>BId (s3=s4) (K 8 e) ((I2 ((i64.wrap (f+(1:Int)))) a c e/\M2 ((i64.wrap (f+(1:Int)))) a c e<M2 f a c e))))))))))) ((I1 ((i64.wrap (c+(1:Int)))) a e/\M1 ((i64.wrap (c+(1:Int)))) a e<M1 b d g))))))))))))))) (K 0 g)))):CallT PR Br [l] [.one (.int .i64)] st K:=
 Af (cfg:=⟨[],[],[]⟩) (h:=(.seq .none (.seq (.seq .none (.block (.loop ⟨[(3,.int .i64),(0,.tv)],[],[],[]⟩ (.seq .none (.seq (.block (.seq .none (.seq .none (.seq .none (.block (.loop ⟨[(4,.int .i64),(0,.tv),(3,.int .i64)],[],[],[]⟩ .none)))))) .none))))) .none))) mixed (fun _ _=>Tryz.call116 _ _) Tryz.func116 (by kernel_rfl) (by kernel_rfl) h
theorem M5 (s:B8) (atx:Int) (st:St) (K:Int->Int->St->Prop) (h:BId (atx<0) (K 0 0 st) (BId ((s.length:Int)<=atx) (K 0 0 st) (((0<=atx/\atx<(s.length:Int))/\CallT PR Iq [(.int .u8 ((List.getD s atx.toNat 0).toNat:Int))] [.one (.int .i64),.one (.int .i64)] st (fun (n1 n2:Int) g=>BId (n1=0) (K 0 0 g) (BId ((i64.wrap ((s.length:Int)-atx))<n1) (K 0 0 g) (∃(I1:Int->Int->B8->Int->Int->St->Prop) (M1:Int->Int->B8->Int->Int->St->Nat),(I1 n2 1 s atx n1 g)/\∀d b c a e f,I1 d b c a e f->(BId (b<e) (((0<=(i64.wrap (a+b))/\(i64.wrap (a+b))<(c.length:Int))/\BId ((AN .and .u8 ((List.getD c (Int.toNat (i64.wrap (a+b))) 0).toNat:Int) (192:Int))≠(128:Int)) (K 0 0 f) ((I1 ((AN .or .i64 (i64.wrap (d*2^(min (Int.toNat (6:Int)) (IntKind.bits .i64)))) (i64.wrap (AN .and .u8 ((List.getD c (Int.toNat (i64.wrap (a+b))) 0).toNat:Int) (63:Int))))) ((i64.wrap (b+(1:Int)))) c a e f/\M1 ((AN .or .i64 (i64.wrap (d*2^(min (Int.toNat (6:Int)) (IntKind.bits .i64)))) (i64.wrap (AN .and .u8 ((List.getD c (Int.toNat (i64.wrap (a+b))) 0).toNat:Int) (63:Int))))) ((i64.wrap (b+(1:Int)))) c a e f<M1 d b c a e f)))) (CallT PR Gm [.int .i64 d] [.one .bool] f (fun (b1:Bool) j=>BIf (!b1) (K 0 0 j) (CallT PR Hf [.int .i64 d] [.one (.int .i64)] j (fun (n3:Int) i=>BId (n3≠e) (K 0 0 i) (K d e i))))))))))))):CallT PR Gn [.str s,.int .i64 atx] [.one (.int .i64),.one (.int .i64)] st K:=
 Af (cfg:=⟨[],[],[]⟩) (h:=(.seq .none (.seq .none (.seq .none (.seq .none (.seq (.seq .none (.block (.loop ⟨[(4,.int .i64),(7,.int .i64),(0,.str),(1,.int .i64),(6,.int .i64)],[],[],[]⟩ .none))) .none)))))) mixed (fun _ _=>Tryz.call117 _ _) Tryz.func117 (by kernel_rfl) (by kernel_rfl) h
theorem LS (v_0:Int) (v_1:Bool) (v_2:Bool) (v_3:B8) (v_4:Int) (v_5:Int) (v_6:Int) (v_7:Int) (v_8:Int) (v_9:B8) (v_10:TV) (v_11:TV) (v_12:TV) (s_0:Bool) (s_1:B8) (s_2:Int) (st:St) (K:Bool->St->Prop) (h:BIf s_0 (K ((decide (v_0=6))) st) (K ((decide (v_0=7))) st)):CallT PR Ir [(.agg (cV v_0 v_1 v_2 v_3 v_4 v_5 v_6 v_7 v_8 v_9 v_10 v_11 v_12)),(.agg [.bool s_0,.str s_1,.int .i64 s_2])] [.one .bool] st K:=
 Af (cfg:=⟨[2,3],[],[]⟩) (h:= .none) mixed (fun _ _=>Tryz.call118 _ _) Tryz.func118 (by kernel_rfl) (by kernel_rfl) h
theorem Lk (v_0:Int) (c:Bool) (v_2:Bool) (v_3:B8) (v_4:Int) (v_5:Int) (v_6:Int) (v_7:Int) (v_8:Int) (v_9:B8) (v_10:TV) (v_11:TV) (v_12:TV) (key:B8) (st:St) (K:Int->St->Prop) (h:need (isSl v_12) (∃(I1:Int->B8->TV->Int->St->Prop) (M1:Int->B8->TV->Int->St->Nat),(I1 0 key v_12 ((lenS v_12:Int)) st)/\∀b a c e d,I1 b a c e d->(BId (b<e) (((0<=b/\b<(lenZ 14 c:Int))/\Ai ((Al d [] (.t (ixT 14 c b.toNat)) 0 14).map TV.agg) (fun (x1:TV)=>BG [.str,.int .i64,.bool,.bool,.str,.int .i64,.int .i64,.int .i64,.int .i64,.int .i64,.str,.tv,.tv,.tv] x1 (fun (s1:B8) (n1:Int) (b1 b2:Bool) (s2:B8) (n2 n3 n4 n5 n6:Int) (s3:B8) (v1 v2 v3:TV)=>need (List.all [.str s1,.int .i64 n1,.bool b1,.bool b2,.str s2,.int .i64 n2,.int .i64 n3,.int .i64 n4,.int .i64 n5,.int .i64 n6,.str s3,v1,v2,v3] Ah) (BId (s1=a) (K b d) ((I1 ((i64.wrap (b+(1:Int)))) a c e d/\M1 ((i64.wrap (b+(1:Int)))) a c e d<M1 b a c e d))))))) (K (-1) d)))):CallT PR EV [(.agg (cV v_0 c v_2 v_3 v_4 v_5 v_6 v_7 v_8 v_9 v_10 v_11 v_12)),.str key] [.one (.int .i64)] st K:=
 Af (cfg:=⟨[2,6],[],[]⟩) (h:=(.seq .none (.seq (.seq .none (.block (.loop ⟨[(10,.int .i64),(1,.str),(8,.tv),(9,.int .i64)],[],[],[]⟩ .none))) .none))) mixed (fun _ _=>Tryz.call119 _ _) Tryz.func119 (by kernel_rfl) (by kernel_rfl) h
theorem GX (s:B8) (atx:Int) (st:St) (K:Int->Int->St->Prop) (h:BId (atx<0) (K 0 0 st) (BId ((s.length:Int)<=atx) (K 0 0 st) (((0<=atx/\atx<(s.length:Int))/\∃(C1:Int->Int->B8->Int->St->Prop),(BId ((240:Int)<=(i64.wrap ((List.getD s atx.toNat 0).toNat:Int))) (C1 4 ((AN .and .i64 (i64.wrap ((List.getD s atx.toNat 0).toNat:Int)) (7:Int))) s atx st) (BId ((224:Int)<=(i64.wrap ((List.getD s atx.toNat 0).toNat:Int))) (C1 3 ((AN .and .i64 (i64.wrap ((List.getD s atx.toNat 0).toNat:Int)) (15:Int))) s atx st) (BId ((192:Int)<=(i64.wrap ((List.getD s atx.toNat 0).toNat:Int))) (C1 2 ((AN .and .i64 (i64.wrap ((List.getD s atx.toNat 0).toNat:Int)) (31:Int))) s atx st) (C1 1 ((i64.wrap ((List.getD s atx.toNat 0).toNat:Int))) s atx st))))/\∀e m k i j,C1 e m k i j->(BId ((i64.wrap ((k.length:Int)-i))<e) (K 0 0 j) (∃(I1:Int->Int->B8->Int->Int->St->Prop) (M1:Int->Int->B8->Int->Int->St->Nat),(I1 m 1 k i e j)/\∀f c d b a g,I1 f c d b a g->(BId (c<a) (((0<=(i64.wrap (b+c))/\(i64.wrap (b+c))<(d.length:Int))/\(I1 ((AN .or .i64 (i64.wrap (f*2^(min (Int.toNat (6:Int)) (IntKind.bits .i64)))) (AN .and .i64 (i64.wrap ((List.getD d (Int.toNat (i64.wrap (b+c))) 0).toNat:Int)) (63:Int)))) ((i64.wrap (c+(1:Int)))) d b a g/\M1 ((AN .or .i64 (i64.wrap (f*2^(min (Int.toNat (6:Int)) (IntKind.bits .i64)))) (AN .and .i64 (i64.wrap ((List.getD d (Int.toNat (i64.wrap (b+c))) 0).toNat:Int)) (63:Int)))) ((i64.wrap (c+(1:Int)))) d b a g<M1 f c d b a g))) (CallT PR BL [.int .i64 f] [.one .str,.one (.int .i64)] g (fun (s1:B8) (n1:Int) l=>BId (n1≠0) (K 0 0 l) (((0<=b/\b<=(i64.wrap (b+a))/\(i64.wrap (b+a))<=(d.length:Int))/\BId (s1≠(List.drop b.toNat (List.take (Int.toNat (i64.wrap (b+a))) d))) (K 0 0 l) (K f a l)))))))))))):CallT PR BM [.str s,.int .i64 atx] [.one (.int .i64),.one (.int .i64)] st K:=
 Af (cfg:=⟨[],[],[]⟩) (h:=(.seq .none (.seq .none (.seq .none (.seq .none (.cut ⟨[(7,.int .i64),(8,.int .i64),(0,.str),(1,.int .i64)],[],[],[]⟩ .none (.seq .none (.seq (.seq .none (.block (.loop ⟨[(8,.int .i64),(9,.int .i64),(0,.str),(1,.int .i64),(7,.int .i64)],[],[],[]⟩ .none))) .none)))))))) mixed (fun _ _=>Tryz.call120 _ _) Tryz.func120 (by kernel_rfl) (by kernel_rfl) h
theorem MW (v_0:Int) (a:Bool) (v_2:Bool) (v_3:B8) (v_4:Int) (v_5:Int) (v_6:Int) (v_7:Int) (v_8:Int) (v_9:B8) (v_10:TV) (v_11:TV) (v_12:TV) (st:St) (K:TV->St->Prop) (h:CallT PR A3 [v_11] [.one .tv] st (fun (v1:TV) g=>need (isSl v_12) (∃(I1:TV->Int->TV->Int->St->Prop) (M1:TV->Int->TV->Int->St->Nat),(I1 v1 0 v_12 ((lenS v_12:Int)) g)/\∀e b a d c,I1 e b a d c->(BId (b<d) (((0<=b/\b<(lenZ 14 a:Int))/\Ai ((Al c [] (.t (ixT 14 a b.toNat)) 0 14).map TV.agg) (fun (x1:TV)=>BG [.str,.int .i64,.bool,.bool,.str,.int .i64,.int .i64,.int .i64,.int .i64,.int .i64,.str,.tv,.tv,.tv] x1 (fun (s1:B8) (n1:Int) (b1 b2:Bool) (s2:B8) (n2 n3 n4 n5 n6:Int) (s3:B8) (v2 v3 v4:TV)=>need (List.all [.str s1,.int .i64 n1,.bool b1,.bool b2,.str s2,.int .i64 n2,.int .i64 n3,.int .i64 n4,.int .i64 n5,.int .i64 n6,.str s3,v2,v3,v4] Ah) (need (List.all (cV n1 b1 b2 s2 n2 n3 n4 n5 n6 s3 v2 v3 v4) Ah) (Cl 33 13 168 e 1 (cV n1 b1 b2 s2 n2 n3 n4 n5 n6 s3 v2 v3 v4) c (fun (v5:TV) f=>(I1 v5 ((i64.wrap (b+(1:Int)))) a d f/\M1 v5 ((i64.wrap (b+(1:Int)))) a d f<M1 e b a d c)))))))) (K e c))))):CallT PR Ey [(.agg (cV v_0 a v_2 v_3 v_4 v_5 v_6 v_7 v_8 v_9 v_10 v_11 v_12))] [.one .tv] st K:=
 Af (cfg:=⟨[1,5],[],[]⟩) (h:=(.seq .none (.seq .none (.seq (.seq .none (.block (.loop ⟨[(3,.tv),(12,.int .i64),(10,.tv),(11,.int .i64)],[],[],[]⟩ .none))) .none)))) mixed (fun _ _=>Tryz.call123 _ _) Tryz.func123 (by kernel_rfl) (by kernel_rfl) h
theorem M7 (s:B8) (st:St) (K:Bool->St->Prop) (h:∃(I1:Int->B8->Int->St->Prop) (M1:Int->B8->Int->St->Nat),(I1 0 s ((s.length:Int)) st)/\∀a b d c,I1 a b d c->(BId (a<d) (((0<=a/\a<(b.length:Int))/\BId (((List.getD b a.toNat 0).toNat:Int)<(48:Int)) (K false c) (((0<=a/\a<(b.length:Int))/\BId ((57:Int)<((List.getD b a.toNat 0).toNat:Int)) (K false c) ((I1 ((i64.wrap (a+(1:Int)))) b d c/\M1 ((i64.wrap (a+(1:Int)))) b d c<M1 a b d c)))))) (K true c))):CallT PR Gp [.str s] [.one .bool] st K:=
 Af (cfg:=⟨[],[],[]⟩) (h:=(.seq .none (.seq (.seq .none (.block (.loop ⟨[(6,.int .i64),(0,.str),(5,.int .i64)],[],[],[]⟩ .none))) .none))) mixed (fun _ _=>Tryz.call125 _ _) Tryz.func125 (by kernel_rfl) (by kernel_rfl) h
theorem HJ (s:B8) (st:St) (K:Bool->St->Prop) (h:BId ((s.length:Int)<=(600:Int)) (CallT PR CE [.str s] [.one .bool] st (fun (b1:Bool) a=>BIf b1 (BId ((s.length:Int)=(0:Int)) (K true a) (((0<=(0:Int)/\(0:Int)<(s.length:Int))/\K ((decide (((List.getD s (Int.toNat (0:Int)) 0).toNat:Int)≠(48:Int)))) a))) (K false a))) (K false st)):CallT PR CZ [.str s] [.one .bool] st K:=
 Af (cfg:=⟨[],[],[]⟩) (h:= .none) mixed (fun _ _=>Tryz.call127 _ _) Tryz.func127 (by kernel_rfl) (by kernel_rfl) h
theorem HI (a:B8) (st:St) (K:Int->St->Prop) (h:∃(I1:Int->B8->St->Prop) (M1:Int->B8->St->Nat),(I1 0 a st)/\∀b c d,I1 b c d->(BId (b<(c.length:Int)) (((0<=(i64.wrap ((i64.wrap ((c.length:Int)-(1:Int)))-b))/\(i64.wrap ((i64.wrap ((c.length:Int)-(1:Int)))-b))<(c.length:Int))/\BId (((List.getD c (Int.toNat (i64.wrap ((i64.wrap ((c.length:Int)-(1:Int)))-b))) 0).toNat:Int)=(48:Int)) ((I1 ((i64.wrap (b+(1:Int)))) c d/\M1 ((i64.wrap (b+(1:Int)))) c d<M1 b c d)) (K b d))) (K b d))):CallT PR CY [.str a] [.one (.int .i64)] st K:=
 Af (cfg:=⟨[],[],[]⟩) (h:=(.seq .none (.seq .none (.seq (.block (.loop ⟨[(3,.int .i64),(0,.str)],[],[],[]⟩ .none)) .none)))) mixed (fun _ _=>Tryz.call128 _ _) Tryz.func128 (by kernel_rfl) (by kernel_rfl) h
theorem HE (kind:Int) (st:St) (K:Bool->St->Prop) (h:BId (kind=1) (K true st) (BId (kind=3) (K true st) (K ((decide (kind=4))) st))):CallT PR CV [.int .i64 kind] [.one .bool] st K:=
 Af (cfg:=⟨[],[],[]⟩) (h:= .none) mixed (fun _ _=>Tryz.call129 _ _) Tryz.func129 (by kernel_rfl) (by kernel_rfl) h
theorem Gz (kind:Int) (st:St) (K:Bool->St->Prop) (h:BId (kind=2) (K true st) (BId (kind=3) (K true st) (K ((decide (kind=4))) st))):CallT PR Bw [.int .i64 kind] [.one .bool] st K:=
 Af (cfg:=⟨[],[],[]⟩) (h:= .none) mixed (fun _ _=>Tryz.call130 _ _) Tryz.func130 (by kernel_rfl) (by kernel_rfl) h
theorem Pm (b:Int) (st:St) (K:Int->Int->St->Prop) (h:BId (b<128) (K 1 ((i64.wrap b)) st) (BId ((192:Int)<=b) (BId (b<224) (K 2 ((i64.wrap (AN .and .u8 b (31:Int)))) st) (BId ((224:Int)<=b) (BId (b<240) (K 3 ((i64.wrap (AN .and .u8 b (15:Int)))) st) (BId ((240:Int)<=b) (BId (b<248) (K 4 ((i64.wrap (AN .and .u8 b (7:Int)))) st) (K 0 0 st)) (K 0 0 st))) (BId ((240:Int)<=b) (BId (b<248) (K 4 ((i64.wrap (AN .and .u8 b (7:Int)))) st) (K 0 0 st)) (K 0 0 st)))) (BId ((224:Int)<=b) (BId (b<240) (K 3 ((i64.wrap (AN .and .u8 b (15:Int)))) st) (BId ((240:Int)<=b) (BId (b<248) (K 4 ((i64.wrap (AN .and .u8 b (7:Int)))) st) (K 0 0 st)) (K 0 0 st))) (BId ((240:Int)<=b) (BId (b<248) (K 4 ((i64.wrap (AN .and .u8 b (7:Int)))) st) (K 0 0 st)) (K 0 0 st))))):CallT PR Iq [.int .u8 b] [.one (.int .i64),.one (.int .i64)] st K:=
 Af (cfg:=⟨[],[],[]⟩) (h:= .none) mixed (fun _ _=>Tryz.call131 _ _) Tryz.func131 (by kernel_rfl) (by kernel_rfl) h
theorem M4 (r:Int) (st:St) (K:Bool->St->Prop) (h:BId ((0:Int)<=r) (BId (r<=1114111) (BId (r<55296) (K true st) (K ((decide ((57343:Int)<r))) st)) (K false st)) (K false st)):CallT PR Gm [.int .i64 r] [.one .bool] st K:=
 Af (cfg:=⟨[],[],[]⟩) (h:= .none) mixed (fun _ _=>Tryz.call132 _ _) Tryz.func132 (by kernel_rfl) (by kernel_rfl) h
theorem Ol (r:Int) (st:St) (K:Int->St->Prop) (h:BId (r<128) (K 1 st) (BId (r<2048) (K 2 st) (BId (r<65536) (K 3 st) (K 4 st)))):CallT PR Hf [.int .i64 r] [.one (.int .i64)] st K:=
 Af (cfg:=⟨[],[],[]⟩) (h:= .none) mixed (fun _ _=>Tryz.call133 _ _) Tryz.func133 (by kernel_rfl) (by kernel_rfl) h
theorem GW (r:Int) (st:St) (K:B8->Int->St->Prop) (h:CallT PR B5 [.int .i64 r] [.one .bool] st (fun (b1:Bool) a=>BIf (!b1) (K [] 2 a) (BId (r<128) (Ai ((DQ a (.list 1 .full 1 [(.int .u8 (u8.wrap r))])).map TV.str) (fun (x1:TV)=>AE .str x1 (fun (s1:B8)=>K s1 0 a))) (BId (r<2048) (Ai ((DQ a (.list 1 .full 2 [(.int .u8 (u8.wrap (AN .or .i64 (192:Int) (Int.fdiv r (2^(min (Int.toNat (6:Int)) (IntKind.bits .i64))))))),(.int .u8 (u8.wrap (AN .or .i64 (128:Int) (AN .and .i64 r (63:Int)))))])).map TV.str) (fun (x2:TV)=>AE .str x2 (fun (s2:B8)=>K s2 0 a))) (BId (r<65536) (Ai ((DQ a (.list 1 .full 3 [(.int .u8 (u8.wrap (AN .or .i64 (224:Int) (Int.fdiv r (2^(min (Int.toNat (12:Int)) (IntKind.bits .i64))))))),(.int .u8 (u8.wrap (AN .or .i64 (128:Int) (AN .and .i64 (Int.fdiv r (2^(min (Int.toNat (6:Int)) (IntKind.bits .i64)))) (63:Int))))),(.int .u8 (u8.wrap (AN .or .i64 (128:Int) (AN .and .i64 r (63:Int)))))])).map TV.str) (fun (x3:TV)=>AE .str x3 (fun (s3:B8)=>K s3 0 a))) (Ai ((DQ a (.list 1 .full 4 [(.int .u8 (u8.wrap (AN .or .i64 (240:Int) (Int.fdiv r (2^(min (Int.toNat (18:Int)) (IntKind.bits .i64))))))),(.int .u8 (u8.wrap (AN .or .i64 (128:Int) (AN .and .i64 (Int.fdiv r (2^(min (Int.toNat (12:Int)) (IntKind.bits .i64)))) (63:Int))))),(.int .u8 (u8.wrap (AN .or .i64 (128:Int) (AN .and .i64 (Int.fdiv r (2^(min (Int.toNat (6:Int)) (IntKind.bits .i64)))) (63:Int))))),(.int .u8 (u8.wrap (AN .or .i64 (128:Int) (AN .and .i64 r (63:Int)))))])).map TV.str) (fun (x4:TV)=>AE .str x4 (fun (s4:B8)=>K s4 0 a)))))))):CallT PR BL [.int .i64 r] [.one .str,.one (.int .i64)] st K:=
 Af (cfg:=⟨[],[],[]⟩) (h:= .none) mixed (fun _ _=>Tryz.call134 _ _) Tryz.func134 (by kernel_rfl) (by kernel_rfl) h
theorem C9 (s:TV) (st:St) (K:TV->St->Prop) (h:need (isSl s) (BIf (CN s) (K .nilSlice st) (Ai (Cu st 13 s) (fun (q1:Nat×List TV)=>need (List.all q1.2 Ah) (Cl 33 13 168 (.list 13 .full 0 []) q1.1 q1.2 st (fun (v1:TV) a=>K v1 a)))))):CallT PR A3 [s] [.one .tv] st K:=
 Af (cfg:=⟨[],[],[]⟩) (h:= .none) mixed (fun _ _=>Tryz.call138 _ _) Tryz.func138 (by kernel_rfl) (by kernel_rfl) h
theorem GY (s:B8) (st:St) (K:Bool->St->Prop) (h:∃(I1:Int->B8->St->Prop) (M1:Int->B8->St->Nat),(I1 0 s st)/\∀a b c,I1 a b c->(BId (a<(b.length:Int)) (((0<=a/\a<(b.length:Int))/\BId (((List.getD b a.toNat 0).toNat:Int)<(48:Int)) (K false c) (((0<=a/\a<(b.length:Int))/\BId ((57:Int)<((List.getD b a.toNat 0).toNat:Int)) (K false c) ((I1 ((i64.wrap (a+(1:Int)))) b c/\M1 ((i64.wrap (a+(1:Int)))) b c<M1 a b c)))))) (K true c))):CallT PR CE [.str s] [.one .bool] st K:=
 Af (cfg:=⟨[],[],[]⟩) (h:=(.seq .none (.seq (.seq .none (.block (.loop ⟨[(3,.int .i64),(0,.str)],[],[],[]⟩ .none))) .none))) mixed (fun _ _=>Tryz.call143 _ _) Tryz.func143 (by kernel_rfl) (by kernel_rfl) h
theorem FT (r:Int) (st:St) (K:Bool->St->Prop) (h:BId ((0:Int)<=r) (BId (r<=1114111) (BId (r<55296) (K true st) (K ((decide ((57343:Int)<r))) st)) (K false st)) (K false st)):CallT PR B5 [.int .i64 r] [.one .bool] st K:=
 Af (cfg:=⟨[],[],[]⟩) (h:= .none) mixed (fun _ _=>Tryz.call144 _ _) Tryz.func144 (by kernel_rfl) (by kernel_rfl) h
section
structure Sc where
 kind:Int
 b:Bool
 neg:Bool
 dg:B8
 ex:Int
 tk:Int
 td:Int
 tn:Int
 tz:Int
 text:B8
 bytes:B8
mutual
inductive Vl where
 | mk (s:Sc) (l:List Vl) (f:List Fd)
inductive Fd where
 | mk (k:B8) (v:Vl)
end
def Vl.sc:Vl->Sc | .mk s _ _=>s
def Vl.list:Vl->List Vl | .mk _ l _=>l
def Vl.flds:Vl->List Fd | .mk _ _ f=>f
def Fd.key:Fd->B8 | .mk k _=>k
def Fd.val:Fd->Vl | .mk _ v=>v
def SlR (st:St) (sz:Nat) (v:TV) (n:Nat) (xs:List TV):Prop:=
 Rd sz v n xs∨∃b off cap l,v= .ms sz b off n cap/\b<st.nb/\st.box b= .cells l/\off+cap*sz<=l.length/\n<=cap/\xs=(l.drop off).take (n*sz)
theorem SlR.of_rd {st:St} {sz n:Nat} {v:TV} {xs:List TV} (h:Rd sz v n xs):SlR st sz v n xs:= .inl h
def Bm (st st':St):Prop:=st.nb<=st'.nb/\∀b,b<st.nb->st'.box b=st.box b
theorem SlR.keep {st st':St} (k:Bm st st') {sz n:Nat} {v:TV} {xs:List TV} (h:SlR st sz v n xs):SlR st' sz v n xs:=by
 rcases h with h | ⟨b,off,cap,l,h1,h2,h3,h4,h5,h6⟩
 ·exact .inl h
 ·exact .inr ⟨b,off,cap,l,h1,Nat.lt_of_lt_of_le h2 k.1,(k.2 b h2).trans h3,h4,h5,h6⟩
mutual
def VlR (st:St):Vl->List TV->Prop
 | .mk s l f,cs=>∃ub ul uf xl xf,cs=[.int .i64 s.kind,.bool s.b,.bool s.neg,.str s.dg,.int .i64 s.ex,.int .i64 s.tk,.int .i64 s.td,.int .i64 s.tn,.int .i64 s.tz,.str s.text,ub,ul,uf]/\
   SlR st 1 ub s.bytes.length (AR s.bytes)/\SlR st 13 ul l.length xl/\VsR st l xl/\SlR st 14 uf f.length xf/\FsR st f xf
def VsR (st:St):List Vl->List TV->Prop
 | [],xs=>xs=[]
 | v::r,xs=>∃a b,xs=a++b/\VlR st v a/\VsR st r b
def FdR (st:St):Fd->List TV->Prop
 | .mk k v,xs=>∃cs,xs= .str k::cs/\VlR st v cs
def FsR (st:St):List Fd->List TV->Prop
 | [],xs=>xs=[]
 | d::r,xs=>∃a b,xs=a++b/\FdR st d a/\FsR st r b
end
mutual
theorem VlR.keep {st st':St} (k:Bm st st'):∀{v:Vl} {cs:List TV},VlR st v cs->VlR st' v cs
 | .mk s l f,cs,h=>by
  unfold VlR at h⊢
  obtain⟨ub,ul,uf,xl,xf,h0,h1,h2,h3,h4,h5⟩:=h
  exact⟨ub,ul,uf,xl,xf,h0,h1.keep k,h2.keep k,VsR.keep k h3,h4.keep k,FsR.keep k h5⟩
theorem VsR.keep {st st':St} (k:Bm st st'):∀{l:List Vl} {cs:List TV},VsR st l cs->VsR st' l cs
 | [],cs,h=>by unfold VsR at h⊢;exact h
 | v::r,cs,h=>by
  unfold VsR at h⊢
  obtain⟨a,b,h0,h1,h2⟩:=h
  exact⟨a,b,h0,VlR.keep k h1,VsR.keep k h2⟩
theorem FdR.keep {st st':St} (k:Bm st st'):∀{d:Fd} {cs:List TV},FdR st d cs->FdR st' d cs
 | .mk key v,cs,h=>by
  unfold FdR at h⊢
  obtain⟨c,h0,h1⟩:=h
  exact⟨c,h0,VlR.keep k h1⟩
theorem FsR.keep {st st':St} (k:Bm st st'):∀{l:List Fd} {cs:List TV},FsR st l cs->FsR st' l cs
 | [],cs,h=>by unfold FsR at h⊢;exact h
 | d::r,cs,h=>by
  unfold FsR at h⊢
  obtain⟨a,b,h0,h1,h2⟩:=h
  exact⟨a,b,h0,FdR.keep k h1,FsR.keep k h2⟩
end
theorem VlR.len {st:St} {v:Vl} {cs:List TV} (h:VlR st v cs):cs.length=13:=by
 cases v;unfold VlR at h;obtain⟨ub,ul,uf,xl,xf,rfl,_⟩:=h;rfl
theorem FdR.len {st:St} {v:Fd} {cs:List TV} (h:FdR st v cs):cs.length=14:=by
 cases v;unfold FdR at h;obtain⟨c,rfl,h⟩:=h;simp[h.len]
theorem VsR.len {st:St}:∀{l:List Vl} {xs:List TV},VsR st l xs->xs.length=l.length*13
 | [],xs,h=>by unfold VsR at h;subst h;rfl
 | v::r,xs,h=>by
  unfold VsR at h
  obtain⟨a,b,rfl,h1,h2⟩:=h
  rw[List.length_append,h1.len,VsR.len h2,List.length_cons];omega
theorem FsR.len {st:St}:∀{l:List Fd} {xs:List TV},FsR st l xs->xs.length=l.length*14
 | [],xs,h=>by unfold FsR at h;subst h;rfl
 | v::r,xs,h=>by
  unfold FsR at h
  obtain⟨a,b,rfl,h1,h2⟩:=h
  rw[List.length_append,h1.len,FsR.len h2,List.length_cons];omega
theorem VsR.get {st:St}:∀{l:List Vl} {xs:List TV} {i:Nat} {v:Vl},VsR st l xs->l[i]? =some v->∃cs,VlR st v cs/\(xs.drop (i*13)).take 13=cs/\cs.length=13
 | [],xs,i,v,h,hi=>by simp at hi
 | w::r,xs,i,v,h,hi=>by
  unfold VsR at h
  obtain⟨a,b,rfl,h1,h2⟩:=h
  cases i with
  | zero=>
   simp only[List.getElem?_cons_zero,Option.some.injEq]at hi
   subst hi
   refine⟨a,h1,?_,h1.len⟩
   rw[Nat.zero_mul,List.drop_zero,<-h1.len,List.take_left]
  | succ i=>
   obtain⟨cs,h3,h4,h5⟩:=VsR.get h2 (by simpa using hi)
   refine⟨cs,h3,?_,h5⟩
   rw[show(i+1)*13=a.length+i*13 by rw[h1.len];omega,List.drop_append]
   simp only[Nat.add_sub_cancel_left]
   rw[List.drop_of_length_le (by omega),List.nil_append];exact h4
theorem FsR.get {st:St}:∀{l:List Fd} {xs:List TV} {i:Nat} {v:Fd},FsR st l xs->l[i]? =some v->∃cs,FdR st v cs/\(xs.drop (i*14)).take 14=cs/\cs.length=14
 | [],xs,i,v,h,hi=>by simp at hi
 | w::r,xs,i,v,h,hi=>by
  unfold FsR at h
  obtain⟨a,b,rfl,h1,h2⟩:=h
  cases i with
  | zero=>
   simp only[List.getElem?_cons_zero,Option.some.injEq]at hi
   subst hi
   refine⟨a,h1,?_,h1.len⟩
   rw[Nat.zero_mul,List.drop_zero,<-h1.len,List.take_left]
  | succ i=>
   obtain⟨cs,h3,h4,h5⟩:=FsR.get h2 (by simpa using hi)
   refine⟨cs,h3,?_,h5⟩
   rw[show(i+1)*14=a.length+i*14 by rw[h1.len];omega,List.drop_append]
   simp only[Nat.add_sub_cancel_left]
   rw[List.drop_of_length_le (by omega),List.nil_append];exact h4
mutual
def Vl.cnt:Vl->Nat
 | .mk _ l f=>1+AF l+AI f
def AF:List Vl->Nat
 | []=>0
 | v::r=>v.cnt+AF r
def Fd.cnt:Fd->Nat
 | .mk _ v=>v.cnt
def AI:List Fd->Nat
 | []=>0
 | d::r=>d.cnt+AI r
end
end
structure StX (S:Nat->Prop) (a b:St):Prop where
 nb:a.nb<=b.nb
 box:∀i,i<a.nb->¬S i->b.box i=a.box i
 nt:a.nt<=b.nt
 live:∀i,i<a.nt->b.live i=a.live i
 ty:∀i,i<a.nt->b.ty i=a.ty i
 bt:∀i,i<a.nb->b.bt i=a.bt i
theorem StX.trans {S:Nat->Prop} {a b c:St} (h:StX S a b) (k:StX S b c):StX S a c:=
 ⟨Nat.le_trans h.nb k.nb,fun i hi hs=>(k.box i (Nat.lt_of_lt_of_le hi h.nb) hs).trans (h.box i hi hs),Nat.le_trans h.nt k.nt,fun i hi=>(k.live i (Nat.lt_of_lt_of_le hi h.nt)).trans (h.live i hi),fun i hi=>(k.ty i (Nat.lt_of_lt_of_le hi h.nt)).trans (h.ty i hi),fun i hi=>(k.bt i (Nat.lt_of_lt_of_le hi h.nb)).trans (h.bt i hi)⟩
theorem StX.of {S:Nat->Prop} {a b:St} (h:Aj a b):StX S a b:=⟨h.nb,fun i hi _=>h.box i hi,h.nt,h.live,h.ty,h.bt⟩
theorem StX.ext {S:Nat->Prop} {a b c:St} (h:Aj a b) (k:StX S b c) (hs:∀i,S i->a.nb<=i):Aj a c:=
 ⟨Nat.le_trans h.nb k.nb,fun i hi=>(k.box i (Nat.lt_of_lt_of_le hi h.nb) fun g=>absurd (hs i g) (by omega)).trans (h.box i hi),Nat.le_trans h.nt k.nt,fun i hi=>(k.live i (Nat.lt_of_lt_of_le hi h.nt)).trans (h.live i hi),fun i hi=>(k.ty i (Nat.lt_of_lt_of_le hi h.nt)).trans (h.ty i hi),fun i hi=>(k.bt i (Nat.lt_of_lt_of_le hi h.nb)).trans (h.bt i hi)⟩
theorem StX.put {S:Nat->Prop} {a:St} {i:Nat} (hi:S i) (o:Kj):StX S a (a.put i o):=
 ⟨Nat.le_refl _,fun j hj hs=>by simp only[St.put];rw[if_neg (by rintro rfl;exact hs hi)],Nat.le_refl _,fun _ _=>rfl,fun _ _=>rfl,fun _ _=>rfl⟩
def CkK (k:B8) (cs:List TV):Prop:=∃(n1:Int) (b1 b2:Bool) (s2:B8) (n2 n3 n4 n5 n6:Int) (s3:B8) (u1 u2 u3:TV),
 cs=[.str k,.int .i64 n1,.bool b1,.bool b2,.str s2,.int .i64 n2,.int .i64 n3,.int .i64 n4,.int .i64 n5,.int .i64 n6,.str s3,u1,u2,u3]/\Ah u1=true/\Ah u2=true/\Ah u3=true
def Ck (cs:List TV):Prop:=∃k,CkK k cs
theorem Ck.one {cs:List TV} (h:Ck cs):List.all cs Ah=true:=by
 obtain⟨k,n1,b1,b2,s2,n2,n3,n4,n5,n6,s3,u1,u2,u3,rfl,h1,h2,h3⟩:=h
 simp[Ah]at h1 h2 h3⊢
 simp[h1,h2,h3]
theorem UR {k:B8} {n1:Int} {b1 b2:Bool} {s2:B8} {n2 n3 n4 n5 n6:Int} {s3:B8} {u1 u2 u3:TV} {f:Fun [.str,.int .i64,.bool,.bool,.str,.int .i64,.int .i64,.int .i64,.int .i64,.int .i64,.str,.tv,.tv,.tv] Prop} (h:f k n1 b1 b2 s2 n2 n3 n4 n5 n6 s3 u1 u2 u3):
  BG [.str,.int .i64,.bool,.bool,.str,.int .i64,.int .i64,.int .i64,.int .i64,.int .i64,.str,.tv,.tv,.tv] (.agg [.str k,.int .i64 n1,.bool b1,.bool b2,.str s2,.int .i64 n2,.int .i64 n3,.int .i64 n4,.int .i64 n5,.int .i64 n6,.str s3,u1,u2,u3]) f:=h
theorem Jr:∀(ys A c B:List TV),ys.length=c.length->setAll (A++c++B) A.length ys=A++ys++B
 | [],A,c,B,h=>by
  have:c=[]:=List.eq_nil_of_length_eq_zero (by simpa using h.symm)
  subst this;rfl
 | y::ys,A,[],B,h=>by simp at h
 | y::ys,A,x::c,B,h=>by
  rw[setAll]
  have e:(A++x::c++B).set A.length y=(A++[y])++c++B:=by simp
  rw[e]
  have:=Jr ys (A++[y]) c B (by simpa using h)
  rw[List.length_append]at this
  rw[show A.length+1=A.length+ [y].length from rfl,this]
  simp
theorem J6 {st:St} {b:Nat} {B:List TV}:∀(c:List TV) (l:List TV) (j o:Nat),st.box b= .cells l->l.drop (o+j)=c++B->Al st [] (.t (.box b o)) j c.length=some c
 | [],l,j,o,h,hd=>rfl
 | x::c,l,j,o,h,hd=>by
  have hx:l[o+j]? =some x:=by
   have:=congrArg (fun z:List TV=>z[0]?) hd
   simpa using this
  have hd2:l.drop (o+(j+1))=c++B:=by
   have:=congrArg (fun z:List TV=>z.drop 1) hd
   simpa [List.drop_drop,Nat.add_assoc]using this
  show(match Ac st [] (.t (.box b o)) j with | some x=>(Al st [] (.t (.box b o)) (j+1) c.length).map (x::·) | none=>none)=_
  have:Ac st [] (.t (.box b o)) j=some x:=by simp only[Ac,h];exact hx
  rw[this]
  simp only
  rw[J6 c l (j+1) o h hd2];rfl
section
section
variable {st:St} {b n cap:Nat} {cks:List (List TV)}
def keyOf (c:List TV):B8:=match c with | .str k::_=>k | _=>[]
end
end
theorem Ih {g:Ghost} {w:World} {l:B8} {v:Value} (h:Rel g w (.str l) v):v= .string ⟨l.toArray⟩:=by cases h;rfl
theorem TU {g:Ghost} {w:World} {x:TV} {vs:List Value} (h:AH g w [x] vs):∃v,vs=[v]/\Rel g w x v:=by
 obtain⟨v,h1,h2⟩:=h.get? (i:=0) rfl
 have:=h.1
 cases vs with
 | nil=>simp at this
 | cons a r=>cases r with
  | nil=>simp at h1;subst h1;exact⟨_,rfl,h2⟩
  | cons b r=>simp at this
theorem TT {g:Ghost} {w:World} {x y:TV} {vs:List Value} (h:AH g w [x,y] vs):∃v u,vs=[v,u]/\Rel g w x v/\Rel g w y u:=by
 obtain⟨v,h1,h2⟩:=h.get? (i:=0) rfl
 obtain⟨u,h3,h4⟩:=h.get? (i:=1) rfl
 have:=h.1
 cases vs with
 | nil=>simp at this
 | cons a r=>cases r with
  | nil=>simp at this
  | cons b r=>cases r with
   | nil=>simp at h1 h3;subst h1 h3;exact⟨_,_,rfl,h2,h4⟩
   | cons c r=>simp at this
section
inductive Ns {α β:Type} (R:α->β->Prop):List α->List β->Prop
 | nil:Ns R [] []
 | cons {a:α} {b:β} {l:List α} {m:List β}:R a b->Ns R l m->Ns R (a::l) (b::m)
theorem FsR.chunks {st:St}:∀{f:List Fd} {xs:List TV},FsR st f xs->∃cks:List (List TV),xs=cks.flatten/\Ns (FdR st) f cks
 | [],xs,h=>by unfold FsR at h;subst h;exact⟨[],rfl,.nil⟩
 | d::r,xs,h=>by
  unfold FsR at h
  obtain⟨a,b,rfl,h1,h2⟩:=h
  obtain⟨cks,rfl,h3⟩:=FsR.chunks h2
  exact⟨a::cks,by simp,.cons h1 h3⟩
theorem FsR.of_chunks {st:St} {f:List Fd} {cks:List (List TV)} (h:Ns (FdR st) f cks):FsR st f cks.flatten:=by
 induction h with
 | nil=>unfold FsR;rfl
 | cons r _ ih=>unfold FsR;exact⟨_,_,by simp,r,ih⟩
theorem SlR.one {st:St} {sz n:Nat} {u:TV} {xs:List TV} (h:SlR st sz u n xs):Ah u=true:=by
 rcases h with(⟨rfl,_⟩ | ⟨tip,rfl⟩) | ⟨b,off,cap,l,rfl,_⟩<;>rfl
theorem FdR.ck {st:St} {d:Fd} {cs:List TV} (h:FdR st d cs):Ck cs/\keyOf cs=d.key:=by
 cases d with
 | mk k v=>
  unfold FdR at h
  obtain⟨c,rfl,h⟩:=h
  cases v with
  | mk s l f=>
   unfold VlR at h
   obtain⟨ub,ul,uf,xl,xf,rfl,h1,h2,_,h3,_⟩:=h
   exact⟨⟨k,_,_,_,_,_,_,_,_,_,_,ub,ul,uf,rfl,h1.one,h2.one,h3.one⟩,rfl⟩
theorem Ns.cks {st:St} {f:List Fd} {cks:List (List TV)} (h:Ns (FdR st) f cks):∀c,c∈cks->Ck c:=by
 induction h with
 | nil=>intro c hc;cases hc
 | cons r _ ih=>
  intro c hc
  rcases List.mem_cons.1 hc with rfl | hc
  ·exact r.ck.1
  ·exact ih c hc
theorem SlR.src {st:St} {sz n:Nat} {u:TV} {xs:List TV} (h:SlR st sz u n xs) (hl:xs.length=n*sz):Cu st sz u=some (n,xs):=by
 rcases h with(⟨rfl,rfl,rfl⟩ | ⟨tip,rfl⟩) | ⟨b,off,cap,l,rfl,h2,h3,h4,h5,rfl⟩
 ·rfl
 ·simp[Cu]
 ·have hlt:n*sz<=cap*sz:=Nat.mul_le_mul_right _ h5
  have e:=J6 (B:=l.drop (off+n*sz)) (st:=st) (b:=b) ((l.drop off).take (n*sz)) l 0 off h3 (by
   rw[Nat.add_zero,<-List.drop_drop,List.take_append_drop])
  rw[show((l.drop off).take (n*sz)).length=n*sz by simp;omega]at e
  simp only[Cu,Nat.beq_refl]
  rw[e]
theorem FsR.all_one {st:St} {f:List Fd} {xs:List TV} (h:FsR st f xs):List.all xs Ah=true:=by
 obtain⟨cks,rfl,h2⟩:=h.chunks
 rw[List.all_flatten,List.all_eq_true]
 exact fun c hc=>(h2.cks c hc).one
theorem Aj.keeps {a b:St} (h:Aj a b):Bm a b:=⟨h.nb,h.box⟩
section
variable {st:St}
end
end
section
def Bx (st:St) (sz:Nat) (u:TV) (n:Nat) (xs:List TV) (bs:List Nat):Prop:=
 (n=0/\xs=[]/\bs=[]/\(u= .nilSlice∨u= .list sz .full 0 []))∨∃b cap tail,u= .ms sz b 0 n cap/\b<st.nb/\st.box b= .cells (xs++tail)/\(xs++tail).length=cap*sz/\xs.length=n*sz/\n<=cap/\bs=[b]
theorem Bx.rd {st:St} {sz n:Nat} {u:TV} {xs:List TV} {bs:List Nat} (h:Bx st sz u n xs bs):SlR st sz u n xs:=by
 rcases h with⟨rfl,rfl,rfl,rfl | rfl⟩ | ⟨b,cap,tail,rfl,h1,h2,h3,h4,h5,rfl⟩
 ·exact .inl (.inl ⟨rfl,rfl,rfl⟩)
 ·exact .inl (.inr ⟨_,rfl⟩)
 ·exact .inr ⟨b,0,cap,_,rfl,h1,h2,by omega,h5,by rw[List.drop_zero,<-h4,List.take_left]⟩
theorem Bx.frame {S:Nat->Prop} {st st':St} (e:StX S st st') {sz n:Nat} {u:TV} {xs:List TV} {bs:List Nat} (hs:∀x,x∈bs->¬S x) (h:Bx st sz u n xs bs):Bx st' sz u n xs bs:=by
 rcases h with h | ⟨b,cap,tail,rfl,h1,h2,h3,h4,h5,rfl⟩
 ·exact .inl h
 ·exact .inr ⟨b,cap,tail,rfl,Nat.lt_of_lt_of_le h1 e.nb,(e.box b h1 (hs b (.head _))).trans h2,h3,h4,h5,rfl⟩
theorem Bx.lt {st:St} {sz n:Nat} {u:TV} {xs:List TV} {bs:List Nat} (h:Bx st sz u n xs bs):∀x,x∈bs->x<st.nb:=by
 rcases h with⟨_,_,rfl,_⟩ | ⟨b,cap,tail,rfl,h1,h2,h3,h4,h5,rfl⟩
 ·intro x hx;cases hx
 ·intro x hx;rcases List.mem_singleton.1 hx with rfl;exact h1
mutual
def VlO (st:St):Vl->List TV->List Nat->Prop
 | .mk s l f,cs,fp=>∃ub ul uf xl xf bb bl bf fl ff,cs=[.int .i64 s.kind,.bool s.b,.bool s.neg,.str s.dg,.int .i64 s.ex,.int .i64 s.tk,.int .i64 s.td,.int .i64 s.tn,.int .i64 s.tz,.str s.text,ub,ul,uf]/\
   Bx st 1 ub s.bytes.length (AR s.bytes) bb/\Bx st 13 ul l.length xl bl/\VsO st l xl fl/\Bx st 14 uf f.length xf bf/\FsO st f xf ff/\fp=bb++(bl++(fl++(bf++ff)))
def VsO (st:St):List Vl->List TV->List Nat->Prop
 | [],xs,fp=>xs=[]/\fp=[]
 | v::r,xs,fp=>∃a b p q,xs=a++b/\fp=p++q/\VlO st v a p/\VsO st r b q
def FdO (st:St):Fd->List TV->List Nat->Prop
 | .mk k v,xs,fp=>∃cs,xs= .str k::cs/\VlO st v cs fp
def FsO (st:St):List Fd->List TV->List Nat->Prop
 | [],xs,fp=>xs=[]/\fp=[]
 | d::r,xs,fp=>∃a b p q,xs=a++b/\fp=p++q/\FdO st d a p/\FsO st r b q
end
mutual
theorem VlO.frame {S:Nat->Prop} {st st':St} (e:StX S st st'):∀{v:Vl} {cs:List TV} {fp:List Nat},(∀x,x∈fp->¬S x)->VlO st v cs fp->VlO st' v cs fp
 | .mk s l f,cs,fp,hs,h=>by
  unfold VlO at h⊢
  obtain⟨ub,ul,uf,xl,xf,bb,bl,bf,fl,ff,h0,h1,h2,h3,h4,h5,h6⟩:=h
  subst h6
  simp only[List.mem_append]at hs
  exact⟨ub,ul,uf,xl,xf,bb,bl,bf,fl,ff,h0,h1.frame e (fun x hx=>hs x (.inl hx)),h2.frame e (fun x hx=>hs x (.inr (.inl hx))),VsO.frame e (fun x hx=>hs x (.inr (.inr (.inl hx)))) h3,
   h4.frame e (fun x hx=>hs x (.inr (.inr (.inr (.inl hx))))),FsO.frame e (fun x hx=>hs x (.inr (.inr (.inr (.inr hx))))) h5,rfl⟩
theorem VsO.frame {S:Nat->Prop} {st st':St} (e:StX S st st'):∀{l:List Vl} {cs:List TV} {fp:List Nat},(∀x,x∈fp->¬S x)->VsO st l cs fp->VsO st' l cs fp
 | [],cs,fp,hs,h=>by unfold VsO at h⊢;exact h
 | v::r,cs,fp,hs,h=>by
  unfold VsO at h⊢
  obtain⟨a,b,p,q,h0,rfl,h1,h2⟩:=h
  simp only[List.mem_append]at hs
  exact⟨a,b,p,q,h0,rfl,VlO.frame e (fun x hx=>hs x (.inl hx)) h1,VsO.frame e (fun x hx=>hs x (.inr hx)) h2⟩
theorem FdO.frame {S:Nat->Prop} {st st':St} (e:StX S st st'):∀{d:Fd} {cs:List TV} {fp:List Nat},(∀x,x∈fp->¬S x)->FdO st d cs fp->FdO st' d cs fp
 | .mk key v,cs,fp,hs,h=>by
  unfold FdO at h⊢
  obtain⟨c,h0,h1⟩:=h
  exact⟨c,h0,VlO.frame e hs h1⟩
theorem FsO.frame {S:Nat->Prop} {st st':St} (e:StX S st st'):∀{l:List Fd} {cs:List TV} {fp:List Nat},(∀x,x∈fp->¬S x)->FsO st l cs fp->FsO st' l cs fp
 | [],cs,fp,hs,h=>by unfold FsO at h⊢;exact h
 | d::r,cs,fp,hs,h=>by
  unfold FsO at h⊢
  obtain⟨a,b,p,q,h0,rfl,h1,h2⟩:=h
  simp only[List.mem_append]at hs
  exact⟨a,b,p,q,h0,rfl,FdO.frame e (fun x hx=>hs x (.inl hx)) h1,FsO.frame e (fun x hx=>hs x (.inr hx)) h2⟩
end
theorem VsO.snoc {st:St} {v:Vl} {cv:List TV} {pv:List Nat}:∀{l:List Vl} {xs:List TV} {fp:List Nat},VsO st l xs fp->VlO st v cv pv->VsO st (l++[v]) (xs++cv) (fp++pv)
 | [],xs,fp,h,hv=>by
  unfold VsO at h
  obtain⟨rfl,rfl⟩:=h
  show VsO st [v] _ _
  unfold VsO
  exact⟨cv,[],pv,[],by simp,by simp,hv,by unfold VsO;exact⟨rfl,rfl⟩⟩
 | w::r,xs,fp,h,hv=>by
  unfold VsO at h
  obtain⟨a,b,p,q,rfl,rfl,h1,h2⟩:=h
  show VsO st (w::(r++[v])) _ _
  unfold VsO
  exact⟨a,b++cv,p,q++pv,by simp,by simp,h1,VsO.snoc h2 hv⟩
theorem FsO.snoc {st:St} {d:Fd} {cv:List TV} {pv:List Nat}:∀{l:List Fd} {xs:List TV} {fp:List Nat},FsO st l xs fp->FdO st d cv pv->FsO st (l++[d]) (xs++cv) (fp++pv)
 | [],xs,fp,h,hv=>by
  unfold FsO at h
  obtain⟨rfl,rfl⟩:=h
  show FsO st [d] _ _
  unfold FsO
  exact⟨cv,[],pv,[],by simp,by simp,hv,by unfold FsO;exact⟨rfl,rfl⟩⟩
 | w::r,xs,fp,h,hv=>by
  unfold FsO at h
  obtain⟨a,b,p,q,rfl,rfl,h1,h2⟩:=h
  show FsO st (w::(r++[d])) _ _
  unfold FsO
  exact⟨a,b++cv,p,q++pv,by simp,by simp,h1,FsO.snoc h2 hv⟩
theorem Q5 (xs ys tail:List TV) (h:ys.length<=tail.length):setAll (xs++tail) xs.length ys=xs++ys++tail.drop ys.length:=by
 have e:tail=tail.take ys.length++tail.drop ys.length:=(List.take_append_drop _ _).symm
 have:=Jr ys xs (tail.take ys.length) (tail.drop ys.length) (by simp;omega)
 rw[List.append_assoc,List.take_append_drop]at this
 exact this
theorem Fm {T sz bytes:Nat} {st:St} {u:TV} {n k:Nat} {xs ys:List TV} {bs:List Nat} {K:TV->St->Prop} (h:Bx st sz u n xs bs) (hk1:0<k) (hy:ys.length=k*sz) (hby:(n+k)*bytes<=140737488355328)
  (hK:∀u' st' bs',Bx st' sz u' (n+k) (xs++ys) bs'->StX (·∈bs) st st'->((bs'=bs/\bs≠ [])∨bs'=[st.nb])->K u' st'):Gu T sz bytes u k ys st K:=by
 obtain⟨m,rfl⟩:∃m,k=m+1:=⟨k-1,by omega⟩
 have fresh:∀(zs:List TV) (N cap:Nat),zs.length=N*sz->N<=cap->Bx (st.push (.cells (zs++F8 ((cap-N)*sz))) (some T)) sz (.ms sz st.nb 0 N cap) N zs [st.nb]:=fun zs N cap h1 h2=>
  .inr ⟨st.nb,cap,F8 ((cap-N)*sz),rfl,by simp[St.push],by simp[St.push],by rw[List.length_append,h1];simp only[F8,List.length_replicate];rw[<-Nat.add_mul];congr 1;omega,h1,h2,rfl⟩
 rcases h with⟨rfl,rfl,rfl,rfl | rfl⟩ | ⟨b,cap,tail,rfl,h1,h2,h3,h4,h5,rfl⟩
 ·simp only[Gu,Ak]
  refine⟨by simpa using hby,fun cap hc=>hK _ _ [st.nb] ?_ (StX.of ((Aj.refl st).push _ _)) (.inr rfl)⟩
  have:=fresh ys (m+1) cap hy hc
  simpa using this
 ·simp only[Gu,Nat.beq_refl]
  refine⟨hby,fun cap hc=>hK _ _ [st.nb] ?_ (StX.of ((Aj.refl st).push _ _)) (.inr rfl)⟩
  have:=fresh ys (0+(m+1)) cap (by rw[hy];congr 1;omega) hc
  simpa using this
 ·simp only[Gu,Nat.beq_refl]
  rw[List.length_append]at h3
  refine⟨hby,_,h2,by rw[List.length_append];omega,fun hc=>?_,fun hc cap' hc'=>?_⟩
  ·have hmul:(n+(m+1))*sz<=cap*sz:=Nat.mul_le_mul_right _ hc
   rw[Nat.add_mul]at hmul
   rw[Nat.zero_add,<-h4,Q5 xs ys tail (by omega)]
   refine hK _ _ [b] (.inr ⟨b,cap,tail.drop ys.length,rfl,h1,by simp[St.put],by simp only[List.length_append,List.length_drop];omega,by rw[List.length_append,h4,hy,<-Nat.add_mul],hc,rfl⟩) (StX.put (S:=(·∈ [b])) (.head _) _) (.inl ⟨rfl,by simp⟩)
  ·rw[List.drop_zero,<-h4,List.take_left]
   exact hK _ _ [st.nb] (fresh (xs++ys) (n+(m+1)) cap' (by rw[List.length_append,h4,hy,<-Nat.add_mul]) hc') (StX.of ((Aj.refl st).push _ _)) (.inr rfl)
end
section
mutual
def Vl.sz:Vl->Nat
 | .mk s l f=>1+s.bytes.length+s.text.length+s.dg.length+BB l+Bv f
def BB:List Vl->Nat
 | []=>0
 | v::r=>v.sz+BB r
def Fd.sz:Fd->Nat
 | .mk k v=>k.length+v.sz
def Bv:List Fd->Nat
 | []=>0
 | d::r=>d.sz+Bv r
end
theorem Vl.sz_pos (v:Vl):1<=v.sz:=by cases v;unfold Vl.sz;omega
theorem Cn:∀l:List Vl,l.length<=BB l
 | []=>Nat.le_refl _
 | v::r=>by have:=Cn r;have:=v.sz_pos;unfold BB;simp only[List.length_cons];omega
theorem Bq:∀l:List Fd,l.length<=Bv l
 | []=>Nat.le_refl _
 | .mk k v::r=>by have:=Bq r;have:=v.sz_pos;unfold Bv Fd.sz;simp only[List.length_cons];omega
theorem DL:∀{l:List Vl} {i:Nat} {v:Vl},l[i]? =some v->v.sz<=BB l
 | [],i,v,h=>by simp at h
 | w::r,0,v,h=>by simp at h;subst h;unfold BB;omega
 | w::r,i+1,v,h=>by have:=DL (by simpa using h:r[i]? =some v);unfold BB;omega
theorem EH:∀{l:List Fd} {i:Nat} {d:Fd},l[i]? =some d->d.sz<=Bv l
 | [],i,v,h=>by simp at h
 | w::r,0,v,h=>by simp at h;subst h;unfold Bv;omega
 | w::r,i+1,v,h=>by have:=EH (by simpa using h:r[i]? =some v);unfold Bv;omega
theorem Mq {st:St} {ys:List TV}:∀(k j:Nat),j+k<=ys.length->Al st [] (.t (.rptr ys)) j k=some ((ys.drop j).take k)
 | 0,j,h=>by simp[Al]
 | k+1,j,h=>by
  show(match Ac st [] (.t (.rptr ys)) j with | some x=>(Al st [] (.t (.rptr ys)) (j+1) k).map (x::·) | none=>none)=_
  have hj:j<ys.length:=by omega
  have:Ac st [] (.t (.rptr ys)) j=some ys[j]:=by simp[Ac,hj]
  rw[this]
  simp only
  rw[Mq k (j+1) (by omega),List.drop_eq_getElem_cons hj]
  rfl
theorem SlR.ldc {st:St} {sz n i:Nat} {u:TV} {xs:List TV} (h:SlR st sz u n xs) (hl:xs.length=n*sz) (hi:i<n):Al st [] (.t (ixT sz u i)) 0 sz=some ((xs.drop (i*sz)).take sz):=by
 have hm:(i+1)*sz<=n*sz:=Nat.mul_le_mul_right _ hi
 rw[Nat.add_mul,Nat.one_mul]at hm
 rcases h with(⟨rfl,rfl,rfl⟩ | ⟨tip,rfl⟩) | ⟨b,off,cap,l,rfl,h2,h3,h4,h5,rfl⟩
 ·omega
 ·show Al st [] (.t (.rptr (xs.drop (i*sz)))) 0 sz=_
  rw[Mq sz 0 (by rw[List.length_drop];omega),List.drop_zero]
 ·have hc:n*sz<=cap*sz:=Nat.mul_le_mul_right _ h5
  have e1:(((l.drop off).take (n*sz)).drop (i*sz)).take sz=(l.drop (off+i*sz)).take sz:=by
   rw[List.drop_take,List.drop_drop,List.take_take,Nat.min_eq_left (by omega)]
  rw[e1]
  have e:=J6 (B:=l.drop (off+i*sz+sz)) (st:=st) (b:=b) ((l.drop (off+i*sz)).take sz) l 0 (off+i*sz) h3 (by
   have:=List.take_append_drop sz (l.drop (off+i*sz))
   rw[List.drop_drop]at this
   rw[Nat.add_zero];exact this.symm)
  rw[show((l.drop (off+i*sz)).take sz).length=sz by simp;omega]at e
  exact e
theorem SlR.lenZ {st:St} {sz n:Nat} {u:TV} {xs:List TV} (h:SlR st sz u n xs):TVF.lenZ sz u=n:=by
 rcases h with(⟨rfl,rfl,rfl⟩ | ⟨tip,rfl⟩) | ⟨b,off,cap,l,rfl,h2,h3,h4,h5,rfl⟩
 ·rfl
 ·simp[TVF.lenZ]
 ·simp[TVF.lenZ]
theorem SlR.lenS {st:St} {sz n:Nat} {u:TV} {xs:List TV} (h:SlR st sz u n xs):TVF.lenS u=n:=by
 rcases h with(⟨rfl,rfl,rfl⟩ | ⟨tip,rfl⟩) | ⟨b,off,cap,l,rfl,h2,h3,h4,h5,rfl⟩<;>rfl
theorem SlR.isSl {st:St} {sz n:Nat} {u:TV} {xs:List TV} (h:SlR st sz u n xs):TVF.isSl u=true:=by
 rcases h with(⟨rfl,rfl,rfl⟩ | ⟨tip,rfl⟩) | ⟨b,off,cap,l,rfl,h2,h3,h4,h5,rfl⟩<;>rfl
theorem Bx.nil (st:St) (sz:Nat):Bx st sz .nilSlice 0 [] []:= .inl ⟨rfl,rfl,rfl,.inl rfl⟩
theorem Hk {n1:Int} {b1 b2:Bool} {s2:B8} {n2 n3 n4 n5 n6:Int} {s3:B8} {u1 u2 u3:TV} {f:Fun [.int .i64,.bool,.bool,.str,.int .i64,.int .i64,.int .i64,.int .i64,.int .i64,.str,.tv,.tv,.tv] Prop} (h:f n1 b1 b2 s2 n2 n3 n4 n5 n6 s3 u1 u2 u3):
  BG [.int .i64,.bool,.bool,.str,.int .i64,.int .i64,.int .i64,.int .i64,.int .i64,.str,.tv,.tv,.tv] (.agg [.int .i64 n1,.bool b1,.bool b2,.str s2,.int .i64 n2,.int .i64 n3,.int .i64 n4,.int .i64 n5,.int .i64 n6,.str s3,u1,u2,u3]) f:=h
theorem Bi {n1:Int} {b1 b2:Bool} {s2:B8} {n2 n3 n4 n5 n6:Int} {s3:B8} {u1 u2 u3:TV} (h1:Ah u1=true) (h2:Ah u2=true) (h3:Ah u3=true):
  List.all [.int .i64 n1,.bool b1,.bool b2,.str s2,.int .i64 n2,.int .i64 n3,.int .i64 n4,.int .i64 n5,.int .i64 n6,.str s3,u1,u2,u3] Ah=true:=by
 simp only[List.all_cons,List.all_nil,h1,h2,h3,Bool.and_true];rfl
theorem Ty {st:St} {u:TV} {l:B8} (h:SlR st 1 u l.length (AR l)) (hl:l.length<=10000000) {K:TV->St->Prop} (hk:∀v st' bs,Bx st' 1 v l.length (AR l) bs->Aj st st'->(∀x,x∈bs->st.nb<=x)->bs.Nodup->K v st'):
  CallT PR Bz [u] [.one .tv] st K:=by
 have hb1:(AR l).length=l.length*1:=by rw[Je];omega
 have hone:List.all (AR l) Ah=true:=by
  rw[List.all_eq_true];intro x hx
  simp only[AR,List.mem_map]at hx
  obtain⟨y,_,rfl⟩:=hx;rfl
 refine EP _ st K (Aa h.isSl ?_)
 cases hq:CN u with
 | true=>
  show K .nilSlice st
  have h0:l=[]:=by
   rcases h with(⟨rfl,h1,_⟩ | ⟨tip,rfl⟩) | ⟨b,off,cap,m,rfl,_⟩
   ·exact List.eq_nil_of_length_eq_zero h1
   ·cases hq
   ·cases hq
  subst h0
  exact hk _ st [] (Bx.nil _ _) (Aj.refl _) (fun x hx=>by cases hx) List.nodup_nil
 | false=>
  show Ai (Cu st 1 u) _
  refine Ad (h.src hb1) (Aa hone ?_)
  cases hlen:l.length with
  | zero=>
   have h0:l=[]:=List.eq_nil_of_length_eq_zero hlen
   subst h0
   simp only[Gu,Nat.beq_refl]
   exact⟨by omega,hk _ st [] (.inl ⟨rfl,rfl,rfl,.inr rfl⟩) (Aj.refl _) (fun x hx=>by cases hx) List.nodup_nil⟩
  | succ m=>
   refine Fm (.inl ⟨rfl,rfl,rfl,.inr rfl⟩) (by omega) (by rw[hb1,hlen]) (by omega) fun u' st' bs' ho e hbs=>?_
   rw[Nat.zero_add,List.nil_append,<-hlen]at ho
   rcases hbs with⟨_,h0⟩ | rfl
   ·exact absurd rfl h0
   ·exact hk _ st' _ ho (StX.ext (Aj.refl st) e (fun i hi=>by cases hi)) (fun x hx=>by rw[List.mem_singleton.1 hx];exact Nat.le_refl _) (by simp)
end
section
mutual
theorem VlO.lt {st:St}:∀{v:Vl} {cs:List TV} {fp:List Nat},VlO st v cs fp->∀x,x∈fp->x<st.nb
 | .mk s l f,cs,fp,h=>by
  unfold VlO at h
  obtain⟨ub,ul,uf,xl,xf,bb,bl,bf,fl,ff,h0,h1,h2,h3,h4,h5,rfl⟩:=h
  intro x hx
  simp only[List.mem_append]at hx
  rcases hx with hx | hx | hx | hx | hx
  ·exact h1.lt x hx
  ·exact h2.lt x hx
  ·exact VsO.lt h3 x hx
  ·exact h4.lt x hx
  ·exact FsO.lt h5 x hx
theorem VsO.lt {st:St}:∀{l:List Vl} {cs:List TV} {fp:List Nat},VsO st l cs fp->∀x,x∈fp->x<st.nb
 | [],cs,fp,h=>by unfold VsO at h;rw[h.2];intro x hx;cases hx
 | v::r,cs,fp,h=>by
  unfold VsO at h
  obtain⟨a,b,p,q,_,rfl,h1,h2⟩:=h
  intro x hx
  rcases List.mem_append.1 hx with hx | hx
  ·exact VlO.lt h1 x hx
  ·exact VsO.lt h2 x hx
theorem FdO.lt {st:St}:∀{d:Fd} {cs:List TV} {fp:List Nat},FdO st d cs fp->∀x,x∈fp->x<st.nb
 | .mk key v,cs,fp,h=>by
  unfold FdO at h
  obtain⟨c,_,h1⟩:=h
  exact VlO.lt h1
theorem FsO.lt {st:St}:∀{l:List Fd} {cs:List TV} {fp:List Nat},FsO st l cs fp->∀x,x∈fp->x<st.nb
 | [],cs,fp,h=>by unfold FsO at h;rw[h.2];intro x hx;cases hx
 | d::r,cs,fp,h=>by
  unfold FsO at h
  obtain⟨a,b,p,q,_,rfl,h1,h2⟩:=h
  intro x hx
  rcases List.mem_append.1 hx with hx | hx
  ·exact FdO.lt h1 x hx
  ·exact FsO.lt h2 x hx
end
theorem Vl.cnt_pos (v:Vl):1<=v.cnt:=by cases v;unfold Vl.cnt;omega
theorem Nx:∀{l:List Vl} {i:Nat} {v:Vl},l[i]? =some v->v.cnt<=AF l
 | [],i,v,h=>by simp at h
 | w::r,0,v,h=>by simp at h;subst h;unfold AF;omega
 | w::r,i+1,v,h=>by have:=Nx (by simpa using h:r[i]? =some v);unfold AF;omega
theorem NX:∀{l:List Fd} {i:Nat} {d:Fd},l[i]? =some d->d.cnt<=AI l
 | [],i,v,h=>by simp at h
 | w::r,0,v,h=>by simp at h;subst h;unfold AI;omega
 | w::r,i+1,v,h=>by have:=NX (by simpa using h:r[i]? =some v);unfold AI;omega
theorem GF {A B:List Nat} (ha:A.Nodup) (hb:B.Nodup) (h:∀x,x∈A->x∉B):(A++B).Nodup:=
 List.nodup_append.2 ⟨ha,hb,fun x hx y hy e=>h x hx (e▸hy)⟩
structure Pc (b0:Nat) (st:St) (bl fl:List Nat):Prop where
 nd:(bl++fl).Nodup
 lo:∀x,x∈bl++fl->b0<=x
theorem Pc.nil (b0:Nat) (st:St):Pc b0 st [] []:=⟨List.nodup_nil,fun x hx=>by cases hx⟩
theorem Pc.snoc {b0 m k:Nat} {st st':St} {bl fl bs' fp:List Nat} (h:Pc b0 st bl fl) (hm:∀x,x∈bl++fl->x<m) (h0:b0<=m) (hk:∀x,x∈fp->m<=x/\x<k) (nd:fp.Nodup) (hmk:m<=k) (hb:(bs'=bl/\bl≠ [])∨bs'=[k]):Pc b0 st' bs' (fl++fp):=by
 have ndf:=(List.nodup_append.1 h.nd)
 have hfl:∀x,x∈fl->x<m:=fun x hx=>hm x (List.mem_append_right _ hx)
 have nfp:(fl++fp).Nodup:=GF ndf.2.1 nd fun x hx hx'=>by have:=hfl x hx;have:=(hk x hx').1;omega
 rcases hb with⟨rfl,_⟩ | rfl
 ·refine⟨GF ndf.1 nfp fun x hx hx'=>?_,fun x hx=>?_⟩
  ·rcases List.mem_append.1 hx' with hx' | hx'
   ·exact ndf.2.2 x hx x hx' rfl
   ·have:=hm x (List.mem_append_left _ hx);have:=(hk x hx').1;omega
  ·rcases List.mem_append.1 hx with hx | hx
   ·exact h.lo x (List.mem_append_left _ hx)
   ·rcases List.mem_append.1 hx with hx | hx
    ·exact h.lo x (List.mem_append_right _ hx)
    ·have:=(hk x hx).1;omega
 ·refine⟨GF (by simp) nfp fun x hx hx'=>?_,fun x hx=>?_⟩
  ·rcases List.mem_singleton.1 hx with rfl
   rcases List.mem_append.1 hx' with hx' | hx'
   ·have:=hfl x hx';omega
   ·have:=(hk x hx').2;omega
  ·rcases List.mem_append.1 hx with hx | hx
   ·rcases List.mem_singleton.1 hx with rfl;omega
   ·rcases List.mem_append.1 hx with hx | hx
    ·exact h.lo x (List.mem_append_right _ hx)
    ·have:=(hk x hx).1;omega
theorem Se {k:B8} {n1:Int} {b1 b2:Bool} {s2:B8} {n2 n3 n4 n5 n6:Int} {s3:B8} {u1 u2 u3:TV} (h1:Ah u1=true) (h2:Ah u2=true) (h3:Ah u3=true):
  List.all [.str k,.int .i64 n1,.bool b1,.bool b2,.str s2,.int .i64 n2,.int .i64 n3,.int .i64 n4,.int .i64 n5,.int .i64 n6,.str s3,u1,u2,u3] Ah=true:=by
 simp only[List.all_cons,List.all_nil,h1,h2,h3,Bool.and_true];rfl
def Aq (s:Sc) (ub ul uf:TV):List TV:=[.int .i64 s.kind,.bool s.b,.bool s.neg,.str s.dg,.int .i64 s.ex,.int .i64 s.tk,.int .i64 s.td,.int .i64 s.tn,.int .i64 s.tz,.str s.text,ub,ul,uf]
theorem Tu:∀(N:Nat) (v:Vl),v.sz<=N->N<=2000000->∀{st:St} {cs:List TV} {L:Int} {K:Int->Bool->Bool->B8->Int->Int->Int->Int->Int->B8->TV->TV->TV->St->Prop},VlR st v cs->(v.cnt:Int)<=L->L<=100000000->
  (∀ub ul uf st' fp,VlO st' v (Aq v.sc ub ul uf) fp->Ah ub=true->Ah ul=true->Ah uf=true->fp.Nodup->(∀x,x∈fp->st.nb<=x)->Aj st st'->K v.sc.kind v.sc.b v.sc.neg v.sc.dg v.sc.ex v.sc.tk v.sc.td v.sc.tn v.sc.tz v.sc.text ub ul uf st')->
  CallT PR CH [.agg cs,.int .i64 L] [.agg [.int .i64,.bool,.bool,.str,.int .i64,.int .i64,.int .i64,.int .i64,.int .i64,.str,.tv,.tv,.tv]] st K:=by
 intro N
 induction N with
 | zero=>intro v h;have:=v.sz_pos;omega
 | succ N ih=>
 intro v hN hN2 st cs L K h hL hL2 hk
 cases v with
 | mk s l f=>
 have hsz:(Vl.mk s l f).sz=1+s.bytes.length+s.text.length+s.dg.length+BB l+Bv f:=by unfold Vl.sz;rfl
 have hct:(Vl.mk s l f).cnt=1+AF l+AI f:=by unfold Vl.cnt;rfl
 have hll:=Cn l
 have hfl:=Bq f
 unfold VlR at h
 obtain⟨ub,ul,uf,xl,xf,rfl,h1,h2,h3,h4,h5⟩:=h
 have hxl:=h3.len
 have hxf:=h5.len
 refine Lf _ _ _ _ _ _ _ _ _ _ _ _ _ L st K (Ty h1 (by omega) fun v1 st1 bb ho e1 lo1 nd1=>Aa (by rw[List.all_cons,ho.rd.one];rfl) (Ab (fun g=>absurd g (by omega)) fun _=>Aa h2.isSl ?_))
 refine⟨fun l1 n1 left u n2 a1 a2 a3 a4 a5 a6 a7 a8 a9 a10 a11 a12 a13 _ _ _ _ _ _ _ _ _ _ _ _ _ st'=>L=left/\ul=u/\(l.length:Int)=n2/\s.kind=a1/\s.b=a2/\s.neg=a3/\s.dg=a4/\s.ex=a5/\s.tk=a6/\s.td=a7/\s.tn=a8/\s.tz=a9/\s.text=a10/\v1=a11/\uf=a13/\
   ∃(k:Nat) (ys:List TV) (bl fp:List Nat),n1=(k:Int)/\k<=l.length/\Bx st' 13 l1 k ys bl/\VsO st' (l.take k) ys fp/\Pc st1.nb st' bl fp/\Aj st1 st',
  fun _ n1 _ _ _ _ _ _ _ _ _ _ _ _ _ _ _ _ _ _ _ _ _ _ _ _ _ _ _ _ _ _=>(l.length-n1).toNat,⟨rfl,rfl,by rw[h2.lenS],rfl,rfl,rfl,rfl,rfl,rfl,rfl,rfl,rfl,rfl,rfl,rfl,0,[],[],[],rfl,Nat.zero_le _,Bx.nil _ _,by simp only[List.take_zero];unfold VsO;exact⟨rfl,rfl⟩,Pc.nil _ _,Aj.refl _⟩,?_⟩
 rintro l1 _ _ _ _ _ _ _ _ _ _ _ _ _ _ _ v3 _ _ _ _ _ _ _ _ _ _ _ _ _ _ st2 ⟨rfl,rfl,rfl,rfl,rfl,rfl,rfl,rfl,rfl,rfl,rfl,rfl,rfl,rfl,rfl,k,ys,bl,fp,rfl,hkl,hol,hvs,hgr,e2⟩
 have e12:=e1.trans e2
 refine Ab (fun g=>?_) fun g=>?_
 ·have hkl2:k<l.length:=by omega
  have h2':=h2.keep e12.keeps
  have h3':=h3.keep e12.keeps
  have gw:l[k]? =some l[k]:=List.getElem?_eq_getElem hkl2
  obtain⟨cw,hw,hcw,hcl⟩:=h3'.get gw
  have hwsz:=DL gw
  have hwct:=Nx gw
  have hwc1:=(l[k]).cnt_pos
  generalize l[k]=w at*
  have hld:(Al st2 [] (.t (ixT 13 ul (Int.toNat (k:Int)))) 0 13).map TV.agg=some (.agg cw):=by
   rw[Int.toNat_natCast,h2'.ldc hxl hkl2,hcw];rfl
  rw[h2'.lenZ]
  have hw0:=hw
  cases w with
  | mk s' l' f'=>
  unfold VlR at hw0
  obtain⟨ub',ul',uf',xl',xf',rfl,w1,w2,w3,w4,w5⟩:=hw0
  refine⟨⟨by omega,by omega⟩,Ad hld (Hk (Aa (Bi w1.one w2.one w4.one) ?_))⟩
  rw[Am _ (by omega) (by omega)]
  refine ih _ (by omega) (by omega) hw (by omega) (by omega) fun ub2 ul2 uf2 st3 fp2 ho2 o1 o2 o3 nd2 lo2 e3=>Aa (Bi o1 o2 o3) ?_
  have hol3:=hol.frame (StX.of (S:=fun _=>False) e3) (fun _ _ h=>h)
  have hvs3:=hvs.frame (StX.of (S:=fun _=>False) e3) (fun _ _ h=>h)
  refine Fm hol3 (by omega) rfl (by omega) fun u' st4 bs' ho4 e4 hbs=>?_
  have hm:∀x,x∈bl++fp->x<st2.nb:=fun x hx=>(List.mem_append.1 hx).elim (hol.lt x) (hvs.lt x)
  have hlt2:=ho2.lt
  have hnd:=List.nodup_append.1 hgr.nd
  have e14:Aj st1 st4:=StX.ext (e2.trans e3) e4 fun i hi=>hgr.lo i (List.mem_append_left _ hi)
  have hvs4:VsO st4 (l.take (k+1)) (ys++Aq s' ub2 ul2 uf2) (fp++fp2):=by
   have t1:l.take (k+1)=l.take k++[.mk s' l' f']:=by
    have:=(List.getElem?_eq_some_iff.1 gw)
    obtain⟨q1,q2⟩:=this
    rw[List.take_succ_eq_append_getElem q1,q2]
   rw[t1]
   exact VsO.snoc (hvs3.frame e4 fun x hx hx'=>hnd.2.2 x hx' x hx rfl) (ho2.frame e4 fun x hx hx'=>by have:=lo2 x hx;have:=hol.lt x hx';omega)
  exact⟨⟨rfl,rfl,rfl,rfl,rfl,rfl,rfl,rfl,rfl,rfl,rfl,rfl,rfl,rfl,rfl,k+1,_,bs',fp++fp2,by rw[Am _ (by omega) (by omega)];omega,by omega,ho4,hvs4,hgr.snoc hm e2.nb (fun x hx=>⟨lo2 x hx,hlt2 x hx⟩) nd2 e3.nb hbs,e14⟩,by dsimp only;rw[Am _ (by omega) (by omega)];omega⟩
 ·have hk:k=l.length:=by omega
  subst hk
  rw[List.take_length]at hvs
  have hm:∀x,x∈bl++fp->x<st2.nb:=fun x hx=>(List.mem_append.1 hx).elim (hol.lt x) (hvs.lt x)
  refine Aa h4.isSl ?_
  refine⟨fun f1 n1 left l2 u n2 a1 a2 a3 a4 a5 a6 a7 a8 a9 a10 a11 a12 a13 _ _ _ _ _ _ _ _ _ _ _ _ _ st'=>L=left/\l1=l2/\uf=u/\(f.length:Int)=n2/\s.kind=a1/\s.b=a2/\s.neg=a3/\s.dg=a4/\s.ex=a5/\s.tk=a6/\s.td=a7/\s.tn=a8/\s.tz=a9/\s.text=a10/\v1=a11/\
    ∃(k:Nat) (zs:List TV) (bf ff:List Nat),n1=(k:Int)/\k<=f.length/\Bx st' 14 f1 k zs bf/\FsO st' (f.take k) zs ff/\Pc st2.nb st' bf ff/\Aj st2 st',
   fun _ n1 _ _ _ _ _ _ _ _ _ _ _ _ _ _ _ _ _ _ _ _ _ _ _ _ _ _ _ _ _ _ _=>(f.length-n1).toNat,⟨rfl,rfl,rfl,by rw[h4.lenS],rfl,rfl,rfl,rfl,rfl,rfl,rfl,rfl,rfl,rfl,rfl,0,[],[],[],rfl,Nat.zero_le _,Bx.nil _ _,by simp only[List.take_zero];unfold FsO;exact⟨rfl,rfl⟩,Pc.nil _ _,Aj.refl _⟩,?_⟩
  rintro f1 _ _ _ _ _ _ _ _ _ _ _ _ _ _ _ _ _ _ _ _ _ _ _ _ _ _ _ _ _ _ _ st5 ⟨rfl,rfl,rfl,rfl,rfl,rfl,rfl,rfl,rfl,rfl,rfl,rfl,rfl,rfl,rfl,k,zs,bf,ff,rfl,hkf,hof,hfs,hgf,e5⟩
  have e15:=e12.trans e5
  refine Ab (fun g=>?_) fun g=>?_
  ·have hkf2:k<f.length:=by omega
   have h4':=h4.keep e15.keeps
   have h5':=h5.keep e15.keeps
   have gw:f[k]? =some f[k]:=List.getElem?_eq_getElem hkf2
   obtain⟨cw,hw,hcw,hcl⟩:=h5'.get gw
   have hwsz:=EH gw
   have hwct:=NX gw
   generalize f[k]=w at*
   have hld:(Al st5 [] (.t (ixT 14 uf (Int.toNat (k:Int)))) 0 14).map TV.agg=some (.agg cw):=by
    rw[Int.toNat_natCast,h4'.ldc hxf hkf2,hcw];rfl
   rw[h4'.lenZ]
   cases w with
   | mk key w=>
   unfold FdR at hw
   obtain⟨cw2,rfl,hw⟩:=hw
   have hwk:(Fd.mk key w).sz=key.length+w.sz:=by unfold Fd.sz;rfl
   have hwk2:(Fd.mk key w).cnt=w.cnt:=by unfold Fd.cnt;rfl
   have hwc1:=w.cnt_pos
   have hw0:=hw
   cases w with
   | mk s' l' f'=>
   unfold VlR at hw0
   obtain⟨ub',ul',uf',xl',xf',rfl,w1,w2,w3,w4,w5⟩:=hw0
   refine⟨⟨by omega,by omega⟩,Ad hld (UR (Aa (Se w1.one w2.one w4.one) ?_))⟩
   rw[Am _ (by omega) (by omega)]
   refine ih _ (by omega) (by omega) hw (by omega) (by omega) fun ub2 ul2 uf2 st6 fp2 ho2 o1 o2 o3 nd2 lo2 e6=>Aa (Se o1 o2 o3) ?_
   have hof6:=hof.frame (StX.of (S:=fun _=>False) e6) (fun _ _ h=>h)
   have hfs6:=hfs.frame (StX.of (S:=fun _=>False) e6) (fun _ _ h=>h)
   refine Fm hof6 (by omega) rfl (by omega) fun u' st7 bs' ho7 e7 hbs=>?_
   have hm5:∀x,x∈bf++ff->x<st5.nb:=fun x hx=>(List.mem_append.1 hx).elim (hof.lt x) (hfs.lt x)
   have hlt2:=ho2.lt
   have hnd:=List.nodup_append.1 hgf.nd
   have e27:Aj st2 st7:=StX.ext (e5.trans e6) e7 fun i hi=>hgf.lo i (List.mem_append_left _ hi)
   have hd7:FdO st7 (.mk key (.mk s' l' f')) (.str key::Aq s' ub2 ul2 uf2) fp2:=by
    unfold FdO
    exact⟨_,rfl,ho2.frame e7 fun x hx hx'=>by have:=lo2 x hx;have:=hof.lt x hx';omega⟩
   have hfs7:FsO st7 (f.take (k+1)) (zs++ .str key::Aq s' ub2 ul2 uf2) (ff++fp2):=by
    have t1:f.take (k+1)=f.take k++[.mk key (.mk s' l' f')]:=by
     obtain⟨q1,q2⟩:=List.getElem?_eq_some_iff.1 gw
     rw[List.take_succ_eq_append_getElem q1,q2]
    rw[t1]
    exact FsO.snoc (hfs6.frame e7 fun x hx hx'=>hnd.2.2 x hx' x hx rfl) hd7
   exact⟨⟨rfl,rfl,rfl,rfl,rfl,rfl,rfl,rfl,rfl,rfl,rfl,rfl,rfl,rfl,rfl,k+1,_,bs',ff++fp2,by rw[Am _ (by omega) (by omega)];omega,by omega,ho7,hfs7,hgf.snoc hm5 e5.nb (fun x hx=>⟨lo2 x hx,hlt2 x hx⟩) nd2 e6.nb hbs,e27⟩,by dsimp only;rw[Am _ (by omega) (by omega)];omega⟩
  ·have hk2:k=f.length:=by omega
   subst hk2
   rw[List.take_length]at hfs
   have ho5:=ho.frame (StX.of (S:=fun _=>False) (e2.trans e5)) (fun _ _ h=>h)
   have hol5:=hol.frame (StX.of (S:=fun _=>False) e5) (fun _ _ h=>h)
   have hvs5:=hvs.frame (StX.of (S:=fun _=>False) e5) (fun _ _ h=>h)
   have hb1:=ho.lt
   have e1n:=e1.nb
   have e2n:=e2.nb
   refine Aa (by rw[List.all_cons,hol.rd.one];rfl) (Aa (by rw[List.all_cons,hof.rd.one];rfl) (Aa (Bi ho.rd.one hol.rd.one hof.rd.one) ?_))
   refine hk v1 l1 f1 st5 (bb++(bl++(fp++(bf++ff)))) (by unfold VlO;exact⟨v1,l1,f1,ys,zs,bb,bl,bf,fp,ff,rfl,ho5,hol5,hvs5,hof,hfs,rfl⟩) ho.rd.one hol.rd.one hof.rd.one ?_ ?_ e15
   ·have e:bl++(fp++(bf++ff))=(bl++fp)++(bf++ff):=by simp
    rw[e]
    refine GF nd1 (GF hgr.nd hgf.nd fun x hx hx'=>?_) fun x hx hx'=>?_
    ·have:=hm x hx;have:=hgf.lo x hx';omega
    ·have:=hb1 x hx
     rcases List.mem_append.1 hx' with hx' | hx'
     ·have:=hgr.lo x hx';omega
     ·have:=hgf.lo x hx';omega
   ·intro x hx
    have e:bb++(bl++(fp++(bf++ff)))=bb++((bl++fp)++(bf++ff)):=by simp
    rw[e]at hx
    rcases List.mem_append.1 hx with hx | hx
    ·exact lo1 x hx
    ·rcases List.mem_append.1 hx with hx | hx
     ·have:=hgr.lo x hx;omega
     ·have:=hgf.lo x hx;omega
end
def insF (d:Fd):List Fd->List Fd
 | []=>[d]
 | x::r=>match Op.bytesLess d.key x.key with
  | true=>d::x::r
  | false=>x::insF d r
def sortFd (f:List Fd):List Fd:=f.foldl (fun out d=>insF d out) []
def MU (f:List Fd):Prop:=(f.map Fd.key).Nodup
theorem Ns.snoc {α β:Type} {R:α->β->Prop} {a:α} {b:β} {l:List α} {m:List β} (h:Ns R l m) (r:R a b):Ns R (l++[a]) (m++[b]):=by
 induction h with
 | nil=>exact .cons r .nil
 | cons r' _ ih=>exact .cons r' ih
theorem Bx.store {st:St} {sz n i o:Nat} {u:TV} {A c B ys:List TV} {bs:List Nat} (h:Bx st sz u n (A++c++B) bs) (hA:A.length=i*sz+o) (hc:0<c.length) (hy:ys.length=c.length) {k:St->Prop} (hk:∀st',Bx st' sz u n (A++ys++B) bs->StX (·∈bs) st st'->k st'):stB st (At (ixT sz u i) o) ys k:=by
 rcases h with⟨_,h1,_⟩ | ⟨b,cap,tail,rfl,h1,h2,h3,h4,h5,rfl⟩
 ·simp only[List.append_eq_nil_iff]at h1
  rw[h1.1.2]at hc
  exact absurd hc (by simp)
 ·have e:A++c++B++tail=A++c++(B++tail):=by simp
  have e2:setAll (A++c++B++tail) (0+i*sz+o) ys=A++ys++B++tail:=by
   rw[e,show 0+i*sz+o=A.length by omega,Jr ys A c (B++tail) hy];simp
  refine⟨_,h2,by simp only[List.length_append];omega,?_⟩
  rw[e2]
  refine hk _ (.inr ⟨b,cap,tail,rfl,h1,by simp[St.put],?_,?_,h5,rfl⟩) (StX.put (S:=(·∈ [b])) (.head _) _)
  ·simp only[List.length_append]at h3⊢;omega
  ·simp only[List.length_append]at h4⊢;omega
theorem Bx.ld {st:St} {sz n i o:Nat} {u:TV} {A c B:List TV} {bs:List Nat} (h:Bx st sz u n (A++c++B) bs) (hA:A.length=i*sz+o) (hc:0<c.length):Al st [] (.t (At (ixT sz u i) o)) 0 c.length=some c:=by
 rcases h with⟨_,h1,_⟩ | ⟨b,cap,tail,rfl,h1,h2,h3,h4,h5,rfl⟩
 ·simp only[List.append_eq_nil_iff]at h1
  rw[h1.1.2]at hc
  exact absurd hc (by simp)
 ·exact J6 (B:=B++tail) c _ 0 (0+i*sz+o) h2 (by
   rw[show 0+i*sz+o+0=A.length by omega,List.append_assoc,List.append_assoc,List.drop_left])
theorem Pk {l:List Vl} {v:Vl} (h:v∈l):v.sz<=BB l:=by
 obtain⟨i,hi⟩:=List.getElem?_of_mem h
 exact DL hi
theorem Ip {l:List Fd} {v:Fd} (h:v∈l):v.sz<=Bv l:=by
 obtain⟨i,hi⟩:=List.getElem?_of_mem h
 exact EH hi
theorem copy_ok {v:Vl} (hN:v.sz<=2000000) (hC:v.cnt<=65536) {st:St} {cs:List TV} {K:Int->Bool->Bool->B8->Int->Int->Int->Int->Int->B8->TV->TV->TV->St->Prop} (h:VlR st v cs)
  (hk:∀ub ul uf st' fp,VlO st' v (Aq v.sc ub ul uf) fp->Ah ub=true->Ah ul=true->Ah uf=true->fp.Nodup->(∀x,x∈fp->st.nb<=x)->Aj st st'->K v.sc.kind v.sc.b v.sc.neg v.sc.dg v.sc.ex v.sc.tk v.sc.td v.sc.tn v.sc.tz v.sc.text ub ul uf st'):
  CallT PR DP [.agg cs] [.agg [.int .i64,.bool,.bool,.str,.int .i64,.int .i64,.int .i64,.int .i64,.int .i64,.str,.tv,.tv,.tv]] st K:=by
 have h0:=h
 cases v with
 | mk s l f=>
 unfold VlR at h0
 obtain⟨ub,ul,uf,xl,xf,rfl,_⟩:=h0
 exact M0 _ _ _ _ _ _ _ _ _ _ _ _ _ st K (Tu 2000000 _ hN (by omega) h (by omega) (by omega) fun ub ul uf st' fp g o1 o2 o3 nd lo e=>Aa (Bi o1 o2 o3) (hk ub ul uf st' fp g o1 o2 o3 nd lo e))
theorem Sg (n:Nat) (h:n<256):n.toUInt8.toNat=n:=by simp;omega
theorem TA (l:B8):List.all (AR l) Ah=true:=by
 rw[List.all_eq_true];intro x hx
 simp only[AR,List.mem_map]at hx
 obtain⟨y,_,rfl⟩:=hx;rfl
theorem Nl {st0 st:St} {ul:TV} {xl:List TV} {l:List Vl} (hke:Bm st0 st) (h2:SlR st0 13 ul l.length xl) (h3:VsR st0 l xl) {i:Int} {k:Nat} (hi:i=k) (hk:k<l.length) {f:Fun [.int .i64,.bool,.bool,.str,.int .i64,.int .i64,.int .i64,.int .i64,.int .i64,.str,.tv,.tv,.tv] Prop}
  (hf:∀s' l' f' ub1 ul1 uf1,l[k]? =some (.mk s' l' f')->VlR st0 (.mk s' l' f') (Aq s' ub1 ul1 uf1)->List.all (Aq s' ub1 ul1 uf1) Ah=true->f s'.kind s'.b s'.neg s'.dg s'.ex s'.tk s'.td s'.tn s'.tz s'.text ub1 ul1 uf1):
  (0<=i/\i<(lenZ 13 ul:Int))/\Ai ((Al st [] (.t (ixT 13 ul (Int.toNat i))) 0 13).map TV.agg) fun x=>BG [.int .i64,.bool,.bool,.str,.int .i64,.int .i64,.int .i64,.int .i64,.int .i64,.str,.tv,.tv,.tv] x f:=by
 subst hi
 have gw:l[k]? =some l[k]:=List.getElem?_eq_getElem hk
 obtain⟨cw,hw,hcw,hcl⟩:=h3.get gw
 rw[h2.lenZ,Int.toNat_natCast,(h2.keep hke).ldc h3.len hk,hcw]
 generalize l[k]=w at*
 cases w with
 | mk s' l' f'=>
 have hw0:=hw
 unfold VlR at hw0
 obtain⟨ub',ul',uf',xl',xf',rfl,w1,w2,w3,w4,w5⟩:=hw0
 exact⟨⟨by omega,by omega⟩,Ad rfl (Hk (hf s' l' f' ub' ul' uf' gw hw (Bi w1.one w2.one w4.one)))⟩
theorem el14 {st0 st:St} {uf:TV} {xf:List TV} {l:List Fd} (hke:Bm st0 st) (h2:SlR st0 14 uf l.length xf) (h3:FsR st0 l xf) {i:Int} {k:Nat} (hi:i=k) (hk:k<l.length) {f:Fun [.str,.int .i64,.bool,.bool,.str,.int .i64,.int .i64,.int .i64,.int .i64,.int .i64,.str,.tv,.tv,.tv] Prop}
  (hf:∀key s' l' f' ub1 ul1 uf1,l[k]? =some (.mk key (.mk s' l' f'))->VlR st0 (.mk s' l' f') (Aq s' ub1 ul1 uf1)->List.all (.str key::Aq s' ub1 ul1 uf1) Ah=true->f key s'.kind s'.b s'.neg s'.dg s'.ex s'.tk s'.td s'.tn s'.tz s'.text ub1 ul1 uf1):
  (0<=i/\i<(lenZ 14 uf:Int))/\Ai ((Al st [] (.t (ixT 14 uf (Int.toNat i))) 0 14).map TV.agg) fun x=>BG [.str,.int .i64,.bool,.bool,.str,.int .i64,.int .i64,.int .i64,.int .i64,.int .i64,.str,.tv,.tv,.tv] x f:=by
 subst hi
 have gw:l[k]? =some l[k]:=List.getElem?_eq_getElem hk
 obtain⟨cw,hw,hcw,hcl⟩:=h3.get gw
 rw[h2.lenZ,Int.toNat_natCast,(h2.keep hke).ldc h3.len hk,hcw]
 generalize l[k]=w at*
 cases w with
 | mk key w=>
 cases w with
 | mk s' l' f'=>
 have hw0:=hw
 unfold FdR at hw0
 obtain⟨cw2,rfl,hw1⟩:=hw0
 have hw2:=hw1
 unfold VlR at hw2
 obtain⟨ub',ul',uf',xl',xf',rfl,w1,w2,w3,w4,w5⟩:=hw2
 exact⟨⟨by omega,by omega⟩,Ad rfl (UR (hf key s' l' f' ub' ul' uf' gw hw1 (Se w1.one w2.one w4.one)))⟩
theorem Dq {α:Type} {l:List α} {k:Nat} {v:α} (h:l[k]? =some v):l.take (k+1)=l.take k++[v]:=by
 obtain⟨q1,q2⟩:=List.getElem?_eq_some_iff.1 h
 rw[List.take_succ_eq_append_getElem q1,q2]
theorem FA {α:Type} {l:List α} {k:Nat} {v:α} (h:l[k]? =some v):v∈l:=by
 obtain⟨q1,q2⟩:=List.getElem?_eq_some_iff.1 h
 rw[<-q2];exact List.getElem_mem q1
end Go.TVF
section
namespace Go.TVF
open Go.IntKind(i64 u8)
open Go
theorem or_i64 (x y:Nat) (hx:x<2^63) (hy:y<2^63):AN .or .i64 (x:Int) (y:Int)=((x ||| y:Nat):Int):=by
 have h:x ||| y<2^63:=Nat.or_lt_two_pow hx hy
 show IntKind.wrap .i64 ((BitVec.ofInt 64 (x:Int) ||| BitVec.ofInt 64 (y:Int)).toNat:Int)=_
 simp only[BitVec.ofInt_natCast,BitVec.toNat_or,BitVec.toNat_ofNat]
 rw[Nat.mod_eq_of_lt (by omega),Nat.mod_eq_of_lt (by omega),Am _ (by omega) (by omega)]
theorem and_i64 (x y:Nat) (hx:x<2^63) (hy:y<2^63):AN .and .i64 (x:Int) (y:Int)=((x&&&y:Nat):Int):=by
 have h:x&&&y<2^63:=Nat.and_lt_two_pow _ hy
 show IntKind.wrap .i64 ((BitVec.ofInt 64 (x:Int)&&&BitVec.ofInt 64 (y:Int)).toNat:Int)=_
 simp only[BitVec.ofInt_natCast,BitVec.toNat_and,BitVec.toNat_ofNat]
 rw[Nat.mod_eq_of_lt (by omega),Nat.mod_eq_of_lt (by omega),Am _ (by omega) (by omega)]
theorem Va (x y:Nat) (hx:x<2^8) (hy:y<2^8):AN .and .u8 (x:Int) (y:Int)=((x&&&y:Nat):Int):=by
 have h:x&&&y<2^8:=Nat.and_lt_two_pow _ hy
 show IntKind.wrap .u8 ((BitVec.ofInt 8 (x:Int)&&&BitVec.ofInt 8 (y:Int)).toNat:Int)=_
 simp only[BitVec.ofInt_natCast,BitVec.toNat_and,BitVec.toNat_ofNat]
 rw[Nat.mod_eq_of_lt (by omega),Nat.mod_eq_of_lt (by omega),wrapU8 _ (by omega) (by omega)]
theorem Ri (a b m:Nat) (hb:b<2^m) (h:a*2^m+b<2^63):AN .or .i64 ((a*2^m:Nat):Int) (b:Int)=((a*2^m+b:Nat):Int):=by
 have hb':b<2^63:=by omega
 rw[or_i64 _ _ (by omega) hb',Nat.mul_comm a,Nat.two_pow_add_eq_or_of_lt hb]
theorem Iy (a m:Nat) (ha:a<2^63) (hm:m<63):AN .and .i64 (a:Int) ((2^m-1:Nat):Int)=((a%2^m:Nat):Int):=by
 have:2^m<2^63:=Nat.pow_lt_pow_right (by decide) hm
 rw[and_i64 _ _ ha (by omega),Nat.and_two_pow_sub_one_eq_mod]
theorem TJ (n:Nat) (h:n<=255):IntKind.wrap .i64 (n:Int)=n:=Am _ (by omega) (by omega)
theorem GK {α:Type} (l:List α) (i:Nat) (d:α) (h:i<l.length):l.take (i+1)=l.take i++[l.getD i d]:=by
 rw[List.take_add_one,List.getElem?_eq_getElem h,List.getD,List.getElem?_eq_getElem h];rfl
theorem shr_i64 (x m:Nat) (h:m<=64):Int.fdiv (x:Int) (2^(min m (IntKind.bits .i64)))=((x/2^m:Nat):Int):=by
 rw[show min m (IntKind.bits .i64)=m from Nat.min_eq_left h,show(2:Int)^m=((2^m:Nat):Int) by simp,Int.fdiv_eq_ediv_of_nonneg _ (Int.natCast_nonneg _)]
 rfl
theorem Tj {α:Type} (l:List α) (i j:Nat) (d:α):(l.drop i).getD j d=l.getD (i+j) d:=by
 simp[List.getD,List.getElem?_drop]
theorem M9 {α:Type} (l:List α) (i j:Nat):(l.take j).drop i=(l.drop i).take (j-i):=by
 rw[List.drop_take]
def bt (l:B8) (i:Nat):Nat:=(l.getD i 0).toNat
theorem E5 (l:B8) (i:Nat):bt l i<256:=(l.getD i 0).toNat_lt
theorem O4 (l:B8) (i j:Nat):bt (l.drop i) j=bt l (i+j):=by simp[bt,Tj]
def dN (l:B8):Nat×Nat:=Lib.decodeN l.length (bt l 0) (bt l 1) (bt l 2) (bt l 3)
def ul (l:B8):Nat:=if l=[]∨dN l=(65533,1)then 0 else(dN l).2
def ur (l:B8):Nat:=(dN l).1
def A2 (r:Nat):Prop:=r<=1114111/\(r<55296∨57343<r)
instance (r:Nat):Decidable (A2 r):=by unfold A2;infer_instance
def FH (r:Nat):B8:=
 if r<128 then [UInt8.ofNat r]else if r<2048 then [UInt8.ofNat (192+r/64),UInt8.ofNat (128+r%64)]
 else if r<65536 then [UInt8.ofNat (224+r/4096),UInt8.ofNat (128+r/64%64),UInt8.ofNat (128+r%64)]
 else [UInt8.ofNat (240+r/262144),UInt8.ofNat (128+r/4096%64),UInt8.ofNat (128+r/64%64),UInt8.ofNat (128+r%64)]
theorem Da (n:Nat) (c:UInt8):UInt8.ofNat n=c↔n%256=c.toNat:=by
 rw[<-UInt8.toNat_inj];simp
theorem JQ (l:B8) (h:1<=l.length):l.take 1=[l.getD 0 0]:=by
 rw[GK l 0 0 (by omega)];rfl
theorem JP (l:B8) (h:2<=l.length):l.take 2=[l.getD 0 0,l.getD 1 0]:=by
 rw[GK l 1 0 (by omega),JQ l (by omega)];rfl
theorem G2 (l:B8) (h:3<=l.length):l.take 3=[l.getD 0 0,l.getD 1 0,l.getD 2 0]:=by
 rw[GK l 2 0 (by omega),JP l (by omega)];rfl
theorem Ku (l:B8) (h:4<=l.length):l.take 4=[l.getD 0 0,l.getD 1 0,l.getD 2 0,l.getD 3 0]:=by
 rw[GK l 3 0 (by omega),G2 l (by omega)];rfl
def rsz (b0:Nat):Nat:=if 240<=b0 then 4 else if 224<=b0 then 3 else if 192<=b0 then 2 else 1
def rb0 (b0:Nat):Nat:=if 240<=b0 then b0%8 else if 224<=b0 then b0%16 else if 192<=b0 then b0%32 else b0
def CF (l:B8) (r0:Nat):Nat->Nat
 | 0=>r0
 | j+1=>CF l r0 j*64+bt l (j+1)%64
theorem OG (l:B8) (r0:Nat) (h:r0<256):∀j,CF l r0 j<256*64^j
 | 0=>by simpa [CF]using h
 | j+1=>by
  have:=OG l r0 h j
  have h2:=Nat.mod_lt (bt l (j+1)) (show 0<64 by omega)
  simp only[CF,Nat.pow_succ]
  omega
theorem rb0_lt (b0:Nat) (h:b0<256):rb0 b0<256:=by
 unfold rb0
 repeat' split
 all_goals omega
theorem TR (b0:Nat):1<=rsz b0/\rsz b0<=4:=by
 unfold rsz
 repeat' split
 all_goals omega
def SZ (l:B8):Nat×Nat:=
 let size:=rsz (bt l 0)
 let r:=CF l (rb0 (bt l 0)) (size-1)
 if l.length<size then(0,0)else if A2 r/\FH r=l.take size then(r,size)else(0,0)
theorem Dk {a b:UInt8} {x y:B8}:(a::x=b::y)↔a=b/\x=y:=by simp
set_option maxHeartbeats 4000000 in
theorem Lt (l:B8) (h:l≠ []):SZ l=if ul l=0 then(0,0)else(ur l,ul l):=by
 have hl:1<=l.length:=by cases l with | nil=>exact absurd rfl h | cons a r=>simp
 have h0:=E5 l 0
 have h1:=E5 l 1
 have h2:=E5 l 2
 have h3:=E5 l 3
 have e0:(l.getD 0 0).toNat=bt l 0:=rfl
 have e1:(l.getD 1 0).toNat=bt l 1:=rfl
 have e2:(l.getD 2 0).toNat=bt l 2:=rfl
 have e3:(l.getD 3 0).toNat=bt l 3:=rfl
 have hul:ul l=if dN l=(65533,1)then 0 else(dN l).2:=by simp[ul,h]
 rw[hul,ur]
 unfold dN
 generalize hb0:bt l 0=b0 at*
 generalize hb1:bt l 1=b1 at*
 generalize hb2:bt l 2=b2 at*
 generalize hb3:bt l 3=b3 at*
 unfold SZ
 simp only[hb0]
 by_cases c4:240<=b0
 ·have r4:rsz b0=4:=by unfold rsz;rw[if_pos c4]
  have rb:rb0 b0=b0%8:=by unfold rb0;rw[if_pos c4]
  rw[r4,rb]
  simp only[Nat.reduceSub,CF,hb1,hb2,hb3,Nat.zero_add,Nat.reduceAdd]
  by_cases hn:l.length<4
  ·rw[if_pos hn]
   have:Lib.decodeN l.length b0 b1 b2 b3=(65533,1):=by
    unfold Lib.decodeN
    rw[if_neg (by omega),if_neg (by omega),if_neg (by omega),if_neg (by omega)]
   rw[this];simp
  ·rw[if_neg hn]
   have hEnc:(A2 (((b0%8*64+b1%64)*64+b2%64)*64+b3%64)/\FH (((b0%8*64+b1%64)*64+b2%64)*64+b3%64)=l.take 4)↔(b0/8=30/\b1/64=2/\b2/64=2/\b3/64=2/\65536<=((b0%8*64+b1%64)*64+b2%64)*64+b3%64/\((b0%8*64+b1%64)*64+b2%64)*64+b3%64<=1114111):=by
    rw[Ku l (by omega)]
    generalize hr:((b0%8*64+b1%64)*64+b2%64)*64+b3%64=r
    unfold A2 FH
    by_cases k1:r<128
    ·rw[if_pos k1];simp;omega
    ·rw[if_neg k1]
     by_cases k2:r<2048
     ·rw[if_pos k2];simp;omega
     ·rw[if_neg k2]
      by_cases k3:r<65536
      ·rw[if_pos k3];simp;omega
      ·rw[if_neg k3]
       simp only[Dk,Da,e0,e1,e2,e3,and_true]
       omega
   by_cases hE:b0/8=30/\b1/64=2/\b2/64=2/\b3/64=2/\65536<=((b0%8*64+b1%64)*64+b2%64)*64+b3%64/\((b0%8*64+b1%64)*64+b2%64)*64+b3%64<=1114111
   ·rw[if_pos (hEnc.2 hE)]
    have:Lib.decodeN l.length b0 b1 b2 b3=(((b0%8*64+b1%64)*64+b2%64)*64+b3%64,4):=by
     unfold Lib.decodeN
     rw[if_neg (by omega),if_neg (by omega),if_neg (by omega),if_pos (by omega),if_pos (by omega)]
     simp only[Prod.mk.injEq,and_true];omega
    rw[this];simp
   ·rw[if_neg (fun hh=>hE (hEnc.1 hh))]
    have:Lib.decodeN l.length b0 b1 b2 b3=(65533,1):=by
     unfold Lib.decodeN
     rw[if_neg (by omega),if_neg (by omega),if_neg (by omega)]
     split
     ·rw[if_neg (by omega)]
     ·rfl
    rw[this];simp
 ·by_cases c3:224<=b0
  ·have r4:rsz b0=3:=by unfold rsz;rw[if_neg c4,if_pos c3]
   have rb:rb0 b0=b0%16:=by unfold rb0;rw[if_neg c4,if_pos c3]
   rw[r4,rb]
   simp only[Nat.reduceSub,CF,hb1,hb2,Nat.zero_add,Nat.reduceAdd]
   by_cases hn:l.length<3
   ·rw[if_pos hn]
    have:Lib.decodeN l.length b0 b1 b2 b3=(65533,1):=by
     unfold Lib.decodeN
     rw[if_neg (by omega),if_neg (by omega),if_neg (by omega),if_neg (by omega)]
    rw[this];simp
   ·rw[if_neg hn]
    have hEnc:(A2 ((b0%16*64+b1%64)*64+b2%64)/\FH ((b0%16*64+b1%64)*64+b2%64)=l.take 3)↔(b1/64=2/\b2/64=2/\2048<=(b0%16*64+b1%64)*64+b2%64/\A2 ((b0%16*64+b1%64)*64+b2%64)):=by
     rw[G2 l (by omega)]
     generalize hr:(b0%16*64+b1%64)*64+b2%64=r
     unfold A2 FH
     by_cases k1:r<128
     ·rw[if_pos k1];simp;omega
     ·rw[if_neg k1]
      by_cases k2:r<2048
      ·rw[if_pos k2];simp;omega
      ·rw[if_neg k2]
       by_cases k3:r<65536
       ·rw[if_pos k3]
        simp only[Dk,Da,e0,e1,e2,and_true]
        omega
       ·omega
    by_cases hE:b1/64=2/\b2/64=2/\2048<=(b0%16*64+b1%64)*64+b2%64/\A2 ((b0%16*64+b1%64)*64+b2%64)
    ·rw[if_pos (hEnc.2 hE)]
     have:Lib.decodeN l.length b0 b1 b2 b3=((b0%16*64+b1%64)*64+b2%64,3):=by
      unfold A2 at hE
      unfold Lib.decodeN
      rw[if_neg (by omega),if_neg (by omega),if_pos (by omega),if_pos (by omega)]
      simp only[Prod.mk.injEq,and_true];omega
     rw[this];simp
    ·rw[if_neg (fun hh=>hE (hEnc.1 hh))]
     have:Lib.decodeN l.length b0 b1 b2 b3=(65533,1):=by
      unfold A2 at hE
      unfold Lib.decodeN
      rw[if_neg (by omega),if_neg (by omega)]
      split
      ·rw[if_neg (by omega)]
      ·rw[if_neg (by omega)]
     rw[this];simp
  ·by_cases c2:192<=b0
   ·have r4:rsz b0=2:=by unfold rsz;rw[if_neg c4,if_neg c3,if_pos c2]
    have rb:rb0 b0=b0%32:=by unfold rb0;rw[if_neg c4,if_neg c3,if_pos c2]
    rw[r4,rb]
    simp only[Nat.reduceSub,CF,hb1,Nat.zero_add,Nat.reduceAdd]
    by_cases hn:l.length<2
    ·rw[if_pos hn]
     have:Lib.decodeN l.length b0 b1 b2 b3=(65533,1):=by
      unfold Lib.decodeN
      rw[if_neg (by omega),if_neg (by omega),if_neg (by omega),if_neg (by omega)]
     rw[this];simp
    ·rw[if_neg hn]
     have hEnc:(A2 (b0%32*64+b1%64)/\FH (b0%32*64+b1%64)=l.take 2)↔(b1/64=2/\128<=b0%32*64+b1%64):=by
      rw[JP l (by omega)]
      generalize hr:b0%32*64+b1%64=r
      unfold A2 FH
      by_cases k1:r<128
      ·rw[if_pos k1];simp;omega
      ·rw[if_neg k1,if_pos (by omega)]
       simp only[Dk,Da,e0,e1,and_true]
       omega
     by_cases hE:b1/64=2/\128<=b0%32*64+b1%64
     ·rw[if_pos (hEnc.2 hE)]
      have:Lib.decodeN l.length b0 b1 b2 b3=(b0%32*64+b1%64,2):=by
       unfold Lib.decodeN
       rw[if_neg (by omega),if_pos (by omega),if_pos (by omega)]
      rw[this];simp
     ·rw[if_neg (fun hh=>hE (hEnc.1 hh))]
      have:Lib.decodeN l.length b0 b1 b2 b3=(65533,1):=by
       unfold Lib.decodeN
       rw[if_neg (by omega)]
       split
       ·rw[if_neg (by omega)]
       ·rw[if_neg (by omega),if_neg (by omega)]
      rw[this];simp
   ·have r4:rsz b0=1:=by unfold rsz;rw[if_neg c4,if_neg c3,if_neg c2]
    have rb:rb0 b0=b0:=by unfold rb0;rw[if_neg c4,if_neg c3,if_neg c2]
    rw[r4,rb]
    simp only[Nat.reduceSub,CF]
    rw[if_neg (by omega),JQ l hl]
    have hEnc:(A2 b0/\FH b0=[l.getD 0 0])↔b0<128:=by
     unfold A2 FH
     by_cases k1:b0<128
     ·rw[if_pos k1];simp only[Dk,Da,e0,and_true];omega
     ·rw[if_neg k1,if_pos (by omega)];simp;omega
    by_cases hE:b0<128
    ·rw[if_pos (hEnc.2 hE)]
     have:Lib.decodeN l.length b0 b1 b2 b3=(b0,1):=by unfold Lib.decodeN;rw[if_pos hE]
     rw[this,if_neg (by simp;omega)]
     simp only[Prod.mk.injEq]
     rw[if_neg (by omega)]
     simp
    ·rw[if_neg (fun hh=>hE (hEnc.1 hh))]
     have:Lib.decodeN l.length b0 b1 b2 b3=(65533,1):=by
      unfold Lib.decodeN
      rw[if_neg (by omega),if_neg (by omega),if_neg (by omega),if_neg (by omega)]
     rw[this];simp
theorem ul_char (l:B8) (h:ul l≠0):A2 (ur l)/\FH (ur l)=l.take (ul l)/\ul l<=l.length/\ul l<=4:=by
 have hne:l≠ []:=fun h0=>h (by simp[ul,h0])
 have e:=Lt l hne
 rw[if_neg h]at e
 unfold SZ at e
 simp only at e
 split at e
 ·simp only[Prod.mk.injEq]at e;omega
 ·split at e
  ·rename_i hn hc
   simp only[Prod.mk.injEq]at e
   rw[<-e.1,<-e.2]
   exact⟨hc.1,hc.2,by omega,(TR _).2⟩
  ·simp only[Prod.mk.injEq]at e;omega
theorem Pp (l:B8):ul l<=l.length:=by
 by_cases h:ul l=0
 ·omega
 ·exact(ul_char l h).2.2.1
theorem TL (l:B8) (h:l≠ []) (hb:bt l 0<128):ul l=1/\ur l=bt l 0:=by
 have:dN l=(bt l 0,1):=by unfold dN Lib.decodeN;rw[if_pos hb]
 unfold ul ur
 rw[this,if_neg (by simp[h];omega)]
 exact⟨rfl,rfl⟩
theorem Oo (l:B8) (h:l≠ []):ul l=0↔dN l=(65533,1):=by
 have hul:ul l=if dN l=(65533,1)then 0 else(dN l).2:=by simp[ul,h]
 rw[hul]
 constructor
 ·intro h0
  by_cases hd:dN l=(65533,1)
  ·exact hd
  ·rw[if_neg hd]at h0
   exfalso
   unfold dN Lib.decodeN at h0
   repeat' split at h0
   all_goals simp at h0
 ·intro h0;rw[if_pos h0]
theorem UT (l:B8) (h:ul l≠0):dN l=(ur l,ul l):=by
 have hne:l≠ []:=fun h0=>h (by simp[ul,h0])
 have hul:ul l=if dN l=(65533,1)then 0 else(dN l).2:=by simp[ul,hne]
 have hd:dN l≠(65533,1):=fun hd=>h ((Oo l hne).2 hd)
 rw[if_neg hd]at hul
 rw[hul];rfl
theorem ul_not (l:B8) (h:ul l≠0):¬(ur l=65533/\ul l=1):=by
 intro hh
 have hne:l≠ []:=fun h0=>h (by simp[ul,h0])
 have:=UT l h
 rw[hh.1,hh.2]at this
 exact h ((Oo l hne).2 this)
def DM (l:B8):Nat:=if h:ul l=0 then 0 else ul l+DM (l.drop (ul l))
termination_by l.length
decreasing_by
 have:=Pp l
 simp only[List.length_drop];omega
theorem B7 (l:B8) (h:ul l=0):DM l=0:=by rw[DM,dif_pos h]
theorem Gy (l:B8) (h:ul l≠0):DM l=ul l+DM (l.drop (ul l)):=by rw[DM,dif_neg h]
theorem R4:∀(n:Nat) (l:B8),l.length<=n->DM l<=l.length
 | 0,l,h=>by
  have:l=[]:=List.eq_nil_of_length_eq_zero (by omega)
  subst this
  rw[B7 _ (by simp[ul])];simp
 | n+1,l,h=>by
  by_cases h0:ul l=0
  ·rw[B7 l h0];omega
  ·have h1:=Pp l
   have h2:=R4 n (l.drop (ul l)) (by simp only[List.length_drop];omega)
   rw[Gy l h0]
   simp only[List.length_drop]at h2;omega
end Go.TVF
end
namespace Go.TVF
open Go.IntKind(i64 u8)
open Go Go.Proofs
def JB (c:UInt8):Prop:=48<=c.toNat/\c.toNat<=57
instance (c:UInt8):Decidable (JB c):=inferInstanceAs (Decidable (_/\_))
def GR (l:B8):Nat:=(l.reverse.takeWhile (·==48)).length
def D5 (neg:Bool) (dg:B8) (ex:Int):Prop:=
 (dg=[]->neg=false/\ex=0)/\(dg≠ []->dg.length<=120/\(∀c,c∈dg->JB c)/\dg.getD 0 0≠48/\GR dg=0/\ -400<=ex/\ex<=400)
instance (neg:Bool) (dg:B8) (ex:Int):Decidable (D5 neg dg ex):=inferInstanceAs (Decidable ((_->_)/\(_->_)))
def DJ (k d n z:Int):Prop:=
 1<=k/\k<=4/\0<=d/\d<=3652058/\0<=n/\n<=86399999999999/\ -1439<=z/\z<=1439/\(k=2->d=0)/\(k=1->n=0)/\(k≠4->z=0)
instance (k d n z:Int):Decidable (DJ k d n z):=inferInstanceAs (Decidable (_/\_/\_/\_/\_/\_/\_/\_/\(_->_)/\(_->_)/\(_->_)))
def leapY (y:Nat):Prop:=y%4=0/\(y%100≠0∨y%400=0)
instance (y:Nat):Decidable (leapY y):=inferInstanceAs (Decidable (_/\_))
section
structure GO (s:Sc) (l:List Vl) (f:List Fd):Prop where
 k0:0<=s.kind
 k7:s.kind<=7
 bo:s.kind≠1->s.b=false
 nu:s.kind≠2->s.neg=false/\s.dg=[]/\s.ex=0
 ti:s.kind≠3->s.tk=0/\s.td=0/\s.tn=0/\s.tz=0
 tx:s.kind≠4->s.text=[]
 by_:s.kind≠5->s.bytes=[]
 ls:s.kind≠6->l=[]
 fs:s.kind≠7->f=[]
noncomputable instance (s:Sc) (l:List Vl) (f:List Fd):Decidable (GO s l f):=Classical.propDecidable _
def U8 (s:B8):Prop:=DM s=s.length
instance (s:B8):Decidable (U8 s):=inferInstanceAs (Decidable (_=_))
def Cq (seen:List B8):List Fd->Nat
 | []=>0
 | d::r=>if U8 d.key then(if 1024<d.key.length then 10 else if d.key∈seen then 8 else Cq (d.key::seen) r)else 5
noncomputable def DC (s:Sc) (l:List Vl) (f:List Fd):Nat:=
 if GO s l f then(if D5 s.neg s.dg s.ex then(if s.kind=3->DJ s.tk s.td s.tn s.tz then(if U8 s.text then(if 65536<s.text.length then 10 else if 65536<s.bytes.length then 10 else Cq [] f)else 5)else 2)else 2)else 6
noncomputable def Fx (x:Nat×Nat) (f:Nat->Nat×Nat):Nat×Nat:=if x.2=0 then f x.1 else x
mutual
noncomputable def Cg (d n:Nat):Vl->Nat×Nat
 | .mk s l f=>if 48<d then(n,9)else if 65536<=n then(n,10)else if DC s l f≠0 then(n,DC s l f)else Fx (Bu (d+1) (n+1) l) fun m=>BO (d+1) m f
noncomputable def Bu (d n:Nat):List Vl->Nat×Nat
 | []=>(n,0)
 | v::r=>Fx (Cg d n v) fun m=>Bu d m r
noncomputable def Kg (d n:Nat):Fd->Nat×Nat
 | .mk _ v=>Cg d n v
noncomputable def BO (d n:Nat):List Fd->Nat×Nat
 | []=>(n,0)
 | x::r=>Fx (Kg d n x) fun m=>BO d m r
end
noncomputable def AY (v:Vl):Nat:=(Cg 1 0 v).2
theorem By {x:Nat×Nat} {f:Nat->Nat×Nat} (h:(Fx x f).2=0):x.2=0/\(f x.1).2=0:=by
 unfold Fx at h
 split at h
 ·rename_i h0;exact⟨h0,h⟩
 ·rename_i h0;exact absurd h h0
theorem B9 {x:Nat×Nat} {f:Nat->Nat×Nat} (h:x.2=0):Fx x f=f x.1:=by unfold Fx;rw[if_pos h]
theorem IB {x:Nat×Nat} {f:Nat->Nat×Nat} (h:x.2≠0):Fx x f=x:=by unfold Fx;rw[if_neg h]
theorem P9:∀(f:List Fd) (seen:List B8),Cq seen f=0->MU f/\(∀d,d∈f->d.key∉seen/\U8 d.key/\d.key.length<=1024)
 | [],seen,_=>⟨List.nodup_nil,fun d h=>by cases h⟩
 | d::r,seen,h=>by
  unfold Cq at h
  split at h
  ·rename_i h1
   split at h
   ·cases h
   ·rename_i h2
    split at h
    ·cases h
    ·rename_i h3
     obtain⟨k1,k2⟩:=P9 r (d.key::seen) h
     refine⟨?_,fun x hx=>?_⟩
     ·unfold MU
      rw[List.map_cons,List.nodup_cons]
      refine⟨fun hm=>?_,k1⟩
      obtain⟨x,hx,he⟩:=List.mem_map.1 hm
      exact(k2 x hx).1 (he▸.head _)
     ·rcases List.mem_cons.1 hx with rfl | hx
      ·exact⟨h3,h1,by omega⟩
      ·obtain⟨q1,q2,q3⟩:=k2 x hx
       exact⟨fun hm=>q1 (.tail _ hm),q2,q3⟩
  ·cases h
structure Oi (s:Sc) (l:List Vl) (f:List Fd):Prop where
 own:GO s l f
 dec:D5 s.neg s.dg s.ex
 time:s.kind=3->DJ s.tk s.td s.tn s.tz
 text:U8 s.text
 tlen:s.text.length<=65536
 blen:s.bytes.length<=65536
 keys:Cq [] f=0
theorem KL {s:Sc} {l:List Vl} {f:List Fd}:DC s l f=0↔Oi s l f:=by
 unfold DC
 constructor
 ·intro h
  split at h
  ·rename_i h1
   split at h
   ·rename_i h2
    split at h
    ·rename_i h3
     split at h
     ·rename_i h4
      split at h
      ·cases h
      ·rename_i h5
       split at h
       ·cases h
       ·rename_i h6
        exact⟨h1,h2,h3,h4,by omega,by omega,h⟩
     ·cases h
    ·cases h
   ·cases h
  ·cases h
 ·intro h
  rw[if_pos h.own,if_pos h.dec,if_pos h.time,if_pos h.text,if_neg (by have:=h.tlen;omega),if_neg (by have:=h.blen;omega)]
  exact h.keys
mutual
def AZ:Vl->Prop
 | .mk s l f=>Oi s l f/\Cv l/\Cw f
def Cv:List Vl->Prop
 | []=>True
 | v::r=>AZ v/\Cv r
def Hp:Fd->Prop
 | .mk _ v=>AZ v
def Cw:List Fd->Prop
 | []=>True
 | d::r=>Hp d/\Cw r
end
mutual
theorem OY:∀(v:Vl) (d n:Nat),(Cg d n v).2=0->AZ v
 | .mk s l f,d,n,h=>by
  unfold Cg at h
  unfold AZ
  split at h
  ·cases h
  ·split at h
   ·cases h
   ·split at h
    ·rename_i h1;exact absurd h h1
    ·rename_i h1
     obtain⟨h2,h3⟩:=By h
     exact⟨KL.1 (Decidable.of_not_not h1),Qy l _ _ h2,QC f _ _ h3⟩
theorem Qy:∀(l:List Vl) (d n:Nat),(Bu d n l).2=0->Cv l
 | [],d,n,_=>by unfold Cv;trivial
 | v::r,d,n,h=>by
  unfold Bu at h
  unfold Cv
  obtain⟨h2,h3⟩:=By h
  exact⟨OY v _ _ h2,Qy r _ _ h3⟩
theorem chkD_ok:∀(x:Fd) (d n:Nat),(Kg d n x).2=0->Hp x
 | .mk k v,d,n,h=>by unfold Kg at h;unfold Hp;exact OY v _ _ h
theorem QC:∀(l:List Fd) (d n:Nat),(BO d n l).2=0->Cw l
 | [],d,n,_=>by unfold Cw;trivial
 | x::r,d,n,h=>by
  unfold BO at h
  unfold Cw
  obtain⟨h2,h3⟩:=By h
  exact⟨chkD_ok x _ _ h2,QC r _ _ h3⟩
end
end
theorem SlR.isPtr {st:St} {sz n i:Nat} {u:TV} {xs:List TV} (h:SlR st sz u n xs) (hi:i<n):TVF.isPtr (ixT sz u i)=true:=by
 rcases h with(⟨rfl,rfl,rfl⟩ | ⟨tip,rfl⟩) | ⟨b,off,cap,l,rfl,_⟩
 ·omega
 ·rfl
 ·rfl
theorem SlR.ldcf {st:St} {sz n i f m:Nat} {u:TV} {xs:List TV} (h:SlR st sz u n xs) (hl:xs.length=n*sz) (hi:i<n) (hf:f+m<=sz):Al st [] (.t (At (ixT sz u i) f)) 0 m=some ((xs.drop (i*sz+f)).take m):=by
 have hm:(i+1)*sz<=n*sz:=Nat.mul_le_mul_right _ hi
 rw[Nat.add_mul,Nat.one_mul]at hm
 rcases h with(⟨rfl,rfl,rfl⟩ | ⟨tip,rfl⟩) | ⟨b,off,cap,l,rfl,h2,h3,h4,h5,rfl⟩
 ·omega
 ·show Al st [] (.t (.rptr ((xs.drop (i*sz)).drop f))) 0 m=_
  rw[List.drop_drop,Mq m 0 (by rw[List.length_drop];omega),List.drop_zero]
 ·have hc:n*sz<=cap*sz:=Nat.mul_le_mul_right _ h5
  have e1:(((l.drop off).take (n*sz)).drop (i*sz+f)).take m=(l.drop (off+i*sz+f)).take m:=by
   rw[List.drop_take,List.drop_drop,List.take_take,Nat.min_eq_left (by omega),Nat.add_assoc]
  rw[e1]
  have e:=J6 (B:=l.drop (off+i*sz+f+m)) (st:=st) (b:=b) ((l.drop (off+i*sz+f)).take m) l 0 (off+i*sz+f) h3 (by
   have:=List.take_append_drop m (l.drop (off+i*sz+f))
   rw[List.drop_drop]at this
   rw[Nat.add_zero];exact this.symm)
  rw[show((l.drop (off+i*sz+f)).take m).length=m by simp;omega]at e
  exact e
theorem SlR.ldf {st:St} {sz n i f:Nat} {u x:TV} {xs:List TV} (h:SlR st sz u n xs) (hl:xs.length=n*sz) (hi:i<n) (hf:f<sz) (hx:xs[i*sz+f]? =some x):Ac st [] (.t (At (ixT sz u i) f)) 0=some x:=by
 have:=h.ldcf (f:=f) (m:=1) hl hi (by omega)
 have hlt:i*sz+f<xs.length:=by
  obtain⟨q,_⟩:=List.getElem?_eq_some_iff.1 hx
  exact q
 rw[List.drop_eq_getElem_cons hlt]at this
 rw[List.getElem?_eq_getElem hlt]at hx
 simp only[Al,List.take_succ_cons,List.take_zero]at this
 cases hq:Ac st [] (.t (At (ixT sz u i) f)) 0 with
 | none=>rw[hq]at this;cases this
 | some y=>
  rw[hq]at this
  simp only[Option.map_some,Option.some.injEq,List.cons.injEq,and_true]at this
  rw[this];exact hx
theorem K9 {st0 st:St} {uf:TV} {xf:List TV} {l:List Fd} (hke:Bm st0 st) (h2:SlR st0 14 uf l.length xf) (h3:FsR st0 l xf) {i:Int} {k:Nat} (hi:i=k) {d:Fd} (hd:l[k]? =some d) {f:B8->Prop} (hf:f d.key):
  (0<=i/\i<(lenZ 14 uf:Int))/\need (TVF.isPtr (ixT 14 uf (Int.toNat i))) (Ai (Ac st [] (.t (At (ixT 14 uf (Int.toNat i)) 0)) 0) fun x=>AE .str x f):=by
 subst hi
 obtain⟨hk,_⟩:=List.getElem?_eq_some_iff.1 hd
 obtain⟨cw,hw,hcw,hcl⟩:=h3.get hd
 rw[h2.lenZ,Int.toNat_natCast]
 have hx:xf[k*14+0]? =some (.str d.key):=by
  cases d with
  | mk key w=>
   unfold FdR at hw
   obtain⟨cs,rfl,_⟩:=hw
   have:=congrArg (fun z=>z[0]?) hcw
   simpa [Fd.key]using this
 exact⟨⟨by omega,by omega⟩,Aa (h2.isPtr hk) (Ad ((h2.keep hke).ldf h3.len hk (by omega) hx) hf)⟩
theorem LW {st0 st:St} {uf:TV} {xf:List TV} {l:List Fd} (hke:Bm st0 st) (h2:SlR st0 14 uf l.length xf) (h3:FsR st0 l xf) {i:Int} {k:Nat} (hi:i=k) (hk:k<l.length) {f:Fun [.int .i64,.bool,.bool,.str,.int .i64,.int .i64,.int .i64,.int .i64,.int .i64,.str,.tv,.tv,.tv] Prop}
  (hf:∀key s' l' f' ub1 ul1 uf1,l[k]? =some (.mk key (.mk s' l' f'))->VlR st0 (.mk s' l' f') (Aq s' ub1 ul1 uf1)->List.all (Aq s' ub1 ul1 uf1) Ah=true->f s'.kind s'.b s'.neg s'.dg s'.ex s'.tk s'.td s'.tn s'.tz s'.text ub1 ul1 uf1):
  (0<=i/\i<(lenZ 14 uf:Int))/\need (TVF.isPtr (ixT 14 uf (Int.toNat i))) (Ai ((Al st [] (.t (At (ixT 14 uf (Int.toNat i)) 1)) 0 13).map TV.agg) fun x=>BG [.int .i64,.bool,.bool,.str,.int .i64,.int .i64,.int .i64,.int .i64,.int .i64,.str,.tv,.tv,.tv] x f):=by
 subst hi
 have gw:l[k]? =some l[k]:=List.getElem?_eq_getElem hk
 obtain⟨cw,hw,hcw,hcl⟩:=h3.get gw
 rw[h2.lenZ,Int.toNat_natCast]
 refine⟨⟨by omega,by omega⟩,Aa (h2.isPtr hk) ?_⟩
 rw[(h2.keep hke).ldcf (f:=1) (m:=13) h3.len hk (by omega)]
 generalize l[k]=w at*
 cases w with
 | mk key w=>
 cases w with
 | mk s' l' f'=>
 unfold FdR at hw
 obtain⟨cw2,rfl,hw1⟩:=hw
 have hw2:=hw1
 unfold VlR at hw2
 obtain⟨ub',ul',uf',xl',xf',rfl,w1,w2,w3,w4,w5⟩:=hw2
 have e:(xf.drop (k*14+1)).take 13=Aq s' ub' ul' uf':=by
  rw[<-List.drop_drop]
  have:=congrArg (fun z=>z.drop 1) hcw
  simp only[List.drop_take]at this
  simpa [Aq]using this
 rw[e]
 exact Ad rfl (Hk (hf key s' l' f' ub' ul' uf' gw hw1 (Bi w1.one w2.one w4.one)))
theorem Rd.src {sz n:Nat} {v:TV} {xs:List TV} (h:Rd sz v n xs) (hl:xs.length=n*sz) (st:St):Cu st sz v=some (n,xs):=(SlR.of_rd (st:=st) h).src hl
theorem Bm.trans {a b c:St} (h:Bm a b) (k:Bm b c):Bm a c:=⟨Nat.le_trans h.1 k.1,fun i hi=>(k.2 i (Nat.lt_of_lt_of_le hi h.1)).trans (h.2 i hi)⟩
theorem Ct {s:B8} {f:B8->Prop} (h:f s):AE .str (.str s) f:=h
theorem AV {k:IntKind} {n:Int} {f:Int->Prop} (h:f n):AE (.int k) (.int k n) f:=by
 simp only[AE];exact h
theorem GM {b:Bool} {f:Bool->Prop} (h:f b):AE .bool (.bool b) f:=h
end Go.TVF
