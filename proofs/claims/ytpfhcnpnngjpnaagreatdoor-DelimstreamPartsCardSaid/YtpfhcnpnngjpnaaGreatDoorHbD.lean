/- What the laws below rest on: a framework for Go programs, and contracts of the functions that they reach. -/
import Derived.Test.YtpfhcnpnngjpnaaGreatDoorHbC
import Derived.Lib.DecodeN
set_option maxRecDepth 20000
set_option linter.unusedVariables false
set_option linter.unusedSimpArgs false
namespace Go.TVF
open Go.IntKind(i64 u8)
open Go Go.Proofs
theorem QG (b:Int) (st:St) (K:Int->Int->St->Prop) (h:BId (b<128) (K 1 ((i64.wrap b)) st) (BId ((192:Int)<=b) (BId (b<224) (K 2 ((i64.wrap (Cz .and .u8 b (31:Int)))) st) (BId ((224:Int)<=b) (BId (b<240) (K 3 ((i64.wrap (Cz .and .u8 b (15:Int)))) st) (BId ((240:Int)<=b) (BId (b<248) (K 4 ((i64.wrap (Cz .and .u8 b (7:Int)))) st) (K 0 0 st)) (K 0 0 st))) (BId ((240:Int)<=b) (BId (b<248) (K 4 ((i64.wrap (Cz .and .u8 b (7:Int)))) st) (K 0 0 st)) (K 0 0 st)))) (BId ((224:Int)<=b) (BId (b<240) (K 3 ((i64.wrap (Cz .and .u8 b (15:Int)))) st) (BId ((240:Int)<=b) (BId (b<248) (K 4 ((i64.wrap (Cz .and .u8 b (7:Int)))) st) (K 0 0 st)) (K 0 0 st))) (BId ((240:Int)<=b) (BId (b<248) (K 4 ((i64.wrap (Cz .and .u8 b (7:Int)))) st) (K 0 0 st)) (K 0 0 st))))):Ae PR Ij [.int .u8 b] [.one (.int .i64),.one (.int .i64)] st K:=
 Ak (cfg:=⟨[],[],[]⟩) (h:= .none) mixed (fun _ _=>Tryz.call210 _ _) Tryz.func210 (by kernel_rfl) (by kernel_rfl) h
theorem N9 (r:Int) (st:St) (K:Bool->St->Prop) (h:BId ((0:Int)<=r) (BId (r<=1114111) (BId (r<55296) (K true st) (K ((decide ((57343:Int)<r))) st)) (K false st)) (K false st)):Ae PR Gm [.int .i64 r] [.one .bool] st K:=
 Ak (cfg:=⟨[],[],[]⟩) (h:= .none) mixed (fun _ _=>Tryz.call211 _ _) Tryz.func211 (by kernel_rfl) (by kernel_rfl) h
theorem PD (r:Int) (st:St) (K:Int->St->Prop) (h:BId (r<128) (K 1 st) (BId (r<2048) (K 2 st) (BId (r<65536) (K 3 st) (K 4 st)))):Ae PR He [.int .i64 r] [.one (.int .i64)] st K:=
 Ak (cfg:=⟨[],[],[]⟩) (h:= .none) mixed (fun _ _=>Tryz.call212 _ _) Tryz.func212 (by kernel_rfl) (by kernel_rfl) h
theorem EG (r:Nat) (st:St) (K:Bool->St->Prop) (h:Af (Ab st [] (.t (.box r 3)) 0) (fun (x1:TV)=>Ah .bool x1 (fun (b1:Bool)=>BIf b1 (Af (Ab st [] (.t (.box r 13)) 0) (fun (x2:TV)=>Ah (.int .i64) x2 (fun (n1:Int)=>K ((decide (n1=0))) st))) (K false st)))):Ae PR Ar [(.box r 0)] [.one .bool] st K:=
 Ak (cfg:=⟨[],[],[]⟩) (h:= .none) mixed (fun _ _=>Tryz.call213 _ _) Tryz.func213 (by kernel_rfl) (by kernel_rfl) h
theorem EX (r:Nat) (depth:Int) (st:St) (K:St->Prop) (h:Af (Ab st [] (.t (.box r 5)) 0) (fun (x1:TV)=>Ah (.int .i64) x1 (fun (n1:Int)=>BId (n1<depth) (Ae PR AL [(.box r 0),.int .i64 9] [] st (fun (a:St)=>Af (Ab a [] (.t (.box r 19)) 0) (fun (x2:TV)=>Ah (.int .i64) x2 (fun (n2:Int)=>stB a (.box r 19) [(.int .i64 (i64.wrap (n2+(1:Int))))] (fun e=>K e))))) (Af (Ab st [] (.t (.box r 19)) 0) (fun (x3:TV)=>Ah (.int .i64) x3 (fun (n3:Int)=>Af (Ab st [] (.t (.box r 6)) 0) (fun (x4:TV)=>Ah (.int .i64) x4 (fun (n4:Int)=>BId (n4<=n3) (Ae PR AL [(.box r 0),.int .i64 10] [] st (fun (b:St)=>Af (Ab b [] (.t (.box r 19)) 0) (fun (x5:TV)=>Ah (.int .i64) x5 (fun (n5:Int)=>stB b (.box r 19) [(.int .i64 (i64.wrap (n5+(1:Int))))] (fun d=>K d))))) (Af (Ab st [] (.t (.box r 19)) 0) (fun (x6:TV)=>Ah (.int .i64) x6 (fun (n6:Int)=>stB st (.box r 19) [(.int .i64 (i64.wrap (n6+(1:Int))))] (fun c=>K c)))))))))))):Ae PR Av [(.box r 0),.int .i64 depth] [] st K:=
 Ak (cfg:=⟨[],[],[]⟩) (h:= .none) mixed (fun _ _=>Tryz.call214 _ _) Tryz.func214 (by kernel_rfl) (by kernel_rfl) h
theorem Fq (r:Nat) (e:Int) (st:St) (K:St->Prop) (h:Af (Ab st [] (.t (.box r 22)) 0) (fun (x1:TV)=>Ah (.int .i64) x1 (fun (n1:Int)=>BId (n1=0) (stB st (.box r 22) [.int .i64 e] (fun a=>K a)) (K st)))):Ae PR AL [(.box r 0),.int .i64 e] [] st K:=
 Ak (cfg:=⟨[],[],[]⟩) (h:= .none) mixed (fun _ _=>Tryz.call215 _ _) Tryz.func215 (by kernel_rfl) (by kernel_rfl) h
theorem HC (w:Nat) (s:B8) (st:St) (K:Int->St->Prop) (h:Af (Ab st [] (.t (.box w 3)) 0) (fun (x1:TV)=>Ah .bool x1 (fun (b1:Bool)=>BIf b1 (K 29 st) (Ae PR D3 [(.box w 0)] [.one (.int .i64)] st (fun (n1:Int) a=>BId (n1<(s.length:Int)) (K 28 a) (Af (Ab a [] (.t (.box w 1)) 0) (fun (v1:TV)=>Af (BI a 1 (.str s)) (fun (q1:Nat×List TV)=>need (List.all q1.2 Ap) (AF 5 1 1 v1 q1.1 q1.2 a (fun (v2:TV) c=>need (List.all [v2] Ap) (stB c (.box w 1) [v2] (fun b=>K 0 b)))))))))))):Ae PR CE [(.box w 0),.str s] [.one (.int .i64)] st K:=
 Ak (cfg:=⟨[],[],[]⟩) (h:= .none) mixed (fun _ _=>Tryz.call216 _ _) Tryz.func216 (by kernel_rfl) (by kernel_rfl) h
theorem Ge (s:B8) (prefixx:B8) (st:St) (K:Bool->St->Prop) (h:BId ((prefixx.length:Int)<=(s.length:Int)) (((0<=(prefixx.length:Int)/\(prefixx.length:Int)<=(s.length:Int))/\K ((decide ((List.take (Int.toNat (prefixx.length:Int)) s)=prefixx))) st)) (K false st)):Ae PR Do [.str s,.str prefixx] [.one .bool] st K:=
 Ak (cfg:=⟨[],[],[]⟩) (h:= .none) mixed (fun _ _=>Tryz.call235 _ _) Tryz.func235 (by kernel_rfl) (by kernel_rfl) h
theorem LW (s:B8) (st:St) (K:Int->Int->St->Prop) (h:Ae PR EJ [.str s] [.one .bool] st (fun (b1:Bool) f=>BIf (!b1) (K 0 3 f) (∃(I1:Int->Int->B8->Int->St->Prop) (M1:Int->Int->B8->Int->St->Nat),(I1 0 0 s ((s.length:Int)) f)/\∀c a b e d,I1 c a b e d->(BId (a<e) (((0<=a/\a<(b.length:Int))/\BId ((i64.wrap (Int.tdiv (i64.wrap ((9223372036854775807:Int)-(i64.wrap (u8.wrap (((List.getD b a.toNat 0).toNat:Int)-(48:Int)))))) (10:Int)))<c) (K 0 2 d) ((I1 ((i64.wrap ((i64.wrap (c*(10:Int)))+(i64.wrap (u8.wrap (((List.getD b a.toNat 0).toNat:Int)-(48:Int))))))) ((i64.wrap (a+(1:Int)))) b e d/\M1 ((i64.wrap ((i64.wrap (c*(10:Int)))+(i64.wrap (u8.wrap (((List.getD b a.toNat 0).toNat:Int)-(48:Int))))))) ((i64.wrap (a+(1:Int)))) b e d<M1 c a b e d)))) (K c 0 d))))):Ae PR EK [.str s] [.one (.int .i64),.one (.int .i64)] st K:=
 Ak (cfg:=⟨[],[],[]⟩) (h:=(.seq .none (.seq .none (.seq .none (.seq (.seq .none (.block (.loop ⟨[(4,.int .i64),(12,.int .i64),(0,.str),(11,.int .i64)],[],[],[]⟩ .none))) .none))))) mixed (fun _ _=>Tryz.call236 _ _) Tryz.func236 (by kernel_rfl) (by kernel_rfl) h
theorem LZ (neg:Bool) (s:B8) (exp:Int) (st:St) (K:Bool->B8->Int->Int->St->Prop) (h:BId (s=([]:B8)) (K false [] 0 0 st) (Ae PR Et [.str s,.str VW] [.one .str] st (fun (s1:B8) a=>((0<=(i64.wrap ((s.length:Int)-(i64.wrap ((s.length:Int)-(s1.length:Int)))))/\(i64.wrap ((s.length:Int)-(i64.wrap ((s.length:Int)-(s1.length:Int)))))<=(s.length:Int))/\BId ((i64.wrap ((400:Int)-(i64.wrap ((s.length:Int)-(s1.length:Int)))))<exp) (K false [] 0 2 a) (BId (exp<(i64.wrap ((-400:Int)-(i64.wrap ((s.length:Int)-(s1.length:Int)))))) (K false [] 0 2 a) (BId ((120:Int)<(((List.take (Int.toNat (i64.wrap ((s.length:Int)-(i64.wrap ((s.length:Int)-(s1.length:Int)))))) s)).length:Int)) (K false [] 0 2 a) (K neg ((List.take (Int.toNat (i64.wrap ((s.length:Int)-(i64.wrap ((s.length:Int)-(s1.length:Int)))))) s)) ((i64.wrap (exp+(i64.wrap ((s.length:Int)-(s1.length:Int)))))) 0 a))))))):Ae PR EN [.bool neg,.str s,.int .i64 exp] [.agg [.bool,.str,.int .i64],.one (.int .i64)] st K:=
 Ak (cfg:=⟨[6],[],[]⟩) (h:= .none) mixed (fun _ _=>Tryz.call241 _ _) Tryz.func241 (by kernel_rfl) (by kernel_rfl) h
theorem GX (r:Nat) (f:Nat) (st:St) (K:St->Prop) (h:Ae PR AC [(.box r 0),.int .i64 2] [.one (.int .i64)] st (fun (n1:Int) d=>stB d (.box f 3) [.int .i64 n1] (fun m=>Ae PR AK [(.box r 0),.str TU] [.one (.int .u8)] m (fun (n2:Int) k=>Ae PR AC [(.box r 0),.int .i64 2] [.one (.int .i64)] k (fun (n3:Int) l=>stB l (.box f 4) [.int .i64 n3] (fun e=>Ae PR AK [(.box r 0),.str TU] [.one (.int .u8)] e (fun (n4:Int) g=>Ae PR AC [(.box r 0),.int .i64 2] [.one (.int .i64)] g (fun (n5:Int) j=>stB j (.box f 5) [.int .i64 n5] (fun a=>Af (Ab a [] (.t (.box r 0)) 0) (fun (x1:TV)=>Ah .str x1 (fun (s1:B8)=>BId (s1≠([]:B8)) (Af (Ab a [] (.t (.box r 0)) 0) (fun (x2:TV)=>Ah .str x2 (fun (s2:B8)=>((0<=(0:Int)/\(0:Int)<(s2.length:Int))/\BId (((List.getD s2 (Int.toNat (0:Int)) 0).toNat:Int)=(46:Int)) (Af (Ab a [] (.t (.box r 0)) 0) (fun (x3:TV)=>Ah .str x3 (fun (s3:B8)=>((0<=(1:Int)/\(1:Int)<=(s3.length:Int))/\stB a (.box r 0) [(.str (List.drop (Int.toNat (1:Int)) s3))] (fun i=>Ae PR BY [(.box r 0)] [.one (.int .i64)] i (fun (n6:Int) b=>stB b (.box f 6) [.int .i64 n6] (fun c=>K c))))))) (K a))))) (K a)))))))))))):Ae PR Bo [(.box r 0),(.box f 0)] [] st K:=
 Ak (cfg:=⟨[],[],[]⟩) (h:= .none) mixed (fun _ _=>Tryz.call242 _ _) Tryz.func242 (by kernel_rfl) (by kernel_rfl) h
theorem HE (r:Nat) (f:Nat) (st:St) (K:St->Prop) (h:Ae PR AC [(.box r 0),.int .i64 4] [.one (.int .i64)] st (fun (n1:Int) a=>stB a (.box f 0) [.int .i64 n1] (fun j=>Ae PR AK [(.box r 0),.str TW] [.one (.int .u8)] j (fun (n2:Int) g=>Ae PR AC [(.box r 0),.int .i64 2] [.one (.int .i64)] g (fun (n3:Int) i=>stB i (.box f 1) [.int .i64 n3] (fun b=>Ae PR AK [(.box r 0),.str TW] [.one (.int .u8)] b (fun (n4:Int) d=>Ae PR AC [(.box r 0),.int .i64 2] [.one (.int .i64)] d (fun (n5:Int) e=>stB e (.box f 2) [.int .i64 n5] (fun c=>K c))))))))):Ae PR BV [(.box r 0),(.box f 0)] [] st K:=
 Ak (cfg:=⟨[],[],[]⟩) (h:= .none) mixed (fun _ _=>Tryz.call243 _ _) Tryz.func243 (by kernel_rfl) (by kernel_rfl) h
theorem HV (r:Nat) (of:B8) (st:St) (K:Int->St->Prop) (h:Af (Ab st [] (.t (.box r 0)) 0) (fun (x1:TV)=>Ah .str x1 (fun (s1:B8)=>BId (s1≠([]:B8)) (∃(I1:Int->TV->B8->Int->St->Prop) (M1:Int->TV->B8->Int->St->Nat),(I1 0 ((.box r 0)) of ((of.length:Int)) st)/\∀c a b e d,I1 c a b e d->(BId (c<e) (need (isPtr a) (need (isPtr a) (Af (Ab d [] (.t (Ag a 0)) 0) (fun (x2:TV)=>Ah .str x2 (fun (s2:B8)=>((0<=(0:Int)/\(0:Int)<(s2.length:Int))/\((0<=c/\c<(b.length:Int))/\BId (((List.getD s2 (Int.toNat (0:Int)) 0).toNat:Int)=((List.getD b c.toNat 0).toNat:Int)) (need (isPtr a) (need (isPtr a) (Af (Ab d [] (.t (Ag a 0)) 0) (fun (x3:TV)=>Ah .str x3 (fun (s3:B8)=>((0<=(1:Int)/\(1:Int)<=(s3.length:Int))/\need (isPtr a) (need (isPtr a) (stB d (Ag a 0) [(.str (List.drop (Int.toNat (1:Int)) s3))] (fun i=>((0<=c/\c<(b.length:Int))/\K (((List.getD b c.toNat 0).toNat:Int)) i)))))))))) ((I1 ((i64.wrap (c+(1:Int)))) a b e d/\M1 ((i64.wrap (c+(1:Int)))) a b e d<M1 c a b e d))))))))) (need (isPtr a) (need (isPtr a) (stB d (Ag a 1) [.bool true] (fun f=>K 0 f)))))) (stB st (.box r 1) [.bool true] (fun g=>K 0 g))))):Ae PR AK [(.box r 0),.str of] [.one (.int .u8)] st K:=
 Ak (cfg:=⟨[],[],[]⟩) (h:=(.seq .none (.seq (.seq .none (.cond (.seq .none (.block (.loop ⟨[(13,.int .i64),(0,.tv),(1,.str),(12,.int .i64)],[],[],[]⟩ .none))) .none)) .none))) mixed (fun _ _=>Tryz.call244 _ _) Tryz.func244 (by kernel_rfl) (by kernel_rfl) h
theorem GD (r:Nat) (f:Nat) (st:St) (K:St->Prop) (h:Ae PR AK [(.box r 0),.str str31] [.one (.int .u8)] st (fun (n1:Int) e=>stB e (.box f 7) [.int .u8 n1] (fun a=>Af (Ab a [] (.t (.box f 7)) 0) (fun (x1:TV)=>Ah (.int .u8) x1 (fun (n2:Int)=>BId (n2=43) (Ae PR AC [(.box r 0),.int .i64 2] [.one (.int .i64)] a (fun (n3:Int) m=>stB m (.box f 8) [.int .i64 n3] (fun n=>Ae PR AK [(.box r 0),.str TU] [.one (.int .u8)] n (fun (n4:Int) g=>Ae PR AC [(.box r 0),.int .i64 2] [.one (.int .i64)] g (fun (n5:Int) j=>stB j (.box f 9) [.int .i64 n5] (fun l=>K l)))))) (Af (Ab a [] (.t (.box f 7)) 0) (fun (x2:TV)=>Ah (.int .u8) x2 (fun (n6:Int)=>BId (n6=45) (Ae PR AC [(.box r 0),.int .i64 2] [.one (.int .i64)] a (fun (n7:Int) i=>stB i (.box f 8) [.int .i64 n7] (fun k=>Ae PR AK [(.box r 0),.str TU] [.one (.int .u8)] k (fun (n8:Int) c=>Ae PR AC [(.box r 0),.int .i64 2] [.one (.int .i64)] c (fun (n9:Int) d=>stB d (.box f 9) [.int .i64 n9] (fun b=>K b)))))) (K a))))))))):Ae PR BF [(.box r 0),(.box f 0)] [] st K:=
 Ak (cfg:=⟨[],[],[]⟩) (h:= .none) mixed (fun _ _=>Tryz.call245 _ _) Tryz.func245 (by kernel_rfl) (by kernel_rfl) h
theorem JM (year:Int) (month:Int) (st:St) (K:Int->St->Prop) (h:Ae PR CK [.int .i64 year] [.one .bool] st (fun (b1:Bool) a=>BIf (!b1) (K 0 a) (BId (month<1) (K 0 a) (BId ((12:Int)<month) (K 0 a) (BId (month=2) (Ae PR Ei [.int .i64 year] [.one .bool] a (fun (b2:Bool) b=>BIf b2 (K 29 b) (((0<=(i64.wrap (month-(1:Int)))/\(i64.wrap (month-(1:Int)))<((12:Nat):Int))/\Af ((([.int .i64 31,.int .i64 28,.int .i64 31,.int .i64 30,.int .i64 31,.int .i64 30,.int .i64 31,.int .i64 31,.int .i64 30,.int .i64 31,.int .i64 30,.int .i64 31]:List TV)[(0+(Int.toNat (i64.wrap (month-(1:Int))))*1)+0]?)) (fun (x1:TV)=>Ah (.int .i64) x1 (fun (n1:Int)=>K n1 b)))))) (((0<=(i64.wrap (month-(1:Int)))/\(i64.wrap (month-(1:Int)))<((12:Nat):Int))/\Af ((([.int .i64 31,.int .i64 28,.int .i64 31,.int .i64 30,.int .i64 31,.int .i64 30,.int .i64 31,.int .i64 31,.int .i64 30,.int .i64 31,.int .i64 30,.int .i64 31]:List TV)[(0+(Int.toNat (i64.wrap (month-(1:Int))))*1)+0]?)) (fun (x2:TV)=>Ah (.int .i64) x2 (fun (n2:Int)=>K n2 a))))))))):Ae PR CL [.int .i64 year,.int .i64 month] [.one (.int .i64)] st K:=
 Ak (cfg:=⟨[5],[],[]⟩) (h:= .none) mixed (fun _ _=>Tryz.call246 _ _) Tryz.func246 (by kernel_rfl) (by kernel_rfl) h
theorem JL (year:Int) (st:St) (K:Int->St->Prop) (h:K ((i64.wrap ((i64.wrap ((i64.wrap ((i64.wrap ((365:Int)*(i64.wrap (year-(1:Int)))))+(i64.wrap (Int.tdiv (i64.wrap (year-(1:Int))) (4:Int)))))-(i64.wrap (Int.tdiv (i64.wrap (year-(1:Int))) (100:Int)))))+(i64.wrap (Int.tdiv (i64.wrap (year-(1:Int))) (400:Int)))))) st):Ae PR DR [.int .i64 year] [.one (.int .i64)] st K:=
 Ak (cfg:=⟨[],[],[]⟩) (h:= .none) mixed (fun _ _=>Tryz.call247 _ _) Tryz.func247 (by kernel_rfl) (by kernel_rfl) h
theorem LT (v_0:Int) (d:Bool) (c:Bool) (v_3:B8) (v_4:Int) (v_5:Int) (v_6:Int) (v_7:Int) (v_8:Int) (v_9:B8) (v_10:TV) (v_11:TV) (v_12:TV) (left:Int) (st:St) (K:V13 (St->Prop)) (h:Ae PR BH [v_10] [.one .tv] st (fun (v1:TV) g3=>need (List.all [v1] Ap) (BId (left<1) (need (List.all (cV v_0 d c v_3 v_4 v_5 v_6 v_7 v_8 v_9 v1 .nilSlice .nilSlice) Ap) (K v_0 d c v_3 v_4 v_5 v_6 v_7 v_8 v_9 v1 .nilSlice .nilSlice g3)) (need (isSl v_11) (∃(I1:TV->Int->Int->TV->Int->V13 (V13 (St->Prop))) (M1:TV->Int->Int->TV->Int->V13 (V13 (St->Nat))),(I1 .nilSlice 0 left v_11 ((lenS v_11:Int)) v_0 d c v_3 v_4 v_5 v_6 v_7 v_8 v_9 v1 v_11 v_12 0 false false [] 0 0 0 0 0 [] .nilSlice .nilSlice .nilSlice g3)/\∀b0 f a d s n1 b1 b2 s1 n2 n3 n4 n5 n6 s2 v2 v3 v4 n7 b3 b4 s3 n8 n9 z y x s4 v5 v6 v7 v,I1 b0 f a d s n1 b1 b2 s1 n2 n3 n4 n5 n6 s2 v2 v3 v4 n7 b3 b4 s3 n8 n9 z y x s4 v5 v6 v7 v->(BId (f<s) (((0<=f/\f<(lenZ 13 d:Int))/\Af ((Aj v [] (.t (ixT 13 d f.toNat)) 0 13).map TV.agg) (fun (x1:TV)=>AU [.int .i64,.bool,.bool,.str,.int .i64,.int .i64,.int .i64,.int .i64,.int .i64,.str,.tv,.tv,.tv] x1 (fun (c7:Int) (b5 b6:Bool) (s5:B8) (e6 d0 c6 f5 g0:Int) (s6:B8) (v8 v9 f4:TV)=>need (List.all (cV c7 b5 b6 s5 e6 d0 c6 f5 g0 s6 v8 v9 f4) Ap) (Ae PR Cv [(.agg (cV c7 b5 b6 s5 e6 d0 c6 f5 g0 s6 v8 v9 f4)),(.int .i64 (i64.wrap (a-(1:Int))))] [sV] v (fun (c8:Int) (b7 b8:Bool) (s7:B8) (g7 e2 d5 g2 g4:Int) (s8:B8) (f2 d1 e0:TV) h4=>need (List.all (cV c8 b7 b8 s7 g7 e2 d5 g2 g4 s8 f2 d1 e0) Ap) (Kx 63 13 168 b0 1 (cV c8 b7 b8 s7 g7 e2 d5 g2 g4 s8 f2 d1 e0) h4 (fun (e4:TV) d3=>(I1 e4 ((i64.wrap (f+(1:Int)))) a d s n1 b1 b2 s1 n2 n3 n4 n5 n6 s2 v2 v3 v4 n7 b3 b4 s3 n8 n9 z y x s4 v5 v6 v7 d3/\M1 e4 ((i64.wrap (f+(1:Int)))) a d s n1 b1 b2 s1 n2 n3 n4 n5 n6 s2 v2 v3 v4 n7 b3 b4 s3 n8 n9 z y x s4 v5 v6 v7 d3<M1 b0 f a d s n1 b1 b2 s1 n2 n3 n4 n5 n6 s2 v2 v3 v4 n7 b3 b4 s3 n8 n9 z y x s4 v5 v6 v7 v))))))))) (need (isSl v4) (∃(I2:TV->Int->Int->TV->TV->Int->V13 (V13 (St->Prop))) (M2:TV->Int->Int->TV->TV->Int->V13 (V13 (St->Nat))),(I2 .nilSlice 0 a b0 v4 ((lenS v4:Int)) n1 b1 b2 s1 n2 n3 n4 n5 n6 s2 v2 v3 v4 n7 b3 b4 s3 n8 n9 z y x s4 v5 v6 v7 v)/\∀o e b g c w l b9 n s9 k p j q r i m a8 a5 a6 a0 a4 c2 c0 a1 c1 a9 a3 c4 a7 c3 a2 u,I2 o e b g c w l b9 n s9 k p j q r i m a8 a5 a6 a0 a4 c2 c0 a1 c1 a9 a3 c4 a7 c3 a2 u->(BId (e<w) (((0<=e/\e<(lenZ 14 c:Int))/\Af ((Aj u [] (.t (ixT 14 c e.toNat)) 0 14).map TV.agg) (fun (x2:TV)=>AU [.str,.int .i64,.bool,.bool,.str,.int .i64,.int .i64,.int .i64,.int .i64,.int .i64,.str,.tv,.tv,.tv] x2 (fun (c5:B8) (f9:Int) (e5 f6:Bool) (h1:B8) (e1 h2 g6 e3 g8:Int) (e7:B8) (g9 e9 f1:TV)=>need (List.all [.str c5,.int .i64 f9,.bool e5,.bool f6,.str h1,.int .i64 e1,.int .i64 h2,.int .i64 g6,.int .i64 e3,.int .i64 g8,.str e7,g9,e9,f1] Ap) (Ae PR Cv [(.agg (cV f9 e5 f6 h1 e1 h2 g6 e3 g8 e7 g9 e9 f1)),(.int .i64 (i64.wrap (b-(1:Int))))] [sV] u (fun (d6:Int) (g1 f7:Bool) (c9:B8) (d8 d9 f3 d4 e8:Int) (g5:B8) (f8 d7 h0:TV) h3=>need (List.all [.str c5,.int .i64 d6,.bool g1,.bool f7,.str c9,.int .i64 d8,.int .i64 d9,.int .i64 f3,.int .i64 d4,.int .i64 e8,.str g5,f8,d7,h0] Ap) (Kx 136 14 184 o 1 [.str c5,.int .i64 d6,.bool g1,.bool f7,.str c9,.int .i64 d8,.int .i64 d9,.int .i64 f3,.int .i64 d4,.int .i64 e8,.str g5,f8,d7,h0] h3 (fun (f0:TV) d2=>(I2 f0 ((i64.wrap (e+(1:Int)))) b g c w l b9 n s9 k p j q r i m a8 a5 a6 a0 a4 c2 c0 a1 c1 a9 a3 c4 a7 c3 a2 d2/\M2 f0 ((i64.wrap (e+(1:Int)))) b g c w l b9 n s9 k p j q r i m a8 a5 a6 a0 a4 c2 c0 a1 c1 a9 a3 c4 a7 c3 a2 d2<M2 o e b g c w l b9 n s9 k p j q r i m a8 a5 a6 a0 a4 c2 c0 a1 c1 a9 a3 c4 a7 c3 a2 u))))))))) (need (List.all [g] Ap) (need (List.all [o] Ap) (need (List.all (cV l b9 n s9 k p j q r i m g o) Ap) (K l b9 n s9 k p j q r i m g o u))))))))))))):Ae PR Cv [(.agg (cV v_0 d c v_3 v_4 v_5 v_6 v_7 v_8 v_9 v_10 v_11 v_12)),.int .i64 left] [sV] st K:=
 Ak (cfg:=⟨[2,4,7,10],[33,52],[]⟩) (h:=(.seq .none (.seq .none (.seq .none (.seq .none (.seq (.seq .none (.block (.loop ⟨[(5,.tv),(23,.int .i64),(1,.int .i64),(21,.tv),(22,.int .i64)],[(2,0,0),(4,1,0)],[(0,13),(1,13)],[(0,0,.int .i64),(0,1,.bool),(0,2,.bool),(0,3,.str),(0,4,.int .i64),(0,5,.int .i64),(0,6,.int .i64),(0,7,.int .i64),(0,8,.int .i64),(0,9,.str),(0,10,.tv),(0,11,.tv),(0,12,.tv),(1,0,.int .i64),(1,1,.bool),(1,2,.bool),(1,3,.str),(1,4,.int .i64),(1,5,.int .i64),(1,6,.int .i64),(1,7,.int .i64),(1,8,.int .i64),(1,9,.str),(1,10,.tv),(1,11,.tv),(1,12,.tv)]⟩ .none))) (.seq .none (.seq (.seq .none (.block (.loop ⟨[(8,.tv),(38,.int .i64),(1,.int .i64),(5,.tv),(36,.tv),(37,.int .i64)],[(2,0,0),(4,1,0)],[(0,13),(1,13)],[(0,0,.int .i64),(0,1,.bool),(0,2,.bool),(0,3,.str),(0,4,.int .i64),(0,5,.int .i64),(0,6,.int .i64),(0,7,.int .i64),(0,8,.int .i64),(0,9,.str),(0,10,.tv),(0,11,.tv),(0,12,.tv),(1,0,.int .i64),(1,1,.bool),(1,2,.bool),(1,3,.str),(1,4,.int .i64),(1,5,.int .i64),(1,6,.int .i64),(1,7,.int .i64),(1,8,.int .i64),(1,9,.str),(1,10,.tv),(1,11,.tv),(1,12,.tv)]⟩ .none))) .none)))))))) mixed (fun _ _=>Tryz.call255 _ _) Tryz.func255 (by kernel_rfl) (by kernel_rfl) h
theorem ED (b:Nat) (st:St) (K:St->Prop) (h:Af (Ab st [] (.t (.box b 0)) 0) (fun (v1:TV)=>need (Ng v1) (BIf (Hb v1) (((Ab st [] (.t (.box b 0)) 0).isSome=true/\Ae PR Hy [(.box b 0)] [.one .tv] st (fun (v2:TV) a=>unsK 188 2 v2 a (fun (v3:TV)=>need (List.all [v3] Ap) (stB a (.box b 0) [v3] (fun c=>K c)))))) (Af (Ab st [] (.t (.box b 0)) 0) (fun (v4:TV)=>(v4=(.box b 0)/\K st)))))):Ae PR BG [(.box b 0)] [] st K:=
 Ak (cfg:=⟨[],[],[]⟩) (h:= .none) mixed (fun _ _=>Tryz.call266 _ _) Tryz.func266 (by kernel_rfl) (by kernel_rfl) h
theorem LV (s:B8) (st:St) (K:Bool->St->Prop) (h:BId ((s.length:Int)<=(600:Int)) (Ae PR Gr [.str s] [.one .bool] st (fun (b1:Bool) a=>BIf b1 (BId (s=([]:B8)) (K true a) (((0<=(0:Int)/\(0:Int)<(s.length:Int))/\K ((decide (((List.getD s (Int.toNat (0:Int)) 0).toNat:Int)≠(48:Int)))) a))) (K false a))) (K false st)):Ae PR EJ [.str s] [.one .bool] st K:=
 Ak (cfg:=⟨[],[],[]⟩) (h:= .none) mixed (fun _ _=>Tryz.call267 _ _) Tryz.func267 (by kernel_rfl) (by kernel_rfl) h
theorem HB (w:Nat) (st:St) (K:Int->St->Prop) (h:Af (Ab st [] (.t (.box w 0)) 0) (fun (x1:TV)=>Ah (.int .i64) x1 (fun (n1:Int)=>Af (Ab st [] (.t (.box w 1)) 0) (fun (v1:TV)=>need (isSl v1) (K ((i64.wrap (n1-(lenS v1:Int)))) st))))):Ae PR D3 [(.box w 0)] [.one (.int .i64)] st K:=
 Ak (cfg:=⟨[],[],[]⟩) (h:= .none) mixed (fun _ _=>Tryz.call272 _ _) Tryz.func272 (by kernel_rfl) (by kernel_rfl) h
theorem GE (r:Nat) (width:Int) (st:St) (K:Int->St->Prop) (h:Af (Ab st [] (.t (.box r 0)) 0) (fun (x1:TV)=>Ah .str x1 (fun (s1:B8)=>BId ((s1.length:Int)<width) (stB st (.box r 1) [.bool true] (fun g=>K 0 g)) (∃(I1:Int->Int->TV->Int->Int->St->Prop) (M1:Int->Int->TV->Int->Int->St->Nat),(I1 0 0 ((.box r 0)) width width st)/\∀f c a b e d,I1 f c a b e d->(BId (c<e) (need (isPtr a) (need (isPtr a) (Af (Ab d [] (.t (Ag a 0)) 0) (fun (x2:TV)=>Ah .str x2 (fun (s2:B8)=>((0<=c/\c<(s2.length:Int))/\BId (((List.getD s2 c.toNat 0).toNat:Int)<(48:Int)) (need (isPtr a) (need (isPtr a) (stB d (Ag a 1) [.bool true] (fun j=>K 0 j)))) (need (isPtr a) (need (isPtr a) (Af (Ab d [] (.t (Ag a 0)) 0) (fun (x3:TV)=>Ah .str x3 (fun (s3:B8)=>((0<=c/\c<(s3.length:Int))/\BId ((57:Int)<((List.getD s3 c.toNat 0).toNat:Int)) (need (isPtr a) (need (isPtr a) (stB d (Ag a 1) [.bool true] (fun k=>K 0 k)))) (need (isPtr a) (need (isPtr a) (Af (Ab d [] (.t (Ag a 0)) 0) (fun (x4:TV)=>Ah .str x4 (fun (s4:B8)=>((0<=c/\c<(s4.length:Int))/\(I1 ((i64.wrap ((i64.wrap ((10:Int)*f))+(i64.wrap (u8.wrap (((List.getD s4 c.toNat 0).toNat:Int)-(48:Int))))))) ((i64.wrap (c+(1:Int)))) a b e d/\M1 ((i64.wrap ((i64.wrap ((10:Int)*f))+(i64.wrap (u8.wrap (((List.getD s4 c.toNat 0).toNat:Int)-(48:Int))))))) ((i64.wrap (c+(1:Int)))) a b e d<M1 f c a b e d))))))))))))))))))) (need (isPtr a) (need (isPtr a) (Af (Ab d [] (.t (Ag a 0)) 0) (fun (x5:TV)=>Ah .str x5 (fun (s5:B8)=>((0<=b/\b<=(s5.length:Int))/\need (isPtr a) (need (isPtr a) (stB d (Ag a 0) [(.str (List.drop b.toNat s5))] (fun i=>K f i)))))))))))))):Ae PR AC [(.box r 0),.int .i64 width] [.one (.int .i64)] st K:=
 Ak (cfg:=⟨[],[],[]⟩) (h:=(.seq .none (.seq .none (.seq .none (.seq (.seq .none (.block (.loop ⟨[(5,.int .i64),(18,.int .i64),(0,.tv),(1,.int .i64),(17,.int .i64)],[],[],[]⟩ .none))) .none))))) mixed (fun _ _=>Tryz.call290 _ _) Tryz.func290 (by kernel_rfl) (by kernel_rfl) h
theorem FU (r:Nat) (st:St) (K:Int->St->Prop) (h:∃(I1:Int->Int->TV->St->Prop) (M1:Int->Int->TV->St->Nat),(I1 0 0 ((.box r 0)) st)/\∀d b a c,I1 d b a c->(need (isPtr a) (need (isPtr a) (Af (Ab c [] (.t (Ag a 0)) 0) (fun (x1:TV)=>Ah .str x1 (fun (s1:B8)=>BId (b<(s1.length:Int)) (need (isPtr a) (need (isPtr a) (Af (Ab c [] (.t (Ag a 0)) 0) (fun (x2:TV)=>Ah .str x2 (fun (s2:B8)=>((0<=b/\b<(s2.length:Int))/\BId ((48:Int)<=((List.getD s2 b.toNat 0).toNat:Int)) (need (isPtr a) (need (isPtr a) (Af (Ab c [] (.t (Ag a 0)) 0) (fun (x3:TV)=>Ah .str x3 (fun (s3:B8)=>((0<=b/\b<(s3.length:Int))/\BId (((List.getD s3 b.toNat 0).toNat:Int)<=(57:Int)) (BId (b<9) (need (isPtr a) (need (isPtr a) (Af (Ab c [] (.t (Ag a 0)) 0) (fun (x4:TV)=>Ah .str x4 (fun (s4:B8)=>((0<=b/\b<(s4.length:Int))/\(I1 ((i64.wrap ((i64.wrap ((10:Int)*d))+(i64.wrap (u8.wrap (((List.getD s4 b.toNat 0).toNat:Int)-(48:Int))))))) ((i64.wrap (b+(1:Int)))) a c/\M1 ((i64.wrap ((i64.wrap ((10:Int)*d))+(i64.wrap (u8.wrap (((List.getD s4 b.toNat 0).toNat:Int)-(48:Int))))))) ((i64.wrap (b+(1:Int)))) a c<M1 d b a c))))))) ((I1 d ((i64.wrap (b+(1:Int)))) a c/\M1 d ((i64.wrap (b+(1:Int)))) a c<M1 d b a c))) (BId (b<1) (need (isPtr a) (need (isPtr a) (stB c (Ag a 1) [.bool true] (fun y=>K 0 y)))) (BId ((9:Int)<b) (need (isPtr a) (need (isPtr a) (stB c (Ag a 1) [.bool true] (fun s=>K 0 s)))) (need (isPtr a) (need (isPtr a) (Af (Ab c [] (.t (Ag a 0)) 0) (fun (x5:TV)=>Ah .str x5 (fun (s5:B8)=>((0<=b/\b<=(s5.length:Int))/\need (isPtr a) (need (isPtr a) (stB c (Ag a 0) [(.str (List.drop b.toNat s5))] (fun x=>∃(I2:Int->Int->St->Prop) (M2:Int->Int->St->Nat),(I2 d b x)/\∀k g m,I2 k g m->(BId (g<9) ((I2 ((i64.wrap (k*(10:Int)))) ((i64.wrap (g+(1:Int)))) m/\M2 ((i64.wrap (k*(10:Int)))) ((i64.wrap (g+(1:Int)))) m<M2 k g m)) (K k m))))))))))))))))))) (BId (b<1) (need (isPtr a) (need (isPtr a) (stB c (Ag a 1) [.bool true] (fun v=>K 0 v)))) (BId ((9:Int)<b) (need (isPtr a) (need (isPtr a) (stB c (Ag a 1) [.bool true] (fun w=>K 0 w)))) (need (isPtr a) (need (isPtr a) (Af (Ab c [] (.t (Ag a 0)) 0) (fun (x6:TV)=>Ah .str x6 (fun (s6:B8)=>((0<=b/\b<=(s6.length:Int))/\need (isPtr a) (need (isPtr a) (stB c (Ag a 0) [(.str (List.drop b.toNat s6))] (fun u=>∃(I3:Int->Int->St->Prop) (M3:Int->Int->St->Nat),(I3 d b u)/\∀j f l,I3 j f l->(BId (f<9) ((I3 ((i64.wrap (j*(10:Int)))) ((i64.wrap (f+(1:Int)))) l/\M3 ((i64.wrap (j*(10:Int)))) ((i64.wrap (f+(1:Int)))) l<M3 j f l)) (K j l))))))))))))))))))) (BId (b<1) (need (isPtr a) (need (isPtr a) (stB c (Ag a 1) [.bool true] (fun o=>K 0 o)))) (BId ((9:Int)<b) (need (isPtr a) (need (isPtr a) (stB c (Ag a 1) [.bool true] (fun p=>K 0 p)))) (need (isPtr a) (need (isPtr a) (Af (Ab c [] (.t (Ag a 0)) 0) (fun (x7:TV)=>Ah .str x7 (fun (s7:B8)=>((0<=b/\b<=(s7.length:Int))/\need (isPtr a) (need (isPtr a) (stB c (Ag a 0) [(.str (List.drop b.toNat s7))] (fun q=>∃(I4:Int->Int->St->Prop) (M4:Int->Int->St->Nat),(I4 d b q)/\∀i n e,I4 i n e->(BId (n<9) ((I4 ((i64.wrap (i*(10:Int)))) ((i64.wrap (n+(1:Int)))) e/\M4 ((i64.wrap (i*(10:Int)))) ((i64.wrap (n+(1:Int)))) e<M4 i n e)) (K i e))))))))))))))))))):Ae PR BY [(.box r 0)] [.one (.int .i64)] st K:=
 Ak (cfg:=⟨[],[],[]⟩) (h:=(.seq .none (.seq .none (.seq (.block (.loop ⟨[(3,.int .i64),(4,.int .i64),(0,.tv)],[],[],[]⟩ .none)) (.seq .none (.seq .none (.seq (.block (.loop ⟨[(3,.int .i64),(4,.int .i64)],[],[],[]⟩ .none)) .none))))))) mixed (fun _ _=>Tryz.call291 _ _) Tryz.func291 (by kernel_rfl) (by kernel_rfl) h
theorem JK (year:Int) (st:St) (K:Bool->St->Prop) (h:BId ((1:Int)<=year) (K ((decide (year<=9999))) st) (K false st)):Ae PR CK [.int .i64 year] [.one .bool] st K:=
 Ak (cfg:=⟨[],[],[]⟩) (h:= .none) mixed (fun _ _=>Tryz.call292 _ _) Tryz.func292 (by kernel_rfl) (by kernel_rfl) h
theorem KK (year:Int) (st:St) (K:Bool->St->Prop) (h:Ae PR CK [.int .i64 year] [.one .bool] st (fun (b1:Bool) a=>BIf b1 (BId ((Int.tmod year (4:Int))=(0:Int)) (BId ((Int.tmod year (100:Int))≠(0:Int)) (K true a) (K ((decide ((Int.tmod year (400:Int))=(0:Int)))) a)) (K false a)) (K false a))):Ae PR Ei [.int .i64 year] [.one .bool] st K:=
 Ak (cfg:=⟨[],[],[]⟩) (h:= .none) mixed (fun _ _=>Tryz.call293 _ _) Tryz.func293 (by kernel_rfl) (by kernel_rfl) h
theorem EE (s:TV) (st:St) (K:TV->St->Prop) (h:need (isSl s) (BIf (Hb s) (K .nilSlice st) (Af (BI st 1 s) (fun (q1:Nat×List TV)=>need (List.all q1.2 Ap) (Kx 5 1 1 (.list 1 .full 0 []) q1.1 q1.2 st (fun (v1:TV) a=>K v1 a)))))):Ae PR BH [s] [.one .tv] st K:=
 Ak (cfg:=⟨[],[7],[]⟩) (h:= .none) mixed (fun _ _=>Tryz.call296 _ _) Tryz.func296 (by kernel_rfl) (by kernel_rfl) h
theorem Og (s:B8) (st:St) (K:Bool->St->Prop) (h:∃(I1:Int->B8->Int->St->Prop) (M1:Int->B8->Int->St->Nat),(I1 0 s ((s.length:Int)) st)/\∀a b d c,I1 a b d c->(BId (a<d) (((0<=a/\a<(b.length:Int))/\BId (((List.getD b a.toNat 0).toNat:Int)<(48:Int)) (K false c) (((0<=a/\a<(b.length:Int))/\BId ((57:Int)<((List.getD b a.toNat 0).toNat:Int)) (K false c) ((I1 ((i64.wrap (a+(1:Int)))) b d c/\M1 ((i64.wrap (a+(1:Int)))) b d c<M1 a b d c)))))) (K true c))):Ae PR Gr [.str s] [.one .bool] st K:=
 Ak (cfg:=⟨[],[],[]⟩) (h:=(.seq .none (.seq (.seq .none (.block (.loop ⟨[(6,.int .i64),(0,.str),(5,.int .i64)],[],[],[]⟩ .none))) .none))) mixed (fun _ _=>Tryz.call301 _ _) Tryz.func301 (by kernel_rfl) (by kernel_rfl) h
theorem Mq (st:St) (K:Int->Int->Int->Int->Int->St->Prop) (h:K 48 65536 1048576 1024 65536 st):Ae PR FH [] [.agg [.int .i64,.int .i64,.int .i64,.int .i64,.int .i64]] st K:=
 Ak (cfg:=⟨[0],[],[]⟩) (h:= .none) mixed (fun _ _=>Tryz.call53 _ _) Tryz.func53 (by kernel_rfl) (by kernel_rfl) h
theorem Ms (src:B8) (d_0:Int) (d_1:Int) (d_2:Bool) (d_3:Bool) (l_0:Int) (l_1:Int) (l_2:Int) (l_3:Int) (l_4:Int) (st:St) (K:Int->B8->B8->TV->B8->Int->Int->St->Prop) (h:Ae PR DP [(.agg [.int .u8 d_0,.int .u8 d_1,.bool d_2,.bool d_3])] [.one .bool] st (fun (b1:Bool) g=>BIf (!b1) (K 0 [] [] .nilSlice [] 0 1 g) (Ae PR DO [(.agg [.int .i64 l_0,.int .i64 l_1,.int .i64 l_2,.int .i64 l_3,.int .i64 l_4])] [.one .bool] g (fun (b2:Bool) f=>BIf (!b2) (K 0 [] [] .nilSlice [] 0 1 f) (BId (l_2<(src.length:Int)) (K 0 [] [] .nilSlice [] 0 10 f) (Ae PR Ef [.str src] [.one (.int .i64)] f (fun (n1:Int) d=>BId ((0:Int)<=n1) (K 0 [] [] .nilSlice [] n1 5 d) (need (List.all [(.map d.nb)] Ap) (∃(I1:B8->TV->Int->B8->B8->TV->B8->St->Prop) (M1:B8->TV->Int->B8->B8->TV->B8->St->Nat),(I1 src ((.box (d.push (.map []) none).nb 0)) 1 [] [] .nilSlice [] ((d.push (.map []) none).push (.cells [.str src,.int .u8 d_0,.int .u8 d_1,.bool d_2,.bool d_3,.int .i64 l_0,.int .i64 l_1,.int .i64 l_2,.int .i64 l_3,.int .i64 l_4,.int .i64 0,.int .i64 1,.int .i64 0,(.map d.nb),.int .i64 0,.int .i64 0]) (some 180)))/\∀b a n2 s1 s2 v1 s3 c,I1 b a n2 s1 s2 v1 s3 c->(need (isPtr a) (need (isPtr a) (Af (Ab c [] (.t (Ag a 10)) 0) (fun (x1:TV)=>Ah (.int .i64) x1 (fun (n3:Int)=>BId (n3<(b.length:Int)) (need (isSl v1) (Ae PR Ct [a,(.int .i64 (lenS v1:Int))] [.agg [.int .i64,.str,.str,.tv,.str],.one .bool] c (fun (n4:Int) (s4 s5:B8) (v2:TV) (s6:B8) (b3:Bool) e=>need (List.all [.int .i64 n4,.str s4,.str s5,v2,.str s6] Ap) (BIf (!b3) (need (isPtr a) (need (isPtr a) (Af (Ab e [] (.t (Ag a 14)) 0) (fun (x2:TV)=>Ah (.int .i64) x2 (fun (n5:Int)=>need (isPtr a) (need (isPtr a) (Af (Ab e [] (.t (Ag a 15)) 0) (fun (x3:TV)=>Ah (.int .i64) x3 (fun (n6:Int)=>K 0 [] [] .nilSlice [] n5 n6 e))))))))) (need (List.all [.int .i64 n4,.str s4,.str s5,v2,.str s6] Ap) (AF 79 5 80 v1 1 [.int .i64 n4,.str s4,.str s5,v2,.str s6] e (fun (v3:TV) i=>need (List.all [v3] Ap) ((I1 b a n2 s1 s2 v3 s3 i/\M1 b a n2 s1 s2 v3 s3 i<M1 b a n2 s1 s2 v1 s3 c))))))))) (need (List.all [.int .i64 n2,.str s1,.str s2,v1,.str s3] Ap) (K n2 s1 s2 v1 s3 0 0 c)))))))))))))))):Ae PR DQ [.str src,(.agg [.int .u8 d_0,.int .u8 d_1,.bool d_2,.bool d_3]),(.agg [.int .i64 l_0,.int .i64 l_1,.int .i64 l_2,.int .i64 l_3,.int .i64 l_4])] [.agg [.int .i64,.str,.str,.tv,.str],.one (.int .i64),.one (.int .i64)] st K:=
 Ak (cfg:=⟨[4,5,6,11,12],[],[]⟩) (h:=(.seq .none (.seq .none (.seq .none (.seq .none (.seq .none (.seq .none (.seq (.block (.loop ⟨[(0,.str),(10,.tv)],[(6,2,0),(11,3,0)],[(2,5),(3,5)],[(3,0,.int .i64),(3,1,.str),(3,2,.str),(3,3,.tv),(3,4,.str)]⟩ .none)) .none)))))))) mixed (fun _ _=>Tryz.call55 _ _) Tryz.func55 (by kernel_rfl) (by kernel_rfl) h
theorem Oe (n_0:Int) (n_1:B8) (n_2:B8) (n_3:TV) (n_4:B8) (st:St) (K:Int->St->Prop) (h:stB (st.push (.cells [.int .i64 0]) (some 3)) (.box st.nb 0) [.int .i64 0] (fun c=>Ae PR Dn [(.agg [.int .i64 n_0,.str n_1,.str n_2,n_3,.str n_4]),.int .i64 1,(.box st.nb 0)] [.one (.int .i64)] c (fun (n1:Int) b=>BId (n1≠0) (K n1 b) (Ae PR F5 [(.agg [.int .i64 n_0,.str n_1,.str n_2,n_3,.str n_4])] [.one (.int .i64)] b (fun (n2:Int) a=>BId ((1048576:Int)<n2) (K 10 a) (K 0 a)))))):Ae PR Gp [(.agg [.int .i64 n_0,.str n_1,.str n_2,n_3,.str n_4])] [.one (.int .i64)] st K:=
 Ak (cfg:=⟨[1],[],[]⟩) (h:= .none) mixed (fun _ _=>Tryz.call56 _ _) Tryz.func56 (by kernel_rfl) (by kernel_rfl) h
theorem Od (n_0:Int) (n_1:B8) (n_2:B8) (n_3:TV) (n_4:B8) (st:St) (K:B8->St->Prop) (h:Ae PR Em [(.box st.nb 0),(.agg [.int .i64 n_0,.str n_1,.str n_2,n_3,.str n_4])] [] (st.push (.cells [.nilPtr,.nilSlice]) (some 188)) (fun (a:St)=>Ae PR BX [(.box st.nb 0)] [.one .str] a (fun (s1:B8) b=>K s1 b))):Ae PR Gn [(.agg [.int .i64 n_0,.str n_1,.str n_2,n_3,.str n_4])] [.one .str] st K:=
 Ak (cfg:=⟨[1],[],[]⟩) (h:= .none) mixed (fun _ _=>Tryz.call57 _ _) Tryz.func57 (by kernel_rfl) (by kernel_rfl) h
theorem HJ (st:St) (K:Int->Int->Bool->Bool->St->Prop) (h:K 44 34 true true st):Ae PR D4 [] [.agg [.int .u8,.int .u8,.bool,.bool]] st K:=
 Ak (cfg:=⟨[0],[],[]⟩) (h:= .none) mixed (fun _ _=>Tryz.call62 _ _) Tryz.func62 (by kernel_rfl) (by kernel_rfl) h
theorem HK (st:St) (K:Int->Int->Int->Int->Int->St->Prop) (h:K 48 65536 1048576 1024 65536 st):Ae PR D5 [] [.agg [.int .i64,.int .i64,.int .i64,.int .i64,.int .i64]] st K:=
 Ak (cfg:=⟨[0],[],[]⟩) (h:= .none) mixed (fun _ _=>Tryz.call63 _ _) Tryz.func63 (by kernel_rfl) (by kernel_rfl) h
theorem Mr (d_0:Int) (d_1:Int) (d_2:Bool) (d_3:Bool) (st:St) (K:Bool->St->Prop) (h:BId (d_0≠9) (BId (d_0<32) (K false st) (BId ((126:Int)<d_0) (K false st) (BId (d_1<33) (K false st) (BId ((126:Int)<d_1) (K false st) (BId (d_0≠d_1) (Ae PR BO [.int .u8 d_0] [.one .bool] st (fun (b1:Bool) a=>BIf (!b1) (Ae PR BO [.int .u8 d_1] [.one .bool] a (fun (b2:Bool) d=>K ((!b2)) d)) (K false a))) (K false st)))))) (BId (d_1<33) (K false st) (BId ((126:Int)<d_1) (K false st) (BId (d_0≠d_1) (Ae PR BO [.int .u8 d_0] [.one .bool] st (fun (b3:Bool) b=>BIf (!b3) (Ae PR BO [.int .u8 d_1] [.one .bool] b (fun (b4:Bool) c=>K ((!b4)) c)) (K false b))) (K false st))))):Ae PR DP [(.agg [.int .u8 d_0,.int .u8 d_1,.bool d_2,.bool d_3])] [.one .bool] st K:=
 Ak (cfg:=⟨[1],[],[]⟩) (h:= .none) mixed (fun _ _=>Tryz.call69 _ _) Tryz.func69 (by kernel_rfl) (by kernel_rfl) h
theorem Mp (l_0:Int) (l_1:Int) (l_2:Int) (l_3:Int) (l_4:Int) (st:St) (K:Bool->St->Prop) (h:BId ((1:Int)<=l_0) (BId (l_0<=48) (BId ((1:Int)<=l_1) (BId (l_1<=65536) (BId ((1:Int)<=l_2) (BId (l_2<=1048576) (BId ((0:Int)<=l_3) (BId (l_3<=1024) (BId ((0:Int)<=l_4) (K ((decide (l_4<=65536))) st) (K false st)) (K false st)) (K false st)) (K false st)) (K false st)) (K false st)) (K false st)) (K false st)) (K false st)):Ae PR DO [(.agg [.int .i64 l_0,.int .i64 l_1,.int .i64 l_2,.int .i64 l_3,.int .i64 l_4])] [.one .bool] st K:=
 Ak (cfg:=⟨[1],[],[]⟩) (h:= .none) mixed (fun _ _=>Tryz.call70 _ _) Tryz.func70 (by kernel_rfl) (by kernel_rfl) h
theorem KH (n_0:Int) (b:B8) (f:B8) (a:TV) (c:B8) (d_0:Int) (d_1:Int) (d_2:Bool) (d_3:Bool) (st:St) (K:TV->Int->St->Prop) (h:Ae PR En [(.agg [.int .i64 n_0,.str b,.str f,a,.str c]),(.agg [.int .u8 d_0,.int .u8 d_1,.bool d_2,.bool d_3])] [.one .bool] st (fun (b1:Bool) p=>BIf (!b1) (K .nilSlice 1 p) (need (isSl a) (∃(I1:TV->Int->TV->Int->Int->Int->Bool->Bool->St->Prop) (M1:TV->Int->TV->Int->Int->Int->Bool->Bool->St->Nat),(I1 .nilSlice 0 a ((lenS a:Int)) d_0 d_1 d_2 d_3 p)/\∀e b m f n1 n2 b2 b3 l,I1 e b m f n1 n2 b2 b3 l->(BId (b<f) (((0<=b/\b<(lenZ 5 m:Int))/\Af ((Aj l [] (.t (ixT 5 m b.toNat)) 0 5).map TV.agg) (fun (x1:TV)=>AU [.int .i64,.str,.str,.tv,.str] x1 (fun (n3:Int) (s1 s2:B8) (v1:TV) (s3:B8)=>need (List.all [.int .i64 n3,.str s1,.str s2,v1,.str s3] Ap) (need (isSl v1) (∃(I2:TV->Int->TV->TV->Int->Int->TV->Int->Int->Int->Bool->Bool->St->Prop) (M2:TV->Int->TV->TV->Int->Int->TV->Int->Int->Int->Bool->Bool->St->Nat),(I2 .nilSlice 0 e m f b v1 ((lenS v1:Int)) n1 n2 b2 b3 l)/\∀j a d g c i k o n4 n5 b4 b5 n,I2 j a d g c i k o n4 n5 b4 b5 n->(BId (a<o) (((0<=a/\a<(lenZ 5 k:Int))/\Af ((Aj n [] (.t (ixT 5 k a.toNat)) 0 5).map TV.agg) (fun (x2:TV)=>AU [.int .i64,.str,.str,.tv,.str] x2 (fun (n6:Int) (s4 s5:B8) (v2:TV) (s6:B8)=>need (List.all [.int .i64 n6,.str s4,.str s5,v2,.str s6] Ap) (((0<=(0:Int)/\(0:Int)<(lenZ 5 v2:Int))/\need (isPtr (ixT 5 v2 (Int.toNat (0:Int)))) (Af (Ab Fg [] (.t (Ag (ixT 5 v2 (Int.toNat (0:Int))) 2)) 0) (fun (x3:TV)=>Ah .str x3 (fun (s7:B8)=>Ae PR CC [.str s7,(.agg [.int .u8 n4,.int .u8 n5,.bool b4,.bool b5])] [.one .str,.one .bool] n (fun (s8:B8) (b6:Bool) s=>AF 9 1 16 j 1 [.str s8] s (fun (v3:TV) q=>(I2 v3 ((i64.wrap (a+(1:Int)))) d g c i k o n4 n5 b4 b5 q/\M2 v3 ((i64.wrap (a+(1:Int)))) d g c i k o n4 n5 b4 b5 q<M2 j a d g c i k o n4 n5 b4 b5 n)))))))))))) (need (List.all [j] Ap) (need (List.all [j] Ap) (AF 22 1 24 d 1 [j] n (fun (v4:TV) r=>(I1 v4 ((i64.wrap (i+(1:Int)))) g c n4 n5 b4 b5 r/\M1 v4 ((i64.wrap (i+(1:Int)))) g c n4 n5 b4 b5 r<M1 e b m f n1 n2 b2 b3 l)))))))))))) (K e 0 l)))))):Ae PR Eg [(.agg [.int .i64 n_0,.str b,.str f,a,.str c]),(.agg [.int .u8 d_0,.int .u8 d_1,.bool d_2,.bool d_3])] [.one .tv,.one (.int .i64)] st K:=
 Ak (cfg:=⟨[2,3,8,11],[],[]⟩) (h:=(.seq .none (.seq .none (.seq .none (.seq (.seq .none (.block (.loop ⟨[(6,.tv),(21,.int .i64),(19,.tv),(20,.int .i64)],[(3,1,0)],[(1,4)],[(1,0,.int .u8),(1,1,.int .u8),(1,2,.bool),(1,3,.bool)]⟩ (.seq .none (.seq .none (.seq (.block (.seq .none (.seq .none (.seq (.seq .none (.block (.loop ⟨[(9,.tv),(28,.int .i64),(6,.tv),(19,.tv),(20,.int .i64),(21,.int .i64),(26,.tv),(27,.int .i64)],[(3,1,0)],[(1,4)],[(1,0,.int .u8),(1,1,.int .u8),(1,2,.bool),(1,3,.bool)]⟩ .none))) .none)))) .none)))))) .none))))) mixed (fun _ _=>Tryz.call105 _ _) Tryz.func105 (by kernel_rfl) (by kernel_rfl) h
theorem LY (n_0:Int) (b:B8) (f:B8) (a:TV) (c:B8) (d_0:Int) (d_1:Int) (d_2:Bool) (d_3:Bool) (st:St) (K:TV->Int->St->Prop) (h:Ae PR En [(.agg [.int .i64 n_0,.str b,.str f,a,.str c]),(.agg [.int .u8 d_0,.int .u8 d_1,.bool d_2,.bool d_3])] [.one .bool] st (fun (b1:Bool) p=>BIf (!b1) (K .nilSlice 1 p) (need (isSl a) (∃(I1:TV->Int->TV->Int->Int->Int->Bool->Bool->St->Prop) (M1:TV->Int->TV->Int->Int->Int->Bool->Bool->St->Nat),(I1 .nilSlice 0 a ((lenS a:Int)) d_0 d_1 d_2 d_3 p)/\∀e b m f n1 n2 b2 b3 l,I1 e b m f n1 n2 b2 b3 l->(BId (b<f) (((0<=b/\b<(lenZ 5 m:Int))/\Af ((Aj l [] (.t (ixT 5 m b.toNat)) 0 5).map TV.agg) (fun (x1:TV)=>AU [.int .i64,.str,.str,.tv,.str] x1 (fun (n3:Int) (s1 s2:B8) (v1:TV) (s3:B8)=>need (List.all [.int .i64 n3,.str s1,.str s2,v1,.str s3] Ap) (need (isSl v1) (∃(I2:TV->Int->TV->TV->Int->Int->TV->Int->Int->Int->Bool->Bool->St->Prop) (M2:TV->Int->TV->TV->Int->Int->TV->Int->Int->Int->Bool->Bool->St->Nat),(I2 .nilSlice 0 e m f b v1 ((lenS v1:Int)) n1 n2 b2 b3 l)/\∀j a d g c i k o n4 n5 b4 b5 n,I2 j a d g c i k o n4 n5 b4 b5 n->(BId (a<o) (((0<=a/\a<(lenZ 5 k:Int))/\Af ((Aj n [] (.t (ixT 5 k a.toNat)) 0 5).map TV.agg) (fun (x2:TV)=>AU [.int .i64,.str,.str,.tv,.str] x2 (fun (n6:Int) (s4 s5:B8) (v2:TV) (s6:B8)=>need (List.all [.int .i64 n6,.str s4,.str s5,v2,.str s6] Ap) (((0<=(0:Int)/\(0:Int)<(lenZ 5 v2:Int))/\need (isPtr (ixT 5 v2 (Int.toNat (0:Int)))) (Af (Ab Fg [] (.t (Ag (ixT 5 v2 (Int.toNat (0:Int))) 2)) 0) (fun (x3:TV)=>Ah .str x3 (fun (s7:B8)=>Ae PR CC [.str s7,(.agg [.int .u8 n4,.int .u8 n5,.bool b4,.bool b5])] [.one .str,.one .bool] n (fun (s8:B8) (b6:Bool) s=>AF 4 1 1 j 1 [.bool b6] s (fun (v3:TV) q=>(I2 v3 ((i64.wrap (a+(1:Int)))) d g c i k o n4 n5 b4 b5 q/\M2 v3 ((i64.wrap (a+(1:Int)))) d g c i k o n4 n5 b4 b5 q<M2 j a d g c i k o n4 n5 b4 b5 n)))))))))))) (need (List.all [j] Ap) (need (List.all [j] Ap) (AF 164 1 24 d 1 [j] n (fun (v4:TV) r=>(I1 v4 ((i64.wrap (i+(1:Int)))) g c n4 n5 b4 b5 r/\M1 v4 ((i64.wrap (i+(1:Int)))) g c n4 n5 b4 b5 r<M1 e b m f n1 n2 b2 b3 l)))))))))))) (K e 0 l)))))):Ae PR EM [(.agg [.int .i64 n_0,.str b,.str f,a,.str c]),(.agg [.int .u8 d_0,.int .u8 d_1,.bool d_2,.bool d_3])] [.one .tv,.one (.int .i64)] st K:=
 Ak (cfg:=⟨[2,3,8,11],[],[]⟩) (h:=(.seq .none (.seq .none (.seq .none (.seq (.seq .none (.block (.loop ⟨[(6,.tv),(21,.int .i64),(19,.tv),(20,.int .i64)],[(3,1,0)],[(1,4)],[(1,0,.int .u8),(1,1,.int .u8),(1,2,.bool),(1,3,.bool)]⟩ (.seq .none (.seq .none (.seq (.block (.seq .none (.seq .none (.seq (.seq .none (.block (.loop ⟨[(9,.tv),(28,.int .i64),(6,.tv),(19,.tv),(20,.int .i64),(21,.int .i64),(26,.tv),(27,.int .i64)],[(3,1,0)],[(1,4)],[(1,0,.int .u8),(1,1,.int .u8),(1,2,.bool),(1,3,.bool)]⟩ .none))) .none)))) .none)))))) .none))))) mixed (fun _ _=>Tryz.call106 _ _) Tryz.func106 (by kernel_rfl) (by kernel_rfl) h
theorem KG (src:B8) (st:St) (K:Int->St->Prop) (h:∃(I1:Int->B8->St->Prop) (M1:Int->B8->St->Nat),(I1 0 src st)/\∀b a c,I1 b a c->(BId (b<(a.length:Int)) (Ae PR El [.str a,.int .i64 b] [.one (.int .i64),.one (.int .i64)] c (fun (n1 n2:Int) d=>BId (n2=0) (K b d) ((I1 ((i64.wrap (b+n2))) a d/\M1 ((i64.wrap (b+n2))) a d<M1 b a c)))) (K (-1) c))):Ae PR Ef [.str src] [.one (.int .i64)] st K:=
 Ak (cfg:=⟨[],[],[]⟩) (h:=(.seq .none (.seq (.seq .none (.block (.loop ⟨[(3,.int .i64),(0,.str)],[],[],[]⟩ .none))) .none))) mixed (fun _ _=>Tryz.call118 _ _) Tryz.func118 (by kernel_rfl) (by kernel_rfl) h
theorem GY (p:Nat) (number:Int) (st:St) (K:Int->B8->B8->TV->B8->Bool->St->Prop) (h:BId (number=0) (Af (Ab st [] (.t (.box p 3)) 0) (fun (x1:TV)=>Ah .bool x1 (fun (b1:Bool)=>stB (st.push (.cells [.int .i64 0,(.str []),(.str []),.nilSlice,(.str [])]) (some 79)) (.box st.nb 0) [.int .i64 8,(.str []),(.str []),.nilSlice,(.str [])] (fun y6=>BIf (!b1) (Ae PR Bw [(.box p 0),.int .i64 2] [.one .bool] y6 (fun (b2:Bool) q0=>BIf (!b2) (Af ((Aj q0 [] (.t (.box st.nb 0)) 0 5).map TV.agg) (fun (x2:TV)=>AU [.int .i64,.str,.str,.tv,.str] x2 (fun (n1:Int) (s1 s2:B8) (v1:TV) (s3:B8)=>need (List.all [.int .i64 n1,.str s1,.str s2,v1,.str s3] Ap) (K n1 s1 s2 v1 s3 false q0)))) (∃(I1:TV->Int->Bool->TV->St->Prop) (M1:TV->Int->Bool->TV->St->Nat),(I1 ((.box p 0)) number b1 ((.box st.nb 0)) q0)/\∀f g k c w,I1 f g k c w->(BId ((0:Int)<g) (need (isPtr c) (Af (Ab w [] (.t (Ag c 3)) 0) (fun (v2:TV)=>need (isSl v2) (need (isPtr f) (need (isPtr f) (Af (Ab w [] (.t (Ag f 12)) 0) (fun (x4:TV)=>Ah (.int .i64) x4 (fun (n2:Int)=>BId (n2<=(lenS v2:Int)) (Af ((Aj w [] (.t c) 0 5).map TV.agg) (fun (x5:TV)=>AU [.int .i64,.str,.str,.tv,.str] x5 (fun (n3:Int) (s4 s5:B8) (v3:TV) (s6:B8)=>need (isPtr f) (need (isPtr f) (Af (Ab w [] (.t (Ag f 10)) 0) (fun (x6:TV)=>Ah (.int .i64) x6 (fun (n4:Int)=>Ae PR Am [f,.int .i64 n4,.int .i64 10] [.one .bool] w (fun (b3:Bool) w0=>(Aj w0 [] (.t c) 0 5=some [.int .i64 n3,.str s4,.str s5,v3,.str s6]/\need (List.all [.int .i64 n3,.str s4,.str s5,v3,.str s6] Ap) (K n3 s4 s5 v3 s6 b3 w0)))))))))) (Ae PR A0 [f,.bool k] [.agg [.int .i64,.str,.str,.tv,.str],.one .bool] w (fun (n5:Int) (s7 s8:B8) (v4:TV) (s9:B8) (b4:Bool) e9=>need (List.all [.int .i64 n5,.str s7,.str s8,v4,.str s9] Ap) (BIf (!b4) (Af ((Aj e9 [] (.t c) 0 5).map TV.agg) (fun (x7:TV)=>AU [.int .i64,.str,.str,.tv,.str] x7 (fun (n6:Int) (u3 s11:B8) (v5:TV) (z4:B8)=>need (List.all [.int .i64 n6,.str u3,.str s11,v5,.str z4] Ap) (K n6 u3 s11 v5 z4 false e9)))) (need (isPtr c) (Af (Ab e9 [] (.t (Ag c 3)) 0) (fun (v6:TV)=>need (isSl v6) (need (isPtr c) (need (List.all [.int .i64 n5,.str s7,.str s8,v4,.str s9] Ap) ((((lenS v6:Int)=(lenS v6:Int))/\AF 79 5 80 v6 1 [.int .i64 n5,.str s7,.str s8,v4,.str s9] e9 (fun (v7:TV) st6=>stB st6 (Ag c 3) [v7] (fun f1=>need (isSl v4) (BId ((lenS v4:Int)=(1:Int)) (need (isPtr f) (need (isPtr f) (Af (Ab f1 [] (.t (Ag f 10)) 0) (fun (x9:TV)=>Ah (.int .i64) x9 (fun (n7:Int)=>Ae PR AP [f,c] [.one .bool] f1 (fun (b5:Bool) x=>BIf (!b5) (Af ((Aj x [] (.t c) 0 5).map TV.agg) (fun (x10:TV)=>AU [.int .i64,.str,.str,.tv,.str] x10 (fun (n8:Int) (s13 z3:B8) (v8:TV) (s15:B8)=>need (List.all [.int .i64 n8,.str s13,.str z3,v8,.str s15] Ap) (K n8 s13 z3 v8 s15 false x)))) (BId (g=0) (need (isPtr c) (Af (Ab x [] (.t (Ag c 3)) 0) (fun (v9:TV)=>need (isSl v9) (need (isPtr f) (need (isPtr f) (stB x (Ag f 12) [(.int .i64 (lenS v9:Int))] (fun a3=>need (isPtr c) (Af (Ab a3 [] (.t (Ag c 3)) 0) (fun (v10:TV)=>need (isSl v10) (need (isPtr f) (need (isPtr f) (Af (Ab a3 [] (.t (Ag f 12)) 0) (fun (x13:TV)=>Ah (.int .i64) x13 (fun (n9:Int)=>BId ((lenS v10:Int)<n9) (Af ((Aj a3 [] (.t c) 0 5).map TV.agg) (fun (x14:TV)=>AU [.int .i64,.str,.str,.tv,.str] x14 (fun (j9:Int) (o3 h2:B8) (g3:TV) (k5:B8)=>Ae PR Am [f,.int .i64 n7,.int .i64 10] [.one .bool] a3 (fun (b6:Bool) k9=>(Aj k9 [] (.t c) 0 5=some [.int .i64 j9,.str o3,.str h2,g3,.str k5]/\need (List.all [.int .i64 j9,.str o3,.str h2,g3,.str k5] Ap) (K j9 o3 h2 g3 k5 b6 k9)))))) (Af ((Aj a3 [] (.t c) 0 5).map TV.agg) (fun (x15:TV)=>AU [.int .i64,.str,.str,.tv,.str] x15 (fun (y1:Int) (s19 s20:B8) (u7:TV) (s21:B8)=>need (List.all [.int .i64 y1,.str s19,.str s20,u7,.str s21] Ap) (K y1 s19 s20 u7 s21 true a3)))))))))))))))))) (need (isPtr c) (Af (Ab x [] (.t (Ag c 3)) 0) (fun (w3:TV)=>need (isSl w3) (need (isPtr f) (need (isPtr f) (Af (Ab x [] (.t (Ag f 12)) 0) (fun (x17:TV)=>Ah (.int .i64) x17 (fun (n12:Int)=>BId ((lenS w3:Int)<n12) (Af ((Aj x [] (.t c) 0 5).map TV.agg) (fun (x18:TV)=>AU [.int .i64,.str,.str,.tv,.str] x18 (fun (f4:Int) (h6 j0:B8) (i6:TV) (g6:B8)=>Ae PR Am [f,.int .i64 n7,.int .i64 10] [.one .bool] x (fun (b7:Bool) m6=>(Aj m6 [] (.t c) 0 5=some [.int .i64 f4,.str h6,.str j0,i6,.str g6]/\need (List.all [.int .i64 f4,.str h6,.str j0,i6,.str g6] Ap) (K f4 h6 j0 i6 g6 b7 m6)))))) (Af ((Aj x [] (.t c) 0 5).map TV.agg) (fun (x19:TV)=>AU [.int .i64,.str,.str,.tv,.str] x19 (fun (t1:Int) (s25 t4:B8) (r8:TV) (r4:B8)=>need (List.all [.int .i64 t1,.str s25,.str t4,r8,.str r4] Ap) (K t1 s25 t4 r8 r4 true x))))))))))))))))))) ((I1 f g k c f1/\M1 f g k c f1<M1 f g k c w))))))))))))))))))))))) (Ae PR A0 [f,.bool k] [.agg [.int .i64,.str,.str,.tv,.str],.one .bool] w (fun (o4:Int) (i2 l9:B8) (c6:TV) (h3:B8) (b8:Bool) b0=>need (List.all [.int .i64 o4,.str i2,.str l9,c6,.str h3] Ap) (BIf (!b8) (Af ((Aj b0 [] (.t c) 0 5).map TV.agg) (fun (x20:TV)=>AU [.int .i64,.str,.str,.tv,.str] x20 (fun (u1:Int) (u5 s32:B8) (v17:TV) (v0:B8)=>need (List.all [.int .i64 u1,.str u5,.str s32,v17,.str v0] Ap) (K u1 u5 s32 v17 v0 false b0)))) (need (isPtr c) (Af (Ab b0 [] (.t (Ag c 3)) 0) (fun (f0:TV)=>need (isSl f0) (need (isPtr c) (need (List.all [.int .i64 o4,.str i2,.str l9,c6,.str h3] Ap) ((((lenS f0:Int)=(lenS f0:Int))/\AF 79 5 80 f0 1 [.int .i64 o4,.str i2,.str l9,c6,.str h3] b0 (fun (v19:TV) st13=>stB st13 (Ag c 3) [v19] (fun c0=>need (isSl c6) (BId ((lenS c6:Int)=(1:Int)) (need (isPtr f) (need (isPtr f) (Af (Ab c0 [] (.t (Ag f 10)) 0) (fun (x22:TV)=>Ah (.int .i64) x22 (fun (w9:Int)=>Ae PR AP [f,c] [.one .bool] c0 (fun (b9:Bool) v=>BIf (!b9) (Af ((Aj v [] (.t c) 0 5).map TV.agg) (fun (x23:TV)=>AU [.int .i64,.str,.str,.tv,.str] x23 (fun (y4:Int) (u8 r7:B8) (v20:TV) (s36:B8)=>need (List.all [.int .i64 y4,.str u8,.str r7,v20,.str s36] Ap) (K y4 u8 r7 v20 s36 false v)))) (BId (g=0) (need (isPtr c) (Af (Ab v [] (.t (Ag c 3)) 0) (fun (v21:TV)=>need (isSl v21) (need (isPtr f) (need (isPtr f) (stB v (Ag f 12) [(.int .i64 (lenS v21:Int))] (fun a0=>need (isPtr c) (Af (Ab a0 [] (.t (Ag c 3)) 0) (fun (t2:TV)=>need (isSl t2) (need (isPtr f) (need (isPtr f) (Af (Ab a0 [] (.t (Ag f 12)) 0) (fun (x26:TV)=>Ah (.int .i64) x26 (fun (n19:Int)=>BId ((lenS t2:Int)<n19) (Af ((Aj a0 [] (.t c) 0 5).map TV.agg) (fun (x27:TV)=>AU [.int .i64,.str,.str,.tv,.str] x27 (fun (k2:Int) (j5 p4:B8) (g2:TV) (j6:B8)=>Ae PR Am [f,.int .i64 w9,.int .i64 10] [.one .bool] a0 (fun (b10:Bool) q1=>(Aj q1 [] (.t c) 0 5=some [.int .i64 k2,.str j5,.str p4,g2,.str j6]/\need (List.all [.int .i64 k2,.str j5,.str p4,g2,.str j6] Ap) (K k2 j5 p4 g2 j6 b10 q1)))))) (Af ((Aj a0 [] (.t c) 0 5).map TV.agg) (fun (x28:TV)=>AU [.int .i64,.str,.str,.tv,.str] x28 (fun (n21:Int) (s40 z7:B8) (v24:TV) (u6:B8)=>need (List.all [.int .i64 n21,.str s40,.str z7,v24,.str u6] Ap) (K n21 s40 z7 v24 u6 true a0)))))))))))))))))) (need (isPtr c) (Af (Ab v [] (.t (Ag c 3)) 0) (fun (s0:TV)=>need (isSl s0) (need (isPtr f) (need (isPtr f) (Af (Ab v [] (.t (Ag f 12)) 0) (fun (x30:TV)=>Ah (.int .i64) x30 (fun (n22:Int)=>BId ((lenS s0:Int)<n22) (Af ((Aj v [] (.t c) 0 5).map TV.agg) (fun (x31:TV)=>AU [.int .i64,.str,.str,.tv,.str] x31 (fun (m8:Int) (r1 h0:B8) (h5:TV) (f5:B8)=>Ae PR Am [f,.int .i64 w9,.int .i64 10] [.one .bool] v (fun (b11:Bool) g9=>(Aj g9 [] (.t c) 0 5=some [.int .i64 m8,.str r1,.str h0,h5,.str f5]/\need (List.all [.int .i64 m8,.str r1,.str h0,h5,.str f5] Ap) (K m8 r1 h0 h5 f5 b11 g9)))))) (Af ((Aj v [] (.t c) 0 5).map TV.agg) (fun (x32:TV)=>AU [.int .i64,.str,.str,.tv,.str] x32 (fun (y7:Int) (s46 w4:B8) (v27:TV) (w5:B8)=>need (List.all [.int .i64 y7,.str s46,.str w4,v27,.str w5] Ap) (K y7 s46 w4 v27 w5 true v))))))))))))))))))) ((I1 f g k c c0/\M1 f g k c c0<M1 f g k c w))))))))))))))))))) (∃(I2:TV->Int->Bool->TV->St->Prop) (M2:TV->Int->Bool->TV->St->Nat),(I2 ((.box p 0)) number b1 ((.box st.nb 0)) y6)/\∀d j l a u,I2 d j l a u->(BId ((0:Int)<j) (need (isPtr a) (Af (Ab u [] (.t (Ag a 3)) 0) (fun (v28:TV)=>need (isSl v28) (need (isPtr d) (need (isPtr d) (Af (Ab u [] (.t (Ag d 12)) 0) (fun (x34:TV)=>Ah (.int .i64) x34 (fun (n25:Int)=>BId (n25<=(lenS v28:Int)) (Af ((Aj u [] (.t a) 0 5).map TV.agg) (fun (x35:TV)=>AU [.int .i64,.str,.str,.tv,.str] x35 (fun (l4:Int) (k3 l7:B8) (m9:TV) (m0:B8)=>need (isPtr d) (need (isPtr d) (Af (Ab u [] (.t (Ag d 10)) 0) (fun (x36:TV)=>Ah (.int .i64) x36 (fun (n27:Int)=>Ae PR Am [d,.int .i64 n27,.int .i64 10] [.one .bool] u (fun (b12:Bool) f9=>(Aj f9 [] (.t a) 0 5=some [.int .i64 l4,.str k3,.str l7,m9,.str m0]/\need (List.all [.int .i64 l4,.str k3,.str l7,m9,.str m0] Ap) (K l4 k3 l7 m9 m0 b12 f9)))))))))) (Ae PR A0 [d,.bool l] [.agg [.int .i64,.str,.str,.tv,.str],.one .bool] u (fun (f8:Int) (k8 k0:B8) (c5:TV) (g7:B8) (b13:Bool) a9=>need (List.all [.int .i64 f8,.str k8,.str k0,c5,.str g7] Ap) (BIf (!b13) (Af ((Aj a9 [] (.t a) 0 5).map TV.agg) (fun (x37:TV)=>AU [.int .i64,.str,.str,.tv,.str] x37 (fun (z0:Int) (s55 s56:B8) (v31:TV) (s57:B8)=>need (List.all [.int .i64 z0,.str s55,.str s56,v31,.str s57] Ap) (K z0 s55 s56 v31 s57 false a9)))) (need (isPtr a) (Af (Ab a9 [] (.t (Ag a 3)) 0) (fun (f3:TV)=>need (isSl f3) (need (isPtr a) (need (List.all [.int .i64 f8,.str k8,.str k0,c5,.str g7] Ap) ((((lenS f3:Int)=(lenS f3:Int))/\AF 79 5 80 f3 1 [.int .i64 f8,.str k8,.str k0,c5,.str g7] a9 (fun (v33:TV) st22=>stB st22 (Ag a 3) [v33] (fun c1=>need (isSl c5) (BId ((lenS c5:Int)=(1:Int)) (need (isPtr d) (need (isPtr d) (Af (Ab c1 [] (.t (Ag d 10)) 0) (fun (x39:TV)=>Ah (.int .i64) x39 (fun (n30:Int)=>Ae PR AP [d,a] [.one .bool] c1 (fun (b14:Bool) o=>BIf (!b14) (Af ((Aj o [] (.t a) 0 5).map TV.agg) (fun (x40:TV)=>AU [.int .i64,.str,.str,.tv,.str] x40 (fun (n31:Int) (t3 s59:B8) (v34:TV) (s60:B8)=>need (List.all [.int .i64 n31,.str t3,.str s59,v34,.str s60] Ap) (K n31 t3 s59 v34 s60 false o)))) (BId (j=0) (need (isPtr a) (Af (Ab o [] (.t (Ag a 3)) 0) (fun (v35:TV)=>need (isSl v35) (need (isPtr d) (need (isPtr d) (stB o (Ag d 12) [(.int .i64 (lenS v35:Int))] (fun z=>need (isPtr a) (Af (Ab z [] (.t (Ag a 3)) 0) (fun (w7:TV)=>need (isSl w7) (need (isPtr d) (need (isPtr d) (Af (Ab z [] (.t (Ag d 12)) 0) (fun (x43:TV)=>Ah (.int .i64) x43 (fun (n32:Int)=>BId ((lenS w7:Int)<n32) (Af ((Aj z [] (.t a) 0 5).map TV.agg) (fun (x44:TV)=>AU [.int .i64,.str,.str,.tv,.str] x44 (fun (k6:Int) (j1 m7:B8) (p1:TV) (q3:B8)=>Ae PR Am [d,.int .i64 n30,.int .i64 10] [.one .bool] z (fun (b15:Bool) r3=>(Aj r3 [] (.t a) 0 5=some [.int .i64 k6,.str j1,.str m7,p1,.str q3]/\need (List.all [.int .i64 k6,.str j1,.str m7,p1,.str q3] Ap) (K k6 j1 m7 p1 q3 b15 r3)))))) (Af ((Aj z [] (.t a) 0 5).map TV.agg) (fun (x45:TV)=>AU [.int .i64,.str,.str,.tv,.str] x45 (fun (t9:Int) (s64 t7:B8) (v38:TV) (y5:B8)=>need (List.all [.int .i64 t9,.str s64,.str t7,v38,.str y5] Ap) (K t9 s64 t7 v38 y5 true z)))))))))))))))))) (need (isPtr a) (Af (Ab o [] (.t (Ag a 3)) 0) (fun (w1:TV)=>need (isSl w1) (need (isPtr d) (need (isPtr d) (Af (Ab o [] (.t (Ag d 12)) 0) (fun (x47:TV)=>Ah (.int .i64) x47 (fun (n35:Int)=>BId ((lenS w1:Int)<n35) (Af ((Aj o [] (.t a) 0 5).map TV.agg) (fun (x48:TV)=>AU [.int .i64,.str,.str,.tv,.str] x48 (fun (o9:Int) (r0 j3:B8) (k1:TV) (h4:B8)=>Ae PR Am [d,.int .i64 n30,.int .i64 10] [.one .bool] o (fun (b16:Bool) m3=>(Aj m3 [] (.t a) 0 5=some [.int .i64 o9,.str r0,.str j3,k1,.str h4]/\need (List.all [.int .i64 o9,.str r0,.str j3,k1,.str h4] Ap) (K o9 r0 j3 k1 h4 b16 m3)))))) (Af ((Aj o [] (.t a) 0 5).map TV.agg) (fun (x49:TV)=>AU [.int .i64,.str,.str,.tv,.str] x49 (fun (t6:Int) (s70 s71:B8) (v41:TV) (u9:B8)=>need (List.all [.int .i64 t6,.str s70,.str s71,v41,.str u9] Ap) (K t6 s70 s71 v41 u9 true o))))))))))))))))))) ((I2 d j l a c1/\M2 d j l a c1<M2 d j l a u))))))))))))))))))))))) (Ae PR A0 [d,.bool l] [.agg [.int .i64,.str,.str,.tv,.str],.one .bool] u (fun (p6:Int) (o0 j2:B8) (c3:TV) (o8:B8) (b17:Bool) a4=>need (List.all [.int .i64 p6,.str o0,.str j2,c3,.str o8] Ap) (BIf (!b17) (Af ((Aj a4 [] (.t a) 0 5).map TV.agg) (fun (x50:TV)=>AU [.int .i64,.str,.str,.tv,.str] x50 (fun (z5:Int) (s76 r6:B8) (v43:TV) (s78:B8)=>need (List.all [.int .i64 z5,.str s76,.str r6,v43,.str s78] Ap) (K z5 s76 r6 v43 s78 false a4)))) (need (isPtr a) (Af (Ab a4 [] (.t (Ag a 3)) 0) (fun (e8:TV)=>need (isSl e8) (need (isPtr a) (need (List.all [.int .i64 p6,.str o0,.str j2,c3,.str o8] Ap) ((((lenS e8:Int)=(lenS e8:Int))/\AF 79 5 80 e8 1 [.int .i64 p6,.str o0,.str j2,c3,.str o8] a4 (fun (v45:TV) st29=>stB st29 (Ag a 3) [v45] (fun c2=>need (isSl c3) (BId ((lenS c3:Int)=(1:Int)) (need (isPtr d) (need (isPtr d) (Af (Ab c2 [] (.t (Ag d 10)) 0) (fun (x52:TV)=>Ah (.int .i64) x52 (fun (y9:Int)=>Ae PR AP [d,a] [.one .bool] c2 (fun (b18:Bool) r=>BIf (!b18) (Af ((Aj r [] (.t a) 0 5).map TV.agg) (fun (x53:TV)=>AU [.int .i64,.str,.str,.tv,.str] x53 (fun (n41:Int) (s79 x0:B8) (y0:TV) (y8:B8)=>need (List.all [.int .i64 n41,.str s79,.str x0,y0,.str y8] Ap) (K n41 s79 x0 y0 y8 false r)))) (BId (j=0) (need (isPtr a) (Af (Ab r [] (.t (Ag a 3)) 0) (fun (v47:TV)=>need (isSl v47) (need (isPtr d) (need (isPtr d) (stB r (Ag d 12) [(.int .i64 (lenS v47:Int))] (fun a1=>need (isPtr a) (Af (Ab a1 [] (.t (Ag a 3)) 0) (fun (v48:TV)=>need (isSl v48) (need (isPtr d) (need (isPtr d) (Af (Ab a1 [] (.t (Ag d 12)) 0) (fun (x56:TV)=>Ah (.int .i64) x56 (fun (n42:Int)=>BId ((lenS v48:Int)<n42) (Af ((Aj a1 [] (.t a) 0 5).map TV.agg) (fun (x57:TV)=>AU [.int .i64,.str,.str,.tv,.str] x57 (fun (l8:Int) (i8 o1:B8) (j7:TV) (m4:B8)=>Ae PR Am [d,.int .i64 y9,.int .i64 10] [.one .bool] a1 (fun (b19:Bool) j4=>(Aj j4 [] (.t a) 0 5=some [.int .i64 l8,.str i8,.str o1,j7,.str m4]/\need (List.all [.int .i64 l8,.str i8,.str o1,j7,.str m4] Ap) (K l8 i8 o1 j7 m4 b19 j4)))))) (Af ((Aj a1 [] (.t a) 0 5).map TV.agg) (fun (x58:TV)=>AU [.int .i64,.str,.str,.tv,.str] x58 (fun (w2:Int) (s85 s86:B8) (r5:TV) (t0:B8)=>need (List.all [.int .i64 w2,.str s85,.str s86,r5,.str t0] Ap) (K w2 s85 s86 r5 t0 true a1)))))))))))))))))) (need (isPtr a) (Af (Ab r [] (.t (Ag a 3)) 0) (fun (v51:TV)=>need (isSl v51) (need (isPtr d) (need (isPtr d) (Af (Ab r [] (.t (Ag d 12)) 0) (fun (x60:TV)=>Ah (.int .i64) x60 (fun (n45:Int)=>BId ((lenS v51:Int)<n45) (Af ((Aj r [] (.t a) 0 5).map TV.agg) (fun (x61:TV)=>AU [.int .i64,.str,.str,.tv,.str] x61 (fun (q2:Int) (k4 i3:B8) (g8:TV) (q5:B8)=>Ae PR Am [d,.int .i64 y9,.int .i64 10] [.one .bool] r (fun (b20:Bool) l1=>(Aj l1 [] (.t a) 0 5=some [.int .i64 q2,.str k4,.str i3,g8,.str q5]/\need (List.all [.int .i64 q2,.str k4,.str i3,g8,.str q5] Ap) (K q2 k4 i3 g8 q5 b20 l1)))))) (Af ((Aj r [] (.t a) 0 5).map TV.agg) (fun (x62:TV)=>AU [.int .i64,.str,.str,.tv,.str] x62 (fun (n47:Int) (s91 y3:B8) (v53:TV) (z6:B8)=>need (List.all [.int .i64 n47,.str s91,.str y3,v53,.str z6] Ap) (K n47 s91 y3 v53 z6 true r))))))))))))))))))) ((I2 d j l a c2/\M2 d j l a c2<M2 d j l a u))))))))))))))))))))) (stB (st.push (.cells [.int .i64 0,(.str []),(.str []),.nilSlice,(.str [])]) (some 79)) (.box st.nb 0) [.int .i64 8,(.str []),(.str []),.nilSlice,(.str [])] (fun st35=>Ae PR Bw [(.box p 0),.int .i64 2] [.one .bool] st35 (fun (b21:Bool) d6=>BIf (!b21) (Af ((Aj d6 [] (.t (.box st.nb 0)) 0 5).map TV.agg) (fun (x63:TV)=>AU [.int .i64,.str,.str,.tv,.str] x63 (fun (n48:Int) (w8 s95:B8) (v54:TV) (z2:B8)=>need (List.all [.int .i64 n48,.str w8,.str s95,v54,.str z2] Ap) (K n48 w8 s95 v54 z2 false d6)))) (∃(I3:TV->Int->Bool->TV->St->Prop) (M3:TV->Int->Bool->TV->St->Nat),(I3 ((.box p 0)) number false ((.box st.nb 0)) d6)/\∀e i m b s,I3 e i m b s->(BId ((0:Int)<i) (need (isPtr b) (Af (Ab s [] (.t (Ag b 3)) 0) (fun (v55:TV)=>need (isSl v55) (need (isPtr e) (need (isPtr e) (Af (Ab s [] (.t (Ag e 12)) 0) (fun (x65:TV)=>Ah (.int .i64) x65 (fun (n49:Int)=>BId (n49<=(lenS v55:Int)) (Af ((Aj s [] (.t b) 0 5).map TV.agg) (fun (x66:TV)=>AU [.int .i64,.str,.str,.tv,.str] x66 (fun (g5:Int) (i7 o6:B8) (f6:TV) (h7:B8)=>need (isPtr e) (need (isPtr e) (Af (Ab s [] (.t (Ag e 10)) 0) (fun (x67:TV)=>Ah (.int .i64) x67 (fun (n51:Int)=>Ae PR Am [e,.int .i64 n51,.int .i64 10] [.one .bool] s (fun (b22:Bool) q6=>(Aj q6 [] (.t b) 0 5=some [.int .i64 g5,.str i7,.str o6,f6,.str h7]/\need (List.all [.int .i64 g5,.str i7,.str o6,f6,.str h7] Ap) (K g5 i7 o6 f6 h7 b22 q6)))))))))) (Ae PR A0 [e,.bool m] [.agg [.int .i64,.str,.str,.tv,.str],.one .bool] s (fun (g0:Int) (c9 d8:B8) (c4:TV) (e4:B8) (b23:Bool) a8=>need (List.all [.int .i64 g0,.str c9,.str d8,c4,.str e4] Ap) (BIf (!b23) (Af ((Aj a8 [] (.t b) 0 5).map TV.agg) (fun (x68:TV)=>AU [.int .i64,.str,.str,.tv,.str] x68 (fun (r9:Int) (l2 h8:B8) (x8:TV) (i5:B8)=>need (List.all [.int .i64 r9,.str l2,.str h8,x8,.str i5] Ap) (K r9 l2 h8 x8 i5 false a8)))) (need (isPtr b) (Af (Ab a8 [] (.t (Ag b 3)) 0) (fun (e7:TV)=>need (isSl e7) (need (isPtr b) (need (List.all [.int .i64 g0,.str c9,.str d8,c4,.str e4] Ap) ((((lenS e7:Int)=(lenS e7:Int))/\AF 79 5 80 e7 1 [.int .i64 g0,.str c9,.str d8,c4,.str e4] a8 (fun (v60:TV) st40=>stB st40 (Ag b 3) [v60] (fun a5=>need (isSl c4) (BId ((lenS c4:Int)=(1:Int)) (need (isPtr e) (need (isPtr e) (Af (Ab a5 [] (.t (Ag e 10)) 0) (fun (x70:TV)=>Ah (.int .i64) x70 (fun (n54:Int)=>Ae PR AP [e,b] [.one .bool] a5 (fun (b24:Bool) q=>BIf (!b24) (Af ((Aj q [] (.t b) 0 5).map TV.agg) (fun (x71:TV)=>AU [.int .i64,.str,.str,.tv,.str] x71 (fun (x3:Int) (q7 i0:B8) (z9:TV) (l6:B8)=>need (List.all [.int .i64 x3,.str q7,.str i0,z9,.str l6] Ap) (K x3 q7 i0 z9 l6 false q)))) (BId (i=0) (need (isPtr b) (Af (Ab q [] (.t (Ag b 3)) 0) (fun (v62:TV)=>need (isSl v62) (need (isPtr e) (need (isPtr e) (stB q (Ag e 12) [(.int .i64 (lenS v62:Int))] (fun y=>need (isPtr b) (Af (Ab y [] (.t (Ag b 3)) 0) (fun (v63:TV)=>need (isSl v63) (need (isPtr e) (need (isPtr e) (Af (Ab y [] (.t (Ag e 12)) 0) (fun (x74:TV)=>Ah (.int .i64) x74 (fun (n56:Int)=>BId ((lenS v63:Int)<n56) (Af ((Aj y [] (.t b) 0 5).map TV.agg) (fun (x75:TV)=>AU [.int .i64,.str,.str,.tv,.str] x75 (fun (p0:Int) (d9 d3:B8) (m2:TV) (c8:B8)=>Ae PR Am [e,.int .i64 n54,.int .i64 10] [.one .bool] y (fun (b25:Bool) l5=>(Aj l5 [] (.t b) 0 5=some [.int .i64 p0,.str d9,.str d3,m2,.str c8]/\need (List.all [.int .i64 p0,.str d9,.str d3,m2,.str c8] Ap) (K p0 d9 d3 m2 c8 b25 l5)))))) (Af ((Aj y [] (.t b) 0 5).map TV.agg) (fun (x76:TV)=>AU [.int .i64,.str,.str,.tv,.str] x76 (fun (t8:Int) (g4 l3:B8) (v65:TV) (n0:B8)=>need (List.all [.int .i64 t8,.str g4,.str l3,v65,.str n0] Ap) (K t8 g4 l3 v65 n0 true y)))))))))))))))))) (need (isPtr b) (Af (Ab q [] (.t (Ag b 3)) 0) (fun (w6:TV)=>need (isSl w6) (need (isPtr e) (need (isPtr e) (Af (Ab q [] (.t (Ag e 12)) 0) (fun (x78:TV)=>Ah (.int .i64) x78 (fun (n59:Int)=>BId ((lenS w6:Int)<n59) (Af ((Aj q [] (.t b) 0 5).map TV.agg) (fun (x79:TV)=>AU [.int .i64,.str,.str,.tv,.str] x79 (fun (p3:Int) (d2 e2:B8) (i1:TV) (d5:B8)=>Ae PR Am [e,.int .i64 n54,.int .i64 10] [.one .bool] q (fun (b26:Bool) h1=>(Aj h1 [] (.t b) 0 5=some [.int .i64 p3,.str d2,.str e2,i1,.str d5]/\need (List.all [.int .i64 p3,.str d2,.str e2,i1,.str d5] Ap) (K p3 d2 e2 i1 d5 b26 h1)))))) (Af ((Aj q [] (.t b) 0 5).map TV.agg) (fun (x80:TV)=>AU [.int .i64,.str,.str,.tv,.str] x80 (fun (z8:Int) (r2 o7:B8) (u4:TV) (l0:B8)=>need (List.all [.int .i64 z8,.str r2,.str o7,u4,.str l0] Ap) (K z8 r2 o7 u4 l0 true q))))))))))))))))))) ((I3 e i m b a5/\M3 e i m b a5<M3 e i m b s))))))))))))))))))))))) (Ae PR A0 [e,.bool m] [.agg [.int .i64,.str,.str,.tv,.str],.one .bool] s (fun (p9:Int) (d7 e6:B8) (c7:TV) (e0:B8) (b27:Bool) a6=>need (List.all [.int .i64 p9,.str d7,.str e6,c7,.str e0] Ap) (BIf (!b27) (Af ((Aj a6 [] (.t b) 0 5).map TV.agg) (fun (x81:TV)=>AU [.int .i64,.str,.str,.tv,.str] x81 (fun (n63:Int) (q9 p8:B8) (v70:TV) (f7:B8)=>need (List.all [.int .i64 n63,.str q9,.str p8,v70,.str f7] Ap) (K n63 q9 p8 v70 f7 false a6)))) (need (isPtr b) (Af (Ab a6 [] (.t (Ag b 3)) 0) (fun (f2:TV)=>need (isSl f2) (need (isPtr b) (need (List.all [.int .i64 p9,.str d7,.str e6,c7,.str e0] Ap) ((((lenS f2:Int)=(lenS f2:Int))/\AF 79 5 80 f2 1 [.int .i64 p9,.str d7,.str e6,c7,.str e0] a6 (fun (v72:TV) st47=>stB st47 (Ag b 3) [v72] (fun a7=>need (isSl c7) (BId ((lenS c7:Int)=(1:Int)) (need (isPtr e) (need (isPtr e) (Af (Ab a7 [] (.t (Ag e 10)) 0) (fun (x83:TV)=>Ah (.int .i64) x83 (fun (u2:Int)=>Ae PR AP [e,b] [.one .bool] a7 (fun (b28:Bool) n=>BIf (!b28) (Af ((Aj n [] (.t b) 0 5).map TV.agg) (fun (x84:TV)=>AU [.int .i64,.str,.str,.tv,.str] x84 (fun (z1:Int) (o5 g1:B8) (u0:TV) (k7:B8)=>need (List.all [.int .i64 z1,.str o5,.str g1,u0,.str k7] Ap) (K z1 o5 g1 u0 k7 false n)))) (BId (i=0) (need (isPtr b) (Af (Ab n [] (.t (Ag b 3)) 0) (fun (t5:TV)=>need (isSl t5) (need (isPtr e) (need (isPtr e) (stB n (Ag e 12) [(.int .i64 (lenS t5:Int))] (fun a2=>need (isPtr b) (Af (Ab a2 [] (.t (Ag b 3)) 0) (fun (v75:TV)=>need (isSl v75) (need (isPtr e) (need (isPtr e) (Af (Ab a2 [] (.t (Ag e 12)) 0) (fun (x87:TV)=>Ah (.int .i64) x87 (fun (n66:Int)=>BId ((lenS v75:Int)<n66) (Af ((Aj a2 [] (.t b) 0 5).map TV.agg) (fun (x88:TV)=>AU [.int .i64,.str,.str,.tv,.str] x88 (fun (p5:Int) (d1 e5:B8) (m5:TV) (e1:B8)=>Ae PR Am [e,.int .i64 u2,.int .i64 10] [.one .bool] a2 (fun (b29:Bool) q4=>(Aj q4 [] (.t b) 0 5=some [.int .i64 p5,.str d1,.str e5,m5,.str e1]/\need (List.all [.int .i64 p5,.str d1,.str e5,m5,.str e1] Ap) (K p5 d1 e5 m5 e1 b29 q4)))))) (Af ((Aj a2 [] (.t b) 0 5).map TV.agg) (fun (x89:TV)=>AU [.int .i64,.str,.str,.tv,.str] x89 (fun (y2:Int) (i4 p7:B8) (v77:TV) (o2:B8)=>need (List.all [.int .i64 y2,.str i4,.str p7,v77,.str o2] Ap) (K y2 i4 p7 v77 o2 true a2)))))))))))))))))) (need (isPtr b) (Af (Ab n [] (.t (Ag b 3)) 0) (fun (v78:TV)=>need (isSl v78) (need (isPtr e) (need (isPtr e) (Af (Ab n [] (.t (Ag e 12)) 0) (fun (x91:TV)=>Ah (.int .i64) x91 (fun (n69:Int)=>BId ((lenS v78:Int)<n69) (Af ((Aj n [] (.t b) 0 5).map TV.agg) (fun (x92:TV)=>AU [.int .i64,.str,.str,.tv,.str] x92 (fun (h9:Int) (d0 e3:B8) (p2:TV) (d4:B8)=>Ae PR Am [e,.int .i64 u2,.int .i64 10] [.one .bool] n (fun (b30:Bool) i9=>(Aj i9 [] (.t b) 0 5=some [.int .i64 h9,.str d0,.str e3,p2,.str d4]/\need (List.all [.int .i64 h9,.str d0,.str e3,p2,.str d4] Ap) (K h9 d0 e3 p2 d4 b30 i9)))))) (Af ((Aj n [] (.t b) 0 5).map TV.agg) (fun (x93:TV)=>AU [.int .i64,.str,.str,.tv,.str] x93 (fun (n71:Int) (j8 m1:B8) (v80:TV) (q8:B8)=>need (List.all [.int .i64 n71,.str j8,.str m1,v80,.str q8] Ap) (K n71 j8 m1 v80 q8 true n))))))))))))))))))) ((I3 e i m b a7/\M3 e i m b a7<M3 e i m b s))))))))))))))))))))):Ae PR Ct [(.box p 0),.int .i64 number] [.agg [.int .i64,.str,.str,.tv,.str],.one .bool] st K:=
 Ak (cfg:=⟨[4,8],[],[41,46,93]⟩) (h:=(.seq .none (.seq .none (.seq .none (.seq .none (.seq (.block (.loop ⟨[(0,.tv),(1,.int .i64),(6,.bool),(7,.tv)],[(4,0,0)],[(0,5)],[]⟩ .none)) .none)))))) mixed (fun _ _=>Tryz.call119 _ _) Tryz.func119 (by kernel_rfl) (by kernel_rfl) h
theorem Oc (n_0:Int) (f:B8) (i:B8) (a:TV) (g:B8) (depth:Int) (seen:Nat) (st:St) (K:Int->St->Prop) (h:BId ((192:Int)<depth) (K 9 st) (Af (Ab st [] (.t (.box seen 0)) 0) (fun (x1:TV)=>Ah (.int .i64) x1 (fun (n1:Int)=>stB st (.box seen 0) [(.int .i64 (i64.wrap (n1+(1:Int))))] (fun l=>Af (Ab l [] (.t (.box seen 0)) 0) (fun (x2:TV)=>Ah (.int .i64) x2 (fun (n2:Int)=>BId ((524288:Int)<n2) (K 10 l) (BId (n_0<1) (K 6 l) (BId ((12:Int)<=n_0) (K 6 l) (Ae PR Hf [.int .i64 n_0] [.one .bool] l (fun (b1:Bool) o=>BIf b1 (need (isSl a) (BId ((0:Int)<(lenS a:Int)) (K 1 o) (BId (g≠([]:B8)) (K 1 o) (need (isSl a) (∃(I1:Int->Int->TV->TV->Int->St->Prop) (M1:Int->Int->TV->TV->Int->St->Nat),(I1 0 depth ((.box seen 0)) a ((lenS a:Int)) o)/\∀f c d k i n,I1 f c d k i n->(BId (f<i) (((0<=f/\f<(lenZ 5 k:Int))/\Af ((Aj n [] (.t (ixT 5 k f.toNat)) 0 5).map TV.agg) (fun (x3:TV)=>AU [.int .i64,.str,.str,.tv,.str] x3 (fun (n3:Int) (s1 s2:B8) (v1:TV) (s3:B8)=>need (List.all [.int .i64 n3,.str s1,.str s2,v1,.str s3] Ap) (Ae PR Dn [(.agg [.int .i64 n3,.str s1,.str s2,v1,.str s3]),(.int .i64 (i64.wrap (c+(1:Int)))),d] [.one (.int .i64)] n (fun (n4:Int) q=>BId (n4≠0) (K n4 q) ((I1 ((i64.wrap (f+(1:Int)))) c d k i q/\M1 ((i64.wrap (f+(1:Int)))) c d k i q<M1 f c d k i n)))))))) (K 0 n))))))) (need (isSl a) (∃(I2:Int->Int->TV->TV->Int->St->Prop) (M2:Int->Int->TV->TV->Int->St->Nat),(I2 0 depth ((.box seen 0)) a ((lenS a:Int)) o)/\∀a b e j g m,I2 a b e j g m->(BId (a<g) (((0<=a/\a<(lenZ 5 j:Int))/\Af ((Aj m [] (.t (ixT 5 j a.toNat)) 0 5).map TV.agg) (fun (x4:TV)=>AU [.int .i64,.str,.str,.tv,.str] x4 (fun (n5:Int) (s4 s5:B8) (v2:TV) (s6:B8)=>need (List.all [.int .i64 n5,.str s4,.str s5,v2,.str s6] Ap) (Ae PR Dn [(.agg [.int .i64 n5,.str s4,.str s5,v2,.str s6]),(.int .i64 (i64.wrap (b+(1:Int)))),e] [.one (.int .i64)] m (fun (n6:Int) p=>BId (n6≠0) (K n6 p) ((I2 ((i64.wrap (a+(1:Int)))) b e j g p/\M2 ((i64.wrap (a+(1:Int)))) b e j g p<M2 a b e j g m)))))))) (K 0 m))))))))))))))):Ae PR Dn [(.agg [.int .i64 n_0,.str f,.str i,a,.str g]),.int .i64 depth,(.box seen 0)] [.one (.int .i64)] st K:=
 Ak (cfg:=⟨[3,8],[],[]⟩) (h:=(.seq .none (.seq .none (.seq .none (.seq .none (.seq .none (.seq (.seq .none (.block (.loop ⟨[(46,.int .i64),(1,.int .i64),(2,.tv),(44,.tv),(45,.int .i64)],[],[],[]⟩ .none))) .none))))))) mixed (fun _ _=>Tryz.call120 _ _) Tryz.func120 (by kernel_rfl) (by kernel_rfl) h
theorem QH (n_0:Int) (a:B8) (c:B8) (n_3:TV) (n_4:B8) (st:St) (K:Int->St->Prop) (h:need (isSl n_3) (∃(I1:Int->Int->TV->Int->St->Prop) (M1:Int->Int->TV->Int->St->Nat),(I1 ((i64.wrap ((i64.wrap ((a.length:Int)+(c.length:Int)))+(n_4.length:Int)))) 0 n_3 ((lenS n_3:Int)) st)/\∀b a d c e,I1 b a d c e->(BId (a<c) (((0<=a/\a<(lenZ 5 d:Int))/\Af ((Aj e [] (.t (ixT 5 d a.toNat)) 0 5).map TV.agg) (fun (x1:TV)=>AU [.int .i64,.str,.str,.tv,.str] x1 (fun (n1:Int) (s1 s2:B8) (v1:TV) (s3:B8)=>need (List.all [.int .i64 n1,.str s1,.str s2,v1,.str s3] Ap) (Ae PR F5 [(.agg [.int .i64 n1,.str s1,.str s2,v1,.str s3])] [.one (.int .i64)] e (fun (n2:Int) f=>(I1 ((i64.wrap (b+n2))) ((i64.wrap (a+(1:Int)))) d c f/\M1 ((i64.wrap (b+n2))) ((i64.wrap (a+(1:Int)))) d c f<M1 b a d c e))))))) (K b e)))):Ae PR F5 [(.agg [.int .i64 n_0,.str a,.str c,n_3,.str n_4])] [.one (.int .i64)] st K:=
 Ak (cfg:=⟨[1,5],[],[]⟩) (h:=(.seq .none (.seq .none (.seq (.seq .none (.block (.loop ⟨[(3,.int .i64),(20,.int .i64),(18,.tv),(19,.int .i64)],[],[],[]⟩ .none))) .none)))) mixed (fun _ _=>Tryz.call121 _ _) Tryz.func121 (by kernel_rfl) (by kernel_rfl) h
theorem Ob (b:Nat) (n_0:Int) (a:B8) (c:B8) (n_3:TV) (n_4:B8) (st:St) (K:St->Prop) (h:Ae PR A3 [(.box b 0),.str a] [.one (.int .i64),.one .tv] st (fun (n1:Int) (v1:TV) i=>Ae PR A3 [(.box b 0),.str c] [.one (.int .i64),.one .tv] i (fun (n2:Int) (v2:TV) k=>need (isSl n_3) (∃(I1:Int->TV->TV->Int->Int->B8->B8->TV->B8->St->Prop) (M1:Int->TV->TV->Int->Int->B8->B8->TV->B8->St->Nat),(I1 0 ((.box b 0)) n_3 ((lenS n_3:Int)) n_0 a c n_3 n_4 k)/\∀a e d c n3 s1 s2 v3 s3 f,I1 a e d c n3 s1 s2 v3 s3 f->(BId (a<c) (((0<=a/\a<(lenZ 5 d:Int))/\Af ((Aj f [] (.t (ixT 5 d a.toNat)) 0 5).map TV.agg) (fun (x1:TV)=>AU [.int .i64,.str,.str,.tv,.str] x1 (fun (n4:Int) (s4 s5:B8) (v4:TV) (s6:B8)=>need (List.all [.int .i64 n4,.str s4,.str s5,v4,.str s6] Ap) (Ae PR Em [e,(.agg [.int .i64 n4,.str s4,.str s5,v4,.str s6])] [] f (fun (g:St)=>(I1 ((i64.wrap (a+(1:Int)))) e d c n3 s1 s2 v3 s3 g/\M1 ((i64.wrap (a+(1:Int)))) e d c n3 s1 s2 v3 s3 g<M1 a e d c n3 s1 s2 v3 s3 f))))))) (Ae PR A3 [e,.str s3] [.one (.int .i64),.one .tv] f (fun (n5:Int) (v5:TV) j=>K j))))))):Ae PR Em [(.box b 0),(.agg [.int .i64 n_0,.str a,.str c,n_3,.str n_4])] [] st K:=
 Ak (cfg:=⟨[3,5],[],[]⟩) (h:=(.seq .none (.seq .none (.seq .none (.seq (.seq .none (.block (.loop ⟨[(17,.int .i64),(0,.tv),(15,.tv),(16,.int .i64)],[(3,0,0)],[(0,5)],[(0,0,.int .i64),(0,1,.str),(0,2,.str),(0,3,.tv),(0,4,.str)]⟩ .none))) .none))))) mixed (fun _ _=>Tryz.call122 _ _) Tryz.func122 (by kernel_rfl) (by kernel_rfl) h
theorem KF (b:Int) (st:St) (K:Bool->St->Prop) (h:Ae PR EL [.int .u8 b] [.one .bool] st (fun (b1:Bool) a=>BIf b1 (K true a) (BId ((48:Int)<=b) (BId (b<=57) (K true a) (BId (b=43) (K true a) (BId (b=45) (K true a) (BId (b=46) (K true a) (K ((decide (b=58))) a))))) (BId (b=43) (K true a) (BId (b=45) (K true a) (BId (b=46) (K true a) (K ((decide (b=58))) a))))))):Ae PR BO [.int .u8 b] [.one .bool] st K:=
 Ak (cfg:=⟨[],[],[]⟩) (h:= .none) mixed (fun _ _=>Tryz.call128 _ _) Tryz.func128 (by kernel_rfl) (by kernel_rfl) h
theorem Oi (n_0:Int) (n_1:B8) (n_2:B8) (n_3:TV) (n_4:B8) (d_0:Int) (d_1:Int) (d_2:Bool) (d_3:Bool) (st:St) (K:Bool->St->Prop) (h:Ae PR Gp [(.agg [.int .i64 n_0,.str n_1,.str n_2,n_3,.str n_4])] [.one (.int .i64)] st (fun (n1:Int) a=>BId (n1≠0) (K false a) (Ae PR Gn [(.agg [.int .i64 n_0,.str n_1,.str n_2,n_3,.str n_4])] [.one .str] a (fun (s1:B8) e=>Ae PR FH [] [.agg [.int .i64,.int .i64,.int .i64,.int .i64,.int .i64]] e (fun (n2 n3 n4 n5 n6:Int) d=>Ae PR DQ [.str s1,(.agg [.int .u8 d_0,.int .u8 d_1,.bool d_2,.bool d_3]),(.agg [.int .i64 n2,.int .i64 n3,.int .i64 n4,.int .i64 n5,.int .i64 n6])] [.agg [.int .i64,.str,.str,.tv,.str],.one (.int .i64),.one (.int .i64)] d (fun (n7:Int) (s2 s3:B8) (v1:TV) (s4:B8) (n8 n9:Int) b=>need (List.all [.int .i64 n7,.str s2,.str s3,v1,.str s4] Ap) (BId (n9=0) (Ae PR Fe [(.agg [.int .i64 n7,.str s2,.str s3,v1,.str s4]),(.agg [.int .i64 n_0,.str n_1,.str n_2,n_3,.str n_4])] [.one .bool] b (fun (b1:Bool) c=>K b1 c)) (K false b)))))))):Ae PR En [(.agg [.int .i64 n_0,.str n_1,.str n_2,n_3,.str n_4]),(.agg [.int .u8 d_0,.int .u8 d_1,.bool d_2,.bool d_3])] [.one .bool] st K:=
 Ak (cfg:=⟨[2,3,5],[],[]⟩) (h:= .none) mixed (fun _ _=>Tryz.call173 _ _) Tryz.func173 (by kernel_rfl) (by kernel_rfl) h
theorem Oh (cell:B8) (d_0:Int) (d_1:Int) (d_2:Bool) (d_3:Bool) (st:St) (K:B8->Bool->St->Prop) (h:BId (cell=([]:B8)) (K cell false st) (((0<=(0:Int)/\(0:Int)<(cell.length:Int))/\BId (((List.getD cell (Int.toNat (0:Int)) 0).toNat:Int)≠d_1) (K cell false st) (Af ((toBytes st (.list 1 .full 1 [.int .u8 d_1])).map TV.str) (fun (x1:TV)=>Ah .str x1 (fun (s1:B8)=>((0<=(1:Int)/\(1:Int)<=(i64.wrap ((cell.length:Int)-(1:Int)))/\(i64.wrap ((cell.length:Int)-(1:Int)))<=(cell.length:Int))/\(s1.length+s1.length<=9223372036854775807/\Ae PR CF [(.str (List.drop (Int.toNat (1:Int)) (List.take (Int.toNat (i64.wrap ((cell.length:Int)-(1:Int)))) cell))),(.str (s1++s1)),.str s1] [.one .str] st (fun (s2:B8) a=>K s2 true a))))))))):Ae PR CC [.str cell,(.agg [.int .u8 d_0,.int .u8 d_1,.bool d_2,.bool d_3])] [.one .str,.one .bool] st K:=
 Ak (cfg:=⟨[3],[],[]⟩) (h:= .none) mixed (fun _ _=>Tryz.call174 _ _) Tryz.func174 (by kernel_rfl) (by kernel_rfl) h
theorem HH (p:Nat) (depth:Int) (st:St) (K:Bool->St->Prop) (h:Af (Ab st [] (.t (.box p 5)) 0) (fun (x1:TV)=>Ah (.int .i64) x1 (fun (n1:Int)=>BId (n1<depth) (Af (Ab st [] (.t (.box p 10)) 0) (fun (x2:TV)=>Ah (.int .i64) x2 (fun (n2:Int)=>Ae PR Am [(.box p 0),.int .i64 n2,.int .i64 9] [.one .bool] st (fun (b1:Bool) a=>K b1 a)))) (Af (Ab st [] (.t (.box p 11)) 0) (fun (x3:TV)=>Ah (.int .i64) x3 (fun (n3:Int)=>Af (Ab st [] (.t (.box p 6)) 0) (fun (x4:TV)=>Ah (.int .i64) x4 (fun (n4:Int)=>BId (n4<=n3) (Af (Ab st [] (.t (.box p 10)) 0) (fun (x5:TV)=>Ah (.int .i64) x5 (fun (n5:Int)=>Ae PR Am [(.box p 0),.int .i64 n5,.int .i64 10] [.one .bool] st (fun (b2:Bool) c=>K b2 c)))) (Af (Ab st [] (.t (.box p 11)) 0) (fun (x6:TV)=>Ah (.int .i64) x6 (fun (n6:Int)=>stB st (.box p 11) [(.int .i64 (i64.wrap (n6+(1:Int))))] (fun b=>K true b)))))))))))):Ae PR Bw [(.box p 0),.int .i64 depth] [.one .bool] st K:=
 Ak (cfg:=⟨[],[],[]⟩) (h:= .none) mixed (fun _ _=>Tryz.call191 _ _) Tryz.func191 (by kernel_rfl) (by kernel_rfl) h
theorem HW (p:Nat) (atx:Int) (e:Int) (st:St) (K:Bool->St->Prop) (h:stB st (.box p 14) [.int .i64 atx] (fun a=>stB a (.box p 15) [.int .i64 e] (fun b=>K false b))):Ae PR Am [(.box p 0),.int .i64 atx,.int .i64 e] [.one .bool] st K:=
 Ak (cfg:=⟨[],[],[]⟩) (h:= .none) mixed (fun _ _=>Tryz.call192 _ _) Tryz.func192 (by kernel_rfl) (by kernel_rfl) h
theorem HI (p:Nat) (header:Bool) (st:St) (K:Int->B8->B8->TV->B8->Bool->St->Prop) (h:BIf (!header) (Ae PR Bw [(.box p 0),.int .i64 3] [.one .bool] st (fun (b1:Bool) c4=>BIf (!b1) (K 5 [] [] .nilSlice [] false c4) (Af (Ab c4 [] (.t (.box p 10)) 0) (fun (x1:TV)=>Ah (.int .i64) x1 (fun (n1:Int)=>Ae PR B3 [(.box p 0)] [.one .bool] c4 (fun (b2:Bool) z=>BIf (!b2) (K 5 [] [] .nilSlice [] false z) (Af (Ab z [] (.t (.box p 0)) 0) (fun (x2:TV)=>Ah .str x2 (fun (s1:B8)=>Af (Ab z [] (.t (.box p 10)) 0) (fun (x3:TV)=>Ah (.int .i64) x3 (fun (n2:Int)=>((0<=n1/\n1<=n2/\n2<=(s1.length:Int))/\Af ((Aj z [] (.t (.box p 1)) 0 4).map TV.agg) (fun (x4:TV)=>AU [.int .u8,.int .u8,.bool,.bool] x4 (fun (n3 n4:Int) (b3 b4:Bool)=>Ae PR CC [(.str (List.drop n1.toNat (List.take n2.toNat s1))),(.agg [.int .u8 n3,.int .u8 n4,.bool b3,.bool b4])] [.one .str,.one .bool] z (fun (s2:B8) (b5:Bool) c8=>∃(C1:Int->TV->Bool->Int->B8->B8->Int->B8->B8->TV->B8->St->Prop),(BIf header (C1 1024 ((.box p 0)) header n1 ((List.drop n1.toNat (List.take n2.toNat s1))) s2 5 [] [] .nilSlice [] c8) (C1 65536 ((.box p 0)) header n1 ((List.drop n1.toNat (List.take n2.toNat s1))) s2 5 [] [] .nilSlice [] c8))/\∀a2 a o w v a6 n5 s3 s4 v1 s5 m,C1 a2 a o w v a6 n5 s3 s4 v1 s5 m->(BId (a2<(a6.length:Int)) (Ae PR Am [a,.int .i64 w,.int .i64 10] [.one .bool] m (fun (b6:Bool) g1=>need (List.all [.int .i64 n5,.str s3,.str s4,v1,.str s5] Ap) (K n5 s3 s4 v1 s5 b6 g1))) (BIf o (need (isPtr a) (need (isPtr a) (Af (Ab m [] (.t (Ag a 13)) 0) (fun (v2:TV)=>Af (GN m v2) (fun (es1:List (B8×TV))=>Ah .bool (Ic (.bool false) (Cn a6 es1)) (fun (b7:Bool)=>BIf b7 (Ae PR Am [a,.int .i64 w,.int .i64 8] [.one .bool] m (fun (b8:Bool) e4=>need (List.all [.int .i64 n5,.str s3,.str s4,v1,.str s5] Ap) (K n5 s3 s4 v1 s5 b8 e4))) (need (isPtr a) (need (isPtr a) (Af (Ab m [] (.t (Ag a 13)) 0) (fun (v3:TV)=>muK v3 a6 (.bool true) m (fun e6=>AF 79 5 80 v1 1 [.int .i64 2,(.str []),.str v,.nilSlice,(.str [])] e6 (fun (v4:TV) l=>need (List.all [v4] Ap) (need (isPtr a) (need (isPtr a) (Af (Ab l [] (.t (Ag a 10)) 0) (fun (x7:TV)=>Ah (.int .i64) x7 (fun (n6:Int)=>need (isPtr a) (need (isPtr a) (Af (Ab l [] (.t (Ag a 0)) 0) (fun (x8:TV)=>Ah .str x8 (fun (s6:B8)=>BId (n6<(s6.length:Int)) (need (isPtr a) (need (isPtr a) (Af (Ab l [] (.t (Ag a 0)) 0) (fun (x9:TV)=>Ah .str x9 (fun (s7:B8)=>need (isPtr a) (need (isPtr a) (Af (Ab l [] (.t (Ag a 10)) 0) (fun (h2:TV)=>Ah (.int .i64) h2 (fun (n7:Int)=>((0<=n7/\n7<(s7.length:Int))/\need (isPtr a) (need (isPtr a) (need (isPtr (Ag a 1)) (Af (Ab l [] (.t (Ag (Ag a 1) 0)) 0) (fun (h8:TV)=>Ah (.int .u8) h8 (fun (n8:Int)=>BId (((List.getD s7 n7.toNat 0).toNat:Int)=n8) (need (isPtr a) (need (isPtr a) (Af (Ab l [] (.t (Ag a 10)) 0) (fun (f9:TV)=>Ah (.int .i64) f9 (fun (n9:Int)=>need (isPtr a) (need (isPtr a) (stB l (Ag a 10) [(.int .i64 (i64.wrap (n9+(1:Int))))] (fun c2=>need (isPtr a) (need (isPtr a) (need (isPtr (Ag a 1)) (Af (Ab c2 [] (.t (Ag (Ag a 1) 0)) 0) (fun (f4:TV)=>Ah (.int .u8) f4 (fun (h7:Int)=>Af ((toBytes c2 (.list 1 .full 1 [.int .u8 h7])).map TV.str) (fun (g2:TV)=>Ah .str g2 (fun (s8:B8)=>AF 79 5 80 v4 1 [.int .i64 11,(.str []),.str s8,.nilSlice,(.str [])] c2 (fun (v5:TV) d3=>need (List.all [v5] Ap) (need (List.all [.int .i64 n5,.str s3,.str s4,v5,.str s5] Ap) (K n5 s3 s4 v5 s5 true d3)))))))))))))))))) (need (List.all [.int .i64 n5,.str s3,.str s4,v4,.str s5] Ap) (K n5 s3 s4 v4 s5 true l))))))))))))))))) (need (List.all [.int .i64 n5,.str s3,.str s4,v4,.str s5] Ap) (K n5 s3 s4 v4 s5 true l))))))))))))))))))))))) (AF 79 5 80 v1 1 [.int .i64 2,(.str []),.str v,.nilSlice,(.str [])] m (fun (v6:TV) i=>need (List.all [v6] Ap) (need (isPtr a) (need (isPtr a) (Af (Ab i [] (.t (Ag a 10)) 0) (fun (e8:TV)=>Ah (.int .i64) e8 (fun (h5:Int)=>need (isPtr a) (need (isPtr a) (Af (Ab i [] (.t (Ag a 0)) 0) (fun (f5:TV)=>Ah .str f5 (fun (s9:B8)=>BId (h5<(s9.length:Int)) (need (isPtr a) (need (isPtr a) (Af (Ab i [] (.t (Ag a 0)) 0) (fun (g6:TV)=>Ah .str g6 (fun (c7:B8)=>need (isPtr a) (need (isPtr a) (Af (Ab i [] (.t (Ag a 10)) 0) (fun (g7:TV)=>Ah (.int .i64) g7 (fun (c1:Int)=>((0<=c1/\c1<(c7.length:Int))/\need (isPtr a) (need (isPtr a) (need (isPtr (Ag a 1)) (Af (Ab i [] (.t (Ag (Ag a 1) 0)) 0) (fun (e3:TV)=>Ah (.int .u8) e3 (fun (d8:Int)=>BId (((List.getD c7 c1.toNat 0).toNat:Int)=d8) (need (isPtr a) (need (isPtr a) (Af (Ab i [] (.t (Ag a 10)) 0) (fun (j7:TV)=>Ah (.int .i64) j7 (fun (g4:Int)=>need (isPtr a) (need (isPtr a) (stB i (Ag a 10) [(.int .i64 (i64.wrap (g4+(1:Int))))] (fun a5=>need (isPtr a) (need (isPtr a) (need (isPtr (Ag a 1)) (Af (Ab a5 [] (.t (Ag (Ag a 1) 0)) 0) (fun (e5:TV)=>Ah (.int .u8) e5 (fun (e1:Int)=>Af ((toBytes a5 (.list 1 .full 1 [.int .u8 e1])).map TV.str) (fun (i3:TV)=>Ah .str i3 (fun (j1:B8)=>AF 79 5 80 v6 1 [.int .i64 11,(.str []),.str j1,.nilSlice,(.str [])] a5 (fun (v7:TV) d2=>need (List.all [v7] Ap) (need (List.all [.int .i64 n5,.str s3,.str s4,v7,.str s5] Ap) (K n5 s3 s4 v7 s5 true d2)))))))))))))))))) (need (List.all [.int .i64 n5,.str s3,.str s4,v6,.str s5] Ap) (K n5 s3 s4 v6 s5 true i))))))))))))))))) (need (List.all [.int .i64 n5,.str s3,.str s4,v6,.str s5] Ap) (K n5 s3 s4 v6 s5 true i)))))))))))))))))))))))))))))) (Af (Ab st [] (.t (.box p 10)) 0) (fun (f0:TV)=>Ah (.int .i64) f0 (fun (n:Int)=>Ae PR B3 [(.box p 0)] [.one .bool] st (fun (b9:Bool) s=>BIf (!b9) (K 5 [] [] .nilSlice [] false s) (Af (Ab s [] (.t (.box p 0)) 0) (fun (i6:TV)=>Ah .str i6 (fun (a8:B8)=>Af (Ab s [] (.t (.box p 10)) 0) (fun (i5:TV)=>Ah (.int .i64) i5 (fun (a0:Int)=>((0<=n/\n<=a0/\a0<=(a8.length:Int))/\Af ((Aj s [] (.t (.box p 1)) 0 4).map TV.agg) (fun (e9:TV)=>AU [.int .u8,.int .u8,.bool,.bool] e9 (fun (h9 e0:Int) (h4 d9:Bool)=>Ae PR CC [(.str (List.drop n.toNat (List.take a0.toNat a8))),(.agg [.int .u8 h9,.int .u8 e0,.bool h4,.bool d9])] [.one .str,.one .bool] s (fun (c9:B8) (k0:Bool) c5=>∃(C2:Int->TV->Bool->Int->B8->B8->Int->B8->B8->TV->B8->St->Prop),(BIf header (C2 1024 ((.box p 0)) header n ((List.drop n.toNat (List.take a0.toNat a8))) c9 5 [] [] .nilSlice [] c5) (C2 65536 ((.box p 0)) header n ((List.drop n.toNat (List.take a0.toNat a8))) c9 5 [] [] .nilSlice [] c5))/\∀a1 b r u q a7 e f d v8 c k,C2 a1 b r u q a7 e f d v8 c k->(BId (a1<(a7.length:Int)) (Ae PR Am [b,.int .i64 u,.int .i64 10] [.one .bool] k (fun (g3:Bool) d5=>need (List.all [.int .i64 e,.str f,.str d,v8,.str c] Ap) (K e f d v8 c g3 d5))) (BIf r (need (isPtr b) (need (isPtr b) (Af (Ab k [] (.t (Ag b 13)) 0) (fun (v9:TV)=>Af (GN k v9) (fun (es2:List (B8×TV))=>Ah .bool (Ic (.bool false) (Cn a7 es2)) (fun (h3:Bool)=>BIf h3 (Ae PR Am [b,.int .i64 u,.int .i64 8] [.one .bool] k (fun (i0:Bool) d7=>need (List.all [.int .i64 e,.str f,.str d,v8,.str c] Ap) (K e f d v8 c i0 d7))) (need (isPtr b) (need (isPtr b) (Af (Ab k [] (.t (Ag b 13)) 0) (fun (h0:TV)=>muK h0 a7 (.bool true) k (fun d4=>AF 79 5 80 v8 1 [.int .i64 2,(.str []),.str q,.nilSlice,(.str [])] d4 (fun (y:TV) g=>need (List.all [y] Ap) (need (isPtr b) (need (isPtr b) (Af (Ab g [] (.t (Ag b 10)) 0) (fun (g8:TV)=>Ah (.int .i64) g8 (fun (f7:Int)=>need (isPtr b) (need (isPtr b) (Af (Ab g [] (.t (Ag b 0)) 0) (fun (j5:TV)=>Ah .str j5 (fun (i9:B8)=>BId (f7<(i9.length:Int)) (need (isPtr b) (need (isPtr b) (Af (Ab g [] (.t (Ag b 0)) 0) (fun (i2:TV)=>Ah .str i2 (fun (c6:B8)=>need (isPtr b) (need (isPtr b) (Af (Ab g [] (.t (Ag b 10)) 0) (fun (h1:TV)=>Ah (.int .i64) h1 (fun (b0:Int)=>((0<=b0/\b0<(c6.length:Int))/\need (isPtr b) (need (isPtr b) (need (isPtr (Ag b 1)) (Af (Ab g [] (.t (Ag (Ag b 1) 0)) 0) (fun (h6:TV)=>Ah (.int .u8) h6 (fun (i1:Int)=>BId (((List.getD c6 b0.toNat 0).toNat:Int)=i1) (need (isPtr b) (need (isPtr b) (Af (Ab g [] (.t (Ag b 10)) 0) (fun (f6:TV)=>Ah (.int .i64) f6 (fun (i7:Int)=>need (isPtr b) (need (isPtr b) (stB g (Ag b 10) [(.int .i64 (i64.wrap (i7+(1:Int))))] (fun a3=>need (isPtr b) (need (isPtr b) (need (isPtr (Ag b 1)) (Af (Ab a3 [] (.t (Ag (Ag b 1) 0)) 0) (fun (e7:TV)=>Ah (.int .u8) e7 (fun (f3:Int)=>Af ((toBytes a3 (.list 1 .full 1 [.int .u8 f3])).map TV.str) (fun (g5:TV)=>Ah .str g5 (fun (f1:B8)=>AF 79 5 80 y 1 [.int .i64 11,(.str []),.str f1,.nilSlice,(.str [])] a3 (fun (a9:TV) d6=>need (List.all [a9] Ap) (need (List.all [.int .i64 e,.str f,.str d,a9,.str c] Ap) (K e f d a9 c true d6)))))))))))))))))) (need (List.all [.int .i64 e,.str f,.str d,y,.str c] Ap) (K e f d y c true g))))))))))))))))) (need (List.all [.int .i64 e,.str f,.str d,y,.str c] Ap) (K e f d y c true g))))))))))))))))))))))) (AF 79 5 80 v8 1 [.int .i64 2,(.str []),.str q,.nilSlice,(.str [])] k (fun (x:TV) j=>need (List.all [x] Ap) (need (isPtr b) (need (isPtr b) (Af (Ab j [] (.t (Ag b 10)) 0) (fun (j8:TV)=>Ah (.int .i64) j8 (fun (f2:Int)=>need (isPtr b) (need (isPtr b) (Af (Ab j [] (.t (Ag b 0)) 0) (fun (j3:TV)=>Ah .str j3 (fun (i4:B8)=>BId (f2<(i4.length:Int)) (need (isPtr b) (need (isPtr b) (Af (Ab j [] (.t (Ag b 0)) 0) (fun (i8:TV)=>Ah .str i8 (fun (d0:B8)=>need (isPtr b) (need (isPtr b) (Af (Ab j [] (.t (Ag b 10)) 0) (fun (g0:TV)=>Ah (.int .i64) g0 (fun (c3:Int)=>((0<=c3/\c3<(d0.length:Int))/\need (isPtr b) (need (isPtr b) (need (isPtr (Ag b 1)) (Af (Ab j [] (.t (Ag (Ag b 1) 0)) 0) (fun (f8:TV)=>Ah (.int .u8) f8 (fun (e2:Int)=>BId (((List.getD d0 c3.toNat 0).toNat:Int)=e2) (need (isPtr b) (need (isPtr b) (Af (Ab j [] (.t (Ag b 10)) 0) (fun (j6:TV)=>Ah (.int .i64) j6 (fun (j0:Int)=>need (isPtr b) (need (isPtr b) (stB j (Ag b 10) [(.int .i64 (i64.wrap (j0+(1:Int))))] (fun a4=>need (isPtr b) (need (isPtr b) (need (isPtr (Ag b 1)) (Af (Ab a4 [] (.t (Ag (Ag b 1) 0)) 0) (fun (g9:TV)=>Ah (.int .u8) g9 (fun (j4:Int)=>Af ((toBytes a4 (.list 1 .full 1 [.int .u8 j4])).map TV.str) (fun (j9:TV)=>Ah .str j9 (fun (j2:B8)=>AF 79 5 80 x 1 [.int .i64 11,(.str []),.str j2,.nilSlice,(.str [])] a4 (fun (c0:TV) d1=>need (List.all [c0] Ap) (need (List.all [.int .i64 e,.str f,.str d,c0,.str c] Ap) (K e f d c0 c true d1)))))))))))))))))) (need (List.all [.int .i64 e,.str f,.str d,x,.str c] Ap) (K e f d x c true j))))))))))))))))) (need (List.all [.int .i64 e,.str f,.str d,x,.str c] Ap) (K e f d x c true j))))))))))))))))))))))))))))):Ae PR A0 [(.box p 0),.bool header] [.agg [.int .i64,.str,.str,.tv,.str],.one .bool] st K:=
 Ak (cfg:=⟨[4,6],[],[]⟩) (h:=(.seq .none (.seq .none (.seq .none (.seq .none (.seq .none (.seq .none (.seq .none (.seq .none (.cut ⟨[(11,.int .i64),(0,.tv),(1,.bool),(7,.int .i64),(8,.str),(9,.str)],[(4,0,0),(6,1,0)],[(0,5),(1,5)],[(1,0,.int .i64),(1,1,.str),(1,2,.str),(1,3,.tv),(1,4,.str)]⟩ .none .none)))))))))) mixed (fun _ _=>Tryz.call193 _ _) Tryz.func193 (by kernel_rfl) (by kernel_rfl) h
theorem GF (p:Nat) (r:Nat) (st:St) (K:Bool->St->Prop) (h:Af (Ab st [] (.t (.box p 10)) 0) (fun (x1:TV)=>Ah (.int .i64) x1 (fun (n1:Int)=>Af (Ab st [] (.t (.box p 10)) 0) (fun (x2:TV)=>Ah (.int .i64) x2 (fun (n2:Int)=>Af (Ab st [] (.t (.box p 0)) 0) (fun (x3:TV)=>Ah .str x3 (fun (s1:B8)=>BId (n2=(s1.length:Int)) (K true st) (Af (Ab st [] (.t (.box p 0)) 0) (fun (x4:TV)=>Ah .str x4 (fun (s2:B8)=>Af (Ab st [] (.t (.box p 10)) 0) (fun (x5:TV)=>Ah (.int .i64) x5 (fun (n3:Int)=>((0<=n3/\n3<(s2.length:Int))/\BId (((List.getD s2 n3.toNat 0).toNat:Int)=(13:Int)) (Af (Ab st [] (.t (.box p 10)) 0) (fun (x6:TV)=>Ah (.int .i64) x6 (fun (n4:Int)=>stB st (.box p 10) [(.int .i64 (i64.wrap (n4+(1:Int))))] (fun a=>Af (Ab a [] (.t (.box p 10)) 0) (fun (x7:TV)=>Ah (.int .i64) x7 (fun (n5:Int)=>Af (Ab a [] (.t (.box p 0)) 0) (fun (x8:TV)=>Ah .str x8 (fun (s3:B8)=>BId (n5=(s3.length:Int)) (Af (Ab a [] (.t (.box p 10)) 0) (fun (x9:TV)=>Ah (.int .i64) x9 (fun (n6:Int)=>Ae PR Am [(.box p 0),.int .i64 n6,.int .i64 4] [.one .bool] a (fun (b1:Bool) o=>K b1 o)))) (Af (Ab a [] (.t (.box p 0)) 0) (fun (i:TV)=>Ah .str i (fun (s4:B8)=>Af (Ab a [] (.t (.box p 10)) 0) (fun (f:TV)=>Ah (.int .i64) f (fun (n7:Int)=>((0<=n7/\n7<(s4.length:Int))/\BId (((List.getD s4 n7.toNat 0).toNat:Int)≠(10:Int)) (Ae PR Am [(.box p 0),.int .i64 n1,.int .i64 3] [.one .bool] a (fun (b2:Bool) n=>K b2 n)) (Af (Ab a [] (.t (.box p 10)) 0) (fun (g:TV)=>Ah (.int .i64) g (fun (n8:Int)=>stB a (.box p 10) [(.int .i64 (i64.wrap (n8+(1:Int))))] (fun d=>Af (Ab d [] (.t (.box p 0)) 0) (fun (u:TV)=>Ah .str u (fun (s5:B8)=>Af (Ab d [] (.t (.box p 10)) 0) (fun (k:TV)=>Ah (.int .i64) k (fun (n9:Int)=>((0<=n1/\n1<=n9/\n9<=(s5.length:Int))/\stB d (.box r 4) [(.str (List.drop n1.toNat (List.take n9.toNat s5)))] (fun j=>K true j)))))))))))))))))))))))) (BId (((List.getD s2 n3.toNat 0).toNat:Int)=(10:Int)) (Af (Ab st [] (.t (.box p 10)) 0) (fun (q:TV)=>Ah (.int .i64) q (fun (e:Int)=>stB st (.box p 10) [(.int .i64 (i64.wrap (e+(1:Int))))] (fun c=>Af (Ab c [] (.t (.box p 0)) 0) (fun (v:TV)=>Ah .str v (fun (s6:B8)=>Af (Ab c [] (.t (.box p 10)) 0) (fun (s:TV)=>Ah (.int .i64) s (fun (b:Int)=>((0<=n1/\n1<=b/\b<=(s6.length:Int))/\stB c (.box r 4) [(.str (List.drop n1.toNat (List.take b.toNat s6)))] (fun m=>K true m)))))))))) (Ae PR Am [(.box p 0),.int .i64 n1,.int .i64 3] [.one .bool] st (fun (b3:Bool) l=>K b3 l)))))))))))))))):Ae PR AP [(.box p 0),(.box r 0)] [.one .bool] st K:=
 Ak (cfg:=⟨[],[],[]⟩) (h:= .none) mixed (fun _ _=>Tryz.call194 _ _) Tryz.func194 (by kernel_rfl) (by kernel_rfl) h
theorem PF (kind:Int) (st:St) (K:Bool->St->Prop) (h:BId (kind=2) (BId (kind=2) (K true st) (K false st)) (BId (kind=6) (BId (kind=6) (K true st) (K false st)) (BId (kind=10) (BId (kind=10) (K true st) (K false st)) (BId (kind=11) (K true st) (K false st))))):Ae PR Hf [.int .i64 kind] [.one .bool] st K:=
 Ak (cfg:=⟨[],[],[]⟩) (h:= .none) mixed (fun _ _=>Tryz.call195 _ _) Tryz.func195 (by kernel_rfl) (by kernel_rfl) h
theorem LX (b:Int) (st:St) (K:Bool->St->Prop) (h:BId ((97:Int)<=b) (BId (b<=122) (K true st) (BId ((65:Int)<=b) (K ((decide (b<=90))) st) (K false st))) (BId ((65:Int)<=b) (K ((decide (b<=90))) st) (K false st))):Ae PR EL [.int .u8 b] [.one .bool] st K:=
 Ak (cfg:=⟨[],[],[]⟩) (h:= .none) mixed (fun _ _=>Tryz.call203 _ _) Tryz.func203 (by kernel_rfl) (by kernel_rfl) h
theorem PG (a_0:Int) (a_1:B8) (a_2:B8) (a_3:TV) (a_4:B8) (b_0:Int) (b_1:B8) (b_2:B8) (b_3:TV) (b_4:B8) (st:St) (K:Bool->St->Prop) (h:BId (a_0≠b_0) (K false st) (BId (a_1≠b_1) (K false st) (BId (a_2≠b_2) (K false st) (BId (a_4≠b_4) (K false st) (need (isSl a_3) (need (isSl b_3) (BId ((lenS a_3:Int)≠(lenS b_3:Int)) (K false st) (need (isSl a_3) (∃(I1:Int->Int->Int->B8->B8->TV->B8->Int->B8->B8->TV->B8->St->Prop) (M1:Int->Int->Int->B8->B8->TV->B8->Int->B8->B8->TV->B8->St->Nat),(I1 0 ((lenS a_3:Int)) a_0 a_1 a_2 a_3 a_4 b_0 b_1 b_2 b_3 b_4 st)/\∀a b n1 s1 s2 v1 s3 n2 s4 s5 v2 s6 c,I1 a b n1 s1 s2 v1 s3 n2 s4 s5 v2 s6 c->(BId (a<b) (((0<=a/\a<(lenZ 5 v1:Int))/\Af ((Aj Fg [] (.t (ixT 5 v1 a.toNat)) 0 5).map TV.agg) (fun (x1:TV)=>AU [.int .i64,.str,.str,.tv,.str] x1 (fun (n3:Int) (s7 s8:B8) (v3:TV) (s9:B8)=>((0<=a/\a<(lenZ 5 v2:Int))/\Af ((Aj Fg [] (.t (ixT 5 v2 a.toNat)) 0 5).map TV.agg) (fun (x2:TV)=>AU [.int .i64,.str,.str,.tv,.str] x2 (fun (n4:Int) (g e:B8) (v4:TV) (f:B8)=>Ae PR Fe [(.agg [.int .i64 n3,.str s7,.str s8,v3,.str s9]),(.agg [.int .i64 n4,.str g,.str e,v4,.str f])] [.one .bool] c (fun (b1:Bool) d=>BIf (!b1) (K false d) ((I1 ((i64.wrap (a+(1:Int)))) b n1 s1 s2 v1 s3 n2 s4 s5 v2 s6 d/\M1 ((i64.wrap (a+(1:Int)))) b n1 s1 s2 v1 s3 n2 s4 s5 v2 s6 d<M1 a b n1 s1 s2 v1 s3 n2 s4 s5 v2 s6 c)))))))))) (K true c))))))))))):Ae PR Fe [(.agg [.int .i64 a_0,.str a_1,.str a_2,a_3,.str a_4]),(.agg [.int .i64 b_0,.str b_1,.str b_2,b_3,.str b_4])] [.one .bool] st K:=
 Ak (cfg:=⟨[2,3],[],[]⟩) (h:=(.seq .none (.seq .none (.seq (.seq .none (.block (.loop ⟨[(44,.int .i64),(43,.int .i64)],[(2,0,0),(3,1,0)],[(0,5),(1,5)],[(0,0,.int .i64),(0,1,.str),(0,2,.str),(0,3,.tv),(0,4,.str),(1,0,.int .i64),(1,1,.str),(1,2,.str),(1,3,.tv),(1,4,.str)]⟩ .none))) .none)))) mixed (fun _ _=>Tryz.call252 _ _) Tryz.func252 (by kernel_rfl) (by kernel_rfl) h
theorem HX (p:Nat) (st:St) (K:Bool->St->Prop) (h:Af (Ab st [] (.t (.box p 10)) 0) (fun (x1:TV)=>Ah (.int .i64) x1 (fun (n1:Int)=>Af (Ab st [] (.t (.box p 0)) 0) (fun (x2:TV)=>Ah .str x2 (fun (s1:B8)=>BId (n1<(s1.length:Int)) (Af (Ab st [] (.t (.box p 0)) 0) (fun (x3:TV)=>Ah .str x3 (fun (s2:B8)=>Af (Ab st [] (.t (.box p 10)) 0) (fun (x4:TV)=>Ah (.int .i64) x4 (fun (n2:Int)=>((0<=n2/\n2<(s2.length:Int))/\Af (Ab st [] (.t (.box p 2)) 0) (fun (x5:TV)=>Ah (.int .u8) x5 (fun (n3:Int)=>BId (((List.getD s2 n2.toNat 0).toNat:Int)=n3) (Ae PR Cu [(.box p 0)] [.one .bool] st (fun (b1:Bool) s=>K b1 s)) (∃(I1:TV->St->Prop) (M1:TV->St->Nat),(I1 ((.box p 0)) st)/\∀a d,I1 a d->(need (isPtr a) (need (isPtr a) (Af (Ab d [] (.t (Ag a 10)) 0) (fun (x6:TV)=>Ah (.int .i64) x6 (fun (n4:Int)=>need (isPtr a) (need (isPtr a) (Af (Ab d [] (.t (Ag a 0)) 0) (fun (x7:TV)=>Ah .str x7 (fun (s3:B8)=>BId (n4<(s3.length:Int)) (need (isPtr a) (need (isPtr a) (Af (Ab d [] (.t (Ag a 0)) 0) (fun (x8:TV)=>Ah .str x8 (fun (s4:B8)=>need (isPtr a) (need (isPtr a) (Af (Ab d [] (.t (Ag a 10)) 0) (fun (x9:TV)=>Ah (.int .i64) x9 (fun (n5:Int)=>((0<=n5/\n5<(s4.length:Int))/\need (isPtr a) (need (isPtr a) (need (isPtr (Ag a 1)) (Af (Ab d [] (.t (Ag (Ag a 1) 0)) 0) (fun (w:TV)=>Ah (.int .u8) w (fun (n6:Int)=>BId (((List.getD s4 n5.toNat 0).toNat:Int)=n6) (BId (((List.getD s4 n5.toNat 0).toNat:Int)=n6) (K true d) (need (isPtr a) (need (isPtr a) (need (isPtr (Ag a 1)) (Af (Ab d [] (.t (Ag (Ag a 1) 1)) 0) (fun (d3:TV)=>Ah (.int .u8) d3 (fun (n7:Int)=>BId (((List.getD s4 n5.toNat 0).toNat:Int)=n7) (need (isPtr a) (need (isPtr a) (Af (Ab d [] (.t (Ag a 10)) 0) (fun (c0:TV)=>Ah (.int .i64) c0 (fun (n8:Int)=>Ae PR Am [a,.int .i64 n8,.int .i64 3] [.one .bool] d (fun (b2:Bool) a1=>K b2 a1)))))) (need (isPtr a) (need (isPtr a) (Af (Ab d [] (.t (Ag a 10)) 0) (fun (e2:TV)=>Ah (.int .i64) e2 (fun (n9:Int)=>need (isPtr a) (need (isPtr a) (stB d (Ag a 10) [(.int .i64 (i64.wrap (n9+(1:Int))))] (fun l=>(I1 a l/\M1 a l<M1 a d)))))))))))))))) (BId (((List.getD s4 n5.toNat 0).toNat:Int)=(10:Int)) (BId (((List.getD s4 n5.toNat 0).toNat:Int)=(10:Int)) (K true d) (need (isPtr a) (need (isPtr a) (need (isPtr (Ag a 1)) (Af (Ab d [] (.t (Ag (Ag a 1) 1)) 0) (fun (c2:TV)=>Ah (.int .u8) c2 (fun (d1:Int)=>BId (((List.getD s4 n5.toNat 0).toNat:Int)=d1) (need (isPtr a) (need (isPtr a) (Af (Ab d [] (.t (Ag a 10)) 0) (fun (c7:TV)=>Ah (.int .i64) c7 (fun (b9:Int)=>Ae PR Am [a,.int .i64 b9,.int .i64 3] [.one .bool] d (fun (b3:Bool) c1=>K b3 c1)))))) (need (isPtr a) (need (isPtr a) (Af (Ab d [] (.t (Ag a 10)) 0) (fun (a4:TV)=>Ah (.int .i64) a4 (fun (a8:Int)=>need (isPtr a) (need (isPtr a) (stB d (Ag a 10) [(.int .i64 (i64.wrap (a8+(1:Int))))] (fun k=>(I1 a k/\M1 a k<M1 a d)))))))))))))))) (BId (((List.getD s4 n5.toNat 0).toNat:Int)=(13:Int)) (K true d) (need (isPtr a) (need (isPtr a) (need (isPtr (Ag a 1)) (Af (Ab d [] (.t (Ag (Ag a 1) 1)) 0) (fun (c8:TV)=>Ah (.int .u8) c8 (fun (u:Int)=>BId (((List.getD s4 n5.toNat 0).toNat:Int)=u) (need (isPtr a) (need (isPtr a) (Af (Ab d [] (.t (Ag a 10)) 0) (fun (c9:TV)=>Ah (.int .i64) c9 (fun (c3:Int)=>Ae PR Am [a,.int .i64 c3,.int .i64 3] [.one .bool] d (fun (b4:Bool) c6=>K b4 c6)))))) (need (isPtr a) (need (isPtr a) (Af (Ab d [] (.t (Ag a 10)) 0) (fun (a6:TV)=>Ah (.int .i64) a6 (fun (a5:Int)=>need (isPtr a) (need (isPtr a) (stB d (Ag a 10) [(.int .i64 (i64.wrap (a5+(1:Int))))] (fun j=>(I1 a j/\M1 a j<M1 a d)))))))))))))))))))))))))))))))) (K true d))))))))))))))))))) (∃(I2:TV->St->Prop) (M2:TV->St->Nat),(I2 ((.box p 0)) st)/\∀b c,I2 b c->(need (isPtr b) (need (isPtr b) (Af (Ab c [] (.t (Ag b 10)) 0) (fun (d8:TV)=>Ah (.int .i64) d8 (fun (r:Int)=>need (isPtr b) (need (isPtr b) (Af (Ab c [] (.t (Ag b 0)) 0) (fun (b0:TV)=>Ah .str b0 (fun (s5:B8)=>BId (r<(s5.length:Int)) (need (isPtr b) (need (isPtr b) (Af (Ab c [] (.t (Ag b 0)) 0) (fun (y:TV)=>Ah .str y (fun (s6:B8)=>need (isPtr b) (need (isPtr b) (Af (Ab c [] (.t (Ag b 10)) 0) (fun (d6:TV)=>Ah (.int .i64) d6 (fun (e:Int)=>((0<=e/\e<(s6.length:Int))/\need (isPtr b) (need (isPtr b) (need (isPtr (Ag b 1)) (Af (Ab c [] (.t (Ag (Ag b 1) 0)) 0) (fun (a2:TV)=>Ah (.int .u8) a2 (fun (m:Int)=>BId (((List.getD s6 e.toNat 0).toNat:Int)=m) (BId (((List.getD s6 e.toNat 0).toNat:Int)=m) (K true c) (need (isPtr b) (need (isPtr b) (need (isPtr (Ag b 1)) (Af (Ab c [] (.t (Ag (Ag b 1) 1)) 0) (fun (a0:TV)=>Ah (.int .u8) a0 (fun (z:Int)=>BId (((List.getD s6 e.toNat 0).toNat:Int)=z) (need (isPtr b) (need (isPtr b) (Af (Ab c [] (.t (Ag b 10)) 0) (fun (d4:TV)=>Ah (.int .i64) d4 (fun (a9:Int)=>Ae PR Am [b,.int .i64 a9,.int .i64 3] [.one .bool] c (fun (b5:Bool) o=>K b5 o)))))) (need (isPtr b) (need (isPtr b) (Af (Ab c [] (.t (Ag b 10)) 0) (fun (b8:TV)=>Ah (.int .i64) b8 (fun (a7:Int)=>need (isPtr b) (need (isPtr b) (stB c (Ag b 10) [(.int .i64 (i64.wrap (a7+(1:Int))))] (fun i=>(I2 b i/\M2 b i<M2 b c)))))))))))))))) (BId (((List.getD s6 e.toNat 0).toNat:Int)=(10:Int)) (BId (((List.getD s6 e.toNat 0).toNat:Int)=(10:Int)) (K true c) (need (isPtr b) (need (isPtr b) (need (isPtr (Ag b 1)) (Af (Ab c [] (.t (Ag (Ag b 1) 1)) 0) (fun (c4:TV)=>Ah (.int .u8) c4 (fun (e1:Int)=>BId (((List.getD s6 e.toNat 0).toNat:Int)=e1) (need (isPtr b) (need (isPtr b) (Af (Ab c [] (.t (Ag b 10)) 0) (fun (d2:TV)=>Ah (.int .i64) d2 (fun (d5:Int)=>Ae PR Am [b,.int .i64 d5,.int .i64 3] [.one .bool] c (fun (b6:Bool) q=>K b6 q)))))) (need (isPtr b) (need (isPtr b) (Af (Ab c [] (.t (Ag b 10)) 0) (fun (d0:TV)=>Ah (.int .i64) d0 (fun (a3:Int)=>need (isPtr b) (need (isPtr b) (stB c (Ag b 10) [(.int .i64 (i64.wrap (a3+(1:Int))))] (fun g=>(I2 b g/\M2 b g<M2 b c)))))))))))))))) (BId (((List.getD s6 e.toNat 0).toNat:Int)=(13:Int)) (K true c) (need (isPtr b) (need (isPtr b) (need (isPtr (Ag b 1)) (Af (Ab c [] (.t (Ag (Ag b 1) 1)) 0) (fun (x:TV)=>Ah (.int .u8) x (fun (d9:Int)=>BId (((List.getD s6 e.toNat 0).toNat:Int)=d9) (need (isPtr b) (need (isPtr b) (Af (Ab c [] (.t (Ag b 10)) 0) (fun (v:TV)=>Ah (.int .i64) v (fun (d7:Int)=>Ae PR Am [b,.int .i64 d7,.int .i64 3] [.one .bool] c (fun (b7:Bool) n=>K b7 n)))))) (need (isPtr b) (need (isPtr b) (Af (Ab c [] (.t (Ag b 10)) 0) (fun (c5:TV)=>Ah (.int .i64) c5 (fun (e0:Int)=>need (isPtr b) (need (isPtr b) (stB c (Ag b 10) [(.int .i64 (i64.wrap (e0+(1:Int))))] (fun f=>(I2 b f/\M2 b f<M2 b c)))))))))))))))))))))))))))))))) (K true c)))))))))))))))):Ae PR B3 [(.box p 0)] [.one .bool] st K:=
 Ak (cfg:=⟨[],[],[]⟩) (h:=(.seq .none (.seq .none (.seq (.block (.loop ⟨[(0,.tv)],[],[],[]⟩ .none)) .none)))) mixed (fun _ _=>Tryz.call265 _ _) Tryz.func265 (by kernel_rfl) (by kernel_rfl) h
theorem GZ (p:Nat) (st:St) (K:Bool->St->Prop) (h:Af (Ab st [] (.t (.box p 10)) 0) (fun (x1:TV)=>Ah (.int .i64) x1 (fun (n1:Int)=>stB st (.box p 10) [(.int .i64 (i64.wrap (n1+(1:Int))))] (fun g=>∃(I1:TV->St->Prop) (M1:TV->St->Nat),(I1 ((.box p 0)) g)/\∀a b,I1 a b->(need (isPtr a) (need (isPtr a) (Af (Ab b [] (.t (Ag a 10)) 0) (fun (x2:TV)=>Ah (.int .i64) x2 (fun (n2:Int)=>need (isPtr a) (need (isPtr a) (Af (Ab b [] (.t (Ag a 0)) 0) (fun (x3:TV)=>Ah .str x3 (fun (s1:B8)=>BId (n2<(s1.length:Int)) (need (isPtr a) (need (isPtr a) (Af (Ab b [] (.t (Ag a 0)) 0) (fun (x4:TV)=>Ah .str x4 (fun (s2:B8)=>need (isPtr a) (need (isPtr a) (Af (Ab b [] (.t (Ag a 10)) 0) (fun (x5:TV)=>Ah (.int .i64) x5 (fun (n3:Int)=>((0<=n3/\n3<(s2.length:Int))/\need (isPtr a) (need (isPtr a) (need (isPtr (Ag a 1)) (Af (Ab b [] (.t (Ag (Ag a 1) 1)) 0) (fun (x6:TV)=>Ah (.int .u8) x6 (fun (n4:Int)=>BId (((List.getD s2 n3.toNat 0).toNat:Int)≠n4) (need (isPtr a) (need (isPtr a) (Af (Ab b [] (.t (Ag a 10)) 0) (fun (x7:TV)=>Ah (.int .i64) x7 (fun (n5:Int)=>need (isPtr a) (need (isPtr a) (stB b (Ag a 10) [(.int .i64 (i64.wrap (n5+(1:Int))))] (fun e=>(I1 a e/\M1 a e<M1 a b))))))))) (need (isPtr a) (need (isPtr a) (Af (Ab b [] (.t (Ag a 10)) 0) (fun (x8:TV)=>Ah (.int .i64) x8 (fun (n6:Int)=>need (isPtr a) (need (isPtr a) (stB b (Ag a 10) [(.int .i64 (i64.wrap (n6+(1:Int))))] (fun c=>need (isPtr a) (need (isPtr a) (Af (Ab c [] (.t (Ag a 10)) 0) (fun (x9:TV)=>Ah (.int .i64) x9 (fun (n7:Int)=>need (isPtr a) (need (isPtr a) (Af (Ab c [] (.t (Ag a 0)) 0) (fun (k:TV)=>Ah .str k (fun (s3:B8)=>BId (n7=(s3.length:Int)) (K true c) (need (isPtr a) (need (isPtr a) (Af (Ab c [] (.t (Ag a 0)) 0) (fun (i:TV)=>Ah .str i (fun (s4:B8)=>need (isPtr a) (need (isPtr a) (Af (Ab c [] (.t (Ag a 10)) 0) (fun (j:TV)=>Ah (.int .i64) j (fun (n8:Int)=>((0<=n8/\n8<(s4.length:Int))/\need (isPtr a) (need (isPtr a) (need (isPtr (Ag a 1)) (Af (Ab c [] (.t (Ag (Ag a 1) 1)) 0) (fun (o:TV)=>Ah (.int .u8) o (fun (n9:Int)=>BId (((List.getD s4 n8.toNat 0).toNat:Int)≠n9) (K true c) (need (isPtr a) (need (isPtr a) (Af (Ab c [] (.t (Ag a 10)) 0) (fun (l:TV)=>Ah (.int .i64) l (fun (f:Int)=>need (isPtr a) (need (isPtr a) (stB c (Ag a 10) [(.int .i64 (i64.wrap (f+(1:Int))))] (fun d=>(I1 a d/\M1 a d<M1 a b))))))))))))))))))))))))))))))))))))))))))))))))))))))) (need (isPtr a) (need (isPtr a) (Af (Ab b [] (.t (Ag a 0)) 0) (fun (n:TV)=>Ah .str n (fun (s5:B8)=>Ae PR Am [a,(.int .i64 (s5.length:Int)),.int .i64 4] [.one .bool] b (fun (b1:Bool) m=>K b1 m))))))))))))))))))):Ae PR Cu [(.box p 0)] [.one .bool] st K:=
 Ak (cfg:=⟨[],[],[]⟩) (h:=(.seq .none (.seq (.seq .none (.block (.loop ⟨[(0,.tv)],[],[],[]⟩ .none))) .none))) mixed (fun _ _=>Tryz.call299 _ _) Tryz.func299 (by kernel_rfl) (by kernel_rfl) h
section
structure Sc where
 kind:Int
 b:Bool
 neg:Bool
 dg:B8
 ex:Int
 tk:Int
 td:Int
 tn:Int
 tz:Int
 text:B8
 bytes:B8
mutual
inductive Vl where
 | mk (s:Sc) (l:List Vl) (f:List Fd)
inductive Fd where
 | mk (k:B8) (v:Vl)
end
def Vl.sc:Vl->Sc | .mk s _ _=>s
def Fd.key:Fd->B8 | .mk k _=>k
def SlR (st:St) (sz:Nat) (v:TV) (n:Nat) (xs:List TV):Prop:=
 Rd sz v n xs∨∃b off cap l,v= .ms sz b off n cap/\b<st.nb/\st.box b= .cells l/\off+cap*sz<=l.length/\n<=cap/\xs=(l.drop off).take (n*sz)
theorem SlR.of_rd {st:St} {sz n:Nat} {v:TV} {xs:List TV} (h:Rd sz v n xs):SlR st sz v n xs:= .inl h
def DF (st st':St):Prop:=st.nb<=st'.nb/\∀b,b<st.nb->st'.box b=st.box b
theorem SlR.keep {st st':St} (k:DF st st') {sz n:Nat} {v:TV} {xs:List TV} (h:SlR st sz v n xs):SlR st' sz v n xs:=by
 rcases h with h | ⟨b,off,cap,l,h1,h2,h3,h4,h5,h6⟩
 ·exact .inl h
 ·exact .inr ⟨b,off,cap,l,h1,Nat.lt_of_lt_of_le h2 k.1,(k.2 b h2).trans h3,h4,h5,h6⟩
mutual
def VlR (st:St):Vl->List TV->Prop
 | .mk s l f,cs=>∃ub ul uf xl xf,cs=[.int .i64 s.kind,.bool s.b,.bool s.neg,.str s.dg,.int .i64 s.ex,.int .i64 s.tk,.int .i64 s.td,.int .i64 s.tn,.int .i64 s.tz,.str s.text,ub,ul,uf]/\
   SlR st 1 ub s.bytes.length (AQ s.bytes)/\SlR st 13 ul l.length xl/\VsR st l xl/\SlR st 14 uf f.length xf/\FsR st f xf
def VsR (st:St):List Vl->List TV->Prop
 | [],xs=>xs=[]
 | v::r,xs=>∃a b,xs=a++b/\VlR st v a/\VsR st r b
def FdR (st:St):Fd->List TV->Prop
 | .mk k v,xs=>∃cs,xs= .str k::cs/\VlR st v cs
def FsR (st:St):List Fd->List TV->Prop
 | [],xs=>xs=[]
 | d::r,xs=>∃a b,xs=a++b/\FdR st d a/\FsR st r b
end
mutual
theorem VlR.keep {st st':St} (k:DF st st'):∀{v:Vl} {cs:List TV},VlR st v cs->VlR st' v cs
 | .mk s l f,cs,h=>by
  unfold VlR at h⊢
  obtain⟨ub,ul,uf,xl,xf,h0,h1,h2,h3,h4,h5⟩:=h
  exact⟨ub,ul,uf,xl,xf,h0,h1.keep k,h2.keep k,VsR.keep k h3,h4.keep k,FsR.keep k h5⟩
theorem VsR.keep {st st':St} (k:DF st st'):∀{l:List Vl} {cs:List TV},VsR st l cs->VsR st' l cs
 | [],cs,h=>by unfold VsR at h⊢;exact h
 | v::r,cs,h=>by
  unfold VsR at h⊢
  obtain⟨a,b,h0,h1,h2⟩:=h
  exact⟨a,b,h0,VlR.keep k h1,VsR.keep k h2⟩
theorem FdR.keep {st st':St} (k:DF st st'):∀{d:Fd} {cs:List TV},FdR st d cs->FdR st' d cs
 | .mk key v,cs,h=>by
  unfold FdR at h⊢
  obtain⟨c,h0,h1⟩:=h
  exact⟨c,h0,VlR.keep k h1⟩
theorem FsR.keep {st st':St} (k:DF st st'):∀{l:List Fd} {cs:List TV},FsR st l cs->FsR st' l cs
 | [],cs,h=>by unfold FsR at h⊢;exact h
 | d::r,cs,h=>by
  unfold FsR at h⊢
  obtain⟨a,b,h0,h1,h2⟩:=h
  exact⟨a,b,h0,FdR.keep k h1,FsR.keep k h2⟩
end
theorem VlR.len {st:St} {v:Vl} {cs:List TV} (h:VlR st v cs):cs.length=13:=by
 cases v;unfold VlR at h;obtain⟨ub,ul,uf,xl,xf,rfl,_⟩:=h;rfl
theorem FdR.len {st:St} {v:Fd} {cs:List TV} (h:FdR st v cs):cs.length=14:=by
 cases v;unfold FdR at h;obtain⟨c,rfl,h⟩:=h;simp[h.len]
theorem VsR.len {st:St}:∀{l:List Vl} {xs:List TV},VsR st l xs->xs.length=l.length*13
 | [],xs,h=>by unfold VsR at h;subst h;rfl
 | v::r,xs,h=>by
  unfold VsR at h
  obtain⟨a,b,rfl,h1,h2⟩:=h
  rw[List.length_append,h1.len,VsR.len h2,List.length_cons];omega
theorem FsR.len {st:St}:∀{l:List Fd} {xs:List TV},FsR st l xs->xs.length=l.length*14
 | [],xs,h=>by unfold FsR at h;subst h;rfl
 | v::r,xs,h=>by
  unfold FsR at h
  obtain⟨a,b,rfl,h1,h2⟩:=h
  rw[List.length_append,h1.len,FsR.len h2,List.length_cons];omega
theorem VsR.get {st:St}:∀{l:List Vl} {xs:List TV} {i:Nat} {v:Vl},VsR st l xs->l[i]? =some v->∃cs,VlR st v cs/\(xs.drop (i*13)).take 13=cs/\cs.length=13
 | [],xs,i,v,h,hi=>by simp at hi
 | w::r,xs,i,v,h,hi=>by
  unfold VsR at h
  obtain⟨a,b,rfl,h1,h2⟩:=h
  cases i with
  | zero=>
   simp only[List.getElem?_cons_zero,Option.some.injEq]at hi
   subst hi
   refine⟨a,h1,?_,h1.len⟩
   rw[Nat.zero_mul,List.drop_zero,<-h1.len,List.take_left]
  | succ i=>
   obtain⟨cs,h3,h4,h5⟩:=VsR.get h2 (by simpa using hi)
   refine⟨cs,h3,?_,h5⟩
   rw[show(i+1)*13=a.length+i*13 by rw[h1.len];omega,List.drop_append]
   simp only[Nat.add_sub_cancel_left]
   rw[List.drop_of_length_le (by omega),List.nil_append];exact h4
theorem FsR.get {st:St}:∀{l:List Fd} {xs:List TV} {i:Nat} {v:Fd},FsR st l xs->l[i]? =some v->∃cs,FdR st v cs/\(xs.drop (i*14)).take 14=cs/\cs.length=14
 | [],xs,i,v,h,hi=>by simp at hi
 | w::r,xs,i,v,h,hi=>by
  unfold FsR at h
  obtain⟨a,b,rfl,h1,h2⟩:=h
  cases i with
  | zero=>
   simp only[List.getElem?_cons_zero,Option.some.injEq]at hi
   subst hi
   refine⟨a,h1,?_,h1.len⟩
   rw[Nat.zero_mul,List.drop_zero,<-h1.len,List.take_left]
  | succ i=>
   obtain⟨cs,h3,h4,h5⟩:=FsR.get h2 (by simpa using hi)
   refine⟨cs,h3,?_,h5⟩
   rw[show(i+1)*14=a.length+i*14 by rw[h1.len];omega,List.drop_append]
   simp only[Nat.add_sub_cancel_left]
   rw[List.drop_of_length_le (by omega),List.nil_append];exact h4
mutual
def Vl.cnt:Vl->Nat
 | .mk _ l f=>1+Ep l+GS f
def Ep:List Vl->Nat
 | []=>0
 | v::r=>v.cnt+Ep r
def Fd.cnt:Fd->Nat
 | .mk _ v=>v.cnt
def GS:List Fd->Nat
 | []=>0
 | d::r=>d.cnt+GS r
end
end
structure StX (S:Nat->Prop) (a b:St):Prop where
 nb:a.nb<=b.nb
 box:∀i,i<a.nb->¬S i->b.box i=a.box i
 nt:a.nt<=b.nt
 live:∀i,i<a.nt->b.live i=a.live i
 ty:∀i,i<a.nt->b.ty i=a.ty i
 bt:∀i,i<a.nb->b.bt i=a.bt i
theorem StX.refl (S:Nat->Prop) (a:St):StX S a a:=⟨Nat.le_refl _,fun _ _ _=>rfl,Nat.le_refl _,fun _ _=>rfl,fun _ _=>rfl,fun _ _=>rfl⟩
theorem StX.trans {S:Nat->Prop} {a b c:St} (h:StX S a b) (k:StX S b c):StX S a c:=
 ⟨Nat.le_trans h.nb k.nb,fun i hi hs=>(k.box i (Nat.lt_of_lt_of_le hi h.nb) hs).trans (h.box i hi hs),Nat.le_trans h.nt k.nt,fun i hi=>(k.live i (Nat.lt_of_lt_of_le hi h.nt)).trans (h.live i hi),fun i hi=>(k.ty i (Nat.lt_of_lt_of_le hi h.nt)).trans (h.ty i hi),fun i hi=>(k.bt i (Nat.lt_of_lt_of_le hi h.nb)).trans (h.bt i hi)⟩
theorem StX.mono {S T:Nat->Prop} {a b:St} (h:StX S a b) (k:∀i,S i->T i):StX T a b:=
 ⟨h.nb,fun i hi hs=>h.box i hi fun g=>hs (k i g),h.nt,h.live,h.ty,h.bt⟩
theorem StX.of {S:Nat->Prop} {a b:St} (h:Ay a b):StX S a b:=⟨h.nb,fun i hi _=>h.box i hi,h.nt,h.live,h.ty,h.bt⟩
theorem StX.ext {S:Nat->Prop} {a b c:St} (h:Ay a b) (k:StX S b c) (hs:∀i,S i->a.nb<=i):Ay a c:=
 ⟨Nat.le_trans h.nb k.nb,fun i hi=>(k.box i (Nat.lt_of_lt_of_le hi h.nb) fun g=>absurd (hs i g) (by omega)).trans (h.box i hi),Nat.le_trans h.nt k.nt,fun i hi=>(k.live i (Nat.lt_of_lt_of_le hi h.nt)).trans (h.live i hi),fun i hi=>(k.ty i (Nat.lt_of_lt_of_le hi h.nt)).trans (h.ty i hi),fun i hi=>(k.bt i (Nat.lt_of_lt_of_le hi h.nb)).trans (h.bt i hi)⟩
theorem StX.put {S:Nat->Prop} {a:St} {i:Nat} (hi:S i) (o:IM):StX S a (a.put i o):=
 ⟨Nat.le_refl _,fun j hj hs=>by simp only[St.put];rw[if_neg (by rintro rfl;exact hs hi)],Nat.le_refl _,fun _ _=>rfl,fun _ _=>rfl,fun _ _=>rfl⟩
theorem WQ {k:B8} {n1:Int} {b1 b2:Bool} {s2:B8} {n2 n3 n4 n5 n6:Int} {s3:B8} {u1 u2 u3:TV} {f:Fun [.str,.int .i64,.bool,.bool,.str,.int .i64,.int .i64,.int .i64,.int .i64,.int .i64,.str,.tv,.tv,.tv] Prop} (h:f k n1 b1 b2 s2 n2 n3 n4 n5 n6 s3 u1 u2 u3):
  AU [.str,.int .i64,.bool,.bool,.str,.int .i64,.int .i64,.int .i64,.int .i64,.int .i64,.str,.tv,.tv,.tv] (.agg [.str k,.int .i64 n1,.bool b1,.bool b2,.str s2,.int .i64 n2,.int .i64 n3,.int .i64 n4,.int .i64 n5,.int .i64 n6,.str s3,u1,u2,u3]) f:=h
theorem MM:∀(ys A c B:List TV),ys.length=c.length->setAll (A++c++B) A.length ys=A++ys++B
 | [],A,c,B,h=>by
  have:c=[]:=List.eq_nil_of_length_eq_zero (by simpa using h.symm)
  subst this;rfl
 | y::ys,A,[],B,h=>by simp at h
 | y::ys,A,x::c,B,h=>by
  rw[setAll]
  have e:(A++x::c++B).set A.length y=(A++[y])++c++B:=by simp
  rw[e]
  have:=MM ys (A++[y]) c B (by simpa using h)
  rw[List.length_append]at this
  rw[show A.length+1=A.length+ [y].length from rfl,this]
  simp
theorem Kf {st:St} {b:Nat} {B:List TV}:∀(c:List TV) (l:List TV) (j o:Nat),st.box b= .cells l->l.drop (o+j)=c++B->Aj st [] (.t (.box b o)) j c.length=some c
 | [],l,j,o,h,hd=>rfl
 | x::c,l,j,o,h,hd=>by
  have hx:l[o+j]? =some x:=by
   have:=congrArg (fun z:List TV=>z[0]?) hd
   simpa using this
  have hd2:l.drop (o+(j+1))=c++B:=by
   have:=congrArg (fun z:List TV=>z.drop 1) hd
   simpa [List.drop_drop,Nat.add_assoc]using this
  show(match Ab st [] (.t (.box b o)) j with | some x=>(Aj st [] (.t (.box b o)) (j+1) c.length).map (x::·) | none=>none)=_
  have:Ab st [] (.t (.box b o)) j=some x:=by simp only[Ab,h];exact hx
  rw[this]
  simp only
  rw[Kf c l (j+1) o h hd2];rfl
theorem CQ {g:Ghost} {w:World} {l:B8} {v:Value} (h:Rel g w (.str l) v):v= .string ⟨l.toArray⟩:=by cases h;rfl
theorem V2 {g:Ghost} {w:World} {x:TV} {vs:List Value} (h:AT g w [x] vs):∃v,vs=[v]/\Rel g w x v:=by
 obtain⟨v,h1,h2⟩:=h.get? (i:=0) rfl
 have:=h.1
 cases vs with
 | nil=>simp at this
 | cons a r=>cases r with
  | nil=>simp at h1;subst h1;exact⟨_,rfl,h2⟩
  | cons b r=>simp at this
theorem Rf {g:Ghost} {w:World} {x y:TV} {vs:List Value} (h:AT g w [x,y] vs):∃v u,vs=[v,u]/\Rel g w x v/\Rel g w y u:=by
 obtain⟨v,h1,h2⟩:=h.get? (i:=0) rfl
 obtain⟨u,h3,h4⟩:=h.get? (i:=1) rfl
 have:=h.1
 cases vs with
 | nil=>simp at this
 | cons a r=>cases r with
  | nil=>simp at this
  | cons b r=>cases r with
   | nil=>simp at h1 h3;subst h1 h3;exact⟨_,_,rfl,h2,h4⟩
   | cons c r=>simp at this
section
inductive Sj {α β:Type} (R:α->β->Prop):List α->List β->Prop
 | nil:Sj R [] []
 | cons {a:α} {b:β} {l:List α} {m:List β}:R a b->Sj R l m->Sj R (a::l) (b::m)
theorem FsR.chunks {st:St}:∀{f:List Fd} {xs:List TV},FsR st f xs->∃cks:List (List TV),xs=cks.flatten/\Sj (FdR st) f cks
 | [],xs,h=>by unfold FsR at h;subst h;exact⟨[],rfl,.nil⟩
 | d::r,xs,h=>by
  unfold FsR at h
  obtain⟨a,b,rfl,h1,h2⟩:=h
  obtain⟨cks,rfl,h3⟩:=FsR.chunks h2
  exact⟨a::cks,by simp,.cons h1 h3⟩
theorem FsR.of_chunks {st:St} {f:List Fd} {cks:List (List TV)} (h:Sj (FdR st) f cks):FsR st f cks.flatten:=by
 induction h with
 | nil=>unfold FsR;rfl
 | cons r _ ih=>unfold FsR;exact⟨_,_,by simp,r,ih⟩
theorem SlR.one {st:St} {sz n:Nat} {u:TV} {xs:List TV} (h:SlR st sz u n xs):Ap u=true:=by
 rcases h with(⟨rfl,_⟩ | ⟨tip,rfl⟩) | ⟨b,off,cap,l,rfl,_⟩<;>rfl
theorem SlR.src {st:St} {sz n:Nat} {u:TV} {xs:List TV} (h:SlR st sz u n xs) (hl:xs.length=n*sz):BI st sz u=some (n,xs):=by
 rcases h with(⟨rfl,rfl,rfl⟩ | ⟨tip,rfl⟩) | ⟨b,off,cap,l,rfl,h2,h3,h4,h5,rfl⟩
 ·rfl
 ·simp[BI]
 ·have hlt:n*sz<=cap*sz:=Nat.mul_le_mul_right _ h5
  have e:=Kf (B:=l.drop (off+n*sz)) (st:=st) (b:=b) ((l.drop off).take (n*sz)) l 0 off h3 (by
   rw[Nat.add_zero,<-List.drop_drop,List.take_append_drop])
  rw[show((l.drop off).take (n*sz)).length=n*sz by simp;omega]at e
  simp only[BI,Nat.beq_refl]
  rw[e]
theorem Ay.keeps {a b:St} (h:Ay a b):DF a b:=⟨h.nb,h.box⟩
section
variable {st:St}
end
end
section
def Ds (st:St) (sz:Nat) (u:TV) (n:Nat) (xs:List TV) (bs:List Nat):Prop:=
 (n=0/\xs=[]/\bs=[]/\(u= .nilSlice∨u= .list sz .full 0 []))∨∃b cap tail,u= .ms sz b 0 n cap/\b<st.nb/\st.box b= .cells (xs++tail)/\(xs++tail).length=cap*sz/\xs.length=n*sz/\n<=cap/\bs=[b]
theorem Ds.rd {st:St} {sz n:Nat} {u:TV} {xs:List TV} {bs:List Nat} (h:Ds st sz u n xs bs):SlR st sz u n xs:=by
 rcases h with⟨rfl,rfl,rfl,rfl | rfl⟩ | ⟨b,cap,tail,rfl,h1,h2,h3,h4,h5,rfl⟩
 ·exact .inl (.inl ⟨rfl,rfl,rfl⟩)
 ·exact .inl (.inr ⟨_,rfl⟩)
 ·exact .inr ⟨b,0,cap,_,rfl,h1,h2,by omega,h5,by rw[List.drop_zero,<-h4,List.take_left]⟩
theorem Ds.frame {S:Nat->Prop} {st st':St} (e:StX S st st') {sz n:Nat} {u:TV} {xs:List TV} {bs:List Nat} (hs:∀x,x∈bs->¬S x) (h:Ds st sz u n xs bs):Ds st' sz u n xs bs:=by
 rcases h with h | ⟨b,cap,tail,rfl,h1,h2,h3,h4,h5,rfl⟩
 ·exact .inl h
 ·exact .inr ⟨b,cap,tail,rfl,Nat.lt_of_lt_of_le h1 e.nb,(e.box b h1 (hs b (.head _))).trans h2,h3,h4,h5,rfl⟩
theorem Ds.lt {st:St} {sz n:Nat} {u:TV} {xs:List TV} {bs:List Nat} (h:Ds st sz u n xs bs):∀x,x∈bs->x<st.nb:=by
 rcases h with⟨_,_,rfl,_⟩ | ⟨b,cap,tail,rfl,h1,h2,h3,h4,h5,rfl⟩
 ·intro x hx;cases hx
 ·intro x hx;rcases List.mem_singleton.1 hx with rfl;exact h1
mutual
def VlO (st:St):Vl->List TV->List Nat->Prop
 | .mk s l f,cs,fp=>∃ub ul uf xl xf bb bl bf fl ff,cs=[.int .i64 s.kind,.bool s.b,.bool s.neg,.str s.dg,.int .i64 s.ex,.int .i64 s.tk,.int .i64 s.td,.int .i64 s.tn,.int .i64 s.tz,.str s.text,ub,ul,uf]/\
   Ds st 1 ub s.bytes.length (AQ s.bytes) bb/\Ds st 13 ul l.length xl bl/\VsO st l xl fl/\Ds st 14 uf f.length xf bf/\FsO st f xf ff/\fp=bb++(bl++(fl++(bf++ff)))
def VsO (st:St):List Vl->List TV->List Nat->Prop
 | [],xs,fp=>xs=[]/\fp=[]
 | v::r,xs,fp=>∃a b p q,xs=a++b/\fp=p++q/\VlO st v a p/\VsO st r b q
def FdO (st:St):Fd->List TV->List Nat->Prop
 | .mk k v,xs,fp=>∃cs,xs= .str k::cs/\VlO st v cs fp
def FsO (st:St):List Fd->List TV->List Nat->Prop
 | [],xs,fp=>xs=[]/\fp=[]
 | d::r,xs,fp=>∃a b p q,xs=a++b/\fp=p++q/\FdO st d a p/\FsO st r b q
end
mutual
theorem VlO.rd {st:St}:∀{v:Vl} {cs:List TV} {fp:List Nat},VlO st v cs fp->VlR st v cs
 | .mk s l f,cs,fp,h=>by
  unfold VlO at h
  unfold VlR
  obtain⟨ub,ul,uf,xl,xf,bb,bl,bf,fl,ff,h0,h1,h2,h3,h4,h5,_⟩:=h
  exact⟨ub,ul,uf,xl,xf,h0,h1.rd,h2.rd,VsO.rd h3,h4.rd,FsO.rd h5⟩
theorem VsO.rd {st:St}:∀{l:List Vl} {cs:List TV} {fp:List Nat},VsO st l cs fp->VsR st l cs
 | [],cs,fp,h=>by unfold VsO at h;unfold VsR;exact h.1
 | v::r,cs,fp,h=>by
  unfold VsO at h
  unfold VsR
  obtain⟨a,b,p,q,h0,_,h1,h2⟩:=h
  exact⟨a,b,h0,VlO.rd h1,VsO.rd h2⟩
theorem FdO.rd {st:St}:∀{d:Fd} {cs:List TV} {fp:List Nat},FdO st d cs fp->FdR st d cs
 | .mk key v,cs,fp,h=>by
  unfold FdO at h
  unfold FdR
  obtain⟨c,h0,h1⟩:=h
  exact⟨c,h0,VlO.rd h1⟩
theorem FsO.rd {st:St}:∀{l:List Fd} {cs:List TV} {fp:List Nat},FsO st l cs fp->FsR st l cs
 | [],cs,fp,h=>by unfold FsO at h;unfold FsR;exact h.1
 | d::r,cs,fp,h=>by
  unfold FsO at h
  unfold FsR
  obtain⟨a,b,p,q,h0,_,h1,h2⟩:=h
  exact⟨a,b,h0,FdO.rd h1,FsO.rd h2⟩
end
mutual
theorem VlO.frame {S:Nat->Prop} {st st':St} (e:StX S st st'):∀{v:Vl} {cs:List TV} {fp:List Nat},(∀x,x∈fp->¬S x)->VlO st v cs fp->VlO st' v cs fp
 | .mk s l f,cs,fp,hs,h=>by
  unfold VlO at h⊢
  obtain⟨ub,ul,uf,xl,xf,bb,bl,bf,fl,ff,h0,h1,h2,h3,h4,h5,h6⟩:=h
  subst h6
  simp only[List.mem_append]at hs
  exact⟨ub,ul,uf,xl,xf,bb,bl,bf,fl,ff,h0,h1.frame e (fun x hx=>hs x (.inl hx)),h2.frame e (fun x hx=>hs x (.inr (.inl hx))),VsO.frame e (fun x hx=>hs x (.inr (.inr (.inl hx)))) h3,
   h4.frame e (fun x hx=>hs x (.inr (.inr (.inr (.inl hx))))),FsO.frame e (fun x hx=>hs x (.inr (.inr (.inr (.inr hx))))) h5,rfl⟩
theorem VsO.frame {S:Nat->Prop} {st st':St} (e:StX S st st'):∀{l:List Vl} {cs:List TV} {fp:List Nat},(∀x,x∈fp->¬S x)->VsO st l cs fp->VsO st' l cs fp
 | [],cs,fp,hs,h=>by unfold VsO at h⊢;exact h
 | v::r,cs,fp,hs,h=>by
  unfold VsO at h⊢
  obtain⟨a,b,p,q,h0,rfl,h1,h2⟩:=h
  simp only[List.mem_append]at hs
  exact⟨a,b,p,q,h0,rfl,VlO.frame e (fun x hx=>hs x (.inl hx)) h1,VsO.frame e (fun x hx=>hs x (.inr hx)) h2⟩
theorem FdO.frame {S:Nat->Prop} {st st':St} (e:StX S st st'):∀{d:Fd} {cs:List TV} {fp:List Nat},(∀x,x∈fp->¬S x)->FdO st d cs fp->FdO st' d cs fp
 | .mk key v,cs,fp,hs,h=>by
  unfold FdO at h⊢
  obtain⟨c,h0,h1⟩:=h
  exact⟨c,h0,VlO.frame e hs h1⟩
theorem FsO.frame {S:Nat->Prop} {st st':St} (e:StX S st st'):∀{l:List Fd} {cs:List TV} {fp:List Nat},(∀x,x∈fp->¬S x)->FsO st l cs fp->FsO st' l cs fp
 | [],cs,fp,hs,h=>by unfold FsO at h⊢;exact h
 | d::r,cs,fp,hs,h=>by
  unfold FsO at h⊢
  obtain⟨a,b,p,q,h0,rfl,h1,h2⟩:=h
  simp only[List.mem_append]at hs
  exact⟨a,b,p,q,h0,rfl,FdO.frame e (fun x hx=>hs x (.inl hx)) h1,FsO.frame e (fun x hx=>hs x (.inr hx)) h2⟩
end
theorem VsO.snoc {st:St} {v:Vl} {cv:List TV} {pv:List Nat}:∀{l:List Vl} {xs:List TV} {fp:List Nat},VsO st l xs fp->VlO st v cv pv->VsO st (l++[v]) (xs++cv) (fp++pv)
 | [],xs,fp,h,hv=>by
  unfold VsO at h
  obtain⟨rfl,rfl⟩:=h
  show VsO st [v] _ _
  unfold VsO
  exact⟨cv,[],pv,[],by simp,by simp,hv,by unfold VsO;exact⟨rfl,rfl⟩⟩
 | w::r,xs,fp,h,hv=>by
  unfold VsO at h
  obtain⟨a,b,p,q,rfl,rfl,h1,h2⟩:=h
  show VsO st (w::(r++[v])) _ _
  unfold VsO
  exact⟨a,b++cv,p,q++pv,by simp,by simp,h1,VsO.snoc h2 hv⟩
theorem FsO.snoc {st:St} {d:Fd} {cv:List TV} {pv:List Nat}:∀{l:List Fd} {xs:List TV} {fp:List Nat},FsO st l xs fp->FdO st d cv pv->FsO st (l++[d]) (xs++cv) (fp++pv)
 | [],xs,fp,h,hv=>by
  unfold FsO at h
  obtain⟨rfl,rfl⟩:=h
  show FsO st [d] _ _
  unfold FsO
  exact⟨cv,[],pv,[],by simp,by simp,hv,by unfold FsO;exact⟨rfl,rfl⟩⟩
 | w::r,xs,fp,h,hv=>by
  unfold FsO at h
  obtain⟨a,b,p,q,rfl,rfl,h1,h2⟩:=h
  show FsO st (w::(r++[d])) _ _
  unfold FsO
  exact⟨a,b++cv,p,q++pv,by simp,by simp,h1,FsO.snoc h2 hv⟩
theorem SB (xs ys tail:List TV) (h:ys.length<=tail.length):setAll (xs++tail) xs.length ys=xs++ys++tail.drop ys.length:=by
 have e:tail=tail.take ys.length++tail.drop ys.length:=(List.take_append_drop _ _).symm
 have:=MM ys xs (tail.take ys.length) (tail.drop ys.length) (by simp;omega)
 rw[List.append_assoc,List.take_append_drop]at this
 exact this
theorem Lm {T sz bytes:Nat} {st:St} {u:TV} {n k:Nat} {xs ys:List TV} {bs:List Nat} {K:TV->St->Prop} (h:Ds st sz u n xs bs) (hk1:0<k) (hy:ys.length=k*sz) (hby:(n+k)*bytes<=140737488355328)
  (hK:∀u' st' bs',Ds st' sz u' (n+k) (xs++ys) bs'->StX (·∈bs) st st'->((bs'=bs/\bs≠ [])∨bs'=[st.nb])->K u' st'):Kx T sz bytes u k ys st K:=by
 obtain⟨m,rfl⟩:∃m,k=m+1:=⟨k-1,by omega⟩
 have fresh:∀(zs:List TV) (N cap:Nat),zs.length=N*sz->N<=cap->Ds (st.push (.cells (zs++F3 ((cap-N)*sz))) (some T)) sz (.ms sz st.nb 0 N cap) N zs [st.nb]:=fun zs N cap h1 h2=>
  .inr ⟨st.nb,cap,F3 ((cap-N)*sz),rfl,by simp[St.push],by simp[St.push],by rw[List.length_append,h1];simp only[F3,List.length_replicate];rw[<-Nat.add_mul];congr 1;omega,h1,h2,rfl⟩
 rcases h with⟨rfl,rfl,rfl,rfl | rfl⟩ | ⟨b,cap,tail,rfl,h1,h2,h3,h4,h5,rfl⟩
 ·simp only[Kx,Aw]
  refine⟨by simpa using hby,fun cap hc=>hK _ _ [st.nb] ?_ (StX.of ((Ay.refl st).push _ _)) (.inr rfl)⟩
  have:=fresh ys (m+1) cap hy hc
  simpa using this
 ·simp only[Kx,Nat.beq_refl]
  refine⟨hby,fun cap hc=>hK _ _ [st.nb] ?_ (StX.of ((Ay.refl st).push _ _)) (.inr rfl)⟩
  have:=fresh ys (0+(m+1)) cap (by rw[hy];congr 1;omega) hc
  simpa using this
 ·simp only[Kx,Nat.beq_refl]
  rw[List.length_append]at h3
  refine⟨hby,_,h2,by rw[List.length_append];omega,fun hc=>?_,fun hc cap' hc'=>?_⟩
  ·have hmul:(n+(m+1))*sz<=cap*sz:=Nat.mul_le_mul_right _ hc
   rw[Nat.add_mul]at hmul
   rw[Nat.zero_add,<-h4,SB xs ys tail (by omega)]
   refine hK _ _ [b] (.inr ⟨b,cap,tail.drop ys.length,rfl,h1,by simp[St.put],by simp only[List.length_append,List.length_drop];omega,by rw[List.length_append,h4,hy,<-Nat.add_mul],hc,rfl⟩) (StX.put (S:=(·∈ [b])) (.head _) _) (.inl ⟨rfl,by simp⟩)
  ·rw[List.drop_zero,<-h4,List.take_left]
   exact hK _ _ [st.nb] (fresh (xs++ys) (n+(m+1)) cap' (by rw[List.length_append,h4,hy,<-Nat.add_mul]) hc') (StX.of ((Ay.refl st).push _ _)) (.inr rfl)
end
section
mutual
def Vl.sz:Vl->Nat
 | .mk s l f=>1+s.bytes.length+s.text.length+s.dg.length+BM l+Cl f
def BM:List Vl->Nat
 | []=>0
 | v::r=>v.sz+BM r
def Fd.sz:Fd->Nat
 | .mk k v=>k.length+v.sz
def Cl:List Fd->Nat
 | []=>0
 | d::r=>d.sz+Cl r
end
theorem Vl.sz_pos (v:Vl):1<=v.sz:=by cases v;unfold Vl.sz;omega
theorem HR:∀l:List Vl,l.length<=BM l
 | []=>Nat.le_refl _
 | v::r=>by have:=HR r;have:=v.sz_pos;unfold BM;simp only[List.length_cons];omega
theorem Ih:∀l:List Fd,l.length<=Cl l
 | []=>Nat.le_refl _
 | .mk k v::r=>by have:=Ih r;have:=v.sz_pos;unfold Cl Fd.sz;simp only[List.length_cons];omega
theorem HS:∀{l:List Vl} {i:Nat} {v:Vl},l[i]? =some v->v.sz<=BM l
 | [],i,v,h=>by simp at h
 | w::r,0,v,h=>by simp at h;subst h;unfold BM;omega
 | w::r,i+1,v,h=>by have:=HS (by simpa using h:r[i]? =some v);unfold BM;omega
theorem Ii:∀{l:List Fd} {i:Nat} {d:Fd},l[i]? =some d->d.sz<=Cl l
 | [],i,v,h=>by simp at h
 | w::r,0,v,h=>by simp at h;subst h;unfold Cl;omega
 | w::r,i+1,v,h=>by have:=Ii (by simpa using h:r[i]? =some v);unfold Cl;omega
theorem M9 {st:St} {ys:List TV}:∀(k j:Nat),j+k<=ys.length->Aj st [] (.t (.rptr ys)) j k=some ((ys.drop j).take k)
 | 0,j,h=>by simp[Aj]
 | k+1,j,h=>by
  show(match Ab st [] (.t (.rptr ys)) j with | some x=>(Aj st [] (.t (.rptr ys)) (j+1) k).map (x::·) | none=>none)=_
  have hj:j<ys.length:=by omega
  have:Ab st [] (.t (.rptr ys)) j=some ys[j]:=by simp[Ab,hj]
  rw[this]
  simp only
  rw[M9 k (j+1) (by omega),List.drop_eq_getElem_cons hj]
  rfl
theorem SlR.ldc {st:St} {sz n i:Nat} {u:TV} {xs:List TV} (h:SlR st sz u n xs) (hl:xs.length=n*sz) (hi:i<n):Aj st [] (.t (ixT sz u i)) 0 sz=some ((xs.drop (i*sz)).take sz):=by
 have hm:(i+1)*sz<=n*sz:=Nat.mul_le_mul_right _ hi
 rw[Nat.add_mul,Nat.one_mul]at hm
 rcases h with(⟨rfl,rfl,rfl⟩ | ⟨tip,rfl⟩) | ⟨b,off,cap,l,rfl,h2,h3,h4,h5,rfl⟩
 ·omega
 ·show Aj st [] (.t (.rptr (xs.drop (i*sz)))) 0 sz=_
  rw[M9 sz 0 (by rw[List.length_drop];omega),List.drop_zero]
 ·have hc:n*sz<=cap*sz:=Nat.mul_le_mul_right _ h5
  have e1:(((l.drop off).take (n*sz)).drop (i*sz)).take sz=(l.drop (off+i*sz)).take sz:=by
   rw[List.drop_take,List.drop_drop,List.take_take,Nat.min_eq_left (by omega)]
  rw[e1]
  have e:=Kf (B:=l.drop (off+i*sz+sz)) (st:=st) (b:=b) ((l.drop (off+i*sz)).take sz) l 0 (off+i*sz) h3 (by
   have:=List.take_append_drop sz (l.drop (off+i*sz))
   rw[List.drop_drop]at this
   rw[Nat.add_zero];exact this.symm)
  rw[show((l.drop (off+i*sz)).take sz).length=sz by simp;omega]at e
  exact e
theorem SlR.lenZ {st:St} {sz n:Nat} {u:TV} {xs:List TV} (h:SlR st sz u n xs):TVF.lenZ sz u=n:=by
 rcases h with(⟨rfl,rfl,rfl⟩ | ⟨tip,rfl⟩) | ⟨b,off,cap,l,rfl,h2,h3,h4,h5,rfl⟩
 ·rfl
 ·simp[TVF.lenZ]
 ·simp[TVF.lenZ]
theorem SlR.lenS {st:St} {sz n:Nat} {u:TV} {xs:List TV} (h:SlR st sz u n xs):TVF.lenS u=n:=by
 rcases h with(⟨rfl,rfl,rfl⟩ | ⟨tip,rfl⟩) | ⟨b,off,cap,l,rfl,h2,h3,h4,h5,rfl⟩<;>rfl
theorem SlR.isSl {st:St} {sz n:Nat} {u:TV} {xs:List TV} (h:SlR st sz u n xs):TVF.isSl u=true:=by
 rcases h with(⟨rfl,rfl,rfl⟩ | ⟨tip,rfl⟩) | ⟨b,off,cap,l,rfl,h2,h3,h4,h5,rfl⟩<;>rfl
theorem Ds.nil (st:St) (sz:Nat):Ds st sz .nilSlice 0 [] []:= .inl ⟨rfl,rfl,rfl,.inl rfl⟩
theorem NM {n1:Int} {b1 b2:Bool} {s2:B8} {n2 n3 n4 n5 n6:Int} {s3:B8} {u1 u2 u3:TV} {f:Fun [.int .i64,.bool,.bool,.str,.int .i64,.int .i64,.int .i64,.int .i64,.int .i64,.str,.tv,.tv,.tv] Prop} (h:f n1 b1 b2 s2 n2 n3 n4 n5 n6 s3 u1 u2 u3):
  AU [.int .i64,.bool,.bool,.str,.int .i64,.int .i64,.int .i64,.int .i64,.int .i64,.str,.tv,.tv,.tv] (.agg [.int .i64 n1,.bool b1,.bool b2,.str s2,.int .i64 n2,.int .i64 n3,.int .i64 n4,.int .i64 n5,.int .i64 n6,.str s3,u1,u2,u3]) f:=h
theorem CJ {n1:Int} {b1 b2:Bool} {s2:B8} {n2 n3 n4 n5 n6:Int} {s3:B8} {u1 u2 u3:TV} (h1:Ap u1=true) (h2:Ap u2=true) (h3:Ap u3=true):
  List.all [.int .i64 n1,.bool b1,.bool b2,.str s2,.int .i64 n2,.int .i64 n3,.int .i64 n4,.int .i64 n5,.int .i64 n6,.str s3,u1,u2,u3] Ap=true:=by
 simp only[List.all_cons,List.all_nil,h1,h2,h3,Bool.and_true];rfl
theorem Vu {st:St} {u:TV} {l:B8} (h:SlR st 1 u l.length (AQ l)) (hl:l.length<=10000000) {K:TV->St->Prop} (hk:∀v st' bs,Ds st' 1 v l.length (AQ l) bs->Ay st st'->(∀x,x∈bs->st.nb<=x)->bs.Nodup->K v st'):
  Ae PR BH [u] [.one .tv] st K:=by
 have hb1:(AQ l).length=l.length*1:=by rw[Gh];omega
 have hone:List.all (AQ l) Ap=true:=by
  rw[List.all_eq_true];intro x hx
  simp only[AQ,List.mem_map]at hx
  obtain⟨y,_,rfl⟩:=hx;rfl
 refine EE _ st K (Aa h.isSl ?_)
 cases hq:Hb u with
 | true=>
  show K .nilSlice st
  have h0:l=[]:=by
   rcases h with(⟨rfl,h1,_⟩ | ⟨tip,rfl⟩) | ⟨b,off,cap,m,rfl,_⟩
   ·exact List.eq_nil_of_length_eq_zero h1
   ·cases hq
   ·cases hq
  subst h0
  exact hk _ st [] (Ds.nil _ _) (Ay.refl _) (fun x hx=>by cases hx) List.nodup_nil
 | false=>
  show Af (BI st 1 u) _
  refine Ad (h.src hb1) (Aa hone ?_)
  cases hlen:l.length with
  | zero=>
   have h0:l=[]:=List.eq_nil_of_length_eq_zero hlen
   subst h0
   simp only[Kx,Nat.beq_refl]
   exact⟨by omega,hk _ st [] (.inl ⟨rfl,rfl,rfl,.inr rfl⟩) (Ay.refl _) (fun x hx=>by cases hx) List.nodup_nil⟩
  | succ m=>
   refine Lm (.inl ⟨rfl,rfl,rfl,.inr rfl⟩) (by omega) (by rw[hb1,hlen]) (by omega) fun u' st' bs' ho e hbs=>?_
   rw[Nat.zero_add,List.nil_append,<-hlen]at ho
   rcases hbs with⟨_,h0⟩ | rfl
   ·exact absurd rfl h0
   ·exact hk _ st' _ ho (StX.ext (Ay.refl st) e (fun i hi=>by cases hi)) (fun x hx=>by rw[List.mem_singleton.1 hx];exact Nat.le_refl _) (by simp)
end
section
mutual
theorem VlO.lt {st:St}:∀{v:Vl} {cs:List TV} {fp:List Nat},VlO st v cs fp->∀x,x∈fp->x<st.nb
 | .mk s l f,cs,fp,h=>by
  unfold VlO at h
  obtain⟨ub,ul,uf,xl,xf,bb,bl,bf,fl,ff,h0,h1,h2,h3,h4,h5,rfl⟩:=h
  intro x hx
  simp only[List.mem_append]at hx
  rcases hx with hx | hx | hx | hx | hx
  ·exact h1.lt x hx
  ·exact h2.lt x hx
  ·exact VsO.lt h3 x hx
  ·exact h4.lt x hx
  ·exact FsO.lt h5 x hx
theorem VsO.lt {st:St}:∀{l:List Vl} {cs:List TV} {fp:List Nat},VsO st l cs fp->∀x,x∈fp->x<st.nb
 | [],cs,fp,h=>by unfold VsO at h;rw[h.2];intro x hx;cases hx
 | v::r,cs,fp,h=>by
  unfold VsO at h
  obtain⟨a,b,p,q,_,rfl,h1,h2⟩:=h
  intro x hx
  rcases List.mem_append.1 hx with hx | hx
  ·exact VlO.lt h1 x hx
  ·exact VsO.lt h2 x hx
theorem FdO.lt {st:St}:∀{d:Fd} {cs:List TV} {fp:List Nat},FdO st d cs fp->∀x,x∈fp->x<st.nb
 | .mk key v,cs,fp,h=>by
  unfold FdO at h
  obtain⟨c,_,h1⟩:=h
  exact VlO.lt h1
theorem FsO.lt {st:St}:∀{l:List Fd} {cs:List TV} {fp:List Nat},FsO st l cs fp->∀x,x∈fp->x<st.nb
 | [],cs,fp,h=>by unfold FsO at h;rw[h.2];intro x hx;cases hx
 | d::r,cs,fp,h=>by
  unfold FsO at h
  obtain⟨a,b,p,q,_,rfl,h1,h2⟩:=h
  intro x hx
  rcases List.mem_append.1 hx with hx | hx
  ·exact FdO.lt h1 x hx
  ·exact FsO.lt h2 x hx
end
theorem Vl.cnt_pos (v:Vl):1<=v.cnt:=by cases v;unfold Vl.cnt;omega
theorem KE:∀{l:List Vl} {i:Nat} {v:Vl},l[i]? =some v->v.cnt<=Ep l
 | [],i,v,h=>by simp at h
 | w::r,0,v,h=>by simp at h;subst h;unfold Ep;omega
 | w::r,i+1,v,h=>by have:=KE (by simpa using h:r[i]? =some v);unfold Ep;omega
theorem Lf:∀{l:List Fd} {i:Nat} {d:Fd},l[i]? =some d->d.cnt<=GS l
 | [],i,v,h=>by simp at h
 | w::r,0,v,h=>by simp at h;subst h;unfold GS;omega
 | w::r,i+1,v,h=>by have:=Lf (by simpa using h:r[i]? =some v);unfold GS;omega
theorem GK {A B:List Nat} (ha:A.Nodup) (hb:B.Nodup) (h:∀x,x∈A->x∉B):(A++B).Nodup:=
 List.nodup_append.2 ⟨ha,hb,fun x hx y hy e=>h x hx (e▸hy)⟩
structure Qx (b0:Nat) (st:St) (bl fl:List Nat):Prop where
 nd:(bl++fl).Nodup
 lo:∀x,x∈bl++fl->b0<=x
theorem Qx.nil (b0:Nat) (st:St):Qx b0 st [] []:=⟨List.nodup_nil,fun x hx=>by cases hx⟩
theorem Qx.snoc {b0 m k:Nat} {st st':St} {bl fl bs' fp:List Nat} (h:Qx b0 st bl fl) (hm:∀x,x∈bl++fl->x<m) (h0:b0<=m) (hk:∀x,x∈fp->m<=x/\x<k) (nd:fp.Nodup) (hmk:m<=k) (hb:(bs'=bl/\bl≠ [])∨bs'=[k]):Qx b0 st' bs' (fl++fp):=by
 have ndf:=(List.nodup_append.1 h.nd)
 have hfl:∀x,x∈fl->x<m:=fun x hx=>hm x (List.mem_append_right _ hx)
 have nfp:(fl++fp).Nodup:=GK ndf.2.1 nd fun x hx hx'=>by have:=hfl x hx;have:=(hk x hx').1;omega
 rcases hb with⟨rfl,_⟩ | rfl
 ·refine⟨GK ndf.1 nfp fun x hx hx'=>?_,fun x hx=>?_⟩
  ·rcases List.mem_append.1 hx' with hx' | hx'
   ·exact ndf.2.2 x hx x hx' rfl
   ·have:=hm x (List.mem_append_left _ hx);have:=(hk x hx').1;omega
  ·rcases List.mem_append.1 hx with hx | hx
   ·exact h.lo x (List.mem_append_left _ hx)
   ·rcases List.mem_append.1 hx with hx | hx
    ·exact h.lo x (List.mem_append_right _ hx)
    ·have:=(hk x hx).1;omega
 ·refine⟨GK (by simp) nfp fun x hx hx'=>?_,fun x hx=>?_⟩
  ·rcases List.mem_singleton.1 hx with rfl
   rcases List.mem_append.1 hx' with hx' | hx'
   ·have:=hfl x hx';omega
   ·have:=(hk x hx').2;omega
  ·rcases List.mem_append.1 hx with hx | hx
   ·rcases List.mem_singleton.1 hx with rfl;omega
   ·rcases List.mem_append.1 hx with hx | hx
    ·exact h.lo x (List.mem_append_right _ hx)
    ·have:=(hk x hx).1;omega
theorem Uf {k:B8} {n1:Int} {b1 b2:Bool} {s2:B8} {n2 n3 n4 n5 n6:Int} {s3:B8} {u1 u2 u3:TV} (h1:Ap u1=true) (h2:Ap u2=true) (h3:Ap u3=true):
  List.all [.str k,.int .i64 n1,.bool b1,.bool b2,.str s2,.int .i64 n2,.int .i64 n3,.int .i64 n4,.int .i64 n5,.int .i64 n6,.str s3,u1,u2,u3] Ap=true:=by
 simp only[List.all_cons,List.all_nil,h1,h2,h3,Bool.and_true];rfl
def Ba (s:Sc) (ub ul uf:TV):List TV:=[.int .i64 s.kind,.bool s.b,.bool s.neg,.str s.dg,.int .i64 s.ex,.int .i64 s.tk,.int .i64 s.td,.int .i64 s.tn,.int .i64 s.tz,.str s.text,ub,ul,uf]
theorem Vt:∀(N:Nat) (v:Vl),v.sz<=N->N<=2000000->∀{st:St} {cs:List TV} {L:Int} {K:Int->Bool->Bool->B8->Int->Int->Int->Int->Int->B8->TV->TV->TV->St->Prop},VlR st v cs->(v.cnt:Int)<=L->L<=100000000->
  (∀ub ul uf st' fp,VlO st' v (Ba v.sc ub ul uf) fp->Ap ub=true->Ap ul=true->Ap uf=true->fp.Nodup->(∀x,x∈fp->st.nb<=x)->Ay st st'->K v.sc.kind v.sc.b v.sc.neg v.sc.dg v.sc.ex v.sc.tk v.sc.td v.sc.tn v.sc.tz v.sc.text ub ul uf st')->
  Ae PR Cv [.agg cs,.int .i64 L] [.agg [.int .i64,.bool,.bool,.str,.int .i64,.int .i64,.int .i64,.int .i64,.int .i64,.str,.tv,.tv,.tv]] st K:=by
 intro N
 induction N with
 | zero=>intro v h;have:=v.sz_pos;omega
 | succ N ih=>
 intro v hN hN2 st cs L K h hL hL2 hk
 cases v with
 | mk s l f=>
 have hsz:(Vl.mk s l f).sz=1+s.bytes.length+s.text.length+s.dg.length+BM l+Cl f:=by unfold Vl.sz;rfl
 have hct:(Vl.mk s l f).cnt=1+Ep l+GS f:=by unfold Vl.cnt;rfl
 have hll:=HR l
 have hfl:=Ih f
 unfold VlR at h
 obtain⟨ub,ul,uf,xl,xf,rfl,h1,h2,h3,h4,h5⟩:=h
 have hxl:=h3.len
 have hxf:=h5.len
 refine LT _ _ _ _ _ _ _ _ _ _ _ _ _ L st K (Vu h1 (by omega) fun v1 st1 bb ho e1 lo1 nd1=>Aa (by rw[List.all_cons,ho.rd.one];rfl) (Ac (fun g=>absurd g (by omega)) fun _=>Aa h2.isSl ?_))
 refine⟨fun l1 n1 left u n2 a1 a2 a3 a4 a5 a6 a7 a8 a9 a10 a11 a12 a13 _ _ _ _ _ _ _ _ _ _ _ _ _ st'=>L=left/\ul=u/\(l.length:Int)=n2/\s.kind=a1/\s.b=a2/\s.neg=a3/\s.dg=a4/\s.ex=a5/\s.tk=a6/\s.td=a7/\s.tn=a8/\s.tz=a9/\s.text=a10/\v1=a11/\uf=a13/\
   ∃(k:Nat) (ys:List TV) (bl fp:List Nat),n1=(k:Int)/\k<=l.length/\Ds st' 13 l1 k ys bl/\VsO st' (l.take k) ys fp/\Qx st1.nb st' bl fp/\Ay st1 st',
  fun _ n1 _ _ _ _ _ _ _ _ _ _ _ _ _ _ _ _ _ _ _ _ _ _ _ _ _ _ _ _ _ _=>(l.length-n1).toNat,⟨rfl,rfl,by rw[h2.lenS],rfl,rfl,rfl,rfl,rfl,rfl,rfl,rfl,rfl,rfl,rfl,rfl,0,[],[],[],rfl,Nat.zero_le _,Ds.nil _ _,by simp only[List.take_zero];unfold VsO;exact⟨rfl,rfl⟩,Qx.nil _ _,Ay.refl _⟩,?_⟩
 rintro l1 _ _ _ _ _ _ _ _ _ _ _ _ _ _ _ v3 _ _ _ _ _ _ _ _ _ _ _ _ _ _ st2 ⟨rfl,rfl,rfl,rfl,rfl,rfl,rfl,rfl,rfl,rfl,rfl,rfl,rfl,rfl,rfl,k,ys,bl,fp,rfl,hkl,hol,hvs,hgr,e2⟩
 have e12:=e1.trans e2
 refine Ac (fun g=>?_) fun g=>?_
 ·have hkl2:k<l.length:=by omega
  have h2':=h2.keep e12.keeps
  have h3':=h3.keep e12.keeps
  have gw:l[k]? =some l[k]:=List.getElem?_eq_getElem hkl2
  obtain⟨cw,hw,hcw,hcl⟩:=h3'.get gw
  have hwsz:=HS gw
  have hwct:=KE gw
  have hwc1:=(l[k]).cnt_pos
  generalize l[k]=w at*
  have hld:(Aj st2 [] (.t (ixT 13 ul (Int.toNat (k:Int)))) 0 13).map TV.agg=some (.agg cw):=by
   rw[Int.toNat_natCast,h2'.ldc hxl hkl2,hcw];rfl
  rw[h2'.lenZ]
  have hw0:=hw
  cases w with
  | mk s' l' f'=>
  unfold VlR at hw0
  obtain⟨ub',ul',uf',xl',xf',rfl,w1,w2,w3,w4,w5⟩:=hw0
  refine⟨⟨by omega,by omega⟩,Ad hld (NM (Aa (CJ w1.one w2.one w4.one) ?_))⟩
  rw[As _ (by omega) (by omega)]
  refine ih _ (by omega) (by omega) hw (by omega) (by omega) fun ub2 ul2 uf2 st3 fp2 ho2 o1 o2 o3 nd2 lo2 e3=>Aa (CJ o1 o2 o3) ?_
  have hol3:=hol.frame (StX.of (S:=fun _=>False) e3) (fun _ _ h=>h)
  have hvs3:=hvs.frame (StX.of (S:=fun _=>False) e3) (fun _ _ h=>h)
  refine Lm hol3 (by omega) rfl (by omega) fun u' st4 bs' ho4 e4 hbs=>?_
  have hm:∀x,x∈bl++fp->x<st2.nb:=fun x hx=>(List.mem_append.1 hx).elim (hol.lt x) (hvs.lt x)
  have hlt2:=ho2.lt
  have hnd:=List.nodup_append.1 hgr.nd
  have e14:Ay st1 st4:=StX.ext (e2.trans e3) e4 fun i hi=>hgr.lo i (List.mem_append_left _ hi)
  have hvs4:VsO st4 (l.take (k+1)) (ys++Ba s' ub2 ul2 uf2) (fp++fp2):=by
   have t1:l.take (k+1)=l.take k++[.mk s' l' f']:=by
    have:=(List.getElem?_eq_some_iff.1 gw)
    obtain⟨q1,q2⟩:=this
    rw[List.take_succ_eq_append_getElem q1,q2]
   rw[t1]
   exact VsO.snoc (hvs3.frame e4 fun x hx hx'=>hnd.2.2 x hx' x hx rfl) (ho2.frame e4 fun x hx hx'=>by have:=lo2 x hx;have:=hol.lt x hx';omega)
  exact⟨⟨rfl,rfl,rfl,rfl,rfl,rfl,rfl,rfl,rfl,rfl,rfl,rfl,rfl,rfl,rfl,k+1,_,bs',fp++fp2,by rw[As _ (by omega) (by omega)];omega,by omega,ho4,hvs4,hgr.snoc hm e2.nb (fun x hx=>⟨lo2 x hx,hlt2 x hx⟩) nd2 e3.nb hbs,e14⟩,by dsimp only;rw[As _ (by omega) (by omega)];omega⟩
 ·have hk:k=l.length:=by omega
  subst hk
  rw[List.take_length]at hvs
  have hm:∀x,x∈bl++fp->x<st2.nb:=fun x hx=>(List.mem_append.1 hx).elim (hol.lt x) (hvs.lt x)
  refine Aa h4.isSl ?_
  refine⟨fun f1 n1 left l2 u n2 a1 a2 a3 a4 a5 a6 a7 a8 a9 a10 a11 a12 a13 _ _ _ _ _ _ _ _ _ _ _ _ _ st'=>L=left/\l1=l2/\uf=u/\(f.length:Int)=n2/\s.kind=a1/\s.b=a2/\s.neg=a3/\s.dg=a4/\s.ex=a5/\s.tk=a6/\s.td=a7/\s.tn=a8/\s.tz=a9/\s.text=a10/\v1=a11/\
    ∃(k:Nat) (zs:List TV) (bf ff:List Nat),n1=(k:Int)/\k<=f.length/\Ds st' 14 f1 k zs bf/\FsO st' (f.take k) zs ff/\Qx st2.nb st' bf ff/\Ay st2 st',
   fun _ n1 _ _ _ _ _ _ _ _ _ _ _ _ _ _ _ _ _ _ _ _ _ _ _ _ _ _ _ _ _ _ _=>(f.length-n1).toNat,⟨rfl,rfl,rfl,by rw[h4.lenS],rfl,rfl,rfl,rfl,rfl,rfl,rfl,rfl,rfl,rfl,rfl,0,[],[],[],rfl,Nat.zero_le _,Ds.nil _ _,by simp only[List.take_zero];unfold FsO;exact⟨rfl,rfl⟩,Qx.nil _ _,Ay.refl _⟩,?_⟩
  rintro f1 _ _ _ _ _ _ _ _ _ _ _ _ _ _ _ _ _ _ _ _ _ _ _ _ _ _ _ _ _ _ _ st5 ⟨rfl,rfl,rfl,rfl,rfl,rfl,rfl,rfl,rfl,rfl,rfl,rfl,rfl,rfl,rfl,k,zs,bf,ff,rfl,hkf,hof,hfs,hgf,e5⟩
  have e15:=e12.trans e5
  refine Ac (fun g=>?_) fun g=>?_
  ·have hkf2:k<f.length:=by omega
   have h4':=h4.keep e15.keeps
   have h5':=h5.keep e15.keeps
   have gw:f[k]? =some f[k]:=List.getElem?_eq_getElem hkf2
   obtain⟨cw,hw,hcw,hcl⟩:=h5'.get gw
   have hwsz:=Ii gw
   have hwct:=Lf gw
   generalize f[k]=w at*
   have hld:(Aj st5 [] (.t (ixT 14 uf (Int.toNat (k:Int)))) 0 14).map TV.agg=some (.agg cw):=by
    rw[Int.toNat_natCast,h4'.ldc hxf hkf2,hcw];rfl
   rw[h4'.lenZ]
   cases w with
   | mk key w=>
   unfold FdR at hw
   obtain⟨cw2,rfl,hw⟩:=hw
   have hwk:(Fd.mk key w).sz=key.length+w.sz:=by unfold Fd.sz;rfl
   have hwk2:(Fd.mk key w).cnt=w.cnt:=by unfold Fd.cnt;rfl
   have hwc1:=w.cnt_pos
   have hw0:=hw
   cases w with
   | mk s' l' f'=>
   unfold VlR at hw0
   obtain⟨ub',ul',uf',xl',xf',rfl,w1,w2,w3,w4,w5⟩:=hw0
   refine⟨⟨by omega,by omega⟩,Ad hld (WQ (Aa (Uf w1.one w2.one w4.one) ?_))⟩
   rw[As _ (by omega) (by omega)]
   refine ih _ (by omega) (by omega) hw (by omega) (by omega) fun ub2 ul2 uf2 st6 fp2 ho2 o1 o2 o3 nd2 lo2 e6=>Aa (Uf o1 o2 o3) ?_
   have hof6:=hof.frame (StX.of (S:=fun _=>False) e6) (fun _ _ h=>h)
   have hfs6:=hfs.frame (StX.of (S:=fun _=>False) e6) (fun _ _ h=>h)
   refine Lm hof6 (by omega) rfl (by omega) fun u' st7 bs' ho7 e7 hbs=>?_
   have hm5:∀x,x∈bf++ff->x<st5.nb:=fun x hx=>(List.mem_append.1 hx).elim (hof.lt x) (hfs.lt x)
   have hlt2:=ho2.lt
   have hnd:=List.nodup_append.1 hgf.nd
   have e27:Ay st2 st7:=StX.ext (e5.trans e6) e7 fun i hi=>hgf.lo i (List.mem_append_left _ hi)
   have hd7:FdO st7 (.mk key (.mk s' l' f')) (.str key::Ba s' ub2 ul2 uf2) fp2:=by
    unfold FdO
    exact⟨_,rfl,ho2.frame e7 fun x hx hx'=>by have:=lo2 x hx;have:=hof.lt x hx';omega⟩
   have hfs7:FsO st7 (f.take (k+1)) (zs++ .str key::Ba s' ub2 ul2 uf2) (ff++fp2):=by
    have t1:f.take (k+1)=f.take k++[.mk key (.mk s' l' f')]:=by
     obtain⟨q1,q2⟩:=List.getElem?_eq_some_iff.1 gw
     rw[List.take_succ_eq_append_getElem q1,q2]
    rw[t1]
    exact FsO.snoc (hfs6.frame e7 fun x hx hx'=>hnd.2.2 x hx' x hx rfl) hd7
   exact⟨⟨rfl,rfl,rfl,rfl,rfl,rfl,rfl,rfl,rfl,rfl,rfl,rfl,rfl,rfl,rfl,k+1,_,bs',ff++fp2,by rw[As _ (by omega) (by omega)];omega,by omega,ho7,hfs7,hgf.snoc hm5 e5.nb (fun x hx=>⟨lo2 x hx,hlt2 x hx⟩) nd2 e6.nb hbs,e27⟩,by dsimp only;rw[As _ (by omega) (by omega)];omega⟩
  ·have hk2:k=f.length:=by omega
   subst hk2
   rw[List.take_length]at hfs
   have ho5:=ho.frame (StX.of (S:=fun _=>False) (e2.trans e5)) (fun _ _ h=>h)
   have hol5:=hol.frame (StX.of (S:=fun _=>False) e5) (fun _ _ h=>h)
   have hvs5:=hvs.frame (StX.of (S:=fun _=>False) e5) (fun _ _ h=>h)
   have hb1:=ho.lt
   have e1n:=e1.nb
   have e2n:=e2.nb
   refine Aa (by rw[List.all_cons,hol.rd.one];rfl) (Aa (by rw[List.all_cons,hof.rd.one];rfl) (Aa (CJ ho.rd.one hol.rd.one hof.rd.one) ?_))
   refine hk v1 l1 f1 st5 (bb++(bl++(fp++(bf++ff)))) (by unfold VlO;exact⟨v1,l1,f1,ys,zs,bb,bl,bf,fp,ff,rfl,ho5,hol5,hvs5,hof,hfs,rfl⟩) ho.rd.one hol.rd.one hof.rd.one ?_ ?_ e15
   ·have e:bl++(fp++(bf++ff))=(bl++fp)++(bf++ff):=by simp
    rw[e]
    refine GK nd1 (GK hgr.nd hgf.nd fun x hx hx'=>?_) fun x hx hx'=>?_
    ·have:=hm x hx;have:=hgf.lo x hx';omega
    ·have:=hb1 x hx
     rcases List.mem_append.1 hx' with hx' | hx'
     ·have:=hgr.lo x hx';omega
     ·have:=hgf.lo x hx';omega
   ·intro x hx
    have e:bb++(bl++(fp++(bf++ff)))=bb++((bl++fp)++(bf++ff)):=by simp
    rw[e]at hx
    rcases List.mem_append.1 hx with hx | hx
    ·exact lo1 x hx
    ·rcases List.mem_append.1 hx with hx | hx
     ·have:=hgr.lo x hx;omega
     ·have:=hgf.lo x hx;omega
end
theorem Sj.snoc {α β:Type} {R:α->β->Prop} {a:α} {b:β} {l:List α} {m:List β} (h:Sj R l m) (r:R a b):Sj R (l++[a]) (m++[b]):=by
 induction h with
 | nil=>exact .cons r .nil
 | cons r' _ ih=>exact .cons r' ih
theorem copy_ok {v:Vl} (hN:v.sz<=2000000) (hC:v.cnt<=65536) {st:St} {cs:List TV} {K:Int->Bool->Bool->B8->Int->Int->Int->Int->Int->B8->TV->TV->TV->St->Prop} (h:VlR st v cs)
  (hk:∀ub ul uf st' fp,VlO st' v (Ba v.sc ub ul uf) fp->Ap ub=true->Ap ul=true->Ap uf=true->fp.Nodup->(∀x,x∈fp->st.nb<=x)->Ay st st'->K v.sc.kind v.sc.b v.sc.neg v.sc.dg v.sc.ex v.sc.tk v.sc.td v.sc.tn v.sc.tz v.sc.text ub ul uf st'):
  Ae PR Gk [.agg cs] [.agg [.int .i64,.bool,.bool,.str,.int .i64,.int .i64,.int .i64,.int .i64,.int .i64,.str,.tv,.tv,.tv]] st K:=by
 have h0:=h
 cases v with
 | mk s l f=>
 unfold VlR at h0
 obtain⟨ub,ul,uf,xl,xf,rfl,_⟩:=h0
 exact N8 _ _ _ _ _ _ _ _ _ _ _ _ _ st K (Vt 2000000 _ hN (by omega) h (by omega) (by omega) fun ub ul uf st' fp g o1 o2 o3 nd lo e=>Aa (CJ o1 o2 o3) (hk ub ul uf st' fp g o1 o2 o3 nd lo e))
theorem natB_lt (n:Nat) (h:n<256):n.toUInt8.toNat=n:=by simp;omega
theorem Vy (l:B8):List.all (AQ l) Ap=true:=by
 rw[List.all_eq_true];intro x hx
 simp only[AQ,List.mem_map]at hx
 obtain⟨y,_,rfl⟩:=hx;rfl
theorem el13 {st0 st:St} {ul:TV} {xl:List TV} {l:List Vl} (hke:DF st0 st) (h2:SlR st0 13 ul l.length xl) (h3:VsR st0 l xl) {i:Int} {k:Nat} (hi:i=k) (hk:k<l.length) {f:Fun [.int .i64,.bool,.bool,.str,.int .i64,.int .i64,.int .i64,.int .i64,.int .i64,.str,.tv,.tv,.tv] Prop}
  (hf:∀s' l' f' ub1 ul1 uf1,l[k]? =some (.mk s' l' f')->VlR st0 (.mk s' l' f') (Ba s' ub1 ul1 uf1)->List.all (Ba s' ub1 ul1 uf1) Ap=true->f s'.kind s'.b s'.neg s'.dg s'.ex s'.tk s'.td s'.tn s'.tz s'.text ub1 ul1 uf1):
  (0<=i/\i<(lenZ 13 ul:Int))/\Af ((Aj st [] (.t (ixT 13 ul (Int.toNat i))) 0 13).map TV.agg) fun x=>AU [.int .i64,.bool,.bool,.str,.int .i64,.int .i64,.int .i64,.int .i64,.int .i64,.str,.tv,.tv,.tv] x f:=by
 subst hi
 have gw:l[k]? =some l[k]:=List.getElem?_eq_getElem hk
 obtain⟨cw,hw,hcw,hcl⟩:=h3.get gw
 rw[h2.lenZ,Int.toNat_natCast,(h2.keep hke).ldc h3.len hk,hcw]
 generalize l[k]=w at*
 cases w with
 | mk s' l' f'=>
 have hw0:=hw
 unfold VlR at hw0
 obtain⟨ub',ul',uf',xl',xf',rfl,w1,w2,w3,w4,w5⟩:=hw0
 exact⟨⟨by omega,by omega⟩,Ad rfl (NM (hf s' l' f' ub' ul' uf' gw hw (CJ w1.one w2.one w4.one)))⟩
theorem el14 {st0 st:St} {uf:TV} {xf:List TV} {l:List Fd} (hke:DF st0 st) (h2:SlR st0 14 uf l.length xf) (h3:FsR st0 l xf) {i:Int} {k:Nat} (hi:i=k) (hk:k<l.length) {f:Fun [.str,.int .i64,.bool,.bool,.str,.int .i64,.int .i64,.int .i64,.int .i64,.int .i64,.str,.tv,.tv,.tv] Prop}
  (hf:∀key s' l' f' ub1 ul1 uf1,l[k]? =some (.mk key (.mk s' l' f'))->VlR st0 (.mk s' l' f') (Ba s' ub1 ul1 uf1)->List.all (.str key::Ba s' ub1 ul1 uf1) Ap=true->f key s'.kind s'.b s'.neg s'.dg s'.ex s'.tk s'.td s'.tn s'.tz s'.text ub1 ul1 uf1):
  (0<=i/\i<(lenZ 14 uf:Int))/\Af ((Aj st [] (.t (ixT 14 uf (Int.toNat i))) 0 14).map TV.agg) fun x=>AU [.str,.int .i64,.bool,.bool,.str,.int .i64,.int .i64,.int .i64,.int .i64,.int .i64,.str,.tv,.tv,.tv] x f:=by
 subst hi
 have gw:l[k]? =some l[k]:=List.getElem?_eq_getElem hk
 obtain⟨cw,hw,hcw,hcl⟩:=h3.get gw
 rw[h2.lenZ,Int.toNat_natCast,(h2.keep hke).ldc h3.len hk,hcw]
 generalize l[k]=w at*
 cases w with
 | mk key w=>
 cases w with
 | mk s' l' f'=>
 have hw0:=hw
 unfold FdR at hw0
 obtain⟨cw2,rfl,hw1⟩:=hw0
 have hw2:=hw1
 unfold VlR at hw2
 obtain⟨ub',ul',uf',xl',xf',rfl,w1,w2,w3,w4,w5⟩:=hw2
 exact⟨⟨by omega,by omega⟩,Ad rfl (WQ (hf key s' l' f' ub' ul' uf' gw hw1 (Uf w1.one w2.one w4.one)))⟩
theorem OC {α:Type} {l:List α} {k:Nat} {v:α} (h:l[k]? =some v):l.take (k+1)=l.take k++[v]:=by
 obtain⟨q1,q2⟩:=List.getElem?_eq_some_iff.1 h
 rw[List.take_succ_eq_append_getElem q1,q2]
end Go.TVF
section
namespace Go.TVF
open Go.IntKind(i64 u8)
open Go
theorem or_i64 (x y:Nat) (hx:x<2^63) (hy:y<2^63):Cz .or .i64 (x:Int) (y:Int)=((x ||| y:Nat):Int):=by
 have h:x ||| y<2^63:=Nat.or_lt_two_pow hx hy
 show IntKind.wrap .i64 ((BitVec.ofInt 64 (x:Int) ||| BitVec.ofInt 64 (y:Int)).toNat:Int)=_
 simp only[BitVec.ofInt_natCast,BitVec.toNat_or,BitVec.toNat_ofNat]
 rw[Nat.mod_eq_of_lt (by omega),Nat.mod_eq_of_lt (by omega),As _ (by omega) (by omega)]
theorem W4 (x y:Nat) (hx:x<2^8) (hy:y<2^8):Cz .and .u8 (x:Int) (y:Int)=((x&&&y:Nat):Int):=by
 have h:x&&&y<2^8:=Nat.and_lt_two_pow _ hy
 show IntKind.wrap .u8 ((BitVec.ofInt 8 (x:Int)&&&BitVec.ofInt 8 (y:Int)).toNat:Int)=_
 simp only[BitVec.ofInt_natCast,BitVec.toNat_and,BitVec.toNat_ofNat]
 rw[Nat.mod_eq_of_lt (by omega),Nat.mod_eq_of_lt (by omega),PB _ (by omega) (by omega)]
theorem or_add (a b m:Nat) (hb:b<2^m) (h:a*2^m+b<2^63):Cz .or .i64 ((a*2^m:Nat):Int) (b:Int)=((a*2^m+b:Nat):Int):=by
 have hb':b<2^63:=by omega
 rw[or_i64 _ _ (by omega) hb',Nat.mul_comm a,Nat.two_pow_add_eq_or_of_lt hb]
theorem Db {α:Type} (l:List α) (i:Nat) (d:α) (h:i<l.length):l.take (i+1)=l.take i++[l.getD i d]:=by
 rw[List.take_add_one,List.getElem?_eq_getElem h,List.getD,List.getElem?_eq_getElem h];rfl
theorem OZ {α:Type} (l:List α) (i j:Nat) (d:α):(l.drop i).getD j d=l.getD (i+j) d:=by
 simp[List.getD,List.getElem?_drop]
theorem Pe {α:Type} (l:List α) (i:Nat) (d:α) (h:i<l.length):l.drop i=l.getD i d::l.drop (i+1):=by
 rw[List.drop_eq_getElem_cons h,List.getD,List.getElem?_eq_getElem h];rfl
theorem Gf {α:Type} (l:List α) (i j:Nat):(l.take j).drop i=(l.drop i).take (j-i):=by
 rw[List.drop_take]
def bt (l:B8) (i:Nat):Nat:=(l.getD i 0).toNat
theorem D6 (l:B8) (i:Nat):bt l i<256:=(l.getD i 0).toNat_lt
theorem bt_drop (l:B8) (i j:Nat):bt (l.drop i) j=bt l (i+j):=by simp[bt,OZ]
def dN (l:B8):Nat×Nat:=Lib.decodeN l.length (bt l 0) (bt l 1) (bt l 2) (bt l 3)
def ul (l:B8):Nat:=if l=[]∨dN l=(65533,1)then 0 else(dN l).2
def ur (l:B8):Nat:=(dN l).1
def Ci (r:Nat):Prop:=r<=1114111/\(r<55296∨57343<r)
instance (r:Nat):Decidable (Ci r):=by unfold Ci;infer_instance
def Gv (r:Nat):B8:=
 if r<128 then [UInt8.ofNat r]else if r<2048 then [UInt8.ofNat (192+r/64),UInt8.ofNat (128+r%64)]
 else if r<65536 then [UInt8.ofNat (224+r/4096),UInt8.ofNat (128+r/64%64),UInt8.ofNat (128+r%64)]
 else [UInt8.ofNat (240+r/262144),UInt8.ofNat (128+r/4096%64),UInt8.ofNat (128+r/64%64),UInt8.ofNat (128+r%64)]
theorem CS (n:Nat) (c:UInt8):UInt8.ofNat n=c↔n%256=c.toNat:=by
 rw[<-UInt8.toNat_inj];simp
theorem JR (l:B8) (h:1<=l.length):l.take 1=[l.getD 0 0]:=by
 rw[Db l 0 0 (by omega)];rfl
theorem JQ (l:B8) (h:2<=l.length):l.take 2=[l.getD 0 0,l.getD 1 0]:=by
 rw[Db l 1 0 (by omega),JR l (by omega)];rfl
theorem G1 (l:B8) (h:3<=l.length):l.take 3=[l.getD 0 0,l.getD 1 0,l.getD 2 0]:=by
 rw[Db l 2 0 (by omega),JQ l (by omega)];rfl
theorem KQ (l:B8) (h:4<=l.length):l.take 4=[l.getD 0 0,l.getD 1 0,l.getD 2 0,l.getD 3 0]:=by
 rw[Db l 3 0 (by omega),G1 l (by omega)];rfl
def rsz (b0:Nat):Nat:=if 240<=b0 then 4 else if 224<=b0 then 3 else if 192<=b0 then 2 else 1
def rb0 (b0:Nat):Nat:=if 240<=b0 then b0%8 else if 224<=b0 then b0%16 else if 192<=b0 then b0%32 else b0
def CO (l:B8) (r0:Nat):Nat->Nat
 | 0=>r0
 | j+1=>CO l r0 j*64+bt l (j+1)%64
theorem Ub (l:B8) (r0:Nat) (h:r0<256):∀j,CO l r0 j<256*64^j
 | 0=>by simpa [CO]using h
 | j+1=>by
  have:=Ub l r0 h j
  have h2:=Nat.mod_lt (bt l (j+1)) (show 0<64 by omega)
  simp only[CO,Nat.pow_succ]
  omega
theorem SF (b0:Nat):1<=rsz b0/\rsz b0<=4:=by
 unfold rsz
 repeat' split
 all_goals omega
def P0 (l:B8):Nat×Nat:=
 let size:=rsz (bt l 0)
 let r:=CO l (rb0 (bt l 0)) (size-1)
 if l.length<size then(0,0)else if Ci r/\Gv r=l.take size then(r,size)else(0,0)
theorem CY {a b:UInt8} {x y:B8}:(a::x=b::y)↔a=b/\x=y:=by simp
set_option maxHeartbeats 4000000 in
theorem G4 (l:B8) (h:l≠ []):P0 l=if ul l=0 then(0,0)else(ur l,ul l):=by
 have hl:1<=l.length:=by cases l with | nil=>exact absurd rfl h | cons a r=>simp
 have h0:=D6 l 0
 have h1:=D6 l 1
 have h2:=D6 l 2
 have h3:=D6 l 3
 have e0:(l.getD 0 0).toNat=bt l 0:=rfl
 have e1:(l.getD 1 0).toNat=bt l 1:=rfl
 have e2:(l.getD 2 0).toNat=bt l 2:=rfl
 have e3:(l.getD 3 0).toNat=bt l 3:=rfl
 have hul:ul l=if dN l=(65533,1)then 0 else(dN l).2:=by simp[ul,h]
 rw[hul,ur]
 unfold dN
 generalize hb0:bt l 0=b0 at*
 generalize hb1:bt l 1=b1 at*
 generalize hb2:bt l 2=b2 at*
 generalize hb3:bt l 3=b3 at*
 unfold P0
 simp only[hb0]
 by_cases c4:240<=b0
 ·have r4:rsz b0=4:=by unfold rsz;rw[if_pos c4]
  have rb:rb0 b0=b0%8:=by unfold rb0;rw[if_pos c4]
  rw[r4,rb]
  simp only[Nat.reduceSub,CO,hb1,hb2,hb3,Nat.zero_add,Nat.reduceAdd]
  by_cases hn:l.length<4
  ·rw[if_pos hn]
   have:Lib.decodeN l.length b0 b1 b2 b3=(65533,1):=by
    unfold Lib.decodeN
    rw[if_neg (by omega),if_neg (by omega),if_neg (by omega),if_neg (by omega)]
   rw[this];simp
  ·rw[if_neg hn]
   have hEnc:(Ci (((b0%8*64+b1%64)*64+b2%64)*64+b3%64)/\Gv (((b0%8*64+b1%64)*64+b2%64)*64+b3%64)=l.take 4)↔(b0/8=30/\b1/64=2/\b2/64=2/\b3/64=2/\65536<=((b0%8*64+b1%64)*64+b2%64)*64+b3%64/\((b0%8*64+b1%64)*64+b2%64)*64+b3%64<=1114111):=by
    rw[KQ l (by omega)]
    generalize hr:((b0%8*64+b1%64)*64+b2%64)*64+b3%64=r
    unfold Ci Gv
    by_cases k1:r<128
    ·rw[if_pos k1];simp;omega
    ·rw[if_neg k1]
     by_cases k2:r<2048
     ·rw[if_pos k2];simp;omega
     ·rw[if_neg k2]
      by_cases k3:r<65536
      ·rw[if_pos k3];simp;omega
      ·rw[if_neg k3]
       simp only[CY,CS,e0,e1,e2,e3,and_true]
       omega
   by_cases hE:b0/8=30/\b1/64=2/\b2/64=2/\b3/64=2/\65536<=((b0%8*64+b1%64)*64+b2%64)*64+b3%64/\((b0%8*64+b1%64)*64+b2%64)*64+b3%64<=1114111
   ·rw[if_pos (hEnc.2 hE)]
    have:Lib.decodeN l.length b0 b1 b2 b3=(((b0%8*64+b1%64)*64+b2%64)*64+b3%64,4):=by
     unfold Lib.decodeN
     rw[if_neg (by omega),if_neg (by omega),if_neg (by omega),if_pos (by omega),if_pos (by omega)]
     simp only[Prod.mk.injEq,and_true];omega
    rw[this];simp
   ·rw[if_neg (fun hh=>hE (hEnc.1 hh))]
    have:Lib.decodeN l.length b0 b1 b2 b3=(65533,1):=by
     unfold Lib.decodeN
     rw[if_neg (by omega),if_neg (by omega),if_neg (by omega)]
     split
     ·rw[if_neg (by omega)]
     ·rfl
    rw[this];simp
 ·by_cases c3:224<=b0
  ·have r4:rsz b0=3:=by unfold rsz;rw[if_neg c4,if_pos c3]
   have rb:rb0 b0=b0%16:=by unfold rb0;rw[if_neg c4,if_pos c3]
   rw[r4,rb]
   simp only[Nat.reduceSub,CO,hb1,hb2,Nat.zero_add,Nat.reduceAdd]
   by_cases hn:l.length<3
   ·rw[if_pos hn]
    have:Lib.decodeN l.length b0 b1 b2 b3=(65533,1):=by
     unfold Lib.decodeN
     rw[if_neg (by omega),if_neg (by omega),if_neg (by omega),if_neg (by omega)]
    rw[this];simp
   ·rw[if_neg hn]
    have hEnc:(Ci ((b0%16*64+b1%64)*64+b2%64)/\Gv ((b0%16*64+b1%64)*64+b2%64)=l.take 3)↔(b1/64=2/\b2/64=2/\2048<=(b0%16*64+b1%64)*64+b2%64/\Ci ((b0%16*64+b1%64)*64+b2%64)):=by
     rw[G1 l (by omega)]
     generalize hr:(b0%16*64+b1%64)*64+b2%64=r
     unfold Ci Gv
     by_cases k1:r<128
     ·rw[if_pos k1];simp;omega
     ·rw[if_neg k1]
      by_cases k2:r<2048
      ·rw[if_pos k2];simp;omega
      ·rw[if_neg k2]
       by_cases k3:r<65536
       ·rw[if_pos k3]
        simp only[CY,CS,e0,e1,e2,and_true]
        omega
       ·omega
    by_cases hE:b1/64=2/\b2/64=2/\2048<=(b0%16*64+b1%64)*64+b2%64/\Ci ((b0%16*64+b1%64)*64+b2%64)
    ·rw[if_pos (hEnc.2 hE)]
     have:Lib.decodeN l.length b0 b1 b2 b3=((b0%16*64+b1%64)*64+b2%64,3):=by
      unfold Ci at hE
      unfold Lib.decodeN
      rw[if_neg (by omega),if_neg (by omega),if_pos (by omega),if_pos (by omega)]
      simp only[Prod.mk.injEq,and_true];omega
     rw[this];simp
    ·rw[if_neg (fun hh=>hE (hEnc.1 hh))]
     have:Lib.decodeN l.length b0 b1 b2 b3=(65533,1):=by
      unfold Ci at hE
      unfold Lib.decodeN
      rw[if_neg (by omega),if_neg (by omega)]
      split
      ·rw[if_neg (by omega)]
      ·rw[if_neg (by omega)]
     rw[this];simp
  ·by_cases c2:192<=b0
   ·have r4:rsz b0=2:=by unfold rsz;rw[if_neg c4,if_neg c3,if_pos c2]
    have rb:rb0 b0=b0%32:=by unfold rb0;rw[if_neg c4,if_neg c3,if_pos c2]
    rw[r4,rb]
    simp only[Nat.reduceSub,CO,hb1,Nat.zero_add,Nat.reduceAdd]
    by_cases hn:l.length<2
    ·rw[if_pos hn]
     have:Lib.decodeN l.length b0 b1 b2 b3=(65533,1):=by
      unfold Lib.decodeN
      rw[if_neg (by omega),if_neg (by omega),if_neg (by omega),if_neg (by omega)]
     rw[this];simp
    ·rw[if_neg hn]
     have hEnc:(Ci (b0%32*64+b1%64)/\Gv (b0%32*64+b1%64)=l.take 2)↔(b1/64=2/\128<=b0%32*64+b1%64):=by
      rw[JQ l (by omega)]
      generalize hr:b0%32*64+b1%64=r
      unfold Ci Gv
      by_cases k1:r<128
      ·rw[if_pos k1];simp;omega
      ·rw[if_neg k1,if_pos (by omega)]
       simp only[CY,CS,e0,e1,and_true]
       omega
     by_cases hE:b1/64=2/\128<=b0%32*64+b1%64
     ·rw[if_pos (hEnc.2 hE)]
      have:Lib.decodeN l.length b0 b1 b2 b3=(b0%32*64+b1%64,2):=by
       unfold Lib.decodeN
       rw[if_neg (by omega),if_pos (by omega),if_pos (by omega)]
      rw[this];simp
     ·rw[if_neg (fun hh=>hE (hEnc.1 hh))]
      have:Lib.decodeN l.length b0 b1 b2 b3=(65533,1):=by
       unfold Lib.decodeN
       rw[if_neg (by omega)]
       split
       ·rw[if_neg (by omega)]
       ·rw[if_neg (by omega),if_neg (by omega)]
      rw[this];simp
   ·have r4:rsz b0=1:=by unfold rsz;rw[if_neg c4,if_neg c3,if_neg c2]
    have rb:rb0 b0=b0:=by unfold rb0;rw[if_neg c4,if_neg c3,if_neg c2]
    rw[r4,rb]
    simp only[Nat.reduceSub,CO]
    rw[if_neg (by omega),JR l hl]
    have hEnc:(Ci b0/\Gv b0=[l.getD 0 0])↔b0<128:=by
     unfold Ci Gv
     by_cases k1:b0<128
     ·rw[if_pos k1];simp only[CY,CS,e0,and_true];omega
     ·rw[if_neg k1,if_pos (by omega)];simp;omega
    by_cases hE:b0<128
    ·rw[if_pos (hEnc.2 hE)]
     have:Lib.decodeN l.length b0 b1 b2 b3=(b0,1):=by unfold Lib.decodeN;rw[if_pos hE]
     rw[this,if_neg (by simp;omega)]
     simp only[Prod.mk.injEq]
     rw[if_neg (by omega)]
     simp
    ·rw[if_neg (fun hh=>hE (hEnc.1 hh))]
     have:Lib.decodeN l.length b0 b1 b2 b3=(65533,1):=by
      unfold Lib.decodeN
      rw[if_neg (by omega),if_neg (by omega),if_neg (by omega),if_neg (by omega)]
     rw[this];simp
theorem ul_char (l:B8) (h:ul l≠0):Ci (ur l)/\Gv (ur l)=l.take (ul l)/\ul l<=l.length/\ul l<=4:=by
 have hne:l≠ []:=fun h0=>h (by simp[ul,h0])
 have e:=G4 l hne
 rw[if_neg h]at e
 unfold P0 at e
 simp only at e
 split at e
 ·simp only[Prod.mk.injEq]at e;omega
 ·split at e
  ·rename_i hn hc
   simp only[Prod.mk.injEq]at e
   rw[<-e.1,<-e.2]
   exact⟨hc.1,hc.2,by omega,(SF _).2⟩
  ·simp only[Prod.mk.injEq]at e;omega
theorem Mx (l:B8):ul l<=l.length:=by
 by_cases h:ul l=0
 ·omega
 ·exact(ul_char l h).2.2.1
def A7 (l:B8):Nat:=if h:ul l=0 then 0 else ul l+A7 (l.drop (ul l))
termination_by l.length
decreasing_by
 have:=Mx l
 simp only[List.length_drop];omega
theorem Cg (l:B8) (h:ul l=0):A7 l=0:=by rw[A7,dif_pos h]
theorem D8 (l:B8) (h:ul l≠0):A7 l=ul l+A7 (l.drop (ul l)):=by rw[A7,dif_neg h]
theorem TO:∀(n:Nat) (l:B8),l.length<=n->A7 l<=l.length
 | 0,l,h=>by
  have:l=[]:=List.eq_nil_of_length_eq_zero (by omega)
  subst this
  rw[Cg _ (by simp[ul])];simp
 | n+1,l,h=>by
  by_cases h0:ul l=0
  ·rw[Cg l h0];omega
  ·have h1:=Mx l
   have h2:=TO n (l.drop (ul l)) (by simp only[List.length_drop];omega)
   rw[D8 l h0]
   simp only[List.length_drop]at h2;omega
end Go.TVF
end
namespace Go.TVF
open Go.IntKind(i64 u8)
open Go Go.Proofs
def B1 (c:UInt8):Prop:=48<=c.toNat/\c.toNat<=57
instance (c:UInt8):Decidable (B1 c):=inferInstanceAs (Decidable (_/\_))
def Du (l:B8):Nat:=(l.reverse.takeWhile (·==48)).length
def DecOk (neg:Bool) (dg:B8) (ex:Int):Prop:=
 (dg=[]->neg=false/\ex=0)/\(dg≠ []->dg.length<=120/\(∀c,c∈dg->B1 c)/\dg.getD 0 0≠48/\Du dg=0/\ -400<=ex/\ex<=400)
instance (neg:Bool) (dg:B8) (ex:Int):Decidable (DecOk neg dg ex):=inferInstanceAs (Decidable ((_->_)/\(_->_)))
def TimeOk (k d n z:Int):Prop:=
 1<=k/\k<=4/\0<=d/\d<=3652058/\0<=n/\n<=86399999999999/\ -1439<=z/\z<=1439/\(k=2->d=0)/\(k=1->n=0)/\(k≠4->z=0)
instance (k d n z:Int):Decidable (TimeOk k d n z):=inferInstanceAs (Decidable (_/\_/\_/\_/\_/\_/\_/\_/\(_->_)/\(_->_)/\(_->_)))
def Uk (y:Nat):Prop:=y%4=0/\(y%100≠0∨y%400=0)
instance (y:Nat):Decidable (Uk y):=inferInstanceAs (Decidable (_/\_))
def Rx (y m:Nat):Nat:=if m=2 then(if Uk y then 29 else 28)else if m=4∨m=6∨m=9∨m=11 then 30 else 31
def Rw (y:Nat):Nat->Nat
 | 0=>0
 | 1=>0
 | m+2=>Rw y (m+1)+Rx y (m+1)
def yrS (y:Nat):Nat:=365*(y-1)+(y-1)/4-(y-1)/100+(y-1)/400
theorem U7 (y:Nat) {m:Nat} (h:1<=m):Rw y (m+1)=Rw y m+Rx y m:=by
 cases m with
 | zero=>omega
 | succ m=>rfl
structure OwnOk (s:Sc) (l:List Vl) (f:List Fd):Prop where
 k0:0<=s.kind
 k7:s.kind<=7
 bo:s.kind≠1->s.b=false
 nu:s.kind≠2->s.neg=false/\s.dg=[]/\s.ex=0
 ti:s.kind≠3->s.tk=0/\s.td=0/\s.tn=0/\s.tz=0
 tx:s.kind≠4->s.text=[]
 by_:s.kind≠5->s.bytes=[]
 ls:s.kind≠6->l=[]
 fs:s.kind≠7->f=[]
noncomputable instance (s:Sc) (l:List Vl) (f:List Fd):Decidable (OwnOk s l f):=Classical.propDecidable _
def U8 (s:B8):Prop:=A7 s=s.length
instance (s:B8):Decidable (U8 s):=inferInstanceAs (Decidable (_=_))
theorem SlR.isPtr {st:St} {sz n i:Nat} {u:TV} {xs:List TV} (h:SlR st sz u n xs) (hi:i<n):TVF.isPtr (ixT sz u i)=true:=by
 rcases h with(⟨rfl,rfl,rfl⟩ | ⟨tip,rfl⟩) | ⟨b,off,cap,l,rfl,_⟩
 ·omega
 ·rfl
 ·rfl
theorem SlR.ldcf {st:St} {sz n i f m:Nat} {u:TV} {xs:List TV} (h:SlR st sz u n xs) (hl:xs.length=n*sz) (hi:i<n) (hf:f+m<=sz):Aj st [] (.t (Ag (ixT sz u i) f)) 0 m=some ((xs.drop (i*sz+f)).take m):=by
 have hm:(i+1)*sz<=n*sz:=Nat.mul_le_mul_right _ hi
 rw[Nat.add_mul,Nat.one_mul]at hm
 rcases h with(⟨rfl,rfl,rfl⟩ | ⟨tip,rfl⟩) | ⟨b,off,cap,l,rfl,h2,h3,h4,h5,rfl⟩
 ·omega
 ·show Aj st [] (.t (.rptr ((xs.drop (i*sz)).drop f))) 0 m=_
  rw[List.drop_drop,M9 m 0 (by rw[List.length_drop];omega),List.drop_zero]
 ·have hc:n*sz<=cap*sz:=Nat.mul_le_mul_right _ h5
  have e1:(((l.drop off).take (n*sz)).drop (i*sz+f)).take m=(l.drop (off+i*sz+f)).take m:=by
   rw[List.drop_take,List.drop_drop,List.take_take,Nat.min_eq_left (by omega),Nat.add_assoc]
  rw[e1]
  have e:=Kf (B:=l.drop (off+i*sz+f+m)) (st:=st) (b:=b) ((l.drop (off+i*sz+f)).take m) l 0 (off+i*sz+f) h3 (by
   have:=List.take_append_drop m (l.drop (off+i*sz+f))
   rw[List.drop_drop]at this
   rw[Nat.add_zero];exact this.symm)
  rw[show((l.drop (off+i*sz+f)).take m).length=m by simp;omega]at e
  exact e
theorem SlR.ldf {st:St} {sz n i f:Nat} {u x:TV} {xs:List TV} (h:SlR st sz u n xs) (hl:xs.length=n*sz) (hi:i<n) (hf:f<sz) (hx:xs[i*sz+f]? =some x):Ab st [] (.t (Ag (ixT sz u i) f)) 0=some x:=by
 have:=h.ldcf (f:=f) (m:=1) hl hi (by omega)
 have hlt:i*sz+f<xs.length:=by
  obtain⟨q,_⟩:=List.getElem?_eq_some_iff.1 hx
  exact q
 rw[List.drop_eq_getElem_cons hlt]at this
 rw[List.getElem?_eq_getElem hlt]at hx
 simp only[Aj,List.take_succ_cons,List.take_zero]at this
 cases hq:Ab st [] (.t (Ag (ixT sz u i) f)) 0 with
 | none=>rw[hq]at this;cases this
 | some y=>
  rw[hq]at this
  simp only[Option.map_some,Option.some.injEq,List.cons.injEq,and_true]at this
  rw[this];exact hx
theorem SlR.toBytes {st:St} {u:TV} {l:B8} (h:SlR st 1 u l.length (AQ l)):TVF.toBytes st u=some l:=by
 have hl:(AQ l).length=l.length:=Gh l
 rcases h with(⟨rfl,h1,_⟩ | ⟨tip,rfl⟩) | ⟨b,off,cap,m,rfl,h2,h3,h4,h5,h6⟩
 ·rw[List.eq_nil_of_length_eq_zero h1];rfl
 ·simp[TVF.toBytes,C7]
 ·have e:=Kf (B:=m.drop (off+l.length)) (st:=st) (b:=b) (AQ l) m 0 off h3 (by
   rw[h6,Nat.add_zero,Nat.mul_one,<-List.drop_drop,List.take_append_drop])
  rw[hl]at e
  simp only[TVF.toBytes,Nat.beq_refl,e,C7]
theorem key14 {st0 st:St} {uf:TV} {xf:List TV} {l:List Fd} (hke:DF st0 st) (h2:SlR st0 14 uf l.length xf) (h3:FsR st0 l xf) {i:Int} {k:Nat} (hi:i=k) {d:Fd} (hd:l[k]? =some d) {f:B8->Prop} (hf:f d.key):
  (0<=i/\i<(lenZ 14 uf:Int))/\need (TVF.isPtr (ixT 14 uf (Int.toNat i))) (Af (Ab st [] (.t (Ag (ixT 14 uf (Int.toNat i)) 0)) 0) fun x=>Ah .str x f):=by
 subst hi
 obtain⟨hk,_⟩:=List.getElem?_eq_some_iff.1 hd
 obtain⟨cw,hw,hcw,hcl⟩:=h3.get hd
 rw[h2.lenZ,Int.toNat_natCast]
 have hx:xf[k*14+0]? =some (.str d.key):=by
  cases d with
  | mk key w=>
   unfold FdR at hw
   obtain⟨cs,rfl,_⟩:=hw
   have:=congrArg (fun z=>z[0]?) hcw
   simpa [Fd.key]using this
 exact⟨⟨by omega,by omega⟩,Aa (h2.isPtr hk) (Ad ((h2.keep hke).ldf h3.len hk (by omega) hx) hf)⟩
theorem val14 {st0 st:St} {uf:TV} {xf:List TV} {l:List Fd} (hke:DF st0 st) (h2:SlR st0 14 uf l.length xf) (h3:FsR st0 l xf) {i:Int} {k:Nat} (hi:i=k) (hk:k<l.length) {f:Fun [.int .i64,.bool,.bool,.str,.int .i64,.int .i64,.int .i64,.int .i64,.int .i64,.str,.tv,.tv,.tv] Prop}
  (hf:∀key s' l' f' ub1 ul1 uf1,l[k]? =some (.mk key (.mk s' l' f'))->VlR st0 (.mk s' l' f') (Ba s' ub1 ul1 uf1)->List.all (Ba s' ub1 ul1 uf1) Ap=true->f s'.kind s'.b s'.neg s'.dg s'.ex s'.tk s'.td s'.tn s'.tz s'.text ub1 ul1 uf1):
  (0<=i/\i<(lenZ 14 uf:Int))/\need (TVF.isPtr (ixT 14 uf (Int.toNat i))) (Af ((Aj st [] (.t (Ag (ixT 14 uf (Int.toNat i)) 1)) 0 13).map TV.agg) fun x=>AU [.int .i64,.bool,.bool,.str,.int .i64,.int .i64,.int .i64,.int .i64,.int .i64,.str,.tv,.tv,.tv] x f):=by
 subst hi
 have gw:l[k]? =some l[k]:=List.getElem?_eq_getElem hk
 obtain⟨cw,hw,hcw,hcl⟩:=h3.get gw
 rw[h2.lenZ,Int.toNat_natCast]
 refine⟨⟨by omega,by omega⟩,Aa (h2.isPtr hk) ?_⟩
 rw[(h2.keep hke).ldcf (f:=1) (m:=13) h3.len hk (by omega)]
 generalize l[k]=w at*
 cases w with
 | mk key w=>
 cases w with
 | mk s' l' f'=>
 unfold FdR at hw
 obtain⟨cw2,rfl,hw1⟩:=hw
 have hw2:=hw1
 unfold VlR at hw2
 obtain⟨ub',ul',uf',xl',xf',rfl,w1,w2,w3,w4,w5⟩:=hw2
 have e:(xf.drop (k*14+1)).take 13=Ba s' ub' ul' uf':=by
  rw[<-List.drop_drop]
  have:=congrArg (fun z=>z.drop 1) hcw
  simp only[List.drop_take]at this
  simpa [Ba]using this
 rw[e]
 exact Ad rfl (NM (hf key s' l' f' ub' ul' uf' gw hw1 (CJ w1.one w2.one w4.one)))
theorem Al {s:B8} {f:B8->Prop} (h:f s):Ah .str (.str s) f:=h
theorem Ao {k:IntKind} {n:Int} {f:Int->Prop} (h:f n):Ah (.int k) (.int k n) f:=by
 simp only[Ah];exact h
theorem Aq {b:Bool} {f:Bool->Prop} (h:f b):Ah .bool (.bool b) f:=h
end Go.TVF
