/- What the laws below rest on: a framework for Go programs, and contracts of the functions that they reach. -/
import Derived.Test.YtpfhcnpnngjpnaaGreatDoorGhD
import Derived.Lib.DecodeN
set_option maxRecDepth 20000
set_option linter.unusedVariables false
set_option linter.unusedSimpArgs false
namespace Go.TVF
open Go.IntKind(i64 u8)
open Go Go.Proofs
theorem N9 (s:B8) (d_0:Int) (d_1:Int) (d_2:Bool) (d_3:Bool) (st:St) (K:B8->Int->St->Prop) (h:CallT PR Dp [(.agg [.int .u8 d_0,.int .u8 d_1,.bool d_2,.bool d_3])] [.one .bool] st (fun (b1:Bool) f=>BIf (!b1) (K [] 1 f) (CallT PR DB [.str s] [.one .bool] f (fun (b2:Bool) e=>BIf (!b2) (K [] 5 e) (Ag ((toBytes e (.list 1 .full 1 [.int .u8 d_1])).map TV.str) (fun (x1:TV)=>Af .str x1 (fun (s1:B8)=>∃(I1:Int->B8->B8->Int->Int->Bool->Bool->St->Prop) (M1:Int->B8->B8->Int->Int->Bool->Bool->St->Nat),(I1 0 s s1 d_0 d_1 d_2 d_3 e)/\∀c b a n1 n2 b3 b4 d,I1 c b a n1 n2 b3 b4 d->(BId (c<(b.length:Int)) (((0<=c/\c<(b.length:Int))/\BId (((List.getD b c.toNat 0).toNat:Int)=n1) ((a.length+a.length<=9223372036854775807/\CallT PR AE [.str b,.str a,(.str (a++a))] [.one .str] d (fun (s2:B8) i=>(a.length+s2.length<=9223372036854775807/\(((a++s2)).length+a.length<=9223372036854775807/\K (((a++s2)++a)) 0 i))))) (BId (((List.getD b c.toNat 0).toNat:Int)=n2) ((a.length+a.length<=9223372036854775807/\CallT PR AE [.str b,.str a,(.str (a++a))] [.one .str] d (fun (s3:B8) j=>(a.length+s3.length<=9223372036854775807/\(((a++s3)).length+a.length<=9223372036854775807/\K (((a++s3)++a)) 0 j))))) (BId (((List.getD b c.toNat 0).toNat:Int)=(10:Int)) ((a.length+a.length<=9223372036854775807/\CallT PR AE [.str b,.str a,(.str (a++a))] [.one .str] d (fun (s4:B8) k=>(a.length+s4.length<=9223372036854775807/\(((a++s4)).length+a.length<=9223372036854775807/\K (((a++s4)++a)) 0 k))))) (BId (((List.getD b c.toNat 0).toNat:Int)=(13:Int)) ((a.length+a.length<=9223372036854775807/\CallT PR AE [.str b,.str a,(.str (a++a))] [.one .str] d (fun (s5:B8) g=>(a.length+s5.length<=9223372036854775807/\(((a++s5)).length+a.length<=9223372036854775807/\K (((a++s5)++a)) 0 g))))) ((I1 ((i64.wrap (c+(1:Int)))) b a n1 n2 b3 b4 d/\M1 ((i64.wrap (c+(1:Int)))) b a n1 n2 b3 b4 d<M1 c b a n1 n2 b3 b4 d))))))) (K b 0 d))))))))):CallT PR Et [.str s,(.agg [.int .u8 d_0,.int .u8 d_1,.bool d_2,.bool d_3])] [.one .str,.one (.int .i64)] st K:=
 Ae (cfg:=⟨[3],[],[]⟩) (h:=(.seq .none (.seq .none (.seq .none (.seq .none (.seq (.seq .none (.block (.loop ⟨[(7,.int .i64),(0,.str),(6,.str)],[(3,0,0)],[(0,4)],[(0,0,.int .u8),(0,1,.int .u8),(0,2,.bool),(0,3,.bool)]⟩ .none))) .none)))))) mixed (fun _ _=>Tryz.call145 _ _) Tryz.func145 (by kernel_rfl) (by kernel_rfl) h
theorem IG (s:B8) (d_0:Int) (d_1:Int) (d_2:Bool) (d_3:Bool) (st:St) (K:B8->St->Prop) (h:BId (s=([]:B8)) (K s st) (((0<=(0:Int)/\(0:Int)<(s.length:Int))/\BId (((List.getD s (Int.toNat (0:Int)) 0).toNat:Int)≠d_1) (K s st) (∃(I1:B8->Int->B8->Int->Int->Bool->Bool->St->Prop) (M1:B8->Int->B8->Int->Int->Bool->Bool->St->Nat),(I1 [] 1 s d_0 d_1 d_2 d_3 st)/\∀c a b n1 n2 b1 b2 d,I1 c a b n1 n2 b1 b2 d->(BId ((i64.wrap (a+(1:Int)))<(b.length:Int)) (((0<=a/\a<=(i64.wrap (a+(1:Int)))/\(i64.wrap (a+(1:Int)))<=(b.length:Int))/\(c.length+((List.drop a.toNat (List.take (Int.toNat (i64.wrap (a+(1:Int)))) b))).length<=9223372036854775807/\((0<=a/\a<(b.length:Int))/\BId (((List.getD b a.toNat 0).toNat:Int)=n2) ((I1 ((c++(List.drop a.toNat (List.take (Int.toNat (i64.wrap (a+(1:Int)))) b)))) ((i64.wrap ((i64.wrap (a+(1:Int)))+(1:Int)))) b n1 n2 b1 b2 d/\M1 ((c++(List.drop a.toNat (List.take (Int.toNat (i64.wrap (a+(1:Int)))) b)))) ((i64.wrap ((i64.wrap (a+(1:Int)))+(1:Int)))) b n1 n2 b1 b2 d<M1 c a b n1 n2 b1 b2 d)) ((I1 ((c++(List.drop a.toNat (List.take (Int.toNat (i64.wrap (a+(1:Int)))) b)))) ((i64.wrap (a+(1:Int)))) b n1 n2 b1 b2 d/\M1 ((c++(List.drop a.toNat (List.take (Int.toNat (i64.wrap (a+(1:Int)))) b)))) ((i64.wrap (a+(1:Int)))) b n1 n2 b1 b2 d<M1 c a b n1 n2 b1 b2 d)))))) (K c d)))))):CallT PR A5 [.str s,(.agg [.int .u8 d_0,.int .u8 d_1,.bool d_2,.bool d_3])] [.one .str] st K:=
 Ae (cfg:=⟨[3],[],[]⟩) (h:=(.seq .none (.seq .none (.seq .none (.seq (.seq .none (.block (.loop ⟨[(5,.str),(6,.int .i64),(0,.str)],[(3,0,0)],[(0,4)],[(0,0,.int .u8),(0,1,.int .u8),(0,2,.bool),(0,3,.bool)]⟩ .none))) .none))))) mixed (fun _ _=>Tryz.call172 _ _) Tryz.func172 (by kernel_rfl) (by kernel_rfl) h
theorem PF (n_0:Int) (n_1:B8) (n_2:B8) (n_3:TV) (n_4:B8) (d_0:Int) (d_1:Int) (d_2:Bool) (d_3:Bool) (st:St) (K:Bool->St->Prop) (h:CallT PR G5 [(.agg [.int .i64 n_0,.str n_1,.str n_2,n_3,.str n_4])] [.one (.int .i64)] st (fun (n1:Int) a=>BId (n1≠0) (K false a) (CallT PR G4 [(.agg [.int .i64 n_0,.str n_1,.str n_2,n_3,.str n_4])] [.one .str] a (fun (s1:B8) e=>CallT PR Gh [] [.agg [.int .i64,.int .i64,.int .i64,.int .i64,.int .i64]] e (fun (n2 n3 n4 n5 n6:Int) d=>CallT PR Eu [.str s1,(.agg [.int .u8 d_0,.int .u8 d_1,.bool d_2,.bool d_3]),(.agg [.int .i64 n2,.int .i64 n3,.int .i64 n4,.int .i64 n5,.int .i64 n6])] [.agg [.int .i64,.str,.str,.tv,.str],.one (.int .i64),.one (.int .i64)] d (fun (n7:Int) (s2 s3:B8) (v1:TV) (s4:B8) (n8 n9:Int) b=>need (List.all [.int .i64 n7,.str s2,.str s3,v1,.str s4] Ap) (BId (n9=0) (CallT PR FQ [(.agg [.int .i64 n7,.str s2,.str s3,v1,.str s4]),(.agg [.int .i64 n_0,.str n_1,.str n_2,n_3,.str n_4])] [.one .bool] b (fun (b1:Bool) c=>K b1 c)) (K false b)))))))):CallT PR E0 [(.agg [.int .i64 n_0,.str n_1,.str n_2,n_3,.str n_4]),(.agg [.int .u8 d_0,.int .u8 d_1,.bool d_2,.bool d_3])] [.one .bool] st K:=
 Ae (cfg:=⟨[2,3,5],[],[]⟩) (h:= .none) mixed (fun _ _=>Tryz.call173 _ _) Tryz.func173 (by kernel_rfl) (by kernel_rfl) h
theorem PD (cell:B8) (d_0:Int) (d_1:Int) (d_2:Bool) (d_3:Bool) (st:St) (K:B8->Bool->St->Prop) (h:BId (cell=([]:B8)) (K cell false st) (((0<=(0:Int)/\(0:Int)<(cell.length:Int))/\BId (((List.getD cell (Int.toNat (0:Int)) 0).toNat:Int)≠d_1) (K cell false st) (Ag ((toBytes st (.list 1 .full 1 [.int .u8 d_1])).map TV.str) (fun (x1:TV)=>Af .str x1 (fun (s1:B8)=>((0<=(1:Int)/\(1:Int)<=(i64.wrap ((cell.length:Int)-(1:Int)))/\(i64.wrap ((cell.length:Int)-(1:Int)))<=(cell.length:Int))/\(s1.length+s1.length<=9223372036854775807/\CallT PR AE [(.str (List.drop (Int.toNat (1:Int)) (List.take (Int.toNat (i64.wrap ((cell.length:Int)-(1:Int)))) cell))),(.str (s1++s1)),.str s1] [.one .str] st (fun (s2:B8) a=>K s2 true a))))))))):CallT PR CR [.str cell,(.agg [.int .u8 d_0,.int .u8 d_1,.bool d_2,.bool d_3])] [.one .str,.one .bool] st K:=
 Ae (cfg:=⟨[3],[],[]⟩) (h:= .none) mixed (fun _ _=>Tryz.call174 _ _) Tryz.func174 (by kernel_rfl) (by kernel_rfl) h
theorem IM (n_0:Int) (n_1:B8) (n_2:B8) (n_3:TV) (n_4:B8) (st:St) (K:Int->St->Prop) (h:CallT PR Bp [(.agg [.int .i64 n_0,.str n_1,.str n_2,n_3,.str n_4]),.int .i64 1,.int .i64 0] [.one (.int .i64),.one (.int .i64)] st (fun (n1 n2:Int) a=>BId (n2=0) (CallT PR Cl [(.agg [.int .i64 n_0,.str n_1,.str n_2,n_3,.str n_4])] [.one (.int .i64)] a (fun (n3:Int) b=>BId ((1048576:Int)<n3) (K 10 b) (K n2 b))) (K n2 a))):CallT PR CY [(.agg [.int .i64 n_0,.str n_1,.str n_2,n_3,.str n_4])] [.one (.int .i64)] st K:=
 Ae (cfg:=⟨[1],[],[]⟩) (h:= .none) mixed (fun _ _=>Tryz.call175 _ _) Tryz.func175 (by kernel_rfl) (by kernel_rfl) h
theorem IL (n_0:Int) (n_1:B8) (n_2:B8) (n_3:TV) (n_4:B8) (st:St) (K:B8->St->Prop) (h:(n_1.length+n_2.length<=9223372036854775807/\∃(I1:B8->Int->Int->B8->B8->TV->B8->St->Prop) (M1:B8->Int->Int->B8->B8->TV->B8->St->Nat),(I1 ((n_1++n_2)) 0 n_0 n_1 n_2 n_3 n_4 st)/\∀b a n1 s1 s2 v1 s3 c,I1 b a n1 s1 s2 v1 s3 c->(need (isSl v1) (BId (a<(lenS v1:Int)) (((0<=a/\a<(lenZ 5 v1:Int))/\Ag ((Aj c [] (.t (ixT 5 v1 a.toNat)) 0 5).map TV.agg) (fun (x1:TV)=>AT [.int .i64,.str,.str,.tv,.str] x1 (fun (n2:Int) (s4 s5:B8) (v2:TV) (s6:B8)=>CallT PR BS [(.agg [.int .i64 n2,.str s4,.str s5,v2,.str s6])] [.one .str] c (fun (s7:B8) d=>(b.length+s7.length<=9223372036854775807/\(I1 ((b++s7)) ((i64.wrap (a+(1:Int)))) n1 s1 s2 v1 s3 d/\M1 ((b++s7)) ((i64.wrap (a+(1:Int)))) n1 s1 s2 v1 s3 d<M1 b a n1 s1 s2 v1 s3 c))))))) ((b.length+s3.length<=9223372036854775807/\K ((b++s3)) c)))))):CallT PR BS [(.agg [.int .i64 n_0,.str n_1,.str n_2,n_3,.str n_4])] [.one .str] st K:=
 Ae (cfg:=⟨[1],[],[]⟩) (h:=(.seq .none (.seq .none (.seq (.seq .none (.block (.loop ⟨[(3,.str),(4,.int .i64)],[(1,0,0)],[(0,5)],[(0,0,.int .i64),(0,1,.str),(0,2,.str),(0,3,.tv),(0,4,.str)]⟩ .none))) .none)))) mixed (fun _ _=>Tryz.call176 _ _) Tryz.func176 (by kernel_rfl) (by kernel_rfl) h
theorem Jl (a_0:Int) (a_1:B8) (a_2:B8) (a_3:TV) (a_4:B8) (b_0:Int) (b_1:B8) (b_2:B8) (b_3:TV) (b_4:B8) (st:St) (K:Bool->St->Prop) (h:BId (a_0≠b_0) (K false st) (BId (a_1≠b_1) (K false st) (BId (a_2≠b_2) (K false st) (BId (a_4≠b_4) (K false st) (need (isSl a_3) (need (isSl b_3) (BId ((lenS a_3:Int)≠(lenS b_3:Int)) (K false st) (∃(I1:Int->Int->B8->B8->TV->B8->Int->B8->B8->TV->B8->St->Prop) (M1:Int->Int->B8->B8->TV->B8->Int->B8->B8->TV->B8->St->Nat),(I1 0 a_0 a_1 a_2 a_3 a_4 b_0 b_1 b_2 b_3 b_4 st)/\∀a n1 s1 s2 v1 s3 n2 s4 s5 v2 s6 b,I1 a n1 s1 s2 v1 s3 n2 s4 s5 v2 s6 b->(need (isSl v1) (BId (a<(lenS v1:Int)) (((0<=a/\a<(lenZ 5 v1:Int))/\Ag ((Aj CJ [] (.t (ixT 5 v1 a.toNat)) 0 5).map TV.agg) (fun (x1:TV)=>AT [.int .i64,.str,.str,.tv,.str] x1 (fun (n3:Int) (s7 s8:B8) (v3:TV) (s9:B8)=>((0<=a/\a<(lenZ 5 v2:Int))/\Ag ((Aj CJ [] (.t (ixT 5 v2 a.toNat)) 0 5).map TV.agg) (fun (x2:TV)=>AT [.int .i64,.str,.str,.tv,.str] x2 (fun (n4:Int) (e d:B8) (v4:TV) (f:B8)=>CallT PR Cc [(.agg [.int .i64 n3,.str s7,.str s8,v3,.str s9]),(.agg [.int .i64 n4,.str e,.str d,v4,.str f])] [.one .bool] b (fun (b1:Bool) c=>BIf (!b1) (K false c) ((I1 ((i64.wrap (a+(1:Int)))) n1 s1 s2 v1 s3 n2 s4 s5 v2 s6 c/\M1 ((i64.wrap (a+(1:Int)))) n1 s1 s2 v1 s3 n2 s4 s5 v2 s6 c<M1 a n1 s1 s2 v1 s3 n2 s4 s5 v2 s6 b)))))))))) (K true b))))))))))):CallT PR Cc [(.agg [.int .i64 a_0,.str a_1,.str a_2,a_3,.str a_4]),(.agg [.int .i64 b_0,.str b_1,.str b_2,b_3,.str b_4])] [.one .bool] st K:=
 Ae (cfg:=⟨[2,3],[],[]⟩) (h:=(.seq .none (.seq .none (.seq (.seq .none (.block (.loop ⟨[(5,.int .i64)],[(2,0,0),(3,1,0)],[(0,5),(1,5)],[(0,0,.int .i64),(0,1,.str),(0,2,.str),(0,3,.tv),(0,4,.str),(1,0,.int .i64),(1,1,.str),(1,2,.str),(1,3,.tv),(1,4,.str)]⟩ .none))) .none)))) mixed (fun _ _=>Tryz.call177 _ _) Tryz.func177 (by kernel_rfl) (by kernel_rfl) h
theorem IC (p:Nat) (depth:Int) (st:St) (K:Bool->St->Prop) (h:Ag (Ac st [] (.t (.box p 5)) 0) (fun (x1:TV)=>Af (.int .i64) x1 (fun (n1:Int)=>BId (n1<depth) (Ag (Ac st [] (.t (.box p 10)) 0) (fun (x2:TV)=>Af (.int .i64) x2 (fun (n2:Int)=>CallT PR Al [(.box p 0),.int .i64 n2,.int .i64 9] [.one .bool] st (fun (b1:Bool) a=>K b1 a)))) (Ag (Ac st [] (.t (.box p 11)) 0) (fun (x3:TV)=>Af (.int .i64) x3 (fun (n3:Int)=>Ag (Ac st [] (.t (.box p 6)) 0) (fun (x4:TV)=>Af (.int .i64) x4 (fun (n4:Int)=>BId (n4<=n3) (Ag (Ac st [] (.t (.box p 10)) 0) (fun (x5:TV)=>Af (.int .i64) x5 (fun (n5:Int)=>CallT PR Al [(.box p 0),.int .i64 n5,.int .i64 10] [.one .bool] st (fun (b2:Bool) c=>K b2 c)))) (Ag (Ac st [] (.t (.box p 11)) 0) (fun (x6:TV)=>Af (.int .i64) x6 (fun (n6:Int)=>stB st (.box p 11) [(.int .i64 (i64.wrap (n6+(1:Int))))] (fun b=>K true b)))))))))))):CallT PR Bh [(.box p 0),.int .i64 depth] [.one .bool] st K:=
 Ae (cfg:=⟨[],[],[]⟩) (h:= .none) mixed (fun _ _=>Tryz.call191 _ _) Tryz.func191 (by kernel_rfl) (by kernel_rfl) h
theorem Jd (p:Nat) (atx:Int) (e:Int) (st:St) (K:Bool->St->Prop) (h:stB st (.box p 14) [.int .i64 atx] (fun a=>stB a (.box p 15) [.int .i64 e] (fun b=>K false b))):CallT PR Al [(.box p 0),.int .i64 atx,.int .i64 e] [.one .bool] st K:=
 Ae (cfg:=⟨[],[],[]⟩) (h:= .none) mixed (fun _ _=>Tryz.call192 _ _) Tryz.func192 (by kernel_rfl) (by kernel_rfl) h
theorem ID (p:Nat) (header:Bool) (st:St) (K:Int->B8->B8->TV->B8->Bool->St->Prop) (h:BIf (!header) (CallT PR Bh [(.box p 0),.int .i64 3] [.one .bool] st (fun (b1:Bool) c3=>BIf (!b1) (K 5 [] [] .nilSlice [] false c3) (Ag (Ac c3 [] (.t (.box p 10)) 0) (fun (x1:TV)=>Af (.int .i64) x1 (fun (n1:Int)=>CallT PR B7 [(.box p 0)] [.one .bool] c3 (fun (b2:Bool) a1=>BIf (!b2) (K 5 [] [] .nilSlice [] false a1) (Ag (Ac a1 [] (.t (.box p 0)) 0) (fun (x2:TV)=>Af .str x2 (fun (s1:B8)=>Ag (Ac a1 [] (.t (.box p 10)) 0) (fun (x3:TV)=>Af (.int .i64) x3 (fun (n2:Int)=>((0<=n1/\n1<=n2/\n2<=(s1.length:Int))/\Ag ((Aj a1 [] (.t (.box p 1)) 0 4).map TV.agg) (fun (x4:TV)=>AT [.int .u8,.int .u8,.bool,.bool] x4 (fun (n3 n4:Int) (b3 b4:Bool)=>CallT PR CR [(.str (List.drop n1.toNat (List.take n2.toNat s1))),(.agg [.int .u8 n3,.int .u8 n4,.bool b3,.bool b4])] [.one .str,.one .bool] a1 (fun (s2:B8) (b5:Bool) c7=>∃(C1:Int->TV->Bool->Int->B8->B8->Int->B8->B8->TV->B8->St->Prop),(BIf header (C1 1024 ((.box p 0)) header n1 ((List.drop n1.toNat (List.take n2.toNat s1))) s2 5 [] [] .nilSlice [] c7) (C1 65536 ((.box p 0)) header n1 ((List.drop n1.toNat (List.take n2.toNat s1))) s2 5 [] [] .nilSlice [] c7))/\∀a0 a u o s a7 n5 s3 s4 v1 s5 m,C1 a0 a u o s a7 n5 s3 s4 v1 s5 m->(BId (a0<(a7.length:Int)) (CallT PR Al [a,.int .i64 o,.int .i64 10] [.one .bool] m (fun (b6:Bool) e7=>need (List.all [.int .i64 n5,.str s3,.str s4,v1,.str s5] Ap) (K n5 s3 s4 v1 s5 b6 e7))) (BIf u (need (isPtr a) (need (isPtr a) (Ag (Ac m [] (.t (Ao a 13)) 0) (fun (v2:TV)=>Ag (JE m v2) (fun (es1:List (B8×TV))=>Af .bool (My (.bool false) (Du a7 es1)) (fun (b7:Bool)=>BIf b7 (CallT PR Al [a,.int .i64 o,.int .i64 8] [.one .bool] m (fun (b8:Bool) j7=>need (List.all [.int .i64 n5,.str s3,.str s4,v1,.str s5] Ap) (K n5 s3 s4 v1 s5 b8 j7))) (need (isPtr a) (need (isPtr a) (Ag (Ac m [] (.t (Ao a 13)) 0) (fun (v3:TV)=>muK v3 a7 (.bool true) m (fun j8=>AV 79 5 80 v1 1 [.int .i64 2,(.str []),.str s,.nilSlice,(.str [])] j8 (fun (v4:TV) l=>need (List.all [v4] Ap) (need (isPtr a) (need (isPtr a) (Ag (Ac l [] (.t (Ao a 10)) 0) (fun (x7:TV)=>Af (.int .i64) x7 (fun (n6:Int)=>need (isPtr a) (need (isPtr a) (Ag (Ac l [] (.t (Ao a 0)) 0) (fun (x8:TV)=>Af .str x8 (fun (s6:B8)=>BId (n6<(s6.length:Int)) (need (isPtr a) (need (isPtr a) (Ag (Ac l [] (.t (Ao a 0)) 0) (fun (x9:TV)=>Af .str x9 (fun (s7:B8)=>need (isPtr a) (need (isPtr a) (Ag (Ac l [] (.t (Ao a 10)) 0) (fun (e5:TV)=>Af (.int .i64) e5 (fun (n7:Int)=>((0<=n7/\n7<(s7.length:Int))/\need (isPtr a) (need (isPtr a) (need (isPtr (Ao a 1)) (Ag (Ac l [] (.t (Ao (Ao a 1) 0)) 0) (fun (g3:TV)=>Af (.int .u8) g3 (fun (n8:Int)=>BId (((List.getD s7 n7.toNat 0).toNat:Int)=n8) (need (isPtr a) (need (isPtr a) (Ag (Ac l [] (.t (Ao a 10)) 0) (fun (f8:TV)=>Af (.int .i64) f8 (fun (n9:Int)=>need (isPtr a) (need (isPtr a) (stB l (Ao a 10) [(.int .i64 (i64.wrap (n9+(1:Int))))] (fun c0=>need (isPtr a) (need (isPtr a) (need (isPtr (Ao a 1)) (Ag (Ac c0 [] (.t (Ao (Ao a 1) 0)) 0) (fun (i4:TV)=>Af (.int .u8) i4 (fun (h1:Int)=>Ag ((toBytes c0 (.list 1 .full 1 [.int .u8 h1])).map TV.str) (fun (i1:TV)=>Af .str i1 (fun (s8:B8)=>AV 79 5 80 v4 1 [.int .i64 11,(.str []),.str s8,.nilSlice,(.str [])] c0 (fun (v5:TV) d3=>need (List.all [v5] Ap) (need (List.all [.int .i64 n5,.str s3,.str s4,v5,.str s5] Ap) (K n5 s3 s4 v5 s5 true d3)))))))))))))))))) (need (List.all [.int .i64 n5,.str s3,.str s4,v4,.str s5] Ap) (K n5 s3 s4 v4 s5 true l))))))))))))))))) (need (List.all [.int .i64 n5,.str s3,.str s4,v4,.str s5] Ap) (K n5 s3 s4 v4 s5 true l))))))))))))))))))))))) (AV 79 5 80 v1 1 [.int .i64 2,(.str []),.str s,.nilSlice,(.str [])] m (fun (v6:TV) i=>need (List.all [v6] Ap) (need (isPtr a) (need (isPtr a) (Ag (Ac i [] (.t (Ao a 10)) 0) (fun (f5:TV)=>Af (.int .i64) f5 (fun (f1:Int)=>need (isPtr a) (need (isPtr a) (Ag (Ac i [] (.t (Ao a 0)) 0) (fun (i7:TV)=>Af .str i7 (fun (s9:B8)=>BId (f1<(s9.length:Int)) (need (isPtr a) (need (isPtr a) (Ag (Ac i [] (.t (Ao a 0)) 0) (fun (i6:TV)=>Af .str i6 (fun (c9:B8)=>need (isPtr a) (need (isPtr a) (Ag (Ac i [] (.t (Ao a 10)) 0) (fun (h2:TV)=>Af (.int .i64) h2 (fun (a9:Int)=>((0<=a9/\a9<(c9.length:Int))/\need (isPtr a) (need (isPtr a) (need (isPtr (Ao a 1)) (Ag (Ac i [] (.t (Ao (Ao a 1) 0)) 0) (fun (j6:TV)=>Af (.int .u8) j6 (fun (e9:Int)=>BId (((List.getD c9 a9.toNat 0).toNat:Int)=e9) (need (isPtr a) (need (isPtr a) (Ag (Ac i [] (.t (Ao a 10)) 0) (fun (i8:TV)=>Af (.int .i64) i8 (fun (i3:Int)=>need (isPtr a) (need (isPtr a) (stB i (Ao a 10) [(.int .i64 (i64.wrap (i3+(1:Int))))] (fun a5=>need (isPtr a) (need (isPtr a) (need (isPtr (Ao a 1)) (Ag (Ac a5 [] (.t (Ao (Ao a 1) 0)) 0) (fun (d9:TV)=>Af (.int .u8) d9 (fun (h6:Int)=>Ag ((toBytes a5 (.list 1 .full 1 [.int .u8 h6])).map TV.str) (fun (i9:TV)=>Af .str i9 (fun (i0:B8)=>AV 79 5 80 v6 1 [.int .i64 11,(.str []),.str i0,.nilSlice,(.str [])] a5 (fun (v7:TV) d1=>need (List.all [v7] Ap) (need (List.all [.int .i64 n5,.str s3,.str s4,v7,.str s5] Ap) (K n5 s3 s4 v7 s5 true d1)))))))))))))))))) (need (List.all [.int .i64 n5,.str s3,.str s4,v6,.str s5] Ap) (K n5 s3 s4 v6 s5 true i))))))))))))))))) (need (List.all [.int .i64 n5,.str s3,.str s4,v6,.str s5] Ap) (K n5 s3 s4 v6 s5 true i)))))))))))))))))))))))))))))) (Ag (Ac st [] (.t (.box p 10)) 0) (fun (e0:TV)=>Af (.int .i64) e0 (fun (n:Int)=>CallT PR B7 [(.box p 0)] [.one .bool] st (fun (b9:Bool) v=>BIf (!b9) (K 5 [] [] .nilSlice [] false v) (Ag (Ac v [] (.t (.box p 0)) 0) (fun (j9:TV)=>Af .str j9 (fun (a8:B8)=>Ag (Ac v [] (.t (.box p 10)) 0) (fun (j2:TV)=>Af (.int .i64) j2 (fun (a2:Int)=>((0<=n/\n<=a2/\a2<=(a8.length:Int))/\Ag ((Aj v [] (.t (.box p 1)) 0 4).map TV.agg) (fun (j3:TV)=>AT [.int .u8,.int .u8,.bool,.bool] j3 (fun (g8 g5:Int) (g2 e8:Bool)=>CallT PR CR [(.str (List.drop n.toNat (List.take a2.toNat a8))),(.agg [.int .u8 g8,.int .u8 g5,.bool g2,.bool e8])] [.one .str,.one .bool] v (fun (c8:B8) (k0:Bool) b0=>∃(C2:Int->TV->Bool->Int->B8->B8->Int->B8->B8->TV->B8->St->Prop),(BIf header (C2 1024 ((.box p 0)) header n ((List.drop n.toNat (List.take a2.toNat a8))) c8 5 [] [] .nilSlice [] b0) (C2 65536 ((.box p 0)) header n ((List.drop n.toNat (List.take a2.toNat a8))) c8 5 [] [] .nilSlice [] b0))/\∀z b w q r a6 c f d v8 e k,C2 z b w q r a6 c f d v8 e k->(BId (z<(a6.length:Int)) (CallT PR Al [b,.int .i64 q,.int .i64 10] [.one .bool] k (fun (f6:Bool) d7=>need (List.all [.int .i64 c,.str f,.str d,v8,.str e] Ap) (K c f d v8 e f6 d7))) (BIf w (need (isPtr b) (need (isPtr b) (Ag (Ac k [] (.t (Ao b 13)) 0) (fun (v9:TV)=>Ag (JE k v9) (fun (es2:List (B8×TV))=>Af .bool (My (.bool false) (Du a6 es2)) (fun (g9:Bool)=>BIf g9 (CallT PR Al [b,.int .i64 q,.int .i64 8] [.one .bool] k (fun (h4:Bool) d6=>need (List.all [.int .i64 c,.str f,.str d,v8,.str e] Ap) (K c f d v8 e h4 d6))) (need (isPtr b) (need (isPtr b) (Ag (Ac k [] (.t (Ao b 13)) 0) (fun (g7:TV)=>muK g7 a6 (.bool true) k (fun d4=>AV 79 5 80 v8 1 [.int .i64 2,(.str []),.str r,.nilSlice,(.str [])] d4 (fun (y:TV) j=>need (List.all [y] Ap) (need (isPtr b) (need (isPtr b) (Ag (Ac j [] (.t (Ao b 10)) 0) (fun (e6:TV)=>Af (.int .i64) e6 (fun (h9:Int)=>need (isPtr b) (need (isPtr b) (Ag (Ac j [] (.t (Ao b 0)) 0) (fun (f7:TV)=>Af .str f7 (fun (d8:B8)=>BId (h9<(d8.length:Int)) (need (isPtr b) (need (isPtr b) (Ag (Ac j [] (.t (Ao b 0)) 0) (fun (f0:TV)=>Af .str f0 (fun (c6:B8)=>need (isPtr b) (need (isPtr b) (Ag (Ac j [] (.t (Ao b 10)) 0) (fun (f4:TV)=>Af (.int .i64) f4 (fun (c5:Int)=>((0<=c5/\c5<(c6.length:Int))/\need (isPtr b) (need (isPtr b) (need (isPtr (Ao b 1)) (Ag (Ac j [] (.t (Ao (Ao b 1) 0)) 0) (fun (h0:TV)=>Af (.int .u8) h0 (fun (h8:Int)=>BId (((List.getD c6 c5.toNat 0).toNat:Int)=h8) (need (isPtr b) (need (isPtr b) (Ag (Ac j [] (.t (Ao b 10)) 0) (fun (g4:TV)=>Af (.int .i64) g4 (fun (i5:Int)=>need (isPtr b) (need (isPtr b) (stB j (Ao b 10) [(.int .i64 (i64.wrap (i5+(1:Int))))] (fun a4=>need (isPtr b) (need (isPtr b) (need (isPtr (Ao b 1)) (Ag (Ac a4 [] (.t (Ao (Ao b 1) 0)) 0) (fun (g1:TV)=>Af (.int .u8) g1 (fun (g6:Int)=>Ag ((toBytes a4 (.list 1 .full 1 [.int .u8 g6])).map TV.str) (fun (e2:TV)=>Af .str e2 (fun (h7:B8)=>AV 79 5 80 y 1 [.int .i64 11,(.str []),.str h7,.nilSlice,(.str [])] a4 (fun (c4:TV) d2=>need (List.all [c4] Ap) (need (List.all [.int .i64 c,.str f,.str d,c4,.str e] Ap) (K c f d c4 e true d2)))))))))))))))))) (need (List.all [.int .i64 c,.str f,.str d,y,.str e] Ap) (K c f d y e true j))))))))))))))))) (need (List.all [.int .i64 c,.str f,.str d,y,.str e] Ap) (K c f d y e true j))))))))))))))))))))))) (AV 79 5 80 v8 1 [.int .i64 2,(.str []),.str r,.nilSlice,(.str [])] k (fun (x:TV) g=>need (List.all [x] Ap) (need (isPtr b) (need (isPtr b) (Ag (Ac g [] (.t (Ao b 10)) 0) (fun (e4:TV)=>Af (.int .i64) e4 (fun (f3:Int)=>need (isPtr b) (need (isPtr b) (Ag (Ac g [] (.t (Ao b 0)) 0) (fun (j0:TV)=>Af .str j0 (fun (g0:B8)=>BId (f3<(g0.length:Int)) (need (isPtr b) (need (isPtr b) (Ag (Ac g [] (.t (Ao b 0)) 0) (fun (f9:TV)=>Af .str f9 (fun (d0:B8)=>need (isPtr b) (need (isPtr b) (Ag (Ac g [] (.t (Ao b 10)) 0) (fun (e1:TV)=>Af (.int .i64) e1 (fun (c2:Int)=>((0<=c2/\c2<(d0.length:Int))/\need (isPtr b) (need (isPtr b) (need (isPtr (Ao b 1)) (Ag (Ac g [] (.t (Ao (Ao b 1) 0)) 0) (fun (j1:TV)=>Af (.int .u8) j1 (fun (e3:Int)=>BId (((List.getD d0 c2.toNat 0).toNat:Int)=e3) (need (isPtr b) (need (isPtr b) (Ag (Ac g [] (.t (Ao b 10)) 0) (fun (j4:TV)=>Af (.int .i64) j4 (fun (f2:Int)=>need (isPtr b) (need (isPtr b) (stB g (Ao b 10) [(.int .i64 (i64.wrap (f2+(1:Int))))] (fun a3=>need (isPtr b) (need (isPtr b) (need (isPtr (Ao b 1)) (Ag (Ac a3 [] (.t (Ao (Ao b 1) 0)) 0) (fun (h3:TV)=>Af (.int .u8) h3 (fun (h5:Int)=>Ag ((toBytes a3 (.list 1 .full 1 [.int .u8 h5])).map TV.str) (fun (j5:TV)=>Af .str j5 (fun (i2:B8)=>AV 79 5 80 x 1 [.int .i64 11,(.str []),.str i2,.nilSlice,(.str [])] a3 (fun (c1:TV) d5=>need (List.all [c1] Ap) (need (List.all [.int .i64 c,.str f,.str d,c1,.str e] Ap) (K c f d c1 e true d5)))))))))))))))))) (need (List.all [.int .i64 c,.str f,.str d,x,.str e] Ap) (K c f d x e true g))))))))))))))))) (need (List.all [.int .i64 c,.str f,.str d,x,.str e] Ap) (K c f d x e true g))))))))))))))))))))))))))))):CallT PR AO [(.box p 0),.bool header] [.agg [.int .i64,.str,.str,.tv,.str],.one .bool] st K:=
 Ae (cfg:=⟨[4,6],[],[]⟩) (h:=(.seq .none (.seq .none (.seq .none (.seq .none (.seq .none (.seq .none (.seq .none (.seq .none (.cut ⟨[(11,.int .i64),(0,.tv),(1,.bool),(7,.int .i64),(8,.str),(9,.str)],[(4,0,0),(6,1,0)],[(0,5),(1,5)],[(1,0,.int .i64),(1,1,.str),(1,2,.str),(1,3,.tv),(1,4,.str)]⟩ .none .none)))))))))) mixed (fun _ _=>Tryz.call193 _ _) Tryz.func193 (by kernel_rfl) (by kernel_rfl) h
theorem Hj (p:Nat) (r:Nat) (st:St) (K:Bool->St->Prop) (h:Ag (Ac st [] (.t (.box p 10)) 0) (fun (x1:TV)=>Af (.int .i64) x1 (fun (n1:Int)=>Ag (Ac st [] (.t (.box p 10)) 0) (fun (x2:TV)=>Af (.int .i64) x2 (fun (n2:Int)=>Ag (Ac st [] (.t (.box p 0)) 0) (fun (x3:TV)=>Af .str x3 (fun (s1:B8)=>BId (n2=(s1.length:Int)) (K true st) (Ag (Ac st [] (.t (.box p 0)) 0) (fun (x4:TV)=>Af .str x4 (fun (s2:B8)=>Ag (Ac st [] (.t (.box p 10)) 0) (fun (x5:TV)=>Af (.int .i64) x5 (fun (n3:Int)=>((0<=n3/\n3<(s2.length:Int))/\BId (((List.getD s2 n3.toNat 0).toNat:Int)=(13:Int)) (Ag (Ac st [] (.t (.box p 10)) 0) (fun (x6:TV)=>Af (.int .i64) x6 (fun (n4:Int)=>stB st (.box p 10) [(.int .i64 (i64.wrap (n4+(1:Int))))] (fun a=>Ag (Ac a [] (.t (.box p 10)) 0) (fun (x7:TV)=>Af (.int .i64) x7 (fun (n5:Int)=>Ag (Ac a [] (.t (.box p 0)) 0) (fun (x8:TV)=>Af .str x8 (fun (s3:B8)=>BId (n5=(s3.length:Int)) (Ag (Ac a [] (.t (.box p 10)) 0) (fun (x9:TV)=>Af (.int .i64) x9 (fun (n6:Int)=>CallT PR Al [(.box p 0),.int .i64 n6,.int .i64 4] [.one .bool] a (fun (b1:Bool) q=>K b1 q)))) (Ag (Ac a [] (.t (.box p 0)) 0) (fun (k:TV)=>Af .str k (fun (s4:B8)=>Ag (Ac a [] (.t (.box p 10)) 0) (fun (l:TV)=>Af (.int .i64) l (fun (n7:Int)=>((0<=n7/\n7<(s4.length:Int))/\BId (((List.getD s4 n7.toNat 0).toNat:Int)≠(10:Int)) (CallT PR Al [(.box p 0),.int .i64 n1,.int .i64 3] [.one .bool] a (fun (b2:Bool) u=>K b2 u)) (Ag (Ac a [] (.t (.box p 10)) 0) (fun (j:TV)=>Af (.int .i64) j (fun (n8:Int)=>stB a (.box p 10) [(.int .i64 (i64.wrap (n8+(1:Int))))] (fun b=>Ag (Ac b [] (.t (.box p 0)) 0) (fun (o:TV)=>Af .str o (fun (s5:B8)=>Ag (Ac b [] (.t (.box p 10)) 0) (fun (n:TV)=>Af (.int .i64) n (fun (n9:Int)=>((0<=n1/\n1<=n9/\n9<=(s5.length:Int))/\stB b (.box r 4) [(.str (List.drop n1.toNat (List.take n9.toNat s5)))] (fun s=>K true s)))))))))))))))))))))))) (BId (((List.getD s2 n3.toNat 0).toNat:Int)=(10:Int)) (Ag (Ac st [] (.t (.box p 10)) 0) (fun (i:TV)=>Af (.int .i64) i (fun (m:Int)=>stB st (.box p 10) [(.int .i64 (i64.wrap (m+(1:Int))))] (fun d=>Ag (Ac d [] (.t (.box p 0)) 0) (fun (e:TV)=>Af .str e (fun (s6:B8)=>Ag (Ac d [] (.t (.box p 10)) 0) (fun (v:TV)=>Af (.int .i64) v (fun (c:Int)=>((0<=n1/\n1<=c/\c<=(s6.length:Int))/\stB d (.box r 4) [(.str (List.drop n1.toNat (List.take c.toNat s6)))] (fun g=>K true g)))))))))) (CallT PR Al [(.box p 0),.int .i64 n1,.int .i64 3] [.one .bool] st (fun (b3:Bool) f=>K b3 f)))))))))))))))):CallT PR AI [(.box p 0),(.box r 0)] [.one .bool] st K:=
 Ae (cfg:=⟨[],[],[]⟩) (h:= .none) mixed (fun _ _=>Tryz.call194 _ _) Tryz.func194 (by kernel_rfl) (by kernel_rfl) h
theorem QV (kind:Int) (st:St) (K:Bool->St->Prop) (h:BId (kind=2) (BId (kind=2) (K true st) (K false st)) (BId (kind=6) (BId (kind=6) (K true st) (K false st)) (BId (kind=10) (BId (kind=10) (K true st) (K false st)) (BId (kind=11) (K true st) (K false st))))):CallT PR If [.int .i64 kind] [.one .bool] st K:=
 Ae (cfg:=⟨[],[],[]⟩) (h:= .none) mixed (fun _ _=>Tryz.call195 _ _) Tryz.func195 (by kernel_rfl) (by kernel_rfl) h
theorem Nv (b:Int) (st:St) (K:Bool->St->Prop) (h:BId ((97:Int)<=b) (BId (b<=122) (K true st) (BId ((65:Int)<=b) (K ((decide (b<=90))) st) (K false st))) (BId ((65:Int)<=b) (K ((decide (b<=90))) st) (K false st))):CallT PR Fn [.int .u8 b] [.one .bool] st K:=
 Ae (cfg:=⟨[],[],[]⟩) (h:= .none) mixed (fun _ _=>Tryz.call203 _ _) Tryz.func203 (by kernel_rfl) (by kernel_rfl) h
theorem F2 (x_0:B8) (x_1:Int) (x_2:Int) (x_3:Bool) (x_4:Bool) (x_5:Int) (x_6:Int) (x_7:Int) (x_8:Int) (x_9:Int) (x_10:Int) (x_11:Int) (x_12:Int) (x_13:Int) (off:Int) (e:Int) (st:St) (K:B8->Int->Int->Bool->Bool->Int->Int->Int->Int->Int->Int->Int->Int->Int->St->Prop) (h:BId (x_13=0) (K x_0 x_1 x_2 x_3 x_4 x_5 x_6 x_7 x_8 x_9 x_10 x_11 off e st) (K x_0 x_1 x_2 x_3 x_4 x_5 x_6 x_7 x_8 x_9 x_10 x_11 x_12 x_13 st)):CallT PR Ai [(.agg [.str x_0,.int .u8 x_1,.int .u8 x_2,.bool x_3,.bool x_4,.int .i64 x_5,.int .i64 x_6,.int .i64 x_7,.int .i64 x_8,.int .i64 x_9,.int .i64 x_10,.int .i64 x_11,.int .i64 x_12,.int .i64 x_13]),.int .i64 off,.int .i64 e] [.agg [.str,.int .u8,.int .u8,.bool,.bool,.int .i64,.int .i64,.int .i64,.int .i64,.int .i64,.int .i64,.int .i64,.int .i64,.int .i64]] st K:=
 Ae (cfg:=⟨[3,6],[],[]⟩) (h:= .none) mixed (fun _ _=>Tryz.call206 _ _) Tryz.func206 (by kernel_rfl) (by kernel_rfl) h
theorem Ji (x_0:B8) (x_1:Int) (x_2:Int) (x_3:Bool) (x_4:Bool) (x_5:Int) (x_6:Int) (x_7:Int) (x_8:Int) (x_9:Int) (x_10:Int) (x_11:Int) (x_12:Int) (x_13:Int) (st:St) (K:B8->Int->Int->Bool->Bool->Int->Int->Int->Int->Int->Int->Int->Int->Int->B8->St->Prop) (h:BId (x_10<(x_0.length:Int)) (((0<=x_10/\x_10<(x_0.length:Int))/\BId (((List.getD x_0 x_10.toNat 0).toNat:Int)=x_2) (∃(I1:Int->B8->Int->Int->Bool->Bool->Int->Int->Int->Int->Int->Int->Int->Int->Int->St->Prop) (M1:Int->B8->Int->Int->Bool->Bool->Int->Int->Int->Int->Int->Int->Int->Int->Int->St->Nat),(I1 x_10 x_0 x_1 x_2 x_3 x_4 x_5 x_6 x_7 x_8 x_9 ((i64.wrap (x_10+(1:Int)))) x_11 x_12 x_13 st)/\∀a s1 n1 n2 b1 b2 n3 n4 n5 n6 n7 n8 n9 g f i,I1 a s1 n1 n2 b1 b2 n3 n4 n5 n6 n7 n8 n9 g f i->(BId (n8<(s1.length:Int)) (((0<=n8/\n8<(s1.length:Int))/\BId (((List.getD s1 n8.toNat 0).toNat:Int)≠n2) (((0<=n8/\n8<(s1.length:Int))/\BId (((List.getD s1 n8.toNat 0).toNat:Int)=n2) ((I1 a s1 n1 n2 b1 b2 n3 n4 n5 n6 n7 ((i64.wrap ((i64.wrap (n8+(1:Int)))+(1:Int)))) n9 g f i/\M1 a s1 n1 n2 b1 b2 n3 n4 n5 n6 n7 ((i64.wrap ((i64.wrap (n8+(1:Int)))+(1:Int)))) n9 g f i<M1 a s1 n1 n2 b1 b2 n3 n4 n5 n6 n7 n8 n9 g f i)) ((I1 a s1 n1 n2 b1 b2 n3 n4 n5 n6 n7 ((i64.wrap (n8+(1:Int)))) n9 g f i/\M1 a s1 n1 n2 b1 b2 n3 n4 n5 n6 n7 ((i64.wrap (n8+(1:Int)))) n9 g f i<M1 a s1 n1 n2 b1 b2 n3 n4 n5 n6 n7 n8 n9 g f i)))) (BId ((i64.wrap (n8+(1:Int)))<(s1.length:Int)) (((0<=(i64.wrap (n8+(1:Int)))/\(i64.wrap (n8+(1:Int)))<(s1.length:Int))/\BId (((List.getD s1 (Int.toNat (i64.wrap (n8+(1:Int)))) 0).toNat:Int)=n2) (((0<=n8/\n8<(s1.length:Int))/\BId (((List.getD s1 n8.toNat 0).toNat:Int)=n2) ((I1 a s1 n1 n2 b1 b2 n3 n4 n5 n6 n7 ((i64.wrap ((i64.wrap (n8+(1:Int)))+(1:Int)))) n9 g f i/\M1 a s1 n1 n2 b1 b2 n3 n4 n5 n6 n7 ((i64.wrap ((i64.wrap (n8+(1:Int)))+(1:Int)))) n9 g f i<M1 a s1 n1 n2 b1 b2 n3 n4 n5 n6 n7 n8 n9 g f i)) ((I1 a s1 n1 n2 b1 b2 n3 n4 n5 n6 n7 ((i64.wrap (n8+(1:Int)))) n9 g f i/\M1 a s1 n1 n2 b1 b2 n3 n4 n5 n6 n7 ((i64.wrap (n8+(1:Int)))) n9 g f i<M1 a s1 n1 n2 b1 b2 n3 n4 n5 n6 n7 n8 n9 g f i)))) (BId ((s1.length:Int)<=n8) (CallT PR Ai [(.agg [.str s1,.int .u8 n1,.int .u8 n2,.bool b1,.bool b2,.int .i64 n3,.int .i64 n4,.int .i64 n5,.int .i64 n6,.int .i64 n7,.int .i64 n8,.int .i64 n9,.int .i64 g,.int .i64 f]),(.int .i64 (s1.length:Int)),.int .i64 4] [.agg [.str,.int .u8,.int .u8,.bool,.bool,.int .i64,.int .i64,.int .i64,.int .i64,.int .i64,.int .i64,.int .i64,.int .i64,.int .i64]] i (fun (s2:B8) (c1 d2:Int) (b3 b4:Bool) (g3 f5 e1 h5 e9 e6 e4 g2 h9:Int) f8=>K s2 c1 d2 b3 b4 g3 f5 e1 h5 e9 e6 e4 g2 h9 [] f8)) (((0<=a/\a<=(i64.wrap (n8+(1:Int)))/\(i64.wrap (n8+(1:Int)))<=(s1.length:Int))/\K s1 n1 n2 b1 b2 n3 n4 n5 n6 n7 ((i64.wrap (n8+(1:Int)))) n9 g f ((List.drop a.toNat (List.take (Int.toNat (i64.wrap (n8+(1:Int)))) s1))) i))))) (BId ((s1.length:Int)<=n8) (CallT PR Ai [(.agg [.str s1,.int .u8 n1,.int .u8 n2,.bool b1,.bool b2,.int .i64 n3,.int .i64 n4,.int .i64 n5,.int .i64 n6,.int .i64 n7,.int .i64 n8,.int .i64 n9,.int .i64 g,.int .i64 f]),(.int .i64 (s1.length:Int)),.int .i64 4] [.agg [.str,.int .u8,.int .u8,.bool,.bool,.int .i64,.int .i64,.int .i64,.int .i64,.int .i64,.int .i64,.int .i64,.int .i64,.int .i64]] i (fun (s3:B8) (g1 g9:Int) (b5 b6:Bool) (e7 d5 g5 c9 d4 f3 d8 d0 c2:Int) e8=>K s3 g1 g9 b5 b6 e7 d5 g5 c9 d4 f3 d8 d0 c2 [] e8)) (((0<=a/\a<=(i64.wrap (n8+(1:Int)))/\(i64.wrap (n8+(1:Int)))<=(s1.length:Int))/\K s1 n1 n2 b1 b2 n3 n4 n5 n6 n7 ((i64.wrap (n8+(1:Int)))) n9 g f ((List.drop a.toNat (List.take (Int.toNat (i64.wrap (n8+(1:Int)))) s1))) i)))))) (BId ((s1.length:Int)<=n8) (CallT PR Ai [(.agg [.str s1,.int .u8 n1,.int .u8 n2,.bool b1,.bool b2,.int .i64 n3,.int .i64 n4,.int .i64 n5,.int .i64 n6,.int .i64 n7,.int .i64 n8,.int .i64 n9,.int .i64 g,.int .i64 f]),(.int .i64 (s1.length:Int)),.int .i64 4] [.agg [.str,.int .u8,.int .u8,.bool,.bool,.int .i64,.int .i64,.int .i64,.int .i64,.int .i64,.int .i64,.int .i64,.int .i64,.int .i64]] i (fun (s4:B8) (g6 d9:Int) (b7 b8:Bool) (d3 i0 h1 h6 h3 b0 c5 c3 c0:Int) e2=>K s4 g6 d9 b7 b8 d3 i0 h1 h6 h3 b0 c5 c3 c0 [] e2)) (((0<=a/\a<=(i64.wrap (n8+(1:Int)))/\(i64.wrap (n8+(1:Int)))<=(s1.length:Int))/\K s1 n1 n2 b1 b2 n3 n4 n5 n6 n7 ((i64.wrap (n8+(1:Int)))) n9 g f ((List.drop a.toNat (List.take (Int.toNat (i64.wrap (n8+(1:Int)))) s1))) i))))) (∃(I2:Int->B8->Int->Int->Bool->Bool->Int->Int->Int->Int->Int->Int->Int->Int->Int->St->Prop) (M2:Int->B8->Int->Int->Bool->Bool->Int->Int->Int->Int->Int->Int->Int->Int->Int->St->Nat),(I2 x_10 x_0 x_1 x_2 x_3 x_4 x_5 x_6 x_7 x_8 x_9 x_10 x_11 x_12 x_13 st)/\∀d s5 k l b9 w x t a5 a2 a7 c a3 a1 u q,I2 d s5 k l b9 w x t a5 a2 a7 c a3 a1 u q->(BId (c<(s5.length:Int)) (((0<=c/\c<(s5.length:Int))/\BId (((List.getD s5 c.toNat 0).toNat:Int)≠k) (((0<=c/\c<(s5.length:Int))/\BId (((List.getD s5 c.toNat 0).toNat:Int)≠(10:Int)) (((0<=c/\c<(s5.length:Int))/\BId (((List.getD s5 c.toNat 0).toNat:Int)≠(13:Int)) (((0<=c/\c<(s5.length:Int))/\BId (((List.getD s5 c.toNat 0).toNat:Int)=l) (CallT PR Ai [(.agg [.str s5,.int .u8 k,.int .u8 l,.bool b9,.bool w,.int .i64 x,.int .i64 t,.int .i64 a5,.int .i64 a2,.int .i64 a7,.int .i64 c,.int .i64 a3,.int .i64 a1,.int .i64 u]),.int .i64 c,.int .i64 3] [.agg [.str,.int .u8,.int .u8,.bool,.bool,.int .i64,.int .i64,.int .i64,.int .i64,.int .i64,.int .i64,.int .i64,.int .i64,.int .i64]] q (fun (s6:B8) (c8 e5:Int) (d1 f6:Bool) (c7 d7 f1 h7 f0 e3 a9 g4 g0:Int) h8=>K s6 c8 e5 d1 f6 c7 d7 f1 h7 f0 e3 a9 g4 g0 [] h8)) ((I2 d s5 k l b9 w x t a5 a2 a7 ((i64.wrap (c+(1:Int)))) a3 a1 u q/\M2 d s5 k l b9 w x t a5 a2 a7 ((i64.wrap (c+(1:Int)))) a3 a1 u q<M2 d s5 k l b9 w x t a5 a2 a7 c a3 a1 u q)))) (((0<=d/\d<=c/\c<=(s5.length:Int))/\K s5 k l b9 w x t a5 a2 a7 c a3 a1 u ((List.drop d.toNat (List.take c.toNat s5))) q)))) (((0<=d/\d<=c/\c<=(s5.length:Int))/\K s5 k l b9 w x t a5 a2 a7 c a3 a1 u ((List.drop d.toNat (List.take c.toNat s5))) q)))) (((0<=d/\d<=c/\c<=(s5.length:Int))/\K s5 k l b9 w x t a5 a2 a7 c a3 a1 u ((List.drop d.toNat (List.take c.toNat s5))) q)))) (((0<=d/\d<=c/\c<=(s5.length:Int))/\K s5 k l b9 w x t a5 a2 a7 c a3 a1 u ((List.drop d.toNat (List.take c.toNat s5))) q)))))) (∃(I3:Int->B8->Int->Int->Bool->Bool->Int->Int->Int->Int->Int->Int->Int->Int->Int->St->Prop) (M3:Int->B8->Int->Int->Bool->Bool->Int->Int->Int->Int->Int->Int->Int->Int->Int->St->Nat),(I3 x_10 x_0 x_1 x_2 x_3 x_4 x_5 x_6 x_7 x_8 x_9 x_10 x_11 x_12 x_13 st)/\∀e s7 j m s z a4 v a0 y r b n o p a6,I3 e s7 j m s z a4 v a0 y r b n o p a6->(BId (b<(s7.length:Int)) (((0<=b/\b<(s7.length:Int))/\BId (((List.getD s7 b.toNat 0).toNat:Int)≠j) (((0<=b/\b<(s7.length:Int))/\BId (((List.getD s7 b.toNat 0).toNat:Int)≠(10:Int)) (((0<=b/\b<(s7.length:Int))/\BId (((List.getD s7 b.toNat 0).toNat:Int)≠(13:Int)) (((0<=b/\b<(s7.length:Int))/\BId (((List.getD s7 b.toNat 0).toNat:Int)=m) (CallT PR Ai [(.agg [.str s7,.int .u8 j,.int .u8 m,.bool s,.bool z,.int .i64 a4,.int .i64 v,.int .i64 a0,.int .i64 y,.int .i64 r,.int .i64 b,.int .i64 n,.int .i64 o,.int .i64 p]),.int .i64 b,.int .i64 3] [.agg [.str,.int .u8,.int .u8,.bool,.bool,.int .i64,.int .i64,.int .i64,.int .i64,.int .i64,.int .i64,.int .i64,.int .i64,.int .i64]] a6 (fun (s8:B8) (h2 f9:Int) (f2 g8:Bool) (c4 g7 f4 e0 h4 d6 c6 a8 f7:Int) h0=>K s8 h2 f9 f2 g8 c4 g7 f4 e0 h4 d6 c6 a8 f7 [] h0)) ((I3 e s7 j m s z a4 v a0 y r ((i64.wrap (b+(1:Int)))) n o p a6/\M3 e s7 j m s z a4 v a0 y r ((i64.wrap (b+(1:Int)))) n o p a6<M3 e s7 j m s z a4 v a0 y r b n o p a6)))) (((0<=e/\e<=b/\b<=(s7.length:Int))/\K s7 j m s z a4 v a0 y r b n o p ((List.drop e.toNat (List.take b.toNat s7))) a6)))) (((0<=e/\e<=b/\b<=(s7.length:Int))/\K s7 j m s z a4 v a0 y r b n o p ((List.drop e.toNat (List.take b.toNat s7))) a6)))) (((0<=e/\e<=b/\b<=(s7.length:Int))/\K s7 j m s z a4 v a0 y r b n o p ((List.drop e.toNat (List.take b.toNat s7))) a6)))) (((0<=e/\e<=b/\b<=(s7.length:Int))/\K s7 j m s z a4 v a0 y r b n o p ((List.drop e.toNat (List.take b.toNat s7))) a6))))):CallT PR Ca [(.agg [.str x_0,.int .u8 x_1,.int .u8 x_2,.bool x_3,.bool x_4,.int .i64 x_5,.int .i64 x_6,.int .i64 x_7,.int .i64 x_8,.int .i64 x_9,.int .i64 x_10,.int .i64 x_11,.int .i64 x_12,.int .i64 x_13])] [.agg [.str,.int .u8,.int .u8,.bool,.bool,.int .i64,.int .i64,.int .i64,.int .i64,.int .i64,.int .i64,.int .i64,.int .i64,.int .i64],.one .str] st K:=
 Ae (cfg:=⟨[1,2],[],[]⟩) (h:=(.seq .none (.seq .none (.seq (.seq .none (.cond (.seq .none (.seq (.block (.loop ⟨[(4,.int .i64)],[(1,0,0),(2,1,0)],[(0,14),(1,14)],[(0,0,.str),(0,1,.int .u8),(0,2,.int .u8),(0,3,.bool),(0,4,.bool),(0,5,.int .i64),(0,6,.int .i64),(0,7,.int .i64),(0,8,.int .i64),(0,9,.int .i64),(0,10,.int .i64),(0,11,.int .i64),(0,12,.int .i64),(0,13,.int .i64)]⟩ .none)) .none)) (.block (.loop ⟨[(4,.int .i64)],[(1,0,0),(2,1,0)],[(0,14),(1,14)],[(0,0,.str),(0,1,.int .u8),(0,2,.int .u8),(0,3,.bool),(0,4,.bool),(0,5,.int .i64),(0,6,.int .i64),(0,7,.int .i64),(0,8,.int .i64),(0,9,.int .i64),(0,10,.int .i64),(0,11,.int .i64),(0,12,.int .i64),(0,13,.int .i64)]⟩ .none)))) .none)))) mixed (fun _ _=>Tryz.call207 _ _) Tryz.func207 (by kernel_rfl) (by kernel_rfl) h
theorem GV (x_0:B8) (x_1:Int) (x_2:Int) (x_3:Bool) (x_4:Bool) (x_5:Int) (x_6:Int) (x_7:Int) (x_8:Int) (x_9:Int) (x_10:Int) (x_11:Int) (x_12:Int) (x_13:Int) (st:St) (K:B8->Int->Int->Bool->Bool->Int->Int->Int->Int->Int->Int->Int->Int->Int->St->Prop) (h:BId (x_10<(x_0.length:Int)) (((0<=x_10/\x_10<(x_0.length:Int))/\BId (((List.getD x_0 x_10.toNat 0).toNat:Int)≠x_1) (CallT PR AD [.str x_0,.int .i64 x_10] [.one (.int .i64)] st (fun (n1:Int) a=>BId (n1=(-1:Int)) (CallT PR Ai [(.agg [.str x_0,.int .u8 x_1,.int .u8 x_2,.bool x_3,.bool x_4,.int .i64 x_5,.int .i64 x_6,.int .i64 x_7,.int .i64 x_8,.int .i64 x_9,.int .i64 x_10,.int .i64 x_11,.int .i64 x_12,.int .i64 x_13]),.int .i64 x_10,.int .i64 3] [.agg [.str,.int .u8,.int .u8,.bool,.bool,.int .i64,.int .i64,.int .i64,.int .i64,.int .i64,.int .i64,.int .i64,.int .i64,.int .i64]] a (fun (s1:B8) (n2 n3:Int) (b1 b2:Bool) (n4 n5 n6 n7 n8 n9 i j k:Int) r=>K s1 n2 n3 b1 b2 n4 n5 n6 n7 n8 n9 i j k r)) (BId (n1=(-2:Int)) (CallT PR Ai [(.agg [.str x_0,.int .u8 x_1,.int .u8 x_2,.bool x_3,.bool x_4,.int .i64 x_5,.int .i64 x_6,.int .i64 x_7,.int .i64 x_8,.int .i64 x_9,.int .i64 x_10,.int .i64 x_11,.int .i64 x_12,.int .i64 x_13]),(.int .i64 (x_0.length:Int)),.int .i64 4] [.agg [.str,.int .u8,.int .u8,.bool,.bool,.int .i64,.int .i64,.int .i64,.int .i64,.int .i64,.int .i64,.int .i64,.int .i64,.int .i64]] a (fun (s2:B8) (d m:Int) (b3 b4:Bool) (g b f c l o e n p:Int) q=>K s2 d m b3 b4 g b f c l o e n p q)) (K x_0 x_1 x_2 x_3 x_4 x_5 x_6 x_7 x_8 x_9 x_10 x_11 x_12 x_13 a)))) (K x_0 x_1 x_2 x_3 x_4 x_5 x_6 x_7 x_8 x_9 x_10 x_11 x_12 x_13 st))) (K x_0 x_1 x_2 x_3 x_4 x_5 x_6 x_7 x_8 x_9 x_10 x_11 x_12 x_13 st)):CallT PR AW [(.agg [.str x_0,.int .u8 x_1,.int .u8 x_2,.bool x_3,.bool x_4,.int .i64 x_5,.int .i64 x_6,.int .i64 x_7,.int .i64 x_8,.int .i64 x_9,.int .i64 x_10,.int .i64 x_11,.int .i64 x_12,.int .i64 x_13])] [.agg [.str,.int .u8,.int .u8,.bool,.bool,.int .i64,.int .i64,.int .i64,.int .i64,.int .i64,.int .i64,.int .i64,.int .i64,.int .i64]] st K:=
 Ae (cfg:=⟨[1,2],[],[]⟩) (h:= .none) mixed (fun _ _=>Tryz.call208 _ _) Tryz.func208 (by kernel_rfl) (by kernel_rfl) h
theorem Jh (s:B8) (atx:Int) (st:St) (K:Int->St->Prop) (h:BId (atx=(s.length:Int)) (K 0 st) (((0<=atx/\atx<(s.length:Int))/\BId (((List.getD s atx.toNat 0).toNat:Int)=(10:Int)) (K 1 st) (((0<=atx/\atx<(s.length:Int))/\BId (((List.getD s atx.toNat 0).toNat:Int)≠(13:Int)) (K (-1) st) (BId ((i64.wrap (atx+(1:Int)))=(s.length:Int)) (K (-2) st) (((0<=(i64.wrap (atx+(1:Int)))/\(i64.wrap (atx+(1:Int)))<(s.length:Int))/\BId (((List.getD s (Int.toNat (i64.wrap (atx+(1:Int)))) 0).toNat:Int)=(10:Int)) (K 2 st) (K (-1) st))))))))):CallT PR AD [.str s,.int .i64 atx] [.one (.int .i64)] st K:=
 Ae (cfg:=⟨[],[],[]⟩) (h:= .none) mixed (fun _ _=>Tryz.call209 _ _) Tryz.func209 (by kernel_rfl) (by kernel_rfl) h
theorem QW (a_0:Int) (a_1:B8) (a_2:B8) (a_3:TV) (a_4:B8) (b_0:Int) (b_1:B8) (b_2:B8) (b_3:TV) (b_4:B8) (st:St) (K:Bool->St->Prop) (h:BId (a_0≠b_0) (K false st) (BId (a_1≠b_1) (K false st) (BId (a_2≠b_2) (K false st) (BId (a_4≠b_4) (K false st) (need (isSl a_3) (need (isSl b_3) (BId ((lenS a_3:Int)≠(lenS b_3:Int)) (K false st) (need (isSl a_3) (∃(I1:Int->Int->Int->B8->B8->TV->B8->Int->B8->B8->TV->B8->St->Prop) (M1:Int->Int->Int->B8->B8->TV->B8->Int->B8->B8->TV->B8->St->Nat),(I1 0 ((lenS a_3:Int)) a_0 a_1 a_2 a_3 a_4 b_0 b_1 b_2 b_3 b_4 st)/\∀a b n1 s1 s2 v1 s3 n2 s4 s5 v2 s6 c,I1 a b n1 s1 s2 v1 s3 n2 s4 s5 v2 s6 c->(BId (a<b) (((0<=a/\a<(lenZ 5 v1:Int))/\Ag ((Aj CJ [] (.t (ixT 5 v1 a.toNat)) 0 5).map TV.agg) (fun (x1:TV)=>AT [.int .i64,.str,.str,.tv,.str] x1 (fun (n3:Int) (s7 s8:B8) (v3:TV) (s9:B8)=>((0<=a/\a<(lenZ 5 v2:Int))/\Ag ((Aj CJ [] (.t (ixT 5 v2 a.toNat)) 0 5).map TV.agg) (fun (x2:TV)=>AT [.int .i64,.str,.str,.tv,.str] x2 (fun (n4:Int) (f e:B8) (v4:TV) (g:B8)=>CallT PR FQ [(.agg [.int .i64 n3,.str s7,.str s8,v3,.str s9]),(.agg [.int .i64 n4,.str f,.str e,v4,.str g])] [.one .bool] c (fun (b1:Bool) d=>BIf (!b1) (K false d) ((I1 ((i64.wrap (a+(1:Int)))) b n1 s1 s2 v1 s3 n2 s4 s5 v2 s6 d/\M1 ((i64.wrap (a+(1:Int)))) b n1 s1 s2 v1 s3 n2 s4 s5 v2 s6 d<M1 a b n1 s1 s2 v1 s3 n2 s4 s5 v2 s6 c)))))))))) (K true c))))))))))):CallT PR FQ [(.agg [.int .i64 a_0,.str a_1,.str a_2,a_3,.str a_4]),(.agg [.int .i64 b_0,.str b_1,.str b_2,b_3,.str b_4])] [.one .bool] st K:=
 Ae (cfg:=⟨[2,3],[],[]⟩) (h:=(.seq .none (.seq .none (.seq (.seq .none (.block (.loop ⟨[(44,.int .i64),(43,.int .i64)],[(2,0,0),(3,1,0)],[(0,5),(1,5)],[(0,0,.int .i64),(0,1,.str),(0,2,.str),(0,3,.tv),(0,4,.str),(1,0,.int .i64),(1,1,.str),(1,2,.str),(1,3,.tv),(1,4,.str)]⟩ .none))) .none)))) mixed (fun _ _=>Tryz.call252 _ _) Tryz.func252 (by kernel_rfl) (by kernel_rfl) h
theorem Jk (n_0:Int) (n_1:B8) (n_2:B8) (n_3:TV) (n_4:B8) (depth:Int) (seen:Int) (st:St) (K:Int->Int->St->Prop) (h:BId ((192:Int)<depth) (K seen 9 st) (BId ((524288:Int)<=seen) (K seen 10 st) (BId (n_0<1) (K seen 6 st) (BId ((11:Int)<n_0) (K seen 6 st) (CallT PR Dr [.int .i64 n_0] [.one .bool] st (fun (b1:Bool) j=>BIf b1 (need (isSl n_3) (BId ((0:Int)<(lenS n_3:Int)) (K seen 1 j) (BId (n_4≠([]:B8)) (K seen 1 j) (∃(I1:Int->Int->Int->Int->B8->B8->TV->B8->St->Prop) (M1:Int->Int->Int->Int->B8->B8->TV->B8->St->Nat),(I1 ((i64.wrap (seen+(1:Int)))) 0 depth n_0 n_1 n_2 n_3 n_4 j)/\∀c f a n1 s1 s2 v1 s3 i,I1 c f a n1 s1 s2 v1 s3 i->(need (isSl v1) (BId (f<(lenS v1:Int)) (((0<=f/\f<(lenZ 5 v1:Int))/\Ag ((Aj i [] (.t (ixT 5 v1 f.toNat)) 0 5).map TV.agg) (fun (x1:TV)=>AT [.int .i64,.str,.str,.tv,.str] x1 (fun (n2:Int) (s4 s5:B8) (v2:TV) (s6:B8)=>CallT PR Bp [(.agg [.int .i64 n2,.str s4,.str s5,v2,.str s6]),(.int .i64 (i64.wrap (a+(1:Int)))),.int .i64 c] [.one (.int .i64),.one (.int .i64)] i (fun (n3 n4:Int) l=>BId (n4≠0) (K n3 n4 l) ((I1 n3 ((i64.wrap (f+(1:Int)))) a n1 s1 s2 v1 s3 l/\M1 n3 ((i64.wrap (f+(1:Int)))) a n1 s1 s2 v1 s3 l<M1 c f a n1 s1 s2 v1 s3 i))))))) (K c 0 i))))))) (∃(I2:Int->Int->Int->Int->B8->B8->TV->B8->St->Prop) (M2:Int->Int->Int->Int->B8->B8->TV->B8->St->Nat),(I2 ((i64.wrap (seen+(1:Int)))) 0 depth n_0 n_1 n_2 n_3 n_4 j)/\∀d e b n5 s7 s8 v3 s9 g,I2 d e b n5 s7 s8 v3 s9 g->(need (isSl v3) (BId (e<(lenS v3:Int)) (((0<=e/\e<(lenZ 5 v3:Int))/\Ag ((Aj g [] (.t (ixT 5 v3 e.toNat)) 0 5).map TV.agg) (fun (x2:TV)=>AT [.int .i64,.str,.str,.tv,.str] x2 (fun (n6:Int) (n m:B8) (v4:TV) (o:B8)=>CallT PR Bp [(.agg [.int .i64 n6,.str n,.str m,v4,.str o]),(.int .i64 (i64.wrap (b+(1:Int)))),.int .i64 d] [.one (.int .i64),.one (.int .i64)] g (fun (n7 n8:Int) k=>BId (n8≠0) (K n7 n8 k) ((I2 n7 ((i64.wrap (e+(1:Int)))) b n5 s7 s8 v3 s9 k/\M2 n7 ((i64.wrap (e+(1:Int)))) b n5 s7 s8 v3 s9 k<M2 d e b n5 s7 s8 v3 s9 g))))))) (K d 0 g)))))))))):CallT PR Bp [(.agg [.int .i64 n_0,.str n_1,.str n_2,n_3,.str n_4]),.int .i64 depth,.int .i64 seen] [.one (.int .i64),.one (.int .i64)] st K:=
 Ae (cfg:=⟨[3],[],[]⟩) (h:=(.seq .none (.seq .none (.seq .none (.seq .none (.seq .none (.seq .none (.seq (.seq .none (.block (.loop ⟨[(2,.int .i64),(8,.int .i64),(1,.int .i64)],[(3,0,0)],[(0,5)],[(0,0,.int .i64),(0,1,.str),(0,2,.str),(0,3,.tv),(0,4,.str)]⟩ .none))) .none)))))))) mixed (fun _ _=>Tryz.call253 _ _) Tryz.func253 (by kernel_rfl) (by kernel_rfl) h
theorem Kh (n_0:Int) (n_1:B8) (n_2:B8) (n_3:TV) (n_4:B8) (st:St) (K:Int->St->Prop) (h:∃(I1:Int->Int->Int->B8->B8->TV->B8->St->Prop) (M1:Int->Int->Int->B8->B8->TV->B8->St->Nat),(I1 ((i64.wrap ((i64.wrap ((n_1.length:Int)+(n_2.length:Int)))+(n_4.length:Int)))) 0 n_0 n_1 n_2 n_3 n_4 st)/\∀c a n1 s1 s2 v1 s3 b,I1 c a n1 s1 s2 v1 s3 b->(need (isSl v1) (BId (a<(lenS v1:Int)) (((0<=a/\a<(lenZ 5 v1:Int))/\Ag ((Aj b [] (.t (ixT 5 v1 a.toNat)) 0 5).map TV.agg) (fun (x1:TV)=>AT [.int .i64,.str,.str,.tv,.str] x1 (fun (n2:Int) (s4 s5:B8) (v2:TV) (s6:B8)=>CallT PR Cl [(.agg [.int .i64 n2,.str s4,.str s5,v2,.str s6])] [.one (.int .i64)] b (fun (n3:Int) d=>(I1 ((i64.wrap (c+n3))) ((i64.wrap (a+(1:Int)))) n1 s1 s2 v1 s3 d/\M1 ((i64.wrap (c+n3))) ((i64.wrap (a+(1:Int)))) n1 s1 s2 v1 s3 d<M1 c a n1 s1 s2 v1 s3 b)))))) (K c b)))):CallT PR Cl [(.agg [.int .i64 n_0,.str n_1,.str n_2,n_3,.str n_4])] [.one (.int .i64)] st K:=
 Ae (cfg:=⟨[1],[],[]⟩) (h:=(.seq .none (.seq .none (.seq (.seq .none (.block (.loop ⟨[(3,.int .i64),(4,.int .i64)],[(1,0,0)],[(0,5)],[(0,0,.int .i64),(0,1,.str),(0,2,.str),(0,3,.tv),(0,4,.str)]⟩ .none))) .none)))) mixed (fun _ _=>Tryz.call254 _ _) Tryz.func254 (by kernel_rfl) (by kernel_rfl) h
theorem Je (p:Nat) (st:St) (K:Bool->St->Prop) (h:Ag (Ac st [] (.t (.box p 10)) 0) (fun (x1:TV)=>Af (.int .i64) x1 (fun (n1:Int)=>Ag (Ac st [] (.t (.box p 0)) 0) (fun (x2:TV)=>Af .str x2 (fun (s1:B8)=>BId (n1<(s1.length:Int)) (Ag (Ac st [] (.t (.box p 0)) 0) (fun (x3:TV)=>Af .str x3 (fun (s2:B8)=>Ag (Ac st [] (.t (.box p 10)) 0) (fun (x4:TV)=>Af (.int .i64) x4 (fun (n2:Int)=>((0<=n2/\n2<(s2.length:Int))/\Ag (Ac st [] (.t (.box p 2)) 0) (fun (x5:TV)=>Af (.int .u8) x5 (fun (n3:Int)=>BId (((List.getD s2 n2.toNat 0).toNat:Int)=n3) (CallT PR CB [(.box p 0)] [.one .bool] st (fun (b1:Bool) b8=>K b1 b8)) (∃(I1:TV->St->Prop) (M1:TV->St->Nat),(I1 ((.box p 0)) st)/\∀a d,I1 a d->(need (isPtr a) (need (isPtr a) (Ag (Ac d [] (.t (Ao a 10)) 0) (fun (x6:TV)=>Af (.int .i64) x6 (fun (n4:Int)=>need (isPtr a) (need (isPtr a) (Ag (Ac d [] (.t (Ao a 0)) 0) (fun (x7:TV)=>Af .str x7 (fun (s3:B8)=>BId (n4<(s3.length:Int)) (need (isPtr a) (need (isPtr a) (Ag (Ac d [] (.t (Ao a 0)) 0) (fun (x8:TV)=>Af .str x8 (fun (s4:B8)=>need (isPtr a) (need (isPtr a) (Ag (Ac d [] (.t (Ao a 10)) 0) (fun (x9:TV)=>Af (.int .i64) x9 (fun (n5:Int)=>((0<=n5/\n5<(s4.length:Int))/\need (isPtr a) (need (isPtr a) (need (isPtr (Ao a 1)) (Ag (Ac d [] (.t (Ao (Ao a 1) 0)) 0) (fun (b9:TV)=>Af (.int .u8) b9 (fun (n6:Int)=>BId (((List.getD s4 n5.toNat 0).toNat:Int)=n6) (BId (((List.getD s4 n5.toNat 0).toNat:Int)=n6) (K true d) (need (isPtr a) (need (isPtr a) (need (isPtr (Ao a 1)) (Ag (Ac d [] (.t (Ao (Ao a 1) 1)) 0) (fun (c1:TV)=>Af (.int .u8) c1 (fun (n7:Int)=>BId (((List.getD s4 n5.toNat 0).toNat:Int)=n7) (need (isPtr a) (need (isPtr a) (Ag (Ac d [] (.t (Ao a 10)) 0) (fun (a6:TV)=>Af (.int .i64) a6 (fun (n8:Int)=>CallT PR Al [a,.int .i64 n8,.int .i64 3] [.one .bool] d (fun (b2:Bool) c7=>K b2 c7)))))) (need (isPtr a) (need (isPtr a) (Ag (Ac d [] (.t (Ao a 10)) 0) (fun (d6:TV)=>Af (.int .i64) d6 (fun (n9:Int)=>need (isPtr a) (need (isPtr a) (stB d (Ao a 10) [(.int .i64 (i64.wrap (n9+(1:Int))))] (fun k=>(I1 a k/\M1 a k<M1 a d)))))))))))))))) (BId (((List.getD s4 n5.toNat 0).toNat:Int)=(10:Int)) (BId (((List.getD s4 n5.toNat 0).toNat:Int)=(10:Int)) (K true d) (need (isPtr a) (need (isPtr a) (need (isPtr (Ao a 1)) (Ag (Ac d [] (.t (Ao (Ao a 1) 1)) 0) (fun (d2:TV)=>Af (.int .u8) d2 (fun (a0:Int)=>BId (((List.getD s4 n5.toNat 0).toNat:Int)=a0) (need (isPtr a) (need (isPtr a) (Ag (Ac d [] (.t (Ao a 10)) 0) (fun (w:TV)=>Af (.int .i64) w (fun (d3:Int)=>CallT PR Al [a,.int .i64 d3,.int .i64 3] [.one .bool] d (fun (b3:Bool) c4=>K b3 c4)))))) (need (isPtr a) (need (isPtr a) (Ag (Ac d [] (.t (Ao a 10)) 0) (fun (r:TV)=>Af (.int .i64) r (fun (a1:Int)=>need (isPtr a) (need (isPtr a) (stB d (Ao a 10) [(.int .i64 (i64.wrap (a1+(1:Int))))] (fun l=>(I1 a l/\M1 a l<M1 a d)))))))))))))))) (BId (((List.getD s4 n5.toNat 0).toNat:Int)=(13:Int)) (K true d) (need (isPtr a) (need (isPtr a) (need (isPtr (Ao a 1)) (Ag (Ac d [] (.t (Ao (Ao a 1) 1)) 0) (fun (e2:TV)=>Af (.int .u8) e2 (fun (c8:Int)=>BId (((List.getD s4 n5.toNat 0).toNat:Int)=c8) (need (isPtr a) (need (isPtr a) (Ag (Ac d [] (.t (Ao a 10)) 0) (fun (a3:TV)=>Af (.int .i64) a3 (fun (d4:Int)=>CallT PR Al [a,.int .i64 d4,.int .i64 3] [.one .bool] d (fun (b4:Bool) d1=>K b4 d1)))))) (need (isPtr a) (need (isPtr a) (Ag (Ac d [] (.t (Ao a 10)) 0) (fun (c3:TV)=>Af (.int .i64) c3 (fun (a7:Int)=>need (isPtr a) (need (isPtr a) (stB d (Ao a 10) [(.int .i64 (i64.wrap (a7+(1:Int))))] (fun j=>(I1 a j/\M1 a j<M1 a d)))))))))))))))))))))))))))))))) (K true d))))))))))))))))))) (∃(I2:TV->St->Prop) (M2:TV->St->Nat),(I2 ((.box p 0)) st)/\∀b c,I2 b c->(need (isPtr b) (need (isPtr b) (Ag (Ac c [] (.t (Ao b 10)) 0) (fun (u:TV)=>Af (.int .i64) u (fun (a5:Int)=>need (isPtr b) (need (isPtr b) (Ag (Ac c [] (.t (Ao b 0)) 0) (fun (x:TV)=>Af .str x (fun (s5:B8)=>BId (a5<(s5.length:Int)) (need (isPtr b) (need (isPtr b) (Ag (Ac c [] (.t (Ao b 0)) 0) (fun (v:TV)=>Af .str v (fun (s6:B8)=>need (isPtr b) (need (isPtr b) (Ag (Ac c [] (.t (Ao b 10)) 0) (fun (z:TV)=>Af (.int .i64) z (fun (e:Int)=>((0<=e/\e<(s6.length:Int))/\need (isPtr b) (need (isPtr b) (need (isPtr (Ao b 1)) (Ag (Ac c [] (.t (Ao (Ao b 1) 0)) 0) (fun (d8:TV)=>Af (.int .u8) d8 (fun (m:Int)=>BId (((List.getD s6 e.toNat 0).toNat:Int)=m) (BId (((List.getD s6 e.toNat 0).toNat:Int)=m) (K true c) (need (isPtr b) (need (isPtr b) (need (isPtr (Ao b 1)) (Ag (Ac c [] (.t (Ao (Ao b 1) 1)) 0) (fun (a9:TV)=>Af (.int .u8) a9 (fun (c2:Int)=>BId (((List.getD s6 e.toNat 0).toNat:Int)=c2) (need (isPtr b) (need (isPtr b) (Ag (Ac c [] (.t (Ao b 10)) 0) (fun (b0:TV)=>Af (.int .i64) b0 (fun (a8:Int)=>CallT PR Al [b,.int .i64 a8,.int .i64 3] [.one .bool] c (fun (b5:Bool) n=>K b5 n)))))) (need (isPtr b) (need (isPtr b) (Ag (Ac c [] (.t (Ao b 10)) 0) (fun (a2:TV)=>Af (.int .i64) a2 (fun (d0:Int)=>need (isPtr b) (need (isPtr b) (stB c (Ao b 10) [(.int .i64 (i64.wrap (d0+(1:Int))))] (fun i=>(I2 b i/\M2 b i<M2 b c)))))))))))))))) (BId (((List.getD s6 e.toNat 0).toNat:Int)=(10:Int)) (BId (((List.getD s6 e.toNat 0).toNat:Int)=(10:Int)) (K true c) (need (isPtr b) (need (isPtr b) (need (isPtr (Ao b 1)) (Ag (Ac c [] (.t (Ao (Ao b 1) 1)) 0) (fun (e0:TV)=>Af (.int .u8) e0 (fun (d7:Int)=>BId (((List.getD s6 e.toNat 0).toNat:Int)=d7) (need (isPtr b) (need (isPtr b) (Ag (Ac c [] (.t (Ao b 10)) 0) (fun (c0:TV)=>Af (.int .i64) c0 (fun (c6:Int)=>CallT PR Al [b,.int .i64 c6,.int .i64 3] [.one .bool] c (fun (b6:Bool) o=>K b6 o)))))) (need (isPtr b) (need (isPtr b) (Ag (Ac c [] (.t (Ao b 10)) 0) (fun (a4:TV)=>Af (.int .i64) a4 (fun (e1:Int)=>need (isPtr b) (need (isPtr b) (stB c (Ao b 10) [(.int .i64 (i64.wrap (e1+(1:Int))))] (fun g=>(I2 b g/\M2 b g<M2 b c)))))))))))))))) (BId (((List.getD s6 e.toNat 0).toNat:Int)=(13:Int)) (K true c) (need (isPtr b) (need (isPtr b) (need (isPtr (Ao b 1)) (Ag (Ac c [] (.t (Ao (Ao b 1) 1)) 0) (fun (c9:TV)=>Af (.int .u8) c9 (fun (c5:Int)=>BId (((List.getD s6 e.toNat 0).toNat:Int)=c5) (need (isPtr b) (need (isPtr b) (Ag (Ac c [] (.t (Ao b 10)) 0) (fun (s:TV)=>Af (.int .i64) s (fun (d5:Int)=>CallT PR Al [b,.int .i64 d5,.int .i64 3] [.one .bool] c (fun (b7:Bool) q=>K b7 q)))))) (need (isPtr b) (need (isPtr b) (Ag (Ac c [] (.t (Ao b 10)) 0) (fun (y:TV)=>Af (.int .i64) y (fun (d9:Int)=>need (isPtr b) (need (isPtr b) (stB c (Ao b 10) [(.int .i64 (i64.wrap (d9+(1:Int))))] (fun f=>(I2 b f/\M2 b f<M2 b c)))))))))))))))))))))))))))))))) (K true c)))))))))))))))):CallT PR B7 [(.box p 0)] [.one .bool] st K:=
 Ae (cfg:=⟨[],[],[]⟩) (h:=(.seq .none (.seq .none (.seq (.block (.loop ⟨[(0,.tv)],[],[],[]⟩ .none)) .none)))) mixed (fun _ _=>Tryz.call265 _ _) Tryz.func265 (by kernel_rfl) (by kernel_rfl) h
theorem Jm (kind:Int) (st:St) (K:Bool->St->Prop) (h:BId (kind=2) (K true st) (BId (kind=6) (K true st) (BId (kind=10) (K true st) (K ((decide (kind=11))) st)))):CallT PR Dr [.int .i64 kind] [.one .bool] st K:=
 Ae (cfg:=⟨[],[],[]⟩) (h:= .none) mixed (fun _ _=>Tryz.call295 _ _) Tryz.func295 (by kernel_rfl) (by kernel_rfl) h
theorem HM (p:Nat) (st:St) (K:Bool->St->Prop) (h:Ag (Ac st [] (.t (.box p 10)) 0) (fun (x1:TV)=>Af (.int .i64) x1 (fun (n1:Int)=>stB st (.box p 10) [(.int .i64 (i64.wrap (n1+(1:Int))))] (fun i=>∃(I1:TV->St->Prop) (M1:TV->St->Nat),(I1 ((.box p 0)) i)/\∀a b,I1 a b->(need (isPtr a) (need (isPtr a) (Ag (Ac b [] (.t (Ao a 10)) 0) (fun (x2:TV)=>Af (.int .i64) x2 (fun (n2:Int)=>need (isPtr a) (need (isPtr a) (Ag (Ac b [] (.t (Ao a 0)) 0) (fun (x3:TV)=>Af .str x3 (fun (s1:B8)=>BId (n2<(s1.length:Int)) (need (isPtr a) (need (isPtr a) (Ag (Ac b [] (.t (Ao a 0)) 0) (fun (x4:TV)=>Af .str x4 (fun (s2:B8)=>need (isPtr a) (need (isPtr a) (Ag (Ac b [] (.t (Ao a 10)) 0) (fun (x5:TV)=>Af (.int .i64) x5 (fun (n3:Int)=>((0<=n3/\n3<(s2.length:Int))/\need (isPtr a) (need (isPtr a) (need (isPtr (Ao a 1)) (Ag (Ac b [] (.t (Ao (Ao a 1) 1)) 0) (fun (x6:TV)=>Af (.int .u8) x6 (fun (n4:Int)=>BId (((List.getD s2 n3.toNat 0).toNat:Int)≠n4) (need (isPtr a) (need (isPtr a) (Ag (Ac b [] (.t (Ao a 10)) 0) (fun (x7:TV)=>Af (.int .i64) x7 (fun (n5:Int)=>need (isPtr a) (need (isPtr a) (stB b (Ao a 10) [(.int .i64 (i64.wrap (n5+(1:Int))))] (fun e=>(I1 a e/\M1 a e<M1 a b))))))))) (need (isPtr a) (need (isPtr a) (Ag (Ac b [] (.t (Ao a 10)) 0) (fun (x8:TV)=>Af (.int .i64) x8 (fun (n6:Int)=>need (isPtr a) (need (isPtr a) (stB b (Ao a 10) [(.int .i64 (i64.wrap (n6+(1:Int))))] (fun c=>need (isPtr a) (need (isPtr a) (Ag (Ac c [] (.t (Ao a 10)) 0) (fun (x9:TV)=>Af (.int .i64) x9 (fun (n7:Int)=>need (isPtr a) (need (isPtr a) (Ag (Ac c [] (.t (Ao a 0)) 0) (fun (j:TV)=>Af .str j (fun (s3:B8)=>BId (n7=(s3.length:Int)) (K true c) (need (isPtr a) (need (isPtr a) (Ag (Ac c [] (.t (Ao a 0)) 0) (fun (k:TV)=>Af .str k (fun (s4:B8)=>need (isPtr a) (need (isPtr a) (Ag (Ac c [] (.t (Ao a 10)) 0) (fun (g:TV)=>Af (.int .i64) g (fun (n8:Int)=>((0<=n8/\n8<(s4.length:Int))/\need (isPtr a) (need (isPtr a) (need (isPtr (Ao a 1)) (Ag (Ac c [] (.t (Ao (Ao a 1) 1)) 0) (fun (n:TV)=>Af (.int .u8) n (fun (n9:Int)=>BId (((List.getD s4 n8.toNat 0).toNat:Int)≠n9) (K true c) (need (isPtr a) (need (isPtr a) (Ag (Ac c [] (.t (Ao a 10)) 0) (fun (m:TV)=>Af (.int .i64) m (fun (l:Int)=>need (isPtr a) (need (isPtr a) (stB c (Ao a 10) [(.int .i64 (i64.wrap (l+(1:Int))))] (fun d=>(I1 a d/\M1 a d<M1 a b))))))))))))))))))))))))))))))))))))))))))))))))))))))) (need (isPtr a) (need (isPtr a) (Ag (Ac b [] (.t (Ao a 0)) 0) (fun (f:TV)=>Af .str f (fun (s5:B8)=>CallT PR Al [a,(.int .i64 (s5.length:Int)),.int .i64 4] [.one .bool] b (fun (b1:Bool) o=>K b1 o))))))))))))))))))):CallT PR CB [(.box p 0)] [.one .bool] st K:=
 Ae (cfg:=⟨[],[],[]⟩) (h:=(.seq .none (.seq (.seq .none (.block (.loop ⟨[(0,.tv)],[],[],[]⟩ .none))) .none))) mixed (fun _ _=>Tryz.call299 _ _) Tryz.func299 (by kernel_rfl) (by kernel_rfl) h
section
structure Sc where
 kind:Int
 b:Bool
 neg:Bool
 dg:B8
 ex:Int
 tk:Int
 td:Int
 tn:Int
 tz:Int
 text:B8
 bytes:B8
mutual
inductive Vl where
 | mk (s:Sc) (l:List Vl) (f:List Fd)
inductive Fd where
 | mk (k:B8) (v:Vl)
end
def Vl.sc:Vl->Sc | .mk s _ _=>s
def Vl.list:Vl->List Vl | .mk _ l _=>l
def Vl.flds:Vl->List Fd | .mk _ _ f=>f
def Fd.key:Fd->B8 | .mk k _=>k
def Fd.val:Fd->Vl | .mk _ v=>v
def SlR (st:St) (sz:Nat) (v:TV) (n:Nat) (xs:List TV):Prop:=
 Rd sz v n xs∨∃b off cap l,v= .ms sz b off n cap/\b<st.nb/\st.box b= .cells l/\off+cap*sz<=l.length/\n<=cap/\xs=(l.drop off).take (n*sz)
theorem SlR.of_rd {st:St} {sz n:Nat} {v:TV} {xs:List TV} (h:Rd sz v n xs):SlR st sz v n xs:= .inl h
def Ff (st st':St):Prop:=st.nb<=st'.nb/\∀b,b<st.nb->st'.box b=st.box b
theorem SlR.keep {st st':St} (k:Ff st st') {sz n:Nat} {v:TV} {xs:List TV} (h:SlR st sz v n xs):SlR st' sz v n xs:=by
 rcases h with h | ⟨b,off,cap,l,h1,h2,h3,h4,h5,h6⟩
 ·exact .inl h
 ·exact .inr ⟨b,off,cap,l,h1,Nat.lt_of_lt_of_le h2 k.1,(k.2 b h2).trans h3,h4,h5,h6⟩
mutual
def VlR (st:St):Vl->List TV->Prop
 | .mk s l f,cs=>∃ub ul uf xl xf,cs=[.int .i64 s.kind,.bool s.b,.bool s.neg,.str s.dg,.int .i64 s.ex,.int .i64 s.tk,.int .i64 s.td,.int .i64 s.tn,.int .i64 s.tz,.str s.text,ub,ul,uf]/\
   SlR st 1 ub s.bytes.length (AF s.bytes)/\SlR st 13 ul l.length xl/\VsR st l xl/\SlR st 14 uf f.length xf/\FsR st f xf
def VsR (st:St):List Vl->List TV->Prop
 | [],xs=>xs=[]
 | v::r,xs=>∃a b,xs=a++b/\VlR st v a/\VsR st r b
def FdR (st:St):Fd->List TV->Prop
 | .mk k v,xs=>∃cs,xs= .str k::cs/\VlR st v cs
def FsR (st:St):List Fd->List TV->Prop
 | [],xs=>xs=[]
 | d::r,xs=>∃a b,xs=a++b/\FdR st d a/\FsR st r b
end
theorem VlR.len {st:St} {v:Vl} {cs:List TV} (h:VlR st v cs):cs.length=13:=by
 cases v;unfold VlR at h;obtain⟨ub,ul,uf,xl,xf,rfl,_⟩:=h;rfl
theorem FdR.len {st:St} {v:Fd} {cs:List TV} (h:FdR st v cs):cs.length=14:=by
 cases v;unfold FdR at h;obtain⟨c,rfl,h⟩:=h;simp[h.len]
theorem VsR.len {st:St}:∀{l:List Vl} {xs:List TV},VsR st l xs->xs.length=l.length*13
 | [],xs,h=>by unfold VsR at h;subst h;rfl
 | v::r,xs,h=>by
  unfold VsR at h
  obtain⟨a,b,rfl,h1,h2⟩:=h
  rw[List.length_append,h1.len,VsR.len h2,List.length_cons];omega
theorem FsR.len {st:St}:∀{l:List Fd} {xs:List TV},FsR st l xs->xs.length=l.length*14
 | [],xs,h=>by unfold FsR at h;subst h;rfl
 | v::r,xs,h=>by
  unfold FsR at h
  obtain⟨a,b,rfl,h1,h2⟩:=h
  rw[List.length_append,h1.len,FsR.len h2,List.length_cons];omega
theorem VsR.get {st:St}:∀{l:List Vl} {xs:List TV} {i:Nat} {v:Vl},VsR st l xs->l[i]? =some v->∃cs,VlR st v cs/\(xs.drop (i*13)).take 13=cs/\cs.length=13
 | [],xs,i,v,h,hi=>by simp at hi
 | w::r,xs,i,v,h,hi=>by
  unfold VsR at h
  obtain⟨a,b,rfl,h1,h2⟩:=h
  cases i with
  | zero=>
   simp only[List.getElem?_cons_zero,Option.some.injEq]at hi
   subst hi
   refine⟨a,h1,?_,h1.len⟩
   rw[Nat.zero_mul,List.drop_zero,<-h1.len,List.take_left]
  | succ i=>
   obtain⟨cs,h3,h4,h5⟩:=VsR.get h2 (by simpa using hi)
   refine⟨cs,h3,?_,h5⟩
   rw[show(i+1)*13=a.length+i*13 by rw[h1.len];omega,List.drop_append]
   simp only[Nat.add_sub_cancel_left]
   rw[List.drop_of_length_le (by omega),List.nil_append];exact h4
theorem FsR.get {st:St}:∀{l:List Fd} {xs:List TV} {i:Nat} {v:Fd},FsR st l xs->l[i]? =some v->∃cs,FdR st v cs/\(xs.drop (i*14)).take 14=cs/\cs.length=14
 | [],xs,i,v,h,hi=>by simp at hi
 | w::r,xs,i,v,h,hi=>by
  unfold FsR at h
  obtain⟨a,b,rfl,h1,h2⟩:=h
  cases i with
  | zero=>
   simp only[List.getElem?_cons_zero,Option.some.injEq]at hi
   subst hi
   refine⟨a,h1,?_,h1.len⟩
   rw[Nat.zero_mul,List.drop_zero,<-h1.len,List.take_left]
  | succ i=>
   obtain⟨cs,h3,h4,h5⟩:=FsR.get h2 (by simpa using hi)
   refine⟨cs,h3,?_,h5⟩
   rw[show(i+1)*14=a.length+i*14 by rw[h1.len];omega,List.drop_append]
   simp only[Nat.add_sub_cancel_left]
   rw[List.drop_of_length_le (by omega),List.nil_append];exact h4
end
structure StX (S:Nat->Prop) (a b:St):Prop where
 nb:a.nb<=b.nb
 box:∀i,i<a.nb->¬S i->b.box i=a.box i
 nt:a.nt<=b.nt
 live:∀i,i<a.nt->b.live i=a.live i
 ty:∀i,i<a.nt->b.ty i=a.ty i
 bt:∀i,i<a.nb->b.bt i=a.bt i
theorem StX.refl (S:Nat->Prop) (a:St):StX S a a:=⟨Nat.le_refl _,fun _ _ _=>rfl,Nat.le_refl _,fun _ _=>rfl,fun _ _=>rfl,fun _ _=>rfl⟩
theorem StX.trans {S:Nat->Prop} {a b c:St} (h:StX S a b) (k:StX S b c):StX S a c:=
 ⟨Nat.le_trans h.nb k.nb,fun i hi hs=>(k.box i (Nat.lt_of_lt_of_le hi h.nb) hs).trans (h.box i hi hs),Nat.le_trans h.nt k.nt,fun i hi=>(k.live i (Nat.lt_of_lt_of_le hi h.nt)).trans (h.live i hi),fun i hi=>(k.ty i (Nat.lt_of_lt_of_le hi h.nt)).trans (h.ty i hi),fun i hi=>(k.bt i (Nat.lt_of_lt_of_le hi h.nb)).trans (h.bt i hi)⟩
theorem StX.mono {S T:Nat->Prop} {a b:St} (h:StX S a b) (k:∀i,S i->T i):StX T a b:=
 ⟨h.nb,fun i hi hs=>h.box i hi fun g=>hs (k i g),h.nt,h.live,h.ty,h.bt⟩
theorem StX.of {S:Nat->Prop} {a b:St} (h:Aq a b):StX S a b:=⟨h.nb,fun i hi _=>h.box i hi,h.nt,h.live,h.ty,h.bt⟩
theorem StX.ext {S:Nat->Prop} {a b c:St} (h:Aq a b) (k:StX S b c) (hs:∀i,S i->a.nb<=i):Aq a c:=
 ⟨Nat.le_trans h.nb k.nb,fun i hi=>(k.box i (Nat.lt_of_lt_of_le hi h.nb) fun g=>absurd (hs i g) (by omega)).trans (h.box i hi),Nat.le_trans h.nt k.nt,fun i hi=>(k.live i (Nat.lt_of_lt_of_le hi h.nt)).trans (h.live i hi),fun i hi=>(k.ty i (Nat.lt_of_lt_of_le hi h.nt)).trans (h.ty i hi),fun i hi=>(k.bt i (Nat.lt_of_lt_of_le hi h.nb)).trans (h.bt i hi)⟩
theorem StX.put {S:Nat->Prop} {a:St} {i:Nat} (hi:S i) (o:Lb):StX S a (a.put i o):=
 ⟨Nat.le_refl _,fun j hj hs=>by simp only[St.put];rw[if_neg (by rintro rfl;exact hs hi)],Nat.le_refl _,fun _ _=>rfl,fun _ _=>rfl,fun _ _=>rfl⟩
theorem decA14 {k:B8} {n1:Int} {b1 b2:Bool} {s2:B8} {n2 n3 n4 n5 n6:Int} {s3:B8} {u1 u2 u3:TV} {f:Fun [.str,.int .i64,.bool,.bool,.str,.int .i64,.int .i64,.int .i64,.int .i64,.int .i64,.str,.tv,.tv,.tv] Prop} (h:f k n1 b1 b2 s2 n2 n3 n4 n5 n6 s3 u1 u2 u3):
  AT [.str,.int .i64,.bool,.bool,.str,.int .i64,.int .i64,.int .i64,.int .i64,.int .i64,.str,.tv,.tv,.tv] (.agg [.str k,.int .i64 n1,.bool b1,.bool b2,.str s2,.int .i64 n2,.int .i64 n3,.int .i64 n4,.int .i64 n5,.int .i64 n6,.str s3,u1,u2,u3]) f:=h
theorem Ot:∀(ys A c B:List TV),ys.length=c.length->setAll (A++c++B) A.length ys=A++ys++B
 | [],A,c,B,h=>by
  have:c=[]:=List.eq_nil_of_length_eq_zero (by simpa using h.symm)
  subst this;rfl
 | y::ys,A,[],B,h=>by simp at h
 | y::ys,A,x::c,B,h=>by
  rw[setAll]
  have e:(A++x::c++B).set A.length y=(A++[y])++c++B:=by simp
  rw[e]
  have:=Ot ys (A++[y]) c B (by simpa using h)
  rw[List.length_append]at this
  rw[show A.length+1=A.length+ [y].length from rfl,this]
  simp
theorem NN {st:St} {b:Nat} {B:List TV}:∀(c:List TV) (l:List TV) (j o:Nat),st.box b= .cells l->l.drop (o+j)=c++B->Aj st [] (.t (.box b o)) j c.length=some c
 | [],l,j,o,h,hd=>rfl
 | x::c,l,j,o,h,hd=>by
  have hx:l[o+j]? =some x:=by
   have:=congrArg (fun z:List TV=>z[0]?) hd
   simpa using this
  have hd2:l.drop (o+(j+1))=c++B:=by
   have:=congrArg (fun z:List TV=>z.drop 1) hd
   simpa [List.drop_drop,Nat.add_assoc]using this
  show(match Ac st [] (.t (.box b o)) j with | some x=>(Aj st [] (.t (.box b o)) (j+1) c.length).map (x::·) | none=>none)=_
  have:Ac st [] (.t (.box b o)) j=some x:=by simp only[Ac,h];exact hx
  rw[this]
  simp only
  rw[NN c l (j+1) o h hd2];rfl
theorem Bo {g:Ghost} {w:World} {l:B8} {v:Value} (h:Rel g w (.str l) v):v= .string ⟨l.toArray⟩:=by cases h;rfl
theorem SL {g:Ghost} {w:World} {k:IntKind} {n:Int} {v:Value} (h:Rel g w (.int k n) v):v= .int k n:=by cases h;rfl
theorem Xk {g:Ghost} {w:World} {x:TV} {vs:List Value} (h:AJ g w [x] vs):∃v,vs=[v]/\Rel g w x v:=by
 obtain⟨v,h1,h2⟩:=h.get? (i:=0) rfl
 have:=h.1
 cases vs with
 | nil=>simp at this
 | cons a r=>cases r with
  | nil=>simp at h1;subst h1;exact⟨_,rfl,h2⟩
  | cons b r=>simp at this
theorem Ox {g:Ghost} {w:World} {x y:TV} {vs:List Value} (h:AJ g w [x,y] vs):∃v u,vs=[v,u]/\Rel g w x v/\Rel g w y u:=by
 obtain⟨v,h1,h2⟩:=h.get? (i:=0) rfl
 obtain⟨u,h3,h4⟩:=h.get? (i:=1) rfl
 have:=h.1
 cases vs with
 | nil=>simp at this
 | cons a r=>cases r with
  | nil=>simp at this
  | cons b r=>cases r with
   | nil=>simp at h1 h3;subst h1 h3;exact⟨_,_,rfl,h2,h4⟩
   | cons c r=>simp at this
section
inductive TE {α β:Type} (R:α->β->Prop):List α->List β->Prop
 | nil:TE R [] []
 | cons {a:α} {b:β} {l:List α} {m:List β}:R a b->TE R l m->TE R (a::l) (b::m)
theorem FsR.chunks {st:St}:∀{f:List Fd} {xs:List TV},FsR st f xs->∃cks:List (List TV),xs=cks.flatten/\TE (FdR st) f cks
 | [],xs,h=>by unfold FsR at h;subst h;exact⟨[],rfl,.nil⟩
 | d::r,xs,h=>by
  unfold FsR at h
  obtain⟨a,b,rfl,h1,h2⟩:=h
  obtain⟨cks,rfl,h3⟩:=FsR.chunks h2
  exact⟨a::cks,by simp,.cons h1 h3⟩
theorem FsR.of_chunks {st:St} {f:List Fd} {cks:List (List TV)} (h:TE (FdR st) f cks):FsR st f cks.flatten:=by
 induction h with
 | nil=>unfold FsR;rfl
 | cons r _ ih=>unfold FsR;exact⟨_,_,by simp,r,ih⟩
theorem SlR.one {st:St} {sz n:Nat} {u:TV} {xs:List TV} (h:SlR st sz u n xs):Ap u=true:=by
 rcases h with(⟨rfl,_⟩ | ⟨tip,rfl⟩) | ⟨b,off,cap,l,rfl,_⟩<;>rfl
theorem Aq.keeps {a b:St} (h:Aq a b):Ff a b:=⟨h.nb,h.box⟩
section
variable {st:St}
end
end
def GR (st:St) (sz:Nat) (u:TV) (n:Nat) (xs:List TV) (bs:List Nat):Prop:=
 (n=0/\xs=[]/\bs=[]/\(u= .nilSlice∨u= .list sz .full 0 []))∨∃b cap tail,u= .ms sz b 0 n cap/\b<st.nb/\st.box b= .cells (xs++tail)/\(xs++tail).length=cap*sz/\xs.length=n*sz/\n<=cap/\bs=[b]
theorem GR.rd {st:St} {sz n:Nat} {u:TV} {xs:List TV} {bs:List Nat} (h:GR st sz u n xs bs):SlR st sz u n xs:=by
 rcases h with⟨rfl,rfl,rfl,rfl | rfl⟩ | ⟨b,cap,tail,rfl,h1,h2,h3,h4,h5,rfl⟩
 ·exact .inl (.inl ⟨rfl,rfl,rfl⟩)
 ·exact .inl (.inr ⟨_,rfl⟩)
 ·exact .inr ⟨b,0,cap,_,rfl,h1,h2,by omega,h5,by rw[List.drop_zero,<-h4,List.take_left]⟩
theorem TQ (xs ys tail:List TV) (h:ys.length<=tail.length):setAll (xs++tail) xs.length ys=xs++ys++tail.drop ys.length:=by
 have e:tail=tail.take ys.length++tail.drop ys.length:=(List.take_append_drop _ _).symm
 have:=Ot ys xs (tail.take ys.length) (tail.drop ys.length) (by simp;omega)
 rw[List.append_assoc,List.take_append_drop]at this
 exact this
theorem QL {T sz bytes:Nat} {st:St} {u:TV} {n k:Nat} {xs ys:List TV} {bs:List Nat} {K:TV->St->Prop} (h:GR st sz u n xs bs) (hk1:0<k) (hy:ys.length=k*sz) (hby:(n+k)*bytes<=140737488355328)
  (hK:∀u' st' bs',GR st' sz u' (n+k) (xs++ys) bs'->StX (·∈bs) st st'->((bs'=bs/\bs≠ [])∨bs'=[st.nb])->K u' st'):MV T sz bytes u k ys st K:=by
 obtain⟨m,rfl⟩:∃m,k=m+1:=⟨k-1,by omega⟩
 have fresh:∀(zs:List TV) (N cap:Nat),zs.length=N*sz->N<=cap->GR (st.push (.cells (zs++GG ((cap-N)*sz))) (some T)) sz (.ms sz st.nb 0 N cap) N zs [st.nb]:=fun zs N cap h1 h2=>
  .inr ⟨st.nb,cap,GG ((cap-N)*sz),rfl,by simp[St.push],by simp[St.push],by rw[List.length_append,h1];simp only[GG,List.length_replicate];rw[<-Nat.add_mul];congr 1;omega,h1,h2,rfl⟩
 rcases h with⟨rfl,rfl,rfl,rfl | rfl⟩ | ⟨b,cap,tail,rfl,h1,h2,h3,h4,h5,rfl⟩
 ·simp only[MV,Au]
  refine⟨by simpa using hby,fun cap hc=>hK _ _ [st.nb] ?_ (StX.of ((Aq.refl st).push _ _)) (.inr rfl)⟩
  have:=fresh ys (m+1) cap hy hc
  simpa using this
 ·simp only[MV,Nat.beq_refl]
  refine⟨hby,fun cap hc=>hK _ _ [st.nb] ?_ (StX.of ((Aq.refl st).push _ _)) (.inr rfl)⟩
  have:=fresh ys (0+(m+1)) cap (by rw[hy];congr 1;omega) hc
  simpa using this
 ·simp only[MV,Nat.beq_refl]
  rw[List.length_append]at h3
  refine⟨hby,_,h2,by rw[List.length_append];omega,fun hc=>?_,fun hc cap' hc'=>?_⟩
  ·have hmul:(n+(m+1))*sz<=cap*sz:=Nat.mul_le_mul_right _ hc
   rw[Nat.add_mul]at hmul
   rw[Nat.zero_add,<-h4,TQ xs ys tail (by omega)]
   refine hK _ _ [b] (.inr ⟨b,cap,tail.drop ys.length,rfl,h1,by simp[St.put],by simp only[List.length_append,List.length_drop];omega,by rw[List.length_append,h4,hy,<-Nat.add_mul],hc,rfl⟩) (StX.put (S:=(·∈ [b])) (.head _) _) (.inl ⟨rfl,by simp⟩)
  ·rw[List.drop_zero,<-h4,List.take_left]
   exact hK _ _ [st.nb] (fresh (xs++ys) (n+(m+1)) cap' (by rw[List.length_append,h4,hy,<-Nat.add_mul]) hc') (StX.of ((Aq.refl st).push _ _)) (.inr rfl)
section
mutual
def Vl.sz:Vl->Nat
 | .mk s l f=>1+s.bytes.length+s.text.length+s.dg.length+D2 l+Fk f
def D2:List Vl->Nat
 | []=>0
 | v::r=>v.sz+D2 r
def Fd.sz:Fd->Nat
 | .mk k v=>k.length+v.sz
def Fk:List Fd->Nat
 | []=>0
 | d::r=>d.sz+Fk r
end
theorem Vl.sz_pos (v:Vl):1<=v.sz:=by cases v;unfold Vl.sz;omega
theorem I8:∀l:List Vl,l.length<=D2 l
 | []=>Nat.le_refl _
 | v::r=>by have:=I8 r;have:=v.sz_pos;unfold D2;simp only[List.length_cons];omega
theorem Fa:∀l:List Fd,l.length<=Fk l
 | []=>Nat.le_refl _
 | .mk k v::r=>by have:=Fa r;have:=v.sz_pos;unfold Fk Fd.sz;simp only[List.length_cons];omega
theorem NZ:∀{l:List Vl} {i:Nat} {v:Vl},l[i]? =some v->v.sz<=D2 l
 | [],i,v,h=>by simp at h
 | w::r,0,v,h=>by simp at h;subst h;unfold D2;omega
 | w::r,i+1,v,h=>by have:=NZ (by simpa using h:r[i]? =some v);unfold D2;omega
theorem OU:∀{l:List Fd} {i:Nat} {d:Fd},l[i]? =some d->d.sz<=Fk l
 | [],i,v,h=>by simp at h
 | w::r,0,v,h=>by simp at h;subst h;unfold Fk;omega
 | w::r,i+1,v,h=>by have:=OU (by simpa using h:r[i]? =some v);unfold Fk;omega
theorem OM {st:St} {ys:List TV}:∀(k j:Nat),j+k<=ys.length->Aj st [] (.t (.rptr ys)) j k=some ((ys.drop j).take k)
 | 0,j,h=>by simp[Aj]
 | k+1,j,h=>by
  show(match Ac st [] (.t (.rptr ys)) j with | some x=>(Aj st [] (.t (.rptr ys)) (j+1) k).map (x::·) | none=>none)=_
  have hj:j<ys.length:=by omega
  have:Ac st [] (.t (.rptr ys)) j=some ys[j]:=by simp[Ac,hj]
  rw[this]
  simp only
  rw[OM k (j+1) (by omega),List.drop_eq_getElem_cons hj]
  rfl
theorem SlR.ldc {st:St} {sz n i:Nat} {u:TV} {xs:List TV} (h:SlR st sz u n xs) (hl:xs.length=n*sz) (hi:i<n):Aj st [] (.t (ixT sz u i)) 0 sz=some ((xs.drop (i*sz)).take sz):=by
 have hm:(i+1)*sz<=n*sz:=Nat.mul_le_mul_right _ hi
 rw[Nat.add_mul,Nat.one_mul]at hm
 rcases h with(⟨rfl,rfl,rfl⟩ | ⟨tip,rfl⟩) | ⟨b,off,cap,l,rfl,h2,h3,h4,h5,rfl⟩
 ·omega
 ·show Aj st [] (.t (.rptr (xs.drop (i*sz)))) 0 sz=_
  rw[OM sz 0 (by rw[List.length_drop];omega),List.drop_zero]
 ·have hc:n*sz<=cap*sz:=Nat.mul_le_mul_right _ h5
  have e1:(((l.drop off).take (n*sz)).drop (i*sz)).take sz=(l.drop (off+i*sz)).take sz:=by
   rw[List.drop_take,List.drop_drop,List.take_take,Nat.min_eq_left (by omega)]
  rw[e1]
  have e:=NN (B:=l.drop (off+i*sz+sz)) (st:=st) (b:=b) ((l.drop (off+i*sz)).take sz) l 0 (off+i*sz) h3 (by
   have:=List.take_append_drop sz (l.drop (off+i*sz))
   rw[List.drop_drop]at this
   rw[Nat.add_zero];exact this.symm)
  rw[show((l.drop (off+i*sz)).take sz).length=sz by simp;omega]at e
  exact e
theorem SlR.lenZ {st:St} {sz n:Nat} {u:TV} {xs:List TV} (h:SlR st sz u n xs):TVF.lenZ sz u=n:=by
 rcases h with(⟨rfl,rfl,rfl⟩ | ⟨tip,rfl⟩) | ⟨b,off,cap,l,rfl,h2,h3,h4,h5,rfl⟩
 ·rfl
 ·simp[TVF.lenZ]
 ·simp[TVF.lenZ]
theorem SlR.lenS {st:St} {sz n:Nat} {u:TV} {xs:List TV} (h:SlR st sz u n xs):TVF.lenS u=n:=by
 rcases h with(⟨rfl,rfl,rfl⟩ | ⟨tip,rfl⟩) | ⟨b,off,cap,l,rfl,h2,h3,h4,h5,rfl⟩<;>rfl
theorem SlR.isSl {st:St} {sz n:Nat} {u:TV} {xs:List TV} (h:SlR st sz u n xs):TVF.isSl u=true:=by
 rcases h with(⟨rfl,rfl,rfl⟩ | ⟨tip,rfl⟩) | ⟨b,off,cap,l,rfl,h2,h3,h4,h5,rfl⟩<;>rfl
theorem GR.nil (st:St) (sz:Nat):GR st sz .nilSlice 0 [] []:= .inl ⟨rfl,rfl,rfl,.inl rfl⟩
theorem Ym {n1:Int} {b1 b2:Bool} {s2:B8} {n2 n3 n4 n5 n6:Int} {s3:B8} {u1 u2 u3:TV} {f:Fun [.int .i64,.bool,.bool,.str,.int .i64,.int .i64,.int .i64,.int .i64,.int .i64,.str,.tv,.tv,.tv] Prop} (h:f n1 b1 b2 s2 n2 n3 n4 n5 n6 s3 u1 u2 u3):
  AT [.int .i64,.bool,.bool,.str,.int .i64,.int .i64,.int .i64,.int .i64,.int .i64,.str,.tv,.tv,.tv] (.agg [.int .i64 n1,.bool b1,.bool b2,.str s2,.int .i64 n2,.int .i64 n3,.int .i64 n4,.int .i64 n5,.int .i64 n6,.str s3,u1,u2,u3]) f:=h
theorem BK {n1:Int} {b1 b2:Bool} {s2:B8} {n2 n3 n4 n5 n6:Int} {s3:B8} {u1 u2 u3:TV} (h1:Ap u1=true) (h2:Ap u2=true) (h3:Ap u3=true):
  List.all [.int .i64 n1,.bool b1,.bool b2,.str s2,.int .i64 n2,.int .i64 n3,.int .i64 n4,.int .i64 n5,.int .i64 n6,.str s3,u1,u2,u3] Ap=true:=by
 simp only[List.all_cons,List.all_nil,h1,h2,h3,Bool.and_true];rfl
end
theorem one14 {k:B8} {n1:Int} {b1 b2:Bool} {s2:B8} {n2 n3 n4 n5 n6:Int} {s3:B8} {u1 u2 u3:TV} (h1:Ap u1=true) (h2:Ap u2=true) (h3:Ap u3=true):
  List.all [.str k,.int .i64 n1,.bool b1,.bool b2,.str s2,.int .i64 n2,.int .i64 n3,.int .i64 n4,.int .i64 n5,.int .i64 n6,.str s3,u1,u2,u3] Ap=true:=by
 simp only[List.all_cons,List.all_nil,h1,h2,h3,Bool.and_true];rfl
def A7 (s:Sc) (ub ul uf:TV):List TV:=[.int .i64 s.kind,.bool s.b,.bool s.neg,.str s.dg,.int .i64 s.ex,.int .i64 s.tk,.int .i64 s.td,.int .i64 s.tn,.int .i64 s.tz,.str s.text,ub,ul,uf]
theorem TE.snoc {α β:Type} {R:α->β->Prop} {a:α} {b:β} {l:List α} {m:List β} (h:TE R l m) (r:R a b):TE R (l++[a]) (m++[b]):=by
 induction h with
 | nil=>exact .cons r .nil
 | cons r' _ ih=>exact .cons r' ih
theorem R8 {l:List Vl} {v:Vl} (h:v∈l):v.sz<=D2 l:=by
 obtain⟨i,hi⟩:=List.getElem?_of_mem h
 exact NZ hi
theorem Te {l:List Fd} {v:Fd} (h:v∈l):v.sz<=Fk l:=by
 obtain⟨i,hi⟩:=List.getElem?_of_mem h
 exact OU hi
theorem natB_lt (n:Nat) (h:n<256):n.toUInt8.toNat=n:=by simp;omega
theorem el13 {st0 st:St} {ul:TV} {xl:List TV} {l:List Vl} (hke:Ff st0 st) (h2:SlR st0 13 ul l.length xl) (h3:VsR st0 l xl) {i:Int} {k:Nat} (hi:i=k) (hk:k<l.length) {f:Fun [.int .i64,.bool,.bool,.str,.int .i64,.int .i64,.int .i64,.int .i64,.int .i64,.str,.tv,.tv,.tv] Prop}
  (hf:∀s' l' f' ub1 ul1 uf1,l[k]? =some (.mk s' l' f')->VlR st0 (.mk s' l' f') (A7 s' ub1 ul1 uf1)->List.all (A7 s' ub1 ul1 uf1) Ap=true->f s'.kind s'.b s'.neg s'.dg s'.ex s'.tk s'.td s'.tn s'.tz s'.text ub1 ul1 uf1):
  (0<=i/\i<(lenZ 13 ul:Int))/\Ag ((Aj st [] (.t (ixT 13 ul (Int.toNat i))) 0 13).map TV.agg) fun x=>AT [.int .i64,.bool,.bool,.str,.int .i64,.int .i64,.int .i64,.int .i64,.int .i64,.str,.tv,.tv,.tv] x f:=by
 subst hi
 have gw:l[k]? =some l[k]:=List.getElem?_eq_getElem hk
 obtain⟨cw,hw,hcw,hcl⟩:=h3.get gw
 rw[h2.lenZ,Int.toNat_natCast,(h2.keep hke).ldc h3.len hk,hcw]
 generalize l[k]=w at*
 cases w with
 | mk s' l' f'=>
 have hw0:=hw
 unfold VlR at hw0
 obtain⟨ub',ul',uf',xl',xf',rfl,w1,w2,w3,w4,w5⟩:=hw0
 exact⟨⟨by omega,by omega⟩,Ad rfl (Ym (hf s' l' f' ub' ul' uf' gw hw (BK w1.one w2.one w4.one)))⟩
theorem el14 {st0 st:St} {uf:TV} {xf:List TV} {l:List Fd} (hke:Ff st0 st) (h2:SlR st0 14 uf l.length xf) (h3:FsR st0 l xf) {i:Int} {k:Nat} (hi:i=k) (hk:k<l.length) {f:Fun [.str,.int .i64,.bool,.bool,.str,.int .i64,.int .i64,.int .i64,.int .i64,.int .i64,.str,.tv,.tv,.tv] Prop}
  (hf:∀key s' l' f' ub1 ul1 uf1,l[k]? =some (.mk key (.mk s' l' f'))->VlR st0 (.mk s' l' f') (A7 s' ub1 ul1 uf1)->List.all (.str key::A7 s' ub1 ul1 uf1) Ap=true->f key s'.kind s'.b s'.neg s'.dg s'.ex s'.tk s'.td s'.tn s'.tz s'.text ub1 ul1 uf1):
  (0<=i/\i<(lenZ 14 uf:Int))/\Ag ((Aj st [] (.t (ixT 14 uf (Int.toNat i))) 0 14).map TV.agg) fun x=>AT [.str,.int .i64,.bool,.bool,.str,.int .i64,.int .i64,.int .i64,.int .i64,.int .i64,.str,.tv,.tv,.tv] x f:=by
 subst hi
 have gw:l[k]? =some l[k]:=List.getElem?_eq_getElem hk
 obtain⟨cw,hw,hcw,hcl⟩:=h3.get gw
 rw[h2.lenZ,Int.toNat_natCast,(h2.keep hke).ldc h3.len hk,hcw]
 generalize l[k]=w at*
 cases w with
 | mk key w=>
 cases w with
 | mk s' l' f'=>
 have hw0:=hw
 unfold FdR at hw0
 obtain⟨cw2,rfl,hw1⟩:=hw0
 have hw2:=hw1
 unfold VlR at hw2
 obtain⟨ub',ul',uf',xl',xf',rfl,w1,w2,w3,w4,w5⟩:=hw2
 exact⟨⟨by omega,by omega⟩,Ad rfl (decA14 (hf key s' l' f' ub' ul' uf' gw hw1 (one14 w1.one w2.one w4.one)))⟩
theorem Uu {α:Type} {l:List α} {k:Nat} {v:α} (h:l[k]? =some v):v∈l:=by
 obtain⟨q1,q2⟩:=List.getElem?_eq_some_iff.1 h
 rw[<-q2];exact List.getElem_mem q1
end Go.TVF
section
namespace Go.TVF
open Go.IntKind(i64 u8)
open Go
theorem or_i64 (x y:Nat) (hx:x<2^63) (hy:y<2^63):AM .or .i64 (x:Int) (y:Int)=((x ||| y:Nat):Int):=by
 have h:x ||| y<2^63:=Nat.or_lt_two_pow hx hy
 show IntKind.wrap .i64 ((BitVec.ofInt 64 (x:Int) ||| BitVec.ofInt 64 (y:Int)).toNat:Int)=_
 simp only[BitVec.ofInt_natCast,BitVec.toNat_or,BitVec.toNat_ofNat]
 rw[Nat.mod_eq_of_lt (by omega),Nat.mod_eq_of_lt (by omega),Ah _ (by omega) (by omega)]
theorem and_i64 (x y:Nat) (hx:x<2^63) (hy:y<2^63):AM .and .i64 (x:Int) (y:Int)=((x&&&y:Nat):Int):=by
 have h:x&&&y<2^63:=Nat.and_lt_two_pow _ hy
 show IntKind.wrap .i64 ((BitVec.ofInt 64 (x:Int)&&&BitVec.ofInt 64 (y:Int)).toNat:Int)=_
 simp only[BitVec.ofInt_natCast,BitVec.toNat_and,BitVec.toNat_ofNat]
 rw[Nat.mod_eq_of_lt (by omega),Nat.mod_eq_of_lt (by omega),Ah _ (by omega) (by omega)]
theorem YF (x y:Nat) (hx:x<2^8) (hy:y<2^8):AM .and .u8 (x:Int) (y:Int)=((x&&&y:Nat):Int):=by
 have h:x&&&y<2^8:=Nat.and_lt_two_pow _ hy
 show IntKind.wrap .u8 ((BitVec.ofInt 8 (x:Int)&&&BitVec.ofInt 8 (y:Int)).toNat:Int)=_
 simp only[BitVec.ofInt_natCast,BitVec.toNat_and,BitVec.toNat_ofNat]
 rw[Nat.mod_eq_of_lt (by omega),Nat.mod_eq_of_lt (by omega),LZ _ (by omega) (by omega)]
theorem Ul (a b m:Nat) (hb:b<2^m) (h:a*2^m+b<2^63):AM .or .i64 ((a*2^m:Nat):Int) (b:Int)=((a*2^m+b:Nat):Int):=by
 have hb':b<2^63:=by omega
 rw[or_i64 _ _ (by omega) hb',Nat.mul_comm a,Nat.two_pow_add_eq_or_of_lt hb]
theorem JQ (a m:Nat) (ha:a<2^63) (hm:m<63):AM .and .i64 (a:Int) ((2^m-1:Nat):Int)=((a%2^m:Nat):Int):=by
 have:2^m<2^63:=Nat.pow_lt_pow_right (by decide) hm
 rw[and_i64 _ _ ha (by omega),Nat.and_two_pow_sub_one_eq_mod]
theorem W0 (n:Nat) (h:n<=255):IntKind.wrap .i64 (n:Int)=n:=Ah _ (by omega) (by omega)
theorem EN {α:Type} (l:List α) (i:Nat) (d:α) (h:i<l.length):l.take (i+1)=l.take i++[l.getD i d]:=by
 rw[List.take_add_one,List.getElem?_eq_getElem h,List.getD,List.getElem?_eq_getElem h];rfl
theorem shr_i64 (x m:Nat) (h:m<=64):Int.fdiv (x:Int) (2^(min m (IntKind.bits .i64)))=((x/2^m:Nat):Int):=by
 rw[show min m (IntKind.bits .i64)=m from Nat.min_eq_left h,show(2:Int)^m=((2^m:Nat):Int) by simp,Int.fdiv_eq_ediv_of_nonneg _ (Int.natCast_nonneg _)]
 rfl
theorem Hx {α:Type} (l:List α) (i j:Nat) (d:α):(l.drop i).getD j d=l.getD (i+j) d:=by
 simp[List.getD,List.getElem?_drop]
theorem QA {α:Type} (l:List α) (i:Nat) (d:α) (h:i<l.length):l.drop i=l.getD i d::l.drop (i+1):=by
 rw[List.drop_eq_getElem_cons h,List.getD,List.getElem?_eq_getElem h];rfl
theorem EU {α:Type} (l:List α) (i j:Nat):(l.take j).drop i=(l.drop i).take (j-i):=by
 rw[List.drop_take]
def bt (l:B8) (i:Nat):Nat:=(l.getD i 0).toNat
theorem FA (l:B8) (i:Nat):bt l i<256:=(l.getD i 0).toNat_lt
theorem GP (l:B8) (i j:Nat):bt (l.drop i) j=bt l (i+j):=by simp[bt,Hx]
def dN (l:B8):Nat×Nat:=Lib.decodeN l.length (bt l 0) (bt l 1) (bt l 2) (bt l 3)
def ul (l:B8):Nat:=if l=[]∨dN l=(65533,1)then 0 else(dN l).2
def ur (l:B8):Nat:=(dN l).1
def A0 (r:Nat):Prop:=r<=1114111/\(r<55296∨57343<r)
instance (r:Nat):Decidable (A0 r):=by unfold A0;infer_instance
def FR (r:Nat):B8:=
 if r<128 then [UInt8.ofNat r]else if r<2048 then [UInt8.ofNat (192+r/64),UInt8.ofNat (128+r%64)]
 else if r<65536 then [UInt8.ofNat (224+r/4096),UInt8.ofNat (128+r/64%64),UInt8.ofNat (128+r%64)]
 else [UInt8.ofNat (240+r/262144),UInt8.ofNat (128+r/4096%64),UInt8.ofNat (128+r/64%64),UInt8.ofNat (128+r%64)]
theorem Di (n:Nat) (c:UInt8):UInt8.ofNat n=c↔n%256=c.toNat:=by
 rw[<-UInt8.toNat_inj];simp
theorem Lq (l:B8) (h:1<=l.length):l.take 1=[l.getD 0 0]:=by
 rw[EN l 0 0 (by omega)];rfl
theorem Lp (l:B8) (h:2<=l.length):l.take 2=[l.getD 0 0,l.getD 1 0]:=by
 rw[EN l 1 0 (by omega),Lq l (by omega)];rfl
theorem H2 (l:B8) (h:3<=l.length):l.take 3=[l.getD 0 0,l.getD 1 0,l.getD 2 0]:=by
 rw[EN l 2 0 (by omega),Lp l (by omega)];rfl
theorem Mi (l:B8) (h:4<=l.length):l.take 4=[l.getD 0 0,l.getD 1 0,l.getD 2 0,l.getD 3 0]:=by
 rw[EN l 3 0 (by omega),H2 l (by omega)];rfl
def rsz (b0:Nat):Nat:=if 240<=b0 then 4 else if 224<=b0 then 3 else if 192<=b0 then 2 else 1
def rb0 (b0:Nat):Nat:=if 240<=b0 then b0%8 else if 224<=b0 then b0%16 else if 192<=b0 then b0%32 else b0
def Cn (l:B8) (r0:Nat):Nat->Nat
 | 0=>r0
 | j+1=>Cn l r0 j*64+bt l (j+1)%64
theorem Rn (l:B8) (r0:Nat) (h:r0<256):∀j,Cn l r0 j<256*64^j
 | 0=>by simpa [Cn]using h
 | j+1=>by
  have:=Rn l r0 h j
  have h2:=Nat.mod_lt (bt l (j+1)) (show 0<64 by omega)
  simp only[Cn,Nat.pow_succ]
  omega
theorem rb0_lt (b0:Nat) (h:b0<256):rb0 b0<256:=by
 unfold rb0
 repeat' split
 all_goals omega
theorem Re (b0:Nat):1<=rsz b0/\rsz b0<=4:=by
 unfold rsz
 repeat' split
 all_goals omega
def PJ (l:B8):Nat×Nat:=
 let size:=rsz (bt l 0)
 let r:=Cn l (rb0 (bt l 0)) (size-1)
 if l.length<size then(0,0)else if A0 r/\FR r=l.take size then(r,size)else(0,0)
theorem Dw {a b:UInt8} {x y:B8}:(a::x=b::y)↔a=b/\x=y:=by simp
set_option maxHeartbeats 4000000 in
theorem GC (l:B8) (h:l≠ []):PJ l=if ul l=0 then(0,0)else(ur l,ul l):=by
 have hl:1<=l.length:=by cases l with | nil=>exact absurd rfl h | cons a r=>simp
 have h0:=FA l 0
 have h1:=FA l 1
 have h2:=FA l 2
 have h3:=FA l 3
 have e0:(l.getD 0 0).toNat=bt l 0:=rfl
 have e1:(l.getD 1 0).toNat=bt l 1:=rfl
 have e2:(l.getD 2 0).toNat=bt l 2:=rfl
 have e3:(l.getD 3 0).toNat=bt l 3:=rfl
 have hul:ul l=if dN l=(65533,1)then 0 else(dN l).2:=by simp[ul,h]
 rw[hul,ur]
 unfold dN
 generalize hb0:bt l 0=b0 at*
 generalize hb1:bt l 1=b1 at*
 generalize hb2:bt l 2=b2 at*
 generalize hb3:bt l 3=b3 at*
 unfold PJ
 simp only[hb0]
 by_cases c4:240<=b0
 ·have r4:rsz b0=4:=by unfold rsz;rw[if_pos c4]
  have rb:rb0 b0=b0%8:=by unfold rb0;rw[if_pos c4]
  rw[r4,rb]
  simp only[Nat.reduceSub,Cn,hb1,hb2,hb3,Nat.zero_add,Nat.reduceAdd]
  by_cases hn:l.length<4
  ·rw[if_pos hn]
   have:Lib.decodeN l.length b0 b1 b2 b3=(65533,1):=by
    unfold Lib.decodeN
    rw[if_neg (by omega),if_neg (by omega),if_neg (by omega),if_neg (by omega)]
   rw[this];simp
  ·rw[if_neg hn]
   have hEnc:(A0 (((b0%8*64+b1%64)*64+b2%64)*64+b3%64)/\FR (((b0%8*64+b1%64)*64+b2%64)*64+b3%64)=l.take 4)↔(b0/8=30/\b1/64=2/\b2/64=2/\b3/64=2/\65536<=((b0%8*64+b1%64)*64+b2%64)*64+b3%64/\((b0%8*64+b1%64)*64+b2%64)*64+b3%64<=1114111):=by
    rw[Mi l (by omega)]
    generalize hr:((b0%8*64+b1%64)*64+b2%64)*64+b3%64=r
    unfold A0 FR
    by_cases k1:r<128
    ·rw[if_pos k1];simp;omega
    ·rw[if_neg k1]
     by_cases k2:r<2048
     ·rw[if_pos k2];simp;omega
     ·rw[if_neg k2]
      by_cases k3:r<65536
      ·rw[if_pos k3];simp;omega
      ·rw[if_neg k3]
       simp only[Dw,Di,e0,e1,e2,e3,and_true]
       omega
   by_cases hE:b0/8=30/\b1/64=2/\b2/64=2/\b3/64=2/\65536<=((b0%8*64+b1%64)*64+b2%64)*64+b3%64/\((b0%8*64+b1%64)*64+b2%64)*64+b3%64<=1114111
   ·rw[if_pos (hEnc.2 hE)]
    have:Lib.decodeN l.length b0 b1 b2 b3=(((b0%8*64+b1%64)*64+b2%64)*64+b3%64,4):=by
     unfold Lib.decodeN
     rw[if_neg (by omega),if_neg (by omega),if_neg (by omega),if_pos (by omega),if_pos (by omega)]
     simp only[Prod.mk.injEq,and_true];omega
    rw[this];simp
   ·rw[if_neg (fun hh=>hE (hEnc.1 hh))]
    have:Lib.decodeN l.length b0 b1 b2 b3=(65533,1):=by
     unfold Lib.decodeN
     rw[if_neg (by omega),if_neg (by omega),if_neg (by omega)]
     split
     ·rw[if_neg (by omega)]
     ·rfl
    rw[this];simp
 ·by_cases c3:224<=b0
  ·have r4:rsz b0=3:=by unfold rsz;rw[if_neg c4,if_pos c3]
   have rb:rb0 b0=b0%16:=by unfold rb0;rw[if_neg c4,if_pos c3]
   rw[r4,rb]
   simp only[Nat.reduceSub,Cn,hb1,hb2,Nat.zero_add,Nat.reduceAdd]
   by_cases hn:l.length<3
   ·rw[if_pos hn]
    have:Lib.decodeN l.length b0 b1 b2 b3=(65533,1):=by
     unfold Lib.decodeN
     rw[if_neg (by omega),if_neg (by omega),if_neg (by omega),if_neg (by omega)]
    rw[this];simp
   ·rw[if_neg hn]
    have hEnc:(A0 ((b0%16*64+b1%64)*64+b2%64)/\FR ((b0%16*64+b1%64)*64+b2%64)=l.take 3)↔(b1/64=2/\b2/64=2/\2048<=(b0%16*64+b1%64)*64+b2%64/\A0 ((b0%16*64+b1%64)*64+b2%64)):=by
     rw[H2 l (by omega)]
     generalize hr:(b0%16*64+b1%64)*64+b2%64=r
     unfold A0 FR
     by_cases k1:r<128
     ·rw[if_pos k1];simp;omega
     ·rw[if_neg k1]
      by_cases k2:r<2048
      ·rw[if_pos k2];simp;omega
      ·rw[if_neg k2]
       by_cases k3:r<65536
       ·rw[if_pos k3]
        simp only[Dw,Di,e0,e1,e2,and_true]
        omega
       ·omega
    by_cases hE:b1/64=2/\b2/64=2/\2048<=(b0%16*64+b1%64)*64+b2%64/\A0 ((b0%16*64+b1%64)*64+b2%64)
    ·rw[if_pos (hEnc.2 hE)]
     have:Lib.decodeN l.length b0 b1 b2 b3=((b0%16*64+b1%64)*64+b2%64,3):=by
      unfold A0 at hE
      unfold Lib.decodeN
      rw[if_neg (by omega),if_neg (by omega),if_pos (by omega),if_pos (by omega)]
      simp only[Prod.mk.injEq,and_true];omega
     rw[this];simp
    ·rw[if_neg (fun hh=>hE (hEnc.1 hh))]
     have:Lib.decodeN l.length b0 b1 b2 b3=(65533,1):=by
      unfold A0 at hE
      unfold Lib.decodeN
      rw[if_neg (by omega),if_neg (by omega)]
      split
      ·rw[if_neg (by omega)]
      ·rw[if_neg (by omega)]
     rw[this];simp
  ·by_cases c2:192<=b0
   ·have r4:rsz b0=2:=by unfold rsz;rw[if_neg c4,if_neg c3,if_pos c2]
    have rb:rb0 b0=b0%32:=by unfold rb0;rw[if_neg c4,if_neg c3,if_pos c2]
    rw[r4,rb]
    simp only[Nat.reduceSub,Cn,hb1,Nat.zero_add,Nat.reduceAdd]
    by_cases hn:l.length<2
    ·rw[if_pos hn]
     have:Lib.decodeN l.length b0 b1 b2 b3=(65533,1):=by
      unfold Lib.decodeN
      rw[if_neg (by omega),if_neg (by omega),if_neg (by omega),if_neg (by omega)]
     rw[this];simp
    ·rw[if_neg hn]
     have hEnc:(A0 (b0%32*64+b1%64)/\FR (b0%32*64+b1%64)=l.take 2)↔(b1/64=2/\128<=b0%32*64+b1%64):=by
      rw[Lp l (by omega)]
      generalize hr:b0%32*64+b1%64=r
      unfold A0 FR
      by_cases k1:r<128
      ·rw[if_pos k1];simp;omega
      ·rw[if_neg k1,if_pos (by omega)]
       simp only[Dw,Di,e0,e1,and_true]
       omega
     by_cases hE:b1/64=2/\128<=b0%32*64+b1%64
     ·rw[if_pos (hEnc.2 hE)]
      have:Lib.decodeN l.length b0 b1 b2 b3=(b0%32*64+b1%64,2):=by
       unfold Lib.decodeN
       rw[if_neg (by omega),if_pos (by omega),if_pos (by omega)]
      rw[this];simp
     ·rw[if_neg (fun hh=>hE (hEnc.1 hh))]
      have:Lib.decodeN l.length b0 b1 b2 b3=(65533,1):=by
       unfold Lib.decodeN
       rw[if_neg (by omega)]
       split
       ·rw[if_neg (by omega)]
       ·rw[if_neg (by omega),if_neg (by omega)]
      rw[this];simp
   ·have r4:rsz b0=1:=by unfold rsz;rw[if_neg c4,if_neg c3,if_neg c2]
    have rb:rb0 b0=b0:=by unfold rb0;rw[if_neg c4,if_neg c3,if_neg c2]
    rw[r4,rb]
    simp only[Nat.reduceSub,Cn]
    rw[if_neg (by omega),Lq l hl]
    have hEnc:(A0 b0/\FR b0=[l.getD 0 0])↔b0<128:=by
     unfold A0 FR
     by_cases k1:b0<128
     ·rw[if_pos k1];simp only[Dw,Di,e0,and_true];omega
     ·rw[if_neg k1,if_pos (by omega)];simp;omega
    by_cases hE:b0<128
    ·rw[if_pos (hEnc.2 hE)]
     have:Lib.decodeN l.length b0 b1 b2 b3=(b0,1):=by unfold Lib.decodeN;rw[if_pos hE]
     rw[this,if_neg (by simp;omega)]
     simp only[Prod.mk.injEq]
     rw[if_neg (by omega)]
     simp
    ·rw[if_neg (fun hh=>hE (hEnc.1 hh))]
     have:Lib.decodeN l.length b0 b1 b2 b3=(65533,1):=by
      unfold Lib.decodeN
      rw[if_neg (by omega),if_neg (by omega),if_neg (by omega),if_neg (by omega)]
     rw[this];simp
theorem Vr (l:B8) (h:ul l≠0):A0 (ur l)/\FR (ur l)=l.take (ul l)/\ul l<=l.length/\ul l<=4:=by
 have hne:l≠ []:=fun h0=>h (by simp[ul,h0])
 have e:=GC l hne
 rw[if_neg h]at e
 unfold PJ at e
 simp only at e
 split at e
 ·simp only[Prod.mk.injEq]at e;omega
 ·split at e
  ·rename_i hn hc
   simp only[Prod.mk.injEq]at e
   rw[<-e.1,<-e.2]
   exact⟨hc.1,hc.2,by omega,(Re _).2⟩
  ·simp only[Prod.mk.injEq]at e;omega
theorem Jr (l:B8):ul l<=l.length:=by
 by_cases h:ul l=0
 ·omega
 ·exact(Vr l h).2.2.1
theorem Oe (l:B8) (h:l≠ []) (hb:bt l 0<128):ul l=1/\ur l=bt l 0:=by
 have:dN l=(bt l 0,1):=by unfold dN Lib.decodeN;rw[if_pos hb]
 unfold ul ur
 rw[this,if_neg (by simp[h];omega)]
 exact⟨rfl,rfl⟩
theorem Q3 (l:B8) (h:l≠ []):ul l=0↔dN l=(65533,1):=by
 have hul:ul l=if dN l=(65533,1)then 0 else(dN l).2:=by simp[ul,h]
 rw[hul]
 constructor
 ·intro h0
  by_cases hd:dN l=(65533,1)
  ·exact hd
  ·rw[if_neg hd]at h0
   exfalso
   unfold dN Lib.decodeN at h0
   repeat' split at h0
   all_goals simp at h0
 ·intro h0;rw[if_pos h0]
theorem Yo (l:B8) (h:ul l≠0):dN l=(ur l,ul l):=by
 have hne:l≠ []:=fun h0=>h (by simp[ul,h0])
 have hul:ul l=if dN l=(65533,1)then 0 else(dN l).2:=by simp[ul,hne]
 have hd:dN l≠(65533,1):=fun hd=>h ((Q3 l hne).2 hd)
 rw[if_neg hd]at hul
 rw[hul];rfl
theorem ul_not (l:B8) (h:ul l≠0):¬(ur l=65533/\ul l=1):=by
 intro hh
 have hne:l≠ []:=fun h0=>h (by simp[ul,h0])
 have:=Yo l h
 rw[hh.1,hh.2]at this
 exact h ((Q3 l hne).2 this)
def AX (l:B8):Nat:=if h:ul l=0 then 0 else ul l+AX (l.drop (ul l))
termination_by l.length
decreasing_by
 have:=Jr l
 simp only[List.length_drop];omega
theorem BG (l:B8) (h:ul l=0):AX l=0:=by rw[AX,dif_pos h]
theorem BH (l:B8) (h:ul l≠0):AX l=ul l+AX (l.drop (ul l)):=by rw[AX,dif_neg h]
theorem Vo:∀(n:Nat) (l:B8),l.length<=n->AX l<=l.length
 | 0,l,h=>by
  have:l=[]:=List.eq_nil_of_length_eq_zero (by omega)
  subst this
  rw[BG _ (by simp[ul])];simp
 | n+1,l,h=>by
  by_cases h0:ul l=0
  ·rw[BG l h0];omega
  ·have h1:=Jr l
   have h2:=Vo n (l.drop (ul l)) (by simp only[List.length_drop];omega)
   rw[BH l h0]
   simp only[List.length_drop]at h2;omega
end Go.TVF
end
namespace Go.TVF
open Go.IntKind(i64 u8)
open Go Go.Proofs
section
def NE (n:Nat):B8:=if h:n=0 then []else NE (n/10)++[(48+n%10).toUInt8]
termination_by n
decreasing_by omega
theorem MD:NE 0=[]:=by unfold NE;rw[dif_pos rfl]
theorem Qk {n:Nat} (h:0<n):NE n=NE (n/10)++[(48+n%10).toUInt8]:=by
 rw[NE.eq_def,dif_neg (by omega)]
theorem OI:∀(k n:Nat),n<10^k->(NE n).length<=k
 | 0,n,h=>by rw[show n=0 by simpa using h,MD];simp
 | k+1,n,h=>by
  by_cases h0:n=0
  ·rw[h0,MD];simp
  ·rw[Qk (by omega),List.length_append]
   have:=OI k (n/10) (by rw[Nat.div_lt_iff_lt_mul (by omega)];rw[Nat.pow_succ]at h;exact h)
   simp only[List.length_cons,List.length_nil];omega
def whN (n:Nat):B8:=if n=0 then [48]else NE n
def expT (p:Int):B8:=101::(if p<1 then 45::whN (1-p).toNat else whN (p-1).toNat)
def dcT (neg:Bool) (dg:B8) (ex:Int):B8:=
 if dg=[]then [48]else(if neg then [45]else [])++
  (if 0<=ex/\dg.length+ex<=21 then dg++List.replicate ex.toNat 48
  else if ex<0/\1<=dg.length+ex/\dg.length+ex<=21 then dg.take (dg.length+ex).toNat++46::dg.drop (dg.length+ex).toNat
  else if-5<=dg.length+ex/\dg.length+ex<=0 then 48::46::(List.replicate (-(dg.length+ex)).toNat 48++dg)
  else dg.take 1++((if 1<dg.length then 46::dg.drop 1 else [])++expT (dg.length+ex)))
def Cj:Nat->Nat->B8
 | 0,_=>[]
 | w+1,n=>Cj w (n/10)++[(48+n%10).toUInt8]
theorem Bw:∀w n,(Cj w n).length=w
 | 0,_=>rfl
 | w+1,n=>by simp[Cj,Bw w]
def AS (c:UInt8):Prop:=48<=c.toNat/\c.toNat<=57
instance (c:UInt8):Decidable (AS c):=inferInstanceAs (Decidable (_/\_))
def Bu (l:B8):Nat:=(l.reverse.takeWhile (·==48)).length
def FD (neg:Bool) (dg:B8) (ex:Int):Prop:=
 (dg=[]->neg=false/\ex=0)/\(dg≠ []->dg.length<=120/\(∀c,c∈dg->AS c)/\dg.getD 0 0≠48/\Bu dg=0/\ -400<=ex/\ex<=400)
instance (neg:Bool) (dg:B8) (ex:Int):Decidable (FD neg dg ex):=inferInstanceAs (Decidable ((_->_)/\(_->_)))
def Ft (k d n z:Int):Prop:=
 1<=k/\k<=4/\0<=d/\d<=3652058/\0<=n/\n<=86399999999999/\ -1439<=z/\z<=1439/\(k=2->d=0)/\(k=1->n=0)/\(k≠4->z=0)
instance (k d n z:Int):Decidable (Ft k d n z):=inferInstanceAs (Decidable (_/\_/\_/\_/\_/\_/\_/\_/\(_->_)/\(_->_)/\(_->_)))
theorem VP (k:Nat) (h:k<10):(48+k).toUInt8.toNat=48+k:=by simp;omega
def LS (l:B8):B8:=(l.reverse.dropWhile (·==48)).reverse
theorem QF (l:B8) (c:UInt8):LS (l++[c])=if c=48 then LS l else l++[c]:=by
 unfold LS
 rw[List.reverse_append,List.reverse_singleton,List.singleton_append,List.dropWhile_cons]
 by_cases h:c=48
 ·rw[if_pos h,if_pos (by simp[h])]
 ·rw[if_neg h,if_neg (by simp[h])];simp
theorem Yq (l:B8):(LS l).length<=l.length:=by
 unfold LS
 rw[List.length_reverse]
 have:=(List.dropWhile_sublist (l:=l.reverse) (fun x:UInt8=>x==48)).length_le
 rw[List.length_reverse]at this;exact this
def RJ (n:Nat):B8:=Cj 2 (n/1000000000/3600)++58::(Cj 2 (n/1000000000/60%60)++58::(Cj 2 (n/1000000000%60)++(if n%1000000000=0 then []else 46::LS (Cj 9 (n%1000000000)))))
def Wy (z:Int):B8:=if z=0 then [90]else(if z<0 then 45 else 43)::(Cj 2 (z.natAbs/60)++58::Cj 2 (z.natAbs%60))
def Nb (y:Nat):Prop:=y%4=0/\(y%100≠0∨y%400=0)
instance (y:Nat):Decidable (Nb y):=inferInstanceAs (Decidable (_/\_))
def Ko (y m:Nat):Nat:=if m=2 then(if Nb y then 29 else 28)else if m=4∨m=6∨m=9∨m=11 then 30 else 31
def E7 (y:Nat):Nat->Nat
 | 0=>0
 | 1=>0
 | m+2=>E7 y (m+1)+Ko y (m+1)
def yrS (y:Nat):Nat:=365*(y-1)+(y-1)/4-(y-1)/100+(y-1)/400
def Ip (n y m d:Nat):Prop:=1<=y/\y<=9999/\1<=m/\m<=12/\1<=d/\d<=Ko y m/\n=yrS y+E7 y m+(d-1)
theorem R4 {a b:Nat} (h1:1<=a) (h:a<=b):yrS a<=yrS b:=by
 rcases Nat.eq_or_lt_of_le h with rfl | h
 ·exact Nat.le_refl _
 ·unfold yrS;omega
theorem monS_12 (y:Nat):E7 y 12+Ko y 12=if Nb y then 366 else 365:=by
 simp only[E7,Ko]
 by_cases h:Nb y<;>simp[h]
theorem UR (k q:Nat) (h:0<q):(k+1)/q=k/q+(if (k+1)%q=0 then 1 else 0):=by
 rw[Nat.succ_div]
 congr 1
 simp only[Nat.dvd_iff_mod_eq_zero]
theorem Lc {y:Nat} (h:1<=y):yrS (y+1)=yrS y+(E7 y 12+Ko y 12):=by
 rw[monS_12]
 obtain⟨k,rfl⟩:∃k,y=k+1:=⟨y-1,by omega⟩
 unfold yrS
 simp only[Nat.add_sub_cancel]
 rw[UR k 4 (by omega),UR k 100 (by omega),UR k 400 (by omega)]
 have m1:(k+1)%400=0->(k+1)%100=0:=fun h=>by omega
 have m2:(k+1)%100=0->(k+1)%4=0:=fun h=>by omega
 have m3:k/100<=k/4:=by omega
 by_cases a4:(k+1)%4=0
 ·rw[if_pos a4]
  by_cases a100:(k+1)%100=0
  ·rw[if_pos a100]
   by_cases a400:(k+1)%400=0
   ·rw[if_pos a400,if_pos ⟨a4,.inr a400⟩];omega
   ·rw[if_neg a400,if_neg (fun h=>h.2.elim (fun h=>h a100) a400)];omega
  ·rw[if_neg a100,if_neg (fun h=>a100 (m1 h)),if_pos ⟨a4,.inl a100⟩];omega
 ·rw[if_neg a4,if_neg (fun h=>a4 (m2 h)),if_neg (fun h=>a4 (m2 (m1 h))),if_neg (fun h=>a4 h.1)];omega
theorem ME (y:Nat):∀{a b:Nat},a<=b->E7 y a<=E7 y b:=by
 intro a b h
 induction b with
 | zero=>rw[show a=0 by omega];exact Nat.le_refl _
 | succ b ih=>
  by_cases hab:a=b+1
  ·rw[hab];exact Nat.le_refl _
  ·refine Nat.le_trans (ih (by omega)) ?_
   cases b with
   | zero=>exact Nat.le_refl _
   | succ b=>simp only[E7];omega
theorem Eg (y:Nat) {m:Nat} (h:1<=m):E7 y (m+1)=E7 y m+Ko y m:=by
 cases m with
 | zero=>omega
 | succ m=>rfl
theorem Ip.uniq {n y m d y' m' d':Nat} (h:Ip n y m d) (h':Ip n y' m' d'):y=y'/\m=m'/\d=d':=by
 obtain⟨a1,a2,a3,a4,a5,a6,a7⟩:=h
 obtain⟨b1,b2,b3,b4,b5,b6,b7⟩:=h'
 have within:∀{y m d:Nat},1<=y->1<=m->m<=12->1<=d->d<=Ko y m->E7 y m+(d-1)<E7 y 12+Ko y 12:=by
  intro y m d h1 h2 h3 h4 h5
  by_cases hm:m=12
  ·subst hm;omega
  ·have:=ME y (a:=m+1) (b:=12) (by omega)
   rw[Eg y h2]at this;omega
 have w1:=within a1 a3 a4 a5 a6
 have w2:=within b1 b3 b4 b5 b6
 have hy:y=y':=by
  rcases Nat.lt_trichotomy y y' with h | h | h
  ·have:=R4 (a:=y+1) (b:=y') (by omega) (by omega)
   rw[Lc a1]at this;omega
  ·exact h
  ·have:=R4 (a:=y'+1) (b:=y) (by omega) (by omega)
   rw[Lc b1]at this;omega
 subst hy
 have hm:m=m':=by
  rcases Nat.lt_trichotomy m m' with h | h | h
  ·have:=ME y (a:=m+1) (b:=m') (by omega)
   rw[Eg y a3]at this;omega
  ·exact h
  ·have:=ME y (a:=m'+1) (b:=m) (by omega)
   rw[Eg y b3]at this;omega
 subst hm
 exact⟨rfl,rfl,by omega⟩
open Classical in
noncomputable def O7 (n:Nat):Nat×Nat×Nat:=if h:∃p:Nat×Nat×Nat,Ip n p.1 p.2.1 p.2.2 then h.choose else(0,0,0)
theorem WQ {n y m d:Nat} (h:Ip n y m d):O7 n=(y,m,d):=by
 have hex:∃p:Nat×Nat×Nat,Ip n p.1 p.2.1 p.2.2:=⟨(y,m,d),h⟩
 unfold O7
 rw[dif_pos hex]
 obtain⟨h1,h2,h3⟩:=hex.choose_spec.uniq h
 exact Prod.ext h1 (Prod.ext h2 h3)
noncomputable def O8 (n:Nat):B8:=Cj 4 (O7 n).1++45::(Cj 2 (O7 n).2.1++45::Cj 2 (O7 n).2.2)
noncomputable def TN (k td tn tz:Int):B8:=
 if k=1 then O8 td.toNat else if k=2 then RJ tn.toNat else if k=3 then O8 td.toNat++84::RJ tn.toNat else O8 td.toNat++84::(RJ tn.toNat++Wy tz)
end
section
structure Pm (s:Sc) (l:List Vl) (f:List Fd):Prop where
 k0:0<=s.kind
 k7:s.kind<=7
 bo:s.kind≠1->s.b=false
 nu:s.kind≠2->s.neg=false/\s.dg=[]/\s.ex=0
 ti:s.kind≠3->s.tk=0/\s.td=0/\s.tn=0/\s.tz=0
 tx:s.kind≠4->s.text=[]
 by_:s.kind≠5->s.bytes=[]
 ls:s.kind≠6->l=[]
 fs:s.kind≠7->f=[]
noncomputable instance (s:Sc) (l:List Vl) (f:List Fd):Decidable (Pm s l f):=Classical.propDecidable _
def U8 (s:B8):Prop:=AX s=s.length
instance (s:B8):Decidable (U8 s):=inferInstanceAs (Decidable (_=_))
def Hv (seen:List B8):List Fd->Nat
 | []=>0
 | d::r=>if U8 d.key then(if 1024<d.key.length then 10 else if d.key∈seen then 8 else Hv (d.key::seen) r)else 5
noncomputable def Gb (s:Sc) (l:List Vl) (f:List Fd):Nat:=
 if Pm s l f then(if FD s.neg s.dg s.ex then(if s.kind=3->Ft s.tk s.td s.tn s.tz then(if U8 s.text then(if 65536<s.text.length then 10 else if 65536<s.bytes.length then 10 else Hv [] f)else 5)else 2)else 2)else 6
noncomputable def Hn (x:Nat×Nat) (f:Nat->Nat×Nat):Nat×Nat:=if x.2=0 then f x.1 else x
mutual
noncomputable def EA (d n:Nat):Vl->Nat×Nat
 | .mk s l f=>if 48<d then(n,9)else if 65536<=n then(n,10)else if Gb s l f≠0 then(n,Gb s l f)else Hn (HD (d+1) (n+1) l) fun m=>HE (d+1) m f
noncomputable def HD (d n:Nat):List Vl->Nat×Nat
 | []=>(n,0)
 | v::r=>Hn (EA d n v) fun m=>HD d m r
noncomputable def chkD (d n:Nat):Fd->Nat×Nat
 | .mk _ v=>EA d n v
noncomputable def HE (d n:Nat):List Fd->Nat×Nat
 | []=>(n,0)
 | x::r=>Hn (chkD d n x) fun m=>HE d m r
end
noncomputable def JN (v:Vl):Nat:=(EA 1 0 v).2
theorem KY {x:Nat×Nat} {f:Nat->Nat×Nat} (h:(Hn x f).2=0):x.2=0/\(f x.1).2=0:=by
 unfold Hn at h
 split at h
 ·rename_i h0;exact⟨h0,h⟩
 ·rename_i h0;exact absurd h h0
theorem Oh {x:Nat×Nat} {f:Nat->Nat×Nat} (h:x.2=0):Hn x f=f x.1:=by unfold Hn;rw[if_pos h]
theorem Mg {x:Nat×Nat} {f:Nat->Nat×Nat} (h:x.2≠0):Hn x f=x:=by unfold Hn;rw[if_neg h]
structure QQ (s:Sc) (l:List Vl) (f:List Fd):Prop where
 own:Pm s l f
 dec:FD s.neg s.dg s.ex
 time:s.kind=3->Ft s.tk s.td s.tn s.tz
 text:U8 s.text
 tlen:s.text.length<=65536
 blen:s.bytes.length<=65536
 keys:Hv [] f=0
theorem Qi {s:Sc} {l:List Vl} {f:List Fd}:Gb s l f=0↔QQ s l f:=by
 unfold Gb
 constructor
 ·intro h
  split at h
  ·rename_i h1
   split at h
   ·rename_i h2
    split at h
    ·rename_i h3
     split at h
     ·rename_i h4
      split at h
      ·cases h
      ·rename_i h5
       split at h
       ·cases h
       ·rename_i h6
        exact⟨h1,h2,h3,h4,by omega,by omega,h⟩
     ·cases h
    ·cases h
   ·cases h
  ·cases h
 ·intro h
  rw[if_pos h.own,if_pos h.dec,if_pos h.time,if_pos h.text,if_neg (by have:=h.tlen;omega),if_neg (by have:=h.blen;omega)]
  exact h.keys
mutual
def Nn:Vl->Prop
 | .mk s l f=>QQ s l f/\MW l/\MX f
def MW:List Vl->Prop
 | []=>True
 | v::r=>Nn v/\MW r
def Vf:Fd->Prop
 | .mk _ v=>Nn v
def MX:List Fd->Prop
 | []=>True
 | d::r=>Vf d/\MX r
end
mutual
theorem RK:∀(v:Vl) (d n:Nat),(EA d n v).2=0->Nn v
 | .mk s l f,d,n,h=>by
  unfold EA at h
  unfold Nn
  split at h
  ·cases h
  ·split at h
   ·cases h
   ·split at h
    ·rename_i h1;exact absurd h h1
    ·rename_i h1
     obtain⟨h2,h3⟩:=KY h
     exact⟨Qi.1 (Decidable.of_not_not h1),Tr l _ _ h2,Tt f _ _ h3⟩
theorem Tr:∀(l:List Vl) (d n:Nat),(HD d n l).2=0->MW l
 | [],d,n,_=>by unfold MW;trivial
 | v::r,d,n,h=>by
  unfold HD at h
  unfold MW
  obtain⟨h2,h3⟩:=KY h
  exact⟨RK v _ _ h2,Tr r _ _ h3⟩
theorem chkD_ok:∀(x:Fd) (d n:Nat),(chkD d n x).2=0->Vf x
 | .mk k v,d,n,h=>by unfold chkD at h;unfold Vf;exact RK v _ _ h
theorem Tt:∀(l:List Fd) (d n:Nat),(HE d n l).2=0->MX l
 | [],d,n,_=>by unfold MX;trivial
 | x::r,d,n,h=>by
  unfold HE at h
  unfold MX
  obtain⟨h2,h3⟩:=KY h
  exact⟨chkD_ok x _ _ h2,Tt r _ _ h3⟩
end
end
theorem SlR.isPtr {st:St} {sz n i:Nat} {u:TV} {xs:List TV} (h:SlR st sz u n xs) (hi:i<n):TVF.isPtr (ixT sz u i)=true:=by
 rcases h with(⟨rfl,rfl,rfl⟩ | ⟨tip,rfl⟩) | ⟨b,off,cap,l,rfl,_⟩
 ·omega
 ·rfl
 ·rfl
theorem SlR.ldcf {st:St} {sz n i f m:Nat} {u:TV} {xs:List TV} (h:SlR st sz u n xs) (hl:xs.length=n*sz) (hi:i<n) (hf:f+m<=sz):Aj st [] (.t (Ao (ixT sz u i) f)) 0 m=some ((xs.drop (i*sz+f)).take m):=by
 have hm:(i+1)*sz<=n*sz:=Nat.mul_le_mul_right _ hi
 rw[Nat.add_mul,Nat.one_mul]at hm
 rcases h with(⟨rfl,rfl,rfl⟩ | ⟨tip,rfl⟩) | ⟨b,off,cap,l,rfl,h2,h3,h4,h5,rfl⟩
 ·omega
 ·show Aj st [] (.t (.rptr ((xs.drop (i*sz)).drop f))) 0 m=_
  rw[List.drop_drop,OM m 0 (by rw[List.length_drop];omega),List.drop_zero]
 ·have hc:n*sz<=cap*sz:=Nat.mul_le_mul_right _ h5
  have e1:(((l.drop off).take (n*sz)).drop (i*sz+f)).take m=(l.drop (off+i*sz+f)).take m:=by
   rw[List.drop_take,List.drop_drop,List.take_take,Nat.min_eq_left (by omega),Nat.add_assoc]
  rw[e1]
  have e:=NN (B:=l.drop (off+i*sz+f+m)) (st:=st) (b:=b) ((l.drop (off+i*sz+f)).take m) l 0 (off+i*sz+f) h3 (by
   have:=List.take_append_drop m (l.drop (off+i*sz+f))
   rw[List.drop_drop]at this
   rw[Nat.add_zero];exact this.symm)
  rw[show((l.drop (off+i*sz+f)).take m).length=m by simp;omega]at e
  exact e
theorem SlR.ldf {st:St} {sz n i f:Nat} {u x:TV} {xs:List TV} (h:SlR st sz u n xs) (hl:xs.length=n*sz) (hi:i<n) (hf:f<sz) (hx:xs[i*sz+f]? =some x):Ac st [] (.t (Ao (ixT sz u i) f)) 0=some x:=by
 have:=h.ldcf (f:=f) (m:=1) hl hi (by omega)
 have hlt:i*sz+f<xs.length:=by
  obtain⟨q,_⟩:=List.getElem?_eq_some_iff.1 hx
  exact q
 rw[List.drop_eq_getElem_cons hlt]at this
 rw[List.getElem?_eq_getElem hlt]at hx
 simp only[Aj,List.take_succ_cons,List.take_zero]at this
 cases hq:Ac st [] (.t (Ao (ixT sz u i) f)) 0 with
 | none=>rw[hq]at this;cases this
 | some y=>
  rw[hq]at this
  simp only[Option.map_some,Option.some.injEq,List.cons.injEq,and_true]at this
  rw[this];exact hx
theorem SlR.toBytes {st:St} {u:TV} {l:B8} (h:SlR st 1 u l.length (AF l)):TVF.toBytes st u=some l:=by
 have hl:(AF l).length=l.length:=DS l
 rcases h with(⟨rfl,h1,_⟩ | ⟨tip,rfl⟩) | ⟨b,off,cap,m,rfl,h2,h3,h4,h5,h6⟩
 ·rw[List.eq_nil_of_length_eq_zero h1];rfl
 ·simp[TVF.toBytes,Dy]
 ·have e:=NN (B:=m.drop (off+l.length)) (st:=st) (b:=b) (AF l) m 0 off h3 (by
   rw[h6,Nat.add_zero,Nat.mul_one,<-List.drop_drop,List.take_append_drop])
  rw[hl]at e
  simp only[TVF.toBytes,Nat.beq_refl,e,Dy]
theorem key14 {st0 st:St} {uf:TV} {xf:List TV} {l:List Fd} (hke:Ff st0 st) (h2:SlR st0 14 uf l.length xf) (h3:FsR st0 l xf) {i:Int} {k:Nat} (hi:i=k) {d:Fd} (hd:l[k]? =some d) {f:B8->Prop} (hf:f d.key):
  (0<=i/\i<(lenZ 14 uf:Int))/\need (TVF.isPtr (ixT 14 uf (Int.toNat i))) (Ag (Ac st [] (.t (Ao (ixT 14 uf (Int.toNat i)) 0)) 0) fun x=>Af .str x f):=by
 subst hi
 obtain⟨hk,_⟩:=List.getElem?_eq_some_iff.1 hd
 obtain⟨cw,hw,hcw,hcl⟩:=h3.get hd
 rw[h2.lenZ,Int.toNat_natCast]
 have hx:xf[k*14+0]? =some (.str d.key):=by
  cases d with
  | mk key w=>
   unfold FdR at hw
   obtain⟨cs,rfl,_⟩:=hw
   have:=congrArg (fun z=>z[0]?) hcw
   simpa [Fd.key]using this
 exact⟨⟨by omega,by omega⟩,Ab (h2.isPtr hk) (Ad ((h2.keep hke).ldf h3.len hk (by omega) hx) hf)⟩
theorem val14 {st0 st:St} {uf:TV} {xf:List TV} {l:List Fd} (hke:Ff st0 st) (h2:SlR st0 14 uf l.length xf) (h3:FsR st0 l xf) {i:Int} {k:Nat} (hi:i=k) (hk:k<l.length) {f:Fun [.int .i64,.bool,.bool,.str,.int .i64,.int .i64,.int .i64,.int .i64,.int .i64,.str,.tv,.tv,.tv] Prop}
  (hf:∀key s' l' f' ub1 ul1 uf1,l[k]? =some (.mk key (.mk s' l' f'))->VlR st0 (.mk s' l' f') (A7 s' ub1 ul1 uf1)->List.all (A7 s' ub1 ul1 uf1) Ap=true->f s'.kind s'.b s'.neg s'.dg s'.ex s'.tk s'.td s'.tn s'.tz s'.text ub1 ul1 uf1):
  (0<=i/\i<(lenZ 14 uf:Int))/\need (TVF.isPtr (ixT 14 uf (Int.toNat i))) (Ag ((Aj st [] (.t (Ao (ixT 14 uf (Int.toNat i)) 1)) 0 13).map TV.agg) fun x=>AT [.int .i64,.bool,.bool,.str,.int .i64,.int .i64,.int .i64,.int .i64,.int .i64,.str,.tv,.tv,.tv] x f):=by
 subst hi
 have gw:l[k]? =some l[k]:=List.getElem?_eq_getElem hk
 obtain⟨cw,hw,hcw,hcl⟩:=h3.get gw
 rw[h2.lenZ,Int.toNat_natCast]
 refine⟨⟨by omega,by omega⟩,Ab (h2.isPtr hk) ?_⟩
 rw[(h2.keep hke).ldcf (f:=1) (m:=13) h3.len hk (by omega)]
 generalize l[k]=w at*
 cases w with
 | mk key w=>
 cases w with
 | mk s' l' f'=>
 unfold FdR at hw
 obtain⟨cw2,rfl,hw1⟩:=hw
 have hw2:=hw1
 unfold VlR at hw2
 obtain⟨ub',ul',uf',xl',xf',rfl,w1,w2,w3,w4,w5⟩:=hw2
 have e:(xf.drop (k*14+1)).take 13=A7 s' ub' ul' uf':=by
  rw[<-List.drop_drop]
  have:=congrArg (fun z=>z.drop 1) hcw
  simp only[List.drop_take]at this
  simpa [A7]using this
 rw[e]
 exact Ad rfl (Ym (hf key s' l' f' ub' ul' uf' gw hw1 (BK w1.one w2.one w4.one)))
theorem Ff.trans {a b c:St} (h:Ff a b) (k:Ff b c):Ff a c:=⟨Nat.le_trans h.1 k.1,fun i hi=>(k.2 i (Nat.lt_of_lt_of_le hi h.1)).trans (h.2 i hi)⟩
theorem Am {s:B8} {f:B8->Prop} (h:f s):Af .str (.str s) f:=h
theorem Ax {k:IntKind} {n:Int} {f:Int->Prop} (h:f n):Af (.int k) (.int k n) f:=by
 simp only[Af];exact h
theorem Ar {b:Bool} {f:Bool->Prop} (h:f b):Af .bool (.bool b) f:=h
theorem Ck {α:Type} {K:α->St->Prop} {a b:α} {st:St} (h:a=b) (hk:K b st):K a st:=h▸hk
theorem PV {r:Int} {st:St} {K:Bool->St->Prop} (h0:0<=r) (hk:K (decide (A0 r.toNat)) st):CallT PR B3 [.int .i64 r] [.one (.bool)] st K:=by
 refine Gu _ st K (Aa (fun _=>Aa (fun h2=>Aa (fun h3=>?_) fun h3=>?_) fun h2=>?_) fun h1=>absurd h0 h1)
 ·have:A0 r.toNat:=by unfold A0;omega
  simpa [this]using hk
 ·have:decide ((57343:Int)<r)=decide (A0 r.toNat):=by
   rw[Bool.eq_iff_iff];simp only[decide_eq_true_eq];unfold A0;omega
  rw[this];exact hk
 ·have:¬A0 r.toNat:=by unfold A0;omega
  simpa [this]using hk
theorem FG (st:St) (n:Nat) (l:B8) (xs:List TV) (h:xs=AF l):(toBytes st (.list 1 .full n xs)).map TV.str=some (.str l):=by
 subst h;simp[toBytes,Dy]
theorem GX (n:Nat):IntKind.wrap .u8 (n:Int)=((UInt8.ofNat n).toNat:Int):=by
 unfold IntKind.wrap
 simp only[IntKind.signed,IntKind.bits]
 simp
 try omega
theorem orN (a b m:Nat) (hb:b<2^m) (h:a*2^m+b<2^63) (x y:Int) (hx:x=((a*2^m:Nat):Int)) (hy:y=(b:Int)):AM .or .i64 x y=((a*2^m+b:Nat):Int):=by
 rw[hx,hy];exact Ul a b m hb h
theorem UO {R:Int} {r:Nat} {st:St} {K:B8->Int->St->Prop} (hR:R=(r:Int)) (hr:r<2^40) (hk:K (if A0 r then FR r else []) (if A0 r then 0 else 2) st):CallT PR BD [.int .i64 R] [.one (.str),.one (.int .i64)] st K:=by
 have shr:∀m,m<=64->Int.fdiv R (2^(min m (IntKind.bits .i64)))=((r/2^m:Nat):Int):=fun m hm=>by rw[hR];exact shr_i64 r m hm
 have s6:=shr 6 (by decide)
 have s12:=shr 12 (by decide)
 have s18:=shr 18 (by decide)
 have m63:∀x:Nat,x<2^63->AM .and .i64 (x:Int) (63:Int)=((x%64:Nat):Int):=fun x hx=>JQ x 6 hx (by decide)
 have mR:AM .and .i64 R (63:Int)=((r%64:Nat):Int):=by rw[hR];exact m63 r (by omega)
 have o128:∀x:Nat,x<64->AM .or .i64 (128:Int) (x:Int)=((128+x:Nat):Int):=fun x hx=>orN 2 x 6 (by omega) (by omega) _ _ rfl rfl
 have hR0:0<=R:=by omega
 have hRn:R.toNat=r:=by omega
 refine HU _ st K (PV hR0 (Ak (fun h0=>?_) fun h0=>?_))
 ·have hc:¬A0 r:=by rw[hRn]at h0;simpa using h0
  rw[if_neg hc,if_neg hc]at hk
  exact hk
 ·have hc:A0 r:=by rw[hRn]at h0;simpa using h0
  rw[if_pos hc,if_pos hc]at hk
  unfold FR at hk
  refine Aa (fun h1=>?_) fun h1=>Aa (fun h2=>?_) fun h2=>Aa (fun h3=>?_) fun h3=>?_
  ·rw[if_pos (by omega)]at hk
   exact Ad (FG _ _ _ _ (by simp only[AF,List.map,Gq];rw[hR,GX])) hk
  ·rw[if_neg (by omega),if_pos (by omega)]at hk
   have o192:AM .or .i64 (192:Int) ((r/2^6:Nat):Int)=((192+r/64:Nat):Int):=orN 6 _ 5 (by omega) (by omega) _ _ rfl rfl
   refine Ad (FG _ _ _ _ ?_) hk
   simp only[AF,List.map,Gq]
   rw[show Int.toNat (6:Int)=6 from rfl,s6,o192,mR,o128 _ (by omega),GX,GX]
  ·rw[if_neg (by omega),if_neg (by omega),if_pos (by omega)]at hk
   have o224:AM .or .i64 (224:Int) ((r/2^12:Nat):Int)=((224+r/4096:Nat):Int):=orN 14 _ 4 (by omega) (by omega) _ _ rfl rfl
   refine Ad (FG _ _ _ _ ?_) hk
   simp only[AF,List.map,Gq]
   rw[show Int.toNat (6:Int)=6 from rfl,show Int.toNat (12:Int)=12 from rfl,s6,s12,o224,mR,m63 (r/2^6) (by omega),o128 _ (by omega),o128 _ (by omega),GX,GX,GX]
  ·rw[if_neg (by omega),if_neg (by omega),if_neg (by omega)]at hk
   have hr2:r<=1114111:=hc.1
   have o240:AM .or .i64 (240:Int) ((r/2^18:Nat):Int)=((240+r/262144:Nat):Int):=orN 30 _ 3 (by omega) (by omega) _ _ rfl rfl
   refine Ad (FG _ _ _ _ ?_) hk
   simp only[AF,List.map,Gq]
   rw[show Int.toNat (6:Int)=6 from rfl,show Int.toNat (12:Int)=12 from rfl,show Int.toNat (18:Int)=18 from rfl,s6,s12,s18,o240,mR,m63 (r/2^6) (by omega),m63 (r/2^12) (by omega),o128 _ (by omega),o128 _ (by omega),o128 _ (by omega),GX,GX,GX,GX]
theorem WL {r:Nat} {st:St} {K:B8->Int->St->Prop} (hr:r<2^40) (hk:K (if A0 r then FR r else []) (if A0 r then 0 else 2) st):CallT PR BD [.int .i64 (r:Int)] [.one (.str),.one (.int .i64)] st K:=
 UO rfl hr hk
def rD (l:B8):Nat×Nat:=if ul l=0 then(0,0)else(ur l,ul l)
theorem SP {s:B8} {I:Int} {i:Nat} {st:St} {K:Int->Int->St->Prop} (hI:I=(i:Int)) (hl:s.length<=2000000) (hi:i<=s.length) (hk:K ((rD (s.drop i)).1:Nat) ((rD (s.drop i)).2:Nat) st):CallT PR BE [.str s,.int .i64 I] [.one (.int .i64),.one (.int .i64)] st K:=by
 refine HV s I st K (Aa (fun h=>by omega) fun _=>Aa (fun h=>?_) fun h=>⟨⟨by omega,by omega⟩,?_⟩)
 ·have:s.drop i=[]:=List.drop_of_length_le (by omega)
  have h0:rD (s.drop i)=(0,0):=by rw[this];simp[rD,ul]
  rw[h0]at hk;exact hk
 ·have hne:s.drop i≠ []:=by
   intro h0
   have:=congrArg List.length h0
   simp at this;omega
  have href:=GC (s.drop i) hne
  have hb0:(List.getD s (Int.toNat I) 0).toNat=bt (s.drop i) 0:=by rw[GP,hI];rfl
  have hlt:=FA (s.drop i) 0
  have hlen:(s.drop i).length=s.length-i:=by simp
  rw[hb0,W0 _ (by omega)]
  have m15:AM .and .i64 ((bt (s.drop i) 0:Nat):Int) (15:Int)=((bt (s.drop i) 0%16:Nat):Int):=JQ _ 4 (by omega) (by decide)
  have m7:AM .and .i64 ((bt (s.drop i) 0:Nat):Int) (7:Int)=((bt (s.drop i) 0%8:Nat):Int):=JQ _ 3 (by omega) (by decide)
  have m31:AM .and .i64 ((bt (s.drop i) 0:Nat):Int) (31:Int)=((bt (s.drop i) 0%32:Nat):Int):=JQ _ 5 (by omega) (by decide)
  rw[m15,m7,m31]
  refine⟨fun size r s' at' st1=>s=s'/\I=at'/\st=st1/\((rsz (bt (s.drop i) 0):Nat):Int)=size/\((rb0 (bt (s.drop i) 0):Nat):Int)=r,?_,?_⟩
  ·refine Aa (fun h1=>⟨rfl,rfl,rfl,?_,?_⟩) fun h1=>Aa (fun h2=>⟨rfl,rfl,rfl,?_,?_⟩) fun h2=>Aa (fun h3=>⟨rfl,rfl,rfl,?_,?_⟩) fun h3=>⟨rfl,rfl,rfl,?_,?_⟩
   ·unfold rsz;rw[if_pos (by omega)];rfl
   ·unfold rb0;rw[if_pos (by omega)]
   ·unfold rsz;rw[if_neg (by omega),if_pos (by omega)];rfl
   ·unfold rb0;rw[if_neg (by omega),if_pos (by omega)]
   ·unfold rsz;rw[if_neg (by omega),if_neg (by omega),if_pos (by omega)];rfl
   ·unfold rb0;rw[if_neg (by omega),if_neg (by omega),if_pos (by omega)]
   ·unfold rsz;rw[if_neg (by omega),if_neg (by omega),if_neg (by omega)];rfl
   ·unfold rb0;rw[if_neg (by omega),if_neg (by omega),if_neg (by omega)]
  ·rintro _ _ _ _ _ ⟨rfl,rfl,rfl,rfl,rfl⟩
   have hs:=Re (bt (s.drop i) 0)
   have hr0:=rb0_lt _ hlt
   generalize hsz:rsz (bt (s.drop i) 0)=size at*
   generalize hrr:rb0 (bt (s.drop i) 0)=r0 at*
   have hra:=Rn (s.drop i) r0 hr0
   unfold PJ at href
   simp only[hsz,hrr]at href
   rw[Ah _ (by omega) (by omega)]
   refine Aa (fun h1=>?_) fun h1=>?_
   ·rw[if_pos (by omega)]at href
    have:rD (s.drop i)=(0,0):=by unfold rD;rw[<-href]
    rw[this]at hk;exact hk
   ·rw[if_neg (by omega)]at href
    refine⟨fun r j s' at' sz st2=>s=s'/\I=at'/\st=st2/\((size:Nat):Int)=sz/\∃k:Nat,j=((k+1:Nat):Int)/\k+1<=size/\r=((Cn (s.drop i) r0 k:Nat):Int),fun _ j _ _ sz _=>(sz-j).toNat,⟨rfl,rfl,rfl,rfl,0,rfl,hs.1,rfl⟩,?_⟩
    rintro _ _ _ _ _ _ ⟨rfl,rfl,rfl,rfl,k,rfl,hk1,rfl⟩
    have hrk:=hra k
    have h64:64^k<=64^3:=Nat.pow_le_pow_right (by decide) (by omega)
    refine Aa (fun h2=>?_) fun h2=>?_
    ·rw[Ah _ (by omega) (by omega)]
     have hbk:(List.getD s (Int.toNat (I+((k+1:Nat):Int))) 0).toNat=bt (s.drop i) (k+1):=by
      rw[GP,show Int.toNat (I+((k+1:Nat):Int))=i+(k+1) by omega];rfl
     have hbl:=FA (s.drop i) (k+1)
     have hand:AM .and .i64 (i64.wrap ((bt (s.drop i) (k+1):Nat):Int)) (63:Int)=((bt (s.drop i) (k+1)%64:Nat):Int):=by
      rw[W0 _ (by omega)];exact JQ _ 6 (by omega) (by decide)
     have hmul:i64.wrap (((Cn (s.drop i) r0 k:Nat):Int)*2^(min (Int.toNat (6:Int)) (IntKind.bits .i64)))=((Cn (s.drop i) r0 k*2^6:Nat):Int):=by
      rw[show(2:Int)^(min (Int.toNat (6:Int)) (IntKind.bits .i64))=64 by decide,Ah _ (by omega) (by omega)];omega
     refine⟨⟨by omega,by omega⟩,?_⟩
     rw[hbk,hand,hmul,Ul _ _ 6 (by omega) (by omega),Ah _ (by omega) (by omega)]
     exact⟨⟨rfl,rfl,rfl,rfl,k+1,by omega,by omega,by simp only[Cn]⟩,by dsimp only;omega⟩
    ·have hks:k=size-1:=by omega
     subst hks
     refine WL (by omega) ?_
     generalize hR:Cn (s.drop i) r0 (size-1)=R at*
     refine Aa (fun h3=>?_) fun h3=>?_
     ·have hc:¬A0 R:=by intro hc;rw[if_pos hc]at h3;exact h3 rfl
      rw[if_neg (fun h=>hc h.1)]at href
      have:rD (s.drop i)=(0,0):=by unfold rD;rw[<-href]
      rw[this]at hk;exact hk
     ·have hc:A0 R:=by
       apply Decidable.byContradiction
       intro hc;rw[if_neg hc]at h3;exact h3 (by decide)
      rw[if_pos hc,Ah _ (by omega) (by omega)]
      refine⟨⟨by omega,by omega,by omega⟩,?_⟩
      rw[EU,show Int.toNat (I+(size:Int))-Int.toNat I=size by omega,show Int.toNat I=i by omega]
      refine Aa (fun h4=>?_) fun h4=>?_
      ·rw[if_neg (fun h=>h4 h.2)]at href
       have:rD (s.drop i)=(0,0):=by unfold rD;rw[<-href]
       rw[this]at hk;exact hk
      ·rw[if_pos ⟨hc,Decidable.not_not.1 h4⟩]at href
       have:rD (s.drop i)=(R,size):=by unfold rD;rw[<-href]
       rw[this]at hk;exact hk
theorem T8 {s:B8} {i:Nat} {st:St} {K:Int->Int->St->Prop} (hl:s.length<=2000000) (hi:i<=s.length) (hk:K ((rD (s.drop i)).1:Nat) ((rD (s.drop i)).2:Nat) st):CallT PR BE [.str s,.int .i64 (i:Int)] [.one (.int .i64),.one (.int .i64)] st K:=
 SP rfl hl hi hk
theorem Ld (l:B8):AX l<=l.length:=Vo _ l (Nat.le_refl _)
theorem Hg:AX []=0:=BG _ (by simp[ul])
theorem Rd.ldx {sz:Nat} {v:TV} {n:Nat} {xs:List TV} (h:Rd sz v n xs) (st:St) (i j:Nat) {x:TV} (hx:xs[i*sz+j]? =some x):Ac st [] (.t (ixT sz v i)) j=some x:=by
 obtain⟨hlt,hx⟩:=List.getElem?_eq_some_iff.1 hx
 rw[h.ld st i j hlt,hx]
theorem Rd.ldfx {sz:Nat} {v:TV} {n:Nat} {xs:List TV} (h:Rd sz v n xs) (st:St) (i j:Nat) {x:TV} (hx:xs[i*sz+j]? =some x):Ac st [] (.t (Ao (ixT sz v i) j)) 0=some x:=by
 obtain⟨hlt,hx⟩:=List.getElem?_eq_some_iff.1 hx
 rw[h.ldf st i j hlt,hx]
theorem KO {s:B8} {st:St} {K:TV->Bool->St->Prop} (hl:s.length<=2000000)
  (hk:∀v xs st',Aq st st'->Rd 1 v (xs.length+1) (xs++[.int .i64 ((AX s:Nat):Int)])->xs.length<=s.length->K v (decide (AX s=s.length)) st'):CallT PR Be [.str s] [.one (.tv),.one (.bool)] st K:=by
 have hv:=Ld s
 refine F4 s st K ⟨fun v i s' st'=>s=s'/\Aq st st'/\∃(k:Nat) (xs:List TV),i=(k:Int)/\k<=s.length/\k+AX (s.drop k)=AX s/\xs.length<=k/\Own st.nt 1 st' v (xs.length+1) (xs++[.int .i64 (k:Int)]),fun _ i _ _=>(s.length-i).toNat,⟨rfl,Aq.refl _,0,[],rfl,by omega,by simp,by simp,Own.full _ _ _ _ _⟩,?_⟩
 rintro v _ _ st1 ⟨rfl,e,k,xs,rfl,h1,h2,h3,h4⟩
 refine Aa (fun g1=>?_) fun g1=>?_
 ·have hle:=Jr (s.drop k)
  rw[List.length_drop]at hle
  refine T8 hl h1 ?_
  unfold rD
  by_cases h0:ul (s.drop k)=0
  ·rw[if_pos h0]
   rw[BG _ h0]at h2
   refine Aa (fun _=>?_) fun h=>absurd rfl h
   have:=hk v xs st1 e (by rw[<-h2];exact h4.rd) (by omega)
   rw[decide_eq_false (by omega)]at this
   exact this
  ·rw[if_neg h0]
   rw[BH _ h0,List.drop_drop]at h2
   have w:i64.wrap ((k:Int)+(ul (s.drop k):Nat))=((k+ul (s.drop k):Nat):Int):=by rw[Ah _ (by omega) (by omega)];omega
   refine Aa (fun h=>by simp only at h;omega) fun _=>?_
   dsimp only
   rw[w]
   refine Bz e rfl h4 (by omega) (fun h=>by cases h) fun v' st' e' _ ho=>⟨⟨rfl,e',k+ul (s.drop k),xs++[.int .i64 (k:Int)],rfl,by omega,by omega,by rw[List.length_append];simp;omega,?_⟩,by omega⟩
   rw[List.length_append];exact ho
 ·rw[show s.drop k=[]from List.drop_of_length_le (by omega),Hg]at h2
  have hks:k=AX s:=by omega
  have:=hk v xs st1 e (by rw[<-hks];exact h4.rd) (by omega)
  rw[decide_eq_true (by omega)]at this
  exact this
theorem Wj {s:B8} {st:St} {K:Bool->St->Prop} (hl:s.length<=2000000) (hk:∀st',Aq st st'->K (decide (AX s=s.length)) st'):CallT PR BV [.str s] [.one (.bool)] st K:=
 IT s st K (KO hl fun v xs st1 e hr hx=>hk st1 e)
def hdS (b:Nat):Nat:=if b<128 then 1 else if 192<=b/\b<224 then 2 else if 224<=b/\b<240 then 3 else if 240<=b/\b<248 then 4 else 0
def hdB (b:Nat):Nat:=if b<128 then b else if 192<=b/\b<224 then b%32 else if 224<=b/\b<240 then b%16 else if 240<=b/\b<248 then b%8 else 0
def wid (r:Nat):Nat:=if r<128 then 1 else if r<2048 then 2 else if r<65536 then 3 else 4
theorem Ke (a m:Nat) (ha:a<256) (hm:m<=8):AM .and .u8 (a:Int) ((2^m-1:Nat):Int)=((a%2^m:Nat):Int):=by
 have:2^m<=2^8:=Nat.pow_le_pow_right (by decide) hm
 rw[YF _ _ ha (by omega),Nat.and_two_pow_sub_one_eq_mod]
theorem head_ok {B:Int} {b:Nat} {st:St} {K:Int->Int->St->Prop} (hB:B=(b:Int)) (hb:b<256) (hk:K (hdS b:Nat) (hdB b:Nat) st):CallT PR JH [.int .u8 B] [.one (.int .i64),.one (.int .i64)] st K:=by
 have m31:AM .and .u8 B (31:Int)=((b%32:Nat):Int):=by rw[hB];exact Ke b 5 hb (by decide)
 have m15:AM .and .u8 B (15:Int)=((b%16:Nat):Int):=by rw[hB];exact Ke b 4 hb (by decide)
 have m7:AM .and .u8 B (7:Int)=((b%8:Nat):Int):=by rw[hB];exact Ke b 3 hb (by decide)
 unfold hdS hdB at hk
 have kk:∀(x y x' y':Int),x=x'->y=y'->K x' y' st->K x y st:=fun x y x' y' h1 h2 hk=>by rw[h1,h2];exact hk
 refine Sb B st K ?_
 rw[m31,m15,m7,Ah B (by omega) (by omega),Ah ((b%32:Nat):Int) (by omega) (by omega),Ah ((b%16:Nat):Int) (by omega) (by omega),Ah ((b%8:Nat):Int) (by omega) (by omega)]
 by_cases g1:b<128
 ·rw[if_pos g1,if_pos g1]at hk
  exact Aa (fun _=>kk _ _ _ _ rfl hB hk) fun h=>by omega
 rw[if_neg g1,if_neg g1]at hk
 refine Aa (fun h=>by omega) fun _=>?_
 by_cases g2:192<=b/\b<224
 ·rw[if_pos g2,if_pos g2]at hk
  exact Aa (fun _=>Aa (fun _=>hk) fun h=>by omega) fun h=>by omega
 rw[if_neg g2,if_neg g2]at hk
 by_cases g3:224<=b/\b<240
 ·rw[if_pos g3,if_pos g3]at hk
  refine Aa (fun _=>Aa (fun h=>by omega) fun _=>?_) fun h=>by omega
  exact Aa (fun _=>Aa (fun _=>hk) fun h=>by omega) fun h=>by omega
 rw[if_neg g3,if_neg g3]at hk
 by_cases g4:240<=b/\b<248
 ·rw[if_pos g4,if_pos g4]at hk
  refine Aa (fun _=>Aa (fun h=>by omega) fun _=>?_) fun h=>by omega
  refine Aa (fun _=>Aa (fun h=>by omega) fun _=>?_) fun h=>by omega
  exact Aa (fun _=>Aa (fun _=>hk) fun h=>by omega) fun h=>by omega
 rw[if_neg g4,if_neg g4]at hk
 repeat' first
  | exact hk
  | omega
  | refine Aa (fun _=>?_) fun _=>?_
theorem Wg {R:Int} {r:Nat} {st:St} {K:Bool->St->Prop} (hR:R=(r:Int)) (hk:K (decide (A0 r)) st):CallT PR G3 [.int .i64 R] [.one (.bool)] st K:=by
 unfold A0 at hk
 refine Pu R st K (Aa (fun _=>Aa (fun h2=>Aa (fun h3=>?_) fun h3=>?_) fun h2=>?_) fun h1=>by omega)
 ·exact Ck (decide_eq_true (by omega)).symm hk
 ·exact Ck (decide_eq_decide.2 (by omega)) hk
 ·exact Ck (decide_eq_false (by omega)).symm hk
theorem W1 {R:Int} {r:Nat} {st:St} {K:Int->St->Prop} (hR:R=(r:Int)) (hk:K (wid r:Nat) st):CallT PR Ie [.int .i64 R] [.one (.int .i64)] st K:=by
 unfold wid at hk
 refine QT R st K (Aa (fun h1=>?_) fun h1=>Aa (fun h2=>?_) fun h2=>Aa (fun h3=>?_) fun h3=>?_)
 ·rw[if_pos (by omega)]at hk;exact hk
 ·rw[if_neg (by omega),if_pos (by omega)]at hk;exact hk
 ·rw[if_neg (by omega),if_neg (by omega),if_pos (by omega)]at hk;exact hk
 ·rw[if_neg (by omega),if_neg (by omega),if_neg (by omega)]at hk;exact hk
def Ro (l:B8):Prop:=hdS (bt l 0)≠0/\hdS (bt l 0)<=l.length/\(∀j,1<=j->j<hdS (bt l 0)->bt l j/64=2)/\A0 (Cn l (hdB (bt l 0)) (hdS (bt l 0)-1))/\wid (Cn l (hdB (bt l 0)) (hdS (bt l 0)-1))=hdS (bt l 0)
theorem pd_val (l:B8) (h:l≠ []) (hp:Ro l):ul l=hdS (bt l 0)/\ur l=Cn l (hdB (bt l 0)) (hdS (bt l 0)-1):=by
 obtain⟨p1,p2,p3,p4,p5⟩:=hp
 have e:=GC l h
 have h0:=FA l 0
 have e0:(l.getD 0 0).toNat=bt l 0:=rfl
 have e1:(l.getD 1 0).toNat=bt l 1:=rfl
 have e2:(l.getD 2 0).toNat=bt l 2:=rfl
 have e3:(l.getD 3 0).toNat=bt l 3:=rfl
 have fin:∀n r,rsz (bt l 0)=n->rb0 (bt l 0)=r->n=hdS (bt l 0)->r=hdB (bt l 0)->FR (Cn l r (n-1))=l.take n->ul l=hdS (bt l 0)/\ur l=Cn l (hdB (bt l 0)) (hdS (bt l 0)-1):=by
  intro n r hn hr hn2 hr2 henc
  unfold PJ at e
  simp only[hn,hr]at e
  rw[if_neg (by omega),if_pos ⟨by rw[hr2,hn2];exact p4,henc⟩]at e
  by_cases hz:ul l=0
  ·rw[if_pos hz]at e;simp only[Prod.mk.injEq]at e;omega
  ·rw[if_neg hz]at e;simp only[Prod.mk.injEq]at e
   exact⟨by omega,by rw[<-hr2,<-hn2];exact e.1.symm⟩
 have h1:=FA l 1
 have h2:=FA l 2
 have h3:=FA l 3
 by_cases g1:bt l 0<128
 ·have hs:hdS (bt l 0)=1:=by unfold hdS;rw[if_pos g1]
  have hb:hdB (bt l 0)=bt l 0:=by unfold hdB;rw[if_pos g1]
  refine fin 1 (bt l 0) (by unfold rsz;rw[if_neg (by omega),if_neg (by omega),if_neg (by omega)]) (by unfold rb0;rw[if_neg (by omega),if_neg (by omega),if_neg (by omega)]) hs.symm hb.symm ?_
  rw[Lq l (by omega)]
  simp only[Nat.sub_self,Cn]
  unfold FR
  rw[if_pos g1]
  simp only[Dw,Di,e0,and_true]
  omega
 by_cases g2:192<=bt l 0/\bt l 0<224
 ·have hs:hdS (bt l 0)=2:=by unfold hdS;rw[if_neg g1,if_pos g2]
  have hb:hdB (bt l 0)=bt l 0%32:=by unfold hdB;rw[if_neg g1,if_pos g2]
  rw[hs]at p3 p5
  rw[hb]at p5
  have q1:=p3 1 (by omega) (by omega)
  refine fin 2 (bt l 0%32) (by unfold rsz;rw[if_neg (by omega),if_neg (by omega),if_pos (by omega)]) (by unfold rb0;rw[if_neg (by omega),if_neg (by omega),if_pos (by omega)]) hs.symm hb.symm ?_
  rw[Lp l (by omega)]
  simp only[Nat.reduceSub,Cn,Nat.zero_add]at p5⊢
  generalize bt l 0=b0 at*
  generalize bt l 1=b1 at*
  unfold wid at p5
  unfold FR
  by_cases k1:b0%32*64+b1%64<128
  ·rw[if_pos k1]at p5;omega
  rw[if_neg k1]at p5⊢
  by_cases k2:b0%32*64+b1%64<2048
  ·rw[if_pos k2]
   simp only[Dw,Di,e0,e1,and_true]
   omega
  ·rw[if_neg k2]at p5;split at p5<;>omega
 by_cases g3:224<=bt l 0/\bt l 0<240
 ·have hs:hdS (bt l 0)=3:=by unfold hdS;rw[if_neg g1,if_neg g2,if_pos g3]
  have hb:hdB (bt l 0)=bt l 0%16:=by unfold hdB;rw[if_neg g1,if_neg g2,if_pos g3]
  rw[hs]at p3 p5
  rw[hb]at p5
  have q1:=p3 1 (by omega) (by omega)
  have q2:=p3 2 (by omega) (by omega)
  refine fin 3 (bt l 0%16) (by unfold rsz;rw[if_neg (by omega),if_pos (by omega)]) (by unfold rb0;rw[if_neg (by omega),if_pos (by omega)]) hs.symm hb.symm ?_
  rw[H2 l (by omega)]
  simp only[Nat.reduceSub,Cn,Nat.zero_add,Nat.reduceAdd]at p5⊢
  generalize bt l 0=b0 at*
  generalize bt l 1=b1 at*
  generalize bt l 2=b2 at*
  generalize hr:(b0%16*64+b1%64)*64+b2%64=r at*
  unfold wid at p5
  unfold FR
  by_cases k1:r<128
  ·rw[if_pos k1]at p5;omega
  rw[if_neg k1]at p5⊢
  by_cases k2:r<2048
  ·rw[if_pos k2]at p5;omega
  rw[if_neg k2]at p5⊢
  by_cases k3:r<65536
  ·rw[if_pos k3]
   simp only[Dw,Di,e0,e1,e2,and_true]
   omega
  ·rw[if_neg k3]at p5;omega
 by_cases g4:240<=bt l 0/\bt l 0<248
 ·have hs:hdS (bt l 0)=4:=by unfold hdS;rw[if_neg g1,if_neg g2,if_neg g3,if_pos g4]
  have hb:hdB (bt l 0)=bt l 0%8:=by unfold hdB;rw[if_neg g1,if_neg g2,if_neg g3,if_pos g4]
  rw[hs]at p3 p4 p5
  rw[hb]at p4 p5
  have q1:=p3 1 (by omega) (by omega)
  have q2:=p3 2 (by omega) (by omega)
  have q3:=p3 3 (by omega) (by omega)
  refine fin 4 (bt l 0%8) (by unfold rsz;rw[if_pos (by omega)]) (by unfold rb0;rw[if_pos (by omega)]) hs.symm hb.symm ?_
  rw[Mi l (by omega)]
  simp only[Nat.reduceSub,Cn,Nat.zero_add,Nat.reduceAdd]at p4 p5⊢
  generalize bt l 0=b0 at*
  generalize bt l 1=b1 at*
  generalize bt l 2=b2 at*
  generalize bt l 3=b3 at*
  generalize hr:((b0%8*64+b1%64)*64+b2%64)*64+b3%64=r at*
  unfold wid at p5
  unfold FR
  by_cases k1:r<128
  ·rw[if_pos k1]at p5;omega
  rw[if_neg k1]at p5⊢
  by_cases k2:r<2048
  ·rw[if_pos k2]at p5;omega
  rw[if_neg k2]at p5⊢
  by_cases k3:r<65536
  ·rw[if_pos k3]at p5;omega
  rw[if_neg k3]
  have:=p4.1
  simp only[Dw,Di,e0,e1,e2,e3,and_true]
  omega
 ·exfalso
  unfold hdS at p1
  rw[if_neg g1,if_neg g2,if_neg g3,if_neg g4]at p1
  exact p1 rfl
theorem Xx (l:B8) (h:l≠ []):ul l≠0->Ro l:=by
 intro hu
 have e:=GC l h
 rw[if_neg hu]at e
 have h0:=FA l 0
 have e0:(l.getD 0 0).toNat=bt l 0:=rfl
 have e1:(l.getD 1 0).toNat=bt l 1:=rfl
 have e2:(l.getD 2 0).toNat=bt l 2:=rfl
 have e3:(l.getD 3 0).toNat=bt l 3:=rfl
 have h1:=FA l 1
 have h2:=FA l 2
 have h3:=FA l 3
 have hc:¬l.length<rsz (bt l 0)/\A0 (Cn l (rb0 (bt l 0)) (rsz (bt l 0)-1))/\FR (Cn l (rb0 (bt l 0)) (rsz (bt l 0)-1))=l.take (rsz (bt l 0)):=by
  unfold PJ at e
  simp only at e
  split at e
  ·simp only[Prod.mk.injEq]at e;omega
  ·split at e
   ·rename_i a b;exact⟨a,b⟩
   ·simp only[Prod.mk.injEq]at e;omega
 obtain⟨hl,hch,henc⟩:=hc
 by_cases g4:240<=bt l 0
 ·have r4:rsz (bt l 0)=4:=by unfold rsz;rw[if_pos g4]
  have rb:rb0 (bt l 0)=bt l 0%8:=by unfold rb0;rw[if_pos g4]
  rw[r4,rb]at henc hch
  rw[r4]at hl
  rw[Mi l (by omega)]at henc
  unfold Ro hdS hdB
  simp only[Nat.reduceSub,Cn,Nat.zero_add,Nat.reduceAdd]at henc hch
  generalize hb0:bt l 0=b0 at*
  generalize hb1:bt l 1=b1 at*
  generalize hb2:bt l 2=b2 at*
  generalize hb3:bt l 3=b3 at*
  have hr0:∃r,r=((b0%8*64+b1%64)*64+b2%64)*64+b3%64:=⟨_,rfl⟩
  obtain⟨r,hr⟩:=hr0
  rw[<-hr]at henc hch
  have hmax:=hch.1
  unfold FR at henc
  have hw:wid r=4/\b0=240+r/262144/\b1/64=2/\b2/64=2/\b3/64=2:=by
   unfold wid
   split at henc
   ·simp at henc
   ·split at henc
    ·simp at henc
    ·split at henc
     ·simp at henc
     ·simp only[Dw,Di,e0,e1,e2,e3,and_true]at henc
      refine⟨by rw[if_neg ‹_›,if_neg ‹_›,if_neg ‹_›],by omega,by omega,by omega,by omega⟩
  rw[if_neg (show ¬b0<128 by omega),if_neg (show ¬(192<=b0/\b0<224) by omega),if_neg (show ¬(224<=b0/\b0<240) by omega),if_pos (show 240<=b0/\b0<248 by omega),if_neg (show ¬b0<128 by omega),if_neg (show ¬(192<=b0/\b0<224) by omega),if_neg (show ¬(224<=b0/\b0<240) by omega),if_pos (show 240<=b0/\b0<248 by omega)]
  simp only[Nat.reduceSub,Cn,Nat.zero_add,Nat.reduceAdd,hb1,hb2,hb3]
  rw[<-hr]
  refine⟨by omega,by omega,fun j j1 j2=>?_,hch,hw.1⟩
  have:j=1∨j=2∨j=3:=by omega
  rcases this with rfl | rfl | rfl<;>omega
 by_cases g3:224<=bt l 0
 ·have r4:rsz (bt l 0)=3:=by unfold rsz;rw[if_neg g4,if_pos g3]
  have rb:rb0 (bt l 0)=bt l 0%16:=by unfold rb0;rw[if_neg g4,if_pos g3]
  rw[r4,rb]at henc hch
  rw[r4]at hl
  rw[H2 l (by omega)]at henc
  unfold Ro hdS hdB
  simp only[Nat.reduceSub,Cn,Nat.zero_add,Nat.reduceAdd]at henc hch
  generalize hb0:bt l 0=b0 at*
  generalize hb1:bt l 1=b1 at*
  generalize hb2:bt l 2=b2 at*
  have hr0:∃r,r=(b0%16*64+b1%64)*64+b2%64:=⟨_,rfl⟩
  obtain⟨r,hr⟩:=hr0
  rw[<-hr]at henc hch
  unfold FR at henc
  have hw:wid r=3/\b1/64=2/\b2/64=2:=by
   unfold wid
   split at henc
   ·simp at henc
   ·split at henc
    ·simp at henc
    ·split at henc
     ·simp only[Dw,Di,e0,e1,e2,and_true]at henc
      refine⟨by rw[if_neg ‹_›,if_neg ‹_›,if_pos ‹_›],by omega,by omega⟩
     ·simp at henc
  rw[if_neg (show ¬b0<128 by omega),if_neg (show ¬(192<=b0/\b0<224) by omega),if_pos (show 224<=b0/\b0<240 by omega),if_neg (show ¬b0<128 by omega),if_neg (show ¬(192<=b0/\b0<224) by omega),if_pos (show 224<=b0/\b0<240 by omega)]
  simp only[Nat.reduceSub,Cn,Nat.zero_add,Nat.reduceAdd,hb1,hb2]
  rw[<-hr]
  refine⟨by omega,by omega,fun j j1 j2=>?_,hch,hw.1⟩
  have:j=1∨j=2:=by omega
  rcases this with rfl | rfl<;>omega
 by_cases g2:192<=bt l 0
 ·have r4:rsz (bt l 0)=2:=by unfold rsz;rw[if_neg g4,if_neg g3,if_pos g2]
  have rb:rb0 (bt l 0)=bt l 0%32:=by unfold rb0;rw[if_neg g4,if_neg g3,if_pos g2]
  rw[r4,rb]at henc hch
  rw[r4]at hl
  rw[Lp l (by omega)]at henc
  unfold Ro hdS hdB
  simp only[Nat.reduceSub,Cn,Nat.zero_add,Nat.reduceAdd]at henc hch
  generalize hb0:bt l 0=b0 at*
  generalize hb1:bt l 1=b1 at*
  have hr0:∃r,r=b0%32*64+b1%64:=⟨_,rfl⟩
  obtain⟨r,hr⟩:=hr0
  rw[<-hr]at henc hch
  unfold FR at henc
  have hw:wid r=2/\b1/64=2:=by
   unfold wid
   split at henc
   ·simp at henc
   ·split at henc
    ·simp only[Dw,Di,e0,e1,and_true]at henc
     refine⟨by rw[if_neg ‹_›,if_pos ‹_›],by omega⟩
    ·split at henc<;>simp at henc
  rw[if_neg (show ¬b0<128 by omega),if_pos (show 192<=b0/\b0<224 by omega),if_neg (show ¬b0<128 by omega),if_pos (show 192<=b0/\b0<224 by omega)]
  simp only[Nat.reduceSub,Cn,Nat.zero_add,hb1]
  rw[<-hr]
  refine⟨by omega,by omega,fun j j1 j2=>?_,hch,hw.1⟩
  have:j=1:=by omega
  subst this;omega
 ·have r4:rsz (bt l 0)=1:=by unfold rsz;rw[if_neg g4,if_neg g3,if_neg g2]
  have rb:rb0 (bt l 0)=bt l 0:=by unfold rb0;rw[if_neg g4,if_neg g3,if_neg g2]
  rw[r4,rb]at henc hch
  rw[r4]at hl
  rw[Lq l (by omega)]at henc
  unfold Ro hdS hdB
  simp only[Nat.sub_self,Cn]at henc hch
  generalize hb0:bt l 0=b0 at*
  have hlt:b0<128:=by
   unfold FR at henc
   split at henc
   ·assumption
   ·split at henc
    ·simp at henc
    ·split at henc<;>simp at henc
  rw[if_pos hlt,if_pos hlt]
  simp only[Nat.sub_self,Cn]
  refine⟨by omega,by omega,fun j j1 j2=>by omega,hch,by unfold wid;rw[if_pos hlt]⟩
theorem Of {s:B8} {I:Int} {i:Nat} {st:St} {K:Int->Int->St->Prop} (hI:I=(i:Int)) (hl:s.length<=2000000) (hi:i<=s.length) (hk:K ((rD (s.drop i)).1:Nat) ((rD (s.drop i)).2:Nat) st):
  CallT PR EX [.str s,.int .i64 I] [.one (.int .i64),.one (.int .i64)] st K:=by
 have no:¬Ro (s.drop i)->s.drop i≠ []->K 0 0 st:=fun h hne=>by
  have:ul (s.drop i)=0:=Decidable.byContradiction fun h0=>h (Xx _ hne h0)
  unfold rD at hk
  rw[if_pos this]at hk;exact hk
 have yes:Ro (s.drop i)->s.drop i≠ []->K (Cn (s.drop i) (hdB (bt (s.drop i) 0)) (hdS (bt (s.drop i) 0)-1):Nat) (hdS (bt (s.drop i) 0):Nat) st:=fun h hne=>by
  have hv:=pd_val _ hne h
  unfold rD at hk
  rw[if_neg (by rw[hv.1];exact h.1),hv.1,hv.2]at hk
  exact hk
 have hlen:(s.drop i).length=s.length-i:=by simp
 have hb:∀j,bt (s.drop i) j=(s.getD (i+j) 0).toNat:=GP s i
 refine Pv s I st K (Aa (fun h=>by omega) fun _=>Aa (fun h=>?_) fun h=>⟨⟨by omega,by omega⟩,?_⟩)
 ·have:s.drop i=[]:=List.drop_of_length_le (by omega)
  have h0:rD (s.drop i)=(0,0):=by rw[this];simp[rD,ul]
  rw[h0]at hk;exact hk
 have hne:s.drop i≠ []:=by
  intro h0
  have:=congrArg List.length h0
  rw[hlen]at this;simp only[List.length_nil]at this;omega
 have hb0:(List.getD s (Int.toNat I) 0).toNat=bt (s.drop i) 0:=by rw[hb,hI];rfl
 have hlt:=FA (s.drop i) 0
 rw[hb0]
 refine head_ok rfl hlt ?_
 have hsz:hdS (bt (s.drop i) 0)<=4:=by unfold hdS;(repeat' split)<;>omega
 have hbz:hdB (bt (s.drop i) 0)<256:=by unfold hdB;(repeat' split)<;>omega
 unfold Ro at no yes
 generalize hdS (bt (s.drop i) 0)=n at*
 generalize hdB (bt (s.drop i) 0)=r0 at*
 rw[Ah _ (by omega) (by omega)]
 refine Aa (fun g=>no (fun hh=>hh.1 (by omega)) hne) fun g1=>Aa (fun g=>no (fun hh=>by omega) hne) fun g2=>?_
 have hra:=Rn (s.drop i) r0 hbz
 refine⟨fun r j s' at' sz st2=>s=s'/\I=at'/\st=st2/\((n:Nat):Int)=sz/\∃k:Nat,j=((k+1:Nat):Int)/\k+1<=n/\r=((Cn (s.drop i) r0 k:Nat):Int)/\∀m,1<=m->m<=k->bt (s.drop i) m/64=2,fun _ j _ _ sz _=>(sz-j).toNat,⟨rfl,rfl,rfl,rfl,0,rfl,by omega,rfl,fun m h1 h2=>by omega⟩,?_⟩
 rintro _ _ _ _ _ _ ⟨rfl,rfl,rfl,rfl,k,rfl,hk1,rfl,hall⟩
 have hrk:=hra k
 have h64:64^k<=64^3:=Nat.pow_le_pow_right (by decide) (by omega)
 refine Aa (fun h2=>?_) fun h2=>?_
 ·rw[Ah (I+((k+1:Nat):Int)) (by omega) (by omega)]
  have hbk:(List.getD s (Int.toNat (I+((k+1:Nat):Int))) 0).toNat=bt (s.drop i) (k+1):=by
   rw[hb,show Int.toNat (I+((k+1:Nat):Int))=i+(k+1) by omega]
  have hbl:=FA (s.drop i) (k+1)
  have h192:AM .and .u8 ((bt (s.drop i) (k+1):Nat):Int) (192:Int)=((bt (s.drop i) (k+1)&&&192:Nat):Int):=YF _ 192 hbl (by decide)
  have hand:i64.wrap (AM .and .u8 ((bt (s.drop i) (k+1):Nat):Int) (63:Int))=((bt (s.drop i) (k+1)%64:Nat):Int):=by
   rw[show(63:Int)=((2^6-1:Nat):Int) by decide,Ke _ 6 hbl (by decide),Ah _ (by omega) (by omega)]
  have hmul:i64.wrap (((Cn (s.drop i) r0 k:Nat):Int)*2^(min (Int.toNat (6:Int)) (IntKind.bits .i64)))=((Cn (s.drop i) r0 k*2^6:Nat):Int):=by
   rw[show(2:Int)^(min (Int.toNat (6:Int)) (IntKind.bits .i64))=64 by decide,Ah _ (by omega) (by omega)];omega
  have hc:(bt (s.drop i) (k+1)&&&192)=128↔bt (s.drop i) (k+1)/64=2:=by
   have:∀x,x<256->((x&&&192)=128↔x/64=2):=by decide+kernel
   exact this _ hbl
  refine⟨⟨by omega,by omega⟩,?_⟩
  rw[hbk,h192,hand,hmul,Ul _ _ 6 (by omega) (by omega),Ah _ (by omega) (by omega)]
  refine Aa (fun h3=>no (fun hh=>h3 ?_) hne) fun h3=>?_
  ·have:=hh.2.2.1 (k+1) (by omega) (by omega)
   rw[hc.2 this];rfl
  ·have h4:bt (s.drop i) (k+1)/64=2:=hc.1 (by omega)
   refine⟨⟨rfl,rfl,rfl,rfl,k+1,by omega,by omega,by simp only[Cn],fun m m1 m2=>?_⟩,by dsimp only;omega⟩
   by_cases hm:m=k+1
   ·rw[hm];exact h4
   ·exact hall m m1 (by omega)
 ·have hks:k=n-1:=by omega
  subst hks
  refine Wg rfl (Ak (fun h3=>no (fun hh=>?_) hne) fun h3=>W1 rfl (Aa (fun h4=>no (fun hh=>?_) hne) fun h4=>?_))
  ·simp only[Bool.not_eq_true',decide_eq_false_iff_not]at h3
   exact h3 hh.2.2.2.1
  ·rw[hh.2.2.2.2]at h4;exact h4 rfl
  ·simp only[Bool.not_eq_false',decide_eq_true_eq]at h3
   exact yes ⟨by omega,by omega,fun m m1 m2=>hall m m1 (by omega),h3,by omega⟩ hne
theorem uLen_ok {s:B8} {st:St} {K:Int->Int->St->Prop} (hl:s.length<=2000000) (hk:∀n:Int,K n (if AX s=s.length then 0 else 5) st):CallT PR K7 [.str s] [.one (.int .i64),.one (.int .i64)] st K:=by
 have hv:=Ld s
 refine TI s st K ⟨fun n i s' st'=>s=s'/\st=st'/\∃k:Nat,i=(k:Int)/\k<=s.length/\k+AX (s.drop k)=AX s,fun _ i _ _=>(s.length-i).toNat,⟨rfl,rfl,0,rfl,by omega,by simp⟩,?_⟩
 rintro n _ _ _ ⟨rfl,rfl,k,rfl,h1,h2⟩
 refine Aa (fun g1=>Of rfl hl h1 ?_) fun g1=>?_
 ·have hle:=Jr (s.drop k)
  rw[List.length_drop]at hle
  unfold rD
  by_cases h0:ul (s.drop k)=0
  ·rw[if_pos h0]
   rw[BG _ h0]at h2
   have:=hk 0
   rw[if_neg (by omega)]at this
   exact Aa (fun _=>this) fun h=>absurd rfl h
  ·rw[if_neg h0]
   rw[BH _ h0,List.drop_drop]at h2
   refine Aa (fun h=>absurd h (by show ¬((ul (s.drop k):Nat):Int)=0;omega)) fun _=>?_
   have w:i64.wrap ((k:Int)+(ul (s.drop k):Nat))=((k+ul (s.drop k):Nat):Int):=by rw[Ah _ (by omega) (by omega)];omega
   dsimp only
   rw[w]
   exact⟨⟨rfl,rfl,_,rfl,by omega,by omega⟩,by omega⟩
 ·rw[show s.drop k=[]from List.drop_of_length_le (by omega),Hg]at h2
  have:=hk n
  rw[if_pos (by omega)]at this
  exact this
theorem J1 {s:B8} {st:St} {K:Bool->St->Prop} (hl:s.length<=2000000) (hk:K (decide (AX s=s.length)) st):CallT PR DB [.str s] [.one (.bool)] st K:=by
 refine QU s st K (uLen_ok hl fun n=>?_)
 by_cases h:AX s=s.length
 ·rw[if_pos h];rw[decide_eq_true h]at hk;exact hk
 ·rw[if_neg h];rw[decide_eq_false h]at hk;exact hk
theorem Ln {l:B8} {c:UInt8} (hc:c.toNat<128) (hl:l.length<=9223372036854775807) {st:St} {K:B8->St->Prop} (hk:K (Lib.trimRightB l c) st):CallT PR Dn [.str l,.str [c]] [.one .str] st K:=by
 refine DA (fun _ _=>by kernel_rfl) fun g w vargs s hr=>?_
 obtain⟨v,u,rfl,hv,hu⟩:=Ox hr
 rw[Bo hv,Bo hu]
 refine Calls.mono (Tryz.strings_TrimRight_one ⟨l.toArray⟩ c hc w (by simpa [ByteArray.size]using hl)) ?_
 rintro e w' ⟨rfl,rfl⟩
 exact⟨_,rfl,.str _,st,g,hk,s,Rel.str _,Ext.refl _ _⟩
theorem Js (l:B8):(Lib.trimRightB l 48).length+Bu l=l.length:=by
 unfold Lib.trimRightB Bu
 have:=congrArg List.length (List.takeWhile_append_dropWhile (p:=fun x:UInt8=>x==48) (l:=l.reverse))
 rw[List.length_append,List.length_reverse]at this
 rw[List.length_reverse];omega
theorem WY {l:B8} (hl:l.length<=2000000) {st:St} {K:Int->St->Prop} (hk:K (Bu l:Nat) st):CallT PR Fl [.str l] [.one (.int .i64)] st K:=by
 refine Ns _ st K (Ln (by decide) (by omega) ?_)
 have:=Js l
 rw[Ah _ (by omega) (by omega),show((l.length:Nat):Int)-((Lib.trimRightB l 48).length:Int)=(Bu l:Nat) by omega]
 exact hk
theorem TJ {p:UInt8->Bool}:∀(r:B8) (n:Nat),n<=r.length->(∀j x,j<n->r[j]? =some x->p x=true)->(∀x,r[n]? =some x->p x=false)->(r.takeWhile p).length=n
 | [],n,h,_,_=>by simp at h;simp[h]
 | a::r,0,_,_,h=>by simp[List.takeWhile_cons,h a rfl]
 | a::r,n+1,h,h1,h2=>by
  rw[List.takeWhile_cons,if_pos (h1 0 a (by omega) rfl),List.length_cons,TJ r n (by simpa using h) (fun j x hj hx=>h1 (j+1) x (by omega) (by simpa using hx)) (fun x hx=>h2 x (by simpa using hx))]
theorem Xj (l:B8) (n:Nat) (h:n<l.length):l.reverse[n]? =some (List.getD l (l.length-1-n) 0):=by
 rw[List.getElem?_reverse h,List.getD_eq_getElem?_getD,List.getElem?_eq_getElem (by omega),Option.getD_some]
theorem Wi {l:B8} (hl:l.length<=2000000) {st:St} {K:Int->St->Prop} (hk:K (Bu l:Nat) st):CallT PR Db [.str l] [.one (.int .i64)] st K:=by
 refine IW l st K ⟨fun i s st'=>l=s/\st=st'/\∃n:Nat,i=n/\n<=l.length/\∀j x,j<n->l.reverse[j]? =some x->(x==48)=true,fun i _ _=>(l.length-i).toNat,⟨rfl,rfl,0,rfl,Nat.zero_le _,fun j x hj=>absurd hj (Nat.not_lt_zero _)⟩,?_⟩
 rintro _ _ _ ⟨rfl,rfl,n,rfl,hn,hall⟩
 refine Aa (fun g=>?_) fun g=>?_
 ·have hr:=Xj l n (by omega)
  rw[Ah ((l.length:Int)-1) (by omega) (by omega),Ah _ (by omega) (by omega),show Int.toNat ((l.length:Int)-1-(n:Int))=l.length-1-n by omega]
  refine⟨⟨by omega,by omega⟩,?_⟩
  generalize List.getD l (l.length-1-n) 0=c at hr⊢
  refine Aa (fun g2=>?_) fun g2=>?_
  ·rw[Ah _ (by omega) (by omega)]
   refine⟨⟨rfl,rfl,n+1,by omega,by omega,fun j x hj hx=>?_⟩,by dsimp only;omega⟩
   by_cases hjn:j=n
   ·subst hjn
    rw[hr]at hx
    rw[<-Option.some.inj hx]
    simpa [<-UInt8.toNat_inj]using (by omega:c.toNat=48)
   ·exact hall j x (by omega) hx
  ·have:Bu l=n:=TJ _ n (by simpa using hn) hall fun x hx=>by
    rw[hr]at hx
    rw[<-Option.some.inj hx]
    have:c≠48:=fun e=>g2 (by rw[e];rfl)
    simpa using this
   rw[<-this];exact hk
 ·have:Bu l=n:=TJ _ n (by simpa using hn) hall fun x hx=>by
   rw[List.getElem?_eq_none (by simp;omega)]at hx;cases hx
  rw[<-this];exact hk
theorem Gd {l:B8} {n:Nat} (h:n<l.length):List.getD l n 0∈l:=by
 rw[List.getD_eq_getElem?_getD,List.getElem?_eq_getElem h,Option.getD_some]
 exact List.getElem_mem h
theorem TB {P:UInt8->Prop} {l:B8} {n:Nat} (h:n<l.length) (h1:∀c,c∈l.take n->P c) (h2:P (List.getD l n 0)):∀c,c∈l.take (n+1)->P c:=by
 intro c hc
 rw[EN _ _ 0 h]at hc
 rcases List.mem_append.1 hc with hc | hc
 ·exact h1 c hc
 ·rw[List.mem_singleton.1 hc];exact h2
theorem all_ok {l:B8} (hl:l.length<=2000000) {st:St} {K:Bool->St->Prop} (hk:K (decide (∀c,c∈l->AS c)) st):CallT PR G7 [.str l] [.one .bool] st K:=by
 refine PC l st K ⟨fun i s m st'=>l=s/\(l.length:Int)=m/\st=st'/\∃n:Nat,i=n/\n<=l.length/\∀c,c∈l.take n->AS c,fun i _ _ _=>(l.length-i).toNat,⟨rfl,rfl,rfl,0,rfl,Nat.zero_le _,fun c hc=>by simp at hc⟩,?_⟩
 rintro _ _ _ _ ⟨rfl,rfl,rfl,n,rfl,hn,hall⟩
 refine Aa (fun g=>?_) fun g=>?_
 ·have hm:=Gd (l:=l) (n:=n) (by omega)
  have bad:¬AS (List.getD l n 0)->K false st:=fun hb=>by
   rw[decide_eq_false fun h=>hb (h _ hm)]at hk;exact hk
  rw[Int.toNat_natCast]
  refine⟨⟨by omega,by omega⟩,Aa (fun g2=>bad (by unfold AS;omega)) fun g2=>⟨⟨by omega,by omega⟩,Aa (fun g3=>bad (by unfold AS;omega)) fun g3=>?_⟩⟩
  rw[Ah _ (by omega) (by omega)]
  exact⟨⟨rfl,rfl,rfl,n+1,by omega,by omega,TB (by omega) hall (by unfold AS;omega)⟩,by dsimp only;omega⟩
 ·have:n=l.length:=by omega
  subst this
  rw[List.take_length]at hall
  rw[decide_eq_true hall]at hk;exact hk
theorem Uc {l:B8} (hl:l.length<=2000000) {st:St} {K:Bool->St->Prop} (hk:K (decide (∀c,c∈l->AS c)) st):CallT PR CI [.str l] [.one .bool] st K:=by
 refine HX l st K ⟨fun i s st'=>l=s/\st=st'/\∃n:Nat,i=n/\n<=l.length/\∀c,c∈l.take n->AS c,fun i _ _=>(l.length-i).toNat,⟨rfl,rfl,0,rfl,Nat.zero_le _,fun c hc=>by simp at hc⟩,?_⟩
 rintro _ _ _ ⟨rfl,rfl,n,rfl,hn,hall⟩
 refine Aa (fun g=>?_) fun g=>?_
 ·have hm:=Gd (l:=l) (n:=n) (by omega)
  have bad:¬AS (List.getD l n 0)->K false st:=fun hb=>by
   rw[decide_eq_false fun h=>hb (h _ hm)]at hk;exact hk
  rw[Int.toNat_natCast]
  refine⟨⟨by omega,by omega⟩,Aa (fun g2=>bad (by unfold AS;omega)) fun g2=>⟨⟨by omega,by omega⟩,Aa (fun g3=>bad (by unfold AS;omega)) fun g3=>?_⟩⟩
  rw[Ah _ (by omega) (by omega)]
  exact⟨⟨rfl,rfl,n+1,by omega,by omega,TB (by omega) hall (by unfold AS;omega)⟩,by dsimp only;omega⟩
 ·have:n=l.length:=by omega
  subst this
  rw[List.take_length]at hall
  rw[decide_eq_true hall]at hk;exact hk
def JS (l:B8):Prop:=l.length<=600/\(∀c,c∈l->AS c)/\(l≠ []->l.getD 0 0≠48)
instance (l:B8):Decidable (JS l):=inferInstanceAs (Decidable (_/\_/\(_->_)))
theorem ne48 (c:UInt8):decide ((c.toNat:Int)≠48)=decide (c≠48):=by
 have:((c.toNat:Int)≠48)↔c≠48:=by rw[ne_eq,ne_eq,<-UInt8.toNat_inj];exact not_congr ⟨fun h=>Int.ofNat.inj h,fun h=>by rw[h];rfl⟩
 exact decide_eq_decide.2 this
theorem QD {l:B8} (hl:l.length<=2000000) {st:St} {K:Bool->St->Prop} (hk:K (decide (JS l)) st):CallT PR DZ [.str l] [.one .bool] st K:=by
 have no:¬JS l->K false st:=fun h=>by rw[decide_eq_false h]at hk;exact hk
 refine Nt l st K (Aa (fun g=>all_ok hl (Aa (fun g2=>Aa (fun g3=>?_) fun g3=>⟨⟨by omega,by have:=List.length_pos_iff.2 g3;omega⟩,?_⟩) fun g2=>no fun h=>g2 h.2.1)) fun g=>no fun h=>g (by have:=h.1;omega))
 ·rw[decide_eq_true (show JS l from⟨by omega,g2,fun h=>absurd g3 h⟩)]at hk;exact hk
 ·rw[ne48]
  refine Ck (decide_eq_decide.2 ?_) hk
  exact⟨fun h=>⟨by omega,g2,fun _=>h⟩,fun h=>h.2.2 g3⟩
theorem rNum_ok {l:B8} (hl:l.length<=2000000) {st:St} {K:Bool->St->Prop} (hk:K (decide (JS l)) st):CallT PR Dc [.str l] [.one .bool] st K:=by
 have no:¬JS l->K false st:=fun h=>by rw[decide_eq_false h]at hk;exact hk
 refine IX l st K (Aa (fun g=>Uc hl (Aa (fun g2=>Aa (fun g3=>?_) fun g3=>⟨⟨by omega,by omega⟩,?_⟩) fun g2=>no fun h=>g2 h.2.1)) fun g=>no fun h=>g (by have:=h.1;omega))
 ·rw[decide_eq_true (show JS l from⟨by omega,g2,fun h=>absurd (List.eq_nil_of_length_eq_zero (by omega)) h⟩)]at hk;exact hk
 ·rw[ne48]
  refine Ck (decide_eq_decide.2 ?_) hk
  exact⟨fun h=>⟨by omega,g2,fun _=>h⟩,fun h=>h.2.2 fun e=>g3 (by rw[e];rfl)⟩
theorem HB {neg:Bool} {l:B8} {ex:Int} (h:l≠ []):FD neg l ex↔JS l/\l.length<=120/\Bu l=0/\ -400<=ex/\ex<=400:=by
 unfold FD JS
 constructor
 ·intro g
  obtain⟨g1,g2,g3,g4,g5,g6⟩:=g.2 h
  exact⟨⟨by omega,g2,fun _=>g3⟩,g1,g4,g5,g6⟩
 ·rintro⟨⟨g1,g2,g3⟩,g4,g5,g6,g7⟩
  exact⟨fun e=>absurd e h,fun _=>⟨g4,g2,g3 h,g5,g6,g7⟩⟩
theorem QB {neg:Bool} {ex:Int}:FD neg [] ex↔neg=false/\ex=0:=by
 unfold FD
 exact⟨fun g=>g.1 rfl,fun g=>⟨fun _=>g,fun h=>absurd rfl h⟩⟩
theorem Ng {neg:Bool} {l:B8} {ex:Int} (hl:l.length<=2000000) {st:St} {K:Bool->St->Prop} (hk:K (decide (FD neg l ex)) st):CallT PR DD [.agg [.bool neg,.str l,.int .i64 ex]] [.one .bool] st K:=by
 have no:¬FD neg l ex->K false st:=fun h=>by rw[decide_eq_false h]at hk;exact hk
 refine L8 _ _ _ st K (Aa (fun g=>?_) fun g=>?_)
 ·subst g
  refine Ck ?_ hk
  rw[Bool.eq_iff_iff]
  simp[QB]
 ·refine QD hl (Aa (fun g2=>Aa (fun g3=>WY hl (Aa (fun g4=>Aa (fun g5=>?_) fun g5=>?_) fun g4=>?_)) fun g3=>?_) fun g2=>?_)
  ·exact Ck (decide_eq_decide.2 (by rw[HB g];exact⟨fun h=>⟨g2,by omega,by omega,g5,h⟩,fun h=>h.2.2.2.2⟩)) hk
  ·exact no fun h=>g5 ((HB g).1 h).2.2.2.1
  ·exact no fun h=>g4 (by have:=((HB g).1 h).2.2.1;omega)
  ·exact no fun h=>g3 (by have:=((HB g).1 h).2.1;omega)
  ·exact no fun h=>g2 ((HB g).1 h).1
theorem Lo {k d n z:Int} {st:St} {K:Bool->St->Prop} (hk:K (decide (Ft k d n z)) st):CallT PR CL [.agg [.int .i64 k,.int .i64 d,.int .i64 n,.int .i64 z]] [.one .bool] st K:=by
 refine Np _ _ _ _ st K ?_
 repeat' first
  | exact Ck (Eq.symm (decide_eq_false (by unfold Ft;omega))) hk
  | exact Ck (Eq.symm (decide_eq_true (by unfold Ft;omega))) hk
  | exact Ck (decide_eq_decide.2 (by unfold Ft;omega)) hk
  | refine Aa (fun _=>?_) fun _=>?_
theorem orc {c p r:Bool} {K:Bool->Prop} {R1 R2:Prop} (h1:K r->R1) (h2:K r->R2) (hk:K ((c&&p) || r)):BIf c (BIf p (K true) R1) R2:=by
 cases c<;>cases p<;>simp only[Bool.true_and,Bool.false_and,Bool.true_or,Bool.false_or]at hk<;>first | exact h1 hk | exact h2 hk | exact hk
theorem orn {c p r s:Bool} {K:Bool->Prop} {R1 R2:Prop} (hs:s=true) (h1:K r->R1) (h2:K r->R2) (hk:K ((c&&p) || r)):BIf c (need s (BIf p (K true) R1)) R2:=by
 subst hs;exact orc h1 h2 hk
theorem ore {c p s:Bool} {K:Bool->Prop} (hs:s=true) (hk:K (c&&p)):BIf c (need s (K p)) (K false):=by
 subst hs;cases c<;>exact hk
def exB (s:Sc) (l:List Vl) (f:List Fd):Bool:=
 (decide (s.kind≠1)&&s.b) || ((decide (s.kind≠2)&& !((s.neg==false)&&(decide (s.dg=[])&&(decide (s.ex=0)&&true)))) || ((decide (s.kind≠3)&& !(decide (s.tk=0)&&(decide (s.td=0)&&(decide (s.tn=0)&&(decide (s.tz=0)&&true))))) ||
  ((decide (s.kind≠4)&&decide (s.text≠ [])) || ((decide (s.kind≠5)&&decide (0<(s.bytes.length:Int))) || ((decide (s.kind≠6)&&decide (0<(l.length:Int))) || (decide (s.kind≠7)&&decide (0<(f.length:Int))))))))
theorem XQ {α:Type} {l:List α}:¬0<(l.length:Int)↔l=[]:=by
 rw[<-List.length_eq_zero_iff];omega
theorem Qy {s:Sc} {l:List Vl} {f:List Fd} (h0:0<=s.kind) (h7:s.kind<=7):exB s l f=false↔Pm s l f:=by
 unfold exB
 simp only[Bool.or_eq_false_iff,Bool.and_eq_false_imp,decide_eq_true_eq,Bool.not_eq_false',Bool.and_eq_true,beq_iff_eq,decide_eq_false_iff_not,XQ,ne_eq,Decidable.not_not,and_true]
 constructor
 ·rintro⟨a,b,c,d,e,f,g⟩;exact⟨h0,h7,a,b,c,d,e,f,g⟩
 ·rintro⟨_,_,a,b,c,d,e,f,g⟩;exact⟨a,b,c,d,e,f,g⟩
theorem exB_eq {s:Sc} {l:List Vl} {f:List Fd} (h0:0<=s.kind) (h7:s.kind<=7):exB s l f= !decide (Pm s l f):=by
 cases h:exB s l f with
 | false=>rw[decide_eq_true ((Qy h0 h7).1 h)];rfl
 | true=>rw[decide_eq_false fun o=>by rw[(Qy h0 h7).2 o]at h;cases h];rfl
theorem Yd {s:Sc} {l:List Vl} {f:List Fd} {ub ul uf:TV} {st:St} {K:Bool->St->Prop} (h1:isSl ub=true) (h2:isSl ul=true) (h3:isSl uf=true) (l1:lenS ub=s.bytes.length) (l2:lenS ul=l.length) (l3:lenS uf=f.length) (hk:K (exB s l f) st):
  CallT PR Ge [.agg (A7 s ub ul uf)] [.one .bool] st K:=by
 unfold exB at hk
 refine N2 _ _ _ _ _ _ _ _ _ _ _ _ _ st K ?_
 rw[l1,l2,l3]
 revert hk
 repeat' first
  | (refine fun hk=>ore (K:=fun b=>K b st) h3 hk)
  | (refine fun hk=>orn (K:=fun b=>K b st) h1 ?_ ?_ hk)
  | (refine fun hk=>orn (K:=fun b=>K b st) h2 ?_ ?_ hk)
  | (refine fun hk=>orc (K:=fun b=>K b st) ?_ ?_ hk)
theorem key_ok {s:B8} (hl:s.length<=2000000) {st:St} {K:Int->St->Prop} (hk:K ((if U8 s then(if 1024<s.length then 10 else 0)else 5:Nat):Int) st):CallT PR Id [.str s] [.one (.int .i64)] st K:=by
 refine QR _ st K (J1 hl (Ak (fun g=>?_) fun g=>?_))
 ·have hu:¬U8 s:=by unfold U8;simpa using g
  rw[if_neg hu]at hk;exact hk
 ·have hu:U8 s:=by unfold U8;simpa using g
  rw[if_pos hu]at hk
  refine Aa (fun g2=>?_) fun g2=>?_
  ·have h3:1024<s.length:=by omega
   rw[if_pos h3]at hk;exact hk
  ·have h3:¬1024<s.length:=by omega
   rw[if_neg h3]at hk;exact hk
theorem OW (k k':B8) (v:TV):∀es:List (B8×TV),Du k (Km k' v es)=if k=k' then some v else Du k es
 | []=>by
  simp only[Km,Du]
  by_cases h:k=k'<;>simp[h]
 | (k1,v1)::es=>by
  simp only[Km]
  by_cases h1:k'=k1
  ·simp only[h1,decide_true,Du]
   by_cases h:k=k1<;>simp[h]
  ·simp only[h1,decide_false,Du,OW k k' v es]
   by_cases h:k=k1
   ·simp[h,Ne.symm h1]
   ·simp[h]
def YH (es:List (B8×TV)) (ns:List B8):Prop:=∀t,Du t es=if t∈ns then some (.bool true)else none
theorem YH.add {es:List (B8×TV)} {ns:List B8} (h:YH es ns) (t:B8):YH (Km t (.bool true) es) (t::ns):=by
 intro k
 rw[OW]
 by_cases hk:k=t
 ·simp[hk]
 ·rw[if_neg hk,h k];simp[hk]
theorem UB (seen:List B8) (d:Fd) (r:List Fd):Hv seen (d::r)=if U8 d.key then(if 1024<d.key.length then 10 else if d.key∈seen then 8 else Hv (d.key::seen) r)else 5:=rfl
theorem Hz {α:Type} {l:List α} {k:Nat} {x:α} (h:l[k]? =some x):l.drop k=x::l.drop (k+1):=by
 obtain⟨q1,q2⟩:=List.getElem?_eq_some_iff.1 h
 rw[List.drop_eq_getElem_cons q1,q2]
theorem key_len {f:List Fd} {d:Fd} (h:d∈f):d.key.length<=Fk f:=by
 have:=Te h
 cases d;unfold Fd.sz at this;simp only[Fd.key];omega
theorem keys_ok {st0 st:St} {uf:TV} {xf:List TV} {f:List Fd} (hke:Ff st0 st) (h4:SlR st0 14 uf f.length xf) (h5:FsR st0 f xf) (hN:Fk f<=2000000) {K:Int->St->Prop} (hk:∀st',Aq st st'->K (Hv [] f:Nat) st'):
  CallT PR G1 [uf] [.one (.int .i64)] st K:=by
 have hfl:=Fa f
 refine Pr _ st K (Ab h4.isSl ⟨fun i m u n st'=> .map st.nb=m/\uf=u/\(f.length:Int)=n/\∃(k:Nat) (ns:List B8) (es:List (B8×TV)),i=k/\k<=f.length/\Aq st st'/\st.nb<st'.nb/\st'.box st.nb= .map es/\YH es ns/\Hv [] f=Hv ns (f.drop k),fun i _ _ _ _=>(f.length-i).toNat,
  ⟨rfl,rfl,by rw[h4.lenS],0,[],[],rfl,Nat.zero_le _,(Aq.refl st).push _ _,by simp[St.push],by simp[St.push],fun t=>by simp[Du],rfl⟩,?_⟩)
 rintro _ _ _ _ st1 ⟨rfl,rfl,rfl,k,ns,es,rfl,hkf,e1,hb,hm,hns,hE⟩
 refine Aa (fun g=>?_) fun g=>?_
 ·refine el14 (hke.trans e1.keeps) h4 h5 rfl (by omega) fun key s' l' f' ub1 ul1 uf1 gw hw on=>Ab on ?_
  have hmem:=Uu gw
  have hkl:=key_len hmem
  rw[Hz gw,UB]at hE
  change Hv [] f=if U8 key then(if 1024<key.length then 10 else if key∈ns then 8 else Hv (key::ns) (f.drop (k+1)))else 5 at hE
  change key.length<=_ at hkl
  refine key_ok (by omega) ?_
  by_cases g1:U8 key
  case neg=>
   rw[if_neg g1]at hE⊢
   refine Aa (fun _=>?_) fun h=>absurd (by decide) h
   rw[<-hE];exact hk st1 e1
  rw[if_pos g1]at hE⊢
  by_cases g2:1024<key.length
  ·rw[if_pos g2]at hE⊢
   refine Aa (fun _=>?_) fun h=>absurd (by decide) h
   rw[<-hE];exact hk st1 e1
  rw[if_neg g2]at hE⊢
  refine Aa (fun h=>absurd rfl h) fun _=>Ad (x:=es) (by simp only[JE,hm]) ?_
  rw[hns key]
  by_cases g3:key∈ns
  ·rw[if_pos g3]at hE⊢
   refine Ar (Ak (fun _=>?_) fun h=>by cases h)
   have:=hk st1 e1
   rw[hE]at this;exact this
  ·rw[if_neg g3]at hE⊢
   refine Ar (Ak (fun h=>by cases h) fun _=>⟨es,hm,?_⟩)
   rw[Ah _ (by omega) (by omega)]
   exact⟨⟨rfl,rfl,rfl,k+1,key::ns,_,by omega,by omega,StX.ext e1 (StX.put (S:=fun i=>i=st.nb) rfl _) (fun i hi=>by rw[hi];exact Nat.le_refl _),hb,by simp[St.put],hns.add key,hE⟩,by dsimp only;omega⟩
 ·have:k=f.length:=by omega
  subst this
  rw[List.drop_length]at hE
  have:=hk st1 e1
  rw[hE]at this;exact this
theorem Ff.stx {b:Nat} {a c d:St} (h:Ff a c) (k:StX (fun i=>i=b) c d) (hb:a.nb<=b):Ff a d:=
 ⟨Nat.le_trans h.1 k.nb,fun i hi=>(k.box i (Nat.lt_of_lt_of_le hi h.1) (by omega)).trans (h.2 i hi)⟩
theorem chkV_eq {d n:Nat} {s:Sc} {l:List Vl} {f:List Fd} (h1:¬48<d) (h2:¬65536<=n) (h3:Gb s l f=0):EA d n (.mk s l f)=Hn (HD (d+1) (n+1) l) fun m=>HE (d+1) m f:=by
 unfold EA;rw[if_neg h1,if_neg h2,if_neg (fun h=>h h3)]
theorem Ts {d n:Nat} {s:Sc} {l:List Vl} {f:List Fd} (h1:¬48<d) (h2:¬65536<=n) (h3:Gb s l f≠0):EA d n (.mk s l f)=(n,Gb s l f):=by
 unfold EA;rw[if_neg h1,if_neg h2,if_pos h3]
theorem UX (d n:Nat) (v:Vl) (r:List Vl):HD d n (v::r)=Hn (EA d n v) fun m=>HD d m r:=by rw[HD]
theorem UY (d n:Nat) (k:B8) (v:Vl) (r:List Fd):HE d n (.mk k v::r)=Hn (EA d n v) fun m=>HE d m r:=by rw[HE,chkD]
theorem TG:U8 []:=by unfold U8;rw[Hg];rfl
theorem Yt:∀(N:Nat) (v:Vl),v.sz<=N->N<=2000000->∀{st0 st:St} {cs:List TV} {b d n:Nat} {D:Int} {K:Int->St->Prop},VlR st0 v cs->Ff st0 st->st0.nb<=b->b<st.nb->st.box b= .cells [.int .i64 (n:Nat)]->n<=65536->D=(d:Int)->d<=100->
  (∀st' (m:Nat),StX (fun i=>i=b) st st'->st'.box b= .cells [.int .i64 (m:Nat)]->((EA d n v).2=0->m=(EA d n v).1/\m<=65536)->K ((EA d n v).2:Nat) st')->CallT PR Dm [.agg cs,.int .i64 D,.box b 0] [.one (.int .i64)] st K:=by
 intro N
 induction N with
 | zero=>intro v h;have:=v.sz_pos;omega
 | succ N ih=>
 intro v hN hN2 st0 st cs b d n D K h hke hb0 hb hbx hn hD hd hk
 subst hD
 cases v with
 | mk s l f=>
 have hsz:(Vl.mk s l f).sz=1+s.bytes.length+s.text.length+s.dg.length+D2 l+Fk f:=by unfold Vl.sz;rfl
 have hll:=I8 l
 have hfl:=Fa f
 unfold VlR at h
 obtain⟨ub,ul,uf,xl,xf,rfl,h1,h2,h3,h4,h5⟩:=h
 refine N3 _ _ _ _ _ _ _ _ _ _ _ _ _ (d:Int) b st K ?_
 refine Ad (x:= .int .i64 (n:Nat)) (by simp[Ac,hbx]) (Ax ?_)
 rw[Ah _ (by omega) (by omega)]
 refine⟨_,hbx,by simp,?_⟩
 obtain⟨st1,hst1⟩:∃st1,st1=st.put b (.cells (setAll [.int .i64 (n:Nat)] 0 [.int .i64 ((n:Int)+1)])):=⟨_,rfl⟩
 rw[<-hst1]
 have e1:StX (fun i=>i=b) st st1:=by rw[hst1];exact StX.put (S:=fun i=>i=b) rfl _
 have hb1:st1.box b= .cells [.int .i64 ((n+1:Nat):Int)]:=by rw[hst1];simp[St.put,setAll]
 have hke1:=hke.stx e1 hb0
 refine⟨fun dp p kd bo ng dg ex tk td tn tz tx u1 u2 u3 st'=>dp=d/\p= .box b 0/\ul=u2/\uf=u3/\¬48<d/\¬65536<=n/\Gb s l f=Hv [] f/\StX (fun i=>i=b) st st'/\st'.box b= .cells [.int .i64 ((n+1:Nat):Int)],?_,?_⟩
 ·--the value but for the values in it
  refine Aa (fun g=>?_) fun g=>?_
  ·have hc:EA d n (.mk s l f)=(n,9):=by unfold EA;rw[if_pos (by omega)]
   have:=hk st1 (n+1) e1 hb1 (by rw[hc];intro h;cases h)
   rw[hc]at this;exact this
  refine Ad (x:= .int .i64 ((n+1:Nat):Int)) (by simp[Ac,hb1]) (Ax (Aa (fun g2=>?_) fun g2=>?_))
  ·have hc:EA d n (.mk s l f)=(n,10):=by unfold EA;rw[if_neg (by omega),if_pos (by omega)]
   have:=hk st1 (n+1) e1 hb1 (by rw[hc];intro h;cases h)
   rw[hc]at this;exact this
  have hg1:¬48<d:=by omega
  have hg2:¬65536<=n:=by omega
  --an error of the value itself
  have err:∀st',StX (fun i=>i=b) st st'->st'.box b= .cells [.int .i64 ((n+1:Nat):Int)]->Gb s l f≠0->K ((Gb s l f:Nat):Int) st':=fun st' e' hb' ho=>by
   have hc:=Ts hg1 hg2 ho
   have:=hk st' (n+1) e' hb' (by rw[hc];intro h;exact absurd h ho)
   rw[hc]at this;exact this
  refine⟨fun q dp p kd bo ng dg ex tk td tn tz tx u1 u2 u3 st'=>dp=d/\p= .box b 0/\kd=s.kind/\ng=s.neg/\dg=s.dg/\ex=s.ex/\tk=s.tk/\td=s.td/\tn=s.tn/\tz=s.tz/\tx=s.text/\ub=u1/\ul=u2/\uf=u3/\q= !decide (Pm s l f)/\st1=st',?_,?_⟩
  ·refine Aa (fun g3=>?_) fun g3=>Aa (fun g4=>?_) fun g4=>?_
   ·exact⟨rfl,rfl,rfl,rfl,rfl,rfl,rfl,rfl,rfl,rfl,rfl,rfl,rfl,rfl,by rw[decide_eq_false fun o=>by have:=o.k0;omega];rfl,rfl⟩
   ·exact⟨rfl,rfl,rfl,rfl,rfl,rfl,rfl,rfl,rfl,rfl,rfl,rfl,rfl,rfl,by rw[decide_eq_false fun o=>by have:=o.k7;omega];rfl,rfl⟩
   ·exact Yd (s:=s) (l:=l) (f:=f) h1.isSl h2.isSl h4.isSl h1.lenS h2.lenS h4.lenS ⟨rfl,rfl,rfl,rfl,rfl,rfl,rfl,rfl,rfl,rfl,rfl,rfl,rfl,rfl,exB_eq (by omega) (by omega),rfl⟩
  rintro q _ _ _ bo _ _ _ _ _ _ _ _ _ _ _ _ ⟨rfl,rfl,rfl,rfl,rfl,rfl,rfl,rfl,rfl,rfl,rfl,rfl,rfl,rfl,rfl,rfl⟩
  by_cases ho:Pm s l f
  case neg=>
   refine Ak (fun _=>?_) fun h=>by rw[decide_eq_false ho]at h;cases h
   have h6:Gb s l f=6:=by unfold Gb;rw[if_neg ho]
   have:=err st1 e1 hb1 (by rw[h6];decide)
   rw[h6]at this;exact this
  refine Ak (fun h=>by rw[decide_eq_true ho]at h;cases h) fun _=>?_
  have hdec:s.kind≠2->FD s.neg s.dg s.ex:=fun hk2=>by
   obtain⟨q1,q2,q3⟩:=ho.nu hk2
   rw[q2];exact QB.2 ⟨q1,q3⟩
  refine⟨fun q dp p kd bo ng dg ex tk td tn tz tx u1 u2 u3 st'=>dp=d/\p= .box b 0/\kd=s.kind/\tx=s.text/\ub=u1/\ul=u2/\uf=u3/\q= !(decide (FD s.neg s.dg s.ex)&&decide (s.kind=3->Ft s.tk s.td s.tn s.tz))/\st1=st',?_,?_⟩
  ·refine Aa (fun g3=>Ng (by omega) ?_) fun g3=>Aa (fun g4=>Lo ?_) fun g4=>?_
   ·by_cases hq:FD s.neg s.dg s.ex
    ·refine Ak (fun h=>by rw[decide_eq_true hq]at h;cases h) fun _=>Aa (fun g4=>by omega) fun g4=>?_
     exact⟨rfl,rfl,rfl,rfl,rfl,rfl,rfl,by rw[decide_eq_true hq,decide_eq_true fun h=>absurd h g4];rfl,rfl⟩
    ·refine Ak (fun h=>?_) fun h=>by rw[decide_eq_false hq]at h;cases h
     exact⟨rfl,rfl,rfl,rfl,rfl,rfl,rfl,by rw[decide_eq_false hq];rfl,rfl⟩
   ·exact⟨rfl,rfl,rfl,rfl,rfl,rfl,rfl,by rw[decide_eq_true (hdec g3),decide_eq_decide.2 (show(s.kind=3->Ft s.tk s.td s.tn s.tz)↔_ from⟨fun h=>h g4,fun h _=>h⟩)];rfl,rfl⟩
   ·exact⟨rfl,rfl,rfl,rfl,rfl,rfl,rfl,by rw[decide_eq_true (hdec g3),decide_eq_true fun h=>absurd h g4];rfl,rfl⟩
  rintro q _ _ _ bo2 ng2 dg2 ex2 tk2 td2 tn2 tz2 _ _ _ _ _ ⟨rfl,rfl,rfl,rfl,rfl,rfl,rfl,rfl,rfl⟩
  by_cases hq:FD s.neg s.dg s.ex
  case neg=>
   refine Ak (fun _=>?_) fun h=>by rw[decide_eq_false hq]at h;cases h
   have h6:Gb s l f=2:=by unfold Gb;rw[if_pos ho,if_neg hq]
   have:=err st1 e1 hb1 (by rw[h6];decide)
   rw[h6]at this;exact this
  by_cases hq2:s.kind=3->Ft s.tk s.td s.tn s.tz
  case neg=>
   refine Ak (fun _=>?_) fun h=>by rw[decide_eq_true hq,decide_eq_false hq2]at h;cases h
   have h6:Gb s l f=2:=by unfold Gb;rw[if_pos ho,if_pos hq,if_neg hq2]
   have:=err st1 e1 hb1 (by rw[h6];decide)
   rw[h6]at this;exact this
  refine Ak (fun h=>by rw[decide_eq_true hq,decide_eq_true hq2]at h;cases h) fun _=>?_
  --sizes
  have sizes:U8 s.text->∀(X:Prop),(Gb s l f=Hv [] f->X)->BIf (decide (65536<(s.text.length:Int))) (K 10 st1) (need (isSl ub) (BIf (decide (65536<(lenS ub:Int))) (K 10 st1) X)):=fun hu X hX=>by
   have h6:Gb s l f=if 65536<s.text.length then 10 else if 65536<s.bytes.length then 10 else Hv [] f:=by unfold Gb;rw[if_pos ho,if_pos hq,if_pos hq2,if_pos hu]
   refine Aa (fun g5=>?_) fun g5=>Ab h1.isSl (Aa (fun g6=>?_) fun g6=>?_)
   ·rw[if_pos (by omega)]at h6
    have:=err st1 e1 hb1 (by rw[h6];decide)
    rw[h6]at this;exact this
   ·rw[h1.lenS]at g6
    rw[if_neg (by omega),if_pos (by omega)]at h6
    have:=err st1 e1 hb1 (by rw[h6];decide)
    rw[h6]at this;exact this
   ·rw[h1.lenS]at g6
    rw[if_neg (by omega),if_neg (by omega)]at h6
    exact hX h6
  refine Aa (fun g3=>J1 (by omega) (Ak (fun g4=>?_) fun g4=>?_)) fun g3=>?_
  ·have hu:¬U8 s.text:=by unfold U8;simpa using g4
   have h6:Gb s l f=5:=by unfold Gb;rw[if_pos ho,if_pos hq,if_pos hq2,if_neg hu]
   have:=err st1 e1 hb1 (by rw[h6];decide)
   rw[h6]at this;exact this
  ·exact sizes (by unfold U8;simpa using g4) _ fun h6=>⟨rfl,rfl,rfl,rfl,hg1,hg2,h6,e1,hb1⟩
  ·exact sizes (by rw[ho.tx g3];exact TG) _ fun h6=>⟨rfl,rfl,rfl,rfl,hg1,hg2,h6,e1,hb1⟩
 ·rintro _ _ kd bo ng dg ex tk td tn tz tx u1 _ _ st2 ⟨rfl,rfl,rfl,rfl,hg1,hg2,h6,e2,hb2⟩
  have hke2:=hke.stx e2 hb0
  refine keys_ok hke2 h4 h5 (by omega) fun st3 e3=>?_
  have e23:=e2.trans (StX.of e3)
  have hb3:st3.box b= .cells [.int .i64 ((n+1:Nat):Int)]:=(e3.box b (by have:=e2.nb;omega)).trans hb2
  refine Aa (fun g=>?_) fun g=>Ab h2.isSl ?_
  ·have ho:Gb s l f≠0:=by rw[h6];omega
   have hc:=Ts hg1 hg2 ho
   have:=hk st3 (n+1) e23 hb3 (by rw[hc];intro h;exact absurd h ho)
   rw[hc,h6]at this;exact this
  have hone:Gb s l f=0:=by rw[h6];omega
  have hC:=chkV_eq hg1 hg2 hone
  refine⟨fun i dp p u m kd bo ng dg ex tk td tn tz tx u1 u2 u3 st'=>dp=d/\p= .box b 0/\ul=u/\m=(l.length:Int)/\uf=u3/\∃k c:Nat,i=k/\k<=l.length/\c<=65536/\StX (fun i=>i=b) st st'/\st'.box b= .cells [.int .i64 ((c:Nat):Int)]/\HD (d+1) (n+1) l=HD (d+1) c (l.drop k),
   fun i _ _ _ _ _ _ _ _ _ _ _ _ _ _ _ _ _ _=>(l.length-i).toNat,⟨rfl,rfl,rfl,by rw[h2.lenS],rfl,0,n+1,rfl,Nat.zero_le _,by omega,e23,hb3,rfl⟩,?_⟩
  rintro _ _ _ _ _ kd bo ng dg ex tk td tn tz tx u1 u2 _ st4 ⟨rfl,rfl,rfl,rfl,rfl,k,c,rfl,hkl,hc,e4,hb4,hE⟩
  have hke4:=hke.stx e4 hb0
  refine Aa (fun g3=>?_) fun g3=>?_
  ·refine el13 hke4 h2 h3 rfl (by omega) fun s' l' f' ub1 ul1 uf1 gw hw on=>Ab on ?_
   have hwsz:=NZ gw
   rw[Hz gw,UX]at hE
   rw[Ah _ (by omega) (by omega)]
   refine ih _ (by omega) (by omega) (d:=d+1) hw hke4 hb0 (by have:=e4.nb;omega) hb4 hc (by omega) (by omega) fun st5 m e5 hb5 hm=>?_
   have e45:=e4.trans e5
   refine Aa (fun g4=>?_) fun g4=>?_
   ·have hne:(EA (d+1) c (.mk s' l' f')).2≠0:=by omega
    rw[Mg hne]at hE
    have hc2:EA d n (.mk s l f)=EA (d+1) c (.mk s' l' f'):=by rw[hC,hE,Mg hne]
    have:=hk st5 m e45 hb5 (by rw[hc2];intro h;exact absurd h hne)
    rw[hc2]at this;exact this
   ·have hz:(EA (d+1) c (.mk s' l' f')).2=0:=by omega
    rw[Oh hz]at hE
    obtain⟨hm1,hm2⟩:=hm hz
    rw[Ah _ (by omega) (by omega)]
    exact⟨⟨rfl,rfl,rfl,rfl,rfl,k+1,m,by omega,by omega,hm2,e45,hb5,by rw[hE,hm1]⟩,by dsimp only;omega⟩
  ·have hkk:k=l.length:=by omega
   subst hkk
   rw[List.drop_length]at hE
   have hE2:HD (d+1) (n+1) l=(c,0):=by rw[hE,HD]
   rw[hE2,Oh rfl]at hC
   refine Ab h4.isSl ?_
   refine⟨fun i dp p u m st'=>dp=d/\p= .box b 0/\uf=u/\m=(f.length:Int)/\∃k c2:Nat,i=k/\k<=f.length/\c2<=65536/\StX (fun i=>i=b) st st'/\st'.box b= .cells [.int .i64 ((c2:Nat):Int)]/\HE (d+1) c f=HE (d+1) c2 (f.drop k),
    fun i _ _ _ _ _=>(f.length-i).toNat,⟨rfl,rfl,rfl,by rw[h4.lenS],0,c,rfl,Nat.zero_le _,hc,e4,hb4,rfl⟩,?_⟩
   rintro _ _ _ _ _ st5 ⟨rfl,rfl,rfl,rfl,k,c2,rfl,hkf,hc2,e5,hb5,hF⟩
   have hke5:=hke.stx e5 hb0
   refine Aa (fun g4=>?_) fun g4=>?_
   ·refine el14 hke5 h4 h5 rfl (by omega) fun key s' l' f' ub1 ul1 uf1 gw hw on=>Ab on ?_
    have hwsz:=OU gw
    have hwk:(Fd.mk key (.mk s' l' f')).sz=key.length+(Vl.mk s' l' f').sz:=by unfold Fd.sz;rfl
    rw[Hz gw,UY]at hF
    rw[Ah _ (by omega) (by omega)]
    refine ih (.mk s' l' f') (by omega) (by omega) (d:=d+1) hw hke5 hb0 (by have:=e5.nb;omega) hb5 hc2 (by omega) (by omega) fun st6 m e6 hb6 hm=>?_
    have e56:=e5.trans e6
    refine Aa (fun g5=>?_) fun g5=>?_
    ·have hne:(EA (d+1) c2 (.mk s' l' f')).2≠0:=by omega
     rw[Mg hne]at hF
     have hc3:EA d n (.mk s l f)=EA (d+1) c2 (.mk s' l' f'):=by rw[hC];exact hF
     have:=hk st6 m e56 hb6 (by rw[hc3];intro h;exact absurd h hne)
     rw[hc3]at this;exact this
    ·have hz:(EA (d+1) c2 (.mk s' l' f')).2=0:=by omega
     rw[Oh hz]at hF
     obtain⟨hm1,hm2⟩:=hm hz
     rw[Ah _ (by omega) (by omega)]
     exact⟨⟨rfl,rfl,rfl,rfl,k+1,m,by omega,by omega,hm2,e56,hb6,by rw[hF,hm1]⟩,by dsimp only;omega⟩
   ·have hkk:k=f.length:=by omega
    subst hkk
    rw[List.drop_length]at hF
    have hF2:EA d n (.mk s l f)=(c2,0):=by rw[hC];show HE (d+1) c f=_;rw[hF,HE]
    have:=hk st5 c2 e5 hb5 (by rw[hF2];exact fun _=>⟨rfl,hc2⟩)
    rw[hF2]at this;exact this
theorem YI {v:Vl} (hN:v.sz<=2000000) {st0 st:St} {cs:List TV} {K:Int->St->Prop} (h:VlR st0 v cs) (hke:Ff st0 st) (hk:∀st',Aq st st'->K (JN v:Nat) st'):
  CallT PR Gf [.agg cs] [.one (.int .i64)] st K:=by
 have h0:=h
 cases v with
 | mk s l f=>
 unfold VlR at h0
 obtain⟨ub,ul,uf,xl,xf,rfl,_⟩:=h0
 have he:Aq st (st.push (.cells [.int .i64 0]) (some 3)):=(Aq.refl st).push _ _
 refine N4 _ _ _ _ _ _ _ _ _ _ _ _ _ st K ⟨[.int .i64 0],by simp[St.push],by simp,?_⟩
 obtain⟨st1,hst1⟩:∃st1,st1=(st.push (.cells [.int .i64 0]) (some 3)).put st.nb (.cells (setAll [.int .i64 0] 0 [.int .i64 0])):=⟨_,rfl⟩
 rw[<-hst1]
 have e1:Aq st st1:=by rw[hst1];exact StX.ext he (StX.put (S:=fun i=>i=st.nb) rfl _) (fun i hi=>by rw[hi];exact Nat.le_refl _)
 have hb1:st1.box st.nb= .cells [.int .i64 ((0:Nat):Int)]:=by rw[hst1];simp[St.put,setAll]
 exact Yt 2000000 _ hN (by omega) (d:=1) h (hke.trans e1.keeps) hke.1 (by rw[hst1];simp[St.put,St.push]) hb1 (by omega) rfl (by omega) fun st2 m e2 hb2 _=>hk st2 (StX.ext e1 e2 (fun i hi=>by rw[hi];exact Nat.le_refl _))
theorem VsR.snoc {st:St} {v:Vl} {cv:List TV}:∀{l:List Vl} {xs:List TV},VsR st l xs->VlR st v cv->VsR st (l++[v]) (xs++cv)
 | [],xs,h,hv=>by
  unfold VsR at h
  subst h
  show VsR st [v] _
  unfold VsR
  exact⟨cv,[],by simp,hv,by unfold VsR;rfl⟩
 | w::r,xs,h,hv=>by
  unfold VsR at h
  obtain⟨a,b,rfl,h1,h2⟩:=h
  show VsR st (w::(r++[v])) _
  unfold VsR
  exact⟨a,b++cv,by simp,h1,VsR.snoc h2 hv⟩
theorem VlR.cells {st:St} {s:Sc} {l:List Vl} {f:List Fd} {cs:List TV} (h:VlR st (.mk s l f) cs):∃ub ul uf xl xf,cs=A7 s ub ul uf/\SlR st 1 ub s.bytes.length (AF s.bytes)/\SlR st 13 ul l.length xl/\VsR st l xl/\SlR st 14 uf f.length xf/\FsR st f xf:=by
 unfold VlR at h
 obtain⟨ub,ul,uf,xl,xf,rfl,h⟩:=h
 exact⟨ub,ul,uf,xl,xf,rfl,h⟩
theorem szs (s:Sc) (l:List Vl) (f:List Fd):(Vl.mk s l f).sz=1+s.bytes.length+s.text.length+s.dg.length+D2 l+Fk f:=by unfold Vl.sz;rfl
theorem szd (k:B8) (v:Vl):(Fd.mk k v).sz=k.length+v.sz:=by unfold Fd.sz;rfl
theorem Tu {v:Vl} (h:JN v=0):Nn v:=RK v 1 0 h
def Aw (s:B8):B8:=s.takeWhile fun c=>decide (AS c)
def F6 (n:Nat) (l:B8):Nat:=l.foldl (fun n c=>10*n+(c.toNat-48)) n
def Bq (l:B8):Nat:=F6 0 l
def A2 (l:B8):B8:=l.dropWhile (·==48)
def dcN (neg:Bool) (s:B8) (ex:Int):Bool×B8×Int×Int:=
 if s=[]then(false,[],0,0)else if 400<ex+Bu s∨ex+Bu s< -400∨120<s.length-Bu s then(false,[],0,2)else(neg,s.take (s.length-Bu s),ex+Bu s,0)
def KM:Bool×B8×Int×Int:=(false,[],0,3)
def dcX (neg:Bool) (all:B8) (ex:Int) (less:Bool) (r:B8):Bool×B8×Int×Int:=
 if r=[]∨(Aw r).length≠r.length then KM else dcN neg (A2 all) (if less then ex-Bq r else ex+Bq r)
def dcE (neg:Bool) (all:B8) (ex:Int) (r:B8):Bool×B8×Int×Int:=
 if r=[]then dcN neg (A2 all) ex else if r.getD 0 0=101∨r.getD 0 0=69 then
  (if (r.drop 1).getD 0 0=45 then dcX neg all ex true (r.drop 2)else if (r.drop 1).getD 0 0=43 then dcX neg all ex false (r.drop 2)else dcX neg all ex false (r.drop 1))
 else KM
def dcF (neg:Bool) (a:B8) (r:B8):Bool×B8×Int×Int:=
 if r.getD 0 0=46 then(if Aw (r.drop 1)=[]then KM else dcE neg (a++Aw (r.drop 1)) (-(Aw (r.drop 1)).length) (r.drop (1+(Aw (r.drop 1)).length)))
 else dcE neg a 0 r
def dcQ (neg:Bool) (s:B8):Bool×B8×Int×Int:=
 if Aw s=[]∨(1<(Aw s).length/\s.getD 0 0=48)then KM else dcF neg (Aw s) (s.drop (Aw s).length)
def dcP (s:B8):Bool×B8×Int×Int:=if s.getD 0 0=45 then dcQ true (s.drop 1)else dcQ false s
theorem WN {a r:B8} (ha:∀c,c∈a->AS c) (hr:¬AS (r.getD 0 0)):Aw (a++r)=a:=by
 induction a with
 | nil=>
  cases r with
  | nil=>rfl
  | cons c r=>exact List.takeWhile_cons_of_neg (by simpa using hr)
 | cons c a ih=>
  unfold Aw at ih⊢
  rw[List.cons_append,List.takeWhile_cons_of_pos (by simpa using ha c List.mem_cons_self),ih fun x hx=>ha x (List.mem_cons_of_mem _ hx)]
theorem Gk (s:B8):∀c,c∈Aw s->AS c:=by
 induction s with
 | nil=>intro c h;cases h
 | cons a s ih=>
  intro c h
  unfold Aw at h ih
  rw[List.takeWhile_cons]at h
  split at h
  ·rename_i hd
   rcases List.mem_cons.1 h with rfl | h
   ·exact of_decide_eq_true hd
   ·exact ih c h
  ·cases h
theorem Cu (s:B8):(Aw s).length<=s.length:=(List.takeWhile_sublist _).length_le
theorem MS (s:B8):s=Aw s++s.drop (Aw s).length:=by
 induction s with
 | nil=>rfl
 | cons a s ih=>
  unfold Aw at ih⊢
  rw[List.takeWhile_cons]
  split
  ·rw[List.length_cons,List.drop_succ_cons,List.cons_append,<-ih]
  ·rfl
theorem D5 (s:B8):s.take (Aw s).length=Aw s:=by
 have h:=MS s
 have:s.take (Aw s).length=(Aw s++s.drop (Aw s).length).take (Aw s).length:=by rw[<-h]
 rw[this,List.take_left]
theorem NX (l:B8):Bu l<=l.length:=by
 unfold Bu
 have:=(List.takeWhile_sublist (l:=l.reverse) (fun x:UInt8=>x==48)).length_le
 rwa [List.length_reverse]at this
theorem Ju {c:UInt8} {l:B8} (h:c≠48):A2 (c::l)=c::l:=by
 unfold A2;rw[List.dropWhile_cons,if_neg (by simpa using h)]
theorem KZ (k:Nat) (l:B8):A2 (List.replicate k 48++l)=A2 l:=by
 induction k with
 | zero=>rfl
 | succ k ih=>rw[List.replicate_succ,List.cons_append];unfold A2 at ih⊢;rw[List.dropWhile_cons,if_pos (by simp),ih]
theorem Oc (n:Nat) (a b:B8):F6 n (a++b)=F6 (F6 n a) b:=by
 unfold F6;rw[List.foldl_append]
def b0 (s:B8) (k:Nat):UInt8:=s.getD k 0
def dv (s:B8) (k:Nat):Nat:=(b0 s k).toNat-48
def d2 (s:B8) (k:Nat):Nat:=dv s k*10+dv s (k+1)
def dd (s:B8) (k:Nat):Prop:=AS (b0 s k)/\AS (b0 s (k+1))
instance (s:B8) (k:Nat):Decidable (dd s k):=inferInstanceAs (Decidable (_/\_))
def JG (s:B8):Prop:=dd s 0/\b0 s 2=58/\dd s 3/\b0 s 5=58/\dd s 6
instance (s:B8):Decidable (JG s):=inferInstanceAs (Decidable (_/\_/\_/\_/\_))
def DU (s:B8):Prop:=dd s 0/\dd s 2/\b0 s 4=45/\dd s 5/\b0 s 7=45/\dd s 8
instance (s:B8):Decidable (DU s):=inferInstanceAs (Decidable (_/\_/\_/\_/\_/\_))
def LM (f:B8):Nat:=Bq (f++List.replicate (9-f.length) 48)
def Gn (s:B8):Option (Nat×Nat×Nat×Nat×B8):=
 if JG s then
  (if b0 s 8=46 then(if Aw (s.drop 9)=[]∨9<(Aw (s.drop 9)).length then none else some (d2 s 0,d2 s 3,d2 s 6,LM (Aw (s.drop 9)),s.drop (9+(Aw (s.drop 9)).length)))
  else some (d2 s 0,d2 s 3,d2 s 6,0,s.drop 8))
 else none
def ND (s:B8):Option (Bool×Nat×Nat):=
 if s=[90]∨s=[122]then some (false,0,0)else if s.length=6/\(b0 s 0=43∨b0 s 0=45)/\dd s 1/\b0 s 3=58/\dd s 4 then some (decide (b0 s 0=45),d2 s 1,d2 s 4)else none
def okD (y m d:Nat):Prop:=1<=y/\y<=9999/\1<=m/\m<=12/\1<=d/\d<=Ko y m
instance (y m d:Nat):Decidable (okD y m d):=inferInstanceAs (Decidable (_/\_/\_/\_/\_/\_))
def Kp (y m d:Nat):Nat:=yrS y+E7 y m+(d-1)
abbrev TmR:=Int×Int×Int×Int×Int
def It:TmR:=(0,0,0,0,3)
def Ir:TmR:=(0,0,0,0,2)
def okC (h m s:Nat):Prop:=h<=23/\m<=59/\s<=59
instance (h m s:Nat):Decidable (okC h m s):=inferInstanceAs (Decidable (_/\_/\_))
def Fz (h m s f:Nat):Nat:=((h*60+m)*60+s)*1000000000+f
def tmO (y mo d h m s f:Nat) (r:B8):TmR:=
 if r=[]then(if okD y mo d/\okC h m s then(3,(Kp y mo d:Nat),(Fz h m s f:Nat),0,0)else Ir)
 else match ND r with
  | none=>It
  | some (ls,oh,om)=>if okD y mo d/\okC h m s/\oh<=23/\om<=59 then(4,(Kp y mo d:Nat),(Fz h m s f:Nat),if ls then-((oh*60+om:Nat):Int)else((oh*60+om:Nat):Int),0)else Ir
def tmD (y mo d:Nat) (r:B8):TmR:=
 if r=[]then(if okD y mo d then(1,(Kp y mo d:Nat),0,0,0)else Ir)
 else if b0 r 0=84∨b0 r 0=116∨b0 r 0=32 then
  match Gn (r.drop 1)with
  | none=>It
  | some (h,m,s,f,r')=>tmO y mo d h m s f r'
 else It
def tmP (s:B8):TmR:=
 if DU s then tmD (d2 s 0*100+d2 s 2) (d2 s 5) (d2 s 8) (s.drop 10)
 else match Gn s with
  | none=>It
  | some (h,m,sc,f,r)=>if r=[]then(if okC h m sc then(2,0,(Fz h m sc f:Nat),0,0)else Ir)else It
theorem Lm:∀(l:B8) (a:Nat),F6 a l=a*10^l.length+F6 0 l
 | [],a=>by simp[F6]
 | c::l,a=>by
  have h1:=Lm l (10*a+(c.toNat-48))
  have h2:=Lm l (10*0+(c.toNat-48))
  show F6 (10*a+(c.toNat-48)) l=_+F6 (10*0+(c.toNat-48)) l
  rw[h1,h2,List.length_cons,Nat.pow_succ,Nat.add_mul,Nat.add_mul]
  have:10*a*10^l.length=a*(10^l.length*10):=by rw[Nat.mul_comm 10 a,Nat.mul_assoc,Nat.mul_comm 10]
  omega
theorem PX:∀(w n:Nat),n<10^w->Bq (Cj w n)=n
 | 0,n,h=>by rw[show n=0 by simpa using h];rfl
 | w+1,n,h=>by
  have:=PX w (n/10) (by rw[Nat.div_lt_iff_lt_mul (by omega)];rw[Nat.pow_succ]at h;exact h)
  unfold Bq at this⊢
  rw[Cj,Oc,this]
  unfold F6
  rw[List.foldl_cons,List.foldl_nil,VP _ (by omega)];omega
theorem Yp:∀(l:B8),∃k,l=LS l++List.replicate k 48:=by
 intro l
 have:∀n (l:B8),l.length=n->∃k,l=LS l++List.replicate k 48:=by
  intro n
  induction n with
  | zero=>intro l h;rw[List.eq_nil_of_length_eq_zero h];exact⟨0,rfl⟩
  | succ n ih=>
   intro l h
   have hne:l≠ []:=fun e=>by rw[e]at h;simp at h
   have hl:=List.dropLast_concat_getLast hne
   generalize l.dropLast=a at hl
   generalize l.getLast hne=c at hl
   rw[<-hl,QF]
   rw[<-hl,List.length_append]at h
   by_cases h0:c=48
   ·obtain⟨k,hk⟩:=ih a (by simpa using h)
    rw[if_pos h0]
    refine⟨k+1,?_⟩
    rw[List.replicate_succ',<-List.append_assoc,<-hk,h0]
   ·rw[if_neg h0];exact⟨0,by simp⟩
 exact this _ l rfl
theorem WG {n:Nat} (h:n<1000000000):LM (LS (Cj 9 n))=n:=by
 obtain⟨k,hk⟩:=Yp (Cj 9 n)
 have hl:=congrArg List.length hk
 rw[Bw,List.length_append,List.length_replicate]at hl
 unfold LM
 rw[show 9-(LS (Cj 9 n)).length=k by omega,<-hk]
 exact PX 9 n h
theorem cut0_ne {n:Nat} (h:n<1000000000) (h0:n≠0):LS (Cj 9 n)≠ []:=by
 intro e
 have:=WG h
 rw[e]at this
 exact h0 (this.symm.trans (by decide))
theorem H9 (y m:Nat):Ko y m<=31:=by
 have ite:∀{p:Prop} [Decidable p] {a b:Nat},a<=31->b<=31->(if p then a else b)<=31:=fun h1 h2=>by split<;>assumption
 unfold Ko
 exact ite (ite (by omega) (by omega)) (ite (by omega) (by omega))
theorem datT_eq {n y m d:Nat} (h:Ip n y m d):O8 n=Cj 4 y++45::(Cj 2 m++45::Cj 2 d):=by unfold O8;rw[WQ h]
theorem J0:∀(l:B8),(∀c,c∈l->AS c)->Bq l<10^l.length
 | [],_=>by decide
 | c::l,h=>by
  have ih:=J0 l fun x hx=>h x (.tail _ hx)
  have hc:=(h c (.head _)).2
  unfold Bq at ih⊢
  rw[show F6 0 (c::l)=F6 (c.toNat-48) l by simp[F6],Lm,List.length_cons,Nat.pow_succ]
  have:(c.toNat-48)*10^l.length<=9*10^l.length:=Nat.mul_le_mul_right _ (by omega)
  omega
theorem valN_ge {c:UInt8} {l:B8} (hc:AS c) (h0:c≠48):10^l.length<=Bq (c::l):=by
 unfold Bq
 rw[show F6 0 (c::l)=F6 (c.toNat-48) l by simp[F6],Lm]
 have h1:=hc.1
 have h2:c.toNat≠48:=fun e=>h0 (UInt8.toNat_inj.1 (by simpa using e))
 have:1*10^l.length<=(c.toNat-48)*10^l.length:=Nat.mul_le_mul_right _ (by omega)
 omega
theorem F5:∀l:B8,Bq (A2 l)=Bq l
 | []=>rfl
 | c::l=>by
  by_cases h:c=48
  ·subst h
   have:=KZ 1 l
   rw[show List.replicate 1 (48:UInt8)++l=48::l from rfl]at this
   rw[this,F5 l]
   unfold Bq
   rw[show F6 0 (48::l)=F6 0 l by simp[F6]]
  ·rw[Ju h]
theorem H3 (l:B8):∀c,c∈A2 l->c∈l:=fun c h=>(List.dropWhile_sublist (l:=l) (fun x:UInt8=>x==48)).subset h
theorem EI (l:B8):(A2 l).length<=l.length:=(List.dropWhile_sublist (l:=l) (fun x:UInt8=>x==48)).length_le
theorem Jt (l:B8):(A2 l).getD 0 0≠48:=by
 induction l with
 | nil=>decide
 | cons c l ih=>
  by_cases h:c=48
  ·subst h
   have:=KZ 1 l
   rw[show List.replicate 1 (48:UInt8)++l=48::l from rfl]at this
   rw[this];exact ih
  ·rw[Ju h];exact h
theorem Sf {l:B8} {k:Nat} (h:∀c,c∈l->AS c) (hk:k<(A2 l).length):10^k<=Bq l:=by
 rw[<-F5 l]
 have h0:=Jt l
 have hs:=H3 l
 generalize A2 l=m at*
 cases m with
 | nil=>exact absurd hk (Nat.not_lt_zero _)
 | cons c m=>
  have:=valN_ge (l:=m) (h c (hs c (.head _))) h0
  rw[List.length_cons]at hk
  exact Nat.le_trans (Nat.pow_le_pow_right (by decide) (by omega)) this
theorem PY {l:B8} {k:Nat} (h:∀c,c∈l->AS c) (hk:(A2 l).length<=k):Bq l<10^k:=by
 rw[<-F5 l]
 exact Nat.lt_of_lt_of_le (J0 _ fun c hc=>h c (H3 l c hc)) (Nat.pow_le_pow_right (by decide) hk)
theorem VW {neg:Bool} {s:B8} {ex n m:Int} (hl:s.length<=100000000) (h1: -100000000<=ex) (h2:ex<=100000000) (hn:1000000000<=n) (hm:1000000000<=m) (less:Bool):
  dcN neg s (if less then ex-n else ex+n)=dcN neg s (if less then ex-m else ex+m):=by
 unfold dcN
 have hz:=NX s
 by_cases h:s=[]
 ·rw[if_pos h,if_pos h]
 ·rw[if_neg h,if_neg h]
  cases less with
  | true=>
   simp only[if_true]
   rw[if_pos (by omega),if_pos (by omega)]
  | false=>
   simp only[Bool.false_eq_true,if_false]
   rw[if_pos (by omega),if_pos (by omega)]
theorem VV (neg:Bool) (s:B8) (ex:Int):(dcN neg s ex).2.1.length<=s.length:=by
 unfold dcN
 split
 ·simp
 split
 ·simp
 ·show(s.take _).length<=_
  rw[List.length_take];omega
theorem RE (neg:Bool) (all:B8) (ex:Int) (less:Bool) (r:B8):(dcX neg all ex less r).2.1.length<=all.length:=by
 unfold dcX
 split
 ·simp[KM]
 ·exact Nat.le_trans (VV _ _ _) (EI all)
theorem VY (neg:Bool) (all:B8) (ex:Int) (r:B8):(dcE neg all ex r).2.1.length<=all.length:=by
 unfold dcE
 split
 ·exact Nat.le_trans (VV _ _ _) (EI all)
 split
 ·split
  ·exact RE _ _ _ _ _
  split
  ·exact RE _ _ _ _ _
  ·exact RE _ _ _ _ _
 ·simp[KM]
theorem dcF_len (neg:Bool) (a r:B8):(dcF neg a r).2.1.length<=a.length+r.length:=by
 unfold dcF
 split
 ·split
  ·simp[KM]
  ·refine Nat.le_trans (VY _ _ _ _) ?_
   rw[List.length_append]
   have:=Cu (r.drop 1)
   rw[List.length_drop]at this
   omega
 ·exact Nat.le_trans (VY _ _ _ _) (Nat.le_add_right _ _)
theorem VT (neg:Bool) (s:B8):(dcQ neg s).2.1.length<=s.length:=by
 unfold dcQ
 split
 ·simp[KM]
 ·refine Nat.le_trans (dcF_len _ _ _) ?_
  have:=Cu s
  rw[List.length_drop];omega
theorem dcP_len (s:B8):(dcP s).2.1.length<=s.length:=by
 unfold dcP
 split
 ·refine Nat.le_trans (VT _ _) ?_
  rw[List.length_drop];omega
 ·exact VT _ _
end Go.TVF
