/- What the laws below rest on: a framework for Go programs, and contracts of the functions that they reach. -/
import Derived.Test.YtpfhcnpnngjpnaaGreatDoorGeD
import Derived.Lib.DecodeN
set_option maxRecDepth 20000
set_option linter.unusedVariables false
set_option linter.unusedSimpArgs false
namespace Go.TVF
open Go.IntKind(i64 u8)
open Go Go.Proofs
theorem MR (src:B8) (st:St) (K:Int->St->Prop) (h:∃(I1:Int->B8->St->Prop) (M1:Int->B8->St->Nat),(I1 0 src st)/\∀b a c,I1 b a c->(BId (b<(a.length:Int)) (CallT PR Fq [.str a,.int .i64 b] [.one (.int .i64),.one (.int .i64)] c (fun (n1 n2:Int) d=>BId (n2=0) (K b d) ((I1 ((i64.wrap (b+n2))) a d/\M1 ((i64.wrap (b+n2))) a d<M1 b a c)))) (K (-1) c))):CallT PR Ff [.str src] [.one (.int .i64)] st K:=
 Ae (cfg:=⟨[],[],[]⟩) (h:=(.seq .none (.seq (.seq .none (.block (.loop ⟨[(3,.int .i64),(0,.str)],[],[],[]⟩ .none))) .none))) mixed (fun _ _=>Tryz.call118 _ _) Tryz.func118 (by kernel_rfl) (by kernel_rfl) h
theorem Ic (p:Nat) (number:Int) (st:St) (K:Int->B8->B8->TV->B8->Bool->St->Prop) (h:BId (number=0) (Ah (Ad st [] (.t (.box p 3)) 0) (fun (x1:TV)=>Ag .bool x1 (fun (b1:Bool)=>stB (st.push (.cells [.int .i64 0,(.str []),(.str []),.nilSlice,(.str [])]) (some 79)) (.box st.nb 0) [.int .i64 8,(.str []),(.str []),.nilSlice,(.str [])] (fun t3=>BIf (!b1) (CallT PR Bv [(.box p 0),.int .i64 2] [.one .bool] t3 (fun (b2:Bool) o0=>BIf (!b2) (Ah ((Ai o0 [] (.t (.box st.nb 0)) 0 5).map TV.agg) (fun (x2:TV)=>AO [.int .i64,.str,.str,.tv,.str] x2 (fun (n1:Int) (s1 s2:B8) (v1:TV) (s3:B8)=>need (List.all [.int .i64 n1,.str s1,.str s2,v1,.str s3] As) (K n1 s1 s2 v1 s3 false o0)))) (∃(I1:TV->Int->Bool->TV->St->Prop) (M1:TV->Int->Bool->TV->St->Nat),(I1 ((.box p 0)) number b1 ((.box st.nb 0)) o0)/\∀e i l a x,I1 e i l a x->(BId ((0:Int)<i) (need (isPtr a) (Ah (Ad x [] (.t (Ao a 3)) 0) (fun (v2:TV)=>need (isSl v2) (need (isPtr e) (need (isPtr e) (Ah (Ad x [] (.t (Ao e 12)) 0) (fun (x4:TV)=>Ag (.int .i64) x4 (fun (n2:Int)=>BId (n2<=(lenS v2:Int)) (Ah ((Ai x [] (.t a) 0 5).map TV.agg) (fun (x5:TV)=>AO [.int .i64,.str,.str,.tv,.str] x5 (fun (n3:Int) (s4 s5:B8) (v3:TV) (s6:B8)=>need (isPtr e) (need (isPtr e) (Ah (Ad x [] (.t (Ao e 10)) 0) (fun (x6:TV)=>Ag (.int .i64) x6 (fun (n4:Int)=>CallT PR Am [e,.int .i64 n4,.int .i64 10] [.one .bool] x (fun (b3:Bool) st4=>(Ai st4 [] (.t a) 0 5=some [.int .i64 n3,.str s4,.str s5,v3,.str s6]/\need (List.all [.int .i64 n3,.str s4,.str s5,v3,.str s6] As) (K n3 s4 s5 v3 s6 b3 st4)))))))))) (CallT PR AQ [e,.bool l] [.agg [.int .i64,.str,.str,.tv,.str],.one .bool] x (fun (n5:Int) (s7 s8:B8) (v4:TV) (s9:B8) (b4:Bool) f1=>need (List.all [.int .i64 n5,.str s7,.str s8,v4,.str s9] As) (BIf (!b4) (Ah ((Ai f1 [] (.t a) 0 5).map TV.agg) (fun (x7:TV)=>AO [.int .i64,.str,.str,.tv,.str] x7 (fun (n6:Int) (r6 s11:B8) (v5:TV) (s12:B8)=>need (List.all [.int .i64 n6,.str r6,.str s11,v5,.str s12] As) (K n6 r6 s11 v5 s12 false f1)))) (need (isPtr a) (Ah (Ad f1 [] (.t (Ao a 3)) 0) (fun (v6:TV)=>need (isSl v6) (need (isPtr a) (need (List.all [.int .i64 n5,.str s7,.str s8,v4,.str s9] As) ((((lenS v6:Int)=(lenS v6:Int))/\Bs 79 5 80 v6 1 [.int .i64 n5,.str s7,.str s8,v4,.str s9] f1 (fun (v7:TV) st6=>stB st6 (Ao a 3) [v7] (fun e9=>need (isSl v4) (BId ((lenS v4:Int)=(1:Int)) (need (isPtr e) (need (isPtr e) (Ah (Ad e9 [] (.t (Ao e 10)) 0) (fun (x9:TV)=>Ag (.int .i64) x9 (fun (n7:Int)=>CallT PR AI [e,a] [.one .bool] e9 (fun (b5:Bool) w=>BIf (!b5) (Ah ((Ai w [] (.t a) 0 5).map TV.agg) (fun (x10:TV)=>AO [.int .i64,.str,.str,.tv,.str] x10 (fun (n8:Int) (u4 s14:B8) (v8:TV) (t2:B8)=>need (List.all [.int .i64 n8,.str u4,.str s14,v8,.str t2] As) (K n8 u4 s14 v8 t2 false w)))) (BId (i=0) (need (isPtr a) (Ah (Ad w [] (.t (Ao a 3)) 0) (fun (v9:TV)=>need (isSl v9) (need (isPtr e) (need (isPtr e) (stB w (Ao e 12) [(.int .i64 (lenS v9:Int))] (fun a3=>need (isPtr a) (Ah (Ad a3 [] (.t (Ao a 3)) 0) (fun (v10:TV)=>need (isSl v10) (need (isPtr e) (need (isPtr e) (Ah (Ad a3 [] (.t (Ao e 12)) 0) (fun (x13:TV)=>Ag (.int .i64) x13 (fun (n9:Int)=>BId ((lenS v10:Int)<n9) (Ah ((Ai a3 [] (.t a) 0 5).map TV.agg) (fun (x14:TV)=>AO [.int .i64,.str,.str,.tv,.str] x14 (fun (p4:Int) (p5 j6:B8) (f5:TV) (i9:B8)=>CallT PR Am [e,.int .i64 n7,.int .i64 10] [.one .bool] a3 (fun (b6:Bool) j7=>(Ai j7 [] (.t a) 0 5=some [.int .i64 p4,.str p5,.str j6,f5,.str i9]/\need (List.all [.int .i64 p4,.str p5,.str j6,f5,.str i9] As) (K p4 p5 j6 f5 i9 b6 j7)))))) (Ah ((Ai a3 [] (.t a) 0 5).map TV.agg) (fun (x15:TV)=>AO [.int .i64,.str,.str,.tv,.str] x15 (fun (u5:Int) (t8 t4:B8) (v12:TV) (s21:B8)=>need (List.all [.int .i64 u5,.str t8,.str t4,v12,.str s21] As) (K u5 t8 t4 v12 s21 true a3)))))))))))))))))) (need (isPtr a) (Ah (Ad w [] (.t (Ao a 3)) 0) (fun (v13:TV)=>need (isSl v13) (need (isPtr e) (need (isPtr e) (Ah (Ad w [] (.t (Ao e 12)) 0) (fun (x17:TV)=>Ag (.int .i64) x17 (fun (n12:Int)=>BId ((lenS v13:Int)<n12) (Ah ((Ai w [] (.t a) 0 5).map TV.agg) (fun (x18:TV)=>AO [.int .i64,.str,.str,.tv,.str] x18 (fun (p2:Int) (o6 i0:B8) (k3:TV) (k2:B8)=>CallT PR Am [e,.int .i64 n7,.int .i64 10] [.one .bool] w (fun (b7:Bool) q1=>(Ai q1 [] (.t a) 0 5=some [.int .i64 p2,.str o6,.str i0,k3,.str k2]/\need (List.all [.int .i64 p2,.str o6,.str i0,k3,.str k2] As) (K p2 o6 i0 k3 k2 b7 q1)))))) (Ah ((Ai w [] (.t a) 0 5).map TV.agg) (fun (x19:TV)=>AO [.int .i64,.str,.str,.tv,.str] x19 (fun (n14:Int) (z9 s26:B8) (v15:TV) (s27:B8)=>need (List.all [.int .i64 n14,.str z9,.str s26,v15,.str s27] As) (K n14 z9 s26 v15 s27 true w))))))))))))))))))) ((I1 e i l a e9/\M1 e i l a e9<M1 e i l a x))))))))))))))))))))))) (CallT PR AQ [e,.bool l] [.agg [.int .i64,.str,.str,.tv,.str],.one .bool] x (fun (r0:Int) (m4 q9:B8) (c6:TV) (q6:B8) (b8:Bool) c1=>need (List.all [.int .i64 r0,.str m4,.str q9,c6,.str q6] As) (BIf (!b8) (Ah ((Ai c1 [] (.t a) 0 5).map TV.agg) (fun (x20:TV)=>AO [.int .i64,.str,.str,.tv,.str] x20 (fun (u7:Int) (t1 r8:B8) (v17:TV) (t6:B8)=>need (List.all [.int .i64 u7,.str t1,.str r8,v17,.str t6] As) (K u7 t1 r8 v17 t6 false c1)))) (need (isPtr a) (Ah (Ad c1 [] (.t (Ao a 3)) 0) (fun (f3:TV)=>need (isSl f3) (need (isPtr a) (need (List.all [.int .i64 r0,.str m4,.str q9,c6,.str q6] As) ((((lenS f3:Int)=(lenS f3:Int))/\Bs 79 5 80 f3 1 [.int .i64 r0,.str m4,.str q9,c6,.str q6] c1 (fun (v19:TV) st13=>stB st13 (Ao a 3) [v19] (fun c0=>need (isSl c6) (BId ((lenS c6:Int)=(1:Int)) (need (isPtr e) (need (isPtr e) (Ah (Ad c0 [] (.t (Ao e 10)) 0) (fun (x22:TV)=>Ag (.int .i64) x22 (fun (u0:Int)=>CallT PR AI [e,a] [.one .bool] c0 (fun (b9:Bool) s=>BIf (!b9) (Ah ((Ai s [] (.t a) 0 5).map TV.agg) (fun (x23:TV)=>AO [.int .i64,.str,.str,.tv,.str] x23 (fun (n18:Int) (s34 y5:B8) (v20:TV) (s36:B8)=>need (List.all [.int .i64 n18,.str s34,.str y5,v20,.str s36] As) (K n18 s34 y5 v20 s36 false s)))) (BId (i=0) (need (isPtr a) (Ah (Ad s [] (.t (Ao a 3)) 0) (fun (v21:TV)=>need (isSl v21) (need (isPtr e) (need (isPtr e) (stB s (Ao e 12) [(.int .i64 (lenS v21:Int))] (fun a1=>need (isPtr a) (Ah (Ad a1 [] (.t (Ao a 3)) 0) (fun (v22:TV)=>need (isSl v22) (need (isPtr e) (need (isPtr e) (Ah (Ad a1 [] (.t (Ao e 12)) 0) (fun (x26:TV)=>Ag (.int .i64) x26 (fun (n19:Int)=>BId ((lenS v22:Int)<n19) (Ah ((Ai a1 [] (.t a) 0 5).map TV.agg) (fun (x27:TV)=>AO [.int .i64,.str,.str,.tv,.str] x27 (fun (o4:Int) (i2 j5:B8) (o5:TV) (p3:B8)=>CallT PR Am [e,.int .i64 u0,.int .i64 10] [.one .bool] a1 (fun (b10:Bool) i7=>(Ai i7 [] (.t a) 0 5=some [.int .i64 o4,.str i2,.str j5,o5,.str p3]/\need (List.all [.int .i64 o4,.str i2,.str j5,o5,.str p3] As) (K o4 i2 j5 o5 p3 b10 i7)))))) (Ah ((Ai a1 [] (.t a) 0 5).map TV.agg) (fun (x28:TV)=>AO [.int .i64,.str,.str,.tv,.str] x28 (fun (w3:Int) (s40 s41:B8) (v24:TV) (s42:B8)=>need (List.all [.int .i64 w3,.str s40,.str s41,v24,.str s42] As) (K w3 s40 s41 v24 s42 true a1)))))))))))))))))) (need (isPtr a) (Ah (Ad s [] (.t (Ao a 3)) 0) (fun (w9:TV)=>need (isSl w9) (need (isPtr e) (need (isPtr e) (Ah (Ad s [] (.t (Ao e 12)) 0) (fun (x30:TV)=>Ag (.int .i64) x30 (fun (n22:Int)=>BId ((lenS w9:Int)<n22) (Ah ((Ai s [] (.t a) 0 5).map TV.agg) (fun (x31:TV)=>AO [.int .i64,.str,.str,.tv,.str] x31 (fun (k6:Int) (p9 o2:B8) (g3:TV) (g0:B8)=>CallT PR Am [e,.int .i64 u0,.int .i64 10] [.one .bool] s (fun (b11:Bool) g8=>(Ai g8 [] (.t a) 0 5=some [.int .i64 k6,.str p9,.str o2,g3,.str g0]/\need (List.all [.int .i64 k6,.str p9,.str o2,g3,.str g0] As) (K k6 p9 o2 g3 g0 b11 g8)))))) (Ah ((Ai s [] (.t a) 0 5).map TV.agg) (fun (x32:TV)=>AO [.int .i64,.str,.str,.tv,.str] x32 (fun (x3:Int) (s46 r5:B8) (r4:TV) (w4:B8)=>need (List.all [.int .i64 x3,.str s46,.str r5,r4,.str w4] As) (K x3 s46 r5 r4 w4 true s))))))))))))))))))) ((I1 e i l a c0/\M1 e i l a c0<M1 e i l a x))))))))))))))))))) (∃(I2:TV->Int->Bool->TV->St->Prop) (M2:TV->Int->Bool->TV->St->Nat),(I2 ((.box p 0)) number b1 ((.box st.nb 0)) t3)/\∀d j k b u,I2 d j k b u->(BId ((0:Int)<j) (need (isPtr b) (Ah (Ad u [] (.t (Ao b 3)) 0) (fun (x8:TV)=>need (isSl x8) (need (isPtr d) (need (isPtr d) (Ah (Ad u [] (.t (Ao d 12)) 0) (fun (x34:TV)=>Ag (.int .i64) x34 (fun (n25:Int)=>BId (n25<=(lenS x8:Int)) (Ah ((Ai u [] (.t b) 0 5).map TV.agg) (fun (x35:TV)=>AO [.int .i64,.str,.str,.tv,.str] x35 (fun (p1:Int) (o8 m8:B8) (g9:TV) (h1:B8)=>need (isPtr d) (need (isPtr d) (Ah (Ad u [] (.t (Ao d 10)) 0) (fun (x36:TV)=>Ag (.int .i64) x36 (fun (n27:Int)=>CallT PR Am [d,.int .i64 n27,.int .i64 10] [.one .bool] u (fun (b12:Bool) m9=>(Ai m9 [] (.t b) 0 5=some [.int .i64 p1,.str o8,.str m8,g9,.str h1]/\need (List.all [.int .i64 p1,.str o8,.str m8,g9,.str h1] As) (K p1 o8 m8 g9 h1 b12 m9)))))))))) (CallT PR AQ [d,.bool k] [.agg [.int .i64,.str,.str,.tv,.str],.one .bool] u (fun (o9:Int) (p0 j4:B8) (c5:TV) (o1:B8) (b13:Bool) a4=>need (List.all [.int .i64 o9,.str p0,.str j4,c5,.str o1] As) (BIf (!b13) (Ah ((Ai a4 [] (.t b) 0 5).map TV.agg) (fun (x37:TV)=>AO [.int .i64,.str,.str,.tv,.str] x37 (fun (n29:Int) (z1 s56:B8) (z6:TV) (z5:B8)=>need (List.all [.int .i64 n29,.str z1,.str s56,z6,.str z5] As) (K n29 z1 s56 z6 z5 false a4)))) (need (isPtr b) (Ah (Ad a4 [] (.t (Ao b 3)) 0) (fun (e7:TV)=>need (isSl e7) (need (isPtr b) (need (List.all [.int .i64 o9,.str p0,.str j4,c5,.str o1] As) ((((lenS e7:Int)=(lenS e7:Int))/\Bs 79 5 80 e7 1 [.int .i64 o9,.str p0,.str j4,c5,.str o1] a4 (fun (v33:TV) st22=>stB st22 (Ao b 3) [v33] (fun a6=>need (isSl c5) (BId ((lenS c5:Int)=(1:Int)) (need (isPtr d) (need (isPtr d) (Ah (Ad a6 [] (.t (Ao d 10)) 0) (fun (x39:TV)=>Ag (.int .i64) x39 (fun (n30:Int)=>CallT PR AI [d,b] [.one .bool] a6 (fun (b14:Bool) q=>BIf (!b14) (Ah ((Ai q [] (.t b) 0 5).map TV.agg) (fun (x40:TV)=>AO [.int .i64,.str,.str,.tv,.str] x40 (fun (n31:Int) (s58 s59:B8) (v34:TV) (w6:B8)=>need (List.all [.int .i64 n31,.str s58,.str s59,v34,.str w6] As) (K n31 s58 s59 v34 w6 false q)))) (BId (j=0) (need (isPtr b) (Ah (Ad q [] (.t (Ao b 3)) 0) (fun (v35:TV)=>need (isSl v35) (need (isPtr d) (need (isPtr d) (stB q (Ao d 12) [(.int .i64 (lenS v35:Int))] (fun a0=>need (isPtr b) (Ah (Ad a0 [] (.t (Ao b 3)) 0) (fun (y7:TV)=>need (isSl y7) (need (isPtr d) (need (isPtr d) (Ah (Ad a0 [] (.t (Ao d 12)) 0) (fun (x43:TV)=>Ag (.int .i64) x43 (fun (n32:Int)=>BId ((lenS y7:Int)<n32) (Ah ((Ai a0 [] (.t b) 0 5).map TV.agg) (fun (x44:TV)=>AO [.int .i64,.str,.str,.tv,.str] x44 (fun (m1:Int) (k8 m6:B8) (m2:TV) (p7:B8)=>CallT PR Am [d,.int .i64 n30,.int .i64 10] [.one .bool] a0 (fun (b15:Bool) h8=>(Ai h8 [] (.t b) 0 5=some [.int .i64 m1,.str k8,.str m6,m2,.str p7]/\need (List.all [.int .i64 m1,.str k8,.str m6,m2,.str p7] As) (K m1 k8 m6 m2 p7 b15 h8)))))) (Ah ((Ai a0 [] (.t b) 0 5).map TV.agg) (fun (x45:TV)=>AO [.int .i64,.str,.str,.tv,.str] x45 (fun (t7:Int) (s64 w8:B8) (u1:TV) (s66:B8)=>need (List.all [.int .i64 t7,.str s64,.str w8,u1,.str s66] As) (K t7 s64 w8 u1 s66 true a0)))))))))))))))))) (need (isPtr b) (Ah (Ad q [] (.t (Ao b 3)) 0) (fun (u2:TV)=>need (isSl u2) (need (isPtr d) (need (isPtr d) (Ah (Ad q [] (.t (Ao d 12)) 0) (fun (x47:TV)=>Ag (.int .i64) x47 (fun (n35:Int)=>BId ((lenS u2:Int)<n35) (Ah ((Ai q [] (.t b) 0 5).map TV.agg) (fun (x48:TV)=>AO [.int .i64,.str,.str,.tv,.str] x48 (fun (q0:Int) (h6 p8:B8) (h0:TV) (l2:B8)=>CallT PR Am [d,.int .i64 n30,.int .i64 10] [.one .bool] q (fun (b16:Bool) f9=>(Ai f9 [] (.t b) 0 5=some [.int .i64 q0,.str h6,.str p8,h0,.str l2]/\need (List.all [.int .i64 q0,.str h6,.str p8,h0,.str l2] As) (K q0 h6 p8 h0 l2 b16 f9)))))) (Ah ((Ai q [] (.t b) 0 5).map TV.agg) (fun (x49:TV)=>AO [.int .i64,.str,.str,.tv,.str] x49 (fun (u3:Int) (s70 s71:B8) (v41:TV) (y8:B8)=>need (List.all [.int .i64 u3,.str s70,.str s71,v41,.str y8] As) (K u3 s70 s71 v41 y8 true q))))))))))))))))))) ((I2 d j k b a6/\M2 d j k b a6<M2 d j k b u))))))))))))))))))))))) (CallT PR AQ [d,.bool k] [.agg [.int .i64,.str,.str,.tv,.str],.one .bool] u (fun (f7:Int) (q2 q5:B8) (c7:TV) (j9:B8) (b17:Bool) a5=>need (List.all [.int .i64 f7,.str q2,.str q5,c7,.str j9] As) (BIf (!b17) (Ah ((Ai a5 [] (.t b) 0 5).map TV.agg) (fun (x50:TV)=>AO [.int .i64,.str,.str,.tv,.str] x50 (fun (r9:Int) (s76 s77:B8) (v43:TV) (t5:B8)=>need (List.all [.int .i64 r9,.str s76,.str s77,v43,.str t5] As) (K r9 s76 s77 v43 t5 false a5)))) (need (isPtr b) (Ah (Ad a5 [] (.t (Ao b 3)) 0) (fun (f0:TV)=>need (isSl f0) (need (isPtr b) (need (List.all [.int .i64 f7,.str q2,.str q5,c7,.str j9] As) ((((lenS f0:Int)=(lenS f0:Int))/\Bs 79 5 80 f0 1 [.int .i64 f7,.str q2,.str q5,c7,.str j9] a5 (fun (v45:TV) st29=>stB st29 (Ao b 3) [v45] (fun c2=>need (isSl c7) (BId ((lenS c7:Int)=(1:Int)) (need (isPtr d) (need (isPtr d) (Ah (Ad c2 [] (.t (Ao d 10)) 0) (fun (x52:TV)=>Ag (.int .i64) x52 (fun (n40:Int)=>CallT PR AI [d,b] [.one .bool] c2 (fun (b18:Bool) n=>BIf (!b18) (Ah ((Ai n [] (.t b) 0 5).map TV.agg) (fun (x53:TV)=>AO [.int .i64,.str,.str,.tv,.str] x53 (fun (u6:Int) (s79 y4:B8) (z2:TV) (z0:B8)=>need (List.all [.int .i64 u6,.str s79,.str y4,z2,.str z0] As) (K u6 s79 y4 z2 z0 false n)))) (BId (j=0) (need (isPtr b) (Ah (Ad n [] (.t (Ao b 3)) 0) (fun (v47:TV)=>need (isSl v47) (need (isPtr d) (need (isPtr d) (stB n (Ao d 12) [(.int .i64 (lenS v47:Int))] (fun z=>need (isPtr b) (Ah (Ad z [] (.t (Ao b 3)) 0) (fun (v48:TV)=>need (isSl v48) (need (isPtr d) (need (isPtr d) (Ah (Ad z [] (.t (Ao d 12)) 0) (fun (x56:TV)=>Ag (.int .i64) x56 (fun (n42:Int)=>BId ((lenS v48:Int)<n42) (Ah ((Ai z [] (.t b) 0 5).map TV.agg) (fun (x57:TV)=>AO [.int .i64,.str,.str,.tv,.str] x57 (fun (k5:Int) (h2 l5:B8) (h9:TV) (q7:B8)=>CallT PR Am [d,.int .i64 n40,.int .i64 10] [.one .bool] z (fun (b19:Bool) l1=>(Ai l1 [] (.t b) 0 5=some [.int .i64 k5,.str h2,.str l5,h9,.str q7]/\need (List.all [.int .i64 k5,.str h2,.str l5,h9,.str q7] As) (K k5 h2 l5 h9 q7 b19 l1)))))) (Ah ((Ai z [] (.t b) 0 5).map TV.agg) (fun (x58:TV)=>AO [.int .i64,.str,.str,.tv,.str] x58 (fun (n44:Int) (s85 w2:B8) (v50:TV) (s87:B8)=>need (List.all [.int .i64 n44,.str s85,.str w2,v50,.str s87] As) (K n44 s85 w2 v50 s87 true z)))))))))))))))))) (need (isPtr b) (Ah (Ad n [] (.t (Ao b 3)) 0) (fun (v51:TV)=>need (isSl v51) (need (isPtr d) (need (isPtr d) (Ah (Ad n [] (.t (Ao d 12)) 0) (fun (x60:TV)=>Ag (.int .i64) x60 (fun (n45:Int)=>BId ((lenS v51:Int)<n45) (Ah ((Ai n [] (.t b) 0 5).map TV.agg) (fun (x61:TV)=>AO [.int .i64,.str,.str,.tv,.str] x61 (fun (f8:Int) (i6 l3:B8) (f6:TV) (m7:B8)=>CallT PR Am [d,.int .i64 n40,.int .i64 10] [.one .bool] n (fun (b20:Bool) k0=>(Ai k0 [] (.t b) 0 5=some [.int .i64 f8,.str i6,.str l3,f6,.str m7]/\need (List.all [.int .i64 f8,.str i6,.str l3,f6,.str m7] As) (K f8 i6 l3 f6 m7 b20 k0)))))) (Ah ((Ai n [] (.t b) 0 5).map TV.agg) (fun (x62:TV)=>AO [.int .i64,.str,.str,.tv,.str] x62 (fun (y3:Int) (s91 w7:B8) (z8:TV) (t9:B8)=>need (List.all [.int .i64 y3,.str s91,.str w7,z8,.str t9] As) (K y3 s91 w7 z8 t9 true n))))))))))))))))))) ((I2 d j k b c2/\M2 d j k b c2<M2 d j k b u))))))))))))))))))))) (stB (st.push (.cells [.int .i64 0,(.str []),(.str []),.nilSlice,(.str [])]) (some 79)) (.box st.nb 0) [.int .i64 8,(.str []),(.str []),.nilSlice,(.str [])] (fun st35=>CallT PR Bv [(.box p 0),.int .i64 2] [.one .bool] st35 (fun (b21:Bool) d0=>BIf (!b21) (Ah ((Ai d0 [] (.t (.box st.nb 0)) 0 5).map TV.agg) (fun (x63:TV)=>AO [.int .i64,.str,.str,.tv,.str] x63 (fun (n48:Int) (u9 s95:B8) (z4:TV) (z3:B8)=>need (List.all [.int .i64 n48,.str u9,.str s95,z4,.str z3] As) (K n48 u9 s95 z4 z3 false d0)))) (∃(I3:TV->Int->Bool->TV->St->Prop) (M3:TV->Int->Bool->TV->St->Nat),(I3 ((.box p 0)) number false ((.box st.nb 0)) d0)/\∀f g m c v,I3 f g m c v->(BId ((0:Int)<g) (need (isPtr c) (Ah (Ad v [] (.t (Ao c 3)) 0) (fun (v55:TV)=>need (isSl v55) (need (isPtr f) (need (isPtr f) (Ah (Ad v [] (.t (Ao f 12)) 0) (fun (x65:TV)=>Ag (.int .i64) x65 (fun (n49:Int)=>BId (n49<=(lenS v55:Int)) (Ah ((Ai v [] (.t c) 0 5).map TV.agg) (fun (x66:TV)=>AO [.int .i64,.str,.str,.tv,.str] x66 (fun (i1:Int) (g6 f4:B8) (m3:TV) (g4:B8)=>need (isPtr f) (need (isPtr f) (Ah (Ad v [] (.t (Ao f 10)) 0) (fun (x67:TV)=>Ag (.int .i64) x67 (fun (n51:Int)=>CallT PR Am [f,.int .i64 n51,.int .i64 10] [.one .bool] v (fun (b22:Bool) r3=>(Ai r3 [] (.t c) 0 5=some [.int .i64 i1,.str g6,.str f4,m3,.str g4]/\need (List.all [.int .i64 i1,.str g6,.str f4,m3,.str g4] As) (K i1 g6 f4 m3 g4 b22 r3)))))))))) (CallT PR AQ [f,.bool m] [.agg [.int .i64,.str,.str,.tv,.str],.one .bool] v (fun (i5:Int) (e4 d8:B8) (c3:TV) (e2:B8) (b23:Bool) a8=>need (List.all [.int .i64 i5,.str e4,.str d8,c3,.str e2] As) (BIf (!b23) (Ah ((Ai a8 [] (.t c) 0 5).map TV.agg) (fun (x68:TV)=>AO [.int .i64,.str,.str,.tv,.str] x68 (fun (n53:Int) (k1 i3:B8) (v58:TV) (p6:B8)=>need (List.all [.int .i64 n53,.str k1,.str i3,v58,.str p6] As) (K n53 k1 i3 v58 p6 false a8)))) (need (isPtr c) (Ah (Ad a8 [] (.t (Ao c 3)) 0) (fun (f2:TV)=>need (isSl f2) (need (isPtr c) (need (List.all [.int .i64 i5,.str e4,.str d8,c3,.str e2] As) ((((lenS f2:Int)=(lenS f2:Int))/\Bs 79 5 80 f2 1 [.int .i64 i5,.str e4,.str d8,c3,.str e2] a8 (fun (v60:TV) st40=>stB st40 (Ao c 3) [v60] (fun a7=>need (isSl c3) (BId ((lenS c3:Int)=(1:Int)) (need (isPtr f) (need (isPtr f) (Ah (Ad a7 [] (.t (Ao f 10)) 0) (fun (x70:TV)=>Ag (.int .i64) x70 (fun (x0:Int)=>CallT PR AI [f,c] [.one .bool] a7 (fun (b24:Bool) o=>BIf (!b24) (Ah ((Ai o [] (.t c) 0 5).map TV.agg) (fun (x71:TV)=>AO [.int .i64,.str,.str,.tv,.str] x71 (fun (n55:Int) (k7 r2:B8) (z7:TV) (g5:B8)=>need (List.all [.int .i64 n55,.str k7,.str r2,z7,.str g5] As) (K n55 k7 r2 z7 g5 false o)))) (BId (g=0) (need (isPtr c) (Ah (Ad o [] (.t (Ao c 3)) 0) (fun (y1:TV)=>need (isSl y1) (need (isPtr f) (need (isPtr f) (stB o (Ao f 12) [(.int .i64 (lenS y1:Int))] (fun a2=>need (isPtr c) (Ah (Ad a2 [] (.t (Ao c 3)) 0) (fun (v63:TV)=>need (isSl v63) (need (isPtr f) (need (isPtr f) (Ah (Ad a2 [] (.t (Ao f 12)) 0) (fun (x74:TV)=>Ag (.int .i64) x74 (fun (n56:Int)=>BId ((lenS v63:Int)<n56) (Ah ((Ai a2 [] (.t c) 0 5).map TV.agg) (fun (x75:TV)=>AO [.int .i64,.str,.str,.tv,.str] x75 (fun (j1:Int) (e5 d5:B8) (l8:TV) (d2:B8)=>CallT PR Am [f,.int .i64 x0,.int .i64 10] [.one .bool] a2 (fun (b25:Bool) n0=>(Ai n0 [] (.t c) 0 5=some [.int .i64 j1,.str e5,.str d5,l8,.str d2]/\need (List.all [.int .i64 j1,.str e5,.str d5,l8,.str d2] As) (K j1 e5 d5 l8 d2 b25 n0)))))) (Ah ((Ai a2 [] (.t c) 0 5).map TV.agg) (fun (x76:TV)=>AO [.int .i64,.str,.str,.tv,.str] x76 (fun (n58:Int) (l6 j8:B8) (r7:TV) (j3:B8)=>need (List.all [.int .i64 n58,.str l6,.str j8,r7,.str j3] As) (K n58 l6 j8 r7 j3 true a2)))))))))))))))))) (need (isPtr c) (Ah (Ad o [] (.t (Ao c 3)) 0) (fun (t0:TV)=>need (isSl t0) (need (isPtr f) (need (isPtr f) (Ah (Ad o [] (.t (Ao f 12)) 0) (fun (x78:TV)=>Ag (.int .i64) x78 (fun (n59:Int)=>BId ((lenS t0:Int)<n59) (Ah ((Ai o [] (.t c) 0 5).map TV.agg) (fun (x79:TV)=>AO [.int .i64,.str,.str,.tv,.str] x79 (fun (k4:Int) (d7 e1:B8) (l7:TV) (d4:B8)=>CallT PR Am [f,.int .i64 x0,.int .i64 10] [.one .bool] o (fun (b26:Bool) g2=>(Ai g2 [] (.t c) 0 5=some [.int .i64 k4,.str d7,.str e1,l7,.str d4]/\need (List.all [.int .i64 k4,.str d7,.str e1,l7,.str d4] As) (K k4 d7 e1 l7 d4 b26 g2)))))) (Ah ((Ai o [] (.t c) 0 5).map TV.agg) (fun (x80:TV)=>AO [.int .i64,.str,.str,.tv,.str] x80 (fun (n61:Int) (l9 j2:B8) (y2:TV) (h4:B8)=>need (List.all [.int .i64 n61,.str l9,.str j2,y2,.str h4] As) (K n61 l9 j2 y2 h4 true o))))))))))))))))))) ((I3 f g m c a7/\M3 f g m c a7<M3 f g m c v))))))))))))))))))))))) (CallT PR AQ [f,.bool m] [.agg [.int .i64,.str,.str,.tv,.str],.one .bool] v (fun (o3:Int) (c9 e0:B8) (c4:TV) (d6:B8) (b27:Bool) b0=>need (List.all [.int .i64 o3,.str c9,.str e0,c4,.str d6] As) (BIf (!b27) (Ah ((Ai b0 [] (.t c) 0 5).map TV.agg) (fun (x81:TV)=>AO [.int .i64,.str,.str,.tv,.str] x81 (fun (n63:Int) (l4 j0:B8) (y6:TV) (i4:B8)=>need (List.all [.int .i64 n63,.str l4,.str j0,y6,.str i4] As) (K n63 l4 j0 y6 i4 false b0)))) (need (isPtr c) (Ah (Ad b0 [] (.t (Ao c 3)) 0) (fun (e8:TV)=>need (isSl e8) (need (isPtr c) (need (List.all [.int .i64 o3,.str c9,.str e0,c4,.str d6] As) ((((lenS e8:Int)=(lenS e8:Int))/\Bs 79 5 80 e8 1 [.int .i64 o3,.str c9,.str e0,c4,.str d6] b0 (fun (v72:TV) st47=>stB st47 (Ao c 3) [v72] (fun a9=>need (isSl c4) (BId ((lenS c4:Int)=(1:Int)) (need (isPtr f) (need (isPtr f) (Ah (Ad a9 [] (.t (Ao f 10)) 0) (fun (x83:TV)=>Ag (.int .i64) x83 (fun (y9:Int)=>CallT PR AI [f,c] [.one .bool] a9 (fun (b28:Bool) r=>BIf (!b28) (Ah ((Ai r [] (.t c) 0 5).map TV.agg) (fun (x84:TV)=>AO [.int .i64,.str,.str,.tv,.str] x84 (fun (u8:Int) (m0 q8:B8) (v73:TV) (i8:B8)=>need (List.all [.int .i64 u8,.str m0,.str q8,v73,.str i8] As) (K u8 m0 q8 v73 i8 false r)))) (BId (g=0) (need (isPtr c) (Ah (Ad r [] (.t (Ao c 3)) 0) (fun (v74:TV)=>need (isSl v74) (need (isPtr f) (need (isPtr f) (stB r (Ao f 12) [(.int .i64 (lenS v74:Int))] (fun y=>need (isPtr c) (Ah (Ad y [] (.t (Ao c 3)) 0) (fun (w1:TV)=>need (isSl w1) (need (isPtr f) (need (isPtr f) (Ah (Ad y [] (.t (Ao f 12)) 0) (fun (x87:TV)=>Ag (.int .i64) x87 (fun (n66:Int)=>BId ((lenS w1:Int)<n66) (Ah ((Ai y [] (.t c) 0 5).map TV.agg) (fun (x88:TV)=>AO [.int .i64,.str,.str,.tv,.str] x88 (fun (q3:Int) (d9 e3:B8) (m5:TV) (d3:B8)=>CallT PR Am [f,.int .i64 y9,.int .i64 10] [.one .bool] y (fun (b29:Bool) h3=>(Ai h3 [] (.t c) 0 5=some [.int .i64 q3,.str d9,.str e3,m5,.str d3]/\need (List.all [.int .i64 q3,.str d9,.str e3,m5,.str d3] As) (K q3 d9 e3 m5 d3 b29 h3)))))) (Ah ((Ai y [] (.t c) 0 5).map TV.agg) (fun (x89:TV)=>AO [.int .i64,.str,.str,.tv,.str] x89 (fun (s0:Int) (l0 g1:B8) (w0:TV) (k9:B8)=>need (List.all [.int .i64 s0,.str l0,.str g1,w0,.str k9] As) (K s0 l0 g1 w0 k9 true y)))))))))))))))))) (need (isPtr c) (Ah (Ad r [] (.t (Ao c 3)) 0) (fun (v0:TV)=>need (isSl v0) (need (isPtr f) (need (isPtr f) (Ah (Ad r [] (.t (Ao f 12)) 0) (fun (x91:TV)=>Ag (.int .i64) x91 (fun (n69:Int)=>BId ((lenS v0:Int)<n69) (Ah ((Ai r [] (.t c) 0 5).map TV.agg) (fun (x92:TV)=>AO [.int .i64,.str,.str,.tv,.str] x92 (fun (h5:Int) (d1 c8:B8) (h7:TV) (e6:B8)=>CallT PR Am [f,.int .i64 y9,.int .i64 10] [.one .bool] r (fun (b30:Bool) r1=>(Ai r1 [] (.t c) 0 5=some [.int .i64 h5,.str d1,.str c8,h7,.str e6]/\need (List.all [.int .i64 h5,.str d1,.str c8,h7,.str e6] As) (K h5 d1 c8 h7 e6 b30 r1)))))) (Ah ((Ai r [] (.t c) 0 5).map TV.agg) (fun (x93:TV)=>AO [.int .i64,.str,.str,.tv,.str] x93 (fun (w5:Int) (q4 g7:B8) (y0:TV) (o7:B8)=>need (List.all [.int .i64 w5,.str q4,.str g7,y0,.str o7] As) (K w5 q4 g7 y0 o7 true r))))))))))))))))))) ((I3 f g m c a9/\M3 f g m c a9<M3 f g m c v))))))))))))))))))))):CallT PR CP [(.box p 0),.int .i64 number] [.agg [.int .i64,.str,.str,.tv,.str],.one .bool] st K:=
 Ae (cfg:=⟨[4,8],[],[41,46,93]⟩) (h:=(.seq .none (.seq .none (.seq .none (.seq .none (.seq (.block (.loop ⟨[(0,.tv),(1,.int .i64),(6,.bool),(7,.tv)],[(4,0,0)],[(0,5)],[]⟩ .none)) .none)))))) mixed (fun _ _=>Tryz.call119 _ _) Tryz.func119 (by kernel_rfl) (by kernel_rfl) h
theorem Qy (n_0:Int) (f:B8) (i:B8) (a:TV) (g:B8) (depth:Int) (seen:Nat) (st:St) (K:Int->St->Prop) (h:BId ((192:Int)<depth) (K 9 st) (Ah (Ad st [] (.t (.box seen 0)) 0) (fun (x1:TV)=>Ag (.int .i64) x1 (fun (n1:Int)=>stB st (.box seen 0) [(.int .i64 (i64.wrap (n1+(1:Int))))] (fun m=>Ah (Ad m [] (.t (.box seen 0)) 0) (fun (x2:TV)=>Ag (.int .i64) x2 (fun (n2:Int)=>BId ((524288:Int)<n2) (K 10 m) (BId (n_0<1) (K 6 m) (BId ((12:Int)<=n_0) (K 6 m) (CallT PR II [.int .i64 n_0] [.one .bool] m (fun (b1:Bool) o=>BIf b1 (need (isSl a) (BId ((0:Int)<(lenS a:Int)) (K 1 o) (BId (g≠([]:B8)) (K 1 o) (need (isSl a) (∃(I1:Int->Int->TV->TV->Int->St->Prop) (M1:Int->Int->TV->TV->Int->St->Nat),(I1 0 depth ((.box seen 0)) a ((lenS a:Int)) o)/\∀f b e k i n,I1 f b e k i n->(BId (f<i) (((0<=f/\f<(lenZ 5 k:Int))/\Ah ((Ai n [] (.t (ixT 5 k f.toNat)) 0 5).map TV.agg) (fun (x3:TV)=>AO [.int .i64,.str,.str,.tv,.str] x3 (fun (n3:Int) (s1 s2:B8) (v1:TV) (s3:B8)=>need (List.all [.int .i64 n3,.str s1,.str s2,v1,.str s3] As) (CallT PR Eh [(.agg [.int .i64 n3,.str s1,.str s2,v1,.str s3]),(.int .i64 (i64.wrap (b+(1:Int)))),e] [.one (.int .i64)] n (fun (n4:Int) p=>BId (n4≠0) (K n4 p) ((I1 ((i64.wrap (f+(1:Int)))) b e k i p/\M1 ((i64.wrap (f+(1:Int)))) b e k i p<M1 f b e k i n)))))))) (K 0 n))))))) (need (isSl a) (∃(I2:Int->Int->TV->TV->Int->St->Prop) (M2:Int->Int->TV->TV->Int->St->Nat),(I2 0 depth ((.box seen 0)) a ((lenS a:Int)) o)/\∀a c d j g l,I2 a c d j g l->(BId (a<g) (((0<=a/\a<(lenZ 5 j:Int))/\Ah ((Ai l [] (.t (ixT 5 j a.toNat)) 0 5).map TV.agg) (fun (x4:TV)=>AO [.int .i64,.str,.str,.tv,.str] x4 (fun (n5:Int) (s4 s5:B8) (v2:TV) (s6:B8)=>need (List.all [.int .i64 n5,.str s4,.str s5,v2,.str s6] As) (CallT PR Eh [(.agg [.int .i64 n5,.str s4,.str s5,v2,.str s6]),(.int .i64 (i64.wrap (c+(1:Int)))),d] [.one (.int .i64)] l (fun (n6:Int) q=>BId (n6≠0) (K n6 q) ((I2 ((i64.wrap (a+(1:Int)))) c d j g q/\M2 ((i64.wrap (a+(1:Int)))) c d j g q<M2 a c d j g l)))))))) (K 0 l))))))))))))))):CallT PR Eh [(.agg [.int .i64 n_0,.str f,.str i,a,.str g]),.int .i64 depth,(.box seen 0)] [.one (.int .i64)] st K:=
 Ae (cfg:=⟨[3,8],[],[]⟩) (h:=(.seq .none (.seq .none (.seq .none (.seq .none (.seq .none (.seq (.seq .none (.block (.loop ⟨[(46,.int .i64),(1,.int .i64),(2,.tv),(44,.tv),(45,.int .i64)],[],[],[]⟩ .none))) .none))))))) mixed (fun _ _=>Tryz.call120 _ _) Tryz.func120 (by kernel_rfl) (by kernel_rfl) h
theorem Tk (n_0:Int) (a:B8) (c:B8) (n_3:TV) (n_4:B8) (st:St) (K:Int->St->Prop) (h:need (isSl n_3) (∃(I1:Int->Int->TV->Int->St->Prop) (M1:Int->Int->TV->Int->St->Nat),(I1 ((i64.wrap ((i64.wrap ((a.length:Int)+(c.length:Int)))+(n_4.length:Int)))) 0 n_3 ((lenS n_3:Int)) st)/\∀b a d c e,I1 b a d c e->(BId (a<c) (((0<=a/\a<(lenZ 5 d:Int))/\Ah ((Ai e [] (.t (ixT 5 d a.toNat)) 0 5).map TV.agg) (fun (x1:TV)=>AO [.int .i64,.str,.str,.tv,.str] x1 (fun (n1:Int) (s1 s2:B8) (v1:TV) (s3:B8)=>need (List.all [.int .i64 n1,.str s1,.str s2,v1,.str s3] As) (CallT PR G4 [(.agg [.int .i64 n1,.str s1,.str s2,v1,.str s3])] [.one (.int .i64)] e (fun (n2:Int) f=>(I1 ((i64.wrap (b+n2))) ((i64.wrap (a+(1:Int)))) d c f/\M1 ((i64.wrap (b+n2))) ((i64.wrap (a+(1:Int)))) d c f<M1 b a d c e))))))) (K b e)))):CallT PR G4 [(.agg [.int .i64 n_0,.str a,.str c,n_3,.str n_4])] [.one (.int .i64)] st K:=
 Ae (cfg:=⟨[1,5],[],[]⟩) (h:=(.seq .none (.seq .none (.seq (.seq .none (.block (.loop ⟨[(3,.int .i64),(20,.int .i64),(18,.tv),(19,.int .i64)],[],[],[]⟩ .none))) .none)))) mixed (fun _ _=>Tryz.call121 _ _) Tryz.func121 (by kernel_rfl) (by kernel_rfl) h
theorem Qx (b:Nat) (n_0:Int) (a:B8) (c:B8) (n_3:TV) (n_4:B8) (st:St) (K:St->Prop) (h:CallT PR Av [(.box b 0),.str a] [.one (.int .i64),.one .tv] st (fun (n1:Int) (v1:TV) k=>CallT PR Av [(.box b 0),.str c] [.one (.int .i64),.one .tv] k (fun (n2:Int) (v2:TV) j=>need (isSl n_3) (∃(I1:Int->TV->TV->Int->Int->B8->B8->TV->B8->St->Prop) (M1:Int->TV->TV->Int->Int->B8->B8->TV->B8->St->Nat),(I1 0 ((.box b 0)) n_3 ((lenS n_3:Int)) n_0 a c n_3 n_4 j)/\∀a e d c n3 s1 s2 v3 s3 f,I1 a e d c n3 s1 s2 v3 s3 f->(BId (a<c) (((0<=a/\a<(lenZ 5 d:Int))/\Ah ((Ai f [] (.t (ixT 5 d a.toNat)) 0 5).map TV.agg) (fun (x1:TV)=>AO [.int .i64,.str,.str,.tv,.str] x1 (fun (n4:Int) (s4 s5:B8) (v4:TV) (s6:B8)=>need (List.all [.int .i64 n4,.str s4,.str s5,v4,.str s6] As) (CallT PR Fs [e,(.agg [.int .i64 n4,.str s4,.str s5,v4,.str s6])] [] f (fun (g:St)=>(I1 ((i64.wrap (a+(1:Int)))) e d c n3 s1 s2 v3 s3 g/\M1 ((i64.wrap (a+(1:Int)))) e d c n3 s1 s2 v3 s3 g<M1 a e d c n3 s1 s2 v3 s3 f))))))) (CallT PR Av [e,.str s3] [.one (.int .i64),.one .tv] f (fun (n5:Int) (v5:TV) i=>K i))))))):CallT PR Fs [(.box b 0),(.agg [.int .i64 n_0,.str a,.str c,n_3,.str n_4])] [] st K:=
 Ae (cfg:=⟨[3,5],[],[]⟩) (h:=(.seq .none (.seq .none (.seq .none (.seq (.seq .none (.block (.loop ⟨[(17,.int .i64),(0,.tv),(15,.tv),(16,.int .i64)],[(3,0,0)],[(0,5)],[(0,0,.int .i64),(0,1,.str),(0,2,.str),(0,3,.tv),(0,4,.str)]⟩ .none))) .none))))) mixed (fun _ _=>Tryz.call122 _ _) Tryz.func122 (by kernel_rfl) (by kernel_rfl) h
theorem MQ (b:Int) (st:St) (K:Bool->St->Prop) (h:CallT PR FN [.int .u8 b] [.one .bool] st (fun (b1:Bool) a=>BIf b1 (K true a) (BId ((48:Int)<=b) (BId (b<=57) (K true a) (BId (b=43) (K true a) (BId (b=45) (K true a) (BId (b=46) (K true a) (K ((decide (b=58))) a))))) (BId (b=43) (K true a) (BId (b=45) (K true a) (BId (b=46) (K true a) (K ((decide (b=58))) a))))))):CallT PR B0 [.int .u8 b] [.one .bool] st K:=
 Ae (cfg:=⟨[],[],[]⟩) (h:= .none) mixed (fun _ _=>Tryz.call128 _ _) Tryz.func128 (by kernel_rfl) (by kernel_rfl) h
theorem JV (c:Int) (st:St) (K:Bool->St->Prop) (h:CallT PR CR [.int .u8 c] [.one .bool] st (fun (b1:Bool) b=>BIf (!b1) (CallT PR Cc [.int .u8 c] [.one .bool] b (fun (b2:Bool) a=>BIf (!b2) (BId (c≠43) (BId (c≠45) (BId (c≠46) (K ((decide (c≠58))) a) (K false a)) (K false a)) (K false a)) (K false a))) (K false b))):CallT PR Bd [.int .u8 c] [.one .bool] st K:=
 Ae (cfg:=⟨[],[],[]⟩) (h:= .none) mixed (fun _ _=>Tryz.call129 _ _) Tryz.func129 (by kernel_rfl) (by kernel_rfl) h
theorem O3 (s:B8) (d_0:Int) (d_1:Int) (d_2:Bool) (d_3:Bool) (st:St) (K:B8->Int->St->Prop) (h:CallT PR B3 [(.agg [.int .u8 d_0,.int .u8 d_1,.bool d_2,.bool d_3])] [.one .bool] st (fun (b1:Bool) f=>BIf (!b1) (K [] 1 f) (CallT PR EL [.str s] [.one .bool] f (fun (b2:Bool) e=>BIf (!b2) (K [] 5 e) (Ah ((toBytes e (.list 1 .full 1 [.int .u8 d_1])).map TV.str) (fun (x1:TV)=>Ag .str x1 (fun (s1:B8)=>∃(I1:Int->B8->B8->Int->Int->Bool->Bool->St->Prop) (M1:Int->B8->B8->Int->Int->Bool->Bool->St->Nat),(I1 0 s s1 d_0 d_1 d_2 d_3 e)/\∀c b a n1 n2 b3 b4 d,I1 c b a n1 n2 b3 b4 d->(BId (c<(b.length:Int)) (((0<=c/\c<(b.length:Int))/\BId (((List.getD b c.toNat 0).toNat:Int)=n1) ((a.length+a.length<=9223372036854775807/\CallT PR AF [.str b,.str a,(.str (a++a))] [.one .str] d (fun (s2:B8) i=>(a.length+s2.length<=9223372036854775807/\(((a++s2)).length+a.length<=9223372036854775807/\K (((a++s2)++a)) 0 i))))) (BId (((List.getD b c.toNat 0).toNat:Int)=n2) ((a.length+a.length<=9223372036854775807/\CallT PR AF [.str b,.str a,(.str (a++a))] [.one .str] d (fun (s3:B8) g=>(a.length+s3.length<=9223372036854775807/\(((a++s3)).length+a.length<=9223372036854775807/\K (((a++s3)++a)) 0 g))))) (BId (((List.getD b c.toNat 0).toNat:Int)=(10:Int)) ((a.length+a.length<=9223372036854775807/\CallT PR AF [.str b,.str a,(.str (a++a))] [.one .str] d (fun (s4:B8) j=>(a.length+s4.length<=9223372036854775807/\(((a++s4)).length+a.length<=9223372036854775807/\K (((a++s4)++a)) 0 j))))) (BId (((List.getD b c.toNat 0).toNat:Int)=(13:Int)) ((a.length+a.length<=9223372036854775807/\CallT PR AF [.str b,.str a,(.str (a++a))] [.one .str] d (fun (s5:B8) k=>(a.length+s5.length<=9223372036854775807/\(((a++s5)).length+a.length<=9223372036854775807/\K (((a++s5)++a)) 0 k))))) ((I1 ((i64.wrap (c+(1:Int)))) b a n1 n2 b3 b4 d/\M1 ((i64.wrap (c+(1:Int)))) b a n1 n2 b3 b4 d<M1 c b a n1 n2 b3 b4 d))))))) (K b 0 d))))))))):CallT PR CE [.str s,(.agg [.int .u8 d_0,.int .u8 d_1,.bool d_2,.bool d_3])] [.one .str,.one (.int .i64)] st K:=
 Ae (cfg:=⟨[3],[],[]⟩) (h:=(.seq .none (.seq .none (.seq .none (.seq .none (.seq (.seq .none (.block (.loop ⟨[(7,.int .i64),(0,.str),(6,.str)],[(3,0,0)],[(0,4)],[(0,0,.int .u8),(0,1,.int .u8),(0,2,.bool),(0,3,.bool)]⟩ .none))) .none)))))) mixed (fun _ _=>Tryz.call145 _ _) Tryz.func145 (by kernel_rfl) (by kernel_rfl) h
theorem QG (n_0:Int) (n_1:B8) (n_2:B8) (n_3:TV) (n_4:B8) (d_0:Int) (d_1:Int) (d_2:Bool) (d_3:Bool) (st:St) (K:Bool->St->Prop) (h:CallT PR Hu [(.agg [.int .i64 n_0,.str n_1,.str n_2,n_3,.str n_4])] [.one (.int .i64)] st (fun (n1:Int) a=>BId (n1≠0) (K false a) (CallT PR Ht [(.agg [.int .i64 n_0,.str n_1,.str n_2,n_3,.str n_4])] [.one .str] a (fun (s1:B8) d=>CallT PR GE [] [.agg [.int .i64,.int .i64,.int .i64,.int .i64,.int .i64]] d (fun (n2 n3 n4 n5 n6:Int) e=>CallT PR EQ [.str s1,(.agg [.int .u8 d_0,.int .u8 d_1,.bool d_2,.bool d_3]),(.agg [.int .i64 n2,.int .i64 n3,.int .i64 n4,.int .i64 n5,.int .i64 n6])] [.agg [.int .i64,.str,.str,.tv,.str],.one (.int .i64),.one (.int .i64)] e (fun (n7:Int) (s2 s3:B8) (v1:TV) (s4:B8) (n8 n9:Int) b=>need (List.all [.int .i64 n7,.str s2,.str s3,v1,.str s4] As) (BId (n9=0) (CallT PR F9 [(.agg [.int .i64 n7,.str s2,.str s3,v1,.str s4]),(.agg [.int .i64 n_0,.str n_1,.str n_2,n_3,.str n_4])] [.one .bool] b (fun (b1:Bool) c=>K b1 c)) (K false b)))))))):CallT PR Ft [(.agg [.int .i64 n_0,.str n_1,.str n_2,n_3,.str n_4]),(.agg [.int .u8 d_0,.int .u8 d_1,.bool d_2,.bool d_3])] [.one .bool] st K:=
 Ae (cfg:=⟨[2,3,5],[],[]⟩) (h:= .none) mixed (fun _ _=>Tryz.call173 _ _) Tryz.func173 (by kernel_rfl) (by kernel_rfl) h
theorem QF (cell:B8) (d_0:Int) (d_1:Int) (d_2:Bool) (d_3:Bool) (st:St) (K:B8->Bool->St->Prop) (h:BId (cell=([]:B8)) (K cell false st) (((0<=(0:Int)/\(0:Int)<(cell.length:Int))/\BId (((List.getD cell (Int.toNat (0:Int)) 0).toNat:Int)≠d_1) (K cell false st) (Ah ((toBytes st (.list 1 .full 1 [.int .u8 d_1])).map TV.str) (fun (x1:TV)=>Ag .str x1 (fun (s1:B8)=>((0<=(1:Int)/\(1:Int)<=(i64.wrap ((cell.length:Int)-(1:Int)))/\(i64.wrap ((cell.length:Int)-(1:Int)))<=(cell.length:Int))/\(s1.length+s1.length<=9223372036854775807/\CallT PR AF [(.str (List.drop (Int.toNat (1:Int)) (List.take (Int.toNat (i64.wrap ((cell.length:Int)-(1:Int)))) cell))),(.str (s1++s1)),.str s1] [.one .str] st (fun (s2:B8) a=>K s2 true a))))))))):CallT PR Dh [.str cell,(.agg [.int .u8 d_0,.int .u8 d_1,.bool d_2,.bool d_3])] [.one .str,.one .bool] st K:=
 Ae (cfg:=⟨[3],[],[]⟩) (h:= .none) mixed (fun _ _=>Tryz.call174 _ _) Tryz.func174 (by kernel_rfl) (by kernel_rfl) h
theorem Jc (p:Nat) (depth:Int) (st:St) (K:Bool->St->Prop) (h:Ah (Ad st [] (.t (.box p 5)) 0) (fun (x1:TV)=>Ag (.int .i64) x1 (fun (n1:Int)=>BId (n1<depth) (Ah (Ad st [] (.t (.box p 10)) 0) (fun (x2:TV)=>Ag (.int .i64) x2 (fun (n2:Int)=>CallT PR Am [(.box p 0),.int .i64 n2,.int .i64 9] [.one .bool] st (fun (b1:Bool) b=>K b1 b)))) (Ah (Ad st [] (.t (.box p 11)) 0) (fun (x3:TV)=>Ag (.int .i64) x3 (fun (n3:Int)=>Ah (Ad st [] (.t (.box p 6)) 0) (fun (x4:TV)=>Ag (.int .i64) x4 (fun (n4:Int)=>BId (n4<=n3) (Ah (Ad st [] (.t (.box p 10)) 0) (fun (x5:TV)=>Ag (.int .i64) x5 (fun (n5:Int)=>CallT PR Am [(.box p 0),.int .i64 n5,.int .i64 10] [.one .bool] st (fun (b2:Bool) c=>K b2 c)))) (Ah (Ad st [] (.t (.box p 11)) 0) (fun (x6:TV)=>Ag (.int .i64) x6 (fun (n6:Int)=>stB st (.box p 11) [(.int .i64 (i64.wrap (n6+(1:Int))))] (fun a=>K true a)))))))))))):CallT PR Bv [(.box p 0),.int .i64 depth] [.one .bool] st K:=
 Ae (cfg:=⟨[],[],[]⟩) (h:= .none) mixed (fun _ _=>Tryz.call191 _ _) Tryz.func191 (by kernel_rfl) (by kernel_rfl) h
theorem JP (p:Nat) (atx:Int) (e:Int) (st:St) (K:Bool->St->Prop) (h:stB st (.box p 14) [.int .i64 atx] (fun a=>stB a (.box p 15) [.int .i64 e] (fun b=>K false b))):CallT PR Am [(.box p 0),.int .i64 atx,.int .i64 e] [.one .bool] st K:=
 Ae (cfg:=⟨[],[],[]⟩) (h:= .none) mixed (fun _ _=>Tryz.call192 _ _) Tryz.func192 (by kernel_rfl) (by kernel_rfl) h
theorem Jd (p:Nat) (header:Bool) (st:St) (K:Int->B8->B8->TV->B8->Bool->St->Prop) (h:BIf (!header) (CallT PR Bv [(.box p 0),.int .i64 3] [.one .bool] st (fun (b1:Bool) c1=>BIf (!b1) (K 5 [] [] .nilSlice [] false c1) (Ah (Ad c1 [] (.t (.box p 10)) 0) (fun (x1:TV)=>Ag (.int .i64) x1 (fun (n1:Int)=>CallT PR Co [(.box p 0)] [.one .bool] c1 (fun (b2:Bool) a2=>BIf (!b2) (K 5 [] [] .nilSlice [] false a2) (Ah (Ad a2 [] (.t (.box p 0)) 0) (fun (x2:TV)=>Ag .str x2 (fun (s1:B8)=>Ah (Ad a2 [] (.t (.box p 10)) 0) (fun (x3:TV)=>Ag (.int .i64) x3 (fun (n2:Int)=>((0<=n1/\n1<=n2/\n2<=(s1.length:Int))/\Ah ((Ai a2 [] (.t (.box p 1)) 0 4).map TV.agg) (fun (x4:TV)=>AO [.int .u8,.int .u8,.bool,.bool] x4 (fun (n3 n4:Int) (b3 b4:Bool)=>CallT PR Dh [(.str (List.drop n1.toNat (List.take n2.toNat s1))),(.agg [.int .u8 n3,.int .u8 n4,.bool b3,.bool b4])] [.one .str,.one .bool] a2 (fun (s2:B8) (b5:Bool) c8=>∃(C1:Int->TV->Bool->Int->B8->B8->Int->B8->B8->TV->B8->St->Prop),(BIf header (C1 1024 ((.box p 0)) header n1 ((List.drop n1.toNat (List.take n2.toNat s1))) s2 5 [] [] .nilSlice [] c8) (C1 65536 ((.box p 0)) header n1 ((List.drop n1.toNat (List.take n2.toNat s1))) s2 5 [] [] .nilSlice [] c8))/\∀a0 a w r n a8 n5 s3 s4 v1 s5 m,C1 a0 a w r n a8 n5 s3 s4 v1 s5 m->(BId (a0<(a8.length:Int)) (CallT PR Am [a,.int .i64 r,.int .i64 10] [.one .bool] m (fun (b6:Bool) j4=>need (List.all [.int .i64 n5,.str s3,.str s4,v1,.str s5] As) (K n5 s3 s4 v1 s5 b6 j4))) (BIf w (need (isPtr a) (need (isPtr a) (Ah (Ad m [] (.t (Ao a 13)) 0) (fun (v2:TV)=>Ah (EI m v2) (fun (es1:List (B8×TV))=>Ag .bool (Gw (.bool false) (BQ a8 es1)) (fun (b7:Bool)=>BIf b7 (CallT PR Am [a,.int .i64 r,.int .i64 8] [.one .bool] m (fun (b8:Bool) j9=>need (List.all [.int .i64 n5,.str s3,.str s4,v1,.str s5] As) (K n5 s3 s4 v1 s5 b8 j9))) (need (isPtr a) (need (isPtr a) (Ah (Ad m [] (.t (Ao a 13)) 0) (fun (v3:TV)=>muK v3 a8 (.bool true) m (fun f4=>Bs 79 5 80 v1 1 [.int .i64 2,(.str []),.str n,.nilSlice,(.str [])] f4 (fun (v4:TV) l=>need (List.all [v4] As) (need (isPtr a) (need (isPtr a) (Ah (Ad l [] (.t (Ao a 10)) 0) (fun (x7:TV)=>Ag (.int .i64) x7 (fun (n6:Int)=>need (isPtr a) (need (isPtr a) (Ah (Ad l [] (.t (Ao a 0)) 0) (fun (x8:TV)=>Ag .str x8 (fun (s6:B8)=>BId (n6<(s6.length:Int)) (need (isPtr a) (need (isPtr a) (Ah (Ad l [] (.t (Ao a 0)) 0) (fun (x9:TV)=>Ag .str x9 (fun (s7:B8)=>need (isPtr a) (need (isPtr a) (Ah (Ad l [] (.t (Ao a 10)) 0) (fun (e5:TV)=>Ag (.int .i64) e5 (fun (n7:Int)=>((0<=n7/\n7<(s7.length:Int))/\need (isPtr a) (need (isPtr a) (need (isPtr (Ao a 1)) (Ah (Ad l [] (.t (Ao (Ao a 1) 0)) 0) (fun (f5:TV)=>Ag (.int .u8) f5 (fun (n8:Int)=>BId (((List.getD s7 n7.toNat 0).toNat:Int)=n8) (need (isPtr a) (need (isPtr a) (Ah (Ad l [] (.t (Ao a 10)) 0) (fun (f9:TV)=>Ag (.int .i64) f9 (fun (n9:Int)=>need (isPtr a) (need (isPtr a) (stB l (Ao a 10) [(.int .i64 (i64.wrap (n9+(1:Int))))] (fun c4=>need (isPtr a) (need (isPtr a) (need (isPtr (Ao a 1)) (Ah (Ad c4 [] (.t (Ao (Ao a 1) 0)) 0) (fun (i2:TV)=>Ag (.int .u8) i2 (fun (f7:Int)=>Ah ((toBytes c4 (.list 1 .full 1 [.int .u8 f7])).map TV.str) (fun (f8:TV)=>Ag .str f8 (fun (s8:B8)=>Bs 79 5 80 v4 1 [.int .i64 11,(.str []),.str s8,.nilSlice,(.str [])] c4 (fun (v5:TV) d4=>need (List.all [v5] As) (need (List.all [.int .i64 n5,.str s3,.str s4,v5,.str s5] As) (K n5 s3 s4 v5 s5 true d4)))))))))))))))))) (need (List.all [.int .i64 n5,.str s3,.str s4,v4,.str s5] As) (K n5 s3 s4 v4 s5 true l))))))))))))))))) (need (List.all [.int .i64 n5,.str s3,.str s4,v4,.str s5] As) (K n5 s3 s4 v4 s5 true l))))))))))))))))))))))) (Bs 79 5 80 v1 1 [.int .i64 2,(.str []),.str n,.nilSlice,(.str [])] m (fun (v6:TV) g=>need (List.all [v6] As) (need (isPtr a) (need (isPtr a) (Ah (Ad g [] (.t (Ao a 10)) 0) (fun (g6:TV)=>Ag (.int .i64) g6 (fun (i8:Int)=>need (isPtr a) (need (isPtr a) (Ah (Ad g [] (.t (Ao a 0)) 0) (fun (h9:TV)=>Ag .str h9 (fun (s9:B8)=>BId (i8<(s9.length:Int)) (need (isPtr a) (need (isPtr a) (Ah (Ad g [] (.t (Ao a 0)) 0) (fun (e4:TV)=>Ag .str e4 (fun (c6:B8)=>need (isPtr a) (need (isPtr a) (Ah (Ad g [] (.t (Ao a 10)) 0) (fun (j1:TV)=>Ag (.int .i64) j1 (fun (c2:Int)=>((0<=c2/\c2<(c6.length:Int))/\need (isPtr a) (need (isPtr a) (need (isPtr (Ao a 1)) (Ah (Ad g [] (.t (Ao (Ao a 1) 0)) 0) (fun (f0:TV)=>Ag (.int .u8) f0 (fun (e9:Int)=>BId (((List.getD c6 c2.toNat 0).toNat:Int)=e9) (need (isPtr a) (need (isPtr a) (Ah (Ad g [] (.t (Ao a 10)) 0) (fun (g1:TV)=>Ag (.int .i64) g1 (fun (i4:Int)=>need (isPtr a) (need (isPtr a) (stB g (Ao a 10) [(.int .i64 (i64.wrap (i4+(1:Int))))] (fun a4=>need (isPtr a) (need (isPtr a) (need (isPtr (Ao a 1)) (Ah (Ad a4 [] (.t (Ao (Ao a 1) 0)) 0) (fun (f1:TV)=>Ag (.int .u8) f1 (fun (j0:Int)=>Ah ((toBytes a4 (.list 1 .full 1 [.int .u8 j0])).map TV.str) (fun (d9:TV)=>Ag .str d9 (fun (g4:B8)=>Bs 79 5 80 v6 1 [.int .i64 11,(.str []),.str g4,.nilSlice,(.str [])] a4 (fun (v7:TV) d6=>need (List.all [v7] As) (need (List.all [.int .i64 n5,.str s3,.str s4,v7,.str s5] As) (K n5 s3 s4 v7 s5 true d6)))))))))))))))))) (need (List.all [.int .i64 n5,.str s3,.str s4,v6,.str s5] As) (K n5 s3 s4 v6 s5 true g))))))))))))))))) (need (List.all [.int .i64 n5,.str s3,.str s4,v6,.str s5] As) (K n5 s3 s4 v6 s5 true g)))))))))))))))))))))))))))))) (Ah (Ad st [] (.t (.box p 10)) 0) (fun (i9:TV)=>Ag (.int .i64) i9 (fun (u:Int)=>CallT PR Co [(.box p 0)] [.one .bool] st (fun (b9:Bool) v=>BIf (!b9) (K 5 [] [] .nilSlice [] false v) (Ah (Ad v [] (.t (.box p 0)) 0) (fun (h4:TV)=>Ag .str h4 (fun (a7:B8)=>Ah (Ad v [] (.t (.box p 10)) 0) (fun (h8:TV)=>Ag (.int .i64) h8 (fun (a1:Int)=>((0<=u/\u<=a1/\a1<=(a7.length:Int))/\Ah ((Ai v [] (.t (.box p 1)) 0 4).map TV.agg) (fun (h2:TV)=>AO [.int .u8,.int .u8,.bool,.bool] h2 (fun (g2 f3:Int) (g5 j2:Bool)=>CallT PR Dh [(.str (List.drop u.toNat (List.take a1.toNat a7))),(.agg [.int .u8 g2,.int .u8 f3,.bool g5,.bool j2])] [.one .str,.one .bool] v (fun (c9:B8) (k0:Bool) a9=>∃(C2:Int->TV->Bool->Int->B8->B8->Int->B8->B8->TV->B8->St->Prop),(BIf header (C2 1024 ((.box p 0)) header u ((List.drop u.toNat (List.take a1.toNat a7))) c9 5 [] [] .nilSlice [] a9) (C2 65536 ((.box p 0)) header u ((List.drop u.toNat (List.take a1.toNat a7))) c9 5 [] [] .nilSlice [] a9))/\∀z b s o q a6 e f d v8 c k,C2 z b s o q a6 e f d v8 c k->(BId (z<(a6.length:Int)) (CallT PR Am [b,.int .i64 o,.int .i64 10] [.one .bool] k (fun (e2:Bool) d2=>need (List.all [.int .i64 e,.str f,.str d,v8,.str c] As) (K e f d v8 c e2 d2))) (BIf s (need (isPtr b) (need (isPtr b) (Ah (Ad k [] (.t (Ao b 13)) 0) (fun (v9:TV)=>Ah (EI k v9) (fun (es2:List (B8×TV))=>Ag .bool (Gw (.bool false) (BQ a6 es2)) (fun (i3:Bool)=>BIf i3 (CallT PR Am [b,.int .i64 o,.int .i64 8] [.one .bool] k (fun (e0:Bool) d3=>need (List.all [.int .i64 e,.str f,.str d,v8,.str c] As) (K e f d v8 c e0 d3))) (need (isPtr b) (need (isPtr b) (Ah (Ad k [] (.t (Ao b 13)) 0) (fun (g7:TV)=>muK g7 a6 (.bool true) k (fun d1=>Bs 79 5 80 v8 1 [.int .i64 2,(.str []),.str q,.nilSlice,(.str [])] d1 (fun (x:TV) i=>need (List.all [x] As) (need (isPtr b) (need (isPtr b) (Ah (Ad i [] (.t (Ao b 10)) 0) (fun (e6:TV)=>Ag (.int .i64) e6 (fun (e8:Int)=>need (isPtr b) (need (isPtr b) (Ah (Ad i [] (.t (Ao b 0)) 0) (fun (g8:TV)=>Ag .str g8 (fun (i0:B8)=>BId (e8<(i0.length:Int)) (need (isPtr b) (need (isPtr b) (Ah (Ad i [] (.t (Ao b 0)) 0) (fun (h3:TV)=>Ag .str h3 (fun (c7:B8)=>need (isPtr b) (need (isPtr b) (Ah (Ad i [] (.t (Ao b 10)) 0) (fun (e1:TV)=>Ag (.int .i64) e1 (fun (c5:Int)=>((0<=c5/\c5<(c7.length:Int))/\need (isPtr b) (need (isPtr b) (need (isPtr (Ao b 1)) (Ah (Ad i [] (.t (Ao (Ao b 1) 0)) 0) (fun (f6:TV)=>Ag (.int .u8) f6 (fun (j3:Int)=>BId (((List.getD c7 c5.toNat 0).toNat:Int)=j3) (need (isPtr b) (need (isPtr b) (Ah (Ad i [] (.t (Ao b 10)) 0) (fun (f2:TV)=>Ag (.int .i64) f2 (fun (g3:Int)=>need (isPtr b) (need (isPtr b) (stB i (Ao b 10) [(.int .i64 (i64.wrap (g3+(1:Int))))] (fun a5=>need (isPtr b) (need (isPtr b) (need (isPtr (Ao b 1)) (Ah (Ad a5 [] (.t (Ao (Ao b 1) 0)) 0) (fun (i6:TV)=>Ag (.int .u8) i6 (fun (h0:Int)=>Ah ((toBytes a5 (.list 1 .full 1 [.int .u8 h0])).map TV.str) (fun (e3:TV)=>Ag .str e3 (fun (h7:B8)=>Bs 79 5 80 x 1 [.int .i64 11,(.str []),.str h7,.nilSlice,(.str [])] a5 (fun (b0:TV) d5=>need (List.all [b0] As) (need (List.all [.int .i64 e,.str f,.str d,b0,.str c] As) (K e f d b0 c true d5)))))))))))))))))) (need (List.all [.int .i64 e,.str f,.str d,x,.str c] As) (K e f d x c true i))))))))))))))))) (need (List.all [.int .i64 e,.str f,.str d,x,.str c] As) (K e f d x c true i))))))))))))))))))))))) (Bs 79 5 80 v8 1 [.int .i64 2,(.str []),.str q,.nilSlice,(.str [])] k (fun (y:TV) j=>need (List.all [y] As) (need (isPtr b) (need (isPtr b) (Ah (Ad j [] (.t (Ao b 10)) 0) (fun (g0:TV)=>Ag (.int .i64) g0 (fun (e7:Int)=>need (isPtr b) (need (isPtr b) (Ah (Ad j [] (.t (Ao b 0)) 0) (fun (i5:TV)=>Ag .str i5 (fun (h1:B8)=>BId (e7<(h1.length:Int)) (need (isPtr b) (need (isPtr b) (Ah (Ad j [] (.t (Ao b 0)) 0) (fun (j8:TV)=>Ag .str j8 (fun (d0:B8)=>need (isPtr b) (need (isPtr b) (Ah (Ad j [] (.t (Ao b 10)) 0) (fun (j7:TV)=>Ag (.int .i64) j7 (fun (c0:Int)=>((0<=c0/\c0<(d0.length:Int))/\need (isPtr b) (need (isPtr b) (need (isPtr (Ao b 1)) (Ah (Ad j [] (.t (Ao (Ao b 1) 0)) 0) (fun (g9:TV)=>Ag (.int .u8) g9 (fun (j6:Int)=>BId (((List.getD d0 c0.toNat 0).toNat:Int)=j6) (need (isPtr b) (need (isPtr b) (Ah (Ad j [] (.t (Ao b 10)) 0) (fun (i7:TV)=>Ag (.int .i64) i7 (fun (h5:Int)=>need (isPtr b) (need (isPtr b) (stB j (Ao b 10) [(.int .i64 (i64.wrap (h5+(1:Int))))] (fun a3=>need (isPtr b) (need (isPtr b) (need (isPtr (Ao b 1)) (Ah (Ad a3 [] (.t (Ao (Ao b 1) 0)) 0) (fun (d8:TV)=>Ag (.int .u8) d8 (fun (i1:Int)=>Ah ((toBytes a3 (.list 1 .full 1 [.int .u8 i1])).map TV.str) (fun (h6:TV)=>Ag .str h6 (fun (j5:B8)=>Bs 79 5 80 y 1 [.int .i64 11,(.str []),.str j5,.nilSlice,(.str [])] a3 (fun (c3:TV) d7=>need (List.all [c3] As) (need (List.all [.int .i64 e,.str f,.str d,c3,.str c] As) (K e f d c3 c true d7)))))))))))))))))) (need (List.all [.int .i64 e,.str f,.str d,y,.str c] As) (K e f d y c true j))))))))))))))))) (need (List.all [.int .i64 e,.str f,.str d,y,.str c] As) (K e f d y c true j))))))))))))))))))))))))))))):CallT PR AQ [(.box p 0),.bool header] [.agg [.int .i64,.str,.str,.tv,.str],.one .bool] st K:=
 Ae (cfg:=⟨[4,6],[],[]⟩) (h:=(.seq .none (.seq .none (.seq .none (.seq .none (.seq .none (.seq .none (.seq .none (.seq .none (.cut ⟨[(11,.int .i64),(0,.tv),(1,.bool),(7,.int .i64),(8,.str),(9,.str)],[(4,0,0),(6,1,0)],[(0,5),(1,5)],[(1,0,.int .i64),(1,1,.str),(1,2,.str),(1,3,.tv),(1,4,.str)]⟩ .none .none)))))))))) mixed (fun _ _=>Tryz.call193 _ _) Tryz.func193 (by kernel_rfl) (by kernel_rfl) h
theorem HM (p:Nat) (r:Nat) (st:St) (K:Bool->St->Prop) (h:Ah (Ad st [] (.t (.box p 10)) 0) (fun (x1:TV)=>Ag (.int .i64) x1 (fun (n1:Int)=>Ah (Ad st [] (.t (.box p 10)) 0) (fun (x2:TV)=>Ag (.int .i64) x2 (fun (n2:Int)=>Ah (Ad st [] (.t (.box p 0)) 0) (fun (x3:TV)=>Ag .str x3 (fun (s1:B8)=>BId (n2=(s1.length:Int)) (K true st) (Ah (Ad st [] (.t (.box p 0)) 0) (fun (x4:TV)=>Ag .str x4 (fun (s2:B8)=>Ah (Ad st [] (.t (.box p 10)) 0) (fun (x5:TV)=>Ag (.int .i64) x5 (fun (n3:Int)=>((0<=n3/\n3<(s2.length:Int))/\BId (((List.getD s2 n3.toNat 0).toNat:Int)=(13:Int)) (Ah (Ad st [] (.t (.box p 10)) 0) (fun (x6:TV)=>Ag (.int .i64) x6 (fun (n4:Int)=>stB st (.box p 10) [(.int .i64 (i64.wrap (n4+(1:Int))))] (fun a=>Ah (Ad a [] (.t (.box p 10)) 0) (fun (x7:TV)=>Ag (.int .i64) x7 (fun (n5:Int)=>Ah (Ad a [] (.t (.box p 0)) 0) (fun (x8:TV)=>Ag .str x8 (fun (s3:B8)=>BId (n5=(s3.length:Int)) (Ah (Ad a [] (.t (.box p 10)) 0) (fun (x9:TV)=>Ag (.int .i64) x9 (fun (n6:Int)=>CallT PR Am [(.box p 0),.int .i64 n6,.int .i64 4] [.one .bool] a (fun (b1:Bool) i=>K b1 i)))) (Ah (Ad a [] (.t (.box p 0)) 0) (fun (l:TV)=>Ag .str l (fun (s4:B8)=>Ah (Ad a [] (.t (.box p 10)) 0) (fun (j:TV)=>Ag (.int .i64) j (fun (n7:Int)=>((0<=n7/\n7<(s4.length:Int))/\BId (((List.getD s4 n7.toNat 0).toNat:Int)≠(10:Int)) (CallT PR Am [(.box p 0),.int .i64 n1,.int .i64 3] [.one .bool] a (fun (b2:Bool) m=>K b2 m)) (Ah (Ad a [] (.t (.box p 10)) 0) (fun (e:TV)=>Ag (.int .i64) e (fun (n8:Int)=>stB a (.box p 10) [(.int .i64 (i64.wrap (n8+(1:Int))))] (fun b=>Ah (Ad b [] (.t (.box p 0)) 0) (fun (s:TV)=>Ag .str s (fun (s5:B8)=>Ah (Ad b [] (.t (.box p 10)) 0) (fun (u:TV)=>Ag (.int .i64) u (fun (n9:Int)=>((0<=n1/\n1<=n9/\n9<=(s5.length:Int))/\stB b (.box r 4) [(.str (List.drop n1.toNat (List.take n9.toNat s5)))] (fun f=>K true f)))))))))))))))))))))))) (BId (((List.getD s2 n3.toNat 0).toNat:Int)=(10:Int)) (Ah (Ad st [] (.t (.box p 10)) 0) (fun (n:TV)=>Ag (.int .i64) n (fun (q:Int)=>stB st (.box p 10) [(.int .i64 (i64.wrap (q+(1:Int))))] (fun c=>Ah (Ad c [] (.t (.box p 0)) 0) (fun (o:TV)=>Ag .str o (fun (s6:B8)=>Ah (Ad c [] (.t (.box p 10)) 0) (fun (k:TV)=>Ag (.int .i64) k (fun (d:Int)=>((0<=n1/\n1<=d/\d<=(s6.length:Int))/\stB c (.box r 4) [(.str (List.drop n1.toNat (List.take d.toNat s6)))] (fun v=>K true v)))))))))) (CallT PR Am [(.box p 0),.int .i64 n1,.int .i64 3] [.one .bool] st (fun (b3:Bool) g=>K b3 g)))))))))))))))):CallT PR AI [(.box p 0),(.box r 0)] [.one .bool] st K:=
 Ae (cfg:=⟨[],[],[]⟩) (h:= .none) mixed (fun _ _=>Tryz.call194 _ _) Tryz.func194 (by kernel_rfl) (by kernel_rfl) h
theorem R6 (kind:Int) (st:St) (K:Bool->St->Prop) (h:BId (kind=2) (BId (kind=2) (K true st) (K false st)) (BId (kind=6) (BId (kind=6) (K true st) (K false st)) (BId (kind=10) (BId (kind=10) (K true st) (K false st)) (BId (kind=11) (K true st) (K false st))))):CallT PR II [.int .i64 kind] [.one .bool] st K:=
 Ae (cfg:=⟨[],[],[]⟩) (h:= .none) mixed (fun _ _=>Tryz.call195 _ _) Tryz.func195 (by kernel_rfl) (by kernel_rfl) h
theorem Ou (b:Int) (st:St) (K:Bool->St->Prop) (h:BId ((97:Int)<=b) (BId (b<=122) (K true st) (BId ((65:Int)<=b) (K ((decide (b<=90))) st) (K false st))) (BId ((65:Int)<=b) (K ((decide (b<=90))) st) (K false st))):CallT PR FN [.int .u8 b] [.one .bool] st K:=
 Ae (cfg:=⟨[],[],[]⟩) (h:= .none) mixed (fun _ _=>Tryz.call203 _ _) Tryz.func203 (by kernel_rfl) (by kernel_rfl) h
theorem R7 (a_0:Int) (a_1:B8) (a_2:B8) (a_3:TV) (a_4:B8) (b_0:Int) (b_1:B8) (b_2:B8) (b_3:TV) (b_4:B8) (st:St) (K:Bool->St->Prop) (h:BId (a_0≠b_0) (K false st) (BId (a_1≠b_1) (K false st) (BId (a_2≠b_2) (K false st) (BId (a_4≠b_4) (K false st) (need (isSl a_3) (need (isSl b_3) (BId ((lenS a_3:Int)≠(lenS b_3:Int)) (K false st) (need (isSl a_3) (∃(I1:Int->Int->Int->B8->B8->TV->B8->Int->B8->B8->TV->B8->St->Prop) (M1:Int->Int->Int->B8->B8->TV->B8->Int->B8->B8->TV->B8->St->Nat),(I1 0 ((lenS a_3:Int)) a_0 a_1 a_2 a_3 a_4 b_0 b_1 b_2 b_3 b_4 st)/\∀a b n1 s1 s2 v1 s3 n2 s4 s5 v2 s6 c,I1 a b n1 s1 s2 v1 s3 n2 s4 s5 v2 s6 c->(BId (a<b) (((0<=a/\a<(lenZ 5 v1:Int))/\Ah ((Ai Hc [] (.t (ixT 5 v1 a.toNat)) 0 5).map TV.agg) (fun (x1:TV)=>AO [.int .i64,.str,.str,.tv,.str] x1 (fun (n3:Int) (s7 s8:B8) (v3:TV) (s9:B8)=>((0<=a/\a<(lenZ 5 v2:Int))/\Ah ((Ai Hc [] (.t (ixT 5 v2 a.toNat)) 0 5).map TV.agg) (fun (x2:TV)=>AO [.int .i64,.str,.str,.tv,.str] x2 (fun (n4:Int) (g e:B8) (v4:TV) (f:B8)=>CallT PR F9 [(.agg [.int .i64 n3,.str s7,.str s8,v3,.str s9]),(.agg [.int .i64 n4,.str g,.str e,v4,.str f])] [.one .bool] c (fun (b1:Bool) d=>BIf (!b1) (K false d) ((I1 ((i64.wrap (a+(1:Int)))) b n1 s1 s2 v1 s3 n2 s4 s5 v2 s6 d/\M1 ((i64.wrap (a+(1:Int)))) b n1 s1 s2 v1 s3 n2 s4 s5 v2 s6 d<M1 a b n1 s1 s2 v1 s3 n2 s4 s5 v2 s6 c)))))))))) (K true c))))))))))):CallT PR F9 [(.agg [.int .i64 a_0,.str a_1,.str a_2,a_3,.str a_4]),(.agg [.int .i64 b_0,.str b_1,.str b_2,b_3,.str b_4])] [.one .bool] st K:=
 Ae (cfg:=⟨[2,3],[],[]⟩) (h:=(.seq .none (.seq .none (.seq (.seq .none (.block (.loop ⟨[(44,.int .i64),(43,.int .i64)],[(2,0,0),(3,1,0)],[(0,5),(1,5)],[(0,0,.int .i64),(0,1,.str),(0,2,.str),(0,3,.tv),(0,4,.str),(1,0,.int .i64),(1,1,.str),(1,2,.str),(1,3,.tv),(1,4,.str)]⟩ .none))) .none)))) mixed (fun _ _=>Tryz.call252 _ _) Tryz.func252 (by kernel_rfl) (by kernel_rfl) h
theorem QH (cells:TV) (d_0:Int) (d_1:Int) (d_2:Bool) (d_3:Bool) (st:St) (K:B8->Int->St->Prop) (h:CallT PR B3 [(.agg [.int .u8 d_0,.int .u8 d_1,.bool d_2,.bool d_3])] [.one .bool] st (fun (b1:Bool) f=>BIf (!b1) (K [] 1 f) (need (isSl cells) (BId ((lenS cells:Int)=(0:Int)) (K [] 1 f) (need (isSl cells) (∃(I1:Int->TV->TV->Int->Int->Int->Bool->Bool->St->Prop) (M1:Int->TV->TV->Int->Int->Int->Bool->Bool->St->Nat),(I1 0 ((.box f.nb 0)) cells ((lenS cells:Int)) d_0 d_1 d_2 d_3 (f.push (.cells [.nilPtr,.nilSlice]) (some 188)))/\∀b a c d n1 n2 b2 b3 e,I1 b a c d n1 n2 b2 b3 e->(BId (b<d) (((0<=b/\b<(lenZ 1 c:Int))/\Ah (Ad e [] (.t (ixT 1 c b.toNat)) 0) (fun (x1:TV)=>Ag .str x1 (fun (s1:B8)=>BId ((0:Int)<b) (CallT PR AG [a,.int .u8 n1] [.one .tv] e (fun (v1:TV) n=>CallT PR CE [.str s1,(.agg [.int .u8 n1,.int .u8 n2,.bool b2,.bool b3])] [.one .str,.one (.int .i64)] n (fun (s2:B8) (n3:Int) i=>BId (n3≠0) (K [] n3 i) (CallT PR Av [a,.str s2] [.one (.int .i64),.one .tv] i (fun (n4:Int) (v2:TV) g=>(I1 ((i64.wrap (b+(1:Int)))) a c d n1 n2 b2 b3 g/\M1 ((i64.wrap (b+(1:Int)))) a c d n1 n2 b2 b3 g<M1 b a c d n1 n2 b2 b3 e)))))) (CallT PR CE [.str s1,(.agg [.int .u8 n1,.int .u8 n2,.bool b2,.bool b3])] [.one .str,.one (.int .i64)] e (fun (s3:B8) (n5:Int) j=>BId (n5≠0) (K [] n5 j) (CallT PR Av [a,.str s3] [.one (.int .i64),.one .tv] j (fun (n6:Int) (v3:TV) k=>(I1 ((i64.wrap (b+(1:Int)))) a c d n1 n2 b2 b3 k/\M1 ((i64.wrap (b+(1:Int)))) a c d n1 n2 b2 b3 k<M1 b a c d n1 n2 b2 b3 e))))))))) (CallT PR AG [a,.int .u8 10] [.one .tv] e (fun (v4:TV) m=>CallT PR AV [a] [.one .str] m (fun (s4:B8) l=>K s4 0 l)))))))))):CallT PR Hz [cells,(.agg [.int .u8 d_0,.int .u8 d_1,.bool d_2,.bool d_3])] [.one .str,.one (.int .i64)] st K:=
 Ae (cfg:=⟨[3],[],[]⟩) (h:=(.seq .none (.seq .none (.seq .none (.seq (.seq .none (.block (.loop ⟨[(21,.int .i64),(6,.tv),(19,.tv),(20,.int .i64)],[(3,0,0)],[(0,4)],[(0,0,.int .u8),(0,1,.int .u8),(0,2,.bool),(0,3,.bool)]⟩ .none))) .none))))) mixed (fun _ _=>Tryz.call258 _ _) Tryz.func258 (by kernel_rfl) (by kernel_rfl) h
theorem JQ (p:Nat) (st:St) (K:Bool->St->Prop) (h:Ah (Ad st [] (.t (.box p 10)) 0) (fun (x1:TV)=>Ag (.int .i64) x1 (fun (n1:Int)=>Ah (Ad st [] (.t (.box p 0)) 0) (fun (x2:TV)=>Ag .str x2 (fun (s1:B8)=>BId (n1<(s1.length:Int)) (Ah (Ad st [] (.t (.box p 0)) 0) (fun (x3:TV)=>Ag .str x3 (fun (s2:B8)=>Ah (Ad st [] (.t (.box p 10)) 0) (fun (x4:TV)=>Ag (.int .i64) x4 (fun (n2:Int)=>((0<=n2/\n2<(s2.length:Int))/\Ah (Ad st [] (.t (.box p 2)) 0) (fun (x5:TV)=>Ag (.int .u8) x5 (fun (n3:Int)=>BId (((List.getD s2 n2.toNat 0).toNat:Int)=n3) (CallT PR CQ [(.box p 0)] [.one .bool] st (fun (b1:Bool) c9=>K b1 c9)) (∃(I1:TV->St->Prop) (M1:TV->St->Nat),(I1 ((.box p 0)) st)/\∀a d,I1 a d->(need (isPtr a) (need (isPtr a) (Ah (Ad d [] (.t (Ao a 10)) 0) (fun (x6:TV)=>Ag (.int .i64) x6 (fun (n4:Int)=>need (isPtr a) (need (isPtr a) (Ah (Ad d [] (.t (Ao a 0)) 0) (fun (x7:TV)=>Ag .str x7 (fun (s3:B8)=>BId (n4<(s3.length:Int)) (need (isPtr a) (need (isPtr a) (Ah (Ad d [] (.t (Ao a 0)) 0) (fun (x8:TV)=>Ag .str x8 (fun (s4:B8)=>need (isPtr a) (need (isPtr a) (Ah (Ad d [] (.t (Ao a 10)) 0) (fun (x9:TV)=>Ag (.int .i64) x9 (fun (n5:Int)=>((0<=n5/\n5<(s4.length:Int))/\need (isPtr a) (need (isPtr a) (need (isPtr (Ao a 1)) (Ah (Ad d [] (.t (Ao (Ao a 1) 0)) 0) (fun (a6:TV)=>Ag (.int .u8) a6 (fun (n6:Int)=>BId (((List.getD s4 n5.toNat 0).toNat:Int)=n6) (BId (((List.getD s4 n5.toNat 0).toNat:Int)=n6) (K true d) (need (isPtr a) (need (isPtr a) (need (isPtr (Ao a 1)) (Ah (Ad d [] (.t (Ao (Ao a 1) 1)) 0) (fun (d6:TV)=>Ag (.int .u8) d6 (fun (n7:Int)=>BId (((List.getD s4 n5.toNat 0).toNat:Int)=n7) (need (isPtr a) (need (isPtr a) (Ah (Ad d [] (.t (Ao a 10)) 0) (fun (r:TV)=>Ag (.int .i64) r (fun (n8:Int)=>CallT PR Am [a,.int .i64 n8,.int .i64 3] [.one .bool] d (fun (b2:Bool) b0=>K b2 b0)))))) (need (isPtr a) (need (isPtr a) (Ah (Ad d [] (.t (Ao a 10)) 0) (fun (e0:TV)=>Ag (.int .i64) e0 (fun (n9:Int)=>need (isPtr a) (need (isPtr a) (stB d (Ao a 10) [(.int .i64 (i64.wrap (n9+(1:Int))))] (fun k=>(I1 a k/\M1 a k<M1 a d)))))))))))))))) (BId (((List.getD s4 n5.toNat 0).toNat:Int)=(10:Int)) (BId (((List.getD s4 n5.toNat 0).toNat:Int)=(10:Int)) (K true d) (need (isPtr a) (need (isPtr a) (need (isPtr (Ao a 1)) (Ah (Ad d [] (.t (Ao (Ao a 1) 1)) 0) (fun (e2:TV)=>Ag (.int .u8) e2 (fun (e1:Int)=>BId (((List.getD s4 n5.toNat 0).toNat:Int)=e1) (need (isPtr a) (need (isPtr a) (Ah (Ad d [] (.t (Ao a 10)) 0) (fun (a7:TV)=>Ag (.int .i64) a7 (fun (y:Int)=>CallT PR Am [a,.int .i64 y,.int .i64 3] [.one .bool] d (fun (b3:Bool) c6=>K b3 c6)))))) (need (isPtr a) (need (isPtr a) (Ah (Ad d [] (.t (Ao a 10)) 0) (fun (d1:TV)=>Ag (.int .i64) d1 (fun (u:Int)=>need (isPtr a) (need (isPtr a) (stB d (Ao a 10) [(.int .i64 (i64.wrap (u+(1:Int))))] (fun m=>(I1 a m/\M1 a m<M1 a d)))))))))))))))) (BId (((List.getD s4 n5.toNat 0).toNat:Int)=(13:Int)) (K true d) (need (isPtr a) (need (isPtr a) (need (isPtr (Ao a 1)) (Ah (Ad d [] (.t (Ao (Ao a 1) 1)) 0) (fun (a3:TV)=>Ag (.int .u8) a3 (fun (c3:Int)=>BId (((List.getD s4 n5.toNat 0).toNat:Int)=c3) (need (isPtr a) (need (isPtr a) (Ah (Ad d [] (.t (Ao a 10)) 0) (fun (a5:TV)=>Ag (.int .i64) a5 (fun (v:Int)=>CallT PR Am [a,.int .i64 v,.int .i64 3] [.one .bool] d (fun (b4:Bool) d4=>K b4 d4)))))) (need (isPtr a) (need (isPtr a) (Ah (Ad d [] (.t (Ao a 10)) 0) (fun (c4:TV)=>Ag (.int .i64) c4 (fun (a2:Int)=>need (isPtr a) (need (isPtr a) (stB d (Ao a 10) [(.int .i64 (i64.wrap (a2+(1:Int))))] (fun l=>(I1 a l/\M1 a l<M1 a d)))))))))))))))))))))))))))))))) (K true d))))))))))))))))))) (∃(I2:TV->St->Prop) (M2:TV->St->Nat),(I2 ((.box p 0)) st)/\∀b c,I2 b c->(need (isPtr b) (need (isPtr b) (Ah (Ad c [] (.t (Ao b 10)) 0) (fun (w:TV)=>Ag (.int .i64) w (fun (c1:Int)=>need (isPtr b) (need (isPtr b) (Ah (Ad c [] (.t (Ao b 0)) 0) (fun (c7:TV)=>Ag .str c7 (fun (s5:B8)=>BId (c1<(s5.length:Int)) (need (isPtr b) (need (isPtr b) (Ah (Ad c [] (.t (Ao b 0)) 0) (fun (x:TV)=>Ag .str x (fun (s6:B8)=>need (isPtr b) (need (isPtr b) (Ah (Ad c [] (.t (Ao b 10)) 0) (fun (a1:TV)=>Ag (.int .i64) a1 (fun (e:Int)=>((0<=e/\e<(s6.length:Int))/\need (isPtr b) (need (isPtr b) (need (isPtr (Ao b 1)) (Ah (Ad c [] (.t (Ao (Ao b 1) 0)) 0) (fun (d8:TV)=>Ag (.int .u8) d8 (fun (j:Int)=>BId (((List.getD s6 e.toNat 0).toNat:Int)=j) (BId (((List.getD s6 e.toNat 0).toNat:Int)=j) (K true c) (need (isPtr b) (need (isPtr b) (need (isPtr (Ao b 1)) (Ah (Ad c [] (.t (Ao (Ao b 1) 1)) 0) (fun (d0:TV)=>Ag (.int .u8) d0 (fun (d2:Int)=>BId (((List.getD s6 e.toNat 0).toNat:Int)=d2) (need (isPtr b) (need (isPtr b) (Ah (Ad c [] (.t (Ao b 10)) 0) (fun (d3:TV)=>Ag (.int .i64) d3 (fun (b9:Int)=>CallT PR Am [b,.int .i64 b9,.int .i64 3] [.one .bool] c (fun (b5:Bool) q=>K b5 q)))))) (need (isPtr b) (need (isPtr b) (Ah (Ad c [] (.t (Ao b 10)) 0) (fun (a4:TV)=>Ag (.int .i64) a4 (fun (c2:Int)=>need (isPtr b) (need (isPtr b) (stB c (Ao b 10) [(.int .i64 (i64.wrap (c2+(1:Int))))] (fun g=>(I2 b g/\M2 b g<M2 b c)))))))))))))))) (BId (((List.getD s6 e.toNat 0).toNat:Int)=(10:Int)) (BId (((List.getD s6 e.toNat 0).toNat:Int)=(10:Int)) (K true c) (need (isPtr b) (need (isPtr b) (need (isPtr (Ao b 1)) (Ah (Ad c [] (.t (Ao (Ao b 1) 1)) 0) (fun (s:TV)=>Ag (.int .u8) s (fun (d5:Int)=>BId (((List.getD s6 e.toNat 0).toNat:Int)=d5) (need (isPtr b) (need (isPtr b) (Ah (Ad c [] (.t (Ao b 10)) 0) (fun (a8:TV)=>Ag (.int .i64) a8 (fun (c5:Int)=>CallT PR Am [b,.int .i64 c5,.int .i64 3] [.one .bool] c (fun (b6:Bool) n=>K b6 n)))))) (need (isPtr b) (need (isPtr b) (Ah (Ad c [] (.t (Ao b 10)) 0) (fun (c0:TV)=>Ag (.int .i64) c0 (fun (a0:Int)=>need (isPtr b) (need (isPtr b) (stB c (Ao b 10) [(.int .i64 (i64.wrap (a0+(1:Int))))] (fun i=>(I2 b i/\M2 b i<M2 b c)))))))))))))))) (BId (((List.getD s6 e.toNat 0).toNat:Int)=(13:Int)) (K true c) (need (isPtr b) (need (isPtr b) (need (isPtr (Ao b 1)) (Ah (Ad c [] (.t (Ao (Ao b 1) 1)) 0) (fun (d7:TV)=>Ag (.int .u8) d7 (fun (c8:Int)=>BId (((List.getD s6 e.toNat 0).toNat:Int)=c8) (need (isPtr b) (need (isPtr b) (Ah (Ad c [] (.t (Ao b 10)) 0) (fun (z:TV)=>Ag (.int .i64) z (fun (b8:Int)=>CallT PR Am [b,.int .i64 b8,.int .i64 3] [.one .bool] c (fun (b7:Bool) o=>K b7 o)))))) (need (isPtr b) (need (isPtr b) (Ah (Ad c [] (.t (Ao b 10)) 0) (fun (d9:TV)=>Ag (.int .i64) d9 (fun (a9:Int)=>need (isPtr b) (need (isPtr b) (stB c (Ao b 10) [(.int .i64 (i64.wrap (a9+(1:Int))))] (fun f=>(I2 b f/\M2 b f<M2 b c)))))))))))))))))))))))))))))))) (K true c)))))))))))))))):CallT PR Co [(.box p 0)] [.one .bool] st K:=
 Ae (cfg:=⟨[],[],[]⟩) (h:=(.seq .none (.seq .none (.seq (.block (.loop ⟨[(0,.tv)],[],[],[]⟩ .none)) .none)))) mixed (fun _ _=>Tryz.call265 _ _) Tryz.func265 (by kernel_rfl) (by kernel_rfl) h
theorem Id (p:Nat) (st:St) (K:Bool->St->Prop) (h:Ah (Ad st [] (.t (.box p 10)) 0) (fun (x1:TV)=>Ag (.int .i64) x1 (fun (n1:Int)=>stB st (.box p 10) [(.int .i64 (i64.wrap (n1+(1:Int))))] (fun i=>∃(I1:TV->St->Prop) (M1:TV->St->Nat),(I1 ((.box p 0)) i)/\∀a b,I1 a b->(need (isPtr a) (need (isPtr a) (Ah (Ad b [] (.t (Ao a 10)) 0) (fun (x2:TV)=>Ag (.int .i64) x2 (fun (n2:Int)=>need (isPtr a) (need (isPtr a) (Ah (Ad b [] (.t (Ao a 0)) 0) (fun (x3:TV)=>Ag .str x3 (fun (s1:B8)=>BId (n2<(s1.length:Int)) (need (isPtr a) (need (isPtr a) (Ah (Ad b [] (.t (Ao a 0)) 0) (fun (x4:TV)=>Ag .str x4 (fun (s2:B8)=>need (isPtr a) (need (isPtr a) (Ah (Ad b [] (.t (Ao a 10)) 0) (fun (x5:TV)=>Ag (.int .i64) x5 (fun (n3:Int)=>((0<=n3/\n3<(s2.length:Int))/\need (isPtr a) (need (isPtr a) (need (isPtr (Ao a 1)) (Ah (Ad b [] (.t (Ao (Ao a 1) 1)) 0) (fun (x6:TV)=>Ag (.int .u8) x6 (fun (n4:Int)=>BId (((List.getD s2 n3.toNat 0).toNat:Int)≠n4) (need (isPtr a) (need (isPtr a) (Ah (Ad b [] (.t (Ao a 10)) 0) (fun (x7:TV)=>Ag (.int .i64) x7 (fun (n5:Int)=>need (isPtr a) (need (isPtr a) (stB b (Ao a 10) [(.int .i64 (i64.wrap (n5+(1:Int))))] (fun e=>(I1 a e/\M1 a e<M1 a b))))))))) (need (isPtr a) (need (isPtr a) (Ah (Ad b [] (.t (Ao a 10)) 0) (fun (x8:TV)=>Ag (.int .i64) x8 (fun (n6:Int)=>need (isPtr a) (need (isPtr a) (stB b (Ao a 10) [(.int .i64 (i64.wrap (n6+(1:Int))))] (fun c=>need (isPtr a) (need (isPtr a) (Ah (Ad c [] (.t (Ao a 10)) 0) (fun (x9:TV)=>Ag (.int .i64) x9 (fun (n7:Int)=>need (isPtr a) (need (isPtr a) (Ah (Ad c [] (.t (Ao a 0)) 0) (fun (j:TV)=>Ag .str j (fun (s3:B8)=>BId (n7=(s3.length:Int)) (K true c) (need (isPtr a) (need (isPtr a) (Ah (Ad c [] (.t (Ao a 0)) 0) (fun (g:TV)=>Ag .str g (fun (s4:B8)=>need (isPtr a) (need (isPtr a) (Ah (Ad c [] (.t (Ao a 10)) 0) (fun (f:TV)=>Ag (.int .i64) f (fun (n8:Int)=>((0<=n8/\n8<(s4.length:Int))/\need (isPtr a) (need (isPtr a) (need (isPtr (Ao a 1)) (Ah (Ad c [] (.t (Ao (Ao a 1) 1)) 0) (fun (l:TV)=>Ag (.int .u8) l (fun (n9:Int)=>BId (((List.getD s4 n8.toNat 0).toNat:Int)≠n9) (K true c) (need (isPtr a) (need (isPtr a) (Ah (Ad c [] (.t (Ao a 10)) 0) (fun (o:TV)=>Ag (.int .i64) o (fun (m:Int)=>need (isPtr a) (need (isPtr a) (stB c (Ao a 10) [(.int .i64 (i64.wrap (m+(1:Int))))] (fun d=>(I1 a d/\M1 a d<M1 a b))))))))))))))))))))))))))))))))))))))))))))))))))))))) (need (isPtr a) (need (isPtr a) (Ah (Ad b [] (.t (Ao a 0)) 0) (fun (k:TV)=>Ag .str k (fun (s5:B8)=>CallT PR Am [a,(.int .i64 (s5.length:Int)),.int .i64 4] [.one .bool] b (fun (b1:Bool) n=>K b1 n))))))))))))))))))):CallT PR CQ [(.box p 0)] [.one .bool] st K:=
 Ae (cfg:=⟨[],[],[]⟩) (h:=(.seq .none (.seq (.seq .none (.block (.loop ⟨[(0,.tv)],[],[],[]⟩ .none))) .none))) mixed (fun _ _=>Tryz.call299 _ _) Tryz.func299 (by kernel_rfl) (by kernel_rfl) h
section
structure Sc where
 kind:Int
 b:Bool
 neg:Bool
 dg:B8
 ex:Int
 tk:Int
 td:Int
 tn:Int
 tz:Int
 text:B8
 bytes:B8
mutual
inductive Vl where
 | mk (s:Sc) (l:List Vl) (f:List Fd)
inductive Fd where
 | mk (k:B8) (v:Vl)
end
def Vl.sc:Vl->Sc | .mk s _ _=>s
def Vl.list:Vl->List Vl | .mk _ l _=>l
def Vl.flds:Vl->List Fd | .mk _ _ f=>f
def Fd.key:Fd->B8 | .mk k _=>k
def Fd.val:Fd->Vl | .mk _ v=>v
def SlR (st:St) (sz:Nat) (v:TV) (n:Nat) (xs:List TV):Prop:=
 Rd sz v n xs∨∃b off cap l,v= .ms sz b off n cap/\b<st.nb/\st.box b= .cells l/\off+cap*sz<=l.length/\n<=cap/\xs=(l.drop off).take (n*sz)
theorem SlR.of_rd {st:St} {sz n:Nat} {v:TV} {xs:List TV} (h:Rd sz v n xs):SlR st sz v n xs:= .inl h
def BB (st st':St):Prop:=st.nb<=st'.nb/\∀b,b<st.nb->st'.box b=st.box b
theorem SlR.keep {st st':St} (k:BB st st') {sz n:Nat} {v:TV} {xs:List TV} (h:SlR st sz v n xs):SlR st' sz v n xs:=by
 rcases h with h | ⟨b,off,cap,l,h1,h2,h3,h4,h5,h6⟩
 ·exact .inl h
 ·exact .inr ⟨b,off,cap,l,h1,Nat.lt_of_lt_of_le h2 k.1,(k.2 b h2).trans h3,h4,h5,h6⟩
mutual
def VlR (st:St):Vl->List TV->Prop
 | .mk s l f,cs=>∃ub ul uf xl xf,cs=[.int .i64 s.kind,.bool s.b,.bool s.neg,.str s.dg,.int .i64 s.ex,.int .i64 s.tk,.int .i64 s.td,.int .i64 s.tn,.int .i64 s.tz,.str s.text,ub,ul,uf]/\
   SlR st 1 ub s.bytes.length (AA s.bytes)/\SlR st 13 ul l.length xl/\VsR st l xl/\SlR st 14 uf f.length xf/\FsR st f xf
def VsR (st:St):List Vl->List TV->Prop
 | [],xs=>xs=[]
 | v::r,xs=>∃a b,xs=a++b/\VlR st v a/\VsR st r b
def FdR (st:St):Fd->List TV->Prop
 | .mk k v,xs=>∃cs,xs= .str k::cs/\VlR st v cs
def FsR (st:St):List Fd->List TV->Prop
 | [],xs=>xs=[]
 | d::r,xs=>∃a b,xs=a++b/\FdR st d a/\FsR st r b
end
mutual
theorem VlR.keep {st st':St} (k:BB st st'):∀{v:Vl} {cs:List TV},VlR st v cs->VlR st' v cs
 | .mk s l f,cs,h=>by
  unfold VlR at h⊢
  obtain⟨ub,ul,uf,xl,xf,h0,h1,h2,h3,h4,h5⟩:=h
  exact⟨ub,ul,uf,xl,xf,h0,h1.keep k,h2.keep k,VsR.keep k h3,h4.keep k,FsR.keep k h5⟩
theorem VsR.keep {st st':St} (k:BB st st'):∀{l:List Vl} {cs:List TV},VsR st l cs->VsR st' l cs
 | [],cs,h=>by unfold VsR at h⊢;exact h
 | v::r,cs,h=>by
  unfold VsR at h⊢
  obtain⟨a,b,h0,h1,h2⟩:=h
  exact⟨a,b,h0,VlR.keep k h1,VsR.keep k h2⟩
theorem FdR.keep {st st':St} (k:BB st st'):∀{d:Fd} {cs:List TV},FdR st d cs->FdR st' d cs
 | .mk key v,cs,h=>by
  unfold FdR at h⊢
  obtain⟨c,h0,h1⟩:=h
  exact⟨c,h0,VlR.keep k h1⟩
theorem FsR.keep {st st':St} (k:BB st st'):∀{l:List Fd} {cs:List TV},FsR st l cs->FsR st' l cs
 | [],cs,h=>by unfold FsR at h⊢;exact h
 | d::r,cs,h=>by
  unfold FsR at h⊢
  obtain⟨a,b,h0,h1,h2⟩:=h
  exact⟨a,b,h0,FdR.keep k h1,FsR.keep k h2⟩
end
theorem VlR.len {st:St} {v:Vl} {cs:List TV} (h:VlR st v cs):cs.length=13:=by
 cases v;unfold VlR at h;obtain⟨ub,ul,uf,xl,xf,rfl,_⟩:=h;rfl
theorem FdR.len {st:St} {v:Fd} {cs:List TV} (h:FdR st v cs):cs.length=14:=by
 cases v;unfold FdR at h;obtain⟨c,rfl,h⟩:=h;simp[h.len]
theorem VsR.len {st:St}:∀{l:List Vl} {xs:List TV},VsR st l xs->xs.length=l.length*13
 | [],xs,h=>by unfold VsR at h;subst h;rfl
 | v::r,xs,h=>by
  unfold VsR at h
  obtain⟨a,b,rfl,h1,h2⟩:=h
  rw[List.length_append,h1.len,VsR.len h2,List.length_cons];omega
theorem FsR.len {st:St}:∀{l:List Fd} {xs:List TV},FsR st l xs->xs.length=l.length*14
 | [],xs,h=>by unfold FsR at h;subst h;rfl
 | v::r,xs,h=>by
  unfold FsR at h
  obtain⟨a,b,rfl,h1,h2⟩:=h
  rw[List.length_append,h1.len,FsR.len h2,List.length_cons];omega
theorem VsR.get {st:St}:∀{l:List Vl} {xs:List TV} {i:Nat} {v:Vl},VsR st l xs->l[i]? =some v->∃cs,VlR st v cs/\(xs.drop (i*13)).take 13=cs/\cs.length=13
 | [],xs,i,v,h,hi=>by simp at hi
 | w::r,xs,i,v,h,hi=>by
  unfold VsR at h
  obtain⟨a,b,rfl,h1,h2⟩:=h
  cases i with
  | zero=>
   simp only[List.getElem?_cons_zero,Option.some.injEq]at hi
   subst hi
   refine⟨a,h1,?_,h1.len⟩
   rw[Nat.zero_mul,List.drop_zero,<-h1.len,List.take_left]
  | succ i=>
   obtain⟨cs,h3,h4,h5⟩:=VsR.get h2 (by simpa using hi)
   refine⟨cs,h3,?_,h5⟩
   rw[show(i+1)*13=a.length+i*13 by rw[h1.len];omega,List.drop_append]
   simp only[Nat.add_sub_cancel_left]
   rw[List.drop_of_length_le (by omega),List.nil_append];exact h4
theorem FsR.get {st:St}:∀{l:List Fd} {xs:List TV} {i:Nat} {v:Fd},FsR st l xs->l[i]? =some v->∃cs,FdR st v cs/\(xs.drop (i*14)).take 14=cs/\cs.length=14
 | [],xs,i,v,h,hi=>by simp at hi
 | w::r,xs,i,v,h,hi=>by
  unfold FsR at h
  obtain⟨a,b,rfl,h1,h2⟩:=h
  cases i with
  | zero=>
   simp only[List.getElem?_cons_zero,Option.some.injEq]at hi
   subst hi
   refine⟨a,h1,?_,h1.len⟩
   rw[Nat.zero_mul,List.drop_zero,<-h1.len,List.take_left]
  | succ i=>
   obtain⟨cs,h3,h4,h5⟩:=FsR.get h2 (by simpa using hi)
   refine⟨cs,h3,?_,h5⟩
   rw[show(i+1)*14=a.length+i*14 by rw[h1.len];omega,List.drop_append]
   simp only[Nat.add_sub_cancel_left]
   rw[List.drop_of_length_le (by omega),List.nil_append];exact h4
mutual
def Vl.cnt:Vl->Nat
 | .mk _ l f=>1+DA l+EC f
def DA:List Vl->Nat
 | []=>0
 | v::r=>v.cnt+DA r
def Fd.cnt:Fd->Nat
 | .mk _ v=>v.cnt
def EC:List Fd->Nat
 | []=>0
 | d::r=>d.cnt+EC r
end
end
structure StX (S:Nat->Prop) (a b:St):Prop where
 nb:a.nb<=b.nb
 box:∀i,i<a.nb->¬S i->b.box i=a.box i
 nt:a.nt<=b.nt
 live:∀i,i<a.nt->b.live i=a.live i
 ty:∀i,i<a.nt->b.ty i=a.ty i
 bt:∀i,i<a.nb->b.bt i=a.bt i
theorem StX.refl (S:Nat->Prop) (a:St):StX S a a:=⟨Nat.le_refl _,fun _ _ _=>rfl,Nat.le_refl _,fun _ _=>rfl,fun _ _=>rfl,fun _ _=>rfl⟩
theorem StX.trans {S:Nat->Prop} {a b c:St} (h:StX S a b) (k:StX S b c):StX S a c:=
 ⟨Nat.le_trans h.nb k.nb,fun i hi hs=>(k.box i (Nat.lt_of_lt_of_le hi h.nb) hs).trans (h.box i hi hs),Nat.le_trans h.nt k.nt,fun i hi=>(k.live i (Nat.lt_of_lt_of_le hi h.nt)).trans (h.live i hi),fun i hi=>(k.ty i (Nat.lt_of_lt_of_le hi h.nt)).trans (h.ty i hi),fun i hi=>(k.bt i (Nat.lt_of_lt_of_le hi h.nb)).trans (h.bt i hi)⟩
theorem StX.mono {S T:Nat->Prop} {a b:St} (h:StX S a b) (k:∀i,S i->T i):StX T a b:=
 ⟨h.nb,fun i hi hs=>h.box i hi fun g=>hs (k i g),h.nt,h.live,h.ty,h.bt⟩
theorem StX.of {S:Nat->Prop} {a b:St} (h:Al a b):StX S a b:=⟨h.nb,fun i hi _=>h.box i hi,h.nt,h.live,h.ty,h.bt⟩
theorem StX.ext {S:Nat->Prop} {a b c:St} (h:Al a b) (k:StX S b c) (hs:∀i,S i->a.nb<=i):Al a c:=
 ⟨Nat.le_trans h.nb k.nb,fun i hi=>(k.box i (Nat.lt_of_lt_of_le hi h.nb) fun g=>absurd (hs i g) (by omega)).trans (h.box i hi),Nat.le_trans h.nt k.nt,fun i hi=>(k.live i (Nat.lt_of_lt_of_le hi h.nt)).trans (h.live i hi),fun i hi=>(k.ty i (Nat.lt_of_lt_of_le hi h.nt)).trans (h.ty i hi),fun i hi=>(k.bt i (Nat.lt_of_lt_of_le hi h.nb)).trans (h.bt i hi)⟩
theorem StX.put {S:Nat->Prop} {a:St} {i:Nat} (hi:S i) (o:LZ):StX S a (a.put i o):=
 ⟨Nat.le_refl _,fun j hj hs=>by simp only[St.put];rw[if_neg (by rintro rfl;exact hs hi)],Nat.le_refl _,fun _ _=>rfl,fun _ _=>rfl,fun _ _=>rfl⟩
end Go.TVF
section
namespace Go.TVF
open Go.IntKind(i64 u8)
abbrev tyBld:Nat:=188
end Go.TVF
end
namespace Go.TVF
open Go.IntKind(i64 u8)
open Go Go.Proofs
theorem decA14 {k:B8} {n1:Int} {b1 b2:Bool} {s2:B8} {n2 n3 n4 n5 n6:Int} {s3:B8} {u1 u2 u3:TV} {f:Fun [.str,.int .i64,.bool,.bool,.str,.int .i64,.int .i64,.int .i64,.int .i64,.int .i64,.str,.tv,.tv,.tv] Prop} (h:f k n1 b1 b2 s2 n2 n3 n4 n5 n6 s3 u1 u2 u3):
  AO [.str,.int .i64,.bool,.bool,.str,.int .i64,.int .i64,.int .i64,.int .i64,.int .i64,.str,.tv,.tv,.tv] (.agg [.str k,.int .i64 n1,.bool b1,.bool b2,.str s2,.int .i64 n2,.int .i64 n3,.int .i64 n4,.int .i64 n5,.int .i64 n6,.str s3,u1,u2,u3]) f:=h
theorem LD:∀(ys A c B:List TV),ys.length=c.length->setAll (A++c++B) A.length ys=A++ys++B
 | [],A,c,B,h=>by
  have:c=[]:=List.eq_nil_of_length_eq_zero (by simpa using h.symm)
  subst this;rfl
 | y::ys,A,[],B,h=>by simp at h
 | y::ys,A,x::c,B,h=>by
  rw[setAll]
  have e:(A++x::c++B).set A.length y=(A++[y])++c++B:=by simp
  rw[e]
  have:=LD ys (A++[y]) c B (by simpa using h)
  rw[List.length_append]at this
  rw[show A.length+1=A.length+ [y].length from rfl,this]
  simp
theorem OH {st:St} {b:Nat} {B:List TV}:∀(c:List TV) (l:List TV) (j o:Nat),st.box b= .cells l->l.drop (o+j)=c++B->Ai st [] (.t (.box b o)) j c.length=some c
 | [],l,j,o,h,hd=>rfl
 | x::c,l,j,o,h,hd=>by
  have hx:l[o+j]? =some x:=by
   have:=congrArg (fun z:List TV=>z[0]?) hd
   simpa using this
  have hd2:l.drop (o+(j+1))=c++B:=by
   have:=congrArg (fun z:List TV=>z.drop 1) hd
   simpa [List.drop_drop,Nat.add_assoc]using this
  show(match Ad st [] (.t (.box b o)) j with | some x=>(Ai st [] (.t (.box b o)) (j+1) c.length).map (x::·) | none=>none)=_
  have:Ad st [] (.t (.box b o)) j=some x:=by simp only[Ad,h];exact hx
  rw[this]
  simp only
  rw[OH c l (j+1) o h hd2];rfl
theorem BE {g:Ghost} {w:World} {l:B8} {v:Value} (h:Rel g w (.str l) v):v= .string ⟨l.toArray⟩:=by cases h;rfl
theorem TL {g:Ghost} {w:World} {k:IntKind} {n:Int} {v:Value} (h:Rel g w (.int k n) v):v= .int k n:=by cases h;rfl
theorem TN {g:Ghost} {w:World} {x:TV} {vs:List Value} (h:AM g w [x] vs):∃v,vs=[v]/\Rel g w x v:=by
 obtain⟨v,h1,h2⟩:=h.get? (i:=0) rfl
 have:=h.1
 cases vs with
 | nil=>simp at this
 | cons a r=>cases r with
  | nil=>simp at h1;subst h1;exact⟨_,rfl,h2⟩
  | cons b r=>simp at this
theorem Pt {g:Ghost} {w:World} {x y:TV} {vs:List Value} (h:AM g w [x,y] vs):∃v u,vs=[v,u]/\Rel g w x v/\Rel g w y u:=by
 obtain⟨v,h1,h2⟩:=h.get? (i:=0) rfl
 obtain⟨u,h3,h4⟩:=h.get? (i:=1) rfl
 have:=h.1
 cases vs with
 | nil=>simp at this
 | cons a r=>cases r with
  | nil=>simp at this
  | cons b r=>cases r with
   | nil=>simp at h1 h3;subst h1 h3;exact⟨_,_,rfl,h2,h4⟩
   | cons c r=>simp at this
section
inductive U2 {α β:Type} (R:α->β->Prop):List α->List β->Prop
 | nil:U2 R [] []
 | cons {a:α} {b:β} {l:List α} {m:List β}:R a b->U2 R l m->U2 R (a::l) (b::m)
theorem FsR.chunks {st:St}:∀{f:List Fd} {xs:List TV},FsR st f xs->∃cks:List (List TV),xs=cks.flatten/\U2 (FdR st) f cks
 | [],xs,h=>by unfold FsR at h;subst h;exact⟨[],rfl,.nil⟩
 | d::r,xs,h=>by
  unfold FsR at h
  obtain⟨a,b,rfl,h1,h2⟩:=h
  obtain⟨cks,rfl,h3⟩:=FsR.chunks h2
  exact⟨a::cks,by simp,.cons h1 h3⟩
theorem FsR.of_chunks {st:St} {f:List Fd} {cks:List (List TV)} (h:U2 (FdR st) f cks):FsR st f cks.flatten:=by
 induction h with
 | nil=>unfold FsR;rfl
 | cons r _ ih=>unfold FsR;exact⟨_,_,by simp,r,ih⟩
theorem SlR.one {st:St} {sz n:Nat} {u:TV} {xs:List TV} (h:SlR st sz u n xs):As u=true:=by
 rcases h with(⟨rfl,_⟩ | ⟨tip,rfl⟩) | ⟨b,off,cap,l,rfl,_⟩<;>rfl
theorem Al.keeps {a b:St} (h:Al a b):BB a b:=⟨h.nb,h.box⟩
section
variable {st:St}
end
end
def I9 (st:St) (sz:Nat) (u:TV) (n:Nat) (xs:List TV) (bs:List Nat):Prop:=
 (n=0/\xs=[]/\bs=[]/\(u= .nilSlice∨u= .list sz .full 0 []))∨∃b cap tail,u= .ms sz b 0 n cap/\b<st.nb/\st.box b= .cells (xs++tail)/\(xs++tail).length=cap*sz/\xs.length=n*sz/\n<=cap/\bs=[b]
theorem I9.rd {st:St} {sz n:Nat} {u:TV} {xs:List TV} {bs:List Nat} (h:I9 st sz u n xs bs):SlR st sz u n xs:=by
 rcases h with⟨rfl,rfl,rfl,rfl | rfl⟩ | ⟨b,cap,tail,rfl,h1,h2,h3,h4,h5,rfl⟩
 ·exact .inl (.inl ⟨rfl,rfl,rfl⟩)
 ·exact .inl (.inr ⟨_,rfl⟩)
 ·exact .inr ⟨b,0,cap,_,rfl,h1,h2,by omega,h5,by rw[List.drop_zero,<-h4,List.take_left]⟩
theorem Vg (xs ys tail:List TV) (h:ys.length<=tail.length):setAll (xs++tail) xs.length ys=xs++ys++tail.drop ys.length:=by
 have e:tail=tail.take ys.length++tail.drop ys.length:=(List.take_append_drop _ _).symm
 have:=LD ys xs (tail.take ys.length) (tail.drop ys.length) (by simp;omega)
 rw[List.append_assoc,List.take_append_drop]at this
 exact this
theorem Ym {T sz bytes:Nat} {st:St} {u:TV} {n k:Nat} {xs ys:List TV} {bs:List Nat} {K:TV->St->Prop} (h:I9 st sz u n xs bs) (hk1:0<k) (hy:ys.length=k*sz) (hby:(n+k)*bytes<=140737488355328)
  (hK:∀u' st' bs',I9 st' sz u' (n+k) (xs++ys) bs'->StX (·∈bs) st st'->((bs'=bs/\bs≠ [])∨bs'=[st.nb])->K u' st'):OB T sz bytes u k ys st K:=by
 obtain⟨m,rfl⟩:∃m,k=m+1:=⟨k-1,by omega⟩
 have fresh:∀(zs:List TV) (N cap:Nat),zs.length=N*sz->N<=cap->I9 (st.push (.cells (zs++G2 ((cap-N)*sz))) (some T)) sz (.ms sz st.nb 0 N cap) N zs [st.nb]:=fun zs N cap h1 h2=>
  .inr ⟨st.nb,cap,G2 ((cap-N)*sz),rfl,by simp[St.push],by simp[St.push],by rw[List.length_append,h1];simp only[G2,List.length_replicate];rw[<-Nat.add_mul];congr 1;omega,h1,h2,rfl⟩
 rcases h with⟨rfl,rfl,rfl,rfl | rfl⟩ | ⟨b,cap,tail,rfl,h1,h2,h3,h4,h5,rfl⟩
 ·simp only[OB,Ar]
  refine⟨by simpa using hby,fun cap hc=>hK _ _ [st.nb] ?_ (StX.of ((Al.refl st).push _ _)) (.inr rfl)⟩
  have:=fresh ys (m+1) cap hy hc
  simpa using this
 ·simp only[OB,Nat.beq_refl]
  refine⟨hby,fun cap hc=>hK _ _ [st.nb] ?_ (StX.of ((Al.refl st).push _ _)) (.inr rfl)⟩
  have:=fresh ys (0+(m+1)) cap (by rw[hy];congr 1;omega) hc
  simpa using this
 ·simp only[OB,Nat.beq_refl]
  rw[List.length_append]at h3
  refine⟨hby,_,h2,by rw[List.length_append];omega,fun hc=>?_,fun hc cap' hc'=>?_⟩
  ·have hmul:(n+(m+1))*sz<=cap*sz:=Nat.mul_le_mul_right _ hc
   rw[Nat.add_mul]at hmul
   rw[Nat.zero_add,<-h4,Vg xs ys tail (by omega)]
   refine hK _ _ [b] (.inr ⟨b,cap,tail.drop ys.length,rfl,h1,by simp[St.put],by simp only[List.length_append,List.length_drop];omega,by rw[List.length_append,h4,hy,<-Nat.add_mul],hc,rfl⟩) (StX.put (S:=(·∈ [b])) (.head _) _) (.inl ⟨rfl,by simp⟩)
  ·rw[List.drop_zero,<-h4,List.take_left]
   exact hK _ _ [st.nb] (fresh (xs++ys) (n+(m+1)) cap' (by rw[List.length_append,h4,hy,<-Nat.add_mul]) hc') (StX.of ((Al.refl st).push _ _)) (.inr rfl)
section
mutual
def Vl.sz:Vl->Nat
 | .mk s l f=>1+s.bytes.length+s.text.length+s.dg.length+BC l+BV f
def BC:List Vl->Nat
 | []=>0
 | v::r=>v.sz+BC r
def Fd.sz:Fd->Nat
 | .mk k v=>k.length+v.sz
def BV:List Fd->Nat
 | []=>0
 | d::r=>d.sz+BV r
end
theorem Vl.sz_pos (v:Vl):1<=v.sz:=by cases v;unfold Vl.sz;omega
theorem Cz:∀l:List Vl,l.length<=BC l
 | []=>Nat.le_refl _
 | v::r=>by have:=Cz r;have:=v.sz_pos;unfold BC;simp only[List.length_cons];omega
theorem CD:∀l:List Fd,l.length<=BV l
 | []=>Nat.le_refl _
 | .mk k v::r=>by have:=CD r;have:=v.sz_pos;unfold BV Fd.sz;simp only[List.length_cons];omega
theorem HJ:∀{l:List Vl} {i:Nat} {v:Vl},l[i]? =some v->v.sz<=BC l
 | [],i,v,h=>by simp at h
 | w::r,0,v,h=>by simp at h;subst h;unfold BC;omega
 | w::r,i+1,v,h=>by have:=HJ (by simpa using h:r[i]? =some v);unfold BC;omega
theorem H4:∀{l:List Fd} {i:Nat} {d:Fd},l[i]? =some d->d.sz<=BV l
 | [],i,v,h=>by simp at h
 | w::r,0,v,h=>by simp at h;subst h;unfold BV;omega
 | w::r,i+1,v,h=>by have:=H4 (by simpa using h:r[i]? =some v);unfold BV;omega
theorem PO {st:St} {ys:List TV}:∀(k j:Nat),j+k<=ys.length->Ai st [] (.t (.rptr ys)) j k=some ((ys.drop j).take k)
 | 0,j,h=>by simp[Ai]
 | k+1,j,h=>by
  show(match Ad st [] (.t (.rptr ys)) j with | some x=>(Ai st [] (.t (.rptr ys)) (j+1) k).map (x::·) | none=>none)=_
  have hj:j<ys.length:=by omega
  have:Ad st [] (.t (.rptr ys)) j=some ys[j]:=by simp[Ad,hj]
  rw[this]
  simp only
  rw[PO k (j+1) (by omega),List.drop_eq_getElem_cons hj]
  rfl
theorem SlR.ldc {st:St} {sz n i:Nat} {u:TV} {xs:List TV} (h:SlR st sz u n xs) (hl:xs.length=n*sz) (hi:i<n):Ai st [] (.t (ixT sz u i)) 0 sz=some ((xs.drop (i*sz)).take sz):=by
 have hm:(i+1)*sz<=n*sz:=Nat.mul_le_mul_right _ hi
 rw[Nat.add_mul,Nat.one_mul]at hm
 rcases h with(⟨rfl,rfl,rfl⟩ | ⟨tip,rfl⟩) | ⟨b,off,cap,l,rfl,h2,h3,h4,h5,rfl⟩
 ·omega
 ·show Ai st [] (.t (.rptr (xs.drop (i*sz)))) 0 sz=_
  rw[PO sz 0 (by rw[List.length_drop];omega),List.drop_zero]
 ·have hc:n*sz<=cap*sz:=Nat.mul_le_mul_right _ h5
  have e1:(((l.drop off).take (n*sz)).drop (i*sz)).take sz=(l.drop (off+i*sz)).take sz:=by
   rw[List.drop_take,List.drop_drop,List.take_take,Nat.min_eq_left (by omega)]
  rw[e1]
  have e:=OH (B:=l.drop (off+i*sz+sz)) (st:=st) (b:=b) ((l.drop (off+i*sz)).take sz) l 0 (off+i*sz) h3 (by
   have:=List.take_append_drop sz (l.drop (off+i*sz))
   rw[List.drop_drop]at this
   rw[Nat.add_zero];exact this.symm)
  rw[show((l.drop (off+i*sz)).take sz).length=sz by simp;omega]at e
  exact e
theorem SlR.lenZ {st:St} {sz n:Nat} {u:TV} {xs:List TV} (h:SlR st sz u n xs):TVF.lenZ sz u=n:=by
 rcases h with(⟨rfl,rfl,rfl⟩ | ⟨tip,rfl⟩) | ⟨b,off,cap,l,rfl,h2,h3,h4,h5,rfl⟩
 ·rfl
 ·simp[TVF.lenZ]
 ·simp[TVF.lenZ]
theorem SlR.lenS {st:St} {sz n:Nat} {u:TV} {xs:List TV} (h:SlR st sz u n xs):TVF.lenS u=n:=by
 rcases h with(⟨rfl,rfl,rfl⟩ | ⟨tip,rfl⟩) | ⟨b,off,cap,l,rfl,h2,h3,h4,h5,rfl⟩<;>rfl
theorem SlR.isSl {st:St} {sz n:Nat} {u:TV} {xs:List TV} (h:SlR st sz u n xs):TVF.isSl u=true:=by
 rcases h with(⟨rfl,rfl,rfl⟩ | ⟨tip,rfl⟩) | ⟨b,off,cap,l,rfl,h2,h3,h4,h5,rfl⟩<;>rfl
theorem I9.nil (st:St) (sz:Nat):I9 st sz .nilSlice 0 [] []:= .inl ⟨rfl,rfl,rfl,.inl rfl⟩
theorem ZV {n1:Int} {b1 b2:Bool} {s2:B8} {n2 n3 n4 n5 n6:Int} {s3:B8} {u1 u2 u3:TV} {f:Fun [.int .i64,.bool,.bool,.str,.int .i64,.int .i64,.int .i64,.int .i64,.int .i64,.str,.tv,.tv,.tv] Prop} (h:f n1 b1 b2 s2 n2 n3 n4 n5 n6 s3 u1 u2 u3):
  AO [.int .i64,.bool,.bool,.str,.int .i64,.int .i64,.int .i64,.int .i64,.int .i64,.str,.tv,.tv,.tv] (.agg [.int .i64 n1,.bool b1,.bool b2,.str s2,.int .i64 n2,.int .i64 n3,.int .i64 n4,.int .i64 n5,.int .i64 n6,.str s3,u1,u2,u3]) f:=h
theorem Ey {n1:Int} {b1 b2:Bool} {s2:B8} {n2 n3 n4 n5 n6:Int} {s3:B8} {u1 u2 u3:TV} (h1:As u1=true) (h2:As u2=true) (h3:As u3=true):
  List.all [.int .i64 n1,.bool b1,.bool b2,.str s2,.int .i64 n2,.int .i64 n3,.int .i64 n4,.int .i64 n5,.int .i64 n6,.str s3,u1,u2,u3] As=true:=by
 simp only[List.all_cons,List.all_nil,h1,h2,h3,Bool.and_true];rfl
end
theorem one14 {k:B8} {n1:Int} {b1 b2:Bool} {s2:B8} {n2 n3 n4 n5 n6:Int} {s3:B8} {u1 u2 u3:TV} (h1:As u1=true) (h2:As u2=true) (h3:As u3=true):
  List.all [.str k,.int .i64 n1,.bool b1,.bool b2,.str s2,.int .i64 n2,.int .i64 n3,.int .i64 n4,.int .i64 n5,.int .i64 n6,.str s3,u1,u2,u3] As=true:=by
 simp only[List.all_cons,List.all_nil,h1,h2,h3,Bool.and_true];rfl
def A0 (s:Sc) (ub ul uf:TV):List TV:=[.int .i64 s.kind,.bool s.b,.bool s.neg,.str s.dg,.int .i64 s.ex,.int .i64 s.tk,.int .i64 s.td,.int .i64 s.tn,.int .i64 s.tz,.str s.text,ub,ul,uf]
def DQ (f:List Fd):Prop:=(f.map Fd.key).Nodup
theorem key_inj {f:List Fd} (h:DQ f) {x y:Fd} (hx:x∈f) (hy:y∈f) (e:x.key=y.key):x=y:=by
 induction f with
 | nil=>cases hx
 | cons d f ih=>
  unfold DQ at h
  rw[List.map_cons,List.nodup_cons]at h
  rcases List.mem_cons.1 hx with h1 | h1<;>rcases List.mem_cons.1 hy with h2 | h2
  ·rw[h1,h2]
  ·exact absurd (by rw[<-h1,e];exact List.mem_map_of_mem h2) h.1
  ·exact absurd (by rw[<-h2,<-e];exact List.mem_map_of_mem h1) h.1
  ·exact ih h.2 h1 h2
theorem U2.snoc {α β:Type} {R:α->β->Prop} {a:α} {b:β} {l:List α} {m:List β} (h:U2 R l m) (r:R a b):U2 R (l++[a]) (m++[b]):=by
 induction h with
 | nil=>exact .cons r .nil
 | cons r' _ ih=>exact .cons r' ih
theorem CZ {l:List Vl} {v:Vl} (h:v∈l):v.sz<=BC l:=by
 obtain⟨i,hi⟩:=List.getElem?_of_mem h
 exact HJ hi
theorem Uv {l:List Fd} {v:Fd} (h:v∈l):v.sz<=BV l:=by
 obtain⟨i,hi⟩:=List.getElem?_of_mem h
 exact H4 hi
theorem natB_lt (n:Nat) (h:n<256):n.toUInt8.toNat=n:=by simp;omega
theorem Yj (l:B8):List.all (AA l) As=true:=by
 rw[List.all_eq_true];intro x hx
 simp only[AA,List.mem_map]at hx
 obtain⟨y,_,rfl⟩:=hx;rfl
theorem LR {st0 st:St} {ul:TV} {xl:List TV} {l:List Vl} (hke:BB st0 st) (h2:SlR st0 13 ul l.length xl) (h3:VsR st0 l xl) {i:Int} {k:Nat} (hi:i=k) (hk:k<l.length) {f:Fun [.int .i64,.bool,.bool,.str,.int .i64,.int .i64,.int .i64,.int .i64,.int .i64,.str,.tv,.tv,.tv] Prop}
  (hf:∀s' l' f' ub1 ul1 uf1,l[k]? =some (.mk s' l' f')->VlR st0 (.mk s' l' f') (A0 s' ub1 ul1 uf1)->List.all (A0 s' ub1 ul1 uf1) As=true->f s'.kind s'.b s'.neg s'.dg s'.ex s'.tk s'.td s'.tn s'.tz s'.text ub1 ul1 uf1):
  (0<=i/\i<(lenZ 13 ul:Int))/\Ah ((Ai st [] (.t (ixT 13 ul (Int.toNat i))) 0 13).map TV.agg) fun x=>AO [.int .i64,.bool,.bool,.str,.int .i64,.int .i64,.int .i64,.int .i64,.int .i64,.str,.tv,.tv,.tv] x f:=by
 subst hi
 have gw:l[k]? =some l[k]:=List.getElem?_eq_getElem hk
 obtain⟨cw,hw,hcw,hcl⟩:=h3.get gw
 rw[h2.lenZ,Int.toNat_natCast,(h2.keep hke).ldc h3.len hk,hcw]
 generalize l[k]=w at*
 cases w with
 | mk s' l' f'=>
 have hw0:=hw
 unfold VlR at hw0
 obtain⟨ub',ul',uf',xl',xf',rfl,w1,w2,w3,w4,w5⟩:=hw0
 exact⟨⟨by omega,by omega⟩,Ac rfl (ZV (hf s' l' f' ub' ul' uf' gw hw (Ey w1.one w2.one w4.one)))⟩
theorem Ya {st0 st:St} {uf:TV} {xf:List TV} {l:List Fd} (hke:BB st0 st) (h2:SlR st0 14 uf l.length xf) (h3:FsR st0 l xf) {i:Int} {k:Nat} (hi:i=k) (hk:k<l.length) {f:Fun [.str,.int .i64,.bool,.bool,.str,.int .i64,.int .i64,.int .i64,.int .i64,.int .i64,.str,.tv,.tv,.tv] Prop}
  (hf:∀key s' l' f' ub1 ul1 uf1,l[k]? =some (.mk key (.mk s' l' f'))->VlR st0 (.mk s' l' f') (A0 s' ub1 ul1 uf1)->List.all (.str key::A0 s' ub1 ul1 uf1) As=true->f key s'.kind s'.b s'.neg s'.dg s'.ex s'.tk s'.td s'.tn s'.tz s'.text ub1 ul1 uf1):
  (0<=i/\i<(lenZ 14 uf:Int))/\Ah ((Ai st [] (.t (ixT 14 uf (Int.toNat i))) 0 14).map TV.agg) fun x=>AO [.str,.int .i64,.bool,.bool,.str,.int .i64,.int .i64,.int .i64,.int .i64,.int .i64,.str,.tv,.tv,.tv] x f:=by
 subst hi
 have gw:l[k]? =some l[k]:=List.getElem?_eq_getElem hk
 obtain⟨cw,hw,hcw,hcl⟩:=h3.get gw
 rw[h2.lenZ,Int.toNat_natCast,(h2.keep hke).ldc h3.len hk,hcw]
 generalize l[k]=w at*
 cases w with
 | mk key w=>
 cases w with
 | mk s' l' f'=>
 have hw0:=hw
 unfold FdR at hw0
 obtain⟨cw2,rfl,hw1⟩:=hw0
 have hw2:=hw1
 unfold VlR at hw2
 obtain⟨ub',ul',uf',xl',xf',rfl,w1,w2,w3,w4,w5⟩:=hw2
 exact⟨⟨by omega,by omega⟩,Ac rfl (decA14 (hf key s' l' f' ub' ul' uf' gw hw1 (one14 w1.one w2.one w4.one)))⟩
theorem Na {α:Type} {l:List α} {k:Nat} {v:α} (h:l[k]? =some v):l.take (k+1)=l.take k++[v]:=by
 obtain⟨q1,q2⟩:=List.getElem?_eq_some_iff.1 h
 rw[List.take_succ_eq_append_getElem q1,q2]
theorem AP {α:Type} {l:List α} {k:Nat} {v:α} (h:l[k]? =some v):v∈l:=by
 obtain⟨q1,q2⟩:=List.getElem?_eq_some_iff.1 h
 rw[<-q2];exact List.getElem_mem q1
end Go.TVF
section
namespace Go.TVF
open Go.IntKind(i64 u8)
open Go
theorem or_i64 (x y:Nat) (hx:x<2^63) (hy:y<2^63):AN .or .i64 (x:Int) (y:Int)=((x ||| y:Nat):Int):=by
 have h:x ||| y<2^63:=Nat.or_lt_two_pow hx hy
 show IntKind.wrap .i64 ((BitVec.ofInt 64 (x:Int) ||| BitVec.ofInt 64 (y:Int)).toNat:Int)=_
 simp only[BitVec.ofInt_natCast,BitVec.toNat_or,BitVec.toNat_ofNat]
 rw[Nat.mod_eq_of_lt (by omega),Nat.mod_eq_of_lt (by omega),Af _ (by omega) (by omega)]
theorem and_i64 (x y:Nat) (hx:x<2^63) (hy:y<2^63):AN .and .i64 (x:Int) (y:Int)=((x&&&y:Nat):Int):=by
 have h:x&&&y<2^63:=Nat.and_lt_two_pow _ hy
 show IntKind.wrap .i64 ((BitVec.ofInt 64 (x:Int)&&&BitVec.ofInt 64 (y:Int)).toNat:Int)=_
 simp only[BitVec.ofInt_natCast,BitVec.toNat_and,BitVec.toNat_ofNat]
 rw[Nat.mod_eq_of_lt (by omega),Nat.mod_eq_of_lt (by omega),Af _ (by omega) (by omega)]
theorem and_u8 (x y:Nat) (hx:x<2^8) (hy:y<2^8):AN .and .u8 (x:Int) (y:Int)=((x&&&y:Nat):Int):=by
 have h:x&&&y<2^8:=Nat.and_lt_two_pow _ hy
 show IntKind.wrap .u8 ((BitVec.ofInt 8 (x:Int)&&&BitVec.ofInt 8 (y:Int)).toNat:Int)=_
 simp only[BitVec.ofInt_natCast,BitVec.toNat_and,BitVec.toNat_ofNat]
 rw[Nat.mod_eq_of_lt (by omega),Nat.mod_eq_of_lt (by omega),MN _ (by omega) (by omega)]
theorem Vz (a b m:Nat) (hb:b<2^m) (h:a*2^m+b<2^63):AN .or .i64 ((a*2^m:Nat):Int) (b:Int)=((a*2^m+b:Nat):Int):=by
 have hb':b<2^63:=by omega
 rw[or_i64 _ _ (by omega) hb',Nat.mul_comm a,Nat.two_pow_add_eq_or_of_lt hb]
theorem Kz (a m:Nat) (ha:a<2^63) (hm:m<63):AN .and .i64 (a:Int) ((2^m-1:Nat):Int)=((a%2^m:Nat):Int):=by
 have:2^m<2^63:=Nat.pow_lt_pow_right (by decide) hm
 rw[and_i64 _ _ ha (by omega),Nat.and_two_pow_sub_one_eq_mod]
theorem Yt (n:Nat) (h:n<=255):IntKind.wrap .i64 (n:Int)=n:=Af _ (by omega) (by omega)
theorem EB {α:Type} (l:List α) (i:Nat) (d:α) (h:i<l.length):l.take (i+1)=l.take i++[l.getD i d]:=by
 rw[List.take_add_one,List.getElem?_eq_getElem h,List.getD,List.getElem?_eq_getElem h];rfl
theorem shr_i64 (x m:Nat) (h:m<=64):Int.fdiv (x:Int) (2^(min m (IntKind.bits .i64)))=((x/2^m:Nat):Int):=by
 rw[show min m (IntKind.bits .i64)=m from Nat.min_eq_left h,show(2:Int)^m=((2^m:Nat):Int) by simp,Int.fdiv_eq_ediv_of_nonneg _ (Int.natCast_nonneg _)]
 rfl
theorem KS {α:Type} (l:List α) (i j:Nat) (d:α):(l.drop i).getD j d=l.getD (i+j) d:=by
 simp[List.getD,List.getElem?_drop]
theorem RK {α:Type} (l:List α) (i:Nat) (d:α) (h:i<l.length):l.drop i=l.getD i d::l.drop (i+1):=by
 rw[List.drop_eq_getElem_cons h,List.getD,List.getElem?_eq_getElem h];rfl
theorem Fl {α:Type} (l:List α) (i j:Nat):(l.take j).drop i=(l.drop i).take (j-i):=by
 rw[List.drop_take]
def bt (l:B8) (i:Nat):Nat:=(l.getD i 0).toNat
theorem F0 (l:B8) (i:Nat):bt l i<256:=(l.getD i 0).toNat_lt
theorem SY (l:B8) (i j:Nat):bt (l.drop i) j=bt l (i+j):=by simp[bt,KS]
def dN (l:B8):Nat×Nat:=Lib.decodeN l.length (bt l 0) (bt l 1) (bt l 2) (bt l 3)
def ul (l:B8):Nat:=if l=[]∨dN l=(65533,1)then 0 else(dN l).2
def ur (l:B8):Nat:=(dN l).1
def A4 (r:Nat):Prop:=r<=1114111/\(r<55296∨57343<r)
instance (r:Nat):Decidable (A4 r):=by unfold A4;infer_instance
def Gb (r:Nat):B8:=
 if r<128 then [UInt8.ofNat r]else if r<2048 then [UInt8.ofNat (192+r/64),UInt8.ofNat (128+r%64)]
 else if r<65536 then [UInt8.ofNat (224+r/4096),UInt8.ofNat (128+r/64%64),UInt8.ofNat (128+r%64)]
 else [UInt8.ofNat (240+r/262144),UInt8.ofNat (128+r/4096%64),UInt8.ofNat (128+r/64%64),UInt8.ofNat (128+r%64)]
theorem DC (n:Nat) (c:UInt8):UInt8.ofNat n=c↔n%256=c.toNat:=by
 rw[<-UInt8.toNat_inj];simp
theorem Mg (l:B8) (h:1<=l.length):l.take 1=[l.getD 0 0]:=by
 rw[EB l 0 0 (by omega)];rfl
theorem Mf (l:B8) (h:2<=l.length):l.take 2=[l.getD 0 0,l.getD 1 0]:=by
 rw[EB l 1 0 (by omega),Mg l (by omega)];rfl
theorem Ir (l:B8) (h:3<=l.length):l.take 3=[l.getD 0 0,l.getD 1 0,l.getD 2 0]:=by
 rw[EB l 2 0 (by omega),Mf l (by omega)];rfl
theorem Nb (l:B8) (h:4<=l.length):l.take 4=[l.getD 0 0,l.getD 1 0,l.getD 2 0,l.getD 3 0]:=by
 rw[EB l 3 0 (by omega),Ir l (by omega)];rfl
def rsz (b0:Nat):Nat:=if 240<=b0 then 4 else if 224<=b0 then 3 else if 192<=b0 then 2 else 1
def rb0 (b0:Nat):Nat:=if 240<=b0 then b0%8 else if 224<=b0 then b0%16 else if 192<=b0 then b0%32 else b0
def CB (l:B8) (r0:Nat):Nat->Nat
 | 0=>r0
 | j+1=>CB l r0 j*64+bt l (j+1)%64
theorem Sr (l:B8) (r0:Nat) (h:r0<256):∀j,CB l r0 j<256*64^j
 | 0=>by simpa [CB]using h
 | j+1=>by
  have:=Sr l r0 h j
  have h2:=Nat.mod_lt (bt l (j+1)) (show 0<64 by omega)
  simp only[CB,Nat.pow_succ]
  omega
theorem rb0_lt (b0:Nat) (h:b0<256):rb0 b0<256:=by
 unfold rb0
 repeat' split
 all_goals omega
theorem Vj (b0:Nat):1<=rsz b0/\rsz b0<=4:=by
 unfold rsz
 repeat' split
 all_goals omega
def TP (l:B8):Nat×Nat:=
 let size:=rsz (bt l 0)
 let r:=CB l (rb0 (bt l 0)) (size-1)
 if l.length<size then(0,0)else if A4 r/\Gb r=l.take size then(r,size)else(0,0)
theorem DM {a b:UInt8} {x y:B8}:(a::x=b::y)↔a=b/\x=y:=by simp
set_option maxHeartbeats 4000000 in
theorem KN (l:B8) (h:l≠ []):TP l=if ul l=0 then(0,0)else(ur l,ul l):=by
 have hl:1<=l.length:=by cases l with | nil=>exact absurd rfl h | cons a r=>simp
 have h0:=F0 l 0
 have h1:=F0 l 1
 have h2:=F0 l 2
 have h3:=F0 l 3
 have e0:(l.getD 0 0).toNat=bt l 0:=rfl
 have e1:(l.getD 1 0).toNat=bt l 1:=rfl
 have e2:(l.getD 2 0).toNat=bt l 2:=rfl
 have e3:(l.getD 3 0).toNat=bt l 3:=rfl
 have hul:ul l=if dN l=(65533,1)then 0 else(dN l).2:=by simp[ul,h]
 rw[hul,ur]
 unfold dN
 generalize hb0:bt l 0=b0 at*
 generalize hb1:bt l 1=b1 at*
 generalize hb2:bt l 2=b2 at*
 generalize hb3:bt l 3=b3 at*
 unfold TP
 simp only[hb0]
 by_cases c4:240<=b0
 ·have r4:rsz b0=4:=by unfold rsz;rw[if_pos c4]
  have rb:rb0 b0=b0%8:=by unfold rb0;rw[if_pos c4]
  rw[r4,rb]
  simp only[Nat.reduceSub,CB,hb1,hb2,hb3,Nat.zero_add,Nat.reduceAdd]
  by_cases hn:l.length<4
  ·rw[if_pos hn]
   have:Lib.decodeN l.length b0 b1 b2 b3=(65533,1):=by
    unfold Lib.decodeN
    rw[if_neg (by omega),if_neg (by omega),if_neg (by omega),if_neg (by omega)]
   rw[this];simp
  ·rw[if_neg hn]
   have hEnc:(A4 (((b0%8*64+b1%64)*64+b2%64)*64+b3%64)/\Gb (((b0%8*64+b1%64)*64+b2%64)*64+b3%64)=l.take 4)↔(b0/8=30/\b1/64=2/\b2/64=2/\b3/64=2/\65536<=((b0%8*64+b1%64)*64+b2%64)*64+b3%64/\((b0%8*64+b1%64)*64+b2%64)*64+b3%64<=1114111):=by
    rw[Nb l (by omega)]
    generalize hr:((b0%8*64+b1%64)*64+b2%64)*64+b3%64=r
    unfold A4 Gb
    by_cases k1:r<128
    ·rw[if_pos k1];simp;omega
    ·rw[if_neg k1]
     by_cases k2:r<2048
     ·rw[if_pos k2];simp;omega
     ·rw[if_neg k2]
      by_cases k3:r<65536
      ·rw[if_pos k3];simp;omega
      ·rw[if_neg k3]
       simp only[DM,DC,e0,e1,e2,e3,and_true]
       omega
   by_cases hE:b0/8=30/\b1/64=2/\b2/64=2/\b3/64=2/\65536<=((b0%8*64+b1%64)*64+b2%64)*64+b3%64/\((b0%8*64+b1%64)*64+b2%64)*64+b3%64<=1114111
   ·rw[if_pos (hEnc.2 hE)]
    have:Lib.decodeN l.length b0 b1 b2 b3=(((b0%8*64+b1%64)*64+b2%64)*64+b3%64,4):=by
     unfold Lib.decodeN
     rw[if_neg (by omega),if_neg (by omega),if_neg (by omega),if_pos (by omega),if_pos (by omega)]
     simp only[Prod.mk.injEq,and_true];omega
    rw[this];simp
   ·rw[if_neg (fun hh=>hE (hEnc.1 hh))]
    have:Lib.decodeN l.length b0 b1 b2 b3=(65533,1):=by
     unfold Lib.decodeN
     rw[if_neg (by omega),if_neg (by omega),if_neg (by omega)]
     split
     ·rw[if_neg (by omega)]
     ·rfl
    rw[this];simp
 ·by_cases c3:224<=b0
  ·have r4:rsz b0=3:=by unfold rsz;rw[if_neg c4,if_pos c3]
   have rb:rb0 b0=b0%16:=by unfold rb0;rw[if_neg c4,if_pos c3]
   rw[r4,rb]
   simp only[Nat.reduceSub,CB,hb1,hb2,Nat.zero_add,Nat.reduceAdd]
   by_cases hn:l.length<3
   ·rw[if_pos hn]
    have:Lib.decodeN l.length b0 b1 b2 b3=(65533,1):=by
     unfold Lib.decodeN
     rw[if_neg (by omega),if_neg (by omega),if_neg (by omega),if_neg (by omega)]
    rw[this];simp
   ·rw[if_neg hn]
    have hEnc:(A4 ((b0%16*64+b1%64)*64+b2%64)/\Gb ((b0%16*64+b1%64)*64+b2%64)=l.take 3)↔(b1/64=2/\b2/64=2/\2048<=(b0%16*64+b1%64)*64+b2%64/\A4 ((b0%16*64+b1%64)*64+b2%64)):=by
     rw[Ir l (by omega)]
     generalize hr:(b0%16*64+b1%64)*64+b2%64=r
     unfold A4 Gb
     by_cases k1:r<128
     ·rw[if_pos k1];simp;omega
     ·rw[if_neg k1]
      by_cases k2:r<2048
      ·rw[if_pos k2];simp;omega
      ·rw[if_neg k2]
       by_cases k3:r<65536
       ·rw[if_pos k3]
        simp only[DM,DC,e0,e1,e2,and_true]
        omega
       ·omega
    by_cases hE:b1/64=2/\b2/64=2/\2048<=(b0%16*64+b1%64)*64+b2%64/\A4 ((b0%16*64+b1%64)*64+b2%64)
    ·rw[if_pos (hEnc.2 hE)]
     have:Lib.decodeN l.length b0 b1 b2 b3=((b0%16*64+b1%64)*64+b2%64,3):=by
      unfold A4 at hE
      unfold Lib.decodeN
      rw[if_neg (by omega),if_neg (by omega),if_pos (by omega),if_pos (by omega)]
      simp only[Prod.mk.injEq,and_true];omega
     rw[this];simp
    ·rw[if_neg (fun hh=>hE (hEnc.1 hh))]
     have:Lib.decodeN l.length b0 b1 b2 b3=(65533,1):=by
      unfold A4 at hE
      unfold Lib.decodeN
      rw[if_neg (by omega),if_neg (by omega)]
      split
      ·rw[if_neg (by omega)]
      ·rw[if_neg (by omega)]
     rw[this];simp
  ·by_cases c2:192<=b0
   ·have r4:rsz b0=2:=by unfold rsz;rw[if_neg c4,if_neg c3,if_pos c2]
    have rb:rb0 b0=b0%32:=by unfold rb0;rw[if_neg c4,if_neg c3,if_pos c2]
    rw[r4,rb]
    simp only[Nat.reduceSub,CB,hb1,Nat.zero_add,Nat.reduceAdd]
    by_cases hn:l.length<2
    ·rw[if_pos hn]
     have:Lib.decodeN l.length b0 b1 b2 b3=(65533,1):=by
      unfold Lib.decodeN
      rw[if_neg (by omega),if_neg (by omega),if_neg (by omega),if_neg (by omega)]
     rw[this];simp
    ·rw[if_neg hn]
     have hEnc:(A4 (b0%32*64+b1%64)/\Gb (b0%32*64+b1%64)=l.take 2)↔(b1/64=2/\128<=b0%32*64+b1%64):=by
      rw[Mf l (by omega)]
      generalize hr:b0%32*64+b1%64=r
      unfold A4 Gb
      by_cases k1:r<128
      ·rw[if_pos k1];simp;omega
      ·rw[if_neg k1,if_pos (by omega)]
       simp only[DM,DC,e0,e1,and_true]
       omega
     by_cases hE:b1/64=2/\128<=b0%32*64+b1%64
     ·rw[if_pos (hEnc.2 hE)]
      have:Lib.decodeN l.length b0 b1 b2 b3=(b0%32*64+b1%64,2):=by
       unfold Lib.decodeN
       rw[if_neg (by omega),if_pos (by omega),if_pos (by omega)]
      rw[this];simp
     ·rw[if_neg (fun hh=>hE (hEnc.1 hh))]
      have:Lib.decodeN l.length b0 b1 b2 b3=(65533,1):=by
       unfold Lib.decodeN
       rw[if_neg (by omega)]
       split
       ·rw[if_neg (by omega)]
       ·rw[if_neg (by omega),if_neg (by omega)]
      rw[this];simp
   ·have r4:rsz b0=1:=by unfold rsz;rw[if_neg c4,if_neg c3,if_neg c2]
    have rb:rb0 b0=b0:=by unfold rb0;rw[if_neg c4,if_neg c3,if_neg c2]
    rw[r4,rb]
    simp only[Nat.reduceSub,CB]
    rw[if_neg (by omega),Mg l hl]
    have hEnc:(A4 b0/\Gb b0=[l.getD 0 0])↔b0<128:=by
     unfold A4 Gb
     by_cases k1:b0<128
     ·rw[if_pos k1];simp only[DM,DC,e0,and_true];omega
     ·rw[if_neg k1,if_pos (by omega)];simp;omega
    by_cases hE:b0<128
    ·rw[if_pos (hEnc.2 hE)]
     have:Lib.decodeN l.length b0 b1 b2 b3=(b0,1):=by unfold Lib.decodeN;rw[if_pos hE]
     rw[this,if_neg (by simp;omega)]
     simp only[Prod.mk.injEq]
     rw[if_neg (by omega)]
     simp
    ·rw[if_neg (fun hh=>hE (hEnc.1 hh))]
     have:Lib.decodeN l.length b0 b1 b2 b3=(65533,1):=by
      unfold Lib.decodeN
      rw[if_neg (by omega),if_neg (by omega),if_neg (by omega),if_neg (by omega)]
     rw[this];simp
theorem ul_char (l:B8) (h:ul l≠0):A4 (ur l)/\Gb (ur l)=l.take (ul l)/\ul l<=l.length/\ul l<=4:=by
 have hne:l≠ []:=fun h0=>h (by simp[ul,h0])
 have e:=KN l hne
 rw[if_neg h]at e
 unfold TP at e
 simp only at e
 split at e
 ·simp only[Prod.mk.injEq]at e;omega
 ·split at e
  ·rename_i hn hc
   simp only[Prod.mk.injEq]at e
   rw[<-e.1,<-e.2]
   exact⟨hc.1,hc.2,by omega,(Vj _).2⟩
  ·simp only[Prod.mk.injEq]at e;omega
theorem Q2 (l:B8):ul l<=l.length:=by
 by_cases h:ul l=0
 ·omega
 ·exact(ul_char l h).2.2.1
theorem Yz (l:B8) (h:l≠ []) (hb:bt l 0<128):ul l=1/\ur l=bt l 0:=by
 have:dN l=(bt l 0,1):=by unfold dN Lib.decodeN;rw[if_pos hb]
 unfold ul ur
 rw[this,if_neg (by simp[h];omega)]
 exact⟨rfl,rfl⟩
def Bi (l:B8):Nat:=if h:ul l=0 then 0 else ul l+Bi (l.drop (ul l))
termination_by l.length
decreasing_by
 have:=Q2 l
 simp only[List.length_drop];omega
theorem Eu (l:B8) (h:ul l=0):Bi l=0:=by rw[Bi,dif_pos h]
theorem E6 (l:B8) (h:ul l≠0):Bi l=ul l+Bi (l.drop (ul l)):=by rw[Bi,dif_neg h]
theorem WE:∀(n:Nat) (l:B8),l.length<=n->Bi l<=l.length
 | 0,l,h=>by
  have:l=[]:=List.eq_nil_of_length_eq_zero (by omega)
  subst this
  rw[Eu _ (by simp[ul])];simp
 | n+1,l,h=>by
  by_cases h0:ul l=0
  ·rw[Eu l h0];omega
  ·have h1:=Q2 l
   have h2:=WE n (l.drop (ul l)) (by simp only[List.length_drop];omega)
   rw[E6 l h0]
   simp only[List.length_drop]at h2;omega
end Go.TVF
end
namespace Go.TVF
open Go.IntKind(i64 u8)
open Go Go.Proofs
section
def JF (n:Nat):B8:=if h:n=0 then []else JF (n/10)++[(48+n%10).toUInt8]
termination_by n
decreasing_by omega
theorem HX:JF 0=[]:=by unfold JF;rw[dif_pos rfl]
theorem KP {n:Nat} (h:0<n):JF n=JF (n/10)++[(48+n%10).toUInt8]:=by
 rw[JF.eq_def,dif_neg (by omega)]
theorem Kn:∀(k n:Nat),n<10^k->(JF n).length<=k
 | 0,n,h=>by rw[show n=0 by simpa using h,HX];simp
 | k+1,n,h=>by
  by_cases h0:n=0
  ·rw[h0,HX];simp
  ·rw[KP (by omega),List.length_append]
   have:=Kn k (n/10) (by rw[Nat.div_lt_iff_lt_mul (by omega)];rw[Nat.pow_succ]at h;exact h)
   simp only[List.length_cons,List.length_nil];omega
def whN (n:Nat):B8:=if n=0 then [48]else JF n
def X7 (p:Int):B8:=101::(if p<1 then 45::whN (1-p).toNat else whN (p-1).toNat)
def dcT (neg:Bool) (dg:B8) (ex:Int):B8:=
 if dg=[]then [48]else(if neg then [45]else [])++
  (if 0<=ex/\dg.length+ex<=21 then dg++List.replicate ex.toNat 48
  else if ex<0/\1<=dg.length+ex/\dg.length+ex<=21 then dg.take (dg.length+ex).toNat++46::dg.drop (dg.length+ex).toNat
  else if-5<=dg.length+ex/\dg.length+ex<=0 then 48::46::(List.replicate (-(dg.length+ex)).toNat 48++dg)
  else dg.take 1++((if 1<dg.length then 46::dg.drop 1 else [])++X7 (dg.length+ex)))
def A7:Nat->Nat->B8
 | 0,_=>[]
 | w+1,n=>A7 w (n/10)++[(48+n%10).toUInt8]
theorem AU:∀w n,(A7 w n).length=w
 | 0,_=>rfl
 | w+1,n=>by simp[A7,AU w]
def AK (c:UInt8):Prop:=48<=c.toNat/\c.toNat<=57
instance (c:UInt8):Decidable (AK c):=inferInstanceAs (Decidable (_/\_))
def BR (l:B8):Nat:=(l.reverse.takeWhile (·==48)).length
def D2 (neg:Bool) (dg:B8) (ex:Int):Prop:=
 (dg=[]->neg=false/\ex=0)/\(dg≠ []->dg.length<=120/\(∀c,c∈dg->AK c)/\dg.getD 0 0≠48/\BR dg=0/\ -400<=ex/\ex<=400)
instance (neg:Bool) (dg:B8) (ex:Int):Decidable (D2 neg dg ex):=inferInstanceAs (Decidable ((_->_)/\(_->_)))
def CX (k d n z:Int):Prop:=
 1<=k/\k<=4/\0<=d/\d<=3652058/\0<=n/\n<=86399999999999/\ -1439<=z/\z<=1439/\(k=2->d=0)/\(k=1->n=0)/\(k≠4->z=0)
instance (k d n z:Int):Decidable (CX k d n z):=inferInstanceAs (Decidable (_/\_/\_/\_/\_/\_/\_/\_/\(_->_)/\(_->_)/\(_->_)))
theorem OK (k:Nat) (h:k<10):(48+k).toUInt8.toNat=48+k:=by simp;omega
theorem Fm:∀w n c,c∈A7 w n->AK c
 | 0,_,c,h=>by cases h
 | w+1,n,c,h=>by
  unfold A7 at h
  rcases List.mem_append.1 h with h | h
  ·exact Fm w _ c h
  ·rw[List.mem_singleton.1 h];unfold AK;rw[OK _ (by omega)];omega
theorem natD_dg:∀(n:Nat) c,c∈JF n->AK c:=by
 intro n
 induction n using Nat.strongRecOn with
 | _ n ih=>
  intro c h
  by_cases h0:n=0
  ·rw[h0,HX]at h;cases h
  ·rw[KP (by omega)]at h
   rcases List.mem_append.1 h with h | h
   ·exact ih (n/10) (by omega) c h
   ·rw[List.mem_singleton.1 h];unfold AK;rw[OK _ (by omega)];omega
def HD (l:B8):B8:=(l.reverse.dropWhile (·==48)).reverse
theorem NO (l:B8) (c:UInt8):HD (l++[c])=if c=48 then HD l else l++[c]:=by
 unfold HD
 rw[List.reverse_append,List.reverse_singleton,List.singleton_append,List.dropWhile_cons]
 by_cases h:c=48
 ·rw[if_pos h,if_pos (by simp[h])]
 ·rw[if_neg h,if_neg (by simp[h])];simp
theorem Z0 {l:B8} {c:UInt8} (h:c∈HD l):c∈l:=by
 unfold HD at h
 exact List.mem_reverse.1 ((List.dropWhile_sublist _).mem (List.mem_reverse.1 h))
theorem Z1 (l:B8):(HD l).length<=l.length:=by
 unfold HD
 rw[List.length_reverse]
 have:=(List.dropWhile_sublist (l:=l.reverse) (fun x:UInt8=>x==48)).length_le
 rw[List.length_reverse]at this;exact this
def LT (n:Nat):B8:=A7 2 (n/1000000000/3600)++58::(A7 2 (n/1000000000/60%60)++58::(A7 2 (n/1000000000%60)++(if n%1000000000=0 then []else 46::HD (A7 9 (n%1000000000)))))
def PF (z:Int):B8:=if z=0 then [90]else(if z<0 then 45 else 43)::(A7 2 (z.natAbs/60)++58::A7 2 (z.natAbs%60))
def N8 (y:Nat):Prop:=y%4=0/\(y%100≠0∨y%400=0)
instance (y:Nat):Decidable (N8 y):=inferInstanceAs (Decidable (_/\_))
def K8 (y m:Nat):Nat:=if m=2 then(if N8 y then 29 else 28)else if m=4∨m=6∨m=9∨m=11 then 30 else 31
def EH (y:Nat):Nat->Nat
 | 0=>0
 | 1=>0
 | m+2=>EH y (m+1)+K8 y (m+1)
def yrS (y:Nat):Nat:=365*(y-1)+(y-1)/4-(y-1)/100+(y-1)/400
def HG (n y m d:Nat):Prop:=1<=y/\y<=9999/\1<=m/\m<=12/\1<=d/\d<=K8 y m/\n=yrS y+EH y m+(d-1)
theorem Td {a b:Nat} (h1:1<=a) (h:a<=b):yrS a<=yrS b:=by
 rcases Nat.eq_or_lt_of_le h with rfl | h
 ·exact Nat.le_refl _
 ·unfold yrS;omega
theorem monS_12 (y:Nat):EH y 12+K8 y 12=if N8 y then 366 else 365:=by
 simp only[EH,K8]
 by_cases h:N8 y<;>simp[h]
theorem V6 (k q:Nat) (h:0<q):(k+1)/q=k/q+(if (k+1)%q=0 then 1 else 0):=by
 rw[Nat.succ_div]
 congr 1
 simp only[Nat.dvd_iff_mod_eq_zero]
theorem JJ {y:Nat} (h:1<=y):yrS (y+1)=yrS y+(EH y 12+K8 y 12):=by
 rw[monS_12]
 obtain⟨k,rfl⟩:∃k,y=k+1:=⟨y-1,by omega⟩
 unfold yrS
 simp only[Nat.add_sub_cancel]
 rw[V6 k 4 (by omega),V6 k 100 (by omega),V6 k 400 (by omega)]
 have m1:(k+1)%400=0->(k+1)%100=0:=fun h=>by omega
 have m2:(k+1)%100=0->(k+1)%4=0:=fun h=>by omega
 have m3:k/100<=k/4:=by omega
 by_cases a4:(k+1)%4=0
 ·rw[if_pos a4]
  by_cases a100:(k+1)%100=0
  ·rw[if_pos a100]
   by_cases a400:(k+1)%400=0
   ·rw[if_pos a400,if_pos ⟨a4,.inr a400⟩];omega
   ·rw[if_neg a400,if_neg (fun h=>h.2.elim (fun h=>h a100) a400)];omega
  ·rw[if_neg a100,if_neg (fun h=>a100 (m1 h)),if_pos ⟨a4,.inl a100⟩];omega
 ·rw[if_neg a4,if_neg (fun h=>a4 (m2 h)),if_neg (fun h=>a4 (m2 (m1 h))),if_neg (fun h=>a4 h.1)];omega
theorem Nx (y:Nat):∀{a b:Nat},a<=b->EH y a<=EH y b:=by
 intro a b h
 induction b with
 | zero=>rw[show a=0 by omega];exact Nat.le_refl _
 | succ b ih=>
  by_cases hab:a=b+1
  ·rw[hab];exact Nat.le_refl _
  ·refine Nat.le_trans (ih (by omega)) ?_
   cases b with
   | zero=>exact Nat.le_refl _
   | succ b=>simp only[EH];omega
theorem DS (y:Nat) {m:Nat} (h:1<=m):EH y (m+1)=EH y m+K8 y m:=by
 cases m with
 | zero=>omega
 | succ m=>rfl
theorem HG.uniq {n y m d y' m' d':Nat} (h:HG n y m d) (h':HG n y' m' d'):y=y'/\m=m'/\d=d':=by
 obtain⟨a1,a2,a3,a4,a5,a6,a7⟩:=h
 obtain⟨b1,b2,b3,b4,b5,b6,b7⟩:=h'
 have within:∀{y m d:Nat},1<=y->1<=m->m<=12->1<=d->d<=K8 y m->EH y m+(d-1)<EH y 12+K8 y 12:=by
  intro y m d h1 h2 h3 h4 h5
  by_cases hm:m=12
  ·subst hm;omega
  ·have:=Nx y (a:=m+1) (b:=12) (by omega)
   rw[DS y h2]at this;omega
 have w1:=within a1 a3 a4 a5 a6
 have w2:=within b1 b3 b4 b5 b6
 have hy:y=y':=by
  rcases Nat.lt_trichotomy y y' with h | h | h
  ·have:=Td (a:=y+1) (b:=y') (by omega) (by omega)
   rw[JJ a1]at this;omega
  ·exact h
  ·have:=Td (a:=y'+1) (b:=y) (by omega) (by omega)
   rw[JJ b1]at this;omega
 subst hy
 have hm:m=m':=by
  rcases Nat.lt_trichotomy m m' with h | h | h
  ·have:=Nx y (a:=m+1) (b:=m') (by omega)
   rw[DS y a3]at this;omega
  ·exact h
  ·have:=Nx y (a:=m'+1) (b:=m) (by omega)
   rw[DS y b3]at this;omega
 subst hm
 exact⟨rfl,rfl,by omega⟩
open Classical in
noncomputable def Qd (n:Nat):Nat×Nat×Nat:=if h:∃p:Nat×Nat×Nat,HG n p.1 p.2.1 p.2.2 then h.choose else(0,0,0)
theorem Ye {n y m d:Nat} (h:HG n y m d):Qd n=(y,m,d):=by
 have hex:∃p:Nat×Nat×Nat,HG n p.1 p.2.1 p.2.2:=⟨(y,m,d),h⟩
 unfold Qd
 rw[dif_pos hex]
 obtain⟨h1,h2,h3⟩:=hex.choose_spec.uniq h
 exact Prod.ext h1 (Prod.ext h2 h3)
noncomputable def LS (n:Nat):B8:=A7 4 (Qd n).1++45::(A7 2 (Qd n).2.1++45::A7 2 (Qd n).2.2)
noncomputable def M7 (k td tn tz:Int):B8:=
 if k=1 then LS td.toNat else if k=2 then LT tn.toNat else if k=3 then LS td.toNat++84::LT tn.toNat else LS td.toNat++84::(LT tn.toNat++PF tz)
end
section
structure H8 (s:Sc) (l:List Vl) (f:List Fd):Prop where
 k0:0<=s.kind
 k7:s.kind<=7
 bo:s.kind≠1->s.b=false
 nu:s.kind≠2->s.neg=false/\s.dg=[]/\s.ex=0
 ti:s.kind≠3->s.tk=0/\s.td=0/\s.tn=0/\s.tz=0
 tx:s.kind≠4->s.text=[]
 by_:s.kind≠5->s.bytes=[]
 ls:s.kind≠6->l=[]
 fs:s.kind≠7->f=[]
noncomputable instance (s:Sc) (l:List Vl) (f:List Fd):Decidable (H8 s l f):=Classical.propDecidable _
def U8 (s:B8):Prop:=Bi s=s.length
instance (s:B8):Decidable (U8 s):=inferInstanceAs (Decidable (_=_))
def Ef (seen:List B8):List Fd->Nat
 | []=>0
 | d::r=>if U8 d.key then(if 1024<d.key.length then 10 else if d.key∈seen then 8 else Ef (d.key::seen) r)else 5
noncomputable def D3 (s:Sc) (l:List Vl) (f:List Fd):Nat:=
 if H8 s l f then(if D2 s.neg s.dg s.ex then(if s.kind=3->CX s.tk s.td s.tn s.tz then(if U8 s.text then(if 65536<s.text.length then 10 else if 65536<s.bytes.length then 10 else Ef [] f)else 5)else 2)else 2)else 6
noncomputable def FU (x:Nat×Nat) (f:Nat->Nat×Nat):Nat×Nat:=if x.2=0 then f x.1 else x
mutual
noncomputable def CW (d n:Nat):Vl->Nat×Nat
 | .mk s l f=>if 48<d then(n,9)else if 65536<=n then(n,10)else if D3 s l f≠0 then(n,D3 s l f)else FU (CH (d+1) (n+1) l) fun m=>D1 (d+1) m f
noncomputable def CH (d n:Nat):List Vl->Nat×Nat
 | []=>(n,0)
 | v::r=>FU (CW d n v) fun m=>CH d m r
noncomputable def Wd (d n:Nat):Fd->Nat×Nat
 | .mk _ v=>CW d n v
noncomputable def D1 (d n:Nat):List Fd->Nat×Nat
 | []=>(n,0)
 | x::r=>FU (Wd d n x) fun m=>D1 d m r
end
noncomputable def B6 (v:Vl):Nat:=(CW 1 0 v).2
theorem E8 {x:Nat×Nat} {f:Nat->Nat×Nat} (h:(FU x f).2=0):x.2=0/\(f x.1).2=0:=by
 unfold FU at h
 split at h
 ·rename_i h0;exact⟨h0,h⟩
 ·rename_i h0;exact absurd h h0
theorem Fy {x:Nat×Nat} {f:Nat->Nat×Nat} (h:x.2=0):FU x f=f x.1:=by unfold FU;rw[if_pos h]
theorem KK {x:Nat×Nat} {f:Nat->Nat×Nat} (h:x.2≠0):FU x f=x:=by unfold FU;rw[if_neg h]
theorem Um:∀(f:List Fd) (seen:List B8),Ef seen f=0->DQ f/\(∀d,d∈f->d.key∉seen/\U8 d.key/\d.key.length<=1024)
 | [],seen,_=>⟨List.nodup_nil,fun d h=>by cases h⟩
 | d::r,seen,h=>by
  unfold Ef at h
  split at h
  ·rename_i h1
   split at h
   ·cases h
   ·rename_i h2
    split at h
    ·cases h
    ·rename_i h3
     obtain⟨k1,k2⟩:=Um r (d.key::seen) h
     refine⟨?_,fun x hx=>?_⟩
     ·unfold DQ
      rw[List.map_cons,List.nodup_cons]
      refine⟨fun hm=>?_,k1⟩
      obtain⟨x,hx,he⟩:=List.mem_map.1 hm
      exact(k2 x hx).1 (he▸.head _)
     ·rcases List.mem_cons.1 hx with rfl | hx
      ·exact⟨h3,h1,by omega⟩
      ·obtain⟨q1,q2,q3⟩:=k2 x hx
       exact⟨fun hm=>q1 (.tail _ hm),q2,q3⟩
  ·cases h
structure ML (s:Sc) (l:List Vl) (f:List Fd):Prop where
 own:H8 s l f
 dec:D2 s.neg s.dg s.ex
 time:s.kind=3->CX s.tk s.td s.tn s.tz
 text:U8 s.text
 tlen:s.text.length<=65536
 blen:s.bytes.length<=65536
 keys:Ef [] f=0
theorem Nu {s:Sc} {l:List Vl} {f:List Fd}:D3 s l f=0↔ML s l f:=by
 unfold D3
 constructor
 ·intro h
  split at h
  ·rename_i h1
   split at h
   ·rename_i h2
    split at h
    ·rename_i h3
     split at h
     ·rename_i h4
      split at h
      ·cases h
      ·rename_i h5
       split at h
       ·cases h
       ·rename_i h6
        exact⟨h1,h2,h3,h4,by omega,by omega,h⟩
     ·cases h
    ·cases h
   ·cases h
  ·cases h
 ·intro h
  rw[if_pos h.own,if_pos h.dec,if_pos h.time,if_pos h.text,if_neg (by have:=h.tlen;omega),if_neg (by have:=h.blen;omega)]
  exact h.keys
mutual
def Br:Vl->Prop
 | .mk s l f=>ML s l f/\KA l/\KB f
def KA:List Vl->Prop
 | []=>True
 | v::r=>Br v/\KA r
def S5:Fd->Prop
 | .mk _ v=>Br v
def KB:List Fd->Prop
 | []=>True
 | d::r=>S5 d/\KB r
end
mutual
theorem SQ:∀(v:Vl) (d n:Nat),(CW d n v).2=0->Br v
 | .mk s l f,d,n,h=>by
  unfold CW at h
  unfold Br
  split at h
  ·cases h
  ·split at h
   ·cases h
   ·split at h
    ·rename_i h1;exact absurd h h1
    ·rename_i h1
     obtain⟨h2,h3⟩:=E8 h
     exact⟨Nu.1 (Decidable.of_not_not h1),UJ l _ _ h2,UL f _ _ h3⟩
theorem UJ:∀(l:List Vl) (d n:Nat),(CH d n l).2=0->KA l
 | [],d,n,_=>by unfold KA;trivial
 | v::r,d,n,h=>by
  unfold CH at h
  unfold KA
  obtain⟨h2,h3⟩:=E8 h
  exact⟨SQ v _ _ h2,UJ r _ _ h3⟩
theorem chkD_ok:∀(x:Fd) (d n:Nat),(Wd d n x).2=0->S5 x
 | .mk k v,d,n,h=>by unfold Wd at h;unfold S5;exact SQ v _ _ h
theorem UL:∀(l:List Fd) (d n:Nat),(D1 d n l).2=0->KB l
 | [],d,n,_=>by unfold KB;trivial
 | x::r,d,n,h=>by
  unfold D1 at h
  unfold KB
  obtain⟨h2,h3⟩:=E8 h
  exact⟨chkD_ok x _ _ h2,UL r _ _ h3⟩
end
end
theorem SlR.isPtr {st:St} {sz n i:Nat} {u:TV} {xs:List TV} (h:SlR st sz u n xs) (hi:i<n):TVF.isPtr (ixT sz u i)=true:=by
 rcases h with(⟨rfl,rfl,rfl⟩ | ⟨tip,rfl⟩) | ⟨b,off,cap,l,rfl,_⟩
 ·omega
 ·rfl
 ·rfl
theorem SlR.ldcf {st:St} {sz n i f m:Nat} {u:TV} {xs:List TV} (h:SlR st sz u n xs) (hl:xs.length=n*sz) (hi:i<n) (hf:f+m<=sz):Ai st [] (.t (Ao (ixT sz u i) f)) 0 m=some ((xs.drop (i*sz+f)).take m):=by
 have hm:(i+1)*sz<=n*sz:=Nat.mul_le_mul_right _ hi
 rw[Nat.add_mul,Nat.one_mul]at hm
 rcases h with(⟨rfl,rfl,rfl⟩ | ⟨tip,rfl⟩) | ⟨b,off,cap,l,rfl,h2,h3,h4,h5,rfl⟩
 ·omega
 ·show Ai st [] (.t (.rptr ((xs.drop (i*sz)).drop f))) 0 m=_
  rw[List.drop_drop,PO m 0 (by rw[List.length_drop];omega),List.drop_zero]
 ·have hc:n*sz<=cap*sz:=Nat.mul_le_mul_right _ h5
  have e1:(((l.drop off).take (n*sz)).drop (i*sz+f)).take m=(l.drop (off+i*sz+f)).take m:=by
   rw[List.drop_take,List.drop_drop,List.take_take,Nat.min_eq_left (by omega),Nat.add_assoc]
  rw[e1]
  have e:=OH (B:=l.drop (off+i*sz+f+m)) (st:=st) (b:=b) ((l.drop (off+i*sz+f)).take m) l 0 (off+i*sz+f) h3 (by
   have:=List.take_append_drop m (l.drop (off+i*sz+f))
   rw[List.drop_drop]at this
   rw[Nat.add_zero];exact this.symm)
  rw[show((l.drop (off+i*sz+f)).take m).length=m by simp;omega]at e
  exact e
theorem SlR.ldf {st:St} {sz n i f:Nat} {u x:TV} {xs:List TV} (h:SlR st sz u n xs) (hl:xs.length=n*sz) (hi:i<n) (hf:f<sz) (hx:xs[i*sz+f]? =some x):Ad st [] (.t (Ao (ixT sz u i) f)) 0=some x:=by
 have:=h.ldcf (f:=f) (m:=1) hl hi (by omega)
 have hlt:i*sz+f<xs.length:=by
  obtain⟨q,_⟩:=List.getElem?_eq_some_iff.1 hx
  exact q
 rw[List.drop_eq_getElem_cons hlt]at this
 rw[List.getElem?_eq_getElem hlt]at hx
 simp only[Ai,List.take_succ_cons,List.take_zero]at this
 cases hq:Ad st [] (.t (Ao (ixT sz u i) f)) 0 with
 | none=>rw[hq]at this;cases this
 | some y=>
  rw[hq]at this
  simp only[Option.map_some,Option.some.injEq,List.cons.injEq,and_true]at this
  rw[this];exact hx
theorem SlR.toBytes {st:St} {u:TV} {l:B8} (h:SlR st 1 u l.length (AA l)):TVF.toBytes st u=some l:=by
 have hl:(AA l).length=l.length:=Ee l
 rcases h with(⟨rfl,h1,_⟩ | ⟨tip,rfl⟩) | ⟨b,off,cap,m,rfl,h2,h3,h4,h5,h6⟩
 ·rw[List.eq_nil_of_length_eq_zero h1];rfl
 ·simp[TVF.toBytes,BH]
 ·have e:=OH (B:=m.drop (off+l.length)) (st:=st) (b:=b) (AA l) m 0 off h3 (by
   rw[h6,Nat.add_zero,Nat.mul_one,<-List.drop_drop,List.take_append_drop])
  rw[hl]at e
  simp only[TVF.toBytes,Nat.beq_refl,e,BH]
theorem PU {st0 st:St} {uf:TV} {xf:List TV} {l:List Fd} (hke:BB st0 st) (h2:SlR st0 14 uf l.length xf) (h3:FsR st0 l xf) {i:Int} {k:Nat} (hi:i=k) {d:Fd} (hd:l[k]? =some d) {f:B8->Prop} (hf:f d.key):
  (0<=i/\i<(lenZ 14 uf:Int))/\need (TVF.isPtr (ixT 14 uf (Int.toNat i))) (Ah (Ad st [] (.t (Ao (ixT 14 uf (Int.toNat i)) 0)) 0) fun x=>Ag .str x f):=by
 subst hi
 obtain⟨hk,_⟩:=List.getElem?_eq_some_iff.1 hd
 obtain⟨cw,hw,hcw,hcl⟩:=h3.get hd
 rw[h2.lenZ,Int.toNat_natCast]
 have hx:xf[k*14+0]? =some (.str d.key):=by
  cases d with
  | mk key w=>
   unfold FdR at hw
   obtain⟨cs,rfl,_⟩:=hw
   have:=congrArg (fun z=>z[0]?) hcw
   simpa [Fd.key]using this
 exact⟨⟨by omega,by omega⟩,Ab (h2.isPtr hk) (Ac ((h2.keep hke).ldf h3.len hk (by omega) hx) hf)⟩
theorem WF {st0 st:St} {uf:TV} {xf:List TV} {l:List Fd} (hke:BB st0 st) (h2:SlR st0 14 uf l.length xf) (h3:FsR st0 l xf) {i:Int} {k:Nat} (hi:i=k) (hk:k<l.length) {f:Fun [.int .i64,.bool,.bool,.str,.int .i64,.int .i64,.int .i64,.int .i64,.int .i64,.str,.tv,.tv,.tv] Prop}
  (hf:∀key s' l' f' ub1 ul1 uf1,l[k]? =some (.mk key (.mk s' l' f'))->VlR st0 (.mk s' l' f') (A0 s' ub1 ul1 uf1)->List.all (A0 s' ub1 ul1 uf1) As=true->f s'.kind s'.b s'.neg s'.dg s'.ex s'.tk s'.td s'.tn s'.tz s'.text ub1 ul1 uf1):
  (0<=i/\i<(lenZ 14 uf:Int))/\need (TVF.isPtr (ixT 14 uf (Int.toNat i))) (Ah ((Ai st [] (.t (Ao (ixT 14 uf (Int.toNat i)) 1)) 0 13).map TV.agg) fun x=>AO [.int .i64,.bool,.bool,.str,.int .i64,.int .i64,.int .i64,.int .i64,.int .i64,.str,.tv,.tv,.tv] x f):=by
 subst hi
 have gw:l[k]? =some l[k]:=List.getElem?_eq_getElem hk
 obtain⟨cw,hw,hcw,hcl⟩:=h3.get gw
 rw[h2.lenZ,Int.toNat_natCast]
 refine⟨⟨by omega,by omega⟩,Ab (h2.isPtr hk) ?_⟩
 rw[(h2.keep hke).ldcf (f:=1) (m:=13) h3.len hk (by omega)]
 generalize l[k]=w at*
 cases w with
 | mk key w=>
 cases w with
 | mk s' l' f'=>
 unfold FdR at hw
 obtain⟨cw2,rfl,hw1⟩:=hw
 have hw2:=hw1
 unfold VlR at hw2
 obtain⟨ub',ul',uf',xl',xf',rfl,w1,w2,w3,w4,w5⟩:=hw2
 have e:(xf.drop (k*14+1)).take 13=A0 s' ub' ul' uf':=by
  rw[<-List.drop_drop]
  have:=congrArg (fun z=>z.drop 1) hcw
  simp only[List.drop_take]at this
  simpa [A0]using this
 rw[e]
 exact Ac rfl (ZV (hf key s' l' f' ub' ul' uf' gw hw1 (Ey w1.one w2.one w4.one)))
theorem BB.trans {a b c:St} (h:BB a b) (k:BB b c):BB a c:=⟨Nat.le_trans h.1 k.1,fun i hi=>(k.2 i (Nat.lt_of_lt_of_le hi h.1)).trans (h.2 i hi)⟩
theorem BB.refl (a:St):BB a a:=⟨Nat.le_refl _,fun _ _=>rfl⟩
theorem Ak {s:B8} {f:B8->Prop} (h:f s):Ag .str (.str s) f:=h
theorem AB {k:IntKind} {n:Int} {f:Int->Prop} (h:f n):Ag (.int k) (.int k n) f:=by
 simp only[Ag];exact h
theorem Ap {b:Bool} {f:Bool->Prop} (h:f b):Ag .bool (.bool b) f:=h
theorem B1 {α:Type} {K:α->St->Prop} {a b:α} {st:St} (h:a=b) (hk:K b st):K a st:=h▸hk
theorem QR {r:Int} {st:St} {K:Bool->St->Prop} (h0:0<=r) (hk:K (decide (A4 r.toNat)) st):CallT PR Cl [.int .i64 r] [.one (.bool)] st K:=by
 refine GT _ st K (Aa (fun _=>Aa (fun h2=>Aa (fun h3=>?_) fun h3=>?_) fun h2=>?_) fun h1=>absurd h0 h1)
 ·have:A4 r.toNat:=by unfold A4;omega
  simpa [this]using hk
 ·have:decide ((57343:Int)<r)=decide (A4 r.toNat):=by
   rw[Bool.eq_iff_iff];simp only[decide_eq_true_eq];unfold A4;omega
  rw[this];exact hk
 ·have:¬A4 r.toNat:=by unfold A4;omega
  simpa [this]using hk
theorem F1 (st:St) (n:Nat) (l:B8) (xs:List TV) (h:xs=AA l):(toBytes st (.list 1 .full n xs)).map TV.str=some (.str l):=by
 subst h;simp[toBytes,BH]
theorem Hj (n:Nat):IntKind.wrap .u8 (n:Int)=((UInt8.ofNat n).toNat:Int):=by
 unfold IntKind.wrap
 simp only[IntKind.signed,IntKind.bits]
 simp
 try omega
theorem orN (a b m:Nat) (hb:b<2^m) (h:a*2^m+b<2^63) (x y:Int) (hx:x=((a*2^m:Nat):Int)) (hy:y=(b:Int)):AN .or .i64 x y=((a*2^m+b:Nat):Int):=by
 rw[hx,hy];exact Vz a b m hb h
theorem V4 {R:Int} {r:Nat} {st:St} {K:B8->Int->St->Prop} (hR:R=(r:Int)) (hr:r<2^40) (hk:K (if A4 r then Gb r else []) (if A4 r then 0 else 2) st):CallT PR BW [.int .i64 R] [.one (.str),.one (.int .i64)] st K:=by
 have shr:∀m,m<=64->Int.fdiv R (2^(min m (IntKind.bits .i64)))=((r/2^m:Nat):Int):=fun m hm=>by rw[hR];exact shr_i64 r m hm
 have s6:=shr 6 (by decide)
 have s12:=shr 12 (by decide)
 have s18:=shr 18 (by decide)
 have m63:∀x:Nat,x<2^63->AN .and .i64 (x:Int) (63:Int)=((x%64:Nat):Int):=fun x hx=>Kz x 6 hx (by decide)
 have mR:AN .and .i64 R (63:Int)=((r%64:Nat):Int):=by rw[hR];exact m63 r (by omega)
 have o128:∀x:Nat,x<64->AN .or .i64 (128:Int) (x:Int)=((128+x:Nat):Int):=fun x hx=>orN 2 x 6 (by omega) (by omega) _ _ rfl rfl
 have hR0:0<=R:=by omega
 have hRn:R.toNat=r:=by omega
 refine Ik _ st K (QR hR0 (Aj (fun h0=>?_) fun h0=>?_))
 ·have hc:¬A4 r:=by rw[hRn]at h0;simpa using h0
  rw[if_neg hc,if_neg hc]at hk
  exact hk
 ·have hc:A4 r:=by rw[hRn]at h0;simpa using h0
  rw[if_pos hc,if_pos hc]at hk
  unfold Gb at hk
  refine Aa (fun h1=>?_) fun h1=>Aa (fun h2=>?_) fun h2=>Aa (fun h3=>?_) fun h3=>?_
  ·rw[if_pos (by omega)]at hk
   exact Ac (F1 _ _ _ _ (by simp only[AA,List.map,FG];rw[hR,Hj])) hk
  ·rw[if_neg (by omega),if_pos (by omega)]at hk
   have o192:AN .or .i64 (192:Int) ((r/2^6:Nat):Int)=((192+r/64:Nat):Int):=orN 6 _ 5 (by omega) (by omega) _ _ rfl rfl
   refine Ac (F1 _ _ _ _ ?_) hk
   simp only[AA,List.map,FG]
   rw[show Int.toNat (6:Int)=6 from rfl,s6,o192,mR,o128 _ (by omega),Hj,Hj]
  ·rw[if_neg (by omega),if_neg (by omega),if_pos (by omega)]at hk
   have o224:AN .or .i64 (224:Int) ((r/2^12:Nat):Int)=((224+r/4096:Nat):Int):=orN 14 _ 4 (by omega) (by omega) _ _ rfl rfl
   refine Ac (F1 _ _ _ _ ?_) hk
   simp only[AA,List.map,FG]
   rw[show Int.toNat (6:Int)=6 from rfl,show Int.toNat (12:Int)=12 from rfl,s6,s12,o224,mR,m63 (r/2^6) (by omega),o128 _ (by omega),o128 _ (by omega),Hj,Hj,Hj]
  ·rw[if_neg (by omega),if_neg (by omega),if_neg (by omega)]at hk
   have hr2:r<=1114111:=hc.1
   have o240:AN .or .i64 (240:Int) ((r/2^18:Nat):Int)=((240+r/262144:Nat):Int):=orN 30 _ 3 (by omega) (by omega) _ _ rfl rfl
   refine Ac (F1 _ _ _ _ ?_) hk
   simp only[AA,List.map,FG]
   rw[show Int.toNat (6:Int)=6 from rfl,show Int.toNat (12:Int)=12 from rfl,show Int.toNat (18:Int)=18 from rfl,s6,s12,s18,o240,mR,m63 (r/2^6) (by omega),m63 (r/2^12) (by omega),o128 _ (by omega),o128 _ (by omega),o128 _ (by omega),Hj,Hj,Hj,Hj]
theorem X9 {r:Nat} {st:St} {K:B8->Int->St->Prop} (hr:r<2^40) (hk:K (if A4 r then Gb r else []) (if A4 r then 0 else 2) st):CallT PR BW [.int .i64 (r:Int)] [.one (.str),.one (.int .i64)] st K:=
 V4 rfl hr hk
def rD (l:B8):Nat×Nat:=if ul l=0 then(0,0)else(ur l,ul l)
theorem TS {s:B8} {I:Int} {i:Nat} {st:St} {K:Int->Int->St->Prop} (hI:I=(i:Int)) (hl:s.length<=2000000) (hi:i<=s.length) (hk:K ((rD (s.drop i)).1:Nat) ((rD (s.drop i)).2:Nat) st):CallT PR BX [.str s,.int .i64 I] [.one (.int .i64),.one (.int .i64)] st K:=by
 refine Il s I st K (Aa (fun h=>by omega) fun _=>Aa (fun h=>?_) fun h=>⟨⟨by omega,by omega⟩,?_⟩)
 ·have:s.drop i=[]:=List.drop_of_length_le (by omega)
  have h0:rD (s.drop i)=(0,0):=by rw[this];simp[rD,ul]
  rw[h0]at hk;exact hk
 ·have hne:s.drop i≠ []:=by
   intro h0
   have:=congrArg List.length h0
   simp at this;omega
  have href:=KN (s.drop i) hne
  have hb0:(List.getD s (Int.toNat I) 0).toNat=bt (s.drop i) 0:=by rw[SY,hI];rfl
  have hlt:=F0 (s.drop i) 0
  have hlen:(s.drop i).length=s.length-i:=by simp
  rw[hb0,Yt _ (by omega)]
  have m15:AN .and .i64 ((bt (s.drop i) 0:Nat):Int) (15:Int)=((bt (s.drop i) 0%16:Nat):Int):=Kz _ 4 (by omega) (by decide)
  have m7:AN .and .i64 ((bt (s.drop i) 0:Nat):Int) (7:Int)=((bt (s.drop i) 0%8:Nat):Int):=Kz _ 3 (by omega) (by decide)
  have m31:AN .and .i64 ((bt (s.drop i) 0:Nat):Int) (31:Int)=((bt (s.drop i) 0%32:Nat):Int):=Kz _ 5 (by omega) (by decide)
  rw[m15,m7,m31]
  refine⟨fun size r s' at' st1=>s=s'/\I=at'/\st=st1/\((rsz (bt (s.drop i) 0):Nat):Int)=size/\((rb0 (bt (s.drop i) 0):Nat):Int)=r,?_,?_⟩
  ·refine Aa (fun h1=>⟨rfl,rfl,rfl,?_,?_⟩) fun h1=>Aa (fun h2=>⟨rfl,rfl,rfl,?_,?_⟩) fun h2=>Aa (fun h3=>⟨rfl,rfl,rfl,?_,?_⟩) fun h3=>⟨rfl,rfl,rfl,?_,?_⟩
   ·unfold rsz;rw[if_pos (by omega)];rfl
   ·unfold rb0;rw[if_pos (by omega)]
   ·unfold rsz;rw[if_neg (by omega),if_pos (by omega)];rfl
   ·unfold rb0;rw[if_neg (by omega),if_pos (by omega)]
   ·unfold rsz;rw[if_neg (by omega),if_neg (by omega),if_pos (by omega)];rfl
   ·unfold rb0;rw[if_neg (by omega),if_neg (by omega),if_pos (by omega)]
   ·unfold rsz;rw[if_neg (by omega),if_neg (by omega),if_neg (by omega)];rfl
   ·unfold rb0;rw[if_neg (by omega),if_neg (by omega),if_neg (by omega)]
  ·rintro _ _ _ _ _ ⟨rfl,rfl,rfl,rfl,rfl⟩
   have hs:=Vj (bt (s.drop i) 0)
   have hr0:=rb0_lt _ hlt
   generalize hsz:rsz (bt (s.drop i) 0)=size at*
   generalize hrr:rb0 (bt (s.drop i) 0)=r0 at*
   have hra:=Sr (s.drop i) r0 hr0
   unfold TP at href
   simp only[hsz,hrr]at href
   rw[Af _ (by omega) (by omega)]
   refine Aa (fun h1=>?_) fun h1=>?_
   ·rw[if_pos (by omega)]at href
    have:rD (s.drop i)=(0,0):=by unfold rD;rw[<-href]
    rw[this]at hk;exact hk
   ·rw[if_neg (by omega)]at href
    refine⟨fun r j s' at' sz st2=>s=s'/\I=at'/\st=st2/\((size:Nat):Int)=sz/\∃k:Nat,j=((k+1:Nat):Int)/\k+1<=size/\r=((CB (s.drop i) r0 k:Nat):Int),fun _ j _ _ sz _=>(sz-j).toNat,⟨rfl,rfl,rfl,rfl,0,rfl,hs.1,rfl⟩,?_⟩
    rintro _ _ _ _ _ _ ⟨rfl,rfl,rfl,rfl,k,rfl,hk1,rfl⟩
    have hrk:=hra k
    have h64:64^k<=64^3:=Nat.pow_le_pow_right (by decide) (by omega)
    refine Aa (fun h2=>?_) fun h2=>?_
    ·rw[Af _ (by omega) (by omega)]
     have hbk:(List.getD s (Int.toNat (I+((k+1:Nat):Int))) 0).toNat=bt (s.drop i) (k+1):=by
      rw[SY,show Int.toNat (I+((k+1:Nat):Int))=i+(k+1) by omega];rfl
     have hbl:=F0 (s.drop i) (k+1)
     have hand:AN .and .i64 (i64.wrap ((bt (s.drop i) (k+1):Nat):Int)) (63:Int)=((bt (s.drop i) (k+1)%64:Nat):Int):=by
      rw[Yt _ (by omega)];exact Kz _ 6 (by omega) (by decide)
     have hmul:i64.wrap (((CB (s.drop i) r0 k:Nat):Int)*2^(min (Int.toNat (6:Int)) (IntKind.bits .i64)))=((CB (s.drop i) r0 k*2^6:Nat):Int):=by
      rw[show(2:Int)^(min (Int.toNat (6:Int)) (IntKind.bits .i64))=64 by decide,Af _ (by omega) (by omega)];omega
     refine⟨⟨by omega,by omega⟩,?_⟩
     rw[hbk,hand,hmul,Vz _ _ 6 (by omega) (by omega),Af _ (by omega) (by omega)]
     exact⟨⟨rfl,rfl,rfl,rfl,k+1,by omega,by omega,by simp only[CB]⟩,by dsimp only;omega⟩
    ·have hks:k=size-1:=by omega
     subst hks
     refine X9 (by omega) ?_
     generalize hR:CB (s.drop i) r0 (size-1)=R at*
     refine Aa (fun h3=>?_) fun h3=>?_
     ·have hc:¬A4 R:=by intro hc;rw[if_pos hc]at h3;exact h3 rfl
      rw[if_neg (fun h=>hc h.1)]at href
      have:rD (s.drop i)=(0,0):=by unfold rD;rw[<-href]
      rw[this]at hk;exact hk
     ·have hc:A4 R:=by
       apply Decidable.byContradiction
       intro hc;rw[if_neg hc]at h3;exact h3 (by decide)
      rw[if_pos hc,Af _ (by omega) (by omega)]
      refine⟨⟨by omega,by omega,by omega⟩,?_⟩
      rw[Fl,show Int.toNat (I+(size:Int))-Int.toNat I=size by omega,show Int.toNat I=i by omega]
      refine Aa (fun h4=>?_) fun h4=>?_
      ·rw[if_neg (fun h=>h4 h.2)]at href
       have:rD (s.drop i)=(0,0):=by unfold rD;rw[<-href]
       rw[this]at hk;exact hk
      ·rw[if_pos ⟨hc,Decidable.not_not.1 h4⟩]at href
       have:rD (s.drop i)=(R,size):=by unfold rD;rw[<-href]
       rw[this]at hk;exact hk
theorem Vp {s:B8} {i:Nat} {st:St} {K:Int->Int->St->Prop} (hl:s.length<=2000000) (hi:i<=s.length) (hk:K ((rD (s.drop i)).1:Nat) ((rD (s.drop i)).2:Nat) st):CallT PR BX [.str s,.int .i64 (i:Int)] [.one (.int .i64),.one (.int .i64)] st K:=
 TS rfl hl hi hk
theorem OT (l:B8):Bi l<=l.length:=WE _ l (Nat.le_refl _)
theorem L3:Bi []=0:=Eu _ (by simp[ul])
theorem Rd.ldx {sz:Nat} {v:TV} {n:Nat} {xs:List TV} (h:Rd sz v n xs) (st:St) (i j:Nat) {x:TV} (hx:xs[i*sz+j]? =some x):Ad st [] (.t (ixT sz v i)) j=some x:=by
 obtain⟨hlt,hx⟩:=List.getElem?_eq_some_iff.1 hx
 rw[h.ld st i j hlt,hx]
theorem Rd.ldfx {sz:Nat} {v:TV} {n:Nat} {xs:List TV} (h:Rd sz v n xs) (st:St) (i j:Nat) {x:TV} (hx:xs[i*sz+j]? =some x):Ad st [] (.t (Ao (ixT sz v i) j)) 0=some x:=by
 obtain⟨hlt,hx⟩:=List.getElem?_eq_some_iff.1 hx
 rw[h.ldf st i j hlt,hx]
theorem QS {s:B8} {st:St} {K:TV->Bool->St->Prop} (hl:s.length<=2000000)
  (hk:∀v xs st',Al st st'->Rd 1 v (xs.length+1) (xs++[.int .i64 ((Bi s:Nat):Int)])->xs.length<=s.length->K v (decide (Bi s=s.length)) st'):CallT PR B4 [.str s] [.one (.tv),.one (.bool)] st K:=by
 have hv:=OT s
 refine Gn s st K ⟨fun v i s' st'=>s=s'/\Al st st'/\∃(k:Nat) (xs:List TV),i=(k:Int)/\k<=s.length/\k+Bi (s.drop k)=Bi s/\xs.length<=k/\Own st.nt 1 st' v (xs.length+1) (xs++[.int .i64 (k:Int)]),fun _ i _ _=>(s.length-i).toNat,⟨rfl,Al.refl _,0,[],rfl,by omega,by simp,by simp,Own.full _ _ _ _ _⟩,?_⟩
 rintro v _ _ st1 ⟨rfl,e,k,xs,rfl,h1,h2,h3,h4⟩
 refine Aa (fun g1=>?_) fun g1=>?_
 ·have hle:=Q2 (s.drop k)
  rw[List.length_drop]at hle
  refine Vp hl h1 ?_
  unfold rD
  by_cases h0:ul (s.drop k)=0
  ·rw[if_pos h0]
   rw[Eu _ h0]at h2
   refine Aa (fun _=>?_) fun h=>absurd rfl h
   have:=hk v xs st1 e (by rw[<-h2];exact h4.rd) (by omega)
   rw[decide_eq_false (by omega)]at this
   exact this
  ·rw[if_neg h0]
   rw[E6 _ h0,List.drop_drop]at h2
   have w:i64.wrap ((k:Int)+(ul (s.drop k):Nat))=((k+ul (s.drop k):Nat):Int):=by rw[Af _ (by omega) (by omega)];omega
   refine Aa (fun h=>by simp only at h;omega) fun _=>?_
   dsimp only
   rw[w]
   refine CJ e rfl h4 (by omega) (fun h=>by cases h) fun v' st' e' _ ho=>⟨⟨rfl,e',k+ul (s.drop k),xs++[.int .i64 (k:Int)],rfl,by omega,by omega,by rw[List.length_append];simp;omega,?_⟩,by omega⟩
   rw[List.length_append];exact ho
 ·rw[show s.drop k=[]from List.drop_of_length_le (by omega),L3]at h2
  have hks:k=Bi s:=by omega
  have:=hk v xs st1 e (by rw[<-hks];exact h4.rd) (by omega)
  rw[decide_eq_true (by omega)]at this
  exact this
theorem Nk {s:B8} {st:St} {K:Bool->St->Prop} (hl:s.length<=2000000) (hk:∀st',Al st st'->K (decide (Bi s=s.length)) st'):CallT PR AZ [.str s] [.one (.bool)] st K:=
 Ju s st K (QS hl fun v xs st1 e hr hx=>hk st1 e)
def hdS (b:Nat):Nat:=if b<128 then 1 else if 192<=b/\b<224 then 2 else if 224<=b/\b<240 then 3 else if 240<=b/\b<248 then 4 else 0
def hdB (b:Nat):Nat:=if b<128 then b else if 192<=b/\b<224 then b%32 else if 224<=b/\b<240 then b%16 else if 240<=b/\b<248 then b%8 else 0
def wid (r:Nat):Nat:=if r<128 then 1 else if r<2048 then 2 else if r<65536 then 3 else 4
theorem KZ (a m:Nat) (ha:a<256) (hm:m<=8):AN .and .u8 (a:Int) ((2^m-1:Nat):Int)=((a%2^m:Nat):Int):=by
 have:2^m<=2^8:=Nat.pow_le_pow_right (by decide) hm
 rw[and_u8 _ _ ha (by omega),Nat.and_two_pow_sub_one_eq_mod]
theorem head_ok {B:Int} {b:Nat} {st:St} {K:Int->Int->St->Prop} (hB:B=(b:Int)) (hb:b<256) (hk:K (hdS b:Nat) (hdB b:Nat) st):CallT PR Kt [.int .u8 B] [.one (.int .i64),.one (.int .i64)] st K:=by
 have m31:AN .and .u8 B (31:Int)=((b%32:Nat):Int):=by rw[hB];exact KZ b 5 hb (by decide)
 have m15:AN .and .u8 B (15:Int)=((b%16:Nat):Int):=by rw[hB];exact KZ b 4 hb (by decide)
 have m7:AN .and .u8 B (7:Int)=((b%8:Nat):Int):=by rw[hB];exact KZ b 3 hb (by decide)
 unfold hdS hdB at hk
 have kk:∀(x y x' y':Int),x=x'->y=y'->K x' y' st->K x y st:=fun x y x' y' h1 h2 hk=>by rw[h1,h2];exact hk
 refine Tj B st K ?_
 rw[m31,m15,m7,Af B (by omega) (by omega),Af ((b%32:Nat):Int) (by omega) (by omega),Af ((b%16:Nat):Int) (by omega) (by omega),Af ((b%8:Nat):Int) (by omega) (by omega)]
 by_cases g1:b<128
 ·rw[if_pos g1,if_pos g1]at hk
  exact Aa (fun _=>kk _ _ _ _ rfl hB hk) fun h=>by omega
 rw[if_neg g1,if_neg g1]at hk
 refine Aa (fun h=>by omega) fun _=>?_
 by_cases g2:192<=b/\b<224
 ·rw[if_pos g2,if_pos g2]at hk
  exact Aa (fun _=>Aa (fun _=>hk) fun h=>by omega) fun h=>by omega
 rw[if_neg g2,if_neg g2]at hk
 by_cases g3:224<=b/\b<240
 ·rw[if_pos g3,if_pos g3]at hk
  refine Aa (fun _=>Aa (fun h=>by omega) fun _=>?_) fun h=>by omega
  exact Aa (fun _=>Aa (fun _=>hk) fun h=>by omega) fun h=>by omega
 rw[if_neg g3,if_neg g3]at hk
 by_cases g4:240<=b/\b<248
 ·rw[if_pos g4,if_pos g4]at hk
  refine Aa (fun _=>Aa (fun h=>by omega) fun _=>?_) fun h=>by omega
  refine Aa (fun _=>Aa (fun h=>by omega) fun _=>?_) fun h=>by omega
  exact Aa (fun _=>Aa (fun _=>hk) fun h=>by omega) fun h=>by omega
 rw[if_neg g4,if_neg g4]at hk
 repeat' first
  | exact hk
  | omega
  | refine Aa (fun _=>?_) fun _=>?_
theorem Xz {R:Int} {r:Nat} {st:St} {K:Bool->St->Prop} (hR:R=(r:Int)) (hk:K (decide (A4 r)) st):CallT PR Hs [.int .i64 R] [.one (.bool)] st K:=by
 unfold A4 at hk
 refine Qv R st K (Aa (fun _=>Aa (fun h2=>Aa (fun h3=>?_) fun h3=>?_) fun h2=>?_) fun h1=>by omega)
 ·exact B1 (decide_eq_true (by omega)).symm hk
 ·exact B1 (decide_eq_decide.2 (by omega)) hk
 ·exact B1 (decide_eq_false (by omega)).symm hk
theorem Yw {R:Int} {r:Nat} {st:St} {K:Int->St->Prop} (hR:R=(r:Int)) (hk:K (wid r:Nat) st):CallT PR IH [.int .i64 R] [.one (.int .i64)] st K:=by
 unfold wid at hk
 refine R4 R st K (Aa (fun h1=>?_) fun h1=>Aa (fun h2=>?_) fun h2=>Aa (fun h3=>?_) fun h3=>?_)
 ·rw[if_pos (by omega)]at hk;exact hk
 ·rw[if_neg (by omega),if_pos (by omega)]at hk;exact hk
 ·rw[if_neg (by omega),if_neg (by omega),if_pos (by omega)]at hk;exact hk
 ·rw[if_neg (by omega),if_neg (by omega),if_neg (by omega)]at hk;exact hk
def Su (l:B8):Prop:=hdS (bt l 0)≠0/\hdS (bt l 0)<=l.length/\(∀j,1<=j->j<hdS (bt l 0)->bt l j/64=2)/\A4 (CB l (hdB (bt l 0)) (hdS (bt l 0)-1))/\wid (CB l (hdB (bt l 0)) (hdS (bt l 0)-1))=hdS (bt l 0)
theorem pd_val (l:B8) (h:l≠ []) (hp:Su l):ul l=hdS (bt l 0)/\ur l=CB l (hdB (bt l 0)) (hdS (bt l 0)-1):=by
 obtain⟨p1,p2,p3,p4,p5⟩:=hp
 have e:=KN l h
 have h0:=F0 l 0
 have e0:(l.getD 0 0).toNat=bt l 0:=rfl
 have e1:(l.getD 1 0).toNat=bt l 1:=rfl
 have e2:(l.getD 2 0).toNat=bt l 2:=rfl
 have e3:(l.getD 3 0).toNat=bt l 3:=rfl
 have fin:∀n r,rsz (bt l 0)=n->rb0 (bt l 0)=r->n=hdS (bt l 0)->r=hdB (bt l 0)->Gb (CB l r (n-1))=l.take n->ul l=hdS (bt l 0)/\ur l=CB l (hdB (bt l 0)) (hdS (bt l 0)-1):=by
  intro n r hn hr hn2 hr2 henc
  unfold TP at e
  simp only[hn,hr]at e
  rw[if_neg (by omega),if_pos ⟨by rw[hr2,hn2];exact p4,henc⟩]at e
  by_cases hz:ul l=0
  ·rw[if_pos hz]at e;simp only[Prod.mk.injEq]at e;omega
  ·rw[if_neg hz]at e;simp only[Prod.mk.injEq]at e
   exact⟨by omega,by rw[<-hr2,<-hn2];exact e.1.symm⟩
 have h1:=F0 l 1
 have h2:=F0 l 2
 have h3:=F0 l 3
 by_cases g1:bt l 0<128
 ·have hs:hdS (bt l 0)=1:=by unfold hdS;rw[if_pos g1]
  have hb:hdB (bt l 0)=bt l 0:=by unfold hdB;rw[if_pos g1]
  refine fin 1 (bt l 0) (by unfold rsz;rw[if_neg (by omega),if_neg (by omega),if_neg (by omega)]) (by unfold rb0;rw[if_neg (by omega),if_neg (by omega),if_neg (by omega)]) hs.symm hb.symm ?_
  rw[Mg l (by omega)]
  simp only[Nat.sub_self,CB]
  unfold Gb
  rw[if_pos g1]
  simp only[DM,DC,e0,and_true]
  omega
 by_cases g2:192<=bt l 0/\bt l 0<224
 ·have hs:hdS (bt l 0)=2:=by unfold hdS;rw[if_neg g1,if_pos g2]
  have hb:hdB (bt l 0)=bt l 0%32:=by unfold hdB;rw[if_neg g1,if_pos g2]
  rw[hs]at p3 p5
  rw[hb]at p5
  have q1:=p3 1 (by omega) (by omega)
  refine fin 2 (bt l 0%32) (by unfold rsz;rw[if_neg (by omega),if_neg (by omega),if_pos (by omega)]) (by unfold rb0;rw[if_neg (by omega),if_neg (by omega),if_pos (by omega)]) hs.symm hb.symm ?_
  rw[Mf l (by omega)]
  simp only[Nat.reduceSub,CB,Nat.zero_add]at p5⊢
  generalize bt l 0=b0 at*
  generalize bt l 1=b1 at*
  unfold wid at p5
  unfold Gb
  by_cases k1:b0%32*64+b1%64<128
  ·rw[if_pos k1]at p5;omega
  rw[if_neg k1]at p5⊢
  by_cases k2:b0%32*64+b1%64<2048
  ·rw[if_pos k2]
   simp only[DM,DC,e0,e1,and_true]
   omega
  ·rw[if_neg k2]at p5;split at p5<;>omega
 by_cases g3:224<=bt l 0/\bt l 0<240
 ·have hs:hdS (bt l 0)=3:=by unfold hdS;rw[if_neg g1,if_neg g2,if_pos g3]
  have hb:hdB (bt l 0)=bt l 0%16:=by unfold hdB;rw[if_neg g1,if_neg g2,if_pos g3]
  rw[hs]at p3 p5
  rw[hb]at p5
  have q1:=p3 1 (by omega) (by omega)
  have q2:=p3 2 (by omega) (by omega)
  refine fin 3 (bt l 0%16) (by unfold rsz;rw[if_neg (by omega),if_pos (by omega)]) (by unfold rb0;rw[if_neg (by omega),if_pos (by omega)]) hs.symm hb.symm ?_
  rw[Ir l (by omega)]
  simp only[Nat.reduceSub,CB,Nat.zero_add,Nat.reduceAdd]at p5⊢
  generalize bt l 0=b0 at*
  generalize bt l 1=b1 at*
  generalize bt l 2=b2 at*
  generalize hr:(b0%16*64+b1%64)*64+b2%64=r at*
  unfold wid at p5
  unfold Gb
  by_cases k1:r<128
  ·rw[if_pos k1]at p5;omega
  rw[if_neg k1]at p5⊢
  by_cases k2:r<2048
  ·rw[if_pos k2]at p5;omega
  rw[if_neg k2]at p5⊢
  by_cases k3:r<65536
  ·rw[if_pos k3]
   simp only[DM,DC,e0,e1,e2,and_true]
   omega
  ·rw[if_neg k3]at p5;omega
 by_cases g4:240<=bt l 0/\bt l 0<248
 ·have hs:hdS (bt l 0)=4:=by unfold hdS;rw[if_neg g1,if_neg g2,if_neg g3,if_pos g4]
  have hb:hdB (bt l 0)=bt l 0%8:=by unfold hdB;rw[if_neg g1,if_neg g2,if_neg g3,if_pos g4]
  rw[hs]at p3 p4 p5
  rw[hb]at p4 p5
  have q1:=p3 1 (by omega) (by omega)
  have q2:=p3 2 (by omega) (by omega)
  have q3:=p3 3 (by omega) (by omega)
  refine fin 4 (bt l 0%8) (by unfold rsz;rw[if_pos (by omega)]) (by unfold rb0;rw[if_pos (by omega)]) hs.symm hb.symm ?_
  rw[Nb l (by omega)]
  simp only[Nat.reduceSub,CB,Nat.zero_add,Nat.reduceAdd]at p4 p5⊢
  generalize bt l 0=b0 at*
  generalize bt l 1=b1 at*
  generalize bt l 2=b2 at*
  generalize bt l 3=b3 at*
  generalize hr:((b0%8*64+b1%64)*64+b2%64)*64+b3%64=r at*
  unfold wid at p5
  unfold Gb
  by_cases k1:r<128
  ·rw[if_pos k1]at p5;omega
  rw[if_neg k1]at p5⊢
  by_cases k2:r<2048
  ·rw[if_pos k2]at p5;omega
  rw[if_neg k2]at p5⊢
  by_cases k3:r<65536
  ·rw[if_pos k3]at p5;omega
  rw[if_neg k3]
  have:=p4.1
  simp only[DM,DC,e0,e1,e2,e3,and_true]
  omega
 ·exfalso
  unfold hdS at p1
  rw[if_neg g1,if_neg g2,if_neg g3,if_neg g4]at p1
  exact p1 rfl
theorem pd_iff (l:B8) (h:l≠ []):ul l≠0->Su l:=by
 intro hu
 have e:=KN l h
 rw[if_neg hu]at e
 have h0:=F0 l 0
 have e0:(l.getD 0 0).toNat=bt l 0:=rfl
 have e1:(l.getD 1 0).toNat=bt l 1:=rfl
 have e2:(l.getD 2 0).toNat=bt l 2:=rfl
 have e3:(l.getD 3 0).toNat=bt l 3:=rfl
 have h1:=F0 l 1
 have h2:=F0 l 2
 have h3:=F0 l 3
 have hc:¬l.length<rsz (bt l 0)/\A4 (CB l (rb0 (bt l 0)) (rsz (bt l 0)-1))/\Gb (CB l (rb0 (bt l 0)) (rsz (bt l 0)-1))=l.take (rsz (bt l 0)):=by
  unfold TP at e
  simp only at e
  split at e
  ·simp only[Prod.mk.injEq]at e;omega
  ·split at e
   ·rename_i a b;exact⟨a,b⟩
   ·simp only[Prod.mk.injEq]at e;omega
 obtain⟨hl,hch,henc⟩:=hc
 by_cases g4:240<=bt l 0
 ·have r4:rsz (bt l 0)=4:=by unfold rsz;rw[if_pos g4]
  have rb:rb0 (bt l 0)=bt l 0%8:=by unfold rb0;rw[if_pos g4]
  rw[r4,rb]at henc hch
  rw[r4]at hl
  rw[Nb l (by omega)]at henc
  unfold Su hdS hdB
  simp only[Nat.reduceSub,CB,Nat.zero_add,Nat.reduceAdd]at henc hch
  generalize hb0:bt l 0=b0 at*
  generalize hb1:bt l 1=b1 at*
  generalize hb2:bt l 2=b2 at*
  generalize hb3:bt l 3=b3 at*
  have hr0:∃r,r=((b0%8*64+b1%64)*64+b2%64)*64+b3%64:=⟨_,rfl⟩
  obtain⟨r,hr⟩:=hr0
  rw[<-hr]at henc hch
  have hmax:=hch.1
  unfold Gb at henc
  have hw:wid r=4/\b0=240+r/262144/\b1/64=2/\b2/64=2/\b3/64=2:=by
   unfold wid
   split at henc
   ·simp at henc
   ·split at henc
    ·simp at henc
    ·split at henc
     ·simp at henc
     ·simp only[DM,DC,e0,e1,e2,e3,and_true]at henc
      refine⟨by rw[if_neg ‹_›,if_neg ‹_›,if_neg ‹_›],by omega,by omega,by omega,by omega⟩
  rw[if_neg (show ¬b0<128 by omega),if_neg (show ¬(192<=b0/\b0<224) by omega),if_neg (show ¬(224<=b0/\b0<240) by omega),if_pos (show 240<=b0/\b0<248 by omega),if_neg (show ¬b0<128 by omega),if_neg (show ¬(192<=b0/\b0<224) by omega),if_neg (show ¬(224<=b0/\b0<240) by omega),if_pos (show 240<=b0/\b0<248 by omega)]
  simp only[Nat.reduceSub,CB,Nat.zero_add,Nat.reduceAdd,hb1,hb2,hb3]
  rw[<-hr]
  refine⟨by omega,by omega,fun j j1 j2=>?_,hch,hw.1⟩
  have:j=1∨j=2∨j=3:=by omega
  rcases this with rfl | rfl | rfl<;>omega
 by_cases g3:224<=bt l 0
 ·have r4:rsz (bt l 0)=3:=by unfold rsz;rw[if_neg g4,if_pos g3]
  have rb:rb0 (bt l 0)=bt l 0%16:=by unfold rb0;rw[if_neg g4,if_pos g3]
  rw[r4,rb]at henc hch
  rw[r4]at hl
  rw[Ir l (by omega)]at henc
  unfold Su hdS hdB
  simp only[Nat.reduceSub,CB,Nat.zero_add,Nat.reduceAdd]at henc hch
  generalize hb0:bt l 0=b0 at*
  generalize hb1:bt l 1=b1 at*
  generalize hb2:bt l 2=b2 at*
  have hr0:∃r,r=(b0%16*64+b1%64)*64+b2%64:=⟨_,rfl⟩
  obtain⟨r,hr⟩:=hr0
  rw[<-hr]at henc hch
  unfold Gb at henc
  have hw:wid r=3/\b1/64=2/\b2/64=2:=by
   unfold wid
   split at henc
   ·simp at henc
   ·split at henc
    ·simp at henc
    ·split at henc
     ·simp only[DM,DC,e0,e1,e2,and_true]at henc
      refine⟨by rw[if_neg ‹_›,if_neg ‹_›,if_pos ‹_›],by omega,by omega⟩
     ·simp at henc
  rw[if_neg (show ¬b0<128 by omega),if_neg (show ¬(192<=b0/\b0<224) by omega),if_pos (show 224<=b0/\b0<240 by omega),if_neg (show ¬b0<128 by omega),if_neg (show ¬(192<=b0/\b0<224) by omega),if_pos (show 224<=b0/\b0<240 by omega)]
  simp only[Nat.reduceSub,CB,Nat.zero_add,Nat.reduceAdd,hb1,hb2]
  rw[<-hr]
  refine⟨by omega,by omega,fun j j1 j2=>?_,hch,hw.1⟩
  have:j=1∨j=2:=by omega
  rcases this with rfl | rfl<;>omega
 by_cases g2:192<=bt l 0
 ·have r4:rsz (bt l 0)=2:=by unfold rsz;rw[if_neg g4,if_neg g3,if_pos g2]
  have rb:rb0 (bt l 0)=bt l 0%32:=by unfold rb0;rw[if_neg g4,if_neg g3,if_pos g2]
  rw[r4,rb]at henc hch
  rw[r4]at hl
  rw[Mf l (by omega)]at henc
  unfold Su hdS hdB
  simp only[Nat.reduceSub,CB,Nat.zero_add,Nat.reduceAdd]at henc hch
  generalize hb0:bt l 0=b0 at*
  generalize hb1:bt l 1=b1 at*
  have hr0:∃r,r=b0%32*64+b1%64:=⟨_,rfl⟩
  obtain⟨r,hr⟩:=hr0
  rw[<-hr]at henc hch
  unfold Gb at henc
  have hw:wid r=2/\b1/64=2:=by
   unfold wid
   split at henc
   ·simp at henc
   ·split at henc
    ·simp only[DM,DC,e0,e1,and_true]at henc
     refine⟨by rw[if_neg ‹_›,if_pos ‹_›],by omega⟩
    ·split at henc<;>simp at henc
  rw[if_neg (show ¬b0<128 by omega),if_pos (show 192<=b0/\b0<224 by omega),if_neg (show ¬b0<128 by omega),if_pos (show 192<=b0/\b0<224 by omega)]
  simp only[Nat.reduceSub,CB,Nat.zero_add,hb1]
  rw[<-hr]
  refine⟨by omega,by omega,fun j j1 j2=>?_,hch,hw.1⟩
  have:j=1:=by omega
  subst this;omega
 ·have r4:rsz (bt l 0)=1:=by unfold rsz;rw[if_neg g4,if_neg g3,if_neg g2]
  have rb:rb0 (bt l 0)=bt l 0:=by unfold rb0;rw[if_neg g4,if_neg g3,if_neg g2]
  rw[r4,rb]at henc hch
  rw[r4]at hl
  rw[Mg l (by omega)]at henc
  unfold Su hdS hdB
  simp only[Nat.sub_self,CB]at henc hch
  generalize hb0:bt l 0=b0 at*
  have hlt:b0<128:=by
   unfold Gb at henc
   split at henc
   ·assumption
   ·split at henc
    ·simp at henc
    ·split at henc<;>simp at henc
  rw[if_pos hlt,if_pos hlt]
  simp only[Nat.sub_self,CB]
  refine⟨by omega,by omega,fun j j1 j2=>by omega,hch,by unfold wid;rw[if_pos hlt]⟩
theorem Pd {s:B8} {I:Int} {i:Nat} {st:St} {K:Int->Int->St->Prop} (hI:I=(i:Int)) (hl:s.length<=2000000) (hi:i<=s.length) (hk:K ((rD (s.drop i)).1:Nat) ((rD (s.drop i)).2:Nat) st):
  CallT PR Fq [.str s,.int .i64 I] [.one (.int .i64),.one (.int .i64)] st K:=by
 have no:¬Su (s.drop i)->s.drop i≠ []->K 0 0 st:=fun h hne=>by
  have:ul (s.drop i)=0:=Decidable.byContradiction fun h0=>h (pd_iff _ hne h0)
  unfold rD at hk
  rw[if_pos this]at hk;exact hk
 have yes:Su (s.drop i)->s.drop i≠ []->K (CB (s.drop i) (hdB (bt (s.drop i) 0)) (hdS (bt (s.drop i) 0)-1):Nat) (hdS (bt (s.drop i) 0):Nat) st:=fun h hne=>by
  have hv:=pd_val _ hne h
  unfold rD at hk
  rw[if_neg (by rw[hv.1];exact h.1),hv.1,hv.2]at hk
  exact hk
 have hlen:(s.drop i).length=s.length-i:=by simp
 have hb:∀j,bt (s.drop i) j=(s.getD (i+j) 0).toNat:=SY s i
 refine Qw s I st K (Aa (fun h=>by omega) fun _=>Aa (fun h=>?_) fun h=>⟨⟨by omega,by omega⟩,?_⟩)
 ·have:s.drop i=[]:=List.drop_of_length_le (by omega)
  have h0:rD (s.drop i)=(0,0):=by rw[this];simp[rD,ul]
  rw[h0]at hk;exact hk
 have hne:s.drop i≠ []:=by
  intro h0
  have:=congrArg List.length h0
  rw[hlen]at this;simp only[List.length_nil]at this;omega
 have hb0:(List.getD s (Int.toNat I) 0).toNat=bt (s.drop i) 0:=by rw[hb,hI];rfl
 have hlt:=F0 (s.drop i) 0
 rw[hb0]
 refine head_ok rfl hlt ?_
 have hsz:hdS (bt (s.drop i) 0)<=4:=by unfold hdS;(repeat' split)<;>omega
 have hbz:hdB (bt (s.drop i) 0)<256:=by unfold hdB;(repeat' split)<;>omega
 unfold Su at no yes
 generalize hdS (bt (s.drop i) 0)=n at*
 generalize hdB (bt (s.drop i) 0)=r0 at*
 rw[Af _ (by omega) (by omega)]
 refine Aa (fun g=>no (fun hh=>hh.1 (by omega)) hne) fun g1=>Aa (fun g=>no (fun hh=>by omega) hne) fun g2=>?_
 have hra:=Sr (s.drop i) r0 hbz
 refine⟨fun r j s' at' sz st2=>s=s'/\I=at'/\st=st2/\((n:Nat):Int)=sz/\∃k:Nat,j=((k+1:Nat):Int)/\k+1<=n/\r=((CB (s.drop i) r0 k:Nat):Int)/\∀m,1<=m->m<=k->bt (s.drop i) m/64=2,fun _ j _ _ sz _=>(sz-j).toNat,⟨rfl,rfl,rfl,rfl,0,rfl,by omega,rfl,fun m h1 h2=>by omega⟩,?_⟩
 rintro _ _ _ _ _ _ ⟨rfl,rfl,rfl,rfl,k,rfl,hk1,rfl,hall⟩
 have hrk:=hra k
 have h64:64^k<=64^3:=Nat.pow_le_pow_right (by decide) (by omega)
 refine Aa (fun h2=>?_) fun h2=>?_
 ·rw[Af (I+((k+1:Nat):Int)) (by omega) (by omega)]
  have hbk:(List.getD s (Int.toNat (I+((k+1:Nat):Int))) 0).toNat=bt (s.drop i) (k+1):=by
   rw[hb,show Int.toNat (I+((k+1:Nat):Int))=i+(k+1) by omega]
  have hbl:=F0 (s.drop i) (k+1)
  have h192:AN .and .u8 ((bt (s.drop i) (k+1):Nat):Int) (192:Int)=((bt (s.drop i) (k+1)&&&192:Nat):Int):=and_u8 _ 192 hbl (by decide)
  have hand:i64.wrap (AN .and .u8 ((bt (s.drop i) (k+1):Nat):Int) (63:Int))=((bt (s.drop i) (k+1)%64:Nat):Int):=by
   rw[show(63:Int)=((2^6-1:Nat):Int) by decide,KZ _ 6 hbl (by decide),Af _ (by omega) (by omega)]
  have hmul:i64.wrap (((CB (s.drop i) r0 k:Nat):Int)*2^(min (Int.toNat (6:Int)) (IntKind.bits .i64)))=((CB (s.drop i) r0 k*2^6:Nat):Int):=by
   rw[show(2:Int)^(min (Int.toNat (6:Int)) (IntKind.bits .i64))=64 by decide,Af _ (by omega) (by omega)];omega
  have hc:(bt (s.drop i) (k+1)&&&192)=128↔bt (s.drop i) (k+1)/64=2:=by
   have:∀x,x<256->((x&&&192)=128↔x/64=2):=by decide+kernel
   exact this _ hbl
  refine⟨⟨by omega,by omega⟩,?_⟩
  rw[hbk,h192,hand,hmul,Vz _ _ 6 (by omega) (by omega),Af _ (by omega) (by omega)]
  refine Aa (fun h3=>no (fun hh=>h3 ?_) hne) fun h3=>?_
  ·have:=hh.2.2.1 (k+1) (by omega) (by omega)
   rw[hc.2 this];rfl
  ·have h4:bt (s.drop i) (k+1)/64=2:=hc.1 (by omega)
   refine⟨⟨rfl,rfl,rfl,rfl,k+1,by omega,by omega,by simp only[CB],fun m m1 m2=>?_⟩,by dsimp only;omega⟩
   by_cases hm:m=k+1
   ·rw[hm];exact h4
   ·exact hall m m1 (by omega)
 ·have hks:k=n-1:=by omega
  subst hks
  refine Xz rfl (Aj (fun h3=>no (fun hh=>?_) hne) fun h3=>Yw rfl (Aa (fun h4=>no (fun hh=>?_) hne) fun h4=>?_))
  ·simp only[Bool.not_eq_true',decide_eq_false_iff_not]at h3
   exact h3 hh.2.2.2.1
  ·rw[hh.2.2.2.2]at h4;exact h4 rfl
  ·simp only[Bool.not_eq_false',decide_eq_true_eq]at h3
   exact yes ⟨by omega,by omega,fun m m1 m2=>hall m m1 (by omega),h3,by omega⟩ hne
theorem uLen_ok {s:B8} {st:St} {K:Int->Int->St->Prop} (hl:s.length<=2000000) (hk:∀n:Int,K n (if Bi s=s.length then 0 else 5) st):CallT PR LP [.str s] [.one (.int .i64),.one (.int .i64)] st K:=by
 have hv:=OT s
 refine U5 s st K ⟨fun n i s' st'=>s=s'/\st=st'/\∃k:Nat,i=(k:Int)/\k<=s.length/\k+Bi (s.drop k)=Bi s,fun _ i _ _=>(s.length-i).toNat,⟨rfl,rfl,0,rfl,by omega,by simp⟩,?_⟩
 rintro n _ _ _ ⟨rfl,rfl,k,rfl,h1,h2⟩
 refine Aa (fun g1=>Pd rfl hl h1 ?_) fun g1=>?_
 ·have hle:=Q2 (s.drop k)
  rw[List.length_drop]at hle
  unfold rD
  by_cases h0:ul (s.drop k)=0
  ·rw[if_pos h0]
   rw[Eu _ h0]at h2
   have:=hk 0
   rw[if_neg (by omega)]at this
   exact Aa (fun _=>this) fun h=>absurd rfl h
  ·rw[if_neg h0]
   rw[E6 _ h0,List.drop_drop]at h2
   refine Aa (fun h=>absurd h (by show ¬((ul (s.drop k):Nat):Int)=0;omega)) fun _=>?_
   have w:i64.wrap ((k:Int)+(ul (s.drop k):Nat))=((k+ul (s.drop k):Nat):Int):=by rw[Af _ (by omega) (by omega)];omega
   dsimp only
   rw[w]
   exact⟨⟨rfl,rfl,_,rfl,by omega,by omega⟩,by omega⟩
 ·rw[show s.drop k=[]from List.drop_of_length_le (by omega),L3]at h2
  have:=hk n
  rw[if_pos (by omega)]at this
  exact this
theorem MZ {s:B8} {st:St} {K:Bool->St->Prop} (hl:s.length<=2000000) (hk:K (decide (Bi s=s.length)) st):CallT PR EL [.str s] [.one (.bool)] st K:=by
 refine R5 s st K (uLen_ok hl fun n=>?_)
 by_cases h:Bi s=s.length
 ·rw[if_pos h];rw[decide_eq_true h]at hk;exact hk
 ·rw[if_neg h];rw[decide_eq_false h]at hk;exact hk
theorem Mb {l:B8} {c:UInt8} (hc:c.toNat<128) (hl:l.length<=9223372036854775807) {st:St} {K:B8->St->Prop} (hk:K (Lib.trimRightB l c) st):CallT PR DG [.str l,.str [c]] [.one .str] st K:=by
 refine DR (fun _ _=>by kernel_rfl) fun g w vargs s hr=>?_
 obtain⟨v,u,rfl,hv,hu⟩:=Pt hr
 rw[BE hv,BE hu]
 refine Calls.mono (Tryz.strings_TrimRight_one ⟨l.toArray⟩ c hc w (by simpa [ByteArray.size]using hl)) ?_
 rintro e w' ⟨rfl,rfl⟩
 exact⟨_,rfl,.str _,st,g,hk,s,Rel.str _,Ext.refl _ _⟩
theorem J5 (l:B8):(Lib.trimRightB l 48).length+BR l=l.length:=by
 unfold Lib.trimRightB BR
 have:=congrArg List.length (List.takeWhile_append_dropWhile (p:=fun x:UInt8=>x==48) (l:=l.reverse))
 rw[List.length_append,List.length_reverse]at this
 rw[List.length_reverse];omega
theorem Yr {l:B8} (hl:l.length<=2000000) {st:St} {K:Int->St->Prop} (hk:K (BR l:Nat) st):CallT PR FL [.str l] [.one (.int .i64)] st K:=by
 refine Oq _ st K (Mb (by decide) (by omega) ?_)
 have:=J5 l
 rw[Af _ (by omega) (by omega),show((l.length:Nat):Int)-((Lib.trimRightB l 48).length:Int)=(BR l:Nat) by omega]
 exact hk
theorem Va {p:UInt8->Bool}:∀(r:B8) (n:Nat),n<=r.length->(∀j x,j<n->r[j]? =some x->p x=true)->(∀x,r[n]? =some x->p x=false)->(r.takeWhile p).length=n
 | [],n,h,_,_=>by simp at h;simp[h]
 | a::r,0,_,_,h=>by simp[List.takeWhile_cons,h a rfl]
 | a::r,n+1,h,h1,h2=>by
  rw[List.takeWhile_cons,if_pos (h1 0 a (by omega) rfl),List.length_cons,Va r n (by simpa using h) (fun j x hj hx=>h1 (j+1) x (by omega) (by simpa using hx)) (fun x hx=>h2 x (by simpa using hx))]
theorem YR (l:B8) (n:Nat) (h:n<l.length):l.reverse[n]? =some (List.getD l (l.length-1-n) 0):=by
 rw[List.getElem?_reverse h,List.getD_eq_getElem?_getD,List.getElem?_eq_getElem (by omega),Option.getD_some]
theorem Q7 {l:B8} (hl:l.length<=2000000) {st:St} {K:Int->St->Prop} (hk:K (BR l:Nat) st):CallT PR Cf [.str l] [.one (.int .i64)] st K:=by
 refine Jy l st K ⟨fun i s st'=>l=s/\st=st'/\∃n:Nat,i=n/\n<=l.length/\∀j x,j<n->l.reverse[j]? =some x->(x==48)=true,fun i _ _=>(l.length-i).toNat,⟨rfl,rfl,0,rfl,Nat.zero_le _,fun j x hj=>absurd hj (Nat.not_lt_zero _)⟩,?_⟩
 rintro _ _ _ ⟨rfl,rfl,n,rfl,hn,hall⟩
 refine Aa (fun g=>?_) fun g=>?_
 ·have hr:=YR l n (by omega)
  rw[Af ((l.length:Int)-1) (by omega) (by omega),Af _ (by omega) (by omega),show Int.toNat ((l.length:Int)-1-(n:Int))=l.length-1-n by omega]
  refine⟨⟨by omega,by omega⟩,?_⟩
  generalize List.getD l (l.length-1-n) 0=c at hr⊢
  refine Aa (fun g2=>?_) fun g2=>?_
  ·rw[Af _ (by omega) (by omega)]
   refine⟨⟨rfl,rfl,n+1,by omega,by omega,fun j x hj hx=>?_⟩,by dsimp only;omega⟩
   by_cases hjn:j=n
   ·subst hjn
    rw[hr]at hx
    rw[<-Option.some.inj hx]
    simpa [<-UInt8.toNat_inj]using (by omega:c.toNat=48)
   ·exact hall j x (by omega) hx
  ·have:BR l=n:=Va _ n (by simpa using hn) hall fun x hx=>by
    rw[hr]at hx
    rw[<-Option.some.inj hx]
    have:c≠48:=fun e=>g2 (by rw[e];rfl)
    simpa using this
   rw[<-this];exact hk
 ·have:BR l=n:=Va _ n (by simpa using hn) hall fun x hx=>by
   rw[List.getElem?_eq_none (by simp;omega)]at hx;cases hx
  rw[<-this];exact hk
theorem GB {l:B8} {n:Nat} (h:n<l.length):List.getD l n 0∈l:=by
 rw[List.getD_eq_getElem?_getD,List.getElem?_eq_getElem h,Option.getD_some]
 exact List.getElem_mem h
theorem UU {P:UInt8->Prop} {l:B8} {n:Nat} (h:n<l.length) (h1:∀c,c∈l.take n->P c) (h2:P (List.getD l n 0)):∀c,c∈l.take (n+1)->P c:=by
 intro c hc
 rw[EB _ _ 0 h]at hc
 rcases List.mem_append.1 hc with hc | hc
 ·exact h1 c hc
 ·rw[List.mem_singleton.1 hc];exact h2
theorem all_ok {l:B8} (hl:l.length<=2000000) {st:St} {K:Bool->St->Prop} (hk:K (decide (∀c,c∈l->AK c)) st):CallT PR Hy [.str l] [.one .bool] st K:=by
 refine QD l st K ⟨fun i s m st'=>l=s/\(l.length:Int)=m/\st=st'/\∃n:Nat,i=n/\n<=l.length/\∀c,c∈l.take n->AK c,fun i _ _ _=>(l.length-i).toNat,⟨rfl,rfl,rfl,0,rfl,Nat.zero_le _,fun c hc=>by simp at hc⟩,?_⟩
 rintro _ _ _ _ ⟨rfl,rfl,rfl,n,rfl,hn,hall⟩
 refine Aa (fun g=>?_) fun g=>?_
 ·have hm:=GB (l:=l) (n:=n) (by omega)
  have bad:¬AK (List.getD l n 0)->K false st:=fun hb=>by
   rw[decide_eq_false fun h=>hb (h _ hm)]at hk;exact hk
  rw[Int.toNat_natCast]
  refine⟨⟨by omega,by omega⟩,Aa (fun g2=>bad (by unfold AK;omega)) fun g2=>⟨⟨by omega,by omega⟩,Aa (fun g3=>bad (by unfold AK;omega)) fun g3=>?_⟩⟩
  rw[Af _ (by omega) (by omega)]
  exact⟨⟨rfl,rfl,rfl,n+1,by omega,by omega,UU (by omega) hall (by unfold AK;omega)⟩,by dsimp only;omega⟩
 ·have:n=l.length:=by omega
  subst this
  rw[List.take_length]at hall
  rw[decide_eq_true hall]at hk;exact hk
theorem Vs {l:B8} (hl:l.length<=2000000) {st:St} {K:Bool->St->Prop} (hk:K (decide (∀c,c∈l->AK c)) st):CallT PR CV [.str l] [.one .bool] st K:=by
 refine Io l st K ⟨fun i s st'=>l=s/\st=st'/\∃n:Nat,i=n/\n<=l.length/\∀c,c∈l.take n->AK c,fun i _ _=>(l.length-i).toNat,⟨rfl,rfl,0,rfl,Nat.zero_le _,fun c hc=>by simp at hc⟩,?_⟩
 rintro _ _ _ ⟨rfl,rfl,n,rfl,hn,hall⟩
 refine Aa (fun g=>?_) fun g=>?_
 ·have hm:=GB (l:=l) (n:=n) (by omega)
  have bad:¬AK (List.getD l n 0)->K false st:=fun hb=>by
   rw[decide_eq_false fun h=>hb (h _ hm)]at hk;exact hk
  rw[Int.toNat_natCast]
  refine⟨⟨by omega,by omega⟩,Aa (fun g2=>bad (by unfold AK;omega)) fun g2=>⟨⟨by omega,by omega⟩,Aa (fun g3=>bad (by unfold AK;omega)) fun g3=>?_⟩⟩
  rw[Af _ (by omega) (by omega)]
  exact⟨⟨rfl,rfl,n+1,by omega,by omega,UU (by omega) hall (by unfold AK;omega)⟩,by dsimp only;omega⟩
 ·have:n=l.length:=by omega
  subst this
  rw[List.take_length]at hall
  rw[decide_eq_true hall]at hk;exact hk
def KF (l:B8):Prop:=l.length<=600/\(∀c,c∈l->AK c)/\(l≠ []->l.getD 0 0≠48)
instance (l:B8):Decidable (KF l):=inferInstanceAs (Decidable (_/\_/\(_->_)))
theorem ne48 (c:UInt8):decide ((c.toNat:Int)≠48)=decide (c≠48):=by
 have:((c.toNat:Int)≠48)↔c≠48:=by rw[ne_eq,ne_eq,<-UInt8.toNat_inj];exact not_congr ⟨fun h=>Int.ofNat.inj h,fun h=>by rw[h];rfl⟩
 exact decide_eq_decide.2 this
theorem RN {l:B8} (hl:l.length<=2000000) {st:St} {K:Bool->St->Prop} (hk:K (decide (KF l)) st):CallT PR Ek [.str l] [.one .bool] st K:=by
 have no:¬KF l->K false st:=fun h=>by rw[decide_eq_false h]at hk;exact hk
 refine Os l st K (Aa (fun g=>all_ok hl (Aa (fun g2=>Aa (fun g3=>?_) fun g3=>⟨⟨by omega,by have:=List.length_pos_iff.2 g3;omega⟩,?_⟩) fun g2=>no fun h=>g2 h.2.1)) fun g=>no fun h=>g (by have:=h.1;omega))
 ·rw[decide_eq_true (show KF l from⟨by omega,g2,fun h=>absurd g3 h⟩)]at hk;exact hk
 ·rw[ne48]
  refine B1 (decide_eq_decide.2 ?_) hk
  exact⟨fun h=>⟨by omega,g2,fun _=>h⟩,fun h=>h.2.2 g3⟩
theorem WO {l:B8} (hl:l.length<=2000000) {st:St} {K:Bool->St->Prop} (hk:K (decide (KF l)) st):CallT PR Cg [.str l] [.one .bool] st K:=by
 have no:¬KF l->K false st:=fun h=>by rw[decide_eq_false h]at hk;exact hk
 refine Jz l st K (Aa (fun g=>Vs hl (Aa (fun g2=>Aa (fun g3=>?_) fun g3=>⟨⟨by omega,by omega⟩,?_⟩) fun g2=>no fun h=>g2 h.2.1)) fun g=>no fun h=>g (by have:=h.1;omega))
 ·rw[decide_eq_true (show KF l from⟨by omega,g2,fun h=>absurd (List.eq_nil_of_length_eq_zero (by omega)) h⟩)]at hk;exact hk
 ·rw[ne48]
  refine B1 (decide_eq_decide.2 ?_) hk
  exact⟨fun h=>⟨by omega,g2,fun _=>h⟩,fun h=>h.2.2 fun e=>g3 (by rw[e];rfl)⟩
theorem Di {neg:Bool} {l:B8} {ex:Int} (h:l≠ []):D2 neg l ex↔KF l/\l.length<=120/\BR l=0/\ -400<=ex/\ex<=400:=by
 unfold D2 KF
 constructor
 ·intro g
  obtain⟨g1,g2,g3,g4,g5,g6⟩:=g.2 h
  exact⟨⟨by omega,g2,fun _=>g3⟩,g1,g4,g5,g6⟩
 ·rintro⟨⟨g1,g2,g3⟩,g4,g5,g6,g7⟩
  exact⟨fun e=>absurd e h,fun _=>⟨g4,g2,g3 h,g5,g6,g7⟩⟩
theorem KW {neg:Bool} {ex:Int}:D2 neg [] ex↔neg=false/\ex=0:=by
 unfold D2
 exact⟨fun g=>g.1 rfl,fun g=>⟨fun _=>g,fun h=>absurd rfl h⟩⟩
theorem Oe {neg:Bool} {l:B8} {ex:Int} (hl:l.length<=2000000) {st:St} {K:Bool->St->Prop} (hk:K (decide (D2 neg l ex)) st):CallT PR DV [.agg [.bool neg,.str l,.int .i64 ex]] [.one .bool] st K:=by
 have no:¬D2 neg l ex->K false st:=fun h=>by rw[decide_eq_false h]at hk;exact hk
 refine MV _ _ _ st K (Aa (fun g=>?_) fun g=>?_)
 ·subst g
  refine B1 ?_ hk
  rw[Bool.eq_iff_iff]
  simp[KW]
 ·refine RN hl (Aa (fun g2=>Aa (fun g3=>Yr hl (Aa (fun g4=>Aa (fun g5=>?_) fun g5=>?_) fun g4=>?_)) fun g3=>?_) fun g2=>?_)
  ·exact B1 (decide_eq_decide.2 (by rw[Di g];exact⟨fun h=>⟨g2,by omega,by omega,g5,h⟩,fun h=>h.2.2.2.2⟩)) hk
  ·exact no fun h=>g5 ((Di g).1 h).2.2.2.1
  ·exact no fun h=>g4 (by have:=((Di g).1 h).2.2.1;omega)
  ·exact no fun h=>g3 (by have:=((Di g).1 h).2.1;omega)
  ·exact no fun h=>g2 ((Di g).1 h).1
theorem rDec_ok {neg:Bool} {l:B8} {ex:Int} (hl:l.length<=2000000) {st:St} {K:Bool->St->Prop} (hk:K (decide (D2 neg l ex)) st):CallT PR Dt [.agg [.bool neg,.str l,.int .i64 ex]] [.one .bool] st K:=by
 have no:¬D2 neg l ex->K false st:=fun h=>by rw[decide_eq_false h]at hk;exact hk
 refine Jw _ _ _ st K (Aa (fun g=>?_) fun g=>?_)
 ·subst g
  cases neg
  ·exact B1 (by rw[Bool.eq_iff_iff];simp[KW]) hk
  ·exact B1 (by rw[Bool.eq_iff_iff];simp[KW]) hk
 ·refine Aa (fun g3=>WO hl (Aa (fun g2=>Q7 hl (Aa (fun g4=>Aa (fun g5=>?_) fun g5=>?_) fun g4=>?_)) fun g2=>?_)) fun g3=>?_
  ·exact B1 (decide_eq_decide.2 (by rw[Di g];exact⟨fun h=>⟨g2,by omega,by omega,g5,h⟩,fun h=>h.2.2.2.2⟩)) hk
  ·exact no fun h=>g5 ((Di g).1 h).2.2.2.1
  ·exact no fun h=>g4 (by have:=((Di g).1 h).2.2.1;omega)
  ·exact no fun h=>g2 ((Di g).1 h).1
  ·exact no fun h=>g3 (by have:=((Di g).1 h).2.1;omega)
theorem Mc {k d n z:Int} {st:St} {K:Bool->St->Prop} (hk:K (decide (CX k d n z)) st):CallT PR Db [.agg [.int .i64 k,.int .i64 d,.int .i64 n,.int .i64 z]] [.one .bool] st K:=by
 refine Om _ _ _ _ st K ?_
 repeat' first
  | exact B1 (Eq.symm (decide_eq_false (by unfold CX;omega))) hk
  | exact B1 (Eq.symm (decide_eq_true (by unfold CX;omega))) hk
  | exact B1 (decide_eq_decide.2 (by unfold CX;omega)) hk
  | refine Aa (fun _=>?_) fun _=>?_
theorem ZX {k:Int} {st:St} {K:Bool->St->Prop} (hk:K (decide (k=1∨k=3∨k=4)) st):CallT PR Dq [.int .i64 k] [.one .bool] st K:=by
 refine Jp _ st K ?_
 repeat' first
  | exact B1 (Eq.symm (decide_eq_true (by omega))) hk
  | exact B1 (decide_eq_decide.2 (by omega)) hk
  | refine Aa (fun _=>?_) fun _=>?_
theorem Wb {k:Int} {st:St} {K:Bool->St->Prop} (hk:K (decide (k=2∨k=3∨k=4)) st):CallT PR BM [.int .i64 k] [.one .bool] st K:=by
 refine HN _ st K ?_
 repeat' first
  | exact B1 (Eq.symm (decide_eq_true (by omega))) hk
  | exact B1 (decide_eq_decide.2 (by omega)) hk
  | refine Aa (fun _=>?_) fun _=>?_
theorem TU {k d n z:Int} {st:St} {K:Bool->St->Prop} (hk:K (decide (CX k d n z)) st):CallT PR Ce [.agg [.int .i64 k,.int .i64 d,.int .i64 n,.int .i64 z]] [.one .bool] st K:=by
 refine Jr _ _ _ _ st K ?_
 repeat' first
  | exact B1 (Eq.symm (decide_eq_false (by unfold CX;omega))) hk
  | exact B1 (Eq.symm (decide_eq_true (by unfold CX;omega))) hk
  | exact B1 (decide_eq_decide.2 (by unfold CX;omega)) hk
  | refine Aa (fun _=>?_) fun _=>?_
  | refine ZX ?_
  | refine Wb ?_
theorem orc {c p r:Bool} {K:Bool->Prop} {R1 R2:Prop} (h1:K r->R1) (h2:K r->R2) (hk:K ((c&&p) || r)):BIf c (BIf p (K true) R1) R2:=by
 cases c<;>cases p<;>simp only[Bool.true_and,Bool.false_and,Bool.true_or,Bool.false_or]at hk<;>first | exact h1 hk | exact h2 hk | exact hk
theorem orn {c p r s:Bool} {K:Bool->Prop} {R1 R2:Prop} (hs:s=true) (h1:K r->R1) (h2:K r->R2) (hk:K ((c&&p) || r)):BIf c (need s (BIf p (K true) R1)) R2:=by
 subst hs;exact orc h1 h2 hk
theorem ore {c p s:Bool} {K:Bool->Prop} (hs:s=true) (hk:K (c&&p)):BIf c (need s (K p)) (K false):=by
 subst hs;cases c<;>exact hk
def exB (s:Sc) (l:List Vl) (f:List Fd):Bool:=
 (decide (s.kind≠1)&&s.b) || ((decide (s.kind≠2)&& !((s.neg==false)&&(decide (s.dg=[])&&(decide (s.ex=0)&&true)))) || ((decide (s.kind≠3)&& !(decide (s.tk=0)&&(decide (s.td=0)&&(decide (s.tn=0)&&(decide (s.tz=0)&&true))))) ||
  ((decide (s.kind≠4)&&decide (s.text≠ [])) || ((decide (s.kind≠5)&&decide (0<(s.bytes.length:Int))) || ((decide (s.kind≠6)&&decide (0<(l.length:Int))) || (decide (s.kind≠7)&&decide (0<(f.length:Int))))))))
theorem Zo {α:Type} {l:List α}:¬0<(l.length:Int)↔l=[]:=by
 rw[<-List.length_eq_zero_iff];omega
theorem RI {s:Sc} {l:List Vl} {f:List Fd} (h0:0<=s.kind) (h7:s.kind<=7):exB s l f=false↔H8 s l f:=by
 unfold exB
 simp only[Bool.or_eq_false_iff,Bool.and_eq_false_imp,decide_eq_true_eq,Bool.not_eq_false',Bool.and_eq_true,beq_iff_eq,decide_eq_false_iff_not,Zo,ne_eq,Decidable.not_not,and_true]
 constructor
 ·rintro⟨a,b,c,d,e,f,g⟩;exact⟨h0,h7,a,b,c,d,e,f,g⟩
 ·rintro⟨_,_,a,b,c,d,e,f,g⟩;exact⟨a,b,c,d,e,f,g⟩
theorem exB_eq {s:Sc} {l:List Vl} {f:List Fd} (h0:0<=s.kind) (h7:s.kind<=7):exB s l f= !decide (H8 s l f):=by
 cases h:exB s l f with
 | false=>rw[decide_eq_true ((RI h0 h7).1 h)];rfl
 | true=>rw[decide_eq_false fun o=>by rw[(RI h0 h7).2 o]at h;cases h];rfl
theorem ZN {s:Sc} {l:List Vl} {f:List Fd} {ub ul uf:TV} {st:St} {K:Bool->St->Prop} (h1:isSl ub=true) (h2:isSl ul=true) (h3:isSl uf=true) (l1:lenS ub=s.bytes.length) (l2:lenS ul=l.length) (l3:lenS uf=f.length) (hk:K (exB s l f) st):
  CallT PR GC [.agg (A0 s ub ul uf)] [.one .bool] st K:=by
 unfold exB at hk
 refine OU _ _ _ _ _ _ _ _ _ _ _ _ _ st K ?_
 rw[l1,l2,l3]
 revert hk
 repeat' first
  | (refine fun hk=>ore (K:=fun b=>K b st) h3 hk)
  | (refine fun hk=>orn (K:=fun b=>K b st) h1 ?_ ?_ hk)
  | (refine fun hk=>orn (K:=fun b=>K b st) h2 ?_ ?_ hk)
  | (refine fun hk=>orc (K:=fun b=>K b st) ?_ ?_ hk)
theorem oac {c p r:Bool} {K:Bool->Prop} {R1 R2:Prop} (h1:K r->R1) (h2:K r->R2) (hk:K (!(c&&p)&&r)):BIf c (BIf p (K false) R1) R2:=by
 cases c<;>cases p<;>simp only[Bool.true_and,Bool.false_and,Bool.not_true,Bool.not_false]at hk<;>first | exact h1 hk | exact h2 hk | exact hk
theorem oaf {c r:Bool} {K:Bool->Prop} {R:Prop} (h:K r->R) (hk:K (!c&&r)):BIf c (K false) R:=by
 cases c<;>simp only[Bool.true_and,Bool.false_and,Bool.not_true,Bool.not_false]at hk<;>first | exact h hk | exact hk
theorem oab {c p r:Bool} {K:Bool->Prop} {R1 R2:Prop} (h1:K r->R1) (h2:K r->R2) (hk:K ((c || p)&&r)):BIf c R1 (BIf p R2 (K false)):=by
 cases c<;>cases p<;>simp only[Bool.true_and,Bool.false_and,Bool.or_true,Bool.or_false,Bool.true_or,Bool.false_or]at hk<;>first | exact h1 hk | exact h2 hk | exact hk
theorem oan {c p r s:Bool} {K:Bool->Prop} {R1 R2:Prop} (hs:s=true) (h1:K r->R1) (h2:K r->R2) (hk:K ((c || p)&&r)):BIf c R1 (need s (BIf p R2 (K false))):=by
 subst hs;exact oab h1 h2 hk
theorem oae {c p s:Bool} {K:Bool->Prop} (hs:s=true) (hk:K (c || p)):BIf c (K true) (need s (K p)):=by
 subst hs;cases c<;>exact hk
def owB (s:Sc) (l:List Vl) (f:List Fd):Bool:=
 !decide (s.kind<0)&&(!decide (7<s.kind)&&(!(decide (s.kind≠1)&&s.b)&&(!(decide (s.kind≠2)&& !((s.neg==false)&&(decide (s.dg=[])&&(decide (s.ex=0)&&true))))&&(!(decide (s.kind≠3)&& !(decide (s.tk=0)&&(decide (s.td=0)&&(decide (s.tn=0)&&(decide (s.tz=0)&&true)))))&&
  ((decide (s.kind=4) || decide (s.text=[]))&&((decide (s.kind=5) || decide ((s.bytes.length:Int)=0))&&((decide (s.kind=6) || decide ((l.length:Int)=0))&&(decide (s.kind=7) || decide ((f.length:Int)=0)))))))))
theorem NA {α:Type} {l:List α}:(l.length:Int)=0↔l=[]:=by
 rw[<-List.length_eq_zero_iff];omega
theorem Y7 {s:Sc} {l:List Vl} {f:List Fd}:owB s l f=true↔H8 s l f:=by
 unfold owB
 simp only[Bool.and_eq_true,Bool.not_eq_true',Bool.or_eq_true,Bool.and_eq_false_imp,decide_eq_true_eq,Bool.not_eq_false',beq_iff_eq,decide_eq_false_iff_not,NA,ne_eq,and_true,Int.not_lt]
 constructor
 ·rintro⟨h0,h7,a,b,c,d,e,f,g⟩
  exact⟨h0,h7,a,b,c,fun h=>d.resolve_left h,fun h=>e.resolve_left h,fun h=>f.resolve_left h,fun h=>g.resolve_left h⟩
 ·rintro⟨h0,h7,a,b,c,d,e,f,g⟩
  exact⟨h0,h7,a,b,c,Decidable.or_iff_not_imp_left.2 d,Decidable.or_iff_not_imp_left.2 e,Decidable.or_iff_not_imp_left.2 f,Decidable.or_iff_not_imp_left.2 g⟩
theorem owB_eq {s:Sc} {l:List Vl} {f:List Fd}:owB s l f=decide (H8 s l f):=by
 rw[Bool.eq_iff_iff,decide_eq_true_eq];exact Y7
theorem own_ok {s:Sc} {l:List Vl} {f:List Fd} {ub ul uf:TV} {st:St} {K:Bool->St->Prop} (h1:isSl ub=true) (h2:isSl ul=true) (h3:isSl uf=true) (l1:lenS ub=s.bytes.length) (l2:lenS ul=l.length) (l3:lenS uf=f.length) (hk:K (decide (H8 s l f)) st):
  CallT PR D5 [.agg (A0 s ub ul uf)] [.one .bool] st K:=by
 rw[<-owB_eq]at hk
 unfold owB at hk
 refine K2 _ _ _ _ _ _ _ _ _ _ _ _ _ st K ?_
 rw[l1,l2,l3]
 revert hk
 repeat' first
  | (refine fun hk=>oae (K:=fun b=>K b st) h3 hk)
  | (refine fun hk=>oan (K:=fun b=>K b st) h1 ?_ ?_ hk)
  | (refine fun hk=>oan (K:=fun b=>K b st) h2 ?_ ?_ hk)
  | (refine fun hk=>oab (K:=fun b=>K b st) ?_ ?_ hk)
  | (refine fun hk=>oac (K:=fun b=>K b st) ?_ ?_ hk)
  | (refine fun hk=>oaf (K:=fun b=>K b st) ?_ hk)
theorem key_ok {s:B8} (hl:s.length<=2000000) {st:St} {K:Int->St->Prop} (hk:K ((if U8 s then(if 1024<s.length then 10 else 0)else 5:Nat):Int) st):CallT PR IG [.str s] [.one (.int .i64)] st K:=by
 refine R0 _ st K (MZ hl (Aj (fun g=>?_) fun g=>?_))
 ·have hu:¬U8 s:=by unfold U8;simpa using g
  rw[if_neg hu]at hk;exact hk
 ·have hu:U8 s:=by unfold U8;simpa using g
  rw[if_pos hu]at hk
  refine Aa (fun g2=>?_) fun g2=>?_
  ·have h3:1024<s.length:=by omega
   rw[if_pos h3]at hk;exact hk
  ·have h3:¬1024<s.length:=by omega
   rw[if_neg h3]at hk;exact hk
theorem IO (k k':B8) (v:TV):∀es:List (B8×TV),BQ k (Kc k' v es)=if k=k' then some v else BQ k es
 | []=>by
  simp only[Kc,BQ]
  by_cases h:k=k'<;>simp[h]
 | (k1,v1)::es=>by
  simp only[Kc]
  by_cases h1:k'=k1
  ·simp only[h1,decide_true,BQ]
   by_cases h:k=k1<;>simp[h]
  ·simp only[h1,decide_false,BQ,IO k k' v es]
   by_cases h:k=k1
   ·simp[h,Ne.symm h1]
   ·simp[h]
def MapN (es:List (B8×TV)) (ns:List B8):Prop:=∀t,BQ t es=if t∈ns then some (.bool true)else none
theorem MapN.add {es:List (B8×TV)} {ns:List B8} (h:MapN es ns) (t:B8):MapN (Kc t (.bool true) es) (t::ns):=by
 intro k
 rw[IO]
 by_cases hk:k=t
 ·simp[hk]
 ·rw[if_neg hk,h k];simp[hk]
theorem ID (seen:List B8) (d:Fd) (r:List Fd):Ef seen (d::r)=if U8 d.key then(if 1024<d.key.length then 10 else if d.key∈seen then 8 else Ef (d.key::seen) r)else 5:=rfl
theorem N9:∀(f:List Fd) (s s':List B8),(∀x,x∈s↔x∈s')->Ef s f=Ef s' f
 | [],s,s',_=>rfl
 | d::r,s,s',h=>by
  rw[ID,ID,N9 r (d.key::s) (d.key::s') (fun x=>by simp[h x])]
  by_cases hd:d.key∈s
  ·rw[if_pos hd,if_pos ((h _).1 hd)]
  ·rw[if_neg hd,if_neg fun g=>hd ((h _).2 g)]
theorem GI {α:Type} {l:List α} {k:Nat} {x:α} (h:l[k]? =some x):l.drop k=x::l.drop (k+1):=by
 obtain⟨q1,q2⟩:=List.getElem?_eq_some_iff.1 h
 rw[List.drop_eq_getElem_cons q1,q2]
theorem WT {f:List Fd} {d:Fd} (h:d∈f):d.key.length<=BV f:=by
 have:=Uv h
 cases d;unfold Fd.sz at this;simp only[Fd.key];omega
theorem keys_ok {st0 st:St} {uf:TV} {xf:List TV} {f:List Fd} (hke:BB st0 st) (h4:SlR st0 14 uf f.length xf) (h5:FsR st0 f xf) (hN:BV f<=2000000) {K:Int->St->Prop} (hk:∀st',Al st st'->K (Ef [] f:Nat) st'):
  CallT PR Hq [uf] [.one (.int .i64)] st K:=by
 have hfl:=CD f
 refine Qs _ st K (Ab h4.isSl ⟨fun i m u n st'=> .map st.nb=m/\uf=u/\(f.length:Int)=n/\∃(k:Nat) (ns:List B8) (es:List (B8×TV)),i=k/\k<=f.length/\Al st st'/\st.nb<st'.nb/\st'.box st.nb= .map es/\MapN es ns/\Ef [] f=Ef ns (f.drop k),fun i _ _ _ _=>(f.length-i).toNat,
  ⟨rfl,rfl,by rw[h4.lenS],0,[],[],rfl,Nat.zero_le _,(Al.refl st).push _ _,by simp[St.push],by simp[St.push],fun t=>by simp[BQ],rfl⟩,?_⟩)
 rintro _ _ _ _ st1 ⟨rfl,rfl,rfl,k,ns,es,rfl,hkf,e1,hb,hm,hns,hE⟩
 refine Aa (fun g=>?_) fun g=>?_
 ·refine Ya (hke.trans e1.keeps) h4 h5 rfl (by omega) fun key s' l' f' ub1 ul1 uf1 gw hw on=>Ab on ?_
  have hmem:=AP gw
  have hkl:=WT hmem
  rw[GI gw,ID]at hE
  change Ef [] f=if U8 key then(if 1024<key.length then 10 else if key∈ns then 8 else Ef (key::ns) (f.drop (k+1)))else 5 at hE
  change key.length<=_ at hkl
  refine key_ok (by omega) ?_
  by_cases g1:U8 key
  case neg=>
   rw[if_neg g1]at hE⊢
   refine Aa (fun _=>?_) fun h=>absurd (by decide) h
   rw[<-hE];exact hk st1 e1
  rw[if_pos g1]at hE⊢
  by_cases g2:1024<key.length
  ·rw[if_pos g2]at hE⊢
   refine Aa (fun _=>?_) fun h=>absurd (by decide) h
   rw[<-hE];exact hk st1 e1
  rw[if_neg g2]at hE⊢
  refine Aa (fun h=>absurd rfl h) fun _=>Ac (x:=es) (by simp only[EI,hm]) ?_
  rw[hns key]
  by_cases g3:key∈ns
  ·rw[if_pos g3]at hE⊢
   refine Ap (Aj (fun _=>?_) fun h=>by cases h)
   have:=hk st1 e1
   rw[hE]at this;exact this
  ·rw[if_neg g3]at hE⊢
   refine Ap (Aj (fun h=>by cases h) fun _=>⟨es,hm,?_⟩)
   rw[Af _ (by omega) (by omega)]
   exact⟨⟨rfl,rfl,rfl,k+1,key::ns,_,by omega,by omega,StX.ext e1 (StX.put (S:=fun i=>i=st.nb) rfl _) (fun i hi=>by rw[hi];exact Nat.le_refl _),hb,by simp[St.put],hns.add key,hE⟩,by dsimp only;omega⟩
 ·have:k=f.length:=by omega
  subst this
  rw[List.drop_length]at hE
  have:=hk st1 e1
  rw[hE]at this;exact this
theorem Keys_ok {st0 st:St} {uf:TV} {xf:List TV} {f:List Fd} (hke:BB st0 st) (h4:SlR st0 14 uf f.length xf) (h5:FsR st0 f xf) (hN:BV f<=2000000) {K:Int->St->Prop} (hk:∀st',Al st st'->K (Ef [] f:Nat) st'):
  CallT PR BG [uf] [.one (.int .i64)] st K:=by
 have hfl:=CD f
 refine JZ _ st K ⟨fun i u st'=>uf=u/\∃k:Nat,i=k/\k<=f.length/\Al st st'/\Ef [] f=Ef ((f.take k).map Fd.key) (f.drop k),fun i _ _=>(f.length-i).toNat,⟨rfl,0,rfl,Nat.zero_le _,Al.refl _,rfl⟩,?_⟩
 rintro _ _ st1 ⟨rfl,k,rfl,hkf,e1,hE⟩
 refine Ab h4.isSl (Aa (fun g=>?_) fun g=>?_)
 ·rw[h4.lenS]at g
  have gd:f[k]? =some f[k]:=List.getElem?_eq_getElem (by omega)
  generalize f[k]=d at gd
  have hkl:=WT (AP gd)
  rw[GI gd,ID]at hE
  refine PU (hke.trans e1.keeps) h4 h5 rfl gd (Nk (by omega) fun st2 e2=>?_)
  have e12:=e1.trans e2
  by_cases g1:U8 d.key
  case neg=>
   rw[if_neg g1]at hE
   refine Aj (fun _=>?_) fun h=>absurd (by unfold U8;simpa using h) g1
   have:=hk st2 e12
   rw[hE]at this;exact this
  rw[if_pos g1]at hE
  refine Aj (fun h=>absurd g1 (by unfold U8;simpa using h)) fun _=>PU (hke.trans e12.keeps) h4 h5 rfl gd ?_
  by_cases g2:1024<d.key.length
  ·rw[if_pos g2]at hE
   refine Aa (fun _=>?_) fun h=>absurd (by omega) h
   have:=hk st2 e12
   rw[hE]at this;exact this
  rw[if_neg g2]at hE
  refine Aa (fun h=>absurd (by omega) g2) fun _=>?_
  refine⟨fun i u j st'=>uf=u/\j=(k:Int)/\st2=st'/\∃q:Nat,i=q/\q<=k/\∀(j:Nat) (x:Fd),j<q->f[j]? =some x->x.key≠d.key,fun i _ _ _=>(k-i).toNat,⟨rfl,rfl,rfl,0,rfl,Nat.zero_le _,fun j x hj=>absurd hj (Nat.not_lt_zero _)⟩,?_⟩
  rintro _ _ _ _ ⟨rfl,rfl,rfl,q,rfl,hq,hne⟩
  refine Aa (fun g3=>?_) fun g3=>?_
  ·have gx:f[q]? =some f[q]:=List.getElem?_eq_getElem (by omega)
   generalize f[q]=x at gx
   refine PU (hke.trans e12.keeps) h4 h5 rfl gx (PU (hke.trans e12.keeps) h4 h5 rfl gd (Aa (fun g4=>?_) fun g4=>?_))
   ·rw[if_pos]at hE
    ·have:=hk st2 e12
     rw[hE]at this;exact this
    ·rw[<-g4]
     refine List.mem_map_of_mem ?_
     have:(f.take k)[q]? =some x:=by rw[List.getElem?_take,if_pos (by omega)];exact gx
     exact AP this
   ·rw[Af _ (by omega) (by omega)]
    refine⟨⟨rfl,rfl,rfl,q+1,by omega,by omega,fun j y hj hy=>?_⟩,by dsimp only;omega⟩
    by_cases hjq:j=q
    ·subst hjq
     rw[gx]at hy
     rw[<-Option.some.inj hy];exact g4
    ·exact hne j y (by omega) hy
  ·have hqk:q=k:=by omega
   subst hqk
   rw[if_neg]at hE
   ·rw[Af _ (by omega) (by omega)]
    refine⟨⟨rfl,q+1,by omega,by omega,e12,?_⟩,by dsimp only;omega⟩
    rw[hE]
    refine N9 _ _ _ fun x=>?_
    rw[Na gd]
    simp[or_comm]
   ·intro hm
    obtain⟨x,hx,he⟩:=List.mem_map.1 hm
    obtain⟨j,hj⟩:=List.getElem?_of_mem hx
    rw[List.getElem?_take]at hj
    split at hj
    ·rename_i hlt
     exact hne j x hlt hj he
    ·cases hj
 ·rw[h4.lenS]at g
  have:k=f.length:=by omega
  subst this
  rw[List.drop_length]at hE
  have:=hk st1 e1
  rw[hE]at this;exact this
end Go.TVF
