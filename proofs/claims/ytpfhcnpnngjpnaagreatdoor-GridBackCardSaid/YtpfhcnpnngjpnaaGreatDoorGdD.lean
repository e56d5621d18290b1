/- What the laws below rest on: a framework for Go programs, and contracts of the functions that they reach. -/
import Derived.Test.YtpfhcnpnngjpnaaGreatDoorGdC
set_option maxRecDepth 20000
set_option linter.unusedVariables false
set_option linter.unusedSimpArgs false
namespace Go.TVF
open Go.IntKind(i64 u8)
open Go Go.Proofs
theorem NV (a_0:Int) (a_1:Bool) (a_2:Bool) (a_3:B8) (a_4:Int) (a_5:Int) (a_6:Int) (a_7:Int) (a_8:Int) (a_9:B8) (a_10:TV) (a_11:TV) (a_12:TV) (b_0:Int) (b_1:Bool) (b_2:Bool) (b_3:B8) (b_4:Int) (b_5:Int) (b_6:Int) (b_7:Int) (b_8:Int) (b_9:B8) (b_10:TV) (b_11:TV) (b_12:TV) (exact:Bool) (left:Int) (st:St) (K:Bool->St->Prop) (h:BId (a_0≠b_0) (K false ((st.push (.cells [.bool exact]) (some 4)).push (.cells [.int .i64 left]) (some 3))) (BIf (!(a_1==b_1)) (K false ((st.push (.cells [.bool exact]) (some 4)).push (.cells [.int .i64 left]) (some 3))) (BIf (!((a_2==b_2)&&(decide (a_3=b_3)&&(decide (a_4=b_4)&&true)))) (K false ((st.push (.cells [.bool exact]) (some 4)).push (.cells [.int .i64 left]) (some 3))) (BIf (!(decide (a_5=b_5)&&(decide (a_6=b_6)&&(decide (a_7=b_7)&&(decide (a_8=b_8)&&true))))) (K false ((st.push (.cells [.bool exact]) (some 4)).push (.cells [.int .i64 left]) (some 3))) (BId (a_9≠b_9) (K false ((st.push (.cells [.bool exact]) (some 4)).push (.cells [.int .i64 left]) (some 3))) (CallT PR Bs [a_10,b_10] [.one .bool] ((st.push (.cells [.bool exact]) (some 4)).push (.cells [.int .i64 left]) (some 3)) (fun (b1:Bool) a=>BIf (!b1) (K false a) (Ae (Ac a [] (.t (.box (st.push (.cells [.bool exact]) (some 4)).nb 0)) 0) (fun (x1:TV)=>Af (.int .i64) x1 (fun (n1:Int)=>BId (n1<1) (K false a) (Ae (Ac a [] (.t (.box st.nb 0)) 0) (fun (x2:TV)=>Af .bool x2 (fun (b2:Bool)=>BIf (!b2) (CallT PR Cd [(.agg (cV a_0 a_1 a_2 a_3 a_4 a_5 a_6 a_7 a_8 a_9 a_10 a_11 a_12))] [.one .tv] a (fun (v1:TV) j=>CallT PR Cd [(.agg (cV b_0 b_1 b_2 b_3 b_4 b_5 b_6 b_7 b_8 b_9 b_10 b_11 b_12))] [.one .tv] j (fun (v2:TV) b=>stB (b.push (.cells [.nilFunc]) (some 69)) (.box b.nb 0) [(.func BI [(.box st.nb 0),(.box (st.push (.cells [.bool exact]) (some 4)).nb 0)])] (fun c=>Ae (Ac c [] (.t (.box b.nb 0)) 0) (fun (v3:TV)=>CallT PR Au [a_11,b_11,v3] [.one .bool] c (fun (b3:Bool) e=>BIf b3 (CallT PR Av [v1,v2,(.func Dj [(.box b.nb 0)])] [.one .bool] e (fun (b4:Bool) g=>K b4 g)) (K false e))))))) (stB (a.push (.cells [.nilFunc]) (some 69)) (.box a.nb 0) [(.func BI [(.box st.nb 0),(.box (st.push (.cells [.bool exact]) (some 4)).nb 0)])] (fun f=>Ae (Ac f [] (.t (.box a.nb 0)) 0) (fun (v4:TV)=>CallT PR Au [a_11,b_11,v4] [.one .bool] f (fun (b5:Bool) d=>BIf b5 (CallT PR Av [a_12,b_12,(.func Dj [(.box a.nb 0)])] [.one .bool] d (fun (b6:Bool) i=>K b6 i)) (K false d)))))))))))))))))):CallT PR Ed [(.agg (cV a_0 a_1 a_2 a_3 a_4 a_5 a_6 a_7 a_8 a_9 a_10 a_11 a_12)),(.agg (cV b_0 b_1 b_2 b_3 b_4 b_5 b_6 b_7 b_8 b_9 b_10 b_11 b_12)),.bool exact,.int .i64 left] [.one .bool] st K:=
 Ag (cfg:=⟨[4,5],[],[]⟩) (h:= .none) mixed (fun _ _=>Tryz.call117 _ _) Tryz.func117 (by kernel_rfl) (by kernel_rfl) h
theorem CR (b:Nat) (st:St) (K:B8->St->Prop) (h:Ae (Ac st [] (.t (.box b 1)) 0) (fun (v1:TV)=>Ae (MP v1) (fun (v2:TV)=>Ae (Ac st [] (.t (.box b 1)) 0) (fun (v3:TV)=>need (isSl v3) (usK 5 v2 (lenS v3:Int) st (fun (s1:B8) a=>K s1 a)))))):CallT PR BF [(.box b 0)] [.one .str] st K:=
 Ag (cfg:=⟨[],[],[]⟩) (h:= .none) mixed (fun _ _=>Tryz.call123 _ _) Tryz.func123 (by kernel_rfl) (by kernel_rfl) h
theorem Mn (v_0:Int) (e:Bool) (d:Bool) (v_3:B8) (v_4:Int) (v_5:Int) (v_6:Int) (v_7:Int) (v_8:Int) (v_9:B8) (v_10:TV) (v_11:TV) (v_12:TV) (depth:Int) (n:Nat) (st:St) (K:Int->St->Prop) (h:Ae (Ac st [] (.t (.box n 0)) 0) (fun (x1:TV)=>Af (.int .i64) x1 (fun (n1:Int)=>stB st (.box n 0) [(.int .i64 (i64.wrap (n1+(1:Int))))] (fun m=>∃(C1:Int->TV->V13 (St->Prop)),(BId ((48:Int)<depth) (K 9 m) (Ae (Ac m [] (.t (.box n 0)) 0) (fun (x2:TV)=>Af (.int .i64) x2 (fun (n2:Int)=>BId ((65536:Int)<n2) (K 10 m) (∃(C2:Bool->Int->TV->V13 (St->Prop)),(BId (v_0<0) (C2 true depth ((.box n 0)) v_0 e d v_3 v_4 v_5 v_6 v_7 v_8 v_9 v_10 v_11 v_12 m) (BId ((8:Int)<=v_0) (C2 true depth ((.box n 0)) v_0 e d v_3 v_4 v_5 v_6 v_7 v_8 v_9 v_10 v_11 v_12 m) (CallT PR Fm [(.agg (cV v_0 e d v_3 v_4 v_5 v_6 v_7 v_8 v_9 v_10 v_11 v_12))] [.one .bool] m (fun (b1:Bool) h0=>C2 b1 depth ((.box n 0)) v_0 e d v_3 v_4 v_5 v_6 v_7 v_8 v_9 v_10 v_11 v_12 h0))))/\∀f6 a q n3 b2 b3 s1 n4 n5 n6 n7 n8 s2 v1 v2 v3 v,C2 f6 a q n3 b2 b3 s1 n4 n5 n6 n7 n8 s2 v1 v2 v3 v->(BIf f6 (K 6 v) (∃(C3:Bool->Int->TV->V13 (St->Prop)),(BId (n3=2) (CallT PR CN [(.agg [.bool b3,.str s1,.int .i64 n4])] [.one .bool] v (fun (b4:Bool) b0=>BIf (!b4) (C3 true a q n3 b2 b3 s1 n4 n5 n6 n7 n8 s2 v1 v2 v3 b0) (BId (n3=3) (CallT PR Ce [(.agg [.int .i64 n5,.int .i64 n6,.int .i64 n7,.int .i64 n8])] [.one .bool] b0 (fun (b5:Bool) g9=>C3 ((!b5)) a q n3 b2 b3 s1 n4 n5 n6 n7 n8 s2 v1 v2 v3 g9)) (C3 false a q n3 b2 b3 s1 n4 n5 n6 n7 n8 s2 v1 v2 v3 b0)))) (BId (n3=3) (CallT PR Ce [(.agg [.int .i64 n5,.int .i64 n6,.int .i64 n7,.int .i64 n8])] [.one .bool] v (fun (b6:Bool) g7=>C3 ((!b6)) a q n3 b2 b3 s1 n4 n5 n6 n7 n8 s2 v1 v2 v3 g7)) (C3 false a q n3 b2 b3 s1 n4 n5 n6 n7 n8 s2 v1 v2 v3 v)))/\∀e6 f c3 n9 b7 b8 s3 c4 c6 c2 c0 c1 s4 v4 v5 v6 o,C3 e6 f c3 n9 b7 b8 s3 c4 c6 c2 c0 c1 s4 v4 v5 v6 o->(BIf e6 (K 2 o) (BId (n9=4) (CallT PR DD [.str s4] [.one .bool] o (fun (b9:Bool) a1=>BIf (!b9) (K 5 a1) (BId ((65536:Int)<(s4.length:Int)) (K 10 a1) (need (isSl v4) (BId ((65536:Int)<(lenS v4:Int)) (K 10 a1) (C1 f c3 n9 b7 b8 s3 c4 c6 c2 c0 c1 s4 v4 v5 v6 a1)))))) (BId ((65536:Int)<(s4.length:Int)) (K 10 o) (need (isSl v4) (BId ((65536:Int)<(lenS v4:Int)) (K 10 o) (C1 f c3 n9 b7 b8 s3 c4 c6 c2 c0 c1 s4 v4 v5 v6 o)))))))))))))/\∀p d9 d7 e4 g6 s5 g1 f2 d0 e2 d4 s6 v7 v8 v9 e8,C1 p d9 d7 e4 g6 s5 g1 f2 d0 e2 d4 s6 v7 v8 v9 e8->(CallT PR F9 [v9] [.one (.int .i64)] e8 (fun (g5:Int) c5=>BId (g5≠0) (K g5 c5) (need (isSl v8) (∃(I1:Int->Int->TV->TV->Int->V13 (St->Prop)) (M1:Int->Int->TV->TV->Int->V13 (St->Nat)),(I1 0 p d9 v8 ((lenS v8:Int)) d7 e4 g6 s5 g1 f2 d0 e2 d4 s6 v7 v8 v9 c5)/\∀i b r e w a0 a9 z s7 a7 a8 a5 a3 a4 s8 a6 a2 j l,I1 i b r e w a0 a9 z s7 a7 a8 a5 a3 a4 s8 a6 a2 j l->(BId (i<w) (((0<=i/\i<(lenZ 13 e:Int))/\Ae ((Ah l [] (.t (ixT 13 e i.toNat)) 0 13).map TV.agg) (fun (x3:TV)=>AK [.int .i64,.bool,.bool,.str,.int .i64,.int .i64,.int .i64,.int .i64,.int .i64,.str,.tv,.tv,.tv] x3 (fun (e1:Int) (d6 g2:Bool) (s9:B8) (e5 f8 g3 c7 d3:Int) (d2:B8) (f0 f3 g4:TV)=>need (List.all (cV e1 d6 g2 s9 e5 f8 g3 c7 d3 d2 f0 f3 g4) At) (CallT PR Cz [(.agg (cV e1 d6 g2 s9 e5 f8 g3 c7 d3 d2 f0 f3 g4)),(.int .i64 (i64.wrap (b+(1:Int)))),r] [.one (.int .i64)] l (fun (e7:Int) y=>BId (e7≠0) (K e7 y) ((I1 ((i64.wrap (i+(1:Int)))) b r e w a0 a9 z s7 a7 a8 a5 a3 a4 s8 a6 a2 j y/\M1 ((i64.wrap (i+(1:Int)))) b r e w a0 a9 z s7 a7 a8 a5 a3 a4 s8 a6 a2 j y<M1 i b r e w a0 a9 z s7 a7 a8 a5 a3 a4 s8 a6 a2 j l)))))))) (need (isSl j) (∃(I2:Int->Int->TV->TV->Int->St->Prop) (M2:Int->Int->TV->TV->Int->St->Nat),(I2 0 b r j ((lenS j:Int)) l)/\∀g c s d u k,I2 g c s d u k->(BId (g<u) (((0<=g/\g<(lenZ 14 d:Int))/\Ae ((Ah k [] (.t (ixT 14 d g.toNat)) 0 14).map TV.agg) (fun (x4:TV)=>AK [.str,.int .i64,.bool,.bool,.str,.int .i64,.int .i64,.int .i64,.int .i64,.int .i64,.str,.tv,.tv,.tv] x4 (fun (g8:B8) (e0:Int) (d8 c8:Bool) (f4:B8) (e9 f5 f9 f1 d1:Int) (c9:B8) (g0 f7 e3:TV)=>need (List.all [.str g8,.int .i64 e0,.bool d8,.bool c8,.str f4,.int .i64 e9,.int .i64 f5,.int .i64 f9,.int .i64 f1,.int .i64 d1,.str c9,g0,f7,e3] At) (CallT PR Cz [(.agg (cV e0 d8 c8 f4 e9 f5 f9 f1 d1 c9 g0 f7 e3)),(.int .i64 (i64.wrap (c+(1:Int)))),s] [.one (.int .i64)] k (fun (d5:Int) x=>BId (d5≠0) (K d5 x) ((I2 ((i64.wrap (g+(1:Int)))) c s d u x/\M2 ((i64.wrap (g+(1:Int)))) c s d u x<M2 g c s d u k)))))))) (K 0 k))))))))))))):CallT PR Cz [(.agg (cV v_0 e d v_3 v_4 v_5 v_6 v_7 v_8 v_9 v_10 v_11 v_12)),.int .i64 depth,(.box n 0)] [.one (.int .i64)] st K:=
 Ag (cfg:=⟨[3,9,12],[],[]⟩) (h:=(.seq .none (.seq .none (.cut ⟨[(1,.int .i64),(2,.tv)],[(3,0,0)],[(0,13)],[(0,0,.int .i64),(0,1,.bool),(0,2,.bool),(0,3,.str),(0,4,.int .i64),(0,5,.int .i64),(0,6,.int .i64),(0,7,.int .i64),(0,8,.int .i64),(0,9,.str),(0,10,.tv),(0,11,.tv),(0,12,.tv)]⟩ (.block (.seq .none (.cond .none (.seq .none (.cond .none (.cut ⟨[(27,.bool),(1,.int .i64),(2,.tv)],[(3,0,0)],[(0,13)],[(0,0,.int .i64),(0,1,.bool),(0,2,.bool),(0,3,.str),(0,4,.int .i64),(0,5,.int .i64),(0,6,.int .i64),(0,7,.int .i64),(0,8,.int .i64),(0,9,.str),(0,10,.tv),(0,11,.tv),(0,12,.tv)]⟩ .none (.cond .none (.cut ⟨[(40,.bool),(1,.int .i64),(2,.tv)],[(3,0,0)],[(0,13)],[(0,0,.int .i64),(0,1,.bool),(0,2,.bool),(0,3,.str),(0,4,.int .i64),(0,5,.int .i64),(0,6,.int .i64),(0,7,.int .i64),(0,8,.int .i64),(0,9,.str),(0,10,.tv),(0,11,.tv),(0,12,.tv)]⟩ .none .none)))))))) (.seq .none (.seq (.seq .none (.block (.loop ⟨[(91,.int .i64),(1,.int .i64),(2,.tv),(89,.tv),(90,.int .i64)],[(3,0,0)],[(0,13)],[(0,0,.int .i64),(0,1,.bool),(0,2,.bool),(0,3,.str),(0,4,.int .i64),(0,5,.int .i64),(0,6,.int .i64),(0,7,.int .i64),(0,8,.int .i64),(0,9,.str),(0,10,.tv),(0,11,.tv),(0,12,.tv)]⟩ .none))) (.seq (.seq .none (.block (.loop ⟨[(107,.int .i64),(1,.int .i64),(2,.tv),(105,.tv),(106,.int .i64)],[],[],[]⟩ .none))) .none))))))) mixed (fun _ _=>Tryz.call124 _ _) Tryz.func124 (by kernel_rfl) (by kernel_rfl) h
theorem IB (s:B8) (atx:Int) (st:St) (K:Int->Int->St->Prop) (h:BId (atx<0) (K 0 0 st) (BId ((s.length:Int)<=atx) (K 0 0 st) (((0<=atx/\atx<(s.length:Int))/\CallT PR H8 [(.int .u8 ((List.getD s atx.toNat 0).toNat:Int))] [.one (.int .i64),.one (.int .i64)] st (fun (n1 n2:Int) g=>BId (n1=0) (K 0 0 g) (BId ((i64.wrap ((s.length:Int)-atx))<n1) (K 0 0 g) (∃(I1:Int->Int->B8->Int->Int->St->Prop) (M1:Int->Int->B8->Int->Int->St->Nat),(I1 n2 1 s atx n1 g)/\∀d b c a e f,I1 d b c a e f->(BId (b<e) (((0<=(i64.wrap (a+b))/\(i64.wrap (a+b))<(c.length:Int))/\BId ((B0 .and .u8 ((List.getD c (Int.toNat (i64.wrap (a+b))) 0).toNat:Int) (192:Int))≠(128:Int)) (K 0 0 f) ((I1 ((B0 .or .i64 (i64.wrap (d*2^(min (Int.toNat (6:Int)) (IntKind.bits .i64)))) (i64.wrap (B0 .and .u8 ((List.getD c (Int.toNat (i64.wrap (a+b))) 0).toNat:Int) (63:Int))))) ((i64.wrap (b+(1:Int)))) c a e f/\M1 ((B0 .or .i64 (i64.wrap (d*2^(min (Int.toNat (6:Int)) (IntKind.bits .i64)))) (i64.wrap (B0 .and .u8 ((List.getD c (Int.toNat (i64.wrap (a+b))) 0).toNat:Int) (63:Int))))) ((i64.wrap (b+(1:Int)))) c a e f<M1 d b c a e f)))) (CallT PR Gc [.int .i64 d] [.one .bool] f (fun (b1:Bool) i=>BIf (!b1) (K 0 0 i) (CallT PR G6 [.int .i64 d] [.one (.int .i64)] i (fun (n3:Int) j=>BId (n3≠e) (K 0 0 j) (K d e j))))))))))))):CallT PR Dd [.str s,.int .i64 atx] [.one (.int .i64),.one (.int .i64)] st K:=
 Ag (cfg:=⟨[],[],[]⟩) (h:=(.seq .none (.seq .none (.seq .none (.seq .none (.seq (.seq .none (.block (.loop ⟨[(4,.int .i64),(7,.int .i64),(0,.str),(1,.int .i64),(6,.int .i64)],[],[],[]⟩ .none))) .none)))))) mixed (fun _ _=>Tryz.call133 _ _) Tryz.func133 (by kernel_rfl) (by kernel_rfl) h
theorem Hl (d_0:Bool) (d_1:B8) (d_2:Int) (st:St) (K:B8->St->Prop) (h:∃(C1:Bool->B8->Int->St->Prop),(BId (d_1=([]:B8)) (K JL st) (CallT PR CN [(.agg [.bool d_0,.str d_1,.int .i64 d_2])] [.one .bool] st (fun (b1:Bool) s=>BIf (!b1) (K JL s) (C1 d_0 d_1 d_2 s))))/\∀b2 s1 n1 n,C1 b2 s1 n1 n->(∃(C2:B8->Bool->B8->Int->St->Prop),(BIf b2 (C2 Ei b2 s1 n1 n) (C2 [] b2 s1 n1 n))/\∀r b3 s2 n2 l,C2 r b3 s2 n2 l->(∃(C3:B8->Int->Int->Bool->B8->Int->St->Prop),(∃(C4:Bool->B8->Int->Int->Bool->B8->Int->St->Prop),(BId ((0:Int)<=n2) (C4 ((decide ((i64.wrap ((s2.length:Int)+n2))<=(21:Int)))) r ((s2.length:Int)) ((i64.wrap ((s2.length:Int)+n2))) b3 s2 n2 l) (C4 false r ((s2.length:Int)) ((i64.wrap ((s2.length:Int)+n2))) b3 s2 n2 l))/\∀t d k e b4 s3 n3 g,C4 t d k e b4 s3 n3 g->(BIf t ((d.length+s3.length<=9223372036854775807/\CallT PR DE [.str JL,.int .i64 n3] [.one .str] g (fun (s4:B8) y=>(((d++s3)).length+s4.length<=9223372036854775807/\K (((d++s3)++s4)) y)))) (∃(C5:Bool->B8->Int->Int->Bool->B8->Int->St->Prop),(BId (n3<0) (BId ((1:Int)<=e) (C5 ((decide (e<=21))) d k e b4 s3 n3 g) (C5 false d k e b4 s3 n3 g)) (C5 false d k e b4 s3 n3 g))/\∀v b q a b5 s5 n4 f,C5 v b q a b5 s5 n4 f->(BIf v (((0<=a/\a<=(s5.length:Int))/\(b.length+((List.take a.toNat s5)).length<=9223372036854775807/\(((b++(List.take a.toNat s5))).length+IC.length<=9223372036854775807/\((0<=a/\a<=(s5.length:Int))/\((((b++(List.take a.toNat s5))++IC)).length+((List.drop a.toNat s5)).length<=9223372036854775807/\K ((((b++(List.take a.toNat s5))++IC)++(List.drop a.toNat s5))) f)))))) (BId ((-5:Int)<=a) (BId (a<=0) ((b.length+Um.length<=9223372036854775807/\CallT PR DE [.str JL,(.int .i64 (i64.wrap (0-a)))] [.one .str] f (fun (s6:B8) z=>(((b++Um)).length+s6.length<=9223372036854775807/\((((b++Um)++s6)).length+s5.length<=9223372036854775807/\K ((((b++Um)++s6)++s5)) z))))) (C3 b q a b5 s5 n4 f)) (C3 b q a b5 s5 n4 f))))))/\∀i u o b6 s7 n5 m,C3 i u o b6 s7 n5 m->(((0<=(1:Int)/\(1:Int)<=(s7.length:Int))/\(i.length+((List.take (Int.toNat (1:Int)) s7)).length<=9223372036854775807/\∃(C6:B8->Int->St->Prop),(BId ((1:Int)<u) (((0<=(1:Int)/\(1:Int)<=(s7.length:Int))/\(IC.length+((List.drop (Int.toNat (1:Int)) s7)).length<=9223372036854775807/\(((i++(List.take (Int.toNat (1:Int)) s7))).length+((IC++(List.drop (Int.toNat (1:Int)) s7))).length<=9223372036854775807/\C6 (((i++(List.take (Int.toNat (1:Int)) s7))++(IC++(List.drop (Int.toNat (1:Int)) s7)))) o m)))) (C6 ((i++(List.take (Int.toNat (1:Int)) s7))) o m))/\∀c j p,C6 c j p->(BId (j<1) ((c.length+Wn.length<=9223372036854775807/\CallT PR CM [(.int .i64 (i64.wrap ((1:Int)-j)))] [.one .str] p (fun (s8:B8) x=>(((c++Wn)).length+s8.length<=9223372036854775807/\K (((c++Wn)++s8)) x)))) ((c.length+Wo.length<=9223372036854775807/\CallT PR CM [(.int .i64 (i64.wrap (j-(1:Int))))] [.one .str] p (fun (s9:B8) w=>(((c++Wo)).length+s9.length<=9223372036854775807/\K (((c++Wo)++s9)) w))))))))))):CallT PR Dl [(.agg [.bool d_0,.str d_1,.int .i64 d_2])] [.one .str] st K:=
 Ag (cfg:=⟨[1],[],[]⟩) (h:=(.seq .none (.cut ⟨[],[(1,0,0)],[(0,3)],[(0,0,.bool),(0,1,.str),(0,2,.int .i64)]⟩ .none (.seq .none (.cut ⟨[(3,.str)],[(1,0,0)],[(0,3)],[(0,0,.bool),(0,1,.str),(0,2,.int .i64)]⟩ .none (.seq .none (.seq .none (.cut ⟨[(3,.str),(4,.int .i64),(5,.int .i64)],[(1,0,0)],[(0,3)],[(0,0,.bool),(0,1,.str),(0,2,.int .i64)]⟩ (.block (.cut ⟨[(23,.bool),(3,.str),(4,.int .i64),(5,.int .i64)],[(1,0,0)],[(0,3)],[(0,0,.bool),(0,1,.str),(0,2,.int .i64)]⟩ .none (.cond .none (.cut ⟨[(39,.bool),(3,.str),(4,.int .i64),(5,.int .i64)],[(1,0,0)],[(0,3)],[(0,0,.bool),(0,1,.str),(0,2,.int .i64)]⟩ .none .none)))) (.seq .none (.cut ⟨[(3,.str),(5,.int .i64)],[],[],[]⟩ .none .none)))))))))) mixed (fun _ _=>Tryz.call143 _ _) Tryz.func143 (by kernel_rfl) (by kernel_rfl) h
theorem Mp (t_0:Int) (t_1:Int) (t_2:Int) (t_3:Int) (st:St) (K:B8->St->Prop) (h:CallT PR Ce [(.agg [.int .i64 t_0,.int .i64 t_1,.int .i64 t_2,.int .i64 t_3])] [.one .bool] st (fun (b1:Bool) a=>BIf (!b1) (K [] a) (BId (t_0=1) (CallT PR Bg [.int .i64 t_1] [.one .str] a (fun (s1:B8) i=>K s1 i)) (BId (t_0=2) (CallT PR A9 [.int .i64 t_2] [.one .str] a (fun (s2:B8) c=>K s2 c)) (BId (t_0=3) (CallT PR Bg [.int .i64 t_1] [.one .str] a (fun (s3:B8) d=>(s3.length+ME.length<=9223372036854775807/\CallT PR A9 [.int .i64 t_2] [.one .str] d (fun (s4:B8) f=>(((s3++ME)).length+s4.length<=9223372036854775807/\K (((s3++ME)++s4)) f))))) (CallT PR Bg [.int .i64 t_1] [.one .str] a (fun (s5:B8) b=>(s5.length+ME.length<=9223372036854775807/\CallT PR A9 [.int .i64 t_2] [.one .str] b (fun (s6:B8) g=>(((s5++ME)).length+s6.length<=9223372036854775807/\CallT PR CB [.int .i64 t_3] [.one .str] g (fun (s7:B8) e=>((((s5++ME)++s6)).length+s7.length<=9223372036854775807/\K ((((s5++ME)++s6)++s7)) e)))))))))))):CallT PR DF [(.agg [.int .i64 t_0,.int .i64 t_1,.int .i64 t_2,.int .i64 t_3])] [.one .str] st K:=
 Ag (cfg:=⟨[1],[],[]⟩) (h:= .none) mixed (fun _ _=>Tryz.call144 _ _) Tryz.func144 (by kernel_rfl) (by kernel_rfl) h
theorem HJ (s:B8) (prefixx:B8) (st:St) (K:Bool->St->Prop) (h:CallT PR Df [.str s,.str prefixx] [.one .bool] st (fun (b1:Bool) a=>K b1 a)):CallT PR AT [.str s,.str prefixx] [.one .bool] st K:=
 Ag (cfg:=⟨[],[],[]⟩) (h:= .none) mixed (fun _ _=>Tryz.call156 _ _) Tryz.func156 (by kernel_rfl) (by kernel_rfl) h
theorem Mv (s:B8) (st:St) (K:Int->St->Prop) (h:∃(I1:Int->B8->St->Prop) (M1:Int->B8->St->Nat),(I1 0 s st)/\∀a b c,I1 a b c->(BId (a<(b.length:Int)) (((0<=a/\a<(b.length:Int))/\BId ((48:Int)<=((List.getD b a.toNat 0).toNat:Int)) (((0<=a/\a<(b.length:Int))/\BId (((List.getD b a.toNat 0).toNat:Int)<=(57:Int)) ((I1 ((i64.wrap (a+(1:Int)))) b c/\M1 ((i64.wrap (a+(1:Int)))) b c<M1 a b c)) (K a c))) (K a c))) (K a c))):CallT PR CD [.str s] [.one (.int .i64)] st K:=
 Ag (cfg:=⟨[],[],[]⟩) (h:=(.seq .none (.seq .none (.seq (.block (.loop ⟨[(3,.int .i64),(0,.str)],[],[],[]⟩ .none)) .none)))) mixed (fun _ _=>Tryz.call157 _ _) Tryz.func157 (by kernel_rfl) (by kernel_rfl) h
theorem Ku (exp:Int) (less:Bool) (byx:B8) (st:St) (K:Int->St->Prop) (h:BId ((byx.length:Int)<=(12:Int)) (CallT PR EA [.str byx] [.one (.int .i64),.one (.int .i64)] st (fun (n1 n2:Int) a=>BIf less (K ((i64.wrap (exp-n1))) a) (K ((i64.wrap (exp+n1))) a))) (BIf less (K ((i64.wrap (exp-(1099511627776:Int)))) st) (K ((i64.wrap (exp+(1099511627776:Int)))) st))):CallT PR D8 [.int .i64 exp,.bool less,.str byx] [.one (.int .i64)] st K:=
 Ag (cfg:=⟨[],[],[]⟩) (h:= .none) mixed (fun _ _=>Tryz.call158 _ _) Tryz.func158 (by kernel_rfl) (by kernel_rfl) h
theorem LW (neg:Bool) (s:B8) (exp:Int) (st:St) (K:Bool->B8->Int->Int->St->Prop) (h:∃(I1:Int->Bool->B8->Int->Int->Bool->B8->Int->St->Prop) (M1:Int->Bool->B8->Int->Int->Bool->B8->Int->St->Nat),(I1 0 neg s exp ((s.length:Int)) false [] 0 st)/\∀a c b d f b1 s1 n1 e,I1 a c b d f b1 s1 n1 e->(BId (a<f) (((0<=a/\a<(b.length:Int))/\BId (((List.getD b a.toNat 0).toNat:Int)<(48:Int)) (K false [] 0 3 e) (((0<=a/\a<(b.length:Int))/\BId ((57:Int)<((List.getD b a.toNat 0).toNat:Int)) (K false [] 0 3 e) ((I1 ((i64.wrap (a+(1:Int)))) c b d f b1 s1 n1 e/\M1 ((i64.wrap (a+(1:Int)))) c b d f b1 s1 n1 e<M1 a c b d f b1 s1 n1 e)))))) (CallT PR CY [.str b,.str JL] [.one .str] e (fun (s2:B8) i=>CallT PR ED [.bool c,.str s2,.int .i64 d] [.agg [.bool,.str,.int .i64],.one (.int .i64)] i (fun (b2:Bool) (s3:B8) (n2 n3:Int) g=>K b2 s3 n2 n3 g))))):CallT PR Cg [.bool neg,.str s,.int .i64 exp] [.agg [.bool,.str,.int .i64],.one (.int .i64)] st K:=
 Ag (cfg:=⟨[6],[],[]⟩) (h:=(.seq .none (.seq (.seq .none (.block (.loop ⟨[(11,.int .i64),(0,.bool),(1,.str),(2,.int .i64),(10,.int .i64)],[(6,0,0)],[(0,3)],[(0,0,.bool),(0,1,.str),(0,2,.int .i64)]⟩ .none))) .none))) mixed (fun _ _=>Tryz.call160 _ _) Tryz.func160 (by kernel_rfl) (by kernel_rfl) h
theorem Hs (r:Nat) (f:Nat) (st:St) (K:Int->St->Prop) (h:Ae (Ac st [] (.t (.box r 0)) 0) (fun (x1:TV)=>Af .str x1 (fun (s1:B8)=>BId ((2:Int)<(s1.length:Int)) (Ae (Ac st [] (.t (.box r 0)) 0) (fun (x2:TV)=>Af .str x2 (fun (s2:B8)=>((0<=(2:Int)/\(2:Int)<(s2.length:Int))/\BId (((List.getD s2 (Int.toNat (2:Int)) 0).toNat:Int)=(58:Int)) (CallT PR A6 [(.box r 0),(.box f 0)] [] st (fun (g:St)=>K 2 g)) (CallT PR BD [(.box r 0),(.box f 0)] [] st (fun (d:St)=>Ae (Ac d [] (.t (.box r 0)) 0) (fun (x3:TV)=>Af .str x3 (fun (s3:B8)=>BId (s3=([]:B8)) (K 1 d) (CallT PR AB [(.box r 0),.str str25] [.one (.int .u8)] d (fun (n1:Int) e=>CallT PR A6 [(.box r 0),(.box f 0)] [] e (fun (b:St)=>Ae (Ac b [] (.t (.box r 0)) 0) (fun (x4:TV)=>Af .str x4 (fun (s4:B8)=>BId (s4=([]:B8)) (K 3 b) (CallT PR Bp [(.box r 0),(.box f 0)] [] b (fun (j:St)=>K 4 j))))))))))))))) (CallT PR BD [(.box r 0),(.box f 0)] [] st (fun (a:St)=>Ae (Ac a [] (.t (.box r 0)) 0) (fun (x5:TV)=>Af .str x5 (fun (s5:B8)=>BId (s5=([]:B8)) (K 1 a) (CallT PR AB [(.box r 0),.str str25] [.one (.int .u8)] a (fun (n2:Int) k=>CallT PR A6 [(.box r 0),(.box f 0)] [] k (fun (c:St)=>Ae (Ac c [] (.t (.box r 0)) 0) (fun (x6:TV)=>Af .str x6 (fun (s6:B8)=>BId (s6=([]:B8)) (K 3 c) (CallT PR Bp [(.box r 0),(.box f 0)] [] c (fun (i:St)=>K 4 i)))))))))))))):CallT PR Cm [(.box r 0),(.box f 0)] [.one (.int .i64)] st K:=
 Ag (cfg:=⟨[],[],[]⟩) (h:= .none) mixed (fun _ _=>Tryz.call161 _ _) Tryz.func161 (by kernel_rfl) (by kernel_rfl) h
theorem LX (year:Int) (month:Int) (day:Int) (st:St) (K:Int->Int->St->Prop) (h:BId (day<1) (K 0 2 st) (CallT PR AQ [.int .i64 year,.int .i64 month] [.one (.int .i64)] st (fun (n1:Int) f=>BId (n1<day) (K 0 2 f) (CallT PR Bq [.int .i64 year] [.one (.int .i64)] f (fun (n2:Int) i=>∃(I1:Int->Int->Int->Int->St->Prop) (M1:Int->Int->Int->Int->St->Nat),(I1 ((i64.wrap ((i64.wrap (n2+day))-(1:Int)))) 1 year month i)/\∀d c b a e,I1 d c b a e->(BId (c<a) (CallT PR AQ [.int .i64 b,.int .i64 c] [.one (.int .i64)] e (fun (n3:Int) g=>(I1 ((i64.wrap (d+n3))) ((i64.wrap (c+(1:Int)))) b a g/\M1 ((i64.wrap (d+n3))) ((i64.wrap (c+(1:Int)))) b a g<M1 d c b a e))) (K d 0 e))))))):CallT PR EE [.int .i64 year,.int .i64 month,.int .i64 day] [.one (.int .i64),.one (.int .i64)] st K:=
 Ag (cfg:=⟨[],[],[]⟩) (h:=(.seq .none (.seq .none (.seq .none (.seq (.seq .none (.block (.loop ⟨[(8,.int .i64),(9,.int .i64),(0,.int .i64),(1,.int .i64)],[],[],[]⟩ .none))) .none))))) mixed (fun _ _=>Tryz.call162 _ _) Tryz.func162 (by kernel_rfl) (by kernel_rfl) h
theorem Px (s:B8) (st:St) (K:Bool->St->Prop) (h:CallT PR Jn [.str s] [.one (.int .i64),.one (.int .i64)] st (fun (n1 n2:Int) a=>K ((decide (n2=0))) a)):CallT PR DD [.str s] [.one .bool] st K:=
 Ag (cfg:=⟨[],[],[]⟩) (h:= .none) mixed (fun _ _=>Tryz.call179 _ _) Tryz.func179 (by kernel_rfl) (by kernel_rfl) h
theorem Ev (s:TV) (sq:TV) (st:St) (K:Bool->St->Prop) (h:need (isSl s) (need (isSl sq) (BId ((lenS s:Int)≠(lenS sq:Int)) (K false st) (need (isSl s) (∃(I1:Int->TV->TV->Int->St->Prop) (M1:Int->TV->TV->Int->St->Nat),(I1 0 s sq ((lenS s:Int)) st)/\∀a c d e b,I1 a c d e b->(BId (a<e) (((0<=a/\a<(lenZ 1 c:Int))/\Ae (Ac b [] (.t (ixT 1 c a.toNat)) 0) (fun (x1:TV)=>Af (.int .u8) x1 (fun (n1:Int)=>((0<=a/\a<(lenZ 1 d:Int))/\Ae (Ac b [] (.t (ixT 1 d a.toNat)) 0) (fun (x2:TV)=>Af (.int .u8) x2 (fun (n2:Int)=>BId (n1≠n2) (K false b) ((I1 ((i64.wrap (a+(1:Int)))) c d e b/\M1 ((i64.wrap (a+(1:Int)))) c d e b<M1 a c d e b))))))))) (K true b))))))):CallT PR Bs [s,sq] [.one .bool] st K:=
 Ag (cfg:=⟨[],[],[]⟩) (h:=(.seq .none (.seq .none (.seq (.seq .none (.block (.loop ⟨[(13,.int .i64),(0,.tv),(1,.tv),(12,.int .i64)],[],[],[]⟩ .none))) .none)))) mixed (fun _ _=>Tryz.call185 _ _) Tryz.func185 (by kernel_rfl) (by kernel_rfl) h
theorem LL (v_0:Int) (v_1:Bool) (v_2:Bool) (v_3:B8) (v_4:Int) (v_5:Int) (v_6:Int) (v_7:Int) (v_8:Int) (v_9:B8) (v_10:TV) (v_11:TV) (v_12:TV) (st:St) (K:TV->St->Prop) (h:CallT PR Bl [v_12] [.one .tv] st (fun (v1:TV) a=>CallT PR AA [v1,(.func Cq [])] [] a (fun (b:St)=>K v1 b))):CallT PR Cd [(.agg (cV v_0 v_1 v_2 v_3 v_4 v_5 v_6 v_7 v_8 v_9 v_10 v_11 v_12))] [.one .tv] st K:=
 Ag (cfg:=⟨[1],[],[]⟩) (h:= .none) mixed (fun _ _=>Tryz.call186 _ _) Tryz.func186 (by kernel_rfl) (by kernel_rfl) h
theorem LN (x_0:Int) (x_1:Bool) (x_2:Bool) (x_3:B8) (x_4:Int) (x_5:Int) (x_6:Int) (x_7:Int) (x_8:Int) (x_9:B8) (x_10:TV) (x_11:TV) (x_12:TV) (y_0:Int) (y_1:Bool) (y_2:Bool) (y_3:B8) (y_4:Int) (y_5:Int) (y_6:Int) (y_7:Int) (y_8:Int) (y_9:B8) (y_10:TV) (y_11:TV) (y_12:TV) (free0:TV) (free1:TV) (st:St) (K:Bool->St->Prop) (h:Ae (Ac st [] (.t free0) 0) (fun (x1:TV)=>Af .bool x1 (fun (b1:Bool)=>Ae (Ac st [] (.t free1) 0) (fun (x2:TV)=>Af (.int .i64) x2 (fun (n1:Int)=>CallT PR Ed [(.agg (cV x_0 x_1 x_2 x_3 x_4 x_5 x_6 x_7 x_8 x_9 x_10 x_11 x_12)),(.agg (cV y_0 y_1 y_2 y_3 y_4 y_5 y_6 y_7 y_8 y_9 y_10 y_11 y_12)),.bool b1,(.int .i64 (i64.wrap (n1-(1:Int))))] [.one .bool] st (fun (b2:Bool) a=>K b2 a)))))):CallT PR BI [(.agg (cV x_0 x_1 x_2 x_3 x_4 x_5 x_6 x_7 x_8 x_9 x_10 x_11 x_12)),(.agg (cV y_0 y_1 y_2 y_3 y_4 y_5 y_6 y_7 y_8 y_9 y_10 y_11 y_12)),free0,free1] [.one .bool] st K:=
 Ag (cfg:=⟨[4,5],[],[]⟩) (h:= .none) mixed (fun _ _=>Tryz.call187 _ _) Tryz.func187 (by kernel_rfl) (by kernel_rfl) h
theorem A3 (s:TV) (sq:TV) (eq:TV) (st:St) (K:Bool->St->Prop) (h:need (isSl s) (need (isSl sq) (BId ((lenS s:Int)≠(lenS sq:Int)) (K false st) (need (isSl s) (∃(I1:Int->TV->TV->TV->Int->St->Prop) (M1:Int->TV->TV->TV->Int->St->Nat),(I1 0 sq eq s ((lenS s:Int)) st)/\∀a c b e f d,I1 a c b e f d->(BId (a<f) (((0<=a/\a<(lenZ 13 e:Int))/\Ae ((Ah d [] (.t (ixT 13 e a.toNat)) 0 13).map TV.agg) (fun (x1:TV)=>AK [.int .i64,.bool,.bool,.str,.int .i64,.int .i64,.int .i64,.int .i64,.int .i64,.str,.tv,.tv,.tv] x1 (fun (n1:Int) (b1 b2:Bool) (s1:B8) (n2 n3 n4 n5 n6:Int) (s2:B8) (v1 v2 v3:TV)=>need (List.all (cV n1 b1 b2 s1 n2 n3 n4 n5 n6 s2 v1 v2 v3) At) (((0<=a/\a<(lenZ 13 c:Int))/\Ae ((Ah d [] (.t (ixT 13 c a.toNat)) 0 13).map TV.agg) (fun (x2:TV)=>AK [.int .i64,.bool,.bool,.str,.int .i64,.int .i64,.int .i64,.int .i64,.int .i64,.str,.tv,.tv,.tv] x2 (fun (n7:Int) (b3 b4:Bool) (s3:B8) (n8 n9 j i k:Int) (s4:B8) (v4 v5 v6:TV)=>need (List.all (cV n7 b3 b4 s3 n8 n9 j i k s4 v4 v5 v6) At) (FR PR b [(.agg (cV n1 b1 b2 s1 n2 n3 n4 n5 n6 s2 v1 v2 v3)),(.agg (cV n7 b3 b4 s3 n8 n9 j i k s4 v4 v5 v6))] [.one .bool] d (fun (b5:Bool) g=>BIf (!b5) (K false g) ((I1 ((i64.wrap (a+(1:Int)))) c b e f g/\M1 ((i64.wrap (a+(1:Int)))) c b e f g<M1 a c b e f d)))))))))))) (K true d))))))):CallT PR Au [s,sq,eq] [.one .bool] st K:=
 Ag (cfg:=⟨[8,9],[],[]⟩) (h:=(.seq .none (.seq .none (.seq (.seq .none (.block (.loop ⟨[(17,.int .i64),(1,.tv),(2,.tv),(15,.tv),(16,.int .i64)],[],[],[]⟩ .none))) .none)))) mixed (fun _ _=>Tryz.call188 _ _) Tryz.func188 (by kernel_rfl) (by kernel_rfl) h
theorem A4 (s:TV) (sq:TV) (eq:TV) (st:St) (K:Bool->St->Prop) (h:need (isSl s) (need (isSl sq) (BId ((lenS s:Int)≠(lenS sq:Int)) (K false st) (need (isSl s) (∃(I1:Int->TV->TV->TV->Int->St->Prop) (M1:Int->TV->TV->TV->Int->St->Nat),(I1 0 sq eq s ((lenS s:Int)) st)/\∀a c b e f d,I1 a c b e f d->(BId (a<f) (((0<=a/\a<(lenZ 14 e:Int))/\Ae ((Ah d [] (.t (ixT 14 e a.toNat)) 0 14).map TV.agg) (fun (x1:TV)=>AK [.str,.int .i64,.bool,.bool,.str,.int .i64,.int .i64,.int .i64,.int .i64,.int .i64,.str,.tv,.tv,.tv] x1 (fun (s1:B8) (n1:Int) (b1 b2:Bool) (s2:B8) (n2 n3 n4 n5 n6:Int) (s3:B8) (v1 v2 v3:TV)=>need (List.all [.str s1,.int .i64 n1,.bool b1,.bool b2,.str s2,.int .i64 n2,.int .i64 n3,.int .i64 n4,.int .i64 n5,.int .i64 n6,.str s3,v1,v2,v3] At) (((0<=a/\a<(lenZ 14 c:Int))/\Ae ((Ah d [] (.t (ixT 14 c a.toNat)) 0 14).map TV.agg) (fun (x2:TV)=>AK [.str,.int .i64,.bool,.bool,.str,.int .i64,.int .i64,.int .i64,.int .i64,.int .i64,.str,.tv,.tv,.tv] x2 (fun (s4:B8) (n7:Int) (b3 b4:Bool) (s5:B8) (n8 n9 j i k:Int) (s6:B8) (v4 v5 v6:TV)=>need (List.all [.str s4,.int .i64 n7,.bool b3,.bool b4,.str s5,.int .i64 n8,.int .i64 n9,.int .i64 j,.int .i64 i,.int .i64 k,.str s6,v4,v5,v6] At) (FR PR b [(.agg [.str s1,.int .i64 n1,.bool b1,.bool b2,.str s2,.int .i64 n2,.int .i64 n3,.int .i64 n4,.int .i64 n5,.int .i64 n6,.str s3,v1,v2,v3]),(.agg [.str s4,.int .i64 n7,.bool b3,.bool b4,.str s5,.int .i64 n8,.int .i64 n9,.int .i64 j,.int .i64 i,.int .i64 k,.str s6,v4,v5,v6])] [.one .bool] d (fun (b5:Bool) g=>BIf (!b5) (K false g) ((I1 ((i64.wrap (a+(1:Int)))) c b e f g/\M1 ((i64.wrap (a+(1:Int)))) c b e f g<M1 a c b e f d)))))))))))) (K true d))))))):CallT PR Av [s,sq,eq] [.one .bool] st K:=
 Ag (cfg:=⟨[8,9],[],[]⟩) (h:=(.seq .none (.seq .none (.seq (.seq .none (.block (.loop ⟨[(17,.int .i64),(1,.tv),(2,.tv),(15,.tv),(16,.int .i64)],[],[],[]⟩ .none))) .none)))) mixed (fun _ _=>Tryz.call189 _ _) Tryz.func189 (by kernel_rfl) (by kernel_rfl) h
theorem LM (x_0:B8) (x_1:Int) (x_2:Bool) (x_3:Bool) (x_4:B8) (x_5:Int) (x_6:Int) (x_7:Int) (x_8:Int) (x_9:Int) (x_10:B8) (x_11:TV) (x_12:TV) (x_13:TV) (y_0:B8) (y_1:Int) (y_2:Bool) (y_3:Bool) (y_4:B8) (y_5:Int) (y_6:Int) (y_7:Int) (y_8:Int) (y_9:Int) (y_10:B8) (y_11:TV) (y_12:TV) (y_13:TV) (free0:TV) (st:St) (K:Bool->St->Prop) (h:BId (x_0=y_0) (Ae (Ac st [] (.t free0) 0) (fun (v1:TV)=>FR PR v1 [(.agg (cV x_1 x_2 x_3 x_4 x_5 x_6 x_7 x_8 x_9 x_10 x_11 x_12 x_13)),(.agg (cV y_1 y_2 y_3 y_4 y_5 y_6 y_7 y_8 y_9 y_10 y_11 y_12 y_13))] [.one .bool] st (fun (b1:Bool) a=>K b1 a))) (K false st)):CallT PR Dj [(.agg [.str x_0,.int .i64 x_1,.bool x_2,.bool x_3,.str x_4,.int .i64 x_5,.int .i64 x_6,.int .i64 x_7,.int .i64 x_8,.int .i64 x_9,.str x_10,x_11,x_12,x_13]),(.agg [.str y_0,.int .i64 y_1,.bool y_2,.bool y_3,.str y_4,.int .i64 y_5,.int .i64 y_6,.int .i64 y_7,.int .i64 y_8,.int .i64 y_9,.str y_10,y_11,y_12,y_13]),free0] [.one .bool] st K:=
 Ag (cfg:=⟨[3,4],[],[]⟩) (h:= .none) mixed (fun _ _=>Tryz.call190 _ _) Tryz.func190 (by kernel_rfl) (by kernel_rfl) h
theorem DX (b:Nat) (s:B8) (st:St) (K:Int->TV->St->Prop) (h:CallT PR Br [(.box b 0)] [] st (fun (a:St)=>Ae (Ac a [] (.t (.box b 1)) 0) (fun (v1:TV)=>Ae (EG a 1 (.str s)) (fun (q1:Nat×List TV)=>need (List.all q1.2 At) (BM 5 1 1 v1 q1.1 q1.2 a (fun (v2:TV) d=>need (List.all [v2] At) (stB d (.box b 1) [v2] (fun c=>K ((s.length:Int)) .nilIface c)))))))):CallT PR AP [(.box b 0),.str s] [.one (.int .i64),.one .tv] st K:=
 Ag (cfg:=⟨[],[],[]⟩) (h:= .none) mixed (fun _ _=>Tryz.call196 _ _) Tryz.func196 (by kernel_rfl) (by kernel_rfl) h
theorem Mm (v_0:Int) (v_1:Bool) (v_2:Bool) (v_3:B8) (v_4:Int) (v_5:Int) (v_6:Int) (v_7:Int) (v_8:Int) (v_9:B8) (v_10:TV) (v_11:TV) (v_12:TV) (st:St) (K:Bool->St->Prop) (h:BId (v_0≠1) (BIf v_1 (K true st) (BId (v_0≠2) (BIf (!((v_2==false)&&(decide (v_3=([]:B8))&&(decide (v_4=(0:Int))&&true)))) (K true st) (BId (v_0≠3) (BIf (!(decide (v_5=(0:Int))&&(decide (v_6=(0:Int))&&(decide (v_7=(0:Int))&&(decide (v_8=(0:Int))&&true))))) (K true st) (BId (v_0≠4) (BId (v_9≠([]:B8)) (K true st) (BId (v_0≠5) (need (isSl v_10) (BId ((0:Int)<(lenS v_10:Int)) (K true st) (BId (v_0≠6) (need (isSl v_11) (BId ((0:Int)<(lenS v_11:Int)) (K true st) (BId (v_0≠7) (need (isSl v_12) (K ((decide ((0:Int)<(lenS v_12:Int)))) st)) (K false st)))) (BId (v_0≠7) (need (isSl v_12) (K ((decide ((0:Int)<(lenS v_12:Int)))) st)) (K false st))))) (BId (v_0≠6) (need (isSl v_11) (BId ((0:Int)<(lenS v_11:Int)) (K true st) (BId (v_0≠7) (need (isSl v_12) (K ((decide ((0:Int)<(lenS v_12:Int)))) st)) (K false st)))) (BId (v_0≠7) (need (isSl v_12) (K ((decide ((0:Int)<(lenS v_12:Int)))) st)) (K false st))))) (BId (v_0≠5) (need (isSl v_10) (BId ((0:Int)<(lenS v_10:Int)) (K true st) (BId (v_0≠6) (need (isSl v_11) (BId ((0:Int)<(lenS v_11:Int)) (K true st) (BId (v_0≠7) (need (isSl v_12) (K ((decide ((0:Int)<(lenS v_12:Int)))) st)) (K false st)))) (BId (v_0≠7) (need (isSl v_12) (K ((decide ((0:Int)<(lenS v_12:Int)))) st)) (K false st))))) (BId (v_0≠6) (need (isSl v_11) (BId ((0:Int)<(lenS v_11:Int)) (K true st) (BId (v_0≠7) (need (isSl v_12) (K ((decide ((0:Int)<(lenS v_12:Int)))) st)) (K false st)))) (BId (v_0≠7) (need (isSl v_12) (K ((decide ((0:Int)<(lenS v_12:Int)))) st)) (K false st)))))) (BId (v_0≠4) (BId (v_9≠([]:B8)) (K true st) (BId (v_0≠5) (need (isSl v_10) (BId ((0:Int)<(lenS v_10:Int)) (K true st) (BId (v_0≠6) (need (isSl v_11) (BId ((0:Int)<(lenS v_11:Int)) (K true st) (BId (v_0≠7) (need (isSl v_12) (K ((decide ((0:Int)<(lenS v_12:Int)))) st)) (K false st)))) (BId (v_0≠7) (need (isSl v_12) (K ((decide ((0:Int)<(lenS v_12:Int)))) st)) (K false st))))) (BId (v_0≠6) (need (isSl v_11) (BId ((0:Int)<(lenS v_11:Int)) (K true st) (BId (v_0≠7) (need (isSl v_12) (K ((decide ((0:Int)<(lenS v_12:Int)))) st)) (K false st)))) (BId (v_0≠7) (need (isSl v_12) (K ((decide ((0:Int)<(lenS v_12:Int)))) st)) (K false st))))) (BId (v_0≠5) (need (isSl v_10) (BId ((0:Int)<(lenS v_10:Int)) (K true st) (BId (v_0≠6) (need (isSl v_11) (BId ((0:Int)<(lenS v_11:Int)) (K true st) (BId (v_0≠7) (need (isSl v_12) (K ((decide ((0:Int)<(lenS v_12:Int)))) st)) (K false st)))) (BId (v_0≠7) (need (isSl v_12) (K ((decide ((0:Int)<(lenS v_12:Int)))) st)) (K false st))))) (BId (v_0≠6) (need (isSl v_11) (BId ((0:Int)<(lenS v_11:Int)) (K true st) (BId (v_0≠7) (need (isSl v_12) (K ((decide ((0:Int)<(lenS v_12:Int)))) st)) (K false st)))) (BId (v_0≠7) (need (isSl v_12) (K ((decide ((0:Int)<(lenS v_12:Int)))) st)) (K false st))))))) (BId (v_0≠3) (BIf (!(decide (v_5=(0:Int))&&(decide (v_6=(0:Int))&&(decide (v_7=(0:Int))&&(decide (v_8=(0:Int))&&true))))) (K true st) (BId (v_0≠4) (BId (v_9≠([]:B8)) (K true st) (BId (v_0≠5) (need (isSl v_10) (BId ((0:Int)<(lenS v_10:Int)) (K true st) (BId (v_0≠6) (need (isSl v_11) (BId ((0:Int)<(lenS v_11:Int)) (K true st) (BId (v_0≠7) (need (isSl v_12) (K ((decide ((0:Int)<(lenS v_12:Int)))) st)) (K false st)))) (BId (v_0≠7) (need (isSl v_12) (K ((decide ((0:Int)<(lenS v_12:Int)))) st)) (K false st))))) (BId (v_0≠6) (need (isSl v_11) (BId ((0:Int)<(lenS v_11:Int)) (K true st) (BId (v_0≠7) (need (isSl v_12) (K ((decide ((0:Int)<(lenS v_12:Int)))) st)) (K false st)))) (BId (v_0≠7) (need (isSl v_12) (K ((decide ((0:Int)<(lenS v_12:Int)))) st)) (K false st))))) (BId (v_0≠5) (need (isSl v_10) (BId ((0:Int)<(lenS v_10:Int)) (K true st) (BId (v_0≠6) (need (isSl v_11) (BId ((0:Int)<(lenS v_11:Int)) (K true st) (BId (v_0≠7) (need (isSl v_12) (K ((decide ((0:Int)<(lenS v_12:Int)))) st)) (K false st)))) (BId (v_0≠7) (need (isSl v_12) (K ((decide ((0:Int)<(lenS v_12:Int)))) st)) (K false st))))) (BId (v_0≠6) (need (isSl v_11) (BId ((0:Int)<(lenS v_11:Int)) (K true st) (BId (v_0≠7) (need (isSl v_12) (K ((decide ((0:Int)<(lenS v_12:Int)))) st)) (K false st)))) (BId (v_0≠7) (need (isSl v_12) (K ((decide ((0:Int)<(lenS v_12:Int)))) st)) (K false st)))))) (BId (v_0≠4) (BId (v_9≠([]:B8)) (K true st) (BId (v_0≠5) (need (isSl v_10) (BId ((0:Int)<(lenS v_10:Int)) (K true st) (BId (v_0≠6) (need (isSl v_11) (BId ((0:Int)<(lenS v_11:Int)) (K true st) (BId (v_0≠7) (need (isSl v_12) (K ((decide ((0:Int)<(lenS v_12:Int)))) st)) (K false st)))) (BId (v_0≠7) (need (isSl v_12) (K ((decide ((0:Int)<(lenS v_12:Int)))) st)) (K false st))))) (BId (v_0≠6) (need (isSl v_11) (BId ((0:Int)<(lenS v_11:Int)) (K true st) (BId (v_0≠7) (need (isSl v_12) (K ((decide ((0:Int)<(lenS v_12:Int)))) st)) (K false st)))) (BId (v_0≠7) (need (isSl v_12) (K ((decide ((0:Int)<(lenS v_12:Int)))) st)) (K false st))))) (BId (v_0≠5) (need (isSl v_10) (BId ((0:Int)<(lenS v_10:Int)) (K true st) (BId (v_0≠6) (need (isSl v_11) (BId ((0:Int)<(lenS v_11:Int)) (K true st) (BId (v_0≠7) (need (isSl v_12) (K ((decide ((0:Int)<(lenS v_12:Int)))) st)) (K false st)))) (BId (v_0≠7) (need (isSl v_12) (K ((decide ((0:Int)<(lenS v_12:Int)))) st)) (K false st))))) (BId (v_0≠6) (need (isSl v_11) (BId ((0:Int)<(lenS v_11:Int)) (K true st) (BId (v_0≠7) (need (isSl v_12) (K ((decide ((0:Int)<(lenS v_12:Int)))) st)) (K false st)))) (BId (v_0≠7) (need (isSl v_12) (K ((decide ((0:Int)<(lenS v_12:Int)))) st)) (K false st)))))))) (BId (v_0≠2) (BIf (!((v_2==false)&&(decide (v_3=([]:B8))&&(decide (v_4=(0:Int))&&true)))) (K true st) (BId (v_0≠3) (BIf (!(decide (v_5=(0:Int))&&(decide (v_6=(0:Int))&&(decide (v_7=(0:Int))&&(decide (v_8=(0:Int))&&true))))) (K true st) (BId (v_0≠4) (BId (v_9≠([]:B8)) (K true st) (BId (v_0≠5) (need (isSl v_10) (BId ((0:Int)<(lenS v_10:Int)) (K true st) (BId (v_0≠6) (need (isSl v_11) (BId ((0:Int)<(lenS v_11:Int)) (K true st) (BId (v_0≠7) (need (isSl v_12) (K ((decide ((0:Int)<(lenS v_12:Int)))) st)) (K false st)))) (BId (v_0≠7) (need (isSl v_12) (K ((decide ((0:Int)<(lenS v_12:Int)))) st)) (K false st))))) (BId (v_0≠6) (need (isSl v_11) (BId ((0:Int)<(lenS v_11:Int)) (K true st) (BId (v_0≠7) (need (isSl v_12) (K ((decide ((0:Int)<(lenS v_12:Int)))) st)) (K false st)))) (BId (v_0≠7) (need (isSl v_12) (K ((decide ((0:Int)<(lenS v_12:Int)))) st)) (K false st))))) (BId (v_0≠5) (need (isSl v_10) (BId ((0:Int)<(lenS v_10:Int)) (K true st) (BId (v_0≠6) (need (isSl v_11) (BId ((0:Int)<(lenS v_11:Int)) (K true st) (BId (v_0≠7) (need (isSl v_12) (K ((decide ((0:Int)<(lenS v_12:Int)))) st)) (K false st)))) (BId (v_0≠7) (need (isSl v_12) (K ((decide ((0:Int)<(lenS v_12:Int)))) st)) (K false st))))) (BId (v_0≠6) (need (isSl v_11) (BId ((0:Int)<(lenS v_11:Int)) (K true st) (BId (v_0≠7) (need (isSl v_12) (K ((decide ((0:Int)<(lenS v_12:Int)))) st)) (K false st)))) (BId (v_0≠7) (need (isSl v_12) (K ((decide ((0:Int)<(lenS v_12:Int)))) st)) (K false st)))))) (BId (v_0≠4) (BId (v_9≠([]:B8)) (K true st) (BId (v_0≠5) (need (isSl v_10) (BId ((0:Int)<(lenS v_10:Int)) (K true st) (BId (v_0≠6) (need (isSl v_11) (BId ((0:Int)<(lenS v_11:Int)) (K true st) (BId (v_0≠7) (need (isSl v_12) (K ((decide ((0:Int)<(lenS v_12:Int)))) st)) (K false st)))) (BId (v_0≠7) (need (isSl v_12) (K ((decide ((0:Int)<(lenS v_12:Int)))) st)) (K false st))))) (BId (v_0≠6) (need (isSl v_11) (BId ((0:Int)<(lenS v_11:Int)) (K true st) (BId (v_0≠7) (need (isSl v_12) (K ((decide ((0:Int)<(lenS v_12:Int)))) st)) (K false st)))) (BId (v_0≠7) (need (isSl v_12) (K ((decide ((0:Int)<(lenS v_12:Int)))) st)) (K false st))))) (BId (v_0≠5) (need (isSl v_10) (BId ((0:Int)<(lenS v_10:Int)) (K true st) (BId (v_0≠6) (need (isSl v_11) (BId ((0:Int)<(lenS v_11:Int)) (K true st) (BId (v_0≠7) (need (isSl v_12) (K ((decide ((0:Int)<(lenS v_12:Int)))) st)) (K false st)))) (BId (v_0≠7) (need (isSl v_12) (K ((decide ((0:Int)<(lenS v_12:Int)))) st)) (K false st))))) (BId (v_0≠6) (need (isSl v_11) (BId ((0:Int)<(lenS v_11:Int)) (K true st) (BId (v_0≠7) (need (isSl v_12) (K ((decide ((0:Int)<(lenS v_12:Int)))) st)) (K false st)))) (BId (v_0≠7) (need (isSl v_12) (K ((decide ((0:Int)<(lenS v_12:Int)))) st)) (K false st))))))) (BId (v_0≠3) (BIf (!(decide (v_5=(0:Int))&&(decide (v_6=(0:Int))&&(decide (v_7=(0:Int))&&(decide (v_8=(0:Int))&&true))))) (K true st) (BId (v_0≠4) (BId (v_9≠([]:B8)) (K true st) (BId (v_0≠5) (need (isSl v_10) (BId ((0:Int)<(lenS v_10:Int)) (K true st) (BId (v_0≠6) (need (isSl v_11) (BId ((0:Int)<(lenS v_11:Int)) (K true st) (BId (v_0≠7) (need (isSl v_12) (K ((decide ((0:Int)<(lenS v_12:Int)))) st)) (K false st)))) (BId (v_0≠7) (need (isSl v_12) (K ((decide ((0:Int)<(lenS v_12:Int)))) st)) (K false st))))) (BId (v_0≠6) (need (isSl v_11) (BId ((0:Int)<(lenS v_11:Int)) (K true st) (BId (v_0≠7) (need (isSl v_12) (K ((decide ((0:Int)<(lenS v_12:Int)))) st)) (K false st)))) (BId (v_0≠7) (need (isSl v_12) (K ((decide ((0:Int)<(lenS v_12:Int)))) st)) (K false st))))) (BId (v_0≠5) (need (isSl v_10) (BId ((0:Int)<(lenS v_10:Int)) (K true st) (BId (v_0≠6) (need (isSl v_11) (BId ((0:Int)<(lenS v_11:Int)) (K true st) (BId (v_0≠7) (need (isSl v_12) (K ((decide ((0:Int)<(lenS v_12:Int)))) st)) (K false st)))) (BId (v_0≠7) (need (isSl v_12) (K ((decide ((0:Int)<(lenS v_12:Int)))) st)) (K false st))))) (BId (v_0≠6) (need (isSl v_11) (BId ((0:Int)<(lenS v_11:Int)) (K true st) (BId (v_0≠7) (need (isSl v_12) (K ((decide ((0:Int)<(lenS v_12:Int)))) st)) (K false st)))) (BId (v_0≠7) (need (isSl v_12) (K ((decide ((0:Int)<(lenS v_12:Int)))) st)) (K false st)))))) (BId (v_0≠4) (BId (v_9≠([]:B8)) (K true st) (BId (v_0≠5) (need (isSl v_10) (BId ((0:Int)<(lenS v_10:Int)) (K true st) (BId (v_0≠6) (need (isSl v_11) (BId ((0:Int)<(lenS v_11:Int)) (K true st) (BId (v_0≠7) (need (isSl v_12) (K ((decide ((0:Int)<(lenS v_12:Int)))) st)) (K false st)))) (BId (v_0≠7) (need (isSl v_12) (K ((decide ((0:Int)<(lenS v_12:Int)))) st)) (K false st))))) (BId (v_0≠6) (need (isSl v_11) (BId ((0:Int)<(lenS v_11:Int)) (K true st) (BId (v_0≠7) (need (isSl v_12) (K ((decide ((0:Int)<(lenS v_12:Int)))) st)) (K false st)))) (BId (v_0≠7) (need (isSl v_12) (K ((decide ((0:Int)<(lenS v_12:Int)))) st)) (K false st))))) (BId (v_0≠5) (need (isSl v_10) (BId ((0:Int)<(lenS v_10:Int)) (K true st) (BId (v_0≠6) (need (isSl v_11) (BId ((0:Int)<(lenS v_11:Int)) (K true st) (BId (v_0≠7) (need (isSl v_12) (K ((decide ((0:Int)<(lenS v_12:Int)))) st)) (K false st)))) (BId (v_0≠7) (need (isSl v_12) (K ((decide ((0:Int)<(lenS v_12:Int)))) st)) (K false st))))) (BId (v_0≠6) (need (isSl v_11) (BId ((0:Int)<(lenS v_11:Int)) (K true st) (BId (v_0≠7) (need (isSl v_12) (K ((decide ((0:Int)<(lenS v_12:Int)))) st)) (K false st)))) (BId (v_0≠7) (need (isSl v_12) (K ((decide ((0:Int)<(lenS v_12:Int)))) st)) (K false st)))))))):CallT PR Fm [(.agg (cV v_0 v_1 v_2 v_3 v_4 v_5 v_6 v_7 v_8 v_9 v_10 v_11 v_12))] [.one .bool] st K:=
 Ag (cfg:=⟨[1],[],[]⟩) (h:= .none) mixed (fun _ _=>Tryz.call197 _ _) Tryz.func197 (by kernel_rfl) (by kernel_rfl) h
theorem Kv (d_0:Bool) (d_1:B8) (d_2:Int) (st:St) (K:Bool->St->Prop) (h:BId (d_1=([]:B8)) (K (((d_0==false)&&(decide (d_1=([]:B8))&&(decide (d_2=(0:Int))&&true)))) st) (CallT PR Dk [.str d_1] [.one .bool] st (fun (b1:Bool) a=>BIf b1 (BId ((d_1.length:Int)<=(120:Int)) (CallT PR Ez [.str d_1] [.one (.int .i64)] a (fun (n1:Int) b=>BId (n1=0) (BId ((-400:Int)<=d_2) (K ((decide (d_2<=400))) b) (K false b)) (K false b))) (K false a)) (K false a)))):CallT PR CN [(.agg [.bool d_0,.str d_1,.int .i64 d_2])] [.one .bool] st K:=
 Ag (cfg:=⟨[1],[],[]⟩) (h:= .none) mixed (fun _ _=>Tryz.call198 _ _) Tryz.func198 (by kernel_rfl) (by kernel_rfl) h
theorem LO (t_0:Int) (t_1:Int) (t_2:Int) (t_3:Int) (st:St) (K:Bool->St->Prop) (h:BId (t_0<1) (K false st) (BId ((4:Int)<t_0) (K false st) (BId (t_1<0) (K false st) (BId ((3652058:Int)<t_1) (K false st) (BId (t_2<0) (K false st) (BId ((86399999999999:Int)<t_2) (K false st) (BId (t_3<(-1439:Int)) (K false st) (BId ((1439:Int)<t_3) (K false st) (BId (t_0=2) (BId (t_1=0) (K ((decide (t_3=0))) st) (K false st)) (BId (t_0=1) (BId (t_2=0) (K ((decide (t_3=0))) st) (K false st)) (BId (t_0=3) (K ((decide (t_3=0))) st) (K true st)))))))))))):CallT PR Ce [(.agg [.int .i64 t_0,.int .i64 t_1,.int .i64 t_2,.int .i64 t_3])] [.one .bool] st K:=
 Ag (cfg:=⟨[1],[],[]⟩) (h:= .none) mixed (fun _ _=>Tryz.call199 _ _) Tryz.func199 (by kernel_rfl) (by kernel_rfl) h
theorem NW (l:TV) (st:St) (K:Int->St->Prop) (h:need (isSl l) (∃(I1:Int->TV->TV->Int->St->Prop) (M1:Int->TV->TV->Int->St->Nat),(I1 0 ((.map st.nb)) l ((lenS l:Int)) (st.push (.map []) none))/\∀b a c d e,I1 b a c d e->(BId (b<d) (((0<=b/\b<(lenZ 14 c:Int))/\Ae ((Ah e [] (.t (ixT 14 c b.toNat)) 0 14).map TV.agg) (fun (x1:TV)=>AK [.str,.int .i64,.bool,.bool,.str,.int .i64,.int .i64,.int .i64,.int .i64,.int .i64,.str,.tv,.tv,.tv] x1 (fun (s1:B8) (n1:Int) (b1 b2:Bool) (s2:B8) (n2 n3 n4 n5 n6:Int) (s3:B8) (v1 v2 v3:TV)=>need (List.all [.str s1,.int .i64 n1,.bool b1,.bool b2,.str s2,.int .i64 n2,.int .i64 n3,.int .i64 n4,.int .i64 n5,.int .i64 n6,.str s3,v1,v2,v3] At) (CallT PR G5 [.str s1] [.one (.int .i64)] e (fun (n7:Int) f=>BId (n7≠0) (K n7 f) (Ae (H4 f a) (fun (es1:List (B8×TV))=>Af .bool (KU (.bool false) (CE s1 es1)) (fun (b3:Bool)=>BIf b3 (K 8 f) (muK a s1 (.bool true) f (fun g=>(I1 ((i64.wrap (b+(1:Int)))) a c d g/\M1 ((i64.wrap (b+(1:Int)))) a c d g<M1 b a c d e)))))))))))) (K 0 e)))):CallT PR F9 [l] [.one (.int .i64)] st K:=
 Ag (cfg:=⟨[5],[],[]⟩) (h:=(.seq .none (.seq .none (.seq (.seq .none (.block (.loop ⟨[(10,.int .i64),(3,.tv),(8,.tv),(9,.int .i64)],[],[],[]⟩ .none))) .none)))) mixed (fun _ _=>Tryz.call200 _ _) Tryz.func200 (by kernel_rfl) (by kernel_rfl) h
theorem QR (b:Int) (st:St) (K:Int->Int->St->Prop) (h:BId (b<128) (K 1 ((i64.wrap b)) st) (BId ((192:Int)<=b) (BId (b<224) (K 2 ((i64.wrap (B0 .and .u8 b (31:Int)))) st) (BId ((224:Int)<=b) (BId (b<240) (K 3 ((i64.wrap (B0 .and .u8 b (15:Int)))) st) (BId ((240:Int)<=b) (BId (b<248) (K 4 ((i64.wrap (B0 .and .u8 b (7:Int)))) st) (K 0 0 st)) (K 0 0 st))) (BId ((240:Int)<=b) (BId (b<248) (K 4 ((i64.wrap (B0 .and .u8 b (7:Int)))) st) (K 0 0 st)) (K 0 0 st)))) (BId ((224:Int)<=b) (BId (b<240) (K 3 ((i64.wrap (B0 .and .u8 b (15:Int)))) st) (BId ((240:Int)<=b) (BId (b<248) (K 4 ((i64.wrap (B0 .and .u8 b (7:Int)))) st) (K 0 0 st)) (K 0 0 st))) (BId ((240:Int)<=b) (BId (b<248) (K 4 ((i64.wrap (B0 .and .u8 b (7:Int)))) st) (K 0 0 st)) (K 0 0 st))))):CallT PR H8 [.int .u8 b] [.one (.int .i64),.one (.int .i64)] st K:=
 Ag (cfg:=⟨[],[],[]⟩) (h:= .none) mixed (fun _ _=>Tryz.call210 _ _) Tryz.func210 (by kernel_rfl) (by kernel_rfl) h
theorem N1 (r:Int) (st:St) (K:Bool->St->Prop) (h:BId ((0:Int)<=r) (BId (r<=1114111) (BId (r<55296) (K true st) (K ((decide ((57343:Int)<r))) st)) (K false st)) (K false st)):CallT PR Gc [.int .i64 r] [.one .bool] st K:=
 Ag (cfg:=⟨[],[],[]⟩) (h:= .none) mixed (fun _ _=>Tryz.call211 _ _) Tryz.func211 (by kernel_rfl) (by kernel_rfl) h
theorem Pw (r:Int) (st:St) (K:Int->St->Prop) (h:BId (r<128) (K 1 st) (BId (r<2048) (K 2 st) (BId (r<65536) (K 3 st) (K 4 st)))):CallT PR G6 [.int .i64 r] [.one (.int .i64)] st K:=
 Ag (cfg:=⟨[],[],[]⟩) (h:= .none) mixed (fun _ _=>Tryz.call212 _ _) Tryz.func212 (by kernel_rfl) (by kernel_rfl) h
theorem Kt (n:Int) (st:St) (K:B8->St->Prop) (h:BId (n=0) (K JL st) (CallT PR DI [.int .i64 n] [.one .str] st (fun (s1:B8) a=>K s1 a))):CallT PR CM [.int .i64 n] [.one .str] st K:=
 Ag (cfg:=⟨[],[],[]⟩) (h:= .none) mixed (fun _ _=>Tryz.call222 _ _) Tryz.func222 (by kernel_rfl) (by kernel_rfl) h
theorem IY (n:Int) (st:St) (K:B8->St->Prop) (h:CallT PR Ea [.int .i64 n] [.one (.int .i64),.one (.int .i64),.one (.int .i64),.one (.int .i64)] st (fun (n1 n2 n3 n4:Int) b=>CallT PR AG [.int .i64 n1,.int .i64 4] [.one .str] b (fun (s1:B8) d=>(s1.length+Ei.length<=9223372036854775807/\CallT PR AG [.int .i64 n2,.int .i64 2] [.one .str] d (fun (s2:B8) a=>(((s1++Ei)).length+s2.length<=9223372036854775807/\((((s1++Ei)++s2)).length+Ei.length<=9223372036854775807/\CallT PR AG [.int .i64 n3,.int .i64 2] [.one .str] a (fun (s3:B8) c=>(((((s1++Ei)++s2)++Ei)).length+s3.length<=9223372036854775807/\K (((((s1++Ei)++s2)++Ei)++s3)) c))))))))):CallT PR Bg [.int .i64 n] [.one .str] st K:=
 Ag (cfg:=⟨[],[],[]⟩) (h:= .none) mixed (fun _ _=>Tryz.call223 _ _) Tryz.func223 (by kernel_rfl) (by kernel_rfl) h
theorem Iu (nano:Int) (st:St) (K:B8->St->Prop) (h:CallT PR AG [(.int .i64 (i64.wrap (Int.tdiv (i64.wrap (Int.tdiv nano (1000000000:Int))) (3600:Int)))),.int .i64 2] [.one .str] st (fun (s1:B8) e=>(s1.length+CT.length<=9223372036854775807/\CallT PR AG [(.int .i64 (Int.tmod (i64.wrap (Int.tdiv (i64.wrap (Int.tdiv nano (1000000000:Int))) (60:Int))) (60:Int))),.int .i64 2] [.one .str] e (fun (s2:B8) g=>(((s1++CT)).length+s2.length<=9223372036854775807/\((((s1++CT)++s2)).length+CT.length<=9223372036854775807/\CallT PR AG [(.int .i64 (Int.tmod (i64.wrap (Int.tdiv nano (1000000000:Int))) (60:Int))),.int .i64 2] [.one .str] g (fun (s3:B8) d=>(((((s1++CT)++s2)++CT)).length+s3.length<=9223372036854775807/\BId ((Int.tmod nano (1000000000:Int))=(0:Int)) (K (((((s1++CT)++s2)++CT)++s3)) d) (CallT PR AG [(.int .i64 (Int.tmod nano (1000000000:Int))),.int .i64 9] [.one .str] d (fun (s4:B8) f=>∃(I1:B8->B8->St->Prop) (M1:B8->B8->St->Nat),(I1 s4 (((((s1++CT)++s2)++CT)++s3)) f)/\∀a b c,I1 a b c->(((0<=(i64.wrap ((a.length:Int)-(1:Int)))/\(i64.wrap ((a.length:Int)-(1:Int)))<(a.length:Int))/\BId (((List.getD a (Int.toNat (i64.wrap ((a.length:Int)-(1:Int)))) 0).toNat:Int)=(48:Int)) (((0<=(i64.wrap ((a.length:Int)-(1:Int)))/\(i64.wrap ((a.length:Int)-(1:Int)))<=(a.length:Int))/\(I1 ((List.take (Int.toNat (i64.wrap ((a.length:Int)-(1:Int)))) a)) b c/\M1 ((List.take (Int.toNat (i64.wrap ((a.length:Int)-(1:Int)))) a)) b c<M1 a b c))) ((b.length+IC.length<=9223372036854775807/\(((b++IC)).length+a.length<=9223372036854775807/\K (((b++IC)++a)) c))))))))))))))):CallT PR A9 [.int .i64 nano] [.one .str] st K:=
 Ag (cfg:=⟨[],[],[]⟩) (h:=(.seq .none (.seq .none (.seq .none (.seq .none (.seq .none (.seq (.block (.loop ⟨[(6,.str),(5,.str)],[],[],[]⟩ .none)) .none))))))) mixed (fun _ _=>Tryz.call224 _ _) Tryz.func224 (by kernel_rfl) (by kernel_rfl) h
theorem HL (n:Int) (st:St) (K:B8->St->Prop) (h:BId (n=0) (K str24 st) (BId (n<0) (CallT PR AG [(.int .i64 (i64.wrap (Int.tdiv (i64.wrap (0-n)) (60:Int)))),.int .i64 2] [.one .str] st (fun (s1:B8) b=>(Ei.length+s1.length<=9223372036854775807/\(((Ei++s1)).length+CT.length<=9223372036854775807/\CallT PR AG [(.int .i64 (Int.tmod (i64.wrap (0-n)) (60:Int))),.int .i64 2] [.one .str] b (fun (s2:B8) d=>((((Ei++s1)++CT)).length+s2.length<=9223372036854775807/\K ((((Ei++s1)++CT)++s2)) d)))))) (CallT PR AG [(.int .i64 (i64.wrap (Int.tdiv n (60:Int)))),.int .i64 2] [.one .str] st (fun (s3:B8) a=>(Q6.length+s3.length<=9223372036854775807/\(((Q6++s3)).length+CT.length<=9223372036854775807/\CallT PR AG [(.int .i64 (Int.tmod n (60:Int))),.int .i64 2] [.one .str] a (fun (s4:B8) c=>((((Q6++s3)++CT)).length+s4.length<=9223372036854775807/\K ((((Q6++s3)++CT)++s4)) c)))))))):CallT PR CB [.int .i64 n] [.one .str] st K:=
 Ag (cfg:=⟨[],[],[]⟩) (h:= .none) mixed (fun _ _=>Tryz.call225 _ _) Tryz.func225 (by kernel_rfl) (by kernel_rfl) h
theorem FZ (s:B8) (prefixx:B8) (st:St) (K:Bool->St->Prop) (h:BId ((prefixx.length:Int)<=(s.length:Int)) (((0<=(prefixx.length:Int)/\(prefixx.length:Int)<=(s.length:Int))/\K ((decide ((List.take (Int.toNat (prefixx.length:Int)) s)=prefixx))) st)) (K false st)):CallT PR Df [.str s,.str prefixx] [.one .bool] st K:=
 Ag (cfg:=⟨[],[],[]⟩) (h:= .none) mixed (fun _ _=>Tryz.call235 _ _) Tryz.func235 (by kernel_rfl) (by kernel_rfl) h
theorem LS (s:B8) (st:St) (K:Int->Int->St->Prop) (h:CallT PR Dk [.str s] [.one .bool] st (fun (b1:Bool) f=>BIf (!b1) (K 0 3 f) (∃(I1:Int->Int->B8->Int->St->Prop) (M1:Int->Int->B8->Int->St->Nat),(I1 0 0 s ((s.length:Int)) f)/\∀d a b e c,I1 d a b e c->(BId (a<e) (((0<=a/\a<(b.length:Int))/\BId ((i64.wrap (Int.tdiv (i64.wrap ((9223372036854775807:Int)-(i64.wrap (u8.wrap (((List.getD b a.toNat 0).toNat:Int)-(48:Int)))))) (10:Int)))<d) (K 0 2 c) ((I1 ((i64.wrap ((i64.wrap (d*(10:Int)))+(i64.wrap (u8.wrap (((List.getD b a.toNat 0).toNat:Int)-(48:Int))))))) ((i64.wrap (a+(1:Int)))) b e c/\M1 ((i64.wrap ((i64.wrap (d*(10:Int)))+(i64.wrap (u8.wrap (((List.getD b a.toNat 0).toNat:Int)-(48:Int))))))) ((i64.wrap (a+(1:Int)))) b e c<M1 d a b e c)))) (K d 0 c))))):CallT PR EA [.str s] [.one (.int .i64),.one (.int .i64)] st K:=
 Ag (cfg:=⟨[],[],[]⟩) (h:=(.seq .none (.seq .none (.seq .none (.seq (.seq .none (.block (.loop ⟨[(4,.int .i64),(12,.int .i64),(0,.str),(11,.int .i64)],[],[],[]⟩ .none))) .none))))) mixed (fun _ _=>Tryz.call236 _ _) Tryz.func236 (by kernel_rfl) (by kernel_rfl) h
theorem LV (neg:Bool) (s:B8) (exp:Int) (st:St) (K:Bool->B8->Int->Int->St->Prop) (h:BId (s=([]:B8)) (K false [] 0 0 st) (CallT PR CA [.str s,.str JL] [.one .str] st (fun (s1:B8) a=>((0<=(i64.wrap ((s.length:Int)-(i64.wrap ((s.length:Int)-(s1.length:Int)))))/\(i64.wrap ((s.length:Int)-(i64.wrap ((s.length:Int)-(s1.length:Int)))))<=(s.length:Int))/\BId ((i64.wrap ((400:Int)-(i64.wrap ((s.length:Int)-(s1.length:Int)))))<exp) (K false [] 0 2 a) (BId (exp<(i64.wrap ((-400:Int)-(i64.wrap ((s.length:Int)-(s1.length:Int)))))) (K false [] 0 2 a) (BId ((120:Int)<(((List.take (Int.toNat (i64.wrap ((s.length:Int)-(i64.wrap ((s.length:Int)-(s1.length:Int)))))) s)).length:Int)) (K false [] 0 2 a) (K neg ((List.take (Int.toNat (i64.wrap ((s.length:Int)-(i64.wrap ((s.length:Int)-(s1.length:Int)))))) s)) ((i64.wrap (exp+(i64.wrap ((s.length:Int)-(s1.length:Int)))))) 0 a))))))):CallT PR ED [.bool neg,.str s,.int .i64 exp] [.agg [.bool,.str,.int .i64],.one (.int .i64)] st K:=
 Ag (cfg:=⟨[6],[],[]⟩) (h:= .none) mixed (fun _ _=>Tryz.call241 _ _) Tryz.func241 (by kernel_rfl) (by kernel_rfl) h
theorem GL (r:Nat) (f:Nat) (st:St) (K:St->Prop) (h:CallT PR Ax [(.box r 0),.int .i64 2] [.one (.int .i64)] st (fun (n1:Int) g=>stB g (.box f 3) [.int .i64 n1] (fun m=>CallT PR AB [(.box r 0),.str CT] [.one (.int .u8)] m (fun (n2:Int) e=>CallT PR Ax [(.box r 0),.int .i64 2] [.one (.int .i64)] e (fun (n3:Int) i=>stB i (.box f 4) [.int .i64 n3] (fun k=>CallT PR AB [(.box r 0),.str CT] [.one (.int .u8)] k (fun (n4:Int) d=>CallT PR Ax [(.box r 0),.int .i64 2] [.one (.int .i64)] d (fun (n5:Int) l=>stB l (.box f 5) [.int .i64 n5] (fun a=>Ae (Ac a [] (.t (.box r 0)) 0) (fun (x1:TV)=>Af .str x1 (fun (s1:B8)=>BId (s1≠([]:B8)) (Ae (Ac a [] (.t (.box r 0)) 0) (fun (x2:TV)=>Af .str x2 (fun (s2:B8)=>((0<=(0:Int)/\(0:Int)<(s2.length:Int))/\BId (((List.getD s2 (Int.toNat (0:Int)) 0).toNat:Int)=(46:Int)) (Ae (Ac a [] (.t (.box r 0)) 0) (fun (x3:TV)=>Af .str x3 (fun (s3:B8)=>((0<=(1:Int)/\(1:Int)<=(s3.length:Int))/\stB a (.box r 0) [(.str (List.drop (Int.toNat (1:Int)) s3))] (fun j=>CallT PR BG [(.box r 0)] [.one (.int .i64)] j (fun (n6:Int) b=>stB b (.box f 6) [.int .i64 n6] (fun c=>K c))))))) (K a))))) (K a)))))))))))):CallT PR A6 [(.box r 0),(.box f 0)] [] st K:=
 Ag (cfg:=⟨[],[],[]⟩) (h:= .none) mixed (fun _ _=>Tryz.call242 _ _) Tryz.func242 (by kernel_rfl) (by kernel_rfl) h
theorem Ht (r:Nat) (f:Nat) (st:St) (K:St->Prop) (h:CallT PR Ax [(.box r 0),.int .i64 4] [.one (.int .i64)] st (fun (n1:Int) c=>stB c (.box f 0) [.int .i64 n1] (fun j=>CallT PR AB [(.box r 0),.str Ei] [.one (.int .u8)] j (fun (n2:Int) b=>CallT PR Ax [(.box r 0),.int .i64 2] [.one (.int .i64)] b (fun (n3:Int) d=>stB d (.box f 1) [.int .i64 n3] (fun g=>CallT PR AB [(.box r 0),.str Ei] [.one (.int .u8)] g (fun (n4:Int) a=>CallT PR Ax [(.box r 0),.int .i64 2] [.one (.int .i64)] a (fun (n5:Int) i=>stB i (.box f 2) [.int .i64 n5] (fun e=>K e))))))))):CallT PR BD [(.box r 0),(.box f 0)] [] st K:=
 Ag (cfg:=⟨[],[],[]⟩) (h:= .none) mixed (fun _ _=>Tryz.call243 _ _) Tryz.func243 (by kernel_rfl) (by kernel_rfl) h
theorem HK (r:Nat) (of:B8) (st:St) (K:Int->St->Prop) (h:Ae (Ac st [] (.t (.box r 0)) 0) (fun (x1:TV)=>Af .str x1 (fun (s1:B8)=>BId (s1≠([]:B8)) (∃(I1:Int->TV->B8->Int->St->Prop) (M1:Int->TV->B8->Int->St->Nat),(I1 0 ((.box r 0)) of ((of.length:Int)) st)/\∀c a b e d,I1 c a b e d->(BId (c<e) (need (isPtr a) (need (isPtr a) (Ae (Ac d [] (.t (Am a 0)) 0) (fun (x2:TV)=>Af .str x2 (fun (s2:B8)=>((0<=(0:Int)/\(0:Int)<(s2.length:Int))/\((0<=c/\c<(b.length:Int))/\BId (((List.getD s2 (Int.toNat (0:Int)) 0).toNat:Int)=((List.getD b c.toNat 0).toNat:Int)) (need (isPtr a) (need (isPtr a) (Ae (Ac d [] (.t (Am a 0)) 0) (fun (x3:TV)=>Af .str x3 (fun (s3:B8)=>((0<=(1:Int)/\(1:Int)<=(s3.length:Int))/\need (isPtr a) (need (isPtr a) (stB d (Am a 0) [(.str (List.drop (Int.toNat (1:Int)) s3))] (fun i=>((0<=c/\c<(b.length:Int))/\K (((List.getD b c.toNat 0).toNat:Int)) i)))))))))) ((I1 ((i64.wrap (c+(1:Int)))) a b e d/\M1 ((i64.wrap (c+(1:Int)))) a b e d<M1 c a b e d))))))))) (need (isPtr a) (need (isPtr a) (stB d (Am a 1) [.bool true] (fun f=>K 0 f)))))) (stB st (.box r 1) [.bool true] (fun g=>K 0 g))))):CallT PR AB [(.box r 0),.str of] [.one (.int .u8)] st K:=
 Ag (cfg:=⟨[],[],[]⟩) (h:=(.seq .none (.seq (.seq .none (.cond (.seq .none (.block (.loop ⟨[(13,.int .i64),(0,.tv),(1,.str),(12,.int .i64)],[],[],[]⟩ .none))) .none)) .none))) mixed (fun _ _=>Tryz.call244 _ _) Tryz.func244 (by kernel_rfl) (by kernel_rfl) h
theorem Gp (r:Nat) (f:Nat) (st:St) (K:St->Prop) (h:CallT PR AB [(.box r 0),.str str31] [.one (.int .u8)] st (fun (n1:Int) i=>stB i (.box f 7) [.int .u8 n1] (fun a=>Ae (Ac a [] (.t (.box f 7)) 0) (fun (x1:TV)=>Af (.int .u8) x1 (fun (n2:Int)=>BId (n2=43) (CallT PR Ax [(.box r 0),.int .i64 2] [.one (.int .i64)] a (fun (n3:Int) g=>stB g (.box f 8) [.int .i64 n3] (fun j=>CallT PR AB [(.box r 0),.str CT] [.one (.int .u8)] j (fun (n4:Int) m=>CallT PR Ax [(.box r 0),.int .i64 2] [.one (.int .i64)] m (fun (n5:Int) e=>stB e (.box f 9) [.int .i64 n5] (fun n=>K n)))))) (Ae (Ac a [] (.t (.box f 7)) 0) (fun (x2:TV)=>Af (.int .u8) x2 (fun (n6:Int)=>BId (n6=45) (CallT PR Ax [(.box r 0),.int .i64 2] [.one (.int .i64)] a (fun (n7:Int) k=>stB k (.box f 8) [.int .i64 n7] (fun l=>CallT PR AB [(.box r 0),.str CT] [.one (.int .u8)] l (fun (n8:Int) b=>CallT PR Ax [(.box r 0),.int .i64 2] [.one (.int .i64)] b (fun (n9:Int) d=>stB d (.box f 9) [.int .i64 n9] (fun c=>K c)))))) (K a))))))))):CallT PR Bp [(.box r 0),(.box f 0)] [] st K:=
 Ag (cfg:=⟨[],[],[]⟩) (h:= .none) mixed (fun _ _=>Tryz.call245 _ _) Tryz.func245 (by kernel_rfl) (by kernel_rfl) h
theorem JD (year:Int) (month:Int) (st:St) (K:Int->St->Prop) (h:CallT PR Cr [.int .i64 year] [.one .bool] st (fun (b1:Bool) a=>BIf (!b1) (K 0 a) (BId (month<1) (K 0 a) (BId ((12:Int)<month) (K 0 a) (BId (month=2) (CallT PR D9 [.int .i64 year] [.one .bool] a (fun (b2:Bool) b=>BIf b2 (K 29 b) (((0<=(i64.wrap (month-(1:Int)))/\(i64.wrap (month-(1:Int)))<((12:Nat):Int))/\Ae ((([.int .i64 31,.int .i64 28,.int .i64 31,.int .i64 30,.int .i64 31,.int .i64 30,.int .i64 31,.int .i64 31,.int .i64 30,.int .i64 31,.int .i64 30,.int .i64 31]:List TV)[(0+(Int.toNat (i64.wrap (month-(1:Int))))*1)+0]?)) (fun (x1:TV)=>Af (.int .i64) x1 (fun (n1:Int)=>K n1 b)))))) (((0<=(i64.wrap (month-(1:Int)))/\(i64.wrap (month-(1:Int)))<((12:Nat):Int))/\Ae ((([.int .i64 31,.int .i64 28,.int .i64 31,.int .i64 30,.int .i64 31,.int .i64 30,.int .i64 31,.int .i64 31,.int .i64 30,.int .i64 31,.int .i64 30,.int .i64 31]:List TV)[(0+(Int.toNat (i64.wrap (month-(1:Int))))*1)+0]?)) (fun (x2:TV)=>Af (.int .i64) x2 (fun (n2:Int)=>K n2 a))))))))):CallT PR AQ [.int .i64 year,.int .i64 month] [.one (.int .i64)] st K:=
 Ag (cfg:=⟨[5],[],[]⟩) (h:= .none) mixed (fun _ _=>Tryz.call246 _ _) Tryz.func246 (by kernel_rfl) (by kernel_rfl) h
theorem JB (year:Int) (st:St) (K:Int->St->Prop) (h:K ((i64.wrap ((i64.wrap ((i64.wrap ((i64.wrap ((365:Int)*(i64.wrap (year-(1:Int)))))+(i64.wrap (Int.tdiv (i64.wrap (year-(1:Int))) (4:Int)))))-(i64.wrap (Int.tdiv (i64.wrap (year-(1:Int))) (100:Int)))))+(i64.wrap (Int.tdiv (i64.wrap (year-(1:Int))) (400:Int)))))) st):CallT PR Bq [.int .i64 year] [.one (.int .i64)] st K:=
 Ag (cfg:=⟨[],[],[]⟩) (h:= .none) mixed (fun _ _=>Tryz.call247 _ _) Tryz.func247 (by kernel_rfl) (by kernel_rfl) h
theorem Sx (s:B8) (st:St) (K:Int->Int->St->Prop) (h:∃(I1:Int->Int->B8->St->Prop) (M1:Int->Int->B8->St->Nat),(I1 0 0 s st)/\∀c a b d,I1 c a b d->(BId (a<(b.length:Int)) (CallT PR Dd [.str b,.int .i64 a] [.one (.int .i64),.one (.int .i64)] d (fun (n1 n2:Int) e=>BId (n2=0) (K 0 5 e) ((I1 ((i64.wrap (c+(1:Int)))) ((i64.wrap (a+n2))) b e/\M1 ((i64.wrap (c+(1:Int)))) ((i64.wrap (a+n2))) b e<M1 c a b d)))) (K c 0 d))):CallT PR Jn [.str s] [.one (.int .i64),.one (.int .i64)] st K:=
 Ag (cfg:=⟨[],[],[]⟩) (h:=(.seq .none (.seq .none (.seq (.seq .none (.block (.loop ⟨[(4,.int .i64),(5,.int .i64),(0,.str)],[],[],[]⟩ .none))) .none)))) mixed (fun _ _=>Tryz.call256 _ _) Tryz.func256 (by kernel_rfl) (by kernel_rfl) h
theorem Ct (s:TV) (st:St) (K:TV->St->Prop) (h:need (isSl s) (BIf (F7 s) (K .nilSlice st) (Ae (EG st 14 s) (fun (q1:Nat×List TV)=>need (List.all q1.2 At) (Kk 136 14 184 (.list 14 .full 0 []) q1.1 q1.2 st (fun (v1:TV) a=>K v1 a)))))):CallT PR Bl [s] [.one .tv] st K:=
 Ag (cfg:=⟨[],[7],[]⟩) (h:= .none) mixed (fun _ _=>Tryz.call261 _ _) Tryz.func261 (by kernel_rfl) (by kernel_rfl) h
theorem AX (x:TV) (cmp:TV) (st:St) (K:St->Prop) (h:need (isSl x) (CallT PR AR [x,(.int .i64 (lenS x:Int)),cmp] [] st (fun (a:St)=>K a))):CallT PR AA [x,cmp] [] st K:=
 Ag (cfg:=⟨[],[],[]⟩) (h:= .none) mixed (fun _ _=>Tryz.call262 _ _) Tryz.func262 (by kernel_rfl) (by kernel_rfl) h
theorem Jx (a_0:B8) (a_1:Int) (a_2:Bool) (a_3:Bool) (a_4:B8) (a_5:Int) (a_6:Int) (a_7:Int) (a_8:Int) (a_9:Int) (a_10:B8) (a_11:TV) (a_12:TV) (a_13:TV) (b_0:B8) (b_1:Int) (b_2:Bool) (b_3:Bool) (b_4:B8) (b_5:Int) (b_6:Int) (b_7:Int) (b_8:Int) (b_9:Int) (b_10:B8) (b_11:TV) (b_12:TV) (b_13:TV) (st:St) (K:Int->St->Prop) (h:CallT PR Fo [.str a_0,.str b_0] [.one (.int .i64)] st (fun (n1:Int) a=>K n1 a)):CallT PR Cq [(.agg [.str a_0,.int .i64 a_1,.bool a_2,.bool a_3,.str a_4,.int .i64 a_5,.int .i64 a_6,.int .i64 a_7,.int .i64 a_8,.int .i64 a_9,.str a_10,a_11,a_12,a_13]),(.agg [.str b_0,.int .i64 b_1,.bool b_2,.bool b_3,.str b_4,.int .i64 b_5,.int .i64 b_6,.int .i64 b_7,.int .i64 b_8,.int .i64 b_9,.str b_10,b_11,b_12,b_13])] [.one (.int .i64)] st K:=
 Ag (cfg:=⟨[2,3],[],[]⟩) (h:= .none) mixed (fun _ _=>Tryz.call263 _ _) Tryz.func263 (by kernel_rfl) (by kernel_rfl) h
theorem Eu (b:Nat) (st:St) (K:St->Prop) (h:Ae (Ac st [] (.t (.box b 0)) 0) (fun (v1:TV)=>need (Tm v1) (BIf (F7 v1) (((Ac st [] (.t (.box b 0)) 0).isSome=true/\CallT PR Hp [(.box b 0)] [.one .tv] st (fun (v2:TV) a=>unsK 188 2 v2 a (fun (v3:TV)=>need (List.all [v3] At) (stB a (.box b 0) [v3] (fun c=>K c)))))) (Ae (Ac st [] (.t (.box b 0)) 0) (fun (v4:TV)=>(v4=(.box b 0)/\K st)))))):CallT PR Br [(.box b 0)] [] st K:=
 Ag (cfg:=⟨[],[],[]⟩) (h:= .none) mixed (fun _ _=>Tryz.call266 _ _) Tryz.func266 (by kernel_rfl) (by kernel_rfl) h
theorem LR (s:B8) (st:St) (K:Bool->St->Prop) (h:BId ((s.length:Int)<=(600:Int)) (CallT PR Gg [.str s] [.one .bool] st (fun (b1:Bool) a=>BIf b1 (BId (s=([]:B8)) (K true a) (((0<=(0:Int)/\(0:Int)<(s.length:Int))/\K ((decide (((List.getD s (Int.toNat (0:Int)) 0).toNat:Int)≠(48:Int)))) a))) (K false a))) (K false st)):CallT PR Dk [.str s] [.one .bool] st K:=
 Ag (cfg:=⟨[],[],[]⟩) (h:= .none) mixed (fun _ _=>Tryz.call267 _ _) Tryz.func267 (by kernel_rfl) (by kernel_rfl) h
theorem LQ (a:B8) (st:St) (K:Int->St->Prop) (h:CallT PR CA [.str a,.str JL] [.one .str] st (fun (s1:B8) b=>K ((i64.wrap ((a.length:Int)-(s1.length:Int)))) b)):CallT PR Ez [.str a] [.one (.int .i64)] st K:=
 Ag (cfg:=⟨[],[],[]⟩) (h:= .none) mixed (fun _ _=>Tryz.call268 _ _) Tryz.func268 (by kernel_rfl) (by kernel_rfl) h
theorem Pu (s:B8) (st:St) (K:Int->St->Prop) (h:CallT PR DD [.str s] [.one .bool] st (fun (b1:Bool) a=>BIf (!b1) (K 5 a) (BId ((1024:Int)<(s.length:Int)) (K 10 a) (K 0 a)))):CallT PR G5 [.str s] [.one (.int .i64)] st K:=
 Ag (cfg:=⟨[],[],[]⟩) (h:= .none) mixed (fun _ _=>Tryz.call269 _ _) Tryz.func269 (by kernel_rfl) (by kernel_rfl) h
theorem Jz (n:Int) (st:St) (K:B8->St->Prop) (h:∃(I1:Int->TV->St->Prop) (M1:Int->TV->St->Nat),(I1 n .nilSlice st)/\∀a b c,I1 a b c->(BId ((0:Int)<a) (Kk 5 1 1 b 1 [(.int .u8 (u8.wrap (i64.wrap ((48:Int)+(Int.tmod a (10:Int))))))] c (fun (v1:TV) e=>(I1 ((i64.wrap (Int.tdiv a (10:Int)))) v1 e/\M1 ((i64.wrap (Int.tdiv a (10:Int)))) v1 e<M1 a b c))) (CallT PR DH [b] [] c (fun (d:St)=>Ae ((toBytes d b).map TV.str) (fun (x1:TV)=>Af .str x1 (fun (s1:B8)=>K s1 d)))))):CallT PR DI [.int .i64 n] [.one .str] st K:=
 Ag (cfg:=⟨[],[14],[]⟩) (h:=(.seq .none (.seq .none (.seq (.block (.loop ⟨[(0,.int .i64),(3,.tv)],[],[],[]⟩ .none)) .none)))) mixed (fun _ _=>Tryz.call277 _ _) Tryz.func277 (by kernel_rfl) (by kernel_rfl) h
theorem Ky (n:Int) (st:St) (K:Int->Int->Int->Int->St->Prop) (h:CallT PR FN [.int .i64 n] [.one .bool] st (fun (b1:Bool) r=>BIf (!b1) (K 0 0 0 2 r) (∃(I1:Int->Int->St->Prop) (M1:Int->Int->St->Nat),(I1 ((i64.wrap ((i64.wrap (Int.tdiv n (366:Int)))+(1:Int)))) n r)/\∀a i j,I1 a i j->(BId (a<9999) (CallT PR Bq [(.int .i64 (i64.wrap (a+(1:Int))))] [.one (.int .i64)] j (fun (n1:Int) k=>BId (n1<=i) ((I1 ((i64.wrap (a+(1:Int)))) i k/\M1 ((i64.wrap (a+(1:Int)))) i k<M1 a i j)) (CallT PR Bq [.int .i64 a] [.one (.int .i64)] k (fun (n2:Int) t=>∃(I2:Int->Int->Int->St->Prop) (M2:Int->Int->Int->St->Nat),(I2 1 ((i64.wrap (i-n2))) a t)/\∀b g d l,I2 b g d l->(CallT PR AQ [.int .i64 d,.int .i64 b] [.one (.int .i64)] l (fun (n3:Int) q=>BId (n3<=g) (CallT PR AQ [.int .i64 d,.int .i64 b] [.one (.int .i64)] q (fun (n4:Int) s=>(I2 ((i64.wrap (b+(1:Int)))) ((i64.wrap (g-n4))) d s/\M2 ((i64.wrap (b+(1:Int)))) ((i64.wrap (g-n4))) d s<M2 b g d l))) (K d b ((i64.wrap (g+(1:Int)))) 0 q))))))) (CallT PR Bq [.int .i64 a] [.one (.int .i64)] j (fun (n5:Int) u=>∃(I3:Int->Int->Int->St->Prop) (M3:Int->Int->Int->St->Nat),(I3 1 ((i64.wrap (i-n5))) a u)/\∀c f e p,I3 c f e p->(CallT PR AQ [.int .i64 e,.int .i64 c] [.one (.int .i64)] p (fun (n6:Int) o=>BId (n6<=f) (CallT PR AQ [.int .i64 e,.int .i64 c] [.one (.int .i64)] o (fun (n7:Int) m=>(I3 ((i64.wrap (c+(1:Int)))) ((i64.wrap (f-n7))) e m/\M3 ((i64.wrap (c+(1:Int)))) ((i64.wrap (f-n7))) e m<M3 c f e p))) (K e c ((i64.wrap (f+(1:Int)))) 0 o))))))))):CallT PR Ea [.int .i64 n] [.one (.int .i64),.one (.int .i64),.one (.int .i64),.one (.int .i64)] st K:=
 Ag (cfg:=⟨[],[],[]⟩) (h:=(.seq .none (.seq .none (.seq .none (.seq (.block (.loop ⟨[(2,.int .i64),(0,.int .i64)],[],[],[]⟩ .none)) (.seq .none (.seq .none (.seq (.block (.loop ⟨[(3,.int .i64),(6,.int .i64),(2,.int .i64)],[],[],[]⟩ .none)) .none)))))))) mixed (fun _ _=>Tryz.call278 _ _) Tryz.func278 (by kernel_rfl) (by kernel_rfl) h
theorem Kp (n:Int) (width:Int) (st:St) (K:B8->St->Prop) (h:((0<=width/\width<=width/\Int.toNat width*1<=140737488355328)/\∃(I1:Int->Int->TV->St->Prop) (M1:Int->Int->TV->St->Nat),(I1 n ((i64.wrap (width-(1:Int)))) ((.ms 1 st.nb 0 width.toNat width.toNat)) (st.push (.cells (Hr [.int .u8 0] (Int.toNat width*1))) (some 5)))/\∀d a b c,I1 d a b c->(BId ((0:Int)<=a) (((0<=a/\a<(lenZ 1 b:Int))/\stB c (ixT 1 b a.toNat) [(.int .u8 (u8.wrap (i64.wrap ((48:Int)+(Int.tmod d (10:Int))))))] (fun e=>(I1 ((i64.wrap (Int.tdiv d (10:Int)))) ((i64.wrap (a-(1:Int)))) b e/\M1 ((i64.wrap (Int.tdiv d (10:Int)))) ((i64.wrap (a-(1:Int)))) b e<M1 d a b c)))) (Ae ((toBytes c b).map TV.str) (fun (x1:TV)=>Af .str x1 (fun (s1:B8)=>K s1 c)))))):CallT PR AG [.int .i64 n,.int .i64 width] [.one .str] st K:=
 Ag (cfg:=⟨[],[8],[]⟩) (h:=(.seq .none (.seq .none (.seq (.seq .none (.block (.loop ⟨[(0,.int .i64),(6,.int .i64),(5,.tv)],[],[],[]⟩ .none))) .none)))) mixed (fun _ _=>Tryz.call279 _ _) Tryz.func279 (by kernel_rfl) (by kernel_rfl) h
theorem Gq (r:Nat) (width:Int) (st:St) (K:Int->St->Prop) (h:Ae (Ac st [] (.t (.box r 0)) 0) (fun (x1:TV)=>Af .str x1 (fun (s1:B8)=>BId ((s1.length:Int)<width) (stB st (.box r 1) [.bool true] (fun i=>K 0 i)) (∃(I1:Int->Int->TV->Int->Int->St->Prop) (M1:Int->Int->TV->Int->Int->St->Nat),(I1 0 0 ((.box r 0)) width width st)/\∀e c a b f d,I1 e c a b f d->(BId (c<f) (need (isPtr a) (need (isPtr a) (Ae (Ac d [] (.t (Am a 0)) 0) (fun (x2:TV)=>Af .str x2 (fun (s2:B8)=>((0<=c/\c<(s2.length:Int))/\BId (((List.getD s2 c.toNat 0).toNat:Int)<(48:Int)) (need (isPtr a) (need (isPtr a) (stB d (Am a 1) [.bool true] (fun g=>K 0 g)))) (need (isPtr a) (need (isPtr a) (Ae (Ac d [] (.t (Am a 0)) 0) (fun (x3:TV)=>Af .str x3 (fun (s3:B8)=>((0<=c/\c<(s3.length:Int))/\BId ((57:Int)<((List.getD s3 c.toNat 0).toNat:Int)) (need (isPtr a) (need (isPtr a) (stB d (Am a 1) [.bool true] (fun j=>K 0 j)))) (need (isPtr a) (need (isPtr a) (Ae (Ac d [] (.t (Am a 0)) 0) (fun (x4:TV)=>Af .str x4 (fun (s4:B8)=>((0<=c/\c<(s4.length:Int))/\(I1 ((i64.wrap ((i64.wrap ((10:Int)*e))+(i64.wrap (u8.wrap (((List.getD s4 c.toNat 0).toNat:Int)-(48:Int))))))) ((i64.wrap (c+(1:Int)))) a b f d/\M1 ((i64.wrap ((i64.wrap ((10:Int)*e))+(i64.wrap (u8.wrap (((List.getD s4 c.toNat 0).toNat:Int)-(48:Int))))))) ((i64.wrap (c+(1:Int)))) a b f d<M1 e c a b f d))))))))))))))))))) (need (isPtr a) (need (isPtr a) (Ae (Ac d [] (.t (Am a 0)) 0) (fun (x5:TV)=>Af .str x5 (fun (s5:B8)=>((0<=b/\b<=(s5.length:Int))/\need (isPtr a) (need (isPtr a) (stB d (Am a 0) [(.str (List.drop b.toNat s5))] (fun k=>K e k)))))))))))))):CallT PR Ax [(.box r 0),.int .i64 width] [.one (.int .i64)] st K:=
 Ag (cfg:=⟨[],[],[]⟩) (h:=(.seq .none (.seq .none (.seq .none (.seq (.seq .none (.block (.loop ⟨[(5,.int .i64),(18,.int .i64),(0,.tv),(1,.int .i64),(17,.int .i64)],[],[],[]⟩ .none))) .none))))) mixed (fun _ _=>Tryz.call290 _ _) Tryz.func290 (by kernel_rfl) (by kernel_rfl) h
theorem FB (r:Nat) (st:St) (K:Int->St->Prop) (h:∃(I1:Int->Int->TV->St->Prop) (M1:Int->Int->TV->St->Nat),(I1 0 0 ((.box r 0)) st)/\∀d b a c,I1 d b a c->(need (isPtr a) (need (isPtr a) (Ae (Ac c [] (.t (Am a 0)) 0) (fun (x1:TV)=>Af .str x1 (fun (s1:B8)=>BId (b<(s1.length:Int)) (need (isPtr a) (need (isPtr a) (Ae (Ac c [] (.t (Am a 0)) 0) (fun (x2:TV)=>Af .str x2 (fun (s2:B8)=>((0<=b/\b<(s2.length:Int))/\BId ((48:Int)<=((List.getD s2 b.toNat 0).toNat:Int)) (need (isPtr a) (need (isPtr a) (Ae (Ac c [] (.t (Am a 0)) 0) (fun (x3:TV)=>Af .str x3 (fun (s3:B8)=>((0<=b/\b<(s3.length:Int))/\BId (((List.getD s3 b.toNat 0).toNat:Int)<=(57:Int)) (BId (b<9) (need (isPtr a) (need (isPtr a) (Ae (Ac c [] (.t (Am a 0)) 0) (fun (x4:TV)=>Af .str x4 (fun (s4:B8)=>((0<=b/\b<(s4.length:Int))/\(I1 ((i64.wrap ((i64.wrap ((10:Int)*d))+(i64.wrap (u8.wrap (((List.getD s4 b.toNat 0).toNat:Int)-(48:Int))))))) ((i64.wrap (b+(1:Int)))) a c/\M1 ((i64.wrap ((i64.wrap ((10:Int)*d))+(i64.wrap (u8.wrap (((List.getD s4 b.toNat 0).toNat:Int)-(48:Int))))))) ((i64.wrap (b+(1:Int)))) a c<M1 d b a c))))))) ((I1 d ((i64.wrap (b+(1:Int)))) a c/\M1 d ((i64.wrap (b+(1:Int)))) a c<M1 d b a c))) (BId (b<1) (need (isPtr a) (need (isPtr a) (stB c (Am a 1) [.bool true] (fun x=>K 0 x)))) (BId ((9:Int)<b) (need (isPtr a) (need (isPtr a) (stB c (Am a 1) [.bool true] (fun u=>K 0 u)))) (need (isPtr a) (need (isPtr a) (Ae (Ac c [] (.t (Am a 0)) 0) (fun (x5:TV)=>Af .str x5 (fun (s5:B8)=>((0<=b/\b<=(s5.length:Int))/\need (isPtr a) (need (isPtr a) (stB c (Am a 0) [(.str (List.drop b.toNat s5))] (fun v=>∃(I2:Int->Int->St->Prop) (M2:Int->Int->St->Nat),(I2 d b v)/\∀n l g,I2 n l g->(BId (l<9) ((I2 ((i64.wrap (n*(10:Int)))) ((i64.wrap (l+(1:Int)))) g/\M2 ((i64.wrap (n*(10:Int)))) ((i64.wrap (l+(1:Int)))) g<M2 n l g)) (K n g))))))))))))))))))) (BId (b<1) (need (isPtr a) (need (isPtr a) (stB c (Am a 1) [.bool true] (fun s=>K 0 s)))) (BId ((9:Int)<b) (need (isPtr a) (need (isPtr a) (stB c (Am a 1) [.bool true] (fun y=>K 0 y)))) (need (isPtr a) (need (isPtr a) (Ae (Ac c [] (.t (Am a 0)) 0) (fun (x6:TV)=>Af .str x6 (fun (s6:B8)=>((0<=b/\b<=(s6.length:Int))/\need (isPtr a) (need (isPtr a) (stB c (Am a 0) [(.str (List.drop b.toNat s6))] (fun w=>∃(I3:Int->Int->St->Prop) (M3:Int->Int->St->Nat),(I3 d b w)/\∀i f m,I3 i f m->(BId (f<9) ((I3 ((i64.wrap (i*(10:Int)))) ((i64.wrap (f+(1:Int)))) m/\M3 ((i64.wrap (i*(10:Int)))) ((i64.wrap (f+(1:Int)))) m<M3 i f m)) (K i m))))))))))))))))))) (BId (b<1) (need (isPtr a) (need (isPtr a) (stB c (Am a 1) [.bool true] (fun p=>K 0 p)))) (BId ((9:Int)<b) (need (isPtr a) (need (isPtr a) (stB c (Am a 1) [.bool true] (fun o=>K 0 o)))) (need (isPtr a) (need (isPtr a) (Ae (Ac c [] (.t (Am a 0)) 0) (fun (x7:TV)=>Af .str x7 (fun (s7:B8)=>((0<=b/\b<=(s7.length:Int))/\need (isPtr a) (need (isPtr a) (stB c (Am a 0) [(.str (List.drop b.toNat s7))] (fun q=>∃(I4:Int->Int->St->Prop) (M4:Int->Int->St->Nat),(I4 d b q)/\∀j k e,I4 j k e->(BId (k<9) ((I4 ((i64.wrap (j*(10:Int)))) ((i64.wrap (k+(1:Int)))) e/\M4 ((i64.wrap (j*(10:Int)))) ((i64.wrap (k+(1:Int)))) e<M4 j k e)) (K j e))))))))))))))))))):CallT PR BG [(.box r 0)] [.one (.int .i64)] st K:=
 Ag (cfg:=⟨[],[],[]⟩) (h:=(.seq .none (.seq .none (.seq (.block (.loop ⟨[(3,.int .i64),(4,.int .i64),(0,.tv)],[],[],[]⟩ .none)) (.seq .none (.seq .none (.seq (.block (.loop ⟨[(3,.int .i64),(4,.int .i64)],[],[],[]⟩ .none)) .none))))))) mixed (fun _ _=>Tryz.call291 _ _) Tryz.func291 (by kernel_rfl) (by kernel_rfl) h
theorem JA (year:Int) (st:St) (K:Bool->St->Prop) (h:BId ((1:Int)<=year) (K ((decide (year<=9999))) st) (K false st)):CallT PR Cr [.int .i64 year] [.one .bool] st K:=
 Ag (cfg:=⟨[],[],[]⟩) (h:= .none) mixed (fun _ _=>Tryz.call292 _ _) Tryz.func292 (by kernel_rfl) (by kernel_rfl) h
theorem Kx (year:Int) (st:St) (K:Bool->St->Prop) (h:CallT PR Cr [.int .i64 year] [.one .bool] st (fun (b1:Bool) a=>BIf b1 (BId ((Int.tmod year (4:Int))=(0:Int)) (BId ((Int.tmod year (100:Int))≠(0:Int)) (K true a) (K ((decide ((Int.tmod year (400:Int))=(0:Int)))) a)) (K false a)) (K false a))):CallT PR D9 [.int .i64 year] [.one .bool] st K:=
 Ag (cfg:=⟨[],[],[]⟩) (h:= .none) mixed (fun _ _=>Tryz.call293 _ _) Tryz.func293 (by kernel_rfl) (by kernel_rfl) h
theorem By (data:TV) (n:Int) (cmp:TV) (st:St) (K:St->Prop) (h:∃(I1:Int->Int->TV->Int->TV->Int->St->Prop) (M1:Int->Int->TV->Int->TV->Int->St->Nat),(I1 0 20 data n cmp 20 st)/\∀u k f o g b t,I1 u k f o g b t->(BId (k<=o) (CallT PR AH [f,.int .i64 u,.int .i64 k,g] [] t (fun (w:St)=>(I1 k ((i64.wrap (k+b))) f o g b w/\M1 k ((i64.wrap (k+b))) f o g b w<M1 u k f o g b t))) (CallT PR AH [f,.int .i64 u,.int .i64 o,g] [] t (fun (y:St)=>∃(I2:Int->TV->Int->TV->St->Prop) (M2:Int->TV->Int->TV->St->Nat),(I2 b f o g y)/\∀c j s m r,I2 c j s m r->(BId (c<s) (∃(I3:Int->Int->TV->Int->TV->Int->St->Prop) (M3:Int->Int->TV->Int->TV->Int->St->Nat),(I3 0 ((i64.wrap ((2:Int)*c))) j s m c r)/\∀p l d i e a q,I3 p l d i e a q->(BId (l<=i) (CallT PR Aj [d,.int .i64 p,(.int .i64 (i64.wrap (p+a))),.int .i64 l,e] [] q (fun (v:St)=>(I3 l ((i64.wrap (l+(i64.wrap ((2:Int)*a))))) d i e a v/\M3 l ((i64.wrap (l+(i64.wrap ((2:Int)*a))))) d i e a v<M3 p l d i e a q))) (BId ((i64.wrap (p+a))<i) (CallT PR Aj [d,.int .i64 p,(.int .i64 (i64.wrap (p+a))),.int .i64 i,e] [] q (fun (x:St)=>(I2 ((i64.wrap (a*(2:Int)))) d i e x/\M2 ((i64.wrap (a*(2:Int)))) d i e x<M2 c j s m r))) ((I2 ((i64.wrap (a*(2:Int)))) d i e q/\M2 ((i64.wrap (a*(2:Int)))) d i e q<M2 c j s m r))))) (K r)))))):CallT PR AR [data,.int .i64 n,cmp] [] st K:=
 Ag (cfg:=⟨[],[],[]⟩) (h:=(.seq .none (.seq .none (.seq (.block (.loop ⟨[(7,.int .i64),(8,.int .i64),(0,.tv),(1,.int .i64),(2,.tv),(6,.int .i64)],[],[],[]⟩ .none)) (.seq .none (.block (.loop ⟨[(6,.int .i64),(0,.tv),(1,.int .i64),(2,.tv)],[],[],[]⟩ (.seq .none (.block (.seq .none (.seq (.block (.loop ⟨[(7,.int .i64),(8,.int .i64),(0,.tv),(1,.int .i64),(2,.tv),(6,.int .i64)],[],[],[]⟩ .none)) .none))))))))))) mixed (fun _ _=>Tryz.call297 _ _) Tryz.func297 (by kernel_rfl) (by kernel_rfl) h
theorem N7 (s:B8) (st:St) (K:Bool->St->Prop) (h:∃(I1:Int->B8->Int->St->Prop) (M1:Int->B8->Int->St->Nat),(I1 0 s ((s.length:Int)) st)/\∀a b d c,I1 a b d c->(BId (a<d) (((0<=a/\a<(b.length:Int))/\BId (((List.getD b a.toNat 0).toNat:Int)<(48:Int)) (K false c) (((0<=a/\a<(b.length:Int))/\BId ((57:Int)<((List.getD b a.toNat 0).toNat:Int)) (K false c) ((I1 ((i64.wrap (a+(1:Int)))) b d c/\M1 ((i64.wrap (a+(1:Int)))) b d c<M1 a b d c)))))) (K true c))):CallT PR Gg [.str s] [.one .bool] st K:=
 Ag (cfg:=⟨[],[],[]⟩) (h:=(.seq .none (.seq (.seq .none (.block (.loop ⟨[(6,.int .i64),(0,.str),(5,.int .i64)],[],[],[]⟩ .none))) .none))) mixed (fun _ _=>Tryz.call301 _ _) Tryz.func301 (by kernel_rfl) (by kernel_rfl) h
theorem Jy (b:TV) (st:St) (K:St->Prop) (h:need (isSl b) (∃(I1:Int->Int->TV->St->Prop) (M1:Int->Int->TV->St->Nat),(I1 0 ((i64.wrap ((lenS b:Int)-(1:Int)))) b st)/\∀c d a e,I1 c d a e->(BId (c<d) (((0<=d/\d<(lenZ 1 a:Int))/\Ae (Ac e [] (.t (ixT 1 a d.toNat)) 0) (fun (x1:TV)=>Af (.int .u8) x1 (fun (n1:Int)=>((0<=c/\c<(lenZ 1 a:Int))/\Ae (Ac e [] (.t (ixT 1 a c.toNat)) 0) (fun (x2:TV)=>Af (.int .u8) x2 (fun (n2:Int)=>((0<=c/\c<(lenZ 1 a:Int))/\stB e (ixT 1 a c.toNat) [.int .u8 n1] (fun g=>((0<=d/\d<(lenZ 1 a:Int))/\stB g (ixT 1 a d.toNat) [.int .u8 n2] (fun f=>(I1 ((i64.wrap (c+(1:Int)))) ((i64.wrap (d-(1:Int)))) a f/\M1 ((i64.wrap (c+(1:Int)))) ((i64.wrap (d-(1:Int)))) a f<M1 c d a e)))))))))))) (K e)))):CallT PR DH [b] [] st K:=
 Ag (cfg:=⟨[],[],[]⟩) (h:=(.seq .none (.block (.loop ⟨[(2,.int .i64),(3,.int .i64),(0,.tv)],[],[],[]⟩ .none)))) mixed (fun _ _=>Tryz.call306 _ _) Tryz.func306 (by kernel_rfl) (by kernel_rfl) h
theorem JC (n:Int) (st:St) (K:Bool->St->Prop) (h:BId ((0:Int)<=n) (K ((decide (n<=3652058))) st) (K false st)):CallT PR FN [.int .i64 n] [.one .bool] st K:=
 Ag (cfg:=⟨[],[],[]⟩) (h:= .none) mixed (fun _ _=>Tryz.call307 _ _) Tryz.func307 (by kernel_rfl) (by kernel_rfl) h
theorem Ba (data:TV) (a:Int) (b:Int) (cmp:TV) (st:St) (K:St->Prop) (h:∃(I1:Int->TV->Int->Int->TV->St->Prop) (M1:Int->TV->Int->Int->TV->St->Nat),(I1 ((i64.wrap (a+(1:Int)))) data a b cmp st)/\∀m f q p k o,I1 m f q p k o->(BId (m<p) (∃(I2:Int->TV->Int->Int->TV->Int->St->Prop) (M2:Int->TV->Int->Int->TV->Int->St->Nat),(I2 m f q p k m o)/\∀d c g j e i l,I2 d c g j e i l->(BId (g<d) (((0<=d/\d<(lenZ 14 c:Int))/\Ae ((Ah l [] (.t (ixT 14 c d.toNat)) 0 14).map TV.agg) (fun (x1:TV)=>AK [.str,.int .i64,.bool,.bool,.str,.int .i64,.int .i64,.int .i64,.int .i64,.int .i64,.str,.tv,.tv,.tv] x1 (fun (s1:B8) (n1:Int) (b1 b2:Bool) (s2:B8) (n2 n3 n4 n5 n6:Int) (s3:B8) (v1 v2 v3:TV)=>((0<=(i64.wrap (d-(1:Int)))/\(i64.wrap (d-(1:Int)))<(lenZ 14 c:Int))/\Ae ((Ah l [] (.t (ixT 14 c (Int.toNat (i64.wrap (d-(1:Int)))))) 0 14).map TV.agg) (fun (x2:TV)=>AK [.str,.int .i64,.bool,.bool,.str,.int .i64,.int .i64,.int .i64,.int .i64,.int .i64,.str,.tv,.tv,.tv] x2 (fun (s4:B8) (n7:Int) (b3 b4:Bool) (s5:B8) (n8 n9 b9 c3 c2:Int) (s6:B8) (v4 v5 v6:TV)=>FR PR e [(.agg [.str s1,.int .i64 n1,.bool b1,.bool b2,.str s2,.int .i64 n2,.int .i64 n3,.int .i64 n4,.int .i64 n5,.int .i64 n6,.str s3,v1,v2,v3]),(.agg [.str s4,.int .i64 n7,.bool b3,.bool b4,.str s5,.int .i64 n8,.int .i64 n9,.int .i64 b9,.int .i64 c3,.int .i64 c2,.str s6,v4,v5,v6])] [.one (.int .i64)] l (fun (c1:Int) n=>BId (c1<0) (((0<=(i64.wrap (d-(1:Int)))/\(i64.wrap (d-(1:Int)))<(lenZ 14 c:Int))/\Ae ((Ah n [] (.t (ixT 14 c (Int.toNat (i64.wrap (d-(1:Int)))))) 0 14).map TV.agg) (fun (x3:TV)=>AK [.str,.int .i64,.bool,.bool,.str,.int .i64,.int .i64,.int .i64,.int .i64,.int .i64,.str,.tv,.tv,.tv] x3 (fun (s7:B8) (b0:Int) (b5 b6:Bool) (s8:B8) (r y a6 x a7:Int) (s9:B8) (v7 v8 v9:TV)=>((0<=d/\d<(lenZ 14 c:Int))/\Ae ((Ah n [] (.t (ixT 14 c d.toNat)) 0 14).map TV.agg) (fun (x4:TV)=>AK [.str,.int .i64,.bool,.bool,.str,.int .i64,.int .i64,.int .i64,.int .i64,.int .i64,.str,.tv,.tv,.tv] x4 (fun (a3:B8) (a5:Int) (b7 b8:Bool) (s:B8) (a8 a1 z a4 u:Int) (a9:B8) (w a2 a0:TV)=>((0<=d/\d<(lenZ 14 c:Int))/\need (List.all [.str s7,.int .i64 b0,.bool b5,.bool b6,.str s8,.int .i64 r,.int .i64 y,.int .i64 a6,.int .i64 x,.int .i64 a7,.str s9,v7,v8,v9] At) (stB n (ixT 14 c d.toNat) [.str s7,.int .i64 b0,.bool b5,.bool b6,.str s8,.int .i64 r,.int .i64 y,.int .i64 a6,.int .i64 x,.int .i64 a7,.str s9,v7,v8,v9] (fun c0=>((0<=(i64.wrap (d-(1:Int)))/\(i64.wrap (d-(1:Int)))<(lenZ 14 c:Int))/\need (List.all [.str a3,.int .i64 a5,.bool b7,.bool b8,.str s,.int .i64 a8,.int .i64 a1,.int .i64 z,.int .i64 a4,.int .i64 u,.str a9,w,a2,a0] At) (stB c0 (ixT 14 c (Int.toNat (i64.wrap (d-(1:Int))))) [.str a3,.int .i64 a5,.bool b7,.bool b8,.str s,.int .i64 a8,.int .i64 a1,.int .i64 z,.int .i64 a4,.int .i64 u,.str a9,w,a2,a0] (fun v=>(I2 ((i64.wrap (d-(1:Int)))) c g j e i v/\M2 ((i64.wrap (d-(1:Int)))) c g j e i v<M2 d c g j e i l)))))))))))))) ((I1 ((i64.wrap (i+(1:Int)))) c g j e n/\M1 ((i64.wrap (i+(1:Int)))) c g j e n<M1 m f q p k o)))))))))) ((I1 ((i64.wrap (i+(1:Int)))) c g j e l/\M1 ((i64.wrap (i+(1:Int)))) c g j e l<M1 m f q p k o)))) (K o))):CallT PR AH [data,.int .i64 a,.int .i64 b,cmp] [] st K:=
 Ag (cfg:=⟨[],[],[26,31]⟩) (h:=(.seq .none (.block (.loop ⟨[(8,.int .i64),(0,.tv),(1,.int .i64),(2,.int .i64),(3,.tv)],[],[],[]⟩ (.seq .none (.seq (.block (.seq .none (.block (.loop ⟨[(9,.int .i64),(0,.tv),(1,.int .i64),(2,.int .i64),(3,.tv),(8,.int .i64)],[],[],[]⟩ .none)))) .none)))))) mixed (fun _ _=>Tryz.call317 _ _) Tryz.func317 (by kernel_rfl) (by kernel_rfl) h
theorem AW (data:TV) (a:Int) (m:Int) (b:Int) (cmp:TV) (st:St) (K:St->Prop) (h:BId ((i64.wrap (m-a))=(1:Int)) (∃(I1:Int->Int->TV->Int->TV->St->Prop) (M1:Int->Int->TV->Int->TV->St->Nat),(I1 m b data a cmp st)/\∀u y n a1 w a5,I1 u y n a1 w a5->(BId (u<y) (((0<=(i64.wrap (Int.fdiv (IntKind.u64.wrap (i64.wrap (u+y))) (2^(min (Int.toNat (1:Int)) (IntKind.bits .u64)))))/\(i64.wrap (Int.fdiv (IntKind.u64.wrap (i64.wrap (u+y))) (2^(min (Int.toNat (1:Int)) (IntKind.bits .u64)))))<(lenZ 14 n:Int))/\Ae ((Ah a5 [] (.t (ixT 14 n (Int.toNat (i64.wrap (Int.fdiv (IntKind.u64.wrap (i64.wrap (u+y))) (2^(min (Int.toNat (1:Int)) (IntKind.bits .u64)))))))) 0 14).map TV.agg) (fun (x1:TV)=>AK [.str,.int .i64,.bool,.bool,.str,.int .i64,.int .i64,.int .i64,.int .i64,.int .i64,.str,.tv,.tv,.tv] x1 (fun (s1:B8) (n1:Int) (b1 b2:Bool) (s2:B8) (n2 n3 n4 n5 n6:Int) (s3:B8) (v1 v2 v3:TV)=>((0<=a1/\a1<(lenZ 14 n:Int))/\Ae ((Ah a5 [] (.t (ixT 14 n a1.toNat)) 0 14).map TV.agg) (fun (x2:TV)=>AK [.str,.int .i64,.bool,.bool,.str,.int .i64,.int .i64,.int .i64,.int .i64,.int .i64,.str,.tv,.tv,.tv] x2 (fun (s4:B8) (n7:Int) (b3 b4:Bool) (s5:B8) (n8 n9 p2 q1 l7:Int) (s6:B8) (v4 v5 v6:TV)=>FR PR w [(.agg [.str s1,.int .i64 n1,.bool b1,.bool b2,.str s2,.int .i64 n2,.int .i64 n3,.int .i64 n4,.int .i64 n5,.int .i64 n6,.str s3,v1,v2,v3]),(.agg [.str s4,.int .i64 n7,.bool b3,.bool b4,.str s5,.int .i64 n8,.int .i64 n9,.int .i64 p2,.int .i64 q1,.int .i64 l7,.str s6,v4,v5,v6])] [.one (.int .i64)] a5 (fun (j8:Int) c7=>BId (j8<0) ((I1 ((i64.wrap ((i64.wrap (Int.fdiv (IntKind.u64.wrap (i64.wrap (u+y))) (2^(min (Int.toNat (1:Int)) (IntKind.bits .u64)))))+(1:Int)))) y n a1 w c7/\M1 ((i64.wrap ((i64.wrap (Int.fdiv (IntKind.u64.wrap (i64.wrap (u+y))) (2^(min (Int.toNat (1:Int)) (IntKind.bits .u64)))))+(1:Int)))) y n a1 w c7<M1 u y n a1 w a5)) ((I1 u ((i64.wrap (Int.fdiv (IntKind.u64.wrap (i64.wrap (u+y))) (2^(min (Int.toNat (1:Int)) (IntKind.bits .u64)))))) n a1 w c7/\M1 u ((i64.wrap (Int.fdiv (IntKind.u64.wrap (i64.wrap (u+y))) (2^(min (Int.toNat (1:Int)) (IntKind.bits .u64)))))) n a1 w c7<M1 u y n a1 w a5)))))))))) (∃(I2:Int->TV->Int->St->Prop) (M2:Int->TV->Int->St->Nat),(I2 a1 n u a5)/\∀p j c2 a8,I2 p j c2 a8->(BId (p<(i64.wrap (c2-(1:Int)))) (((0<=(i64.wrap (p+(1:Int)))/\(i64.wrap (p+(1:Int)))<(lenZ 14 j:Int))/\Ae ((Ah a8 [] (.t (ixT 14 j (Int.toNat (i64.wrap (p+(1:Int)))))) 0 14).map TV.agg) (fun (x3:TV)=>AK [.str,.int .i64,.bool,.bool,.str,.int .i64,.int .i64,.int .i64,.int .i64,.int .i64,.str,.tv,.tv,.tv] x3 (fun (s7:B8) (e4:Int) (b5 b6:Bool) (s8:B8) (e6 h5 g5 d6 f5:Int) (s9:B8) (v7 v8 v9:TV)=>((0<=p/\p<(lenZ 14 j:Int))/\Ae ((Ah a8 [] (.t (ixT 14 j p.toNat)) 0 14).map TV.agg) (fun (x4:TV)=>AK [.str,.int .i64,.bool,.bool,.str,.int .i64,.int .i64,.int .i64,.int .i64,.int .i64,.str,.tv,.tv,.tv] x4 (fun (d8:B8) (d9:Int) (b7 b8:Bool) (e8:B8) (i2 f3 h6 i0 g8:Int) (g7:B8) (h3 g2 g1:TV)=>((0<=p/\p<(lenZ 14 j:Int))/\need (List.all [.str s7,.int .i64 e4,.bool b5,.bool b6,.str s8,.int .i64 e6,.int .i64 h5,.int .i64 g5,.int .i64 d6,.int .i64 f5,.str s9,v7,v8,v9] At) (stB a8 (ixT 14 j p.toNat) [.str s7,.int .i64 e4,.bool b5,.bool b6,.str s8,.int .i64 e6,.int .i64 h5,.int .i64 g5,.int .i64 d6,.int .i64 f5,.str s9,v7,v8,v9] (fun j6=>((0<=(i64.wrap (p+(1:Int)))/\(i64.wrap (p+(1:Int)))<(lenZ 14 j:Int))/\need (List.all [.str d8,.int .i64 d9,.bool b7,.bool b8,.str e8,.int .i64 i2,.int .i64 f3,.int .i64 h6,.int .i64 i0,.int .i64 g8,.str g7,h3,g2,g1] At) (stB j6 (ixT 14 j (Int.toNat (i64.wrap (p+(1:Int))))) [.str d8,.int .i64 d9,.bool b7,.bool b8,.str e8,.int .i64 i2,.int .i64 f3,.int .i64 h6,.int .i64 i0,.int .i64 g8,.str g7,h3,g2,g1] (fun f0=>(I2 ((i64.wrap (p+(1:Int)))) j c2 f0/\M2 ((i64.wrap (p+(1:Int)))) j c2 f0<M2 p j c2 a8)))))))))))))) (K a8))))) (BId ((i64.wrap (b-m))=(1:Int)) (∃(I3:Int->Int->TV->Int->TV->St->Prop) (M3:Int->Int->TV->Int->TV->St->Nat),(I3 a m data m cmp st)/\∀s x o a0 v a6,I3 s x o a0 v a6->(BId (s<x) (((0<=a0/\a0<(lenZ 14 o:Int))/\Ae ((Ah a6 [] (.t (ixT 14 o a0.toNat)) 0 14).map TV.agg) (fun (x5:TV)=>AK [.str,.int .i64,.bool,.bool,.str,.int .i64,.int .i64,.int .i64,.int .i64,.int .i64,.str,.tv,.tv,.tv] x5 (fun (k0:B8) (o2:Int) (b9 m7:Bool) (m4:B8) (o4 m0 m8 p6 q0:Int) (k7:B8) (o5 o9 q2:TV)=>((0<=(i64.wrap (Int.fdiv (IntKind.u64.wrap (i64.wrap (s+x))) (2^(min (Int.toNat (1:Int)) (IntKind.bits .u64)))))/\(i64.wrap (Int.fdiv (IntKind.u64.wrap (i64.wrap (s+x))) (2^(min (Int.toNat (1:Int)) (IntKind.bits .u64)))))<(lenZ 14 o:Int))/\Ae ((Ah a6 [] (.t (ixT 14 o (Int.toNat (i64.wrap (Int.fdiv (IntKind.u64.wrap (i64.wrap (s+x))) (2^(min (Int.toNat (1:Int)) (IntKind.bits .u64)))))))) 0 14).map TV.agg) (fun (x6:TV)=>AK [.str,.int .i64,.bool,.bool,.str,.int .i64,.int .i64,.int .i64,.int .i64,.int .i64,.str,.tv,.tv,.tv] x6 (fun (k3:B8) (j3:Int) (q4 q5:Bool) (l9:B8) (k9 o0 l4 o3 p1:Int) (m1:B8) (p8 p4 m3:TV)=>FR PR v [(.agg [.str k0,.int .i64 o2,.bool b9,.bool m7,.str m4,.int .i64 o4,.int .i64 m0,.int .i64 m8,.int .i64 p6,.int .i64 q0,.str k7,o5,o9,q2]),(.agg [.str k3,.int .i64 j3,.bool q4,.bool q5,.str l9,.int .i64 k9,.int .i64 o0,.int .i64 l4,.int .i64 o3,.int .i64 p1,.str m1,p8,p4,m3])] [.one (.int .i64)] a6 (fun (p7:Int) c6=>BIf (!(decide (p7<0))) ((I3 ((i64.wrap ((i64.wrap (Int.fdiv (IntKind.u64.wrap (i64.wrap (s+x))) (2^(min (Int.toNat (1:Int)) (IntKind.bits .u64)))))+(1:Int)))) x o a0 v c6/\M3 ((i64.wrap ((i64.wrap (Int.fdiv (IntKind.u64.wrap (i64.wrap (s+x))) (2^(min (Int.toNat (1:Int)) (IntKind.bits .u64)))))+(1:Int)))) x o a0 v c6<M3 s x o a0 v a6)) ((I3 s ((i64.wrap (Int.fdiv (IntKind.u64.wrap (i64.wrap (s+x))) (2^(min (Int.toNat (1:Int)) (IntKind.bits .u64)))))) o a0 v c6/\M3 s ((i64.wrap (Int.fdiv (IntKind.u64.wrap (i64.wrap (s+x))) (2^(min (Int.toNat (1:Int)) (IntKind.bits .u64)))))) o a0 v c6<M3 s x o a0 v a6)))))))))) (∃(I4:Int->TV->Int->St->Prop) (M4:Int->TV->Int->St->Nat),(I4 a0 o s a6)/\∀q k c1 a9,I4 q k c1 a9->(BId (c1<q) (((0<=(i64.wrap (q-(1:Int)))/\(i64.wrap (q-(1:Int)))<(lenZ 14 k:Int))/\Ae ((Ah a9 [] (.t (ixT 14 k (Int.toNat (i64.wrap (q-(1:Int)))))) 0 14).map TV.agg) (fun (x7:TV)=>AK [.str,.int .i64,.bool,.bool,.str,.int .i64,.int .i64,.int .i64,.int .i64,.int .i64,.str,.tv,.tv,.tv] x7 (fun (h7:B8) (g4:Int) (e5 e3:Bool) (f9:B8) (d7 e1 d5 h4 g9:Int) (e7:B8) (h2 d3 e0:TV)=>((0<=q/\q<(lenZ 14 k:Int))/\Ae ((Ah a9 [] (.t (ixT 14 k q.toNat)) 0 14).map TV.agg) (fun (x8:TV)=>AK [.str,.int .i64,.bool,.bool,.str,.int .i64,.int .i64,.int .i64,.int .i64,.int .i64,.str,.tv,.tv,.tv] x8 (fun (f7:B8) (g0:Int) (h9 e9:Bool) (f8:B8) (f4 g3 e2 d4 i3:Int) (f2:B8) (h8 f1 i1:TV)=>((0<=q/\q<(lenZ 14 k:Int))/\need (List.all [.str h7,.int .i64 g4,.bool e5,.bool e3,.str f9,.int .i64 d7,.int .i64 e1,.int .i64 d5,.int .i64 h4,.int .i64 g9,.str e7,h2,d3,e0] At) (stB a9 (ixT 14 k q.toNat) [.str h7,.int .i64 g4,.bool e5,.bool e3,.str f9,.int .i64 d7,.int .i64 e1,.int .i64 d5,.int .i64 h4,.int .i64 g9,.str e7,h2,d3,e0] (fun o1=>((0<=(i64.wrap (q-(1:Int)))/\(i64.wrap (q-(1:Int)))<(lenZ 14 k:Int))/\need (List.all [.str f7,.int .i64 g0,.bool h9,.bool e9,.str f8,.int .i64 f4,.int .i64 g3,.int .i64 e2,.int .i64 d4,.int .i64 i3,.str f2,h8,f1,i1] At) (stB o1 (ixT 14 k (Int.toNat (i64.wrap (q-(1:Int))))) [.str f7,.int .i64 g0,.bool h9,.bool e9,.str f8,.int .i64 f4,.int .i64 g3,.int .i64 e2,.int .i64 d4,.int .i64 i3,.str f2,h8,f1,i1] (fun d2=>(I4 ((i64.wrap (q-(1:Int)))) k c1 d2/\M4 ((i64.wrap (q-(1:Int)))) k c1 d2<M4 q k c1 a9)))))))))))))) (K a9))))) (∃(C1:Int->Int->TV->Int->Int->Int->TV->Int->Int->St->Prop),(BId ((i64.wrap (Int.fdiv (IntKind.u64.wrap (i64.wrap (a+b))) (2^(min (Int.toNat (1:Int)) (IntKind.bits .u64)))))<m) (C1 ((i64.wrap ((i64.wrap ((i64.wrap (Int.fdiv (IntKind.u64.wrap (i64.wrap (a+b))) (2^(min (Int.toNat (1:Int)) (IntKind.bits .u64)))))+m))-b))) ((i64.wrap (Int.fdiv (IntKind.u64.wrap (i64.wrap (a+b))) (2^(min (Int.toNat (1:Int)) (IntKind.bits .u64)))))) data a m b cmp ((i64.wrap (Int.fdiv (IntKind.u64.wrap (i64.wrap (a+b))) (2^(min (Int.toNat (1:Int)) (IntKind.bits .u64)))))) ((i64.wrap ((i64.wrap (Int.fdiv (IntKind.u64.wrap (i64.wrap (a+b))) (2^(min (Int.toNat (1:Int)) (IntKind.bits .u64)))))+m))) st) (C1 a m data a m b cmp ((i64.wrap (Int.fdiv (IntKind.u64.wrap (i64.wrap (a+b))) (2^(min (Int.toNat (1:Int)) (IntKind.bits .u64)))))) ((i64.wrap ((i64.wrap (Int.fdiv (IntKind.u64.wrap (i64.wrap (a+b))) (2^(min (Int.toNat (1:Int)) (IntKind.bits .u64)))))+m))) st))/\∀a7 h0 c0 f6 g6 h1 c8 c9 d0 d1,C1 a7 h0 c0 f6 g6 h1 c8 c9 d0 d1->(∃(I5:Int->Int->TV->Int->Int->Int->TV->Int->Int->Int->St->Prop) (M5:Int->Int->TV->Int->Int->Int->TV->Int->Int->Int->St->Nat),(I5 a7 h0 c0 f6 g6 h1 c8 c9 d0 ((i64.wrap (d0-(1:Int)))) d1)/\∀c r e z a2 l g d f a3 i,I5 c r e z a2 l g d f a3 i->(BId (c<r) (((0<=(i64.wrap (a3-(i64.wrap (Int.fdiv (IntKind.u64.wrap (i64.wrap (c+r))) (2^(min (Int.toNat (1:Int)) (IntKind.bits .u64)))))))/\(i64.wrap (a3-(i64.wrap (Int.fdiv (IntKind.u64.wrap (i64.wrap (c+r))) (2^(min (Int.toNat (1:Int)) (IntKind.bits .u64)))))))<(lenZ 14 e:Int))/\Ae ((Ah i [] (.t (ixT 14 e (Int.toNat (i64.wrap (a3-(i64.wrap (Int.fdiv (IntKind.u64.wrap (i64.wrap (c+r))) (2^(min (Int.toNat (1:Int)) (IntKind.bits .u64)))))))))) 0 14).map TV.agg) (fun (x9:TV)=>AK [.str,.int .i64,.bool,.bool,.str,.int .i64,.int .i64,.int .i64,.int .i64,.int .i64,.str,.tv,.tv,.tv] x9 (fun (p9:B8) (m9:Int) (j7 j4:Bool) (m6:B8) (k4 k5 j5 o8 l5:Int) (l6:B8) (p5 q3 j9:TV)=>((0<=(i64.wrap (Int.fdiv (IntKind.u64.wrap (i64.wrap (c+r))) (2^(min (Int.toNat (1:Int)) (IntKind.bits .u64)))))/\(i64.wrap (Int.fdiv (IntKind.u64.wrap (i64.wrap (c+r))) (2^(min (Int.toNat (1:Int)) (IntKind.bits .u64)))))<(lenZ 14 e:Int))/\Ae ((Ah i [] (.t (ixT 14 e (Int.toNat (i64.wrap (Int.fdiv (IntKind.u64.wrap (i64.wrap (c+r))) (2^(min (Int.toNat (1:Int)) (IntKind.bits .u64)))))))) 0 14).map TV.agg) (fun (l0:TV)=>AK [.str,.int .i64,.bool,.bool,.str,.int .i64,.int .i64,.int .i64,.int .i64,.int .i64,.str,.tv,.tv,.tv] l0 (fun (l1:B8) (k1:Int) (l2 o7:Bool) (p3:B8) (k8 l3 p0 l8 k6:Int) (m2:B8) (o6 m5 k2:TV)=>FR PR g [(.agg [.str p9,.int .i64 m9,.bool j7,.bool j4,.str m6,.int .i64 k4,.int .i64 k5,.int .i64 j5,.int .i64 o8,.int .i64 l5,.str l6,p5,q3,j9]),(.agg [.str l1,.int .i64 k1,.bool l2,.bool o7,.str p3,.int .i64 k8,.int .i64 l3,.int .i64 p0,.int .i64 l8,.int .i64 k6,.str m2,o6,m5,k2])] [.one (.int .i64)] i (fun (n0:Int) b0=>BIf (!(decide (n0<0))) ((I5 ((i64.wrap ((i64.wrap (Int.fdiv (IntKind.u64.wrap (i64.wrap (c+r))) (2^(min (Int.toNat (1:Int)) (IntKind.bits .u64)))))+(1:Int)))) r e z a2 l g d f a3 b0/\M5 ((i64.wrap ((i64.wrap (Int.fdiv (IntKind.u64.wrap (i64.wrap (c+r))) (2^(min (Int.toNat (1:Int)) (IntKind.bits .u64)))))+(1:Int)))) r e z a2 l g d f a3 b0<M5 c r e z a2 l g d f a3 i)) ((I5 c ((i64.wrap (Int.fdiv (IntKind.u64.wrap (i64.wrap (c+r))) (2^(min (Int.toNat (1:Int)) (IntKind.bits .u64)))))) e z a2 l g d f a3 b0/\M5 c ((i64.wrap (Int.fdiv (IntKind.u64.wrap (i64.wrap (c+r))) (2^(min (Int.toNat (1:Int)) (IntKind.bits .u64)))))) e z a2 l g d f a3 b0<M5 c r e z a2 l g d f a3 i)))))))))) (BId (c<a2) (BId (a2<(i64.wrap (f-c))) (CallT PR A0 [e,.int .i64 c,.int .i64 a2,(.int .i64 (i64.wrap (f-c))),g] [] i (fun (a4:St)=>BId (z<c) (BId (c<d) (CallT PR Aj [e,.int .i64 z,.int .i64 c,.int .i64 d,g] [] a4 (fun (c4:St)=>BId (d<(i64.wrap (f-c))) (BId ((i64.wrap (f-c))<l) (CallT PR Aj [e,.int .i64 d,(.int .i64 (i64.wrap (f-c))),.int .i64 l,g] [] c4 (fun (i7:St)=>K i7)) (K c4)) (K c4))) (BId (d<(i64.wrap (f-c))) (BId ((i64.wrap (f-c))<l) (CallT PR Aj [e,.int .i64 d,(.int .i64 (i64.wrap (f-c))),.int .i64 l,g] [] a4 (fun (i9:St)=>K i9)) (K a4)) (K a4))) (BId (d<(i64.wrap (f-c))) (BId ((i64.wrap (f-c))<l) (CallT PR Aj [e,.int .i64 d,(.int .i64 (i64.wrap (f-c))),.int .i64 l,g] [] a4 (fun (j0:St)=>K j0)) (K a4)) (K a4)))) (BId (z<c) (BId (c<d) (CallT PR Aj [e,.int .i64 z,.int .i64 c,.int .i64 d,g] [] i (fun (c3:St)=>BId (d<(i64.wrap (f-c))) (BId ((i64.wrap (f-c))<l) (CallT PR Aj [e,.int .i64 d,(.int .i64 (i64.wrap (f-c))),.int .i64 l,g] [] c3 (fun (j2:St)=>K j2)) (K c3)) (K c3))) (BId (d<(i64.wrap (f-c))) (BId ((i64.wrap (f-c))<l) (CallT PR Aj [e,.int .i64 d,(.int .i64 (i64.wrap (f-c))),.int .i64 l,g] [] i (fun (j1:St)=>K j1)) (K i)) (K i))) (BId (d<(i64.wrap (f-c))) (BId ((i64.wrap (f-c))<l) (CallT PR Aj [e,.int .i64 d,(.int .i64 (i64.wrap (f-c))),.int .i64 l,g] [] i (fun (i8:St)=>K i8)) (K i)) (K i)))) (BId (z<c) (BId (c<d) (CallT PR Aj [e,.int .i64 z,.int .i64 c,.int .i64 d,g] [] i (fun (c5:St)=>BId (d<(i64.wrap (f-c))) (BId ((i64.wrap (f-c))<l) (CallT PR Aj [e,.int .i64 d,(.int .i64 (i64.wrap (f-c))),.int .i64 l,g] [] c5 (fun (i5:St)=>K i5)) (K c5)) (K c5))) (BId (d<(i64.wrap (f-c))) (BId ((i64.wrap (f-c))<l) (CallT PR Aj [e,.int .i64 d,(.int .i64 (i64.wrap (f-c))),.int .i64 l,g] [] i (fun (i6:St)=>K i6)) (K i)) (K i))) (BId (d<(i64.wrap (f-c))) (BId ((i64.wrap (f-c))<l) (CallT PR Aj [e,.int .i64 d,(.int .i64 (i64.wrap (f-c))),.int .i64 l,g] [] i (fun (i4:St)=>K i4)) (K i)) (K i))))))))):CallT PR Aj [data,.int .i64 a,.int .i64 m,.int .i64 b,cmp] [] st K:=
 Ag (cfg:=⟨[],[],[44,48,96,100,164,168]⟩) (h:=(.seq (.seq .none (.cond (.seq .none (.seq .none (.seq (.block (.loop ⟨[(10,.int .i64),(11,.int .i64),(0,.tv),(1,.int .i64),(4,.tv)],[],[],[]⟩ .none)) (.seq (.seq .none (.block (.loop ⟨[(13,.int .i64),(0,.tv),(10,.int .i64)],[],[],[]⟩ .none))) .none)))) .none)) (.seq (.seq .none (.cond (.seq .none (.seq .none (.seq (.block (.loop ⟨[(14,.int .i64),(15,.int .i64),(0,.tv),(2,.int .i64),(4,.tv)],[],[],[]⟩ .none)) (.seq (.seq .none (.block (.loop ⟨[(17,.int .i64),(0,.tv),(14,.int .i64)],[],[],[]⟩ .none))) .none)))) .none)) (.seq .none (.seq .none (.seq .none (.cut ⟨[(20,.int .i64),(21,.int .i64),(0,.tv),(1,.int .i64),(2,.int .i64),(3,.int .i64),(4,.tv),(18,.int .i64),(19,.int .i64)],[],[],[]⟩ .none (.seq .none (.seq (.block (.loop ⟨[(20,.int .i64),(21,.int .i64),(0,.tv),(1,.int .i64),(2,.int .i64),(3,.int .i64),(4,.tv),(18,.int .i64),(19,.int .i64),(22,.int .i64)],[],[],[]⟩ .none)) .none))))))))) mixed (fun _ _=>Tryz.call318 _ _) Tryz.func318 (by kernel_rfl) (by kernel_rfl) h
theorem Do (data:TV) (a:Int) (m:Int) (b:Int) (cmp:TV) (st:St) (K:St->Prop) (h:∃(I1:Int->Int->TV->Int->TV->St->Prop) (M1:Int->Int->TV->Int->TV->St->Nat),(I1 ((i64.wrap (m-a))) ((i64.wrap (b-m))) data m cmp st)/\∀e g c f d i,I1 e g c f d i->(BId (e≠g) (BId (g<e) (CallT PR AD [c,(.int .i64 (i64.wrap (f-e))),.int .i64 f,.int .i64 g,d] [] i (fun (k:St)=>(I1 ((i64.wrap (e-g))) g c f d k/\M1 ((i64.wrap (e-g))) g c f d k<M1 e g c f d i))) (CallT PR AD [c,(.int .i64 (i64.wrap (f-e))),(.int .i64 (i64.wrap ((i64.wrap (f+g))-e))),.int .i64 e,d] [] i (fun (j:St)=>(I1 e ((i64.wrap (g-e))) c f d j/\M1 e ((i64.wrap (g-e))) c f d j<M1 e g c f d i)))) (CallT PR AD [c,(.int .i64 (i64.wrap (f-e))),.int .i64 f,.int .i64 e,d] [] i (fun (l:St)=>K l)))):CallT PR A0 [data,.int .i64 a,.int .i64 m,.int .i64 b,cmp] [] st K:=
 Ag (cfg:=⟨[],[],[]⟩) (h:=(.seq .none (.seq .none (.seq (.block (.loop ⟨[(10,.int .i64),(11,.int .i64),(0,.tv),(2,.int .i64),(4,.tv)],[],[],[]⟩ .none)) .none)))) mixed (fun _ _=>Tryz.call329 _ _) Tryz.func329 (by kernel_rfl) (by kernel_rfl) h
theorem CK (data:TV) (a:Int) (b:Int) (n:Int) (cmp:TV) (st:St) (K:St->Prop) (h:∃(I1:Int->TV->Int->Int->Int->St->Prop) (M1:Int->TV->Int->Int->Int->St->Nat),(I1 0 data a b n st)/\∀d c f e i g,I1 d c f e i g->(BId (d<i) (((0<=(i64.wrap (e+d))/\(i64.wrap (e+d))<(lenZ 14 c:Int))/\Ae ((Ah g [] (.t (ixT 14 c (Int.toNat (i64.wrap (e+d))))) 0 14).map TV.agg) (fun (x1:TV)=>AK [.str,.int .i64,.bool,.bool,.str,.int .i64,.int .i64,.int .i64,.int .i64,.int .i64,.str,.tv,.tv,.tv] x1 (fun (s1:B8) (n1:Int) (b1 b2:Bool) (s2:B8) (n2 n3 n4 n5 n6:Int) (s3:B8) (v1 v2 v3:TV)=>((0<=(i64.wrap (f+d))/\(i64.wrap (f+d))<(lenZ 14 c:Int))/\Ae ((Ah g [] (.t (ixT 14 c (Int.toNat (i64.wrap (f+d))))) 0 14).map TV.agg) (fun (x2:TV)=>AK [.str,.int .i64,.bool,.bool,.str,.int .i64,.int .i64,.int .i64,.int .i64,.int .i64,.str,.tv,.tv,.tv] x2 (fun (s4:B8) (n7:Int) (b3 b4:Bool) (s5:B8) (n8 n9 k j m:Int) (s6:B8) (v4 v5 v6:TV)=>((0<=(i64.wrap (f+d))/\(i64.wrap (f+d))<(lenZ 14 c:Int))/\need (List.all [.str s1,.int .i64 n1,.bool b1,.bool b2,.str s2,.int .i64 n2,.int .i64 n3,.int .i64 n4,.int .i64 n5,.int .i64 n6,.str s3,v1,v2,v3] At) (stB g (ixT 14 c (Int.toNat (i64.wrap (f+d)))) [.str s1,.int .i64 n1,.bool b1,.bool b2,.str s2,.int .i64 n2,.int .i64 n3,.int .i64 n4,.int .i64 n5,.int .i64 n6,.str s3,v1,v2,v3] (fun o=>((0<=(i64.wrap (e+d))/\(i64.wrap (e+d))<(lenZ 14 c:Int))/\need (List.all [.str s4,.int .i64 n7,.bool b3,.bool b4,.str s5,.int .i64 n8,.int .i64 n9,.int .i64 k,.int .i64 j,.int .i64 m,.str s6,v4,v5,v6] At) (stB o (ixT 14 c (Int.toNat (i64.wrap (e+d)))) [.str s4,.int .i64 n7,.bool b3,.bool b4,.str s5,.int .i64 n8,.int .i64 n9,.int .i64 k,.int .i64 j,.int .i64 m,.str s6,v4,v5,v6] (fun l=>(I1 ((i64.wrap (d+(1:Int)))) c f e i l/\M1 ((i64.wrap (d+(1:Int)))) c f e i l<M1 d c f e i g)))))))))))))) (K g))):CallT PR AD [data,.int .i64 a,.int .i64 b,.int .i64 n,cmp] [] st K:=
 Ag (cfg:=⟨[],[],[]⟩) (h:=(.seq .none (.block (.loop ⟨[(10,.int .i64),(0,.tv),(1,.int .i64),(2,.int .i64),(3,.int .i64)],[],[],[]⟩ .none)))) mixed (fun _ _=>Tryz.call333 _ _) Tryz.func333 (by kernel_rfl) (by kernel_rfl) h
end Go.TVF
section
namespace Go.TVF
open Go.IntKind(i64 u8)
section
variable {α:Type}
def swp (l:List α) (i j:Nat):List α:=match l[i]?,l[j]? with | some x,some y=>(l.set i y).set j x | _,_=>l
theorem swp_mid {P Y Q:List α} {x z:α}:swp (P++x::(Y++z::Q)) P.length (P.length+1+Y.length)=P++z::(Y++x::Q):=by
 have h1:(P++x::(Y++z::Q))[P.length]? =some x:=by simp
 have h2:(P++x::(Y++z::Q))[P.length+1+Y.length]? =some z:=by
  rw[List.getElem?_append_right (by omega)]
  rw[show P.length+1+Y.length-P.length=Y.length+1 by omega,List.getElem?_cons_succ,List.getElem?_append_right (by omega)]
  simp
 unfold swp
 rw[h1,h2]
 simp only
 rw[List.set_append_right _ _ (by omega),Nat.sub_self,List.set_cons_zero,List.set_append_right _ _ (by omega)]
 rw[show P.length+1+Y.length-P.length=Y.length+1 by omega,List.set_cons_succ,List.set_append_right _ _ (by omega),Nat.sub_self,List.set_cons_zero]
theorem swp_run {P X Y Z Q:List α} {i:Nat} (hi:i<X.length) (hz:Z.length=X.length):
  swp (P++(Z.take i++X.drop i)++Y++(X.take i++Z.drop i)++Q) (P.length+i) (P.length+X.length+Y.length+i)=P++(Z.take (i+1)++X.drop (i+1))++Y++(X.take (i+1)++Z.drop (i+1))++Q:=by
 have hx:X.drop i=X[i]::X.drop (i+1):=List.drop_eq_getElem_cons hi
 have hzd:Z.drop i=Z[i]'(by omega)::Z.drop (i+1):=List.drop_eq_getElem_cons (by omega)
 have e1:P++(Z.take i++X.drop i)++Y++(X.take i++Z.drop i)++Q=(P++Z.take i)++X[i]::((X.drop (i+1)++Y++X.take i)++Z[i]'(by omega)::(Z.drop (i+1)++Q)):=by
  have h1:P++(Z.take i++X.drop i)++Y++(X.take i++Z.drop i)++Q=P++Z.take i++X.drop i++(Y++X.take i++(Z.drop i++Q)):=by simp only[List.append_assoc]
  rw[h1,hx,hzd]
  simp only[List.append_assoc,List.cons_append]
 have l1:(P++Z.take i).length=P.length+i:=by simp;omega
 have l2:(X.drop (i+1)++Y++X.take i).length=X.length-1+Y.length:=by simp;omega
 rw[e1]
 have:=swp_mid (P:=P++Z.take i) (Y:=X.drop (i+1)++Y++X.take i) (Q:=Z.drop (i+1)++Q) (x:=X[i]) (z:=Z[i]'(by omega))
 rw[l1,l2,show P.length+i+1+(X.length-1+Y.length)=P.length+X.length+Y.length+i by omega]at this
 rw[this]
 have t1:X.take (i+1)=X.take i++[X[i]]:=by rw[List.take_succ_eq_append_getElem hi]
 have t2:Z.take (i+1)=Z.take i++[Z[i]'(by omega)]:=by rw[List.take_succ_eq_append_getElem (by omega)]
 simp only[t1,t2,List.append_assoc,List.cons_append,List.nil_append]
variable (le:α->α->Prop)
def Srt (l:List α):Prop:=l.Pairwise le
variable {le}
theorem L5 (tr:∀x y z,le x y->le y z->le x z) {A B:List α} (ha:Srt le A) (hb:Srt le B) (h:∀x,A.getLast? =some x->∀y,B.head? =some y->le x y) (rf:∀x,le x x):Srt le (A++B):=by
 refine List.pairwise_append.2 ⟨ha,hb,fun x hx y hy=>?_⟩
 rcases List.eq_nil_or_concat A with rfl | ⟨A',a,hA⟩
 ·simp at hx
 rw[List.concat_eq_append]at hA
 subst hA
 cases B with
 | nil=>simp at hy
 | cons b B=>
  have hab:=h a (by simp) b rfl
  have h1:le x a:=by
   rcases List.mem_append.1 hx with h | h
   ·exact(List.pairwise_append.1 ha).2.2 x h a (by simp)
   ·simp at h;subst h;exact rf x
  have h2:le b y:=by
   rcases List.mem_cons.1 hy with h | h
   ·subst h;exact rf y
   ·exact(List.pairwise_cons.1 hb).1 y h
  exact tr _ _ _ h1 (tr _ _ _ hab h2)
theorem SG (tr:∀x y z,le x y->le y z->le x z) {L1 L2 R1 R2 M1 M2:List α} (rf:∀x,le x x) (hL:Srt le (L1++L2)) (hR:Srt le (R1++R2)) (h1:∀x,R1.getLast? =some x->∀y,L2.head? =some y->le x y) (h2:∀x,L1.getLast? =some x->∀y,R2.head? =some y->le x y)
  (p1:M1.Perm (L1++R1)) (p2:M2.Perm (L2++R2)) (s1:Srt le M1) (s2:Srt le M2):(M1++M2).Perm (L1++L2++(R1++R2))/\Srt le (M1++M2):=by
 obtain⟨a1,a2,a3⟩:=List.pairwise_append.1 hL
 obtain⟨b1,b2,b3⟩:=List.pairwise_append.1 hR
 have c1:=List.pairwise_append.1 (L5 tr b1 a2 h1 rf)
 have c2:=List.pairwise_append.1 (L5 tr a1 b2 h2 rf)
 constructor
 ·refine(p1.append p2).trans ?_
  simp only[List.append_assoc]
  refine List.Perm.append_left _ ?_
  rw[<-List.append_assoc,<-List.append_assoc]
  exact List.Perm.append_right _ List.perm_append_comm
 ·refine List.pairwise_append.2 ⟨s1,s2,fun x hx y hy=>?_⟩
  rcases List.mem_append.1 (p1.mem_iff.1 hx)with hx | hx<;>rcases List.mem_append.1 (p2.mem_iff.1 hy)with hy | hy
  ·exact a3 x hx y hy
  ·exact c2.2.2 x hx y hy
  ·exact c1.2.2 x hx y hy
  ·exact b3 x hx y hy
theorem PO (tr:∀x y z,le x y->le y z->le x z) {A B:List α} {x:α} (rf:∀x,le x x) (h:Srt le (A++B)) (h1:∀y,A.getLast? =some y->le y x) (h2:∀y,B.head? =some y->le x y):Srt le (A++x::B):=by
 obtain⟨a,b,c⟩:=List.pairwise_append.1 h
 refine L5 tr a ?_ (fun y hy z hz=>by simp at hz;subst hz;exact h1 y hy) rf
 exact L5 (A:=[x]) tr (List.pairwise_singleton _ _) b (fun y hy z hz=>by simp at hy;subst hy;exact h2 z hz) rf
end
end Go.TVF
end
namespace Go.TVF
open Go.IntKind(i64 u8)
open Go Go.Proofs
section
structure Sc where
 kind:Int
 b:Bool
 neg:Bool
 dg:B8
 ex:Int
 tk:Int
 td:Int
 tn:Int
 tz:Int
 text:B8
 bytes:B8
mutual
inductive Vl where
 | mk (s:Sc) (l:List Vl) (f:List Fd)
inductive Fd where
 | mk (k:B8) (v:Vl)
end
def Vl.sc:Vl->Sc | .mk s _ _=>s
def Fd.key:Fd->B8 | .mk k _=>k
def Fd.val:Fd->Vl | .mk _ v=>v
def SlR (st:St) (sz:Nat) (v:TV) (n:Nat) (xs:List TV):Prop:=
 Rd sz v n xs∨∃b off cap l,v= .ms sz b off n cap/\b<st.nb/\st.box b= .cells l/\off+cap*sz<=l.length/\n<=cap/\xs=(l.drop off).take (n*sz)
theorem SlR.of_rd {st:St} {sz n:Nat} {v:TV} {xs:List TV} (h:Rd sz v n xs):SlR st sz v n xs:= .inl h
def B1 (st st':St):Prop:=st.nb<=st'.nb/\∀b,b<st.nb->st'.box b=st.box b
theorem SlR.keep {st st':St} (k:B1 st st') {sz n:Nat} {v:TV} {xs:List TV} (h:SlR st sz v n xs):SlR st' sz v n xs:=by
 rcases h with h | ⟨b,off,cap,l,h1,h2,h3,h4,h5,h6⟩
 ·exact .inl h
 ·exact .inr ⟨b,off,cap,l,h1,Nat.lt_of_lt_of_le h2 k.1,(k.2 b h2).trans h3,h4,h5,h6⟩
mutual
def VlR (st:St):Vl->List TV->Prop
 | .mk s l f,cs=>∃ub ul uf xl xf,cs=[.int .i64 s.kind,.bool s.b,.bool s.neg,.str s.dg,.int .i64 s.ex,.int .i64 s.tk,.int .i64 s.td,.int .i64 s.tn,.int .i64 s.tz,.str s.text,ub,ul,uf]/\
   SlR st 1 ub s.bytes.length (AJ s.bytes)/\SlR st 13 ul l.length xl/\VsR st l xl/\SlR st 14 uf f.length xf/\FsR st f xf
def VsR (st:St):List Vl->List TV->Prop
 | [],xs=>xs=[]
 | v::r,xs=>∃a b,xs=a++b/\VlR st v a/\VsR st r b
def FdR (st:St):Fd->List TV->Prop
 | .mk k v,xs=>∃cs,xs= .str k::cs/\VlR st v cs
def FsR (st:St):List Fd->List TV->Prop
 | [],xs=>xs=[]
 | d::r,xs=>∃a b,xs=a++b/\FdR st d a/\FsR st r b
end
mutual
theorem VlR.keep {st st':St} (k:B1 st st'):∀{v:Vl} {cs:List TV},VlR st v cs->VlR st' v cs
 | .mk s l f,cs,h=>by
  unfold VlR at h⊢
  obtain⟨ub,ul,uf,xl,xf,h0,h1,h2,h3,h4,h5⟩:=h
  exact⟨ub,ul,uf,xl,xf,h0,h1.keep k,h2.keep k,VsR.keep k h3,h4.keep k,FsR.keep k h5⟩
theorem VsR.keep {st st':St} (k:B1 st st'):∀{l:List Vl} {cs:List TV},VsR st l cs->VsR st' l cs
 | [],cs,h=>by unfold VsR at h⊢;exact h
 | v::r,cs,h=>by
  unfold VsR at h⊢
  obtain⟨a,b,h0,h1,h2⟩:=h
  exact⟨a,b,h0,VlR.keep k h1,VsR.keep k h2⟩
theorem FdR.keep {st st':St} (k:B1 st st'):∀{d:Fd} {cs:List TV},FdR st d cs->FdR st' d cs
 | .mk key v,cs,h=>by
  unfold FdR at h⊢
  obtain⟨c,h0,h1⟩:=h
  exact⟨c,h0,VlR.keep k h1⟩
theorem FsR.keep {st st':St} (k:B1 st st'):∀{l:List Fd} {cs:List TV},FsR st l cs->FsR st' l cs
 | [],cs,h=>by unfold FsR at h⊢;exact h
 | d::r,cs,h=>by
  unfold FsR at h⊢
  obtain⟨a,b,h0,h1,h2⟩:=h
  exact⟨a,b,h0,FdR.keep k h1,FsR.keep k h2⟩
end
theorem VlR.len {st:St} {v:Vl} {cs:List TV} (h:VlR st v cs):cs.length=13:=by
 cases v;unfold VlR at h;obtain⟨ub,ul,uf,xl,xf,rfl,_⟩:=h;rfl
theorem FdR.len {st:St} {v:Fd} {cs:List TV} (h:FdR st v cs):cs.length=14:=by
 cases v;unfold FdR at h;obtain⟨c,rfl,h⟩:=h;simp[h.len]
theorem VsR.len {st:St}:∀{l:List Vl} {xs:List TV},VsR st l xs->xs.length=l.length*13
 | [],xs,h=>by unfold VsR at h;subst h;rfl
 | v::r,xs,h=>by
  unfold VsR at h
  obtain⟨a,b,rfl,h1,h2⟩:=h
  rw[List.length_append,h1.len,VsR.len h2,List.length_cons];omega
theorem FsR.len {st:St}:∀{l:List Fd} {xs:List TV},FsR st l xs->xs.length=l.length*14
 | [],xs,h=>by unfold FsR at h;subst h;rfl
 | v::r,xs,h=>by
  unfold FsR at h
  obtain⟨a,b,rfl,h1,h2⟩:=h
  rw[List.length_append,h1.len,FsR.len h2,List.length_cons];omega
theorem VsR.get {st:St}:∀{l:List Vl} {xs:List TV} {i:Nat} {v:Vl},VsR st l xs->l[i]? =some v->∃cs,VlR st v cs/\(xs.drop (i*13)).take 13=cs/\cs.length=13
 | [],xs,i,v,h,hi=>by simp at hi
 | w::r,xs,i,v,h,hi=>by
  unfold VsR at h
  obtain⟨a,b,rfl,h1,h2⟩:=h
  cases i with
  | zero=>
   simp only[List.getElem?_cons_zero,Option.some.injEq]at hi
   subst hi
   refine⟨a,h1,?_,h1.len⟩
   rw[Nat.zero_mul,List.drop_zero,<-h1.len,List.take_left]
  | succ i=>
   obtain⟨cs,h3,h4,h5⟩:=VsR.get h2 (by simpa using hi)
   refine⟨cs,h3,?_,h5⟩
   rw[show(i+1)*13=a.length+i*13 by rw[h1.len];omega,List.drop_append]
   simp only[Nat.add_sub_cancel_left]
   rw[List.drop_of_length_le (by omega),List.nil_append];exact h4
theorem FsR.get {st:St}:∀{l:List Fd} {xs:List TV} {i:Nat} {v:Fd},FsR st l xs->l[i]? =some v->∃cs,FdR st v cs/\(xs.drop (i*14)).take 14=cs/\cs.length=14
 | [],xs,i,v,h,hi=>by simp at hi
 | w::r,xs,i,v,h,hi=>by
  unfold FsR at h
  obtain⟨a,b,rfl,h1,h2⟩:=h
  cases i with
  | zero=>
   simp only[List.getElem?_cons_zero,Option.some.injEq]at hi
   subst hi
   refine⟨a,h1,?_,h1.len⟩
   rw[Nat.zero_mul,List.drop_zero,<-h1.len,List.take_left]
  | succ i=>
   obtain⟨cs,h3,h4,h5⟩:=FsR.get h2 (by simpa using hi)
   refine⟨cs,h3,?_,h5⟩
   rw[show(i+1)*14=a.length+i*14 by rw[h1.len];omega,List.drop_append]
   simp only[Nat.add_sub_cancel_left]
   rw[List.drop_of_length_le (by omega),List.nil_append];exact h4
mutual
def Vl.cnt:Vl->Nat
 | .mk _ l f=>1+Bx l+BR f
def Bx:List Vl->Nat
 | []=>0
 | v::r=>v.cnt+Bx r
def Fd.cnt:Fd->Nat
 | .mk _ v=>v.cnt
def BR:List Fd->Nat
 | []=>0
 | d::r=>d.cnt+BR r
end
end
structure StX (S:Nat->Prop) (a b:St):Prop where
 nb:a.nb<=b.nb
 box:∀i,i<a.nb->¬S i->b.box i=a.box i
 nt:a.nt<=b.nt
 live:∀i,i<a.nt->b.live i=a.live i
 ty:∀i,i<a.nt->b.ty i=a.ty i
 bt:∀i,i<a.nb->b.bt i=a.bt i
theorem StX.refl (S:Nat->Prop) (a:St):StX S a a:=⟨Nat.le_refl _,fun _ _ _=>rfl,Nat.le_refl _,fun _ _=>rfl,fun _ _=>rfl,fun _ _=>rfl⟩
theorem StX.trans {S:Nat->Prop} {a b c:St} (h:StX S a b) (k:StX S b c):StX S a c:=
 ⟨Nat.le_trans h.nb k.nb,fun i hi hs=>(k.box i (Nat.lt_of_lt_of_le hi h.nb) hs).trans (h.box i hi hs),Nat.le_trans h.nt k.nt,fun i hi=>(k.live i (Nat.lt_of_lt_of_le hi h.nt)).trans (h.live i hi),fun i hi=>(k.ty i (Nat.lt_of_lt_of_le hi h.nt)).trans (h.ty i hi),fun i hi=>(k.bt i (Nat.lt_of_lt_of_le hi h.nb)).trans (h.bt i hi)⟩
theorem StX.mono {S T:Nat->Prop} {a b:St} (h:StX S a b) (k:∀i,S i->T i):StX T a b:=
 ⟨h.nb,fun i hi hs=>h.box i hi fun g=>hs (k i g),h.nt,h.live,h.ty,h.bt⟩
theorem StX.of {S:Nat->Prop} {a b:St} (h:Ap a b):StX S a b:=⟨h.nb,fun i hi _=>h.box i hi,h.nt,h.live,h.ty,h.bt⟩
theorem StX.ext {S:Nat->Prop} {a b c:St} (h:Ap a b) (k:StX S b c) (hs:∀i,S i->a.nb<=i):Ap a c:=
 ⟨Nat.le_trans h.nb k.nb,fun i hi=>(k.box i (Nat.lt_of_lt_of_le hi h.nb) fun g=>absurd (hs i g) (by omega)).trans (h.box i hi),Nat.le_trans h.nt k.nt,fun i hi=>(k.live i (Nat.lt_of_lt_of_le hi h.nt)).trans (h.live i hi),fun i hi=>(k.ty i (Nat.lt_of_lt_of_le hi h.nt)).trans (h.ty i hi),fun i hi=>(k.bt i (Nat.lt_of_lt_of_le hi h.nb)).trans (h.bt i hi)⟩
theorem StX.put {S:Nat->Prop} {a:St} {i:Nat} (hi:S i) (o:Iz):StX S a (a.put i o):=
 ⟨Nat.le_refl _,fun j hj hs=>by simp only[St.put];rw[if_neg (by rintro rfl;exact hs hi)],Nat.le_refl _,fun _ _=>rfl,fun _ _=>rfl,fun _ _=>rfl⟩
end Go.TVF
section
namespace Go.TVF
open Go.IntKind(i64 u8)
abbrev tyField:Nat:=136
end Go.TVF
end
namespace Go.TVF
open Go.IntKind(i64 u8)
open Go Go.Proofs
def CkK (k:B8) (cs:List TV):Prop:=∃(n1:Int) (b1 b2:Bool) (s2:B8) (n2 n3 n4 n5 n6:Int) (s3:B8) (u1 u2 u3:TV),
 cs=[.str k,.int .i64 n1,.bool b1,.bool b2,.str s2,.int .i64 n2,.int .i64 n3,.int .i64 n4,.int .i64 n5,.int .i64 n6,.str s3,u1,u2,u3]/\At u1=true/\At u2=true/\At u3=true
def Ck (cs:List TV):Prop:=∃k,CkK k cs
theorem Ck.len {cs:List TV} (h:Ck cs):cs.length=14:=by obtain⟨k,n1,b1,b2,s2,n2,n3,n4,n5,n6,s3,u1,u2,u3,rfl,_⟩:=h;rfl
theorem Ck.one {cs:List TV} (h:Ck cs):List.all cs At=true:=by
 obtain⟨k,n1,b1,b2,s2,n2,n3,n4,n5,n6,s3,u1,u2,u3,rfl,h1,h2,h3⟩:=h
 simp[At]at h1 h2 h3⊢
 simp[h1,h2,h3]
theorem Jq {k:B8} {n1:Int} {b1 b2:Bool} {s2:B8} {n2 n3 n4 n5 n6:Int} {s3:B8} {u1 u2 u3:TV} {f:Fun [.str,.int .i64,.bool,.bool,.str,.int .i64,.int .i64,.int .i64,.int .i64,.int .i64,.str,.tv,.tv,.tv] Prop} (h:f k n1 b1 b2 s2 n2 n3 n4 n5 n6 s3 u1 u2 u3):
  AK [.str,.int .i64,.bool,.bool,.str,.int .i64,.int .i64,.int .i64,.int .i64,.int .i64,.str,.tv,.tv,.tv] (.agg [.str k,.int .i64 n1,.bool b1,.bool b2,.str s2,.int .i64 n2,.int .i64 n3,.int .i64 n4,.int .i64 n5,.int .i64 n6,.str s3,u1,u2,u3]) f:=h
structure BxF (st:St) (b n cap:Nat) (cks:List (List TV)):Prop where
 lt:b<st.nb
 len:cks.length=n
 le:n<=cap
 ck:∀c,c∈cks->Ck c
 box:∃tail,st.box b= .cells (cks.flatten++tail)/\(cks.flatten++tail).length=cap*14
theorem RY:∀{cks:List (List TV)},(∀c,c∈cks->Ck c)->cks.flatten.length=cks.length*14
 | [],_=>rfl
 | c::r,h=>by
  rw[List.flatten_cons,List.length_append,(h c (.head _)).len,RY fun x hx=>h x (.tail _ hx),List.length_cons];omega
theorem Qa:∀{cks:List (List TV)} {i:Nat} {c:List TV},(∀c,c∈cks->Ck c)->cks[i]? =some c->∃A B,cks.flatten=A++c++B/\A.length=i*14/\∀d:List TV,(cks.set i d).flatten=A++d++B
 | [],i,c,_,hi=>by simp at hi
 | x::r,0,c,h,hi=>by
  simp only[List.getElem?_cons_zero,Option.some.injEq]at hi
  subst hi
  exact⟨[],r.flatten,by simp,by simp,fun d=>by simp⟩
 | x::r,i+1,c,h,hi=>by
  obtain⟨A,B,h1,h2,h3⟩:=Qa (fun y hy=>h y (.tail _ hy)) (by simpa using hi:r[i]? =some c)
  refine⟨x++A,B,by rw[List.flatten_cons,h1];simp,by rw[List.length_append,(h x (.head _)).len,h2];omega,fun d=>by rw[List.set_cons_succ,List.flatten_cons,h3 d];simp⟩
theorem Ja:∀(ys A c B:List TV),ys.length=c.length->setAll (A++c++B) A.length ys=A++ys++B
 | [],A,c,B,h=>by
  have:c=[]:=List.eq_nil_of_length_eq_zero (by simpa using h.symm)
  subst this;rfl
 | y::ys,A,[],B,h=>by simp at h
 | y::ys,A,x::c,B,h=>by
  rw[setAll]
  have e:(A++x::c++B).set A.length y=(A++[y])++c++B:=by simp
  rw[e]
  have:=Ja ys (A++[y]) c B (by simpa using h)
  rw[List.length_append]at this
  rw[show A.length+1=A.length+ [y].length from rfl,this]
  simp
theorem Il {st:St} {b:Nat} {B:List TV}:∀(c:List TV) (l:List TV) (j o:Nat),st.box b= .cells l->l.drop (o+j)=c++B->Ah st [] (.t (.box b o)) j c.length=some c
 | [],l,j,o,h,hd=>rfl
 | x::c,l,j,o,h,hd=>by
  have hx:l[o+j]? =some x:=by
   have:=congrArg (fun z:List TV=>z[0]?) hd
   simpa using this
  have hd2:l.drop (o+(j+1))=c++B:=by
   have:=congrArg (fun z:List TV=>z.drop 1) hd
   simpa [List.drop_drop,Nat.add_assoc]using this
  show(match Ac st [] (.t (.box b o)) j with | some x=>(Ah st [] (.t (.box b o)) (j+1) c.length).map (x::·) | none=>none)=_
  have:Ac st [] (.t (.box b o)) j=some x:=by simp only[Ac,h];exact hx
  rw[this]
  simp only
  rw[Il c l (j+1) o h hd2];rfl
theorem BxF.ld {st:St} {b n cap:Nat} {cks:List (List TV)} (h:BxF st b n cap cks) {i:Nat} {c:List TV} (hi:cks[i]? =some c):(Ah st [] (.t (ixT 14 (.ms 14 b 0 n cap) i)) 0 14).map TV.agg=some (.agg c):=by
 obtain⟨tail,h1,h2⟩:=h.box
 obtain⟨A,B,h3,h4,_⟩:=Qa h.ck hi
 have hc:=(h.ck c (List.mem_of_getElem? hi)).len
 have:=Il (B:=B++tail) (st:=st) (b:=b) c (cks.flatten++tail) 0 (0+i*14) h1 (by
  rw[h3,Nat.add_zero,Nat.zero_add,<-h4];simp)
 rw[hc]at this
 show Option.map TV.agg (Ah st [] (.t (.box b (0+i*14))) 0 14)=_
 rw[this];rfl
theorem BxF.st {st:St} {b n cap:Nat} {cks:List (List TV)} (h:BxF st b n cap cks) {i:Nat} {c ys:List TV} (hi:cks[i]? =some c) (hy:Ck ys) {k:St->Prop} (hk:∀st',BxF st' b n cap (cks.set i ys)->StX (·=b) st st'->k st'):
  stB st (ixT 14 (.ms 14 b 0 n cap) i) ys k:=by
 obtain⟨tail,h1,h2⟩:=h.box
 obtain⟨A,B,h3,h4,h5⟩:=Qa h.ck hi
 have hc:=(h.ck c (List.mem_of_getElem? hi)).len
 have hl:(cks.flatten++tail).length=A.length+14+B.length+tail.length:=by rw[h3];simp[hc];omega
 have he:setAll (cks.flatten++tail) (0+i*14) ys=(cks.set i ys).flatten++tail:=by
  rw[Nat.zero_add,<-h4,h3,List.append_assoc,Ja ys A c (B++tail) (by rw[hy.len,hc]),h5 ys]
  simp
 refine⟨_,h1,by rw[hl,hy.len,<-h4];omega,?_⟩
 rw[he]
 refine hk _ ⟨h.lt,by rw[List.length_set];exact h.len,h.le,fun x hx=>?_,tail,by simp[St.put],?_⟩ (StX.put (S:=(·=b)) (show b=b from rfl) _)
 ·rcases List.mem_or_eq_of_mem_set hx with hx | rfl
  ·exact h.ck x hx
  ·exact hy
 ·rw[<-he,Nat.zero_add];simpa [F5]using h2
theorem BxF.lenZ {st:St} {b n cap:Nat} {cks:List (List TV)} (h:BxF st b n cap cks):lenZ 14 (.ms 14 b 0 n cap)=cks.length:=by rw[h.len];rfl
section
section
variable {st:St} {b n cap:Nat}
theorem GU {P X Y Z Q:List (List TV)} {cmp:TV} (h:BxF st b n cap (P++X++Y++Z++Q)) (hz:Z.length=X.length) (hn:n<=100000000) {A B N:Int} (hA:A=(P.length:Int)) (hB:B=((P.length+X.length+Y.length:Nat):Int)) (hN:N=(X.length:Int)) {K:St->Prop}
  (hk:∀st',BxF st' b n cap (P++Z++Y++X++Q)->StX (·=b) st st'->K st'):
  CallT PR AD [.ms 14 b 0 n cap,.int .i64 A,.int .i64 B,.int .i64 N,cmp] [] st K:=by
 have hlen:=h.len
 simp only[List.length_append]at hlen
 refine CK _ A B N cmp st K ⟨fun i d a b' n' st'=>d= .ms 14 b 0 n cap/\a=A/\b'=B/\n'=N/\∃k:Nat,i=(k:Int)/\k<=X.length/\BxF st' b n cap (P++(Z.take k++X.drop k)++Y++(X.take k++Z.drop k)++Q)/\StX (·=b) st st',
  fun i _ _ _ _ _=>(X.length-i).toNat,⟨rfl,rfl,rfl,rfl,0,rfl,Nat.zero_le _,by simpa using h,StX.refl _ _⟩,?_⟩
 rintro _ _ _ _ _ st1 ⟨rfl,rfl,rfl,rfl,k,rfl,hkl,hb,e⟩
 subst hA hB hN
 refine Aa (fun g=>?_) fun g=>?_
 ·have hkx:k<X.length:=by omega
  rw[Ai _ (by omega) (by omega),Ai _ (by omega) (by omega),Ai _ (by omega) (by omega)]
  have i1:Int.toNat (((P.length+X.length+Y.length:Nat):Int)+(k:Int))=P.length+X.length+Y.length+k:=by omega
  have i2:Int.toNat ((P.length:Int)+(k:Int))=P.length+k:=by omega
  rw[i1,i2,hb.lenZ]
  have hl:=hb.len
  have hx:(P++(Z.take k++X.drop k)++Y++(X.take k++Z.drop k)++Q)[P.length+k]? =some X[k]:=by
   simp only[List.append_assoc]
   rw[List.getElem?_append_right (by omega),Nat.add_sub_cancel_left,List.getElem?_append_right (by simp;omega),List.getElem?_append_left (by simp;omega)]
   simp[show k-min k Z.length=0 by omega,hkx]
  have hzz:(P++(Z.take k++X.drop k)++Y++(X.take k++Z.drop k)++Q)[P.length+X.length+Y.length+k]? =some (Z[k]'(by omega)):=by
   have e1:(P++(Z.take k++X.drop k)++Y++(X.take k++Z.drop k)++Q)=(P++(Z.take k++X.drop k)++Y++X.take k)++(Z.drop k++Q):=by simp
   have e2:(P++(Z.take k++X.drop k)++Y++X.take k).length=P.length+X.length+Y.length+k:=by simp;omega
   rw[e1,List.getElem?_append_right (by omega),e2,Nat.sub_self,List.getElem?_append_left (by simp;omega)]
   simp[show k<Z.length by omega]
  have cx:=hb.ck _ (List.mem_of_getElem? hx)
  have cz:=hb.ck _ (List.mem_of_getElem? hzz)
  have l1:=hb.ld hzz
  have l2:=hb.ld hx
  have hsw:=swp_run (P:=P) (X:=X) (Y:=Y) (Z:=Z) (Q:=Q) hkx hz
  unfold swp at hsw
  rw[hx,hzz]at hsw
  simp only at hsw
  have o1:=cx.one
  have o2:=cz.one
  generalize hcx:X[k]=x at*
  generalize hcz:(Z[k]'(by omega))=z at*
  have cx':=cx
  have cz':=cz
  obtain⟨kx,n1,b1,b2,s2,n2,n3,n4,n5,n6,s3,u1,u2,u3,rfl,_⟩:=cx
  obtain⟨kz,m1,c1,c2,t2,m2,m3,m4,m5,m6,t3,v1,v2,v3,rfl,_⟩:=cz
  refine⟨⟨by omega,by omega⟩,Ad l1 (Jq ⟨⟨by omega,by omega⟩,Ad l2 (Jq ⟨⟨by omega,by omega⟩,Ab o2 (hb.st hx cz' fun st2 hb2 e2=>⟨⟨by omega,by omega⟩,Ab o1 ?_⟩)⟩)⟩)⟩
  ·have hg:∃y,(List.set (P++(Z.take k++X.drop k)++Y++(X.take k++Z.drop k)++Q) (P.length+k) [.str kz,.int .i64 m1,.bool c1,.bool c2,.str t2,.int .i64 m2,.int .i64 m3,.int .i64 m4,.int .i64 m5,.int .i64 m6,.str t3,v1,v2,v3])[P.length+X.length+Y.length+k]? =some y:=
    ⟨_,List.getElem?_eq_getElem (by rw[List.length_set,hl];omega)⟩
   obtain⟨y,hy⟩:=hg
   refine hb2.st hy cx' fun st3 hb3 e3=>⟨⟨rfl,rfl,rfl,rfl,k+1,by omega,by omega,?_,(e.trans e2).trans e3⟩,by dsimp only;omega⟩
   rw[hsw]at hb3
   exact hb3
 ·have:k=X.length:=by omega
  subst this
  refine hk _ ?_ e
  rw[List.take_of_length_le (show Z.length<=X.length by omega),List.drop_length,List.take_length,List.drop_of_length_le (show Z.length<=X.length by omega),List.append_nil,List.append_nil]at hb
  exact hb
theorem Vn {P U V Q:List (List TV)} {cmp:TV} (h:BxF st b n cap (P++U++V++Q)) (hn:n<=100000000) (hU:0<U.length) (hV:0<V.length) {A M B:Int} (hA:A=(P.length:Int)) (hM:M=((P.length+U.length:Nat):Int)) (hB:B=((P.length+U.length+V.length:Nat):Int)) {K:St->Prop}
  (hk:∀st',BxF st' b n cap (P++V++U++Q)->StX (·=b) st st'->K st'):
  CallT PR A0 [.ms 14 b 0 n cap,.int .i64 A,.int .i64 M,.int .i64 B,cmp] [] st K:=by
 have hlen:=h.len
 simp only[List.length_append]at hlen
 refine Do _ A M B cmp st K ⟨fun i j d m' c' st'=>d= .ms 14 b 0 n cap/\m'=M/\∃P' U' V' Q':List (List TV),P'++V'++U'++Q'=P++V++U++Q/\P'.length+U'.length=P.length+U.length/\i=(U'.length:Int)/\j=(V'.length:Int)/\0<U'.length/\0<V'.length/\BxF st' b n cap (P'++U'++V'++Q')/\StX (·=b) st st',
  fun i j _ _ _ _=>(i+j).toNat,⟨rfl,rfl,P,U,V,Q,rfl,rfl,?_,?_,hU,hV,h,StX.refl _ _⟩,?_⟩
 ·rw[Ai _ (by omega) (by omega)];omega
 ·rw[Ai _ (by omega) (by omega)];omega
 rintro _ _ _ _ c' st1 ⟨rfl,rfl,P',U',V',Q',hfin,hm,rfl,rfl,hu,hv,hb,e⟩
 have hlb:=hb.len
 simp only[List.length_append]at hlb
 subst hA hM hB
 have wa:i64.wrap (((P.length+U.length:Nat):Int)-(U'.length:Int))=(P'.length:Int):=by rw[Ai _ (by omega) (by omega)];omega
 refine Aa (fun g=>Aa (fun g2=>?_) fun g2=>?_) fun g=>?_
 ·rw[wa,Ai _ (by omega) (by omega)]
  have hX:U'=U'.take V'.length++U'.drop V'.length:=(List.take_append_drop _ _).symm
  have l1:(U'.take V'.length).length=V'.length:=by simp;omega
  have l2:(U'.drop V'.length).length=U'.length-V'.length:=by simp
  generalize U'.take V'.length=X at*
  generalize U'.drop V'.length=Y at*
  subst hX
  simp only[List.length_append]at*
  refine GU (P:=P') (X:=X) (Y:=Y) (Z:=V') (Q:=Q') (by simpa using hb) (by omega) hn rfl (by omega) (by omega) fun st2 hb2 e2=>⟨⟨trivial,trivial,P'++V',Y,X,Q',?_,by simp only[List.length_append];omega,by omega,by omega,by omega,by omega,by simpa using hb2,e.trans e2⟩,by omega⟩
  rw[<-hfin];simp
 ·have hjw:i64.wrap (i64.wrap (((P.length+U.length:Nat):Int)+(V'.length:Int))-(U'.length:Int))=(P'.length:Int)+(V'.length:Int):=by
   rw[Ai (((P.length+U.length:Nat):Int)+(V'.length:Int)) (by omega) (by omega),Ai _ (by omega) (by omega)];omega
  rw[wa,hjw,Ai _ (by omega) (by omega)]
  have hX:V'=V'.take (V'.length-U'.length)++V'.drop (V'.length-U'.length):=(List.take_append_drop _ _).symm
  have l1:(V'.take (V'.length-U'.length)).length=V'.length-U'.length:=by simp
  have l2:(V'.drop (V'.length-U'.length)).length=U'.length:=by simp;omega
  generalize V'.take (V'.length-U'.length)=Y at*
  generalize V'.drop (V'.length-U'.length)=Z at*
  subst hX
  simp only[List.length_append]at*
  refine GU (P:=P') (X:=U') (Y:=Y) (Z:=Z) (Q:=Q') (by simpa using hb) (by omega) hn rfl (by omega) rfl fun st2 hb2 e2=>⟨⟨trivial,trivial,P',Z,Y,U'++Q',?_,by omega,by omega,by omega,by omega,by omega,by simpa using hb2,e.trans e2⟩,by omega⟩
  rw[<-hfin];simp
 ·have huv:U'.length=V'.length:=by omega
  rw[wa]
  refine GU (P:=P') (X:=U') (Y:=[]) (Z:=V') (Q:=Q') (by simpa using hb) huv.symm hn rfl (by simp;omega) rfl fun st2 hb2 e2=>hk _ ?_ (e.trans e2)
  rw[<-hfin];simpa using hb2
end
end
section
section
variable {st:St} {b n cap:Nat} {cks:List (List TV)}
def Ek (c:List TV):B8:=match c with | .str k::_=>k | _=>[]
def LJ (cmp:TV):Prop:=∀(c d:List TV) (st:St) (K:Int->St->Prop),Ck c->Ck d->(∀(r:Int) st',Ap st st'->(r<0↔Op.bytesLess (Ek c) (Ek d)=true)->K r st')->FR PR cmp [.agg c,.agg d] [.one (.int .i64)] st K
theorem PK {I J:Int} {i j:Nat} {x y:List TV} {K:St->Prop} (h:BxF st b n cap cks) (hI:I=(i:Int)) (hJ:J=(j:Int)) (hi:cks[i]? =some x) (hj:cks[j]? =some y) (hk:∀st',BxF st' b n cap ((cks.set i y).set j x)->StX (·=b) st st'->K st'):
  ((0<=J/\J<(lenZ 14 (.ms 14 b 0 n cap):Int))/\Ae ((Ah st [] (.t (ixT 14 (.ms 14 b 0 n cap) (Int.toNat J))) 0 14).map TV.agg) (fun (x1:TV)=>AK [.str,.int .i64,.bool,.bool,.str,.int .i64,.int .i64,.int .i64,.int .i64,.int .i64,.str,.tv,.tv,.tv] x1 (fun (a0:B8) (a1:Int) (a2:Bool) (a3:Bool) (a4:B8) (a5:Int) (a6:Int) (a7:Int) (a8:Int) (a9:Int) (a10:B8) (a11:TV) (a12:TV) (a13:TV)=>((0<=I/\I<(lenZ 14 (.ms 14 b 0 n cap):Int))/\Ae ((Ah st [] (.t (ixT 14 (.ms 14 b 0 n cap) (Int.toNat I))) 0 14).map TV.agg) (fun (x2:TV)=>AK [.str,.int .i64,.bool,.bool,.str,.int .i64,.int .i64,.int .i64,.int .i64,.int .i64,.str,.tv,.tv,.tv] x2 (fun (c0:B8) (c1:Int) (c2:Bool) (c3:Bool) (c4:B8) (c5:Int) (c6:Int) (c7:Int) (c8:Int) (c9:Int) (c10:B8) (c11:TV) (c12:TV) (c13:TV)=>((0<=I/\I<(lenZ 14 (.ms 14 b 0 n cap):Int))/\need (List.all [(.str a0),(.int .i64 a1),(.bool a2),(.bool a3),(.str a4),(.int .i64 a5),(.int .i64 a6),(.int .i64 a7),(.int .i64 a8),(.int .i64 a9),(.str a10),a11,a12,a13] At) (stB st (ixT 14 (.ms 14 b 0 n cap) (Int.toNat I)) [(.str a0),(.int .i64 a1),(.bool a2),(.bool a3),(.str a4),(.int .i64 a5),(.int .i64 a6),(.int .i64 a7),(.int .i64 a8),(.int .i64 a9),(.str a10),a11,a12,a13] (fun (st2:St)=>((0<=J/\J<(lenZ 14 (.ms 14 b 0 n cap):Int))/\need (List.all [(.str c0),(.int .i64 c1),(.bool c2),(.bool c3),(.str c4),(.int .i64 c5),(.int .i64 c6),(.int .i64 c7),(.int .i64 c8),(.int .i64 c9),(.str c10),c11,c12,c13] At) (stB st2 (ixT 14 (.ms 14 b 0 n cap) (Int.toNat J)) [(.str c0),(.int .i64 c1),(.bool c2),(.bool c3),(.str c4),(.int .i64 c5),(.int .i64 c6),(.int .i64 c7),(.int .i64 c8),(.int .i64 c9),(.str c10),c11,c12,c13] K))))))))))):=by
 subst hI hJ
 have li:=(List.getElem?_eq_some_iff.1 hi).1
 have lj:=(List.getElem?_eq_some_iff.1 hj).1
 have cx:=h.ck _ (List.mem_of_getElem? hi)
 have cy:=h.ck _ (List.mem_of_getElem? hj)
 have l1:=h.ld hj
 have l2:=h.ld hi
 have o1:=cx.one
 have o2:=cy.one
 have cx':=cx
 have cy':=cy
 simp only[Int.toNat_natCast]
 rw[h.lenZ]
 obtain⟨kx,n1,b1,b2,s2,n2,n3,n4,n5,n6,s3,u1,u2,u3,rfl,_⟩:=cx
 obtain⟨ky,m1,c1,c2,t2,m2,m3,m4,m5,m6,t3,v1,v2,v3,rfl,_⟩:=cy
 refine⟨⟨by omega,by omega⟩,Ad l1 (Jq ⟨⟨by omega,by omega⟩,Ad l2 (Jq ⟨⟨by omega,by omega⟩,Ab o2 (h.st hi cy' fun st2 hb2 e2=>⟨⟨by omega,by omega⟩,Ab o1 ?_⟩)⟩)⟩)⟩
 obtain⟨z,hz⟩:∃z,(cks.set i [.str ky,.int .i64 m1,.bool c1,.bool c2,.str t2,.int .i64 m2,.int .i64 m3,.int .i64 m4,.int .i64 m5,.int .i64 m6,.str t3,v1,v2,v3])[j]? =some z:=⟨_,List.getElem?_eq_getElem (by rw[List.length_set];exact lj)⟩
 exact hb2.st hz cx' fun st3 hb3 e3=>hk st3 hb3 (e2.trans e3)
theorem Qo {cmp:TV} (hc:LJ cmp) {I J:Int} {i j:Nat} {x y:List TV} {K:Int->St->Prop} (h:BxF st b n cap cks) (hI:I=(i:Int)) (hJ:J=(j:Int)) (hi:cks[i]? =some x) (hj:cks[j]? =some y) (hk:∀(r:Int) st',Ap st st'->(r<0↔Op.bytesLess (Ek x) (Ek y)=true)->K r st'):
  ((0<=I/\I<(lenZ 14 (.ms 14 b 0 n cap):Int))/\Ae ((Ah st [] (.t (ixT 14 (.ms 14 b 0 n cap) (Int.toNat I))) 0 14).map TV.agg) (fun (x1:TV)=>AK [.str,.int .i64,.bool,.bool,.str,.int .i64,.int .i64,.int .i64,.int .i64,.int .i64,.str,.tv,.tv,.tv] x1 (fun (a0:B8) (a1:Int) (a2:Bool) (a3:Bool) (a4:B8) (a5:Int) (a6:Int) (a7:Int) (a8:Int) (a9:Int) (a10:B8) (a11:TV) (a12:TV) (a13:TV)=>((0<=J/\J<(lenZ 14 (.ms 14 b 0 n cap):Int))/\Ae ((Ah st [] (.t (ixT 14 (.ms 14 b 0 n cap) (Int.toNat J))) 0 14).map TV.agg) (fun (x2:TV)=>AK [.str,.int .i64,.bool,.bool,.str,.int .i64,.int .i64,.int .i64,.int .i64,.int .i64,.str,.tv,.tv,.tv] x2 (fun (c0:B8) (c1:Int) (c2:Bool) (c3:Bool) (c4:B8) (c5:Int) (c6:Int) (c7:Int) (c8:Int) (c9:Int) (c10:B8) (c11:TV) (c12:TV) (c13:TV)=>FR PR cmp [(.agg [(.str a0),(.int .i64 a1),(.bool a2),(.bool a3),(.str a4),(.int .i64 a5),(.int .i64 a6),(.int .i64 a7),(.int .i64 a8),(.int .i64 a9),(.str a10),a11,a12,a13]),(.agg [(.str c0),(.int .i64 c1),(.bool c2),(.bool c3),(.str c4),(.int .i64 c5),(.int .i64 c6),(.int .i64 c7),(.int .i64 c8),(.int .i64 c9),(.str c10),c11,c12,c13])] [.one (.int .i64)] st K)))))):=by
 subst hI hJ
 have li:=(List.getElem?_eq_some_iff.1 hi).1
 have lj:=(List.getElem?_eq_some_iff.1 hj).1
 have cx:=h.ck _ (List.mem_of_getElem? hi)
 have cy:=h.ck _ (List.mem_of_getElem? hj)
 have l1:=h.ld hi
 have l2:=h.ld hj
 have cx':=cx
 have cy':=cy
 simp only[Int.toNat_natCast]
 rw[h.lenZ]
 obtain⟨kx,n1,b1,b2,s2,n2,n3,n4,n5,n6,s3,u1,u2,u3,rfl,_⟩:=cx
 obtain⟨ky,m1,c1,c2,t2,m2,m3,m4,m5,m6,t3,v1,v2,v3,rfl,_⟩:=cy
 exact⟨⟨by omega,by omega⟩,Ad l1 (Jq ⟨⟨by omega,by omega⟩,Ad l2 (Jq (hc _ _ _ _ cx' cy' hk))⟩)⟩
theorem BxF.ext {st':St} (h:BxF st b n cap cks) (e:Ap st st'):BxF st' b n cap cks:=⟨Nat.lt_of_lt_of_le h.lt e.nb,h.len,h.le,h.ck,by
 obtain⟨t,h1,h2⟩:=h.box
 exact⟨t,(e.box b h.lt).trans h1,h2⟩⟩
end
end
section
theorem FI:∀x:B8,Op.bytesLess x x=false
 | []=>rfl
 | a::x=>by
  have:=FI x
  simp[Op.bytesLess,this]
theorem Jj:∀x y:B8,Op.bytesLess x y=true->Op.bytesLess y x=false
 | [],[],h=>by cases h
 | [],b::y,h=>rfl
 | a::x,[],h=>by cases h
 | a::x,b::y,h=>by
  simp only[Op.bytesLess,Bool.or_eq_true,Bool.and_eq_true,decide_eq_true_eq,beq_iff_eq]at h
  simp only[Op.bytesLess,Bool.or_eq_false_iff,Bool.and_eq_false_iff,decide_eq_false_iff_not,beq_eq_false_iff_ne]
  rcases h with h | ⟨rfl,h⟩
  ·exact⟨fun g=>absurd (UInt8.lt_trans h g) (UInt8.lt_irrefl _),.inl (fun e=>by subst e;exact UInt8.lt_irrefl _ h)⟩
  ·exact⟨UInt8.lt_irrefl _,.inr (Jj x y h)⟩
theorem Fj:∀x y z:B8,Op.bytesLess y x=false->Op.bytesLess z y=false->Op.bytesLess z x=false
 | [],_,[],_,_=>rfl
 | a::x,_,[],h1,h2=>by
  rename_i y
  cases y with
  | nil=>cases h1
  | cons b y=>cases h2
 | [],y,c::z,_,_=>rfl
 | a::x,[],c::z,h1,h2=>by cases h1
 | a::x,b::y,c::z,h1,h2=>by
  simp only[Op.bytesLess,Bool.or_eq_false_iff,Bool.and_eq_false_iff,decide_eq_false_iff_not,beq_eq_false_iff_ne,UInt8.not_lt]at h1 h2⊢
  obtain⟨h1,h3⟩:=h1
  obtain⟨h2,h4⟩:=h2
  refine⟨UInt8.le_trans h1 h2,?_⟩
  by_cases hca:c=a
  ·right
   subst hca
   have hbc:b=c:=UInt8.le_antisymm h2 h1
   subst hbc
   exact Fj x y z (h3.resolve_left (fun h=>h rfl)) (h4.resolve_left (fun h=>h rfl))
  ·exact .inl hca
def lek (c d:List TV):Prop:=Op.bytesLess (Ek d) (Ek c)=false
theorem Ik (x y z:List TV) (h1:lek x y) (h2:lek y z):lek x z:=Fj _ _ _ h1 h2
theorem J4 (x:List TV):lek x x:=FI _
theorem FJ {x y:List TV} (h:Op.bytesLess (Ek x) (Ek y)=true):lek x y:=Jj _ _ h
section
variable {st:St} {b n cap:Nat}
theorem J7 {P L Q:List (List TV)} {cmp:TV} (hc:LJ cmp) (h:BxF st b n cap (P++L++Q)) (hn:n<=100000000) {A B:Int} (hA:A=(P.length:Int)) (hB:B=((P.length+L.length:Nat):Int)) {K:St->Prop}
  (hk:∀st' M,M.Perm L->Srt lek M->BxF st' b n cap (P++M++Q)->StX (·=b) st st'->K st'):
  CallT PR AH [.ms 14 b 0 n cap,.int .i64 A,.int .i64 B,cmp] [] st K:=by
 have hlen:=h.len
 simp only[List.length_append]at hlen
 refine Ba _ A B cmp st K ⟨fun i d a b' c' st'=>d= .ms 14 b 0 n cap/\a=A/\b'=B/\cmp=c'/\∃(k:Nat) (M R:List (List TV)),i=((P.length+k:Nat):Int)/\1<=k/\k<=L.length+1/\M.length=min k L.length/\(M++R).Perm L/\Srt lek M/\BxF st' b n cap (P++M++R++Q)/\StX (·=b) st st',
  fun i _ _ _ _ _=>(P.length+L.length+1-i).toNat,⟨rfl,rfl,rfl,rfl,1,L.take 1,L.drop 1,?_,Nat.le_refl _,by omega,by simp,(by rw[List.take_append_drop]),?_,(by rw[List.append_assoc P,List.take_append_drop];exact h),StX.refl _ _⟩,?_⟩
 ·rw[Ai _ (by omega) (by omega)];omega
 ·cases L with
  | nil=>exact List.Pairwise.nil
  | cons x L=>exact List.pairwise_singleton _ _
 rintro _ _ _ _ _ st1 ⟨rfl,rfl,rfl,rfl,k,M,R,rfl,hk1,hkl,hM,hp,hs,hb,e⟩
 subst hA hB
 refine Aa (fun g=>?_) fun g=>?_
 ·have hml:M.length=k:=by omega
  have hpl:=hp.length_eq
  simp only[List.length_append]at hpl
  obtain⟨x,R',rfl⟩:∃x R',R=x::R':=by cases R with | nil=>simp at hpl;omega | cons x R=>exact⟨x,R,rfl⟩
  simp only[List.length_cons]at hpl
  refine⟨fun j d a b' c' i' st'=>d= .ms 14 b 0 n cap/\a=(P.length:Int)/\b'=((P.length+L.length:Nat):Int)/\cmp=c'/\i'=((P.length+k:Nat):Int)/\∃A' B':List (List TV),j=((P.length+A'.length:Nat):Int)/\A'.length+B'.length=k/\(A'++x::B'++R').Perm L/\Srt lek (A'++B')/\(∀y,B'.head? =some y->lek x y)/\BxF st' b n cap (P++(A'++x::B')++R'++Q)/\StX (·=b) st st',
   fun j _ _ _ _ _ _=>j.toNat,⟨rfl,rfl,rfl,rfl,rfl,M,[],by omega,by simpa using hml,by simpa using hp,by simpa using hs,fun y hy=>by simp at hy,by simpa using hb,e⟩,?_⟩
  rintro _ _ _ _ _ _ st2 ⟨rfl,rfl,rfl,rfl,rfl,A',B',rfl,hab,hp2,hs2,hx,hb2,e2⟩
  have hp2l:=hp2.length_eq
  simp only[List.length_append,List.length_cons]at hp2l
  have next:∀st',StX (·=b) st st'->BxF st' b n cap (P++(A'++x::B')++R'++Q)->(∀y,A'.getLast? =some y->lek y x)->
    ∃(k':Nat) (M R:List (List TV)),i64.wrap (((P.length+k:Nat):Int)+1)=((P.length+k':Nat):Int)/\1<=k'/\k'<=L.length+1/\M.length=min k' L.length/\(M++R).Perm L/\Srt lek M/\BxF st' b n cap (P++M++R++Q)/\StX (·=b) st st':=fun st' e' hb' hy=>
   ⟨k+1,A'++x::B',R',by rw[Ai _ (by omega) (by omega)];omega,by omega,by omega,by simp only[List.length_append,List.length_cons];omega,hp2,PO Ik J4 hs2 hy hx,hb',e'⟩
  have ms:(P.length+L.length+1-i64.wrap (((P.length+k:Nat):Int)+1)).toNat<(P.length+L.length+1-((P.length+k:Nat):Int)).toNat:=by
   rw[Ai _ (by omega) (by omega)];omega
  refine Aa (fun g2=>?_) fun g2=>?_
  ·have hA0:A'≠ []:=by intro h0;subst h0;simp at g2
   obtain⟨A'',y,hA'⟩:∃A'' y,A'=A''++[y]:=⟨_,_,(List.dropLast_concat_getLast hA0).symm⟩
   subst hA'
   simp only[List.length_append,List.length_cons,List.length_nil]at hab g2 hp2l
   have wj:i64.wrap (((P.length+(A''++[y]).length:Nat):Int)-1)=((P.length+A''.length:Nat):Int):=by
    rw[Ai _ (by simp;omega) (by simp;omega)];simp;omega
   have ec:P++(A''++[y]++x::B')++R'++Q=(P++A'')++y::x::(B'++R'++Q):=by simp
   have gi:(P++(A''++[y]++x::B')++R'++Q)[P.length+(A''++[y]).length]? =some x:=by
    rw[ec,List.getElem?_append_right (by simp)]
    simp[show P.length+(A''.length+1)-(P.length+A''.length)=1 by omega]
   have gj:(P++(A''++[y]++x::B')++R'++Q)[P.length+A''.length]? =some y:=by
    rw[ec,List.getElem?_append_right (by simp)]
    simp
   rw[wj]
   refine Qo hc hb2 rfl rfl gi gj fun r st3 e3 hr=>?_
   have hb3:=hb2.ext e3
   have e23:=e2.trans (StX.of e3)
   refine Aa (fun g3=>?_) fun g3=>?_
   ·refine PK hb3 rfl rfl gi gj fun st4 hb4 e4=>?_
    have hset:((P++(A''++[y]++x::B')++R'++Q).set (P.length+(A''++[y]).length) y).set (P.length+A''.length) x=P++(A''++x::y::B')++R'++Q:=by
     rw[ec,List.set_append_right _ _ (by simp)]
     rw[show P.length+(A''++[y]).length-(P++A'').length=1 by simp only[List.length_append,List.length_cons,List.length_nil];omega,List.set_cons_succ,List.set_cons_zero,List.set_append_right _ _ (by simp)]
     rw[show P.length+A''.length-(P++A'').length=0 by simp,List.set_cons_zero]
     simp
    rw[hset]at hb4
    refine⟨⟨rfl,rfl,rfl,rfl,rfl,A'',y::B',rfl,by simp only[List.length_cons];omega,?_,by simpa using hs2,fun z hz=>?_,hb4,e23.trans e4⟩,by simp;omega⟩
    ·refine List.Perm.trans ?_ hp2
     simp only[List.append_assoc,List.cons_append,List.nil_append]
     exact List.Perm.append_left _ (List.Perm.swap _ _ _)
    ·simp at hz;subst hz
     exact FJ (hr.1 g3)
   ·refine⟨⟨rfl,rfl,rfl,rfl,next st3 e23 hb3 fun z hz=>?_⟩,ms⟩
    simp at hz;subst hz
    cases hq:Op.bytesLess (Ek x) (Ek y)with
    | true=>exact absurd (hr.2 hq) g3
    | false=>exact hq
  ·have hA0:A'=[]:=by
    cases A' with
    | nil=>rfl
    | cons z A'=>simp at g2;omega
   exact⟨⟨rfl,rfl,rfl,rfl,next st2 e2 hb2 fun z hz=>by subst hA0;simp at hz⟩,ms⟩
 ·have hp':=hp.length_eq
  simp only[List.length_append]at hp'
  have hR:R=[]:=List.eq_nil_of_length_eq_zero (by omega)
  subst hR
  exact hk st1 M (by simpa using hp) hs (by simpa using hb) e
end
end
section
theorem J8 (i j:Nat) (h:i+j<=1000000000):i64.wrap (Int.fdiv (IntKind.u64.wrap (i64.wrap ((i:Int)+(j:Int)))) (2^(min (Int.toNat (1:Int)) (IntKind.bits .u64))))=(((i+j)/2:Nat):Int):=by
 rw[Ai ((i:Int)+(j:Int)) (by omega) (by omega)]
 have hu:IntKind.u64.wrap ((i:Int)+(j:Int))=((i+j:Nat):Int):=by
  unfold IntKind.wrap
  simp only[IntKind.signed,IntKind.bits]
  simp
  omega
 rw[hu]
 have h2:((2:Int)^(min (Int.toNat (1:Int)) (IntKind.bits .u64)))=2:=by decide
 rw[h2]
 have h3:Int.fdiv ((i+j:Nat):Int) 2=(((i+j)/2:Nat):Int):=by
  rw[Int.fdiv_eq_ediv_of_nonneg _ (by omega)];omega
 rw[h3,Ai _ (by omega) (by omega)]
theorem ES {α:Type} {l:List α} {k:Nat} {x:α} (h:l[k]? =some x):(l.take (k+1)).getLast? =some x:=by
 obtain⟨hk,rfl⟩:=List.getElem?_eq_some_iff.1 h
 rw[List.take_succ_eq_append_getElem hk,List.getLast?_concat]
theorem Im {α:Type} {l:List α} {k:Nat} {x:α} (h:l[k]? =some x):(l.drop k).head? =some x:=by
 rw[List.head?_drop,h]
section
variable {st:St} {b n cap:Nat}
theorem sm_one {P R Q:List (List TV)} {x:List TV} {cmp:TV} (hc:LJ cmp) (h:BxF st b n cap (P++[x]++R++Q)) (hn:n<=100000000) (hs:Srt lek R) (hR:0<R.length) {A M B:Int} (hA:A=(P.length:Int)) (hM:M=((P.length+1:Nat):Int)) (hB:B=((P.length+1+R.length:Nat):Int)) {K:St->Prop}
  (hk:∀st' W,W.Perm ([x]++R)->Srt lek W->BxF st' b n cap (P++W++Q)->StX (·=b) st st'->K st'):
  CallT PR Aj [.ms 14 b 0 n cap,.int .i64 A,.int .i64 M,.int .i64 B,cmp] [] st K:=by
 have hlen:=h.len
 simp only[List.length_append,List.length_cons,List.length_nil]at hlen
 refine AW _ A M B cmp st K (Aa (fun _=>?_) fun g=>absurd (by subst hA hM;rw[Ai _ (by omega) (by omega)];omega) g)
 refine⟨fun i j d a c' st'=>d= .ms 14 b 0 n cap/\a=A/\cmp=c'/\∃u v:Nat,i=((P.length+1+u:Nat):Int)/\j=((P.length+1+v:Nat):Int)/\u<=v/\v<=R.length/\(∀y,(R.take u).getLast? =some y->lek y x)/\(∀y,(R.drop v).head? =some y->lek x y)/\BxF st' b n cap (P++[x]++R++Q)/\StX (·=b) st st',
  fun i j _ _ _ _=>(j-i).toNat,⟨rfl,rfl,rfl,0,R.length,by omega,by omega,Nat.zero_le _,Nat.le_refl _,fun y hy=>by simp at hy,fun y hy=>by simp at hy,h,StX.refl _ _⟩,?_⟩
 rintro _ _ _ _ _ st1 ⟨rfl,rfl,rfl,u,v,rfl,rfl,huv,hv,h1,h2,hb,e⟩
 subst hA hM hB
 have gx:(P++[x]++R++Q)[P.length]? =some x:=by simp
 refine Aa (fun g=>?_) fun g=>?_
 ·rw[J8 _ _ (by omega)]
  obtain⟨w,hw⟩:∃w,(P.length+1+u+(P.length+1+v))/2=P.length+1+w:=⟨(u+v)/2,by omega⟩
  have hwu:u<=w:=by omega
  have hwv:w<v:=by omega
  have hwr:w<R.length:=by omega
  rw[hw]
  have gy:(P++[x]++R++Q)[P.length+1+w]? =some R[w]:=by
   rw[List.append_assoc (P++[x]),List.getElem?_append_right (by simp only[List.length_append,List.length_cons,List.length_nil];omega),List.getElem?_append_left (by simp only[List.length_append,List.length_cons,List.length_nil];omega)]
   simp[show P.length+1+w-(P.length+1)=w by omega,hwr]
  have gw:R[w]? =some R[w]:=List.getElem?_eq_getElem hwr
  refine Qo hc hb rfl rfl gy gx fun r st2 e2 hr=>?_
  have hb2:=hb.ext e2
  have e12:=e.trans (StX.of e2)
  refine Aa (fun g3=>?_) fun g3=>?_
  ·exact⟨⟨rfl,rfl,rfl,w+1,v,by rw[Ai _ (by omega) (by omega)];omega,rfl,by omega,hv,fun y hy=>by rw[ES gw]at hy;cases hy;exact FJ (hr.1 g3),h2,hb2,e12⟩,by dsimp only;rw[Ai _ (by omega) (by omega)];omega⟩
  ·refine⟨⟨rfl,rfl,rfl,u,w,rfl,rfl,hwu,by omega,h1,fun y hy=>?_,hb2,e12⟩,by dsimp only;omega⟩
   rw[Im gw]at hy;cases hy
   cases hq:Op.bytesLess (Ek R[w]) (Ek x)with
   | true=>exact absurd (hr.2 hq) g3
   | false=>exact hq
 ·obtain rfl:u=v:=by omega
  refine⟨fun k d i st'=>d= .ms 14 b 0 n cap/\i=((P.length+1+u:Nat):Int)/\∃w:Nat,k=((P.length+w:Nat):Int)/\w<=u/\BxF st' b n cap (P++R.take w++[x]++R.drop w++Q)/\StX (·=b) st st',
   fun k _ _ _=>(P.length+u-k).toNat,⟨rfl,rfl,0,by omega,Nat.zero_le _,by simpa using hb,e⟩,?_⟩
  rintro _ _ _ st3 ⟨rfl,rfl,w,rfl,hwu,hb3,e3⟩
  have wi:i64.wrap (((P.length+1+u:Nat):Int)-1)=((P.length+u:Nat):Int):=by rw[Ai _ (by omega) (by omega)];omega
  rw[wi]
  refine Aa (fun g4=>?_) fun g4=>?_
  ·have hwr:w<R.length:=by omega
   have wk:i64.wrap (((P.length+w:Nat):Int)+1)=((P.length+w+1:Nat):Int):=by rw[Ai _ (by omega) (by omega)];omega
   have hd:R.drop w=R[w]::R.drop (w+1):=List.drop_eq_getElem_cons hwr
   have ec:P++R.take w++[x]++R.drop w++Q=(P++R.take w)++x::R[w]::(R.drop (w+1)++Q):=by rw[hd];simp only[List.append_assoc,List.cons_append,List.nil_append]
   have lc:(P++R.take w).length=P.length+w:=by simp;omega
   rw[ec]at hb3
   have gi:((P++R.take w)++x::R[w]::(R.drop (w+1)++Q))[P.length+w]? =some x:=by
    rw[List.getElem?_append_right (by omega),lc,Nat.sub_self];rfl
   have gj:((P++R.take w)++x::R[w]::(R.drop (w+1)++Q))[P.length+w+1]? =some R[w]:=by
    rw[List.getElem?_append_right (by omega),lc,show P.length+w+1-(P.length+w)=1 by omega];rfl
   rw[wk]
   refine PK hb3 rfl rfl gi gj fun st4 hb4 e4=>⟨⟨rfl,rfl,w+1,rfl,by omega,?_,e3.trans e4⟩,by dsimp only;omega⟩
   have hset:((((P++R.take w)++x::R[w]::(R.drop (w+1)++Q)).set (P.length+w) R[w]).set (P.length+w+1) x)=P++R.take (w+1)++[x]++R.drop (w+1)++Q:=by
    rw[List.set_append_right _ _ (by omega),lc,Nat.sub_self,List.set_cons_zero,List.set_append_right _ _ (by omega),lc,show P.length+w+1-(P.length+w)=1 by omega,List.set_cons_succ,List.set_cons_zero]
    have t1:R.take (w+1)=R.take w++[R[w]]:=by rw[List.take_succ_eq_append_getElem hwr]
    rw[t1];simp only[List.append_assoc,List.cons_append,List.nil_append]
   rw[hset]at hb4
   exact hb4
  ·obtain rfl:w=u:=by omega
   refine hk st3 (R.take w++x::R.drop w) ?_ (PO Ik J4 (by rw[List.take_append_drop];exact hs) h1 h2) (by simpa using hb3) e3
   refine List.perm_middle.trans ?_
   rw[List.take_append_drop];exact List.Perm.refl _
theorem sm_two {P L Q:List (List TV)} {x:List TV} {cmp:TV} (hc:LJ cmp) (h:BxF st b n cap (P++L++[x]++Q)) (hn:n<=100000000) (hs:Srt lek L) (hL:1<L.length) {A M B:Int} (hA:A=(P.length:Int)) (hM:M=((P.length+L.length:Nat):Int)) (hB:B=((P.length+L.length+1:Nat):Int)) {K:St->Prop}
  (hk:∀st' W,W.Perm (L++[x])->Srt lek W->BxF st' b n cap (P++W++Q)->StX (·=b) st st'->K st'):
  CallT PR Aj [.ms 14 b 0 n cap,.int .i64 A,.int .i64 M,.int .i64 B,cmp] [] st K:=by
 have hlen:=h.len
 simp only[List.length_append,List.length_cons,List.length_nil]at hlen
 refine AW _ A M B cmp st K (Aa (fun g=>absurd g (by subst hA hM;rw[Ai _ (by omega) (by omega)];omega)) fun _=>Aa (fun _=>?_) fun g=>absurd (by subst hB hM;rw[Ai _ (by omega) (by omega)];omega) g)
 refine⟨fun i j d m c' st'=>d= .ms 14 b 0 n cap/\m=M/\cmp=c'/\∃u v:Nat,i=((P.length+u:Nat):Int)/\j=((P.length+v:Nat):Int)/\u<=v/\v<=L.length/\(∀y,(L.take u).getLast? =some y->lek y x)/\(∀y,(L.drop v).head? =some y->lek x y)/\BxF st' b n cap (P++L++[x]++Q)/\StX (·=b) st st',
  fun i j _ _ _ _=>(j-i).toNat,⟨rfl,rfl,rfl,0,L.length,by omega,by omega,Nat.zero_le _,Nat.le_refl _,fun y hy=>by simp at hy,fun y hy=>by simp at hy,h,StX.refl _ _⟩,?_⟩
 rintro _ _ _ _ _ st1 ⟨rfl,rfl,rfl,u,v,rfl,rfl,huv,hv,h1,h2,hb,e⟩
 subst hA hM hB
 have gx:(P++L++[x]++Q)[P.length+L.length]? =some x:=by
  rw[List.append_assoc (P++L),List.getElem?_append_right (by simp),List.length_append,Nat.sub_self];rfl
 refine Aa (fun g=>?_) fun g=>?_
 ·rw[J8 _ _ (by omega)]
  obtain⟨w,hw⟩:∃w,(P.length+u+(P.length+v))/2=P.length+w:=⟨(u+v)/2,by omega⟩
  have hwu:u<=w:=by omega
  have hwv:w<v:=by omega
  have hwr:w<L.length:=by omega
  rw[hw]
  have gy:(P++L++[x]++Q)[P.length+w]? =some L[w]:=by
   rw[List.append_assoc,List.append_assoc,List.getElem?_append_right (by omega),List.getElem?_append_left (by omega),Nat.add_sub_cancel_left]
   exact List.getElem?_eq_getElem hwr
  have gw:L[w]? =some L[w]:=List.getElem?_eq_getElem hwr
  refine Qo hc hb rfl rfl gx gy fun r st2 e2 hr=>?_
  have hb2:=hb.ext e2
  have e12:=e.trans (StX.of e2)
  refine Ar (fun g3=>?_) fun g3=>?_
  ·refine⟨⟨rfl,rfl,rfl,w+1,v,by rw[Ai _ (by omega) (by omega)];omega,rfl,by omega,hv,fun y hy=>?_,h2,hb2,e12⟩,by dsimp only;rw[Ai _ (by omega) (by omega)];omega⟩
   rw[ES gw]at hy;cases hy
   cases hq:Op.bytesLess (Ek x) (Ek L[w])with
   | true=>have:=hr.2 hq;simp at g3;omega
   | false=>exact hq
  ·exact⟨⟨rfl,rfl,rfl,u,w,rfl,rfl,hwu,by omega,h1,fun y hy=>by rw[Im gw]at hy;cases hy;exact FJ (hr.1 (by simpa using g3)),hb2,e12⟩,by dsimp only;omega⟩
 ·obtain rfl:u=v:=by omega
  refine⟨fun k d i st'=>d= .ms 14 b 0 n cap/\i=((P.length+u:Nat):Int)/\∃w:Nat,k=((P.length+w:Nat):Int)/\u<=w/\w<=L.length/\BxF st' b n cap (P++L.take w++[x]++L.drop w++Q)/\StX (·=b) st st',
   fun k _ _ _=>k.toNat,⟨rfl,rfl,L.length,by omega,hv,Nat.le_refl _,by simpa using hb,e⟩,?_⟩
  rintro _ _ _ st3 ⟨rfl,rfl,w,rfl,hwu,hwl,hb3,e3⟩
  refine Aa (fun g4=>?_) fun g4=>?_
  ·obtain⟨w,rfl⟩:∃w',w=w'+1:=⟨w-1,by omega⟩
   have hwr:w<L.length:=by omega
   have wk:i64.wrap (((P.length+(w+1):Nat):Int)-1)=((P.length+w:Nat):Int):=by rw[Ai _ (by omega) (by omega)];omega
   have t1:L.take (w+1)=L.take w++[L[w]]:=by rw[List.take_succ_eq_append_getElem hwr]
   have ec:P++L.take (w+1)++[x]++L.drop (w+1)++Q=(P++L.take w)++L[w]::x::(L.drop (w+1)++Q):=by rw[t1];simp only[List.append_assoc,List.cons_append,List.nil_append]
   have lc:(P++L.take w).length=P.length+w:=by simp;omega
   rw[ec]at hb3
   have gi:((P++L.take w)++L[w]::x::(L.drop (w+1)++Q))[P.length+(w+1)]? =some x:=by
    rw[List.getElem?_append_right (by omega),lc,show P.length+(w+1)-(P.length+w)=1 by omega];rfl
   have gj:((P++L.take w)++L[w]::x::(L.drop (w+1)++Q))[P.length+w]? =some L[w]:=by
    rw[List.getElem?_append_right (by omega),lc,Nat.sub_self];rfl
   rw[wk]
   refine PK hb3 rfl rfl gi gj fun st4 hb4 e4=>⟨⟨rfl,rfl,w,rfl,by omega,by omega,?_,e3.trans e4⟩,by dsimp only;omega⟩
   have hset:((((P++L.take w)++L[w]::x::(L.drop (w+1)++Q)).set (P.length+(w+1)) L[w]).set (P.length+w) x)=P++L.take w++[x]++L.drop w++Q:=by
    rw[List.set_append_right _ _ (by omega),lc,show P.length+(w+1)-(P.length+w)=1 by omega,List.set_cons_succ,List.set_cons_zero,List.set_append_right _ _ (by omega),lc,Nat.sub_self,List.set_cons_zero]
    have hd:L.drop w=L[w]::L.drop (w+1):=List.drop_eq_getElem_cons hwr
    rw[hd];simp only[List.append_assoc,List.cons_append,List.nil_append]
   rw[hset]at hb4
   exact hb4
  ·obtain rfl:w=u:=by omega
   refine hk st3 (L.take w++x::L.drop w) ?_ (PO Ik J4 (by rw[List.take_append_drop];exact hs) h1 h2) (by simpa using hb3) e3
   refine List.perm_middle.trans ?_
   rw[List.take_append_drop]
   exact List.perm_append_comm (l₁:=[x])
end
end
section
section
variable {b n cap:Nat}
theorem Ln {cmp:TV} (hc:LJ cmp) (hn:n<=100000000):∀(N:Nat) {st:St} {P L R Q:List (List TV)} {A M B:Int} {K:St->Prop},L.length+R.length<=N->0<L.length->0<R.length->BxF st b n cap (P++L++R++Q)->Srt lek L->Srt lek R->
  A=(P.length:Int)->M=((P.length+L.length:Nat):Int)->B=((P.length+L.length+R.length:Nat):Int)->
  (∀st' W,W.Perm (L++R)->Srt lek W->BxF st' b n cap (P++W++Q)->StX (·=b) st st'->K st')->
  CallT PR Aj [.ms 14 b 0 n cap,.int .i64 A,.int .i64 M,.int .i64 B,cmp] [] st K:=by
 intro N
 induction N with
 | zero=>intro st P L R Q A M B K h0 h1;omega
 | succ N ih=>
 intro st P L R Q A M B K hN hL hR h sL sR hA hM hB hk
 have hlen:=h.len
 simp only[List.length_append]at hlen
 by_cases hL1:L.length=1
 ·obtain⟨x,rfl⟩:=List.length_eq_one_iff.1 hL1
  exact sm_one hc h hn sR hR hA (by simpa using hM) (by simpa using hB) hk
 by_cases hR1:R.length=1
 ·obtain⟨x,rfl⟩:=List.length_eq_one_iff.1 hR1
  exact sm_two hc h hn sL (by omega) hA hM (by simpa using hB) hk
 subst hA hM hB
 refine AW _ _ _ _ cmp st K (Aa (fun g=>absurd g (by rw[Ai _ (by omega) (by omega)];omega)) fun _=>Aa (fun g=>absurd g (by rw[Ai _ (by omega) (by omega)];omega)) fun _=>?_)
 obtain⟨H,hH⟩:∃H,H=(L.length+R.length)/2:=⟨_,rfl⟩
 have hmid:=J8 P.length (P.length+L.length+R.length) (by omega)
 have hmid2:(P.length+(P.length+L.length+R.length))/2=P.length+H:=by omega
 rw[hmid2]at hmid
 rw[hmid]
 --the bounds of the search
 obtain⟨u0,v0,hb0⟩:∃u0 v0:Nat,(P.length+H<P.length+L.length->u0=H-R.length/\v0=H)/\(¬P.length+H<P.length+L.length->u0=0/\v0=L.length):=by
  by_cases g:P.length+H<P.length+L.length
  ·exact⟨H-R.length,H,fun _=>⟨rfl,rfl⟩,fun g'=>absurd g g'⟩
  ·exact⟨0,L.length,fun g'=>absurd g' g,fun _=>⟨rfl,rfl⟩⟩
 have hnw:i64.wrap (((P.length+H:Nat):Int)+((P.length+L.length:Nat):Int))=((P.length+H+(P.length+L.length):Nat):Int):=by rw[Ai _ (by omega) (by omega)];omega
 rw[hnw]
 refine⟨fun s r d a m b' c mid n' st'=>d= .ms 14 b 0 n cap/\a=(P.length:Int)/\m=((P.length+L.length:Nat):Int)/\b'=((P.length+L.length+R.length:Nat):Int)/\cmp=c/\mid=((P.length+H:Nat):Int)/\n'=((P.length+H+(P.length+L.length):Nat):Int)/\st=st'/\s=((P.length+u0:Nat):Int)/\r=((P.length+v0:Nat):Int),?_,?_⟩
 ·refine Aa (fun g=>?_) fun g=>?_
  ·obtain⟨h1,h2⟩:=hb0.1 (by omega)
   exact⟨rfl,rfl,rfl,rfl,rfl,rfl,rfl,rfl,by rw[Ai _ (by omega) (by omega)];omega,by omega⟩
  ·obtain⟨h1,h2⟩:=hb0.2 (by omega)
   exact⟨rfl,rfl,rfl,rfl,rfl,rfl,rfl,rfl,by omega,by omega⟩
 rintro _ _ _ _ _ _ _ _ _ _ ⟨rfl,rfl,rfl,rfl,rfl,rfl,rfl,rfl,rfl,rfl⟩
 have hu0:u0<=v0/\v0<=L.length/\v0<=H/\H<=u0+R.length:=by
  by_cases g:P.length+H<P.length+L.length
  ·obtain⟨h1,h2⟩:=hb0.1 g;omega
  ·obtain⟨h1,h2⟩:=hb0.2 g;omega
 obtain⟨q1,q2,q3,q4⟩:=hu0
 refine⟨fun s r d a m b' c mid n' p st'=>d= .ms 14 b 0 n cap/\a=(P.length:Int)/\m=((P.length+L.length:Nat):Int)/\b'=((P.length+L.length+R.length:Nat):Int)/\cmp=c/\mid=((P.length+H:Nat):Int)/\n'=((P.length+H+(P.length+L.length):Nat):Int)/\p=((P.length+H+(P.length+L.length):Nat):Int)-1/\
   ∃u v:Nat,s=((P.length+u:Nat):Int)/\r=((P.length+v:Nat):Int)/\u0<=u/\u<=v/\v<=v0/\(∀x,(L.take u).getLast? =some x->∀y,(R.drop (H-u)).head? =some y->lek x y)/\(∀x,(R.take (H-v)).getLast? =some x->∀y,(L.drop v).head? =some y->lek x y)/\BxF st' b n cap (P++L++R++Q)/\StX (·=b) st st',
  fun s r _ _ _ _ _ _ _ _ _=>(r-s).toNat,⟨rfl,rfl,rfl,rfl,rfl,rfl,rfl,by rw[Ai _ (by omega) (by omega)],u0,v0,rfl,rfl,Nat.le_refl _,q1,Nat.le_refl _,?_,?_,h,StX.refl _ _⟩,?_⟩
 ·intro x hx y hy
  by_cases g:P.length+H<P.length+L.length
  ·obtain⟨h1,h2⟩:=hb0.1 g
   rw[List.drop_of_length_le (by omega)]at hy;simp at hy
  ·obtain⟨h1,h2⟩:=hb0.2 g
   rw[h1]at hx;simp at hx
 ·intro x hx y hy
  by_cases g:P.length+H<P.length+L.length
  ·obtain⟨h1,h2⟩:=hb0.1 g
   rw[h2,Nat.sub_self]at hx;simp at hx
  ·obtain⟨h1,h2⟩:=hb0.2 g
   rw[h2,List.drop_length]at hy;simp at hy
 rintro _ _ _ _ _ _ _ _ _ _ st1 ⟨rfl,rfl,rfl,rfl,rfl,rfl,rfl,rfl,u,v,rfl,rfl,hu,huv,hv,j1,j2,hb,e⟩
 refine Aa (fun g=>?_) fun g=>?_
 ·--one step of the search
  rw[J8 _ _ (by omega)]
  obtain⟨w,hw⟩:∃w,(P.length+u+(P.length+v))/2=P.length+w:=⟨(u+v)/2,by omega⟩
  have hwu:u<=w:=by omega
  have hwv:w<v:=by omega
  have hwl:w<L.length:=by omega
  have hwr:H-w-1<R.length:=by omega
  rw[hw]
  have wp:i64.wrap (((P.length+H+(P.length+L.length):Nat):Int)-1-((P.length+w:Nat):Int))=((P.length+L.length+(H-w-1):Nat):Int):=by rw[Ai _ (by omega) (by omega)];omega
  rw[wp]
  have gy:(P++L++R++Q)[P.length+w]? =some L[w]:=by
   rw[List.append_assoc,List.append_assoc,List.getElem?_append_right (by omega),List.getElem?_append_left (by omega),Nat.add_sub_cancel_left]
   exact List.getElem?_eq_getElem hwl
  have gx:(P++L++R++Q)[P.length+L.length+(H-w-1)]? =some R[H-w-1]:=by
   rw[List.append_assoc (P++L),List.getElem?_append_right (by rw[List.length_append];omega),List.length_append,Nat.add_sub_cancel_left,List.getElem?_append_left hwr]
   exact List.getElem?_eq_getElem hwr
  have ly:L[w]? =some L[w]:=List.getElem?_eq_getElem hwl
  have lx:R[H-w-1]? =some R[H-w-1]:=List.getElem?_eq_getElem hwr
  refine Qo hc hb rfl rfl gx gy fun r st2 e2 hr=>?_
  have hb2:=hb.ext e2
  have e12:=e.trans (StX.of e2)
  refine Ar (fun g3=>?_) fun g3=>?_
  ·refine⟨⟨rfl,rfl,rfl,rfl,rfl,rfl,rfl,rfl,w+1,v,by rw[Ai _ (by omega) (by omega)];omega,rfl,by omega,by omega,hv,fun x hx y hy=>?_,j2,hb2,e12⟩,by dsimp only;rw[Ai _ (by omega) (by omega)];omega⟩
   rw[ES ly]at hx;cases hx
   rw[show H-(w+1)=H-w-1 by omega,Im lx]at hy;cases hy
   cases hq:Op.bytesLess (Ek R[H-w-1]) (Ek L[w])with
   | true=>have:=hr.2 hq;simp at g3;omega
   | false=>exact hq
  ·refine⟨⟨rfl,rfl,rfl,rfl,rfl,rfl,rfl,rfl,u,w,rfl,rfl,hu,hwu,by omega,j1,fun x hx y hy=>?_,hb2,e12⟩,by dsimp only;omega⟩
   rw[show H-w=H-w-1+1 by omega,ES lx]at hx;cases hx
   rw[Im ly]at hy;cases hy
   exact FJ (hr.1 (by simpa using g3))
 ·obtain rfl:u=v:=by omega
  obtain⟨E,hE⟩:∃E,E=H-u:=⟨_,rfl⟩
  rw[<-hE]at j1 j2
  have wend:i64.wrap (((P.length+H+(P.length+L.length):Nat):Int)-((P.length+u:Nat):Int))=((P.length+L.length+E:Nat):Int):=by rw[Ai _ (by omega) (by omega)];omega
  rw[wend]
  have hER:E<=R.length:=by omega
  have huL:u<=L.length:=by omega
  have dL:L=L.take u++L.drop u:=(List.take_append_drop _ _).symm
  have dR:R=R.take E++R.drop E:=(List.take_append_drop _ _).symm
  have a1:(L.take u).length=u:=by simp;omega
  have a2:(L.drop u).length=L.length-u:=by simp
  have a3:(R.take E).length=E:=by simp;omega
  have a4:(R.drop E).length=R.length-E:=by simp
  generalize hL1':L.take u=L1 at*
  generalize hL2':L.drop u=L2 at*
  generalize hR1':R.take E=R1 at*
  generalize hR2':R.drop E=R2 at*
  have sL':Srt lek (L1++L2):=dL▸sL
  have sR':Srt lek (R1++R2):=dR▸sR
  obtain⟨z1,z2,_⟩:=List.pairwise_append.1 sL'
  obtain⟨z3,z4,_⟩:=List.pairwise_append.1 sR'
  --the second half
  have second:∀st2 W1,W1.Perm (L1++R1)->Srt lek W1->BxF st2 b n cap (P++W1++L2++R2++Q)->StX (·=b) st st2->
    BIf (decide (((P.length+H:Nat):Int)<((P.length+L.length+E:Nat):Int))) (BIf (decide (((P.length+L.length+E:Nat):Int)<((P.length+L.length+R.length:Nat):Int)))
     (CallT PR Aj [.ms 14 b 0 n cap,.int .i64 ((P.length+H:Nat):Int),.int .i64 ((P.length+L.length+E:Nat):Int),.int .i64 ((P.length+L.length+R.length:Nat):Int),cmp] [] st2 (fun s=>K s)) (K st2)) (K st2):=by
   intro st2 W1 p1 s1 hb2 e2
   have lw:=p1.length_eq
   rw[List.length_append]at lw
   have fin:∀st3 W2,W2.Perm (L2++R2)->Srt lek W2->BxF st3 b n cap (P++W1++W2++Q)->StX (·=b) st st3->K st3:=fun st3 W2 p2 s2 hb3 e3=>by
    obtain⟨t1,t2⟩:=SG Ik J4 sL' sR' j2 j1 p1 p2 s1 s2
    exact hk st3 (W1++W2) (by rw[dL,dR];exact t1) t2 (by simpa using hb3) e3
   refine Aa (fun g1=>Aa (fun g2=>?_) fun g2=>?_) fun g1=>?_
   ·refine ih (P:=P++W1) (L:=L2) (R:=R2) (Q:=Q) (by omega) (by omega) (by omega) hb2 z2 z4 (by rw[List.length_append];omega) (by rw[List.length_append];omega) (by rw[List.length_append];omega) fun st3 W2 p2 s2 hb3 e3=>fin st3 W2 p2 s2 hb3 (e2.trans e3)
   ·have:R2=[]:=List.eq_nil_of_length_eq_zero (by omega)
    subst this
    exact fin st2 L2 (by simp) z2 (by simpa using hb2) e2
   ·have:L2=[]:=List.eq_nil_of_length_eq_zero (by omega)
    subst this
    exact fin st2 R2 (by simp) z4 (by simpa using hb2) e2
  --both halves
  have both:∀st2,BxF st2 b n cap (P++L1++R1++L2++R2++Q)->StX (·=b) st st2->
    (∀W1 st3,W1.Perm (L1++R1)->Srt lek W1->BxF st3 b n cap (P++W1++L2++R2++Q)->StX (·=b) st st3->True):=fun _ _ _ _ _ _ _ _ _=>trivial
  have firstCall:∀(st2:St) (K':St->Prop),0<L1.length->0<R1.length->BxF st2 b n cap (P++L1++R1++L2++R2++Q)->(∀st3 W1,W1.Perm (L1++R1)->Srt lek W1->BxF st3 b n cap (P++W1++L2++R2++Q)->StX (·=b) st2 st3->K' st3)->
    CallT PR Aj [.ms 14 b 0 n cap,.int .i64 (P.length:Int),.int .i64 ((P.length+u:Nat):Int),.int .i64 ((P.length+H:Nat):Int),cmp] [] st2 K':=by
   intro st2 K' y1 y2 hb2 hK'
   exact ih (P:=P) (L:=L1) (R:=R1) (Q:=L2++R2++Q) (by omega) y1 y2 (by simpa using hb2) z1 z3 rfl (by omega) (by omega) fun st3 W1 p1 s1 hb3 e3=>hK' st3 W1 p1 s1 (by simpa using hb3) e3
  have hb':BxF st1 b n cap (P++(L1++L2)++(R1++R2)++Q):=by rw[<-dL,<-dR];exact hb
  refine Aa (fun g1=>Aa (fun g2=>?_) fun g2=>?_) fun g1=>?_
  ·refine Vn (P:=P++L1) (U:=L2) (V:=R1) (Q:=R2++Q) (by simpa using hb') hn (by omega) (by omega) (by rw[List.length_append];omega) (by rw[List.length_append];omega) (by rw[List.length_append];omega) fun st2 hb2 e2=>?_
   have hb2':BxF st2 b n cap (P++L1++R1++L2++R2++Q):=by simpa using hb2
   have e12:=e.trans e2
   refine Aa (fun g3=>Aa (fun g4=>?_) fun g4=>?_) fun g3=>?_
   ·exact firstCall st2 _ (by omega) (by omega) hb2' fun st3 W1 p1 s1 hb3 e3=>second st3 W1 p1 s1 hb3 (e12.trans e3)
   ·have:R1=[]:=List.eq_nil_of_length_eq_zero (by omega)
    subst this
    exact second st2 L1 (by simp) z1 (by simpa using hb2') e12
   ·have:L1=[]:=List.eq_nil_of_length_eq_zero (by omega)
    subst this
    exact second st2 R1 (by simp) z3 (by simpa using hb2') e12
  ·have hR0:R1=[]:=List.eq_nil_of_length_eq_zero (by omega)
   subst hR0
   have hb2':BxF st1 b n cap (P++L1++[]++L2++R2++Q):=by simpa using hb'
   refine Aa (fun g3=>Aa (fun g4=>?_) fun g4=>?_) fun g3=>?_
   ·exact absurd g4 (by simp at a3;omega)
   ·exact second st1 L1 (by simp) z1 (by simpa using hb2') e
   ·exact second st1 L1 (by simp) z1 (by simpa using hb2') e
  ·have hL0:L2=[]:=List.eq_nil_of_length_eq_zero (by omega)
   subst hL0
   have hb2':BxF st1 b n cap (P++L1++R1++[]++R2++Q):=by simpa using hb'
   refine Aa (fun g3=>Aa (fun g4=>?_) fun g4=>?_) fun g3=>?_
   ·exact firstCall st1 _ (by omega) (by omega) hb2' fun st3 W1 p1 s1 hb3 e3=>second st3 W1 p1 s1 hb3 (e.trans e3)
   ·have:R1=[]:=List.eq_nil_of_length_eq_zero (by omega)
    subst this
    exact second st1 L1 (by simp) z1 (by simpa using hb2') e
   ·have:L1=[]:=List.eq_nil_of_length_eq_zero (by omega)
    subst this
    exact second st1 R1 (by simp) z3 (by simpa using hb2') e
end
end
section
def SB (bs:Nat) (l:List (List TV)):Prop:=∀k,Srt lek ((l.drop (k*bs)).take bs)
theorem SB.nil (bs:Nat):SB bs []:=fun k=>by simp only[List.drop_nil,List.take_nil];exact List.Pairwise.nil
theorem SB.app {bs q:Nat} {S M:List (List TV)} (h:SB bs S) (hq:S.length=q*bs) (hm:M.length<=bs) (hs:Srt lek M):SB bs (S++M):=fun k=>by
 rcases Nat.lt_trichotomy k q with hk | hk | hk
 ·have:(k+1)*bs<=q*bs:=Nat.mul_le_mul_right _ hk
  rw[Nat.add_mul,Nat.one_mul]at this
  rw[List.drop_append_of_le_length (by omega),List.take_append_of_le_length (by rw[List.length_drop];omega)]
  exact h k
 ·subst hk
  rw[<-hq,List.drop_left,List.take_of_length_le hm]
  exact hs
 ·have:(q+1)*bs<=k*bs:=Nat.mul_le_mul_right _ hk
  rw[Nat.add_mul,Nat.one_mul]at this
  rw[List.drop_of_length_le (by rw[List.length_append];omega),List.take_nil]
  exact List.Pairwise.nil
theorem SB.drop {bs q:Nat} {l:List (List TV)} (h:SB bs l):SB bs (l.drop (q*bs)):=fun k=>by
 rw[List.drop_drop,<-Nat.add_mul]
 exact h (q+k)
theorem SB.all {bs:Nat} {l:List (List TV)} (h:SB bs l) (hl:l.length<=bs):Srt lek l:=by
 have:=h 0
 rw[Nat.zero_mul,List.drop_zero,List.take_of_length_le hl]at this
 exact this
section
variable {st:St} {b n cap:Nat}
theorem Vg {cmp:TV} (hc:LJ cmp) {D0:List (List TV)} (h:BxF st b n cap D0) (hn:n<=100000000) {N:Int} (hN:N=(n:Int)) {K:St->Prop} (hk:∀st' W,W.Perm D0->Srt lek W->BxF st' b n cap W->StX (·=b) st st'->K st'):
  CallT PR AR [.ms 14 b 0 n cap,.int .i64 N,cmp] [] st K:=by
 have hlen:=h.len
 subst hN
 refine By _ _ cmp st K ⟨fun a b' d n' c bs st'=>d= .ms 14 b 0 n cap/\n'=(n:Int)/\cmp=c/\bs=20/\∃(q:Nat) (S T:List (List TV)),a=((q*20:Nat):Int)/\b'=((q*20+20:Nat):Int)/\q*20<=n/\S.length=q*20/\SB 20 S/\(S++T).Perm D0/\BxF st' b n cap (S++T)/\StX (·=b) st st',
  fun a _ _ _ _ _ _=>(n-a).toNat,⟨rfl,rfl,rfl,rfl,0,[],D0,by omega,by omega,by omega,rfl,SB.nil _,by simp,by simpa using h,StX.refl _ _⟩,?_⟩
 rintro _ _ _ _ _ _ st1 ⟨rfl,rfl,rfl,rfl,q,S,T,rfl,rfl,hqn,hS,sb,hp,hb,e⟩
 have hl1:=hb.len
 rw[List.length_append]at hl1
 refine Aa (fun g=>?_) fun g=>?_
 ·have hT:T=T.take 20++T.drop 20:=(List.take_append_drop _ _).symm
  have lx:(T.take 20).length=20:=by simp;omega
  generalize T.take 20=X at*
  generalize T.drop 20=Y at*
  subst hT
  refine J7 (P:=S) (L:=X) (Q:=Y) hc (by simpa using hb) hn (by omega) (by omega) fun st2 M pm sm hb2 e2=>?_
  have lm:=pm.length_eq
  refine⟨⟨rfl,rfl,rfl,rfl,q+1,S++M,Y,by omega,by rw[Ai _ (by omega) (by omega)];omega,by omega,by rw[List.length_append];omega,sb.app hS (by omega) sm,?_,hb2,e.trans e2⟩,by dsimp only;omega⟩
  rw[List.append_assoc]
  exact((pm.append_right Y).append_left S).trans hp
 ·refine J7 (P:=S) (L:=T) (Q:=[]) hc (by simpa using hb) hn (by omega) (by omega) fun st2 M pm sm hb2 e2=>?_
  have lm:=pm.length_eq
  rw[List.append_nil]at hb2
  refine⟨fun bs d n' c st'=>d= .ms 14 b 0 n cap/\n'=(n:Int)/\cmp=c/\∃(s:Nat) (D:List (List TV)),bs=(s:Int)/\20<=s/\s<=200000020/\SB s D/\D.Perm D0/\BxF st' b n cap D/\StX (·=b) st st',
   fun bs _ _ _ _=>(n-bs).toNat,⟨rfl,rfl,rfl,20,S++M,rfl,Nat.le_refl _,by omega,sb.app hS (by omega) sm,(pm.append_left S).trans hp,hb2,e.trans e2⟩,?_⟩
  rintro _ _ _ _ st3 ⟨rfl,rfl,rfl,s,D,rfl,hs20,hsm,sbD,pD,hbD,eD⟩
  have hlD:=hbD.len
  refine Aa (fun g2=>?_) fun g2=>hk st3 D pD (sbD.all (by omega)) hbD eD
  have w2:i64.wrap (2*(s:Int))=((2*s:Nat):Int):=by rw[Ai _ (by omega) (by omega)];omega
  have ws2:i64.wrap ((s:Int)*2)=((2*s:Nat):Int):=by rw[Ai _ (by omega) (by omega)];omega
  refine⟨fun a b' d n' c bs st'=>d= .ms 14 b 0 n cap/\n'=(n:Int)/\cmp=c/\bs=(s:Int)/\∃(q:Nat) (S T:List (List TV)),a=((q*(2*s):Nat):Int)/\b'=((q*(2*s)+2*s:Nat):Int)/\q*(2*s)<=n/\S.length=q*(2*s)/\SB (2*s) S/\SB s T/\(S++T).Perm D0/\BxF st' b n cap (S++T)/\StX (·=b) st st',
   fun a _ _ _ _ _ _=>(n-a).toNat,⟨rfl,rfl,rfl,rfl,0,[],D,by simp,by rw[w2];simp,by omega,by simp,SB.nil _,sbD,by simpa using pD,by simpa using hbD,eD⟩,?_⟩
  rintro _ _ _ _ _ _ st4 ⟨rfl,rfl,rfl,rfl,q2,S2,T2,rfl,rfl,hq2,hS2,sbS,sbT,p2,hb4,e4⟩
  have hl4:=hb4.len
  rw[List.length_append]at hl4
  generalize hQ:q2*(2*s)=Qn at*
  have d1:=sbT 0
  have d2:=sbT 1
  rw[Nat.zero_mul,List.drop_zero]at d1
  rw[Nat.one_mul]at d2
  refine Aa (fun g3=>?_) fun g3=>?_
  ·rw[w2]
   have wa:i64.wrap ((Qn:Int)+(s:Int))=((Qn+s:Nat):Int):=by rw[Ai _ (by omega) (by omega)];omega
   rw[wa]
   have sb3:SB s (T2.drop (2*s)):=SB.drop (q:=2) sbT
   have hT:T2=T2.take s++((T2.drop s).take s++T2.drop (2*s)):=by
    have:T2.drop (2*s)=(T2.drop s).drop s:=by rw[List.drop_drop];congr 1;omega
    rw[this,List.take_append_drop,List.take_append_drop]
   have lx:(T2.take s).length=s:=by simp;omega
   have ly:((T2.drop s).take s).length=s:=by simp;omega
   generalize T2.take s=X at*
   generalize (T2.drop s).take s=Y at*
   generalize T2.drop (2*s)=Z at*
   subst hT
   refine Ln hc hn _ (P:=S2) (L:=X) (R:=Y) (Q:=Z) (Nat.le_refl _) (by omega) (by omega) (by simpa using hb4) d1 d2 (by omega) (by omega) (by omega) fun st5 W pw sw hb5 e5=>?_
   have lw:=pw.length_eq
   rw[List.length_append]at lw
   refine⟨⟨rfl,rfl,rfl,rfl,q2+1,S2++W,Z,by rw[Nat.add_mul,hQ];omega,by rw[Ai _ (by omega) (by omega),Nat.add_mul,hQ];omega,by rw[Nat.add_mul,hQ];omega,by rw[List.length_append,Nat.add_mul,hQ];omega,sbS.app (by rw[hQ];exact hS2) (by omega) sw,sb3,?_,hb5,e4.trans e5⟩,by dsimp only;omega⟩
   refine List.Perm.trans ?_ p2
   rw[List.append_assoc]
   exact((pw.append_right Z).append_left S2).trans (by simp)
  ·have wa:i64.wrap ((Qn:Int)+(s:Int))=((Qn+s:Nat):Int):=by rw[Ai _ (by omega) (by omega)];omega
   rw[wa,ws2]
   refine Aa (fun g4=>?_) fun g4=>?_
   ·have hT:T2=T2.take s++T2.drop s:=(List.take_append_drop _ _).symm
    have lx:(T2.take s).length=s:=by simp;omega
    have ly:(T2.drop s).length=T2.length-s:=by simp
    rw[List.take_of_length_le (by omega)]at d2
    generalize T2.take s=X at*
    generalize T2.drop s=Y at*
    subst hT
    rw[List.length_append]at*
    refine Ln hc hn _ (P:=S2) (L:=X) (R:=Y) (Q:=[]) (Nat.le_refl _) (by omega) (by omega) (by simpa using hb4) d1 d2 (by omega) (by omega) (by omega) fun st5 W pw sw hb5 e5=>?_
    have lw:=pw.length_eq
    rw[List.length_append]at lw
    rw[List.append_nil]at hb5
    exact⟨⟨rfl,rfl,rfl,2*s,S2++W,rfl,by omega,by omega,sbS.app (by rw[hQ];exact hS2) (by omega) sw,(pw.append_left S2).trans p2,hb5,e4.trans e5⟩,by dsimp only;omega⟩
   ·refine⟨⟨rfl,rfl,rfl,2*s,S2++T2,rfl,by omega,by omega,sbS.app (by rw[hQ];exact hS2) (by omega) (sbT.all (by omega)),p2,hb4,e4⟩,by dsimp only;omega⟩
theorem Oc {cmp:TV} (hc:LJ cmp) {D0:List (List TV)} (h:BxF st b n cap D0) (hn:n<=100000000) {K:St->Prop} (hk:∀st' W,W.Perm D0->Srt lek W->BxF st' b n cap W->StX (·=b) st st'->K st'):
  CallT PR AA [.ms 14 b 0 n cap,cmp] [] st K:=
 AX _ cmp st K (Ab rfl (Vg hc h hn rfl hk))
end
end
theorem A1 {g:Ghost} {w:World} {l:B8} {v:Value} (h:Rel g w (.str l) v):v= .string ⟨l.toArray⟩:=by cases h;rfl
theorem Rr {g:Ghost} {w:World} {k:IntKind} {n:Int} {v:Value} (h:Rel g w (.int k n) v):v= .int k n:=by cases h;rfl
theorem Ww {g:Ghost} {w:World} {x:TV} {vs:List Value} (h:AN g w [x] vs):∃v,vs=[v]/\Rel g w x v:=by
 obtain⟨v,h1,h2⟩:=h.get? (i:=0) rfl
 have:=h.1
 cases vs with
 | nil=>simp at this
 | cons a r=>cases r with
  | nil=>simp at h1;subst h1;exact⟨_,rfl,h2⟩
  | cons b r=>simp at this
theorem JW {g:Ghost} {w:World} {x y:TV} {vs:List Value} (h:AN g w [x,y] vs):∃v u,vs=[v,u]/\Rel g w x v/\Rel g w y u:=by
 obtain⟨v,h1,h2⟩:=h.get? (i:=0) rfl
 obtain⟨u,h3,h4⟩:=h.get? (i:=1) rfl
 have:=h.1
 cases vs with
 | nil=>simp at this
 | cons a r=>cases r with
  | nil=>simp at this
  | cons b r=>cases r with
   | nil=>simp at h1 h3;subst h1 h3;exact⟨_,_,rfl,h2,h4⟩
   | cons c r=>simp at this
theorem Kh:∀a b:B8,Lib.compareBytes a b<0↔Op.bytesLess a b=true
 | [],[]=>by simp[Lib.compareBytes,Op.bytesLess]
 | [],_::_=>by simp[Lib.compareBytes,Op.bytesLess]
 | _::_,[]=>by simp[Lib.compareBytes,Op.bytesLess]
 | a::x,b::y=>by
  unfold Lib.compareBytes Op.bytesLess
  by_cases h1:a<b
  ·simp[h1]
  ·by_cases h2:b<a
   ·have hne:a≠b:=fun e=>by subst e;exact UInt8.lt_irrefl _ h2
    simp[h1,h2,hne]
   ·have he:a=b:=UInt8.le_antisymm (UInt8.not_lt.1 h2) (UInt8.not_lt.1 h1)
    subst he
    simp[h1,Kh x y]
theorem TF {a b:B8} {st:St} {K:Int->St->Prop} (hk:K (Lib.compareBytes a b) st):CallT PR Fo [.str a,.str b] [.one (.int .i64)] st K:=by
 refine B4 (fun _ _=>by kernel_rfl) fun g w vargs s hr=>?_
 obtain⟨v,u,rfl,hv,hu⟩:=JW hr
 rw[A1 hv,A1 hu]
 refine Calls.mono (Tryz.strings_Compare ⟨a.toArray⟩ ⟨b.toArray⟩ w) ?_
 rintro e w' ⟨rfl,rfl⟩
 exact⟨_,rfl,.int .i64 _,st,g,hk,s,Rel.int _ _,Ext.refl _ _⟩
theorem Re:LJ (.func Cq []):=by
 intro c d st K hc hd hk
 obtain⟨kx,n1,b1,b2,s2,n2,n3,n4,n5,n6,s3,u1,u2,u3,rfl,_⟩:=hc
 obtain⟨ky,m1,c1,c2,t2,m2,m3,m4,m5,m6,t3,v1,v2,v3,rfl,_⟩:=hd
 exact Jx _ _ _ _ _ _ _ _ _ _ _ _ _ _ _ _ _ _ _ _ _ _ _ _ _ _ _ _ st K (TF (hk _ st (Ap.refl _) (Kh _ _)))
section
inductive Es {α β:Type} (R:α->β->Prop):List α->List β->Prop
 | nil:Es R [] []
 | cons {a:α} {b:β} {l:List α} {m:List β}:R a b->Es R l m->Es R (a::l) (b::m)
theorem Es.len {α β:Type} {R:α->β->Prop} {l:List α} {m:List β} (h:Es R l m):l.length=m.length:=by
 induction h with
 | nil=>rfl
 | cons _ _ ih=>simp[ih]
theorem Es.perm {α β:Type} {R:α->β->Prop} {m m':List β} (p:m'.Perm m):∀{l:List α},Es R l m->∃l',l'.Perm l/\Es R l' m':=by
 induction p with
 | nil=>intro l h;cases h;exact⟨[],.nil,.nil⟩
 | cons x p ih=>
  intro l h
  cases h with
  | cons r h=>obtain⟨l',p',h'⟩:=ih h;exact⟨_::l',p'.cons _,.cons r h'⟩
 | swap x y l0=>
  intro l h
  cases h with
  | cons r1 h=>cases h with
   | cons r2 h=>exact⟨_,List.Perm.swap _ _ _,.cons r2 (.cons r1 h)⟩
 | trans p1 p2 ih1 ih2=>
  intro l h
  obtain⟨l1,q1,h1⟩:=ih2 h
  obtain⟨l2,q2,h2⟩:=ih1 h1
  exact⟨l2,q2.trans q1,h2⟩
theorem FsR.chunks {st:St}:∀{f:List Fd} {xs:List TV},FsR st f xs->∃cks:List (List TV),xs=cks.flatten/\Es (FdR st) f cks
 | [],xs,h=>by unfold FsR at h;subst h;exact⟨[],rfl,.nil⟩
 | d::r,xs,h=>by
  unfold FsR at h
  obtain⟨a,b,rfl,h1,h2⟩:=h
  obtain⟨cks,rfl,h3⟩:=FsR.chunks h2
  exact⟨a::cks,by simp,.cons h1 h3⟩
theorem FsR.of_chunks {st:St} {f:List Fd} {cks:List (List TV)} (h:Es (FdR st) f cks):FsR st f cks.flatten:=by
 induction h with
 | nil=>unfold FsR;rfl
 | cons r _ ih=>unfold FsR;exact⟨_,_,by simp,r,ih⟩
theorem SlR.one {st:St} {sz n:Nat} {u:TV} {xs:List TV} (h:SlR st sz u n xs):At u=true:=by
 rcases h with(⟨rfl,_⟩ | ⟨tip,rfl⟩) | ⟨b,off,cap,l,rfl,_⟩<;>rfl
theorem FdR.ck {st:St} {d:Fd} {cs:List TV} (h:FdR st d cs):Ck cs/\Ek cs=d.key:=by
 cases d with
 | mk k v=>
  unfold FdR at h
  obtain⟨c,rfl,h⟩:=h
  cases v with
  | mk s l f=>
   unfold VlR at h
   obtain⟨ub,ul,uf,xl,xf,rfl,h1,h2,_,h3,_⟩:=h
   exact⟨⟨k,_,_,_,_,_,_,_,_,_,_,ub,ul,uf,rfl,h1.one,h2.one,h3.one⟩,rfl⟩
theorem Es.cks {st:St} {f:List Fd} {cks:List (List TV)} (h:Es (FdR st) f cks):∀c,c∈cks->Ck c:=by
 induction h with
 | nil=>intro c hc;cases hc
 | cons r _ ih=>
  intro c hc
  rcases List.mem_cons.1 hc with rfl | hc
  ·exact r.ck.1
  ·exact ih c hc
theorem SlR.src {st:St} {sz n:Nat} {u:TV} {xs:List TV} (h:SlR st sz u n xs) (hl:xs.length=n*sz):EG st sz u=some (n,xs):=by
 rcases h with(⟨rfl,rfl,rfl⟩ | ⟨tip,rfl⟩) | ⟨b,off,cap,l,rfl,h2,h3,h4,h5,rfl⟩
 ·rfl
 ·simp[EG]
 ·have hlt:n*sz<=cap*sz:=Nat.mul_le_mul_right _ h5
  have e:=Il (B:=l.drop (off+n*sz)) (st:=st) (b:=b) ((l.drop off).take (n*sz)) l 0 off h3 (by
   rw[Nat.add_zero,<-List.drop_drop,List.take_append_drop])
  rw[show((l.drop off).take (n*sz)).length=n*sz by simp;omega]at e
  simp only[EG,Nat.beq_refl]
  rw[e]
theorem FsR.all_one {st:St} {f:List Fd} {xs:List TV} (h:FsR st f xs):List.all xs At=true:=by
 obtain⟨cks,rfl,h2⟩:=h.chunks
 rw[List.all_flatten,List.all_eq_true]
 exact fun c hc=>(h2.cks c hc).one
theorem Ap.keeps {a b:St} (h:Ap a b):B1 a b:=⟨h.nb,h.box⟩
section
variable {st:St}
theorem PL {data cmp:TV} {K:St->Prop} (hk:K st):CallT PR AR [data,.int .i64 0,cmp] [] st K:=by
 refine By _ _ cmp st K ⟨fun a b' d n' c bs st'=>a=0/\b'=20/\n'=0/\bs=20/\st=st',fun _ _ _ _ _ _ _=>0,⟨rfl,rfl,rfl,rfl,rfl⟩,?_⟩
 rintro _ _ _ _ _ _ _ ⟨rfl,rfl,rfl,rfl,rfl⟩
 refine Aa (fun g=>absurd g (by omega)) fun _=>?_
 refine Ba _ _ _ _ st _ ⟨fun i _ _ b' _ st'=>i=1/\b'=0/\st=st',fun _ _ _ _ _ _=>0,⟨by rw[Ai _ (by omega) (by omega)];rfl,rfl,rfl⟩,?_⟩
 rintro _ _ _ _ _ _ ⟨rfl,rfl,rfl⟩
 refine Aa (fun g=>absurd g (by omega)) fun _=>?_
 refine⟨fun bs _ n' _ st'=>bs=20/\n'=0/\st=st',fun _ _ _ _ _=>0,⟨rfl,rfl,rfl⟩,?_⟩
 rintro _ _ _ _ _ ⟨rfl,rfl,rfl⟩
 exact Aa (fun g=>absurd g (by omega)) fun _=>hk
def Oq (f:List Fd):Prop:=f.Pairwise fun x y=>Op.bytesLess y.key x.key=false
theorem srtF_of {st:St} {f:List Fd} {cks:List (List TV)} (h:Es (FdR st) f cks) (hs:Srt lek cks):Oq f:=by
 induction h with
 | nil=>exact List.Pairwise.nil
 | cons r t ih=>
  rename_i d c f' cks'
  obtain⟨h1,h2⟩:=List.pairwise_cons.1 hs
  refine List.pairwise_cons.2 ⟨fun x hx=>?_,ih h2⟩
  have:∀{l:List Fd} {m:List (List TV)},Es (FdR st) l m->x∈l->∃y,y∈m/\FdR st x y:=by
   intro l m h
   induction h with
   | nil=>intro hx;cases hx
   | cons r _ ih=>
    intro hx
    rcases List.mem_cons.1 hx with rfl | hx
    ·exact⟨_,.head _,r⟩
    ·obtain⟨y,h1,h2⟩:=ih hx;exact⟨y,.tail _ h1,h2⟩
  obtain⟨y,hy,hxy⟩:=this t hx
  have:=h1 y hy
  unfold lek at this
  rw[hxy.ck.2,r.ck.2]at this
  exact this
end
end
def GI (st:St) (sz:Nat) (u:TV) (n:Nat) (xs:List TV) (bs:List Nat):Prop:=
 (n=0/\xs=[]/\bs=[]/\(u= .nilSlice∨u= .list sz .full 0 []))∨∃b cap tail,u= .ms sz b 0 n cap/\b<st.nb/\st.box b= .cells (xs++tail)/\(xs++tail).length=cap*sz/\xs.length=n*sz/\n<=cap/\bs=[b]
theorem GI.rd {st:St} {sz n:Nat} {u:TV} {xs:List TV} {bs:List Nat} (h:GI st sz u n xs bs):SlR st sz u n xs:=by
 rcases h with⟨rfl,rfl,rfl,rfl | rfl⟩ | ⟨b,cap,tail,rfl,h1,h2,h3,h4,h5,rfl⟩
 ·exact .inl (.inl ⟨rfl,rfl,rfl⟩)
 ·exact .inl (.inr ⟨_,rfl⟩)
 ·exact .inr ⟨b,0,cap,_,rfl,h1,h2,by omega,h5,by rw[List.drop_zero,<-h4,List.take_left]⟩
theorem SM (xs ys tail:List TV) (h:ys.length<=tail.length):setAll (xs++tail) xs.length ys=xs++ys++tail.drop ys.length:=by
 have e:tail=tail.take ys.length++tail.drop ys.length:=(List.take_append_drop _ _).symm
 have:=Ja ys xs (tail.take ys.length) (tail.drop ys.length) (by simp;omega)
 rw[List.append_assoc,List.take_append_drop]at this
 exact this
theorem V4 {T sz bytes:Nat} {st:St} {u:TV} {n k:Nat} {xs ys:List TV} {bs:List Nat} {K:TV->St->Prop} (h:GI st sz u n xs bs) (hk1:0<k) (hy:ys.length=k*sz) (hby:(n+k)*bytes<=140737488355328)
  (hK:∀u' st' bs',GI st' sz u' (n+k) (xs++ys) bs'->StX (·∈bs) st st'->((bs'=bs/\bs≠ [])∨bs'=[st.nb])->K u' st'):Kk T sz bytes u k ys st K:=by
 obtain⟨m,rfl⟩:∃m,k=m+1:=⟨k-1,by omega⟩
 have fresh:∀(zs:List TV) (N cap:Nat),zs.length=N*sz->N<=cap->GI (st.push (.cells (zs++El ((cap-N)*sz))) (some T)) sz (.ms sz st.nb 0 N cap) N zs [st.nb]:=fun zs N cap h1 h2=>
  .inr ⟨st.nb,cap,El ((cap-N)*sz),rfl,by simp[St.push],by simp[St.push],by rw[List.length_append,h1];simp only[El,List.length_replicate];rw[<-Nat.add_mul];congr 1;omega,h1,h2,rfl⟩
 rcases h with⟨rfl,rfl,rfl,rfl | rfl⟩ | ⟨b,cap,tail,rfl,h1,h2,h3,h4,h5,rfl⟩
 ·simp only[Kk,As]
  refine⟨by simpa using hby,fun cap hc=>hK _ _ [st.nb] ?_ (StX.of ((Ap.refl st).push _ _)) (.inr rfl)⟩
  have:=fresh ys (m+1) cap hy hc
  simpa using this
 ·simp only[Kk,Nat.beq_refl]
  refine⟨hby,fun cap hc=>hK _ _ [st.nb] ?_ (StX.of ((Ap.refl st).push _ _)) (.inr rfl)⟩
  have:=fresh ys (0+(m+1)) cap (by rw[hy];congr 1;omega) hc
  simpa using this
 ·simp only[Kk,Nat.beq_refl]
  rw[List.length_append]at h3
  refine⟨hby,_,h2,by rw[List.length_append];omega,fun hc=>?_,fun hc cap' hc'=>?_⟩
  ·have hmul:(n+(m+1))*sz<=cap*sz:=Nat.mul_le_mul_right _ hc
   rw[Nat.add_mul]at hmul
   rw[Nat.zero_add,<-h4,SM xs ys tail (by omega)]
   refine hK _ _ [b] (.inr ⟨b,cap,tail.drop ys.length,rfl,h1,by simp[St.put],by simp only[List.length_append,List.length_drop];omega,by rw[List.length_append,h4,hy,<-Nat.add_mul],hc,rfl⟩) (StX.put (S:=(·∈ [b])) (.head _) _) (.inl ⟨rfl,by simp⟩)
  ·rw[List.drop_zero,<-h4,List.take_left]
   exact hK _ _ [st.nb] (fresh (xs++ys) (n+(m+1)) cap' (by rw[List.length_append,h4,hy,<-Nat.add_mul]) hc') (StX.of ((Ap.refl st).push _ _)) (.inr rfl)
end Go.TVF
