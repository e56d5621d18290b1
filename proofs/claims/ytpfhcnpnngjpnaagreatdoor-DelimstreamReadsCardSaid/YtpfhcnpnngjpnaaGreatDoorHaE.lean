/- What the laws below rest on: a framework for Go programs, and contracts of the functions that they reach. -/
import Derived.Test.YtpfhcnpnngjpnaaGreatDoorHaD
import Derived.Lib.DecodeN
set_option maxRecDepth 20000
set_option linter.unusedVariables false
set_option linter.unusedSimpArgs false
namespace Go.TVF
open Go.IntKind(i64 u8)
open Go Go.Proofs
theorem H9 (s:B8) (d_0:Int) (d_1:Int) (d_2:Bool) (d_3:Bool) (st:St) (K:B8->St->Prop) (h:BId (s=([]:B8)) (K s st) (((0<=(0:Int)/\(0:Int)<(s.length:Int))/\BId (((List.getD s (Int.toNat (0:Int)) 0).toNat:Int)≠d_1) (K s st) (∃(I1:B8->Int->B8->Int->Int->Bool->Bool->St->Prop) (M1:B8->Int->B8->Int->Int->Bool->Bool->St->Nat),(I1 [] 1 s d_0 d_1 d_2 d_3 st)/\∀c a b n1 n2 b1 b2 d,I1 c a b n1 n2 b1 b2 d->(BId ((i64.wrap (a+(1:Int)))<(b.length:Int)) (((0<=a/\a<=(i64.wrap (a+(1:Int)))/\(i64.wrap (a+(1:Int)))<=(b.length:Int))/\(c.length+((List.drop a.toNat (List.take (Int.toNat (i64.wrap (a+(1:Int)))) b))).length<=9223372036854775807/\((0<=a/\a<(b.length:Int))/\BId (((List.getD b a.toNat 0).toNat:Int)=n2) ((I1 ((c++(List.drop a.toNat (List.take (Int.toNat (i64.wrap (a+(1:Int)))) b)))) ((i64.wrap ((i64.wrap (a+(1:Int)))+(1:Int)))) b n1 n2 b1 b2 d/\M1 ((c++(List.drop a.toNat (List.take (Int.toNat (i64.wrap (a+(1:Int)))) b)))) ((i64.wrap ((i64.wrap (a+(1:Int)))+(1:Int)))) b n1 n2 b1 b2 d<M1 c a b n1 n2 b1 b2 d)) ((I1 ((c++(List.drop a.toNat (List.take (Int.toNat (i64.wrap (a+(1:Int)))) b)))) ((i64.wrap (a+(1:Int)))) b n1 n2 b1 b2 d/\M1 ((c++(List.drop a.toNat (List.take (Int.toNat (i64.wrap (a+(1:Int)))) b)))) ((i64.wrap (a+(1:Int)))) b n1 n2 b1 b2 d<M1 c a b n1 n2 b1 b2 d)))))) (K c d)))))):Ad PR By [.str s,(.agg [.int .u8 d_0,.int .u8 d_1,.bool d_2,.bool d_3])] [.one .str] st K:=
 Ai (cfg:=⟨[3],[],[]⟩) (h:=(.seq .none (.seq .none (.seq .none (.seq (.seq .none (.block (.loop ⟨[(5,.str),(6,.int .i64),(0,.str)],[(3,0,0)],[(0,4)],[(0,0,.int .u8),(0,1,.int .u8),(0,2,.bool),(0,3,.bool)]⟩ .none))) .none))))) mixed (fun _ _=>Tryz.call172 _ _) Tryz.func172 (by kernel_rfl) (by kernel_rfl) h
theorem ML (b:Int) (st:St) (K:Bool->St->Prop) (h:BId ((97:Int)<=b) (BId (b<=122) (K true st) (BId ((65:Int)<=b) (K ((decide (b<=90))) st) (K false st))) (BId ((65:Int)<=b) (K ((decide (b<=90))) st) (K false st))):Ad PR Fc [.int .u8 b] [.one .bool] st K:=
 Ai (cfg:=⟨[],[],[]⟩) (h:= .none) mixed (fun _ _=>Tryz.call203 _ _) Tryz.func203 (by kernel_rfl) (by kernel_rfl) h
theorem FW (x_0:B8) (x_1:Int) (x_2:Int) (x_3:Bool) (x_4:Bool) (x_5:Int) (x_6:Int) (x_7:Int) (x_8:Int) (x_9:Int) (x_10:Int) (x_11:Int) (x_12:Int) (x_13:Int) (off:Int) (e:Int) (st:St) (K:B8->Int->Int->Bool->Bool->Int->Int->Int->Int->Int->Int->Int->Int->Int->St->Prop) (h:BId (x_13=0) (K x_0 x_1 x_2 x_3 x_4 x_5 x_6 x_7 x_8 x_9 x_10 x_11 off e st) (K x_0 x_1 x_2 x_3 x_4 x_5 x_6 x_7 x_8 x_9 x_10 x_11 x_12 x_13 st)):Ad PR Aj [(.agg [.str x_0,.int .u8 x_1,.int .u8 x_2,.bool x_3,.bool x_4,.int .i64 x_5,.int .i64 x_6,.int .i64 x_7,.int .i64 x_8,.int .i64 x_9,.int .i64 x_10,.int .i64 x_11,.int .i64 x_12,.int .i64 x_13]),.int .i64 off,.int .i64 e] [.agg [.str,.int .u8,.int .u8,.bool,.bool,.int .i64,.int .i64,.int .i64,.int .i64,.int .i64,.int .i64,.int .i64,.int .i64,.int .i64]] st K:=
 Ai (cfg:=⟨[3,6],[],[]⟩) (h:= .none) mixed (fun _ _=>Tryz.call206 _ _) Tryz.func206 (by kernel_rfl) (by kernel_rfl) h
theorem IC (x_0:B8) (x_1:Int) (x_2:Int) (x_3:Bool) (x_4:Bool) (x_5:Int) (x_6:Int) (x_7:Int) (x_8:Int) (x_9:Int) (x_10:Int) (x_11:Int) (x_12:Int) (x_13:Int) (st:St) (K:B8->Int->Int->Bool->Bool->Int->Int->Int->Int->Int->Int->Int->Int->Int->B8->St->Prop) (h:BId (x_10<(x_0.length:Int)) (((0<=x_10/\x_10<(x_0.length:Int))/\BId (((List.getD x_0 x_10.toNat 0).toNat:Int)=x_2) (∃(I1:Int->B8->Int->Int->Bool->Bool->Int->Int->Int->Int->Int->Int->Int->Int->Int->St->Prop) (M1:Int->B8->Int->Int->Bool->Bool->Int->Int->Int->Int->Int->Int->Int->Int->Int->St->Nat),(I1 x_10 x_0 x_1 x_2 x_3 x_4 x_5 x_6 x_7 x_8 x_9 ((i64.wrap (x_10+(1:Int)))) x_11 x_12 x_13 st)/\∀a s1 n1 n2 b1 b2 n3 n4 n5 n6 n7 n8 n9 i f g,I1 a s1 n1 n2 b1 b2 n3 n4 n5 n6 n7 n8 n9 i f g->(BId (n8<(s1.length:Int)) (((0<=n8/\n8<(s1.length:Int))/\BId (((List.getD s1 n8.toNat 0).toNat:Int)≠n2) (((0<=n8/\n8<(s1.length:Int))/\BId (((List.getD s1 n8.toNat 0).toNat:Int)=n2) ((I1 a s1 n1 n2 b1 b2 n3 n4 n5 n6 n7 ((i64.wrap ((i64.wrap (n8+(1:Int)))+(1:Int)))) n9 i f g/\M1 a s1 n1 n2 b1 b2 n3 n4 n5 n6 n7 ((i64.wrap ((i64.wrap (n8+(1:Int)))+(1:Int)))) n9 i f g<M1 a s1 n1 n2 b1 b2 n3 n4 n5 n6 n7 n8 n9 i f g)) ((I1 a s1 n1 n2 b1 b2 n3 n4 n5 n6 n7 ((i64.wrap (n8+(1:Int)))) n9 i f g/\M1 a s1 n1 n2 b1 b2 n3 n4 n5 n6 n7 ((i64.wrap (n8+(1:Int)))) n9 i f g<M1 a s1 n1 n2 b1 b2 n3 n4 n5 n6 n7 n8 n9 i f g)))) (BId ((i64.wrap (n8+(1:Int)))<(s1.length:Int)) (((0<=(i64.wrap (n8+(1:Int)))/\(i64.wrap (n8+(1:Int)))<(s1.length:Int))/\BId (((List.getD s1 (Int.toNat (i64.wrap (n8+(1:Int)))) 0).toNat:Int)=n2) (((0<=n8/\n8<(s1.length:Int))/\BId (((List.getD s1 n8.toNat 0).toNat:Int)=n2) ((I1 a s1 n1 n2 b1 b2 n3 n4 n5 n6 n7 ((i64.wrap ((i64.wrap (n8+(1:Int)))+(1:Int)))) n9 i f g/\M1 a s1 n1 n2 b1 b2 n3 n4 n5 n6 n7 ((i64.wrap ((i64.wrap (n8+(1:Int)))+(1:Int)))) n9 i f g<M1 a s1 n1 n2 b1 b2 n3 n4 n5 n6 n7 n8 n9 i f g)) ((I1 a s1 n1 n2 b1 b2 n3 n4 n5 n6 n7 ((i64.wrap (n8+(1:Int)))) n9 i f g/\M1 a s1 n1 n2 b1 b2 n3 n4 n5 n6 n7 ((i64.wrap (n8+(1:Int)))) n9 i f g<M1 a s1 n1 n2 b1 b2 n3 n4 n5 n6 n7 n8 n9 i f g)))) (BId ((s1.length:Int)<=n8) (Ad PR Aj [(.agg [.str s1,.int .u8 n1,.int .u8 n2,.bool b1,.bool b2,.int .i64 n3,.int .i64 n4,.int .i64 n5,.int .i64 n6,.int .i64 n7,.int .i64 n8,.int .i64 n9,.int .i64 i,.int .i64 f]),(.int .i64 (s1.length:Int)),.int .i64 4] [.agg [.str,.int .u8,.int .u8,.bool,.bool,.int .i64,.int .i64,.int .i64,.int .i64,.int .i64,.int .i64,.int .i64,.int .i64,.int .i64]] g (fun (s2:B8) (f7 g8:Int) (b3 b4:Bool) (e7 h9 a8 d6 h0 f2 e2 g2 d9:Int) e3=>K s2 f7 g8 b3 b4 e7 h9 a8 d6 h0 f2 e2 g2 d9 [] e3)) (((0<=a/\a<=(i64.wrap (n8+(1:Int)))/\(i64.wrap (n8+(1:Int)))<=(s1.length:Int))/\K s1 n1 n2 b1 b2 n3 n4 n5 n6 n7 ((i64.wrap (n8+(1:Int)))) n9 i f ((List.drop a.toNat (List.take (Int.toNat (i64.wrap (n8+(1:Int)))) s1))) g))))) (BId ((s1.length:Int)<=n8) (Ad PR Aj [(.agg [.str s1,.int .u8 n1,.int .u8 n2,.bool b1,.bool b2,.int .i64 n3,.int .i64 n4,.int .i64 n5,.int .i64 n6,.int .i64 n7,.int .i64 n8,.int .i64 n9,.int .i64 i,.int .i64 f]),(.int .i64 (s1.length:Int)),.int .i64 4] [.agg [.str,.int .u8,.int .u8,.bool,.bool,.int .i64,.int .i64,.int .i64,.int .i64,.int .i64,.int .i64,.int .i64,.int .i64,.int .i64]] g (fun (s3:B8) (c1 g4:Int) (b5 b6:Bool) (f8 h6 d0 c0 h1 f6 a9 f0 c4:Int) d1=>K s3 c1 g4 b5 b6 f8 h6 d0 c0 h1 f6 a9 f0 c4 [] d1)) (((0<=a/\a<=(i64.wrap (n8+(1:Int)))/\(i64.wrap (n8+(1:Int)))<=(s1.length:Int))/\K s1 n1 n2 b1 b2 n3 n4 n5 n6 n7 ((i64.wrap (n8+(1:Int)))) n9 i f ((List.drop a.toNat (List.take (Int.toNat (i64.wrap (n8+(1:Int)))) s1))) g)))))) (BId ((s1.length:Int)<=n8) (Ad PR Aj [(.agg [.str s1,.int .u8 n1,.int .u8 n2,.bool b1,.bool b2,.int .i64 n3,.int .i64 n4,.int .i64 n5,.int .i64 n6,.int .i64 n7,.int .i64 n8,.int .i64 n9,.int .i64 i,.int .i64 f]),(.int .i64 (s1.length:Int)),.int .i64 4] [.agg [.str,.int .u8,.int .u8,.bool,.bool,.int .i64,.int .i64,.int .i64,.int .i64,.int .i64,.int .i64,.int .i64,.int .i64,.int .i64]] g (fun (s4:B8) (h4 e9:Int) (b7 b8:Bool) (f3 f4 g3 e5 d7 d5 c3 c2 f5:Int) f1=>K s4 h4 e9 b7 b8 f3 f4 g3 e5 d7 d5 c3 c2 f5 [] f1)) (((0<=a/\a<=(i64.wrap (n8+(1:Int)))/\(i64.wrap (n8+(1:Int)))<=(s1.length:Int))/\K s1 n1 n2 b1 b2 n3 n4 n5 n6 n7 ((i64.wrap (n8+(1:Int)))) n9 i f ((List.drop a.toNat (List.take (Int.toNat (i64.wrap (n8+(1:Int)))) s1))) g))))) (∃(I2:Int->B8->Int->Int->Bool->Bool->Int->Int->Int->Int->Int->Int->Int->Int->Int->St->Prop) (M2:Int->B8->Int->Int->Bool->Bool->Int->Int->Int->Int->Int->Int->Int->Int->Int->St->Nat),(I2 x_10 x_0 x_1 x_2 x_3 x_4 x_5 x_6 x_7 x_8 x_9 x_10 x_11 x_12 x_13 st)/\∀d s5 l j b9 a1 o a0 t a5 s b a6 a2 r a7,I2 d s5 l j b9 a1 o a0 t a5 s b a6 a2 r a7->(BId (b<(s5.length:Int)) (((0<=b/\b<(s5.length:Int))/\BId (((List.getD s5 b.toNat 0).toNat:Int)≠l) (((0<=b/\b<(s5.length:Int))/\BId (((List.getD s5 b.toNat 0).toNat:Int)≠(10:Int)) (((0<=b/\b<(s5.length:Int))/\BId (((List.getD s5 b.toNat 0).toNat:Int)≠(13:Int)) (((0<=b/\b<(s5.length:Int))/\BId (((List.getD s5 b.toNat 0).toNat:Int)=j) (Ad PR Aj [(.agg [.str s5,.int .u8 l,.int .u8 j,.bool b9,.bool a1,.int .i64 o,.int .i64 a0,.int .i64 t,.int .i64 a5,.int .i64 s,.int .i64 b,.int .i64 a6,.int .i64 a2,.int .i64 r]),.int .i64 b,.int .i64 3] [.agg [.str,.int .u8,.int .u8,.bool,.bool,.int .i64,.int .i64,.int .i64,.int .i64,.int .i64,.int .i64,.int .i64,.int .i64,.int .i64]] a7 (fun (s6:B8) (h7 i0:Int) (e0 d4:Bool) (f9 c8 g6 c5 e1 c9 g7 d8 h5:Int) d3=>K s6 h7 i0 e0 d4 f9 c8 g6 c5 e1 c9 g7 d8 h5 [] d3)) ((I2 d s5 l j b9 a1 o a0 t a5 s ((i64.wrap (b+(1:Int)))) a6 a2 r a7/\M2 d s5 l j b9 a1 o a0 t a5 s ((i64.wrap (b+(1:Int)))) a6 a2 r a7<M2 d s5 l j b9 a1 o a0 t a5 s b a6 a2 r a7)))) (((0<=d/\d<=b/\b<=(s5.length:Int))/\K s5 l j b9 a1 o a0 t a5 s b a6 a2 r ((List.drop d.toNat (List.take b.toNat s5))) a7)))) (((0<=d/\d<=b/\b<=(s5.length:Int))/\K s5 l j b9 a1 o a0 t a5 s b a6 a2 r ((List.drop d.toNat (List.take b.toNat s5))) a7)))) (((0<=d/\d<=b/\b<=(s5.length:Int))/\K s5 l j b9 a1 o a0 t a5 s b a6 a2 r ((List.drop d.toNat (List.take b.toNat s5))) a7)))) (((0<=d/\d<=b/\b<=(s5.length:Int))/\K s5 l j b9 a1 o a0 t a5 s b a6 a2 r ((List.drop d.toNat (List.take b.toNat s5))) a7)))))) (∃(I3:Int->B8->Int->Int->Bool->Bool->Int->Int->Int->Int->Int->Int->Int->Int->Int->St->Prop) (M3:Int->B8->Int->Int->Bool->Bool->Int->Int->Int->Int->Int->Int->Int->Int->Int->St->Nat),(I3 x_10 x_0 x_1 x_2 x_3 x_4 x_5 x_6 x_7 x_8 x_9 x_10 x_11 x_12 x_13 st)/\∀e s7 k m q w v a4 z x a3 c u n y p,I3 e s7 k m q w v a4 z x a3 c u n y p->(BId (c<(s7.length:Int)) (((0<=c/\c<(s7.length:Int))/\BId (((List.getD s7 c.toNat 0).toNat:Int)≠k) (((0<=c/\c<(s7.length:Int))/\BId (((List.getD s7 c.toNat 0).toNat:Int)≠(10:Int)) (((0<=c/\c<(s7.length:Int))/\BId (((List.getD s7 c.toNat 0).toNat:Int)≠(13:Int)) (((0<=c/\c<(s7.length:Int))/\BId (((List.getD s7 c.toNat 0).toNat:Int)=m) (Ad PR Aj [(.agg [.str s7,.int .u8 k,.int .u8 m,.bool q,.bool w,.int .i64 v,.int .i64 a4,.int .i64 z,.int .i64 x,.int .i64 a3,.int .i64 c,.int .i64 u,.int .i64 n,.int .i64 y]),.int .i64 c,.int .i64 3] [.agg [.str,.int .u8,.int .u8,.bool,.bool,.int .i64,.int .i64,.int .i64,.int .i64,.int .i64,.int .i64,.int .i64,.int .i64,.int .i64]] p (fun (s8:B8) (h2 g1:Int) (h8 c7:Bool) (b0 g0 e4 g9 e6 h3 d2 e8 c6:Int) g5=>K s8 h2 g1 h8 c7 b0 g0 e4 g9 e6 h3 d2 e8 c6 [] g5)) ((I3 e s7 k m q w v a4 z x a3 ((i64.wrap (c+(1:Int)))) u n y p/\M3 e s7 k m q w v a4 z x a3 ((i64.wrap (c+(1:Int)))) u n y p<M3 e s7 k m q w v a4 z x a3 c u n y p)))) (((0<=e/\e<=c/\c<=(s7.length:Int))/\K s7 k m q w v a4 z x a3 c u n y ((List.drop e.toNat (List.take c.toNat s7))) p)))) (((0<=e/\e<=c/\c<=(s7.length:Int))/\K s7 k m q w v a4 z x a3 c u n y ((List.drop e.toNat (List.take c.toNat s7))) p)))) (((0<=e/\e<=c/\c<=(s7.length:Int))/\K s7 k m q w v a4 z x a3 c u n y ((List.drop e.toNat (List.take c.toNat s7))) p)))) (((0<=e/\e<=c/\c<=(s7.length:Int))/\K s7 k m q w v a4 z x a3 c u n y ((List.drop e.toNat (List.take c.toNat s7))) p))))):Ad PR Ck [(.agg [.str x_0,.int .u8 x_1,.int .u8 x_2,.bool x_3,.bool x_4,.int .i64 x_5,.int .i64 x_6,.int .i64 x_7,.int .i64 x_8,.int .i64 x_9,.int .i64 x_10,.int .i64 x_11,.int .i64 x_12,.int .i64 x_13])] [.agg [.str,.int .u8,.int .u8,.bool,.bool,.int .i64,.int .i64,.int .i64,.int .i64,.int .i64,.int .i64,.int .i64,.int .i64,.int .i64],.one .str] st K:=
 Ai (cfg:=⟨[1,2],[],[]⟩) (h:=(.seq .none (.seq .none (.seq (.seq .none (.cond (.seq .none (.seq (.block (.loop ⟨[(4,.int .i64)],[(1,0,0),(2,1,0)],[(0,14),(1,14)],[(0,0,.str),(0,1,.int .u8),(0,2,.int .u8),(0,3,.bool),(0,4,.bool),(0,5,.int .i64),(0,6,.int .i64),(0,7,.int .i64),(0,8,.int .i64),(0,9,.int .i64),(0,10,.int .i64),(0,11,.int .i64),(0,12,.int .i64),(0,13,.int .i64)]⟩ .none)) .none)) (.block (.loop ⟨[(4,.int .i64)],[(1,0,0),(2,1,0)],[(0,14),(1,14)],[(0,0,.str),(0,1,.int .u8),(0,2,.int .u8),(0,3,.bool),(0,4,.bool),(0,5,.int .i64),(0,6,.int .i64),(0,7,.int .i64),(0,8,.int .i64),(0,9,.int .i64),(0,10,.int .i64),(0,11,.int .i64),(0,12,.int .i64),(0,13,.int .i64)]⟩ .none)))) .none)))) mixed (fun _ _=>Tryz.call207 _ _) Tryz.func207 (by kernel_rfl) (by kernel_rfl) h
theorem GG (x_0:B8) (x_1:Int) (x_2:Int) (x_3:Bool) (x_4:Bool) (x_5:Int) (x_6:Int) (x_7:Int) (x_8:Int) (x_9:Int) (x_10:Int) (x_11:Int) (x_12:Int) (x_13:Int) (st:St) (K:B8->Int->Int->Bool->Bool->Int->Int->Int->Int->Int->Int->Int->Int->Int->St->Prop) (h:BId (x_10<(x_0.length:Int)) (((0<=x_10/\x_10<(x_0.length:Int))/\BId (((List.getD x_0 x_10.toNat 0).toNat:Int)≠x_1) (Ad PR AM [.str x_0,.int .i64 x_10] [.one (.int .i64)] st (fun (n1:Int) a=>BId (n1=(-1:Int)) (Ad PR Aj [(.agg [.str x_0,.int .u8 x_1,.int .u8 x_2,.bool x_3,.bool x_4,.int .i64 x_5,.int .i64 x_6,.int .i64 x_7,.int .i64 x_8,.int .i64 x_9,.int .i64 x_10,.int .i64 x_11,.int .i64 x_12,.int .i64 x_13]),.int .i64 x_10,.int .i64 3] [.agg [.str,.int .u8,.int .u8,.bool,.bool,.int .i64,.int .i64,.int .i64,.int .i64,.int .i64,.int .i64,.int .i64,.int .i64,.int .i64]] a (fun (s1:B8) (n2 n3:Int) (b1 b2:Bool) (n4 n5 n6 n7 n8 n9 f m o:Int) k=>K s1 n2 n3 b1 b2 n4 n5 n6 n7 n8 n9 f m o k)) (BId (n1=(-2:Int)) (Ad PR Aj [(.agg [.str x_0,.int .u8 x_1,.int .u8 x_2,.bool x_3,.bool x_4,.int .i64 x_5,.int .i64 x_6,.int .i64 x_7,.int .i64 x_8,.int .i64 x_9,.int .i64 x_10,.int .i64 x_11,.int .i64 x_12,.int .i64 x_13]),(.int .i64 (x_0.length:Int)),.int .i64 4] [.agg [.str,.int .u8,.int .u8,.bool,.bool,.int .i64,.int .i64,.int .i64,.int .i64,.int .i64,.int .i64,.int .i64,.int .i64,.int .i64]] a (fun (s2:B8) (j d:Int) (b3 b4:Bool) (r q p e g b c n i:Int) l=>K s2 j d b3 b4 r q p e g b c n i l)) (K x_0 x_1 x_2 x_3 x_4 x_5 x_6 x_7 x_8 x_9 x_10 x_11 x_12 x_13 a)))) (K x_0 x_1 x_2 x_3 x_4 x_5 x_6 x_7 x_8 x_9 x_10 x_11 x_12 x_13 st))) (K x_0 x_1 x_2 x_3 x_4 x_5 x_6 x_7 x_8 x_9 x_10 x_11 x_12 x_13 st)):Ad PR A4 [(.agg [.str x_0,.int .u8 x_1,.int .u8 x_2,.bool x_3,.bool x_4,.int .i64 x_5,.int .i64 x_6,.int .i64 x_7,.int .i64 x_8,.int .i64 x_9,.int .i64 x_10,.int .i64 x_11,.int .i64 x_12,.int .i64 x_13])] [.agg [.str,.int .u8,.int .u8,.bool,.bool,.int .i64,.int .i64,.int .i64,.int .i64,.int .i64,.int .i64,.int .i64,.int .i64,.int .i64]] st K:=
 Ai (cfg:=⟨[1,2],[],[]⟩) (h:= .none) mixed (fun _ _=>Tryz.call208 _ _) Tryz.func208 (by kernel_rfl) (by kernel_rfl) h
theorem IB (s:B8) (atx:Int) (st:St) (K:Int->St->Prop) (h:BId (atx=(s.length:Int)) (K 0 st) (((0<=atx/\atx<(s.length:Int))/\BId (((List.getD s atx.toNat 0).toNat:Int)=(10:Int)) (K 1 st) (((0<=atx/\atx<(s.length:Int))/\BId (((List.getD s atx.toNat 0).toNat:Int)≠(13:Int)) (K (-1) st) (BId ((i64.wrap (atx+(1:Int)))=(s.length:Int)) (K (-2) st) (((0<=(i64.wrap (atx+(1:Int)))/\(i64.wrap (atx+(1:Int)))<(s.length:Int))/\BId (((List.getD s (Int.toNat (i64.wrap (atx+(1:Int)))) 0).toNat:Int)=(10:Int)) (K 2 st) (K (-1) st))))))))):Ad PR AM [.str s,.int .i64 atx] [.one (.int .i64)] st K:=
 Ai (cfg:=⟨[],[],[]⟩) (h:= .none) mixed (fun _ _=>Tryz.call209 _ _) Tryz.func209 (by kernel_rfl) (by kernel_rfl) h
section
structure Sc where
 kind:Int
 b:Bool
 neg:Bool
 dg:B8
 ex:Int
 tk:Int
 td:Int
 tn:Int
 tz:Int
 text:B8
 bytes:B8
mutual
inductive Vl where
 | mk (s:Sc) (l:List Vl) (f:List Fd)
inductive Fd where
 | mk (k:B8) (v:Vl)
end
def Fd.key:Fd->B8 | .mk k _=>k
def SlR (st:St) (sz:Nat) (v:TV) (n:Nat) (xs:List TV):Prop:=
 Rd sz v n xs∨∃b off cap l,v= .ms sz b off n cap/\b<st.nb/\st.box b= .cells l/\off+cap*sz<=l.length/\n<=cap/\xs=(l.drop off).take (n*sz)
theorem SlR.of_rd {st:St} {sz n:Nat} {v:TV} {xs:List TV} (h:Rd sz v n xs):SlR st sz v n xs:= .inl h
def He (st st':St):Prop:=st.nb<=st'.nb/\∀b,b<st.nb->st'.box b=st.box b
theorem SlR.keep {st st':St} (k:He st st') {sz n:Nat} {v:TV} {xs:List TV} (h:SlR st sz v n xs):SlR st' sz v n xs:=by
 rcases h with h | ⟨b,off,cap,l,h1,h2,h3,h4,h5,h6⟩
 ·exact .inl h
 ·exact .inr ⟨b,off,cap,l,h1,Nat.lt_of_lt_of_le h2 k.1,(k.2 b h2).trans h3,h4,h5,h6⟩
mutual
def VlR (st:St):Vl->List TV->Prop
 | .mk s l f,cs=>∃ub ul uf xl xf,cs=[.int .i64 s.kind,.bool s.b,.bool s.neg,.str s.dg,.int .i64 s.ex,.int .i64 s.tk,.int .i64 s.td,.int .i64 s.tn,.int .i64 s.tz,.str s.text,ub,ul,uf]/\
   SlR st 1 ub s.bytes.length (A3 s.bytes)/\SlR st 13 ul l.length xl/\VsR st l xl/\SlR st 14 uf f.length xf/\FsR st f xf
def VsR (st:St):List Vl->List TV->Prop
 | [],xs=>xs=[]
 | v::r,xs=>∃a b,xs=a++b/\VlR st v a/\VsR st r b
def FdR (st:St):Fd->List TV->Prop
 | .mk k v,xs=>∃cs,xs= .str k::cs/\VlR st v cs
def FsR (st:St):List Fd->List TV->Prop
 | [],xs=>xs=[]
 | d::r,xs=>∃a b,xs=a++b/\FdR st d a/\FsR st r b
end
mutual
theorem VlR.keep {st st':St} (k:He st st'):∀{v:Vl} {cs:List TV},VlR st v cs->VlR st' v cs
 | .mk s l f,cs,h=>by
  unfold VlR at h⊢
  obtain⟨ub,ul,uf,xl,xf,h0,h1,h2,h3,h4,h5⟩:=h
  exact⟨ub,ul,uf,xl,xf,h0,h1.keep k,h2.keep k,VsR.keep k h3,h4.keep k,FsR.keep k h5⟩
theorem VsR.keep {st st':St} (k:He st st'):∀{l:List Vl} {cs:List TV},VsR st l cs->VsR st' l cs
 | [],cs,h=>by unfold VsR at h⊢;exact h
 | v::r,cs,h=>by
  unfold VsR at h⊢
  obtain⟨a,b,h0,h1,h2⟩:=h
  exact⟨a,b,h0,VlR.keep k h1,VsR.keep k h2⟩
theorem FdR.keep {st st':St} (k:He st st'):∀{d:Fd} {cs:List TV},FdR st d cs->FdR st' d cs
 | .mk key v,cs,h=>by
  unfold FdR at h⊢
  obtain⟨c,h0,h1⟩:=h
  exact⟨c,h0,VlR.keep k h1⟩
theorem FsR.keep {st st':St} (k:He st st'):∀{l:List Fd} {cs:List TV},FsR st l cs->FsR st' l cs
 | [],cs,h=>by unfold FsR at h⊢;exact h
 | d::r,cs,h=>by
  unfold FsR at h⊢
  obtain⟨a,b,h0,h1,h2⟩:=h
  exact⟨a,b,h0,FdR.keep k h1,FsR.keep k h2⟩
end
theorem VlR.len {st:St} {v:Vl} {cs:List TV} (h:VlR st v cs):cs.length=13:=by
 cases v;unfold VlR at h;obtain⟨ub,ul,uf,xl,xf,rfl,_⟩:=h;rfl
theorem FdR.len {st:St} {v:Fd} {cs:List TV} (h:FdR st v cs):cs.length=14:=by
 cases v;unfold FdR at h;obtain⟨c,rfl,h⟩:=h;simp[h.len]
theorem VsR.len {st:St}:∀{l:List Vl} {xs:List TV},VsR st l xs->xs.length=l.length*13
 | [],xs,h=>by unfold VsR at h;subst h;rfl
 | v::r,xs,h=>by
  unfold VsR at h
  obtain⟨a,b,rfl,h1,h2⟩:=h
  rw[List.length_append,h1.len,VsR.len h2,List.length_cons];omega
theorem FsR.len {st:St}:∀{l:List Fd} {xs:List TV},FsR st l xs->xs.length=l.length*14
 | [],xs,h=>by unfold FsR at h;subst h;rfl
 | v::r,xs,h=>by
  unfold FsR at h
  obtain⟨a,b,rfl,h1,h2⟩:=h
  rw[List.length_append,h1.len,FsR.len h2,List.length_cons];omega
theorem VsR.get {st:St}:∀{l:List Vl} {xs:List TV} {i:Nat} {v:Vl},VsR st l xs->l[i]? =some v->∃cs,VlR st v cs/\(xs.drop (i*13)).take 13=cs/\cs.length=13
 | [],xs,i,v,h,hi=>by simp at hi
 | w::r,xs,i,v,h,hi=>by
  unfold VsR at h
  obtain⟨a,b,rfl,h1,h2⟩:=h
  cases i with
  | zero=>
   simp only[List.getElem?_cons_zero,Option.some.injEq]at hi
   subst hi
   refine⟨a,h1,?_,h1.len⟩
   rw[Nat.zero_mul,List.drop_zero,<-h1.len,List.take_left]
  | succ i=>
   obtain⟨cs,h3,h4,h5⟩:=VsR.get h2 (by simpa using hi)
   refine⟨cs,h3,?_,h5⟩
   rw[show(i+1)*13=a.length+i*13 by rw[h1.len];omega,List.drop_append]
   simp only[Nat.add_sub_cancel_left]
   rw[List.drop_of_length_le (by omega),List.nil_append];exact h4
theorem FsR.get {st:St}:∀{l:List Fd} {xs:List TV} {i:Nat} {v:Fd},FsR st l xs->l[i]? =some v->∃cs,FdR st v cs/\(xs.drop (i*14)).take 14=cs/\cs.length=14
 | [],xs,i,v,h,hi=>by simp at hi
 | w::r,xs,i,v,h,hi=>by
  unfold FsR at h
  obtain⟨a,b,rfl,h1,h2⟩:=h
  cases i with
  | zero=>
   simp only[List.getElem?_cons_zero,Option.some.injEq]at hi
   subst hi
   refine⟨a,h1,?_,h1.len⟩
   rw[Nat.zero_mul,List.drop_zero,<-h1.len,List.take_left]
  | succ i=>
   obtain⟨cs,h3,h4,h5⟩:=FsR.get h2 (by simpa using hi)
   refine⟨cs,h3,?_,h5⟩
   rw[show(i+1)*14=a.length+i*14 by rw[h1.len];omega,List.drop_append]
   simp only[Nat.add_sub_cancel_left]
   rw[List.drop_of_length_le (by omega),List.nil_append];exact h4
end
structure StX (S:Nat->Prop) (a b:St):Prop where
 nb:a.nb<=b.nb
 box:∀i,i<a.nb->¬S i->b.box i=a.box i
 nt:a.nt<=b.nt
 live:∀i,i<a.nt->b.live i=a.live i
 ty:∀i,i<a.nt->b.ty i=a.ty i
 bt:∀i,i<a.nb->b.bt i=a.bt i
theorem StX.trans {S:Nat->Prop} {a b c:St} (h:StX S a b) (k:StX S b c):StX S a c:=
 ⟨Nat.le_trans h.nb k.nb,fun i hi hs=>(k.box i (Nat.lt_of_lt_of_le hi h.nb) hs).trans (h.box i hi hs),Nat.le_trans h.nt k.nt,fun i hi=>(k.live i (Nat.lt_of_lt_of_le hi h.nt)).trans (h.live i hi),fun i hi=>(k.ty i (Nat.lt_of_lt_of_le hi h.nt)).trans (h.ty i hi),fun i hi=>(k.bt i (Nat.lt_of_lt_of_le hi h.nb)).trans (h.bt i hi)⟩
theorem StX.mono {S T:Nat->Prop} {a b:St} (h:StX S a b) (k:∀i,S i->T i):StX T a b:=
 ⟨h.nb,fun i hi hs=>h.box i hi fun g=>hs (k i g),h.nt,h.live,h.ty,h.bt⟩
theorem StX.ext {S:Nat->Prop} {a b c:St} (h:AN a b) (k:StX S b c) (hs:∀i,S i->a.nb<=i):AN a c:=
 ⟨Nat.le_trans h.nb k.nb,fun i hi=>(k.box i (Nat.lt_of_lt_of_le hi h.nb) fun g=>absurd (hs i g) (by omega)).trans (h.box i hi),Nat.le_trans h.nt k.nt,fun i hi=>(k.live i (Nat.lt_of_lt_of_le hi h.nt)).trans (h.live i hi),fun i hi=>(k.ty i (Nat.lt_of_lt_of_le hi h.nt)).trans (h.ty i hi),fun i hi=>(k.bt i (Nat.lt_of_lt_of_le hi h.nb)).trans (h.bt i hi)⟩
theorem StX.put {S:Nat->Prop} {a:St} {i:Nat} (hi:S i) (o:Lu):StX S a (a.put i o):=
 ⟨Nat.le_refl _,fun j hj hs=>by simp only[St.put];rw[if_neg (by rintro rfl;exact hs hi)],Nat.le_refl _,fun _ _=>rfl,fun _ _=>rfl,fun _ _=>rfl⟩
theorem K7 {st:St} {b:Nat} {B:List TV}:∀(c:List TV) (l:List TV) (j o:Nat),st.box b= .cells l->l.drop (o+j)=c++B->Av st [] (.t (.box b o)) j c.length=some c
 | [],l,j,o,h,hd=>rfl
 | x::c,l,j,o,h,hd=>by
  have hx:l[o+j]? =some x:=by
   have:=congrArg (fun z:List TV=>z[0]?) hd
   simpa using this
  have hd2:l.drop (o+(j+1))=c++B:=by
   have:=congrArg (fun z:List TV=>z.drop 1) hd
   simpa [List.drop_drop,Nat.add_assoc]using this
  show(match Ac st [] (.t (.box b o)) j with | some x=>(Av st [] (.t (.box b o)) (j+1) c.length).map (x::·) | none=>none)=_
  have:Ac st [] (.t (.box b o)) j=some x:=by simp only[Ac,h];exact hx
  rw[this]
  simp only
  rw[K7 c l (j+1) o h hd2];rfl
theorem Dp {g:Ghost} {w:World} {l:B8} {v:Value} (h:Rel g w (.str l) v):v= .string ⟨l.toArray⟩:=by cases h;rfl
theorem Rz {g:Ghost} {w:World} {x y:TV} {vs:List Value} (h:AV g w [x,y] vs):∃v u,vs=[v,u]/\Rel g w x v/\Rel g w y u:=by
 obtain⟨v,h1,h2⟩:=h.get? (i:=0) rfl
 obtain⟨u,h3,h4⟩:=h.get? (i:=1) rfl
 have:=h.1
 cases vs with
 | nil=>simp at this
 | cons a r=>cases r with
  | nil=>simp at this
  | cons b r=>cases r with
   | nil=>simp at h1 h3;subst h1 h3;exact⟨_,_,rfl,h2,h4⟩
   | cons c r=>simp at this
section
inductive SN {α β:Type} (R:α->β->Prop):List α->List β->Prop
 | nil:SN R [] []
 | cons {a:α} {b:β} {l:List α} {m:List β}:R a b->SN R l m->SN R (a::l) (b::m)
theorem FsR.chunks {st:St}:∀{f:List Fd} {xs:List TV},FsR st f xs->∃cks:List (List TV),xs=cks.flatten/\SN (FdR st) f cks
 | [],xs,h=>by unfold FsR at h;subst h;exact⟨[],rfl,.nil⟩
 | d::r,xs,h=>by
  unfold FsR at h
  obtain⟨a,b,rfl,h1,h2⟩:=h
  obtain⟨cks,rfl,h3⟩:=FsR.chunks h2
  exact⟨a::cks,by simp,.cons h1 h3⟩
theorem FsR.of_chunks {st:St} {f:List Fd} {cks:List (List TV)} (h:SN (FdR st) f cks):FsR st f cks.flatten:=by
 induction h with
 | nil=>unfold FsR;rfl
 | cons r _ ih=>unfold FsR;exact⟨_,_,by simp,r,ih⟩
theorem SlR.one {st:St} {sz n:Nat} {u:TV} {xs:List TV} (h:SlR st sz u n xs):Aq u=true:=by
 rcases h with(⟨rfl,_⟩ | ⟨tip,rfl⟩) | ⟨b,off,cap,l,rfl,_⟩<;>rfl
theorem SlR.src {st:St} {sz n:Nat} {u:TV} {xs:List TV} (h:SlR st sz u n xs) (hl:xs.length=n*sz):BJ st sz u=some (n,xs):=by
 rcases h with(⟨rfl,rfl,rfl⟩ | ⟨tip,rfl⟩) | ⟨b,off,cap,l,rfl,h2,h3,h4,h5,rfl⟩
 ·rfl
 ·simp[BJ]
 ·have hlt:n*sz<=cap*sz:=Nat.mul_le_mul_right _ h5
  have e:=K7 (B:=l.drop (off+n*sz)) (st:=st) (b:=b) ((l.drop off).take (n*sz)) l 0 off h3 (by
   rw[Nat.add_zero,<-List.drop_drop,List.take_append_drop])
  rw[show((l.drop off).take (n*sz)).length=n*sz by simp;omega]at e
  simp only[BJ,Nat.beq_refl]
  rw[e]
section
variable {st:St}
end
end
section
mutual
def Vl.sz:Vl->Nat
 | .mk s l f=>1+s.bytes.length+s.text.length+s.dg.length+Cw l+DJ f
def Cw:List Vl->Nat
 | []=>0
 | v::r=>v.sz+Cw r
def Fd.sz:Fd->Nat
 | .mk k v=>k.length+v.sz
def DJ:List Fd->Nat
 | []=>0
 | d::r=>d.sz+DJ r
end
theorem Vl.sz_pos (v:Vl):1<=v.sz:=by cases v;unfold Vl.sz;omega
theorem KA:∀l:List Vl,l.length<=Cw l
 | []=>Nat.le_refl _
 | v::r=>by have:=KA r;have:=v.sz_pos;unfold Cw;simp only[List.length_cons];omega
theorem K9:∀l:List Fd,l.length<=DJ l
 | []=>Nat.le_refl _
 | .mk k v::r=>by have:=K9 r;have:=v.sz_pos;unfold DJ Fd.sz;simp only[List.length_cons];omega
theorem KB:∀{l:List Vl} {i:Nat} {v:Vl},l[i]? =some v->v.sz<=Cw l
 | [],i,v,h=>by simp at h
 | w::r,0,v,h=>by simp at h;subst h;unfold Cw;omega
 | w::r,i+1,v,h=>by have:=KB (by simpa using h:r[i]? =some v);unfold Cw;omega
theorem La:∀{l:List Fd} {i:Nat} {d:Fd},l[i]? =some d->d.sz<=DJ l
 | [],i,v,h=>by simp at h
 | w::r,0,v,h=>by simp at h;subst h;unfold DJ;omega
 | w::r,i+1,v,h=>by have:=La (by simpa using h:r[i]? =some v);unfold DJ;omega
theorem NQ {st:St} {ys:List TV}:∀(k j:Nat),j+k<=ys.length->Av st [] (.t (.rptr ys)) j k=some ((ys.drop j).take k)
 | 0,j,h=>by simp[Av]
 | k+1,j,h=>by
  show(match Ac st [] (.t (.rptr ys)) j with | some x=>(Av st [] (.t (.rptr ys)) (j+1) k).map (x::·) | none=>none)=_
  have hj:j<ys.length:=by omega
  have:Ac st [] (.t (.rptr ys)) j=some ys[j]:=by simp[Ac,hj]
  rw[this]
  simp only
  rw[NQ k (j+1) (by omega),List.drop_eq_getElem_cons hj]
  rfl
theorem SlR.ldc {st:St} {sz n i:Nat} {u:TV} {xs:List TV} (h:SlR st sz u n xs) (hl:xs.length=n*sz) (hi:i<n):Av st [] (.t (ixT sz u i)) 0 sz=some ((xs.drop (i*sz)).take sz):=by
 have hm:(i+1)*sz<=n*sz:=Nat.mul_le_mul_right _ hi
 rw[Nat.add_mul,Nat.one_mul]at hm
 rcases h with(⟨rfl,rfl,rfl⟩ | ⟨tip,rfl⟩) | ⟨b,off,cap,l,rfl,h2,h3,h4,h5,rfl⟩
 ·omega
 ·show Av st [] (.t (.rptr (xs.drop (i*sz)))) 0 sz=_
  rw[NQ sz 0 (by rw[List.length_drop];omega),List.drop_zero]
 ·have hc:n*sz<=cap*sz:=Nat.mul_le_mul_right _ h5
  have e1:(((l.drop off).take (n*sz)).drop (i*sz)).take sz=(l.drop (off+i*sz)).take sz:=by
   rw[List.drop_take,List.drop_drop,List.take_take,Nat.min_eq_left (by omega)]
  rw[e1]
  have e:=K7 (B:=l.drop (off+i*sz+sz)) (st:=st) (b:=b) ((l.drop (off+i*sz)).take sz) l 0 (off+i*sz) h3 (by
   have:=List.take_append_drop sz (l.drop (off+i*sz))
   rw[List.drop_drop]at this
   rw[Nat.add_zero];exact this.symm)
  rw[show((l.drop (off+i*sz)).take sz).length=sz by simp;omega]at e
  exact e
theorem SlR.lenZ {st:St} {sz n:Nat} {u:TV} {xs:List TV} (h:SlR st sz u n xs):TVF.lenZ sz u=n:=by
 rcases h with(⟨rfl,rfl,rfl⟩ | ⟨tip,rfl⟩) | ⟨b,off,cap,l,rfl,h2,h3,h4,h5,rfl⟩
 ·rfl
 ·simp[TVF.lenZ]
 ·simp[TVF.lenZ]
theorem SlR.lenS {st:St} {sz n:Nat} {u:TV} {xs:List TV} (h:SlR st sz u n xs):TVF.lenS u=n:=by
 rcases h with(⟨rfl,rfl,rfl⟩ | ⟨tip,rfl⟩) | ⟨b,off,cap,l,rfl,h2,h3,h4,h5,rfl⟩<;>rfl
theorem SlR.isSl {st:St} {sz n:Nat} {u:TV} {xs:List TV} (h:SlR st sz u n xs):TVF.isSl u=true:=by
 rcases h with(⟨rfl,rfl,rfl⟩ | ⟨tip,rfl⟩) | ⟨b,off,cap,l,rfl,h2,h3,h4,h5,rfl⟩<;>rfl
theorem QD {n1:Int} {b1 b2:Bool} {s2:B8} {n2 n3 n4 n5 n6:Int} {s3:B8} {u1 u2 u3:TV} {f:Fun [.int .i64,.bool,.bool,.str,.int .i64,.int .i64,.int .i64,.int .i64,.int .i64,.str,.tv,.tv,.tv] Prop} (h:f n1 b1 b2 s2 n2 n3 n4 n5 n6 s3 u1 u2 u3):
  DF [.int .i64,.bool,.bool,.str,.int .i64,.int .i64,.int .i64,.int .i64,.int .i64,.str,.tv,.tv,.tv] (.agg [.int .i64 n1,.bool b1,.bool b2,.str s2,.int .i64 n2,.int .i64 n3,.int .i64 n4,.int .i64 n5,.int .i64 n6,.str s3,u1,u2,u3]) f:=h
theorem Ef {n1:Int} {b1 b2:Bool} {s2:B8} {n2 n3 n4 n5 n6:Int} {s3:B8} {u1 u2 u3:TV} (h1:Aq u1=true) (h2:Aq u2=true) (h3:Aq u3=true):
  List.all [.int .i64 n1,.bool b1,.bool b2,.str s2,.int .i64 n2,.int .i64 n3,.int .i64 n4,.int .i64 n5,.int .i64 n6,.str s3,u1,u2,u3] Aq=true:=by
 simp only[List.all_cons,List.all_nil,h1,h2,h3,Bool.and_true];rfl
end
def Bk (s:Sc) (ub ul uf:TV):List TV:=[.int .i64 s.kind,.bool s.b,.bool s.neg,.str s.dg,.int .i64 s.ex,.int .i64 s.tk,.int .i64 s.td,.int .i64 s.tn,.int .i64 s.tz,.str s.text,ub,ul,uf]
theorem SN.snoc {α β:Type} {R:α->β->Prop} {a:α} {b:β} {l:List α} {m:List β} (h:SN R l m) (r:R a b):SN R (l++[a]) (m++[b]):=by
 induction h with
 | nil=>exact .cons r .nil
 | cons r' _ ih=>exact .cons r' ih
theorem natB_lt (n:Nat) (h:n<256):n.toUInt8.toNat=n:=by simp;omega
theorem V5 (l:B8):List.all (A3 l) Aq=true:=by
 rw[List.all_eq_true];intro x hx
 simp only[A3,List.mem_map]at hx
 obtain⟨y,_,rfl⟩:=hx;rfl
theorem el13 {st0 st:St} {ul:TV} {xl:List TV} {l:List Vl} (hke:He st0 st) (h2:SlR st0 13 ul l.length xl) (h3:VsR st0 l xl) {i:Int} {k:Nat} (hi:i=k) (hk:k<l.length) {f:Fun [.int .i64,.bool,.bool,.str,.int .i64,.int .i64,.int .i64,.int .i64,.int .i64,.str,.tv,.tv,.tv] Prop}
  (hf:∀s' l' f' ub1 ul1 uf1,l[k]? =some (.mk s' l' f')->VlR st0 (.mk s' l' f') (Bk s' ub1 ul1 uf1)->List.all (Bk s' ub1 ul1 uf1) Aq=true->f s'.kind s'.b s'.neg s'.dg s'.ex s'.tk s'.td s'.tn s'.tz s'.text ub1 ul1 uf1):
  (0<=i/\i<(lenZ 13 ul:Int))/\Ah ((Av st [] (.t (ixT 13 ul (Int.toNat i))) 0 13).map TV.agg) fun x=>DF [.int .i64,.bool,.bool,.str,.int .i64,.int .i64,.int .i64,.int .i64,.int .i64,.str,.tv,.tv,.tv] x f:=by
 subst hi
 have gw:l[k]? =some l[k]:=List.getElem?_eq_getElem hk
 obtain⟨cw,hw,hcw,hcl⟩:=h3.get gw
 rw[h2.lenZ,Int.toNat_natCast,(h2.keep hke).ldc h3.len hk,hcw]
 generalize l[k]=w at*
 cases w with
 | mk s' l' f'=>
 have hw0:=hw
 unfold VlR at hw0
 obtain⟨ub',ul',uf',xl',xf',rfl,w1,w2,w3,w4,w5⟩:=hw0
 exact⟨⟨by omega,by omega⟩,Ae rfl (QD (hf s' l' f' ub' ul' uf' gw hw (Ef w1.one w2.one w4.one)))⟩
theorem O3 {α:Type} {l:List α} {k:Nat} {v:α} (h:l[k]? =some v):l.take (k+1)=l.take k++[v]:=by
 obtain⟨q1,q2⟩:=List.getElem?_eq_some_iff.1 h
 rw[List.take_succ_eq_append_getElem q1,q2]
end Go.TVF
section
namespace Go.TVF
open Go.IntKind(i64 u8)
open Go
theorem or_i64 (x y:Nat) (hx:x<2^63) (hy:y<2^63):AU .or .i64 (x:Int) (y:Int)=((x ||| y:Nat):Int):=by
 have h:x ||| y<2^63:=Nat.or_lt_two_pow hx hy
 show IntKind.wrap .i64 ((BitVec.ofInt 64 (x:Int) ||| BitVec.ofInt 64 (y:Int)).toNat:Int)=_
 simp only[BitVec.ofInt_natCast,BitVec.toNat_or,BitVec.toNat_ofNat]
 rw[Nat.mod_eq_of_lt (by omega),Nat.mod_eq_of_lt (by omega),Al _ (by omega) (by omega)]
theorem and_i64 (x y:Nat) (hx:x<2^63) (hy:y<2^63):AU .and .i64 (x:Int) (y:Int)=((x&&&y:Nat):Int):=by
 have h:x&&&y<2^63:=Nat.and_lt_two_pow _ hy
 show IntKind.wrap .i64 ((BitVec.ofInt 64 (x:Int)&&&BitVec.ofInt 64 (y:Int)).toNat:Int)=_
 simp only[BitVec.ofInt_natCast,BitVec.toNat_and,BitVec.toNat_ofNat]
 rw[Nat.mod_eq_of_lt (by omega),Nat.mod_eq_of_lt (by omega),Al _ (by omega) (by omega)]
theorem XF (x y:Nat) (hx:x<2^8) (hy:y<2^8):AU .and .u8 (x:Int) (y:Int)=((x&&&y:Nat):Int):=by
 have h:x&&&y<2^8:=Nat.and_lt_two_pow _ hy
 show IntKind.wrap .u8 ((BitVec.ofInt 8 (x:Int)&&&BitVec.ofInt 8 (y:Int)).toNat:Int)=_
 simp only[BitVec.ofInt_natCast,BitVec.toNat_and,BitVec.toNat_ofNat]
 rw[Nat.mod_eq_of_lt (by omega),Nat.mod_eq_of_lt (by omega),Nf _ (by omega) (by omega)]
theorem Tn (a b m:Nat) (hb:b<2^m) (h:a*2^m+b<2^63):AU .or .i64 ((a*2^m:Nat):Int) (b:Int)=((a*2^m+b:Nat):Int):=by
 have hb':b<2^63:=by omega
 rw[or_i64 _ _ (by omega) hb',Nat.mul_comm a,Nat.two_pow_add_eq_or_of_lt hb]
theorem Jf (a m:Nat) (ha:a<2^63) (hm:m<63):AU .and .i64 (a:Int) ((2^m-1:Nat):Int)=((a%2^m:Nat):Int):=by
 have:2^m<2^63:=Nat.pow_lt_pow_right (by decide) hm
 rw[and_i64 _ _ ha (by omega),Nat.and_two_pow_sub_one_eq_mod]
theorem Wf (n:Nat) (h:n<=255):IntKind.wrap .i64 (n:Int)=n:=Al _ (by omega) (by omega)
theorem DE {α:Type} (l:List α) (i:Nat) (d:α) (h:i<l.length):l.take (i+1)=l.take i++[l.getD i d]:=by
 rw[List.take_add_one,List.getElem?_eq_getElem h,List.getD,List.getElem?_eq_getElem h];rfl
theorem shr_i64 (x m:Nat) (h:m<=64):Int.fdiv (x:Int) (2^(min m (IntKind.bits .i64)))=((x/2^m:Nat):Int):=by
 rw[show min m (IntKind.bits .i64)=m from Nat.min_eq_left h,show(2:Int)^m=((2^m:Nat):Int) by simp,Int.fdiv_eq_ediv_of_nonneg _ (Int.natCast_nonneg _)]
 rfl
theorem L7 {α:Type} (l:List α) (i j:Nat) (d:α):(l.drop i).getD j d=l.getD (i+j) d:=by
 simp[List.getD,List.getElem?_drop]
theorem PB {α:Type} (l:List α) (i:Nat) (d:α) (h:i<l.length):l.drop i=l.getD i d::l.drop (i+1):=by
 rw[List.drop_eq_getElem_cons h,List.getD,List.getElem?_eq_getElem h];rfl
theorem ER {α:Type} (l:List α) (i j:Nat):(l.take j).drop i=(l.drop i).take (j-i):=by
 rw[List.drop_take]
def bt (l:B8) (i:Nat):Nat:=(l.getD i 0).toNat
theorem Ei (l:B8) (i:Nat):bt l i<256:=(l.getD i 0).toNat_lt
theorem QN (l:B8) (i j:Nat):bt (l.drop i) j=bt l (i+j):=by simp[bt,L7]
def dN (l:B8):Nat×Nat:=Lib.decodeN l.length (bt l 0) (bt l 1) (bt l 2) (bt l 3)
def ul (l:B8):Nat:=if l=[]∨dN l=(65533,1)then 0 else(dN l).2
def ur (l:B8):Nat:=(dN l).1
def A9 (r:Nat):Prop:=r<=1114111/\(r<55296∨57343<r)
instance (r:Nat):Decidable (A9 r):=by unfold A9;infer_instance
def FE (r:Nat):B8:=
 if r<128 then [UInt8.ofNat r]else if r<2048 then [UInt8.ofNat (192+r/64),UInt8.ofNat (128+r%64)]
 else if r<65536 then [UInt8.ofNat (224+r/4096),UInt8.ofNat (128+r/64%64),UInt8.ofNat (128+r%64)]
 else [UInt8.ofNat (240+r/262144),UInt8.ofNat (128+r/4096%64),UInt8.ofNat (128+r/64%64),UInt8.ofNat (128+r%64)]
theorem Dq (n:Nat) (c:UInt8):UInt8.ofNat n=c↔n%256=c.toNat:=by
 rw[<-UInt8.toNat_inj];simp
theorem KK (l:B8) (h:1<=l.length):l.take 1=[l.getD 0 0]:=by
 rw[DE l 0 0 (by omega)];rfl
theorem KJ (l:B8) (h:2<=l.length):l.take 2=[l.getD 0 0,l.getD 1 0]:=by
 rw[DE l 1 0 (by omega),KK l (by omega)];rfl
theorem Hv (l:B8) (h:3<=l.length):l.take 3=[l.getD 0 0,l.getD 1 0,l.getD 2 0]:=by
 rw[DE l 2 0 (by omega),KJ l (by omega)];rfl
theorem LC (l:B8) (h:4<=l.length):l.take 4=[l.getD 0 0,l.getD 1 0,l.getD 2 0,l.getD 3 0]:=by
 rw[DE l 3 0 (by omega),Hv l (by omega)];rfl
def rsz (b0:Nat):Nat:=if 240<=b0 then 4 else if 224<=b0 then 3 else if 192<=b0 then 2 else 1
def rb0 (b0:Nat):Nat:=if 240<=b0 then b0%8 else if 224<=b0 then b0%16 else if 192<=b0 then b0%32 else b0
def Cz (l:B8) (r0:Nat):Nat->Nat
 | 0=>r0
 | j+1=>Cz l r0 j*64+bt l (j+1)%64
theorem Qj (l:B8) (r0:Nat) (h:r0<256):∀j,Cz l r0 j<256*64^j
 | 0=>by simpa [Cz]using h
 | j+1=>by
  have:=Qj l r0 h j
  have h2:=Nat.mod_lt (bt l (j+1)) (show 0<64 by omega)
  simp only[Cz,Nat.pow_succ]
  omega
theorem rb0_lt (b0:Nat) (h:b0<256):rb0 b0<256:=by
 unfold rb0
 repeat' split
 all_goals omega
theorem Qd (b0:Nat):1<=rsz b0/\rsz b0<=4:=by
 unfold rsz
 repeat' split
 all_goals omega
def OO (l:B8):Nat×Nat:=
 let size:=rsz (bt l 0)
 let r:=Cz l (rb0 (bt l 0)) (size-1)
 if l.length<size then(0,0)else if A9 r/\FE r=l.take size then(r,size)else(0,0)
theorem Dx {a b:UInt8} {x y:B8}:(a::x=b::y)↔a=b/\x=y:=by simp
set_option maxHeartbeats 4000000 in
theorem Gv (l:B8) (h:l≠ []):OO l=if ul l=0 then(0,0)else(ur l,ul l):=by
 have hl:1<=l.length:=by cases l with | nil=>exact absurd rfl h | cons a r=>simp
 have h0:=Ei l 0
 have h1:=Ei l 1
 have h2:=Ei l 2
 have h3:=Ei l 3
 have e0:(l.getD 0 0).toNat=bt l 0:=rfl
 have e1:(l.getD 1 0).toNat=bt l 1:=rfl
 have e2:(l.getD 2 0).toNat=bt l 2:=rfl
 have e3:(l.getD 3 0).toNat=bt l 3:=rfl
 have hul:ul l=if dN l=(65533,1)then 0 else(dN l).2:=by simp[ul,h]
 rw[hul,ur]
 unfold dN
 generalize hb0:bt l 0=b0 at*
 generalize hb1:bt l 1=b1 at*
 generalize hb2:bt l 2=b2 at*
 generalize hb3:bt l 3=b3 at*
 unfold OO
 simp only[hb0]
 by_cases c4:240<=b0
 ·have r4:rsz b0=4:=by unfold rsz;rw[if_pos c4]
  have rb:rb0 b0=b0%8:=by unfold rb0;rw[if_pos c4]
  rw[r4,rb]
  simp only[Nat.reduceSub,Cz,hb1,hb2,hb3,Nat.zero_add,Nat.reduceAdd]
  by_cases hn:l.length<4
  ·rw[if_pos hn]
   have:Lib.decodeN l.length b0 b1 b2 b3=(65533,1):=by
    unfold Lib.decodeN
    rw[if_neg (by omega),if_neg (by omega),if_neg (by omega),if_neg (by omega)]
   rw[this];simp
  ·rw[if_neg hn]
   have hEnc:(A9 (((b0%8*64+b1%64)*64+b2%64)*64+b3%64)/\FE (((b0%8*64+b1%64)*64+b2%64)*64+b3%64)=l.take 4)↔(b0/8=30/\b1/64=2/\b2/64=2/\b3/64=2/\65536<=((b0%8*64+b1%64)*64+b2%64)*64+b3%64/\((b0%8*64+b1%64)*64+b2%64)*64+b3%64<=1114111):=by
    rw[LC l (by omega)]
    generalize hr:((b0%8*64+b1%64)*64+b2%64)*64+b3%64=r
    unfold A9 FE
    by_cases k1:r<128
    ·rw[if_pos k1];simp;omega
    ·rw[if_neg k1]
     by_cases k2:r<2048
     ·rw[if_pos k2];simp;omega
     ·rw[if_neg k2]
      by_cases k3:r<65536
      ·rw[if_pos k3];simp;omega
      ·rw[if_neg k3]
       simp only[Dx,Dq,e0,e1,e2,e3,and_true]
       omega
   by_cases hE:b0/8=30/\b1/64=2/\b2/64=2/\b3/64=2/\65536<=((b0%8*64+b1%64)*64+b2%64)*64+b3%64/\((b0%8*64+b1%64)*64+b2%64)*64+b3%64<=1114111
   ·rw[if_pos (hEnc.2 hE)]
    have:Lib.decodeN l.length b0 b1 b2 b3=(((b0%8*64+b1%64)*64+b2%64)*64+b3%64,4):=by
     unfold Lib.decodeN
     rw[if_neg (by omega),if_neg (by omega),if_neg (by omega),if_pos (by omega),if_pos (by omega)]
     simp only[Prod.mk.injEq,and_true];omega
    rw[this];simp
   ·rw[if_neg (fun hh=>hE (hEnc.1 hh))]
    have:Lib.decodeN l.length b0 b1 b2 b3=(65533,1):=by
     unfold Lib.decodeN
     rw[if_neg (by omega),if_neg (by omega),if_neg (by omega)]
     split
     ·rw[if_neg (by omega)]
     ·rfl
    rw[this];simp
 ·by_cases c3:224<=b0
  ·have r4:rsz b0=3:=by unfold rsz;rw[if_neg c4,if_pos c3]
   have rb:rb0 b0=b0%16:=by unfold rb0;rw[if_neg c4,if_pos c3]
   rw[r4,rb]
   simp only[Nat.reduceSub,Cz,hb1,hb2,Nat.zero_add,Nat.reduceAdd]
   by_cases hn:l.length<3
   ·rw[if_pos hn]
    have:Lib.decodeN l.length b0 b1 b2 b3=(65533,1):=by
     unfold Lib.decodeN
     rw[if_neg (by omega),if_neg (by omega),if_neg (by omega),if_neg (by omega)]
    rw[this];simp
   ·rw[if_neg hn]
    have hEnc:(A9 ((b0%16*64+b1%64)*64+b2%64)/\FE ((b0%16*64+b1%64)*64+b2%64)=l.take 3)↔(b1/64=2/\b2/64=2/\2048<=(b0%16*64+b1%64)*64+b2%64/\A9 ((b0%16*64+b1%64)*64+b2%64)):=by
     rw[Hv l (by omega)]
     generalize hr:(b0%16*64+b1%64)*64+b2%64=r
     unfold A9 FE
     by_cases k1:r<128
     ·rw[if_pos k1];simp;omega
     ·rw[if_neg k1]
      by_cases k2:r<2048
      ·rw[if_pos k2];simp;omega
      ·rw[if_neg k2]
       by_cases k3:r<65536
       ·rw[if_pos k3]
        simp only[Dx,Dq,e0,e1,e2,and_true]
        omega
       ·omega
    by_cases hE:b1/64=2/\b2/64=2/\2048<=(b0%16*64+b1%64)*64+b2%64/\A9 ((b0%16*64+b1%64)*64+b2%64)
    ·rw[if_pos (hEnc.2 hE)]
     have:Lib.decodeN l.length b0 b1 b2 b3=((b0%16*64+b1%64)*64+b2%64,3):=by
      unfold A9 at hE
      unfold Lib.decodeN
      rw[if_neg (by omega),if_neg (by omega),if_pos (by omega),if_pos (by omega)]
      simp only[Prod.mk.injEq,and_true];omega
     rw[this];simp
    ·rw[if_neg (fun hh=>hE (hEnc.1 hh))]
     have:Lib.decodeN l.length b0 b1 b2 b3=(65533,1):=by
      unfold A9 at hE
      unfold Lib.decodeN
      rw[if_neg (by omega),if_neg (by omega)]
      split
      ·rw[if_neg (by omega)]
      ·rw[if_neg (by omega)]
     rw[this];simp
  ·by_cases c2:192<=b0
   ·have r4:rsz b0=2:=by unfold rsz;rw[if_neg c4,if_neg c3,if_pos c2]
    have rb:rb0 b0=b0%32:=by unfold rb0;rw[if_neg c4,if_neg c3,if_pos c2]
    rw[r4,rb]
    simp only[Nat.reduceSub,Cz,hb1,Nat.zero_add,Nat.reduceAdd]
    by_cases hn:l.length<2
    ·rw[if_pos hn]
     have:Lib.decodeN l.length b0 b1 b2 b3=(65533,1):=by
      unfold Lib.decodeN
      rw[if_neg (by omega),if_neg (by omega),if_neg (by omega),if_neg (by omega)]
     rw[this];simp
    ·rw[if_neg hn]
     have hEnc:(A9 (b0%32*64+b1%64)/\FE (b0%32*64+b1%64)=l.take 2)↔(b1/64=2/\128<=b0%32*64+b1%64):=by
      rw[KJ l (by omega)]
      generalize hr:b0%32*64+b1%64=r
      unfold A9 FE
      by_cases k1:r<128
      ·rw[if_pos k1];simp;omega
      ·rw[if_neg k1,if_pos (by omega)]
       simp only[Dx,Dq,e0,e1,and_true]
       omega
     by_cases hE:b1/64=2/\128<=b0%32*64+b1%64
     ·rw[if_pos (hEnc.2 hE)]
      have:Lib.decodeN l.length b0 b1 b2 b3=(b0%32*64+b1%64,2):=by
       unfold Lib.decodeN
       rw[if_neg (by omega),if_pos (by omega),if_pos (by omega)]
      rw[this];simp
     ·rw[if_neg (fun hh=>hE (hEnc.1 hh))]
      have:Lib.decodeN l.length b0 b1 b2 b3=(65533,1):=by
       unfold Lib.decodeN
       rw[if_neg (by omega)]
       split
       ·rw[if_neg (by omega)]
       ·rw[if_neg (by omega),if_neg (by omega)]
      rw[this];simp
   ·have r4:rsz b0=1:=by unfold rsz;rw[if_neg c4,if_neg c3,if_neg c2]
    have rb:rb0 b0=b0:=by unfold rb0;rw[if_neg c4,if_neg c3,if_neg c2]
    rw[r4,rb]
    simp only[Nat.reduceSub,Cz]
    rw[if_neg (by omega),KK l hl]
    have hEnc:(A9 b0/\FE b0=[l.getD 0 0])↔b0<128:=by
     unfold A9 FE
     by_cases k1:b0<128
     ·rw[if_pos k1];simp only[Dx,Dq,e0,and_true];omega
     ·rw[if_neg k1,if_pos (by omega)];simp;omega
    by_cases hE:b0<128
    ·rw[if_pos (hEnc.2 hE)]
     have:Lib.decodeN l.length b0 b1 b2 b3=(b0,1):=by unfold Lib.decodeN;rw[if_pos hE]
     rw[this,if_neg (by simp;omega)]
     simp only[Prod.mk.injEq]
     rw[if_neg (by omega)]
     simp
    ·rw[if_neg (fun hh=>hE (hEnc.1 hh))]
     have:Lib.decodeN l.length b0 b1 b2 b3=(65533,1):=by
      unfold Lib.decodeN
      rw[if_neg (by omega),if_neg (by omega),if_neg (by omega),if_neg (by omega)]
     rw[this];simp
theorem ul_char (l:B8) (h:ul l≠0):A9 (ur l)/\FE (ur l)=l.take (ul l)/\ul l<=l.length/\ul l<=4:=by
 have hne:l≠ []:=fun h0=>h (by simp[ul,h0])
 have e:=Gv l hne
 rw[if_neg h]at e
 unfold OO at e
 simp only at e
 split at e
 ·simp only[Prod.mk.injEq]at e;omega
 ·split at e
  ·rename_i hn hc
   simp only[Prod.mk.injEq]at e
   rw[<-e.1,<-e.2]
   exact⟨hc.1,hc.2,by omega,(Qd _).2⟩
  ·simp only[Prod.mk.injEq]at e;omega
theorem Nn (l:B8):ul l<=l.length:=by
 by_cases h:ul l=0
 ·omega
 ·exact(ul_char l h).2.2.1
def A5 (l:B8):Nat:=if h:ul l=0 then 0 else ul l+A5 (l.drop (ul l))
termination_by l.length
decreasing_by
 have:=Nn l
 simp only[List.length_drop];omega
theorem Cy (l:B8) (h:ul l=0):A5 l=0:=by rw[A5,dif_pos h]
theorem EH (l:B8) (h:ul l≠0):A5 l=ul l+A5 (l.drop (ul l)):=by rw[A5,dif_neg h]
theorem Uv:∀(n:Nat) (l:B8),l.length<=n->A5 l<=l.length
 | 0,l,h=>by
  have:l=[]:=List.eq_nil_of_length_eq_zero (by omega)
  subst this
  rw[Cy _ (by simp[ul])];simp
 | n+1,l,h=>by
  by_cases h0:ul l=0
  ·rw[Cy l h0];omega
  ·have h1:=Nn l
   have h2:=Uv n (l.drop (ul l)) (by simp only[List.length_drop];omega)
   rw[EH l h0]
   simp only[List.length_drop]at h2;omega
end Go.TVF
end
namespace Go.TVF
open Go.IntKind(i64 u8)
open Go Go.Proofs
def A2 (c:UInt8):Prop:=48<=c.toNat/\c.toNat<=57
instance (c:UInt8):Decidable (A2 c):=inferInstanceAs (Decidable (_/\_))
def Cc (l:B8):Nat:=(l.reverse.takeWhile (·==48)).length
def DecOk (neg:Bool) (dg:B8) (ex:Int):Prop:=
 (dg=[]->neg=false/\ex=0)/\(dg≠ []->dg.length<=120/\(∀c,c∈dg->A2 c)/\dg.getD 0 0≠48/\Cc dg=0/\ -400<=ex/\ex<=400)
instance (neg:Bool) (dg:B8) (ex:Int):Decidable (DecOk neg dg ex):=inferInstanceAs (Decidable ((_->_)/\(_->_)))
def TimeOk (k d n z:Int):Prop:=
 1<=k/\k<=4/\0<=d/\d<=3652058/\0<=n/\n<=86399999999999/\ -1439<=z/\z<=1439/\(k=2->d=0)/\(k=1->n=0)/\(k≠4->z=0)
instance (k d n z:Int):Decidable (TimeOk k d n z):=inferInstanceAs (Decidable (_/\_/\_/\_/\_/\_/\_/\_/\(_->_)/\(_->_)/\(_->_)))
def Mu (y:Nat):Prop:=y%4=0/\(y%100≠0∨y%400=0)
instance (y:Nat):Decidable (Mu y):=inferInstanceAs (Decidable (_/\_))
def LY (y m:Nat):Nat:=if m=2 then(if Mu y then 29 else 28)else if m=4∨m=6∨m=9∨m=11 then 30 else 31
def IS (y:Nat):Nat->Nat
 | 0=>0
 | 1=>0
 | m+2=>IS y (m+1)+LY y (m+1)
def yrS (y:Nat):Nat:=365*(y-1)+(y-1)/4-(y-1)/100+(y-1)/400
theorem monS_12 (y:Nat):IS y 12+LY y 12=if Mu y then 366 else 365:=by
 simp only[IS,LY]
 by_cases h:Mu y<;>simp[h]
theorem TQ (k q:Nat) (h:0<q):(k+1)/q=k/q+(if (k+1)%q=0 then 1 else 0):=by
 rw[Nat.succ_div]
 congr 1
 simp only[Nat.dvd_iff_mod_eq_zero]
theorem We {y:Nat} (h:1<=y):yrS (y+1)=yrS y+(IS y 12+LY y 12):=by
 rw[monS_12]
 obtain⟨k,rfl⟩:∃k,y=k+1:=⟨y-1,by omega⟩
 unfold yrS
 simp only[Nat.add_sub_cancel]
 rw[TQ k 4 (by omega),TQ k 100 (by omega),TQ k 400 (by omega)]
 have m1:(k+1)%400=0->(k+1)%100=0:=fun h=>by omega
 have m2:(k+1)%100=0->(k+1)%4=0:=fun h=>by omega
 have m3:k/100<=k/4:=by omega
 by_cases a4:(k+1)%4=0
 ·rw[if_pos a4]
  by_cases a100:(k+1)%100=0
  ·rw[if_pos a100]
   by_cases a400:(k+1)%400=0
   ·rw[if_pos a400,if_pos ⟨a4,.inr a400⟩];omega
   ·rw[if_neg a400,if_neg (fun h=>h.2.elim (fun h=>h a100) a400)];omega
  ·rw[if_neg a100,if_neg (fun h=>a100 (m1 h)),if_pos ⟨a4,.inl a100⟩];omega
 ·rw[if_neg a4,if_neg (fun h=>a4 (m2 h)),if_neg (fun h=>a4 (m2 (m1 h))),if_neg (fun h=>a4 h.1)];omega
theorem Jn (y:Nat) {m:Nat} (h:1<=m):IS y (m+1)=IS y m+LY y m:=by
 cases m with
 | zero=>omega
 | succ m=>rfl
structure OwnOk (s:Sc) (l:List Vl) (f:List Fd):Prop where
 k0:0<=s.kind
 k7:s.kind<=7
 bo:s.kind≠1->s.b=false
 nu:s.kind≠2->s.neg=false/\s.dg=[]/\s.ex=0
 ti:s.kind≠3->s.tk=0/\s.td=0/\s.tn=0/\s.tz=0
 tx:s.kind≠4->s.text=[]
 by_:s.kind≠5->s.bytes=[]
 ls:s.kind≠6->l=[]
 fs:s.kind≠7->f=[]
noncomputable instance (s:Sc) (l:List Vl) (f:List Fd):Decidable (OwnOk s l f):=Classical.propDecidable _
def U8 (s:B8):Prop:=A5 s=s.length
instance (s:B8):Decidable (U8 s):=inferInstanceAs (Decidable (_=_))
theorem SlR.isPtr {st:St} {sz n i:Nat} {u:TV} {xs:List TV} (h:SlR st sz u n xs) (hi:i<n):TVF.isPtr (ixT sz u i)=true:=by
 rcases h with(⟨rfl,rfl,rfl⟩ | ⟨tip,rfl⟩) | ⟨b,off,cap,l,rfl,_⟩
 ·omega
 ·rfl
 ·rfl
theorem SlR.ldcf {st:St} {sz n i f m:Nat} {u:TV} {xs:List TV} (h:SlR st sz u n xs) (hl:xs.length=n*sz) (hi:i<n) (hf:f+m<=sz):Av st [] (.t (Af (ixT sz u i) f)) 0 m=some ((xs.drop (i*sz+f)).take m):=by
 have hm:(i+1)*sz<=n*sz:=Nat.mul_le_mul_right _ hi
 rw[Nat.add_mul,Nat.one_mul]at hm
 rcases h with(⟨rfl,rfl,rfl⟩ | ⟨tip,rfl⟩) | ⟨b,off,cap,l,rfl,h2,h3,h4,h5,rfl⟩
 ·omega
 ·show Av st [] (.t (.rptr ((xs.drop (i*sz)).drop f))) 0 m=_
  rw[List.drop_drop,NQ m 0 (by rw[List.length_drop];omega),List.drop_zero]
 ·have hc:n*sz<=cap*sz:=Nat.mul_le_mul_right _ h5
  have e1:(((l.drop off).take (n*sz)).drop (i*sz+f)).take m=(l.drop (off+i*sz+f)).take m:=by
   rw[List.drop_take,List.drop_drop,List.take_take,Nat.min_eq_left (by omega),Nat.add_assoc]
  rw[e1]
  have e:=K7 (B:=l.drop (off+i*sz+f+m)) (st:=st) (b:=b) ((l.drop (off+i*sz+f)).take m) l 0 (off+i*sz+f) h3 (by
   have:=List.take_append_drop m (l.drop (off+i*sz+f))
   rw[List.drop_drop]at this
   rw[Nat.add_zero];exact this.symm)
  rw[show((l.drop (off+i*sz+f)).take m).length=m by simp;omega]at e
  exact e
theorem SlR.ldf {st:St} {sz n i f:Nat} {u x:TV} {xs:List TV} (h:SlR st sz u n xs) (hl:xs.length=n*sz) (hi:i<n) (hf:f<sz) (hx:xs[i*sz+f]? =some x):Ac st [] (.t (Af (ixT sz u i) f)) 0=some x:=by
 have:=h.ldcf (f:=f) (m:=1) hl hi (by omega)
 have hlt:i*sz+f<xs.length:=by
  obtain⟨q,_⟩:=List.getElem?_eq_some_iff.1 hx
  exact q
 rw[List.drop_eq_getElem_cons hlt]at this
 rw[List.getElem?_eq_getElem hlt]at hx
 simp only[Av,List.take_succ_cons,List.take_zero]at this
 cases hq:Ac st [] (.t (Af (ixT sz u i) f)) 0 with
 | none=>rw[hq]at this;cases this
 | some y=>
  rw[hq]at this
  simp only[Option.map_some,Option.some.injEq,List.cons.injEq,and_true]at this
  rw[this];exact hx
theorem SlR.toBytes {st:St} {u:TV} {l:B8} (h:SlR st 1 u l.length (A3 l)):TVF.toBytes st u=some l:=by
 have hl:(A3 l).length=l.length:=JR l
 rcases h with(⟨rfl,h1,_⟩ | ⟨tip,rfl⟩) | ⟨b,off,cap,m,rfl,h2,h3,h4,h5,h6⟩
 ·rw[List.eq_nil_of_length_eq_zero h1];rfl
 ·simp[TVF.toBytes,Dz]
 ·have e:=K7 (B:=m.drop (off+l.length)) (st:=st) (b:=b) (A3 l) m 0 off h3 (by
   rw[h6,Nat.add_zero,Nat.mul_one,<-List.drop_drop,List.take_append_drop])
  rw[hl]at e
  simp only[TVF.toBytes,Nat.beq_refl,e,Dz]
theorem key14 {st0 st:St} {uf:TV} {xf:List TV} {l:List Fd} (hke:He st0 st) (h2:SlR st0 14 uf l.length xf) (h3:FsR st0 l xf) {i:Int} {k:Nat} (hi:i=k) {d:Fd} (hd:l[k]? =some d) {f:B8->Prop} (hf:f d.key):
  (0<=i/\i<(lenZ 14 uf:Int))/\need (TVF.isPtr (ixT 14 uf (Int.toNat i))) (Ah (Ac st [] (.t (Af (ixT 14 uf (Int.toNat i)) 0)) 0) fun x=>Ak .str x f):=by
 subst hi
 obtain⟨hk,_⟩:=List.getElem?_eq_some_iff.1 hd
 obtain⟨cw,hw,hcw,hcl⟩:=h3.get hd
 rw[h2.lenZ,Int.toNat_natCast]
 have hx:xf[k*14+0]? =some (.str d.key):=by
  cases d with
  | mk key w=>
   unfold FdR at hw
   obtain⟨cs,rfl,_⟩:=hw
   have:=congrArg (fun z=>z[0]?) hcw
   simpa [Fd.key]using this
 exact⟨⟨by omega,by omega⟩,Ab (h2.isPtr hk) (Ae ((h2.keep hke).ldf h3.len hk (by omega) hx) hf)⟩
theorem Wl {st0 st:St} {uf:TV} {xf:List TV} {l:List Fd} (hke:He st0 st) (h2:SlR st0 14 uf l.length xf) (h3:FsR st0 l xf) {i:Int} {k:Nat} (hi:i=k) (hk:k<l.length) {f:Fun [.int .i64,.bool,.bool,.str,.int .i64,.int .i64,.int .i64,.int .i64,.int .i64,.str,.tv,.tv,.tv] Prop}
  (hf:∀key s' l' f' ub1 ul1 uf1,l[k]? =some (.mk key (.mk s' l' f'))->VlR st0 (.mk s' l' f') (Bk s' ub1 ul1 uf1)->List.all (Bk s' ub1 ul1 uf1) Aq=true->f s'.kind s'.b s'.neg s'.dg s'.ex s'.tk s'.td s'.tn s'.tz s'.text ub1 ul1 uf1):
  (0<=i/\i<(lenZ 14 uf:Int))/\need (TVF.isPtr (ixT 14 uf (Int.toNat i))) (Ah ((Av st [] (.t (Af (ixT 14 uf (Int.toNat i)) 1)) 0 13).map TV.agg) fun x=>DF [.int .i64,.bool,.bool,.str,.int .i64,.int .i64,.int .i64,.int .i64,.int .i64,.str,.tv,.tv,.tv] x f):=by
 subst hi
 have gw:l[k]? =some l[k]:=List.getElem?_eq_getElem hk
 obtain⟨cw,hw,hcw,hcl⟩:=h3.get gw
 rw[h2.lenZ,Int.toNat_natCast]
 refine⟨⟨by omega,by omega⟩,Ab (h2.isPtr hk) ?_⟩
 rw[(h2.keep hke).ldcf (f:=1) (m:=13) h3.len hk (by omega)]
 generalize l[k]=w at*
 cases w with
 | mk key w=>
 cases w with
 | mk s' l' f'=>
 unfold FdR at hw
 obtain⟨cw2,rfl,hw1⟩:=hw
 have hw2:=hw1
 unfold VlR at hw2
 obtain⟨ub',ul',uf',xl',xf',rfl,w1,w2,w3,w4,w5⟩:=hw2
 have e:(xf.drop (k*14+1)).take 13=Bk s' ub' ul' uf':=by
  rw[<-List.drop_drop]
  have:=congrArg (fun z=>z.drop 1) hcw
  simp only[List.drop_take]at this
  simpa [Bk]using this
 rw[e]
 exact Ae rfl (QD (hf key s' l' f' ub' ul' uf' gw hw1 (Ef w1.one w2.one w4.one)))
theorem Rd.src {sz n:Nat} {v:TV} {xs:List TV} (h:Rd sz v n xs) (hl:xs.length=n*sz) (st:St):BJ st sz v=some (n,xs):=(SlR.of_rd (st:=st) h).src hl
theorem AB {s:B8} {f:B8->Prop} (h:f s):Ak .str (.str s) f:=h
theorem Am {k:IntKind} {n:Int} {f:Int->Prop} (h:f n):Ak (.int k) (.int k n) f:=by
 simp only[Ak];exact h
theorem BC {b:Bool} {f:Bool->Prop} (h:f b):Ak .bool (.bool b) f:=h
theorem DQ {α:Type} {K:α->St->Prop} {a b:α} {st:St} (h:a=b) (hk:K b st):K a st:=h▸hk
theorem OX {r:Int} {st:St} {K:Bool->St->Prop} (h0:0<=r) (hk:K (decide (A9 r.toNat)) st):Ad PR Cf [.int .i64 r] [.one (.bool)] st K:=by
 refine Gn _ st K (Aa (fun _=>Aa (fun h2=>Aa (fun h3=>?_) fun h3=>?_) fun h2=>?_) fun h1=>absurd h0 h1)
 ·have:A9 r.toNat:=by unfold A9;omega
  simpa [this]using hk
 ·have:decide ((57343:Int)<r)=decide (A9 r.toNat):=by
   rw[Bool.eq_iff_iff];simp only[decide_eq_true_eq];unfold A9;omega
  rw[this];exact hk
 ·have:¬A9 r.toNat:=by unfold A9;omega
  simpa [this]using hk
theorem Fu (st:St) (n:Nat) (l:B8) (xs:List TV) (h:xs=A3 l):(toBytes st (.list 1 .full n xs)).map TV.str=some (.str l):=by
 subst h;simp[toBytes,Dz]
theorem GI (n:Nat):IntKind.wrap .u8 (n:Int)=((UInt8.ofNat n).toNat:Int):=by
 unfold IntKind.wrap
 simp only[IntKind.signed,IntKind.bits]
 simp
 try omega
theorem orN (a b m:Nat) (hb:b<2^m) (h:a*2^m+b<2^63) (x y:Int) (hx:x=((a*2^m:Nat):Int)) (hy:y=(b:Int)):AU .or .i64 x y=((a*2^m+b:Nat):Int):=by
 rw[hx,hy];exact Tn a b m hb h
theorem TN {R:Int} {r:Nat} {st:St} {K:B8->Int->St->Prop} (hR:R=(r:Int)) (hr:r<2^40) (hk:K (if A9 r then FE r else []) (if A9 r then 0 else 2) st):Ad PR BR [.int .i64 R] [.one (.str),.one (.int .i64)] st K:=by
 have shr:∀m,m<=64->Int.fdiv R (2^(min m (IntKind.bits .i64)))=((r/2^m:Nat):Int):=fun m hm=>by rw[hR];exact shr_i64 r m hm
 have s6:=shr 6 (by decide)
 have s12:=shr 12 (by decide)
 have s18:=shr 18 (by decide)
 have m63:∀x:Nat,x<2^63->AU .and .i64 (x:Int) (63:Int)=((x%64:Nat):Int):=fun x hx=>Jf x 6 hx (by decide)
 have mR:AU .and .i64 R (63:Int)=((r%64:Nat):Int):=by rw[hR];exact m63 r (by omega)
 have o128:∀x:Nat,x<64->AU .or .i64 (128:Int) (x:Int)=((128+x:Nat):Int):=fun x hx=>orN 2 x 6 (by omega) (by omega) _ _ rfl rfl
 have hR0:0<=R:=by omega
 have hRn:R.toNat=r:=by omega
 refine Hq _ st K (OX hR0 (Ar (fun h0=>?_) fun h0=>?_))
 ·have hc:¬A9 r:=by rw[hRn]at h0;simpa using h0
  rw[if_neg hc,if_neg hc]at hk
  exact hk
 ·have hc:A9 r:=by rw[hRn]at h0;simpa using h0
  rw[if_pos hc,if_pos hc]at hk
  unfold FE at hk
  refine Aa (fun h1=>?_) fun h1=>Aa (fun h2=>?_) fun h2=>Aa (fun h3=>?_) fun h3=>?_
  ·rw[if_pos (by omega)]at hk
   exact Ae (Fu _ _ _ _ (by simp only[A3,List.map,Ow];rw[hR,GI])) hk
  ·rw[if_neg (by omega),if_pos (by omega)]at hk
   have o192:AU .or .i64 (192:Int) ((r/2^6:Nat):Int)=((192+r/64:Nat):Int):=orN 6 _ 5 (by omega) (by omega) _ _ rfl rfl
   refine Ae (Fu _ _ _ _ ?_) hk
   simp only[A3,List.map,Ow]
   rw[show Int.toNat (6:Int)=6 from rfl,s6,o192,mR,o128 _ (by omega),GI,GI]
  ·rw[if_neg (by omega),if_neg (by omega),if_pos (by omega)]at hk
   have o224:AU .or .i64 (224:Int) ((r/2^12:Nat):Int)=((224+r/4096:Nat):Int):=orN 14 _ 4 (by omega) (by omega) _ _ rfl rfl
   refine Ae (Fu _ _ _ _ ?_) hk
   simp only[A3,List.map,Ow]
   rw[show Int.toNat (6:Int)=6 from rfl,show Int.toNat (12:Int)=12 from rfl,s6,s12,o224,mR,m63 (r/2^6) (by omega),o128 _ (by omega),o128 _ (by omega),GI,GI,GI]
  ·rw[if_neg (by omega),if_neg (by omega),if_neg (by omega)]at hk
   have hr2:r<=1114111:=hc.1
   have o240:AU .or .i64 (240:Int) ((r/2^18:Nat):Int)=((240+r/262144:Nat):Int):=orN 30 _ 3 (by omega) (by omega) _ _ rfl rfl
   refine Ae (Fu _ _ _ _ ?_) hk
   simp only[A3,List.map,Ow]
   rw[show Int.toNat (6:Int)=6 from rfl,show Int.toNat (12:Int)=12 from rfl,show Int.toNat (18:Int)=18 from rfl,s6,s12,s18,o240,mR,m63 (r/2^6) (by omega),m63 (r/2^12) (by omega),o128 _ (by omega),o128 _ (by omega),o128 _ (by omega),GI,GI,GI,GI]
theorem VW {r:Nat} {st:St} {K:B8->Int->St->Prop} (hr:r<2^40) (hk:K (if A9 r then FE r else []) (if A9 r then 0 else 2) st):Ad PR BR [.int .i64 (r:Int)] [.one (.str),.one (.int .i64)] st K:=
 TN rfl hr hk
def rD (l:B8):Nat×Nat:=if ul l=0 then(0,0)else(ur l,ul l)
theorem RJ {s:B8} {I:Int} {i:Nat} {st:St} {K:Int->Int->St->Prop} (hI:I=(i:Int)) (hl:s.length<=2000000) (hi:i<=s.length) (hk:K ((rD (s.drop i)).1:Nat) ((rD (s.drop i)).2:Nat) st):Ad PR BS [.str s,.int .i64 I] [.one (.int .i64),.one (.int .i64)] st K:=by
 refine Hr s I st K (Aa (fun h=>by omega) fun _=>Aa (fun h=>?_) fun h=>⟨⟨by omega,by omega⟩,?_⟩)
 ·have:s.drop i=[]:=List.drop_of_length_le (by omega)
  have h0:rD (s.drop i)=(0,0):=by rw[this];simp[rD,ul]
  rw[h0]at hk;exact hk
 ·have hne:s.drop i≠ []:=by
   intro h0
   have:=congrArg List.length h0
   simp at this;omega
  have href:=Gv (s.drop i) hne
  have hb0:(List.getD s (Int.toNat I) 0).toNat=bt (s.drop i) 0:=by rw[QN,hI];rfl
  have hlt:=Ei (s.drop i) 0
  have hlen:(s.drop i).length=s.length-i:=by simp
  rw[hb0,Wf _ (by omega)]
  have m15:AU .and .i64 ((bt (s.drop i) 0:Nat):Int) (15:Int)=((bt (s.drop i) 0%16:Nat):Int):=Jf _ 4 (by omega) (by decide)
  have m7:AU .and .i64 ((bt (s.drop i) 0:Nat):Int) (7:Int)=((bt (s.drop i) 0%8:Nat):Int):=Jf _ 3 (by omega) (by decide)
  have m31:AU .and .i64 ((bt (s.drop i) 0:Nat):Int) (31:Int)=((bt (s.drop i) 0%32:Nat):Int):=Jf _ 5 (by omega) (by decide)
  rw[m15,m7,m31]
  refine⟨fun size r s' at' st1=>s=s'/\I=at'/\st=st1/\((rsz (bt (s.drop i) 0):Nat):Int)=size/\((rb0 (bt (s.drop i) 0):Nat):Int)=r,?_,?_⟩
  ·refine Aa (fun h1=>⟨rfl,rfl,rfl,?_,?_⟩) fun h1=>Aa (fun h2=>⟨rfl,rfl,rfl,?_,?_⟩) fun h2=>Aa (fun h3=>⟨rfl,rfl,rfl,?_,?_⟩) fun h3=>⟨rfl,rfl,rfl,?_,?_⟩
   ·unfold rsz;rw[if_pos (by omega)];rfl
   ·unfold rb0;rw[if_pos (by omega)]
   ·unfold rsz;rw[if_neg (by omega),if_pos (by omega)];rfl
   ·unfold rb0;rw[if_neg (by omega),if_pos (by omega)]
   ·unfold rsz;rw[if_neg (by omega),if_neg (by omega),if_pos (by omega)];rfl
   ·unfold rb0;rw[if_neg (by omega),if_neg (by omega),if_pos (by omega)]
   ·unfold rsz;rw[if_neg (by omega),if_neg (by omega),if_neg (by omega)];rfl
   ·unfold rb0;rw[if_neg (by omega),if_neg (by omega),if_neg (by omega)]
  ·rintro _ _ _ _ _ ⟨rfl,rfl,rfl,rfl,rfl⟩
   have hs:=Qd (bt (s.drop i) 0)
   have hr0:=rb0_lt _ hlt
   generalize hsz:rsz (bt (s.drop i) 0)=size at*
   generalize hrr:rb0 (bt (s.drop i) 0)=r0 at*
   have hra:=Qj (s.drop i) r0 hr0
   unfold OO at href
   simp only[hsz,hrr]at href
   rw[Al _ (by omega) (by omega)]
   refine Aa (fun h1=>?_) fun h1=>?_
   ·rw[if_pos (by omega)]at href
    have:rD (s.drop i)=(0,0):=by unfold rD;rw[<-href]
    rw[this]at hk;exact hk
   ·rw[if_neg (by omega)]at href
    refine⟨fun r j s' at' sz st2=>s=s'/\I=at'/\st=st2/\((size:Nat):Int)=sz/\∃k:Nat,j=((k+1:Nat):Int)/\k+1<=size/\r=((Cz (s.drop i) r0 k:Nat):Int),fun _ j _ _ sz _=>(sz-j).toNat,⟨rfl,rfl,rfl,rfl,0,rfl,hs.1,rfl⟩,?_⟩
    rintro _ _ _ _ _ _ ⟨rfl,rfl,rfl,rfl,k,rfl,hk1,rfl⟩
    have hrk:=hra k
    have h64:64^k<=64^3:=Nat.pow_le_pow_right (by decide) (by omega)
    refine Aa (fun h2=>?_) fun h2=>?_
    ·rw[Al _ (by omega) (by omega)]
     have hbk:(List.getD s (Int.toNat (I+((k+1:Nat):Int))) 0).toNat=bt (s.drop i) (k+1):=by
      rw[QN,show Int.toNat (I+((k+1:Nat):Int))=i+(k+1) by omega];rfl
     have hbl:=Ei (s.drop i) (k+1)
     have hand:AU .and .i64 (i64.wrap ((bt (s.drop i) (k+1):Nat):Int)) (63:Int)=((bt (s.drop i) (k+1)%64:Nat):Int):=by
      rw[Wf _ (by omega)];exact Jf _ 6 (by omega) (by decide)
     have hmul:i64.wrap (((Cz (s.drop i) r0 k:Nat):Int)*2^(min (Int.toNat (6:Int)) (IntKind.bits .i64)))=((Cz (s.drop i) r0 k*2^6:Nat):Int):=by
      rw[show(2:Int)^(min (Int.toNat (6:Int)) (IntKind.bits .i64))=64 by decide,Al _ (by omega) (by omega)];omega
     refine⟨⟨by omega,by omega⟩,?_⟩
     rw[hbk,hand,hmul,Tn _ _ 6 (by omega) (by omega),Al _ (by omega) (by omega)]
     exact⟨⟨rfl,rfl,rfl,rfl,k+1,by omega,by omega,by simp only[Cz]⟩,by dsimp only;omega⟩
    ·have hks:k=size-1:=by omega
     subst hks
     refine VW (by omega) ?_
     generalize hR:Cz (s.drop i) r0 (size-1)=R at*
     refine Aa (fun h3=>?_) fun h3=>?_
     ·have hc:¬A9 R:=by intro hc;rw[if_pos hc]at h3;exact h3 rfl
      rw[if_neg (fun h=>hc h.1)]at href
      have:rD (s.drop i)=(0,0):=by unfold rD;rw[<-href]
      rw[this]at hk;exact hk
     ·have hc:A9 R:=by
       apply Decidable.byContradiction
       intro hc;rw[if_neg hc]at h3;exact h3 (by decide)
      rw[if_pos hc,Al _ (by omega) (by omega)]
      refine⟨⟨by omega,by omega,by omega⟩,?_⟩
      rw[ER,show Int.toNat (I+(size:Int))-Int.toNat I=size by omega,show Int.toNat I=i by omega]
      refine Aa (fun h4=>?_) fun h4=>?_
      ·rw[if_neg (fun h=>h4 h.2)]at href
       have:rD (s.drop i)=(0,0):=by unfold rD;rw[<-href]
       rw[this]at hk;exact hk
      ·rw[if_pos ⟨hc,Decidable.not_not.1 h4⟩]at href
       have:rD (s.drop i)=(R,size):=by unfold rD;rw[<-href]
       rw[this]at hk;exact hk
theorem Te {s:B8} {i:Nat} {st:St} {K:Int->Int->St->Prop} (hl:s.length<=2000000) (hi:i<=s.length) (hk:K ((rD (s.drop i)).1:Nat) ((rD (s.drop i)).2:Nat) st):Ad PR BS [.str s,.int .i64 (i:Int)] [.one (.int .i64),.one (.int .i64)] st K:=
 RJ rfl hl hi hk
theorem Ng (l:B8):A5 l<=l.length:=Uv _ l (Nat.le_refl _)
theorem Wk:A5 []=0:=Cy _ (by simp[ul])
theorem Rd.ldx {sz:Nat} {v:TV} {n:Nat} {xs:List TV} (h:Rd sz v n xs) (st:St) (i j:Nat) {x:TV} (hx:xs[i*sz+j]? =some x):Ac st [] (.t (ixT sz v i)) j=some x:=by
 obtain⟨hlt,hx⟩:=List.getElem?_eq_some_iff.1 hx
 rw[h.ld st i j hlt,hx]
theorem Rd.ldfx {sz:Nat} {v:TV} {n:Nat} {xs:List TV} (h:Rd sz v n xs) (st:St) (i j:Nat) {x:TV} (hx:xs[i*sz+j]? =some x):Ac st [] (.t (Af (ixT sz v i) j)) 0=some x:=by
 obtain⟨hlt,hx⟩:=List.getElem?_eq_some_iff.1 hx
 rw[h.ldf st i j hlt,hx]
theorem OZ {s:B8} {st:St} {K:TV->Bool->St->Prop} (hl:s.length<=2000000)
  (hk:∀v xs st',AN st st'->Rd 1 v (xs.length+1) (xs++[.int .i64 ((A5 s:Nat):Int)])->xs.length<=s.length->K v (decide (A5 s=s.length)) st'):Ad PR B2 [.str s] [.one (.tv),.one (.bool)] st K:=by
 have hv:=Ng s
 refine FY s st K ⟨fun v i s' st'=>s=s'/\AN st st'/\∃(k:Nat) (xs:List TV),i=(k:Int)/\k<=s.length/\k+A5 (s.drop k)=A5 s/\xs.length<=k/\Own st.nt 1 st' v (xs.length+1) (xs++[.int .i64 (k:Int)]),fun _ i _ _=>(s.length-i).toNat,⟨rfl,AN.refl _,0,[],rfl,by omega,by simp,by simp,Own.full _ _ _ _ _⟩,?_⟩
 rintro v _ _ st1 ⟨rfl,e,k,xs,rfl,h1,h2,h3,h4⟩
 refine Aa (fun g1=>?_) fun g1=>?_
 ·have hle:=Nn (s.drop k)
  rw[List.length_drop]at hle
  refine Te hl h1 ?_
  unfold rD
  by_cases h0:ul (s.drop k)=0
  ·rw[if_pos h0]
   rw[Cy _ h0]at h2
   refine Aa (fun _=>?_) fun h=>absurd rfl h
   have:=hk v xs st1 e (by rw[<-h2];exact h4.rd) (by omega)
   rw[decide_eq_false (by omega)]at this
   exact this
  ·rw[if_neg h0]
   rw[EH _ h0,List.drop_drop]at h2
   have w:i64.wrap ((k:Int)+(ul (s.drop k):Nat))=((k+ul (s.drop k):Nat):Int):=by rw[Al _ (by omega) (by omega)];omega
   refine Aa (fun h=>by simp only at h;omega) fun _=>?_
   dsimp only
   rw[w]
   refine CV e rfl h4 (by omega) (fun h=>by cases h) fun v' st' e' _ ho=>⟨⟨rfl,e',k+ul (s.drop k),xs++[.int .i64 (k:Int)],rfl,by omega,by omega,by rw[List.length_append];simp;omega,?_⟩,by omega⟩
   rw[List.length_append];exact ho
 ·rw[show s.drop k=[]from List.drop_of_length_le (by omega),Wk]at h2
  have hks:k=A5 s:=by omega
  have:=hk v xs st1 e (by rw[<-hks];exact h4.rd) (by omega)
  rw[decide_eq_true (by omega)]at this
  exact this
def hdS (b:Nat):Nat:=if b<128 then 1 else if 192<=b/\b<224 then 2 else if 224<=b/\b<240 then 3 else if 240<=b/\b<248 then 4 else 0
def hdB (b:Nat):Nat:=if b<128 then b else if 192<=b/\b<224 then b%32 else if 224<=b/\b<240 then b%16 else if 240<=b/\b<248 then b%8 else 0
def wid (r:Nat):Nat:=if r<128 then 1 else if r<2048 then 2 else if r<65536 then 3 else 4
theorem Jv (a m:Nat) (ha:a<256) (hm:m<=8):AU .and .u8 (a:Int) ((2^m-1:Nat):Int)=((a%2^m:Nat):Int):=by
 have:2^m<=2^8:=Nat.pow_le_pow_right (by decide) hm
 rw[XF _ _ ha (by omega),Nat.and_two_pow_sub_one_eq_mod]
theorem head_ok {B:Int} {b:Nat} {st:St} {K:Int->Int->St->Prop} (hB:B=(b:Int)) (hb:b<256) (hk:K (hdS b:Nat) (hdB b:Nat) st):Ad PR IZ [.int .u8 B] [.one (.int .i64),.one (.int .i64)] st K:=by
 have m31:AU .and .u8 B (31:Int)=((b%32:Nat):Int):=by rw[hB];exact Jv b 5 hb (by decide)
 have m15:AU .and .u8 B (15:Int)=((b%16:Nat):Int):=by rw[hB];exact Jv b 4 hb (by decide)
 have m7:AU .and .u8 B (7:Int)=((b%8:Nat):Int):=by rw[hB];exact Jv b 3 hb (by decide)
 unfold hdS hdB at hk
 have kk:∀(x y x' y':Int),x=x'->y=y'->K x' y' st->K x y st:=fun x y x' y' h1 h2 hk=>by rw[h1,h2];exact hk
 refine Q2 B st K ?_
 rw[m31,m15,m7,Al B (by omega) (by omega),Al ((b%32:Nat):Int) (by omega) (by omega),Al ((b%16:Nat):Int) (by omega) (by omega),Al ((b%8:Nat):Int) (by omega) (by omega)]
 by_cases g1:b<128
 ·rw[if_pos g1,if_pos g1]at hk
  exact Aa (fun _=>kk _ _ _ _ rfl hB hk) fun h=>by omega
 rw[if_neg g1,if_neg g1]at hk
 refine Aa (fun h=>by omega) fun _=>?_
 by_cases g2:192<=b/\b<224
 ·rw[if_pos g2,if_pos g2]at hk
  exact Aa (fun _=>Aa (fun _=>hk) fun h=>by omega) fun h=>by omega
 rw[if_neg g2,if_neg g2]at hk
 by_cases g3:224<=b/\b<240
 ·rw[if_pos g3,if_pos g3]at hk
  refine Aa (fun _=>Aa (fun h=>by omega) fun _=>?_) fun h=>by omega
  exact Aa (fun _=>Aa (fun _=>hk) fun h=>by omega) fun h=>by omega
 rw[if_neg g3,if_neg g3]at hk
 by_cases g4:240<=b/\b<248
 ·rw[if_pos g4,if_pos g4]at hk
  refine Aa (fun _=>Aa (fun h=>by omega) fun _=>?_) fun h=>by omega
  refine Aa (fun _=>Aa (fun h=>by omega) fun _=>?_) fun h=>by omega
  exact Aa (fun _=>Aa (fun _=>hk) fun h=>by omega) fun h=>by omega
 rw[if_neg g4,if_neg g4]at hk
 repeat' first
  | exact hk
  | omega
  | refine Aa (fun _=>?_) fun _=>?_
theorem Vp {R:Int} {r:Nat} {st:St} {K:Bool->St->Prop} (hR:R=(r:Int)) (hk:K (decide (A9 r)) st):Ad PR GM [.int .i64 R] [.one (.bool)] st K:=by
 unfold A9 at hk
 refine OJ R st K (Aa (fun _=>Aa (fun h2=>Aa (fun h3=>?_) fun h3=>?_) fun h2=>?_) fun h1=>by omega)
 ·exact DQ (decide_eq_true (by omega)).symm hk
 ·exact DQ (decide_eq_decide.2 (by omega)) hk
 ·exact DQ (decide_eq_false (by omega)).symm hk
theorem Wg {R:Int} {r:Nat} {st:St} {K:Int->St->Prop} (hR:R=(r:Int)) (hk:K (wid r:Nat) st):Ad PR HI [.int .i64 R] [.one (.int .i64)] st K:=by
 unfold wid at hk
 refine P1 R st K (Aa (fun h1=>?_) fun h1=>Aa (fun h2=>?_) fun h2=>Aa (fun h3=>?_) fun h3=>?_)
 ·rw[if_pos (by omega)]at hk;exact hk
 ·rw[if_neg (by omega),if_pos (by omega)]at hk;exact hk
 ·rw[if_neg (by omega),if_neg (by omega),if_pos (by omega)]at hk;exact hk
 ·rw[if_neg (by omega),if_neg (by omega),if_neg (by omega)]at hk;exact hk
def Qk (l:B8):Prop:=hdS (bt l 0)≠0/\hdS (bt l 0)<=l.length/\(∀j,1<=j->j<hdS (bt l 0)->bt l j/64=2)/\A9 (Cz l (hdB (bt l 0)) (hdS (bt l 0)-1))/\wid (Cz l (hdB (bt l 0)) (hdS (bt l 0)-1))=hdS (bt l 0)
theorem pd_val (l:B8) (h:l≠ []) (hp:Qk l):ul l=hdS (bt l 0)/\ur l=Cz l (hdB (bt l 0)) (hdS (bt l 0)-1):=by
 obtain⟨p1,p2,p3,p4,p5⟩:=hp
 have e:=Gv l h
 have h0:=Ei l 0
 have e0:(l.getD 0 0).toNat=bt l 0:=rfl
 have e1:(l.getD 1 0).toNat=bt l 1:=rfl
 have e2:(l.getD 2 0).toNat=bt l 2:=rfl
 have e3:(l.getD 3 0).toNat=bt l 3:=rfl
 have fin:∀n r,rsz (bt l 0)=n->rb0 (bt l 0)=r->n=hdS (bt l 0)->r=hdB (bt l 0)->FE (Cz l r (n-1))=l.take n->ul l=hdS (bt l 0)/\ur l=Cz l (hdB (bt l 0)) (hdS (bt l 0)-1):=by
  intro n r hn hr hn2 hr2 henc
  unfold OO at e
  simp only[hn,hr]at e
  rw[if_neg (by omega),if_pos ⟨by rw[hr2,hn2];exact p4,henc⟩]at e
  by_cases hz:ul l=0
  ·rw[if_pos hz]at e;simp only[Prod.mk.injEq]at e;omega
  ·rw[if_neg hz]at e;simp only[Prod.mk.injEq]at e
   exact⟨by omega,by rw[<-hr2,<-hn2];exact e.1.symm⟩
 have h1:=Ei l 1
 have h2:=Ei l 2
 have h3:=Ei l 3
 by_cases g1:bt l 0<128
 ·have hs:hdS (bt l 0)=1:=by unfold hdS;rw[if_pos g1]
  have hb:hdB (bt l 0)=bt l 0:=by unfold hdB;rw[if_pos g1]
  refine fin 1 (bt l 0) (by unfold rsz;rw[if_neg (by omega),if_neg (by omega),if_neg (by omega)]) (by unfold rb0;rw[if_neg (by omega),if_neg (by omega),if_neg (by omega)]) hs.symm hb.symm ?_
  rw[KK l (by omega)]
  simp only[Nat.sub_self,Cz]
  unfold FE
  rw[if_pos g1]
  simp only[Dx,Dq,e0,and_true]
  omega
 by_cases g2:192<=bt l 0/\bt l 0<224
 ·have hs:hdS (bt l 0)=2:=by unfold hdS;rw[if_neg g1,if_pos g2]
  have hb:hdB (bt l 0)=bt l 0%32:=by unfold hdB;rw[if_neg g1,if_pos g2]
  rw[hs]at p3 p5
  rw[hb]at p5
  have q1:=p3 1 (by omega) (by omega)
  refine fin 2 (bt l 0%32) (by unfold rsz;rw[if_neg (by omega),if_neg (by omega),if_pos (by omega)]) (by unfold rb0;rw[if_neg (by omega),if_neg (by omega),if_pos (by omega)]) hs.symm hb.symm ?_
  rw[KJ l (by omega)]
  simp only[Nat.reduceSub,Cz,Nat.zero_add]at p5⊢
  generalize bt l 0=b0 at*
  generalize bt l 1=b1 at*
  unfold wid at p5
  unfold FE
  by_cases k1:b0%32*64+b1%64<128
  ·rw[if_pos k1]at p5;omega
  rw[if_neg k1]at p5⊢
  by_cases k2:b0%32*64+b1%64<2048
  ·rw[if_pos k2]
   simp only[Dx,Dq,e0,e1,and_true]
   omega
  ·rw[if_neg k2]at p5;split at p5<;>omega
 by_cases g3:224<=bt l 0/\bt l 0<240
 ·have hs:hdS (bt l 0)=3:=by unfold hdS;rw[if_neg g1,if_neg g2,if_pos g3]
  have hb:hdB (bt l 0)=bt l 0%16:=by unfold hdB;rw[if_neg g1,if_neg g2,if_pos g3]
  rw[hs]at p3 p5
  rw[hb]at p5
  have q1:=p3 1 (by omega) (by omega)
  have q2:=p3 2 (by omega) (by omega)
  refine fin 3 (bt l 0%16) (by unfold rsz;rw[if_neg (by omega),if_pos (by omega)]) (by unfold rb0;rw[if_neg (by omega),if_pos (by omega)]) hs.symm hb.symm ?_
  rw[Hv l (by omega)]
  simp only[Nat.reduceSub,Cz,Nat.zero_add,Nat.reduceAdd]at p5⊢
  generalize bt l 0=b0 at*
  generalize bt l 1=b1 at*
  generalize bt l 2=b2 at*
  generalize hr:(b0%16*64+b1%64)*64+b2%64=r at*
  unfold wid at p5
  unfold FE
  by_cases k1:r<128
  ·rw[if_pos k1]at p5;omega
  rw[if_neg k1]at p5⊢
  by_cases k2:r<2048
  ·rw[if_pos k2]at p5;omega
  rw[if_neg k2]at p5⊢
  by_cases k3:r<65536
  ·rw[if_pos k3]
   simp only[Dx,Dq,e0,e1,e2,and_true]
   omega
  ·rw[if_neg k3]at p5;omega
 by_cases g4:240<=bt l 0/\bt l 0<248
 ·have hs:hdS (bt l 0)=4:=by unfold hdS;rw[if_neg g1,if_neg g2,if_neg g3,if_pos g4]
  have hb:hdB (bt l 0)=bt l 0%8:=by unfold hdB;rw[if_neg g1,if_neg g2,if_neg g3,if_pos g4]
  rw[hs]at p3 p4 p5
  rw[hb]at p4 p5
  have q1:=p3 1 (by omega) (by omega)
  have q2:=p3 2 (by omega) (by omega)
  have q3:=p3 3 (by omega) (by omega)
  refine fin 4 (bt l 0%8) (by unfold rsz;rw[if_pos (by omega)]) (by unfold rb0;rw[if_pos (by omega)]) hs.symm hb.symm ?_
  rw[LC l (by omega)]
  simp only[Nat.reduceSub,Cz,Nat.zero_add,Nat.reduceAdd]at p4 p5⊢
  generalize bt l 0=b0 at*
  generalize bt l 1=b1 at*
  generalize bt l 2=b2 at*
  generalize bt l 3=b3 at*
  generalize hr:((b0%8*64+b1%64)*64+b2%64)*64+b3%64=r at*
  unfold wid at p5
  unfold FE
  by_cases k1:r<128
  ·rw[if_pos k1]at p5;omega
  rw[if_neg k1]at p5⊢
  by_cases k2:r<2048
  ·rw[if_pos k2]at p5;omega
  rw[if_neg k2]at p5⊢
  by_cases k3:r<65536
  ·rw[if_pos k3]at p5;omega
  rw[if_neg k3]
  have:=p4.1
  simp only[Dx,Dq,e0,e1,e2,e3,and_true]
  omega
 ·exfalso
  unfold hdS at p1
  rw[if_neg g1,if_neg g2,if_neg g3,if_neg g4]at p1
  exact p1 rfl
theorem pd_iff (l:B8) (h:l≠ []):ul l≠0->Qk l:=by
 intro hu
 have e:=Gv l h
 rw[if_neg hu]at e
 have h0:=Ei l 0
 have e0:(l.getD 0 0).toNat=bt l 0:=rfl
 have e1:(l.getD 1 0).toNat=bt l 1:=rfl
 have e2:(l.getD 2 0).toNat=bt l 2:=rfl
 have e3:(l.getD 3 0).toNat=bt l 3:=rfl
 have h1:=Ei l 1
 have h2:=Ei l 2
 have h3:=Ei l 3
 have hc:¬l.length<rsz (bt l 0)/\A9 (Cz l (rb0 (bt l 0)) (rsz (bt l 0)-1))/\FE (Cz l (rb0 (bt l 0)) (rsz (bt l 0)-1))=l.take (rsz (bt l 0)):=by
  unfold OO at e
  simp only at e
  split at e
  ·simp only[Prod.mk.injEq]at e;omega
  ·split at e
   ·rename_i a b;exact⟨a,b⟩
   ·simp only[Prod.mk.injEq]at e;omega
 obtain⟨hl,hch,henc⟩:=hc
 by_cases g4:240<=bt l 0
 ·have r4:rsz (bt l 0)=4:=by unfold rsz;rw[if_pos g4]
  have rb:rb0 (bt l 0)=bt l 0%8:=by unfold rb0;rw[if_pos g4]
  rw[r4,rb]at henc hch
  rw[r4]at hl
  rw[LC l (by omega)]at henc
  unfold Qk hdS hdB
  simp only[Nat.reduceSub,Cz,Nat.zero_add,Nat.reduceAdd]at henc hch
  generalize hb0:bt l 0=b0 at*
  generalize hb1:bt l 1=b1 at*
  generalize hb2:bt l 2=b2 at*
  generalize hb3:bt l 3=b3 at*
  have hr0:∃r,r=((b0%8*64+b1%64)*64+b2%64)*64+b3%64:=⟨_,rfl⟩
  obtain⟨r,hr⟩:=hr0
  rw[<-hr]at henc hch
  have hmax:=hch.1
  unfold FE at henc
  have hw:wid r=4/\b0=240+r/262144/\b1/64=2/\b2/64=2/\b3/64=2:=by
   unfold wid
   split at henc
   ·simp at henc
   ·split at henc
    ·simp at henc
    ·split at henc
     ·simp at henc
     ·simp only[Dx,Dq,e0,e1,e2,e3,and_true]at henc
      refine⟨by rw[if_neg ‹_›,if_neg ‹_›,if_neg ‹_›],by omega,by omega,by omega,by omega⟩
  rw[if_neg (show ¬b0<128 by omega),if_neg (show ¬(192<=b0/\b0<224) by omega),if_neg (show ¬(224<=b0/\b0<240) by omega),if_pos (show 240<=b0/\b0<248 by omega),if_neg (show ¬b0<128 by omega),if_neg (show ¬(192<=b0/\b0<224) by omega),if_neg (show ¬(224<=b0/\b0<240) by omega),if_pos (show 240<=b0/\b0<248 by omega)]
  simp only[Nat.reduceSub,Cz,Nat.zero_add,Nat.reduceAdd,hb1,hb2,hb3]
  rw[<-hr]
  refine⟨by omega,by omega,fun j j1 j2=>?_,hch,hw.1⟩
  have:j=1∨j=2∨j=3:=by omega
  rcases this with rfl | rfl | rfl<;>omega
 by_cases g3:224<=bt l 0
 ·have r4:rsz (bt l 0)=3:=by unfold rsz;rw[if_neg g4,if_pos g3]
  have rb:rb0 (bt l 0)=bt l 0%16:=by unfold rb0;rw[if_neg g4,if_pos g3]
  rw[r4,rb]at henc hch
  rw[r4]at hl
  rw[Hv l (by omega)]at henc
  unfold Qk hdS hdB
  simp only[Nat.reduceSub,Cz,Nat.zero_add,Nat.reduceAdd]at henc hch
  generalize hb0:bt l 0=b0 at*
  generalize hb1:bt l 1=b1 at*
  generalize hb2:bt l 2=b2 at*
  have hr0:∃r,r=(b0%16*64+b1%64)*64+b2%64:=⟨_,rfl⟩
  obtain⟨r,hr⟩:=hr0
  rw[<-hr]at henc hch
  unfold FE at henc
  have hw:wid r=3/\b1/64=2/\b2/64=2:=by
   unfold wid
   split at henc
   ·simp at henc
   ·split at henc
    ·simp at henc
    ·split at henc
     ·simp only[Dx,Dq,e0,e1,e2,and_true]at henc
      refine⟨by rw[if_neg ‹_›,if_neg ‹_›,if_pos ‹_›],by omega,by omega⟩
     ·simp at henc
  rw[if_neg (show ¬b0<128 by omega),if_neg (show ¬(192<=b0/\b0<224) by omega),if_pos (show 224<=b0/\b0<240 by omega),if_neg (show ¬b0<128 by omega),if_neg (show ¬(192<=b0/\b0<224) by omega),if_pos (show 224<=b0/\b0<240 by omega)]
  simp only[Nat.reduceSub,Cz,Nat.zero_add,Nat.reduceAdd,hb1,hb2]
  rw[<-hr]
  refine⟨by omega,by omega,fun j j1 j2=>?_,hch,hw.1⟩
  have:j=1∨j=2:=by omega
  rcases this with rfl | rfl<;>omega
 by_cases g2:192<=bt l 0
 ·have r4:rsz (bt l 0)=2:=by unfold rsz;rw[if_neg g4,if_neg g3,if_pos g2]
  have rb:rb0 (bt l 0)=bt l 0%32:=by unfold rb0;rw[if_neg g4,if_neg g3,if_pos g2]
  rw[r4,rb]at henc hch
  rw[r4]at hl
  rw[KJ l (by omega)]at henc
  unfold Qk hdS hdB
  simp only[Nat.reduceSub,Cz,Nat.zero_add,Nat.reduceAdd]at henc hch
  generalize hb0:bt l 0=b0 at*
  generalize hb1:bt l 1=b1 at*
  have hr0:∃r,r=b0%32*64+b1%64:=⟨_,rfl⟩
  obtain⟨r,hr⟩:=hr0
  rw[<-hr]at henc hch
  unfold FE at henc
  have hw:wid r=2/\b1/64=2:=by
   unfold wid
   split at henc
   ·simp at henc
   ·split at henc
    ·simp only[Dx,Dq,e0,e1,and_true]at henc
     refine⟨by rw[if_neg ‹_›,if_pos ‹_›],by omega⟩
    ·split at henc<;>simp at henc
  rw[if_neg (show ¬b0<128 by omega),if_pos (show 192<=b0/\b0<224 by omega),if_neg (show ¬b0<128 by omega),if_pos (show 192<=b0/\b0<224 by omega)]
  simp only[Nat.reduceSub,Cz,Nat.zero_add,hb1]
  rw[<-hr]
  refine⟨by omega,by omega,fun j j1 j2=>?_,hch,hw.1⟩
  have:j=1:=by omega
  subst this;omega
 ·have r4:rsz (bt l 0)=1:=by unfold rsz;rw[if_neg g4,if_neg g3,if_neg g2]
  have rb:rb0 (bt l 0)=bt l 0:=by unfold rb0;rw[if_neg g4,if_neg g3,if_neg g2]
  rw[r4,rb]at henc hch
  rw[r4]at hl
  rw[KK l (by omega)]at henc
  unfold Qk hdS hdB
  simp only[Nat.sub_self,Cz]at henc hch
  generalize hb0:bt l 0=b0 at*
  have hlt:b0<128:=by
   unfold FE at henc
   split at henc
   ·assumption
   ·split at henc
    ·simp at henc
    ·split at henc<;>simp at henc
  rw[if_pos hlt,if_pos hlt]
  simp only[Nat.sub_self,Cz]
  refine⟨by omega,by omega,fun j j1 j2=>by omega,hch,by unfold wid;rw[if_pos hlt]⟩
theorem SS {s:B8} {I:Int} {i:Nat} {st:St} {K:Int->Int->St->Prop} (hI:I=(i:Int)) (hl:s.length<=2000000) (hi:i<=s.length) (hk:K ((rD (s.drop i)).1:Nat) ((rD (s.drop i)).2:Nat) st):
  Ad PR GN [.str s,.int .i64 I] [.one (.int .i64),.one (.int .i64)] st K:=by
 have no:¬Qk (s.drop i)->s.drop i≠ []->K 0 0 st:=fun h hne=>by
  have:ul (s.drop i)=0:=Decidable.byContradiction fun h0=>h (pd_iff _ hne h0)
  unfold rD at hk
  rw[if_pos this]at hk;exact hk
 have yes:Qk (s.drop i)->s.drop i≠ []->K (Cz (s.drop i) (hdB (bt (s.drop i) 0)) (hdS (bt (s.drop i) 0)-1):Nat) (hdS (bt (s.drop i) 0):Nat) st:=fun h hne=>by
  have hv:=pd_val _ hne h
  unfold rD at hk
  rw[if_neg (by rw[hv.1];exact h.1),hv.1,hv.2]at hk
  exact hk
 have hlen:(s.drop i).length=s.length-i:=by simp
 have hb:∀j,bt (s.drop i) j=(s.getD (i+j) 0).toNat:=QN s i
 refine OK s I st K (Aa (fun h=>by omega) fun _=>Aa (fun h=>?_) fun h=>⟨⟨by omega,by omega⟩,?_⟩)
 ·have:s.drop i=[]:=List.drop_of_length_le (by omega)
  have h0:rD (s.drop i)=(0,0):=by rw[this];simp[rD,ul]
  rw[h0]at hk;exact hk
 have hne:s.drop i≠ []:=by
  intro h0
  have:=congrArg List.length h0
  rw[hlen]at this;simp only[List.length_nil]at this;omega
 have hb0:(List.getD s (Int.toNat I) 0).toNat=bt (s.drop i) 0:=by rw[hb,hI];rfl
 have hlt:=Ei (s.drop i) 0
 rw[hb0]
 refine head_ok rfl hlt ?_
 have hsz:hdS (bt (s.drop i) 0)<=4:=by unfold hdS;(repeat' split)<;>omega
 have hbz:hdB (bt (s.drop i) 0)<256:=by unfold hdB;(repeat' split)<;>omega
 unfold Qk at no yes
 generalize hdS (bt (s.drop i) 0)=n at*
 generalize hdB (bt (s.drop i) 0)=r0 at*
 rw[Al _ (by omega) (by omega)]
 refine Aa (fun g=>no (fun hh=>hh.1 (by omega)) hne) fun g1=>Aa (fun g=>no (fun hh=>by omega) hne) fun g2=>?_
 have hra:=Qj (s.drop i) r0 hbz
 refine⟨fun r j s' at' sz st2=>s=s'/\I=at'/\st=st2/\((n:Nat):Int)=sz/\∃k:Nat,j=((k+1:Nat):Int)/\k+1<=n/\r=((Cz (s.drop i) r0 k:Nat):Int)/\∀m,1<=m->m<=k->bt (s.drop i) m/64=2,fun _ j _ _ sz _=>(sz-j).toNat,⟨rfl,rfl,rfl,rfl,0,rfl,by omega,rfl,fun m h1 h2=>by omega⟩,?_⟩
 rintro _ _ _ _ _ _ ⟨rfl,rfl,rfl,rfl,k,rfl,hk1,rfl,hall⟩
 have hrk:=hra k
 have h64:64^k<=64^3:=Nat.pow_le_pow_right (by decide) (by omega)
 refine Aa (fun h2=>?_) fun h2=>?_
 ·rw[Al (I+((k+1:Nat):Int)) (by omega) (by omega)]
  have hbk:(List.getD s (Int.toNat (I+((k+1:Nat):Int))) 0).toNat=bt (s.drop i) (k+1):=by
   rw[hb,show Int.toNat (I+((k+1:Nat):Int))=i+(k+1) by omega]
  have hbl:=Ei (s.drop i) (k+1)
  have h192:AU .and .u8 ((bt (s.drop i) (k+1):Nat):Int) (192:Int)=((bt (s.drop i) (k+1)&&&192:Nat):Int):=XF _ 192 hbl (by decide)
  have hand:i64.wrap (AU .and .u8 ((bt (s.drop i) (k+1):Nat):Int) (63:Int))=((bt (s.drop i) (k+1)%64:Nat):Int):=by
   rw[show(63:Int)=((2^6-1:Nat):Int) by decide,Jv _ 6 hbl (by decide),Al _ (by omega) (by omega)]
  have hmul:i64.wrap (((Cz (s.drop i) r0 k:Nat):Int)*2^(min (Int.toNat (6:Int)) (IntKind.bits .i64)))=((Cz (s.drop i) r0 k*2^6:Nat):Int):=by
   rw[show(2:Int)^(min (Int.toNat (6:Int)) (IntKind.bits .i64))=64 by decide,Al _ (by omega) (by omega)];omega
  have hc:(bt (s.drop i) (k+1)&&&192)=128↔bt (s.drop i) (k+1)/64=2:=by
   have:∀x,x<256->((x&&&192)=128↔x/64=2):=by decide+kernel
   exact this _ hbl
  refine⟨⟨by omega,by omega⟩,?_⟩
  rw[hbk,h192,hand,hmul,Tn _ _ 6 (by omega) (by omega),Al _ (by omega) (by omega)]
  refine Aa (fun h3=>no (fun hh=>h3 ?_) hne) fun h3=>?_
  ·have:=hh.2.2.1 (k+1) (by omega) (by omega)
   rw[hc.2 this];rfl
  ·have h4:bt (s.drop i) (k+1)/64=2:=hc.1 (by omega)
   refine⟨⟨rfl,rfl,rfl,rfl,k+1,by omega,by omega,by simp only[Cz],fun m m1 m2=>?_⟩,by dsimp only;omega⟩
   by_cases hm:m=k+1
   ·rw[hm];exact h4
   ·exact hall m m1 (by omega)
 ·have hks:k=n-1:=by omega
  subst hks
  refine Vp rfl (Ar (fun h3=>no (fun hh=>?_) hne) fun h3=>Wg rfl (Aa (fun h4=>no (fun hh=>?_) hne) fun h4=>?_))
  ·simp only[Bool.not_eq_true',decide_eq_false_iff_not]at h3
   exact h3 hh.2.2.2.1
  ·rw[hh.2.2.2.2]at h4;exact h4 rfl
  ·simp only[Bool.not_eq_false',decide_eq_true_eq]at h3
   exact yes ⟨by omega,by omega,fun m m1 m2=>hall m m1 (by omega),h3,by omega⟩ hne
theorem P5 {l:B8} {c:UInt8} (hc:c.toNat<128) (hl:l.length<=9223372036854775807) {st:St} {K:B8->St->Prop} (hk:K (Lib.trimRightB l c) st):Ad PR EY [.str l,.str [c]] [.one .str] st K:=by
 refine Fv (fun _ _=>by kernel_rfl) fun g w vargs s hr=>?_
 obtain⟨v,u,rfl,hv,hu⟩:=Rz hr
 rw[Dp hv,Dp hu]
 refine Calls.mono (Tryz.strings_TrimRight_one ⟨l.toArray⟩ c hc w (by simpa [ByteArray.size]using hl)) ?_
 rintro e w' ⟨rfl,rfl⟩
 exact⟨_,rfl,.str _,st,g,hk,s,Rel.str _,Ext.refl _ _⟩
theorem Nr (l:B8):(Lib.trimRightB l 48).length+Cc l=l.length:=by
 unfold Lib.trimRightB Cc
 have:=congrArg List.length (List.takeWhile_append_dropWhile (p:=fun x:UInt8=>x==48) (l:=l.reverse))
 rw[List.length_append,List.length_reverse]at this
 rw[List.length_reverse];omega
theorem ST {p:UInt8->Bool}:∀(r:B8) (n:Nat),n<=r.length->(∀j x,j<n->r[j]? =some x->p x=true)->(∀x,r[n]? =some x->p x=false)->(r.takeWhile p).length=n
 | [],n,h,_,_=>by simp at h;simp[h]
 | a::r,0,_,_,h=>by simp[List.takeWhile_cons,h a rfl]
 | a::r,n+1,h,h1,h2=>by
  rw[List.takeWhile_cons,if_pos (h1 0 a (by omega) rfl),List.length_cons,ST r n (by simpa using h) (fun j x hj hx=>h1 (j+1) x (by omega) (by simpa using hx)) (fun x hx=>h2 x (by simpa using hx))]
theorem WA (l:B8) (n:Nat) (h:n<l.length):l.reverse[n]? =some (List.getD l (l.length-1-n) 0):=by
 rw[List.getElem?_reverse h,List.getD_eq_getElem?_getD,List.getElem?_eq_getElem (by omega),Option.getD_some]
theorem Vq {l:B8} (hl:l.length<=2000000) {st:St} {K:Int->St->Prop} (hk:K (Cc l:Nat) st):Ad PR Dg [.str l] [.one (.int .i64)] st K:=by
 refine Ii l st K ⟨fun i s st'=>l=s/\st=st'/\∃n:Nat,i=n/\n<=l.length/\∀j x,j<n->l.reverse[j]? =some x->(x==48)=true,fun i _ _=>(l.length-i).toNat,⟨rfl,rfl,0,rfl,Nat.zero_le _,fun j x hj=>absurd hj (Nat.not_lt_zero _)⟩,?_⟩
 rintro _ _ _ ⟨rfl,rfl,n,rfl,hn,hall⟩
 refine Aa (fun g=>?_) fun g=>?_
 ·have hr:=WA l n (by omega)
  rw[Al ((l.length:Int)-1) (by omega) (by omega),Al _ (by omega) (by omega),show Int.toNat ((l.length:Int)-1-(n:Int))=l.length-1-n by omega]
  refine⟨⟨by omega,by omega⟩,?_⟩
  generalize List.getD l (l.length-1-n) 0=c at hr⊢
  refine Aa (fun g2=>?_) fun g2=>?_
  ·rw[Al _ (by omega) (by omega)]
   refine⟨⟨rfl,rfl,n+1,by omega,by omega,fun j x hj hx=>?_⟩,by dsimp only;omega⟩
   by_cases hjn:j=n
   ·subst hjn
    rw[hr]at hx
    rw[<-Option.some.inj hx]
    simpa [<-UInt8.toNat_inj]using (by omega:c.toNat=48)
   ·exact hall j x (by omega) hx
  ·have:Cc l=n:=ST _ n (by simpa using hn) hall fun x hx=>by
    rw[hr]at hx
    rw[<-Option.some.inj hx]
    have:c≠48:=fun e=>g2 (by rw[e];rfl)
    simpa using this
   rw[<-this];exact hk
 ·have:Cc l=n:=ST _ n (by simpa using hn) hall fun x hx=>by
   rw[List.getElem?_eq_none (by simp;omega)]at hx;cases hx
  rw[<-this];exact hk
theorem F6 {l:B8} {n:Nat} (h:n<l.length):List.getD l n 0∈l:=by
 rw[List.getD_eq_getElem?_getD,List.getElem?_eq_getElem h,Option.getD_some]
 exact List.getElem_mem h
theorem SG {P:UInt8->Prop} {l:B8} {n:Nat} (h:n<l.length) (h1:∀c,c∈l.take n->P c) (h2:P (List.getD l n 0)):∀c,c∈l.take (n+1)->P c:=by
 intro c hc
 rw[DE _ _ 0 h]at hc
 rcases List.mem_append.1 hc with hc | hc
 ·exact h1 c hc
 ·rw[List.mem_singleton.1 hc];exact h2
theorem all_ok {l:B8} (hl:l.length<=2000000) {st:St} {K:Bool->St->Prop} (hk:K (decide (∀c,c∈l->A2 c)) st):Ad PR GO [.str l] [.one .bool] st K:=by
 refine OL l st K ⟨fun i s m st'=>l=s/\(l.length:Int)=m/\st=st'/\∃n:Nat,i=n/\n<=l.length/\∀c,c∈l.take n->A2 c,fun i _ _ _=>(l.length-i).toNat,⟨rfl,rfl,rfl,0,rfl,Nat.zero_le _,fun c hc=>by simp at hc⟩,?_⟩
 rintro _ _ _ _ ⟨rfl,rfl,rfl,n,rfl,hn,hall⟩
 refine Aa (fun g=>?_) fun g=>?_
 ·have hm:=F6 (l:=l) (n:=n) (by omega)
  have bad:¬A2 (List.getD l n 0)->K false st:=fun hb=>by
   rw[decide_eq_false fun h=>hb (h _ hm)]at hk;exact hk
  rw[Int.toNat_natCast]
  refine⟨⟨by omega,by omega⟩,Aa (fun g2=>bad (by unfold A2;omega)) fun g2=>⟨⟨by omega,by omega⟩,Aa (fun g3=>bad (by unfold A2;omega)) fun g3=>?_⟩⟩
  rw[Al _ (by omega) (by omega)]
  exact⟨⟨rfl,rfl,rfl,n+1,by omega,by omega,SG (by omega) hall (by unfold A2;omega)⟩,by dsimp only;omega⟩
 ·have:n=l.length:=by omega
  subst this
  rw[List.take_length]at hall
  rw[decide_eq_true hall]at hk;exact hk
theorem Ti {l:B8} (hl:l.length<=2000000) {st:St} {K:Bool->St->Prop} (hk:K (decide (∀c,c∈l->A2 c)) st):Ad PR CR [.str l] [.one .bool] st K:=by
 refine Ht l st K ⟨fun i s st'=>l=s/\st=st'/\∃n:Nat,i=n/\n<=l.length/\∀c,c∈l.take n->A2 c,fun i _ _=>(l.length-i).toNat,⟨rfl,rfl,0,rfl,Nat.zero_le _,fun c hc=>by simp at hc⟩,?_⟩
 rintro _ _ _ ⟨rfl,rfl,n,rfl,hn,hall⟩
 refine Aa (fun g=>?_) fun g=>?_
 ·have hm:=F6 (l:=l) (n:=n) (by omega)
  have bad:¬A2 (List.getD l n 0)->K false st:=fun hb=>by
   rw[decide_eq_false fun h=>hb (h _ hm)]at hk;exact hk
  rw[Int.toNat_natCast]
  refine⟨⟨by omega,by omega⟩,Aa (fun g2=>bad (by unfold A2;omega)) fun g2=>⟨⟨by omega,by omega⟩,Aa (fun g3=>bad (by unfold A2;omega)) fun g3=>?_⟩⟩
  rw[Al _ (by omega) (by omega)]
  exact⟨⟨rfl,rfl,n+1,by omega,by omega,SG (by omega) hall (by unfold A2;omega)⟩,by dsimp only;omega⟩
 ·have:n=l.length:=by omega
  subst this
  rw[List.take_length]at hall
  rw[decide_eq_true hall]at hk;exact hk
def Lt (l:B8):Prop:=l.length<=600/\(∀c,c∈l->A2 c)/\(l≠ []->l.getD 0 0≠48)
instance (l:B8):Decidable (Lt l):=inferInstanceAs (Decidable (_/\_/\(_->_)))
theorem ne48 (c:UInt8):decide ((c.toNat:Int)≠48)=decide (c≠48):=by
 have:((c.toNat:Int)≠48)↔c≠48:=by rw[ne_eq,ne_eq,<-UInt8.toNat_inj];exact not_congr ⟨fun h=>Int.ofNat.inj h,fun h=>by rw[h];rfl⟩
 exact decide_eq_decide.2 this
theorem V1 {l:B8} (hl:l.length<=2000000) {st:St} {K:Bool->St->Prop} (hk:K (decide (Lt l)) st):Ad PR Fa [.str l] [.one .bool] st K:=by
 have no:¬Lt l->K false st:=fun h=>by rw[decide_eq_false h]at hk;exact hk
 refine MJ l st K (Aa (fun g=>all_ok hl (Aa (fun g2=>Aa (fun g3=>?_) fun g3=>⟨⟨by omega,by have:=List.length_pos_iff.2 g3;omega⟩,?_⟩) fun g2=>no fun h=>g2 h.2.1)) fun g=>no fun h=>g (by have:=h.1;omega))
 ·rw[decide_eq_true (show Lt l from⟨by omega,g2,fun h=>absurd g3 h⟩)]at hk;exact hk
 ·rw[ne48]
  refine DQ (decide_eq_decide.2 ?_) hk
  exact⟨fun h=>⟨by omega,g2,fun _=>h⟩,fun h=>h.2.2 g3⟩
theorem rNum_ok {l:B8} (hl:l.length<=2000000) {st:St} {K:Bool->St->Prop} (hk:K (decide (Lt l)) st):Ad PR Dh [.str l] [.one .bool] st K:=by
 have no:¬Lt l->K false st:=fun h=>by rw[decide_eq_false h]at hk;exact hk
 refine Ij l st K (Aa (fun g=>Ti hl (Aa (fun g2=>Aa (fun g3=>?_) fun g3=>⟨⟨by omega,by omega⟩,?_⟩) fun g2=>no fun h=>g2 h.2.1)) fun g=>no fun h=>g (by have:=h.1;omega))
 ·rw[decide_eq_true (show Lt l from⟨by omega,g2,fun h=>absurd (List.eq_nil_of_length_eq_zero (by omega)) h⟩)]at hk;exact hk
 ·rw[ne48]
  refine DQ (decide_eq_decide.2 ?_) hk
  exact⟨fun h=>⟨by omega,g2,fun _=>h⟩,fun h=>h.2.2 fun e=>g3 (by rw[e];rfl)⟩
def exB (s:Sc) (l:List Vl) (f:List Fd):Bool:=
 (decide (s.kind≠1)&&s.b) || ((decide (s.kind≠2)&& !((s.neg==false)&&(decide (s.dg=[])&&(decide (s.ex=0)&&true)))) || ((decide (s.kind≠3)&& !(decide (s.tk=0)&&(decide (s.td=0)&&(decide (s.tn=0)&&(decide (s.tz=0)&&true))))) ||
  ((decide (s.kind≠4)&&decide (s.text≠ [])) || ((decide (s.kind≠5)&&decide (0<(s.bytes.length:Int))) || ((decide (s.kind≠6)&&decide (0<(l.length:Int))) || (decide (s.kind≠7)&&decide (0<(f.length:Int))))))))
theorem N0 (k k':B8) (v:TV):∀es:List (B8×TV),DH k (Hx k' v es)=if k=k' then some v else DH k es
 | []=>by
  simp only[Hx,DH]
  by_cases h:k=k'<;>simp[h]
 | (k1,v1)::es=>by
  simp only[Hx]
  by_cases h1:k'=k1
  ·simp only[h1,decide_true,DH]
   by_cases h:k=k1<;>simp[h]
  ·simp only[h1,decide_false,DH,N0 k k' v es]
   by_cases h:k=k1
   ·simp[h,Ne.symm h1]
   ·simp[h]
theorem VsR.snoc {st:St} {v:Vl} {cv:List TV}:∀{l:List Vl} {xs:List TV},VsR st l xs->VlR st v cv->VsR st (l++[v]) (xs++cv)
 | [],xs,h,hv=>by
  unfold VsR at h
  subst h
  show VsR st [v] _
  unfold VsR
  exact⟨cv,[],by simp,hv,by unfold VsR;rfl⟩
 | w::r,xs,h,hv=>by
  unfold VsR at h
  obtain⟨a,b,rfl,h1,h2⟩:=h
  show VsR st (w::(r++[v])) _
  unfold VsR
  exact⟨a,b++cv,by simp,h1,VsR.snoc h2 hv⟩
theorem VlR.cells {st:St} {s:Sc} {l:List Vl} {f:List Fd} {cs:List TV} (h:VlR st (.mk s l f) cs):∃ub ul uf xl xf,cs=Bk s ub ul uf/\SlR st 1 ub s.bytes.length (A3 s.bytes)/\SlR st 13 ul l.length xl/\VsR st l xl/\SlR st 14 uf f.length xf/\FsR st f xf:=by
 unfold VlR at h
 obtain⟨ub,ul,uf,xl,xf,rfl,h⟩:=h
 exact⟨ub,ul,uf,xl,xf,rfl,h⟩
theorem szs (s:Sc) (l:List Vl) (f:List Fd):(Vl.mk s l f).sz=1+s.bytes.length+s.text.length+s.dg.length+Cw l+DJ f:=by unfold Vl.sz;rfl
theorem szd (k:B8) (v:Vl):(Fd.mk k v).sz=k.length+v.sz:=by unfold Fd.sz;rfl
theorem R1 {st0 st:St} {uf:TV} {xf:List TV} {l:List Fd} (hke:He st0 st) (h2:SlR st0 14 uf l.length xf) (h3:FsR st0 l xf) {k:Nat} {d:Fd} (hd:l[k]? =some d):Ac st [] (.t (Af (ixT 14 uf k) 0)) 0=some (.str d.key):=by
 obtain⟨hk,_⟩:=List.getElem?_eq_some_iff.1 hd
 obtain⟨cw,hw,hcw,hcl⟩:=h3.get hd
 have hx:xf[k*14+0]? =some (.str d.key):=by
  cases d with
  | mk key w=>
   unfold FdR at hw
   obtain⟨cs,rfl,_⟩:=hw
   have:=congrArg (fun z=>z[0]?) hcw
   simpa [Fd.key]using this
 exact(h2.keep hke).ldf h3.len hk (by omega) hx
def Aw (s:B8):B8:=s.takeWhile fun c=>decide (A2 c)
def Gp (n:Nat) (l:B8):Nat:=l.foldl (fun n c=>10*n+(c.toNat-48)) n
def BM (l:B8):Nat:=Gp 0 l
def Bb (l:B8):B8:=l.dropWhile (·==48)
def dcN (neg:Bool) (s:B8) (ex:Int):Bool×B8×Int×Int:=
 if s=[]then(false,[],0,0)else if 400<ex+Cc s∨ex+Cc s< -400∨120<s.length-Cc s then(false,[],0,2)else(neg,s.take (s.length-Cc s),ex+Cc s,0)
def JZ:Bool×B8×Int×Int:=(false,[],0,3)
def dcX (neg:Bool) (all:B8) (ex:Int) (less:Bool) (r:B8):Bool×B8×Int×Int:=
 if r=[]∨(Aw r).length≠r.length then JZ else dcN neg (Bb all) (if less then ex-BM r else ex+BM r)
def dcE (neg:Bool) (all:B8) (ex:Int) (r:B8):Bool×B8×Int×Int:=
 if r=[]then dcN neg (Bb all) ex else if r.getD 0 0=101∨r.getD 0 0=69 then
  (if (r.drop 1).getD 0 0=45 then dcX neg all ex true (r.drop 2)else if (r.drop 1).getD 0 0=43 then dcX neg all ex false (r.drop 2)else dcX neg all ex false (r.drop 1))
 else JZ
def dcF (neg:Bool) (a:B8) (r:B8):Bool×B8×Int×Int:=
 if r.getD 0 0=46 then(if Aw (r.drop 1)=[]then JZ else dcE neg (a++Aw (r.drop 1)) (-(Aw (r.drop 1)).length) (r.drop (1+(Aw (r.drop 1)).length)))
 else dcE neg a 0 r
def dcQ (neg:Bool) (s:B8):Bool×B8×Int×Int:=
 if Aw s=[]∨(1<(Aw s).length/\s.getD 0 0=48)then JZ else dcF neg (Aw s) (s.drop (Aw s).length)
def dcP (s:B8):Bool×B8×Int×Int:=if s.getD 0 0=45 then dcQ true (s.drop 1)else dcQ false s
theorem VY {a r:B8} (ha:∀c,c∈a->A2 c) (hr:¬A2 (r.getD 0 0)):Aw (a++r)=a:=by
 induction a with
 | nil=>
  cases r with
  | nil=>rfl
  | cons c r=>exact List.takeWhile_cons_of_neg (by simpa using hr)
 | cons c a ih=>
  unfold Aw at ih⊢
  rw[List.cons_append,List.takeWhile_cons_of_pos (by simpa using ha c List.mem_cons_self),ih fun x hx=>ha x (List.mem_cons_of_mem _ hx)]
theorem Ga (s:B8):∀c,c∈Aw s->A2 c:=by
 induction s with
 | nil=>intro c h;cases h
 | cons a s ih=>
  intro c h
  unfold Aw at h ih
  rw[List.takeWhile_cons]at h
  split at h
  ·rename_i hd
   rcases List.mem_cons.1 h with rfl | h
   ·exact of_decide_eq_true hd
   ·exact ih c h
  ·cases h
theorem CE (s:B8):(Aw s).length<=s.length:=(List.takeWhile_sublist _).length_le
theorem Ma (s:B8):s=Aw s++s.drop (Aw s).length:=by
 induction s with
 | nil=>rfl
 | cons a s ih=>
  unfold Aw at ih⊢
  rw[List.takeWhile_cons]
  split
  ·rw[List.length_cons,List.drop_succ_cons,List.cons_append,<-ih]
  ·rfl
theorem D7 (s:B8):s.take (Aw s).length=Aw s:=by
 have h:=Ma s
 have:s.take (Aw s).length=(Aw s++s.drop (Aw s).length).take (Aw s).length:=by rw[<-h]
 rw[this,List.take_left]
theorem Nc (l:B8):Cc l<=l.length:=by
 unfold Cc
 have:=(List.takeWhile_sublist (l:=l.reverse) (fun x:UInt8=>x==48)).length_le
 rwa [List.length_reverse]at this
theorem II {c:UInt8} {l:B8} (h:c≠48):Bb (c::l)=c::l:=by
 unfold Bb;rw[List.dropWhile_cons,if_neg (by simpa using h)]
theorem Kd (k:Nat) (l:B8):Bb (List.replicate k 48++l)=Bb l:=by
 induction k with
 | zero=>rfl
 | succ k ih=>rw[List.replicate_succ,List.cons_append];unfold Bb at ih⊢;rw[List.dropWhile_cons,if_pos (by simp),ih]
theorem Q6 (n:Nat) (a b:B8):Gp n (a++b)=Gp (Gp n a) b:=by
 unfold Gp;rw[List.foldl_append]
def b0 (s:B8) (k:Nat):UInt8:=s.getD k 0
def dv (s:B8) (k:Nat):Nat:=(b0 s k).toNat-48
def d2 (s:B8) (k:Nat):Nat:=dv s k*10+dv s (k+1)
def dd (s:B8) (k:Nat):Prop:=A2 (b0 s k)/\A2 (b0 s (k+1))
instance (s:B8) (k:Nat):Decidable (dd s k):=inferInstanceAs (Decidable (_/\_))
def IY (s:B8):Prop:=dd s 0/\b0 s 2=58/\dd s 3/\b0 s 5=58/\dd s 6
instance (s:B8):Decidable (IY s):=inferInstanceAs (Decidable (_/\_/\_/\_/\_))
def DU (s:B8):Prop:=dd s 0/\dd s 2/\b0 s 4=45/\dd s 5/\b0 s 7=45/\dd s 8
instance (s:B8):Decidable (DU s):=inferInstanceAs (Decidable (_/\_/\_/\_/\_/\_))
def NV (f:B8):Nat:=BM (f++List.replicate (9-f.length) 48)
def Gf (s:B8):Option (Nat×Nat×Nat×Nat×B8):=
 if IY s then
  (if b0 s 8=46 then(if Aw (s.drop 9)=[]∨9<(Aw (s.drop 9)).length then none else some (d2 s 0,d2 s 3,d2 s 6,NV (Aw (s.drop 9)),s.drop (9+(Aw (s.drop 9)).length)))
  else some (d2 s 0,d2 s 3,d2 s 6,0,s.drop 8))
 else none
def MR (s:B8):Option (Bool×Nat×Nat):=
 if s=[90]∨s=[122]then some (false,0,0)else if s.length=6/\(b0 s 0=43∨b0 s 0=45)/\dd s 1/\b0 s 3=58/\dd s 4 then some (decide (b0 s 0=45),d2 s 1,d2 s 4)else none
def okD (y m d:Nat):Prop:=1<=y/\y<=9999/\1<=m/\m<=12/\1<=d/\d<=LY y m
instance (y m d:Nat):Decidable (okD y m d):=inferInstanceAs (Decidable (_/\_/\_/\_/\_/\_))
def JD (y m d:Nat):Nat:=yrS y+IS y m+(d-1)
abbrev TmR:=Int×Int×Int×Int×Int
def HV:TmR:=(0,0,0,0,3)
def HU:TmR:=(0,0,0,0,2)
def okC (h m s:Nat):Prop:=h<=23/\m<=59/\s<=59
instance (h m s:Nat):Decidable (okC h m s):=inferInstanceAs (Decidable (_/\_/\_))
def Fl (h m s f:Nat):Nat:=((h*60+m)*60+s)*1000000000+f
def tmO (y mo d h m s f:Nat) (r:B8):TmR:=
 if r=[]then(if okD y mo d/\okC h m s then(3,(JD y mo d:Nat),(Fl h m s f:Nat),0,0)else HU)
 else match MR r with
  | none=>HV
  | some (ls,oh,om)=>if okD y mo d/\okC h m s/\oh<=23/\om<=59 then(4,(JD y mo d:Nat),(Fl h m s f:Nat),if ls then-((oh*60+om:Nat):Int)else((oh*60+om:Nat):Int),0)else HU
def tmD (y mo d:Nat) (r:B8):TmR:=
 if r=[]then(if okD y mo d then(1,(JD y mo d:Nat),0,0,0)else HU)
 else if b0 r 0=84∨b0 r 0=116∨b0 r 0=32 then
  match Gf (r.drop 1)with
  | none=>HV
  | some (h,m,s,f,r')=>tmO y mo d h m s f r'
 else HV
def tmP (s:B8):TmR:=
 if DU s then tmD (d2 s 0*100+d2 s 2) (d2 s 5) (d2 s 8) (s.drop 10)
 else match Gf s with
  | none=>HV
  | some (h,m,sc,f,r)=>if r=[]then(if okC h m sc then(2,0,(Fl h m sc f:Nat),0,0)else HU)else HV
theorem KH:∀(l:B8) (a:Nat),Gp a l=a*10^l.length+Gp 0 l
 | [],a=>by simp[Gp]
 | c::l,a=>by
  have h1:=KH l (10*a+(c.toNat-48))
  have h2:=KH l (10*0+(c.toNat-48))
  show Gp (10*a+(c.toNat-48)) l=_+Gp (10*0+(c.toNat-48)) l
  rw[h1,h2,List.length_cons,Nat.pow_succ,Nat.add_mul,Nat.add_mul]
  have:10*a*10^l.length=a*(10^l.length*10):=by rw[Nat.mul_comm 10 a,Nat.mul_assoc,Nat.mul_comm 10]
  omega
theorem K4 (y m:Nat):LY y m<=31:=by
 have ite:∀{p:Prop} [Decidable p] {a b:Nat},a<=31->b<=31->(if p then a else b)<=31:=fun h1 h2=>by split<;>assumption
 unfold LY
 exact ite (ite (by omega) (by omega)) (ite (by omega) (by omega))
theorem Ji:∀(l:B8),(∀c,c∈l->A2 c)->BM l<10^l.length
 | [],_=>by decide
 | c::l,h=>by
  have ih:=Ji l fun x hx=>h x (.tail _ hx)
  have hc:=(h c (.head _)).2
  unfold BM at ih⊢
  rw[show Gp 0 (c::l)=Gp (c.toNat-48) l by simp[Gp],KH,List.length_cons,Nat.pow_succ]
  have:(c.toNat-48)*10^l.length<=9*10^l.length:=Nat.mul_le_mul_right _ (by omega)
  omega
theorem valN_ge {c:UInt8} {l:B8} (hc:A2 c) (h0:c≠48):10^l.length<=BM (c::l):=by
 unfold BM
 rw[show Gp 0 (c::l)=Gp (c.toNat-48) l by simp[Gp],KH]
 have h1:=hc.1
 have h2:c.toNat≠48:=fun e=>h0 (UInt8.toNat_inj.1 (by simpa using e))
 have:1*10^l.length<=(c.toNat-48)*10^l.length:=Nat.mul_le_mul_right _ (by omega)
 omega
theorem FZ:∀l:B8,BM (Bb l)=BM l
 | []=>rfl
 | c::l=>by
  by_cases h:c=48
  ·subst h
   have:=Kd 1 l
   rw[show List.replicate 1 (48:UInt8)++l=48::l from rfl]at this
   rw[this,FZ l]
   unfold BM
   rw[show Gp 0 (48::l)=Gp 0 l by simp[Gp]]
  ·rw[II h]
theorem Hw (l:B8):∀c,c∈Bb l->c∈l:=fun c h=>(List.dropWhile_sublist (l:=l) (fun x:UInt8=>x==48)).subset h
theorem EJ (l:B8):(Bb l).length<=l.length:=(List.dropWhile_sublist (l:=l) (fun x:UInt8=>x==48)).length_le
theorem IH (l:B8):(Bb l).getD 0 0≠48:=by
 induction l with
 | nil=>decide
 | cons c l ih=>
  by_cases h:c=48
  ·subst h
   have:=Kd 1 l
   rw[show List.replicate 1 (48:UInt8)++l=48::l from rfl]at this
   rw[this];exact ih
  ·rw[II h];exact h
theorem Q4 {l:B8} {k:Nat} (h:∀c,c∈l->A2 c) (hk:k<(Bb l).length):10^k<=BM l:=by
 rw[<-FZ l]
 have h0:=IH l
 have hs:=Hw l
 generalize Bb l=m at*
 cases m with
 | nil=>exact absurd hk (Nat.not_lt_zero _)
 | cons c m=>
  have:=valN_ge (l:=m) (h c (hs c (.head _))) h0
  rw[List.length_cons]at hk
  exact Nat.le_trans (Nat.pow_le_pow_right (by decide) (by omega)) this
theorem O1 {l:B8} {k:Nat} (h:∀c,c∈l->A2 c) (hk:(Bb l).length<=k):BM l<10^k:=by
 rw[<-FZ l]
 exact Nat.lt_of_lt_of_le (Ji _ fun c hc=>h c (Hw l c hc)) (Nat.pow_le_pow_right (by decide) hk)
theorem U4 {neg:Bool} {s:B8} {ex n m:Int} (hl:s.length<=100000000) (h1: -100000000<=ex) (h2:ex<=100000000) (hn:1000000000<=n) (hm:1000000000<=m) (less:Bool):
  dcN neg s (if less then ex-n else ex+n)=dcN neg s (if less then ex-m else ex+m):=by
 unfold dcN
 have hz:=Nc s
 by_cases h:s=[]
 ·rw[if_pos h,if_pos h]
 ·rw[if_neg h,if_neg h]
  cases less with
  | true=>
   simp only[if_true]
   rw[if_pos (by omega),if_pos (by omega)]
  | false=>
   simp only[Bool.false_eq_true,if_false]
   rw[if_pos (by omega),if_pos (by omega)]
theorem U3 (neg:Bool) (s:B8) (ex:Int):(dcN neg s ex).2.1.length<=s.length:=by
 unfold dcN
 split
 ·simp
 split
 ·simp
 ·show(s.take _).length<=_
  rw[List.length_take];omega
theorem QF (neg:Bool) (all:B8) (ex:Int) (less:Bool) (r:B8):(dcX neg all ex less r).2.1.length<=all.length:=by
 unfold dcX
 split
 ·simp[JZ]
 ·exact Nat.le_trans (U3 _ _ _) (EJ all)
theorem U6 (neg:Bool) (all:B8) (ex:Int) (r:B8):(dcE neg all ex r).2.1.length<=all.length:=by
 unfold dcE
 split
 ·exact Nat.le_trans (U3 _ _ _) (EJ all)
 split
 ·split
  ·exact QF _ _ _ _ _
  split
  ·exact QF _ _ _ _ _
  ·exact QF _ _ _ _ _
 ·simp[JZ]
theorem dcF_len (neg:Bool) (a r:B8):(dcF neg a r).2.1.length<=a.length+r.length:=by
 unfold dcF
 split
 ·split
  ·simp[JZ]
  ·refine Nat.le_trans (U6 _ _ _ _) ?_
   rw[List.length_append]
   have:=CE (r.drop 1)
   rw[List.length_drop]at this
   omega
 ·exact Nat.le_trans (U6 _ _ _ _) (Nat.le_add_right _ _)
theorem U1 (neg:Bool) (s:B8):(dcQ neg s).2.1.length<=s.length:=by
 unfold dcQ
 split
 ·simp[JZ]
 ·refine Nat.le_trans (dcF_len _ _ _) ?_
  have:=CE s
  rw[List.length_drop];omega
theorem dcP_len (s:B8):(dcP s).2.1.length<=s.length:=by
 unfold dcP
 split
 ·refine Nat.le_trans (U1 _ _) ?_
  rw[List.length_drop];omega
 ·exact U1 _ _
theorem Mi {l:B8} {c:UInt8} (hc:c.toNat<128) {st:St} {K:B8->St->Prop} (hk:K (l.dropWhile (·==c)) st):Ad PR DK [.str l,.str [c]] [.one .str] st K:=by
 refine Fv (fun _ _=>by kernel_rfl) fun g w vargs s hr=>?_
 obtain⟨v,u,rfl,hv,hu⟩:=Rz hr
 rw[Dp hv,Dp hu]
 refine Calls.mono (Tryz.strings_TrimLeft_one ⟨l.toArray⟩ c hc w) ?_
 rintro e w' ⟨rfl,rfl⟩
 exact⟨_,rfl,.str _,st,g,hk,s,Rel.str _,Ext.refl _ _⟩
theorem Qt {s p:B8} {st:St} {K:Bool->St->Prop} (hk:K (decide (s.take p.length=p)) st):Ad PR Ba [.str s,.str p] [.one (.bool)] st K:=by
 refine Iv s p st K (GF s p st _ (Aa (fun h=>⟨⟨by omega,h⟩,?_⟩) fun h=>?_))
 ·exact hk
 ·have:¬s.take p.length=p:=fun h0=>by
   have:=congrArg List.length h0
   rw[List.length_take]at this
   omega
  rw[decide_eq_false this]at hk
  exact hk
theorem u8i {c k:UInt8}:((c.toNat:Int)=(k.toNat:Int))↔c=k:=⟨fun h=>UInt8.toNat_inj.1 (by omega),fun h=>by rw[h]⟩
theorem take1 {s:B8} {c:UInt8} (hc:c≠0):s.take [c].length=[c]↔s.getD 0 0=c:=by
 cases s with
 | nil=>exact⟨fun h=>absurd h (by simp),fun h=>absurd (show(0:UInt8)=c from h).symm hc⟩
 | cons a s=>show [a]=[c]↔a=c;simp
theorem Jq {s:B8} {c:UInt8} (hc:c≠0) {st:St} {K:Bool->St->Prop} (hk:K (decide (s.getD 0 0=c)) st):Ad PR Ba [.str s,.str [c]] [.one (.bool)] st K:=
 Qt (by rw[decide_eq_decide.2 (take1 hc)];exact hk)
theorem Hb:∀(s:B8) (k:Nat),k<=s.length->(∀j,j<k->A2 (s.getD j 0))->(k=s.length∨¬A2 (s.getD k 0))->(Aw s).length=k
 | [],k,h,_,_=>by
  have:k=0:=by simpa using h
  subst this;rfl
 | a::s,0,_,_,h=>by
  have h2:¬A2 a:=by
   rcases h with h | h
   ·simp at h
   ·exact h
  unfold Aw
  rw[List.takeWhile_cons_of_neg (by simpa using h2)];rfl
 | a::s,k+1,h1,h2,h3=>by
  have ha:A2 a:=h2 0 (by omega)
  have ih:=Hb s k (by simpa using h1) (fun j hj=>h2 (j+1) (by omega)) (by
   rcases h3 with h3 | h3
   ·exact .inl (by simpa using h3)
   ·exact .inr h3)
  unfold Aw at ih⊢
  rw[List.takeWhile_cons_of_pos (by simpa using ha),List.length_cons,ih]
theorem S8 {s:B8} (hl:s.length<=1000000000) {st:St} {K:Int->St->Prop} (hk:K ((Aw s).length:Nat) st):Ad PR Dt [.str s] [.one (.int .i64)] st K:=by
 refine Nk s st K ⟨fun n s' st'=>s=s'/\st=st'/\∃k:Nat,n=k/\k<=s.length/\∀j,j<k->A2 (s.getD j 0),fun n _ _=>(s.length-n).toNat,⟨rfl,rfl,0,rfl,Nat.zero_le _,fun j h=>absurd h (Nat.not_lt_zero _)⟩,?_⟩
 rintro _ _ _ ⟨rfl,rfl,k,rfl,hk1,hd⟩
 rw[Int.toNat_natCast]
 have fin:(k=s.length∨¬A2 (s.getD k 0))->K ((k:Nat):Int) st:=fun h=>by rw[Hb s k hk1 hd h]at hk;exact hk
 refine Aa (fun g=>⟨⟨by omega,g⟩,Aa (fun g1=>⟨⟨by omega,g⟩,Aa (fun g2=>?_) fun g2=>fin (.inr fun h=>g2 (by have:=h.2;omega))⟩) fun g1=>fin (.inr fun h=>g1 (by have:=h.1;omega))⟩) fun g=>fin (.inl (by omega))
 rw[Al _ (by omega) (by omega)]
 refine⟨⟨rfl,rfl,k+1,by omega,by omega,fun j hj=>?_⟩,by dsimp only;omega⟩
 by_cases hjk:j=k
 ·subst hjk;exact⟨by omega,by omega⟩
 ·exact hd j (by omega)
theorem G0 {l:B8} {k:Nat} (h:k<l.length):BM (l.take (k+1))=10*BM (l.take k)+((List.getD l k 0).toNat-48):=by
 rw[List.take_succ_eq_append_getElem h]
 unfold BM
 rw[Q6]
 have:l[k]=List.getD l k 0:=by simp[List.getD,h]
 rw[<-this];rfl
theorem Hu {l:B8} (hd:∀c,c∈l->A2 c) (h:l.length<=18) (k:Nat) (hk:k<l.length):BM (l.take k)<100000000000000000:=by
 have h1:=Ji (l.take k) fun c hc=>hd c (List.mem_of_mem_take hc)
 rw[List.length_take,Nat.min_eq_left (by omega)]at h1
 have:(10:Nat)^k<=10^17:=Nat.pow_le_pow_right (by decide) (by omega)
 omega
theorem Wn {l:B8} (hl:l.length<=18) (hd:∀c,c∈l->A2 c) (h0:l.getD 0 0≠48) {st:St} {K:Int->Int->St->Prop} (hk:K (BM l:Nat) 0 st):Ad PR Fb [.str l] [.one (.int .i64),.one (.int .i64)] st K:=by
 refine MK l st K (V1 (by omega) ?_)
 have hno:decide (Lt l)=true:=decide_eq_true ⟨by omega,hd,fun _=>h0⟩
 rw[hno]
 refine Ar (fun h=>by cases h) fun _=>?_
 refine⟨fun n i l' m st'=>l=l'/\st=st'/\(l.length:Int)=m/\∃k:Nat,i=k/\k<=l.length/\n=(BM (l.take k):Nat),fun _ i _ _ _=>(l.length-i).toNat,⟨rfl,rfl,rfl,0,rfl,Nat.zero_le _,rfl⟩,?_⟩
 rintro _ _ _ _ _ ⟨rfl,rfl,rfl,k,rfl,hkl,rfl⟩
 rw[Int.toNat_natCast]
 refine Aa (fun g=>⟨⟨by omega,g⟩,?_⟩) fun g=>?_
 ·have hk':k<l.length:=by omega
  have hv:=Hu hd hl k hk'
  have hs:=G0 hk'
  have hc:=hd _ (F6 hk')
  obtain⟨c1,c2⟩:=hc
  rw[Nf _ (by omega) (by omega),Al (((List.getD l k 0).toNat:Int)-48) (by omega) (by omega),Al (9223372036854775807-_) (by omega) (by omega),Int.tdiv_eq_ediv_of_nonneg (by omega),Al _ (by omega) (by omega)]
  refine Aa (fun g2=>by omega) fun g2=>?_
  rw[Al (((BM (l.take k):Nat):Int)*10) (by omega) (by omega),Al _ (by omega) (by omega),Al _ (by omega) (by omega)]
  exact⟨⟨rfl,rfl,rfl,k+1,by omega,by omega,by rw[hs];omega⟩,by dsimp only;omega⟩
 ·have:k=l.length:=by omega
  subst this
  rw[List.take_length];exact hk
theorem WU {ex:Int} {less:Bool} {l:B8} (h1: -100000000<=ex) (h2:ex<=100000000) (hd:∀c,c∈l->A2 c) (h0:l.getD 0 0≠48) {st:St} {K:Int->St->Prop}
  (hk:K (if less then ex-((if l.length<=12 then BM l else 1099511627776:Nat):Int)else ex+((if l.length<=12 then BM l else 1099511627776:Nat):Int)) st):Ad PR EO [.int .i64 ex,.bool less,.str l] [.one (.int .i64)] st K:=by
 refine Lw ex less l st K (Aa (fun g=>?_) fun g=>?_)
 ·have g':l.length<=12:=by omega
  rw[if_pos g']at hk
  have hv:=Ji l hd
  have:(10:Nat)^l.length<=10^12:=Nat.pow_le_pow_right (by decide) g'
  refine Wn (by omega) hd h0 (Ar (fun e=>?_) fun e=>?_)
  ·rw[Al _ (by omega) (by omega)];rw[if_pos e]at hk;exact hk
  ·rw[Al _ (by omega) (by omega)];rw[e]at hk;exact hk
 ·rw[if_neg (show ¬l.length<=12 by omega)]at hk
  refine Ar (fun e=>?_) fun e=>?_
  ·rw[Al _ (by omega) (by omega)];rw[if_pos e]at hk;exact hk
  ·rw[Al _ (by omega) (by omega)];rw[e]at hk;exact hk
abbrev KD (K:Bool->B8->Int->Int->St->Prop) (r:Bool×B8×Int×Int) (st:St):Prop:=K r.1 r.2.1 r.2.2.1 r.2.2.2 st
theorem norm_ok {neg:Bool} {s:B8} {ex:Int} (hl:s.length<=2000000) (h1: -3000000000000<=ex) (h2:ex<=3000000000000) {st:St} {K:Bool->B8->Int->Int->St->Prop} (hk:KD K (dcN neg s ex) st):
  Ad PR Fe [.bool neg,.str s,.int .i64 ex] [.agg [.bool,.str,.int .i64],.one (.int .i64)] st K:=by
 unfold KD dcN at hk
 refine MM neg s ex st K (Aa (fun g=>by rw[if_pos g]at hk;exact hk) fun g=>P5 (by decide) (by omega) ?_)
 rw[if_neg g]at hk
 have ht:=Nr s
 have e1:i64.wrap ((s.length:Int)-((Lib.trimRightB s 48).length:Int))=(Cc s:Nat):=by rw[Al _ (by omega) (by omega)];omega
 rw[e1]
 have e2:i64.wrap ((s.length:Int)-(Cc s:Nat))=((s.length-Cc s:Nat):Int):=by rw[Al _ (by omega) (by omega)];omega
 rw[e2,Int.toNat_natCast,Al (400-_) (by omega) (by omega),Al (-400-_) (by omega) (by omega),Al (ex+_) (by omega) (by omega)]
 have hlen:(s.take (s.length-Cc s)).length=s.length-Cc s:=by rw[List.length_take];omega
 rw[hlen]
 refine⟨⟨by omega,by omega⟩,Aa (fun g1=>?_) fun g1=>Aa (fun g2=>?_) fun g2=>Aa (fun g3=>?_) fun g3=>?_⟩
 ·rw[if_pos (by omega)]at hk;exact hk
 ·rw[if_pos (by omega)]at hk;exact hk
 ·rw[if_pos (by omega)]at hk;exact hk
 ·rw[if_neg (by omega)]at hk;exact hk
theorem Qq {neg:Bool} {s:B8} {ex:Int} (hl:s.length<=2000000) (hd:∀c,c∈s->A2 c) (h1: -3000000000000<=ex) (h2:ex<=3000000000000) {st:St} {K:Bool->B8->Int->Int->St->Prop} (hk:KD K (dcN neg (Bb s) ex) st):
  Ad PR CU [.bool neg,.str s,.int .i64 ex] [.agg [.bool,.str,.int .i64],.one (.int .i64)] st K:=by
 refine MN neg s ex st K ⟨fun i neg' s' ex' n _ _ _ st'=>neg=neg'/\s=s'/\ex=ex'/\(s.length:Int)=n/\st=st'/\0<=i,fun i _ _ _ _ _ _ _ _=>(s.length-i).toNat,⟨rfl,rfl,rfl,rfl,rfl,by omega⟩,?_⟩
 rintro i _ _ _ _ _ _ _ _ ⟨rfl,rfl,rfl,rfl,rfl,hi⟩
 refine Aa (fun g=>?_) fun g=>?_
 ·have hc:=hd _ (F6 (show i.toNat<s.length by omega))
  obtain⟨c1,c2⟩:=hc
  refine⟨⟨hi,g⟩,Aa (fun g1=>by omega) fun _=>⟨⟨hi,g⟩,Aa (fun g1=>by omega) fun _=>?_⟩⟩
  rw[Al _ (by omega) (by omega)]
  exact⟨⟨rfl,rfl,rfl,rfl,rfl,by omega⟩,by dsimp only;omega⟩
 ·refine Mi (by decide) (norm_ok (Nat.le_trans (EJ s) hl) h1 h2 hk)
theorem dP_ok {s:B8} (hl:s.length<=1000000) {st:St} {K:Bool->B8->Int->Int->St->Prop} (hk:KD K (dcP s) st):Ad PR CD [.str s] [.agg [.bool,.str,.int .i64],.one (.int .i64)] st K:=by
 refine Lx s st K (Jq (by decide) ?_)
 refine⟨fun s1 neg _ _ _ st'=>st=st'/\dcP s=dcQ neg s1/\s1.length<=s.length,Aa (fun g=>?_) fun g=>?_,?_⟩
 ·refine⟨⟨by omega,?_⟩,rfl,?_,?_⟩
  ·cases s with
   | nil=>exact absurd g (by decide)
   | cons a s=>rw[List.length_cons];omega
  ·unfold dcP;rw[if_pos g,decide_eq_true g];rfl
  ·rw[List.length_drop];omega
 ·refine⟨rfl,?_,Nat.le_refl _⟩
  unfold dcP;rw[if_neg g,decide_eq_false g]
 rintro s1 neg _ _ _ _ ⟨rfl,h1,hl1⟩
 rw[h1]at hk
 refine S8 (by omega) ?_
 have hrl:=CE s1
 refine⟨fun s2 neg2 n _ _ _ st'=>s1=s2/\neg=neg2/\n=((Aw s1).length:Nat)/\st=st'/\dcQ neg s1=dcF neg (Aw s1) (s1.drop (Aw s1).length),Aa (fun g=>?_) fun g=>Aa (fun g2=>?_) fun g2=>?_,?_⟩
 ·have:Aw s1=[]:=List.length_eq_zero_iff.1 (by omega)
  unfold KD dcQ at hk
  rw[if_pos (.inl this)]at hk;exact hk
 ·refine⟨⟨by omega,by omega⟩,Aa (fun g3=>?_) fun g3=>⟨rfl,rfl,rfl,rfl,?_⟩⟩
  ·have:s1.getD 0 0=48:=u8i.1 g3
   unfold KD dcQ at hk
   rw[if_pos (.inr ⟨by omega,this⟩)]at hk;exact hk
  ·unfold dcQ
   rw[if_neg]
   rintro(h | ⟨_,h⟩)
   ·exact g (by rw[h];rfl)
   ·exact g3 (by show((s1.getD 0 0).toNat:Int)=48;rw[h];rfl)
 ·refine⟨rfl,rfl,rfl,rfl,?_⟩
  unfold dcQ
  rw[if_neg]
  rintro(h | ⟨h,_⟩)
  ·exact g (by rw[h];rfl)
  ·omega
 rintro _ _ _ _ _ _ _ ⟨rfl,rfl,rfl,rfl,h2⟩
 rw[h2]at hk
 rw[Int.toNat_natCast,D7]
 refine⟨⟨by omega,by omega⟩,⟨by omega,by omega⟩,?_⟩
 have hdg:=Ga s1
 generalize hr:s1.drop (Aw s1).length=r at*
 generalize ha:Aw s1=a at*
 have hrl2:a.length+r.length<=1000000:=by
  have:r.length=s1.length-a.length:=by rw[<-hr,List.length_drop]
  omega
 clear hr ha h1 h2
 refine⟨fun s3 all ex neg3 _ _ _ st'=>neg=neg3/\st=st'/\dcF neg a r=dcE neg all ex s3/\ -1000000<=ex/\ex<=0/\all.length<=1000000/\s3.length<=1000000/\∀c,c∈all->A2 c,Jq (by decide) (Aa (fun g=>?_) fun g=>?_),?_⟩
 ·have hr1:1<=r.length:=by
   cases r with
   | nil=>exact absurd g (by decide)
   | cons c r=>rw[List.length_cons];omega
  refine⟨⟨by omega,by omega⟩,S8 (by show(r.drop 1).length<=_;rw[List.length_drop];omega) ?_⟩
  rw[show Int.toNat (1:Int)=1 from rfl]
  have hd1:=CE (r.drop 1)
  have hd2:=Ga (r.drop 1)
  have hd3:=D7 (r.drop 1)
  rw[List.length_drop]at hd1
  generalize hf:Aw (r.drop 1)=f at*
  refine Aa (fun g2=>?_) fun g2=>?_
  ·have:f=[]:=List.length_eq_zero_iff.1 (by omega)
   unfold KD dcF at hk
   rw[if_pos g,hf,if_pos this]at hk;exact hk
  ·rw[Al (((f.length:Nat):Int)+1) (by omega) (by omega),Al (0-_) (by omega) (by omega),show((((f.length:Nat):Int)+1).toNat)=1+f.length by omega]
   have hdt:(r.take (1+f.length)).drop 1=f:=by rw[List.drop_take,Nat.add_sub_cancel_left];exact hd3
   refine⟨⟨by omega,by omega,by omega⟩,?_⟩
   show(a.length+((r.take (1+f.length)).drop 1).length<=_)/\_
   rw[hdt]
   refine⟨by omega,⟨by omega,by omega⟩,rfl,rfl,?_,by omega,by omega,by rw[List.length_append];omega,by rw[List.length_drop];omega,fun c hc=>?_⟩
   ·unfold dcF
    rw[if_pos g,hf,if_neg (fun e=>g2 (by rw[e];rfl))]
    rw[show(0:Int)-(f.length:Nat)= -(f.length:Nat) by omega]
   ·rcases List.mem_append.1 hc with hc | hc
    ·exact hdg c hc
    ·exact hd2 c hc
 ·refine⟨rfl,rfl,?_,by omega,by omega,by omega,by omega,hdg⟩
  unfold dcF;rw[if_neg g]
 rintro s3 all ex _ _ _ _ _ ⟨rfl,rfl,h3,x1,x2,x3,x4,x5⟩
 rw[h3]at hk
 clear h3 hdg hrl2
 refine Aa (fun g=>?_) fun g=>?_
 ·have hpos:1<=s3.length:=List.length_pos_iff.2 g
  refine⟨fun s4 neg4 all4 ex4 _ _ _ st'=>s3=s4/\neg=neg4/\all=all4/\ex=ex4/\st=st'/\(s3.getD 0 0=101∨s3.getD 0 0=69),?_,?_⟩
  ·have n101:((s3.getD 0 0).toNat:Int)≠101↔s3.getD 0 0≠101:=not_congr (u8i (k:=101))
   have n69:((s3.getD 0 0).toNat:Int)≠69↔s3.getD 0 0≠69:=not_congr (u8i (k:=69))
   refine⟨⟨by omega,by omega⟩,Aa (fun g1=>⟨⟨by omega,by omega⟩,Aa (fun g2=>?_) fun g2=>⟨rfl,rfl,rfl,rfl,rfl,.inr (Decidable.not_not.1 fun h=>g2 (n69.2 h))⟩⟩) fun g1=>⟨rfl,rfl,rfl,rfl,rfl,.inl (Decidable.not_not.1 fun h=>g1 (n101.2 h))⟩⟩
   unfold KD dcE at hk
   rw[if_neg g,if_neg (by rintro(h | h);exact n101.1 g1 h;exact n69.1 g2 h)]at hk
   exact hk
  rintro _ _ _ _ _ _ _ _ ⟨rfl,rfl,rfl,rfl,rfl,he⟩
  unfold KD dcE at hk
  rw[if_neg g,if_pos he]at hk
  refine⟨⟨by omega,by omega⟩,Jq (by decide) ?_⟩
  show ∃_,_
  refine⟨fun s5 neg5 all5 ex5 less _ _ _ st'=>neg=neg5/\all=all5/\ex=ex5/\st=st'/\s5.length<=1000000/\KD K (dcX neg all ex less s5) st,Aa (fun g1=>?_) fun g1=>Jq (by decide) (Aa (fun g2=>?_) fun g2=>?_),?_⟩
  ·have g1':(s3.drop 1).getD 0 0=45:=g1
   rw[if_pos g1']at hk
   refine⟨⟨by omega,?_⟩,rfl,rfl,rfl,rfl,?_,?_⟩
   ·have:1<=(s3.drop 1).length:=by
     cases hc:s3.drop 1 with
     | nil=>rw[hc]at g1';exact absurd g1' (by decide)
     | cons c r=>rw[List.length_cons];omega
    exact Int.ofNat_le.2 this
   ·show((s3.drop 1).drop 1).length<=_;rw[List.length_drop,List.length_drop];omega
   ·rw[decide_eq_true g1]
    show KD K (dcX neg all ex true ((s3.drop 1).drop 1)) st
    rw[List.drop_drop];exact hk
  ·have g1':¬(s3.drop 1).getD 0 0=45:=g1
   have g2':(s3.drop 1).getD 0 0=43:=g2
   rw[if_neg g1',if_pos g2']at hk
   refine⟨⟨by omega,?_⟩,rfl,rfl,rfl,rfl,?_,?_⟩
   ·have:1<=(s3.drop 1).length:=by
     cases hc:s3.drop 1 with
     | nil=>rw[hc]at g2';exact absurd g2' (by decide)
     | cons c r=>rw[List.length_cons];omega
    exact Int.ofNat_le.2 this
   ·show((s3.drop 1).drop 1).length<=_;rw[List.length_drop,List.length_drop];omega
   ·rw[decide_eq_false g1]
    show KD K (dcX neg all ex false ((s3.drop 1).drop 1)) st
    rw[List.drop_drop];exact hk
  ·have g1':¬(s3.drop 1).getD 0 0=45:=g1
   have g2':¬(s3.drop 1).getD 0 0=43:=g2
   rw[if_neg g1',if_neg g2']at hk
   refine⟨rfl,rfl,rfl,rfl,?_,?_⟩
   ·show(s3.drop 1).length<=_;rw[List.length_drop];omega
   ·rw[decide_eq_false g1];exact hk
  rintro s5 _ _ _ less _ _ _ _ ⟨rfl,rfl,rfl,rfl,hl5,hk5⟩
  unfold KD dcX at hk5
  refine Aa (fun g1=>by rw[if_pos (.inl g1)]at hk5;exact hk5) fun g1=>S8 (by omega) (Aa (fun g2=>?_) fun g2=>?_)
  ·rw[if_pos (.inr (by omega))]at hk5;exact hk5
  ·have hall:Aw s5=s5:=by
    have:=Ma s5
    have h0:s5.drop (Aw s5).length=[]:=List.drop_of_length_le (by omega)
    rw[h0,List.append_nil]at this
    exact this.symm
   have hd5:∀c,c∈s5->A2 c:=by rw[<-hall];exact Ga s5
   rw[if_neg (by rintro(h | h);exact g1 h;exact h (by rw[hall]))]at hk5
   refine Mi (by decide) (WU (by omega) (by omega) (fun c hc=>hd5 c (Hw s5 c hc)) (IH s5) ?_)
   show Ad PR CU [.bool neg,.str all,.int .i64 (if less=true then ex-((if (Bb s5).length<=12 then BM (Bb s5)else 1099511627776:Nat):Int)else ex+((if (Bb s5).length<=12 then BM (Bb s5)else 1099511627776:Nat):Int))] _ _ _
   rw[FZ]
   have sm:=EJ all
   by_cases h12:(Bb s5).length<=12
   ·have hn:=O1 hd5 h12
    rw[if_pos h12]
    refine Qq (by omega) x5 ?_ ?_ hk5
    ·split<;>omega
    ·split<;>omega
   ·have hf:=Q4 (k:=12) hd5 (by omega)
    rw[if_neg h12]
    refine Qq (by omega) x5 ?_ ?_ ?_
    ·split<;>omega
    ·split<;>omega
    ·have:=U4 (neg:=neg) (s:=Bb all) (ex:=ex) (n:=((1099511627776:Nat):Int)) (m:=(BM s5:Nat)) (by omega) (by omega) (by omega) (by omega) (by omega) less
     unfold KD
     rw[this];exact hk5
 ·have g0:s3=[]:=Decidable.not_not.1 g
  unfold KD dcE at hk
  rw[if_pos g0]at hk
  exact Qq (by omega) x5 (by omega) (by omega) hk
theorem KL {α:Type} {l m:List α} {k:Nat} {x y:α} (h:l.take k=m.take k) (hx:l[k]? =some x) (hy:m[k]? =some y) (e:x=y):l.take (k+1)=m.take (k+1):=by
 rw[O3 hx,O3 hy,h,e]
theorem sc_eq {s t:Sc} (h1:s.kind=t.kind) (h2:s.b=t.b) (h3:s.neg=t.neg) (h4:s.dg=t.dg) (h5:s.ex=t.ex) (h6:s.tk=t.tk) (h7:s.td=t.td) (h8:s.tn=t.tn) (h9:s.tz=t.tz) (h10:s.text=t.text) (h11:s.bytes=t.bytes):s=t:=by
 cases s;cases t;simp_all
theorem Same_ok:∀(N:Nat) (v w:Vl),v.sz<=N->w.sz<=2000000->N<=2000000->∀{st0 st:St} {cs ds:List TV} {K:Bool->St->Prop},VlR st0 v cs->VlR st0 w ds->He st0 st->(∀r,(r=true↔v=w)->K r st)->
  Ad PR BI [.agg cs,.agg ds] [.one .bool] st K:=by
 intro N
 induction N with
 | zero=>intro v w h;have:=v.sz_pos;omega
 | succ N ih=>
 intro v w hN hW hN2 st0 st cs ds K h h' hke hk
 cases v with
 | mk s l f=>
 cases w with
 | mk t m g=>
 have hsz:=szs s l f
 have hll:=KA l
 have hfl:=K9 f
 have hsz':=szs t m g
 have hll':=KA m
 have hfl':=K9 g
 obtain⟨ub,ul,uf,xl,xf,rfl,h1,h2,h3,h4,h5⟩:=h.cells
 obtain⟨wb,wl,wf,yl,yf,rfl,k1,k2,k3,k4,k5⟩:=h'.cells
 have no:(Vl.mk s l f≠Vl.mk t m g)->K false st:=fun hne=>hk false ⟨fun h=>(by cases h),fun h=>absurd h hne⟩
 have inj:Vl.mk s l f=Vl.mk t m g↔s=t/\l=m/\f=g:=by simp
 refine IE _ _ _ _ _ _ _ _ _ _ _ _ _ _ _ _ _ _ _ _ _ _ _ _ _ _ st K ?_
 refine Aa (fun e=>no fun h=>e (by rw[(inj.1 h).1])) fun e1=>Ar (fun e=>no fun h=>?_) fun e2=>Ar (fun e=>no fun h=>?_) fun e3=>Ar (fun e=>no fun h=>?_) fun e4=>Aa (fun e=>no fun h=>e (by rw[(inj.1 h).1])) fun e5=>?_
 ·rw[(inj.1 h).1]at e;simp at e
 ·rw[(inj.1 h).1]at e;simp at e
 ·rw[(inj.1 h).1]at e;simp at e
 refine Ae (x:= .str s.bytes) (by rw[(h1.keep hke).toBytes];rfl) (AB (Ae (x:=TV.str t.bytes) (by rw[(k1.keep hke).toBytes];rfl) (AB ?_)))
 refine Aa (fun e=>no fun h=>e (by rw[(inj.1 h).1])) fun e6=>?_
 have hst:s=t:=by
  simp only[Bool.not_eq_false',Bool.and_eq_true,beq_iff_eq,decide_eq_true_eq,and_true]at e2 e3 e4
  exact sc_eq (Decidable.not_not.1 e1) e2 e3.1 e3.2.1 e3.2.2 e4.1 e4.2.1 e4.2.2.1 e4.2.2.2 (Decidable.not_not.1 e5) (Decidable.not_not.1 e6)
 subst hst
 refine Ab h2.isSl (Ab k2.isSl ?_)
 rw[h2.lenS,k2.lenS]
 refine Aa (fun e=>no fun h=>e (by rw[(inj.1 h).2.1])) fun e7=>Ab h4.isSl (Ab k4.isSl ?_)
 rw[h4.lenS,k4.lenS]
 refine Aa (fun e=>no fun h=>e (by rw[(inj.1 h).2.2])) fun e8=>?_
 have ell:l.length=m.length:=by omega
 have efl:f.length=g.length:=by omega
 refine⟨fun i a1 a2 a3 a4 a5 a6 a7 a8 a9 a10 a11 a12 a13 b1 b2 b3 b4 b5 b6 b7 b8 b9 b10 b11 b12 b13 st'=>ul=a12/\uf=a13/\wl=b12/\wf=b13/\st=st'/\∃k:Nat,i=k/\k<=l.length/\l.take k=m.take k,fun i _ _ _ _ _ _ _ _ _ _ _ _ _ _ _ _ _ _ _ _ _ _ _ _ _ _ _=>(l.length-i).toNat,
  ⟨rfl,rfl,rfl,rfl,rfl,0,rfl,Nat.zero_le _,rfl⟩,?_⟩
 rintro _ a1 a2 a3 a4 a5 a6 a7 a8 a9 a10 a11 _ _ b1 b2 b3 b4 b5 b6 b7 b8 b9 b10 b11 _ _ _ ⟨rfl,rfl,rfl,rfl,rfl,k,rfl,hkl,hE⟩
 refine Ab h2.isSl (Aa (fun q=>?_) fun q=>?_)
 ·rw[h2.lenS]at q
  refine el13 hke h2 h3 rfl (by omega) fun s1 l1 f1 ub1 ul1 uf1 gw hw on=>el13 hke k2 k3 rfl (by omega) fun s2 l2 f2 ub2 ul2 uf2 gw2 hw2 on2=>?_
  have hwsz:=KB gw
  have hwsz2:=KB gw2
  refine ih _ (.mk s2 l2 f2) (by omega) (by omega) (by omega) hw hw2 hke fun r hr=>Ar (fun hb=>no fun h=>?_) fun hb=>?_
  ·rw[(inj.1 h).2.1,gw2]at gw
   rw[hr.2 (Option.some.inj gw).symm]at hb;cases hb
  ·rw[Al _ (by omega) (by omega)]
   exact⟨⟨rfl,rfl,rfl,rfl,rfl,k+1,by omega,by omega,KL hE gw gw2 (hr.1 (by simpa using hb))⟩,by dsimp only;omega⟩
 ·rw[h2.lenS]at q
  have hlm:l=m:=by
   have:k=l.length:=by omega
   rw[this,List.take_length,ell,List.take_length]at hE;exact hE
  subst hlm
  refine⟨fun i a1 a2 a3 a4 a5 a6 a7 a8 a9 a10 a11 a12 a13 b1 b2 b3 b4 b5 b6 b7 b8 b9 b10 b11 b12 b13 st'=>uf=a13/\wf=b13/\st=st'/\∃k:Nat,i=k/\k<=f.length/\f.take k=g.take k,fun i _ _ _ _ _ _ _ _ _ _ _ _ _ _ _ _ _ _ _ _ _ _ _ _ _ _ _=>(f.length-i).toNat,
   ⟨rfl,rfl,rfl,0,rfl,Nat.zero_le _,rfl⟩,?_⟩
  rintro _ a1 a2 a3 a4 a5 a6 a7 a8 a9 a10 a11 a12 _ b1 b2 b3 b4 b5 b6 b7 b8 b9 b10 b11 b12 _ _ ⟨rfl,rfl,rfl,k,rfl,hkl,hF⟩
  refine Ab h4.isSl (Aa (fun q=>?_) fun q=>?_)
  ·rw[h4.lenS]at q
   have gd:f[k]? =some f[k]:=List.getElem?_eq_getElem (by omega)
   have gd2:g[k]? =some g[k]:=List.getElem?_eq_getElem (by omega)
   generalize f[k]=d at gd
   generalize g[k]=d2 at gd2
   refine key14 hke h4 h5 rfl gd (key14 hke k4 k5 rfl gd2 (Aa (fun e=>?_) fun e=>?_))
   ·refine⟨R1 hke k4 k5 gd2,R1 hke h4 h5 gd,no fun h=>e ?_⟩
    rw[(inj.1 h).2.2,gd2]at gd
    rw[Option.some.inj gd]
   ·refine Wl hke h4 h5 rfl (by omega) fun key1 s1 l1 f1 ub1 ul1 uf1 gw hw on=>Wl hke k4 k5 rfl (by omega) fun key2 s2 l2 f2 ub2 ul2 uf2 gw2 hw2 on2=>?_
    have hwsz:=La gw
    have hwsz2:=La gw2
    have hwk:=szd key1 (.mk s1 l1 f1)
    have hwk2:=szd key2 (.mk s2 l2 f2)
    refine ih (.mk s1 l1 f1) (.mk s2 l2 f2) (by omega) (by omega) (by omega) hw hw2 hke fun r hr=>⟨R1 hke k4 k5 gd2,R1 hke h4 h5 gd,Ar (fun hb=>no fun h=>?_) fun hb=>?_⟩
    ·rw[(inj.1 h).2.2,gw2]at gw
     have:=Option.some.inj gw
     simp only[Fd.mk.injEq]at this
     rw[hr.2 this.2.symm]at hb;cases hb
    ·rw[Al _ (by omega) (by omega)]
     refine⟨⟨rfl,rfl,rfl,k+1,by omega,by omega,KL hF gw gw2 ?_⟩,by dsimp only;omega⟩
     rw[gd]at gw
     rw[gd2]at gw2
     have q1:=Option.some.inj gw
     have q2:=Option.some.inj gw2
     subst q1 q2
     have:=hr.1 (by simpa using hb)
     simp only[Fd.key,Decidable.not_not]at e
     rw[e,this]
  ·rw[h4.lenS]at q
   have hfg:f=g:=by
    have:k=f.length:=by omega
    rw[this,List.take_length,efl,List.take_length]at hF;exact hF
   exact hk true ⟨fun _=>by rw[hfg],fun _=>rfl⟩
def zs (n:Nat):B8:=List.replicate n 48
theorem box_put (st:St) (b:Nat) (o:Lu):(st.put b o).box b=o:=by simp[St.put]
def Tu (y m:Nat):Nat:=if 1<=y/\y<=9999/\1<=m/\m<=12 then LY y m else 0
theorem HF {y m:Nat} (h1:1<=y) (h2:y<=9999) (h3:1<=m) (h4:m<=12):Tu y m=LY y m:=if_pos ⟨h1,h2,h3,h4⟩
theorem MD {y:Nat} {st:St} {K:Bool->St->Prop} (hk:K (decide (1<=y/\y<=9999)) st):Ad PR Dm [.int .i64 (y:Int)] [.one .bool] st K:=by
 refine KE _ st K (Aa (fun g=>?_) fun g=>?_)
 ·exact DQ (decide_eq_decide.2 ⟨fun h=>by omega,fun h=>by omega⟩) hk
 ·rw[decide_eq_false (by omega)]at hk;exact hk
theorem Ud {y:Nat} (h1:1<=y) (h2:y<=9999) {st:St} {K:Bool->St->Prop} (hk:K (decide (Mu y)) st):Ad PR EP [.int .i64 (y:Int)] [.one .bool] st K:=by
 refine Ly _ st K (MD ?_)
 rw[decide_eq_true ⟨h1,h2⟩,Int.tmod_eq_emod_of_nonneg (by omega),Int.tmod_eq_emod_of_nonneg (by omega),Int.tmod_eq_emod_of_nonneg (by omega)]
 unfold Mu at hk
 refine Aa (p:=True) (fun _=>Aa (fun g=>Aa (fun g2=>?_) fun g2=>?_) fun g=>?_) (fun h=>absurd trivial h)
 ·exact DQ (decide_eq_true (show y%4=0/\(y%100≠0∨y%400=0)from⟨by omega,.inl (by omega)⟩) |>.symm) hk
 ·exact DQ (decide_eq_decide.2 ⟨fun h=>⟨by omega,.inr (by omega)⟩,fun h=>by omega⟩) hk
 ·exact DQ (decide_eq_false (show ¬(y%4=0/\(y%100≠0∨y%400=0))from fun h=>by omega) |>.symm) hk
theorem days_ix:∀k:Nat,k<12->k≠1->(([.int .i64 31,.int .i64 28,.int .i64 31,.int .i64 30,.int .i64 31,.int .i64 30,.int .i64 31,.int .i64 31,.int .i64 30,.int .i64 31,.int .i64 30,.int .i64 31]:List TV)[(0+k*1)+0]?)=some (.int .i64 (if k+1=4∨k+1=6∨k+1=9∨k+1=11 then 30 else 31))
 | 0,_,_=>rfl
 | 1,_,h=>absurd rfl h
 | 2,_,_=>rfl
 | 3,_,_=>rfl
 | 4,_,_=>rfl
 | 5,_,_=>rfl
 | 6,_,_=>rfl
 | 7,_,_=>rfl
 | 8,_,_=>rfl
 | 9,_,_=>rfl
 | 10,_,_=>rfl
 | 11,_,_=>rfl
 | k+12,h,_=>by omega
theorem ME {y m:Nat} (hm:m<=1000000) {st:St} {K:Int->St->Prop} (hk:K (Tu y m:Nat) st):Ad PR Dn [.int .i64 (y:Int),.int .i64 (m:Int)] [.one (.int .i64)] st K:=by
 unfold Tu at hk
 refine KG _ _ st K (MD ?_)
 by_cases hy:1<=y/\y<=9999
 ·rw[decide_eq_true hy]
  refine Aa (p:=False) (fun h=>h.elim) fun _=>Aa (fun g=>?_) fun g=>Aa (fun g2=>?_) fun g2=>?_
  ·rw[if_neg (by omega)]at hk;exact hk
  ·rw[if_neg (by omega)]at hk;exact hk
  ·rw[if_pos (by omega)]at hk
   unfold LY at hk
   rw[Al _ (by omega) (by omega)]
   refine Aa (fun g3=>Ud hy.1 hy.2 (Aa (fun g4=>?_) fun g4=>?_)) fun g3=>⟨⟨by omega,by omega⟩,?_⟩
   ·rw[if_pos (by omega),if_pos g4]at hk;exact hk
   ·rw[if_pos (by omega),if_neg g4]at hk
    refine⟨⟨by omega,by omega⟩,?_⟩
    have:m=2:=by omega
    subst this
    exact Ae (x:= .int .i64 28) rfl (Am hk)
   ·rw[if_neg (by omega)]at hk
    obtain⟨k,rfl⟩:∃k,m=k+1:=⟨m-1,by omega⟩
    rw[show(((k+1:Nat):Int)-1)=(k:Int) by omega,Int.toNat_natCast]
    refine Ae (days_ix k (by omega) (by omega)) (Am ?_)
    split
    ·rename_i h;rw[if_pos h]at hk;exact hk
    ·rename_i h;rw[if_neg h]at hk;exact hk
 ·rw[decide_eq_false hy]
  refine Aa (p:=True) (fun _=>?_) fun h=>absurd trivial h
  rw[if_neg (fun h=>hy ⟨h.1,h.2.1⟩)]at hk;exact hk
theorem Sy {y:Nat} (h1:1<=y) (h2:y<=1000000) {st:St} {K:Int->St->Prop} (hk:K (yrS y:Nat) st):Ad PR Eu [.int .i64 (y:Int)] [.one (.int .i64)] st K:=by
 refine KF _ st K ?_
 obtain⟨k,rfl⟩:∃k,y=k+1:=⟨y-1,by omega⟩
 unfold yrS at hk
 rw[Nat.add_sub_cancel]at hk
 rw[show(((k+1:Nat):Int)-1)=(k:Int) by omega,Al (k:Int) (by omega) (by omega),Int.tdiv_eq_ediv_of_nonneg (by omega),Int.tdiv_eq_ediv_of_nonneg (by omega),Int.tdiv_eq_ediv_of_nonneg (by omega)]
 rw[Al (365*(k:Int)) (by omega) (by omega),Al ((k:Int)/4) (by omega) (by omega),Al ((k:Int)/100) (by omega) (by omega),Al ((k:Int)/400) (by omega) (by omega),Al (365*(k:Int)+(k:Int)/4) (by omega) (by omega),Al (365*(k:Int)+(k:Int)/4-(k:Int)/100) (by omega) (by omega),Al _ (by omega) (by omega)]
 have e:(((365*k+k/4-k/100+k/400:Nat):Nat):Int)=365*(k:Int)+(k:Int)/4-(k:Int)/100+(k:Int)/400:=by omega
 rw[e]at hk;exact hk
theorem WF {y:Nat} (h1:1<=y) (h2:y<=9999) {st:St} {K:Bool->St->Prop} (hk:K (decide (Mu y)) st):Ad PR Bn [.int .i64 (y:Int)] [.one .bool] st K:=by
 refine IG _ st K (Aa (fun _=>Aa (fun _=>?_) fun g=>by omega) fun g=>by omega)
 rw[Int.tmod_eq_emod_of_nonneg (by omega),Int.tmod_eq_emod_of_nonneg (by omega),Int.tmod_eq_emod_of_nonneg (by omega)]
 unfold Mu at hk
 refine Aa (fun g=>Aa (fun g2=>?_) fun g2=>?_) fun g=>?_
 ·exact DQ (decide_eq_true (show y%4=0/\(y%100≠0∨y%400=0)from⟨by omega,.inl (by omega)⟩) |>.symm) hk
 ·exact DQ (decide_eq_decide.2 ⟨fun h=>⟨by omega,.inr (by omega)⟩,fun h=>by omega⟩) hk
 ·exact DQ (decide_eq_decide.2 ⟨fun h=>by omega,fun h=>by omega⟩) hk
theorem LP {y m:Nat} (hm:m<=1000000) {st:St} {K:Int->St->Prop} (hk:K (Tu y m:Nat) st):Ad PR Bz [.int .i64 (y:Int),.int .i64 (m:Int)] [.one (.int .i64)] st K:=by
 unfold Tu at hk
 refine If _ _ st K (Aa (fun g=>?_) fun g=>Aa (fun g2=>?_) fun g2=>?_)
 ·rw[if_neg (by omega)]at hk;exact hk
 ·rw[if_neg (by omega)]at hk;exact hk
 refine⟨fun b y' m' st'=>b=decide (m=1∨m=3∨m=5∨m=7∨m=8∨m=10∨m=12)/\(y:Int)=y'/\(m:Int)=m'/\st=st',?_,?_⟩
 ·refine Aa (fun g=>⟨decide_eq_decide.2 (by omega),rfl,rfl,rfl⟩) fun g=>Aa (fun g=>⟨decide_eq_decide.2 (by omega),rfl,rfl,rfl⟩) fun g=>Aa (fun g=>⟨decide_eq_decide.2 (by omega),rfl,rfl,rfl⟩) fun g=>
   Aa (fun g=>⟨decide_eq_decide.2 (by omega),rfl,rfl,rfl⟩) fun g=>Aa (fun g=>⟨decide_eq_decide.2 (by omega),rfl,rfl,rfl⟩) fun g=>Aa (fun g=>⟨decide_eq_decide.2 (by omega),rfl,rfl,rfl⟩) fun g=>⟨decide_eq_decide.2 (by omega),rfl,rfl,rfl⟩
 rintro _ _ _ _ ⟨rfl,rfl,rfl,rfl⟩
 unfold LY at hk
 have two:∀{x y:Int->St->Prop},True:=fun {_ _}=>trivial
 have t30:(m=4∨m=6∨m=9∨m=11)->K 30 st:=fun h=>by
  rw[if_pos (by omega),if_neg (by omega),if_pos h]at hk;exact hk
 have tz:¬(1<=m/\m<=12)->K 0 st:=fun h=>by
  rw[if_neg (by omega)]at hk;exact hk
 refine Aa (fun g3=>?_) fun g3=>?_
 ·rw[if_pos (by omega),if_neg (by omega),if_neg (by omega)]at hk;exact hk
 ·refine Aa (fun g4=>Aa (fun _=>t30 (by omega)) fun h=>absurd g4 h) fun g4=>Aa (fun g5=>Aa (fun _=>t30 (by omega)) fun h=>absurd g5 h) fun g5=>Aa (fun g6=>Aa (fun _=>t30 (by omega)) fun h=>absurd g6 h) fun g6=>Aa (fun g7=>t30 (by omega)) fun g7=>Aa (fun g8=>?_) fun g8=>tz (by omega)
  rw[if_pos (by omega),if_pos (by omega)]at hk
  refine WF (by omega) (by omega) (Aa (fun g9=>?_) fun g9=>?_)
  ·rw[if_pos g9]at hk;exact hk
  ·rw[if_neg g9]at hk;exact hk
theorem K3 (y:Nat):∀m,IS y m<=31*m
 | 0=>Nat.le_refl _
 | 1=>Nat.zero_le _
 | m+2=>by
  have:=K3 y (m+1)
  have:=K4 y (m+1)
  simp only[IS];omega
theorem Tg {y:Nat} (h1:1<=y) (h2:y<=9999) {st:St} {K:Int->St->Prop} (hk:K (IS y 12+LY y 12:Nat) st):Ad PR CO [.int .i64 (y:Int)] [.one (.int .i64)] st K:=by
 refine Ho _ st K ⟨fun n mo ye st'=>(y:Int)=ye/\st=st'/\∃m:Nat,mo=m/\1<=m/\m<=13/\n=(IS y m:Nat),fun _ mo _ _=>(13-mo).toNat,⟨rfl,rfl,1,rfl,by omega,by omega,rfl⟩,?_⟩
 rintro _ _ _ _ ⟨rfl,rfl,m,rfl,hm1,hm2,rfl⟩
 have hle:=K3 y m
 refine Aa (fun g=>LP (by omega) ?_) fun g=>?_
 ·have:=K4 y m
  rw[HF h1 h2 hm1 (by omega),Al _ (by omega) (by omega),Al _ (by omega) (by omega)]
  exact⟨⟨rfl,rfl,m+1,by omega,by omega,by omega,by rw[Jn y hm1];omega⟩,by dsimp only;omega⟩
 ·have:m=13:=by omega
  subst this
  rw[Jn y (by omega)];exact hk
def TR (r:Nat) (st:St):Option B8->Prop
 | some s=>r<st.nb/\st.box r= .cells [.str s,.bool false]/\s.length<=1000000
 | none=>r<st.nb/\∃s,st.box r= .cells [.str s,.bool true]/\s.length<=1000000
theorem TR.get {r:Nat} {st:St} {S:Option B8} (h:TR r st S):r<st.nb/\∃s,st.box r= .cells [.str s,.bool S.isNone]/\s.length<=1000000/\(∀x,S=some x->s=x):=by
 cases S with
 | none=>obtain⟨h1,s,h2,h3⟩:=h;exact⟨h1,s,h2,h3,fun x hx=>by cases hx⟩
 | some s=>obtain⟨h1,h2,h3⟩:=h;exact⟨h1,s,h2,h3,fun x hx=>by cases hx;rfl⟩
def TM (r f:Nat) (st:St) (S:Option B8) (l:List TV):Prop:=TR r st S/\f<st.nb/\st.box f= .cells l/\r≠f
theorem Kc {r:Nat} {st:St} {s:B8} {b:Bool} (h:st.box r= .cells [.str s,.bool b]) (hr:r<st.nb) (hl:s.length<=1000000) {K:St->Prop} (hk:∀st',StX (·=r) st st'->TR r st' none->K st'):
  stB st (.box r 1) [.bool true] K:=
 ⟨_,h,by simp,hk _ (StX.put (S:=(·=r)) rfl _) ⟨hr,s,by simp[St.put,setAll],hl⟩⟩
theorem Lz {r:Nat} {st:St} {s t:B8} {S:Option B8} (h:TR r st S) (ht:t.length<=1000000) {K:St->Prop} (hk:∀st',StX (·=r) st st'->TR r st' (S.map fun _=>t)->K st'):
  stB st (.box r 0) [.str t] K:=by
 obtain⟨hr,s,hb,hl,_⟩:=h.get
 refine⟨_,hb,by simp,hk _ (StX.put (S:=(·=r)) rfl _) ?_⟩
 cases S with
 | none=>exact⟨hr,t,by simp[St.put,setAll],ht⟩
 | some x=>exact⟨hr,by simp[St.put,setAll],ht⟩
def JB (w:Nat) (s:B8):Prop:=w<=s.length/\∀i,i<w->A2 (s.getD i 0)
instance (w:Nat) (s:B8):Decidable (JB w s):=inferInstanceAs (Decidable (_/\_))
def JH (w:Nat) (S:Option B8) (n:Nat) (T:Option B8):Prop:=match S with
 | none=>T=none
 | some s=>if JB w s then T=some (s.drop w)/\n=BM (s.take w)else T=none
theorem O2 {l:B8} {w:Nat} (hw:w<=l.length) (h:∀i,i<w->A2 (l.getD i 0)):BM (l.take w)<10^w:=by
 have h1:=Ji (l.take w) fun c hc=>by
  obtain⟨i,hi⟩:=List.getElem?_of_mem hc
  have hl:=(List.getElem?_eq_some_iff.1 hi).1
  rw[List.length_take]at hl
  rw[List.getElem?_take,if_pos (by omega)]at hi
  have:=h i (by omega)
  rwa [List.getD,hi]at this
 rwa [List.length_take,Nat.min_eq_left hw]at h1
theorem Gs {r:Nat} {w:Nat} (hw:w<=9) {st:St} {S:Option B8} (h:TR r st S) {K:Int->St->Prop} (hk:∀(n:Nat) st' T,n<10^w->StX (·=r) st st'->TR r st' T->JH w S n T->K (n:Nat) st'):
  Ad PR Az [.box r 0,.int .i64 (w:Nat)] [.one (.int .i64)] st K:=by
 obtain⟨hr,s,hb,hl,hx⟩:=h.get
 have hs:Ac st [] (.t (.box r 0)) 0=some (.str s):=by simp[Ac,hb]
 have p10:0<10^w:=Nat.pow_pos (by decide)
 have p18:10^w<=10^9:=Nat.pow_le_pow_right (by decide) hw
 have bad:¬JB w s->∀st',StX (·=r) st st'->TR r st' none->K ((0:Nat):Int) st':=fun hn st' e h'=>hk 0 st' none p10 e h' (by
  cases S with
  | none=>rfl
  | some x=>rw[<-hx x rfl];show(if JB w s then _ else _);rw[if_neg hn])
 refine GZ r _ st K (Ae hs (AB (Aa (fun g=>Kc hb hr hl (bad fun h=>by have:=h.1;omega)) fun g=>?_)))
 refine⟨fun n i p w' m st'=> .box r 0=p/\((w:Nat):Int)=w'/\((w:Nat):Int)=m/\st=st'/\∃k:Nat,i=k/\k<=w/\n=(BM (s.take k):Nat)/\∀j,j<k->A2 (s.getD j 0),fun _ i _ _ _ _=>(w-i).toNat,⟨rfl,rfl,rfl,rfl,0,rfl,Nat.zero_le _,rfl,fun j h=>absurd h (Nat.not_lt_zero _)⟩,?_⟩
 rintro _ _ _ _ _ _ ⟨rfl,rfl,rfl,rfl,k,rfl,hkw,rfl,hd⟩
 rw[Int.toNat_natCast]
 have hv:=O2 (l:=s) (w:=k) (by omega) hd
 have p1:10^k<=10^9:=Nat.pow_le_pow_right (by decide) (by omega)
 refine Aa (fun g1=>Ab rfl (Ab rfl (Ae hs (AB ⟨⟨by omega,by omega⟩,Aa (fun g2=>?_) fun g2=>Ab rfl (Ab rfl (Ae hs (AB ⟨⟨by omega,by omega⟩,Aa (fun g3=>?_) fun g3=>?_⟩)))⟩)))) fun g1=>?_
 ·exact Ab rfl (Ab rfl (Kc hb hr hl (bad fun h=>by have:=(h.2 k (by omega)).1;omega)))
 ·exact Ab rfl (Ab rfl (Kc hb hr hl (bad fun h=>by have:=(h.2 k (by omega)).2;omega)))
 ·refine Ab rfl (Ab rfl (Ae hs (AB ⟨⟨by omega,by omega⟩,?_⟩)))
  have hsn:=G0 (l:=s) (k:=k) (by omega)
  rw[Nf _ (by omega) (by omega),Al (10*_) (by omega) (by omega),Al (((s.getD k 0).toNat:Int)-48) (by omega) (by omega),Al (_+_) (by omega) (by omega),Al _ (by omega) (by omega)]
  refine⟨⟨rfl,rfl,rfl,rfl,k+1,by omega,by omega,by rw[hsn];omega,fun j hj=>?_⟩,by dsimp only;omega⟩
  by_cases hjk:j=k
  ·subst hjk;exact⟨by omega,by omega⟩
  ·exact hd j (by omega)
 ·have hkk:k=w:=by omega
  subst hkk
  refine Ab rfl (Ab rfl (Ae hs (AB ⟨⟨by omega,by omega⟩,Ab rfl (Ab rfl (Lz (s:=s) h (by rw[List.length_drop];omega) fun st' e h'=>hk _ st' _ hv e h' ?_))⟩)))
  cases S with
  | none=>rfl
  | some x=>
   obtain rfl:=hx x rfl
   show(if JB k s then _ else _)
   rw[if_pos ⟨by omega,hd⟩]
   exact⟨rfl,rfl⟩
def MW (of:B8) (S:Option B8) (c:Nat) (T:Option B8):Prop:=match S with
 | none=>T=none
 | some s=>if s.getD 0 0∈of then T=some (s.drop 1)/\c=(s.getD 0 0).toNat else T=none
theorem Gr {r:Nat} {of:B8} (hof:(0:UInt8)∉of) (hlo:of.length<=100) {st:St} {S:Option B8} (h:TR r st S) {K:Int->St->Prop} (hk:∀(n:Nat) st' T,n<256->StX (·=r) st st'->TR r st' T->MW of S n T->K (n:Nat) st'):
  Ad PR AK [.box r 0,.str of] [.one (.int .u8)] st K:=by
 obtain⟨hr,s,hb,hl,hx⟩:=h.get
 have hs:Ac st [] (.t (.box r 0)) 0=some (.str s):=by simp[Ac,hb]
 have bad:s.getD 0 0∉of->∀st',StX (·=r) st st'->TR r st' none->K ((0:Nat):Int) st':=fun hn st' e h'=>hk 0 st' none (by decide) e h' (by
  cases S with
  | none=>rfl
  | some x=>rw[<-hx x rfl];show(if s.getD 0 0∈of then _ else _);rw[if_neg hn])
 refine Iw r of st K (Ae hs (AB (Aa (fun g=>?_) fun g=>?_)))
 ·have hpos:0<s.length:=List.length_pos_iff.2 g
  refine⟨fun i p of' m st'=> .box r 0=p/\of=of'/\(of.length:Int)=m/\st=st'/\∃k:Nat,i=k/\k<=of.length/\∀j,j<k->of.getD j 0≠s.getD 0 0,fun i _ _ _ _=>(of.length-i).toNat,⟨rfl,rfl,rfl,rfl,0,rfl,Nat.zero_le _,fun j h=>absurd h (Nat.not_lt_zero _)⟩,?_⟩
  rintro _ _ _ _ _ ⟨rfl,rfl,rfl,rfl,k,rfl,hkw,hd⟩
  rw[Int.toNat_natCast]
  refine Aa (fun g1=>Ab rfl (Ab rfl (Ae hs (AB ⟨⟨by omega,by omega⟩,⟨by omega,g1⟩,Aa (fun g2=>?_) fun g2=>?_⟩)))) fun g1=>?_
  ·have g2':s.getD 0 0=of.getD k 0:=UInt8.toNat_inj.1 (Int.ofNat.inj g2)
   have hmem:s.getD 0 0∈of:=by rw[g2'];exact F6 (by omega)
   refine Ab rfl (Ab rfl (Ae hs (AB ⟨⟨by omega,by omega⟩,Ab rfl (Ab rfl (Lz (s:=s) h (by rw[List.length_drop];omega) fun st' e h'=>⟨⟨by omega,g1⟩,hk _ st' _ (UInt8.toNat_lt _) e h' ?_⟩))⟩)))
   cases S with
   | none=>rfl
   | some x=>
    obtain rfl:=hx x rfl
    show(if s.getD 0 0∈of then _ else _)
    rw[if_pos hmem]
    exact⟨rfl,by rw[g2']⟩
  ·rw[Al _ (by omega) (by omega)]
   refine⟨⟨rfl,rfl,rfl,rfl,k+1,by omega,by omega,fun j hj=>?_⟩,by dsimp only;omega⟩
   by_cases hjk:j=k
   ·subst hjk;exact fun e=>g2 (by rw[e];rfl)
   ·exact hd j (by omega)
  ·refine Ab rfl (Ab rfl (Kc hb hr hl (bad fun hm=>?_)))
   obtain⟨i,hi,he⟩:=List.getElem_of_mem hm
   exact hd i (by omega) (by rw[<-he];simp[List.getD,hi])
 ·have g0:s=[]:=Decidable.not_not.1 g
  exact Kc hb hr hl (bad (by rw[g0];exact hof))
def FracS (S:Option B8) (n:Nat) (T:Option B8):Prop:=match S with
 | none=>T=none
 | some s=>if Aw s=[]∨9<(Aw s).length then T=none else T=some (s.drop (Aw s).length)/\n=NV (Aw s)
theorem Q3 (l:B8):∀k,BM (l++List.replicate k 48)=BM l*10^k
 | 0=>by simp
 | k+1=>by
  rw[List.replicate_succ',<-List.append_assoc]
  have:=Q3 l k
  unfold BM at this⊢
  rw[Q6,this,Nat.pow_succ]
  show 10*(Gp 0 l*10^k)+(48-48)=_
  have e:10*(Gp 0 l*10^k)=Gp 0 l*(10^k*10):=by rw[Nat.mul_left_comm,Nat.mul_comm 10]
  rw[e];rfl
theorem NJ {n k:Nat} (hk:k<=9) (hn:n<10^k) {st:St} {K:Int->St->Prop} (h:K (n*10^(9-k):Nat) st):
  ∃(I:Int->Int->St->Prop) (M:Int->Int->St->Nat),I (n:Nat) (k:Nat) st/\∀(n2 k2:Int) (st5:St),I n2 k2 st5->BIf (decide (k2<9)) (I (i64.wrap (n2*10)) (i64.wrap (k2+1)) st5/\M (i64.wrap (n2*10)) (i64.wrap (k2+1)) st5<M n2 k2 st5) (K n2 st5):=by
 refine⟨fun n2 k2 st5=>st=st5/\∃j:Nat,k2=j/\j<=9/\∃m:Nat,n2=m/\m<10^j/\m*10^(9-j)=n*10^(9-k),fun _ k2 _=>(9-k2).toNat,⟨rfl,k,rfl,hk,n,rfl,hn,rfl⟩,?_⟩
 rintro _ _ _ ⟨rfl,j,rfl,hj,m,rfl,hm,he⟩
 have p9:10^j<=10^9:=Nat.pow_le_pow_right (by decide) hj
 refine Aa (fun g=>?_) fun g=>?_
 ·rw[Al _ (by omega) (by omega),Al _ (by omega) (by omega)]
  refine⟨⟨rfl,j+1,by omega,by omega,m*10,by omega,by rw[Nat.pow_succ];omega,?_⟩,by dsimp only;omega⟩
  rw[<-he,Nat.mul_assoc,show 9-j=(9-(j+1))+1 by omega,Nat.pow_succ,Nat.mul_comm 10]
 ·have:j=9:=by omega
  subst this
  rw[Nat.sub_self,Nat.pow_zero,Nat.mul_one]at he
  rw[<-he]at h;exact h
theorem Wo {r:Nat} {st:St} {S:Option B8} (h:TR r st S) {K:Int->St->Prop} (hk:∀(n:Nat) st' T,n<1000000000->StX (·=r) st st'->TR r st' T->FracS S n T->K (n:Nat) st'):
  Ad PR Ce [.box r 0] [.one (.int .i64)] st K:=by
 obtain⟨hr,s,hb,hl,hx⟩:=h.get
 have hs:Ac st [] (.t (.box r 0)) 0=some (.str s):=by simp[Ac,hb]
 have bad:(Aw s=[]∨9<(Aw s).length)->∀st',StX (·=r) st st'->TR r st' none->K ((0:Nat):Int) st':=fun hn st' e h'=>hk 0 st' none (by decide) e h' (by
  cases S with
  | none=>rfl
  | some x=>rw[<-hx x rfl];show(if Aw s=[]∨9<(Aw s).length then _ else _);rw[if_pos hn])
 refine Gk r st K ⟨fun n i p st'=> .box r 0=p/\st=st'/\∃k:Nat,i=k/\k<=s.length/\n=(BM (s.take (min k 9)):Nat)/\∀j,j<k->A2 (s.getD j 0),fun _ i _ _=>(s.length-i).toNat,⟨rfl,rfl,0,rfl,Nat.zero_le _,rfl,fun j h=>absurd h (Nat.not_lt_zero _)⟩,?_⟩
 rintro _ _ _ _ ⟨rfl,rfl,k,rfl,hkl,rfl,hd⟩
 rw[Int.toNat_natCast]
 have p18:10^(min k 9)<=10^9:=Nat.pow_le_pow_right (by decide) (by omega)
 have hv:=O2 (l:=s) (w:=min k 9) (by omega) fun i hi=>hd i (by omega)
 have run:(k=s.length∨¬A2 (s.getD k 0))->(Aw s).length=k:=fun hs=>Hb s k hkl hd hs
 have bad0:(k=s.length∨¬A2 (s.getD k 0))->((k:Nat):Int)<1->stB st (.box r 1) [.bool true] fun st'=>K ((0:Nat):Int) st':=fun hs g=>Kc hb hr hl (bad (.inl (List.length_eq_zero_iff.1 (by rw[run hs];omega))))
 have bad9:(k=s.length∨¬A2 (s.getD k 0))->(9:Int)<((k:Nat):Int)->stB st (.box r 1) [.bool true] fun st'=>K ((0:Nat):Int) st':=fun hs g=>Kc hb hr hl (bad (.inr (by rw[run hs];omega)))
 have good:(k=s.length∨¬A2 (s.getD k 0))->¬((k:Nat):Int)<1->¬(9:Int)<((k:Nat):Int)->∀st',StX (·=r) st st'->TR r st' (S.map fun _=>s.drop k)->K ((BM (s.take (min k 9))*10^(9-k):Nat):Int) st':=fun hs g1 g2 st' e h'=>by
  have hrun:=run hs
  have htk:=D7 s
  rw[hrun]at htk
  have hm:min k 9=k:=by omega
  rw[hm]at hv⊢
  have hp:10^9=10^k*10^(9-k):=by rw[<-Nat.pow_add];congr 1;omega
  have hlt:BM (s.take k)*10^(9-k)<1000000000:=by
   have:=Nat.mul_lt_mul_of_pos_right hv (Nat.pow_pos (n:=9-k) (show 0<10 by decide))
   rw[<-hp]at this;exact this
  refine hk _ st' _ hlt e h' ?_
  cases S with
  | none=>rfl
  | some x=>
   obtain rfl:=hx x rfl
   show(if Aw s=[]∨9<(Aw s).length then _ else _)
   rw[if_neg (by rintro(h0 | h0);rw[h0]at hrun;simp at hrun;omega;omega),hrun]
   refine⟨rfl,?_⟩
   unfold NV
   rw[hrun,Q3,htk]
 refine Ab rfl (Ab rfl (Ae hs (AB (Aa (fun g=>Ab rfl (Ab rfl (Ae hs (AB ⟨⟨by omega,g⟩,Aa (fun g1=>Ab rfl (Ab rfl (Ae hs (AB ⟨⟨by omega,g⟩,Aa (fun g2=>?_) fun g2=>?_⟩)))) fun g1=>?_⟩)))) fun g=>?_))))
 ·have hdk:∀j,j<k+1->A2 (s.getD j 0):=fun j hj=>by
   by_cases hjk:j=k
   ·subst hjk;exact⟨by omega,by omega⟩
   ·exact hd j (by omega)
  refine Aa (fun g3=>Ab rfl (Ab rfl (Ae hs (AB ⟨⟨by omega,g⟩,?_⟩)))) fun g3=>?_
  ·have hsn:=G0 (l:=s) (k:=k) (by omega)
   have hm:min k 9=k:=by omega
   have hm1:min (k+1) 9=k+1:=by omega
   rw[hm]at hv⊢
   rw[hm]at p18
   rw[Nf _ (by omega) (by omega),Al (10*_) (by omega) (by omega),Al (((s.getD k 0).toNat:Int)-48) (by omega) (by omega),Al (_+_) (by omega) (by omega),Al _ (by omega) (by omega)]
   exact⟨⟨rfl,rfl,k+1,by omega,by omega,by rw[hm1,hsn];omega,hdk⟩,by dsimp only;omega⟩
  ·rw[Al _ (by omega) (by omega)]
   exact⟨⟨rfl,rfl,k+1,by omega,by omega,by rw[show min (k+1) 9=min k 9 by omega],hdk⟩,by dsimp only;omega⟩
 ·have hs':k=s.length∨¬A2 (s.getD k 0):= .inr fun h=>g2 (by have:=h.2;omega)
  exact Aa (fun g3=>Ab rfl (Ab rfl (bad0 hs' g3))) fun g3=>Aa (fun g4=>Ab rfl (Ab rfl (bad9 hs' g4))) fun g4=>Ab rfl (Ab rfl (Ae hs (AB ⟨⟨by omega,by omega⟩,Ab rfl (Ab rfl (Lz (s:=s) h (by rw[List.length_drop];omega) fun st' e h'=>NJ (by omega) (by rw[show min k 9=k by omega]at*;exact hv) (good hs' g3 g4 st' e h')))⟩)))
 ·have hs':k=s.length∨¬A2 (s.getD k 0):= .inr fun h=>g1 (by have:=h.1;omega)
  exact Aa (fun g3=>Ab rfl (Ab rfl (bad0 hs' g3))) fun g3=>Aa (fun g4=>Ab rfl (Ab rfl (bad9 hs' g4))) fun g4=>Ab rfl (Ab rfl (Ae hs (AB ⟨⟨by omega,by omega⟩,Ab rfl (Ab rfl (Lz (s:=s) h (by rw[List.length_drop];omega) fun st' e h'=>NJ (by omega) (by rw[show min k 9=k by omega]at*;exact hv) (good hs' g3 g4 st' e h')))⟩)))
 ·have hs':k=s.length∨¬A2 (s.getD k 0):= .inl (by omega)
  exact Aa (fun g3=>Ab rfl (Ab rfl (bad0 hs' g3))) fun g3=>Aa (fun g4=>Ab rfl (Ab rfl (bad9 hs' g4))) fun g4=>Ab rfl (Ab rfl (Ae hs (AB ⟨⟨by omega,by omega⟩,Ab rfl (Ab rfl (Lz (s:=s) h (by rw[List.length_drop];omega) fun st' e h'=>NJ (by omega) (by rw[show min k 9=k by omega]at*;exact hv) (good hs' g3 g4 st' e h')))⟩)))
abbrev rfS (r f:Nat):Nat->Prop:=fun b=>b=r∨b=f
theorem TM.step {r f:Nat} {st st':St} {S T:Option B8} {l:List TV} (h:TM r f st S l) (e:StX (·=r) st st') (h':TR r st' T):TM r f st' T l:=
 ⟨h',Nat.lt_of_lt_of_le h.2.1 e.nb,(e.box f h.2.1 fun g=>h.2.2.2 g.symm).trans h.2.2.1,h.2.2.2⟩
theorem TM.put {r f i:Nat} {st:St} {S:Option B8} {l:List TV} {v:TV} (h:TM r f st S l) (hi:i<l.length) {K:St->Prop} (hk:∀st',StX (rfS r f) st st'->TM r f st' S (l.set i v)->K st'):stB st (.box f i) [v] K:=by
 obtain⟨h1,h2,h3,h4⟩:=h
 refine⟨_,h3,by simp;omega,hk _ (StX.put (S:=rfS r f) (.inr rfl) _) ⟨?_,h2,by simp[St.put,setAll],h4⟩⟩
 have hne:((st.put f (.cells (setAll l i [v]))).box r)=st.box r:=by simp only[St.put];rw[if_neg h4]
 cases S with
 | none=>obtain⟨a1,s,a2,a3⟩:=h1;exact⟨a1,s,hne.trans a2,a3⟩
 | some s=>obtain⟨a1,a2,a3⟩:=h1;exact⟨a1,hne.trans a2,a3⟩
theorem Ip {r f:Nat} {a b:St} (e:StX (·=r) a b):StX (rfS r f) a b:=e.mono fun _ h=> .inl h
def fcT (y mo d h mi sc nn sg oh om:Nat):List TV:=[.int .i64 (y:Nat),.int .i64 (mo:Nat),.int .i64 (d:Nat),.int .i64 (h:Nat),.int .i64 (mi:Nat),.int .i64 (sc:Nat),.int .i64 (nn:Nat),.int .u8 (sg:Nat),.int .i64 (oh:Nat),.int .i64 (om:Nat)]
theorem JH.pos {w n:Nat} {s:B8} {T:Option B8} (h:JH w (some s) n T) (f:JB w s):T=some (s.drop w)/\n=BM (s.take w):=by
 change (if JB w s then _ else _)at h
 rwa [if_pos f]at h
theorem JH.neg {w n:Nat} {s:B8} {T:Option B8} (h:JH w (some s) n T) (f:¬JB w s):T=none:=by
 change (if JB w s then _ else _)at h
 rwa [if_neg f]at h
theorem MW.pos {of:B8} {n:Nat} {s:B8} {T:Option B8} (h:MW of (some s) n T) (f:s.getD 0 0∈of):T=some (s.drop 1)/\n=(s.getD 0 0).toNat:=by
 change (if s.getD 0 0∈of then _ else _)at h
 rwa [if_pos f]at h
theorem MW.neg {of:B8} {n:Nat} {s:B8} {T:Option B8} (h:MW of (some s) n T) (f:s.getD 0 0∉of):T=none:=by
 change (if s.getD 0 0∈of then _ else _)at h
 rwa [if_neg f]at h
theorem FH (s:B8) (k i:Nat):b0 (s.drop k) i=b0 s (k+i):=by simp[b0,List.getD]
theorem UZ (s:B8) (k i:Nat):dd (s.drop k) i↔dd s (k+i):=by
 unfold dd
 rw[FH,FH,Nat.add_assoc]
theorem Vb (s:B8) (k i:Nat):d2 (s.drop k) i=d2 s (k+i):=by
 unfold d2 dv
 rw[FH,FH,Nat.add_assoc]
theorem Oz {s:B8} {k:Nat} (h:A2 (b0 s k)):k<s.length:=by
 by_cases hk:k<s.length
 ·exact hk
 ·rw[show b0 s k=0 by simp[b0,List.getD,Nat.le_of_not_lt hk]]at h
  exact absurd h (by decide)
theorem numF2 (s:B8):JB 2 s↔dd s 0:=by
 constructor
 ·intro h;exact⟨h.2 0 (by omega),h.2 1 (by omega)⟩
 ·intro h
  have:=Oz h.2
  exact⟨by omega,fun i hi=>by
   rcases (by omega:i=0∨i=1)with rfl | rfl
   ·exact h.1
   ·exact h.2⟩
theorem RP (s:B8):JB 4 s↔dd s 0/\dd s 2:=by
 constructor
 ·intro h;exact⟨⟨h.2 0 (by omega),h.2 1 (by omega)⟩,⟨h.2 2 (by omega),h.2 3 (by omega)⟩⟩
 ·intro h
  have:=Oz h.2.2
  exact⟨by omega,fun i hi=>by
   rcases (by omega:i=0∨i=1∨i=2∨i=3)with rfl | rfl | rfl | rfl
   ·exact h.1.1
   ·exact h.1.2
   ·exact h.2.1
   ·exact h.2.2⟩
theorem val2 {s:B8} (h:JB 2 s):BM (s.take 2)=d2 s 0:=by
 rcases s with _ | ⟨a,_ | ⟨b,r⟩⟩
 ·exact absurd h.1 (by simp)
 ·exact absurd h.1 (by simp)
 ·show 10*(10*0+(a.toNat-48))+(b.toNat-48)=(a.toNat-48)*10+(b.toNat-48)
  omega
theorem val4 {s:B8} (h:JB 4 s):BM (s.take 4)=d2 s 0*100+d2 s 2:=by
 rcases s with _ | ⟨a,_ | ⟨b,_ | ⟨c,_ | ⟨d,r⟩⟩⟩⟩
 ·exact absurd h.1 (by simp)
 ·exact absurd h.1 (by simp)
 ·exact absurd h.1 (by simp)
 ·exact absurd h.1 (by simp)
 ·show 10*(10*(10*(10*0+(a.toNat-48))+(b.toNat-48))+(c.toNat-48))+(d.toNat-48)=((a.toNat-48)*10+(b.toNat-48))*100+((c.toNat-48)*10+(d.toNat-48))
  omega
theorem one1 {s:B8} {c:UInt8}:s.getD 0 0∈ [c]↔b0 s 0=c:=by rw[List.mem_singleton];rfl
theorem Gt {s:B8} {k m n:Nat} {T:Option B8} (hm:k+2=m) (h:JH 2 (some (s.drop k)) n T):(dd s k->T=some (s.drop m)/\n=d2 s k)/\(¬dd s k->T=none):=by
 have e:JB 2 (s.drop k)↔dd s k:=by rw[numF2,UZ];rfl
 constructor
 ·intro f
  have f':=e.2 f
  obtain⟨h1,h2⟩:=h.pos f'
  exact⟨by rw[h1,List.drop_drop,hm],by rw[h2,val2 f',Vb];rfl⟩
 ·intro f;exact h.neg fun g=>f (e.1 g)
theorem JJ {s:B8} {k m n:Nat} {c:UInt8} {T:Option B8} (hm:k+1=m) (h:MW [c] (some (s.drop k)) n T):(b0 s k=c->T=some (s.drop m))/\(b0 s k≠c->T=none):=by
 have e:(s.drop k).getD 0 0∈ [c]↔b0 s k=c:=by rw[one1,FH];rfl
 exact⟨fun f=>by rw[(h.pos (e.2 f)).1,List.drop_drop,hm],fun f=>h.neg fun g=>f (e.1 g)⟩
theorem step4 {s:B8} {n:Nat} {T:Option B8} (h:JH 4 (some s) n T):(dd s 0/\dd s 2->T=some (s.drop 4)/\n=d2 s 0*100+d2 s 2)/\(¬(dd s 0/\dd s 2)->T=none):=
 ⟨fun f=>⟨(h.pos ((RP s).2 f)).1,by rw[(h.pos ((RP s).2 f)).2,val4 ((RP s).2 f)]⟩,fun f=>h.neg fun g=>f ((RP s).1 g)⟩
theorem V0 {s:B8} {y c m c' d:Nat} {T1 T2 T3 T4 T5:Option B8} (s1:JH 4 (some s) y T1) (s2:MW [45] T1 c T2) (s3:JH 2 T2 m T3) (s4:MW [45] T3 c' T4) (s5:JH 2 T4 d T5):
  (DU s->T5=some (s.drop 10)/\y=d2 s 0*100+d2 s 2/\m=d2 s 5/\d=d2 s 8)/\(¬DU s->T5=none):=by
 by_cases f1:dd s 0/\dd s 2
 ·obtain⟨rfl,v1⟩:=(step4 s1).1 f1
  by_cases f2:b0 s 4=45
  ·obtain rfl:=(JJ (m:=5) rfl s2).1 f2
   by_cases f3:dd s 5
   ·obtain⟨rfl,v3⟩:=(Gt (m:=7) rfl s3).1 f3
    by_cases f4:b0 s 7=45
    ·obtain rfl:=(JJ (m:=8) rfl s4).1 f4
     by_cases f5:dd s 8
     ·obtain⟨rfl,v5⟩:=(Gt (m:=10) rfl s5).1 f5
      exact⟨fun _=>⟨rfl,v1,v3,v5⟩,fun h=>absurd ⟨f1.1,f1.2,f2,f3,f4,f5⟩ h⟩
     ·exact⟨fun h=>absurd h.2.2.2.2.2 f5,fun _=>(Gt (m:=10) rfl s5).2 f5⟩
    ·obtain rfl:=(JJ (m:=8) rfl s4).2 f4
     exact⟨fun h=>absurd h.2.2.2.2.1 f4,fun _=>s5⟩
   ·obtain rfl:=(Gt (m:=7) rfl s3).2 f3
    obtain rfl:T4=none:=s4
    exact⟨fun h=>absurd h.2.2.2.1 f3,fun _=>s5⟩
  ·obtain rfl:=(JJ (m:=5) rfl s2).2 f2
   obtain rfl:T3=none:=s3
   obtain rfl:T4=none:=s4
   exact⟨fun h=>absurd h.2.2.1 f2,fun _=>s5⟩
 ·obtain rfl:=(step4 s1).2 f1
  obtain rfl:T2=none:=s2
  obtain rfl:T3=none:=s3
  obtain rfl:T4=none:=s4
  exact⟨fun h=>absurd ⟨h.1,h.2.1⟩ f1,fun _=>s5⟩
def DateS (S:Option B8) (y m d:Nat) (T:Option B8):Prop:=match S with
 | none=>T=none
 | some s=>(DU s->T=some (s.drop 10)/\y=d2 s 0*100+d2 s 2/\m=d2 s 5/\d=d2 s 8)/\(¬DU s->T=none)
theorem Rh {r f:Nat} {st:St} {S:Option B8} {h mi sc nn sg oh om:Nat} (hm:TM r f st S (fcT 0 0 0 h mi sc nn sg oh om)) {K:St->Prop}
  (hk:∀y mo d st' T,y<10000->mo<100->d<100->StX (rfS r f) st st'->TM r f st' T (fcT y mo d h mi sc nn sg oh om)->DateS S y mo d T->K st'):Ad PR B5 [.box r 0,.box f 0] [] st K:=by
 refine H4 r f st K (Gs (w:=4) (by decide) hm.1 fun y st1 T1 b1 e1 h1 s1=>(hm.step e1 h1).put (by simp[fcT]) fun st2 e2 m2=>?_)
 refine Gr (of:=[45]) (by decide) (by decide) m2.1 fun c st3 T3 b3 e3 h3 s3=>Gs (w:=2) (by decide) h3 fun mo st4 T4 b4 e4 h4 s4=>((m2.step e3 h3).step e4 h4).put (by simp[fcT]) fun st5 e5 m5=>?_
 refine Gr (of:=[45]) (by decide) (by decide) m5.1 fun c' st6 T6 b6 e6 h6 s6=>Gs (w:=2) (by decide) h6 fun d st7 T7 b7 e7 h7 s7=>((m5.step e6 h6).step e7 h7).put (by simp[fcT]) fun st8 e8 m8=>?_
 refine hk y mo d st8 T7 b1 b4 b7 ((((((((Ip e1).trans e2).trans (Ip e3)).trans (Ip e4)).trans e5).trans (Ip e6)).trans (Ip e7)).trans e8) m8 ?_
 cases S with
 | some s=>exact V0 s1 s3 s4 s6 s7
 | none=>
  have:=(show T1=none from s1)
  subst this
  have:=(show T3=none from s3)
  subst this
  have:=(show T4=none from s4)
  subst this
  have:=(show T6=none from s6)
  subst this
  exact s7
theorem TZ {s:B8} {h c m c' d:Nat} {T1 T2 T3 T4 T5:Option B8} (s1:JH 2 (some s) h T1) (s2:MW [58] T1 c T2) (s3:JH 2 T2 m T3) (s4:MW [58] T3 c' T4) (s5:JH 2 T4 d T5):
  (IY s->T5=some (s.drop 8)/\h=d2 s 0/\m=d2 s 3/\d=d2 s 6)/\(¬IY s->T5=none):=by
 have s1':JH 2 (some (s.drop 0)) h T1:=by rw[List.drop_zero];exact s1
 by_cases f1:dd s 0
 ·obtain⟨rfl,v1⟩:=(Gt (m:=2) rfl s1').1 f1
  by_cases f2:b0 s 2=58
  ·obtain rfl:=(JJ (m:=3) rfl s2).1 f2
   by_cases f3:dd s 3
   ·obtain⟨rfl,v3⟩:=(Gt (m:=5) rfl s3).1 f3
    by_cases f4:b0 s 5=58
    ·obtain rfl:=(JJ (m:=6) rfl s4).1 f4
     by_cases f5:dd s 6
     ·obtain⟨rfl,v5⟩:=(Gt (m:=8) rfl s5).1 f5
      exact⟨fun _=>⟨rfl,v1,v3,v5⟩,fun h=>absurd ⟨f1,f2,f3,f4,f5⟩ h⟩
     ·exact⟨fun h=>absurd h.2.2.2.2 f5,fun _=>(Gt (m:=8) rfl s5).2 f5⟩
    ·obtain rfl:=(JJ (m:=6) rfl s4).2 f4
     exact⟨fun h=>absurd h.2.2.2.1 f4,fun _=>s5⟩
   ·obtain rfl:=(Gt (m:=5) rfl s3).2 f3
    obtain rfl:T4=none:=s4
    exact⟨fun h=>absurd h.2.2.1 f3,fun _=>s5⟩
  ·obtain rfl:=(JJ (m:=3) rfl s2).2 f2
   obtain rfl:T3=none:=s3
   obtain rfl:T4=none:=s4
   exact⟨fun h=>absurd h.2.1 f2,fun _=>s5⟩
 ·obtain rfl:=(Gt (m:=2) rfl s1').2 f1
  obtain rfl:T2=none:=s2
  obtain rfl:T3=none:=s3
  obtain rfl:T4=none:=s4
  exact⟨fun h=>absurd h.1 f1,fun _=>s5⟩
def SL (S:Option B8) (h mi sc nn:Nat) (T:Option B8):Prop:=match S with
 | none=>T=none
 | some s=>match Gf s with
  | none=>T=none
  | some (h',mi',sc',f',r')=>T=some r'/\h=h'/\mi=mi'/\sc=sc'/\nn=f'
theorem TR.src {r:Nat} {st:St} {S:Option B8} (h:TR r st S):∃s,Ac st [] (.t (.box r 0)) 0=some (.str s)/\s.length<=1000000/\∀x,S=some x->s=x:=by
 obtain⟨_,s,hb,hl,hx⟩:=h.get
 exact⟨s,by simp[Ac,hb],hl,hx⟩
theorem LB {r f:Nat} {st:St} {S:Option B8} {y mo d sg oh om:Nat} (hm:TM r f st S (fcT y mo d 0 0 0 0 sg oh om)) {K:St->Prop}
  (hk:∀h mi sc nn st' T,h<100->mi<100->sc<100->nn<1000000000->StX (rfS r f) st st'->TM r f st' T (fcT y mo d h mi sc nn sg oh om)->SL S h mi sc nn T->K st'):Ad PR Br [.box r 0,.box f 0] [] st K:=by
 refine Hf r f st K (Gs (w:=2) (by decide) hm.1 fun y st1 T1 b1 e1 h1 s1=>(hm.step e1 h1).put (by simp[fcT]) fun st2 e2 m2=>?_)
 refine Gr (of:=[58]) (by decide) (by decide) m2.1 fun c st3 T3 b3 e3 h3 s3=>Gs (w:=2) (by decide) h3 fun mo st4 T4 b4 e4 h4 s4=>((m2.step e3 h3).step e4 h4).put (by simp[fcT]) fun st5 e5 m5=>?_
 refine Gr (of:=[58]) (by decide) (by decide) m5.1 fun c' st6 T6 b6 e6 h6 s6=>Gs (w:=2) (by decide) h6 fun d st7 T7 b7 e7 h7 s7=>((m5.step e6 h6).step e7 h7).put (by simp[fcT]) fun st8 e8 m8=>?_
 have E:=(((((((Ip e1).trans e2).trans (Ip e3)).trans (Ip e4)).trans e5).trans (Ip e6)).trans (Ip e7)).trans e8
 have comb:∀s,S=some s->(IY s->T7=some (s.drop 8)/\y=d2 s 0/\mo=d2 s 3/\d=d2 s 6)/\(¬IY s->T7=none):=fun s hs=>by
  subst hs;exact TZ s1 s3 s4 s6 s7
 have nn:S=none->T7=none:=fun hs=>by
  subst hs
  obtain rfl:T1=none:=s1
  obtain rfl:T3=none:=s3
  obtain rfl:T4=none:=s4
  obtain rfl:T6=none:=s6
  exact s7
 clear s1 s3 s4 s6 s7 m2 m5
 obtain⟨t,ht,hl,hx⟩:=m8.1.src
 have plain:(∀x,T7=some x->b0 x 0≠46)->K st8:=fun hp=>hk y mo d 0 st8 T7 b1 b4 b7 (by decide) E m8 (by
  cases S with
  | none=>exact nn rfl
  | some s=>
   unfold SL;dsimp only
   obtain⟨c1,c2⟩:=comb s rfl
   unfold Gf
   by_cases fc:IY s
   ·obtain⟨rfl,v1,v2,v3⟩:=c1 fc
    rw[if_pos fc,if_neg (by have:=hp _ rfl;rw[FH]at this;exact this)]
    exact⟨rfl,v1,v2,v3,rfl⟩
   ·rw[if_neg fc];exact c2 fc)
 refine Ae ht (AB (Aa (fun g=>Ae ht (AB ⟨⟨by omega,by have:=List.length_pos_iff.2 g;omega⟩,Aa (fun g1=>?_) fun g1=>?_⟩)) fun g=>?_))
 ·have hpos:=List.length_pos_iff.2 g
  refine Ae ht (AB ⟨⟨by omega,by omega⟩,Lz (s:=t) m8.1 (by rw[List.length_drop];omega) fun st9 e9 h9=>?_⟩)
  refine Wo h9 fun n st10 T10 b10 e10 h10 s10=>((m8.step e9 h9).step e10 h10).put (by simp[fcT]) fun st11 e11 m11=>?_
  refine hk y mo d n st11 T10 b1 b4 b7 b10 (((E.trans (Ip e9)).trans (Ip e10)).trans e11) m11 ?_
  have g46:b0 t 0=46:=(u8i (k:=46)).1 g1
  cases S with
  | none=>
   obtain rfl:=nn rfl
   exact s10
  | some s=>
   unfold SL;dsimp only
   obtain⟨c1,c2⟩:=comb s rfl
   unfold Gf
   by_cases fc:IY s
   ·obtain⟨rfl,v1,v2,v3⟩:=c1 fc
    obtain rfl:=hx _ rfl
    rw[FH]at g46
    rw[if_pos fc,if_pos g46]
    have hd9:(s.drop 8).drop (Int.toNat 1)=s.drop 9:=by rw[List.drop_drop];rfl
    have s11:FracS (some (s.drop 9)) n T10:=by rw[<-hd9];exact s10
    change (if _ then _ else _)at s11
    by_cases hf:Aw (s.drop 9)=[]∨9<(Aw (s.drop 9)).length
    ·rw[if_pos hf]at s11
     rw[if_pos hf];exact s11
    ·rw[if_neg hf]at s11
     rw[if_neg hf]
     refine⟨?_,v1,v2,v3,s11.2⟩
     rw[s11.1,List.drop_drop]
   ·obtain rfl:=c2 fc
    rw[if_neg fc];exact s10
 ·exact plain fun x hx'=>by
   obtain rfl:=hx x hx'
   exact fun h=>g1 ((u8i (k:=46)).2 h)
 ·have g0:t=[]:=Decidable.not_not.1 g
  exact plain fun x hx'=>by
   obtain rfl:=hx x hx'
   rw[g0];decide
def Uq (S:Option B8) (sg oh om:Nat) (T:Option B8):Prop:=match S with
 | none=>T=none
 | some s=>(T=some []->∃ls,MR s=some (ls,oh,om)/\(ls=true↔sg=45))/\(T≠some []->MR s=none)
theorem Tp {s:B8} {sg oh om:Nat} {c:Nat} {T1 T2 T3 T:Option B8} (hsg:sg=(b0 s 0).toNat) (h0:b0 s 0=43∨b0 s 0=45) (hT:T1=some (s.drop 1)) (s1:JH 2 T1 oh T2) (s2:MW [58] T2 c T3) (s3:JH 2 T3 om T):Uq (some s) sg oh om T:=by
 subst hT
 have nz:¬(s=[90]∨s=[122]):=by
  rintro(h | h)<;>rw[h]at h0<;>revert h0<;>decide
 have no:T=none->(dd s 1->b0 s 3=58->dd s 4->False)->Uq (some s) sg oh om T:=fun ht hf=>by
  subst ht
  refine⟨fun h=>(by cases h),fun _=>?_⟩
  unfold MR
  rw[if_neg nz,if_neg fun h=>hf h.2.2.1 h.2.2.2.1 h.2.2.2.2]
 by_cases f1:dd s 1
 ·obtain⟨rfl,rfl⟩:=(Gt (m:=3) rfl s1).1 f1
  by_cases f2:b0 s 3=58
  ·obtain rfl:=(JJ (m:=4) rfl s2).1 f2
   by_cases f3:dd s 4
   ·obtain⟨rfl,rfl⟩:=(Gt (m:=6) rfl s3).1 f3
    have hl:=Oz f3.2
    refine⟨fun h=>⟨decide (b0 s 0=45),?_,?_⟩,fun h=>?_⟩
    ·have h6:s.drop 6=[]:=Option.some.inj h
     have:=congrArg List.length h6
     rw[List.length_drop]at this
     simp at this
     unfold MR
     rw[if_neg nz,if_pos ⟨by omega,h0,f1,f2,f3⟩]
    ·rw[decide_eq_true_eq,hsg]
     exact⟨fun h=>by rw[h];rfl,fun h=>UInt8.toNat_inj.1 h⟩
    ·unfold MR
     rw[if_neg nz,if_neg]
     intro h'
     exact h (by rw[List.drop_of_length_le (by omega)])
   ·exact no ((Gt (m:=6) rfl s3).2 f3) fun _ _ h=>f3 h
  ·obtain rfl:=(JJ (m:=4) rfl s2).2 f2
   exact no s3 fun _ h _=>f2 h
 ·obtain rfl:=(Gt (m:=3) rfl s1).2 f1
  obtain rfl:T3=none:=s2
  exact no s3 fun h _ _=>f1 h
theorem Uq.none {S T1 T:Option B8} {sg oh om:Nat} (h:MW [90,122,43,45] S sg T1) (h1:T1=none) (ht:T=none):Uq S sg oh om T:=by
 subst h1 ht
 cases S with
 | none=>rfl
 | some s=>
  refine⟨fun h=>(by cases h),fun _=>?_⟩
  have hn:s.getD 0 0∉ [90,122,43,45]:=fun hm=>by have:=(h.pos hm).1;cases this
  unfold MR
  rw[if_neg,if_neg]
  ·rintro⟨_,h | h,_⟩
   ·exact hn (by rw[show s.getD 0 0=43 from h];decide)
   ·exact hn (by rw[show s.getD 0 0=45 from h];decide)
  ·rintro(h | h)<;>rw[h]at hn<;>revert hn<;>decide
theorem Ns {r f:Nat} {st:St} {S:Option B8} {y mo d h mi sc nn:Nat} (hm:TM r f st S (fcT y mo d h mi sc nn 0 0 0)) {K:St->Prop}
  (hk:∀sg oh om st' T,sg<256->oh<100->om<100->StX (rfS r f) st st'->TM r f st' T (fcT y mo d h mi sc nn sg oh om)->Uq S sg oh om T->K st'):Ad PR BL [.box r 0,.box f 0] [] st K:=by
 refine GY r f st K (Gr (of:=[90,122,43,45]) (by decide) (by decide) hm.1 fun sg st1 T1 b1 e1 h1 s1=>(hm.step e1 h1).put (by simp[fcT]) fun st2 e2 m2=>?_)
 have hld:Ac st2 [] (.t (.box f 7)) 0=some (.int .u8 (sg:Nat)):=by simp[Ac,m2.2.2.1,fcT]
 have E2:=(Ip e1).trans e2
 refine Ae hld (Am (Aa (fun g=>?_) fun g=>Ae hld (Am (Aa (fun g2=>?_) fun g2=>?_))))
 iterate 2
  ·refine Gs (w:=2) (by decide) m2.1 fun oh st3 T3 b3 e3 h3 s3=>(m2.step e3 h3).put (by simp[fcT]) fun st4 e4 m4=>?_
   refine Gr (of:=[58]) (by decide) (by decide) m4.1 fun c st5 T5 b5 e5 h5 s5=>Gs (w:=2) (by decide) h5 fun om st6 T6 b6 e6 h6 s6=>((m4.step e5 h5).step e6 h6).put (by simp[fcT]) fun st7 e7 m7=>?_
   refine hk sg oh om st7 T6 b1 b3 b6 (((((E2.trans (Ip e3)).trans e4).trans (Ip e5)).trans (Ip e6)).trans e7) m7 ?_
   cases T1 with
   | none=>
    obtain rfl:T3=none:=s3
    obtain rfl:T5=none:=s5
    exact Uq.none s1 rfl s6
   | some x=>
    cases S with
    | none=>cases (show some x=none from s1)
    | some s=>
     by_cases hmem:s.getD 0 0∈ [90,122,43,45]
     ·obtain⟨hT,hs⟩:=s1.pos hmem
      refine Tp hs ?_ hT s3 s5 s6
      have hc:((b0 s 0).toNat:Int)=sg:=by rw[hs];rfl
      first
       | exact .inl (UInt8.toNat_inj.1 (by rw[show((43:UInt8).toNat)=43 from rfl];omega))
       | exact .inr (UInt8.toNat_inj.1 (by rw[show((45:UInt8).toNat)=45 from rfl];omega))
     ·cases s1.neg hmem
 ·refine hk sg 0 0 st2 T1 b1 (by decide) (by decide) E2 m2 ?_
  cases T1 with
  | none=>exact Uq.none s1 rfl rfl
  | some x=>
   cases S with
   | none=>cases (show some x=none from s1)
   | some s=>
    by_cases hmem:s.getD 0 0∈ [90,122,43,45]
    ·obtain⟨hT,hs⟩:=s1.pos hmem
     rw[hT]
     have h43:b0 s 0≠43:=fun h=>g (by rw[hs,show s.getD 0 0=43 from h];rfl)
     have h45:b0 s 0≠45:=fun h=>g2 (by rw[hs,show s.getD 0 0=45 from h];rfl)
     refine⟨fun h=>⟨false,?_,⟨fun h=>(by cases h),fun h=>absurd (by omega) g2⟩⟩,fun h=>?_⟩
     ·have h1:s.drop 1=[]:=Option.some.inj h
      unfold MR
      rw[if_pos]
      rcases s with _ | ⟨a,_ | ⟨b,s⟩⟩
      ·exact absurd hmem (by decide)
      ·have ha:a∈ [90,122,43,45]:=hmem
       simp only[List.mem_cons,List.not_mem_nil,or_false]at ha
       rcases ha with rfl | rfl | rfl | rfl
       ·exact .inl rfl
       ·exact .inr rfl
       ·exact absurd rfl h43
       ·exact absurd rfl h45
      ·cases h1
     ·unfold MR
      rw[if_neg,if_neg]
      ·rintro⟨_,h | h,_⟩
       ·exact h43 h
       ·exact h45 h
      ·rintro(h' | h')<;>exact h (by rw[h'];rfl)
    ·cases s1.neg hmem
theorem cday_ok {y m d:Nat} (hy:y<=100000) (hm:m<=1000) (hd:d<=1000) {st:St} {K:Int->Int->St->Prop} (hk:K (if okD y m d then(JD y m d:Nat)else 0) (if okD y m d then 0 else 2) st):
  Ad PR Ff [.int .i64 (y:Nat),.int .i64 (m:Nat),.int .i64 (d:Nat)] [.one (.int .i64),.one (.int .i64)] st K:=by
 refine MO _ _ _ st K (Aa (fun g=>?_) fun g=>ME (by omega) (Aa (fun g2=>?_) fun g2=>?_))
 ·have hn:¬okD y m d:=fun h=>by have:=h.2.2.2.2.1;omega
  rw[if_neg hn,if_neg hn]at hk;exact hk
 ·have hn:¬okD y m d:=fun h=>by
   obtain⟨a1,a2,a3,a4,a5,a6⟩:=h
   rw[HF a1 a2 a3 a4]at g2
   omega
  rw[if_neg hn,if_neg hn]at hk;exact hk
 ·have hr:1<=y/\y<=9999/\1<=m/\m<=12:=by
   by_cases h:1<=y/\y<=9999/\1<=m/\m<=12
   ·exact h
   ·rw[show Tu y m=0 from if_neg h]at g2
    omega
  obtain⟨a1,a2,a3,a4⟩:=hr
  rw[HF a1 a2 a3 a4]at g2
  have ok:okD y m d:=⟨a1,a2,a3,a4,by omega,by omega⟩
  rw[if_pos ok,if_pos ok]at hk
  have hyr:yrS y<=4000000:=by unfold yrS;omega
  refine Sy a1 (by omega) ⟨fun n i y' m' st'=>((y:Nat):Int)=y'/\((m:Nat):Int)=m'/\st=st'/\∃j:Nat,i=j/\1<=j/\j<=m/\n=((yrS y+IS y j+(d-1):Nat):Int),fun _ i _ _ _=>(m-i).toNat,⟨rfl,rfl,rfl,1,rfl,by omega,by omega,?_⟩,?_⟩
  ·rw[Al (((yrS y:Nat):Int)+((d:Nat):Int)) (by omega) (by omega),Al _ (by omega) (by omega),show IS y 1=0 from rfl];omega
  ·rintro _ _ _ _ _ ⟨rfl,rfl,rfl,j,rfl,hj1,hj2,rfl⟩
   have hms:=K3 y j
   refine Aa (fun g3=>ME (by omega) ?_) fun g3=>?_
   ·have hmd:=K4 y j
    rw[HF a1 a2 hj1 (by omega),Al _ (by omega) (by omega),Al _ (by omega) (by omega)]
    exact⟨⟨rfl,rfl,rfl,j+1,by omega,by omega,by omega,by rw[Jn y hj1];omega⟩,by dsimp only;omega⟩
   ·have:j=m:=by omega
    subst this
    exact hk
def N4 (n1 y mo d h mi sc nn sg oh om:Nat):TmR:=
 if (n1≠2->okD y mo d)/\okC h mi sc/\oh<=23/\om<=59 then((n1:Nat),(if n1=2 then 0 else(JD y mo d:Nat)),(Fl h mi sc nn:Nat),(if sg=45 then-((oh*60+om:Nat):Int)else((oh*60+om:Nat):Int)),0)else HU
def FinS (s:B8) (n1:Nat) (T:Option B8) (y mo d h mi sc nn sg oh om:Nat):Prop:=(T=some []->tmP s=N4 n1 y mo d h mi sc nn sg oh om)/\(T≠some []->tmP s=HV)
theorem B3 {s:B8} {n1 y mo d h mi sc nn sg oh om:Nat} (e:tmP s=HV):FinS s n1 none y mo d h mi sc nn sg oh om:=⟨fun h=>(by cases h),fun _=>e⟩
theorem N3 {s:B8} (n1:Nat) {y mo d h mi sc nn sg oh om:Nat} {r:B8} (hn:n1<=4) (e:tmP s=N4 n1 y mo d h mi sc nn sg oh om) (hr:r=[]):FinS s n1 (some r) y mo d h mi sc nn sg oh om:=⟨fun _=>e,fun h=>absurd (by rw[hr]) h⟩
theorem okC0:okC 0 0 0:=by decide
theorem fin1 (y mo d:Nat):(if okD y mo d then((1:Int),((JD y mo d:Nat):Int),(0:Int),(0:Int),(0:Int))else HU)=N4 1 y mo d 0 0 0 0 0 0 0:=by
 unfold N4
 by_cases h:okD y mo d
 ·rw[if_pos h,if_pos ⟨fun _=>h,okC0,by decide,by decide⟩];rfl
 ·rw[if_neg h,if_neg fun g=>h (g.1 (by decide))]
theorem fin2 (h mi sc nn:Nat):(if okC h mi sc then((2:Int),(0:Int),((Fl h mi sc nn:Nat):Int),(0:Int),(0:Int))else HU)=N4 2 0 0 0 h mi sc nn 0 0 0:=by
 unfold N4
 by_cases g:okC h mi sc
 ·rw[if_pos g,if_pos ⟨fun h=>absurd rfl h,g,by decide,by decide⟩];rfl
 ·rw[if_neg g,if_neg fun k=>g k.2.1]
theorem fin3 (y mo d h mi sc nn:Nat):(if okD y mo d/\okC h mi sc then((3:Int),((JD y mo d:Nat):Int),((Fl h mi sc nn:Nat):Int),(0:Int),(0:Int))else HU)=N4 3 y mo d h mi sc nn 0 0 0:=by
 unfold N4
 by_cases g:okD y mo d/\okC h mi sc
 ·rw[if_pos g,if_pos ⟨fun _=>g.1,g.2,by decide,by decide⟩];rfl
 ·rw[if_neg g,if_neg fun k=>g ⟨k.1 (by decide),k.2.1⟩]
theorem fin4 (y mo d h mi sc nn sg oh om:Nat) (ls:Bool) (hl:ls=true↔sg=45):(if okD y mo d/\okC h mi sc/\oh<=23/\om<=59 then((4:Int),((JD y mo d:Nat):Int),((Fl h mi sc nn:Nat):Int),(if ls=true then-((oh*60+om:Nat):Int)else((oh*60+om:Nat):Int)),(0:Int))else HU)=N4 4 y mo d h mi sc nn sg oh om:=by
 unfold N4
 by_cases g:okD y mo d/\okC h mi sc/\oh<=23/\om<=59
 ·have hp:(4≠2->okD y mo d)/\okC h mi sc/\oh<=23/\om<=59:=⟨fun _=>g.1,g.2⟩
  rw[if_pos g,if_pos hp]
  by_cases k:sg=45
  ·rw[if_pos k,if_pos (hl.2 k)];rfl
  ·rw[if_neg k,if_neg fun h=>k (hl.1 h)];rfl
 ·rw[if_neg g,if_neg fun k=>g ⟨k.1 (by decide),k.2⟩]
theorem LA {s:B8} (hc:b0 s 2≠58) (h:¬DU s):tmP s=HV:=by
 unfold tmP
 rw[if_neg h]
 have:Gf s=none:=by unfold Gf;rw[if_neg fun g=>hc g.2.1]
 rw[this]
theorem Xg {s:B8}:s.getD 0 0∈ [84,116,32]↔(b0 s 0=84∨b0 s 0=116∨b0 s 0=32):=by
 simp only[List.mem_cons,List.not_mem_nil,or_false];rfl
theorem P7 {s:B8} (fd:DU s) (hne:s.drop 10≠ []) (fo:(s.drop 10).getD 0 0∈ [84,116,32]):tmP s=match Gf (s.drop (10+1))with
  | none=>HV
  | some (h,m,sc,f,r')=>tmO (d2 s 0*100+d2 s 2) (d2 s 5) (d2 s 8) h m sc f r':=by
 unfold tmP tmD
 rw[if_pos fd,if_neg hne,if_pos (Xg.1 fo),List.drop_drop]<;>rfl
theorem P6 {s:B8} (fd:DU s) (hne:s.drop 10≠ []) (fo:(s.drop 10).getD 0 0∉ [84,116,32]):tmP s=HV:=by
 unfold tmP tmD
 rw[if_pos fd,if_neg hne,if_neg fun h=>fo (Xg.2 h)]
theorem Ln {s:B8} {k:Nat} {c:UInt8} (hc:c≠0) (h:b0 s k=c):k<s.length:=by
 by_cases hk:k<s.length
 ·exact hk
 ·rw[show b0 s k=0 by simp[b0,List.getD,Nat.le_of_not_lt hk]]at h
  exact absurd h.symm hc
theorem Wp {r f:Nat} {st:St} {s:B8} (hm:TM r f st (some s) (fcT 0 0 0 0 0 0 0 0 0 0)) {K:Int->St->Prop}
  (hk:∀(n1 y mo d h mi sc nn sg oh om:Nat) st' T,n1<=4->y<10000->mo<100->d<100->h<100->mi<100->sc<100->nn<1000000000->sg<256->oh<100->om<100->StX (rfS r f) st st'->TM r f st' T (fcT y mo d h mi sc nn sg oh om)->FinS s n1 T y mo d h mi sc nn sg oh om->K (n1:Nat) st'):
  Ad PR Db [.box r 0,.box f 0] [.one (.int .i64)] st K:=by
 obtain⟨x,hx,hl,hsx⟩:=hm.1.src
 have hxs:x=s:=hsx s rfl
 rw[hxs]at hx hl
 clear hsx hxs
 refine H3 r f st K (Ae hx (AB (Aa (fun g=>Ae hx (AB ⟨⟨by omega,g⟩,Aa (fun g1=>?_) fun g1=>?_⟩)) fun g=>?_)))
 ·have h58:b0 s 2=58:=(u8i (k:=58)).1 g1
  have nfd:¬DU s:=fun h=>absurd h.2.1.1 (by rw[h58];decide)
  refine LB hm fun h mi sc nn st1 T c1 c2 c3 c4 e1 m1 s1=>hk 2 0 0 0 h mi sc nn 0 0 0 st1 T (by omega) (by decide) (by decide) (by decide) c1 c2 c3 c4 (by decide) (by decide) (by decide) e1 m1 ?_
  unfold SL at s1
  dsimp only at s1
  have e:tmP s=match Gf s with
   | none=>HV
   | some (h,m,sc,f,r)=>if r=[]then(if okC h m sc then(2,0,(Fl h m sc f:Nat),0,0)else HU)else HV:=by unfold tmP;rw[if_neg nfd]<;>rfl
  cases hc:Gf s with
  | none=>rw[hc]at s1 e;exact s1▸B3 e
  | some p=>
   obtain⟨h',mi',sc',f',r'⟩:=p
   rw[hc]at s1 e
   dsimp only at s1 e
   obtain⟨rfl,rfl,rfl,rfl,rfl⟩:=s1
   by_cases hr:r'=[]
   ·rw[if_pos hr]at e
    exact N3 _ (by decide) (by rw[e];exact fin2 _ _ _ _) hr
   ·rw[if_neg hr]at e
    exact⟨fun h=>absurd (Option.some.inj h) hr,fun _=>e⟩
 ·have hnc:b0 s 2≠58:=fun h=>g1 ((u8i (k:=58)).2 h)
  refine Rh hm fun y mo d st2 T2 b1 b2 b3 e2 m2 s2=>?_
  obtain⟨x3,hx3,_,hs3⟩:=m2.1.src
  refine Ae hx3 (AB (Aa (fun g=>?_) fun g=>Gr (of:=[84,116,32]) (by decide) (by decide) m2.1 fun c st3 T3 bc e3 h3 s3=>LB (m2.step e3 h3) fun h mi sc nn st4 T4 c1 c2 c3 c4 e4 m4 s4=>?_))
  ·refine hk 1 y mo d 0 0 0 0 0 0 0 st2 T2 (by omega) b1 b2 b3 (by decide) (by decide) (by decide) (by decide) (by decide) (by decide) (by decide) e2 m2 ?_
   by_cases fd:DU s
   ·obtain⟨rfl,rfl,rfl,rfl⟩:=s2.1 fd
    have h10:s.drop 10=[]:=by rw[<-hs3 _ rfl];exact g
    have e:tmP s=if okD (d2 s 0*100+d2 s 2) (d2 s 5) (d2 s 8)then((1:Int),((JD (d2 s 0*100+d2 s 2) (d2 s 5) (d2 s 8):Nat):Int),(0:Int),(0:Int),(0:Int))else HU:=by unfold tmP tmD;rw[if_pos fd,if_pos h10]
    exact N3 _ (by decide) (by rw[e];exact fin1 _ _ _) h10
   ·obtain rfl:=s2.2 fd
    exact B3 (by rw[LA hnc fd])
  ·obtain⟨x4,hx4,_,hs4⟩:=m4.1.src
   have nofd:¬DU s->T4=none:=fun fd=>by
    obtain rfl:=s2.2 fd
    obtain rfl:T3=none:=s3
    exact s4
   have E4:=(e2.trans (Ip e3)).trans e4
   refine Ae hx4 (AB (Aa (fun g4=>?_) fun g4=>Ns m4 fun sg oh om st5 T5 d1 d2 d3 e5 m5 s5=>?_))
   ·refine hk 3 y mo d h mi sc nn 0 0 0 st4 T4 (by omega) b1 b2 b3 c1 c2 c3 c4 (by decide) (by decide) (by decide) E4 m4 ?_
    by_cases fd:DU s
    ·obtain⟨rfl,rfl,rfl,rfl⟩:=s2.1 fd
     have hne:s.drop 10≠ []:=fun e=>g (by rw[hs3 _ rfl];exact e)
     by_cases fo:(s.drop 10).getD 0 0∈ [84,116,32]
     ·obtain⟨rfl,_⟩:=s3.pos fo
      have e:=P7 fd hne fo
      unfold SL at s4
      dsimp only at s4
      rw[List.drop_drop]at s4
      cases hc:Gf (s.drop (10+1))with
      | none=>rw[hc]at s4 e;exact s4▸B3 e
      | some p=>
       obtain⟨h',mi',sc',f',r'⟩:=p
       rw[hc]at s4 e
       dsimp only at s4 e
       obtain⟨rfl,rfl,rfl,rfl,rfl⟩:=s4
       have hr:r'=[]:=by rw[<-hs4 _ rfl];exact g4
       unfold tmO at e
       rw[if_pos hr]at e
       exact N3 _ (by decide) (by rw[e];exact fin3 _ _ _ _ _ _ _) hr
     ·obtain rfl:=s3.neg fo
      obtain rfl:T4=none:=s4
      exact B3 (P6 fd hne fo)
    ·obtain rfl:=nofd fd
     exact B3 (by rw[LA hnc fd])
   ·refine hk 4 y mo d h mi sc nn sg oh om st5 T5 (by omega) b1 b2 b3 c1 c2 c3 c4 d1 d2 d3 (E4.trans e5) m5 ?_
    by_cases fd:DU s
    ·obtain⟨rfl,rfl,rfl,rfl⟩:=s2.1 fd
     have hne:s.drop 10≠ []:=fun e=>g (by rw[hs3 _ rfl];exact e)
     by_cases fo:(s.drop 10).getD 0 0∈ [84,116,32]
     ·obtain⟨rfl,_⟩:=s3.pos fo
      have e:=P7 fd hne fo
      unfold SL at s4
      dsimp only at s4
      rw[List.drop_drop]at s4
      cases hc:Gf (s.drop (10+1))with
      | none=>
       rw[hc]at s4 e
       dsimp only at s4
       subst s4
       obtain rfl:T5=none:=s5
       exact B3 e
      | some p=>
       obtain⟨h',mi',sc',f',r'⟩:=p
       rw[hc]at s4 e
       dsimp only at s4 e
       obtain⟨rfl,rfl,rfl,rfl,rfl⟩:=s4
       have hr:r'≠ []:=fun e=>g4 (by rw[hs4 _ rfl];exact e)
       unfold tmO at e
       rw[if_neg hr]at e
       by_cases h5:T5=some []
       ·obtain⟨ls,ho,hl⟩:=s5.1 h5
        rw[ho]at e
        exact⟨fun _=>by rw[e];exact fin4 _ _ _ _ _ _ _ _ _ _ _ hl,fun h=>absurd h5 h⟩
       ·have ho:=s5.2 h5
        rw[ho]at e
        exact⟨fun h=>absurd h h5,fun _=>e⟩
     ·obtain rfl:=s3.neg fo
      obtain rfl:T4=none:=s4
      obtain rfl:T5=none:=s5
      exact B3 (P6 fd hne fo)
    ·obtain rfl:=nofd fd
     obtain rfl:T5=none:=s5
     exact B3 (by rw[LA hnc fd])
 ·have hnc:b0 s 2≠58:=fun h=>by have:=Ln (by decide) h;omega
  refine Rh hm fun y mo d st2 T2 b1 b2 b3 e2 m2 s2=>?_
  obtain⟨x3,hx3,_,hs3⟩:=m2.1.src
  refine Ae hx3 (AB (Aa (fun g=>?_) fun g=>Gr (of:=[84,116,32]) (by decide) (by decide) m2.1 fun c st3 T3 bc e3 h3 s3=>LB (m2.step e3 h3) fun h mi sc nn st4 T4 c1 c2 c3 c4 e4 m4 s4=>?_))
  ·refine hk 1 y mo d 0 0 0 0 0 0 0 st2 T2 (by omega) b1 b2 b3 (by decide) (by decide) (by decide) (by decide) (by decide) (by decide) (by decide) e2 m2 ?_
   by_cases fd:DU s
   ·obtain⟨rfl,rfl,rfl,rfl⟩:=s2.1 fd
    have h10:s.drop 10=[]:=by rw[<-hs3 _ rfl];exact g
    have e:tmP s=if okD (d2 s 0*100+d2 s 2) (d2 s 5) (d2 s 8)then((1:Int),((JD (d2 s 0*100+d2 s 2) (d2 s 5) (d2 s 8):Nat):Int),(0:Int),(0:Int),(0:Int))else HU:=by unfold tmP tmD;rw[if_pos fd,if_pos h10]
    exact N3 _ (by decide) (by rw[e];exact fin1 _ _ _) h10
   ·obtain rfl:=s2.2 fd
    exact B3 (by rw[LA hnc fd])
  ·obtain⟨x4,hx4,_,hs4⟩:=m4.1.src
   have nofd:¬DU s->T4=none:=fun fd=>by
    obtain rfl:=s2.2 fd
    obtain rfl:T3=none:=s3
    exact s4
   have E4:=(e2.trans (Ip e3)).trans e4
   refine Ae hx4 (AB (Aa (fun g4=>?_) fun g4=>Ns m4 fun sg oh om st5 T5 d1 d2 d3 e5 m5 s5=>?_))
   ·refine hk 3 y mo d h mi sc nn 0 0 0 st4 T4 (by omega) b1 b2 b3 c1 c2 c3 c4 (by decide) (by decide) (by decide) E4 m4 ?_
    by_cases fd:DU s
    ·obtain⟨rfl,rfl,rfl,rfl⟩:=s2.1 fd
     have hne:s.drop 10≠ []:=fun e=>g (by rw[hs3 _ rfl];exact e)
     by_cases fo:(s.drop 10).getD 0 0∈ [84,116,32]
     ·obtain⟨rfl,_⟩:=s3.pos fo
      have e:=P7 fd hne fo
      unfold SL at s4
      dsimp only at s4
      rw[List.drop_drop]at s4
      cases hc:Gf (s.drop (10+1))with
      | none=>rw[hc]at s4 e;exact s4▸B3 e
      | some p=>
       obtain⟨h',mi',sc',f',r'⟩:=p
       rw[hc]at s4 e
       dsimp only at s4 e
       obtain⟨rfl,rfl,rfl,rfl,rfl⟩:=s4
       have hr:r'=[]:=by rw[<-hs4 _ rfl];exact g4
       unfold tmO at e
       rw[if_pos hr]at e
       exact N3 _ (by decide) (by rw[e];exact fin3 _ _ _ _ _ _ _) hr
     ·obtain rfl:=s3.neg fo
      obtain rfl:T4=none:=s4
      exact B3 (P6 fd hne fo)
    ·obtain rfl:=nofd fd
     exact B3 (by rw[LA hnc fd])
   ·refine hk 4 y mo d h mi sc nn sg oh om st5 T5 (by omega) b1 b2 b3 c1 c2 c3 c4 d1 d2 d3 (E4.trans e5) m5 ?_
    by_cases fd:DU s
    ·obtain⟨rfl,rfl,rfl,rfl⟩:=s2.1 fd
     have hne:s.drop 10≠ []:=fun e=>g (by rw[hs3 _ rfl];exact e)
     by_cases fo:(s.drop 10).getD 0 0∈ [84,116,32]
     ·obtain⟨rfl,_⟩:=s3.pos fo
      have e:=P7 fd hne fo
      unfold SL at s4
      dsimp only at s4
      rw[List.drop_drop]at s4
      cases hc:Gf (s.drop (10+1))with
      | none=>
       rw[hc]at s4 e
       dsimp only at s4
       subst s4
       obtain rfl:T5=none:=s5
       exact B3 e
      | some p=>
       obtain⟨h',mi',sc',f',r'⟩:=p
       rw[hc]at s4 e
       dsimp only at s4 e
       obtain⟨rfl,rfl,rfl,rfl,rfl⟩:=s4
       have hr:r'≠ []:=fun e=>g4 (by rw[hs4 _ rfl];exact e)
       unfold tmO at e
       rw[if_neg hr]at e
       by_cases h5:T5=some []
       ·obtain⟨ls,ho,hl⟩:=s5.1 h5
        rw[ho]at e
        exact⟨fun _=>by rw[e];exact fin4 _ _ _ _ _ _ _ _ _ _ _ hl,fun h=>absurd h5 h⟩
       ·have ho:=s5.2 h5
        rw[ho]at e
        exact⟨fun h=>absurd h h5,fun _=>e⟩
     ·obtain rfl:=s3.neg fo
      obtain rfl:T4=none:=s4
      obtain rfl:T5=none:=s5
      exact B3 (P6 fd hne fo)
    ·obtain rfl:=nofd fd
     obtain rfl:T5=none:=s5
     exact B3 (by rw[LA hnc fd])
abbrev KT (K:Int->Int->Int->Int->Int->St->Prop) (r:TmR) (st:St):Prop:=K r.1 r.2.1 r.2.2.1 r.2.2.2.1 r.2.2.2.2 st
theorem Tt {h mi sc nn:Nat} (h1:h<100) (h2:mi<100) (h3:sc<100) (h4:nn<1000000000):
  i64.wrap ((i64.wrap ((i64.wrap ((i64.wrap ((i64.wrap ((i64.wrap (((h:Nat):Int)*60))+((mi:Nat):Int)))*60))+((sc:Nat):Int)))*1000000000))+((nn:Nat):Int))=((Fl h mi sc nn:Nat):Int):=by
 rw[Al (((h:Nat):Int)*60) (by omega) (by omega),Al (((h:Nat):Int)*60+((mi:Nat):Int)) (by omega) (by omega),Al ((((h:Nat):Int)*60+((mi:Nat):Int))*60) (by omega) (by omega),Al ((((h:Nat):Int)*60+((mi:Nat):Int))*60+((sc:Nat):Int)) (by omega) (by omega),Al (((((h:Nat):Int)*60+((mi:Nat):Int))*60+((sc:Nat):Int))*1000000000) (by omega) (by omega),Al _ (by omega) (by omega)]
 unfold Fl;omega
theorem WP {oh om:Nat} (h1:oh<100) (h2:om<100):i64.wrap ((i64.wrap (((oh:Nat):Int)*60))+((om:Nat):Int))=((oh*60+om:Nat):Int):=by
 rw[Al (((oh:Nat):Int)*60) (by omega) (by omega),Al _ (by omega) (by omega)];omega
theorem tP_ok {s:B8} (hl:s.length<=1000000) {st:St} {K:Int->Int->Int->Int->Int->St->Prop} (hk:∀st',AN st st'->KT K (tmP s) st'):Ad PR CT [.str s] [.agg [.int .i64,.int .i64,.int .i64,.int .i64],.one (.int .i64)] st K:=by
 refine MI s st K (Wp (r:=st.nb) (f:=st.nb+1) (s:=s) ?_ fun n1 y mo d h mi sc nn sg oh om st1 T a1 a2 a3 a4 a5 a6 a7 a8 a9 a10 a11 e1 m1 hF=>?_)
 ·refine⟨⟨?_,?_,hl⟩,?_,?_,?_⟩
  ·simp[St.push];omega
  ·simp[St.push]
  ·simp[St.push]
  ·simp[St.push,fcT]
  ·omega
 ·have E:AN st st1:=StX.ext (((AN.refl st).push _ _).push _ _) e1 (by
   rintro i (rfl | rfl)
   ·exact Nat.le_refl _
   ·exact Nat.le_succ _)
  obtain⟨hF1,hF2⟩:=hF
  have cell:∀i v,(fcT y mo d h mi sc nn sg oh om)[i]? =some v->Ac st1 [] (.t (.box (st.nb+1) i)) 0=some v:=fun i v hv=>by
   simp only[Ac,m1.2.2.1,Nat.add_zero];exact hv
  have c0:=cell 0 _ rfl
  have c1:=cell 1 _ rfl
  have c2:=cell 2 _ rfl
  have c3:=cell 3 _ rfl
  have c4:=cell 4 _ rfl
  have c5:=cell 5 _ rfl
  have c6:=cell 6 _ rfl
  have c7:=cell 7 _ rfl
  have c8:=cell 8 _ rfl
  have c9:=cell 9 _ rfl
  clear cell
  obtain⟨hr,t,hb,_,ht⟩:=m1.1.get
  have k0:Ac st1 [] (.t (.box st.nb 0)) 0=some (.str t):=by simp[Ac,hb]
  have k1:Ac st1 [] (.t (.box st.nb 1)) 0=some (.bool T.isNone):=by simp[Ac,hb]
  have bad:T≠some []->K 0 0 0 0 3 st1:=fun hT=>by
   have:=hk st1 E
   rw[hF2 hT]at this;exact this
  refine Ae k1 (BC (Ar (fun g=>bad fun e=>by rw[e]at g;cases g) fun g=>Ae k0 (AB (Aa (fun g1=>bad fun e=>g1 (ht [] e)) fun g1=>?_))))
  have hT:T=some []:=by
   cases T with
   | none=>cases g
   | some x=>rw[<-ht x rfl,Decidable.not_not.1 g1]
  have hV:=hF1 hT
  have hk1:=hk st1 E
  rw[hV]at hk1
  clear hF1 hF2 hV hk bad
  unfold KT N4 at hk1
  have tail:(n1≠2->okD y mo d)->∀D:Int,D=(if n1=2 then 0 else((JD y mo d:Nat):Int))->okC h mi sc/\oh<=23/\om<=59->K (n1:Nat) D (Fl h mi sc nn:Nat) (if sg=45 then-((oh*60+om:Nat):Int)else((oh*60+om:Nat):Int)) 0 st1:=fun h0 D hD h1=>by
   subst hD
   rw[if_pos ⟨h0,h1⟩]at hk1;exact hk1
  have out:(¬(okC h mi sc/\oh<=23/\om<=59)∨¬(n1≠2->okD y mo d))->K 0 0 0 0 2 st1:=fun hn=>by
   rw[if_neg (fun g=>by
    rcases hn with hn | hn
    ·exact hn g.2
    ·exact hn g.1)]at hk1
   exact hk1
  have end_:(n1≠2->okD y mo d)->∀D:Int,D=(if n1=2 then 0 else((JD y mo d:Nat):Int))->okC h mi sc/\oh<=23/\om<=59->BIf (decide (((sg:Nat):Int)=45)) (K (n1:Nat) D (Fl h mi sc nn:Nat) (i64.wrap (0-((oh*60+om:Nat):Int))) 0 st1) (K (n1:Nat) D (Fl h mi sc nn:Nat) ((oh*60+om:Nat):Int) 0 st1):=fun h0 D hD h1=>by
   have:=tail h0 D hD h1
   refine Aa (fun g=>?_) fun g=>?_
   ·rw[if_pos (by omega)]at this
    rw[Al _ (by omega) (by omega),show(0:Int)-((oh*60+om:Nat):Int)= -((oh*60+om:Nat):Int) by omega];exact this
   ·rw[if_neg (by omega)]at this;exact this
  have okc:∀{a b c:Nat},¬(23:Int)<(a:Nat)->¬(59:Int)<(b:Nat)->¬(59:Int)<(c:Nat)->okC a b c:=fun x y z=>⟨by omega,by omega,by omega⟩
  refine Aa (fun g2=>?_) fun g2=>?_
  ·refine Ae c0 (Am (Ae c1 (Am (Ae c2 (Am (cday_ok (by omega) (by omega) (by omega) ?_))))))
   by_cases hD:okD y mo d
   ·rw[if_pos hD,if_pos hD]
    refine Aa (fun g=>absurd rfl g) fun _=>Ae c3 (Am (Aa (fun g=>out (.inl fun k=>by have:=k.1.1;omega)) fun k1=>Ae c4 (Am (Aa (fun g=>out (.inl fun k=>by have:=k.1.2.1;omega)) fun k2=>Ae c5 (Am (Aa (fun g=>out (.inl fun k=>by have:=k.1.2.2;omega)) fun k3=>Ae c8 (Am (Aa (fun g=>out (.inl fun k=>by have:=k.2.1;omega)) fun k4=>Ae c9 (Am (Aa (fun g=>out (.inl fun k=>by have:=k.2.2;omega)) fun k5=>?_))))))))))
    refine Ae c3 (Am (Ae c4 (Am (Ae c5 (Am (Ae c6 (Am (Ae c8 (Am (Ae c9 (Am (Ae c7 (Am ?_)))))))))))))
    rw[Tt a5 a6 a7 a8,WP a10 a11]
    exact end_ (fun _=>hD) _ (by rw[if_neg (by omega)]) ⟨okc k1 k2 k3,by omega,by omega⟩
   ·rw[if_neg hD,if_neg hD]
    exact Aa (fun _=>out (.inr fun k=>hD (k (by omega)))) fun g=>absurd (by decide) g
  ·refine Ae c3 (Am (Aa (fun g=>out (.inl fun k=>by have:=k.1.1;omega)) fun k1=>Ae c4 (Am (Aa (fun g=>out (.inl fun k=>by have:=k.1.2.1;omega)) fun k2=>Ae c5 (Am (Aa (fun g=>out (.inl fun k=>by have:=k.1.2.2;omega)) fun k3=>Ae c8 (Am (Aa (fun g=>out (.inl fun k=>by have:=k.2.1;omega)) fun k4=>Ae c9 (Am (Aa (fun g=>out (.inl fun k=>by have:=k.2.2;omega)) fun k5=>?_))))))))))
   refine Ae c3 (Am (Ae c4 (Am (Ae c5 (Am (Ae c6 (Am (Ae c8 (Am (Ae c9 (Am (Ae c7 (Am ?_)))))))))))))
   rw[Tt a5 a6 a7 a8,WP a10 a11]
   exact end_ (fun h=>absurd (by omega) h) _ (by rw[if_pos (by omega)]) ⟨okc k1 k2 k3,by omega,by omega⟩
end Go.TVF
