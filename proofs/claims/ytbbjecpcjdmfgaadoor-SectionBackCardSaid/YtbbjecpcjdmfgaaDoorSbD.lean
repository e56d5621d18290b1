/- What the laws below rest on: a framework for Go programs, and contracts of the functions that they reach. -/
import Derived.Test.YtbbjecpcjdmfgaaDoorSbC
import Derived.Lib.DecodeN
set_option maxRecDepth 20000
set_option linter.unusedVariables false
set_option linter.unusedSimpArgs false
namespace Go.TVF
open Go.IntKind(i64 u8)
open Go Go.Proofs
theorem LV (v_0:Int) (b:Bool) (v_2:Bool) (v_3:B8) (v_4:Int) (v_5:Int) (v_6:Int) (v_7:Int) (v_8:Int) (v_9:B8) (v_10:TV) (v_11:TV) (v_12:TV) (left:Int) (st:St) (K:Int->St->Prop) (h:BId (left<=1) (K 1 st) (CallT PR DY [(.agg (cV v_0 b v_2 v_3 v_4 v_5 v_6 v_7 v_8 v_9 v_10 v_11 v_12))] [.one .tv] st (fun (v1:TV) i=>need (isSl v1) (∃(I1:Int->Int->Int->TV->Int->St->Prop) (M1:Int->Int->Int->TV->Int->St->Nat),(I1 1 0 left v1 ((lenS v1:Int)) i)/\∀d c a b f e,I1 d c a b f e->(BId (c<f) (((0<=c/\c<(lenZ 13 b:Int))/\Ar ((Aj e [] (.t (ixT 13 b c.toNat)) 0 13).map TV.agg) (fun (x1:TV)=>BF [.int .i64,.bool,.bool,.str,.int .i64,.int .i64,.int .i64,.int .i64,.int .i64,.str,.tv,.tv,.tv] x1 (fun (n1:Int) (b1 b2:Bool) (s1:B8) (n2 n3 n4 n5 n6:Int) (s2:B8) (v2 v3 v4:TV)=>need (List.all (cV n1 b1 b2 s1 n2 n3 n4 n5 n6 s2 v2 v3 v4) At) (CallT PR DZ [(.agg (cV n1 b1 b2 s1 n2 n3 n4 n5 n6 s2 v2 v3 v4)),(.int .i64 (i64.wrap (a-(1:Int))))] [.one (.int .i64)] e (fun (n7:Int) g=>(I1 ((max d (i64.wrap ((1:Int)+n7)))) ((i64.wrap (c+(1:Int)))) a b f g/\M1 ((max d (i64.wrap ((1:Int)+n7)))) ((i64.wrap (c+(1:Int)))) a b f g<M1 d c a b f e))))))) (K d e)))))):CallT PR DZ [(.agg (cV v_0 b v_2 v_3 v_4 v_5 v_6 v_7 v_8 v_9 v_10 v_11 v_12)),.int .i64 left] [.one (.int .i64)] st K:=
 Ag (cfg:=⟨[2,7],[],[]⟩) (h:=(.seq .none (.seq .none (.seq .none (.seq (.seq .none (.block (.loop ⟨[(5,.int .i64),(14,.int .i64),(1,.int .i64),(12,.tv),(13,.int .i64)],[],[],[]⟩ .none))) .none))))) mixed (fun _ _=>Tryd.call62 _ _) Tryd.func62 (by kernel_rfl) (by kernel_rfl) h
theorem C6 (s:TV) (f:TV) (st:St) (K:Int->St->Prop) (h:need (isSl s) (∃(I1:Int->TV->TV->Int->St->Prop) (M1:Int->TV->TV->Int->St->Nat),(I1 0 s f ((lenS s:Int)) st)/\∀a b c d e,I1 a b c d e->(BId (a<d) (((0<=a/\a<(lenZ 1 b:Int))/\Ar (Ac e [] (.t (ixT 1 b a.toNat)) 0) (fun (x1:TV)=>Bj .str x1 (fun (s1:B8)=>Et PR c [.str s1] [.one .bool] e (fun (b1:Bool) g=>BIf b1 (K a g) ((I1 ((i64.wrap (a+(1:Int)))) b c d g/\M1 ((i64.wrap (a+(1:Int)))) b c d g<M1 a b c d e))))))) (K (-1) e)))):CallT PR BC [s,f] [.one (.int .i64)] st K:=
 Ag (cfg:=⟨[],[],[]⟩) (h:=(.seq .none (.seq (.seq .none (.block (.loop ⟨[(8,.int .i64),(0,.tv),(1,.tv),(7,.int .i64)],[],[],[]⟩ .none))) .none))) mixed (fun _ _=>Tryd.call63 _ _) Tryd.func63 (by kernel_rfl) (by kernel_rfl) h
theorem Ch (s:TV) (f:TV) (st:St) (K:Int->St->Prop) (h:need (isSl s) (∃(I1:Int->TV->TV->Int->St->Prop) (M1:Int->TV->TV->Int->St->Nat),(I1 0 s f ((lenS s:Int)) st)/\∀a b c d e,I1 a b c d e->(BId (a<d) (((0<=a/\a<(lenZ 13 b:Int))/\Ar ((Aj e [] (.t (ixT 13 b a.toNat)) 0 13).map TV.agg) (fun (x1:TV)=>BF [.int .i64,.bool,.bool,.str,.int .i64,.int .i64,.int .i64,.int .i64,.int .i64,.str,.tv,.tv,.tv] x1 (fun (n1:Int) (b1 b2:Bool) (s1:B8) (n2 n3 n4 n5 n6:Int) (s2:B8) (v1 v2 v3:TV)=>Et PR c [(.agg (cV n1 b1 b2 s1 n2 n3 n4 n5 n6 s2 v1 v2 v3))] [.one .bool] e (fun (b3:Bool) g=>BIf b3 (K a g) ((I1 ((i64.wrap (a+(1:Int)))) b c d g/\M1 ((i64.wrap (a+(1:Int)))) b c d g<M1 a b c d e))))))) (K (-1) e)))):CallT PR Bg [s,f] [.one (.int .i64)] st K:=
 Ag (cfg:=⟨[],[],[]⟩) (h:=(.seq .none (.seq (.seq .none (.block (.loop ⟨[(8,.int .i64),(0,.tv),(1,.tv),(7,.int .i64)],[],[],[]⟩ .none))) .none))) mixed (fun _ _=>Tryd.call65 _ _) Tryd.func65 (by kernel_rfl) (by kernel_rfl) h
theorem L0 (s:B8) (st:St) (K:Bool->St->Prop) (h:∃(I1:Int->B8->Int->St->Prop) (M1:Int->B8->Int->St->Nat),(I1 0 s ((s.length:Int)) st)/\∀a b d c,I1 a b d c->(BId (a<d) (((0<=a/\a<(b.length:Int))/\BId (((List.getD b a.toNat 0).toNat:Int)<(48:Int)) (K false c) (((0<=a/\a<(b.length:Int))/\BId ((57:Int)<((List.getD b a.toNat 0).toNat:Int)) (K false c) ((I1 ((i64.wrap (a+(1:Int)))) b d c/\M1 ((i64.wrap (a+(1:Int)))) b d c<M1 a b d c)))))) (K true c))):CallT PR FN [.str s] [.one .bool] st K:=
 Ag (cfg:=⟨[],[],[]⟩) (h:=(.seq .none (.seq (.seq .none (.block (.loop ⟨[(6,.int .i64),(0,.str),(5,.int .i64)],[],[],[]⟩ .none))) .none))) mixed (fun _ _=>Tryd.call66 _ _) Tryd.func66 (by kernel_rfl) (by kernel_rfl) h
theorem LZ (s:B8) (atx:Int) (st:St) (K:Int->Int->St->Prop) (h:BId (atx<0) (K 0 0 st) (BId ((s.length:Int)<=atx) (K 0 0 st) (((0<=atx/\atx<(s.length:Int))/\CallT PR Hn [(.int .u8 ((List.getD s atx.toNat 0).toNat:Int))] [.one (.int .i64),.one (.int .i64)] st (fun (n1 n2:Int) g=>BId (n1=0) (K 0 0 g) (BId ((i64.wrap ((s.length:Int)-atx))<n1) (K 0 0 g) (∃(I1:Int->Int->B8->Int->Int->St->Prop) (M1:Int->Int->B8->Int->Int->St->Nat),(I1 n2 1 s atx n1 g)/\∀e b c a d f,I1 e b c a d f->(BId (b<d) (((0<=(i64.wrap (a+b))/\(i64.wrap (a+b))<(c.length:Int))/\BId ((Ct .and .u8 ((List.getD c (Int.toNat (i64.wrap (a+b))) 0).toNat:Int) (192:Int))≠(128:Int)) (K 0 0 f) ((I1 ((Ct .or .i64 (i64.wrap (e*2^(min (Int.toNat (6:Int)) (IntKind.bits .i64)))) (i64.wrap (Ct .and .u8 ((List.getD c (Int.toNat (i64.wrap (a+b))) 0).toNat:Int) (63:Int))))) ((i64.wrap (b+(1:Int)))) c a d f/\M1 ((Ct .or .i64 (i64.wrap (e*2^(min (Int.toNat (6:Int)) (IntKind.bits .i64)))) (i64.wrap (Ct .and .u8 ((List.getD c (Int.toNat (i64.wrap (a+b))) 0).toNat:Int) (63:Int))))) ((i64.wrap (b+(1:Int)))) c a d f<M1 e b c a d f)))) (CallT PR FL [.int .i64 e] [.one .bool] f (fun (b1:Bool) j=>BIf (!b1) (K 0 0 j) (CallT PR GH [.int .i64 e] [.one (.int .i64)] j (fun (n3:Int) i=>BId (n3≠d) (K 0 0 i) (K e d i))))))))))))):CallT PR FM [.str s,.int .i64 atx] [.one (.int .i64),.one (.int .i64)] st K:=
 Ag (cfg:=⟨[],[],[]⟩) (h:=(.seq .none (.seq .none (.seq .none (.seq .none (.seq (.seq .none (.block (.loop ⟨[(4,.int .i64),(7,.int .i64),(0,.str),(1,.int .i64),(6,.int .i64)],[],[],[]⟩ .none))) .none)))))) mixed (fun _ _=>Tryd.call68 _ _) Tryd.func68 (by kernel_rfl) (by kernel_rfl) h
theorem BM (data:TV) (n:Int) (cmp:TV) (st:St) (K:St->Prop) (h:∃(I1:Int->Int->TV->Int->TV->Int->St->Prop) (M1:Int->Int->TV->Int->TV->Int->St->Nat),(I1 0 20 data n cmp 20 st)/\∀t k f p g b u,I1 t k f p g b u->(BId (k<=p) (CallT PR AM [f,.int .i64 t,.int .i64 k,g] [] u (fun (w:St)=>(I1 k ((i64.wrap (k+b))) f p g b w/\M1 k ((i64.wrap (k+b))) f p g b w<M1 t k f p g b u))) (CallT PR AM [f,.int .i64 t,.int .i64 p,g] [] u (fun (y:St)=>∃(I2:Int->TV->Int->TV->St->Prop) (M2:Int->TV->Int->TV->St->Nat),(I2 b f p g y)/\∀c j s m r,I2 c j s m r->(BId (c<s) (∃(I3:Int->Int->TV->Int->TV->Int->St->Prop) (M3:Int->Int->TV->Int->TV->Int->St->Nat),(I3 0 ((i64.wrap ((2:Int)*c))) j s m c r)/\∀o l d i e a q,I3 o l d i e a q->(BId (l<=i) (CallT PR Ad [d,.int .i64 o,(.int .i64 (i64.wrap (o+a))),.int .i64 l,e] [] q (fun (v:St)=>(I3 l ((i64.wrap (l+(i64.wrap ((2:Int)*a))))) d i e a v/\M3 l ((i64.wrap (l+(i64.wrap ((2:Int)*a))))) d i e a v<M3 o l d i e a q))) (BId ((i64.wrap (o+a))<i) (CallT PR Ad [d,.int .i64 o,(.int .i64 (i64.wrap (o+a))),.int .i64 i,e] [] q (fun (x:St)=>(I2 ((i64.wrap (a*(2:Int)))) d i e x/\M2 ((i64.wrap (a*(2:Int)))) d i e x<M2 c j s m r))) ((I2 ((i64.wrap (a*(2:Int)))) d i e q/\M2 ((i64.wrap (a*(2:Int)))) d i e q<M2 c j s m r))))) (K r)))))):CallT PR AU [data,.int .i64 n,cmp] [] st K:=
 Ag (cfg:=⟨[],[],[]⟩) (h:=(.seq .none (.seq .none (.seq (.block (.loop ⟨[(7,.int .i64),(8,.int .i64),(0,.tv),(1,.int .i64),(2,.tv),(6,.int .i64)],[],[],[]⟩ .none)) (.seq .none (.block (.loop ⟨[(6,.int .i64),(0,.tv),(1,.int .i64),(2,.tv)],[],[],[]⟩ (.seq .none (.block (.seq .none (.seq (.block (.loop ⟨[(7,.int .i64),(8,.int .i64),(0,.tv),(1,.int .i64),(2,.tv),(6,.int .i64)],[],[],[]⟩ .none)) .none))))))))))) mixed (fun _ _=>Tryd.call69 _ _) Tryd.func69 (by kernel_rfl) (by kernel_rfl) h
theorem LT (v_0:Int) (b:Bool) (v_2:Bool) (v_3:B8) (v_4:Int) (v_5:Int) (v_6:Int) (v_7:Int) (v_8:Int) (v_9:B8) (v_10:TV) (v_11:TV) (v_12:TV) (st:St) (K:TV->St->Prop) (h:CallT PR A0 [v_11] [.one .tv] st (fun (v1:TV) g=>need (isSl v_12) (∃(I1:TV->Int->TV->Int->St->Prop) (M1:TV->Int->TV->Int->St->Nat),(I1 v1 0 v_12 ((lenS v_12:Int)) g)/\∀e a b d c,I1 e a b d c->(BId (a<d) (((0<=a/\a<(lenZ 14 b:Int))/\Ar ((Aj c [] (.t (ixT 14 b a.toNat)) 0 14).map TV.agg) (fun (x1:TV)=>BF [.str,.int .i64,.bool,.bool,.str,.int .i64,.int .i64,.int .i64,.int .i64,.int .i64,.str,.tv,.tv,.tv] x1 (fun (s1:B8) (n1:Int) (b1 b2:Bool) (s2:B8) (n2 n3 n4 n5 n6:Int) (s3:B8) (v2 v3 v4:TV)=>need (List.all [.str s1,.int .i64 n1,.bool b1,.bool b2,.str s2,.int .i64 n2,.int .i64 n3,.int .i64 n4,.int .i64 n5,.int .i64 n6,.str s3,v2,v3,v4] At) (need (List.all (cV n1 b1 b2 s2 n2 n3 n4 n5 n6 s3 v2 v3 v4) At) (Cx 37 13 168 e 1 (cV n1 b1 b2 s2 n2 n3 n4 n5 n6 s3 v2 v3 v4) c (fun (v5:TV) f=>(I1 v5 ((i64.wrap (a+(1:Int)))) b d f/\M1 v5 ((i64.wrap (a+(1:Int)))) b d f<M1 e a b d c)))))))) (K e c))))):CallT PR DY [(.agg (cV v_0 b v_2 v_3 v_4 v_5 v_6 v_7 v_8 v_9 v_10 v_11 v_12))] [.one .tv] st K:=
 Ag (cfg:=⟨[1,5],[],[]⟩) (h:=(.seq .none (.seq .none (.seq (.seq .none (.block (.loop ⟨[(3,.tv),(12,.int .i64),(10,.tv),(11,.int .i64)],[],[],[]⟩ .none))) .none)))) mixed (fun _ _=>Tryd.call71 _ _) Tryd.func71 (by kernel_rfl) (by kernel_rfl) h
theorem Of (b:Int) (st:St) (K:Int->Int->St->Prop) (h:BId (b<128) (K 1 ((i64.wrap b)) st) (BId ((192:Int)<=b) (BId (b<224) (K 2 ((i64.wrap (Ct .and .u8 b (31:Int)))) st) (BId ((224:Int)<=b) (BId (b<240) (K 3 ((i64.wrap (Ct .and .u8 b (15:Int)))) st) (BId ((240:Int)<=b) (BId (b<248) (K 4 ((i64.wrap (Ct .and .u8 b (7:Int)))) st) (K 0 0 st)) (K 0 0 st))) (BId ((240:Int)<=b) (BId (b<248) (K 4 ((i64.wrap (Ct .and .u8 b (7:Int)))) st) (K 0 0 st)) (K 0 0 st)))) (BId ((224:Int)<=b) (BId (b<240) (K 3 ((i64.wrap (Ct .and .u8 b (15:Int)))) st) (BId ((240:Int)<=b) (BId (b<248) (K 4 ((i64.wrap (Ct .and .u8 b (7:Int)))) st) (K 0 0 st)) (K 0 0 st))) (BId ((240:Int)<=b) (BId (b<248) (K 4 ((i64.wrap (Ct .and .u8 b (7:Int)))) st) (K 0 0 st)) (K 0 0 st))))):CallT PR Hn [.int .u8 b] [.one (.int .i64),.one (.int .i64)] st K:=
 Ag (cfg:=⟨[],[],[]⟩) (h:= .none) mixed (fun _ _=>Tryd.call77 _ _) Tryd.func77 (by kernel_rfl) (by kernel_rfl) h
theorem LY (r:Int) (st:St) (K:Bool->St->Prop) (h:BId ((0:Int)<=r) (BId (r<=1114111) (BId (r<55296) (K true st) (K ((decide ((57343:Int)<r))) st)) (K false st)) (K false st)):CallT PR FL [.int .i64 r] [.one .bool] st K:=
 Ag (cfg:=⟨[],[],[]⟩) (h:= .none) mixed (fun _ _=>Tryd.call78 _ _) Tryd.func78 (by kernel_rfl) (by kernel_rfl) h
theorem M8 (r:Int) (st:St) (K:Int->St->Prop) (h:BId (r<128) (K 1 st) (BId (r<2048) (K 2 st) (BId (r<65536) (K 3 st) (K 4 st)))):CallT PR GH [.int .i64 r] [.one (.int .i64)] st K:=
 Ag (cfg:=⟨[],[],[]⟩) (h:= .none) mixed (fun _ _=>Tryd.call79 _ _) Tryd.func79 (by kernel_rfl) (by kernel_rfl) h
theorem Bm (data:TV) (a:Int) (b:Int) (cmp:TV) (st:St) (K:St->Prop) (h:∃(I1:Int->TV->Int->Int->TV->St->Prop) (M1:Int->TV->Int->Int->TV->St->Nat),(I1 ((i64.wrap (a+(1:Int)))) data a b cmp st)/\∀m f q n k p,I1 m f q n k p->(BId (m<n) (∃(I2:Int->TV->Int->Int->TV->Int->St->Prop) (M2:Int->TV->Int->Int->TV->Int->St->Nat),(I2 m f q n k m p)/\∀d c g j e i l,I2 d c g j e i l->(BId (g<d) (((0<=d/\d<(lenZ 14 c:Int))/\Ar ((Aj l [] (.t (ixT 14 c d.toNat)) 0 14).map TV.agg) (fun (x1:TV)=>BF [.str,.int .i64,.bool,.bool,.str,.int .i64,.int .i64,.int .i64,.int .i64,.int .i64,.str,.tv,.tv,.tv] x1 (fun (s1:B8) (n1:Int) (b1 b2:Bool) (s2:B8) (n2 n3 n4 n5 n6:Int) (s3:B8) (v1 v2 v3:TV)=>((0<=(i64.wrap (d-(1:Int)))/\(i64.wrap (d-(1:Int)))<(lenZ 14 c:Int))/\Ar ((Aj l [] (.t (ixT 14 c (Int.toNat (i64.wrap (d-(1:Int)))))) 0 14).map TV.agg) (fun (x2:TV)=>BF [.str,.int .i64,.bool,.bool,.str,.int .i64,.int .i64,.int .i64,.int .i64,.int .i64,.str,.tv,.tv,.tv] x2 (fun (s4:B8) (n7:Int) (b3 b4:Bool) (s5:B8) (n8 n9 c3 c2 c1:Int) (s6:B8) (v4 v5 v6:TV)=>Et PR e [(.agg [.str s1,.int .i64 n1,.bool b1,.bool b2,.str s2,.int .i64 n2,.int .i64 n3,.int .i64 n4,.int .i64 n5,.int .i64 n6,.str s3,v1,v2,v3]),(.agg [.str s4,.int .i64 n7,.bool b3,.bool b4,.str s5,.int .i64 n8,.int .i64 n9,.int .i64 c3,.int .i64 c2,.int .i64 c1,.str s6,v4,v5,v6])] [.one (.int .i64)] l (fun (b9:Int) o=>BId (b9<0) (((0<=(i64.wrap (d-(1:Int)))/\(i64.wrap (d-(1:Int)))<(lenZ 14 c:Int))/\Ar ((Aj o [] (.t (ixT 14 c (Int.toNat (i64.wrap (d-(1:Int)))))) 0 14).map TV.agg) (fun (x3:TV)=>BF [.str,.int .i64,.bool,.bool,.str,.int .i64,.int .i64,.int .i64,.int .i64,.int .i64,.str,.tv,.tv,.tv] x3 (fun (s7:B8) (a4:Int) (b5 b6:Bool) (s8:B8) (a5 a9 a1 a0 a7:Int) (s9:B8) (v7 v8 v9:TV)=>((0<=d/\d<(lenZ 14 c:Int))/\Ar ((Aj o [] (.t (ixT 14 c d.toNat)) 0 14).map TV.agg) (fun (x4:TV)=>BF [.str,.int .i64,.bool,.bool,.str,.int .i64,.int .i64,.int .i64,.int .i64,.int .i64,.str,.tv,.tv,.tv] x4 (fun (a8:B8) (r:Int) (b7 b8:Bool) (y:B8) (x u a3 a6 s:Int) (b0:B8) (w a2 z:TV)=>((0<=d/\d<(lenZ 14 c:Int))/\need (List.all [.str s7,.int .i64 a4,.bool b5,.bool b6,.str s8,.int .i64 a5,.int .i64 a9,.int .i64 a1,.int .i64 a0,.int .i64 a7,.str s9,v7,v8,v9] At) (stB o (ixT 14 c d.toNat) [.str s7,.int .i64 a4,.bool b5,.bool b6,.str s8,.int .i64 a5,.int .i64 a9,.int .i64 a1,.int .i64 a0,.int .i64 a7,.str s9,v7,v8,v9] (fun c0=>((0<=(i64.wrap (d-(1:Int)))/\(i64.wrap (d-(1:Int)))<(lenZ 14 c:Int))/\need (List.all [.str a8,.int .i64 r,.bool b7,.bool b8,.str y,.int .i64 x,.int .i64 u,.int .i64 a3,.int .i64 a6,.int .i64 s,.str b0,w,a2,z] At) (stB c0 (ixT 14 c (Int.toNat (i64.wrap (d-(1:Int))))) [.str a8,.int .i64 r,.bool b7,.bool b8,.str y,.int .i64 x,.int .i64 u,.int .i64 a3,.int .i64 a6,.int .i64 s,.str b0,w,a2,z] (fun v=>(I2 ((i64.wrap (d-(1:Int)))) c g j e i v/\M2 ((i64.wrap (d-(1:Int)))) c g j e i v<M2 d c g j e i l)))))))))))))) ((I1 ((i64.wrap (i+(1:Int)))) c g j e o/\M1 ((i64.wrap (i+(1:Int)))) c g j e o<M1 m f q n k p)))))))))) ((I1 ((i64.wrap (i+(1:Int)))) c g j e l/\M1 ((i64.wrap (i+(1:Int)))) c g j e l<M1 m f q n k p)))) (K p))):CallT PR AM [data,.int .i64 a,.int .i64 b,cmp] [] st K:=
 Ag (cfg:=⟨[],[],[26,31]⟩) (h:=(.seq .none (.block (.loop ⟨[(8,.int .i64),(0,.tv),(1,.int .i64),(2,.int .i64),(3,.tv)],[],[],[]⟩ (.seq .none (.seq (.block (.seq .none (.block (.loop ⟨[(9,.int .i64),(0,.tv),(1,.int .i64),(2,.int .i64),(3,.tv),(8,.int .i64)],[],[],[]⟩ .none)))) .none)))))) mixed (fun _ _=>Tryd.call80 _ _) Tryd.func80 (by kernel_rfl) (by kernel_rfl) h
theorem A4 (data:TV) (a:Int) (m:Int) (b:Int) (cmp:TV) (st:St) (K:St->Prop) (h:BId ((i64.wrap (m-a))=(1:Int)) (∃(I1:Int->Int->TV->Int->TV->St->Prop) (M1:Int->Int->TV->Int->TV->St->Nat),(I1 m b data a cmp st)/\∀w z k a1 s a6,I1 w z k a1 s a6->(BId (w<z) (((0<=(i64.wrap (Int.fdiv (IntKind.u64.wrap (i64.wrap (w+z))) (2^(min (Int.toNat (1:Int)) (IntKind.bits .u64)))))/\(i64.wrap (Int.fdiv (IntKind.u64.wrap (i64.wrap (w+z))) (2^(min (Int.toNat (1:Int)) (IntKind.bits .u64)))))<(lenZ 14 k:Int))/\Ar ((Aj a6 [] (.t (ixT 14 k (Int.toNat (i64.wrap (Int.fdiv (IntKind.u64.wrap (i64.wrap (w+z))) (2^(min (Int.toNat (1:Int)) (IntKind.bits .u64)))))))) 0 14).map TV.agg) (fun (x1:TV)=>BF [.str,.int .i64,.bool,.bool,.str,.int .i64,.int .i64,.int .i64,.int .i64,.int .i64,.str,.tv,.tv,.tv] x1 (fun (s1:B8) (n1:Int) (b1 b2:Bool) (s2:B8) (n2 n3 n4 n5 n6:Int) (s3:B8) (v1 v2 v3:TV)=>((0<=a1/\a1<(lenZ 14 k:Int))/\Ar ((Aj a6 [] (.t (ixT 14 k a1.toNat)) 0 14).map TV.agg) (fun (x2:TV)=>BF [.str,.int .i64,.bool,.bool,.str,.int .i64,.int .i64,.int .i64,.int .i64,.int .i64,.str,.tv,.tv,.tv] x2 (fun (s4:B8) (n7:Int) (b3 b4:Bool) (s5:B8) (n8 n9 m0 k8 m5:Int) (s6:B8) (v4 v5 v6:TV)=>Et PR s [(.agg [.str s1,.int .i64 n1,.bool b1,.bool b2,.str s2,.int .i64 n2,.int .i64 n3,.int .i64 n4,.int .i64 n5,.int .i64 n6,.str s3,v1,v2,v3]),(.agg [.str s4,.int .i64 n7,.bool b3,.bool b4,.str s5,.int .i64 n8,.int .i64 n9,.int .i64 m0,.int .i64 k8,.int .i64 m5,.str s6,v4,v5,v6])] [.one (.int .i64)] a6 (fun (j3:Int) c8=>BId (j3<0) ((I1 ((i64.wrap ((i64.wrap (Int.fdiv (IntKind.u64.wrap (i64.wrap (w+z))) (2^(min (Int.toNat (1:Int)) (IntKind.bits .u64)))))+(1:Int)))) z k a1 s c8/\M1 ((i64.wrap ((i64.wrap (Int.fdiv (IntKind.u64.wrap (i64.wrap (w+z))) (2^(min (Int.toNat (1:Int)) (IntKind.bits .u64)))))+(1:Int)))) z k a1 s c8<M1 w z k a1 s a6)) ((I1 w ((i64.wrap (Int.fdiv (IntKind.u64.wrap (i64.wrap (w+z))) (2^(min (Int.toNat (1:Int)) (IntKind.bits .u64)))))) k a1 s c8/\M1 w ((i64.wrap (Int.fdiv (IntKind.u64.wrap (i64.wrap (w+z))) (2^(min (Int.toNat (1:Int)) (IntKind.bits .u64)))))) k a1 s c8<M1 w z k a1 s a6)))))))))) (∃(I2:Int->TV->Int->St->Prop) (M2:Int->TV->Int->St->Nat),(I2 a1 k w a6)/\∀q n c2 a8,I2 q n c2 a8->(BId (q<(i64.wrap (c2-(1:Int)))) (((0<=(i64.wrap (q+(1:Int)))/\(i64.wrap (q+(1:Int)))<(lenZ 14 n:Int))/\Ar ((Aj a8 [] (.t (ixT 14 n (Int.toNat (i64.wrap (q+(1:Int)))))) 0 14).map TV.agg) (fun (x3:TV)=>BF [.str,.int .i64,.bool,.bool,.str,.int .i64,.int .i64,.int .i64,.int .i64,.int .i64,.str,.tv,.tv,.tv] x3 (fun (s7:B8) (h7:Int) (b5 b6:Bool) (s8:B8) (f4 f8 d8 f2 g5:Int) (s9:B8) (v7 v8 v9:TV)=>((0<=q/\q<(lenZ 14 n:Int))/\Ar ((Aj a8 [] (.t (ixT 14 n q.toNat)) 0 14).map TV.agg) (fun (x4:TV)=>BF [.str,.int .i64,.bool,.bool,.str,.int .i64,.int .i64,.int .i64,.int .i64,.int .i64,.str,.tv,.tv,.tv] x4 (fun (e2:B8) (e3:Int) (b7 b8:Bool) (f0:B8) (e9 g0 d9 f6 g7:Int) (i1:B8) (g9 h6 h0:TV)=>((0<=q/\q<(lenZ 14 n:Int))/\need (List.all [.str s7,.int .i64 h7,.bool b5,.bool b6,.str s8,.int .i64 f4,.int .i64 f8,.int .i64 d8,.int .i64 f2,.int .i64 g5,.str s9,v7,v8,v9] At) (stB a8 (ixT 14 n q.toNat) [.str s7,.int .i64 h7,.bool b5,.bool b6,.str s8,.int .i64 f4,.int .i64 f8,.int .i64 d8,.int .i64 f2,.int .i64 g5,.str s9,v7,v8,v9] (fun j5=>((0<=(i64.wrap (q+(1:Int)))/\(i64.wrap (q+(1:Int)))<(lenZ 14 n:Int))/\need (List.all [.str e2,.int .i64 e3,.bool b7,.bool b8,.str f0,.int .i64 e9,.int .i64 g0,.int .i64 d9,.int .i64 f6,.int .i64 g7,.str i1,g9,h6,h0] At) (stB j5 (ixT 14 n (Int.toNat (i64.wrap (q+(1:Int))))) [.str e2,.int .i64 e3,.bool b7,.bool b8,.str f0,.int .i64 e9,.int .i64 g0,.int .i64 d9,.int .i64 f6,.int .i64 g7,.str i1,g9,h6,h0] (fun e7=>(I2 ((i64.wrap (q+(1:Int)))) n c2 e7/\M2 ((i64.wrap (q+(1:Int)))) n c2 e7<M2 q n c2 a8)))))))))))))) (K a8))))) (BId ((i64.wrap (b-m))=(1:Int)) (∃(I3:Int->Int->TV->Int->TV->St->Prop) (M3:Int->Int->TV->Int->TV->St->Nat),(I3 a m data m cmp st)/\∀u y j a0 v a5,I3 u y j a0 v a5->(BId (u<y) (((0<=a0/\a0<(lenZ 14 j:Int))/\Ar ((Aj a5 [] (.t (ixT 14 j a0.toNat)) 0 14).map TV.agg) (fun (x5:TV)=>BF [.str,.int .i64,.bool,.bool,.str,.int .i64,.int .i64,.int .i64,.int .i64,.int .i64,.str,.tv,.tv,.tv] x5 (fun (o0:B8) (k7:Int) (b9 o8:Bool) (o1:B8) (q1 o3 m3 l9 j7:Int) (m6:B8) (p7 j4 q3:TV)=>((0<=(i64.wrap (Int.fdiv (IntKind.u64.wrap (i64.wrap (u+y))) (2^(min (Int.toNat (1:Int)) (IntKind.bits .u64)))))/\(i64.wrap (Int.fdiv (IntKind.u64.wrap (i64.wrap (u+y))) (2^(min (Int.toNat (1:Int)) (IntKind.bits .u64)))))<(lenZ 14 j:Int))/\Ar ((Aj a5 [] (.t (ixT 14 j (Int.toNat (i64.wrap (Int.fdiv (IntKind.u64.wrap (i64.wrap (u+y))) (2^(min (Int.toNat (1:Int)) (IntKind.bits .u64)))))))) 0 14).map TV.agg) (fun (x6:TV)=>BF [.str,.int .i64,.bool,.bool,.str,.int .i64,.int .i64,.int .i64,.int .i64,.int .i64,.str,.tv,.tv,.tv] x6 (fun (o9:B8) (p2:Int) (o5 p3:Bool) (p6:B8) (p9 k2 o6 p1 p8:Int) (j8:B8) (q2 m1 l3:TV)=>Et PR v [(.agg [.str o0,.int .i64 k7,.bool b9,.bool o8,.str o1,.int .i64 q1,.int .i64 o3,.int .i64 m3,.int .i64 l9,.int .i64 j7,.str m6,p7,j4,q3]),(.agg [.str o9,.int .i64 p2,.bool o5,.bool p3,.str p6,.int .i64 p9,.int .i64 k2,.int .i64 o6,.int .i64 p1,.int .i64 p8,.str j8,q2,m1,l3])] [.one (.int .i64)] a5 (fun (j6:Int) c7=>BIf (!(decide (j6<0))) ((I3 ((i64.wrap ((i64.wrap (Int.fdiv (IntKind.u64.wrap (i64.wrap (u+y))) (2^(min (Int.toNat (1:Int)) (IntKind.bits .u64)))))+(1:Int)))) y j a0 v c7/\M3 ((i64.wrap ((i64.wrap (Int.fdiv (IntKind.u64.wrap (i64.wrap (u+y))) (2^(min (Int.toNat (1:Int)) (IntKind.bits .u64)))))+(1:Int)))) y j a0 v c7<M3 u y j a0 v a5)) ((I3 u ((i64.wrap (Int.fdiv (IntKind.u64.wrap (i64.wrap (u+y))) (2^(min (Int.toNat (1:Int)) (IntKind.bits .u64)))))) j a0 v c7/\M3 u ((i64.wrap (Int.fdiv (IntKind.u64.wrap (i64.wrap (u+y))) (2^(min (Int.toNat (1:Int)) (IntKind.bits .u64)))))) j a0 v c7<M3 u y j a0 v a5)))))))))) (∃(I4:Int->TV->Int->St->Prop) (M4:Int->TV->Int->St->Nat),(I4 a0 j u a5)/\∀p o c1 a9,I4 p o c1 a9->(BId (c1<p) (((0<=(i64.wrap (p-(1:Int)))/\(i64.wrap (p-(1:Int)))<(lenZ 14 o:Int))/\Ar ((Aj a9 [] (.t (ixT 14 o (Int.toNat (i64.wrap (p-(1:Int)))))) 0 14).map TV.agg) (fun (x7:TV)=>BF [.str,.int .i64,.bool,.bool,.str,.int .i64,.int .i64,.int .i64,.int .i64,.int .i64,.str,.tv,.tv,.tv] x7 (fun (g4:B8) (h8:Int) (e0 f9:Bool) (e1:B8) (g3 d3 h3 e4 f1:Int) (g1:B8) (e5 d6 h9:TV)=>((0<=p/\p<(lenZ 14 o:Int))/\Ar ((Aj a9 [] (.t (ixT 14 o p.toNat)) 0 14).map TV.agg) (fun (x8:TV)=>BF [.str,.int .i64,.bool,.bool,.str,.int .i64,.int .i64,.int .i64,.int .i64,.int .i64,.str,.tv,.tv,.tv] x8 (fun (f7:B8) (h5:Int) (h2 h1:Bool) (i3:B8) (d7 i0 g8 g2 f5:Int) (h4:B8) (f3 i2 e6:TV)=>((0<=p/\p<(lenZ 14 o:Int))/\need (List.all [.str g4,.int .i64 h8,.bool e0,.bool f9,.str e1,.int .i64 g3,.int .i64 d3,.int .i64 h3,.int .i64 e4,.int .i64 f1,.str g1,e5,d6,h9] At) (stB a9 (ixT 14 o p.toNat) [.str g4,.int .i64 h8,.bool e0,.bool f9,.str e1,.int .i64 g3,.int .i64 d3,.int .i64 h3,.int .i64 e4,.int .i64 f1,.str g1,e5,d6,h9] (fun l2=>((0<=(i64.wrap (p-(1:Int)))/\(i64.wrap (p-(1:Int)))<(lenZ 14 o:Int))/\need (List.all [.str f7,.int .i64 h5,.bool h2,.bool h1,.str i3,.int .i64 d7,.int .i64 i0,.int .i64 g8,.int .i64 g2,.int .i64 f5,.str h4,f3,i2,e6] At) (stB l2 (ixT 14 o (Int.toNat (i64.wrap (p-(1:Int))))) [.str f7,.int .i64 h5,.bool h2,.bool h1,.str i3,.int .i64 d7,.int .i64 i0,.int .i64 g8,.int .i64 g2,.int .i64 f5,.str h4,f3,i2,e6] (fun d1=>(I4 ((i64.wrap (p-(1:Int)))) o c1 d1/\M4 ((i64.wrap (p-(1:Int)))) o c1 d1<M4 p o c1 a9)))))))))))))) (K a9))))) (∃(C1:Int->Int->TV->Int->Int->Int->TV->Int->Int->St->Prop),(BId ((i64.wrap (Int.fdiv (IntKind.u64.wrap (i64.wrap (a+b))) (2^(min (Int.toNat (1:Int)) (IntKind.bits .u64)))))<m) (C1 ((i64.wrap ((i64.wrap ((i64.wrap (Int.fdiv (IntKind.u64.wrap (i64.wrap (a+b))) (2^(min (Int.toNat (1:Int)) (IntKind.bits .u64)))))+m))-b))) ((i64.wrap (Int.fdiv (IntKind.u64.wrap (i64.wrap (a+b))) (2^(min (Int.toNat (1:Int)) (IntKind.bits .u64)))))) data a m b cmp ((i64.wrap (Int.fdiv (IntKind.u64.wrap (i64.wrap (a+b))) (2^(min (Int.toNat (1:Int)) (IntKind.bits .u64)))))) ((i64.wrap ((i64.wrap (Int.fdiv (IntKind.u64.wrap (i64.wrap (a+b))) (2^(min (Int.toNat (1:Int)) (IntKind.bits .u64)))))+m))) st) (C1 a m data a m b cmp ((i64.wrap (Int.fdiv (IntKind.u64.wrap (i64.wrap (a+b))) (2^(min (Int.toNat (1:Int)) (IntKind.bits .u64)))))) ((i64.wrap ((i64.wrap (Int.fdiv (IntKind.u64.wrap (i64.wrap (a+b))) (2^(min (Int.toNat (1:Int)) (IntKind.bits .u64)))))+m))) st))/\∀a7 g6 c0 d5 e8 d4 c9 c6 d0 d2,C1 a7 g6 c0 d5 e8 d4 c9 c6 d0 d2->(∃(I5:Int->Int->TV->Int->Int->Int->TV->Int->Int->Int->St->Prop) (M5:Int->Int->TV->Int->Int->Int->TV->Int->Int->Int->St->Nat),(I5 a7 g6 c0 d5 e8 d4 c9 c6 d0 ((i64.wrap (d0-(1:Int)))) d2)/\∀c r e x a3 l g d f a2 i,I5 c r e x a3 l g d f a2 i->(BId (c<r) (((0<=(i64.wrap (a2-(i64.wrap (Int.fdiv (IntKind.u64.wrap (i64.wrap (c+r))) (2^(min (Int.toNat (1:Int)) (IntKind.bits .u64)))))))/\(i64.wrap (a2-(i64.wrap (Int.fdiv (IntKind.u64.wrap (i64.wrap (c+r))) (2^(min (Int.toNat (1:Int)) (IntKind.bits .u64)))))))<(lenZ 14 e:Int))/\Ar ((Aj i [] (.t (ixT 14 e (Int.toNat (i64.wrap (a2-(i64.wrap (Int.fdiv (IntKind.u64.wrap (i64.wrap (c+r))) (2^(min (Int.toNat (1:Int)) (IntKind.bits .u64)))))))))) 0 14).map TV.agg) (fun (x9:TV)=>BF [.str,.int .i64,.bool,.bool,.str,.int .i64,.int .i64,.int .i64,.int .i64,.int .i64,.str,.tv,.tv,.tv] x9 (fun (k0:B8) (m7:Int) (o7 m8:Bool) (k6:B8) (k1 p5 l4 q4 q5:Int) (m9:B8) (n0 k3 k9:TV)=>((0<=(i64.wrap (Int.fdiv (IntKind.u64.wrap (i64.wrap (c+r))) (2^(min (Int.toNat (1:Int)) (IntKind.bits .u64)))))/\(i64.wrap (Int.fdiv (IntKind.u64.wrap (i64.wrap (c+r))) (2^(min (Int.toNat (1:Int)) (IntKind.bits .u64)))))<(lenZ 14 e:Int))/\Ar ((Aj i [] (.t (ixT 14 e (Int.toNat (i64.wrap (Int.fdiv (IntKind.u64.wrap (i64.wrap (c+r))) (2^(min (Int.toNat (1:Int)) (IntKind.bits .u64)))))))) 0 14).map TV.agg) (fun (m2:TV)=>BF [.str,.int .i64,.bool,.bool,.str,.int .i64,.int .i64,.int .i64,.int .i64,.int .i64,.str,.tv,.tv,.tv] m2 (fun (p4:B8) (k4:Int) (l7 m4:Bool) (l8:B8) (l5 l0 l1 k5 o4:Int) (q0:B8) (l6 p0 o2:TV)=>Et PR g [(.agg [.str k0,.int .i64 m7,.bool o7,.bool m8,.str k6,.int .i64 k1,.int .i64 p5,.int .i64 l4,.int .i64 q4,.int .i64 q5,.str m9,n0,k3,k9]),(.agg [.str p4,.int .i64 k4,.bool l7,.bool m4,.str l8,.int .i64 l5,.int .i64 l0,.int .i64 l1,.int .i64 k5,.int .i64 o4,.str q0,l6,p0,o2])] [.one (.int .i64)] i (fun (j9:Int) b0=>BIf (!(decide (j9<0))) ((I5 ((i64.wrap ((i64.wrap (Int.fdiv (IntKind.u64.wrap (i64.wrap (c+r))) (2^(min (Int.toNat (1:Int)) (IntKind.bits .u64)))))+(1:Int)))) r e x a3 l g d f a2 b0/\M5 ((i64.wrap ((i64.wrap (Int.fdiv (IntKind.u64.wrap (i64.wrap (c+r))) (2^(min (Int.toNat (1:Int)) (IntKind.bits .u64)))))+(1:Int)))) r e x a3 l g d f a2 b0<M5 c r e x a3 l g d f a2 i)) ((I5 c ((i64.wrap (Int.fdiv (IntKind.u64.wrap (i64.wrap (c+r))) (2^(min (Int.toNat (1:Int)) (IntKind.bits .u64)))))) e x a3 l g d f a2 b0/\M5 c ((i64.wrap (Int.fdiv (IntKind.u64.wrap (i64.wrap (c+r))) (2^(min (Int.toNat (1:Int)) (IntKind.bits .u64)))))) e x a3 l g d f a2 b0<M5 c r e x a3 l g d f a2 i)))))))))) (BId (c<a3) (BId (a3<(i64.wrap (f-c))) (CallT PR Ba [e,.int .i64 c,.int .i64 a3,(.int .i64 (i64.wrap (f-c))),g] [] i (fun (a4:St)=>BId (x<c) (BId (c<d) (CallT PR Ad [e,.int .i64 x,.int .i64 c,.int .i64 d,g] [] a4 (fun (c4:St)=>BId (d<(i64.wrap (f-c))) (BId ((i64.wrap (f-c))<l) (CallT PR Ad [e,.int .i64 d,(.int .i64 (i64.wrap (f-c))),.int .i64 l,g] [] c4 (fun (j1:St)=>K j1)) (K c4)) (K c4))) (BId (d<(i64.wrap (f-c))) (BId ((i64.wrap (f-c))<l) (CallT PR Ad [e,.int .i64 d,(.int .i64 (i64.wrap (f-c))),.int .i64 l,g] [] a4 (fun (i6:St)=>K i6)) (K a4)) (K a4))) (BId (d<(i64.wrap (f-c))) (BId ((i64.wrap (f-c))<l) (CallT PR Ad [e,.int .i64 d,(.int .i64 (i64.wrap (f-c))),.int .i64 l,g] [] a4 (fun (i5:St)=>K i5)) (K a4)) (K a4)))) (BId (x<c) (BId (c<d) (CallT PR Ad [e,.int .i64 x,.int .i64 c,.int .i64 d,g] [] i (fun (c3:St)=>BId (d<(i64.wrap (f-c))) (BId ((i64.wrap (f-c))<l) (CallT PR Ad [e,.int .i64 d,(.int .i64 (i64.wrap (f-c))),.int .i64 l,g] [] c3 (fun (j2:St)=>K j2)) (K c3)) (K c3))) (BId (d<(i64.wrap (f-c))) (BId ((i64.wrap (f-c))<l) (CallT PR Ad [e,.int .i64 d,(.int .i64 (i64.wrap (f-c))),.int .i64 l,g] [] i (fun (i4:St)=>K i4)) (K i)) (K i))) (BId (d<(i64.wrap (f-c))) (BId ((i64.wrap (f-c))<l) (CallT PR Ad [e,.int .i64 d,(.int .i64 (i64.wrap (f-c))),.int .i64 l,g] [] i (fun (i9:St)=>K i9)) (K i)) (K i)))) (BId (x<c) (BId (c<d) (CallT PR Ad [e,.int .i64 x,.int .i64 c,.int .i64 d,g] [] i (fun (c5:St)=>BId (d<(i64.wrap (f-c))) (BId ((i64.wrap (f-c))<l) (CallT PR Ad [e,.int .i64 d,(.int .i64 (i64.wrap (f-c))),.int .i64 l,g] [] c5 (fun (i8:St)=>K i8)) (K c5)) (K c5))) (BId (d<(i64.wrap (f-c))) (BId ((i64.wrap (f-c))<l) (CallT PR Ad [e,.int .i64 d,(.int .i64 (i64.wrap (f-c))),.int .i64 l,g] [] i (fun (j0:St)=>K j0)) (K i)) (K i))) (BId (d<(i64.wrap (f-c))) (BId ((i64.wrap (f-c))<l) (CallT PR Ad [e,.int .i64 d,(.int .i64 (i64.wrap (f-c))),.int .i64 l,g] [] i (fun (i7:St)=>K i7)) (K i)) (K i))))))))):CallT PR Ad [data,.int .i64 a,.int .i64 m,.int .i64 b,cmp] [] st K:=
 Ag (cfg:=⟨[],[],[44,48,96,100,164,168]⟩) (h:=(.seq (.seq .none (.cond (.seq .none (.seq .none (.seq (.block (.loop ⟨[(10,.int .i64),(11,.int .i64),(0,.tv),(1,.int .i64),(4,.tv)],[],[],[]⟩ .none)) (.seq (.seq .none (.block (.loop ⟨[(13,.int .i64),(0,.tv),(10,.int .i64)],[],[],[]⟩ .none))) .none)))) .none)) (.seq (.seq .none (.cond (.seq .none (.seq .none (.seq (.block (.loop ⟨[(14,.int .i64),(15,.int .i64),(0,.tv),(2,.int .i64),(4,.tv)],[],[],[]⟩ .none)) (.seq (.seq .none (.block (.loop ⟨[(17,.int .i64),(0,.tv),(14,.int .i64)],[],[],[]⟩ .none))) .none)))) .none)) (.seq .none (.seq .none (.seq .none (.cut ⟨[(20,.int .i64),(21,.int .i64),(0,.tv),(1,.int .i64),(2,.int .i64),(3,.int .i64),(4,.tv),(18,.int .i64),(19,.int .i64)],[],[],[]⟩ .none (.seq .none (.seq (.block (.loop ⟨[(20,.int .i64),(21,.int .i64),(0,.tv),(1,.int .i64),(2,.int .i64),(3,.int .i64),(4,.tv),(18,.int .i64),(19,.int .i64),(22,.int .i64)],[],[],[]⟩ .none)) .none))))))))) mixed (fun _ _=>Tryd.call81 _ _) Tryd.func81 (by kernel_rfl) (by kernel_rfl) h
theorem CG (s:TV) (st:St) (K:TV->St->Prop) (h:need (isSl s) (BIf (BT s) (K .nilSlice st) (Ar (DH st 13 s) (fun (q1:Nat×List TV)=>need (List.all q1.2 At) (Cx 37 13 168 (.list 13 .full 0 []) q1.1 q1.2 st (fun (v1:TV) a=>K v1 a)))))):CallT PR A0 [s] [.one .tv] st K:=
 Ag (cfg:=⟨[],[],[]⟩) (h:= .none) mixed (fun _ _=>Tryd.call83 _ _) Tryd.func83 (by kernel_rfl) (by kernel_rfl) h
theorem Dl (data:TV) (a:Int) (m:Int) (b:Int) (cmp:TV) (st:St) (K:St->Prop) (h:∃(I1:Int->Int->TV->Int->TV->St->Prop) (M1:Int->Int->TV->Int->TV->St->Nat),(I1 ((i64.wrap (m-a))) ((i64.wrap (b-m))) data m cmp st)/\∀e g c f d i,I1 e g c f d i->(BId (e≠g) (BId (g<e) (CallT PR AG [c,(.int .i64 (i64.wrap (f-e))),.int .i64 f,.int .i64 g,d] [] i (fun (j:St)=>(I1 ((i64.wrap (e-g))) g c f d j/\M1 ((i64.wrap (e-g))) g c f d j<M1 e g c f d i))) (CallT PR AG [c,(.int .i64 (i64.wrap (f-e))),(.int .i64 (i64.wrap ((i64.wrap (f+g))-e))),.int .i64 e,d] [] i (fun (k:St)=>(I1 e ((i64.wrap (g-e))) c f d k/\M1 e ((i64.wrap (g-e))) c f d k<M1 e g c f d i)))) (CallT PR AG [c,(.int .i64 (i64.wrap (f-e))),.int .i64 f,.int .i64 e,d] [] i (fun (l:St)=>K l)))):CallT PR Ba [data,.int .i64 a,.int .i64 m,.int .i64 b,cmp] [] st K:=
 Ag (cfg:=⟨[],[],[]⟩) (h:=(.seq .none (.seq .none (.seq (.block (.loop ⟨[(10,.int .i64),(11,.int .i64),(0,.tv),(2,.int .i64),(4,.tv)],[],[],[]⟩ .none)) .none)))) mixed (fun _ _=>Tryd.call87 _ _) Tryd.func87 (by kernel_rfl) (by kernel_rfl) h
theorem CW (data:TV) (a:Int) (b:Int) (n:Int) (cmp:TV) (st:St) (K:St->Prop) (h:∃(I1:Int->TV->Int->Int->Int->St->Prop) (M1:Int->TV->Int->Int->Int->St->Nat),(I1 0 data a b n st)/\∀d c e f i g,I1 d c e f i g->(BId (d<i) (((0<=(i64.wrap (f+d))/\(i64.wrap (f+d))<(lenZ 14 c:Int))/\Ar ((Aj g [] (.t (ixT 14 c (Int.toNat (i64.wrap (f+d))))) 0 14).map TV.agg) (fun (x1:TV)=>BF [.str,.int .i64,.bool,.bool,.str,.int .i64,.int .i64,.int .i64,.int .i64,.int .i64,.str,.tv,.tv,.tv] x1 (fun (s1:B8) (n1:Int) (b1 b2:Bool) (s2:B8) (n2 n3 n4 n5 n6:Int) (s3:B8) (v1 v2 v3:TV)=>((0<=(i64.wrap (e+d))/\(i64.wrap (e+d))<(lenZ 14 c:Int))/\Ar ((Aj g [] (.t (ixT 14 c (Int.toNat (i64.wrap (e+d))))) 0 14).map TV.agg) (fun (x2:TV)=>BF [.str,.int .i64,.bool,.bool,.str,.int .i64,.int .i64,.int .i64,.int .i64,.int .i64,.str,.tv,.tv,.tv] x2 (fun (s4:B8) (n7:Int) (b3 b4:Bool) (s5:B8) (n8 n9 l m j:Int) (s6:B8) (v4 v5 v6:TV)=>((0<=(i64.wrap (e+d))/\(i64.wrap (e+d))<(lenZ 14 c:Int))/\need (List.all [.str s1,.int .i64 n1,.bool b1,.bool b2,.str s2,.int .i64 n2,.int .i64 n3,.int .i64 n4,.int .i64 n5,.int .i64 n6,.str s3,v1,v2,v3] At) (stB g (ixT 14 c (Int.toNat (i64.wrap (e+d)))) [.str s1,.int .i64 n1,.bool b1,.bool b2,.str s2,.int .i64 n2,.int .i64 n3,.int .i64 n4,.int .i64 n5,.int .i64 n6,.str s3,v1,v2,v3] (fun o=>((0<=(i64.wrap (f+d))/\(i64.wrap (f+d))<(lenZ 14 c:Int))/\need (List.all [.str s4,.int .i64 n7,.bool b3,.bool b4,.str s5,.int .i64 n8,.int .i64 n9,.int .i64 l,.int .i64 m,.int .i64 j,.str s6,v4,v5,v6] At) (stB o (ixT 14 c (Int.toNat (i64.wrap (f+d)))) [.str s4,.int .i64 n7,.bool b3,.bool b4,.str s5,.int .i64 n8,.int .i64 n9,.int .i64 l,.int .i64 m,.int .i64 j,.str s6,v4,v5,v6] (fun k=>(I1 ((i64.wrap (d+(1:Int)))) c e f i k/\M1 ((i64.wrap (d+(1:Int)))) c e f i k<M1 d c e f i g)))))))))))))) (K g))):CallT PR AG [data,.int .i64 a,.int .i64 b,.int .i64 n,cmp] [] st K:=
 Ag (cfg:=⟨[],[],[]⟩) (h:=(.seq .none (.block (.loop ⟨[(10,.int .i64),(0,.tv),(1,.int .i64),(2,.int .i64),(3,.int .i64)],[],[],[]⟩ .none)))) mixed (fun _ _=>Tryd.call91 _ _) Tryd.func91 (by kernel_rfl) (by kernel_rfl) h
end Go.TVF
section
namespace Go.TVF
open Go.IntKind(i64 u8)
section
variable {α:Type}
def swp (l:List α) (i j:Nat):List α:=match l[i]?,l[j]? with | some x,some y=>(l.set i y).set j x | _,_=>l
theorem swp_mid {P Y Q:List α} {x z:α}:swp (P++x::(Y++z::Q)) P.length (P.length+1+Y.length)=P++z::(Y++x::Q):=by
 have h1:(P++x::(Y++z::Q))[P.length]? =some x:=by simp
 have h2:(P++x::(Y++z::Q))[P.length+1+Y.length]? =some z:=by
  rw[List.getElem?_append_right (by omega)]
  rw[show P.length+1+Y.length-P.length=Y.length+1 by omega,List.getElem?_cons_succ,List.getElem?_append_right (by omega)]
  simp
 unfold swp
 rw[h1,h2]
 simp only
 rw[List.set_append_right _ _ (by omega),Nat.sub_self,List.set_cons_zero,List.set_append_right _ _ (by omega)]
 rw[show P.length+1+Y.length-P.length=Y.length+1 by omega,List.set_cons_succ,List.set_append_right _ _ (by omega),Nat.sub_self,List.set_cons_zero]
theorem swp_run {P X Y Z Q:List α} {i:Nat} (hi:i<X.length) (hz:Z.length=X.length):
  swp (P++(Z.take i++X.drop i)++Y++(X.take i++Z.drop i)++Q) (P.length+i) (P.length+X.length+Y.length+i)=P++(Z.take (i+1)++X.drop (i+1))++Y++(X.take (i+1)++Z.drop (i+1))++Q:=by
 have hx:X.drop i=X[i]::X.drop (i+1):=List.drop_eq_getElem_cons hi
 have hzd:Z.drop i=Z[i]'(by omega)::Z.drop (i+1):=List.drop_eq_getElem_cons (by omega)
 have e1:P++(Z.take i++X.drop i)++Y++(X.take i++Z.drop i)++Q=(P++Z.take i)++X[i]::((X.drop (i+1)++Y++X.take i)++Z[i]'(by omega)::(Z.drop (i+1)++Q)):=by
  have h1:P++(Z.take i++X.drop i)++Y++(X.take i++Z.drop i)++Q=P++Z.take i++X.drop i++(Y++X.take i++(Z.drop i++Q)):=by simp only[List.append_assoc]
  rw[h1,hx,hzd]
  simp only[List.append_assoc,List.cons_append]
 have l1:(P++Z.take i).length=P.length+i:=by simp;omega
 have l2:(X.drop (i+1)++Y++X.take i).length=X.length-1+Y.length:=by simp;omega
 rw[e1]
 have:=swp_mid (P:=P++Z.take i) (Y:=X.drop (i+1)++Y++X.take i) (Q:=Z.drop (i+1)++Q) (x:=X[i]) (z:=Z[i]'(by omega))
 rw[l1,l2,show P.length+i+1+(X.length-1+Y.length)=P.length+X.length+Y.length+i by omega]at this
 rw[this]
 have t1:X.take (i+1)=X.take i++[X[i]]:=by rw[List.take_succ_eq_append_getElem hi]
 have t2:Z.take (i+1)=Z.take i++[Z[i]'(by omega)]:=by rw[List.take_succ_eq_append_getElem (by omega)]
 simp only[t1,t2,List.append_assoc,List.cons_append,List.nil_append]
variable (le:α->α->Prop)
def Srt (l:List α):Prop:=l.Pairwise le
variable {le}
theorem Kz (tr:∀x y z,le x y->le y z->le x z) {A B:List α} (ha:Srt le A) (hb:Srt le B) (h:∀x,A.getLast? =some x->∀y,B.head? =some y->le x y) (rf:∀x,le x x):Srt le (A++B):=by
 refine List.pairwise_append.2 ⟨ha,hb,fun x hx y hy=>?_⟩
 rcases List.eq_nil_or_concat A with rfl | ⟨A',a,hA⟩
 ·simp at hx
 rw[List.concat_eq_append]at hA
 subst hA
 cases B with
 | nil=>simp at hy
 | cons b B=>
  have hab:=h a (by simp) b rfl
  have h1:le x a:=by
   rcases List.mem_append.1 hx with h | h
   ·exact(List.pairwise_append.1 ha).2.2 x h a (by simp)
   ·simp at h;subst h;exact rf x
  have h2:le b y:=by
   rcases List.mem_cons.1 hy with h | h
   ·subst h;exact rf y
   ·exact(List.pairwise_cons.1 hb).1 y h
  exact tr _ _ _ h1 (tr _ _ _ hab h2)
theorem PK (tr:∀x y z,le x y->le y z->le x z) {L1 L2 R1 R2 M1 M2:List α} (rf:∀x,le x x) (hL:Srt le (L1++L2)) (hR:Srt le (R1++R2)) (h1:∀x,R1.getLast? =some x->∀y,L2.head? =some y->le x y) (h2:∀x,L1.getLast? =some x->∀y,R2.head? =some y->le x y)
  (p1:M1.Perm (L1++R1)) (p2:M2.Perm (L2++R2)) (s1:Srt le M1) (s2:Srt le M2):(M1++M2).Perm (L1++L2++(R1++R2))/\Srt le (M1++M2):=by
 obtain⟨a1,a2,a3⟩:=List.pairwise_append.1 hL
 obtain⟨b1,b2,b3⟩:=List.pairwise_append.1 hR
 have c1:=List.pairwise_append.1 (Kz tr b1 a2 h1 rf)
 have c2:=List.pairwise_append.1 (Kz tr a1 b2 h2 rf)
 constructor
 ·refine(p1.append p2).trans ?_
  simp only[List.append_assoc]
  refine List.Perm.append_left _ ?_
  rw[<-List.append_assoc,<-List.append_assoc]
  exact List.Perm.append_right _ List.perm_append_comm
 ·refine List.pairwise_append.2 ⟨s1,s2,fun x hx y hy=>?_⟩
  rcases List.mem_append.1 (p1.mem_iff.1 hx)with hx | hx<;>rcases List.mem_append.1 (p2.mem_iff.1 hy)with hy | hy
  ·exact a3 x hx y hy
  ·exact c2.2.2 x hx y hy
  ·exact c1.2.2 x hx y hy
  ·exact b3 x hx y hy
theorem Nk (tr:∀x y z,le x y->le y z->le x z) {A B:List α} {x:α} (rf:∀x,le x x) (h:Srt le (A++B)) (h1:∀y,A.getLast? =some y->le y x) (h2:∀y,B.head? =some y->le x y):Srt le (A++x::B):=by
 obtain⟨a,b,c⟩:=List.pairwise_append.1 h
 refine Kz tr a ?_ (fun y hy z hz=>by simp at hz;subst hz;exact h1 y hy) rf
 exact Kz (A:=[x]) tr (List.pairwise_singleton _ _) b (fun y hy z hz=>by simp at hy;subst hy;exact h2 z hz) rf
end
end Go.TVF
end
namespace Go.TVF
open Go.IntKind(i64 u8)
open Go Go.Proofs
section
structure Sc where
 kind:Int
 b:Bool
 neg:Bool
 dg:B8
 ex:Int
 tk:Int
 td:Int
 tn:Int
 tz:Int
 text:B8
 bytes:B8
mutual
inductive Vl where
 | mk (s:Sc) (l:List Vl) (f:List Fd)
inductive Fd where
 | mk (k:B8) (v:Vl)
end
def Vl.sc:Vl->Sc | .mk s _ _=>s
def Vl.list:Vl->List Vl | .mk _ l _=>l
def Vl.flds:Vl->List Fd | .mk _ _ f=>f
def Fd.key:Fd->B8 | .mk k _=>k
def Fd.val:Fd->Vl | .mk _ v=>v
def SlR (st:St) (sz:Nat) (v:TV) (n:Nat) (xs:List TV):Prop:=
 Rd sz v n xs∨∃b off cap l,v= .ms sz b off n cap/\b<st.nb/\st.box b= .cells l/\off+cap*sz<=l.length/\n<=cap/\xs=(l.drop off).take (n*sz)
theorem SlR.of_rd {st:St} {sz n:Nat} {v:TV} {xs:List TV} (h:Rd sz v n xs):SlR st sz v n xs:= .inl h
def Bq (st st':St):Prop:=st.nb<=st'.nb/\∀b,b<st.nb->st'.box b=st.box b
theorem SlR.keep {st st':St} (k:Bq st st') {sz n:Nat} {v:TV} {xs:List TV} (h:SlR st sz v n xs):SlR st' sz v n xs:=by
 rcases h with h | ⟨b,off,cap,l,h1,h2,h3,h4,h5,h6⟩
 ·exact .inl h
 ·exact .inr ⟨b,off,cap,l,h1,Nat.lt_of_lt_of_le h2 k.1,(k.2 b h2).trans h3,h4,h5,h6⟩
mutual
def VlR (st:St):Vl->List TV->Prop
 | .mk s l f,cs=>∃ub ul uf xl xf,cs=[.int .i64 s.kind,.bool s.b,.bool s.neg,.str s.dg,.int .i64 s.ex,.int .i64 s.tk,.int .i64 s.td,.int .i64 s.tn,.int .i64 s.tz,.str s.text,ub,ul,uf]/\
   SlR st 1 ub s.bytes.length (A5 s.bytes)/\SlR st 13 ul l.length xl/\VsR st l xl/\SlR st 14 uf f.length xf/\FsR st f xf
def VsR (st:St):List Vl->List TV->Prop
 | [],xs=>xs=[]
 | v::r,xs=>∃a b,xs=a++b/\VlR st v a/\VsR st r b
def FdR (st:St):Fd->List TV->Prop
 | .mk k v,xs=>∃cs,xs= .str k::cs/\VlR st v cs
def FsR (st:St):List Fd->List TV->Prop
 | [],xs=>xs=[]
 | d::r,xs=>∃a b,xs=a++b/\FdR st d a/\FsR st r b
end
mutual
theorem VlR.keep {st st':St} (k:Bq st st'):∀{v:Vl} {cs:List TV},VlR st v cs->VlR st' v cs
 | .mk s l f,cs,h=>by
  unfold VlR at h⊢
  obtain⟨ub,ul,uf,xl,xf,h0,h1,h2,h3,h4,h5⟩:=h
  exact⟨ub,ul,uf,xl,xf,h0,h1.keep k,h2.keep k,VsR.keep k h3,h4.keep k,FsR.keep k h5⟩
theorem VsR.keep {st st':St} (k:Bq st st'):∀{l:List Vl} {cs:List TV},VsR st l cs->VsR st' l cs
 | [],cs,h=>by unfold VsR at h⊢;exact h
 | v::r,cs,h=>by
  unfold VsR at h⊢
  obtain⟨a,b,h0,h1,h2⟩:=h
  exact⟨a,b,h0,VlR.keep k h1,VsR.keep k h2⟩
theorem FdR.keep {st st':St} (k:Bq st st'):∀{d:Fd} {cs:List TV},FdR st d cs->FdR st' d cs
 | .mk key v,cs,h=>by
  unfold FdR at h⊢
  obtain⟨c,h0,h1⟩:=h
  exact⟨c,h0,VlR.keep k h1⟩
theorem FsR.keep {st st':St} (k:Bq st st'):∀{l:List Fd} {cs:List TV},FsR st l cs->FsR st' l cs
 | [],cs,h=>by unfold FsR at h⊢;exact h
 | d::r,cs,h=>by
  unfold FsR at h⊢
  obtain⟨a,b,h0,h1,h2⟩:=h
  exact⟨a,b,h0,FdR.keep k h1,FsR.keep k h2⟩
end
theorem VlR.len {st:St} {v:Vl} {cs:List TV} (h:VlR st v cs):cs.length=13:=by
 cases v;unfold VlR at h;obtain⟨ub,ul,uf,xl,xf,rfl,_⟩:=h;rfl
theorem FdR.len {st:St} {v:Fd} {cs:List TV} (h:FdR st v cs):cs.length=14:=by
 cases v;unfold FdR at h;obtain⟨c,rfl,h⟩:=h;simp[h.len]
theorem VsR.len {st:St}:∀{l:List Vl} {xs:List TV},VsR st l xs->xs.length=l.length*13
 | [],xs,h=>by unfold VsR at h;subst h;rfl
 | v::r,xs,h=>by
  unfold VsR at h
  obtain⟨a,b,rfl,h1,h2⟩:=h
  rw[List.length_append,h1.len,VsR.len h2,List.length_cons];omega
theorem FsR.len {st:St}:∀{l:List Fd} {xs:List TV},FsR st l xs->xs.length=l.length*14
 | [],xs,h=>by unfold FsR at h;subst h;rfl
 | v::r,xs,h=>by
  unfold FsR at h
  obtain⟨a,b,rfl,h1,h2⟩:=h
  rw[List.length_append,h1.len,FsR.len h2,List.length_cons];omega
theorem VsR.get {st:St}:∀{l:List Vl} {xs:List TV} {i:Nat} {v:Vl},VsR st l xs->l[i]? =some v->∃cs,VlR st v cs/\(xs.drop (i*13)).take 13=cs/\cs.length=13
 | [],xs,i,v,h,hi=>by simp at hi
 | w::r,xs,i,v,h,hi=>by
  unfold VsR at h
  obtain⟨a,b,rfl,h1,h2⟩:=h
  cases i with
  | zero=>
   simp only[List.getElem?_cons_zero,Option.some.injEq]at hi
   subst hi
   refine⟨a,h1,?_,h1.len⟩
   rw[Nat.zero_mul,List.drop_zero,<-h1.len,List.take_left]
  | succ i=>
   obtain⟨cs,h3,h4,h5⟩:=VsR.get h2 (by simpa using hi)
   refine⟨cs,h3,?_,h5⟩
   rw[show(i+1)*13=a.length+i*13 by rw[h1.len];omega,List.drop_append]
   simp only[Nat.add_sub_cancel_left]
   rw[List.drop_of_length_le (by omega),List.nil_append];exact h4
theorem FsR.get {st:St}:∀{l:List Fd} {xs:List TV} {i:Nat} {v:Fd},FsR st l xs->l[i]? =some v->∃cs,FdR st v cs/\(xs.drop (i*14)).take 14=cs/\cs.length=14
 | [],xs,i,v,h,hi=>by simp at hi
 | w::r,xs,i,v,h,hi=>by
  unfold FsR at h
  obtain⟨a,b,rfl,h1,h2⟩:=h
  cases i with
  | zero=>
   simp only[List.getElem?_cons_zero,Option.some.injEq]at hi
   subst hi
   refine⟨a,h1,?_,h1.len⟩
   rw[Nat.zero_mul,List.drop_zero,<-h1.len,List.take_left]
  | succ i=>
   obtain⟨cs,h3,h4,h5⟩:=FsR.get h2 (by simpa using hi)
   refine⟨cs,h3,?_,h5⟩
   rw[show(i+1)*14=a.length+i*14 by rw[h1.len];omega,List.drop_append]
   simp only[Nat.add_sub_cancel_left]
   rw[List.drop_of_length_le (by omega),List.nil_append];exact h4
mutual
def Vl.cnt:Vl->Nat
 | .mk _ l f=>1+Aw l+Av f
def Aw:List Vl->Nat
 | []=>0
 | v::r=>v.cnt+Aw r
def Fd.cnt:Fd->Nat
 | .mk _ v=>v.cnt
def Av:List Fd->Nat
 | []=>0
 | d::r=>d.cnt+Av r
end
end
structure StX (S:Nat->Prop) (a b:St):Prop where
 nb:a.nb<=b.nb
 box:∀i,i<a.nb->¬S i->b.box i=a.box i
 nt:a.nt<=b.nt
 live:∀i,i<a.nt->b.live i=a.live i
 ty:∀i,i<a.nt->b.ty i=a.ty i
 bt:∀i,i<a.nb->b.bt i=a.bt i
theorem StX.refl (S:Nat->Prop) (a:St):StX S a a:=⟨Nat.le_refl _,fun _ _ _=>rfl,Nat.le_refl _,fun _ _=>rfl,fun _ _=>rfl,fun _ _=>rfl⟩
theorem StX.trans {S:Nat->Prop} {a b c:St} (h:StX S a b) (k:StX S b c):StX S a c:=
 ⟨Nat.le_trans h.nb k.nb,fun i hi hs=>(k.box i (Nat.lt_of_lt_of_le hi h.nb) hs).trans (h.box i hi hs),Nat.le_trans h.nt k.nt,fun i hi=>(k.live i (Nat.lt_of_lt_of_le hi h.nt)).trans (h.live i hi),fun i hi=>(k.ty i (Nat.lt_of_lt_of_le hi h.nt)).trans (h.ty i hi),fun i hi=>(k.bt i (Nat.lt_of_lt_of_le hi h.nb)).trans (h.bt i hi)⟩
theorem StX.of {S:Nat->Prop} {a b:St} (h:Al a b):StX S a b:=⟨h.nb,fun i hi _=>h.box i hi,h.nt,h.live,h.ty,h.bt⟩
theorem StX.ext {S:Nat->Prop} {a b c:St} (h:Al a b) (k:StX S b c) (hs:∀i,S i->a.nb<=i):Al a c:=
 ⟨Nat.le_trans h.nb k.nb,fun i hi=>(k.box i (Nat.lt_of_lt_of_le hi h.nb) fun g=>absurd (hs i g) (by omega)).trans (h.box i hi),Nat.le_trans h.nt k.nt,fun i hi=>(k.live i (Nat.lt_of_lt_of_le hi h.nt)).trans (h.live i hi),fun i hi=>(k.ty i (Nat.lt_of_lt_of_le hi h.nt)).trans (h.ty i hi),fun i hi=>(k.bt i (Nat.lt_of_lt_of_le hi h.nb)).trans (h.bt i hi)⟩
theorem StX.put {S:Nat->Prop} {a:St} {i:Nat} (hi:S i) (o:HU):StX S a (a.put i o):=
 ⟨Nat.le_refl _,fun j hj hs=>by simp only[St.put];rw[if_neg (by rintro rfl;exact hs hi)],Nat.le_refl _,fun _ _=>rfl,fun _ _=>rfl,fun _ _=>rfl⟩
end Go.TVF
section
namespace Go.TVF
open Go.IntKind(i64 u8)
abbrev tyField:Nat:=50
end Go.TVF
end
namespace Go.TVF
open Go.IntKind(i64 u8)
open Go Go.Proofs
def CkK (k:B8) (cs:List TV):Prop:=∃(n1:Int) (b1 b2:Bool) (s2:B8) (n2 n3 n4 n5 n6:Int) (s3:B8) (u1 u2 u3:TV),
 cs=[.str k,.int .i64 n1,.bool b1,.bool b2,.str s2,.int .i64 n2,.int .i64 n3,.int .i64 n4,.int .i64 n5,.int .i64 n6,.str s3,u1,u2,u3]/\At u1=true/\At u2=true/\At u3=true
def Ck (cs:List TV):Prop:=∃k,CkK k cs
theorem Ck.len {cs:List TV} (h:Ck cs):cs.length=14:=by obtain⟨k,n1,b1,b2,s2,n2,n3,n4,n5,n6,s3,u1,u2,u3,rfl,_⟩:=h;rfl
theorem Ck.one {cs:List TV} (h:Ck cs):List.all cs At=true:=by
 obtain⟨k,n1,b1,b2,s2,n2,n3,n4,n5,n6,s3,u1,u2,u3,rfl,h1,h2,h3⟩:=h
 simp[At]at h1 h2 h3⊢
 simp[h1,h2,h3]
theorem Hp {k:B8} {n1:Int} {b1 b2:Bool} {s2:B8} {n2 n3 n4 n5 n6:Int} {s3:B8} {u1 u2 u3:TV} {f:Fun [.str,.int .i64,.bool,.bool,.str,.int .i64,.int .i64,.int .i64,.int .i64,.int .i64,.str,.tv,.tv,.tv] Prop} (h:f k n1 b1 b2 s2 n2 n3 n4 n5 n6 s3 u1 u2 u3):
  BF [.str,.int .i64,.bool,.bool,.str,.int .i64,.int .i64,.int .i64,.int .i64,.int .i64,.str,.tv,.tv,.tv] (.agg [.str k,.int .i64 n1,.bool b1,.bool b2,.str s2,.int .i64 n2,.int .i64 n3,.int .i64 n4,.int .i64 n5,.int .i64 n6,.str s3,u1,u2,u3]) f:=h
structure BxF (st:St) (b n cap:Nat) (cks:List (List TV)):Prop where
 lt:b<st.nb
 len:cks.length=n
 le:n<=cap
 ck:∀c,c∈cks->Ck c
 box:∃tail,st.box b= .cells (cks.flatten++tail)/\(cks.flatten++tail).length=cap*14
theorem Pa:∀{cks:List (List TV)},(∀c,c∈cks->Ck c)->cks.flatten.length=cks.length*14
 | [],_=>rfl
 | c::r,h=>by
  rw[List.flatten_cons,List.length_append,(h c (.head _)).len,Pa fun x hx=>h x (.tail _ hx),List.length_cons];omega
theorem NJ:∀{cks:List (List TV)} {i:Nat} {c:List TV},(∀c,c∈cks->Ck c)->cks[i]? =some c->∃A B,cks.flatten=A++c++B/\A.length=i*14/\∀d:List TV,(cks.set i d).flatten=A++d++B
 | [],i,c,_,hi=>by simp at hi
 | x::r,0,c,h,hi=>by
  simp only[List.getElem?_cons_zero,Option.some.injEq]at hi
  subst hi
  exact⟨[],r.flatten,by simp,by simp,fun d=>by simp⟩
 | x::r,i+1,c,h,hi=>by
  obtain⟨A,B,h1,h2,h3⟩:=NJ (fun y hy=>h y (.tail _ hy)) (by simpa using hi:r[i]? =some c)
  refine⟨x++A,B,by rw[List.flatten_cons,h1];simp,by rw[List.length_append,(h x (.head _)).len,h2];omega,fun d=>by rw[List.set_cons_succ,List.flatten_cons,h3 d];simp⟩
theorem Ir:∀(ys A c B:List TV),ys.length=c.length->setAll (A++c++B) A.length ys=A++ys++B
 | [],A,c,B,h=>by
  have:c=[]:=List.eq_nil_of_length_eq_zero (by simpa using h.symm)
  subst this;rfl
 | y::ys,A,[],B,h=>by simp at h
 | y::ys,A,x::c,B,h=>by
  rw[setAll]
  have e:(A++x::c++B).set A.length y=(A++[y])++c++B:=by simp
  rw[e]
  have:=Ir ys (A++[y]) c B (by simpa using h)
  rw[List.length_append]at this
  rw[show A.length+1=A.length+ [y].length from rfl,this]
  simp
theorem Jf {st:St} {b:Nat} {B:List TV}:∀(c:List TV) (l:List TV) (j o:Nat),st.box b= .cells l->l.drop (o+j)=c++B->Aj st [] (.t (.box b o)) j c.length=some c
 | [],l,j,o,h,hd=>rfl
 | x::c,l,j,o,h,hd=>by
  have hx:l[o+j]? =some x:=by
   have:=congrArg (fun z:List TV=>z[0]?) hd
   simpa using this
  have hd2:l.drop (o+(j+1))=c++B:=by
   have:=congrArg (fun z:List TV=>z.drop 1) hd
   simpa [List.drop_drop,Nat.add_assoc]using this
  show(match Ac st [] (.t (.box b o)) j with | some x=>(Aj st [] (.t (.box b o)) (j+1) c.length).map (x::·) | none=>none)=_
  have:Ac st [] (.t (.box b o)) j=some x:=by simp only[Ac,h];exact hx
  rw[this]
  simp only
  rw[Jf c l (j+1) o h hd2];rfl
theorem BxF.ld {st:St} {b n cap:Nat} {cks:List (List TV)} (h:BxF st b n cap cks) {i:Nat} {c:List TV} (hi:cks[i]? =some c):(Aj st [] (.t (ixT 14 (.ms 14 b 0 n cap) i)) 0 14).map TV.agg=some (.agg c):=by
 obtain⟨tail,h1,h2⟩:=h.box
 obtain⟨A,B,h3,h4,_⟩:=NJ h.ck hi
 have hc:=(h.ck c (List.mem_of_getElem? hi)).len
 have:=Jf (B:=B++tail) (st:=st) (b:=b) c (cks.flatten++tail) 0 (0+i*14) h1 (by
  rw[h3,Nat.add_zero,Nat.zero_add,<-h4];simp)
 rw[hc]at this
 show Option.map TV.agg (Aj st [] (.t (.box b (0+i*14))) 0 14)=_
 rw[this];rfl
theorem BxF.st {st:St} {b n cap:Nat} {cks:List (List TV)} (h:BxF st b n cap cks) {i:Nat} {c ys:List TV} (hi:cks[i]? =some c) (hy:Ck ys) {k:St->Prop} (hk:∀st',BxF st' b n cap (cks.set i ys)->StX (·=b) st st'->k st'):
  stB st (ixT 14 (.ms 14 b 0 n cap) i) ys k:=by
 obtain⟨tail,h1,h2⟩:=h.box
 obtain⟨A,B,h3,h4,h5⟩:=NJ h.ck hi
 have hc:=(h.ck c (List.mem_of_getElem? hi)).len
 have hl:(cks.flatten++tail).length=A.length+14+B.length+tail.length:=by rw[h3];simp[hc];omega
 have he:setAll (cks.flatten++tail) (0+i*14) ys=(cks.set i ys).flatten++tail:=by
  rw[Nat.zero_add,<-h4,h3,List.append_assoc,Ir ys A c (B++tail) (by rw[hy.len,hc]),h5 ys]
  simp
 refine⟨_,h1,by rw[hl,hy.len,<-h4];omega,?_⟩
 rw[he]
 refine hk _ ⟨h.lt,by rw[List.length_set];exact h.len,h.le,fun x hx=>?_,tail,by simp[St.put],?_⟩ (StX.put (S:=(·=b)) (show b=b from rfl) _)
 ·rcases List.mem_or_eq_of_mem_set hx with hx | rfl
  ·exact h.ck x hx
  ·exact hy
 ·rw[<-he,Nat.zero_add];simpa [FE]using h2
theorem BxF.lenZ {st:St} {b n cap:Nat} {cks:List (List TV)} (h:BxF st b n cap cks):lenZ 14 (.ms 14 b 0 n cap)=cks.length:=by rw[h.len];rfl
section
section
variable {st:St} {b n cap:Nat}
theorem Gs {P X Y Z Q:List (List TV)} {cmp:TV} (h:BxF st b n cap (P++X++Y++Z++Q)) (hz:Z.length=X.length) (hn:n<=100000000) {A B N:Int} (hA:A=(P.length:Int)) (hB:B=((P.length+X.length+Y.length:Nat):Int)) (hN:N=(X.length:Int)) {K:St->Prop}
  (hk:∀st',BxF st' b n cap (P++Z++Y++X++Q)->StX (·=b) st st'->K st'):
  CallT PR AG [.ms 14 b 0 n cap,.int .i64 A,.int .i64 B,.int .i64 N,cmp] [] st K:=by
 have hlen:=h.len
 simp only[List.length_append]at hlen
 refine CW _ A B N cmp st K ⟨fun i d a b' n' st'=>d= .ms 14 b 0 n cap/\a=A/\b'=B/\n'=N/\∃k:Nat,i=(k:Int)/\k<=X.length/\BxF st' b n cap (P++(Z.take k++X.drop k)++Y++(X.take k++Z.drop k)++Q)/\StX (·=b) st st',
  fun i _ _ _ _ _=>(X.length-i).toNat,⟨rfl,rfl,rfl,rfl,0,rfl,Nat.zero_le _,by simpa using h,StX.refl _ _⟩,?_⟩
 rintro _ _ _ _ _ st1 ⟨rfl,rfl,rfl,rfl,k,rfl,hkl,hb,e⟩
 subst hA hB hN
 refine Ab (fun g=>?_) fun g=>?_
 ·have hkx:k<X.length:=by omega
  rw[Ai _ (by omega) (by omega),Ai _ (by omega) (by omega),Ai _ (by omega) (by omega)]
  have i1:Int.toNat (((P.length+X.length+Y.length:Nat):Int)+(k:Int))=P.length+X.length+Y.length+k:=by omega
  have i2:Int.toNat ((P.length:Int)+(k:Int))=P.length+k:=by omega
  rw[i1,i2,hb.lenZ]
  have hl:=hb.len
  have hx:(P++(Z.take k++X.drop k)++Y++(X.take k++Z.drop k)++Q)[P.length+k]? =some X[k]:=by
   simp only[List.append_assoc]
   rw[List.getElem?_append_right (by omega),Nat.add_sub_cancel_left,List.getElem?_append_right (by simp;omega),List.getElem?_append_left (by simp;omega)]
   simp[show k-min k Z.length=0 by omega,hkx]
  have hzz:(P++(Z.take k++X.drop k)++Y++(X.take k++Z.drop k)++Q)[P.length+X.length+Y.length+k]? =some (Z[k]'(by omega)):=by
   have e1:(P++(Z.take k++X.drop k)++Y++(X.take k++Z.drop k)++Q)=(P++(Z.take k++X.drop k)++Y++X.take k)++(Z.drop k++Q):=by simp
   have e2:(P++(Z.take k++X.drop k)++Y++X.take k).length=P.length+X.length+Y.length+k:=by simp;omega
   rw[e1,List.getElem?_append_right (by omega),e2,Nat.sub_self,List.getElem?_append_left (by simp;omega)]
   simp[show k<Z.length by omega]
  have cx:=hb.ck _ (List.mem_of_getElem? hx)
  have cz:=hb.ck _ (List.mem_of_getElem? hzz)
  have l1:=hb.ld hzz
  have l2:=hb.ld hx
  have hsw:=swp_run (P:=P) (X:=X) (Y:=Y) (Z:=Z) (Q:=Q) hkx hz
  unfold swp at hsw
  rw[hx,hzz]at hsw
  simp only at hsw
  have o1:=cx.one
  have o2:=cz.one
  generalize hcx:X[k]=x at*
  generalize hcz:(Z[k]'(by omega))=z at*
  have cx':=cx
  have cz':=cz
  obtain⟨kx,n1,b1,b2,s2,n2,n3,n4,n5,n6,s3,u1,u2,u3,rfl,_⟩:=cx
  obtain⟨kz,m1,c1,c2,t2,m2,m3,m4,m5,m6,t3,v1,v2,v3,rfl,_⟩:=cz
  refine⟨⟨by omega,by omega⟩,Ae l1 (Hp ⟨⟨by omega,by omega⟩,Ae l2 (Hp ⟨⟨by omega,by omega⟩,Aa o2 (hb.st hx cz' fun st2 hb2 e2=>⟨⟨by omega,by omega⟩,Aa o1 ?_⟩)⟩)⟩)⟩
  ·have hg:∃y,(List.set (P++(Z.take k++X.drop k)++Y++(X.take k++Z.drop k)++Q) (P.length+k) [.str kz,.int .i64 m1,.bool c1,.bool c2,.str t2,.int .i64 m2,.int .i64 m3,.int .i64 m4,.int .i64 m5,.int .i64 m6,.str t3,v1,v2,v3])[P.length+X.length+Y.length+k]? =some y:=
    ⟨_,List.getElem?_eq_getElem (by rw[List.length_set,hl];omega)⟩
   obtain⟨y,hy⟩:=hg
   refine hb2.st hy cx' fun st3 hb3 e3=>⟨⟨rfl,rfl,rfl,rfl,k+1,by omega,by omega,?_,(e.trans e2).trans e3⟩,by dsimp only;omega⟩
   rw[hsw]at hb3
   exact hb3
 ·have:k=X.length:=by omega
  subst this
  refine hk _ ?_ e
  rw[List.take_of_length_le (show Z.length<=X.length by omega),List.drop_length,List.take_length,List.drop_of_length_le (show Z.length<=X.length by omega),List.append_nil,List.append_nil]at hb
  exact hb
theorem RL {P U V Q:List (List TV)} {cmp:TV} (h:BxF st b n cap (P++U++V++Q)) (hn:n<=100000000) (hU:0<U.length) (hV:0<V.length) {A M B:Int} (hA:A=(P.length:Int)) (hM:M=((P.length+U.length:Nat):Int)) (hB:B=((P.length+U.length+V.length:Nat):Int)) {K:St->Prop}
  (hk:∀st',BxF st' b n cap (P++V++U++Q)->StX (·=b) st st'->K st'):
  CallT PR Ba [.ms 14 b 0 n cap,.int .i64 A,.int .i64 M,.int .i64 B,cmp] [] st K:=by
 have hlen:=h.len
 simp only[List.length_append]at hlen
 refine Dl _ A M B cmp st K ⟨fun i j d m' c' st'=>d= .ms 14 b 0 n cap/\m'=M/\∃P' U' V' Q':List (List TV),P'++V'++U'++Q'=P++V++U++Q/\P'.length+U'.length=P.length+U.length/\i=(U'.length:Int)/\j=(V'.length:Int)/\0<U'.length/\0<V'.length/\BxF st' b n cap (P'++U'++V'++Q')/\StX (·=b) st st',
  fun i j _ _ _ _=>(i+j).toNat,⟨rfl,rfl,P,U,V,Q,rfl,rfl,?_,?_,hU,hV,h,StX.refl _ _⟩,?_⟩
 ·rw[Ai _ (by omega) (by omega)];omega
 ·rw[Ai _ (by omega) (by omega)];omega
 rintro _ _ _ _ c' st1 ⟨rfl,rfl,P',U',V',Q',hfin,hm,rfl,rfl,hu,hv,hb,e⟩
 have hlb:=hb.len
 simp only[List.length_append]at hlb
 subst hA hM hB
 have wa:i64.wrap (((P.length+U.length:Nat):Int)-(U'.length:Int))=(P'.length:Int):=by rw[Ai _ (by omega) (by omega)];omega
 refine Ab (fun g=>Ab (fun g2=>?_) fun g2=>?_) fun g=>?_
 ·rw[wa,Ai _ (by omega) (by omega)]
  have hX:U'=U'.take V'.length++U'.drop V'.length:=(List.take_append_drop _ _).symm
  have l1:(U'.take V'.length).length=V'.length:=by simp;omega
  have l2:(U'.drop V'.length).length=U'.length-V'.length:=by simp
  generalize U'.take V'.length=X at*
  generalize U'.drop V'.length=Y at*
  subst hX
  simp only[List.length_append]at*
  refine Gs (P:=P') (X:=X) (Y:=Y) (Z:=V') (Q:=Q') (by simpa using hb) (by omega) hn rfl (by omega) (by omega) fun st2 hb2 e2=>⟨⟨trivial,trivial,P'++V',Y,X,Q',?_,by simp only[List.length_append];omega,by omega,by omega,by omega,by omega,by simpa using hb2,e.trans e2⟩,by omega⟩
  rw[<-hfin];simp
 ·have hjw:i64.wrap (i64.wrap (((P.length+U.length:Nat):Int)+(V'.length:Int))-(U'.length:Int))=(P'.length:Int)+(V'.length:Int):=by
   rw[Ai (((P.length+U.length:Nat):Int)+(V'.length:Int)) (by omega) (by omega),Ai _ (by omega) (by omega)];omega
  rw[wa,hjw,Ai _ (by omega) (by omega)]
  have hX:V'=V'.take (V'.length-U'.length)++V'.drop (V'.length-U'.length):=(List.take_append_drop _ _).symm
  have l1:(V'.take (V'.length-U'.length)).length=V'.length-U'.length:=by simp
  have l2:(V'.drop (V'.length-U'.length)).length=U'.length:=by simp;omega
  generalize V'.take (V'.length-U'.length)=Y at*
  generalize V'.drop (V'.length-U'.length)=Z at*
  subst hX
  simp only[List.length_append]at*
  refine Gs (P:=P') (X:=U') (Y:=Y) (Z:=Z) (Q:=Q') (by simpa using hb) (by omega) hn rfl (by omega) rfl fun st2 hb2 e2=>⟨⟨trivial,trivial,P',Z,Y,U'++Q',?_,by omega,by omega,by omega,by omega,by omega,by simpa using hb2,e.trans e2⟩,by omega⟩
  rw[<-hfin];simp
 ·have huv:U'.length=V'.length:=by omega
  rw[wa]
  refine Gs (P:=P') (X:=U') (Y:=[]) (Z:=V') (Q:=Q') (by simpa using hb) huv.symm hn rfl (by simp;omega) rfl fun st2 hb2 e2=>hk _ ?_ (e.trans e2)
  rw[<-hfin];simpa using hb2
end
end
section
section
variable {st:St} {b n cap:Nat} {cks:List (List TV)}
def D5 (c:List TV):B8:=match c with | .str k::_=>k | _=>[]
def Kk (cmp:TV):Prop:=∀(c d:List TV) (st:St) (K:Int->St->Prop),Ck c->Ck d->(∀(r:Int) st',Al st st'->(r<0↔Op.bytesLess (D5 c) (D5 d)=true)->K r st')->Et PR cmp [.agg c,.agg d] [.one (.int .i64)] st K
theorem Nh {I J:Int} {i j:Nat} {x y:List TV} {K:St->Prop} (h:BxF st b n cap cks) (hI:I=(i:Int)) (hJ:J=(j:Int)) (hi:cks[i]? =some x) (hj:cks[j]? =some y) (hk:∀st',BxF st' b n cap ((cks.set i y).set j x)->StX (·=b) st st'->K st'):
  ((0<=J/\J<(lenZ 14 (.ms 14 b 0 n cap):Int))/\Ar ((Aj st [] (.t (ixT 14 (.ms 14 b 0 n cap) (Int.toNat J))) 0 14).map TV.agg) (fun (x1:TV)=>BF [.str,.int .i64,.bool,.bool,.str,.int .i64,.int .i64,.int .i64,.int .i64,.int .i64,.str,.tv,.tv,.tv] x1 (fun (a0:B8) (a1:Int) (a2:Bool) (a3:Bool) (a4:B8) (a5:Int) (a6:Int) (a7:Int) (a8:Int) (a9:Int) (a10:B8) (a11:TV) (a12:TV) (a13:TV)=>((0<=I/\I<(lenZ 14 (.ms 14 b 0 n cap):Int))/\Ar ((Aj st [] (.t (ixT 14 (.ms 14 b 0 n cap) (Int.toNat I))) 0 14).map TV.agg) (fun (x2:TV)=>BF [.str,.int .i64,.bool,.bool,.str,.int .i64,.int .i64,.int .i64,.int .i64,.int .i64,.str,.tv,.tv,.tv] x2 (fun (c0:B8) (c1:Int) (c2:Bool) (c3:Bool) (c4:B8) (c5:Int) (c6:Int) (c7:Int) (c8:Int) (c9:Int) (c10:B8) (c11:TV) (c12:TV) (c13:TV)=>((0<=I/\I<(lenZ 14 (.ms 14 b 0 n cap):Int))/\need (List.all [(.str a0),(.int .i64 a1),(.bool a2),(.bool a3),(.str a4),(.int .i64 a5),(.int .i64 a6),(.int .i64 a7),(.int .i64 a8),(.int .i64 a9),(.str a10),a11,a12,a13] At) (stB st (ixT 14 (.ms 14 b 0 n cap) (Int.toNat I)) [(.str a0),(.int .i64 a1),(.bool a2),(.bool a3),(.str a4),(.int .i64 a5),(.int .i64 a6),(.int .i64 a7),(.int .i64 a8),(.int .i64 a9),(.str a10),a11,a12,a13] (fun (st2:St)=>((0<=J/\J<(lenZ 14 (.ms 14 b 0 n cap):Int))/\need (List.all [(.str c0),(.int .i64 c1),(.bool c2),(.bool c3),(.str c4),(.int .i64 c5),(.int .i64 c6),(.int .i64 c7),(.int .i64 c8),(.int .i64 c9),(.str c10),c11,c12,c13] At) (stB st2 (ixT 14 (.ms 14 b 0 n cap) (Int.toNat J)) [(.str c0),(.int .i64 c1),(.bool c2),(.bool c3),(.str c4),(.int .i64 c5),(.int .i64 c6),(.int .i64 c7),(.int .i64 c8),(.int .i64 c9),(.str c10),c11,c12,c13] K))))))))))):=by
 subst hI hJ
 have li:=(List.getElem?_eq_some_iff.1 hi).1
 have lj:=(List.getElem?_eq_some_iff.1 hj).1
 have cx:=h.ck _ (List.mem_of_getElem? hi)
 have cy:=h.ck _ (List.mem_of_getElem? hj)
 have l1:=h.ld hj
 have l2:=h.ld hi
 have o1:=cx.one
 have o2:=cy.one
 have cx':=cx
 have cy':=cy
 simp only[Int.toNat_natCast]
 rw[h.lenZ]
 obtain⟨kx,n1,b1,b2,s2,n2,n3,n4,n5,n6,s3,u1,u2,u3,rfl,_⟩:=cx
 obtain⟨ky,m1,c1,c2,t2,m2,m3,m4,m5,m6,t3,v1,v2,v3,rfl,_⟩:=cy
 refine⟨⟨by omega,by omega⟩,Ae l1 (Hp ⟨⟨by omega,by omega⟩,Ae l2 (Hp ⟨⟨by omega,by omega⟩,Aa o2 (h.st hi cy' fun st2 hb2 e2=>⟨⟨by omega,by omega⟩,Aa o1 ?_⟩)⟩)⟩)⟩
 obtain⟨z,hz⟩:∃z,(cks.set i [.str ky,.int .i64 m1,.bool c1,.bool c2,.str t2,.int .i64 m2,.int .i64 m3,.int .i64 m4,.int .i64 m5,.int .i64 m6,.str t3,v1,v2,v3])[j]? =some z:=⟨_,List.getElem?_eq_getElem (by rw[List.length_set];exact lj)⟩
 exact hb2.st hz cx' fun st3 hb3 e3=>hk st3 hb3 (e2.trans e3)
theorem NQ {cmp:TV} (hc:Kk cmp) {I J:Int} {i j:Nat} {x y:List TV} {K:Int->St->Prop} (h:BxF st b n cap cks) (hI:I=(i:Int)) (hJ:J=(j:Int)) (hi:cks[i]? =some x) (hj:cks[j]? =some y) (hk:∀(r:Int) st',Al st st'->(r<0↔Op.bytesLess (D5 x) (D5 y)=true)->K r st'):
  ((0<=I/\I<(lenZ 14 (.ms 14 b 0 n cap):Int))/\Ar ((Aj st [] (.t (ixT 14 (.ms 14 b 0 n cap) (Int.toNat I))) 0 14).map TV.agg) (fun (x1:TV)=>BF [.str,.int .i64,.bool,.bool,.str,.int .i64,.int .i64,.int .i64,.int .i64,.int .i64,.str,.tv,.tv,.tv] x1 (fun (a0:B8) (a1:Int) (a2:Bool) (a3:Bool) (a4:B8) (a5:Int) (a6:Int) (a7:Int) (a8:Int) (a9:Int) (a10:B8) (a11:TV) (a12:TV) (a13:TV)=>((0<=J/\J<(lenZ 14 (.ms 14 b 0 n cap):Int))/\Ar ((Aj st [] (.t (ixT 14 (.ms 14 b 0 n cap) (Int.toNat J))) 0 14).map TV.agg) (fun (x2:TV)=>BF [.str,.int .i64,.bool,.bool,.str,.int .i64,.int .i64,.int .i64,.int .i64,.int .i64,.str,.tv,.tv,.tv] x2 (fun (c0:B8) (c1:Int) (c2:Bool) (c3:Bool) (c4:B8) (c5:Int) (c6:Int) (c7:Int) (c8:Int) (c9:Int) (c10:B8) (c11:TV) (c12:TV) (c13:TV)=>Et PR cmp [(.agg [(.str a0),(.int .i64 a1),(.bool a2),(.bool a3),(.str a4),(.int .i64 a5),(.int .i64 a6),(.int .i64 a7),(.int .i64 a8),(.int .i64 a9),(.str a10),a11,a12,a13]),(.agg [(.str c0),(.int .i64 c1),(.bool c2),(.bool c3),(.str c4),(.int .i64 c5),(.int .i64 c6),(.int .i64 c7),(.int .i64 c8),(.int .i64 c9),(.str c10),c11,c12,c13])] [.one (.int .i64)] st K)))))):=by
 subst hI hJ
 have li:=(List.getElem?_eq_some_iff.1 hi).1
 have lj:=(List.getElem?_eq_some_iff.1 hj).1
 have cx:=h.ck _ (List.mem_of_getElem? hi)
 have cy:=h.ck _ (List.mem_of_getElem? hj)
 have l1:=h.ld hi
 have l2:=h.ld hj
 have cx':=cx
 have cy':=cy
 simp only[Int.toNat_natCast]
 rw[h.lenZ]
 obtain⟨kx,n1,b1,b2,s2,n2,n3,n4,n5,n6,s3,u1,u2,u3,rfl,_⟩:=cx
 obtain⟨ky,m1,c1,c2,t2,m2,m3,m4,m5,m6,t3,v1,v2,v3,rfl,_⟩:=cy
 exact⟨⟨by omega,by omega⟩,Ae l1 (Hp ⟨⟨by omega,by omega⟩,Ae l2 (Hp (hc _ _ _ _ cx' cy' hk))⟩)⟩
theorem BxF.ext {st':St} (h:BxF st b n cap cks) (e:Al st st'):BxF st' b n cap cks:=⟨Nat.lt_of_lt_of_le h.lt e.nb,h.len,h.le,h.ck,by
 obtain⟨t,h1,h2⟩:=h.box
 exact⟨t,(e.box b h.lt).trans h1,h2⟩⟩
end
end
section
theorem Fn:∀x:B8,Op.bytesLess x x=false
 | []=>rfl
 | a::x=>by
  have:=Fn x
  simp[Op.bytesLess,this]
theorem IB:∀x y:B8,Op.bytesLess x y=true->Op.bytesLess y x=false
 | [],[],h=>by cases h
 | [],b::y,h=>rfl
 | a::x,[],h=>by cases h
 | a::x,b::y,h=>by
  simp only[Op.bytesLess,Bool.or_eq_true,Bool.and_eq_true,decide_eq_true_eq,beq_iff_eq]at h
  simp only[Op.bytesLess,Bool.or_eq_false_iff,Bool.and_eq_false_iff,decide_eq_false_iff_not,beq_eq_false_iff_ne]
  rcases h with h | ⟨rfl,h⟩
  ·exact⟨fun g=>absurd (UInt8.lt_trans h g) (UInt8.lt_irrefl _),.inl (fun e=>by subst e;exact UInt8.lt_irrefl _ h)⟩
  ·exact⟨UInt8.lt_irrefl _,.inr (IB x y h)⟩
theorem EW:∀x y z:B8,Op.bytesLess y x=false->Op.bytesLess z y=false->Op.bytesLess z x=false
 | [],_,[],_,_=>rfl
 | a::x,_,[],h1,h2=>by
  rename_i y
  cases y with
  | nil=>cases h1
  | cons b y=>cases h2
 | [],y,c::z,_,_=>rfl
 | a::x,[],c::z,h1,h2=>by cases h1
 | a::x,b::y,c::z,h1,h2=>by
  simp only[Op.bytesLess,Bool.or_eq_false_iff,Bool.and_eq_false_iff,decide_eq_false_iff_not,beq_eq_false_iff_ne,UInt8.not_lt]at h1 h2⊢
  obtain⟨h1,h3⟩:=h1
  obtain⟨h2,h4⟩:=h2
  refine⟨UInt8.le_trans h1 h2,?_⟩
  by_cases hca:c=a
  ·right
   subst hca
   have hbc:b=c:=UInt8.le_antisymm h2 h1
   subst hbc
   exact EW x y z (h3.resolve_left (fun h=>h rfl)) (h4.resolve_left (fun h=>h rfl))
  ·exact .inl hca
def lek (c d:List TV):Prop:=Op.bytesLess (D5 d) (D5 c)=false
theorem HI (x y z:List TV) (h1:lek x y) (h2:lek y z):lek x z:=EW _ _ _ h1 h2
theorem Je (x:List TV):lek x x:=Fn _
theorem Fo {x y:List TV} (h:Op.bytesLess (D5 x) (D5 y)=true):lek x y:=IB _ _ h
section
variable {st:St} {b n cap:Nat}
theorem Jh {P L Q:List (List TV)} {cmp:TV} (hc:Kk cmp) (h:BxF st b n cap (P++L++Q)) (hn:n<=100000000) {A B:Int} (hA:A=(P.length:Int)) (hB:B=((P.length+L.length:Nat):Int)) {K:St->Prop}
  (hk:∀st' M,M.Perm L->Srt lek M->BxF st' b n cap (P++M++Q)->StX (·=b) st st'->K st'):
  CallT PR AM [.ms 14 b 0 n cap,.int .i64 A,.int .i64 B,cmp] [] st K:=by
 have hlen:=h.len
 simp only[List.length_append]at hlen
 refine Bm _ A B cmp st K ⟨fun i d a b' c' st'=>d= .ms 14 b 0 n cap/\a=A/\b'=B/\cmp=c'/\∃(k:Nat) (M R:List (List TV)),i=((P.length+k:Nat):Int)/\1<=k/\k<=L.length+1/\M.length=min k L.length/\(M++R).Perm L/\Srt lek M/\BxF st' b n cap (P++M++R++Q)/\StX (·=b) st st',
  fun i _ _ _ _ _=>(P.length+L.length+1-i).toNat,⟨rfl,rfl,rfl,rfl,1,L.take 1,L.drop 1,?_,Nat.le_refl _,by omega,by simp,(by rw[List.take_append_drop]),?_,(by rw[List.append_assoc P,List.take_append_drop];exact h),StX.refl _ _⟩,?_⟩
 ·rw[Ai _ (by omega) (by omega)];omega
 ·cases L with
  | nil=>exact List.Pairwise.nil
  | cons x L=>exact List.pairwise_singleton _ _
 rintro _ _ _ _ _ st1 ⟨rfl,rfl,rfl,rfl,k,M,R,rfl,hk1,hkl,hM,hp,hs,hb,e⟩
 subst hA hB
 refine Ab (fun g=>?_) fun g=>?_
 ·have hml:M.length=k:=by omega
  have hpl:=hp.length_eq
  simp only[List.length_append]at hpl
  obtain⟨x,R',rfl⟩:∃x R',R=x::R':=by cases R with | nil=>simp at hpl;omega | cons x R=>exact⟨x,R,rfl⟩
  simp only[List.length_cons]at hpl
  refine⟨fun j d a b' c' i' st'=>d= .ms 14 b 0 n cap/\a=(P.length:Int)/\b'=((P.length+L.length:Nat):Int)/\cmp=c'/\i'=((P.length+k:Nat):Int)/\∃A' B':List (List TV),j=((P.length+A'.length:Nat):Int)/\A'.length+B'.length=k/\(A'++x::B'++R').Perm L/\Srt lek (A'++B')/\(∀y,B'.head? =some y->lek x y)/\BxF st' b n cap (P++(A'++x::B')++R'++Q)/\StX (·=b) st st',
   fun j _ _ _ _ _ _=>j.toNat,⟨rfl,rfl,rfl,rfl,rfl,M,[],by omega,by simpa using hml,by simpa using hp,by simpa using hs,fun y hy=>by simp at hy,by simpa using hb,e⟩,?_⟩
  rintro _ _ _ _ _ _ st2 ⟨rfl,rfl,rfl,rfl,rfl,A',B',rfl,hab,hp2,hs2,hx,hb2,e2⟩
  have hp2l:=hp2.length_eq
  simp only[List.length_append,List.length_cons]at hp2l
  have next:∀st',StX (·=b) st st'->BxF st' b n cap (P++(A'++x::B')++R'++Q)->(∀y,A'.getLast? =some y->lek y x)->
    ∃(k':Nat) (M R:List (List TV)),i64.wrap (((P.length+k:Nat):Int)+1)=((P.length+k':Nat):Int)/\1<=k'/\k'<=L.length+1/\M.length=min k' L.length/\(M++R).Perm L/\Srt lek M/\BxF st' b n cap (P++M++R++Q)/\StX (·=b) st st':=fun st' e' hb' hy=>
   ⟨k+1,A'++x::B',R',by rw[Ai _ (by omega) (by omega)];omega,by omega,by omega,by simp only[List.length_append,List.length_cons];omega,hp2,Nk HI Je hs2 hy hx,hb',e'⟩
  have ms:(P.length+L.length+1-i64.wrap (((P.length+k:Nat):Int)+1)).toNat<(P.length+L.length+1-((P.length+k:Nat):Int)).toNat:=by
   rw[Ai _ (by omega) (by omega)];omega
  refine Ab (fun g2=>?_) fun g2=>?_
  ·have hA0:A'≠ []:=by intro h0;subst h0;simp at g2
   obtain⟨A'',y,hA'⟩:∃A'' y,A'=A''++[y]:=⟨_,_,(List.dropLast_concat_getLast hA0).symm⟩
   subst hA'
   simp only[List.length_append,List.length_cons,List.length_nil]at hab g2 hp2l
   have wj:i64.wrap (((P.length+(A''++[y]).length:Nat):Int)-1)=((P.length+A''.length:Nat):Int):=by
    rw[Ai _ (by simp;omega) (by simp;omega)];simp;omega
   have ec:P++(A''++[y]++x::B')++R'++Q=(P++A'')++y::x::(B'++R'++Q):=by simp
   have gi:(P++(A''++[y]++x::B')++R'++Q)[P.length+(A''++[y]).length]? =some x:=by
    rw[ec,List.getElem?_append_right (by simp)]
    simp[show P.length+(A''.length+1)-(P.length+A''.length)=1 by omega]
   have gj:(P++(A''++[y]++x::B')++R'++Q)[P.length+A''.length]? =some y:=by
    rw[ec,List.getElem?_append_right (by simp)]
    simp
   rw[wj]
   refine NQ hc hb2 rfl rfl gi gj fun r st3 e3 hr=>?_
   have hb3:=hb2.ext e3
   have e23:=e2.trans (StX.of e3)
   refine Ab (fun g3=>?_) fun g3=>?_
   ·refine Nh hb3 rfl rfl gi gj fun st4 hb4 e4=>?_
    have hset:((P++(A''++[y]++x::B')++R'++Q).set (P.length+(A''++[y]).length) y).set (P.length+A''.length) x=P++(A''++x::y::B')++R'++Q:=by
     rw[ec,List.set_append_right _ _ (by simp)]
     rw[show P.length+(A''++[y]).length-(P++A'').length=1 by simp only[List.length_append,List.length_cons,List.length_nil];omega,List.set_cons_succ,List.set_cons_zero,List.set_append_right _ _ (by simp)]
     rw[show P.length+A''.length-(P++A'').length=0 by simp,List.set_cons_zero]
     simp
    rw[hset]at hb4
    refine⟨⟨rfl,rfl,rfl,rfl,rfl,A'',y::B',rfl,by simp only[List.length_cons];omega,?_,by simpa using hs2,fun z hz=>?_,hb4,e23.trans e4⟩,by simp;omega⟩
    ·refine List.Perm.trans ?_ hp2
     simp only[List.append_assoc,List.cons_append,List.nil_append]
     exact List.Perm.append_left _ (List.Perm.swap _ _ _)
    ·simp at hz;subst hz
     exact Fo (hr.1 g3)
   ·refine⟨⟨rfl,rfl,rfl,rfl,next st3 e23 hb3 fun z hz=>?_⟩,ms⟩
    simp at hz;subst hz
    cases hq:Op.bytesLess (D5 x) (D5 y)with
    | true=>exact absurd (hr.2 hq) g3
    | false=>exact hq
  ·have hA0:A'=[]:=by
    cases A' with
    | nil=>rfl
    | cons z A'=>simp at g2;omega
   exact⟨⟨rfl,rfl,rfl,rfl,next st2 e2 hb2 fun z hz=>by subst hA0;simp at hz⟩,ms⟩
 ·have hp':=hp.length_eq
  simp only[List.length_append]at hp'
  have hR:R=[]:=List.eq_nil_of_length_eq_zero (by omega)
  subst hR
  exact hk st1 M (by simpa using hp) hs (by simpa using hb) e
end
end
section
theorem Jj (i j:Nat) (h:i+j<=1000000000):i64.wrap (Int.fdiv (IntKind.u64.wrap (i64.wrap ((i:Int)+(j:Int)))) (2^(min (Int.toNat (1:Int)) (IntKind.bits .u64))))=(((i+j)/2:Nat):Int):=by
 rw[Ai ((i:Int)+(j:Int)) (by omega) (by omega)]
 have hu:IntKind.u64.wrap ((i:Int)+(j:Int))=((i+j:Nat):Int):=by
  unfold IntKind.wrap
  simp only[IntKind.signed,IntKind.bits]
  simp
  omega
 rw[hu]
 have h2:((2:Int)^(min (Int.toNat (1:Int)) (IntKind.bits .u64)))=2:=by decide
 rw[h2]
 have h3:Int.fdiv ((i+j:Nat):Int) 2=(((i+j)/2:Nat):Int):=by
  rw[Int.fdiv_eq_ediv_of_nonneg _ (by omega)];omega
 rw[h3,Ai _ (by omega) (by omega)]
theorem ED {α:Type} {l:List α} {k:Nat} {x:α} (h:l[k]? =some x):(l.take (k+1)).getLast? =some x:=by
 obtain⟨hk,rfl⟩:=List.getElem?_eq_some_iff.1 h
 rw[List.take_succ_eq_append_getElem hk,List.getLast?_concat]
theorem HJ {α:Type} {l:List α} {k:Nat} {x:α} (h:l[k]? =some x):(l.drop k).head? =some x:=by
 rw[List.head?_drop,h]
section
variable {st:St} {b n cap:Nat}
theorem sm_one {P R Q:List (List TV)} {x:List TV} {cmp:TV} (hc:Kk cmp) (h:BxF st b n cap (P++[x]++R++Q)) (hn:n<=100000000) (hs:Srt lek R) (hR:0<R.length) {A M B:Int} (hA:A=(P.length:Int)) (hM:M=((P.length+1:Nat):Int)) (hB:B=((P.length+1+R.length:Nat):Int)) {K:St->Prop}
  (hk:∀st' W,W.Perm ([x]++R)->Srt lek W->BxF st' b n cap (P++W++Q)->StX (·=b) st st'->K st'):
  CallT PR Ad [.ms 14 b 0 n cap,.int .i64 A,.int .i64 M,.int .i64 B,cmp] [] st K:=by
 have hlen:=h.len
 simp only[List.length_append,List.length_cons,List.length_nil]at hlen
 refine A4 _ A M B cmp st K (Ab (fun _=>?_) fun g=>absurd (by subst hA hM;rw[Ai _ (by omega) (by omega)];omega) g)
 refine⟨fun i j d a c' st'=>d= .ms 14 b 0 n cap/\a=A/\cmp=c'/\∃u v:Nat,i=((P.length+1+u:Nat):Int)/\j=((P.length+1+v:Nat):Int)/\u<=v/\v<=R.length/\(∀y,(R.take u).getLast? =some y->lek y x)/\(∀y,(R.drop v).head? =some y->lek x y)/\BxF st' b n cap (P++[x]++R++Q)/\StX (·=b) st st',
  fun i j _ _ _ _=>(j-i).toNat,⟨rfl,rfl,rfl,0,R.length,by omega,by omega,Nat.zero_le _,Nat.le_refl _,fun y hy=>by simp at hy,fun y hy=>by simp at hy,h,StX.refl _ _⟩,?_⟩
 rintro _ _ _ _ _ st1 ⟨rfl,rfl,rfl,u,v,rfl,rfl,huv,hv,h1,h2,hb,e⟩
 subst hA hM hB
 have gx:(P++[x]++R++Q)[P.length]? =some x:=by simp
 refine Ab (fun g=>?_) fun g=>?_
 ·rw[Jj _ _ (by omega)]
  obtain⟨w,hw⟩:∃w,(P.length+1+u+(P.length+1+v))/2=P.length+1+w:=⟨(u+v)/2,by omega⟩
  have hwu:u<=w:=by omega
  have hwv:w<v:=by omega
  have hwr:w<R.length:=by omega
  rw[hw]
  have gy:(P++[x]++R++Q)[P.length+1+w]? =some R[w]:=by
   rw[List.append_assoc (P++[x]),List.getElem?_append_right (by simp only[List.length_append,List.length_cons,List.length_nil];omega),List.getElem?_append_left (by simp only[List.length_append,List.length_cons,List.length_nil];omega)]
   simp[show P.length+1+w-(P.length+1)=w by omega,hwr]
  have gw:R[w]? =some R[w]:=List.getElem?_eq_getElem hwr
  refine NQ hc hb rfl rfl gy gx fun r st2 e2 hr=>?_
  have hb2:=hb.ext e2
  have e12:=e.trans (StX.of e2)
  refine Ab (fun g3=>?_) fun g3=>?_
  ·exact⟨⟨rfl,rfl,rfl,w+1,v,by rw[Ai _ (by omega) (by omega)];omega,rfl,by omega,hv,fun y hy=>by rw[ED gw]at hy;cases hy;exact Fo (hr.1 g3),h2,hb2,e12⟩,by dsimp only;rw[Ai _ (by omega) (by omega)];omega⟩
  ·refine⟨⟨rfl,rfl,rfl,u,w,rfl,rfl,hwu,by omega,h1,fun y hy=>?_,hb2,e12⟩,by dsimp only;omega⟩
   rw[HJ gw]at hy;cases hy
   cases hq:Op.bytesLess (D5 R[w]) (D5 x)with
   | true=>exact absurd (hr.2 hq) g3
   | false=>exact hq
 ·obtain rfl:u=v:=by omega
  refine⟨fun k d i st'=>d= .ms 14 b 0 n cap/\i=((P.length+1+u:Nat):Int)/\∃w:Nat,k=((P.length+w:Nat):Int)/\w<=u/\BxF st' b n cap (P++R.take w++[x]++R.drop w++Q)/\StX (·=b) st st',
   fun k _ _ _=>(P.length+u-k).toNat,⟨rfl,rfl,0,by omega,Nat.zero_le _,by simpa using hb,e⟩,?_⟩
  rintro _ _ _ st3 ⟨rfl,rfl,w,rfl,hwu,hb3,e3⟩
  have wi:i64.wrap (((P.length+1+u:Nat):Int)-1)=((P.length+u:Nat):Int):=by rw[Ai _ (by omega) (by omega)];omega
  rw[wi]
  refine Ab (fun g4=>?_) fun g4=>?_
  ·have hwr:w<R.length:=by omega
   have wk:i64.wrap (((P.length+w:Nat):Int)+1)=((P.length+w+1:Nat):Int):=by rw[Ai _ (by omega) (by omega)];omega
   have hd:R.drop w=R[w]::R.drop (w+1):=List.drop_eq_getElem_cons hwr
   have ec:P++R.take w++[x]++R.drop w++Q=(P++R.take w)++x::R[w]::(R.drop (w+1)++Q):=by rw[hd];simp only[List.append_assoc,List.cons_append,List.nil_append]
   have lc:(P++R.take w).length=P.length+w:=by simp;omega
   rw[ec]at hb3
   have gi:((P++R.take w)++x::R[w]::(R.drop (w+1)++Q))[P.length+w]? =some x:=by
    rw[List.getElem?_append_right (by omega),lc,Nat.sub_self];rfl
   have gj:((P++R.take w)++x::R[w]::(R.drop (w+1)++Q))[P.length+w+1]? =some R[w]:=by
    rw[List.getElem?_append_right (by omega),lc,show P.length+w+1-(P.length+w)=1 by omega];rfl
   rw[wk]
   refine Nh hb3 rfl rfl gi gj fun st4 hb4 e4=>⟨⟨rfl,rfl,w+1,rfl,by omega,?_,e3.trans e4⟩,by dsimp only;omega⟩
   have hset:((((P++R.take w)++x::R[w]::(R.drop (w+1)++Q)).set (P.length+w) R[w]).set (P.length+w+1) x)=P++R.take (w+1)++[x]++R.drop (w+1)++Q:=by
    rw[List.set_append_right _ _ (by omega),lc,Nat.sub_self,List.set_cons_zero,List.set_append_right _ _ (by omega),lc,show P.length+w+1-(P.length+w)=1 by omega,List.set_cons_succ,List.set_cons_zero]
    have t1:R.take (w+1)=R.take w++[R[w]]:=by rw[List.take_succ_eq_append_getElem hwr]
    rw[t1];simp only[List.append_assoc,List.cons_append,List.nil_append]
   rw[hset]at hb4
   exact hb4
  ·obtain rfl:w=u:=by omega
   refine hk st3 (R.take w++x::R.drop w) ?_ (Nk HI Je (by rw[List.take_append_drop];exact hs) h1 h2) (by simpa using hb3) e3
   refine List.perm_middle.trans ?_
   rw[List.take_append_drop];exact List.Perm.refl _
theorem sm_two {P L Q:List (List TV)} {x:List TV} {cmp:TV} (hc:Kk cmp) (h:BxF st b n cap (P++L++[x]++Q)) (hn:n<=100000000) (hs:Srt lek L) (hL:1<L.length) {A M B:Int} (hA:A=(P.length:Int)) (hM:M=((P.length+L.length:Nat):Int)) (hB:B=((P.length+L.length+1:Nat):Int)) {K:St->Prop}
  (hk:∀st' W,W.Perm (L++[x])->Srt lek W->BxF st' b n cap (P++W++Q)->StX (·=b) st st'->K st'):
  CallT PR Ad [.ms 14 b 0 n cap,.int .i64 A,.int .i64 M,.int .i64 B,cmp] [] st K:=by
 have hlen:=h.len
 simp only[List.length_append,List.length_cons,List.length_nil]at hlen
 refine A4 _ A M B cmp st K (Ab (fun g=>absurd g (by subst hA hM;rw[Ai _ (by omega) (by omega)];omega)) fun _=>Ab (fun _=>?_) fun g=>absurd (by subst hB hM;rw[Ai _ (by omega) (by omega)];omega) g)
 refine⟨fun i j d m c' st'=>d= .ms 14 b 0 n cap/\m=M/\cmp=c'/\∃u v:Nat,i=((P.length+u:Nat):Int)/\j=((P.length+v:Nat):Int)/\u<=v/\v<=L.length/\(∀y,(L.take u).getLast? =some y->lek y x)/\(∀y,(L.drop v).head? =some y->lek x y)/\BxF st' b n cap (P++L++[x]++Q)/\StX (·=b) st st',
  fun i j _ _ _ _=>(j-i).toNat,⟨rfl,rfl,rfl,0,L.length,by omega,by omega,Nat.zero_le _,Nat.le_refl _,fun y hy=>by simp at hy,fun y hy=>by simp at hy,h,StX.refl _ _⟩,?_⟩
 rintro _ _ _ _ _ st1 ⟨rfl,rfl,rfl,u,v,rfl,rfl,huv,hv,h1,h2,hb,e⟩
 subst hA hM hB
 have gx:(P++L++[x]++Q)[P.length+L.length]? =some x:=by
  rw[List.append_assoc (P++L),List.getElem?_append_right (by simp),List.length_append,Nat.sub_self];rfl
 refine Ab (fun g=>?_) fun g=>?_
 ·rw[Jj _ _ (by omega)]
  obtain⟨w,hw⟩:∃w,(P.length+u+(P.length+v))/2=P.length+w:=⟨(u+v)/2,by omega⟩
  have hwu:u<=w:=by omega
  have hwv:w<v:=by omega
  have hwr:w<L.length:=by omega
  rw[hw]
  have gy:(P++L++[x]++Q)[P.length+w]? =some L[w]:=by
   rw[List.append_assoc,List.append_assoc,List.getElem?_append_right (by omega),List.getElem?_append_left (by omega),Nat.add_sub_cancel_left]
   exact List.getElem?_eq_getElem hwr
  have gw:L[w]? =some L[w]:=List.getElem?_eq_getElem hwr
  refine NQ hc hb rfl rfl gx gy fun r st2 e2 hr=>?_
  have hb2:=hb.ext e2
  have e12:=e.trans (StX.of e2)
  refine AD (fun g3=>?_) fun g3=>?_
  ·refine⟨⟨rfl,rfl,rfl,w+1,v,by rw[Ai _ (by omega) (by omega)];omega,rfl,by omega,hv,fun y hy=>?_,h2,hb2,e12⟩,by dsimp only;rw[Ai _ (by omega) (by omega)];omega⟩
   rw[ED gw]at hy;cases hy
   cases hq:Op.bytesLess (D5 x) (D5 L[w])with
   | true=>have:=hr.2 hq;simp at g3;omega
   | false=>exact hq
  ·exact⟨⟨rfl,rfl,rfl,u,w,rfl,rfl,hwu,by omega,h1,fun y hy=>by rw[HJ gw]at hy;cases hy;exact Fo (hr.1 (by simpa using g3)),hb2,e12⟩,by dsimp only;omega⟩
 ·obtain rfl:u=v:=by omega
  refine⟨fun k d i st'=>d= .ms 14 b 0 n cap/\i=((P.length+u:Nat):Int)/\∃w:Nat,k=((P.length+w:Nat):Int)/\u<=w/\w<=L.length/\BxF st' b n cap (P++L.take w++[x]++L.drop w++Q)/\StX (·=b) st st',
   fun k _ _ _=>k.toNat,⟨rfl,rfl,L.length,by omega,hv,Nat.le_refl _,by simpa using hb,e⟩,?_⟩
  rintro _ _ _ st3 ⟨rfl,rfl,w,rfl,hwu,hwl,hb3,e3⟩
  refine Ab (fun g4=>?_) fun g4=>?_
  ·obtain⟨w,rfl⟩:∃w',w=w'+1:=⟨w-1,by omega⟩
   have hwr:w<L.length:=by omega
   have wk:i64.wrap (((P.length+(w+1):Nat):Int)-1)=((P.length+w:Nat):Int):=by rw[Ai _ (by omega) (by omega)];omega
   have t1:L.take (w+1)=L.take w++[L[w]]:=by rw[List.take_succ_eq_append_getElem hwr]
   have ec:P++L.take (w+1)++[x]++L.drop (w+1)++Q=(P++L.take w)++L[w]::x::(L.drop (w+1)++Q):=by rw[t1];simp only[List.append_assoc,List.cons_append,List.nil_append]
   have lc:(P++L.take w).length=P.length+w:=by simp;omega
   rw[ec]at hb3
   have gi:((P++L.take w)++L[w]::x::(L.drop (w+1)++Q))[P.length+(w+1)]? =some x:=by
    rw[List.getElem?_append_right (by omega),lc,show P.length+(w+1)-(P.length+w)=1 by omega];rfl
   have gj:((P++L.take w)++L[w]::x::(L.drop (w+1)++Q))[P.length+w]? =some L[w]:=by
    rw[List.getElem?_append_right (by omega),lc,Nat.sub_self];rfl
   rw[wk]
   refine Nh hb3 rfl rfl gi gj fun st4 hb4 e4=>⟨⟨rfl,rfl,w,rfl,by omega,by omega,?_,e3.trans e4⟩,by dsimp only;omega⟩
   have hset:((((P++L.take w)++L[w]::x::(L.drop (w+1)++Q)).set (P.length+(w+1)) L[w]).set (P.length+w) x)=P++L.take w++[x]++L.drop w++Q:=by
    rw[List.set_append_right _ _ (by omega),lc,show P.length+(w+1)-(P.length+w)=1 by omega,List.set_cons_succ,List.set_cons_zero,List.set_append_right _ _ (by omega),lc,Nat.sub_self,List.set_cons_zero]
    have hd:L.drop w=L[w]::L.drop (w+1):=List.drop_eq_getElem_cons hwr
    rw[hd];simp only[List.append_assoc,List.cons_append,List.nil_append]
   rw[hset]at hb4
   exact hb4
  ·obtain rfl:w=u:=by omega
   refine hk st3 (L.take w++x::L.drop w) ?_ (Nk HI Je (by rw[List.take_append_drop];exact hs) h1 h2) (by simpa using hb3) e3
   refine List.perm_middle.trans ?_
   rw[List.take_append_drop]
   exact List.perm_append_comm (l₁:=[x])
end
end
section
section
variable {b n cap:Nat}
theorem J5 {cmp:TV} (hc:Kk cmp) (hn:n<=100000000):∀(N:Nat) {st:St} {P L R Q:List (List TV)} {A M B:Int} {K:St->Prop},L.length+R.length<=N->0<L.length->0<R.length->BxF st b n cap (P++L++R++Q)->Srt lek L->Srt lek R->
  A=(P.length:Int)->M=((P.length+L.length:Nat):Int)->B=((P.length+L.length+R.length:Nat):Int)->
  (∀st' W,W.Perm (L++R)->Srt lek W->BxF st' b n cap (P++W++Q)->StX (·=b) st st'->K st')->
  CallT PR Ad [.ms 14 b 0 n cap,.int .i64 A,.int .i64 M,.int .i64 B,cmp] [] st K:=by
 intro N
 induction N with
 | zero=>intro st P L R Q A M B K h0 h1;omega
 | succ N ih=>
 intro st P L R Q A M B K hN hL hR h sL sR hA hM hB hk
 have hlen:=h.len
 simp only[List.length_append]at hlen
 by_cases hL1:L.length=1
 ·obtain⟨x,rfl⟩:=List.length_eq_one_iff.1 hL1
  exact sm_one hc h hn sR hR hA (by simpa using hM) (by simpa using hB) hk
 by_cases hR1:R.length=1
 ·obtain⟨x,rfl⟩:=List.length_eq_one_iff.1 hR1
  exact sm_two hc h hn sL (by omega) hA hM (by simpa using hB) hk
 subst hA hM hB
 refine A4 _ _ _ _ cmp st K (Ab (fun g=>absurd g (by rw[Ai _ (by omega) (by omega)];omega)) fun _=>Ab (fun g=>absurd g (by rw[Ai _ (by omega) (by omega)];omega)) fun _=>?_)
 obtain⟨H,hH⟩:∃H,H=(L.length+R.length)/2:=⟨_,rfl⟩
 have hmid:=Jj P.length (P.length+L.length+R.length) (by omega)
 have hmid2:(P.length+(P.length+L.length+R.length))/2=P.length+H:=by omega
 rw[hmid2]at hmid
 rw[hmid]
 --the bounds of the search
 obtain⟨u0,v0,hb0⟩:∃u0 v0:Nat,(P.length+H<P.length+L.length->u0=H-R.length/\v0=H)/\(¬P.length+H<P.length+L.length->u0=0/\v0=L.length):=by
  by_cases g:P.length+H<P.length+L.length
  ·exact⟨H-R.length,H,fun _=>⟨rfl,rfl⟩,fun g'=>absurd g g'⟩
  ·exact⟨0,L.length,fun g'=>absurd g' g,fun _=>⟨rfl,rfl⟩⟩
 have hnw:i64.wrap (((P.length+H:Nat):Int)+((P.length+L.length:Nat):Int))=((P.length+H+(P.length+L.length):Nat):Int):=by rw[Ai _ (by omega) (by omega)];omega
 rw[hnw]
 refine⟨fun s r d a m b' c mid n' st'=>d= .ms 14 b 0 n cap/\a=(P.length:Int)/\m=((P.length+L.length:Nat):Int)/\b'=((P.length+L.length+R.length:Nat):Int)/\cmp=c/\mid=((P.length+H:Nat):Int)/\n'=((P.length+H+(P.length+L.length):Nat):Int)/\st=st'/\s=((P.length+u0:Nat):Int)/\r=((P.length+v0:Nat):Int),?_,?_⟩
 ·refine Ab (fun g=>?_) fun g=>?_
  ·obtain⟨h1,h2⟩:=hb0.1 (by omega)
   exact⟨rfl,rfl,rfl,rfl,rfl,rfl,rfl,rfl,by rw[Ai _ (by omega) (by omega)];omega,by omega⟩
  ·obtain⟨h1,h2⟩:=hb0.2 (by omega)
   exact⟨rfl,rfl,rfl,rfl,rfl,rfl,rfl,rfl,by omega,by omega⟩
 rintro _ _ _ _ _ _ _ _ _ _ ⟨rfl,rfl,rfl,rfl,rfl,rfl,rfl,rfl,rfl,rfl⟩
 have hu0:u0<=v0/\v0<=L.length/\v0<=H/\H<=u0+R.length:=by
  by_cases g:P.length+H<P.length+L.length
  ·obtain⟨h1,h2⟩:=hb0.1 g;omega
  ·obtain⟨h1,h2⟩:=hb0.2 g;omega
 obtain⟨q1,q2,q3,q4⟩:=hu0
 refine⟨fun s r d a m b' c mid n' p st'=>d= .ms 14 b 0 n cap/\a=(P.length:Int)/\m=((P.length+L.length:Nat):Int)/\b'=((P.length+L.length+R.length:Nat):Int)/\cmp=c/\mid=((P.length+H:Nat):Int)/\n'=((P.length+H+(P.length+L.length):Nat):Int)/\p=((P.length+H+(P.length+L.length):Nat):Int)-1/\
   ∃u v:Nat,s=((P.length+u:Nat):Int)/\r=((P.length+v:Nat):Int)/\u0<=u/\u<=v/\v<=v0/\(∀x,(L.take u).getLast? =some x->∀y,(R.drop (H-u)).head? =some y->lek x y)/\(∀x,(R.take (H-v)).getLast? =some x->∀y,(L.drop v).head? =some y->lek x y)/\BxF st' b n cap (P++L++R++Q)/\StX (·=b) st st',
  fun s r _ _ _ _ _ _ _ _ _=>(r-s).toNat,⟨rfl,rfl,rfl,rfl,rfl,rfl,rfl,by rw[Ai _ (by omega) (by omega)],u0,v0,rfl,rfl,Nat.le_refl _,q1,Nat.le_refl _,?_,?_,h,StX.refl _ _⟩,?_⟩
 ·intro x hx y hy
  by_cases g:P.length+H<P.length+L.length
  ·obtain⟨h1,h2⟩:=hb0.1 g
   rw[List.drop_of_length_le (by omega)]at hy;simp at hy
  ·obtain⟨h1,h2⟩:=hb0.2 g
   rw[h1]at hx;simp at hx
 ·intro x hx y hy
  by_cases g:P.length+H<P.length+L.length
  ·obtain⟨h1,h2⟩:=hb0.1 g
   rw[h2,Nat.sub_self]at hx;simp at hx
  ·obtain⟨h1,h2⟩:=hb0.2 g
   rw[h2,List.drop_length]at hy;simp at hy
 rintro _ _ _ _ _ _ _ _ _ _ st1 ⟨rfl,rfl,rfl,rfl,rfl,rfl,rfl,rfl,u,v,rfl,rfl,hu,huv,hv,j1,j2,hb,e⟩
 refine Ab (fun g=>?_) fun g=>?_
 ·--one step of the search
  rw[Jj _ _ (by omega)]
  obtain⟨w,hw⟩:∃w,(P.length+u+(P.length+v))/2=P.length+w:=⟨(u+v)/2,by omega⟩
  have hwu:u<=w:=by omega
  have hwv:w<v:=by omega
  have hwl:w<L.length:=by omega
  have hwr:H-w-1<R.length:=by omega
  rw[hw]
  have wp:i64.wrap (((P.length+H+(P.length+L.length):Nat):Int)-1-((P.length+w:Nat):Int))=((P.length+L.length+(H-w-1):Nat):Int):=by rw[Ai _ (by omega) (by omega)];omega
  rw[wp]
  have gy:(P++L++R++Q)[P.length+w]? =some L[w]:=by
   rw[List.append_assoc,List.append_assoc,List.getElem?_append_right (by omega),List.getElem?_append_left (by omega),Nat.add_sub_cancel_left]
   exact List.getElem?_eq_getElem hwl
  have gx:(P++L++R++Q)[P.length+L.length+(H-w-1)]? =some R[H-w-1]:=by
   rw[List.append_assoc (P++L),List.getElem?_append_right (by rw[List.length_append];omega),List.length_append,Nat.add_sub_cancel_left,List.getElem?_append_left hwr]
   exact List.getElem?_eq_getElem hwr
  have ly:L[w]? =some L[w]:=List.getElem?_eq_getElem hwl
  have lx:R[H-w-1]? =some R[H-w-1]:=List.getElem?_eq_getElem hwr
  refine NQ hc hb rfl rfl gx gy fun r st2 e2 hr=>?_
  have hb2:=hb.ext e2
  have e12:=e.trans (StX.of e2)
  refine AD (fun g3=>?_) fun g3=>?_
  ·refine⟨⟨rfl,rfl,rfl,rfl,rfl,rfl,rfl,rfl,w+1,v,by rw[Ai _ (by omega) (by omega)];omega,rfl,by omega,by omega,hv,fun x hx y hy=>?_,j2,hb2,e12⟩,by dsimp only;rw[Ai _ (by omega) (by omega)];omega⟩
   rw[ED ly]at hx;cases hx
   rw[show H-(w+1)=H-w-1 by omega,HJ lx]at hy;cases hy
   cases hq:Op.bytesLess (D5 R[H-w-1]) (D5 L[w])with
   | true=>have:=hr.2 hq;simp at g3;omega
   | false=>exact hq
  ·refine⟨⟨rfl,rfl,rfl,rfl,rfl,rfl,rfl,rfl,u,w,rfl,rfl,hu,hwu,by omega,j1,fun x hx y hy=>?_,hb2,e12⟩,by dsimp only;omega⟩
   rw[show H-w=H-w-1+1 by omega,ED lx]at hx;cases hx
   rw[HJ ly]at hy;cases hy
   exact Fo (hr.1 (by simpa using g3))
 ·obtain rfl:u=v:=by omega
  obtain⟨E,hE⟩:∃E,E=H-u:=⟨_,rfl⟩
  rw[<-hE]at j1 j2
  have wend:i64.wrap (((P.length+H+(P.length+L.length):Nat):Int)-((P.length+u:Nat):Int))=((P.length+L.length+E:Nat):Int):=by rw[Ai _ (by omega) (by omega)];omega
  rw[wend]
  have hER:E<=R.length:=by omega
  have huL:u<=L.length:=by omega
  have dL:L=L.take u++L.drop u:=(List.take_append_drop _ _).symm
  have dR:R=R.take E++R.drop E:=(List.take_append_drop _ _).symm
  have a1:(L.take u).length=u:=by simp;omega
  have a2:(L.drop u).length=L.length-u:=by simp
  have a3:(R.take E).length=E:=by simp;omega
  have a4:(R.drop E).length=R.length-E:=by simp
  generalize hL1':L.take u=L1 at*
  generalize hL2':L.drop u=L2 at*
  generalize hR1':R.take E=R1 at*
  generalize hR2':R.drop E=R2 at*
  have sL':Srt lek (L1++L2):=dL▸sL
  have sR':Srt lek (R1++R2):=dR▸sR
  obtain⟨z1,z2,_⟩:=List.pairwise_append.1 sL'
  obtain⟨z3,z4,_⟩:=List.pairwise_append.1 sR'
  --the second half
  have second:∀st2 W1,W1.Perm (L1++R1)->Srt lek W1->BxF st2 b n cap (P++W1++L2++R2++Q)->StX (·=b) st st2->
    BIf (decide (((P.length+H:Nat):Int)<((P.length+L.length+E:Nat):Int))) (BIf (decide (((P.length+L.length+E:Nat):Int)<((P.length+L.length+R.length:Nat):Int)))
     (CallT PR Ad [.ms 14 b 0 n cap,.int .i64 ((P.length+H:Nat):Int),.int .i64 ((P.length+L.length+E:Nat):Int),.int .i64 ((P.length+L.length+R.length:Nat):Int),cmp] [] st2 (fun s=>K s)) (K st2)) (K st2):=by
   intro st2 W1 p1 s1 hb2 e2
   have lw:=p1.length_eq
   rw[List.length_append]at lw
   have fin:∀st3 W2,W2.Perm (L2++R2)->Srt lek W2->BxF st3 b n cap (P++W1++W2++Q)->StX (·=b) st st3->K st3:=fun st3 W2 p2 s2 hb3 e3=>by
    obtain⟨t1,t2⟩:=PK HI Je sL' sR' j2 j1 p1 p2 s1 s2
    exact hk st3 (W1++W2) (by rw[dL,dR];exact t1) t2 (by simpa using hb3) e3
   refine Ab (fun g1=>Ab (fun g2=>?_) fun g2=>?_) fun g1=>?_
   ·refine ih (P:=P++W1) (L:=L2) (R:=R2) (Q:=Q) (by omega) (by omega) (by omega) hb2 z2 z4 (by rw[List.length_append];omega) (by rw[List.length_append];omega) (by rw[List.length_append];omega) fun st3 W2 p2 s2 hb3 e3=>fin st3 W2 p2 s2 hb3 (e2.trans e3)
   ·have:R2=[]:=List.eq_nil_of_length_eq_zero (by omega)
    subst this
    exact fin st2 L2 (by simp) z2 (by simpa using hb2) e2
   ·have:L2=[]:=List.eq_nil_of_length_eq_zero (by omega)
    subst this
    exact fin st2 R2 (by simp) z4 (by simpa using hb2) e2
  --both halves
  have both:∀st2,BxF st2 b n cap (P++L1++R1++L2++R2++Q)->StX (·=b) st st2->
    (∀W1 st3,W1.Perm (L1++R1)->Srt lek W1->BxF st3 b n cap (P++W1++L2++R2++Q)->StX (·=b) st st3->True):=fun _ _ _ _ _ _ _ _ _=>trivial
  have firstCall:∀(st2:St) (K':St->Prop),0<L1.length->0<R1.length->BxF st2 b n cap (P++L1++R1++L2++R2++Q)->(∀st3 W1,W1.Perm (L1++R1)->Srt lek W1->BxF st3 b n cap (P++W1++L2++R2++Q)->StX (·=b) st2 st3->K' st3)->
    CallT PR Ad [.ms 14 b 0 n cap,.int .i64 (P.length:Int),.int .i64 ((P.length+u:Nat):Int),.int .i64 ((P.length+H:Nat):Int),cmp] [] st2 K':=by
   intro st2 K' y1 y2 hb2 hK'
   exact ih (P:=P) (L:=L1) (R:=R1) (Q:=L2++R2++Q) (by omega) y1 y2 (by simpa using hb2) z1 z3 rfl (by omega) (by omega) fun st3 W1 p1 s1 hb3 e3=>hK' st3 W1 p1 s1 (by simpa using hb3) e3
  have hb':BxF st1 b n cap (P++(L1++L2)++(R1++R2)++Q):=by rw[<-dL,<-dR];exact hb
  refine Ab (fun g1=>Ab (fun g2=>?_) fun g2=>?_) fun g1=>?_
  ·refine RL (P:=P++L1) (U:=L2) (V:=R1) (Q:=R2++Q) (by simpa using hb') hn (by omega) (by omega) (by rw[List.length_append];omega) (by rw[List.length_append];omega) (by rw[List.length_append];omega) fun st2 hb2 e2=>?_
   have hb2':BxF st2 b n cap (P++L1++R1++L2++R2++Q):=by simpa using hb2
   have e12:=e.trans e2
   refine Ab (fun g3=>Ab (fun g4=>?_) fun g4=>?_) fun g3=>?_
   ·exact firstCall st2 _ (by omega) (by omega) hb2' fun st3 W1 p1 s1 hb3 e3=>second st3 W1 p1 s1 hb3 (e12.trans e3)
   ·have:R1=[]:=List.eq_nil_of_length_eq_zero (by omega)
    subst this
    exact second st2 L1 (by simp) z1 (by simpa using hb2') e12
   ·have:L1=[]:=List.eq_nil_of_length_eq_zero (by omega)
    subst this
    exact second st2 R1 (by simp) z3 (by simpa using hb2') e12
  ·have hR0:R1=[]:=List.eq_nil_of_length_eq_zero (by omega)
   subst hR0
   have hb2':BxF st1 b n cap (P++L1++[]++L2++R2++Q):=by simpa using hb'
   refine Ab (fun g3=>Ab (fun g4=>?_) fun g4=>?_) fun g3=>?_
   ·exact absurd g4 (by simp at a3;omega)
   ·exact second st1 L1 (by simp) z1 (by simpa using hb2') e
   ·exact second st1 L1 (by simp) z1 (by simpa using hb2') e
  ·have hL0:L2=[]:=List.eq_nil_of_length_eq_zero (by omega)
   subst hL0
   have hb2':BxF st1 b n cap (P++L1++R1++[]++R2++Q):=by simpa using hb'
   refine Ab (fun g3=>Ab (fun g4=>?_) fun g4=>?_) fun g3=>?_
   ·exact firstCall st1 _ (by omega) (by omega) hb2' fun st3 W1 p1 s1 hb3 e3=>second st3 W1 p1 s1 hb3 (e.trans e3)
   ·have:R1=[]:=List.eq_nil_of_length_eq_zero (by omega)
    subst this
    exact second st1 L1 (by simp) z1 (by simpa using hb2') e
   ·have:L1=[]:=List.eq_nil_of_length_eq_zero (by omega)
    subst this
    exact second st1 R1 (by simp) z3 (by simpa using hb2') e
end
end
section
def SB (bs:Nat) (l:List (List TV)):Prop:=∀k,Srt lek ((l.drop (k*bs)).take bs)
theorem SB.nil (bs:Nat):SB bs []:=fun k=>by simp only[List.drop_nil,List.take_nil];exact List.Pairwise.nil
theorem SB.app {bs q:Nat} {S M:List (List TV)} (h:SB bs S) (hq:S.length=q*bs) (hm:M.length<=bs) (hs:Srt lek M):SB bs (S++M):=fun k=>by
 rcases Nat.lt_trichotomy k q with hk | hk | hk
 ·have:(k+1)*bs<=q*bs:=Nat.mul_le_mul_right _ hk
  rw[Nat.add_mul,Nat.one_mul]at this
  rw[List.drop_append_of_le_length (by omega),List.take_append_of_le_length (by rw[List.length_drop];omega)]
  exact h k
 ·subst hk
  rw[<-hq,List.drop_left,List.take_of_length_le hm]
  exact hs
 ·have:(q+1)*bs<=k*bs:=Nat.mul_le_mul_right _ hk
  rw[Nat.add_mul,Nat.one_mul]at this
  rw[List.drop_of_length_le (by rw[List.length_append];omega),List.take_nil]
  exact List.Pairwise.nil
theorem SB.drop {bs q:Nat} {l:List (List TV)} (h:SB bs l):SB bs (l.drop (q*bs)):=fun k=>by
 rw[List.drop_drop,<-Nat.add_mul]
 exact h (q+k)
theorem SB.all {bs:Nat} {l:List (List TV)} (h:SB bs l) (hl:l.length<=bs):Srt lek l:=by
 have:=h 0
 rw[Nat.zero_mul,List.drop_zero,List.take_of_length_le hl]at this
 exact this
section
variable {st:St} {b n cap:Nat}
theorem RD {cmp:TV} (hc:Kk cmp) {D0:List (List TV)} (h:BxF st b n cap D0) (hn:n<=100000000) {N:Int} (hN:N=(n:Int)) {K:St->Prop} (hk:∀st' W,W.Perm D0->Srt lek W->BxF st' b n cap W->StX (·=b) st st'->K st'):
  CallT PR AU [.ms 14 b 0 n cap,.int .i64 N,cmp] [] st K:=by
 have hlen:=h.len
 subst hN
 refine BM _ _ cmp st K ⟨fun a b' d n' c bs st'=>d= .ms 14 b 0 n cap/\n'=(n:Int)/\cmp=c/\bs=20/\∃(q:Nat) (S T:List (List TV)),a=((q*20:Nat):Int)/\b'=((q*20+20:Nat):Int)/\q*20<=n/\S.length=q*20/\SB 20 S/\(S++T).Perm D0/\BxF st' b n cap (S++T)/\StX (·=b) st st',
  fun a _ _ _ _ _ _=>(n-a).toNat,⟨rfl,rfl,rfl,rfl,0,[],D0,by omega,by omega,by omega,rfl,SB.nil _,by simp,by simpa using h,StX.refl _ _⟩,?_⟩
 rintro _ _ _ _ _ _ st1 ⟨rfl,rfl,rfl,rfl,q,S,T,rfl,rfl,hqn,hS,sb,hp,hb,e⟩
 have hl1:=hb.len
 rw[List.length_append]at hl1
 refine Ab (fun g=>?_) fun g=>?_
 ·have hT:T=T.take 20++T.drop 20:=(List.take_append_drop _ _).symm
  have lx:(T.take 20).length=20:=by simp;omega
  generalize T.take 20=X at*
  generalize T.drop 20=Y at*
  subst hT
  refine Jh (P:=S) (L:=X) (Q:=Y) hc (by simpa using hb) hn (by omega) (by omega) fun st2 M pm sm hb2 e2=>?_
  have lm:=pm.length_eq
  refine⟨⟨rfl,rfl,rfl,rfl,q+1,S++M,Y,by omega,by rw[Ai _ (by omega) (by omega)];omega,by omega,by rw[List.length_append];omega,sb.app hS (by omega) sm,?_,hb2,e.trans e2⟩,by dsimp only;omega⟩
  rw[List.append_assoc]
  exact((pm.append_right Y).append_left S).trans hp
 ·refine Jh (P:=S) (L:=T) (Q:=[]) hc (by simpa using hb) hn (by omega) (by omega) fun st2 M pm sm hb2 e2=>?_
  have lm:=pm.length_eq
  rw[List.append_nil]at hb2
  refine⟨fun bs d n' c st'=>d= .ms 14 b 0 n cap/\n'=(n:Int)/\cmp=c/\∃(s:Nat) (D:List (List TV)),bs=(s:Int)/\20<=s/\s<=200000020/\SB s D/\D.Perm D0/\BxF st' b n cap D/\StX (·=b) st st',
   fun bs _ _ _ _=>(n-bs).toNat,⟨rfl,rfl,rfl,20,S++M,rfl,Nat.le_refl _,by omega,sb.app hS (by omega) sm,(pm.append_left S).trans hp,hb2,e.trans e2⟩,?_⟩
  rintro _ _ _ _ st3 ⟨rfl,rfl,rfl,s,D,rfl,hs20,hsm,sbD,pD,hbD,eD⟩
  have hlD:=hbD.len
  refine Ab (fun g2=>?_) fun g2=>hk st3 D pD (sbD.all (by omega)) hbD eD
  have w2:i64.wrap (2*(s:Int))=((2*s:Nat):Int):=by rw[Ai _ (by omega) (by omega)];omega
  have ws2:i64.wrap ((s:Int)*2)=((2*s:Nat):Int):=by rw[Ai _ (by omega) (by omega)];omega
  refine⟨fun a b' d n' c bs st'=>d= .ms 14 b 0 n cap/\n'=(n:Int)/\cmp=c/\bs=(s:Int)/\∃(q:Nat) (S T:List (List TV)),a=((q*(2*s):Nat):Int)/\b'=((q*(2*s)+2*s:Nat):Int)/\q*(2*s)<=n/\S.length=q*(2*s)/\SB (2*s) S/\SB s T/\(S++T).Perm D0/\BxF st' b n cap (S++T)/\StX (·=b) st st',
   fun a _ _ _ _ _ _=>(n-a).toNat,⟨rfl,rfl,rfl,rfl,0,[],D,by simp,by rw[w2];simp,by omega,by simp,SB.nil _,sbD,by simpa using pD,by simpa using hbD,eD⟩,?_⟩
  rintro _ _ _ _ _ _ st4 ⟨rfl,rfl,rfl,rfl,q2,S2,T2,rfl,rfl,hq2,hS2,sbS,sbT,p2,hb4,e4⟩
  have hl4:=hb4.len
  rw[List.length_append]at hl4
  generalize hQ:q2*(2*s)=Qn at*
  have d1:=sbT 0
  have d2:=sbT 1
  rw[Nat.zero_mul,List.drop_zero]at d1
  rw[Nat.one_mul]at d2
  refine Ab (fun g3=>?_) fun g3=>?_
  ·rw[w2]
   have wa:i64.wrap ((Qn:Int)+(s:Int))=((Qn+s:Nat):Int):=by rw[Ai _ (by omega) (by omega)];omega
   rw[wa]
   have sb3:SB s (T2.drop (2*s)):=SB.drop (q:=2) sbT
   have hT:T2=T2.take s++((T2.drop s).take s++T2.drop (2*s)):=by
    have:T2.drop (2*s)=(T2.drop s).drop s:=by rw[List.drop_drop];congr 1;omega
    rw[this,List.take_append_drop,List.take_append_drop]
   have lx:(T2.take s).length=s:=by simp;omega
   have ly:((T2.drop s).take s).length=s:=by simp;omega
   generalize T2.take s=X at*
   generalize (T2.drop s).take s=Y at*
   generalize T2.drop (2*s)=Z at*
   subst hT
   refine J5 hc hn _ (P:=S2) (L:=X) (R:=Y) (Q:=Z) (Nat.le_refl _) (by omega) (by omega) (by simpa using hb4) d1 d2 (by omega) (by omega) (by omega) fun st5 W pw sw hb5 e5=>?_
   have lw:=pw.length_eq
   rw[List.length_append]at lw
   refine⟨⟨rfl,rfl,rfl,rfl,q2+1,S2++W,Z,by rw[Nat.add_mul,hQ];omega,by rw[Ai _ (by omega) (by omega),Nat.add_mul,hQ];omega,by rw[Nat.add_mul,hQ];omega,by rw[List.length_append,Nat.add_mul,hQ];omega,sbS.app (by rw[hQ];exact hS2) (by omega) sw,sb3,?_,hb5,e4.trans e5⟩,by dsimp only;omega⟩
   refine List.Perm.trans ?_ p2
   rw[List.append_assoc]
   exact((pw.append_right Z).append_left S2).trans (by simp)
  ·have wa:i64.wrap ((Qn:Int)+(s:Int))=((Qn+s:Nat):Int):=by rw[Ai _ (by omega) (by omega)];omega
   rw[wa,ws2]
   refine Ab (fun g4=>?_) fun g4=>?_
   ·have hT:T2=T2.take s++T2.drop s:=(List.take_append_drop _ _).symm
    have lx:(T2.take s).length=s:=by simp;omega
    have ly:(T2.drop s).length=T2.length-s:=by simp
    rw[List.take_of_length_le (by omega)]at d2
    generalize T2.take s=X at*
    generalize T2.drop s=Y at*
    subst hT
    rw[List.length_append]at*
    refine J5 hc hn _ (P:=S2) (L:=X) (R:=Y) (Q:=[]) (Nat.le_refl _) (by omega) (by omega) (by simpa using hb4) d1 d2 (by omega) (by omega) (by omega) fun st5 W pw sw hb5 e5=>?_
    have lw:=pw.length_eq
    rw[List.length_append]at lw
    rw[List.append_nil]at hb5
    exact⟨⟨rfl,rfl,rfl,2*s,S2++W,rfl,by omega,by omega,sbS.app (by rw[hQ];exact hS2) (by omega) sw,(pw.append_left S2).trans p2,hb5,e4.trans e5⟩,by dsimp only;omega⟩
   ·refine⟨⟨rfl,rfl,rfl,2*s,S2++T2,rfl,by omega,by omega,sbS.app (by rw[hQ];exact hS2) (by omega) (sbT.all (by omega)),p2,hb4,e4⟩,by dsimp only;omega⟩
theorem L5 {cmp:TV} (hc:Kk cmp) {D0:List (List TV)} (h:BxF st b n cap D0) (hn:n<=100000000) {K:St->Prop} (hk:∀st' W,W.Perm D0->Srt lek W->BxF st' b n cap W->StX (·=b) st st'->K st'):
  CallT PR AF [.ms 14 b 0 n cap,cmp] [] st K:=
 A6 _ cmp st K (Aa rfl (RD hc h hn rfl hk))
end
end
theorem D2 {g:Ghost} {w:World} {l:B8} {v:Value} (h:Rel g w (.str l) v):v= .string ⟨l.toArray⟩:=by cases h;rfl
theorem SA {g:Ghost} {w:World} {x:TV} {vs:List Value} (h:AL g w [x] vs):∃v,vs=[v]/\Rel g w x v:=by
 obtain⟨v,h1,h2⟩:=h.get? (i:=0) rfl
 have:=h.1
 cases vs with
 | nil=>simp at this
 | cons a r=>cases r with
  | nil=>simp at h1;subst h1;exact⟨_,rfl,h2⟩
  | cons b r=>simp at this
theorem OH {g:Ghost} {w:World} {x y:TV} {vs:List Value} (h:AL g w [x,y] vs):∃v u,vs=[v,u]/\Rel g w x v/\Rel g w y u:=by
 obtain⟨v,h1,h2⟩:=h.get? (i:=0) rfl
 obtain⟨u,h3,h4⟩:=h.get? (i:=1) rfl
 have:=h.1
 cases vs with
 | nil=>simp at this
 | cons a r=>cases r with
  | nil=>simp at this
  | cons b r=>cases r with
   | nil=>simp at h1 h3;subst h1 h3;exact⟨_,_,rfl,h2,h4⟩
   | cons c r=>simp at this
theorem Jo:∀a b:B8,Lib.compareBytes a b<0↔Op.bytesLess a b=true
 | [],[]=>by simp[Lib.compareBytes,Op.bytesLess]
 | [],_::_=>by simp[Lib.compareBytes,Op.bytesLess]
 | _::_,[]=>by simp[Lib.compareBytes,Op.bytesLess]
 | a::x,b::y=>by
  unfold Lib.compareBytes Op.bytesLess
  by_cases h1:a<b
  ·simp[h1]
  ·by_cases h2:b<a
   ·have hne:a≠b:=fun e=>by subst e;exact UInt8.lt_irrefl _ h2
    simp[h1,h2,hne]
   ·have he:a=b:=UInt8.le_antisymm (UInt8.not_lt.1 h2) (UInt8.not_lt.1 h1)
    subst he
    simp[h1,Jo x y]
theorem Qs {a b:B8} {st:St} {K:Int->St->Prop} (hk:K (Lib.compareBytes a b) st):CallT PR E3 [.str a,.str b] [.one (.int .i64)] st K:=by
 refine Ev (fun _ _=>by kernel_rfl) fun g w vargs s hr=>?_
 obtain⟨v,u,rfl,hv,hu⟩:=OH hr
 rw[D2 hv,D2 hu]
 refine Calls.mono (Tryd.strings_Compare ⟨a.toArray⟩ ⟨b.toArray⟩ w) ?_
 rintro e w' ⟨rfl,rfl⟩
 exact⟨_,rfl,.int .i64 _,st,g,hk,s,Rel.int _ _,Ext.refl _ _⟩
theorem Ou:Kk (.func CB []):=by
 intro c d st K hc hd hk
 obtain⟨kx,n1,b1,b2,s2,n2,n3,n4,n5,n6,s3,u1,u2,u3,rfl,_⟩:=hc
 obtain⟨ky,m1,c1,c2,t2,m2,m3,m4,m5,m6,t3,v1,v2,v3,rfl,_⟩:=hd
 exact IK _ _ _ _ _ _ _ _ _ _ _ _ _ _ _ _ _ _ _ _ _ _ _ _ _ _ _ _ st K (Qs (hk _ st (Al.refl _) (Jo _ _)))
section
inductive Ee {α β:Type} (R:α->β->Prop):List α->List β->Prop
 | nil:Ee R [] []
 | cons {a:α} {b:β} {l:List α} {m:List β}:R a b->Ee R l m->Ee R (a::l) (b::m)
theorem Ee.len {α β:Type} {R:α->β->Prop} {l:List α} {m:List β} (h:Ee R l m):l.length=m.length:=by
 induction h with
 | nil=>rfl
 | cons _ _ ih=>simp[ih]
theorem Ee.perm {α β:Type} {R:α->β->Prop} {m m':List β} (p:m'.Perm m):∀{l:List α},Ee R l m->∃l',l'.Perm l/\Ee R l' m':=by
 induction p with
 | nil=>intro l h;cases h;exact⟨[],.nil,.nil⟩
 | cons x p ih=>
  intro l h
  cases h with
  | cons r h=>obtain⟨l',p',h'⟩:=ih h;exact⟨_::l',p'.cons _,.cons r h'⟩
 | swap x y l0=>
  intro l h
  cases h with
  | cons r1 h=>cases h with
   | cons r2 h=>exact⟨_,List.Perm.swap _ _ _,.cons r2 (.cons r1 h)⟩
 | trans p1 p2 ih1 ih2=>
  intro l h
  obtain⟨l1,q1,h1⟩:=ih2 h
  obtain⟨l2,q2,h2⟩:=ih1 h1
  exact⟨l2,q2.trans q1,h2⟩
theorem FsR.chunks {st:St}:∀{f:List Fd} {xs:List TV},FsR st f xs->∃cks:List (List TV),xs=cks.flatten/\Ee (FdR st) f cks
 | [],xs,h=>by unfold FsR at h;subst h;exact⟨[],rfl,.nil⟩
 | d::r,xs,h=>by
  unfold FsR at h
  obtain⟨a,b,rfl,h1,h2⟩:=h
  obtain⟨cks,rfl,h3⟩:=FsR.chunks h2
  exact⟨a::cks,by simp,.cons h1 h3⟩
theorem FsR.of_chunks {st:St} {f:List Fd} {cks:List (List TV)} (h:Ee (FdR st) f cks):FsR st f cks.flatten:=by
 induction h with
 | nil=>unfold FsR;rfl
 | cons r _ ih=>unfold FsR;exact⟨_,_,by simp,r,ih⟩
theorem SlR.one {st:St} {sz n:Nat} {u:TV} {xs:List TV} (h:SlR st sz u n xs):At u=true:=by
 rcases h with(⟨rfl,_⟩ | ⟨tip,rfl⟩) | ⟨b,off,cap,l,rfl,_⟩<;>rfl
theorem FdR.ck {st:St} {d:Fd} {cs:List TV} (h:FdR st d cs):Ck cs/\D5 cs=d.key:=by
 cases d with
 | mk k v=>
  unfold FdR at h
  obtain⟨c,rfl,h⟩:=h
  cases v with
  | mk s l f=>
   unfold VlR at h
   obtain⟨ub,ul,uf,xl,xf,rfl,h1,h2,_,h3,_⟩:=h
   exact⟨⟨k,_,_,_,_,_,_,_,_,_,_,ub,ul,uf,rfl,h1.one,h2.one,h3.one⟩,rfl⟩
theorem Ee.cks {st:St} {f:List Fd} {cks:List (List TV)} (h:Ee (FdR st) f cks):∀c,c∈cks->Ck c:=by
 induction h with
 | nil=>intro c hc;cases hc
 | cons r _ ih=>
  intro c hc
  rcases List.mem_cons.1 hc with rfl | hc
  ·exact r.ck.1
  ·exact ih c hc
theorem SlR.src {st:St} {sz n:Nat} {u:TV} {xs:List TV} (h:SlR st sz u n xs) (hl:xs.length=n*sz):DH st sz u=some (n,xs):=by
 rcases h with(⟨rfl,rfl,rfl⟩ | ⟨tip,rfl⟩) | ⟨b,off,cap,l,rfl,h2,h3,h4,h5,rfl⟩
 ·rfl
 ·simp[DH]
 ·have hlt:n*sz<=cap*sz:=Nat.mul_le_mul_right _ h5
  have e:=Jf (B:=l.drop (off+n*sz)) (st:=st) (b:=b) ((l.drop off).take (n*sz)) l 0 off h3 (by
   rw[Nat.add_zero,<-List.drop_drop,List.take_append_drop])
  rw[show((l.drop off).take (n*sz)).length=n*sz by simp;omega]at e
  simp only[DH,Nat.beq_refl]
  rw[e]
theorem FsR.all_one {st:St} {f:List Fd} {xs:List TV} (h:FsR st f xs):List.all xs At=true:=by
 obtain⟨cks,rfl,h2⟩:=h.chunks
 rw[List.all_flatten,List.all_eq_true]
 exact fun c hc=>(h2.cks c hc).one
theorem Al.keeps {a b:St} (h:Al a b):Bq a b:=⟨h.nb,h.box⟩
section
variable {st:St}
theorem Ni {data cmp:TV} {K:St->Prop} (hk:K st):CallT PR AU [data,.int .i64 0,cmp] [] st K:=by
 refine BM _ _ cmp st K ⟨fun a b' d n' c bs st'=>a=0/\b'=20/\n'=0/\bs=20/\st=st',fun _ _ _ _ _ _ _=>0,⟨rfl,rfl,rfl,rfl,rfl⟩,?_⟩
 rintro _ _ _ _ _ _ _ ⟨rfl,rfl,rfl,rfl,rfl⟩
 refine Ab (fun g=>absurd g (by omega)) fun _=>?_
 refine Bm _ _ _ _ st _ ⟨fun i _ _ b' _ st'=>i=1/\b'=0/\st=st',fun _ _ _ _ _ _=>0,⟨by rw[Ai _ (by omega) (by omega)];rfl,rfl,rfl⟩,?_⟩
 rintro _ _ _ _ _ _ ⟨rfl,rfl,rfl⟩
 refine Ab (fun g=>absurd g (by omega)) fun _=>?_
 refine⟨fun bs _ n' _ st'=>bs=20/\n'=0/\st=st',fun _ _ _ _ _=>0,⟨rfl,rfl,rfl⟩,?_⟩
 rintro _ _ _ _ _ ⟨rfl,rfl,rfl⟩
 exact Ab (fun g=>absurd g (by omega)) fun _=>hk
def Mg (f:List Fd):Prop:=f.Pairwise fun x y=>Op.bytesLess y.key x.key=false
theorem srtF_of {st:St} {f:List Fd} {cks:List (List TV)} (h:Ee (FdR st) f cks) (hs:Srt lek cks):Mg f:=by
 induction h with
 | nil=>exact List.Pairwise.nil
 | cons r t ih=>
  rename_i d c f' cks'
  obtain⟨h1,h2⟩:=List.pairwise_cons.1 hs
  refine List.pairwise_cons.2 ⟨fun x hx=>?_,ih h2⟩
  have:∀{l:List Fd} {m:List (List TV)},Ee (FdR st) l m->x∈l->∃y,y∈m/\FdR st x y:=by
   intro l m h
   induction h with
   | nil=>intro hx;cases hx
   | cons r _ ih=>
    intro hx
    rcases List.mem_cons.1 hx with rfl | hx
    ·exact⟨_,.head _,r⟩
    ·obtain⟨y,h1,h2⟩:=ih hx;exact⟨y,.tail _ h1,h2⟩
  obtain⟨y,hy,hxy⟩:=this t hx
  have:=h1 y hy
  unfold lek at this
  rw[hxy.ck.2,r.ck.2]at this
  exact this
end
end
section
def CD (st:St) (sz:Nat) (u:TV) (n:Nat) (xs:List TV) (bs:List Nat):Prop:=
 (n=0/\xs=[]/\bs=[]/\(u= .nilSlice∨u= .list sz .full 0 []))∨∃b cap tail,u= .ms sz b 0 n cap/\b<st.nb/\st.box b= .cells (xs++tail)/\(xs++tail).length=cap*sz/\xs.length=n*sz/\n<=cap/\bs=[b]
theorem CD.rd {st:St} {sz n:Nat} {u:TV} {xs:List TV} {bs:List Nat} (h:CD st sz u n xs bs):SlR st sz u n xs:=by
 rcases h with⟨rfl,rfl,rfl,rfl | rfl⟩ | ⟨b,cap,tail,rfl,h1,h2,h3,h4,h5,rfl⟩
 ·exact .inl (.inl ⟨rfl,rfl,rfl⟩)
 ·exact .inl (.inr ⟨_,rfl⟩)
 ·exact .inr ⟨b,0,cap,_,rfl,h1,h2,by omega,h5,by rw[List.drop_zero,<-h4,List.take_left]⟩
theorem CD.frame {S:Nat->Prop} {st st':St} (e:StX S st st') {sz n:Nat} {u:TV} {xs:List TV} {bs:List Nat} (hs:∀x,x∈bs->¬S x) (h:CD st sz u n xs bs):CD st' sz u n xs bs:=by
 rcases h with h | ⟨b,cap,tail,rfl,h1,h2,h3,h4,h5,rfl⟩
 ·exact .inl h
 ·exact .inr ⟨b,cap,tail,rfl,Nat.lt_of_lt_of_le h1 e.nb,(e.box b h1 (hs b (.head _))).trans h2,h3,h4,h5,rfl⟩
theorem CD.lt {st:St} {sz n:Nat} {u:TV} {xs:List TV} {bs:List Nat} (h:CD st sz u n xs bs):∀x,x∈bs->x<st.nb:=by
 rcases h with⟨_,_,rfl,_⟩ | ⟨b,cap,tail,rfl,h1,h2,h3,h4,h5,rfl⟩
 ·intro x hx;cases hx
 ·intro x hx;rcases List.mem_singleton.1 hx with rfl;exact h1
mutual
def VlO (st:St):Vl->List TV->List Nat->Prop
 | .mk s l f,cs,fp=>∃ub ul uf xl xf bb bl bf fl ff,cs=[.int .i64 s.kind,.bool s.b,.bool s.neg,.str s.dg,.int .i64 s.ex,.int .i64 s.tk,.int .i64 s.td,.int .i64 s.tn,.int .i64 s.tz,.str s.text,ub,ul,uf]/\
   CD st 1 ub s.bytes.length (A5 s.bytes) bb/\CD st 13 ul l.length xl bl/\VsO st l xl fl/\CD st 14 uf f.length xf bf/\FsO st f xf ff/\fp=bb++(bl++(fl++(bf++ff)))
def VsO (st:St):List Vl->List TV->List Nat->Prop
 | [],xs,fp=>xs=[]/\fp=[]
 | v::r,xs,fp=>∃a b p q,xs=a++b/\fp=p++q/\VlO st v a p/\VsO st r b q
def FdO (st:St):Fd->List TV->List Nat->Prop
 | .mk k v,xs,fp=>∃cs,xs= .str k::cs/\VlO st v cs fp
def FsO (st:St):List Fd->List TV->List Nat->Prop
 | [],xs,fp=>xs=[]/\fp=[]
 | d::r,xs,fp=>∃a b p q,xs=a++b/\fp=p++q/\FdO st d a p/\FsO st r b q
end
mutual
theorem VlO.frame {S:Nat->Prop} {st st':St} (e:StX S st st'):∀{v:Vl} {cs:List TV} {fp:List Nat},(∀x,x∈fp->¬S x)->VlO st v cs fp->VlO st' v cs fp
 | .mk s l f,cs,fp,hs,h=>by
  unfold VlO at h⊢
  obtain⟨ub,ul,uf,xl,xf,bb,bl,bf,fl,ff,h0,h1,h2,h3,h4,h5,h6⟩:=h
  subst h6
  simp only[List.mem_append]at hs
  exact⟨ub,ul,uf,xl,xf,bb,bl,bf,fl,ff,h0,h1.frame e (fun x hx=>hs x (.inl hx)),h2.frame e (fun x hx=>hs x (.inr (.inl hx))),VsO.frame e (fun x hx=>hs x (.inr (.inr (.inl hx)))) h3,
   h4.frame e (fun x hx=>hs x (.inr (.inr (.inr (.inl hx))))),FsO.frame e (fun x hx=>hs x (.inr (.inr (.inr (.inr hx))))) h5,rfl⟩
theorem VsO.frame {S:Nat->Prop} {st st':St} (e:StX S st st'):∀{l:List Vl} {cs:List TV} {fp:List Nat},(∀x,x∈fp->¬S x)->VsO st l cs fp->VsO st' l cs fp
 | [],cs,fp,hs,h=>by unfold VsO at h⊢;exact h
 | v::r,cs,fp,hs,h=>by
  unfold VsO at h⊢
  obtain⟨a,b,p,q,h0,rfl,h1,h2⟩:=h
  simp only[List.mem_append]at hs
  exact⟨a,b,p,q,h0,rfl,VlO.frame e (fun x hx=>hs x (.inl hx)) h1,VsO.frame e (fun x hx=>hs x (.inr hx)) h2⟩
theorem FdO.frame {S:Nat->Prop} {st st':St} (e:StX S st st'):∀{d:Fd} {cs:List TV} {fp:List Nat},(∀x,x∈fp->¬S x)->FdO st d cs fp->FdO st' d cs fp
 | .mk key v,cs,fp,hs,h=>by
  unfold FdO at h⊢
  obtain⟨c,h0,h1⟩:=h
  exact⟨c,h0,VlO.frame e hs h1⟩
theorem FsO.frame {S:Nat->Prop} {st st':St} (e:StX S st st'):∀{l:List Fd} {cs:List TV} {fp:List Nat},(∀x,x∈fp->¬S x)->FsO st l cs fp->FsO st' l cs fp
 | [],cs,fp,hs,h=>by unfold FsO at h⊢;exact h
 | d::r,cs,fp,hs,h=>by
  unfold FsO at h⊢
  obtain⟨a,b,p,q,h0,rfl,h1,h2⟩:=h
  simp only[List.mem_append]at hs
  exact⟨a,b,p,q,h0,rfl,FdO.frame e (fun x hx=>hs x (.inl hx)) h1,FsO.frame e (fun x hx=>hs x (.inr hx)) h2⟩
end
theorem VsO.snoc {st:St} {v:Vl} {cv:List TV} {pv:List Nat}:∀{l:List Vl} {xs:List TV} {fp:List Nat},VsO st l xs fp->VlO st v cv pv->VsO st (l++[v]) (xs++cv) (fp++pv)
 | [],xs,fp,h,hv=>by
  unfold VsO at h
  obtain⟨rfl,rfl⟩:=h
  show VsO st [v] _ _
  unfold VsO
  exact⟨cv,[],pv,[],by simp,by simp,hv,by unfold VsO;exact⟨rfl,rfl⟩⟩
 | w::r,xs,fp,h,hv=>by
  unfold VsO at h
  obtain⟨a,b,p,q,rfl,rfl,h1,h2⟩:=h
  show VsO st (w::(r++[v])) _ _
  unfold VsO
  exact⟨a,b++cv,p,q++pv,by simp,by simp,h1,VsO.snoc h2 hv⟩
theorem FsO.snoc {st:St} {d:Fd} {cv:List TV} {pv:List Nat}:∀{l:List Fd} {xs:List TV} {fp:List Nat},FsO st l xs fp->FdO st d cv pv->FsO st (l++[d]) (xs++cv) (fp++pv)
 | [],xs,fp,h,hv=>by
  unfold FsO at h
  obtain⟨rfl,rfl⟩:=h
  show FsO st [d] _ _
  unfold FsO
  exact⟨cv,[],pv,[],by simp,by simp,hv,by unfold FsO;exact⟨rfl,rfl⟩⟩
 | w::r,xs,fp,h,hv=>by
  unfold FsO at h
  obtain⟨a,b,p,q,rfl,rfl,h1,h2⟩:=h
  show FsO st (w::(r++[d])) _ _
  unfold FsO
  exact⟨a,b++cv,p,q++pv,by simp,by simp,h1,FsO.snoc h2 hv⟩
theorem PQ (xs ys tail:List TV) (h:ys.length<=tail.length):setAll (xs++tail) xs.length ys=xs++ys++tail.drop ys.length:=by
 have e:tail=tail.take ys.length++tail.drop ys.length:=(List.take_append_drop _ _).symm
 have:=Ir ys xs (tail.take ys.length) (tail.drop ys.length) (by simp;omega)
 rw[List.append_assoc,List.take_append_drop]at this
 exact this
theorem J3 {T sz bytes:Nat} {st:St} {u:TV} {n k:Nat} {xs ys:List TV} {bs:List Nat} {K:TV->St->Prop} (h:CD st sz u n xs bs) (hk1:0<k) (hy:ys.length=k*sz) (hby:(n+k)*bytes<=140737488355328)
  (hK:∀u' st' bs',CD st' sz u' (n+k) (xs++ys) bs'->StX (·∈bs) st st'->((bs'=bs/\bs≠ [])∨bs'=[st.nb])->K u' st'):HT T sz bytes u k ys st K:=by
 obtain⟨m,rfl⟩:∃m,k=m+1:=⟨k-1,by omega⟩
 have fresh:∀(zs:List TV) (N cap:Nat),zs.length=N*sz->N<=cap->CD (st.push (.cells (zs++D6 ((cap-N)*sz))) (some T)) sz (.ms sz st.nb 0 N cap) N zs [st.nb]:=fun zs N cap h1 h2=>
  .inr ⟨st.nb,cap,D6 ((cap-N)*sz),rfl,by simp[St.push],by simp[St.push],by rw[List.length_append,h1];simp only[D6,List.length_replicate];rw[<-Nat.add_mul];congr 1;omega,h1,h2,rfl⟩
 rcases h with⟨rfl,rfl,rfl,rfl | rfl⟩ | ⟨b,cap,tail,rfl,h1,h2,h3,h4,h5,rfl⟩
 ·simp only[HT,Ak]
  refine⟨by simpa using hby,fun cap hc=>hK _ _ [st.nb] ?_ (StX.of ((Al.refl st).push _ _)) (.inr rfl)⟩
  have:=fresh ys (m+1) cap hy hc
  simpa using this
 ·simp only[HT,Nat.beq_refl]
  refine⟨hby,fun cap hc=>hK _ _ [st.nb] ?_ (StX.of ((Al.refl st).push _ _)) (.inr rfl)⟩
  have:=fresh ys (0+(m+1)) cap (by rw[hy];congr 1;omega) hc
  simpa using this
 ·simp only[HT,Nat.beq_refl]
  rw[List.length_append]at h3
  refine⟨hby,_,h2,by rw[List.length_append];omega,fun hc=>?_,fun hc cap' hc'=>?_⟩
  ·have hmul:(n+(m+1))*sz<=cap*sz:=Nat.mul_le_mul_right _ hc
   rw[Nat.add_mul]at hmul
   rw[Nat.zero_add,<-h4,PQ xs ys tail (by omega)]
   refine hK _ _ [b] (.inr ⟨b,cap,tail.drop ys.length,rfl,h1,by simp[St.put],by simp only[List.length_append,List.length_drop];omega,by rw[List.length_append,h4,hy,<-Nat.add_mul],hc,rfl⟩) (StX.put (S:=(·∈ [b])) (.head _) _) (.inl ⟨rfl,by simp⟩)
  ·rw[List.drop_zero,<-h4,List.take_left]
   exact hK _ _ [st.nb] (fresh (xs++ys) (n+(m+1)) cap' (by rw[List.length_append,h4,hy,<-Nat.add_mul]) hc') (StX.of ((Al.refl st).push _ _)) (.inr rfl)
end
section
mutual
def Vl.sz:Vl->Nat
 | .mk s l f=>1+s.bytes.length+s.text.length+s.dg.length+Bz l+Bs f
def Bz:List Vl->Nat
 | []=>0
 | v::r=>v.sz+Bz r
def Fd.sz:Fd->Nat
 | .mk k v=>k.length+v.sz
def Bs:List Fd->Nat
 | []=>0
 | d::r=>d.sz+Bs r
end
theorem Vl.sz_pos (v:Vl):1<=v.sz:=by cases v;unfold Vl.sz;omega
theorem Dw:∀l:List Vl,l.length<=Bz l
 | []=>Nat.le_refl _
 | v::r=>by have:=Dw r;have:=v.sz_pos;unfold Bz;simp only[List.length_cons];omega
theorem De:∀l:List Fd,l.length<=Bs l
 | []=>Nat.le_refl _
 | .mk k v::r=>by have:=De r;have:=v.sz_pos;unfold Bs Fd.sz;simp only[List.length_cons];omega
theorem EQ:∀{l:List Vl} {i:Nat} {v:Vl},l[i]? =some v->v.sz<=Bz l
 | [],i,v,h=>by simp at h
 | w::r,0,v,h=>by simp at h;subst h;unfold Bz;omega
 | w::r,i+1,v,h=>by have:=EQ (by simpa using h:r[i]? =some v);unfold Bz;omega
theorem D8:∀{l:List Fd} {i:Nat} {d:Fd},l[i]? =some d->d.sz<=Bs l
 | [],i,v,h=>by simp at h
 | w::r,0,v,h=>by simp at h;subst h;unfold Bs;omega
 | w::r,i+1,v,h=>by have:=D8 (by simpa using h:r[i]? =some v);unfold Bs;omega
theorem Lj {st:St} {ys:List TV}:∀(k j:Nat),j+k<=ys.length->Aj st [] (.t (.rptr ys)) j k=some ((ys.drop j).take k)
 | 0,j,h=>by simp[Aj]
 | k+1,j,h=>by
  show(match Ac st [] (.t (.rptr ys)) j with | some x=>(Aj st [] (.t (.rptr ys)) (j+1) k).map (x::·) | none=>none)=_
  have hj:j<ys.length:=by omega
  have:Ac st [] (.t (.rptr ys)) j=some ys[j]:=by simp[Ac,hj]
  rw[this]
  simp only
  rw[Lj k (j+1) (by omega),List.drop_eq_getElem_cons hj]
  rfl
theorem SlR.ldc {st:St} {sz n i:Nat} {u:TV} {xs:List TV} (h:SlR st sz u n xs) (hl:xs.length=n*sz) (hi:i<n):Aj st [] (.t (ixT sz u i)) 0 sz=some ((xs.drop (i*sz)).take sz):=by
 have hm:(i+1)*sz<=n*sz:=Nat.mul_le_mul_right _ hi
 rw[Nat.add_mul,Nat.one_mul]at hm
 rcases h with(⟨rfl,rfl,rfl⟩ | ⟨tip,rfl⟩) | ⟨b,off,cap,l,rfl,h2,h3,h4,h5,rfl⟩
 ·omega
 ·show Aj st [] (.t (.rptr (xs.drop (i*sz)))) 0 sz=_
  rw[Lj sz 0 (by rw[List.length_drop];omega),List.drop_zero]
 ·have hc:n*sz<=cap*sz:=Nat.mul_le_mul_right _ h5
  have e1:(((l.drop off).take (n*sz)).drop (i*sz)).take sz=(l.drop (off+i*sz)).take sz:=by
   rw[List.drop_take,List.drop_drop,List.take_take,Nat.min_eq_left (by omega)]
  rw[e1]
  have e:=Jf (B:=l.drop (off+i*sz+sz)) (st:=st) (b:=b) ((l.drop (off+i*sz)).take sz) l 0 (off+i*sz) h3 (by
   have:=List.take_append_drop sz (l.drop (off+i*sz))
   rw[List.drop_drop]at this
   rw[Nat.add_zero];exact this.symm)
  rw[show((l.drop (off+i*sz)).take sz).length=sz by simp;omega]at e
  exact e
theorem SlR.lenZ {st:St} {sz n:Nat} {u:TV} {xs:List TV} (h:SlR st sz u n xs):TVF.lenZ sz u=n:=by
 rcases h with(⟨rfl,rfl,rfl⟩ | ⟨tip,rfl⟩) | ⟨b,off,cap,l,rfl,h2,h3,h4,h5,rfl⟩
 ·rfl
 ·simp[TVF.lenZ]
 ·simp[TVF.lenZ]
theorem SlR.lenS {st:St} {sz n:Nat} {u:TV} {xs:List TV} (h:SlR st sz u n xs):TVF.lenS u=n:=by
 rcases h with(⟨rfl,rfl,rfl⟩ | ⟨tip,rfl⟩) | ⟨b,off,cap,l,rfl,h2,h3,h4,h5,rfl⟩<;>rfl
theorem SlR.isSl {st:St} {sz n:Nat} {u:TV} {xs:List TV} (h:SlR st sz u n xs):TVF.isSl u=true:=by
 rcases h with(⟨rfl,rfl,rfl⟩ | ⟨tip,rfl⟩) | ⟨b,off,cap,l,rfl,h2,h3,h4,h5,rfl⟩<;>rfl
theorem CD.nil (st:St) (sz:Nat):CD st sz .nilSlice 0 [] []:= .inl ⟨rfl,rfl,rfl,.inl rfl⟩
theorem NO {n1:Int} {b1 b2:Bool} {s2:B8} {n2 n3 n4 n5 n6:Int} {s3:B8} {u1 u2 u3:TV} {f:Fun [.int .i64,.bool,.bool,.str,.int .i64,.int .i64,.int .i64,.int .i64,.int .i64,.str,.tv,.tv,.tv] Prop} (h:f n1 b1 b2 s2 n2 n3 n4 n5 n6 s3 u1 u2 u3):
  BF [.int .i64,.bool,.bool,.str,.int .i64,.int .i64,.int .i64,.int .i64,.int .i64,.str,.tv,.tv,.tv] (.agg [.int .i64 n1,.bool b1,.bool b2,.str s2,.int .i64 n2,.int .i64 n3,.int .i64 n4,.int .i64 n5,.int .i64 n6,.str s3,u1,u2,u3]) f:=h
theorem DB {n1:Int} {b1 b2:Bool} {s2:B8} {n2 n3 n4 n5 n6:Int} {s3:B8} {u1 u2 u3:TV} (h1:At u1=true) (h2:At u2=true) (h3:At u3=true):
  List.all [.int .i64 n1,.bool b1,.bool b2,.str s2,.int .i64 n2,.int .i64 n3,.int .i64 n4,.int .i64 n5,.int .i64 n6,.str s3,u1,u2,u3] At=true:=by
 simp only[List.all_cons,List.all_nil,h1,h2,h3,Bool.and_true];rfl
theorem Sd {st:St} {u:TV} {l:B8} (h:SlR st 1 u l.length (A5 l)) (hl:l.length<=10000000) {K:TV->St->Prop} (hk:∀v st' bs,CD st' 1 v l.length (A5 l) bs->Al st st'->(∀x,x∈bs->st.nb<=x)->bs.Nodup->K v st'):
  CallT PR By [u] [.one .tv] st K:=by
 have hb1:(A5 l).length=l.length*1:=by rw[FF];omega
 have hone:List.all (A5 l) At=true:=by
  rw[List.all_eq_true];intro x hx
  simp only[A5,List.mem_map]at hx
  obtain⟨y,_,rfl⟩:=hx;rfl
 refine Eg _ st K (Aa h.isSl ?_)
 cases hq:BT u with
 | true=>
  show K .nilSlice st
  have h0:l=[]:=by
   rcases h with(⟨rfl,h1,_⟩ | ⟨tip,rfl⟩) | ⟨b,off,cap,m,rfl,_⟩
   ·exact List.eq_nil_of_length_eq_zero h1
   ·cases hq
   ·cases hq
  subst h0
  exact hk _ st [] (CD.nil _ _) (Al.refl _) (fun x hx=>by cases hx) List.nodup_nil
 | false=>
  show Ar (DH st 1 u) _
  refine Ae (h.src hb1) (Aa hone ?_)
  cases hlen:l.length with
  | zero=>
   have h0:l=[]:=List.eq_nil_of_length_eq_zero hlen
   subst h0
   simp only[HT,Nat.beq_refl]
   exact⟨by omega,hk _ st [] (.inl ⟨rfl,rfl,rfl,.inr rfl⟩) (Al.refl _) (fun x hx=>by cases hx) List.nodup_nil⟩
  | succ m=>
   refine J3 (.inl ⟨rfl,rfl,rfl,.inr rfl⟩) (by omega) (by rw[hb1,hlen]) (by omega) fun u' st' bs' ho e hbs=>?_
   rw[Nat.zero_add,List.nil_append,<-hlen]at ho
   rcases hbs with⟨_,h0⟩ | rfl
   ·exact absurd rfl h0
   ·exact hk _ st' _ ho (StX.ext (Al.refl st) e (fun i hi=>by cases hi)) (fun x hx=>by rw[List.mem_singleton.1 hx];exact Nat.le_refl _) (by simp)
end
section
mutual
theorem VlO.lt {st:St}:∀{v:Vl} {cs:List TV} {fp:List Nat},VlO st v cs fp->∀x,x∈fp->x<st.nb
 | .mk s l f,cs,fp,h=>by
  unfold VlO at h
  obtain⟨ub,ul,uf,xl,xf,bb,bl,bf,fl,ff,h0,h1,h2,h3,h4,h5,rfl⟩:=h
  intro x hx
  simp only[List.mem_append]at hx
  rcases hx with hx | hx | hx | hx | hx
  ·exact h1.lt x hx
  ·exact h2.lt x hx
  ·exact VsO.lt h3 x hx
  ·exact h4.lt x hx
  ·exact FsO.lt h5 x hx
theorem VsO.lt {st:St}:∀{l:List Vl} {cs:List TV} {fp:List Nat},VsO st l cs fp->∀x,x∈fp->x<st.nb
 | [],cs,fp,h=>by unfold VsO at h;rw[h.2];intro x hx;cases hx
 | v::r,cs,fp,h=>by
  unfold VsO at h
  obtain⟨a,b,p,q,_,rfl,h1,h2⟩:=h
  intro x hx
  rcases List.mem_append.1 hx with hx | hx
  ·exact VlO.lt h1 x hx
  ·exact VsO.lt h2 x hx
theorem FdO.lt {st:St}:∀{d:Fd} {cs:List TV} {fp:List Nat},FdO st d cs fp->∀x,x∈fp->x<st.nb
 | .mk key v,cs,fp,h=>by
  unfold FdO at h
  obtain⟨c,_,h1⟩:=h
  exact VlO.lt h1
theorem FsO.lt {st:St}:∀{l:List Fd} {cs:List TV} {fp:List Nat},FsO st l cs fp->∀x,x∈fp->x<st.nb
 | [],cs,fp,h=>by unfold FsO at h;rw[h.2];intro x hx;cases hx
 | d::r,cs,fp,h=>by
  unfold FsO at h
  obtain⟨a,b,p,q,_,rfl,h1,h2⟩:=h
  intro x hx
  rcases List.mem_append.1 hx with hx | hx
  ·exact FdO.lt h1 x hx
  ·exact FsO.lt h2 x hx
end
theorem Vl.cnt_pos (v:Vl):1<=v.cnt:=by cases v;unfold Vl.cnt;omega
theorem Jt:∀{l:List Vl} {i:Nat} {v:Vl},l[i]? =some v->v.cnt<=Aw l
 | [],i,v,h=>by simp at h
 | w::r,0,v,h=>by simp at h;subst h;unfold Aw;omega
 | w::r,i+1,v,h=>by have:=Jt (by simpa using h:r[i]? =some v);unfold Aw;omega
theorem JV:∀{l:List Fd} {i:Nat} {d:Fd},l[i]? =some d->d.cnt<=Av l
 | [],i,v,h=>by simp at h
 | w::r,0,v,h=>by simp at h;subst h;unfold Av;omega
 | w::r,i+1,v,h=>by have:=JV (by simpa using h:r[i]? =some v);unfold Av;omega
theorem Ga {A B:List Nat} (ha:A.Nodup) (hb:B.Nodup) (h:∀x,x∈A->x∉B):(A++B).Nodup:=
 List.nodup_append.2 ⟨ha,hb,fun x hx y hy e=>h x hx (e▸hy)⟩
structure N6 (b0:Nat) (st:St) (bl fl:List Nat):Prop where
 nd:(bl++fl).Nodup
 lo:∀x,x∈bl++fl->b0<=x
theorem N6.nil (b0:Nat) (st:St):N6 b0 st [] []:=⟨List.nodup_nil,fun x hx=>by cases hx⟩
theorem N6.snoc {b0 m k:Nat} {st st':St} {bl fl bs' fp:List Nat} (h:N6 b0 st bl fl) (hm:∀x,x∈bl++fl->x<m) (h0:b0<=m) (hk:∀x,x∈fp->m<=x/\x<k) (nd:fp.Nodup) (hmk:m<=k) (hb:(bs'=bl/\bl≠ [])∨bs'=[k]):N6 b0 st' bs' (fl++fp):=by
 have ndf:=(List.nodup_append.1 h.nd)
 have hfl:∀x,x∈fl->x<m:=fun x hx=>hm x (List.mem_append_right _ hx)
 have nfp:(fl++fp).Nodup:=Ga ndf.2.1 nd fun x hx hx'=>by have:=hfl x hx;have:=(hk x hx').1;omega
 rcases hb with⟨rfl,_⟩ | rfl
 ·refine⟨Ga ndf.1 nfp fun x hx hx'=>?_,fun x hx=>?_⟩
  ·rcases List.mem_append.1 hx' with hx' | hx'
   ·exact ndf.2.2 x hx x hx' rfl
   ·have:=hm x (List.mem_append_left _ hx);have:=(hk x hx').1;omega
  ·rcases List.mem_append.1 hx with hx | hx
   ·exact h.lo x (List.mem_append_left _ hx)
   ·rcases List.mem_append.1 hx with hx | hx
    ·exact h.lo x (List.mem_append_right _ hx)
    ·have:=(hk x hx).1;omega
 ·refine⟨Ga (by simp) nfp fun x hx hx'=>?_,fun x hx=>?_⟩
  ·rcases List.mem_singleton.1 hx with rfl
   rcases List.mem_append.1 hx' with hx' | hx'
   ·have:=hfl x hx';omega
   ·have:=(hk x hx').2;omega
  ·rcases List.mem_append.1 hx with hx | hx
   ·rcases List.mem_singleton.1 hx with rfl;omega
   ·rcases List.mem_append.1 hx with hx | hx
    ·exact h.lo x (List.mem_append_right _ hx)
    ·have:=(hk x hx).1;omega
theorem SK {k:B8} {n1:Int} {b1 b2:Bool} {s2:B8} {n2 n3 n4 n5 n6:Int} {s3:B8} {u1 u2 u3:TV} (h1:At u1=true) (h2:At u2=true) (h3:At u3=true):
  List.all [.str k,.int .i64 n1,.bool b1,.bool b2,.str s2,.int .i64 n2,.int .i64 n3,.int .i64 n4,.int .i64 n5,.int .i64 n6,.str s3,u1,u2,u3] At=true:=by
 simp only[List.all_cons,List.all_nil,h1,h2,h3,Bool.and_true];rfl
def AK (s:Sc) (ub ul uf:TV):List TV:=[.int .i64 s.kind,.bool s.b,.bool s.neg,.str s.dg,.int .i64 s.ex,.int .i64 s.tk,.int .i64 s.td,.int .i64 s.tn,.int .i64 s.tz,.str s.text,ub,ul,uf]
theorem R9:∀(N:Nat) (v:Vl),v.sz<=N->N<=2000000->∀{st:St} {cs:List TV} {L:Int} {K:Int->Bool->Bool->B8->Int->Int->Int->Int->Int->B8->TV->TV->TV->St->Prop},VlR st v cs->(v.cnt:Int)<=L->L<=100000000->
  (∀ub ul uf st' fp,VlO st' v (AK v.sc ub ul uf) fp->At ub=true->At ul=true->At uf=true->fp.Nodup->(∀x,x∈fp->st.nb<=x)->Al st st'->K v.sc.kind v.sc.b v.sc.neg v.sc.dg v.sc.ex v.sc.tk v.sc.td v.sc.tn v.sc.tz v.sc.text ub ul uf st')->
  CallT PR Cp [.agg cs,.int .i64 L] [.agg [.int .i64,.bool,.bool,.str,.int .i64,.int .i64,.int .i64,.int .i64,.int .i64,.str,.tv,.tv,.tv]] st K:=by
 intro N
 induction N with
 | zero=>intro v h;have:=v.sz_pos;omega
 | succ N ih=>
 intro v hN hN2 st cs L K h hL hL2 hk
 cases v with
 | mk s l f=>
 have hsz:(Vl.mk s l f).sz=1+s.bytes.length+s.text.length+s.dg.length+Bz l+Bs f:=by unfold Vl.sz;rfl
 have hct:(Vl.mk s l f).cnt=1+Aw l+Av f:=by unfold Vl.cnt;rfl
 have hll:=Dw l
 have hfl:=De f
 unfold VlR at h
 obtain⟨ub,ul,uf,xl,xf,rfl,h1,h2,h3,h4,h5⟩:=h
 have hxl:=h3.len
 have hxf:=h5.len
 refine Kp _ _ _ _ _ _ _ _ _ _ _ _ _ L st K (Sd h1 (by omega) fun v1 st1 bb ho e1 lo1 nd1=>Aa (by rw[List.all_cons,ho.rd.one];rfl) (Ab (fun g=>absurd g (by omega)) fun _=>Aa h2.isSl ?_))
 refine⟨fun l1 n1 left u n2 a1 a2 a3 a4 a5 a6 a7 a8 a9 a10 a11 a12 a13 _ _ _ _ _ _ _ _ _ _ _ _ _ st'=>L=left/\ul=u/\(l.length:Int)=n2/\s.kind=a1/\s.b=a2/\s.neg=a3/\s.dg=a4/\s.ex=a5/\s.tk=a6/\s.td=a7/\s.tn=a8/\s.tz=a9/\s.text=a10/\v1=a11/\uf=a13/\
   ∃(k:Nat) (ys:List TV) (bl fp:List Nat),n1=(k:Int)/\k<=l.length/\CD st' 13 l1 k ys bl/\VsO st' (l.take k) ys fp/\N6 st1.nb st' bl fp/\Al st1 st',
  fun _ n1 _ _ _ _ _ _ _ _ _ _ _ _ _ _ _ _ _ _ _ _ _ _ _ _ _ _ _ _ _ _=>(l.length-n1).toNat,⟨rfl,rfl,by rw[h2.lenS],rfl,rfl,rfl,rfl,rfl,rfl,rfl,rfl,rfl,rfl,rfl,rfl,0,[],[],[],rfl,Nat.zero_le _,CD.nil _ _,by simp only[List.take_zero];unfold VsO;exact⟨rfl,rfl⟩,N6.nil _ _,Al.refl _⟩,?_⟩
 rintro l1 _ _ _ _ _ _ _ _ _ _ _ _ _ _ _ v3 _ _ _ _ _ _ _ _ _ _ _ _ _ _ st2 ⟨rfl,rfl,rfl,rfl,rfl,rfl,rfl,rfl,rfl,rfl,rfl,rfl,rfl,rfl,rfl,k,ys,bl,fp,rfl,hkl,hol,hvs,hgr,e2⟩
 have e12:=e1.trans e2
 refine Ab (fun g=>?_) fun g=>?_
 ·have hkl2:k<l.length:=by omega
  have h2':=h2.keep e12.keeps
  have h3':=h3.keep e12.keeps
  have gw:l[k]? =some l[k]:=List.getElem?_eq_getElem hkl2
  obtain⟨cw,hw,hcw,hcl⟩:=h3'.get gw
  have hwsz:=EQ gw
  have hwct:=Jt gw
  have hwc1:=(l[k]).cnt_pos
  generalize l[k]=w at*
  have hld:(Aj st2 [] (.t (ixT 13 ul (Int.toNat (k:Int)))) 0 13).map TV.agg=some (.agg cw):=by
   rw[Int.toNat_natCast,h2'.ldc hxl hkl2,hcw];rfl
  rw[h2'.lenZ]
  have hw0:=hw
  cases w with
  | mk s' l' f'=>
  unfold VlR at hw0
  obtain⟨ub',ul',uf',xl',xf',rfl,w1,w2,w3,w4,w5⟩:=hw0
  refine⟨⟨by omega,by omega⟩,Ae hld (NO (Aa (DB w1.one w2.one w4.one) ?_))⟩
  rw[Ai _ (by omega) (by omega)]
  refine ih _ (by omega) (by omega) hw (by omega) (by omega) fun ub2 ul2 uf2 st3 fp2 ho2 o1 o2 o3 nd2 lo2 e3=>Aa (DB o1 o2 o3) ?_
  have hol3:=hol.frame (StX.of (S:=fun _=>False) e3) (fun _ _ h=>h)
  have hvs3:=hvs.frame (StX.of (S:=fun _=>False) e3) (fun _ _ h=>h)
  refine J3 hol3 (by omega) rfl (by omega) fun u' st4 bs' ho4 e4 hbs=>?_
  have hm:∀x,x∈bl++fp->x<st2.nb:=fun x hx=>(List.mem_append.1 hx).elim (hol.lt x) (hvs.lt x)
  have hlt2:=ho2.lt
  have hnd:=List.nodup_append.1 hgr.nd
  have e14:Al st1 st4:=StX.ext (e2.trans e3) e4 fun i hi=>hgr.lo i (List.mem_append_left _ hi)
  have hvs4:VsO st4 (l.take (k+1)) (ys++AK s' ub2 ul2 uf2) (fp++fp2):=by
   have t1:l.take (k+1)=l.take k++[.mk s' l' f']:=by
    have:=(List.getElem?_eq_some_iff.1 gw)
    obtain⟨q1,q2⟩:=this
    rw[List.take_succ_eq_append_getElem q1,q2]
   rw[t1]
   exact VsO.snoc (hvs3.frame e4 fun x hx hx'=>hnd.2.2 x hx' x hx rfl) (ho2.frame e4 fun x hx hx'=>by have:=lo2 x hx;have:=hol.lt x hx';omega)
  exact⟨⟨rfl,rfl,rfl,rfl,rfl,rfl,rfl,rfl,rfl,rfl,rfl,rfl,rfl,rfl,rfl,k+1,_,bs',fp++fp2,by rw[Ai _ (by omega) (by omega)];omega,by omega,ho4,hvs4,hgr.snoc hm e2.nb (fun x hx=>⟨lo2 x hx,hlt2 x hx⟩) nd2 e3.nb hbs,e14⟩,by dsimp only;rw[Ai _ (by omega) (by omega)];omega⟩
 ·have hk:k=l.length:=by omega
  subst hk
  rw[List.take_length]at hvs
  have hm:∀x,x∈bl++fp->x<st2.nb:=fun x hx=>(List.mem_append.1 hx).elim (hol.lt x) (hvs.lt x)
  refine Aa h4.isSl ?_
  refine⟨fun f1 n1 left l2 u n2 a1 a2 a3 a4 a5 a6 a7 a8 a9 a10 a11 a12 a13 _ _ _ _ _ _ _ _ _ _ _ _ _ st'=>L=left/\l1=l2/\uf=u/\(f.length:Int)=n2/\s.kind=a1/\s.b=a2/\s.neg=a3/\s.dg=a4/\s.ex=a5/\s.tk=a6/\s.td=a7/\s.tn=a8/\s.tz=a9/\s.text=a10/\v1=a11/\
    ∃(k:Nat) (zs:List TV) (bf ff:List Nat),n1=(k:Int)/\k<=f.length/\CD st' 14 f1 k zs bf/\FsO st' (f.take k) zs ff/\N6 st2.nb st' bf ff/\Al st2 st',
   fun _ n1 _ _ _ _ _ _ _ _ _ _ _ _ _ _ _ _ _ _ _ _ _ _ _ _ _ _ _ _ _ _ _=>(f.length-n1).toNat,⟨rfl,rfl,rfl,by rw[h4.lenS],rfl,rfl,rfl,rfl,rfl,rfl,rfl,rfl,rfl,rfl,rfl,0,[],[],[],rfl,Nat.zero_le _,CD.nil _ _,by simp only[List.take_zero];unfold FsO;exact⟨rfl,rfl⟩,N6.nil _ _,Al.refl _⟩,?_⟩
  rintro f1 _ _ _ _ _ _ _ _ _ _ _ _ _ _ _ _ _ _ _ _ _ _ _ _ _ _ _ _ _ _ _ st5 ⟨rfl,rfl,rfl,rfl,rfl,rfl,rfl,rfl,rfl,rfl,rfl,rfl,rfl,rfl,rfl,k,zs,bf,ff,rfl,hkf,hof,hfs,hgf,e5⟩
  have e15:=e12.trans e5
  refine Ab (fun g=>?_) fun g=>?_
  ·have hkf2:k<f.length:=by omega
   have h4':=h4.keep e15.keeps
   have h5':=h5.keep e15.keeps
   have gw:f[k]? =some f[k]:=List.getElem?_eq_getElem hkf2
   obtain⟨cw,hw,hcw,hcl⟩:=h5'.get gw
   have hwsz:=D8 gw
   have hwct:=JV gw
   generalize f[k]=w at*
   have hld:(Aj st5 [] (.t (ixT 14 uf (Int.toNat (k:Int)))) 0 14).map TV.agg=some (.agg cw):=by
    rw[Int.toNat_natCast,h4'.ldc hxf hkf2,hcw];rfl
   rw[h4'.lenZ]
   cases w with
   | mk key w=>
   unfold FdR at hw
   obtain⟨cw2,rfl,hw⟩:=hw
   have hwk:(Fd.mk key w).sz=key.length+w.sz:=by unfold Fd.sz;rfl
   have hwk2:(Fd.mk key w).cnt=w.cnt:=by unfold Fd.cnt;rfl
   have hwc1:=w.cnt_pos
   have hw0:=hw
   cases w with
   | mk s' l' f'=>
   unfold VlR at hw0
   obtain⟨ub',ul',uf',xl',xf',rfl,w1,w2,w3,w4,w5⟩:=hw0
   refine⟨⟨by omega,by omega⟩,Ae hld (Hp (Aa (SK w1.one w2.one w4.one) ?_))⟩
   rw[Ai _ (by omega) (by omega)]
   refine ih _ (by omega) (by omega) hw (by omega) (by omega) fun ub2 ul2 uf2 st6 fp2 ho2 o1 o2 o3 nd2 lo2 e6=>Aa (SK o1 o2 o3) ?_
   have hof6:=hof.frame (StX.of (S:=fun _=>False) e6) (fun _ _ h=>h)
   have hfs6:=hfs.frame (StX.of (S:=fun _=>False) e6) (fun _ _ h=>h)
   refine J3 hof6 (by omega) rfl (by omega) fun u' st7 bs' ho7 e7 hbs=>?_
   have hm5:∀x,x∈bf++ff->x<st5.nb:=fun x hx=>(List.mem_append.1 hx).elim (hof.lt x) (hfs.lt x)
   have hlt2:=ho2.lt
   have hnd:=List.nodup_append.1 hgf.nd
   have e27:Al st2 st7:=StX.ext (e5.trans e6) e7 fun i hi=>hgf.lo i (List.mem_append_left _ hi)
   have hd7:FdO st7 (.mk key (.mk s' l' f')) (.str key::AK s' ub2 ul2 uf2) fp2:=by
    unfold FdO
    exact⟨_,rfl,ho2.frame e7 fun x hx hx'=>by have:=lo2 x hx;have:=hof.lt x hx';omega⟩
   have hfs7:FsO st7 (f.take (k+1)) (zs++ .str key::AK s' ub2 ul2 uf2) (ff++fp2):=by
    have t1:f.take (k+1)=f.take k++[.mk key (.mk s' l' f')]:=by
     obtain⟨q1,q2⟩:=List.getElem?_eq_some_iff.1 gw
     rw[List.take_succ_eq_append_getElem q1,q2]
    rw[t1]
    exact FsO.snoc (hfs6.frame e7 fun x hx hx'=>hnd.2.2 x hx' x hx rfl) hd7
   exact⟨⟨rfl,rfl,rfl,rfl,rfl,rfl,rfl,rfl,rfl,rfl,rfl,rfl,rfl,rfl,rfl,k+1,_,bs',ff++fp2,by rw[Ai _ (by omega) (by omega)];omega,by omega,ho7,hfs7,hgf.snoc hm5 e5.nb (fun x hx=>⟨lo2 x hx,hlt2 x hx⟩) nd2 e6.nb hbs,e27⟩,by dsimp only;rw[Ai _ (by omega) (by omega)];omega⟩
  ·have hk2:k=f.length:=by omega
   subst hk2
   rw[List.take_length]at hfs
   have ho5:=ho.frame (StX.of (S:=fun _=>False) (e2.trans e5)) (fun _ _ h=>h)
   have hol5:=hol.frame (StX.of (S:=fun _=>False) e5) (fun _ _ h=>h)
   have hvs5:=hvs.frame (StX.of (S:=fun _=>False) e5) (fun _ _ h=>h)
   have hb1:=ho.lt
   have e1n:=e1.nb
   have e2n:=e2.nb
   refine Aa (by rw[List.all_cons,hol.rd.one];rfl) (Aa (by rw[List.all_cons,hof.rd.one];rfl) (Aa (DB ho.rd.one hol.rd.one hof.rd.one) ?_))
   refine hk v1 l1 f1 st5 (bb++(bl++(fp++(bf++ff)))) (by unfold VlO;exact⟨v1,l1,f1,ys,zs,bb,bl,bf,fp,ff,rfl,ho5,hol5,hvs5,hof,hfs,rfl⟩) ho.rd.one hol.rd.one hof.rd.one ?_ ?_ e15
   ·have e:bl++(fp++(bf++ff))=(bl++fp)++(bf++ff):=by simp
    rw[e]
    refine Ga nd1 (Ga hgr.nd hgf.nd fun x hx hx'=>?_) fun x hx hx'=>?_
    ·have:=hm x hx;have:=hgf.lo x hx';omega
    ·have:=hb1 x hx
     rcases List.mem_append.1 hx' with hx' | hx'
     ·have:=hgr.lo x hx';omega
     ·have:=hgf.lo x hx';omega
   ·intro x hx
    have e:bb++(bl++(fp++(bf++ff)))=bb++((bl++fp)++(bf++ff)):=by simp
    rw[e]at hx
    rcases List.mem_append.1 hx with hx | hx
    ·exact lo1 x hx
    ·rcases List.mem_append.1 hx with hx | hx
     ·have:=hgr.lo x hx;omega
     ·have:=hgf.lo x hx;omega
end
section
theorem Q0:∀x y:B8,Op.bytesLess x y=false->Op.bytesLess y x=false->x=y
 | [],[],_,_=>rfl
 | [],b::y,h,_=>by cases h
 | a::x,[],_,h=>by cases h
 | a::x,b::y,h1,h2=>by
  simp only[Op.bytesLess,Bool.or_eq_false_iff,Bool.and_eq_false_iff,decide_eq_false_iff_not,beq_eq_false_iff_ne,UInt8.not_lt]at h1 h2
  have hab:a=b:=UInt8.le_antisymm h2.1 h1.1
  subst hab
  rw[Q0 x y (h1.2.resolve_left fun h=>h rfl) (h2.2.resolve_left fun h=>h rfl)]
def ID (d:Fd):List Fd->List Fd
 | []=>[d]
 | x::r=>match Op.bytesLess d.key x.key with
  | true=>d::x::r
  | false=>x::ID d r
def Dn (f:List Fd):List Fd:=f.foldl (fun out d=>ID d out) []
theorem JR (d:Fd):∀l:List Fd,(ID d l).Perm (d::l)
 | []=>List.Perm.refl _
 | x::r=>by
  unfold ID
  split
  ·exact List.Perm.refl _
  ·exact((JR d r).cons x).trans (List.Perm.swap _ _ _)
theorem Td {d x:Fd} {l:List Fd} (h:x∈ID d l):x=d∨x∈l:=by
 have:=(JR d l).mem_iff.1 h
 exact List.mem_cons.1 this
theorem O3 (d:Fd):∀l:List Fd,Mg l->Mg (ID d l)
 | [],_=>List.pairwise_singleton _ _
 | x::r,h=>by
  obtain⟨h1,h2⟩:=List.pairwise_cons.1 h
  unfold ID
  split
  ·rename_i hl
   refine List.pairwise_cons.2 ⟨fun y hy=>?_,h⟩
   have hx:=IB _ _ hl
   rcases List.mem_cons.1 hy with rfl | hy
   ·exact hx
   ·exact EW _ _ _ hx (h1 y hy)
  ·rename_i hl
   refine List.pairwise_cons.2 ⟨fun y hy=>?_,O3 d r h2⟩
   rcases Td hy with rfl | hy
   ·exact hl
   ·exact h1 y hy
theorem Ra (f:List Fd):∀out:List Fd,Mg out->Mg (f.foldl (fun out d=>ID d out) out)/\(f.foldl (fun out d=>ID d out) out).Perm (out++f):=by
 induction f with
 | nil=>intro out h;exact⟨h,by simp⟩
 | cons d f ih=>
  intro out h
  obtain⟨h1,h2⟩:=ih (ID d out) (O3 d out h)
  refine⟨h1,h2.trans ?_⟩
  refine((JR d out).append_right f).trans ?_
  simp only[List.cons_append]
  exact(List.perm_middle).symm
theorem Io (f:List Fd):Mg (Dn f):=(Ra f [] List.Pairwise.nil).1
theorem CJ (f:List Fd):(Dn f).Perm f:=by
 have:=(Ra f [] List.Pairwise.nil).2
 rw[List.nil_append]at this
 exact this
def Cm (f:List Fd):Prop:=(f.map Fd.key).Nodup
theorem Q3 {f:List Fd} (h:Cm f) {x y:Fd} (hx:x∈f) (hy:y∈f) (e:x.key=y.key):x=y:=by
 induction f with
 | nil=>cases hx
 | cons d f ih=>
  unfold Cm at h
  rw[List.map_cons,List.nodup_cons]at h
  rcases List.mem_cons.1 hx with h1 | h1<;>rcases List.mem_cons.1 hy with h2 | h2
  ·rw[h1,h2]
  ·exact absurd (by rw[<-h1,e];exact List.mem_map_of_mem h2) h.1
  ·exact absurd (by rw[<-h2,<-e];exact List.mem_map_of_mem h1) h.1
  ·exact ih h.2 h1 h2
theorem KX:∀{l m:List Fd},Cm l->Mg l->Mg m->l.Perm m->l=m
 | [],m,_,_,_,p=>(List.Perm.nil_eq p)
 | x::l,[],_,_,_,p=>by have:=p.length_eq;simp at this
 | x::l,y::m,hk,hl,hm,p=>by
  obtain⟨l1,l2⟩:=List.pairwise_cons.1 hl
  obtain⟨m1,m2⟩:=List.pairwise_cons.1 hm
  have hxy:x=y:=by
   have hy:y∈x::l:=p.mem_iff.2 (.head _)
   have hx:x∈y::m:=p.mem_iff.1 (.head _)
   refine Q3 hk (.head _) hy (Q0 _ _ ?_ ?_)
   ·rcases List.mem_cons.1 hx with rfl | hx
    ·exact Fn _
    ·exact m1 x hx
   ·rcases List.mem_cons.1 hy with rfl | hy
    ·exact Fn _
    ·exact l1 y hy
  subst hxy
  unfold Cm at hk
  rw[List.map_cons,List.nodup_cons]at hk
  rw[KX hk.2 l2 m2 (List.Perm.cons_inv p)]
theorem RG {f f':List Fd} (hk:Cm f) (p:f'.Perm f) (s:Mg f'):f'=Dn f:=
 KX (((p.map Fd.key).nodup_iff).2 hk) s (Io f) (p.trans (CJ f).symm)
mutual
def Eo:Vl->Vl
 | .mk s l f=> .mk s (Gt l) (Dn (FC f))
def Gt:List Vl->List Vl
 | []=>[]
 | v::r=>Eo v::Gt r
def G7:Fd->Fd
 | .mk k v=> .mk k (Eo v)
def FC:List Fd->List Fd
 | []=>[]
 | d::r=>G7 d::FC r
end
theorem Jz (d:Fd):(G7 d).key=d.key:=by cases d;rfl
theorem Dm:∀f:List Fd,FC f=f.map G7
 | []=>by unfold FC;rfl
 | d::r=>by unfold FC;rw[Dm r];rfl
theorem Im:∀l:List Vl,Gt l=l.map Eo
 | []=>by unfold Gt;rfl
 | d::r=>by unfold Gt;rw[Im r];rfl
theorem O4 {g:Fd->Fd} (hg:∀d,(g d).key=d.key) (d:Fd):∀l:List Fd,ID (g d) (l.map g)=(ID d l).map g
 | []=>rfl
 | x::r=>by
  rw[List.map_cons]
  unfold ID
  rw[hg,hg]
  cases Op.bytesLess d.key x.key with
  | true=>rfl
  | false=>simp only[List.map_cons];rw[O4 hg d r]
theorem KY {g:Fd->Fd} (hg:∀d,(g d).key=d.key) (f:List Fd):Dn (f.map g)=(Dn f).map g:=by
 have key:∀(f out:List Fd),(f.map g).foldl (fun out d=>ID d out) (out.map g)=(f.foldl (fun out d=>ID d out) out).map g:=by
  intro f
  induction f with
  | nil=>intro out;rfl
  | cons d f ih=>intro out;simp only[List.map_cons,List.foldl_cons];rw[O4 hg,ih]
 exact key f []
end
section
theorem Ee.map_left {α β γ:Type} {R:α->γ->Prop} {S:β->γ->Prop} {g:α->β} (h:∀a c,R a c->S (g a) c) {l:List α} {m:List γ} (hl:Ee R l m):Ee S (l.map g) m:=by
 induction hl with
 | nil=>exact .nil
 | cons r _ ih=>exact .cons (h _ _ r) ih
section
variable {st:St}
theorem PL {α:Type} {g:α->Fd} {R:α->List TV->Prop} {la:List α} {cks0:List (List TV)} (hR:∀a c,R a c->FdR st (g a) c) (hall0:Ee R la cks0) {s:Sc} {ub ul uf:TV} {f:List Fd} {xf:List TV} (hfe:f=la.map g) (hxe:xf=cks0.flatten) (hu:SlR st 14 uf f.length xf) (hn:f.length<=2000000) {K:TV->St->Prop}
  (hk:∀v st' (la':List α) (cks:List (List TV)) bs,la'.Perm la->Mg (la'.map g)->Al st st'->CD st' 14 v la'.length cks.flatten bs->Ee R la' cks->bs.Nodup->(∀x,x∈bs->st.nb<=x)->K v st'):
  CallT PR Co [.agg [.int .i64 s.kind,.bool s.b,.bool s.neg,.str s.dg,.int .i64 s.ex,.int .i64 s.tk,.int .i64 s.td,.int .i64 s.tn,.int .i64 s.tz,.str s.text,ub,ul,uf]] [.one .tv] st K:=by
 have hall1:Ee (FdR st) f cks0:=hfe▸Ee.map_left hR hall0
 have hf:FsR st f xf:=hxe▸FsR.of_chunks hall1
 have hl:=hf.len
 have hlal:la.length=f.length:=by rw[hfe,List.length_map]
 have hsl:isSl uf=true:=by rcases hu with(⟨rfl,_⟩ | ⟨tip,rfl⟩) | ⟨b,off,cap,l,rfl,_⟩<;>rfl
 refine Kl _ _ _ _ _ _ _ _ _ _ _ _ _ st K (CH _ st _ (Aa hsl ?_))
 have empty:∀v,f=[]->isSl v=true->lenS v=0->(v= .nilSlice∨v= .list 14 .full 0 [])->CallT PR AF [v,.func CB []] [] st fun st2=>K v st2:=by
  intro v h0 h1 h2 h3
  refine A6 _ _ st _ (Aa h1 ?_)
  rw[h2]
  refine Ni ?_
  have hla:la=[]:=List.eq_nil_of_length_eq_zero (by rw[hlal,h0];rfl)
  refine hk v st [] [] [] (by rw[hla]) List.Pairwise.nil (Al.refl _) (.inl ⟨rfl,rfl,rfl,?_⟩) .nil List.nodup_nil (fun x hx=>by cases hx)
  exact h3
 have hb:∀(X Y:Prop),(BT uf=true->X)->(BT uf=false->Y)->BIf (BT uf) X Y:=by
  intro X Y h1 h2
  cases hq:BT uf with
  | true=>exact h1 hq
  | false=>exact h2 hq
 refine hb _ _ (fun h=>?_) fun h=>?_
 ·have h0:f=[]:=by
   rcases hu with(⟨rfl,h1,_⟩ | ⟨tip,rfl⟩) | ⟨b,off,cap,l,rfl,_⟩
   ·exact List.eq_nil_of_length_eq_zero h1
   ·cases h
   ·cases h
  exact empty _ h0 rfl rfl (.inl rfl)
 ·refine Ae (hu.src hl) (Aa hf.all_one ?_)
  simp only[HT,Nat.beq_refl]
  refine⟨by omega,?_⟩
  cases hlen:f.length with
  | zero=>
   have h0:f=[]:=List.eq_nil_of_length_eq_zero hlen
   exact empty _ h0 rfl rfl (.inr rfl)
  | succ m=>
   intro cap hcap
   subst hxe
   obtain⟨cks,hcke⟩:∃cks,cks=cks0:=⟨_,rfl⟩
   subst hcke
   have hall:=hall1
   have hcl:=hall.len
   obtain⟨st1,hst1⟩:∃st1,st1=st.push (.cells ([]++cks.flatten++D6 ((cap-(0+(m+1)))*14))) (some tyField):=⟨_,rfl⟩
   rw[<-hst1]
   have e1:Al st st1:=hst1▸(Al.refl st).push _ _
   have hbx:BxF st1 st.nb (0+(m+1)) cap cks:=by
    refine⟨by rw[hst1];simp[St.push],by omega,by omega,hall.cks,D6 ((cap-(0+(m+1)))*14),by rw[hst1];simp[St.push],?_⟩
    rw[List.length_append,hl]
    simp only[D6,List.length_replicate]
    rw[<-Nat.add_mul];congr 1;omega
   refine L5 Ou hbx (by omega) fun st2 W pw sw hb2 e2=>?_
   have e12:Al st st2:=StX.ext e1 e2 (fun i hi=>by rw[hi];exact Nat.le_refl _)
   obtain⟨la',pla,hall'⟩:=hall0.perm pw
   have hlal':la'.length=0+(m+1):=by rw[pla.length_eq,hlal,hlen];omega
   obtain⟨tail,hbox,hbl⟩:=hb2.box
   have hWl:W.flatten.length=la'.length*14:=by rw[Pa hb2.ck,hb2.len,hlal']
   have hallF:Ee (FdR st) (la'.map g) W:=Ee.map_left hR hall'
   rw[<-hlal']
   exact hk _ st2 la' W [st.nb] pla (srtF_of hallF sw) e12 (.inr ⟨st.nb,cap,tail,rfl,hb2.lt,hbox,hbl,hWl,by rw[hlal'];exact hb2.le,rfl⟩) hall' (by simp) (fun x hx=>by rw[List.mem_singleton.1 hx];exact Nat.le_refl _)
end
end
section
theorem Ee.snoc {α β:Type} {R:α->β->Prop} {a:α} {b:β} {l:List α} {m:List β} (h:Ee R l m) (r:R a b):Ee R (l++[a]) (m++[b]):=by
 induction h with
 | nil=>exact .cons r .nil
 | cons r' _ ih=>exact .cons r' ih
mutual
def KNd:Vl->Prop
 | .mk _ l f=>N4 l/\Cm f/\N5 f
def N4:List Vl->Prop
 | []=>True
 | v::r=>KNd v/\N4 r
def TW:Fd->Prop
 | .mk _ v=>KNd v
def N5:List Fd->Prop
 | []=>True
 | d::r=>TW d/\N5 r
end
theorem N4.mem:∀{l:List Vl} {v:Vl},N4 l->v∈l->KNd v
 | [],v,_,h=>by cases h
 | w::r,v,hk,h=>by
  unfold N4 at hk
  rcases List.mem_cons.1 h with rfl | h
  ·exact hk.1
  ·exact N4.mem hk.2 h
theorem N5.mem:∀{l:List Fd} {v:Fd},N5 l->v∈l->TW v
 | [],v,_,h=>by cases h
 | w::r,v,hk,h=>by
  unfold N5 at hk
  rcases List.mem_cons.1 h with rfl | h
  ·exact hk.1
  ·exact N5.mem hk.2 h
theorem KH {l:List Vl} {v:Vl} (h:v∈l):v.sz<=Bz l:=by
 obtain⟨i,hi⟩:=List.getElem?_of_mem h
 exact EQ hi
theorem Jk {l:List Fd} {v:Fd} (h:v∈l):v.sz<=Bs l:=by
 obtain⟨i,hi⟩:=List.getElem?_of_mem h
 exact D8 hi
end
theorem copy_ok {v:Vl} (hN:v.sz<=2000000) (hC:v.cnt<=65536) {st:St} {cs:List TV} {K:Int->Bool->Bool->B8->Int->Int->Int->Int->Int->B8->TV->TV->TV->St->Prop} (h:VlR st v cs)
  (hk:∀ub ul uf st' fp,VlO st' v (AK v.sc ub ul uf) fp->At ub=true->At ul=true->At uf=true->fp.Nodup->(∀x,x∈fp->st.nb<=x)->Al st st'->K v.sc.kind v.sc.b v.sc.neg v.sc.dg v.sc.ex v.sc.tk v.sc.td v.sc.tn v.sc.tz v.sc.text ub ul uf st'):
  CallT PR Df [.agg cs] [.agg [.int .i64,.bool,.bool,.str,.int .i64,.int .i64,.int .i64,.int .i64,.int .i64,.str,.tv,.tv,.tv]] st K:=by
 have h0:=h
 cases v with
 | mk s l f=>
 unfold VlR at h0
 obtain⟨ub,ul,uf,xl,xf,rfl,_⟩:=h0
 exact LX _ _ _ _ _ _ _ _ _ _ _ _ _ st K (R9 2000000 _ hN (by omega) h (by omega) (by omega) fun ub ul uf st' fp g o1 o2 o3 nd lo e=>Aa (DB o1 o2 o3) (hk ub ul uf st' fp g o1 o2 o3 nd lo e))
theorem QU (n:Nat) (h:n<256):n.toUInt8.toNat=n:=by simp;omega
section
structure ScOk (s:Sc):Prop where
 k0:0<=s.kind
 k7:s.kind<=7
 dg:s.dg.length<=10000000
 e1: -1000000<=s.ex
 e2:s.ex<=1000000
 t0:0<=s.tk
 t4:s.tk<=255
 d0:0<=s.td
 d1:s.td<=100000000000
 n0:0<=s.tn
 n1:s.tn<=100000000000000
 z0: -1000000<=s.tz
 z1:s.tz<=1000000
mutual
def VOk:Vl->Prop
 | .mk s l f=>ScOk s/\TU l/\TX f
def TU:List Vl->Prop
 | []=>True
 | v::r=>VOk v/\TU r
def FdOk:Fd->Prop
 | .mk _ v=>VOk v
def TX:List Fd->Prop
 | []=>True
 | d::r=>FdOk d/\TX r
end
end
theorem NM {st0 st:St} {ul:TV} {xl:List TV} {l:List Vl} (hke:Bq st0 st) (h2:SlR st0 13 ul l.length xl) (h3:VsR st0 l xl) {i:Int} {k:Nat} (hi:i=k) (hk:k<l.length) {f:Fun [.int .i64,.bool,.bool,.str,.int .i64,.int .i64,.int .i64,.int .i64,.int .i64,.str,.tv,.tv,.tv] Prop}
  (hf:∀s' l' f' ub1 ul1 uf1,l[k]? =some (.mk s' l' f')->VlR st0 (.mk s' l' f') (AK s' ub1 ul1 uf1)->List.all (AK s' ub1 ul1 uf1) At=true->f s'.kind s'.b s'.neg s'.dg s'.ex s'.tk s'.td s'.tn s'.tz s'.text ub1 ul1 uf1):
  (0<=i/\i<(lenZ 13 ul:Int))/\Ar ((Aj st [] (.t (ixT 13 ul (Int.toNat i))) 0 13).map TV.agg) fun x=>BF [.int .i64,.bool,.bool,.str,.int .i64,.int .i64,.int .i64,.int .i64,.int .i64,.str,.tv,.tv,.tv] x f:=by
 subst hi
 have gw:l[k]? =some l[k]:=List.getElem?_eq_getElem hk
 obtain⟨cw,hw,hcw,hcl⟩:=h3.get gw
 rw[h2.lenZ,Int.toNat_natCast,(h2.keep hke).ldc h3.len hk,hcw]
 generalize l[k]=w at*
 cases w with
 | mk s' l' f'=>
 have hw0:=hw
 unfold VlR at hw0
 obtain⟨ub',ul',uf',xl',xf',rfl,w1,w2,w3,w4,w5⟩:=hw0
 exact⟨⟨by omega,by omega⟩,Ae rfl (NO (hf s' l' f' ub' ul' uf' gw hw (DB w1.one w2.one w4.one)))⟩
theorem Ql {st0 st:St} {uf:TV} {xf:List TV} {l:List Fd} (hke:Bq st0 st) (h2:SlR st0 14 uf l.length xf) (h3:FsR st0 l xf) {i:Int} {k:Nat} (hi:i=k) (hk:k<l.length) {f:Fun [.str,.int .i64,.bool,.bool,.str,.int .i64,.int .i64,.int .i64,.int .i64,.int .i64,.str,.tv,.tv,.tv] Prop}
  (hf:∀key s' l' f' ub1 ul1 uf1,l[k]? =some (.mk key (.mk s' l' f'))->VlR st0 (.mk s' l' f') (AK s' ub1 ul1 uf1)->List.all (.str key::AK s' ub1 ul1 uf1) At=true->f key s'.kind s'.b s'.neg s'.dg s'.ex s'.tk s'.td s'.tn s'.tz s'.text ub1 ul1 uf1):
  (0<=i/\i<(lenZ 14 uf:Int))/\Ar ((Aj st [] (.t (ixT 14 uf (Int.toNat i))) 0 14).map TV.agg) fun x=>BF [.str,.int .i64,.bool,.bool,.str,.int .i64,.int .i64,.int .i64,.int .i64,.int .i64,.str,.tv,.tv,.tv] x f:=by
 subst hi
 have gw:l[k]? =some l[k]:=List.getElem?_eq_getElem hk
 obtain⟨cw,hw,hcw,hcl⟩:=h3.get gw
 rw[h2.lenZ,Int.toNat_natCast,(h2.keep hke).ldc h3.len hk,hcw]
 generalize l[k]=w at*
 cases w with
 | mk key w=>
 cases w with
 | mk s' l' f'=>
 have hw0:=hw
 unfold FdR at hw0
 obtain⟨cw2,rfl,hw1⟩:=hw0
 have hw2:=hw1
 unfold VlR at hw2
 obtain⟨ub',ul',uf',xl',xf',rfl,w1,w2,w3,w4,w5⟩:=hw2
 exact⟨⟨by omega,by omega⟩,Ae rfl (Hp (hf key s' l' f' ub' ul' uf' gw hw1 (SK w1.one w2.one w4.one)))⟩
theorem B7 {α:Type} {l:List α} {k:Nat} {v:α} (h:l[k]? =some v):l.take (k+1)=l.take k++[v]:=by
 obtain⟨q1,q2⟩:=List.getElem?_eq_some_iff.1 h
 rw[List.take_succ_eq_append_getElem q1,q2]
theorem DO {α:Type} {l:List α} {k:Nat} {v:α} (h:l[k]? =some v):v∈l:=by
 obtain⟨q1,q2⟩:=List.getElem?_eq_some_iff.1 h
 rw[<-q2];exact List.getElem_mem q1
end Go.TVF
section
namespace Go.TVF
open Go.IntKind(i64 u8)
open Go
theorem or_i64 (x y:Nat) (hx:x<2^63) (hy:y<2^63):Ct .or .i64 (x:Int) (y:Int)=((x ||| y:Nat):Int):=by
 have h:x ||| y<2^63:=Nat.or_lt_two_pow hx hy
 show IntKind.wrap .i64 ((BitVec.ofInt 64 (x:Int) ||| BitVec.ofInt 64 (y:Int)).toNat:Int)=_
 simp only[BitVec.ofInt_natCast,BitVec.toNat_or,BitVec.toNat_ofNat]
 rw[Nat.mod_eq_of_lt (by omega),Nat.mod_eq_of_lt (by omega),Ai _ (by omega) (by omega)]
theorem TQ (x y:Nat) (hx:x<2^8) (hy:y<2^8):Ct .and .u8 (x:Int) (y:Int)=((x&&&y:Nat):Int):=by
 have h:x&&&y<2^8:=Nat.and_lt_two_pow _ hy
 show IntKind.wrap .u8 ((BitVec.ofInt 8 (x:Int)&&&BitVec.ofInt 8 (y:Int)).toNat:Int)=_
 simp only[BitVec.ofInt_natCast,BitVec.toNat_and,BitVec.toNat_ofNat]
 rw[Nat.mod_eq_of_lt (by omega),Nat.mod_eq_of_lt (by omega),wrapU8 _ (by omega) (by omega)]
theorem or_add (a b m:Nat) (hb:b<2^m) (h:a*2^m+b<2^63):Ct .or .i64 ((a*2^m:Nat):Int) (b:Int)=((a*2^m+b:Nat):Int):=by
 have hb':b<2^63:=by omega
 rw[or_i64 _ _ (by omega) hb',Nat.mul_comm a,Nat.two_pow_add_eq_or_of_lt hb]
theorem Ge {α:Type} (l:List α) (i:Nat) (d:α) (h:i<l.length):l.take (i+1)=l.take i++[l.getD i d]:=by
 rw[List.take_add_one,List.getElem?_eq_getElem h,List.getD,List.getElem?_eq_getElem h];rfl
theorem RY {α:Type} (l:List α) (i j:Nat) (d:α):(l.drop i).getD j d=l.getD (i+j) d:=by
 simp[List.getD,List.getElem?_drop]
def bt (l:B8) (i:Nat):Nat:=(l.getD i 0).toNat
theorem Fv (l:B8) (i:Nat):bt l i<256:=(l.getD i 0).toNat_lt
theorem bt_drop (l:B8) (i j:Nat):bt (l.drop i) j=bt l (i+j):=by simp[bt,RY]
def dN (l:B8):Nat×Nat:=Lib.decodeN l.length (bt l 0) (bt l 1) (bt l 2) (bt l 3)
def ul (l:B8):Nat:=if l=[]∨dN l=(65533,1)then 0 else(dN l).2
def ur (l:B8):Nat:=(dN l).1
def Cb (r:Nat):Prop:=r<=1114111/\(r<55296∨57343<r)
instance (r:Nat):Decidable (Cb r):=by unfold Cb;infer_instance
def Gh (r:Nat):B8:=
 if r<128 then [UInt8.ofNat r]else if r<2048 then [UInt8.ofNat (192+r/64),UInt8.ofNat (128+r%64)]
 else if r<65536 then [UInt8.ofNat (224+r/4096),UInt8.ofNat (128+r/64%64),UInt8.ofNat (128+r%64)]
 else [UInt8.ofNat (240+r/262144),UInt8.ofNat (128+r/4096%64),UInt8.ofNat (128+r/64%64),UInt8.ofNat (128+r%64)]
theorem CK (n:Nat) (c:UInt8):UInt8.ofNat n=c↔n%256=c.toNat:=by
 rw[<-UInt8.toNat_inj];simp
theorem IR (l:B8) (h:1<=l.length):l.take 1=[l.getD 0 0]:=by
 rw[Ge l 0 0 (by omega)];rfl
theorem IQ (l:B8) (h:2<=l.length):l.take 2=[l.getD 0 0,l.getD 1 0]:=by
 rw[Ge l 1 0 (by omega),IR l (by omega)];rfl
theorem Gq (l:B8) (h:3<=l.length):l.take 3=[l.getD 0 0,l.getD 1 0,l.getD 2 0]:=by
 rw[Ge l 2 0 (by omega),IQ l (by omega)];rfl
theorem Jy (l:B8) (h:4<=l.length):l.take 4=[l.getD 0 0,l.getD 1 0,l.getD 2 0,l.getD 3 0]:=by
 rw[Ge l 3 0 (by omega),Gq l (by omega)];rfl
def rsz (b0:Nat):Nat:=if 240<=b0 then 4 else if 224<=b0 then 3 else if 192<=b0 then 2 else 1
def rb0 (b0:Nat):Nat:=if 240<=b0 then b0%8 else if 224<=b0 then b0%16 else if 192<=b0 then b0%32 else b0
def C7 (l:B8) (r0:Nat):Nat->Nat
 | 0=>r0
 | j+1=>C7 l r0 j*64+bt l (j+1)%64
theorem QS (l:B8) (r0:Nat) (h:r0<256):∀j,C7 l r0 j<256*64^j
 | 0=>by simpa [C7]using h
 | j+1=>by
  have:=QS l r0 h j
  have h2:=Nat.mod_lt (bt l (j+1)) (show 0<64 by omega)
  simp only[C7,Nat.pow_succ]
  omega
theorem rsz_le (b0:Nat):1<=rsz b0/\rsz b0<=4:=by
 unfold rsz
 repeat' split
 all_goals omega
def SD (l:B8):Nat×Nat:=
 let size:=rsz (bt l 0)
 let r:=C7 l (rb0 (bt l 0)) (size-1)
 if l.length<size then(0,0)else if Cb r/\Gh r=l.take size then(r,size)else(0,0)
theorem CP {a b:UInt8} {x y:B8}:(a::x=b::y)↔a=b/\x=y:=by simp
set_option maxHeartbeats 4000000 in
theorem Nw (l:B8) (h:l≠ []):SD l=if ul l=0 then(0,0)else(ur l,ul l):=by
 have hl:1<=l.length:=by cases l with | nil=>exact absurd rfl h | cons a r=>simp
 have h0:=Fv l 0
 have h1:=Fv l 1
 have h2:=Fv l 2
 have h3:=Fv l 3
 have e0:(l.getD 0 0).toNat=bt l 0:=rfl
 have e1:(l.getD 1 0).toNat=bt l 1:=rfl
 have e2:(l.getD 2 0).toNat=bt l 2:=rfl
 have e3:(l.getD 3 0).toNat=bt l 3:=rfl
 have hul:ul l=if dN l=(65533,1)then 0 else(dN l).2:=by simp[ul,h]
 rw[hul,ur]
 unfold dN
 generalize hb0:bt l 0=b0 at*
 generalize hb1:bt l 1=b1 at*
 generalize hb2:bt l 2=b2 at*
 generalize hb3:bt l 3=b3 at*
 unfold SD
 simp only[hb0]
 by_cases c4:240<=b0
 ·have r4:rsz b0=4:=by unfold rsz;rw[if_pos c4]
  have rb:rb0 b0=b0%8:=by unfold rb0;rw[if_pos c4]
  rw[r4,rb]
  simp only[Nat.reduceSub,C7,hb1,hb2,hb3,Nat.zero_add,Nat.reduceAdd]
  by_cases hn:l.length<4
  ·rw[if_pos hn]
   have:Lib.decodeN l.length b0 b1 b2 b3=(65533,1):=by
    unfold Lib.decodeN
    rw[if_neg (by omega),if_neg (by omega),if_neg (by omega),if_neg (by omega)]
   rw[this];simp
  ·rw[if_neg hn]
   have hEnc:(Cb (((b0%8*64+b1%64)*64+b2%64)*64+b3%64)/\Gh (((b0%8*64+b1%64)*64+b2%64)*64+b3%64)=l.take 4)↔(b0/8=30/\b1/64=2/\b2/64=2/\b3/64=2/\65536<=((b0%8*64+b1%64)*64+b2%64)*64+b3%64/\((b0%8*64+b1%64)*64+b2%64)*64+b3%64<=1114111):=by
    rw[Jy l (by omega)]
    generalize hr:((b0%8*64+b1%64)*64+b2%64)*64+b3%64=r
    unfold Cb Gh
    by_cases k1:r<128
    ·rw[if_pos k1];simp;omega
    ·rw[if_neg k1]
     by_cases k2:r<2048
     ·rw[if_pos k2];simp;omega
     ·rw[if_neg k2]
      by_cases k3:r<65536
      ·rw[if_pos k3];simp;omega
      ·rw[if_neg k3]
       simp only[CP,CK,e0,e1,e2,e3,and_true]
       omega
   by_cases hE:b0/8=30/\b1/64=2/\b2/64=2/\b3/64=2/\65536<=((b0%8*64+b1%64)*64+b2%64)*64+b3%64/\((b0%8*64+b1%64)*64+b2%64)*64+b3%64<=1114111
   ·rw[if_pos (hEnc.2 hE)]
    have:Lib.decodeN l.length b0 b1 b2 b3=(((b0%8*64+b1%64)*64+b2%64)*64+b3%64,4):=by
     unfold Lib.decodeN
     rw[if_neg (by omega),if_neg (by omega),if_neg (by omega),if_pos (by omega),if_pos (by omega)]
     simp only[Prod.mk.injEq,and_true];omega
    rw[this];simp
   ·rw[if_neg (fun hh=>hE (hEnc.1 hh))]
    have:Lib.decodeN l.length b0 b1 b2 b3=(65533,1):=by
     unfold Lib.decodeN
     rw[if_neg (by omega),if_neg (by omega),if_neg (by omega)]
     split
     ·rw[if_neg (by omega)]
     ·rfl
    rw[this];simp
 ·by_cases c3:224<=b0
  ·have r4:rsz b0=3:=by unfold rsz;rw[if_neg c4,if_pos c3]
   have rb:rb0 b0=b0%16:=by unfold rb0;rw[if_neg c4,if_pos c3]
   rw[r4,rb]
   simp only[Nat.reduceSub,C7,hb1,hb2,Nat.zero_add,Nat.reduceAdd]
   by_cases hn:l.length<3
   ·rw[if_pos hn]
    have:Lib.decodeN l.length b0 b1 b2 b3=(65533,1):=by
     unfold Lib.decodeN
     rw[if_neg (by omega),if_neg (by omega),if_neg (by omega),if_neg (by omega)]
    rw[this];simp
   ·rw[if_neg hn]
    have hEnc:(Cb ((b0%16*64+b1%64)*64+b2%64)/\Gh ((b0%16*64+b1%64)*64+b2%64)=l.take 3)↔(b1/64=2/\b2/64=2/\2048<=(b0%16*64+b1%64)*64+b2%64/\Cb ((b0%16*64+b1%64)*64+b2%64)):=by
     rw[Gq l (by omega)]
     generalize hr:(b0%16*64+b1%64)*64+b2%64=r
     unfold Cb Gh
     by_cases k1:r<128
     ·rw[if_pos k1];simp;omega
     ·rw[if_neg k1]
      by_cases k2:r<2048
      ·rw[if_pos k2];simp;omega
      ·rw[if_neg k2]
       by_cases k3:r<65536
       ·rw[if_pos k3]
        simp only[CP,CK,e0,e1,e2,and_true]
        omega
       ·omega
    by_cases hE:b1/64=2/\b2/64=2/\2048<=(b0%16*64+b1%64)*64+b2%64/\Cb ((b0%16*64+b1%64)*64+b2%64)
    ·rw[if_pos (hEnc.2 hE)]
     have:Lib.decodeN l.length b0 b1 b2 b3=((b0%16*64+b1%64)*64+b2%64,3):=by
      unfold Cb at hE
      unfold Lib.decodeN
      rw[if_neg (by omega),if_neg (by omega),if_pos (by omega),if_pos (by omega)]
      simp only[Prod.mk.injEq,and_true];omega
     rw[this];simp
    ·rw[if_neg (fun hh=>hE (hEnc.1 hh))]
     have:Lib.decodeN l.length b0 b1 b2 b3=(65533,1):=by
      unfold Cb at hE
      unfold Lib.decodeN
      rw[if_neg (by omega),if_neg (by omega)]
      split
      ·rw[if_neg (by omega)]
      ·rw[if_neg (by omega)]
     rw[this];simp
  ·by_cases c2:192<=b0
   ·have r4:rsz b0=2:=by unfold rsz;rw[if_neg c4,if_neg c3,if_pos c2]
    have rb:rb0 b0=b0%32:=by unfold rb0;rw[if_neg c4,if_neg c3,if_pos c2]
    rw[r4,rb]
    simp only[Nat.reduceSub,C7,hb1,Nat.zero_add,Nat.reduceAdd]
    by_cases hn:l.length<2
    ·rw[if_pos hn]
     have:Lib.decodeN l.length b0 b1 b2 b3=(65533,1):=by
      unfold Lib.decodeN
      rw[if_neg (by omega),if_neg (by omega),if_neg (by omega),if_neg (by omega)]
     rw[this];simp
    ·rw[if_neg hn]
     have hEnc:(Cb (b0%32*64+b1%64)/\Gh (b0%32*64+b1%64)=l.take 2)↔(b1/64=2/\128<=b0%32*64+b1%64):=by
      rw[IQ l (by omega)]
      generalize hr:b0%32*64+b1%64=r
      unfold Cb Gh
      by_cases k1:r<128
      ·rw[if_pos k1];simp;omega
      ·rw[if_neg k1,if_pos (by omega)]
       simp only[CP,CK,e0,e1,and_true]
       omega
     by_cases hE:b1/64=2/\128<=b0%32*64+b1%64
     ·rw[if_pos (hEnc.2 hE)]
      have:Lib.decodeN l.length b0 b1 b2 b3=(b0%32*64+b1%64,2):=by
       unfold Lib.decodeN
       rw[if_neg (by omega),if_pos (by omega),if_pos (by omega)]
      rw[this];simp
     ·rw[if_neg (fun hh=>hE (hEnc.1 hh))]
      have:Lib.decodeN l.length b0 b1 b2 b3=(65533,1):=by
       unfold Lib.decodeN
       rw[if_neg (by omega)]
       split
       ·rw[if_neg (by omega)]
       ·rw[if_neg (by omega),if_neg (by omega)]
      rw[this];simp
   ·have r4:rsz b0=1:=by unfold rsz;rw[if_neg c4,if_neg c3,if_neg c2]
    have rb:rb0 b0=b0:=by unfold rb0;rw[if_neg c4,if_neg c3,if_neg c2]
    rw[r4,rb]
    simp only[Nat.reduceSub,C7]
    rw[if_neg (by omega),IR l hl]
    have hEnc:(Cb b0/\Gh b0=[l.getD 0 0])↔b0<128:=by
     unfold Cb Gh
     by_cases k1:b0<128
     ·rw[if_pos k1];simp only[CP,CK,e0,and_true];omega
     ·rw[if_neg k1,if_pos (by omega)];simp;omega
    by_cases hE:b0<128
    ·rw[if_pos (hEnc.2 hE)]
     have:Lib.decodeN l.length b0 b1 b2 b3=(b0,1):=by unfold Lib.decodeN;rw[if_pos hE]
     rw[this,if_neg (by simp;omega)]
     simp only[Prod.mk.injEq]
     rw[if_neg (by omega)]
     simp
    ·rw[if_neg (fun hh=>hE (hEnc.1 hh))]
     have:Lib.decodeN l.length b0 b1 b2 b3=(65533,1):=by
      unfold Lib.decodeN
      rw[if_neg (by omega),if_neg (by omega),if_neg (by omega),if_neg (by omega)]
     rw[this];simp
theorem ul_char (l:B8) (h:ul l≠0):Cb (ur l)/\Gh (ur l)=l.take (ul l)/\ul l<=l.length/\ul l<=4:=by
 have hne:l≠ []:=fun h0=>h (by simp[ul,h0])
 have e:=Nw l hne
 rw[if_neg h]at e
 unfold SD at e
 simp only at e
 split at e
 ·simp only[Prod.mk.injEq]at e;omega
 ·split at e
  ·rename_i hn hc
   simp only[Prod.mk.injEq]at e
   rw[<-e.1,<-e.2]
   exact⟨hc.1,hc.2,by omega,(rsz_le _).2⟩
  ·simp only[Prod.mk.injEq]at e;omega
theorem QO (l:B8):ul l<=l.length:=by
 by_cases h:ul l=0
 ·omega
 ·exact(ul_char l h).2.2.1
theorem Sr (l:B8) (h:l≠ []) (hb:bt l 0<128):ul l=1/\ur l=bt l 0:=by
 have:dN l=(bt l 0,1):=by unfold dN Lib.decodeN;rw[if_pos hb]
 unfold ul ur
 rw[this,if_neg (by simp[h];omega)]
 exact⟨rfl,rfl⟩
theorem Na (l:B8) (h:l≠ []):ul l=0↔dN l=(65533,1):=by
 have hul:ul l=if dN l=(65533,1)then 0 else(dN l).2:=by simp[ul,h]
 rw[hul]
 constructor
 ·intro h0
  by_cases hd:dN l=(65533,1)
  ·exact hd
  ·rw[if_neg hd]at h0
   exfalso
   unfold dN Lib.decodeN at h0
   repeat' split at h0
   all_goals simp at h0
 ·intro h0;rw[if_pos h0]
theorem TA (l:B8) (h:ul l≠0):dN l=(ur l,ul l):=by
 have hne:l≠ []:=fun h0=>h (by simp[ul,h0])
 have hul:ul l=if dN l=(65533,1)then 0 else(dN l).2:=by simp[ul,hne]
 have hd:dN l≠(65533,1):=fun hd=>h ((Na l hne).2 hd)
 rw[if_neg hd]at hul
 rw[hul];rfl
theorem ul_not (l:B8) (h:ul l≠0):¬(ur l=65533/\ul l=1):=by
 intro hh
 have hne:l≠ []:=fun h0=>h (by simp[ul,h0])
 have:=TA l h
 rw[hh.1,hh.2]at this
 exact h ((Na l hne).2 this)
def Ff (l:B8):Nat:=if h:ul l=0 then 0 else ul l+Ff (l.drop (ul l))
termination_by l.length
decreasing_by
 have:=QO l
 simp only[List.length_drop];omega
theorem B5 (l:B8) (h:ul l=0):Ff l=0:=by rw[Ff,dif_pos h]
theorem Hw (l:B8) (h:ul l≠0):Ff l=ul l+Ff (l.drop (ul l)):=by rw[Ff,dif_neg h]
theorem QM:∀(n:Nat) (l:B8),l.length<=n->Ff l<=l.length
 | 0,l,h=>by
  have:l=[]:=List.eq_nil_of_length_eq_zero (by omega)
  subst this
  rw[B5 _ (by simp[ul])];simp
 | n+1,l,h=>by
  by_cases h0:ul l=0
  ·rw[B5 l h0];omega
  ·have h1:=QO l
   have h2:=QM n (l.drop (ul l)) (by simp only[List.length_drop];omega)
   rw[Hw l h0]
   simp only[List.length_drop]at h2;omega
end Go.TVF
end
namespace Go.TVF
open Go.IntKind(i64 u8)
open Go Go.Proofs
def NF (c:UInt8):Prop:=48<=c.toNat/\c.toNat<=57
instance (c:UInt8):Decidable (NF c):=inferInstanceAs (Decidable (_/\_))
def Js (l:B8):Nat:=(l.reverse.takeWhile (·==48)).length
def Ed (neg:Bool) (dg:B8) (ex:Int):Prop:=
 (dg=[]->neg=false/\ex=0)/\(dg≠ []->dg.length<=120/\(∀c,c∈dg->NF c)/\dg.getD 0 0≠48/\Js dg=0/\ -400<=ex/\ex<=400)
instance (neg:Bool) (dg:B8) (ex:Int):Decidable (Ed neg dg ex):=inferInstanceAs (Decidable ((_->_)/\(_->_)))
def Fc (k d n z:Int):Prop:=
 1<=k/\k<=4/\0<=d/\d<=3652058/\0<=n/\n<=86399999999999/\ -1439<=z/\z<=1439/\(k=2->d=0)/\(k=1->n=0)/\(k≠4->z=0)
instance (k d n z:Int):Decidable (Fc k d n z):=inferInstanceAs (Decidable (_/\_/\_/\_/\_/\_/\_/\_/\(_->_)/\(_->_)/\(_->_)))
def leapY (y:Nat):Prop:=y%4=0/\(y%100≠0∨y%400=0)
instance (y:Nat):Decidable (leapY y):=inferInstanceAs (Decidable (_/\_))
section
structure LQ (s:Sc) (l:List Vl) (f:List Fd):Prop where
 k0:0<=s.kind
 k7:s.kind<=7
 bo:s.kind≠1->s.b=false
 nu:s.kind≠2->s.neg=false/\s.dg=[]/\s.ex=0
 ti:s.kind≠3->s.tk=0/\s.td=0/\s.tn=0/\s.tz=0
 tx:s.kind≠4->s.text=[]
 by_:s.kind≠5->s.bytes=[]
 ls:s.kind≠6->l=[]
 fs:s.kind≠7->f=[]
noncomputable instance (s:Sc) (l:List Vl) (f:List Fd):Decidable (LQ s l f):=Classical.propDecidable _
def U8 (s:B8):Prop:=Ff s=s.length
instance (s:B8):Decidable (U8 s):=inferInstanceAs (Decidable (_=_))
def Dd (seen:List B8):List Fd->Nat
 | []=>0
 | d::r=>if U8 d.key then(if 1024<d.key.length then 10 else if d.key∈seen then 8 else Dd (d.key::seen) r)else 5
noncomputable def EV (s:Sc) (l:List Vl) (f:List Fd):Nat:=
 if LQ s l f then(if Ed s.neg s.dg s.ex then(if s.kind=3->Fc s.tk s.td s.tn s.tz then(if U8 s.text then(if 65536<s.text.length then 10 else if 65536<s.bytes.length then 10 else Dd [] f)else 5)else 2)else 2)else 6
noncomputable def GS (x:Nat×Nat) (f:Nat->Nat×Nat):Nat×Nat:=if x.2=0 then f x.1 else x
mutual
noncomputable def CF (d n:Nat):Vl->Nat×Nat
 | .mk s l f=>if 48<d then(n,9)else if 65536<=n then(n,10)else if EV s l f≠0 then(n,EV s l f)else GS (Cs (d+1) (n+1) l) fun m=>Cd (d+1) m f
noncomputable def Cs (d n:Nat):List Vl->Nat×Nat
 | []=>(n,0)
 | v::r=>GS (CF d n v) fun m=>Cs d m r
noncomputable def Jq (d n:Nat):Fd->Nat×Nat
 | .mk _ v=>CF d n v
noncomputable def Cd (d n:Nat):List Fd->Nat×Nat
 | []=>(n,0)
 | x::r=>GS (Jq d n x) fun m=>Cd d m r
end
noncomputable def AQ (v:Vl):Nat:=(CF 1 0 v).2
theorem Bv {x:Nat×Nat} {f:Nat->Nat×Nat} (h:(GS x f).2=0):x.2=0/\(f x.1).2=0:=by
 unfold GS at h
 split at h
 ·rename_i h0;exact⟨h0,h⟩
 ·rename_i h0;exact absurd h h0
theorem Cn {x:Nat×Nat} {f:Nat->Nat×Nat} (h:x.2=0):GS x f=f x.1:=by unfold GS;rw[if_pos h]
theorem Jx {x:Nat×Nat} {f:Nat->Nat×Nat} (h:x.2≠0):GS x f=x:=by unfold GS;rw[if_neg h]
theorem Jg:∀(f:List Fd) (seen:List B8),Dd seen f=0->Cm f/\(∀d,d∈f->d.key∉seen/\U8 d.key/\d.key.length<=1024)
 | [],seen,_=>⟨List.nodup_nil,fun d h=>by cases h⟩
 | d::r,seen,h=>by
  unfold Dd at h
  split at h
  ·rename_i h1
   split at h
   ·cases h
   ·rename_i h2
    split at h
    ·cases h
    ·rename_i h3
     obtain⟨k1,k2⟩:=Jg r (d.key::seen) h
     refine⟨?_,fun x hx=>?_⟩
     ·unfold Cm
      rw[List.map_cons,List.nodup_cons]
      refine⟨fun hm=>?_,k1⟩
      obtain⟨x,hx,he⟩:=List.mem_map.1 hm
      exact(k2 x hx).1 (he▸.head _)
     ·rcases List.mem_cons.1 hx with rfl | hx
      ·exact⟨h3,h1,by omega⟩
      ·obtain⟨q1,q2,q3⟩:=k2 x hx
       exact⟨fun hm=>q1 (.tail _ hm),q2,q3⟩
  ·cases h
structure Kj (s:Sc) (l:List Vl) (f:List Fd):Prop where
 own:LQ s l f
 dec:Ed s.neg s.dg s.ex
 time:s.kind=3->Fc s.tk s.td s.tn s.tz
 text:U8 s.text
 tlen:s.text.length<=65536
 blen:s.bytes.length<=65536
 keys:Dd [] f=0
theorem Mr {s:Sc} {l:List Vl} {f:List Fd}:EV s l f=0↔Kj s l f:=by
 unfold EV
 constructor
 ·intro h
  split at h
  ·rename_i h1
   split at h
   ·rename_i h2
    split at h
    ·rename_i h3
     split at h
     ·rename_i h4
      split at h
      ·cases h
      ·rename_i h5
       split at h
       ·cases h
       ·rename_i h6
        exact⟨h1,h2,h3,h4,by omega,by omega,h⟩
     ·cases h
    ·cases h
   ·cases h
  ·cases h
 ·intro h
  rw[if_pos h.own,if_pos h.dec,if_pos h.time,if_pos h.text,if_neg (by have:=h.tlen;omega),if_neg (by have:=h.blen;omega)]
  exact h.keys
mutual
def Az:Vl->Prop
 | .mk s l f=>Kj s l f/\AX l/\Bb f
def AX:List Vl->Prop
 | []=>True
 | v::r=>Az v/\AX r
def Cl:Fd->Prop
 | .mk _ v=>Az v
def Bb:List Fd->Prop
 | []=>True
 | d::r=>Cl d/\Bb r
end
mutual
theorem NR:∀(v:Vl) (d n:Nat),(CF d n v).2=0->Az v
 | .mk s l f,d,n,h=>by
  unfold CF at h
  unfold Az
  split at h
  ·cases h
  ·split at h
   ·cases h
   ·split at h
    ·rename_i h1;exact absurd h h1
    ·rename_i h1
     obtain⟨h2,h3⟩:=Bv h
     exact⟨Mr.1 (Decidable.of_not_not h1),Pk l _ _ h2,Pp f _ _ h3⟩
theorem Pk:∀(l:List Vl) (d n:Nat),(Cs d n l).2=0->AX l
 | [],d,n,_=>by unfold AX;trivial
 | v::r,d,n,h=>by
  unfold Cs at h
  unfold AX
  obtain⟨h2,h3⟩:=Bv h
  exact⟨NR v _ _ h2,Pk r _ _ h3⟩
theorem chkD_ok:∀(x:Fd) (d n:Nat),(Jq d n x).2=0->Cl x
 | .mk k v,d,n,h=>by unfold Jq at h;unfold Cl;exact NR v _ _ h
theorem Pp:∀(l:List Fd) (d n:Nat),(Cd d n l).2=0->Bb l
 | [],d,n,_=>by unfold Bb;trivial
 | x::r,d,n,h=>by
  unfold Cd at h
  unfold Bb
  obtain⟨h2,h3⟩:=Bv h
  exact⟨chkD_ok x _ _ h2,Pp r _ _ h3⟩
end
theorem Kj.sc {s:Sc} {l:List Vl} {f:List Fd} (h:Kj s l f):ScOk s:=by
 obtain⟨own,dec,time,text,tlen,blen,keys⟩:=h
 have hd:s.dg.length<=120/\ -400<=s.ex/\s.ex<=400:=by
  by_cases h0:s.dg=[]
  ·have:=dec.1 h0;rw[h0];simp only[List.length_nil];omega
  ·have:=dec.2 h0;exact⟨this.1,this.2.2.2.2⟩
 have ht:0<=s.tk/\s.tk<=255/\0<=s.td/\s.td<=100000000000/\0<=s.tn/\s.tn<=100000000000000/\ -1000000<=s.tz/\s.tz<=1000000:=by
  by_cases h3:s.kind=3
  ·have:=time h3;unfold Fc at this;omega
  ·have:=own.ti h3;omega
 exact⟨own.k0,own.k7,by omega,by omega,by omega,ht.1,ht.2.1,ht.2.2.1,ht.2.2.2.1,ht.2.2.2.2.1,ht.2.2.2.2.2.1,ht.2.2.2.2.2.2.1,ht.2.2.2.2.2.2.2⟩
mutual
theorem Az.ok:∀{v:Vl},Az v->VOk v/\KNd v
 | .mk s l f,h=>by
  unfold Az at h
  unfold VOk KNd
  obtain⟨h1,h2,h3⟩:=h
  have a:=AX.ok h2
  have b:=Bb.ok h3
  exact⟨⟨h1.sc,a.1,b.1⟩,a.2,(Jg _ _ h1.keys).1,b.2⟩
theorem AX.ok:∀{l:List Vl},AX l->TU l/\N4 l
 | [],h=>by unfold TU N4;exact⟨trivial,trivial⟩
 | v::r,h=>by
  unfold AX at h
  unfold TU N4
  have a:=Az.ok h.1
  have b:=AX.ok h.2
  exact⟨⟨a.1,b.1⟩,a.2,b.2⟩
theorem Cl.ok:∀{x:Fd},Cl x->FdOk x/\TW x
 | .mk k v,h=>by unfold Cl at h;unfold FdOk TW;exact Az.ok h
theorem Bb.ok:∀{l:List Fd},Bb l->TX l/\N5 l
 | [],h=>by unfold TX N5;exact⟨trivial,trivial⟩
 | v::r,h=>by
  unfold Bb at h
  unfold TX N5
  have a:=Cl.ok h.1
  have b:=Bb.ok h.2
  exact⟨⟨a.1,b.1⟩,a.2,b.2⟩
end
end
theorem SlR.isPtr {st:St} {sz n i:Nat} {u:TV} {xs:List TV} (h:SlR st sz u n xs) (hi:i<n):TVF.isPtr (ixT sz u i)=true:=by
 rcases h with(⟨rfl,rfl,rfl⟩ | ⟨tip,rfl⟩) | ⟨b,off,cap,l,rfl,_⟩
 ·omega
 ·rfl
 ·rfl
theorem SlR.ldcf {st:St} {sz n i f m:Nat} {u:TV} {xs:List TV} (h:SlR st sz u n xs) (hl:xs.length=n*sz) (hi:i<n) (hf:f+m<=sz):Aj st [] (.t (AV (ixT sz u i) f)) 0 m=some ((xs.drop (i*sz+f)).take m):=by
 have hm:(i+1)*sz<=n*sz:=Nat.mul_le_mul_right _ hi
 rw[Nat.add_mul,Nat.one_mul]at hm
 rcases h with(⟨rfl,rfl,rfl⟩ | ⟨tip,rfl⟩) | ⟨b,off,cap,l,rfl,h2,h3,h4,h5,rfl⟩
 ·omega
 ·show Aj st [] (.t (.rptr ((xs.drop (i*sz)).drop f))) 0 m=_
  rw[List.drop_drop,Lj m 0 (by rw[List.length_drop];omega),List.drop_zero]
 ·have hc:n*sz<=cap*sz:=Nat.mul_le_mul_right _ h5
  have e1:(((l.drop off).take (n*sz)).drop (i*sz+f)).take m=(l.drop (off+i*sz+f)).take m:=by
   rw[List.drop_take,List.drop_drop,List.take_take,Nat.min_eq_left (by omega),Nat.add_assoc]
  rw[e1]
  have e:=Jf (B:=l.drop (off+i*sz+f+m)) (st:=st) (b:=b) ((l.drop (off+i*sz+f)).take m) l 0 (off+i*sz+f) h3 (by
   have:=List.take_append_drop m (l.drop (off+i*sz+f))
   rw[List.drop_drop]at this
   rw[Nat.add_zero];exact this.symm)
  rw[show((l.drop (off+i*sz+f)).take m).length=m by simp;omega]at e
  exact e
theorem SlR.ldf {st:St} {sz n i f:Nat} {u x:TV} {xs:List TV} (h:SlR st sz u n xs) (hl:xs.length=n*sz) (hi:i<n) (hf:f<sz) (hx:xs[i*sz+f]? =some x):Ac st [] (.t (AV (ixT sz u i) f)) 0=some x:=by
 have:=h.ldcf (f:=f) (m:=1) hl hi (by omega)
 have hlt:i*sz+f<xs.length:=by
  obtain⟨q,_⟩:=List.getElem?_eq_some_iff.1 hx
  exact q
 rw[List.drop_eq_getElem_cons hlt]at this
 rw[List.getElem?_eq_getElem hlt]at hx
 simp only[Aj,List.take_succ_cons,List.take_zero]at this
 cases hq:Ac st [] (.t (AV (ixT sz u i) f)) 0 with
 | none=>rw[hq]at this;cases this
 | some y=>
  rw[hq]at this
  simp only[Option.map_some,Option.some.injEq,List.cons.injEq,and_true]at this
  rw[this];exact hx
theorem val14 {st0 st:St} {uf:TV} {xf:List TV} {l:List Fd} (hke:Bq st0 st) (h2:SlR st0 14 uf l.length xf) (h3:FsR st0 l xf) {i:Int} {k:Nat} (hi:i=k) (hk:k<l.length) {f:Fun [.int .i64,.bool,.bool,.str,.int .i64,.int .i64,.int .i64,.int .i64,.int .i64,.str,.tv,.tv,.tv] Prop}
  (hf:∀key s' l' f' ub1 ul1 uf1,l[k]? =some (.mk key (.mk s' l' f'))->VlR st0 (.mk s' l' f') (AK s' ub1 ul1 uf1)->List.all (AK s' ub1 ul1 uf1) At=true->f s'.kind s'.b s'.neg s'.dg s'.ex s'.tk s'.td s'.tn s'.tz s'.text ub1 ul1 uf1):
  (0<=i/\i<(lenZ 14 uf:Int))/\need (TVF.isPtr (ixT 14 uf (Int.toNat i))) (Ar ((Aj st [] (.t (AV (ixT 14 uf (Int.toNat i)) 1)) 0 13).map TV.agg) fun x=>BF [.int .i64,.bool,.bool,.str,.int .i64,.int .i64,.int .i64,.int .i64,.int .i64,.str,.tv,.tv,.tv] x f):=by
 subst hi
 have gw:l[k]? =some l[k]:=List.getElem?_eq_getElem hk
 obtain⟨cw,hw,hcw,hcl⟩:=h3.get gw
 rw[h2.lenZ,Int.toNat_natCast]
 refine⟨⟨by omega,by omega⟩,Aa (h2.isPtr hk) ?_⟩
 rw[(h2.keep hke).ldcf (f:=1) (m:=13) h3.len hk (by omega)]
 generalize l[k]=w at*
 cases w with
 | mk key w=>
 cases w with
 | mk s' l' f'=>
 unfold FdR at hw
 obtain⟨cw2,rfl,hw1⟩:=hw
 have hw2:=hw1
 unfold VlR at hw2
 obtain⟨ub',ul',uf',xl',xf',rfl,w1,w2,w3,w4,w5⟩:=hw2
 have e:(xf.drop (k*14+1)).take 13=AK s' ub' ul' uf':=by
  rw[<-List.drop_drop]
  have:=congrArg (fun z=>z.drop 1) hcw
  simp only[List.drop_take]at this
  simpa [AK]using this
 rw[e]
 exact Ae rfl (NO (hf key s' l' f' ub' ul' uf' gw hw1 (DB w1.one w2.one w4.one)))
theorem Bq.trans {a b c:St} (h:Bq a b) (k:Bq b c):Bq a c:=⟨Nat.le_trans h.1 k.1,fun i hi=>(k.2 i (Nat.lt_of_lt_of_le hi h.1)).trans (h.2 i hi)⟩
theorem E7 {s:B8} {f:B8->Prop} (h:f s):Bj .str (.str s) f:=h
theorem BE {k:IntKind} {n:Int} {f:Int->Prop} (h:f n):Bj (.int k) (.int k n) f:=by
 simp only[Bj];exact h
theorem EM {b:Bool} {f:Bool->Prop} (h:f b):Bj .bool (.bool b) f:=h
end Go.TVF
