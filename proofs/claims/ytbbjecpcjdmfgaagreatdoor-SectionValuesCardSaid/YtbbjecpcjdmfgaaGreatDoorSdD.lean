/- What the laws below rest on: a framework for Go programs, and contracts of the functions that they reach. -/
import Derived.Test.YtbbjecpcjdmfgaaGreatDoorSdC
import Derived.Lib.DecodeN
set_option maxRecDepth 20000
set_option linter.unusedVariables false
set_option linter.unusedSimpArgs false
namespace Go.TVF
open Go.IntKind(i64 u8)
open Go Go.Proofs
theorem CS (s:TV) (f:TV) (st:St) (K:Int->St->Prop) (h:need (isSl s) (∃(I1:Int->TV->TV->Int->St->Prop) (M1:Int->TV->TV->Int->St->Nat),(I1 0 s f ((lenS s:Int)) st)/\∀a b e c d,I1 a b e c d->(BId (a<c) (((0<=a/\a<(lenZ 1 b:Int))/\Aj (Ac d [] (.t (ixT 1 b a.toNat)) 0) (fun (x1:TV)=>AQ .str x1 (fun (s1:B8)=>Fi PR e [.str s1] [.one .bool] d (fun (b1:Bool) g=>BIf b1 (K a g) ((I1 ((i64.wrap (a+(1:Int)))) b e c g/\M1 ((i64.wrap (a+(1:Int)))) b e c g<M1 a b e c d))))))) (K (-1) d)))):CallT PR Bw [s,f] [.one (.int .i64)] st K:=
 Af (cfg:=⟨[],[],[]⟩) (h:=(.seq .none (.seq (.seq .none (.block (.loop ⟨[(8,.int .i64),(0,.tv),(1,.tv),(7,.int .i64)],[],[],[]⟩ .none))) .none))) mixed (fun _ _=>Tryz.call106 _ _) Tryz.func106 (by kernel_rfl) (by kernel_rfl) h
theorem Kx (s:B8) (st:St) (K:Bool->St->Prop) (h:BId ((s.length:Int)<=(600:Int)) (CallT PR FT [.str s] [.one .bool] st (fun (b1:Bool) a=>BIf b1 (BId (s=([]:B8)) (K true a) (((0<=(0:Int)/\(0:Int)<(s.length:Int))/\K ((decide (((List.getD s (Int.toNat (0:Int)) 0).toNat:Int)≠(48:Int)))) a))) (K false a))) (K false st)):CallT PR Em [.str s] [.one .bool] st K:=
 Af (cfg:=⟨[],[],[]⟩) (h:= .none) mixed (fun _ _=>Tryz.call110 _ _) Tryz.func110 (by kernel_rfl) (by kernel_rfl) h
theorem Kw (a:B8) (st:St) (K:Int->St->Prop) (h:CallT PR Eb [.str a,.str str6] [.one .str] st (fun (s1:B8) b=>K ((i64.wrap ((a.length:Int)-(s1.length:Int)))) b)):CallT PR El [.str a] [.one (.int .i64)] st K:=
 Af (cfg:=⟨[],[],[]⟩) (h:= .none) mixed (fun _ _=>Tryz.call111 _ _) Tryz.func111 (by kernel_rfl) (by kernel_rfl) h
theorem Nw (s:B8) (st:St) (K:Int->St->Prop) (h:CallT PR Ds [.str s] [.one .bool] st (fun (b1:Bool) a=>BIf (!b1) (K 5 a) (BId ((1024:Int)<(s.length:Int)) (K 10 a) (K 0 a)))):CallT PR GN [.str s] [.one (.int .i64)] st K:=
 Af (cfg:=⟨[],[],[]⟩) (h:= .none) mixed (fun _ _=>Tryz.call112 _ _) Tryz.func112 (by kernel_rfl) (by kernel_rfl) h
theorem Mg (s:B8) (atx:Int) (st:St) (K:Int->Int->St->Prop) (h:BId (atx<0) (K 0 0 st) (BId ((s.length:Int)<=atx) (K 0 0 st) (((0<=atx/\atx<(s.length:Int))/\CallT PR Hv [(.int .u8 ((List.getD s atx.toNat 0).toNat:Int))] [.one (.int .i64),.one (.int .i64)] st (fun (n1 n2:Int) g=>BId (n1=0) (K 0 0 g) (BId ((i64.wrap ((s.length:Int)-atx))<n1) (K 0 0 g) (∃(I1:Int->Int->B8->Int->Int->St->Prop) (M1:Int->Int->B8->Int->Int->St->Nat),(I1 n2 1 s atx n1 g)/\∀d b c a e f,I1 d b c a e f->(BId (b<e) (((0<=(i64.wrap (a+b))/\(i64.wrap (a+b))<(c.length:Int))/\BId ((AL .and .u8 ((List.getD c (Int.toNat (i64.wrap (a+b))) 0).toNat:Int) (192:Int))≠(128:Int)) (K 0 0 f) ((I1 ((AL .or .i64 (i64.wrap (d*2^(min (Int.toNat (6:Int)) (IntKind.bits .i64)))) (i64.wrap (AL .and .u8 ((List.getD c (Int.toNat (i64.wrap (a+b))) 0).toNat:Int) (63:Int))))) ((i64.wrap (b+(1:Int)))) c a e f/\M1 ((AL .or .i64 (i64.wrap (d*2^(min (Int.toNat (6:Int)) (IntKind.bits .i64)))) (i64.wrap (AL .and .u8 ((List.getD c (Int.toNat (i64.wrap (a+b))) 0).toNat:Int) (63:Int))))) ((i64.wrap (b+(1:Int)))) c a e f<M1 d b c a e f)))) (CallT PR FR [.int .i64 d] [.one .bool] f (fun (b1:Bool) j=>BIf (!b1) (K 0 0 j) (CallT PR GO [.int .i64 d] [.one (.int .i64)] j (fun (n3:Int) i=>BId (n3≠e) (K 0 0 i) (K d e i))))))))))))):CallT PR FS [.str s,.int .i64 atx] [.one (.int .i64),.one (.int .i64)] st K:=
 Af (cfg:=⟨[],[],[]⟩) (h:=(.seq .none (.seq .none (.seq .none (.seq .none (.seq (.seq .none (.block (.loop ⟨[(4,.int .i64),(7,.int .i64),(0,.str),(1,.int .i64),(6,.int .i64)],[],[],[]⟩ .none))) .none)))))) mixed (fun _ _=>Tryz.call117 _ _) Tryz.func117 (by kernel_rfl) (by kernel_rfl) h
theorem KV (v_0:Int) (v_1:Bool) (v_2:Bool) (v_3:B8) (v_4:Int) (v_5:Int) (v_6:Int) (v_7:Int) (v_8:Int) (v_9:B8) (v_10:TV) (v_11:TV) (v_12:TV) (s_0:Bool) (s_1:B8) (s_2:Int) (st:St) (K:Bool->St->Prop) (h:BIf s_0 (K ((decide (v_0=6))) st) (K ((decide (v_0=7))) st)):CallT PR Hw [(.agg (cV v_0 v_1 v_2 v_3 v_4 v_5 v_6 v_7 v_8 v_9 v_10 v_11 v_12)),(.agg [.bool s_0,.str s_1,.int .i64 s_2])] [.one .bool] st K:=
 Af (cfg:=⟨[2,3],[],[]⟩) (h:= .none) mixed (fun _ _=>Tryz.call118 _ _) Tryz.func118 (by kernel_rfl) (by kernel_rfl) h
theorem Ky (v_0:Int) (c:Bool) (v_2:Bool) (v_3:B8) (v_4:Int) (v_5:Int) (v_6:Int) (v_7:Int) (v_8:Int) (v_9:B8) (v_10:TV) (v_11:TV) (v_12:TV) (key:B8) (st:St) (K:Int->St->Prop) (h:need (isSl v_12) (∃(I1:Int->B8->TV->Int->St->Prop) (M1:Int->B8->TV->Int->St->Nat),(I1 0 key v_12 ((lenS v_12:Int)) st)/\∀b a c e d,I1 b a c e d->(BId (b<e) (((0<=b/\b<(lenZ 14 c:Int))/\Aj ((Ai d [] (.t (ixT 14 c b.toNat)) 0 14).map TV.agg) (fun (x1:TV)=>Bj [.str,.int .i64,.bool,.bool,.str,.int .i64,.int .i64,.int .i64,.int .i64,.int .i64,.str,.tv,.tv,.tv] x1 (fun (s1:B8) (n1:Int) (b1 b2:Bool) (s2:B8) (n2 n3 n4 n5 n6:Int) (s3:B8) (v1 v2 v3:TV)=>need (List.all [.str s1,.int .i64 n1,.bool b1,.bool b2,.str s2,.int .i64 n2,.int .i64 n3,.int .i64 n4,.int .i64 n5,.int .i64 n6,.str s3,v1,v2,v3] Au) (BId (s1=a) (K b d) ((I1 ((i64.wrap (b+(1:Int)))) a c e d/\M1 ((i64.wrap (b+(1:Int)))) a c e d<M1 b a c e d))))))) (K (-1) d)))):CallT PR Eo [(.agg (cV v_0 c v_2 v_3 v_4 v_5 v_6 v_7 v_8 v_9 v_10 v_11 v_12)),.str key] [.one (.int .i64)] st K:=
 Af (cfg:=⟨[2,6],[],[]⟩) (h:=(.seq .none (.seq (.seq .none (.block (.loop ⟨[(10,.int .i64),(1,.str),(8,.tv),(9,.int .i64)],[],[],[]⟩ .none))) .none))) mixed (fun _ _=>Tryz.call119 _ _) Tryz.func119 (by kernel_rfl) (by kernel_rfl) h
theorem Gx (s:B8) (atx:Int) (st:St) (K:Int->Int->St->Prop) (h:BId (atx<0) (K 0 0 st) (BId ((s.length:Int)<=atx) (K 0 0 st) (((0<=atx/\atx<(s.length:Int))/\∃(C1:Int->Int->B8->Int->St->Prop),(BId ((240:Int)<=(i64.wrap ((List.getD s atx.toNat 0).toNat:Int))) (C1 4 ((AL .and .i64 (i64.wrap ((List.getD s atx.toNat 0).toNat:Int)) (7:Int))) s atx st) (BId ((224:Int)<=(i64.wrap ((List.getD s atx.toNat 0).toNat:Int))) (C1 3 ((AL .and .i64 (i64.wrap ((List.getD s atx.toNat 0).toNat:Int)) (15:Int))) s atx st) (BId ((192:Int)<=(i64.wrap ((List.getD s atx.toNat 0).toNat:Int))) (C1 2 ((AL .and .i64 (i64.wrap ((List.getD s atx.toNat 0).toNat:Int)) (31:Int))) s atx st) (C1 1 ((i64.wrap ((List.getD s atx.toNat 0).toNat:Int))) s atx st))))/\∀e m k i j,C1 e m k i j->(BId ((i64.wrap ((k.length:Int)-i))<e) (K 0 0 j) (∃(I1:Int->Int->B8->Int->Int->St->Prop) (M1:Int->Int->B8->Int->Int->St->Nat),(I1 m 1 k i e j)/\∀f d c a b g,I1 f d c a b g->(BId (d<b) (((0<=(i64.wrap (a+d))/\(i64.wrap (a+d))<(c.length:Int))/\(I1 ((AL .or .i64 (i64.wrap (f*2^(min (Int.toNat (6:Int)) (IntKind.bits .i64)))) (AL .and .i64 (i64.wrap ((List.getD c (Int.toNat (i64.wrap (a+d))) 0).toNat:Int)) (63:Int)))) ((i64.wrap (d+(1:Int)))) c a b g/\M1 ((AL .or .i64 (i64.wrap (f*2^(min (Int.toNat (6:Int)) (IntKind.bits .i64)))) (AL .and .i64 (i64.wrap ((List.getD c (Int.toNat (i64.wrap (a+d))) 0).toNat:Int)) (63:Int)))) ((i64.wrap (d+(1:Int)))) c a b g<M1 f d c a b g))) (CallT PR Bz [.int .i64 f] [.one .str,.one (.int .i64)] g (fun (s1:B8) (n1:Int) l=>BId (n1≠0) (K 0 0 l) (((0<=a/\a<=(i64.wrap (a+b))/\(i64.wrap (a+b))<=(c.length:Int))/\BId (s1≠(List.drop a.toNat (List.take (Int.toNat (i64.wrap (a+b))) c))) (K 0 0 l) (K f b l)))))))))))):CallT PR BA [.str s,.int .i64 atx] [.one (.int .i64),.one (.int .i64)] st K:=
 Af (cfg:=⟨[],[],[]⟩) (h:=(.seq .none (.seq .none (.seq .none (.seq .none (.cut ⟨[(7,.int .i64),(8,.int .i64),(0,.str),(1,.int .i64)],[],[],[]⟩ .none (.seq .none (.seq (.seq .none (.block (.loop ⟨[(8,.int .i64),(9,.int .i64),(0,.str),(1,.int .i64),(7,.int .i64)],[],[],[]⟩ .none))) .none)))))))) mixed (fun _ _=>Tryz.call120 _ _) Tryz.func120 (by kernel_rfl) (by kernel_rfl) h
theorem BD (data:TV) (n:Int) (cmp:TV) (st:St) (K:St->Prop) (h:∃(I1:Int->Int->TV->Int->TV->Int->St->Prop) (M1:Int->Int->TV->Int->TV->Int->St->Nat),(I1 0 20 data n cmp 20 st)/\∀t l f o g b u,I1 t l f o g b u->(BId (l<=o) (CallT PR AF [f,.int .i64 t,.int .i64 l,g] [] u (fun (w:St)=>(I1 l ((i64.wrap (l+b))) f o g b w/\M1 l ((i64.wrap (l+b))) f o g b w<M1 t l f o g b u))) (CallT PR AF [f,.int .i64 t,.int .i64 o,g] [] u (fun (y:St)=>∃(I2:Int->TV->Int->TV->St->Prop) (M2:Int->TV->Int->TV->St->Nat),(I2 b f o g y)/\∀c j s m r,I2 c j s m r->(BId (c<s) (∃(I3:Int->Int->TV->Int->TV->Int->St->Prop) (M3:Int->Int->TV->Int->TV->Int->St->Nat),(I3 0 ((i64.wrap ((2:Int)*c))) j s m c r)/\∀p k d i e a q,I3 p k d i e a q->(BId (k<=i) (CallT PR Ae [d,.int .i64 p,(.int .i64 (i64.wrap (p+a))),.int .i64 k,e] [] q (fun (x:St)=>(I3 k ((i64.wrap (k+(i64.wrap ((2:Int)*a))))) d i e a x/\M3 k ((i64.wrap (k+(i64.wrap ((2:Int)*a))))) d i e a x<M3 p k d i e a q))) (BId ((i64.wrap (p+a))<i) (CallT PR Ae [d,.int .i64 p,(.int .i64 (i64.wrap (p+a))),.int .i64 i,e] [] q (fun (v:St)=>(I2 ((i64.wrap (a*(2:Int)))) d i e v/\M2 ((i64.wrap (a*(2:Int)))) d i e v<M2 c j s m r))) ((I2 ((i64.wrap (a*(2:Int)))) d i e q/\M2 ((i64.wrap (a*(2:Int)))) d i e q<M2 c j s m r))))) (K r)))))):CallT PR AT [data,.int .i64 n,cmp] [] st K:=
 Af (cfg:=⟨[],[],[]⟩) (h:=(.seq .none (.seq .none (.seq (.block (.loop ⟨[(7,.int .i64),(8,.int .i64),(0,.tv),(1,.int .i64),(2,.tv),(6,.int .i64)],[],[],[]⟩ .none)) (.seq .none (.block (.loop ⟨[(6,.int .i64),(0,.tv),(1,.int .i64),(2,.tv)],[],[],[]⟩ (.seq .none (.block (.seq .none (.seq (.block (.loop ⟨[(7,.int .i64),(8,.int .i64),(0,.tv),(1,.int .i64),(2,.tv),(6,.int .i64)],[],[],[]⟩ .none)) .none))))))))))) mixed (fun _ _=>Tryz.call121 _ _) Tryz.func121 (by kernel_rfl) (by kernel_rfl) h
theorem L9 (v_0:Int) (b:Bool) (v_2:Bool) (v_3:B8) (v_4:Int) (v_5:Int) (v_6:Int) (v_7:Int) (v_8:Int) (v_9:B8) (v_10:TV) (v_11:TV) (v_12:TV) (st:St) (K:TV->St->Prop) (h:CallT PR A0 [v_11] [.one .tv] st (fun (v1:TV) g=>need (isSl v_12) (∃(I1:TV->Int->TV->Int->St->Prop) (M1:TV->Int->TV->Int->St->Nat),(I1 v1 0 v_12 ((lenS v_12:Int)) g)/\∀e a b d c,I1 e a b d c->(BId (a<d) (((0<=a/\a<(lenZ 14 b:Int))/\Aj ((Ai c [] (.t (ixT 14 b a.toNat)) 0 14).map TV.agg) (fun (x1:TV)=>Bj [.str,.int .i64,.bool,.bool,.str,.int .i64,.int .i64,.int .i64,.int .i64,.int .i64,.str,.tv,.tv,.tv] x1 (fun (s1:B8) (n1:Int) (b1 b2:Bool) (s2:B8) (n2 n3 n4 n5 n6:Int) (s3:B8) (v2 v3 v4:TV)=>need (List.all [.str s1,.int .i64 n1,.bool b1,.bool b2,.str s2,.int .i64 n2,.int .i64 n3,.int .i64 n4,.int .i64 n5,.int .i64 n6,.str s3,v2,v3,v4] Au) (need (List.all (cV n1 b1 b2 s2 n2 n3 n4 n5 n6 s3 v2 v3 v4) Au) (CV 33 13 168 e 1 (cV n1 b1 b2 s2 n2 n3 n4 n5 n6 s3 v2 v3 v4) c (fun (v5:TV) f=>(I1 v5 ((i64.wrap (a+(1:Int)))) b d f/\M1 v5 ((i64.wrap (a+(1:Int)))) b d f<M1 e a b d c)))))))) (K e c))))):CallT PR DZ [(.agg (cV v_0 b v_2 v_3 v_4 v_5 v_6 v_7 v_8 v_9 v_10 v_11 v_12))] [.one .tv] st K:=
 Af (cfg:=⟨[1,5],[],[]⟩) (h:=(.seq .none (.seq .none (.seq (.seq .none (.block (.loop ⟨[(3,.tv),(12,.int .i64),(10,.tv),(11,.int .i64)],[],[],[]⟩ .none))) .none)))) mixed (fun _ _=>Tryz.call123 _ _) Tryz.func123 (by kernel_rfl) (by kernel_rfl) h
theorem Mi (s:B8) (st:St) (K:Bool->St->Prop) (h:∃(I1:Int->B8->Int->St->Prop) (M1:Int->B8->Int->St->Nat),(I1 0 s ((s.length:Int)) st)/\∀a b d c,I1 a b d c->(BId (a<d) (((0<=a/\a<(b.length:Int))/\BId (((List.getD b a.toNat 0).toNat:Int)<(48:Int)) (K false c) (((0<=a/\a<(b.length:Int))/\BId ((57:Int)<((List.getD b a.toNat 0).toNat:Int)) (K false c) ((I1 ((i64.wrap (a+(1:Int)))) b d c/\M1 ((i64.wrap (a+(1:Int)))) b d c<M1 a b d c)))))) (K true c))):CallT PR FT [.str s] [.one .bool] st K:=
 Af (cfg:=⟨[],[],[]⟩) (h:=(.seq .none (.seq (.seq .none (.block (.loop ⟨[(6,.int .i64),(0,.str),(5,.int .i64)],[],[],[]⟩ .none))) .none))) mixed (fun _ _=>Tryz.call125 _ _) Tryz.func125 (by kernel_rfl) (by kernel_rfl) h
theorem OF (b:Int) (st:St) (K:Int->Int->St->Prop) (h:BId (b<128) (K 1 ((i64.wrap b)) st) (BId ((192:Int)<=b) (BId (b<224) (K 2 ((i64.wrap (AL .and .u8 b (31:Int)))) st) (BId ((224:Int)<=b) (BId (b<240) (K 3 ((i64.wrap (AL .and .u8 b (15:Int)))) st) (BId ((240:Int)<=b) (BId (b<248) (K 4 ((i64.wrap (AL .and .u8 b (7:Int)))) st) (K 0 0 st)) (K 0 0 st))) (BId ((240:Int)<=b) (BId (b<248) (K 4 ((i64.wrap (AL .and .u8 b (7:Int)))) st) (K 0 0 st)) (K 0 0 st)))) (BId ((224:Int)<=b) (BId (b<240) (K 3 ((i64.wrap (AL .and .u8 b (15:Int)))) st) (BId ((240:Int)<=b) (BId (b<248) (K 4 ((i64.wrap (AL .and .u8 b (7:Int)))) st) (K 0 0 st)) (K 0 0 st))) (BId ((240:Int)<=b) (BId (b<248) (K 4 ((i64.wrap (AL .and .u8 b (7:Int)))) st) (K 0 0 st)) (K 0 0 st))))):CallT PR Hv [.int .u8 b] [.one (.int .i64),.one (.int .i64)] st K:=
 Af (cfg:=⟨[],[],[]⟩) (h:= .none) mixed (fun _ _=>Tryz.call131 _ _) Tryz.func131 (by kernel_rfl) (by kernel_rfl) h
theorem Mf (r:Int) (st:St) (K:Bool->St->Prop) (h:BId ((0:Int)<=r) (BId (r<=1114111) (BId (r<55296) (K true st) (K ((decide ((57343:Int)<r))) st)) (K false st)) (K false st)):CallT PR FR [.int .i64 r] [.one .bool] st K:=
 Af (cfg:=⟨[],[],[]⟩) (h:= .none) mixed (fun _ _=>Tryz.call132 _ _) Tryz.func132 (by kernel_rfl) (by kernel_rfl) h
theorem Nx (r:Int) (st:St) (K:Int->St->Prop) (h:BId (r<128) (K 1 st) (BId (r<2048) (K 2 st) (BId (r<65536) (K 3 st) (K 4 st)))):CallT PR GO [.int .i64 r] [.one (.int .i64)] st K:=
 Af (cfg:=⟨[],[],[]⟩) (h:= .none) mixed (fun _ _=>Tryz.call133 _ _) Tryz.func133 (by kernel_rfl) (by kernel_rfl) h
theorem Gw (r:Int) (st:St) (K:B8->Int->St->Prop) (h:CallT PR BN [.int .i64 r] [.one .bool] st (fun (b1:Bool) a=>BIf (!b1) (K [] 2 a) (BId (r<128) (Aj ((Dc a (.list 1 .full 1 [(.int .u8 (u8.wrap r))])).map TV.str) (fun (x1:TV)=>AQ .str x1 (fun (s1:B8)=>K s1 0 a))) (BId (r<2048) (Aj ((Dc a (.list 1 .full 2 [(.int .u8 (u8.wrap (AL .or .i64 (192:Int) (Int.fdiv r (2^(min (Int.toNat (6:Int)) (IntKind.bits .i64))))))),(.int .u8 (u8.wrap (AL .or .i64 (128:Int) (AL .and .i64 r (63:Int)))))])).map TV.str) (fun (x2:TV)=>AQ .str x2 (fun (s2:B8)=>K s2 0 a))) (BId (r<65536) (Aj ((Dc a (.list 1 .full 3 [(.int .u8 (u8.wrap (AL .or .i64 (224:Int) (Int.fdiv r (2^(min (Int.toNat (12:Int)) (IntKind.bits .i64))))))),(.int .u8 (u8.wrap (AL .or .i64 (128:Int) (AL .and .i64 (Int.fdiv r (2^(min (Int.toNat (6:Int)) (IntKind.bits .i64)))) (63:Int))))),(.int .u8 (u8.wrap (AL .or .i64 (128:Int) (AL .and .i64 r (63:Int)))))])).map TV.str) (fun (x3:TV)=>AQ .str x3 (fun (s3:B8)=>K s3 0 a))) (Aj ((Dc a (.list 1 .full 4 [(.int .u8 (u8.wrap (AL .or .i64 (240:Int) (Int.fdiv r (2^(min (Int.toNat (18:Int)) (IntKind.bits .i64))))))),(.int .u8 (u8.wrap (AL .or .i64 (128:Int) (AL .and .i64 (Int.fdiv r (2^(min (Int.toNat (12:Int)) (IntKind.bits .i64)))) (63:Int))))),(.int .u8 (u8.wrap (AL .or .i64 (128:Int) (AL .and .i64 (Int.fdiv r (2^(min (Int.toNat (6:Int)) (IntKind.bits .i64)))) (63:Int))))),(.int .u8 (u8.wrap (AL .or .i64 (128:Int) (AL .and .i64 r (63:Int)))))])).map TV.str) (fun (x4:TV)=>AQ .str x4 (fun (s4:B8)=>K s4 0 a)))))))):CallT PR Bz [.int .i64 r] [.one .str,.one (.int .i64)] st K:=
 Af (cfg:=⟨[],[],[]⟩) (h:= .none) mixed (fun _ _=>Tryz.call134 _ _) Tryz.func134 (by kernel_rfl) (by kernel_rfl) h
theorem Bk (data:TV) (a:Int) (b:Int) (cmp:TV) (st:St) (K:St->Prop) (h:∃(I1:Int->TV->Int->Int->TV->St->Prop) (M1:Int->TV->Int->Int->TV->St->Nat),(I1 ((i64.wrap (a+(1:Int)))) data a b cmp st)/\∀m g q n k o,I1 m g q n k o->(BId (m<n) (∃(I2:Int->TV->Int->Int->TV->Int->St->Prop) (M2:Int->TV->Int->Int->TV->Int->St->Nat),(I2 m g q n k m o)/\∀d c f i e j l,I2 d c f i e j l->(BId (f<d) (((0<=d/\d<(lenZ 14 c:Int))/\Aj ((Ai l [] (.t (ixT 14 c d.toNat)) 0 14).map TV.agg) (fun (x1:TV)=>Bj [.str,.int .i64,.bool,.bool,.str,.int .i64,.int .i64,.int .i64,.int .i64,.int .i64,.str,.tv,.tv,.tv] x1 (fun (s1:B8) (n1:Int) (b1 b2:Bool) (s2:B8) (n2 n3 n4 n5 n6:Int) (s3:B8) (v1 v2 v3:TV)=>((0<=(i64.wrap (d-(1:Int)))/\(i64.wrap (d-(1:Int)))<(lenZ 14 c:Int))/\Aj ((Ai l [] (.t (ixT 14 c (Int.toNat (i64.wrap (d-(1:Int)))))) 0 14).map TV.agg) (fun (x2:TV)=>Bj [.str,.int .i64,.bool,.bool,.str,.int .i64,.int .i64,.int .i64,.int .i64,.int .i64,.str,.tv,.tv,.tv] x2 (fun (s4:B8) (n7:Int) (b3 b4:Bool) (s5:B8) (n8 n9 c3 c2 c1:Int) (s6:B8) (v4 v5 v6:TV)=>Fi PR e [(.agg [.str s1,.int .i64 n1,.bool b1,.bool b2,.str s2,.int .i64 n2,.int .i64 n3,.int .i64 n4,.int .i64 n5,.int .i64 n6,.str s3,v1,v2,v3]),(.agg [.str s4,.int .i64 n7,.bool b3,.bool b4,.str s5,.int .i64 n8,.int .i64 n9,.int .i64 c3,.int .i64 c2,.int .i64 c1,.str s6,v4,v5,v6])] [.one (.int .i64)] l (fun (c0:Int) p=>BId (c0<0) (((0<=(i64.wrap (d-(1:Int)))/\(i64.wrap (d-(1:Int)))<(lenZ 14 c:Int))/\Aj ((Ai p [] (.t (ixT 14 c (Int.toNat (i64.wrap (d-(1:Int)))))) 0 14).map TV.agg) (fun (x3:TV)=>Bj [.str,.int .i64,.bool,.bool,.str,.int .i64,.int .i64,.int .i64,.int .i64,.int .i64,.str,.tv,.tv,.tv] x3 (fun (s7:B8) (w:Int) (b5 b6:Bool) (s8:B8) (y r a3 a6 b0:Int) (s9:B8) (v7 v8 v9:TV)=>((0<=d/\d<(lenZ 14 c:Int))/\Aj ((Ai p [] (.t (ixT 14 c d.toNat)) 0 14).map TV.agg) (fun (x4:TV)=>Bj [.str,.int .i64,.bool,.bool,.str,.int .i64,.int .i64,.int .i64,.int .i64,.int .i64,.str,.tv,.tv,.tv] x4 (fun (a4:B8) (z:Int) (b7 b8:Bool) (a1:B8) (x a9 a7 a5 a2:Int) (s:B8) (a0 v u:TV)=>((0<=d/\d<(lenZ 14 c:Int))/\need (List.all [.str s7,.int .i64 w,.bool b5,.bool b6,.str s8,.int .i64 y,.int .i64 r,.int .i64 a3,.int .i64 a6,.int .i64 b0,.str s9,v7,v8,v9] Au) (stB p (ixT 14 c d.toNat) [.str s7,.int .i64 w,.bool b5,.bool b6,.str s8,.int .i64 y,.int .i64 r,.int .i64 a3,.int .i64 a6,.int .i64 b0,.str s9,v7,v8,v9] (fun b9=>((0<=(i64.wrap (d-(1:Int)))/\(i64.wrap (d-(1:Int)))<(lenZ 14 c:Int))/\need (List.all [.str a4,.int .i64 z,.bool b7,.bool b8,.str a1,.int .i64 x,.int .i64 a9,.int .i64 a7,.int .i64 a5,.int .i64 a2,.str s,a0,v,u] Au) (stB b9 (ixT 14 c (Int.toNat (i64.wrap (d-(1:Int))))) [.str a4,.int .i64 z,.bool b7,.bool b8,.str a1,.int .i64 x,.int .i64 a9,.int .i64 a7,.int .i64 a5,.int .i64 a2,.str s,a0,v,u] (fun a8=>(I2 ((i64.wrap (d-(1:Int)))) c f i e j a8/\M2 ((i64.wrap (d-(1:Int)))) c f i e j a8<M2 d c f i e j l)))))))))))))) ((I1 ((i64.wrap (j+(1:Int)))) c f i e p/\M1 ((i64.wrap (j+(1:Int)))) c f i e p<M1 m g q n k o)))))))))) ((I1 ((i64.wrap (j+(1:Int)))) c f i e l/\M1 ((i64.wrap (j+(1:Int)))) c f i e l<M1 m g q n k o)))) (K o))):CallT PR AF [data,.int .i64 a,.int .i64 b,cmp] [] st K:=
 Af (cfg:=⟨[],[],[26,31]⟩) (h:=(.seq .none (.block (.loop ⟨[(8,.int .i64),(0,.tv),(1,.int .i64),(2,.int .i64),(3,.tv)],[],[],[]⟩ (.seq .none (.seq (.block (.seq .none (.block (.loop ⟨[(9,.int .i64),(0,.tv),(1,.int .i64),(2,.int .i64),(3,.tv),(8,.int .i64)],[],[],[]⟩ .none)))) .none)))))) mixed (fun _ _=>Tryz.call135 _ _) Tryz.func135 (by kernel_rfl) (by kernel_rfl) h
theorem A4 (data:TV) (a:Int) (m:Int) (b:Int) (cmp:TV) (st:St) (K:St->Prop) (h:BId ((i64.wrap (m-a))=(1:Int)) (∃(I1:Int->Int->TV->Int->TV->St->Prop) (M1:Int->Int->TV->Int->TV->St->Nat),(I1 m b data a cmp st)/\∀v y j a0 u a5,I1 v y j a0 u a5->(BId (v<y) (((0<=(i64.wrap (Int.fdiv (IntKind.u64.wrap (i64.wrap (v+y))) (2^(min (Int.toNat (1:Int)) (IntKind.bits .u64)))))/\(i64.wrap (Int.fdiv (IntKind.u64.wrap (i64.wrap (v+y))) (2^(min (Int.toNat (1:Int)) (IntKind.bits .u64)))))<(lenZ 14 j:Int))/\Aj ((Ai a5 [] (.t (ixT 14 j (Int.toNat (i64.wrap (Int.fdiv (IntKind.u64.wrap (i64.wrap (v+y))) (2^(min (Int.toNat (1:Int)) (IntKind.bits .u64)))))))) 0 14).map TV.agg) (fun (x1:TV)=>Bj [.str,.int .i64,.bool,.bool,.str,.int .i64,.int .i64,.int .i64,.int .i64,.int .i64,.str,.tv,.tv,.tv] x1 (fun (s1:B8) (n1:Int) (b1 b2:Bool) (s2:B8) (n2 n3 n4 n5 n6:Int) (s3:B8) (v1 v2 v3:TV)=>((0<=a0/\a0<(lenZ 14 j:Int))/\Aj ((Ai a5 [] (.t (ixT 14 j a0.toNat)) 0 14).map TV.agg) (fun (x2:TV)=>Bj [.str,.int .i64,.bool,.bool,.str,.int .i64,.int .i64,.int .i64,.int .i64,.int .i64,.str,.tv,.tv,.tv] x2 (fun (s4:B8) (n7:Int) (b3 b4:Bool) (s5:B8) (n8 n9 p0 q1 p9:Int) (s6:B8) (v4 v5 v6:TV)=>Fi PR u [(.agg [.str s1,.int .i64 n1,.bool b1,.bool b2,.str s2,.int .i64 n2,.int .i64 n3,.int .i64 n4,.int .i64 n5,.int .i64 n6,.str s3,v1,v2,v3]),(.agg [.str s4,.int .i64 n7,.bool b3,.bool b4,.str s5,.int .i64 n8,.int .i64 n9,.int .i64 p0,.int .i64 q1,.int .i64 p9,.str s6,v4,v5,v6])] [.one (.int .i64)] a5 (fun (j5:Int) c7=>BId (j5<0) ((I1 ((i64.wrap ((i64.wrap (Int.fdiv (IntKind.u64.wrap (i64.wrap (v+y))) (2^(min (Int.toNat (1:Int)) (IntKind.bits .u64)))))+(1:Int)))) y j a0 u c7/\M1 ((i64.wrap ((i64.wrap (Int.fdiv (IntKind.u64.wrap (i64.wrap (v+y))) (2^(min (Int.toNat (1:Int)) (IntKind.bits .u64)))))+(1:Int)))) y j a0 u c7<M1 v y j a0 u a5)) ((I1 v ((i64.wrap (Int.fdiv (IntKind.u64.wrap (i64.wrap (v+y))) (2^(min (Int.toNat (1:Int)) (IntKind.bits .u64)))))) j a0 u c7/\M1 v ((i64.wrap (Int.fdiv (IntKind.u64.wrap (i64.wrap (v+y))) (2^(min (Int.toNat (1:Int)) (IntKind.bits .u64)))))) j a0 u c7<M1 v y j a0 u a5)))))))))) (∃(I2:Int->TV->Int->St->Prop) (M2:Int->TV->Int->St->Nat),(I2 a0 j v a5)/\∀q k c1 a9,I2 q k c1 a9->(BId (q<(i64.wrap (c1-(1:Int)))) (((0<=(i64.wrap (q+(1:Int)))/\(i64.wrap (q+(1:Int)))<(lenZ 14 k:Int))/\Aj ((Ai a9 [] (.t (ixT 14 k (Int.toNat (i64.wrap (q+(1:Int)))))) 0 14).map TV.agg) (fun (x3:TV)=>Bj [.str,.int .i64,.bool,.bool,.str,.int .i64,.int .i64,.int .i64,.int .i64,.int .i64,.str,.tv,.tv,.tv] x3 (fun (s7:B8) (h2:Int) (b5 b6:Bool) (s8:B8) (f9 f5 e0 h8 f4:Int) (s9:B8) (v7 v8 v9:TV)=>((0<=q/\q<(lenZ 14 k:Int))/\Aj ((Ai a9 [] (.t (ixT 14 k q.toNat)) 0 14).map TV.agg) (fun (x4:TV)=>Bj [.str,.int .i64,.bool,.bool,.str,.int .i64,.int .i64,.int .i64,.int .i64,.int .i64,.str,.tv,.tv,.tv] x4 (fun (h6:B8) (e9:Int) (b7 b8:Bool) (g1:B8) (d5 g8 e1 f0 h5:Int) (e4:B8) (h4 e7 f6:TV)=>((0<=q/\q<(lenZ 14 k:Int))/\need (List.all [.str s7,.int .i64 h2,.bool b5,.bool b6,.str s8,.int .i64 f9,.int .i64 f5,.int .i64 e0,.int .i64 h8,.int .i64 f4,.str s9,v7,v8,v9] Au) (stB a9 (ixT 14 k q.toNat) [.str s7,.int .i64 h2,.bool b5,.bool b6,.str s8,.int .i64 f9,.int .i64 f5,.int .i64 e0,.int .i64 h8,.int .i64 f4,.str s9,v7,v8,v9] (fun l2=>((0<=(i64.wrap (q+(1:Int)))/\(i64.wrap (q+(1:Int)))<(lenZ 14 k:Int))/\need (List.all [.str h6,.int .i64 e9,.bool b7,.bool b8,.str g1,.int .i64 d5,.int .i64 g8,.int .i64 e1,.int .i64 f0,.int .i64 h5,.str e4,h4,e7,f6] Au) (stB l2 (ixT 14 k (Int.toNat (i64.wrap (q+(1:Int))))) [.str h6,.int .i64 e9,.bool b7,.bool b8,.str g1,.int .i64 d5,.int .i64 g8,.int .i64 e1,.int .i64 f0,.int .i64 h5,.str e4,h4,e7,f6] (fun f3=>(I2 ((i64.wrap (q+(1:Int)))) k c1 f3/\M2 ((i64.wrap (q+(1:Int)))) k c1 f3<M2 q k c1 a9)))))))))))))) (K a9))))) (BId ((i64.wrap (b-m))=(1:Int)) (∃(I3:Int->Int->TV->Int->TV->St->Prop) (M3:Int->Int->TV->Int->TV->St->Nat),(I3 a m data m cmp st)/\∀s x n a1 w a6,I3 s x n a1 w a6->(BId (s<x) (((0<=a1/\a1<(lenZ 14 n:Int))/\Aj ((Ai a6 [] (.t (ixT 14 n a1.toNat)) 0 14).map TV.agg) (fun (x5:TV)=>Bj [.str,.int .i64,.bool,.bool,.str,.int .i64,.int .i64,.int .i64,.int .i64,.int .i64,.str,.tv,.tv,.tv] x5 (fun (k1:B8) (o4:Int) (b9 m5:Bool) (p2:B8) (l6 o0 p7 p6 o6:Int) (m9:B8) (m1 q2 l7:TV)=>((0<=(i64.wrap (Int.fdiv (IntKind.u64.wrap (i64.wrap (s+x))) (2^(min (Int.toNat (1:Int)) (IntKind.bits .u64)))))/\(i64.wrap (Int.fdiv (IntKind.u64.wrap (i64.wrap (s+x))) (2^(min (Int.toNat (1:Int)) (IntKind.bits .u64)))))<(lenZ 14 n:Int))/\Aj ((Ai a6 [] (.t (ixT 14 n (Int.toNat (i64.wrap (Int.fdiv (IntKind.u64.wrap (i64.wrap (s+x))) (2^(min (Int.toNat (1:Int)) (IntKind.bits .u64)))))))) 0 14).map TV.agg) (fun (x6:TV)=>Bj [.str,.int .i64,.bool,.bool,.str,.int .i64,.int .i64,.int .i64,.int .i64,.int .i64,.str,.tv,.tv,.tv] x6 (fun (k5:B8) (o9:Int) (m7 o2:Bool) (l5:B8) (m6 p1 j3 l1 m0:Int) (m8:B8) (j8 l9 k8:TV)=>Fi PR w [(.agg [.str k1,.int .i64 o4,.bool b9,.bool m5,.str p2,.int .i64 l6,.int .i64 o0,.int .i64 p7,.int .i64 p6,.int .i64 o6,.str m9,m1,q2,l7]),(.agg [.str k5,.int .i64 o9,.bool m7,.bool o2,.str l5,.int .i64 m6,.int .i64 p1,.int .i64 j3,.int .i64 l1,.int .i64 m0,.str m8,j8,l9,k8])] [.one (.int .i64)] a6 (fun (o7:Int) c6=>BIf (!(decide (o7<0))) ((I3 ((i64.wrap ((i64.wrap (Int.fdiv (IntKind.u64.wrap (i64.wrap (s+x))) (2^(min (Int.toNat (1:Int)) (IntKind.bits .u64)))))+(1:Int)))) x n a1 w c6/\M3 ((i64.wrap ((i64.wrap (Int.fdiv (IntKind.u64.wrap (i64.wrap (s+x))) (2^(min (Int.toNat (1:Int)) (IntKind.bits .u64)))))+(1:Int)))) x n a1 w c6<M3 s x n a1 w a6)) ((I3 s ((i64.wrap (Int.fdiv (IntKind.u64.wrap (i64.wrap (s+x))) (2^(min (Int.toNat (1:Int)) (IntKind.bits .u64)))))) n a1 w c6/\M3 s ((i64.wrap (Int.fdiv (IntKind.u64.wrap (i64.wrap (s+x))) (2^(min (Int.toNat (1:Int)) (IntKind.bits .u64)))))) n a1 w c6<M3 s x n a1 w a6)))))))))) (∃(I4:Int->TV->Int->St->Prop) (M4:Int->TV->Int->St->Nat),(I4 a1 n s a6)/\∀p l c0 a7,I4 p l c0 a7->(BId (c0<p) (((0<=(i64.wrap (p-(1:Int)))/\(i64.wrap (p-(1:Int)))<(lenZ 14 l:Int))/\Aj ((Ai a7 [] (.t (ixT 14 l (Int.toNat (i64.wrap (p-(1:Int)))))) 0 14).map TV.agg) (fun (x7:TV)=>Bj [.str,.int .i64,.bool,.bool,.str,.int .i64,.int .i64,.int .i64,.int .i64,.int .i64,.str,.tv,.tv,.tv] x7 (fun (g7:B8) (e3:Int) (e5 g4:Bool) (f7:B8) (h7 d8 g3 g5 g6:Int) (d6:B8) (f2 e8 d3:TV)=>((0<=p/\p<(lenZ 14 l:Int))/\Aj ((Ai a7 [] (.t (ixT 14 l p.toNat)) 0 14).map TV.agg) (fun (x8:TV)=>Bj [.str,.int .i64,.bool,.bool,.str,.int .i64,.int .i64,.int .i64,.int .i64,.int .i64,.str,.tv,.tv,.tv] x8 (fun (d4:B8) (g0:Int) (h9 i2:Bool) (h1:B8) (f8 g9 d7 e6 i1:Int) (i3:B8) (h0 g2 d9:TV)=>((0<=p/\p<(lenZ 14 l:Int))/\need (List.all [.str g7,.int .i64 e3,.bool e5,.bool g4,.str f7,.int .i64 h7,.int .i64 d8,.int .i64 g3,.int .i64 g5,.int .i64 g6,.str d6,f2,e8,d3] Au) (stB a7 (ixT 14 l p.toNat) [.str g7,.int .i64 e3,.bool e5,.bool g4,.str f7,.int .i64 h7,.int .i64 d8,.int .i64 g3,.int .i64 g5,.int .i64 g6,.str d6,f2,e8,d3] (fun q4=>((0<=(i64.wrap (p-(1:Int)))/\(i64.wrap (p-(1:Int)))<(lenZ 14 l:Int))/\need (List.all [.str d4,.int .i64 g0,.bool h9,.bool i2,.str h1,.int .i64 f8,.int .i64 g9,.int .i64 d7,.int .i64 e6,.int .i64 i1,.str i3,h0,g2,d9] Au) (stB q4 (ixT 14 l (Int.toNat (i64.wrap (p-(1:Int))))) [.str d4,.int .i64 g0,.bool h9,.bool i2,.str h1,.int .i64 f8,.int .i64 g9,.int .i64 d7,.int .i64 e6,.int .i64 i1,.str i3,h0,g2,d9] (fun d0=>(I4 ((i64.wrap (p-(1:Int)))) l c0 d0/\M4 ((i64.wrap (p-(1:Int)))) l c0 d0<M4 p l c0 a7)))))))))))))) (K a7))))) (∃(C1:Int->Int->TV->Int->Int->Int->TV->Int->Int->St->Prop),(BId ((i64.wrap (Int.fdiv (IntKind.u64.wrap (i64.wrap (a+b))) (2^(min (Int.toNat (1:Int)) (IntKind.bits .u64)))))<m) (C1 ((i64.wrap ((i64.wrap ((i64.wrap (Int.fdiv (IntKind.u64.wrap (i64.wrap (a+b))) (2^(min (Int.toNat (1:Int)) (IntKind.bits .u64)))))+m))-b))) ((i64.wrap (Int.fdiv (IntKind.u64.wrap (i64.wrap (a+b))) (2^(min (Int.toNat (1:Int)) (IntKind.bits .u64)))))) data a m b cmp ((i64.wrap (Int.fdiv (IntKind.u64.wrap (i64.wrap (a+b))) (2^(min (Int.toNat (1:Int)) (IntKind.bits .u64)))))) ((i64.wrap ((i64.wrap (Int.fdiv (IntKind.u64.wrap (i64.wrap (a+b))) (2^(min (Int.toNat (1:Int)) (IntKind.bits .u64)))))+m))) st) (C1 a m data a m b cmp ((i64.wrap (Int.fdiv (IntKind.u64.wrap (i64.wrap (a+b))) (2^(min (Int.toNat (1:Int)) (IntKind.bits .u64)))))) ((i64.wrap ((i64.wrap (Int.fdiv (IntKind.u64.wrap (i64.wrap (a+b))) (2^(min (Int.toNat (1:Int)) (IntKind.bits .u64)))))+m))) st))/\∀a8 f1 c2 h3 e2 i0 c8 c9 d2 d1,C1 a8 f1 c2 h3 e2 i0 c8 c9 d2 d1->(∃(I5:Int->Int->TV->Int->Int->Int->TV->Int->Int->Int->St->Prop) (M5:Int->Int->TV->Int->Int->Int->TV->Int->Int->Int->St->Nat),(I5 a8 f1 c2 h3 e2 i0 c8 c9 d2 ((i64.wrap (d2-(1:Int)))) d1)/\∀c r e z a2 o g d f a3 i,I5 c r e z a2 o g d f a3 i->(BId (c<r) (((0<=(i64.wrap (a3-(i64.wrap (Int.fdiv (IntKind.u64.wrap (i64.wrap (c+r))) (2^(min (Int.toNat (1:Int)) (IntKind.bits .u64)))))))/\(i64.wrap (a3-(i64.wrap (Int.fdiv (IntKind.u64.wrap (i64.wrap (c+r))) (2^(min (Int.toNat (1:Int)) (IntKind.bits .u64)))))))<(lenZ 14 e:Int))/\Aj ((Ai i [] (.t (ixT 14 e (Int.toNat (i64.wrap (a3-(i64.wrap (Int.fdiv (IntKind.u64.wrap (i64.wrap (c+r))) (2^(min (Int.toNat (1:Int)) (IntKind.bits .u64)))))))))) 0 14).map TV.agg) (fun (x9:TV)=>Bj [.str,.int .i64,.bool,.bool,.str,.int .i64,.int .i64,.int .i64,.int .i64,.int .i64,.str,.tv,.tv,.tv] x9 (fun (p3:B8) (k6:Int) (m2 k0:Bool) (q5:B8) (k2 o8 o3 o5 k7:Int) (q0:B8) (j6 l4 n0:TV)=>((0<=(i64.wrap (Int.fdiv (IntKind.u64.wrap (i64.wrap (c+r))) (2^(min (Int.toNat (1:Int)) (IntKind.bits .u64)))))/\(i64.wrap (Int.fdiv (IntKind.u64.wrap (i64.wrap (c+r))) (2^(min (Int.toNat (1:Int)) (IntKind.bits .u64)))))<(lenZ 14 e:Int))/\Aj ((Ai i [] (.t (ixT 14 e (Int.toNat (i64.wrap (Int.fdiv (IntKind.u64.wrap (i64.wrap (c+r))) (2^(min (Int.toNat (1:Int)) (IntKind.bits .u64)))))))) 0 14).map TV.agg) (fun (o1:TV)=>Bj [.str,.int .i64,.bool,.bool,.str,.int .i64,.int .i64,.int .i64,.int .i64,.int .i64,.str,.tv,.tv,.tv] o1 (fun (m3:B8) (q3:Int) (j4 k4:Bool) (p4:B8) (m4 j9 k9 k3 l8:Int) (l0:B8) (j7 p8 p5:TV)=>Fi PR g [(.agg [.str p3,.int .i64 k6,.bool m2,.bool k0,.str q5,.int .i64 k2,.int .i64 o8,.int .i64 o3,.int .i64 o5,.int .i64 k7,.str q0,j6,l4,n0]),(.agg [.str m3,.int .i64 q3,.bool j4,.bool k4,.str p4,.int .i64 m4,.int .i64 j9,.int .i64 k9,.int .i64 k3,.int .i64 l8,.str l0,j7,p8,p5])] [.one (.int .i64)] i (fun (l3:Int) b0=>BIf (!(decide (l3<0))) ((I5 ((i64.wrap ((i64.wrap (Int.fdiv (IntKind.u64.wrap (i64.wrap (c+r))) (2^(min (Int.toNat (1:Int)) (IntKind.bits .u64)))))+(1:Int)))) r e z a2 o g d f a3 b0/\M5 ((i64.wrap ((i64.wrap (Int.fdiv (IntKind.u64.wrap (i64.wrap (c+r))) (2^(min (Int.toNat (1:Int)) (IntKind.bits .u64)))))+(1:Int)))) r e z a2 o g d f a3 b0<M5 c r e z a2 o g d f a3 i)) ((I5 c ((i64.wrap (Int.fdiv (IntKind.u64.wrap (i64.wrap (c+r))) (2^(min (Int.toNat (1:Int)) (IntKind.bits .u64)))))) e z a2 o g d f a3 b0/\M5 c ((i64.wrap (Int.fdiv (IntKind.u64.wrap (i64.wrap (c+r))) (2^(min (Int.toNat (1:Int)) (IntKind.bits .u64)))))) e z a2 o g d f a3 b0<M5 c r e z a2 o g d f a3 i)))))))))) (BId (c<a2) (BId (a2<(i64.wrap (f-c))) (CallT PR A8 [e,.int .i64 c,.int .i64 a2,(.int .i64 (i64.wrap (f-c))),g] [] i (fun (a4:St)=>BId (z<c) (BId (c<d) (CallT PR Ae [e,.int .i64 z,.int .i64 c,.int .i64 d,g] [] a4 (fun (c4:St)=>BId (d<(i64.wrap (f-c))) (BId ((i64.wrap (f-c))<o) (CallT PR Ae [e,.int .i64 d,(.int .i64 (i64.wrap (f-c))),.int .i64 o,g] [] c4 (fun (i5:St)=>K i5)) (K c4)) (K c4))) (BId (d<(i64.wrap (f-c))) (BId ((i64.wrap (f-c))<o) (CallT PR Ae [e,.int .i64 d,(.int .i64 (i64.wrap (f-c))),.int .i64 o,g] [] a4 (fun (i6:St)=>K i6)) (K a4)) (K a4))) (BId (d<(i64.wrap (f-c))) (BId ((i64.wrap (f-c))<o) (CallT PR Ae [e,.int .i64 d,(.int .i64 (i64.wrap (f-c))),.int .i64 o,g] [] a4 (fun (j1:St)=>K j1)) (K a4)) (K a4)))) (BId (z<c) (BId (c<d) (CallT PR Ae [e,.int .i64 z,.int .i64 c,.int .i64 d,g] [] i (fun (c3:St)=>BId (d<(i64.wrap (f-c))) (BId ((i64.wrap (f-c))<o) (CallT PR Ae [e,.int .i64 d,(.int .i64 (i64.wrap (f-c))),.int .i64 o,g] [] c3 (fun (i8:St)=>K i8)) (K c3)) (K c3))) (BId (d<(i64.wrap (f-c))) (BId ((i64.wrap (f-c))<o) (CallT PR Ae [e,.int .i64 d,(.int .i64 (i64.wrap (f-c))),.int .i64 o,g] [] i (fun (i4:St)=>K i4)) (K i)) (K i))) (BId (d<(i64.wrap (f-c))) (BId ((i64.wrap (f-c))<o) (CallT PR Ae [e,.int .i64 d,(.int .i64 (i64.wrap (f-c))),.int .i64 o,g] [] i (fun (i9:St)=>K i9)) (K i)) (K i)))) (BId (z<c) (BId (c<d) (CallT PR Ae [e,.int .i64 z,.int .i64 c,.int .i64 d,g] [] i (fun (c5:St)=>BId (d<(i64.wrap (f-c))) (BId ((i64.wrap (f-c))<o) (CallT PR Ae [e,.int .i64 d,(.int .i64 (i64.wrap (f-c))),.int .i64 o,g] [] c5 (fun (j0:St)=>K j0)) (K c5)) (K c5))) (BId (d<(i64.wrap (f-c))) (BId ((i64.wrap (f-c))<o) (CallT PR Ae [e,.int .i64 d,(.int .i64 (i64.wrap (f-c))),.int .i64 o,g] [] i (fun (j2:St)=>K j2)) (K i)) (K i))) (BId (d<(i64.wrap (f-c))) (BId ((i64.wrap (f-c))<o) (CallT PR Ae [e,.int .i64 d,(.int .i64 (i64.wrap (f-c))),.int .i64 o,g] [] i (fun (i7:St)=>K i7)) (K i)) (K i))))))))):CallT PR Ae [data,.int .i64 a,.int .i64 m,.int .i64 b,cmp] [] st K:=
 Af (cfg:=⟨[],[],[44,48,96,100,164,168]⟩) (h:=(.seq (.seq .none (.cond (.seq .none (.seq .none (.seq (.block (.loop ⟨[(10,.int .i64),(11,.int .i64),(0,.tv),(1,.int .i64),(4,.tv)],[],[],[]⟩ .none)) (.seq (.seq .none (.block (.loop ⟨[(13,.int .i64),(0,.tv),(10,.int .i64)],[],[],[]⟩ .none))) .none)))) .none)) (.seq (.seq .none (.cond (.seq .none (.seq .none (.seq (.block (.loop ⟨[(14,.int .i64),(15,.int .i64),(0,.tv),(2,.int .i64),(4,.tv)],[],[],[]⟩ .none)) (.seq (.seq .none (.block (.loop ⟨[(17,.int .i64),(0,.tv),(14,.int .i64)],[],[],[]⟩ .none))) .none)))) .none)) (.seq .none (.seq .none (.seq .none (.cut ⟨[(20,.int .i64),(21,.int .i64),(0,.tv),(1,.int .i64),(2,.int .i64),(3,.int .i64),(4,.tv),(18,.int .i64),(19,.int .i64)],[],[],[]⟩ .none (.seq .none (.seq (.block (.loop ⟨[(20,.int .i64),(21,.int .i64),(0,.tv),(1,.int .i64),(2,.int .i64),(3,.int .i64),(4,.tv),(18,.int .i64),(19,.int .i64),(22,.int .i64)],[],[],[]⟩ .none)) .none))))))))) mixed (fun _ _=>Tryz.call136 _ _) Tryz.func136 (by kernel_rfl) (by kernel_rfl) h
theorem Cx (s:TV) (st:St) (K:TV->St->Prop) (h:need (isSl s) (BIf (BE s) (K .nilSlice st) (Aj (DA st 13 s) (fun (q1:Nat×List TV)=>need (List.all q1.2 Au) (CV 33 13 168 (.list 13 .full 0 []) q1.1 q1.2 st (fun (v1:TV) a=>K v1 a)))))):CallT PR A0 [s] [.one .tv] st K:=
 Af (cfg:=⟨[],[],[]⟩) (h:= .none) mixed (fun _ _=>Tryz.call138 _ _) Tryz.func138 (by kernel_rfl) (by kernel_rfl) h
theorem Fn (r:Int) (st:St) (K:Bool->St->Prop) (h:BId ((0:Int)<=r) (BId (r<=1114111) (BId (r<55296) (K true st) (K ((decide ((57343:Int)<r))) st)) (K false st)) (K false st)):CallT PR BN [.int .i64 r] [.one .bool] st K:=
 Af (cfg:=⟨[],[],[]⟩) (h:= .none) mixed (fun _ _=>Tryz.call144 _ _) Tryz.func144 (by kernel_rfl) (by kernel_rfl) h
theorem Dg (data:TV) (a:Int) (m:Int) (b:Int) (cmp:TV) (st:St) (K:St->Prop) (h:∃(I1:Int->Int->TV->Int->TV->St->Prop) (M1:Int->Int->TV->Int->TV->St->Nat),(I1 ((i64.wrap (m-a))) ((i64.wrap (b-m))) data m cmp st)/\∀e g c f d i,I1 e g c f d i->(BId (e≠g) (BId (g<e) (CallT PR AC [c,(.int .i64 (i64.wrap (f-e))),.int .i64 f,.int .i64 g,d] [] i (fun (j:St)=>(I1 ((i64.wrap (e-g))) g c f d j/\M1 ((i64.wrap (e-g))) g c f d j<M1 e g c f d i))) (CallT PR AC [c,(.int .i64 (i64.wrap (f-e))),(.int .i64 (i64.wrap ((i64.wrap (f+g))-e))),.int .i64 e,d] [] i (fun (k:St)=>(I1 e ((i64.wrap (g-e))) c f d k/\M1 e ((i64.wrap (g-e))) c f d k<M1 e g c f d i)))) (CallT PR AC [c,(.int .i64 (i64.wrap (f-e))),.int .i64 f,.int .i64 e,d] [] i (fun (l:St)=>K l)))):CallT PR A8 [data,.int .i64 a,.int .i64 m,.int .i64 b,cmp] [] st K:=
 Af (cfg:=⟨[],[],[]⟩) (h:=(.seq .none (.seq .none (.seq (.block (.loop ⟨[(10,.int .i64),(11,.int .i64),(0,.tv),(2,.int .i64),(4,.tv)],[],[],[]⟩ .none)) .none)))) mixed (fun _ _=>Tryz.call145 _ _) Tryz.func145 (by kernel_rfl) (by kernel_rfl) h
theorem CK (data:TV) (a:Int) (b:Int) (n:Int) (cmp:TV) (st:St) (K:St->Prop) (h:∃(I1:Int->TV->Int->Int->Int->St->Prop) (M1:Int->TV->Int->Int->Int->St->Nat),(I1 0 data a b n st)/\∀d c e f i g,I1 d c e f i g->(BId (d<i) (((0<=(i64.wrap (f+d))/\(i64.wrap (f+d))<(lenZ 14 c:Int))/\Aj ((Ai g [] (.t (ixT 14 c (Int.toNat (i64.wrap (f+d))))) 0 14).map TV.agg) (fun (x1:TV)=>Bj [.str,.int .i64,.bool,.bool,.str,.int .i64,.int .i64,.int .i64,.int .i64,.int .i64,.str,.tv,.tv,.tv] x1 (fun (s1:B8) (n1:Int) (b1 b2:Bool) (s2:B8) (n2 n3 n4 n5 n6:Int) (s3:B8) (v1 v2 v3:TV)=>((0<=(i64.wrap (e+d))/\(i64.wrap (e+d))<(lenZ 14 c:Int))/\Aj ((Ai g [] (.t (ixT 14 c (Int.toNat (i64.wrap (e+d))))) 0 14).map TV.agg) (fun (x2:TV)=>Bj [.str,.int .i64,.bool,.bool,.str,.int .i64,.int .i64,.int .i64,.int .i64,.int .i64,.str,.tv,.tv,.tv] x2 (fun (s4:B8) (n7:Int) (b3 b4:Bool) (s5:B8) (n8 n9 k l j:Int) (s6:B8) (v4 v5 v6:TV)=>((0<=(i64.wrap (e+d))/\(i64.wrap (e+d))<(lenZ 14 c:Int))/\need (List.all [.str s1,.int .i64 n1,.bool b1,.bool b2,.str s2,.int .i64 n2,.int .i64 n3,.int .i64 n4,.int .i64 n5,.int .i64 n6,.str s3,v1,v2,v3] Au) (stB g (ixT 14 c (Int.toNat (i64.wrap (e+d)))) [.str s1,.int .i64 n1,.bool b1,.bool b2,.str s2,.int .i64 n2,.int .i64 n3,.int .i64 n4,.int .i64 n5,.int .i64 n6,.str s3,v1,v2,v3] (fun o=>((0<=(i64.wrap (f+d))/\(i64.wrap (f+d))<(lenZ 14 c:Int))/\need (List.all [.str s4,.int .i64 n7,.bool b3,.bool b4,.str s5,.int .i64 n8,.int .i64 n9,.int .i64 k,.int .i64 l,.int .i64 j,.str s6,v4,v5,v6] Au) (stB o (ixT 14 c (Int.toNat (i64.wrap (f+d)))) [.str s4,.int .i64 n7,.bool b3,.bool b4,.str s5,.int .i64 n8,.int .i64 n9,.int .i64 k,.int .i64 l,.int .i64 j,.str s6,v4,v5,v6] (fun m=>(I1 ((i64.wrap (d+(1:Int)))) c e f i m/\M1 ((i64.wrap (d+(1:Int)))) c e f i m<M1 d c e f i g)))))))))))))) (K g))):CallT PR AC [data,.int .i64 a,.int .i64 b,.int .i64 n,cmp] [] st K:=
 Af (cfg:=⟨[],[],[]⟩) (h:=(.seq .none (.block (.loop ⟨[(10,.int .i64),(0,.tv),(1,.int .i64),(2,.int .i64),(3,.int .i64)],[],[],[]⟩ .none)))) mixed (fun _ _=>Tryz.call149 _ _) Tryz.func149 (by kernel_rfl) (by kernel_rfl) h
end Go.TVF
section
namespace Go.TVF
open Go.IntKind(i64 u8)
section
variable {α:Type}
def swp (l:List α) (i j:Nat):List α:=match l[i]?,l[j]? with | some x,some y=>(l.set i y).set j x | _,_=>l
theorem swp_mid {P Y Q:List α} {x z:α}:swp (P++x::(Y++z::Q)) P.length (P.length+1+Y.length)=P++z::(Y++x::Q):=by
 have h1:(P++x::(Y++z::Q))[P.length]? =some x:=by simp
 have h2:(P++x::(Y++z::Q))[P.length+1+Y.length]? =some z:=by
  rw[List.getElem?_append_right (by omega)]
  rw[show P.length+1+Y.length-P.length=Y.length+1 by omega,List.getElem?_cons_succ,List.getElem?_append_right (by omega)]
  simp
 unfold swp
 rw[h1,h2]
 simp only
 rw[List.set_append_right _ _ (by omega),Nat.sub_self,List.set_cons_zero,List.set_append_right _ _ (by omega)]
 rw[show P.length+1+Y.length-P.length=Y.length+1 by omega,List.set_cons_succ,List.set_append_right _ _ (by omega),Nat.sub_self,List.set_cons_zero]
theorem swp_run {P X Y Z Q:List α} {i:Nat} (hi:i<X.length) (hz:Z.length=X.length):
  swp (P++(Z.take i++X.drop i)++Y++(X.take i++Z.drop i)++Q) (P.length+i) (P.length+X.length+Y.length+i)=P++(Z.take (i+1)++X.drop (i+1))++Y++(X.take (i+1)++Z.drop (i+1))++Q:=by
 have hx:X.drop i=X[i]::X.drop (i+1):=List.drop_eq_getElem_cons hi
 have hzd:Z.drop i=Z[i]'(by omega)::Z.drop (i+1):=List.drop_eq_getElem_cons (by omega)
 have e1:P++(Z.take i++X.drop i)++Y++(X.take i++Z.drop i)++Q=(P++Z.take i)++X[i]::((X.drop (i+1)++Y++X.take i)++Z[i]'(by omega)::(Z.drop (i+1)++Q)):=by
  have h1:P++(Z.take i++X.drop i)++Y++(X.take i++Z.drop i)++Q=P++Z.take i++X.drop i++(Y++X.take i++(Z.drop i++Q)):=by simp only[List.append_assoc]
  rw[h1,hx,hzd]
  simp only[List.append_assoc,List.cons_append]
 have l1:(P++Z.take i).length=P.length+i:=by simp;omega
 have l2:(X.drop (i+1)++Y++X.take i).length=X.length-1+Y.length:=by simp;omega
 rw[e1]
 have:=swp_mid (P:=P++Z.take i) (Y:=X.drop (i+1)++Y++X.take i) (Q:=Z.drop (i+1)++Q) (x:=X[i]) (z:=Z[i]'(by omega))
 rw[l1,l2,show P.length+i+1+(X.length-1+Y.length)=P.length+X.length+Y.length+i by omega]at this
 rw[this]
 have t1:X.take (i+1)=X.take i++[X[i]]:=by rw[List.take_succ_eq_append_getElem hi]
 have t2:Z.take (i+1)=Z.take i++[Z[i]'(by omega)]:=by rw[List.take_succ_eq_append_getElem (by omega)]
 simp only[t1,t2,List.append_assoc,List.cons_append,List.nil_append]
variable (le:α->α->Prop)
def Srt (l:List α):Prop:=l.Pairwise le
variable {le}
theorem KC (tr:∀x y z,le x y->le y z->le x z) {A B:List α} (ha:Srt le A) (hb:Srt le B) (h:∀x,A.getLast? =some x->∀y,B.head? =some y->le x y) (rf:∀x,le x x):Srt le (A++B):=by
 refine List.pairwise_append.2 ⟨ha,hb,fun x hx y hy=>?_⟩
 rcases List.eq_nil_or_concat A with rfl | ⟨A',a,hA⟩
 ·simp at hx
 rw[List.concat_eq_append]at hA
 subst hA
 cases B with
 | nil=>simp at hy
 | cons b B=>
  have hab:=h a (by simp) b rfl
  have h1:le x a:=by
   rcases List.mem_append.1 hx with h | h
   ·exact(List.pairwise_append.1 ha).2.2 x h a (by simp)
   ·simp at h;subst h;exact rf x
  have h2:le b y:=by
   rcases List.mem_cons.1 hy with h | h
   ·subst h;exact rf y
   ·exact(List.pairwise_cons.1 hb).1 y h
  exact tr _ _ _ h1 (tr _ _ _ hab h2)
theorem Qa (tr:∀x y z,le x y->le y z->le x z) {L1 L2 R1 R2 M1 M2:List α} (rf:∀x,le x x) (hL:Srt le (L1++L2)) (hR:Srt le (R1++R2)) (h1:∀x,R1.getLast? =some x->∀y,L2.head? =some y->le x y) (h2:∀x,L1.getLast? =some x->∀y,R2.head? =some y->le x y)
  (p1:M1.Perm (L1++R1)) (p2:M2.Perm (L2++R2)) (s1:Srt le M1) (s2:Srt le M2):(M1++M2).Perm (L1++L2++(R1++R2))/\Srt le (M1++M2):=by
 obtain⟨a1,a2,a3⟩:=List.pairwise_append.1 hL
 obtain⟨b1,b2,b3⟩:=List.pairwise_append.1 hR
 have c1:=List.pairwise_append.1 (KC tr b1 a2 h1 rf)
 have c2:=List.pairwise_append.1 (KC tr a1 b2 h2 rf)
 constructor
 ·refine(p1.append p2).trans ?_
  simp only[List.append_assoc]
  refine List.Perm.append_left _ ?_
  rw[<-List.append_assoc,<-List.append_assoc]
  exact List.Perm.append_right _ List.perm_append_comm
 ·refine List.pairwise_append.2 ⟨s1,s2,fun x hx y hy=>?_⟩
  rcases List.mem_append.1 (p1.mem_iff.1 hx)with hx | hx<;>rcases List.mem_append.1 (p2.mem_iff.1 hy)with hy | hy
  ·exact a3 x hx y hy
  ·exact c2.2.2 x hx y hy
  ·exact c1.2.2 x hx y hy
  ·exact b3 x hx y hy
theorem NK (tr:∀x y z,le x y->le y z->le x z) {A B:List α} {x:α} (rf:∀x,le x x) (h:Srt le (A++B)) (h1:∀y,A.getLast? =some y->le y x) (h2:∀y,B.head? =some y->le x y):Srt le (A++x::B):=by
 obtain⟨a,b,c⟩:=List.pairwise_append.1 h
 refine KC tr a ?_ (fun y hy z hz=>by simp at hz;subst hz;exact h1 y hy) rf
 exact KC (A:=[x]) tr (List.pairwise_singleton _ _) b (fun y hy z hz=>by simp at hy;subst hy;exact h2 z hz) rf
end
end Go.TVF
end
namespace Go.TVF
open Go.IntKind(i64 u8)
open Go Go.Proofs
section
structure Sc where
 kind:Int
 b:Bool
 neg:Bool
 dg:B8
 ex:Int
 tk:Int
 td:Int
 tn:Int
 tz:Int
 text:B8
 bytes:B8
mutual
inductive Vl where
 | mk (s:Sc) (l:List Vl) (f:List Fd)
inductive Fd where
 | mk (k:B8) (v:Vl)
end
def Vl.sc:Vl->Sc | .mk s _ _=>s
def Vl.list:Vl->List Vl | .mk _ l _=>l
def Vl.flds:Vl->List Fd | .mk _ _ f=>f
def Fd.key:Fd->B8 | .mk k _=>k
def Fd.val:Fd->Vl | .mk _ v=>v
def SlR (st:St) (sz:Nat) (v:TV) (n:Nat) (xs:List TV):Prop:=
 Rd sz v n xs∨∃b off cap l,v= .ms sz b off n cap/\b<st.nb/\st.box b= .cells l/\off+cap*sz<=l.length/\n<=cap/\xs=(l.drop off).take (n*sz)
theorem SlR.of_rd {st:St} {sz n:Nat} {v:TV} {xs:List TV} (h:Rd sz v n xs):SlR st sz v n xs:= .inl h
def Bo (st st':St):Prop:=st.nb<=st'.nb/\∀b,b<st.nb->st'.box b=st.box b
theorem SlR.keep {st st':St} (k:Bo st st') {sz n:Nat} {v:TV} {xs:List TV} (h:SlR st sz v n xs):SlR st' sz v n xs:=by
 rcases h with h | ⟨b,off,cap,l,h1,h2,h3,h4,h5,h6⟩
 ·exact .inl h
 ·exact .inr ⟨b,off,cap,l,h1,Nat.lt_of_lt_of_le h2 k.1,(k.2 b h2).trans h3,h4,h5,h6⟩
mutual
def VlR (st:St):Vl->List TV->Prop
 | .mk s l f,cs=>∃ub ul uf xl xf,cs=[.int .i64 s.kind,.bool s.b,.bool s.neg,.str s.dg,.int .i64 s.ex,.int .i64 s.tk,.int .i64 s.td,.int .i64 s.tn,.int .i64 s.tz,.str s.text,ub,ul,uf]/\
   SlR st 1 ub s.bytes.length (AS s.bytes)/\SlR st 13 ul l.length xl/\VsR st l xl/\SlR st 14 uf f.length xf/\FsR st f xf
def VsR (st:St):List Vl->List TV->Prop
 | [],xs=>xs=[]
 | v::r,xs=>∃a b,xs=a++b/\VlR st v a/\VsR st r b
def FdR (st:St):Fd->List TV->Prop
 | .mk k v,xs=>∃cs,xs= .str k::cs/\VlR st v cs
def FsR (st:St):List Fd->List TV->Prop
 | [],xs=>xs=[]
 | d::r,xs=>∃a b,xs=a++b/\FdR st d a/\FsR st r b
end
mutual
theorem VlR.keep {st st':St} (k:Bo st st'):∀{v:Vl} {cs:List TV},VlR st v cs->VlR st' v cs
 | .mk s l f,cs,h=>by
  unfold VlR at h⊢
  obtain⟨ub,ul,uf,xl,xf,h0,h1,h2,h3,h4,h5⟩:=h
  exact⟨ub,ul,uf,xl,xf,h0,h1.keep k,h2.keep k,VsR.keep k h3,h4.keep k,FsR.keep k h5⟩
theorem VsR.keep {st st':St} (k:Bo st st'):∀{l:List Vl} {cs:List TV},VsR st l cs->VsR st' l cs
 | [],cs,h=>by unfold VsR at h⊢;exact h
 | v::r,cs,h=>by
  unfold VsR at h⊢
  obtain⟨a,b,h0,h1,h2⟩:=h
  exact⟨a,b,h0,VlR.keep k h1,VsR.keep k h2⟩
theorem FdR.keep {st st':St} (k:Bo st st'):∀{d:Fd} {cs:List TV},FdR st d cs->FdR st' d cs
 | .mk key v,cs,h=>by
  unfold FdR at h⊢
  obtain⟨c,h0,h1⟩:=h
  exact⟨c,h0,VlR.keep k h1⟩
theorem FsR.keep {st st':St} (k:Bo st st'):∀{l:List Fd} {cs:List TV},FsR st l cs->FsR st' l cs
 | [],cs,h=>by unfold FsR at h⊢;exact h
 | d::r,cs,h=>by
  unfold FsR at h⊢
  obtain⟨a,b,h0,h1,h2⟩:=h
  exact⟨a,b,h0,FdR.keep k h1,FsR.keep k h2⟩
end
theorem VlR.len {st:St} {v:Vl} {cs:List TV} (h:VlR st v cs):cs.length=13:=by
 cases v;unfold VlR at h;obtain⟨ub,ul,uf,xl,xf,rfl,_⟩:=h;rfl
theorem FdR.len {st:St} {v:Fd} {cs:List TV} (h:FdR st v cs):cs.length=14:=by
 cases v;unfold FdR at h;obtain⟨c,rfl,h⟩:=h;simp[h.len]
theorem VsR.len {st:St}:∀{l:List Vl} {xs:List TV},VsR st l xs->xs.length=l.length*13
 | [],xs,h=>by unfold VsR at h;subst h;rfl
 | v::r,xs,h=>by
  unfold VsR at h
  obtain⟨a,b,rfl,h1,h2⟩:=h
  rw[List.length_append,h1.len,VsR.len h2,List.length_cons];omega
theorem FsR.len {st:St}:∀{l:List Fd} {xs:List TV},FsR st l xs->xs.length=l.length*14
 | [],xs,h=>by unfold FsR at h;subst h;rfl
 | v::r,xs,h=>by
  unfold FsR at h
  obtain⟨a,b,rfl,h1,h2⟩:=h
  rw[List.length_append,h1.len,FsR.len h2,List.length_cons];omega
theorem VsR.get {st:St}:∀{l:List Vl} {xs:List TV} {i:Nat} {v:Vl},VsR st l xs->l[i]? =some v->∃cs,VlR st v cs/\(xs.drop (i*13)).take 13=cs/\cs.length=13
 | [],xs,i,v,h,hi=>by simp at hi
 | w::r,xs,i,v,h,hi=>by
  unfold VsR at h
  obtain⟨a,b,rfl,h1,h2⟩:=h
  cases i with
  | zero=>
   simp only[List.getElem?_cons_zero,Option.some.injEq]at hi
   subst hi
   refine⟨a,h1,?_,h1.len⟩
   rw[Nat.zero_mul,List.drop_zero,<-h1.len,List.take_left]
  | succ i=>
   obtain⟨cs,h3,h4,h5⟩:=VsR.get h2 (by simpa using hi)
   refine⟨cs,h3,?_,h5⟩
   rw[show(i+1)*13=a.length+i*13 by rw[h1.len];omega,List.drop_append]
   simp only[Nat.add_sub_cancel_left]
   rw[List.drop_of_length_le (by omega),List.nil_append];exact h4
theorem FsR.get {st:St}:∀{l:List Fd} {xs:List TV} {i:Nat} {v:Fd},FsR st l xs->l[i]? =some v->∃cs,FdR st v cs/\(xs.drop (i*14)).take 14=cs/\cs.length=14
 | [],xs,i,v,h,hi=>by simp at hi
 | w::r,xs,i,v,h,hi=>by
  unfold FsR at h
  obtain⟨a,b,rfl,h1,h2⟩:=h
  cases i with
  | zero=>
   simp only[List.getElem?_cons_zero,Option.some.injEq]at hi
   subst hi
   refine⟨a,h1,?_,h1.len⟩
   rw[Nat.zero_mul,List.drop_zero,<-h1.len,List.take_left]
  | succ i=>
   obtain⟨cs,h3,h4,h5⟩:=FsR.get h2 (by simpa using hi)
   refine⟨cs,h3,?_,h5⟩
   rw[show(i+1)*14=a.length+i*14 by rw[h1.len];omega,List.drop_append]
   simp only[Nat.add_sub_cancel_left]
   rw[List.drop_of_length_le (by omega),List.nil_append];exact h4
mutual
def Vl.cnt:Vl->Nat
 | .mk _ l f=>1+AB l+AE f
def AB:List Vl->Nat
 | []=>0
 | v::r=>v.cnt+AB r
def Fd.cnt:Fd->Nat
 | .mk _ v=>v.cnt
def AE:List Fd->Nat
 | []=>0
 | d::r=>d.cnt+AE r
end
end
structure StX (S:Nat->Prop) (a b:St):Prop where
 nb:a.nb<=b.nb
 box:∀i,i<a.nb->¬S i->b.box i=a.box i
 nt:a.nt<=b.nt
 live:∀i,i<a.nt->b.live i=a.live i
 ty:∀i,i<a.nt->b.ty i=a.ty i
 bt:∀i,i<a.nb->b.bt i=a.bt i
theorem StX.refl (S:Nat->Prop) (a:St):StX S a a:=⟨Nat.le_refl _,fun _ _ _=>rfl,Nat.le_refl _,fun _ _=>rfl,fun _ _=>rfl,fun _ _=>rfl⟩
theorem StX.trans {S:Nat->Prop} {a b c:St} (h:StX S a b) (k:StX S b c):StX S a c:=
 ⟨Nat.le_trans h.nb k.nb,fun i hi hs=>(k.box i (Nat.lt_of_lt_of_le hi h.nb) hs).trans (h.box i hi hs),Nat.le_trans h.nt k.nt,fun i hi=>(k.live i (Nat.lt_of_lt_of_le hi h.nt)).trans (h.live i hi),fun i hi=>(k.ty i (Nat.lt_of_lt_of_le hi h.nt)).trans (h.ty i hi),fun i hi=>(k.bt i (Nat.lt_of_lt_of_le hi h.nb)).trans (h.bt i hi)⟩
theorem StX.of {S:Nat->Prop} {a b:St} (h:Am a b):StX S a b:=⟨h.nb,fun i hi _=>h.box i hi,h.nt,h.live,h.ty,h.bt⟩
theorem StX.ext {S:Nat->Prop} {a b c:St} (h:Am a b) (k:StX S b c) (hs:∀i,S i->a.nb<=i):Am a c:=
 ⟨Nat.le_trans h.nb k.nb,fun i hi=>(k.box i (Nat.lt_of_lt_of_le hi h.nb) fun g=>absurd (hs i g) (by omega)).trans (h.box i hi),Nat.le_trans h.nt k.nt,fun i hi=>(k.live i (Nat.lt_of_lt_of_le hi h.nt)).trans (h.live i hi),fun i hi=>(k.ty i (Nat.lt_of_lt_of_le hi h.nt)).trans (h.ty i hi),fun i hi=>(k.bt i (Nat.lt_of_lt_of_le hi h.nb)).trans (h.bt i hi)⟩
theorem StX.put {S:Nat->Prop} {a:St} {i:Nat} (hi:S i) (o:HW):StX S a (a.put i o):=
 ⟨Nat.le_refl _,fun j hj hs=>by simp only[St.put];rw[if_neg (by rintro rfl;exact hs hi)],Nat.le_refl _,fun _ _=>rfl,fun _ _=>rfl,fun _ _=>rfl⟩
end Go.TVF
section
namespace Go.TVF
open Go.IntKind(i64 u8)
abbrev tyField:Nat:=65
end Go.TVF
end
namespace Go.TVF
open Go.IntKind(i64 u8)
open Go Go.Proofs
def CkK (k:B8) (cs:List TV):Prop:=∃(n1:Int) (b1 b2:Bool) (s2:B8) (n2 n3 n4 n5 n6:Int) (s3:B8) (u1 u2 u3:TV),
 cs=[.str k,.int .i64 n1,.bool b1,.bool b2,.str s2,.int .i64 n2,.int .i64 n3,.int .i64 n4,.int .i64 n5,.int .i64 n6,.str s3,u1,u2,u3]/\Au u1=true/\Au u2=true/\Au u3=true
def Ck (cs:List TV):Prop:=∃k,CkK k cs
theorem Ck.len {cs:List TV} (h:Ck cs):cs.length=14:=by obtain⟨k,n1,b1,b2,s2,n2,n3,n4,n5,n6,s3,u1,u2,u3,rfl,_⟩:=h;rfl
theorem Ck.one {cs:List TV} (h:Ck cs):List.all cs Au=true:=by
 obtain⟨k,n1,b1,b2,s2,n2,n3,n4,n5,n6,s3,u1,u2,u3,rfl,h1,h2,h3⟩:=h
 simp[Au]at h1 h2 h3⊢
 simp[h1,h2,h3]
theorem Hy {k:B8} {n1:Int} {b1 b2:Bool} {s2:B8} {n2 n3 n4 n5 n6:Int} {s3:B8} {u1 u2 u3:TV} {f:Fun [.str,.int .i64,.bool,.bool,.str,.int .i64,.int .i64,.int .i64,.int .i64,.int .i64,.str,.tv,.tv,.tv] Prop} (h:f k n1 b1 b2 s2 n2 n3 n4 n5 n6 s3 u1 u2 u3):
  Bj [.str,.int .i64,.bool,.bool,.str,.int .i64,.int .i64,.int .i64,.int .i64,.int .i64,.str,.tv,.tv,.tv] (.agg [.str k,.int .i64 n1,.bool b1,.bool b2,.str s2,.int .i64 n2,.int .i64 n3,.int .i64 n4,.int .i64 n5,.int .i64 n6,.str s3,u1,u2,u3]) f:=h
structure BxF (st:St) (b n cap:Nat) (cks:List (List TV)):Prop where
 lt:b<st.nb
 len:cks.length=n
 le:n<=cap
 ck:∀c,c∈cks->Ck c
 box:∃tail,st.box b= .cells (cks.flatten++tail)/\(cks.flatten++tail).length=cap*14
theorem Pv:∀{cks:List (List TV)},(∀c,c∈cks->Ck c)->cks.flatten.length=cks.length*14
 | [],_=>rfl
 | c::r,h=>by
  rw[List.flatten_cons,List.length_append,(h c (.head _)).len,Pv fun x hx=>h x (.tail _ hx),List.length_cons];omega
theorem N8:∀{cks:List (List TV)} {i:Nat} {c:List TV},(∀c,c∈cks->Ck c)->cks[i]? =some c->∃A B,cks.flatten=A++c++B/\A.length=i*14/\∀d:List TV,(cks.set i d).flatten=A++d++B
 | [],i,c,_,hi=>by simp at hi
 | x::r,0,c,h,hi=>by
  simp only[List.getElem?_cons_zero,Option.some.injEq]at hi
  subst hi
  exact⟨[],r.flatten,by simp,by simp,fun d=>by simp⟩
 | x::r,i+1,c,h,hi=>by
  obtain⟨A,B,h1,h2,h3⟩:=N8 (fun y hy=>h y (.tail _ hy)) (by simpa using hi:r[i]? =some c)
  refine⟨x++A,B,by rw[List.flatten_cons,h1];simp,by rw[List.length_append,(h x (.head _)).len,h2];omega,fun d=>by rw[List.set_cons_succ,List.flatten_cons,h3 d];simp⟩
theorem Ip:∀(ys A c B:List TV),ys.length=c.length->setAll (A++c++B) A.length ys=A++ys++B
 | [],A,c,B,h=>by
  have:c=[]:=List.eq_nil_of_length_eq_zero (by simpa using h.symm)
  subst this;rfl
 | y::ys,A,[],B,h=>by simp at h
 | y::ys,A,x::c,B,h=>by
  rw[setAll]
  have e:(A++x::c++B).set A.length y=(A++[y])++c++B:=by simp
  rw[e]
  have:=Ip ys (A++[y]) c B (by simpa using h)
  rw[List.length_append]at this
  rw[show A.length+1=A.length+ [y].length from rfl,this]
  simp
theorem Jf {st:St} {b:Nat} {B:List TV}:∀(c:List TV) (l:List TV) (j o:Nat),st.box b= .cells l->l.drop (o+j)=c++B->Ai st [] (.t (.box b o)) j c.length=some c
 | [],l,j,o,h,hd=>rfl
 | x::c,l,j,o,h,hd=>by
  have hx:l[o+j]? =some x:=by
   have:=congrArg (fun z:List TV=>z[0]?) hd
   simpa using this
  have hd2:l.drop (o+(j+1))=c++B:=by
   have:=congrArg (fun z:List TV=>z.drop 1) hd
   simpa [List.drop_drop,Nat.add_assoc]using this
  show(match Ac st [] (.t (.box b o)) j with | some x=>(Ai st [] (.t (.box b o)) (j+1) c.length).map (x::·) | none=>none)=_
  have:Ac st [] (.t (.box b o)) j=some x:=by simp only[Ac,h];exact hx
  rw[this]
  simp only
  rw[Jf c l (j+1) o h hd2];rfl
theorem BxF.ld {st:St} {b n cap:Nat} {cks:List (List TV)} (h:BxF st b n cap cks) {i:Nat} {c:List TV} (hi:cks[i]? =some c):(Ai st [] (.t (ixT 14 (.ms 14 b 0 n cap) i)) 0 14).map TV.agg=some (.agg c):=by
 obtain⟨tail,h1,h2⟩:=h.box
 obtain⟨A,B,h3,h4,_⟩:=N8 h.ck hi
 have hc:=(h.ck c (List.mem_of_getElem? hi)).len
 have:=Jf (B:=B++tail) (st:=st) (b:=b) c (cks.flatten++tail) 0 (0+i*14) h1 (by
  rw[h3,Nat.add_zero,Nat.zero_add,<-h4];simp)
 rw[hc]at this
 show Option.map TV.agg (Ai st [] (.t (.box b (0+i*14))) 0 14)=_
 rw[this];rfl
theorem BxF.st {st:St} {b n cap:Nat} {cks:List (List TV)} (h:BxF st b n cap cks) {i:Nat} {c ys:List TV} (hi:cks[i]? =some c) (hy:Ck ys) {k:St->Prop} (hk:∀st',BxF st' b n cap (cks.set i ys)->StX (·=b) st st'->k st'):
  stB st (ixT 14 (.ms 14 b 0 n cap) i) ys k:=by
 obtain⟨tail,h1,h2⟩:=h.box
 obtain⟨A,B,h3,h4,h5⟩:=N8 h.ck hi
 have hc:=(h.ck c (List.mem_of_getElem? hi)).len
 have hl:(cks.flatten++tail).length=A.length+14+B.length+tail.length:=by rw[h3];simp[hc];omega
 have he:setAll (cks.flatten++tail) (0+i*14) ys=(cks.set i ys).flatten++tail:=by
  rw[Nat.zero_add,<-h4,h3,List.append_assoc,Ip ys A c (B++tail) (by rw[hy.len,hc]),h5 ys]
  simp
 refine⟨_,h1,by rw[hl,hy.len,<-h4];omega,?_⟩
 rw[he]
 refine hk _ ⟨h.lt,by rw[List.length_set];exact h.len,h.le,fun x hx=>?_,tail,by simp[St.put],?_⟩ (StX.put (S:=(·=b)) (show b=b from rfl) _)
 ·rcases List.mem_or_eq_of_mem_set hx with hx | rfl
  ·exact h.ck x hx
  ·exact hy
 ·rw[<-he,Nat.zero_add];simpa [FK]using h2
theorem BxF.lenZ {st:St} {b n cap:Nat} {cks:List (List TV)} (h:BxF st b n cap cks):lenZ 14 (.ms 14 b 0 n cap)=cks.length:=by rw[h.len];rfl
section
section
variable {st:St} {b n cap:Nat}
theorem GC {P X Y Z Q:List (List TV)} {cmp:TV} (h:BxF st b n cap (P++X++Y++Z++Q)) (hz:Z.length=X.length) (hn:n<=100000000) {A B N:Int} (hA:A=(P.length:Int)) (hB:B=((P.length+X.length+Y.length:Nat):Int)) (hN:N=(X.length:Int)) {K:St->Prop}
  (hk:∀st',BxF st' b n cap (P++Z++Y++X++Q)->StX (·=b) st st'->K st'):
  CallT PR AC [.ms 14 b 0 n cap,.int .i64 A,.int .i64 B,.int .i64 N,cmp] [] st K:=by
 have hlen:=h.len
 simp only[List.length_append]at hlen
 refine CK _ A B N cmp st K ⟨fun i d a b' n' st'=>d= .ms 14 b 0 n cap/\a=A/\b'=B/\n'=N/\∃k:Nat,i=(k:Int)/\k<=X.length/\BxF st' b n cap (P++(Z.take k++X.drop k)++Y++(X.take k++Z.drop k)++Q)/\StX (·=b) st st',
  fun i _ _ _ _ _=>(X.length-i).toNat,⟨rfl,rfl,rfl,rfl,0,rfl,Nat.zero_le _,by simpa using h,StX.refl _ _⟩,?_⟩
 rintro _ _ _ _ _ st1 ⟨rfl,rfl,rfl,rfl,k,rfl,hkl,hb,e⟩
 subst hA hB hN
 refine Ab (fun g=>?_) fun g=>?_
 ·have hkx:k<X.length:=by omega
  rw[Ah _ (by omega) (by omega),Ah _ (by omega) (by omega),Ah _ (by omega) (by omega)]
  have i1:Int.toNat (((P.length+X.length+Y.length:Nat):Int)+(k:Int))=P.length+X.length+Y.length+k:=by omega
  have i2:Int.toNat ((P.length:Int)+(k:Int))=P.length+k:=by omega
  rw[i1,i2,hb.lenZ]
  have hl:=hb.len
  have hx:(P++(Z.take k++X.drop k)++Y++(X.take k++Z.drop k)++Q)[P.length+k]? =some X[k]:=by
   simp only[List.append_assoc]
   rw[List.getElem?_append_right (by omega),Nat.add_sub_cancel_left,List.getElem?_append_right (by simp;omega),List.getElem?_append_left (by simp;omega)]
   simp[show k-min k Z.length=0 by omega,hkx]
  have hzz:(P++(Z.take k++X.drop k)++Y++(X.take k++Z.drop k)++Q)[P.length+X.length+Y.length+k]? =some (Z[k]'(by omega)):=by
   have e1:(P++(Z.take k++X.drop k)++Y++(X.take k++Z.drop k)++Q)=(P++(Z.take k++X.drop k)++Y++X.take k)++(Z.drop k++Q):=by simp
   have e2:(P++(Z.take k++X.drop k)++Y++X.take k).length=P.length+X.length+Y.length+k:=by simp;omega
   rw[e1,List.getElem?_append_right (by omega),e2,Nat.sub_self,List.getElem?_append_left (by simp;omega)]
   simp[show k<Z.length by omega]
  have cx:=hb.ck _ (List.mem_of_getElem? hx)
  have cz:=hb.ck _ (List.mem_of_getElem? hzz)
  have l1:=hb.ld hzz
  have l2:=hb.ld hx
  have hsw:=swp_run (P:=P) (X:=X) (Y:=Y) (Z:=Z) (Q:=Q) hkx hz
  unfold swp at hsw
  rw[hx,hzz]at hsw
  simp only at hsw
  have o1:=cx.one
  have o2:=cz.one
  generalize hcx:X[k]=x at*
  generalize hcz:(Z[k]'(by omega))=z at*
  have cx':=cx
  have cz':=cz
  obtain⟨kx,n1,b1,b2,s2,n2,n3,n4,n5,n6,s3,u1,u2,u3,rfl,_⟩:=cx
  obtain⟨kz,m1,c1,c2,t2,m2,m3,m4,m5,m6,t3,v1,v2,v3,rfl,_⟩:=cz
  refine⟨⟨by omega,by omega⟩,Ad l1 (Hy ⟨⟨by omega,by omega⟩,Ad l2 (Hy ⟨⟨by omega,by omega⟩,Aa o2 (hb.st hx cz' fun st2 hb2 e2=>⟨⟨by omega,by omega⟩,Aa o1 ?_⟩)⟩)⟩)⟩
  ·have hg:∃y,(List.set (P++(Z.take k++X.drop k)++Y++(X.take k++Z.drop k)++Q) (P.length+k) [.str kz,.int .i64 m1,.bool c1,.bool c2,.str t2,.int .i64 m2,.int .i64 m3,.int .i64 m4,.int .i64 m5,.int .i64 m6,.str t3,v1,v2,v3])[P.length+X.length+Y.length+k]? =some y:=
    ⟨_,List.getElem?_eq_getElem (by rw[List.length_set,hl];omega)⟩
   obtain⟨y,hy⟩:=hg
   refine hb2.st hy cx' fun st3 hb3 e3=>⟨⟨rfl,rfl,rfl,rfl,k+1,by omega,by omega,?_,(e.trans e2).trans e3⟩,by dsimp only;omega⟩
   rw[hsw]at hb3
   exact hb3
 ·have:k=X.length:=by omega
  subst this
  refine hk _ ?_ e
  rw[List.take_of_length_le (show Z.length<=X.length by omega),List.drop_length,List.take_length,List.drop_of_length_le (show Z.length<=X.length by omega),List.append_nil,List.append_nil]at hb
  exact hb
theorem R0 {P U V Q:List (List TV)} {cmp:TV} (h:BxF st b n cap (P++U++V++Q)) (hn:n<=100000000) (hU:0<U.length) (hV:0<V.length) {A M B:Int} (hA:A=(P.length:Int)) (hM:M=((P.length+U.length:Nat):Int)) (hB:B=((P.length+U.length+V.length:Nat):Int)) {K:St->Prop}
  (hk:∀st',BxF st' b n cap (P++V++U++Q)->StX (·=b) st st'->K st'):
  CallT PR A8 [.ms 14 b 0 n cap,.int .i64 A,.int .i64 M,.int .i64 B,cmp] [] st K:=by
 have hlen:=h.len
 simp only[List.length_append]at hlen
 refine Dg _ A M B cmp st K ⟨fun i j d m' c' st'=>d= .ms 14 b 0 n cap/\m'=M/\∃P' U' V' Q':List (List TV),P'++V'++U'++Q'=P++V++U++Q/\P'.length+U'.length=P.length+U.length/\i=(U'.length:Int)/\j=(V'.length:Int)/\0<U'.length/\0<V'.length/\BxF st' b n cap (P'++U'++V'++Q')/\StX (·=b) st st',
  fun i j _ _ _ _=>(i+j).toNat,⟨rfl,rfl,P,U,V,Q,rfl,rfl,?_,?_,hU,hV,h,StX.refl _ _⟩,?_⟩
 ·rw[Ah _ (by omega) (by omega)];omega
 ·rw[Ah _ (by omega) (by omega)];omega
 rintro _ _ _ _ c' st1 ⟨rfl,rfl,P',U',V',Q',hfin,hm,rfl,rfl,hu,hv,hb,e⟩
 have hlb:=hb.len
 simp only[List.length_append]at hlb
 subst hA hM hB
 have wa:i64.wrap (((P.length+U.length:Nat):Int)-(U'.length:Int))=(P'.length:Int):=by rw[Ah _ (by omega) (by omega)];omega
 refine Ab (fun g=>Ab (fun g2=>?_) fun g2=>?_) fun g=>?_
 ·rw[wa,Ah _ (by omega) (by omega)]
  have hX:U'=U'.take V'.length++U'.drop V'.length:=(List.take_append_drop _ _).symm
  have l1:(U'.take V'.length).length=V'.length:=by simp;omega
  have l2:(U'.drop V'.length).length=U'.length-V'.length:=by simp
  generalize U'.take V'.length=X at*
  generalize U'.drop V'.length=Y at*
  subst hX
  simp only[List.length_append]at*
  refine GC (P:=P') (X:=X) (Y:=Y) (Z:=V') (Q:=Q') (by simpa using hb) (by omega) hn rfl (by omega) (by omega) fun st2 hb2 e2=>⟨⟨trivial,trivial,P'++V',Y,X,Q',?_,by simp only[List.length_append];omega,by omega,by omega,by omega,by omega,by simpa using hb2,e.trans e2⟩,by omega⟩
  rw[<-hfin];simp
 ·have hjw:i64.wrap (i64.wrap (((P.length+U.length:Nat):Int)+(V'.length:Int))-(U'.length:Int))=(P'.length:Int)+(V'.length:Int):=by
   rw[Ah (((P.length+U.length:Nat):Int)+(V'.length:Int)) (by omega) (by omega),Ah _ (by omega) (by omega)];omega
  rw[wa,hjw,Ah _ (by omega) (by omega)]
  have hX:V'=V'.take (V'.length-U'.length)++V'.drop (V'.length-U'.length):=(List.take_append_drop _ _).symm
  have l1:(V'.take (V'.length-U'.length)).length=V'.length-U'.length:=by simp
  have l2:(V'.drop (V'.length-U'.length)).length=U'.length:=by simp;omega
  generalize V'.take (V'.length-U'.length)=Y at*
  generalize V'.drop (V'.length-U'.length)=Z at*
  subst hX
  simp only[List.length_append]at*
  refine GC (P:=P') (X:=U') (Y:=Y) (Z:=Z) (Q:=Q') (by simpa using hb) (by omega) hn rfl (by omega) rfl fun st2 hb2 e2=>⟨⟨trivial,trivial,P',Z,Y,U'++Q',?_,by omega,by omega,by omega,by omega,by omega,by simpa using hb2,e.trans e2⟩,by omega⟩
  rw[<-hfin];simp
 ·have huv:U'.length=V'.length:=by omega
  rw[wa]
  refine GC (P:=P') (X:=U') (Y:=[]) (Z:=V') (Q:=Q') (by simpa using hb) huv.symm hn rfl (by simp;omega) rfl fun st2 hb2 e2=>hk _ ?_ (e.trans e2)
  rw[<-hfin];simpa using hb2
end
end
section
section
variable {st:St} {b n cap:Nat} {cks:List (List TV)}
def D8 (c:List TV):B8:=match c with | .str k::_=>k | _=>[]
def Kp (cmp:TV):Prop:=∀(c d:List TV) (st:St) (K:Int->St->Prop),Ck c->Ck d->(∀(r:Int) st',Am st st'->(r<0↔Op.bytesLess (D8 c) (D8 d)=true)->K r st')->Fi PR cmp [.agg c,.agg d] [.one (.int .i64)] st K
theorem NH {I J:Int} {i j:Nat} {x y:List TV} {K:St->Prop} (h:BxF st b n cap cks) (hI:I=(i:Int)) (hJ:J=(j:Int)) (hi:cks[i]? =some x) (hj:cks[j]? =some y) (hk:∀st',BxF st' b n cap ((cks.set i y).set j x)->StX (·=b) st st'->K st'):
  ((0<=J/\J<(lenZ 14 (.ms 14 b 0 n cap):Int))/\Aj ((Ai st [] (.t (ixT 14 (.ms 14 b 0 n cap) (Int.toNat J))) 0 14).map TV.agg) (fun (x1:TV)=>Bj [.str,.int .i64,.bool,.bool,.str,.int .i64,.int .i64,.int .i64,.int .i64,.int .i64,.str,.tv,.tv,.tv] x1 (fun (a0:B8) (a1:Int) (a2:Bool) (a3:Bool) (a4:B8) (a5:Int) (a6:Int) (a7:Int) (a8:Int) (a9:Int) (a10:B8) (a11:TV) (a12:TV) (a13:TV)=>((0<=I/\I<(lenZ 14 (.ms 14 b 0 n cap):Int))/\Aj ((Ai st [] (.t (ixT 14 (.ms 14 b 0 n cap) (Int.toNat I))) 0 14).map TV.agg) (fun (x2:TV)=>Bj [.str,.int .i64,.bool,.bool,.str,.int .i64,.int .i64,.int .i64,.int .i64,.int .i64,.str,.tv,.tv,.tv] x2 (fun (c0:B8) (c1:Int) (c2:Bool) (c3:Bool) (c4:B8) (c5:Int) (c6:Int) (c7:Int) (c8:Int) (c9:Int) (c10:B8) (c11:TV) (c12:TV) (c13:TV)=>((0<=I/\I<(lenZ 14 (.ms 14 b 0 n cap):Int))/\need (List.all [(.str a0),(.int .i64 a1),(.bool a2),(.bool a3),(.str a4),(.int .i64 a5),(.int .i64 a6),(.int .i64 a7),(.int .i64 a8),(.int .i64 a9),(.str a10),a11,a12,a13] Au) (stB st (ixT 14 (.ms 14 b 0 n cap) (Int.toNat I)) [(.str a0),(.int .i64 a1),(.bool a2),(.bool a3),(.str a4),(.int .i64 a5),(.int .i64 a6),(.int .i64 a7),(.int .i64 a8),(.int .i64 a9),(.str a10),a11,a12,a13] (fun (st2:St)=>((0<=J/\J<(lenZ 14 (.ms 14 b 0 n cap):Int))/\need (List.all [(.str c0),(.int .i64 c1),(.bool c2),(.bool c3),(.str c4),(.int .i64 c5),(.int .i64 c6),(.int .i64 c7),(.int .i64 c8),(.int .i64 c9),(.str c10),c11,c12,c13] Au) (stB st2 (ixT 14 (.ms 14 b 0 n cap) (Int.toNat J)) [(.str c0),(.int .i64 c1),(.bool c2),(.bool c3),(.str c4),(.int .i64 c5),(.int .i64 c6),(.int .i64 c7),(.int .i64 c8),(.int .i64 c9),(.str c10),c11,c12,c13] K))))))))))):=by
 subst hI hJ
 have li:=(List.getElem?_eq_some_iff.1 hi).1
 have lj:=(List.getElem?_eq_some_iff.1 hj).1
 have cx:=h.ck _ (List.mem_of_getElem? hi)
 have cy:=h.ck _ (List.mem_of_getElem? hj)
 have l1:=h.ld hj
 have l2:=h.ld hi
 have o1:=cx.one
 have o2:=cy.one
 have cx':=cx
 have cy':=cy
 simp only[Int.toNat_natCast]
 rw[h.lenZ]
 obtain⟨kx,n1,b1,b2,s2,n2,n3,n4,n5,n6,s3,u1,u2,u3,rfl,_⟩:=cx
 obtain⟨ky,m1,c1,c2,t2,m2,m3,m4,m5,m6,t3,v1,v2,v3,rfl,_⟩:=cy
 refine⟨⟨by omega,by omega⟩,Ad l1 (Hy ⟨⟨by omega,by omega⟩,Ad l2 (Hy ⟨⟨by omega,by omega⟩,Aa o2 (h.st hi cy' fun st2 hb2 e2=>⟨⟨by omega,by omega⟩,Aa o1 ?_⟩)⟩)⟩)⟩
 obtain⟨z,hz⟩:∃z,(cks.set i [.str ky,.int .i64 m1,.bool c1,.bool c2,.str t2,.int .i64 m2,.int .i64 m3,.int .i64 m4,.int .i64 m5,.int .i64 m6,.str t3,v1,v2,v3])[j]? =some z:=⟨_,List.getElem?_eq_getElem (by rw[List.length_set];exact lj)⟩
 exact hb2.st hz cx' fun st3 hb3 e3=>hk st3 hb3 (e2.trans e3)
theorem Of {cmp:TV} (hc:Kp cmp) {I J:Int} {i j:Nat} {x y:List TV} {K:Int->St->Prop} (h:BxF st b n cap cks) (hI:I=(i:Int)) (hJ:J=(j:Int)) (hi:cks[i]? =some x) (hj:cks[j]? =some y) (hk:∀(r:Int) st',Am st st'->(r<0↔Op.bytesLess (D8 x) (D8 y)=true)->K r st'):
  ((0<=I/\I<(lenZ 14 (.ms 14 b 0 n cap):Int))/\Aj ((Ai st [] (.t (ixT 14 (.ms 14 b 0 n cap) (Int.toNat I))) 0 14).map TV.agg) (fun (x1:TV)=>Bj [.str,.int .i64,.bool,.bool,.str,.int .i64,.int .i64,.int .i64,.int .i64,.int .i64,.str,.tv,.tv,.tv] x1 (fun (a0:B8) (a1:Int) (a2:Bool) (a3:Bool) (a4:B8) (a5:Int) (a6:Int) (a7:Int) (a8:Int) (a9:Int) (a10:B8) (a11:TV) (a12:TV) (a13:TV)=>((0<=J/\J<(lenZ 14 (.ms 14 b 0 n cap):Int))/\Aj ((Ai st [] (.t (ixT 14 (.ms 14 b 0 n cap) (Int.toNat J))) 0 14).map TV.agg) (fun (x2:TV)=>Bj [.str,.int .i64,.bool,.bool,.str,.int .i64,.int .i64,.int .i64,.int .i64,.int .i64,.str,.tv,.tv,.tv] x2 (fun (c0:B8) (c1:Int) (c2:Bool) (c3:Bool) (c4:B8) (c5:Int) (c6:Int) (c7:Int) (c8:Int) (c9:Int) (c10:B8) (c11:TV) (c12:TV) (c13:TV)=>Fi PR cmp [(.agg [(.str a0),(.int .i64 a1),(.bool a2),(.bool a3),(.str a4),(.int .i64 a5),(.int .i64 a6),(.int .i64 a7),(.int .i64 a8),(.int .i64 a9),(.str a10),a11,a12,a13]),(.agg [(.str c0),(.int .i64 c1),(.bool c2),(.bool c3),(.str c4),(.int .i64 c5),(.int .i64 c6),(.int .i64 c7),(.int .i64 c8),(.int .i64 c9),(.str c10),c11,c12,c13])] [.one (.int .i64)] st K)))))):=by
 subst hI hJ
 have li:=(List.getElem?_eq_some_iff.1 hi).1
 have lj:=(List.getElem?_eq_some_iff.1 hj).1
 have cx:=h.ck _ (List.mem_of_getElem? hi)
 have cy:=h.ck _ (List.mem_of_getElem? hj)
 have l1:=h.ld hi
 have l2:=h.ld hj
 have cx':=cx
 have cy':=cy
 simp only[Int.toNat_natCast]
 rw[h.lenZ]
 obtain⟨kx,n1,b1,b2,s2,n2,n3,n4,n5,n6,s3,u1,u2,u3,rfl,_⟩:=cx
 obtain⟨ky,m1,c1,c2,t2,m2,m3,m4,m5,m6,t3,v1,v2,v3,rfl,_⟩:=cy
 exact⟨⟨by omega,by omega⟩,Ad l1 (Hy ⟨⟨by omega,by omega⟩,Ad l2 (Hy (hc _ _ _ _ cx' cy' hk))⟩)⟩
theorem BxF.ext {st':St} (h:BxF st b n cap cks) (e:Am st st'):BxF st' b n cap cks:=⟨Nat.lt_of_lt_of_le h.lt e.nb,h.len,h.le,h.ck,by
 obtain⟨t,h1,h2⟩:=h.box
 exact⟨t,(e.box b h.lt).trans h1,h2⟩⟩
end
end
section
theorem Fx:∀x:B8,Op.bytesLess x x=false
 | []=>rfl
 | a::x=>by
  have:=Fx x
  simp[Op.bytesLess,this]
theorem Iz:∀x y:B8,Op.bytesLess x y=true->Op.bytesLess y x=false
 | [],[],h=>by cases h
 | [],b::y,h=>rfl
 | a::x,[],h=>by cases h
 | a::x,b::y,h=>by
  simp only[Op.bytesLess,Bool.or_eq_true,Bool.and_eq_true,decide_eq_true_eq,beq_iff_eq]at h
  simp only[Op.bytesLess,Bool.or_eq_false_iff,Bool.and_eq_false_iff,decide_eq_false_iff_not,beq_eq_false_iff_ne]
  rcases h with h | ⟨rfl,h⟩
  ·exact⟨fun g=>absurd (UInt8.lt_trans h g) (UInt8.lt_irrefl _),.inl (fun e=>by subst e;exact UInt8.lt_irrefl _ h)⟩
  ·exact⟨UInt8.lt_irrefl _,.inr (Iz x y h)⟩
theorem E3:∀x y z:B8,Op.bytesLess y x=false->Op.bytesLess z y=false->Op.bytesLess z x=false
 | [],_,[],_,_=>rfl
 | a::x,_,[],h1,h2=>by
  rename_i y
  cases y with
  | nil=>cases h1
  | cons b y=>cases h2
 | [],y,c::z,_,_=>rfl
 | a::x,[],c::z,h1,h2=>by cases h1
 | a::x,b::y,c::z,h1,h2=>by
  simp only[Op.bytesLess,Bool.or_eq_false_iff,Bool.and_eq_false_iff,decide_eq_false_iff_not,beq_eq_false_iff_ne,UInt8.not_lt]at h1 h2⊢
  obtain⟨h1,h3⟩:=h1
  obtain⟨h2,h4⟩:=h2
  refine⟨UInt8.le_trans h1 h2,?_⟩
  by_cases hca:c=a
  ·right
   subst hca
   have hbc:b=c:=UInt8.le_antisymm h2 h1
   subst hbc
   exact E3 x y z (h3.resolve_left (fun h=>h rfl)) (h4.resolve_left (fun h=>h rfl))
  ·exact .inl hca
def lek (c d:List TV):Prop:=Op.bytesLess (D8 d) (D8 c)=false
theorem HJ (x y z:List TV) (h1:lek x y) (h2:lek y z):lek x z:=E3 _ _ _ h1 h2
theorem Je (x:List TV):lek x x:=Fx _
theorem Fy {x y:List TV} (h:Op.bytesLess (D8 x) (D8 y)=true):lek x y:=Iz _ _ h
section
variable {st:St} {b n cap:Nat}
theorem Jg {P L Q:List (List TV)} {cmp:TV} (hc:Kp cmp) (h:BxF st b n cap (P++L++Q)) (hn:n<=100000000) {A B:Int} (hA:A=(P.length:Int)) (hB:B=((P.length+L.length:Nat):Int)) {K:St->Prop}
  (hk:∀st' M,M.Perm L->Srt lek M->BxF st' b n cap (P++M++Q)->StX (·=b) st st'->K st'):
  CallT PR AF [.ms 14 b 0 n cap,.int .i64 A,.int .i64 B,cmp] [] st K:=by
 have hlen:=h.len
 simp only[List.length_append]at hlen
 refine Bk _ A B cmp st K ⟨fun i d a b' c' st'=>d= .ms 14 b 0 n cap/\a=A/\b'=B/\cmp=c'/\∃(k:Nat) (M R:List (List TV)),i=((P.length+k:Nat):Int)/\1<=k/\k<=L.length+1/\M.length=min k L.length/\(M++R).Perm L/\Srt lek M/\BxF st' b n cap (P++M++R++Q)/\StX (·=b) st st',
  fun i _ _ _ _ _=>(P.length+L.length+1-i).toNat,⟨rfl,rfl,rfl,rfl,1,L.take 1,L.drop 1,?_,Nat.le_refl _,by omega,by simp,(by rw[List.take_append_drop]),?_,(by rw[List.append_assoc P,List.take_append_drop];exact h),StX.refl _ _⟩,?_⟩
 ·rw[Ah _ (by omega) (by omega)];omega
 ·cases L with
  | nil=>exact List.Pairwise.nil
  | cons x L=>exact List.pairwise_singleton _ _
 rintro _ _ _ _ _ st1 ⟨rfl,rfl,rfl,rfl,k,M,R,rfl,hk1,hkl,hM,hp,hs,hb,e⟩
 subst hA hB
 refine Ab (fun g=>?_) fun g=>?_
 ·have hml:M.length=k:=by omega
  have hpl:=hp.length_eq
  simp only[List.length_append]at hpl
  obtain⟨x,R',rfl⟩:∃x R',R=x::R':=by cases R with | nil=>simp at hpl;omega | cons x R=>exact⟨x,R,rfl⟩
  simp only[List.length_cons]at hpl
  refine⟨fun j d a b' c' i' st'=>d= .ms 14 b 0 n cap/\a=(P.length:Int)/\b'=((P.length+L.length:Nat):Int)/\cmp=c'/\i'=((P.length+k:Nat):Int)/\∃A' B':List (List TV),j=((P.length+A'.length:Nat):Int)/\A'.length+B'.length=k/\(A'++x::B'++R').Perm L/\Srt lek (A'++B')/\(∀y,B'.head? =some y->lek x y)/\BxF st' b n cap (P++(A'++x::B')++R'++Q)/\StX (·=b) st st',
   fun j _ _ _ _ _ _=>j.toNat,⟨rfl,rfl,rfl,rfl,rfl,M,[],by omega,by simpa using hml,by simpa using hp,by simpa using hs,fun y hy=>by simp at hy,by simpa using hb,e⟩,?_⟩
  rintro _ _ _ _ _ _ st2 ⟨rfl,rfl,rfl,rfl,rfl,A',B',rfl,hab,hp2,hs2,hx,hb2,e2⟩
  have hp2l:=hp2.length_eq
  simp only[List.length_append,List.length_cons]at hp2l
  have next:∀st',StX (·=b) st st'->BxF st' b n cap (P++(A'++x::B')++R'++Q)->(∀y,A'.getLast? =some y->lek y x)->
    ∃(k':Nat) (M R:List (List TV)),i64.wrap (((P.length+k:Nat):Int)+1)=((P.length+k':Nat):Int)/\1<=k'/\k'<=L.length+1/\M.length=min k' L.length/\(M++R).Perm L/\Srt lek M/\BxF st' b n cap (P++M++R++Q)/\StX (·=b) st st':=fun st' e' hb' hy=>
   ⟨k+1,A'++x::B',R',by rw[Ah _ (by omega) (by omega)];omega,by omega,by omega,by simp only[List.length_append,List.length_cons];omega,hp2,NK HJ Je hs2 hy hx,hb',e'⟩
  have ms:(P.length+L.length+1-i64.wrap (((P.length+k:Nat):Int)+1)).toNat<(P.length+L.length+1-((P.length+k:Nat):Int)).toNat:=by
   rw[Ah _ (by omega) (by omega)];omega
  refine Ab (fun g2=>?_) fun g2=>?_
  ·have hA0:A'≠ []:=by intro h0;subst h0;simp at g2
   obtain⟨A'',y,hA'⟩:∃A'' y,A'=A''++[y]:=⟨_,_,(List.dropLast_concat_getLast hA0).symm⟩
   subst hA'
   simp only[List.length_append,List.length_cons,List.length_nil]at hab g2 hp2l
   have wj:i64.wrap (((P.length+(A''++[y]).length:Nat):Int)-1)=((P.length+A''.length:Nat):Int):=by
    rw[Ah _ (by simp;omega) (by simp;omega)];simp;omega
   have ec:P++(A''++[y]++x::B')++R'++Q=(P++A'')++y::x::(B'++R'++Q):=by simp
   have gi:(P++(A''++[y]++x::B')++R'++Q)[P.length+(A''++[y]).length]? =some x:=by
    rw[ec,List.getElem?_append_right (by simp)]
    simp[show P.length+(A''.length+1)-(P.length+A''.length)=1 by omega]
   have gj:(P++(A''++[y]++x::B')++R'++Q)[P.length+A''.length]? =some y:=by
    rw[ec,List.getElem?_append_right (by simp)]
    simp
   rw[wj]
   refine Of hc hb2 rfl rfl gi gj fun r st3 e3 hr=>?_
   have hb3:=hb2.ext e3
   have e23:=e2.trans (StX.of e3)
   refine Ab (fun g3=>?_) fun g3=>?_
   ·refine NH hb3 rfl rfl gi gj fun st4 hb4 e4=>?_
    have hset:((P++(A''++[y]++x::B')++R'++Q).set (P.length+(A''++[y]).length) y).set (P.length+A''.length) x=P++(A''++x::y::B')++R'++Q:=by
     rw[ec,List.set_append_right _ _ (by simp)]
     rw[show P.length+(A''++[y]).length-(P++A'').length=1 by simp only[List.length_append,List.length_cons,List.length_nil];omega,List.set_cons_succ,List.set_cons_zero,List.set_append_right _ _ (by simp)]
     rw[show P.length+A''.length-(P++A'').length=0 by simp,List.set_cons_zero]
     simp
    rw[hset]at hb4
    refine⟨⟨rfl,rfl,rfl,rfl,rfl,A'',y::B',rfl,by simp only[List.length_cons];omega,?_,by simpa using hs2,fun z hz=>?_,hb4,e23.trans e4⟩,by simp;omega⟩
    ·refine List.Perm.trans ?_ hp2
     simp only[List.append_assoc,List.cons_append,List.nil_append]
     exact List.Perm.append_left _ (List.Perm.swap _ _ _)
    ·simp at hz;subst hz
     exact Fy (hr.1 g3)
   ·refine⟨⟨rfl,rfl,rfl,rfl,next st3 e23 hb3 fun z hz=>?_⟩,ms⟩
    simp at hz;subst hz
    cases hq:Op.bytesLess (D8 x) (D8 y)with
    | true=>exact absurd (hr.2 hq) g3
    | false=>exact hq
  ·have hA0:A'=[]:=by
    cases A' with
    | nil=>rfl
    | cons z A'=>simp at g2;omega
   exact⟨⟨rfl,rfl,rfl,rfl,next st2 e2 hb2 fun z hz=>by subst hA0;simp at hz⟩,ms⟩
 ·have hp':=hp.length_eq
  simp only[List.length_append]at hp'
  have hR:R=[]:=List.eq_nil_of_length_eq_zero (by omega)
  subst hR
  exact hk st1 M (by simpa using hp) hs (by simpa using hb) e
end
end
section
theorem Ji (i j:Nat) (h:i+j<=1000000000):i64.wrap (Int.fdiv (IntKind.u64.wrap (i64.wrap ((i:Int)+(j:Int)))) (2^(min (Int.toNat (1:Int)) (IntKind.bits .u64))))=(((i+j)/2:Nat):Int):=by
 rw[Ah ((i:Int)+(j:Int)) (by omega) (by omega)]
 have hu:IntKind.u64.wrap ((i:Int)+(j:Int))=((i+j:Nat):Int):=by
  unfold IntKind.wrap
  simp only[IntKind.signed,IntKind.bits]
  simp
  omega
 rw[hu]
 have h2:((2:Int)^(min (Int.toNat (1:Int)) (IntKind.bits .u64)))=2:=by decide
 rw[h2]
 have h3:Int.fdiv ((i+j:Nat):Int) 2=(((i+j)/2:Nat):Int):=by
  rw[Int.fdiv_eq_ediv_of_nonneg _ (by omega)];omega
 rw[h3,Ah _ (by omega) (by omega)]
theorem EG {α:Type} {l:List α} {k:Nat} {x:α} (h:l[k]? =some x):(l.take (k+1)).getLast? =some x:=by
 obtain⟨hk,rfl⟩:=List.getElem?_eq_some_iff.1 h
 rw[List.take_succ_eq_append_getElem hk,List.getLast?_concat]
theorem HK {α:Type} {l:List α} {k:Nat} {x:α} (h:l[k]? =some x):(l.drop k).head? =some x:=by
 rw[List.head?_drop,h]
section
variable {st:St} {b n cap:Nat}
theorem sm_one {P R Q:List (List TV)} {x:List TV} {cmp:TV} (hc:Kp cmp) (h:BxF st b n cap (P++[x]++R++Q)) (hn:n<=100000000) (hs:Srt lek R) (hR:0<R.length) {A M B:Int} (hA:A=(P.length:Int)) (hM:M=((P.length+1:Nat):Int)) (hB:B=((P.length+1+R.length:Nat):Int)) {K:St->Prop}
  (hk:∀st' W,W.Perm ([x]++R)->Srt lek W->BxF st' b n cap (P++W++Q)->StX (·=b) st st'->K st'):
  CallT PR Ae [.ms 14 b 0 n cap,.int .i64 A,.int .i64 M,.int .i64 B,cmp] [] st K:=by
 have hlen:=h.len
 simp only[List.length_append,List.length_cons,List.length_nil]at hlen
 refine A4 _ A M B cmp st K (Ab (fun _=>?_) fun g=>absurd (by subst hA hM;rw[Ah _ (by omega) (by omega)];omega) g)
 refine⟨fun i j d a c' st'=>d= .ms 14 b 0 n cap/\a=A/\cmp=c'/\∃u v:Nat,i=((P.length+1+u:Nat):Int)/\j=((P.length+1+v:Nat):Int)/\u<=v/\v<=R.length/\(∀y,(R.take u).getLast? =some y->lek y x)/\(∀y,(R.drop v).head? =some y->lek x y)/\BxF st' b n cap (P++[x]++R++Q)/\StX (·=b) st st',
  fun i j _ _ _ _=>(j-i).toNat,⟨rfl,rfl,rfl,0,R.length,by omega,by omega,Nat.zero_le _,Nat.le_refl _,fun y hy=>by simp at hy,fun y hy=>by simp at hy,h,StX.refl _ _⟩,?_⟩
 rintro _ _ _ _ _ st1 ⟨rfl,rfl,rfl,u,v,rfl,rfl,huv,hv,h1,h2,hb,e⟩
 subst hA hM hB
 have gx:(P++[x]++R++Q)[P.length]? =some x:=by simp
 refine Ab (fun g=>?_) fun g=>?_
 ·rw[Ji _ _ (by omega)]
  obtain⟨w,hw⟩:∃w,(P.length+1+u+(P.length+1+v))/2=P.length+1+w:=⟨(u+v)/2,by omega⟩
  have hwu:u<=w:=by omega
  have hwv:w<v:=by omega
  have hwr:w<R.length:=by omega
  rw[hw]
  have gy:(P++[x]++R++Q)[P.length+1+w]? =some R[w]:=by
   rw[List.append_assoc (P++[x]),List.getElem?_append_right (by simp only[List.length_append,List.length_cons,List.length_nil];omega),List.getElem?_append_left (by simp only[List.length_append,List.length_cons,List.length_nil];omega)]
   simp[show P.length+1+w-(P.length+1)=w by omega,hwr]
  have gw:R[w]? =some R[w]:=List.getElem?_eq_getElem hwr
  refine Of hc hb rfl rfl gy gx fun r st2 e2 hr=>?_
  have hb2:=hb.ext e2
  have e12:=e.trans (StX.of e2)
  refine Ab (fun g3=>?_) fun g3=>?_
  ·exact⟨⟨rfl,rfl,rfl,w+1,v,by rw[Ah _ (by omega) (by omega)];omega,rfl,by omega,hv,fun y hy=>by rw[EG gw]at hy;cases hy;exact Fy (hr.1 g3),h2,hb2,e12⟩,by dsimp only;rw[Ah _ (by omega) (by omega)];omega⟩
  ·refine⟨⟨rfl,rfl,rfl,u,w,rfl,rfl,hwu,by omega,h1,fun y hy=>?_,hb2,e12⟩,by dsimp only;omega⟩
   rw[HK gw]at hy;cases hy
   cases hq:Op.bytesLess (D8 R[w]) (D8 x)with
   | true=>exact absurd (hr.2 hq) g3
   | false=>exact hq
 ·obtain rfl:u=v:=by omega
  refine⟨fun k d i st'=>d= .ms 14 b 0 n cap/\i=((P.length+1+u:Nat):Int)/\∃w:Nat,k=((P.length+w:Nat):Int)/\w<=u/\BxF st' b n cap (P++R.take w++[x]++R.drop w++Q)/\StX (·=b) st st',
   fun k _ _ _=>(P.length+u-k).toNat,⟨rfl,rfl,0,by omega,Nat.zero_le _,by simpa using hb,e⟩,?_⟩
  rintro _ _ _ st3 ⟨rfl,rfl,w,rfl,hwu,hb3,e3⟩
  have wi:i64.wrap (((P.length+1+u:Nat):Int)-1)=((P.length+u:Nat):Int):=by rw[Ah _ (by omega) (by omega)];omega
  rw[wi]
  refine Ab (fun g4=>?_) fun g4=>?_
  ·have hwr:w<R.length:=by omega
   have wk:i64.wrap (((P.length+w:Nat):Int)+1)=((P.length+w+1:Nat):Int):=by rw[Ah _ (by omega) (by omega)];omega
   have hd:R.drop w=R[w]::R.drop (w+1):=List.drop_eq_getElem_cons hwr
   have ec:P++R.take w++[x]++R.drop w++Q=(P++R.take w)++x::R[w]::(R.drop (w+1)++Q):=by rw[hd];simp only[List.append_assoc,List.cons_append,List.nil_append]
   have lc:(P++R.take w).length=P.length+w:=by simp;omega
   rw[ec]at hb3
   have gi:((P++R.take w)++x::R[w]::(R.drop (w+1)++Q))[P.length+w]? =some x:=by
    rw[List.getElem?_append_right (by omega),lc,Nat.sub_self];rfl
   have gj:((P++R.take w)++x::R[w]::(R.drop (w+1)++Q))[P.length+w+1]? =some R[w]:=by
    rw[List.getElem?_append_right (by omega),lc,show P.length+w+1-(P.length+w)=1 by omega];rfl
   rw[wk]
   refine NH hb3 rfl rfl gi gj fun st4 hb4 e4=>⟨⟨rfl,rfl,w+1,rfl,by omega,?_,e3.trans e4⟩,by dsimp only;omega⟩
   have hset:((((P++R.take w)++x::R[w]::(R.drop (w+1)++Q)).set (P.length+w) R[w]).set (P.length+w+1) x)=P++R.take (w+1)++[x]++R.drop (w+1)++Q:=by
    rw[List.set_append_right _ _ (by omega),lc,Nat.sub_self,List.set_cons_zero,List.set_append_right _ _ (by omega),lc,show P.length+w+1-(P.length+w)=1 by omega,List.set_cons_succ,List.set_cons_zero]
    have t1:R.take (w+1)=R.take w++[R[w]]:=by rw[List.take_succ_eq_append_getElem hwr]
    rw[t1];simp only[List.append_assoc,List.cons_append,List.nil_append]
   rw[hset]at hb4
   exact hb4
  ·obtain rfl:w=u:=by omega
   refine hk st3 (R.take w++x::R.drop w) ?_ (NK HJ Je (by rw[List.take_append_drop];exact hs) h1 h2) (by simpa using hb3) e3
   refine List.perm_middle.trans ?_
   rw[List.take_append_drop];exact List.Perm.refl _
theorem sm_two {P L Q:List (List TV)} {x:List TV} {cmp:TV} (hc:Kp cmp) (h:BxF st b n cap (P++L++[x]++Q)) (hn:n<=100000000) (hs:Srt lek L) (hL:1<L.length) {A M B:Int} (hA:A=(P.length:Int)) (hM:M=((P.length+L.length:Nat):Int)) (hB:B=((P.length+L.length+1:Nat):Int)) {K:St->Prop}
  (hk:∀st' W,W.Perm (L++[x])->Srt lek W->BxF st' b n cap (P++W++Q)->StX (·=b) st st'->K st'):
  CallT PR Ae [.ms 14 b 0 n cap,.int .i64 A,.int .i64 M,.int .i64 B,cmp] [] st K:=by
 have hlen:=h.len
 simp only[List.length_append,List.length_cons,List.length_nil]at hlen
 refine A4 _ A M B cmp st K (Ab (fun g=>absurd g (by subst hA hM;rw[Ah _ (by omega) (by omega)];omega)) fun _=>Ab (fun _=>?_) fun g=>absurd (by subst hB hM;rw[Ah _ (by omega) (by omega)];omega) g)
 refine⟨fun i j d m c' st'=>d= .ms 14 b 0 n cap/\m=M/\cmp=c'/\∃u v:Nat,i=((P.length+u:Nat):Int)/\j=((P.length+v:Nat):Int)/\u<=v/\v<=L.length/\(∀y,(L.take u).getLast? =some y->lek y x)/\(∀y,(L.drop v).head? =some y->lek x y)/\BxF st' b n cap (P++L++[x]++Q)/\StX (·=b) st st',
  fun i j _ _ _ _=>(j-i).toNat,⟨rfl,rfl,rfl,0,L.length,by omega,by omega,Nat.zero_le _,Nat.le_refl _,fun y hy=>by simp at hy,fun y hy=>by simp at hy,h,StX.refl _ _⟩,?_⟩
 rintro _ _ _ _ _ st1 ⟨rfl,rfl,rfl,u,v,rfl,rfl,huv,hv,h1,h2,hb,e⟩
 subst hA hM hB
 have gx:(P++L++[x]++Q)[P.length+L.length]? =some x:=by
  rw[List.append_assoc (P++L),List.getElem?_append_right (by simp),List.length_append,Nat.sub_self];rfl
 refine Ab (fun g=>?_) fun g=>?_
 ·rw[Ji _ _ (by omega)]
  obtain⟨w,hw⟩:∃w,(P.length+u+(P.length+v))/2=P.length+w:=⟨(u+v)/2,by omega⟩
  have hwu:u<=w:=by omega
  have hwv:w<v:=by omega
  have hwr:w<L.length:=by omega
  rw[hw]
  have gy:(P++L++[x]++Q)[P.length+w]? =some L[w]:=by
   rw[List.append_assoc,List.append_assoc,List.getElem?_append_right (by omega),List.getElem?_append_left (by omega),Nat.add_sub_cancel_left]
   exact List.getElem?_eq_getElem hwr
  have gw:L[w]? =some L[w]:=List.getElem?_eq_getElem hwr
  refine Of hc hb rfl rfl gx gy fun r st2 e2 hr=>?_
  have hb2:=hb.ext e2
  have e12:=e.trans (StX.of e2)
  refine Aw (fun g3=>?_) fun g3=>?_
  ·refine⟨⟨rfl,rfl,rfl,w+1,v,by rw[Ah _ (by omega) (by omega)];omega,rfl,by omega,hv,fun y hy=>?_,h2,hb2,e12⟩,by dsimp only;rw[Ah _ (by omega) (by omega)];omega⟩
   rw[EG gw]at hy;cases hy
   cases hq:Op.bytesLess (D8 x) (D8 L[w])with
   | true=>have:=hr.2 hq;simp at g3;omega
   | false=>exact hq
  ·exact⟨⟨rfl,rfl,rfl,u,w,rfl,rfl,hwu,by omega,h1,fun y hy=>by rw[HK gw]at hy;cases hy;exact Fy (hr.1 (by simpa using g3)),hb2,e12⟩,by dsimp only;omega⟩
 ·obtain rfl:u=v:=by omega
  refine⟨fun k d i st'=>d= .ms 14 b 0 n cap/\i=((P.length+u:Nat):Int)/\∃w:Nat,k=((P.length+w:Nat):Int)/\u<=w/\w<=L.length/\BxF st' b n cap (P++L.take w++[x]++L.drop w++Q)/\StX (·=b) st st',
   fun k _ _ _=>k.toNat,⟨rfl,rfl,L.length,by omega,hv,Nat.le_refl _,by simpa using hb,e⟩,?_⟩
  rintro _ _ _ st3 ⟨rfl,rfl,w,rfl,hwu,hwl,hb3,e3⟩
  refine Ab (fun g4=>?_) fun g4=>?_
  ·obtain⟨w,rfl⟩:∃w',w=w'+1:=⟨w-1,by omega⟩
   have hwr:w<L.length:=by omega
   have wk:i64.wrap (((P.length+(w+1):Nat):Int)-1)=((P.length+w:Nat):Int):=by rw[Ah _ (by omega) (by omega)];omega
   have t1:L.take (w+1)=L.take w++[L[w]]:=by rw[List.take_succ_eq_append_getElem hwr]
   have ec:P++L.take (w+1)++[x]++L.drop (w+1)++Q=(P++L.take w)++L[w]::x::(L.drop (w+1)++Q):=by rw[t1];simp only[List.append_assoc,List.cons_append,List.nil_append]
   have lc:(P++L.take w).length=P.length+w:=by simp;omega
   rw[ec]at hb3
   have gi:((P++L.take w)++L[w]::x::(L.drop (w+1)++Q))[P.length+(w+1)]? =some x:=by
    rw[List.getElem?_append_right (by omega),lc,show P.length+(w+1)-(P.length+w)=1 by omega];rfl
   have gj:((P++L.take w)++L[w]::x::(L.drop (w+1)++Q))[P.length+w]? =some L[w]:=by
    rw[List.getElem?_append_right (by omega),lc,Nat.sub_self];rfl
   rw[wk]
   refine NH hb3 rfl rfl gi gj fun st4 hb4 e4=>⟨⟨rfl,rfl,w,rfl,by omega,by omega,?_,e3.trans e4⟩,by dsimp only;omega⟩
   have hset:((((P++L.take w)++L[w]::x::(L.drop (w+1)++Q)).set (P.length+(w+1)) L[w]).set (P.length+w) x)=P++L.take w++[x]++L.drop w++Q:=by
    rw[List.set_append_right _ _ (by omega),lc,show P.length+(w+1)-(P.length+w)=1 by omega,List.set_cons_succ,List.set_cons_zero,List.set_append_right _ _ (by omega),lc,Nat.sub_self,List.set_cons_zero]
    have hd:L.drop w=L[w]::L.drop (w+1):=List.drop_eq_getElem_cons hwr
    rw[hd];simp only[List.append_assoc,List.cons_append,List.nil_append]
   rw[hset]at hb4
   exact hb4
  ·obtain rfl:w=u:=by omega
   refine hk st3 (L.take w++x::L.drop w) ?_ (NK HJ Je (by rw[List.take_append_drop];exact hs) h1 h2) (by simpa using hb3) e3
   refine List.perm_middle.trans ?_
   rw[List.take_append_drop]
   exact List.perm_append_comm (l₁:=[x])
end
end
section
section
variable {b n cap:Nat}
theorem Ka {cmp:TV} (hc:Kp cmp) (hn:n<=100000000):∀(N:Nat) {st:St} {P L R Q:List (List TV)} {A M B:Int} {K:St->Prop},L.length+R.length<=N->0<L.length->0<R.length->BxF st b n cap (P++L++R++Q)->Srt lek L->Srt lek R->
  A=(P.length:Int)->M=((P.length+L.length:Nat):Int)->B=((P.length+L.length+R.length:Nat):Int)->
  (∀st' W,W.Perm (L++R)->Srt lek W->BxF st' b n cap (P++W++Q)->StX (·=b) st st'->K st')->
  CallT PR Ae [.ms 14 b 0 n cap,.int .i64 A,.int .i64 M,.int .i64 B,cmp] [] st K:=by
 intro N
 induction N with
 | zero=>intro st P L R Q A M B K h0 h1;omega
 | succ N ih=>
 intro st P L R Q A M B K hN hL hR h sL sR hA hM hB hk
 have hlen:=h.len
 simp only[List.length_append]at hlen
 by_cases hL1:L.length=1
 ·obtain⟨x,rfl⟩:=List.length_eq_one_iff.1 hL1
  exact sm_one hc h hn sR hR hA (by simpa using hM) (by simpa using hB) hk
 by_cases hR1:R.length=1
 ·obtain⟨x,rfl⟩:=List.length_eq_one_iff.1 hR1
  exact sm_two hc h hn sL (by omega) hA hM (by simpa using hB) hk
 subst hA hM hB
 refine A4 _ _ _ _ cmp st K (Ab (fun g=>absurd g (by rw[Ah _ (by omega) (by omega)];omega)) fun _=>Ab (fun g=>absurd g (by rw[Ah _ (by omega) (by omega)];omega)) fun _=>?_)
 obtain⟨H,hH⟩:∃H,H=(L.length+R.length)/2:=⟨_,rfl⟩
 have hmid:=Ji P.length (P.length+L.length+R.length) (by omega)
 have hmid2:(P.length+(P.length+L.length+R.length))/2=P.length+H:=by omega
 rw[hmid2]at hmid
 rw[hmid]
 --the bounds of the search
 obtain⟨u0,v0,hb0⟩:∃u0 v0:Nat,(P.length+H<P.length+L.length->u0=H-R.length/\v0=H)/\(¬P.length+H<P.length+L.length->u0=0/\v0=L.length):=by
  by_cases g:P.length+H<P.length+L.length
  ·exact⟨H-R.length,H,fun _=>⟨rfl,rfl⟩,fun g'=>absurd g g'⟩
  ·exact⟨0,L.length,fun g'=>absurd g' g,fun _=>⟨rfl,rfl⟩⟩
 have hnw:i64.wrap (((P.length+H:Nat):Int)+((P.length+L.length:Nat):Int))=((P.length+H+(P.length+L.length):Nat):Int):=by rw[Ah _ (by omega) (by omega)];omega
 rw[hnw]
 refine⟨fun s r d a m b' c mid n' st'=>d= .ms 14 b 0 n cap/\a=(P.length:Int)/\m=((P.length+L.length:Nat):Int)/\b'=((P.length+L.length+R.length:Nat):Int)/\cmp=c/\mid=((P.length+H:Nat):Int)/\n'=((P.length+H+(P.length+L.length):Nat):Int)/\st=st'/\s=((P.length+u0:Nat):Int)/\r=((P.length+v0:Nat):Int),?_,?_⟩
 ·refine Ab (fun g=>?_) fun g=>?_
  ·obtain⟨h1,h2⟩:=hb0.1 (by omega)
   exact⟨rfl,rfl,rfl,rfl,rfl,rfl,rfl,rfl,by rw[Ah _ (by omega) (by omega)];omega,by omega⟩
  ·obtain⟨h1,h2⟩:=hb0.2 (by omega)
   exact⟨rfl,rfl,rfl,rfl,rfl,rfl,rfl,rfl,by omega,by omega⟩
 rintro _ _ _ _ _ _ _ _ _ _ ⟨rfl,rfl,rfl,rfl,rfl,rfl,rfl,rfl,rfl,rfl⟩
 have hu0:u0<=v0/\v0<=L.length/\v0<=H/\H<=u0+R.length:=by
  by_cases g:P.length+H<P.length+L.length
  ·obtain⟨h1,h2⟩:=hb0.1 g;omega
  ·obtain⟨h1,h2⟩:=hb0.2 g;omega
 obtain⟨q1,q2,q3,q4⟩:=hu0
 refine⟨fun s r d a m b' c mid n' p st'=>d= .ms 14 b 0 n cap/\a=(P.length:Int)/\m=((P.length+L.length:Nat):Int)/\b'=((P.length+L.length+R.length:Nat):Int)/\cmp=c/\mid=((P.length+H:Nat):Int)/\n'=((P.length+H+(P.length+L.length):Nat):Int)/\p=((P.length+H+(P.length+L.length):Nat):Int)-1/\
   ∃u v:Nat,s=((P.length+u:Nat):Int)/\r=((P.length+v:Nat):Int)/\u0<=u/\u<=v/\v<=v0/\(∀x,(L.take u).getLast? =some x->∀y,(R.drop (H-u)).head? =some y->lek x y)/\(∀x,(R.take (H-v)).getLast? =some x->∀y,(L.drop v).head? =some y->lek x y)/\BxF st' b n cap (P++L++R++Q)/\StX (·=b) st st',
  fun s r _ _ _ _ _ _ _ _ _=>(r-s).toNat,⟨rfl,rfl,rfl,rfl,rfl,rfl,rfl,by rw[Ah _ (by omega) (by omega)],u0,v0,rfl,rfl,Nat.le_refl _,q1,Nat.le_refl _,?_,?_,h,StX.refl _ _⟩,?_⟩
 ·intro x hx y hy
  by_cases g:P.length+H<P.length+L.length
  ·obtain⟨h1,h2⟩:=hb0.1 g
   rw[List.drop_of_length_le (by omega)]at hy;simp at hy
  ·obtain⟨h1,h2⟩:=hb0.2 g
   rw[h1]at hx;simp at hx
 ·intro x hx y hy
  by_cases g:P.length+H<P.length+L.length
  ·obtain⟨h1,h2⟩:=hb0.1 g
   rw[h2,Nat.sub_self]at hx;simp at hx
  ·obtain⟨h1,h2⟩:=hb0.2 g
   rw[h2,List.drop_length]at hy;simp at hy
 rintro _ _ _ _ _ _ _ _ _ _ st1 ⟨rfl,rfl,rfl,rfl,rfl,rfl,rfl,rfl,u,v,rfl,rfl,hu,huv,hv,j1,j2,hb,e⟩
 refine Ab (fun g=>?_) fun g=>?_
 ·--one step of the search
  rw[Ji _ _ (by omega)]
  obtain⟨w,hw⟩:∃w,(P.length+u+(P.length+v))/2=P.length+w:=⟨(u+v)/2,by omega⟩
  have hwu:u<=w:=by omega
  have hwv:w<v:=by omega
  have hwl:w<L.length:=by omega
  have hwr:H-w-1<R.length:=by omega
  rw[hw]
  have wp:i64.wrap (((P.length+H+(P.length+L.length):Nat):Int)-1-((P.length+w:Nat):Int))=((P.length+L.length+(H-w-1):Nat):Int):=by rw[Ah _ (by omega) (by omega)];omega
  rw[wp]
  have gy:(P++L++R++Q)[P.length+w]? =some L[w]:=by
   rw[List.append_assoc,List.append_assoc,List.getElem?_append_right (by omega),List.getElem?_append_left (by omega),Nat.add_sub_cancel_left]
   exact List.getElem?_eq_getElem hwl
  have gx:(P++L++R++Q)[P.length+L.length+(H-w-1)]? =some R[H-w-1]:=by
   rw[List.append_assoc (P++L),List.getElem?_append_right (by rw[List.length_append];omega),List.length_append,Nat.add_sub_cancel_left,List.getElem?_append_left hwr]
   exact List.getElem?_eq_getElem hwr
  have ly:L[w]? =some L[w]:=List.getElem?_eq_getElem hwl
  have lx:R[H-w-1]? =some R[H-w-1]:=List.getElem?_eq_getElem hwr
  refine Of hc hb rfl rfl gx gy fun r st2 e2 hr=>?_
  have hb2:=hb.ext e2
  have e12:=e.trans (StX.of e2)
  refine Aw (fun g3=>?_) fun g3=>?_
  ·refine⟨⟨rfl,rfl,rfl,rfl,rfl,rfl,rfl,rfl,w+1,v,by rw[Ah _ (by omega) (by omega)];omega,rfl,by omega,by omega,hv,fun x hx y hy=>?_,j2,hb2,e12⟩,by dsimp only;rw[Ah _ (by omega) (by omega)];omega⟩
   rw[EG ly]at hx;cases hx
   rw[show H-(w+1)=H-w-1 by omega,HK lx]at hy;cases hy
   cases hq:Op.bytesLess (D8 R[H-w-1]) (D8 L[w])with
   | true=>have:=hr.2 hq;simp at g3;omega
   | false=>exact hq
  ·refine⟨⟨rfl,rfl,rfl,rfl,rfl,rfl,rfl,rfl,u,w,rfl,rfl,hu,hwu,by omega,j1,fun x hx y hy=>?_,hb2,e12⟩,by dsimp only;omega⟩
   rw[show H-w=H-w-1+1 by omega,EG lx]at hx;cases hx
   rw[HK ly]at hy;cases hy
   exact Fy (hr.1 (by simpa using g3))
 ·obtain rfl:u=v:=by omega
  obtain⟨E,hE⟩:∃E,E=H-u:=⟨_,rfl⟩
  rw[<-hE]at j1 j2
  have wend:i64.wrap (((P.length+H+(P.length+L.length):Nat):Int)-((P.length+u:Nat):Int))=((P.length+L.length+E:Nat):Int):=by rw[Ah _ (by omega) (by omega)];omega
  rw[wend]
  have hER:E<=R.length:=by omega
  have huL:u<=L.length:=by omega
  have dL:L=L.take u++L.drop u:=(List.take_append_drop _ _).symm
  have dR:R=R.take E++R.drop E:=(List.take_append_drop _ _).symm
  have a1:(L.take u).length=u:=by simp;omega
  have a2:(L.drop u).length=L.length-u:=by simp
  have a3:(R.take E).length=E:=by simp;omega
  have a4:(R.drop E).length=R.length-E:=by simp
  generalize hL1':L.take u=L1 at*
  generalize hL2':L.drop u=L2 at*
  generalize hR1':R.take E=R1 at*
  generalize hR2':R.drop E=R2 at*
  have sL':Srt lek (L1++L2):=dL▸sL
  have sR':Srt lek (R1++R2):=dR▸sR
  obtain⟨z1,z2,_⟩:=List.pairwise_append.1 sL'
  obtain⟨z3,z4,_⟩:=List.pairwise_append.1 sR'
  --the second half
  have second:∀st2 W1,W1.Perm (L1++R1)->Srt lek W1->BxF st2 b n cap (P++W1++L2++R2++Q)->StX (·=b) st st2->
    BIf (decide (((P.length+H:Nat):Int)<((P.length+L.length+E:Nat):Int))) (BIf (decide (((P.length+L.length+E:Nat):Int)<((P.length+L.length+R.length:Nat):Int)))
     (CallT PR Ae [.ms 14 b 0 n cap,.int .i64 ((P.length+H:Nat):Int),.int .i64 ((P.length+L.length+E:Nat):Int),.int .i64 ((P.length+L.length+R.length:Nat):Int),cmp] [] st2 (fun s=>K s)) (K st2)) (K st2):=by
   intro st2 W1 p1 s1 hb2 e2
   have lw:=p1.length_eq
   rw[List.length_append]at lw
   have fin:∀st3 W2,W2.Perm (L2++R2)->Srt lek W2->BxF st3 b n cap (P++W1++W2++Q)->StX (·=b) st st3->K st3:=fun st3 W2 p2 s2 hb3 e3=>by
    obtain⟨t1,t2⟩:=Qa HJ Je sL' sR' j2 j1 p1 p2 s1 s2
    exact hk st3 (W1++W2) (by rw[dL,dR];exact t1) t2 (by simpa using hb3) e3
   refine Ab (fun g1=>Ab (fun g2=>?_) fun g2=>?_) fun g1=>?_
   ·refine ih (P:=P++W1) (L:=L2) (R:=R2) (Q:=Q) (by omega) (by omega) (by omega) hb2 z2 z4 (by rw[List.length_append];omega) (by rw[List.length_append];omega) (by rw[List.length_append];omega) fun st3 W2 p2 s2 hb3 e3=>fin st3 W2 p2 s2 hb3 (e2.trans e3)
   ·have:R2=[]:=List.eq_nil_of_length_eq_zero (by omega)
    subst this
    exact fin st2 L2 (by simp) z2 (by simpa using hb2) e2
   ·have:L2=[]:=List.eq_nil_of_length_eq_zero (by omega)
    subst this
    exact fin st2 R2 (by simp) z4 (by simpa using hb2) e2
  --both halves
  have both:∀st2,BxF st2 b n cap (P++L1++R1++L2++R2++Q)->StX (·=b) st st2->
    (∀W1 st3,W1.Perm (L1++R1)->Srt lek W1->BxF st3 b n cap (P++W1++L2++R2++Q)->StX (·=b) st st3->True):=fun _ _ _ _ _ _ _ _ _=>trivial
  have firstCall:∀(st2:St) (K':St->Prop),0<L1.length->0<R1.length->BxF st2 b n cap (P++L1++R1++L2++R2++Q)->(∀st3 W1,W1.Perm (L1++R1)->Srt lek W1->BxF st3 b n cap (P++W1++L2++R2++Q)->StX (·=b) st2 st3->K' st3)->
    CallT PR Ae [.ms 14 b 0 n cap,.int .i64 (P.length:Int),.int .i64 ((P.length+u:Nat):Int),.int .i64 ((P.length+H:Nat):Int),cmp] [] st2 K':=by
   intro st2 K' y1 y2 hb2 hK'
   exact ih (P:=P) (L:=L1) (R:=R1) (Q:=L2++R2++Q) (by omega) y1 y2 (by simpa using hb2) z1 z3 rfl (by omega) (by omega) fun st3 W1 p1 s1 hb3 e3=>hK' st3 W1 p1 s1 (by simpa using hb3) e3
  have hb':BxF st1 b n cap (P++(L1++L2)++(R1++R2)++Q):=by rw[<-dL,<-dR];exact hb
  refine Ab (fun g1=>Ab (fun g2=>?_) fun g2=>?_) fun g1=>?_
  ·refine R0 (P:=P++L1) (U:=L2) (V:=R1) (Q:=R2++Q) (by simpa using hb') hn (by omega) (by omega) (by rw[List.length_append];omega) (by rw[List.length_append];omega) (by rw[List.length_append];omega) fun st2 hb2 e2=>?_
   have hb2':BxF st2 b n cap (P++L1++R1++L2++R2++Q):=by simpa using hb2
   have e12:=e.trans e2
   refine Ab (fun g3=>Ab (fun g4=>?_) fun g4=>?_) fun g3=>?_
   ·exact firstCall st2 _ (by omega) (by omega) hb2' fun st3 W1 p1 s1 hb3 e3=>second st3 W1 p1 s1 hb3 (e12.trans e3)
   ·have:R1=[]:=List.eq_nil_of_length_eq_zero (by omega)
    subst this
    exact second st2 L1 (by simp) z1 (by simpa using hb2') e12
   ·have:L1=[]:=List.eq_nil_of_length_eq_zero (by omega)
    subst this
    exact second st2 R1 (by simp) z3 (by simpa using hb2') e12
  ·have hR0:R1=[]:=List.eq_nil_of_length_eq_zero (by omega)
   subst hR0
   have hb2':BxF st1 b n cap (P++L1++[]++L2++R2++Q):=by simpa using hb'
   refine Ab (fun g3=>Ab (fun g4=>?_) fun g4=>?_) fun g3=>?_
   ·exact absurd g4 (by simp at a3;omega)
   ·exact second st1 L1 (by simp) z1 (by simpa using hb2') e
   ·exact second st1 L1 (by simp) z1 (by simpa using hb2') e
  ·have hL0:L2=[]:=List.eq_nil_of_length_eq_zero (by omega)
   subst hL0
   have hb2':BxF st1 b n cap (P++L1++R1++[]++R2++Q):=by simpa using hb'
   refine Ab (fun g3=>Ab (fun g4=>?_) fun g4=>?_) fun g3=>?_
   ·exact firstCall st1 _ (by omega) (by omega) hb2' fun st3 W1 p1 s1 hb3 e3=>second st3 W1 p1 s1 hb3 (e.trans e3)
   ·have:R1=[]:=List.eq_nil_of_length_eq_zero (by omega)
    subst this
    exact second st1 L1 (by simp) z1 (by simpa using hb2') e
   ·have:L1=[]:=List.eq_nil_of_length_eq_zero (by omega)
    subst this
    exact second st1 R1 (by simp) z3 (by simpa using hb2') e
end
end
section
def SB (bs:Nat) (l:List (List TV)):Prop:=∀k,Srt lek ((l.drop (k*bs)).take bs)
theorem SB.nil (bs:Nat):SB bs []:=fun k=>by simp only[List.drop_nil,List.take_nil];exact List.Pairwise.nil
theorem SB.app {bs q:Nat} {S M:List (List TV)} (h:SB bs S) (hq:S.length=q*bs) (hm:M.length<=bs) (hs:Srt lek M):SB bs (S++M):=fun k=>by
 rcases Nat.lt_trichotomy k q with hk | hk | hk
 ·have:(k+1)*bs<=q*bs:=Nat.mul_le_mul_right _ hk
  rw[Nat.add_mul,Nat.one_mul]at this
  rw[List.drop_append_of_le_length (by omega),List.take_append_of_le_length (by rw[List.length_drop];omega)]
  exact h k
 ·subst hk
  rw[<-hq,List.drop_left,List.take_of_length_le hm]
  exact hs
 ·have:(q+1)*bs<=k*bs:=Nat.mul_le_mul_right _ hk
  rw[Nat.add_mul,Nat.one_mul]at this
  rw[List.drop_of_length_le (by rw[List.length_append];omega),List.take_nil]
  exact List.Pairwise.nil
theorem SB.drop {bs q:Nat} {l:List (List TV)} (h:SB bs l):SB bs (l.drop (q*bs)):=fun k=>by
 rw[List.drop_drop,<-Nat.add_mul]
 exact h (q+k)
theorem SB.all {bs:Nat} {l:List (List TV)} (h:SB bs l) (hl:l.length<=bs):Srt lek l:=by
 have:=h 0
 rw[Nat.zero_mul,List.drop_zero,List.take_of_length_le hl]at this
 exact this
section
variable {st:St} {b n cap:Nat}
theorem RR {cmp:TV} (hc:Kp cmp) {D0:List (List TV)} (h:BxF st b n cap D0) (hn:n<=100000000) {N:Int} (hN:N=(n:Int)) {K:St->Prop} (hk:∀st' W,W.Perm D0->Srt lek W->BxF st' b n cap W->StX (·=b) st st'->K st'):
  CallT PR AT [.ms 14 b 0 n cap,.int .i64 N,cmp] [] st K:=by
 have hlen:=h.len
 subst hN
 refine BD _ _ cmp st K ⟨fun a b' d n' c bs st'=>d= .ms 14 b 0 n cap/\n'=(n:Int)/\cmp=c/\bs=20/\∃(q:Nat) (S T:List (List TV)),a=((q*20:Nat):Int)/\b'=((q*20+20:Nat):Int)/\q*20<=n/\S.length=q*20/\SB 20 S/\(S++T).Perm D0/\BxF st' b n cap (S++T)/\StX (·=b) st st',
  fun a _ _ _ _ _ _=>(n-a).toNat,⟨rfl,rfl,rfl,rfl,0,[],D0,by omega,by omega,by omega,rfl,SB.nil _,by simp,by simpa using h,StX.refl _ _⟩,?_⟩
 rintro _ _ _ _ _ _ st1 ⟨rfl,rfl,rfl,rfl,q,S,T,rfl,rfl,hqn,hS,sb,hp,hb,e⟩
 have hl1:=hb.len
 rw[List.length_append]at hl1
 refine Ab (fun g=>?_) fun g=>?_
 ·have hT:T=T.take 20++T.drop 20:=(List.take_append_drop _ _).symm
  have lx:(T.take 20).length=20:=by simp;omega
  generalize T.take 20=X at*
  generalize T.drop 20=Y at*
  subst hT
  refine Jg (P:=S) (L:=X) (Q:=Y) hc (by simpa using hb) hn (by omega) (by omega) fun st2 M pm sm hb2 e2=>?_
  have lm:=pm.length_eq
  refine⟨⟨rfl,rfl,rfl,rfl,q+1,S++M,Y,by omega,by rw[Ah _ (by omega) (by omega)];omega,by omega,by rw[List.length_append];omega,sb.app hS (by omega) sm,?_,hb2,e.trans e2⟩,by dsimp only;omega⟩
  rw[List.append_assoc]
  exact((pm.append_right Y).append_left S).trans hp
 ·refine Jg (P:=S) (L:=T) (Q:=[]) hc (by simpa using hb) hn (by omega) (by omega) fun st2 M pm sm hb2 e2=>?_
  have lm:=pm.length_eq
  rw[List.append_nil]at hb2
  refine⟨fun bs d n' c st'=>d= .ms 14 b 0 n cap/\n'=(n:Int)/\cmp=c/\∃(s:Nat) (D:List (List TV)),bs=(s:Int)/\20<=s/\s<=200000020/\SB s D/\D.Perm D0/\BxF st' b n cap D/\StX (·=b) st st',
   fun bs _ _ _ _=>(n-bs).toNat,⟨rfl,rfl,rfl,20,S++M,rfl,Nat.le_refl _,by omega,sb.app hS (by omega) sm,(pm.append_left S).trans hp,hb2,e.trans e2⟩,?_⟩
  rintro _ _ _ _ st3 ⟨rfl,rfl,rfl,s,D,rfl,hs20,hsm,sbD,pD,hbD,eD⟩
  have hlD:=hbD.len
  refine Ab (fun g2=>?_) fun g2=>hk st3 D pD (sbD.all (by omega)) hbD eD
  have w2:i64.wrap (2*(s:Int))=((2*s:Nat):Int):=by rw[Ah _ (by omega) (by omega)];omega
  have ws2:i64.wrap ((s:Int)*2)=((2*s:Nat):Int):=by rw[Ah _ (by omega) (by omega)];omega
  refine⟨fun a b' d n' c bs st'=>d= .ms 14 b 0 n cap/\n'=(n:Int)/\cmp=c/\bs=(s:Int)/\∃(q:Nat) (S T:List (List TV)),a=((q*(2*s):Nat):Int)/\b'=((q*(2*s)+2*s:Nat):Int)/\q*(2*s)<=n/\S.length=q*(2*s)/\SB (2*s) S/\SB s T/\(S++T).Perm D0/\BxF st' b n cap (S++T)/\StX (·=b) st st',
   fun a _ _ _ _ _ _=>(n-a).toNat,⟨rfl,rfl,rfl,rfl,0,[],D,by simp,by rw[w2];simp,by omega,by simp,SB.nil _,sbD,by simpa using pD,by simpa using hbD,eD⟩,?_⟩
  rintro _ _ _ _ _ _ st4 ⟨rfl,rfl,rfl,rfl,q2,S2,T2,rfl,rfl,hq2,hS2,sbS,sbT,p2,hb4,e4⟩
  have hl4:=hb4.len
  rw[List.length_append]at hl4
  generalize hQ:q2*(2*s)=Qn at*
  have d1:=sbT 0
  have d2:=sbT 1
  rw[Nat.zero_mul,List.drop_zero]at d1
  rw[Nat.one_mul]at d2
  refine Ab (fun g3=>?_) fun g3=>?_
  ·rw[w2]
   have wa:i64.wrap ((Qn:Int)+(s:Int))=((Qn+s:Nat):Int):=by rw[Ah _ (by omega) (by omega)];omega
   rw[wa]
   have sb3:SB s (T2.drop (2*s)):=SB.drop (q:=2) sbT
   have hT:T2=T2.take s++((T2.drop s).take s++T2.drop (2*s)):=by
    have:T2.drop (2*s)=(T2.drop s).drop s:=by rw[List.drop_drop];congr 1;omega
    rw[this,List.take_append_drop,List.take_append_drop]
   have lx:(T2.take s).length=s:=by simp;omega
   have ly:((T2.drop s).take s).length=s:=by simp;omega
   generalize T2.take s=X at*
   generalize (T2.drop s).take s=Y at*
   generalize T2.drop (2*s)=Z at*
   subst hT
   refine Ka hc hn _ (P:=S2) (L:=X) (R:=Y) (Q:=Z) (Nat.le_refl _) (by omega) (by omega) (by simpa using hb4) d1 d2 (by omega) (by omega) (by omega) fun st5 W pw sw hb5 e5=>?_
   have lw:=pw.length_eq
   rw[List.length_append]at lw
   refine⟨⟨rfl,rfl,rfl,rfl,q2+1,S2++W,Z,by rw[Nat.add_mul,hQ];omega,by rw[Ah _ (by omega) (by omega),Nat.add_mul,hQ];omega,by rw[Nat.add_mul,hQ];omega,by rw[List.length_append,Nat.add_mul,hQ];omega,sbS.app (by rw[hQ];exact hS2) (by omega) sw,sb3,?_,hb5,e4.trans e5⟩,by dsimp only;omega⟩
   refine List.Perm.trans ?_ p2
   rw[List.append_assoc]
   exact((pw.append_right Z).append_left S2).trans (by simp)
  ·have wa:i64.wrap ((Qn:Int)+(s:Int))=((Qn+s:Nat):Int):=by rw[Ah _ (by omega) (by omega)];omega
   rw[wa,ws2]
   refine Ab (fun g4=>?_) fun g4=>?_
   ·have hT:T2=T2.take s++T2.drop s:=(List.take_append_drop _ _).symm
    have lx:(T2.take s).length=s:=by simp;omega
    have ly:(T2.drop s).length=T2.length-s:=by simp
    rw[List.take_of_length_le (by omega)]at d2
    generalize T2.take s=X at*
    generalize T2.drop s=Y at*
    subst hT
    rw[List.length_append]at*
    refine Ka hc hn _ (P:=S2) (L:=X) (R:=Y) (Q:=[]) (Nat.le_refl _) (by omega) (by omega) (by simpa using hb4) d1 d2 (by omega) (by omega) (by omega) fun st5 W pw sw hb5 e5=>?_
    have lw:=pw.length_eq
    rw[List.length_append]at lw
    rw[List.append_nil]at hb5
    exact⟨⟨rfl,rfl,rfl,2*s,S2++W,rfl,by omega,by omega,sbS.app (by rw[hQ];exact hS2) (by omega) sw,(pw.append_left S2).trans p2,hb5,e4.trans e5⟩,by dsimp only;omega⟩
   ·refine⟨⟨rfl,rfl,rfl,2*s,S2++T2,rfl,by omega,by omega,sbS.app (by rw[hQ];exact hS2) (by omega) (sbT.all (by omega)),p2,hb4,e4⟩,by dsimp only;omega⟩
theorem Mn {cmp:TV} (hc:Kp cmp) {D0:List (List TV)} (h:BxF st b n cap D0) (hn:n<=100000000) {K:St->Prop} (hk:∀st' W,W.Perm D0->Srt lek W->BxF st' b n cap W->StX (·=b) st st'->K st'):
  CallT PR AA [.ms 14 b 0 n cap,cmp] [] st K:=
 A6 _ cmp st K (Aa rfl (RR hc h hn rfl hk))
end
end
theorem D5 {g:Ghost} {w:World} {l:B8} {v:Value} (h:Rel g w (.str l) v):v= .string ⟨l.toArray⟩:=by cases h;rfl
theorem SX {g:Ghost} {w:World} {x:TV} {vs:List Value} (h:AD g w [x] vs):∃v,vs=[v]/\Rel g w x v:=by
 obtain⟨v,h1,h2⟩:=h.get? (i:=0) rfl
 have:=h.1
 cases vs with
 | nil=>simp at this
 | cons a r=>cases r with
  | nil=>simp at h1;subst h1;exact⟨_,rfl,h2⟩
  | cons b r=>simp at this
theorem O2 {g:Ghost} {w:World} {x y:TV} {vs:List Value} (h:AD g w [x,y] vs):∃v u,vs=[v,u]/\Rel g w x v/\Rel g w y u:=by
 obtain⟨v,h1,h2⟩:=h.get? (i:=0) rfl
 obtain⟨u,h3,h4⟩:=h.get? (i:=1) rfl
 have:=h.1
 cases vs with
 | nil=>simp at this
 | cons a r=>cases r with
  | nil=>simp at this
  | cons b r=>cases r with
   | nil=>simp at h1 h3;subst h1 h3;exact⟨_,_,rfl,h2,h4⟩
   | cons c r=>simp at this
theorem Jq:∀a b:B8,Lib.compareBytes a b<0↔Op.bytesLess a b=true
 | [],[]=>by simp[Lib.compareBytes,Op.bytesLess]
 | [],_::_=>by simp[Lib.compareBytes,Op.bytesLess]
 | _::_,[]=>by simp[Lib.compareBytes,Op.bytesLess]
 | a::x,b::y=>by
  unfold Lib.compareBytes Op.bytesLess
  by_cases h1:a<b
  ·simp[h1]
  ·by_cases h2:b<a
   ·have hne:a≠b:=fun e=>by subst e;exact UInt8.lt_irrefl _ h2
    simp[h1,h2,hne]
   ·have he:a=b:=UInt8.le_antisymm (UInt8.not_lt.1 h2) (UInt8.not_lt.1 h1)
    subst he
    simp[h1,Jq x y]
theorem QR {a b:B8} {st:St} {K:Int->St->Prop} (hk:K (Lib.compareBytes a b) st):CallT PR E7 [.str a,.str b] [.one (.int .i64)] st K:=by
 refine Ex (fun _ _=>by kernel_rfl) fun g w vargs s hr=>?_
 obtain⟨v,u,rfl,hv,hu⟩:=O2 hr
 rw[D5 hv,D5 hu]
 refine Calls.mono (Tryz.strings_Compare ⟨a.toArray⟩ ⟨b.toArray⟩ w) ?_
 rintro e w' ⟨rfl,rfl⟩
 exact⟨_,rfl,.int .i64 _,st,g,hk,s,Rel.int _ _,Ext.refl _ _⟩
theorem OS:Kp (.func Cq []):=by
 intro c d st K hc hd hk
 obtain⟨kx,n1,b1,b2,s2,n2,n3,n4,n5,n6,s3,u1,u2,u3,rfl,_⟩:=hc
 obtain⟨ky,m1,c1,c2,t2,m2,m3,m4,m5,m6,t3,v1,v2,v3,rfl,_⟩:=hd
 exact IM _ _ _ _ _ _ _ _ _ _ _ _ _ _ _ _ _ _ _ _ _ _ _ _ _ _ _ _ st K (QR (hk _ st (Am.refl _) (Jq _ _)))
section
inductive Eh {α β:Type} (R:α->β->Prop):List α->List β->Prop
 | nil:Eh R [] []
 | cons {a:α} {b:β} {l:List α} {m:List β}:R a b->Eh R l m->Eh R (a::l) (b::m)
theorem Eh.len {α β:Type} {R:α->β->Prop} {l:List α} {m:List β} (h:Eh R l m):l.length=m.length:=by
 induction h with
 | nil=>rfl
 | cons _ _ ih=>simp[ih]
theorem Eh.perm {α β:Type} {R:α->β->Prop} {m m':List β} (p:m'.Perm m):∀{l:List α},Eh R l m->∃l',l'.Perm l/\Eh R l' m':=by
 induction p with
 | nil=>intro l h;cases h;exact⟨[],.nil,.nil⟩
 | cons x p ih=>
  intro l h
  cases h with
  | cons r h=>obtain⟨l',p',h'⟩:=ih h;exact⟨_::l',p'.cons _,.cons r h'⟩
 | swap x y l0=>
  intro l h
  cases h with
  | cons r1 h=>cases h with
   | cons r2 h=>exact⟨_,List.Perm.swap _ _ _,.cons r2 (.cons r1 h)⟩
 | trans p1 p2 ih1 ih2=>
  intro l h
  obtain⟨l1,q1,h1⟩:=ih2 h
  obtain⟨l2,q2,h2⟩:=ih1 h1
  exact⟨l2,q2.trans q1,h2⟩
theorem FsR.chunks {st:St}:∀{f:List Fd} {xs:List TV},FsR st f xs->∃cks:List (List TV),xs=cks.flatten/\Eh (FdR st) f cks
 | [],xs,h=>by unfold FsR at h;subst h;exact⟨[],rfl,.nil⟩
 | d::r,xs,h=>by
  unfold FsR at h
  obtain⟨a,b,rfl,h1,h2⟩:=h
  obtain⟨cks,rfl,h3⟩:=FsR.chunks h2
  exact⟨a::cks,by simp,.cons h1 h3⟩
theorem FsR.of_chunks {st:St} {f:List Fd} {cks:List (List TV)} (h:Eh (FdR st) f cks):FsR st f cks.flatten:=by
 induction h with
 | nil=>unfold FsR;rfl
 | cons r _ ih=>unfold FsR;exact⟨_,_,by simp,r,ih⟩
theorem SlR.one {st:St} {sz n:Nat} {u:TV} {xs:List TV} (h:SlR st sz u n xs):Au u=true:=by
 rcases h with(⟨rfl,_⟩ | ⟨tip,rfl⟩) | ⟨b,off,cap,l,rfl,_⟩<;>rfl
theorem FdR.ck {st:St} {d:Fd} {cs:List TV} (h:FdR st d cs):Ck cs/\D8 cs=d.key:=by
 cases d with
 | mk k v=>
  unfold FdR at h
  obtain⟨c,rfl,h⟩:=h
  cases v with
  | mk s l f=>
   unfold VlR at h
   obtain⟨ub,ul,uf,xl,xf,rfl,h1,h2,_,h3,_⟩:=h
   exact⟨⟨k,_,_,_,_,_,_,_,_,_,_,ub,ul,uf,rfl,h1.one,h2.one,h3.one⟩,rfl⟩
theorem Eh.cks {st:St} {f:List Fd} {cks:List (List TV)} (h:Eh (FdR st) f cks):∀c,c∈cks->Ck c:=by
 induction h with
 | nil=>intro c hc;cases hc
 | cons r _ ih=>
  intro c hc
  rcases List.mem_cons.1 hc with rfl | hc
  ·exact r.ck.1
  ·exact ih c hc
theorem SlR.src {st:St} {sz n:Nat} {u:TV} {xs:List TV} (h:SlR st sz u n xs) (hl:xs.length=n*sz):DA st sz u=some (n,xs):=by
 rcases h with(⟨rfl,rfl,rfl⟩ | ⟨tip,rfl⟩) | ⟨b,off,cap,l,rfl,h2,h3,h4,h5,rfl⟩
 ·rfl
 ·simp[DA]
 ·have hlt:n*sz<=cap*sz:=Nat.mul_le_mul_right _ h5
  have e:=Jf (B:=l.drop (off+n*sz)) (st:=st) (b:=b) ((l.drop off).take (n*sz)) l 0 off h3 (by
   rw[Nat.add_zero,<-List.drop_drop,List.take_append_drop])
  rw[show((l.drop off).take (n*sz)).length=n*sz by simp;omega]at e
  simp only[DA,Nat.beq_refl]
  rw[e]
theorem FsR.all_one {st:St} {f:List Fd} {xs:List TV} (h:FsR st f xs):List.all xs Au=true:=by
 obtain⟨cks,rfl,h2⟩:=h.chunks
 rw[List.all_flatten,List.all_eq_true]
 exact fun c hc=>(h2.cks c hc).one
theorem Am.keeps {a b:St} (h:Am a b):Bo a b:=⟨h.nb,h.box⟩
section
variable {st:St}
theorem NI {data cmp:TV} {K:St->Prop} (hk:K st):CallT PR AT [data,.int .i64 0,cmp] [] st K:=by
 refine BD _ _ cmp st K ⟨fun a b' d n' c bs st'=>a=0/\b'=20/\n'=0/\bs=20/\st=st',fun _ _ _ _ _ _ _=>0,⟨rfl,rfl,rfl,rfl,rfl⟩,?_⟩
 rintro _ _ _ _ _ _ _ ⟨rfl,rfl,rfl,rfl,rfl⟩
 refine Ab (fun g=>absurd g (by omega)) fun _=>?_
 refine Bk _ _ _ _ st _ ⟨fun i _ _ b' _ st'=>i=1/\b'=0/\st=st',fun _ _ _ _ _ _=>0,⟨by rw[Ah _ (by omega) (by omega)];rfl,rfl,rfl⟩,?_⟩
 rintro _ _ _ _ _ _ ⟨rfl,rfl,rfl⟩
 refine Ab (fun g=>absurd g (by omega)) fun _=>?_
 refine⟨fun bs _ n' _ st'=>bs=20/\n'=0/\st=st',fun _ _ _ _ _=>0,⟨rfl,rfl,rfl⟩,?_⟩
 rintro _ _ _ _ _ ⟨rfl,rfl,rfl⟩
 exact Ab (fun g=>absurd g (by omega)) fun _=>hk
def MB (f:List Fd):Prop:=f.Pairwise fun x y=>Op.bytesLess y.key x.key=false
theorem srtF_of {st:St} {f:List Fd} {cks:List (List TV)} (h:Eh (FdR st) f cks) (hs:Srt lek cks):MB f:=by
 induction h with
 | nil=>exact List.Pairwise.nil
 | cons r t ih=>
  rename_i d c f' cks'
  obtain⟨h1,h2⟩:=List.pairwise_cons.1 hs
  refine List.pairwise_cons.2 ⟨fun x hx=>?_,ih h2⟩
  have:∀{l:List Fd} {m:List (List TV)},Eh (FdR st) l m->x∈l->∃y,y∈m/\FdR st x y:=by
   intro l m h
   induction h with
   | nil=>intro hx;cases hx
   | cons r _ ih=>
    intro hx
    rcases List.mem_cons.1 hx with rfl | hx
    ·exact⟨_,.head _,r⟩
    ·obtain⟨y,h1,h2⟩:=ih hx;exact⟨y,.tail _ h1,h2⟩
  obtain⟨y,hy,hxy⟩:=this t hx
  have:=h1 y hy
  unfold lek at this
  rw[hxy.ck.2,r.ck.2]at this
  exact this
end
end
section
def Cs (st:St) (sz:Nat) (u:TV) (n:Nat) (xs:List TV) (bs:List Nat):Prop:=
 (n=0/\xs=[]/\bs=[]/\(u= .nilSlice∨u= .list sz .full 0 []))∨∃b cap tail,u= .ms sz b 0 n cap/\b<st.nb/\st.box b= .cells (xs++tail)/\(xs++tail).length=cap*sz/\xs.length=n*sz/\n<=cap/\bs=[b]
theorem Cs.rd {st:St} {sz n:Nat} {u:TV} {xs:List TV} {bs:List Nat} (h:Cs st sz u n xs bs):SlR st sz u n xs:=by
 rcases h with⟨rfl,rfl,rfl,rfl | rfl⟩ | ⟨b,cap,tail,rfl,h1,h2,h3,h4,h5,rfl⟩
 ·exact .inl (.inl ⟨rfl,rfl,rfl⟩)
 ·exact .inl (.inr ⟨_,rfl⟩)
 ·exact .inr ⟨b,0,cap,_,rfl,h1,h2,by omega,h5,by rw[List.drop_zero,<-h4,List.take_left]⟩
theorem Cs.frame {S:Nat->Prop} {st st':St} (e:StX S st st') {sz n:Nat} {u:TV} {xs:List TV} {bs:List Nat} (hs:∀x,x∈bs->¬S x) (h:Cs st sz u n xs bs):Cs st' sz u n xs bs:=by
 rcases h with h | ⟨b,cap,tail,rfl,h1,h2,h3,h4,h5,rfl⟩
 ·exact .inl h
 ·exact .inr ⟨b,cap,tail,rfl,Nat.lt_of_lt_of_le h1 e.nb,(e.box b h1 (hs b (.head _))).trans h2,h3,h4,h5,rfl⟩
theorem Cs.lt {st:St} {sz n:Nat} {u:TV} {xs:List TV} {bs:List Nat} (h:Cs st sz u n xs bs):∀x,x∈bs->x<st.nb:=by
 rcases h with⟨_,_,rfl,_⟩ | ⟨b,cap,tail,rfl,h1,h2,h3,h4,h5,rfl⟩
 ·intro x hx;cases hx
 ·intro x hx;rcases List.mem_singleton.1 hx with rfl;exact h1
mutual
def VlO (st:St):Vl->List TV->List Nat->Prop
 | .mk s l f,cs,fp=>∃ub ul uf xl xf bb bl bf fl ff,cs=[.int .i64 s.kind,.bool s.b,.bool s.neg,.str s.dg,.int .i64 s.ex,.int .i64 s.tk,.int .i64 s.td,.int .i64 s.tn,.int .i64 s.tz,.str s.text,ub,ul,uf]/\
   Cs st 1 ub s.bytes.length (AS s.bytes) bb/\Cs st 13 ul l.length xl bl/\VsO st l xl fl/\Cs st 14 uf f.length xf bf/\FsO st f xf ff/\fp=bb++(bl++(fl++(bf++ff)))
def VsO (st:St):List Vl->List TV->List Nat->Prop
 | [],xs,fp=>xs=[]/\fp=[]
 | v::r,xs,fp=>∃a b p q,xs=a++b/\fp=p++q/\VlO st v a p/\VsO st r b q
def FdO (st:St):Fd->List TV->List Nat->Prop
 | .mk k v,xs,fp=>∃cs,xs= .str k::cs/\VlO st v cs fp
def FsO (st:St):List Fd->List TV->List Nat->Prop
 | [],xs,fp=>xs=[]/\fp=[]
 | d::r,xs,fp=>∃a b p q,xs=a++b/\fp=p++q/\FdO st d a p/\FsO st r b q
end
mutual
theorem VlO.frame {S:Nat->Prop} {st st':St} (e:StX S st st'):∀{v:Vl} {cs:List TV} {fp:List Nat},(∀x,x∈fp->¬S x)->VlO st v cs fp->VlO st' v cs fp
 | .mk s l f,cs,fp,hs,h=>by
  unfold VlO at h⊢
  obtain⟨ub,ul,uf,xl,xf,bb,bl,bf,fl,ff,h0,h1,h2,h3,h4,h5,h6⟩:=h
  subst h6
  simp only[List.mem_append]at hs
  exact⟨ub,ul,uf,xl,xf,bb,bl,bf,fl,ff,h0,h1.frame e (fun x hx=>hs x (.inl hx)),h2.frame e (fun x hx=>hs x (.inr (.inl hx))),VsO.frame e (fun x hx=>hs x (.inr (.inr (.inl hx)))) h3,
   h4.frame e (fun x hx=>hs x (.inr (.inr (.inr (.inl hx))))),FsO.frame e (fun x hx=>hs x (.inr (.inr (.inr (.inr hx))))) h5,rfl⟩
theorem VsO.frame {S:Nat->Prop} {st st':St} (e:StX S st st'):∀{l:List Vl} {cs:List TV} {fp:List Nat},(∀x,x∈fp->¬S x)->VsO st l cs fp->VsO st' l cs fp
 | [],cs,fp,hs,h=>by unfold VsO at h⊢;exact h
 | v::r,cs,fp,hs,h=>by
  unfold VsO at h⊢
  obtain⟨a,b,p,q,h0,rfl,h1,h2⟩:=h
  simp only[List.mem_append]at hs
  exact⟨a,b,p,q,h0,rfl,VlO.frame e (fun x hx=>hs x (.inl hx)) h1,VsO.frame e (fun x hx=>hs x (.inr hx)) h2⟩
theorem FdO.frame {S:Nat->Prop} {st st':St} (e:StX S st st'):∀{d:Fd} {cs:List TV} {fp:List Nat},(∀x,x∈fp->¬S x)->FdO st d cs fp->FdO st' d cs fp
 | .mk key v,cs,fp,hs,h=>by
  unfold FdO at h⊢
  obtain⟨c,h0,h1⟩:=h
  exact⟨c,h0,VlO.frame e hs h1⟩
theorem FsO.frame {S:Nat->Prop} {st st':St} (e:StX S st st'):∀{l:List Fd} {cs:List TV} {fp:List Nat},(∀x,x∈fp->¬S x)->FsO st l cs fp->FsO st' l cs fp
 | [],cs,fp,hs,h=>by unfold FsO at h⊢;exact h
 | d::r,cs,fp,hs,h=>by
  unfold FsO at h⊢
  obtain⟨a,b,p,q,h0,rfl,h1,h2⟩:=h
  simp only[List.mem_append]at hs
  exact⟨a,b,p,q,h0,rfl,FdO.frame e (fun x hx=>hs x (.inl hx)) h1,FsO.frame e (fun x hx=>hs x (.inr hx)) h2⟩
end
theorem VsO.snoc {st:St} {v:Vl} {cv:List TV} {pv:List Nat}:∀{l:List Vl} {xs:List TV} {fp:List Nat},VsO st l xs fp->VlO st v cv pv->VsO st (l++[v]) (xs++cv) (fp++pv)
 | [],xs,fp,h,hv=>by
  unfold VsO at h
  obtain⟨rfl,rfl⟩:=h
  show VsO st [v] _ _
  unfold VsO
  exact⟨cv,[],pv,[],by simp,by simp,hv,by unfold VsO;exact⟨rfl,rfl⟩⟩
 | w::r,xs,fp,h,hv=>by
  unfold VsO at h
  obtain⟨a,b,p,q,rfl,rfl,h1,h2⟩:=h
  show VsO st (w::(r++[v])) _ _
  unfold VsO
  exact⟨a,b++cv,p,q++pv,by simp,by simp,h1,VsO.snoc h2 hv⟩
theorem FsO.snoc {st:St} {d:Fd} {cv:List TV} {pv:List Nat}:∀{l:List Fd} {xs:List TV} {fp:List Nat},FsO st l xs fp->FdO st d cv pv->FsO st (l++[d]) (xs++cv) (fp++pv)
 | [],xs,fp,h,hv=>by
  unfold FsO at h
  obtain⟨rfl,rfl⟩:=h
  show FsO st [d] _ _
  unfold FsO
  exact⟨cv,[],pv,[],by simp,by simp,hv,by unfold FsO;exact⟨rfl,rfl⟩⟩
 | w::r,xs,fp,h,hv=>by
  unfold FsO at h
  obtain⟨a,b,p,q,rfl,rfl,h1,h2⟩:=h
  show FsO st (w::(r++[d])) _ _
  unfold FsO
  exact⟨a,b++cv,p,q++pv,by simp,by simp,h1,FsO.snoc h2 hv⟩
theorem Qg (xs ys tail:List TV) (h:ys.length<=tail.length):setAll (xs++tail) xs.length ys=xs++ys++tail.drop ys.length:=by
 have e:tail=tail.take ys.length++tail.drop ys.length:=(List.take_append_drop _ _).symm
 have:=Ip ys xs (tail.take ys.length) (tail.drop ys.length) (by simp;omega)
 rw[List.append_assoc,List.take_append_drop]at this
 exact this
theorem J9 {T sz bytes:Nat} {st:St} {u:TV} {n k:Nat} {xs ys:List TV} {bs:List Nat} {K:TV->St->Prop} (h:Cs st sz u n xs bs) (hk1:0<k) (hy:ys.length=k*sz) (hby:(n+k)*bytes<=140737488355328)
  (hK:∀u' st' bs',Cs st' sz u' (n+k) (xs++ys) bs'->StX (·∈bs) st st'->((bs'=bs/\bs≠ [])∨bs'=[st.nb])->K u' st'):HV T sz bytes u k ys st K:=by
 obtain⟨m,rfl⟩:∃m,k=m+1:=⟨k-1,by omega⟩
 have fresh:∀(zs:List TV) (N cap:Nat),zs.length=N*sz->N<=cap->Cs (st.push (.cells (zs++D9 ((cap-N)*sz))) (some T)) sz (.ms sz st.nb 0 N cap) N zs [st.nb]:=fun zs N cap h1 h2=>
  .inr ⟨st.nb,cap,D9 ((cap-N)*sz),rfl,by simp[St.push],by simp[St.push],by rw[List.length_append,h1];simp only[D9,List.length_replicate];rw[<-Nat.add_mul];congr 1;omega,h1,h2,rfl⟩
 rcases h with⟨rfl,rfl,rfl,rfl | rfl⟩ | ⟨b,cap,tail,rfl,h1,h2,h3,h4,h5,rfl⟩
 ·simp only[HV,Al]
  refine⟨by simpa using hby,fun cap hc=>hK _ _ [st.nb] ?_ (StX.of ((Am.refl st).push _ _)) (.inr rfl)⟩
  have:=fresh ys (m+1) cap hy hc
  simpa using this
 ·simp only[HV,Nat.beq_refl]
  refine⟨hby,fun cap hc=>hK _ _ [st.nb] ?_ (StX.of ((Am.refl st).push _ _)) (.inr rfl)⟩
  have:=fresh ys (0+(m+1)) cap (by rw[hy];congr 1;omega) hc
  simpa using this
 ·simp only[HV,Nat.beq_refl]
  rw[List.length_append]at h3
  refine⟨hby,_,h2,by rw[List.length_append];omega,fun hc=>?_,fun hc cap' hc'=>?_⟩
  ·have hmul:(n+(m+1))*sz<=cap*sz:=Nat.mul_le_mul_right _ hc
   rw[Nat.add_mul]at hmul
   rw[Nat.zero_add,<-h4,Qg xs ys tail (by omega)]
   refine hK _ _ [b] (.inr ⟨b,cap,tail.drop ys.length,rfl,h1,by simp[St.put],by simp only[List.length_append,List.length_drop];omega,by rw[List.length_append,h4,hy,<-Nat.add_mul],hc,rfl⟩) (StX.put (S:=(·∈ [b])) (.head _) _) (.inl ⟨rfl,by simp⟩)
  ·rw[List.drop_zero,<-h4,List.take_left]
   exact hK _ _ [st.nb] (fresh (xs++ys) (n+(m+1)) cap' (by rw[List.length_append,h4,hy,<-Nat.add_mul]) hc') (StX.of ((Am.refl st).push _ _)) (.inr rfl)
end
section
mutual
def Vl.sz:Vl->Nat
 | .mk s l f=>1+s.bytes.length+s.text.length+s.dg.length+BV l+BW f
def BV:List Vl->Nat
 | []=>0
 | v::r=>v.sz+BV r
def Fd.sz:Fd->Nat
 | .mk k v=>k.length+v.sz
def BW:List Fd->Nat
 | []=>0
 | d::r=>d.sz+BW r
end
theorem Vl.sz_pos (v:Vl):1<=v.sz:=by cases v;unfold Vl.sz;omega
theorem Cw:∀l:List Vl,l.length<=BV l
 | []=>Nat.le_refl _
 | v::r=>by have:=Cw r;have:=v.sz_pos;unfold BV;simp only[List.length_cons];omega
theorem BS:∀l:List Fd,l.length<=BW l
 | []=>Nat.le_refl _
 | .mk k v::r=>by have:=BS r;have:=v.sz_pos;unfold BW Fd.sz;simp only[List.length_cons];omega
theorem F9:∀{l:List Vl} {i:Nat} {v:Vl},l[i]? =some v->v.sz<=BV l
 | [],i,v,h=>by simp at h
 | w::r,0,v,h=>by simp at h;subst h;unfold BV;omega
 | w::r,i+1,v,h=>by have:=F9 (by simpa using h:r[i]? =some v);unfold BV;omega
theorem Gn:∀{l:List Fd} {i:Nat} {d:Fd},l[i]? =some d->d.sz<=BW l
 | [],i,v,h=>by simp at h
 | w::r,0,v,h=>by simp at h;subst h;unfold BW;omega
 | w::r,i+1,v,h=>by have:=Gn (by simpa using h:r[i]? =some v);unfold BW;omega
theorem Ls {st:St} {ys:List TV}:∀(k j:Nat),j+k<=ys.length->Ai st [] (.t (.rptr ys)) j k=some ((ys.drop j).take k)
 | 0,j,h=>by simp[Ai]
 | k+1,j,h=>by
  show(match Ac st [] (.t (.rptr ys)) j with | some x=>(Ai st [] (.t (.rptr ys)) (j+1) k).map (x::·) | none=>none)=_
  have hj:j<ys.length:=by omega
  have:Ac st [] (.t (.rptr ys)) j=some ys[j]:=by simp[Ac,hj]
  rw[this]
  simp only
  rw[Ls k (j+1) (by omega),List.drop_eq_getElem_cons hj]
  rfl
theorem SlR.ldc {st:St} {sz n i:Nat} {u:TV} {xs:List TV} (h:SlR st sz u n xs) (hl:xs.length=n*sz) (hi:i<n):Ai st [] (.t (ixT sz u i)) 0 sz=some ((xs.drop (i*sz)).take sz):=by
 have hm:(i+1)*sz<=n*sz:=Nat.mul_le_mul_right _ hi
 rw[Nat.add_mul,Nat.one_mul]at hm
 rcases h with(⟨rfl,rfl,rfl⟩ | ⟨tip,rfl⟩) | ⟨b,off,cap,l,rfl,h2,h3,h4,h5,rfl⟩
 ·omega
 ·show Ai st [] (.t (.rptr (xs.drop (i*sz)))) 0 sz=_
  rw[Ls sz 0 (by rw[List.length_drop];omega),List.drop_zero]
 ·have hc:n*sz<=cap*sz:=Nat.mul_le_mul_right _ h5
  have e1:(((l.drop off).take (n*sz)).drop (i*sz)).take sz=(l.drop (off+i*sz)).take sz:=by
   rw[List.drop_take,List.drop_drop,List.take_take,Nat.min_eq_left (by omega)]
  rw[e1]
  have e:=Jf (B:=l.drop (off+i*sz+sz)) (st:=st) (b:=b) ((l.drop (off+i*sz)).take sz) l 0 (off+i*sz) h3 (by
   have:=List.take_append_drop sz (l.drop (off+i*sz))
   rw[List.drop_drop]at this
   rw[Nat.add_zero];exact this.symm)
  rw[show((l.drop (off+i*sz)).take sz).length=sz by simp;omega]at e
  exact e
theorem SlR.lenZ {st:St} {sz n:Nat} {u:TV} {xs:List TV} (h:SlR st sz u n xs):TVF.lenZ sz u=n:=by
 rcases h with(⟨rfl,rfl,rfl⟩ | ⟨tip,rfl⟩) | ⟨b,off,cap,l,rfl,h2,h3,h4,h5,rfl⟩
 ·rfl
 ·simp[TVF.lenZ]
 ·simp[TVF.lenZ]
theorem SlR.lenS {st:St} {sz n:Nat} {u:TV} {xs:List TV} (h:SlR st sz u n xs):TVF.lenS u=n:=by
 rcases h with(⟨rfl,rfl,rfl⟩ | ⟨tip,rfl⟩) | ⟨b,off,cap,l,rfl,h2,h3,h4,h5,rfl⟩<;>rfl
theorem SlR.isSl {st:St} {sz n:Nat} {u:TV} {xs:List TV} (h:SlR st sz u n xs):TVF.isSl u=true:=by
 rcases h with(⟨rfl,rfl,rfl⟩ | ⟨tip,rfl⟩) | ⟨b,off,cap,l,rfl,h2,h3,h4,h5,rfl⟩<;>rfl
theorem Cs.nil (st:St) (sz:Nat):Cs st sz .nilSlice 0 [] []:= .inl ⟨rfl,rfl,rfl,.inl rfl⟩
theorem J5 {n1:Int} {b1 b2:Bool} {s2:B8} {n2 n3 n4 n5 n6:Int} {s3:B8} {u1 u2 u3:TV} {f:Fun [.int .i64,.bool,.bool,.str,.int .i64,.int .i64,.int .i64,.int .i64,.int .i64,.str,.tv,.tv,.tv] Prop} (h:f n1 b1 b2 s2 n2 n3 n4 n5 n6 s3 u1 u2 u3):
  Bj [.int .i64,.bool,.bool,.str,.int .i64,.int .i64,.int .i64,.int .i64,.int .i64,.str,.tv,.tv,.tv] (.agg [.int .i64 n1,.bool b1,.bool b2,.str s2,.int .i64 n2,.int .i64 n3,.int .i64 n4,.int .i64 n5,.int .i64 n6,.str s3,u1,u2,u3]) f:=h
theorem Dn {n1:Int} {b1 b2:Bool} {s2:B8} {n2 n3 n4 n5 n6:Int} {s3:B8} {u1 u2 u3:TV} (h1:Au u1=true) (h2:Au u2=true) (h3:Au u3=true):
  List.all [.int .i64 n1,.bool b1,.bool b2,.str s2,.int .i64 n2,.int .i64 n3,.int .i64 n4,.int .i64 n5,.int .i64 n6,.str s3,u1,u2,u3] Au=true:=by
 simp only[List.all_cons,List.all_nil,h1,h2,h3,Bool.and_true];rfl
theorem Sz {st:St} {u:TV} {l:B8} (h:SlR st 1 u l.length (AS l)) (hl:l.length<=10000000) {K:TV->St->Prop} (hk:∀v st' bs,Cs st' 1 v l.length (AS l) bs->Am st st'->(∀x,x∈bs->st.nb<=x)->bs.Nodup->K v st'):
  CallT PR Bu [u] [.one .tv] st K:=by
 have hb1:(AS l).length=l.length*1:=by rw[FL];omega
 have hone:List.all (AS l) Au=true:=by
  rw[List.all_eq_true];intro x hx
  simp only[AS,List.mem_map]at hx
  obtain⟨y,_,rfl⟩:=hx;rfl
 refine Ej _ st K (Aa h.isSl ?_)
 cases hq:BE u with
 | true=>
  show K .nilSlice st
  have h0:l=[]:=by
   rcases h with(⟨rfl,h1,_⟩ | ⟨tip,rfl⟩) | ⟨b,off,cap,m,rfl,_⟩
   ·exact List.eq_nil_of_length_eq_zero h1
   ·cases hq
   ·cases hq
  subst h0
  exact hk _ st [] (Cs.nil _ _) (Am.refl _) (fun x hx=>by cases hx) List.nodup_nil
 | false=>
  show Aj (DA st 1 u) _
  refine Ad (h.src hb1) (Aa hone ?_)
  cases hlen:l.length with
  | zero=>
   have h0:l=[]:=List.eq_nil_of_length_eq_zero hlen
   subst h0
   simp only[HV,Nat.beq_refl]
   exact⟨by omega,hk _ st [] (.inl ⟨rfl,rfl,rfl,.inr rfl⟩) (Am.refl _) (fun x hx=>by cases hx) List.nodup_nil⟩
  | succ m=>
   refine J9 (.inl ⟨rfl,rfl,rfl,.inr rfl⟩) (by omega) (by rw[hb1,hlen]) (by omega) fun u' st' bs' ho e hbs=>?_
   rw[Nat.zero_add,List.nil_append,<-hlen]at ho
   rcases hbs with⟨_,h0⟩ | rfl
   ·exact absurd rfl h0
   ·exact hk _ st' _ ho (StX.ext (Am.refl st) e (fun i hi=>by cases hi)) (fun x hx=>by rw[List.mem_singleton.1 hx];exact Nat.le_refl _) (by simp)
end
section
mutual
theorem VlO.lt {st:St}:∀{v:Vl} {cs:List TV} {fp:List Nat},VlO st v cs fp->∀x,x∈fp->x<st.nb
 | .mk s l f,cs,fp,h=>by
  unfold VlO at h
  obtain⟨ub,ul,uf,xl,xf,bb,bl,bf,fl,ff,h0,h1,h2,h3,h4,h5,rfl⟩:=h
  intro x hx
  simp only[List.mem_append]at hx
  rcases hx with hx | hx | hx | hx | hx
  ·exact h1.lt x hx
  ·exact h2.lt x hx
  ·exact VsO.lt h3 x hx
  ·exact h4.lt x hx
  ·exact FsO.lt h5 x hx
theorem VsO.lt {st:St}:∀{l:List Vl} {cs:List TV} {fp:List Nat},VsO st l cs fp->∀x,x∈fp->x<st.nb
 | [],cs,fp,h=>by unfold VsO at h;rw[h.2];intro x hx;cases hx
 | v::r,cs,fp,h=>by
  unfold VsO at h
  obtain⟨a,b,p,q,_,rfl,h1,h2⟩:=h
  intro x hx
  rcases List.mem_append.1 hx with hx | hx
  ·exact VlO.lt h1 x hx
  ·exact VsO.lt h2 x hx
theorem FdO.lt {st:St}:∀{d:Fd} {cs:List TV} {fp:List Nat},FdO st d cs fp->∀x,x∈fp->x<st.nb
 | .mk key v,cs,fp,h=>by
  unfold FdO at h
  obtain⟨c,_,h1⟩:=h
  exact VlO.lt h1
theorem FsO.lt {st:St}:∀{l:List Fd} {cs:List TV} {fp:List Nat},FsO st l cs fp->∀x,x∈fp->x<st.nb
 | [],cs,fp,h=>by unfold FsO at h;rw[h.2];intro x hx;cases hx
 | d::r,cs,fp,h=>by
  unfold FsO at h
  obtain⟨a,b,p,q,_,rfl,h1,h2⟩:=h
  intro x hx
  rcases List.mem_append.1 hx with hx | hx
  ·exact FdO.lt h1 x hx
  ·exact FsO.lt h2 x hx
end
theorem Vl.cnt_pos (v:Vl):1<=v.cnt:=by cases v;unfold Vl.cnt;omega
theorem Jv:∀{l:List Vl} {i:Nat} {v:Vl},l[i]? =some v->v.cnt<=AB l
 | [],i,v,h=>by simp at h
 | w::r,0,v,h=>by simp at h;subst h;unfold AB;omega
 | w::r,i+1,v,h=>by have:=Jv (by simpa using h:r[i]? =some v);unfold AB;omega
theorem J1:∀{l:List Fd} {i:Nat} {d:Fd},l[i]? =some d->d.cnt<=AE l
 | [],i,v,h=>by simp at h
 | w::r,0,v,h=>by simp at h;subst h;unfold AE;omega
 | w::r,i+1,v,h=>by have:=J1 (by simpa using h:r[i]? =some v);unfold AE;omega
theorem Gf {A B:List Nat} (ha:A.Nodup) (hb:B.Nodup) (h:∀x,x∈A->x∉B):(A++B).Nodup:=
 List.nodup_append.2 ⟨ha,hb,fun x hx y hy e=>h x hx (e▸hy)⟩
structure Ow (b0:Nat) (st:St) (bl fl:List Nat):Prop where
 nd:(bl++fl).Nodup
 lo:∀x,x∈bl++fl->b0<=x
theorem Ow.nil (b0:Nat) (st:St):Ow b0 st [] []:=⟨List.nodup_nil,fun x hx=>by cases hx⟩
theorem Ow.snoc {b0 m k:Nat} {st st':St} {bl fl bs' fp:List Nat} (h:Ow b0 st bl fl) (hm:∀x,x∈bl++fl->x<m) (h0:b0<=m) (hk:∀x,x∈fp->m<=x/\x<k) (nd:fp.Nodup) (hmk:m<=k) (hb:(bs'=bl/\bl≠ [])∨bs'=[k]):Ow b0 st' bs' (fl++fp):=by
 have ndf:=(List.nodup_append.1 h.nd)
 have hfl:∀x,x∈fl->x<m:=fun x hx=>hm x (List.mem_append_right _ hx)
 have nfp:(fl++fp).Nodup:=Gf ndf.2.1 nd fun x hx hx'=>by have:=hfl x hx;have:=(hk x hx').1;omega
 rcases hb with⟨rfl,_⟩ | rfl
 ·refine⟨Gf ndf.1 nfp fun x hx hx'=>?_,fun x hx=>?_⟩
  ·rcases List.mem_append.1 hx' with hx' | hx'
   ·exact ndf.2.2 x hx x hx' rfl
   ·have:=hm x (List.mem_append_left _ hx);have:=(hk x hx').1;omega
  ·rcases List.mem_append.1 hx with hx | hx
   ·exact h.lo x (List.mem_append_left _ hx)
   ·rcases List.mem_append.1 hx with hx | hx
    ·exact h.lo x (List.mem_append_right _ hx)
    ·have:=(hk x hx).1;omega
 ·refine⟨Gf (by simp) nfp fun x hx hx'=>?_,fun x hx=>?_⟩
  ·rcases List.mem_singleton.1 hx with rfl
   rcases List.mem_append.1 hx' with hx' | hx'
   ·have:=hfl x hx';omega
   ·have:=(hk x hx').2;omega
  ·rcases List.mem_append.1 hx with hx | hx
   ·rcases List.mem_singleton.1 hx with rfl;omega
   ·rcases List.mem_append.1 hx with hx | hx
    ·exact h.lo x (List.mem_append_right _ hx)
    ·have:=(hk x hx).1;omega
theorem S8 {k:B8} {n1:Int} {b1 b2:Bool} {s2:B8} {n2 n3 n4 n5 n6:Int} {s3:B8} {u1 u2 u3:TV} (h1:Au u1=true) (h2:Au u2=true) (h3:Au u3=true):
  List.all [.str k,.int .i64 n1,.bool b1,.bool b2,.str s2,.int .i64 n2,.int .i64 n3,.int .i64 n4,.int .i64 n5,.int .i64 n6,.str s3,u1,u2,u3] Au=true:=by
 simp only[List.all_cons,List.all_nil,h1,h2,h3,Bool.and_true];rfl
def AJ (s:Sc) (ub ul uf:TV):List TV:=[.int .i64 s.kind,.bool s.b,.bool s.neg,.str s.dg,.int .i64 s.ex,.int .i64 s.tk,.int .i64 s.td,.int .i64 s.tn,.int .i64 s.tz,.str s.text,ub,ul,uf]
theorem Sv:∀(N:Nat) (v:Vl),v.sz<=N->N<=2000000->∀{st:St} {cs:List TV} {L:Int} {K:Int->Bool->Bool->B8->Int->Int->Int->Int->Int->B8->TV->TV->TV->St->Prop},VlR st v cs->(v.cnt:Int)<=L->L<=100000000->
  (∀ub ul uf st' fp,VlO st' v (AJ v.sc ub ul uf) fp->Au ub=true->Au ul=true->Au uf=true->fp.Nodup->(∀x,x∈fp->st.nb<=x)->Am st st'->K v.sc.kind v.sc.b v.sc.neg v.sc.dg v.sc.ex v.sc.tk v.sc.td v.sc.tn v.sc.tz v.sc.text ub ul uf st')->
  CallT PR Cd [.agg cs,.int .i64 L] [.agg [.int .i64,.bool,.bool,.str,.int .i64,.int .i64,.int .i64,.int .i64,.int .i64,.str,.tv,.tv,.tv]] st K:=by
 intro N
 induction N with
 | zero=>intro v h;have:=v.sz_pos;omega
 | succ N ih=>
 intro v hN hN2 st cs L K h hL hL2 hk
 cases v with
 | mk s l f=>
 have hsz:(Vl.mk s l f).sz=1+s.bytes.length+s.text.length+s.dg.length+BV l+BW f:=by unfold Vl.sz;rfl
 have hct:(Vl.mk s l f).cnt=1+AB l+AE f:=by unfold Vl.cnt;rfl
 have hll:=Cw l
 have hfl:=BS f
 unfold VlR at h
 obtain⟨ub,ul,uf,xl,xf,rfl,h1,h2,h3,h4,h5⟩:=h
 have hxl:=h3.len
 have hxf:=h5.len
 refine Kt _ _ _ _ _ _ _ _ _ _ _ _ _ L st K (Sz h1 (by omega) fun v1 st1 bb ho e1 lo1 nd1=>Aa (by rw[List.all_cons,ho.rd.one];rfl) (Ab (fun g=>absurd g (by omega)) fun _=>Aa h2.isSl ?_))
 refine⟨fun l1 n1 left u n2 a1 a2 a3 a4 a5 a6 a7 a8 a9 a10 a11 a12 a13 _ _ _ _ _ _ _ _ _ _ _ _ _ st'=>L=left/\ul=u/\(l.length:Int)=n2/\s.kind=a1/\s.b=a2/\s.neg=a3/\s.dg=a4/\s.ex=a5/\s.tk=a6/\s.td=a7/\s.tn=a8/\s.tz=a9/\s.text=a10/\v1=a11/\uf=a13/\
   ∃(k:Nat) (ys:List TV) (bl fp:List Nat),n1=(k:Int)/\k<=l.length/\Cs st' 13 l1 k ys bl/\VsO st' (l.take k) ys fp/\Ow st1.nb st' bl fp/\Am st1 st',
  fun _ n1 _ _ _ _ _ _ _ _ _ _ _ _ _ _ _ _ _ _ _ _ _ _ _ _ _ _ _ _ _ _=>(l.length-n1).toNat,⟨rfl,rfl,by rw[h2.lenS],rfl,rfl,rfl,rfl,rfl,rfl,rfl,rfl,rfl,rfl,rfl,rfl,0,[],[],[],rfl,Nat.zero_le _,Cs.nil _ _,by simp only[List.take_zero];unfold VsO;exact⟨rfl,rfl⟩,Ow.nil _ _,Am.refl _⟩,?_⟩
 rintro l1 _ _ _ _ _ _ _ _ _ _ _ _ _ _ _ v3 _ _ _ _ _ _ _ _ _ _ _ _ _ _ st2 ⟨rfl,rfl,rfl,rfl,rfl,rfl,rfl,rfl,rfl,rfl,rfl,rfl,rfl,rfl,rfl,k,ys,bl,fp,rfl,hkl,hol,hvs,hgr,e2⟩
 have e12:=e1.trans e2
 refine Ab (fun g=>?_) fun g=>?_
 ·have hkl2:k<l.length:=by omega
  have h2':=h2.keep e12.keeps
  have h3':=h3.keep e12.keeps
  have gw:l[k]? =some l[k]:=List.getElem?_eq_getElem hkl2
  obtain⟨cw,hw,hcw,hcl⟩:=h3'.get gw
  have hwsz:=F9 gw
  have hwct:=Jv gw
  have hwc1:=(l[k]).cnt_pos
  generalize l[k]=w at*
  have hld:(Ai st2 [] (.t (ixT 13 ul (Int.toNat (k:Int)))) 0 13).map TV.agg=some (.agg cw):=by
   rw[Int.toNat_natCast,h2'.ldc hxl hkl2,hcw];rfl
  rw[h2'.lenZ]
  have hw0:=hw
  cases w with
  | mk s' l' f'=>
  unfold VlR at hw0
  obtain⟨ub',ul',uf',xl',xf',rfl,w1,w2,w3,w4,w5⟩:=hw0
  refine⟨⟨by omega,by omega⟩,Ad hld (J5 (Aa (Dn w1.one w2.one w4.one) ?_))⟩
  rw[Ah _ (by omega) (by omega)]
  refine ih _ (by omega) (by omega) hw (by omega) (by omega) fun ub2 ul2 uf2 st3 fp2 ho2 o1 o2 o3 nd2 lo2 e3=>Aa (Dn o1 o2 o3) ?_
  have hol3:=hol.frame (StX.of (S:=fun _=>False) e3) (fun _ _ h=>h)
  have hvs3:=hvs.frame (StX.of (S:=fun _=>False) e3) (fun _ _ h=>h)
  refine J9 hol3 (by omega) rfl (by omega) fun u' st4 bs' ho4 e4 hbs=>?_
  have hm:∀x,x∈bl++fp->x<st2.nb:=fun x hx=>(List.mem_append.1 hx).elim (hol.lt x) (hvs.lt x)
  have hlt2:=ho2.lt
  have hnd:=List.nodup_append.1 hgr.nd
  have e14:Am st1 st4:=StX.ext (e2.trans e3) e4 fun i hi=>hgr.lo i (List.mem_append_left _ hi)
  have hvs4:VsO st4 (l.take (k+1)) (ys++AJ s' ub2 ul2 uf2) (fp++fp2):=by
   have t1:l.take (k+1)=l.take k++[.mk s' l' f']:=by
    have:=(List.getElem?_eq_some_iff.1 gw)
    obtain⟨q1,q2⟩:=this
    rw[List.take_succ_eq_append_getElem q1,q2]
   rw[t1]
   exact VsO.snoc (hvs3.frame e4 fun x hx hx'=>hnd.2.2 x hx' x hx rfl) (ho2.frame e4 fun x hx hx'=>by have:=lo2 x hx;have:=hol.lt x hx';omega)
  exact⟨⟨rfl,rfl,rfl,rfl,rfl,rfl,rfl,rfl,rfl,rfl,rfl,rfl,rfl,rfl,rfl,k+1,_,bs',fp++fp2,by rw[Ah _ (by omega) (by omega)];omega,by omega,ho4,hvs4,hgr.snoc hm e2.nb (fun x hx=>⟨lo2 x hx,hlt2 x hx⟩) nd2 e3.nb hbs,e14⟩,by dsimp only;rw[Ah _ (by omega) (by omega)];omega⟩
 ·have hk:k=l.length:=by omega
  subst hk
  rw[List.take_length]at hvs
  have hm:∀x,x∈bl++fp->x<st2.nb:=fun x hx=>(List.mem_append.1 hx).elim (hol.lt x) (hvs.lt x)
  refine Aa h4.isSl ?_
  refine⟨fun f1 n1 left l2 u n2 a1 a2 a3 a4 a5 a6 a7 a8 a9 a10 a11 a12 a13 _ _ _ _ _ _ _ _ _ _ _ _ _ st'=>L=left/\l1=l2/\uf=u/\(f.length:Int)=n2/\s.kind=a1/\s.b=a2/\s.neg=a3/\s.dg=a4/\s.ex=a5/\s.tk=a6/\s.td=a7/\s.tn=a8/\s.tz=a9/\s.text=a10/\v1=a11/\
    ∃(k:Nat) (zs:List TV) (bf ff:List Nat),n1=(k:Int)/\k<=f.length/\Cs st' 14 f1 k zs bf/\FsO st' (f.take k) zs ff/\Ow st2.nb st' bf ff/\Am st2 st',
   fun _ n1 _ _ _ _ _ _ _ _ _ _ _ _ _ _ _ _ _ _ _ _ _ _ _ _ _ _ _ _ _ _ _=>(f.length-n1).toNat,⟨rfl,rfl,rfl,by rw[h4.lenS],rfl,rfl,rfl,rfl,rfl,rfl,rfl,rfl,rfl,rfl,rfl,0,[],[],[],rfl,Nat.zero_le _,Cs.nil _ _,by simp only[List.take_zero];unfold FsO;exact⟨rfl,rfl⟩,Ow.nil _ _,Am.refl _⟩,?_⟩
  rintro f1 _ _ _ _ _ _ _ _ _ _ _ _ _ _ _ _ _ _ _ _ _ _ _ _ _ _ _ _ _ _ _ st5 ⟨rfl,rfl,rfl,rfl,rfl,rfl,rfl,rfl,rfl,rfl,rfl,rfl,rfl,rfl,rfl,k,zs,bf,ff,rfl,hkf,hof,hfs,hgf,e5⟩
  have e15:=e12.trans e5
  refine Ab (fun g=>?_) fun g=>?_
  ·have hkf2:k<f.length:=by omega
   have h4':=h4.keep e15.keeps
   have h5':=h5.keep e15.keeps
   have gw:f[k]? =some f[k]:=List.getElem?_eq_getElem hkf2
   obtain⟨cw,hw,hcw,hcl⟩:=h5'.get gw
   have hwsz:=Gn gw
   have hwct:=J1 gw
   generalize f[k]=w at*
   have hld:(Ai st5 [] (.t (ixT 14 uf (Int.toNat (k:Int)))) 0 14).map TV.agg=some (.agg cw):=by
    rw[Int.toNat_natCast,h4'.ldc hxf hkf2,hcw];rfl
   rw[h4'.lenZ]
   cases w with
   | mk key w=>
   unfold FdR at hw
   obtain⟨cw2,rfl,hw⟩:=hw
   have hwk:(Fd.mk key w).sz=key.length+w.sz:=by unfold Fd.sz;rfl
   have hwk2:(Fd.mk key w).cnt=w.cnt:=by unfold Fd.cnt;rfl
   have hwc1:=w.cnt_pos
   have hw0:=hw
   cases w with
   | mk s' l' f'=>
   unfold VlR at hw0
   obtain⟨ub',ul',uf',xl',xf',rfl,w1,w2,w3,w4,w5⟩:=hw0
   refine⟨⟨by omega,by omega⟩,Ad hld (Hy (Aa (S8 w1.one w2.one w4.one) ?_))⟩
   rw[Ah _ (by omega) (by omega)]
   refine ih _ (by omega) (by omega) hw (by omega) (by omega) fun ub2 ul2 uf2 st6 fp2 ho2 o1 o2 o3 nd2 lo2 e6=>Aa (S8 o1 o2 o3) ?_
   have hof6:=hof.frame (StX.of (S:=fun _=>False) e6) (fun _ _ h=>h)
   have hfs6:=hfs.frame (StX.of (S:=fun _=>False) e6) (fun _ _ h=>h)
   refine J9 hof6 (by omega) rfl (by omega) fun u' st7 bs' ho7 e7 hbs=>?_
   have hm5:∀x,x∈bf++ff->x<st5.nb:=fun x hx=>(List.mem_append.1 hx).elim (hof.lt x) (hfs.lt x)
   have hlt2:=ho2.lt
   have hnd:=List.nodup_append.1 hgf.nd
   have e27:Am st2 st7:=StX.ext (e5.trans e6) e7 fun i hi=>hgf.lo i (List.mem_append_left _ hi)
   have hd7:FdO st7 (.mk key (.mk s' l' f')) (.str key::AJ s' ub2 ul2 uf2) fp2:=by
    unfold FdO
    exact⟨_,rfl,ho2.frame e7 fun x hx hx'=>by have:=lo2 x hx;have:=hof.lt x hx';omega⟩
   have hfs7:FsO st7 (f.take (k+1)) (zs++ .str key::AJ s' ub2 ul2 uf2) (ff++fp2):=by
    have t1:f.take (k+1)=f.take k++[.mk key (.mk s' l' f')]:=by
     obtain⟨q1,q2⟩:=List.getElem?_eq_some_iff.1 gw
     rw[List.take_succ_eq_append_getElem q1,q2]
    rw[t1]
    exact FsO.snoc (hfs6.frame e7 fun x hx hx'=>hnd.2.2 x hx' x hx rfl) hd7
   exact⟨⟨rfl,rfl,rfl,rfl,rfl,rfl,rfl,rfl,rfl,rfl,rfl,rfl,rfl,rfl,rfl,k+1,_,bs',ff++fp2,by rw[Ah _ (by omega) (by omega)];omega,by omega,ho7,hfs7,hgf.snoc hm5 e5.nb (fun x hx=>⟨lo2 x hx,hlt2 x hx⟩) nd2 e6.nb hbs,e27⟩,by dsimp only;rw[Ah _ (by omega) (by omega)];omega⟩
  ·have hk2:k=f.length:=by omega
   subst hk2
   rw[List.take_length]at hfs
   have ho5:=ho.frame (StX.of (S:=fun _=>False) (e2.trans e5)) (fun _ _ h=>h)
   have hol5:=hol.frame (StX.of (S:=fun _=>False) e5) (fun _ _ h=>h)
   have hvs5:=hvs.frame (StX.of (S:=fun _=>False) e5) (fun _ _ h=>h)
   have hb1:=ho.lt
   have e1n:=e1.nb
   have e2n:=e2.nb
   refine Aa (by rw[List.all_cons,hol.rd.one];rfl) (Aa (by rw[List.all_cons,hof.rd.one];rfl) (Aa (Dn ho.rd.one hol.rd.one hof.rd.one) ?_))
   refine hk v1 l1 f1 st5 (bb++(bl++(fp++(bf++ff)))) (by unfold VlO;exact⟨v1,l1,f1,ys,zs,bb,bl,bf,fp,ff,rfl,ho5,hol5,hvs5,hof,hfs,rfl⟩) ho.rd.one hol.rd.one hof.rd.one ?_ ?_ e15
   ·have e:bl++(fp++(bf++ff))=(bl++fp)++(bf++ff):=by simp
    rw[e]
    refine Gf nd1 (Gf hgr.nd hgf.nd fun x hx hx'=>?_) fun x hx hx'=>?_
    ·have:=hm x hx;have:=hgf.lo x hx';omega
    ·have:=hb1 x hx
     rcases List.mem_append.1 hx' with hx' | hx'
     ·have:=hgr.lo x hx';omega
     ·have:=hgf.lo x hx';omega
   ·intro x hx
    have e:bb++(bl++(fp++(bf++ff)))=bb++((bl++fp)++(bf++ff)):=by simp
    rw[e]at hx
    rcases List.mem_append.1 hx with hx | hx
    ·exact lo1 x hx
    ·rcases List.mem_append.1 hx with hx | hx
     ·have:=hgr.lo x hx;omega
     ·have:=hgf.lo x hx;omega
end
section
theorem Rp:∀x y:B8,Op.bytesLess x y=false->Op.bytesLess y x=false->x=y
 | [],[],_,_=>rfl
 | [],b::y,h,_=>by cases h
 | a::x,[],_,h=>by cases h
 | a::x,b::y,h1,h2=>by
  simp only[Op.bytesLess,Bool.or_eq_false_iff,Bool.and_eq_false_iff,decide_eq_false_iff_not,beq_eq_false_iff_ne,UInt8.not_lt]at h1 h2
  have hab:a=b:=UInt8.le_antisymm h2.1 h1.1
  subst hab
  rw[Rp x y (h1.2.resolve_left fun h=>h rfl) (h2.2.resolve_left fun h=>h rfl)]
def IB (d:Fd):List Fd->List Fd
 | []=>[d]
 | x::r=>match Op.bytesLess d.key x.key with
  | true=>d::x::r
  | false=>x::IB d r
def Ek (f:List Fd):List Fd:=f.foldl (fun out d=>IB d out) []
theorem JX (d:Fd):∀l:List Fd,(IB d l).Perm (d::l)
 | []=>List.Perm.refl _
 | x::r=>by
  unfold IB
  split
  ·exact List.Perm.refl _
  ·exact((JX d r).cons x).trans (List.Perm.swap _ _ _)
theorem Tw {d x:Fd} {l:List Fd} (h:x∈IB d l):x=d∨x∈l:=by
 have:=(JX d l).mem_iff.1 h
 exact List.mem_cons.1 this
theorem Pn (d:Fd):∀l:List Fd,MB l->MB (IB d l)
 | [],_=>List.pairwise_singleton _ _
 | x::r,h=>by
  obtain⟨h1,h2⟩:=List.pairwise_cons.1 h
  unfold IB
  split
  ·rename_i hl
   refine List.pairwise_cons.2 ⟨fun y hy=>?_,h⟩
   have hx:=Iz _ _ hl
   rcases List.mem_cons.1 hy with rfl | hy
   ·exact hx
   ·exact E3 _ _ _ hx (h1 y hy)
  ·rename_i hl
   refine List.pairwise_cons.2 ⟨fun y hy=>?_,Pn d r h2⟩
   rcases Tw hy with rfl | hy
   ·exact hl
   ·exact h1 y hy
theorem Rw (f:List Fd):∀out:List Fd,MB out->MB (f.foldl (fun out d=>IB d out) out)/\(f.foldl (fun out d=>IB d out) out).Perm (out++f):=by
 induction f with
 | nil=>intro out h;exact⟨h,by simp⟩
 | cons d f ih=>
  intro out h
  obtain⟨h1,h2⟩:=ih (IB d out) (Pn d out h)
  refine⟨h1,h2.trans ?_⟩
  refine((JX d out).append_right f).trans ?_
  simp only[List.cons_append]
  exact(List.perm_middle).symm
theorem Qc (f:List Fd):MB (Ek f):=(Rw f [] List.Pairwise.nil).1
theorem Fq (f:List Fd):(Ek f).Perm f:=by
 have:=(Rw f [] List.Pairwise.nil).2
 rw[List.nil_append]at this
 exact this
def Et (f:List Fd):Prop:=(f.map Fd.key).Nodup
theorem key_inj {f:List Fd} (h:Et f) {x y:Fd} (hx:x∈f) (hy:y∈f) (e:x.key=y.key):x=y:=by
 induction f with
 | nil=>cases hx
 | cons d f ih=>
  unfold Et at h
  rw[List.map_cons,List.nodup_cons]at h
  rcases List.mem_cons.1 hx with h1 | h1<;>rcases List.mem_cons.1 hy with h2 | h2
  ·rw[h1,h2]
  ·exact absurd (by rw[<-h1,e];exact List.mem_map_of_mem h2) h.1
  ·exact absurd (by rw[<-h2,<-e];exact List.mem_map_of_mem h1) h.1
  ·exact ih h.2 h1 h2
theorem OR:∀{l m:List Fd},Et l->MB l->MB m->l.Perm m->l=m
 | [],m,_,_,_,p=>(List.Perm.nil_eq p)
 | x::l,[],_,_,_,p=>by have:=p.length_eq;simp at this
 | x::l,y::m,hk,hl,hm,p=>by
  obtain⟨l1,l2⟩:=List.pairwise_cons.1 hl
  obtain⟨m1,m2⟩:=List.pairwise_cons.1 hm
  have hxy:x=y:=by
   have hy:y∈x::l:=p.mem_iff.2 (.head _)
   have hx:x∈y::m:=p.mem_iff.1 (.head _)
   refine key_inj hk (.head _) hy (Rp _ _ ?_ ?_)
   ·rcases List.mem_cons.1 hx with rfl | hx
    ·exact Fx _
    ·exact m1 x hx
   ·rcases List.mem_cons.1 hy with rfl | hy
    ·exact Fx _
    ·exact l1 y hy
  subst hxy
  unfold Et at hk
  rw[List.map_cons,List.nodup_cons]at hk
  rw[OR hk.2 l2 m2 (List.Perm.cons_inv p)]
theorem RU {f f':List Fd} (hk:Et f) (p:f'.Perm f) (s:MB f'):f'=Ek f:=
 OR (((p.map Fd.key).nodup_iff).2 hk) s (Qc f) (p.trans (Fq f).symm)
mutual
def MI:Vl->Vl
 | .mk s l f=> .mk s (K4 l) (Ek (K5 f))
def K4:List Vl->List Vl
 | []=>[]
 | v::r=>MI v::K4 r
def MK:Fd->Fd
 | .mk k v=> .mk k (MI v)
def K5:List Fd->List Fd
 | []=>[]
 | d::r=>MK d::K5 r
end
theorem MJ (d:Fd):(MK d).key=d.key:=by cases d;rfl
theorem Il:∀f:List Fd,K5 f=f.map MK
 | []=>by unfold K5;rfl
 | d::r=>by unfold K5;rw[Il r];rfl
theorem Ik:∀l:List Vl,K4 l=l.map MI
 | []=>by unfold K4;rfl
 | d::r=>by unfold K4;rw[Ik r];rfl
theorem Po {g:Fd->Fd} (hg:∀d,(g d).key=d.key) (d:Fd):∀l:List Fd,IB (g d) (l.map g)=(IB d l).map g
 | []=>rfl
 | x::r=>by
  rw[List.map_cons]
  unfold IB
  rw[hg,hg]
  cases Op.bytesLess d.key x.key with
  | true=>rfl
  | false=>simp only[List.map_cons];rw[Po hg d r]
theorem K6 {g:Fd->Fd} (hg:∀d,(g d).key=d.key) (f:List Fd):Ek (f.map g)=(Ek f).map g:=by
 have key:∀(f out:List Fd),(f.map g).foldl (fun out d=>IB d out) (out.map g)=(f.foldl (fun out d=>IB d out) out).map g:=by
  intro f
  induction f with
  | nil=>intro out;rfl
  | cons d f ih=>intro out;simp only[List.map_cons,List.foldl_cons];rw[Po hg,ih]
 exact key f []
end
section
theorem Eh.map_left {α β γ:Type} {R:α->γ->Prop} {S:β->γ->Prop} {g:α->β} (h:∀a c,R a c->S (g a) c) {l:List α} {m:List γ} (hl:Eh R l m):Eh S (l.map g) m:=by
 induction hl with
 | nil=>exact .nil
 | cons r _ ih=>exact .cons (h _ _ r) ih
section
variable {st:St}
theorem Qb {α:Type} {g:α->Fd} {R:α->List TV->Prop} {la:List α} {cks0:List (List TV)} (hR:∀a c,R a c->FdR st (g a) c) (hall0:Eh R la cks0) {s:Sc} {ub ul uf:TV} {f:List Fd} {xf:List TV} (hfe:f=la.map g) (hxe:xf=cks0.flatten) (hu:SlR st 14 uf f.length xf) (hn:f.length<=2000000) {K:TV->St->Prop}
  (hk:∀v st' (la':List α) (cks:List (List TV)) bs,la'.Perm la->MB (la'.map g)->Am st st'->Cs st' 14 v la'.length cks.flatten bs->Eh R la' cks->bs.Nodup->(∀x,x∈bs->st.nb<=x)->K v st'):
  CallT PR Cc [.agg [.int .i64 s.kind,.bool s.b,.bool s.neg,.str s.dg,.int .i64 s.ex,.int .i64 s.tk,.int .i64 s.td,.int .i64 s.tn,.int .i64 s.tz,.str s.text,ub,ul,uf]] [.one .tv] st K:=by
 have hall1:Eh (FdR st) f cks0:=hfe▸Eh.map_left hR hall0
 have hf:FsR st f xf:=hxe▸FsR.of_chunks hall1
 have hl:=hf.len
 have hlal:la.length=f.length:=by rw[hfe,List.length_map]
 have hsl:isSl uf=true:=by rcases hu with(⟨rfl,_⟩ | ⟨tip,rfl⟩) | ⟨b,off,cap,l,rfl,_⟩<;>rfl
 refine Kq _ _ _ _ _ _ _ _ _ _ _ _ _ st K (Cy _ st _ (Aa hsl ?_))
 have empty:∀v,f=[]->isSl v=true->lenS v=0->(v= .nilSlice∨v= .list 14 .full 0 [])->CallT PR AA [v,.func Cq []] [] st fun st2=>K v st2:=by
  intro v h0 h1 h2 h3
  refine A6 _ _ st _ (Aa h1 ?_)
  rw[h2]
  refine NI ?_
  have hla:la=[]:=List.eq_nil_of_length_eq_zero (by rw[hlal,h0];rfl)
  refine hk v st [] [] [] (by rw[hla]) List.Pairwise.nil (Am.refl _) (.inl ⟨rfl,rfl,rfl,?_⟩) .nil List.nodup_nil (fun x hx=>by cases hx)
  exact h3
 have hb:∀(X Y:Prop),(BE uf=true->X)->(BE uf=false->Y)->BIf (BE uf) X Y:=by
  intro X Y h1 h2
  cases hq:BE uf with
  | true=>exact h1 hq
  | false=>exact h2 hq
 refine hb _ _ (fun h=>?_) fun h=>?_
 ·have h0:f=[]:=by
   rcases hu with(⟨rfl,h1,_⟩ | ⟨tip,rfl⟩) | ⟨b,off,cap,l,rfl,_⟩
   ·exact List.eq_nil_of_length_eq_zero h1
   ·cases h
   ·cases h
  exact empty _ h0 rfl rfl (.inl rfl)
 ·refine Ad (hu.src hl) (Aa hf.all_one ?_)
  simp only[HV,Nat.beq_refl]
  refine⟨by omega,?_⟩
  cases hlen:f.length with
  | zero=>
   have h0:f=[]:=List.eq_nil_of_length_eq_zero hlen
   exact empty _ h0 rfl rfl (.inr rfl)
  | succ m=>
   intro cap hcap
   subst hxe
   obtain⟨cks,hcke⟩:∃cks,cks=cks0:=⟨_,rfl⟩
   subst hcke
   have hall:=hall1
   have hcl:=hall.len
   obtain⟨st1,hst1⟩:∃st1,st1=st.push (.cells ([]++cks.flatten++D9 ((cap-(0+(m+1)))*14))) (some tyField):=⟨_,rfl⟩
   rw[<-hst1]
   have e1:Am st st1:=hst1▸(Am.refl st).push _ _
   have hbx:BxF st1 st.nb (0+(m+1)) cap cks:=by
    refine⟨by rw[hst1];simp[St.push],by omega,by omega,hall.cks,D9 ((cap-(0+(m+1)))*14),by rw[hst1];simp[St.push],?_⟩
    rw[List.length_append,hl]
    simp only[D9,List.length_replicate]
    rw[<-Nat.add_mul];congr 1;omega
   refine Mn OS hbx (by omega) fun st2 W pw sw hb2 e2=>?_
   have e12:Am st st2:=StX.ext e1 e2 (fun i hi=>by rw[hi];exact Nat.le_refl _)
   obtain⟨la',pla,hall'⟩:=hall0.perm pw
   have hlal':la'.length=0+(m+1):=by rw[pla.length_eq,hlal,hlen];omega
   obtain⟨tail,hbox,hbl⟩:=hb2.box
   have hWl:W.flatten.length=la'.length*14:=by rw[Pv hb2.ck,hb2.len,hlal']
   have hallF:Eh (FdR st) (la'.map g) W:=Eh.map_left hR hall'
   rw[<-hlal']
   exact hk _ st2 la' W [st.nb] pla (srtF_of hallF sw) e12 (.inr ⟨st.nb,cap,tail,rfl,hb2.lt,hbox,hbl,hWl,by rw[hlal'];exact hb2.le,rfl⟩) hall' (by simp) (fun x hx=>by rw[List.mem_singleton.1 hx];exact Nat.le_refl _)
end
end
section
theorem Eh.snoc {α β:Type} {R:α->β->Prop} {a:α} {b:β} {l:List α} {m:List β} (h:Eh R l m) (r:R a b):Eh R (l++[a]) (m++[b]):=by
 induction h with
 | nil=>exact .cons r .nil
 | cons r' _ ih=>exact .cons r' ih
mutual
def KNd:Vl->Prop
 | .mk _ l f=>SJ l/\Et f/\SK f
def SJ:List Vl->Prop
 | []=>True
 | v::r=>KNd v/\SJ r
def KNdD:Fd->Prop
 | .mk _ v=>KNd v
def SK:List Fd->Prop
 | []=>True
 | d::r=>KNdD d/\SK r
end
theorem SJ.mem:∀{l:List Vl} {v:Vl},SJ l->v∈l->KNd v
 | [],v,_,h=>by cases h
 | w::r,v,hk,h=>by
  unfold SJ at hk
  rcases List.mem_cons.1 h with rfl | h
  ·exact hk.1
  ·exact SJ.mem hk.2 h
theorem SK.mem:∀{l:List Fd} {v:Fd},SK l->v∈l->KNdD v
 | [],v,_,h=>by cases h
 | w::r,v,hk,h=>by
  unfold SK at hk
  rcases List.mem_cons.1 h with rfl | h
  ·exact hk.1
  ·exact SK.mem hk.2 h
theorem IK {l:List Vl} {v:Vl} (h:v∈l):v.sz<=BV l:=by
 obtain⟨i,hi⟩:=List.getElem?_of_mem h
 exact F9 hi
theorem Hu {l:List Fd} {v:Fd} (h:v∈l):v.sz<=BW l:=by
 obtain⟨i,hi⟩:=List.getElem?_of_mem h
 exact Gn hi
end
theorem copy_ok {v:Vl} (hN:v.sz<=2000000) (hC:v.cnt<=65536) {st:St} {cs:List TV} {K:Int->Bool->Bool->B8->Int->Int->Int->Int->Int->B8->TV->TV->TV->St->Prop} (h:VlR st v cs)
  (hk:∀ub ul uf st' fp,VlO st' v (AJ v.sc ub ul uf) fp->Au ub=true->Au ul=true->Au uf=true->fp.Nodup->(∀x,x∈fp->st.nb<=x)->Am st st'->K v.sc.kind v.sc.b v.sc.neg v.sc.dg v.sc.ex v.sc.tk v.sc.td v.sc.tn v.sc.tz v.sc.text ub ul uf st'):
  CallT PR Da [.agg cs] [.agg [.int .i64,.bool,.bool,.str,.int .i64,.int .i64,.int .i64,.int .i64,.int .i64,.str,.tv,.tv,.tv]] st K:=by
 have h0:=h
 cases v with
 | mk s l f=>
 unfold VlR at h0
 obtain⟨ub,ul,uf,xl,xf,rfl,_⟩:=h0
 exact Me _ _ _ _ _ _ _ _ _ _ _ _ _ st K (Sv 2000000 _ hN (by omega) h (by omega) (by omega) fun ub ul uf st' fp g o1 o2 o3 nd lo e=>Aa (Dn o1 o2 o3) (hk ub ul uf st' fp g o1 o2 o3 nd lo e))
theorem Rj (n:Nat) (h:n<256):n.toUInt8.toNat=n:=by simp;omega
theorem Oc {st0 st:St} {ul:TV} {xl:List TV} {l:List Vl} (hke:Bo st0 st) (h2:SlR st0 13 ul l.length xl) (h3:VsR st0 l xl) {i:Int} {k:Nat} (hi:i=k) (hk:k<l.length) {f:Fun [.int .i64,.bool,.bool,.str,.int .i64,.int .i64,.int .i64,.int .i64,.int .i64,.str,.tv,.tv,.tv] Prop}
  (hf:∀s' l' f' ub1 ul1 uf1,l[k]? =some (.mk s' l' f')->VlR st0 (.mk s' l' f') (AJ s' ub1 ul1 uf1)->List.all (AJ s' ub1 ul1 uf1) Au=true->f s'.kind s'.b s'.neg s'.dg s'.ex s'.tk s'.td s'.tn s'.tz s'.text ub1 ul1 uf1):
  (0<=i/\i<(lenZ 13 ul:Int))/\Aj ((Ai st [] (.t (ixT 13 ul (Int.toNat i))) 0 13).map TV.agg) fun x=>Bj [.int .i64,.bool,.bool,.str,.int .i64,.int .i64,.int .i64,.int .i64,.int .i64,.str,.tv,.tv,.tv] x f:=by
 subst hi
 have gw:l[k]? =some l[k]:=List.getElem?_eq_getElem hk
 obtain⟨cw,hw,hcw,hcl⟩:=h3.get gw
 rw[h2.lenZ,Int.toNat_natCast,(h2.keep hke).ldc h3.len hk,hcw]
 generalize l[k]=w at*
 cases w with
 | mk s' l' f'=>
 have hw0:=hw
 unfold VlR at hw0
 obtain⟨ub',ul',uf',xl',xf',rfl,w1,w2,w3,w4,w5⟩:=hw0
 exact⟨⟨by omega,by omega⟩,Ad rfl (J5 (hf s' l' f' ub' ul' uf' gw hw (Dn w1.one w2.one w4.one)))⟩
theorem Sm {st0 st:St} {uf:TV} {xf:List TV} {l:List Fd} (hke:Bo st0 st) (h2:SlR st0 14 uf l.length xf) (h3:FsR st0 l xf) {i:Int} {k:Nat} (hi:i=k) (hk:k<l.length) {f:Fun [.str,.int .i64,.bool,.bool,.str,.int .i64,.int .i64,.int .i64,.int .i64,.int .i64,.str,.tv,.tv,.tv] Prop}
  (hf:∀key s' l' f' ub1 ul1 uf1,l[k]? =some (.mk key (.mk s' l' f'))->VlR st0 (.mk s' l' f') (AJ s' ub1 ul1 uf1)->List.all (.str key::AJ s' ub1 ul1 uf1) Au=true->f key s'.kind s'.b s'.neg s'.dg s'.ex s'.tk s'.td s'.tn s'.tz s'.text ub1 ul1 uf1):
  (0<=i/\i<(lenZ 14 uf:Int))/\Aj ((Ai st [] (.t (ixT 14 uf (Int.toNat i))) 0 14).map TV.agg) fun x=>Bj [.str,.int .i64,.bool,.bool,.str,.int .i64,.int .i64,.int .i64,.int .i64,.int .i64,.str,.tv,.tv,.tv] x f:=by
 subst hi
 have gw:l[k]? =some l[k]:=List.getElem?_eq_getElem hk
 obtain⟨cw,hw,hcw,hcl⟩:=h3.get gw
 rw[h2.lenZ,Int.toNat_natCast,(h2.keep hke).ldc h3.len hk,hcw]
 generalize l[k]=w at*
 cases w with
 | mk key w=>
 cases w with
 | mk s' l' f'=>
 have hw0:=hw
 unfold FdR at hw0
 obtain⟨cw2,rfl,hw1⟩:=hw0
 have hw2:=hw1
 unfold VlR at hw2
 obtain⟨ub',ul',uf',xl',xf',rfl,w1,w2,w3,w4,w5⟩:=hw2
 exact⟨⟨by omega,by omega⟩,Ad rfl (Hy (hf key s' l' f' ub' ul' uf' gw hw1 (S8 w1.one w2.one w4.one)))⟩
theorem DG {α:Type} {l:List α} {k:Nat} {v:α} (h:l[k]? =some v):l.take (k+1)=l.take k++[v]:=by
 obtain⟨q1,q2⟩:=List.getElem?_eq_some_iff.1 h
 rw[List.take_succ_eq_append_getElem q1,q2]
theorem DK {α:Type} {l:List α} {k:Nat} {v:α} (h:l[k]? =some v):v∈l:=by
 obtain⟨q1,q2⟩:=List.getElem?_eq_some_iff.1 h
 rw[<-q2];exact List.getElem_mem q1
end Go.TVF
section
namespace Go.TVF
open Go.IntKind(i64 u8)
open Go
theorem or_i64 (x y:Nat) (hx:x<2^63) (hy:y<2^63):AL .or .i64 (x:Int) (y:Int)=((x ||| y:Nat):Int):=by
 have h:x ||| y<2^63:=Nat.or_lt_two_pow hx hy
 show IntKind.wrap .i64 ((BitVec.ofInt 64 (x:Int) ||| BitVec.ofInt 64 (y:Int)).toNat:Int)=_
 simp only[BitVec.ofInt_natCast,BitVec.toNat_or,BitVec.toNat_ofNat]
 rw[Nat.mod_eq_of_lt (by omega),Nat.mod_eq_of_lt (by omega),Ah _ (by omega) (by omega)]
theorem and_i64 (x y:Nat) (hx:x<2^63) (hy:y<2^63):AL .and .i64 (x:Int) (y:Int)=((x&&&y:Nat):Int):=by
 have h:x&&&y<2^63:=Nat.and_lt_two_pow _ hy
 show IntKind.wrap .i64 ((BitVec.ofInt 64 (x:Int)&&&BitVec.ofInt 64 (y:Int)).toNat:Int)=_
 simp only[BitVec.ofInt_natCast,BitVec.toNat_and,BitVec.toNat_ofNat]
 rw[Nat.mod_eq_of_lt (by omega),Nat.mod_eq_of_lt (by omega),Ah _ (by omega) (by omega)]
theorem Ub (x y:Nat) (hx:x<2^8) (hy:y<2^8):AL .and .u8 (x:Int) (y:Int)=((x&&&y:Nat):Int):=by
 have h:x&&&y<2^8:=Nat.and_lt_two_pow _ hy
 show IntKind.wrap .u8 ((BitVec.ofInt 8 (x:Int)&&&BitVec.ofInt 8 (y:Int)).toNat:Int)=_
 simp only[BitVec.ofInt_natCast,BitVec.toNat_and,BitVec.toNat_ofNat]
 rw[Nat.mod_eq_of_lt (by omega),Nat.mod_eq_of_lt (by omega),wrapU8 _ (by omega) (by omega)]
theorem Qp (a b m:Nat) (hb:b<2^m) (h:a*2^m+b<2^63):AL .or .i64 ((a*2^m:Nat):Int) (b:Int)=((a*2^m+b:Nat):Int):=by
 have hb':b<2^63:=by omega
 rw[or_i64 _ _ (by omega) hb',Nat.mul_comm a,Nat.two_pow_add_eq_or_of_lt hb]
theorem HB (a m:Nat) (ha:a<2^63) (hm:m<63):AL .and .i64 (a:Int) ((2^m-1:Nat):Int)=((a%2^m:Nat):Int):=by
 have:2^m<2^63:=Nat.pow_lt_pow_right (by decide) hm
 rw[and_i64 _ _ ha (by omega),Nat.and_two_pow_sub_one_eq_mod]
theorem SM (n:Nat) (h:n<=255):IntKind.wrap .i64 (n:Int)=n:=Ah _ (by omega) (by omega)
theorem Gm {α:Type} (l:List α) (i:Nat) (d:α) (h:i<l.length):l.take (i+1)=l.take i++[l.getD i d]:=by
 rw[List.take_add_one,List.getElem?_eq_getElem h,List.getD,List.getElem?_eq_getElem h];rfl
theorem shr_i64 (x m:Nat) (h:m<=64):Int.fdiv (x:Int) (2^(min m (IntKind.bits .i64)))=((x/2^m:Nat):Int):=by
 rw[show min m (IntKind.bits .i64)=m from Nat.min_eq_left h,show(2:Int)^m=((2^m:Nat):Int) by simp,Int.fdiv_eq_ediv_of_nonneg _ (Int.natCast_nonneg _)]
 rfl
theorem Sf {α:Type} (l:List α) (i j:Nat) (d:α):(l.drop i).getD j d=l.getD (i+j) d:=by
 simp[List.getD,List.getElem?_drop]
theorem Mk {α:Type} (l:List α) (i j:Nat):(l.take j).drop i=(l.drop i).take (j-i):=by
 rw[List.drop_take]
def bt (l:B8) (i:Nat):Nat:=(l.getD i 0).toNat
theorem Ev (l:B8) (i:Nat):bt l i<256:=(l.getD i 0).toNat_lt
theorem Om (l:B8) (i j:Nat):bt (l.drop i) j=bt l (i+j):=by simp[bt,Sf]
def dN (l:B8):Nat×Nat:=Lib.decodeN l.length (bt l 0) (bt l 1) (bt l 2) (bt l 3)
def ul (l:B8):Nat:=if l=[]∨dN l=(65533,1)then 0 else(dN l).2
def ur (l:B8):Nat:=(dN l).1
def AZ (r:Nat):Prop:=r<=1114111/\(r<55296∨57343<r)
instance (r:Nat):Decidable (AZ r):=by unfold AZ;infer_instance
def E9 (r:Nat):B8:=
 if r<128 then [UInt8.ofNat r]else if r<2048 then [UInt8.ofNat (192+r/64),UInt8.ofNat (128+r%64)]
 else if r<65536 then [UInt8.ofNat (224+r/4096),UInt8.ofNat (128+r/64%64),UInt8.ofNat (128+r%64)]
 else [UInt8.ofNat (240+r/262144),UInt8.ofNat (128+r/4096%64),UInt8.ofNat (128+r/64%64),UInt8.ofNat (128+r%64)]
theorem Cz (n:Nat) (c:UInt8):UInt8.ofNat n=c↔n%256=c.toNat:=by
 rw[<-UInt8.toNat_inj];simp
theorem IT (l:B8) (h:1<=l.length):l.take 1=[l.getD 0 0]:=by
 rw[Gm l 0 0 (by omega)];rfl
theorem IS (l:B8) (h:2<=l.length):l.take 2=[l.getD 0 0,l.getD 1 0]:=by
 rw[Gm l 1 0 (by omega),IT l (by omega)];rfl
theorem GA (l:B8) (h:3<=l.length):l.take 3=[l.getD 0 0,l.getD 1 0,l.getD 2 0]:=by
 rw[Gm l 2 0 (by omega),IS l (by omega)];rfl
theorem JE (l:B8) (h:4<=l.length):l.take 4=[l.getD 0 0,l.getD 1 0,l.getD 2 0,l.getD 3 0]:=by
 rw[Gm l 3 0 (by omega),GA l (by omega)];rfl
def rsz (b0:Nat):Nat:=if 240<=b0 then 4 else if 224<=b0 then 3 else if 192<=b0 then 2 else 1
def rb0 (b0:Nat):Nat:=if 240<=b0 then b0%8 else if 224<=b0 then b0%16 else if 192<=b0 then b0%32 else b0
def Cb (l:B8) (r0:Nat):Nat->Nat
 | 0=>r0
 | j+1=>Cb l r0 j*64+bt l (j+1)%64
theorem NT (l:B8) (r0:Nat) (h:r0<256):∀j,Cb l r0 j<256*64^j
 | 0=>by simpa [Cb]using h
 | j+1=>by
  have:=NT l r0 h j
  have h2:=Nat.mod_lt (bt l (j+1)) (show 0<64 by omega)
  simp only[Cb,Nat.pow_succ]
  omega
theorem rb0_lt (b0:Nat) (h:b0<256):rb0 b0<256:=by
 unfold rb0
 repeat' split
 all_goals omega
theorem SU (b0:Nat):1<=rsz b0/\rsz b0<=4:=by
 unfold rsz
 repeat' split
 all_goals omega
def R4 (l:B8):Nat×Nat:=
 let size:=rsz (bt l 0)
 let r:=Cb l (rb0 (bt l 0)) (size-1)
 if l.length<size then(0,0)else if AZ r/\E9 r=l.take size then(r,size)else(0,0)
theorem CG {a b:UInt8} {x y:B8}:(a::x=b::y)↔a=b/\x=y:=by simp
set_option maxHeartbeats 4000000 in
theorem KE (l:B8) (h:l≠ []):R4 l=if ul l=0 then(0,0)else(ur l,ul l):=by
 have hl:1<=l.length:=by cases l with | nil=>exact absurd rfl h | cons a r=>simp
 have h0:=Ev l 0
 have h1:=Ev l 1
 have h2:=Ev l 2
 have h3:=Ev l 3
 have e0:(l.getD 0 0).toNat=bt l 0:=rfl
 have e1:(l.getD 1 0).toNat=bt l 1:=rfl
 have e2:(l.getD 2 0).toNat=bt l 2:=rfl
 have e3:(l.getD 3 0).toNat=bt l 3:=rfl
 have hul:ul l=if dN l=(65533,1)then 0 else(dN l).2:=by simp[ul,h]
 rw[hul,ur]
 unfold dN
 generalize hb0:bt l 0=b0 at*
 generalize hb1:bt l 1=b1 at*
 generalize hb2:bt l 2=b2 at*
 generalize hb3:bt l 3=b3 at*
 unfold R4
 simp only[hb0]
 by_cases c4:240<=b0
 ·have r4:rsz b0=4:=by unfold rsz;rw[if_pos c4]
  have rb:rb0 b0=b0%8:=by unfold rb0;rw[if_pos c4]
  rw[r4,rb]
  simp only[Nat.reduceSub,Cb,hb1,hb2,hb3,Nat.zero_add,Nat.reduceAdd]
  by_cases hn:l.length<4
  ·rw[if_pos hn]
   have:Lib.decodeN l.length b0 b1 b2 b3=(65533,1):=by
    unfold Lib.decodeN
    rw[if_neg (by omega),if_neg (by omega),if_neg (by omega),if_neg (by omega)]
   rw[this];simp
  ·rw[if_neg hn]
   have hEnc:(AZ (((b0%8*64+b1%64)*64+b2%64)*64+b3%64)/\E9 (((b0%8*64+b1%64)*64+b2%64)*64+b3%64)=l.take 4)↔(b0/8=30/\b1/64=2/\b2/64=2/\b3/64=2/\65536<=((b0%8*64+b1%64)*64+b2%64)*64+b3%64/\((b0%8*64+b1%64)*64+b2%64)*64+b3%64<=1114111):=by
    rw[JE l (by omega)]
    generalize hr:((b0%8*64+b1%64)*64+b2%64)*64+b3%64=r
    unfold AZ E9
    by_cases k1:r<128
    ·rw[if_pos k1];simp;omega
    ·rw[if_neg k1]
     by_cases k2:r<2048
     ·rw[if_pos k2];simp;omega
     ·rw[if_neg k2]
      by_cases k3:r<65536
      ·rw[if_pos k3];simp;omega
      ·rw[if_neg k3]
       simp only[CG,Cz,e0,e1,e2,e3,and_true]
       omega
   by_cases hE:b0/8=30/\b1/64=2/\b2/64=2/\b3/64=2/\65536<=((b0%8*64+b1%64)*64+b2%64)*64+b3%64/\((b0%8*64+b1%64)*64+b2%64)*64+b3%64<=1114111
   ·rw[if_pos (hEnc.2 hE)]
    have:Lib.decodeN l.length b0 b1 b2 b3=(((b0%8*64+b1%64)*64+b2%64)*64+b3%64,4):=by
     unfold Lib.decodeN
     rw[if_neg (by omega),if_neg (by omega),if_neg (by omega),if_pos (by omega),if_pos (by omega)]
     simp only[Prod.mk.injEq,and_true];omega
    rw[this];simp
   ·rw[if_neg (fun hh=>hE (hEnc.1 hh))]
    have:Lib.decodeN l.length b0 b1 b2 b3=(65533,1):=by
     unfold Lib.decodeN
     rw[if_neg (by omega),if_neg (by omega),if_neg (by omega)]
     split
     ·rw[if_neg (by omega)]
     ·rfl
    rw[this];simp
 ·by_cases c3:224<=b0
  ·have r4:rsz b0=3:=by unfold rsz;rw[if_neg c4,if_pos c3]
   have rb:rb0 b0=b0%16:=by unfold rb0;rw[if_neg c4,if_pos c3]
   rw[r4,rb]
   simp only[Nat.reduceSub,Cb,hb1,hb2,Nat.zero_add,Nat.reduceAdd]
   by_cases hn:l.length<3
   ·rw[if_pos hn]
    have:Lib.decodeN l.length b0 b1 b2 b3=(65533,1):=by
     unfold Lib.decodeN
     rw[if_neg (by omega),if_neg (by omega),if_neg (by omega),if_neg (by omega)]
    rw[this];simp
   ·rw[if_neg hn]
    have hEnc:(AZ ((b0%16*64+b1%64)*64+b2%64)/\E9 ((b0%16*64+b1%64)*64+b2%64)=l.take 3)↔(b1/64=2/\b2/64=2/\2048<=(b0%16*64+b1%64)*64+b2%64/\AZ ((b0%16*64+b1%64)*64+b2%64)):=by
     rw[GA l (by omega)]
     generalize hr:(b0%16*64+b1%64)*64+b2%64=r
     unfold AZ E9
     by_cases k1:r<128
     ·rw[if_pos k1];simp;omega
     ·rw[if_neg k1]
      by_cases k2:r<2048
      ·rw[if_pos k2];simp;omega
      ·rw[if_neg k2]
       by_cases k3:r<65536
       ·rw[if_pos k3]
        simp only[CG,Cz,e0,e1,e2,and_true]
        omega
       ·omega
    by_cases hE:b1/64=2/\b2/64=2/\2048<=(b0%16*64+b1%64)*64+b2%64/\AZ ((b0%16*64+b1%64)*64+b2%64)
    ·rw[if_pos (hEnc.2 hE)]
     have:Lib.decodeN l.length b0 b1 b2 b3=((b0%16*64+b1%64)*64+b2%64,3):=by
      unfold AZ at hE
      unfold Lib.decodeN
      rw[if_neg (by omega),if_neg (by omega),if_pos (by omega),if_pos (by omega)]
      simp only[Prod.mk.injEq,and_true];omega
     rw[this];simp
    ·rw[if_neg (fun hh=>hE (hEnc.1 hh))]
     have:Lib.decodeN l.length b0 b1 b2 b3=(65533,1):=by
      unfold AZ at hE
      unfold Lib.decodeN
      rw[if_neg (by omega),if_neg (by omega)]
      split
      ·rw[if_neg (by omega)]
      ·rw[if_neg (by omega)]
     rw[this];simp
  ·by_cases c2:192<=b0
   ·have r4:rsz b0=2:=by unfold rsz;rw[if_neg c4,if_neg c3,if_pos c2]
    have rb:rb0 b0=b0%32:=by unfold rb0;rw[if_neg c4,if_neg c3,if_pos c2]
    rw[r4,rb]
    simp only[Nat.reduceSub,Cb,hb1,Nat.zero_add,Nat.reduceAdd]
    by_cases hn:l.length<2
    ·rw[if_pos hn]
     have:Lib.decodeN l.length b0 b1 b2 b3=(65533,1):=by
      unfold Lib.decodeN
      rw[if_neg (by omega),if_neg (by omega),if_neg (by omega),if_neg (by omega)]
     rw[this];simp
    ·rw[if_neg hn]
     have hEnc:(AZ (b0%32*64+b1%64)/\E9 (b0%32*64+b1%64)=l.take 2)↔(b1/64=2/\128<=b0%32*64+b1%64):=by
      rw[IS l (by omega)]
      generalize hr:b0%32*64+b1%64=r
      unfold AZ E9
      by_cases k1:r<128
      ·rw[if_pos k1];simp;omega
      ·rw[if_neg k1,if_pos (by omega)]
       simp only[CG,Cz,e0,e1,and_true]
       omega
     by_cases hE:b1/64=2/\128<=b0%32*64+b1%64
     ·rw[if_pos (hEnc.2 hE)]
      have:Lib.decodeN l.length b0 b1 b2 b3=(b0%32*64+b1%64,2):=by
       unfold Lib.decodeN
       rw[if_neg (by omega),if_pos (by omega),if_pos (by omega)]
      rw[this];simp
     ·rw[if_neg (fun hh=>hE (hEnc.1 hh))]
      have:Lib.decodeN l.length b0 b1 b2 b3=(65533,1):=by
       unfold Lib.decodeN
       rw[if_neg (by omega)]
       split
       ·rw[if_neg (by omega)]
       ·rw[if_neg (by omega),if_neg (by omega)]
      rw[this];simp
   ·have r4:rsz b0=1:=by unfold rsz;rw[if_neg c4,if_neg c3,if_neg c2]
    have rb:rb0 b0=b0:=by unfold rb0;rw[if_neg c4,if_neg c3,if_neg c2]
    rw[r4,rb]
    simp only[Nat.reduceSub,Cb]
    rw[if_neg (by omega),IT l hl]
    have hEnc:(AZ b0/\E9 b0=[l.getD 0 0])↔b0<128:=by
     unfold AZ E9
     by_cases k1:b0<128
     ·rw[if_pos k1];simp only[CG,Cz,e0,and_true];omega
     ·rw[if_neg k1,if_pos (by omega)];simp;omega
    by_cases hE:b0<128
    ·rw[if_pos (hEnc.2 hE)]
     have:Lib.decodeN l.length b0 b1 b2 b3=(b0,1):=by unfold Lib.decodeN;rw[if_pos hE]
     rw[this,if_neg (by simp;omega)]
     simp only[Prod.mk.injEq]
     rw[if_neg (by omega)]
     simp
    ·rw[if_neg (fun hh=>hE (hEnc.1 hh))]
     have:Lib.decodeN l.length b0 b1 b2 b3=(65533,1):=by
      unfold Lib.decodeN
      rw[if_neg (by omega),if_neg (by omega),if_neg (by omega),if_neg (by omega)]
     rw[this];simp
theorem ul_char (l:B8) (h:ul l≠0):AZ (ur l)/\E9 (ur l)=l.take (ul l)/\ul l<=l.length/\ul l<=4:=by
 have hne:l≠ []:=fun h0=>h (by simp[ul,h0])
 have e:=KE l hne
 rw[if_neg h]at e
 unfold R4 at e
 simp only at e
 split at e
 ·simp only[Prod.mk.injEq]at e;omega
 ·split at e
  ·rename_i hn hc
   simp only[Prod.mk.injEq]at e
   rw[<-e.1,<-e.2]
   exact⟨hc.1,hc.2,by omega,(SU _).2⟩
  ·simp only[Prod.mk.injEq]at e;omega
theorem OI (l:B8):ul l<=l.length:=by
 by_cases h:ul l=0
 ·omega
 ·exact(ul_char l h).2.2.1
theorem SP (l:B8) (h:l≠ []) (hb:bt l 0<128):ul l=1/\ur l=bt l 0:=by
 have:dN l=(bt l 0,1):=by unfold dN Lib.decodeN;rw[if_pos hb]
 unfold ul ur
 rw[this,if_neg (by simp[h];omega)]
 exact⟨rfl,rfl⟩
theorem NA (l:B8) (h:l≠ []):ul l=0↔dN l=(65533,1):=by
 have hul:ul l=if dN l=(65533,1)then 0 else(dN l).2:=by simp[ul,h]
 rw[hul]
 constructor
 ·intro h0
  by_cases hd:dN l=(65533,1)
  ·exact hd
  ·rw[if_neg hd]at h0
   exfalso
   unfold dN Lib.decodeN at h0
   repeat' split at h0
   all_goals simp at h0
 ·intro h0;rw[if_pos h0]
theorem TU (l:B8) (h:ul l≠0):dN l=(ur l,ul l):=by
 have hne:l≠ []:=fun h0=>h (by simp[ul,h0])
 have hul:ul l=if dN l=(65533,1)then 0 else(dN l).2:=by simp[ul,hne]
 have hd:dN l≠(65533,1):=fun hd=>h ((NA l hne).2 hd)
 rw[if_neg hd]at hul
 rw[hul];rfl
theorem ul_not (l:B8) (h:ul l≠0):¬(ur l=65533/\ul l=1):=by
 intro hh
 have hne:l≠ []:=fun h0=>h (by simp[ul,h0])
 have:=TU l h
 rw[hh.1,hh.2]at this
 exact h ((NA l hne).2 this)
def C0 (l:B8):Nat:=if h:ul l=0 then 0 else ul l+C0 (l.drop (ul l))
termination_by l.length
decreasing_by
 have:=OI l
 simp only[List.length_drop];omega
theorem BO (l:B8) (h:ul l=0):C0 l=0:=by rw[C0,dif_pos h]
theorem Ga (l:B8) (h:ul l≠0):C0 l=ul l+C0 (l.drop (ul l)):=by rw[C0,dif_neg h]
theorem Ra:∀(n:Nat) (l:B8),l.length<=n->C0 l<=l.length
 | 0,l,h=>by
  have:l=[]:=List.eq_nil_of_length_eq_zero (by omega)
  subst this
  rw[BO _ (by simp[ul])];simp
 | n+1,l,h=>by
  by_cases h0:ul l=0
  ·rw[BO l h0];omega
  ·have h1:=OI l
   have h2:=Ra n (l.drop (ul l)) (by simp only[List.length_drop];omega)
   rw[Ga l h0]
   simp only[List.length_drop]at h2;omega
end Go.TVF
end
namespace Go.TVF
open Go.IntKind(i64 u8)
open Go Go.Proofs
def N3 (c:UInt8):Prop:=48<=c.toNat/\c.toNat<=57
instance (c:UInt8):Decidable (N3 c):=inferInstanceAs (Decidable (_/\_))
def Jt (l:B8):Nat:=(l.reverse.takeWhile (·==48)).length
def Eg (neg:Bool) (dg:B8) (ex:Int):Prop:=
 (dg=[]->neg=false/\ex=0)/\(dg≠ []->dg.length<=120/\(∀c,c∈dg->N3 c)/\dg.getD 0 0≠48/\Jt dg=0/\ -400<=ex/\ex<=400)
instance (neg:Bool) (dg:B8) (ex:Int):Decidable (Eg neg dg ex):=inferInstanceAs (Decidable ((_->_)/\(_->_)))
def FY (k d n z:Int):Prop:=
 1<=k/\k<=4/\0<=d/\d<=3652058/\0<=n/\n<=86399999999999/\ -1439<=z/\z<=1439/\(k=2->d=0)/\(k=1->n=0)/\(k≠4->z=0)
instance (k d n z:Int):Decidable (FY k d n z):=inferInstanceAs (Decidable (_/\_/\_/\_/\_/\_/\_/\_/\(_->_)/\(_->_)/\(_->_)))
def leapY (y:Nat):Prop:=y%4=0/\(y%100≠0∨y%400=0)
instance (y:Nat):Decidable (leapY y):=inferInstanceAs (Decidable (_/\_))
section
structure L5 (s:Sc) (l:List Vl) (f:List Fd):Prop where
 k0:0<=s.kind
 k7:s.kind<=7
 bo:s.kind≠1->s.b=false
 nu:s.kind≠2->s.neg=false/\s.dg=[]/\s.ex=0
 ti:s.kind≠3->s.tk=0/\s.td=0/\s.tn=0/\s.tz=0
 tx:s.kind≠4->s.text=[]
 by_:s.kind≠5->s.bytes=[]
 ls:s.kind≠6->l=[]
 fs:s.kind≠7->f=[]
noncomputable instance (s:Sc) (l:List Vl) (f:List Fd):Decidable (L5 s l f):=Classical.propDecidable _
def U8 (s:B8):Prop:=C0 s=s.length
instance (s:B8):Decidable (U8 s):=inferInstanceAs (Decidable (_=_))
def C9 (seen:List B8):List Fd->Nat
 | []=>0
 | d::r=>if U8 d.key then(if 1024<d.key.length then 10 else if d.key∈seen then 8 else C9 (d.key::seen) r)else 5
noncomputable def EZ (s:Sc) (l:List Vl) (f:List Fd):Nat:=
 if L5 s l f then(if Eg s.neg s.dg s.ex then(if s.kind=3->FY s.tk s.td s.tn s.tz then(if U8 s.text then(if 65536<s.text.length then 10 else if 65536<s.bytes.length then 10 else C9 [] f)else 5)else 2)else 2)else 6
noncomputable def GX (x:Nat×Nat) (f:Nat->Nat×Nat):Nat×Nat:=if x.2=0 then f x.1 else x
mutual
noncomputable def Cv (d n:Nat):Vl->Nat×Nat
 | .mk s l f=>if 48<d then(n,9)else if 65536<=n then(n,10)else if EZ s l f≠0 then(n,EZ s l f)else GX (Cg (d+1) (n+1) l) fun m=>B2 (d+1) m f
noncomputable def Cg (d n:Nat):List Vl->Nat×Nat
 | []=>(n,0)
 | v::r=>GX (Cv d n v) fun m=>Cg d m r
noncomputable def Jr (d n:Nat):Fd->Nat×Nat
 | .mk _ v=>Cv d n v
noncomputable def B2 (d n:Nat):List Fd->Nat×Nat
 | []=>(n,0)
 | x::r=>GX (Jr d n x) fun m=>B2 d m r
end
noncomputable def A9 (v:Vl):Nat:=(Cv 1 0 v).2
theorem Bs {x:Nat×Nat} {f:Nat->Nat×Nat} (h:(GX x f).2=0):x.2=0/\(f x.1).2=0:=by
 unfold GX at h
 split at h
 ·rename_i h0;exact⟨h0,h⟩
 ·rename_i h0;exact absurd h h0
theorem Ca {x:Nat×Nat} {f:Nat->Nat×Nat} (h:x.2=0):GX x f=f x.1:=by unfold GX;rw[if_pos h]
theorem JD {x:Nat×Nat} {f:Nat->Nat×Nat} (h:x.2≠0):GX x f=x:=by unfold GX;rw[if_neg h]
theorem Pl:∀(f:List Fd) (seen:List B8),C9 seen f=0->Et f/\(∀d,d∈f->d.key∉seen/\U8 d.key/\d.key.length<=1024)
 | [],seen,_=>⟨List.nodup_nil,fun d h=>by cases h⟩
 | d::r,seen,h=>by
  unfold C9 at h
  split at h
  ·rename_i h1
   split at h
   ·cases h
   ·rename_i h2
    split at h
    ·cases h
    ·rename_i h3
     obtain⟨k1,k2⟩:=Pl r (d.key::seen) h
     refine⟨?_,fun x hx=>?_⟩
     ·unfold Et
      rw[List.map_cons,List.nodup_cons]
      refine⟨fun hm=>?_,k1⟩
      obtain⟨x,hx,he⟩:=List.mem_map.1 hm
      exact(k2 x hx).1 (he▸.head _)
     ·rcases List.mem_cons.1 hx with rfl | hx
      ·exact⟨h3,h1,by omega⟩
      ·obtain⟨q1,q2,q3⟩:=k2 x hx
       exact⟨fun hm=>q1 (.tail _ hm),q2,q3⟩
  ·cases h
structure Nr (s:Sc) (l:List Vl) (f:List Fd):Prop where
 own:L5 s l f
 dec:Eg s.neg s.dg s.ex
 time:s.kind=3->FY s.tk s.td s.tn s.tz
 text:U8 s.text
 tlen:s.text.length<=65536
 blen:s.bytes.length<=65536
 keys:C9 [] f=0
theorem MO {s:Sc} {l:List Vl} {f:List Fd}:EZ s l f=0↔Nr s l f:=by
 unfold EZ
 constructor
 ·intro h
  split at h
  ·rename_i h1
   split at h
   ·rename_i h2
    split at h
    ·rename_i h3
     split at h
     ·rename_i h4
      split at h
      ·cases h
      ·rename_i h5
       split at h
       ·cases h
       ·rename_i h6
        exact⟨h1,h2,h3,h4,by omega,by omega,h⟩
     ·cases h
    ·cases h
   ·cases h
  ·cases h
 ·intro h
  rw[if_pos h.own,if_pos h.dec,if_pos h.time,if_pos h.text,if_neg (by have:=h.tlen;omega),if_neg (by have:=h.blen;omega)]
  exact h.keys
mutual
def AX:Vl->Prop
 | .mk s l f=>Nr s l f/\B3 l/\B4 f
def B3:List Vl->Prop
 | []=>True
 | v::r=>AX v/\B3 r
def GW:Fd->Prop
 | .mk _ v=>AX v
def B4:List Fd->Prop
 | []=>True
 | d::r=>GW d/\B4 r
end
mutual
theorem Og:∀(v:Vl) (d n:Nat),(Cv d n v).2=0->AX v
 | .mk s l f,d,n,h=>by
  unfold Cv at h
  unfold AX
  split at h
  ·cases h
  ·split at h
   ·cases h
   ·split at h
    ·rename_i h1;exact absurd h h1
    ·rename_i h1
     obtain⟨h2,h3⟩:=Bs h
     exact⟨MO.1 (Decidable.of_not_not h1),PH l _ _ h2,PM f _ _ h3⟩
theorem PH:∀(l:List Vl) (d n:Nat),(Cg d n l).2=0->B3 l
 | [],d,n,_=>by unfold B3;trivial
 | v::r,d,n,h=>by
  unfold Cg at h
  unfold B3
  obtain⟨h2,h3⟩:=Bs h
  exact⟨Og v _ _ h2,PH r _ _ h3⟩
theorem chkD_ok:∀(x:Fd) (d n:Nat),(Jr d n x).2=0->GW x
 | .mk k v,d,n,h=>by unfold Jr at h;unfold GW;exact Og v _ _ h
theorem PM:∀(l:List Fd) (d n:Nat),(B2 d n l).2=0->B4 l
 | [],d,n,_=>by unfold B4;trivial
 | x::r,d,n,h=>by
  unfold B2 at h
  unfold B4
  obtain⟨h2,h3⟩:=Bs h
  exact⟨chkD_ok x _ _ h2,PM r _ _ h3⟩
end
end
theorem SlR.isPtr {st:St} {sz n i:Nat} {u:TV} {xs:List TV} (h:SlR st sz u n xs) (hi:i<n):TVF.isPtr (ixT sz u i)=true:=by
 rcases h with(⟨rfl,rfl,rfl⟩ | ⟨tip,rfl⟩) | ⟨b,off,cap,l,rfl,_⟩
 ·omega
 ·rfl
 ·rfl
theorem SlR.ldcf {st:St} {sz n i f m:Nat} {u:TV} {xs:List TV} (h:SlR st sz u n xs) (hl:xs.length=n*sz) (hi:i<n) (hf:f+m<=sz):Ai st [] (.t (Az (ixT sz u i) f)) 0 m=some ((xs.drop (i*sz+f)).take m):=by
 have hm:(i+1)*sz<=n*sz:=Nat.mul_le_mul_right _ hi
 rw[Nat.add_mul,Nat.one_mul]at hm
 rcases h with(⟨rfl,rfl,rfl⟩ | ⟨tip,rfl⟩) | ⟨b,off,cap,l,rfl,h2,h3,h4,h5,rfl⟩
 ·omega
 ·show Ai st [] (.t (.rptr ((xs.drop (i*sz)).drop f))) 0 m=_
  rw[List.drop_drop,Ls m 0 (by rw[List.length_drop];omega),List.drop_zero]
 ·have hc:n*sz<=cap*sz:=Nat.mul_le_mul_right _ h5
  have e1:(((l.drop off).take (n*sz)).drop (i*sz+f)).take m=(l.drop (off+i*sz+f)).take m:=by
   rw[List.drop_take,List.drop_drop,List.take_take,Nat.min_eq_left (by omega),Nat.add_assoc]
  rw[e1]
  have e:=Jf (B:=l.drop (off+i*sz+f+m)) (st:=st) (b:=b) ((l.drop (off+i*sz+f)).take m) l 0 (off+i*sz+f) h3 (by
   have:=List.take_append_drop m (l.drop (off+i*sz+f))
   rw[List.drop_drop]at this
   rw[Nat.add_zero];exact this.symm)
  rw[show((l.drop (off+i*sz+f)).take m).length=m by simp;omega]at e
  exact e
theorem SlR.ldf {st:St} {sz n i f:Nat} {u x:TV} {xs:List TV} (h:SlR st sz u n xs) (hl:xs.length=n*sz) (hi:i<n) (hf:f<sz) (hx:xs[i*sz+f]? =some x):Ac st [] (.t (Az (ixT sz u i) f)) 0=some x:=by
 have:=h.ldcf (f:=f) (m:=1) hl hi (by omega)
 have hlt:i*sz+f<xs.length:=by
  obtain⟨q,_⟩:=List.getElem?_eq_some_iff.1 hx
  exact q
 rw[List.drop_eq_getElem_cons hlt]at this
 rw[List.getElem?_eq_getElem hlt]at hx
 simp only[Ai,List.take_succ_cons,List.take_zero]at this
 cases hq:Ac st [] (.t (Az (ixT sz u i) f)) 0 with
 | none=>rw[hq]at this;cases this
 | some y=>
  rw[hq]at this
  simp only[Option.map_some,Option.some.injEq,List.cons.injEq,and_true]at this
  rw[this];exact hx
theorem key14 {st0 st:St} {uf:TV} {xf:List TV} {l:List Fd} (hke:Bo st0 st) (h2:SlR st0 14 uf l.length xf) (h3:FsR st0 l xf) {i:Int} {k:Nat} (hi:i=k) {d:Fd} (hd:l[k]? =some d) {f:B8->Prop} (hf:f d.key):
  (0<=i/\i<(lenZ 14 uf:Int))/\need (TVF.isPtr (ixT 14 uf (Int.toNat i))) (Aj (Ac st [] (.t (Az (ixT 14 uf (Int.toNat i)) 0)) 0) fun x=>AQ .str x f):=by
 subst hi
 obtain⟨hk,_⟩:=List.getElem?_eq_some_iff.1 hd
 obtain⟨cw,hw,hcw,hcl⟩:=h3.get hd
 rw[h2.lenZ,Int.toNat_natCast]
 have hx:xf[k*14+0]? =some (.str d.key):=by
  cases d with
  | mk key w=>
   unfold FdR at hw
   obtain⟨cs,rfl,_⟩:=hw
   have:=congrArg (fun z=>z[0]?) hcw
   simpa [Fd.key]using this
 exact⟨⟨by omega,by omega⟩,Aa (h2.isPtr hk) (Ad ((h2.keep hke).ldf h3.len hk (by omega) hx) hf)⟩
theorem Rc {st0 st:St} {uf:TV} {xf:List TV} {l:List Fd} (hke:Bo st0 st) (h2:SlR st0 14 uf l.length xf) (h3:FsR st0 l xf) {i:Int} {k:Nat} (hi:i=k) (hk:k<l.length) {f:Fun [.int .i64,.bool,.bool,.str,.int .i64,.int .i64,.int .i64,.int .i64,.int .i64,.str,.tv,.tv,.tv] Prop}
  (hf:∀key s' l' f' ub1 ul1 uf1,l[k]? =some (.mk key (.mk s' l' f'))->VlR st0 (.mk s' l' f') (AJ s' ub1 ul1 uf1)->List.all (AJ s' ub1 ul1 uf1) Au=true->f s'.kind s'.b s'.neg s'.dg s'.ex s'.tk s'.td s'.tn s'.tz s'.text ub1 ul1 uf1):
  (0<=i/\i<(lenZ 14 uf:Int))/\need (TVF.isPtr (ixT 14 uf (Int.toNat i))) (Aj ((Ai st [] (.t (Az (ixT 14 uf (Int.toNat i)) 1)) 0 13).map TV.agg) fun x=>Bj [.int .i64,.bool,.bool,.str,.int .i64,.int .i64,.int .i64,.int .i64,.int .i64,.str,.tv,.tv,.tv] x f):=by
 subst hi
 have gw:l[k]? =some l[k]:=List.getElem?_eq_getElem hk
 obtain⟨cw,hw,hcw,hcl⟩:=h3.get gw
 rw[h2.lenZ,Int.toNat_natCast]
 refine⟨⟨by omega,by omega⟩,Aa (h2.isPtr hk) ?_⟩
 rw[(h2.keep hke).ldcf (f:=1) (m:=13) h3.len hk (by omega)]
 generalize l[k]=w at*
 cases w with
 | mk key w=>
 cases w with
 | mk s' l' f'=>
 unfold FdR at hw
 obtain⟨cw2,rfl,hw1⟩:=hw
 have hw2:=hw1
 unfold VlR at hw2
 obtain⟨ub',ul',uf',xl',xf',rfl,w1,w2,w3,w4,w5⟩:=hw2
 have e:(xf.drop (k*14+1)).take 13=AJ s' ub' ul' uf':=by
  rw[<-List.drop_drop]
  have:=congrArg (fun z=>z.drop 1) hcw
  simp only[List.drop_take]at this
  simpa [AJ]using this
 rw[e]
 exact Ad rfl (J5 (hf key s' l' f' ub' ul' uf' gw hw1 (Dn w1.one w2.one w4.one)))
theorem Bo.trans {a b c:St} (h:Bo a b) (k:Bo b c):Bo a c:=⟨Nat.le_trans h.1 k.1,fun i hi=>(k.2 i (Nat.lt_of_lt_of_le hi h.1)).trans (h.2 i hi)⟩
theorem Dw {s:B8} {f:B8->Prop} (h:f s):AQ .str (.str s) f:=h
theorem Bh {k:IntKind} {n:Int} {f:Int->Prop} (h:f n):AQ (.int k) (.int k n) f:=by
 simp only[AQ];exact h
theorem DR {b:Bool} {f:Bool->Prop} (h:f b):AQ .bool (.bool b) f:=h
end Go.TVF
