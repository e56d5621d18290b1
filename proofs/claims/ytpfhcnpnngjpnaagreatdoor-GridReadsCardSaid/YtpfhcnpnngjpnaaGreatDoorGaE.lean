/- What the laws below rest on: a framework for Go programs, and contracts of the functions that they reach. -/
import Derived.Test.YtpfhcnpnngjpnaaGreatDoorGaD
import Derived.Lib.DecodeN
set_option maxRecDepth 20000
set_option linter.unusedVariables false
set_option linter.unusedSimpArgs false
namespace Go.TVF
open Go.IntKind(i64 u8)
open Go Go.Proofs
theorem GZ (r:Nat) (f:Nat) (st:St) (K:St->Prop) (h:CallT PR Ax [(.box r 0),.int .i64 2] [.one (.int .i64)] st (fun (n1:Int) i=>stB i (.box f 3) [.int .i64 n1] (fun g=>CallT PR AC [(.box r 0),.str Dc] [.one (.int .u8)] g (fun (n2:Int) m=>CallT PR Ax [(.box r 0),.int .i64 2] [.one (.int .i64)] m (fun (n3:Int) e=>stB e (.box f 4) [.int .i64 n3] (fun l=>CallT PR AC [(.box r 0),.str Dc] [.one (.int .u8)] l (fun (n4:Int) j=>CallT PR Ax [(.box r 0),.int .i64 2] [.one (.int .i64)] j (fun (n5:Int) k=>stB k (.box f 5) [.int .i64 n5] (fun a=>Ag (Ac a [] (.t (.box r 0)) 0) (fun (x1:TV)=>Af .str x1 (fun (s1:B8)=>BId (s1≠([]:B8)) (Ag (Ac a [] (.t (.box r 0)) 0) (fun (x2:TV)=>Af .str x2 (fun (s2:B8)=>((0<=(0:Int)/\(0:Int)<(s2.length:Int))/\BId (((List.getD s2 (Int.toNat (0:Int)) 0).toNat:Int)=(46:Int)) (Ag (Ac a [] (.t (.box r 0)) 0) (fun (x3:TV)=>Af .str x3 (fun (s3:B8)=>((0<=(1:Int)/\(1:Int)<=(s3.length:Int))/\stB a (.box r 0) [(.str (List.drop (Int.toNat (1:Int)) s3))] (fun d=>CallT PR BP [(.box r 0)] [.one (.int .i64)] d (fun (n6:Int) c=>stB c (.box f 6) [.int .i64 n6] (fun b=>K b))))))) (K a))))) (K a)))))))))))):CallT PR A7 [(.box r 0),(.box f 0)] [] st K:=
 Ae (cfg:=⟨[],[],[]⟩) (h:= .none) mixed (fun _ _=>Tryz.call242 _ _) Tryz.func242 (by kernel_rfl) (by kernel_rfl) h
theorem HM (r:Nat) (f:Nat) (st:St) (K:St->Prop) (h:CallT PR Ax [(.box r 0),.int .i64 4] [.one (.int .i64)] st (fun (n1:Int) d=>stB d (.box f 0) [.int .i64 n1] (fun c=>CallT PR AC [(.box r 0),.str Ew] [.one (.int .u8)] c (fun (n2:Int) j=>CallT PR Ax [(.box r 0),.int .i64 2] [.one (.int .i64)] j (fun (n3:Int) b=>stB b (.box f 1) [.int .i64 n3] (fun i=>CallT PR AC [(.box r 0),.str Ew] [.one (.int .u8)] i (fun (n4:Int) e=>CallT PR Ax [(.box r 0),.int .i64 2] [.one (.int .i64)] e (fun (n5:Int) g=>stB g (.box f 2) [.int .i64 n5] (fun a=>K a))))))))):CallT PR BH [(.box r 0),(.box f 0)] [] st K:=
 Ae (cfg:=⟨[],[],[]⟩) (h:= .none) mixed (fun _ _=>Tryz.call243 _ _) Tryz.func243 (by kernel_rfl) (by kernel_rfl) h
theorem Ie (r:Nat) (of:B8) (st:St) (K:Int->St->Prop) (h:Ag (Ac st [] (.t (.box r 0)) 0) (fun (x1:TV)=>Af .str x1 (fun (s1:B8)=>BId (s1≠([]:B8)) (∃(I1:Int->TV->B8->Int->St->Prop) (M1:Int->TV->B8->Int->St->Nat),(I1 0 ((.box r 0)) of ((of.length:Int)) st)/\∀c a b e d,I1 c a b e d->(BId (c<e) (need (isPtr a) (need (isPtr a) (Ag (Ac d [] (.t (Ao a 0)) 0) (fun (x2:TV)=>Af .str x2 (fun (s2:B8)=>((0<=(0:Int)/\(0:Int)<(s2.length:Int))/\((0<=c/\c<(b.length:Int))/\BId (((List.getD s2 (Int.toNat (0:Int)) 0).toNat:Int)=((List.getD b c.toNat 0).toNat:Int)) (need (isPtr a) (need (isPtr a) (Ag (Ac d [] (.t (Ao a 0)) 0) (fun (x3:TV)=>Af .str x3 (fun (s3:B8)=>((0<=(1:Int)/\(1:Int)<=(s3.length:Int))/\need (isPtr a) (need (isPtr a) (stB d (Ao a 0) [(.str (List.drop (Int.toNat (1:Int)) s3))] (fun g=>((0<=c/\c<(b.length:Int))/\K (((List.getD b c.toNat 0).toNat:Int)) g)))))))))) ((I1 ((i64.wrap (c+(1:Int)))) a b e d/\M1 ((i64.wrap (c+(1:Int)))) a b e d<M1 c a b e d))))))))) (need (isPtr a) (need (isPtr a) (stB d (Ao a 1) [.bool true] (fun i=>K 0 i)))))) (stB st (.box r 1) [.bool true] (fun f=>K 0 f))))):CallT PR AC [(.box r 0),.str of] [.one (.int .u8)] st K:=
 Ae (cfg:=⟨[],[],[]⟩) (h:=(.seq .none (.seq (.seq .none (.cond (.seq .none (.block (.loop ⟨[(13,.int .i64),(0,.tv),(1,.str),(12,.int .i64)],[],[],[]⟩ .none))) .none)) .none))) mixed (fun _ _=>Tryz.call244 _ _) Tryz.func244 (by kernel_rfl) (by kernel_rfl) h
theorem Gy (r:Nat) (f:Nat) (st:St) (K:St->Prop) (h:CallT PR AC [(.box r 0),.str str31] [.one (.int .u8)] st (fun (n1:Int) j=>stB j (.box f 7) [.int .u8 n1] (fun a=>Ag (Ac a [] (.t (.box f 7)) 0) (fun (x1:TV)=>Af (.int .u8) x1 (fun (n2:Int)=>BId (n2=43) (CallT PR Ax [(.box r 0),.int .i64 2] [.one (.int .i64)] a (fun (n3:Int) n=>stB n (.box f 8) [.int .i64 n3] (fun i=>CallT PR AC [(.box r 0),.str Dc] [.one (.int .u8)] i (fun (n4:Int) m=>CallT PR Ax [(.box r 0),.int .i64 2] [.one (.int .i64)] m (fun (n5:Int) k=>stB k (.box f 9) [.int .i64 n5] (fun l=>K l)))))) (Ag (Ac a [] (.t (.box f 7)) 0) (fun (x2:TV)=>Af (.int .u8) x2 (fun (n6:Int)=>BId (n6=45) (CallT PR Ax [(.box r 0),.int .i64 2] [.one (.int .i64)] a (fun (n7:Int) e=>stB e (.box f 8) [.int .i64 n7] (fun g=>CallT PR AC [(.box r 0),.str Dc] [.one (.int .u8)] g (fun (n8:Int) d=>CallT PR Ax [(.box r 0),.int .i64 2] [.one (.int .i64)] d (fun (n9:Int) b=>stB b (.box f 9) [.int .i64 n9] (fun c=>K c)))))) (K a))))))))):CallT PR Bo [(.box r 0),(.box f 0)] [] st K:=
 Ae (cfg:=⟨[],[],[]⟩) (h:= .none) mixed (fun _ _=>Tryz.call245 _ _) Tryz.func245 (by kernel_rfl) (by kernel_rfl) h
theorem Kj (year:Int) (month:Int) (st:St) (K:Int->St->Prop) (h:CallT PR CH [.int .i64 year] [.one .bool] st (fun (b1:Bool) a=>BIf (!b1) (K 0 a) (BId (month<1) (K 0 a) (BId ((12:Int)<month) (K 0 a) (BId (month=2) (CallT PR Em [.int .i64 year] [.one .bool] a (fun (b2:Bool) b=>BIf b2 (K 29 b) (((0<=(i64.wrap (month-(1:Int)))/\(i64.wrap (month-(1:Int)))<((12:Nat):Int))/\Ag ((([.int .i64 31,.int .i64 28,.int .i64 31,.int .i64 30,.int .i64 31,.int .i64 30,.int .i64 31,.int .i64 31,.int .i64 30,.int .i64 31,.int .i64 30,.int .i64 31]:List TV)[(0+(Int.toNat (i64.wrap (month-(1:Int))))*1)+0]?)) (fun (x1:TV)=>Af (.int .i64) x1 (fun (n1:Int)=>K n1 b)))))) (((0<=(i64.wrap (month-(1:Int)))/\(i64.wrap (month-(1:Int)))<((12:Nat):Int))/\Ag ((([.int .i64 31,.int .i64 28,.int .i64 31,.int .i64 30,.int .i64 31,.int .i64 30,.int .i64 31,.int .i64 31,.int .i64 30,.int .i64 31,.int .i64 30,.int .i64 31]:List TV)[(0+(Int.toNat (i64.wrap (month-(1:Int))))*1)+0]?)) (fun (x2:TV)=>Af (.int .i64) x2 (fun (n2:Int)=>K n2 a))))))))):CallT PR AQ [.int .i64 year,.int .i64 month] [.one (.int .i64)] st K:=
 Ae (cfg:=⟨[5],[],[]⟩) (h:= .none) mixed (fun _ _=>Tryz.call246 _ _) Tryz.func246 (by kernel_rfl) (by kernel_rfl) h
theorem Kh (year:Int) (st:St) (K:Int->St->Prop) (h:K ((i64.wrap ((i64.wrap ((i64.wrap ((i64.wrap ((365:Int)*(i64.wrap (year-(1:Int)))))+(i64.wrap (Int.tdiv (i64.wrap (year-(1:Int))) (4:Int)))))-(i64.wrap (Int.tdiv (i64.wrap (year-(1:Int))) (100:Int)))))+(i64.wrap (Int.tdiv (i64.wrap (year-(1:Int))) (400:Int)))))) st):CallT PR Bp [.int .i64 year] [.one (.int .i64)] st K:=
 Ae (cfg:=⟨[],[],[]⟩) (h:= .none) mixed (fun _ _=>Tryz.call247 _ _) Tryz.func247 (by kernel_rfl) (by kernel_rfl) h
theorem H5 (s:B8) (st:St) (K:B8->St->Prop) (h:∃(I1:Int->B8->St->Prop) (M1:Int->B8->St->Nat),(I1 0 s st)/\∀a b c,I1 a b c->(BId (a<(b.length:Int)) (((0<=a/\a<(b.length:Int))/\BId (((List.getD b a.toNat 0).toNat:Int)=(48:Int)) ((I1 ((i64.wrap (a+(1:Int)))) b c/\M1 ((i64.wrap (a+(1:Int)))) b c<M1 a b c)) (((0<=a/\a<=(b.length:Int))/\K ((List.drop a.toNat b)) c)))) (((0<=a/\a<=(b.length:Int))/\K ((List.drop a.toNat b)) c)))):CallT PR BK [.str s] [.one .str] st K:=
 Ae (cfg:=⟨[],[],[]⟩) (h:=(.seq .none (.seq .none (.seq (.block (.loop ⟨[(3,.int .i64),(0,.str)],[],[],[]⟩ .none)) .none)))) mixed (fun _ _=>Tryz.call248 _ _) Tryz.func248 (by kernel_rfl) (by kernel_rfl) h
theorem H4 (s:B8) (st:St) (K:Int->Int->St->Prop) (h:CallT PR CF [.str s] [.one .bool] st (fun (b1:Bool) g=>BIf (!b1) (K 0 3 g) (BId ((19:Int)<(s.length:Int)) (K 0 2 g) (BId ((s.length:Int)=(19:Int)) (BIf (!(Op.bytesLess s str32 || decide (s=str32))) (K 0 2 g) (∃(I1:Int->Int->B8->St->Prop) (M1:Int->Int->B8->St->Nat),(I1 0 0 s g)/\∀i b d e,I1 i b d e->(BId (b<(d.length:Int)) (((0<=b/\b<(d.length:Int))/\(I1 ((i64.wrap ((i64.wrap ((i64.wrap ((10:Int)*i))+(i64.wrap ((List.getD d b.toNat 0).toNat:Int))))-(48:Int)))) ((i64.wrap (b+(1:Int)))) d e/\M1 ((i64.wrap ((i64.wrap ((i64.wrap ((10:Int)*i))+(i64.wrap ((List.getD d b.toNat 0).toNat:Int))))-(48:Int)))) ((i64.wrap (b+(1:Int)))) d e<M1 i b d e))) (K i 0 e)))) (∃(I2:Int->Int->B8->St->Prop) (M2:Int->Int->B8->St->Nat),(I2 0 0 s g)/\∀f a c j,I2 f a c j->(BId (a<(c.length:Int)) (((0<=a/\a<(c.length:Int))/\(I2 ((i64.wrap ((i64.wrap ((i64.wrap ((10:Int)*f))+(i64.wrap ((List.getD c a.toNat 0).toNat:Int))))-(48:Int)))) ((i64.wrap (a+(1:Int)))) c j/\M2 ((i64.wrap ((i64.wrap ((i64.wrap ((10:Int)*f))+(i64.wrap ((List.getD c a.toNat 0).toNat:Int))))-(48:Int)))) ((i64.wrap (a+(1:Int)))) c j<M2 f a c j))) (K f 0 j))))))):CallT PR CG [.str s] [.one (.int .i64),.one (.int .i64)] st K:=
 Ae (cfg:=⟨[],[],[]⟩) (h:=(.seq .none (.seq .none (.seq .none (.seq .none (.seq (.seq .none (.block (.loop ⟨[(4,.int .i64),(5,.int .i64),(0,.str)],[],[],[]⟩ .none))) .none)))))) mixed (fun _ _=>Tryz.call249 _ _) Tryz.func249 (by kernel_rfl) (by kernel_rfl) h
theorem H2 (a:B8) (st:St) (K:Int->St->Prop) (h:∃(I1:Int->B8->St->Prop) (M1:Int->B8->St->Nat),(I1 0 a st)/\∀b c d,I1 b c d->(BId (b<(c.length:Int)) (((0<=(i64.wrap ((i64.wrap ((c.length:Int)-(1:Int)))-b))/\(i64.wrap ((i64.wrap ((c.length:Int)-(1:Int)))-b))<(c.length:Int))/\BId (((List.getD c (Int.toNat (i64.wrap ((i64.wrap ((c.length:Int)-(1:Int)))-b))) 0).toNat:Int)=(48:Int)) ((I1 ((i64.wrap (b+(1:Int)))) c d/\M1 ((i64.wrap (b+(1:Int)))) c d<M1 b c d)) (K b d))) (K b d))):CallT PR CE [.str a] [.one (.int .i64)] st K:=
 Ae (cfg:=⟨[],[],[]⟩) (h:=(.seq .none (.seq .none (.seq (.block (.loop ⟨[(3,.int .i64),(0,.str)],[],[],[]⟩ .none)) .none)))) mixed (fun _ _=>Tryz.call250 _ _) Tryz.func250 (by kernel_rfl) (by kernel_rfl) h
theorem G7 (year:Int) (st:St) (K:Int->St->Prop) (h:∃(I1:Int->Int->Int->St->Prop) (M1:Int->Int->Int->St->Nat),(I1 0 1 year st)/\∀c b a d,I1 c b a d->(BId (b<a) (CallT PR Ci [.int .i64 b] [.one (.int .i64)] d (fun (n1:Int) e=>(I1 ((i64.wrap (c+n1))) ((i64.wrap (b+(1:Int)))) a e/\M1 ((i64.wrap (c+n1))) ((i64.wrap (b+(1:Int)))) a e<M1 c b a d))) (K c d))):CallT PR Cj [.int .i64 year] [.one (.int .i64)] st K:=
 Ae (cfg:=⟨[],[],[]⟩) (h:=(.seq .none (.seq .none (.seq (.seq .none (.block (.loop ⟨[(3,.int .i64),(4,.int .i64),(0,.int .i64)],[],[],[]⟩ .none))) .none)))) mixed (fun _ _=>Tryz.call251 _ _) Tryz.func251 (by kernel_rfl) (by kernel_rfl) h
theorem R5 (s:B8) (st:St) (K:Int->Int->St->Prop) (h:∃(I1:Int->Int->B8->St->Prop) (M1:Int->Int->B8->St->Nat),(I1 0 0 s st)/\∀c a b d,I1 c a b d->(BId (a<(b.length:Int)) (CallT PR Dp [.str b,.int .i64 a] [.one (.int .i64),.one (.int .i64)] d (fun (n1 n2:Int) e=>BId (n2=0) (K 0 5 e) ((I1 ((i64.wrap (c+(1:Int)))) ((i64.wrap (a+n2))) b e/\M1 ((i64.wrap (c+(1:Int)))) ((i64.wrap (a+n2))) b e<M1 c a b d)))) (K c 0 d))):CallT PR J3 [.str s] [.one (.int .i64),.one (.int .i64)] st K:=
 Ae (cfg:=⟨[],[],[]⟩) (h:=(.seq .none (.seq .none (.seq (.seq .none (.block (.loop ⟨[(4,.int .i64),(5,.int .i64),(0,.str)],[],[],[]⟩ .none))) .none)))) mixed (fun _ _=>Tryz.call256 _ _) Tryz.func256 (by kernel_rfl) (by kernel_rfl) h
theorem EF (b:Nat) (st:St) (K:St->Prop) (h:Ag (Ac st [] (.t (.box b 0)) 0) (fun (v1:TV)=>need (SU v1) (BIf (NH v1) (((Ac st [] (.t (.box b 0)) 0).isSome=true/\CallT PR HH [(.box b 0)] [.one .tv] st (fun (v2:TV) a=>unsK 188 2 v2 a (fun (v3:TV)=>need (List.all [v3] Ap) (stB a (.box b 0) [v3] (fun c=>K c)))))) (Ag (Ac st [] (.t (.box b 0)) 0) (fun (v4:TV)=>(v4=(.box b 0)/\K st)))))):CallT PR Bs [(.box b 0)] [] st K:=
 Ae (cfg:=⟨[],[],[]⟩) (h:= .none) mixed (fun _ _=>Tryz.call266 _ _) Tryz.func266 (by kernel_rfl) (by kernel_rfl) h
theorem Mj (s:B8) (st:St) (K:Bool->St->Prop) (h:BId ((s.length:Int)<=(600:Int)) (CallT PR Gq [.str s] [.one .bool] st (fun (b1:Bool) a=>BIf b1 (BId (s=([]:B8)) (K true a) (((0<=(0:Int)/\(0:Int)<(s.length:Int))/\K ((decide (((List.getD s (Int.toNat (0:Int)) 0).toNat:Int)≠(48:Int)))) a))) (K false a))) (K false st)):CallT PR Du [.str s] [.one .bool] st K:=
 Ae (cfg:=⟨[],[],[]⟩) (h:= .none) mixed (fun _ _=>Tryz.call267 _ _) Tryz.func267 (by kernel_rfl) (by kernel_rfl) h
theorem Mi (a:B8) (st:St) (K:Int->St->Prop) (h:CallT PR CO [.str a,.str Ks] [.one .str] st (fun (s1:B8) b=>K ((i64.wrap ((a.length:Int)-(s1.length:Int)))) b)):CallT PR EH [.str a] [.one (.int .i64)] st K:=
 Ae (cfg:=⟨[],[],[]⟩) (h:= .none) mixed (fun _ _=>Tryz.call268 _ _) Tryz.func268 (by kernel_rfl) (by kernel_rfl) h
theorem Pz (s:B8) (st:St) (K:Int->St->Prop) (h:CallT PR DQ [.str s] [.one .bool] st (fun (b1:Bool) a=>BIf (!b1) (K 5 a) (BId ((1024:Int)<(s.length:Int)) (K 10 a) (K 0 a)))):CallT PR Hp [.str s] [.one (.int .i64)] st K:=
 Ae (cfg:=⟨[],[],[]⟩) (h:= .none) mixed (fun _ _=>Tryz.call269 _ _) Tryz.func269 (by kernel_rfl) (by kernel_rfl) h
theorem G9 (s:B8) (atx:Int) (st:St) (K:Int->Int->St->Prop) (h:BId (atx<0) (K 0 0 st) (BId ((s.length:Int)<=atx) (K 0 0 st) (((0<=atx/\atx<(s.length:Int))/\∃(C1:Int->Int->B8->Int->St->Prop),(BId ((240:Int)<=(i64.wrap ((List.getD s atx.toNat 0).toNat:Int))) (C1 4 ((AI .and .i64 (i64.wrap ((List.getD s atx.toNat 0).toNat:Int)) (7:Int))) s atx st) (BId ((224:Int)<=(i64.wrap ((List.getD s atx.toNat 0).toNat:Int))) (C1 3 ((AI .and .i64 (i64.wrap ((List.getD s atx.toNat 0).toNat:Int)) (15:Int))) s atx st) (BId ((192:Int)<=(i64.wrap ((List.getD s atx.toNat 0).toNat:Int))) (C1 2 ((AI .and .i64 (i64.wrap ((List.getD s atx.toNat 0).toNat:Int)) (31:Int))) s atx st) (C1 1 ((i64.wrap ((List.getD s atx.toNat 0).toNat:Int))) s atx st))))/\∀e m j i k,C1 e m j i k->(BId ((i64.wrap ((j.length:Int)-i))<e) (K 0 0 k) (∃(I1:Int->Int->B8->Int->Int->St->Prop) (M1:Int->Int->B8->Int->Int->St->Nat),(I1 m 1 j i e k)/\∀f c d b a g,I1 f c d b a g->(BId (c<a) (((0<=(i64.wrap (b+c))/\(i64.wrap (b+c))<(d.length:Int))/\(I1 ((AI .or .i64 (i64.wrap (f*2^(min (Int.toNat (6:Int)) (IntKind.bits .i64)))) (AI .and .i64 (i64.wrap ((List.getD d (Int.toNat (i64.wrap (b+c))) 0).toNat:Int)) (63:Int)))) ((i64.wrap (c+(1:Int)))) d b a g/\M1 ((AI .or .i64 (i64.wrap (f*2^(min (Int.toNat (6:Int)) (IntKind.bits .i64)))) (AI .and .i64 (i64.wrap ((List.getD d (Int.toNat (i64.wrap (b+c))) 0).toNat:Int)) (63:Int)))) ((i64.wrap (c+(1:Int)))) d b a g<M1 f c d b a g))) (CallT PR Bx [.int .i64 f] [.one .str,.one (.int .i64)] g (fun (s1:B8) (n1:Int) l=>BId (n1≠0) (K 0 0 l) (((0<=b/\b<=(i64.wrap (b+a))/\(i64.wrap (b+a))<=(d.length:Int))/\BId (s1≠(List.drop b.toNat (List.take (Int.toNat (i64.wrap (b+a))) d))) (K 0 0 l) (K f a l)))))))))))):CallT PR By [.str s,.int .i64 atx] [.one (.int .i64),.one (.int .i64)] st K:=
 Ae (cfg:=⟨[],[],[]⟩) (h:=(.seq .none (.seq .none (.seq .none (.seq .none (.cut ⟨[(7,.int .i64),(8,.int .i64),(0,.str),(1,.int .i64)],[],[],[]⟩ .none (.seq .none (.seq (.seq .none (.block (.loop ⟨[(8,.int .i64),(9,.int .i64),(0,.str),(1,.int .i64),(7,.int .i64)],[],[],[]⟩ .none))) .none)))))))) mixed (fun _ _=>Tryz.call271 _ _) Tryz.func271 (by kernel_rfl) (by kernel_rfl) h
theorem Kf (n:Int) (st:St) (K:B8->St->Prop) (h:∃(I1:Int->TV->St->Prop) (M1:Int->TV->St->Nat),(I1 n .nilSlice st)/\∀a b c,I1 a b c->(BId ((0:Int)<a) (Mx 5 1 1 b 1 [(.int .u8 (u8.wrap (i64.wrap ((48:Int)+(Int.tmod a (10:Int))))))] c (fun (v1:TV) d=>(I1 ((i64.wrap (Int.tdiv a (10:Int)))) v1 d/\M1 ((i64.wrap (Int.tdiv a (10:Int)))) v1 d<M1 a b c))) (CallT PR DT [b] [] c (fun (e:St)=>Ag ((toBytes e b).map TV.str) (fun (x1:TV)=>Af .str x1 (fun (s1:B8)=>K s1 e)))))):CallT PR DU [.int .i64 n] [.one .str] st K:=
 Ae (cfg:=⟨[],[14],[]⟩) (h:=(.seq .none (.seq .none (.seq (.block (.loop ⟨[(0,.int .i64),(3,.tv)],[],[],[]⟩ .none)) .none)))) mixed (fun _ _=>Tryz.call277 _ _) Tryz.func277 (by kernel_rfl) (by kernel_rfl) h
theorem Lb (n:Int) (st:St) (K:Int->Int->Int->Int->St->Prop) (h:CallT PR F1 [.int .i64 n] [.one .bool] st (fun (b1:Bool) q=>BIf (!b1) (K 0 0 0 2 q) (∃(I1:Int->Int->St->Prop) (M1:Int->Int->St->Nat),(I1 ((i64.wrap ((i64.wrap (Int.tdiv n (366:Int)))+(1:Int)))) n q)/\∀a i j,I1 a i j->(BId (a<9999) (CallT PR Bp [(.int .i64 (i64.wrap (a+(1:Int))))] [.one (.int .i64)] j (fun (n1:Int) p=>BId (n1<=i) ((I1 ((i64.wrap (a+(1:Int)))) i p/\M1 ((i64.wrap (a+(1:Int)))) i p<M1 a i j)) (CallT PR Bp [.int .i64 a] [.one (.int .i64)] p (fun (n2:Int) t=>∃(I2:Int->Int->Int->St->Prop) (M2:Int->Int->Int->St->Nat),(I2 1 ((i64.wrap (i-n2))) a t)/\∀b f d l,I2 b f d l->(CallT PR AQ [.int .i64 d,.int .i64 b] [.one (.int .i64)] l (fun (n3:Int) r=>BId (n3<=f) (CallT PR AQ [.int .i64 d,.int .i64 b] [.one (.int .i64)] r (fun (n4:Int) s=>(I2 ((i64.wrap (b+(1:Int)))) ((i64.wrap (f-n4))) d s/\M2 ((i64.wrap (b+(1:Int)))) ((i64.wrap (f-n4))) d s<M2 b f d l))) (K d b ((i64.wrap (f+(1:Int)))) 0 r))))))) (CallT PR Bp [.int .i64 a] [.one (.int .i64)] j (fun (n5:Int) u=>∃(I3:Int->Int->Int->St->Prop) (M3:Int->Int->Int->St->Nat),(I3 1 ((i64.wrap (i-n5))) a u)/\∀c g e o,I3 c g e o->(CallT PR AQ [.int .i64 e,.int .i64 c] [.one (.int .i64)] o (fun (n6:Int) k=>BId (n6<=g) (CallT PR AQ [.int .i64 e,.int .i64 c] [.one (.int .i64)] k (fun (n7:Int) m=>(I3 ((i64.wrap (c+(1:Int)))) ((i64.wrap (g-n7))) e m/\M3 ((i64.wrap (c+(1:Int)))) ((i64.wrap (g-n7))) e m<M3 c g e o))) (K e c ((i64.wrap (g+(1:Int)))) 0 k))))))))):CallT PR En [.int .i64 n] [.one (.int .i64),.one (.int .i64),.one (.int .i64),.one (.int .i64)] st K:=
 Ae (cfg:=⟨[],[],[]⟩) (h:=(.seq .none (.seq .none (.seq .none (.seq (.block (.loop ⟨[(2,.int .i64),(0,.int .i64)],[],[],[]⟩ .none)) (.seq .none (.seq .none (.seq (.block (.loop ⟨[(3,.int .i64),(6,.int .i64),(2,.int .i64)],[],[],[]⟩ .none)) .none)))))))) mixed (fun _ _=>Tryz.call278 _ _) Tryz.func278 (by kernel_rfl) (by kernel_rfl) h
theorem K2 (n:Int) (width:Int) (st:St) (K:B8->St->Prop) (h:((0<=width/\width<=width/\Int.toNat width*1<=140737488355328)/\∃(I1:Int->Int->TV->St->Prop) (M1:Int->Int->TV->St->Nat),(I1 n ((i64.wrap (width-(1:Int)))) ((.ms 1 st.nb 0 width.toNat width.toNat)) (st.push (.cells (HK [.int .u8 0] (Int.toNat width*1))) (some 5)))/\∀d a b c,I1 d a b c->(BId ((0:Int)<=a) (((0<=a/\a<(lenZ 1 b:Int))/\stB c (ixT 1 b a.toNat) [(.int .u8 (u8.wrap (i64.wrap ((48:Int)+(Int.tmod d (10:Int))))))] (fun e=>(I1 ((i64.wrap (Int.tdiv d (10:Int)))) ((i64.wrap (a-(1:Int)))) b e/\M1 ((i64.wrap (Int.tdiv d (10:Int)))) ((i64.wrap (a-(1:Int)))) b e<M1 d a b c)))) (Ag ((toBytes c b).map TV.str) (fun (x1:TV)=>Af .str x1 (fun (s1:B8)=>K s1 c)))))):CallT PR AG [.int .i64 n,.int .i64 width] [.one .str] st K:=
 Ae (cfg:=⟨[],[8],[]⟩) (h:=(.seq .none (.seq .none (.seq (.seq .none (.block (.loop ⟨[(0,.int .i64),(6,.int .i64),(5,.tv)],[],[],[]⟩ .none))) .none)))) mixed (fun _ _=>Tryz.call279 _ _) Tryz.func279 (by kernel_rfl) (by kernel_rfl) h
theorem Ip (year:Int) (st:St) (K:Bool->St->Prop) (h:BId ((1:Int)<=year) (BId (year<=9999) (BId ((Int.tmod year (4:Int))=(0:Int)) (BId ((Int.tmod year (100:Int))≠(0:Int)) (K true st) (K ((decide ((Int.tmod year (400:Int))=(0:Int)))) st)) (K ((decide ((Int.tmod year (400:Int))=(0:Int)))) st)) (K false st)) (K false st)):CallT PR A5 [.int .i64 year] [.one .bool] st K:=
 Ae (cfg:=⟨[],[],[]⟩) (h:= .none) mixed (fun _ _=>Tryz.call286 _ _) Tryz.func286 (by kernel_rfl) (by kernel_rfl) h
theorem Gz (r:Nat) (width:Int) (st:St) (K:Int->St->Prop) (h:Ag (Ac st [] (.t (.box r 0)) 0) (fun (x1:TV)=>Af .str x1 (fun (s1:B8)=>BId ((s1.length:Int)<width) (stB st (.box r 1) [.bool true] (fun i=>K 0 i)) (∃(I1:Int->Int->TV->Int->Int->St->Prop) (M1:Int->Int->TV->Int->Int->St->Nat),(I1 0 0 ((.box r 0)) width width st)/\∀f c a b e d,I1 f c a b e d->(BId (c<e) (need (isPtr a) (need (isPtr a) (Ag (Ac d [] (.t (Ao a 0)) 0) (fun (x2:TV)=>Af .str x2 (fun (s2:B8)=>((0<=c/\c<(s2.length:Int))/\BId (((List.getD s2 c.toNat 0).toNat:Int)<(48:Int)) (need (isPtr a) (need (isPtr a) (stB d (Ao a 1) [.bool true] (fun k=>K 0 k)))) (need (isPtr a) (need (isPtr a) (Ag (Ac d [] (.t (Ao a 0)) 0) (fun (x3:TV)=>Af .str x3 (fun (s3:B8)=>((0<=c/\c<(s3.length:Int))/\BId ((57:Int)<((List.getD s3 c.toNat 0).toNat:Int)) (need (isPtr a) (need (isPtr a) (stB d (Ao a 1) [.bool true] (fun g=>K 0 g)))) (need (isPtr a) (need (isPtr a) (Ag (Ac d [] (.t (Ao a 0)) 0) (fun (x4:TV)=>Af .str x4 (fun (s4:B8)=>((0<=c/\c<(s4.length:Int))/\(I1 ((i64.wrap ((i64.wrap ((10:Int)*f))+(i64.wrap (u8.wrap (((List.getD s4 c.toNat 0).toNat:Int)-(48:Int))))))) ((i64.wrap (c+(1:Int)))) a b e d/\M1 ((i64.wrap ((i64.wrap ((10:Int)*f))+(i64.wrap (u8.wrap (((List.getD s4 c.toNat 0).toNat:Int)-(48:Int))))))) ((i64.wrap (c+(1:Int)))) a b e d<M1 f c a b e d))))))))))))))))))) (need (isPtr a) (need (isPtr a) (Ag (Ac d [] (.t (Ao a 0)) 0) (fun (x5:TV)=>Af .str x5 (fun (s5:B8)=>((0<=b/\b<=(s5.length:Int))/\need (isPtr a) (need (isPtr a) (stB d (Ao a 0) [(.str (List.drop b.toNat s5))] (fun j=>K f j)))))))))))))):CallT PR Ax [(.box r 0),.int .i64 width] [.one (.int .i64)] st K:=
 Ae (cfg:=⟨[],[],[]⟩) (h:=(.seq .none (.seq .none (.seq .none (.seq (.seq .none (.block (.loop ⟨[(5,.int .i64),(18,.int .i64),(0,.tv),(1,.int .i64),(17,.int .i64)],[],[],[]⟩ .none))) .none))))) mixed (fun _ _=>Tryz.call290 _ _) Tryz.func290 (by kernel_rfl) (by kernel_rfl) h
theorem FN (r:Nat) (st:St) (K:Int->St->Prop) (h:∃(I1:Int->Int->TV->St->Prop) (M1:Int->Int->TV->St->Nat),(I1 0 0 ((.box r 0)) st)/\∀d b a c,I1 d b a c->(need (isPtr a) (need (isPtr a) (Ag (Ac c [] (.t (Ao a 0)) 0) (fun (x1:TV)=>Af .str x1 (fun (s1:B8)=>BId (b<(s1.length:Int)) (need (isPtr a) (need (isPtr a) (Ag (Ac c [] (.t (Ao a 0)) 0) (fun (x2:TV)=>Af .str x2 (fun (s2:B8)=>((0<=b/\b<(s2.length:Int))/\BId ((48:Int)<=((List.getD s2 b.toNat 0).toNat:Int)) (need (isPtr a) (need (isPtr a) (Ag (Ac c [] (.t (Ao a 0)) 0) (fun (x3:TV)=>Af .str x3 (fun (s3:B8)=>((0<=b/\b<(s3.length:Int))/\BId (((List.getD s3 b.toNat 0).toNat:Int)<=(57:Int)) (BId (b<9) (need (isPtr a) (need (isPtr a) (Ag (Ac c [] (.t (Ao a 0)) 0) (fun (x4:TV)=>Af .str x4 (fun (s4:B8)=>((0<=b/\b<(s4.length:Int))/\(I1 ((i64.wrap ((i64.wrap ((10:Int)*d))+(i64.wrap (u8.wrap (((List.getD s4 b.toNat 0).toNat:Int)-(48:Int))))))) ((i64.wrap (b+(1:Int)))) a c/\M1 ((i64.wrap ((i64.wrap ((10:Int)*d))+(i64.wrap (u8.wrap (((List.getD s4 b.toNat 0).toNat:Int)-(48:Int))))))) ((i64.wrap (b+(1:Int)))) a c<M1 d b a c))))))) ((I1 d ((i64.wrap (b+(1:Int)))) a c/\M1 d ((i64.wrap (b+(1:Int)))) a c<M1 d b a c))) (BId (b<1) (need (isPtr a) (need (isPtr a) (stB c (Ao a 1) [.bool true] (fun x=>K 0 x)))) (BId ((9:Int)<b) (need (isPtr a) (need (isPtr a) (stB c (Ao a 1) [.bool true] (fun s=>K 0 s)))) (need (isPtr a) (need (isPtr a) (Ag (Ac c [] (.t (Ao a 0)) 0) (fun (x5:TV)=>Af .str x5 (fun (s5:B8)=>((0<=b/\b<=(s5.length:Int))/\need (isPtr a) (need (isPtr a) (stB c (Ao a 0) [(.str (List.drop b.toNat s5))] (fun u=>∃(I2:Int->Int->St->Prop) (M2:Int->Int->St->Nat),(I2 d b u)/\∀f g k,I2 f g k->(BId (g<9) ((I2 ((i64.wrap (f*(10:Int)))) ((i64.wrap (g+(1:Int)))) k/\M2 ((i64.wrap (f*(10:Int)))) ((i64.wrap (g+(1:Int)))) k<M2 f g k)) (K f k))))))))))))))))))) (BId (b<1) (need (isPtr a) (need (isPtr a) (stB c (Ao a 1) [.bool true] (fun v=>K 0 v)))) (BId ((9:Int)<b) (need (isPtr a) (need (isPtr a) (stB c (Ao a 1) [.bool true] (fun y=>K 0 y)))) (need (isPtr a) (need (isPtr a) (Ag (Ac c [] (.t (Ao a 0)) 0) (fun (x6:TV)=>Af .str x6 (fun (s6:B8)=>((0<=b/\b<=(s6.length:Int))/\need (isPtr a) (need (isPtr a) (stB c (Ao a 0) [(.str (List.drop b.toNat s6))] (fun w=>∃(I3:Int->Int->St->Prop) (M3:Int->Int->St->Nat),(I3 d b w)/\∀m j l,I3 m j l->(BId (j<9) ((I3 ((i64.wrap (m*(10:Int)))) ((i64.wrap (j+(1:Int)))) l/\M3 ((i64.wrap (m*(10:Int)))) ((i64.wrap (j+(1:Int)))) l<M3 m j l)) (K m l))))))))))))))))))) (BId (b<1) (need (isPtr a) (need (isPtr a) (stB c (Ao a 1) [.bool true] (fun o=>K 0 o)))) (BId ((9:Int)<b) (need (isPtr a) (need (isPtr a) (stB c (Ao a 1) [.bool true] (fun p=>K 0 p)))) (need (isPtr a) (need (isPtr a) (Ag (Ac c [] (.t (Ao a 0)) 0) (fun (x7:TV)=>Af .str x7 (fun (s7:B8)=>((0<=b/\b<=(s7.length:Int))/\need (isPtr a) (need (isPtr a) (stB c (Ao a 0) [(.str (List.drop b.toNat s7))] (fun q=>∃(I4:Int->Int->St->Prop) (M4:Int->Int->St->Nat),(I4 d b q)/\∀i n e,I4 i n e->(BId (n<9) ((I4 ((i64.wrap (i*(10:Int)))) ((i64.wrap (n+(1:Int)))) e/\M4 ((i64.wrap (i*(10:Int)))) ((i64.wrap (n+(1:Int)))) e<M4 i n e)) (K i e))))))))))))))))))):CallT PR BP [(.box r 0)] [.one (.int .i64)] st K:=
 Ae (cfg:=⟨[],[],[]⟩) (h:=(.seq .none (.seq .none (.seq (.block (.loop ⟨[(3,.int .i64),(4,.int .i64),(0,.tv)],[],[],[]⟩ .none)) (.seq .none (.seq .none (.seq (.block (.loop ⟨[(3,.int .i64),(4,.int .i64)],[],[],[]⟩ .none)) .none))))))) mixed (fun _ _=>Tryz.call291 _ _) Tryz.func291 (by kernel_rfl) (by kernel_rfl) h
theorem Kg (year:Int) (st:St) (K:Bool->St->Prop) (h:BId ((1:Int)<=year) (K ((decide (year<=9999))) st) (K false st)):CallT PR CH [.int .i64 year] [.one .bool] st K:=
 Ae (cfg:=⟨[],[],[]⟩) (h:= .none) mixed (fun _ _=>Tryz.call292 _ _) Tryz.func292 (by kernel_rfl) (by kernel_rfl) h
theorem La (year:Int) (st:St) (K:Bool->St->Prop) (h:CallT PR CH [.int .i64 year] [.one .bool] st (fun (b1:Bool) a=>BIf b1 (BId ((Int.tmod year (4:Int))=(0:Int)) (BId ((Int.tmod year (100:Int))≠(0:Int)) (K true a) (K ((decide ((Int.tmod year (400:Int))=(0:Int)))) a)) (K false a)) (K false a))):CallT PR Em [.int .i64 year] [.one .bool] st K:=
 Ae (cfg:=⟨[],[],[]⟩) (h:= .none) mixed (fun _ _=>Tryz.call293 _ _) Tryz.func293 (by kernel_rfl) (by kernel_rfl) h
theorem H3 (s:B8) (st:St) (K:Bool->St->Prop) (h:BId ((s.length:Int)<=(600:Int)) (CallT PR Cl [.str s] [.one .bool] st (fun (b1:Bool) a=>BIf b1 (BId ((s.length:Int)=(0:Int)) (K true a) (((0<=(0:Int)/\(0:Int)<(s.length:Int))/\K ((decide (((List.getD s (Int.toNat (0:Int)) 0).toNat:Int)≠(48:Int)))) a))) (K false a))) (K false st)):CallT PR CF [.str s] [.one .bool] st K:=
 Ae (cfg:=⟨[],[],[]⟩) (h:= .none) mixed (fun _ _=>Tryz.call294 _ _) Tryz.func294 (by kernel_rfl) (by kernel_rfl) h
theorem Ol (s:B8) (st:St) (K:Bool->St->Prop) (h:∃(I1:Int->B8->Int->St->Prop) (M1:Int->B8->Int->St->Nat),(I1 0 s ((s.length:Int)) st)/\∀a b d c,I1 a b d c->(BId (a<d) (((0<=a/\a<(b.length:Int))/\BId (((List.getD b a.toNat 0).toNat:Int)<(48:Int)) (K false c) (((0<=a/\a<(b.length:Int))/\BId ((57:Int)<((List.getD b a.toNat 0).toNat:Int)) (K false c) ((I1 ((i64.wrap (a+(1:Int)))) b d c/\M1 ((i64.wrap (a+(1:Int)))) b d c<M1 a b d c)))))) (K true c))):CallT PR Gq [.str s] [.one .bool] st K:=
 Ae (cfg:=⟨[],[],[]⟩) (h:=(.seq .none (.seq (.seq .none (.block (.loop ⟨[(6,.int .i64),(0,.str),(5,.int .i64)],[],[],[]⟩ .none))) .none))) mixed (fun _ _=>Tryz.call301 _ _) Tryz.func301 (by kernel_rfl) (by kernel_rfl) h
theorem G8 (r:Int) (st:St) (K:B8->Int->St->Prop) (h:CallT PR BQ [.int .i64 r] [.one .bool] st (fun (b1:Bool) a=>BIf (!b1) (K [] 2 a) (BId (r<128) (Ag ((toBytes a (.list 1 .full 1 [(.int .u8 (u8.wrap r))])).map TV.str) (fun (x1:TV)=>Af .str x1 (fun (s1:B8)=>K s1 0 a))) (BId (r<2048) (Ag ((toBytes a (.list 1 .full 2 [(.int .u8 (u8.wrap (AI .or .i64 (192:Int) (Int.fdiv r (2^(min (Int.toNat (6:Int)) (IntKind.bits .i64))))))),(.int .u8 (u8.wrap (AI .or .i64 (128:Int) (AI .and .i64 r (63:Int)))))])).map TV.str) (fun (x2:TV)=>Af .str x2 (fun (s2:B8)=>K s2 0 a))) (BId (r<65536) (Ag ((toBytes a (.list 1 .full 3 [(.int .u8 (u8.wrap (AI .or .i64 (224:Int) (Int.fdiv r (2^(min (Int.toNat (12:Int)) (IntKind.bits .i64))))))),(.int .u8 (u8.wrap (AI .or .i64 (128:Int) (AI .and .i64 (Int.fdiv r (2^(min (Int.toNat (6:Int)) (IntKind.bits .i64)))) (63:Int))))),(.int .u8 (u8.wrap (AI .or .i64 (128:Int) (AI .and .i64 r (63:Int)))))])).map TV.str) (fun (x3:TV)=>Af .str x3 (fun (s3:B8)=>K s3 0 a))) (Ag ((toBytes a (.list 1 .full 4 [(.int .u8 (u8.wrap (AI .or .i64 (240:Int) (Int.fdiv r (2^(min (Int.toNat (18:Int)) (IntKind.bits .i64))))))),(.int .u8 (u8.wrap (AI .or .i64 (128:Int) (AI .and .i64 (Int.fdiv r (2^(min (Int.toNat (12:Int)) (IntKind.bits .i64)))) (63:Int))))),(.int .u8 (u8.wrap (AI .or .i64 (128:Int) (AI .and .i64 (Int.fdiv r (2^(min (Int.toNat (6:Int)) (IntKind.bits .i64)))) (63:Int))))),(.int .u8 (u8.wrap (AI .or .i64 (128:Int) (AI .and .i64 r (63:Int)))))])).map TV.str) (fun (x4:TV)=>Af .str x4 (fun (s4:B8)=>K s4 0 a)))))))):CallT PR Bx [.int .i64 r] [.one .str,.one (.int .i64)] st K:=
 Ae (cfg:=⟨[],[],[]⟩) (h:= .none) mixed (fun _ _=>Tryz.call302 _ _) Tryz.func302 (by kernel_rfl) (by kernel_rfl) h
theorem Ke (b:TV) (st:St) (K:St->Prop) (h:need (isSl b) (∃(I1:Int->Int->TV->St->Prop) (M1:Int->Int->TV->St->Nat),(I1 0 ((i64.wrap ((lenS b:Int)-(1:Int)))) b st)/\∀c d a e,I1 c d a e->(BId (c<d) (((0<=d/\d<(lenZ 1 a:Int))/\Ag (Ac e [] (.t (ixT 1 a d.toNat)) 0) (fun (x1:TV)=>Af (.int .u8) x1 (fun (n1:Int)=>((0<=c/\c<(lenZ 1 a:Int))/\Ag (Ac e [] (.t (ixT 1 a c.toNat)) 0) (fun (x2:TV)=>Af (.int .u8) x2 (fun (n2:Int)=>((0<=c/\c<(lenZ 1 a:Int))/\stB e (ixT 1 a c.toNat) [.int .u8 n1] (fun g=>((0<=d/\d<(lenZ 1 a:Int))/\stB g (ixT 1 a d.toNat) [.int .u8 n2] (fun f=>(I1 ((i64.wrap (c+(1:Int)))) ((i64.wrap (d-(1:Int)))) a f/\M1 ((i64.wrap (c+(1:Int)))) ((i64.wrap (d-(1:Int)))) a f<M1 c d a e)))))))))))) (K e)))):CallT PR DT [b] [] st K:=
 Ae (cfg:=⟨[],[],[]⟩) (h:=(.seq .none (.block (.loop ⟨[(2,.int .i64),(3,.int .i64),(0,.tv)],[],[],[]⟩ .none)))) mixed (fun _ _=>Tryz.call306 _ _) Tryz.func306 (by kernel_rfl) (by kernel_rfl) h
theorem Ki (n:Int) (st:St) (K:Bool->St->Prop) (h:BId ((0:Int)<=n) (K ((decide (n<=3652058))) st) (K false st)):CallT PR F1 [.int .i64 n] [.one .bool] st K:=
 Ae (cfg:=⟨[],[],[]⟩) (h:= .none) mixed (fun _ _=>Tryz.call307 _ _) Tryz.func307 (by kernel_rfl) (by kernel_rfl) h
theorem Hb (s:B8) (st:St) (K:Bool->St->Prop) (h:∃(I1:Int->B8->St->Prop) (M1:Int->B8->St->Nat),(I1 0 s st)/\∀a b c,I1 a b c->(BId (a<(b.length:Int)) (((0<=a/\a<(b.length:Int))/\BId (((List.getD b a.toNat 0).toNat:Int)<(48:Int)) (K false c) (((0<=a/\a<(b.length:Int))/\BId ((57:Int)<((List.getD b a.toNat 0).toNat:Int)) (K false c) ((I1 ((i64.wrap (a+(1:Int)))) b c/\M1 ((i64.wrap (a+(1:Int)))) b c<M1 a b c)))))) (K true c))):CallT PR Cl [.str s] [.one .bool] st K:=
 Ae (cfg:=⟨[],[],[]⟩) (h:=(.seq .none (.seq (.seq .none (.block (.loop ⟨[(3,.int .i64),(0,.str)],[],[],[]⟩ .none))) .none))) mixed (fun _ _=>Tryz.call316 _ _) Tryz.func316 (by kernel_rfl) (by kernel_rfl) h
theorem FP (r:Int) (st:St) (K:Bool->St->Prop) (h:BId ((0:Int)<=r) (BId (r<=1114111) (BId (r<55296) (K true st) (K ((decide ((57343:Int)<r))) st)) (K false st)) (K false st)):CallT PR BQ [.int .i64 r] [.one .bool] st K:=
 Ae (cfg:=⟨[],[],[]⟩) (h:= .none) mixed (fun _ _=>Tryz.call320 _ _) Tryz.func320 (by kernel_rfl) (by kernel_rfl) h
section
structure Sc where
 kind:Int
 b:Bool
 neg:Bool
 dg:B8
 ex:Int
 tk:Int
 td:Int
 tn:Int
 tz:Int
 text:B8
 bytes:B8
mutual
inductive Vl where
 | mk (s:Sc) (l:List Vl) (f:List Fd)
inductive Fd where
 | mk (k:B8) (v:Vl)
end
def Vl.sc:Vl->Sc | .mk s _ _=>s
def Fd.key:Fd->B8 | .mk k _=>k
def SlR (st:St) (sz:Nat) (v:TV) (n:Nat) (xs:List TV):Prop:=
 Rd sz v n xs∨∃b off cap l,v= .ms sz b off n cap/\b<st.nb/\st.box b= .cells l/\off+cap*sz<=l.length/\n<=cap/\xs=(l.drop off).take (n*sz)
theorem SlR.of_rd {st:St} {sz n:Nat} {v:TV} {xs:List TV} (h:Rd sz v n xs):SlR st sz v n xs:= .inl h
def D4 (st st':St):Prop:=st.nb<=st'.nb/\∀b,b<st.nb->st'.box b=st.box b
theorem SlR.keep {st st':St} (k:D4 st st') {sz n:Nat} {v:TV} {xs:List TV} (h:SlR st sz v n xs):SlR st' sz v n xs:=by
 rcases h with h | ⟨b,off,cap,l,h1,h2,h3,h4,h5,h6⟩
 ·exact .inl h
 ·exact .inr ⟨b,off,cap,l,h1,Nat.lt_of_lt_of_le h2 k.1,(k.2 b h2).trans h3,h4,h5,h6⟩
mutual
def VlR (st:St):Vl->List TV->Prop
 | .mk s l f,cs=>∃ub ul uf xl xf,cs=[.int .i64 s.kind,.bool s.b,.bool s.neg,.str s.dg,.int .i64 s.ex,.int .i64 s.tk,.int .i64 s.td,.int .i64 s.tn,.int .i64 s.tz,.str s.text,ub,ul,uf]/\
   SlR st 1 ub s.bytes.length (AF s.bytes)/\SlR st 13 ul l.length xl/\VsR st l xl/\SlR st 14 uf f.length xf/\FsR st f xf
def VsR (st:St):List Vl->List TV->Prop
 | [],xs=>xs=[]
 | v::r,xs=>∃a b,xs=a++b/\VlR st v a/\VsR st r b
def FdR (st:St):Fd->List TV->Prop
 | .mk k v,xs=>∃cs,xs= .str k::cs/\VlR st v cs
def FsR (st:St):List Fd->List TV->Prop
 | [],xs=>xs=[]
 | d::r,xs=>∃a b,xs=a++b/\FdR st d a/\FsR st r b
end
theorem VlR.len {st:St} {v:Vl} {cs:List TV} (h:VlR st v cs):cs.length=13:=by
 cases v;unfold VlR at h;obtain⟨ub,ul,uf,xl,xf,rfl,_⟩:=h;rfl
theorem FdR.len {st:St} {v:Fd} {cs:List TV} (h:FdR st v cs):cs.length=14:=by
 cases v;unfold FdR at h;obtain⟨c,rfl,h⟩:=h;simp[h.len]
theorem VsR.len {st:St}:∀{l:List Vl} {xs:List TV},VsR st l xs->xs.length=l.length*13
 | [],xs,h=>by unfold VsR at h;subst h;rfl
 | v::r,xs,h=>by
  unfold VsR at h
  obtain⟨a,b,rfl,h1,h2⟩:=h
  rw[List.length_append,h1.len,VsR.len h2,List.length_cons];omega
theorem FsR.len {st:St}:∀{l:List Fd} {xs:List TV},FsR st l xs->xs.length=l.length*14
 | [],xs,h=>by unfold FsR at h;subst h;rfl
 | v::r,xs,h=>by
  unfold FsR at h
  obtain⟨a,b,rfl,h1,h2⟩:=h
  rw[List.length_append,h1.len,FsR.len h2,List.length_cons];omega
theorem VsR.get {st:St}:∀{l:List Vl} {xs:List TV} {i:Nat} {v:Vl},VsR st l xs->l[i]? =some v->∃cs,VlR st v cs/\(xs.drop (i*13)).take 13=cs/\cs.length=13
 | [],xs,i,v,h,hi=>by simp at hi
 | w::r,xs,i,v,h,hi=>by
  unfold VsR at h
  obtain⟨a,b,rfl,h1,h2⟩:=h
  cases i with
  | zero=>
   simp only[List.getElem?_cons_zero,Option.some.injEq]at hi
   subst hi
   refine⟨a,h1,?_,h1.len⟩
   rw[Nat.zero_mul,List.drop_zero,<-h1.len,List.take_left]
  | succ i=>
   obtain⟨cs,h3,h4,h5⟩:=VsR.get h2 (by simpa using hi)
   refine⟨cs,h3,?_,h5⟩
   rw[show(i+1)*13=a.length+i*13 by rw[h1.len];omega,List.drop_append]
   simp only[Nat.add_sub_cancel_left]
   rw[List.drop_of_length_le (by omega),List.nil_append];exact h4
theorem FsR.get {st:St}:∀{l:List Fd} {xs:List TV} {i:Nat} {v:Fd},FsR st l xs->l[i]? =some v->∃cs,FdR st v cs/\(xs.drop (i*14)).take 14=cs/\cs.length=14
 | [],xs,i,v,h,hi=>by simp at hi
 | w::r,xs,i,v,h,hi=>by
  unfold FsR at h
  obtain⟨a,b,rfl,h1,h2⟩:=h
  cases i with
  | zero=>
   simp only[List.getElem?_cons_zero,Option.some.injEq]at hi
   subst hi
   refine⟨a,h1,?_,h1.len⟩
   rw[Nat.zero_mul,List.drop_zero,<-h1.len,List.take_left]
  | succ i=>
   obtain⟨cs,h3,h4,h5⟩:=FsR.get h2 (by simpa using hi)
   refine⟨cs,h3,?_,h5⟩
   rw[show(i+1)*14=a.length+i*14 by rw[h1.len];omega,List.drop_append]
   simp only[Nat.add_sub_cancel_left]
   rw[List.drop_of_length_le (by omega),List.nil_append];exact h4
end
structure StX (S:Nat->Prop) (a b:St):Prop where
 nb:a.nb<=b.nb
 box:∀i,i<a.nb->¬S i->b.box i=a.box i
 nt:a.nt<=b.nt
 live:∀i,i<a.nt->b.live i=a.live i
 ty:∀i,i<a.nt->b.ty i=a.ty i
 bt:∀i,i<a.nb->b.bt i=a.bt i
theorem StX.refl (S:Nat->Prop) (a:St):StX S a a:=⟨Nat.le_refl _,fun _ _ _=>rfl,Nat.le_refl _,fun _ _=>rfl,fun _ _=>rfl,fun _ _=>rfl⟩
theorem StX.trans {S:Nat->Prop} {a b c:St} (h:StX S a b) (k:StX S b c):StX S a c:=
 ⟨Nat.le_trans h.nb k.nb,fun i hi hs=>(k.box i (Nat.lt_of_lt_of_le hi h.nb) hs).trans (h.box i hi hs),Nat.le_trans h.nt k.nt,fun i hi=>(k.live i (Nat.lt_of_lt_of_le hi h.nt)).trans (h.live i hi),fun i hi=>(k.ty i (Nat.lt_of_lt_of_le hi h.nt)).trans (h.ty i hi),fun i hi=>(k.bt i (Nat.lt_of_lt_of_le hi h.nb)).trans (h.bt i hi)⟩
theorem StX.mono {S T:Nat->Prop} {a b:St} (h:StX S a b) (k:∀i,S i->T i):StX T a b:=
 ⟨h.nb,fun i hi hs=>h.box i hi fun g=>hs (k i g),h.nt,h.live,h.ty,h.bt⟩
theorem StX.of {S:Nat->Prop} {a b:St} (h:As a b):StX S a b:=⟨h.nb,fun i hi _=>h.box i hi,h.nt,h.live,h.ty,h.bt⟩
theorem StX.ext {S:Nat->Prop} {a b c:St} (h:As a b) (k:StX S b c) (hs:∀i,S i->a.nb<=i):As a c:=
 ⟨Nat.le_trans h.nb k.nb,fun i hi=>(k.box i (Nat.lt_of_lt_of_le hi h.nb) fun g=>absurd (hs i g) (by omega)).trans (h.box i hi),Nat.le_trans h.nt k.nt,fun i hi=>(k.live i (Nat.lt_of_lt_of_le hi h.nt)).trans (h.live i hi),fun i hi=>(k.ty i (Nat.lt_of_lt_of_le hi h.nt)).trans (h.ty i hi),fun i hi=>(k.bt i (Nat.lt_of_lt_of_le hi h.nb)).trans (h.bt i hi)⟩
theorem StX.put {S:Nat->Prop} {a:St} {i:Nat} (hi:S i) (o:J7):StX S a (a.put i o):=
 ⟨Nat.le_refl _,fun j hj hs=>by simp only[St.put];rw[if_neg (by rintro rfl;exact hs hi)],Nat.le_refl _,fun _ _=>rfl,fun _ _=>rfl,fun _ _=>rfl⟩
theorem decA14 {k:B8} {n1:Int} {b1 b2:Bool} {s2:B8} {n2 n3 n4 n5 n6:Int} {s3:B8} {u1 u2 u3:TV} {f:Fun [.str,.int .i64,.bool,.bool,.str,.int .i64,.int .i64,.int .i64,.int .i64,.int .i64,.str,.tv,.tv,.tv] Prop} (h:f k n1 b1 b2 s2 n2 n3 n4 n5 n6 s3 u1 u2 u3):
  A1 [.str,.int .i64,.bool,.bool,.str,.int .i64,.int .i64,.int .i64,.int .i64,.int .i64,.str,.tv,.tv,.tv] (.agg [.str k,.int .i64 n1,.bool b1,.bool b2,.str s2,.int .i64 n2,.int .i64 n3,.int .i64 n4,.int .i64 n5,.int .i64 n6,.str s3,u1,u2,u3]) f:=h
theorem Nj:∀(ys A c B:List TV),ys.length=c.length->setAll (A++c++B) A.length ys=A++ys++B
 | [],A,c,B,h=>by
  have:c=[]:=List.eq_nil_of_length_eq_zero (by simpa using h.symm)
  subst this;rfl
 | y::ys,A,[],B,h=>by simp at h
 | y::ys,A,x::c,B,h=>by
  rw[setAll]
  have e:(A++x::c++B).set A.length y=(A++[y])++c++B:=by simp
  rw[e]
  have:=Nj ys (A++[y]) c B (by simpa using h)
  rw[List.length_append]at this
  rw[show A.length+1=A.length+ [y].length from rfl,this]
  simp
theorem ME {st:St} {b:Nat} {B:List TV}:∀(c:List TV) (l:List TV) (j o:Nat),st.box b= .cells l->l.drop (o+j)=c++B->Aj st [] (.t (.box b o)) j c.length=some c
 | [],l,j,o,h,hd=>rfl
 | x::c,l,j,o,h,hd=>by
  have hx:l[o+j]? =some x:=by
   have:=congrArg (fun z:List TV=>z[0]?) hd
   simpa using this
  have hd2:l.drop (o+(j+1))=c++B:=by
   have:=congrArg (fun z:List TV=>z.drop 1) hd
   simpa [List.drop_drop,Nat.add_assoc]using this
  show(match Ac st [] (.t (.box b o)) j with | some x=>(Aj st [] (.t (.box b o)) (j+1) c.length).map (x::·) | none=>none)=_
  have:Ac st [] (.t (.box b o)) j=some x:=by simp only[Ac,h];exact hx
  rw[this]
  simp only
  rw[ME c l (j+1) o h hd2];rfl
theorem Bk {g:Ghost} {w:World} {l:B8} {v:Value} (h:Rel g w (.str l) v):v= .string ⟨l.toArray⟩:=by cases h;rfl
theorem Rb {g:Ghost} {w:World} {k:IntKind} {n:Int} {v:Value} (h:Rel g w (.int k n) v):v= .int k n:=by cases h;rfl
theorem VN {g:Ghost} {w:World} {x:TV} {vs:List Value} (h:AL g w [x] vs):∃v,vs=[v]/\Rel g w x v:=by
 obtain⟨v,h1,h2⟩:=h.get? (i:=0) rfl
 have:=h.1
 cases vs with
 | nil=>simp at this
 | cons a r=>cases r with
  | nil=>simp at h1;subst h1;exact⟨_,rfl,h2⟩
  | cons b r=>simp at this
theorem Nm {g:Ghost} {w:World} {x y:TV} {vs:List Value} (h:AL g w [x,y] vs):∃v u,vs=[v,u]/\Rel g w x v/\Rel g w y u:=by
 obtain⟨v,h1,h2⟩:=h.get? (i:=0) rfl
 obtain⟨u,h3,h4⟩:=h.get? (i:=1) rfl
 have:=h.1
 cases vs with
 | nil=>simp at this
 | cons a r=>cases r with
  | nil=>simp at this
  | cons b r=>cases r with
   | nil=>simp at h1 h3;subst h1 h3;exact⟨_,_,rfl,h2,h4⟩
   | cons c r=>simp at this
section
inductive R0 {α β:Type} (R:α->β->Prop):List α->List β->Prop
 | nil:R0 R [] []
 | cons {a:α} {b:β} {l:List α} {m:List β}:R a b->R0 R l m->R0 R (a::l) (b::m)
theorem FsR.chunks {st:St}:∀{f:List Fd} {xs:List TV},FsR st f xs->∃cks:List (List TV),xs=cks.flatten/\R0 (FdR st) f cks
 | [],xs,h=>by unfold FsR at h;subst h;exact⟨[],rfl,.nil⟩
 | d::r,xs,h=>by
  unfold FsR at h
  obtain⟨a,b,rfl,h1,h2⟩:=h
  obtain⟨cks,rfl,h3⟩:=FsR.chunks h2
  exact⟨a::cks,by simp,.cons h1 h3⟩
theorem FsR.of_chunks {st:St} {f:List Fd} {cks:List (List TV)} (h:R0 (FdR st) f cks):FsR st f cks.flatten:=by
 induction h with
 | nil=>unfold FsR;rfl
 | cons r _ ih=>unfold FsR;exact⟨_,_,by simp,r,ih⟩
theorem SlR.one {st:St} {sz n:Nat} {u:TV} {xs:List TV} (h:SlR st sz u n xs):Ap u=true:=by
 rcases h with(⟨rfl,_⟩ | ⟨tip,rfl⟩) | ⟨b,off,cap,l,rfl,_⟩<;>rfl
theorem As.keeps {a b:St} (h:As a b):D4 a b:=⟨h.nb,h.box⟩
section
variable {st:St}
end
end
def HJ (st:St) (sz:Nat) (u:TV) (n:Nat) (xs:List TV) (bs:List Nat):Prop:=
 (n=0/\xs=[]/\bs=[]/\(u= .nilSlice∨u= .list sz .full 0 []))∨∃b cap tail,u= .ms sz b 0 n cap/\b<st.nb/\st.box b= .cells (xs++tail)/\(xs++tail).length=cap*sz/\xs.length=n*sz/\n<=cap/\bs=[b]
theorem HJ.rd {st:St} {sz n:Nat} {u:TV} {xs:List TV} {bs:List Nat} (h:HJ st sz u n xs bs):SlR st sz u n xs:=by
 rcases h with⟨rfl,rfl,rfl,rfl | rfl⟩ | ⟨b,cap,tail,rfl,h1,h2,h3,h4,h5,rfl⟩
 ·exact .inl (.inl ⟨rfl,rfl,rfl⟩)
 ·exact .inl (.inr ⟨_,rfl⟩)
 ·exact .inr ⟨b,0,cap,_,rfl,h1,h2,by omega,h5,by rw[List.drop_zero,<-h4,List.take_left]⟩
theorem Sg (xs ys tail:List TV) (h:ys.length<=tail.length):setAll (xs++tail) xs.length ys=xs++ys++tail.drop ys.length:=by
 have e:tail=tail.take ys.length++tail.drop ys.length:=(List.take_append_drop _ _).symm
 have:=Nj ys xs (tail.take ys.length) (tail.drop ys.length) (by simp;omega)
 rw[List.append_assoc,List.take_append_drop]at this
 exact this
theorem Vo {T sz bytes:Nat} {st:St} {u:TV} {n k:Nat} {xs ys:List TV} {bs:List Nat} {K:TV->St->Prop} (h:HJ st sz u n xs bs) (hk1:0<k) (hy:ys.length=k*sz) (hby:(n+k)*bytes<=140737488355328)
  (hK:∀u' st' bs',HJ st' sz u' (n+k) (xs++ys) bs'->StX (·∈bs) st st'->((bs'=bs/\bs≠ [])∨bs'=[st.nb])->K u' st'):Mx T sz bytes u k ys st K:=by
 obtain⟨m,rfl⟩:∃m,k=m+1:=⟨k-1,by omega⟩
 have fresh:∀(zs:List TV) (N cap:Nat),zs.length=N*sz->N<=cap->HJ (st.push (.cells (zs++FY ((cap-N)*sz))) (some T)) sz (.ms sz st.nb 0 N cap) N zs [st.nb]:=fun zs N cap h1 h2=>
  .inr ⟨st.nb,cap,FY ((cap-N)*sz),rfl,by simp[St.push],by simp[St.push],by rw[List.length_append,h1];simp only[FY,List.length_replicate];rw[<-Nat.add_mul];congr 1;omega,h1,h2,rfl⟩
 rcases h with⟨rfl,rfl,rfl,rfl | rfl⟩ | ⟨b,cap,tail,rfl,h1,h2,h3,h4,h5,rfl⟩
 ·simp only[Mx,Au]
  refine⟨by simpa using hby,fun cap hc=>hK _ _ [st.nb] ?_ (StX.of ((As.refl st).push _ _)) (.inr rfl)⟩
  have:=fresh ys (m+1) cap hy hc
  simpa using this
 ·simp only[Mx,Nat.beq_refl]
  refine⟨hby,fun cap hc=>hK _ _ [st.nb] ?_ (StX.of ((As.refl st).push _ _)) (.inr rfl)⟩
  have:=fresh ys (0+(m+1)) cap (by rw[hy];congr 1;omega) hc
  simpa using this
 ·simp only[Mx,Nat.beq_refl]
  rw[List.length_append]at h3
  refine⟨hby,_,h2,by rw[List.length_append];omega,fun hc=>?_,fun hc cap' hc'=>?_⟩
  ·have hmul:(n+(m+1))*sz<=cap*sz:=Nat.mul_le_mul_right _ hc
   rw[Nat.add_mul]at hmul
   rw[Nat.zero_add,<-h4,Sg xs ys tail (by omega)]
   refine hK _ _ [b] (.inr ⟨b,cap,tail.drop ys.length,rfl,h1,by simp[St.put],by simp only[List.length_append,List.length_drop];omega,by rw[List.length_append,h4,hy,<-Nat.add_mul],hc,rfl⟩) (StX.put (S:=(·∈ [b])) (.head _) _) (.inl ⟨rfl,by simp⟩)
  ·rw[List.drop_zero,<-h4,List.take_left]
   exact hK _ _ [st.nb] (fresh (xs++ys) (n+(m+1)) cap' (by rw[List.length_append,h4,hy,<-Nat.add_mul]) hc') (StX.of ((As.refl st).push _ _)) (.inr rfl)
section
mutual
def Vl.sz:Vl->Nat
 | .mk s l f=>1+s.bytes.length+s.text.length+s.dg.length+DM l+E6 f
def DM:List Vl->Nat
 | []=>0
 | v::r=>v.sz+DM r
def Fd.sz:Fd->Nat
 | .mk k v=>k.length+v.sz
def E6:List Fd->Nat
 | []=>0
 | d::r=>d.sz+E6 r
end
theorem Vl.sz_pos (v:Vl):1<=v.sz:=by cases v;unfold Vl.sz;omega
theorem J9:∀l:List Vl,l.length<=DM l
 | []=>Nat.le_refl _
 | v::r=>by have:=J9 r;have:=v.sz_pos;unfold DM;simp only[List.length_cons];omega
theorem IG:∀l:List Fd,l.length<=E6 l
 | []=>Nat.le_refl _
 | .mk k v::r=>by have:=IG r;have:=v.sz_pos;unfold E6 Fd.sz;simp only[List.length_cons];omega
theorem Ka:∀{l:List Vl} {i:Nat} {v:Vl},l[i]? =some v->v.sz<=DM l
 | [],i,v,h=>by simp at h
 | w::r,0,v,h=>by simp at h;subst h;unfold DM;omega
 | w::r,i+1,v,h=>by have:=Ka (by simpa using h:r[i]? =some v);unfold DM;omega
theorem IH:∀{l:List Fd} {i:Nat} {d:Fd},l[i]? =some d->d.sz<=E6 l
 | [],i,v,h=>by simp at h
 | w::r,0,v,h=>by simp at h;subst h;unfold E6;omega
 | w::r,i+1,v,h=>by have:=IH (by simpa using h:r[i]? =some v);unfold E6;omega
theorem ND {st:St} {ys:List TV}:∀(k j:Nat),j+k<=ys.length->Aj st [] (.t (.rptr ys)) j k=some ((ys.drop j).take k)
 | 0,j,h=>by simp[Aj]
 | k+1,j,h=>by
  show(match Ac st [] (.t (.rptr ys)) j with | some x=>(Aj st [] (.t (.rptr ys)) (j+1) k).map (x::·) | none=>none)=_
  have hj:j<ys.length:=by omega
  have:Ac st [] (.t (.rptr ys)) j=some ys[j]:=by simp[Ac,hj]
  rw[this]
  simp only
  rw[ND k (j+1) (by omega),List.drop_eq_getElem_cons hj]
  rfl
theorem SlR.ldc {st:St} {sz n i:Nat} {u:TV} {xs:List TV} (h:SlR st sz u n xs) (hl:xs.length=n*sz) (hi:i<n):Aj st [] (.t (ixT sz u i)) 0 sz=some ((xs.drop (i*sz)).take sz):=by
 have hm:(i+1)*sz<=n*sz:=Nat.mul_le_mul_right _ hi
 rw[Nat.add_mul,Nat.one_mul]at hm
 rcases h with(⟨rfl,rfl,rfl⟩ | ⟨tip,rfl⟩) | ⟨b,off,cap,l,rfl,h2,h3,h4,h5,rfl⟩
 ·omega
 ·show Aj st [] (.t (.rptr (xs.drop (i*sz)))) 0 sz=_
  rw[ND sz 0 (by rw[List.length_drop];omega),List.drop_zero]
 ·have hc:n*sz<=cap*sz:=Nat.mul_le_mul_right _ h5
  have e1:(((l.drop off).take (n*sz)).drop (i*sz)).take sz=(l.drop (off+i*sz)).take sz:=by
   rw[List.drop_take,List.drop_drop,List.take_take,Nat.min_eq_left (by omega)]
  rw[e1]
  have e:=ME (B:=l.drop (off+i*sz+sz)) (st:=st) (b:=b) ((l.drop (off+i*sz)).take sz) l 0 (off+i*sz) h3 (by
   have:=List.take_append_drop sz (l.drop (off+i*sz))
   rw[List.drop_drop]at this
   rw[Nat.add_zero];exact this.symm)
  rw[show((l.drop (off+i*sz)).take sz).length=sz by simp;omega]at e
  exact e
theorem SlR.lenZ {st:St} {sz n:Nat} {u:TV} {xs:List TV} (h:SlR st sz u n xs):TVF.lenZ sz u=n:=by
 rcases h with(⟨rfl,rfl,rfl⟩ | ⟨tip,rfl⟩) | ⟨b,off,cap,l,rfl,h2,h3,h4,h5,rfl⟩
 ·rfl
 ·simp[TVF.lenZ]
 ·simp[TVF.lenZ]
theorem SlR.lenS {st:St} {sz n:Nat} {u:TV} {xs:List TV} (h:SlR st sz u n xs):TVF.lenS u=n:=by
 rcases h with(⟨rfl,rfl,rfl⟩ | ⟨tip,rfl⟩) | ⟨b,off,cap,l,rfl,h2,h3,h4,h5,rfl⟩<;>rfl
theorem SlR.isSl {st:St} {sz n:Nat} {u:TV} {xs:List TV} (h:SlR st sz u n xs):TVF.isSl u=true:=by
 rcases h with(⟨rfl,rfl,rfl⟩ | ⟨tip,rfl⟩) | ⟨b,off,cap,l,rfl,h2,h3,h4,h5,rfl⟩<;>rfl
theorem HJ.nil (st:St) (sz:Nat):HJ st sz .nilSlice 0 [] []:= .inl ⟨rfl,rfl,rfl,.inl rfl⟩
theorem WM {n1:Int} {b1 b2:Bool} {s2:B8} {n2 n3 n4 n5 n6:Int} {s3:B8} {u1 u2 u3:TV} {f:Fun [.int .i64,.bool,.bool,.str,.int .i64,.int .i64,.int .i64,.int .i64,.int .i64,.str,.tv,.tv,.tv] Prop} (h:f n1 b1 b2 s2 n2 n3 n4 n5 n6 s3 u1 u2 u3):
  A1 [.int .i64,.bool,.bool,.str,.int .i64,.int .i64,.int .i64,.int .i64,.int .i64,.str,.tv,.tv,.tv] (.agg [.int .i64 n1,.bool b1,.bool b2,.str s2,.int .i64 n2,.int .i64 n3,.int .i64 n4,.int .i64 n5,.int .i64 n6,.str s3,u1,u2,u3]) f:=h
theorem BY {n1:Int} {b1 b2:Bool} {s2:B8} {n2 n3 n4 n5 n6:Int} {s3:B8} {u1 u2 u3:TV} (h1:Ap u1=true) (h2:Ap u2=true) (h3:Ap u3=true):
  List.all [.int .i64 n1,.bool b1,.bool b2,.str s2,.int .i64 n2,.int .i64 n3,.int .i64 n4,.int .i64 n5,.int .i64 n6,.str s3,u1,u2,u3] Ap=true:=by
 simp only[List.all_cons,List.all_nil,h1,h2,h3,Bool.and_true];rfl
end
theorem one14 {k:B8} {n1:Int} {b1 b2:Bool} {s2:B8} {n2 n3 n4 n5 n6:Int} {s3:B8} {u1 u2 u3:TV} (h1:Ap u1=true) (h2:Ap u2=true) (h3:Ap u3=true):
  List.all [.str k,.int .i64 n1,.bool b1,.bool b2,.str s2,.int .i64 n2,.int .i64 n3,.int .i64 n4,.int .i64 n5,.int .i64 n6,.str s3,u1,u2,u3] Ap=true:=by
 simp only[List.all_cons,List.all_nil,h1,h2,h3,Bool.and_true];rfl
def Bf (s:Sc) (ub ul uf:TV):List TV:=[.int .i64 s.kind,.bool s.b,.bool s.neg,.str s.dg,.int .i64 s.ex,.int .i64 s.tk,.int .i64 s.td,.int .i64 s.tn,.int .i64 s.tz,.str s.text,ub,ul,uf]
theorem R0.snoc {α β:Type} {R:α->β->Prop} {a:α} {b:β} {l:List α} {m:List β} (h:R0 R l m) (r:R a b):R0 R (l++[a]) (m++[b]):=by
 induction h with
 | nil=>exact .cons r .nil
 | cons r' _ ih=>exact .cons r' ih
theorem Wy {l:List Fd} {v:Fd} (h:v∈l):v.sz<=E6 l:=by
 obtain⟨i,hi⟩:=List.getElem?_of_mem h
 exact IH hi
theorem natB_lt (n:Nat) (h:n<256):n.toUInt8.toNat=n:=by simp;omega
theorem el13 {st0 st:St} {ul:TV} {xl:List TV} {l:List Vl} (hke:D4 st0 st) (h2:SlR st0 13 ul l.length xl) (h3:VsR st0 l xl) {i:Int} {k:Nat} (hi:i=k) (hk:k<l.length) {f:Fun [.int .i64,.bool,.bool,.str,.int .i64,.int .i64,.int .i64,.int .i64,.int .i64,.str,.tv,.tv,.tv] Prop}
  (hf:∀s' l' f' ub1 ul1 uf1,l[k]? =some (.mk s' l' f')->VlR st0 (.mk s' l' f') (Bf s' ub1 ul1 uf1)->List.all (Bf s' ub1 ul1 uf1) Ap=true->f s'.kind s'.b s'.neg s'.dg s'.ex s'.tk s'.td s'.tn s'.tz s'.text ub1 ul1 uf1):
  (0<=i/\i<(lenZ 13 ul:Int))/\Ag ((Aj st [] (.t (ixT 13 ul (Int.toNat i))) 0 13).map TV.agg) fun x=>A1 [.int .i64,.bool,.bool,.str,.int .i64,.int .i64,.int .i64,.int .i64,.int .i64,.str,.tv,.tv,.tv] x f:=by
 subst hi
 have gw:l[k]? =some l[k]:=List.getElem?_eq_getElem hk
 obtain⟨cw,hw,hcw,hcl⟩:=h3.get gw
 rw[h2.lenZ,Int.toNat_natCast,(h2.keep hke).ldc h3.len hk,hcw]
 generalize l[k]=w at*
 cases w with
 | mk s' l' f'=>
 have hw0:=hw
 unfold VlR at hw0
 obtain⟨ub',ul',uf',xl',xf',rfl,w1,w2,w3,w4,w5⟩:=hw0
 exact⟨⟨by omega,by omega⟩,Ad rfl (WM (hf s' l' f' ub' ul' uf' gw hw (BY w1.one w2.one w4.one)))⟩
theorem el14 {st0 st:St} {uf:TV} {xf:List TV} {l:List Fd} (hke:D4 st0 st) (h2:SlR st0 14 uf l.length xf) (h3:FsR st0 l xf) {i:Int} {k:Nat} (hi:i=k) (hk:k<l.length) {f:Fun [.str,.int .i64,.bool,.bool,.str,.int .i64,.int .i64,.int .i64,.int .i64,.int .i64,.str,.tv,.tv,.tv] Prop}
  (hf:∀key s' l' f' ub1 ul1 uf1,l[k]? =some (.mk key (.mk s' l' f'))->VlR st0 (.mk s' l' f') (Bf s' ub1 ul1 uf1)->List.all (.str key::Bf s' ub1 ul1 uf1) Ap=true->f key s'.kind s'.b s'.neg s'.dg s'.ex s'.tk s'.td s'.tn s'.tz s'.text ub1 ul1 uf1):
  (0<=i/\i<(lenZ 14 uf:Int))/\Ag ((Aj st [] (.t (ixT 14 uf (Int.toNat i))) 0 14).map TV.agg) fun x=>A1 [.str,.int .i64,.bool,.bool,.str,.int .i64,.int .i64,.int .i64,.int .i64,.int .i64,.str,.tv,.tv,.tv] x f:=by
 subst hi
 have gw:l[k]? =some l[k]:=List.getElem?_eq_getElem hk
 obtain⟨cw,hw,hcw,hcl⟩:=h3.get gw
 rw[h2.lenZ,Int.toNat_natCast,(h2.keep hke).ldc h3.len hk,hcw]
 generalize l[k]=w at*
 cases w with
 | mk key w=>
 cases w with
 | mk s' l' f'=>
 have hw0:=hw
 unfold FdR at hw0
 obtain⟨cw2,rfl,hw1⟩:=hw0
 have hw2:=hw1
 unfold VlR at hw2
 obtain⟨ub',ul',uf',xl',xf',rfl,w1,w2,w3,w4,w5⟩:=hw2
 exact⟨⟨by omega,by omega⟩,Ad rfl (decA14 (hf key s' l' f' ub' ul' uf' gw hw1 (one14 w1.one w2.one w4.one)))⟩
theorem ON {α:Type} {l:List α} {k:Nat} {v:α} (h:l[k]? =some v):l.take (k+1)=l.take k++[v]:=by
 obtain⟨q1,q2⟩:=List.getElem?_eq_some_iff.1 h
 rw[List.take_succ_eq_append_getElem q1,q2]
theorem SK {α:Type} {l:List α} {k:Nat} {v:α} (h:l[k]? =some v):v∈l:=by
 obtain⟨q1,q2⟩:=List.getElem?_eq_some_iff.1 h
 rw[<-q2];exact List.getElem_mem q1
end Go.TVF
section
namespace Go.TVF
open Go.IntKind(i64 u8)
open Go
theorem or_i64 (x y:Nat) (hx:x<2^63) (hy:y<2^63):AI .or .i64 (x:Int) (y:Int)=((x ||| y:Nat):Int):=by
 have h:x ||| y<2^63:=Nat.or_lt_two_pow hx hy
 show IntKind.wrap .i64 ((BitVec.ofInt 64 (x:Int) ||| BitVec.ofInt 64 (y:Int)).toNat:Int)=_
 simp only[BitVec.ofInt_natCast,BitVec.toNat_or,BitVec.toNat_ofNat]
 rw[Nat.mod_eq_of_lt (by omega),Nat.mod_eq_of_lt (by omega),Ah _ (by omega) (by omega)]
theorem and_i64 (x y:Nat) (hx:x<2^63) (hy:y<2^63):AI .and .i64 (x:Int) (y:Int)=((x&&&y:Nat):Int):=by
 have h:x&&&y<2^63:=Nat.and_lt_two_pow _ hy
 show IntKind.wrap .i64 ((BitVec.ofInt 64 (x:Int)&&&BitVec.ofInt 64 (y:Int)).toNat:Int)=_
 simp only[BitVec.ofInt_natCast,BitVec.toNat_and,BitVec.toNat_ofNat]
 rw[Nat.mod_eq_of_lt (by omega),Nat.mod_eq_of_lt (by omega),Ah _ (by omega) (by omega)]
theorem Tx (x y:Nat) (hx:x<2^8) (hy:y<2^8):AI .and .u8 (x:Int) (y:Int)=((x&&&y:Nat):Int):=by
 have h:x&&&y<2^8:=Nat.and_lt_two_pow _ hy
 show IntKind.wrap .u8 ((BitVec.ofInt 8 (x:Int)&&&BitVec.ofInt 8 (y:Int)).toNat:Int)=_
 simp only[BitVec.ofInt_natCast,BitVec.toNat_and,BitVec.toNat_ofNat]
 rw[Nat.mod_eq_of_lt (by omega),Nat.mod_eq_of_lt (by omega),K1 _ (by omega) (by omega)]
theorem P0 (a b m:Nat) (hb:b<2^m) (h:a*2^m+b<2^63):AI .or .i64 ((a*2^m:Nat):Int) (b:Int)=((a*2^m+b:Nat):Int):=by
 have hb':b<2^63:=by omega
 rw[or_i64 _ _ (by omega) hb',Nat.mul_comm a,Nat.two_pow_add_eq_or_of_lt hb]
theorem IS (a m:Nat) (ha:a<2^63) (hm:m<63):AI .and .i64 (a:Int) ((2^m-1:Nat):Int)=((a%2^m:Nat):Int):=by
 have:2^m<2^63:=Nat.pow_lt_pow_right (by decide) hm
 rw[and_i64 _ _ ha (by omega),Nat.and_two_pow_sub_one_eq_mod]
theorem Vv (n:Nat) (h:n<=255):IntKind.wrap .i64 (n:Int)=n:=Ah _ (by omega) (by omega)
theorem Ei {α:Type} (l:List α) (i:Nat) (d:α) (h:i<l.length):l.take (i+1)=l.take i++[l.getD i d]:=by
 rw[List.take_add_one,List.getElem?_eq_getElem h,List.getD,List.getElem?_eq_getElem h];rfl
theorem shr_i64 (x m:Nat) (h:m<=64):Int.fdiv (x:Int) (2^(min m (IntKind.bits .i64)))=((x/2^m:Nat):Int):=by
 rw[show min m (IntKind.bits .i64)=m from Nat.min_eq_left h,show(2:Int)^m=((2^m:Nat):Int) by simp,Int.fdiv_eq_ediv_of_nonneg _ (Int.natCast_nonneg _)]
 rfl
theorem GM {α:Type} (l:List α) (i j:Nat) (d:α):(l.drop i).getD j d=l.getD (i+j) d:=by
 simp[List.getD,List.getElem?_drop]
theorem Pk {α:Type} (l:List α) (i:Nat) (d:α) (h:i<l.length):l.drop i=l.getD i d::l.drop (i+1):=by
 rw[List.drop_eq_getElem_cons h,List.getD,List.getElem?_eq_getElem h];rfl
theorem Eo {α:Type} (l:List α) (i j:Nat):(l.take j).drop i=(l.drop i).take (j-i):=by
 rw[List.drop_take]
def bt (l:B8) (i:Nat):Nat:=(l.getD i 0).toNat
theorem D9 (l:B8) (i:Nat):bt l i<256:=(l.getD i 0).toNat_lt
theorem MK (l:B8) (i j:Nat):bt (l.drop i) j=bt l (i+j):=by simp[bt,GM]
def dN (l:B8):Nat×Nat:=Lib.decodeN l.length (bt l 0) (bt l 1) (bt l 2) (bt l 3)
def ul (l:B8):Nat:=if l=[]∨dN l=(65533,1)then 0 else(dN l).2
def ur (l:B8):Nat:=(dN l).1
def AW (r:Nat):Prop:=r<=1114111/\(r<55296∨57343<r)
instance (r:Nat):Decidable (AW r):=by unfold AW;infer_instance
def Fb (r:Nat):B8:=
 if r<128 then [UInt8.ofNat r]else if r<2048 then [UInt8.ofNat (192+r/64),UInt8.ofNat (128+r%64)]
 else if r<65536 then [UInt8.ofNat (224+r/4096),UInt8.ofNat (128+r/64%64),UInt8.ofNat (128+r%64)]
 else [UInt8.ofNat (240+r/262144),UInt8.ofNat (128+r/4096%64),UInt8.ofNat (128+r/64%64),UInt8.ofNat (128+r%64)]
theorem CK (n:Nat) (c:UInt8):UInt8.ofNat n=c↔n%256=c.toNat:=by
 rw[<-UInt8.toNat_inj];simp
theorem Kp (l:B8) (h:1<=l.length):l.take 1=[l.getD 0 0]:=by
 rw[Ei l 0 0 (by omega)];rfl
theorem Ko (l:B8) (h:2<=l.length):l.take 2=[l.getD 0 0,l.getD 1 0]:=by
 rw[Ei l 1 0 (by omega),Kp l (by omega)];rfl
theorem Hf (l:B8) (h:3<=l.length):l.take 3=[l.getD 0 0,l.getD 1 0,l.getD 2 0]:=by
 rw[Ei l 2 0 (by omega),Ko l (by omega)];rfl
theorem Lj (l:B8) (h:4<=l.length):l.take 4=[l.getD 0 0,l.getD 1 0,l.getD 2 0,l.getD 3 0]:=by
 rw[Ei l 3 0 (by omega),Hf l (by omega)];rfl
def rsz (b0:Nat):Nat:=if 240<=b0 then 4 else if 224<=b0 then 3 else if 192<=b0 then 2 else 1
def rb0 (b0:Nat):Nat:=if 240<=b0 then b0%8 else if 224<=b0 then b0%16 else if 192<=b0 then b0%32 else b0
def BN (l:B8) (r0:Nat):Nat->Nat
 | 0=>r0
 | j+1=>BN l r0 j*64+bt l (j+1)%64
theorem MA (l:B8) (r0:Nat) (h:r0<256):∀j,BN l r0 j<256*64^j
 | 0=>by simpa [BN]using h
 | j+1=>by
  have:=MA l r0 h j
  have h2:=Nat.mod_lt (bt l (j+1)) (show 0<64 by omega)
  simp only[BN,Nat.pow_succ]
  omega
theorem rb0_lt (b0:Nat) (h:b0<256):rb0 b0<256:=by
 unfold rb0
 repeat' split
 all_goals omega
theorem Sj (b0:Nat):1<=rsz b0/\rsz b0<=4:=by
 unfold rsz
 repeat' split
 all_goals omega
def Re (l:B8):Nat×Nat:=
 let size:=rsz (bt l 0)
 let r:=BN l (rb0 (bt l 0)) (size-1)
 if l.length<size then(0,0)else if AW r/\Fb r=l.take size then(r,size)else(0,0)
theorem CV {a b:UInt8} {x y:B8}:(a::x=b::y)↔a=b/\x=y:=by simp
set_option maxHeartbeats 4000000 in
theorem I6 (l:B8) (h:l≠ []):Re l=if ul l=0 then(0,0)else(ur l,ul l):=by
 have hl:1<=l.length:=by cases l with | nil=>exact absurd rfl h | cons a r=>simp
 have h0:=D9 l 0
 have h1:=D9 l 1
 have h2:=D9 l 2
 have h3:=D9 l 3
 have e0:(l.getD 0 0).toNat=bt l 0:=rfl
 have e1:(l.getD 1 0).toNat=bt l 1:=rfl
 have e2:(l.getD 2 0).toNat=bt l 2:=rfl
 have e3:(l.getD 3 0).toNat=bt l 3:=rfl
 have hul:ul l=if dN l=(65533,1)then 0 else(dN l).2:=by simp[ul,h]
 rw[hul,ur]
 unfold dN
 generalize hb0:bt l 0=b0 at*
 generalize hb1:bt l 1=b1 at*
 generalize hb2:bt l 2=b2 at*
 generalize hb3:bt l 3=b3 at*
 unfold Re
 simp only[hb0]
 by_cases c4:240<=b0
 ·have r4:rsz b0=4:=by unfold rsz;rw[if_pos c4]
  have rb:rb0 b0=b0%8:=by unfold rb0;rw[if_pos c4]
  rw[r4,rb]
  simp only[Nat.reduceSub,BN,hb1,hb2,hb3,Nat.zero_add,Nat.reduceAdd]
  by_cases hn:l.length<4
  ·rw[if_pos hn]
   have:Lib.decodeN l.length b0 b1 b2 b3=(65533,1):=by
    unfold Lib.decodeN
    rw[if_neg (by omega),if_neg (by omega),if_neg (by omega),if_neg (by omega)]
   rw[this];simp
  ·rw[if_neg hn]
   have hEnc:(AW (((b0%8*64+b1%64)*64+b2%64)*64+b3%64)/\Fb (((b0%8*64+b1%64)*64+b2%64)*64+b3%64)=l.take 4)↔(b0/8=30/\b1/64=2/\b2/64=2/\b3/64=2/\65536<=((b0%8*64+b1%64)*64+b2%64)*64+b3%64/\((b0%8*64+b1%64)*64+b2%64)*64+b3%64<=1114111):=by
    rw[Lj l (by omega)]
    generalize hr:((b0%8*64+b1%64)*64+b2%64)*64+b3%64=r
    unfold AW Fb
    by_cases k1:r<128
    ·rw[if_pos k1];simp;omega
    ·rw[if_neg k1]
     by_cases k2:r<2048
     ·rw[if_pos k2];simp;omega
     ·rw[if_neg k2]
      by_cases k3:r<65536
      ·rw[if_pos k3];simp;omega
      ·rw[if_neg k3]
       simp only[CV,CK,e0,e1,e2,e3,and_true]
       omega
   by_cases hE:b0/8=30/\b1/64=2/\b2/64=2/\b3/64=2/\65536<=((b0%8*64+b1%64)*64+b2%64)*64+b3%64/\((b0%8*64+b1%64)*64+b2%64)*64+b3%64<=1114111
   ·rw[if_pos (hEnc.2 hE)]
    have:Lib.decodeN l.length b0 b1 b2 b3=(((b0%8*64+b1%64)*64+b2%64)*64+b3%64,4):=by
     unfold Lib.decodeN
     rw[if_neg (by omega),if_neg (by omega),if_neg (by omega),if_pos (by omega),if_pos (by omega)]
     simp only[Prod.mk.injEq,and_true];omega
    rw[this];simp
   ·rw[if_neg (fun hh=>hE (hEnc.1 hh))]
    have:Lib.decodeN l.length b0 b1 b2 b3=(65533,1):=by
     unfold Lib.decodeN
     rw[if_neg (by omega),if_neg (by omega),if_neg (by omega)]
     split
     ·rw[if_neg (by omega)]
     ·rfl
    rw[this];simp
 ·by_cases c3:224<=b0
  ·have r4:rsz b0=3:=by unfold rsz;rw[if_neg c4,if_pos c3]
   have rb:rb0 b0=b0%16:=by unfold rb0;rw[if_neg c4,if_pos c3]
   rw[r4,rb]
   simp only[Nat.reduceSub,BN,hb1,hb2,Nat.zero_add,Nat.reduceAdd]
   by_cases hn:l.length<3
   ·rw[if_pos hn]
    have:Lib.decodeN l.length b0 b1 b2 b3=(65533,1):=by
     unfold Lib.decodeN
     rw[if_neg (by omega),if_neg (by omega),if_neg (by omega),if_neg (by omega)]
    rw[this];simp
   ·rw[if_neg hn]
    have hEnc:(AW ((b0%16*64+b1%64)*64+b2%64)/\Fb ((b0%16*64+b1%64)*64+b2%64)=l.take 3)↔(b1/64=2/\b2/64=2/\2048<=(b0%16*64+b1%64)*64+b2%64/\AW ((b0%16*64+b1%64)*64+b2%64)):=by
     rw[Hf l (by omega)]
     generalize hr:(b0%16*64+b1%64)*64+b2%64=r
     unfold AW Fb
     by_cases k1:r<128
     ·rw[if_pos k1];simp;omega
     ·rw[if_neg k1]
      by_cases k2:r<2048
      ·rw[if_pos k2];simp;omega
      ·rw[if_neg k2]
       by_cases k3:r<65536
       ·rw[if_pos k3]
        simp only[CV,CK,e0,e1,e2,and_true]
        omega
       ·omega
    by_cases hE:b1/64=2/\b2/64=2/\2048<=(b0%16*64+b1%64)*64+b2%64/\AW ((b0%16*64+b1%64)*64+b2%64)
    ·rw[if_pos (hEnc.2 hE)]
     have:Lib.decodeN l.length b0 b1 b2 b3=((b0%16*64+b1%64)*64+b2%64,3):=by
      unfold AW at hE
      unfold Lib.decodeN
      rw[if_neg (by omega),if_neg (by omega),if_pos (by omega),if_pos (by omega)]
      simp only[Prod.mk.injEq,and_true];omega
     rw[this];simp
    ·rw[if_neg (fun hh=>hE (hEnc.1 hh))]
     have:Lib.decodeN l.length b0 b1 b2 b3=(65533,1):=by
      unfold AW at hE
      unfold Lib.decodeN
      rw[if_neg (by omega),if_neg (by omega)]
      split
      ·rw[if_neg (by omega)]
      ·rw[if_neg (by omega)]
     rw[this];simp
  ·by_cases c2:192<=b0
   ·have r4:rsz b0=2:=by unfold rsz;rw[if_neg c4,if_neg c3,if_pos c2]
    have rb:rb0 b0=b0%32:=by unfold rb0;rw[if_neg c4,if_neg c3,if_pos c2]
    rw[r4,rb]
    simp only[Nat.reduceSub,BN,hb1,Nat.zero_add,Nat.reduceAdd]
    by_cases hn:l.length<2
    ·rw[if_pos hn]
     have:Lib.decodeN l.length b0 b1 b2 b3=(65533,1):=by
      unfold Lib.decodeN
      rw[if_neg (by omega),if_neg (by omega),if_neg (by omega),if_neg (by omega)]
     rw[this];simp
    ·rw[if_neg hn]
     have hEnc:(AW (b0%32*64+b1%64)/\Fb (b0%32*64+b1%64)=l.take 2)↔(b1/64=2/\128<=b0%32*64+b1%64):=by
      rw[Ko l (by omega)]
      generalize hr:b0%32*64+b1%64=r
      unfold AW Fb
      by_cases k1:r<128
      ·rw[if_pos k1];simp;omega
      ·rw[if_neg k1,if_pos (by omega)]
       simp only[CV,CK,e0,e1,and_true]
       omega
     by_cases hE:b1/64=2/\128<=b0%32*64+b1%64
     ·rw[if_pos (hEnc.2 hE)]
      have:Lib.decodeN l.length b0 b1 b2 b3=(b0%32*64+b1%64,2):=by
       unfold Lib.decodeN
       rw[if_neg (by omega),if_pos (by omega),if_pos (by omega)]
      rw[this];simp
     ·rw[if_neg (fun hh=>hE (hEnc.1 hh))]
      have:Lib.decodeN l.length b0 b1 b2 b3=(65533,1):=by
       unfold Lib.decodeN
       rw[if_neg (by omega)]
       split
       ·rw[if_neg (by omega)]
       ·rw[if_neg (by omega),if_neg (by omega)]
      rw[this];simp
   ·have r4:rsz b0=1:=by unfold rsz;rw[if_neg c4,if_neg c3,if_neg c2]
    have rb:rb0 b0=b0:=by unfold rb0;rw[if_neg c4,if_neg c3,if_neg c2]
    rw[r4,rb]
    simp only[Nat.reduceSub,BN]
    rw[if_neg (by omega),Kp l hl]
    have hEnc:(AW b0/\Fb b0=[l.getD 0 0])↔b0<128:=by
     unfold AW Fb
     by_cases k1:b0<128
     ·rw[if_pos k1];simp only[CV,CK,e0,and_true];omega
     ·rw[if_neg k1,if_pos (by omega)];simp;omega
    by_cases hE:b0<128
    ·rw[if_pos (hEnc.2 hE)]
     have:Lib.decodeN l.length b0 b1 b2 b3=(b0,1):=by unfold Lib.decodeN;rw[if_pos hE]
     rw[this,if_neg (by simp;omega)]
     simp only[Prod.mk.injEq]
     rw[if_neg (by omega)]
     simp
    ·rw[if_neg (fun hh=>hE (hEnc.1 hh))]
     have:Lib.decodeN l.length b0 b1 b2 b3=(65533,1):=by
      unfold Lib.decodeN
      rw[if_neg (by omega),if_neg (by omega),if_neg (by omega),if_neg (by omega)]
     rw[this];simp
theorem ul_char (l:B8) (h:ul l≠0):AW (ur l)/\Fb (ur l)=l.take (ul l)/\ul l<=l.length/\ul l<=4:=by
 have hne:l≠ []:=fun h0=>h (by simp[ul,h0])
 have e:=I6 l hne
 rw[if_neg h]at e
 unfold Re at e
 simp only at e
 split at e
 ·simp only[Prod.mk.injEq]at e;omega
 ·split at e
  ·rename_i hn hc
   simp only[Prod.mk.injEq]at e
   rw[<-e.1,<-e.2]
   exact⟨hc.1,hc.2,by omega,(Sj _).2⟩
  ·simp only[Prod.mk.injEq]at e;omega
theorem OL (l:B8):ul l<=l.length:=by
 by_cases h:ul l=0
 ·omega
 ·exact(ul_char l h).2.2.1
theorem Vz (l:B8) (h:l≠ []) (hb:bt l 0<128):ul l=1/\ur l=bt l 0:=by
 have:dN l=(bt l 0,1):=by unfold dN Lib.decodeN;rw[if_pos hb]
 unfold ul ur
 rw[this,if_neg (by simp[h];omega)]
 exact⟨rfl,rfl⟩
def Bh (l:B8):Nat:=if h:ul l=0 then 0 else ul l+Bh (l.drop (ul l))
termination_by l.length
decreasing_by
 have:=OL l
 simp only[List.length_drop];omega
theorem DC (l:B8) (h:ul l=0):Bh l=0:=by rw[Bh,dif_pos h]
theorem Eb (l:B8) (h:ul l≠0):Bh l=ul l+Bh (l.drop (ul l)):=by rw[Bh,dif_neg h]
theorem TJ:∀(n:Nat) (l:B8),l.length<=n->Bh l<=l.length
 | 0,l,h=>by
  have:l=[]:=List.eq_nil_of_length_eq_zero (by omega)
  subst this
  rw[DC _ (by simp[ul])];simp
 | n+1,l,h=>by
  by_cases h0:ul l=0
  ·rw[DC l h0];omega
  ·have h1:=OL l
   have h2:=TJ n (l.drop (ul l)) (by simp only[List.length_drop];omega)
   rw[Eb l h0]
   simp only[List.length_drop]at h2;omega
end Go.TVF
end
namespace Go.TVF
open Go.IntKind(i64 u8)
open Go Go.Proofs
section
def Mv (n:Nat):B8:=if h:n=0 then []else Mv (n/10)++[(48+n%10).toUInt8]
termination_by n
decreasing_by omega
theorem LA:Mv 0=[]:=by unfold Mv;rw[dif_pos rfl]
theorem O4 {n:Nat} (h:0<n):Mv n=Mv (n/10)++[(48+n%10).toUInt8]:=by
 rw[Mv.eq_def,dif_neg (by omega)]
theorem Ny:∀(k n:Nat),n<10^k->(Mv n).length<=k
 | 0,n,h=>by rw[show n=0 by simpa using h,LA];simp
 | k+1,n,h=>by
  by_cases h0:n=0
  ·rw[h0,LA];simp
  ·rw[O4 (by omega),List.length_append]
   have:=Ny k (n/10) (by rw[Nat.div_lt_iff_lt_mul (by omega)];rw[Nat.pow_succ]at h;exact h)
   simp only[List.length_cons,List.length_nil];omega
def whN (n:Nat):B8:=if n=0 then [48]else Mv n
def expT (p:Int):B8:=101::(if p<1 then 45::whN (1-p).toNat else whN (p-1).toNat)
def dcT (neg:Bool) (dg:B8) (ex:Int):B8:=
 if dg=[]then [48]else(if neg then [45]else [])++
  (if 0<=ex/\dg.length+ex<=21 then dg++List.replicate ex.toNat 48
  else if ex<0/\1<=dg.length+ex/\dg.length+ex<=21 then dg.take (dg.length+ex).toNat++46::dg.drop (dg.length+ex).toNat
  else if-5<=dg.length+ex/\dg.length+ex<=0 then 48::46::(List.replicate (-(dg.length+ex)).toNat 48++dg)
  else dg.take 1++((if 1<dg.length then 46::dg.drop 1 else [])++expT (dg.length+ex)))
def B0:Nat->Nat->B8
 | 0,_=>[]
 | w+1,n=>B0 w (n/10)++[(48+n%10).toUInt8]
theorem Bt:∀w n,(B0 w n).length=w
 | 0,_=>rfl
 | w+1,n=>by simp[B0,Bt w]
def AR (c:UInt8):Prop:=48<=c.toNat/\c.toNat<=57
instance (c:UInt8):Decidable (AR c):=inferInstanceAs (Decidable (_/\_))
def Br (l:B8):Nat:=(l.reverse.takeWhile (·==48)).length
def ET (neg:Bool) (dg:B8) (ex:Int):Prop:=
 (dg=[]->neg=false/\ex=0)/\(dg≠ []->dg.length<=120/\(∀c,c∈dg->AR c)/\dg.getD 0 0≠48/\Br dg=0/\ -400<=ex/\ex<=400)
instance (neg:Bool) (dg:B8) (ex:Int):Decidable (ET neg dg ex):=inferInstanceAs (Decidable ((_->_)/\(_->_)))
def EO (k d n z:Int):Prop:=
 1<=k/\k<=4/\0<=d/\d<=3652058/\0<=n/\n<=86399999999999/\ -1439<=z/\z<=1439/\(k=2->d=0)/\(k=1->n=0)/\(k≠4->z=0)
instance (k d n z:Int):Decidable (EO k d n z):=inferInstanceAs (Decidable (_/\_/\_/\_/\_/\_/\_/\_/\(_->_)/\(_->_)/\(_->_)))
theorem Uk (k:Nat) (h:k<10):(48+k).toUInt8.toNat=48+k:=by simp;omega
def KS (l:B8):B8:=(l.reverse.dropWhile (·==48)).reverse
theorem Pn (l:B8) (c:UInt8):KS (l++[c])=if c=48 then KS l else l++[c]:=by
 unfold KS
 rw[List.reverse_append,List.reverse_singleton,List.singleton_append,List.dropWhile_cons]
 by_cases h:c=48
 ·rw[if_pos h,if_pos (by simp[h])]
 ·rw[if_neg h,if_neg (by simp[h])];simp
theorem WP (l:B8):(KS l).length<=l.length:=by
 unfold KS
 rw[List.length_reverse]
 have:=(List.dropWhile_sublist (l:=l.reverse) (fun x:UInt8=>x==48)).length_le
 rw[List.length_reverse]at this;exact this
def Ql (n:Nat):B8:=B0 2 (n/1000000000/3600)++58::(B0 2 (n/1000000000/60%60)++58::(B0 2 (n/1000000000%60)++(if n%1000000000=0 then []else 46::KS (B0 9 (n%1000000000)))))
def UZ (z:Int):B8:=if z=0 then [90]else(if z<0 then 45 else 43)::(B0 2 (z.natAbs/60)++58::B0 2 (z.natAbs%60))
def L4 (y:Nat):Prop:=y%4=0/\(y%100≠0∨y%400=0)
instance (y:Nat):Decidable (L4 y):=inferInstanceAs (Decidable (_/\_))
def Jn (y m:Nat):Nat:=if m=2 then(if L4 y then 29 else 28)else if m=4∨m=6∨m=9∨m=11 then 30 else 31
def Ex (y:Nat):Nat->Nat
 | 0=>0
 | 1=>0
 | m+2=>Ex y (m+1)+Jn y (m+1)
def yrS (y:Nat):Nat:=365*(y-1)+(y-1)/4-(y-1)/100+(y-1)/400
def HA (n y m d:Nat):Prop:=1<=y/\y<=9999/\1<=m/\m<=12/\1<=d/\d<=Jn y m/\n=yrS y+Ex y m+(d-1)
theorem QD {a b:Nat} (h1:1<=a) (h:a<=b):yrS a<=yrS b:=by
 rcases Nat.eq_or_lt_of_le h with rfl | h
 ·exact Nat.le_refl _
 ·unfold yrS;omega
theorem monS_12 (y:Nat):Ex y 12+Jn y 12=if L4 y then 366 else 365:=by
 simp only[Ex,Jn]
 by_cases h:L4 y<;>simp[h]
theorem Tb (k q:Nat) (h:0<q):(k+1)/q=k/q+(if (k+1)%q=0 then 1 else 0):=by
 rw[Nat.succ_div]
 congr 1
 simp only[Nat.dvd_iff_mod_eq_zero]
theorem J8 {y:Nat} (h:1<=y):yrS (y+1)=yrS y+(Ex y 12+Jn y 12):=by
 rw[monS_12]
 obtain⟨k,rfl⟩:∃k,y=k+1:=⟨y-1,by omega⟩
 unfold yrS
 simp only[Nat.add_sub_cancel]
 rw[Tb k 4 (by omega),Tb k 100 (by omega),Tb k 400 (by omega)]
 have m1:(k+1)%400=0->(k+1)%100=0:=fun h=>by omega
 have m2:(k+1)%100=0->(k+1)%4=0:=fun h=>by omega
 have m3:k/100<=k/4:=by omega
 by_cases a4:(k+1)%4=0
 ·rw[if_pos a4]
  by_cases a100:(k+1)%100=0
  ·rw[if_pos a100]
   by_cases a400:(k+1)%400=0
   ·rw[if_pos a400,if_pos ⟨a4,.inr a400⟩];omega
   ·rw[if_neg a400,if_neg (fun h=>h.2.elim (fun h=>h a100) a400)];omega
  ·rw[if_neg a100,if_neg (fun h=>a100 (m1 h)),if_pos ⟨a4,.inl a100⟩];omega
 ·rw[if_neg a4,if_neg (fun h=>a4 (m2 h)),if_neg (fun h=>a4 (m2 (m1 h))),if_neg (fun h=>a4 h.1)];omega
theorem LB (y:Nat):∀{a b:Nat},a<=b->Ex y a<=Ex y b:=by
 intro a b h
 induction b with
 | zero=>rw[show a=0 by omega];exact Nat.le_refl _
 | succ b ih=>
  by_cases hab:a=b+1
  ·rw[hab];exact Nat.le_refl _
  ·refine Nat.le_trans (ih (by omega)) ?_
   cases b with
   | zero=>exact Nat.le_refl _
   | succ b=>simp only[Ex];omega
theorem DI (y:Nat) {m:Nat} (h:1<=m):Ex y (m+1)=Ex y m+Jn y m:=by
 cases m with
 | zero=>omega
 | succ m=>rfl
theorem HA.uniq {n y m d y' m' d':Nat} (h:HA n y m d) (h':HA n y' m' d'):y=y'/\m=m'/\d=d':=by
 obtain⟨a1,a2,a3,a4,a5,a6,a7⟩:=h
 obtain⟨b1,b2,b3,b4,b5,b6,b7⟩:=h'
 have within:∀{y m d:Nat},1<=y->1<=m->m<=12->1<=d->d<=Jn y m->Ex y m+(d-1)<Ex y 12+Jn y 12:=by
  intro y m d h1 h2 h3 h4 h5
  by_cases hm:m=12
  ·subst hm;omega
  ·have:=LB y (a:=m+1) (b:=12) (by omega)
   rw[DI y h2]at this;omega
 have w1:=within a1 a3 a4 a5 a6
 have w2:=within b1 b3 b4 b5 b6
 have hy:y=y':=by
  rcases Nat.lt_trichotomy y y' with h | h | h
  ·have:=QD (a:=y+1) (b:=y') (by omega) (by omega)
   rw[J8 a1]at this;omega
  ·exact h
  ·have:=QD (a:=y'+1) (b:=y) (by omega) (by omega)
   rw[J8 b1]at this;omega
 subst hy
 have hm:m=m':=by
  rcases Nat.lt_trichotomy m m' with h | h | h
  ·have:=LB y (a:=m+1) (b:=m') (by omega)
   rw[DI y a3]at this;omega
  ·exact h
  ·have:=LB y (a:=m'+1) (b:=m) (by omega)
   rw[DI y b3]at this;omega
 subst hm
 exact⟨rfl,rfl,by omega⟩
open Classical in
noncomputable def NW (n:Nat):Nat×Nat×Nat:=if h:∃p:Nat×Nat×Nat,HA n p.1 p.2.1 p.2.2 then h.choose else(0,0,0)
theorem Vi {n y m d:Nat} (h:HA n y m d):NW n=(y,m,d):=by
 have hex:∃p:Nat×Nat×Nat,HA n p.1 p.2.1 p.2.2:=⟨(y,m,d),h⟩
 unfold NW
 rw[dif_pos hex]
 obtain⟨h1,h2,h3⟩:=hex.choose_spec.uniq h
 exact Prod.ext h1 (Prod.ext h2 h3)
noncomputable def NX (n:Nat):B8:=B0 4 (NW n).1++45::(B0 2 (NW n).2.1++45::B0 2 (NW n).2.2)
noncomputable def Sd (k td tn tz:Int):B8:=
 if k=1 then NX td.toNat else if k=2 then Ql tn.toNat else if k=3 then NX td.toNat++84::Ql tn.toNat else NX td.toNat++84::(Ql tn.toNat++UZ tz)
end
section
structure N9 (s:Sc) (l:List Vl) (f:List Fd):Prop where
 k0:0<=s.kind
 k7:s.kind<=7
 bo:s.kind≠1->s.b=false
 nu:s.kind≠2->s.neg=false/\s.dg=[]/\s.ex=0
 ti:s.kind≠3->s.tk=0/\s.td=0/\s.tn=0/\s.tz=0
 tx:s.kind≠4->s.text=[]
 by_:s.kind≠5->s.bytes=[]
 ls:s.kind≠6->l=[]
 fs:s.kind≠7->f=[]
noncomputable instance (s:Sc) (l:List Vl) (f:List Fd):Decidable (N9 s l f):=Classical.propDecidable _
def U8 (s:B8):Prop:=Bh s=s.length
instance (s:B8):Decidable (U8 s):=inferInstanceAs (Decidable (_=_))
def GJ (seen:List B8):List Fd->Nat
 | []=>0
 | d::r=>if U8 d.key then(if 1024<d.key.length then 10 else if d.key∈seen then 8 else GJ (d.key::seen) r)else 5
noncomputable def Fy (s:Sc) (l:List Vl) (f:List Fd):Nat:=
 if N9 s l f then(if ET s.neg s.dg s.ex then(if s.kind=3->EO s.tk s.td s.tn s.tz then(if U8 s.text then(if 65536<s.text.length then 10 else if 65536<s.bytes.length then 10 else GJ [] f)else 5)else 2)else 2)else 6
noncomputable def GC (x:Nat×Nat) (f:Nat->Nat×Nat):Nat×Nat:=if x.2=0 then f x.1 else x
mutual
noncomputable def D6 (d n:Nat):Vl->Nat×Nat
 | .mk s l f=>if 48<d then(n,9)else if 65536<=n then(n,10)else if Fy s l f≠0 then(n,Fy s l f)else GC (GS (d+1) (n+1) l) fun m=>GT (d+1) m f
noncomputable def GS (d n:Nat):List Vl->Nat×Nat
 | []=>(n,0)
 | v::r=>GC (D6 d n v) fun m=>GS d m r
noncomputable def chkD (d n:Nat):Fd->Nat×Nat
 | .mk _ v=>D6 d n v
noncomputable def GT (d n:Nat):List Fd->Nat×Nat
 | []=>(n,0)
 | x::r=>GC (chkD d n x) fun m=>GT d m r
end
noncomputable def IO (v:Vl):Nat:=(D6 1 0 v).2
theorem JU {x:Nat×Nat} {f:Nat->Nat×Nat} (h:(GC x f).2=0):x.2=0/\(f x.1).2=0:=by
 unfold GC at h
 split at h
 ·rename_i h0;exact⟨h0,h⟩
 ·rename_i h0;exact absurd h h0
theorem M7 {x:Nat×Nat} {f:Nat->Nat×Nat} (h:x.2=0):GC x f=f x.1:=by unfold GC;rw[if_pos h]
theorem Lh {x:Nat×Nat} {f:Nat->Nat×Nat} (h:x.2≠0):GC x f=x:=by unfold GC;rw[if_neg h]
structure Py (s:Sc) (l:List Vl) (f:List Fd):Prop where
 own:N9 s l f
 dec:ET s.neg s.dg s.ex
 time:s.kind=3->EO s.tk s.td s.tn s.tz
 text:U8 s.text
 tlen:s.text.length<=65536
 blen:s.bytes.length<=65536
 keys:GJ [] f=0
theorem O2 {s:Sc} {l:List Vl} {f:List Fd}:Fy s l f=0↔Py s l f:=by
 unfold Fy
 constructor
 ·intro h
  split at h
  ·rename_i h1
   split at h
   ·rename_i h2
    split at h
    ·rename_i h3
     split at h
     ·rename_i h4
      split at h
      ·cases h
      ·rename_i h5
       split at h
       ·cases h
       ·rename_i h6
        exact⟨h1,h2,h3,h4,by omega,by omega,h⟩
     ·cases h
    ·cases h
   ·cases h
  ·cases h
 ·intro h
  rw[if_pos h.own,if_pos h.dec,if_pos h.time,if_pos h.text,if_neg (by have:=h.tlen;omega),if_neg (by have:=h.blen;omega)]
  exact h.keys
mutual
def Me:Vl->Prop
 | .mk s l f=>Py s l f/\LR l/\LS f
def LR:List Vl->Prop
 | []=>True
 | v::r=>Me v/\LR r
def TA:Fd->Prop
 | .mk _ v=>Me v
def LS:List Fd->Prop
 | []=>True
 | d::r=>TA d/\LS r
end
mutual
theorem Qm:∀(v:Vl) (d n:Nat),(D6 d n v).2=0->Me v
 | .mk s l f,d,n,h=>by
  unfold D6 at h
  unfold Me
  split at h
  ·cases h
  ·split at h
   ·cases h
   ·split at h
    ·rename_i h1;exact absurd h h1
    ·rename_i h1
     obtain⟨h2,h3⟩:=JU h
     exact⟨O2.1 (Decidable.of_not_not h1),RO l _ _ h2,RQ f _ _ h3⟩
theorem RO:∀(l:List Vl) (d n:Nat),(GS d n l).2=0->LR l
 | [],d,n,_=>by unfold LR;trivial
 | v::r,d,n,h=>by
  unfold GS at h
  unfold LR
  obtain⟨h2,h3⟩:=JU h
  exact⟨Qm v _ _ h2,RO r _ _ h3⟩
theorem chkD_ok:∀(x:Fd) (d n:Nat),(chkD d n x).2=0->TA x
 | .mk k v,d,n,h=>by unfold chkD at h;unfold TA;exact Qm v _ _ h
theorem RQ:∀(l:List Fd) (d n:Nat),(GT d n l).2=0->LS l
 | [],d,n,_=>by unfold LS;trivial
 | x::r,d,n,h=>by
  unfold GT at h
  unfold LS
  obtain⟨h2,h3⟩:=JU h
  exact⟨chkD_ok x _ _ h2,RQ r _ _ h3⟩
end
end
theorem SlR.isPtr {st:St} {sz n i:Nat} {u:TV} {xs:List TV} (h:SlR st sz u n xs) (hi:i<n):TVF.isPtr (ixT sz u i)=true:=by
 rcases h with(⟨rfl,rfl,rfl⟩ | ⟨tip,rfl⟩) | ⟨b,off,cap,l,rfl,_⟩
 ·omega
 ·rfl
 ·rfl
theorem SlR.ldcf {st:St} {sz n i f m:Nat} {u:TV} {xs:List TV} (h:SlR st sz u n xs) (hl:xs.length=n*sz) (hi:i<n) (hf:f+m<=sz):Aj st [] (.t (Ao (ixT sz u i) f)) 0 m=some ((xs.drop (i*sz+f)).take m):=by
 have hm:(i+1)*sz<=n*sz:=Nat.mul_le_mul_right _ hi
 rw[Nat.add_mul,Nat.one_mul]at hm
 rcases h with(⟨rfl,rfl,rfl⟩ | ⟨tip,rfl⟩) | ⟨b,off,cap,l,rfl,h2,h3,h4,h5,rfl⟩
 ·omega
 ·show Aj st [] (.t (.rptr ((xs.drop (i*sz)).drop f))) 0 m=_
  rw[List.drop_drop,ND m 0 (by rw[List.length_drop];omega),List.drop_zero]
 ·have hc:n*sz<=cap*sz:=Nat.mul_le_mul_right _ h5
  have e1:(((l.drop off).take (n*sz)).drop (i*sz+f)).take m=(l.drop (off+i*sz+f)).take m:=by
   rw[List.drop_take,List.drop_drop,List.take_take,Nat.min_eq_left (by omega),Nat.add_assoc]
  rw[e1]
  have e:=ME (B:=l.drop (off+i*sz+f+m)) (st:=st) (b:=b) ((l.drop (off+i*sz+f)).take m) l 0 (off+i*sz+f) h3 (by
   have:=List.take_append_drop m (l.drop (off+i*sz+f))
   rw[List.drop_drop]at this
   rw[Nat.add_zero];exact this.symm)
  rw[show((l.drop (off+i*sz+f)).take m).length=m by simp;omega]at e
  exact e
theorem SlR.ldf {st:St} {sz n i f:Nat} {u x:TV} {xs:List TV} (h:SlR st sz u n xs) (hl:xs.length=n*sz) (hi:i<n) (hf:f<sz) (hx:xs[i*sz+f]? =some x):Ac st [] (.t (Ao (ixT sz u i) f)) 0=some x:=by
 have:=h.ldcf (f:=f) (m:=1) hl hi (by omega)
 have hlt:i*sz+f<xs.length:=by
  obtain⟨q,_⟩:=List.getElem?_eq_some_iff.1 hx
  exact q
 rw[List.drop_eq_getElem_cons hlt]at this
 rw[List.getElem?_eq_getElem hlt]at hx
 simp only[Aj,List.take_succ_cons,List.take_zero]at this
 cases hq:Ac st [] (.t (Ao (ixT sz u i) f)) 0 with
 | none=>rw[hq]at this;cases this
 | some y=>
  rw[hq]at this
  simp only[Option.map_some,Option.some.injEq,List.cons.injEq,and_true]at this
  rw[this];exact hx
theorem SlR.toBytes {st:St} {u:TV} {l:B8} (h:SlR st 1 u l.length (AF l)):TVF.toBytes st u=some l:=by
 have hl:(AF l).length=l.length:=Dn l
 rcases h with(⟨rfl,h1,_⟩ | ⟨tip,rfl⟩) | ⟨b,off,cap,m,rfl,h2,h3,h4,h5,h6⟩
 ·rw[List.eq_nil_of_length_eq_zero h1];rfl
 ·simp[TVF.toBytes,CX]
 ·have e:=ME (B:=m.drop (off+l.length)) (st:=st) (b:=b) (AF l) m 0 off h3 (by
   rw[h6,Nat.add_zero,Nat.mul_one,<-List.drop_drop,List.take_append_drop])
  rw[hl]at e
  simp only[TVF.toBytes,Nat.beq_refl,e,CX]
theorem key14 {st0 st:St} {uf:TV} {xf:List TV} {l:List Fd} (hke:D4 st0 st) (h2:SlR st0 14 uf l.length xf) (h3:FsR st0 l xf) {i:Int} {k:Nat} (hi:i=k) {d:Fd} (hd:l[k]? =some d) {f:B8->Prop} (hf:f d.key):
  (0<=i/\i<(lenZ 14 uf:Int))/\need (TVF.isPtr (ixT 14 uf (Int.toNat i))) (Ag (Ac st [] (.t (Ao (ixT 14 uf (Int.toNat i)) 0)) 0) fun x=>Af .str x f):=by
 subst hi
 obtain⟨hk,_⟩:=List.getElem?_eq_some_iff.1 hd
 obtain⟨cw,hw,hcw,hcl⟩:=h3.get hd
 rw[h2.lenZ,Int.toNat_natCast]
 have hx:xf[k*14+0]? =some (.str d.key):=by
  cases d with
  | mk key w=>
   unfold FdR at hw
   obtain⟨cs,rfl,_⟩:=hw
   have:=congrArg (fun z=>z[0]?) hcw
   simpa [Fd.key]using this
 exact⟨⟨by omega,by omega⟩,Ab (h2.isPtr hk) (Ad ((h2.keep hke).ldf h3.len hk (by omega) hx) hf)⟩
theorem val14 {st0 st:St} {uf:TV} {xf:List TV} {l:List Fd} (hke:D4 st0 st) (h2:SlR st0 14 uf l.length xf) (h3:FsR st0 l xf) {i:Int} {k:Nat} (hi:i=k) (hk:k<l.length) {f:Fun [.int .i64,.bool,.bool,.str,.int .i64,.int .i64,.int .i64,.int .i64,.int .i64,.str,.tv,.tv,.tv] Prop}
  (hf:∀key s' l' f' ub1 ul1 uf1,l[k]? =some (.mk key (.mk s' l' f'))->VlR st0 (.mk s' l' f') (Bf s' ub1 ul1 uf1)->List.all (Bf s' ub1 ul1 uf1) Ap=true->f s'.kind s'.b s'.neg s'.dg s'.ex s'.tk s'.td s'.tn s'.tz s'.text ub1 ul1 uf1):
  (0<=i/\i<(lenZ 14 uf:Int))/\need (TVF.isPtr (ixT 14 uf (Int.toNat i))) (Ag ((Aj st [] (.t (Ao (ixT 14 uf (Int.toNat i)) 1)) 0 13).map TV.agg) fun x=>A1 [.int .i64,.bool,.bool,.str,.int .i64,.int .i64,.int .i64,.int .i64,.int .i64,.str,.tv,.tv,.tv] x f):=by
 subst hi
 have gw:l[k]? =some l[k]:=List.getElem?_eq_getElem hk
 obtain⟨cw,hw,hcw,hcl⟩:=h3.get gw
 rw[h2.lenZ,Int.toNat_natCast]
 refine⟨⟨by omega,by omega⟩,Ab (h2.isPtr hk) ?_⟩
 rw[(h2.keep hke).ldcf (f:=1) (m:=13) h3.len hk (by omega)]
 generalize l[k]=w at*
 cases w with
 | mk key w=>
 cases w with
 | mk s' l' f'=>
 unfold FdR at hw
 obtain⟨cw2,rfl,hw1⟩:=hw
 have hw2:=hw1
 unfold VlR at hw2
 obtain⟨ub',ul',uf',xl',xf',rfl,w1,w2,w3,w4,w5⟩:=hw2
 have e:(xf.drop (k*14+1)).take 13=Bf s' ub' ul' uf':=by
  rw[<-List.drop_drop]
  have:=congrArg (fun z=>z.drop 1) hcw
  simp only[List.drop_take]at this
  simpa [Bf]using this
 rw[e]
 exact Ad rfl (WM (hf key s' l' f' ub' ul' uf' gw hw1 (BY w1.one w2.one w4.one)))
theorem D4.trans {a b c:St} (h:D4 a b) (k:D4 b c):D4 a c:=⟨Nat.le_trans h.1 k.1,fun i hi=>(k.2 i (Nat.lt_of_lt_of_le hi h.1)).trans (h.2 i hi)⟩
theorem Al {s:B8} {f:B8->Prop} (h:f s):Af .str (.str s) f:=h
theorem AB {k:IntKind} {n:Int} {f:Int->Prop} (h:f n):Af (.int k) (.int k n) f:=by
 simp only[Af];exact h
theorem Aq {b:Bool} {f:Bool->Prop} (h:f b):Af .bool (.bool b) f:=h
theorem B7 {α:Type} {K:α->St->Prop} {a b:α} {st:St} (h:a=b) (hk:K b st):K a st:=h▸hk
theorem OC {r:Int} {st:St} {K:Bool->St->Prop} (h0:0<=r) (hk:K (decide (AW r.toNat)) st):CallT PR BQ [.int .i64 r] [.one (.bool)] st K:=by
 refine FP _ st K (Aa (fun _=>Aa (fun h2=>Aa (fun h3=>?_) fun h3=>?_) fun h2=>?_) fun h1=>absurd h0 h1)
 ·have:AW r.toNat:=by unfold AW;omega
  simpa [this]using hk
 ·have:decide ((57343:Int)<r)=decide (AW r.toNat):=by
   rw[Bool.eq_iff_iff];simp only[decide_eq_true_eq];unfold AW;omega
  rw[this];exact hk
 ·have:¬AW r.toNat:=by unfold AW;omega
  simpa [this]using hk
theorem EV (st:St) (n:Nat) (l:B8) (xs:List TV) (h:xs=AF l):(toBytes st (.list 1 .full n xs)).map TV.str=some (.str l):=by
 subst h;simp[toBytes,CX]
theorem Gf (n:Nat):IntKind.wrap .u8 (n:Int)=((UInt8.ofNat n).toNat:Int):=by
 unfold IntKind.wrap
 simp only[IntKind.signed,IntKind.bits]
 simp
 try omega
theorem orN (a b m:Nat) (hb:b<2^m) (h:a*2^m+b<2^63) (x y:Int) (hx:x=((a*2^m:Nat):Int)) (hy:y=(b:Int)):AI .or .i64 x y=((a*2^m+b:Nat):Int):=by
 rw[hx,hy];exact P0 a b m hb h
theorem S8 {R:Int} {r:Nat} {st:St} {K:B8->Int->St->Prop} (hR:R=(r:Int)) (hr:r<2^40) (hk:K (if AW r then Fb r else []) (if AW r then 0 else 2) st):CallT PR Bx [.int .i64 R] [.one (.str),.one (.int .i64)] st K:=by
 have shr:∀m,m<=64->Int.fdiv R (2^(min m (IntKind.bits .i64)))=((r/2^m:Nat):Int):=fun m hm=>by rw[hR];exact shr_i64 r m hm
 have s6:=shr 6 (by decide)
 have s12:=shr 12 (by decide)
 have s18:=shr 18 (by decide)
 have m63:∀x:Nat,x<2^63->AI .and .i64 (x:Int) (63:Int)=((x%64:Nat):Int):=fun x hx=>IS x 6 hx (by decide)
 have mR:AI .and .i64 R (63:Int)=((r%64:Nat):Int):=by rw[hR];exact m63 r (by omega)
 have o128:∀x:Nat,x<64->AI .or .i64 (128:Int) (x:Int)=((128+x:Nat):Int):=fun x hx=>orN 2 x 6 (by omega) (by omega) _ _ rfl rfl
 have hR0:0<=R:=by omega
 have hRn:R.toNat=r:=by omega
 refine G8 _ st K (OC hR0 (Am (fun h0=>?_) fun h0=>?_))
 ·have hc:¬AW r:=by rw[hRn]at h0;simpa using h0
  rw[if_neg hc,if_neg hc]at hk
  exact hk
 ·have hc:AW r:=by rw[hRn]at h0;simpa using h0
  rw[if_pos hc,if_pos hc]at hk
  unfold Fb at hk
  refine Aa (fun h1=>?_) fun h1=>Aa (fun h2=>?_) fun h2=>Aa (fun h3=>?_) fun h3=>?_
  ·rw[if_pos (by omega)]at hk
   exact Ad (EV _ _ _ _ (by simp only[AF,List.map,FL];rw[hR,Gf])) hk
  ·rw[if_neg (by omega),if_pos (by omega)]at hk
   have o192:AI .or .i64 (192:Int) ((r/2^6:Nat):Int)=((192+r/64:Nat):Int):=orN 6 _ 5 (by omega) (by omega) _ _ rfl rfl
   refine Ad (EV _ _ _ _ ?_) hk
   simp only[AF,List.map,FL]
   rw[show Int.toNat (6:Int)=6 from rfl,s6,o192,mR,o128 _ (by omega),Gf,Gf]
  ·rw[if_neg (by omega),if_neg (by omega),if_pos (by omega)]at hk
   have o224:AI .or .i64 (224:Int) ((r/2^12:Nat):Int)=((224+r/4096:Nat):Int):=orN 14 _ 4 (by omega) (by omega) _ _ rfl rfl
   refine Ad (EV _ _ _ _ ?_) hk
   simp only[AF,List.map,FL]
   rw[show Int.toNat (6:Int)=6 from rfl,show Int.toNat (12:Int)=12 from rfl,s6,s12,o224,mR,m63 (r/2^6) (by omega),o128 _ (by omega),o128 _ (by omega),Gf,Gf,Gf]
  ·rw[if_neg (by omega),if_neg (by omega),if_neg (by omega)]at hk
   have hr2:r<=1114111:=hc.1
   have o240:AI .or .i64 (240:Int) ((r/2^18:Nat):Int)=((240+r/262144:Nat):Int):=orN 30 _ 3 (by omega) (by omega) _ _ rfl rfl
   refine Ad (EV _ _ _ _ ?_) hk
   simp only[AF,List.map,FL]
   rw[show Int.toNat (6:Int)=6 from rfl,show Int.toNat (12:Int)=12 from rfl,show Int.toNat (18:Int)=18 from rfl,s6,s12,s18,o240,mR,m63 (r/2^6) (by omega),m63 (r/2^12) (by omega),o128 _ (by omega),o128 _ (by omega),o128 _ (by omega),Gf,Gf,Gf,Gf]
theorem Ve {r:Nat} {st:St} {K:B8->Int->St->Prop} (hr:r<2^40) (hk:K (if AW r then Fb r else []) (if AW r then 0 else 2) st):CallT PR Bx [.int .i64 (r:Int)] [.one (.str),.one (.int .i64)] st K:=
 S8 rfl hr hk
def rD (l:B8):Nat×Nat:=if ul l=0 then(0,0)else(ur l,ul l)
theorem Rg {s:B8} {I:Int} {i:Nat} {st:St} {K:Int->Int->St->Prop} (hI:I=(i:Int)) (hl:s.length<=2000000) (hi:i<=s.length) (hk:K ((rD (s.drop i)).1:Nat) ((rD (s.drop i)).2:Nat) st):CallT PR By [.str s,.int .i64 I] [.one (.int .i64),.one (.int .i64)] st K:=by
 refine G9 s I st K (Aa (fun h=>by omega) fun _=>Aa (fun h=>?_) fun h=>⟨⟨by omega,by omega⟩,?_⟩)
 ·have:s.drop i=[]:=List.drop_of_length_le (by omega)
  have h0:rD (s.drop i)=(0,0):=by rw[this];simp[rD,ul]
  rw[h0]at hk;exact hk
 ·have hne:s.drop i≠ []:=by
   intro h0
   have:=congrArg List.length h0
   simp at this;omega
  have href:=I6 (s.drop i) hne
  have hb0:(List.getD s (Int.toNat I) 0).toNat=bt (s.drop i) 0:=by rw[MK,hI];rfl
  have hlt:=D9 (s.drop i) 0
  have hlen:(s.drop i).length=s.length-i:=by simp
  rw[hb0,Vv _ (by omega)]
  have m15:AI .and .i64 ((bt (s.drop i) 0:Nat):Int) (15:Int)=((bt (s.drop i) 0%16:Nat):Int):=IS _ 4 (by omega) (by decide)
  have m7:AI .and .i64 ((bt (s.drop i) 0:Nat):Int) (7:Int)=((bt (s.drop i) 0%8:Nat):Int):=IS _ 3 (by omega) (by decide)
  have m31:AI .and .i64 ((bt (s.drop i) 0:Nat):Int) (31:Int)=((bt (s.drop i) 0%32:Nat):Int):=IS _ 5 (by omega) (by decide)
  rw[m15,m7,m31]
  refine⟨fun size r s' at' st1=>s=s'/\I=at'/\st=st1/\((rsz (bt (s.drop i) 0):Nat):Int)=size/\((rb0 (bt (s.drop i) 0):Nat):Int)=r,?_,?_⟩
  ·refine Aa (fun h1=>⟨rfl,rfl,rfl,?_,?_⟩) fun h1=>Aa (fun h2=>⟨rfl,rfl,rfl,?_,?_⟩) fun h2=>Aa (fun h3=>⟨rfl,rfl,rfl,?_,?_⟩) fun h3=>⟨rfl,rfl,rfl,?_,?_⟩
   ·unfold rsz;rw[if_pos (by omega)];rfl
   ·unfold rb0;rw[if_pos (by omega)]
   ·unfold rsz;rw[if_neg (by omega),if_pos (by omega)];rfl
   ·unfold rb0;rw[if_neg (by omega),if_pos (by omega)]
   ·unfold rsz;rw[if_neg (by omega),if_neg (by omega),if_pos (by omega)];rfl
   ·unfold rb0;rw[if_neg (by omega),if_neg (by omega),if_pos (by omega)]
   ·unfold rsz;rw[if_neg (by omega),if_neg (by omega),if_neg (by omega)];rfl
   ·unfold rb0;rw[if_neg (by omega),if_neg (by omega),if_neg (by omega)]
  ·rintro _ _ _ _ _ ⟨rfl,rfl,rfl,rfl,rfl⟩
   have hs:=Sj (bt (s.drop i) 0)
   have hr0:=rb0_lt _ hlt
   generalize hsz:rsz (bt (s.drop i) 0)=size at*
   generalize hrr:rb0 (bt (s.drop i) 0)=r0 at*
   have hra:=MA (s.drop i) r0 hr0
   unfold Re at href
   simp only[hsz,hrr]at href
   rw[Ah _ (by omega) (by omega)]
   refine Aa (fun h1=>?_) fun h1=>?_
   ·rw[if_pos (by omega)]at href
    have:rD (s.drop i)=(0,0):=by unfold rD;rw[<-href]
    rw[this]at hk;exact hk
   ·rw[if_neg (by omega)]at href
    refine⟨fun r j s' at' sz st2=>s=s'/\I=at'/\st=st2/\((size:Nat):Int)=sz/\∃k:Nat,j=((k+1:Nat):Int)/\k+1<=size/\r=((BN (s.drop i) r0 k:Nat):Int),fun _ j _ _ sz _=>(sz-j).toNat,⟨rfl,rfl,rfl,rfl,0,rfl,hs.1,rfl⟩,?_⟩
    rintro _ _ _ _ _ _ ⟨rfl,rfl,rfl,rfl,k,rfl,hk1,rfl⟩
    have hrk:=hra k
    have h64:64^k<=64^3:=Nat.pow_le_pow_right (by decide) (by omega)
    refine Aa (fun h2=>?_) fun h2=>?_
    ·rw[Ah _ (by omega) (by omega)]
     have hbk:(List.getD s (Int.toNat (I+((k+1:Nat):Int))) 0).toNat=bt (s.drop i) (k+1):=by
      rw[MK,show Int.toNat (I+((k+1:Nat):Int))=i+(k+1) by omega];rfl
     have hbl:=D9 (s.drop i) (k+1)
     have hand:AI .and .i64 (i64.wrap ((bt (s.drop i) (k+1):Nat):Int)) (63:Int)=((bt (s.drop i) (k+1)%64:Nat):Int):=by
      rw[Vv _ (by omega)];exact IS _ 6 (by omega) (by decide)
     have hmul:i64.wrap (((BN (s.drop i) r0 k:Nat):Int)*2^(min (Int.toNat (6:Int)) (IntKind.bits .i64)))=((BN (s.drop i) r0 k*2^6:Nat):Int):=by
      rw[show(2:Int)^(min (Int.toNat (6:Int)) (IntKind.bits .i64))=64 by decide,Ah _ (by omega) (by omega)];omega
     refine⟨⟨by omega,by omega⟩,?_⟩
     rw[hbk,hand,hmul,P0 _ _ 6 (by omega) (by omega),Ah _ (by omega) (by omega)]
     exact⟨⟨rfl,rfl,rfl,rfl,k+1,by omega,by omega,by simp only[BN]⟩,by dsimp only;omega⟩
    ·have hks:k=size-1:=by omega
     subst hks
     refine Ve (by omega) ?_
     generalize hR:BN (s.drop i) r0 (size-1)=R at*
     refine Aa (fun h3=>?_) fun h3=>?_
     ·have hc:¬AW R:=by intro hc;rw[if_pos hc]at h3;exact h3 rfl
      rw[if_neg (fun h=>hc h.1)]at href
      have:rD (s.drop i)=(0,0):=by unfold rD;rw[<-href]
      rw[this]at hk;exact hk
     ·have hc:AW R:=by
       apply Decidable.byContradiction
       intro hc;rw[if_neg hc]at h3;exact h3 (by decide)
      rw[if_pos hc,Ah _ (by omega) (by omega)]
      refine⟨⟨by omega,by omega,by omega⟩,?_⟩
      rw[Eo,show Int.toNat (I+(size:Int))-Int.toNat I=size by omega,show Int.toNat I=i by omega]
      refine Aa (fun h4=>?_) fun h4=>?_
      ·rw[if_neg (fun h=>h4 h.2)]at href
       have:rD (s.drop i)=(0,0):=by unfold rD;rw[<-href]
       rw[this]at hk;exact hk
      ·rw[if_pos ⟨hc,Decidable.not_not.1 h4⟩]at href
       have:rD (s.drop i)=(R,size):=by unfold rD;rw[<-href]
       rw[this]at hk;exact hk
theorem Sr {s:B8} {i:Nat} {st:St} {K:Int->Int->St->Prop} (hl:s.length<=2000000) (hi:i<=s.length) (hk:K ((rD (s.drop i)).1:Nat) ((rD (s.drop i)).2:Nat) st):CallT PR By [.str s,.int .i64 (i:Int)] [.one (.int .i64),.one (.int .i64)] st K:=
 Rg rfl hl hi hk
theorem Kd (l:B8):Bh l<=l.length:=TJ _ l (Nat.le_refl _)
theorem Kc:Bh []=0:=DC _ (by simp[ul])
theorem Rd.ldx {sz:Nat} {v:TV} {n:Nat} {xs:List TV} (h:Rd sz v n xs) (st:St) (i j:Nat) {x:TV} (hx:xs[i*sz+j]? =some x):Ac st [] (.t (ixT sz v i)) j=some x:=by
 obtain⟨hlt,hx⟩:=List.getElem?_eq_some_iff.1 hx
 rw[h.ld st i j hlt,hx]
theorem Rd.ldfx {sz:Nat} {v:TV} {n:Nat} {xs:List TV} (h:Rd sz v n xs) (st:St) (i j:Nat) {x:TV} (hx:xs[i*sz+j]? =some x):Ac st [] (.t (Ao (ixT sz v i) j)) 0=some x:=by
 obtain⟨hlt,hx⟩:=List.getElem?_eq_some_iff.1 hx
 rw[h.ldf st i j hlt,hx]
theorem OD {s:B8} {st:St} {K:TV->Bool->St->Prop} (hl:s.length<=2000000)
  (hk:∀v xs st',As st st'->Rd 1 v (xs.length+1) (xs++[.int .i64 ((Bh s:Nat):Int)])->xs.length<=s.length->K v (decide (Bh s=s.length)) st'):CallT PR BD [.str s] [.one (.tv),.one (.bool)] st K:=by
 have hv:=Kd s
 refine Fp s st K ⟨fun v i s' st'=>s=s'/\As st st'/\∃(k:Nat) (xs:List TV),i=(k:Int)/\k<=s.length/\k+Bh (s.drop k)=Bh s/\xs.length<=k/\Own st.nt 1 st' v (xs.length+1) (xs++[.int .i64 (k:Int)]),fun _ i _ _=>(s.length-i).toNat,⟨rfl,As.refl _,0,[],rfl,by omega,by simp,by simp,Own.full _ _ _ _ _⟩,?_⟩
 rintro v _ _ st1 ⟨rfl,e,k,xs,rfl,h1,h2,h3,h4⟩
 refine Aa (fun g1=>?_) fun g1=>?_
 ·have hle:=OL (s.drop k)
  rw[List.length_drop]at hle
  refine Sr hl h1 ?_
  unfold rD
  by_cases h0:ul (s.drop k)=0
  ·rw[if_pos h0]
   rw[DC _ h0]at h2
   refine Aa (fun _=>?_) fun h=>absurd rfl h
   have:=hk v xs st1 e (by rw[<-h2];exact h4.rd) (by omega)
   rw[decide_eq_false (by omega)]at this
   exact this
  ·rw[if_neg h0]
   rw[Eb _ h0,List.drop_drop]at h2
   have w:i64.wrap ((k:Int)+(ul (s.drop k):Nat))=((k+ul (s.drop k):Nat):Int):=by rw[Ah _ (by omega) (by omega)];omega
   refine Aa (fun h=>by simp only at h;omega) fun _=>?_
   dsimp only
   rw[w]
   refine BF e rfl h4 (by omega) (fun h=>by cases h) fun v' st' e' _ ho=>⟨⟨rfl,e',k+ul (s.drop k),xs++[.int .i64 (k:Int)],rfl,by omega,by omega,by rw[List.length_append];simp;omega,?_⟩,by omega⟩
   rw[List.length_append];exact ho
 ·rw[show s.drop k=[]from List.drop_of_length_le (by omega),Kc]at h2
  have hks:k=Bh s:=by omega
  have:=hk v xs st1 e (by rw[<-hks];exact h4.rd) (by omega)
  rw[decide_eq_true (by omega)]at this
  exact this
def hdS (b:Nat):Nat:=if b<128 then 1 else if 192<=b/\b<224 then 2 else if 224<=b/\b<240 then 3 else if 240<=b/\b<248 then 4 else 0
def hdB (b:Nat):Nat:=if b<128 then b else if 192<=b/\b<224 then b%32 else if 224<=b/\b<240 then b%16 else if 240<=b/\b<248 then b%8 else 0
def wid (r:Nat):Nat:=if r<128 then 1 else if r<2048 then 2 else if r<65536 then 3 else 4
theorem GW (a m:Nat) (ha:a<256) (hm:m<=8):AI .and .u8 (a:Int) ((2^m-1:Nat):Int)=((a%2^m:Nat):Int):=by
 have:2^m<=2^8:=Nat.pow_le_pow_right (by decide) hm
 rw[Tx _ _ ha (by omega),Nat.and_two_pow_sub_one_eq_mod]
theorem Uc {B:Int} {b:Nat} {st:St} {K:Int->Int->St->Prop} (hB:B=(b:Int)) (hb:b<256) (hk:K (hdS b:Nat) (hdB b:Nat) st):CallT PR IJ [.int .u8 B] [.one (.int .i64),.one (.int .i64)] st K:=by
 have m31:AI .and .u8 B (31:Int)=((b%32:Nat):Int):=by rw[hB];exact GW b 5 hb (by decide)
 have m15:AI .and .u8 B (15:Int)=((b%16:Nat):Int):=by rw[hB];exact GW b 4 hb (by decide)
 have m7:AI .and .u8 B (7:Int)=((b%8:Nat):Int):=by rw[hB];exact GW b 3 hb (by decide)
 unfold hdS hdB at hk
 have kk:∀(x y x' y':Int),x=x'->y=y'->K x' y' st->K x y st:=fun x y x' y' h1 h2 hk=>by rw[h1,h2];exact hk
 refine QJ B st K ?_
 rw[m31,m15,m7,Ah B (by omega) (by omega),Ah ((b%32:Nat):Int) (by omega) (by omega),Ah ((b%16:Nat):Int) (by omega) (by omega),Ah ((b%8:Nat):Int) (by omega) (by omega)]
 by_cases g1:b<128
 ·rw[if_pos g1,if_pos g1]at hk
  exact Aa (fun _=>kk _ _ _ _ rfl hB hk) fun h=>by omega
 rw[if_neg g1,if_neg g1]at hk
 refine Aa (fun h=>by omega) fun _=>?_
 by_cases g2:192<=b/\b<224
 ·rw[if_pos g2,if_pos g2]at hk
  exact Aa (fun _=>Aa (fun _=>hk) fun h=>by omega) fun h=>by omega
 rw[if_neg g2,if_neg g2]at hk
 by_cases g3:224<=b/\b<240
 ·rw[if_pos g3,if_pos g3]at hk
  refine Aa (fun _=>Aa (fun h=>by omega) fun _=>?_) fun h=>by omega
  exact Aa (fun _=>Aa (fun _=>hk) fun h=>by omega) fun h=>by omega
 rw[if_neg g3,if_neg g3]at hk
 by_cases g4:240<=b/\b<248
 ·rw[if_pos g4,if_pos g4]at hk
  refine Aa (fun _=>Aa (fun h=>by omega) fun _=>?_) fun h=>by omega
  refine Aa (fun _=>Aa (fun h=>by omega) fun _=>?_) fun h=>by omega
  exact Aa (fun _=>Aa (fun _=>hk) fun h=>by omega) fun h=>by omega
 rw[if_neg g4,if_neg g4]at hk
 repeat' first
  | exact hk
  | omega
  | refine Aa (fun _=>?_) fun _=>?_
theorem OQ {R:Int} {r:Nat} {st:St} {K:Bool->St->Prop} (hR:R=(r:Int)) (hk:K (decide (AW r)) st):CallT PR Gl [.int .i64 R] [.one (.bool)] st K:=by
 unfold AW at hk
 refine Of R st K (Aa (fun _=>Aa (fun h2=>Aa (fun h3=>?_) fun h3=>?_) fun h2=>?_) fun h1=>by omega)
 ·exact B7 (decide_eq_true (by omega)).symm hk
 ·exact B7 (decide_eq_decide.2 (by omega)) hk
 ·exact B7 (decide_eq_false (by omega)).symm hk
theorem QG {R:Int} {r:Nat} {st:St} {K:Int->St->Prop} (hR:R=(r:Int)) (hk:K (wid r:Nat) st):CallT PR Hq [.int .i64 R] [.one (.int .i64)] st K:=by
 unfold wid at hk
 refine PB R st K (Aa (fun h1=>?_) fun h1=>Aa (fun h2=>?_) fun h2=>Aa (fun h3=>?_) fun h3=>?_)
 ·rw[if_pos (by omega)]at hk;exact hk
 ·rw[if_neg (by omega),if_pos (by omega)]at hk;exact hk
 ·rw[if_neg (by omega),if_neg (by omega),if_pos (by omega)]at hk;exact hk
 ·rw[if_neg (by omega),if_neg (by omega),if_neg (by omega)]at hk;exact hk
def Mt (l:B8):Prop:=hdS (bt l 0)≠0/\hdS (bt l 0)<=l.length/\(∀j,1<=j->j<hdS (bt l 0)->bt l j/64=2)/\AW (BN l (hdB (bt l 0)) (hdS (bt l 0)-1))/\wid (BN l (hdB (bt l 0)) (hdS (bt l 0)-1))=hdS (bt l 0)
theorem VY (l:B8) (h:l≠ []) (hp:Mt l):ul l=hdS (bt l 0)/\ur l=BN l (hdB (bt l 0)) (hdS (bt l 0)-1):=by
 obtain⟨p1,p2,p3,p4,p5⟩:=hp
 have e:=I6 l h
 have h0:=D9 l 0
 have e0:(l.getD 0 0).toNat=bt l 0:=rfl
 have e1:(l.getD 1 0).toNat=bt l 1:=rfl
 have e2:(l.getD 2 0).toNat=bt l 2:=rfl
 have e3:(l.getD 3 0).toNat=bt l 3:=rfl
 have fin:∀n r,rsz (bt l 0)=n->rb0 (bt l 0)=r->n=hdS (bt l 0)->r=hdB (bt l 0)->Fb (BN l r (n-1))=l.take n->ul l=hdS (bt l 0)/\ur l=BN l (hdB (bt l 0)) (hdS (bt l 0)-1):=by
  intro n r hn hr hn2 hr2 henc
  unfold Re at e
  simp only[hn,hr]at e
  rw[if_neg (by omega),if_pos ⟨by rw[hr2,hn2];exact p4,henc⟩]at e
  by_cases hz:ul l=0
  ·rw[if_pos hz]at e;simp only[Prod.mk.injEq]at e;omega
  ·rw[if_neg hz]at e;simp only[Prod.mk.injEq]at e
   exact⟨by omega,by rw[<-hr2,<-hn2];exact e.1.symm⟩
 have h1:=D9 l 1
 have h2:=D9 l 2
 have h3:=D9 l 3
 by_cases g1:bt l 0<128
 ·have hs:hdS (bt l 0)=1:=by unfold hdS;rw[if_pos g1]
  have hb:hdB (bt l 0)=bt l 0:=by unfold hdB;rw[if_pos g1]
  refine fin 1 (bt l 0) (by unfold rsz;rw[if_neg (by omega),if_neg (by omega),if_neg (by omega)]) (by unfold rb0;rw[if_neg (by omega),if_neg (by omega),if_neg (by omega)]) hs.symm hb.symm ?_
  rw[Kp l (by omega)]
  simp only[Nat.sub_self,BN]
  unfold Fb
  rw[if_pos g1]
  simp only[CV,CK,e0,and_true]
  omega
 by_cases g2:192<=bt l 0/\bt l 0<224
 ·have hs:hdS (bt l 0)=2:=by unfold hdS;rw[if_neg g1,if_pos g2]
  have hb:hdB (bt l 0)=bt l 0%32:=by unfold hdB;rw[if_neg g1,if_pos g2]
  rw[hs]at p3 p5
  rw[hb]at p5
  have q1:=p3 1 (by omega) (by omega)
  refine fin 2 (bt l 0%32) (by unfold rsz;rw[if_neg (by omega),if_neg (by omega),if_pos (by omega)]) (by unfold rb0;rw[if_neg (by omega),if_neg (by omega),if_pos (by omega)]) hs.symm hb.symm ?_
  rw[Ko l (by omega)]
  simp only[Nat.reduceSub,BN,Nat.zero_add]at p5⊢
  generalize bt l 0=b0 at*
  generalize bt l 1=b1 at*
  unfold wid at p5
  unfold Fb
  by_cases k1:b0%32*64+b1%64<128
  ·rw[if_pos k1]at p5;omega
  rw[if_neg k1]at p5⊢
  by_cases k2:b0%32*64+b1%64<2048
  ·rw[if_pos k2]
   simp only[CV,CK,e0,e1,and_true]
   omega
  ·rw[if_neg k2]at p5;split at p5<;>omega
 by_cases g3:224<=bt l 0/\bt l 0<240
 ·have hs:hdS (bt l 0)=3:=by unfold hdS;rw[if_neg g1,if_neg g2,if_pos g3]
  have hb:hdB (bt l 0)=bt l 0%16:=by unfold hdB;rw[if_neg g1,if_neg g2,if_pos g3]
  rw[hs]at p3 p5
  rw[hb]at p5
  have q1:=p3 1 (by omega) (by omega)
  have q2:=p3 2 (by omega) (by omega)
  refine fin 3 (bt l 0%16) (by unfold rsz;rw[if_neg (by omega),if_pos (by omega)]) (by unfold rb0;rw[if_neg (by omega),if_pos (by omega)]) hs.symm hb.symm ?_
  rw[Hf l (by omega)]
  simp only[Nat.reduceSub,BN,Nat.zero_add,Nat.reduceAdd]at p5⊢
  generalize bt l 0=b0 at*
  generalize bt l 1=b1 at*
  generalize bt l 2=b2 at*
  generalize hr:(b0%16*64+b1%64)*64+b2%64=r at*
  unfold wid at p5
  unfold Fb
  by_cases k1:r<128
  ·rw[if_pos k1]at p5;omega
  rw[if_neg k1]at p5⊢
  by_cases k2:r<2048
  ·rw[if_pos k2]at p5;omega
  rw[if_neg k2]at p5⊢
  by_cases k3:r<65536
  ·rw[if_pos k3]
   simp only[CV,CK,e0,e1,e2,and_true]
   omega
  ·rw[if_neg k3]at p5;omega
 by_cases g4:240<=bt l 0/\bt l 0<248
 ·have hs:hdS (bt l 0)=4:=by unfold hdS;rw[if_neg g1,if_neg g2,if_neg g3,if_pos g4]
  have hb:hdB (bt l 0)=bt l 0%8:=by unfold hdB;rw[if_neg g1,if_neg g2,if_neg g3,if_pos g4]
  rw[hs]at p3 p4 p5
  rw[hb]at p4 p5
  have q1:=p3 1 (by omega) (by omega)
  have q2:=p3 2 (by omega) (by omega)
  have q3:=p3 3 (by omega) (by omega)
  refine fin 4 (bt l 0%8) (by unfold rsz;rw[if_pos (by omega)]) (by unfold rb0;rw[if_pos (by omega)]) hs.symm hb.symm ?_
  rw[Lj l (by omega)]
  simp only[Nat.reduceSub,BN,Nat.zero_add,Nat.reduceAdd]at p4 p5⊢
  generalize bt l 0=b0 at*
  generalize bt l 1=b1 at*
  generalize bt l 2=b2 at*
  generalize bt l 3=b3 at*
  generalize hr:((b0%8*64+b1%64)*64+b2%64)*64+b3%64=r at*
  unfold wid at p5
  unfold Fb
  by_cases k1:r<128
  ·rw[if_pos k1]at p5;omega
  rw[if_neg k1]at p5⊢
  by_cases k2:r<2048
  ·rw[if_pos k2]at p5;omega
  rw[if_neg k2]at p5⊢
  by_cases k3:r<65536
  ·rw[if_pos k3]at p5;omega
  rw[if_neg k3]
  have:=p4.1
  simp only[CV,CK,e0,e1,e2,e3,and_true]
  omega
 ·exfalso
  unfold hdS at p1
  rw[if_neg g1,if_neg g2,if_neg g3,if_neg g4]at p1
  exact p1 rfl
theorem VZ (l:B8) (h:l≠ []):ul l≠0->Mt l:=by
 intro hu
 have e:=I6 l h
 rw[if_neg hu]at e
 have h0:=D9 l 0
 have e0:(l.getD 0 0).toNat=bt l 0:=rfl
 have e1:(l.getD 1 0).toNat=bt l 1:=rfl
 have e2:(l.getD 2 0).toNat=bt l 2:=rfl
 have e3:(l.getD 3 0).toNat=bt l 3:=rfl
 have h1:=D9 l 1
 have h2:=D9 l 2
 have h3:=D9 l 3
 have hc:¬l.length<rsz (bt l 0)/\AW (BN l (rb0 (bt l 0)) (rsz (bt l 0)-1))/\Fb (BN l (rb0 (bt l 0)) (rsz (bt l 0)-1))=l.take (rsz (bt l 0)):=by
  unfold Re at e
  simp only at e
  split at e
  ·simp only[Prod.mk.injEq]at e;omega
  ·split at e
   ·rename_i a b;exact⟨a,b⟩
   ·simp only[Prod.mk.injEq]at e;omega
 obtain⟨hl,hch,henc⟩:=hc
 by_cases g4:240<=bt l 0
 ·have r4:rsz (bt l 0)=4:=by unfold rsz;rw[if_pos g4]
  have rb:rb0 (bt l 0)=bt l 0%8:=by unfold rb0;rw[if_pos g4]
  rw[r4,rb]at henc hch
  rw[r4]at hl
  rw[Lj l (by omega)]at henc
  unfold Mt hdS hdB
  simp only[Nat.reduceSub,BN,Nat.zero_add,Nat.reduceAdd]at henc hch
  generalize hb0:bt l 0=b0 at*
  generalize hb1:bt l 1=b1 at*
  generalize hb2:bt l 2=b2 at*
  generalize hb3:bt l 3=b3 at*
  have hr0:∃r,r=((b0%8*64+b1%64)*64+b2%64)*64+b3%64:=⟨_,rfl⟩
  obtain⟨r,hr⟩:=hr0
  rw[<-hr]at henc hch
  have hmax:=hch.1
  unfold Fb at henc
  have hw:wid r=4/\b0=240+r/262144/\b1/64=2/\b2/64=2/\b3/64=2:=by
   unfold wid
   split at henc
   ·simp at henc
   ·split at henc
    ·simp at henc
    ·split at henc
     ·simp at henc
     ·simp only[CV,CK,e0,e1,e2,e3,and_true]at henc
      refine⟨by rw[if_neg ‹_›,if_neg ‹_›,if_neg ‹_›],by omega,by omega,by omega,by omega⟩
  rw[if_neg (show ¬b0<128 by omega),if_neg (show ¬(192<=b0/\b0<224) by omega),if_neg (show ¬(224<=b0/\b0<240) by omega),if_pos (show 240<=b0/\b0<248 by omega),if_neg (show ¬b0<128 by omega),if_neg (show ¬(192<=b0/\b0<224) by omega),if_neg (show ¬(224<=b0/\b0<240) by omega),if_pos (show 240<=b0/\b0<248 by omega)]
  simp only[Nat.reduceSub,BN,Nat.zero_add,Nat.reduceAdd,hb1,hb2,hb3]
  rw[<-hr]
  refine⟨by omega,by omega,fun j j1 j2=>?_,hch,hw.1⟩
  have:j=1∨j=2∨j=3:=by omega
  rcases this with rfl | rfl | rfl<;>omega
 by_cases g3:224<=bt l 0
 ·have r4:rsz (bt l 0)=3:=by unfold rsz;rw[if_neg g4,if_pos g3]
  have rb:rb0 (bt l 0)=bt l 0%16:=by unfold rb0;rw[if_neg g4,if_pos g3]
  rw[r4,rb]at henc hch
  rw[r4]at hl
  rw[Hf l (by omega)]at henc
  unfold Mt hdS hdB
  simp only[Nat.reduceSub,BN,Nat.zero_add,Nat.reduceAdd]at henc hch
  generalize hb0:bt l 0=b0 at*
  generalize hb1:bt l 1=b1 at*
  generalize hb2:bt l 2=b2 at*
  have hr0:∃r,r=(b0%16*64+b1%64)*64+b2%64:=⟨_,rfl⟩
  obtain⟨r,hr⟩:=hr0
  rw[<-hr]at henc hch
  unfold Fb at henc
  have hw:wid r=3/\b1/64=2/\b2/64=2:=by
   unfold wid
   split at henc
   ·simp at henc
   ·split at henc
    ·simp at henc
    ·split at henc
     ·simp only[CV,CK,e0,e1,e2,and_true]at henc
      refine⟨by rw[if_neg ‹_›,if_neg ‹_›,if_pos ‹_›],by omega,by omega⟩
     ·simp at henc
  rw[if_neg (show ¬b0<128 by omega),if_neg (show ¬(192<=b0/\b0<224) by omega),if_pos (show 224<=b0/\b0<240 by omega),if_neg (show ¬b0<128 by omega),if_neg (show ¬(192<=b0/\b0<224) by omega),if_pos (show 224<=b0/\b0<240 by omega)]
  simp only[Nat.reduceSub,BN,Nat.zero_add,Nat.reduceAdd,hb1,hb2]
  rw[<-hr]
  refine⟨by omega,by omega,fun j j1 j2=>?_,hch,hw.1⟩
  have:j=1∨j=2:=by omega
  rcases this with rfl | rfl<;>omega
 by_cases g2:192<=bt l 0
 ·have r4:rsz (bt l 0)=2:=by unfold rsz;rw[if_neg g4,if_neg g3,if_pos g2]
  have rb:rb0 (bt l 0)=bt l 0%32:=by unfold rb0;rw[if_neg g4,if_neg g3,if_pos g2]
  rw[r4,rb]at henc hch
  rw[r4]at hl
  rw[Ko l (by omega)]at henc
  unfold Mt hdS hdB
  simp only[Nat.reduceSub,BN,Nat.zero_add,Nat.reduceAdd]at henc hch
  generalize hb0:bt l 0=b0 at*
  generalize hb1:bt l 1=b1 at*
  have hr0:∃r,r=b0%32*64+b1%64:=⟨_,rfl⟩
  obtain⟨r,hr⟩:=hr0
  rw[<-hr]at henc hch
  unfold Fb at henc
  have hw:wid r=2/\b1/64=2:=by
   unfold wid
   split at henc
   ·simp at henc
   ·split at henc
    ·simp only[CV,CK,e0,e1,and_true]at henc
     refine⟨by rw[if_neg ‹_›,if_pos ‹_›],by omega⟩
    ·split at henc<;>simp at henc
  rw[if_neg (show ¬b0<128 by omega),if_pos (show 192<=b0/\b0<224 by omega),if_neg (show ¬b0<128 by omega),if_pos (show 192<=b0/\b0<224 by omega)]
  simp only[Nat.reduceSub,BN,Nat.zero_add,hb1]
  rw[<-hr]
  refine⟨by omega,by omega,fun j j1 j2=>?_,hch,hw.1⟩
  have:j=1:=by omega
  subst this;omega
 ·have r4:rsz (bt l 0)=1:=by unfold rsz;rw[if_neg g4,if_neg g3,if_neg g2]
  have rb:rb0 (bt l 0)=bt l 0:=by unfold rb0;rw[if_neg g4,if_neg g3,if_neg g2]
  rw[r4,rb]at henc hch
  rw[r4]at hl
  rw[Kp l (by omega)]at henc
  unfold Mt hdS hdB
  simp only[Nat.sub_self,BN]at henc hch
  generalize hb0:bt l 0=b0 at*
  have hlt:b0<128:=by
   unfold Fb at henc
   split at henc
   ·assumption
   ·split at henc
    ·simp at henc
    ·split at henc<;>simp at henc
  rw[if_pos hlt,if_pos hlt]
  simp only[Nat.sub_self,BN]
  refine⟨by omega,by omega,fun j j1 j2=>by omega,hch,by unfold wid;rw[if_pos hlt]⟩
theorem R8 {s:B8} {I:Int} {i:Nat} {st:St} {K:Int->Int->St->Prop} (hI:I=(i:Int)) (hl:s.length<=2000000) (hi:i<=s.length) (hk:K ((rD (s.drop i)).1:Nat) ((rD (s.drop i)).2:Nat) st):
  CallT PR Dp [.str s,.int .i64 I] [.one (.int .i64),.one (.int .i64)] st K:=by
 have no:¬Mt (s.drop i)->s.drop i≠ []->K 0 0 st:=fun h hne=>by
  have:ul (s.drop i)=0:=Decidable.byContradiction fun h0=>h (VZ _ hne h0)
  unfold rD at hk
  rw[if_pos this]at hk;exact hk
 have yes:Mt (s.drop i)->s.drop i≠ []->K (BN (s.drop i) (hdB (bt (s.drop i) 0)) (hdS (bt (s.drop i) 0)-1):Nat) (hdS (bt (s.drop i) 0):Nat) st:=fun h hne=>by
  have hv:=VY _ hne h
  unfold rD at hk
  rw[if_neg (by rw[hv.1];exact h.1),hv.1,hv.2]at hk
  exact hk
 have hlen:(s.drop i).length=s.length-i:=by simp
 have hb:∀j,bt (s.drop i) j=(s.getD (i+j) 0).toNat:=MK s i
 refine Jr s I st K (Aa (fun h=>by omega) fun _=>Aa (fun h=>?_) fun h=>⟨⟨by omega,by omega⟩,?_⟩)
 ·have:s.drop i=[]:=List.drop_of_length_le (by omega)
  have h0:rD (s.drop i)=(0,0):=by rw[this];simp[rD,ul]
  rw[h0]at hk;exact hk
 have hne:s.drop i≠ []:=by
  intro h0
  have:=congrArg List.length h0
  rw[hlen]at this;simp only[List.length_nil]at this;omega
 have hb0:(List.getD s (Int.toNat I) 0).toNat=bt (s.drop i) 0:=by rw[hb,hI];rfl
 have hlt:=D9 (s.drop i) 0
 rw[hb0]
 refine Uc rfl hlt ?_
 have hsz:hdS (bt (s.drop i) 0)<=4:=by unfold hdS;(repeat' split)<;>omega
 have hbz:hdB (bt (s.drop i) 0)<256:=by unfold hdB;(repeat' split)<;>omega
 unfold Mt at no yes
 generalize hdS (bt (s.drop i) 0)=n at*
 generalize hdB (bt (s.drop i) 0)=r0 at*
 rw[Ah _ (by omega) (by omega)]
 refine Aa (fun g=>no (fun hh=>hh.1 (by omega)) hne) fun g1=>Aa (fun g=>no (fun hh=>by omega) hne) fun g2=>?_
 have hra:=MA (s.drop i) r0 hbz
 refine⟨fun r j s' at' sz st2=>s=s'/\I=at'/\st=st2/\((n:Nat):Int)=sz/\∃k:Nat,j=((k+1:Nat):Int)/\k+1<=n/\r=((BN (s.drop i) r0 k:Nat):Int)/\∀m,1<=m->m<=k->bt (s.drop i) m/64=2,fun _ j _ _ sz _=>(sz-j).toNat,⟨rfl,rfl,rfl,rfl,0,rfl,by omega,rfl,fun m h1 h2=>by omega⟩,?_⟩
 rintro _ _ _ _ _ _ ⟨rfl,rfl,rfl,rfl,k,rfl,hk1,rfl,hall⟩
 have hrk:=hra k
 have h64:64^k<=64^3:=Nat.pow_le_pow_right (by decide) (by omega)
 refine Aa (fun h2=>?_) fun h2=>?_
 ·rw[Ah (I+((k+1:Nat):Int)) (by omega) (by omega)]
  have hbk:(List.getD s (Int.toNat (I+((k+1:Nat):Int))) 0).toNat=bt (s.drop i) (k+1):=by
   rw[hb,show Int.toNat (I+((k+1:Nat):Int))=i+(k+1) by omega]
  have hbl:=D9 (s.drop i) (k+1)
  have h192:AI .and .u8 ((bt (s.drop i) (k+1):Nat):Int) (192:Int)=((bt (s.drop i) (k+1)&&&192:Nat):Int):=Tx _ 192 hbl (by decide)
  have hand:i64.wrap (AI .and .u8 ((bt (s.drop i) (k+1):Nat):Int) (63:Int))=((bt (s.drop i) (k+1)%64:Nat):Int):=by
   rw[show(63:Int)=((2^6-1:Nat):Int) by decide,GW _ 6 hbl (by decide),Ah _ (by omega) (by omega)]
  have hmul:i64.wrap (((BN (s.drop i) r0 k:Nat):Int)*2^(min (Int.toNat (6:Int)) (IntKind.bits .i64)))=((BN (s.drop i) r0 k*2^6:Nat):Int):=by
   rw[show(2:Int)^(min (Int.toNat (6:Int)) (IntKind.bits .i64))=64 by decide,Ah _ (by omega) (by omega)];omega
  have hc:(bt (s.drop i) (k+1)&&&192)=128↔bt (s.drop i) (k+1)/64=2:=by
   have:∀x,x<256->((x&&&192)=128↔x/64=2):=by decide+kernel
   exact this _ hbl
  refine⟨⟨by omega,by omega⟩,?_⟩
  rw[hbk,h192,hand,hmul,P0 _ _ 6 (by omega) (by omega),Ah _ (by omega) (by omega)]
  refine Aa (fun h3=>no (fun hh=>h3 ?_) hne) fun h3=>?_
  ·have:=hh.2.2.1 (k+1) (by omega) (by omega)
   rw[hc.2 this];rfl
  ·have h4:bt (s.drop i) (k+1)/64=2:=hc.1 (by omega)
   refine⟨⟨rfl,rfl,rfl,rfl,k+1,by omega,by omega,by simp only[BN],fun m m1 m2=>?_⟩,by dsimp only;omega⟩
   by_cases hm:m=k+1
   ·rw[hm];exact h4
   ·exact hall m m1 (by omega)
 ·have hks:k=n-1:=by omega
  subst hks
  refine OQ rfl (Am (fun h3=>no (fun hh=>?_) hne) fun h3=>QG rfl (Aa (fun h4=>no (fun hh=>?_) hne) fun h4=>?_))
  ·simp only[Bool.not_eq_true',decide_eq_false_iff_not]at h3
   exact h3 hh.2.2.2.1
  ·rw[hh.2.2.2.2]at h4;exact h4 rfl
  ·simp only[Bool.not_eq_false',decide_eq_true_eq]at h3
   exact yes ⟨by omega,by omega,fun m m1 m2=>hall m m1 (by omega),h3,by omega⟩ hne
theorem uLen_ok {s:B8} {st:St} {K:Int->Int->St->Prop} (hl:s.length<=2000000) (hk:∀n:Int,K n (if Bh s=s.length then 0 else 5) st):CallT PR J3 [.str s] [.one (.int .i64),.one (.int .i64)] st K:=by
 have hv:=Kd s
 refine R5 s st K ⟨fun n i s' st'=>s=s'/\st=st'/\∃k:Nat,i=(k:Int)/\k<=s.length/\k+Bh (s.drop k)=Bh s,fun _ i _ _=>(s.length-i).toNat,⟨rfl,rfl,0,rfl,by omega,by simp⟩,?_⟩
 rintro n _ _ _ ⟨rfl,rfl,k,rfl,h1,h2⟩
 refine Aa (fun g1=>R8 rfl hl h1 ?_) fun g1=>?_
 ·have hle:=OL (s.drop k)
  rw[List.length_drop]at hle
  unfold rD
  by_cases h0:ul (s.drop k)=0
  ·rw[if_pos h0]
   rw[DC _ h0]at h2
   have:=hk 0
   rw[if_neg (by omega)]at this
   exact Aa (fun _=>this) fun h=>absurd rfl h
  ·rw[if_neg h0]
   rw[Eb _ h0,List.drop_drop]at h2
   refine Aa (fun h=>absurd h (by show ¬((ul (s.drop k):Nat):Int)=0;omega)) fun _=>?_
   have w:i64.wrap ((k:Int)+(ul (s.drop k):Nat))=((k+ul (s.drop k):Nat):Int):=by rw[Ah _ (by omega) (by omega)];omega
   dsimp only
   rw[w]
   exact⟨⟨rfl,rfl,_,rfl,by omega,by omega⟩,by omega⟩
 ·rw[show s.drop k=[]from List.drop_of_length_le (by omega),Kc]at h2
  have:=hk n
  rw[if_pos (by omega)]at this
  exact this
theorem Lc {s:B8} {st:St} {K:Bool->St->Prop} (hl:s.length<=2000000) (hk:K (decide (Bh s=s.length)) st):CallT PR DQ [.str s] [.one (.bool)] st K:=by
 refine PC s st K (uLen_ok hl fun n=>?_)
 by_cases h:Bh s=s.length
 ·rw[if_pos h];rw[decide_eq_true h]at hk;exact hk
 ·rw[if_neg h];rw[decide_eq_false h]at hk;exact hk
theorem Km {l:B8} {c:UInt8} (hc:c.toNat<128) (hl:l.length<=9223372036854775807) {st:St} {K:B8->St->Prop} (hk:K (Lib.trimRightB l c) st):CallT PR CO [.str l,.str [c]] [.one .str] st K:=by
 refine CZ (fun _ _=>by kernel_rfl) fun g w vargs s hr=>?_
 obtain⟨v,u,rfl,hv,hu⟩:=Nm hr
 rw[Bk hv,Bk hu]
 refine Calls.mono (Tryz.strings_TrimRight_one ⟨l.toArray⟩ c hc w (by simpa [ByteArray.size]using hl)) ?_
 rintro e w' ⟨rfl,rfl⟩
 exact⟨_,rfl,.str _,st,g,hk,s,Rel.str _,Ext.refl _ _⟩
theorem Iq (l:B8):(Lib.trimRightB l 48).length+Br l=l.length:=by
 unfold Lib.trimRightB Br
 have:=congrArg List.length (List.takeWhile_append_dropWhile (p:=fun x:UInt8=>x==48) (l:=l.reverse))
 rw[List.length_append,List.length_reverse]at this
 rw[List.length_reverse];omega
theorem Vt {l:B8} (hl:l.length<=2000000) {st:St} {K:Int->St->Prop} (hk:K (Br l:Nat) st):CallT PR EH [.str l] [.one (.int .i64)] st K:=by
 refine Mi _ st K (Km (by decide) (by omega) ?_)
 have:=Iq l
 rw[Ah _ (by omega) (by omega),show((l.length:Nat):Int)-((Lib.trimRightB l 48).length:Int)=(Br l:Nat) by omega]
 exact hk
theorem R9 {p:UInt8->Bool}:∀(r:B8) (n:Nat),n<=r.length->(∀j x,j<n->r[j]? =some x->p x=true)->(∀x,r[n]? =some x->p x=false)->(r.takeWhile p).length=n
 | [],n,h,_,_=>by simp at h;simp[h]
 | a::r,0,_,_,h=>by simp[List.takeWhile_cons,h a rfl]
 | a::r,n+1,h,h1,h2=>by
  rw[List.takeWhile_cons,if_pos (h1 0 a (by omega) rfl),List.length_cons,R9 r n (by simpa using h) (fun j x hj hx=>h1 (j+1) x (by omega) (by simpa using hx)) (fun x hx=>h2 x (by simpa using hx))]
theorem VM (l:B8) (n:Nat) (h:n<l.length):l.reverse[n]? =some (List.getD l (l.length-1-n) 0):=by
 rw[List.getElem?_reverse h,List.getD_eq_getElem?_getD,List.getElem?_eq_getElem (by omega),Option.getD_some]
theorem UL {l:B8} (hl:l.length<=2000000) {st:St} {K:Int->St->Prop} (hk:K (Br l:Nat) st):CallT PR CE [.str l] [.one (.int .i64)] st K:=by
 refine H2 l st K ⟨fun i s st'=>l=s/\st=st'/\∃n:Nat,i=n/\n<=l.length/\∀j x,j<n->l.reverse[j]? =some x->(x==48)=true,fun i _ _=>(l.length-i).toNat,⟨rfl,rfl,0,rfl,Nat.zero_le _,fun j x hj=>absurd hj (Nat.not_lt_zero _)⟩,?_⟩
 rintro _ _ _ ⟨rfl,rfl,n,rfl,hn,hall⟩
 refine Aa (fun g=>?_) fun g=>?_
 ·have hr:=VM l n (by omega)
  rw[Ah ((l.length:Int)-1) (by omega) (by omega),Ah _ (by omega) (by omega),show Int.toNat ((l.length:Int)-1-(n:Int))=l.length-1-n by omega]
  refine⟨⟨by omega,by omega⟩,?_⟩
  generalize List.getD l (l.length-1-n) 0=c at hr⊢
  refine Aa (fun g2=>?_) fun g2=>?_
  ·rw[Ah _ (by omega) (by omega)]
   refine⟨⟨rfl,rfl,n+1,by omega,by omega,fun j x hj hx=>?_⟩,by dsimp only;omega⟩
   by_cases hjn:j=n
   ·subst hjn
    rw[hr]at hx
    rw[<-Option.some.inj hx]
    simpa [<-UInt8.toNat_inj]using (by omega:c.toNat=48)
   ·exact hall j x (by omega) hx
  ·have:Br l=n:=R9 _ n (by simpa using hn) hall fun x hx=>by
    rw[hr]at hx
    rw[<-Option.some.inj hx]
    have:c≠48:=fun e=>g2 (by rw[e];rfl)
    simpa using this
   rw[<-this];exact hk
 ·have:Br l=n:=R9 _ n (by simpa using hn) hall fun x hx=>by
   rw[List.getElem?_eq_none (by simp;omega)]at hx;cases hx
  rw[<-this];exact hk
theorem FA {l:B8} {n:Nat} (h:n<l.length):List.getD l n 0∈l:=by
 rw[List.getD_eq_getElem?_getD,List.getElem?_eq_getElem h,Option.getD_some]
 exact List.getElem_mem h
theorem RX {P:UInt8->Prop} {l:B8} {n:Nat} (h:n<l.length) (h1:∀c,c∈l.take n->P c) (h2:P (List.getD l n 0)):∀c,c∈l.take (n+1)->P c:=by
 intro c hc
 rw[Ei _ _ 0 h]at hc
 rcases List.mem_append.1 hc with hc | hc
 ·exact h1 c hc
 ·rw[List.mem_singleton.1 hc];exact h2
theorem all_ok {l:B8} (hl:l.length<=2000000) {st:St} {K:Bool->St->Prop} (hk:K (decide (∀c,c∈l->AR c)) st):CallT PR Gq [.str l] [.one .bool] st K:=by
 refine Ol l st K ⟨fun i s m st'=>l=s/\(l.length:Int)=m/\st=st'/\∃n:Nat,i=n/\n<=l.length/\∀c,c∈l.take n->AR c,fun i _ _ _=>(l.length-i).toNat,⟨rfl,rfl,rfl,0,rfl,Nat.zero_le _,fun c hc=>by simp at hc⟩,?_⟩
 rintro _ _ _ _ ⟨rfl,rfl,rfl,n,rfl,hn,hall⟩
 refine Aa (fun g=>?_) fun g=>?_
 ·have hm:=FA (l:=l) (n:=n) (by omega)
  have bad:¬AR (List.getD l n 0)->K false st:=fun hb=>by
   rw[decide_eq_false fun h=>hb (h _ hm)]at hk;exact hk
  rw[Int.toNat_natCast]
  refine⟨⟨by omega,by omega⟩,Aa (fun g2=>bad (by unfold AR;omega)) fun g2=>⟨⟨by omega,by omega⟩,Aa (fun g3=>bad (by unfold AR;omega)) fun g3=>?_⟩⟩
  rw[Ah _ (by omega) (by omega)]
  exact⟨⟨rfl,rfl,rfl,n+1,by omega,by omega,RX (by omega) hall (by unfold AR;omega)⟩,by dsimp only;omega⟩
 ·have:n=l.length:=by omega
  subst this
  rw[List.take_length]at hall
  rw[decide_eq_true hall]at hk;exact hk
theorem Sw {l:B8} (hl:l.length<=2000000) {st:St} {K:Bool->St->Prop} (hk:K (decide (∀c,c∈l->AR c)) st):CallT PR Cl [.str l] [.one .bool] st K:=by
 refine Hb l st K ⟨fun i s st'=>l=s/\st=st'/\∃n:Nat,i=n/\n<=l.length/\∀c,c∈l.take n->AR c,fun i _ _=>(l.length-i).toNat,⟨rfl,rfl,0,rfl,Nat.zero_le _,fun c hc=>by simp at hc⟩,?_⟩
 rintro _ _ _ ⟨rfl,rfl,n,rfl,hn,hall⟩
 refine Aa (fun g=>?_) fun g=>?_
 ·have hm:=FA (l:=l) (n:=n) (by omega)
  have bad:¬AR (List.getD l n 0)->K false st:=fun hb=>by
   rw[decide_eq_false fun h=>hb (h _ hm)]at hk;exact hk
  rw[Int.toNat_natCast]
  refine⟨⟨by omega,by omega⟩,Aa (fun g2=>bad (by unfold AR;omega)) fun g2=>⟨⟨by omega,by omega⟩,Aa (fun g3=>bad (by unfold AR;omega)) fun g3=>?_⟩⟩
  rw[Ah _ (by omega) (by omega)]
  exact⟨⟨rfl,rfl,n+1,by omega,by omega,RX (by omega) hall (by unfold AR;omega)⟩,by dsimp only;omega⟩
 ·have:n=l.length:=by omega
  subst this
  rw[List.take_length]at hall
  rw[decide_eq_true hall]at hk;exact hk
def IU (l:B8):Prop:=l.length<=600/\(∀c,c∈l->AR c)/\(l≠ []->l.getD 0 0≠48)
instance (l:B8):Decidable (IU l):=inferInstanceAs (Decidable (_/\_/\(_->_)))
theorem ne48 (c:UInt8):decide ((c.toNat:Int)≠48)=decide (c≠48):=by
 have:((c.toNat:Int)≠48)↔c≠48:=by rw[ne_eq,ne_eq,<-UInt8.toNat_inj];exact not_congr ⟨fun h=>Int.ofNat.inj h,fun h=>by rw[h];rfl⟩
 exact decide_eq_decide.2 this
theorem Pm {l:B8} (hl:l.length<=2000000) {st:St} {K:Bool->St->Prop} (hk:K (decide (IU l)) st):CallT PR Du [.str l] [.one .bool] st K:=by
 have no:¬IU l->K false st:=fun h=>by rw[decide_eq_false h]at hk;exact hk
 refine Mj l st K (Aa (fun g=>all_ok hl (Aa (fun g2=>Aa (fun g3=>?_) fun g3=>⟨⟨by omega,by have:=List.length_pos_iff.2 g3;omega⟩,?_⟩) fun g2=>no fun h=>g2 h.2.1)) fun g=>no fun h=>g (by have:=h.1;omega))
 ·rw[decide_eq_true (show IU l from⟨by omega,g2,fun h=>absurd g3 h⟩)]at hk;exact hk
 ·rw[ne48]
  refine B7 (decide_eq_decide.2 ?_) hk
  exact⟨fun h=>⟨by omega,g2,fun _=>h⟩,fun h=>h.2.2 g3⟩
theorem rNum_ok {l:B8} (hl:l.length<=2000000) {st:St} {K:Bool->St->Prop} (hk:K (decide (IU l)) st):CallT PR CF [.str l] [.one .bool] st K:=by
 have no:¬IU l->K false st:=fun h=>by rw[decide_eq_false h]at hk;exact hk
 refine H3 l st K (Aa (fun g=>Sw hl (Aa (fun g2=>Aa (fun g3=>?_) fun g3=>⟨⟨by omega,by omega⟩,?_⟩) fun g2=>no fun h=>g2 h.2.1)) fun g=>no fun h=>g (by have:=h.1;omega))
 ·rw[decide_eq_true (show IU l from⟨by omega,g2,fun h=>absurd (List.eq_nil_of_length_eq_zero (by omega)) h⟩)]at hk;exact hk
 ·rw[ne48]
  refine B7 (decide_eq_decide.2 ?_) hk
  exact⟨fun h=>⟨by omega,g2,fun _=>h⟩,fun h=>h.2.2 fun e=>g3 (by rw[e];rfl)⟩
theorem GP {neg:Bool} {l:B8} {ex:Int} (h:l≠ []):ET neg l ex↔IU l/\l.length<=120/\Br l=0/\ -400<=ex/\ex<=400:=by
 unfold ET IU
 constructor
 ·intro g
  obtain⟨g1,g2,g3,g4,g5,g6⟩:=g.2 h
  exact⟨⟨by omega,g2,fun _=>g3⟩,g1,g4,g5,g6⟩
 ·rintro⟨⟨g1,g2,g3⟩,g4,g5,g6,g7⟩
  exact⟨fun e=>absurd e h,fun _=>⟨g4,g2,g3 h,g5,g6,g7⟩⟩
theorem Pl {neg:Bool} {ex:Int}:ET neg [] ex↔neg=false/\ex=0:=by
 unfold ET
 exact⟨fun g=>g.1 rfl,fun g=>⟨fun _=>g,fun h=>absurd rfl h⟩⟩
theorem L7 {neg:Bool} {l:B8} {ex:Int} (hl:l.length<=2000000) {st:St} {K:Bool->St->Prop} (hk:K (decide (ET neg l ex)) st):CallT PR C9 [.agg [.bool neg,.str l,.int .i64 ex]] [.one .bool] st K:=by
 have no:¬ET neg l ex->K false st:=fun h=>by rw[decide_eq_false h]at hk;exact hk
 refine K8 _ _ _ st K (Aa (fun g=>?_) fun g=>?_)
 ·subst g
  refine B7 ?_ hk
  rw[Bool.eq_iff_iff]
  simp[Pl]
 ·refine Pm hl (Aa (fun g2=>Aa (fun g3=>Vt hl (Aa (fun g4=>Aa (fun g5=>?_) fun g5=>?_) fun g4=>?_)) fun g3=>?_) fun g2=>?_)
  ·exact B7 (decide_eq_decide.2 (by rw[GP g];exact⟨fun h=>⟨g2,by omega,by omega,g5,h⟩,fun h=>h.2.2.2.2⟩)) hk
  ·exact no fun h=>g5 ((GP g).1 h).2.2.2.1
  ·exact no fun h=>g4 (by have:=((GP g).1 h).2.2.1;omega)
  ·exact no fun h=>g3 (by have:=((GP g).1 h).2.1;omega)
  ·exact no fun h=>g2 ((GP g).1 h).1
theorem Kn {k d n z:Int} {st:St} {K:Bool->St->Prop} (hk:K (decide (EO k d n z)) st):CallT PR Cm [.agg [.int .i64 k,.int .i64 d,.int .i64 n,.int .i64 z]] [.one .bool] st K:=by
 refine Mg _ _ _ _ st K ?_
 repeat' first
  | exact B7 (Eq.symm (decide_eq_false (by unfold EO;omega))) hk
  | exact B7 (Eq.symm (decide_eq_true (by unfold EO;omega))) hk
  | exact B7 (decide_eq_decide.2 (by unfold EO;omega)) hk
  | refine Aa (fun _=>?_) fun _=>?_
theorem orc {c p r:Bool} {K:Bool->Prop} {R1 R2:Prop} (h1:K r->R1) (h2:K r->R2) (hk:K ((c&&p) || r)):BIf c (BIf p (K true) R1) R2:=by
 cases c<;>cases p<;>simp only[Bool.true_and,Bool.false_and,Bool.true_or,Bool.false_or]at hk<;>first | exact h1 hk | exact h2 hk | exact hk
theorem orn {c p r s:Bool} {K:Bool->Prop} {R1 R2:Prop} (hs:s=true) (h1:K r->R1) (h2:K r->R2) (hk:K ((c&&p) || r)):BIf c (need s (BIf p (K true) R1)) R2:=by
 subst hs;exact orc h1 h2 hk
theorem ore {c p s:Bool} {K:Bool->Prop} (hs:s=true) (hk:K (c&&p)):BIf c (need s (K p)) (K false):=by
 subst hs;cases c<;>exact hk
def exB (s:Sc) (l:List Vl) (f:List Fd):Bool:=
 (decide (s.kind≠1)&&s.b) || ((decide (s.kind≠2)&& !((s.neg==false)&&(decide (s.dg=[])&&(decide (s.ex=0)&&true)))) || ((decide (s.kind≠3)&& !(decide (s.tk=0)&&(decide (s.td=0)&&(decide (s.tn=0)&&(decide (s.tz=0)&&true))))) ||
  ((decide (s.kind≠4)&&decide (s.text≠ [])) || ((decide (s.kind≠5)&&decide (0<(s.bytes.length:Int))) || ((decide (s.kind≠6)&&decide (0<(l.length:Int))) || (decide (s.kind≠7)&&decide (0<(f.length:Int))))))))
theorem Wj {α:Type} {l:List α}:¬0<(l.length:Int)↔l=[]:=by
 rw[<-List.length_eq_zero_iff];omega
theorem Pi {s:Sc} {l:List Vl} {f:List Fd} (h0:0<=s.kind) (h7:s.kind<=7):exB s l f=false↔N9 s l f:=by
 unfold exB
 simp only[Bool.or_eq_false_iff,Bool.and_eq_false_imp,decide_eq_true_eq,Bool.not_eq_false',Bool.and_eq_true,beq_iff_eq,decide_eq_false_iff_not,Wj,ne_eq,Decidable.not_not,and_true]
 constructor
 ·rintro⟨a,b,c,d,e,f,g⟩;exact⟨h0,h7,a,b,c,d,e,f,g⟩
 ·rintro⟨_,_,a,b,c,d,e,f,g⟩;exact⟨a,b,c,d,e,f,g⟩
theorem exB_eq {s:Sc} {l:List Vl} {f:List Fd} (h0:0<=s.kind) (h7:s.kind<=7):exB s l f= !decide (N9 s l f):=by
 cases h:exB s l f with
 | false=>rw[decide_eq_true ((Pi h0 h7).1 h)];rfl
 | true=>rw[decide_eq_false fun o=>by rw[(Pi h0 h7).2 o]at h;cases h];rfl
theorem WF {s:Sc} {l:List Vl} {f:List Fd} {ub ul uf:TV} {st:St} {K:Bool->St->Prop} (h1:isSl ub=true) (h2:isSl ul=true) (h3:isSl uf=true) (l1:lenS ub=s.bytes.length) (l2:lenS ul=l.length) (l3:lenS uf=f.length) (hk:K (exB s l f) st):
  CallT PR FB [.agg (Bf s ub ul uf)] [.one .bool] st K:=by
 unfold exB at hk
 refine MQ _ _ _ _ _ _ _ _ _ _ _ _ _ st K ?_
 rw[l1,l2,l3]
 revert hk
 repeat' first
  | (refine fun hk=>ore (K:=fun b=>K b st) h3 hk)
  | (refine fun hk=>orn (K:=fun b=>K b st) h1 ?_ ?_ hk)
  | (refine fun hk=>orn (K:=fun b=>K b st) h2 ?_ ?_ hk)
  | (refine fun hk=>orc (K:=fun b=>K b st) ?_ ?_ hk)
theorem key_ok {s:B8} (hl:s.length<=2000000) {st:St} {K:Int->St->Prop} (hk:K ((if U8 s then(if 1024<s.length then 10 else 0)else 5:Nat):Int) st):CallT PR Hp [.str s] [.one (.int .i64)] st K:=by
 refine Pz _ st K (Lc hl (Am (fun g=>?_) fun g=>?_))
 ·have hu:¬U8 s:=by unfold U8;simpa using g
  rw[if_neg hu]at hk;exact hk
 ·have hu:U8 s:=by unfold U8;simpa using g
  rw[if_pos hu]at hk
  refine Aa (fun g2=>?_) fun g2=>?_
  ·have h3:1024<s.length:=by omega
   rw[if_pos h3]at hk;exact hk
  ·have h3:¬1024<s.length:=by omega
   rw[if_neg h3]at hk;exact hk
theorem NL (k k':B8) (v:TV):∀es:List (B8×TV),CT k (Jl k' v es)=if k=k' then some v else CT k es
 | []=>by
  simp only[Jl,CT]
  by_cases h:k=k'<;>simp[h]
 | (k1,v1)::es=>by
  simp only[Jl]
  by_cases h1:k'=k1
  ·simp only[h1,decide_true,CT]
   by_cases h:k=k1<;>simp[h]
  ·simp only[h1,decide_false,CT,NL k k' v es]
   by_cases h:k=k1
   ·simp[h,Ne.symm h1]
   ·simp[h]
def W3 (es:List (B8×TV)) (ns:List B8):Prop:=∀t,CT t es=if t∈ns then some (.bool true)else none
theorem W3.add {es:List (B8×TV)} {ns:List B8} (h:W3 es ns) (t:B8):W3 (Jl t (.bool true) es) (t::ns):=by
 intro k
 rw[NL]
 by_cases hk:k=t
 ·simp[hk]
 ·rw[if_neg hk,h k];simp[hk]
theorem SS (seen:List B8) (d:Fd) (r:List Fd):GJ seen (d::r)=if U8 d.key then(if 1024<d.key.length then 10 else if d.key∈seen then 8 else GJ (d.key::seen) r)else 5:=rfl
theorem NR {α:Type} {l:List α} {k:Nat} {x:α} (h:l[k]? =some x):l.drop k=x::l.drop (k+1):=by
 obtain⟨q1,q2⟩:=List.getElem?_eq_some_iff.1 h
 rw[List.drop_eq_getElem_cons q1,q2]
theorem key_len {f:List Fd} {d:Fd} (h:d∈f):d.key.length<=E6 f:=by
 have:=Wy h
 cases d;unfold Fd.sz at this;simp only[Fd.key];omega
theorem keys_ok {st0 st:St} {uf:TV} {xf:List TV} {f:List Fd} (hke:D4 st0 st) (h4:SlR st0 14 uf f.length xf) (h5:FsR st0 f xf) (hN:E6 f<=2000000) {K:Int->St->Prop} (hk:∀st',As st st'->K (GJ [] f:Nat) st'):
  CallT PR Gj [uf] [.one (.int .i64)] st K:=by
 have hfl:=IG f
 refine Oc _ st K (Ab h4.isSl ⟨fun i m u n st'=> .map st.nb=m/\uf=u/\(f.length:Int)=n/\∃(k:Nat) (ns:List B8) (es:List (B8×TV)),i=k/\k<=f.length/\As st st'/\st.nb<st'.nb/\st'.box st.nb= .map es/\W3 es ns/\GJ [] f=GJ ns (f.drop k),fun i _ _ _ _=>(f.length-i).toNat,
  ⟨rfl,rfl,by rw[h4.lenS],0,[],[],rfl,Nat.zero_le _,(As.refl st).push _ _,by simp[St.push],by simp[St.push],fun t=>by simp[CT],rfl⟩,?_⟩)
 rintro _ _ _ _ st1 ⟨rfl,rfl,rfl,k,ns,es,rfl,hkf,e1,hb,hm,hns,hE⟩
 refine Aa (fun g=>?_) fun g=>?_
 ·refine el14 (hke.trans e1.keeps) h4 h5 rfl (by omega) fun key s' l' f' ub1 ul1 uf1 gw hw on=>Ab on ?_
  have hmem:=SK gw
  have hkl:=key_len hmem
  rw[NR gw,SS]at hE
  change GJ [] f=if U8 key then(if 1024<key.length then 10 else if key∈ns then 8 else GJ (key::ns) (f.drop (k+1)))else 5 at hE
  change key.length<=_ at hkl
  refine key_ok (by omega) ?_
  by_cases g1:U8 key
  case neg=>
   rw[if_neg g1]at hE⊢
   refine Aa (fun _=>?_) fun h=>absurd (by decide) h
   rw[<-hE];exact hk st1 e1
  rw[if_pos g1]at hE⊢
  by_cases g2:1024<key.length
  ·rw[if_pos g2]at hE⊢
   refine Aa (fun _=>?_) fun h=>absurd (by decide) h
   rw[<-hE];exact hk st1 e1
  rw[if_neg g2]at hE⊢
  refine Aa (fun h=>absurd rfl h) fun _=>Ad (x:=es) (by simp only[IE,hm]) ?_
  rw[hns key]
  by_cases g3:key∈ns
  ·rw[if_pos g3]at hE⊢
   refine Aq (Am (fun _=>?_) fun h=>by cases h)
   have:=hk st1 e1
   rw[hE]at this;exact this
  ·rw[if_neg g3]at hE⊢
   refine Aq (Am (fun h=>by cases h) fun _=>⟨es,hm,?_⟩)
   rw[Ah _ (by omega) (by omega)]
   exact⟨⟨rfl,rfl,rfl,k+1,key::ns,_,by omega,by omega,StX.ext e1 (StX.put (S:=fun i=>i=st.nb) rfl _) (fun i hi=>by rw[hi];exact Nat.le_refl _),hb,by simp[St.put],hns.add key,hE⟩,by dsimp only;omega⟩
 ·have:k=f.length:=by omega
  subst this
  rw[List.drop_length]at hE
  have:=hk st1 e1
  rw[hE]at this;exact this
theorem D4.stx {b:Nat} {a c d:St} (h:D4 a c) (k:StX (fun i=>i=b) c d) (hb:a.nb<=b):D4 a d:=
 ⟨Nat.le_trans h.1 k.nb,fun i hi=>(k.box i (Nat.lt_of_lt_of_le hi h.1) (by omega)).trans (h.2 i hi)⟩
theorem chkV_eq {d n:Nat} {s:Sc} {l:List Vl} {f:List Fd} (h1:¬48<d) (h2:¬65536<=n) (h3:Fy s l f=0):D6 d n (.mk s l f)=GC (GS (d+1) (n+1) l) fun m=>GT (d+1) m f:=by
 unfold D6;rw[if_neg h1,if_neg h2,if_neg (fun h=>h h3)]
theorem RP {d n:Nat} {s:Sc} {l:List Vl} {f:List Fd} (h1:¬48<d) (h2:¬65536<=n) (h3:Fy s l f≠0):D6 d n (.mk s l f)=(n,Fy s l f):=by
 unfold D6;rw[if_neg h1,if_neg h2,if_pos h3]
theorem Th (d n:Nat) (v:Vl) (r:List Vl):GS d n (v::r)=GC (D6 d n v) fun m=>GS d m r:=by rw[GS]
theorem Ti (d n:Nat) (k:B8) (v:Vl) (r:List Fd):GT d n (.mk k v::r)=GC (D6 d n v) fun m=>GT d m r:=by rw[GT,chkD]
theorem R4:U8 []:=by unfold U8;rw[Kc];rfl
theorem WS:∀(N:Nat) (v:Vl),v.sz<=N->N<=2000000->∀{st0 st:St} {cs:List TV} {b d n:Nat} {D:Int} {K:Int->St->Prop},VlR st0 v cs->D4 st0 st->st0.nb<=b->b<st.nb->st.box b= .cells [.int .i64 (n:Nat)]->n<=65536->D=(d:Int)->d<=100->
  (∀st' (m:Nat),StX (fun i=>i=b) st st'->st'.box b= .cells [.int .i64 (m:Nat)]->((D6 d n v).2=0->m=(D6 d n v).1/\m<=65536)->K ((D6 d n v).2:Nat) st')->CallT PR CN [.agg cs,.int .i64 D,.box b 0] [.one (.int .i64)] st K:=by
 intro N
 induction N with
 | zero=>intro v h;have:=v.sz_pos;omega
 | succ N ih=>
 intro v hN hN2 st0 st cs b d n D K h hke hb0 hb hbx hn hD hd hk
 subst hD
 cases v with
 | mk s l f=>
 have hsz:(Vl.mk s l f).sz=1+s.bytes.length+s.text.length+s.dg.length+DM l+E6 f:=by unfold Vl.sz;rfl
 have hll:=J9 l
 have hfl:=IG f
 unfold VlR at h
 obtain⟨ub,ul,uf,xl,xf,rfl,h1,h2,h3,h4,h5⟩:=h
 refine MR _ _ _ _ _ _ _ _ _ _ _ _ _ (d:Int) b st K ?_
 refine Ad (x:= .int .i64 (n:Nat)) (by simp[Ac,hbx]) (AB ?_)
 rw[Ah _ (by omega) (by omega)]
 refine⟨_,hbx,by simp,?_⟩
 obtain⟨st1,hst1⟩:∃st1,st1=st.put b (.cells (setAll [.int .i64 (n:Nat)] 0 [.int .i64 ((n:Int)+1)])):=⟨_,rfl⟩
 rw[<-hst1]
 have e1:StX (fun i=>i=b) st st1:=by rw[hst1];exact StX.put (S:=fun i=>i=b) rfl _
 have hb1:st1.box b= .cells [.int .i64 ((n+1:Nat):Int)]:=by rw[hst1];simp[St.put,setAll]
 have hke1:=hke.stx e1 hb0
 refine⟨fun dp p kd bo ng dg ex tk td tn tz tx u1 u2 u3 st'=>dp=d/\p= .box b 0/\ul=u2/\uf=u3/\¬48<d/\¬65536<=n/\Fy s l f=GJ [] f/\StX (fun i=>i=b) st st'/\st'.box b= .cells [.int .i64 ((n+1:Nat):Int)],?_,?_⟩
 ·--the value but for the values in it
  refine Aa (fun g=>?_) fun g=>?_
  ·have hc:D6 d n (.mk s l f)=(n,9):=by unfold D6;rw[if_pos (by omega)]
   have:=hk st1 (n+1) e1 hb1 (by rw[hc];intro h;cases h)
   rw[hc]at this;exact this
  refine Ad (x:= .int .i64 ((n+1:Nat):Int)) (by simp[Ac,hb1]) (AB (Aa (fun g2=>?_) fun g2=>?_))
  ·have hc:D6 d n (.mk s l f)=(n,10):=by unfold D6;rw[if_neg (by omega),if_pos (by omega)]
   have:=hk st1 (n+1) e1 hb1 (by rw[hc];intro h;cases h)
   rw[hc]at this;exact this
  have hg1:¬48<d:=by omega
  have hg2:¬65536<=n:=by omega
  --an error of the value itself
  have err:∀st',StX (fun i=>i=b) st st'->st'.box b= .cells [.int .i64 ((n+1:Nat):Int)]->Fy s l f≠0->K ((Fy s l f:Nat):Int) st':=fun st' e' hb' ho=>by
   have hc:=RP hg1 hg2 ho
   have:=hk st' (n+1) e' hb' (by rw[hc];intro h;exact absurd h ho)
   rw[hc]at this;exact this
  refine⟨fun q dp p kd bo ng dg ex tk td tn tz tx u1 u2 u3 st'=>dp=d/\p= .box b 0/\kd=s.kind/\ng=s.neg/\dg=s.dg/\ex=s.ex/\tk=s.tk/\td=s.td/\tn=s.tn/\tz=s.tz/\tx=s.text/\ub=u1/\ul=u2/\uf=u3/\q= !decide (N9 s l f)/\st1=st',?_,?_⟩
  ·refine Aa (fun g3=>?_) fun g3=>Aa (fun g4=>?_) fun g4=>?_
   ·exact⟨rfl,rfl,rfl,rfl,rfl,rfl,rfl,rfl,rfl,rfl,rfl,rfl,rfl,rfl,by rw[decide_eq_false fun o=>by have:=o.k0;omega];rfl,rfl⟩
   ·exact⟨rfl,rfl,rfl,rfl,rfl,rfl,rfl,rfl,rfl,rfl,rfl,rfl,rfl,rfl,by rw[decide_eq_false fun o=>by have:=o.k7;omega];rfl,rfl⟩
   ·exact WF (s:=s) (l:=l) (f:=f) h1.isSl h2.isSl h4.isSl h1.lenS h2.lenS h4.lenS ⟨rfl,rfl,rfl,rfl,rfl,rfl,rfl,rfl,rfl,rfl,rfl,rfl,rfl,rfl,exB_eq (by omega) (by omega),rfl⟩
  rintro q _ _ _ bo _ _ _ _ _ _ _ _ _ _ _ _ ⟨rfl,rfl,rfl,rfl,rfl,rfl,rfl,rfl,rfl,rfl,rfl,rfl,rfl,rfl,rfl,rfl⟩
  by_cases ho:N9 s l f
  case neg=>
   refine Am (fun _=>?_) fun h=>by rw[decide_eq_false ho]at h;cases h
   have h6:Fy s l f=6:=by unfold Fy;rw[if_neg ho]
   have:=err st1 e1 hb1 (by rw[h6];decide)
   rw[h6]at this;exact this
  refine Am (fun h=>by rw[decide_eq_true ho]at h;cases h) fun _=>?_
  have hdec:s.kind≠2->ET s.neg s.dg s.ex:=fun hk2=>by
   obtain⟨q1,q2,q3⟩:=ho.nu hk2
   rw[q2];exact Pl.2 ⟨q1,q3⟩
  refine⟨fun q dp p kd bo ng dg ex tk td tn tz tx u1 u2 u3 st'=>dp=d/\p= .box b 0/\kd=s.kind/\tx=s.text/\ub=u1/\ul=u2/\uf=u3/\q= !(decide (ET s.neg s.dg s.ex)&&decide (s.kind=3->EO s.tk s.td s.tn s.tz))/\st1=st',?_,?_⟩
  ·refine Aa (fun g3=>L7 (by omega) ?_) fun g3=>Aa (fun g4=>Kn ?_) fun g4=>?_
   ·by_cases hq:ET s.neg s.dg s.ex
    ·refine Am (fun h=>by rw[decide_eq_true hq]at h;cases h) fun _=>Aa (fun g4=>by omega) fun g4=>?_
     exact⟨rfl,rfl,rfl,rfl,rfl,rfl,rfl,by rw[decide_eq_true hq,decide_eq_true fun h=>absurd h g4];rfl,rfl⟩
    ·refine Am (fun h=>?_) fun h=>by rw[decide_eq_false hq]at h;cases h
     exact⟨rfl,rfl,rfl,rfl,rfl,rfl,rfl,by rw[decide_eq_false hq];rfl,rfl⟩
   ·exact⟨rfl,rfl,rfl,rfl,rfl,rfl,rfl,by rw[decide_eq_true (hdec g3),decide_eq_decide.2 (show(s.kind=3->EO s.tk s.td s.tn s.tz)↔_ from⟨fun h=>h g4,fun h _=>h⟩)];rfl,rfl⟩
   ·exact⟨rfl,rfl,rfl,rfl,rfl,rfl,rfl,by rw[decide_eq_true (hdec g3),decide_eq_true fun h=>absurd h g4];rfl,rfl⟩
  rintro q _ _ _ bo2 ng2 dg2 ex2 tk2 td2 tn2 tz2 _ _ _ _ _ ⟨rfl,rfl,rfl,rfl,rfl,rfl,rfl,rfl,rfl⟩
  by_cases hq:ET s.neg s.dg s.ex
  case neg=>
   refine Am (fun _=>?_) fun h=>by rw[decide_eq_false hq]at h;cases h
   have h6:Fy s l f=2:=by unfold Fy;rw[if_pos ho,if_neg hq]
   have:=err st1 e1 hb1 (by rw[h6];decide)
   rw[h6]at this;exact this
  by_cases hq2:s.kind=3->EO s.tk s.td s.tn s.tz
  case neg=>
   refine Am (fun _=>?_) fun h=>by rw[decide_eq_true hq,decide_eq_false hq2]at h;cases h
   have h6:Fy s l f=2:=by unfold Fy;rw[if_pos ho,if_pos hq,if_neg hq2]
   have:=err st1 e1 hb1 (by rw[h6];decide)
   rw[h6]at this;exact this
  refine Am (fun h=>by rw[decide_eq_true hq,decide_eq_true hq2]at h;cases h) fun _=>?_
  --sizes
  have sizes:U8 s.text->∀(X:Prop),(Fy s l f=GJ [] f->X)->BIf (decide (65536<(s.text.length:Int))) (K 10 st1) (need (isSl ub) (BIf (decide (65536<(lenS ub:Int))) (K 10 st1) X)):=fun hu X hX=>by
   have h6:Fy s l f=if 65536<s.text.length then 10 else if 65536<s.bytes.length then 10 else GJ [] f:=by unfold Fy;rw[if_pos ho,if_pos hq,if_pos hq2,if_pos hu]
   refine Aa (fun g5=>?_) fun g5=>Ab h1.isSl (Aa (fun g6=>?_) fun g6=>?_)
   ·rw[if_pos (by omega)]at h6
    have:=err st1 e1 hb1 (by rw[h6];decide)
    rw[h6]at this;exact this
   ·rw[h1.lenS]at g6
    rw[if_neg (by omega),if_pos (by omega)]at h6
    have:=err st1 e1 hb1 (by rw[h6];decide)
    rw[h6]at this;exact this
   ·rw[h1.lenS]at g6
    rw[if_neg (by omega),if_neg (by omega)]at h6
    exact hX h6
  refine Aa (fun g3=>Lc (by omega) (Am (fun g4=>?_) fun g4=>?_)) fun g3=>?_
  ·have hu:¬U8 s.text:=by unfold U8;simpa using g4
   have h6:Fy s l f=5:=by unfold Fy;rw[if_pos ho,if_pos hq,if_pos hq2,if_neg hu]
   have:=err st1 e1 hb1 (by rw[h6];decide)
   rw[h6]at this;exact this
  ·exact sizes (by unfold U8;simpa using g4) _ fun h6=>⟨rfl,rfl,rfl,rfl,hg1,hg2,h6,e1,hb1⟩
  ·exact sizes (by rw[ho.tx g3];exact R4) _ fun h6=>⟨rfl,rfl,rfl,rfl,hg1,hg2,h6,e1,hb1⟩
 ·rintro _ _ kd bo ng dg ex tk td tn tz tx u1 _ _ st2 ⟨rfl,rfl,rfl,rfl,hg1,hg2,h6,e2,hb2⟩
  have hke2:=hke.stx e2 hb0
  refine keys_ok hke2 h4 h5 (by omega) fun st3 e3=>?_
  have e23:=e2.trans (StX.of e3)
  have hb3:st3.box b= .cells [.int .i64 ((n+1:Nat):Int)]:=(e3.box b (by have:=e2.nb;omega)).trans hb2
  refine Aa (fun g=>?_) fun g=>Ab h2.isSl ?_
  ·have ho:Fy s l f≠0:=by rw[h6];omega
   have hc:=RP hg1 hg2 ho
   have:=hk st3 (n+1) e23 hb3 (by rw[hc];intro h;exact absurd h ho)
   rw[hc,h6]at this;exact this
  have hone:Fy s l f=0:=by rw[h6];omega
  have hC:=chkV_eq hg1 hg2 hone
  refine⟨fun i dp p u m kd bo ng dg ex tk td tn tz tx u1 u2 u3 st'=>dp=d/\p= .box b 0/\ul=u/\m=(l.length:Int)/\uf=u3/\∃k c:Nat,i=k/\k<=l.length/\c<=65536/\StX (fun i=>i=b) st st'/\st'.box b= .cells [.int .i64 ((c:Nat):Int)]/\GS (d+1) (n+1) l=GS (d+1) c (l.drop k),
   fun i _ _ _ _ _ _ _ _ _ _ _ _ _ _ _ _ _ _=>(l.length-i).toNat,⟨rfl,rfl,rfl,by rw[h2.lenS],rfl,0,n+1,rfl,Nat.zero_le _,by omega,e23,hb3,rfl⟩,?_⟩
  rintro _ _ _ _ _ kd bo ng dg ex tk td tn tz tx u1 u2 _ st4 ⟨rfl,rfl,rfl,rfl,rfl,k,c,rfl,hkl,hc,e4,hb4,hE⟩
  have hke4:=hke.stx e4 hb0
  refine Aa (fun g3=>?_) fun g3=>?_
  ·refine el13 hke4 h2 h3 rfl (by omega) fun s' l' f' ub1 ul1 uf1 gw hw on=>Ab on ?_
   have hwsz:=Ka gw
   rw[NR gw,Th]at hE
   rw[Ah _ (by omega) (by omega)]
   refine ih _ (by omega) (by omega) (d:=d+1) hw hke4 hb0 (by have:=e4.nb;omega) hb4 hc (by omega) (by omega) fun st5 m e5 hb5 hm=>?_
   have e45:=e4.trans e5
   refine Aa (fun g4=>?_) fun g4=>?_
   ·have hne:(D6 (d+1) c (.mk s' l' f')).2≠0:=by omega
    rw[Lh hne]at hE
    have hc2:D6 d n (.mk s l f)=D6 (d+1) c (.mk s' l' f'):=by rw[hC,hE,Lh hne]
    have:=hk st5 m e45 hb5 (by rw[hc2];intro h;exact absurd h hne)
    rw[hc2]at this;exact this
   ·have hz:(D6 (d+1) c (.mk s' l' f')).2=0:=by omega
    rw[M7 hz]at hE
    obtain⟨hm1,hm2⟩:=hm hz
    rw[Ah _ (by omega) (by omega)]
    exact⟨⟨rfl,rfl,rfl,rfl,rfl,k+1,m,by omega,by omega,hm2,e45,hb5,by rw[hE,hm1]⟩,by dsimp only;omega⟩
  ·have hkk:k=l.length:=by omega
   subst hkk
   rw[List.drop_length]at hE
   have hE2:GS (d+1) (n+1) l=(c,0):=by rw[hE,GS]
   rw[hE2,M7 rfl]at hC
   refine Ab h4.isSl ?_
   refine⟨fun i dp p u m st'=>dp=d/\p= .box b 0/\uf=u/\m=(f.length:Int)/\∃k c2:Nat,i=k/\k<=f.length/\c2<=65536/\StX (fun i=>i=b) st st'/\st'.box b= .cells [.int .i64 ((c2:Nat):Int)]/\GT (d+1) c f=GT (d+1) c2 (f.drop k),
    fun i _ _ _ _ _=>(f.length-i).toNat,⟨rfl,rfl,rfl,by rw[h4.lenS],0,c,rfl,Nat.zero_le _,hc,e4,hb4,rfl⟩,?_⟩
   rintro _ _ _ _ _ st5 ⟨rfl,rfl,rfl,rfl,k,c2,rfl,hkf,hc2,e5,hb5,hF⟩
   have hke5:=hke.stx e5 hb0
   refine Aa (fun g4=>?_) fun g4=>?_
   ·refine el14 hke5 h4 h5 rfl (by omega) fun key s' l' f' ub1 ul1 uf1 gw hw on=>Ab on ?_
    have hwsz:=IH gw
    have hwk:(Fd.mk key (.mk s' l' f')).sz=key.length+(Vl.mk s' l' f').sz:=by unfold Fd.sz;rfl
    rw[NR gw,Ti]at hF
    rw[Ah _ (by omega) (by omega)]
    refine ih (.mk s' l' f') (by omega) (by omega) (d:=d+1) hw hke5 hb0 (by have:=e5.nb;omega) hb5 hc2 (by omega) (by omega) fun st6 m e6 hb6 hm=>?_
    have e56:=e5.trans e6
    refine Aa (fun g5=>?_) fun g5=>?_
    ·have hne:(D6 (d+1) c2 (.mk s' l' f')).2≠0:=by omega
     rw[Lh hne]at hF
     have hc3:D6 d n (.mk s l f)=D6 (d+1) c2 (.mk s' l' f'):=by rw[hC];exact hF
     have:=hk st6 m e56 hb6 (by rw[hc3];intro h;exact absurd h hne)
     rw[hc3]at this;exact this
    ·have hz:(D6 (d+1) c2 (.mk s' l' f')).2=0:=by omega
     rw[M7 hz]at hF
     obtain⟨hm1,hm2⟩:=hm hz
     rw[Ah _ (by omega) (by omega)]
     exact⟨⟨rfl,rfl,rfl,rfl,k+1,m,by omega,by omega,hm2,e56,hb6,by rw[hF,hm1]⟩,by dsimp only;omega⟩
   ·have hkk:k=f.length:=by omega
    subst hkk
    rw[List.drop_length]at hF
    have hF2:D6 d n (.mk s l f)=(c2,0):=by rw[hC];show GT (d+1) c f=_;rw[hF,GT]
    have:=hk st5 c2 e5 hb5 (by rw[hF2];exact fun _=>⟨rfl,hc2⟩)
    rw[hF2]at this;exact this
theorem W4 {v:Vl} (hN:v.sz<=2000000) {st0 st:St} {cs:List TV} {K:Int->St->Prop} (h:VlR st0 v cs) (hke:D4 st0 st) (hk:∀st',As st st'->K (IO v:Nat) st'):
  CallT PR FC [.agg cs] [.one (.int .i64)] st K:=by
 have h0:=h
 cases v with
 | mk s l f=>
 unfold VlR at h0
 obtain⟨ub,ul,uf,xl,xf,rfl,_⟩:=h0
 have he:As st (st.push (.cells [.int .i64 0]) (some 3)):=(As.refl st).push _ _
 refine MS _ _ _ _ _ _ _ _ _ _ _ _ _ st K ⟨[.int .i64 0],by simp[St.push],by simp,?_⟩
 obtain⟨st1,hst1⟩:∃st1,st1=(st.push (.cells [.int .i64 0]) (some 3)).put st.nb (.cells (setAll [.int .i64 0] 0 [.int .i64 0])):=⟨_,rfl⟩
 rw[<-hst1]
 have e1:As st st1:=by rw[hst1];exact StX.ext he (StX.put (S:=fun i=>i=st.nb) rfl _) (fun i hi=>by rw[hi];exact Nat.le_refl _)
 have hb1:st1.box st.nb= .cells [.int .i64 ((0:Nat):Int)]:=by rw[hst1];simp[St.put,setAll]
 exact WS 2000000 _ hN (by omega) (d:=1) h (hke.trans e1.keeps) hke.1 (by rw[hst1];simp[St.put,St.push]) hb1 (by omega) rfl (by omega) fun st2 m e2 hb2 _=>hk st2 (StX.ext e1 e2 (fun i hi=>by rw[hi];exact Nat.le_refl _))
theorem VsR.snoc {st:St} {v:Vl} {cv:List TV}:∀{l:List Vl} {xs:List TV},VsR st l xs->VlR st v cv->VsR st (l++[v]) (xs++cv)
 | [],xs,h,hv=>by
  unfold VsR at h
  subst h
  show VsR st [v] _
  unfold VsR
  exact⟨cv,[],by simp,hv,by unfold VsR;rfl⟩
 | w::r,xs,h,hv=>by
  unfold VsR at h
  obtain⟨a,b,rfl,h1,h2⟩:=h
  show VsR st (w::(r++[v])) _
  unfold VsR
  exact⟨a,b++cv,by simp,h1,VsR.snoc h2 hv⟩
theorem VlR.cells {st:St} {s:Sc} {l:List Vl} {f:List Fd} {cs:List TV} (h:VlR st (.mk s l f) cs):∃ub ul uf xl xf,cs=Bf s ub ul uf/\SlR st 1 ub s.bytes.length (AF s.bytes)/\SlR st 13 ul l.length xl/\VsR st l xl/\SlR st 14 uf f.length xf/\FsR st f xf:=by
 unfold VlR at h
 obtain⟨ub,ul,uf,xl,xf,rfl,h⟩:=h
 exact⟨ub,ul,uf,xl,xf,rfl,h⟩
theorem szs (s:Sc) (l:List Vl) (f:List Fd):(Vl.mk s l f).sz=1+s.bytes.length+s.text.length+s.dg.length+DM l+E6 f:=by unfold Vl.sz;rfl
theorem szd (k:B8) (v:Vl):(Fd.mk k v).sz=k.length+v.sz:=by unfold Fd.sz;rfl
theorem T9 {st0 st:St} {uf:TV} {xf:List TV} {l:List Fd} (hke:D4 st0 st) (h2:SlR st0 14 uf l.length xf) (h3:FsR st0 l xf) {k:Nat} {d:Fd} (hd:l[k]? =some d):Ac st [] (.t (Ao (ixT 14 uf k) 0)) 0=some (.str d.key):=by
 obtain⟨hk,_⟩:=List.getElem?_eq_some_iff.1 hd
 obtain⟨cw,hw,hcw,hcl⟩:=h3.get hd
 have hx:xf[k*14+0]? =some (.str d.key):=by
  cases d with
  | mk key w=>
   unfold FdR at hw
   obtain⟨cs,rfl,_⟩:=hw
   have:=congrArg (fun z=>z[0]?) hcw
   simpa [Fd.key]using this
 exact(h2.keep hke).ldf h3.len hk (by omega) hx
theorem RR {v:Vl} (h:IO v=0):Me v:=Qm v 1 0 h
def Aw (s:B8):B8:=s.takeWhile fun c=>decide (AR c)
def Ft (n:Nat) (l:B8):Nat:=l.foldl (fun n c=>10*n+(c.toNat-48)) n
def Bn (l:B8):Nat:=Ft 0 l
def AZ (l:B8):B8:=l.dropWhile (·==48)
def dcN (neg:Bool) (s:B8) (ex:Int):Bool×B8×Int×Int:=
 if s=[]then(false,[],0,0)else if 400<ex+Br s∨ex+Br s< -400∨120<s.length-Br s then(false,[],0,2)else(neg,s.take (s.length-Br s),ex+Br s,0)
def JM:Bool×B8×Int×Int:=(false,[],0,3)
def dcX (neg:Bool) (all:B8) (ex:Int) (less:Bool) (r:B8):Bool×B8×Int×Int:=
 if r=[]∨(Aw r).length≠r.length then JM else dcN neg (AZ all) (if less then ex-Bn r else ex+Bn r)
def dcE (neg:Bool) (all:B8) (ex:Int) (r:B8):Bool×B8×Int×Int:=
 if r=[]then dcN neg (AZ all) ex else if r.getD 0 0=101∨r.getD 0 0=69 then
  (if (r.drop 1).getD 0 0=45 then dcX neg all ex true (r.drop 2)else if (r.drop 1).getD 0 0=43 then dcX neg all ex false (r.drop 2)else dcX neg all ex false (r.drop 1))
 else JM
def dcF (neg:Bool) (a:B8) (r:B8):Bool×B8×Int×Int:=
 if r.getD 0 0=46 then(if Aw (r.drop 1)=[]then JM else dcE neg (a++Aw (r.drop 1)) (-(Aw (r.drop 1)).length) (r.drop (1+(Aw (r.drop 1)).length)))
 else dcE neg a 0 r
def dcQ (neg:Bool) (s:B8):Bool×B8×Int×Int:=
 if Aw s=[]∨(1<(Aw s).length/\s.getD 0 0=48)then JM else dcF neg (Aw s) (s.drop (Aw s).length)
def dcP (s:B8):Bool×B8×Int×Int:=if s.getD 0 0=45 then dcQ true (s.drop 1)else dcQ false s
theorem Vf {a r:B8} (ha:∀c,c∈a->AR c) (hr:¬AR (r.getD 0 0)):Aw (a++r)=a:=by
 induction a with
 | nil=>
  cases r with
  | nil=>rfl
  | cons c r=>exact List.takeWhile_cons_of_neg (by simpa using hr)
 | cons c a ih=>
  unfold Aw at ih⊢
  rw[List.cons_append,List.takeWhile_cons_of_pos (by simpa using ha c List.mem_cons_self),ih fun x hx=>ha x (List.mem_cons_of_mem _ hx)]
theorem FG (s:B8):∀c,c∈Aw s->AR c:=by
 induction s with
 | nil=>intro c h;cases h
 | cons a s ih=>
  intro c h
  unfold Aw at h ih
  rw[List.takeWhile_cons]at h
  split at h
  ·rename_i hd
   rcases List.mem_cons.1 h with rfl | h
   ·exact of_decide_eq_true hd
   ·exact ih c h
  ·cases h
theorem B6 (s:B8):(Aw s).length<=s.length:=(List.takeWhile_sublist _).length_le
theorem LP (s:B8):s=Aw s++s.drop (Aw s).length:=by
 induction s with
 | nil=>rfl
 | cons a s ih=>
  unfold Aw at ih⊢
  rw[List.takeWhile_cons]
  split
  ·rw[List.length_cons,List.drop_succ_cons,List.cons_append,<-ih]
  ·rfl
theorem Dy (s:B8):s.take (Aw s).length=Aw s:=by
 have h:=LP s
 have:s.take (Aw s).length=(Aw s++s.drop (Aw s).length).take (Aw s).length:=by rw[<-h]
 rw[this,List.take_left]
theorem MN (l:B8):Br l<=l.length:=by
 unfold Br
 have:=(List.takeWhile_sublist (l:=l.reverse) (fun x:UInt8=>x==48)).length_le
 rwa [List.length_reverse]at this
theorem It {c:UInt8} {l:B8} (h:c≠48):AZ (c::l)=c::l:=by
 unfold AZ;rw[List.dropWhile_cons,if_neg (by simpa using h)]
theorem JV (k:Nat) (l:B8):AZ (List.replicate k 48++l)=AZ l:=by
 induction k with
 | zero=>rfl
 | succ k ih=>rw[List.replicate_succ,List.cons_append];unfold AZ at ih⊢;rw[List.dropWhile_cons,if_pos (by simp),ih]
theorem M0 (n:Nat) (a b:B8):Ft n (a++b)=Ft (Ft n a) b:=by
 unfold Ft;rw[List.foldl_append]
def b0 (s:B8) (k:Nat):UInt8:=s.getD k 0
def dv (s:B8) (k:Nat):Nat:=(b0 s k).toNat-48
def d2 (s:B8) (k:Nat):Nat:=dv s k*10+dv s (k+1)
def dd (s:B8) (k:Nat):Prop:=AR (b0 s k)/\AR (b0 s (k+1))
instance (s:B8) (k:Nat):Decidable (dd s k):=inferInstanceAs (Decidable (_/\_))
def II (s:B8):Prop:=dd s 0/\b0 s 2=58/\dd s 3/\b0 s 5=58/\dd s 6
instance (s:B8):Decidable (II s):=inferInstanceAs (Decidable (_/\_/\_/\_/\_))
def Do (s:B8):Prop:=dd s 0/\dd s 2/\b0 s 4=45/\dd s 5/\b0 s 7=45/\dd s 8
instance (s:B8):Decidable (Do s):=inferInstanceAs (Decidable (_/\_/\_/\_/\_/\_))
def KM (f:B8):Nat:=Bn (f++List.replicate (9-f.length) 48)
def FJ (s:B8):Option (Nat×Nat×Nat×Nat×B8):=
 if II s then
  (if b0 s 8=46 then(if Aw (s.drop 9)=[]∨9<(Aw (s.drop 9)).length then none else some (d2 s 0,d2 s 3,d2 s 6,KM (Aw (s.drop 9)),s.drop (9+(Aw (s.drop 9)).length)))
  else some (d2 s 0,d2 s 3,d2 s 6,0,s.drop 8))
 else none
def Mu (s:B8):Option (Bool×Nat×Nat):=
 if s=[90]∨s=[122]then some (false,0,0)else if s.length=6/\(b0 s 0=43∨b0 s 0=45)/\dd s 1/\b0 s 3=58/\dd s 4 then some (decide (b0 s 0=45),d2 s 1,d2 s 4)else none
def okD (y m d:Nat):Prop:=1<=y/\y<=9999/\1<=m/\m<=12/\1<=d/\d<=Jn y m
instance (y m d:Nat):Decidable (okD y m d):=inferInstanceAs (Decidable (_/\_/\_/\_/\_/\_))
def Jo (y m d:Nat):Nat:=yrS y+Ex y m+(d-1)
abbrev TmR:=Int×Int×Int×Int×Int
def HD:TmR:=(0,0,0,0,3)
def HC:TmR:=(0,0,0,0,2)
def okC (h m s:Nat):Prop:=h<=23/\m<=59/\s<=59
instance (h m s:Nat):Decidable (okC h m s):=inferInstanceAs (Decidable (_/\_/\_))
def ES (h m s f:Nat):Nat:=((h*60+m)*60+s)*1000000000+f
def tmO (y mo d h m s f:Nat) (r:B8):TmR:=
 if r=[]then(if okD y mo d/\okC h m s then(3,(Jo y mo d:Nat),(ES h m s f:Nat),0,0)else HC)
 else match Mu r with
  | none=>HD
  | some (ls,oh,om)=>if okD y mo d/\okC h m s/\oh<=23/\om<=59 then(4,(Jo y mo d:Nat),(ES h m s f:Nat),if ls then-((oh*60+om:Nat):Int)else((oh*60+om:Nat):Int),0)else HC
def tmD (y mo d:Nat) (r:B8):TmR:=
 if r=[]then(if okD y mo d then(1,(Jo y mo d:Nat),0,0,0)else HC)
 else if b0 r 0=84∨b0 r 0=116∨b0 r 0=32 then
  match FJ (r.drop 1)with
  | none=>HD
  | some (h,m,s,f,r')=>tmO y mo d h m s f r'
 else HD
def tmP (s:B8):TmR:=
 if Do s then tmD (d2 s 0*100+d2 s 2) (d2 s 5) (d2 s 8) (s.drop 10)
 else match FJ s with
  | none=>HD
  | some (h,m,sc,f,r)=>if r=[]then(if okC h m sc then(2,0,(ES h m sc f:Nat),0,0)else HC)else HD
theorem Kl:∀(l:B8) (a:Nat),Ft a l=a*10^l.length+Ft 0 l
 | [],a=>by simp[Ft]
 | c::l,a=>by
  have h1:=Kl l (10*a+(c.toNat-48))
  have h2:=Kl l (10*0+(c.toNat-48))
  show Ft (10*a+(c.toNat-48)) l=_+Ft (10*0+(c.toNat-48)) l
  rw[h1,h2,List.length_cons,Nat.pow_succ,Nat.add_mul,Nat.add_mul]
  have:10*a*10^l.length=a*(10^l.length*10):=by rw[Nat.mul_comm 10 a,Nat.mul_assoc,Nat.mul_comm 10]
  omega
theorem OI:∀(w n:Nat),n<10^w->Bn (B0 w n)=n
 | 0,n,h=>by rw[show n=0 by simpa using h];rfl
 | w+1,n,h=>by
  have:=OI w (n/10) (by rw[Nat.div_lt_iff_lt_mul (by omega)];rw[Nat.pow_succ]at h;exact h)
  unfold Bn at this⊢
  rw[B0,M0,this]
  unfold Ft
  rw[List.foldl_cons,List.foldl_nil,Uk _ (by omega)];omega
theorem WO:∀(l:B8),∃k,l=KS l++List.replicate k 48:=by
 intro l
 have:∀n (l:B8),l.length=n->∃k,l=KS l++List.replicate k 48:=by
  intro n
  induction n with
  | zero=>intro l h;rw[List.eq_nil_of_length_eq_zero h];exact⟨0,rfl⟩
  | succ n ih=>
   intro l h
   have hne:l≠ []:=fun e=>by rw[e]at h;simp at h
   have hl:=List.dropLast_concat_getLast hne
   generalize l.dropLast=a at hl
   generalize l.getLast hne=c at hl
   rw[<-hl,Pn]
   rw[<-hl,List.length_append]at h
   by_cases h0:c=48
   ·obtain⟨k,hk⟩:=ih a (by simpa using h)
    rw[if_pos h0]
    refine⟨k+1,?_⟩
    rw[List.replicate_succ',<-List.append_assoc,<-hk,h0]
   ·rw[if_neg h0];exact⟨0,by simp⟩
 exact this _ l rfl
theorem U9 {n:Nat} (h:n<1000000000):KM (KS (B0 9 n))=n:=by
 obtain⟨k,hk⟩:=WO (B0 9 n)
 have hl:=congrArg List.length hk
 rw[Bt,List.length_append,List.length_replicate]at hl
 unfold KM
 rw[show 9-(KS (B0 9 n)).length=k by omega,<-hk]
 exact OI 9 n h
theorem cut0_ne {n:Nat} (h:n<1000000000) (h0:n≠0):KS (B0 9 n)≠ []:=by
 intro e
 have:=U9 h
 rw[e]at this
 exact h0 (this.symm.trans (by decide))
theorem Hm (y m:Nat):Jn y m<=31:=by
 have ite:∀{p:Prop} [Decidable p] {a b:Nat},a<=31->b<=31->(if p then a else b)<=31:=fun h1 h2=>by split<;>assumption
 unfold Jn
 exact ite (ite (by omega) (by omega)) (ite (by omega) (by omega))
theorem datT_eq {n y m d:Nat} (h:HA n y m d):NX n=B0 4 y++45::(B0 2 m++45::B0 2 d):=by unfold NX;rw[Vi h]
theorem IY:∀(l:B8),(∀c,c∈l->AR c)->Bn l<10^l.length
 | [],_=>by decide
 | c::l,h=>by
  have ih:=IY l fun x hx=>h x (.tail _ hx)
  have hc:=(h c (.head _)).2
  unfold Bn at ih⊢
  rw[show Ft 0 (c::l)=Ft (c.toNat-48) l by simp[Ft],Kl,List.length_cons,Nat.pow_succ]
  have:(c.toNat-48)*10^l.length<=9*10^l.length:=Nat.mul_le_mul_right _ (by omega)
  omega
theorem valN_ge {c:UInt8} {l:B8} (hc:AR c) (h0:c≠48):10^l.length<=Bn (c::l):=by
 unfold Bn
 rw[show Ft 0 (c::l)=Ft (c.toNat-48) l by simp[Ft],Kl]
 have h1:=hc.1
 have h2:c.toNat≠48:=fun e=>h0 (UInt8.toNat_inj.1 (by simpa using e))
 have:1*10^l.length<=(c.toNat-48)*10^l.length:=Nat.mul_le_mul_right _ (by omega)
 omega
theorem Fq:∀l:B8,Bn (AZ l)=Bn l
 | []=>rfl
 | c::l=>by
  by_cases h:c=48
  ·subst h
   have:=JV 1 l
   rw[show List.replicate 1 (48:UInt8)++l=48::l from rfl]at this
   rw[this,Fq l]
   unfold Bn
   rw[show Ft 0 (48::l)=Ft 0 l by simp[Ft]]
  ·rw[It h]
theorem Hg (l:B8):∀c,c∈AZ l->c∈l:=fun c h=>(List.dropWhile_sublist (l:=l) (fun x:UInt8=>x==48)).subset h
theorem Ee (l:B8):(AZ l).length<=l.length:=(List.dropWhile_sublist (l:=l) (fun x:UInt8=>x==48)).length_le
theorem Ir (l:B8):(AZ l).getD 0 0≠48:=by
 induction l with
 | nil=>decide
 | cons c l ih=>
  by_cases h:c=48
  ·subst h
   have:=JV 1 l
   rw[show List.replicate 1 (48:UInt8)++l=48::l from rfl]at this
   rw[this];exact ih
  ·rw[It h];exact h
theorem QM {l:B8} {k:Nat} (h:∀c,c∈l->AR c) (hk:k<(AZ l).length):10^k<=Bn l:=by
 rw[<-Fq l]
 have h0:=Ir l
 have hs:=Hg l
 generalize AZ l=m at*
 cases m with
 | nil=>exact absurd hk (Nat.not_lt_zero _)
 | cons c m=>
  have:=valN_ge (l:=m) (h c (hs c (.head _))) h0
  rw[List.length_cons]at hk
  exact Nat.le_trans (Nat.pow_le_pow_right (by decide) (by omega)) this
theorem OJ {l:B8} {k:Nat} (h:∀c,c∈l->AR c) (hk:(AZ l).length<=k):Bn l<10^k:=by
 rw[<-Fq l]
 exact Nat.lt_of_lt_of_le (IY _ fun c hc=>h c (Hg l c hc)) (Nat.pow_le_pow_right (by decide) hk)
theorem Ur {neg:Bool} {s:B8} {ex n m:Int} (hl:s.length<=100000000) (h1: -100000000<=ex) (h2:ex<=100000000) (hn:1000000000<=n) (hm:1000000000<=m) (less:Bool):
  dcN neg s (if less then ex-n else ex+n)=dcN neg s (if less then ex-m else ex+m):=by
 unfold dcN
 have hz:=MN s
 by_cases h:s=[]
 ·rw[if_pos h,if_pos h]
 ·rw[if_neg h,if_neg h]
  cases less with
  | true=>
   simp only[if_true]
   rw[if_pos (by omega),if_pos (by omega)]
  | false=>
   simp only[Bool.false_eq_true,if_false]
   rw[if_pos (by omega),if_pos (by omega)]
theorem Uq (neg:Bool) (s:B8) (ex:Int):(dcN neg s ex).2.1.length<=s.length:=by
 unfold dcN
 split
 ·simp
 split
 ·simp
 ·show(s.take _).length<=_
  rw[List.length_take];omega
theorem Qg (neg:Bool) (all:B8) (ex:Int) (less:Bool) (r:B8):(dcX neg all ex less r).2.1.length<=all.length:=by
 unfold dcX
 split
 ·simp[JM]
 ·exact Nat.le_trans (Uq _ _ _) (Ee all)
theorem Ut (neg:Bool) (all:B8) (ex:Int) (r:B8):(dcE neg all ex r).2.1.length<=all.length:=by
 unfold dcE
 split
 ·exact Nat.le_trans (Uq _ _ _) (Ee all)
 split
 ·split
  ·exact Qg _ _ _ _ _
  split
  ·exact Qg _ _ _ _ _
  ·exact Qg _ _ _ _ _
 ·simp[JM]
theorem dcF_len (neg:Bool) (a r:B8):(dcF neg a r).2.1.length<=a.length+r.length:=by
 unfold dcF
 split
 ·split
  ·simp[JM]
  ·refine Nat.le_trans (Ut _ _ _ _) ?_
   rw[List.length_append]
   have:=B6 (r.drop 1)
   rw[List.length_drop]at this
   omega
 ·exact Nat.le_trans (Ut _ _ _ _) (Nat.le_add_right _ _)
theorem Uo (neg:Bool) (s:B8):(dcQ neg s).2.1.length<=s.length:=by
 unfold dcQ
 split
 ·simp[JM]
 ·refine Nat.le_trans (dcF_len _ _ _) ?_
  have:=B6 s
  rw[List.length_drop];omega
theorem dcP_len (s:B8):(dcP s).2.1.length<=s.length:=by
 unfold dcP
 split
 ·refine Nat.le_trans (Uo _ _) ?_
  rw[List.length_drop];omega
 ·exact Uo _ _
theorem LU {l:B8} {c:UInt8} (hc:c.toNat<128) {st:St} {K:B8->St->Prop} (hk:K (l.dropWhile (·==c)) st):CallT PR De [.str l,.str [c]] [.one .str] st K:=by
 refine CZ (fun _ _=>by kernel_rfl) fun g w vargs s hr=>?_
 obtain⟨v,u,rfl,hv,hu⟩:=Nm hr
 rw[Bk hv,Bk hu]
 refine Calls.mono (Tryz.strings_TrimLeft_one ⟨l.toArray⟩ c hc w) ?_
 rintro e w' ⟨rfl,rfl⟩
 exact⟨_,rfl,.str _,st,g,hk,s,Rel.str _,Ext.refl _ _⟩
theorem P9 {s p:B8} {st:St} {K:Bool->St->Prop} (hk:K (decide (s.take p.length=p)) st):CallT PR AX [.str s,.str p] [.one (.bool)] st K:=by
 refine Id s p st K (Gc s p st _ (Aa (fun h=>⟨⟨by omega,h⟩,?_⟩) fun h=>?_))
 ·exact hk
 ·have:¬s.take p.length=p:=fun h0=>by
   have:=congrArg List.length h0
   rw[List.length_take]at this
   omega
  rw[decide_eq_false this]at hk
  exact hk
theorem u8i {c k:UInt8}:((c.toNat:Int)=(k.toNat:Int))↔c=k:=⟨fun h=>UInt8.toNat_inj.1 (by omega),fun h=>by rw[h]⟩
theorem take1 {s:B8} {c:UInt8} (hc:c≠0):s.take [c].length=[c]↔s.getD 0 0=c:=by
 cases s with
 | nil=>exact⟨fun h=>absurd h (by simp),fun h=>absurd (show(0:UInt8)=c from h).symm hc⟩
 | cons a s=>show [a]=[c]↔a=c;simp
theorem Ja {s:B8} {c:UInt8} (hc:c≠0) {st:St} {K:Bool->St->Prop} (hk:K (decide (s.getD 0 0=c)) st):CallT PR AX [.str s,.str [c]] [.one (.bool)] st K:=
 P9 (by rw[decide_eq_decide.2 (take1 hc)];exact hk)
theorem GO:∀(s:B8) (k:Nat),k<=s.length->(∀j,j<k->AR (s.getD j 0))->(k=s.length∨¬AR (s.getD k 0))->(Aw s).length=k
 | [],k,h,_,_=>by
  have:k=0:=by simpa using h
  subst this;rfl
 | a::s,0,_,_,h=>by
  have h2:¬AR a:=by
   rcases h with h | h
   ·simp at h
   ·exact h
  unfold Aw
  rw[List.takeWhile_cons_of_neg (by simpa using h2)];rfl
 | a::s,k+1,h1,h2,h3=>by
  have ha:AR a:=h2 0 (by omega)
  have ih:=GO s k (by simpa using h1) (fun j hj=>h2 (j+1) (by omega)) (by
   rcases h3 with h3 | h3
   ·exact .inl (by simpa using h3)
   ·exact .inr h3)
  unfold Aw at ih⊢
  rw[List.takeWhile_cons_of_pos (by simpa using ha),List.length_cons,ih]
theorem Si {s:B8} (hl:s.length<=1000000000) {st:St} {K:Int->St->Prop} (hk:K ((Aw s).length:Nat) st):CallT PR CR [.str s] [.one (.int .i64)] st K:=by
 refine MZ s st K ⟨fun n s' st'=>s=s'/\st=st'/\∃k:Nat,n=k/\k<=s.length/\∀j,j<k->AR (s.getD j 0),fun n _ _=>(s.length-n).toNat,⟨rfl,rfl,0,rfl,Nat.zero_le _,fun j h=>absurd h (Nat.not_lt_zero _)⟩,?_⟩
 rintro _ _ _ ⟨rfl,rfl,k,rfl,hk1,hd⟩
 rw[Int.toNat_natCast]
 have fin:(k=s.length∨¬AR (s.getD k 0))->K ((k:Nat):Int) st:=fun h=>by rw[GO s k hk1 hd h]at hk;exact hk
 refine Aa (fun g=>⟨⟨by omega,g⟩,Aa (fun g1=>⟨⟨by omega,g⟩,Aa (fun g2=>?_) fun g2=>fin (.inr fun h=>g2 (by have:=h.2;omega))⟩) fun g1=>fin (.inr fun h=>g1 (by have:=h.1;omega))⟩) fun g=>fin (.inl (by omega))
 rw[Ah _ (by omega) (by omega)]
 refine⟨⟨rfl,rfl,k+1,by omega,by omega,fun j hj=>?_⟩,by dsimp only;omega⟩
 by_cases hjk:j=k
 ·subst hjk;exact⟨by omega,by omega⟩
 ·exact hd j (by omega)
theorem GB {l:B8} {k:Nat} (h:k<l.length):Bn (l.take (k+1))=10*Bn (l.take k)+((List.getD l k 0).toNat-48):=by
 rw[List.take_succ_eq_append_getElem h]
 unfold Bn
 rw[M0]
 have:l[k]=List.getD l k 0:=by simp[List.getD,h]
 rw[<-this];rfl
theorem Hc {l:B8} (hd:∀c,c∈l->AR c) (h:l.length<=18) (k:Nat) (hk:k<l.length):Bn (l.take k)<100000000000000000:=by
 have h1:=IY (l.take k) fun c hc=>hd c (List.mem_of_mem_take hc)
 rw[List.length_take,Nat.min_eq_left (by omega)]at h1
 have:(10:Nat)^k<=10^17:=Nat.pow_le_pow_right (by decide) (by omega)
 omega
theorem VA {l:B8} (hl:l.length<=18) (hd:∀c,c∈l->AR c) (h0:l.getD 0 0≠48) {st:St} {K:Int->Int->St->Prop} (hk:K (Bn l:Nat) 0 st):CallT PR EI [.str l] [.one (.int .i64),.one (.int .i64)] st K:=by
 refine Mk l st K (Pm (by omega) ?_)
 have hno:decide (IU l)=true:=decide_eq_true ⟨by omega,hd,fun _=>h0⟩
 rw[hno]
 refine Am (fun h=>by cases h) fun _=>?_
 refine⟨fun n i l' m st'=>l=l'/\st=st'/\(l.length:Int)=m/\∃k:Nat,i=k/\k<=l.length/\n=(Bn (l.take k):Nat),fun _ i _ _ _=>(l.length-i).toNat,⟨rfl,rfl,rfl,0,rfl,Nat.zero_le _,rfl⟩,?_⟩
 rintro _ _ _ _ _ ⟨rfl,rfl,rfl,k,rfl,hkl,rfl⟩
 rw[Int.toNat_natCast]
 refine Aa (fun g=>⟨⟨by omega,g⟩,?_⟩) fun g=>?_
 ·have hk':k<l.length:=by omega
  have hv:=Hc hd hl k hk'
  have hs:=GB hk'
  have hc:=hd _ (FA hk')
  obtain⟨c1,c2⟩:=hc
  rw[K1 _ (by omega) (by omega),Ah (((List.getD l k 0).toNat:Int)-48) (by omega) (by omega),Ah (9223372036854775807-_) (by omega) (by omega),Int.tdiv_eq_ediv_of_nonneg (by omega),Ah _ (by omega) (by omega)]
  refine Aa (fun g2=>by omega) fun g2=>?_
  rw[Ah (((Bn (l.take k):Nat):Int)*10) (by omega) (by omega),Ah _ (by omega) (by omega),Ah _ (by omega) (by omega)]
  exact⟨⟨rfl,rfl,rfl,k+1,by omega,by omega,by rw[hs];omega⟩,by dsimp only;omega⟩
 ·have:k=l.length:=by omega
  subst this
  rw[List.take_length];exact hk
theorem Wb {ex:Int} {less:Bool} {l:B8} (h1: -100000000<=ex) (h2:ex<=100000000) (hd:∀c,c∈l->AR c) (h0:l.getD 0 0≠48) {st:St} {K:Int->St->Prop}
  (hk:K (if less then ex-((if l.length<=12 then Bn l else 1099511627776:Nat):Int)else ex+((if l.length<=12 then Bn l else 1099511627776:Nat):Int)) st):CallT PR El [.int .i64 ex,.bool less,.str l] [.one (.int .i64)] st K:=by
 refine K7 ex less l st K (Aa (fun g=>?_) fun g=>?_)
 ·have g':l.length<=12:=by omega
  rw[if_pos g']at hk
  have hv:=IY l hd
  have:(10:Nat)^l.length<=10^12:=Nat.pow_le_pow_right (by decide) g'
  refine VA (by omega) hd h0 (Am (fun e=>?_) fun e=>?_)
  ·rw[Ah _ (by omega) (by omega)];rw[if_pos e]at hk;exact hk
  ·rw[Ah _ (by omega) (by omega)];rw[e]at hk;exact hk
 ·rw[if_neg (show ¬l.length<=12 by omega)]at hk
  refine Am (fun e=>?_) fun e=>?_
  ·rw[Ah _ (by omega) (by omega)];rw[if_pos e]at hk;exact hk
  ·rw[Ah _ (by omega) (by omega)];rw[e]at hk;exact hk
abbrev KD (K:Bool->B8->Int->Int->St->Prop) (r:Bool×B8×Int×Int) (st:St):Prop:=K r.1 r.2.1 r.2.2.1 r.2.2.2 st
theorem norm_ok {neg:Bool} {s:B8} {ex:Int} (hl:s.length<=2000000) (h1: -3000000000000<=ex) (h2:ex<=3000000000000) {st:St} {K:Bool->B8->Int->Int->St->Prop} (hk:KD K (dcN neg s ex) st):
  CallT PR EL [.bool neg,.str s,.int .i64 ex] [.agg [.bool,.str,.int .i64],.one (.int .i64)] st K:=by
 unfold KD dcN at hk
 refine Mn neg s ex st K (Aa (fun g=>by rw[if_pos g]at hk;exact hk) fun g=>Km (by decide) (by omega) ?_)
 rw[if_neg g]at hk
 have ht:=Iq s
 have e1:i64.wrap ((s.length:Int)-((Lib.trimRightB s 48).length:Int))=(Br s:Nat):=by rw[Ah _ (by omega) (by omega)];omega
 rw[e1]
 have e2:i64.wrap ((s.length:Int)-(Br s:Nat))=((s.length-Br s:Nat):Int):=by rw[Ah _ (by omega) (by omega)];omega
 rw[e2,Int.toNat_natCast,Ah (400-_) (by omega) (by omega),Ah (-400-_) (by omega) (by omega),Ah (ex+_) (by omega) (by omega)]
 have hlen:(s.take (s.length-Br s)).length=s.length-Br s:=by rw[List.length_take];omega
 rw[hlen]
 refine⟨⟨by omega,by omega⟩,Aa (fun g1=>?_) fun g1=>Aa (fun g2=>?_) fun g2=>Aa (fun g3=>?_) fun g3=>?_⟩
 ·rw[if_pos (by omega)]at hk;exact hk
 ·rw[if_pos (by omega)]at hk;exact hk
 ·rw[if_pos (by omega)]at hk;exact hk
 ·rw[if_neg (by omega)]at hk;exact hk
theorem P5 {neg:Bool} {s:B8} {ex:Int} (hl:s.length<=2000000) (hd:∀c,c∈s->AR c) (h1: -3000000000000<=ex) (h2:ex<=3000000000000) {st:St} {K:Bool->B8->Int->Int->St->Prop} (hk:KD K (dcN neg (AZ s) ex) st):
  CallT PR Co [.bool neg,.str s,.int .i64 ex] [.agg [.bool,.str,.int .i64],.one (.int .i64)] st K:=by
 refine Mo neg s ex st K ⟨fun i neg' s' ex' n _ _ _ st'=>neg=neg'/\s=s'/\ex=ex'/\(s.length:Int)=n/\st=st'/\0<=i,fun i _ _ _ _ _ _ _ _=>(s.length-i).toNat,⟨rfl,rfl,rfl,rfl,rfl,by omega⟩,?_⟩
 rintro i _ _ _ _ _ _ _ _ ⟨rfl,rfl,rfl,rfl,rfl,hi⟩
 refine Aa (fun g=>?_) fun g=>?_
 ·have hc:=hd _ (FA (show i.toNat<s.length by omega))
  obtain⟨c1,c2⟩:=hc
  refine⟨⟨hi,g⟩,Aa (fun g1=>by omega) fun _=>⟨⟨hi,g⟩,Aa (fun g1=>by omega) fun _=>?_⟩⟩
  rw[Ah _ (by omega) (by omega)]
  exact⟨⟨rfl,rfl,rfl,rfl,rfl,by omega⟩,by dsimp only;omega⟩
 ·refine LU (by decide) (norm_ok (Nat.le_trans (Ee s) hl) h1 h2 hk)
theorem dP_ok {s:B8} (hl:s.length<=1000000) {st:St} {K:Bool->B8->Int->Int->St->Prop} (hk:KD K (dcP s) st):CallT PR B4 [.str s] [.agg [.bool,.str,.int .i64],.one (.int .i64)] st K:=by
 refine K9 s st K (Ja (by decide) ?_)
 refine⟨fun s1 neg _ _ _ st'=>st=st'/\dcP s=dcQ neg s1/\s1.length<=s.length,Aa (fun g=>?_) fun g=>?_,?_⟩
 ·refine⟨⟨by omega,?_⟩,rfl,?_,?_⟩
  ·cases s with
   | nil=>exact absurd g (by decide)
   | cons a s=>rw[List.length_cons];omega
  ·unfold dcP;rw[if_pos g,decide_eq_true g];rfl
  ·rw[List.length_drop];omega
 ·refine⟨rfl,?_,Nat.le_refl _⟩
  unfold dcP;rw[if_neg g,decide_eq_false g]
 rintro s1 neg _ _ _ _ ⟨rfl,h1,hl1⟩
 rw[h1]at hk
 refine Si (by omega) ?_
 have hrl:=B6 s1
 refine⟨fun s2 neg2 n _ _ _ st'=>s1=s2/\neg=neg2/\n=((Aw s1).length:Nat)/\st=st'/\dcQ neg s1=dcF neg (Aw s1) (s1.drop (Aw s1).length),Aa (fun g=>?_) fun g=>Aa (fun g2=>?_) fun g2=>?_,?_⟩
 ·have:Aw s1=[]:=List.length_eq_zero_iff.1 (by omega)
  unfold KD dcQ at hk
  rw[if_pos (.inl this)]at hk;exact hk
 ·refine⟨⟨by omega,by omega⟩,Aa (fun g3=>?_) fun g3=>⟨rfl,rfl,rfl,rfl,?_⟩⟩
  ·have:s1.getD 0 0=48:=u8i.1 g3
   unfold KD dcQ at hk
   rw[if_pos (.inr ⟨by omega,this⟩)]at hk;exact hk
  ·unfold dcQ
   rw[if_neg]
   rintro(h | ⟨_,h⟩)
   ·exact g (by rw[h];rfl)
   ·exact g3 (by show((s1.getD 0 0).toNat:Int)=48;rw[h];rfl)
 ·refine⟨rfl,rfl,rfl,rfl,?_⟩
  unfold dcQ
  rw[if_neg]
  rintro(h | ⟨h,_⟩)
  ·exact g (by rw[h];rfl)
  ·omega
 rintro _ _ _ _ _ _ _ ⟨rfl,rfl,rfl,rfl,h2⟩
 rw[h2]at hk
 rw[Int.toNat_natCast,Dy]
 refine⟨⟨by omega,by omega⟩,⟨by omega,by omega⟩,?_⟩
 have hdg:=FG s1
 generalize hr:s1.drop (Aw s1).length=r at*
 generalize ha:Aw s1=a at*
 have hrl2:a.length+r.length<=1000000:=by
  have:r.length=s1.length-a.length:=by rw[<-hr,List.length_drop]
  omega
 clear hr ha h1 h2
 refine⟨fun s3 all ex neg3 _ _ _ st'=>neg=neg3/\st=st'/\dcF neg a r=dcE neg all ex s3/\ -1000000<=ex/\ex<=0/\all.length<=1000000/\s3.length<=1000000/\∀c,c∈all->AR c,Ja (by decide) (Aa (fun g=>?_) fun g=>?_),?_⟩
 ·have hr1:1<=r.length:=by
   cases r with
   | nil=>exact absurd g (by decide)
   | cons c r=>rw[List.length_cons];omega
  refine⟨⟨by omega,by omega⟩,Si (by show(r.drop 1).length<=_;rw[List.length_drop];omega) ?_⟩
  rw[show Int.toNat (1:Int)=1 from rfl]
  have hd1:=B6 (r.drop 1)
  have hd2:=FG (r.drop 1)
  have hd3:=Dy (r.drop 1)
  rw[List.length_drop]at hd1
  generalize hf:Aw (r.drop 1)=f at*
  refine Aa (fun g2=>?_) fun g2=>?_
  ·have:f=[]:=List.length_eq_zero_iff.1 (by omega)
   unfold KD dcF at hk
   rw[if_pos g,hf,if_pos this]at hk;exact hk
  ·rw[Ah (((f.length:Nat):Int)+1) (by omega) (by omega),Ah (0-_) (by omega) (by omega),show((((f.length:Nat):Int)+1).toNat)=1+f.length by omega]
   have hdt:(r.take (1+f.length)).drop 1=f:=by rw[List.drop_take,Nat.add_sub_cancel_left];exact hd3
   refine⟨⟨by omega,by omega,by omega⟩,?_⟩
   show(a.length+((r.take (1+f.length)).drop 1).length<=_)/\_
   rw[hdt]
   refine⟨by omega,⟨by omega,by omega⟩,rfl,rfl,?_,by omega,by omega,by rw[List.length_append];omega,by rw[List.length_drop];omega,fun c hc=>?_⟩
   ·unfold dcF
    rw[if_pos g,hf,if_neg (fun e=>g2 (by rw[e];rfl))]
    rw[show(0:Int)-(f.length:Nat)= -(f.length:Nat) by omega]
   ·rcases List.mem_append.1 hc with hc | hc
    ·exact hdg c hc
    ·exact hd2 c hc
 ·refine⟨rfl,rfl,?_,by omega,by omega,by omega,by omega,hdg⟩
  unfold dcF;rw[if_neg g]
 rintro s3 all ex _ _ _ _ _ ⟨rfl,rfl,h3,x1,x2,x3,x4,x5⟩
 rw[h3]at hk
 clear h3 hdg hrl2
 refine Aa (fun g=>?_) fun g=>?_
 ·have hpos:1<=s3.length:=List.length_pos_iff.2 g
  refine⟨fun s4 neg4 all4 ex4 _ _ _ st'=>s3=s4/\neg=neg4/\all=all4/\ex=ex4/\st=st'/\(s3.getD 0 0=101∨s3.getD 0 0=69),?_,?_⟩
  ·have n101:((s3.getD 0 0).toNat:Int)≠101↔s3.getD 0 0≠101:=not_congr (u8i (k:=101))
   have n69:((s3.getD 0 0).toNat:Int)≠69↔s3.getD 0 0≠69:=not_congr (u8i (k:=69))
   refine⟨⟨by omega,by omega⟩,Aa (fun g1=>⟨⟨by omega,by omega⟩,Aa (fun g2=>?_) fun g2=>⟨rfl,rfl,rfl,rfl,rfl,.inr (Decidable.not_not.1 fun h=>g2 (n69.2 h))⟩⟩) fun g1=>⟨rfl,rfl,rfl,rfl,rfl,.inl (Decidable.not_not.1 fun h=>g1 (n101.2 h))⟩⟩
   unfold KD dcE at hk
   rw[if_neg g,if_neg (by rintro(h | h);exact n101.1 g1 h;exact n69.1 g2 h)]at hk
   exact hk
  rintro _ _ _ _ _ _ _ _ ⟨rfl,rfl,rfl,rfl,rfl,he⟩
  unfold KD dcE at hk
  rw[if_neg g,if_pos he]at hk
  refine⟨⟨by omega,by omega⟩,Ja (by decide) ?_⟩
  show ∃_,_
  refine⟨fun s5 neg5 all5 ex5 less _ _ _ st'=>neg=neg5/\all=all5/\ex=ex5/\st=st'/\s5.length<=1000000/\KD K (dcX neg all ex less s5) st,Aa (fun g1=>?_) fun g1=>Ja (by decide) (Aa (fun g2=>?_) fun g2=>?_),?_⟩
  ·have g1':(s3.drop 1).getD 0 0=45:=g1
   rw[if_pos g1']at hk
   refine⟨⟨by omega,?_⟩,rfl,rfl,rfl,rfl,?_,?_⟩
   ·have:1<=(s3.drop 1).length:=by
     cases hc:s3.drop 1 with
     | nil=>rw[hc]at g1';exact absurd g1' (by decide)
     | cons c r=>rw[List.length_cons];omega
    exact Int.ofNat_le.2 this
   ·show((s3.drop 1).drop 1).length<=_;rw[List.length_drop,List.length_drop];omega
   ·rw[decide_eq_true g1]
    show KD K (dcX neg all ex true ((s3.drop 1).drop 1)) st
    rw[List.drop_drop];exact hk
  ·have g1':¬(s3.drop 1).getD 0 0=45:=g1
   have g2':(s3.drop 1).getD 0 0=43:=g2
   rw[if_neg g1',if_pos g2']at hk
   refine⟨⟨by omega,?_⟩,rfl,rfl,rfl,rfl,?_,?_⟩
   ·have:1<=(s3.drop 1).length:=by
     cases hc:s3.drop 1 with
     | nil=>rw[hc]at g2';exact absurd g2' (by decide)
     | cons c r=>rw[List.length_cons];omega
    exact Int.ofNat_le.2 this
   ·show((s3.drop 1).drop 1).length<=_;rw[List.length_drop,List.length_drop];omega
   ·rw[decide_eq_false g1]
    show KD K (dcX neg all ex false ((s3.drop 1).drop 1)) st
    rw[List.drop_drop];exact hk
  ·have g1':¬(s3.drop 1).getD 0 0=45:=g1
   have g2':¬(s3.drop 1).getD 0 0=43:=g2
   rw[if_neg g1',if_neg g2']at hk
   refine⟨rfl,rfl,rfl,rfl,?_,?_⟩
   ·show(s3.drop 1).length<=_;rw[List.length_drop];omega
   ·rw[decide_eq_false g1];exact hk
  rintro s5 _ _ _ less _ _ _ _ ⟨rfl,rfl,rfl,rfl,hl5,hk5⟩
  unfold KD dcX at hk5
  refine Aa (fun g1=>by rw[if_pos (.inl g1)]at hk5;exact hk5) fun g1=>Si (by omega) (Aa (fun g2=>?_) fun g2=>?_)
  ·rw[if_pos (.inr (by omega))]at hk5;exact hk5
  ·have hall:Aw s5=s5:=by
    have:=LP s5
    have h0:s5.drop (Aw s5).length=[]:=List.drop_of_length_le (by omega)
    rw[h0,List.append_nil]at this
    exact this.symm
   have hd5:∀c,c∈s5->AR c:=by rw[<-hall];exact FG s5
   rw[if_neg (by rintro(h | h);exact g1 h;exact h (by rw[hall]))]at hk5
   refine LU (by decide) (Wb (by omega) (by omega) (fun c hc=>hd5 c (Hg s5 c hc)) (Ir s5) ?_)
   show CallT PR Co [.bool neg,.str all,.int .i64 (if less=true then ex-((if (AZ s5).length<=12 then Bn (AZ s5)else 1099511627776:Nat):Int)else ex+((if (AZ s5).length<=12 then Bn (AZ s5)else 1099511627776:Nat):Int))] _ _ _
   rw[Fq]
   have sm:=Ee all
   by_cases h12:(AZ s5).length<=12
   ·have hn:=OJ hd5 h12
    rw[if_pos h12]
    refine P5 (by omega) x5 ?_ ?_ hk5
    ·split<;>omega
    ·split<;>omega
   ·have hf:=QM (k:=12) hd5 (by omega)
    rw[if_neg h12]
    refine P5 (by omega) x5 ?_ ?_ ?_
    ·split<;>omega
    ·split<;>omega
    ·have:=Ur (neg:=neg) (s:=AZ all) (ex:=ex) (n:=((1099511627776:Nat):Int)) (m:=(Bn s5:Nat)) (by omega) (by omega) (by omega) (by omega) (by omega) less
     unfold KD
     rw[this];exact hk5
 ·have g0:s3=[]:=Decidable.not_not.1 g
  unfold KD dcE at hk
  rw[if_pos g0]at hk
  exact P5 (by omega) x5 (by omega) (by omega) hk
theorem Kq {α:Type} {l m:List α} {k:Nat} {x y:α} (h:l.take k=m.take k) (hx:l[k]? =some x) (hy:m[k]? =some y) (e:x=y):l.take (k+1)=m.take (k+1):=by
 rw[ON hx,ON hy,h,e]
theorem sc_eq {s t:Sc} (h1:s.kind=t.kind) (h2:s.b=t.b) (h3:s.neg=t.neg) (h4:s.dg=t.dg) (h5:s.ex=t.ex) (h6:s.tk=t.tk) (h7:s.td=t.td) (h8:s.tn=t.tn) (h9:s.tz=t.tz) (h10:s.text=t.text) (h11:s.bytes=t.bytes):s=t:=by
 cases s;cases t;simp_all
theorem Uz:∀(N:Nat) (v w:Vl),v.sz<=N->w.sz<=2000000->N<=2000000->∀{st0 st:St} {cs ds:List TV} {K:Bool->St->Prop},VlR st0 v cs->VlR st0 w ds->D4 st0 st->(∀r,(r=true↔v=w)->K r st)->
  CallT PR Bm [.agg cs,.agg ds] [.one .bool] st K:=by
 intro N
 induction N with
 | zero=>intro v w h;have:=v.sz_pos;omega
 | succ N ih=>
 intro v w hN hW hN2 st0 st cs ds K h h' hke hk
 cases v with
 | mk s l f=>
 cases w with
 | mk t m g=>
 have hsz:=szs s l f
 have hll:=J9 l
 have hfl:=IG f
 have hsz':=szs t m g
 have hll':=J9 m
 have hfl':=IG g
 obtain⟨ub,ul,uf,xl,xf,rfl,h1,h2,h3,h4,h5⟩:=h.cells
 obtain⟨wb,wl,wf,yl,yf,rfl,k1,k2,k3,k4,k5⟩:=h'.cells
 have no:(Vl.mk s l f≠Vl.mk t m g)->K false st:=fun hne=>hk false ⟨fun h=>(by cases h),fun h=>absurd h hne⟩
 have inj:Vl.mk s l f=Vl.mk t m g↔s=t/\l=m/\f=g:=by simp
 refine In _ _ _ _ _ _ _ _ _ _ _ _ _ _ _ _ _ _ _ _ _ _ _ _ _ _ st K ?_
 refine Aa (fun e=>no fun h=>e (by rw[(inj.1 h).1])) fun e1=>Am (fun e=>no fun h=>?_) fun e2=>Am (fun e=>no fun h=>?_) fun e3=>Am (fun e=>no fun h=>?_) fun e4=>Aa (fun e=>no fun h=>e (by rw[(inj.1 h).1])) fun e5=>?_
 ·rw[(inj.1 h).1]at e;simp at e
 ·rw[(inj.1 h).1]at e;simp at e
 ·rw[(inj.1 h).1]at e;simp at e
 refine Ad (x:= .str s.bytes) (by rw[(h1.keep hke).toBytes];rfl) (Al (Ad (x:=TV.str t.bytes) (by rw[(k1.keep hke).toBytes];rfl) (Al ?_)))
 refine Aa (fun e=>no fun h=>e (by rw[(inj.1 h).1])) fun e6=>?_
 have hst:s=t:=by
  simp only[Bool.not_eq_false',Bool.and_eq_true,beq_iff_eq,decide_eq_true_eq,and_true]at e2 e3 e4
  exact sc_eq (Decidable.not_not.1 e1) e2 e3.1 e3.2.1 e3.2.2 e4.1 e4.2.1 e4.2.2.1 e4.2.2.2 (Decidable.not_not.1 e5) (Decidable.not_not.1 e6)
 subst hst
 refine Ab h2.isSl (Ab k2.isSl ?_)
 rw[h2.lenS,k2.lenS]
 refine Aa (fun e=>no fun h=>e (by rw[(inj.1 h).2.1])) fun e7=>Ab h4.isSl (Ab k4.isSl ?_)
 rw[h4.lenS,k4.lenS]
 refine Aa (fun e=>no fun h=>e (by rw[(inj.1 h).2.2])) fun e8=>?_
 have ell:l.length=m.length:=by omega
 have efl:f.length=g.length:=by omega
 refine⟨fun i a1 a2 a3 a4 a5 a6 a7 a8 a9 a10 a11 a12 a13 b1 b2 b3 b4 b5 b6 b7 b8 b9 b10 b11 b12 b13 st'=>ul=a12/\uf=a13/\wl=b12/\wf=b13/\st=st'/\∃k:Nat,i=k/\k<=l.length/\l.take k=m.take k,fun i _ _ _ _ _ _ _ _ _ _ _ _ _ _ _ _ _ _ _ _ _ _ _ _ _ _ _=>(l.length-i).toNat,
  ⟨rfl,rfl,rfl,rfl,rfl,0,rfl,Nat.zero_le _,rfl⟩,?_⟩
 rintro _ a1 a2 a3 a4 a5 a6 a7 a8 a9 a10 a11 _ _ b1 b2 b3 b4 b5 b6 b7 b8 b9 b10 b11 _ _ _ ⟨rfl,rfl,rfl,rfl,rfl,k,rfl,hkl,hE⟩
 refine Ab h2.isSl (Aa (fun q=>?_) fun q=>?_)
 ·rw[h2.lenS]at q
  refine el13 hke h2 h3 rfl (by omega) fun s1 l1 f1 ub1 ul1 uf1 gw hw on=>el13 hke k2 k3 rfl (by omega) fun s2 l2 f2 ub2 ul2 uf2 gw2 hw2 on2=>?_
  have hwsz:=Ka gw
  have hwsz2:=Ka gw2
  refine ih _ (.mk s2 l2 f2) (by omega) (by omega) (by omega) hw hw2 hke fun r hr=>Am (fun hb=>no fun h=>?_) fun hb=>?_
  ·rw[(inj.1 h).2.1,gw2]at gw
   rw[hr.2 (Option.some.inj gw).symm]at hb;cases hb
  ·rw[Ah _ (by omega) (by omega)]
   exact⟨⟨rfl,rfl,rfl,rfl,rfl,k+1,by omega,by omega,Kq hE gw gw2 (hr.1 (by simpa using hb))⟩,by dsimp only;omega⟩
 ·rw[h2.lenS]at q
  have hlm:l=m:=by
   have:k=l.length:=by omega
   rw[this,List.take_length,ell,List.take_length]at hE;exact hE
  subst hlm
  refine⟨fun i a1 a2 a3 a4 a5 a6 a7 a8 a9 a10 a11 a12 a13 b1 b2 b3 b4 b5 b6 b7 b8 b9 b10 b11 b12 b13 st'=>uf=a13/\wf=b13/\st=st'/\∃k:Nat,i=k/\k<=f.length/\f.take k=g.take k,fun i _ _ _ _ _ _ _ _ _ _ _ _ _ _ _ _ _ _ _ _ _ _ _ _ _ _ _=>(f.length-i).toNat,
   ⟨rfl,rfl,rfl,0,rfl,Nat.zero_le _,rfl⟩,?_⟩
  rintro _ a1 a2 a3 a4 a5 a6 a7 a8 a9 a10 a11 a12 _ b1 b2 b3 b4 b5 b6 b7 b8 b9 b10 b11 b12 _ _ ⟨rfl,rfl,rfl,k,rfl,hkl,hF⟩
  refine Ab h4.isSl (Aa (fun q=>?_) fun q=>?_)
  ·rw[h4.lenS]at q
   have gd:f[k]? =some f[k]:=List.getElem?_eq_getElem (by omega)
   have gd2:g[k]? =some g[k]:=List.getElem?_eq_getElem (by omega)
   generalize f[k]=d at gd
   generalize g[k]=d2 at gd2
   refine key14 hke h4 h5 rfl gd (key14 hke k4 k5 rfl gd2 (Aa (fun e=>?_) fun e=>?_))
   ·refine⟨T9 hke k4 k5 gd2,T9 hke h4 h5 gd,no fun h=>e ?_⟩
    rw[(inj.1 h).2.2,gd2]at gd
    rw[Option.some.inj gd]
   ·refine val14 hke h4 h5 rfl (by omega) fun key1 s1 l1 f1 ub1 ul1 uf1 gw hw on=>val14 hke k4 k5 rfl (by omega) fun key2 s2 l2 f2 ub2 ul2 uf2 gw2 hw2 on2=>?_
    have hwsz:=IH gw
    have hwsz2:=IH gw2
    have hwk:=szd key1 (.mk s1 l1 f1)
    have hwk2:=szd key2 (.mk s2 l2 f2)
    refine ih (.mk s1 l1 f1) (.mk s2 l2 f2) (by omega) (by omega) (by omega) hw hw2 hke fun r hr=>⟨T9 hke k4 k5 gd2,T9 hke h4 h5 gd,Am (fun hb=>no fun h=>?_) fun hb=>?_⟩
    ·rw[(inj.1 h).2.2,gw2]at gw
     have:=Option.some.inj gw
     simp only[Fd.mk.injEq]at this
     rw[hr.2 this.2.symm]at hb;cases hb
    ·rw[Ah _ (by omega) (by omega)]
     refine⟨⟨rfl,rfl,rfl,k+1,by omega,by omega,Kq hF gw gw2 ?_⟩,by dsimp only;omega⟩
     rw[gd]at gw
     rw[gd2]at gw2
     have q1:=Option.some.inj gw
     have q2:=Option.some.inj gw2
     subst q1 q2
     have:=hr.1 (by simpa using hb)
     simp only[Fd.key,Decidable.not_not]at e
     rw[e,this]
  ·rw[h4.lenS]at q
   have hfg:f=g:=by
    have:k=f.length:=by omega
    rw[this,List.take_length,efl,List.take_length]at hF;exact hF
   exact hk true ⟨fun _=>by rw[hfg],fun _=>rfl⟩
theorem SlR.ldb {st:St} {u:TV} {l:B8} {k:Nat} (h:SlR st 1 u l.length (AF l)) (hk:k<l.length):Ac st [] (.t (ixT 1 u k)) 0=some (FL l[k]):=by
 have:=h.ldc (by rw[Dn];omega) hk
 rw[List.drop_eq_getElem_cons (by rw[Dn];omega)]at this
 simp only[Aj,List.take_succ_cons,List.take_zero]at this
 cases hq:Ac st [] (.t (ixT 1 u k)) 0 with
 | none=>rw[hq]at this;cases this
 | some y=>
  rw[hq]at this
  simp only[Option.map_some,Option.some.injEq,List.cons.injEq,and_true]at this
  rw[this];simp[AF]
def zs (n:Nat):B8:=List.replicate n 48
theorem Nl:∀n,Lib.repeatL [48] n=zs n
 | 0=>rfl
 | n+1=>by
  show [48]++Lib.repeatL [48] n=_
  rw[Nl n];rfl
theorem R3 (n:Nat):(zs n).length=n:=by simp[zs]
theorem OT {n:Nat} (hn:n<=2000000) {st:St} {K:B8->St->Prop} (hk:K (zs n) st):CallT PR DR [.str [48],.int .i64 (n:Int)] [.one .str] st K:=by
 refine CZ (fun _ _=>by kernel_rfl) fun g w vargs s hr=>?_
 obtain⟨v,u,rfl,hv,hu⟩:=Nm hr
 rw[Bk hv,Rb hu]
 refine Calls.mono (Tryz.strings_Repeat ⟨#[48]⟩ n w (by omega) (by simp[ByteArray.size];omega)) ?_
 rintro e w' ⟨rfl,hb⟩
 obtain⟨s',e'⟩:=s.world hb.size (s.below.trans (hb.mono s.fits)) hb.block
 refine⟨_,rfl,.str (zs n),st,g,hk,s',?_,e'⟩
 have:Lib.repeatL (ByteArray.mk #[48]).data.toList n=zs n:=Nl n
 rw[this];exact Rel.str _
theorem Eu (st:St) (b:Nat) (o:J7):(st.put b o).box b=o:=by simp[St.put]
theorem GV (st:St) (o:J7) (t:Option Nat):(st.push o t).box st.nb=o:=by simp[St.push]
theorem HJ.set {st:St} {u:TV} {n i:Nat} {xs:List TV} {bs:List Nat} {x:TV} {K:St->Prop} (h:HJ st 1 u n xs bs) (hi:i<n) (hK:∀st',HJ st' 1 u n (xs.set i x) bs->StX (·∈bs) st st'->K st'):stB st (ixT 1 u i) [x] K:=by
 rcases h with⟨h0,_⟩ | ⟨b,cap,tail,rfl,h1,h2,h3,h4,h5,rfl⟩
 ·omega
 ·simp only[ixT,Nat.zero_add,Nat.mul_one,stB]
  have hl:(xs++tail).length=cap:=by omega
  rw[List.length_append]at hl
  refine⟨_,h2,by rw[List.length_append,List.length_singleton];omega,hK _ (.inr ⟨b,cap,tail,rfl,h1,?_,by rw[List.length_append,List.length_set];omega,by rw[List.length_set];exact h4,h5,rfl⟩) (StX.put (S:=(·∈ [b])) (.head _) _)⟩
  rw[Eu]
  simp only[setAll]
  rw[List.set_append_left _ _ (by omega)]
def BxB (st0 st:St) (u:TV) (l:B8):Prop:=∃bs,HJ st 1 u l.length (AF l) bs/\As st0 st/\∀x,x∈bs->st0.nb<=x
theorem BxB.nil {st0 st:St} (e:As st0 st):BxB st0 st .nilSlice []:=⟨[],HJ.nil _ _,e,fun x hx=>by cases hx⟩
theorem BxB.rd {st0 st:St} {u:TV} {l:B8} (h:BxB st0 st u l):SlR st 1 u l.length (AF l):=by
 obtain⟨bs,h1,_⟩:=h;exact h1.rd
theorem BxB.ext {st0 st:St} {u:TV} {l:B8} (h:BxB st0 st u l):As st0 st:=by
 obtain⟨bs,_,h2,_⟩:=h;exact h2
theorem BxB.app {st0 st:St} {u:TV} {l:B8} {c:UInt8} {x:TV} {K:TV->St->Prop} (h:BxB st0 st u l) (hx:x=FL c) (hl:l.length<=100000000) (hK:∀u' st',BxB st0 st' u' (l++[c])->K u' st'):Mx 5 1 1 u 1 [x] st K:=by
 obtain⟨bs,h1,h2,h3⟩:=h
 subst hx
 refine Vo h1 (by omega) rfl (by omega) fun u' st' bs' ho e hb=>hK u' st' ⟨bs',?_,?_,?_⟩
 ·rw[List.length_append,List.length_singleton,<-JN];exact ho
 ·exact StX.ext h2 e h3
 ·rcases hb with⟨rfl,_⟩ | rfl
  ·exact h3
  ·intro y hy;rw[List.mem_singleton.1 hy];exact h2.nb
theorem Tr (l:B8) (i:Nat) (c:UInt8):(AF l).set i (FL c)=AF (l.set i c):=by
 unfold AF;rw[List.map_set]
theorem BxB.set {st0 st:St} {u:TV} {l:B8} {i:Nat} {c:UInt8} {x:TV} {K:St->Prop} (h:BxB st0 st u l) (hx:x=FL c) (hi:i<l.length) (hK:∀st',BxB st0 st' u (l.set i c)->K st'):stB st (ixT 1 u i) [x] K:=by
 obtain⟨bs,h1,h2,h3⟩:=h
 subst hx
 refine h1.set hi fun st' ho e=>hK st' ⟨bs,?_,StX.ext h2 e h3,h3⟩
 rw[List.length_set,<-Tr];exact ho
theorem zrep_u8 (n:Nat):HK [.int .u8 (0:Int)] (n*1)=AF (List.replicate n 0):=by
 unfold HK AF
 rw[Nat.mul_one,List.map_replicate]
 refine List.ext_getElem (by simp) fun i h1 h2=>?_
 simp[FL,Nat.mod_one]
theorem BxB.make {st0 st:St} (e:As st0 st) (n:Nat):BxB st0 (st.push (.cells (HK [.int .u8 (0:Int)] (n*1))) (some 5)) (.ms 1 st.nb 0 n n) (List.replicate n 0):=by
 refine⟨[st.nb],.inr ⟨st.nb,n,[],by rw[List.length_replicate],by simp[St.push],?_,?_,?_,?_,rfl⟩,e.push _ _,fun x hx=>by rw[List.mem_singleton.1 hx];exact e.nb⟩
 ·rw[zrep_u8,List.append_nil,GV]
 ·rw[List.append_nil,Dn,List.length_replicate,Nat.mul_one]
 ·rw[Dn];omega
 ·rw[List.length_replicate];exact Nat.le_refl _
theorem Ul {c:UInt8} {f:Int->Prop} (h:f (c.toNat:Int)):Af (.int .u8) (FL c) f:=AB h
theorem BxB.ld {st0 st:St} {u:TV} {l:B8} {i:Nat} (h:BxB st0 st u l) (hi:i<l.length):Ac st [] (.t (ixT 1 u i)) 0=some (FL l[i]):=h.rd.ldb hi
theorem BxB.str {st0 st:St} {u:TV} {l:B8} {K:B8->Prop} (h:BxB st0 st u l) (hk:K l):Ag ((toBytes st u).map TV.str) fun x=>Af .str x K:=
 Ad (x:= .str l) (by rw[h.rd.toBytes];rfl) (Al hk)
theorem Sm {st0 st:St} {u:TV} {l:B8} (hl:l.length<=100000000) (h:BxB st0 st u l) {K:St->Prop} (hk:∀st',BxB st0 st' u l.reverse->K st'):CallT PR DT [u] [] st K:=by
 refine Ke u st K (Ab h.rd.isSl ?_)
 rw[h.rd.lenS,Ah _ (by omega) (by omega)]
 refine⟨fun i k b st'=>u=b/\∃(n:Nat) (m:B8),i=n/\k=(l.length:Int)-1-n/\2*n<=l.length+1/\m.length=l.length/\BxB st0 st' u m/\∀j,j<l.length->m.getD j 0=if j<n∨l.length-n<=j then l.getD (l.length-1-j) 0 else l.getD j 0,fun i _ _ _=>(l.length-i).toNat,⟨rfl,0,l,rfl,by omega,by omega,rfl,h,fun j hj=>by rw[if_neg (by omega)]⟩,?_⟩
 rintro _ _ _ st1 ⟨rfl,n,m,rfl,rfl,hn,hm,hb,hall⟩
 refine Aa (fun g=>?_) fun g=>hk _ ?_
 ·have hk':Int.toNat ((l.length:Int)-1-n)=l.length-1-n:=by omega
  have hr:=hb.rd
  have hnl:n<m.length:=by omega
  have hkl:l.length-1-n<m.length:=by omega
  rw[hr.lenZ,hk',Int.toNat_natCast]
  refine⟨⟨by omega,by omega⟩,Ad (hb.ld hkl) (Ul ⟨⟨by omega,by omega⟩,Ad (hb.ld hnl) (Ul ⟨⟨by omega,by omega⟩,hb.set (c:=m[l.length-1-n]) rfl hnl fun st2 hb2=>⟨⟨by omega,by omega⟩,hb2.set (c:=m[n]) rfl (by rw[List.length_set];exact hkl) fun st3 hb3=>?_⟩⟩)⟩)⟩
  rw[Ah _ (by omega) (by omega),Ah _ (by omega) (by omega)]
  refine⟨⟨rfl,n+1,_,by omega,by omega,by omega,by rw[List.length_set,List.length_set];exact hm,hb3,fun j hj=>?_⟩,by dsimp only;omega⟩
  have h1:=hall n (by omega)
  have h2:=hall (l.length-1-n) (by omega)
  rw[if_neg (by omega)]at h1 h2
  have e1:m.getD n 0=m[n]:=by rw[List.getD_eq_getElem?_getD,List.getElem?_eq_getElem hnl];rfl
  have e2:m.getD (l.length-1-n) 0=m[l.length-1-n]:=by rw[List.getD_eq_getElem?_getD,List.getElem?_eq_getElem hkl];rfl
  have e3:((m.set n m[l.length-1-n]).set (l.length-1-n) m[n]).getD j 0=if j=l.length-1-n then m[n]else if j=n then m[l.length-1-n]else m.getD j 0:=by
   rw[List.getD_eq_getElem?_getD,List.getElem?_set,List.getElem?_set]
   by_cases c1:j=l.length-1-n
   ·rw[if_pos c1.symm,if_pos c1,if_pos (by rw[List.length_set];omega)];rfl
   ·rw[if_neg (fun e=>c1 e.symm),if_neg c1]
    by_cases c2:j=n
    ·rw[if_pos c2.symm,if_pos c2,if_pos (by omega)];rfl
    ·rw[if_neg (fun e=>c2 e.symm),if_neg c2,List.getD_eq_getElem?_getD]
  rw[e3]
  by_cases c1:j=l.length-1-n
  ·rw[if_pos c1,if_pos (by omega),<-e1,h1];congr 1;omega
  ·rw[if_neg c1]
   by_cases c2:j=n
   ·rw[if_pos c2,if_pos (by omega),<-e2,h2];congr 1;omega
   ·rw[if_neg c2,hall j hj]
    by_cases c3:j<n∨l.length-n<=j
    ·rw[if_pos c3,if_pos (by omega)]
    ·rw[if_neg c3,if_neg (by omega)]
 ·have:m=l.reverse:=by
   refine List.ext_getElem (by simpa using hm) fun j h1 h2=>?_
   have:=hall j (by omega)
   rw[List.getD_eq_getElem?_getD,List.getElem?_eq_getElem h1,Option.getD_some]at this
   rw[this,List.getElem_reverse]
   by_cases c:j<n∨l.length-n<=j
   ·rw[if_pos c,List.getD_eq_getElem?_getD,List.getElem?_eq_getElem (by omega),Option.getD_some]
   ·rw[if_neg c,List.getD_eq_getElem?_getD,List.getElem?_eq_getElem (by omega),Option.getD_some]
    congr 1;omega
  rw[<-this];exact hb
theorem dg_w8 {n:Nat} (x:Int) (h:x=n):u8.wrap (i64.wrap (48+x.tmod 10))=(((48+n%10).toUInt8.toNat:Nat):Int):=by
 subst h
 rw[Int.tmod_eq_emod_of_nonneg (by omega),Ah _ (by omega) (by omega),Uk _ (by omega),K1 _ (by omega) (by omega)];omega
theorem S3 {n:Nat} (hn:n<=9000000000000000000) {st:St} {K:B8->St->Prop} (hk:∀st',As st st'->K (Mv n) st'):CallT PR DU [.int .i64 (n:Int)] [.one .str] st K:=by
 have hlen:(Mv n).length<=19:=Ny 19 n (by omega)
 refine Kf _ st K ⟨fun k b st'=>∃(m:Nat) (l:B8),k=m/\m<=n/\BxB st st' b l/\Mv n=Mv m++l.reverse,fun k _ _=>k.toNat,⟨n,[],rfl,Nat.le_refl _,BxB.nil (As.refl _),by simp⟩,?_⟩
 rintro _ b st1 ⟨m,l,rfl,hm,hb,he⟩
 have hll:l.length<=19:=by rw[he,List.length_append,List.length_reverse]at hlen;omega
 refine Aa (fun g=>?_) fun g=>?_
 ·refine hb.app (c:=(48+m%10).toUInt8) (by rw[dg_w8 _ rfl];rfl) (by omega) fun u' st2 hb2=>?_
  have hd:i64.wrap ((m:Int).tdiv 10)=((m/10:Nat):Int):=by rw[Int.tdiv_eq_ediv_of_nonneg (by omega),Ah _ (by omega) (by omega)];omega
  rw[hd]
  refine⟨⟨m/10,_,rfl,by omega,hb2,?_⟩,by dsimp only;omega⟩
  rw[he,O4 (by omega),List.reverse_append,List.reverse_singleton,List.append_assoc]
 ·have h0:m=0:=by omega
  subst h0
  rw[LA,List.nil_append]at he
  refine Sm (by omega) hb fun st2 hb2=>hb2.str ?_
  rw[<-he];exact hk _ hb2.ext
theorem QH {n:Nat} (hn:n<=9000000000000000000) {st:St} {K:B8->St->Prop} (hk:∀st',As st st'->K (whN n) st'):CallT PR C0 [.int .i64 (n:Int)] [.one .str] st K:=by
 unfold whN at hk
 refine K6 _ st K (Aa (fun g=>?_) fun g=>S3 hn fun st' e=>?_)
 ·have:=hk st (As.refl _)
  rw[if_pos (by omega)]at this;exact this
 ·have:=hk st' e
  rw[if_neg (by omega)]at this;exact this
end Go.TVF
