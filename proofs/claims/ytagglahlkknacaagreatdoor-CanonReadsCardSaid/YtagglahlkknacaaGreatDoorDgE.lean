/- What the laws below rest on: a framework for Go programs, and contracts of the functions that they reach. -/
import Derived.Test.YtagglahlkknacaaGreatDoorDgD
import Derived.Shelf.Small.Strs
import Derived.Shelf.Strings.Repeat
import Derived.Shelf.Strings.Trim
import Derived.Test.YtagglahlkknacaaGreatDoorProg
set_option maxRecDepth 20000
set_option linter.unusedVariables false
set_option linter.unusedSimpArgs false
namespace Go.TVF
open Go.IntKind(i64 u8)
open Go Go.Proofs
theorem PN (l:TV) (st:St) (K:Int->St->Prop) (h:need (isSl l) (∃(I1:Int->TV->TV->Int->St->Prop) (M1:Int->TV->TV->Int->St->Nat),(I1 0 ((.map st.nb)) l ((lenS l:Int)) (st.push (.map []) none))/\∀b a c e d,I1 b a c e d->(BId (b<e) (((0<=b/\b<(lenZ 14 c:Int))/\Ak ((Al d [] (.t (ixT 14 c b.toNat)) 0 14).map TV.agg) (fun (x1:TV)=>B4 [.str,.int .i64,.bool,.bool,.str,.int .i64,.int .i64,.int .i64,.int .i64,.int .i64,.str,.tv,.tv,.tv] x1 (fun (s1:B8) (n1:Int) (b1 b2:Bool) (s2:B8) (n2 n3 n4 n5 n6:Int) (s3:B8) (v1 v2 v3:TV)=>need (List.all [.str s1,.int .i64 n1,.bool b1,.bool b2,.str s2,.int .i64 n2,.int .i64 n3,.int .i64 n4,.int .i64 n5,.int .i64 n6,.str s3,v1,v2,v3] Ar) (CallT PR IR [.str s1] [.one (.int .i64)] d (fun (n7:Int) f=>BId (n7≠0) (K n7 f) (Ak (NK f a) (fun (es1:List (B8×TV))=>As .bool (Ru (.bool false) (EK s1 es1)) (fun (b3:Bool)=>BIf b3 (K 8 f) (muK a s1 (.bool true) f (fun g=>(I1 ((i64.wrap (b+(1:Int)))) a c e g/\M1 ((i64.wrap (b+(1:Int)))) a c e g<M1 b a c e d)))))))))))) (K 0 d)))):CallT PR Hn [l] [.one (.int .i64)] st K:=
 Ae (cfg:=⟨[5],[],[]⟩) (h:=(.seq .none (.seq .none (.seq (.seq .none (.block (.loop ⟨[(10,.int .i64),(3,.tv),(8,.tv),(9,.int .i64)],[],[],[]⟩ .none))) .none)))) mixed (fun _ _=>Tryz.call199 _ _) Tryz.func199 (by kernel_rfl) (by kernel_rfl) h
theorem Gs (s:B8) (st:St) (K:TV->Bool->St->Prop) (h:∃(I1:TV->Int->B8->St->Prop) (M1:TV->Int->B8->St->Nat),(I1 ((.list 1 .full 1 [.int .i64 0])) 0 s st)/\∀c a b d,I1 c a b d->(BId (a<(b.length:Int)) (CallT PR Ca [.str b,.int .i64 a] [.one (.int .i64),.one (.int .i64)] d (fun (n1 n2:Int) e=>BId (n2=0) (K c false e) (A5 3 1 8 c 1 [(.int .i64 (i64.wrap (a+n2)))] e (fun (v1:TV) f=>(I1 v1 ((i64.wrap (a+n2))) b f/\M1 v1 ((i64.wrap (a+n2))) b f<M1 c a b d))))) (K c true d))):CallT PR Cj [.str s] [.one .tv,.one .bool] st K:=
 Ae (cfg:=⟨[],[],[]⟩) (h:=(.seq .none (.seq .none (.seq .none (.seq (.block (.loop ⟨[(4,.tv),(5,.int .i64),(0,.str)],[],[],[]⟩ .none)) .none))))) mixed (fun _ _=>Tryz.call204 _ _) Tryz.func204 (by kernel_rfl) (by kernel_rfl) h
theorem Hj (s:B8) (prefixx:B8) (st:St) (K:Bool->St->Prop) (h:BId ((prefixx.length:Int)<=(s.length:Int)) (((0<=(prefixx.length:Int)/\(prefixx.length:Int)<=(s.length:Int))/\K ((decide ((List.take (Int.toNat (prefixx.length:Int)) s)=prefixx))) st)) (K false st)):CallT PR Eu [.str s,.str prefixx] [.one .bool] st K:=
 Ae (cfg:=⟨[],[],[]⟩) (h:= .none) mixed (fun _ _=>Tryz.call211 _ _) Tryz.func211 (by kernel_rfl) (by kernel_rfl) h
theorem N6 (s:B8) (st:St) (K:Int->Int->St->Prop) (h:CallT PR Ev [.str s] [.one .bool] st (fun (b1:Bool) f=>BIf (!b1) (K 0 3 f) (∃(I1:Int->Int->B8->Int->St->Prop) (M1:Int->Int->B8->Int->St->Nat),(I1 0 0 s ((s.length:Int)) f)/\∀c a b e d,I1 c a b e d->(BId (a<e) (((0<=a/\a<(b.length:Int))/\BId ((i64.wrap (Int.tdiv (i64.wrap ((9223372036854775807:Int)-(i64.wrap (u8.wrap (((List.getD b a.toNat 0).toNat:Int)-(48:Int)))))) (10:Int)))<c) (K 0 2 d) ((I1 ((i64.wrap ((i64.wrap (c*(10:Int)))+(i64.wrap (u8.wrap (((List.getD b a.toNat 0).toNat:Int)-(48:Int))))))) ((i64.wrap (a+(1:Int)))) b e d/\M1 ((i64.wrap ((i64.wrap (c*(10:Int)))+(i64.wrap (u8.wrap (((List.getD b a.toNat 0).toNat:Int)-(48:Int))))))) ((i64.wrap (a+(1:Int)))) b e d<M1 c a b e d)))) (K c 0 d))))):CallT PR FY [.str s] [.one (.int .i64),.one (.int .i64)] st K:=
 Ae (cfg:=⟨[],[],[]⟩) (h:=(.seq .none (.seq .none (.seq .none (.seq (.seq .none (.block (.loop ⟨[(4,.int .i64),(12,.int .i64),(0,.str),(11,.int .i64)],[],[],[]⟩ .none))) .none))))) mixed (fun _ _=>Tryz.call212 _ _) Tryz.func212 (by kernel_rfl) (by kernel_rfl) h
theorem N7 (neg:Bool) (s:B8) (exp:Int) (st:St) (K:Bool->B8->Int->Int->St->Prop) (h:BId (s=([]:B8)) (K false [] 0 0 st) (CallT PR DP [.str s,.str JW] [.one .str] st (fun (s1:B8) a=>((0<=(i64.wrap ((s.length:Int)-(i64.wrap ((s.length:Int)-(s1.length:Int)))))/\(i64.wrap ((s.length:Int)-(i64.wrap ((s.length:Int)-(s1.length:Int)))))<=(s.length:Int))/\BId ((i64.wrap ((400:Int)-(i64.wrap ((s.length:Int)-(s1.length:Int)))))<exp) (K false [] 0 2 a) (BId (exp<(i64.wrap ((-400:Int)-(i64.wrap ((s.length:Int)-(s1.length:Int)))))) (K false [] 0 2 a) (BId ((120:Int)<(((List.take (Int.toNat (i64.wrap ((s.length:Int)-(i64.wrap ((s.length:Int)-(s1.length:Int)))))) s)).length:Int)) (K false [] 0 2 a) (K neg ((List.take (Int.toNat (i64.wrap ((s.length:Int)-(i64.wrap ((s.length:Int)-(s1.length:Int)))))) s)) ((i64.wrap (exp+(i64.wrap ((s.length:Int)-(s1.length:Int)))))) 0 a))))))):CallT PR FZ [.bool neg,.str s,.int .i64 exp] [.agg [.bool,.str,.int .i64],.one (.int .i64)] st K:=
 Ae (cfg:=⟨[6],[],[]⟩) (h:= .none) mixed (fun _ _=>Tryz.call217 _ _) Tryz.func217 (by kernel_rfl) (by kernel_rfl) h
theorem H7 (r:Nat) (f:Nat) (st:St) (K:St->Prop) (h:CallT PR Ay [(.box r 0),.int .i64 2] [.one (.int .i64)] st (fun (n1:Int) g=>stB g (.box f 3) [.int .i64 n1] (fun i=>CallT PR AH [(.box r 0),.str Bu] [.one (.int .u8)] i (fun (n2:Int) k=>CallT PR Ay [(.box r 0),.int .i64 2] [.one (.int .i64)] k (fun (n3:Int) l=>stB l (.box f 4) [.int .i64 n3] (fun m=>CallT PR AH [(.box r 0),.str Bu] [.one (.int .u8)] m (fun (n4:Int) d=>CallT PR Ay [(.box r 0),.int .i64 2] [.one (.int .i64)] d (fun (n5:Int) e=>stB e (.box f 5) [.int .i64 n5] (fun a=>Ak (Af a [] (.t (.box r 0)) 0) (fun (x1:TV)=>As .str x1 (fun (s1:B8)=>BId (s1≠([]:B8)) (Ak (Af a [] (.t (.box r 0)) 0) (fun (x2:TV)=>As .str x2 (fun (s2:B8)=>((0<=(0:Int)/\(0:Int)<(s2.length:Int))/\BId (((List.getD s2 (Int.toNat (0:Int)) 0).toNat:Int)=(46:Int)) (Ak (Af a [] (.t (.box r 0)) 0) (fun (x3:TV)=>As .str x3 (fun (s3:B8)=>((0<=(1:Int)/\(1:Int)<=(s3.length:Int))/\stB a (.box r 0) [(.str (List.drop (Int.toNat (1:Int)) s3))] (fun j=>CallT PR Cw [(.box r 0)] [.one (.int .i64)] j (fun (n6:Int) c=>stB c (.box f 6) [.int .i64 n6] (fun b=>K b))))))) (K a))))) (K a)))))))))))):CallT PR By [(.box r 0),(.box f 0)] [] st K:=
 Ae (cfg:=⟨[],[],[]⟩) (h:= .none) mixed (fun _ _=>Tryz.call218 _ _) Tryz.func218 (by kernel_rfl) (by kernel_rfl) h
theorem Jc (r:Nat) (f:Nat) (st:St) (K:St->Prop) (h:CallT PR Ay [(.box r 0),.int .i64 4] [.one (.int .i64)] st (fun (n1:Int) c=>stB c (.box f 0) [.int .i64 n1] (fun d=>CallT PR AH [(.box r 0),.str Cc] [.one (.int .u8)] d (fun (n2:Int) g=>CallT PR Ay [(.box r 0),.int .i64 2] [.one (.int .i64)] g (fun (n3:Int) i=>stB i (.box f 1) [.int .i64 n3] (fun j=>CallT PR AH [(.box r 0),.str Cc] [.one (.int .u8)] j (fun (n4:Int) a=>CallT PR Ay [(.box r 0),.int .i64 2] [.one (.int .i64)] a (fun (n5:Int) b=>stB b (.box f 2) [.int .i64 n5] (fun e=>K e))))))))):CallT PR Cn [(.box r 0),(.box f 0)] [] st K:=
 Ae (cfg:=⟨[],[],[]⟩) (h:= .none) mixed (fun _ _=>Tryz.call219 _ _) Tryz.func219 (by kernel_rfl) (by kernel_rfl) h
theorem Jz (r:Nat) (of:B8) (st:St) (K:Int->St->Prop) (h:Ak (Af st [] (.t (.box r 0)) 0) (fun (x1:TV)=>As .str x1 (fun (s1:B8)=>BId (s1≠([]:B8)) (∃(I1:Int->TV->B8->Int->St->Prop) (M1:Int->TV->B8->Int->St->Nat),(I1 0 ((.box r 0)) of ((of.length:Int)) st)/\∀b a c e d,I1 b a c e d->(BId (b<e) (need (isPtr a) (need (isPtr a) (Ak (Af d [] (.t (AC a 0)) 0) (fun (x2:TV)=>As .str x2 (fun (s2:B8)=>((0<=(0:Int)/\(0:Int)<(s2.length:Int))/\((0<=b/\b<(c.length:Int))/\BId (((List.getD s2 (Int.toNat (0:Int)) 0).toNat:Int)=((List.getD c b.toNat 0).toNat:Int)) (need (isPtr a) (need (isPtr a) (Ak (Af d [] (.t (AC a 0)) 0) (fun (x3:TV)=>As .str x3 (fun (s3:B8)=>((0<=(1:Int)/\(1:Int)<=(s3.length:Int))/\need (isPtr a) (need (isPtr a) (stB d (AC a 0) [(.str (List.drop (Int.toNat (1:Int)) s3))] (fun f=>((0<=b/\b<(c.length:Int))/\K (((List.getD c b.toNat 0).toNat:Int)) f)))))))))) ((I1 ((i64.wrap (b+(1:Int)))) a c e d/\M1 ((i64.wrap (b+(1:Int)))) a c e d<M1 b a c e d))))))))) (need (isPtr a) (need (isPtr a) (stB d (AC a 1) [.bool true] (fun g=>K 0 g)))))) (stB st (.box r 1) [.bool true] (fun i=>K 0 i))))):CallT PR AH [(.box r 0),.str of] [.one (.int .u8)] st K:=
 Ae (cfg:=⟨[],[],[]⟩) (h:=(.seq .none (.seq (.seq .none (.cond (.seq .none (.block (.loop ⟨[(13,.int .i64),(0,.tv),(1,.str),(12,.int .i64)],[],[],[]⟩ .none))) .none)) .none))) mixed (fun _ _=>Tryz.call220 _ _) Tryz.func220 (by kernel_rfl) (by kernel_rfl) h
theorem HE (r:Nat) (f:Nat) (st:St) (K:St->Prop) (h:CallT PR AH [(.box r 0),.str str55] [.one (.int .u8)] st (fun (n1:Int) i=>stB i (.box f 7) [.int .u8 n1] (fun a=>Ak (Af a [] (.t (.box f 7)) 0) (fun (x1:TV)=>As (.int .u8) x1 (fun (n2:Int)=>BId (n2=43) (CallT PR Ay [(.box r 0),.int .i64 2] [.one (.int .i64)] a (fun (n3:Int) l=>stB l (.box f 8) [.int .i64 n3] (fun m=>CallT PR AH [(.box r 0),.str Bu] [.one (.int .u8)] m (fun (n4:Int) n=>CallT PR Ay [(.box r 0),.int .i64 2] [.one (.int .i64)] n (fun (n5:Int) e=>stB e (.box f 9) [.int .i64 n5] (fun g=>K g)))))) (Ak (Af a [] (.t (.box f 7)) 0) (fun (x2:TV)=>As (.int .u8) x2 (fun (n6:Int)=>BId (n6=45) (CallT PR Ay [(.box r 0),.int .i64 2] [.one (.int .i64)] a (fun (n7:Int) k=>stB k (.box f 8) [.int .i64 n7] (fun j=>CallT PR AH [(.box r 0),.str Bu] [.one (.int .u8)] j (fun (n8:Int) c=>CallT PR Ay [(.box r 0),.int .i64 2] [.one (.int .i64)] c (fun (n9:Int) b=>stB b (.box f 9) [.int .i64 n9] (fun d=>K d)))))) (K a))))))))):CallT PR BX [(.box r 0),(.box f 0)] [] st K:=
 Ae (cfg:=⟨[],[],[]⟩) (h:= .none) mixed (fun _ _=>Tryz.call221 _ _) Tryz.func221 (by kernel_rfl) (by kernel_rfl) h
theorem LF (year:Int) (month:Int) (st:St) (K:Int->St->Prop) (h:CallT PR DC [.int .i64 year] [.one .bool] st (fun (b1:Bool) a=>BIf (!b1) (K 0 a) (BId (month<1) (K 0 a) (BId ((12:Int)<month) (K 0 a) (BId (month=2) (CallT PR Fn [.int .i64 year] [.one .bool] a (fun (b2:Bool) b=>BIf b2 (K 29 b) (((0<=(i64.wrap (month-(1:Int)))/\(i64.wrap (month-(1:Int)))<((12:Nat):Int))/\Ak ((([.int .i64 31,.int .i64 28,.int .i64 31,.int .i64 30,.int .i64 31,.int .i64 30,.int .i64 31,.int .i64 31,.int .i64 30,.int .i64 31,.int .i64 30,.int .i64 31]:List TV)[(0+(Int.toNat (i64.wrap (month-(1:Int))))*1)+0]?)) (fun (x1:TV)=>As (.int .i64) x1 (fun (n1:Int)=>K n1 b)))))) (((0<=(i64.wrap (month-(1:Int)))/\(i64.wrap (month-(1:Int)))<((12:Nat):Int))/\Ak ((([.int .i64 31,.int .i64 28,.int .i64 31,.int .i64 30,.int .i64 31,.int .i64 30,.int .i64 31,.int .i64 31,.int .i64 30,.int .i64 31,.int .i64 30,.int .i64 31]:List TV)[(0+(Int.toNat (i64.wrap (month-(1:Int))))*1)+0]?)) (fun (x2:TV)=>As (.int .i64) x2 (fun (n2:Int)=>K n2 a))))))))):CallT PR AW [.int .i64 year,.int .i64 month] [.one (.int .i64)] st K:=
 Ae (cfg:=⟨[5],[],[]⟩) (h:= .none) mixed (fun _ _=>Tryz.call222 _ _) Tryz.func222 (by kernel_rfl) (by kernel_rfl) h
theorem LD (year:Int) (st:St) (K:Int->St->Prop) (h:K ((i64.wrap ((i64.wrap ((i64.wrap ((i64.wrap ((365:Int)*(i64.wrap (year-(1:Int)))))+(i64.wrap (Int.tdiv (i64.wrap (year-(1:Int))) (4:Int)))))-(i64.wrap (Int.tdiv (i64.wrap (year-(1:Int))) (100:Int)))))+(i64.wrap (Int.tdiv (i64.wrap (year-(1:Int))) (400:Int)))))) st):CallT PR B1 [.int .i64 year] [.one (.int .i64)] st K:=
 Ae (cfg:=⟨[],[],[]⟩) (h:= .none) mixed (fun _ _=>Tryz.call223 _ _) Tryz.func223 (by kernel_rfl) (by kernel_rfl) h
theorem Il (s:B8) (atx:Int) (st:St) (K:Int->Int->St->Prop) (h:BId (atx<0) (K 0 0 st) (BId ((s.length:Int)<=atx) (K 0 0 st) (((0<=atx/\atx<(s.length:Int))/\∃(C1:Int->Int->B8->Int->St->Prop),(BId ((240:Int)<=(i64.wrap ((List.getD s atx.toNat 0).toNat:Int))) (C1 4 ((Au .and .i64 (i64.wrap ((List.getD s atx.toNat 0).toNat:Int)) (7:Int))) s atx st) (BId ((224:Int)<=(i64.wrap ((List.getD s atx.toNat 0).toNat:Int))) (C1 3 ((Au .and .i64 (i64.wrap ((List.getD s atx.toNat 0).toNat:Int)) (15:Int))) s atx st) (BId ((192:Int)<=(i64.wrap ((List.getD s atx.toNat 0).toNat:Int))) (C1 2 ((Au .and .i64 (i64.wrap ((List.getD s atx.toNat 0).toNat:Int)) (31:Int))) s atx st) (C1 1 ((i64.wrap ((List.getD s atx.toNat 0).toNat:Int))) s atx st))))/\∀e m k i j,C1 e m k i j->(BId ((i64.wrap ((k.length:Int)-i))<e) (K 0 0 j) (∃(I1:Int->Int->B8->Int->Int->St->Prop) (M1:Int->Int->B8->Int->Int->St->Nat),(I1 m 1 k i e j)/\∀f c d a b g,I1 f c d a b g->(BId (c<b) (((0<=(i64.wrap (a+c))/\(i64.wrap (a+c))<(d.length:Int))/\(I1 ((Au .or .i64 (i64.wrap (f*2^(min (Int.toNat (6:Int)) (IntKind.bits .i64)))) (Au .and .i64 (i64.wrap ((List.getD d (Int.toNat (i64.wrap (a+c))) 0).toNat:Int)) (63:Int)))) ((i64.wrap (c+(1:Int)))) d a b g/\M1 ((Au .or .i64 (i64.wrap (f*2^(min (Int.toNat (6:Int)) (IntKind.bits .i64)))) (Au .and .i64 (i64.wrap ((List.getD d (Int.toNat (i64.wrap (a+c))) 0).toNat:Int)) (63:Int)))) ((i64.wrap (c+(1:Int)))) d a b g<M1 f c d a b g))) (CallT PR B9 [.int .i64 f] [.one .str,.one (.int .i64)] g (fun (s1:B8) (n1:Int) l=>BId (n1≠0) (K 0 0 l) (((0<=a/\a<=(i64.wrap (a+b))/\(i64.wrap (a+b))<=(d.length:Int))/\BId (s1≠(List.drop a.toNat (List.take (Int.toNat (i64.wrap (a+b))) d))) (K 0 0 l) (K f b l)))))))))))):CallT PR Ca [.str s,.int .i64 atx] [.one (.int .i64),.one (.int .i64)] st K:=
 Ae (cfg:=⟨[],[],[]⟩) (h:=(.seq .none (.seq .none (.seq .none (.seq .none (.cut ⟨[(7,.int .i64),(8,.int .i64),(0,.str),(1,.int .i64)],[],[],[]⟩ .none (.seq .none (.seq (.seq .none (.block (.loop ⟨[(8,.int .i64),(9,.int .i64),(0,.str),(1,.int .i64),(7,.int .i64)],[],[],[]⟩ .none))) .none)))))))) mixed (fun _ _=>Tryz.call225 _ _) Tryz.func225 (by kernel_rfl) (by kernel_rfl) h
theorem Js (s:B8) (st:St) (K:B8->St->Prop) (h:∃(I1:Int->B8->St->Prop) (M1:Int->B8->St->Nat),(I1 0 s st)/\∀a b c,I1 a b c->(BId (a<(b.length:Int)) (((0<=a/\a<(b.length:Int))/\BId (((List.getD b a.toNat 0).toNat:Int)=(48:Int)) ((I1 ((i64.wrap (a+(1:Int)))) b c/\M1 ((i64.wrap (a+(1:Int)))) b c<M1 a b c)) (((0<=a/\a<=(b.length:Int))/\K ((List.drop a.toNat b)) c)))) (((0<=a/\a<=(b.length:Int))/\K ((List.drop a.toNat b)) c)))):CallT PR Cs [.str s] [.one .str] st K:=
 Ae (cfg:=⟨[],[],[]⟩) (h:=(.seq .none (.seq .none (.seq (.block (.loop ⟨[(3,.int .i64),(0,.str)],[],[],[]⟩ .none)) .none)))) mixed (fun _ _=>Tryz.call227 _ _) Tryz.func227 (by kernel_rfl) (by kernel_rfl) h
theorem Jr (s:B8) (st:St) (K:Int->Int->St->Prop) (h:CallT PR Cr [.str s] [.one .bool] st (fun (b1:Bool) e=>BIf (!b1) (K 0 3 e) (BId ((19:Int)<(s.length:Int)) (K 0 2 e) (BId ((s.length:Int)=(19:Int)) (BIf (!(Op.bytesLess s str56 || decide (s=str56))) (K 0 2 e) (∃(I1:Int->Int->B8->St->Prop) (M1:Int->Int->B8->St->Nat),(I1 0 0 s e)/\∀f a c g,I1 f a c g->(BId (a<(c.length:Int)) (((0<=a/\a<(c.length:Int))/\(I1 ((i64.wrap ((i64.wrap ((i64.wrap ((10:Int)*f))+(i64.wrap ((List.getD c a.toNat 0).toNat:Int))))-(48:Int)))) ((i64.wrap (a+(1:Int)))) c g/\M1 ((i64.wrap ((i64.wrap ((i64.wrap ((10:Int)*f))+(i64.wrap ((List.getD c a.toNat 0).toNat:Int))))-(48:Int)))) ((i64.wrap (a+(1:Int)))) c g<M1 f a c g))) (K f 0 g)))) (∃(I2:Int->Int->B8->St->Prop) (M2:Int->Int->B8->St->Nat),(I2 0 0 s e)/\∀i b d j,I2 i b d j->(BId (b<(d.length:Int)) (((0<=b/\b<(d.length:Int))/\(I2 ((i64.wrap ((i64.wrap ((i64.wrap ((10:Int)*i))+(i64.wrap ((List.getD d b.toNat 0).toNat:Int))))-(48:Int)))) ((i64.wrap (b+(1:Int)))) d j/\M2 ((i64.wrap ((i64.wrap ((i64.wrap ((10:Int)*i))+(i64.wrap ((List.getD d b.toNat 0).toNat:Int))))-(48:Int)))) ((i64.wrap (b+(1:Int)))) d j<M2 i b d j))) (K i 0 j))))))):CallT PR DA [.str s] [.one (.int .i64),.one (.int .i64)] st K:=
 Ae (cfg:=⟨[],[],[]⟩) (h:=(.seq .none (.seq .none (.seq .none (.seq .none (.seq (.seq .none (.block (.loop ⟨[(4,.int .i64),(5,.int .i64),(0,.str)],[],[],[]⟩ .none))) .none)))))) mixed (fun _ _=>Tryz.call228 _ _) Tryz.func228 (by kernel_rfl) (by kernel_rfl) h
theorem Jp (a:B8) (st:St) (K:Int->St->Prop) (h:∃(I1:Int->B8->St->Prop) (M1:Int->B8->St->Nat),(I1 0 a st)/\∀b c d,I1 b c d->(BId (b<(c.length:Int)) (((0<=(i64.wrap ((i64.wrap ((c.length:Int)-(1:Int)))-b))/\(i64.wrap ((i64.wrap ((c.length:Int)-(1:Int)))-b))<(c.length:Int))/\BId (((List.getD c (Int.toNat (i64.wrap ((i64.wrap ((c.length:Int)-(1:Int)))-b))) 0).toNat:Int)=(48:Int)) ((I1 ((i64.wrap (b+(1:Int)))) c d/\M1 ((i64.wrap (b+(1:Int)))) c d<M1 b c d)) (K b d))) (K b d))):CallT PR Cq [.str a] [.one (.int .i64)] st K:=
 Ae (cfg:=⟨[],[],[]⟩) (h:=(.seq .none (.seq .none (.seq (.block (.loop ⟨[(3,.int .i64),(0,.str)],[],[],[]⟩ .none)) .none)))) mixed (fun _ _=>Tryz.call229 _ _) Tryz.func229 (by kernel_rfl) (by kernel_rfl) h
theorem Jk (year:Int) (month:Int) (st:St) (K:Int->St->Prop) (h:BId (year<1) (K 0 st) (BId ((9999:Int)<year) (K 0 st) (∃(C1:Bool->Int->Int->St->Prop),(BId (month=1) (C1 ((decide (month=1))) year month st) (BId (month=3) (C1 ((decide (month=3))) year month st) (BId (month=5) (C1 ((decide (month=5))) year month st) (BId (month=7) (C1 ((decide (month=7))) year month st) (BId (month=8) (C1 ((decide (month=8))) year month st) (BId (month=10) (C1 ((decide (month=10))) year month st) (C1 ((decide (month=12))) year month st)))))))/\∀f c b a,C1 f c b a->(BIf f (K 31 a) (BId (b=4) (BId (b=4) (K 30 a) (BId (b=2) (CallT PR Br [.int .i64 c] [.one .bool] a (fun (b1:Bool) d=>BIf b1 (K 29 d) (K 28 d))) (K 0 a))) (BId (b=6) (BId (b=6) (K 30 a) (BId (b=2) (CallT PR Br [.int .i64 c] [.one .bool] a (fun (b2:Bool) e=>BIf b2 (K 29 e) (K 28 e))) (K 0 a))) (BId (b=9) (BId (b=9) (K 30 a) (BId (b=2) (CallT PR Br [.int .i64 c] [.one .bool] a (fun (b3:Bool) g=>BIf b3 (K 29 g) (K 28 g))) (K 0 a))) (BId (b=11) (K 30 a) (BId (b=2) (CallT PR Br [.int .i64 c] [.one .bool] a (fun (b4:Bool) i=>BIf b4 (K 29 i) (K 28 i))) (K 0 a)))))))))):CallT PR A1 [.int .i64 year,.int .i64 month] [.one (.int .i64)] st K:=
 Ae (cfg:=⟨[],[],[]⟩) (h:=(.seq .none (.seq .none (.seq (.seq .none (.block (.cut ⟨[(12,.bool),(0,.int .i64),(11,.int .i64)],[],[],[]⟩ .none .none))) .none)))) mixed (fun _ _=>Tryz.call230 _ _) Tryz.func230 (by kernel_rfl) (by kernel_rfl) h
theorem Ij (year:Int) (st:St) (K:Int->St->Prop) (h:∃(I1:Int->Int->Int->St->Prop) (M1:Int->Int->Int->St->Nat),(I1 0 1 year st)/\∀c b a d,I1 c b a d->(BId (b<a) (CallT PR Bz [.int .i64 b] [.one (.int .i64)] d (fun (n1:Int) e=>(I1 ((i64.wrap (c+n1))) ((i64.wrap (b+(1:Int)))) a e/\M1 ((i64.wrap (c+n1))) ((i64.wrap (b+(1:Int)))) a e<M1 c b a d))) (K c d))):CallT PR De [.int .i64 year] [.one (.int .i64)] st K:=
 Ae (cfg:=⟨[],[],[]⟩) (h:=(.seq .none (.seq .none (.seq (.seq .none (.block (.loop ⟨[(3,.int .i64),(4,.int .i64),(0,.int .i64)],[],[],[]⟩ .none))) .none)))) mixed (fun _ _=>Tryz.call231 _ _) Tryz.func231 (by kernel_rfl) (by kernel_rfl) h
theorem N5 (s:B8) (st:St) (K:Bool->St->Prop) (h:BId ((s.length:Int)<=(600:Int)) (CallT PR Hr [.str s] [.one .bool] st (fun (b1:Bool) a=>BIf b1 (BId (s=([]:B8)) (K true a) (((0<=(0:Int)/\(0:Int)<(s.length:Int))/\K ((decide (((List.getD s (Int.toNat (0:Int)) 0).toNat:Int)≠(48:Int)))) a))) (K false a))) (K false st)):CallT PR Ev [.str s] [.one .bool] st K:=
 Ae (cfg:=⟨[],[],[]⟩) (h:= .none) mixed (fun _ _=>Tryz.call232 _ _) Tryz.func232 (by kernel_rfl) (by kernel_rfl) h
theorem N4 (a:B8) (st:St) (K:Int->St->Prop) (h:CallT PR DP [.str a,.str JW] [.one .str] st (fun (s1:B8) b=>K ((i64.wrap ((a.length:Int)-(s1.length:Int)))) b)):CallT PR FX [.str a] [.one (.int .i64)] st K:=
 Ae (cfg:=⟨[],[],[]⟩) (h:= .none) mixed (fun _ _=>Tryz.call233 _ _) Tryz.func233 (by kernel_rfl) (by kernel_rfl) h
theorem Fh (b:Nat) (s:B8) (st:St) (K:Int->TV->St->Prop) (h:CallT PR Bn [(.box b 0)] [] st (fun (a:St)=>Ak (Af a [] (.t (.box b 1)) 0) (fun (v1:TV)=>Ak (Bb a 1 (.str s)) (fun (q1:Nat×List TV)=>need (List.all q1.2 Ar) (A5 5 1 1 v1 q1.1 q1.2 a (fun (v2:TV) d=>need (List.all [v2] Ar) (stB d (.box b 1) [v2] (fun c=>K ((s.length:Int)) .nilIface c)))))))):CallT PR Ax [(.box b 0),.str s] [.one (.int .i64),.one .tv] st K:=
 Ae (cfg:=⟨[],[],[]⟩) (h:= .none) mixed (fun _ _=>Tryz.call236 _ _) Tryz.func236 (by kernel_rfl) (by kernel_rfl) h
theorem LB (n:Int) (st:St) (K:B8->St->Prop) (h:∃(I1:Int->TV->St->Prop) (M1:Int->TV->St->Nat),(I1 n .nilSlice st)/\∀a b c,I1 a b c->(BId ((0:Int)<a) (Jx 5 1 1 b 1 [(.int .u8 (u8.wrap (i64.wrap ((48:Int)+(Int.tmod a (10:Int))))))] c (fun (v1:TV) d=>(I1 ((i64.wrap (Int.tdiv a (10:Int)))) v1 d/\M1 ((i64.wrap (Int.tdiv a (10:Int)))) v1 d<M1 a b c))) (CallT PR EW [b] [] c (fun (e:St)=>Ak ((toBytes e b).map TV.str) (fun (x1:TV)=>As .str x1 (fun (s1:B8)=>K s1 e)))))):CallT PR EX [.int .i64 n] [.one .str] st K:=
 Ae (cfg:=⟨[],[14],[]⟩) (h:=(.seq .none (.seq .none (.seq (.block (.loop ⟨[(0,.int .i64),(3,.tv)],[],[],[]⟩ .none)) .none)))) mixed (fun _ _=>Tryz.call238 _ _) Tryz.func238 (by kernel_rfl) (by kernel_rfl) h
theorem MW (n:Int) (st:St) (K:Int->Int->Int->Int->St->Prop) (h:CallT PR Hc [.int .i64 n] [.one .bool] st (fun (b1:Bool) s=>BIf (!b1) (K 0 0 0 2 s) (∃(I1:Int->Int->St->Prop) (M1:Int->Int->St->Nat),(I1 ((i64.wrap ((i64.wrap (Int.tdiv n (366:Int)))+(1:Int)))) n s)/\∀a i j,I1 a i j->(BId (a<9999) (CallT PR B1 [(.int .i64 (i64.wrap (a+(1:Int))))] [.one (.int .i64)] j (fun (n1:Int) o=>BId (n1<=i) ((I1 ((i64.wrap (a+(1:Int)))) i o/\M1 ((i64.wrap (a+(1:Int)))) i o<M1 a i j)) (CallT PR B1 [.int .i64 a] [.one (.int .i64)] o (fun (n2:Int) u=>∃(I2:Int->Int->Int->St->Prop) (M2:Int->Int->Int->St->Nat),(I2 1 ((i64.wrap (i-n2))) a u)/\∀c f e k,I2 c f e k->(CallT PR AW [.int .i64 e,.int .i64 c] [.one (.int .i64)] k (fun (n3:Int) q=>BId (n3<=f) (CallT PR AW [.int .i64 e,.int .i64 c] [.one (.int .i64)] q (fun (n4:Int) r=>(I2 ((i64.wrap (c+(1:Int)))) ((i64.wrap (f-n4))) e r/\M2 ((i64.wrap (c+(1:Int)))) ((i64.wrap (f-n4))) e r<M2 c f e k))) (K e c ((i64.wrap (f+(1:Int)))) 0 q))))))) (CallT PR B1 [.int .i64 a] [.one (.int .i64)] j (fun (n5:Int) t=>∃(I3:Int->Int->Int->St->Prop) (M3:Int->Int->Int->St->Nat),(I3 1 ((i64.wrap (i-n5))) a t)/\∀b g d m,I3 b g d m->(CallT PR AW [.int .i64 d,.int .i64 b] [.one (.int .i64)] m (fun (n6:Int) l=>BId (n6<=g) (CallT PR AW [.int .i64 d,.int .i64 b] [.one (.int .i64)] l (fun (n7:Int) p=>(I3 ((i64.wrap (b+(1:Int)))) ((i64.wrap (g-n7))) d p/\M3 ((i64.wrap (b+(1:Int)))) ((i64.wrap (g-n7))) d p<M3 b g d m))) (K d b ((i64.wrap (g+(1:Int)))) 0 l))))))))):CallT PR Fo [.int .i64 n] [.one (.int .i64),.one (.int .i64),.one (.int .i64),.one (.int .i64)] st K:=
 Ae (cfg:=⟨[],[],[]⟩) (h:=(.seq .none (.seq .none (.seq .none (.seq (.block (.loop ⟨[(2,.int .i64),(0,.int .i64)],[],[],[]⟩ .none)) (.seq .none (.seq .none (.seq (.block (.loop ⟨[(3,.int .i64),(6,.int .i64),(2,.int .i64)],[],[],[]⟩ .none)) .none)))))))) mixed (fun _ _=>Tryz.call239 _ _) Tryz.func239 (by kernel_rfl) (by kernel_rfl) h
theorem MQ (n:Int) (width:Int) (st:St) (K:B8->St->Prop) (h:((0<=width/\width<=width/\Int.toNat width*1<=140737488355328)/\∃(I1:Int->Int->TV->St->Prop) (M1:Int->Int->TV->St->Nat),(I1 n ((i64.wrap (width-(1:Int)))) ((.ms 1 st.nb 0 width.toNat width.toNat)) (st.push (.cells (FO [.int .u8 0] (Int.toNat width*1))) (some 5)))/\∀d a b c,I1 d a b c->(BId ((0:Int)<=a) (((0<=a/\a<(lenZ 1 b:Int))/\stB c (ixT 1 b a.toNat) [(.int .u8 (u8.wrap (i64.wrap ((48:Int)+(Int.tmod d (10:Int))))))] (fun e=>(I1 ((i64.wrap (Int.tdiv d (10:Int)))) ((i64.wrap (a-(1:Int)))) b e/\M1 ((i64.wrap (Int.tdiv d (10:Int)))) ((i64.wrap (a-(1:Int)))) b e<M1 d a b c)))) (Ak ((toBytes c b).map TV.str) (fun (x1:TV)=>As .str x1 (fun (s1:B8)=>K s1 c)))))):CallT PR AM [.int .i64 n,.int .i64 width] [.one .str] st K:=
 Ae (cfg:=⟨[],[8],[]⟩) (h:=(.seq .none (.seq .none (.seq (.seq .none (.block (.loop ⟨[(0,.int .i64),(6,.int .i64),(5,.tv)],[],[],[]⟩ .none))) .none)))) mixed (fun _ _=>Tryz.call240 _ _) Tryz.func240 (by kernel_rfl) (by kernel_rfl) h
theorem HJ (n:Int) (st:St) (K:B8->St->Prop) (h:∃(I1:Int->B8->St->Prop) (M1:Int->B8->St->Nat),(I1 n [] st)/\∀b c a,I1 b c a->(BId ((0:Int)<b) (Ak ((toBytes a (.list 1 .full 1 [(.int .u8 (u8.wrap (i64.wrap ((48:Int)+(Int.tmod b (10:Int))))))])).map TV.str) (fun (x1:TV)=>As .str x1 (fun (s1:B8)=>(s1.length+c.length<=9223372036854775807/\(I1 ((i64.wrap (Int.tdiv b (10:Int)))) ((s1++c)) a/\M1 ((i64.wrap (Int.tdiv b (10:Int)))) ((s1++c)) a<M1 b c a))))) (K c a))):CallT PR B0 [.int .i64 n] [.one .str] st K:=
 Ae (cfg:=⟨[],[],[]⟩) (h:=(.seq .none (.seq .none (.seq (.block (.loop ⟨[(0,.int .i64),(3,.str)],[],[],[]⟩ .none)) .none)))) mixed (fun _ _=>Tryz.call242 _ _) Tryz.func242 (by kernel_rfl) (by kernel_rfl) h
theorem Jg (kind:Int) (st:St) (K:Bool->St->Prop) (h:BId (kind=1) (K true st) (BId (kind=3) (K true st) (K ((decide (kind=4))) st))):CallT PR Dv [.int .i64 kind] [.one .bool] st K:=
 Ae (cfg:=⟨[],[],[]⟩) (h:= .none) mixed (fun _ _=>Tryz.call243 _ _) Tryz.func243 (by kernel_rfl) (by kernel_rfl) h
theorem HH (kind:Int) (st:St) (K:Bool->St->Prop) (h:BId (kind=2) (K true st) (BId (kind=3) (K true st) (K ((decide (kind=4))) st))):CallT PR BY [.int .i64 kind] [.one .bool] st K:=
 Ae (cfg:=⟨[],[],[]⟩) (h:= .none) mixed (fun _ _=>Tryz.call244 _ _) Tryz.func244 (by kernel_rfl) (by kernel_rfl) h
theorem K9 (n:Int) (st:St) (K:Bool->St->Prop) (h:BId ((0:Int)<=n) (K ((decide (n<=3652058))) st) (K false st)):CallT PR GH [.int .i64 n] [.one .bool] st K:=
 Ae (cfg:=⟨[],[],[]⟩) (h:= .none) mixed (fun _ _=>Tryz.call245 _ _) Tryz.func245 (by kernel_rfl) (by kernel_rfl) h
theorem Ii (year:Int) (st:St) (K:Int->St->Prop) (h:∃(I1:Int->Int->Int->St->Prop) (M1:Int->Int->Int->St->Nat),(I1 0 1 year st)/\∀c b a d,I1 c b a d->(BId (b<=12) (CallT PR A1 [.int .i64 a,.int .i64 b] [.one (.int .i64)] d (fun (n1:Int) e=>(I1 ((i64.wrap (c+n1))) ((i64.wrap (b+(1:Int)))) a e/\M1 ((i64.wrap (c+n1))) ((i64.wrap (b+(1:Int)))) a e<M1 c b a d))) (K c d))):CallT PR Bz [.int .i64 year] [.one (.int .i64)] st K:=
 Ae (cfg:=⟨[],[],[]⟩) (h:=(.seq .none (.seq .none (.seq (.seq .none (.block (.loop ⟨[(3,.int .i64),(4,.int .i64),(0,.int .i64)],[],[],[]⟩ .none))) .none)))) mixed (fun _ _=>Tryz.call246 _ _) Tryz.func246 (by kernel_rfl) (by kernel_rfl) h
theorem DG (s:TV) (st:St) (K:TV->St->Prop) (h:need (isSl s) (BIf (FT s) (K .nilSlice st) (Ak (Bb st 14 s) (fun (q1:Nat×List TV)=>need (List.all q1.2 Ar) (Jx 82 14 184 (.list 14 .full 0 []) q1.1 q1.2 st (fun (v1:TV) a=>K v1 a)))))):CallT PR BT [s] [.one .tv] st K:=
 Ae (cfg:=⟨[],[7],[]⟩) (h:= .none) mixed (fun _ _=>Tryz.call248 _ _) Tryz.func248 (by kernel_rfl) (by kernel_rfl) h
theorem Bg (x:TV) (cmp:TV) (st:St) (K:St->Prop) (h:need (isSl x) (CallT PR AZ [x,(.int .i64 (lenS x:Int)),cmp] [] st (fun (a:St)=>K a))):CallT PR AF [x,cmp] [] st K:=
 Ae (cfg:=⟨[],[],[]⟩) (h:= .none) mixed (fun _ _=>Tryz.call249 _ _) Tryz.func249 (by kernel_rfl) (by kernel_rfl) h
theorem Ly (a_0:B8) (a_1:Int) (a_2:Bool) (a_3:Bool) (a_4:B8) (a_5:Int) (a_6:Int) (a_7:Int) (a_8:Int) (a_9:Int) (a_10:B8) (a_11:TV) (a_12:TV) (a_13:TV) (b_0:B8) (b_1:Int) (b_2:Bool) (b_3:Bool) (b_4:B8) (b_5:Int) (b_6:Int) (b_7:Int) (b_8:Int) (b_9:Int) (b_10:B8) (b_11:TV) (b_12:TV) (b_13:TV) (st:St) (K:Int->St->Prop) (h:CallT PR GF [.str a_0,.str b_0] [.one (.int .i64)] st (fun (n1:Int) a=>K n1 a)):CallT PR DB [(.agg [.str a_0,.int .i64 a_1,.bool a_2,.bool a_3,.str a_4,.int .i64 a_5,.int .i64 a_6,.int .i64 a_7,.int .i64 a_8,.int .i64 a_9,.str a_10,a_11,a_12,a_13]),(.agg [.str b_0,.int .i64 b_1,.bool b_2,.bool b_3,.str b_4,.int .i64 b_5,.int .i64 b_6,.int .i64 b_7,.int .i64 b_8,.int .i64 b_9,.str b_10,b_11,b_12,b_13])] [.one (.int .i64)] st K:=
 Ae (cfg:=⟨[2,3],[],[]⟩) (h:= .none) mixed (fun _ _=>Tryz.call250 _ _) Tryz.func250 (by kernel_rfl) (by kernel_rfl) h
theorem OH (w:Nat) (s:B8) (st:St) (K:St->Prop) (h:CallT PR Aj [(.box w 0),.int .u8 34] [.one .tv] st (fun (v1:TV) m=>∃(I1:Int->TV->B8->St->Prop) (M1:Int->TV->B8->St->Nat),(I1 0 ((.box w 0)) s m)/\∀a c b d,I1 a c b d->(BId (a<(b.length:Int)) (((0<=a/\a<(b.length:Int))/\CallT PR EY [(.int .u8 ((List.getD b a.toNat 0).toNat:Int))] [.one (.int .u8)] d (fun (n1:Int) e=>BId (n1≠0) (CallT PR Aj [c,.int .u8 92] [.one .tv] e (fun (v2:TV) n=>CallT PR Aj [c,.int .u8 n1] [.one .tv] n (fun (v3:TV) i=>(I1 ((i64.wrap (a+(1:Int)))) c b i/\M1 ((i64.wrap (a+(1:Int)))) c b i<M1 a c b d)))) (BId (((List.getD b a.toNat 0).toNat:Int)<(32:Int)) (CallT PR Ax [c,.str Vk] [.one (.int .i64),.one .tv] e (fun (n2:Int) (v4:TV) k=>((0<=(Int.fdiv ((List.getD b a.toNat 0).toNat:Int) (2^(min (Int.toNat (4:Int)) (IntKind.bits .u8))))/\(Int.fdiv ((List.getD b a.toNat 0).toNat:Int) (2^(min (Int.toNat (4:Int)) (IntKind.bits .u8))))<(FA.length:Int))/\CallT PR Aj [c,(.int .u8 ((List.getD FA (Int.toNat (Int.fdiv ((List.getD b a.toNat 0).toNat:Int) (2^(min (Int.toNat (4:Int)) (IntKind.bits .u8))))) 0).toNat:Int))] [.one .tv] k (fun (v5:TV) l=>((0<=(Au .and .u8 ((List.getD b a.toNat 0).toNat:Int) (15:Int))/\(Au .and .u8 ((List.getD b a.toNat 0).toNat:Int) (15:Int))<(FA.length:Int))/\CallT PR Aj [c,(.int .u8 ((List.getD FA (Int.toNat (Au .and .u8 ((List.getD b a.toNat 0).toNat:Int) (15:Int))) 0).toNat:Int))] [.one .tv] l (fun (v6:TV) g=>(I1 ((i64.wrap (a+(1:Int)))) c b g/\M1 ((i64.wrap (a+(1:Int)))) c b g<M1 a c b d))))))) (CallT PR Aj [c,(.int .u8 ((List.getD b a.toNat 0).toNat:Int))] [.one .tv] e (fun (v7:TV) f=>(I1 ((i64.wrap (a+(1:Int)))) c b f/\M1 ((i64.wrap (a+(1:Int)))) c b f<M1 a c b d))))))) (CallT PR Aj [c,.int .u8 34] [.one .tv] d (fun (v8:TV) j=>K j))))):CallT PR CT [(.box w 0),.str s] [] st K:=
 Ae (cfg:=⟨[],[],[]⟩) (h:=(.seq .none (.seq (.seq .none (.block (.loop ⟨[(4,.int .i64),(0,.tv),(1,.str)],[],[],[]⟩ .none))) .none))) mixed (fun _ _=>Tryz.call252 _ _) Tryz.func252 (by kernel_rfl) (by kernel_rfl) h
theorem OJ (b:TV) (pad:Bool) (st:St) (K:B8->St->Prop) (h:∃(I1:TV->Int->TV->Bool->St->Prop) (M1:TV->Int->TV->Bool->St->Nat),(I1 .nilSlice 0 b pad st)/\∀s w u v x,I1 s w u v x->(need (isSl u) (BId (w<(lenS u:Int)) (need (isSl u) (∃(I2:Int->Int->TV->Bool->TV->Int->Int->St->Prop) (M2:Int->Int->TV->Bool->TV->Int->Int->St->Nat),(I2 0 0 u v s w ((min (3:Int) (i64.wrap ((lenS u:Int)-w)))) x)/\∀e l p g i n r q,I2 e l p g i n r q->(BId (l<3) (BId (l<r) (((0<=(i64.wrap (n+l))/\(i64.wrap (n+l))<(lenZ 1 p:Int))/\Ak (Af q [] (.t (ixT 1 p (Int.toNat (i64.wrap (n+l))))) 0) (fun (x1:TV)=>As (.int .u8) x1 (fun (n1:Int)=>(I2 ((Au .or .i64 (i64.wrap (e*2^(min (Int.toNat (8:Int)) (IntKind.bits .i64)))) (i64.wrap n1))) ((i64.wrap (l+(1:Int)))) p g i n r q/\M2 ((Au .or .i64 (i64.wrap (e*2^(min (Int.toNat (8:Int)) (IntKind.bits .i64)))) (i64.wrap n1))) ((i64.wrap (l+(1:Int)))) p g i n r q<M2 e l p g i n r q))))) ((I2 ((i64.wrap (e*2^(min (Int.toNat (8:Int)) (IntKind.bits .i64))))) ((i64.wrap (l+(1:Int)))) p g i n r q/\M2 ((i64.wrap (e*2^(min (Int.toNat (8:Int)) (IntKind.bits .i64))))) ((i64.wrap (l+(1:Int)))) p g i n r q<M2 e l p g i n r q))) (∃(I3:TV->Int->TV->Bool->Int->Int->Int->St->Prop) (M3:TV->Int->TV->Bool->Int->Int->Int->St->Nat),(I3 i 0 p g n r e q)/\∀d f k c j m a o,I3 d f k c j m a o->(BId (f<4) (BId (f<=m) (need (decide (0<=(i64.wrap ((18:Int)-(i64.wrap ((6:Int)*f)))))) (((0<=(Au .and .i64 (Int.fdiv a (2^(min (Int.toNat (i64.wrap ((18:Int)-(i64.wrap ((6:Int)*f))))) (IntKind.bits .i64)))) (63:Int))/\(Au .and .i64 (Int.fdiv a (2^(min (Int.toNat (i64.wrap ((18:Int)-(i64.wrap ((6:Int)*f))))) (IntKind.bits .i64)))) (63:Int))<(OR.length:Int))/\A5 5 1 1 d 1 [(.int .u8 ((List.getD OR (Int.toNat (Au .and .i64 (Int.fdiv a (2^(min (Int.toNat (i64.wrap ((18:Int)-(i64.wrap ((6:Int)*f))))) (IntKind.bits .i64)))) (63:Int))) 0).toNat:Int))] o (fun (v1:TV) z=>(I3 v1 ((i64.wrap (f+(1:Int)))) k c j m a z/\M3 v1 ((i64.wrap (f+(1:Int)))) k c j m a z<M3 d f k c j m a o))))) (BIf c (A5 5 1 1 d 1 [.int .u8 61] o (fun (v2:TV) y=>(I3 v2 ((i64.wrap (f+(1:Int)))) k c j m a y/\M3 v2 ((i64.wrap (f+(1:Int)))) k c j m a y<M3 d f k c j m a o))) ((I3 d ((i64.wrap (f+(1:Int)))) k c j m a o/\M3 d ((i64.wrap (f+(1:Int)))) k c j m a o<M3 d f k c j m a o)))) ((I1 d ((i64.wrap (j+(3:Int)))) k c o/\M1 d ((i64.wrap (j+(3:Int)))) k c o<M1 s w u v x))))))) (Ak ((toBytes x s).map TV.str) (fun (x2:TV)=>As .str x2 (fun (s1:B8)=>K s1 x)))))):CallT PR GJ [b,.bool pad] [.one .str] st K:=
 Ae (cfg:=⟨[],[],[]⟩) (h:=(.seq .none (.seq .none (.seq (.seq .none (.block (.loop ⟨[(5,.tv),(6,.int .i64),(0,.tv),(1,.bool)],[],[],[]⟩ (.seq .none (.seq (.block (.seq .none (.seq .none (.seq (.seq .none (.block (.loop ⟨[(8,.int .i64),(22,.int .i64),(0,.tv),(1,.bool),(5,.tv),(6,.int .i64),(7,.int .i64)],[],[],[]⟩ .none))) (.seq .none (.block (.loop ⟨[(5,.tv),(40,.int .i64),(0,.tv),(1,.bool),(6,.int .i64),(7,.int .i64),(8,.int .i64)],[],[],[]⟩ .none))))))) .none))))) .none)))) mixed (fun _ _=>Tryz.call253 _ _) Tryz.func253 (by kernel_rfl) (by kernel_rfl) h
theorem FQ (b:Nat) (c:Int) (st:St) (K:TV->St->Prop) (h:CallT PR Bn [(.box b 0)] [] st (fun (a:St)=>Ak (Af a [] (.t (.box b 1)) 0) (fun (v1:TV)=>A5 5 1 1 v1 1 [.int .u8 c] a (fun (v2:TV) e=>need (List.all [v2] Ar) (stB e (.box b 1) [v2] (fun d=>K .nilIface d)))))):CallT PR Aj [(.box b 0),.int .u8 c] [.one .tv] st K:=
 Ae (cfg:=⟨[],[],[]⟩) (h:= .none) mixed (fun _ _=>Tryz.call254 _ _) Tryz.func254 (by kernel_rfl) (by kernel_rfl) h
theorem JB (b:Int) (st:St) (K:B8->St->Prop) (h:BId (b=34) (K str36 st) (BId (b=92) (K str37 st) (BId (b=8) (K str38 st) (BId (b=12) (K str39 st) (BId (b=10) (K str40 st) (BId (b=13) (K str41 st) (BId (b=9) (K str42 st) (BId (b<32) (((0<=(u8.wrap (Int.tdiv b (16:Int)))/\(u8.wrap (Int.tdiv b (16:Int)))<=(u8.wrap ((u8.wrap (Int.tdiv b (16:Int)))+(1:Int)))/\(u8.wrap ((u8.wrap (Int.tdiv b (16:Int)))+(1:Int)))<=(FA.length:Int))/\(Vk.length+((List.drop (Int.toNat (u8.wrap (Int.tdiv b (16:Int)))) (List.take (Int.toNat (u8.wrap ((u8.wrap (Int.tdiv b (16:Int)))+(1:Int)))) FA))).length<=9223372036854775807/\((0<=(Int.tmod b (16:Int))/\(Int.tmod b (16:Int))<=(u8.wrap ((Int.tmod b (16:Int))+(1:Int)))/\(u8.wrap ((Int.tmod b (16:Int))+(1:Int)))<=(FA.length:Int))/\(((Vk++(List.drop (Int.toNat (u8.wrap (Int.tdiv b (16:Int)))) (List.take (Int.toNat (u8.wrap ((u8.wrap (Int.tdiv b (16:Int)))+(1:Int)))) FA)))).length+((List.drop (Int.toNat (Int.tmod b (16:Int))) (List.take (Int.toNat (u8.wrap ((Int.tmod b (16:Int))+(1:Int)))) FA))).length<=9223372036854775807/\K (((Vk++(List.drop (Int.toNat (u8.wrap (Int.tdiv b (16:Int)))) (List.take (Int.toNat (u8.wrap ((u8.wrap (Int.tdiv b (16:Int)))+(1:Int)))) FA)))++(List.drop (Int.toNat (Int.tmod b (16:Int))) (List.take (Int.toNat (u8.wrap ((Int.tmod b (16:Int))+(1:Int)))) FA)))) st))))) (Ak ((toBytes st (.list 1 .full 1 [.int .u8 b])).map TV.str) (fun (x1:TV)=>As .str x1 (fun (s1:B8)=>K s1 st))))))))))):CallT PR DT [.int .u8 b] [.one .str] st K:=
 Ae (cfg:=⟨[],[],[]⟩) (h:= .none) mixed (fun _ _=>Tryz.call255 _ _) Tryz.func255 (by kernel_rfl) (by kernel_rfl) h
theorem KG (b:TV) (i:Int) (st:St) (K:Int->St->Prop) (h:need (isSl b) (BId ((lenS b:Int)<=(i64.wrap (Int.tdiv i (8:Int)))) (K 0 st) (((0<=(i64.wrap (Int.tdiv i (8:Int)))/\(i64.wrap (Int.tdiv i (8:Int)))<(lenZ 1 b:Int))/\Ak (Af st [] (.t (ixT 1 b (Int.toNat (i64.wrap (Int.tdiv i (8:Int)))))) 0) (fun (x1:TV)=>As (.int .u8) x1 (fun (n1:Int)=>need (decide (0<=(IntKind.u64.wrap (i64.wrap ((7:Int)-(Int.tmod i (8:Int))))))) (K ((Au .and .i64 (i64.wrap (Int.fdiv n1 (2^(min (Int.toNat (IntKind.u64.wrap (i64.wrap ((7:Int)-(Int.tmod i (8:Int)))))) (IntKind.bits .u8))))) (1:Int))) st))))))):CallT PR Ei [b,.int .i64 i] [.one (.int .i64)] st K:=
 Ae (cfg:=⟨[],[],[]⟩) (h:= .none) mixed (fun _ _=>Tryz.call256 _ _) Tryz.func256 (by kernel_rfl) (by kernel_rfl) h
theorem KE (v_0:Int) (v_1:Bool) (v_2:Bool) (v_3:B8) (v_4:Int) (v_5:Int) (v_6:Int) (v_7:Int) (v_8:Int) (v_9:B8) (v_10:TV) (v_11:TV) (v_12:TV) (st:St) (K:Bool->St->Prop) (h:BId (v_0<0) (K false st) (BId ((7:Int)<v_0) (K false st) (BId (v_0≠1) (BIf v_1 (K false st) (BId (v_0≠2) (BIf (!((v_2==false)&&(decide (v_3=([]:B8))&&(decide (v_4=(0:Int))&&true)))) (K false st) (BId (v_0≠3) (BIf (!(decide (v_5=(0:Int))&&(decide (v_6=(0:Int))&&(decide (v_7=(0:Int))&&(decide (v_8=(0:Int))&&true))))) (K false st) (BId (v_0=4) (BId (v_0=5) (BId (v_0=6) (BId (v_0=7) (K true st) (need (isSl v_12) (K ((decide ((lenS v_12:Int)=(0:Int)))) st))) (need (isSl v_11) (BId ((lenS v_11:Int)=(0:Int)) (BId (v_0=7) (K true st) (need (isSl v_12) (K ((decide ((lenS v_12:Int)=(0:Int)))) st))) (K false st)))) (need (isSl v_10) (BId ((lenS v_10:Int)=(0:Int)) (BId (v_0=6) (BId (v_0=7) (K true st) (need (isSl v_12) (K ((decide ((lenS v_12:Int)=(0:Int)))) st))) (need (isSl v_11) (BId ((lenS v_11:Int)=(0:Int)) (BId (v_0=7) (K true st) (need (isSl v_12) (K ((decide ((lenS v_12:Int)=(0:Int)))) st))) (K false st)))) (K false st)))) (BId (v_9=([]:B8)) (BId (v_0=5) (BId (v_0=6) (BId (v_0=7) (K true st) (need (isSl v_12) (K ((decide ((lenS v_12:Int)=(0:Int)))) st))) (need (isSl v_11) (BId ((lenS v_11:Int)=(0:Int)) (BId (v_0=7) (K true st) (need (isSl v_12) (K ((decide ((lenS v_12:Int)=(0:Int)))) st))) (K false st)))) (need (isSl v_10) (BId ((lenS v_10:Int)=(0:Int)) (BId (v_0=6) (BId (v_0=7) (K true st) (need (isSl v_12) (K ((decide ((lenS v_12:Int)=(0:Int)))) st))) (need (isSl v_11) (BId ((lenS v_11:Int)=(0:Int)) (BId (v_0=7) (K true st) (need (isSl v_12) (K ((decide ((lenS v_12:Int)=(0:Int)))) st))) (K false st)))) (K false st)))) (K false st)))) (BId (v_0=4) (BId (v_0=5) (BId (v_0=6) (BId (v_0=7) (K true st) (need (isSl v_12) (K ((decide ((lenS v_12:Int)=(0:Int)))) st))) (need (isSl v_11) (BId ((lenS v_11:Int)=(0:Int)) (BId (v_0=7) (K true st) (need (isSl v_12) (K ((decide ((lenS v_12:Int)=(0:Int)))) st))) (K false st)))) (need (isSl v_10) (BId ((lenS v_10:Int)=(0:Int)) (BId (v_0=6) (BId (v_0=7) (K true st) (need (isSl v_12) (K ((decide ((lenS v_12:Int)=(0:Int)))) st))) (need (isSl v_11) (BId ((lenS v_11:Int)=(0:Int)) (BId (v_0=7) (K true st) (need (isSl v_12) (K ((decide ((lenS v_12:Int)=(0:Int)))) st))) (K false st)))) (K false st)))) (BId (v_9=([]:B8)) (BId (v_0=5) (BId (v_0=6) (BId (v_0=7) (K true st) (need (isSl v_12) (K ((decide ((lenS v_12:Int)=(0:Int)))) st))) (need (isSl v_11) (BId ((lenS v_11:Int)=(0:Int)) (BId (v_0=7) (K true st) (need (isSl v_12) (K ((decide ((lenS v_12:Int)=(0:Int)))) st))) (K false st)))) (need (isSl v_10) (BId ((lenS v_10:Int)=(0:Int)) (BId (v_0=6) (BId (v_0=7) (K true st) (need (isSl v_12) (K ((decide ((lenS v_12:Int)=(0:Int)))) st))) (need (isSl v_11) (BId ((lenS v_11:Int)=(0:Int)) (BId (v_0=7) (K true st) (need (isSl v_12) (K ((decide ((lenS v_12:Int)=(0:Int)))) st))) (K false st)))) (K false st)))) (K false st))))) (BId (v_0≠3) (BIf (!(decide (v_5=(0:Int))&&(decide (v_6=(0:Int))&&(decide (v_7=(0:Int))&&(decide (v_8=(0:Int))&&true))))) (K false st) (BId (v_0=4) (BId (v_0=5) (BId (v_0=6) (BId (v_0=7) (K true st) (need (isSl v_12) (K ((decide ((lenS v_12:Int)=(0:Int)))) st))) (need (isSl v_11) (BId ((lenS v_11:Int)=(0:Int)) (BId (v_0=7) (K true st) (need (isSl v_12) (K ((decide ((lenS v_12:Int)=(0:Int)))) st))) (K false st)))) (need (isSl v_10) (BId ((lenS v_10:Int)=(0:Int)) (BId (v_0=6) (BId (v_0=7) (K true st) (need (isSl v_12) (K ((decide ((lenS v_12:Int)=(0:Int)))) st))) (need (isSl v_11) (BId ((lenS v_11:Int)=(0:Int)) (BId (v_0=7) (K true st) (need (isSl v_12) (K ((decide ((lenS v_12:Int)=(0:Int)))) st))) (K false st)))) (K false st)))) (BId (v_9=([]:B8)) (BId (v_0=5) (BId (v_0=6) (BId (v_0=7) (K true st) (need (isSl v_12) (K ((decide ((lenS v_12:Int)=(0:Int)))) st))) (need (isSl v_11) (BId ((lenS v_11:Int)=(0:Int)) (BId (v_0=7) (K true st) (need (isSl v_12) (K ((decide ((lenS v_12:Int)=(0:Int)))) st))) (K false st)))) (need (isSl v_10) (BId ((lenS v_10:Int)=(0:Int)) (BId (v_0=6) (BId (v_0=7) (K true st) (need (isSl v_12) (K ((decide ((lenS v_12:Int)=(0:Int)))) st))) (need (isSl v_11) (BId ((lenS v_11:Int)=(0:Int)) (BId (v_0=7) (K true st) (need (isSl v_12) (K ((decide ((lenS v_12:Int)=(0:Int)))) st))) (K false st)))) (K false st)))) (K false st)))) (BId (v_0=4) (BId (v_0=5) (BId (v_0=6) (BId (v_0=7) (K true st) (need (isSl v_12) (K ((decide ((lenS v_12:Int)=(0:Int)))) st))) (need (isSl v_11) (BId ((lenS v_11:Int)=(0:Int)) (BId (v_0=7) (K true st) (need (isSl v_12) (K ((decide ((lenS v_12:Int)=(0:Int)))) st))) (K false st)))) (need (isSl v_10) (BId ((lenS v_10:Int)=(0:Int)) (BId (v_0=6) (BId (v_0=7) (K true st) (need (isSl v_12) (K ((decide ((lenS v_12:Int)=(0:Int)))) st))) (need (isSl v_11) (BId ((lenS v_11:Int)=(0:Int)) (BId (v_0=7) (K true st) (need (isSl v_12) (K ((decide ((lenS v_12:Int)=(0:Int)))) st))) (K false st)))) (K false st)))) (BId (v_9=([]:B8)) (BId (v_0=5) (BId (v_0=6) (BId (v_0=7) (K true st) (need (isSl v_12) (K ((decide ((lenS v_12:Int)=(0:Int)))) st))) (need (isSl v_11) (BId ((lenS v_11:Int)=(0:Int)) (BId (v_0=7) (K true st) (need (isSl v_12) (K ((decide ((lenS v_12:Int)=(0:Int)))) st))) (K false st)))) (need (isSl v_10) (BId ((lenS v_10:Int)=(0:Int)) (BId (v_0=6) (BId (v_0=7) (K true st) (need (isSl v_12) (K ((decide ((lenS v_12:Int)=(0:Int)))) st))) (need (isSl v_11) (BId ((lenS v_11:Int)=(0:Int)) (BId (v_0=7) (K true st) (need (isSl v_12) (K ((decide ((lenS v_12:Int)=(0:Int)))) st))) (K false st)))) (K false st)))) (K false st)))))) (BId (v_0≠2) (BIf (!((v_2==false)&&(decide (v_3=([]:B8))&&(decide (v_4=(0:Int))&&true)))) (K false st) (BId (v_0≠3) (BIf (!(decide (v_5=(0:Int))&&(decide (v_6=(0:Int))&&(decide (v_7=(0:Int))&&(decide (v_8=(0:Int))&&true))))) (K false st) (BId (v_0=4) (BId (v_0=5) (BId (v_0=6) (BId (v_0=7) (K true st) (need (isSl v_12) (K ((decide ((lenS v_12:Int)=(0:Int)))) st))) (need (isSl v_11) (BId ((lenS v_11:Int)=(0:Int)) (BId (v_0=7) (K true st) (need (isSl v_12) (K ((decide ((lenS v_12:Int)=(0:Int)))) st))) (K false st)))) (need (isSl v_10) (BId ((lenS v_10:Int)=(0:Int)) (BId (v_0=6) (BId (v_0=7) (K true st) (need (isSl v_12) (K ((decide ((lenS v_12:Int)=(0:Int)))) st))) (need (isSl v_11) (BId ((lenS v_11:Int)=(0:Int)) (BId (v_0=7) (K true st) (need (isSl v_12) (K ((decide ((lenS v_12:Int)=(0:Int)))) st))) (K false st)))) (K false st)))) (BId (v_9=([]:B8)) (BId (v_0=5) (BId (v_0=6) (BId (v_0=7) (K true st) (need (isSl v_12) (K ((decide ((lenS v_12:Int)=(0:Int)))) st))) (need (isSl v_11) (BId ((lenS v_11:Int)=(0:Int)) (BId (v_0=7) (K true st) (need (isSl v_12) (K ((decide ((lenS v_12:Int)=(0:Int)))) st))) (K false st)))) (need (isSl v_10) (BId ((lenS v_10:Int)=(0:Int)) (BId (v_0=6) (BId (v_0=7) (K true st) (need (isSl v_12) (K ((decide ((lenS v_12:Int)=(0:Int)))) st))) (need (isSl v_11) (BId ((lenS v_11:Int)=(0:Int)) (BId (v_0=7) (K true st) (need (isSl v_12) (K ((decide ((lenS v_12:Int)=(0:Int)))) st))) (K false st)))) (K false st)))) (K false st)))) (BId (v_0=4) (BId (v_0=5) (BId (v_0=6) (BId (v_0=7) (K true st) (need (isSl v_12) (K ((decide ((lenS v_12:Int)=(0:Int)))) st))) (need (isSl v_11) (BId ((lenS v_11:Int)=(0:Int)) (BId (v_0=7) (K true st) (need (isSl v_12) (K ((decide ((lenS v_12:Int)=(0:Int)))) st))) (K false st)))) (need (isSl v_10) (BId ((lenS v_10:Int)=(0:Int)) (BId (v_0=6) (BId (v_0=7) (K true st) (need (isSl v_12) (K ((decide ((lenS v_12:Int)=(0:Int)))) st))) (need (isSl v_11) (BId ((lenS v_11:Int)=(0:Int)) (BId (v_0=7) (K true st) (need (isSl v_12) (K ((decide ((lenS v_12:Int)=(0:Int)))) st))) (K false st)))) (K false st)))) (BId (v_9=([]:B8)) (BId (v_0=5) (BId (v_0=6) (BId (v_0=7) (K true st) (need (isSl v_12) (K ((decide ((lenS v_12:Int)=(0:Int)))) st))) (need (isSl v_11) (BId ((lenS v_11:Int)=(0:Int)) (BId (v_0=7) (K true st) (need (isSl v_12) (K ((decide ((lenS v_12:Int)=(0:Int)))) st))) (K false st)))) (need (isSl v_10) (BId ((lenS v_10:Int)=(0:Int)) (BId (v_0=6) (BId (v_0=7) (K true st) (need (isSl v_12) (K ((decide ((lenS v_12:Int)=(0:Int)))) st))) (need (isSl v_11) (BId ((lenS v_11:Int)=(0:Int)) (BId (v_0=7) (K true st) (need (isSl v_12) (K ((decide ((lenS v_12:Int)=(0:Int)))) st))) (K false st)))) (K false st)))) (K false st))))) (BId (v_0≠3) (BIf (!(decide (v_5=(0:Int))&&(decide (v_6=(0:Int))&&(decide (v_7=(0:Int))&&(decide (v_8=(0:Int))&&true))))) (K false st) (BId (v_0=4) (BId (v_0=5) (BId (v_0=6) (BId (v_0=7) (K true st) (need (isSl v_12) (K ((decide ((lenS v_12:Int)=(0:Int)))) st))) (need (isSl v_11) (BId ((lenS v_11:Int)=(0:Int)) (BId (v_0=7) (K true st) (need (isSl v_12) (K ((decide ((lenS v_12:Int)=(0:Int)))) st))) (K false st)))) (need (isSl v_10) (BId ((lenS v_10:Int)=(0:Int)) (BId (v_0=6) (BId (v_0=7) (K true st) (need (isSl v_12) (K ((decide ((lenS v_12:Int)=(0:Int)))) st))) (need (isSl v_11) (BId ((lenS v_11:Int)=(0:Int)) (BId (v_0=7) (K true st) (need (isSl v_12) (K ((decide ((lenS v_12:Int)=(0:Int)))) st))) (K false st)))) (K false st)))) (BId (v_9=([]:B8)) (BId (v_0=5) (BId (v_0=6) (BId (v_0=7) (K true st) (need (isSl v_12) (K ((decide ((lenS v_12:Int)=(0:Int)))) st))) (need (isSl v_11) (BId ((lenS v_11:Int)=(0:Int)) (BId (v_0=7) (K true st) (need (isSl v_12) (K ((decide ((lenS v_12:Int)=(0:Int)))) st))) (K false st)))) (need (isSl v_10) (BId ((lenS v_10:Int)=(0:Int)) (BId (v_0=6) (BId (v_0=7) (K true st) (need (isSl v_12) (K ((decide ((lenS v_12:Int)=(0:Int)))) st))) (need (isSl v_11) (BId ((lenS v_11:Int)=(0:Int)) (BId (v_0=7) (K true st) (need (isSl v_12) (K ((decide ((lenS v_12:Int)=(0:Int)))) st))) (K false st)))) (K false st)))) (K false st)))) (BId (v_0=4) (BId (v_0=5) (BId (v_0=6) (BId (v_0=7) (K true st) (need (isSl v_12) (K ((decide ((lenS v_12:Int)=(0:Int)))) st))) (need (isSl v_11) (BId ((lenS v_11:Int)=(0:Int)) (BId (v_0=7) (K true st) (need (isSl v_12) (K ((decide ((lenS v_12:Int)=(0:Int)))) st))) (K false st)))) (need (isSl v_10) (BId ((lenS v_10:Int)=(0:Int)) (BId (v_0=6) (BId (v_0=7) (K true st) (need (isSl v_12) (K ((decide ((lenS v_12:Int)=(0:Int)))) st))) (need (isSl v_11) (BId ((lenS v_11:Int)=(0:Int)) (BId (v_0=7) (K true st) (need (isSl v_12) (K ((decide ((lenS v_12:Int)=(0:Int)))) st))) (K false st)))) (K false st)))) (BId (v_9=([]:B8)) (BId (v_0=5) (BId (v_0=6) (BId (v_0=7) (K true st) (need (isSl v_12) (K ((decide ((lenS v_12:Int)=(0:Int)))) st))) (need (isSl v_11) (BId ((lenS v_11:Int)=(0:Int)) (BId (v_0=7) (K true st) (need (isSl v_12) (K ((decide ((lenS v_12:Int)=(0:Int)))) st))) (K false st)))) (need (isSl v_10) (BId ((lenS v_10:Int)=(0:Int)) (BId (v_0=6) (BId (v_0=7) (K true st) (need (isSl v_12) (K ((decide ((lenS v_12:Int)=(0:Int)))) st))) (need (isSl v_11) (BId ((lenS v_11:Int)=(0:Int)) (BId (v_0=7) (K true st) (need (isSl v_12) (K ((decide ((lenS v_12:Int)=(0:Int)))) st))) (K false st)))) (K false st)))) (K false st)))))))):CallT PR Eg [(.agg (cV v_0 v_1 v_2 v_3 v_4 v_5 v_6 v_7 v_8 v_9 v_10 v_11 v_12))] [.one .bool] st K:=
 Ae (cfg:=⟨[1],[],[]⟩) (h:= .none) mixed (fun _ _=>Tryz.call257 _ _) Tryz.func257 (by kernel_rfl) (by kernel_rfl) h
theorem Jn (d_0:Bool) (d_1:B8) (d_2:Int) (st:St) (K:Bool->St->Prop) (h:BId (d_1=([]:B8)) (BIf (!d_0) (K ((decide (d_2=0))) st) (K false st)) (BId ((d_1.length:Int)<=(120:Int)) (CallT PR Cr [.str d_1] [.one .bool] st (fun (b1:Bool) b=>BIf b1 (CallT PR Cq [.str d_1] [.one (.int .i64)] b (fun (n1:Int) a=>BId (n1=0) (BId ((-400:Int)<=d_2) (K ((decide (d_2<=400))) a) (K false a)) (K false a))) (K false b))) (K false st))):CallT PR Dy [(.agg [.bool d_0,.str d_1,.int .i64 d_2])] [.one .bool] st K:=
 Ae (cfg:=⟨[1],[],[]⟩) (h:= .none) mixed (fun _ _=>Tryz.call258 _ _) Tryz.func258 (by kernel_rfl) (by kernel_rfl) h
theorem JH (l:TV) (st:St) (K:Int->St->Prop) (h:∃(I1:Int->TV->St->Prop) (M1:Int->TV->St->Nat),(I1 0 l st)/\∀b d g,I1 b d g->(need (isSl d) (BId (b<(lenS d:Int)) (((0<=b/\b<(lenZ 14 d:Int))/\need (isPtr (ixT 14 d b.toNat)) (Ak (Af g [] (.t (AC (ixT 14 d b.toNat) 0)) 0) (fun (x1:TV)=>As .str x1 (fun (s1:B8)=>CallT PR Bj [.str s1] [.one .bool] g (fun (b1:Bool) i=>BIf (!b1) (K 5 i) (((0<=b/\b<(lenZ 14 d:Int))/\need (isPtr (ixT 14 d b.toNat)) (Ak (Af i [] (.t (AC (ixT 14 d b.toNat) 0)) 0) (fun (x2:TV)=>As .str x2 (fun (s2:B8)=>BId ((1024:Int)<(s2.length:Int)) (K 10 i) (∃(I2:Int->TV->Int->St->Prop) (M2:Int->TV->Int->St->Nat),(I2 0 d b i)/\∀e a c f,I2 e a c f->(BId (e<c) (((0<=e/\e<(lenZ 14 a:Int))/\need (isPtr (ixT 14 a e.toNat)) (Ak (Af f [] (.t (AC (ixT 14 a e.toNat) 0)) 0) (fun (x3:TV)=>As .str x3 (fun (s3:B8)=>((0<=c/\c<(lenZ 14 a:Int))/\need (isPtr (ixT 14 a c.toNat)) (Ak (Af f [] (.t (AC (ixT 14 a c.toNat) 0)) 0) (fun (x4:TV)=>As .str x4 (fun (s4:B8)=>BId (s3=s4) (K 8 f) ((I2 ((i64.wrap (e+(1:Int)))) a c f/\M2 ((i64.wrap (e+(1:Int)))) a c f<M2 e a c f))))))))))) ((I1 ((i64.wrap (c+(1:Int)))) a f/\M1 ((i64.wrap (c+(1:Int)))) a f<M1 b d g))))))))))))))) (K 0 g)))):CallT PR BV [l] [.one (.int .i64)] st K:=
 Ae (cfg:=⟨[],[],[]⟩) (h:=(.seq .none (.seq (.seq .none (.block (.loop ⟨[(3,.int .i64),(0,.tv)],[],[],[]⟩ (.seq .none (.seq (.block (.seq .none (.seq .none (.seq .none (.block (.loop ⟨[(4,.int .i64),(0,.tv),(3,.int .i64)],[],[],[]⟩ .none)))))) .none))))) .none))) mixed (fun _ _=>Tryz.call259 _ _) Tryz.func259 (by kernel_rfl) (by kernel_rfl) h
theorem PQ (s:B8) (atx:Int) (st:St) (K:Int->Int->St->Prop) (h:BId (atx<0) (K 0 0 st) (BId ((s.length:Int)<=atx) (K 0 0 st) (((0<=atx/\atx<(s.length:Int))/\CallT PR J9 [(.int .u8 ((List.getD s atx.toNat 0).toNat:Int))] [.one (.int .i64),.one (.int .i64)] st (fun (n1 n2:Int) g=>BId (n1=0) (K 0 0 g) (BId ((i64.wrap ((s.length:Int)-atx))<n1) (K 0 0 g) (∃(I1:Int->Int->B8->Int->Int->St->Prop) (M1:Int->Int->B8->Int->Int->St->Nat),(I1 n2 1 s atx n1 g)/\∀e b c a d f,I1 e b c a d f->(BId (b<d) (((0<=(i64.wrap (a+b))/\(i64.wrap (a+b))<(c.length:Int))/\BId ((Au .and .u8 ((List.getD c (Int.toNat (i64.wrap (a+b))) 0).toNat:Int) (192:Int))≠(128:Int)) (K 0 0 f) ((I1 ((Au .or .i64 (i64.wrap (e*2^(min (Int.toNat (6:Int)) (IntKind.bits .i64)))) (i64.wrap (Au .and .u8 ((List.getD c (Int.toNat (i64.wrap (a+b))) 0).toNat:Int) (63:Int))))) ((i64.wrap (b+(1:Int)))) c a d f/\M1 ((Au .or .i64 (i64.wrap (e*2^(min (Int.toNat (6:Int)) (IntKind.bits .i64)))) (i64.wrap (Au .and .u8 ((List.getD c (Int.toNat (i64.wrap (a+b))) 0).toNat:Int) (63:Int))))) ((i64.wrap (b+(1:Int)))) c a d f<M1 e b c a d f)))) (CallT PR Hp [.int .i64 e] [.one .bool] f (fun (b1:Bool) i=>BIf (!b1) (K 0 0 i) (CallT PR IS [.int .i64 e] [.one (.int .i64)] i (fun (n3:Int) j=>BId (n3≠d) (K 0 0 j) (K e d j))))))))))))):CallT PR Hq [.str s,.int .i64 atx] [.one (.int .i64),.one (.int .i64)] st K:=
 Ae (cfg:=⟨[],[],[]⟩) (h:=(.seq .none (.seq .none (.seq .none (.seq .none (.seq (.seq .none (.block (.loop ⟨[(4,.int .i64),(7,.int .i64),(0,.str),(1,.int .i64),(6,.int .i64)],[],[],[]⟩ .none))) .none)))))) mixed (fun _ _=>Tryz.call261 _ _) Tryz.func261 (by kernel_rfl) (by kernel_rfl) h
theorem JO (p:Nat) (t:B8) (st:St) (K:St->Prop) (h:Ak (Af st [] (.t (.box p 2)) 0) (fun (x1:TV)=>As .bool x1 (fun (b1:Bool)=>BIf b1 (stB st (.box p 2) [.bool true] (fun c=>K c)) (Ak (Af st [] (.t (.box p 0)) 0) (fun (x2:TV)=>As .str x2 (fun (s1:B8)=>Ak (Af st [] (.t (.box p 1)) 0) (fun (x3:TV)=>As (.int .i64) x3 (fun (n1:Int)=>BId ((i64.wrap ((s1.length:Int)-n1))<(t.length:Int)) (stB st (.box p 2) [.bool true] (fun b=>K b)) (Ak (Af st [] (.t (.box p 0)) 0) (fun (x4:TV)=>As .str x4 (fun (s2:B8)=>Ak (Af st [] (.t (.box p 1)) 0) (fun (x5:TV)=>As (.int .i64) x5 (fun (n2:Int)=>Ak (Af st [] (.t (.box p 1)) 0) (fun (x6:TV)=>As (.int .i64) x6 (fun (n3:Int)=>((0<=n2/\n2<=(i64.wrap (n3+(t.length:Int)))/\(i64.wrap (n3+(t.length:Int)))<=(s2.length:Int))/\BId ((List.drop n2.toNat (List.take (Int.toNat (i64.wrap (n3+(t.length:Int)))) s2))≠t) (stB st (.box p 2) [.bool true] (fun a=>K a)) (Ak (Af st [] (.t (.box p 1)) 0) (fun (x7:TV)=>As (.int .i64) x7 (fun (n4:Int)=>stB st (.box p 1) [(.int .i64 (i64.wrap (n4+(t.length:Int))))] (fun d=>K d)))))))))))))))))))):CallT PR Av [(.box p 0),.str t] [] st K:=
 Ae (cfg:=⟨[],[],[]⟩) (h:= .none) mixed (fun _ _=>Tryz.call262 _ _) Tryz.func262 (by kernel_rfl) (by kernel_rfl) h
theorem Ir (p:Nat) (st:St) (K:Int->St->Prop) (h:CallT PR AX [(.box p 0)] [.one (.int .u8)] st (fun (n1:Int) y=>∃(I1:Int->TV->Int->St->Prop) (M1:Int->TV->Int->St->Nat),(I1 0 ((.box p 0)) n1 y)/\∀d b e m,I1 d b e m->(BId (d<128) (CallT PR EY [(.int .u8 (u8.wrap d))] [.one (.int .u8)] m (fun (n2:Int) j=>BId (n2=e) (BId (e≠0) (need (isPtr b) (need (isPtr b) (Ak (Af j [] (.t (AC b 1)) 0) (fun (x1:TV)=>As (.int .i64) x1 (fun (n3:Int)=>need (isPtr b) (need (isPtr b) (stB j (AC b 1) [(.int .i64 (i64.wrap (n3+(1:Int))))] (fun x=>K ((u8.wrap d)) x)))))))) ((I1 ((i64.wrap (d+(1:Int)))) b e j/\M1 ((i64.wrap (d+(1:Int)))) b e j<M1 d b e m))) ((I1 ((i64.wrap (d+(1:Int)))) b e j/\M1 ((i64.wrap (d+(1:Int)))) b e j<M1 d b e m)))) (CallT PR Av [b,.str Xj] [] m (fun (v:St)=>∃(I2:Int->Int->TV->St->Prop) (M2:Int->Int->TV->St->Nat),(I2 0 0 b v)/\∀o n q k,I2 o n q k->(BId (n<2) (∃(I3:Int->TV->Int->Int->St->Prop) (M3:Int->TV->Int->Int->St->Nat),(I3 0 q o n k)/\∀c a f g i,I3 c a f g i->(BId (c<16) (((0<=c/\c<(FA.length:Int))/\CallT PR AX [a] [.one (.int .u8)] i (fun (n4:Int) l=>BId (((List.getD FA c.toNat 0).toNat:Int)≠n4) ((I3 ((i64.wrap (c+(1:Int)))) a f g l/\M3 ((i64.wrap (c+(1:Int)))) a f g l<M3 c a f g i)) (BId (c=16) (need (isPtr a) (need (isPtr a) (stB l (AC a 2) [.bool true] (fun w=>K 0 w)))) (need (isPtr a) (need (isPtr a) (Ak (Af l [] (.t (AC a 1)) 0) (fun (x2:TV)=>As (.int .i64) x2 (fun (n5:Int)=>need (isPtr a) (need (isPtr a) (stB l (AC a 1) [(.int .i64 (i64.wrap (n5+(1:Int))))] (fun r=>(I2 ((i64.wrap ((i64.wrap ((16:Int)*f))+c))) ((i64.wrap (g+(1:Int)))) a r/\M2 ((i64.wrap ((i64.wrap ((16:Int)*f))+c))) ((i64.wrap (g+(1:Int)))) a r<M2 o n q k))))))))))))) (BId (c=16) (need (isPtr a) (need (isPtr a) (stB i (AC a 2) [.bool true] (fun u=>K 0 u)))) (need (isPtr a) (need (isPtr a) (Ak (Af i [] (.t (AC a 1)) 0) (fun (x3:TV)=>As (.int .i64) x3 (fun (n6:Int)=>need (isPtr a) (need (isPtr a) (stB i (AC a 1) [(.int .i64 (i64.wrap (n6+(1:Int))))] (fun s=>(I2 ((i64.wrap ((i64.wrap ((16:Int)*f))+c))) ((i64.wrap (g+(1:Int)))) a s/\M2 ((i64.wrap ((i64.wrap ((16:Int)*f))+c))) ((i64.wrap (g+(1:Int)))) a s<M2 o n q k)))))))))))) (K ((u8.wrap o)) k))))))):CallT PR Dj [(.box p 0)] [.one (.int .u8)] st K:=
 Ae (cfg:=⟨[],[],[]⟩) (h:=(.seq .none (.seq .none (.seq (.seq .none (.block (.loop ⟨[(9,.int .i64),(0,.tv),(3,.int .u8)],[],[],[]⟩ .none))) (.seq .none (.seq .none (.seq (.seq .none (.block (.loop ⟨[(5,.int .i64),(33,.int .i64),(0,.tv)],[],[],[]⟩ (.seq .none (.seq .none (.seq (.block (.seq .none (.seq (.block (.loop ⟨[(6,.int .i64),(0,.tv),(5,.int .i64),(33,.int .i64)],[],[],[]⟩ .none)) .none))) .none)))))) .none))))))) mixed (fun _ _=>Tryz.call263 _ _) Tryz.func263 (by kernel_rfl) (by kernel_rfl) h
theorem OI (alphabet:B8) (st:St) (K:TV->St->Prop) (h:K ((.func Fp [(.box st.nb 0)])) (st.push (.cells [.str alphabet]) (some 9))):CallT PR GI [.str alphabet] [.one .tv] st K:=
 Ae (cfg:=⟨[],[],[]⟩) (h:= .none) mixed (fun _ _=>Tryz.call264 _ _) Tryz.func264 (by kernel_rfl) (by kernel_rfl) h
theorem Ib (s:B8) (word:B8) (st:St) (K:Bool->St->Prop) (h:BId ((word.length:Int)<=(s.length:Int)) (((0<=(word.length:Int)/\(word.length:Int)<=(s.length:Int))/\K ((decide ((List.take (Int.toNat (word.length:Int)) s)=word))) st)) (K false st)):CallT PR AR [.str s,.str word] [.one .bool] st K:=
 Ae (cfg:=⟨[],[],[]⟩) (h:= .none) mixed (fun _ _=>Tryz.call265 _ _) Tryz.func265 (by kernel_rfl) (by kernel_rfl) h
theorem HG (s:B8) (st:St) (K:B8->Int->St->Prop) (h:BId ((s.length:Int)=(0:Int)) (K [] 0 st) (((0<=(0:Int)/\(0:Int)<(s.length:Int))/\BId (((List.getD s (Int.toNat (0:Int)) 0).toNat:Int)≠(34:Int)) (K [] 0 st) (∃(I1:TV->Int->B8->St->Prop) (M1:TV->Int->B8->St->Nat),(I1 .nilSlice 1 s st)/\∀c a b d,I1 c a b d->(BId (a<(b.length:Int)) (((0<=a/\a<(b.length:Int))/\BId (((List.getD b a.toNat 0).toNat:Int)=(34:Int)) (Ak ((toBytes d c).map TV.str) (fun (x1:TV)=>As .str x1 (fun (s1:B8)=>K s1 ((i64.wrap (a+(1:Int)))) d))) (BId (((List.getD b a.toNat 0).toNat:Int)=(92:Int)) (((0<=(i64.wrap (a+(1:Int)))/\(i64.wrap (a+(1:Int)))<=(b.length:Int))/\CallT PR C0 [(.str (List.drop (Int.toNat (i64.wrap (a+(1:Int)))) b))] [.one (.int .u8),.one (.int .i64)] d (fun (n1 n2:Int) e=>BId (n2=0) (K [] 0 e) (A5 5 1 1 c 1 [.int .u8 n1] e (fun (v1:TV) f=>(I1 v1 ((i64.wrap ((i64.wrap (a+(1:Int)))+n2))) b f/\M1 v1 ((i64.wrap ((i64.wrap (a+(1:Int)))+n2))) b f<M1 c a b d)))))) (((0<=a/\a<(b.length:Int))/\A5 5 1 1 c 1 [(.int .u8 ((List.getD b a.toNat 0).toNat:Int))] d (fun (v2:TV) g=>(I1 v2 ((i64.wrap (a+(1:Int)))) b g/\M1 v2 ((i64.wrap (a+(1:Int)))) b g<M1 c a b d))))))) (K [] 0 d)))))):CallT PR A7 [.str s] [.one .str,.one (.int .i64)] st K:=
 Ae (cfg:=⟨[],[],[]⟩) (h:=(.seq .none (.seq .none (.seq .none (.seq (.seq .none (.block (.loop ⟨[(4,.tv),(5,.int .i64),(0,.str)],[],[],[]⟩ .none))) .none))))) mixed (fun _ _=>Tryz.call266 _ _) Tryz.func266 (by kernel_rfl) (by kernel_rfl) h
theorem If (s:B8) (pad:Bool) (st:St) (K:TV->Int->St->Prop) (h:∃(I1:Int->B8->Bool->St->Prop) (M1:Int->B8->Bool->St->Nat),(I1 0 s pad st)/\∀b a c f,I1 b a c f->(BId (b<(a.length:Int)) (((0<=b/\b<(a.length:Int))/\CallT PR CF [.str OR,(.int .u8 ((List.getD a b.toNat 0).toNat:Int))] [.one (.int .i64)] f (fun (n1:Int) g=>BId ((0:Int)<=n1) ((I1 ((i64.wrap (b+(1:Int)))) a c g/\M1 ((i64.wrap (b+(1:Int)))) a c g<M1 b a c f)) (((0<=b/\b<=(a.length:Int))/\CallT PR BH [(.str (List.take b.toNat a))] [.one .tv] g (fun (v1:TV) i=>CallT PR Ba [v1,.bool c] [.one .str] i (fun (s1:B8) e=>BId (s1=a) (K v1 0 e) (BId (b=(a.length:Int)) (K .nilSlice 4 e) (BId ((a.length:Int)<(s1.length:Int)) (((0<=(a.length:Int)/\(a.length:Int)<=(s1.length:Int))/\BId ((List.take (Int.toNat (a.length:Int)) s1)=a) (K .nilSlice 4 e) (K .nilSlice 3 e))) (K .nilSlice 3 e)))))))))) (((0<=b/\b<=(a.length:Int))/\CallT PR BH [(.str (List.take b.toNat a))] [.one .tv] f (fun (v2:TV) j=>CallT PR Ba [v2,.bool c] [.one .str] j (fun (s2:B8) d=>BId (s2=a) (K v2 0 d) (BId (b=(a.length:Int)) (K .nilSlice 4 d) (BId ((a.length:Int)<(s2.length:Int)) (((0<=(a.length:Int)/\(a.length:Int)<=(s2.length:Int))/\BId ((List.take (Int.toNat (a.length:Int)) s2)=a) (K .nilSlice 4 d) (K .nilSlice 3 d))) (K .nilSlice 3 d))))))))):CallT PR Dc [.str s,.bool pad] [.one .tv,.one (.int .i64)] st K:=
 Ae (cfg:=⟨[],[],[]⟩) (h:=(.seq .none (.seq .none (.seq (.block (.loop ⟨[(6,.int .i64),(0,.str),(1,.bool)],[],[],[]⟩ .none)) .none)))) mixed (fun _ _=>Tryz.call267 _ _) Tryz.func267 (by kernel_rfl) (by kernel_rfl) h
theorem Ia (s:B8) (st:St) (K:Int->St->Prop) (h:∃(I1:Int->B8->St->Prop) (M1:Int->B8->St->Nat),(I1 0 s st)/\∀a b c,I1 a b c->(BId (a<(b.length:Int)) (((0<=a/\a<(b.length:Int))/\BId ((48:Int)<=((List.getD b a.toNat 0).toNat:Int)) (((0<=a/\a<(b.length:Int))/\BId (((List.getD b a.toNat 0).toNat:Int)<=(57:Int)) ((I1 ((i64.wrap (a+(1:Int)))) b c/\M1 ((i64.wrap (a+(1:Int)))) b c<M1 a b c)) (((0<=a/\a<(b.length:Int))/\BId (((List.getD b a.toNat 0).toNat:Int)=(45:Int)) ((I1 ((i64.wrap (a+(1:Int)))) b c/\M1 ((i64.wrap (a+(1:Int)))) b c<M1 a b c)) (((0<=a/\a<(b.length:Int))/\BId (((List.getD b a.toNat 0).toNat:Int)=(43:Int)) ((I1 ((i64.wrap (a+(1:Int)))) b c/\M1 ((i64.wrap (a+(1:Int)))) b c<M1 a b c)) (((0<=a/\a<(b.length:Int))/\BId (((List.getD b a.toNat 0).toNat:Int)=(46:Int)) ((I1 ((i64.wrap (a+(1:Int)))) b c/\M1 ((i64.wrap (a+(1:Int)))) b c<M1 a b c)) (((0<=a/\a<(b.length:Int))/\BId (((List.getD b a.toNat 0).toNat:Int)=(101:Int)) ((I1 ((i64.wrap (a+(1:Int)))) b c/\M1 ((i64.wrap (a+(1:Int)))) b c<M1 a b c)) (K a c))))))))))) (((0<=a/\a<(b.length:Int))/\BId (((List.getD b a.toNat 0).toNat:Int)=(45:Int)) ((I1 ((i64.wrap (a+(1:Int)))) b c/\M1 ((i64.wrap (a+(1:Int)))) b c<M1 a b c)) (((0<=a/\a<(b.length:Int))/\BId (((List.getD b a.toNat 0).toNat:Int)=(43:Int)) ((I1 ((i64.wrap (a+(1:Int)))) b c/\M1 ((i64.wrap (a+(1:Int)))) b c<M1 a b c)) (((0<=a/\a<(b.length:Int))/\BId (((List.getD b a.toNat 0).toNat:Int)=(46:Int)) ((I1 ((i64.wrap (a+(1:Int)))) b c/\M1 ((i64.wrap (a+(1:Int)))) b c<M1 a b c)) (((0<=a/\a<(b.length:Int))/\BId (((List.getD b a.toNat 0).toNat:Int)=(101:Int)) ((I1 ((i64.wrap (a+(1:Int)))) b c/\M1 ((i64.wrap (a+(1:Int)))) b c<M1 a b c)) (K a c))))))))))) (K a c))):CallT PR Da [.str s] [.one (.int .i64)] st K:=
 Ae (cfg:=⟨[],[],[]⟩) (h:=(.seq .none (.seq .none (.seq (.block (.loop ⟨[(3,.int .i64),(0,.str)],[],[],[]⟩ .none)) .none)))) mixed (fun _ _=>Tryz.call268 _ _) Tryz.func268 (by kernel_rfl) (by kernel_rfl) h
theorem Q6 (s:B8) (st:St) (K:Int->St->Prop) (h:CallT PR EU [.str s] [.one .bool] st (fun (b1:Bool) a=>BIf (!b1) (K 5 a) (BId ((1024:Int)<(s.length:Int)) (K 10 a) (K 0 a)))):CallT PR IR [.str s] [.one (.int .i64)] st K:=
 Ae (cfg:=⟨[],[],[]⟩) (h:= .none) mixed (fun _ _=>Tryz.call276 _ _) Tryz.func276 (by kernel_rfl) (by kernel_rfl) h
theorem HF (r:Nat) (width:Int) (st:St) (K:Int->St->Prop) (h:Ak (Af st [] (.t (.box r 0)) 0) (fun (x1:TV)=>As .str x1 (fun (s1:B8)=>BId ((s1.length:Int)<width) (stB st (.box r 1) [.bool true] (fun g=>K 0 g)) (∃(I1:Int->Int->TV->Int->Int->St->Prop) (M1:Int->Int->TV->Int->Int->St->Nat),(I1 0 0 ((.box r 0)) width width st)/\∀e c a b f d,I1 e c a b f d->(BId (c<f) (need (isPtr a) (need (isPtr a) (Ak (Af d [] (.t (AC a 0)) 0) (fun (x2:TV)=>As .str x2 (fun (s2:B8)=>((0<=c/\c<(s2.length:Int))/\BId (((List.getD s2 c.toNat 0).toNat:Int)<(48:Int)) (need (isPtr a) (need (isPtr a) (stB d (AC a 1) [.bool true] (fun i=>K 0 i)))) (need (isPtr a) (need (isPtr a) (Ak (Af d [] (.t (AC a 0)) 0) (fun (x3:TV)=>As .str x3 (fun (s3:B8)=>((0<=c/\c<(s3.length:Int))/\BId ((57:Int)<((List.getD s3 c.toNat 0).toNat:Int)) (need (isPtr a) (need (isPtr a) (stB d (AC a 1) [.bool true] (fun j=>K 0 j)))) (need (isPtr a) (need (isPtr a) (Ak (Af d [] (.t (AC a 0)) 0) (fun (x4:TV)=>As .str x4 (fun (s4:B8)=>((0<=c/\c<(s4.length:Int))/\(I1 ((i64.wrap ((i64.wrap ((10:Int)*e))+(i64.wrap (u8.wrap (((List.getD s4 c.toNat 0).toNat:Int)-(48:Int))))))) ((i64.wrap (c+(1:Int)))) a b f d/\M1 ((i64.wrap ((i64.wrap ((10:Int)*e))+(i64.wrap (u8.wrap (((List.getD s4 c.toNat 0).toNat:Int)-(48:Int))))))) ((i64.wrap (c+(1:Int)))) a b f d<M1 e c a b f d))))))))))))))))))) (need (isPtr a) (need (isPtr a) (Ak (Af d [] (.t (AC a 0)) 0) (fun (x5:TV)=>As .str x5 (fun (s5:B8)=>((0<=b/\b<=(s5.length:Int))/\need (isPtr a) (need (isPtr a) (stB d (AC a 0) [(.str (List.drop b.toNat s5))] (fun k=>K e k)))))))))))))):CallT PR Ay [(.box r 0),.int .i64 width] [.one (.int .i64)] st K:=
 Ae (cfg:=⟨[],[],[]⟩) (h:=(.seq .none (.seq .none (.seq .none (.seq (.seq .none (.block (.loop ⟨[(5,.int .i64),(18,.int .i64),(0,.tv),(1,.int .i64),(17,.int .i64)],[],[],[]⟩ .none))) .none))))) mixed (fun _ _=>Tryz.call285 _ _) Tryz.func285 (by kernel_rfl) (by kernel_rfl) h
theorem GW (r:Nat) (st:St) (K:Int->St->Prop) (h:∃(I1:Int->Int->TV->St->Prop) (M1:Int->Int->TV->St->Nat),(I1 0 0 ((.box r 0)) st)/\∀d b a c,I1 d b a c->(need (isPtr a) (need (isPtr a) (Ak (Af c [] (.t (AC a 0)) 0) (fun (x1:TV)=>As .str x1 (fun (s1:B8)=>BId (b<(s1.length:Int)) (need (isPtr a) (need (isPtr a) (Ak (Af c [] (.t (AC a 0)) 0) (fun (x2:TV)=>As .str x2 (fun (s2:B8)=>((0<=b/\b<(s2.length:Int))/\BId ((48:Int)<=((List.getD s2 b.toNat 0).toNat:Int)) (need (isPtr a) (need (isPtr a) (Ak (Af c [] (.t (AC a 0)) 0) (fun (x3:TV)=>As .str x3 (fun (s3:B8)=>((0<=b/\b<(s3.length:Int))/\BId (((List.getD s3 b.toNat 0).toNat:Int)<=(57:Int)) (BId (b<9) (need (isPtr a) (need (isPtr a) (Ak (Af c [] (.t (AC a 0)) 0) (fun (x4:TV)=>As .str x4 (fun (s4:B8)=>((0<=b/\b<(s4.length:Int))/\(I1 ((i64.wrap ((i64.wrap ((10:Int)*d))+(i64.wrap (u8.wrap (((List.getD s4 b.toNat 0).toNat:Int)-(48:Int))))))) ((i64.wrap (b+(1:Int)))) a c/\M1 ((i64.wrap ((i64.wrap ((10:Int)*d))+(i64.wrap (u8.wrap (((List.getD s4 b.toNat 0).toNat:Int)-(48:Int))))))) ((i64.wrap (b+(1:Int)))) a c<M1 d b a c))))))) ((I1 d ((i64.wrap (b+(1:Int)))) a c/\M1 d ((i64.wrap (b+(1:Int)))) a c<M1 d b a c))) (BId (b<1) (need (isPtr a) (need (isPtr a) (stB c (AC a 1) [.bool true] (fun w=>K 0 w)))) (BId ((9:Int)<b) (need (isPtr a) (need (isPtr a) (stB c (AC a 1) [.bool true] (fun x=>K 0 x)))) (need (isPtr a) (need (isPtr a) (Ak (Af c [] (.t (AC a 0)) 0) (fun (x5:TV)=>As .str x5 (fun (s5:B8)=>((0<=b/\b<=(s5.length:Int))/\need (isPtr a) (need (isPtr a) (stB c (AC a 0) [(.str (List.drop b.toNat s5))] (fun y=>∃(I2:Int->Int->St->Prop) (M2:Int->Int->St->Nat),(I2 d b y)/\∀n j f,I2 n j f->(BId (j<9) ((I2 ((i64.wrap (n*(10:Int)))) ((i64.wrap (j+(1:Int)))) f/\M2 ((i64.wrap (n*(10:Int)))) ((i64.wrap (j+(1:Int)))) f<M2 n j f)) (K n f))))))))))))))))))) (BId (b<1) (need (isPtr a) (need (isPtr a) (stB c (AC a 1) [.bool true] (fun s=>K 0 s)))) (BId ((9:Int)<b) (need (isPtr a) (need (isPtr a) (stB c (AC a 1) [.bool true] (fun v=>K 0 v)))) (need (isPtr a) (need (isPtr a) (Ak (Af c [] (.t (AC a 0)) 0) (fun (x6:TV)=>As .str x6 (fun (s6:B8)=>((0<=b/\b<=(s6.length:Int))/\need (isPtr a) (need (isPtr a) (stB c (AC a 0) [(.str (List.drop b.toNat s6))] (fun u=>∃(I3:Int->Int->St->Prop) (M3:Int->Int->St->Nat),(I3 d b u)/\∀m k l,I3 m k l->(BId (k<9) ((I3 ((i64.wrap (m*(10:Int)))) ((i64.wrap (k+(1:Int)))) l/\M3 ((i64.wrap (m*(10:Int)))) ((i64.wrap (k+(1:Int)))) l<M3 m k l)) (K m l))))))))))))))))))) (BId (b<1) (need (isPtr a) (need (isPtr a) (stB c (AC a 1) [.bool true] (fun o=>K 0 o)))) (BId ((9:Int)<b) (need (isPtr a) (need (isPtr a) (stB c (AC a 1) [.bool true] (fun q=>K 0 q)))) (need (isPtr a) (need (isPtr a) (Ak (Af c [] (.t (AC a 0)) 0) (fun (x7:TV)=>As .str x7 (fun (s7:B8)=>((0<=b/\b<=(s7.length:Int))/\need (isPtr a) (need (isPtr a) (stB c (AC a 0) [(.str (List.drop b.toNat s7))] (fun p=>∃(I4:Int->Int->St->Prop) (M4:Int->Int->St->Nat),(I4 d b p)/\∀g i e,I4 g i e->(BId (i<9) ((I4 ((i64.wrap (g*(10:Int)))) ((i64.wrap (i+(1:Int)))) e/\M4 ((i64.wrap (g*(10:Int)))) ((i64.wrap (i+(1:Int)))) e<M4 g i e)) (K g e))))))))))))))))))):CallT PR Cw [(.box r 0)] [.one (.int .i64)] st K:=
 Ae (cfg:=⟨[],[],[]⟩) (h:=(.seq .none (.seq .none (.seq (.block (.loop ⟨[(3,.int .i64),(4,.int .i64),(0,.tv)],[],[],[]⟩ .none)) (.seq .none (.seq .none (.seq (.block (.loop ⟨[(3,.int .i64),(4,.int .i64)],[],[],[]⟩ .none)) .none))))))) mixed (fun _ _=>Tryz.call286 _ _) Tryz.func286 (by kernel_rfl) (by kernel_rfl) h
theorem LC (year:Int) (st:St) (K:Bool->St->Prop) (h:BId ((1:Int)<=year) (K ((decide (year<=9999))) st) (K false st)):CallT PR DC [.int .i64 year] [.one .bool] st K:=
 Ae (cfg:=⟨[],[],[]⟩) (h:= .none) mixed (fun _ _=>Tryz.call287 _ _) Tryz.func287 (by kernel_rfl) (by kernel_rfl) h
theorem MV (year:Int) (st:St) (K:Bool->St->Prop) (h:CallT PR DC [.int .i64 year] [.one .bool] st (fun (b1:Bool) a=>BIf b1 (BId ((Int.tmod year (4:Int))=(0:Int)) (BId ((Int.tmod year (100:Int))≠(0:Int)) (K true a) (K ((decide ((Int.tmod year (400:Int))=(0:Int)))) a)) (K false a)) (K false a))):CallT PR Fn [.int .i64 year] [.one .bool] st K:=
 Ae (cfg:=⟨[],[],[]⟩) (h:= .none) mixed (fun _ _=>Tryz.call288 _ _) Tryz.func288 (by kernel_rfl) (by kernel_rfl) h
theorem Ik (r:Int) (st:St) (K:B8->Int->St->Prop) (h:CallT PR Cx [.int .i64 r] [.one .bool] st (fun (b1:Bool) a=>BIf (!b1) (K [] 2 a) (BId (r<128) (Ak ((toBytes a (.list 1 .full 1 [(.int .u8 (u8.wrap r))])).map TV.str) (fun (x1:TV)=>As .str x1 (fun (s1:B8)=>K s1 0 a))) (BId (r<2048) (Ak ((toBytes a (.list 1 .full 2 [(.int .u8 (u8.wrap (Au .or .i64 (192:Int) (Int.fdiv r (2^(min (Int.toNat (6:Int)) (IntKind.bits .i64))))))),(.int .u8 (u8.wrap (Au .or .i64 (128:Int) (Au .and .i64 r (63:Int)))))])).map TV.str) (fun (x2:TV)=>As .str x2 (fun (s2:B8)=>K s2 0 a))) (BId (r<65536) (Ak ((toBytes a (.list 1 .full 3 [(.int .u8 (u8.wrap (Au .or .i64 (224:Int) (Int.fdiv r (2^(min (Int.toNat (12:Int)) (IntKind.bits .i64))))))),(.int .u8 (u8.wrap (Au .or .i64 (128:Int) (Au .and .i64 (Int.fdiv r (2^(min (Int.toNat (6:Int)) (IntKind.bits .i64)))) (63:Int))))),(.int .u8 (u8.wrap (Au .or .i64 (128:Int) (Au .and .i64 r (63:Int)))))])).map TV.str) (fun (x3:TV)=>As .str x3 (fun (s3:B8)=>K s3 0 a))) (Ak ((toBytes a (.list 1 .full 4 [(.int .u8 (u8.wrap (Au .or .i64 (240:Int) (Int.fdiv r (2^(min (Int.toNat (18:Int)) (IntKind.bits .i64))))))),(.int .u8 (u8.wrap (Au .or .i64 (128:Int) (Au .and .i64 (Int.fdiv r (2^(min (Int.toNat (12:Int)) (IntKind.bits .i64)))) (63:Int))))),(.int .u8 (u8.wrap (Au .or .i64 (128:Int) (Au .and .i64 (Int.fdiv r (2^(min (Int.toNat (6:Int)) (IntKind.bits .i64)))) (63:Int))))),(.int .u8 (u8.wrap (Au .or .i64 (128:Int) (Au .and .i64 r (63:Int)))))])).map TV.str) (fun (x4:TV)=>As .str x4 (fun (s4:B8)=>K s4 0 a)))))))):CallT PR B9 [.int .i64 r] [.one .str,.one (.int .i64)] st K:=
 Ae (cfg:=⟨[],[],[]⟩) (h:= .none) mixed (fun _ _=>Tryz.call290 _ _) Tryz.func290 (by kernel_rfl) (by kernel_rfl) h
theorem Jq (s:B8) (st:St) (K:Bool->St->Prop) (h:BId ((s.length:Int)<=(600:Int)) (CallT PR Dg [.str s] [.one .bool] st (fun (b1:Bool) a=>BIf b1 (BId ((s.length:Int)=(0:Int)) (K true a) (((0<=(0:Int)/\(0:Int)<(s.length:Int))/\K ((decide (((List.getD s (Int.toNat (0:Int)) 0).toNat:Int)≠(48:Int)))) a))) (K false a))) (K false st)):CallT PR Cr [.str s] [.one .bool] st K:=
 Ae (cfg:=⟨[],[],[]⟩) (h:= .none) mixed (fun _ _=>Tryz.call291 _ _) Tryz.func291 (by kernel_rfl) (by kernel_rfl) h
theorem JL (year:Int) (st:St) (K:Bool->St->Prop) (h:BId ((1:Int)<=year) (BId (year<=9999) (BId ((Int.tmod year (4:Int))=(0:Int)) (BId ((Int.tmod year (100:Int))≠(0:Int)) (K true st) (K ((decide ((Int.tmod year (400:Int))=(0:Int)))) st)) (K ((decide ((Int.tmod year (400:Int))=(0:Int)))) st)) (K false st)) (K false st)):CallT PR Br [.int .i64 year] [.one .bool] st K:=
 Ae (cfg:=⟨[],[],[]⟩) (h:= .none) mixed (fun _ _=>Tryz.call292 _ _) Tryz.func292 (by kernel_rfl) (by kernel_rfl) h
theorem PT (s:B8) (st:St) (K:Bool->St->Prop) (h:∃(I1:Int->B8->Int->St->Prop) (M1:Int->B8->Int->St->Nat),(I1 0 s ((s.length:Int)) st)/\∀a b d c,I1 a b d c->(BId (a<d) (((0<=a/\a<(b.length:Int))/\BId (((List.getD b a.toNat 0).toNat:Int)<(48:Int)) (K false c) (((0<=a/\a<(b.length:Int))/\BId ((57:Int)<((List.getD b a.toNat 0).toNat:Int)) (K false c) ((I1 ((i64.wrap (a+(1:Int)))) b d c/\M1 ((i64.wrap (a+(1:Int)))) b d c<M1 a b d c)))))) (K true c))):CallT PR Hr [.str s] [.one .bool] st K:=
 Ae (cfg:=⟨[],[],[]⟩) (h:=(.seq .none (.seq (.seq .none (.block (.loop ⟨[(6,.int .i64),(0,.str),(5,.int .i64)],[],[],[]⟩ .none))) .none))) mixed (fun _ _=>Tryz.call293 _ _) Tryz.func293 (by kernel_rfl) (by kernel_rfl) h
theorem FP (b:Nat) (st:St) (K:St->Prop) (h:Ak (Af st [] (.t (.box b 0)) 0) (fun (v1:TV)=>need (UA v1) (BIf (FT v1) (((Af st [] (.t (.box b 0)) 0).isSome=true/\CallT PR I9 [(.box b 0)] [.one .tv] st (fun (v2:TV) a=>unsK 199 2 v2 a (fun (v3:TV)=>need (List.all [v3] Ar) (stB a (.box b 0) [v3] (fun c=>K c)))))) (Ak (Af st [] (.t (.box b 0)) 0) (fun (v4:TV)=>(v4=(.box b 0)/\K st)))))):CallT PR Bn [(.box b 0)] [] st K:=
 Ae (cfg:=⟨[],[],[]⟩) (h:= .none) mixed (fun _ _=>Tryz.call296 _ _) Tryz.func296 (by kernel_rfl) (by kernel_rfl) h
theorem LA (b:TV) (st:St) (K:St->Prop) (h:need (isSl b) (∃(I1:Int->Int->TV->St->Prop) (M1:Int->Int->TV->St->Nat),(I1 0 ((i64.wrap ((lenS b:Int)-(1:Int)))) b st)/\∀d c a e,I1 d c a e->(BId (d<c) (((0<=c/\c<(lenZ 1 a:Int))/\Ak (Af e [] (.t (ixT 1 a c.toNat)) 0) (fun (x1:TV)=>As (.int .u8) x1 (fun (n1:Int)=>((0<=d/\d<(lenZ 1 a:Int))/\Ak (Af e [] (.t (ixT 1 a d.toNat)) 0) (fun (x2:TV)=>As (.int .u8) x2 (fun (n2:Int)=>((0<=d/\d<(lenZ 1 a:Int))/\stB e (ixT 1 a d.toNat) [.int .u8 n1] (fun g=>((0<=c/\c<(lenZ 1 a:Int))/\stB g (ixT 1 a c.toNat) [.int .u8 n2] (fun f=>(I1 ((i64.wrap (d+(1:Int)))) ((i64.wrap (c-(1:Int)))) a f/\M1 ((i64.wrap (d+(1:Int)))) ((i64.wrap (c-(1:Int)))) a f<M1 d c a e)))))))))))) (K e)))):CallT PR EW [b] [] st K:=
 Ae (cfg:=⟨[],[],[]⟩) (h:=(.seq .none (.block (.loop ⟨[(2,.int .i64),(3,.int .i64),(0,.tv)],[],[],[]⟩ .none)))) mixed (fun _ _=>Tryz.call298 _ _) Tryz.func298 (by kernel_rfl) (by kernel_rfl) h
theorem LE (n:Int) (st:St) (K:Bool->St->Prop) (h:BId ((0:Int)<=n) (K ((decide (n<=3652058))) st) (K false st)):CallT PR Hc [.int .i64 n] [.one .bool] st K:=
 Ae (cfg:=⟨[],[],[]⟩) (h:= .none) mixed (fun _ _=>Tryz.call299 _ _) Tryz.func299 (by kernel_rfl) (by kernel_rfl) h
theorem Ch (data:TV) (n:Int) (cmp:TV) (st:St) (K:St->Prop) (h:∃(I1:Int->Int->TV->Int->TV->Int->St->Prop) (M1:Int->Int->TV->Int->TV->Int->St->Nat),(I1 0 20 data n cmp 20 st)/\∀t k f p g b u,I1 t k f p g b u->(BId (k<=p) (CallT PR AN [f,.int .i64 t,.int .i64 k,g] [] u (fun (x:St)=>(I1 k ((i64.wrap (k+b))) f p g b x/\M1 k ((i64.wrap (k+b))) f p g b x<M1 t k f p g b u))) (CallT PR AN [f,.int .i64 t,.int .i64 p,g] [] u (fun (y:St)=>∃(I2:Int->TV->Int->TV->St->Prop) (M2:Int->TV->Int->TV->St->Nat),(I2 b f p g y)/\∀c j s m r,I2 c j s m r->(BId (c<s) (∃(I3:Int->Int->TV->Int->TV->Int->St->Prop) (M3:Int->Int->TV->Int->TV->Int->St->Nat),(I3 0 ((i64.wrap ((2:Int)*c))) j s m c r)/\∀o l d i e a q,I3 o l d i e a q->(BId (l<=i) (CallT PR Ag [d,.int .i64 o,(.int .i64 (i64.wrap (o+a))),.int .i64 l,e] [] q (fun (v:St)=>(I3 l ((i64.wrap (l+(i64.wrap ((2:Int)*a))))) d i e a v/\M3 l ((i64.wrap (l+(i64.wrap ((2:Int)*a))))) d i e a v<M3 o l d i e a q))) (BId ((i64.wrap (o+a))<i) (CallT PR Ag [d,.int .i64 o,(.int .i64 (i64.wrap (o+a))),.int .i64 i,e] [] q (fun (w:St)=>(I2 ((i64.wrap (a*(2:Int)))) d i e w/\M2 ((i64.wrap (a*(2:Int)))) d i e w<M2 c j s m r))) ((I2 ((i64.wrap (a*(2:Int)))) d i e q/\M2 ((i64.wrap (a*(2:Int)))) d i e q<M2 c j s m r))))) (K r)))))):CallT PR AZ [data,.int .i64 n,cmp] [] st K:=
 Ae (cfg:=⟨[],[],[]⟩) (h:=(.seq .none (.seq .none (.seq (.block (.loop ⟨[(7,.int .i64),(8,.int .i64),(0,.tv),(1,.int .i64),(2,.tv),(6,.int .i64)],[],[],[]⟩ .none)) (.seq .none (.block (.loop ⟨[(6,.int .i64),(0,.tv),(1,.int .i64),(2,.tv)],[],[],[]⟩ (.seq .none (.block (.seq .none (.seq (.block (.loop ⟨[(7,.int .i64),(8,.int .i64),(0,.tv),(1,.int .i64),(2,.tv),(6,.int .i64)],[],[],[]⟩ .none)) .none))))))))))) mixed (fun _ _=>Tryz.call301 _ _) Tryz.func301 (by kernel_rfl) (by kernel_rfl) h
theorem OG (b:Int) (st:St) (K:Int->St->Prop) (h:∃(C1:Bool->Int->Int->St->Prop),(BId (b=34) (C1 ((decide (b=34))) b b st) (C1 ((decide (b=92))) b b st))/\∀e d c a,C1 e d c a->(BIf e (K d a) (BId (c=8) (K 98 a) (BId (c=12) (K 102 a) (BId (c=10) (K 110 a) (BId (c=13) (K 114 a) (BId (c=9) (K 116 a) (K 0 a)))))))):CallT PR EY [.int .u8 b] [.one (.int .u8)] st K:=
 Ae (cfg:=⟨[],[],[]⟩) (h:=(.seq .none (.seq (.seq .none (.block (.cut ⟨[(4,.bool),(0,.int .u8),(3,.int .u8)],[],[],[]⟩ .none .none))) .none))) mixed (fun _ _=>Tryz.call303 _ _) Tryz.func303 (by kernel_rfl) (by kernel_rfl) h
theorem Sn (b:Int) (st:St) (K:Int->Int->St->Prop) (h:BId (b<128) (K 1 ((i64.wrap b)) st) (BId ((192:Int)<=b) (BId (b<224) (K 2 ((i64.wrap (Au .and .u8 b (31:Int)))) st) (BId ((224:Int)<=b) (BId (b<240) (K 3 ((i64.wrap (Au .and .u8 b (15:Int)))) st) (BId ((240:Int)<=b) (BId (b<248) (K 4 ((i64.wrap (Au .and .u8 b (7:Int)))) st) (K 0 0 st)) (K 0 0 st))) (BId ((240:Int)<=b) (BId (b<248) (K 4 ((i64.wrap (Au .and .u8 b (7:Int)))) st) (K 0 0 st)) (K 0 0 st)))) (BId ((224:Int)<=b) (BId (b<240) (K 3 ((i64.wrap (Au .and .u8 b (15:Int)))) st) (BId ((240:Int)<=b) (BId (b<248) (K 4 ((i64.wrap (Au .and .u8 b (7:Int)))) st) (K 0 0 st)) (K 0 0 st))) (BId ((240:Int)<=b) (BId (b<248) (K 4 ((i64.wrap (Au .and .u8 b (7:Int)))) st) (K 0 0 st)) (K 0 0 st))))):CallT PR J9 [.int .u8 b] [.one (.int .i64),.one (.int .i64)] st K:=
 Ae (cfg:=⟨[],[],[]⟩) (h:= .none) mixed (fun _ _=>Tryz.call304 _ _) Tryz.func304 (by kernel_rfl) (by kernel_rfl) h
theorem PP (r:Int) (st:St) (K:Bool->St->Prop) (h:BId ((0:Int)<=r) (BId (r<=1114111) (BId (r<55296) (K true st) (K ((decide ((57343:Int)<r))) st)) (K false st)) (K false st)):CallT PR Hp [.int .i64 r] [.one .bool] st K:=
 Ae (cfg:=⟨[],[],[]⟩) (h:= .none) mixed (fun _ _=>Tryz.call305 _ _) Tryz.func305 (by kernel_rfl) (by kernel_rfl) h
theorem Q7 (r:Int) (st:St) (K:Int->St->Prop) (h:BId (r<128) (K 1 st) (BId (r<2048) (K 2 st) (BId (r<65536) (K 3 st) (K 4 st)))):CallT PR IS [.int .i64 r] [.one (.int .i64)] st K:=
 Ae (cfg:=⟨[],[],[]⟩) (h:= .none) mixed (fun _ _=>Tryz.call306 _ _) Tryz.func306 (by kernel_rfl) (by kernel_rfl) h
theorem MX (c:Int) (free0:TV) (st:St) (K:Int->St->Prop) (h:Ak (Af st [] (.t free0) 0) (fun (x1:TV)=>As .str x1 (fun (s1:B8)=>∃(I1:Int->Int->TV->Int->St->Prop) (M1:Int->Int->TV->Int->St->Nat),(I1 0 c free0 ((s1.length:Int)) st)/\∀a f d e b,I1 a f d e b->(BId (a<e) (Ak (Af b [] (.t d) 0) (fun (x2:TV)=>As .str x2 (fun (s2:B8)=>((0<=a/\a<(s2.length:Int))/\BId (((List.getD s2 a.toNat 0).toNat:Int)=f) (K a b) ((I1 ((i64.wrap (a+(1:Int)))) f d e b/\M1 ((i64.wrap (a+(1:Int)))) f d e b<M1 a f d e b)))))) (K (-1) b))))):CallT PR Fp [.int .u8 c,free0] [.one (.int .i64)] st K:=
 Ae (cfg:=⟨[],[],[]⟩) (h:=(.seq .none (.seq (.seq .none (.block (.loop ⟨[(7,.int .i64),(0,.int .u8),(1,.tv),(6,.int .i64)],[],[],[]⟩ .none))) .none))) mixed (fun _ _=>Tryz.call307 _ _) Tryz.func307 (by kernel_rfl) (by kernel_rfl) h
theorem H8 (s:B8) (st:St) (K:Int->Int->St->Prop) (h:∃(I1:Int->B8->B8->B8->St->Prop) (M1:Int->B8->B8->B8->St->Nat),(I1 0 s str19 str18 st)/\∀d a b e c,I1 d a b e c->(BId (d<(b.length:Int)) (BId ((0:Int)<(a.length:Int)) (((0<=(0:Int)/\(0:Int)<(a.length:Int))/\((0<=d/\d<(b.length:Int))/\BId (((List.getD a (Int.toNat (0:Int)) 0).toNat:Int)=((List.getD b d.toNat 0).toNat:Int)) (((0<=d/\d<(e.length:Int))/\K (((List.getD e d.toNat 0).toNat:Int)) 1 c)) ((I1 ((i64.wrap (d+(1:Int)))) a b e c/\M1 ((i64.wrap (d+(1:Int)))) a b e c<M1 d a b e c))))) (BId ((5:Int)<=(a.length:Int)) (((0<=(3:Int)/\(3:Int)<=(a.length:Int))/\BId ((List.take (Int.toNat (3:Int)) a)=Xj) (((0<=(3:Int)/\(3:Int)<(a.length:Int))/\CallT PR AO [(.int .u8 ((List.getD a (Int.toNat (3:Int)) 0).toNat:Int))] [.one (.int .i64)] c (fun (n1:Int) i=>BId ((0:Int)<=n1) (((0<=(4:Int)/\(4:Int)<(a.length:Int))/\CallT PR AO [(.int .u8 ((List.getD a (Int.toNat (4:Int)) 0).toNat:Int))] [.one (.int .i64)] i (fun (n2:Int) j=>BId ((0:Int)<=n2) (((0<=(3:Int)/\(3:Int)<(a.length:Int))/\((0<=(4:Int)/\(4:Int)<(a.length:Int))/\CallT PR AO [(.int .u8 ((List.getD a (Int.toNat (3:Int)) 0).toNat:Int))] [.one (.int .i64)] j (fun (n3:Int) m=>CallT PR AO [(.int .u8 ((List.getD a (Int.toNat (4:Int)) 0).toNat:Int))] [.one (.int .i64)] m (fun (n4:Int) n=>K ((u8.wrap (i64.wrap ((i64.wrap ((16:Int)*n3))+n4)))) 5 n))))) (K 0 0 j)))) (K 0 0 i)))) (K 0 0 c))) (K 0 0 c))) (BId ((5:Int)<=(a.length:Int)) (((0<=(3:Int)/\(3:Int)<=(a.length:Int))/\BId ((List.take (Int.toNat (3:Int)) a)=Xj) (((0<=(3:Int)/\(3:Int)<(a.length:Int))/\CallT PR AO [(.int .u8 ((List.getD a (Int.toNat (3:Int)) 0).toNat:Int))] [.one (.int .i64)] c (fun (n5:Int) f=>BId ((0:Int)<=n5) (((0<=(4:Int)/\(4:Int)<(a.length:Int))/\CallT PR AO [(.int .u8 ((List.getD a (Int.toNat (4:Int)) 0).toNat:Int))] [.one (.int .i64)] f (fun (n6:Int) g=>BId ((0:Int)<=n6) (((0<=(3:Int)/\(3:Int)<(a.length:Int))/\((0<=(4:Int)/\(4:Int)<(a.length:Int))/\CallT PR AO [(.int .u8 ((List.getD a (Int.toNat (3:Int)) 0).toNat:Int))] [.one (.int .i64)] g (fun (n7:Int) l=>CallT PR AO [(.int .u8 ((List.getD a (Int.toNat (4:Int)) 0).toNat:Int))] [.one (.int .i64)] l (fun (n8:Int) k=>K ((u8.wrap (i64.wrap ((i64.wrap ((16:Int)*n7))+n8)))) 5 k))))) (K 0 0 g)))) (K 0 0 f)))) (K 0 0 c))) (K 0 0 c)))):CallT PR C0 [.str s] [.one (.int .u8),.one (.int .i64)] st K:=
 Ae (cfg:=⟨[],[],[]⟩) (h:=(.seq .none (.seq .none (.seq (.seq .none (.block (.loop ⟨[(6,.int .i64),(0,.str),(4,.str),(5,.str)],[],[],[]⟩ .none))) .none)))) mixed (fun _ _=>Tryz.call308 _ _) Tryz.func308 (by kernel_rfl) (by kernel_rfl) h
theorem JI (s:B8) (c:Int) (st:St) (K:Int->St->Prop) (h:∃(I1:Int->B8->Int->St->Prop) (M1:Int->B8->Int->St->Nat),(I1 0 s c st)/\∀a b e d,I1 a b e d->(BId (a<(b.length:Int)) (((0<=a/\a<(b.length:Int))/\BId (((List.getD b a.toNat 0).toNat:Int)=e) (K a d) ((I1 ((i64.wrap (a+(1:Int)))) b e d/\M1 ((i64.wrap (a+(1:Int)))) b e d<M1 a b e d)))) (K (-1) d))):CallT PR CF [.str s,.int .u8 c] [.one (.int .i64)] st K:=
 Ae (cfg:=⟨[],[],[]⟩) (h:=(.seq .none (.seq (.seq .none (.block (.loop ⟨[(5,.int .i64),(0,.str),(1,.int .u8)],[],[],[]⟩ .none))) .none))) mixed (fun _ _=>Tryz.call309 _ _) Tryz.func309 (by kernel_rfl) (by kernel_rfl) h
theorem Jf (s:B8) (st:St) (K:TV->St->Prop) (h:((0<=(i64.wrap (Int.tdiv (i64.wrap ((s.length:Int)*(6:Int))) (8:Int)))/\(i64.wrap (Int.tdiv (i64.wrap ((s.length:Int)*(6:Int))) (8:Int)))<=(i64.wrap (Int.tdiv (i64.wrap ((s.length:Int)*(6:Int))) (8:Int)))/\Int.toNat (i64.wrap (Int.tdiv (i64.wrap ((s.length:Int)*(6:Int))) (8:Int)))*1<=140737488355328)/\∃(I1:Int->B8->TV->St->Prop) (M1:Int->B8->TV->St->Nat),(I1 0 s ((.ms 1 st.nb 0 (Int.toNat (i64.wrap (Int.tdiv (i64.wrap ((s.length:Int)*(6:Int))) (8:Int)))) (Int.toNat (i64.wrap (Int.tdiv (i64.wrap ((s.length:Int)*(6:Int))) (8:Int)))))) (st.push (.cells (FO [.int .u8 0] (Int.toNat (i64.wrap (Int.tdiv (i64.wrap ((s.length:Int)*(6:Int))) (8:Int)))*1))) (some 5)))/\∀b c a d,I1 b c a d->(need (isSl a) (BId (b<(i64.wrap ((8:Int)*(lenS a:Int)))) (((0<=(i64.wrap (Int.tdiv b (6:Int)))/\(i64.wrap (Int.tdiv b (6:Int)))<(c.length:Int))/\CallT PR CF [.str OR,(.int .u8 ((List.getD c (Int.toNat (i64.wrap (Int.tdiv b (6:Int)))) 0).toNat:Int))] [.one (.int .i64)] d (fun (n1:Int) e=>((0<=(i64.wrap (Int.tdiv b (8:Int)))/\(i64.wrap (Int.tdiv b (8:Int)))<(lenZ 1 a:Int))/\Ak (Af e [] (.t (ixT 1 a (Int.toNat (i64.wrap (Int.tdiv b (8:Int)))))) 0) (fun (x1:TV)=>As (.int .u8) x1 (fun (n2:Int)=>need (decide (0<=(IntKind.u64.wrap (i64.wrap ((5:Int)-(Int.tmod b (6:Int))))))) (need (decide (0<=(IntKind.u64.wrap (i64.wrap ((7:Int)-(Int.tmod b (8:Int))))))) (((0<=(i64.wrap (Int.tdiv b (8:Int)))/\(i64.wrap (Int.tdiv b (8:Int)))<(lenZ 1 a:Int))/\stB e (ixT 1 a (Int.toNat (i64.wrap (Int.tdiv b (8:Int))))) [(.int .u8 (Au .or .u8 n2 (u8.wrap ((u8.wrap (Au .and .i64 (Int.fdiv n1 (2^(min (Int.toNat (IntKind.u64.wrap (i64.wrap ((5:Int)-(Int.tmod b (6:Int)))))) (IntKind.bits .i64)))) (1:Int)))*2^(min (Int.toNat (IntKind.u64.wrap (i64.wrap ((7:Int)-(Int.tmod b (8:Int)))))) (IntKind.bits .u8))))))] (fun f=>(I1 ((i64.wrap (b+(1:Int)))) c a f/\M1 ((i64.wrap (b+(1:Int)))) c a f<M1 b c a d))))))))))) (K a d))))):CallT PR BH [.str s] [.one .tv] st K:=
 Ae (cfg:=⟨[],[10],[]⟩) (h:=(.seq .none (.seq .none (.seq (.seq .none (.block (.loop ⟨[(4,.int .i64),(0,.str),(3,.tv)],[],[],[]⟩ .none))) .none)))) mixed (fun _ _=>Tryz.call310 _ _) Tryz.func310 (by kernel_rfl) (by kernel_rfl) h
theorem GZ (r:Int) (st:St) (K:Bool->St->Prop) (h:BId ((0:Int)<=r) (BId (r<=1114111) (BId (r<55296) (K true st) (K ((decide ((57343:Int)<r))) st)) (K false st)) (K false st)):CallT PR Cx [.int .i64 r] [.one .bool] st K:=
 Ae (cfg:=⟨[],[],[]⟩) (h:= .none) mixed (fun _ _=>Tryz.call318 _ _) Tryz.func318 (by kernel_rfl) (by kernel_rfl) h
theorem Io (s:B8) (st:St) (K:Bool->St->Prop) (h:∃(I1:Int->B8->St->Prop) (M1:Int->B8->St->Nat),(I1 0 s st)/\∀a b c,I1 a b c->(BId (a<(b.length:Int)) (((0<=a/\a<(b.length:Int))/\BId (((List.getD b a.toNat 0).toNat:Int)<(48:Int)) (K false c) (((0<=a/\a<(b.length:Int))/\BId ((57:Int)<((List.getD b a.toNat 0).toNat:Int)) (K false c) ((I1 ((i64.wrap (a+(1:Int)))) b c/\M1 ((i64.wrap (a+(1:Int)))) b c<M1 a b c)))))) (K true c))):CallT PR Dg [.str s] [.one .bool] st K:=
 Ae (cfg:=⟨[],[],[]⟩) (h:=(.seq .none (.seq (.seq .none (.block (.loop ⟨[(3,.int .i64),(0,.str)],[],[],[]⟩ .none))) .none))) mixed (fun _ _=>Tryz.call319 _ _) Tryz.func319 (by kernel_rfl) (by kernel_rfl) h
theorem BF (data:TV) (a:Int) (b:Int) (cmp:TV) (st:St) (K:St->Prop) (h:∃(I1:Int->TV->Int->Int->TV->St->Prop) (M1:Int->TV->Int->Int->TV->St->Nat),(I1 ((i64.wrap (a+(1:Int)))) data a b cmp st)/\∀m f q n k p,I1 m f q n k p->(BId (m<n) (∃(I2:Int->TV->Int->Int->TV->Int->St->Prop) (M2:Int->TV->Int->Int->TV->Int->St->Nat),(I2 m f q n k m p)/\∀d c g j e i l,I2 d c g j e i l->(BId (g<d) (((0<=d/\d<(lenZ 14 c:Int))/\Ak ((Al l [] (.t (ixT 14 c d.toNat)) 0 14).map TV.agg) (fun (x1:TV)=>B4 [.str,.int .i64,.bool,.bool,.str,.int .i64,.int .i64,.int .i64,.int .i64,.int .i64,.str,.tv,.tv,.tv] x1 (fun (s1:B8) (n1:Int) (b1 b2:Bool) (s2:B8) (n2 n3 n4 n5 n6:Int) (s3:B8) (v1 v2 v3:TV)=>((0<=(i64.wrap (d-(1:Int)))/\(i64.wrap (d-(1:Int)))<(lenZ 14 c:Int))/\Ak ((Al l [] (.t (ixT 14 c (Int.toNat (i64.wrap (d-(1:Int)))))) 0 14).map TV.agg) (fun (x2:TV)=>B4 [.str,.int .i64,.bool,.bool,.str,.int .i64,.int .i64,.int .i64,.int .i64,.int .i64,.str,.tv,.tv,.tv] x2 (fun (s4:B8) (n7:Int) (b3 b4:Bool) (s5:B8) (n8 n9 c1 c3 b9:Int) (s6:B8) (v4 v5 v6:TV)=>He PR e [(.agg [.str s1,.int .i64 n1,.bool b1,.bool b2,.str s2,.int .i64 n2,.int .i64 n3,.int .i64 n4,.int .i64 n5,.int .i64 n6,.str s3,v1,v2,v3]),(.agg [.str s4,.int .i64 n7,.bool b3,.bool b4,.str s5,.int .i64 n8,.int .i64 n9,.int .i64 c1,.int .i64 c3,.int .i64 b9,.str s6,v4,v5,v6])] [.one (.int .i64)] l (fun (c0:Int) o=>BId (c0<0) (((0<=(i64.wrap (d-(1:Int)))/\(i64.wrap (d-(1:Int)))<(lenZ 14 c:Int))/\Ak ((Al o [] (.t (ixT 14 c (Int.toNat (i64.wrap (d-(1:Int)))))) 0 14).map TV.agg) (fun (x3:TV)=>B4 [.str,.int .i64,.bool,.bool,.str,.int .i64,.int .i64,.int .i64,.int .i64,.int .i64,.str,.tv,.tv,.tv] x3 (fun (s7:B8) (s:Int) (b5 b6:Bool) (s8:B8) (r a6 a1 u b0:Int) (s9:B8) (v7 v8 v9:TV)=>((0<=d/\d<(lenZ 14 c:Int))/\Ak ((Al o [] (.t (ixT 14 c d.toNat)) 0 14).map TV.agg) (fun (x4:TV)=>B4 [.str,.int .i64,.bool,.bool,.str,.int .i64,.int .i64,.int .i64,.int .i64,.int .i64,.str,.tv,.tv,.tv] x4 (fun (a7:B8) (y:Int) (b7 b8:Bool) (a4:B8) (a0 a8 a9 z a3:Int) (a2:B8) (a5 x v:TV)=>((0<=d/\d<(lenZ 14 c:Int))/\need (List.all [.str s7,.int .i64 s,.bool b5,.bool b6,.str s8,.int .i64 r,.int .i64 a6,.int .i64 a1,.int .i64 u,.int .i64 b0,.str s9,v7,v8,v9] Ar) (stB o (ixT 14 c d.toNat) [.str s7,.int .i64 s,.bool b5,.bool b6,.str s8,.int .i64 r,.int .i64 a6,.int .i64 a1,.int .i64 u,.int .i64 b0,.str s9,v7,v8,v9] (fun c2=>((0<=(i64.wrap (d-(1:Int)))/\(i64.wrap (d-(1:Int)))<(lenZ 14 c:Int))/\need (List.all [.str a7,.int .i64 y,.bool b7,.bool b8,.str a4,.int .i64 a0,.int .i64 a8,.int .i64 a9,.int .i64 z,.int .i64 a3,.str a2,a5,x,v] Ar) (stB c2 (ixT 14 c (Int.toNat (i64.wrap (d-(1:Int))))) [.str a7,.int .i64 y,.bool b7,.bool b8,.str a4,.int .i64 a0,.int .i64 a8,.int .i64 a9,.int .i64 z,.int .i64 a3,.str a2,a5,x,v] (fun w=>(I2 ((i64.wrap (d-(1:Int)))) c g j e i w/\M2 ((i64.wrap (d-(1:Int)))) c g j e i w<M2 d c g j e i l)))))))))))))) ((I1 ((i64.wrap (i+(1:Int)))) c g j e o/\M1 ((i64.wrap (i+(1:Int)))) c g j e o<M1 m f q n k p)))))))))) ((I1 ((i64.wrap (i+(1:Int)))) c g j e l/\M1 ((i64.wrap (i+(1:Int)))) c g j e l<M1 m f q n k p)))) (K p))):CallT PR AN [data,.int .i64 a,.int .i64 b,cmp] [] st K:=
 Ae (cfg:=⟨[],[],[26,31]⟩) (h:=(.seq .none (.block (.loop ⟨[(8,.int .i64),(0,.tv),(1,.int .i64),(2,.int .i64),(3,.tv)],[],[],[]⟩ (.seq .none (.seq (.block (.seq .none (.block (.loop ⟨[(9,.int .i64),(0,.tv),(1,.int .i64),(2,.int .i64),(3,.tv),(8,.int .i64)],[],[],[]⟩ .none)))) .none)))))) mixed (fun _ _=>Tryz.call322 _ _) Tryz.func322 (by kernel_rfl) (by kernel_rfl) h
theorem Be (data:TV) (a:Int) (m:Int) (b:Int) (cmp:TV) (st:St) (K:St->Prop) (h:BId ((i64.wrap (m-a))=(1:Int)) (∃(I1:Int->Int->TV->Int->TV->St->Prop) (M1:Int->Int->TV->Int->TV->St->Nat),(I1 m b data a cmp st)/\∀s y n a0 u a5,I1 s y n a0 u a5->(BId (s<y) (((0<=(i64.wrap (Int.fdiv (IntKind.u64.wrap (i64.wrap (s+y))) (2^(min (Int.toNat (1:Int)) (IntKind.bits .u64)))))/\(i64.wrap (Int.fdiv (IntKind.u64.wrap (i64.wrap (s+y))) (2^(min (Int.toNat (1:Int)) (IntKind.bits .u64)))))<(lenZ 14 n:Int))/\Ak ((Al a5 [] (.t (ixT 14 n (Int.toNat (i64.wrap (Int.fdiv (IntKind.u64.wrap (i64.wrap (s+y))) (2^(min (Int.toNat (1:Int)) (IntKind.bits .u64)))))))) 0 14).map TV.agg) (fun (x1:TV)=>B4 [.str,.int .i64,.bool,.bool,.str,.int .i64,.int .i64,.int .i64,.int .i64,.int .i64,.str,.tv,.tv,.tv] x1 (fun (s1:B8) (n1:Int) (b1 b2:Bool) (s2:B8) (n2 n3 n4 n5 n6:Int) (s3:B8) (v1 v2 v3:TV)=>((0<=a0/\a0<(lenZ 14 n:Int))/\Ak ((Al a5 [] (.t (ixT 14 n a0.toNat)) 0 14).map TV.agg) (fun (x2:TV)=>B4 [.str,.int .i64,.bool,.bool,.str,.int .i64,.int .i64,.int .i64,.int .i64,.int .i64,.str,.tv,.tv,.tv] x2 (fun (s4:B8) (n7:Int) (b3 b4:Bool) (s5:B8) (n8 n9 p8 k7 j9:Int) (s6:B8) (v4 v5 v6:TV)=>He PR u [(.agg [.str s1,.int .i64 n1,.bool b1,.bool b2,.str s2,.int .i64 n2,.int .i64 n3,.int .i64 n4,.int .i64 n5,.int .i64 n6,.str s3,v1,v2,v3]),(.agg [.str s4,.int .i64 n7,.bool b3,.bool b4,.str s5,.int .i64 n8,.int .i64 n9,.int .i64 p8,.int .i64 k7,.int .i64 j9,.str s6,v4,v5,v6])] [.one (.int .i64)] a5 (fun (m0:Int) c6=>BId (m0<0) ((I1 ((i64.wrap ((i64.wrap (Int.fdiv (IntKind.u64.wrap (i64.wrap (s+y))) (2^(min (Int.toNat (1:Int)) (IntKind.bits .u64)))))+(1:Int)))) y n a0 u c6/\M1 ((i64.wrap ((i64.wrap (Int.fdiv (IntKind.u64.wrap (i64.wrap (s+y))) (2^(min (Int.toNat (1:Int)) (IntKind.bits .u64)))))+(1:Int)))) y n a0 u c6<M1 s y n a0 u a5)) ((I1 s ((i64.wrap (Int.fdiv (IntKind.u64.wrap (i64.wrap (s+y))) (2^(min (Int.toNat (1:Int)) (IntKind.bits .u64)))))) n a0 u c6/\M1 s ((i64.wrap (Int.fdiv (IntKind.u64.wrap (i64.wrap (s+y))) (2^(min (Int.toNat (1:Int)) (IntKind.bits .u64)))))) n a0 u c6<M1 s y n a0 u a5)))))))))) (∃(I2:Int->TV->Int->St->Prop) (M2:Int->TV->Int->St->Nat),(I2 a0 n s a5)/\∀q j c0 a7,I2 q j c0 a7->(BId (q<(i64.wrap (c0-(1:Int)))) (((0<=(i64.wrap (q+(1:Int)))/\(i64.wrap (q+(1:Int)))<(lenZ 14 j:Int))/\Ak ((Al a7 [] (.t (ixT 14 j (Int.toNat (i64.wrap (q+(1:Int)))))) 0 14).map TV.agg) (fun (x3:TV)=>B4 [.str,.int .i64,.bool,.bool,.str,.int .i64,.int .i64,.int .i64,.int .i64,.int .i64,.str,.tv,.tv,.tv] x3 (fun (s7:B8) (h1:Int) (b5 b6:Bool) (s8:B8) (g0 f3 h9 e7 g8:Int) (s9:B8) (v7 v8 v9:TV)=>((0<=q/\q<(lenZ 14 j:Int))/\Ak ((Al a7 [] (.t (ixT 14 j q.toNat)) 0 14).map TV.agg) (fun (x4:TV)=>B4 [.str,.int .i64,.bool,.bool,.str,.int .i64,.int .i64,.int .i64,.int .i64,.int .i64,.str,.tv,.tv,.tv] x4 (fun (i1:B8) (e8:Int) (b7 b8:Bool) (e2:B8) (h8 f7 e6 e9 e1:Int) (d9:B8) (e3 h5 d4:TV)=>((0<=q/\q<(lenZ 14 j:Int))/\need (List.all [.str s7,.int .i64 h1,.bool b5,.bool b6,.str s8,.int .i64 g0,.int .i64 f3,.int .i64 h9,.int .i64 e7,.int .i64 g8,.str s9,v7,v8,v9] Ar) (stB a7 (ixT 14 j q.toNat) [.str s7,.int .i64 h1,.bool b5,.bool b6,.str s8,.int .i64 g0,.int .i64 f3,.int .i64 h9,.int .i64 e7,.int .i64 g8,.str s9,v7,v8,v9] (fun o6=>((0<=(i64.wrap (q+(1:Int)))/\(i64.wrap (q+(1:Int)))<(lenZ 14 j:Int))/\need (List.all [.str i1,.int .i64 e8,.bool b7,.bool b8,.str e2,.int .i64 h8,.int .i64 f7,.int .i64 e6,.int .i64 e9,.int .i64 e1,.str d9,e3,h5,d4] Ar) (stB o6 (ixT 14 j (Int.toNat (i64.wrap (q+(1:Int))))) [.str i1,.int .i64 e8,.bool b7,.bool b8,.str e2,.int .i64 h8,.int .i64 f7,.int .i64 e6,.int .i64 e9,.int .i64 e1,.str d9,e3,h5,d4] (fun g1=>(I2 ((i64.wrap (q+(1:Int)))) j c0 g1/\M2 ((i64.wrap (q+(1:Int)))) j c0 g1<M2 q j c0 a7)))))))))))))) (K a7))))) (BId ((i64.wrap (b-m))=(1:Int)) (∃(I3:Int->Int->TV->Int->TV->St->Prop) (M3:Int->Int->TV->Int->TV->St->Nat),(I3 a m data m cmp st)/\∀v z o a1 w a6,I3 v z o a1 w a6->(BId (v<z) (((0<=a1/\a1<(lenZ 14 o:Int))/\Ak ((Al a6 [] (.t (ixT 14 o a1.toNat)) 0 14).map TV.agg) (fun (x5:TV)=>B4 [.str,.int .i64,.bool,.bool,.str,.int .i64,.int .i64,.int .i64,.int .i64,.int .i64,.str,.tv,.tv,.tv] x5 (fun (p4:B8) (p6:Int) (b9 m7:Bool) (k0:B8) (l3 l8 k2 k5 j6:Int) (q3:B8) (k8 k3 p7:TV)=>((0<=(i64.wrap (Int.fdiv (IntKind.u64.wrap (i64.wrap (v+z))) (2^(min (Int.toNat (1:Int)) (IntKind.bits .u64)))))/\(i64.wrap (Int.fdiv (IntKind.u64.wrap (i64.wrap (v+z))) (2^(min (Int.toNat (1:Int)) (IntKind.bits .u64)))))<(lenZ 14 o:Int))/\Ak ((Al a6 [] (.t (ixT 14 o (Int.toNat (i64.wrap (Int.fdiv (IntKind.u64.wrap (i64.wrap (v+z))) (2^(min (Int.toNat (1:Int)) (IntKind.bits .u64)))))))) 0 14).map TV.agg) (fun (x6:TV)=>B4 [.str,.int .i64,.bool,.bool,.str,.int .i64,.int .i64,.int .i64,.int .i64,.int .i64,.str,.tv,.tv,.tv] x6 (fun (o1:B8) (o5:Int) (l0 o4:Bool) (k1:B8) (p9 p0 j4 l4 o2:Int) (l7:B8) (m8 j5 l5:TV)=>He PR w [(.agg [.str p4,.int .i64 p6,.bool b9,.bool m7,.str k0,.int .i64 l3,.int .i64 l8,.int .i64 k2,.int .i64 k5,.int .i64 j6,.str q3,k8,k3,p7]),(.agg [.str o1,.int .i64 o5,.bool l0,.bool o4,.str k1,.int .i64 p9,.int .i64 p0,.int .i64 j4,.int .i64 l4,.int .i64 o2,.str l7,m8,j5,l5])] [.one (.int .i64)] a6 (fun (p2:Int) c7=>BIf (!(decide (p2<0))) ((I3 ((i64.wrap ((i64.wrap (Int.fdiv (IntKind.u64.wrap (i64.wrap (v+z))) (2^(min (Int.toNat (1:Int)) (IntKind.bits .u64)))))+(1:Int)))) z o a1 w c7/\M3 ((i64.wrap ((i64.wrap (Int.fdiv (IntKind.u64.wrap (i64.wrap (v+z))) (2^(min (Int.toNat (1:Int)) (IntKind.bits .u64)))))+(1:Int)))) z o a1 w c7<M3 v z o a1 w a6)) ((I3 v ((i64.wrap (Int.fdiv (IntKind.u64.wrap (i64.wrap (v+z))) (2^(min (Int.toNat (1:Int)) (IntKind.bits .u64)))))) o a1 w c7/\M3 v ((i64.wrap (Int.fdiv (IntKind.u64.wrap (i64.wrap (v+z))) (2^(min (Int.toNat (1:Int)) (IntKind.bits .u64)))))) o a1 w c7<M3 v z o a1 w a6)))))))))) (∃(I4:Int->TV->Int->St->Prop) (M4:Int->TV->Int->St->Nat),(I4 a1 o v a6)/\∀p l c2 a9,I4 p l c2 a9->(BId (c2<p) (((0<=(i64.wrap (p-(1:Int)))/\(i64.wrap (p-(1:Int)))<(lenZ 14 l:Int))/\Ak ((Al a9 [] (.t (ixT 14 l (Int.toNat (i64.wrap (p-(1:Int)))))) 0 14).map TV.agg) (fun (x7:TV)=>B4 [.str,.int .i64,.bool,.bool,.str,.int .i64,.int .i64,.int .i64,.int .i64,.int .i64,.str,.tv,.tv,.tv] x7 (fun (f1:B8) (e4:Int) (g9 d5:Bool) (g6:B8) (g2 f0 d7 f9 i0:Int) (i2:B8) (d6 d3 e0:TV)=>((0<=p/\p<(lenZ 14 l:Int))/\Ak ((Al a9 [] (.t (ixT 14 l p.toNat)) 0 14).map TV.agg) (fun (x8:TV)=>B4 [.str,.int .i64,.bool,.bool,.str,.int .i64,.int .i64,.int .i64,.int .i64,.int .i64,.str,.tv,.tv,.tv] x8 (fun (g5:B8) (f6:Int) (f4 d8:Bool) (h6:B8) (f5 g3 h7 h4 e5:Int) (f2:B8) (h0 g4 i3:TV)=>((0<=p/\p<(lenZ 14 l:Int))/\need (List.all [.str f1,.int .i64 e4,.bool g9,.bool d5,.str g6,.int .i64 g2,.int .i64 f0,.int .i64 d7,.int .i64 f9,.int .i64 i0,.str i2,d6,d3,e0] Ar) (stB a9 (ixT 14 l p.toNat) [.str f1,.int .i64 e4,.bool g9,.bool d5,.str g6,.int .i64 g2,.int .i64 f0,.int .i64 d7,.int .i64 f9,.int .i64 i0,.str i2,d6,d3,e0] (fun o0=>((0<=(i64.wrap (p-(1:Int)))/\(i64.wrap (p-(1:Int)))<(lenZ 14 l:Int))/\need (List.all [.str g5,.int .i64 f6,.bool f4,.bool d8,.str h6,.int .i64 f5,.int .i64 g3,.int .i64 h7,.int .i64 h4,.int .i64 e5,.str f2,h0,g4,i3] Ar) (stB o0 (ixT 14 l (Int.toNat (i64.wrap (p-(1:Int))))) [.str g5,.int .i64 f6,.bool f4,.bool d8,.str h6,.int .i64 f5,.int .i64 g3,.int .i64 h7,.int .i64 h4,.int .i64 e5,.str f2,h0,g4,i3] (fun d1=>(I4 ((i64.wrap (p-(1:Int)))) l c2 d1/\M4 ((i64.wrap (p-(1:Int)))) l c2 d1<M4 p l c2 a9)))))))))))))) (K a9))))) (∃(C1:Int->Int->TV->Int->Int->Int->TV->Int->Int->St->Prop),(BId ((i64.wrap (Int.fdiv (IntKind.u64.wrap (i64.wrap (a+b))) (2^(min (Int.toNat (1:Int)) (IntKind.bits .u64)))))<m) (C1 ((i64.wrap ((i64.wrap ((i64.wrap (Int.fdiv (IntKind.u64.wrap (i64.wrap (a+b))) (2^(min (Int.toNat (1:Int)) (IntKind.bits .u64)))))+m))-b))) ((i64.wrap (Int.fdiv (IntKind.u64.wrap (i64.wrap (a+b))) (2^(min (Int.toNat (1:Int)) (IntKind.bits .u64)))))) data a m b cmp ((i64.wrap (Int.fdiv (IntKind.u64.wrap (i64.wrap (a+b))) (2^(min (Int.toNat (1:Int)) (IntKind.bits .u64)))))) ((i64.wrap ((i64.wrap (Int.fdiv (IntKind.u64.wrap (i64.wrap (a+b))) (2^(min (Int.toNat (1:Int)) (IntKind.bits .u64)))))+m))) st) (C1 a m data a m b cmp ((i64.wrap (Int.fdiv (IntKind.u64.wrap (i64.wrap (a+b))) (2^(min (Int.toNat (1:Int)) (IntKind.bits .u64)))))) ((i64.wrap ((i64.wrap (Int.fdiv (IntKind.u64.wrap (i64.wrap (a+b))) (2^(min (Int.toNat (1:Int)) (IntKind.bits .u64)))))+m))) st))/\∀a8 h2 c1 g7 f8 h3 c8 c9 d0 d2,C1 a8 h2 c1 g7 f8 h3 c8 c9 d0 d2->(∃(I5:Int->Int->TV->Int->Int->Int->TV->Int->Int->Int->St->Prop) (M5:Int->Int->TV->Int->Int->Int->TV->Int->Int->Int->St->Nat),(I5 a8 h2 c1 g7 f8 h3 c8 c9 d0 ((i64.wrap (d0-(1:Int)))) d2)/\∀c r e x a3 k g d f a2 i,I5 c r e x a3 k g d f a2 i->(BId (c<r) (((0<=(i64.wrap (a2-(i64.wrap (Int.fdiv (IntKind.u64.wrap (i64.wrap (c+r))) (2^(min (Int.toNat (1:Int)) (IntKind.bits .u64)))))))/\(i64.wrap (a2-(i64.wrap (Int.fdiv (IntKind.u64.wrap (i64.wrap (c+r))) (2^(min (Int.toNat (1:Int)) (IntKind.bits .u64)))))))<(lenZ 14 e:Int))/\Ak ((Al i [] (.t (ixT 14 e (Int.toNat (i64.wrap (a2-(i64.wrap (Int.fdiv (IntKind.u64.wrap (i64.wrap (c+r))) (2^(min (Int.toNat (1:Int)) (IntKind.bits .u64)))))))))) 0 14).map TV.agg) (fun (x9:TV)=>B4 [.str,.int .i64,.bool,.bool,.str,.int .i64,.int .i64,.int .i64,.int .i64,.int .i64,.str,.tv,.tv,.tv] x9 (fun (m1:B8) (q0:Int) (q2 q5:Bool) (m4:B8) (q4 l2 m3 l6 m5:Int) (l1:B8) (o8 o7 p1:TV)=>((0<=(i64.wrap (Int.fdiv (IntKind.u64.wrap (i64.wrap (c+r))) (2^(min (Int.toNat (1:Int)) (IntKind.bits .u64)))))/\(i64.wrap (Int.fdiv (IntKind.u64.wrap (i64.wrap (c+r))) (2^(min (Int.toNat (1:Int)) (IntKind.bits .u64)))))<(lenZ 14 e:Int))/\Ak ((Al i [] (.t (ixT 14 e (Int.toNat (i64.wrap (Int.fdiv (IntKind.u64.wrap (i64.wrap (c+r))) (2^(min (Int.toNat (1:Int)) (IntKind.bits .u64)))))))) 0 14).map TV.agg) (fun (o3:TV)=>B4 [.str,.int .i64,.bool,.bool,.str,.int .i64,.int .i64,.int .i64,.int .i64,.int .i64,.str,.tv,.tv,.tv] o3 (fun (j7:B8) (n0:Int) (p5 m2:Bool) (k6:B8) (j8 k4 m6 q1 j3:Int) (p3:B8) (l9 m9 k9:TV)=>He PR g [(.agg [.str m1,.int .i64 q0,.bool q2,.bool q5,.str m4,.int .i64 q4,.int .i64 l2,.int .i64 m3,.int .i64 l6,.int .i64 m5,.str l1,o8,o7,p1]),(.agg [.str j7,.int .i64 n0,.bool p5,.bool m2,.str k6,.int .i64 j8,.int .i64 k4,.int .i64 m6,.int .i64 q1,.int .i64 j3,.str p3,l9,m9,k9])] [.one (.int .i64)] i (fun (o9:Int) b0=>BIf (!(decide (o9<0))) ((I5 ((i64.wrap ((i64.wrap (Int.fdiv (IntKind.u64.wrap (i64.wrap (c+r))) (2^(min (Int.toNat (1:Int)) (IntKind.bits .u64)))))+(1:Int)))) r e x a3 k g d f a2 b0/\M5 ((i64.wrap ((i64.wrap (Int.fdiv (IntKind.u64.wrap (i64.wrap (c+r))) (2^(min (Int.toNat (1:Int)) (IntKind.bits .u64)))))+(1:Int)))) r e x a3 k g d f a2 b0<M5 c r e x a3 k g d f a2 i)) ((I5 c ((i64.wrap (Int.fdiv (IntKind.u64.wrap (i64.wrap (c+r))) (2^(min (Int.toNat (1:Int)) (IntKind.bits .u64)))))) e x a3 k g d f a2 b0/\M5 c ((i64.wrap (Int.fdiv (IntKind.u64.wrap (i64.wrap (c+r))) (2^(min (Int.toNat (1:Int)) (IntKind.bits .u64)))))) e x a3 k g d f a2 b0<M5 c r e x a3 k g d f a2 i)))))))))) (BId (c<a3) (BId (a3<(i64.wrap (f-c))) (CallT PR Bp [e,.int .i64 c,.int .i64 a3,(.int .i64 (i64.wrap (f-c))),g] [] i (fun (a4:St)=>BId (x<c) (BId (c<d) (CallT PR Ag [e,.int .i64 x,.int .i64 c,.int .i64 d,g] [] a4 (fun (c3:St)=>BId (d<(i64.wrap (f-c))) (BId ((i64.wrap (f-c))<k) (CallT PR Ag [e,.int .i64 d,(.int .i64 (i64.wrap (f-c))),.int .i64 k,g] [] c3 (fun (i6:St)=>K i6)) (K c3)) (K c3))) (BId (d<(i64.wrap (f-c))) (BId ((i64.wrap (f-c))<k) (CallT PR Ag [e,.int .i64 d,(.int .i64 (i64.wrap (f-c))),.int .i64 k,g] [] a4 (fun (j0:St)=>K j0)) (K a4)) (K a4))) (BId (d<(i64.wrap (f-c))) (BId ((i64.wrap (f-c))<k) (CallT PR Ag [e,.int .i64 d,(.int .i64 (i64.wrap (f-c))),.int .i64 k,g] [] a4 (fun (i5:St)=>K i5)) (K a4)) (K a4)))) (BId (x<c) (BId (c<d) (CallT PR Ag [e,.int .i64 x,.int .i64 c,.int .i64 d,g] [] i (fun (c5:St)=>BId (d<(i64.wrap (f-c))) (BId ((i64.wrap (f-c))<k) (CallT PR Ag [e,.int .i64 d,(.int .i64 (i64.wrap (f-c))),.int .i64 k,g] [] c5 (fun (i8:St)=>K i8)) (K c5)) (K c5))) (BId (d<(i64.wrap (f-c))) (BId ((i64.wrap (f-c))<k) (CallT PR Ag [e,.int .i64 d,(.int .i64 (i64.wrap (f-c))),.int .i64 k,g] [] i (fun (i7:St)=>K i7)) (K i)) (K i))) (BId (d<(i64.wrap (f-c))) (BId ((i64.wrap (f-c))<k) (CallT PR Ag [e,.int .i64 d,(.int .i64 (i64.wrap (f-c))),.int .i64 k,g] [] i (fun (i9:St)=>K i9)) (K i)) (K i)))) (BId (x<c) (BId (c<d) (CallT PR Ag [e,.int .i64 x,.int .i64 c,.int .i64 d,g] [] i (fun (c4:St)=>BId (d<(i64.wrap (f-c))) (BId ((i64.wrap (f-c))<k) (CallT PR Ag [e,.int .i64 d,(.int .i64 (i64.wrap (f-c))),.int .i64 k,g] [] c4 (fun (i4:St)=>K i4)) (K c4)) (K c4))) (BId (d<(i64.wrap (f-c))) (BId ((i64.wrap (f-c))<k) (CallT PR Ag [e,.int .i64 d,(.int .i64 (i64.wrap (f-c))),.int .i64 k,g] [] i (fun (j2:St)=>K j2)) (K i)) (K i))) (BId (d<(i64.wrap (f-c))) (BId ((i64.wrap (f-c))<k) (CallT PR Ag [e,.int .i64 d,(.int .i64 (i64.wrap (f-c))),.int .i64 k,g] [] i (fun (j1:St)=>K j1)) (K i)) (K i))))))))):CallT PR Ag [data,.int .i64 a,.int .i64 m,.int .i64 b,cmp] [] st K:=
 Ae (cfg:=⟨[],[],[44,48,96,100,164,168]⟩) (h:=(.seq (.seq .none (.cond (.seq .none (.seq .none (.seq (.block (.loop ⟨[(10,.int .i64),(11,.int .i64),(0,.tv),(1,.int .i64),(4,.tv)],[],[],[]⟩ .none)) (.seq (.seq .none (.block (.loop ⟨[(13,.int .i64),(0,.tv),(10,.int .i64)],[],[],[]⟩ .none))) .none)))) .none)) (.seq (.seq .none (.cond (.seq .none (.seq .none (.seq (.block (.loop ⟨[(14,.int .i64),(15,.int .i64),(0,.tv),(2,.int .i64),(4,.tv)],[],[],[]⟩ .none)) (.seq (.seq .none (.block (.loop ⟨[(17,.int .i64),(0,.tv),(14,.int .i64)],[],[],[]⟩ .none))) .none)))) .none)) (.seq .none (.seq .none (.seq .none (.cut ⟨[(20,.int .i64),(21,.int .i64),(0,.tv),(1,.int .i64),(2,.int .i64),(3,.int .i64),(4,.tv),(18,.int .i64),(19,.int .i64)],[],[],[]⟩ .none (.seq .none (.seq (.block (.loop ⟨[(20,.int .i64),(21,.int .i64),(0,.tv),(1,.int .i64),(2,.int .i64),(3,.int .i64),(4,.tv),(18,.int .i64),(19,.int .i64),(22,.int .i64)],[],[],[]⟩ .none)) .none))))))))) mixed (fun _ _=>Tryz.call323 _ _) Tryz.func323 (by kernel_rfl) (by kernel_rfl) h
theorem KC (b:Int) (st:St) (K:Int->St->Prop) (h:∃(I1:Int->Int->St->Prop) (M1:Int->Int->St->Nat),(I1 0 b st)/\∀a d c,I1 a d c->(BId (a<16) (((0<=a/\a<(FA.length:Int))/\BId (((List.getD FA a.toNat 0).toNat:Int)=d) (K a c) ((I1 ((i64.wrap (a+(1:Int)))) d c/\M1 ((i64.wrap (a+(1:Int)))) d c<M1 a d c)))) (K (-1) c))):CallT PR AO [.int .u8 b] [.one (.int .i64)] st K:=
 Ae (cfg:=⟨[],[],[]⟩) (h:=(.seq .none (.seq (.seq .none (.block (.loop ⟨[(3,.int .i64),(0,.int .u8)],[],[],[]⟩ .none))) .none))) mixed (fun _ _=>Tryz.call325 _ _) Tryz.func325 (by kernel_rfl) (by kernel_rfl) h
theorem Ez (data:TV) (a:Int) (m:Int) (b:Int) (cmp:TV) (st:St) (K:St->Prop) (h:∃(I1:Int->Int->TV->Int->TV->St->Prop) (M1:Int->Int->TV->Int->TV->St->Nat),(I1 ((i64.wrap (m-a))) ((i64.wrap (b-m))) data m cmp st)/\∀e g c f d i,I1 e g c f d i->(BId (e≠g) (BId (g<e) (CallT PR AK [c,(.int .i64 (i64.wrap (f-e))),.int .i64 f,.int .i64 g,d] [] i (fun (j:St)=>(I1 ((i64.wrap (e-g))) g c f d j/\M1 ((i64.wrap (e-g))) g c f d j<M1 e g c f d i))) (CallT PR AK [c,(.int .i64 (i64.wrap (f-e))),(.int .i64 (i64.wrap ((i64.wrap (f+g))-e))),.int .i64 e,d] [] i (fun (k:St)=>(I1 e ((i64.wrap (g-e))) c f d k/\M1 e ((i64.wrap (g-e))) c f d k<M1 e g c f d i)))) (CallT PR AK [c,(.int .i64 (i64.wrap (f-e))),.int .i64 f,.int .i64 e,d] [] i (fun (l:St)=>K l)))):CallT PR Bp [data,.int .i64 a,.int .i64 m,.int .i64 b,cmp] [] st K:=
 Ae (cfg:=⟨[],[],[]⟩) (h:=(.seq .none (.seq .none (.seq (.block (.loop ⟨[(10,.int .i64),(11,.int .i64),(0,.tv),(2,.int .i64),(4,.tv)],[],[],[]⟩ .none)) .none)))) mixed (fun _ _=>Tryz.call332 _ _) Tryz.func332 (by kernel_rfl) (by kernel_rfl) h
theorem D7 (data:TV) (a:Int) (b:Int) (n:Int) (cmp:TV) (st:St) (K:St->Prop) (h:∃(I1:Int->TV->Int->Int->Int->St->Prop) (M1:Int->TV->Int->Int->Int->St->Nat),(I1 0 data a b n st)/\∀d c e f i g,I1 d c e f i g->(BId (d<i) (((0<=(i64.wrap (f+d))/\(i64.wrap (f+d))<(lenZ 14 c:Int))/\Ak ((Al g [] (.t (ixT 14 c (Int.toNat (i64.wrap (f+d))))) 0 14).map TV.agg) (fun (x1:TV)=>B4 [.str,.int .i64,.bool,.bool,.str,.int .i64,.int .i64,.int .i64,.int .i64,.int .i64,.str,.tv,.tv,.tv] x1 (fun (s1:B8) (n1:Int) (b1 b2:Bool) (s2:B8) (n2 n3 n4 n5 n6:Int) (s3:B8) (v1 v2 v3:TV)=>((0<=(i64.wrap (e+d))/\(i64.wrap (e+d))<(lenZ 14 c:Int))/\Ak ((Al g [] (.t (ixT 14 c (Int.toNat (i64.wrap (e+d))))) 0 14).map TV.agg) (fun (x2:TV)=>B4 [.str,.int .i64,.bool,.bool,.str,.int .i64,.int .i64,.int .i64,.int .i64,.int .i64,.str,.tv,.tv,.tv] x2 (fun (s4:B8) (n7:Int) (b3 b4:Bool) (s5:B8) (n8 n9 k l j:Int) (s6:B8) (v4 v5 v6:TV)=>((0<=(i64.wrap (e+d))/\(i64.wrap (e+d))<(lenZ 14 c:Int))/\need (List.all [.str s1,.int .i64 n1,.bool b1,.bool b2,.str s2,.int .i64 n2,.int .i64 n3,.int .i64 n4,.int .i64 n5,.int .i64 n6,.str s3,v1,v2,v3] Ar) (stB g (ixT 14 c (Int.toNat (i64.wrap (e+d)))) [.str s1,.int .i64 n1,.bool b1,.bool b2,.str s2,.int .i64 n2,.int .i64 n3,.int .i64 n4,.int .i64 n5,.int .i64 n6,.str s3,v1,v2,v3] (fun o=>((0<=(i64.wrap (f+d))/\(i64.wrap (f+d))<(lenZ 14 c:Int))/\need (List.all [.str s4,.int .i64 n7,.bool b3,.bool b4,.str s5,.int .i64 n8,.int .i64 n9,.int .i64 k,.int .i64 l,.int .i64 j,.str s6,v4,v5,v6] Ar) (stB o (ixT 14 c (Int.toNat (i64.wrap (f+d)))) [.str s4,.int .i64 n7,.bool b3,.bool b4,.str s5,.int .i64 n8,.int .i64 n9,.int .i64 k,.int .i64 l,.int .i64 j,.str s6,v4,v5,v6] (fun m=>(I1 ((i64.wrap (d+(1:Int)))) c e f i m/\M1 ((i64.wrap (d+(1:Int)))) c e f i m<M1 d c e f i g)))))))))))))) (K g))):CallT PR AK [data,.int .i64 a,.int .i64 b,.int .i64 n,cmp] [] st K:=
 Ae (cfg:=⟨[],[],[]⟩) (h:=(.seq .none (.block (.loop ⟨[(10,.int .i64),(0,.tv),(1,.int .i64),(2,.int .i64),(3,.int .i64)],[],[],[]⟩ .none)))) mixed (fun _ _=>Tryz.call335 _ _) Tryz.func335 (by kernel_rfl) (by kernel_rfl) h
structure StX (S:Nat->Prop) (a b:St):Prop where
 nb:a.nb<=b.nb
 box:∀i,i<a.nb->¬S i->b.box i=a.box i
 nt:a.nt<=b.nt
 live:∀i,i<a.nt->b.live i=a.live i
 ty:∀i,i<a.nt->b.ty i=a.ty i
 bt:∀i,i<a.nb->b.bt i=a.bt i
theorem StX.refl (S:Nat->Prop) (a:St):StX S a a:=⟨Nat.le_refl _,fun _ _ _=>rfl,Nat.le_refl _,fun _ _=>rfl,fun _ _=>rfl,fun _ _=>rfl⟩
theorem StX.trans {S:Nat->Prop} {a b c:St} (h:StX S a b) (k:StX S b c):StX S a c:=
 ⟨Nat.le_trans h.nb k.nb,fun i hi hs=>(k.box i (Nat.lt_of_lt_of_le hi h.nb) hs).trans (h.box i hi hs),Nat.le_trans h.nt k.nt,fun i hi=>(k.live i (Nat.lt_of_lt_of_le hi h.nt)).trans (h.live i hi),fun i hi=>(k.ty i (Nat.lt_of_lt_of_le hi h.nt)).trans (h.ty i hi),fun i hi=>(k.bt i (Nat.lt_of_lt_of_le hi h.nb)).trans (h.bt i hi)⟩
theorem StX.mono {S T:Nat->Prop} {a b:St} (h:StX S a b) (k:∀i,S i->T i):StX T a b:=
 ⟨h.nb,fun i hi hs=>h.box i hi fun g=>hs (k i g),h.nt,h.live,h.ty,h.bt⟩
theorem StX.of {S:Nat->Prop} {a b:St} (h:Ah a b):StX S a b:=⟨h.nb,fun i hi _=>h.box i hi,h.nt,h.live,h.ty,h.bt⟩
theorem StX.ext {S:Nat->Prop} {a b c:St} (h:Ah a b) (k:StX S b c) (hs:∀i,S i->a.nb<=i):Ah a c:=
 ⟨Nat.le_trans h.nb k.nb,fun i hi=>(k.box i (Nat.lt_of_lt_of_le hi h.nb) fun g=>absurd (hs i g) (by omega)).trans (h.box i hi),Nat.le_trans h.nt k.nt,fun i hi=>(k.live i (Nat.lt_of_lt_of_le hi h.nt)).trans (h.live i hi),fun i hi=>(k.ty i (Nat.lt_of_lt_of_le hi h.nt)).trans (h.ty i hi),fun i hi=>(k.bt i (Nat.lt_of_lt_of_le hi h.nb)).trans (h.bt i hi)⟩
theorem StX.put {S:Nat->Prop} {a:St} {i:Nat} (hi:S i) (o:Lv):StX S a (a.put i o):=
 ⟨Nat.le_refl _,fun j hj hs=>by simp only[St.put];rw[if_neg (by rintro rfl;exact hs hi)],Nat.le_refl _,fun _ _=>rfl,fun _ _=>rfl,fun _ _=>rfl⟩
end Go.TVF
section
namespace Go.TVF
open Go.IntKind(i64 u8)
abbrev Og:Nat:=82
abbrev W9:Nat:=199
end Go.TVF
end
namespace Go.TVF
open Go.IntKind(i64 u8)
open Go Go.Proofs
def CkK (k:B8) (cs:List TV):Prop:=∃(n1:Int) (b1 b2:Bool) (s2:B8) (n2 n3 n4 n5 n6:Int) (s3:B8) (u1 u2 u3:TV),
 cs=[.str k,.int .i64 n1,.bool b1,.bool b2,.str s2,.int .i64 n2,.int .i64 n3,.int .i64 n4,.int .i64 n5,.int .i64 n6,.str s3,u1,u2,u3]/\Ar u1=true/\Ar u2=true/\Ar u3=true
def Ck (cs:List TV):Prop:=∃k,CkK k cs
theorem Ck.len {cs:List TV} (h:Ck cs):cs.length=14:=by obtain⟨k,n1,b1,b2,s2,n2,n3,n4,n5,n6,s3,u1,u2,u3,rfl,_⟩:=h;rfl
theorem Ck.one {cs:List TV} (h:Ck cs):List.all cs Ar=true:=by
 obtain⟨k,n1,b1,b2,s2,n2,n3,n4,n5,n6,s3,u1,u2,u3,rfl,h1,h2,h3⟩:=h
 simp[Ar]at h1 h2 h3⊢
 simp[h1,h2,h3]
theorem IV {k:B8} {n1:Int} {b1 b2:Bool} {s2:B8} {n2 n3 n4 n5 n6:Int} {s3:B8} {u1 u2 u3:TV} {f:Fun [.str,.int .i64,.bool,.bool,.str,.int .i64,.int .i64,.int .i64,.int .i64,.int .i64,.str,.tv,.tv,.tv] Prop} (h:f k n1 b1 b2 s2 n2 n3 n4 n5 n6 s3 u1 u2 u3):
  B4 [.str,.int .i64,.bool,.bool,.str,.int .i64,.int .i64,.int .i64,.int .i64,.int .i64,.str,.tv,.tv,.tv] (.agg [.str k,.int .i64 n1,.bool b1,.bool b2,.str s2,.int .i64 n2,.int .i64 n3,.int .i64 n4,.int .i64 n5,.int .i64 n6,.str s3,u1,u2,u3]) f:=h
structure BxF (st:St) (b n cap:Nat) (cks:List (List TV)):Prop where
 lt:b<st.nb
 len:cks.length=n
 le:n<=cap
 ck:∀c,c∈cks->Ck c
 box:∃tail,st.box b= .cells (cks.flatten++tail)/\(cks.flatten++tail).length=cap*14
theorem To:∀{cks:List (List TV)},(∀c,c∈cks->Ck c)->cks.flatten.length=cks.length*14
 | [],_=>rfl
 | c::r,h=>by
  rw[List.flatten_cons,List.length_append,(h c (.head _)).len,To fun x hx=>h x (.tail _ hx),List.length_cons];omega
theorem RK:∀{cks:List (List TV)} {i:Nat} {c:List TV},(∀c,c∈cks->Ck c)->cks[i]? =some c->∃A B,cks.flatten=A++c++B/\A.length=i*14/\∀d:List TV,(cks.set i d).flatten=A++d++B
 | [],i,c,_,hi=>by simp at hi
 | x::r,0,c,h,hi=>by
  simp only[List.getElem?_cons_zero,Option.some.injEq]at hi
  subst hi
  exact⟨[],r.flatten,by simp,by simp,fun d=>by simp⟩
 | x::r,i+1,c,h,hi=>by
  obtain⟨A,B,h1,h2,h3⟩:=RK (fun y hy=>h y (.tail _ hy)) (by simpa using hi:r[i]? =some c)
  refine⟨x++A,B,by rw[List.flatten_cons,h1];simp,by rw[List.length_append,(h x (.head _)).len,h2];omega,fun d=>by rw[List.set_cons_succ,List.flatten_cons,h3 d];simp⟩
theorem IE:∀(ys A c B:List TV),ys.length=c.length->setAll (A++c++B) A.length ys=A++ys++B
 | [],A,c,B,h=>by
  have:c=[]:=List.eq_nil_of_length_eq_zero (by simpa using h.symm)
  subst this;rfl
 | y::ys,A,[],B,h=>by simp at h
 | y::ys,A,x::c,B,h=>by
  rw[setAll]
  have e:(A++x::c++B).set A.length y=(A++[y])++c++B:=by simp
  rw[e]
  have:=IE ys (A++[y]) c B (by simpa using h)
  rw[List.length_append]at this
  rw[show A.length+1=A.length+ [y].length from rfl,this]
  simp
theorem IL {st:St} {b:Nat} {B:List TV}:∀(c:List TV) (l:List TV) (j o:Nat),st.box b= .cells l->l.drop (o+j)=c++B->Al st [] (.t (.box b o)) j c.length=some c
 | [],l,j,o,h,hd=>rfl
 | x::c,l,j,o,h,hd=>by
  have hx:l[o+j]? =some x:=by
   have:=congrArg (fun z:List TV=>z[0]?) hd
   simpa using this
  have hd2:l.drop (o+(j+1))=c++B:=by
   have:=congrArg (fun z:List TV=>z.drop 1) hd
   simpa [List.drop_drop,Nat.add_assoc]using this
  show(match Af st [] (.t (.box b o)) j with | some x=>(Al st [] (.t (.box b o)) (j+1) c.length).map (x::·) | none=>none)=_
  have:Af st [] (.t (.box b o)) j=some x:=by simp only[Af,h];exact hx
  rw[this]
  simp only
  rw[IL c l (j+1) o h hd2];rfl
theorem BxF.ld {st:St} {b n cap:Nat} {cks:List (List TV)} (h:BxF st b n cap cks) {i:Nat} {c:List TV} (hi:cks[i]? =some c):(Al st [] (.t (ixT 14 (.ms 14 b 0 n cap) i)) 0 14).map TV.agg=some (.agg c):=by
 obtain⟨tail,h1,h2⟩:=h.box
 obtain⟨A,B,h3,h4,_⟩:=RK h.ck hi
 have hc:=(h.ck c (List.mem_of_getElem? hi)).len
 have:=IL (B:=B++tail) (st:=st) (b:=b) c (cks.flatten++tail) 0 (0+i*14) h1 (by
  rw[h3,Nat.add_zero,Nat.zero_add,<-h4];simp)
 rw[hc]at this
 show Option.map TV.agg (Al st [] (.t (.box b (0+i*14))) 0 14)=_
 rw[this];rfl
theorem BxF.st {st:St} {b n cap:Nat} {cks:List (List TV)} (h:BxF st b n cap cks) {i:Nat} {c ys:List TV} (hi:cks[i]? =some c) (hy:Ck ys) {k:St->Prop} (hk:∀st',BxF st' b n cap (cks.set i ys)->StX (·=b) st st'->k st'):
  stB st (ixT 14 (.ms 14 b 0 n cap) i) ys k:=by
 obtain⟨tail,h1,h2⟩:=h.box
 obtain⟨A,B,h3,h4,h5⟩:=RK h.ck hi
 have hc:=(h.ck c (List.mem_of_getElem? hi)).len
 have hl:(cks.flatten++tail).length=A.length+14+B.length+tail.length:=by rw[h3];simp[hc];omega
 have he:setAll (cks.flatten++tail) (0+i*14) ys=(cks.set i ys).flatten++tail:=by
  rw[Nat.zero_add,<-h4,h3,List.append_assoc,IE ys A c (B++tail) (by rw[hy.len,hc]),h5 ys]
  simp
 refine⟨_,h1,by rw[hl,hy.len,<-h4];omega,?_⟩
 rw[he]
 refine hk _ ⟨h.lt,by rw[List.length_set];exact h.len,h.le,fun x hx=>?_,tail,by simp[St.put],?_⟩ (StX.put (S:=(·=b)) (show b=b from rfl) _)
 ·rcases List.mem_or_eq_of_mem_set hx with hx | rfl
  ·exact h.ck x hx
  ·exact hy
 ·rw[<-he,Nat.zero_add];simpa [Fu]using h2
theorem BxF.lenZ {st:St} {b n cap:Nat} {cks:List (List TV)} (h:BxF st b n cap cks):lenZ 14 (.ms 14 b 0 n cap)=cks.length:=by rw[h.len];rfl
section
section
variable {st:St} {b n cap:Nat}
theorem Iz {P X Y Z Q:List (List TV)} {cmp:TV} (h:BxF st b n cap (P++X++Y++Z++Q)) (hz:Z.length=X.length) (hn:n<=100000000) {A B N:Int} (hA:A=(P.length:Int)) (hB:B=((P.length+X.length+Y.length:Nat):Int)) (hN:N=(X.length:Int)) {K:St->Prop}
  (hk:∀st',BxF st' b n cap (P++Z++Y++X++Q)->StX (·=b) st st'->K st'):
  CallT PR AK [.ms 14 b 0 n cap,.int .i64 A,.int .i64 B,.int .i64 N,cmp] [] st K:=by
 have hlen:=h.len
 simp only[List.length_append]at hlen
 refine D7 _ A B N cmp st K ⟨fun i d a b' n' st'=>d= .ms 14 b 0 n cap/\a=A/\b'=B/\n'=N/\∃k:Nat,i=(k:Int)/\k<=X.length/\BxF st' b n cap (P++(Z.take k++X.drop k)++Y++(X.take k++Z.drop k)++Q)/\StX (·=b) st st',
  fun i _ _ _ _ _=>(X.length-i).toNat,⟨rfl,rfl,rfl,rfl,0,rfl,Nat.zero_le _,by simpa using h,StX.refl _ _⟩,?_⟩
 rintro _ _ _ _ _ st1 ⟨rfl,rfl,rfl,rfl,k,rfl,hkl,hb,e⟩
 subst hA hB hN
 refine Aa (fun g=>?_) fun g=>?_
 ·have hkx:k<X.length:=by omega
  rw[Ad _ (by omega) (by omega),Ad _ (by omega) (by omega),Ad _ (by omega) (by omega)]
  have i1:Int.toNat (((P.length+X.length+Y.length:Nat):Int)+(k:Int))=P.length+X.length+Y.length+k:=by omega
  have i2:Int.toNat ((P.length:Int)+(k:Int))=P.length+k:=by omega
  rw[i1,i2,hb.lenZ]
  have hl:=hb.len
  have hx:(P++(Z.take k++X.drop k)++Y++(X.take k++Z.drop k)++Q)[P.length+k]? =some X[k]:=by
   simp only[List.append_assoc]
   rw[List.getElem?_append_right (by omega),Nat.add_sub_cancel_left,List.getElem?_append_right (by simp;omega),List.getElem?_append_left (by simp;omega)]
   simp[show k-min k Z.length=0 by omega,hkx]
  have hzz:(P++(Z.take k++X.drop k)++Y++(X.take k++Z.drop k)++Q)[P.length+X.length+Y.length+k]? =some (Z[k]'(by omega)):=by
   have e1:(P++(Z.take k++X.drop k)++Y++(X.take k++Z.drop k)++Q)=(P++(Z.take k++X.drop k)++Y++X.take k)++(Z.drop k++Q):=by simp
   have e2:(P++(Z.take k++X.drop k)++Y++X.take k).length=P.length+X.length+Y.length+k:=by simp;omega
   rw[e1,List.getElem?_append_right (by omega),e2,Nat.sub_self,List.getElem?_append_left (by simp;omega)]
   simp[show k<Z.length by omega]
  have cx:=hb.ck _ (List.mem_of_getElem? hx)
  have cz:=hb.ck _ (List.mem_of_getElem? hzz)
  have l1:=hb.ld hzz
  have l2:=hb.ld hx
  have hsw:=swp_run (P:=P) (X:=X) (Y:=Y) (Z:=Z) (Q:=Q) hkx hz
  unfold swp at hsw
  rw[hx,hzz]at hsw
  simp only at hsw
  have o1:=cx.one
  have o2:=cz.one
  generalize hcx:X[k]=x at*
  generalize hcz:(Z[k]'(by omega))=z at*
  have cx':=cx
  have cz':=cz
  obtain⟨kx,n1,b1,b2,s2,n2,n3,n4,n5,n6,s3,u1,u2,u3,rfl,_⟩:=cx
  obtain⟨kz,m1,c1,c2,t2,m2,m3,m4,m5,m6,t3,v1,v2,v3,rfl,_⟩:=cz
  refine⟨⟨by omega,by omega⟩,Ac l1 (IV ⟨⟨by omega,by omega⟩,Ac l2 (IV ⟨⟨by omega,by omega⟩,Ab o2 (hb.st hx cz' fun st2 hb2 e2=>⟨⟨by omega,by omega⟩,Ab o1 ?_⟩)⟩)⟩)⟩
  ·have hg:∃y,(List.set (P++(Z.take k++X.drop k)++Y++(X.take k++Z.drop k)++Q) (P.length+k) [.str kz,.int .i64 m1,.bool c1,.bool c2,.str t2,.int .i64 m2,.int .i64 m3,.int .i64 m4,.int .i64 m5,.int .i64 m6,.str t3,v1,v2,v3])[P.length+X.length+Y.length+k]? =some y:=
    ⟨_,List.getElem?_eq_getElem (by rw[List.length_set,hl];omega)⟩
   obtain⟨y,hy⟩:=hg
   refine hb2.st hy cx' fun st3 hb3 e3=>⟨⟨rfl,rfl,rfl,rfl,k+1,by omega,by omega,?_,(e.trans e2).trans e3⟩,by dsimp only;omega⟩
   rw[hsw]at hb3
   exact hb3
 ·have:k=X.length:=by omega
  subst this
  refine hk _ ?_ e
  rw[List.take_of_length_le (show Z.length<=X.length by omega),List.drop_length,List.take_length,List.drop_of_length_le (show Z.length<=X.length by omega),List.append_nil,List.append_nil]at hb
  exact hb
theorem V8 {P U V Q:List (List TV)} {cmp:TV} (h:BxF st b n cap (P++U++V++Q)) (hn:n<=100000000) (hU:0<U.length) (hV:0<V.length) {A M B:Int} (hA:A=(P.length:Int)) (hM:M=((P.length+U.length:Nat):Int)) (hB:B=((P.length+U.length+V.length:Nat):Int)) {K:St->Prop}
  (hk:∀st',BxF st' b n cap (P++V++U++Q)->StX (·=b) st st'->K st'):
  CallT PR Bp [.ms 14 b 0 n cap,.int .i64 A,.int .i64 M,.int .i64 B,cmp] [] st K:=by
 have hlen:=h.len
 simp only[List.length_append]at hlen
 refine Ez _ A M B cmp st K ⟨fun i j d m' c' st'=>d= .ms 14 b 0 n cap/\m'=M/\∃P' U' V' Q':List (List TV),P'++V'++U'++Q'=P++V++U++Q/\P'.length+U'.length=P.length+U.length/\i=(U'.length:Int)/\j=(V'.length:Int)/\0<U'.length/\0<V'.length/\BxF st' b n cap (P'++U'++V'++Q')/\StX (·=b) st st',
  fun i j _ _ _ _=>(i+j).toNat,⟨rfl,rfl,P,U,V,Q,rfl,rfl,?_,?_,hU,hV,h,StX.refl _ _⟩,?_⟩
 ·rw[Ad _ (by omega) (by omega)];omega
 ·rw[Ad _ (by omega) (by omega)];omega
 rintro _ _ _ _ c' st1 ⟨rfl,rfl,P',U',V',Q',hfin,hm,rfl,rfl,hu,hv,hb,e⟩
 have hlb:=hb.len
 simp only[List.length_append]at hlb
 subst hA hM hB
 have wa:i64.wrap (((P.length+U.length:Nat):Int)-(U'.length:Int))=(P'.length:Int):=by rw[Ad _ (by omega) (by omega)];omega
 refine Aa (fun g=>Aa (fun g2=>?_) fun g2=>?_) fun g=>?_
 ·rw[wa,Ad _ (by omega) (by omega)]
  have hX:U'=U'.take V'.length++U'.drop V'.length:=(List.take_append_drop _ _).symm
  have l1:(U'.take V'.length).length=V'.length:=by simp;omega
  have l2:(U'.drop V'.length).length=U'.length-V'.length:=by simp
  generalize U'.take V'.length=X at*
  generalize U'.drop V'.length=Y at*
  subst hX
  simp only[List.length_append]at*
  refine Iz (P:=P') (X:=X) (Y:=Y) (Z:=V') (Q:=Q') (by simpa using hb) (by omega) hn rfl (by omega) (by omega) fun st2 hb2 e2=>⟨⟨trivial,trivial,P'++V',Y,X,Q',?_,by simp only[List.length_append];omega,by omega,by omega,by omega,by omega,by simpa using hb2,e.trans e2⟩,by omega⟩
  rw[<-hfin];simp
 ·have hjw:i64.wrap (i64.wrap (((P.length+U.length:Nat):Int)+(V'.length:Int))-(U'.length:Int))=(P'.length:Int)+(V'.length:Int):=by
   rw[Ad (((P.length+U.length:Nat):Int)+(V'.length:Int)) (by omega) (by omega),Ad _ (by omega) (by omega)];omega
  rw[wa,hjw,Ad _ (by omega) (by omega)]
  have hX:V'=V'.take (V'.length-U'.length)++V'.drop (V'.length-U'.length):=(List.take_append_drop _ _).symm
  have l1:(V'.take (V'.length-U'.length)).length=V'.length-U'.length:=by simp
  have l2:(V'.drop (V'.length-U'.length)).length=U'.length:=by simp;omega
  generalize V'.take (V'.length-U'.length)=Y at*
  generalize V'.drop (V'.length-U'.length)=Z at*
  subst hX
  simp only[List.length_append]at*
  refine Iz (P:=P') (X:=U') (Y:=Y) (Z:=Z) (Q:=Q') (by simpa using hb) (by omega) hn rfl (by omega) rfl fun st2 hb2 e2=>⟨⟨trivial,trivial,P',Z,Y,U'++Q',?_,by omega,by omega,by omega,by omega,by omega,by simpa using hb2,e.trans e2⟩,by omega⟩
  rw[<-hfin];simp
 ·have huv:U'.length=V'.length:=by omega
  rw[wa]
  refine Iz (P:=P') (X:=U') (Y:=[]) (Z:=V') (Q:=Q') (by simpa using hb) huv.symm hn rfl (by simp;omega) rfl fun st2 hb2 e2=>hk _ ?_ (e.trans e2)
  rw[<-hfin];simpa using hb2
end
end
section
section
variable {st:St} {b n cap:Nat} {cks:List (List TV)}
def FC (c:List TV):B8:=match c with | .str k::_=>k | _=>[]
def NX (cmp:TV):Prop:=∀(c d:List TV) (st:St) (K:Int->St->Prop),Ck c->Ck d->(∀(r:Int) st',Ah st st'->(r<0↔Op.bytesLess (FC c) (FC d)=true)->K r st')->He PR cmp [.agg c,.agg d] [.one (.int .i64)] st K
theorem Re {I J:Int} {i j:Nat} {x y:List TV} {K:St->Prop} (h:BxF st b n cap cks) (hI:I=(i:Int)) (hJ:J=(j:Int)) (hi:cks[i]? =some x) (hj:cks[j]? =some y) (hk:∀st',BxF st' b n cap ((cks.set i y).set j x)->StX (·=b) st st'->K st'):
  ((0<=J/\J<(lenZ 14 (.ms 14 b 0 n cap):Int))/\Ak ((Al st [] (.t (ixT 14 (.ms 14 b 0 n cap) (Int.toNat J))) 0 14).map TV.agg) (fun (x1:TV)=>B4 [.str,.int .i64,.bool,.bool,.str,.int .i64,.int .i64,.int .i64,.int .i64,.int .i64,.str,.tv,.tv,.tv] x1 (fun (a0:B8) (a1:Int) (a2:Bool) (a3:Bool) (a4:B8) (a5:Int) (a6:Int) (a7:Int) (a8:Int) (a9:Int) (a10:B8) (a11:TV) (a12:TV) (a13:TV)=>((0<=I/\I<(lenZ 14 (.ms 14 b 0 n cap):Int))/\Ak ((Al st [] (.t (ixT 14 (.ms 14 b 0 n cap) (Int.toNat I))) 0 14).map TV.agg) (fun (x2:TV)=>B4 [.str,.int .i64,.bool,.bool,.str,.int .i64,.int .i64,.int .i64,.int .i64,.int .i64,.str,.tv,.tv,.tv] x2 (fun (c0:B8) (c1:Int) (c2:Bool) (c3:Bool) (c4:B8) (c5:Int) (c6:Int) (c7:Int) (c8:Int) (c9:Int) (c10:B8) (c11:TV) (c12:TV) (c13:TV)=>((0<=I/\I<(lenZ 14 (.ms 14 b 0 n cap):Int))/\need (List.all [(.str a0),(.int .i64 a1),(.bool a2),(.bool a3),(.str a4),(.int .i64 a5),(.int .i64 a6),(.int .i64 a7),(.int .i64 a8),(.int .i64 a9),(.str a10),a11,a12,a13] Ar) (stB st (ixT 14 (.ms 14 b 0 n cap) (Int.toNat I)) [(.str a0),(.int .i64 a1),(.bool a2),(.bool a3),(.str a4),(.int .i64 a5),(.int .i64 a6),(.int .i64 a7),(.int .i64 a8),(.int .i64 a9),(.str a10),a11,a12,a13] (fun (st2:St)=>((0<=J/\J<(lenZ 14 (.ms 14 b 0 n cap):Int))/\need (List.all [(.str c0),(.int .i64 c1),(.bool c2),(.bool c3),(.str c4),(.int .i64 c5),(.int .i64 c6),(.int .i64 c7),(.int .i64 c8),(.int .i64 c9),(.str c10),c11,c12,c13] Ar) (stB st2 (ixT 14 (.ms 14 b 0 n cap) (Int.toNat J)) [(.str c0),(.int .i64 c1),(.bool c2),(.bool c3),(.str c4),(.int .i64 c5),(.int .i64 c6),(.int .i64 c7),(.int .i64 c8),(.int .i64 c9),(.str c10),c11,c12,c13] K))))))))))):=by
 subst hI hJ
 have li:=(List.getElem?_eq_some_iff.1 hi).1
 have lj:=(List.getElem?_eq_some_iff.1 hj).1
 have cx:=h.ck _ (List.mem_of_getElem? hi)
 have cy:=h.ck _ (List.mem_of_getElem? hj)
 have l1:=h.ld hj
 have l2:=h.ld hi
 have o1:=cx.one
 have o2:=cy.one
 have cx':=cx
 have cy':=cy
 simp only[Int.toNat_natCast]
 rw[h.lenZ]
 obtain⟨kx,n1,b1,b2,s2,n2,n3,n4,n5,n6,s3,u1,u2,u3,rfl,_⟩:=cx
 obtain⟨ky,m1,c1,c2,t2,m2,m3,m4,m5,m6,t3,v1,v2,v3,rfl,_⟩:=cy
 refine⟨⟨by omega,by omega⟩,Ac l1 (IV ⟨⟨by omega,by omega⟩,Ac l2 (IV ⟨⟨by omega,by omega⟩,Ab o2 (h.st hi cy' fun st2 hb2 e2=>⟨⟨by omega,by omega⟩,Ab o1 ?_⟩)⟩)⟩)⟩
 obtain⟨z,hz⟩:∃z,(cks.set i [.str ky,.int .i64 m1,.bool c1,.bool c2,.str t2,.int .i64 m2,.int .i64 m3,.int .i64 m4,.int .i64 m5,.int .i64 m6,.str t3,v1,v2,v3])[j]? =some z:=⟨_,List.getElem?_eq_getElem (by rw[List.length_set];exact lj)⟩
 exact hb2.st hz cx' fun st3 hb3 e3=>hk st3 hb3 (e2.trans e3)
theorem RW {cmp:TV} (hc:NX cmp) {I J:Int} {i j:Nat} {x y:List TV} {K:Int->St->Prop} (h:BxF st b n cap cks) (hI:I=(i:Int)) (hJ:J=(j:Int)) (hi:cks[i]? =some x) (hj:cks[j]? =some y) (hk:∀(r:Int) st',Ah st st'->(r<0↔Op.bytesLess (FC x) (FC y)=true)->K r st'):
  ((0<=I/\I<(lenZ 14 (.ms 14 b 0 n cap):Int))/\Ak ((Al st [] (.t (ixT 14 (.ms 14 b 0 n cap) (Int.toNat I))) 0 14).map TV.agg) (fun (x1:TV)=>B4 [.str,.int .i64,.bool,.bool,.str,.int .i64,.int .i64,.int .i64,.int .i64,.int .i64,.str,.tv,.tv,.tv] x1 (fun (a0:B8) (a1:Int) (a2:Bool) (a3:Bool) (a4:B8) (a5:Int) (a6:Int) (a7:Int) (a8:Int) (a9:Int) (a10:B8) (a11:TV) (a12:TV) (a13:TV)=>((0<=J/\J<(lenZ 14 (.ms 14 b 0 n cap):Int))/\Ak ((Al st [] (.t (ixT 14 (.ms 14 b 0 n cap) (Int.toNat J))) 0 14).map TV.agg) (fun (x2:TV)=>B4 [.str,.int .i64,.bool,.bool,.str,.int .i64,.int .i64,.int .i64,.int .i64,.int .i64,.str,.tv,.tv,.tv] x2 (fun (c0:B8) (c1:Int) (c2:Bool) (c3:Bool) (c4:B8) (c5:Int) (c6:Int) (c7:Int) (c8:Int) (c9:Int) (c10:B8) (c11:TV) (c12:TV) (c13:TV)=>He PR cmp [(.agg [(.str a0),(.int .i64 a1),(.bool a2),(.bool a3),(.str a4),(.int .i64 a5),(.int .i64 a6),(.int .i64 a7),(.int .i64 a8),(.int .i64 a9),(.str a10),a11,a12,a13]),(.agg [(.str c0),(.int .i64 c1),(.bool c2),(.bool c3),(.str c4),(.int .i64 c5),(.int .i64 c6),(.int .i64 c7),(.int .i64 c8),(.int .i64 c9),(.str c10),c11,c12,c13])] [.one (.int .i64)] st K)))))):=by
 subst hI hJ
 have li:=(List.getElem?_eq_some_iff.1 hi).1
 have lj:=(List.getElem?_eq_some_iff.1 hj).1
 have cx:=h.ck _ (List.mem_of_getElem? hi)
 have cy:=h.ck _ (List.mem_of_getElem? hj)
 have l1:=h.ld hi
 have l2:=h.ld hj
 have cx':=cx
 have cy':=cy
 simp only[Int.toNat_natCast]
 rw[h.lenZ]
 obtain⟨kx,n1,b1,b2,s2,n2,n3,n4,n5,n6,s3,u1,u2,u3,rfl,_⟩:=cx
 obtain⟨ky,m1,c1,c2,t2,m2,m3,m4,m5,m6,t3,v1,v2,v3,rfl,_⟩:=cy
 exact⟨⟨by omega,by omega⟩,Ac l1 (IV ⟨⟨by omega,by omega⟩,Ac l2 (IV (hc _ _ _ _ cx' cy' hk))⟩)⟩
theorem BxF.ext {st':St} (h:BxF st b n cap cks) (e:Ah st st'):BxF st' b n cap cks:=⟨Nat.lt_of_lt_of_le h.lt e.nb,h.len,h.le,h.ck,by
 obtain⟨t,h1,h2⟩:=h.box
 exact⟨t,(e.box b h.lt).trans h1,h2⟩⟩
end
end
section
theorem FB:∀x:B8,Op.bytesLess x x=false
 | []=>rfl
 | a::x=>by
  have:=FB x
  simp[Op.bytesLess,this]
theorem IK:∀x y:B8,Op.bytesLess x y=true->Op.bytesLess y x=false
 | [],[],h=>by cases h
 | [],b::y,h=>rfl
 | a::x,[],h=>by cases h
 | a::x,b::y,h=>by
  simp only[Op.bytesLess,Bool.or_eq_true,Bool.and_eq_true,decide_eq_true_eq,beq_iff_eq]at h
  simp only[Op.bytesLess,Bool.or_eq_false_iff,Bool.and_eq_false_iff,decide_eq_false_iff_not,beq_eq_false_iff_ne]
  rcases h with h | ⟨rfl,h⟩
  ·exact⟨fun g=>absurd (UInt8.lt_trans h g) (UInt8.lt_irrefl _),.inl (fun e=>by subst e;exact UInt8.lt_irrefl _ h)⟩
  ·exact⟨UInt8.lt_irrefl _,.inr (IK x y h)⟩
theorem GC:∀x y z:B8,Op.bytesLess y x=false->Op.bytesLess z y=false->Op.bytesLess z x=false
 | [],_,[],_,_=>rfl
 | a::x,_,[],h1,h2=>by
  rename_i y
  cases y with
  | nil=>cases h1
  | cons b y=>cases h2
 | [],y,c::z,_,_=>rfl
 | a::x,[],c::z,h1,h2=>by cases h1
 | a::x,b::y,c::z,h1,h2=>by
  simp only[Op.bytesLess,Bool.or_eq_false_iff,Bool.and_eq_false_iff,decide_eq_false_iff_not,beq_eq_false_iff_ne,UInt8.not_lt]at h1 h2⊢
  obtain⟨h1,h3⟩:=h1
  obtain⟨h2,h4⟩:=h2
  refine⟨UInt8.le_trans h1 h2,?_⟩
  by_cases hca:c=a
  ·right
   subst hca
   have hbc:b=c:=UInt8.le_antisymm h2 h1
   subst hbc
   exact GC x y z (h3.resolve_left (fun h=>h rfl)) (h4.resolve_left (fun h=>h rfl))
  ·exact .inl hca
def lek (c d:List TV):Prop:=Op.bytesLess (FC d) (FC c)=false
theorem Kp (x y z:List TV) (h1:lek x y) (h2:lek y z):lek x z:=GC _ _ _ h1 h2
theorem Ml (x:List TV):lek x x:=FB _
theorem G9 {x y:List TV} (h:Op.bytesLess (FC x) (FC y)=true):lek x y:=IK _ _ h
section
variable {st:St} {b n cap:Nat}
theorem Mp {P L Q:List (List TV)} {cmp:TV} (hc:NX cmp) (h:BxF st b n cap (P++L++Q)) (hn:n<=100000000) {A B:Int} (hA:A=(P.length:Int)) (hB:B=((P.length+L.length:Nat):Int)) {K:St->Prop}
  (hk:∀st' M,M.Perm L->Srt lek M->BxF st' b n cap (P++M++Q)->StX (·=b) st st'->K st'):
  CallT PR AN [.ms 14 b 0 n cap,.int .i64 A,.int .i64 B,cmp] [] st K:=by
 have hlen:=h.len
 simp only[List.length_append]at hlen
 refine BF _ A B cmp st K ⟨fun i d a b' c' st'=>d= .ms 14 b 0 n cap/\a=A/\b'=B/\cmp=c'/\∃(k:Nat) (M R:List (List TV)),i=((P.length+k:Nat):Int)/\1<=k/\k<=L.length+1/\M.length=min k L.length/\(M++R).Perm L/\Srt lek M/\BxF st' b n cap (P++M++R++Q)/\StX (·=b) st st',
  fun i _ _ _ _ _=>(P.length+L.length+1-i).toNat,⟨rfl,rfl,rfl,rfl,1,L.take 1,L.drop 1,?_,Nat.le_refl _,by omega,by simp,(by rw[List.take_append_drop]),?_,(by rw[List.append_assoc P,List.take_append_drop];exact h),StX.refl _ _⟩,?_⟩
 ·rw[Ad _ (by omega) (by omega)];omega
 ·cases L with
  | nil=>exact List.Pairwise.nil
  | cons x L=>exact List.pairwise_singleton _ _
 rintro _ _ _ _ _ st1 ⟨rfl,rfl,rfl,rfl,k,M,R,rfl,hk1,hkl,hM,hp,hs,hb,e⟩
 subst hA hB
 refine Aa (fun g=>?_) fun g=>?_
 ·have hml:M.length=k:=by omega
  have hpl:=hp.length_eq
  simp only[List.length_append]at hpl
  obtain⟨x,R',rfl⟩:∃x R',R=x::R':=by cases R with | nil=>simp at hpl;omega | cons x R=>exact⟨x,R,rfl⟩
  simp only[List.length_cons]at hpl
  refine⟨fun j d a b' c' i' st'=>d= .ms 14 b 0 n cap/\a=(P.length:Int)/\b'=((P.length+L.length:Nat):Int)/\cmp=c'/\i'=((P.length+k:Nat):Int)/\∃A' B':List (List TV),j=((P.length+A'.length:Nat):Int)/\A'.length+B'.length=k/\(A'++x::B'++R').Perm L/\Srt lek (A'++B')/\(∀y,B'.head? =some y->lek x y)/\BxF st' b n cap (P++(A'++x::B')++R'++Q)/\StX (·=b) st st',
   fun j _ _ _ _ _ _=>j.toNat,⟨rfl,rfl,rfl,rfl,rfl,M,[],by omega,by simpa using hml,by simpa using hp,by simpa using hs,fun y hy=>by simp at hy,by simpa using hb,e⟩,?_⟩
  rintro _ _ _ _ _ _ st2 ⟨rfl,rfl,rfl,rfl,rfl,A',B',rfl,hab,hp2,hs2,hx,hb2,e2⟩
  have hp2l:=hp2.length_eq
  simp only[List.length_append,List.length_cons]at hp2l
  have next:∀st',StX (·=b) st st'->BxF st' b n cap (P++(A'++x::B')++R'++Q)->(∀y,A'.getLast? =some y->lek y x)->
    ∃(k':Nat) (M R:List (List TV)),i64.wrap (((P.length+k:Nat):Int)+1)=((P.length+k':Nat):Int)/\1<=k'/\k'<=L.length+1/\M.length=min k' L.length/\(M++R).Perm L/\Srt lek M/\BxF st' b n cap (P++M++R++Q)/\StX (·=b) st st':=fun st' e' hb' hy=>
   ⟨k+1,A'++x::B',R',by rw[Ad _ (by omega) (by omega)];omega,by omega,by omega,by simp only[List.length_append,List.length_cons];omega,hp2,Rh Kp Ml hs2 hy hx,hb',e'⟩
  have ms:(P.length+L.length+1-i64.wrap (((P.length+k:Nat):Int)+1)).toNat<(P.length+L.length+1-((P.length+k:Nat):Int)).toNat:=by
   rw[Ad _ (by omega) (by omega)];omega
  refine Aa (fun g2=>?_) fun g2=>?_
  ·have hA0:A'≠ []:=by intro h0;subst h0;simp at g2
   obtain⟨A'',y,hA'⟩:∃A'' y,A'=A''++[y]:=⟨_,_,(List.dropLast_concat_getLast hA0).symm⟩
   subst hA'
   simp only[List.length_append,List.length_cons,List.length_nil]at hab g2 hp2l
   have wj:i64.wrap (((P.length+(A''++[y]).length:Nat):Int)-1)=((P.length+A''.length:Nat):Int):=by
    rw[Ad _ (by simp;omega) (by simp;omega)];simp;omega
   have ec:P++(A''++[y]++x::B')++R'++Q=(P++A'')++y::x::(B'++R'++Q):=by simp
   have gi:(P++(A''++[y]++x::B')++R'++Q)[P.length+(A''++[y]).length]? =some x:=by
    rw[ec,List.getElem?_append_right (by simp)]
    simp[show P.length+(A''.length+1)-(P.length+A''.length)=1 by omega]
   have gj:(P++(A''++[y]++x::B')++R'++Q)[P.length+A''.length]? =some y:=by
    rw[ec,List.getElem?_append_right (by simp)]
    simp
   rw[wj]
   refine RW hc hb2 rfl rfl gi gj fun r st3 e3 hr=>?_
   have hb3:=hb2.ext e3
   have e23:=e2.trans (StX.of e3)
   refine Aa (fun g3=>?_) fun g3=>?_
   ·refine Re hb3 rfl rfl gi gj fun st4 hb4 e4=>?_
    have hset:((P++(A''++[y]++x::B')++R'++Q).set (P.length+(A''++[y]).length) y).set (P.length+A''.length) x=P++(A''++x::y::B')++R'++Q:=by
     rw[ec,List.set_append_right _ _ (by simp)]
     rw[show P.length+(A''++[y]).length-(P++A'').length=1 by simp only[List.length_append,List.length_cons,List.length_nil];omega,List.set_cons_succ,List.set_cons_zero,List.set_append_right _ _ (by simp)]
     rw[show P.length+A''.length-(P++A'').length=0 by simp,List.set_cons_zero]
     simp
    rw[hset]at hb4
    refine⟨⟨rfl,rfl,rfl,rfl,rfl,A'',y::B',rfl,by simp only[List.length_cons];omega,?_,by simpa using hs2,fun z hz=>?_,hb4,e23.trans e4⟩,by simp;omega⟩
    ·refine List.Perm.trans ?_ hp2
     simp only[List.append_assoc,List.cons_append,List.nil_append]
     exact List.Perm.append_left _ (List.Perm.swap _ _ _)
    ·simp at hz;subst hz
     exact G9 (hr.1 g3)
   ·refine⟨⟨rfl,rfl,rfl,rfl,next st3 e23 hb3 fun z hz=>?_⟩,ms⟩
    simp at hz;subst hz
    cases hq:Op.bytesLess (FC x) (FC y)with
    | true=>exact absurd (hr.2 hq) g3
    | false=>exact hq
  ·have hA0:A'=[]:=by
    cases A' with
    | nil=>rfl
    | cons z A'=>simp at g2;omega
   exact⟨⟨rfl,rfl,rfl,rfl,next st2 e2 hb2 fun z hz=>by subst hA0;simp at hz⟩,ms⟩
 ·have hp':=hp.length_eq
  simp only[List.length_append]at hp'
  have hR:R=[]:=List.eq_nil_of_length_eq_zero (by omega)
  subst hR
  exact hk st1 M (by simpa using hp) hs (by simpa using hb) e
end
end
section
theorem Mr (i j:Nat) (h:i+j<=1000000000):i64.wrap (Int.fdiv (IntKind.u64.wrap (i64.wrap ((i:Int)+(j:Int)))) (2^(min (Int.toNat (1:Int)) (IntKind.bits .u64))))=(((i+j)/2:Nat):Int):=by
 rw[Ad ((i:Int)+(j:Int)) (by omega) (by omega)]
 have hu:IntKind.u64.wrap ((i:Int)+(j:Int))=((i+j:Nat):Int):=by
  unfold IntKind.wrap
  simp only[IntKind.signed,IntKind.bits]
  simp
  omega
 rw[hu]
 have h2:((2:Int)^(min (Int.toNat (1:Int)) (IntKind.bits .u64)))=2:=by decide
 rw[h2]
 have h3:Int.fdiv ((i+j:Nat):Int) 2=(((i+j)/2:Nat):Int):=by
  rw[Int.fdiv_eq_ediv_of_nonneg _ (by omega)];omega
 rw[h3,Ad _ (by omega) (by omega)]
theorem Gf {α:Type} {l:List α} {k:Nat} {x:α} (h:l[k]? =some x):(l.take (k+1)).getLast? =some x:=by
 obtain⟨hk,rfl⟩:=List.getElem?_eq_some_iff.1 h
 rw[List.take_succ_eq_append_getElem hk,List.getLast?_concat]
theorem Kr {α:Type} {l:List α} {k:Nat} {x:α} (h:l[k]? =some x):(l.drop k).head? =some x:=by
 rw[List.head?_drop,h]
section
variable {st:St} {b n cap:Nat}
theorem sm_one {P R Q:List (List TV)} {x:List TV} {cmp:TV} (hc:NX cmp) (h:BxF st b n cap (P++[x]++R++Q)) (hn:n<=100000000) (hs:Srt lek R) (hR:0<R.length) {A M B:Int} (hA:A=(P.length:Int)) (hM:M=((P.length+1:Nat):Int)) (hB:B=((P.length+1+R.length:Nat):Int)) {K:St->Prop}
  (hk:∀st' W,W.Perm ([x]++R)->Srt lek W->BxF st' b n cap (P++W++Q)->StX (·=b) st st'->K st'):
  CallT PR Ag [.ms 14 b 0 n cap,.int .i64 A,.int .i64 M,.int .i64 B,cmp] [] st K:=by
 have hlen:=h.len
 simp only[List.length_append,List.length_cons,List.length_nil]at hlen
 refine Be _ A M B cmp st K (Aa (fun _=>?_) fun g=>absurd (by subst hA hM;rw[Ad _ (by omega) (by omega)];omega) g)
 refine⟨fun i j d a c' st'=>d= .ms 14 b 0 n cap/\a=A/\cmp=c'/\∃u v:Nat,i=((P.length+1+u:Nat):Int)/\j=((P.length+1+v:Nat):Int)/\u<=v/\v<=R.length/\(∀y,(R.take u).getLast? =some y->lek y x)/\(∀y,(R.drop v).head? =some y->lek x y)/\BxF st' b n cap (P++[x]++R++Q)/\StX (·=b) st st',
  fun i j _ _ _ _=>(j-i).toNat,⟨rfl,rfl,rfl,0,R.length,by omega,by omega,Nat.zero_le _,Nat.le_refl _,fun y hy=>by simp at hy,fun y hy=>by simp at hy,h,StX.refl _ _⟩,?_⟩
 rintro _ _ _ _ _ st1 ⟨rfl,rfl,rfl,u,v,rfl,rfl,huv,hv,h1,h2,hb,e⟩
 subst hA hM hB
 have gx:(P++[x]++R++Q)[P.length]? =some x:=by simp
 refine Aa (fun g=>?_) fun g=>?_
 ·rw[Mr _ _ (by omega)]
  obtain⟨w,hw⟩:∃w,(P.length+1+u+(P.length+1+v))/2=P.length+1+w:=⟨(u+v)/2,by omega⟩
  have hwu:u<=w:=by omega
  have hwv:w<v:=by omega
  have hwr:w<R.length:=by omega
  rw[hw]
  have gy:(P++[x]++R++Q)[P.length+1+w]? =some R[w]:=by
   rw[List.append_assoc (P++[x]),List.getElem?_append_right (by simp only[List.length_append,List.length_cons,List.length_nil];omega),List.getElem?_append_left (by simp only[List.length_append,List.length_cons,List.length_nil];omega)]
   simp[show P.length+1+w-(P.length+1)=w by omega,hwr]
  have gw:R[w]? =some R[w]:=List.getElem?_eq_getElem hwr
  refine RW hc hb rfl rfl gy gx fun r st2 e2 hr=>?_
  have hb2:=hb.ext e2
  have e12:=e.trans (StX.of e2)
  refine Aa (fun g3=>?_) fun g3=>?_
  ·exact⟨⟨rfl,rfl,rfl,w+1,v,by rw[Ad _ (by omega) (by omega)];omega,rfl,by omega,hv,fun y hy=>by rw[Gf gw]at hy;cases hy;exact G9 (hr.1 g3),h2,hb2,e12⟩,by dsimp only;rw[Ad _ (by omega) (by omega)];omega⟩
  ·refine⟨⟨rfl,rfl,rfl,u,w,rfl,rfl,hwu,by omega,h1,fun y hy=>?_,hb2,e12⟩,by dsimp only;omega⟩
   rw[Kr gw]at hy;cases hy
   cases hq:Op.bytesLess (FC R[w]) (FC x)with
   | true=>exact absurd (hr.2 hq) g3
   | false=>exact hq
 ·obtain rfl:u=v:=by omega
  refine⟨fun k d i st'=>d= .ms 14 b 0 n cap/\i=((P.length+1+u:Nat):Int)/\∃w:Nat,k=((P.length+w:Nat):Int)/\w<=u/\BxF st' b n cap (P++R.take w++[x]++R.drop w++Q)/\StX (·=b) st st',
   fun k _ _ _=>(P.length+u-k).toNat,⟨rfl,rfl,0,by omega,Nat.zero_le _,by simpa using hb,e⟩,?_⟩
  rintro _ _ _ st3 ⟨rfl,rfl,w,rfl,hwu,hb3,e3⟩
  have wi:i64.wrap (((P.length+1+u:Nat):Int)-1)=((P.length+u:Nat):Int):=by rw[Ad _ (by omega) (by omega)];omega
  rw[wi]
  refine Aa (fun g4=>?_) fun g4=>?_
  ·have hwr:w<R.length:=by omega
   have wk:i64.wrap (((P.length+w:Nat):Int)+1)=((P.length+w+1:Nat):Int):=by rw[Ad _ (by omega) (by omega)];omega
   have hd:R.drop w=R[w]::R.drop (w+1):=List.drop_eq_getElem_cons hwr
   have ec:P++R.take w++[x]++R.drop w++Q=(P++R.take w)++x::R[w]::(R.drop (w+1)++Q):=by rw[hd];simp only[List.append_assoc,List.cons_append,List.nil_append]
   have lc:(P++R.take w).length=P.length+w:=by simp;omega
   rw[ec]at hb3
   have gi:((P++R.take w)++x::R[w]::(R.drop (w+1)++Q))[P.length+w]? =some x:=by
    rw[List.getElem?_append_right (by omega),lc,Nat.sub_self];rfl
   have gj:((P++R.take w)++x::R[w]::(R.drop (w+1)++Q))[P.length+w+1]? =some R[w]:=by
    rw[List.getElem?_append_right (by omega),lc,show P.length+w+1-(P.length+w)=1 by omega];rfl
   rw[wk]
   refine Re hb3 rfl rfl gi gj fun st4 hb4 e4=>⟨⟨rfl,rfl,w+1,rfl,by omega,?_,e3.trans e4⟩,by dsimp only;omega⟩
   have hset:((((P++R.take w)++x::R[w]::(R.drop (w+1)++Q)).set (P.length+w) R[w]).set (P.length+w+1) x)=P++R.take (w+1)++[x]++R.drop (w+1)++Q:=by
    rw[List.set_append_right _ _ (by omega),lc,Nat.sub_self,List.set_cons_zero,List.set_append_right _ _ (by omega),lc,show P.length+w+1-(P.length+w)=1 by omega,List.set_cons_succ,List.set_cons_zero]
    have t1:R.take (w+1)=R.take w++[R[w]]:=by rw[List.take_succ_eq_append_getElem hwr]
    rw[t1];simp only[List.append_assoc,List.cons_append,List.nil_append]
   rw[hset]at hb4
   exact hb4
  ·obtain rfl:w=u:=by omega
   refine hk st3 (R.take w++x::R.drop w) ?_ (Rh Kp Ml (by rw[List.take_append_drop];exact hs) h1 h2) (by simpa using hb3) e3
   refine List.perm_middle.trans ?_
   rw[List.take_append_drop];exact List.Perm.refl _
theorem sm_two {P L Q:List (List TV)} {x:List TV} {cmp:TV} (hc:NX cmp) (h:BxF st b n cap (P++L++[x]++Q)) (hn:n<=100000000) (hs:Srt lek L) (hL:1<L.length) {A M B:Int} (hA:A=(P.length:Int)) (hM:M=((P.length+L.length:Nat):Int)) (hB:B=((P.length+L.length+1:Nat):Int)) {K:St->Prop}
  (hk:∀st' W,W.Perm (L++[x])->Srt lek W->BxF st' b n cap (P++W++Q)->StX (·=b) st st'->K st'):
  CallT PR Ag [.ms 14 b 0 n cap,.int .i64 A,.int .i64 M,.int .i64 B,cmp] [] st K:=by
 have hlen:=h.len
 simp only[List.length_append,List.length_cons,List.length_nil]at hlen
 refine Be _ A M B cmp st K (Aa (fun g=>absurd g (by subst hA hM;rw[Ad _ (by omega) (by omega)];omega)) fun _=>Aa (fun _=>?_) fun g=>absurd (by subst hB hM;rw[Ad _ (by omega) (by omega)];omega) g)
 refine⟨fun i j d m c' st'=>d= .ms 14 b 0 n cap/\m=M/\cmp=c'/\∃u v:Nat,i=((P.length+u:Nat):Int)/\j=((P.length+v:Nat):Int)/\u<=v/\v<=L.length/\(∀y,(L.take u).getLast? =some y->lek y x)/\(∀y,(L.drop v).head? =some y->lek x y)/\BxF st' b n cap (P++L++[x]++Q)/\StX (·=b) st st',
  fun i j _ _ _ _=>(j-i).toNat,⟨rfl,rfl,rfl,0,L.length,by omega,by omega,Nat.zero_le _,Nat.le_refl _,fun y hy=>by simp at hy,fun y hy=>by simp at hy,h,StX.refl _ _⟩,?_⟩
 rintro _ _ _ _ _ st1 ⟨rfl,rfl,rfl,u,v,rfl,rfl,huv,hv,h1,h2,hb,e⟩
 subst hA hM hB
 have gx:(P++L++[x]++Q)[P.length+L.length]? =some x:=by
  rw[List.append_assoc (P++L),List.getElem?_append_right (by simp),List.length_append,Nat.sub_self];rfl
 refine Aa (fun g=>?_) fun g=>?_
 ·rw[Mr _ _ (by omega)]
  obtain⟨w,hw⟩:∃w,(P.length+u+(P.length+v))/2=P.length+w:=⟨(u+v)/2,by omega⟩
  have hwu:u<=w:=by omega
  have hwv:w<v:=by omega
  have hwr:w<L.length:=by omega
  rw[hw]
  have gy:(P++L++[x]++Q)[P.length+w]? =some L[w]:=by
   rw[List.append_assoc,List.append_assoc,List.getElem?_append_right (by omega),List.getElem?_append_left (by omega),Nat.add_sub_cancel_left]
   exact List.getElem?_eq_getElem hwr
  have gw:L[w]? =some L[w]:=List.getElem?_eq_getElem hwr
  refine RW hc hb rfl rfl gx gy fun r st2 e2 hr=>?_
  have hb2:=hb.ext e2
  have e12:=e.trans (StX.of e2)
  refine Aq (fun g3=>?_) fun g3=>?_
  ·refine⟨⟨rfl,rfl,rfl,w+1,v,by rw[Ad _ (by omega) (by omega)];omega,rfl,by omega,hv,fun y hy=>?_,h2,hb2,e12⟩,by dsimp only;rw[Ad _ (by omega) (by omega)];omega⟩
   rw[Gf gw]at hy;cases hy
   cases hq:Op.bytesLess (FC x) (FC L[w])with
   | true=>have:=hr.2 hq;simp at g3;omega
   | false=>exact hq
  ·exact⟨⟨rfl,rfl,rfl,u,w,rfl,rfl,hwu,by omega,h1,fun y hy=>by rw[Kr gw]at hy;cases hy;exact G9 (hr.1 (by simpa using g3)),hb2,e12⟩,by dsimp only;omega⟩
 ·obtain rfl:u=v:=by omega
  refine⟨fun k d i st'=>d= .ms 14 b 0 n cap/\i=((P.length+u:Nat):Int)/\∃w:Nat,k=((P.length+w:Nat):Int)/\u<=w/\w<=L.length/\BxF st' b n cap (P++L.take w++[x]++L.drop w++Q)/\StX (·=b) st st',
   fun k _ _ _=>k.toNat,⟨rfl,rfl,L.length,by omega,hv,Nat.le_refl _,by simpa using hb,e⟩,?_⟩
  rintro _ _ _ st3 ⟨rfl,rfl,w,rfl,hwu,hwl,hb3,e3⟩
  refine Aa (fun g4=>?_) fun g4=>?_
  ·obtain⟨w,rfl⟩:∃w',w=w'+1:=⟨w-1,by omega⟩
   have hwr:w<L.length:=by omega
   have wk:i64.wrap (((P.length+(w+1):Nat):Int)-1)=((P.length+w:Nat):Int):=by rw[Ad _ (by omega) (by omega)];omega
   have t1:L.take (w+1)=L.take w++[L[w]]:=by rw[List.take_succ_eq_append_getElem hwr]
   have ec:P++L.take (w+1)++[x]++L.drop (w+1)++Q=(P++L.take w)++L[w]::x::(L.drop (w+1)++Q):=by rw[t1];simp only[List.append_assoc,List.cons_append,List.nil_append]
   have lc:(P++L.take w).length=P.length+w:=by simp;omega
   rw[ec]at hb3
   have gi:((P++L.take w)++L[w]::x::(L.drop (w+1)++Q))[P.length+(w+1)]? =some x:=by
    rw[List.getElem?_append_right (by omega),lc,show P.length+(w+1)-(P.length+w)=1 by omega];rfl
   have gj:((P++L.take w)++L[w]::x::(L.drop (w+1)++Q))[P.length+w]? =some L[w]:=by
    rw[List.getElem?_append_right (by omega),lc,Nat.sub_self];rfl
   rw[wk]
   refine Re hb3 rfl rfl gi gj fun st4 hb4 e4=>⟨⟨rfl,rfl,w,rfl,by omega,by omega,?_,e3.trans e4⟩,by dsimp only;omega⟩
   have hset:((((P++L.take w)++L[w]::x::(L.drop (w+1)++Q)).set (P.length+(w+1)) L[w]).set (P.length+w) x)=P++L.take w++[x]++L.drop w++Q:=by
    rw[List.set_append_right _ _ (by omega),lc,show P.length+(w+1)-(P.length+w)=1 by omega,List.set_cons_succ,List.set_cons_zero,List.set_append_right _ _ (by omega),lc,Nat.sub_self,List.set_cons_zero]
    have hd:L.drop w=L[w]::L.drop (w+1):=List.drop_eq_getElem_cons hwr
    rw[hd];simp only[List.append_assoc,List.cons_append,List.nil_append]
   rw[hset]at hb4
   exact hb4
  ·obtain rfl:w=u:=by omega
   refine hk st3 (L.take w++x::L.drop w) ?_ (Rh Kp Ml (by rw[List.take_append_drop];exact hs) h1 h2) (by simpa using hb3) e3
   refine List.perm_middle.trans ?_
   rw[List.take_append_drop]
   exact List.perm_append_comm (l₁:=[x])
end
end
section
section
variable {b n cap:Nat}
theorem ND {cmp:TV} (hc:NX cmp) (hn:n<=100000000):∀(N:Nat) {st:St} {P L R Q:List (List TV)} {A M B:Int} {K:St->Prop},L.length+R.length<=N->0<L.length->0<R.length->BxF st b n cap (P++L++R++Q)->Srt lek L->Srt lek R->
  A=(P.length:Int)->M=((P.length+L.length:Nat):Int)->B=((P.length+L.length+R.length:Nat):Int)->
  (∀st' W,W.Perm (L++R)->Srt lek W->BxF st' b n cap (P++W++Q)->StX (·=b) st st'->K st')->
  CallT PR Ag [.ms 14 b 0 n cap,.int .i64 A,.int .i64 M,.int .i64 B,cmp] [] st K:=by
 intro N
 induction N with
 | zero=>intro st P L R Q A M B K h0 h1;omega
 | succ N ih=>
 intro st P L R Q A M B K hN hL hR h sL sR hA hM hB hk
 have hlen:=h.len
 simp only[List.length_append]at hlen
 by_cases hL1:L.length=1
 ·obtain⟨x,rfl⟩:=List.length_eq_one_iff.1 hL1
  exact sm_one hc h hn sR hR hA (by simpa using hM) (by simpa using hB) hk
 by_cases hR1:R.length=1
 ·obtain⟨x,rfl⟩:=List.length_eq_one_iff.1 hR1
  exact sm_two hc h hn sL (by omega) hA hM (by simpa using hB) hk
 subst hA hM hB
 refine Be _ _ _ _ cmp st K (Aa (fun g=>absurd g (by rw[Ad _ (by omega) (by omega)];omega)) fun _=>Aa (fun g=>absurd g (by rw[Ad _ (by omega) (by omega)];omega)) fun _=>?_)
 obtain⟨H,hH⟩:∃H,H=(L.length+R.length)/2:=⟨_,rfl⟩
 have hmid:=Mr P.length (P.length+L.length+R.length) (by omega)
 have hmid2:(P.length+(P.length+L.length+R.length))/2=P.length+H:=by omega
 rw[hmid2]at hmid
 rw[hmid]
 --the bounds of the search
 obtain⟨u0,v0,hb0⟩:∃u0 v0:Nat,(P.length+H<P.length+L.length->u0=H-R.length/\v0=H)/\(¬P.length+H<P.length+L.length->u0=0/\v0=L.length):=by
  by_cases g:P.length+H<P.length+L.length
  ·exact⟨H-R.length,H,fun _=>⟨rfl,rfl⟩,fun g'=>absurd g g'⟩
  ·exact⟨0,L.length,fun g'=>absurd g' g,fun _=>⟨rfl,rfl⟩⟩
 have hnw:i64.wrap (((P.length+H:Nat):Int)+((P.length+L.length:Nat):Int))=((P.length+H+(P.length+L.length):Nat):Int):=by rw[Ad _ (by omega) (by omega)];omega
 rw[hnw]
 refine⟨fun s r d a m b' c mid n' st'=>d= .ms 14 b 0 n cap/\a=(P.length:Int)/\m=((P.length+L.length:Nat):Int)/\b'=((P.length+L.length+R.length:Nat):Int)/\cmp=c/\mid=((P.length+H:Nat):Int)/\n'=((P.length+H+(P.length+L.length):Nat):Int)/\st=st'/\s=((P.length+u0:Nat):Int)/\r=((P.length+v0:Nat):Int),?_,?_⟩
 ·refine Aa (fun g=>?_) fun g=>?_
  ·obtain⟨h1,h2⟩:=hb0.1 (by omega)
   exact⟨rfl,rfl,rfl,rfl,rfl,rfl,rfl,rfl,by rw[Ad _ (by omega) (by omega)];omega,by omega⟩
  ·obtain⟨h1,h2⟩:=hb0.2 (by omega)
   exact⟨rfl,rfl,rfl,rfl,rfl,rfl,rfl,rfl,by omega,by omega⟩
 rintro _ _ _ _ _ _ _ _ _ _ ⟨rfl,rfl,rfl,rfl,rfl,rfl,rfl,rfl,rfl,rfl⟩
 have hu0:u0<=v0/\v0<=L.length/\v0<=H/\H<=u0+R.length:=by
  by_cases g:P.length+H<P.length+L.length
  ·obtain⟨h1,h2⟩:=hb0.1 g;omega
  ·obtain⟨h1,h2⟩:=hb0.2 g;omega
 obtain⟨q1,q2,q3,q4⟩:=hu0
 refine⟨fun s r d a m b' c mid n' p st'=>d= .ms 14 b 0 n cap/\a=(P.length:Int)/\m=((P.length+L.length:Nat):Int)/\b'=((P.length+L.length+R.length:Nat):Int)/\cmp=c/\mid=((P.length+H:Nat):Int)/\n'=((P.length+H+(P.length+L.length):Nat):Int)/\p=((P.length+H+(P.length+L.length):Nat):Int)-1/\
   ∃u v:Nat,s=((P.length+u:Nat):Int)/\r=((P.length+v:Nat):Int)/\u0<=u/\u<=v/\v<=v0/\(∀x,(L.take u).getLast? =some x->∀y,(R.drop (H-u)).head? =some y->lek x y)/\(∀x,(R.take (H-v)).getLast? =some x->∀y,(L.drop v).head? =some y->lek x y)/\BxF st' b n cap (P++L++R++Q)/\StX (·=b) st st',
  fun s r _ _ _ _ _ _ _ _ _=>(r-s).toNat,⟨rfl,rfl,rfl,rfl,rfl,rfl,rfl,by rw[Ad _ (by omega) (by omega)],u0,v0,rfl,rfl,Nat.le_refl _,q1,Nat.le_refl _,?_,?_,h,StX.refl _ _⟩,?_⟩
 ·intro x hx y hy
  by_cases g:P.length+H<P.length+L.length
  ·obtain⟨h1,h2⟩:=hb0.1 g
   rw[List.drop_of_length_le (by omega)]at hy;simp at hy
  ·obtain⟨h1,h2⟩:=hb0.2 g
   rw[h1]at hx;simp at hx
 ·intro x hx y hy
  by_cases g:P.length+H<P.length+L.length
  ·obtain⟨h1,h2⟩:=hb0.1 g
   rw[h2,Nat.sub_self]at hx;simp at hx
  ·obtain⟨h1,h2⟩:=hb0.2 g
   rw[h2,List.drop_length]at hy;simp at hy
 rintro _ _ _ _ _ _ _ _ _ _ st1 ⟨rfl,rfl,rfl,rfl,rfl,rfl,rfl,rfl,u,v,rfl,rfl,hu,huv,hv,j1,j2,hb,e⟩
 refine Aa (fun g=>?_) fun g=>?_
 ·--one step of the search
  rw[Mr _ _ (by omega)]
  obtain⟨w,hw⟩:∃w,(P.length+u+(P.length+v))/2=P.length+w:=⟨(u+v)/2,by omega⟩
  have hwu:u<=w:=by omega
  have hwv:w<v:=by omega
  have hwl:w<L.length:=by omega
  have hwr:H-w-1<R.length:=by omega
  rw[hw]
  have wp:i64.wrap (((P.length+H+(P.length+L.length):Nat):Int)-1-((P.length+w:Nat):Int))=((P.length+L.length+(H-w-1):Nat):Int):=by rw[Ad _ (by omega) (by omega)];omega
  rw[wp]
  have gy:(P++L++R++Q)[P.length+w]? =some L[w]:=by
   rw[List.append_assoc,List.append_assoc,List.getElem?_append_right (by omega),List.getElem?_append_left (by omega),Nat.add_sub_cancel_left]
   exact List.getElem?_eq_getElem hwl
  have gx:(P++L++R++Q)[P.length+L.length+(H-w-1)]? =some R[H-w-1]:=by
   rw[List.append_assoc (P++L),List.getElem?_append_right (by rw[List.length_append];omega),List.length_append,Nat.add_sub_cancel_left,List.getElem?_append_left hwr]
   exact List.getElem?_eq_getElem hwr
  have ly:L[w]? =some L[w]:=List.getElem?_eq_getElem hwl
  have lx:R[H-w-1]? =some R[H-w-1]:=List.getElem?_eq_getElem hwr
  refine RW hc hb rfl rfl gx gy fun r st2 e2 hr=>?_
  have hb2:=hb.ext e2
  have e12:=e.trans (StX.of e2)
  refine Aq (fun g3=>?_) fun g3=>?_
  ·refine⟨⟨rfl,rfl,rfl,rfl,rfl,rfl,rfl,rfl,w+1,v,by rw[Ad _ (by omega) (by omega)];omega,rfl,by omega,by omega,hv,fun x hx y hy=>?_,j2,hb2,e12⟩,by dsimp only;rw[Ad _ (by omega) (by omega)];omega⟩
   rw[Gf ly]at hx;cases hx
   rw[show H-(w+1)=H-w-1 by omega,Kr lx]at hy;cases hy
   cases hq:Op.bytesLess (FC R[H-w-1]) (FC L[w])with
   | true=>have:=hr.2 hq;simp at g3;omega
   | false=>exact hq
  ·refine⟨⟨rfl,rfl,rfl,rfl,rfl,rfl,rfl,rfl,u,w,rfl,rfl,hu,hwu,by omega,j1,fun x hx y hy=>?_,hb2,e12⟩,by dsimp only;omega⟩
   rw[show H-w=H-w-1+1 by omega,Gf lx]at hx;cases hx
   rw[Kr ly]at hy;cases hy
   exact G9 (hr.1 (by simpa using g3))
 ·obtain rfl:u=v:=by omega
  obtain⟨E,hE⟩:∃E,E=H-u:=⟨_,rfl⟩
  rw[<-hE]at j1 j2
  have wend:i64.wrap (((P.length+H+(P.length+L.length):Nat):Int)-((P.length+u:Nat):Int))=((P.length+L.length+E:Nat):Int):=by rw[Ad _ (by omega) (by omega)];omega
  rw[wend]
  have hER:E<=R.length:=by omega
  have huL:u<=L.length:=by omega
  have dL:L=L.take u++L.drop u:=(List.take_append_drop _ _).symm
  have dR:R=R.take E++R.drop E:=(List.take_append_drop _ _).symm
  have a1:(L.take u).length=u:=by simp;omega
  have a2:(L.drop u).length=L.length-u:=by simp
  have a3:(R.take E).length=E:=by simp;omega
  have a4:(R.drop E).length=R.length-E:=by simp
  generalize hL1':L.take u=L1 at*
  generalize hL2':L.drop u=L2 at*
  generalize hR1':R.take E=R1 at*
  generalize hR2':R.drop E=R2 at*
  have sL':Srt lek (L1++L2):=dL▸sL
  have sR':Srt lek (R1++R2):=dR▸sR
  obtain⟨z1,z2,_⟩:=List.pairwise_append.1 sL'
  obtain⟨z3,z4,_⟩:=List.pairwise_append.1 sR'
  --the second half
  have second:∀st2 W1,W1.Perm (L1++R1)->Srt lek W1->BxF st2 b n cap (P++W1++L2++R2++Q)->StX (·=b) st st2->
    BIf (decide (((P.length+H:Nat):Int)<((P.length+L.length+E:Nat):Int))) (BIf (decide (((P.length+L.length+E:Nat):Int)<((P.length+L.length+R.length:Nat):Int)))
     (CallT PR Ag [.ms 14 b 0 n cap,.int .i64 ((P.length+H:Nat):Int),.int .i64 ((P.length+L.length+E:Nat):Int),.int .i64 ((P.length+L.length+R.length:Nat):Int),cmp] [] st2 (fun s=>K s)) (K st2)) (K st2):=by
   intro st2 W1 p1 s1 hb2 e2
   have lw:=p1.length_eq
   rw[List.length_append]at lw
   have fin:∀st3 W2,W2.Perm (L2++R2)->Srt lek W2->BxF st3 b n cap (P++W1++W2++Q)->StX (·=b) st st3->K st3:=fun st3 W2 p2 s2 hb3 e3=>by
    obtain⟨t1,t2⟩:=TX Kp Ml sL' sR' j2 j1 p1 p2 s1 s2
    exact hk st3 (W1++W2) (by rw[dL,dR];exact t1) t2 (by simpa using hb3) e3
   refine Aa (fun g1=>Aa (fun g2=>?_) fun g2=>?_) fun g1=>?_
   ·refine ih (P:=P++W1) (L:=L2) (R:=R2) (Q:=Q) (by omega) (by omega) (by omega) hb2 z2 z4 (by rw[List.length_append];omega) (by rw[List.length_append];omega) (by rw[List.length_append];omega) fun st3 W2 p2 s2 hb3 e3=>fin st3 W2 p2 s2 hb3 (e2.trans e3)
   ·have:R2=[]:=List.eq_nil_of_length_eq_zero (by omega)
    subst this
    exact fin st2 L2 (by simp) z2 (by simpa using hb2) e2
   ·have:L2=[]:=List.eq_nil_of_length_eq_zero (by omega)
    subst this
    exact fin st2 R2 (by simp) z4 (by simpa using hb2) e2
  --both halves
  have both:∀st2,BxF st2 b n cap (P++L1++R1++L2++R2++Q)->StX (·=b) st st2->
    (∀W1 st3,W1.Perm (L1++R1)->Srt lek W1->BxF st3 b n cap (P++W1++L2++R2++Q)->StX (·=b) st st3->True):=fun _ _ _ _ _ _ _ _ _=>trivial
  have firstCall:∀(st2:St) (K':St->Prop),0<L1.length->0<R1.length->BxF st2 b n cap (P++L1++R1++L2++R2++Q)->(∀st3 W1,W1.Perm (L1++R1)->Srt lek W1->BxF st3 b n cap (P++W1++L2++R2++Q)->StX (·=b) st2 st3->K' st3)->
    CallT PR Ag [.ms 14 b 0 n cap,.int .i64 (P.length:Int),.int .i64 ((P.length+u:Nat):Int),.int .i64 ((P.length+H:Nat):Int),cmp] [] st2 K':=by
   intro st2 K' y1 y2 hb2 hK'
   exact ih (P:=P) (L:=L1) (R:=R1) (Q:=L2++R2++Q) (by omega) y1 y2 (by simpa using hb2) z1 z3 rfl (by omega) (by omega) fun st3 W1 p1 s1 hb3 e3=>hK' st3 W1 p1 s1 (by simpa using hb3) e3
  have hb':BxF st1 b n cap (P++(L1++L2)++(R1++R2)++Q):=by rw[<-dL,<-dR];exact hb
  refine Aa (fun g1=>Aa (fun g2=>?_) fun g2=>?_) fun g1=>?_
  ·refine V8 (P:=P++L1) (U:=L2) (V:=R1) (Q:=R2++Q) (by simpa using hb') hn (by omega) (by omega) (by rw[List.length_append];omega) (by rw[List.length_append];omega) (by rw[List.length_append];omega) fun st2 hb2 e2=>?_
   have hb2':BxF st2 b n cap (P++L1++R1++L2++R2++Q):=by simpa using hb2
   have e12:=e.trans e2
   refine Aa (fun g3=>Aa (fun g4=>?_) fun g4=>?_) fun g3=>?_
   ·exact firstCall st2 _ (by omega) (by omega) hb2' fun st3 W1 p1 s1 hb3 e3=>second st3 W1 p1 s1 hb3 (e12.trans e3)
   ·have:R1=[]:=List.eq_nil_of_length_eq_zero (by omega)
    subst this
    exact second st2 L1 (by simp) z1 (by simpa using hb2') e12
   ·have:L1=[]:=List.eq_nil_of_length_eq_zero (by omega)
    subst this
    exact second st2 R1 (by simp) z3 (by simpa using hb2') e12
  ·have hR0:R1=[]:=List.eq_nil_of_length_eq_zero (by omega)
   subst hR0
   have hb2':BxF st1 b n cap (P++L1++[]++L2++R2++Q):=by simpa using hb'
   refine Aa (fun g3=>Aa (fun g4=>?_) fun g4=>?_) fun g3=>?_
   ·exact absurd g4 (by simp at a3;omega)
   ·exact second st1 L1 (by simp) z1 (by simpa using hb2') e
   ·exact second st1 L1 (by simp) z1 (by simpa using hb2') e
  ·have hL0:L2=[]:=List.eq_nil_of_length_eq_zero (by omega)
   subst hL0
   have hb2':BxF st1 b n cap (P++L1++R1++[]++R2++Q):=by simpa using hb'
   refine Aa (fun g3=>Aa (fun g4=>?_) fun g4=>?_) fun g3=>?_
   ·exact firstCall st1 _ (by omega) (by omega) hb2' fun st3 W1 p1 s1 hb3 e3=>second st3 W1 p1 s1 hb3 (e.trans e3)
   ·have:R1=[]:=List.eq_nil_of_length_eq_zero (by omega)
    subst this
    exact second st1 L1 (by simp) z1 (by simpa using hb2') e
   ·have:L1=[]:=List.eq_nil_of_length_eq_zero (by omega)
    subst this
    exact second st1 R1 (by simp) z3 (by simpa using hb2') e
end
end
section
def SB (bs:Nat) (l:List (List TV)):Prop:=∀k,Srt lek ((l.drop (k*bs)).take bs)
theorem SB.nil (bs:Nat):SB bs []:=fun k=>by simp only[List.drop_nil,List.take_nil];exact List.Pairwise.nil
theorem SB.app {bs q:Nat} {S M:List (List TV)} (h:SB bs S) (hq:S.length=q*bs) (hm:M.length<=bs) (hs:Srt lek M):SB bs (S++M):=fun k=>by
 rcases Nat.lt_trichotomy k q with hk | hk | hk
 ·have:(k+1)*bs<=q*bs:=Nat.mul_le_mul_right _ hk
  rw[Nat.add_mul,Nat.one_mul]at this
  rw[List.drop_append_of_le_length (by omega),List.take_append_of_le_length (by rw[List.length_drop];omega)]
  exact h k
 ·subst hk
  rw[<-hq,List.drop_left,List.take_of_length_le hm]
  exact hs
 ·have:(q+1)*bs<=k*bs:=Nat.mul_le_mul_right _ hk
  rw[Nat.add_mul,Nat.one_mul]at this
  rw[List.drop_of_length_le (by rw[List.length_append];omega),List.take_nil]
  exact List.Pairwise.nil
theorem SB.drop {bs q:Nat} {l:List (List TV)} (h:SB bs l):SB bs (l.drop (q*bs)):=fun k=>by
 rw[List.drop_drop,<-Nat.add_mul]
 exact h (q+k)
theorem SB.all {bs:Nat} {l:List (List TV)} (h:SB bs l) (hl:l.length<=bs):Srt lek l:=by
 have:=h 0
 rw[Nat.zero_mul,List.drop_zero,List.take_of_length_le hl]at this
 exact this
section
variable {st:St} {b n cap:Nat}
theorem VY {cmp:TV} (hc:NX cmp) {D0:List (List TV)} (h:BxF st b n cap D0) (hn:n<=100000000) {N:Int} (hN:N=(n:Int)) {K:St->Prop} (hk:∀st' W,W.Perm D0->Srt lek W->BxF st' b n cap W->StX (·=b) st st'->K st'):
  CallT PR AZ [.ms 14 b 0 n cap,.int .i64 N,cmp] [] st K:=by
 have hlen:=h.len
 subst hN
 refine Ch _ _ cmp st K ⟨fun a b' d n' c bs st'=>d= .ms 14 b 0 n cap/\n'=(n:Int)/\cmp=c/\bs=20/\∃(q:Nat) (S T:List (List TV)),a=((q*20:Nat):Int)/\b'=((q*20+20:Nat):Int)/\q*20<=n/\S.length=q*20/\SB 20 S/\(S++T).Perm D0/\BxF st' b n cap (S++T)/\StX (·=b) st st',
  fun a _ _ _ _ _ _=>(n-a).toNat,⟨rfl,rfl,rfl,rfl,0,[],D0,by omega,by omega,by omega,rfl,SB.nil _,by simp,by simpa using h,StX.refl _ _⟩,?_⟩
 rintro _ _ _ _ _ _ st1 ⟨rfl,rfl,rfl,rfl,q,S,T,rfl,rfl,hqn,hS,sb,hp,hb,e⟩
 have hl1:=hb.len
 rw[List.length_append]at hl1
 refine Aa (fun g=>?_) fun g=>?_
 ·have hT:T=T.take 20++T.drop 20:=(List.take_append_drop _ _).symm
  have lx:(T.take 20).length=20:=by simp;omega
  generalize T.take 20=X at*
  generalize T.drop 20=Y at*
  subst hT
  refine Mp (P:=S) (L:=X) (Q:=Y) hc (by simpa using hb) hn (by omega) (by omega) fun st2 M pm sm hb2 e2=>?_
  have lm:=pm.length_eq
  refine⟨⟨rfl,rfl,rfl,rfl,q+1,S++M,Y,by omega,by rw[Ad _ (by omega) (by omega)];omega,by omega,by rw[List.length_append];omega,sb.app hS (by omega) sm,?_,hb2,e.trans e2⟩,by dsimp only;omega⟩
  rw[List.append_assoc]
  exact((pm.append_right Y).append_left S).trans hp
 ·refine Mp (P:=S) (L:=T) (Q:=[]) hc (by simpa using hb) hn (by omega) (by omega) fun st2 M pm sm hb2 e2=>?_
  have lm:=pm.length_eq
  rw[List.append_nil]at hb2
  refine⟨fun bs d n' c st'=>d= .ms 14 b 0 n cap/\n'=(n:Int)/\cmp=c/\∃(s:Nat) (D:List (List TV)),bs=(s:Int)/\20<=s/\s<=200000020/\SB s D/\D.Perm D0/\BxF st' b n cap D/\StX (·=b) st st',
   fun bs _ _ _ _=>(n-bs).toNat,⟨rfl,rfl,rfl,20,S++M,rfl,Nat.le_refl _,by omega,sb.app hS (by omega) sm,(pm.append_left S).trans hp,hb2,e.trans e2⟩,?_⟩
  rintro _ _ _ _ st3 ⟨rfl,rfl,rfl,s,D,rfl,hs20,hsm,sbD,pD,hbD,eD⟩
  have hlD:=hbD.len
  refine Aa (fun g2=>?_) fun g2=>hk st3 D pD (sbD.all (by omega)) hbD eD
  have w2:i64.wrap (2*(s:Int))=((2*s:Nat):Int):=by rw[Ad _ (by omega) (by omega)];omega
  have ws2:i64.wrap ((s:Int)*2)=((2*s:Nat):Int):=by rw[Ad _ (by omega) (by omega)];omega
  refine⟨fun a b' d n' c bs st'=>d= .ms 14 b 0 n cap/\n'=(n:Int)/\cmp=c/\bs=(s:Int)/\∃(q:Nat) (S T:List (List TV)),a=((q*(2*s):Nat):Int)/\b'=((q*(2*s)+2*s:Nat):Int)/\q*(2*s)<=n/\S.length=q*(2*s)/\SB (2*s) S/\SB s T/\(S++T).Perm D0/\BxF st' b n cap (S++T)/\StX (·=b) st st',
   fun a _ _ _ _ _ _=>(n-a).toNat,⟨rfl,rfl,rfl,rfl,0,[],D,by simp,by rw[w2];simp,by omega,by simp,SB.nil _,sbD,by simpa using pD,by simpa using hbD,eD⟩,?_⟩
  rintro _ _ _ _ _ _ st4 ⟨rfl,rfl,rfl,rfl,q2,S2,T2,rfl,rfl,hq2,hS2,sbS,sbT,p2,hb4,e4⟩
  have hl4:=hb4.len
  rw[List.length_append]at hl4
  generalize hQ:q2*(2*s)=Qn at*
  have d1:=sbT 0
  have d2:=sbT 1
  rw[Nat.zero_mul,List.drop_zero]at d1
  rw[Nat.one_mul]at d2
  refine Aa (fun g3=>?_) fun g3=>?_
  ·rw[w2]
   have wa:i64.wrap ((Qn:Int)+(s:Int))=((Qn+s:Nat):Int):=by rw[Ad _ (by omega) (by omega)];omega
   rw[wa]
   have sb3:SB s (T2.drop (2*s)):=SB.drop (q:=2) sbT
   have hT:T2=T2.take s++((T2.drop s).take s++T2.drop (2*s)):=by
    have:T2.drop (2*s)=(T2.drop s).drop s:=by rw[List.drop_drop];congr 1;omega
    rw[this,List.take_append_drop,List.take_append_drop]
   have lx:(T2.take s).length=s:=by simp;omega
   have ly:((T2.drop s).take s).length=s:=by simp;omega
   generalize T2.take s=X at*
   generalize (T2.drop s).take s=Y at*
   generalize T2.drop (2*s)=Z at*
   subst hT
   refine ND hc hn _ (P:=S2) (L:=X) (R:=Y) (Q:=Z) (Nat.le_refl _) (by omega) (by omega) (by simpa using hb4) d1 d2 (by omega) (by omega) (by omega) fun st5 W pw sw hb5 e5=>?_
   have lw:=pw.length_eq
   rw[List.length_append]at lw
   refine⟨⟨rfl,rfl,rfl,rfl,q2+1,S2++W,Z,by rw[Nat.add_mul,hQ];omega,by rw[Ad _ (by omega) (by omega),Nat.add_mul,hQ];omega,by rw[Nat.add_mul,hQ];omega,by rw[List.length_append,Nat.add_mul,hQ];omega,sbS.app (by rw[hQ];exact hS2) (by omega) sw,sb3,?_,hb5,e4.trans e5⟩,by dsimp only;omega⟩
   refine List.Perm.trans ?_ p2
   rw[List.append_assoc]
   exact((pw.append_right Z).append_left S2).trans (by simp)
  ·have wa:i64.wrap ((Qn:Int)+(s:Int))=((Qn+s:Nat):Int):=by rw[Ad _ (by omega) (by omega)];omega
   rw[wa,ws2]
   refine Aa (fun g4=>?_) fun g4=>?_
   ·have hT:T2=T2.take s++T2.drop s:=(List.take_append_drop _ _).symm
    have lx:(T2.take s).length=s:=by simp;omega
    have ly:(T2.drop s).length=T2.length-s:=by simp
    rw[List.take_of_length_le (by omega)]at d2
    generalize T2.take s=X at*
    generalize T2.drop s=Y at*
    subst hT
    rw[List.length_append]at*
    refine ND hc hn _ (P:=S2) (L:=X) (R:=Y) (Q:=[]) (Nat.le_refl _) (by omega) (by omega) (by simpa using hb4) d1 d2 (by omega) (by omega) (by omega) fun st5 W pw sw hb5 e5=>?_
    have lw:=pw.length_eq
    rw[List.length_append]at lw
    rw[List.append_nil]at hb5
    exact⟨⟨rfl,rfl,rfl,2*s,S2++W,rfl,by omega,by omega,sbS.app (by rw[hQ];exact hS2) (by omega) sw,(pw.append_left S2).trans p2,hb5,e4.trans e5⟩,by dsimp only;omega⟩
   ·refine⟨⟨rfl,rfl,rfl,2*s,S2++T2,rfl,by omega,by omega,sbS.app (by rw[hQ];exact hS2) (by omega) (sbT.all (by omega)),p2,hb4,e4⟩,by dsimp only;omega⟩
theorem PX {cmp:TV} (hc:NX cmp) {D0:List (List TV)} (h:BxF st b n cap D0) (hn:n<=100000000) {K:St->Prop} (hk:∀st' W,W.Perm D0->Srt lek W->BxF st' b n cap W->StX (·=b) st st'->K st'):
  CallT PR AF [.ms 14 b 0 n cap,cmp] [] st K:=
 Bg _ cmp st K (Ab rfl (VY hc h hn rfl hk))
end
end
end Go.TVF
section
namespace Go.Proofs
open Go.Shelf
def Tryz.lays161_ren:Go.Shelf.Ren:=⟨fun | 161=>116 | 231=>213 | 227=>214 | 233=>215 | 235=>216 | 228=>282 | 197=>167 | 151=>283 | 260=>260 | 152=>313 | 137=>138 | 119=>327 | 224=>328 | 225=>329 | 217=>241 | 266=>300 | n=>n,fun | 9=>9 | 4=>4 | 3=>3 | 5=>5 | 117=>250 | 116=>249 | 0=>0 | 124=>253 | 105=>213 | 21=>21 | 119=>306 | 46=>189 | 139=>309 | 138=>308 | n=>n,fun | 3=>0 | 4=>1 | n=>n⟩
theorem Tryz.lays161:Go.Proofs.Lays.n161 Tryz.prog Tryz.lays161_ren:={
 mixed:=by kernel_rfl
 f119:=Tryz.func327.trans (congrArg some (by kernel_rfl))
 f137:=Tryz.func138.trans (congrArg some (by kernel_rfl))
 f151:=Tryz.func283.trans (congrArg some (by kernel_rfl))
 f152:=Tryz.func313.trans (congrArg some (by kernel_rfl))
 f161:=Tryz.func116.trans (congrArg some (by kernel_rfl))
 f197:=Tryz.func167.trans (congrArg some (by kernel_rfl))
 f217:=Tryz.func241.trans (congrArg some (by kernel_rfl))
 f224:=Tryz.func328.trans (congrArg some (by kernel_rfl))
 f225:=Tryz.func329.trans (congrArg some (by kernel_rfl))
 f227:=Tryz.func214.trans (congrArg some (by kernel_rfl))
 f228:=Tryz.func282.trans (congrArg some (by kernel_rfl))
 f231:=Tryz.func213.trans (congrArg some (by kernel_rfl))
 f233:=Tryz.func215.trans (congrArg some (by kernel_rfl))
 f235:=Tryz.func216.trans (congrArg some (by kernel_rfl))
 f260:=Tryz.func260.trans (congrArg some (by kernel_rfl))
 f266:=Tryz.func300.trans (congrArg some (by kernel_rfl))
 t0:=Tryz.underlying0
 a0:=Tryz.isAgg0
 z0:=Tryz.sizeOf0
 v0:=Tryz.zeroValue0
 t3:=Tryz.underlying3
 a3:=Tryz.isAgg3
 z3:=Tryz.sizeOf3
 v3:=Tryz.zeroValue3
 t4:=Tryz.underlying4
 a4:=Tryz.isAgg4
 z4:=Tryz.sizeOf4
 v4:=Tryz.zeroValue4
 t5:=Tryz.underlying5
 a5:=Tryz.isAgg5
 z5:=Tryz.sizeOf5
 v5:=Tryz.zeroValue5
 t9:=Tryz.underlying9
 a9:=Tryz.isAgg9
 z9:=Tryz.sizeOf9
 v9:=Tryz.zeroValue9
 t21:=Tryz.underlying21
 a21:=Tryz.isAgg21
 z21:=Tryz.sizeOf21
 v21:=Tryz.zeroValue21
 t46:=Tryz.underlying189
 a46:=Tryz.isAgg189
 z46:=Tryz.sizeOf189
 v46:=Tryz.zeroValue189
 t105:=Tryz.underlying213
 a105:=Tryz.isAgg213
 z105:=Tryz.sizeOf213
 v105:=Tryz.zeroValue213
 t116:=Tryz.underlying249
 a116:=Tryz.isAgg249
 z116:=Tryz.sizeOf249
 t117:=Tryz.underlying250
 a117:=Tryz.isAgg250
 z117:=Tryz.sizeOf250
 v117:=Tryz.zeroValue250
 t119:=Tryz.underlying306
 a119:=Tryz.isAgg306
 z119:=Tryz.sizeOf306
 t124:=Tryz.underlying253
 a124:=Tryz.isAgg253
 z124:=Tryz.sizeOf253
 v124:=Tryz.zeroValue253
 t138:=Tryz.underlying308
 a138:=Tryz.isAgg308
 z138:=Tryz.sizeOf308
 v138:=Tryz.zeroValue308
 t139:=Tryz.underlying309
 a139:=Tryz.isAgg309
 z139:=Tryz.sizeOf309
 v139:=Tryz.zeroValue309
 g3:=by kernel_rfl
 g4:=by kernel_rfl}
open Go.RowKit in
theorem Tryz.strings_TrimLeft_one (s:ByteArray) (c:UInt8) (hc:c.toNat<128) (w:World):
  Calls Tryz.prog 116 #[.string s,.string ⟨#[c]⟩] w fun e w'=>e= .returned (.string ⟨(Lib.trimLeftB s.data.toList c).toArray⟩)/\w'=w:=Any.strings_TrimLeft_one Tryz.lays161 s c hc w
def Tryz.lays162_ren:Go.Shelf.Ren:=⟨fun | 162=>284 | 232=>314 | 227=>214 | 234=>315 | 236=>316 | 228=>282 | 271=>330 | 151=>283 | 120=>333 | 197=>167 | 152=>313 | 260=>260 | 137=>138 | 119=>327 | 224=>328 | 225=>329 | 217=>241 | 266=>300 | n=>n,fun | 9=>9 | 4=>4 | 3=>3 | 5=>5 | 117=>250 | 116=>249 | 0=>0 | 124=>253 | 21=>21 | 105=>213 | 46=>189 | 119=>306 | 139=>309 | 138=>308 | n=>n,fun | 3=>0 | 4=>1 | n=>n⟩
theorem Tryz.lays162:Go.Proofs.Lays.n162 Tryz.prog Tryz.lays162_ren:={
 mixed:=by kernel_rfl
 f119:=Tryz.func327.trans (congrArg some (by kernel_rfl))
 f120:=Tryz.func333.trans (congrArg some (by kernel_rfl))
 f137:=Tryz.func138.trans (congrArg some (by kernel_rfl))
 f151:=Tryz.func283.trans (congrArg some (by kernel_rfl))
 f152:=Tryz.func313.trans (congrArg some (by kernel_rfl))
 f162:=Tryz.func284.trans (congrArg some (by kernel_rfl))
 f197:=Tryz.func167.trans (congrArg some (by kernel_rfl))
 f217:=Tryz.func241.trans (congrArg some (by kernel_rfl))
 f224:=Tryz.func328.trans (congrArg some (by kernel_rfl))
 f225:=Tryz.func329.trans (congrArg some (by kernel_rfl))
 f227:=Tryz.func214.trans (congrArg some (by kernel_rfl))
 f228:=Tryz.func282.trans (congrArg some (by kernel_rfl))
 f232:=Tryz.func314.trans (congrArg some (by kernel_rfl))
 f234:=Tryz.func315.trans (congrArg some (by kernel_rfl))
 f236:=Tryz.func316.trans (congrArg some (by kernel_rfl))
 f260:=Tryz.func260.trans (congrArg some (by kernel_rfl))
 f266:=Tryz.func300.trans (congrArg some (by kernel_rfl))
 f271:=Tryz.func330.trans (congrArg some (by kernel_rfl))
 t0:=Tryz.underlying0
 a0:=Tryz.isAgg0
 z0:=Tryz.sizeOf0
 v0:=Tryz.zeroValue0
 t3:=Tryz.underlying3
 a3:=Tryz.isAgg3
 z3:=Tryz.sizeOf3
 v3:=Tryz.zeroValue3
 t4:=Tryz.underlying4
 a4:=Tryz.isAgg4
 z4:=Tryz.sizeOf4
 v4:=Tryz.zeroValue4
 t5:=Tryz.underlying5
 a5:=Tryz.isAgg5
 z5:=Tryz.sizeOf5
 v5:=Tryz.zeroValue5
 t9:=Tryz.underlying9
 a9:=Tryz.isAgg9
 z9:=Tryz.sizeOf9
 v9:=Tryz.zeroValue9
 t21:=Tryz.underlying21
 a21:=Tryz.isAgg21
 z21:=Tryz.sizeOf21
 v21:=Tryz.zeroValue21
 t46:=Tryz.underlying189
 a46:=Tryz.isAgg189
 z46:=Tryz.sizeOf189
 v46:=Tryz.zeroValue189
 t105:=Tryz.underlying213
 a105:=Tryz.isAgg213
 z105:=Tryz.sizeOf213
 v105:=Tryz.zeroValue213
 t116:=Tryz.underlying249
 a116:=Tryz.isAgg249
 z116:=Tryz.sizeOf249
 t117:=Tryz.underlying250
 a117:=Tryz.isAgg250
 z117:=Tryz.sizeOf250
 v117:=Tryz.zeroValue250
 t119:=Tryz.underlying306
 a119:=Tryz.isAgg306
 z119:=Tryz.sizeOf306
 t124:=Tryz.underlying253
 a124:=Tryz.isAgg253
 z124:=Tryz.sizeOf253
 v124:=Tryz.zeroValue253
 t138:=Tryz.underlying308
 a138:=Tryz.isAgg308
 z138:=Tryz.sizeOf308
 v138:=Tryz.zeroValue308
 t139:=Tryz.underlying309
 a139:=Tryz.isAgg309
 z139:=Tryz.sizeOf309
 v139:=Tryz.zeroValue309
 g3:=by kernel_rfl
 g4:=by kernel_rfl}
open Go.RowKit in
theorem Tryz.strings_TrimRight_one (s:ByteArray) (c:UInt8) (hc:c.toNat<128) (w:World) (hs:s.size<=9223372036854775807):
  Calls Tryz.prog 284 #[.string s,.string ⟨#[c]⟩] w fun e w'=>e= .returned (.string ⟨(Lib.trimRightB s.data.toList c).toArray⟩)/\w'=w:=Any.strings_TrimRight_one Tryz.lays162 s c hc w hs
def Tryz.lays106_ren:Go.Shelf.Ren:=⟨fun | 106=>251 | 213=>302 | 265=>324 | n=>n,fun | 9=>9 | 3=>3 | n=>n,fun | n=>n⟩
theorem Tryz.lays106:Go.Proofs.Lays.n106 Tryz.prog Tryz.lays106_ren:={
 mixed:=by kernel_rfl
 f106:=Tryz.func251.trans (congrArg some (by kernel_rfl))
 f213:=Tryz.func302.trans (congrArg some (by kernel_rfl))
 f265:=Tryz.func324.trans (congrArg some (by kernel_rfl))
 t3:=Tryz.underlying3
 a3:=Tryz.isAgg3
 z3:=Tryz.sizeOf3
 v3:=Tryz.zeroValue3
 t9:=Tryz.underlying9
 a9:=Tryz.isAgg9
 z9:=Tryz.sizeOf9
 v9:=Tryz.zeroValue9}
open Go.RowKit in
theorem Tryz.strings_Compare (a b:ByteArray) (w:World):
  Calls Tryz.prog 251 #[.string a,.string b] w fun e w'=>e= .returned (.int .i64 (Lib.compareBytes a.data.toList b.data.toList))/\w'=w:=Any.strings_Compare Tryz.lays106 a b w
def Tryz.lays105_ren:Go.Shelf.Ren:=⟨fun | 105=>132 | 212=>234 | 99=>113 | 165=>235 | 166=>236 | 170=>237 | 169=>154 | 263=>294 | 264=>295 | 206=>211 | 240=>296 | 241=>297 | 276=>320 | 277=>321 | n=>n,fun | 9=>9 | 3=>3 | 4=>4 | 20=>20 | 0=>0 | 46=>189 | 109=>261 | 5=>5 | 72=>199 | 76=>266 | 51=>293 | 146=>299 | 53=>207 | 148=>301 | 70=>197 | 37=>29 | 75=>265 | 127=>278 | 164=>316 | 80=>201 | n=>n,fun | n=>n⟩
theorem Tryz.lays105:Go.Proofs.Lays.n105 Tryz.prog Tryz.lays105_ren:={
 mixed:=by kernel_rfl
 f99:=Tryz.func113.trans (congrArg some (by kernel_rfl))
 f105:=Tryz.func132.trans (congrArg some (by kernel_rfl))
 f165:=Tryz.func235.trans (congrArg some (by kernel_rfl))
 f166:=Tryz.func236.trans (congrArg some (by kernel_rfl))
 f169:=Tryz.func154.trans (congrArg some (by kernel_rfl))
 f170:=Tryz.func237.trans (congrArg some (by kernel_rfl))
 f206:=Tryz.func211.trans (congrArg some (by kernel_rfl))
 f212:=Tryz.func234.trans (congrArg some (by kernel_rfl))
 f240:=Tryz.func296.trans (congrArg some (by kernel_rfl))
 f241:=Tryz.func297.trans (congrArg some (by kernel_rfl))
 f263:=Tryz.func294.trans (congrArg some (by kernel_rfl))
 f264:=Tryz.func295.trans (congrArg some (by kernel_rfl))
 f276:=Tryz.func320.trans (congrArg some (by kernel_rfl))
 f277:=Tryz.func321.trans (congrArg some (by kernel_rfl))
 t0:=Tryz.underlying0
 a0:=Tryz.isAgg0
 z0:=Tryz.sizeOf0
 v0:=Tryz.zeroValue0
 t3:=Tryz.underlying3
 a3:=Tryz.isAgg3
 z3:=Tryz.sizeOf3
 v3:=Tryz.zeroValue3
 t4:=Tryz.underlying4
 a4:=Tryz.isAgg4
 z4:=Tryz.sizeOf4
 v4:=Tryz.zeroValue4
 t5:=Tryz.underlying5
 a5:=Tryz.isAgg5
 z5:=Tryz.sizeOf5
 v5:=Tryz.zeroValue5
 t9:=Tryz.underlying9
 a9:=Tryz.isAgg9
 z9:=Tryz.sizeOf9
 v9:=Tryz.zeroValue9
 t20:=Tryz.underlying20
 a20:=Tryz.isAgg20
 z20:=Tryz.sizeOf20
 v20:=Tryz.zeroValue20
 t37:=Tryz.underlying29
 a37:=Tryz.isAgg29
 z37:=Tryz.sizeOf29
 v37:=Tryz.zeroValue29
 t46:=Tryz.underlying189
 a46:=Tryz.isAgg189
 z46:=Tryz.sizeOf189
 v46:=Tryz.zeroValue189
 t51:=Tryz.underlying293
 a51:=Tryz.isAgg293
 z51:=Tryz.sizeOf293
 v51:=Tryz.zeroValue293
 t53:=Tryz.underlying207
 a53:=Tryz.isAgg207
 z53:=Tryz.sizeOf207
 v53:=Tryz.zeroValue207
 t70:=Tryz.underlying197
 a70:=Tryz.isAgg197
 z70:=Tryz.sizeOf197
 v70:=Tryz.zeroValue197
 t72:=Tryz.underlying199
 a72:=Tryz.isAgg199
 z72:=Tryz.sizeOf199
 v72:=Tryz.zeroValue199
 t75:=Tryz.underlying265
 a75:=Tryz.isAgg265
 z75:=Tryz.sizeOf265
 v75:=Tryz.zeroValue265
 t76:=Tryz.underlying266
 a76:=Tryz.isAgg266
 z76:=Tryz.sizeOf266
 v76:=Tryz.zeroValue266
 t109:=Tryz.underlying261
 a109:=Tryz.isAgg261
 z109:=Tryz.sizeOf261
 v109:=Tryz.zeroValue261
 t127:=Tryz.underlying278
 a127:=Tryz.isAgg278
 z127:=Tryz.sizeOf278
 v127:=Tryz.zeroValue278
 t146:=Tryz.underlying299
 a146:=Tryz.isAgg299
 z146:=Tryz.sizeOf299
 v146:=Tryz.zeroValue299
 t148:=Tryz.underlying301
 a148:=Tryz.isAgg301
 z148:=Tryz.sizeOf301
 v148:=Tryz.zeroValue301
 t164:=Tryz.underlying316
 a164:=Tryz.isAgg316
 z164:=Tryz.sizeOf316
 v164:=Tryz.zeroValue316}
theorem Tryz.Builder_Extra_105:Builder.Extra Tryz.prog Tryz.lays105_ren:={
 sizeBuilder:=by kernel_rfl
 liesBuilder:=by kernel_rfl
 t5:=Tryz.underlying5
 a5:=Tryz.isAgg5
 z5:=Tryz.sizeOf5
 v5:=Tryz.zeroValue5
 infoByte:=by kernel_rfl
 cellsByte:=by kernel_rfl
 sizeByte:=by kernel_rfl
 neB5:=by decide}
open Go.RowKit Go.Lib in
theorem Tryz.strings_Repeat (s:ByteArray) (c:Nat) (w:World) (hc:c<=9223372036854775807) (hlen:s.size*c<=140737488355328):
  Calls Tryz.prog 132 #[.string s,.int .i64 c] w fun e w'=>e= .returned (.string ⟨(Lib.repeatL s.data.toList c).toArray⟩)/\Below w.heap.size w w':=Any.strings_Repeat Tryz.lays105 Tryz.Builder_Extra_105 s c w hc hlen
end Go.Proofs
end
