/- What the laws below rest on: a framework for Go programs, and contracts of the functions that they reach. -/
import Derived.Test.YtahjbepjlconkaaGreatDoorZqD
import Derived.Shelf.Small.Strs
import Derived.Shelf.Strings.Search1
import Derived.Shelf.Unicode.DecodeAny
import Derived.Test.YtahjbepjlconkaaGreatDoorProg
import Derived.WideShapes
set_option maxRecDepth 20000
set_option linter.unusedVariables false
set_option linter.unusedSimpArgs false
namespace Go.TVF
open Go.IntKind(i64 u8)
open Go Go.Proofs
abbrev KT (K:Int->Int->Int->Int->Int->St->Prop) (r:TmR) (st:St):Prop:=K r.1 r.2.1 r.2.2.1 r.2.2.2.1 r.2.2.2.2 st
theorem nano_w {h mi sc nn:Nat} (h1:h<100) (h2:mi<100) (h3:sc<100) (h4:nn<1000000000):
  i64.wrap ((i64.wrap ((i64.wrap ((i64.wrap ((i64.wrap ((i64.wrap (((h:Nat):Int)*60))+((mi:Nat):Int)))*60))+((sc:Nat):Int)))*1000000000))+((nn:Nat):Int))=((FK h mi sc nn:Nat):Int):=by
 rw[Ah (((h:Nat):Int)*60) (by omega) (by omega),Ah (((h:Nat):Int)*60+((mi:Nat):Int)) (by omega) (by omega),Ah ((((h:Nat):Int)*60+((mi:Nat):Int))*60) (by omega) (by omega),Ah ((((h:Nat):Int)*60+((mi:Nat):Int))*60+((sc:Nat):Int)) (by omega) (by omega),Ah (((((h:Nat):Int)*60+((mi:Nat):Int))*60+((sc:Nat):Int))*1000000000) (by omega) (by omega),Ah _ (by omega) (by omega)];unfold FK;omega
theorem off_w {oh om:Nat} (h1:oh<100) (h2:om<100):i64.wrap ((i64.wrap (((oh:Nat):Int)*60))+((om:Nat):Int))=((oh*60+om:Nat):Int):=by
 rw[Ah (((oh:Nat):Int)*60) (by omega) (by omega),Ah _ (by omega) (by omega)];omega
theorem tP_ok {s:B8} (hl:s.length<=1000000) {st:St} {K:Int->Int->Int->Int->Int->St->Prop} (hk:∀st',Ag st st'->KT K (tmP s) st'):CallT PR EZ [.str s] [.agg [.int .i64,.int .i64,.int .i64,.int .i64],.one (.int .i64)] st K:=by
 refine Pe s st K (tform_ok (r:=st.nb) (f:=st.nb+1) (s:=s) ?_ λn1 y mo d h mi sc nn sg oh om st1 T a1 a2 a3 a4 a5 a6 a7 a8 a9 a10 a11 e1 m1 hF=>?_)
 ·refine⟨⟨?_,?_,hl⟩,?_,?_,?_⟩
  ·simp[St.push];omega
  ·simp[St.push]
  ·simp[St.push]
  ·simp[St.push,fcT]
  ·omega
 ·have E:Ag st st1:=StX.ext (((Ag.refl st).push _ _).push _ _) e1 (by
   rintro i (rfl | rfl)
   ·exact Nat.le_refl _
   ·exact Nat.le_succ _)
  obtain⟨hF1,hF2⟩:=hF;have cell:∀i v,(fcT y mo d h mi sc nn sg oh om)[i]? =some v->Af st1 [] (.t (.box (st.nb+1) i)) 0=some v:=λi v hv=>by
   simp only[Af,m1.2.2.1,Nat.add_zero];exact hv
  have c0:=cell 0 _ rfl;have c1:=cell 1 _ rfl;have c2:=cell 2 _ rfl;have c3:=cell 3 _ rfl;have c4:=cell 4 _ rfl;have c5:=cell 5 _ rfl;have c6:=cell 6 _ rfl;have c7:=cell 7 _ rfl;have c8:=cell 8 _ rfl;have c9:=cell 9 _ rfl;clear cell;obtain⟨hr,t,hb,_,ht⟩:=m1.1.get;have k0:Af st1 [] (.t (.box st.nb 0)) 0=some (.str t):=by simp[Af,hb]
  have k1:Af st1 [] (.t (.box st.nb 1)) 0=some (.bool T.isNone):=by simp[Af,hb]
  have bad:T≠some []->K 0 0 0 0 3 st1:=λhT=>by
   have:=hk st1 E;rw[hF2 hT]at this;exact this
  refine Ac k1 (DO (Ao (λg=>bad λe=>by rw[e]at g;cases g) λg=>Ac k0 (AO (Ab (λg1=>bad λe=>g1 (ht [] e)) λg1=>?_))));have hT:T=some []:=by
   cases T with
   | none=>cases g
   | some x=>rw[<-ht x rfl,Decidable.not_not.1 g1]
  have hV:=hF1 hT;have hk1:=hk st1 E;rw[hV]at hk1;clear hF1 hF2 hV hk bad;unfold KT QX at hk1;have tail:(n1≠2->okD y mo d)->∀D:Int,D=(if n1=2 then 0 else((KY y mo d:Nat):Int))->okC h mi sc/\oh<=23/\om<=59->K (n1:Nat) D (FK h mi sc nn:Nat) (if sg=45 then-((oh*60+om:Nat):Int)else((oh*60+om:Nat):Int)) 0 st1:=λh0 D hD h1=>by
   subst hD;rw[if_pos ⟨h0,h1⟩]at hk1;exact hk1
  have out:(¬(okC h mi sc/\oh<=23/\om<=59)∨¬(n1≠2->okD y mo d))->K 0 0 0 0 2 st1:=λhn=>by
   rw[if_neg (λg=>by
    rcases hn with hn | hn
    ·exact hn g.2
    ·exact hn g.1)]at hk1
   exact hk1
  have end_:(n1≠2->okD y mo d)->∀D:Int,D=(if n1=2 then 0 else((KY y mo d:Nat):Int))->okC h mi sc/\oh<=23/\om<=59->BIf (decide (((sg:Nat):Int)=45)) (K (n1:Nat) D (FK h mi sc nn:Nat) (i64.wrap (0-((oh*60+om:Nat):Int))) 0 st1) (K (n1:Nat) D (FK h mi sc nn:Nat) ((oh*60+om:Nat):Int) 0 st1):=λh0 D hD h1=>by
   have:=tail h0 D hD h1;refine Ab (λg=>?_) λg=>?_
   ·rw[if_pos (by omega)]at this
    rw[Ah _ (by omega) (by omega),show(0:Int)-((oh*60+om:Nat):Int)= -((oh*60+om:Nat):Int) by omega];exact this
   ·rw[if_neg (by omega)]at this;exact this
  have okc:∀{a b c:Nat},¬(23:Int)<(a:Nat)->¬(59:Int)<(b:Nat)->¬(59:Int)<(c:Nat)->okC a b c:=λx y z=>⟨by omega,by omega,by omega⟩;refine Ab (λg2=>?_) λg2=>?_
  ·refine Ac c0 (Am (Ac c1 (Am (Ac c2 (Am (cday_ok (by omega) (by omega) (by omega) ?_))))))
   by_cases hD:okD y mo d
   ·rw[if_pos hD,if_pos hD]
    refine Ab (λg=>absurd rfl g) λ_=>Ac c3 (Am (Ab (λg=>out (.inl λk=>by have:=k.1.1;omega)) λk1=>Ac c4 (Am (Ab (λg=>out (.inl λk=>by have:=k.1.2.1;omega)) λk2=>Ac c5 (Am (Ab (λg=>out (.inl λk=>by have:=k.1.2.2;omega)) λk3=>Ac c8 (Am (Ab (λg=>out (.inl λk=>by have:=k.2.1;omega)) λk4=>Ac c9 (Am (Ab (λg=>out (.inl λk=>by have:=k.2.2;omega)) λk5=>?_))))))))));refine Ac c3 (Am (Ac c4 (Am (Ac c5 (Am (Ac c6 (Am (Ac c8 (Am (Ac c9 (Am (Ac c7 (Am ?_)))))))))))));rw[nano_w a5 a6 a7 a8,off_w a10 a11];exact end_ (λ_=>hD) _ (by rw[if_neg (by omega)]) ⟨okc k1 k2 k3,by omega,by omega⟩
   ·rw[if_neg hD,if_neg hD]
    exact Ab (λ_=>out (.inr λk=>hD (k (by omega)))) λg=>absurd (by decide) g
  ·refine Ac c3 (Am (Ab (λg=>out (.inl λk=>by have:=k.1.1;omega)) λk1=>Ac c4 (Am (Ab (λg=>out (.inl λk=>by have:=k.1.2.1;omega)) λk2=>Ac c5 (Am (Ab (λg=>out (.inl λk=>by have:=k.1.2.2;omega)) λk3=>Ac c8 (Am (Ab (λg=>out (.inl λk=>by have:=k.2.1;omega)) λk4=>Ac c9 (Am (Ab (λg=>out (.inl λk=>by have:=k.2.2;omega)) λk5=>?_))))))))))
   refine Ac c3 (Am (Ac c4 (Am (Ac c5 (Am (Ac c6 (Am (Ac c8 (Am (Ac c9 (Am (Ac c7 (Am ?_)))))))))))));rw[nano_w a5 a6 a7 a8,off_w a10 a11];exact end_ (λh=>absurd (by omega) h) _ (by rw[if_pos (by omega)]) ⟨okc k1 k2 k3,by omega,by omega⟩
def likeF (form s:B8):Prop:=form.length<=s.length/\∀i,i<form.length->if form.getD i 0=100 then Cz (s.getD i 0)else s.getD i 0=form.getD i 0
instance (form s:B8):Decidable (likeF form s):=inferInstanceAs (Decidable (_/\_))
theorem fracN_lt {f:B8} (hd:∀c,c∈f->Cz c) (hl:f.length<=9):V3 f<1000000000:=by
 unfold V3;have:=K6 (f++List.replicate (9-f.length) 48) λc hc=>by
  rcases List.mem_append.1 hc with hc | hc
  ·exact hd c hc
  ·rw[List.eq_of_mem_replicate hc];decide
 rw[List.length_append,List.length_replicate,show f.length+(9-f.length)=9 by omega]at this;exact this
end Go.TVF
section
namespace Go.Proofs
open Go.Shelf
def Tryz.lays137_ren:Go.Shelf.Ren:=⟨λ| 137=>185 | 217=>263 | 266=>322 | n=>n,λ| 9=>9 | 5=>5 | 3=>3 | n=>n,λ| n=>n⟩
theorem Tryz.lays137:Go.Proofs.Lays.n137 Tryz.prog Tryz.lays137_ren:={
 mixed:=by kernel_rfl
 f137:=Tryz.func185.trans (congrArg some (by kernel_rfl))
 f217:=Tryz.func263.trans (congrArg some (by kernel_rfl))
 f266:=Tryz.func322.trans (congrArg some (by kernel_rfl))
 t3:=Tryz.underlying3
 a3:=Tryz.isAgg3
 z3:=Tryz.sizeOf3
 v3:=Tryz.zeroValue3
 t5:=Tryz.underlying5
 a5:=Tryz.isAgg5
 z5:=Tryz.sizeOf5
 v5:=Tryz.zeroValue5
 t9:=Tryz.underlying9
 a9:=Tryz.isAgg9
 z9:=Tryz.sizeOf9
 v9:=Tryz.zeroValue9}
open Go.RowKit in
theorem Tryz.strings_IndexByte (s:ByteArray) (c:Int) (w:World):
  Calls Tryz.prog 185 #[.string s,.int .u8 c] w λe w'=>e= .returned (.int .i64 (Lib.indexByte s.data.toList c.toNat.toUInt8))/\w'=w:=Any.strings_IndexByte Tryz.lays137 s c w
def Tryz.lays197_ren:Go.Shelf.Ren:=⟨λ| 197=>157 | 260=>220 | n=>n,λ| 9=>9 | 21=>21 | 3=>3 | 4=>4 | 5=>5 | 105=>237 | 119=>351 | 0=>0 | 46=>277 | 139=>354 | 138=>353 | n=>n,λ| 3=>0 | 4=>1 | n=>n⟩
theorem Tryz.lays197:Go.Proofs.Lays.n197 Tryz.prog Tryz.lays197_ren:={
 mixed:=by kernel_rfl
 f197:=Tryz.func157.trans (congrArg some (by kernel_rfl))
 f260:=Tryz.func220.trans (congrArg some (by kernel_rfl))
 t0:=Tryz.underlying0
 a0:=Tryz.isAgg0
 z0:=Tryz.sizeOf0
 v0:=Tryz.zeroValue0
 t3:=Tryz.underlying3
 a3:=Tryz.isAgg3
 z3:=Tryz.sizeOf3
 v3:=Tryz.zeroValue3
 t4:=Tryz.underlying4
 a4:=Tryz.isAgg4
 z4:=Tryz.sizeOf4
 v4:=Tryz.zeroValue4
 t5:=Tryz.underlying5
 a5:=Tryz.isAgg5
 z5:=Tryz.sizeOf5
 v5:=Tryz.zeroValue5
 t9:=Tryz.underlying9
 a9:=Tryz.isAgg9
 z9:=Tryz.sizeOf9
 v9:=Tryz.zeroValue9
 t21:=Tryz.underlying21
 a21:=Tryz.isAgg21
 z21:=Tryz.sizeOf21
 v21:=Tryz.zeroValue21
 t46:=Tryz.underlying277
 a46:=Tryz.isAgg277
 z46:=Tryz.sizeOf277
 v46:=Tryz.zeroValue277
 t105:=Tryz.underlying237
 a105:=Tryz.isAgg237
 z105:=Tryz.sizeOf237
 v105:=Tryz.zeroValue237
 t119:=Tryz.underlying351
 a119:=Tryz.isAgg351
 z119:=Tryz.sizeOf351
 t138:=Tryz.underlying353
 a138:=Tryz.isAgg353
 z138:=Tryz.sizeOf353
 v138:=Tryz.zeroValue353
 t139:=Tryz.underlying354
 a139:=Tryz.isAgg354
 z139:=Tryz.sizeOf354
 v139:=Tryz.zeroValue354
 g3:=by kernel_rfl
 g4:=by kernel_rfl}
open Go.RowKit Go.Lib in
theorem Tryz.utf8_DecodeRuneInString (s:ByteArray) (w:World) (hT:Lib.Utf8Tabs 0 1 w):
  Calls Tryz.prog 157 #[.string s] w λe w'=>e= .returned (.tuple #[.int .i32 (Lib.decodeGo s).1,.int .i64 (Lib.decodeGo s).2])/\Below w.heap.size w w':=Any.utf8_DecodeRuneInString Tryz.lays197 s w hT
end Go.Proofs
end
section
namespace Go.TVF
open Go.IntKind(i64 u8)
open Go Go.Proofs Go.RowKit
theorem Sim.grown {g:Ak} {st:St} {loc:List (Option (List TV))} {w w':World} (s:Sim g st loc w) (h:Below w.heap.size w w'):Sim g st loc w'/\Ext g w g w':=
 s.world h.size (s.below.trans (h.mono s.fits)) h.block
def dG (l:B8):Nat×Nat:=if l=[]then(65533,0)else dN l
theorem dG_eq (l:B8):Lib.decodeGo ⟨l.toArray⟩=dG l:=by
 unfold Lib.decodeGo dG;by_cases h:l=[]
 ·subst h;rfl
 ·rw[if_neg h,if_neg (by simpa [ByteArray.size]using h),Lib.decode_at]
  unfold dN bt;have hg:∀i,(ByteArray.get! ⟨l.toArray⟩ i)=l.getD i 0:=λi=>by
   simp[ByteArray.get!,List.getD];rfl
  simp only[hg,Nat.zero_add,Nat.sub_zero];rfl
theorem AaF {l:B8} {st:St} {K:Int->Int->St->Prop} (hk:K ((dG l).1:Nat) ((dG l).2:Nat) st):CallT PR Bm [.str l] [.one (.int .i32),.one (.int .i64)] st K:=by
 refine Fq (λ_ _=>by kernel_rfl) λg w vargs s hr=>?_;obtain⟨v,rfl,hv⟩:=Vk hr;rw[Ec hv];refine Calls.mono (Tryz.utf8_DecodeRuneInString ⟨l.toArray⟩ w (s.glob w s.below)) ?_;rintro e w' ⟨rfl,hb⟩;obtain⟨s',e'⟩:=s.grown hb;rw[dG_eq];exact⟨_,rfl,.tuple [.int .i32 ((dG l).1:Nat),.int .i64 ((dG l).2:Nat)],st,g,hk,s',Rel.tuple _ [_,_] rfl (AP.cons (Rel.int _ _) (AP.cons (Rel.int _ _) (AP.nil _ _))).2,e'⟩
theorem Jz {l:B8} {c:Int} {st:St} {K:Int->St->Prop} (hk:K (Lib.indexByte l c.toNat.toUInt8) st):CallT PR BK [.str l,.int .u8 c] [.one (.int .i64)] st K:=by
 refine Fq (λ_ _=>by kernel_rfl) λg w vargs s hr=>?_;obtain⟨v,u,rfl,hv,hu⟩:=Qm hr;rw[Ec hv,Vj hu];refine Calls.mono (Tryz.strings_IndexByte ⟨l.toArray⟩ c w) ?_;rintro e w' ⟨rfl,rfl⟩;exact⟨_,rfl,.int .i64 _,st,g,hk,s,Rel.int _ _,Ext.refl _ _⟩
end Go.TVF
end
namespace Go.TVF
open Go.IntKind(i64 u8)
open Go Go.Proofs
def Cm (c:Int):Bool:=decide (97<=c/\c<=122∨65<=c/\c<=90∨48<=c/\c<=57∨c=95∨c=45)
def FJ (c:Int):Bool:=decide (97<=c/\c<=122∨65<=c/\c<=90∨48<=c/\c<=57∨c=95∨c=45∨c=43∨c=46∨c=58)
def N8 (c:Int):Bool:=decide (c=32∨c=9)
def Cls (st:St) (v:TV) (p:Int->Bool):Prop:=
 ∀st',Ag st st'->∀(c:Int) (K:Bool->St->Prop),K (p c) st'->Ja NoE PR v [.int .u8 c] [.one (.bool)] st' K
theorem Wo {c:Int} {st:St} {K:Bool->St->Prop} (hk:K (Cm c) st):CallT PR Bj [.int .u8 c] [.one (.bool)] st K:=by
 refine J0 c st K ?_;unfold Cm at hk
 repeat' (refine Ab (λ_=>?_) λ_=>?_)
 all_goals first | exact GM (decide_eq_true (by omega)).symm hk | exact GM (decide_eq_false (by omega)).symm hk | exact GM (decide_eq_decide.2 (by omega)) hk
theorem cls1 (st:St):Cls st (.func Bj []) Cm:=λst' _ c K hk=>Wo hk
theorem cls2 {st:St} {b:Nat} (hb:st.box b= .cells [.func Bj []]) (hlt:b<st.nb):Cls st (.func DP [.box b 0]) FJ:=by
 intro st' e c K hk;refine JZ c _ st' K (Ac (x:= .func Bj []) (by simp[Af,e.box b hlt,hb]) ?_);refine cls1 st' st' (Ag.refl _) c _ ?_;unfold Cm;unfold FJ at hk;refine Ab (λ_=>?_) λ_=>?_
 ·exact GM (decide_eq_true (by omega)).symm hk
 ·repeat' (refine Ab (λ_=>?_) λ_=>?_)
  all_goals first | exact GM (decide_eq_true (by omega)).symm hk | exact GM (decide_eq_false (by omega)).symm hk | exact GM (decide_eq_decide.2 (by omega)) hk
theorem Wn (st:St):Cls st (.func DZ []) N8:=λst' _ c K hk=>by
 refine MU c st' K ?_;unfold N8 at hk;refine Ab (λ_=>?_) λ_=>?_
 ·exact GM (decide_eq_true (by omega)).symm hk
 ·exact GM (decide_eq_decide.2 (by omega)) hk
theorem YK {st:St} {b:Nat} {l xs:List TV} {k:St->Prop} (hb:st.box b= .cells l) (hl:0+xs.length<=l.length) (hk:k (st.put b (.cells (setAll l 0 xs)))):stB st (.box b 0) xs k:=⟨l,hb,hl,hk⟩
theorem MF {st:St} {K:TV->TV->St->Prop} (hk:∀v u st',Ag st st'->Cls st' v Cm->Cls st' u FJ->K v u st'):CallT PR CD [] [.one (.tv),.one (.tv)] st K:=by
 refine Lx st K (YK (box_push _ _ _) (by simp) ?_);refine Ac (x:= .func Bj []) (by simp[Af,Ig,setAll]) (Aa rfl ?_);refine YK (Ig _ _ _) (by simp[setAll]) ?_;refine Ac (x:= .func Bj []) (by simp[Af,Ig,setAll]) ?_;refine hk _ _ _ (((Ag.refl st).push _ _).put (Nat.le_refl _) _ |>.put (Nat.le_refl _) _) (cls1 _) (cls2 (by simp[Ig,setAll]) (by simp[St.put,St.push]))
def twl (p:Int->Bool):B8->Nat
 | []=>0
 | c::r=>if p (c.toNat:Int)then twl p r+1 else 0
theorem Ko (p:Int->Bool):∀l,twl p l<=l.length
 | []=>by simp[twl]
 | c::r=>by
  have:=Ko p r;simp only[twl,List.length_cons];split<;>omega
theorem IQ (p:Int->Bool) (s:B8) (i:Nat) (h:i<s.length):twl p (s.drop i)=if p (((s.getD i 0).toNat:Nat):Int)then twl p (s.drop (i+1))+1 else 0:=by
 rw[Lm s i 0 h];rfl
theorem YE (p:Int->Bool) (s:B8) (i:Nat) (h:s.length<=i):twl p (s.drop i)=0:=by
 rw[List.drop_of_length_le h];rfl
theorem M3 {s:B8} {I:Int} {i:Nat} {v:TV} {p:Int->Bool} {st:St} {K:Int->St->Prop} (hI:I=(i:Int)) (hl:s.length<=2000000) (hi:i<=s.length) (hc:Cls st v p) (hk:K ((i+twl p (s.drop i):Nat):Int) st):
  CallT PR CA [.str s,.int .i64 I,v] [.one (.int .i64)] st K:=by
 refine O6 s I v st K ⟨λj s' v' st'=>s=s'/\v=v'/\st=st'/\∃k:Nat,j=(k:Int)/\k<=s.length/\k+twl p (s.drop k)=i+twl p (s.drop i),λj _ _ _=>(s.length-j).toNat,⟨rfl,rfl,rfl,i,hI,hi,rfl⟩,?_⟩;rintro _ _ _ _ ⟨rfl,rfl,rfl,k,rfl,h1,h2⟩;refine Ab (λh3=>⟨⟨by omega,h3⟩,hc st (Ag.refl _) _ _ (Ao (λh4=>?_) λh4=>?_)⟩) λh3=>?_
 ·have hd:=IQ p s k (by omega)
  rw[show Int.toNat (k:Int)=k from rfl]at h4;rw[if_pos h4]at hd;rw[Ah _ (by omega) (by omega)];exact⟨⟨rfl,rfl,rfl,k+1,by omega,by omega,by omega⟩,by dsimp only;omega⟩
 ·have hd:=IQ p s k (by omega)
  rw[show Int.toNat (k:Int)=k from rfl]at h4;rw[if_neg (by rw[h4];simp)]at hd;have:k=i+twl p (s.drop i):=by omega
  rw[<-this]at hk;exact hk
 ·rw[YE p s k (by omega)]at h2
  have:k=i+twl p (s.drop i):=by omega
  rw[<-this]at hk;exact hk
def Q0 (c:Int):Bool:=decide (48<=c/\c<=57)
def FI:List (Option UInt8)->B8->Bool
 | [],_=>true
 | _::_,[]=>false
 | none::ps,c::cs=>Q0 (c.toNat:Int)&&FI ps cs
 | some a::ps,c::cs=>decide (c=a)&&FI ps cs
def GO (d:UInt8) (p:B8):List (Option UInt8):=p.map λc=>if c=d then none else some c
theorem Hn:∀(ps:List (Option UInt8)) (l:B8),l.length<ps.length->FI ps l=false
 | [],l,h=>by simp at h
 | _::_,[],_=>by cases ‹Option UInt8›<;>rfl
 | none::ps,c::cs,h=>by simp only[FI];rw[Hn ps cs (by simpa using h)];simp
 | some a::ps,c::cs,h=>by simp only[FI];rw[Hn ps cs (by simpa using h)];simp
theorem Aam (d:UInt8) (p s:B8) (k:Nat) (hp:k<p.length) (hs:k<s.length):FI (GO d (p.drop k)) (s.drop k)=
  ((if p.getD k 0=d then Q0 ((s.getD k 0).toNat:Int)else decide (s.getD k 0=p.getD k 0))&&FI (GO d (p.drop (k+1))) (s.drop (k+1))):=by
 rw[Lm p k 0 hp,Lm s k 0 hs];simp only[GO,List.map_cons];by_cases h:p.getD k 0=d
 ·rw[if_pos h,if_pos h];rfl
 ·rw[if_neg h,if_neg h];rfl
theorem patB_end (d:UInt8) (p s:B8) (k:Nat) (hp:p.length<=k):FI (GO d (p.drop k)) s=true:=by
 rw[List.drop_of_length_le hp];rfl
theorem KH:∀(a b:List (Option UInt8)) (l:B8),FI (a++b) l=(FI a l&&FI b (l.drop a.length))
 | [],b,l=>by simp[FI]
 | _::_,b,[]=>by cases ‹Option UInt8›<;>simp[FI]
 | none::a,b,c::l=>by simp only[List.cons_append,FI,KH a b l,List.length_cons,List.drop_succ_cons,Bool.and_assoc]
 | some x::a,b,c::l=>by simp only[List.cons_append,FI,KH a b l,List.length_cons,List.drop_succ_cons,Bool.and_assoc]
theorem Qv {s p:B8} {st:St} {K:Bool->St->Prop} (hp:p.length<=1000) (hk:K (FI (GO 48 p) s) st):CallT PR Dh [.str s,.str p] [.one (.bool)] st K:=by
 refine Lv s p st K (Ab (λh=>?_) λh0=>⟨λj s' p' st'=>s=s'/\p=p'/\st=st'/\∃k:Nat,j=(k:Int)/\k<=p.length/\FI (GO 48 (p.drop k)) (s.drop k)=FI (GO 48 p) s,λj _ _ _=>(p.length-j).toNat,⟨rfl,rfl,rfl,0,rfl,by omega,rfl⟩,?_⟩)
 ·rw[Hn _ _ (by simp[GO];omega)]at hk;exact hk
 rintro _ _ _ _ ⟨rfl,rfl,rfl,k,rfl,h1,h2⟩;have go:(I:Prop)->True:=λ_=>trivial;refine Ab (λh3=>?_) λh3=>?_
 ·have hd:=Aam 48 p s k (by omega) (by omega)
  have e48:∀x:UInt8,((x.toNat:Int)=48)↔x=48:=λx=>ZL x 48;rw[h2]at hd;rw[show Int.toNat (k:Int)=k from rfl];refine⟨⟨by omega,by omega⟩,Ab (λh4=>?_) λh4=>?_⟩
  ·rw[if_pos ((e48 _).1 h4)]at hd
   refine⟨⟨by omega,by omega⟩,Ab (λh5=>?_) λh5=>⟨⟨by omega,by omega⟩,Ab (λh6=>?_) λh6=>⟨⟨by omega,by omega⟩,Ab (λh7=>absurd h4 h7) λ_=>?_⟩⟩⟩
   ·have:Q0 ((s.getD k 0).toNat:Int)=false:=decide_eq_false (by omega)
    rw[this]at hd;rw[hd]at hk;exact hk
   ·have:Q0 ((s.getD k 0).toNat:Int)=false:=decide_eq_false (by omega)
    rw[this]at hd;rw[hd]at hk;exact hk
   ·have:Q0 ((s.getD k 0).toNat:Int)=true:=decide_eq_true (by omega)
    rw[this,Bool.true_and]at hd;rw[Ah _ (by omega) (by omega)];exact⟨⟨rfl,rfl,rfl,k+1,by omega,by omega,hd.symm⟩,by dsimp only;omega⟩
  ·rw[if_neg (λh=>h4 ((e48 _).2 h))]at hd
   refine⟨⟨by omega,by omega⟩,Ab (λ_=>⟨⟨by omega,by omega⟩,⟨⟨by omega,by omega⟩,Ab (λh5=>?_) λh5=>?_⟩⟩) λh7=>absurd h4 h7⟩
   ·have:decide (s.getD k 0=p.getD k 0)=false:=decide_eq_false (λh=>h5 (by rw[h]))
    rw[this]at hd;rw[hd]at hk;exact hk
   ·have:decide (s.getD k 0=p.getD k 0)=true:=decide_eq_true ((ZL _ _).1 (Decidable.not_not.1 h5))
    rw[this,Bool.true_and]at hd;rw[Ah _ (by omega) (by omega)];exact⟨⟨rfl,rfl,rfl,k+1,by omega,by omega,hd.symm⟩,by dsimp only;omega⟩
 ·rw[patB_end 48 p _ k (by omega)]at h2
  rw[<-h2]at hk;exact hk
theorem wrapU32 (x:Int) (h1:0<=x) (h2:x<=4294967295):IntKind.wrap .u32 x=x:=by
 unfold IntKind.wrap;simp only[IntKind.signed,IntKind.bits];simp;omega
theorem WU (x:Int) (h1: -2147483648<=x) (h2:x<=2147483647):IntKind.wrap .i32 x=x:=by
 unfold IntKind.wrap;simp only[IntKind.signed,IntKind.bits];simp;omega
theorem YB (n:Nat):IntKind.wrap .u8 (n:Int)=((n%256:Nat):Int):=by rw[u8wrap];simp
theorem or8N (a b m:Nat) (hb:b<2^m) (h:a*2^m+b<2^8) (x y:Int) (hx:x=((a*2^m:Nat):Int)) (hy:y=(b:Int)):AI .or .u8 x y=((a*2^m+b:Nat):Int):=by
 have hb':b<2^8:=by omega
 rw[hx,hy,or_u8 _ _ (by omega) hb',Nat.mul_comm a,Nat.two_pow_add_eq_or_of_lt hb]
theorem low6 (x:Nat):AI .and .u8 (u8.wrap (x:Int)) (63:Int)=((x%64:Nat):Int):=by
 rw[YB,show(63:Int)=((63:Nat):Int)from rfl,Uw _ _ (by omega) (by omega),show(63:Nat)=2^6-1 from rfl,Nat.and_two_pow_sub_one_eq_mod];congr 1;omega
theorem ZF (x:Nat):AI .or .u8 (128:Int) (AI .and .u8 (u8.wrap (x:Int)) (63:Int))=(((UInt8.ofNat (128+x%64)).toNat:Nat):Int):=by
 rw[low6,or8N 2 (x%64) 6 (by omega) (by omega) (128:Int) _ rfl rfl];simp;omega
theorem lead8 (a b m:Nat) (hb:b<2^m) (h:a*2^m+b<2^8) (x:Int) (hx:x=((a*2^m:Nat):Int)):AI .or .u8 x (u8.wrap (b:Int))=(((UInt8.ofNat (a*2^m+b)).toNat:Nat):Int):=by
 have hb':b<256:=by omega
 rw[YB,Nat.mod_eq_of_lt hb',or8N a b m hb h _ _ hx rfl,UInt8.toNat_ofNat',Nat.mod_eq_of_lt (show a*2^m+b<2^8 from h)]
theorem QZ (r:Nat):1<=(DJ r).length/\(DJ r).length<=4:=by
 unfold DJ
 repeat' split
 all_goals simp
theorem R7 {R:Int} {r:Nat} {st0 st:St} {v:TV} {l:B8} {K:TV->St->Prop} (hR:R=(r:Int)) (hc:B5 r) (e:Ag st0 st) (h:JP st0.nt st v l) (hby:l.length<=140737488355320)
  (hk:∀v' st',Ag st0 st'->JP st0.nt st' v' (l++DJ r)->K v' st'):CallT PR Dy [v,.int .i32 R] [.one (.tv)] st K:=by
 have hr2:r<=1114111:=hc.1;have hu:IntKind.u32.wrap R=R:=wrapU32 _ (by omega) (by omega);have hel:=QZ r;have shr:∀m,m<=32->Int.fdiv R (2^(min m (IntKind.bits .i32)))=((r/2^m:Nat):Int):=λm hm=>by
  rw[hR,show min m (IntKind.bits .i32)=m from Nat.min_eq_left hm,show(2:Int)^m=((2^m:Nat):Int) by simp,Int.fdiv_eq_ediv_of_nonneg _ (Int.natCast_nonneg _)];rfl
 have s6:=shr 6 (by decide);have s12:=shr 12 (by decide);have s18:=shr 18 (by decide);have cR:AI .or .u8 (128:Int) (AI .and .u8 (u8.wrap R) (63:Int))=(((UInt8.ofNat (128+r%64)).toNat:Nat):Int):=by rw[hR];exact ZF r
 have i6:Int.toNat (6:Int)=6:=rfl;have i12:Int.toNat (12:Int)=12:=rfl;have i18:Int.toNat (18:Int)=18:=rfl;refine Ma v R st K ?_;rw[hu];refine Ab (λh1=>?_) λh1=>?_
 ·have hE:DJ r=[UInt8.ofNat r]:=by unfold DJ;rw[if_pos (by omega)]
  rw[hE]at hk hel;exact Gh e h rfl (by simp only[AV,List.map,L7];rw[hR,u8wrap]) (by simp;omega) λv' st' e' _ ho=>hk v' st' e' ho
 ·refine Hd v R st _ ?_
  rw[hu];refine Ab (λh2=>?_) λh2=>?_
  ·have hE:DJ r=[UInt8.ofNat (192+r/64),UInt8.ofNat (128+r%64)]:=by unfold DJ;rw[if_neg (by omega),if_pos (by omega)]
   rw[hE]at hk;refine Gh e h rfl ?_ (by simp;omega) λv' st' e' _ ho=>hk v' st' e' ho;simp only[AV,List.map,L7];rw[cR,i6,s6,lead8 6 (r/2^6) 5 (by omega) (by omega) (192:Int) rfl]
  ·have t3:r<65536->Bn 5 1 1 v 3 [(.int .u8 (AI .or .u8 (224:Int) (u8.wrap (Int.fdiv R (2^(min (Int.toNat (12:Int)) (IntKind.bits .i32))))))),(.int .u8 (AI .or .u8 (128:Int) (AI .and .u8 (u8.wrap (Int.fdiv R (2^(min (Int.toNat (6:Int)) (IntKind.bits .i32))))) (63:Int)))),(.int .u8 (AI .or .u8 (128:Int) (AI .and .u8 (u8.wrap R) (63:Int))))] st K:=by
    intro h3;have hE:DJ r=[UInt8.ofNat (224+r/4096),UInt8.ofNat (128+r/64%64),UInt8.ofNat (128+r%64)]:=by unfold DJ;rw[if_neg (by omega),if_neg (by omega),if_pos (by omega)]
    rw[hE]at hk;refine Gh e h rfl ?_ (by simp;omega) λv' st' e' _ ho=>hk v' st' e' ho;simp only[AV,List.map,L7];rw[cR,i6,i12,s6,s12,lead8 14 (r/2^12) 4 (by omega) (by omega) (224:Int) rfl,ZF]
   have t4:¬r<65536->Bn 5 1 1 v 4 [(.int .u8 (AI .or .u8 (240:Int) (u8.wrap (Int.fdiv R (2^(min (Int.toNat (18:Int)) (IntKind.bits .i32))))))),(.int .u8 (AI .or .u8 (128:Int) (AI .and .u8 (u8.wrap (Int.fdiv R (2^(min (Int.toNat (12:Int)) (IntKind.bits .i32))))) (63:Int)))),(.int .u8 (AI .or .u8 (128:Int) (AI .and .u8 (u8.wrap (Int.fdiv R (2^(min (Int.toNat (6:Int)) (IntKind.bits .i32))))) (63:Int)))),(.int .u8 (AI .or .u8 (128:Int) (AI .and .u8 (u8.wrap R) (63:Int))))] st K:=by
    intro h3;have hE:DJ r=[UInt8.ofNat (240+r/262144),UInt8.ofNat (128+r/4096%64),UInt8.ofNat (128+r/64%64),UInt8.ofNat (128+r%64)]:=by unfold DJ;rw[if_neg (by omega),if_neg (by omega),if_neg (by omega)]
    rw[hE]at hk;refine Gh e h rfl ?_ (by simp;omega) λv' st' e' _ ho=>hk v' st' e' ho;simp only[AV,List.map,L7];rw[cR,i6,i12,i18,s6,s12,s18,lead8 30 (r/2^18) 3 (by omega) (by omega) (240:Int) rfl,ZF,ZF]
   unfold B5 at hc;refine Ab (λh3=>Ab (λ_=>t3 (by omega)) λh4=>absurd h3 h4) λh3=>Ab (λh4=>Ab (λh5=>t3 (by omega)) λh5=>Ab (λh6=>Ab (λ_=>t4 (by omega)) λh7=>by omega) λh6=>by omega) λh4=>by omega
def VY (c:Nat):Option Nat:=if 48<=c/\c<=57 then some (c-48)else if 97<=c/\c<=102 then some (c-87)else if 65<=c/\c<=70 then some (c-55)else none
theorem Zj {c d:Nat} (h:VY c=some d):d<16:=by
 unfold VY at h
 repeat' split at h
 all_goals first | (cases h;done) | (simp only[Option.some.injEq]at h;omega)
def Hs:Nat->B8->Nat->Except Int Nat
 | 0,_,acc=> .ok acc
 | k+1,[],acc=> .error 4
 | k+1,c::cs,acc=>match VY c.toNat with
  | none=> .error 3
  | some d=>Hs k cs (acc*16+d)
def eN:Except Int Nat->Int | .ok n=>n | .error _=>0
def eE {α:Type}:Except Int α->Int | .ok _=>0 | .error e=>e
def XL (n:Nat):Int:=match VY n with | none=> -1 | some d=>if 97<=n∨n<=57 then(d:Int)else d+6
theorem idx_hexN:∀n,n<256->Lib.indexByte str57 (UInt8.ofNat n)=XL n:=by decide+kernel
theorem idx_hex (c:UInt8):Lib.indexByte str57 c=XL c.toNat:=by
 have:=idx_hexN c.toNat c.toNat_lt;rwa [UInt8.ofNat_toNat]at this
theorem XK (n:Nat):(VY n=none/\XL n= -1)∨∃d,VY n=some d/\d<16/\(XL n=d∨(XL n=d+6/\10<=d)):=by
 unfold XL;cases hd:VY n with
 | none=>exact .inl ⟨rfl,rfl⟩
 | some d=>
  right;refine⟨d,rfl,Zj hd,?_⟩;simp only;by_cases hc:97<=n∨n<=57
  ·rw[if_pos hc];exact .inl rfl
  ·rw[if_neg hc]
   right;refine⟨rfl,?_⟩;unfold VY at hd;rw[if_neg (by omega),if_neg (by omega)]at hd;split at hd
   ·simp only[Option.some.injEq]at hd;omega
   ·cases hd
theorem hex_ok {s:B8} {I:Int} {i:Nat} {st:St} {K:Int->Int->St->Prop} (hI:I=(i:Int)) (hl:s.length<=2000000) (hi:i<=s.length) (hk:K (eN (Hs 4 (s.drop i) 0)) (eE (Hs 4 (s.drop i) 0)) st):
  CallT PR C0 [.str s,.int .i64 I] [.one (.int .i64),.one (.int .i64)] st K:=by
 refine O7 s I st K ⟨λn k s' i' st'=>s=s'/\I=i'/\st=st'/\∃j a:Nat,k=((i+j:Nat):Int)/\n=(a:Int)/\j<=4/\i+j<=s.length/\a<16^j/\Hs (4-j) (s.drop (i+j)) a=Hs 4 (s.drop i) 0,λ_ k _ i' _=>(i'+4-k).toNat,⟨rfl,rfl,rfl,0,0,by omega,rfl,by omega,by omega,by omega,rfl⟩,?_⟩;rintro _ _ _ _ _ ⟨rfl,rfl,rfl,j,a,rfl,rfl,h1,h2,h3,h4⟩;rw[Ah (I+4) (by omega) (by omega)];have h16:16^j<=16^4:=Nat.pow_le_pow_right (by decide) h1;refine Ab (λg1=>Ab (λg2=>?_) λg2=>⟨⟨by omega,by omega⟩,Jz ?_⟩) λg1=>?_
 ·have:s.drop (i+j)=[]:=List.drop_of_length_le (by omega)
  rw[this,show 4-j=(3-j)+1 by omega]at h4;rw[<-h4]at hk;exact hk
 ·rw[Lm s (i+j) 0 (by omega),show 4-j=(3-j)+1 by omega]at h4
  simp only[Hs]at h4;rw[show Int.toNat ((i+j:Nat):Int)=i+j from rfl,Int.toNat_natCast,show((s.getD (i+j) 0).toNat).toUInt8=s.getD (i+j) 0 by simp,idx_hex];have hix:=XK (s.getD (i+j) 0).toNat;generalize XL (s.getD (i+j) 0).toNat=X at*;have mes:(I+4-(i64.wrap (((i+j:Nat):Int)+(1:Int)))).toNat<(I+4-((i+j:Nat):Int)).toNat:=by
   rw[Ah _ (by omega) (by omega)];omega
  rcases hix with⟨hd,hX⟩ | ⟨d,hd,hd16,hX⟩
  ·rw[hd]at h4
   simp only at h4;refine Ab (λ_=>?_) λg3=>by omega
   rw[<-h4]at hk;exact hk
  ·rw[hd]at h4
   simp only at h4;have hstep:∀x:Int,x=(d:Int)->(i64.wrap ((i64.wrap ((a:Int)*(16:Int)))+x))=((a*16+d:Nat):Int):=λx hx=>by
    rw[hx,Ah ((a:Int)*16) (by omega) (by omega),Ah _ (by omega) (by omega)];omega
   have fin:∀x:Int,x=(d:Int)->(s=s/\I=I/\st=st/\∃j' a':Nat,(i64.wrap (((i+j:Nat):Int)+(1:Int)))=((i+j':Nat):Int)/\(i64.wrap ((i64.wrap ((a:Int)*(16:Int)))+x))=(a':Int)/\j'<=4/\i+j'<=s.length/\a'<16^j'/\Hs (4-j') (s.drop (i+j')) a'=Hs 4 (s.drop i) 0):=λx hx=>by
    refine⟨rfl,rfl,rfl,j+1,a*16+d,by rw[Ah _ (by omega) (by omega)];omega,hstep x hx,by omega,by omega,by rw[Nat.pow_succ];omega,?_⟩;rw[show 4-(j+1)=3-j by omega,<-Nat.add_assoc];exact h4
   refine Ab (λg3=>by omega) λ_=>Ab (λg4=>⟨fin _ (by rw[Ah _ (by omega) (by omega)];omega),mes⟩) λg4=>⟨fin _ (by omega),mes⟩
 ·have:j=4:=by omega
  subst this;rw[<-h4]at hk;exact hk
theorem Nr:∀(k:Nat) (l:B8) (acc n:Nat),Hs k l acc= .ok n->n<(acc+1)*16^k/\k<=l.length
 | 0,l,acc,n,h=>by simp only[Hs,Except.ok.injEq]at h;omega
 | k+1,[],acc,n,h=>by cases h
 | k+1,c::cs,acc,n,h=>by
  simp only[Hs]at h;split at h
  ·cases h
  ·rename_i d hd
   have hd16:=Zj hd;obtain⟨h1,h2⟩:=Nr k cs _ n h;refine⟨Nat.lt_of_lt_of_le h1 ?_,by simp;omega⟩;rw[Nat.pow_succ,Nat.mul_comm (16^k) 16,<-Nat.mul_assoc];exact Nat.mul_le_mul_right _ (by omega)
theorem Ns:∀(k:Nat) (l:B8) (acc:Nat),Hs k l acc≠.error 0
 | 0,l,acc=>by simp[Hs]
 | k+1,[],acc=>by simp[Hs]
 | k+1,c::cs,acc=>by
  simp only[Hs];split
  ·simp
  ·exact Ns k cs _
def Pr (l:B8):Except Int (Nat×Nat):=
 match Hs 4 l 0 with
 | .error e=> .error e
 | .ok n=>
  if 56320<=n/\n<=57343 then .error 5
  else if n<55296∨57343<n then .ok (n,4)
  else if l.length<=4 then .error 4
  else if bt l 4≠92 then .error 5
  else if l.length<=5 then .error 4
  else if bt l 5≠117 then .error 5
  else match Hs 4 (l.drop 6) 0 with
   | .error e=> .error e
   | .ok m=>if m<56320∨57343<m then .error 5 else .ok (65536+(n-55296)*1024+(m-56320),10)
def eR:Except Int (Nat×Nat)->Int | .ok p=>p.1 | .error _=>0
def eK (i:Nat):Except Int (Nat×Nat)->Int | .ok p=>((i+p.2:Nat):Int) | .error _=>0
theorem Ub {l:B8} {r k:Nat} (h:Pr l= .ok (r,k)):B5 r/\k<=l.length/\4<=k/\k<=10:=by
 unfold Pr at h;cases hn:Hs 4 l 0 with
 | error e=>rw[hn]at h;cases h
 | ok n=>
  rw[hn]at h;obtain⟨hn1,hn2⟩:=Nr _ _ _ _ hn;simp only at h;split at h
  ·cases h
  ·split at h
   ·simp only[Except.ok.injEq,Prod.mk.injEq]at h
    unfold B5;omega
   ·split at h
    ·cases h
    ·split at h
     ·cases h
     ·split at h
      ·cases h
      ·split at h
       ·cases h
       ·cases hm:Hs 4 (l.drop 6) 0 with
        | error e=>rw[hm]at h;cases h
        | ok m=>
         rw[hm]at h;obtain⟨hm1,hm2⟩:=Nr _ _ _ _ hm;simp only at h;split at h
         ·cases h
         ·simp only[Except.ok.injEq,Prod.mk.injEq]at h
          simp only[List.length_drop]at hm2;unfold B5;omega
theorem Zi {s:B8} {I:Int} {i:Nat} {st:St} {K:Int->Int->St->Prop} (hI:I=(i:Int)) (hl:s.length<=2000000) (hi:i<=s.length)
  (h1:∀e,e≠0->Hs 4 (s.drop i) 0= .error e->K 0 e st) (h2:∀(n:Nat) (N:Int),N=(n:Int)->Hs 4 (s.drop i) 0= .ok n->K N 0 st):
  CallT PR C0 [.str s,.int .i64 I] [.one (.int .i64),.one (.int .i64)] st K:=by
 refine hex_ok hI hl hi ?_;cases hn:Hs 4 (s.drop i) 0 with
 | error e=>exact h1 e (λh0=>by subst h0;exact Ns _ _ _ hn) hn
 | ok n=>exact h2 n _ rfl hn
theorem Aay {s:B8} {I:Int} {i:Nat} {st:St} {K:Int->Int->Int->St->Prop} (hI:I=(i:Int)) (hl:s.length<=2000000) (hi:i<=s.length)
  (hk:K (eR (Pr (s.drop i))) (eK i (Pr (s.drop i))) (eE (Pr (s.drop i))) st):CallT PR Dz [.str s,.int .i64 I] [.one (.int .i32),.one (.int .i64),.one (.int .i64)] st K:=by
 have hlen:(s.drop i).length=s.length-i:=by simp
 have hb:∀j,bt (s.drop i) j=(s.getD (i+j) 0).toNat:=λj=>GY s i j;unfold Pr at hk;refine Mc s I st K (Zi hI hl hi (λe he hn=>?_) λn N hN hn=>?_)
 ·rw[hn]at hk
  exact Ab (λ_=>hk) λh=>absurd he h
 ·rw[hn]at hk
  obtain⟨hn1,hn2⟩:=Nr _ _ _ _ hn;simp only at hk;refine Ab (λh=>absurd rfl h) λ_=>?_;refine Ab (λh1=>Ab (λh2=>?_) λh2=>?_) λh1=>?_
  ·rw[if_pos (by omega)]at hk;exact hk
  ·rw[if_neg (by omega),if_pos (by omega)]at hk
   refine Ab (λh3=>by omega) λh3=>Ab (λ_=>?_) λh4=>by omega
   rw[WU _ (by omega) (by omega),Ah _ (by omega) (by omega),hN,hI];exact hk
  ·refine Ab (λh3=>?_) λh3=>Ab (λh4=>by omega) λh4=>?_
   ·rw[if_neg (by omega),if_pos (by omega)]at hk
    rw[WU _ (by omega) (by omega),Ah _ (by omega) (by omega),hN,hI];exact hk
   ·rw[if_neg (by omega),if_neg (by omega)]at hk
    refine⟨λq s' i' n' v m st'=>s=s'/\I=i'/\N=n'/\TV.list 1 .full 2 [.int .u8 (92:Int),.int .u8 (117:Int)]=v/\2=m/\st=st'/\(q=0∨(q=1/\4<(s.drop i).length/\bt (s.drop i) 4=92)∨(q=2/\5<(s.drop i).length/\bt (s.drop i) 4=92/\bt (s.drop i) 5=117)),λq _ _ _ _ _ _=>(2-q).toNat,⟨rfl,rfl,rfl,rfl,rfl,rfl,.inl rfl⟩,?_⟩;rintro q _ _ _ _ _ _ ⟨rfl,rfl,rfl,rfl,rfl,rfl,hq⟩;rw[hlen,hb,hb]at hq;rw[hlen,hb,hb]at hk;rw[Ah (I+4) (by omega) (by omega)];refine Ab (λg1=>?_) λg1=>?_
    ·have hld:∀x:Int,(x=92/\q=0∨x=117/\q=1)->Af st [] (.t (ixT 1 (TV.list 1 .full 2 [.int .u8 (92:Int),.int .u8 (117:Int)]) (Int.toNat q))) 0=some (.int .u8 x):=by
      rintro x (⟨rfl,rfl⟩ | ⟨rfl,rfl⟩)<;>rfl
     rcases hq with rfl | ⟨rfl,q1,q2⟩ | ⟨rfl,_⟩
     ·refine⟨⟨by omega,by decide⟩,Ac (hld 92 (.inl ⟨rfl,rfl⟩)) ?_⟩
      rw[Ah (I+4+0) (by omega) (by omega)];refine Ab (λg2=>?_) λg2=>⟨⟨by omega,by omega⟩,Ab (λg3=>?_) λg3=>⟨⟨rfl,rfl,rfl,rfl,rfl,rfl,.inr (.inl ⟨rfl,?_,?_⟩)⟩,by dsimp only;decide⟩⟩
      ·rw[if_pos (by omega)]at hk;exact hk
      ·rw[show Int.toNat (I+4+0)=i+4 by omega]at g3
       rw[if_neg (by omega),if_pos (by omega)]at hk;exact hk
      ·rw[hlen];omega
      ·rw[show Int.toNat (I+4+0)=i+4 by omega]at g3
       rw[hb];omega
     ·refine⟨⟨by omega,by decide⟩,Ac (hld 117 (.inr ⟨rfl,rfl⟩)) ?_⟩
      rw[Ah (I+4+1) (by omega) (by omega)];refine Ab (λg2=>?_) λg2=>⟨⟨by omega,by omega⟩,Ab (λg3=>?_) λg3=>⟨⟨rfl,rfl,rfl,rfl,rfl,rfl,.inr (.inr ⟨rfl,?_,?_,?_⟩)⟩,by dsimp only;decide⟩⟩
      ·rw[if_neg (by omega),if_neg (by omega),if_pos (by omega)]at hk;exact hk
      ·rw[show Int.toNat (I+4+1)=i+5 by omega]at g3
       rw[if_neg (by omega),if_neg (by omega),if_neg (by omega),if_pos (by omega)]at hk;exact hk
      ·rw[hlen];omega
      ·rw[hb];exact q2
      ·rw[show Int.toNat (I+4+1)=i+5 by omega]at g3
       rw[hb];omega
     ·omega
    ·rcases hq with rfl | ⟨rfl,_⟩ | ⟨rfl,q1,q2,q3⟩
     ·omega
     ·omega
     ·rw[if_neg (by omega),if_neg (by omega),if_neg (by omega),if_neg (by omega),List.drop_drop]at hk
      rw[Ah (I+6) (by omega) (by omega)];refine Zi (i:=i+6) (by omega) hl (by omega) (λe he hm=>?_) λm M hM hm=>?_
      ·rw[hm]at hk
       exact Ab (λ_=>hk) λh=>absurd he h
      ·rw[hm]at hk
       obtain⟨hm1,hm2⟩:=Nr _ _ _ _ hm;simp only at hk;refine Ab (λh=>absurd rfl h) λ_=>?_;refine Ab (λh5=>?_) λh5=>Ab (λh6=>?_) λh6=>?_
       ·rw[if_pos (by omega)]at hk;exact hk
       ·rw[if_pos (by omega)]at hk;exact hk
       ·rw[if_neg (by omega)]at hk
        rw[show(2:Int)^(min (Int.toNat (10:Int)) (IntKind.bits .i64))=1024 by decide,Ah (N-55296) (by omega) (by omega),Ah ((N-55296)*1024) (by omega) (by omega),Ah (65536+(N-55296)*1024) (by omega) (by omega),
         Ah (65536+(N-55296)*1024+M) (by omega) (by omega),Ah (65536+(N-55296)*1024+M-56320) (by omega) (by omega),WU _ (by omega) (by omega),Ah _ (by omega) (by omega)]
        have e1:(65536+(N-55296)*1024+M-56320)=((65536+(n-55296)*1024+(m-56320):Nat):Int):=by omega
        have e2:I+10=((i+10:Nat):Int):=by omega
        rw[e1,e2];exact hk
theorem V7 (l:B8):Pr l≠.error 0:=by
 unfold Pr;cases hn:Hs 4 l 0 with
 | error e=>intro h;simp only[Except.error.injEq]at h;subst h;exact Ns _ _ _ hn
 | ok n=>
  simp only
  repeat' split
  all_goals first | (simp;done) | skip
  rename_i e hm;intro h;simp only[Except.error.injEq]at h;subst h;exact Ns _ _ _ hm
def Tq (c:Nat):Option UInt8:=if c=34 then some 34 else if c=92 then some 92 else if c=47 then some 47 else if c=98 then some 8 else if c=102 then some 12 else if c=110 then some 10 else if c=114 then some 13 else if c=116 then some 9 else none
def simT (n:Nat):Bool:=match Tq n with
 | none=>decide (Lib.indexByte Ku (UInt8.ofNat n)= -1)
 | some d=>decide (0<=Lib.indexByte Ku (UInt8.ofNat n))&&decide (Lib.indexByte Ku (UInt8.ofNat n)<8)&&decide (Sk.getD (Lib.indexByte Ku (UInt8.ofNat n)).toNat 0=d)
theorem simT_all:∀n,n<256->simT n=true:=by decide+kernel
theorem sim_idx (c:UInt8):(Tq c.toNat=none/\Lib.indexByte Ku c= -1)∨∃d,Tq c.toNat=some d/\0<=Lib.indexByte Ku c/\Lib.indexByte Ku c<8/\Sk.getD (Lib.indexByte Ku c).toNat 0=d:=by
 have h:=simT_all c.toNat c.toNat_lt;unfold simT at h;rw[UInt8.ofNat_toNat]at h;cases hd:Tq c.toNat with
 | none=>rw[hd]at h;exact .inl ⟨rfl,by simpa using h⟩
 | some d=>rw[hd]at h;simp only[Bool.and_eq_true,decide_eq_true_eq]at h;exact .inr ⟨d,rfl,h.1.1,h.1.2,h.2⟩
def qF:Nat->Nat->B8->B8->Nat->Except Int (B8×Nat)
 | 0,_,_,_,_=> .error 4
 | f+1,m,l,acc,n=>
  if l.length=0 then .error 4
  else if bt l 0=m then .ok (acc,n+1)
  else if ul l=0∨bt l 0<32 then .error 5
  else if bt l 0≠92∨m=39 then qF f m (l.drop (ul l)) (acc++l.take (ul l)) (n+ul l)
  else if l.length<=1 then .error 4
  else if bt l 1=117 then match Pr (l.drop 2)with
   | .error e=> .error e
   | .ok p=>qF f m (l.drop (2+p.2)) (acc++DJ p.1) (n+(2+p.2))
  else match Tq (bt l 1)with
   | none=> .error 3
   | some c=>qF f m (l.drop 2) (acc++[c]) (n+2)
def qL:Except Int (B8×Nat)->B8 | .ok p=>p.1 | .error _=>[]
def qN:Except Int (B8×Nat)->Int | .ok p=>p.2 | .error _=>0
theorem JH {l:B8} {st:St} {K:Int->Int->St->Prop} (hne:l≠ []) (hk:∀R N:Int,((ul l=0/\R=65533/\N=1)∨(ul l≠0/\R=(ur l:Nat)/\N=(ul l:Nat)/\¬(R=65533/\N=1)/\ul l<=l.length/\ul l<=4))->K R N st):CallT PR Bm [.str l] [.one (.int .i32),.one (.int .i64)] st K:=by
 refine AaF (hk _ _ ?_);have hd:dG l=dN l:=by unfold dG;rw[if_neg hne]
 rw[hd];by_cases h:ul l=0
 ·rw[(Te l hne).1 h];exact .inl ⟨h,rfl,rfl⟩
 ·rw[X7 l h]
  have h1:=ul_not l h;have h2:=YA l h;exact .inr ⟨h,rfl,rfl,by simp only;omega,h2.2.2.1,h2.2.2.2⟩
theorem Oe {s:B8} {I:Int} {i:Nat} {st:St} {K:B8->Int->Int->St->Prop} (hI:I=(i:Int)) (hl:s.length<=2000000) (hi:i<s.length)
  (hk:∀st',Ag st st'->K (qL (qF (s.length+1) (bt (s.drop i) 0) (s.drop (i+1)) [] (i+1))) (qN (qF (s.length+1) (bt (s.drop i) 0) (s.drop (i+1)) [] (i+1))) (eE (qF (s.length+1) (bt (s.drop i) 0) (s.drop (i+1)) [] (i+1))) st'):
  CallT PR Cp [.str s,.int .i64 I] [.one (.str),.one (.int .i64),.one (.int .i64)] st K:=by
 have hm0:((List.getD s (Int.toNat I) 0).toNat:Int)=((bt (s.drop i) 0:Nat):Int):=by rw[GY,hI];rfl
 refine Mb s I st K ⟨⟨by omega,by omega⟩,?_⟩;rw[hm0];generalize bt (s.drop i) 0=m at*;generalize hX:qF (s.length+1) m (s.drop (i+1)) [] (i+1)=X at*;refine⟨λj out s' mk st'=>s=s'/\(m:Int)=mk/\Ag st st'/\∃(k f:Nat) (acc:B8),j=(k:Int)/\k<=s.length/\s.length<k+f/\acc.length<=4*k/\JP st.nt st' out acc/\qF f m (s.drop k) acc k=X,λj _ _ _ _=>(s.length-j).toNat,⟨rfl,rfl,Ag.refl _,i+1,s.length+1,[],by rw[Ah _ (by omega) (by omega)];omega,by omega,by omega,by simp,JP.nil _ _,hX⟩,?_⟩;rintro _ out _ _ st1 ⟨rfl,rfl,e,k,f,acc,rfl,h1,h2,h3,h4,h5⟩;cases f with
 | zero=>omega
 | succ f=>
 simp only[qF]at h5;have hlen:(s.drop k).length=s.length-k:=by simp
 have hb:∀j,bt (s.drop k) j=(s.getD (k+j) 0).toNat:=GY s k;have e0:Int.toNat (k:Int)=k:=rfl;rw[hb,hb]at h5;rw[hlen]at h5;refine Ab (λg1=>?_) λg1=>?_
 ·have hne:s.drop k≠ []:=by
   intro h0;have:=congrArg List.length h0;rw[hlen]at this;simp at this;omega
  rw[if_neg (by omega)]at h5;refine⟨⟨by omega,by omega⟩,JH hne λR N hD=>⟨⟨by omega,by omega⟩,?_⟩⟩;rw[e0]at hD;rw[hlen]at hD;rw[e0,show(k:Nat)+0=k from rfl]at*;generalize hc0:(s.getD k 0).toNat=c0 at*;refine Ab (λg2=>?_) λg2=>⟨⟨by omega,by omega⟩,Ab (λg3=>?_) λg3=>?_⟩
  ·rw[if_pos (by omega)]at h5
   rw[<-h5]at hk;rw[Ah _ (by omega) (by omega)];refine Ac (show _=some (TV.str acc) by rw[h4.rd.toBytes];rfl) ?_;exact hk st1 e
  ·rw[if_neg (by omega),if_pos (by omega)]at h5
   rw[<-h5]at hk;exact hk st1 e
  ·rw[if_neg (by omega)]at h5
   refine Ab (λg4=>Ab (λg5=>?_) λg5=>?_) λg4=>?_
   ·rw[if_pos (by omega)]at h5
    rw[<-h5]at hk;exact hk st1 e
   all_goals
    obtain⟨d0,_,d2,d3,d4,d5⟩:(ul (s.drop k)≠0/\R=(ur (s.drop k):Nat)/\N=(ul (s.drop k):Nat)/\¬(R=65533/\N=1)/\ul (s.drop k)<=s.length-k/\ul (s.drop k)<=4):=by
     rcases hD with⟨_,x1,x2⟩ | hD
     ·first | exact absurd x2 g5 | exact absurd x1 g4
     ·exact hD
    rw[if_neg (by omega)]at h5;refine⟨⟨by omega,by omega⟩,Ab (λg6=>?_) λg6=>Ab (λg6=>?_) λg7=>Ab (λg8=>?_) λg8=>?_⟩
    iterate 2
     ·rw[if_pos (by omega)]at h5
      rw[Ah ((k:Int)+N) (by omega) (by omega)];refine⟨⟨by omega,by omega,by omega⟩,Ac rfl (Aa (Qz _) ?_)⟩;rw[Io,show Int.toNat ((k:Int)+N)-k=ul (s.drop k) by omega];refine Gh e h4 rfl rfl ?_ λv' st' e' _ ho=>⟨⟨rfl,rfl,e',k+ul (s.drop k),f,_,by omega,by omega,by omega,?_,ho,?_⟩,by dsimp only;omega⟩
      ·rw[List.length_take,hlen];omega
      ·rw[List.length_append,List.length_take,hlen];omega
      ·rw[<-h5,List.drop_drop]
    ·rw[Ah ((k:Int)+1) (by omega) (by omega)]at g8
     rw[if_neg (by omega),if_pos (by omega)]at h5;rw[<-h5]at hk;exact hk st1 e
    ·rw[Ah ((k:Int)+1) (by omega) (by omega)]at g8
     rw[Ah ((k:Int)+1) (by omega) (by omega)];rw[if_neg (by omega),if_neg (by omega)]at h5;refine⟨⟨by omega,by omega⟩,?_⟩;rw[show Int.toNat ((k:Int)+1)=k+1 from rfl];refine Ab (λg9=>?_) λg9=>⟨⟨by omega,by omega⟩,Jz ?_⟩
     ·rw[if_pos (by omega),List.drop_drop]at h5
      rw[Ah ((k:Int)+2) (by omega) (by omega)];refine Aay (i:=k+2) (by omega) hl (by omega) ?_;cases hes:Pr (s.drop (k+2))with
      | error e1=>
       rw[hes]at h5;rw[<-h5]at hk;exact Ab (λ_=>hk st1 e) λh=>absurd hes (by rw[show e1=0 from Decidable.not_not.1 h];exact V7 _)
      | ok p=>
       rw[hes]at h5;simp only at h5;obtain⟨q1,q2,q3,q4⟩:=Ub hes;rw[List.length_drop]at q2;refine Ab (λh=>absurd rfl h) λ_=>R7 rfl q1 e h4 (by omega) λv' st' e' ho=>⟨⟨rfl,rfl,e',k+(2+p.2),f,_,?_,by omega,by omega,?_,ho,?_⟩,?_⟩
       ·show((k+2+p.2:Nat):Int)=_;omega
       ·have:=QZ p.1;rw[List.length_append];omega
       ·rw[<-h5,List.drop_drop]
       ·show((s.length:Int)-((k+2+p.2:Nat):Int)).toNat<((s.length:Int)-(k:Int)).toNat
        omega
     ·rw[if_neg (by omega)]at h5
      rw[Int.toNat_natCast,show((s.getD (k+1) 0).toNat).toUInt8=s.getD (k+1) 0 by simp];rcases sim_idx (s.getD (k+1) 0)with⟨hd,hx⟩ | ⟨d,hd,hx1,hx2,hx3⟩
      ·rw[hd]at h5
       rw[hx];rw[<-h5]at hk;exact Ab (λ_=>hk st1 e) λh=>absurd (by decide) h
      ·rw[hd]at h5
       generalize Lib.indexByte Ku (s.getD (k+1) 0)=X1 at*;refine Ab (λh=>by omega) λ_=>⟨⟨by omega,by show X1<8;omega⟩,?_⟩;rw[hx3,Ah ((k:Int)+2) (by omega) (by omega)];refine Gh (ys:=[d]) e h4 rfl rfl (by simp;omega) λv' st' e' _ ho=>⟨⟨rfl,rfl,e',k+2,f,_,by omega,by omega,by omega,?_,ho,?_⟩,by dsimp only;omega⟩
       ·simp;omega
       ·rw[<-h5,List.drop_drop]
 ·rw[if_pos (by omega)]at h5
  rw[<-h5]at hk;exact hk st1 e
theorem Aaa {c:Nat} {d:UInt8} (h:Tq c=some d):B5 d.toNat/\DJ d.toNat=[d]:=by
 unfold Tq at h
 repeat' split at h
 all_goals first | (cases h;done) | (simp only[Option.some.injEq]at h;subst h;exact⟨by unfold B5;decide,rfl⟩)
theorem Og:∀(ps:List (Option UInt8)) (l:B8) (n:Nat),ps.length<=n->FI ps (l.take n)=FI ps l
 | [],l,n,h=>by simp[FI]
 | _::_,[],n,h=>by simp
 | none::ps,c::cs,0,h=>by simp at h
 | some a::ps,c::cs,0,h=>by simp at h
 | none::ps,c::cs,n+1,h=>by simp only[List.take_succ_cons,FI];rw[Og ps cs n (by simpa using h)]
 | some a::ps,c::cs,n+1,h=>by simp only[List.take_succ_cons,FI];rw[Og ps cs n (by simpa using h)]
theorem pat11:GO 100 [100,100,100,100,45,100,100,45,100,100,32,100,100,58]=GO 48 str59++GO 48 str60:=by decide
theorem Vu (l:B8):FI (GO 100 [100,100,100,100,45,100,100,45,100,100,32,100,100,58]) l=(FI (GO 48 str59) (l.take 10)&&FI (GO 48 str60) (l.drop 10)):=by
 rw[pat11,KH,Og _ _ _ (by decide)];rfl
def WV (l:B8):Nat:=if twl FJ l=10/\FI (GO 100 [100,100,100,100,45,100,100,45,100,100,32,100,100,58]) l=true then 11+twl FJ (l.drop 11)else twl FJ l
theorem wlen_le (l:B8):WV l<=l.length:=by
 unfold WV;split
 ·rename_i h
  have h1:=Ko FJ (l.drop 11);have h2:14<=l.length:=by
   apply Decidable.byContradiction;intro hh;rw[Hn _ _ (by show l.length<14;omega)]at h;exact absurd h.2 (by decide)
  rw[List.length_drop]at h1;omega
 ·exact Ko _ _
theorem words_ok {s:B8} {I:Int} {i:Nat} {st:St} {K:Int->St->Prop} (hI:I=(i:Int)) (hl:s.length<=2000000) (hi:i<=s.length) (hk:∀st',Ag st st'->K ((i+WV (s.drop i):Nat):Int) st'):
  CallT PR Fz [.str s,.int .i64 I] [.one (.int .i64)] st K:=by
 have htl:=Ko FJ (s.drop i);rw[List.length_drop]at htl;refine MT s I st K (MF λv u st1 e c1 c2=>M3 hI hl hi c2 ?_);have hsp:=Vu (s.drop i);rw[List.drop_drop]at hsp;have hw:∀x,(if twl FJ (s.drop i)=10/\FI (GO 100 [100,100,100,100,45,100,100,45,100,100,32,100,100,58]) (s.drop i)=true then 11+twl FJ (s.drop (i+11))else twl FJ (s.drop i))=x->K ((i+x:Nat):Int) st1:=by
  intro x hx;have:=hk st1 e;unfold WV at this;rw[List.drop_drop,hx]at this;exact this
 generalize hN:((i+twl FJ (s.drop i):Nat):Int)=N;refine Ab (λh1=>?_) λh1=>?_
 ·rw[Ah _ (by omega) (by omega)]at h1
  have h10:twl FJ (s.drop i)=10:=by omega
  refine⟨⟨by omega,by omega,by omega⟩,Qv (by decide) ?_⟩;rw[Io,show Int.toNat N-Int.toNat I=10 by omega,show Int.toNat I=i by omega];refine Ao (λh2=>⟨⟨by omega,by omega⟩,Qv (by decide) ?_⟩) λh2=>?_
  ·rw[show Int.toNat N=i+10 by omega]
   refine Ao (λh3=>?_) λh3=>?_
   ·have h14:4<=(s.drop (i+10)).length:=by
     apply Decidable.byContradiction;intro hh;rw[Hn _ _ (by show _<4;omega)]at h3;exact absurd h3 (by decide)
    rw[List.length_drop]at h14;rw[Ah _ (by omega) (by omega)];refine M3 (i:=i+11) (by omega) hl (by omega) c2 ?_;have:=hw _ (if_pos ⟨h10,by rw[hsp,h2,h3];rfl⟩);rw[show i+(11+twl FJ (s.drop (i+11)))=i+11+twl FJ (s.drop (i+11)) by omega]at this;exact this
   ·rw[<-hN]
    refine hw _ (if_neg λh=>absurd h3 ?_);have:=h.2;rw[hsp,Bool.and_eq_true]at this;rw[this.2];decide
  ·rw[<-hN]
   refine hw _ (if_neg λh=>absurd h2 ?_);have:=h.2;rw[hsp,Bool.and_eq_true]at this;rw[this.1];decide
 ·rw[Ah _ (by omega) (by omega)]at h1
  rw[<-hN];exact hw _ (if_neg λh=>h1 (by omega))
theorem crlf (l:B8):l.take Sj.length=Sj↔1<l.length/\bt l 0=13/\bt l 1=10:=by
 have e:∀(a b:UInt8),a=b↔a.toNat=b.toNat:=λa b=>UInt8.toNat_inj.symm;rcases l with _ | ⟨a,_ | ⟨b,l⟩⟩
 ·simp[Sj]
 ·simp[Sj]
 ·simp[Sj,bt,e]
def cF:Nat->B8->Nat->Option Nat
 | 0,_,_=>none
 | f+1,l,k=>if l.length=0 then some k else if bt l 0=10 then some k else if 1<l.length/\bt l 0=13/\bt l 1=10 then some k
  else if ul l=0 then none else cF f (l.drop (ul l)) (k+ul l)
theorem cF_le:∀(f:Nat) (l:B8) (k n:Nat),cF f l k=some n->k<=n/\n<=k+l.length
 | 0,l,k,n,h=>by cases h
 | f+1,l,k,n,h=>by
  simp only[cF]at h
  repeat' split at h
  all_goals first | (cases h;done) | (simp only[Option.some.injEq]at h;omega) | skip
  have h1:=cF_le f _ _ _ h;have h2:=PZ l;rw[List.length_drop]at h1;omega
theorem Ya {s:B8} {I:Int} {i:Nat} {st:St} {K:Int->Int->St->Prop} (hI:I=(i:Int)) (hl:s.length<=2000000) (hi:i<=s.length)
  (h1:∀(k:Nat),cF (s.length+1) (s.drop i) i=some k->K (k:Int) 0 st) (h2:cF (s.length+1) (s.drop i) i=none->K 0 5 st):
  CallT PR EJ [.str s,.int .i64 I] [.one (.int .i64),.one (.int .i64)] st K:=by
 refine Lw s I st K ⟨λj s' st'=>s=s'/\st=st'/\∃k f:Nat,j=(k:Int)/\k<=s.length/\s.length<k+f/\cF f (s.drop k) k=cF (s.length+1) (s.drop i) i,λj _ _=>(s.length-j).toNat,⟨rfl,rfl,i,s.length+1,hI,hi,by omega,rfl⟩,?_⟩;rintro _ _ _ ⟨rfl,rfl,k,f,rfl,h3,h4,h5⟩;cases f with
 | zero=>omega
 | succ f=>
 have hlen:(s.drop k).length=s.length-k:=by simp
 have hb:bt (s.drop k) 0=(s.getD k 0).toNat:=GY s k 0;have e0:Int.toNat (k:Int)=k:=rfl;simp only[cF]at h5;rw[e0];refine Ab (λg1=>⟨⟨by omega,by omega⟩,?_⟩) λg1=>?_
 ·rw[if_neg (by omega)]at h5
  have hne:s.drop k≠ []:=by
   intro h0;have:=congrArg List.length h0;rw[hlen]at this;simp at this;omega
  refine Ab (λg2=>⟨⟨by omega,by omega⟩,Nw (Ao (λg3=>?_) λg3=>?_)⟩) λg2=>?_
  ·have g3:¬(1<(s.drop k).length/\bt (s.drop k) 0=13/\bt (s.drop k) 1=10):=λh=>by
    rw[decide_eq_true ((crlf _).2 h)]at g3;exact absurd g3 (by decide)
   rw[if_neg (by omega),if_neg g3]at h5;refine⟨⟨by omega,by omega⟩,JH hne λR N hD=>?_⟩;refine Ab (λg4=>Ab (λg5=>?_) λg5=>?_) λg4=>?_
   ·rw[if_pos (by omega)]at h5
    exact h2 h5.symm
   all_goals
    obtain⟨d0,d2,d3⟩:(ul (s.drop k)≠0/\N=(ul (s.drop k):Nat)/\ul (s.drop k)<=(s.drop k).length):=by
     rcases hD with⟨_,x1,x2⟩ | hD
     ·first | exact absurd x2 g5 | exact absurd x1 g4
     ·exact⟨hD.1,hD.2.2.1,hD.2.2.2.2.1⟩
    rw[if_neg (by omega),List.drop_drop]at h5;rw[Ah _ (by omega) (by omega)];exact⟨⟨rfl,rfl,k+ul (s.drop k),f,by omega,by omega,by omega,h5⟩,by dsimp only;omega⟩
  ·have g3:1<(s.drop k).length/\bt (s.drop k) 0=13/\bt (s.drop k) 1=10:=by
    refine(crlf _).1 (Decidable.byContradiction λh=>absurd g3 ?_);rw[decide_eq_false h];decide
   rw[if_neg (by omega),if_pos g3]at h5;exact h1 k h5.symm
  ·rw[if_pos (by omega)]at h5
   exact h1 k h5.symm
 ·rw[if_pos (by omega)]at h5
  exact h1 k h5.symm
theorem Xo:∀(f m:Nat) (l acc:B8) (n:Nat),qF f m l acc n≠.error 0
 | 0,m,l,acc,n=>by simp[qF]
 | f+1,m,l,acc,n=>by
  simp only[qF]
  repeat' split
  all_goals first | (simp;done) | exact Xo f _ _ _ _ | skip
  rename_i e he;intro h;simp only[Except.error.injEq]at h;subst h;exact V7 _ he
theorem YT:∀(f m:Nat) (l acc:B8) (n:Nat) (p:B8×Nat),qF f m l acc n= .ok p->n<p.2/\p.2<=n+l.length
 | 0,m,l,acc,n,p,h=>by simp[qF]at h
 | f+1,m,l,acc,n,p,h=>by
  simp only[qF]at h;by_cases g1:l.length=0
  ·rw[if_pos g1]at h;cases h
  rw[if_neg g1]at h;by_cases g2:bt l 0=m
  ·rw[if_pos g2]at h
   simp only[Except.ok.injEq]at h;subst h;exact⟨by simp only;omega,by simp only;omega⟩
  rw[if_neg g2]at h;by_cases g3:ul l=0∨bt l 0<32
  ·rw[if_pos g3]at h;cases h
  rw[if_neg g3]at h;by_cases g4:bt l 0≠92∨m=39
  ·rw[if_pos g4]at h
   have h1:=YT f _ _ _ _ _ h;have h2:=PZ l;rw[List.length_drop]at h1;omega
  rw[if_neg g4]at h;by_cases g5:l.length<=1
  ·rw[if_pos g5]at h;cases h
  rw[if_neg g5]at h;by_cases g6:bt l 1=117
  ·rw[if_pos g6]at h
   cases hes:Pr (l.drop 2)with
   | error e=>rw[hes]at h;cases h
   | ok q=>
    rw[hes]at h;have h1:=YT f _ _ _ _ _ h;have h2:=(Ub (r:=q.1) (k:=q.2) hes).2.1;rw[List.length_drop]at h1 h2;omega
  rw[if_neg g6]at h;cases hd:Tq (bt l 1)with
  | none=>rw[hd]at h;cases h
  | some c=>
   rw[hd]at h;have h1:=YT f _ _ _ _ _ h;rw[List.length_drop]at h1;omega
def punctB (c:Nat):Bool:=decide (c=91∨c=93∨c=123∨c=125∨c=44∨c=61)
theorem Aai:∀n,n<256->decide (0<=Lib.indexByte str51 (UInt8.ofNat n))=punctB n:=by decide+kernel
theorem Aah (c:UInt8):0<=Lib.indexByte str51 c↔punctB c.toNat=true:=by
 have h:=Aai c.toNat c.toNat_lt;rw[UInt8.ofNat_toNat]at h;rw[<-h,decide_eq_true_eq]
theorem LW {l:B8} {C:Int} {c:UInt8} {st:St} {K:Int->St->Prop} (hC:C=(c.toNat:Int)) (hk:K (Lib.indexByte l c) st):CallT PR BK [.str l,.int .u8 C] [.one (.int .i64)] st K:=by
 refine Jz ?_;rw[hC,Int.toNat_natCast,show(c.toNat).toUInt8=c by simp];exact hk
theorem Y8 {s:B8} {I:Int} {i:Nat} {st:St} {K:Int->Int->St->Prop} (hI:I=(i:Int)) (hl:s.length<=2000000) (hi:i<s.length)
  (h1:(s.getD i 0).toNat=10->K ((i+1:Nat):Int) 0 st) (h2:(s.getD i 0).toNat≠10->s.length=i+1->K 0 4 st) (h3:(s.getD i 0).toNat≠10->s.length≠i+1->(s.getD (i+1) 0).toNat=10->K ((i+2:Nat):Int) 0 st)
  (h4:(s.getD i 0).toNat≠10->s.length≠i+1->(s.getD (i+1) 0).toNat≠10->K 0 3 st):CallT PR Ew [.str s,.int .i64 I] [.one (.int .i64),.one (.int .i64)] st K:=by
 refine NR s I st K ⟨⟨by omega,by omega⟩,?_⟩;rw[Ah (I+1) (by omega) (by omega),Ah (I+2) (by omega) (by omega),show Int.toNat I=i by omega,show Int.toNat (I+1)=i+1 by omega];rw[show((i+1:Nat):Int)=I+1 by omega]at h1;rw[show((i+2:Nat):Int)=I+2 by omega]at h3;refine Ab (λg1=>h1 (by omega)) λg1=>Ab (λg2=>h2 (by omega) (by omega)) λg2=>⟨⟨by omega,by omega⟩,Ab (λg3=>h3 (by omega) (by omega) (by omega)) λg3=>h4 (by omega) (by omega) (by omega)⟩
def tokC (c c1:Nat) (s:B8) (i:Nat):Except Int (Int×Nat):=
 if c=32∨c=9 then .ok (1,i+twl N8 (s.drop i))
 else if c=10 then .ok (2,i+1)
 else if c=13 then(if s.length=i+1 then .error 4 else if c1=10 then .ok (2,i+2)else .error 3)
 else if c=35 then(match cF (s.length+1) (s.drop i) i with | none=> .error 5 | some k=> .ok (3,k))
 else if c=91∨c=93∨c=123∨c=125∨c=44∨c=61 then .ok (4,i+1)
 else if c=34∨c=39 then(match qF (s.length+1) c (s.drop (i+1)) [] (i+1)with | .error e=> .error e | .ok p=> .ok (5,p.2))
 else if FJ (c:Int)=true then .ok (6,i+WV (s.drop i))else .error 3
def Pm (s:B8) (i:Nat):Except Int (Int×Nat):=tokC (bt (s.drop i) 0) (bt (s.drop i) 1) s i
theorem tend_ok {s:B8} {I:Int} {i:Nat} {st:St} {K:Int->Int->Int->St->Prop} (hI:I=(i:Int)) (hl:s.length<=2000000) (hi:i<s.length)
  (h1:∀p st',Ag st st'->Pm s i= .ok p->K p.1 (p.2:Nat) 0 st') (h2:∀e kd k st',Ag st st'->Pm s i= .error e->K kd k e st'):
  CallT PR GB [.str s,.int .i64 I] [.one (.int .i64),.one (.int .i64),.one (.int .i64)] st K:=by
 refine O8 s I st K (MF λv u st1 e c1 c2=>⟨⟨by omega,by omega⟩,?_⟩);rw[show Int.toNat I=i by omega];unfold Pm at h1 h2;have hb:bt (s.drop i) 0=(s.getD i 0).toNat:=GY s i 0;have hb1:bt (s.drop i) 1=(s.getD (i+1) 0).toNat:=GY s i 1;have hpi:=Aah (s.getD i 0);rw[hb]at h1 h2;rw[hb1]at h1 h2;generalize hc:(s.getD i 0).toNat=c at*;unfold tokC at h1 h2;refine Ab (λg1=>?_) λg1=>Ab (λg2=>?_) λg2=>Ab (λg3=>?_) λg3=>Ab (λg4=>?_) λg4=>Ab (λg5=>?_) λg5=>LW (c:=s.getD i 0) (by rw[hc]) (Ab (λg6=>?_) λg6=>Ab (λg7=>?_) λg7=>Ab (λg8=>?_) λg8=>?_)
 ·refine M3 hI hl (by omega) (Wn st1) ?_
  rw[if_pos (by omega)]at h1;exact h1 _ _ e rfl
 ·refine M3 hI hl (by omega) (Wn st1) ?_
  rw[if_pos (by omega)]at h1;exact h1 _ _ e rfl
 ·refine Y8 hI hl hi (λq=>?_) (λq=>?_) (λq=>?_) λq=>?_
  ·rw[if_neg (by omega),if_pos (by omega)]at h1;exact h1 _ _ e rfl
  all_goals omega
 ·refine Y8 hI hl hi (λq=>?_) (λq q2=>?_) (λq q2 q3=>?_) λq q2 q3=>?_
  ·omega
  ·rw[if_neg (by omega),if_neg (by omega),if_pos (by omega),if_pos q2]at h2;exact h2 _ _ _ _ e rfl
  ·rw[if_neg (by omega),if_neg (by omega),if_pos (by omega),if_neg q2,if_pos q3]at h1;exact h1 _ _ e rfl
  ·rw[if_neg (by omega),if_neg (by omega),if_pos (by omega),if_neg q2,if_neg q3]at h2;exact h2 _ _ _ _ e rfl
 ·rw[if_neg (by omega),if_neg (by omega),if_neg (by omega),if_pos (by omega)]at h1 h2
  refine Ya hI hl (by omega) (λk hk=>?_) λhk=>?_
  ·rw[hk]at h1;exact h1 _ _ e rfl
  ·rw[hk]at h2;exact h2 _ _ _ _ e rfl
 ·have g6:=of_decide_eq_true (hpi.1 g6)
  rw[if_neg (by omega),if_neg (by omega),if_neg (by omega),if_neg (by omega),if_pos (by omega)]at h1;rw[Ah _ (by omega) (by omega),show I+1=((i+1:Nat):Int) by omega];exact h1 _ _ e rfl
 ·have g6:=of_decide_eq_false (Bool.eq_false_iff.2 λh=>g6 (hpi.2 h))
  rw[if_neg (by omega),if_neg (by omega),if_neg (by omega),if_neg (by omega),if_neg (by omega),if_pos (by omega)]at h1 h2;refine Oe hI hl hi λst2 e2=>?_;rw[hb];cases hq:qF (s.length+1) c (s.drop (i+1)) [] (i+1)with
  | error er=>rw[hq]at h2;exact h2 _ _ _ _ (e.trans e2) rfl
  | ok p=>rw[hq]at h1;exact h1 _ _ (e.trans e2) rfl
 ·have g6:=of_decide_eq_false (Bool.eq_false_iff.2 λh=>g6 (hpi.2 h))
  rw[if_neg (by omega),if_neg (by omega),if_neg (by omega),if_neg (by omega),if_neg (by omega),if_pos (by omega)]at h1 h2;refine Oe hI hl hi λst2 e2=>?_;rw[hb];cases hq:qF (s.length+1) c (s.drop (i+1)) [] (i+1)with
  | error er=>rw[hq]at h2;exact h2 _ _ _ _ (e.trans e2) rfl
  | ok p=>rw[hq]at h1;exact h1 _ _ (e.trans e2) rfl
 ·have g6:=of_decide_eq_false (Bool.eq_false_iff.2 λh=>g6 (hpi.2 h))
  rw[if_neg (by omega),if_neg (by omega),if_neg (by omega),if_neg (by omega),if_neg (by omega),if_neg (by omega)]at h1 h2;refine c2 _ (Ag.refl _) _ _ (Ao (λg9=>?_) λg9=>?_)
  ·rw[if_pos g9]at h1
   refine words_ok hI hl (by omega) λst2 e2=>h1 _ _ (e.trans e2) rfl
  ·rw[if_neg (by rw[g9];decide)]at h2
   exact h2 _ _ _ _ e rfl
theorem Qa (s:B8) (i:Nat):Pm s i≠.error 0:=by
 unfold Pm tokC
 repeat' split
 all_goals first | (simp;done) | skip
 rename_i e he;intro h;simp only[Except.error.injEq]at h;subst h;exact Xo _ _ _ _ _ he
theorem Tg {s:B8} {i:Nat} {p:Int×Nat} (hi:i<s.length) (h:Pm s i= .ok p):i<p.2/\p.2<=s.length/\1<=p.1/\p.1<=6:=by
 have hb:bt (s.drop i) 0=(s.getD i 0).toNat:=GY s i 0;have hb1:bt (s.drop i) 1=(s.getD (i+1) 0).toNat:=GY s i 1;have hlen:(s.drop i).length=s.length-i:=by simp
 have hlen1:(s.drop (i+1)).length=s.length-(i+1):=by simp
 have hne:s.drop i≠ []:=by
  intro h0;have:=congrArg List.length h0;rw[hlen]at this;simp at this;omega
 unfold Pm at h;rw[hb]at h;rw[hb1]at h;have hsp:=IQ N8 s i hi;have hwd:=IQ FJ s i hi;have hcf:(s.getD i 0).toNat=35->∀k,cF (s.length+1) (s.drop i) i=some k->i<k/\k<=s.length:=λhc k hk=>by
  have hu:=(US _ hne (by omega)).1;simp only[cF]at hk;rw[if_neg (by omega),if_neg (by omega),if_neg (by omega),if_neg (by omega)]at hk;have h1:=cF_le _ _ _ _ hk;rw[List.length_drop,hu]at h1;omega
 generalize (s.getD i 0).toNat=c at*;unfold tokC at h;by_cases g1:c=32∨c=9
 ·rw[if_pos g1]at h
  simp only[Except.ok.injEq]at h;subst h;have h1:=Ko N8 (s.drop i);rw[if_pos (by unfold N8;exact decide_eq_true (by omega))]at hsp;exact⟨by simp only;omega,by simp only;omega,by simp only;decide,by simp only;decide⟩
 rw[if_neg g1]at h;by_cases g2:c=10
 ·rw[if_pos g2]at h
  simp only[Except.ok.injEq]at h;subst h;exact⟨by simp only;omega,by simp only;omega,by simp only;decide,by simp only;decide⟩
 rw[if_neg g2]at h;by_cases g3:c=13
 ·rw[if_pos g3]at h
  split at h
  ·cases h
  ·split at h
   ·simp only[Except.ok.injEq]at h
    subst h;exact⟨by simp only;omega,by simp only;omega,by simp only;decide,by simp only;decide⟩
   ·cases h
 rw[if_neg g3]at h;by_cases g4:c=35
 ·rw[if_pos g4]at h
  cases hk:cF (s.length+1) (s.drop i) i with
  | none=>rw[hk]at h;cases h
  | some k=>
   rw[hk]at h;simp only[Except.ok.injEq]at h;subst h;have:=hcf g4 k hk;exact⟨by simp only;omega,by simp only;omega,by simp only;decide,by simp only;decide⟩
 rw[if_neg g4]at h;by_cases g5:c=91∨c=93∨c=123∨c=125∨c=44∨c=61
 ·rw[if_pos g5]at h
  simp only[Except.ok.injEq]at h;subst h;exact⟨by simp only;omega,by simp only;omega,by simp only;decide,by simp only;decide⟩
 rw[if_neg g5]at h;by_cases g6:c=34∨c=39
 ·rw[if_pos g6]at h
  cases hq:qF (s.length+1) c (s.drop (i+1)) [] (i+1)with
  | error e=>rw[hq]at h;cases h
  | ok q=>
   rw[hq]at h;simp only[Except.ok.injEq]at h;subst h;have:=YT _ _ _ _ _ _ hq;rw[hlen1]at this;exact⟨by simp only;omega,by simp only;omega,by simp only;decide,by simp only;decide⟩
 rw[if_neg g6]at h;by_cases g7:FJ (c:Int)=true
 ·rw[if_pos g7]at h
  simp only[Except.ok.injEq]at h;subst h;rw[if_pos g7]at hwd;have h1:=wlen_le (s.drop i);have h2:0<WV (s.drop i):=by
   unfold WV;split<;>omega
  exact⟨by simp only;omega,by simp only;omega,by simp only;decide,by simp only;decide⟩
 ·rw[if_neg g7]at h;cases h
def nxt (s:B8) (at':Int):Except Int (Int×B8×Int):=
 if at'<0∨(s.length:Int)<at' then .error 1 else if at'=(s.length:Int)then .error 7
 else match Pm s at'.toNat with | .error e=> .error e | .ok p=> .ok (p.1,(s.drop at'.toNat).take (p.2-at'.toNat),at')
def nK:Except Int (Int×B8×Int)->Int | .ok p=>p.1 | .error _=>0
def nT:Except Int (Int×B8×Int)->B8 | .ok p=>p.2.1 | .error _=>[]
def nA:Except Int (Int×B8×Int)->Int | .ok p=>p.2.2 | .error _=>0
theorem YY {s:B8} {I:Int} {st:St} {K:Int->B8->Int->Int->St->Prop} (hl:s.length<=2000000)
  (hk:∀st',Ag st st'->K (nK (nxt s I)) (nT (nxt s I)) (nA (nxt s I)) (eE (nxt s I)) st'):
  CallT PR Ex [.str s,.int .i64 I] [.agg [.int .i64,.str,.int .i64],.one (.int .i64)] st K:=by
 unfold nxt at hk;refine NT s I st K (Ab (λg1=>?_) λg1=>Ab (λg2=>?_) λg2=>Ab (λg3=>?_) λg3=>?_)
 ·rw[if_pos (by omega)]at hk;exact hk _ (Ag.refl _)
 ·rw[if_pos (by omega)]at hk;exact hk _ (Ag.refl _)
 ·rw[if_neg (by omega),if_pos g3]at hk;exact hk _ (Ag.refl _)
 ·rw[if_neg (by omega),if_neg g3]at hk
  refine tend_ok (i:=I.toNat) (by omega) hl (by omega) (λp st' e hp=>Ab (λh=>absurd rfl h) λ_=>?_) λer kd k st' e hp=>Ab (λ_=>?_) λh=>absurd hp (by rw[show er=0 from Decidable.not_not.1 h];exact Qa _ _)
  ·rw[hp]at hk
   have:=Tg (by omega) hp;refine⟨⟨by omega,by omega,by omega⟩,?_⟩;rw[Io,Int.toNat_natCast];exact hk _ e
  ·rw[hp]at hk;exact hk _ e
def unq (s:B8):Except Int B8:=
 if s=[]then .error 4 else if bt s 0≠34/\bt s 0≠39 then .error 3
 else match qF (s.length+1) (bt s 0) (s.drop 1) [] 1 with
  | .error e=> .error e
  | .ok p=>if p.2=s.length then .ok p.1 else .error 3
def uL:Except Int B8->B8 | .ok l=>l | .error _=>[]
theorem Tf {s:B8} {st:St} {K:B8->Int->St->Prop} (hl:s.length<=2000000) (hk:∀st',Ag st st'->K (uL (unq s)) (eE (unq s)) st'):
  CallT PR Cg [.str s] [.one (.str),.one (.int .i64)] st K:=by
 unfold unq at hk;have hb:bt s 0=(s.getD 0 0).toNat:=rfl;refine Ly s st K (Ab (λg1=>?_) λg1=>?_)
 ·rw[if_pos g1]at hk;exact hk _ (Ag.refl _)
 rw[if_neg g1]at hk;have hlen:0<s.length:=List.length_pos_iff.2 g1;rw[show Int.toNat (0:Int)=0 from rfl];refine⟨⟨by omega,by omega⟩,Ab (λg2=>⟨⟨by omega,by omega⟩,Ab (λg3=>?_) λg3=>?_⟩) λg2=>?_⟩
 ·rw[if_pos (by omega)]at hk;exact hk _ (Ag.refl _)
 all_goals
  rw[if_neg (by omega)]at hk;refine Oe (i:=0) rfl hl hlen λst' e=>?_;rw[show qF (s.length+1) (bt (s.drop 0) 0) (s.drop (0+1)) [] (0+1)=qF (s.length+1) (bt s 0) (s.drop 1) [] 1 from rfl];cases hq:qF (s.length+1) (bt s 0) (s.drop 1) [] 1 with
  | error er=>
   rw[hq]at hk;exact Ab (λ_=>hk _ e) λh=>absurd hq (by rw[show er=0 from Decidable.not_not.1 h];exact Xo _ _ _ _ _)
  | ok p=>
   rw[hq]at hk;simp only at hk;refine Ab (λh=>absurd rfl h) λ_=>Ab (λg4=>?_) λg4=>?_
   ·rw[if_neg (λh=>g4 (by show(p.2:Int)=_;omega))]at hk;exact hk _ e
   ·rw[if_pos (by have:(p.2:Int)=(s.length:Int):=Decidable.not_not.1 g4
                  omega)]at hk;exact hk _ e
theorem ZO {s:B8} {st:St} {K:Bool->St->Prop} (hl:s.length<=2000000) (hk:∀st',Ag st st'->K (decide (s≠ [])&&decide (twl Cm s=s.length)) st'):
  CallT PR Ey [.str s] [.one (.bool)] st K:=by
 refine NU s st K (MF λv u st1 e c1 c2=>Ab (λg1=>M3 (i:=0) rfl hl (by omega) c1 ?_) λg1=>?_)
 ·have:=hk st1 e
  rw[decide_eq_true g1,Bool.true_and]at this;refine GM (decide_eq_decide.2 ?_) this;show((0+twl Cm s:Nat):Int)=_↔_;omega
 ·have:=hk st1 e
  rw[decide_eq_false g1,Bool.false_and]at this;exact this
theorem bad_ok {s:B8} {st:St} {K:Int->St->Prop} (hl:s.length<=2000000) (hk:K (if Ct s=s.length then-1 else((Ct s:Nat):Int)) st):CallT PR GC [.str s] [.one (.int .i64)] st K:=by
 have hv:=UL s;refine O9 s st K ⟨λi s' st'=>s=s'/\st=st'/\∃k:Nat,i=(k:Int)/\k<=s.length/\k+Ct (s.drop k)=Ct s,λi _ _=>(s.length-i).toNat,⟨rfl,rfl,0,rfl,by omega,by simp⟩,?_⟩;rintro _ _ _ ⟨rfl,rfl,k,rfl,h1,h2⟩;refine Ab (λg1=>?_) λg1=>?_
 ·have hlen:(s.drop k).length=s.length-k:=by simp
  have hne:s.drop k≠ []:=by
   intro h0;have:=congrArg List.length h0;rw[hlen]at this;simp at this;omega
  refine⟨⟨by omega,by omega⟩,?_⟩;rw[show Int.toNat (k:Int)=k from rfl];refine JH hne λR N hD=>?_;rcases hD with⟨h0,rfl,rfl⟩ | ⟨h0,_,hN,hn,hle,h4⟩
  ·rw[Cv _ h0]at h2
   rw[if_neg (by omega)]at hk;refine Ab (λ_=>Ab (λ_=>?_) λh=>absurd rfl h) λh=>absurd rfl h;rw[show k=Ct s by omega];exact hk
  ·rw[Fe _ h0,List.drop_drop]at h2
   rw[hlen]at hle;have w:i64.wrap ((k:Int)+N)=((k+ul (s.drop k):Nat):Int):=by rw[Ah _ (by omega) (by omega)];omega
   rw[w];refine Ab (λq1=>Ab (λq2=>absurd ⟨q1,q2⟩ hn) λ_=>⟨⟨rfl,rfl,_,rfl,by omega,by omega⟩,by dsimp only;omega⟩) λ_=>⟨⟨rfl,rfl,_,rfl,by omega,by omega⟩,by dsimp only;omega⟩
 ·rw[show s.drop k=[]from List.drop_of_length_le (by omega),MS]at h2
  rw[if_pos (by omega)]at hk;exact hk
theorem Aan {s:B8} {k:Nat} (hk:k<s.length):(∃e,nxt s k= .error e/\Pm s k= .error e/\e≠0)∨
  ∃kd n,nxt s k= .ok (kd,(s.drop k).take n,(k:Int))/\0<n/\k+n<=s.length/\1<=kd/\kd<=6/\Pm s k= .ok (kd,k+n):=by
 unfold nxt;rw[if_neg (by omega),if_neg (by omega),show Int.toNat (k:Int)=k from rfl];cases h:Pm s k with
 | error e=>exact .inl ⟨e,rfl,rfl,λh0=>Qa s k (by rw[h,h0])⟩
 | ok p=>
  have:=Tg hk h;exact .inr ⟨p.1,p.2-k,rfl,by omega,by omega,this.2.2.1,this.2.2.2,by rw[show k+(p.2-k)=p.2 by omega]⟩
def hexC (n:Nat):UInt8:=Kv.getD n 0
def R0 (n:Nat):B8:=if n=34 then [92,34]else if n=92 then [92,92]else if n=8 then [92,98]else if n=12 then [92,102]else if n=10 then [92,110]else if n=13 then [92,114]else if n=9 then [92,116]
 else if n<32 then [92,117,48,48,hexC (n/16),hexC (n%16)]else [UInt8.ofNat n]
def Uc (s:B8):B8:=s.flatMap λc=>R0 c.toNat
def quo (s:B8):B8:=34::(Uc s++[34])
def escT (n:Nat):Bool:=if 0<=Lib.indexByte LQ (UInt8.ofNat n)then decide (Lib.indexByte LQ (UInt8.ofNat n)<7)&&decide (R0 n=[92,UV.getD (Lib.indexByte LQ (UInt8.ofNat n)).toNat 0])
 else if n<32 then decide (R0 n=[92,117,48,48,Kv.getD (n/16) 0,Kv.getD (n%16) 0])else decide (R0 n=[UInt8.ofNat n])
theorem escT_all:∀n,n<256->escT n=true:=by decide+kernel
theorem esc_idx (c:UInt8):(0<=Lib.indexByte LQ c/\Lib.indexByte LQ c<7/\R0 c.toNat=[92,UV.getD (Lib.indexByte LQ c).toNat 0])∨
  (¬0<=Lib.indexByte LQ c/\c.toNat<32/\R0 c.toNat=[92,117,48,48,Kv.getD (c.toNat/16) 0,Kv.getD (c.toNat%16) 0])∨(¬0<=Lib.indexByte LQ c/\¬c.toNat<32/\R0 c.toNat=[c]):=by
 have h:=escT_all c.toNat c.toNat_lt;unfold escT at h;rw[UInt8.ofNat_toNat]at h;split at h
 ·rename_i h0
  simp only[Bool.and_eq_true,decide_eq_true_eq]at h;exact .inl ⟨h0,h.1,h.2⟩
 ·rename_i h0
  split at h
  ·rename_i h1
   exact .inr (.inl ⟨h0,h1,by simpa using h⟩)
  ·rename_i h1
   exact .inr (.inr ⟨h0,h1,by simpa using h⟩)
theorem escN_len (n:Nat):(R0 n).length<=6:=by
 unfold R0
 repeat' split
 all_goals simp
theorem QY:∀s:B8,(Uc s).length<=6*s.length
 | []=>by simp[Uc]
 | c::r=>by
  have h1:=escN_len c.toNat;have h2:=QY r;simp only[Uc,List.flatMap_cons,List.length_append,List.length_cons]at h2⊢;omega
theorem Aaz (s:B8) (k:Nat) (h:k<s.length):Uc (s.take (k+1))=Uc (s.take k)++R0 (s.getD k 0).toNat:=by
 rw[G7 s k 0 h];simp[Uc]
theorem shr_u8 (x:Nat):Int.fdiv ((x:Nat):Int) (2^(min (Int.toNat (4:Int)) (IntKind.bits .u8)))=((x/16:Nat):Int):=by
 rw[show(2:Int)^(min (Int.toNat (4:Int)) (IntKind.bits .u8))=((16:Nat):Int) by decide,Int.fdiv_eq_ediv_of_nonneg _ (Int.natCast_nonneg _)];rfl
theorem and15n (x:Nat) (h:x<256):AI .and .u8 (x:Int) (15:Int)=((x%16:Nat):Int):=by
 rw[show(15:Int)=((15:Nat):Int)from rfl,Uw _ _ (by omega) (by omega),show(15:Nat)=2^4-1 from rfl,Nat.and_two_pow_sub_one_eq_mod]
theorem Z0 {s:B8} {st:St} {K:B8->Int->St->Prop} (hl:s.length<=2000000) (hk:∀st',Ag st st'->K (if Ct s=s.length then quo s else []) (if Ct s=s.length then 0 else 5) st'):
  CallT PR FB [.str s] [.one (.str),.one (.int .i64)] st K:=by
 refine MV s st K (bad_ok hl ?_);by_cases hb:Ct s=s.length
 ·rw[if_pos hb]
  rw[if_pos hb,if_pos hb]at hk;refine Ab (λh=>absurd h (by decide)) λ_=>?_;refine⟨λv i s' st'=>s=s'/\Ag st st'/\∃k:Nat,i=(k:Int)/\k<=s.length/\JP st.nt st' v (34::Uc (s.take k)),λ_ i _ _=>(s.length-i).toNat,⟨rfl,Ag.refl _,0,rfl,by omega,Own.full _ _ _ _ _⟩,?_⟩;rintro v _ _ st1 ⟨rfl,e,k,rfl,h1,h4⟩;have hle:=QY (s.take k);rw[List.length_take]at hle;have hl4:(34::Uc (s.take k)).length<=12000001:=by simp only[List.length_cons];omega
  rw[show Int.toNat (k:Int)=k from rfl];refine Ab (λg1=>⟨⟨by omega,by omega⟩,LW (c:=s.getD k 0) rfl ?_⟩) λg1=>?_
  ·have w:i64.wrap ((k:Int)+1)=((k+1:Nat):Int):=by rw[Ah _ (by omega) (by omega)];omega
   rw[w,shr_u8,and15n _ (s.getD k 0).toNat_lt];have hsn:=Aaz s k (by omega);have hc:=(s.getD k 0).toNat_lt;have hcase:=esc_idx (s.getD k 0);generalize Lib.indexByte LQ (s.getD k 0)=X at hcase;rcases hcase with⟨q1,q2,q3⟩ | ⟨q1,q2,q3⟩ | ⟨q1,q2,q3⟩
   ·rw[q3]at hsn
    refine Ab (λ_=>⟨⟨q1,q2⟩,Gh (ys:=[92,UV.getD X.toNat 0]) e h4 rfl rfl (by simp only[List.length_cons]at hl4⊢;simp;omega) λv' st' e' _ ho=>⟨⟨rfl,e',k+1,rfl,by omega,?_⟩,by dsimp only;omega⟩⟩) λh=>absurd q1 h;rw[hsn];exact ho
   ·rw[q3]at hsn
    refine Ab (λh=>absurd h q1) λ_=>Ab (λ_=>⟨⟨by omega,by show _<((16:Nat):Int);omega⟩,⟨by omega,by show _<((16:Nat):Int);omega⟩,?_⟩) λh=>by omega
    rw[Int.toNat_natCast,Int.toNat_natCast];refine Gh (ys:=[92,117,48,48,Kv.getD ((s.getD k 0).toNat/16) 0,Kv.getD ((s.getD k 0).toNat%16) 0]) e h4 rfl rfl (by simp only[List.length_cons]at hl4⊢;simp;omega) λv' st' e' _ ho=>⟨⟨rfl,e',k+1,rfl,by omega,?_⟩,by dsimp only;omega⟩;rw[hsn];exact ho
   ·rw[q3]at hsn
    refine Ab (λh=>absurd h q1) λ_=>Ab (λh=>by omega) λ_=>?_;refine Gh (ys:=[s.getD k 0]) e h4 rfl rfl (by simp only[List.length_cons]at hl4⊢;simp;omega) λv' st' e' _ ho=>⟨⟨rfl,e',k+1,rfl,by omega,?_⟩,by dsimp only;omega⟩;rw[hsn];exact ho
  ·refine Gh (ys:=[34]) e h4 rfl rfl (by simp only[List.length_cons]at hl4⊢;simp;omega) λv' st' e' _ ho=>?_
   rw[List.take_of_length_le (show s.length<=k by omega)]at ho;exact Ac (show _=some (TV.str (quo s)) by rw[ho.rd.toBytes];rfl) (hk st' e')
 ·rw[if_neg hb]
  rw[if_neg hb,if_neg hb]at hk;exact Ab (λ_=>hk st (Ag.refl _)) λh=>by omega
def isX (r:B8):Prop:=r≠ []/\(Br r).length=r.length
def isE (r:B8):Prop:=r=[]∨((r.getD 0 0=101∨r.getD 0 0=69)/\(if (r.drop 1).getD 0 0=45∨(r.drop 1).getD 0 0=43 then isX (r.drop 2)else isX (r.drop 1)))
def isF (r:B8):Prop:=if r.getD 0 0=46 then Br (r.drop 1)≠ []/\isE (r.drop (1+(Br (r.drop 1)).length))else isE r
def isQ (t:B8):Prop:=Br t≠ []/\¬(1<(Br t).length/\t.getD 0 0=48)/\isF (t.drop (Br t).length)
instance (r:B8):Decidable (isX r):=inferInstanceAs (Decidable (_/\_))
instance (r:B8):Decidable (isE r):=by unfold isE;infer_instance
instance (r:B8):Decidable (isF r):=by unfold isF;infer_instance
instance (r:B8):Decidable (isQ r):=by unfold isQ;infer_instance
def scK (k:Nat):Sc:=⟨(k:Nat),false,false,[],0,0,0,0,0,[],[]⟩
theorem Own.extX {S:Nat->Prop} {b sz:Nat} {st st':St} {v:TV} {n:Nat} {xs:List TV} (h:Own b sz st v n xs) (e:StX S st st'):Own b sz st' v n xs:=by
 rcases h with h | ⟨tip,h,ht | ⟨id,h1,h2,h3,h4⟩⟩
 ·exact .inl h
 ·exact .inr ⟨tip,h,.inl ht⟩
 ·exact .inr ⟨tip,h,.inr ⟨id,h1,h2,Nat.lt_of_lt_of_le h3 e.nt,(e.live id h3).trans h4⟩⟩
def b64A:B8:=[65,66,67,68,69,70,71,72,73,74,75,76,77,78,79,80,81,82,83,84,85,86,87,88,89,90,97,98,99,100,101,102,103,104,105,106,107,108,109,110,111,112,113,114,115,116,117,118,119,120,121,122,48,49,50,51,52,53,54,55,56,57,43,47]
def fnd:B8->UInt8->Int
 | [],_=> -1
 | a::al,c=>if a=c then 0 else if fnd al c<0 then-1 else fnd al c+1
theorem szl' (s:Sc):(Vl.mk s [] []).sz=1+s.bytes.length+s.text.length+s.dg.length:=by rw[szs];rfl
abbrev K14':=Int->Bool->Bool->B8->Int->Int->Int->Int->Int->B8->TV->TV->TV->Int->St->Prop
def tkT (s:B8):Sc:=⟨4,false,false,[],0,0,0,0,0,s,[]⟩
def tkB (b:Bool):Sc:=⟨1,b,false,[],0,0,0,0,0,[],[]⟩
def tkN (neg:Bool) (dg:B8) (ex:Int):Sc:=⟨2,false,neg,dg,ex,0,0,0,0,[],[]⟩
def tkM (k d n z:Int):Sc:=⟨3,false,false,[],0,k,d,n,z,[],[]⟩
def scS (s:B8):Sc×Int:=
 if s.getD 0 0=34∨s.getD 0 0=39 then
  (if eE (unq s)≠0 then(scK 0,eE (unq s))else if 65536<(uL (unq s)).length then(scK 0,10)else(tkT (uL (unq s)),0))
 else if s=M5 then(tkB true,0)else if s=UU then(tkB false,0)
 else if (dcP s).2.2.2=0 then(tkN (dcP s).1 (dcP s).2.1 (dcP s).2.2.1,0)
 else if (dcP s).2.2.2≠3 then(scK 0,(dcP s).2.2.2)
 else if (tmP s).2.2.2.2≠0 then(scK 0,(tmP s).2.2.2.2)
 else(tkM (tmP s).1 (tmP s).2.1 (tmP s).2.2.1 (tmP s).2.2.2.1,0)
def KS (K:K14') (x:Sc×Int) (st:St):Prop:=K x.1.kind x.1.b x.1.neg x.1.dg x.1.ex x.1.tk x.1.td x.1.tn x.1.tz x.1.text .nilSlice .nilSlice .nilSlice x.2 st
theorem Sq (s:B8):(scS s).1.bytes=[]:=by
 unfold scS
 repeat' split
 all_goals rfl
theorem Xa {s:B8} (hl:s.length<=1000000) {st:St} {K:K14'} (hk:∀st',Ag st st'->KS K (scS s) st'):
  CallT PR DA [.str s] [.agg [.int .i64,.bool,.bool,.str,.int .i64,.int .i64,.int .i64,.int .i64,.int .i64,.str,.tv,.tv,.tv],.one (.int .i64)] st K:=by
 refine Md s st K (Ab (λg=>⟨⟨by omega,by have:=List.length_pos_iff.2 g;omega⟩,Ab (λg1=>?q1) λg1=>⟨⟨by omega,by have:=List.length_pos_iff.2 g;omega⟩,Ab (λg2=>?q2) λg2=>?r1⟩⟩) λg=>?r2)
 case q1 | q2=>
  have hq:s.getD 0 0=34∨s.getD 0 0=39:=by first | exact .inl ((u8i (k:=34)).1 g1) | exact .inr ((u8i (k:=39)).1 g2)
  unfold scS at hk;rw[if_pos hq]at hk;refine Tf (by omega) λst1 e1=>?_;replace hk:=hk st1 e1;generalize unq s=u at*;refine Ab (λh1=>Ab (λh2=>Ab (λ_=>?_) λh=>absurd (by omega) h) λh2=>Ab (λh=>absurd h1 h) λ_=>?_) λh1=>Ab (λ_=>?_) λh=>absurd h1 h
  ·rw[if_neg (by omega),if_pos (by omega)]at hk;exact hk
  ·rw[if_neg (by omega),if_neg (by omega)]at hk;exact hk
  ·rw[if_pos h1]at hk;exact hk
 case r1 | r2=>
  have hq:¬(s.getD 0 0=34∨s.getD 0 0=39):=by
   first
    | exactλh=>h.elim (λh=>g1 ((u8i (k:=34)).2 h)) λh=>g2 ((u8i (k:=39)).2 h)
    | (have:s=[]:=Decidable.not_not.1 g;rw[this];decide)
  unfold scS at hk;rw[if_neg hq]at hk;refine Ab (λh1=>?_) λh1=>Ab (λh2=>?_) λh2=>dP_ok hl ?_
  ·rw[decide_eq_true h1]
   have:=hk st (Ag.refl _);rw[if_pos h1]at this;exact this
  ·rw[decide_eq_false h1]
   have:=hk st (Ag.refl _);rw[if_neg h1,if_pos h2]at this;exact this
  rw[if_neg h1,if_neg h2]at hk;unfold KD;generalize dcP s=d at*;refine Ab (λh3=>?_) λh3=>Ab (λh4=>?_) λh4=>tP_ok hl λst4 e4=>?_
  ·have:=hk st (Ag.refl _)
   rw[if_pos h3]at this;exact this
  ·have:=hk st (Ag.refl _)
   rw[if_neg h3,if_pos h4]at this;exact this
  ·replace hk:=hk st4 e4
   rw[if_neg h3,if_neg h4]at hk;unfold KT;generalize tmP s=t at*;refine Ab (λh5=>?_) λh5=>?_
   ·rw[if_pos h5]at hk;exact hk
   ·rw[if_neg h5]at hk;exact hk
theorem FdR.val {st:St} {d:Fd} {cs:List TV} (h:FdR st d cs):∃c,cs= .str d.key::c/\VlR st d.val c:=by
 cases d;unfold FdR at h;exact h
theorem AaM {a b:B8} {u v:TV} {st:St} {K:Bool->St->Prop} (ha:SlR st 1 u a.length (AV a)) (hb:SlR st 1 v b.length (AV b)) (hl:a.length<=2000000) (hm:b.length<=2000000) (hk:∀r,(r=true↔a=b)->K r st):
  CallT PR CB [u,v] [.one .bool] st K:=by
 have no:a≠b->K false st:=λhne=>hk false ⟨λh=>(by cases h),λh=>absurd h hne⟩;refine Gx _ _ st K (Aa ha.isSl (Aa hb.isSl ?_));rw[ha.lenS,hb.lenS];refine Ab (λe=>no λh=>e (by rw[h])) λe=>Aa ha.isSl ⟨λi u1 v1 n st'=>u=u1/\v=v1/\n=(a.length:Int)/\st=st'/\∃k:Nat,i=k/\k<=a.length/\a.take k=b.take k,λi _ _ _ _=>(a.length-i).toNat,
  ⟨rfl,rfl,rfl,rfl,0,rfl,Nat.zero_le _,rfl⟩,?_⟩
 have el:a.length=b.length:=by omega
 rintro _ _ _ _ _ ⟨rfl,rfl,rfl,rfl,k,rfl,hka,hE⟩;refine Ab (λg=>?_) λg=>?_
 ·unfold zIz zLu Ad;rw[ha.lenZ,hb.lenZ,Int.toNat_natCast]
  refine⟨⟨by omega,by omega⟩,Ac (ha.ldb (by omega)) (Am ⟨⟨by omega,by omega⟩,Ac (hb.ldb (by omega)) (Am (Ab (λg3=>no λh=>?_) λg3=>?_))⟩)⟩
  ·subst h;exact g3 rfl
  ·rw[Ah _ (by omega) (by omega)]
   refine⟨⟨rfl,rfl,rfl,rfl,k+1,by omega,by omega,?_⟩,by dsimp only;omega⟩;refine Jm hE (List.getElem?_eq_getElem (by omega)) (List.getElem?_eq_getElem (by omega)) ?_;have:=Decidable.not_not.1 g3;exact UInt8.toNat.inj (by omega)
 ·have hkk:k=a.length:=by omega
  rw[hkk,List.take_length,el,List.take_length]at hE;exact hk true ⟨λ_=>hE,λ_=>rfl⟩
theorem AaA {γ:Type} {g:Vl->γ} {st0 st:St} {u v one:TV} {l m:List Vl} {xl xm:List TV} (hke:CH st0 st) (hu:SlR st0 13 u l.length xl) (hl:VsR st0 l xl) (hv:SlR st0 13 v m.length xm) (hm:VsR st0 m xm)
  (hll:l.length<=2000000) (hlm:m.length<=2000000) (hone:∀(a b:Vl) (ca cb:List TV) (st1:St) (K1:Bool->St->Prop),a∈l->b∈m->VlR st0 a ca->VlR st0 b cb->Ag st st1->(∀r st2,Ag st1 st2->(r=true↔g a=g b)->K1 r st2)->Ja NoE PR one [.agg ca,.agg cb] [.one .bool] st1 K1)
  {K:Bool->St->Prop} (hk:∀r st',Ag st st'->(r=true↔l.map g=m.map g)->K r st'):CallT PR As [u,v,one] [.one .bool] st K:=by
 have no:∀st',Ag st st'->l.map g≠m.map g->K false st':=λst' e hne=>hk false st' e ⟨λh=>(by cases h),λh=>absurd h hne⟩;refine B0 _ _ _ st K (Aa hu.isSl (Aa hv.isSl ?_));rw[hu.lenS,hv.lenS];refine Ab (λe=>no st (Ag.refl _) λh=>e (by have:=congrArg List.length h;simp only[List.length_map]at this;rw[this])) λe=>Aa hu.isSl ⟨λi v1 o1 u1 n st'=>v=v1/\one=o1/\u=u1/\n=(l.length:Int)/\∃k:Nat,i=k/\k<=l.length/\Ag st st'/\(l.map g).take k=(m.map g).take k,λi _ _ _ _ _=>(l.length-i).toNat,
  ⟨rfl,rfl,rfl,rfl,0,rfl,Nat.zero_le _,Ag.refl _,rfl⟩,?_⟩
 have el:l.length=m.length:=by omega
 rintro _ _ _ _ _ st1 ⟨rfl,rfl,rfl,rfl,k,rfl,hkl,e1,hE⟩;have hke1:=hke.trans e1.keeps;refine Ab (λq=>?_) λq=>?_
 ·refine Wa hke1 hu hl rfl (by omega) λs1 l1 f1 ub1 ul1 uf1 gw hw on=>Aa on (Wa hke1 hv hm rfl (by omega) λs2 l2 f2 ub2 ul2 uf2 gw2 hw2 on2=>Aa on2 ?_)
  refine hone _ _ _ _ st1 _ (FT gw) (FT gw2) hw hw2 e1 λr st2 e2 hr=>Ao (λhb=>no st2 (e1.trans e2) λh=>?_) λhb=>?_
  ·have h1:=congrArg (λz=>z[k]?) h
   simp only[List.getElem?_map,gw,gw2,Option.map_some,Option.some.injEq]at h1;rw[hr.2 h1]at hb;cases hb
  ·rw[Ah _ (by omega) (by omega)]
   refine⟨⟨rfl,rfl,rfl,rfl,k+1,by omega,by omega,e1.trans e2,?_⟩,by dsimp only;omega⟩;exact Jm hE (by rw[List.getElem?_map,gw];rfl) (by rw[List.getElem?_map,gw2];rfl) (hr.1 (by simpa using hb))
 ·refine hk true st1 e1 ⟨λ_=>?_,λ_=>rfl⟩
  have:k=l.length:=by omega
  rw[List.take_of_length_le (by simp;omega),List.take_of_length_le (by simp;omega)]at hE;exact hE
theorem AaB {γ:Type} {g:Fd->γ} {st0 st:St} {u v one:TV} {l m:List Fd} {xl xm:List TV} (hke:CH st0 st) (hu:SlR st0 14 u l.length xl) (hl:FsR st0 l xl) (hv:SlR st0 14 v m.length xm) (hm:FsR st0 m xm)
  (hll:l.length<=2000000) (hlm:m.length<=2000000) (hone:∀(a b:Fd) (ca cb:List TV) (st1:St) (K1:Bool->St->Prop),a∈l->b∈m->FdR st0 a ca->FdR st0 b cb->Ag st st1->(∀r st2,Ag st1 st2->(r=true↔g a=g b)->K1 r st2)->Ja NoE PR one [.agg ca,.agg cb] [.one .bool] st1 K1)
  {K:Bool->St->Prop} (hk:∀r st',Ag st st'->(r=true↔l.map g=m.map g)->K r st'):CallT PR At [u,v,one] [.one .bool] st K:=by
 have no:∀st',Ag st st'->l.map g≠m.map g->K false st':=λst' e hne=>hk false st' e ⟨λh=>(by cases h),λh=>absurd h hne⟩;refine B1 _ _ _ st K (Aa hu.isSl (Aa hv.isSl ?_));rw[hu.lenS,hv.lenS];refine Ab (λe=>no st (Ag.refl _) λh=>e (by have:=congrArg List.length h;simp only[List.length_map]at this;rw[this])) λe=>Aa hu.isSl ⟨λi v1 o1 u1 n st'=>v=v1/\one=o1/\u=u1/\n=(l.length:Int)/\∃k:Nat,i=k/\k<=l.length/\Ag st st'/\(l.map g).take k=(m.map g).take k,λi _ _ _ _ _=>(l.length-i).toNat,
  ⟨rfl,rfl,rfl,rfl,0,rfl,Nat.zero_le _,Ag.refl _,rfl⟩,?_⟩
 have el:l.length=m.length:=by omega
 rintro _ _ _ _ _ st1 ⟨rfl,rfl,rfl,rfl,k,rfl,hkl,e1,hE⟩;have hke1:=hke.trans e1.keeps;refine Ab (λq=>?_) λq=>?_
 ·refine el14 hke1 hu hl rfl (by omega) λk1 s1 l1 f1 ub1 ul1 uf1 gw hw on=>Aa on (el14 hke1 hv hm rfl (by omega) λk2 s2 l2 f2 ub2 ul2 uf2 gw2 hw2 on2=>Aa on2 ?_)
  refine hone _ _ _ _ st1 _ (FT gw) (FT gw2) (by unfold FdR;exact⟨_,rfl,hw⟩) (by unfold FdR;exact⟨_,rfl,hw2⟩) e1 λr st2 e2 hr=>Ao (λhb=>no st2 (e1.trans e2) λh=>?_) λhb=>?_
  ·have h1:=congrArg (λz=>z[k]?) h
   simp only[List.getElem?_map,gw,gw2,Option.map_some,Option.some.injEq]at h1;rw[hr.2 h1]at hb;cases hb
  ·rw[Ah _ (by omega) (by omega)]
   refine⟨⟨rfl,rfl,rfl,rfl,k+1,by omega,by omega,e1.trans e2,?_⟩,by dsimp only;omega⟩;exact Jm hE (by rw[List.getElem?_map,gw];rfl) (by rw[List.getElem?_map,gw2];rfl) (hr.1 (by simpa using hb))
 ·refine hk true st1 e1 ⟨λ_=>?_,λ_=>rfl⟩
  have:k=l.length:=by omega
  rw[List.take_of_length_le (by simp;omega),List.take_of_length_le (by simp;omega)]at hE;exact hE
theorem stB_new {st:St} {o:JQ} {T:Option Nat} {x y:TV} {k:St->Prop} (ho:o= .cells [x]) (hk:∀st',Ag st st'->st'.box st.nb= .cells [y]->st.nb<st'.nb->k st'):stB (st.push o T) (.box st.nb 0) [y] k:=by
 subst ho;refine⟨[x],by simp[St.push],by simp,?_⟩;refine hk _ (((Ag.refl st).push _ _).put (Nat.le_refl _) _) (by simp[St.put,setAll]) (by simp[St.put,St.push])
theorem SX {T b sz bytes:Nat} {st0 st:St} {v:TV} {n k:Nat} {xs ys:List TV} {K:TV->St->Prop} (e:Ag st0 st) (hb:b=st0.nt) (h:Own b sz st v n xs) (hby:(n+k)*bytes<=140737488355328) (hys:k=0->ys=[])
  (hK:∀v' st',Ag st0 st'->CH st st'->Own b sz st' v' (n+k) (xs++ys)->K v' st'):Bn T sz bytes v k ys st K:=by
 subst hb;have kk:∀st':St,st'.nb=st.nb->st'.box=st.box->CH st st':=λst' a b=>⟨Nat.le_of_eq a.symm,λi _=>by rw[b]⟩;rcases h with⟨rfl,rfl,rfl⟩ | ⟨tip,rfl,ht⟩
 ·simp only[Bn]
  cases k with
  | zero=>rw[hys rfl]at hK;exact hK _ _ e (kk _ rfl rfl) (.nil _ _ _)
  | succ m=>
   simp only[Al];refine⟨by simpa using hby,hK _ _ (e.fresh _) (kk _ rfl rfl) ?_⟩;simp only[List.nil_append,Nat.zero_add];exact Own.fresh _ _ e.nt
 ·simp only[Bn,Nat.beq_refl]
  refine⟨hby,?_⟩;rcases ht with rfl | ⟨id,rfl,h1,h2,h3⟩
  ·cases k with
   | zero=>rw[hys rfl]at hK;simp only[List.append_nil]at hK;exact hK _ _ e (kk _ rfl rfl) (Own.full _ _ _ _ _)
   | succ m=>exact hK _ _ (e.fresh _) (kk _ rfl rfl) (Own.fresh _ _ e.nt)
  ·exact⟨h3,hK _ _ ((e.retire h1).fresh _) (kk _ rfl rfl) (Own.fresh (st:=st.retire id) _ _ e.nt)⟩
theorem FsR.snoc {st:St} {d:Fd} {cd:List TV} {l:List Fd} {xs:List TV} (h:FsR st l xs) (hd:FdR st d cd):FsR st (l++[d]) (xs++cd):=by
 obtain⟨cks,rfl,hall⟩:=h.chunks;have:=FsR.of_chunks (hall.snoc hd);simpa using this
theorem Sb:Ct []=0:=Cv _ (by simp[ul])
theorem Ur (l:B8) (m j:Nat):bt (l.take m) j=if j<m then bt l j else 0:=by
 unfold bt;by_cases h:j<m
 all_goals simp_all[List.getElem?_take,if_neg]
theorem Ss (l:B8) (m r0:Nat):∀j,j<m->Ed (l.take m) r0 j=Ed l r0 j
 :=by intro a0;induction a0<;>grind [Ed,Ur]
theorem ul_take {l:B8} {m:Nat} (h:ul l≠0) (hm:ul l<=m):ul (l.take m)=ul l/\ur (l.take m)=ur l:=by
 have hne:l≠ []:=λh0=>h (by simp[ul,h0]);have hne2:l.take m≠ []:=by
  grind [List.length_nil]
 have e1:=Jt l hne;have e2:=Jt (l.take m) hne2;grind [Xn,Ss,Ur]
theorem W0 {l:B8} {m:Nat} (h:ul (l.take m)≠0):ul l=ul (l.take m):=by
 have hne2:l.take m≠ []:=λh0=>h (by simp[ul,h0]);have hne:l≠ []:=by grind
 have e1:=Jt l hne;have e2:=Jt (l.take m) hne2;grind [Ur,Xn,Ss]
theorem vlen_app:∀(n:Nat) (a b:B8),a.length<=n->Ct a=a.length->Ct (a++b)=a.length+Ct b:=by
 intro n;induction n with
 | zero=>grind
 | succ n ih=>
  intro a b h hv;by_cases ha:a=[]
  ·simp_all
  have h0:ul a≠0:=λh0=>by grind [Cv]
  have hu:ul (a++b)=ul a:=by
   grind [W0,List.take_left]
  grind [Fe]
theorem UM {a b:B8} (ha:Ct a=a.length) (hb:Ct b=b.length):Ct (a++b)=(a++b).length:=by
 rw[vlen_app _ a b (Nat.le_refl _) ha,List.length_append,hb]
theorem ZW {c:UInt8} {l:B8} (hc:c.toNat<128) (hl:Ct l=l.length):Ct (c::l)=(c::l).length:=by
 have h:=US (c::l) (by simp) hc;grind [Fe]
theorem WX:∀l:B8,(l.all λc=>decide (c.toNat<128))=true->Ct l=l.length
 :=by intro a0;induction a0<;>grind [Sb,ZW]
theorem YD (p:Int->Bool):∀l:B8,twl p l=l.length->∀c,c∈l->p (c.toNat:Int)=true
 | [],_,c,hc=>by cases hc
 | d::r,h,c,hc=>by
  simp only[twl]at h;split at h
  ·rename_i hd
   rcases List.mem_cons.1 hc with rfl | hc
   ·exact hd
   ·exact YD p r (by simpa using h) c hc
  ·simp at h
theorem E8 (st:St):CH St.zero st:=⟨Nat.zero_le _,λi hi=>absurd hi (Nat.not_lt_zero _)⟩
section
mutual
def lvV:Vl->Nat
 | .mk _ l f=>1+max (De l) (Ds f)
def De:List Vl->Nat
 | []=>0
 | v::r=>max (lvV v) (De r)
def lvD:Fd->Nat
 | .mk _ v=>lvV v
def Ds:List Fd->Nat
 | []=>0
 | d::r=>max (lvD d) (Ds r)
end
end
theorem kb {s:Sc} {k:Nat} (h:s.kind=(k:Nat)) (hk:k<=7):s.kind.toNat.toUInt8.toNat=k:=by
 rw[h,Int.toNat_natCast,natB_lt _ (by omega)]
section
mutual
theorem Ul:∀(v:Vl) (d n:Nat),(D7 d n v).2=0->lvV v<=49-d
 | .mk s l f,d,n,h=>by
  unfold D7 at h;split at h
  ·cases h
  split at h
  ·cases h
  split at h
  ·rename_i h1;exact absurd h h1
  ·obtain⟨h1,h2⟩:=Cy h
   have:=Wt l (d+1) (n+1) h1;have:=Wy f (d+1) _ h2;unfold lvV;omega
theorem Wt:∀(l:List Vl) (d n:Nat),(DL d n l).2=0->De l<=49-d
 | [],d,n,h=>by unfold De;omega
 | v::r,d,n,h=>by
  unfold DL at h;obtain⟨h1,h2⟩:=Cy h;have:=Ul v d n h1;have:=Wt r d _ h2;unfold De;omega
theorem chkD_lv:∀(x:Fd) (d n:Nat),(NK d n x).2=0->lvD x<=49-d
 | .mk k v,d,n,h=>by unfold NK at h;unfold lvD;exact Ul v d n h
theorem Wy:∀(f:List Fd) (d n:Nat),(Dp d n f).2=0->Ds f<=49-d
 | [],d,n,h=>by unfold Ds;omega
 | x::r,d,n,h=>by
  unfold Dp at h;obtain⟨h1,h2⟩:=Cy h;have:=chkD_lv x d n h1;have:=Wy r d _ h2;unfold Ds;omega
end
end
def fin (k eq w:Nat) (pad:Bool) (o:B8):B8×Int:=
 if k%4=0/\eq=0 then(o,0)
 else if 0<eq/\(k%4<2∨4-k%4<eq∨w≠0)then([],3)
 else if k%4=1∨w≠0∨(pad=true/\eq<4-k%4)then([],4)
 else(o,0)
def isD (c:UInt8):Bool:=decide (0<=fnd b64A c)
def BD (s:B8):Nat:=(s.takeWhile isD).length
def nch (c:UInt8):Prop:=Cz c∨c=45∨c=43∨c=46∨c=101
instance (c:UInt8):Decidable (nch c):=inferInstanceAs (Decidable (_∨_))
def tkF (t s:B8) (a:Nat) (b:Bool):Prop:=b=false/\(s.drop a).take t.length=t
instance (t s:B8) (a:Nat) (b:Bool):Decidable (tkF t s a b):=inferInstanceAs (Decidable (_/\_))
theorem lvV_pos (v:Vl):1<=lvV v:=by cases v;unfold lvV;omega
end Go.TVF
section
namespace Go.TVF
open Go.IntKind(i64 u8)
open Go Go.Proofs Go.ChangeShapes
section
variable {H:Type} {enc:TypeId×Value->H} {P:Program} {w:World} {base:Nat} {held:Bool}
def Op (enc:TypeId×Value->H) (P:Program) (w:World) (base:Nat) (held:Bool) (n c:Nat) (S:List TV->Prop) (e:TypeId):Prop:=
 P.cellsOf e=c/\∀vs x,DataW.trod enc P w base (λ_=>true) held n e vs=some x->∃tv,AP (Ak.start w) w tv vs/\tv.length=c/\S tv
end
end Go.TVF
end
section
namespace Go.TVF
open Go.IntKind(i64 u8)
open Go Go.Proofs Go.ChangeShapes
structure Blk {H:Type} (bk:DataW H->Nat):Prop where
 one:∀d,1<=bk d
 str:∀b,b.length+1<=bk (.lit (.string b))
 sl:∀e s,(e.map bk).sum+1<=bk (.slice e s)
 agg:∀p,(p.map bk).sum+1<=bk (.agg p)
section
variable {H:Type} {enc:TypeId×Value->H} {P:Program} {w:World} {base:Nat} {held:Bool} {bk:DataW H->Nat}
end
end Go.TVF
end
namespace Go.TVF
open Go.IntKind(i64 u8)
open Go Go.Proofs
def scZ:Sc:=⟨0,false,false,[],0,0,0,0,0,[],[]⟩
def vText (s:B8):Vl:= .mk {scZ with kind:=4,text:=s} [] []
theorem VsR.cons {st:St} {v:Vl} {l:List Vl} {a b:List TV} (h:VlR st v a) (k:VsR st l b):VsR st (v::l) (a++b):=by
 unfold VsR;exact⟨a,b,rfl,h,k⟩
theorem VsR.nil (st:St):VsR st [] []:=by unfold VsR;rfl
theorem Mh:U8 []:=by unfold U8;rw[Cv _ (by simp[ul])];rfl
theorem WZ {s:B8} (h:U8 s) (hl:s.length<=65536):AY (vText s):=by
 unfold vText AY;exact⟨⟨⟨by simp,by simp,by simp[scZ],by simp[scZ],by simp[scZ],by simp,by simp[scZ],by simp,by simp⟩,by constructor<;>simp[scZ],by simp,h,hl,by simp[scZ],rfl⟩,by unfold BW;trivial,by unfold Cc;trivial⟩
section
inductive Nd where
 | mk (kind:Int) (BD text:B8) (kids:List Nd) (tail:B8)
mutual
def NdC:Nd->List TV->Prop
 | .mk k l t ks tl,cs=>∃v xs,cs=[.int .i64 k,.str l,.str t,v,.str tl]/\Rd 5 v ks.length xs/\Bi ks xs
def Bi:List Nd->List TV->Prop
 | [],xs=>xs=[]
 | n::r,xs=>∃a b,xs=a++b/\NdC n a/\Bi r b
end
theorem NdC.len {n:Nd} {cs:List TV} (h:NdC n cs):cs.length=5:=by
 cases n;unfold NdC at h;obtain⟨v,xs,rfl,_⟩:=h;rfl
theorem Bi.len:∀{ks:List Nd} {xs:List TV},Bi ks xs->xs.length=5*ks.length
 | [],xs,h=>by unfold Bi at h;subst h;rfl
 | n::r,xs,h=>by
  unfold Bi at h;obtain⟨a,b,rfl,ha,hb⟩:=h;rw[List.length_append,ha.len,hb.len,List.length_cons];omega
theorem Bi.append:∀{ks js:List Nd} {xs ys:List TV},Bi ks xs->Bi js ys->Bi (ks++js) (xs++ys)
 | [],js,xs,ys,h,g=>by unfold Bi at h;subst h;exact g
 | n::r,js,xs,ys,h,g=>by
  unfold Bi at h;obtain⟨a,b,rfl,ha,hb⟩:=h;rw[List.cons_append];unfold Bi;exact⟨a,b++ys,by rw[List.append_assoc],ha,hb.append g⟩
theorem Bi.one {n:Nd} {cs:List TV} (h:NdC n cs):Bi [n] cs:=by
 unfold Bi;exact⟨cs,[],by simp,h,by unfold Bi;rfl⟩
theorem Bi.nil:Bi [] []:=by unfold Bi;rfl
theorem one5 {k:Int} {l t tl:B8} {u:TV} (h:Av u=true):List.all [.int .i64 k,.str l,.str t,u,.str tl] Av=true:=by
 simp only[List.all_cons,h];rfl
mutual
def QB:Nd->Nat
 | .mk _ _ _ ks _=>1+MA ks
def MA:List Nd->Nat
 | []=>0
 | n::r=>QB n+MA r
end
mutual
def nlen:Nd->Nat
 | .mk _ l t ks tl=>l.length+t.length+tl.length+klen ks
def klen:List Nd->Nat
 | []=>0
 | n::r=>nlen n+klen r
end
def leafB (k:Int):Bool:=decide (k=2∨k=6∨k=10∨k=11)
mutual
def chk:Nd->Int->Int->Except Int Int
 | .mk k l t ks tl,d,s=>if 192<d then .error 9 else if 524288<=s then .error 10 else if k<1∨11<k then .error 6
  else if leafB k=true/\(ks.length≠0∨tl≠ [])then .error 1 else chkL ks (d+1) (s+1)
def chkL:List Nd->Int->Int->Except Int Int
 | [],d,s=> .ok s
 | n::r,d,s=>match chk n d s with | .error e=> .error e | .ok s'=>chkL r d s'
end
end
def lOk (a b c d e:Int):Bool:=decide (1<=a/\a<=48/\1<=b/\b<=65536/\1<=c/\c<=1048576/\0<=d/\d<=1024/\0<=e/\e<=65536)
theorem Xw {a b c d e:Int} {st:St} {K:Bool->St->Prop} (hk:K (lOk a b c d e) st):CallT PR Hx [.agg [.int .i64 a,.int .i64 b,.int .i64 c,.int .i64 d,.int .i64 e]] [.one (.bool)] st K:=by
 unfold lOk at hk;refine PS a b c d e st K ?_
 repeat' first
  | exact GM (decide_eq_false (by omega)).symm hk
  | exact GM (decide_eq_decide.2 (by omega)) hk
  | refine Ab (λ_=>?_) λ_=>?_
end Go.TVF
section
namespace Go.TVF
open Go.IntKind(i64 u8)
open Go Go.Proofs Go.RowKit
theorem Aau {st:St} {K:Int->Int->Int->Int->Int->St->Prop} (hk:K 48 65536 1048576 1024 65536 st):CallT PR Hy [] [.agg [.int .i64,.int .i64,.int .i64,.int .i64,.int .i64]] st K:=PT st K hk
theorem Vo {st:St} {K:Int->Int->Int->Int->Int->St->Prop} (hk:K 48 65536 1048576 1024 65536 st):CallT PR DV [] [.agg [.int .i64,.int .i64,.int .i64,.int .i64,.int .i64]] st K:=J7 st K hk
theorem Vn {st:St} {K:Int->Int->Int->Int->Int->St->Prop} (hk:K 48 65536 1048576 1024 65536 st):CallT PR DU [] [.agg [.int .i64,.int .i64,.int .i64,.int .i64,.int .i64]] st K:=J6 st K (Vo hk)
end Go.TVF
end
namespace Go.TVF
open Go.IntKind(i64 u8)
open Go Go.Proofs
section
theorem UK (l m:List Vl):E5 (l++m)=E5 l+E5 m:=by
 induction l with
 | nil=>simp[E5]
 | cons v r ih=>simp only[List.cons_append,E5,ih];omega
theorem V1 (l m:List Fd):Ev (l++m)=Ev l+Ev m:=by
 induction l with
 | nil=>simp[Ev]
 | cons v r ih=>simp only[List.cons_append,Ev,ih];omega
theorem Ll (l m:List Fd):AX (l++m)=AX l+AX m:=by
 induction l with
 | nil=>simp[AX]
 | cons v r ih=>simp only[List.cons_append,AX,ih];omega
mutual
theorem Uk:∀(v:Vl) (d n:Nat),AY v->d+lvV v<=49->n+v.cnt<=65536->D7 d n v=(n+v.cnt,0)
 | .mk s l f,d,n,h,h1,h2=>by
  unfold AY at h;obtain⟨g1,g2,g3⟩:=h;unfold lvV at h1;unfold Vl.cnt at h2⊢;have e1:=Wr l (d+1) (n+1) g2 (by omega) (by omega);have e2:=Wx f (d+1) (n+1+AH l) g3 (by omega) (by omega);rw[ZJ (by omega) (by omega) (Sw.2 g1),e1,DE rfl];show Dp (d+1) (n+1+AH l) f=_;rw[e2];congr 1;omega
theorem Wr:∀(l:List Vl) (d n:Nat),BW l->(l≠ []->d+De l<=49)->n+AH l<=65536->DL d n l=(n+AH l,0)
 | [],d,n,_,_,_=>by unfold DL AH;rfl
 | v::r,d,n,h,h1,h2=>by
  unfold BW at h;have h1:=h1 (by simp);unfold De at h1;unfold AH at h2⊢;have e1:=Uk v d n h.1 (by omega) (by omega);have e2:=Wr r d (n+v.cnt) h.2 (λ_=>by omega) (by omega);rw[Ra,e1,DE rfl];show DL d (n+v.cnt) r=_;rw[e2];congr 1;omega
theorem chkD_of:∀(x:Fd) (d n:Nat),HF x->d+lvD x<=49->n+x.cnt<=65536->NK d n x=(n+x.cnt,0)
 | .mk k v,d,n,h,h1,h2=>by
  unfold HF at h;unfold lvD at h1;unfold Fd.cnt at h2⊢;unfold NK;exact Uk v d n h h1 h2
theorem Wx:∀(l:List Fd) (d n:Nat),Cc l->(l≠ []->d+Ds l<=49)->n+AX l<=65536->Dp d n l=(n+AX l,0)
 | [],d,n,_,_,_=>by unfold Dp AX;rfl
 | x::r,d,n,h,h1,h2=>by
  unfold Cc at h;have h1:=h1 (by simp);unfold Ds at h1;unfold AX at h2⊢;have e1:=chkD_of x d n h.1 (by omega) (by omega);have e2:=Wx r d (n+x.cnt) h.2 (λ_=>by omega) (by omega);unfold Dp;rw[e1,DE rfl];show Dp d (n+x.cnt) r=_;rw[e2];congr 1;omega
end
theorem check_of {v:Vl} (h:AY v) (hl:lvV v<=48) (hc:v.cnt<=65536):BV v=0:=by
 unfold BV;rw[Uk v 1 0 h (by omega) (by omega)]
theorem QP:∀(f:List Fd) (seen:List B8),IG f->(∀d,d∈f->d.key∉seen/\U8 d.key/\d.key.length<=1024)->ER seen f=0
 | [],seen,_,_=>rfl
 | d::r,seen,hn,h=>by
  obtain⟨h1,h2,h3⟩:=h d (.head _);unfold ER;unfold IG at hn;rw[List.map_cons,List.nodup_cons]at hn;rw[if_pos h2,if_neg (by omega),if_neg h1];refine QP r _ hn.2 λx hx=>?_;obtain⟨g1,g2,g3⟩:=h x (.tail _ hx);refine⟨λhm=>?_,g2,g3⟩;rcases List.mem_cons.1 hm with he | hm
  ·exact hn.1 (he▸List.mem_map.2 ⟨x,hx,rfl⟩)
  ·exact g1 hm
end
section
open Go.RowKit (Below)
def St.upto (st' st:St):St:={st' with nb:=st.nb,box:=st.box}
def Ak.upto (g:Ak) (w:World) (n:Nat):Ak:=
 {g with nb:=n,S:=λa=>g.S a∨∃b,n<=b/\b<g.nb/\a.block=g.bk b/\a.spot=none/\∃v,w.cell? a=some v}
theorem PY {st st':St} (e:Ag st st'):Ag st (st'.upto st):=⟨Nat.le_refl _,λ_ _=>rfl,e.nt,e.live,e.ty,e.bt⟩
theorem Rel.lower {g g1:Ak} {w w1:World} {x:TV} {u0:Value} (h:Rel g w x u0):∀{u:Value},Rel g1 w1 x u->Rel (g1.upto w1 g.nb) w1 x u:=by
 induction h with
 | undef=>intro u h;cases h;exact .undef
 | junk v=>intro u h;exact .junk u
 | int k n=>intro u h;cases h;exact .int k n
 | bool b=>intro u h;cases h;exact .bool b
 | str l=>intro u h;cases h;exact .str l
 | nilPtr=>intro u h;cases h;exact .nilPtr
 | nilSlice=>intro u h;cases h;exact .nilSlice
 | nilMap=>intro u h;cases h;exact .nilMap
 | nilFunc=>intro u h;cases h;exact .nilFunc
 | nilIface=>intro u h;cases h;exact .nilIface
 | list sz tip n xs b o cap us hl hn hc hr ht ih=>
  intro u h;cases h with
  | list _ _ _ _ b1 o1 cap1 us1 hl1 hn1 hc1 hr1 ht1=>
   exact .list sz tip n xs b1 o1 cap1 us1 hl1 hn1 (λi hi=>⟨.inl (hc1 i hi).1,(hc1 i hi).2⟩) (λi hi=>ih i hi (hr1 i hi)) ht1
  | listE _ _ a ht1=>exact .listE sz tip a ht1
 | listE sz tip a ht=>
  intro u h;cases h with
  | list _ _ _ _ b1 o1 cap1 us1 hl1 hn1 hc1 hr1 ht1=>
   exact .list sz tip 0 [] b1 o1 cap1 us1 hl1 hn1 (λi hi=>absurd hi (Nat.not_lt_zero _)) (λi hi=>absurd hi (Nat.not_lt_zero _)) ht1
  | listE _ _ a ht1=>exact .listE sz tip a ht1
 | ms sz b off n cap h hn=>
  intro u h1;cases h1;exact .ms (g:=g1.upto w1 g.nb) sz b off n cap h hn
 | box b off h=>
  intro u h1;cases h1;exact .box (g:=g1.upto w1 g.nb) b off h
 | rptr xs b o us hc hr ih=>
  intro u h;cases h with
  | rptr _ b1 o1 us1 hc1 hr1=>exact .rptr xs b1 o1 us1 (λi hi=>⟨.inl (hc1 i hi).1,(hc1 i hi).2⟩) λi hi=>ih i hi (hr1 i hi)
 | agg xs vs hl hr ih=>
  intro u h;cases h with
  | agg _ vs1 hl1 hr1=>exact .agg xs vs1 hl1 λi hi=>ih i hi (hr1 i hi)
 | tuple xs vs hl hr ih=>
  intro u h;cases h with
  | tuple _ vs1 hl1 hr1=>exact .tuple xs vs1 hl1 λi hi=>ih i hi (hr1 i hi)
 | func f xs vs hl hr ih=>
  intro u h;cases h with
  | func _ _ vs1 hl1 hr1=>exact .func f xs vs1 hl1 λi hi=>ih i hi (hr1 i hi)
 | iface t v u0 h ih=>
  intro u h1;cases h1 with
  | iface _ _ u1 h2=>exact .iface t v u1 (ih h2)
 | map b h=>
  intro u h1;cases h1;exact .map (g:=g1.upto w1 g.nb) b h
 | sptr v a n cap hc h ih=>
  intro u h1;cases h1 with
  | sptr _ a1 n1 cap1 hc1 h2=>exact .sptr v a1 n1 cap1 hc1 (ih h2)
theorem AP.lower {g g1:Ak} {w w1:World} {xs:List TV} {us0 us:List Value} (h0:AP g w xs us0) (h:AP g1 w1 xs us):AP (g1.upto w1 g.nb) w1 xs us:=
 ⟨h.1,λi hi=>(h0.2 i hi).lower (h.2 i hi)⟩
theorem G4.lower {g g1:Ak} {w w1:World} {b b1:Nat} {o:JQ} (h0:G4 g w b o) (h:G4 g1 w1 b1 o):G4 (g1.upto w1 g.nb) w1 b1 o:=by
 cases o with
 | dead=>trivial
 | cells l=>
  obtain⟨cs0,_,hr0⟩:=h0;obtain⟨cs,hc,hr⟩:=h;exact⟨cs,hc,hr0.lower hr⟩
 | iter s pos=>exact h
 | map es=>
  obtain⟨ms0,c0,_,_,hm0⟩:=h0;obtain⟨ms,c,hc,hl,hm⟩:=h;refine⟨ms,c,hc,hl,λi k v hi=>?_⟩;obtain⟨e0,_,_,h3⟩:=hm0 i k v hi;obtain⟨e,g1,g2,g3⟩:=hm i k v hi;exact⟨e,g1,g2,h3.lower g3⟩
 | pmap es=>
  obtain⟨ms0,c0,_,_,hm0⟩:=h0;obtain⟨ms,c,hc,hl,hm⟩:=h;refine⟨ms,c,hc,hl,λi k v hi=>?_⟩;obtain⟨hk0,e0,_,_,h3⟩:=hm0 i k v hi;obtain⟨hk,e,g1,g2,g3⟩:=hm i k v hi;exact⟨hk0,e,g1,g2,h3.lower g3⟩
theorem Sim.upto {g g':Ak} {st st':St} {w w':World} (s:Sim g st [] w) (s':Sim g' st' [] w') (e:Ext g w g' w') (x:Ag st st'):Sim (g'.upto w' st.nb) (st'.upto st) [] w'/\Ext g w (g'.upto w' st.nb) w':=by
 have hnb:st.nb<=g'.nb:=by rw[s'.nb];exact x.nb
 have dom:∀k,Dom (st'.upto st) [] k->Dom st' [] k:=λk hk=>by
  cases k with
  | box b=>exact Nat.lt_of_lt_of_le (show b<st.nb from hk) x.nb
  | loc i=>exact hk
 have domO:∀k,Dom (st'.upto st) [] k->Dom st [] k:=λk hk=>by
  cases k with
  | box b=>exact hk
  | loc i=>exact hk
 refine⟨⟨rfl,s'.nt,s'.below,s'.fits,λk hk=>?_,λk k' h h' he=>s'.inj k k' (dom k h) (dom k' h') (by cases k<;>cases k'<;>exact he),λk hk=>?_,s'.own,λid b l h hid=>?_,s'.spApart,s'.spLt,λa ha=>?_,λb hb=>?_,s'.spTop,s'.spTy,λb T hb ht=>?_,s'.glob⟩,?_⟩
 ·have h0:=s.obj k (domO k hk)
  have h1:=s'.obj k (dom k hk);cases k with
  | box b=>
   have hb:b<st.nb:=hk;have h1':G4 g' w' (g'.bk b) (st.box b):=by rw[<-x.box b hb];exact h1
   have h2:=G4.lower (g:=g) (w:=w) (b:=g.at (.box b)) h0 h1';rw[s.nb]at h2;exact h2
  | loc i=>obtain⟨l,hl⟩:=hk;simp at hl
 ·have:=s'.lo k (dom k hk)
  cases k<;>exact this
 ·obtain⟨h1,h2,h3,h4,h5⟩:=s'.spCell id b l h hid
  exact⟨h1,h2,h3,λk hk=>by have:=h4 k (dom k hk);cases k<;>exact this,h5⟩
 ·rcases ha with ha | ⟨b,h1,h2,h3,h4,h5⟩
  ·obtain⟨q1,q2,q3,q4⟩:=s'.sCell a ha
   exact⟨q1,q2,λk hk=>by have:=q3 k (dom k hk);cases k<;>exact this,q4⟩
  ·have hd:Dom st' [] (.box b):=by show b<st'.nb;rw[<-s'.nb];exact h2
   refine⟨h4,h5,λk hk hc=>?_,λid l h hid _=>?_⟩
   ·cases k with
    | box b'=>
     have hb':b'<st.nb:=hk;have:=s'.inj (.box b') (.box b) (dom _ hk) hd (by rw[h3]at hc;exact hc);cases this;omega
    | loc i=>obtain⟨l,hl⟩:=hk;simp at hl
   ·have:=(s'.spCell id a.block l h hid).2.2.2.1 (.box b) hd
    exact this h3.symm
 ·obtain⟨h1,h2,h3,h4⟩:=s'.protOk b hb
  refine⟨h1,λk hk=>by have:=h2 k (dom k hk);cases k<;>exact this,h3,λa ha=>?_⟩;rcases ha with ha | ⟨c,q1,q2,q3,q4,q5⟩
  ·exact h4 a ha
  ·rw[q3]
   exact h2 (.box c) (by show c<st'.nb;rw[<-s'.nb];exact q2)
 ·have hb':b<st.nb:=hb
  exact s'.bTy b T (Nat.lt_of_lt_of_le hb' x.nb) ht
 ·exact⟨e.base,e.w0,e.size,by show g.nb<=st.nb;rw[s.nb];exact Nat.le_refl _,e.bk,e.nt,e.sp,λa ha=>⟨.inl (e.S a ha).1,(e.S a ha).2⟩,e.prot,e.protEq⟩
def Dq (st st':St) (r r':TV):Prop:=∀(g':Ak) (w':World) (u:Value),Sim g' st' [] w'->Rel g' w' r u->Rel (g'.upto w' st.nb) w' r' u
theorem Cx.settle {E:TV->St->Prop} {P:Program} {f:FuncId} {args:List TV} {st:St} {R:TV->St->Prop} (h:Cx E P f args st λr st'=>Ag st st'/\∃r',Dq st st' r r'/\R r' (st'.upto st)):Cx E P f args st R:=by
 refine⟨λg w vargs s hr=>(h.run g w vargs s hr).mono ?_ λ_ _ h=>h⟩;rintro v w' ⟨r,st',g',⟨x,r',hs,hR⟩,s',hrel,e⟩;obtain⟨s2,e2⟩:=Sim.upto s s' e x;exact⟨r',st'.upto st,g'.upto w' st.nb,hR,s2,hs g' w' v s' hrel,e2⟩
theorem Bz.settle {E:TV->St->Prop} {P:Program} {f:FuncId} {args:List TV} {sh:List RTy} {st:St} {K:FunR sh (St->Prop)} (h:Bz E P f args sh st (Gs sh λr st'=>Ag st st'/\∃r',Dq st st' r r'/\FF sh r' K λp=>p (st'.upto st))):Bz E P f args sh st K:=
 Cx.settle (Cx.mono h (λr st' hd=>NG (F:=λr st'=>Ag st st'/\∃r',Dq st st' r r'/\FF sh r' K λp=>p (st'.upto st)) (k:=λp=>p st') hd) λ_ _ h=>h)
theorem CallT.settle {P:Program} {f:FuncId} {args:List TV} {sh:List RTy} {st:St} {K:FunR sh (St->Prop)} (h:CallT P f args sh st (Gs sh λr st'=>Ag st st'/\∃r',Dq st st' r r'/\FF sh r' K λp=>p (st'.upto st))):CallT P f args sh st K:=
 Bz.settle h
def Bg (st st':St) (xs xs':List TV):Prop:=xs'.length=xs.length/\∀(g':Ak) (w':World),Sim g' st' [] w'->∀us,AP g' w' xs us->AP (g'.upto w' st.nb) w' xs' us
theorem AP.split {g:Ak} {w:World} {a b:List TV} {us:List Value} (h:AP g w (a++b) us):AP g w a (us.take a.length)/\AP g w b (us.drop a.length):=by
 have h1:=h.take a.length;have h2:=h.drop a.length;rw[List.take_left]at h1;rw[List.drop_left]at h2;exact⟨h1,h2⟩
theorem Bg.nil (st st':St):Bg st st' [] []:=⟨rfl,λg' w' _ us h=>⟨h.1,λi hi=>absurd hi (Nat.not_lt_zero _)⟩⟩
theorem Bg.app {st st':St} {a b a' b':List TV} (h:Bg st st' a a') (k:Bg st st' b b'):Bg st st' (a++b) (a'++b'):=by
 refine⟨by rw[List.length_append,List.length_append,h.1,k.1],λg' w' s us hr=>?_⟩;obtain⟨h1,h2⟩:=hr.split;have:=(h.2 g' w' s _ h1).append (k.2 g' w' s _ h2);rw[List.take_append_drop]at this;exact this
theorem Bg.one {st st':St} {x x':TV} (h:Dq st st' x x'):Bg st st' [x] [x']:=by
 refine⟨rfl,λg' w' s us hr=>?_⟩;refine⟨hr.1,λi hi=>?_⟩
 match i,hi with
 | 0,_=>exact h g' w' _ s (hr.2 0 (by simp))
theorem Bl (st st':St) (k:IntKind) (n:Int):Dq st st' (.int k n) (.int k n):=λg' w' u _ h=>by cases h;exact .int k n
theorem Fi (st st':St) (b:Bool):Dq st st' (.bool b) (.bool b):=λg' w' u _ h=>by cases h;exact .bool b
theorem Bt (st st':St) (l:B8):Dq st st' (.str l) (.str l):=λg' w' u _ h=>by cases h;exact .str l
theorem Bg.bytes (st st':St) (l:B8):Bg st st' (AV l) (AV l):=by
 refine⟨rfl,λg' w' s us hr=>⟨hr.1,λi hi=>?_⟩⟩;have h:=hr.2 i hi;have e:∀x,x∈AV l->∃b:UInt8,x=L7 b:=λx hx=>by
  unfold AV at hx;obtain⟨b,_,rfl⟩:=List.mem_map.1 hx;exact⟨b,rfl⟩
 obtain⟨b,hb⟩:=e _ (List.getElem_mem hi);rw[hb]at h⊢;unfold L7 at h⊢;rw[h.int_inv];exact .int _ _
theorem BQ.settle {st st':St} {sz n:Nat} {u:TV} {xs xs':List TV} {bs:List Nat} (h:BQ st' sz u n xs bs) (hb:∀x,x∈bs->st.nb<=x) (hx:Bg st st' xs xs'):∃u',Rd sz u' n xs'/\Dq st st' u u':=by
 rcases h with⟨rfl,rfl,rfl,rfl | rfl⟩ | ⟨b,cap,tail,rfl,h1,h2,h3,h4,h5,rfl⟩
 ·have:xs'=[]:=List.eq_nil_of_length_eq_zero hx.1
  subst this;exact⟨.nilSlice,.inl ⟨rfl,rfl,rfl⟩,λg' w' u _ h=>by cases h;exact .nilSlice⟩
 ·have:xs'=[]:=List.eq_nil_of_length_eq_zero hx.1
  subst this;refine⟨.list sz .full 0 [],.inr ⟨_,rfl⟩,λg' w' u _ h=>?_⟩;cases h with
  | list _ _ _ _ b1 o1 cap1 us1 hl1 hn1 hc1 hr1 ht1=>exact .list sz .full 0 [] b1 o1 cap1 us1 hl1 hn1 (λi hi=>absurd hi (Nat.not_lt_zero _)) (λi hi=>absurd hi (Nat.not_lt_zero _)) ht1
  | listE _ _ a ht1=>exact .listE sz .full a ht1
 ·refine⟨.list sz .non n xs',.inr ⟨_,rfl⟩,λg' w' u s h=>?_⟩
  cases h with
  | ms _ _ _ _ _ hlt hn=>
  have hlt':Dom st' [] (.box b):=h1;have ho:=s.obj (.box b) hlt';have ho':G4 g' w' (g'.bk b) (.cells (xs++tail)):=by rw[<-h2];exact ho
  obtain⟨cs,hc,hr⟩:=ho';have hq:=(hx.2 g' w' s _ hr.split.1);have hlen:xs.length<=cs.length:=by have:=hr.1;rw[List.length_append]at this;omega
  refine .list sz .non n xs' (g'.bk b) 0 cap (λi=>cs.getD i Go.undef) (by rw[hx.1,h4]) hn (λi hi=>?_) (λi hi=>?_) trivial
  ·have hi':i<cs.length:=by rw[hx.1]at hi;omega
   have hv:cs[i]? =some (cs.getD i Go.undef):=by rw[List.getD_eq_getElem?_getD,List.getElem?_eq_getElem hi'];rfl
   have hg:=hc.get hv;rw[Nat.zero_add];exact⟨.inr ⟨b,hb b (.head _),hlt,rfl,rfl,_,hg⟩,hg⟩
  ·have:=hq.2 i hi
   have e:(cs.take xs.length).getD i Go.undef=cs.getD i Go.undef:=by
    have hi':i<xs.length:=by rw[hx.1]at hi;exact hi
    rw[List.getD_eq_getElem?_getD,List.getD_eq_getElem?_getD,List.getElem?_take,if_pos hi']
   rw[e]at this;exact this
mutual
theorem VlO.settle {st st':St}:∀{v:Vl} {cs:List TV} {fp:List Nat},VlO st' v cs fp->(∀x,x∈fp->st.nb<=x)->∃cs',VlR St.zero v cs'/\Bg st st' cs cs'
 | .mk s l f,cs,fp,h,hb=>by
  unfold VlO at h;obtain⟨ub,ul,uf,xl,xf,bb,bl,bf,fl,ff,rfl,h1,h2,h3,h4,h5,rfl⟩:=h;have m1:∀{x},x∈bb->st.nb<=x:=λhx=>hb _ (List.mem_append_left _ hx);have m2:∀{x},x∈bl->st.nb<=x:=λhx=>hb _ (List.mem_append_right _ (List.mem_append_left _ hx));have m3:∀{x},x∈fl->st.nb<=x:=λhx=>hb _ (List.mem_append_right _ (List.mem_append_right _ (List.mem_append_left _ hx)));have m4:∀{x},x∈bf->st.nb<=x:=λhx=>hb _ (List.mem_append_right _ (List.mem_append_right _ (List.mem_append_right _ (List.mem_append_left _ hx))));have m5:∀{x},x∈ff->st.nb<=x:=λhx=>hb _ (List.mem_append_right _ (List.mem_append_right _ (List.mem_append_right _ (List.mem_append_right _ hx))));obtain⟨xl',q1,q2⟩:=VsO.settle h3 λx hx=>m3 hx;obtain⟨xf',q3,q4⟩:=FsO.settle h5 λx hx=>m5 hx;obtain⟨ub',r1,r2⟩:=h1.settle (λx hx=>m1 hx) (Bg.bytes st st' _);obtain⟨ul',r3,r4⟩:=h2.settle (λx hx=>m2 hx) q2;obtain⟨uf',r5,r6⟩:=h4.settle (λx hx=>m4 hx) q4;refine⟨AQ s ub' ul' uf',?_,?_⟩
  ·unfold VlR
   exact⟨ub',ul',uf',xl',xf',rfl,.of_rd r1,.of_rd r3,q1,.of_rd r5,q3⟩
  ·have c:∀{x x':TV} {l l':List TV},Dq st st' x x'->Bg st st' l l'->Bg st st' (x::l) (x'::l'):=λh k=>(Bg.one h).app k
   exact c (Bl _ _ _ _) (c (Fi _ _ _) (c (Fi _ _ _) (c (Bt _ _ _) (c (Bl _ _ _ _) (c (Bl _ _ _ _) (c (Bl _ _ _ _) (c (Bl _ _ _ _) (c (Bl _ _ _ _) (c (Bt _ _ _) (c r2 (c r4 (c r6 (Bg.nil _ _)))))))))))))
theorem VsO.settle {st st':St}:∀{l:List Vl} {cs:List TV} {fp:List Nat},VsO st' l cs fp->(∀x,x∈fp->st.nb<=x)->∃cs',VsR St.zero l cs'/\Bg st st' cs cs'
 | [],cs,fp,h,hb=>by
  unfold VsO at h;obtain⟨rfl,rfl⟩:=h;exact⟨[],by unfold VsR;rfl,Bg.nil _ _⟩
 | v::r,cs,fp,h,hb=>by
  unfold VsO at h;obtain⟨a,b,p,q,rfl,rfl,h1,h2⟩:=h;obtain⟨a',q1,q2⟩:=VlO.settle h1 λx hx=>hb x (List.mem_append_left _ hx);obtain⟨b',q3,q4⟩:=VsO.settle h2 λx hx=>hb x (List.mem_append_right _ hx);exact⟨a'++b',by unfold VsR;exact⟨a',b',rfl,q1,q3⟩,q2.app q4⟩
theorem FdO.settle {st st':St}:∀{d:Fd} {cs:List TV} {fp:List Nat},FdO st' d cs fp->(∀x,x∈fp->st.nb<=x)->∃cs',FdR St.zero d cs'/\Bg st st' cs cs'
 | .mk key v,cs,fp,h,hb=>by
  unfold FdO at h;obtain⟨c,rfl,h1⟩:=h;obtain⟨a',q1,q2⟩:=VlO.settle h1 hb;exact⟨.str key::a',by unfold FdR;exact⟨a',rfl,q1⟩,(Bg.one (Bt _ _ _)).app q2⟩
theorem FsO.settle {st st':St}:∀{l:List Fd} {cs:List TV} {fp:List Nat},FsO st' l cs fp->(∀x,x∈fp->st.nb<=x)->∃cs',FsR St.zero l cs'/\Bg st st' cs cs'
 | [],cs,fp,h,hb=>by
  unfold FsO at h;obtain⟨rfl,rfl⟩:=h;exact⟨[],by unfold FsR;rfl,Bg.nil _ _⟩
 | d::r,cs,fp,h,hb=>by
  unfold FsO at h;obtain⟨a,b,p,q,rfl,rfl,h1,h2⟩:=h;obtain⟨a',q1,q2⟩:=FdO.settle h1 λx hx=>hb x (List.mem_append_left _ hx);obtain⟨b',q3,q4⟩:=FsO.settle h2 λx hx=>hb x (List.mem_append_right _ hx);exact⟨a'++b',by unfold FsR;exact⟨a',b',rfl,q1,q3⟩,q2.app q4⟩
end
theorem Mo {st st':St} {cs cs':List TV} (h:Bg st st' cs cs'):Dq st st' (.agg cs) (.agg cs'):=λg' w' u s hr=>by
 cases hr with
 | agg _ vs hl hr=>
  have:=h.2 g' w' s vs ⟨hl,hr⟩;exact .agg cs' vs this.1 this.2
theorem Ug {v:Vl} (hN:v.sz<=2000000) (hC:v.cnt<=65536) {st:St} {cs:List TV} {K:Int->Bool->Bool->B8->Int->Int->Int->Int->Int->B8->TV->TV->TV->St->Prop} (h:VlR st v cs)
  (hk:∀ub ul uf st',VlR St.zero v (AQ v.sc ub ul uf)->Av ub=true->Av ul=true->Av uf=true->Ag st st'->st'.nb=st.nb->K v.sc.kind v.sc.b v.sc.neg v.sc.dg v.sc.ex v.sc.tk v.sc.td v.sc.tn v.sc.tz v.sc.text ub ul uf st'):
  CallT PR Gg [.agg cs] [.agg [.int .i64,.bool,.bool,.str,.int .i64,.int .i64,.int .i64,.int .i64,.int .i64,.str,.tv,.tv,.tv]] st K:=by
 refine CallT.settle (copy_ok hN hC h λub ul uf st' fp g o1 o2 o3 nd lo e=>?_);obtain⟨cs',q1,q2⟩:=g.settle lo;refine⟨e,.agg cs',Mo q2,?_⟩;obtain⟨s,l,f⟩:=v;have q0:=q1;obtain⟨ub',ul',uf',xl,xf,rfl,w1,w2,_,w4,_⟩:=VlR.cells q0;exact hk ub' ul' uf' (st'.upto st) q1 w1.one w2.one w4.one (PY e) rfl
end
section
theorem SlR.zero {sz n:Nat} {v:TV} {xs:List TV} (h:SlR St.zero sz v n xs):Rd sz v n xs:=by
 rcases h with h | ⟨b,_,_,_,_,hb,_⟩
 ·exact h
 ·exact absurd hb (Nat.not_lt_zero _)
abbrev StepV:=Bool×B8×Int
section
variable {st:St}
end
section
variable {st:St}
end
end
end Go.TVF
section
namespace Go.TVF
open Go.IntKind(i64 u8)
mutual
inductive Tb where
 | mk (b m:Nat) (hd:Bool) (es:List Kn)
inductive Kn where
 | mk (k:B8) (eb:Nat) (e:En)
inductive En where
 | opn (t:Tb)
 | lst (l:List Tb)
 | clo (v:Vl) (i:Nat)
end
def Tb.b:Tb->Nat | .mk b _ _ _=>b
def Tb.m:Tb->Nat | .mk _ m _ _=>m
def Tb.hd:Tb->Bool | .mk _ _ h _=>h
def Tb.es:Tb->List Kn | .mk _ _ _ es=>es
def Kn.key:Kn->B8 | .mk k _ _=>k
def Kn.eb:Kn->Nat | .mk _ e _=>e
def Kn.en:Kn->En | .mk _ _ e=>e
def scM:Sc:=⟨7,false,false,[],0,0,0,0,0,[],[]⟩
def scL:Sc:=⟨6,false,false,[],0,0,0,0,0,[],[]⟩
mutual
def Ae:Tb->Vl
 | .mk _ _ _ es=> .mk scM [] (Bb es)
def Bb:List Kn->List Fd
 | []=>[]
 | .mk k _ e::r=> .mk k (AK e)::Bb r
def AK:En->Vl
 | .opn t=>Ae t
 | .lst l=> .mk scL (BS l) []
 | .clo v _=>v
def BS:List Tb->List Vl
 | []=>[]
 | t::r=>Ae t::BS r
end
theorem N2:∀a b:List Kn,Bb (a++b)=Bb a++Bb b
 | [],b=>by simp[Bb]
 | .mk k e x::r,b=>by simp only[List.cons_append,Bb,N2 r b]
theorem Dl:∀l:List Tb,BS l=l.map Ae
 | []=>rfl
 | t::r=>by rw[BS,List.map_cons,Dl r]
theorem K7:∀l:List Kn,Bb l=l.map λd=>Fd.mk d.key (AK d.en)
 | []=>rfl
 | .mk k e x::r=>by rw[Bb,List.map_cons,K7 r];rfl
def Aj (k:B8):List Kn->Option (Nat×En)
 | []=>none
 | .mk k' eb e::r=>if k=k' then some (eb,e)else Aj k r
def BZ (k:B8) (x:En):List Kn->List Kn
 | []=>[]
 | .mk k' eb e::r=>if k=k' then .mk k' eb x::r else .mk k' eb e::BZ k x r
theorem Li {k:B8}:∀{es:List Kn} {eb:Nat} {e:En},Aj k es=some (eb,e)->Kn.mk k eb e∈es
 | .mk k' eb' e'::r,eb,e,h=>by
  unfold Aj at h;split at h
  ·rename_i hk;cases h;subst hk;exact .head _
  ·exact .tail _ (Li h)
theorem My {k:B8}:∀{es:List Kn},Aj k es=none->∀d,d∈es->d.key≠k
 | [],h,d,hd=>by cases hd
 | .mk k' eb' e'::r,h,d,hd=>by
  unfold Aj at h;split at h
  ·cases h
  ·rename_i hk
   rcases List.mem_cons.1 hd with rfl | hd
   ·exactλh=>hk h.symm
   ·exact My h d hd
theorem Sp {k:B8} {x:En}:∀es:List Kn,(BZ k x es).map Kn.key=es.map Kn.key
 | []=>rfl
 | .mk k' eb e::r=>by
  unfold BZ;split
  ·rfl
  ·rw[List.map_cons,List.map_cons,Sp r]
theorem Fv {k:B8} {x:En}:∀{es:List Kn} {eb:Nat} {e:En},Aj k es=some (eb,e)->Aj k (BZ k x es)=some (eb,x)
 | .mk k' eb' e'::r,eb,e,h=>by
  unfold Aj at h;unfold BZ;split at h
  ·rename_i hk;cases h;subst hk;rw[if_pos rfl];simp[Aj]
  ·rename_i hk;rw[if_neg hk,Aj,if_neg hk];exact Fv h
theorem KJ {k k2:B8} {x:En} (hne:k2≠k):∀{es:List Kn},Aj k2 (BZ k x es)=Aj k2 es
 | []=>rfl
 | .mk k' eb' e'::r=>by
  unfold BZ;split
  ·rename_i hk;subst hk;unfold Aj;rw[if_neg hne,if_neg hne]
  ·unfold Aj;split
   ·rfl
   ·exact KJ hne
theorem VI {k k2:B8} {eb:Nat} {x:En}:∀{es:List Kn},Aj k2 (es++[.mk k eb x])=match Aj k2 es with | some p=>some p | none=>if k2=k then some (eb,x)else none
 | []=>by simp[Aj]
 | .mk k' eb' e'::r=>by
  rw[List.cons_append,Aj,Aj];split
  ·rfl
  ·exact VI
theorem set_set {k:B8} {x y:En}:∀es:List Kn,BZ k y (BZ k x es)=BZ k y es
 | []=>rfl
 | .mk k' eb e::r=>by
  by_cases hk:k=k'
  ·rw[BZ,if_pos hk,BZ,BZ,if_pos hk,if_pos hk]
  ·rw[BZ,if_neg hk,BZ,BZ,if_neg hk,if_neg hk,set_set r]
abbrev Hop:=B8×Option Nat
def atT:Tb->List Hop->Option Tb
 | t,[]=>some t
 | .mk _ _ _ es,(k,none)::h=>match Aj k es with
  | some (_,.opn u)=>atT u h
  | _=>none
 | .mk _ _ _ es,(k,some i)::h=>match Aj k es with
  | some (_,.lst l)=>match l[i]? with
   | some u=>atT u h
   | none=>none
  | _=>none
def AA:Tb->List Hop->Tb->Tb
 | _,[],x=>x
 | .mk b m hd es,(k,none)::h,x=>match Aj k es with
  | some (_,.opn u)=> .mk b m hd (BZ k (.opn (AA u h x)) es)
  | _=> .mk b m hd es
 | .mk b m hd es,(k,some i)::h,x=>match Aj k es with
  | some (_,.lst l)=>match l[i]? with
   | some u=> .mk b m hd (BZ k (.lst (l.set i (AA u h x))) es)
   | none=> .mk b m hd es
  | _=> .mk b m hd es
theorem Ls:∀(h g:List Hop) (T:Tb),atT T (h++g)=(atT T h).bind λt=>atT t g
 | [],g,T=>by cases T;rfl
 | (k,none)::h,g,.mk b m hd es=>by
  rw[List.cons_append,atT,atT];rcases Aj k es with _ | ⟨eb,u | l | ⟨v,i⟩⟩
  ·rfl
  ·exact Ls h g u
  ·rfl
  ·rfl
 | (k,some i)::h,g,.mk b m hd es=>by
  rw[List.cons_append,atT,atT];rcases Aj k es with _ | ⟨eb,u | l | ⟨v,i⟩⟩
  ·rfl
  ·rfl
  ·simp only
   cases l[i]? with
   | none=>rfl
   | some u=>exact Ls h g u
  ·rfl
theorem CT:∀(h:List Hop) {T t x:Tb},atT T h=some t->atT (AA T h x) h=some x
 | [],T,t,x,_=>by cases x;rfl
 | (k,none)::h,.mk b m hd es,t,x,hA=>by
  rw[atT]at hA;rw[AA];rcases hl:Aj k es with _ | ⟨eb,u | l | ⟨v,i⟩⟩<;>rw[hl]at hA<;>simp only at hA⊢<;>try (cases hA;done)
  ·rw[atT,Fv hl];exact CT h hA
 | (k,some i)::h,.mk b m hd es,t,x,hA=>by
  rw[atT]at hA;rw[AA];rcases hl:Aj k es with _ | ⟨eb,u | l | ⟨v,i⟩⟩<;>rw[hl]at hA<;>simp only at hA⊢<;>try (cases hA;done)
  ·cases hi:l[i]? with
   | none=>simp[hi]at hA
   | some u=>
    rw[hi]at hA;have hlt:=(List.getElem?_eq_some_iff.1 hi).1;simp only at hA⊢;rw[atT,Fv hl];simp only;rw[List.getElem?_set_self hlt];exact CT h hA
theorem Dg:∀(h:List Hop) {T t x:Tb},atT T h=some t->x.b=t.b->(AA T h x).b=T.b
 | [],T,t,x,hA,hx=>by cases T;cases hA;exact hx
 | (k,none)::h,.mk b m hd es,t,x,hA,hx=>by
  rw[AA];split<;>rfl
 | (k,some i)::h,.mk b m hd es,t,x,hA,hx=>by
  rw[AA];split
  ·split<;>rfl
  ·rfl
theorem Pw:∀(h g:List Hop) {T t x:Tb},atT T h=some t->AA T (h++g) x=AA T h (AA t g x)
 | [],g,T,t,x,hA=>by cases T;cases hA;rfl
 | (k,none)::h,g,.mk b m hd es,t,x,hA=>by
  rw[atT]at hA;rw[List.cons_append,AA,AA];rcases hl:Aj k es with _ | ⟨eb,u | l | ⟨v,i⟩⟩<;>rw[hl]at hA<;>simp only at hA⊢<;>try (cases hA;done)
  ·rw[Pw h g hA]
 | (k,some i)::h,g,.mk b m hd es,t,x,hA=>by
  rw[atT]at hA;rw[List.cons_append,AA,AA];rcases hl:Aj k es with _ | ⟨eb,u | l | ⟨v,i⟩⟩<;>rw[hl]at hA<;>simp only at hA⊢<;>try (cases hA;done)
  ·cases hi:l[i]? with
   | none=>simp[hi]at hA
   | some u=>rw[hi]at hA;simp only at hA⊢;rw[Pw h g hA]
theorem G6:∀(h:List Hop) {T t x y:Tb},atT T h=some t->AA (AA T h x) h y=AA T h y
 | [],T,t,x,y,hA=>by cases x;cases T;rfl
 | (k,none)::h,.mk b m hd es,t,x,y,hA=>by
  rw[atT]at hA;rw[AA,AA];rcases hl:Aj k es with _ | ⟨eb,u | l | ⟨v,i⟩⟩<;>rw[hl]at hA<;>simp only at hA⊢<;>try (cases hA;done)
  ·rw[AA,Fv hl];simp only;rw[G6 h hA,set_set]
 | (k,some i)::h,.mk b m hd es,t,x,y,hA=>by
  rw[atT]at hA;rw[AA,AA];rcases hl:Aj k es with _ | ⟨eb,u | l | ⟨v,i⟩⟩<;>rw[hl]at hA<;>simp only at hA⊢<;>try (cases hA;done)
  ·cases hi:l[i]? with
   | none=>simp[hi]at hA
   | some u=>
    rw[hi]at hA;have hlt:=(List.getElem?_eq_some_iff.1 hi).1;simp only at hA⊢;rw[AA,Fv hl];simp only;rw[List.getElem?_set_self hlt];simp only;rw[G6 h hA,set_set,List.set_set]
end Go.TVF
end
section
namespace Go.TVF
open Go.IntKind(i64 u8)
inductive Stp where
 | key (k:B8)
 | idx (i:Nat)
deriving DecidableEq
def scO:Sc:=⟨0,false,false,[],0,0,0,0,0,[],[]⟩
def vlO:Vl:= .mk scO [] []
def stp:List Hop->List Stp
 | []=>[]
 | (k,none)::h=> .key k::stp h
 | (k,some i)::h=> .key k:: .idx i::stp h
end Go.TVF
end
namespace Go.TVF
open Go.IntKind(i64 u8)
open Go Go.Proofs
section
theorem Mn (st st':St):Dq st st' .nilSlice .nilSlice:=λg' w' u _ h=>by cases h;exact .nilSlice
theorem Va {st st':St} {sz n:Nat} {tip:Tip} {xs:List TV} (hx:Bg st st' xs xs):Dq st st' (.list sz tip n xs) (.list sz tip n xs):=λg' w' u s h=>by
 cases h with
 | list _ _ _ _ b o cap us hl hn hc hr ht=>
  refine .list sz tip n xs b o cap us hl hn (λi hi=>⟨.inl (hc i hi).1,(hc i hi).2⟩) (λi hi=>?_) ht;have hg:∀i,i<xs.length->((List.range xs.length).map us).getD i Go.undef=us i:=λi hi=>by
   rw[List.getD_eq_getElem?_getD,List.getElem?_map,List.getElem?_range hi];rfl
  have:=(hx.2 g' w' s ((List.range xs.length).map us) ⟨by simp,λi hi=>by rw[hg i hi];exact hr i hi⟩).2 i hi;rw[hg i hi]at this;exact this
 | listE _ _ a ht=>exact .listE sz tip a ht
theorem FQ {st st':St} {sz n:Nat} {u:TV} {xs:List TV} (h:Rd sz u n xs) (hx:Bg st st' xs xs):Dq st st' u u:=by
 rcases h with⟨rfl,_⟩ | ⟨tip,rfl⟩
 ·exact Mn _ _
 ·exact Va hx
mutual
theorem VlR.setl {st st':St}:∀{v:Vl} {cs:List TV},VlR St.zero v cs->Bg st st' cs cs
 | .mk s l f,cs,h=>by
  unfold VlR at h;obtain⟨ub,ul,uf,xl,xf,rfl,h1,h2,h3,h4,h5⟩:=h;have c:∀{x x':TV} {l l':List TV},Dq st st' x x'->Bg st st' l l'->Bg st st' (x::l) (x'::l'):=λh k=>(Bg.one h).app k;exact c (Bl _ _ _ _) (c (Fi _ _ _) (c (Fi _ _ _) (c (Bt _ _ _) (c (Bl _ _ _ _) (c (Bl _ _ _ _) (c (Bl _ _ _ _) (c (Bl _ _ _ _) (c (Bl _ _ _ _) (c (Bt _ _ _)
   (c (FQ h1.zero (Bg.bytes _ _ _)) (c (FQ h2.zero (VsR.setl h3)) (c (FQ h4.zero (FsR.setl h5)) (Bg.nil _ _)))))))))))))
theorem VsR.setl {st st':St}:∀{l:List Vl} {cs:List TV},VsR St.zero l cs->Bg st st' cs cs
 | [],cs,h=>by unfold VsR at h;subst h;exact Bg.nil _ _
 | v::r,cs,h=>by
  unfold VsR at h;obtain⟨a,b,rfl,h1,h2⟩:=h;exact(VlR.setl h1).app (VsR.setl h2)
theorem FdR.setl {st st':St}:∀{d:Fd} {cs:List TV},FdR St.zero d cs->Bg st st' cs cs
 | .mk k v,cs,h=>by
  unfold FdR at h;obtain⟨c,rfl,h1⟩:=h;exact(Bg.one (Bt _ _ _)).app (VlR.setl h1)
theorem FsR.setl {st st':St}:∀{l:List Fd} {cs:List TV},FsR St.zero l cs->Bg st st' cs cs
 | [],cs,h=>by unfold FsR at h;subst h;exact Bg.nil _ _
 | d::r,cs,h=>by
  unfold FsR at h;obtain⟨a,b,rfl,h1,h2⟩:=h;exact(FdR.setl h1).app (FsR.setl h2)
end
def sv:Stp->StepV
 | .key k=>(false,k,0)
 | .idx i=>(true,[],(i:Int))
end
theorem zero13:VlR St.zero vlO [.int .i64 0,.bool false,.bool false,.str [],.int .i64 0,.int .i64 0,.int .i64 0,.int .i64 0,.int .i64 0,.str [],.nilSlice,.nilSlice,.nilSlice]:=by
 unfold vlO VlR;refine⟨.nilSlice,.nilSlice,.nilSlice,[],[],rfl,.of_rd (.inl ⟨rfl,rfl,rfl⟩),.of_rd (.inl ⟨rfl,rfl,rfl⟩),by unfold VsR;rfl,.of_rd (.inl ⟨rfl,rfl,rfl⟩),by unfold FsR;rfl⟩
theorem BQ.one {st:St} {sz n:Nat} {u:TV} {xs:List TV} {bs:List Nat} (h:BQ st sz u n xs bs):Av u=true:=h.rd.one
theorem ld0 {st:St} {sz n i:Nat} {u:TV} {A c B:List TV} {bs:List Nat} (h:BQ st sz u n (A++c++B) bs) (hA:A.length=i*sz) (hc:0<c.length):AE st [] (.t (ixT sz u i)) 0 c.length=some c:=by
 have:=h.ld (o:=0) (by omega) hc;rcases h with⟨_,h1,_⟩ | ⟨b,cap,tail,rfl,_⟩
 ·simp only[List.append_eq_nil_iff]at h1
  rw[h1.1.2]at hc;exact absurd hc (by simp)
 ·exact this
theorem Xd {st:St} {sz n i:Nat} {u:TV} {A c B ys:List TV} {bs:List Nat} (h:BQ st sz u n (A++c++B) bs) (hA:A.length=i*sz) (hc:0<c.length) (hy:ys.length=c.length) {k:St->Prop} (hk:∀st',BQ st' sz u n (A++ys++B) bs->StX (·∈bs) st st'->k st'):stB st (ixT sz u i) ys k:=by
 have:=h.store (o:=0) (by omega) hc hy hk;rcases h with⟨_,h1,_⟩ | ⟨b,cap,tail,rfl,_⟩
 ·simp only[List.append_eq_nil_iff]at h1
  rw[h1.1.2]at hc;exact absurd hc (by simp)
 ·exact this
end Go.TVF
section
namespace Go.TVF
open Go.IntKind(i64 u8)
def AM (t:Tb) (k:B8) (eb:Nat) (e:En):Tb:= .mk t.b t.m t.hd (t.es++[.mk k eb e])
def BM (t:Tb) (k:B8) (e:En):Tb:= .mk t.b t.m t.hd (BZ k e t.es)
theorem Fx {t:Tb} {k k2:B8} {eb:Nat} {e:En} (h:Aj k t.es=none):Aj k2 (AM t k eb e).es=if k2=k then some (eb,e)else Aj k2 t.es:=by
 show Aj k2 (t.es++[.mk k eb e])=_;rw[VI];by_cases hk:k2=k
 ·subst hk;simp[h]
 ·rw[if_neg hk,if_neg hk]
  cases Aj k2 t.es<;>rfl
theorem look_chg {t:Tb} {k k2:B8} {eb:Nat} {e x:En} (h:Aj k t.es=some (eb,e)):Aj k2 (BM t k x).es=if k2=k then some (eb,x)else Aj k2 t.es:=by
 show Aj k2 (BZ k x t.es)=_;by_cases hk:k2=k
 ·subst hk;rw[if_pos rfl,Fv h]
 ·rw[if_neg hk,KJ hk]
structure Asg where
 tab:Bool
 elem:Bool
 keys:List B8
 val:Vl
structure Nu where
 b:Nat
 m:Nat
 eb:Nat
def Ar (nu:Nu) (hd:Bool):Tb:= .mk nu.b nu.m hd []
def Df (nu:Nu) (hd:Bool) (T:Tb) (h:List Hop) (k:B8):Option (Tb×List Hop):=
 match atT T h with
 | none=>none
 | some t=>match Aj k t.es with
  | none=>some (AA T h (AM t k nu.eb (.opn (Ar nu false))),h++[(k,none)])
  | some (_,.opn _)=>some (T,h++[(k,none)])
  | some (_,.lst l)=>if hd=true then some (T,h++[(k,some (l.length-1))])else none
  | some (_,.clo _ _)=>none
def BE (nu:Nat->Nu) (hd:Bool):Nat->Tb->List Hop->List B8->Option (Tb×List Hop)
 | _,T,h,[]=>some (T,h)
 | j,T,h,k::ks=>match Df (nu j) hd T h k with
  | none=>none
  | some (T',h')=>BE nu hd (j+1) T' h' ks
def BF:Tb->Tb | .mk b m _ es=> .mk b m true es
def B2 (nu:Nu) (a:Asg) (i:Nat) (T:Tb) (h cur:List Hop) (k:B8):Except Int (Tb×List Hop):=
 match atT T h with
 | none=> .error 0
 | some t=>
  if a.elem=true then(match Aj k t.es with
   | none=> .ok (AA T h (AM t k nu.eb (.lst [Ar nu false])),h++[(k,some 0)])
   | some (_,.lst l)=> .ok (AA T h (BM t k (.lst (l++[Ar nu false]))),h++[(k,some l.length)])
   | some _=> .error 6)
  else if a.tab=true then(match Aj k t.es with
   | none=> .ok (AA T h (AM t k nu.eb (.opn (Ar nu true))),h++[(k,none)])
   | some (_,.opn u)=>if u.hd=true then .error 8 else .ok (AA T h (BM t k (.opn (BF u))),h++[(k,none)])
   | some _=> .error 8)
  else(match Aj k t.es with
   | none=> .ok (AA T h (AM t k nu.eb (.clo a.val i)),cur)
   | some _=> .error 8)
deriving instance DecidableEq for Sc
def OG (v:Vl):Bool:=decide (v.sc=scO)&&v.list.isEmpty&&v.flds.isEmpty
def C4 (a:Asg):Bool:= !a.keys.isEmpty&&(a.tab || !a.elem)&&(!a.tab || OG a.val)
def Fg (nu:Nat->Nu) (i:Nat) (T:Tb) (cur:List Hop) (a:Asg):Except Int (Tb×List Hop):=
 if C4 a=false then .error 1
 else match BE nu a.tab 0 T (if a.tab=true then []else cur) a.keys.dropLast with
  | none=> .error 8
  | some (T',h)=>B2 (nu a.keys.length) a i T' h cur (a.keys.getLastD [])
end Go.TVF
end
section
namespace Go.TVF
open Go.IntKind(i64 u8)
inductive ShE where
 | opn (b:Nat)
 | lst (bs:List Nat)
 | clo (v:Vl) (i:Nat)
structure Sh where
 b:Nat
 m:Nat
 hd:Bool
 d:Nat
 es:List (B8×Nat×ShE)
def shE:En->ShE
 | .opn t=> .opn t.b
 | .lst l=> .lst (l.map Tb.b)
 | .clo v i=> .clo v i
def shK (d:Kn):B8×Nat×ShE:=(d.key,d.eb,shE d.en)
mutual
def shT:Nat->Tb->List Sh
 | d,.mk b m hd es=>⟨b,m,hd,d,es.map shK⟩::Cn d es
def Cn:Nat->List Kn->List Sh
 | _,[]=>[]
 | d,.mk _ _ e::r=>AL d e++Cn d r
def AL:Nat->En->List Sh
 | d,.opn t=>shT (d+1) t
 | d,.lst l=>D5 (d+2) l
 | _,.clo _ _=>[]
def D5:Nat->List Tb->List Sh
 | _,[]=>[]
 | d,t::r=>shT d t++D5 d r
end
theorem U9 (d:Nat):∀a b:List Kn,Cn d (a++b)=Cn d a++Cn d b
 | [],b=>by simp[Cn]
 | .mk k eb e::r,b=>by simp only[List.cons_append,Cn,U9 d r b,List.append_assoc]
theorem Ky (d:Nat):∀a b:List Tb,D5 d (a++b)=D5 d a++D5 d b
 | [],b=>by simp[D5]
 | t::r,b=>by simp only[List.cons_append,D5,Ky d r b,List.append_assoc]
theorem Ft (d:Nat) {k:B8}:∀{es:List Kn} {eb:Nat} {e:En},Aj k es=some (eb,e)->∃P Q,Cn d es=P++(AL d e++Q)/\∀x,Cn d (BZ k x es)=P++(AL d x++Q)
 | .mk k' eb' e'::r,eb,e,h=>by
  unfold Aj at h;by_cases hk:k=k'
  ·rw[if_pos hk]at h
   cases h;exact⟨[],Cn d r,by rw[Cn,List.nil_append],λx=>by rw[BZ,if_pos hk,Cn,List.nil_append]⟩
  ·rw[if_neg hk]at h
   obtain⟨P,Q,h1,h2⟩:=Ft d h;exact⟨AL d e'++P,Q,by rw[Cn,h1,List.append_assoc],λx=>by rw[BZ,if_neg hk,Cn,h2 x,List.append_assoc]⟩
theorem Tt {k:B8} {x:En}:∀{es:List Kn} {eb:Nat} {e:En},Aj k es=some (eb,e)->shE x=shE e->(BZ k x es).map shK=es.map shK
 | .mk k' eb' e'::r,eb,e,h,hx=>by
  unfold Aj at h;by_cases hk:k=k'
  ·rw[if_pos hk]at h
   cases h;rw[BZ,if_pos hk,List.map_cons,List.map_cons];show(k',eb',shE x)::_=(k',eb',shE e')::_;rw[hx]
  ·rw[if_neg hk]at h
   rw[BZ,if_neg hk,List.map_cons,List.map_cons,Tt h hx]
theorem U6 (d:Nat):∀{l:List Tb} {i:Nat} {u:Tb},l[i]? =some u->∃P Q,D5 d l=P++(shT d u++Q)/\∀x,D5 d (l.set i x)=P++(shT d x++Q)
 | t::r,0,u,h=>by
  cases h;exact⟨[],D5 d r,by rw[D5,List.nil_append],λx=>by rw[List.set_cons_zero,D5,List.nil_append]⟩
 | t::r,i+1,u,h=>by
  obtain⟨P,Q,h1,h2⟩:=U6 d (l:=r) (i:=i) (u:=u) (by simpa using h);exact⟨shT d t++P,Q,by rw[D5,h1,List.append_assoc],λx=>by rw[List.set_cons_succ,D5,h2 x,List.append_assoc]⟩
def dpH:List Hop->Nat
 | []=>0
 | (_,none)::h=>dpH h+1
 | (_,some _)::h=>dpH h+2
theorem BY:∀a b:List Hop,dpH (a++b)=dpH a+dpH b
 | [],b=>by simp[dpH]
 | (k,none)::a,b=>by rw[List.cons_append,dpH,dpH,BY a b];omega
 | (k,some i)::a,b=>by rw[List.cons_append,dpH,dpH,BY a b];omega
theorem box_set {l:List Tb} {i:Nat} {u x:Tb} (h:l[i]? =some u) (hx:x.b=u.b):(l.set i x).map Tb.b=l.map Tb.b:=by
 rw[List.map_set,hx];apply List.ext_getElem?;intro j;by_cases hj:i=j
 ·subst hj
  obtain⟨hlt,hu⟩:=List.getElem?_eq_some_iff.1 h;rw[List.getElem?_set_self (by rw[List.length_map];exact hlt),List.getElem?_map,h];rfl
 ·rw[List.getElem?_set_ne hj]
theorem Hm:∀(h:List Hop) {T t:Tb},atT T h=some t->∀d,∃A B,shT d T=A++(shT (d+dpH h) t++B)/\∀t',t'.b=t.b->shT d (AA T h t')=A++(shT (d+dpH h) t'++B)
 | [],T,t,hA,d=>by
  cases T;cases hA;exact⟨[],[],by rw[List.nil_append,List.append_nil];rfl,λt' _=>by rw[List.nil_append,List.append_nil];rfl⟩
 | (k,none)::h,.mk b m hd es,t,hA,d=>by
  rw[atT]at hA;rcases hl:Aj k es with _ | ⟨eb,u | l | ⟨v,i⟩⟩<;>rw[hl]at hA<;>simp only at hA<;>try (cases hA;done)
  obtain⟨A,B,h1,h2⟩:=Hm h hA (d+1);obtain⟨P,Q,h3,h4⟩:=Ft d hl;have e:d+1+dpH h=d+dpH ((k,none)::h):=by rw[dpH];omega
  rw[e]at h1 h2;refine⟨⟨b,m,hd,d,es.map shK⟩::(P++A),B++Q,?_,λt' ht=>?_⟩
  ·rw[shT,h3,AL,h1]
   simp only[List.cons_append,List.append_assoc]
  ·rw[AA,hl]
   simp only;rw[shT,h4,AL,h2 t' ht,Tt hl (by show ShE.opn _=ShE.opn _;rw[Dg h hA ht])];simp only[List.cons_append,List.append_assoc]
 | (k,some j)::h,.mk b m hd es,t,hA,d=>by
  rw[atT]at hA;rcases hl:Aj k es with _ | ⟨eb,u | l | ⟨v,i⟩⟩<;>rw[hl]at hA<;>simp only at hA<;>try (cases hA;done)
  cases hj:l[j]? with
  | none=>simp[hj]at hA
  | some u=>
  rw[hj]at hA;simp only at hA;obtain⟨A,B,h1,h2⟩:=Hm h hA (d+2);obtain⟨P,Q,h3,h4⟩:=Ft d hl;obtain⟨P2,Q2,h5,h6⟩:=U6 (d+2) hj;have e:d+2+dpH h=d+dpH ((k,some j)::h):=by rw[dpH];omega
  rw[e]at h1 h2;refine⟨⟨b,m,hd,d,es.map shK⟩::(P++(P2++A)),B++(Q2++Q),?_,λt' ht=>?_⟩
  ·rw[shT,h3,AL,h5,h1]
   simp only[List.cons_append,List.append_assoc]
  ·rw[AA,hl]
   simp only[hj];rw[shT,h4,AL,h6,h2 t' ht,Tt hl (by show ShE.lst _=ShE.lst _;rw[box_set hj (Dg h hA ht)])];simp only[List.cons_append,List.append_assoc]
theorem Mm (d:Nat) (t:Tb) (k:B8) (eb:Nat) (e:En):shT d (AM t k eb e)=⟨t.b,t.m,t.hd,d,t.es.map shK++[(k,eb,shE e)]⟩::(Cn d t.es++AL d e):=by
 unfold AM;rw[shT,List.map_append,U9,Cn,Cn,List.append_nil];rfl
theorem BP (d:Nat) (t:Tb):shT d t=⟨t.b,t.m,t.hd,d,t.es.map shK⟩::Cn d t.es:=by cases t;rfl
def EQ (k:B8):List (B8×Nat×ShE)->Option (Nat×ShE)
 | []=>none
 | (k',p)::r=>if k=k' then some p else EQ k r
theorem Fj (k:B8):∀es:List Kn,EQ k (es.map shK)=(Aj k es).map λp=>(p.1,shE p.2)
 | []=>rfl
 | .mk k' eb e::r=>by
  rw[List.map_cons,Aj];show(if k=k' then some (eb,shE e)else EQ k (r.map shK))=_;by_cases hk:k=k'
  ·rw[if_pos hk,if_pos hk];rfl
  ·rw[if_neg hk,if_neg hk,Fj k r]
theorem Ol {k k2:B8} {p:Nat×ShE}:∀{es:List (B8×Nat×ShE)},EQ k2 (es++[(k,p)])=match EQ k2 es with | some q=>some q | none=>if k2=k then some p else none
 | []=>by simp[EQ]
 | (k',q)::r=>by
  rw[List.cons_append,EQ,EQ];split
  ·rfl
  ·exact Ol
def bxS (s:Sh):List Nat:=s.b::s.m::s.es.map λx=>x.2.1
def bxL (L:List Sh):List Nat:=L.flatMap bxS
theorem Ap (A B:List Sh):bxL (A++B)=bxL A++bxL B:=by unfold bxL;rw[List.flatMap_append]
theorem Az (s:Sh) (L:List Sh):bxL (s::L)=bxS s++bxL L:=by unfold bxL;rw[List.flatMap_cons]
theorem Bw {x:Nat} {s:Sh} {L:List Sh} (hs:s∈L) (hx:x∈bxS s):x∈bxL L:=List.mem_flatMap.2 ⟨s,hs,hx⟩
end Go.TVF
end
namespace Go.TVF
open Go.IntKind(i64 u8)
open Go Go.Proofs
def BT:TV->Option Nat
 | .list _ (.own id) _ _=>some id
 | _=>none
def ED (v:TV) (xs:List TV):Prop:=(v= .nilSlice/\xs=[])∨∃tip,v= .list 1 tip xs.length xs/\(tip= .full∨∃id,tip= .own id)
theorem ED.nil:ED .nilSlice []:= .inl ⟨rfl,rfl⟩
theorem ED.sl {v:TV} {xs:List TV} (h:ED v xs):isSl v=true:=by
 rcases h with⟨rfl,_⟩ | ⟨tip,rfl,_⟩<;>rfl
theorem ED.len {v:TV} {xs:List TV} (h:ED v xs):lenS v=xs.length:=by
 rcases h with⟨rfl,rfl⟩ | ⟨tip,rfl,_⟩<;>rfl
theorem ED.lenZ {v:TV} {xs:List TV} (h:ED v xs):lenZ 1 v=xs.length:=by
 rcases h with⟨rfl,rfl⟩ | ⟨tip,rfl,_⟩<;>rfl
theorem Rj {T bytes:Nat} {st:St} {v y:TV} {xs:List TV} {K:TV->St->Prop} (h:ED v xs) (ht:∀id,BT v=some id->id<st.nt/\st.live id=true) (hby:(xs.length+1)*bytes<=140737488355328)
  (hK:∀v' st',ED v' (xs++[y])->BT v'=some st.nt->st'.box=st.box->st'.nb=st.nb->st'.bt=st.bt->st'.nt=st.nt+1->st'.live st.nt=true->(∀i,i<st.nt->BT v≠some i->st'.live i=st.live i)->K v' st'):
  Bn T 1 bytes v 1 [y] st K:=by
 rcases h with⟨rfl,rfl⟩ | ⟨tip,rfl,rfl | ⟨id,rfl⟩⟩
 ·simp only[Bn]
  refine Aa (by rw[Nat.ble_eq];simpa using hby) (hK _ _ (.inr ⟨.own st.nt,rfl,.inr ⟨_,rfl⟩⟩) rfl rfl rfl rfl rfl (by simp[St.fresh]) λi hi _=>?_);simp only[St.fresh];rw[if_neg (by omega)]
 ·simp only[Bn,Nat.beq_refl]
  refine⟨hby,hK _ _ (.inr ⟨.own st.nt,by simp,.inr ⟨_,rfl⟩⟩) rfl rfl rfl rfl rfl (by simp[St.fresh]) λi hi _=>?_⟩;simp only[St.fresh];rw[if_neg (by omega)]
 ·obtain⟨h1,h2⟩:=ht id rfl
  simp only[Bn,Nat.beq_refl];refine⟨hby,h2,hK _ _ (.inr ⟨.own st.nt,by simp,.inr ⟨_,rfl⟩⟩) rfl rfl rfl rfl rfl (by simp[St.fresh,St.retire]) λi hi hne=>?_⟩;have h3:i≠id:=λe=>hne (by rw[e];rfl);have h4:i≠st.nt:=by omega
  simp[St.fresh,St.retire,h3,h4]
theorem Tm {t m e d:Nat} {kv:TV} {ks:List B8} {key:B8} {es:List (B8×TV)} {st:St} {K:St->Prop} (hb:st.box t= .cells [kv,.map m,.int .i64 d]) (hm:st.box m= .map es)
  (hr:ED kv (ks.map TV.str)) (ht:∀id,BT kv=some id->id<st.nt/\st.live id=true) (hl:ks.length<=1000000)
  (hk:∀kv' st',ED kv' ((ks++[key]).map TV.str)->BT kv'=some st.nt->st'.box=(λx=>if x=m then .map (Gk key (.box e 0) es)else if x=t then .cells [kv',.map m,.int .i64 d]else st.box x)->st'.nb=st.nb->st'.bt=st.bt->st'.nt=st.nt+1->
   st'.live st.nt=true->(∀i,i<st.nt->BT kv≠some i->st'.live i=st.live i)->K st'):
  CallT PR Bh [.box t 0,.str key,.box e 0] [] st K:=by
 have hmt:m≠t:=λh=>by rw[h,hb]at hm;cases hm
 refine Kl t key e st K (Ac (x:=kv) (by simp only[Af,hb];rfl) (Rj hr ht (by rw[List.length_map];omega) λv' st1 h1 h2 h3 h4 h5 h6 h7 h8=>?_));have h1':Av v'=true:=by
  rcases h1 with⟨_,hx⟩ | ⟨tip,h9,_⟩
  ·simp at hx
  ·rw[h9];rfl
 refine Aa (by simp[h1']) ?_;have hb1:st1.box t= .cells [kv,.map m,.int .i64 d]:=by rw[h3];exact hb
 refine⟨_,hb1,by simp,?_⟩;refine Ac (x:= .map m) (by simp[Af,St.put,setAll]) ?_;refine⟨es,by simp only[St.put];rw[if_neg hmt,h3];exact hm,?_⟩;refine hk v' _ (by rw[List.map_append];exact h1) h2 ?_ h4 h5 h6 h7 h8;funext x;simp only[St.put,h3,setAll];rfl
theorem allC {st:St} {up:List (Nat×TV)} (h:∀p,p∈up->Au st p.1=true):(up.all λp=>Au st p.1)=true:=List.all_eq_true.2 h
theorem Of {st:St} {ub k:Nat} {up:List (Nat×TV)} (hu:st.box ub= .pmap up) (h:∀p,p∈up->Au st p.1=true) (hk:Au st k=true):Qu st (.map ub) (.box k 0)=some (up,k):=by
 simp only[Qu,Qr,hu,pkey,Nat.beq_refl,hk,allC h];rfl
theorem Lq {bb ub d:Nat} {r n:TV} {nodes:Int} {up:List (Nat×TV)} {st:St} {K:TV->St->Prop} (hb:st.box bb= .cells [r,n,.map ub,.int .i64 nodes]) (hu:st.box ub= .pmap up) (hbb:bb<st.nb) (hub:ub<st.nb)
  (hc:∀p,p∈up->Au st p.1=true/\p.1<st.nb) (hn:0<=nodes/\nodes<1000000000)
  (hk:∀st',st'.nb=st.nb+2->st'.box=(λx=>if x=bb then .cells [r,n,.map ub,.int .i64 (nodes+1)]else if x=ub then .pmap (GS (st.nb+1) (.bool true) up)else if x=st.nb+1 then .cells [.nilSlice,.map st.nb,.int .i64 d]else if x=st.nb then .map []else st.box x)->
   st'.nt=st.nt->st'.live=st.live->K (.box (st.nb+1) 0) st'):
  CallT PR AJ [.box bb 0,.int .i64 d] [.one .tv] st K:=by
 have hbu:ub≠bb:=λh=>by rw[h,hb]at hu;cases hu
 have e1:bb≠st.nb:=by omega
 have e2:bb≠st.nb+1:=by omega
 have e3:ub≠st.nb:=by omega
 have e4:ub≠st.nb+1:=by omega
 refine Il bb d st K (Aa rfl (Ac (x:= .map ub) (by simp[Af,St.push,e1,e2,hb]) ?_));have hg:Qu ((st.push (.map []) none).push (.cells [.nilSlice,.map st.nb,.int .i64 d]) (some 210)) (.map ub) (.box (st.nb+1) 0)=some (up,st.nb+1):=by
  refine Of (by simp[St.push,e3,e4,hu]) (λp hp=>?_) (by simp[Au,St.push]);obtain⟨h1,h2⟩:=hc p hp;have h3:p.1≠st.nb:=by omega
  have h4:p.1≠st.nb+1:=by omega
  simp only[Au]at h1;simp[Au,St.push,h3,h4,h1]
 refine Ac hg ?_;refine Ac (x:= .int .i64 nodes) (by simp[Af,St.push,St.put,KI,Ne.symm hbu,e1,e2,hb]) (Am ?_);refine⟨[r,n,.map ub,.int .i64 nodes],by simp[St.push,St.put,KI,Ne.symm hbu,e1,e2,hb],by simp,?_⟩;rw[Ah _ (by omega) (by omega)];refine hk _ rfl ?_ rfl rfl;funext x;simp only[St.push,St.put,KI,setAll];rfl
def z13:List TV:=AQ scO .nilSlice .nilSlice .nilSlice
def Pu (σ:Nat->TV) (st:St) (eb:Nat):ShE->Prop
 | .opn b=>st.box eb= .cells (.box b 0:: .nilSlice::(z13++[.int .i64 0]))/\BT (σ eb)=none
 | .lst bs=>ED (σ eb) (bs.map λb=> .box b 0)/\bs≠ []/\st.box eb= .cells (.nilPtr::σ eb::(z13++[.int .i64 0]))
 | .clo v i=>∃cs,VlR St.zero v cs/\cs.length=13/\st.box eb= .cells (.nilPtr:: .nilSlice::(cs++[.int .i64 i]))/\BT (σ eb)=none
structure Rq (σ:Nat->TV) (st:St) (s:Sh):Prop where
 cell:st.box s.b= .cells [σ s.b,.map s.m,.int .i64 s.d]
 row:ED (σ s.b) ((s.es.map λx=>x.1).map TV.str)
 mp:∃mp,st.box s.m= .map mp/\∀k,AG k mp=(EQ k s.es).map λp=> .box p.1 0
 en:∀x,x∈s.es->Pu σ st x.2.1 x.2.2
structure HP (σ:Nat->TV) (st:St) (L:List Sh):Prop where
 nd:(bxL L).Nodup
 lt:∀x,x∈bxL L->x<st.nb
 sh:∀s,s∈L->Rq σ st s
 tip:∀x,x∈bxL L->∀id,BT (σ x)=some id->id<st.nt/\st.live id=true
 td:∀x,x∈bxL L->∀y,y∈bxL L->x≠y->∀id,BT (σ x)=some id->BT (σ y)≠some id
theorem Pu.fr {σ σ':Nat->TV} {st st':St} {eb:Nat} {e:ShE} (h:Pu σ st eb e) (hb:st'.box eb=st.box eb) (hs:σ' eb=σ eb):Pu σ' st' eb e:=by
 cases e with
 | opn b=>unfold Pu at h⊢;rw[hb,hs];exact h
 | lst bs=>unfold Pu at h⊢;rw[hb,hs];exact h
 | clo v i=>unfold Pu at h⊢;rw[hb,hs];exact h
theorem Dx {s:Sh} {x:B8×Nat×ShE} (h:x∈s.es):x.2.1∈bxS s:= .tail _ (.tail _ (List.mem_map.2 ⟨x,h,rfl⟩))
theorem Rq.fr {σ σ':Nat->TV} {st st':St} {s:Sh} (h:Rq σ st s) (hb:∀x,x∈bxS s->st'.box x=st.box x/\σ' x=σ x):Rq σ' st' s:=by
 have h1:=hb s.b (.head _);have h2:=hb s.m (.tail _ (.head _));exact⟨by rw[h1.1,h1.2];exact h.cell,by rw[h1.2];exact h.row,by rw[h2.1];exact h.mp,λx hx=>(h.en x hx).fr (hb _ (Dx hx)).1 (hb _ (Dx hx)).2⟩
theorem EO {A X B:List Sh} (h:(bxL (A++(X++B))).Nodup):(bxL A++bxL B).Nodup/\(bxL X).Nodup/\∀x,x∈bxL X->x∉bxL A/\x∉bxL B:=by
 rw[Ap,Ap]at h;obtain⟨h1,h2,h3⟩:=List.nodup_append.1 h;obtain⟨h4,h5,h6⟩:=List.nodup_append.1 h2;exact⟨List.nodup_append.2 ⟨h1,h5,λa ha b hb=>h3 a ha b (List.mem_append_right _ hb)⟩,h4,λx hx=>⟨λha=>h3 x ha x (List.mem_append_left _ hx) rfl,λhb=>h6 x hx x hb rfl⟩⟩
theorem HP.upd {σ σ':Nat->TV} {st st':St} {A X X' B:List Sh} (h:HP σ st (A++(X++B))) (hnb:st.nb<=st'.nb)
  (hbx:∀x,x∈bxL A∨x∈bxL B->st'.box x=st.box x/\σ' x=σ x)
  (hlv:∀x,x∈bxL A∨x∈bxL B->∀id,BT (σ x)=some id->id<st'.nt/\st'.live id=true)
  (hX:∀s,s∈X'->Rq σ' st' s) (hnd:(bxL X').Nodup) (hnew:∀x,x∈bxL X'->x<st'.nb/\(x∈bxL X∨st.nb<=x))
  (htip:∀x,x∈bxL X'->∀id,BT (σ' x)=some id->id<st'.nt/\st'.live id=true/\((∃y,y∈bxL X/\BT (σ y)=some id)∨st.nt<=id))
  (htd:∀x,x∈bxL X'->∀y,y∈bxL X'->x≠y->∀id,BT (σ' x)=some id->BT (σ' y)≠some id):HP σ' st' (A++(X'++B)):=by
 obtain⟨n1,n2,n3⟩:=EO h.nd;have mA:∀{x},x∈bxL A->x∈bxL (A++(X++B)):=λhx=>by rw[Ap];exact List.mem_append_left _ hx
 have mB:∀{x},x∈bxL B->x∈bxL (A++(X++B)):=λhx=>by rw[Ap,Ap];exact List.mem_append_right _ (List.mem_append_right _ hx)
 have mX:∀{x},x∈bxL X->x∈bxL (A++(X++B)):=λhx=>by rw[Ap,Ap];exact List.mem_append_right _ (List.mem_append_left _ hx)
 have mAB:∀{x},x∈bxL A∨x∈bxL B->x∈bxL (A++(X++B)):=λhx=>hx.elim mA mB;have dAB:∀{x},x∈bxL X'->¬(x∈bxL A∨x∈bxL B):=λ{x} hx hm=>by
  rcases (hnew x hx).2 with h1 | h1
  ·exact hm.elim (n3 x h1).1 (n3 x h1).2
  ·have:=h.lt x (mAB hm);omega
 have tAB:∀{x y},x∈bxL X'->(y∈bxL A∨y∈bxL B)->∀{id},BT (σ' x)=some id->BT (σ y)=some id->False:=λ{x y} hx hy {id} h1 h2=>by
  rcases (htip x hx id h1).2.2 with⟨z,hz,h3⟩ | h3
  ·exact h.td z (mX hz) y (mAB hy) (λe=>by subst e;exact hy.elim (n3 z hz).1 (n3 z hz).2) id h3 h2
  ·have:=(h.tip y (mAB hy) id h2).1;omega
 have spl:∀{x},x∈bxL (A++(X'++B))->(x∈bxL A∨x∈bxL B)∨x∈bxL X':=λ{x} hx=>by
  rw[Ap,Ap]at hx;rcases List.mem_append.1 hx with h1 | h1
  ·exact .inl (.inl h1)
  ·rcases List.mem_append.1 h1 with h2 | h2
   ·exact .inr h2
   ·exact .inl (.inr h2)
 refine⟨?_,λx hx=>?_,λs hs=>?_,λx hx id hid=>?_,λx hx y hy hne id h1 h2=>?_⟩
 ·rw[Ap,Ap]
  obtain⟨a1,a2,a3⟩:=List.nodup_append.1 n1;refine List.nodup_append.2 ⟨a1,List.nodup_append.2 ⟨hnd,a2,λx hx y hy e=>dAB hx (.inr (by rw[e];exact hy))⟩,λx hx y hy e=>?_⟩;rcases List.mem_append.1 hy with h1 | h1
  ·exact dAB h1 (.inl (by rw[<-e];exact hx))
  ·exact a3 x hx y h1 e
 ·rcases spl hx with h1 | h1
  ·exact Nat.lt_of_lt_of_le (h.lt x (mAB h1)) hnb
  ·exact(hnew x h1).1
 ·rcases List.mem_append.1 hs with h1 | h1
  ·exact(h.sh s (List.mem_append_left _ h1)).fr λx hx=>hbx x (.inl (Bw h1 hx))
  ·rcases List.mem_append.1 h1 with h2 | h2
   ·exact hX s h2
   ·exact(h.sh s (List.mem_append_right _ (List.mem_append_right _ h2))).fr λx hx=>hbx x (.inr (Bw h2 hx))
 ·rcases spl hx with h1 | h1
  ·exact hlv x h1 id ((hbx x h1).2▸hid)
  ·exact⟨(htip x h1 id hid).1,(htip x h1 id hid).2.1⟩
 ·rcases spl hx with h3 | h3<;>rcases spl hy with h4 | h4
  ·exact h.td x (mAB h3) y (mAB h4) hne id ((hbx x h3).2▸h1) ((hbx y h4).2▸h2)
  ·exact tAB h4 h3 h2 ((hbx x h3).2▸h1)
  ·exact tAB h3 h4 h1 ((hbx y h4).2▸h2)
  ·exact htd x h3 y h4 hne id h1 h2
theorem HP.add {σ σ':Nat->TV} {st st':St} {A R N B:List Sh} {s:Sh} {k:B8} {eb:Nat} {e:ShE} (h:HP σ st (A++((s::R)++B))) (hnb:st.nb<=st'.nb)
  (hbx:∀x,x∈bxL (A++((s::R)++B))->x≠s.b->x≠s.m->st'.box x=st.box x/\σ' x=σ x)
  (hlv:∀x,x∈bxL (A++((s::R)++B))->x≠s.b->∀id,BT (σ x)=some id->id<st'.nt/\st'.live id=true)
  (hc:st'.box s.b= .cells [σ' s.b,.map s.m,.int .i64 s.d]) (hr:ED (σ' s.b) (((s.es++[(k,eb,e)]).map λx=>x.1).map TV.str))
  (hm:∃mp,st.box s.m= .map mp/\st'.box s.m= .map (Gk k (.box eb 0) mp)) (hsm:σ' s.m=σ s.m) (hk:EQ k s.es=none) (he:Pu σ' st' eb e)
  (hN:∀s',s'∈N->Rq σ' st' s') (hnd:(eb::bxL N).Nodup) (hnew:∀x,x∈eb::bxL N->st.nb<=x/\x<st'.nb)
  (htip:∀x,x∈s.b::eb::bxL N->∀id,BT (σ' x)=some id->st.nt<=id/\id<st'.nt/\st'.live id=true)
  (htd:∀x,x∈s.b::eb::bxL N->∀y,y∈s.b::eb::bxL N->x≠y->∀id,BT (σ' x)=some id->BT (σ' y)≠some id):
  HP σ' st' (A++((⟨s.b,s.m,s.hd,s.d,s.es++[(k,eb,e)]⟩::(R++N))++B)):=by
 obtain⟨n1,n2,n3⟩:=EO h.nd;have hin:∀{x},x∈bxL (s::R)->x∈bxL (A++((s::R)++B)):=λhx=>by rw[Ap,Ap];exact List.mem_append_right _ (List.mem_append_left _ hx)
 have hsR:s∈A++((s::R)++B):=List.mem_append_right _ (List.mem_append_left _ (.head _));have hsb:s.b∈bxL (s::R):=by rw[Az];exact List.mem_append_left _ (.head _)
 have hsmm:s.m∈bxL (s::R):=by rw[Az];exact List.mem_append_left _ (.tail _ (.head _))
 have hS:=h.sh s hsR;rw[Az]at n2;obtain⟨m1,m2,m3⟩:=List.nodup_append.1 n2;have hbm:s.m≠s.b:=λe=>by
  have:=hS.cell;obtain⟨mp,h1,_⟩:=hS.mp;rw[e,this]at h1;cases h1
 have eE:bxL (⟨s.b,s.m,s.hd,s.d,s.es++[(k,eb,e)]⟩::(R++N))=(s.b::s.m::(s.es.map (λx=>x.2.1)++[eb]))++(bxL R++bxL N):=by
  rw[Az,Ap];show(s.b::s.m::(s.es++[(k,eb,e)]).map (λx=>x.2.1))++_=_;rw[List.map_append];rfl
 have mem':∀{x},x∈bxL (⟨s.b,s.m,s.hd,s.d,s.es++[(k,eb,e)]⟩::(R++N))->x∈bxL (s::R)∨x∈eb::bxL N:=λ{x} hx=>by
  rw[eE]at hx;rw[Az];rcases List.mem_append.1 hx with h1 | h1
  ·rcases List.mem_cons.1 h1 with rfl | h1
   ·exact .inl (List.mem_append_left _ (.head _))
   ·rcases List.mem_cons.1 h1 with rfl | h1
    ·exact .inl (List.mem_append_left _ (.tail _ (.head _)))
    ·rcases List.mem_append.1 h1 with h2 | h2
     ·exact .inl (List.mem_append_left _ (.tail _ (.tail _ h2)))
     ·rw[List.mem_singleton.1 h2];exact .inr (.head _)
  ·rcases List.mem_append.1 h1 with h2 | h2
   ·exact .inl (List.mem_append_right _ h2)
   ·exact .inr (.tail _ h2)
 have old:∀{x},x∈bxL (s::R)->x≠s.b->σ' x=σ x:=λ{x} hx hne=>by
  by_cases hxm:x=s.m
  ·rw[hxm];exact hsm
  ·exact(hbx x (hin hx) hne hxm).2
 have hRes:∀s',s'∈R->∀x,x∈bxS s'->st'.box x=st.box x/\σ' x=σ x:=λs' hs' x hx=>by
  have hxR:x∈bxL R:=Bw hs' hx;refine hbx x (hin (by rw[Az];exact List.mem_append_right _ hxR)) (λe=>?_) λe=>?_
  ·exact m3 s.b (.head _) x hxR e.symm
  ·exact m3 s.m (.tail _ (.head _)) x hxR e.symm
 refine h.upd hnb (λx hx=>?_) (λx hx id hid=>?_) (λs' hs'=>?_) ?_ (λx hx=>?_) (λx hx id hid=>?_) λx hx y hy hne id h1 h2=>?_
 ·have hx':x∈bxL (A++((s::R)++B)):=by
   rw[Ap,Ap];exact hx.elim (λh=>List.mem_append_left _ h) λh=>List.mem_append_right _ (List.mem_append_right _ h)
  refine hbx x hx' (λe=>?_) λe=>?_
  ·subst e;exact hx.elim (n3 _ hsb).1 (n3 _ hsb).2
  ·subst e;exact hx.elim (n3 _ hsmm).1 (n3 _ hsmm).2
 ·have hx':x∈bxL (A++((s::R)++B)):=by
   rw[Ap,Ap];exact hx.elim (λh=>List.mem_append_left _ h) λh=>List.mem_append_right _ (List.mem_append_right _ h)
  exact hlv x hx' (λe=>by subst e;exact hx.elim (n3 _ hsb).1 (n3 _ hsb).2) id hid
 ·rcases List.mem_cons.1 hs' with rfl | hs'
  ·refine⟨hc,hr,?_,λx hx=>?_⟩
   ·obtain⟨mp,h1,h2⟩:=hm
    obtain⟨mp2,h3,h4⟩:=hS.mp;rw[h3]at h1;cases h1;refine⟨_,h2,λk2=>?_⟩;rw[Hz,h4 k2,Ol];by_cases hkk:k2=k
    ·subst hkk;rw[if_pos rfl,hk,if_pos rfl];rfl
    ·rw[if_neg hkk,if_neg hkk]
     cases EQ k2 s.es<;>rfl
   ·rcases List.mem_append.1 hx with h1 | h1
    ·have hxb:x.2.1∈s.es.map λx=>x.2.1:=List.mem_map.2 ⟨x,h1,rfl⟩
     have hxn:x.2.1≠s.b:=λe=>by
      have:=(List.nodup_cons.1 m1).1;exact this (.tail _ (e▸hxb))
     have hxm:x.2.1≠s.m:=λe=>by
      have:=(List.nodup_cons.1 (List.nodup_cons.1 m1).2).1;exact this (e▸hxb)
     have:=hbx x.2.1 (Bw hsR (Dx h1)) hxn hxm;exact(hS.en x h1).fr this.1 this.2
    ·rw[List.mem_singleton.1 h1];exact he
  ·rcases List.mem_append.1 hs' with h1 | h1
   ·exact(h.sh s' (List.mem_append_right _ (List.mem_append_left _ (.tail _ h1)))).fr (hRes s' h1)
   ·exact hN s' h1
 ·have hlt:∀{x},x∈bxS s++bxL R->x<st.nb:=λhx=>h.lt _ (hin (by rw[Az];exact hx))
  obtain⟨q1,q2⟩:=List.nodup_cons.1 hnd;have e2:bxS s=s.b::s.m::s.es.map λx=>x.2.1:=rfl;rw[eE];refine List.nodup_append.2 ⟨?_,List.nodup_append.2 ⟨m2,q2,λx hx y hy e=>?_⟩,λx hx y hy e=>?_⟩
  ·have e3:s.b::s.m::(s.es.map (λx=>x.2.1)++[eb])=bxS s++[eb]:=rfl
   rw[e3];refine List.nodup_append.2 ⟨m1,by simp,λx hx y hy e=>?_⟩;rw[List.mem_singleton.1 hy]at e;have h1:=hlt (List.mem_append_left _ hx);have h2:=(hnew eb (.head _)).1;omega
  ·have h1:=hlt (List.mem_append_right _ hx)
   have h2:=(hnew y (.tail _ hy)).1;omega
  ·have e3:s.b::s.m::(s.es.map (λx=>x.2.1)++[eb])=bxS s++[eb]:=rfl
   rw[e3]at hx;subst e;rcases List.mem_append.1 hx with h1 | h1
   ·rcases List.mem_append.1 hy with h2 | h2
    ·exact m3 x h1 x h2 rfl
    ·have h3:=hlt (List.mem_append_left _ h1)
     have h4:=(hnew x (.tail _ h2)).1;omega
   ·have h5:=List.mem_singleton.1 h1
    subst h5;rcases List.mem_append.1 hy with h2 | h2
    ·have h3:=hlt (List.mem_append_right _ h2)
     have h4:=(hnew x (.head _)).1;omega
    ·exact q1 h2
 ·rcases mem' hx with h1 | h1
  ·exact⟨Nat.lt_of_lt_of_le (h.lt x (hin h1)) hnb,.inl h1⟩
  ·exact⟨(hnew x h1).2,.inr (hnew x h1).1⟩
 ·rcases mem' hx with h1 | h1
  ·by_cases hxb:x=s.b
   ·subst hxb
    have:=htip _ (.head _) id hid;exact⟨this.2.1,this.2.2,.inr this.1⟩
   ·rw[old h1 hxb]at hid
    have:=hlv x (hin h1) hxb id hid;exact⟨this.1,this.2,.inl ⟨x,h1,hid⟩⟩
  ·have:=htip x (.tail _ h1) id hid
   exact⟨this.2.1,this.2.2,.inr this.1⟩
 ·have cl:∀{x},x∈bxL (s::R)∨x∈eb::bxL N->(x∈s.b::eb::bxL N)∨(x∈bxL (s::R)/\x≠s.b):=λ{x} hx=>by
   rcases hx with h3 | h3
   ·by_cases hxb:x=s.b
    ·rw[hxb];exact .inl (.head _)
    ·exact .inr ⟨h3,hxb⟩
   ·exact .inl (.tail _ h3)
  rcases cl (mem' hx)with h3 | ⟨h3,h3'⟩<;>rcases cl (mem' hy)with h4 | ⟨h4,h4'⟩
  ·exact htd x h3 y h4 hne id h1 h2
  ·have g1:=(htip x h3 id h1).1
   rw[old h4 h4']at h2;have g2:=(h.tip y (hin h4) id h2).1;omega
  ·have g1:=(htip y h4 id h2).1
   rw[old h3 h3']at h1;have g2:=(h.tip x (hin h3) id h1).1;omega
  ·rw[old h3 h3']at h1
   rw[old h4 h4']at h2;exact h.td x (hin h3) y (hin h4) hne id h1 h2
end Go.TVF
section
namespace Go.TVF
open Go.IntKind(i64 u8)
structure Chg (v v' u u':Vl) (g:Nat):Prop where
 cnt:v'.cnt+u.cnt=v.cnt+u'.cnt
 sz:v'.sz+u.sz=v.sz+u'.sz
 lv:lvV v'<=max (lvV v) (g+lvV u')
 lvu:g+lvV u<=lvV v
 vu:AY v->AY u
 va:AY v->AY u'->AY v'
theorem Chg.refl (u u':Vl):Chg u u' u u' 0:=⟨by omega,by omega,by omega,by omega,id,λ_ h=>h⟩
theorem Chg.trans {v v' w w' u u':Vl} {g h:Nat} (a:Chg v v' w w' g) (b:Chg w w' u u' h):Chg v v' u u' (g+h):=
 ⟨by have:=a.cnt;have:=b.cnt;omega,by have:=a.sz;have:=b.sz;omega,by have:=a.lv;have:=b.lv;have:=a.lvu;omega,by have:=a.lvu;have:=b.lvu;omega,λx=>b.vu (a.vu x),λx y=>a.va x (b.va (a.vu x) y)⟩
theorem QE (l m:List Fd):Ds (l++m)=max (Ds l) (Ds m):=by
 induction l with
 | nil=>simp[Ds]
 | cons d r ih=>simp only[List.cons_append,Ds,ih];omega
theorem Nm (l m:List Vl):De (l++m)=max (De l) (De m):=by
 induction l with
 | nil=>simp[De]
 | cons d r ih=>simp only[List.cons_append,De,ih];omega
theorem Hg (l m:List Fd):Cc (l++m)↔Cc l/\Cc m:=by
 induction l with
 | nil=>simp[Cc]
 | cons d r ih=>simp only[List.cons_append,Cc,ih,and_assoc]
theorem Ji (l m:List Vl):BW (l++m)↔BW l/\BW m:=by
 induction l with
 | nil=>simp[BW]
 | cons d r ih=>simp only[List.cons_append,BW,ih,and_assoc]
theorem SE:∀(f f':List Fd) (seen:List B8),f.map Fd.key=f'.map Fd.key->ER seen f=ER seen f'
 | [],[],_,_=>rfl
 | [],d::r,_,h=>by simp at h
 | d::r,[],_,h=>by simp at h
 | d::r,d'::r',seen,h=>by
  rw[List.map_cons,List.map_cons,List.cons.injEq]at h;unfold ER;rw[h.1,SE r r' _ h.2]
theorem Qy {f f':List Fd} (h:K3 scM [] f) (hk:ER [] f'=0):K3 scM [] f':=
 ⟨⟨h.own.k0,h.own.k7,h.own.bo,h.own.nu,h.own.ti,h.own.tx,h.own.by_,h.own.ls,λh=>absurd rfl h⟩,h.dec,h.time,h.text,h.tlen,h.blen,hk⟩
theorem one_list {l l':List Vl} (h:K3 scL l []):K3 scL l' []:=
 ⟨⟨h.own.k0,h.own.k7,h.own.bo,h.own.nu,h.own.ti,h.own.tx,h.own.by_,λh=>absurd rfl h,h.own.fs⟩,h.dec,h.time,h.text,h.tlen,h.blen,h.keys⟩
theorem Chg.fld (F G:List Fd) (k:B8) (u u':Vl):Chg (.mk scM [] (F++ .mk k u::G)) (.mk scM [] (F++ .mk k u'::G)) u u' 1:=by
 refine⟨?_,?_,?_,?_,λh=>?_,λh g=>?_⟩
 ·simp only[Vl.cnt,Ll,AX,Fd.cnt];omega
 ·simp only[Vl.sz,V1,Ev,Fd.sz];omega
 ·simp only[lvV,QE,Ds,lvD];omega
 ·simp only[lvV,QE,Ds,lvD];omega
 ·unfold AY at h
  have:=((Hg _ _).1 h.2.2).2;unfold Cc HF at this;exact this.1
 ·unfold AY at h⊢
  obtain⟨h1,h2,h3⟩:=h;obtain⟨h4,h5⟩:=(Hg _ _).1 h3;refine⟨Qy h1 ?_,h2,(Hg _ _).2 ⟨h4,?_⟩⟩
  ·rw[<-h1.keys];exact SE _ _ _ (by simp[Fd.key])
  ·unfold Cc HF at h5⊢;exact⟨g,h5.2⟩
theorem Chg.lst (A B:List Vl) (u u':Vl):Chg (.mk scL (A++u::B) []) (.mk scL (A++u'::B) []) u u' 1:=by
 refine⟨?_,?_,?_,?_,λh=>?_,λh g=>?_⟩
 ·simp only[Vl.cnt,Fc,AH];omega
 ·simp only[Vl.sz,UK,E5];omega
 ·simp only[lvV,Nm,De];omega
 ·simp only[lvV,Nm,De];omega
 ·unfold AY at h
  have:=((Ji _ _).1 h.2.1).2;unfold BW at this;exact this.1
 ·unfold AY at h⊢
  obtain⟨h1,h2,h3⟩:=h;obtain⟨h4,h5⟩:=(Ji _ _).1 h2;refine⟨one_list h1,(Ji _ _).2 ⟨h4,?_⟩,h3⟩;unfold BW at h5⊢;exact⟨g,h5.2⟩
theorem E7 {k:B8}:∀{es:List Kn} {eb:Nat} {e:En},Aj k es=some (eb,e)->∃F G,Bb es=F++ .mk k (AK e)::G/\∀x,Bb (BZ k x es)=F++ .mk k (AK x)::G
 | .mk k' eb' e'::r,eb,e,h=>by
  unfold Aj at h;by_cases hk:k=k'
  ·rw[if_pos hk]at h
   cases h;subst hk;exact⟨[],Bb r,by rw[Bb,List.nil_append],λx=>by rw[BZ,if_pos rfl,Bb,List.nil_append]⟩
  ·rw[if_neg hk]at h
   obtain⟨F,G,h1,h2⟩:=E7 h;exact⟨.mk k' (AK e')::F,G,by rw[Bb,h1];rfl,λx=>by rw[BZ,if_neg hk,Bb,h2 x];rfl⟩
theorem SG:∀{l:List Tb} {i:Nat} {u:Tb},l[i]? =some u->∃A B,BS l=A++Ae u::B/\∀x,BS (l.set i x)=A++Ae x::B
 | t::r,0,u,h=>by cases h;exact⟨[],BS r,by rw[BS,List.nil_append],λx=>by rw[List.set_cons_zero,BS,List.nil_append]⟩
 | t::r,i+1,u,h=>by
  obtain⟨A,B,h1,h2⟩:=SG (l:=r) (i:=i) (u:=u) (by simpa using h);exact⟨Ae t::A,B,by rw[BS,h1];rfl,λx=>by rw[List.set_cons_succ,BS,h2 x];rfl⟩
theorem Ck:∀(h:List Hop) {T t:Tb},atT T h=some t->∀t',Chg (Ae T) (Ae (AA T h t')) (Ae t) (Ae t') (dpH h)
 | [],T,t,hA,t'=>by cases T;cases hA;exact Chg.refl _ _
 | (k,none)::h,.mk b m hd es,t,hA,t'=>by
  rw[atT]at hA;rcases hl:Aj k es with _ | ⟨eb,u | l | ⟨v,i⟩⟩<;>rw[hl]at hA<;>simp only at hA<;>try (cases hA;done)
  obtain⟨F,G,h1,h2⟩:=E7 hl;have:=(Chg.fld F G k (Ae u) (Ae (AA u h t'))).trans (Ck h hA t');rw[AA,hl];simp only;rw[Ae,Ae,h1,h2,AK,AK,dpH,Nat.add_comm];exact this
 | (k,some j)::h,.mk b m hd es,t,hA,t'=>by
  rw[atT]at hA;rcases hl:Aj k es with _ | ⟨eb,u | l | ⟨v,i⟩⟩<;>rw[hl]at hA<;>simp only at hA<;>try (cases hA;done)
  cases hj:l[j]? with
  | none=>simp[hj]at hA
  | some u=>
  rw[hj]at hA;simp only at hA;obtain⟨F,G,h1,h2⟩:=E7 hl;obtain⟨A,B,h3,h4⟩:=SG hj;have:=((Chg.fld F G k (.mk scL (A++Ae u::B) []) (.mk scL (A++Ae (AA u h t')::B) [])).trans (Chg.lst A B _ _)).trans (Ck h hA t');rw[AA,hl];simp only[hj];rw[Ae,Ae,h1,h2,AK,AK,h3,h4,dpH,show dpH h+2=1+1+dpH h by omega];exact this
theorem Gz (t:Tb):Ae t= .mk scM [] (Bb t.es):=by cases t;rw[Ae];rfl
theorem M1 (t:Tb) (k:B8) (eb:Nat) (e:En):Ae (AM t k eb e)= .mk scM [] (Bb t.es++[.mk k (AK e)]):=by
 unfold AM;rw[Ae,N2,Bb,Bb]
theorem E3 (t:Tb) (k:B8) (eb:Nat) (e:En):(Ae (AM t k eb e)).cnt=(Ae t).cnt+(AK e).cnt:=by
 rw[M1,Gz t];simp only[Vl.cnt,Ll,AX,Fd.cnt];omega
theorem sz_add (t:Tb) (k:B8) (eb:Nat) (e:En):(Ae (AM t k eb e)).sz=(Ae t).sz+k.length+(AK e).sz:=by
 rw[M1,Gz t];simp only[Vl.sz,V1,Ev,Fd.sz];omega
theorem Mw (t:Tb) (k:B8) (eb:Nat) (e:En):lvV (Ae (AM t k eb e))=max (lvV (Ae t)) (1+lvV (AK e)):=by
 rw[M1,Gz t];simp only[lvV,QE,Ds,lvD];omega
theorem keys_val (es:List Kn):(Bb es).map Fd.key=es.map Kn.key:=by
 rw[K7,List.map_map];rfl
theorem Sd {t:Tb} {k:B8} {eb:Nat} {e:En} (h:AY (Ae t)) (hl:Aj k t.es=none) (h8:U8 k) (hk:k.length<=1024) (he:AY (AK e)):AY (Ae (AM t k eb e)):=by
 rw[Gz]at h;rw[M1];unfold AY at h⊢;obtain⟨h1,h2,h3⟩:=h;obtain⟨k1,k2⟩:=VR _ _ h1.keys;refine⟨Qy h1 (QP _ _ ?_ λd hd=>?_),h2,(Hg _ _).2 ⟨h3,?_⟩⟩
 ·unfold IG at k1⊢
  rw[List.map_append];refine List.nodup_append.2 ⟨k1,by simp,λx hx y hy e=>?_⟩;rw[keys_val]at hx;obtain⟨d,hd,rfl⟩:=List.mem_map.1 hx;simp only[List.map_cons,List.map_nil,List.mem_singleton]at hy;subst hy;exact My hl d hd e
 ·rcases List.mem_append.1 hd with h4 | h4
  ·exact k2 d h4
  ·rw[List.mem_singleton.1 h4];exact⟨by simp,h8,hk⟩
 ·unfold Cc HF Cc;exact⟨he,trivial⟩
theorem TQ (t:Tb):t.es.length<(Ae t).cnt:=by
 rw[Gz];have:∀es:List Kn,es.length<=AX (Bb es):=by
  intro es;induction es with
  | nil=>simp
  | cons d r ih=>
   obtain⟨k,eb,e⟩:=d;rw[Bb,AX,Fd.cnt,List.length_cons];have:1<=(AK e).cnt:=by cases AK e;unfold Vl.cnt;omega
   omega
 have:=this t.es;unfold Vl.cnt;omega
theorem ZP {T t:Tb} {h:List Hop} (hA:atT T h=some t):(Ae t).cnt<=(Ae T).cnt/\(Ae t).sz<=(Ae T).sz:=by
 have:=Ck h hA (.mk 0 0 false []);have h1:=this.cnt;have h2:=this.sz;have h3:(Ae (.mk 0 0 false [])).cnt=1:=by rw[Ae,Bb];simp[Vl.cnt,AH,AX]
 have h4:(Ae (.mk 0 0 false [])).sz=1:=by rw[Ae,Bb];simp[Vl.sz,E5,Ev,scM]
 have h5:1<=(Ae (AA T h (.mk 0 0 false []))).cnt:=by cases Ae (AA T h (.mk 0 0 false []));unfold Vl.cnt;omega
 have h6:=(Ae (AA T h (.mk 0 0 false []))).sz_pos;omega
end Go.TVF
end
namespace Go.TVF
open Go.IntKind(i64 u8)
open Go Go.Proofs
theorem TJ {a b:Nat} (h:a≠b):Nat.beq a b=false:=by rw[Bool.eq_false_iff];exactλe=>h (Nat.eq_of_beq_eq_true e)
theorem F0 (k k':Nat) (v:TV):∀es:List (Nat×TV),CF k (GS k' v es)=if k=k' then some v else CF k es
 | []=>by
  unfold GS CF;by_cases h:k=k'
  ·subst h;simp[CF]
  ·have:Nat.beq k k'=false:=TJ (h)
   rw[this,if_neg h];rfl
 | (k2,v2)::es=>by
  unfold GS;by_cases h2:k'=k2
  ·subst h2
   rw[Nat.beq_refl];by_cases h:k=k'
   ·subst h;simp[CF]
   ·have:Nat.beq k k'=false:=TJ (h)
    simp only[CF,this,if_neg h]
  ·have e:Nat.beq k' k2=false:=TJ (h2)
   rw[e];simp only[CF];by_cases h:k=k2
   ·subst h;rw[Nat.beq_refl,if_neg (λg=>h2 g.symm)]
   ·have:Nat.beq k k2=false:=TJ (h)
    rw[this];simp only;exact F0 k k' v es
theorem Na (k:Nat) (v:TV):∀es:List (Nat×TV),∀p,p∈GS k v es->p=(k,v)∨p∈es
 | [],p,h=> .inl (List.mem_singleton.1 h)
 | (k2,v2)::es,p,h=>by
  unfold GS at h;cases hb:Nat.beq k k2 with
  | true=>
   rw[hb]at h;rcases List.mem_cons.1 h with rfl | h
   ·exact .inl rfl
   ·exact .inr (.tail _ h)
  | false=>
   rw[hb]at h;rcases List.mem_cons.1 h with rfl | h
   ·exact .inr (.head _)
   ·exact(Na k v es p h).imp id (.tail _)
theorem La (k:Nat) (v:TV):∀es:List (Nat×TV),(∀p,p∈es->p.1≠k)->(GS k v es).map Prod.fst=es.map Prod.fst++[k]
 | [],_=>rfl
 | (k2,v2)::es,h=>by
  have h2:=h (k2,v2) (.head _);have e:Nat.beq k k2=false:=TJ (Ne.symm h2);unfold GS;rw[e];simp only[List.map_cons,List.cons_append];rw[La k v es λp hp=>h p (.tail _ hp)]
theorem Q4 (k:Nat):∀es:List (Nat×TV),∀p,p∈JG k es->p∈es
 | [],p,h=>by cases h
 | (k2,v2)::es,p,h=>by
  unfold JG at h;cases hb:Nat.beq k k2 with
  | true=>rw[hb]at h;exact .tail _ h
  | false=>
   rw[hb]at h;rcases List.mem_cons.1 h with rfl | h
   ·exact .head _
   ·exact .tail _ (Q4 k es p h)
theorem ZB (k:Nat):∀es:List (Nat×TV),(es.map Prod.fst).Nodup->((JG k es).map Prod.fst).Nodup
 | [],_=>List.nodup_nil
 | (k2,v2)::es,h=>by
  rw[List.map_cons,List.nodup_cons]at h;unfold JG;cases hb:Nat.beq k k2 with
  | true=>exact h.2
  | false=>
   simp only[List.map_cons,List.nodup_cons];refine⟨λhm=>?_,ZB k es h.2⟩;obtain⟨p,hp,he⟩:=List.mem_map.1 hm;exact h.1 (List.mem_map.2 ⟨p,Q4 k es p hp,he⟩)
theorem QV {k:Nat}:∀{es:List (Nat×TV)},k∉es.map Prod.fst->CF k es=none
 | [],_=>rfl
 | (k2,v2)::es,h=>by
  rw[List.map_cons,List.mem_cons,not_or]at h;have:Nat.beq k k2=false:=TJ (h.1);simp only[CF,this];exact QV h.2
theorem Ot (k k':Nat):∀es:List (Nat×TV),(es.map Prod.fst).Nodup->CF k (JG k' es)=if k=k' then none else CF k es
 | [],_=>by unfold JG CF;split<;>rfl
 | (k2,v2)::es,h=>by
  rw[List.map_cons,List.nodup_cons]at h;unfold JG;by_cases h2:k'=k2
  ·subst h2
   rw[Nat.beq_refl];by_cases hk:k=k'
   ·subst hk;rw[if_pos rfl];exact QV h.1
   ·have:Nat.beq k k'=false:=TJ (hk)
    simp only[CF,this,if_neg hk]
  ·have e:Nat.beq k' k2=false:=TJ (h2)
   rw[e];simp only[CF];by_cases hk:k=k2
   ·subst hk;rw[Nat.beq_refl,if_neg (λg=>h2 g.symm)]
   ·have:Nat.beq k k2=false:=TJ (hk)
    rw[this];simp only;exact Ot k k' es h.2
structure Un (ub:Nat) (L:List Sh) (st:St) (up:List (Nat×TV)):Prop where
 box:st.box ub= .pmap up
 nd:(up.map Prod.fst).Nodup
 ok:∀p,p∈up->Au st p.1=true/\p.1<st.nb
 fd:∀s,s∈L->CF s.b up=if s.hd=true then none else some (.bool true)
structure BH (bb ub:Nat) (now:TV) (T:Tb) (nodes:Nat) (σ:Nat->TV) (st:St):Prop where
 hp:HP σ st (shT 1 T)
 cell:st.box bb= .cells [.box T.b 0,now,.map ub,.int .i64 nodes]
 un:∃up,Un ub (shT 1 T) st up
 bl:bb<st.nb
 ul:ub<st.nb
 bx:bb∉bxL (shT 1 T)
 ux:ub∉bxL (shT 1 T)
theorem Y4 {A R N B:List Sh} {s s':Sh} {eb:Nat} (hs:bxS s'=bxS s++[eb]) {x:Nat} (h:x∈bxL (A++((s'::(R++N))++B))):x∈bxL (A++((s::R)++B))∨x=eb∨x∈bxL N:=by
 simp only[Ap,Az,List.mem_append,hs,List.mem_singleton]at h⊢;rcases h with h | (((h | h) | h | h) | h)
 ·exact .inl (.inl h)
 ·exact .inl (.inr (.inl (.inl h)))
 ·exact .inr (.inl h)
 ·exact .inl (.inr (.inl (.inr h)))
 ·exact .inr (.inr h)
 ·exact .inl (.inr (.inr h))
theorem Vy {bb ub:Nat} {now:TV} {T t:Tb} {nodes:Nat} {σ:Nat->TV} {st:St} {h:List Hop} {k:B8} (H:BH bb ub now T nodes σ st) (hA:atT T h=some t) (hl:Aj k t.es=none) (hn:nodes<900000) (hcn:(Ae T).cnt=nodes)
  {K:TV->St->St->Prop}
  (hk:∀nu σ' st2 st',nu.eb=st2.nb->BH bb ub now (AA T h (AM t k nu.eb (.opn (Ar nu false)))) (nodes+1) σ' st'->K (.box nu.b 0) st2 st'):
  CallT PR AJ [.box bb 0,.int .i64 ((1+dpH h+1:Nat):Int)] [.one .tv] st λv st2=>need (List.all [v] Av)
   (CallT PR Bh [.box t.b 0,.str k,.box st2.nb 0] [] (st2.push (.cells (v:: .nilSlice::(z13++[.int .i64 0]))) (some 213)) λst3=>K v st2 st3):=by
 obtain⟨A,B,e1,e2⟩:=Hm h hA 1;rw[BP (1+dpH h) t]at e1;have hp:=H.hp;rw[e1]at hp;obtain⟨up,hup⟩:=H.un;have ht':=e2 (AM t k (st.nb+2) (.opn (Ar ⟨st.nb+1,st.nb,st.nb+2⟩ false))) rfl;rw[Mm]at ht';have hS:=hp.sh _ (List.mem_append_right A (List.mem_append_left B (List.mem_cons_self ..)));have hin:∀{x},x∈bxS ⟨t.b,t.m,t.hd,1+dpH h,t.es.map shK⟩->x∈bxL (A++((⟨t.b,t.m,t.hd,1+dpH h,t.es.map shK⟩::Cn (1+dpH h) t.es)++B)):=λhx=>
  Bw (List.mem_append_right A (List.mem_append_left B (List.mem_cons_self ..))) hx
 have itb:=hin (x:=t.b) (.head _);have itm:=hin (x:=t.m) (.tail _ (.head _));have ltb:t.b<st.nb:=hp.lt _ itb;have ltm:t.m<st.nb:=hp.lt _ itm;have bx:=H.bx;have ux:=H.ux;rw[e1]at bx ux;have nb1:t.b≠bb:=λe=>bx (e▸itb);have nb2:t.b≠ub:=λe=>ux (e▸itb);have nm1:t.m≠bb:=λe=>bx (e▸itm);have nm2:t.m≠ub:=λe=>ux (e▸itm);have hbl:=H.bl;have hul:=H.ul;have hbu:bb≠ub:=λe=>by have:=H.cell;rw[e,hup.box]at this;cases this
 obtain⟨mp,hm1,hm2⟩:=hS.mp;have hmt:t.m≠t.b:=λe=>by have:=hS.cell;simp only at this hm1;rw[e,this]at hm1;cases hm1
 refine Lq H.cell hup.box hbl hul hup.ok ⟨by omega,by omega⟩ λst1 hnb hbox hnt hlive=>Aa rfl ?_;have k1:∀x,x<st.nb->x≠bb->x≠ub->st1.box x=st.box x:=λx h1 h2 h3=>by
  rw[hbox];simp only;rw[if_neg h2,if_neg h3,if_neg (by omega),if_neg (by omega)]
 have hlen:(t.es.map shK).length<=1000000:=by
  rw[List.length_map];have:=TQ t;have:=(ZP hA).1;omega
 refine Tm (kv:=σ t.b) (d:=1+dpH h) (m:=t.m) (ks:=(t.es.map shK).map λx=>x.1) (es:=mp) ?_ ?_ hS.row ?_ (by rw[List.length_map];exact hlen) λkv' st' r1 r2 r3 r4 r5 r6 r7 r8=>?_
 ·show(if t.b=st1.nb then _ else st1.box t.b)=_
  rw[if_neg (by omega),k1 _ ltb nb1 nb2];exact hS.cell
 ·show(if t.m=st1.nb then _ else st1.box t.m)=_
  rw[if_neg (by omega),k1 _ ltm nm1 nm2];exact hm1
 ·intro id hid
  obtain⟨q1,q2⟩:=hp.tip t.b itb id hid;show id<st1.nt/\st1.live id=true;rw[hnt,hlive];exact⟨q1,q2⟩
 have bx':∀x,st'.box x=if x=t.m then .map (Gk k (.box (st.nb+2) 0) mp)else if x=t.b then .cells [kv',.map t.m,.int .i64 ((1+dpH h:Nat):Int)]else if x=st.nb+2 then .cells (.box (st.nb+1) 0:: .nilSlice::(z13++[.int .i64 0]))else st1.box x:=λx=>by
  rw[r3];simp only[St.push,hnb]
 have nb':st'.nb=st.nb+3:=by rw[r4];simp only[St.push,hnb]
 have nt':st'.nt=st.nt+1:=by rw[r6];simp only[St.push,hnt]
 have lv':∀i,i<st.nt->BT (σ t.b)≠some i->st'.live i=st.live i:=λi h1 h2=>by
  rw[r8 i (by simp only[St.push,hnt];exact h1) h2];simp only[St.push,hlive]
 have tip':BT kv'=some st.nt/\st'.live st.nt=true:=by
  simp only[St.push,hnt]at r2 r7;exact⟨r2,r7⟩
 have k2:∀x,x<st.nb->x≠bb->x≠ub->x≠t.b->x≠t.m->st'.box x=st.box x:=λx h1 h2 h3 h4 h5=>by
  rw[bx',if_neg h5,if_neg h4,if_neg (by omega),k1 x h1 h2 h3]
 have kbb:st'.box bb= .cells [.box T.b 0,now,.map ub,.int .i64 ((nodes:Int)+1)]:=by
  rw[bx',if_neg (Ne.symm nm1),if_neg (Ne.symm nb1),if_neg (by omega),hbox];simp only;rw[if_pos trivial]
 have kub:st'.box ub= .pmap (GS (st.nb+1) (.bool true) up):=by
  rw[bx',if_neg (Ne.symm nm2),if_neg (Ne.symm nb2),if_neg (by omega),hbox];simp only;rw[if_neg (Ne.symm hbu),if_pos trivial]
 have kb1:st'.box (st.nb+1)= .cells [.nilSlice,.map st.nb,.int .i64 ((1+dpH h+1:Nat):Int)]:=by
  rw[bx',if_neg (by omega),if_neg (by omega),if_neg (by omega),hbox];simp only;rw[if_neg (by omega),if_neg (by omega),if_pos trivial]
 have kb0:st'.box st.nb= .map []:=by
  rw[bx',if_neg (by omega),if_neg (by omega),if_neg (by omega),hbox];simp only;rw[if_neg (by omega),if_neg (by omega),if_neg (by omega),if_pos trivial]
 have kb2:st'.box (st.nb+2)= .cells (.box (st.nb+1) 0:: .nilSlice::(z13++[.int .i64 0])):=by
  rw[bx',if_neg (by omega),if_neg (by omega),if_pos rfl]
 have eN:AL (1+dpH h) (.opn (Ar ⟨st.nb+1,st.nb,st.nb+2⟩ false))=[⟨st.nb+1,st.nb,false,1+dpH h+1,[]⟩]:=by
  rw[AL,Ar,shT,Cn];rfl
 rw[eN]at ht';have bN:bxL [⟨st.nb+1,st.nb,false,1+dpH h+1,[]⟩]=[st.nb+1,st.nb]:=rfl
 let σ':Nat->TV:=λx=>if x=t.b then kv' else if x<st.nb then σ x else .nilSlice
 have s1:σ' t.b=kv':=if_pos rfl;have s2:∀x,x<st.nb->x≠t.b->σ' x=σ x:=λx h1 h2=>by simp only[σ'];rw[if_neg h2,if_pos h1]
 have s3:∀x,st.nb<=x->σ' x= .nilSlice:=λx h1=>by simp only[σ'];rw[if_neg (by omega),if_neg (by omega)]
 have HP':HP σ' st' (A++((⟨t.b,t.m,t.hd,1+dpH h,t.es.map shK++[(k,st.nb+2,.opn (st.nb+1))]⟩::(Cn (1+dpH h) t.es++[⟨st.nb+1,st.nb,false,1+dpH h+1,[]⟩]))++B)):=by
  refine HP.add hp (by omega) (λx hx h2 h3=>?_) (λx hx hne id hid=>?_) ?_ ?_ ⟨mp,hm1,?_⟩ (s2 _ ltm hmt) ?_ ⟨kb2,by rw[s3 _ (by omega)];rfl⟩ (λs' hs'=>?_) ?_ (λx hx=>?_) (λx hx id hid=>?_) λx hx y hy hne id g1 g2=>?_
  ·exact⟨k2 x (hp.lt x hx) (λe=>bx (e▸hx)) (λe=>ux (e▸hx)) h2 h3,s2 x (hp.lt x hx) h2⟩
  ·have hq:=hp.tip x hx id hid
   refine⟨by omega,?_⟩;rw[lv' id hq.1 λe=>hp.td x hx t.b itb hne id hid e];exact hq.2
  ·rw[s1,bx',if_neg (Ne.symm hmt),if_pos rfl]
  ·rw[s1];simp only[List.map_append]at r1⊢;exact r1
  ·rw[bx',if_pos rfl]
  ·rw[Fj,hl];rfl
  ·rw[List.mem_singleton.1 hs']
   have s4:σ' (st.nb+1)= .nilSlice:=s3 _ (by omega);exact⟨by show st'.box (st.nb+1)= .cells [σ' (st.nb+1),_,_];rw[s4];exact kb1,by show ED (σ' (st.nb+1)) _;rw[s4];exact ED.nil,⟨[],kb0,λ_=>rfl⟩,λx hx=>by cases hx⟩
  ·rw[bN];simp
  ·rw[bN]at hx
   rcases List.mem_cons.1 hx with rfl | hx
   ·omega
   ·rcases List.mem_cons.1 hx with rfl | hx
    ·omega
    ·rw[List.mem_singleton.1 hx];omega
  ·by_cases hxb:x=t.b
   ·rw[hxb,s1,tip'.1]at hid
    cases hid;exact⟨Nat.le_refl _,by omega,tip'.2⟩
   ·rw[s3 x ?_]at hid
    ·cases hid
    ·rw[bN]at hx
     rcases List.mem_cons.1 hx with h1 | hx
     ·exact absurd h1 hxb
     ·rcases List.mem_cons.1 hx with rfl | hx
      ·omega
      ·rcases List.mem_cons.1 hx with rfl | hx
       ·omega
       ·rw[List.mem_singleton.1 hx];exact Nat.le_refl _
  ·have nn:∀{z},z∈t.b::(st.nb+2)::bxL [⟨st.nb+1,st.nb,false,1+dpH h+1,[]⟩]->z≠t.b->st.nb<=z:=λ{z} hz hne=>by
    rw[bN]at hz;rcases List.mem_cons.1 hz with h1 | hz
    ·exact absurd h1 hne
    ·rcases List.mem_cons.1 hz with rfl | hz
     ·omega
     ·rcases List.mem_cons.1 hz with rfl | hz
      ·omega
      ·rw[List.mem_singleton.1 hz];exact Nat.le_refl _
   by_cases hxb:x=t.b
   ·have:=nn hy (λe=>hne (hxb.trans e.symm))
    rw[s3 y this]at g2;cases g2
   ·rw[s3 x (nn hx hxb)]at g1;cases g1
 have memb:∀x,x∈bxL (A++((⟨t.b,t.m,t.hd,1+dpH h,t.es.map shK++[(k,st.nb+2,.opn (st.nb+1))]⟩::(Cn (1+dpH h) t.es++[⟨st.nb+1,st.nb,false,1+dpH h+1,[]⟩]))++B))->
   x∈bxL (A++((⟨t.b,t.m,t.hd,1+dpH h,t.es.map shK⟩::Cn (1+dpH h) t.es)++B))∨st.nb<=x:=λx hx=>by
  rcases Y4 (s:=⟨t.b,t.m,t.hd,1+dpH h,t.es.map shK⟩) (eb:=st.nb+2) (by simp[bxS]) hx with h1 | h1 | h1
  ·exact .inl h1
  ·exact .inr (by omega)
  ·rw[bN]at h1
   rcases List.mem_cons.1 h1 with rfl | h1
   ·exact .inr (by omega)
   ·rw[List.mem_singleton.1 h1];exact .inr (Nat.le_refl _)
 have fdo:∀s,s∈A++((⟨t.b,t.m,t.hd,1+dpH h,t.es.map shK⟩::Cn (1+dpH h) t.es)++B)->CF s.b (GS (st.nb+1) (.bool true) up)=if s.hd=true then none else some (.bool true):=λs hs=>by
  have hlt:s.b<st.nb:=hp.lt _ (Bw hs (.head _));rw[F0,if_neg (by omega)];refine hup.fd s ?_;rw[e1];exact hs
 refine hk ⟨st.nb+1,st.nb,st.nb+2⟩ σ' st1 st' hnb.symm ⟨by rw[ht'];exact HP',by rw[Dg h (x:=AM t k (st.nb+2) (.opn (Ar ⟨st.nb+1,st.nb,st.nb+2⟩ false))) hA rfl,kbb];simp,⟨_,kub,?_,λp hp'=>?_,λs hs=>?_⟩,by omega,by omega,λhx=>?_,λhx=>?_⟩
 ·rw[La _ _ _ λp hp' e=>by have:=(hup.ok p hp').2;omega]
  refine List.nodup_append.2 ⟨hup.nd,by simp,λx hx y hy e=>?_⟩;obtain⟨p,hp',rfl⟩:=List.mem_map.1 hx;have:=(hup.ok p hp').2;rw[List.mem_singleton.1 hy]at e;omega
 ·rcases Na _ _ _ p hp' with rfl | hp'
  ·exact⟨by simp[Au,kb1],by show st.nb+1<st'.nb;omega⟩
  ·obtain⟨q1,q2⟩:=hup.ok p hp'
   refine⟨?_,by omega⟩;by_cases c1:p.1=t.m
   ·have hm1':st.box t.m= .map mp:=hm1
    rw[c1]at q1;simp[Au,hm1']at q1
   ·by_cases c2:p.1=t.b
    ·rw[c2];simp only[Au,bx',if_neg (Ne.symm hmt),if_pos trivial]
    ·by_cases c3:p.1=bb
     ·rw[c3];simp[Au,kbb]
     ·by_cases c4:p.1=ub
      ·rw[c4]at q1;simp[Au,hup.box]at q1
      ·simp only[Au,k2 _ q2 c3 c4 c2 c1]at q1⊢;exact q1
 ·rw[ht']at hs
  rcases List.mem_append.1 hs with h1 | h1
  ·exact fdo s (List.mem_append_left _ h1)
  ·rcases List.mem_append.1 h1 with h1 | h1
   ·rcases List.mem_cons.1 h1 with rfl | h1
    ·exact fdo ⟨t.b,t.m,t.hd,1+dpH h,t.es.map shK⟩ (List.mem_append_right _ (List.mem_append_left _ (.head _)))
    ·rcases List.mem_append.1 h1 with h1 | h1
     ·exact fdo s (List.mem_append_right _ (List.mem_append_left _ (.tail _ h1)))
     ·rw[List.mem_singleton.1 h1,F0,if_pos rfl];rfl
   ·exact fdo s (List.mem_append_right _ (List.mem_append_right _ h1))
 ·rw[ht']at hx
  rcases memb bb hx with h1 | h1
  ·exact bx h1
  ·omega
 ·rw[ht']at hx
  rcases memb ub hx with h1 | h1
  ·exact ux h1
  ·omega
section
theorem MB {hd:Bool}:∀(ks:List B8) {nu nu':Nat->Nu} (j:Nat) (T:Tb) (h:List Hop),(∀i,j<=i->i<j+ks.length->nu i=nu' i)->BE nu hd j T h ks=BE nu' hd j T h ks
 | [],_,_,_,_,_,_=>rfl
 | k::ks,nu,nu',j,T,h,he=>by
  unfold BE;rw[he j (Nat.le_refl _) (by simp only[List.length_cons];omega)];cases Df (nu' j) hd T h k with
  | none=>rfl
  | some p=>exact MB ks (j+1) p.1 p.2 λi h1 h2=>he i (by omega) (by simp only[List.length_cons];omega)
theorem SF {nu:Nat->Nu} {hd:Bool}:∀(ks:List B8) (j:Nat) (T:Tb) (h:List Hop) (k:B8),BE nu hd j T h (ks++[k])=(BE nu hd j T h ks).bind λp=>Df (nu (j+ks.length)) hd p.1 p.2 k
 | [],j,T,h,k=>by
  simp only[List.nil_append,BE,Option.bind_some,List.length_nil,Nat.add_zero];cases Df (nu j) hd T h k with
  | none=>rfl
  | some p=>rfl
 | a::ks,j,T,h,k=>by
  rw[List.cons_append];unfold BE;cases Df (nu j) hd T h a with
  | none=>rfl
  | some p=>
   simp only;rw[SF ks (j+1) p.1 p.2 k,List.length_cons,show j+1+ks.length=j+(ks.length+1) by omega]
theorem On {nu:Nat->Nu} {hd:Bool}:∀(ks rs:List B8) (j:Nat) (T:Tb) (h:List Hop),BE nu hd j T h ks=none->BE nu hd j T h (ks++rs)=none
 | [],rs,j,T,h,hn=>by unfold BE at hn;cases hn
 | a::ks,rs,j,T,h,hn=>by
  rw[List.cons_append];unfold BE at hn⊢;cases hh:Df (nu j) hd T h a with
  | none=>rfl
  | some p=>
   rw[hh]at hn;exact On ks rs (j+1) p.1 p.2 hn
def OP (nu:Nat->Nu) (j:Nat) (x:Nu):Nat->Nu:=λi=>if i=j then x else nu i
theorem hops_set {nu:Nat->Nu} {hd:Bool} {ks:List B8} {T:Tb} {h:List Hop} {x:Nu}:BE (OP nu ks.length x) hd 0 T h ks=BE nu hd 0 T h ks:=
 MB ks 0 T h λi _ h2=>by unfold OP;rw[if_neg (by omega)]
theorem IE {T t:Tb} {h:List Hop} {k:B8} {nu:Nu} {hd:Bool} (hA:atT T h=some t) (hl:Aj k t.es=none):atT (AA T h (AM t k nu.eb (.opn (Ar nu hd)))) (h++[(k,none)])=some (Ar nu hd):=by
 rw[Ls,CT h hA];show atT (AM t k nu.eb (.opn (Ar nu hd))) [(k,none)]=_;have:=Fx (t:=t) (k:=k) (k2:=k) (eb:=nu.eb) (e:= .opn (Ar nu hd)) hl;rw[if_pos rfl]at this;unfold AM at this⊢;rw[atT];simp only[Tb.es]at this⊢;rw[this];rfl
theorem GJ {T t u:Tb} {h:List Hop} {k:B8} {eb:Nat} (hA:atT T h=some t) (hl:Aj k t.es=some (eb,.opn u)):atT T (h++[(k,none)])=some u:=by
 rw[Ls,hA];obtain⟨b,m,hd,es⟩:=t;show atT (.mk b m hd es) [(k,none)]=_;rw[atT];simp only[Tb.es]at hl;rw[hl];cases u;rfl
theorem GK {T t u:Tb} {h:List Hop} {k:B8} {eb i:Nat} {l:List Tb} (hA:atT T h=some t) (hl:Aj k t.es=some (eb,.lst l)) (hi:l[i]? =some u):atT T (h++[(k,some i)])=some u:=by
 rw[Ls,hA];obtain⟨b,m,hd,es⟩:=t;show atT (.mk b m hd es) [(k,some i)]=_;rw[atT];simp only[Tb.es]at hl;rw[hl];simp only[hi];cases u;rfl
section
variable {bb ub:Nat} {now:TV} {T t:Tb} {nodes:Nat} {σ:Nat->TV} {st:St} {h:List Hop}
theorem BH.tab (H:BH bb ub now T nodes σ st) (hA:atT T h=some t):Rq σ st ⟨t.b,t.m,t.hd,1+dpH h,t.es.map shK⟩/\(⟨t.b,t.m,t.hd,1+dpH h,t.es.map shK⟩:Sh)∈shT 1 T:=by
 obtain⟨A,B,e1,_⟩:=Hm h hA 1;rw[BP (1+dpH h) t]at e1;have hm:(⟨t.b,t.m,t.hd,1+dpH h,t.es.map shK⟩:Sh)∈shT 1 T:=by
  rw[e1];exact List.mem_append_right A (List.mem_append_left B (List.mem_cons_self ..))
 exact⟨H.hp.sh _ hm,hm⟩
theorem BH.ldm (H:BH bb ub now T nodes σ st) (hA:atT T h=some t) {f:TV->Prop} (hf:f (.map t.m)):AS (Af st [] (.t (.box t.b 1)) 0) f:=by
 have:=(H.tab hA).1.cell;refine Ac (x:= .map t.m) ?_ hf;simp only at this;simp only[Af,this];rfl
theorem BH.ldd (H:BH bb ub now T nodes σ st) (hA:atT T h=some t) {f:TV->Prop} (hf:f (.int .i64 ((1+dpH h:Nat):Int))):AS (Af st [] (.t (.box t.b 2)) 0) f:=by
 have:=(H.tab hA).1.cell;refine Ac (x:= .int .i64 ((1+dpH h:Nat):Int)) ?_ hf;simp only at this;simp only[Af,this];rfl
theorem BH.map (H:BH bb ub now T nodes σ st) (hA:atT T h=some t) {f:List (B8×TV)->Prop} (hf:∀es,(∀k,AG k es=(Aj k t.es).map λp=> .box p.1 0)->f es):AS (DY st (.map t.m)) f:=by
 obtain⟨mp,h1,h2⟩:=(H.tab hA).1.mp;refine Ac (x:=mp) ?_ (hf mp λk=>?_)
 ·simp only at h1
  simp only[DY,h1]
 ·rw[h2 k,Fj]
  cases Aj k t.es<;>rfl
theorem BH.ent (H:BH bb ub now T nodes σ st) (hA:atT T h=some t) {k:B8} {eb:Nat} {e:En} (hl:Aj k t.es=some (eb,e)):Pu σ st eb (shE e):=
 (H.tab hA).1.en (k,eb,shE e) (List.mem_map.2 ⟨.mk k eb e,Li hl,rfl⟩)
theorem BH.ent0 (H:BH bb ub now T nodes σ st) (hA:atT T h=some t) {k:B8} {eb:Nat} {e:En} (hl:Aj k t.es=some (eb,e)) {f:TV->Prop} (hf:f (match e with | .opn u=> .box u.b 0 | _=> .nilPtr)):AS (Af st [] (.t (.box eb 0)) 0) f:=by
 have:=H.ent hA hl;cases e with
 | opn u=>
  obtain⟨h1,_⟩:=this;exact Ac (by simp only[Af,h1];rfl) hf
 | lst l=>
  obtain⟨_,_,h1⟩:=this;exact Ac (by simp only[Af,h1];rfl) hf
 | clo v i=>
  obtain⟨cs,_,_,h1,_⟩:=this;exact Ac (by simp only[Af,h1];rfl) hf
def Vh:En->List TV
 | .lst l=>l.map λt=> .box t.b 0
 | _=>[]
theorem BH.ent1 (H:BH bb ub now T nodes σ st) (hA:atT T h=some t) {k:B8} {eb:Nat} {e:En} (hl:Aj k t.es=some (eb,e)) {f:TV->Prop} (hf:∀v,ED v (Vh e)->f v):AS (Af st [] (.t (.box eb 1)) 0) f:=by
 have:=H.ent hA hl;cases e with
 | opn u=>
  obtain⟨h1,_⟩:=this;exact Ac (by simp only[Af,h1];rfl) (hf _ ED.nil)
 | lst l=>
  obtain⟨h0,_,h1⟩:=this;refine Ac (x:=σ eb) (by simp only[Af,h1];rfl) (hf _ ?_);rw[List.map_map]at h0;exact h0
 | clo v i=>
  obtain⟨cs,_,_,h1,_⟩:=this;exact Ac (by simp only[Af,h1];rfl) (hf _ ED.nil)
end
theorem ED.get {v:TV} {xs:List TV} (h:ED v xs) {st:St} {i:Nat} {x:TV} (hx:xs[i]? =some x) {f:TV->Prop} (hf:f x):AS (Af st [] (.t (ixT 1 v i)) 0) f:=by
 rcases h with⟨rfl,rfl⟩ | ⟨tip,rfl,_⟩
 ·simp at hx
 ·refine Ac (x:=x) ?_ hf
  simp only[ixT,Af,Nat.mul_one,List.getElem?_drop,Nat.add_zero];exact hx
end
section
mutual
theorem TN:∀v:Vl,lvV v<=v.cnt
 | .mk s l f=>by
  have:=Y5 l;have:=Y6 f;unfold lvV Vl.cnt;omega
theorem Y5:∀l:List Vl,De l<=AH l
 | []=>by unfold De AH;omega
 | v::r=>by
  have:=TN v;have:=Y5 r;unfold De AH;omega
theorem lvd_cnt:∀d:Fd,lvD d<=d.cnt
 | .mk k v=>by unfold lvD Fd.cnt;exact TN v
theorem Y6:∀l:List Fd,Ds l<=AX l
 | []=>by unfold Ds AX;omega
 | d::r=>by
  have:=lvd_cnt d;have:=Y6 r;unfold Ds AX;omega
end
theorem Oz {T t:Tb} {h:List Hop} (hA:atT T h=some t):dpH h<=(Ae T).cnt:=by
 have:=(Ck h hA t).lvu;have:=TN (Ae T);omega
theorem NI {T t:Tb} {h:List Hop} {k:B8} {eb:Nat} {e:En} (hA:atT T h=some t):(Ae (AA T h (AM t k eb e))).cnt=(Ae T).cnt+(AK e).cnt:=by
 have h1:=(Ck h hA (AM t k eb e)).cnt;have h2:=E3 t k eb e;omega
theorem FG (nu:Nu) (hd:Bool):(AK (.opn (Ar nu hd))).cnt=1:=by
 rw[AK,Ar,Ae,Bb];simp[Vl.cnt,AH,AX]
theorem TP:∀l:List Tb,l.length<=AH (BS l)
 | []=>by simp
 | t::r=>by
  have:=TP r;have h1:1<=(Ae t).cnt:=by cases Ae t;unfold Vl.cnt;omega
  rw[BS,AH,List.length_cons];omega
theorem lst_le {t:Tb} {k:B8} {eb:Nat} {l:List Tb} (h:Aj k t.es=some (eb,.lst l)):l.length<=(Ae t).cnt:=by
 obtain⟨F,G,h1,_⟩:=E7 h;rw[Gz,h1];have:=TP l;simp only[Vl.cnt,Ll,AX,Fd.cnt,AK];omega
theorem FV {ks:List B8} {j:Nat} (h:j<ks.length):(ks.map TV.str)[j]? =some (.str (ks.getD j [])):=by
 rw[List.getElem?_map,List.getElem?_eq_getElem h,List.getD_eq_getElem?_getD,List.getElem?_eq_getElem h];rfl
theorem Kr {ks:List B8} {j:Nat} (h:j<ks.length):ks.take (j+1)=ks.take j++[ks.getD j []]:=by
 rw[List.take_add_one,List.getElem?_eq_getElem h,List.getD_eq_getElem?_getD,List.getElem?_eq_getElem h];rfl
theorem along_ok {bb ub:Nat} {now:TV} {T t:Tb} {σ:Nat->TV} {st:St} {h:List Hop} {ks:List B8} {a_0 a_1 a_4 a_5:Bool} {a_2 a_13 a_14 a_15:TV} {a_3 a_7 a_8 a_9 a_10 a_11:Int} {a_6 a_12:B8} {K:TV->Bool->St->Prop}
  (H:BH bb ub now T (Ae T).cnt σ st) (hA:atT T h=some t) (hr:Rd 1 a_2 ks.length (ks.map TV.str)) (hks:ks≠ []) (hc:(Ae T).cnt+ks.length<=800000)
  (hk1:∀nu T' h' t' σ' st',BE nu a_0 0 T h ks.dropLast=some (T',h')->atT T' h'=some t'->BH bb ub now T' (Ae T').cnt σ' st'->(Ae T').cnt+1<=(Ae T).cnt+ks.length->K (.box t'.b 0) true st')
  (hk2:∀nu st',BE nu a_0 0 T h ks.dropLast=none->K .nilPtr false st'):
  CallT PR Dd [.box bb 0,.box t.b 0,.agg [.bool a_0,.bool a_1,a_2,.int .i64 a_3,.bool a_4,.bool a_5,.str a_6,.int .i64 a_7,.int .i64 a_8,.int .i64 a_9,.int .i64 a_10,.int .i64 a_11,.str a_12,a_13,a_14,a_15]] [.one .tv,.one .bool] st K:=by
 obtain⟨ks',kl,rfl⟩:∃ks' kl,ks=ks'++[kl]:=⟨ks.dropLast,ks.getLast hks,(List.dropLast_concat_getLast hks).symm⟩;rw[List.dropLast_concat]at hk1 hk2;rcases hr with⟨_,h0,_⟩ | ⟨tip,rfl⟩
 ·simp at h0
 rw[List.length_append,List.length_singleton]at hc hk1;have hw:IntKind.wrap .i64 ((lenS (.list 1 tip (ks'++[kl]).length ((ks'++[kl]).map TV.str)):Int)-1)=(ks'.length:Int):=by
  rw[Ah _ (by simp[lenS]<;>omega) (by simp[lenS]<;>omega)];simp[lenS]
 have hv:slT 1 .non (.list 1 tip (ks'++[kl]).length ((ks'++[kl]).map TV.str)) 0 (Int.toNat (ks'.length:Int))= .list 1 .non ks'.length (ks'.map TV.str):=by
  simp only[slT,Int.toNat_natCast,Nat.sub_zero,Nat.mul_one,Nat.zero_mul,List.drop_zero,List.map_append];rw[List.take_left' (by simp)]
 refine Im bb t.b a_0 a_1 _ a_3 a_4 a_5 a_6 a_7 a_8 a_9 a_10 a_11 a_12 a_13 a_14 a_15 st K (Aa rfl ?_);rw[hw,hv];refine⟨⟨rfl,by omega,by simp[lenS]<;>omega⟩,Aa rfl ?_⟩;refine⟨λt_1 n_1 b_1 v_1 n_2 b1 _ _ _ _ _ _ _ _ _ _ _ _ _ _ _ st1=>∃(j:Nat) (nu:Nat->Nu) (T':Tb) (h':List Hop) (t':Tb) (σ':Nat->TV),n_1=(j:Int)/\j<=ks'.length/\t_1= .box t'.b 0/\b_1= .box bb 0/\
   v_1= .list 1 .non ks'.length (ks'.map TV.str)/\n_2=(ks'.length:Int)/\b1=a_0/\BE nu a_0 0 T h (ks'.take j)=some (T',h')/\atT T' h'=some t'/\BH bb ub now T' (Ae T').cnt σ' st1/\(Ae T').cnt<=(Ae T).cnt+j,
  λ_ n_1 _ _ _ _ _ _ _ _ _ _ _ _ _ _ _ _ _ _ _ _=>ks'.length-n_1.toNat,⟨0,λ_=>⟨0,0,0⟩,T,h,t,σ,rfl,Nat.zero_le _,rfl,rfl,rfl,rfl,rfl,rfl,hA,H,by omega⟩,?_⟩
 rintro t_1 n_1 b_1 v_1 n_2 b1 b2 v1 n1 b3 b4 s1 n2 n3 n4 n5 n6 s2 v2 v3 v4 st1 ⟨j,nu,T',h',t',σ',rfl,hj,rfl,rfl,rfl,rfl,rfl,hh,hA',H',hc'⟩;refine Ab (λhlt=>?_) λhge=>?_
 ·have hlt:j<ks'.length:=by omega
  have hwj:IntKind.wrap .i64 ((j:Int)+1)=((j+1:Nat):Int):=by rw[Ah _ (by omega) (by omega)];simp
  have hdp:=Oz hA';have hlen:(ks'.take j).length=j:=by rw[List.length_take];omega
  have hsn:∀nu',BE nu' b1 0 T h (ks'.take j)=some (T',h')->BE nu' b1 0 T h (ks'.take (j+1))=Df (nu' j) b1 T' h' (ks'.getD j []):=λnu' hh'=>by
   rw[Kr hlt,SF,hh',hlen];simp
  refine⟨⟨by omega,by show(j:Int)<(ks'.length:Int);omega⟩,?_⟩;refine Ac (x:= .str (ks'.getD j [])) ?_ ?_
  ·have:=FV hlt
   simp only[ixT,Af,Int.toNat_natCast,Nat.mul_one,List.getElem?_drop,Nat.add_zero];exact this
  refine AO (Aa rfl (Aa rfl (H'.ldm hA' (H'.map hA' λes hes=>?_))));rw[hes (ks'.getD j [])];have hh1:=hsn nu hh;unfold Df at hh1;rw[hA']at hh1;simp only at hh1;rw[hwj];have step:∀{u:Tb} {o:Option Nat},BE nu b1 0 T h (ks'.take (j+1))=some (T',h'++[(ks'.getD j [],o)])->atT T' (h'++[(ks'.getD j [],o)])=some u->
    (∃(j':Nat) (nu:Nat->Nu) (T'':Tb) (h'':List Hop) (t'':Tb) (σ'':Nat->TV),((j+1:Nat):Int)=(j':Int)/\j'<=ks'.length/\(TV.box u.b 0)= .box t''.b 0/\(TV.box bb 0)= .box bb 0/\
     (TV.list 1 .non ks'.length (ks'.map TV.str))= .list 1 .non ks'.length (ks'.map TV.str)/\(ks'.length:Int)=(ks'.length:Int)/\b1=b1/\BE nu b1 0 T h (ks'.take j')=some (T'',h'')/\atT T'' h''=some t''/\BH bb ub now T'' (Ae T'').cnt σ'' st1/\(Ae T'').cnt<=(Ae T).cnt+j')/\
    ks'.length-((j+1:Nat):Int).toNat<ks'.length-((j:Nat):Int).toNat:=λ{u o} q1 q2=>
   ⟨⟨j+1,nu,T',_,u,σ',rfl,hlt,rfl,rfl,rfl,rfl,rfl,q1,q2,H',by omega⟩,by simp only[Int.toNat_natCast];omega⟩
  rcases hl:Aj (ks'.getD j []) t'.es with _ | ⟨eb,e⟩
  ·rw[Option.map_none]
   refine Aa rfl (show need _ _ from Aa rfl (Aa rfl (H'.ldd hA' (Am ?_))));have hwd:IntKind.wrap .i64 (((1+dpH h':Nat):Int)+1)=((1+dpH h'+1:Nat):Int):=by rw[Ah _ (by omega) (by omega)];simp
   rw[hwd];refine Vy H' hA' hl (by omega) rfl (λnu1 σ'' st2 st' he H''=>?_);have hq:BE (OP nu j nu1) b1 0 T h (ks'.take j)=some (T',h'):=by
    have:=hops_set (nu:=nu) (hd:=b1) (ks:=ks'.take j) (T:=T) (h:=h) (x:=nu1);rw[hlen]at this;rw[this,hh]
   have hq1:=hsn _ hq;have hnj:OP nu j nu1 j=nu1:=by unfold OP;rw[if_pos rfl]
   rw[hnj]at hq1;unfold Df at hq1;rw[hA']at hq1;simp only[hl]at hq1;have hcn:=NI (k:=ks'.getD j []) (eb:=nu1.eb) (e:= .opn (Ar nu1 false)) hA';rw[FG]at hcn;rw[<-hcn]at H'';exact⟨⟨j+1,_,_,_,Ar nu1 false,σ'',rfl,hlt,rfl,rfl,rfl,rfl,rfl,hq1,IE hA' hl,H'',by omega⟩,by simp only[Int.toNat_natCast];omega⟩
  ·rw[Option.map_some]
   rw[hl]at hh1;refine Aa rfl (show need _ _ from Aa rfl (Aa rfl (H'.ent0 hA' hl ?_)));cases e with
   | opn u=>
    simp only at hh1;refine Aa rfl (show need _ _ from Aa rfl (Aa rfl (H'.ent0 hA' hl ?_)));exact step hh1 (GJ hA' hl)
   | lst l=>
    refine Aa rfl (show need _ _ from Aa rfl (Aa rfl (H'.ent1 hA' hl λv hv=>?_)));have hvl:lenS v=l.length:=by rw[hv.len];simp[Vh]
    have hne:l≠ []:=by have:=(H'.ent hA' hl).2.1;intro e;rw[e]at this;exact this rfl
    have hlp:0<l.length:=List.length_pos_iff.2 hne;refine Aa hv.sl ?_;rw[hvl];refine Ab (λ_=>?_) λhb=>absurd (by omega) hb;simp only at hh1;cases b1 with
    | false=>exact hk2 nu st1 (by
      rw[if_neg (by simp)]at hh1;have:=On (ks'.take (j+1)) (ks'.drop (j+1)) 0 T h hh1;rwa [List.take_append_drop]at this)
    | true=>
     rw[if_pos rfl]at hh1;refine Ao (λ_=>?_) (λhb=>by cases hb);refine Aa rfl (Aa rfl (H'.ent1 hA' hl λv' hv'=>Aa rfl (Aa rfl (H'.ent1 hA' hl λv2' hv2=>Aa hv2.sl ?_))));have hll:l.length<=(Ae T').cnt:=by
      have:=lst_le hl;have:=(ZP hA').1;omega
     have hwl:IntKind.wrap .i64 ((lenS v2':Int)-1)=((l.length-1:Nat):Int):=by
      rw[hv2.len,Ah _ (by simp[Vh];omega) (by simp[Vh];omega)];simp[Vh];omega
     rw[hwl];have hu:l[l.length-1]? =some (l.getD (l.length-1) (.mk 0 0 false [])):=by
      rw[List.getD_eq_getElem?_getD,List.getElem?_eq_getElem (by omega)];rfl
     refine⟨⟨by omega,by rw[hv'.lenZ];simp[Vh];omega⟩,?_⟩;rw[Int.toNat_natCast];refine hv'.get (x:= .box (l.getD (l.length-1) (.mk 0 0 false [])).b 0) ?_ ?_
     ·simp only[Vh,List.getElem?_map,hu];rfl
     ·exact step hh1 (GK hA' hl hu)
   | clo w i=>
    refine Aa rfl (show need _ _ from Aa rfl (Aa rfl (H'.ent1 hA' hl λv hv=>Aa hv.sl ?_)));have hvl:lenS v=0:=by rw[hv.len];rfl
    rw[hvl];refine Ab (λhb=>absurd hb (by omega)) λ_=>?_;simp only at hh1;exact hk2 nu st1 (by
     have:=On (ks'.take (j+1)) (ks'.drop (j+1)) 0 T h hh1;rwa [List.take_append_drop]at this)
 ·have:j=ks'.length:=by omega
  subst this;rw[List.take_length]at hh;exact hk1 nu T' h' t' σ' st1 hh hA' H' (by omega)
end
end Go.TVF
