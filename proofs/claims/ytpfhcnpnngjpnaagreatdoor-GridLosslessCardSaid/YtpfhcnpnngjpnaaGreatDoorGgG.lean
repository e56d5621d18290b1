/- What the laws below rest on: a framework for Go programs, and contracts of the functions that they reach. -/
import Derived.Test.YtpfhcnpnngjpnaaGreatDoorGgF
set_option maxRecDepth 20000
set_option linter.unusedVariables false
set_option linter.unusedSimpArgs false
namespace Go.TVF
open Go.IntKind(i64 u8)
open Go Go.Proofs
def by_ (s:B8) (i:Nat):Int:=((s.getD i 0).toNat:Int)
def IR (q:Int):B8->Nat->Option Nat
 | [],_=>none
 | [c],i=>if (c.toNat:Int)=q then some (i+1)else none
 | c::c2::l,i=>if (c.toNat:Int)=q then(if (c2.toNat:Int)=q then IR q l (i+2)else some (i+1))else IR q (c2::l) (i+1)
def Uz (a q:Int):B8->Nat->Except Nat Nat
 | [],i=> .ok i
 | c::l,i=>if (c.toNat:Int)=a∨(c.toNat:Int)=10∨(c.toNat:Int)=13 then .ok i else if (c.toNat:Int)=q then .error i else Uz a q l (i+1)
def QE (q:Int) (s:B8) (i:Nat):Option Nat:=IR q (s.drop i) i
def PE (a q:Int) (s:B8) (i:Nat):Except Nat Nat:=Uz a q (s.drop i) i
theorem GN {s:B8} {i:Nat} (h:i<s.length):∃c,s.drop i=c::s.drop (i+1)/\(c.toNat:Int)=by_ s i:=by
 refine⟨s[i],List.drop_eq_getElem_cons h,?_⟩
 unfold by_
 rw[List.getD_eq_getElem?_getD,List.getElem?_eq_getElem h];rfl
theorem W7 {q:Int} {s:B8} {i:Nat} (h:s.length<=i):QE q s i=none:=by
 unfold QE;rw[List.drop_of_length_le h];rfl
theorem Vw {q:Int} {s:B8} {i:Nat} (h:i<s.length) (hb:by_ s i≠q):QE q s i=QE q s (i+1):=by
 obtain⟨c,hd,hc⟩:=GN h
 unfold QE
 rw[hd]
 cases hr:s.drop (i+1)with
 | nil=>simp only[IR];rw[if_neg (by omega)]
 | cons c2 l=>simp only[IR];rw[if_neg (by omega)]
theorem Tl {q:Int} {s:B8} {i:Nat} (h:i<s.length) (hb:by_ s i=q) (h2:i+1<s.length->by_ s (i+1)≠q):QE q s i=some (i+1):=by
 obtain⟨c,hd,hc⟩:=GN h
 unfold QE
 rw[hd]
 by_cases hl:i+1<s.length
 ·obtain⟨c2,hd2,hc2⟩:=GN hl
  rw[hd2]
  simp only[IR]
  rw[if_pos (by omega),if_neg (by have:=h2 hl;omega)]
 ·rw[List.drop_of_length_le (by omega)]
  simp only[IR];rw[if_pos (by omega)]
theorem X1 {q:Int} {s:B8} {i:Nat} (h:i+1<s.length) (hb:by_ s i=q) (h2:by_ s (i+1)=q):QE q s i=QE q s (i+2):=by
 obtain⟨c,hd,hc⟩:=GN (show i<s.length by omega)
 obtain⟨c2,hd2,hc2⟩:=GN h
 unfold QE
 rw[hd,hd2]
 simp only[IR]
 rw[if_pos (by omega),if_pos (by omega)]
theorem Tm {a q:Int} {s:B8} {i:Nat} (h:s.length<=i):PE a q s i= .ok i:=by
 unfold PE;rw[List.drop_of_length_le h];rfl
theorem N0 {a q:Int} {s:B8} {i:Nat} (h:i<s.length) (hb:by_ s i=a∨by_ s i=10∨by_ s i=13):PE a q s i= .ok i:=by
 obtain⟨c,hd,hc⟩:=GN h
 unfold PE;rw[hd];simp only[Uz];rw[if_pos (by rw[hc];exact hb)]
theorem X3 {a q:Int} {s:B8} {i:Nat} (h:i<s.length) (hb:¬(by_ s i=a∨by_ s i=10∨by_ s i=13)) (hq:by_ s i=q):PE a q s i= .error i:=by
 obtain⟨c,hd,hc⟩:=GN h
 unfold PE;rw[hd];simp only[Uz];rw[if_neg (by rw[hc];exact hb),if_pos (by omega)]
theorem X2 {a q:Int} {s:B8} {i:Nat} (h:i<s.length) (hb:¬(by_ s i=a∨by_ s i=10∨by_ s i=13)) (hq:by_ s i≠q):PE a q s i=PE a q s (i+1):=by
 obtain⟨c,hd,hc⟩:=GN h
 unfold PE;rw[hd];simp only[Uz];rw[if_neg (by rw[hc];exact hb),if_neg (by omega)]
def CD (a q:Int) (s:B8) (i:Nat):Except (Nat×Int) Nat:=
 if i<s.length/\by_ s i=q then(match QE q s (i+1)with | some e=> .ok e | none=> .error (s.length,4))
 else match PE a q s i with | .ok e=> .ok e | .error o=> .error (o,3)
def slc (s:B8) (i e:Nat):B8:=(s.take e).drop i
def NG (q:Int):B8->B8
 | []=>[]
 | [c]=>[c]
 | c::c2::l=>if (c.toNat:Int)=q then c::NG q l else c::NG q (c2::l)
def txt (q:Int) (c:B8):B8:=if c=[]∨by_ c 0≠q then c else NG q ((c.take (c.length-1)).drop 1)
def D3 (s:B8) (i:Nat):Except (Nat×Int) Nat:=
 if s.length<=i then .ok 0 else if by_ s i=10 then .ok 1 else if by_ s i≠13 then .error (i,3)else if s.length<=i+1 then .error (s.length,4)else if by_ s (i+1)=10 then .ok 2 else .error (i,3)
def Gs (dep nod:Int) (d:Int) (i:Nat) (v:Int):Except (Nat×Int) Int:=if dep<d then .error (i,9)else if nod<=v then .error (i,10)else .ok (v+1)
structure Cx where
 s:B8
 a:Int
 q:Int
 dep:Int
 nod:Int
def EM (x:Cx) (hd:Bool) (i:Nat) (v:Int) (ns:List B8):Except (Nat×Int) (Nat×Int×List B8):=do
 let v1<-if hd then .ok v else Gs x.dep x.nod 3 i v
 let e<-CD x.a x.q x.s i
 let t:=txt x.q (slc x.s i e)
 if (if hd then 1024 else 65536)<t.length then .error (i,10)
 else if hd/\t∈ns then .error (i,8)
 else .ok (e,v1,if hd then t::ns else ns)
def KM (s:B8) (i e:Nat) (mark:List Nd):Nd:= .mk 5 [] [] (.mk 2 [] (slc s i e) [] []::mark) []
def Cn (x:Cx) (num:Bool) (wid:Int) (hd:Bool):Nat->List Nd->Nat->Int->List B8->Except (Nat×Int) (Nat×Int×List B8×List Nd)
 | 0,_,_,_,_=> .error (0,0)
 | n+1,acc,i,v,ns=>
  if num/\wid<=acc.length then .error (i,10)else do
   let (e,v1,ns1)<-EM x hd i v ns
   if e<x.s.length/\by_ x.s e=x.a then Cn x num wid hd n (acc++[KM x.s i e [.mk 11 [] [x.s.getD e 0] [] []]]) (e+1) v1 ns1
   else do
    let _<-D3 x.s e
    .ok (e,v1,ns1,acc++[KM x.s i e []])
def dbl (c:UInt8) (t:B8):B8:=t.flatMap (Qt c [c,c])
theorem CB (c b:UInt8) (t:B8):dbl c (b::t)=(if b=c then [c,c]else [b])++dbl c t:=by
 simp[dbl,Qt]
theorem YG {q:Int} {c:UInt8} (hc:(c.toNat:Int)=q):∀(n:Nat) (l:B8) (i e:Nat),l.length<=n->IR q l i=some e->∃t rest,l=dbl c t++c::rest/\e=i+(dbl c t).length+1:=by
 have heq:∀b:UInt8,(b.toNat:Int)=q↔b=c:=fun b=>⟨fun h=>UInt8.toNat_inj.1 (by omega),fun h=>by rw[h];exact hc⟩
 intro n
 induction n with
 | zero=>intro l i e hl h;have:l=[]:=List.eq_nil_of_length_eq_zero (by omega);subst this;simp[IR]at h
 | succ n ih=>
  intro l i e hl h
  match l,hl,h with
  | [],_,h=>simp[IR]at h
  | [b],_,h=>
   simp only[IR]at h
   split at h
   ·rename_i hb
    cases h
    exact⟨[],[],by rw[(heq b).1 hb];rfl,rfl⟩
   ·cases h
  | b::b2::l,hl,h=>
   simp only[IR]at h
   split at h
   ·rename_i hb
    have hb:=(heq b).1 hb
    split at h
    ·rename_i hb2
     have hb2:=(heq b2).1 hb2
     obtain⟨t,rest,h1,h2⟩:=ih l (i+2) e (by simp at hl;omega) h
     refine⟨c::t,rest,?_,?_⟩
     ·rw[hb,hb2,h1,CB];simp
     ·rw[h2,CB];simp;omega
    ·cases h
     exact⟨[],b2::l,by rw[hb];rfl,rfl⟩
   ·rename_i hb
    have hb:b≠c:=fun h=>hb ((heq b).2 h)
    obtain⟨t,rest,h1,h2⟩:=ih (b2::l) (i+1) e (by simp at hl⊢;omega) h
    refine⟨b::t,rest,?_,?_⟩
    ·rw[h1,CB,if_neg hb];simp
    ·rw[h2,CB,if_neg hb];simp;omega
theorem TI {q:Int} {c:UInt8} (hc:(c.toNat:Int)=q):∀t:B8,NG q (dbl c t)=t
 | []=>rfl
 | b::t=>by
  have ih:=TI hc t
  rw[CB]
  by_cases hb:b=c
  ·subst hb
   simp only[if_true,List.cons_append,List.nil_append,NG]
   rw[if_pos hc,ih]
  ·rw[if_neg hb]
   have hb':(b.toNat:Int)≠q:=fun h=>hb (UInt8.toNat_inj.1 (by omega))
   simp only[List.cons_append,List.nil_append]
   cases hd:dbl c t with
   | nil=>rw[hd]at ih;simp only[NG]at ih⊢;rw[<-ih]
   | cons b2 l=>simp only[NG];rw[if_neg hb',<-hd,ih]
theorem MY (c:UInt8):∀t:B8,c∉t∨∃a b,t=a++c::b/\c∉a
 | []=> .inl (by simp)
 | d::t=>by
  by_cases h:d=c
  ·exact .inr ⟨[],t,by rw[h];rfl,by simp⟩
  ·rcases MY c t with h1 | ⟨a,b,h1,h2⟩
   ·exact .inl (by simp[Ne.symm h,h1])
   ·exact .inr ⟨d::a,b,by rw[h1];rfl,by simp[Ne.symm h,h2]⟩
theorem PP {c:UInt8} {t:B8} (h:c∉t):dbl c t=t:=JW c [c,c] t h
theorem XU (c:UInt8) (a b:B8):dbl c (a++b)=dbl c a++dbl c b:=by simp[dbl]
theorem MC (c:UInt8) (l:B8):∀a:B8,c∉a->Lib.index (a++l) [c,c]=if Lib.index l [c,c]= -1 then-1 else Lib.index l [c,c]+a.length
 | [],_=>by simp
 | d::a,h=>by
  simp only[List.mem_cons,not_or]at h
  have hp: [c,c].isPrefixOf (d::(a++l))=false:=by simp[List.isPrefixOf,h.1]
  rw[List.cons_append,Lib.index,hp,MC c l a h.2]
  have hge:=Lib.index_ge l [c,c]
  by_cases hm:Lib.index l [c,c]= -1
  ·simp[hm]
  ·have:¬(Lib.index l [c,c]+(a.length:Int)= -1):=by omega
   simp[hm,this];omega
theorem count2 (c:UInt8):∀(n:Nat) (t:B8),t.length<=n->Lib.count (dbl c t) [c,c]<=t.length/\Lib.replaceK [c,c] [c] (Lib.count (dbl c t) [c,c]) (dbl c t)=t:=by
 intro n
 induction n with
 | zero=>
  intro t ht
  have:t=[]:=List.eq_nil_of_length_eq_zero (by omega)
  subst this
  have h0:Lib.count (dbl c []) [c,c]=0:=Lib.count_miss (by simp[dbl,Lib.index])
  rw[h0];exact⟨by simp,rfl⟩
 | succ n ih=>
  intro t ht
  rcases MY c t with h | ⟨a,b,h1,h2⟩
  ·rw[PP h]
   have:Lib.index t [c,c]= -1:=by
    have:=MC c [] t h
    simpa [Lib.index]using this
   rw[Lib.count_miss this]
   exact⟨by simp,rfl⟩
  ·have hd:dbl c t=a++(c::c::dbl c b):=by rw[h1,XU,PP h2,CB,if_pos rfl];rfl
   have hi:Lib.index (dbl c t) [c,c]=(a.length:Nat):=by
    have h0:Lib.index (c::c::dbl c b) [c,c]=0:=by simp[Lib.index,List.isPrefixOf]
    rw[hd,MC c _ a h2,h0];simp
   have hdr:(dbl c t).drop (a.length+ [c,c].length)=dbl c b:=by
    rw[hd,<-List.drop_drop,List.drop_left];rfl
   have hlen:t.length=a.length+1+b.length:=by rw[h1];simp;omega
   obtain⟨c1,c2⟩:=ih b (by omega)
   rw[Lib.count_hit (by simp) hi,hdr]
   refine⟨by omega,?_⟩
   rw[Nat.add_comm,Lib.replaceK_hit _ _ _ _ _ hi,hdr,c2,hd,List.take_left,h1]
   simp
theorem TJ {s t:B8} {c:UInt8} {st:St} {K:B8->St->Prop} (hs:s=dbl c t) (hl:s.length<=2000000000) (hk:K t st):
  CallT PR AH [.str s,.str [c,c],.str [c]] [.one (.str)] st K:=by
 refine CI (fun _ _=>Tryz.call146 _ _) fun g w vargs sim hr=>?_
 obtain⟨v1,v2,v3,rfl,h1,h2,h3⟩:=OQ hr
 rw[Bf h1,Bf h2,Bf h3]
 obtain⟨_,m,hm⟩:=sim.glob w sim.below
 obtain⟨c1,c2⟩:=count2 c t.length t (Nat.le_refl _)
 have hcB:Lib.countB ⟨s.toArray⟩ ⟨#[c,c]⟩=Lib.count s [c,c]:=rfl
 have hts:t.length<=s.length:=by
  rw[hs]
  clear hs hl h1 c1 c2 hk hcB
  induction t with
  | nil=>simp
  | cons b t ih=>rw[CB];split<;>simp<;>omega
 refine Calls.mono (Tryz.strings_ReplaceAll ⟨s.toArray⟩ ⟨#[c,c]⟩ ⟨#[c]⟩ m w ?_ hm ?_ ?_) ?_
 ·show s.toArray.size<_
  simp;omega
 ·show 1<=(#[c,c]:Array UInt8).size
  simp
 ·rw[hcB]
  show s.toArray.size+_*(#[c]:Array UInt8).size<=_
  rw[hs]at hl hts⊢
  simp;omega
 ·rintro e w' ⟨rfl,hb⟩
  obtain⟨s',e'⟩:=sim.grown hb
  have hv:Lib.replaceAll s [c,c] [c]=t:=by
   unfold Lib.replaceAll Lib.replace
   rw[if_neg (by simp),hs]
   exact c2
  refine⟨_,rfl,.str t,st,g,hk,s',?_,e'⟩
  show Rel g w' _ (.string ⟨(Lib.replaceAll s [c,c] [c]).toArray⟩)
  rw[hv]
  exact Rel.str _
def P9 (q:Int) (cl:B8):Prop:=cl=[]∨by_ cl 0≠q∨∃c t,(c.toNat:Int)=q/\cl=c::(dbl c t++[c])
theorem HX {q:Int} {c:UInt8} {t:B8} (hc:(c.toNat:Int)=q):txt q (c::(dbl c t++[c]))=t:=by
 unfold txt
 rw[if_neg (by simp[by_,hc])]
 have:((c::(dbl c t++[c])).take ((c::(dbl c t++[c])).length-1)).drop 1=dbl c t:=by
  simp
 rw[this,TI hc]
theorem OC {cl:B8} {a q:Int} {x y:Bool} (hw:P9 q cl) (hl:cl.length<=2000000) {st:St} {K:B8->Bool->St->Prop} (hk:∀st',Am st st'->K (txt q cl) (decide (¬(cl=[]∨by_ cl 0≠q))) st'):
  CallT PR Da [.str cl,.agg [.int .u8 a,.int .u8 q,.bool x,.bool y]] [.one (.str),.one (.bool)] st K:=by
 have hk:=hk st (Am.refl st)
 refine Qq cl a q x y st K (Aa (fun g=>?_) fun g=>⟨⟨by omega,?_⟩,Aa (fun g2=>?_) fun g2=>?_⟩)
 ·subst g
  unfold txt at hk
  simpa using hk
 ·cases cl with
  | nil=>exact absurd rfl g
  | cons b l=>simp
 ·have g2':by_ cl 0≠q:=g2
  unfold txt at hk
  rw[if_pos (.inr g2')]at hk
  simpa [g2']using hk
 ·have g2':¬by_ cl 0≠q:=g2
  rcases hw with h | h | ⟨c,t,hc,h⟩
  ·exact absurd h g
  ·exact absurd h g2'
  subst h
  rw[HX hc]at hk
  have htb:toBytes st (.list 1 .full 1 [.int .u8 q])=some [c]:=by
   have:UInt8.ofNat q.toNat=c:=by rw[<-hc];simp
   rw[<-this];rfl
  have hlen:(c::(dbl c t++[c])).length=(dbl c t).length+2:=by simp
  rw[hlen]at hl
  have hw64:i64.wrap (((c::(dbl c t++[c])).length:Int)-1)=(((dbl c t).length+1:Nat):Int):=by
   rw[hlen,Ai _ (by omega) (by omega)];omega
  rw[htb]
  refine Ac rfl (show Af .str (.str [c]) _ from⟨⟨by omega,by rw[hw64];omega,by rw[hw64,hlen];omega⟩,by simp,?_⟩)
  rw[hw64]
  have hin:List.drop (Int.toNat 1) (List.take (Int.toNat (((dbl c t).length+1:Nat):Int)) (c::(dbl c t++[c])))=dbl c t:=by
   simp
  rw[hin]
  refine TJ rfl (by omega) ?_
  simpa [g2',hc,by_]using hk
def G1 (x:Cx) (num:Bool) (wid:Int) (hd:Bool) (i:Nat) (v:Int) (ns:List B8):Except (Nat×Int) (Nat×Int×List B8×Nd×Int):=do
 let v1<-if hd then .ok v else Gs x.dep x.nod 2 i v
 let (e,v2,ns2,ks)<-Cn x num wid hd (x.s.length+1) [] i v1 ns
 let n<-D3 x.s e
 let wid':=if num then wid else(ks.length:Int)
 if (ks.length:Int)<wid' then .error (e,10)else .ok (e+n,v2,ns2,.mk 8 [] [] ks (slc x.s e (e+n)),wid')
def D9 (x:Cx) (hdr:Bool):Nat->List Nd->Nat->Int->List B8->Int->Except (Nat×Int) (List Nd)
 | 0,_,_,_,_,_=> .error (0,0)
 | n+1,acc,i,v,ns,wid=>
  if x.s.length<=i then .ok acc else do
   let (i',v',ns',r,wid')<-G1 x (!acc.isEmpty) wid (hdr&&acc.isEmpty) i v ns
   D9 x hdr n (acc++[r]) i' v' ns' wid'
section
theorem Own.extXD {S:Nat->Prop} {b sz:Nat} {st st':St} {v:TV} {n:Nat} {xs:List TV} (h:Own b sz st v n xs) (e:StX S st st'):Own b sz st' v n xs:=by
 rcases h with h | ⟨tip,h,ht | ⟨id,h1,h2,h3,h4⟩⟩
 ·exact .inl h
 ·exact .inr ⟨tip,h,.inl ht⟩
 ·exact .inr ⟨tip,h,.inr ⟨id,h1,h2,Nat.lt_of_lt_of_le h3 e.nt,by rw[e.live _ h3];exact h4⟩⟩
theorem ldB {st:St} {b i:Nat} {l:List TV} {x:TV} (hb:st.box b= .cells l) (hx:l[i]? =some x):Ad st [] (.t (.box b i)) 0=some x:=by
 simp only[Ad,hb,Nat.add_zero];exact hx
theorem FL {st:St} {b off:Nat} {x:TV} {l:List TV} {k:St->Prop} (hb:st.box b= .cells l) (hl:Nat.ble (off+1) l.length=true) (hk:∀st',StX (·=b) st st'->st'.box b= .cells (l.set off x)->k st'):stB st (.box b off) [x] k:=by
 have hl:=Nat.le_of_ble_eq_true hl
 refine⟨l,hb,by simpa using hl,hk _ (StX.put (S:=(·=b)) rfl _) ?_⟩
 rw[Cs]
 rfl
def Nn (st:St) (p i:Nat):Int:=match st.box p with | .cells l=>(match l[i]? with | some (TV.int _ k)=>k | _=>0) | _=>0
theorem Ea {st:St} {p i:Nat} {l:List TV} {kd:IntKind} {k:Int} (hb:st.box p= .cells l) (hx:l[i]? =some (.int kd k)):Nn st p i=k:=by
 simp only[Nn,hb,hx]
def pcl (x:Cx) (hd ty:Bool) (l2 l3 l4:Int) (m:Nat) (i n w o e:Int):List TV:=
 [.str x.s,.int .u8 x.a,.int .u8 x.q,.bool hd,.bool ty,.int .i64 x.dep,.int .i64 x.nod,.int .i64 l2,.int .i64 l3,.int .i64 l4,.int .i64 i,.int .i64 n,.int .i64 w,.map m,.int .i64 o,.int .i64 e]
structure PSD (p m:Nat) (x:Cx) (hd ty:Bool) (l2 l3 l4:Int) (ns:List B8) (i n w o e:Int) (st:St):Prop where
 ne:p≠m
 lp:p<st.nb
 lm:m<st.nb
 bx:st.box p= .cells (pcl x hd ty l2 l3 l4 m i n w o e)
 mp:∃es,st.box m= .map es/\MapN es ns
abbrev PM (p m:Nat):Nat->Prop:=fun i=>i=p∨i=m
theorem PSD.of {p m:Nat} {x:Cx} {hd ty:Bool} {l2 l3 l4:Int} {ns:List B8} {i n w o e i' n' w' o' e':Int} {st st':St} (h:PSD p m x hd ty l2 l3 l4 ns i n w o e st) (k:StX (·=p) st st')
  (b:st'.box p= .cells (pcl x hd ty l2 l3 l4 m i' n' w' o' e')):PSD p m x hd ty l2 l3 l4 ns i' n' w' o' e' st':=by
 obtain⟨es,h1,h2⟩:=h.mp
 exact⟨h.ne,Nat.lt_of_lt_of_le h.lp k.nb,Nat.lt_of_lt_of_le h.lm k.nb,b,es,by rw[k.box _ h.lm (fun g=>h.ne g.symm)];exact h1,h2⟩
theorem PSD.keep {S:Nat->Prop} {p m:Nat} {x:Cx} {hd ty:Bool} {l2 l3 l4:Int} {ns:List B8} {i n w o e:Int} {st st':St} (h:PSD p m x hd ty l2 l3 l4 ns i n w o e st) (k:StX S st st') (hp:¬S p) (hm:¬S m):
  PSD p m x hd ty l2 l3 l4 ns i n w o e st':=by
 obtain⟨es,h1,h2⟩:=h.mp
 exact⟨h.ne,Nat.lt_of_lt_of_le h.lp k.nb,Nat.lt_of_lt_of_le h.lm k.nb,by rw[k.box _ h.lp hp];exact h.bx,es,by rw[k.box _ h.lm hm];exact h1,h2⟩
theorem StX.pm {p m:Nat} {a b:St} (h:StX (·=p) a b):StX (PM p m) a b:=h.mono fun _=> .inl
section
variable {p m:Nat} {x:Cx} {hd ty:Bool} {l2 l3 l4:Int} {ns:List B8} {I n w o e:Int} {st:St}
theorem Dp {o' e':Int} {K:Bool->St->Prop} (h:PSD p m x hd ty l2 l3 l4 ns I n w o e st) (hk:∀st',StX (PM p m) st st'->PSD p m x hd ty l2 l3 l4 ns I n w o' e' st'->K false st'):
  CallT PR Ak [.box p 0,.int .i64 o',.int .i64 e'] [.one .bool] st K:=by
 refine IZ p o' e' st K (FL h.bx rfl fun st1 e1 b1=>FL b1 rfl fun st2 e2 b2=>?_)
 exact hk st2 (e1.trans e2).pm (h.of (e1.trans e2) b2)
theorem Q8 {d v:Int} {i:Nat} {K:Bool->St->Prop} (hI:I=(i:Int)) (hv0:0<=v) (hv:v<1000000000) (h:PSD p m x hd ty l2 l3 l4 ns I v w o e st)
  (h0:∀v' st',Gs x.dep x.nod d i v= .ok v'->StX (PM p m) st st'->PSD p m x hd ty l2 l3 l4 ns I v' w o e st'->K true st')
  (h1:∀(o':Nat) e' st',Gs x.dep x.nod d i v= .error (o',e')->StX (PM p m) st st'->PSD p m x hd ty l2 l3 l4 ns I v w o' e' st'->K false st'):
  CallT PR Bx [.box p 0,.int .i64 d] [.one .bool] st K:=by
 unfold Gs at h0 h1
 subst hI
 have hb:=h.bx
 refine II p d st K ?_
 repeat' first
  | (guard_target=~need _ _;refine Ab rfl ?_)
  | (guard_target=~Ae (Ad _ _ _ _) _;refine Ac (ldB hb rfl) ?_)
  | (guard_target=~Af (.int _) _ _;refine Ar ?_)
  | (guard_target=~Af .str _ _;refine Al ?_)
  | (guard_target=~Af .bool _ _;refine Aq ?_)
 refine Aa (fun g=>?_) fun g=>?_
 ·rw[if_pos g]at h1
  repeat' first
   | (guard_target=~need _ _;refine Ab rfl ?_)
   | (guard_target=~Ae (Ad _ _ _ _) _;refine Ac (ldB hb rfl) ?_)
   | (guard_target=~Af (.int _) _ _;refine Ar ?_)
   | (guard_target=~Af .str _ _;refine Al ?_)
   | (guard_target=~Af .bool _ _;refine Aq ?_)
  exact Dp h fun st' e1 k1=>h1 _ _ st' rfl e1 k1
 rw[if_neg g]at h0 h1
 repeat' first
  | (guard_target=~need _ _;refine Ab rfl ?_)
  | (guard_target=~Ae (Ad _ _ _ _) _;refine Ac (ldB hb rfl) ?_)
  | (guard_target=~Af (.int _) _ _;refine Ar ?_)
  | (guard_target=~Af .str _ _;refine Al ?_)
  | (guard_target=~Af .bool _ _;refine Aq ?_)
 refine Aa (fun g2=>?_) fun g2=>?_
 ·rw[if_pos g2]at h1
  repeat' first
   | (guard_target=~need _ _;refine Ab rfl ?_)
   | (guard_target=~Ae (Ad _ _ _ _) _;refine Ac (ldB hb rfl) ?_)
   | (guard_target=~Af (.int _) _ _;refine Ar ?_)
   | (guard_target=~Af .str _ _;refine Al ?_)
   | (guard_target=~Af .bool _ _;refine Aq ?_)
  exact Dp h fun st' e1 k1=>h1 _ _ st' rfl e1 k1
 rw[if_neg g2]at h0
 repeat' first
  | (guard_target=~need _ _;refine Ab rfl ?_)
  | (guard_target=~Ae (Ad _ _ _ _) _;refine Ac (ldB hb rfl) ?_)
  | (guard_target=~Af (.int _) _ _;refine Ar ?_)
  | (guard_target=~Af .str _ _;refine Al ?_)
  | (guard_target=~Af .bool _ _;refine Aq ?_)
 refine FL hb rfl fun st1 e1 b1=>?_
 rw[Ai _ (by omega) (by omega)]at b1
 exact h0 _ st1 rfl e1.pm (h.of e1 b1)
theorem V4 {i:Nat} {K:Bool->St->Prop} (hI:I=(i:Int)) (hi:i<x.s.length) (hl:x.s.length<=2000000) (h:PSD p m x hd ty l2 l3 l4 ns I n w o e st)
  (h0:∀(k:Nat) st',QE x.q x.s (i+1)=some k->StX (PM p m) st st'->PSD p m x hd ty l2 l3 l4 ns k n w o e st'->K true st')
  (h1:∀(k:Int) st',QE x.q x.s (i+1)=none->StX (PM p m) st st'->PSD p m x hd ty l2 l3 l4 ns k n w (x.s.length:Nat) 4 st'->K false st'):
  CallT PR CP [.box p 0] [.one .bool] st K:=by
 subst hI
 have hb:=h.bx
 have tn:∀k:Nat,Int.toNat (k:Int)=k:=fun k=>rfl
 have w1:∀k:Nat,k<=x.s.length->i64.wrap ((k:Int)+1)=((k+1:Nat):Int):=fun k hk=>by rw[Ai _ (by omega) (by omega)];omega
 refine HT p st K ?_
 repeat' first
  | (guard_target=~need _ _;refine Ab rfl ?_)
  | (guard_target=~Ae (Ad _ _ _ _) _;refine Ac (ldB hb rfl) ?_)
  | (guard_target=~Af (.int _) _ _;refine Ar ?_)
  | (guard_target=~Af .str _ _;refine Al ?_)
  | (guard_target=~Af .bool _ _;refine Aq ?_)
 refine FL hb rfl fun st1 e1 b1=>?_
 rw[w1 i (by omega)]at b1
 refine⟨fun p' st'=>TV.box p 0=p'/\StX (PM p m) st st'/\∃k:Nat,PSD p m x hd ty l2 l3 l4 ns k n w o e st'/\i<k/\k<=x.s.length/\QE x.q x.s (i+1)=QE x.q x.s k,
  fun _ st'=>(x.s.length-Nn st' p 10).toNat,⟨rfl,e1.pm,i+1,h.of e1 b1,by omega,by omega,rfl⟩,?_⟩
 rintro _ st2 ⟨rfl,e2,k,h2,hk1,hk2,hq⟩
 have hb2:=h2.bx
 repeat' first
  | (guard_target=~need _ _;refine Ab rfl ?_)
  | (guard_target=~Ae (Ad _ _ _ _) _;refine Ac (ldB hb2 rfl) ?_)
  | (guard_target=~Af (.int _) _ _;refine Ar ?_)
  | (guard_target=~Af .str _ _;refine Al ?_)
  | (guard_target=~Af .bool _ _;refine Aq ?_)
 refine Aa (fun q1=>?_) fun q1=>?_
 ·repeat' first
   | (guard_target=~need _ _;refine Ab rfl ?_)
   | (guard_target=~Ae (Ad _ _ _ _) _;refine Ac (ldB hb2 rfl) ?_)
   | (guard_target=~Af (.int _) _ _;refine Ar ?_)
   | (guard_target=~Af .str _ _;refine Al ?_)
   | (guard_target=~Af .bool _ _;refine Aq ?_)
  refine⟨⟨by omega,by omega⟩,?_⟩
  repeat' first
   | (guard_target=~need _ _;refine Ab rfl ?_)
   | (guard_target=~Ae (Ad _ _ _ _) _;refine Ac (ldB hb2 rfl) ?_)
   | (guard_target=~Af (.int _) _ _;refine Ar ?_)
   | (guard_target=~Af .str _ _;refine Al ?_)
   | (guard_target=~Af .bool _ _;refine Aq ?_)
  rw[tn]
  refine Aa (fun q2=>?_) fun q2=>?_
  ·repeat' first
    | (guard_target=~need _ _;refine Ab rfl ?_)
    | (guard_target=~Ae (Ad _ _ _ _) _;refine Ac (ldB hb2 rfl) ?_)
    | (guard_target=~Af (.int _) _ _;refine Ar ?_)
    | (guard_target=~Af .str _ _;refine Al ?_)
    | (guard_target=~Af .bool _ _;refine Aq ?_)
   refine FL hb2 rfl fun st3 e3 b3=>?_
   rw[w1 k (by omega)]at b3
   rw[Vw (by omega) q2]at hq
   refine⟨⟨rfl,e2.trans e3.pm,k+1,h2.of e3 b3,by omega,by omega,hq⟩,?_⟩
   dsimp only
   rw[Ea b3 rfl,Ea hb2 rfl]
   omega
  ·have q2:by_ x.s k=x.q:=Decidable.not_not.1 q2
   repeat' first
    | (guard_target=~need _ _;refine Ab rfl ?_)
    | (guard_target=~Ae (Ad _ _ _ _) _;refine Ac (ldB hb2 rfl) ?_)
    | (guard_target=~Af (.int _) _ _;refine Ar ?_)
    | (guard_target=~Af .str _ _;refine Al ?_)
    | (guard_target=~Af .bool _ _;refine Aq ?_)
   refine FL hb2 rfl fun st3 e3 b3=>?_
   rw[w1 k (by omega)]at b3
   have h3:=h2.of e3 b3
   repeat' first
    | (guard_target=~need _ _;refine Ab rfl ?_)
    | (guard_target=~Ae (Ad _ _ _ _) _;refine Ac (ldB b3 rfl) ?_)
    | (guard_target=~Af (.int _) _ _;refine Ar ?_)
    | (guard_target=~Af .str _ _;refine Al ?_)
    | (guard_target=~Af .bool _ _;refine Aq ?_)
   refine Aa (fun q3=>?_) fun q3=>?_
   ·rw[Tl (by omega) q2 (fun h=>absurd h (by omega))]at hq
    exact h0 _ st3 hq (e2.trans e3.pm) h3
   ·repeat' first
     | (guard_target=~need _ _;refine Ab rfl ?_)
     | (guard_target=~Ae (Ad _ _ _ _) _;refine Ac (ldB b3 rfl) ?_)
     | (guard_target=~Af (.int _) _ _;refine Ar ?_)
     | (guard_target=~Af .str _ _;refine Al ?_)
     | (guard_target=~Af .bool _ _;refine Aq ?_)
    refine⟨⟨by omega,by omega⟩,?_⟩
    repeat' first
     | (guard_target=~need _ _;refine Ab rfl ?_)
     | (guard_target=~Ae (Ad _ _ _ _) _;refine Ac (ldB b3 rfl) ?_)
     | (guard_target=~Af (.int _) _ _;refine Ar ?_)
     | (guard_target=~Af .str _ _;refine Al ?_)
     | (guard_target=~Af .bool _ _;refine Aq ?_)
    rw[tn]
    refine Aa (fun q4=>?_) fun q4=>?_
    ·rw[Tl (by omega) q2 (fun h=>q4)]at hq
     exact h0 _ st3 hq (e2.trans e3.pm) h3
    ·repeat' first
      | (guard_target=~need _ _;refine Ab rfl ?_)
      | (guard_target=~Ae (Ad _ _ _ _) _;refine Ac (ldB b3 rfl) ?_)
      | (guard_target=~Af (.int _) _ _;refine Ar ?_)
      | (guard_target=~Af .str _ _;refine Al ?_)
      | (guard_target=~Af .bool _ _;refine Aq ?_)
     refine FL b3 rfl fun st4 e4 b4=>?_
     rw[w1 (k+1) (by omega)]at b4
     rw[X1 (by omega) q2 (Decidable.not_not.1 q4)]at hq
     refine⟨⟨rfl,(e2.trans e3.pm).trans e4.pm,k+2,h3.of e4 b4,by omega,by omega,hq⟩,?_⟩
     dsimp only
     rw[Ea b4 rfl,Ea hb2 rfl]
     omega
 ·repeat' first
   | (guard_target=~need _ _;refine Ab rfl ?_)
   | (guard_target=~Ae (Ad _ _ _ _) _;refine Ac (ldB hb2 rfl) ?_)
   | (guard_target=~Af (.int _) _ _;refine Ar ?_)
   | (guard_target=~Af .str _ _;refine Al ?_)
   | (guard_target=~Af .bool _ _;refine Aq ?_)
  rw[W7 (i:=k) (by omega)]at hq
  exact Dp h2 fun st' e3 k3=>h1 _ st' hq (e2.trans e3) k3
end
end
theorem QE_le {q:Int} {s:B8}:∀(n i e:Nat),s.length-i<=n->QE q s i=some e->i<e/\e<=s.length:=by
 intro n
 induction n with
 | zero=>intro i e h he;rw[W7 (by omega)]at he;cases he
 | succ n ih=>
  intro i e h he
  by_cases hi:i<s.length
  ·by_cases hb:by_ s i=q
   ·by_cases h2:i+1<s.length/\by_ s (i+1)=q
    ·rw[X1 h2.1 hb h2.2]at he
     have:=ih (i+2) e (by omega) he
     omega
    ·rw[Tl hi hb (fun h3 h4=>h2 ⟨h3,h4⟩)]at he
     cases he;omega
   ·rw[Vw hi hb]at he
    have:=ih (i+1) e (by omega) he
    omega
  ·rw[W7 (by omega)]at he;cases he
theorem Lh {s:B8} {i e:Nat} (h:i<=e) (h2:e<=s.length):(slc s i e).length=e-i:=by
 unfold slc;rw[List.length_drop,List.length_take];omega
theorem F3 {s:B8} {i e:Nat} (h:i<=e):s.drop i=slc s i e++s.drop e:=by
 unfold slc
 rw[G0]
 have:s.drop e=(s.drop i).drop (e-i):=by rw[List.drop_drop];congr 1;omega
 rw[this,List.take_append_drop]
theorem slc_get {s:B8} {i e:Nat} (h:i<e) (h2:e<=s.length):by_ (slc s i e) 0=by_ s i:=by
 unfold by_ slc
 rw[JV,List.getD_eq_getElem?_getD,List.getD_eq_getElem?_getD,List.getElem?_take,if_pos (by omega)]
 rfl
theorem Sr {s:B8} {e:Nat} (h:e<s.length):slc s e (e+1)=[s.getD e 0]:=by
 unfold slc
 rw[G0,RH _ _ 0 h]
 simp
theorem PE_le {a q:Int} {s:B8}:∀(n i e:Nat),s.length-i<=n->i<=s.length->PE a q s i= .ok e->i<=e/\e<=s.length/\(e<s.length->by_ s e=a∨by_ s e=10∨by_ s e=13)/\(i<e->by_ s i≠q):=by
 intro n
 induction n with
 | zero=>intro i e h hi he;rw[Tm (by omega)]at he;cases he;exact⟨by omega,by omega,fun h=>absurd h (by omega),fun h=>absurd h (by omega)⟩
 | succ n ih=>
  intro i e h hi he
  by_cases hl:i<s.length
  ·by_cases hb:by_ s i=a∨by_ s i=10∨by_ s i=13
   ·rw[N0 hl hb]at he;cases he;exact⟨by omega,by omega,fun _=>hb,fun h=>absurd h (by omega)⟩
   ·by_cases hq:by_ s i=q
    ·rw[X3 hl hb hq]at he;cases he
    ·rw[X2 hl hb hq]at he
     obtain⟨h1,h2,h3,_⟩:=ih (i+1) e (by omega) (by omega) he
     exact⟨by omega,h2,h3,fun _=>hq⟩
  ·rw[Tm (by omega)]at he;cases he;exact⟨by omega,by omega,fun h=>absurd h (by omega),fun h=>absurd h (by omega)⟩
theorem Cj {a q:Int} {s:B8} {i e:Nat} (hi:i<=s.length) (h:CD a q s i= .ok e):i<=e/\e<=s.length:=by
 unfold CD at h
 split at h
 ·split at h
  ·rename_i e' he;cases h;have:=QE_le _ _ _ (Nat.le_refl _) he;omega
  ·cases h
 ·split at h
  ·rename_i e' he;cases h;have:=PE_le _ _ _ (Nat.le_refl _) hi he;omega
  ·cases h
theorem byte_of (q:Int) (s:B8) (i:Nat) (h:i<s.length) (hq:by_ s i=q):∃c:UInt8,(c.toNat:Int)=q/\s.getD i 0=c:=⟨s.getD i 0,hq,rfl⟩
theorem Tf {a q:Int} {s:B8} {i e:Nat} (hi:i<=s.length) (h:CD a q s i= .ok e):P9 q (slc s i e):=by
 unfold CD at h
 split at h
 ·rename_i hc
  split at h
  ·rename_i e' he
   cases h
   obtain⟨c,hc1,hc2⟩:=byte_of q s i hc.1 hc.2
   obtain⟨t,rest,h1,h2⟩:=YG hc1 _ _ _ _ (Nat.le_refl _) he
   right;right
   refine⟨c,t,hc1,?_⟩
   have hle:=QE_le _ _ _ (Nat.le_refl _) he
   unfold slc
   rw[G0,RH _ _ 0 hc.1,hc2,h1,show e-i=(dbl c t++[c]).length+1 by simp;omega,List.take_succ_cons]
   congr 1
   rw[show dbl c t++c::rest=(dbl c t++[c])++rest by simp,List.take_left]
  ·cases h
 ·rename_i hc
  split at h
  ·rename_i e' he
   cases h
   have hle:=PE_le _ _ _ (Nat.le_refl _) hi he
   by_cases hlt:i<e
   ·right;left
    rw[slc_get hlt hle.2.1]
    exact hle.2.2.2 hlt
   ·left
    apply List.eq_nil_of_length_eq_zero
    rw[Lh hle.1 hle.2.1];omega
  ·cases h
theorem Zy (q:Int):∀(n:Nat) (l:B8),l.length<=n->(NG q l).length<=l.length:=by
 intro n
 induction n with
 | zero=>intro l h;have:l=[]:=List.eq_nil_of_length_eq_zero (by omega);subst this;simp[NG]
 | succ n ih=>
  intro l h
  match l,h with
  | [],_=>simp[NG]
  | [c],_=>simp[NG]
  | c::c2::l,h=>
   simp only[NG]
   split
   ·have:=ih l (by simp at h;omega);simp;omega
   ·have:=ih (c2::l) (by simp at h⊢;omega);simp at this⊢;omega
theorem txt_len (q:Int) (c:B8):(txt q c).length<=c.length:=by
 unfold txt
 split
 ·omega
 ·have:=Zy q _ ((c.take (c.length-1)).drop 1) (Nat.le_refl _)
  simp at this⊢;omega
theorem Fi {s:B8} {e n:Nat} (he:e<=s.length) (h:D3 s e= .ok n):e+n<=s.length/\(n=0->e=s.length)/\(0<n->by_ s (e+n-1)=10)/\(e<s.length->by_ s e=10∨by_ s e=13):=by
 unfold D3 at h
 split at h
 ·cases h;exact⟨by omega,fun _=>by omega,fun h=>by omega,fun h=>by omega⟩
 split at h
 ·rename_i h1 h2;cases h;exact⟨by omega,fun h=>by omega,fun _=>by simpa using h2,fun _=> .inl h2⟩
 split at h
 ·cases h
 split at h
 ·cases h
 split at h
 ·rename_i h1 h2 h3 h4 h5;cases h;exact⟨by omega,fun h=>by omega,fun _=>by simpa using h5,fun _=> .inr (Decidable.not_not.1 h3)⟩
 ·cases h
inductive Hh (a q:Int) (s:B8):Nat->List Nd->Nat->Nat->Prop where
 | last {i e n:Nat}:CD a q s i= .ok e->¬(e<s.length/\by_ s e=a)->D3 s e= .ok n->Hh a q s i [KM s i e []] e n
 | more {i e f n:Nat} {ks:List Nd}:CD a q s i= .ok e->e<s.length->by_ s e=a->Hh a q s (e+1) ks f n->Hh a q s i (KM s i e [.mk 11 [] [s.getD e 0] [] []]::ks) f n
inductive Gz (a q:Int) (s:B8):Nat->List Nd->Prop where
 | nil {i:Nat}:s.length<=i->Gz a q s i []
 | cons {i e n:Nat} {ks rs:List Nd}:i<s.length->Hh a q s i ks e n->Gz a q s (e+n) rs->Gz a q s i (.mk 8 [] [] ks (slc s e (e+n))::rs)
theorem Hh.le {a q:Int} {s:B8} {i:Nat} {ks:List Nd} {e n:Nat} (h:Hh a q s i ks e n):i<=s.length->i<=e/\e+n<=s.length/\1<=ks.length/\ks.length<=e-i+1/\D3 s e= .ok n:=by
 induction h with
 | last h1 h2 h3=>intro hi;have:=Cj hi h1;have:=Fi this.2 h3;exact⟨by omega,by omega,by simp,by simp,h3⟩
 | more h1 h2 h3 h4 ih=>intro hi;have:=Cj hi h1;have ih:=ih (by omega);refine⟨by omega,by omega,by simp,?_,ih.2.2.2.2⟩;rw[List.length_cons];omega
theorem Hh.text {a q:Int} {s:B8} {i:Nat} {ks:List Nd} {e n:Nat} (h:Hh a q s i ks e n):i<=s.length->Gi ks=slc s i e:=by
 induction h with
 | last h1 h2 h3=>intro hi;simp[Gi,CF,KM]
 | @more i e e' n ks h1 h2 h3 h4 ih=>
  intro hi
  have hl:=Cj hi h1
  have hl2:=h4.le (by omega)
  simp only[Gi,CF,KM,List.nil_append,List.append_nil]
  rw[ih (by omega),<-Sr h2]
  have e1:=F3 (s:=s) (i:=i) (e:=e') (by omega)
  have e2:=F3 (s:=s) (i:=i) (e:=e) (by omega)
  have e3:=F3 (s:=s) (i:=e) (e:=e+1) (by omega)
  have e4:=F3 (s:=s) (i:=e+1) (e:=e') (by omega)
  rw[e2,e3,e4,<-List.append_assoc,<-List.append_assoc]at e1
  have:=List.append_inj_left' e1 rfl
  rw[<-this,List.append_assoc]
theorem Gz.text {a q:Int} {s:B8} {i:Nat} {rs:List Nd} (h:Gz a q s i rs):i<=s.length->Gi rs=s.drop i:=by
 induction h with
 | nil h=>intro hi;rw[List.drop_of_length_le h];rfl
 | @cons i e n ks rs h1 h2 h3 ih=>
  intro hi
  have hl:=h2.le (by omega)
  simp only[Gi,CF,List.nil_append]
  rw[ih (by omega),h2.text (by omega),List.append_assoc,<-F3 (by omega),<-F3 (by omega)]
def Xa (a q:Int) (n:Nd):Prop:=∃c mark,n= .mk 5 [] [] (.mk 2 [] c [] []::mark) []/\P9 q c/\(mark=[]∨∃b:UInt8,(b.toNat:Int)=a/\mark=[.mk 11 [] [b] [] []])
def RecF (a q:Int) (n:Nd):Prop:=∃ks t,n= .mk 8 [] [] ks t/\1<=ks.length/\∀k∈ks,Xa a q k
theorem Hh.form {a q:Int} {s:B8} {i:Nat} {ks:List Nd} {e n:Nat} (h:Hh a q s i ks e n):i<=s.length->∀k∈ks,Xa a q k:=by
 induction h with
 | last h1 h2 h3=>intro hi k hk;rw[List.mem_singleton]at hk;subst hk;exact⟨_,_,rfl,Tf hi h1,.inl rfl⟩
 | @more i e e' n ks h1 h2 h3 h4 ih=>
  intro hi k hk
  have hl:=Cj hi h1
  rcases List.mem_cons.1 hk with rfl | hk
  ·exact⟨_,_,rfl,Tf hi h1,.inr ⟨s.getD e 0,h3,rfl⟩⟩
  ·exact ih (by omega) k hk
theorem Gz.form {a q:Int} {s:B8} {i:Nat} {rs:List Nd} (h:Gz a q s i rs):i<=s.length->∀r∈rs,RecF a q r:=by
 induction h with
 | nil h=>intro hi r hr;cases hr
 | @cons i e n ks rs h1 h2 h3 ih=>
  intro hi r hr
  have hl:=h2.le (by omega)
  rcases List.mem_cons.1 hr with rfl | hr
  ·exact⟨_,_,rfl,hl.2.2.1,h2.form (by omega)⟩
  ·exact ih (by omega) r hr
section
theorem ldsB {st:St} {b i n:Nat} {l xs:List TV} (hb:st.box b= .cells l) (hx:(l.drop i).take n=xs) (hn:xs.length=n):Ah st [] (.t (.box b i)) 0 n=some xs:=by
 have gen:∀n j,j+n<=(l.drop i).length->Ah st [] (.t (.box b i)) j n=some (((l.drop i).drop j).take n):=by
  intro n
  induction n with
  | zero=>intro j h;simp[Ah]
  | succ n ih=>
   intro j h
   have hj:j<(l.drop i).length:=by omega
   have h1:Ad st [] (.t (.box b i)) j=some (l.drop i)[j]:=by
    simp only[Ad,hb]
    rw[List.getElem_drop,List.getElem?_eq_getElem]
   simp only[Ah,h1,ih (j+1) (by omega)]
   rw[List.drop_eq_getElem_cons hj]
   rfl
 rw[gen n 0 (by rw[<-hx,List.length_take]at hn;omega),<-hx]
 rfl
section
variable {p m:Nat} {x:Cx} {hd ty:Bool} {l2 l3 l4:Int} {ns:List B8} {I n w o e:Int} {st:St}
theorem Z3 {i:Nat} {K:Bool->St->Prop} (hI:I=(i:Int)) (hi:i<=x.s.length) (hl:x.s.length<=2000000) (h:PSD p m x hd ty l2 l3 l4 ns I n w o e st)
  (h0:∀(k:Nat) st',CD x.a x.q x.s i= .ok k->StX (PM p m) st st'->PSD p m x hd ty l2 l3 l4 ns k n w o e st'->K true st')
  (h1:∀(o':Nat) e' (k:Int) st',CD x.a x.q x.s i= .error (o',e')->StX (PM p m) st st'->PSD p m x hd ty l2 l3 l4 ns k n w o' e' st'->K false st'):
  CallT PR Ci [.box p 0] [.one .bool] st K:=by
 subst hI
 have hb:=h.bx
 have tn:∀k:Nat,Int.toNat (k:Int)=k:=fun k=>rfl
 have w1:∀k:Nat,k<=x.s.length->i64.wrap ((k:Int)+1)=((k+1:Nat):Int):=fun k hk=>by rw[Ai _ (by omega) (by omega)];omega
 have loop:∀k:Nat,(i<x.s.length/\by_ x.s i=x.q->False)->CD x.a x.q x.s i=match PE x.a x.q x.s i with | .ok e=> .ok e | .error o=> .error (o,3):=fun k hc=>by
  unfold CD;rw[if_neg hc]<;>(cases PE x.a x.q x.s i<;>rfl)
 refine I0 p st K ?_
 repeat' first
  | (guard_target=~need _ _;refine Ab rfl ?_)
  | (guard_target=~Ae (Ad _ _ _ _) _;refine Ac (ldB hb rfl) ?_)
  | (guard_target=~Af (.int _) _ _;refine Ar ?_)
  | (guard_target=~Af .str _ _;refine Al ?_)
  | (guard_target=~Af .bool _ _;refine Aq ?_)
 refine Aa (fun g=>?_) fun g=>?_
 ·repeat' first
   | (guard_target=~need _ _;refine Ab rfl ?_)
   | (guard_target=~Ae (Ad _ _ _ _) _;refine Ac (ldB hb rfl) ?_)
   | (guard_target=~Af (.int _) _ _;refine Ar ?_)
   | (guard_target=~Af .str _ _;refine Al ?_)
   | (guard_target=~Af .bool _ _;refine Aq ?_)
  refine⟨⟨by omega,by omega⟩,?_⟩
  repeat' first
   | (guard_target=~need _ _;refine Ab rfl ?_)
   | (guard_target=~Ae (Ad _ _ _ _) _;refine Ac (ldB hb rfl) ?_)
   | (guard_target=~Af (.int _) _ _;refine Ar ?_)
   | (guard_target=~Af .str _ _;refine Al ?_)
   | (guard_target=~Af .bool _ _;refine Aq ?_)
  rw[tn]
  refine Aa (fun g2=>?_) fun g2=>?_
  ·have hc:CD x.a x.q x.s i=match QE x.q x.s (i+1)with | some e=> .ok e | none=> .error (x.s.length,4):=by
    unfold CD;rw[if_pos ⟨by omega,g2⟩]<;>(cases QE x.q x.s (i+1)<;>rfl)
   exact V4 rfl (by omega) hl h (fun k st' hq=>h0 k st' (by rw[hc,hq])) fun k st' hq=>h1 _ _ k st' (by rw[hc,hq])
  have hc:=loop i fun hh=>g2 hh.2
  refine⟨fun p' st'=>TV.box p 0=p'/\StX (PM p m) st st'/\∃k:Nat,PSD p m x hd ty l2 l3 l4 ns k n w o e st'/\k<=x.s.length/\PE x.a x.q x.s i=PE x.a x.q x.s k,
   fun _ st'=>(x.s.length-Nn st' p 10).toNat,⟨rfl,StX.refl _ _,i,h,by omega,rfl⟩,?_⟩
  rintro _ st2 ⟨rfl,e2,k,h2,hk2,hq⟩
  have hb2:=h2.bx
  have next:¬(by_ x.s k=x.a∨by_ x.s k=10∨by_ x.s k=13)->k<x.s.length->by_ x.s k≠x.q->∀st3,StX (·=p) st2 st3->st3.box p= .cells ((pcl x hd ty l2 l3 l4 m k n w o e).set 10 (.int .i64 (i64.wrap ((k:Int)+1))))->
    (TV.box p 0=TV.box p 0/\StX (PM p m) st st3/\∃k:Nat,PSD p m x hd ty l2 l3 l4 ns k n w o e st3/\k<=x.s.length/\PE x.a x.q x.s i=PE x.a x.q x.s k)/\(x.s.length-Nn st3 p 10).toNat<(x.s.length-Nn st2 p 10).toNat:=fun c1 c2 c3 st3 e3 b3=>by
   rw[w1 k (by omega)]at b3
   rw[X2 c2 c1 c3]at hq
   refine⟨⟨rfl,e2.trans e3.pm,k+1,h2.of e3 b3,by omega,hq⟩,?_⟩
   rw[Ea b3 rfl,Ea hb2 rfl]
   omega
  repeat' first
   | (guard_target=~need _ _;refine Ab rfl ?_)
   | (guard_target=~Ae (Ad _ _ _ _) _;refine Ac (ldB hb2 rfl) ?_)
   | (guard_target=~Af (.int _) _ _;refine Ar ?_)
   | (guard_target=~Af .str _ _;refine Al ?_)
   | (guard_target=~Af .bool _ _;refine Aq ?_)
  refine Aa (fun q1=>?_) fun q1=>?_
  ·repeat' first
    | (guard_target=~need _ _;refine Ab rfl ?_)
    | (guard_target=~Ae (Ad _ _ _ _) _;refine Ac (ldB hb2 rfl) ?_)
    | (guard_target=~Af (.int _) _ _;refine Ar ?_)
    | (guard_target=~Af .str _ _;refine Al ?_)
    | (guard_target=~Af .bool _ _;refine Aq ?_)
   refine⟨⟨by omega,by omega⟩,?_⟩
   repeat' first
    | (guard_target=~need _ _;refine Ab rfl ?_)
    | (guard_target=~Ae (Ad _ _ _ _) _;refine Ac (ldB hb2 rfl) ?_)
    | (guard_target=~Af (.int _) _ _;refine Ar ?_)
    | (guard_target=~Af .str _ _;refine Al ?_)
    | (guard_target=~Af .bool _ _;refine Aq ?_)
   rw[tn]
   refine Aa (fun q2=>Aa (fun _=>?_) fun q3=>absurd q2 q3) fun q2=>Aa (fun q3=>Aa (fun _=>?_) fun q4=>absurd q3 q4) fun q3=>Aa (fun q4=>?_) fun q4=>?_
   ·rw[N0 (by omega) (.inl q2)]at hq;exact h0 k st2 (by rw[hc,hq]) e2 h2
   ·rw[N0 (by omega) (.inr (.inl q3))]at hq;exact h0 k st2 (by rw[hc,hq]) e2 h2
   ·rw[N0 (by omega) (.inr (.inr q4))]at hq;exact h0 k st2 (by rw[hc,hq]) e2 h2
   ·have hno:¬(by_ x.s k=x.a∨by_ x.s k=10∨by_ x.s k=13):=by rintro(h | h | h);exact q2 h;exact q3 h;exact q4 h
    repeat' first
     | (guard_target=~need _ _;refine Ab rfl ?_)
     | (guard_target=~Ae (Ad _ _ _ _) _;refine Ac (ldB hb2 rfl) ?_)
     | (guard_target=~Af (.int _) _ _;refine Ar ?_)
     | (guard_target=~Af .str _ _;refine Al ?_)
     | (guard_target=~Af .bool _ _;refine Aq ?_)
    refine Aa (fun q5=>?_) fun q5=>?_
    ·repeat' first
      | (guard_target=~need _ _;refine Ab rfl ?_)
      | (guard_target=~Ae (Ad _ _ _ _) _;refine Ac (ldB hb2 rfl) ?_)
      | (guard_target=~Af (.int _) _ _;refine Ar ?_)
      | (guard_target=~Af .str _ _;refine Al ?_)
      | (guard_target=~Af .bool _ _;refine Aq ?_)
     rw[X3 (by omega) hno q5]at hq
     exact Dp h2 fun st' e3 k3=>h1 _ _ _ st' (by rw[hc,hq]) (e2.trans e3) k3
    ·repeat' first
      | (guard_target=~need _ _;refine Ab rfl ?_)
      | (guard_target=~Ae (Ad _ _ _ _) _;refine Ac (ldB hb2 rfl) ?_)
      | (guard_target=~Af (.int _) _ _;refine Ar ?_)
      | (guard_target=~Af .str _ _;refine Al ?_)
      | (guard_target=~Af .bool _ _;refine Aq ?_)
     exact FL hb2 rfl fun st3 e3 b3=>next hno (by omega) q5 st3 e3 b3
  ·rw[Tm (i:=k) (by omega)]at hq;exact h0 k st2 (by rw[hc,hq]) e2 h2
 ·--at the end
  have hc:=loop i fun hh=>by omega
  rw[Tm (i:=i) (by omega)]at hc
  refine⟨fun p' st'=>TV.box p 0=p'/\st=st',fun _ st'=>0,⟨rfl,rfl⟩,?_⟩
  rintro _ _ ⟨rfl,rfl⟩
  repeat' first
   | (guard_target=~need _ _;refine Ab rfl ?_)
   | (guard_target=~Ae (Ad _ _ _ _) _;refine Ac (ldB hb rfl) ?_)
   | (guard_target=~Af (.int _) _ _;refine Ar ?_)
   | (guard_target=~Af .str _ _;refine Al ?_)
   | (guard_target=~Af .bool _ _;refine Aq ?_)
  refine Aa (fun q1=>absurd q1 g) fun q1=>?_
  exact h0 i st hc (StX.refl _ _) h
abbrev PM3 (p m r:Nat):Nat->Prop:=fun i=>i=p∨i=m∨i=r
theorem StX.pm3 {p m r:Nat} {a b:St} (h:StX (PM p m) a b):StX (PM3 p m r) a b:=h.mono fun _ g=>g.elim .inl fun g=> .inr (.inl g)
theorem PSD.other {p m r:Nat} {x:Cx} {hd ty:Bool} {l2 l3 l4:Int} {ns:List B8} {i n w o e:Int} {st st':St} (h:PSD p m x hd ty l2 l3 l4 ns i n w o e st) (k:StX (·=r) st st') (hp:p≠r) (hm:m≠r):
  PSD p m x hd ty l2 l3 l4 ns i n w o e st':=h.keep k hp hm
theorem Ux {i r:Nat} {c0 c1 c2 c3:TV} {K:Bool->St->Prop} (hI:I=(i:Int)) (hi:i<=x.s.length) (hl:x.s.length<=2000000) (h:PSD p m x hd ty l2 l3 l4 ns I n w o e st)
  (hrp:p≠r) (hrm:m≠r) (hrl:r<st.nb) (hr:st.box r= .cells [c0,c1,c2,c3,.str []])
  (h0:∀(k:Nat) st',D3 x.s i= .ok k->StX (PM3 p m r) st st'->PSD p m x hd ty l2 l3 l4 ns ((i+k:Nat):Int) n w o e st'->st'.box r= .cells [c0,c1,c2,c3,.str (slc x.s i (i+k))]->K true st')
  (h1:∀(o':Nat) e' (k:Int) st',D3 x.s i= .error (o',e')->StX (PM3 p m r) st st'->PSD p m x hd ty l2 l3 l4 ns k n w o' e' st'->st'.box r= .cells [c0,c1,c2,c3,.str []]->K false st'):
  CallT PR AP [.box p 0,.box r 0] [.one .bool] st K:=by
 subst hI
 have hb:=h.bx
 have tn:∀k:Nat,Int.toNat (k:Int)=k:=fun k=>rfl
 have w1:∀k:Nat,k<=x.s.length->i64.wrap ((k:Int)+1)=((k+1:Nat):Int):=fun k hk=>by rw[Ai _ (by omega) (by omega)];omega
 have rk:∀st',StX (·=p) st st'->st'.box r= .cells [c0,c1,c2,c3,.str []]:=fun st' e=>by rw[e.box r hrl (fun h=>hrp h.symm)];exact hr
 have rk2:∀st',StX (PM p m) st st'->st'.box r= .cells [c0,c1,c2,c3,.str []]:=fun st' e=>by rw[e.box r hrl (fun h=>h.elim (fun h=>hrp h.symm) fun h=>hrm h.symm)];exact hr
 have hp3:∀st1 st2,StX (PM p m) st st1->StX (·=r) st1 st2->StX (PM3 p m r) st st2:=fun st1 st2 e1 e2=>e1.pm3.trans (e2.mono fun _ g=> .inr (.inr g))
 unfold D3 at h0 h1
 refine Ho p r st K ?_
 repeat' first
  | (guard_target=~need _ _;refine Ab rfl ?_)
  | (guard_target=~Ae (Ad _ _ _ _) _;refine Ac (ldB hb rfl) ?_)
  | (guard_target=~Af (.int _) _ _;refine Ar ?_)
  | (guard_target=~Af .str _ _;refine Al ?_)
  | (guard_target=~Af .bool _ _;refine Aq ?_)
 refine Aa (fun g=>?_) fun g=>?_
 ·rw[if_pos (by omega)]at h0
  refine h0 0 st rfl (StX.refl _ _) h ?_
  rw[hr]
  have:slc x.s i (i+0)=[]:=List.eq_nil_of_length_eq_zero (by rw[Lh (by omega) (by omega)];omega)
  rw[this]
 rw[if_neg (by omega)]at h0 h1
 repeat' first
  | (guard_target=~need _ _;refine Ab rfl ?_)
  | (guard_target=~Ae (Ad _ _ _ _) _;refine Ac (ldB hb rfl) ?_)
  | (guard_target=~Af (.int _) _ _;refine Ar ?_)
  | (guard_target=~Af .str _ _;refine Al ?_)
  | (guard_target=~Af .bool _ _;refine Aq ?_)
 refine⟨⟨by omega,by omega⟩,?_⟩
 rw[tn]
 refine Aa (fun g2=>?_) fun g2=>Aa (fun g3=>?_) fun g3=>?_
 ·have g2':by_ x.s i=13:=g2
  rw[if_neg (by omega),if_neg (by omega)]at h0 h1
  repeat' first
   | (guard_target=~need _ _;refine Ab rfl ?_)
   | (guard_target=~Ae (Ad _ _ _ _) _;refine Ac (ldB hb rfl) ?_)
   | (guard_target=~Af (.int _) _ _;refine Ar ?_)
   | (guard_target=~Af .str _ _;refine Al ?_)
   | (guard_target=~Af .bool _ _;refine Aq ?_)
  refine FL hb rfl fun st1 e1 b1=>?_
  rw[w1 i (by omega)]at b1
  have k1:=h.of e1 b1
  repeat' first
   | (guard_target=~need _ _;refine Ab rfl ?_)
   | (guard_target=~Ae (Ad _ _ _ _) _;refine Ac (ldB b1 rfl) ?_)
   | (guard_target=~Af (.int _) _ _;refine Ar ?_)
   | (guard_target=~Af .str _ _;refine Al ?_)
   | (guard_target=~Af .bool _ _;refine Aq ?_)
  refine Aa (fun g3=>?_) fun g3=>?_
  ·rw[if_pos (by omega)]at h1
   repeat' first
    | (guard_target=~need _ _;refine Ab rfl ?_)
    | (guard_target=~Ae (Ad _ _ _ _) _;refine Ac (ldB b1 rfl) ?_)
    | (guard_target=~Af (.int _) _ _;refine Ar ?_)
    | (guard_target=~Af .str _ _;refine Al ?_)
    | (guard_target=~Af .bool _ _;refine Aq ?_)
   have e3:((i+1:Nat):Int)=(x.s.length:Int):=g3
   rw[e3]
   exact Dp k1 fun st2 e2 k2=>h1 _ _ _ st2 rfl (e1.pm.trans e2).pm3 k2 (rk2 _ (e1.pm.trans e2))
  rw[if_neg (by omega)]at h0 h1
  repeat' first
   | (guard_target=~need _ _;refine Ab rfl ?_)
   | (guard_target=~Ae (Ad _ _ _ _) _;refine Ac (ldB b1 rfl) ?_)
   | (guard_target=~Af (.int _) _ _;refine Ar ?_)
   | (guard_target=~Af .str _ _;refine Al ?_)
   | (guard_target=~Af .bool _ _;refine Aq ?_)
  refine⟨⟨by omega,by omega⟩,?_⟩
  rw[tn]
  refine Aa (fun g4=>?_) fun g4=>?_
  ·have g4':by_ x.s (i+1)≠10:=g4
   rw[if_neg g4']at h1
   exact Dp k1 fun st2 e2 k2=>h1 _ _ _ st2 rfl (e1.pm.trans e2).pm3 k2 (rk2 _ (e1.pm.trans e2))
  ·have g4':by_ x.s (i+1)=10:=Decidable.not_not.1 g4
   rw[if_pos g4']at h0
   repeat' first
    | (guard_target=~need _ _;refine Ab rfl ?_)
    | (guard_target=~Ae (Ad _ _ _ _) _;refine Ac (ldB b1 rfl) ?_)
    | (guard_target=~Af (.int _) _ _;refine Ar ?_)
    | (guard_target=~Af .str _ _;refine Al ?_)
    | (guard_target=~Af .bool _ _;refine Aq ?_)
   refine FL b1 rfl fun st2 e2 b2=>?_
   rw[w1 (i+1) (by omega)]at b2
   have k2:=k1.of e2 b2
   repeat' first
    | (guard_target=~need _ _;refine Ab rfl ?_)
    | (guard_target=~Ae (Ad _ _ _ _) _;refine Ac (ldB b2 rfl) ?_)
    | (guard_target=~Af (.int _) _ _;refine Ar ?_)
    | (guard_target=~Af .str _ _;refine Al ?_)
    | (guard_target=~Af .bool _ _;refine Aq ?_)
   refine⟨⟨by omega,by omega,by omega⟩,FL (rk st2 (e1.trans e2)) rfl fun st3 e3 b3=>?_⟩
   exact h0 2 st3 rfl (hp3 _ _ (e1.pm.trans e2.pm) e3) (k2.other e3 hrp hrm) b3
 ·have g3':by_ x.s i=10:=g3
  rw[if_pos g3']at h0
  repeat' first
   | (guard_target=~need _ _;refine Ab rfl ?_)
   | (guard_target=~Ae (Ad _ _ _ _) _;refine Ac (ldB hb rfl) ?_)
   | (guard_target=~Af (.int _) _ _;refine Ar ?_)
   | (guard_target=~Af .str _ _;refine Al ?_)
   | (guard_target=~Af .bool _ _;refine Aq ?_)
  refine FL hb rfl fun st1 e1 b1=>?_
  rw[w1 i (by omega)]at b1
  have k1:=h.of e1 b1
  repeat' first
   | (guard_target=~need _ _;refine Ab rfl ?_)
   | (guard_target=~Ae (Ad _ _ _ _) _;refine Ac (ldB b1 rfl) ?_)
   | (guard_target=~Af (.int _) _ _;refine Ar ?_)
   | (guard_target=~Af .str _ _;refine Al ?_)
   | (guard_target=~Af .bool _ _;refine Aq ?_)
  refine⟨⟨by omega,by omega,by omega⟩,FL (rk st1 e1) rfl fun st3 e3 b3=>?_⟩
  exact h0 1 st3 rfl (hp3 _ _ e1.pm e3) (k1.other e3 hrp hrm) b3
 ·have g2':by_ x.s i≠13:=g2
  have g3':by_ x.s i≠10:=g3
  rw[if_neg g3',if_pos g2']at h1
  exact Dp h fun st2 e2 k2=>h1 _ _ _ st2 rfl e2.pm3 k2 (rk2 _ e2)
end
end
def Au:Nd->List Nd | .mk _ _ _ ks _=>ks
def AL (n:Nd):B8:=match Au n with | .mk _ _ c _ _::_=>c | []=>[]
theorem BQ (s:B8) (i e:Nat) (m:List Nd):AL (KM s i e m)=slc s i e:=rfl
theorem LI {x:Cx} {i:Nat} {v:Int} {ns:List B8} {e:Nat} {v1:Int} {ns1:List B8} (h:EM x false i v ns= .ok (e,v1,ns1)):
  3<=x.dep/\v<x.nod/\v1=v+1/\ns1=ns/\CD x.a x.q x.s i= .ok e/\(txt x.q (slc x.s i e)).length<=65536:=by
 simp only[EM,Gs,Bool.false_eq_true,if_false,false_and]at h
 split at h
 ·cases h
 ·split at h
  ·cases h
  ·simp only[bind,Except.bind]at h
   split at h
   ·cases h
   ·rename_i e' he
    split at h
    ·cases h
    ·cases h
     exact⟨by omega,by omega,rfl,rfl,he,by omega⟩
theorem SS {x:Cx} {i:Nat} {v:Int} {ns:List B8} {e:Nat} (h1:3<=x.dep) (h2:v<x.nod) (h3:CD x.a x.q x.s i= .ok e) (h4:(txt x.q (slc x.s i e)).length<=65536):
  EM x false i v ns= .ok (e,v+1,ns):=by
 simp only[EM,Gs,Bool.false_eq_true,if_false,false_and]
 rw[if_neg (by omega),if_neg (by omega)]
 simp only[bind,Except.bind,h3]
 rw[if_neg (by omega)]
theorem entE_9 {x:Cx} {i:Nat} {v:Int} {ns:List B8} (h:x.dep<3):EM x false i v ns= .error (i,9):=by
 simp only[EM,Gs,Bool.false_eq_true,if_false]
 rw[if_pos h];rfl
theorem entE_10 {x:Cx} {i:Nat} {v:Int} {ns:List B8} (h:3<=x.dep) (h2:x.nod<=v):EM x false i v ns= .error (i,10):=by
 simp only[EM,Gs,Bool.false_eq_true,if_false]
 rw[if_neg (by omega),if_pos h2];rfl
theorem MI {x:Cx} {i:Nat} {v:Int} {ns:List B8} {e:Nat} {v1:Int} {ns1:List B8} (h:EM x true i v ns= .ok (e,v1,ns1)):
  v1=v/\CD x.a x.q x.s i= .ok e/\(txt x.q (slc x.s i e)).length<=1024:=by
 simp only[EM,if_true,true_and]at h
 simp only[bind,Except.bind]at h
 split at h
 ·cases h
 ·rename_i e' he
  split at h
  ·cases h
  ·split at h
   ·cases h
   ·cases h
    exact⟨rfl,he,by omega⟩
abbrev Cx.lim (x:Cx) (d n:Int):Cx:={x with dep:=d,nod:=n}
theorem ZW {x:Cx} {num hd:Bool} {wid:Int}:∀(n:Nat) {acc:List Nd} {i:Nat} {v:Int} {ns:List B8} {e:Nat} {v':Int} {ns':List B8} {out:List Nd},
  i<=x.s.length->Cn x num wid hd n acc i v ns= .ok (e,v',ns',out)->∃ks m,out=acc++ks/\Hh x.a x.q x.s i ks e m/\v'=v+(if hd then 0 else(ks.length:Int))/\
   (∀k∈ks,(txt x.q (AL k)).length<=65536)/\(num=true->(out.length:Int)<=wid)/\(hd=false->3<=x.dep/\v'<=x.nod/\ns'=ns):=by
 intro n
 induction n with
 | zero=>intro acc i v ns e v' ns' out hi h;simp only[Cn]at h;cases h
 | succ n ih=>
  intro acc i v ns e v' ns' out hi h
  simp only[Cn]at h
  split at h
  ·cases h
  rename_i hw
  simp only[bind,Except.bind]at h
  split at h
  ·cases h
  rename_i p he
  obtain⟨e1,v1,ns1⟩:=p
  have hent:CD x.a x.q x.s i= .ok e1/\(txt x.q (slc x.s i e1)).length<=65536/\v1=v+(if hd then 0 else 1)/\(hd=false->3<=x.dep/\v1<=x.nod/\ns1=ns):=by
   cases hd with
   | false=>have:=LI he;exact⟨this.2.2.2.2.1,this.2.2.2.2.2,by simpa using this.2.2.1,fun _=>⟨this.1,by omega,this.2.2.2.1⟩⟩
   | true=>have:=MI he;exact⟨this.2.1,by omega,by simpa using this.1,fun h=>by cases h⟩
  obtain⟨c1,c2,c3,c4⟩:=hent
  have hle:=Cj hi c1
  simp only at h
  split at h
  ·rename_i hm
   obtain⟨ks,m,k1,k2,k3,k4,k5,k6⟩:=ih (by omega) h
   refine⟨_::ks,m,by rw[k1,List.append_assoc];rfl,.more c1 hm.1 hm.2 k2,?_,?_,k5,fun hh=>?_⟩
   ·rw[k3,c3];cases hd<;>simp<;>omega
   ·intro k hk
    rcases List.mem_cons.1 hk with rfl | hk
    ·exact c2
    ·exact k4 k hk
   ·have:=k6 hh;have:=c4 hh;exact⟨by omega,by omega,by rw[(k6 hh).2.2,this.2.2]⟩
  ·rename_i hm
   split at h
   ·cases h
   rename_i m hm2
   cases h
   refine⟨_,_,rfl,.last c1 hm hm2,by rw[c3];cases hd<;>simp,?_,?_,fun hh=>⟨(c4 hh).1,(c4 hh).2.1,(c4 hh).2.2⟩⟩
   ·intro k hk
    rw[List.mem_singleton]at hk;subst hk;exact c2
   ·intro hn
    rw[List.length_append,List.length_singleton]
    have:¬wid<=(acc.length:Int):=fun h=>hw ⟨hn,h⟩
    omega
theorem recE_of {x:Cx} {num:Bool} {wid:Int} (hdep:3<=x.dep):∀{i:Nat} {ks:List Nd} {e m:Nat},Hh x.a x.q x.s i ks e m->∀(n:Nat) {acc:List Nd} {v:Int} {ns:List B8},
  i<=x.s.length->x.s.length<i+n->(∀k∈ks,(txt x.q (AL k)).length<=65536)->(num=true->((acc.length+ks.length:Nat):Int)<=wid)->v+(ks.length:Int)<=x.nod->Cn x num wid false n acc i v ns= .ok (e,v+(ks.length:Int),ns,acc++ks):=by
 intro i ks e m h
 induction h with
 | @last i e m h1 h2 h3=>
  intro n acc v ns hi hn hk hw hv
  cases n with
  | zero=>omega
  | succ n=>
  simp only[Cn]
  rw[if_neg (by rintro⟨h,h'⟩;have:=hw h;simp at this;omega)]
  have hc:=hk _ (List.mem_singleton.2 rfl)
  rw[BQ]at hc
  rw[SS hdep (by simp at hv;omega) h1 hc]
  simp only[bind,Except.bind]
  rw[if_neg h2,h3]
  rfl
 | @more i e e' m ks h1 h2 h3 h4 ih=>
  intro n acc v ns hi hn hk hw hv
  cases n with
  | zero=>omega
  | succ n=>
  simp only[Cn]
  simp only[List.length_cons]at hw hv
  rw[if_neg (by rintro⟨h,h'⟩;have:=hw h;omega)]
  have hc:=hk _ (List.mem_cons_self ..)
  rw[BQ]at hc
  rw[SS hdep (by omega) h1 hc]
  simp only[bind,Except.bind]
  have hle:=Cj hi h1
  rw[if_pos ⟨h2,h3⟩,ih n (by omega) (by omega) (fun k hk2=>hk k (List.mem_cons_of_mem _ hk2)) (fun h=>by have:=hw h;rw[List.length_append,List.length_singleton];omega) (by omega),List.append_assoc,List.length_cons]
  congr 2
  have:v+1+(ks.length:Int)=v+((ks.length+1:Nat):Int):=by omega
  rw[this];rfl
theorem Yz {x:Cx} {num:Bool} {wid:Int} (d' n':Int):∀(n:Nat) {acc:List Nd} {i:Nat} {v:Int} {ns:List B8},
  Cn (x.lim d' n') num wid true n acc i v ns=Cn x num wid true n acc i v ns:=by
 intro n
 induction n with
 | zero=>intros;rfl
 | succ n ih=>
  intro acc i v ns
  simp only[Cn]
  have:EM (x.lim d' n') true i v ns=EM x true i v ns:=rfl
  rw[this]
  simp only[ih]
theorem ZV {x:Cx} {num:Bool} {wid:Int} {d' n':Int}:∀(n:Nat) {acc:List Nd} {i:Nat} {v:Int} {ns:List B8} {e:Nat} {v':Int} {ns':List B8} {out:List Nd},
  Cn x num wid false n acc i v ns= .ok (e,v',ns',out)->v<v'/\(3<=d'->v'<=n'->Cn (x.lim d' n') num wid false n acc i v ns= .ok (e,v',ns',out))/\
   (3<=d'->n'<v'->∃o,Cn (x.lim d' n') num wid false n acc i v ns= .error (o,10))/\(d'<3->∃o,Cn (x.lim d' n') num wid false n acc i v ns= .error (o,9)):=by
 intro n
 induction n with
 | zero=>intro acc i v ns e v' ns' out h;simp only[Cn]at h;cases h
 | succ n ih=>
  intro acc i v ns e v' ns' out h
  simp only[Cn]at h⊢
  split at h
  ·cases h
  rename_i hw
  rw[if_neg hw]
  simp only[bind,Except.bind]at h⊢
  split at h
  ·cases h
  rename_i p he
  obtain⟨e1,v1,ns1⟩:=p
  obtain⟨c1,c2,rfl,rfl,c3,c4⟩:=LI he
  simp only at h
  have e9:d'<3->EM (x.lim d' n') false i v ns1= .error (i,9):=fun h=>entE_9 h
  have e10:3<=d'->n'<=v->EM (x.lim d' n') false i v ns1= .error (i,10):=fun h h2=>entE_10 h h2
  have eok:3<=d'->v<n'->EM (x.lim d' n') false i v ns1= .ok (e1,v+1,ns1):=fun h h2=>SS h h2 c3 c4
  split at h
  ·rename_i hm
   obtain⟨k0,k1,k2,k3⟩:=ih h
   refine⟨by omega,fun h1 h2=>?_,fun h1 h2=>?_,fun h1=>?_⟩
   ·rw[eok h1 (by omega)]
    simp only
    rw[if_pos hm];exact k1 h1 h2
   ·by_cases hv:n'<=v
    ·rw[e10 h1 hv];exact⟨_,rfl⟩
    ·rw[eok h1 (by omega)]
     simp only
     rw[if_pos hm];exact k2 h1 h2
   ·rw[e9 h1];exact⟨_,rfl⟩
  ·rename_i hm
   split at h
   ·cases h
   rename_i m hm2
   cases h
   refine⟨by omega,fun h1 h2=>?_,fun h1 h2=>?_,fun h1=>?_⟩
   ·rw[eok h1 (by omega)]
    simp only
    rw[if_neg hm,hm2]
   ·rw[e10 h1 (by omega)];exact⟨_,rfl⟩
   ·rw[e9 h1];exact⟨_,rfl⟩
def Jp (s:B8) (num:Bool) (wid:Int) (R:Except (Nat×Int) (Nat×Int×List B8×List Nd)):Except (Nat×Int) (Nat×Int×List B8×Nd×Int):=
 match R with
 | .error e=> .error e
 | .ok (e,v2,ns2,ks)=>match D3 s e with
  | .error e=> .error e
  | .ok n=>if (ks.length:Int)<(if num then wid else(ks.length:Int))then .error (e,10)else .ok (e+n,v2,ns2,.mk 8 [] [] ks (slc s e (e+n)),if num then wid else(ks.length:Int))
theorem GF (x:Cx) (num:Bool) (wid:Int) (hd:Bool) (i:Nat) (v:Int) (ns:List B8):G1 x num wid hd i v ns=
  if hd=true then Jp x.s num wid (Cn x num wid hd (x.s.length+1) [] i v ns)else match Gs x.dep x.nod 2 i v with
   | .error e=> .error e
   | .ok v1=>Jp x.s num wid (Cn x num wid hd (x.s.length+1) [] i v1 ns):=by
 unfold G1 Jp
 cases hd with
 | true=>
  simp only[if_true,bind,Except.bind]
  rcases Cn x num wid true (x.s.length+1) [] i v ns with e | ⟨e,v2,ns2,ks⟩
  ·rfl
  ·cases h:D3 x.s e<;>simp[h]
 | false=>
  simp only[Bool.false_eq_true,if_false,bind,Except.bind]
  cases Gs x.dep x.nod 2 i v with
  | error e=>rfl
  | ok v1=>
   simp only
   rcases Cn x num wid false (x.s.length+1) [] i v1 ns with e | ⟨e,v2,ns2,ks⟩
   ·rfl
   ·cases h:D3 x.s e<;>simp[h]
theorem XZ {dep nod d:Int} {i:Nat} {v v1:Int} (h:Gs dep nod d i v= .ok v1):v1=v+1:=by
 unfold Gs at h
 split at h
 ·cases h
 split at h
 ·cases h
 ·cases h;rfl
theorem Gd {x:Cx} {num hd:Bool} {wid:Int} {i:Nat} {v:Int} {ns:List B8} {p:Nat×Int×List B8×Nd×Int} (h:G1 x num wid hd i v ns= .ok p):
  ∃v1,v1=v+(if hd then 0 else 1)/\Jp x.s num wid (Cn x num wid hd (x.s.length+1) [] i v1 ns)= .ok p:=by
 rw[GF]at h
 cases hd with
 | true=>exact⟨v,by simp,by simpa using h⟩
 | false=>
  simp only[Bool.false_eq_true,if_false]at h
  split at h
  ·cases h
  ·rename_i v1 h1
   exact⟨v1,by simpa using XZ h1,h⟩
theorem Lr {s:B8} {num:Bool} {wid:Int} {R:Except (Nat×Int) (Nat×Int×List B8×List Nd)} {p:Nat×Int×List B8×Nd×Int} (h:Jp s num wid R= .ok p):
  ∃e v2 ns2 ks m,R= .ok (e,v2,ns2,ks)/\D3 s e= .ok m/\¬(ks.length:Int)<(if num then wid else(ks.length:Int))/\p=(e+m,v2,ns2,.mk 8 [] [] ks (slc s e (e+m)),if num then wid else(ks.length:Int)):=by
 unfold Jp at h
 split at h
 ·cases h
 rename_i e v2 ns2 ks
 split at h
 ·cases h
 rename_i m hm
 by_cases hw:(ks.length:Int)<(if num then wid else(ks.length:Int))
 ·rw[if_pos hw]at h;cases h
 ·rw[if_neg hw]at h
  exact⟨e,v2,ns2,ks,m,rfl,hm,hw,(Except.ok.inj h).symm⟩
section
theorem L9 (st:St) {a:Int} (c:UInt8) (hc:(c.toNat:Int)=a):(toBytes st (.list 1 .full 1 [.int .u8 a])).map TV.str=some (.str [c]):=by
 have:UInt8.ofNat a.toNat=c:=by rw[<-hc];simp
 rw[<-this];rfl
def PF (x:Cx) (i e:Nat):Nd:=KM x.s i e (if e<x.s.length/\by_ x.s e=x.a then [.mk 11 [] [x.s.getD e 0] [] []]else [])
def LJ (x:Cx) (e:Nat):Nat:=if e<x.s.length/\by_ x.s e=x.a then e+1 else e
def ZO (c:B8):List TV:=[.int .i64 2,.str [],.str c,.nilSlice,.str []]
def mrkC (c:UInt8):List TV:=[.int .i64 11,.str [],.str [c],.nilSlice,.str []]
theorem NdC.leaf (k:Int) (t:B8):NdC (.mk k [] t [] []) [.int .i64 k,.str [],.str t,.nilSlice,.str []]:=by
 unfold NdC;exact⟨_,[],rfl,.inl ⟨rfl,rfl,rfl⟩,BF.nil⟩
theorem NdC.ent1 {s:B8} {i e:Nat} {v:TV} (h:Rd 5 v 1 (ZO (slc s i e))):NdC (KM s i e []) [.int .i64 5,.str [],.str [],v,.str []]:=by
 unfold KM NdC
 exact⟨v,_,rfl,h,BF.one (NdC.leaf 2 _)⟩
theorem NdC.ent2 {s:B8} {i e:Nat} {c:UInt8} {v:TV} (h:Rd 5 v 2 (ZO (slc s i e)++mrkC c)):NdC (KM s i e [.mk 11 [] [c] [] []]) [.int .i64 5,.str [],.str [],v,.str []]:=by
 unfold KM NdC
 exact⟨v,_,rfl,h,BF.append (BF.one (NdC.leaf 2 _)) (BF.one (NdC.leaf 11 _))⟩
theorem J1 {S:Nat->Prop} {T sz bytes:Nat} {st0 st:St} {v:TV} {n k:Nat} {xs ys:List TV} {K:TV->St->Prop} (e:StX S st0 st) (h:Own st0.nt sz st v n xs) (hby:(n+k)*bytes<=140737488355328) (hys:k=0->ys=[])
  (hK:∀v' st',StX S st0 st'->st'.box=st.box->st'.nb=st.nb->Own st0.nt sz st' v' (n+k) (xs++ys)->K v' st'):BH T sz bytes v k ys st K:=by
 have ef:∀st' T,StX S st0 st'->StX S st0 (st'.fresh T):=fun st' T h=>h.trans (StX.of ((Am.refl st').fresh _))
 rcases h with⟨rfl,rfl,rfl⟩ | ⟨tip,rfl,ht⟩
 ·simp only[BH]
  cases k with
  | zero=>rw[hys rfl]at hK;exact hK _ _ e rfl rfl (.nil _ _ _)
  | succ m=>
   simp only[At]
   refine⟨by simpa using hby,hK _ _ (ef _ _ e) rfl rfl ?_⟩
   simp only[List.nil_append,Nat.zero_add]
   exact Own.fresh _ _ e.nt
 ·simp only[BH,Nat.beq_refl]
  refine⟨hby,?_⟩
  rcases ht with rfl | ⟨id,rfl,h1,h2,h3⟩
  ·cases k with
   | zero=>rw[hys rfl]at hK;simp only[List.append_nil]at hK;exact hK _ _ e rfl rfl (Own.full _ _ _ _ _)
   | succ m=>exact hK _ _ (ef _ _ e) rfl rfl (Own.fresh _ _ e.nt)
  ·have er:StX S st0 (st.retire id):=⟨e.nb,e.box,e.nt,fun i hi=>by simp only[St.retire];rw[if_neg (by omega)];exact e.live i hi,e.ty,e.bt⟩
   exact⟨h3,hK _ _ (ef _ _ er) rfl rfl (Own.fresh (st:=st.retire id) _ _ e.nt)⟩
theorem PSD.same {p m:Nat} {x:Cx} {hd ty:Bool} {l2 l3 l4:Int} {ns:List B8} {i n w o e:Int} {st st':St} (h:PSD p m x hd ty l2 l3 l4 ns i n w o e st) (hb:st'.box=st.box) (hn:st'.nb=st.nb):
  PSD p m x hd ty l2 l3 l4 ns i n w o e st':=by
 obtain⟨es,h1,h2⟩:=h.mp
 exact⟨h.ne,by rw[hn];exact h.lp,by rw[hn];exact h.lm,by rw[hb];exact h.bx,es,by rw[hb];exact h1,h2⟩
theorem O7 {v:TV} (h:As v=true):List.all [v] As=true:=by simp[h]
def WE (x:Cx) (hd:Bool) (i:Nat) (v1:Int) (ns:List B8):Except (Nat×Int) (Nat×Int×List B8):=
 match CD x.a x.q x.s i with
 | .error e=> .error e
 | .ok e=>if (if hd then 1024 else 65536)<(txt x.q (slc x.s i e)).length then .error (i,10)else if hd/\txt x.q (slc x.s i e)∈ns then .error (i,8)
  else .ok (e,v1,if hd then txt x.q (slc x.s i e)::ns else ns)
theorem ST (x:Cx) (hd:Bool) (i:Nat) (v:Int) (ns:List B8):EM x hd i v ns=if hd=true then WE x hd i v ns else match Gs x.dep x.nod 3 i v with
  | .error e=> .error e
  | .ok v1=>WE x hd i v1 ns:=by
 unfold EM WE
 cases hd with
 | true=>simp only[if_true,bind,Except.bind];cases CD x.a x.q x.s i<;>rfl
 | false=>
  simp only[Bool.false_eq_true,if_false,bind,Except.bind]
  cases Gs x.dep x.nod 3 i v with
  | error e=>rfl
  | ok v1=>simp only;cases CD x.a x.q x.s i<;>rfl
section
variable {p m:Nat} {x:Cx} {hd ty:Bool} {l2 l3 l4:Int} {ns:List B8} {I v w o e:Int} {st:St}
theorem YI {i:Nat} {header:Bool} {K:Int->B8->B8->TV->B8->Bool->St->Prop} (hI:I=(i:Int)) (hi:i<=x.s.length) (hl:x.s.length<=2000000) (hv0:0<=v) (hv:v<1000000000)
  (h:PSD p m x hd ty l2 l3 l4 ns I v w o e st)
  (h0:∀(k:Nat) v1 ns1 kv st',EM x header i v ns= .ok (k,v1,ns1)->StX (PM p m) st st'->PSD p m x hd ty l2 l3 l4 ns1 (LJ x k:Nat) v1 w o e st'->NdC (PF x i k) [.int .i64 5,.str [],.str [],kv,.str []]->Rd 5 kv (if k<x.s.length/\by_ x.s k=x.a then 2 else 1) (if k<x.s.length/\by_ x.s k=x.a then ZO (slc x.s i k)++mrkC (x.s.getD k 0)else ZO (slc x.s i k))->K 5 [] [] kv [] true st')
  (h1:∀(o':Nat) e' (k v1:Int) kv st',EM x header i v ns= .error (o',e')->StX (PM p m) st st'->PSD p m x hd ty l2 l3 l4 ns k v1 w o' e' st'->As kv=true->K 5 [] [] kv [] false st'):
  CallT PR AV [.box p 0,.bool header] [.agg [.int .i64,.str,.str,.tv,.str],.one .bool] st K:=by
 subst hI
 have hb:=h.bx
 have tn:∀k:Nat,Int.toNat (k:Int)=k:=fun k=>rfl
 have w1:∀k:Nat,k<=x.s.length->i64.wrap ((k:Int)+1)=((k+1:Nat):Int):=fun k hk=>by rw[Ai _ (by omega) (by omega)];omega
 --behind the checks
 have fin:∀(k:Nat) (v1:Int) ns1,i<=k->k<=x.s.length->EM x header i v ns= .ok (k,v1,ns1)->
   ∀(v4:TV) (st8:St),StX (PM p m) st st8->PSD p m x hd ty l2 l3 l4 ns1 k v1 w o e st8->Own st.nt 5 st8 v4 1 (ZO (slc x.s i k))->
    (k<x.s.length->by_ x.s k=x.a->∀st9,StX (·=p) st8 st9->st9.box p= .cells ((pcl x hd ty l2 l3 l4 m k v1 w o e).set 10 (.int .i64 (i64.wrap ((k:Int)+1))))->BH 79 5 80 v4 1 (mrkC (x.s.getD k 0)) st9 fun v5 st10=>need (List.all [v5] As) (need (List.all [.int .i64 5,.str [],.str [],v5,.str []] As) (K 5 [] [] v5 [] true st10)))/\
    (¬(k<x.s.length/\by_ x.s k=x.a)->K 5 [] [] v4 [] true st8):=by
  intro k v1 ns1 hik hk he v4 st8 e8 k8 o8
  refine⟨fun c1 c2 st9 e9 b9=>?_,fun c=>?_⟩
  ·rw[w1 k (by omega)]at b9
   have hen:PF x i k=KM x.s i k [.mk 11 [] [x.s.getD k 0] [] []]:=by unfold PF;rw[if_pos ⟨c1,c2⟩]
   refine J1 (e8.trans e9.pm) (o8.extXD e9) (by omega) (fun h=>by cases h) fun v5 st10 e10 hbx hnb o10=>Ab (O7 o10.rd.one) (Ab (Ey o10.rd.one) ?_)
   refine h0 k v1 ns1 v5 st10 he e10 ?_ (by rw[hen];exact NdC.ent2 o10.rd) (by rw[if_pos ⟨c1,c2⟩,if_pos ⟨c1,c2⟩];exact o10.rd)
   have:LJ x k=k+1:=by unfold LJ;rw[if_pos ⟨c1,c2⟩]
   rw[this]
   exact(k8.of e9 b9).same hbx hnb
  ·have hen:PF x i k=KM x.s i k []:=by unfold PF;rw[if_neg c]
   refine h0 k v1 ns1 v4 st8 he e8 ?_ (by rw[hen];exact NdC.ent1 o8.rd) (by rw[if_neg c,if_neg c];exact o8.rd)
   have:LJ x k=k:=by unfold LJ;rw[if_neg c]
   rw[this]
   exact k8
 refine IJ p header st K (Ap (fun hh=>?_) fun hh=>?_)
 case' refine_1=>
  have hh:header=false:=by simpa using hh
  rw[ST,if_neg (by rw[hh];decide)]at h0 h1 fin
  refine Q8 rfl hv0 hv h (fun v' st1 hb1 e1 k1=>?_) fun o' e' st1 hb1 e1 k1=>?_
  case' refine_2=>
   rw[hb1]at h1
   exact Ap (fun _=>h1 _ _ _ _ _ st1 rfl e1 k1 rfl) fun h=>by cases h
  rw[hb1]at h0 h1 fin
  refine Ap (fun h=>by cases h) fun _=>?_
  simp only at h0 h1 fin
 case' refine_2=>
  have hh:header=true:=by simpa using hh
  rw[ST,if_pos hh]at h0 h1 fin
  obtain⟨v',hv'⟩:∃v',v'=v:=⟨_,rfl⟩
  obtain⟨st1,hst1⟩:∃st1,st1=st:=⟨_,rfl⟩
  have e1:StX (PM p m) st st1:=hst1▸StX.refl _ _
  have k1:PSD p m x hd ty l2 l3 l4 ns i v' w o e st1:=by rw[hst1,hv'];exact h
  rw[<-hst1]
  rw[<-hv']at h0 h1 fin
 all_goals
  have b1:=k1.bx
  repeat' first
   | (guard_target=~need _ _;refine Ab rfl ?_)
   | (guard_target=~Ae (Ad _ _ _ _) _;refine Ac (ldB b1 rfl) ?_)
   | (guard_target=~Af (.int _) _ _;refine Ar ?_)
   | (guard_target=~Af .str _ _;refine Al ?_)
   | (guard_target=~Af .bool _ _;refine Aq ?_)
  refine Z3 rfl hi hl k1 (fun k st2 hc e2 k2=>?_) fun o' e' k st2 hc e2 k2=>?_
  case' refine_2=>
   unfold WE at h1
   rw[hc]at h1
   exact Ap (fun _=>h1 _ _ _ _ _ st2 rfl (e1.trans e2) k2 rfl) fun h=>by cases h
  refine Ap (fun h=>by cases h) fun _=>?_
  have hle:=Cj hi hc
  have hW:=Tf hi hc
  have b2:=k2.bx
  unfold WE at h0 h1 fin
  rw[hc]at h0 h1 fin
  simp only at h0 h1 fin
  repeat' first
   | (guard_target=~need _ _;refine Ab rfl ?_)
   | (guard_target=~Ae (Ad _ _ _ _) _;refine Ac (ldB b2 rfl) ?_)
   | (guard_target=~Af (.int _) _ _;refine Ar ?_)
   | (guard_target=~Af .str _ _;refine Al ?_)
   | (guard_target=~Af .bool _ _;refine Aq ?_)
  refine⟨⟨by omega,by omega,by omega⟩,Ac (x:= .agg [.int .u8 x.a,.int .u8 x.q,.bool hd,.bool ty]) (by rw[ldsB b2 rfl rfl];rfl) ?_⟩
  rw[tn,tn]
  refine OC hW (by show(slc x.s i k).length<=_;rw[Lh hle.1 hle.2];omega) fun st3 e3=>?_
  have k3:=k2.keep (StX.of (S:=fun _=>False) e3) (fun h=>h) (fun h=>h)
  have e4:=(e1.trans e2).trans (StX.of e3)
  refine⟨fun mo p' hd' fr c t kd ld tx kv tl st'=>mo=(if header then 1024 else 65536)/\TV.box p 0=p'/\header=hd'/\(i:Int)=fr/\slc x.s i k=c/\txt x.q (slc x.s i k)=t/\5=kd/\[]=ld/\[]=tx/\TV.nilSlice=kv/\[]=tl/\st3=st',
   Ap (fun h=>⟨by rw[h];rfl,rfl,rfl,rfl,rfl,rfl,rfl,rfl,rfl,rfl,rfl,rfl⟩) (fun h=>⟨by rw[h];rfl,rfl,rfl,rfl,rfl,rfl,rfl,rfl,rfl,rfl,rfl,rfl⟩),?_⟩
  rintro _ _ _ _ _ _ _ _ _ _ _ _ ⟨rfl,rfl,rfl,rfl,rfl,rfl,rfl,rfl,rfl,rfl,rfl,rfl⟩
  refine Aa (fun g=>?_) fun g=>?_
  ·rw[if_pos (by cases header<;>simp at g⊢<;>omega)]at h1
   exact Dp k3 fun st4 e5 k4=>Ab rfl (h1 _ _ _ _ _ st4 rfl (e4.trans e5) k4 rfl)
  rw[if_neg (by cases header<;>simp at g⊢<;>omega)]at h0 h1 fin
  have b3:=k3.bx
  obtain⟨es,hm1,hm2⟩:=k3.mp
  refine Ap (fun g2=>?_) fun g2=>?_
  case' refine_1=>
   repeat' first
    | (guard_target=~need _ _;refine Ab rfl ?_)
    | (guard_target=~Ae (Ad _ _ _ _) _;refine Ac (ldB b3 rfl) ?_)
    | (guard_target=~Af (.int _) _ _;refine Ar ?_)
    | (guard_target=~Af .str _ _;refine Al ?_)
    | (guard_target=~Af .bool _ _;refine Aq ?_)
   refine Ac (x:=es) (by simp only[EA,hm1]) ?_
   rw[hm2]
   by_cases hin:txt x.q (slc x.s i k)∈ns
   case' pos=>
    rw[if_pos hin]
    rw[if_pos ⟨g2,hin⟩]at h1
    refine Aq (Ap (fun _=>?_) fun h=>by cases h)
    exact Dp k3 fun st4 e5 k4=>Ab rfl (h1 _ _ _ _ _ st4 rfl (e4.trans e5) k4 rfl)
   rw[if_neg hin]
   rw[if_neg (by rintro⟨_,h⟩;exact hin h),if_pos g2]at h0 fin
   refine Aq (Ap (fun h=>by cases h) fun _=>?_)
   repeat' first
    | (guard_target=~need _ _;refine Ab rfl ?_)
    | (guard_target=~Ae (Ad _ _ _ _) _;refine Ac (ldB b3 rfl) ?_)
    | (guard_target=~Af (.int _) _ _;refine Ar ?_)
    | (guard_target=~Af .str _ _;refine Al ?_)
    | (guard_target=~Af .bool _ _;refine Aq ?_)
   refine⟨es,hm1,?_⟩
   obtain⟨st7,hst7⟩:∃st7,st7=st3.put m (.map (Ji (txt x.q (slc x.s i k)) (.bool true) es)):=⟨_,rfl⟩
   rw[<-hst7]
   have e7:StX (PM p m) st st7:=by rw[hst7];exact e4.trans (StX.put (.inr rfl) _)
   have k7:PSD p m x hd ty l2 l3 l4 (txt x.q (slc x.s i k)::ns) k v' w o e st7:=by
    refine⟨k3.ne,by rw[hst7];exact k3.lp,by rw[hst7];exact k3.lm,?_,_,?_,hm2.add _⟩
    ·rw[hst7];simp only[St.put];rw[if_neg k3.ne];exact k3.bx
    ·rw[hst7,Cs]
  case' refine_2=>
   rw[if_neg (by rintro⟨h,_⟩;rw[g2]at h;cases h),if_neg (by rw[g2];decide)]at h0 fin
   obtain⟨st7,hst7⟩:∃st7,st7=st3:=⟨_,rfl⟩
   rw[<-hst7]
   have e7:StX (PM p m) st st7:=by rw[hst7];exact e4
   have k7:PSD p m x hd ty l2 l3 l4 ns k v' w o e st7:=by rw[hst7];exact k3
  all_goals
   refine J1 e7 (Own.nil _ _ _) (by omega) (fun h=>by cases h) fun v4 st8 e8 hbx hnb o8=>Ab (O7 o8.rd.one) ?_
   have k8:=k7.same hbx hnb
   have b8:=k8.bx
   obtain⟨f1,f2⟩:=fin k v' _ hle.1 hle.2 rfl v4 st8 e8 k8 o8
   repeat' first
    | (guard_target=~need _ _;refine Ab rfl ?_)
    | (guard_target=~Ae (Ad _ _ _ _) _;refine Ac (ldB b8 rfl) ?_)
    | (guard_target=~Af (.int _) _ _;refine Ar ?_)
    | (guard_target=~Af .str _ _;refine Al ?_)
    | (guard_target=~Af .bool _ _;refine Aq ?_)
   refine Aa (fun q1=>?_) fun q1=>?_
   ·repeat' first
     | (guard_target=~need _ _;refine Ab rfl ?_)
     | (guard_target=~Ae (Ad _ _ _ _) _;refine Ac (ldB b8 rfl) ?_)
     | (guard_target=~Af (.int _) _ _;refine Ar ?_)
     | (guard_target=~Af .str _ _;refine Al ?_)
     | (guard_target=~Af .bool _ _;refine Aq ?_)
    refine⟨⟨by omega,by omega⟩,?_⟩
    repeat' first
     | (guard_target=~need _ _;refine Ab rfl ?_)
     | (guard_target=~Ae (Ad _ _ _ _) _;refine Ac (ldB b8 rfl) ?_)
     | (guard_target=~Af (.int _) _ _;refine Ar ?_)
     | (guard_target=~Af .str _ _;refine Al ?_)
     | (guard_target=~Af .bool _ _;refine Aq ?_)
    rw[tn]
    refine Aa (fun q2=>?_) fun q2=>?_
    ·repeat' first
      | (guard_target=~need _ _;refine Ab rfl ?_)
      | (guard_target=~Ae (Ad _ _ _ _) _;refine Ac (ldB b8 rfl) ?_)
      | (guard_target=~Af (.int _) _ _;refine Ar ?_)
      | (guard_target=~Af .str _ _;refine Al ?_)
      | (guard_target=~Af .bool _ _;refine Aq ?_)
     refine FL b8 rfl fun st9 e9 b9=>?_
     repeat' first
      | (guard_target=~need _ _;refine Ab rfl ?_)
      | (guard_target=~Ae (Ad _ _ _ _) _;refine Ac (ldB b9 rfl) ?_)
      | (guard_target=~Af (.int _) _ _;refine Ar ?_)
      | (guard_target=~Af .str _ _;refine Al ?_)
      | (guard_target=~Af .bool _ _;refine Aq ?_)
     refine Ac (L9 _ (x.s.getD k 0) q2) ?_
     exact f1 (by omega) q2 st9 e9 b9
    ·exact Ab (Ey o8.rd.one) (f2 fun h=>q2 h.2)
   ·exact Ab (Ey o8.rd.one) (f2 fun h=>absurd h.1 (by omega))
end
end
section
theorem Q6 (x:Cx) (num:Bool) (wid:Int) (hd:Bool) (n:Nat) (acc:List Nd) (i:Nat) (v:Int) (ns:List B8):Cn x num wid hd (n+1) acc i v ns=
  if num=true/\wid<=(acc.length:Int)then .error (i,10)else match EM x hd i v ns with
   | .error e=> .error e
   | .ok (e,v1,ns1)=>if e<x.s.length/\by_ x.s e=x.a then Cn x num wid hd n (acc++[PF x i e]) (e+1) v1 ns1 else match D3 x.s e with
    | .error e=> .error e
    | .ok _=> .ok (e,v1,ns1,acc++[PF x i e]):=by
 simp only[Cn]
 by_cases hw:num=true/\wid<=(acc.length:Int)
 ·rw[if_pos hw,if_pos hw]
 rw[if_neg hw,if_neg hw]
 simp only[bind,Except.bind]
 rcases EM x hd i v ns with e | ⟨e,v1,ns1⟩
 ·rfl
 simp only
 by_cases hm:e<x.s.length/\by_ x.s e=x.a
 ·rw[if_pos hm,if_pos hm]
  unfold PF;rw[if_pos hm]
 ·rw[if_neg hm,if_neg hm]
  unfold PF;rw[if_neg hm]
  cases D3 x.s e<;>rfl
theorem XH {x:Cx} {hd:Bool} {i:Nat} {v:Int} {ns:List B8} {e:Nat} {v1:Int} {ns1:List B8} (hi:i<=x.s.length) (h:EM x hd i v ns= .ok (e,v1,ns1)):i<=e/\e<=x.s.length/\v<=v1/\v1<=v+1:=by
 cases hd with
 | true=>have:=MI h;have h2:=Cj hi this.2.1;omega
 | false=>have:=LI h;have h2:=Cj hi this.2.2.2.2.1;omega
theorem StX.out {p m r:Nat} {a b c:St} (h:StX (PM p m) a b) (k:StX (PM3 p m r) b c) (hr:a.nb<=r):StX (PM p m) a c:=
 ⟨Nat.le_trans h.nb k.nb,fun i hi hs=>(k.box i (Nat.lt_of_lt_of_le hi h.nb) (by rintro(g | g | g);exact hs (.inl g);exact hs (.inr g);omega)).trans (h.box i hi hs),Nat.le_trans h.nt k.nt,fun i hi=>(k.live i (Nat.lt_of_lt_of_le hi h.nt)).trans (h.live i hi),fun i hi=>(k.ty i (Nat.lt_of_lt_of_le hi h.nt)).trans (h.ty i hi),fun i hi=>(k.bt i (Nat.lt_of_lt_of_le hi h.nb)).trans (h.bt i hi)⟩
theorem StX.r3 {p m r:Nat} {a b:St} (h:StX (·=r) a b):StX (PM3 p m r) a b:=h.mono fun _ g=> .inr (.inr g)
theorem ZL {st:St} {b off:Nat} {xs:List TV} {l:List TV} {k:St->Prop} (hb:st.box b= .cells l) (hl:off+xs.length<=l.length) (hk:∀st',StX (·=b) st st'->st'.box b= .cells (setAll l off xs)->k st'):stB st (.box b off) xs k:=
 ⟨l,hb,hl,hk _ (StX.put (S:=(·=b)) rfl _) (Cs _ _ _)⟩
theorem Pn {st:St} {b:Nat} {c0 c1 c2 c3 c4:TV} (hb:st.box b= .cells [c0,c1,c2,c3,c4]):(Ah st [] (.t (.box b 0)) 0 5).map TV.agg=some (.agg [c0,c1,c2,c3,c4]):=by
 rw[show Ah st [] (.t (.box b 0)) 0 5=some [c0,c1,c2,c3,c4]from ldsB hb rfl rfl];rfl
theorem Jy {k:Int} {l t tl:B8} {u:TV} {f:Int->B8->B8->TV->B8->Prop} (h:f k l t u tl):AK [.int .i64,.str,.str,.tv,.str] (.agg [.int .i64 k,.str l,.str t,u,.str tl]) f:=h
theorem BIf_tail {p H:Prop} [Decidable p] {A X:Prop} (t:H->X) (h1:p->(H->X)->A) (h2:¬p->H):BIf (decide p) A X:=Aa (fun q=>h1 q t) fun q=>t (h2 q)
section
variable {p m:Nat} {x:Cx} {hd ty:Bool} {l2 l3 l4:Int} {ns:List B8} {I v w o e:Int} {st:St}
theorem V2 {i:Nat} {N:Int} {K:Int->B8->B8->TV->B8->Bool->St->Prop} (hI:I=(i:Int)) (hi:i<=x.s.length) (hl:x.s.length<=2000000) (hv0:0<=v) (hv:v<=100000000) (hN:0<=N)
  (h:PSD p m x hd ty l2 l3 l4 ns I v w o e st)
  (h0:∀(k:Nat) v1 ns1 r w1 kv tl st',G1 x (decide (N≠0)) w (decide (N=0)&&hd) i v ns= .ok (k,v1,ns1,r,w1)->StX (PM p m) st st'->PSD p m x hd ty l2 l3 l4 ns1 k v1 w1 o e st'->NdC r [.int .i64 8,.str [],.str [],kv,.str tl]->K 8 [] [] kv tl true st')
  (h1:∀(o':Nat) e' ns1 (k v1 w1:Int) kv tl st',G1 x (decide (N≠0)) w (decide (N=0)&&hd) i v ns= .error (o',e')->StX (PM p m) st st'->PSD p m x hd ty l2 l3 l4 ns1 k v1 w1 o' e' st'->As kv=true->K 8 [] [] kv tl false st'):
  CallT PR CO [.box p 0,.int .i64 N] [.agg [.int .i64,.str,.str,.tv,.str],.one .bool] st K:=by
 subst hI
 have hb:=h.bx
 have tn:∀k:Nat,Int.toNat (k:Int)=k:=fun k=>rfl
 obtain⟨header,hhd⟩:∃b,b=(decide (N=0)&&hd):=⟨_,rfl⟩
 rw[<-hhd]at h0 h1
 --the record's own box
 obtain⟨r,hr⟩:∃r,r=st.nb:=⟨_,rfl⟩
 have hrp:p≠r:=by have:=h.lp;omega
 have hrm:m≠r:=by have:=h.lm;omega
 have start:∀st1,StX (·=r) (st.push (.cells [.int .i64 0,.str [],.str [],.nilSlice,.str []]) (some 79)) st1->st1.box r= .cells [.int .i64 8,.str [],.str [],.nilSlice,.str []]->
   StX (PM p m) st st1/\PSD p m x hd ty l2 l3 l4 ns i v w o e st1/\r<st1.nb:=fun st1 e1 b1=>by
  have e0:StX (PM3 p m r) (st.push (.cells [.int .i64 0,.str [],.str [],.nilSlice,.str []]) (some 79)) st1:=e1.r3
  have ep:StX (PM p m) st (st.push (.cells [.int .i64 0,.str [],.str [],.nilSlice,.str []]) (some 79)):=StX.of ((Am.refl st).push _ _)
  refine⟨ep.out e0 (by omega),(h.keep (StX.of (S:=fun _=>False) ((Am.refl st).push _ _)) (fun h=>h) fun h=>h).other e1 hrp hrm,?_⟩
  have:=e1.nb
  simp only[St.push]at this
  omega
 have rk:∀sta stb L,StX (PM p m) sta stb->r<sta.nb->sta.box r= .cells L->stb.box r= .cells L:=fun sta stb L e hlt h=>by
  rw[e.box r hlt (fun h=>h.elim (fun h=>hrp h.symm) fun h=>hrm h.symm)];exact h
 obtain⟨num,hnum⟩:∃b,b=decide (N≠0):=⟨_,rfl⟩
 have hnum1:num=true↔N≠0:=by rw[hnum];simp
 rw[<-hnum]at h0 h1
 generalize hD:G1 x num w header i v ns=D0 at h0 h1
 rw[GF]at hD
 --the loop's start:behind the first value
 refine HS p N st K (Aa (fun hn=>?_) fun hn=>?_)
 case' refine_1=>
  repeat' first
   | (guard_target=~need _ _;refine Ab rfl ?_)
   | (guard_target=~Ae (Ad _ _ _ _) _;refine Ac (ldB hb rfl) ?_)
   | (guard_target=~Af (.int _) _ _;refine Ar ?_)
   | (guard_target=~Af .str _ _;refine Al ?_)
   | (guard_target=~Af .bool _ _;refine Aq ?_)
  rw[<-hr]
  refine ZL (b:=r) (by rw[hr];exact Fq _ _ _) (by simp) fun st1 e1 b1=>?_
  have b1:st1.box r= .cells [.int .i64 8,.str [],.str [],.nilSlice,.str []]:=b1
  obtain⟨f1,k1,lr1⟩:=start st1 e1 b1
  refine Ap (fun hh=>?_) fun hh=>?_
 case' refine_2=>
  rw[<-hr]
  refine ZL (b:=r) (by rw[hr];exact Fq _ _ _) (by simp) fun st1 e1 b1=>?_
  have b1:st1.box r= .cells [.int .i64 8,.str [],.str [],.nilSlice,.str []]:=b1
  obtain⟨f1,k1,lr1⟩:=start st1 e1 b1
 case' refine_1.refine_1=>
  have hhd':header=hd:=by rw[hhd,hn];simp
  have hhf:header=false:=by rw[hhd'];simpa using hh
 case' refine_2=>
  have hhf:header=false:=by rw[hhd];simp[hn]
  have hhd':header=false:=hhf
 case' refine_1.refine_2=>
  have hhd':header=hd:=by rw[hhd,hn];simp
  have hht:header=true:=by rw[hhd'];simpa using hh
  rw[if_pos hht]at hD
  have hv1:v<=v/\v<=v+1:=by omega
  have f2:=f1
  have k2:=k1
  have lr2:=lr1
  have b2:=b1
 case' refine_1.refine_1 | refine_2=>
  rw[if_neg (by rw[hhf];decide)]at hD
  refine Q8 rfl hv0 (by omega) k1 (fun v' st2 hb1 e2 k2=>?_) fun o' e' st2 hb1 e2 k2=>?_
 case' refine_1.refine_1.refine_2 | refine_2.refine_2=>
  rw[hb1]at hD
  refine Ap (fun _=>?_) fun h=>by cases h
  have b2:=rk _ _ _ e2 lr1 b1
  refine Ac (Pn b2) (Jy ?_)
  exact Ab (Ey (u:= .nilSlice) rfl) (h1 _ _ _ _ _ _ .nilSlice [] st2 hD.symm (f1.trans e2) k2 rfl)
 case' refine_1.refine_1.refine_1 | refine_2.refine_1=>
  rw[hb1]at hD
  simp only at hD
  refine Ap (fun h=>by cases h) fun _=>?_
  have b2:=rk _ _ _ e2 lr1 b1
  have hv1:v<=v'/\v'<=v+1:=by have:=XZ hb1;omega
  have f2:=f1.trans e2
  have lr2:r<st2.nb:=Nat.lt_of_lt_of_le lr1 e2.nb
 all_goals
  refine⟨fun p' N' hd' r' st'=>TV.box p 0=p'/\N=N'/\header=hd'/\TV.box r 0=r'/\∃(j n:Nat) (acc:List Nd) (v1:Int) (ns1:List B8) (kv:TV) (xs:List TV),StX (PM p m) st st'/\r<st'.nb/\PSD p m x hd ty l2 l3 l4 ns1 j v1 w o e st'/\
    st'.box r= .cells [.int .i64 8,.str [],.str [],kv,.str []]/\Own st.nt 5 st' kv acc.length xs/\BF acc xs/\j<=x.s.length/\x.s.length<j+n/\acc.length<=j/\0<=v1/\v1<=v+1+j/\Jp x.s num w (Cn x num w header n acc j v1 ns1)=D0,
   fun _ _ _ _ st'=>(x.s.length-Nn st' p 10).toNat,⟨rfl,rfl,hhd',rfl,i,x.s.length+1,[],_,ns,.nilSlice,[],f2,lr2,k2,b2,Own.nil _ _ _,BF.nil,hi,by omega,by simp,by omega,by omega,hD⟩,?_⟩
  rintro _ _ _ _ st3 ⟨rfl,rfl,rfl,rfl,j,n,acc,v1,ns1,kv,xs,f3,lr3,k3,b3,o3,hx,hj,hjn,hac,hv3,hv4,hE⟩
  cases n with
  | zero=>omega
  | succ n=>
  rw[Q6]at hE
  have bp3:=k3.bx
  refine BIf_tail (H:=¬(num=true/\w<=(acc.length:Int))) (fun hw=>?_) (fun q t=>?_) (fun q=>by rintro⟨h,_⟩;have:=hnum1.1 h;omega)
  ·rw[if_neg hw]at hE
   refine YI rfl hj hl (by omega) (by omega) k3 (fun k v2 ns2 v4 st4 he e4 k4 hc4 hr4=>?_) fun o' e' k' v' v4 st4 he e4 k4 ho4=>?_
   ·rw[he]at hE
    simp only at hE
    have hle:=XH hj he
    refine Ab (Ey hr4.one) (Ap (fun h=>by cases h) fun _=>?_)
    have b4:=rk _ _ _ e4 lr3 b3
    repeat' first
     | (guard_target=~need _ _;refine Ab rfl ?_)
     | (guard_target=~Ae (Ad _ _ _ _) _;refine Ac (ldB b4 rfl) ?_)
     | (guard_target=~Af (.int _) _ _;refine Ar ?_)
     | (guard_target=~Af .str _ _;refine Al ?_)
     | (guard_target=~Af .bool _ _;refine Aq ?_)
    refine Ab o3.rd.isSl ?_
    repeat' first
     | (guard_target=~need _ _;refine Ab rfl ?_)
     | (guard_target=~Ae (Ad _ _ _ _) _;refine Ac (ldB b4 rfl) ?_)
     | (guard_target=~Af (.int _) _ _;refine Ar ?_)
     | (guard_target=~Af .str _ _;refine Al ?_)
     | (guard_target=~Af .bool _ _;refine Aq ?_)
    refine Ab (Ey hr4.one) ⟨rfl,?_⟩
    refine J1 (f3.trans e4) (o3.extXD e4) (by omega) (fun h=>by cases h) fun v5 st5 e5 hbx hnb o5=>?_
    have b5:st5.box r= .cells [.int .i64 8,.str [],.str [],kv,.str []]:=by rw[hbx];exact b4
    refine FL b5 rfl fun st6 e6 b6=>?_
    have k6:=(k4.same hbx hnb).other e6 hrp hrm
    have f6:StX (PM p m) st st6:=e5.out e6.r3 (by omega)
    have lr6:r<st6.nb:=by have h1:=e4.nb;have h2:=e6.nb;omega
    have hx6:=hx.append (BF.one hc4)
    have o6:=o5.extXD e6
    have hlen:(acc++[PF x j k]).length=acc.length+1:=by simp
    refine Ab hr4.isSl ?_
    rw[hr4.lenS]
    by_cases hmk:k<x.s.length/\by_ x.s k=x.a
    ·rw[if_pos hmk]at hE
     rw[if_pos hmk]
     refine Aa (fun h=>absurd h (by decide)) fun _=>?_
     have hat:LJ x k=k+1:=by unfold LJ;rw[if_pos hmk]
     rw[hat]at k6
     refine⟨⟨rfl,rfl,rfl,rfl,k+1,n,_,v2,ns2,v5,_,f6,lr6,k6,b6,by rw[hlen];exact o6,hx6,by omega,by omega,by omega,by omega,by omega,hE⟩,?_⟩
     dsimp only
     rw[Ea k6.bx rfl,Ea bp3 rfl]
     omega
    ·rw[if_neg hmk]at hE
     rw[if_neg hmk]
     refine Aa (fun _=>?_) fun h=>absurd rfl h
     have hat:LJ x k=k:=by unfold LJ;rw[if_neg hmk]
     rw[hat]at k6
     have bp6:=k6.bx
     repeat' first
      | (guard_target=~need _ _;refine Ab rfl ?_)
      | (guard_target=~Ae (Ad _ _ _ _) _;refine Ac (ldB bp6 rfl) ?_)
      | (guard_target=~Af (.int _) _ _;refine Ar ?_)
      | (guard_target=~Af .str _ _;refine Al ?_)
      | (guard_target=~Af .bool _ _;refine Aq ?_)
     refine Ux rfl hle.2.1 hl k6 hrp hrm lr6 b6 (fun n7 st7 hle7 e7 k7 b7=>?_) fun o' e' k' st7 hle7 e7 k7 b7=>?_
     ·rw[hle7]at hE
      simp only[Jp,hle7]at hE
      rw[hlen]at hE
      have f7:=f6.out e7 (by omega)
      have lr7:r<st7.nb:=Nat.lt_of_lt_of_le lr6 e7.nb
      have o7:=o6.extXD e7
      have bp7:=k7.bx
      have hnd:NdC (.mk 8 [] [] (acc++[PF x j k]) (slc x.s k (k+n7))) [.int .i64 8,.str [],.str [],v5,.str (slc x.s k (k+n7))]:=by
       unfold NdC;exact⟨v5,_,rfl,by rw[hlen];exact o7.rd,hx6⟩
      refine Ap (fun h=>by cases h) fun _=>Aa (fun q0=>?_) fun q0=>?_
      ·have hn0:num=false:=by cases hb:num with | true=>exact absurd q0 (hnum1.1 hb) | false=>rfl
       rw[hn0,if_neg (by simp)]at hE
       repeat' first
        | (guard_target=~need _ _;refine Ab rfl ?_)
        | (guard_target=~Ae (Ad _ _ _ _) _;refine Ac (ldB b7 rfl) ?_)
        | (guard_target=~Af (.int _) _ _;refine Ar ?_)
        | (guard_target=~Af .str _ _;refine Al ?_)
        | (guard_target=~Af .bool _ _;refine Aq ?_)
       refine Ab o7.rd.isSl ?_
       rw[o7.rd.lenS]
       repeat' first
        | (guard_target=~need _ _;refine Ab rfl ?_)
        | (guard_target=~Ae (Ad _ _ _ _) _;refine Ac (ldB b7 rfl) ?_)
        | (guard_target=~Af (.int _) _ _;refine Ar ?_)
        | (guard_target=~Af .str _ _;refine Al ?_)
        | (guard_target=~Af .bool _ _;refine Aq ?_)
       refine FL bp7 rfl fun st8 e8 bp8=>?_
       have b8:st8.box r= .cells [.int .i64 8,.str [],.str [],v5,.str (slc x.s k (k+n7))]:=by rw[e8.box r lr7 fun h=>hrp h.symm];exact b7
       have k8:=k7.of e8 bp8
       repeat' first
        | (guard_target=~need _ _;refine Ab rfl ?_)
        | (guard_target=~Ae (Ad _ _ _ _) _;refine Ac (ldB b8 rfl) ?_)
        | (guard_target=~Af (.int _) _ _;refine Ar ?_)
        | (guard_target=~Af .str _ _;refine Al ?_)
        | (guard_target=~Af .bool _ _;refine Aq ?_)
       refine Ab o7.rd.isSl ?_
       rw[o7.rd.lenS]
       repeat' first
        | (guard_target=~need _ _;refine Ab rfl ?_)
        | (guard_target=~Ae (Ad _ _ _ _) _;refine Ac (ldB bp8 rfl) ?_)
        | (guard_target=~Af (.int _) _ _;refine Ar ?_)
        | (guard_target=~Af .str _ _;refine Al ?_)
        | (guard_target=~Af .bool _ _;refine Aq ?_)
       refine Aa (fun h=>absurd h (by omega)) fun _=>?_
       refine Ac (Pn b8) (Jy ?_)
       refine Ab (Ey o7.rd.one) (h0 _ _ _ _ _ _ _ st8 hE.symm (f7.trans e8.pm) ?_ hnd)
       exact k8
      ·have hn1:num=true:=hnum1.2 q0
       rw[hn1,if_pos rfl]at hE
       repeat' first
        | (guard_target=~need _ _;refine Ab rfl ?_)
        | (guard_target=~Ae (Ad _ _ _ _) _;refine Ac (ldB b7 rfl) ?_)
        | (guard_target=~Af (.int _) _ _;refine Ar ?_)
        | (guard_target=~Af .str _ _;refine Al ?_)
        | (guard_target=~Af .bool _ _;refine Aq ?_)
       refine Ab o7.rd.isSl ?_
       rw[o7.rd.lenS]
       repeat' first
        | (guard_target=~need _ _;refine Ab rfl ?_)
        | (guard_target=~Ae (Ad _ _ _ _) _;refine Ac (ldB bp7 rfl) ?_)
        | (guard_target=~Af (.int _) _ _;refine Ar ?_)
        | (guard_target=~Af .str _ _;refine Al ?_)
        | (guard_target=~Af .bool _ _;refine Aq ?_)
       refine Aa (fun q1=>?_) fun q1=>?_
       ·rw[if_pos q1]at hE
        refine Ac (Pn b7) (Jy ?_)
        refine Dp k7 fun st8 e8 k8=>⟨?_,Ab (Ey o7.rd.one) (h1 _ _ _ _ _ _ _ _ st8 hE.symm (f7.trans e8) k8 o7.rd.one)⟩
        rw[ldsB (rk _ _ _ e8 lr7 b7) rfl rfl];rfl
       ·rw[if_neg q1]at hE
        refine Ac (Pn b7) (Jy ?_)
        exact Ab (Ey o7.rd.one) (h0 _ _ _ _ _ _ _ st7 hE.symm f7 k7 hnd)
     ·rw[hle7]at hE
      refine Ap (fun _=>?_) fun h=>by cases h
      refine Ac (Pn b7) (Jy ?_)
      exact Ab (Ey o6.rd.one) (h1 _ _ _ _ _ _ _ _ st7 hE.symm (f6.out e7 (by omega)) k7 o6.rd.one)
   ·rw[he]at hE
    refine Ab (Ey ho4) (Ap (fun _=>?_) fun h=>by cases h)
    have b4:=rk _ _ _ e4 lr3 b3
    refine Ac (Pn b4) (Jy ?_)
    exact Ab (Ey o3.rd.one) (h1 _ _ _ _ _ _ _ _ st4 hE.symm (f3.trans e4) k4 o3.rd.one)
  ·have hnm:num=true:=hnum1.2 (by omega)
   repeat' first
    | (guard_target=~need _ _;refine Ab rfl ?_)
    | (guard_target=~Ae (Ad _ _ _ _) _;refine Ac (ldB b3 rfl) ?_)
    | (guard_target=~Af (.int _) _ _;refine Ar ?_)
    | (guard_target=~Af .str _ _;refine Al ?_)
    | (guard_target=~Af .bool _ _;refine Aq ?_)
   refine Ab o3.rd.isSl ?_
   repeat' first
    | (guard_target=~need _ _;refine Ab rfl ?_)
    | (guard_target=~Ae (Ad _ _ _ _) _;refine Ac (ldB bp3 rfl) ?_)
    | (guard_target=~Af (.int _) _ _;refine Ar ?_)
    | (guard_target=~Af .str _ _;refine Al ?_)
    | (guard_target=~Af .bool _ _;refine Aq ?_)
   rw[o3.rd.lenS]
   refine Aa (fun q2=>?_) fun q2=>?_
   ·rw[if_pos ⟨hnm,q2⟩]at hE
    refine Ac (Pn b3) (Jy ?_)
    repeat' first
     | (guard_target=~need _ _;refine Ab rfl ?_)
     | (guard_target=~Ae (Ad _ _ _ _) _;refine Ac (ldB bp3 rfl) ?_)
     | (guard_target=~Af (.int _) _ _;refine Ar ?_)
     | (guard_target=~Af .str _ _;refine Al ?_)
     | (guard_target=~Af .bool _ _;refine Aq ?_)
    refine Dp k3 fun st4 e4 k4=>⟨?_,Ab (Ey o3.rd.one) (h1 _ _ _ _ _ _ _ _ st4 hE.symm (f3.trans e4) k4 o3.rd.one)⟩
    rw[ldsB (rk _ _ _ e4 lr3 b3) rfl rfl];rfl
   ·exact t fun h=>q2 h.2
end
end
theorem OU {x:Cx} {num hd:Bool} {wid:Int} {i:Nat} {v:Int} {ns:List B8} {i':Nat} {v':Int} {ns':List B8} {r:Nd} {wid':Int} (hi:i<=x.s.length)
  (h:G1 x num wid hd i v ns= .ok (i',v',ns',r,wid')):∃ks e m,r= .mk 8 [] [] ks (slc x.s e (e+m))/\i'=e+m/\Hh x.a x.q x.s i ks e m/\v'=v+(if hd then 0 else 1+(ks.length:Int))/\
   (∀k∈ks,(txt x.q (AL k)).length<=65536)/\(ks.length:Int)=wid'/\(num=true->wid'=wid)/\(hd=false->3<=x.dep/\v'<=x.nod/\ns'=ns):=by
 obtain⟨v1,h1,h⟩:=Gd h
 obtain⟨e,v2,ns2,ks,m',h2,h3,hw,hp⟩:=Lr h
 simp only[Prod.mk.injEq]at hp
 obtain⟨rfl,rfl,rfl,rfl,rfl⟩:=hp
 obtain⟨ks',m,k1,k2,k3,k4,k5,k6⟩:=ZW _ hi h2
 rw[List.nil_append]at k1
 subst k1
 have hl:=k2.le hi
 rw[hl.2.2.2.2]at h3
 cases h3
 refine⟨_,e,_,rfl,rfl,k2,?_,k4,?_,?_,k6⟩
 ·rw[k3,h1];cases hd<;>simp;omega
 ·cases num with
  | true=>simp only[if_true]at hw⊢;have:=k5 rfl;omega
  | false=>rfl
 ·intro hn;rw[hn];rfl
theorem recD_of {x:Cx} {num:Bool} {wid:Int} (hdep:3<=x.dep) {i:Nat} {ks:List Nd} {e m:Nat} (h:Hh x.a x.q x.s i ks e m) {v:Int} {ns:List B8}
  (hi:i<=x.s.length) (hk:∀k∈ks,(txt x.q (AL k)).length<=65536) (hw:num=true->(ks.length:Int)=wid) (hv:v+1+(ks.length:Int)<=x.nod):
  G1 x num wid false i v ns= .ok (e+m,v+1+(ks.length:Int),ns,.mk 8 [] [] ks (slc x.s e (e+m)),(ks.length:Int)):=by
 have hl:=h.le hi
 have hb:Gs x.dep x.nod 2 i v= .ok (v+1):=by unfold Gs;rw[if_neg (by omega),if_neg (by omega)]
 rw[GF]
 simp only[Bool.false_eq_true,if_false,hb]
 unfold Jp
 rw[recE_of hdep h (x.s.length+1) (acc:=[]) (v:=v+1) (ns:=ns) hi (by omega) hk (fun hn=>by rw[List.length_nil,Nat.zero_add,hw hn];omega) (by omega)]
 simp only[hl.2.2.2.2]
 cases num with
 | true=>have:=hw rfl;simp only[if_true,List.nil_append];rw[<-this,if_neg (by omega)]
 | false=>simp only[Bool.false_eq_true,if_false,List.nil_append];rw[if_neg (by omega)]
theorem YB {x:Cx} {num:Bool} {wid:Int} (d' n':Int) {i:Nat} {v:Int} {ns:List B8}:G1 (x.lim d' n') num wid true i v ns=G1 x num wid true i v ns:=by
 rw[GF,GF,if_pos rfl,if_pos rfl]
 have:=Yz (x:=x) (num:=num) (wid:=wid) d' n' (x.s.length+1) (acc:=[]) (i:=i) (v:=v) (ns:=ns)
 show Jp x.s num wid (Cn (x.lim d' n') num wid true (x.s.length+1) [] i v ns)=_
 rw[this]
theorem ZY {x:Cx} {num:Bool} {wid:Int} {d' n':Int} {i:Nat} {v:Int} {ns:List B8} {i':Nat} {v':Int} {ns':List B8} {r:Nd} {wid':Int}
  (h:G1 x num wid false i v ns= .ok (i',v',ns',r,wid')):v+1<v'/\(3<=d'->v'<=n'->G1 (x.lim d' n') num wid false i v ns= .ok (i',v',ns',r,wid'))/\
   (3<=d'->n'<v'->∃o,G1 (x.lim d' n') num wid false i v ns= .error (o,10))/\(d'=2->v<n'->∃o,G1 (x.lim d' n') num wid false i v ns= .error (o,9)):=by
 obtain⟨v1,h1,h⟩:=Gd h
 have h1:v1=v+1:=by simpa using h1
 subst h1
 obtain⟨e,v2,ns2,ks,m,h2,h3,hw,hp⟩:=Lr h
 simp only[Prod.mk.injEq]at hp
 obtain⟨rfl,rfl,rfl,rfl,rfl⟩:=hp
 obtain⟨k0,k1,k2,k3⟩:=ZV (d':=d') (n':=n') _ h2
 have b1:2<=d'->v<n'->Gs d' n' 2 i v= .ok (v+1):=fun g1 g2=>by unfold Gs;rw[if_neg (by omega),if_neg (by omega)]
 have b2:2<=d'->n'<=v->Gs d' n' 2 i v= .error (i,10):=fun g1 g2=>by unfold Gs;rw[if_neg (by omega),if_pos g2]
 rw[GF]
 simp only[Bool.false_eq_true,if_false]
 refine⟨by omega,fun g1 g2=>?_,fun g1 g2=>?_,fun g1 g2=>?_⟩
 ·rw[b1 (by omega) (by omega)]
  show Jp x.s num wid (Cn (x.lim d' n') num wid false (x.s.length+1) [] i (v+1) ns)=_
  rw[k1 g1 g2]
  simp only[Jp,h3]
  rw[if_neg hw]
 ·by_cases hv:n'<=v
  ·rw[b2 (by omega) hv];exact⟨_,rfl⟩
  ·rw[b1 (by omega) (by omega)]
   obtain⟨o,ho⟩:=k2 g1 g2
   exact⟨o,by show Jp x.s num wid (Cn (x.lim d' n') num wid false (x.s.length+1) [] i (v+1) ns)=_;rw[ho];rfl⟩
 ·rw[b1 (by omega) (by omega)]
  obtain⟨o,ho⟩:=k3 (by omega)
  exact⟨o,by show Jp x.s num wid (Cn (x.lim d' n') num wid false (x.s.length+1) [] i (v+1) ns)=_;rw[ho];rfl⟩
def JA (r:Nd):Int:=1+((Au r).length:Int)
def DB:List Nd->Int
 | []=>0
 | r::rs=>JA r+DB rs
theorem FY:∀rs,0<=DB rs
 | []=>by simp[DB]
 | r::rs=>by have:=FY rs;simp only[DB,JA];omega
def DR (hd:Bool) (rs:List Nd):Int:=if hd then DB rs.tail else DB rs
theorem Q7 {x:Cx} {num hd:Bool} {wid:Int}:∀(n:Nat) {acc:List Nd} {i:Nat} {v:Int} {ns:List B8} {e:Nat} {v':Int} {ns':List B8} {out:List Nd},
  Cn x num wid hd n acc i v ns= .ok (e,v',ns',out)->v'=v+(if hd then 0 else(out.length:Int)-acc.length):=by
 intro n
 induction n with
 | zero=>intro acc i v ns e v' ns' out h;simp only[Cn]at h;cases h
 | succ n ih=>
  intro acc i v ns e v' ns' out h
  simp only[Cn]at h
  split at h
  ·cases h
  simp only[bind,Except.bind]at h
  split at h
  ·cases h
  rename_i p he
  obtain⟨e1,v1,ns1⟩:=p
  have c3:v1=v+(if hd then 0 else 1):=by
   cases hd with
   | false=>simpa using (LI he).2.2.1
   | true=>simpa using (MI he).1
  simp only at h
  split at h
  ·have:=ih h
   rw[this,c3]
   cases hd<;>simp
   omega
  ·split at h
   ·cases h
   cases h
   rw[c3]
   cases hd<;>simp
   omega
theorem recE_v1 {x:Cx} {num:Bool} {wid:Int} (n:Nat) {acc:List Nd} {i:Nat} {v:Int} {ns:List B8} {e:Nat} {v':Int} {ns':List B8} {out:List Nd}
  (h:Cn x num wid true n acc i v ns= .ok (e,v',ns',out)):v'=v:=by simpa using Q7 n h
theorem YC {x:Cx} {num:Bool} {wid:Int} {i:Nat} {v:Int} {ns:List B8} {i':Nat} {v':Int} {ns':List B8} {r:Nd} {wid':Int}
  (h:G1 x num wid false i v ns= .ok (i',v',ns',r,wid')):v'=v+JA r:=by
 obtain⟨v1,h1,h⟩:=Gd h
 have h1:v1=v+1:=by simpa using h1
 subst h1
 obtain⟨e,v2,ns2,ks,m,h2,h3,hw,hp⟩:=Lr h
 simp only[Prod.mk.injEq]at hp
 obtain⟨rfl,rfl,rfl,rfl,rfl⟩:=hp
 have:=Q7 _ h2
 simp only[Bool.false_eq_true,if_false,List.length_nil]at this
 simp only[JA,Au];omega
theorem LL {x:Cx} {hdr:Bool}:∀(n:Nat) {acc:List Nd} {i:Nat} {v:Int} {ns:List B8} {wid:Int} {out:List Nd},i<=x.s.length->D9 x hdr n acc i v ns wid= .ok out->
  ∃rs,out=acc++rs/\Gz x.a x.q x.s i rs/\(∀r∈rs,∀k∈Au r,(txt x.q (AL k)).length<=65536)/\(∃W:Int,(acc≠ []->W=wid)/\∀r∈rs,((Au r).length:Int)=W)/\
   (DR (hdr&&acc.isEmpty) rs=0∨3<=x.dep/\v+DR (hdr&&acc.isEmpty) rs<=x.nod):=by
 intro n
 induction n with
 | zero=>intro acc i v ns wid out hi h;simp only[D9]at h;cases h
 | succ n ih=>
  intro acc i v ns wid out hi h
  simp only[D9]at h
  split at h
  ·rename_i hl
   cases h
   exact⟨[],by simp,.nil hl,fun r hr=>(by cases hr),⟨wid,fun _=>rfl,fun r hr=>(by cases hr)⟩,.inl (by unfold DR;cases (hdr&&acc.isEmpty)<;>rfl)⟩
  rename_i hl
  simp only[bind,Except.bind]at h
  split at h
  ·cases h
  rename_i p h1
  obtain⟨i',v',ns',r,wid'⟩:=p
  obtain⟨ks,e,m,rfl,rfl,k2,k3,k4,k5,k6,k7⟩:=OU hi h1
  have hle:=k2.le hi
  obtain⟨rs,j1,j2,j3,⟨W,j4,j5⟩,j6⟩:=ih (by omega) h
  have hW:W=wid':=j4 (by simp)
  refine⟨_::rs,by rw[j1,List.append_assoc];rfl,.cons (by omega) k2 j2,?_,⟨W,fun hne=>?_,?_⟩,?_⟩
  ·intro r hr
   rcases List.mem_cons.1 hr with rfl | hr
   ·exact k4
   ·exact j3 r hr
  ·rw[hW];exact k6 (by cases acc;exact absurd rfl hne;rfl)
  ·intro r hr
   rcases List.mem_cons.1 hr with rfl | hr
   ·rw[hW];exact k5
   ·exact j5 r hr
  ·have hnil:(hdr&&(acc++[Nd.mk 8 [] [] ks (slc x.s e (e+m))]).isEmpty)=false:=by cases acc<;>simp
   rw[hnil]at j6
   have hcn:=FY rs
   cases hh:(hdr&&acc.isEmpty)with
   | true=>
    rw[hh]at k3 k7
    simp only[DR,if_true,List.tail_cons,Bool.false_eq_true,if_false]at j6 k3⊢
    rcases j6 with j6 | j6
    ·exact .inl j6
    ·right;omega
   | false=>
    rw[hh]at k3 k7
    have k7:=k7 rfl
    simp only[DR,Bool.false_eq_true,if_false,DB,JA,Au]at j6 k3⊢
    right
    rcases j6 with j6 | j6
    ·exact⟨k7.1,by omega⟩
    ·exact⟨k7.1,by omega⟩
theorem SW {x:Cx} (hdep:3<=x.dep) {W:Int}:∀{i:Nat} {rs:List Nd},Gz x.a x.q x.s i rs->∀(n:Nat) {acc:List Nd} {v:Int} {ns:List B8} {wid:Int},i<=x.s.length->x.s.length<i+n->
  (∀r∈rs,∀k∈Au r,(txt x.q (AL k)).length<=65536)->(acc≠ []->wid=W)->(∀r∈rs,((Au r).length:Int)=W)->v+DB rs<=x.nod->D9 x false n acc i v ns wid= .ok (acc++rs):=by
 intro i rs h
 induction h with
 | nil h=>
  intro n acc v ns wid hi hn hk hw hW hv
  cases n with
  | zero=>omega
  | succ n=>simp only[D9];rw[if_pos h,List.append_nil]
 | @cons i e m ks rs h1 h2 h3 ih=>
  intro n acc v ns wid hi hn hk hw hW hv
  cases n with
  | zero=>omega
  | succ n=>
  have hle:=h2.le hi
  have hks:(ks.length:Int)=W:=hW _ (List.mem_cons_self ..)
  have hm:0<e+m-i:=by
   rcases Nat.eq_zero_or_pos m with h0 | h0
   ·have:=(Fi (by omega) hle.2.2.2.2).2.1 h0;omega
   ·omega
  simp only[DB,JA,Au]at hv
  have hcn:=FY rs
  simp only[D9,Bool.false_and]
  rw[if_neg (by omega),recD_of hdep h2 hi (hk _ (List.mem_cons_self ..)) (fun hn=>by rw[hks];exact(hw (by rintro rfl;simp at hn)).symm) (by omega)]
  simp only[bind,Except.bind]
  rw[ih n (by omega) (by omega) (fun r hr=>hk r (List.mem_cons_of_mem _ hr)) (fun _=>hks) (fun r hr=>hW r (List.mem_cons_of_mem _ hr)) (by omega),List.append_assoc]
  rfl
theorem docE_lim {x:Cx} {hdr:Bool} {d' n':Int}:∀(n:Nat) {acc:List Nd} {i:Nat} {v:Int} {ns:List B8} {wid:Int} {out:List Nd},D9 x hdr n acc i v ns wid= .ok out->
  ∃rs,out=acc++rs/\((DR (hdr&&acc.isEmpty) rs=0∨3<=d')->v+DR (hdr&&acc.isEmpty) rs<=n'->D9 (x.lim d' n') hdr n acc i v ns wid= .ok out)/\
   (0<DR (hdr&&acc.isEmpty) rs->3<=d'->n'<v+DR (hdr&&acc.isEmpty) rs->∃o,D9 (x.lim d' n') hdr n acc i v ns wid= .error (o,10))/\
   (0<DR (hdr&&acc.isEmpty) rs->d'=2->v+DR (hdr&&acc.isEmpty) rs<=n'->∃o,D9 (x.lim d' n') hdr n acc i v ns wid= .error (o,9)):=by
 intro n
 induction n with
 | zero=>intro acc i v ns wid out h;simp only[D9]at h;cases h
 | succ n ih=>
  intro acc i v ns wid out h
  simp only[D9]at h⊢
  split at h
  ·rename_i hl
   cases h
   have h0:DR (hdr&&acc.isEmpty) []=0:=by unfold DR;cases (hdr&&acc.isEmpty)<;>rfl
   refine⟨[],by simp,?_⟩
   rw[h0]
   exact⟨fun _ _=>by rw[if_pos hl],fun h=>absurd h (by decide),fun h=>absurd h (by decide)⟩
  rename_i hl
  rw[if_neg hl]
  simp only[bind,Except.bind]at h⊢
  split at h
  ·cases h
  rename_i p h1
  obtain⟨i',v',ns',r,wid'⟩:=p
  obtain⟨rs,j1,j2,j3,j4⟩:=ih h
  have hnil:(hdr&&(acc++[r]).isEmpty)=false:=by cases acc<;>simp
  rw[hnil]at j2 j3 j4
  have hcn:=FY rs
  refine⟨r::rs,by rw[j1,List.append_assoc];rfl,?_⟩
  cases hh:(hdr&&acc.isEmpty)with
  | true=>
   rw[hh]at h1
   rw[YB,h1]
   have hv:v'=v:=by
    obtain⟨v1,h3,h4⟩:=Gd h1
    have h3:v1=v:=by simpa using h3
    subst h3
    obtain⟨e,v2,ns2,ks,m,h2,h5,hw,hp⟩:=Lr h4
    simp only[Prod.mk.injEq]at hp
    obtain⟨rfl,rfl,rfl,rfl,rfl⟩:=hp
    exact recE_v1 _ h2
   subst hv
   simp only[DR,if_true,List.tail_cons,Bool.false_eq_true,if_false]at j2 j3 j4⊢
   exact⟨j2,j3,j4⟩
  | false=>
   rw[hh]at h1
   have hc:v'=v+JA r:=YC h1
   obtain⟨k0,k1,k2,k3⟩:=ZY (d':=d') (n':=n') h1
   simp only[DR,Bool.false_eq_true,if_false,DB]at j2 j3 j4⊢
   refine⟨fun g1 g2=>?_,fun g0 g1 g2=>?_,fun g0 g1 g2=>?_⟩
   ·have:3<=d':=by rcases g1 with g1 | g1;omega;exact g1
    rw[k1 this (by omega)]
    exact j2 (.inr this) (by omega)
   ·by_cases hv:n'<v'
    ·obtain⟨o,ho⟩:=k2 g1 hv
     rw[ho];exact⟨_,rfl⟩
    ·rw[k1 g1 (by omega)]
     by_cases h0:0<DB rs
     ·exact j3 h0 g1 (by omega)
     ·omega
   ·obtain⟨o,ho⟩:=k3 g1 (by omega)
    rw[ho];exact⟨_,rfl⟩
def Bc (x:Cx) (hd:Bool) (l2 l3 l4:Int):Except (Nat×Int) Nd:=
 if dOk x.a x.q=false then .error (0,1)else if lOk x.dep x.nod l2 l3 l4=false then .error (0,1)else if l2<x.s.length then .error (0,10)else if vlen x.s≠x.s.length then .error (vlen x.s,5)
 else match D9 x hd (x.s.length+1) [] 0 1 [] 0 with
  | .error e=> .error e
  | .ok rs=> .ok (.mk 1 [] [] rs [])
def pN:Except (Nat×Int) Nd->Nd | .ok n=>n | .error _=> .mk 0 [] [] [] []
def pO:Except (Nat×Int) Nd->Int | .ok _=>0 | .error e=>e.1
def pE:Except (Nat×Int) Nd->Int | .ok _=>0 | .error e=>e.2
theorem RI (x:Cx) (hdr:Bool) (n:Nat) (acc:List Nd) (i:Nat) (v:Int) (ns:List B8) (wid:Int):D9 x hdr (n+1) acc i v ns wid=
  if x.s.length<=i then .ok acc else match G1 x (!acc.isEmpty) wid (hdr&&acc.isEmpty) i v ns with
   | .error e=> .error e
   | .ok (i',v',ns',r,wid')=>D9 x hdr n (acc++[r]) i' v' ns' wid':=by
 simp only[D9,bind,Except.bind]
 by_cases h:x.s.length<=i
 ·rw[if_pos h,if_pos h]
 ·rw[if_neg h,if_neg h]
  rcases G1 x (!acc.isEmpty) wid (hdr&&acc.isEmpty) i v ns with e | ⟨i',v',ns',r,wid'⟩<;>rfl
theorem Xp {x:Cx} {num hd:Bool} {wid:Int} {i:Nat} {v:Int} {ns:List B8} {i':Nat} {v':Int} {ns':List B8} {r:Nd} {wid':Int} (hi:i<x.s.length)
  (h:G1 x num wid hd i v ns= .ok (i',v',ns',r,wid')):i<i'/\i'<=x.s.length/\v<=v'/\v'<=v+3*(i'-i:Nat)/\1<=wid':=by
 obtain⟨ks,e,m,rfl,rfl,k2,k3,k4,k5,k6,k7⟩:=OU (by omega) h
 have hle:=k2.le (by omega)
 have hpos:1<=e+m-i:=by
  have:=(Fi (by omega) hle.2.2.2.2).2.1
  rcases Nat.eq_zero_or_pos m with h0 | h0
  ·have:=this h0;omega
  ·omega
 cases hd<;>simp at k3<;>omega
theorem JM {x:Cx} {hd ty:Bool} {l2 l3 l4:Int} {st:St} {K:Int->B8->B8->TV->B8->Int->Int->St->Prop} (hl:x.s.length<=2000000)
  (hk:∀k kv st',Am st st'->NdC (pN (Bc x hd l2 l3 l4)) [.int .i64 k,.str [],.str [],kv,.str []]->K k [] [] kv [] (pO (Bc x hd l2 l3 l4)) (pE (Bc x hd l2 l3 l4)) st'):
  CallT PR Dx [.str x.s,.agg [.int .u8 x.a,.int .u8 x.q,.bool hd,.bool ty],.agg [.int .i64 x.dep,.int .i64 x.nod,.int .i64 l2,.int .i64 l3,.int .i64 l4]] [.agg [.int .i64,.str,.str,.tv,.str],.one (.int .i64),.one (.int .i64)] st K:=by
 generalize hP:Bc x hd l2 l3 l4=P at hk
 unfold Bc at hP
 have hnil:NdC (.mk 0 [] [] [] []) [.int .i64 0,.str [],.str [],.nilSlice,.str []]:=by unfold NdC;exact⟨_,[],rfl,.inl ⟨rfl,rfl,rfl⟩,BF.nil⟩
 have bad:∀(o:Nat) (e:Int) st',P= .error (o,e)->Am st st'->K 0 [] [] .nilSlice [] o e st':=fun o e st' h he=>by
  have:=hk 0 .nilSlice st' he (by rw[h];exact hnil)
  rwa [h]at this
 refine Ol x.s x.a x.q hd ty x.dep x.nod l2 l3 l4 st K (HG (Ap (fun g=>?_) fun g=>?_))
 ·have g:dOk x.a x.q=false:=by simpa using g
  rw[if_pos g]at hP
  exact bad _ _ st hP.symm (Am.refl _)
 have g:dOk x.a x.q=true:=by simpa using g
 rw[if_neg (by rw[g];decide)]at hP
 refine We (Ap (fun g=>?_) fun g=>?_)
 ·have g:lOk x.dep x.nod l2 l3 l4=false:=by simpa using g
  rw[if_pos g]at hP
  exact bad _ _ st hP.symm (Am.refl _)
 have g:lOk x.dep x.nod l2 l3 l4=true:=by simpa using g
 rw[if_neg (by rw[g];decide)]at hP
 refine Aa (fun g=>?_) fun g=>?_
 ·rw[if_pos g]at hP
  exact bad _ _ st hP.symm (Am.refl _)
 rw[if_neg g]at hP
 refine Wt hl (Aa (fun g=>?_) fun g=>?_)
 ·have h2:vlen x.s≠x.s.length:=fun h=>by rw[if_pos h]at g;omega
  rw[if_neg h2]
  rw[if_pos h2]at hP
  exact bad _ _ st hP.symm (Am.refl _)
 have h2:vlen x.s=x.s.length:=Decidable.byContradiction fun h=>by rw[if_neg h]at g;omega
 rw[if_neg (by rw[h2];simp)]at hP
 refine Ab rfl ?_
 obtain⟨m,hm⟩:∃m,m=st.nb:=⟨_,rfl⟩
 obtain⟨p,hp⟩:∃p,p=(st.push (.map []) none).nb:=⟨_,rfl⟩
 rw[<-hm,<-hp]
 have hpm:p=m+1:=by rw[hp,hm];rfl
 obtain⟨sa,hsa⟩:∃sa,sa=st.push (.map []) none:=⟨_,rfl⟩
 rw[<-hsa]at hp⊢
 obtain⟨sb,hsb⟩:∃sb,sb=sa.push (.cells (pcl x hd ty l2 l3 l4 m 0 1 0 0 0)) (some 180):=⟨_,rfl⟩
 have e0:Am st sb:=by rw[hsb,hsa];exact((Am.refl st).push _ _).push _ _
 have k0:PSD p m x hd ty l2 l3 l4 [] 0 1 0 0 0 sb:=by
  refine⟨by omega,by rw[hsb,hp];simp[St.push],by rw[hsb,hsa,hm];simp[St.push];omega,by rw[hsb,hp];exact Fq _ _ _,[],?_,fun t=>by simp[BP]⟩
  rw[hsb,hsa,hm]
  simp[St.push]
 have lim:∀st',StX (PM p m) sb st'->Am st st':=fun st' h=>StX.ext e0 h fun i hi=>by rcases hi with h | h<;>omega
 refine⟨fun s' p' kd le tx kv tl st'=>x.s=s'/\TV.box p 0=p'/\1=kd/\[]=le/\[]=tx/\[]=tl/\∃(j n:Nat) (acc:List Nd) (v w:Int) (ns:List B8) (xs:List TV),StX (PM p m) sb st'/\PSD p m x hd ty l2 l3 l4 ns j v w 0 0 st'/\
   Own sb.nt 5 st' kv acc.length xs/\BF acc xs/\j<=x.s.length/\x.s.length<j+n/\acc.length<=j/\0<=v/\v<=1+3*j/\(match D9 x hd n acc j v ns w with | .error e=> .error e | .ok rs=> .ok (.mk 1 [] [] rs []))=P,
  fun _ _ _ _ _ _ _ st'=>(x.s.length-Nn st' p 10).toNat,⟨rfl,rfl,rfl,rfl,rfl,rfl,0,x.s.length+1,[],1,0,[],[],hsb▸StX.refl _ _,hsb▸k0,Own.nil _ _ _,BF.nil,by omega,by omega,by simp,by omega,by omega,hP⟩,?_⟩
 rintro _ _ _ _ _ kv _ st3 ⟨rfl,rfl,rfl,rfl,rfl,rfl,j,n,acc,v,w,ns,xs,f3,k3,o3,hx,hj,hjn,hac,hv0,hv,hE⟩
 have b3:=k3.bx
 cases n with
 | zero=>omega
 | succ n=>
 rw[RI]at hE
 repeat' first
  | (guard_target=~need _ _;refine Ab rfl ?_)
  | (guard_target=~Ae (Ad _ _ _ _) _;refine Ac (ldB b3 rfl) ?_)
  | (guard_target=~Af (.int _) _ _;refine Ar ?_)
  | (guard_target=~Af .str _ _;refine Al ?_)
  | (guard_target=~Af .bool _ _;refine Aq ?_)
 refine Aa (fun q=>Ab o3.rd.isSl ?_) fun q=>?_
 ·rw[if_neg (by omega)]at hE
  rw[o3.rd.lenS]
  have hN1:decide (((acc.length:Nat):Int)≠0)= !acc.isEmpty:=by
   cases acc with
   | nil=>rfl
   | cons a l=>exact decide_eq_true (by simp only[List.length_cons];omega)
  have hN2:(decide (((acc.length:Nat):Int)=0)&&hd)=(hd&&acc.isEmpty):=by
   cases acc with
   | nil=>cases hd<;>rfl
   | cons a l=>rw[decide_eq_false (by simp only[List.length_cons];omega)];cases hd<;>rfl
  refine V2 rfl hj hl hv0 (by omega) (by omega) k3 (fun k v1 ns1 r w1 kv1 tl st4 hr e4 k4 hc4=>?_) fun o' e' ns1 k v1 w1 kv1 tl st4 hr e4 k4 ho4=>?_
  ·rw[hN1,hN2]at hr
   rw[hr]at hE
   simp only at hE
   have hle:=Xp (by omega) hr
   have hone:As kv1=true:=by
    obtain⟨a,b,c,d,f⟩:=r
    unfold NdC at hc4
    obtain⟨u,ys,hu,hu2,_⟩:=hc4
    cases hu
    exact hu2.one
   refine Ab (Ey hone) (Ap (fun h=>by cases h) fun _=>Ab (Ey hone) ?_)
   refine J1 (f3.trans e4) (o3.extXD e4) (by omega) (fun h=>by cases h) fun v5 st5 e5 hbx hnb o5=>Ab (O7 o5.rd.one) ?_
   have hlen:(acc++[r]).length=acc.length+1:=by simp
   refine⟨⟨rfl,rfl,rfl,rfl,rfl,rfl,k,n,acc++[r],v1,w1,ns1,_,e5,k4.same hbx hnb,by rw[hlen];exact o5,hx.append (BF.one hc4),by omega,by omega,by omega,by omega,by omega,hE⟩,?_⟩
   dsimp only
   rw[Ea (k4.same hbx hnb).bx rfl,Ea b3 rfl]
   omega
  ·rw[hN1,hN2]at hr
   rw[hr]at hE
   simp only at hE
   refine Ab (Ey ho4) (Ap (fun _=>?_) fun h=>by cases h)
   have b4:=k4.bx
   repeat' first
    | (guard_target=~need _ _;refine Ab rfl ?_)
    | (guard_target=~Ae (Ad _ _ _ _) _;refine Ac (ldB b4 rfl) ?_)
    | (guard_target=~Af (.int _) _ _;refine Ar ?_)
    | (guard_target=~Af .str _ _;refine Al ?_)
    | (guard_target=~Af .bool _ _;refine Aq ?_)
   exact bad _ _ st4 hE.symm (lim _ (f3.trans e4))
 ·rw[if_pos (by omega)]at hE
  simp only at hE
  subst hE
  exact Ab (Ey o3.rd.one) (hk 1 kv st3 (lim _ f3) (by unfold pN NdC;exact⟨kv,xs,rfl,o3.rd,hx⟩))
theorem YR {s:B8} {i o:Nat} {c:Int} (h:D3 s i= .error (o,c)):(o=i/\c=3)∨(o=s.length/\c=4):=by
 unfold D3 at h
 repeat' split at h
 all_goals first | cases h | skip
 all_goals simp
section
theorem Vo {dep nod d:Int} {i:Nat} {v:Int} {o:Nat} {c:Int} (h:Gs dep nod d i v= .error (o,c)):c≠0:=by
 unfold Gs at h
 split at h
 ·cases h;decide
 split at h
 ·cases h;decide
 ·cases h
theorem Zd {a q:Int} {s:B8} {i o:Nat} {c:Int} (h:CD a q s i= .error (o,c)):c≠0:=by
 unfold CD at h
 split at h<;>split at h<;>cases h<;>decide
section
variable {x:Cx} {hd ty:Bool} {l2 l3 l4:Int} {st:St}
end
end
theorem NP {q:Int} {c:UInt8} (hc:(c.toNat:Int)=q):∀(t rest:B8) (i:Nat),(∀b l,rest=b::l->(b.toNat:Int)≠q)->IR q (dbl c t++c::rest) i=some (i+(dbl c t).length+1)
 | [],rest,i,h=>by
  simp only[dbl,List.flatMap_nil,List.nil_append,List.length_nil,Nat.add_zero]
  cases rest with
  | nil=>simp only[IR];rw[if_pos hc]
  | cons b l=>simp only[IR];rw[if_pos hc,if_neg (h b l rfl)]
 | b::t,rest,i,h=>by
  rw[CB]
  by_cases hb:b=c
  ·rw[if_pos hb]
   have ih:=NP hc t rest (i+2) h
   simp only[List.cons_append,List.nil_append,List.length_cons,IR]
   rw[if_pos hc,if_pos hc,ih]
   congr 1;omega
  ·rw[if_neg hb]
   have hb':(b.toNat:Int)≠q:=fun h=>hb (UInt8.toNat_inj.1 (by omega))
   have ih:=NP hc t rest (i+1) h
   simp only[List.cons_append,List.nil_append,List.length_cons]
   cases hr:dbl c t++c::rest with
   | nil=>simp at hr
   | cons b2 l2=>
    rw[hr]at ih
    simp only[IR]
    rw[if_neg hb',ih]
    congr 1;omega
theorem Xs {a q:Int} (ha:a≠q) (hq:q≠10) (hq2:q≠13):∀(t:B8) (b:UInt8) (rest:B8) (i:Nat),(∀c∈t,(c.toNat:Int)≠a/\(c.toNat:Int)≠q/\(c.toNat:Int)≠10/\(c.toNat:Int)≠13)->
  ((b.toNat:Int)=a∨(b.toNat:Int)=10)->Uz a q (t++b::rest) i= .ok (i+t.length)
 | [],b,rest,i,h,hb=>by simp only[List.nil_append,Uz];rw[if_pos (by omega)];rfl
 | c::t,b,rest,i,h,hb=>by
  have hc:=h c (List.mem_cons_self ..)
  simp only[List.cons_append,Uz]
  rw[if_neg (by omega),if_neg hc.2.1,Xs ha hq hq2 t b rest (i+1) (fun d hd=>h d (List.mem_cons_of_mem _ hd)) hb]
  simp;omega
def Ez (a q:Int) (s:B8):Bool:=s.any fun c=>decide ((c.toNat:Int)=a∨(c.toNat:Int)=q∨(c.toNat:Int)=10∨(c.toNat:Int)=13)
def AO (a q:Int) (s:B8):B8:=if Ez a q s then UInt8.ofNat q.toNat::(dbl (UInt8.ofNat q.toNat) s++[UInt8.ofNat q.toNat])else s
theorem Pa {a q:Int} {s:B8} (h:Ez a q s=false):∀c∈s,(c.toNat:Int)≠a/\(c.toNat:Int)≠q/\(c.toNat:Int)≠10/\(c.toNat:Int)≠13:=by
 intro c hc
 unfold Ez at h
 rw[List.any_eq_false]at h
 have:=h c hc
 rw[decide_eq_true_eq]at this
 omega
theorem CL {q:Int} (h:0<=q) (h2:q<=255):((UInt8.ofNat q.toNat).toNat:Int)=q:=by
 rw[UInt8.toNat_ofNat'];omega
theorem Hp {a q:Int} (h:0<=q) (h2:q<=255) (s:B8):txt q (AO a q s)=s:=by
 unfold AO
 split
 ·exact HX (CL h h2)
 ·rename_i hn
  have hn:=Pa (by simpa using hn)
  unfold txt
  rw[if_pos]
  cases s with
  | nil=>exact .inl rfl
  | cons b l=>exact .inr (hn b (List.mem_cons_self ..)).2.1
theorem KQ {a q:Int} (hq0:0<=q) (hq1:q<=255) (ha:a≠q) (hq:q≠10) (hq2:q≠13) (pre c:B8) (b:UInt8) (post:B8) (hb:(b.toNat:Int)=a∨(b.toNat:Int)=10):
  CD a q (pre++AO a q c++b::post) pre.length= .ok (pre.length+(AO a q c).length):=by
 have hd:(pre++AO a q c++b::post).drop pre.length=AO a q c++b::post:=by rw[List.append_assoc,List.drop_left]
 have hby:∀d l,AO a q c++b::post=d::l->by_ (pre++AO a q c++b::post) pre.length=(d.toNat:Int):=fun d l h=>by
  have:(pre++AO a q c++b::post).getD pre.length 0=((pre++AO a q c++b::post).drop pre.length).getD 0 0:=by rw[JV];rfl
  unfold by_
  rw[this,hd,h];rfl
 have hlen:pre.length<(pre++AO a q c++b::post).length:=by simp only[List.length_append,List.length_cons];omega
 have hqb:=CL hq0 hq1
 unfold CD
 by_cases hn:Ez a q c=true
 ·have hqc:AO a q c=UInt8.ofNat q.toNat::(dbl (UInt8.ofNat q.toNat) c++[UInt8.ofNat q.toNat]):=by unfold AO;rw[if_pos hn]
  have:=hby (UInt8.ofNat q.toNat) (dbl (UInt8.ofNat q.toNat) c++[UInt8.ofNat q.toNat]++b::post) (by rw[hqc];rfl)
  rw[if_pos ⟨hlen,by rw[this];exact hqb⟩]
  have hQ:QE q (pre++AO a q c++b::post) (pre.length+1)=some (pre.length+(AO a q c).length):=by
   unfold QE
   rw[<-List.drop_drop,hd,hqc]
   have:=NP hqb c (b::post) (pre.length+1) (fun b' l' h=>by cases h;omega)
   simp only[List.cons_append,List.drop_succ_cons,List.drop_zero,List.append_assoc,List.nil_append]
   rw[this]
   congr 1
   simp;omega
  rw[hQ]
 ·have hn:Ez a q c=false:=by simpa using hn
  have hqc:AO a q c=c:=by unfold AO;rw[if_neg (by rw[hn];decide)]
  have hno:=Pa hn
  have hP:PE a q (pre++AO a q c++b::post) pre.length= .ok (pre.length+(AO a q c).length):=by
   unfold PE
   rw[hd,hqc]
   exact Xs ha hq hq2 c b post pre.length hno hb
  rw[if_neg,hP]
  rintro⟨_,h2⟩
  cases hc:c with
  | nil=>rw[hby b post (by rw[hqc,hc];rfl)]at h2;omega
  | cons d l=>rw[hby d (l++b::post) (by rw[hqc,hc];rfl)]at h2;exact(hno d (by rw[hc];exact List.mem_cons_self ..)).2.1 h2
def B4 (a q:Int):List B8->B8
 | []=>[10]
 | [c]=>AO a q c++[10]
 | c::r=>AO a q c++UInt8.ofNat a.toNat::B4 a q r
theorem PD {a q:Int} (ha0:0<=a) (ha1:a<=255) (hq0:0<=q) (hq1:q<=255) (ha:a≠q) (hq:q≠10) (hq2:q≠13) (ha10:a≠10):∀(cs:List B8) (pre post:B8),cs≠ []->
  ∃ks e,Hh a q (pre++B4 a q cs++post) pre.length ks e 1/\e+1=pre.length+(B4 a q cs).length/\ks.map AL=cs.map (AO a q)/\slc (pre++B4 a q cs++post) e (e+1)=[10]
 | [],pre,post,h=>absurd rfl h
 | [c],pre,post,_=>by
  have hs:pre++B4 a q [c]++post=pre++AO a q c++10::post:=by simp[B4]
  have hc:=KQ hq0 hq1 ha hq hq2 pre c 10 post (.inr rfl)
  rw[hs]
  have hlt:pre.length+(AO a q c).length<(pre++AO a q c++10::post).length:=by simp
  have hb:(pre++AO a q c++10::post).getD (pre.length+(AO a q c).length) 0=10:=by
   have:(pre++AO a q c).length=pre.length+(AO a q c).length:=by simp
   rw[<-this,List.getD_eq_getElem?_getD,List.getElem?_append_right (Nat.le_refl _)]
   simp
  have hby:by_ (pre++AO a q c++10::post) (pre.length+(AO a q c).length)=10:=by unfold by_;rw[hb];rfl
  refine⟨_,_,.last hc (by rintro⟨_,h⟩;rw[hby]at h;exact ha10 h.symm) ?_,?_,?_,?_⟩
  ·unfold D3;rw[if_neg (by omega),if_pos hby]
  ·simp[B4];omega
  ·simp only[List.map_cons,List.map_nil,BQ]
   congr 1
   unfold slc
   rw[show pre.length+(AO a q c).length=(pre++AO a q c).length by simp,List.take_left,List.drop_left]
  ·rw[Sr hlt,hb]
 | c::c2::r,pre,post,_=>by
  have hs:pre++B4 a q (c::c2::r)++post=pre++AO a q c++UInt8.ofNat a.toNat::(B4 a q (c2::r)++post):=by simp[B4]
  have hs2:pre++AO a q c++UInt8.ofNat a.toNat::(B4 a q (c2::r)++post)=(pre++AO a q c++[UInt8.ofNat a.toNat])++B4 a q (c2::r)++post:=by simp
  have hab:=CL ha0 ha1
  have hc:=KQ hq0 hq1 ha hq hq2 pre c (UInt8.ofNat a.toNat) (B4 a q (c2::r)++post) (.inl hab)
  obtain⟨ks,e,h1,h2,h3,h4⟩:=PD ha0 ha1 hq0 hq1 ha hq hq2 ha10 (c2::r) (pre++AO a q c++[UInt8.ofNat a.toNat]) post (by simp)
  rw[<-hs2]at h1 h4
  rw[hs]
  have hlt:pre.length+(AO a q c).length<(pre++AO a q c++UInt8.ofNat a.toNat::(B4 a q (c2::r)++post)).length:=by simp
  have hb:(pre++AO a q c++UInt8.ofNat a.toNat::(B4 a q (c2::r)++post)).getD (pre.length+(AO a q c).length) 0=UInt8.ofNat a.toNat:=by
   have:(pre++AO a q c).length=pre.length+(AO a q c).length:=by simp
   rw[<-this,List.getD_eq_getElem?_getD,List.getElem?_append_right (Nat.le_refl _)]
   simp
  have hpl:(pre++AO a q c++[UInt8.ofNat a.toNat]).length=pre.length+(AO a q c).length+1:=by simp;omega
  rw[hpl]at h1 h2
  refine⟨_,_,.more hc hlt (by unfold by_;rw[hb];exact hab) h1,?_,?_,h4⟩
  ·simp only[B4,List.length_append,List.length_cons];omega
  ·simp only[List.map_cons,BQ]
   rw[h3]
   congr 1
   unfold slc
   rw[show pre.length+(AO a q c).length=(pre++AO a q c).length by simp,List.take_left,List.drop_left]
def Cq (a q:Int) (l:List (List B8)):B8:=l.flatMap (B4 a q)
theorem OS {a q:Int} (ha0:0<=a) (ha1:a<=255) (hq0:0<=q) (hq1:q<=255) (ha:a≠q) (hq:q≠10) (hq2:q≠13) (ha10:a≠10):∀(l:List (List B8)) (pre:B8),(∀cs∈l,cs≠ [])->
  ∃rs,Gz a q (pre++Cq a q l) pre.length rs/\rs.map (fun r=>(Au r).map AL)=l.map (fun cs=>cs.map (AO a q))
 | [],pre,h=>⟨[],.nil (by simp[Cq]),rfl⟩
 | cs::l,pre,h=>by
  have hs:pre++Cq a q (cs::l)=pre++B4 a q cs++Cq a q l:=by simp[Cq]
  obtain⟨ks,e,h1,h2,h3,h4⟩:=PD ha0 ha1 hq0 hq1 ha hq hq2 ha10 cs pre (Cq a q l) (h cs (List.mem_cons_self ..))
  obtain⟨rs,h5,h6⟩:=OS ha0 ha1 hq0 hq1 ha hq hq2 ha10 l (pre++B4 a q cs) (fun c hc=>h c (List.mem_cons_of_mem _ hc))
  rw[hs]
  rw[List.length_append]at h5
  have hle:=h1.le (by simp)
  refine⟨_,.cons (by simp only[List.length_append]at hle⊢;omega) h1 (by rw[h2];exact h5),?_⟩
  rw[List.map_cons,List.map_cons,h6]
  show ks.map AL::_=_
  rw[h3]
theorem chk_ent {a q:Int} {k:Nd} (h:Xa a q k) {s:Int} (hs:s+3<=524288):∃s',chk k 3 s= .ok s'/\s<=s'/\s'<=s+3:=by
 obtain⟨c,mark,rfl,_,hm⟩:=h
 rcases hm with rfl | ⟨b,_,rfl⟩
 ·refine⟨s+1+1,?_,by omega,by omega⟩
  have l2:IE 2=true:=by decide
  have l5:IE 5=false:=by decide
  simp only[chk,HN,l2,l5,List.length_nil]
  rw[if_neg (by omega),if_neg (by omega),if_neg (by omega),if_neg (by simp),if_neg (by omega),if_neg (by omega),if_neg (by omega),if_neg (by simp)]
 ·refine⟨s+1+1+1,?_,by omega,by omega⟩
  have l2:IE 2=true:=by decide
  have l5:IE 5=false:=by decide
  have l11:IE 11=true:=by decide
  simp only[chk,HN,l2,l5,l11,List.length_nil]
  rw[if_neg (by omega),if_neg (by omega),if_neg (by omega),if_neg (by simp),if_neg (by omega),if_neg (by omega),if_neg (by omega),if_neg (by simp)]
  simp only
  rw[if_neg (by omega),if_neg (by omega),if_neg (by omega),if_neg (by simp)]
theorem MN {a q:Int}:∀(ks:List Nd) (h:∀k∈ks,Xa a q k) {s:Int} (hs:s+3*ks.length<=524288),∃s',HN ks 3 s= .ok s'/\s<=s'/\s'<=s+3*ks.length
 | [],h,s,hs=>⟨s,rfl,by omega,by simp⟩
 | k::ks,h,s,hs=>by
  rw[List.length_cons]at hs
  obtain⟨s1,h1,h2,h3⟩:=chk_ent (h k (List.mem_cons_self ..)) (s:=s) (by omega)
  obtain⟨s2,h4,h5,h6⟩:=MN ks (fun k hk=>h k (List.mem_cons_of_mem _ hk)) (s:=s1) (by omega)
  refine⟨s2,?_,by omega,by rw[List.length_cons];omega⟩
  simp only[HN,h1,h4]
theorem Y9 {a q:Int} {src:B8} {i:Nat} {rs:List Nd} (h:Gz a q src i rs):i<=src.length->∀{s:Int},s+7*(src.length-i:Nat)<=524288->∃s',HN rs 2 s= .ok s'/\s<=s'/\s'<=s+7*(src.length-i:Nat):=by
 induction h with
 | nil h=>intro hi s hs;exact⟨s,rfl,by omega,by omega⟩
 | @cons i e n ks rs h1 h2 h3 ih=>
  intro hi s hs
  have hle:=h2.le hi
  have hpos:1<=e+n-i:=by
   have:=(Fi (by omega) hle.2.2.2.2).2.1
   rcases Nat.eq_zero_or_pos n with h0 | h0
   ·have:=this h0;omega
   ·omega
  obtain⟨s1,j1,j2,j3⟩:=MN ks (h2.form hi) (s:=s+1) (by omega)
  obtain⟨s2,j4,j5,j6⟩:=ih (by omega) (s:=s1) (by omega)
  have l8:IE 8=false:=by decide
  refine⟨s2,?_,by omega,by omega⟩
  simp only[HN,chk,l8]
  rw[if_neg (by omega),if_neg (by omega),if_neg (by omega),if_neg (by simp)]
  simp only[Int.reduceAdd]
  rw[j1]
  exact j4
theorem Rt {a q:Int}:∀(ks:List Nd) (h:∀k∈ks,Xa a q k),KJ ks<=3*ks.length
 | [],h=>by simp[KJ]
 | k::ks,h=>by
  have ih:=Rt ks fun k hk=>h k (List.mem_cons_of_mem _ hk)
  obtain⟨c,mark,rfl,_,hm⟩:=h k (List.mem_cons_self ..)
  rcases hm with rfl | ⟨b,_,rfl⟩<;>simp only[KJ,ES,List.length_cons]<;>omega
theorem Rs {a q:Int} {src:B8} {i:Nat} {rs:List Nd} (h:Gz a q src i rs):i<=src.length->KJ rs<=7*(src.length-i)/\rs.length<=src.length-i:=by
 induction h with
 | nil h=>intro hi;simp[KJ]
 | @cons i e n ks rs h1 h2 h3 ih=>
  intro hi
  have hle:=h2.le hi
  have hpos:1<=e+n-i:=by
   have:=(Fi (by omega) hle.2.2.2.2).2.1
   rcases Nat.eq_zero_or_pos n with h0 | h0
   ·have:=this h0;omega
   ·omega
  have:=Rt ks (h2.form hi)
  have ih:=ih (by omega)
  simp only[KJ,ES,List.length_cons]
  omega
theorem TB {c:UInt8} (hc:c.toNat<128):∀(n:Nat) (t:B8),t.length<=n->vlen t=t.length->vlen (dbl c t)=(dbl c t).length:=by
 intro n
 induction n with
 | zero=>intro t h hv;have:t=[]:=List.eq_nil_of_length_eq_zero (by omega);subst this;simp[dbl,Cf]
 | succ n ih=>
  intro t h hv
  by_cases ht:t=[]
  ·subst ht;simp[dbl,Cf]
  have hpos:0<t.length:=List.length_pos_iff.2 ht
  have h0:ul t≠0:=fun h0=>by rw[BI t h0]at hv;omega
  have hle:=I7 t
  have hsplit:dbl c t=dbl c (t.take (ul t))++dbl c (t.drop (ul t)):=by rw[<-XU,List.take_append_drop]
  rw[BJ _ h0]at hv
  have hr:=ih (t.drop (ul t)) (by rw[List.length_drop];omega) (by rw[List.length_drop];omega)
  rw[hsplit]
  refine Cg ?_ hr
  by_cases hb:bt t 0<128
  ·have h1:=(K9 t ht hb).1
   rw[h1,Jb t (by omega)]
   have:dbl c [t.getD 0 0]=if t.getD 0 0=c then [c,c]else [t.getD 0 0]:=by simp[dbl,Qt]
   rw[this]
   split
   ·exact BK hc (BK hc (by simp[Cf]))
   ·exact BK hb (by simp[Cf])
  ·have hn:c∉t.take (ul t):=by
    intro hm
    obtain⟨i,hi,hi2⟩:=List.mem_iff_getElem.1 hm
    rw[List.length_take]at hi
    have hbt:bt t i=c.toNat:=by
     unfold bt
     rw[List.getD_eq_getElem?_getD,List.getElem?_eq_getElem (by omega)]
     rw[List.getElem_take]at hi2
     rw[<-hi2];rfl
    by_cases hi0:i=0
    ·subst hi0;omega
    ·have:=(NN t i (by omega) (by omega)).1
     omega
   rw[PP hn,List.length_take,Nat.min_eq_left hle]
   have hu:=Sj (l:=t) (m:=ul t) h0 (Nat.le_refl _)
   rw[BJ _ (by rw[hu.1];exact h0),hu.1]
   have:(t.take (ul t)).drop (ul t)=[]:=List.drop_of_length_le (by rw[List.length_take];omega)
   rw[this,Cf];rfl
theorem Xf {l:B8} (h:ul l≠0):¬PS (bt l 0):=by
 have hne:l≠ []:=fun h0=>h (by simp[ul,h0])
 have:=(Z2 l hne h).1
 unfold hdS at this
 unfold PS
 rintro⟨h1,h2⟩
 rw[if_neg (by omega),if_neg (by omega),if_neg (by omega),if_neg (by omega)]at this
 exact this rfl
theorem Vp:∀(n:Nat) (s:B8) (k:Nat),s.length<=n->vlen s=s.length->k<s.length->bt s k<128->Bd s (k+1):=by
 intro n
 induction n with
 | zero=>intro s k h hv hk hb;omega
 | succ n ih=>
  intro s k h hv hk hb
  have h0:ul s≠0:=fun h0=>by rw[BI s h0]at hv;omega
  have hle:=I7 s
  rw[BJ _ h0]at hv
  have hv2:vlen (s.drop (ul s))=(s.drop (ul s)).length:=by rw[List.length_drop];omega
  by_cases hku:k<ul s
  ·by_cases hk0:k=0
   ·subst hk0
    have h1:=(K9 s (by rintro rfl;simp at hk) hb).1
    refine⟨by omega,?_⟩
    by_cases hl:s.length=1
    ·exact .inl (by omega)
    ·right
     rw[h1]at hv2
     have hz:ul (s.drop 1)≠0:=fun hz=>by rw[BI _ hz,List.length_drop]at hv2;omega
     have:=Xf hz
     rwa [J0]at this
   ·have:=(NN s k (by omega) hku).1;omega
  ·have:=ih (s.drop (ul s)) (k-ul s) (by rw[List.length_drop];omega) hv2 (by rw[List.length_drop];omega) (by rw[J0,show ul s+(k-ul s)=k by omega];exact hb)
   obtain⟨h1,h2⟩:=this
   rw[List.length_drop]at h1
   refine⟨by omega,?_⟩
   rw[List.length_drop,J0,show ul s+(k-ul s+1)=k+1 by omega]at h2
   rcases h2 with h2 | h2
   ·exact .inl (by omega)
   ·exact .inr h2
theorem B2 {x:Cx} {hd:Bool} {l2 l3 l4:Int} {n:Nd} (h:Bc x hd l2 l3 l4= .ok n):∃rs,n= .mk 1 [] [] rs []/\dOk x.a x.q=true/\lOk x.dep x.nod l2 l3 l4=true/\(x.s.length:Int)<=l2/\vlen x.s=x.s.length/\D9 x hd (x.s.length+1) [] 0 1 [] 0= .ok rs/\
  Gz x.a x.q x.s 0 rs/\(∀r∈rs,∀k∈Au r,(txt x.q (AL k)).length<=65536)/\(∃W:Int,∀r∈rs,((Au r).length:Int)=W):=by
 unfold Bc at h
 split at h
 ·cases h
 rename_i h1
 split at h
 ·cases h
 rename_i h2
 split at h
 ·cases h
 rename_i h3
 split at h
 ·cases h
 rename_i h4
 split at h
 ·cases h
 rename_i rs hr
 cases h
 obtain⟨rs',j1,j2,j3,⟨W,j4,j5⟩,j6⟩:=LL _ (by omega) hr
 rw[List.nil_append]at j1
 subst j1
 exact⟨_,rfl,by simpa using h1,by simpa using h2,by omega,Decidable.not_not.1 h4,hr,j2,j3,W,j5⟩
abbrev xU (s:B8) (a q:Int):Cx:=⟨s,a,q,48,65536⟩
abbrev Ex (s:B8) (a q:Int) (hd:Bool):Except (Nat×Int) Nd:=Bc (xU s a q) hd 1048576 1024 65536
def Hy (n:Nd) (a q:Int) (hd:Bool):Prop:=HM n=0/\Ex (CF n) a q hd= .ok n
theorem PV {n:Nd} (h:HM n=0):DS n<=1048576:=by
 unfold HM at h
 split at h
 ·rename_i e he;exact absurd h (Iw n he)
 ·split at h
  ·cases h
  ·omega
theorem SG {x:Cx} {hd:Bool} {l2 l3 l4:Int} (hl:x.s.length<=2000000):ES (pN (Bc x hd l2 l3 l4))<=1000000000000000:=by
 cases h:Bc x hd l2 l3 l4 with
 | error e=>simp[pN,ES,KJ]
 | ok n=>
  obtain⟨rs,rfl,_,_,_,_,_,hr,_⟩:=B2 h
  have:=(Rs hr (by omega)).1
  simp only[pN,ES];omega
theorem NdC.five {n:Nd} {cs:List TV} (h:NdC n cs):∃k l t v tl,cs=[.int .i64 k,.str l,.str t,v,.str tl]/\As v=true:=by
 cases n
 unfold NdC at h
 obtain⟨v,xs,rfl,hr,_⟩:=h
 exact⟨_,_,_,v,_,rfl,hr.one⟩
theorem Rq {st:St} {K:Int->Int->Int->Int->Int->St->Prop} (hk:K 48 65536 1048576 1024 65536 st):CallT PR EH [] [.agg [.int .i64,.int .i64,.int .i64,.int .i64,.int .i64]] st K:=Og st K hk
theorem Ut {st:St} {K:Int->Int->Int->Int->Int->St->Prop} (hk:K 48 65536 1048576 1024 65536 st):CallT PR Df [] [.agg [.int .i64,.int .i64,.int .i64,.int .i64,.int .i64]] st K:=IN st K hk
theorem Us {st:St} {K:Int->Int->Int->Int->Int->St->Prop} (hk:K 48 65536 1048576 1024 65536 st):CallT PR Dd [] [.agg [.int .i64,.int .i64,.int .i64,.int .i64,.int .i64]] st K:=IL st K (Ut hk)
theorem Xt {n:Nd} {cs:List TV} {a q:Int} {hd ty:Bool} (hc:NdC n cs) (hl:DS n<=100000000000000) (hcn:ES n<=1000000000000000) {st:St} {K:Bool->St->Prop}
  (hk1:∀st',Am st st'->Hy n a q hd->K true st') (hk2:∀st',Am st st'->¬Hy n a q hd->K false st'):
  CallT PR Fc [.agg cs,.agg [.int .u8 a,.int .u8 q,.bool hd,.bool ty]] [.one .bool] st K:=by
 obtain⟨k,l,t,v,tl,rfl,_⟩:=hc.five
 refine Qr k l t v tl a q hd ty st K (QV hc (by omega) hcn fun st1 e1=>Aa (fun g=>hk2 st1 e1 fun h=>g h.1) fun g=>?_)
 have g:HM n=0:=Decidable.not_not.1 g
 have hlen:=PV g
 have htl:=C8 n
 refine QS hc hl hcn fun st2 e2=>Rq ?_
 refine JM (x:=xU (CF n) a q) (by show(CF n).length<=_;omega) fun kd kv st3 e3 hn=>?_
 have e13:=(e1.trans e2).trans e3
 obtain⟨_,_,_,_,_,h5,ho⟩:=hn.five
 cases h5
 refine Ab (Ey ho) (Aa (fun g2=>?_) fun g2=>?_)
 ·refine TK _ _ hn hc (SG (by show(CF n).length<=_;omega)) (fun he=>hk1 _ e13 ⟨g,?_⟩) fun he=>hk2 _ e13 fun h=>he ?_
  ·show Bc _ _ _ _ _=_
   revert he g2
   cases hp:Bc (xU (CF n) a q) hd 1048576 1024 65536 with
   | error e=>
    intro _ he
    simp only[pN]at he
    rw[<-he]at g
    exact absurd g (by decide)
   | ok m=>intro _ he;simp only[pN]at he;rw[he]
  ·rw[show Bc (xU (CF n) a q) hd 1048576 1024 65536= .ok n from h.2];rfl
 ·refine hk2 _ e13 fun h=>g2 ?_
  rw[show Bc (xU (CF n) a q) hd 1048576 1024 65536= .ok n from h.2];rfl
def J6 {α:Type} (f:α->TV) (v:TV) (row:List α):Prop:=Rd 1 v row.length (row.map f)
def HQ {α:Type} (f:α->TV) (v:TV) (rows:List (List α)):Prop:=∃vs:List TV,Rd 1 v rows.length vs/\vs.length=rows.length/\∀(i:Nat) (u:TV) (row:List α),vs[i]? =some u->rows[i]? =some row->J6 f u row
theorem J6.ld {α:Type} {f:α->TV} {v:TV} {row:List α} (h:J6 f v row) (st:St) {i:Nat} {a:α} (ha:row[i]? =some a):Ad st [] (.t (ixT 1 v i)) 0=some (f a):=
 Rd.ldx h st i 0 (by rw[Nat.mul_one,Nat.add_zero,List.getElem?_map,ha];rfl)
theorem HQ.rd {α:Type} {f:α->TV} {v:TV} {rows:List (List α)} (h:HQ f v rows):∃vs,Rd 1 v rows.length vs:=by obtain⟨vs,h1,_⟩:=h;exact⟨vs,h1⟩
theorem HQ.nil {α:Type} (f:α->TV):HQ f .nilSlice []:=⟨[],.inl ⟨rfl,rfl,rfl⟩,rfl,fun i u row h=>by simp at h⟩
def GW {α:Type} (f:α->TV) (b:Nat) (st:St) (v:TV) (rows:List (List α)):Prop:=∃vs:List TV,Own b 1 st v rows.length vs/\vs.length=rows.length/\∀(i:Nat) (u:TV) (row:List α),vs[i]? =some u->rows[i]? =some row->J6 f u row
theorem GW.rd {α:Type} {f:α->TV} {b:Nat} {st:St} {v:TV} {rows:List (List α)} (h:GW f b st v rows):HQ f v rows:=by
 obtain⟨vs,h1,h2,h3⟩:=h;exact⟨vs,h1.rd,h2,h3⟩
def DU {α:Type} (g:B8->α) (rs:List Nd):List (List α):=rs.map fun r=>(Au r).map fun k=>g (AL k)
theorem ent_ld {a q:Int} {k:Nd} (hk:Xa a q k) {cs:List TV} (hc:NdC k cs):∃u ys,cs=[.int .i64 5,.str [],.str [],u,.str []]/\Rd 5 u (Au k).length ys/\0<(Au k).length/\(∀st,Ad st [] (.t (Ao (ixT 5 u 0) 2)) 0=some (.str (AL k)))/\isPtr (ixT 5 u 0)=true:=by
 obtain⟨c,mark,rfl,_,_⟩:=hk
 unfold NdC at hc
 obtain⟨u,ys,rfl,h1,h2⟩:=hc
 refine⟨u,ys,rfl,h1,by simp[Au],fun st=>?_,?_⟩
 ·obtain⟨cs,h3,h4⟩:=h2.get (i:=0) rfl
  unfold NdC at h3
  obtain⟨w,zs,rfl,_⟩:=h3
  exact h1.ldfx st 0 2 (h4 2 _ rfl)
 ·rcases h1 with⟨rfl,h,_⟩ | ⟨tip,rfl⟩
  ·simp at h
  ·rfl
theorem NS {v:TV} {ks:List Nd} {xs:List TV} (hr:Rd 5 v ks.length xs) (hk:BF ks xs) (st:St) {i:Nat} {k:Nd} (hi:ks[i]? =some k):
  ∃cs,NdC k cs/\(Ah st [] (.t (ixT 5 v i)) 0 5).map TV.agg=some (.agg cs):=by
 obtain⟨a,b,c,d,e⟩:=k
 obtain⟨u,ys,h1,h2,h3,h4⟩:=MA hr hk st hi
 exact⟨_,by unfold NdC;exact⟨u,ys,rfl,h2,h3⟩,h1⟩
section
def Mo:Nd->List Nd | .mk _ _ _ ks _=>ks
def BL (q:Int) (c:B8):Bool:=decide (¬(c=[]∨by_ c 0≠q))
open Classical in
noncomputable def GO {α:Type} (g:B8->α) (n:Nd) (a q:Int) (hd:Bool):List (List α):=if Hy n a q hd then DU g (Mo n)else []
open Classical in
noncomputable def Ki (n:Nd) (a q:Int) (hd:Bool):Int:=if Hy n a q hd then 0 else 1
theorem UA {n:Nd} {a q:Int} {hd:Bool} (h:Hy n a q hd):∃rs,n= .mk 1 [] [] rs []/\(∀r∈rs,RecF a q r)/\DS n<=1048576/\rs.length<=DS n/\∀r∈rs,(Au r).length<=10000000/\∀k∈Au r,(AL k).length<=1048576:=by
 obtain⟨rs,rfl,_,_,_,_,_,hr,_⟩:=B2 h.2
 have hn:=C8 (.mk 1 [] [] rs [])
 have hlen:=PV h.1
 have hkc:=Rs hr (Nat.zero_le _)
 have hs0:(xU (CF (.mk 1 [] [] rs [])) a q).s.length=DS (.mk 1 [] [] rs []):=hn
 rw[hs0]at hkc
 refine⟨rs,rfl,hr.form (Nat.zero_le _),hlen,by have:=hkc.2;omega,fun r hr1=>?_⟩
 obtain⟨i,hi⟩:=List.getElem?_of_mem hr1
 have h1:=HD rs hi
 have h2:=Lz rs i r hi
 obtain⟨a1,b1,c1,ks,e1⟩:=r
 have h3:=HE ks
 simp only[ES,DS,Au]at h1 h2⊢
 have hk1:=hkc.1
 simp only[DS]at hlen hk1
 refine⟨by omega,fun k hk=>?_⟩
 obtain⟨j,hj⟩:=List.getElem?_of_mem hk
 have h4:=Lz ks j k hj
 have h5:(AL k).length<=DS k:=by
  obtain⟨a2,b2,c2,js,e2⟩:=k
  cases js with
  | nil=>simp[AL,Au]
  | cons y ys=>
   obtain⟨a3,b3,c3,zs,e3⟩:=y
   simp only[AL,Au,DS,HC];omega
 omega
section
variable {n:Nd} {cs:List TV} {a q:Int} {hd ty:Bool} {st:St}
theorem GW.add {α:Type} {f:α->TV} {T by_:Nat} {st0 st:St} {v u:TV} {rows:List (List α)} {row:List α} {K:TV->St->Prop} (e:Am st0 st) (h:GW f st0.nt st v rows) (hu:J6 f u row) (hby:(rows.length+1)*by_<=140737488355328)
  (hk:∀v' st',Am st0 st'->GW f st0.nt st' v' (rows++[row])->K v' st'):BH T 1 by_ v 1 [u] st K:=by
 obtain⟨vs,h1,h2,h3⟩:=h
 refine Fs e rfl h1 hby (fun h=>by cases h) fun v' st' e' _ ho=>hk v' st' e' ⟨vs++[u],by rw[List.length_append];exact ho,by simp[h2],fun i u' row' hi hr=>?_⟩
 by_cases hlt:i<vs.length
 ·rw[List.getElem?_append_left hlt]at hi
  rw[List.getElem?_append_left (by omega)]at hr
  exact h3 i u' row' hi hr
 ·rw[List.getElem?_append_right (by omega)]at hi
  rw[List.getElem?_append_right (by omega)]at hr
  have h0:i-vs.length=0:=by
   have:=(List.getElem?_eq_some_iff.1 hi).1
   simp at this;omega
  rw[h0]at hi
  rw[show i-rows.length=0 by omega]at hr
  simp only[List.getElem?_cons_zero,Option.some.injEq]at hi hr
  subst hi hr;exact hu
theorem GW.ext {α:Type} {f:α->TV} {b:Nat} {st st':St} {v:TV} {rows:List (List α)} (h:GW f b st v rows) (e:Am st st'):GW f b st' v rows:=by
 obtain⟨vs,h1,h2,h3⟩:=h;exact⟨vs,h1.ext e,h2,h3⟩
theorem GW.nil {α:Type} (f:α->TV) (b:Nat) (st:St):GW f b st .nilSlice []:=⟨[],Own.nil _ _ _,rfl,fun i u row h=>by simp at h⟩
theorem Uw {K:TV->Int->St->Prop} (hc:NdC n cs) (hl:DS n<=100000000000000) (hcn:ES n<=1000000000000000)
  (hk:∀v st',Am st st'->HQ TV.str v (GO (txt q) n a q hd)->K v (Ki n a q hd) st'):
  CallT PR EX [.agg cs,.agg [.int .u8 a,.int .u8 q,.bool hd,.bool ty]] [.one .tv,.one (.int .i64)] st K:=by
 have tn:∀k:Nat,Int.toNat (k:Int)=k:=fun k=>rfl
 have w1:∀k:Nat,k<=100000000->i64.wrap ((k:Int)+1)=((k+1:Nat):Int):=fun k hk=>by rw[Ai _ (by omega) (by omega)];omega
 have hc0:=hc
 obtain⟨k,l,t,ks,tl⟩:=n
 unfold NdC at hc
 obtain⟨v,xs,rfl,hr,hx⟩:=hc
 refine LX k l t v tl a q hd ty st K (Xt hc0 hl hcn (fun st1 e1 ho=>?_) fun st1 e1 ho=>?_)
 case' refine_2=>
  refine Ap (fun _=>?_) fun h=>by cases h
  have:=hk .nilSlice st1 e1 (by unfold GO;rw[if_neg ho];exact HQ.nil _)
  unfold Ki at this
  rwa [if_neg ho]at this
 refine Ap (fun h=>by cases h) fun _=>Ab hr.isSl ?_
 have hfin:∀v st',Am st st'->HQ TV.str v (DU (txt q) ks)->K v 0 st':=fun v st' e h=>by
  have:=hk v st' e (by unfold GO;rw[if_pos ho];exact h)
  unfold Ki at this
  rwa [if_pos ho]at this
 obtain⟨rs,hn,hform,hlen,hrl,hkl⟩:=UA ho
 cases hn
 rw[hr.lenS]
 refine⟨fun out i v' n' a' q' b1 b2 st'=>v=v'/\(ks.length:Int)=n'/\a=a'/\q=q'/\hd=b1/\ty=b2/\Am st st'/\∃j:Nat,i=(j:Int)/\j<=ks.length/\GW TV.str st.nt st' out (DU (txt q) (ks.take j)),
  fun _ i _ _ _ _ _ _ _=>(ks.length-i).toNat,⟨rfl,rfl,rfl,rfl,rfl,rfl,e1,0,rfl,by omega,by rw[List.take_zero];exact GW.nil _ _ _⟩,?_⟩
 rintro out _ _ _ _ _ _ _ st2 ⟨rfl,rfl,rfl,rfl,rfl,rfl,e2,j,rfl,hj,hg⟩
 rw[hr.lenZ,tn]
 refine Aa (fun g=>?_) fun g=>?_
 case' refine_2=>
  rw[List.take_of_length_le (by omega)]at hg
  exact hfin _ _ e2 hg.rd
 have hlt:j<ks.length:=by omega
 have hget:=List.getElem?_eq_getElem hlt
 generalize ks[j]=r at hget
 have hrf:=hform r (Bs hget)
 have hrk:=hkl r (Bs hget)
 obtain⟨ents,tail,rfl,hne,hents⟩:=hrf
 obtain⟨rc,hrc,hld⟩:=NS hr hx st2 hget
 unfold NdC at hrc
 obtain⟨u,ys,rfl,hu,hy⟩:=hrc
 refine⟨⟨by omega,by omega⟩,Ac hld (Jy (Ab (Ey hu.one) (Ab hu.isSl ?_)))⟩
 rw[hu.lenS]
 simp only[Au]at hrk
 refine⟨fun li m out' v' n' i' u' m' a' q' b1 b2 st'=>out=out'/\v=v'/\(ks.length:Int)=n'/\(j:Int)=i'/\u=u'/\(ents.length:Int)=m'/\a=a'/\q=q'/\hd=b1/\ty=b2/\Am st2 st'/\∃p:Nat,m=(p:Int)/\p<=ents.length/\Own st2.nt 1 st' li p (((ents.take p).map fun k=>txt q (AL k)).map TV.str),
  fun _ m _ _ _ _ _ _ _ _ _ _ _=>(ents.length-m).toNat,⟨rfl,rfl,rfl,rfl,rfl,rfl,rfl,rfl,rfl,rfl,Am.refl _,0,rfl,by omega,Own.nil _ _ _⟩,?_⟩
 rintro li _ _ _ _ _ _ _ _ _ _ _ st3 ⟨rfl,rfl,rfl,rfl,rfl,rfl,rfl,rfl,rfl,rfl,e3,p,rfl,hp,hli⟩
 rw[hu.lenZ,tn]
 refine Aa (fun g2=>?_) fun g2=>?_
 ·have hlt2:p<ents.length:=by omega
  have hget2:=List.getElem?_eq_getElem hlt2
  generalize ents[p]=en at hget2
  have hef:=hents en (Bs hget2)
  obtain⟨ec,hec,hld2⟩:=NS hu hy st3 hget2
  obtain⟨w,zs,rfl,hw,hpos,hwl,hwp⟩:=ent_ld hef hec
  refine⟨⟨by omega,by omega⟩,Ac hld2 (Jy (Ab (Ey hw.one) ?_))⟩
  rw[hw.lenZ]
  refine⟨⟨by omega,by omega⟩,Ab hwp (Ac (hwl _) (Al ?_))⟩
  have hcl:=hrk.2 en (Bs hget2)
  have hcw:P9 q (AL en):=by
   obtain⟨c,mark,rfl,hcw,_⟩:=hef
   exact hcw
  refine OC hcw (by omega) fun st4 e4=>?_
  refine Fs (e3.trans e4) rfl (hli.ext e4) (by omega) (fun h=>by cases h) fun v5 st5 e5 _ o5=>?_
  rw[w1 p (by omega)]
  refine⟨⟨rfl,rfl,rfl,rfl,rfl,rfl,rfl,rfl,rfl,rfl,e5,p+1,rfl,by omega,?_⟩,by dsimp only;omega⟩
  rw[List.take_add_one,hget2]
  simpa using o5
 ·have hpe:p=ents.length:=by omega
  rw[hpe,List.take_of_length_le (by omega)]at hli
  refine Ab (O7 hli.rd.one) (Ab (O7 hli.rd.one) ?_)
  refine(hg.ext e3).add (e2.trans e3) (row:=ents.map fun k=>txt q (AL k)) (by unfold J6;rw[List.length_map];exact hli.rd) (by simp only[DU,List.length_map,List.length_take];omega) fun v' st' e' hg'=>?_
  rw[w1 j (by omega)]
  refine⟨⟨rfl,rfl,rfl,rfl,rfl,rfl,e',j+1,rfl,by omega,?_⟩,by dsimp only;omega⟩
  rw[List.take_add_one,hget]
  simpa [DU,Au]using hg'
end
end
section
section
variable {n:Nd} {cs:List TV} {a q:Int} {hd ty:Bool} {st:St}
theorem V3 {K:TV->Int->St->Prop} (hc:NdC n cs) (hl:DS n<=100000000000000) (hcn:ES n<=1000000000000000)
  (hk:∀v st',Am st st'->HQ TV.bool v (GO (BL q) n a q hd)->K v (Ki n a q hd) st'):
  CallT PR FC [.agg cs,.agg [.int .u8 a,.int .u8 q,.bool hd,.bool ty]] [.one .tv,.one (.int .i64)] st K:=by
 have tn:∀k:Nat,Int.toNat (k:Int)=k:=fun k=>rfl
 have w1:∀k:Nat,k<=100000000->i64.wrap ((k:Int)+1)=((k+1:Nat):Int):=fun k hk=>by rw[Ai _ (by omega) (by omega)];omega
 have hc0:=hc
 obtain⟨k,l,t,ks,tl⟩:=n
 unfold NdC at hc
 obtain⟨v,xs,rfl,hr,hx⟩:=hc
 refine NC k l t v tl a q hd ty st K (Xt hc0 hl hcn (fun st1 e1 ho=>?_) fun st1 e1 ho=>?_)
 case' refine_2=>
  refine Ap (fun _=>?_) fun h=>by cases h
  have:=hk .nilSlice st1 e1 (by unfold GO;rw[if_neg ho];exact HQ.nil _)
  unfold Ki at this
  rwa [if_neg ho]at this
 refine Ap (fun h=>by cases h) fun _=>Ab hr.isSl ?_
 have hfin:∀v st',Am st st'->HQ TV.bool v (DU (BL q) ks)->K v 0 st':=fun v st' e h=>by
  have:=hk v st' e (by unfold GO;rw[if_pos ho];exact h)
  unfold Ki at this
  rwa [if_pos ho]at this
 obtain⟨rs,hn,hform,hlen,hrl,hkl⟩:=UA ho
 cases hn
 rw[hr.lenS]
 refine⟨fun out i v' n' a' q' b1 b2 st'=>v=v'/\(ks.length:Int)=n'/\a=a'/\q=q'/\hd=b1/\ty=b2/\Am st st'/\∃j:Nat,i=(j:Int)/\j<=ks.length/\GW TV.bool st.nt st' out (DU (BL q) (ks.take j)),
  fun _ i _ _ _ _ _ _ _=>(ks.length-i).toNat,⟨rfl,rfl,rfl,rfl,rfl,rfl,e1,0,rfl,by omega,by rw[List.take_zero];exact GW.nil _ _ _⟩,?_⟩
 rintro out _ _ _ _ _ _ _ st2 ⟨rfl,rfl,rfl,rfl,rfl,rfl,e2,j,rfl,hj,hg⟩
 rw[hr.lenZ,tn]
 refine Aa (fun g=>?_) fun g=>?_
 case' refine_2=>
  rw[List.take_of_length_le (by omega)]at hg
  exact hfin _ _ e2 hg.rd
 have hlt:j<ks.length:=by omega
 have hget:=List.getElem?_eq_getElem hlt
 generalize ks[j]=r at hget
 have hrf:=hform r (Bs hget)
 have hrk:=hkl r (Bs hget)
 obtain⟨ents,tail,rfl,hne,hents⟩:=hrf
 obtain⟨rc,hrc,hld⟩:=NS hr hx st2 hget
 unfold NdC at hrc
 obtain⟨u,ys,rfl,hu,hy⟩:=hrc
 refine⟨⟨by omega,by omega⟩,Ac hld (Jy (Ab (Ey hu.one) (Ab hu.isSl ?_)))⟩
 rw[hu.lenS]
 simp only[Au]at hrk
 refine⟨fun li m out' v' n' i' u' m' a' q' b1 b2 st'=>out=out'/\v=v'/\(ks.length:Int)=n'/\(j:Int)=i'/\u=u'/\(ents.length:Int)=m'/\a=a'/\q=q'/\hd=b1/\ty=b2/\Am st2 st'/\∃p:Nat,m=(p:Int)/\p<=ents.length/\Own st2.nt 1 st' li p (((ents.take p).map fun k=>BL q (AL k)).map TV.bool),
  fun _ m _ _ _ _ _ _ _ _ _ _ _=>(ents.length-m).toNat,⟨rfl,rfl,rfl,rfl,rfl,rfl,rfl,rfl,rfl,rfl,Am.refl _,0,rfl,by omega,Own.nil _ _ _⟩,?_⟩
 rintro li _ _ _ _ _ _ _ _ _ _ _ st3 ⟨rfl,rfl,rfl,rfl,rfl,rfl,rfl,rfl,rfl,rfl,e3,p,rfl,hp,hli⟩
 rw[hu.lenZ,tn]
 refine Aa (fun g2=>?_) fun g2=>?_
 ·have hlt2:p<ents.length:=by omega
  have hget2:=List.getElem?_eq_getElem hlt2
  generalize ents[p]=en at hget2
  have hef:=hents en (Bs hget2)
  obtain⟨ec,hec,hld2⟩:=NS hu hy st3 hget2
  obtain⟨w,zs,rfl,hw,hpos,hwl,hwp⟩:=ent_ld hef hec
  refine⟨⟨by omega,by omega⟩,Ac hld2 (Jy (Ab (Ey hw.one) ?_))⟩
  rw[hw.lenZ]
  refine⟨⟨by omega,by omega⟩,Ab hwp (Ac (hwl _) (Al ?_))⟩
  have hcl:=hrk.2 en (Bs hget2)
  have hcw:P9 q (AL en):=by
   obtain⟨c,mark,rfl,hcw,_⟩:=hef
   exact hcw
  refine OC hcw (by omega) fun st4 e4=>?_
  rw[show decide (¬(AL en=[]∨by_ (AL en) 0≠q))=BL q (AL en)from rfl]
  refine Fs (e3.trans e4) rfl (hli.ext e4) (by omega) (fun h=>by cases h) fun v5 st5 e5 _ o5=>?_
  rw[w1 p (by omega)]
  refine⟨⟨rfl,rfl,rfl,rfl,rfl,rfl,rfl,rfl,rfl,rfl,e5,p+1,rfl,by omega,?_⟩,by dsimp only;omega⟩
  rw[List.take_add_one,hget2]
  simpa using o5
 ·have hpe:p=ents.length:=by omega
  rw[hpe,List.take_of_length_le (by omega)]at hli
  refine Ab (O7 hli.rd.one) (Ab (O7 hli.rd.one) ?_)
  refine(hg.ext e3).add (e2.trans e3) (row:=ents.map fun k=>BL q (AL k)) (by unfold J6;rw[List.length_map];exact hli.rd) (by simp only[DU,List.length_map,List.length_take];omega) fun v' st' e' hg'=>?_
  rw[w1 j (by omega)]
  refine⟨⟨rfl,rfl,rfl,rfl,rfl,rfl,e',j+1,rfl,by omega,?_⟩,by dsimp only;omega⟩
  rw[List.take_add_one,hget]
  simpa [DU,Au]using hg'
end
end
section
def Ky (a q:Int) (s:B8):Except Int B8:=if dOk a q=false then .error 1 else if vlen s=s.length then .ok (AO a q s)else .error 5
def xT:Except Int B8->B8 | .ok t=>t | .error _=>[]
def xE:Except Int B8->Int | .ok _=>0 | .error e=>e
theorem NU {a q:Int} (h:dOk a q=true):(a=9∨(32<=a/\a<=126))/\33<=q/\q<=126/\a≠q:=by
 unfold dOk at h
 exact(of_decide_eq_true h).1
theorem Wd {a q:Int} {s:B8} {j:Nat} (h:j<s.length):Ez a q (s.take (j+1))=(Ez a q (s.take j) || decide (by_ s j=a∨by_ s j=q∨by_ s j=10∨by_ s j=13)):=by
 unfold Ez
 rw[EV s j 0 h,List.any_append]
 simp only[List.any_cons,List.any_nil,Bool.or_false]
 rfl
theorem JO {a q:Int} {s:B8} {j:Nat} (h:j<s.length) (hb:by_ s j=a∨by_ s j=q∨by_ s j=10∨by_ s j=13):Ez a q s=true:=by
 unfold Ez
 rw[List.any_eq_true]
 refine⟨s.getD j 0,?_,decide_eq_true hb⟩
 rw[List.getD_eq_getElem?_getD,List.getElem?_eq_getElem h]
 exact List.getElem_mem h
theorem JZ (c:UInt8):∀t:B8,(dbl c t).length<=2*t.length
 | []=>by simp[dbl]
 | b::t=>by
  have:=JZ c t
  rw[CB,List.length_append,List.length_cons]
  split<;>simp<;>omega
theorem Jr (a q:Int) (s:B8):(AO a q s).length<=2*s.length+2:=by
 unfold AO
 split
 ·have:=JZ (UInt8.ofNat q.toNat) s
  simp;omega
 ·omega
section
variable {a q:Int} {hd ty:Bool} {st:St}
theorem Mq {s:B8} {K:B8->Int->St->Prop} (hl:s.length<=2000000) (hk:K (xT (Ky a q s)) (xE (Ky a q s)) st):
  CallT PR Cy [.str s,.agg [.int .u8 a,.int .u8 q,.bool hd,.bool ty]] [.one .str,.one (.int .i64)] st K:=by
 have tn:∀k:Nat,Int.toNat (k:Int)=k:=fun k=>rfl
 have w1:∀k:Nat,k<=100000000->i64.wrap ((k:Int)+1)=((k+1:Nat):Int):=fun k hk=>by rw[Ai _ (by omega) (by omega)];omega
 unfold Ky at hk
 refine Ok s a q hd ty st K (HG (Ap (fun g=>?_) fun g=>?_))
 ·rw[if_pos (by simpa using g)]at hk;exact hk
 have gd:dOk a q=true:=by simpa using g
 rw[if_neg (by rw[gd];decide)]at hk
 have hdk:=NU gd
 refine L7 hl (Ap (fun g=>?_) fun g=>?_)
 ·rw[if_neg (by simpa using g)]at hk;exact hk
 rw[if_pos (by simpa using g)]at hk
 have hqn:=CL (q:=q) (by omega) (by omega)
 generalize hc:UInt8.ofNat q.toNat=c at hqn
 refine Ac (L9 st c hqn) (Al ?_)
 refine⟨fun i s' q' n1 n2 b1 b2 st'=>s=s'/\[c]=q'/\a=n1/\q=n2/\hd=b1/\ty=b2/\st=st'/\∃j:Nat,i=(j:Int)/\j<=s.length/\Ez a q (s.take j)=false,
  fun i _ _ _ _ _ _ _=>(s.length-i).toNat,⟨rfl,rfl,rfl,rfl,rfl,rfl,rfl,0,rfl,by omega,rfl⟩,?_⟩
 rintro _ _ _ _ _ _ _ _ ⟨rfl,rfl,rfl,rfl,rfl,rfl,rfl,j,rfl,hj,hnq⟩
 rw[tn]
 refine Aa (fun g1=>⟨⟨by omega,by omega⟩,?_⟩) fun g1=>?_
 ·have fin:Ez a q s=true->CallT PR AH [.str s,.str [c],.str ([c]++[c])] [.one .str] st fun s4 st6=>(([c].length+s4.length<=9223372036854775807)/\((([c]++s4).length+ [c].length<=9223372036854775807)/\K ([c]++s4++[c]) 0 st6)):=fun hn=>by
   refine Kg (by simp) (by omega) ?_
   have hdl:=JZ c s
   unfold dbl at hdl
   refine⟨by simp only[List.length_cons,List.length_nil];omega,by simp only[List.length_append,List.length_cons,List.length_nil];omega,?_⟩
   unfold AO at hk
   rw[if_pos hn,hc]at hk
   exact hk
  refine Aa (fun q1=>⟨by simp,fin (JO (j:=j) (by omega) (.inl q1))⟩) fun q1=>Aa (fun q2=>⟨by simp,fin (JO (j:=j) (by omega) (.inr (.inl q2)))⟩) fun q2=>Aa (fun q3=>⟨by simp,fin (JO (j:=j) (by omega) (.inr (.inr (.inl q3))))⟩) fun q3=>
   Aa (fun q4=>⟨by simp,fin (JO (j:=j) (by omega) (.inr (.inr (.inr q4))))⟩) fun q4=>?_
  rw[w1 j (by omega)]
  refine⟨⟨rfl,rfl,rfl,rfl,rfl,rfl,rfl,j+1,rfl,by omega,?_⟩,by dsimp only;omega⟩
  rw[Wd (by omega),hnq,Bool.false_or]
  exact decide_eq_false (by rintro(h | h | h | h);exact q1 h;exact q2 h;exact q3 h;exact q4 h)
 ·rw[List.take_of_length_le (by omega)]at hnq
  unfold AO at hk
  rw[if_neg (by rw[hnq];decide)]at hk
  exact hk
end
end
section
theorem J9 {st0 st:St} {b:Nat} {buf:B8} {C:Int} {c:UInt8} {K:TV->St->Prop} (hC:(c.toNat:Int)=C) (h:KU st0 b st buf) (hl:buf.length+1<=140737488355328) (hk:∀st',KU st0 b st' (buf++[c])->K .nilIface st'):
  CallT PR AJ [.box b 0,.int .u8 C] [.one .tv] st K:=by
 subst hC
 refine CT b _ st K (Kq h fun st1 h1=>?_)
 obtain⟨e,a1,a2,a3,p,v,hb,hp,hv⟩:=h1
 refine Ac (x:=v) (by simp[Ad,hb]) ?_
 have hbt: [TV.int .u8 (c.toNat:Int)]=AC [c]:=rfl
 rw[hbt]
 rcases hv with⟨rfl,rfl⟩ | ⟨id,rfl,n1,n2,n3,n4,n5⟩
 ·simp only[BH,Nat.zero_add,Nat.mul_one]
  refine Ab (by decide) (Ab rfl ⟨_,hb,by simp,hk _ ?_⟩)
  exact⟨(e.fresh _).put a1 _,a1,a2,a3,p,_,Cs _ _ _,hp,.inr ⟨st1.nt,rfl,by simp,e.nt,by simp[St.put,St.fresh],by simp[St.put,St.fresh],by simp[St.put,St.fresh]⟩⟩
 ·simp only[BH,Nat.beq_refl,Nat.mul_one]
  refine⟨hl,n4,Ab rfl ⟨_,hb,by simp,hk _ ?_⟩⟩
  refine⟨((e.retire n2).fresh _).put a1 _,a1,a2,a3,p,_,Cs _ _ _,hp,.inr ⟨st1.nt,?_,by simp[n1],e.nt,by simp[St.put,St.fresh,St.retire],by simp[St.put,St.fresh,St.retire],by simp[St.put,St.fresh,St.retire,n5,I8]⟩⟩
  rw[List.length_append,<-Fe];rfl
def Gg (a q:Int):List B8->B8
 | []=>[]
 | [c]=>AO a q c
 | c::r=>AO a q c++UInt8.ofNat a.toNat::Gg a q r
theorem Pj (a q:Int):∀cs,B4 a q cs=Gg a q cs++[10]
 | []=>rfl
 | [c]=>rfl
 | c::d::r=>by simp only[B4,Gg];rw[Pj a q (d::r)];simp
theorem Pl (a q:Int) (c:B8):∀cs,Gg a q (cs++[c])=if cs=[]then AO a q c else Gg a q cs++UInt8.ofNat a.toNat::AO a q c
 | []=>rfl
 | [d]=>by simp[Gg]
 | d::f::r=>by
  have:=Pl a q c (f::r)
  simp only[List.cons_append]at this⊢
  simp only[Gg]
  rw[this,if_neg (by simp),if_neg (by simp)]
  simp
theorem Pk (a q:Int) {cs:List B8} {j:Nat} {c:B8} (h:cs[j]? =some c):Gg a q (cs.take (j+1))=if j=0 then AO a q c else Gg a q (cs.take j)++UInt8.ofNat a.toNat::AO a q c:=by
 have hlt:=(List.getElem?_eq_some_iff.1 h).1
 rw[List.take_add_one,h]
 simp only[Option.toList_some]
 rw[Pl]
 by_cases hj:j=0
 ·subst hj;simp
 ·rw[if_neg hj,if_neg]
  intro h0
  have:=congrArg List.length h0
  rw[List.length_take,List.length_nil]at this
  omega
def JF (cs:List B8):Bool:=cs.all fun c=>decide (vlen c=c.length)
def UH (a q:Int) (cs:List B8):Except Int B8:=if dOk a q=false then .error 1 else if cs=[]then .error 1 else if JF cs then .ok (B4 a q cs)else .error 5
def BU (cs:List B8):Nat:=match cs with | []=>0 | c::r=>c.length+BU r
theorem Ym (cs:List B8) {j:Nat} {c:B8} (h:cs[j]? =some c):BU (cs.take (j+1))=BU (cs.take j)+c.length/\BU (cs.take (j+1))<=BU cs:=by
 induction cs generalizing j with
 | nil=>simp at h
 | cons d r ih=>
  cases j with
  | zero=>simp only[List.getElem?_cons_zero,Option.some.injEq]at h;subst h;simp[BU]
  | succ j=>
   have:=ih (j:=j) (by simpa using h)
   simp only[List.take_succ_cons,BU];omega
theorem JQ (a q:Int):∀cs,(Gg a q cs).length<=2*BU cs+3*cs.length
 | []=>by simp[Gg]
 | [c]=>by have:=Jr a q c;simp[Gg,BU];omega
 | c::d::r=>by
  have h1:=Jr a q c
  have h2:=JQ a q (d::r)
  simp only[Gg,List.length_append,List.length_cons,BU]at h2⊢
  omega
theorem RW {cs:List B8} {j:Nat} {c:B8} (h:cs[j]? =some c):JF (cs.take (j+1))=(JF (cs.take j)&&decide (vlen c=c.length)):=by
 unfold JF
 rw[List.take_add_one,h,List.all_append]
 simp
theorem Vs {cs:List B8} {j:Nat} {c:B8} (h:cs[j]? =some c) (hv:¬vlen c=c.length):JF cs=false:=by
 cases hb:JF cs with
 | false=>rfl
 | true=>
  unfold JF at hb
  have:=List.all_eq_true.1 hb c (List.mem_of_getElem? h)
  exact absurd (of_decide_eq_true this) hv
section
variable {a q:Int} {hd ty:Bool} {st:St}
theorem Z0 {v:TV} {cs:List B8} {K:B8->Int->St->Prop} (hr:J6 TV.str v cs) (hl:BU cs<=2000000) (hn:cs.length<=2000000) (hk:∀st',Am st st'->K (xT (UH a q cs)) (xE (UH a q cs)) st'):
  CallT PR Hb [v,.agg [.int .u8 a,.int .u8 q,.bool hd,.bool ty]] [.one .str,.one (.int .i64)] st K:=by
 have tn:∀k:Nat,Int.toNat (k:Int)=k:=fun k=>rfl
 have w1:∀k:Nat,k<=100000000->i64.wrap ((k:Int)+1)=((k+1:Nat):Int):=fun k hk=>by rw[Ai _ (by omega) (by omega)];omega
 unfold UH at hk
 refine Qs v a q hd ty st K (HG (Ap (fun g=>?_) fun g=>?_))
 ·rw[if_pos (by simpa using g)]at hk;exact hk st (Am.refl _)
 have gd:dOk a q=true:=by simpa using g
 rw[if_neg (by rw[gd];decide)]at hk
 have hdk:=NU gd
 have hab:=CL (q:=a) (by omega) (by omega)
 refine Ab (Rd.isSl hr) ?_
 rw[Rd.lenS hr]
 refine Aa (fun g=>?_) fun g=>Ab (Rd.isSl hr) ?_
 ·rw[if_pos (List.eq_nil_of_length_eq_zero (by omega))]at hk;exact hk st (Am.refl _)
 rw[if_neg (by rintro rfl;simp at g)]at hk
 refine⟨fun i w v' n n1 n2 b1 b2 st'=>v=v'/\(cs.length:Int)=n/\a=n1/\q=n2/\hd=b1/\ty=b2/\TV.box st.nb 0=w/\∃j:Nat,i=(j:Int)/\j<=cs.length/\JF (cs.take j)=true/\KU st st.nb st' (Gg a q (cs.take j)),
  fun i _ _ _ _ _ _ _ _=>(cs.length-i).toNat,⟨rfl,rfl,rfl,rfl,rfl,rfl,rfl,0,rfl,by omega,rfl,KU.new (Am.refl st)⟩,?_⟩
 rintro _ _ _ _ _ _ _ _ st2 ⟨rfl,rfl,rfl,rfl,rfl,rfl,rfl,j,rfl,hj,hav,hb⟩
 rw[Rd.lenZ hr,tn]
 have hpl:=JQ a q (cs.take j)
 rw[List.length_take]at hpl
 refine Aa (fun g1=>?_) fun g1=>?_
 ·have hlt:j<cs.length:=by omega
  have hget:=List.getElem?_eq_getElem hlt
  generalize cs[j]=c at hget
  have hs:=Ym cs hget
  refine⟨⟨by omega,by omega⟩,Ac (hr.ld st2 hget) (Al ?_)⟩
  have hq:=Jr a q c
  have hqv:Ky a q c=if vlen c=c.length then .ok (AO a q c)else .error 5:=by unfold Ky;rw[if_neg (by rw[gd];decide)]
  rw[w1 j (by omega)]
  refine Aa (fun g2=>?_) fun g2=>?_
  ·refine J9 hab hb (by omega) fun st3 hb3=>?_
   refine Mq (by omega) ?_
   rw[hqv]
   by_cases hv:vlen c=c.length
   ·rw[if_pos hv]
    refine Aa (fun h=>absurd rfl h) fun _=>CR hb3 (by simp only[xT,List.length_append,List.length_cons,List.length_nil];omega) fun st5 hb5=>?_
    refine⟨⟨rfl,rfl,rfl,rfl,rfl,rfl,rfl,j+1,rfl,by omega,by rw[RW hget,hav,decide_eq_true hv];rfl,?_⟩,by dsimp only;omega⟩
    rw[Pk a q hget,if_neg (by omega)]
    simpa [xT]using hb5
   ·rw[if_neg hv]
    rw[if_neg (by rw[Vs hget hv];decide)]at hk
    exact Aa (fun _=>hk _ hb3.1) fun h=>absurd (by decide) h
  ·refine Mq (by omega) ?_
   rw[hqv]
   by_cases hv:vlen c=c.length
   ·rw[if_pos hv]
    have hj0:j=0:=by omega
    subst hj0
    refine Aa (fun h=>absurd rfl h) fun _=>CR hb (by simp only[xT];omega) fun st5 hb5=>?_
    refine⟨⟨rfl,rfl,rfl,rfl,rfl,rfl,rfl,0+1,rfl,by omega,by rw[RW hget,hav,decide_eq_true hv];rfl,?_⟩,by dsimp only;omega⟩
    rw[Pk a q hget,if_pos rfl]
    simpa [xT,Gg]using hb5
   ·rw[if_neg hv]
    rw[if_neg (by rw[Vs hget hv];decide)]at hk
    exact Aa (fun _=>hk _ hb.1) fun h=>absurd (by decide) h
 ·have hjl:cs.take j=cs:=List.take_of_length_le (by omega)
  have hpl2:=JQ a q cs
  rw[hjl]at hav hb
  rw[if_pos hav]at hk
  refine J9 (c:=10) rfl hb (by omega) fun st3 hb3=>GS hb3 (by simp only[List.length_append,List.length_cons,List.length_nil];omega) fun st4 e4=>?_
  have:=hk st4 e4
  rw[Pj]at this
  exact this
end
end
section
def Fg (l:List (List B8)):Nat:=match l with | []=>0 | r::rs=>BU r+Fg rs
def Bz (l:List (List B8)):Nat:=match l with | []=>0 | r::rs=>r.length+Bz rs
theorem TT {l:List (List B8)} {j:Nat} {r:List B8} (h:l[j]? =some r):BU r<=Fg l/\r.length<=Bz l:=by
 induction l generalizing j with
 | nil=>simp at h
 | cons d rs ih=>
  cases j with
  | zero=>simp only[List.getElem?_cons_zero,Option.some.injEq]at h;subst h;simp[Fg,Bz]
  | succ j=>
   have:=ih (j:=j) (by simpa using h)
   simp only[Fg,Bz];omega
section
variable {a q:Int} {hd ty:Bool} {st:St}
end
end
section
theorem Pf {s:B8} {a q:Int} {hd:Bool} {n:Nd} (hl:s.length<=70000) (h:Ex s a q hd= .ok n):CF n=s/\HM n=0/\Hy n a q hd:=by
 obtain⟨rs,rfl,_,_,_,_,_,hr,_⟩:=B2 h
 have ht:CF (.mk 1 [] [] rs [])=s:=by
  have:=Gz.text hr (Nat.zero_le _)
  simp only[CF,List.nil_append,List.append_nil]
  rw[this];rfl
 have hlen:DS (.mk 1 [] [] rs [])=s.length:=by rw[<-C8,ht]
 have hc:HM (.mk 1 [] [] rs [])=0:=by
  have hs0:(xU s a q).s.length=s.length:=rfl
  obtain⟨s',h1,h2,h3⟩:=Y9 hr (Nat.zero_le _) (s:=1) (by rw[hs0];omega)
  have h4:chk (.mk 1 [] [] rs []) 1 0= .ok s':=by
   have l1:IE 1=false:=by decide
   simp only[chk,l1]
   rw[if_neg (by omega),if_neg (by omega),if_neg (by omega),if_neg (by simp)]
   exact h1
  unfold HM
  rw[h4]
  simp only
  rw[if_neg (by omega)]
 exact⟨ht,hc,hc,by rw[ht];exact h⟩
theorem UI {s:B8} {i:Nat} {p:Nat×Int} (h:D3 s i= .error p):p.2≠0:=by
 obtain⟨o,c⟩:=p
 rcases YR h with h | h<;>simp[h.2]
theorem entE_ne {x:Cx} {hd:Bool} {i:Nat} {v:Int} {ns:List B8} {p:Nat×Int} (h:EM x hd i v ns= .error p):p.2≠0:=by
 have hR:∀v,WE x hd i v ns= .error p->p.2≠0:=fun v h=>by
  unfold WE at h
  split at h
  ·rename_i e he
   cases h
   exact Zd (o:=p.1) (c:=p.2) he
  ·rename_i e he
   by_cases h1:(if hd then 1024 else 65536)<(txt x.q (slc x.s i e)).length
   ·rw[if_pos h1]at h;cases h;simp
   ·by_cases h2:hd=true/\txt x.q (slc x.s i e)∈ns
    ·rw[if_neg h1,if_pos h2]at h;cases h;simp
    ·rw[if_neg h1,if_neg h2]at h;cases h
 rw[ST]at h
 split at h
 ·exact hR v h
 ·split at h
  ·rename_i e he
   cases h
   exact Vo (o:=p.1) (c:=p.2) he
  ·exact hR _ h
theorem Xo {x:Cx} {num hd:Bool} {wid:Int}:∀(n:Nat) {acc:List Nd} {i:Nat} {v:Int} {ns:List B8} {p:Nat×Int},i<=x.s.length->x.s.length<i+n->Cn x num wid hd n acc i v ns= .error p->p.2≠0
 | 0,acc,i,v,ns,p,h1,h2,h=>by omega
 | n+1,acc,i,v,ns,p,h1,h2,h=>by
  rw[Q6]at h
  split at h
  ·cases h;simp
  split at h
  ·rename_i e he;cases h;exact entE_ne he
  ·rename_i e v1 ns1 he
   have hle:=XH h1 he
   split at h
   ·exact Xo n (by omega) (by omega) h
   ·split at h
    ·rename_i e2 he2;cases h;exact UI he2
    ·cases h
theorem recD_ne {x:Cx} {num hd:Bool} {wid:Int} {i:Nat} {v:Int} {ns:List B8} {p:Nat×Int} (hi:i<=x.s.length) (h:G1 x num wid hd i v ns= .error p):p.2≠0:=by
 have hK:∀v,Jp x.s num wid (Cn x num wid hd (x.s.length+1) [] i v ns)= .error p->p.2≠0:=fun v h=>by
  unfold Jp at h
  rcases hr:Cn x num wid hd (x.s.length+1) [] i v ns with e | ⟨e,v2,ns2,ks⟩
  ·rw[hr]at h;cases h;exact Xo _ hi (by omega) hr
  ·rw[hr]at h
   simp only at h
   cases hn7:D3 x.s e with
   | error e2=>rw[hn7]at h;cases h;exact UI hn7
   | ok n7=>
    rw[hn7]at h
    simp only at h
    by_cases hw:(ks.length:Int)<(if num then wid else(ks.length:Int))
    ·rw[if_pos hw]at h;cases h;simp
    ·rw[if_neg hw]at h;cases h
 rw[GF]at h
 split at h
 ·exact hK v h
 ·split at h
  ·rename_i e he;cases h;exact Vo (o:=p.1) (c:=p.2) he
  ·exact hK _ h
theorem XK {x:Cx} {hdr:Bool}:∀(n:Nat) {acc:List Nd} {i:Nat} {v:Int} {ns:List B8} {wid:Int} {p:Nat×Int},i<=x.s.length->x.s.length<i+n->D9 x hdr n acc i v ns wid= .error p->p.2≠0
 | 0,acc,i,v,ns,wid,p,h1,h2,h=>by omega
 | n+1,acc,i,v,ns,wid,p,h1,h2,h=>by
  rw[RI]at h
  split at h
  ·cases h
  split at h
  ·rename_i e he;cases h;exact recD_ne h1 he
  ·rename_i i' v' ns' r wid' he
   have hle:=Xp (by omega) he
   exact XK n (by omega) (by omega) h
theorem V7 {x:Cx} {hd:Bool} {l2 l3 l4:Int} {p:Nat×Int} (h:Bc x hd l2 l3 l4= .error p):p.2≠0:=by
 unfold Bc at h
 split at h
 ·cases h;simp
 split at h
 ·cases h;simp
 split at h
 ·cases h;simp
 split at h
 ·cases h;simp
 split at h
 ·rename_i e he;cases h;exact XK _ (by omega) (by omega) he
 ·cases h
section
variable {a q:Int} {hd ty:Bool} {st:St}
theorem OW {K:Int->Int->Bool->Bool->St->Prop} (hk:K 44 34 true true st):CallT PR Ca [] [.agg [.int .u8,.int .u8,.bool,.bool]] st K:=IK st K hk
end
end
section
theorem LT {a q:Int} (h0:0<=q) (h1:q<128) {s:B8} (hv:vlen s=s.length):vlen (AO a q s)=(AO a q s).length:=by
 have hc:=CL (q:=q) h0 (by omega)
 unfold AO
 split
 ·exact BK (by omega) (Cg (TB (by omega) _ s (Nat.le_refl _) hv) (BK (by omega) (by simp[Cf])))
 ·exact hv
theorem N9 {a q:Int} (ha0:0<=a) (ha1:a<128) (h0:0<=q) (h1:q<128):∀(cs:List B8),JF cs=true->vlen (B4 a q cs)=(B4 a q cs).length
 | [],_=>by simp only[B4];exact BK (by decide) (by simp[Cf])
 | [c],h=>by
  unfold JF at h
  simp only[List.all_cons,List.all_nil,Bool.and_true,decide_eq_true_eq]at h
  simp only[B4]
  exact Cg (LT h0 h1 h) (BK (by decide) (by simp[Cf]))
 | c::d::r,h=>by
  have h':JF (d::r)=true:=by unfold JF at h⊢;simp only[List.all_cons,Bool.and_eq_true]at h⊢;exact h.2
  unfold JF at h
  simp only[List.all_cons,Bool.and_eq_true,decide_eq_true_eq]at h
  have ha:=CL (q:=a) ha0 (by omega)
  simp only[B4]
  exact Cg (LT h0 h1 h.1) (BK (by omega) (N9 ha0 ha1 h0 h1 (d::r) h'))
theorem N7 {a q:Int} (ha0:0<=a) (ha1:a<128) (h0:0<=q) (h1:q<128):∀(l:List (List B8)),(∀r∈l,JF r=true)->vlen (Cq a q l)=(Cq a q l).length
 | [],_=>by simp[Cq,Cf]
 | r::rs,h=>by
  have:Cq a q (r::rs)=B4 a q r++Cq a q rs:=by simp[Cq]
  rw[this]
  exact Cg (N9 ha0 ha1 h0 h1 r (h r (List.mem_cons_self ..))) (N7 ha0 ha1 h0 h1 rs fun r hr=>h r (List.mem_cons_of_mem _ hr))
theorem QT (a q:Int):∀l:List (List B8),(Cq a q l).length<=2*Fg l+3*Bz l+l.length
 | []=>by simp[Cq]
 | r::rs=>by
  have ih:=QT a q rs
  have h1:=JQ a q r
  have:Cq a q (r::rs)=B4 a q r++Cq a q rs:=by simp[Cq]
  rw[this,Pj]
  simp only[List.length_append,List.length_cons,List.length_nil,Fg,Bz];omega
theorem TS {cs:List B8} {c:B8} (h:c∈cs):c.length<=BU cs:=by
 induction cs with
 | nil=>cases h
 | cons d r ih=>
  simp only[BU]
  rcases List.mem_cons.1 h with rfl | h
  ·omega
  ·have:=ih h;omega
theorem Va:∀(rs:List Nd) (l:List (List B8)) (f:B8->B8),rs.map (fun r=>(Au r).map AL)=l.map (fun cs=>cs.map f)->DB rs=(l.length:Int)+Bz l
 | [],[],f,h=>by simp[DB,Bz]
 | [],_::_,f,h=>by simp at h
 | _::_,[],f,h=>by simp at h
 | r::rs,c::l,f,h=>by
  simp only[List.map_cons,List.cons.injEq]at h
  have h1:=congrArg List.length h.1
  rw[List.length_map,List.length_map]at h1
  have ih:=Va rs l f h.2
  simp only[DB,JA,Bz,List.length_cons];omega
theorem back {a q:Int} (hd:dOk a q=true) {l:List (List B8)} {W:Nat} (h:∀r∈l,r≠ []/\r.length=W/\JF r=true) (hs:Fg l<=3000) (hc:Bz l<=200) (hl:l.length<=40):
  ∃rs,Ex (Cq a q l) a q false= .ok (.mk 1 [] [] rs [])/\DU (txt q) rs=l/\(Cq a q l).length<=10000:=by
 have hk:=NU hd
 have hsp:Cr 10=false:=by decide
 have ha10:a≠10:=by omega
 obtain⟨rs,hr,hm⟩:=OS (a:=a) (q:=q) (by omega) (by omega) (by omega) (by omega) (by omega) (by omega) (by omega) ha10 l [] fun cs hcs=>(h cs hcs).1
 rw[List.nil_append,List.length_nil]at hr
 have hlen:=QT a q l
 have hv:=N7 (a:=a) (q:=q) (by omega) (by omega) (by omega) (by omega) l fun r hr=>(h r hr).2.2
 have hmem:∀r∈rs,∃cs∈l,(Au r).map AL=cs.map (AO a q):=by
  intro r hr1
  have:(Au r).map AL∈rs.map (fun r=>(Au r).map AL):=List.mem_map.2 ⟨r,hr1,rfl⟩
  rw[hm]at this
  obtain⟨cs,hcs,he⟩:=List.mem_map.1 this
  exact⟨cs,hcs,he.symm⟩
 have hdoc:=SW (x:=xU (Cq a q l) a q) (show(3:Int)<=48 by decide) (W:=(W:Int)) hr ((Cq a q l).length+1) (acc:=[]) (v:=1) (ns:=[]) (wid:=0) (Nat.zero_le _) (by show(Cq a q l).length<_;omega) (fun r hr1 k hk1=>by
   obtain⟨cs,hcs,he⟩:=hmem r hr1
   have:AL k∈(Au r).map AL:=List.mem_map.2 ⟨k,hk1,rfl⟩
   rw[he]at this
   obtain⟨c,hcc,hce⟩:=List.mem_map.1 this
   show(txt q (AL k)).length<=_
   rw[<-hce,Hp (by omega) (by omega)]
   have h1:=TS hcc
   obtain⟨j,hj⟩:=List.getElem?_of_mem hcs
   have h2:=(TT hj).1
   omega) (fun h=>absurd rfl h) (fun r hr1=>by
   obtain⟨cs,hcs,he⟩:=hmem r hr1
   have h1:=congrArg List.length he
   rw[List.length_map,List.length_map,(h cs hcs).2.1]at h1
   omega) (by rw[Va rs l _ hm];show _<=(65536:Int);omega)
 refine⟨rs,?_,?_,by omega⟩
 ·show Bc (xU (Cq a q l) a q) false 1048576 1024 65536=_
  unfold Bc
  rw[if_neg (show ¬dOk a q=false by rw[hd];decide),if_neg (show ¬lOk 48 65536 1048576 1024 65536=false by decide),if_neg (show ¬(1048576:Int)<((Cq a q l).length:Int) by omega),if_neg (show ¬vlen (Cq a q l)≠(Cq a q l).length by rw[hv];simp)]
  rw[show D9 (xU (Cq a q l) a q) false ((xU (Cq a q l) a q).s.length+1) [] 0 1 [] 0= .ok ([]++rs)from hdoc]
  rfl
 ·unfold DU
  have:(rs.map fun r=>(Au r).map fun k=>txt q (AL k))=(rs.map fun r=>(Au r).map AL).map fun cs=>cs.map (txt q):=by
   rw[List.map_map];congr 1;funext r;simp
  rw[this,hm,List.map_map]
  conv=>rhs;rw[<-List.map_id l]
  congr 1;funext cs
  simp only[Function.comp_apply,List.map_map,id]
  conv=>rhs;rw[<-List.map_id cs]
  congr 1;funext c
  exact Hp (by omega) (by omega) c
section
variable {a q:Int} {hd ty:Bool} {st:St}
end
end
theorem costH_le {s:B8} {a q:Int} {hd:Bool} {rs:List Nd} (h:Ex s a q hd= .ok (.mk 1 [] [] rs [])):DR hd rs<=65535:=by
 obtain⟨rs',hn,_,_,_,_,hdoc,_⟩:=B2 h
 cases hn
 obtain⟨rs2,j1,_,_,_,j6⟩:=LL _ (Nat.zero_le _) hdoc
 rw[List.nil_append]at j1
 subst j1
 rw[show(hd&&([]:List Nd).isEmpty)=hd by simp]at j6
 have h2:(xU s a q).nod=65536:=rfl
 rcases j6 with h | ⟨_,h⟩<;>omega
def Hi (a q:Int) (c:B8):Prop:=∀(pre:B8) (b:UInt8) (post:B8),((b.toNat:Int)=a∨(b.toNat:Int)=10)->CD a q (pre++c++b::post) pre.length= .ok (pre.length+c.length)
structure NK (a q:Int):Prop where
 a0:0<=a
 a1:a<128
 q0:0<=q
 q1:q<128
 aq:a≠q
 q10:q≠10
 q13:q≠13
 a10:a≠10
 sa:Cr a=false
 sq:Cr q=false
theorem U2 {a q:Int} (h:dOk a q=true):NK a q:=by
 have hk:=NU h
 unfold dOk at h
 rw[decide_eq_true_eq]at h
 exact⟨by omega,by omega,by omega,by omega,by omega,by omega,by omega,by omega,h.2.1,h.2.2⟩
theorem Nm {a q:Int} (d:NK a q) (s:B8):Hi a q (AO a q s):=fun pre b post hb=>KQ d.q0 (by have:=d.q1;omega) d.aq d.q10 d.q13 pre s b post hb
theorem Iz {a q:Int} (d:NK a q) {c:B8} (h:Ez a q c=false):Hi a q c:=by
 have:=Nm d c
 unfold AO at this
 rwa [if_neg (by rw[h];decide)]at this
def Gy (q:Int) (s:B8):B8:=UInt8.ofNat q.toNat::(dbl (UInt8.ofNat q.toNat) s++[UInt8.ofNat q.toNat])
theorem quoC_eq (a q:Int) (s:B8):AO a q s=if Ez a q s=true then Gy q s else s:=rfl
theorem Zz {q:Int} (h:0<=q) (h2:q<=255) (s:B8):txt q (Gy q s)=s:=HX (CL h h2)
theorem Nl {a q:Int} (d:NK a q) (c:B8):Hi a q (Gy q c):=by
 intro pre b post hb
 have hq1:=d.q1
 have hqb:=CL d.q0 (by omega:q<=255)
 have hd:(pre++Gy q c++b::post).drop pre.length=Gy q c++b::post:=by rw[List.append_assoc,List.drop_left]
 have hby:by_ (pre++Gy q c++b::post) pre.length=q:=by
  have:(pre++Gy q c++b::post).getD pre.length 0=((pre++Gy q c++b::post).drop pre.length).getD 0 0:=by rw[JV];rfl
  unfold by_
  rw[this,hd];exact hqb
 have hlen:pre.length<(pre++Gy q c++b::post).length:=by simp only[List.length_append,List.length_cons];omega
 have hQ:QE q (pre++Gy q c++b::post) (pre.length+1)=some (pre.length+(Gy q c).length):=by
  unfold QE
  rw[<-List.drop_drop,hd]
  have:=NP hqb c (b::post) (pre.length+1) (fun b' l' h=>by cases h;have:=d.aq;have:=d.q10;omega)
  unfold Gy
  simp only[List.cons_append,List.drop_succ_cons,List.drop_zero,List.append_assoc,List.nil_append]
  rw[this]
  congr 1
  simp;omega
 unfold CD
 rw[if_pos ⟨hlen,hby⟩,hQ]
def BW (a:Int):List B8->B8
 | []=>[10]
 | [c]=>c++[10]
 | c::r=>c++UInt8.ofNat a.toNat::BW a r
theorem PC {a q:Int} (d:NK a q):∀(cs:List B8) (pre post:B8),cs≠ []->(∀c,c∈cs->Hi a q c)->
  ∃ks e,Hh a q (pre++BW a cs++post) pre.length ks e 1/\e+1=pre.length+(BW a cs).length/\ks.map AL=cs/\slc (pre++BW a cs++post) e (e+1)=[10]
 | [],pre,post,h,_=>absurd rfl h
 | [c],pre,post,_,hok=>by
  have hs:pre++BW a [c]++post=pre++c++10::post:=by simp[BW]
  have hc:=hok c (by simp) pre 10 post (.inr rfl)
  rw[hs]
  have hlt:pre.length+c.length<(pre++c++10::post).length:=by simp
  have hb:(pre++c++10::post).getD (pre.length+c.length) 0=10:=by
   have:(pre++c).length=pre.length+c.length:=by simp
   rw[<-this,List.getD_eq_getElem?_getD,List.getElem?_append_right (Nat.le_refl _)]
   simp
  have hby:by_ (pre++c++10::post) (pre.length+c.length)=10:=by unfold by_;rw[hb];rfl
  refine⟨_,_,.last hc (by rintro⟨_,h⟩;rw[hby]at h;exact d.a10 h.symm) ?_,?_,?_,?_⟩
  ·unfold D3;rw[if_neg (by omega),if_pos hby]
  ·simp[BW];omega
  ·simp only[List.map_cons,List.map_nil,BQ]
   congr 1
   unfold slc
   rw[show pre.length+c.length=(pre++c).length by simp,List.take_left,List.drop_left]
  ·rw[Sr hlt,hb]
 | c::c2::r,pre,post,_,hok=>by
  have hs:pre++BW a (c::c2::r)++post=pre++c++UInt8.ofNat a.toNat::(BW a (c2::r)++post):=by simp[BW]
  have hs2:pre++c++UInt8.ofNat a.toNat::(BW a (c2::r)++post)=(pre++c++[UInt8.ofNat a.toNat])++BW a (c2::r)++post:=by simp
  have hab:=CL d.a0 (by have:=d.a1;omega:a<=255)
  have hc:=hok c (by simp) pre (UInt8.ofNat a.toNat) (BW a (c2::r)++post) (.inl hab)
  obtain⟨ks,e,h1,h2,h3,h4⟩:=PC d (c2::r) (pre++c++[UInt8.ofNat a.toNat]) post (by simp) fun x hx=>hok x (.tail _ hx)
  rw[<-hs2]at h1 h4
  rw[hs]
  have hlt:pre.length+c.length<(pre++c++UInt8.ofNat a.toNat::(BW a (c2::r)++post)).length:=by simp
  have hb:(pre++c++UInt8.ofNat a.toNat::(BW a (c2::r)++post)).getD (pre.length+c.length) 0=UInt8.ofNat a.toNat:=by
   have:(pre++c).length=pre.length+c.length:=by simp
   rw[<-this,List.getD_eq_getElem?_getD,List.getElem?_append_right (Nat.le_refl _)]
   simp
  have hpl:(pre++c++[UInt8.ofNat a.toNat]).length=pre.length+c.length+1:=by simp;omega
  rw[hpl]at h1 h2
  refine⟨_,_,.more hc hlt (by unfold by_;rw[hb];exact hab) h1,?_,?_,h4⟩
  ·simp only[BW,List.length_append,List.length_cons];omega
  ·simp only[List.map_cons,BQ]
   rw[h3]
   congr 1
   unfold slc
   rw[show pre.length+c.length=(pre++c).length by simp,List.take_left,List.drop_left]
def AU (a:Int) (l:List (List B8)):B8:=l.flatMap (BW a)
theorem OR {a q:Int} (d:NK a q):∀(l:List (List B8)) (pre:B8),(∀cs,cs∈l->cs≠ []/\∀c,c∈cs->Hi a q c)->
  ∃rs,Gz a q (pre++AU a l) pre.length rs/\rs.map (fun r=>(Au r).map AL)=l
 | [],pre,h=>⟨[],.nil (by simp[AU]),rfl⟩
 | cs::l,pre,h=>by
  have hs:pre++AU a (cs::l)=pre++BW a cs++AU a l:=by simp[AU]
  obtain⟨ks,e,h1,h2,h3,h4⟩:=PC d cs pre (AU a l) (h cs (by simp)).1 (h cs (by simp)).2
  obtain⟨rs,h5,h6⟩:=OR d l (pre++BW a cs) (fun c hc=>h c (.tail _ hc))
  rw[hs]
  rw[List.length_append]at h5
  have hle:=h1.le (by simp)
  refine⟨_,.cons (by simp only[List.length_append]at hle⊢;omega) h1 (by rw[h2];exact h5),?_⟩
  rw[List.map_cons,h6]
  show ks.map AL::_=_
  rw[h3]
theorem N8 {a:Int} (h0:0<=a) (h1:a<128):∀cs:List B8,(∀c,c∈cs->vlen c=c.length)->vlen (BW a cs)=(BW a cs).length
 | [],_=>Eg [10] rfl
 | [c],h=>Cg (h c (by simp)) (Eg [10] rfl)
 | c::c2::r,h=>by
  have hab:=CL h0 (by omega:a<=255)
  exact Cg (h c (by simp)) (BK (by omega) (N8 h0 h1 (c2::r) fun x hx=>h x (.tail _ hx)))
theorem N6 {a:Int} (h0:0<=a) (h1:a<128):∀l:List (List B8),(∀r,r∈l->∀c,c∈r->vlen c=c.length)->vlen (AU a l)=(AU a l).length
 | [],_=>Hl
 | r::l,h=>Cg (N8 h0 h1 r (h r (by simp))) (N6 h0 h1 l fun x hx=>h x (.tail _ hx))
theorem Rm (a:Int):∀cs:List B8,(BW a cs).length<=BU cs+cs.length+1
 | []=>by simp[BW,BU]
 | [c]=>by simp[BW,BU]
 | c::c2::r=>by
  have:=Rm a (c2::r)
  simp only[BW,BU,List.length_append,List.length_cons]at this⊢;omega
theorem Ht (a:Int):∀l:List (List B8),(AU a l).length<=Fg l+Bz l+l.length
 | []=>by simp[AU,Fg,Bz]
 | r::l=>by
  have h1:=Ht a l
  have h2:=Rm a r
  unfold AU at h1⊢
  simp only[List.flatMap_cons,List.length_append,Fg,Bz,List.length_cons];omega
theorem UZ {x:Cx} {i:Nat} {v:Int} {ns:List B8} {e:Nat} (h3:CD x.a x.q x.s i= .ok e) (h4:(txt x.q (slc x.s i e)).length<=1024) (h5:txt x.q (slc x.s i e)∉ns):
  EM x true i v ns= .ok (e,v,txt x.q (slc x.s i e)::ns):=by
 simp only[EM,if_true,true_and,bind,Except.bind,h3]
 rw[if_neg (by omega),if_neg h5]
theorem Y2 {x:Cx} {i:Nat} {v:Int} {ns:List B8} {e:Nat} {v1:Int} {ns1:List B8} (h:EM x true i v ns= .ok (e,v1,ns1)):
  txt x.q (slc x.s i e)∉ns/\ns1=txt x.q (slc x.s i e)::ns/\(txt x.q (slc x.s i e)).length<=1024:=by
 simp only[EM,if_true,true_and,bind,Except.bind]at h
 split at h
 ·cases h
 ·split at h
  ·cases h
  ·rename_i h2 h1
   split at h
   ·cases h
   ·rename_i h3
    cases h
    exact⟨h3,rfl,by omega⟩
def Cc (q:Int) (ks:List Nd):List B8:=ks.map fun k=>txt q (AL k)
theorem ZU {x:Cx} {num:Bool} {wid:Int}:∀{i:Nat} {ks:List Nd} {e m:Nat},Hh x.a x.q x.s i ks e m->∀(n:Nat) {acc:List Nd} {v:Int} {ns:List B8},
  i<=x.s.length->x.s.length<i+n->(∀t,t∈Cc x.q ks->t.length<=1024/\t∉ns)->(Cc x.q ks).Nodup->(num=true->((acc.length+ks.length:Nat):Int)<=wid)->∃ns',Cn x num wid true n acc i v ns= .ok (e,v,ns',acc++ks):=by
 intro i ks e m h
 induction h with
 | @last i e m h1 h2 h3=>
  intro n acc v ns hi hn hk hnd hw
  cases n with
  | zero=>omega
  | succ n=>
  simp only[Cn]
  rw[if_neg (by rintro⟨h,h'⟩;have:=hw h;simp at this;omega)]
  have hc:=hk _ (List.mem_singleton.2 rfl)
  dsimp only at hc
  rw[BQ]at hc
  rw[UZ h1 hc.1 hc.2]
  simp only[bind,Except.bind]
  rw[if_neg h2,h3]
  exact⟨_,rfl⟩
 | @more i e e' m ks h1 h2 h3 h4 ih=>
  intro n acc v ns hi hn hk hnd hw
  cases n with
  | zero=>omega
  | succ n=>
  simp only[Cn]
  simp only[List.length_cons]at hw
  rw[if_neg (by rintro⟨h,h'⟩;have:=hw h;omega)]
  have hc:=hk _ (List.mem_cons_self ..)
  dsimp only at hc
  rw[BQ]at hc
  rw[UZ h1 hc.1 hc.2]
  simp only[bind,Except.bind]
  rw[if_pos ⟨h2,h3⟩]
  have hnd2:txt x.q (slc x.s i e)∉Cc x.q ks/\(Cc x.q ks).Nodup:=by
   have:=List.nodup_cons.1 hnd
   dsimp only at this
   rwa [BQ]at this
  have hle:=Cj hi h1
  obtain⟨ns',hr⟩:=ih n (acc:=acc++[KM x.s i e [.mk 11 [] [x.s.getD e 0] [] []]]) (v:=v) (ns:=txt x.q (slc x.s i e)::ns) (by omega) (by omega) (fun t ht=>⟨(hk t (List.mem_cons_of_mem _ ht)).1,fun hm=>by
   rcases List.mem_cons.1 hm with rfl | hm
   ·exact hnd2.1 ht
   ·exact(hk t (List.mem_cons_of_mem _ ht)).2 hm⟩) hnd2.2 (fun hn=>by have:=hw hn;simp;omega)
  rw[hr,List.append_assoc]
  exact⟨ns',rfl⟩
theorem YA {x:Cx} {num:Bool} {wid:Int}:∀(n:Nat) {acc:List Nd} {i:Nat} {v:Int} {ns:List B8} {e:Nat} {v':Int} {ns':List B8} {out:List Nd},
  Cn x num wid true n acc i v ns= .ok (e,v',ns',out)->∃ks,out=acc++ks/\(Cc x.q ks).Nodup/\∀t,t∈Cc x.q ks->t.length<=1024/\t∉ns:=by
 intro n
 induction n with
 | zero=>intro acc i v ns e v' ns' out h;simp only[Cn]at h;cases h
 | succ n ih=>
  intro acc i v ns e v' ns' out h
  simp only[Cn]at h
  split at h
  ·cases h
  simp only[bind,Except.bind]at h
  split at h
  ·cases h
  rename_i p he
  obtain⟨e1,v1,ns1⟩:=p
  obtain⟨c1,c2,c3⟩:=Y2 he
  simp only at h
  split at h
  ·obtain⟨ks,k1,k2,k3⟩:=ih h
   refine⟨_::ks,by rw[k1,List.append_assoc];rfl,?_,?_⟩
   ·show(txt x.q (AL _)::Cc x.q ks).Nodup
    rw[BQ]
    refine List.nodup_cons.2 ⟨fun hm=>?_,k2⟩
    exact(k3 _ hm).2 (by rw[c2];exact List.mem_cons_self ..)
   ·intro t ht
    rcases List.mem_cons.1 ht with rfl | ht
    ·dsimp only;rw[BQ];exact⟨c3,c1⟩
    ·exact⟨(k3 t ht).1,fun hm=>(k3 t ht).2 (by rw[c2];exact List.mem_cons_of_mem _ hm)⟩
  ·split at h
   ·cases h
   cases h
   refine⟨_,rfl,by simp[Cc],fun t ht=>?_⟩
   rw[List.mem_singleton.1 ht]
   dsimp only
   rw[BQ]
   exact⟨c3,c1⟩
theorem ZX {x:Cx} {num:Bool} {wid:Int} {i:Nat} {ks:List Nd} {e m:Nat} (h:Hh x.a x.q x.s i ks e m) {v:Int} {ns:List B8}
  (hi:i<=x.s.length) (hk:∀t,t∈Cc x.q ks->t.length<=1024/\t∉ns) (hnd:(Cc x.q ks).Nodup) (hw:num=true->(ks.length:Int)=wid):
  ∃ns',G1 x num wid true i v ns= .ok (e+m,v,ns',.mk 8 [] [] ks (slc x.s e (e+m)),(ks.length:Int)):=by
 have hl:=h.le hi
 obtain⟨ns',hr⟩:=ZU (num:=num) (wid:=wid) h (x.s.length+1) (acc:=[]) (v:=v) (ns:=ns) hi (by omega) hk hnd (fun hn=>by rw[List.length_nil,Nat.zero_add,hw hn];omega)
 refine⟨ns',?_⟩
 rw[GF,if_pos rfl,hr]
 unfold Jp
 simp only[hl.2.2.2.2]
 cases num with
 | true=>have:=hw rfl;simp only[if_true,List.nil_append];rw[<-this,if_neg (by omega)]
 | false=>simp only[Bool.false_eq_true,if_false,List.nil_append];rw[if_neg (by omega)]
theorem PI {x:Cx} (n:Nat) {out:List Nd} {v:Int} {ns:List B8} {wid:Int} {i:Nat} (h:D9 x true n [] i v ns wid= .ok out) (hi:i<=x.s.length):∀r,out.head? =some r->(Cc x.q (Au r)).Nodup/\∀t,t∈Cc x.q (Au r)->t.length<=1024:=by
 intro r hr
 cases n with
 | zero=>simp only[D9]at h;cases h
 | succ n=>
 simp only[D9]at h
 split at h
 ·cases h;cases hr
 simp only[bind,Except.bind]at h
 split at h
 ·cases h
 rename_i p h1
 obtain⟨i',v',ns',r1,wid'⟩:=p
 simp only[List.isEmpty_nil,Bool.and_true,Bool.not_true,List.nil_append]at h h1
 obtain⟨ks,e,m,rfl,rfl,k2,_⟩:=OU hi h1
 have hle:=k2.le hi
 obtain⟨rs,j1,_⟩:=LL n (by omega) h
 rw[j1]at hr
 simp only[List.cons_append,List.nil_append,List.head?_cons,Option.some.injEq]at hr
 subst hr
 obtain⟨v1,_,h4⟩:=Gd h1
 obtain⟨e2,v2,ns2,ks2,m2,h2,_,_,hp⟩:=Lr h4
 simp only[Prod.mk.injEq]at hp
 obtain⟨_,_,_,hk,_⟩:=hp
 simp only[Nd.mk.injEq,true_and]at hk
 obtain⟨ks3,q1,q2,q3⟩:=YA _ h2
 rw[List.nil_append]at q1
 show(Cc x.q ks).Nodup/\∀t,t∈Cc x.q ks->t.length<=1024
 rw[hk.1,q1]
 exact⟨q2,fun t ht=>(q3 t ht).1⟩
theorem docE_ofH {x:Cx} (hdep:3<=x.dep) {W:Int} {hdr:Bool} {rs:List Nd} (h:Gz x.a x.q x.s 0 rs) (n:Nat) (hn:x.s.length<n)
  (hk:∀r,r∈rs->∀k,k∈Au r->(txt x.q (AL k)).length<=65536) (hW:∀r,r∈rs->((Au r).length:Int)=W) (hv:1+DR hdr rs<=x.nod)
  (hh:hdr=true->∀r,rs.head? =some r->(Cc x.q (Au r)).Nodup/\∀t,t∈Cc x.q (Au r)->t.length<=1024):D9 x hdr n [] 0 1 [] 0= .ok rs:=by
 cases hdr with
 | false=>exact SW hdep h n (acc:=[]) (Nat.zero_le _) (by omega) hk (fun h=>absurd rfl h) hW hv
 | true=>
  cases h with
  | nil h=>
   cases n with
   | zero=>omega
   | succ n=>simp only[D9];rw[if_pos h]
  | @cons _ e m ks rs h1 h2 h3=>
   cases n with
   | zero=>omega
   | succ n=>
   have hle:=h2.le (Nat.zero_le _)
   obtain⟨hnd,hl⟩:=hh rfl _ rfl
   have hks:(ks.length:Int)=W:=hW _ (List.mem_cons_self ..)
   have hm:0<e+m:=by
    rcases Nat.eq_zero_or_pos m with h0 | h0
    ·have:=(Fi (by omega) hle.2.2.2.2).2.1 h0;omega
    ·omega
   obtain⟨ns',hr⟩:=ZX (num:=false) (wid:=0) h2 (v:=1) (ns:=[]) (Nat.zero_le _) (fun t ht=>⟨hl t ht,by simp⟩) hnd (fun h=>by cases h)
   simp only[D9,List.isEmpty_nil,Bool.and_true,Bool.not_true]
   rw[if_neg (by omega),hr]
   simp only[bind,Except.bind,List.nil_append]
   have:=SW hdep h3 n (acc:=[.mk 8 [] [] ks (slc x.s e (e+m))]) (v:=1) (ns:=ns') (wid:=(ks.length:Int)) (by omega) (by omega) (fun r hr=>hk r (List.mem_cons_of_mem _ hr)) (fun _=>hks) (fun r hr=>hW r (List.mem_cons_of_mem _ hr)) (by
    unfold DR at hv;simpa using hv)
   have e2:∀(n:Nat) (acc:List Nd) (i:Nat) (v:Int) (ns:List B8) (wid:Int),acc≠ []->D9 x true n acc i v ns wid=D9 x false n acc i v ns wid:=by
    intro n
    induction n with
    | zero=>intros;rfl
    | succ n ih=>
     intro acc i v ns wid ha
     have hb:acc.isEmpty=false:=by cases acc;exact absurd rfl ha;rfl
     simp only[D9,hb,Bool.and_false,Bool.not_false]
     split
     ·rfl
     ·simp only[bind,Except.bind]
      split
      ·rfl
      ·exact ih _ _ _ _ _ (by simp)
   rw[e2 _ _ _ _ _ _ (by simp),this]
   rfl
theorem RO:∀(rs:List Nd) (l:List (List B8)),rs.map (fun r=>(Au r).map AL)=l->DB rs=(l.length:Int)+Bz l
 | [],[],h=>by simp[DB,Bz]
 | [],_::_,h=>by simp at h
 | _::_,[],h=>by simp at h
 | r::rs,c::l,h=>by
  simp only[List.map_cons,List.cons.injEq]at h
  have h1:=congrArg List.length h.1
  rw[List.length_map]at h1
  have ih:=RO rs l h.2
  simp only[DB,JA,Bz,List.length_cons];omega
theorem WJ (hd:Bool) (rs:List Nd):DR hd rs<=DB rs:=by
 unfold DR
 split
 ·cases rs with
  | nil=>simp[DB]
  | cons r rs=>simp only[List.tail_cons,DB,JA];omega
 ·omega
theorem Xq {a q:Int} (hd:dOk a q=true) (hdr:Bool) {l:List (List B8)} {W:Nat} (h:∀r,r∈l->r≠ []/\r.length=W/\∀c,c∈r->Hi a q c/\vlen c=c.length/\(txt q c).length<=65536)
  (hs:(AU a l).length<=1048576) (hc:l.length+Bz l<=65535) (hh:hdr=true->∀r,l.head? =some r->(r.map (txt q)).Nodup/\∀c,c∈r->(txt q c).length<=1024):
  ∃rs,Ex (AU a l) a q hdr= .ok (.mk 1 [] [] rs [])/\rs.map (fun r=>(Au r).map AL)=l:=by
 have d:=U2 hd
 obtain⟨rs,hr,hm⟩:=OR d l [] fun cs hcs=>⟨(h cs hcs).1,fun c hc=>((h cs hcs).2.2 c hc).1⟩
 rw[List.nil_append,List.length_nil]at hr
 have hv:=N6 d.a0 d.a1 l fun r hr c hc=>((h r hr).2.2 c hc).2.1
 have hmem:∀r,r∈rs->(Au r).map AL∈l:=by
  intro r hr1
  rw[<-hm];exact List.mem_map.2 ⟨r,hr1,rfl⟩
 have hnk:∀r,Cc q (Au r)=((Au r).map AL).map (txt q):=fun r=>by unfold Cc;rw[List.map_map];rfl
 have hdoc:=docE_ofH (x:=xU (AU a l) a q) (show(3:Int)<=48 by decide) (W:=(W:Int)) (hdr:=hdr) hr ((AU a l).length+1) (by show(AU a l).length<_;omega) (fun r hr1 k hk1=>
   ((h _ (hmem r hr1)).2.2 _ (List.mem_map.2 ⟨k,hk1,rfl⟩)).2.2) (fun r hr1=>by
   have:=(h _ (hmem r hr1)).2.1
   rw[List.length_map]at this;omega) (by
   have h1:=RO rs l hm
   have h2:=WJ hdr rs
   show _<=(65536:Int);omega) (fun hb r hr1=>by
   have hl:l.head? =some ((Au r).map AL):=by rw[<-hm,List.head?_map,hr1];rfl
   have:=hh hb _ hl
   show(Cc q (Au r)).Nodup/\_
   rw[hnk]
   exact⟨this.1,fun t ht=>by
    obtain⟨c,hc,rfl⟩:=List.mem_map.1 ht
    exact this.2 c hc⟩)
 refine⟨rs,?_,hm⟩
 show Bc (xU (AU a l) a q) hdr 1048576 1024 65536=_
 unfold Bc
 rw[if_neg (show ¬dOk a q=false by rw[hd];decide),if_neg (show ¬lOk 48 65536 1048576 1024 65536=false by decide),if_neg (show ¬(1048576:Int)<((AU a l).length:Int) by omega),if_neg (show ¬vlen (AU a l)≠(AU a l).length by rw[hv];simp)]
 rw[show D9 (xU (AU a l) a q) hdr ((xU (AU a l) a q).s.length+1) [] 0 1 [] 0= .ok rs from hdoc]
noncomputable def BB (a q:Int) (ty:Bool) (s:Sc):B8:=
 if s.kind=4 then(if AO a q s.text=s.text/\(CZ ty false s.text).kind≠4 then Gy q s.text else AO a q s.text)else plT s
def BV (ty:Bool) (k:Int):Int:=if (ty=false/\k≠4)∨k=5∨k=6∨k=7 then 27 else 0
theorem cellG_k4 {ty qd:Bool} {s:B8} (h:(CZ ty qd s).kind=4):CZ ty qd s=tkT s:=by
 unfold CZ at h⊢
 by_cases h1:ty=false∨qd=true
 ·rw[if_pos h1]
 rw[if_neg h1]at h⊢
 by_cases h2:s=[]
 ·rw[if_pos h2]at h;exact absurd h (show(0:Int)≠4 by decide)
 rw[if_neg h2]at h⊢
 by_cases h3:s=Lk
 ·rw[if_pos h3]at h;exact absurd h (show(1:Int)≠4 by decide)
 rw[if_neg h3]at h⊢
 by_cases h4:s=Jl
 ·rw[if_pos h4]at h;exact absurd h (show(1:Int)≠4 by decide)
 rw[if_neg h4]at h⊢
 by_cases h5:(dcP s).2.2.2=0
 ·rw[if_pos h5]at h;exact absurd h (show(2:Int)≠4 by decide)
 rw[if_neg h5]at h⊢
 by_cases h6:(tmP s).2.2.2.2=0
 ·rw[if_pos h6]at h;exact absurd h (show(3:Int)≠4 by decide)
 rw[if_neg h6]
theorem OX {q:Int} {c:B8} (h:c=[]∨by_ c 0≠q):BL q c=false/\txt q c=c:=by
 unfold BL txt
 exact⟨decide_eq_false (fun g=>g h),if_pos h⟩
theorem SE {q:Int} (h0:0<=q) (h1:q<128) (s:B8):BL q (Gy q s)=true/\txt q (Gy q s)=s:=by
 refine⟨?_,Zz h0 (by omega) s⟩
 unfold BL
 rw[decide_eq_true_eq]
 rintro(h | h)
 ·unfold Gy at h;cases h
 ·exact h (CL h0 (by omega))
theorem CQ.head {a q:Int} (d:NK a q) {c:B8} (h:CQ c):c=[]∨by_ c 0≠q:=by
 cases c with
 | nil=>exact .inl rfl
 | cons x r=>
  right
  have hx:=h x (by simp)
  show(x.toNat:Int)≠q
  intro e
  rw[e,d.sq]at hx;cases hx
theorem CQ.need {a q:Int} (d:NK a q) {c:B8} (h:CQ c):Ez a q c=false:=by
 unfold Ez
 rw[List.any_eq_false]
 intro x hx
 have hs:=h x hx
 rw[decide_eq_true_eq]
 rintro(e | e | e | e)
 ·rw[e,d.sa]at hs;cases hs
 ·rw[e,d.sq]at hs;cases hs
 ·rw[e]at hs;revert hs;decide
 ·rw[e]at hs;revert hs;decide
theorem CQ.vlen {s:B8} (h:CQ s):vlen s=s.length:=Eg s (by
 rw[List.all_eq_true]
 intro c hc
 have:=h c hc
 unfold Cr at this
 rw[decide_eq_true_eq]at this⊢;omega)
theorem Z1 {s:Sc} (h:Eb s [] []):CQ (plT s)/\(plT s).length<=200:=by
 unfold plT
 split
 ·cases s.b
  ·exact⟨fun c hc=>(by decide:∀c,c∈Jl->Cr (c.toNat:Int)=true) c hc,by decide⟩
  ·exact⟨fun c hc=>(by decide:∀c,c∈Lk->Cr (c.toNat:Int)=true) c hc,by decide⟩
 ·split
  ·refine⟨dcT_spec h.dec,?_⟩
   have:=dcT_len h.dec
   have:s.dg.length<=120:=by
    by_cases hn:s.dg=[]
    ·rw[hn];simp
    ·exact(h.dec.2 hn).1
   omega
  ·split
   ·exact⟨Yh _ _ _ _,by have:=OB s.tk s.td s.tn s.tz;omega⟩
   ·exact⟨CQ.nil,by simp⟩
theorem X9 {q:Int} (h0:0<=q) (h1:q<128) {s:B8} (hv:vlen s=s.length):vlen (Gy q s)=(Gy q s).length:=by
 have hq:(UInt8.ofNat q.toNat).toNat<128:=by have:=CL h0 (by omega:q<=255);omega
 exact BK hq (Cg (TB hq _ s (Nat.le_refl _) hv) (BK hq Hl))
structure ShOk (a q:Int) (ty:Bool) (s:Sc) (c:B8):Prop where
 cell:Hi a q c
 val:vlen c=c.length
 back:CZ ty (BL q c) (txt q c)=s
 len:c.length<=2*s.text.length+202
 tlen:(txt q c).length<=65536
theorem VV {s:Sc} (h:Eb s [] []) (hk:s.kind=0):s=scK 0:=by
 obtain⟨w0,w7,wb,wn,wt,wx,wy,_,_⟩:=h.own
 obtain⟨kd,b,neg,dg,ex,tk,td,tn,tz,text,bytes⟩:=s
 dsimp only at*
 subst hk
 obtain rfl:=wb (by decide)
 obtain⟨rfl,rfl,rfl⟩:=wn (by decide)
 obtain⟨rfl,rfl,rfl,rfl⟩:=wt (by decide)
 obtain rfl:=wx (by decide)
 obtain rfl:=wy (by decide)
 rfl
theorem VU {s:Sc} (h:Eb s [] []) (hk:s.kind=1):s=tkB s.b:=by
 obtain⟨w0,w7,wb,wn,wt,wx,wy,_,_⟩:=h.own
 obtain⟨kd,b,neg,dg,ex,tk,td,tn,tz,text,bytes⟩:=s
 dsimp only at*
 subst hk
 obtain⟨rfl,rfl,rfl⟩:=wn (by decide)
 obtain⟨rfl,rfl,rfl,rfl⟩:=wt (by decide)
 obtain rfl:=wx (by decide)
 obtain rfl:=wy (by decide)
 rfl
theorem VT {s:Sc} (h:Eb s [] []) (hk:s.kind=2):s=tkN s.neg s.dg s.ex:=by
 obtain⟨w0,w7,wb,wn,wt,wx,wy,_,_⟩:=h.own
 obtain⟨kd,b,neg,dg,ex,tk,td,tn,tz,text,bytes⟩:=s
 dsimp only at*
 subst hk
 obtain rfl:=wb (by decide)
 obtain⟨rfl,rfl,rfl,rfl⟩:=wt (by decide)
 obtain rfl:=wx (by decide)
 obtain rfl:=wy (by decide)
 rfl
theorem VS {s:Sc} (h:Eb s [] []) (hk:s.kind=3):s=tkM s.tk s.td s.tn s.tz:=by
 obtain⟨w0,w7,wb,wn,wt,wx,wy,_,_⟩:=h.own
 obtain⟨kd,b,neg,dg,ex,tk,td,tn,tz,text,bytes⟩:=s
 dsimp only at*
 subst hk
 obtain rfl:=wb (by decide)
 obtain⟨rfl,rfl,rfl⟩:=wn (by decide)
 obtain rfl:=wx (by decide)
 obtain rfl:=wy (by decide)
 rfl
theorem VR {s:Sc} (h:Eb s [] []) (hk:s.kind=4):s=tkT s.text:=by
 obtain⟨w0,w7,wb,wn,wt,wx,wy,_,_⟩:=h.own
 obtain⟨kd,b,neg,dg,ex,tk,td,tn,tz,text,bytes⟩:=s
 dsimp only at*
 subst hk
 obtain rfl:=wb (by decide)
 obtain⟨rfl,rfl,rfl⟩:=wn (by decide)
 obtain⟨rfl,rfl,rfl,rfl⟩:=wt (by decide)
 obtain rfl:=wy (by decide)
 rfl
theorem show_ok {a q:Int} {ty:Bool} {s:Sc} (d:NK a q) (h:Eb s [] []) (he:BV ty s.kind=0):ShOk a q ty s (BB a q ty s):=by
 have hk0:=h.own.k0
 have hk7:=h.own.k7
 have hu:vlen s.text=s.text.length:=h.text
 have hq1:=d.q1
 unfold BV at he
 by_cases hk:s.kind=4
 ·have hs:=VR h hk
  have hF:ShOk a q ty s (Gy q s.text):=by
   obtain⟨h1,h2⟩:=SE d.q0 d.q1 s.text
   refine⟨Nl d _,X9 d.q0 d.q1 hu,?_,?_,by rw[h2];exact h.tlen⟩
   ·rw[h1,h2]
    unfold CZ
    rw[if_pos (.inr rfl)];exact hs.symm
   ·have:=JZ (UInt8.ofNat q.toNat) s.text
    unfold Gy
    simp only[List.length_cons,List.length_append,List.length_nil];omega
  unfold BB
  rw[if_pos hk]
  split
  ·exact hF
  ·rename_i hn
   rw[quoC_eq]at hn⊢
   by_cases hq:Ez a q s.text=true
   ·rw[if_pos hq];exact hF
   ·rw[if_neg hq]at hn⊢
    have hq:Ez a q s.text=false:=by simpa using hq
    have h4:(CZ ty false s.text).kind=4:=Decidable.not_not.1 fun g=>hn ⟨rfl,g⟩
    have hh:s.text=[]∨by_ s.text 0≠q:=by
     cases ht:s.text with
     | nil=>exact .inl rfl
     | cons x r=>exact .inr (Pa hq x (by rw[ht];simp)).2.1
    obtain⟨h1,h2⟩:=OX hh
    exact⟨Iz d hq,hu,by rw[h1,h2,cellG_k4 h4];exact hs.symm,by omega,by rw[h2];exact h.tlen⟩
 ·obtain⟨hS,hl⟩:=Z1 h
  obtain⟨h1,h2⟩:=OX (hS.head d)
  have hty:ty=true:=by
   cases ty
   ·rw[if_pos (.inl ⟨rfl,hk⟩)]at he;cases he
   ·rfl
  subst hty
  have hkk:s.kind=0∨s.kind=1∨s.kind=2∨s.kind=3:=by
   apply Decidable.byContradiction
   intro hn
   rw[if_pos (by omega)]at he;cases he
  unfold BB
  rw[if_neg hk]
  refine⟨Iz d (hS.need d),hS.vlen,?_,by omega,by rw[h2];omega⟩
  rw[h1,h2]
  unfold plT
  rcases hkk with hk | hk | hk | hk
  ·rw[if_neg (by omega),if_neg (by omega),if_neg (by omega),VV h hk];rfl
  ·rw[if_pos hk]
   have hb:=VU h hk
   cases hsb:s.b
   ·rw[hb,hsb];rfl
   ·rw[hb,hsb];rfl
  ·rw[if_neg (by omega),if_pos hk,Zc h.dec,<-VT h hk]
  ·rw[if_neg (by omega),if_neg (by omega),if_pos hk,Za (h.time hk),<-VS h hk]
def A2 (s:Sc):Vl:= .mk s [] []
def Cm (q:Int) (ty:Bool) (r:List B8):List Sc:=r.map fun c=>CZ ty (BL q c) (txt q c)
def OT (names:List B8) (row:List Sc):Vl:=HW (List.zipWith (fun k s=>Fd.mk k (A2 s)) names row)
def Zu (q:Int) (hd ty:Bool):List (List B8)->Vl
 | []=>A7 []
 | h::t=>if hd then A7 (t.map fun r=>OT (h.map (txt q)) (Cm q ty r))else A7 ((h::t).map fun r=>A7 ((Cm q ty r).map A2))
def A5 (rs:List Nd):List (List B8):=rs.map fun r=>(Au r).map AL
structure Ev (hd:Bool) (v:Vl):Prop where
 kind:v.sc.kind=6
 lst:hd=false->∀x,x∈v.list->x.sc.kind=6/\x.list≠ []/\x.list.length=(v.list.headD vlZ).list.length
 map:hd=true->∀x,x∈v.list->x.sc.kind=7/\x.flds≠ []/\x.flds.length=(v.list.headD vlZ).flds.length/\∀f,f∈x.flds->f.key∈(v.list.headD vlZ).flds.map Fd.key
def AT (hd:Bool) (first x:Vl):List Vl:=if hd then first.flds.map fun f=>(Dz x.flds f.key).1 else x.list
noncomputable def wrX (a q:Int) (hd ty:Bool) (v:Vl):List (List B8):=
 match v.list with
 | []=>[]
 | f::r=>(if hd then [f.flds.map fun d=>AO a q d.key]else [])++(f::r).map fun x=>(AT hd f x).map fun y=>BB a q ty y.sc
theorem AS.own {s:Sc} {l:List Vl} {f:List Fd} (h:AS (.mk s l f)):Eb s l f/\Cp l/\CE f:=by unfold AS at h;exact h
theorem On:∀{l:List Vl},Cp l->∀x,x∈l->AS x
 | [],h,x,hx=>by cases hx
 | v::r,h,x,hx=>by
  unfold Cp at h
  rcases List.mem_cons.1 hx with rfl | hx
  ·exact h.1
  ·exact On h.2 x hx
theorem Oo:∀{l:List Fd},CE l->∀x,x∈l->AS x.val
 | [],h,x,hx=>by cases hx
 | .mk k v::r,h,x,hx=>by
  unfold CE Gt at h
  rcases List.mem_cons.1 hx with rfl | hx
  ·exact h.1
  ·exact Oo h.2 x hx
def scW (k:Int):Sc:=⟨k,false,false,[],0,0,0,0,0,[],[]⟩
theorem ZP {s:Sc} {l:List Vl} {f:List Fd} (h:Eb s l f) (hk:s.kind=6∨s.kind=7):s=scW s.kind:=by
 obtain⟨w0,w7,wb,wn,wt,wx,wy,_,_⟩:=h.own
 obtain⟨kd,b,neg,dg,ex,tk,td,tn,tz,text,bytes⟩:=s
 dsimp only at*
 obtain rfl:=wb (by omega)
 obtain⟨rfl,rfl,rfl⟩:=wn (by omega)
 obtain⟨rfl,rfl,rfl,rfl⟩:=wt (by omega)
 obtain rfl:=wx (by omega)
 obtain rfl:=wy (by omega)
 rfl
theorem BY {v:Vl} (h:AS v) (hk:v.sc.kind=6):v=A7 v.list/\∀x,x∈v.list->AS x:=by
 obtain⟨s,l,f⟩:=v
 obtain⟨h1,h2,h3⟩:=h.own
 replace hk:s.kind=6:=hk
 have hf:f=[]:=h1.own.fs (by omega)
 subst hf
 refine⟨?_,On h2⟩
 have hs:=ZP h1 (.inl hk)
 rw[hk]at hs
 show Vl.mk s l []=Vl.mk (scW 6) l []
 rw[hs]
theorem Cl {v:Vl} (h:AS v) (hk:v.sc.kind=7):v=HW v.flds/\(∀x,x∈v.flds->AS x.val)/\BT v.flds/\∀d,d∈v.flds->U8 d.key/\d.key.length<=1024:=by
 obtain⟨s,l,f⟩:=v
 obtain⟨h1,h2,h3⟩:=h.own
 replace hk:s.kind=7:=hk
 have hl:l=[]:=h1.own.ls (by omega)
 subst hl
 obtain⟨n1,n2⟩:=Pq f [] h1.keys
 refine⟨?_,Oo h3,n1,fun d hd=>⟨(n2 d hd).2.1,(n2 d hd).2.2⟩⟩
 have hs:=ZP h1 (.inr hk)
 rw[hk]at hs
 show Vl.mk s [] f=Vl.mk (scW 7) [] f
 rw[hs]
theorem Ot {v:Vl} (h:AS v) (hk:v.sc.kind<6):v=A2 v.sc/\Eb v.sc [] []:=by
 obtain⟨s,l,f⟩:=v
 obtain⟨h1,h2,h3⟩:=h.own
 replace hk:s.kind<6:=hk
 have hl:l=[]:=h1.own.ls (by omega)
 have hf:f=[]:=h1.own.fs (by omega)
 subst hl hf
 exact⟨rfl,h1⟩
theorem VE {a q:Int} {ty:Bool} (d:NK a q) {y:Vl} (h:AS y) (he:BV ty y.sc.kind=0):ShOk a q ty y.sc (BB a q ty y.sc)/\y=A2 y.sc:=by
 have hk7:y.sc.kind<=7:=by obtain⟨s,l,f⟩:=y;exact h.own.1.own.k7
 have hk:y.sc.kind<6:=by
  apply Decidable.byContradiction
  intro hn
  unfold BV at he
  rw[if_pos (by omega)]at he;cases he
 obtain⟨h1,h2⟩:=Ot h hk
 exact⟨show_ok d h2 he,h1⟩
theorem Q4 {a q:Int} {ty:Bool} {l:List Vl} (h:∀y,y∈l->ShOk a q ty y.sc (BB a q ty y.sc)):Cm q ty (l.map fun y=>BB a q ty y.sc)=l.map Vl.sc:=by
 unfold Cm
 rw[List.map_map]
 exact List.map_congr_left fun y hy=>(h y hy).back
theorem map_leaf {l:List Vl} (h:∀y,y∈l->y=A2 y.sc):(l.map Vl.sc).map A2=l:=by
 rw[List.map_map]
 conv=>rhs;rw[<-List.map_id l]
 exact List.map_congr_left fun y hy=>(h y hy).symm
theorem RD {f:List Fd} (hn:BT f) {d:Fd} (hd:d∈f):Dz f d.key=(d.val,true):=by
 unfold Dz
 cases hf:f.find? (fun x=>decide (x.key=d.key))with
 | none=>
  have:=List.find?_eq_none.1 hf d hd
  simp at this
 | some x=>
  have h1:=List.find?_some hf
  rw[decide_eq_true_eq]at h1
  rw[XA hn (List.mem_of_find?_eq_some hf) hd h1]
theorem O2:∀(l m:List B8),l.Nodup->m.length=l.length->(∀x,x∈l->x∈m)->l.Perm m
 | [],m,_,h,_=>by
  have:m=[]:=List.length_eq_zero_iff.1 h
  subst this;exact .refl _
 | a::r,m,hn,h,hs=>by
  obtain⟨h1,h2⟩:=List.nodup_cons.1 hn
  have ha:=hs a (by simp)
  have hp:=List.perm_cons_erase ha
  have hle:=List.length_erase_of_mem ha
  rw[List.length_cons]at h
  exact((O2 r (m.erase a) h2 (by omega) fun x hx=>(List.mem_erase_of_ne (fun e=>h1 (by rw[<-e];exact hx))).2 (hs x (.tail _ hx))).cons a).trans hp.symm
theorem SC {f g:List Fd} (hf:BT f) (hg:BT g) (hl:f.length=g.length) (hk:∀d,d∈f->d.key∈g.map Fd.key):(g.map fun d=>Fd.mk d.key (Dz f d.key).1).Perm f:=by
 have hp:(f.map Fd.key).Perm (g.map Fd.key):=O2 _ _ hf (by rw[List.length_map,List.length_map];omega) fun k hk1=>by
  obtain⟨d,hd,rfl⟩:=List.mem_map.1 hk1
  exact hk d hd
 have h1:(g.map fun d=>Fd.mk d.key (Dz f d.key).1)=(g.map Fd.key).map fun k=>Fd.mk k (Dz f k).1:=by rw[List.map_map];rfl
 have h2:f=(f.map Fd.key).map fun k=>Fd.mk k (Dz f k).1:=by
  rw[List.map_map]
  conv=>lhs;rw[<-List.map_id f]
  refine List.map_congr_left fun d hd=>?_
  simp only[id,Function.comp_apply,RD hf hd]
  cases d;rfl
 rw[h1]
 conv=>rhs;rw[h2]
 exact(hp.map _).symm
theorem Q0 (f:List Fd):DQ (HW f)=HW (Ei (f.map Jg)):=by
 unfold HW
 rw[DQ,H7]
 rfl
theorem OJ {f g:List Fd} (hk:BT f) (p:g.Perm f):Ei g=Ei f:=
 QY hk ((En g).trans p) (OI g)
theorem VM {f g:List Fd} (hk:BT f) (p:g.Perm f):DQ (HW g)=DQ (HW f):=by
 rw[Q0,Q0]
 congr 1
 refine OJ ?_ (p.map Jg)
 unfold BT at hk⊢
 rw[List.map_map]
 rwa [show(Fd.key∘Jg)=Fd.key from funext Mf]
theorem OH (l:List Vl):DQ (A7 l)=A7 (l.map DQ):=by
 unfold A7
 rw[DQ,H6]
 rfl
theorem zip_map {g:List Fd} {f:List Fd} (F:Vl->Sc) (h:∀d,d∈g->(Dz f d.key).1=A2 (F (Dz f d.key).1)):List.zipWith (fun k s=>Fd.mk k (A2 s)) (g.map Fd.key) ((g.map fun d=>(Dz f d.key).1).map F)=g.map fun d=>Fd.mk d.key (Dz f d.key).1:=by
 induction g with
 | nil=>rfl
 | cons d r ih=>
  simp only[List.map_cons,List.zipWith_cons_cons]
  rw[ih fun x hx=>h x (.tail _ hx),<-h d (.head _)]
end Go.TVF
