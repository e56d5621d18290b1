/- What the laws below rest on: a framework for Go programs, and contracts of the functions that they reach. -/
import Derived.Test.YtahjbepjlconkaaGreatDoorZqF
set_option maxRecDepth 20000
set_option linter.unusedVariables false
set_option linter.unusedSimpArgs false
namespace Go.TVF
open Go.IntKind(i64 u8)
open Go Go.Proofs
section
section
variable {E:TV->St->Prop} {b:Nat} {s:B8} {L:LmT} {y:Int×Int×Int} {i l c:Nat} {tl:List TV} {st0 st:St}
theorem OO {k:Int} {a b c:B8} {kv:TV} (h:Av kv=true):List.all [.int .i64 k,.str a,.str b,kv,.str c] Av=true:=by
 show(true&&(true&&(Av kv&&(true&&true))))=true;rw[h];rfl
theorem vlL {xs:List Vl} {ul:TV} {cells:List TV} (h1:Rd 13 ul xs.length cells) (h2:VsR St.zero xs cells):VlR St.zero (.mk scL xs []) (AQ scL .nilSlice ul .nilSlice):=by
 unfold VlR;exact⟨.nilSlice,ul,.nilSlice,cells,[],rfl,.of_rd (.inl ⟨rfl,rfl,rfl⟩),.of_rd h1,h2,.of_rd (.inl ⟨rfl,rfl,rfl⟩),by unfold FsR;rfl⟩
set_option maxHeartbeats 4000000 in
theorem Aae {f d:Nat} {D:Int} {K:K18} (IH:∀g,g<f->ZT E st0 s L y g) (hD:D=(d:Nat)) (H:PSB b s L y i l c tl st) (hl:s.length<=1000000) (hL:L.d<=1000) (e0:Ag st0 st) (hb:st0.nb<=b)
  (hf:2*(s.length-(i+1))+3<=f) (hc:c<=i+2) (hd:(d:Int)<=L.d) (hi1:i+1<=s.length) (htx:sl s i (i+1)=[91])
  (he:∀p,arF s L f d (i+1) (i+1) c= .error p->Fl E st0 p)
  (hk:∀ks xs tlx j c' kv ul st',arF s L f d (i+1) (i+1) c= .ok (ks,xs,tlx,j,c')->KdR kv ks->VlR St.zero (.mk scL xs []) (AQ scL .nilSlice ul .nilSlice)->PSB b s L y j j c' tl st'->StX (·=b) st st'->
   K 3 (sl s l i) [91] kv tlx 6 false false [] 0 0 0 0 0 [] .nilSlice ul .nilSlice st'):
  Bz E PR Ek [.box b 0,.int .i64 D] [.agg [.int .i64,.str,.str,.tv,.str],.agg [.int .i64,.bool,.bool,.str,.int .i64,.int .i64,.int .i64,.int .i64,.int .i64,.str,.tv,.tv,.tv]] st K:=by
 subst hD;have w1:IntKind.wrap .i64 ((d:Int)+1)=((d+1:Nat):Int):=by rw[Ah _ (by omega) (by omega)];omega
 have ex:∀{st1:St},StX (·=b) st st1->Ag st0 st1:=λx=>x.out e0 λk hk=>by rw[hk];exact hb
 refine Kh E b d st K (CallT.x (Hk (n:=1) H rfl hl hi1 λst1 H1 x1=>Aa rfl ?_));rw[htx];refine⟨λv D' _ _ _ _ _ _ _ _ _ _ _ _ _ _ _ _ _ _ n9 s9 s10 v6 s11 n10 b3 b4 s12 n11 n12 n13 n14 n15 s13 v7 v8 v9 st2=> .box b 0=v/\(d:Int)=D'/\3=n9/\sl s l i=s9/\[91]=s10/\6=n10/\false=b3/\false=b4/\[]=s12/\0=n11/\0=n12/\0=n13/\0=n14/\0=n15/\[]=s13/\TV.nilSlice=v7/\TV.nilSlice=v9/\
   ∃(l' i' c' f':Nat) (ks:List Nd) (xs:List Vl) (kc vc:List TV),PSB b s L y i' l' c' tl st2/\StX (·=b) st st2/\i+1<=i'/\2*(s.length-i')+3<=f'/\f'<=f/\c'<=i'+1/\ks.length<=i'/\xs.length<=i'/\Own st.nt 5 st2 v6 ks.length kc/\Bi ks kc/\Own st.nt 13 st2 v8 xs.length vc/\VsR St.zero xs vc/\LN v6 v8/\
    arF s L f d (i+1) (i+1) c=Pn ks xs (arF s L f' d l' i' c'),
  λ_ _ _ _ _ _ _ _ _ _ _ _ _ _ _ _ _ _ _ _ _ _ _ _ _ _ _ _ _ _ _ _ _ _ _ _ _ _ st2=>atM b s st2,
  ⟨rfl,rfl,rfl,rfl,rfl,rfl,rfl,rfl,rfl,rfl,rfl,rfl,rfl,rfl,rfl,rfl,rfl,i+1,i+1,c,f,[],[],[],[],H1,x1,Nat.le_refl _,hf,Nat.le_refl _,by omega,by simp,by simp,Own.nil _ _ _,Bi.nil,Own.nil _ _ _,by unfold VsR;rfl,LN.nil _,(Vr _).symm⟩,?_⟩
 rintro _ _ _ _ _ _ _ _ _ _ _ _ _ _ _ _ _ _ _ _ _ _ _ v6 s11 _ _ _ _ _ _ _ _ _ _ _ v8 _ st2 ⟨rfl,rfl,rfl,rfl,rfl,rfl,rfl,rfl,rfl,rfl,rfl,rfl,rfl,rfl,rfl,rfl,rfl,l',i',c',f',ks,xs,kc,vc,H2,x2,hii,hf',hff,hc',hks,hxs,ok,hkc,ov,hvc,htip,hrem⟩;obtain⟨g,rfl⟩:∃g,f'=g+1:=⟨f'-1,by omega⟩;rw[arF]at hrem;have hEr:∀p,Pn ks xs (Except.error p:Except EP (List Nd×List Vl×B8×Nat×Nat))= .error p:=λp=>rfl;have hhi:=H2.hi;have hle:=H2.le;refine Eb H2 hl (ex x2) hb (λp hp=>he p (by rw[hrem,hp];rfl)) λi1 st3 hs1 H3 x3=>?_;rw[hs1]at hrem;simp only at hrem;have hi1':=Bo hhi hs1;have x23:=x2.trans x3;refine F8 H3 hl (ex x23) (λp hp=>he p (by rw[hrem,hp];rfl)) λk t st4 hs2 e4=>?_;rw[hs2]at hrem;simp only at hrem;have ht:=Bd H3.hi hs2;have H4:=H3.ext e4;have x24:=x23.trans (StX.of e4);refine Ab (λg1=>?_) λg1=>?_
 ·--the end
  have g1':t=[93]:=g1;subst g1';rw[if_pos rfl]at hrem;simp only[List.length_singleton]at ht;refine CallT.x (KB H4 hl (by omega) λst5 H5 x5=>?_);have x25:=x24.trans x5;have hv:=vlL ov.rd hvc;have ho:=Je (v:= .mk scL xs []) hv;rw[<-ht.2.2.2];have hkr:KdR v6 ks:=⟨kc,ok.rd,hkc⟩;refine Aa (OO hkr.one) (Aa (Ee rfl ho.2.1 rfl) (hk ks xs _ (i1+1) c' v6 v8 st5 (by rw[hrem];simp[Pn]) hkr hv H5 x25))
 ·have g1':¬t=[93]:=g1
  rw[if_neg g1']at hrem;show Bz E PR BI [.box b 0,.int .i64 (IntKind.wrap .i64 ((d:Int)+1))] _ st4 _;rw[w1];refine IH g (by omega) b (d+1) l' i1 c' tl st4 _ _ rfl H4 (ex x24) hb (by omega) (by omega) (λp hp=>he p (by rw[hrem,hp];rfl)) λk6 ld6 tx6 ks6 tl6 kv6 x6 ub ul uf i2 c2 st6 hv6 hk6 hvl H6 x6'=>?_;rw[hv6]at hrem;simp only at hrem;have hp6:=(Iq s L g).1 _ _ _ _ _ _ _ _ H4.hi hv6;have x26:=x24.trans x6';have ho6:=Je hvl;have hN6:=hk6.nd k6 ld6 tx6 tl6;refine Aa (OO hk6.one) (Aa (Ee ho6.1 ho6.2.1 ho6.2.2) ?_);refine Eb H6 hl (ex x26) hb (λp hp=>he p (by rw[hrem,hp];rfl)) λi3 st7 hs7 H7 x7=>?_;rw[hs7]at hrem;simp only at hrem;have hi3:=Bo H6.hi hs7;have x27:=x26.trans x7;refine F8 H7 hl (ex x27) (λp hp=>he p (by rw[hrem,hp];rfl)) λk8 t8 st8 hs8 e8=>?_;rw[hs8]at hrem;simp only at hrem;have ht8:=Bd H7.hi hs8;have H8:=H7.ext e8;have x28:=x27.trans (StX.of e8);have ok8:Own st.nt 5 st8 v6 ks.length kc:=(((((ok.extX x3).extX (StX.of e4 (S:=λ_=>False))).extX x6').extX x7).extX (StX.of e8 (S:=λ_=>False)));have ov8:Own st.nt 13 st8 v8 xs.length vc:=(((((ov.extX x3).extX (StX.of e4 (S:=λ_=>False))).extX x6').extX x7).extX (StX.of e8 (S:=λ_=>False)));have entR:∀{kv:TV} {ks':List Nd},KdR kv ks'->Bi [ent ks'] [.int .i64 5,.str [],.str [],kv,.str []]:=λh=>Bi.one (h.nd 5 [] [] [])
  --the rows grow
  have grow:∀{kv:TV} {ks':List Nd} {st':St} {l'' i'':Nat},KdR kv ks'->PSB b s L y i'' l'' c2 tl st'->StX (·=b) st st'->Own st.nt 5 st' v6 ks.length kc->Own st.nt 13 st' v8 xs.length vc->i3<=i''->arF s L f d (i+1) (i+1) c=Pn ks xs (Pn [ent ks'] [x6] (arF s L g d l'' i'' c2))->
    ∀{K':TV->TV->St->Prop},(∀v6' v8' st'',(∃(l' i' c' f':Nat) (ks:List Nd) (xs:List Vl) (kc vc:List TV),PSB b s L y i' l' c' tl st''/\StX (·=b) st st''/\i+1<=i'/\2*(s.length-i')+3<=f'/\f'<=f/\c'<=i'+1/\ks.length<=i'/\xs.length<=i'/\Own st.nt 5 st'' v6' ks.length kc/\Bi ks kc/\Own st.nt 13 st'' v8' xs.length vc/\VsR St.zero xs vc/\LN v6' v8'/\
     arF s L f d (i+1) (i+1) c=Pn ks xs (arF s L f' d l' i' c'))->atM b s st''<atM b s st2->K' v6' v8' st'')->
    Bn 43 5 80 v6 1 [.int .i64 5,.str [],.str [],kv,.str []] st' λv1 st1=>need (List.all [v1] Av) (need (List.all (AQ x6.sc ub ul uf) Av) (Bn 33 13 168 v8 1 (AQ x6.sc ub ul uf) st1 λv2 st2=>need (List.all [v2] Av) (K' v1 v2 st2))):=by
   intro kv ks' st' l'' i'' hkv H' x' ok' ov' hi'' hr K' hK';refine JO x' ok' (by omega) (λh=>by cases h) λv1 sa xa ba na oa otha=>Aa (by simp[oa.rd.one]) (Aa (Ee ho6.1 ho6.2.1 ho6.2.2) ?_);obtain⟨ov1,ht1⟩:=otha ov' htip;refine JO xa ov1 (by omega) (λh=>by cases h) λv2 sb xb bb nb ob othb=>Aa (by simp[ob.rd.one]) ?_;obtain⟨oa2,ht2⟩:=othb oa ht1.symm;have H'':=(H'.same ba na).same bb nb;refine hK' v1 v2 sb ⟨l'',i'',c2,g,ks++[ent ks'],xs++[x6],_,_,H'',xb,by omega,by omega,by omega,by omega,by rw[List.length_append];simp only[List.length_singleton];omega,by rw[List.length_append];simp only[List.length_singleton];omega,?_,hkc.append (entR hkv),?_,hvc.snoc hvl,ht2.symm,by rw[Vs];exact hr⟩ ?_
   ·rw[List.length_append];exact oa2
   ·rw[List.length_append];exact ob
   ·rw[IF H'',IF H2]
    have:=H'.hi;omega
  refine Ab (λg8=>?_) λg8=>?_
  ·--a comma
   have g8':¬t8=[93]:=g8;rw[if_neg g8']at hrem;have hpu:CK s i3 [44]=if k8≠4∨t8≠ [44]then .error (i3,3)else .ok ():=by unfold CK;rw[hs8]
   refine G5 (x:=[44]) H8 hl (ex x28) hb (λp hp=>?_) λst9 hp9 hle9 H9 x9=>?_
   ·rw[hpu]at hp
    split at hp
    ·rename_i hc8
     rw[if_pos hc8]at hrem;cases hp;exact he _ (by rw[hrem];rfl)
    ·cases hp
   ·rw[hpu]at hp9
    split at hp9
    ·cases hp9
    ·rename_i hc8
     rw[if_neg hc8]at hrem;have x29:=x28.trans x9;have hM:KdR .nilSlice []:=KdR.nil;refine Aa rfl ?_;have hfull:Own st.nt 5 st9 (.list 5 .full 1 [.int .i64 k6,.str ld6,.str tx6,kv6,.str tl6]) 1 [.int .i64 k6,.str ld6,.str tx6,kv6,.str tl6]:=Own.full _ _ _ _ _;refine JO x29 hfull (by omega) (λh=>by cases h) λv15 st10 x10 b10 n10 o10 oth10=>Aa (by simp[o10.rd.one]) (Aa (OO o10.rd.one) ?_);obtain⟨ok10,_⟩:=oth10 (ok8.extX x9) (λid h=>by cases h);obtain⟨ov10,_⟩:=oth10 (ov8.extX x9) (λid h=>by cases h);have hk15:KdR v15 [.mk k6 ld6 tx6 ks6 tl6,mrk (sl s i2 i3) [44]]:=⟨_,o10.rd,(Bi.one hN6).append (Bi.one (hM.nd 11 (sl s i2 i3) [44] []))⟩;refine grow (l'':=i3+1) (i'':=i3+1) hk15 (H9.same b10 n10) x10 ok10 ov10 (by omega) ?_ λv6' v8' st'' h1 h2=>⟨⟨rfl,rfl,rfl,rfl,rfl,rfl,rfl,rfl,rfl,rfl,rfl,rfl,rfl,rfl,rfl,rfl,rfl,h1⟩,h2⟩;rw[hrem];cases arF s L g d (i3+1) (i3+1) c2<;>rfl
  ·--the closing bracket is next
   have g8':t8=[93]:=Decidable.not_not.1 g8;rw[if_pos g8']at hrem;have hk15:KdR (.list 5 .full 1 [.int .i64 k6,.str ld6,.str tx6,kv6,.str tl6]) [.mk k6 ld6 tx6 ks6 tl6]:=⟨_,.inr ⟨_,rfl⟩,Bi.one hN6⟩;refine grow (l'':=i2) (i'':=i3) hk15 H8 x28 ok8 ov8 (Nat.le_refl _) ?_ λv6' v8' st'' h1 h2=>⟨⟨rfl,rfl,rfl,rfl,rfl,rfl,rfl,rfl,rfl,rfl,rfl,rfl,rfl,rfl,rfl,rfl,rfl,h1⟩,h2⟩;rw[hrem];cases arF s L g d i2 i3 c2<;>rfl
end
end
section
theorem StX.new {S T:Nat->Prop} {a b c:St} (h:StX S a b) (k:StX T b c) (hs:∀i,T i->S i∨a.nb<=i):StX S a c:=
 ⟨Nat.le_trans h.nb k.nb,λi hi hn=>(k.box i (Nat.lt_of_lt_of_le hi h.nb) λg=>by rcases hs i g with g' | g';exact hn g';omega).trans (h.box i hi hn),Nat.le_trans h.nt k.nt,
  λi hi=>(k.live i (Nat.lt_of_lt_of_le hi h.nt)).trans (h.live i hi),λi hi=>(k.ty i (Nat.lt_of_lt_of_le hi h.nt)).trans (h.ty i hi),λi hi=>(k.bt i (Nat.lt_of_lt_of_le hi h.nb)).trans (h.bt i hi)⟩
def imF (s:B8) (L:LmT) (f d i c:Nat):Except EP (List Nd×List Fd×B8×Nat×Nat):=
 match sk s false (i+1)with
 | .error e=> .error e
 | .ok i1=>match see s i1 with
  | .error e=> .error e
  | .ok (_,t1)=>if t1=[125]then .ok ([],[],sl s (i+1) i1++[125],i1+1,c)else inF s L f d [] (sl s (i+1) i1) i1 c
section
variable {E:TV->St->Prop} {b:Nat} {s:B8} {L:LmT} {y:Int×Int×Int} {i l c:Nat} {tl:List TV} {st0 st:St}
theorem vlM {fs:List Fd} {uf:TV} {cells:List TV} (h1:Rd 14 uf fs.length cells) (h2:FsR St.zero fs cells):VlR St.zero (.mk scM [] fs) (AQ scM .nilSlice .nilSlice uf):=by
 unfold VlR;exact⟨.nilSlice,.nilSlice,uf,[],cells,rfl,.of_rd (.inl ⟨rfl,rfl,rfl⟩),.of_rd (.inl ⟨rfl,rfl,rfl⟩),by unfold VsR;rfl,.of_rd h1,h2⟩
set_option maxHeartbeats 4000000 in
theorem Xg {f d:Nat} {D:Int} {K:K18} (IH:∀g,g<f->ZT E st0 s L y g) (hD:D=(d:Nat)) (H:PSB b s L y i l c tl st) (hl:s.length<=1000000) (hL:L.d<=1000) (e0:Ag st0 st) (hb:st0.nb<=b)
  (hf:2*(s.length-(i+1))+1<=f) (hc:c<=i+2) (hd:(d:Int)<=L.d) (hi1:i+1<=s.length) (htx:sl s i (i+1)=[123])
  (he:∀p,imF s L f d i c= .error p->Fl E st0 p)
  (hk:∀ks fs tlx j c' kv uf st',imF s L f d i c= .ok (ks,fs,tlx,j,c')->KdR kv ks->VlR St.zero (.mk scM [] fs) (AQ scM .nilSlice .nilSlice uf)->PSB b s L y j j c' tl st'->StX (·=b) st st'->
   K 4 (sl s l i) [123] kv tlx 7 false false [] 0 0 0 0 0 [] .nilSlice .nilSlice uf st'):
  Bz E PR DQ [.box b 0,.int .i64 D] [.agg [.int .i64,.str,.str,.tv,.str],.agg [.int .i64,.bool,.bool,.str,.int .i64,.int .i64,.int .i64,.int .i64,.int .i64,.str,.tv,.tv,.tv]] st K:=by
 subst hD;have w1:IntKind.wrap .i64 ((d:Int)+1)=((d+1:Nat):Int):=by rw[Ah _ (by omega) (by omega)];omega
 have ex:∀{st1:St},StX (·=b) st st1->Ag st0 st1:=λx=>x.out e0 λk hk=>by rw[hk];exact hb
 refine J1 E b d st K (CallT.x (Hk (n:=1) H rfl hl hi1 λst1 H1 x1=>Aa rfl ?_));rw[htx];have xp:StX (·=b) st (st1.push (.map []) none):=x1.trans (StX.of ((Ag.refl st1).push _ _));have Hp:PSB b s L y (i+1) (i+1) c tl (st1.push (.map []) none):=H1.ext ((Ag.refl st1).push _ _);have hmb:st1.nb≠b:=by have:=H1.lt;omega
 have hmn:st.nb<=st1.nb:=x1.nb;have seen0:L8 (st1.push (.map []) none) st1.nb []:=⟨by simp[St.push],[],by simp[St.push],λk=>by simp[AG]⟩;unfold imF at he hk;refine Eb Hp hl (ex xp) hb (λp hp=>he p (by rw[hp])) λi1 st2 hs1 H2 x2=>?_;rw[hs1]at he hk;simp only at he hk;have hi1':=Bo Hp.hi hs1;have xp2:=xp.trans x2;have seen2:=seen0.ext x2 hmb;refine F8 H2 hl (ex xp2) (λp hp=>he p (by rw[hp])) λk t st3 hs2 e3=>?_;rw[hs2]at he hk;simp only at he hk;have ht:=Bd H2.hi hs2;have H3:=H2.ext e3;have x3:=xp2.trans (StX.of e3);have seen3:=seen2.ext (S:=λ_=>False) (StX.of e3) (λh=>h);refine Ab (λg1=>?_) λg1=>?_
 ·--nothing in it
  have g1':t=[125]:=g1;subst g1';simp only[if_true,List.length_singleton]at he hk ht;refine CallT.x (KB H3 hl (by omega) λst5 H5 x5=>?_);rw[<-ht.2.2.2];exact Aa rfl (hk [] [] _ (i1+1) c .nilSlice .nilSlice st5 rfl KdR.nil (vlM (.inl ⟨rfl,rfl,rfl⟩) (by unfold FsR;rfl)) H5 (x3.trans x5))
 have g1':¬t=[125]:=g1;simp only[if_neg g1']at he hk;refine⟨λv D' m _ _ _ _ _ _ _ _ _ _ _ _ _ _ _ _ _ _ n9 s9 s10 v6 s11 n10 b3 b4 s12 n11 n12 n13 n14 n15 s13 v7 v8 v9 st5=> .box b 0=v/\(d:Int)=D'/\TV.map st1.nb=m/\4=n9/\sl s l i=s9/\[123]=s10/\7=n10/\false=b3/\false=b4/\[]=s12/\0=n11/\0=n12/\0=n13/\0=n14/\0=n15/\[]=s13/\TV.nilSlice=v7/\TV.nilSlice=v8/\
   ∃(l' i' c' f':Nat) (seen:List B8) (ks:List Nd) (fs:List Fd) (kc vc:List TV),PSB b s L y i' l' c' tl st5/\StX (·=b) st st5/\L8 st5 st1.nb seen/\i+1<=i'/\2*(s.length-i')+1<=f'/\f'<=f/\c'<=i'+1/\ks.length<=i'/\fs.length<=i'/\Own st.nt 5 st5 v6 ks.length kc/\Bi ks kc/\Own st.nt 14 st5 v9 fs.length vc/\FsR St.zero fs vc/\LN v6 v9/\
    inF s L f d [] (sl s (i+1) i1) i1 c=Pn ks fs (inF s L f' d seen (sl s l' i') i' c'),
  λ_ _ _ _ _ _ _ _ _ _ _ _ _ _ _ _ _ _ _ _ _ _ _ _ _ _ _ _ _ _ _ _ _ _ _ _ _ _ _ st5=>atM b s st5,
  ⟨rfl,rfl,rfl,rfl,rfl,rfl,rfl,rfl,rfl,rfl,rfl,rfl,rfl,rfl,rfl,rfl,rfl,rfl,i+1,i1,c,f,[],[],[],[],[],H3,x3,seen3,by omega,by omega,Nat.le_refl _,by omega,by simp,by simp,Own.nil _ _ _,Bi.nil,Own.nil _ _ _,by unfold FsR;rfl,LN.nil _,(Vr _).symm⟩,?_⟩
 rintro _ _ _ _ _ _ _ _ _ _ _ _ _ _ _ _ _ _ _ _ _ _ _ _ v6 s11 _ _ _ _ _ _ _ _ _ _ _ _ v9 st5 ⟨rfl,rfl,rfl,rfl,rfl,rfl,rfl,rfl,rfl,rfl,rfl,rfl,rfl,rfl,rfl,rfl,rfl,rfl,l',i',c',f',seen,ks,fs,kc,vc,H5,x5,hseen,hii,hf',hff,hc',hks,hfs,ok,hkc,ov,hvc,htip,hrem⟩;obtain⟨g,rfl⟩:∃g,f'=g+1:=⟨f'-1,by omega⟩;rw[inF]at hrem;have hhi:=H5.hi;have hle:=H5.le;refine Aab H5 hseen hmb hl (ex x5) hb (λp hp=>?_) λk6 t6 key st6 hs6 hfk hlen hin hseen6 H6 x6'=>?_
 ·rcases hp with⟨k,t,h1,h2⟩ | h1
  ·refine he p ?_
   rw[hrem,h1];simp only;rcases h2 with⟨h2,rfl⟩ | ⟨key,h2,⟨h3,rfl⟩ | ⟨h3,h4,rfl⟩⟩
   ·rw[h2];rfl
   ·rw[h2];simp only;rw[if_pos h3];rfl
   ·rw[h2];simp only;rw[if_neg h3,if_pos h4];rfl
  ·exact he p (by rw[hrem,h1];rfl)
 rw[hs6]at hrem;simp only[hfk,if_neg hlen,if_neg hin]at hrem;have ht6:=Bd hhi hs6;have sb:∀{x:Nat},x=b∨x=st1.nb->x=b∨st.nb<=x:=λh=>h.imp id λh=>by omega
 have xx6:=x5.new x6' λ_ h=>sb h;refine Aa rfl ?_;refine Eb H6 hl (ex xx6) hb (λp hp=>he p (by rw[hrem,hp];rfl)) λi3 st7 hs7 H7 x7=>?_;rw[hs7]at hrem;simp only at hrem;have hi3:=Bo H6.hi hs7;have xx7:=xx6.trans x7;refine G5 (x:=[61]) H7 hl (ex xx7) hb (λp hp=>he p (by rw[hrem,hp];rfl)) λst8 hp8 hle8 H8 x8=>?_;rw[hp8]at hrem;simp only[List.length_singleton]at hrem hle8 H8;have xx8:=xx7.trans x8;refine Aa rfl ?_;refine Eb H8 hl (ex xx8) hb (λp hp=>he p (by rw[hrem,hp];rfl)) λi5 st9 hs9 H9 x9=>?_;rw[hs9]at hrem;simp only at hrem;have hi5:=Bo H8.hi hs9;have xx9:=xx8.trans x9;show Bz E PR BI [.box b 0,.int .i64 (IntKind.wrap .i64 ((d:Int)+1))] _ st9 _;rw[w1];refine IH g (by omega) b (d+1) (i3+1) i5 c' tl st9 _ _ rfl H9 (ex xx9) hb (by omega) (by omega) (λp hp=>he p (by rw[hrem,hp];rfl)) λkN ldN txN ksN tlN kvN x ub ul uf i6 c2 st10 hv10 hkN hvl H10 x10=>?_;rw[hv10]at hrem;simp only at hrem;have hp10:=(Iq s L g).1 _ _ _ _ _ _ _ _ H9.hi hv10;have xx10:=xx9.trans x10;have ho:=Je hvl;have hNN:=hkN.nd kN ldN txN tlN;have hKK:NdC (.mk 6 (sl s l' i') t6 [] []) [.int .i64 6,.str (sl s l' i'),.str t6,.nilSlice,.str []]:=KdR.nil.nd _ _ _ _;have hMM:NdC (mrk (sl s (i'+t6.length) i3) [61]) [.int .i64 11,.str (sl s (i'+t6.length) i3),.str [61],.nilSlice,.str []]:=KdR.nil.nd _ _ _ _;have VA:List.all (TV.str key::AQ x.sc ub ul uf) Av=true:=by
  show(true&&List.all (AQ x.sc ub ul uf) Av)=true;rw[show List.all (AQ x.sc ub ul uf) Av=true from Ee ho.1 ho.2.1 ho.2.2];rfl
 refine Aa (OO hkN.one) (Aa (Ee ho.1 ho.2.1 ho.2.2) (Aa VA ?_));have ok10:Own st.nt 5 st10 v6 ks.length kc:=(((((ok.extX x6').extX x7).extX x8).extX x9).extX x10);have ov10:Own st.nt 14 st10 v9 fs.length vc:=(((((ov.extX x6').extX x7).extX x8).extX x9).extX x10);refine JO xx10 ov10 (by omega) (λh=>by cases h) λv16 st11 x11 b11 n11 o11 oth11=>Aa (by simp[o11.rd.one]) ?_;obtain⟨ok11,tp11⟩:=oth11 ok10 htip.symm;have hF11:FsR St.zero (fs++[.mk key x]) (vc++ .str key::AQ x.sc ub ul uf):=hvc.snoc (by unfold FdR;exact⟨_,rfl,hvl⟩);have H11:=H10.same b11 n11;refine Eb H11 hl (ex x11) hb (λp hp=>he p (by rw[hrem,hp];rfl)) λi7 st12 hs12 H12 x12=>?_;rw[hs12]at hrem;simp only at hrem;have hi7:=Bo H11.hi hs12;have xx12:=x11.trans x12;refine F8 H12 hl (ex xx12) (λp hp=>he p (by rw[hrem,hp];rfl)) λk13 t13 st13 hs13 e13=>?_;rw[hs13]at hrem;simp only at hrem;have ht13:=Bd H12.hi hs13;have H13:=H12.ext e13;have xx13:=xx12.trans (StX.of e13);have ok13:Own st.nt 5 st13 v6 ks.length kc:=(ok11.extX x12).extX (StX.of e13 (S:=λ_=>False));have o13:Own st.nt 14 st13 v16 (fs.length+1) (vc++ .str key::AQ x.sc ub ul uf):=(o11.extX x12).extX (StX.of e13 (S:=λ_=>False));have k3:Bi [.mk 6 (sl s l' i') t6 [] [],mrk (sl s (i'+t6.length) i3) [61],.mk kN ldN txN ksN tlN] [.int .i64 6,.str (sl s l' i'),.str t6,.nilSlice,.str [],.int .i64 11,.str (sl s (i'+t6.length) i3),.str [61],.nilSlice,.str [],.int .i64 kN,.str ldN,.str txN,kvN,.str tlN]:=
  (Bi.one hKK).append ((Bi.one hMM).append (Bi.one hNN))
 refine Ab (λg13=>?_) λg13=>?_
 ·--the closing brace
  have g13':t13=[125]:=g13;subst g13';rw[if_pos rfl]at hrem;simp only[List.length_singleton]at ht13;have hkd:KdR (.list 5 .full 3 [.int .i64 6,.str (sl s l' i'),.str t6,.nilSlice,.str [],.int .i64 11,.str (sl s (i'+t6.length) i3),.str [61],.nilSlice,.str [],.int .i64 kN,.str ldN,.str txN,kvN,.str tlN]) [.mk 6 (sl s l' i') t6 [] [],mrk (sl s (i'+t6.length) i3) [61],.mk kN ldN txN ksN tlN]:=⟨_,.inr ⟨_,rfl⟩,k3⟩;refine JO xx13 ok13 (by omega) (λh=>by cases h) λv17 st14 x14 b14 n14 o14 oth14=>Aa (by simp[o14.rd.one]) ?_;obtain⟨o14',_⟩:=oth14 o13 tp11.symm;refine CallT.x (KB (H13.same b14 n14) hl (by omega) λst15 H15 x15=>?_);rw[<-ht13.2.2.2];have hkr:KdR v17 (ks++[ent [.mk 6 (sl s l' i') t6 [] [],mrk (sl s (i'+t6.length) i3) [61],.mk kN ldN txN ksN tlN]]):=⟨_,by rw[List.length_append];exact o14.rd,hkc.append (Bi.one (hkd.nd 5 [] [] []))⟩;have hv:=vlM (fs:=fs++[.mk key x]) (by rw[List.length_append];exact o14'.rd) hF11;have hov:=Je (v:= .mk scM [] (fs++[.mk key x])) hv;refine Aa (OO hkr.one) (Aa (Ee rfl rfl hov.2.2) (hk _ _ _ (i7+1) c2 v17 v16 st15 (by rw[hrem];rfl) hkr hv H15 (x14.trans x15)))
 ·--a comma
  have g13':¬t13=[125]:=g13;rw[if_neg g13']at hrem;have hpu:CK s i7 [44]=if k13≠4∨t13≠ [44]then .error (i7,3)else .ok ():=by unfold CK;rw[hs13]
  refine G5 (x:=[44]) H13 hl (ex xx13) hb (λp hp=>?_) λst16 hp16 hle16 H16 x16=>?_
  ·rw[hpu]at hp
   split at hp
   ·rename_i hc8
    rw[if_pos hc8]at hrem;cases hp;exact he _ (by rw[hrem];rfl)
   ·cases hp
  ·rw[hpu]at hp16
   split at hp16
   ·cases hp16
   ·rename_i hc8
    rw[if_neg hc8]at hrem;simp only[List.length_singleton]at hle16 H16;have xx16:=xx13.trans x16;refine Aa rfl ?_;have hfull:Own st.nt 5 st16 (.list 5 .full 3 [.int .i64 6,.str (sl s l' i'),.str t6,.nilSlice,.str [],.int .i64 11,.str (sl s (i'+t6.length) i3),.str [61],.nilSlice,.str [],.int .i64 kN,.str ldN,.str txN,kvN,.str tlN]) 3 _:=Own.full _ _ _ _ _;refine JO xx16 hfull (by omega) (λh=>by cases h) λv19 st17 x17 b17 n17 o17 oth17=>Aa (by simp[o17.rd.one]) (Aa (OO o17.rd.one) ?_);obtain⟨ok17,_⟩:=oth17 (ok13.extX x16) (λid h=>by cases h);obtain⟨ov17,_⟩:=oth17 (o13.extX x16) (λid h=>by cases h);have hk19:KdR v19 [.mk 6 (sl s l' i') t6 [] [],mrk (sl s (i'+t6.length) i3) [61],.mk kN ldN txN ksN tlN,mrk (sl s i6 i7) [44]]:=⟨_,o17.rd,k3.append (Bi.one (KdR.nil.nd 11 (sl s i6 i7) [44] []))⟩;refine JO x17 ok17 (by omega) (λh=>by cases h) λv20 st18 x18 b18 n18 o18 oth18=>Aa (by simp[o18.rd.one]) ?_;obtain⟨ov18,tp18⟩:=oth18 ov17 tp11.symm;have H18:=(H16.same b17 n17).same b18 n18;refine Eb H18 hl (ex x18) hb (λp hp=>he p (by rw[hrem,hp];rfl)) λi9 st19 hs19 H19 x19=>?_;rw[hs19]at hrem;simp only at hrem;have hi9:=Bo H18.hi hs19;have s7:=hseen6.ext x7 hmb;have s10:=((s7.ext x8 hmb).ext x9 hmb).ext x10 hmb;have s11:L8 st11 st1.nb (seen++[key]):=by obtain⟨q1,q2⟩:=s10;exact⟨by rw[n11];exact q1,by rw[b11];exact q2⟩
    have s16:=((s11.ext x12 hmb).ext (S:=λ_=>False) (StX.of e13) (λh=>h)).ext x16 hmb;have s18:L8 st18 st1.nb (seen++[key]):=by obtain⟨q1,q2⟩:=s16;exact⟨by rw[n18,n17];exact q1,by rw[b18,b17];exact q2⟩
    refine⟨⟨rfl,rfl,rfl,rfl,rfl,rfl,rfl,rfl,rfl,rfl,rfl,rfl,rfl,rfl,rfl,rfl,rfl,rfl,i7+1,i9,c2,g,seen++[key],ks++[ent [.mk 6 (sl s l' i') t6 [] [],mrk (sl s (i'+t6.length) i3) [61],.mk kN ldN txN ksN tlN,mrk (sl s i6 i7) [44]]],fs++[.mk key x],_,_,H19,x18.trans x19,s18.ext x19 hmb,by omega,by omega,by omega,by omega,
     by rw[List.length_append];simp only[List.length_singleton];omega,by rw[List.length_append];simp only[List.length_singleton];omega,?_,hkc.append (Bi.one (hk19.nd 5 [] [] [])),?_,hF11,tp18,?_⟩,?_⟩
    ·rw[List.length_append];exact o18.extX x19
    ·rw[List.length_append];exact ov18.extX x19
    ·rw[hrem,Vs]
     congr 1;cases inF s L g d (seen++[key]) (sl s (i7+1) i9) i9 c2<;>rfl
    ·dsimp only
     rw[IF H19,IF H5];omega
end
end
section
section
variable {E:TV->St->Prop} {s:B8} {L:LmT} {y:Int×Int×Int} {st0:St}
theorem vlS (x:Sc) (h:x.bytes=[]):VlR St.zero (.mk x [] []) (AQ x .nilSlice .nilSlice .nilSlice):=by
 unfold VlR;exact⟨.nilSlice,.nilSlice,.nilSlice,[],[],rfl,.of_rd (.inl ⟨rfl,by rw[h];rfl,by rw[h];rfl⟩),.of_rd (.inl ⟨rfl,rfl,rfl⟩),by unfold VsR;rfl,.of_rd (.inl ⟨rfl,rfl,rfl⟩),by unfold FsR;rfl⟩
set_option maxHeartbeats 2000000 in
theorem Z5 (hl:s.length<=1000000) (hL:L.d<=1000):∀f,ZT E st0 s L y f:=by
 intro f;induction f using Nat.strongRecOn with
 | _ f ih=>
 intro b d l i c tl st D K hD H e0 hb hf hc he hk;subst hD;obtain⟨g,rfl⟩:∃g,f=g+1:=⟨f-1,by omega⟩;have ex:∀{st1:St},StX (·=b) st st1->Ag st0 st1:=λx=>x.out e0 λk hk=>by rw[hk];exact hb
 have IH:∀q,q<g->ZT E st0 s L y q:=λq hq=>ih q (by omega);rw[pvF]at he hk;refine Kd E b d st K (F8 H hl e0 (λp hp=>he p (by rw[hp])) λk t st1 hs e1=>?_);rw[hs]at he hk;simp only at he hk;have ht:=Bd H.hi hs;have H1:=H.ext e1;have x1:StX (·=b) st st1:=StX.of e1;have hle:=H.le;refine Ab (λg1=>?s1) λg1=>Ab (λg2=>?s2) λg2=>Ab (λg3=>?ca) λg3=>Ab (λg4=>?cm) λg4=>?cx
 case s1 | s2=>
  have hw:HN k:=by first | exact .inl g1 | exact .inr g2
  rw[if_pos hw]at he;simp only[if_pos hw]at hk;refine CallT.x (Xa (by omega) λst2 e2=>?_);unfold KS;have H2:=H1.ext e2;have x2:=x1.trans (StX.of e2);refine Aa rfl (Ab (λg5=>?_) λg5=>?_)
  ·rw[if_pos g5]at he
   rw[g5];exact Ac (Ay H2.bx 6 rfl) (Bs rfl (ex x2) (he _ rfl))
  ·rw[if_neg g5]at he
   simp only[if_neg g5]at hk;refine Ac (Ay H2.bx 6 rfl) (IV H2 rfl rfl (by omega) (ex x2) (λp hp=>he p (by rw[hp])) λst3 hb3 H3 x3=>?_);rw[hb3]at he;simp only[hb3]at he hk;have x23:=x2.trans x3;refine Ab (λg6=>?_) λg6=>?_
   ·rw[if_pos g6]at he
    exact Ac (Ay H3.bx 6 rfl) (Bs rfl (ex x23) (he _ rfl))
   ·simp only[if_neg g6]at hk
    refine CallT.x (Hk H3 rfl hl ht.2.2.1 λst4 H4 x4=>Aa rfl (Aa rfl ?_));rw[<-ht.2.2.2];exact hk 2 (sl s l i) t [] [] .nilSlice (.mk (scS t).1 [] []) .nilSlice .nilSlice .nilSlice (i+t.length) (c+1) st4 rfl KdR.nil (vlS _ (Sq t)) H4 (x23.trans x4)
 case ca=>
  have hw:¬HN k:=λh=>h.elim g1 g2;have ht':t=[91]:=g3;subst ht';rw[if_neg hw,if_pos rfl]at he;simp only[if_neg hw,if_true,List.length_singleton]at hk ht;refine Ac (Ay H1.bx 6 rfl) (IV H1 rfl rfl (by omega) (ex x1) (λp hp=>he p (by rw[hp])) λst2 hb2 H2 x2=>?_);have hbo:=Fa hb2;rw[hb2]at he;simp only[hb2]at he hk;have x12:=x1.trans x2;refine Aae IH rfl H2 hl hL (ex x12) hb (by omega) (by omega) hbo.2.1 ht.2.2.1 ht.2.2.2.symm (λp hp=>he p (by rw[hp])) λks xs tlx j c' kv ul st3 ha hkr hv H3 x3=>?_;have hov:=Je (v:= .mk scL xs []) hv;exact Aa (OO hkr.one) (Aa (Ee rfl hov.2.1 rfl) (hk 3 (sl s l i) [91] ks tlx kv (.mk scL xs []) .nilSlice ul .nilSlice j c' st3 (by rw[ha]) hkr hv H3 (x12.trans x3)))
 case cm=>
  have hw:¬HN k:=λh=>h.elim g1 g2;have ht':t=[123]:=g4;subst ht';rw[if_neg hw,if_neg (by decide),if_pos rfl]at he;simp only[if_neg hw,if_true,List.length_singleton]at hk ht;rw[if_neg (show ¬([123]:B8)=[91] by decide)]at hk;refine Ac (Ay H1.bx 6 rfl) (IV H1 rfl rfl (by omega) (ex x1) (λp hp=>he p (by rw[hp])) λst2 hb2 H2 x2=>?_);have hbo:=Fa hb2;rw[hb2]at he;simp only[hb2]at he hk;have x12:=x1.trans x2;have hm:∀r,imF s L g d i (c+1)=r->(match sk s false (i+1)with
    | .error e=>(.error e:Except EP (Nd×Vl×Nat×Nat))
    | .ok i1=>match see s i1 with
     | .error e=> .error e
     | .ok (_,t1)=>if t1=[125]then .ok (.mk 4 (sl s l i) [123] [] (sl s (i+1) i1++[125]),.mk scM [] [],i1+1,c+1)
      else match inF s L g d [] (sl s (i+1) i1) i1 (c+1)with
       | .error e=> .error e
       | .ok (ks,xs,tl,j,c2)=> .ok (.mk 4 (sl s l i) [123] ks tl,.mk scM [] xs,j,c2))=match r with
    | .error e=> .error e
    | .ok (ks,xs,tl,j,c2)=> .ok (.mk 4 (sl s l i) [123] ks tl,.mk scM [] xs,j,c2):=by
   intro r hr;subst hr;unfold imF;cases sk s false (i+1)with
   | error e=>rfl
   | ok i1=>
    simp only;cases see s i1 with
    | error e=>rfl
    | ok p=>
     obtain⟨k1,t1⟩:=p;simp only;split<;>rfl
  refine Xg IH rfl H2 hl hL (ex x12) hb (by omega) (by omega) hbo.2.1 ht.2.2.1 ht.2.2.2.symm (λp hp=>he p ?_) λks fs tlx j c' kv uf st3 ha hkr hv H3 x3=>?_
  ·exact(hm _ hp).trans rfl
  ·have hov:=Je (v:= .mk scM [] fs) hv
   exact Aa (OO hkr.one) (Aa (Ee rfl rfl hov.2.2) (hk 4 (sl s l i) [123] ks tlx kv (.mk scM [] fs) .nilSlice .nilSlice uf j c' st3 ((hm _ ha).trans rfl) hkr hv H3 (x12.trans x3)))
 case cx=>
  have hw:¬HN k:=λh=>h.elim g1 g2;rw[if_neg hw,if_neg (show ¬t=[91]from g3),if_neg (show ¬t=[123]from g4)]at he;exact Ac (Ay H1.bx 6 rfl) (Bs rfl (ex x1) (he _ rfl))
end
end
def EnQ (st:St) (eb:Nat):ShE->Prop
 | .opn b=>st.box eb= .cells [.box b 0,.nilPtr]
 | .lst bs=>bs≠ []/\st.box eb= .cells [.nilPtr,.box (bs.getLastD 0) 0]
 | .clo _ _=>st.box eb= .cells [.nilPtr,.nilPtr]
structure ShQ (st:St) (s:Sh):Prop where
 cell:st.box s.b= .cells [.map s.m,.int .i64 s.d,.bool s.hd]
 mp:∃mp,st.box s.m= .map mp/\∀k,AG k mp=(EQ k s.es).map λp=> .box p.1 0
 en:∀x,x∈s.es->EnQ st x.2.1 x.2.2
structure HQ (n:Nat) (st:St) (L:List Sh):Prop where
 nd:(bxL L).Nodup
 lt:∀x,x∈bxL L->n<=x/\x<st.nb
 sh:∀s,s∈L->ShQ st s
theorem EnQ.fr {st st':St} {eb:Nat} {e:ShE} (h:EnQ st eb e) (hb:st'.box eb=st.box eb):EnQ st' eb e:=by
 cases e with
 | opn b=>unfold EnQ at h⊢;rw[hb];exact h
 | lst bs=>unfold EnQ at h⊢;rw[hb];exact h
 | clo v i=>unfold EnQ at h⊢;rw[hb];exact h
theorem ShQ.fr {st st':St} {s:Sh} (h:ShQ st s) (hb:∀x,x∈bxS s->st'.box x=st.box x):ShQ st' s:=
 ⟨by rw[hb s.b (.head _)];exact h.cell,by rw[hb s.m (.tail _ (.head _))];exact h.mp,λx hx=>(h.en x hx).fr (hb _ (Dx hx))⟩
theorem HQ.fr {n:Nat} {st st':St} {L:List Sh} (h:HQ n st L) (hn:st.nb<=st'.nb) (hb:∀x,x∈bxL L->st'.box x=st.box x):HQ n st' L:=
 ⟨h.nd,λx hx=>⟨(h.lt x hx).1,Nat.lt_of_lt_of_le (h.lt x hx).2 hn⟩,λs hs=>(h.sh s hs).fr λx hx=>hb x (Bw hs hx)⟩
theorem HQ.ne {n:Nat} {st:St} {L:List Sh} (h:HQ n st L):NeL L:=λs hs x hx bs hb=>by
 have:=(h.sh s hs).en x hx;rw[hb]at this;exact this.1
theorem HQ.upd {n:Nat} {st st':St} {A X X' B:List Sh} (h:HQ n st (A++(X++B))) (hn:n<=st.nb) (hnb:st.nb<=st'.nb) (hbx:∀x,x∈bxL A∨x∈bxL B->st'.box x=st.box x)
  (hX:∀s,s∈X'->ShQ st' s) (hnd:(bxL X').Nodup) (hnew:∀x,x∈bxL X'->x<st'.nb/\(x∈bxL X∨st.nb<=x)):HQ n st' (A++(X'++B)):=by
 obtain⟨n1,n2,n3⟩:=EO h.nd;have mA:∀{x},x∈bxL A->x∈bxL (A++(X++B)):=λhx=>by rw[Ap];exact List.mem_append_left _ hx
 have mB:∀{x},x∈bxL B->x∈bxL (A++(X++B)):=λhx=>by rw[Ap,Ap];exact List.mem_append_right _ (List.mem_append_right _ hx)
 have mX:∀{x},x∈bxL X->x∈bxL (A++(X++B)):=λhx=>by rw[Ap,Ap];exact List.mem_append_right _ (List.mem_append_left _ hx)
 have dAB:∀{x},x∈bxL X'->¬(x∈bxL A∨x∈bxL B):=λ{x} hx hm=>by
  rcases (hnew x hx).2 with h1 | h1
  ·exact hm.elim (n3 x h1).1 (n3 x h1).2
  ·have:=(h.lt x (hm.elim mA mB)).2;omega
 have spl:∀{x},x∈bxL (A++(X'++B))->(x∈bxL A∨x∈bxL B)∨x∈bxL X':=λ{x} hx=>by
  rw[Ap,Ap]at hx;rcases List.mem_append.1 hx with h1 | h1
  ·exact .inl (.inl h1)
  ·rcases List.mem_append.1 h1 with h2 | h2
   ·exact .inr h2
   ·exact .inl (.inr h2)
 refine⟨?_,λx hx=>?_,λs hs=>?_⟩
 ·rw[Ap,Ap]
  obtain⟨a1,a2,a3⟩:=List.nodup_append.1 n1;refine List.nodup_append.2 ⟨a1,List.nodup_append.2 ⟨hnd,a2,λx hx y hy e=>dAB hx (.inr (by rw[e];exact hy))⟩,λx hx y hy e=>?_⟩;rcases List.mem_append.1 hy with h1 | h1
  ·exact dAB h1 (.inl (by rw[<-e];exact hx))
  ·exact a3 x hx y h1 e
 ·rcases spl hx with h1 | h1
  ·have:=h.lt x (h1.elim mA mB)
   exact⟨this.1,Nat.lt_of_lt_of_le this.2 hnb⟩
  ·refine⟨?_,(hnew x h1).1⟩
   rcases (hnew x h1).2 with h2 | h2
   ·exact(h.lt x (mX h2)).1
   ·exact Nat.le_trans hn h2
 ·rcases List.mem_append.1 hs with h1 | h1
  ·exact(h.sh s (List.mem_append_left _ h1)).fr λx hx=>hbx x (.inl (Bw h1 hx))
  ·rcases List.mem_append.1 h1 with h2 | h2
   ·exact hX s h2
   ·exact(h.sh s (List.mem_append_right _ (List.mem_append_right _ h2))).fr λx hx=>hbx x (.inr (Bw h2 hx))
theorem HQ.at {n:Nat} {st:St} {T t:Tb} {h:List Hop} (H:HQ n st (shT 1 T)) (hA:atT T h=some t):HQ n st (shT (1+dpH h) t)/\∀x,x∈bxL (shT (1+dpH h) t)->x∈bxL (shT 1 T):=by
 obtain⟨A,B,h1,h2⟩:=Hm h hA 1;rw[h1]at H;obtain⟨n1,n2,n3⟩:=EO H.nd;have m:∀x,x∈bxL (shT (1+dpH h) t)->x∈bxL (A++(shT (1+dpH h) t++B)):=λx hx=>by rw[Ap,Ap];exact List.mem_append_right _ (List.mem_append_left _ hx)
 exact⟨⟨n2,λx hx=>H.lt x (m x hx),λs hs=>H.sh s (List.mem_append_right _ (List.mem_append_left _ hs))⟩,λx hx=>by rw[h1];exact m x hx⟩
theorem Kq (d:Nat) (t:Tb):t.b∈bxL (shT d t)/\t.m∈bxL (shT d t):=by
 rw[BP,Az];exact⟨List.mem_append_left _ (.head _),List.mem_append_left _ (.tail _ (.head _))⟩
theorem Hq {k:B8} {eb:Nat} {e:En}:∀{es:List Kn},Aj k es=some (eb,e)->Kn.mk k eb e∈es
 | .mk k' eb' e'::r,h=>by
  unfold Aj at h;split at h
  ·rename_i hk;cases h;subst hk;exact .head _
  ·exact .tail _ (Hq h)
theorem HQ.tab {n d:Nat} {st:St} {t:Tb} (H:HQ n st (shT d t)):st.box t.b= .cells [.map t.m,.int .i64 d,.bool t.hd]/\∃mp,st.box t.m= .map mp/\(∀k,AG k mp=(Aj k t.es).map λp=> .box p.1 0)/\∀k eb e,Aj k t.es=some (eb,e)->EnQ st eb (shE e)/\eb∈bxL (shT d t):=by
 have h:=H.sh ⟨t.b,t.m,t.hd,d,t.es.map shK⟩ (by rw[BP];exact .head _);obtain⟨mp,h1,h2⟩:=h.mp;refine⟨h.cell,mp,h1,λk=>?_,λk eb e hl=>?_⟩
 ·rw[h2 k]
  show(EQ k (t.es.map shK)).map _=_;rw[Fj];cases Aj k t.es<;>rfl
 ·have hm:shK (.mk k eb e)∈t.es.map shK:=List.mem_map.2 ⟨_,Hq hl,rfl⟩
  refine⟨h.en _ hm,?_⟩;rw[BP,Az];exact List.mem_append_left _ (Dx (s:=⟨t.b,t.m,t.hd,d,t.es.map shK⟩) hm)
theorem HQ.add {n:Nat} {st st':St} {T t:Tb} {h:List Hop} {k:B8} {eb:Nat} {e:En} {mp:List (B8×TV)} (H:HQ n st (shT 1 T)) (hn:n<=st.nb) (hA:atT T h=some t) (hl:Aj k t.es=none) (hm:st.box t.m= .map mp)
  (hnb:st.nb<=st'.nb) (hbx:∀x,x∈bxL (shT 1 T)->x≠t.m->st'.box x=st.box x) (hm':st'.box t.m= .map (Gk k (.box eb 0) mp)) (he:EnQ st' eb (shE e))
  (hN:∀s,s∈AL (1+dpH h) e->ShQ st' s) (hnd:(eb::bxL (AL (1+dpH h) e)).Nodup) (hnew:∀x,x∈eb::bxL (AL (1+dpH h) e)->st.nb<=x/\x<st'.nb):HQ n st' (shT 1 (AA T h (AM t k eb e))):=by
 obtain⟨A,B,h1,h2⟩:=Hm h hA 1;have Ht:=H.at hA;rw[h2 (AM t k eb e) rfl];rw[h1]at H;obtain⟨q1,mp',q2,q3,q4⟩:=Ht.1.tab;rw[hm]at q2;cases q2;have tbm:=Kq (1+dpH h) t;have hmb:t.m≠t.b:=λhh=>by rw[hh,q1]at hm;cases hm
 have nd0:=Ht.1.nd;rw[BP,Az]at nd0;obtain⟨m1,m2,m3⟩:=List.nodup_append.1 nd0;have m1':(t.b::t.m::(t.es.map shK).map λx=>x.2.1).Nodup:=m1;have e2:bxL (shT (1+dpH h) (AM t k eb e))=(t.b::t.m::((t.es.map shK).map (λx=>x.2.1)++[eb]))++(bxL (Cn (1+dpH h) t.es)++bxL (AL (1+dpH h) e)):=by
  rw[Mm,Az,Ap];show(t.b::t.m::(t.es.map shK++[(k,eb,shE e)]).map (λx=>x.2.1))++_=_;rw[List.map_append];rfl
 have mem':∀{x},x∈bxL (shT (1+dpH h) (AM t k eb e))->x∈bxL (shT (1+dpH h) t)∨x∈eb::bxL (AL (1+dpH h) e):=λ{x} hx=>by
  rw[e2]at hx;rw[BP,Az];rcases List.mem_append.1 hx with g | g
  ·rcases List.mem_cons.1 g with rfl | g
   ·exact .inl (List.mem_append_left _ (.head _))
   ·rcases List.mem_cons.1 g with rfl | g
    ·exact .inl (List.mem_append_left _ (.tail _ (.head _)))
    ·rcases List.mem_append.1 g with g2 | g2
     ·exact .inl (List.mem_append_left _ (.tail _ (.tail _ g2)))
     ·rw[List.mem_singleton.1 g2];exact .inr (.head _)
  ·rcases List.mem_append.1 g with g2 | g2
   ·exact .inl (List.mem_append_right _ g2)
   ·exact .inr (.tail _ g2)
 have old:∀{x},x∈bxL (shT (1+dpH h) t)->x≠t.m->st'.box x=st.box x:=λhx hne=>hbx _ (Ht.2 _ hx) hne;have olds:∀{x},x∈bxL (Cn (1+dpH h) t.es)->st'.box x=st.box x:=λ{x} hx=>by
  refine old (by rw[BP,Az];exact List.mem_append_right _ hx) λhh=>?_;exact m3 t.m (.tail _ (.head _)) x hx hh.symm
 refine H.upd hn hnb (λx hx=>?_) (λs hs=>?_) ?_ λx hx=>?_
 ·obtain⟨n1,n2,n3⟩:=EO H.nd
  refine hbx x (by rw[h1,Ap,Ap];exact hx.elim (λg=>List.mem_append_left _ g) λg=>List.mem_append_right _ (List.mem_append_right _ g)) λhh=>?_;subst hh;exact hx.elim (n3 _ tbm.2).1 (n3 _ tbm.2).2
 ·rw[Mm]at hs
  rcases List.mem_cons.1 hs with rfl | hs
  ·refine⟨?_,⟨_,hm',λk2=>?_⟩,λx hx=>?_⟩
   ·show st'.box t.b=_
    rw[old tbm.1 (Ne.symm hmb)];exact q1
   ·show AG k2 _=(EQ k2 (t.es.map shK++[(k,eb,shE e)])).map _
    rw[Hz,q3 k2,Ol,Fj];by_cases hkk:k2=k
    ·subst hkk;rw[if_pos rfl,hl];simp
    ·rw[if_neg hkk,if_neg hkk]
     cases Aj k2 t.es<;>rfl
   ·rcases List.mem_append.1 hx with g | g
    ·obtain⟨d,hd,rfl⟩:=List.mem_map.1 g
     have h0:=Ht.1.sh ⟨t.b,t.m,t.hd,1+dpH h,t.es.map shK⟩ (by rw[BP];exact .head _);have hmem:(shK d).2.1∈bxL (shT (1+dpH h) t):=by
      rw[BP,Az];exact List.mem_append_left _ (Dx (s:=⟨t.b,t.m,t.hd,1+dpH h,t.es.map shK⟩) g)
     refine(h0.en _ g).fr (old hmem λhh=>?_);have:=(List.nodup_cons.1 (List.nodup_cons.1 m1').2).1;exact this (by rw[<-hh];exact List.mem_map.2 ⟨_,g,rfl⟩)
    ·rw[List.mem_singleton.1 g];exact he
  ·rcases List.mem_append.1 hs with g | g
   ·exact(Ht.1.sh s (by rw[BP];exact .tail _ g)).fr λx hx=>olds (Bw g hx)
   ·exact hN s g
 ·obtain⟨p1,p2⟩:=List.nodup_cons.1 hnd
  rw[e2];have hlt:∀{x},x∈bxL (shT (1+dpH h) t)->x<st.nb:=λhx=>(Ht.1.lt _ hx).2;have hS:∀{x},x∈(t.b::t.m::(t.es.map shK).map λx=>x.2.1)->x<st.nb:=λhx=>hlt (by rw[BP,Az];exact List.mem_append_left _ hx);have hR:∀{x},x∈bxL (Cn (1+dpH h) t.es)->x<st.nb:=λhx=>hlt (by rw[BP,Az];exact List.mem_append_right _ hx);have e3:(t.b::t.m::((t.es.map shK).map (λx=>x.2.1)++[eb]))=(t.b::t.m::(t.es.map shK).map λx=>x.2.1)++[eb]:=rfl;rw[e3];refine List.nodup_append.2 ⟨List.nodup_append.2 ⟨m1',by simp,λx hx y hy he=>?_⟩,List.nodup_append.2 ⟨m2,p2,λx hx y hy he=>?_⟩,λx hx y hy he=>?_⟩
  ·have a:=hS hx
   have b:=(hnew eb (.head _)).1;rw[List.mem_singleton.1 hy]at he;omega
  ·have a:=hR hx
   have b:=(hnew y (.tail _ hy)).1;omega
  ·rcases List.mem_append.1 hx with a | a<;>rcases List.mem_append.1 hy with b | b
   ·exact m3 x a y b he
   ·have a:=hS a;have b:=(hnew y (.tail _ b)).1;omega
   ·have a':=List.mem_singleton.1 a
    have b':=hR b;have c:=(hnew eb (.head _)).1;omega
   ·have a':=List.mem_singleton.1 a
    exact p1 (by rw[<-a',he];exact b)
 ·rcases mem' hx with g | g
  ·exact⟨Nat.lt_of_lt_of_le (Ht.1.lt x g).2 hnb,.inl g⟩
  ·exact⟨(hnew x g).2,.inr (hnew x g).1⟩
theorem Qj (k:B8) (x:En):∀es:List Kn,((BZ k x es).map shK).map (λp=>p.2.1)=(es.map shK).map λp=>p.2.1
 | []=>by rw[BZ]
 | .mk k' eb e::r=>by
  rw[BZ];split
  ·rfl
  ·rw[List.map_cons,List.map_cons,List.map_cons,List.map_cons,Qj k x r]
theorem Vd {k:B8} {x:En} {eb:Nat} {e:En}:∀{es:List Kn},Aj k es=some (eb,e)->∀d,d∈BZ k x es->d= .mk k eb x∨(d∈es/\∀P:((es.map shK).map λp=>p.2.1).Nodup,d.eb≠eb)
 | .mk k' eb' e'::r,h,d,hd=>by
  rw[Aj]at h;rw[BZ]at hd;split at h
  ·rename_i hk
   cases h;rw[if_pos hk]at hd;rcases List.mem_cons.1 hd with rfl | hd
   ·exact .inl (by rw[hk])
   ·refine .inr ⟨.tail _ hd,λP he=>?_⟩
    rw[List.map_cons,List.map_cons]at P;exact(List.nodup_cons.1 P).1 (by show eb∈_;rw[<-he];exact List.mem_map.2 ⟨shK d,List.mem_map.2 ⟨d,hd,rfl⟩,rfl⟩)
  ·rename_i hk
   rw[if_neg hk]at hd;rcases List.mem_cons.1 hd with rfl | hd
   ·refine .inr ⟨.head _,λP he=>?_⟩
    rw[List.map_cons,List.map_cons]at P;refine(List.nodup_cons.1 P).1 ?_;have he':eb'=eb:=he;show eb'∈_;rw[he'];exact List.mem_map.2 ⟨shK (.mk k eb e),List.mem_map.2 ⟨_,Hq h,rfl⟩,rfl⟩
   ·rcases Vd h d hd with g | ⟨g1,g2⟩
    ·exact .inl g
    ·refine .inr ⟨.tail _ g1,λP=>g2 ?_⟩
     rw[List.map_cons,List.map_cons]at P;exact(List.nodup_cons.1 P).2
theorem HQ.chg {n:Nat} {st st':St} {T t:Tb} {h:List Hop} {k:B8} {eb:Nat} {e e':En} (H:HQ n st (shT 1 T)) (hn:n<=st.nb) (hA:atT T h=some t) (hl:Aj k t.es=some (eb,e))
  (hnb:st.nb<=st'.nb) (hbx:∀x,x∈bxL (shT 1 T)->x≠eb->x∉bxL (AL (1+dpH h) e)->st'.box x=st.box x) (he:EnQ st' eb (shE e'))
  (hX:∀s,s∈AL (1+dpH h) e'->ShQ st' s) (hnd:(bxL (AL (1+dpH h) e')).Nodup) (hnew:∀x,x∈bxL (AL (1+dpH h) e')->x<st'.nb/\(x∈bxL (AL (1+dpH h) e)∨st.nb<=x)):HQ n st' (shT 1 (AA T h (BM t k e'))):=by
 obtain⟨A,B,h1,h2⟩:=Hm h hA 1;have Ht:=H.at hA;rw[h2 (BM t k e') rfl];rw[h1]at H;obtain⟨q1,mp,q2,q3,q4⟩:=Ht.1.tab;obtain⟨P,Q,p1,p2⟩:=Ft (1+dpH h) hl;have nd0:=Ht.1.nd;have hebm:=(q4 k eb e hl).2;have hmem0:shK (.mk k eb e)∈t.es.map shK:=List.mem_map.2 ⟨_,Hq hl,rfl⟩;have hs0:=Ht.1.sh ⟨t.b,t.m,t.hd,1+dpH h,t.es.map shK⟩ (by rw[BP];exact .head _);rw[BP,Az,p1]at nd0;obtain⟨m1,m2,m3⟩:=List.nodup_append.1 nd0;have m1':(t.b::t.m::(t.es.map shK).map λx=>x.2.1).Nodup:=m1;have m1e:=(List.nodup_cons.1 (List.nodup_cons.1 m1').2).2;obtain⟨r1,r2,r3⟩:=EO m2;have ebS:eb∈bxS ⟨t.b,t.m,t.hd,1+dpH h,t.es.map shK⟩:=Dx (s:=⟨t.b,t.m,t.hd,1+dpH h,t.es.map shK⟩) hmem0;have inT:∀{x},x∈bxS ⟨t.b,t.m,t.hd,1+dpH h,t.es.map shK⟩∨x∈bxL P∨x∈bxL (AL (1+dpH h) e)∨x∈bxL Q->x∈bxL (shT (1+dpH h) t):=λ{x} hx=>by
  rw[BP,Az,p1,Ap,Ap];rcases hx with g | g | g | g
  ·exact List.mem_append_left _ g
  ·exact List.mem_append_right _ (List.mem_append_left _ g)
  ·exact List.mem_append_right _ (List.mem_append_right _ (List.mem_append_left _ g))
  ·exact List.mem_append_right _ (List.mem_append_right _ (List.mem_append_right _ g))
 have bPQ:∀{x},x∈bxL P∨x∈bxL Q->x∈bxL (P++(AL (1+dpH h) e++Q)):=λhx=>by
  rw[Ap,Ap];exact hx.elim (λg=>List.mem_append_left _ g) λg=>List.mem_append_right _ (List.mem_append_right _ g)
 have oldS:∀{x},x∈bxS ⟨t.b,t.m,t.hd,1+dpH h,t.es.map shK⟩->x≠eb->st'.box x=st.box x:=λ{x} hx hne=>
  hbx x (Ht.2 _ (inT (.inl hx))) hne λhh=>m3 x hx x (by rw[Ap,Ap];exact List.mem_append_right _ (List.mem_append_left _ hh)) rfl
 have oldPQ:∀{x},x∈bxL P∨x∈bxL Q->st'.box x=st.box x:=λ{x} hx=>
  hbx x (Ht.2 _ (inT (.inr (hx.elim .inl λg=> .inr (.inr g))))) (λhh=>m3 eb ebS x (bPQ hx) hh.symm) λhh=>hx.elim (r3 x hh).1 (r3 x hh).2
 have eB:bxS ⟨t.b,t.m,t.hd,1+dpH h,(BZ k e' t.es).map shK⟩=bxS ⟨t.b,t.m,t.hd,1+dpH h,t.es.map shK⟩:=by
  show t.b::t.m::((BZ k e' t.es).map shK).map (λx=>x.2.1)=t.b::t.m::(t.es.map shK).map λx=>x.2.1;rw[Qj]
 have e2:shT (1+dpH h) (BM t k e')=⟨t.b,t.m,t.hd,1+dpH h,(BZ k e' t.es).map shK⟩::(P++(AL (1+dpH h) e'++Q)):=by
  rw[BP];show _::Cn _ (BZ k e' t.es)=_;rw[p2];rfl
 have ltT:∀{x},x∈bxL (shT (1+dpH h) t)->x<st.nb:=λhx=>(Ht.1.lt _ hx).2;refine H.upd hn hnb (λx hx=>?_) (λs hs=>?_) ?_ λx hx=>?_
 ·obtain⟨n1,n2,n3⟩:=EO H.nd
  refine hbx x (by rw[h1,Ap,Ap];exact hx.elim (λg=>List.mem_append_left _ g) λg=>List.mem_append_right _ (List.mem_append_right _ g)) (λhh=>?_) λhh=>?_
  ·subst hh;exact hx.elim (n3 _ hebm).1 (n3 _ hebm).2
  ·exact hx.elim (n3 _ (inT (.inr (.inr (.inl hh))))).1 (n3 _ (inT (.inr (.inr (.inl hh))))).2
 ·rw[e2]at hs
  rcases List.mem_cons.1 hs with rfl | hs
  ·have ne1:t.b≠eb:=λhh=>(List.nodup_cons.1 m1').1 (.tail _ (by rw[hh];exact List.mem_map.2 ⟨_,hmem0,rfl⟩))
   have ne2:t.m≠eb:=λhh=>(List.nodup_cons.1 (List.nodup_cons.1 m1').2).1 (by rw[hh];exact List.mem_map.2 ⟨_,hmem0,rfl⟩);refine⟨?_,⟨mp,?_,λk2=>?_⟩,λx hx=>?_⟩
   ·show st'.box t.b=_
    rw[oldS (.head _) ne1];exact q1
   ·show st'.box t.m=_
    rw[oldS (.tail _ (.head _)) ne2];exact q2
   ·show AG k2 mp=(EQ k2 ((BZ k e' t.es).map shK)).map _
    rw[q3 k2,Fj];by_cases hkk:k2=k
    ·subst hkk;rw[Fv hl,hl];rfl
    ·rw[KJ hkk]
     cases Aj k2 t.es<;>rfl
   ·obtain⟨d,hd,rfl⟩:=List.mem_map.1 hx
    rcases Vd hl d hd with rfl | ⟨g1,g2⟩
    ·exact he
    ·have hdm:shK d∈t.es.map shK:=List.mem_map.2 ⟨d,g1,rfl⟩
     exact(hs0.en _ hdm).fr (oldS (Dx (s:=⟨t.b,t.m,t.hd,1+dpH h,t.es.map shK⟩) hdm) (g2 m1e))
  ·rcases List.mem_append.1 hs with g | g
   ·exact(Ht.1.sh s (by rw[BP,p1];exact .tail _ (List.mem_append_left _ g))).fr λx hx=>oldPQ (.inl (Bw g hx))
   ·rcases List.mem_append.1 g with g | g
    ·exact hX s g
    ·exact(Ht.1.sh s (by rw[BP,p1];exact .tail _ (List.mem_append_right _ (List.mem_append_right _ g)))).fr λx hx=>oldPQ (.inr (Bw g hx))
 ·rw[e2,Az,eB]
  have sepS:∀{x},x∈bxS ⟨t.b,t.m,t.hd,1+dpH h,t.es.map shK⟩->x∈bxL (AL (1+dpH h) e')->False:=λ{x} hx hy=>by
   rcases (hnew x hy).2 with g | g
   ·exact m3 x hx x (by rw[Ap,Ap];exact List.mem_append_right _ (List.mem_append_left _ g)) rfl
   ·have:=ltT (inT (.inl hx));omega
  have sepPQ:∀{x},x∈bxL P∨x∈bxL Q->x∈bxL (AL (1+dpH h) e')->False:=λ{x} hx hy=>by
   rcases (hnew x hy).2 with g | g
   ·exact hx.elim (r3 x g).1 (r3 x g).2
   ·have:=ltT (inT (.inr (hx.elim .inl λg=> .inr (.inr g))));omega
  rw[Ap,Ap];obtain⟨a1,a2,a3⟩:=List.nodup_append.1 r1;refine List.nodup_append.2 ⟨m1,List.nodup_append.2 ⟨a1,List.nodup_append.2 ⟨hnd,a2,λx hx y hy hh=>sepPQ (.inr hy) (hh▸hx)⟩,λx hx y hy hh=>?_⟩,λx hx y hy hh=>?_⟩
  ·rcases List.mem_append.1 hy with g | g
   ·exact sepPQ (.inl hx) (hh▸g)
   ·exact a3 x hx y g hh
  ·rcases List.mem_append.1 hy with g | g
   ·exact m3 x hx y (bPQ (.inl g)) hh
   ·rcases List.mem_append.1 g with g | g
    ·exact sepS hx (hh▸g)
    ·exact m3 x hx y (bPQ (.inr g)) hh
 ·rw[e2,Az,eB,Ap,Ap]at hx
  rcases List.mem_append.1 hx with g | g
  ·exact⟨Nat.lt_of_lt_of_le (ltT (inT (.inl g))) hnb,.inl (inT (.inl g))⟩
  ·rcases List.mem_append.1 g with g | g
   ·exact⟨Nat.lt_of_lt_of_le (ltT (inT (.inr (.inl g)))) hnb,.inl (inT (.inr (.inl g)))⟩
   ·rcases List.mem_append.1 g with g | g
    ·exact⟨(hnew x g).1,(hnew x g).2.imp (λg=>inT (.inr (.inr (.inl g)))) id⟩
    ·exact⟨Nat.lt_of_lt_of_le (ltT (inT (.inr (.inr (.inr g))))) hnb,.inl (inT (.inr (.inr (.inr g))))⟩
section
def D6 (tab elem:Bool) (kl:B8):Tb->List B8->Option Int
 | u,[]=>match Aj kl u.es with
  | none=>none
  | some (_,.opn v)=>if elem=true then some 6 else if tab=true/\v.hd=false then none else some 8
  | some (_,.lst _)=>if elem=true then none else some 8
  | some (_,.clo _ _)=>if elem=true then some 6 else some 8
 | u,k::ks=>match Aj k u.es with
  | none=>none
  | some (_,.opn v)=>D6 tab elem kl v ks
  | some (_,.lst l)=>if tab=true then D6 tab elem kl (l.getLastD u) ks else some 8
  | some (_,.clo _ _)=>some 8
theorem fit_new (tab elem:Bool) (kl:B8) (nu:Nu) (hd:Bool):∀ks,D6 tab elem kl (Ar nu hd) ks=none
 | []=>rfl
 | k::ks=>rfl
theorem PB {l:List Tb} {u:Tb} (h:l≠ []):l[l.length-1]? =some (l.getLastD u):=by
 rw[<-List.getLast?_eq_getElem?,List.getLastD_eq_getLast?,List.getLast?_eq_some_getLast h];rfl
theorem NB {nu:Nat->Nu} {tab elem:Bool} {kl:B8}:∀(ks:List B8) (j:Nat) {T u:Tb} {h:List Hop},atT T h=some u->NeL (shT 1 T)->
  match BE nu tab j T h ks with
  | none=>D6 tab elem kl u ks=some 8
  | some p=>∃t,atT p.1 p.2=some t/\D6 tab elem kl u ks=D6 tab elem kl t []
 | [],j,T,u,h,hA,hn=>⟨u,hA,rfl⟩
 | k::ks,j,T,u,h,hA,hn=>by
  rw[BE];cases hh:Df (nu j) tab T h k with
  | none=>
   unfold Df at hh;rw[hA]at hh;simp only at hh⊢;rw[D6];rcases hl:Aj k u.es with _ | ⟨eb,v | l | ⟨v,i⟩⟩<;>rw[hl]at hh<;>simp only at hh⊢
   ·cases hh
   ·cases hh
   ·split at hh
    ·cases hh
    ·rename_i ht;rw[if_neg ht]
  | some p=>
   have hn':=TU hA (T':=p.1) (h':=p.2) hh hn;unfold Df at hh;rw[hA]at hh;simp only at hh⊢;rcases hl:Aj k u.es with _ | ⟨eb,v | l | ⟨v,i⟩⟩<;>rw[hl]at hh<;>simp only at hh
   ·cases hh
    have ih:=NB (nu:=nu) (tab:=tab) (elem:=elem) (kl:=kl) ks (j+1) (IE (nu:=nu j) (hd:=false) hA hl) hn';rw[fit_new]at ih;rw[D6,hl];revert ih;cases BE nu tab (j+1) _ _ ks with
    | none=>intro ih;cases ih
    | some p=>exactλih=>ih
   ·cases hh
    have ih:=NB (nu:=nu) (tab:=tab) (elem:=elem) (kl:=kl) ks (j+1) (GJ hA hl) hn';rw[D6,hl];exact ih
   ·split at hh
    ·rename_i ht
     cases hh;have ih:=NB (nu:=nu) (tab:=tab) (elem:=elem) (kl:=kl) ks (j+1) (GK hA hl (PB (u:=u) (Sx hA hn hl))) hn';rw[D6,hl];simp only;rw[if_pos ht];exact ih
    ·cases hh
   ·cases hh
theorem fit_last {nu:Nu} {i:Nat} {T t:Tb} {h cur:List Hop} {a:Asg} {kl:B8} {e:Int} (hA:atT T h=some t) (hf:D6 a.tab a.elem kl t []=some e):B2 nu a i T h cur kl= .error e:=by
 rw[D6]at hf;unfold B2;rw[hA];simp only;by_cases he:a.elem=true
 ·rw[if_pos he]
  rcases hl:Aj kl t.es with _ | ⟨eb,v | l | ⟨v,i⟩⟩<;>rw[hl]at hf<;>simp only[he,if_true,reduceCtorEq,Option.some.injEq]at hf<;>simp only[hf]
 ·rw[if_neg he]
  by_cases ht:a.tab=true
  ·rw[if_pos ht]
   rcases hl:Aj kl t.es with _ | ⟨eb,v | l | ⟨v,i⟩⟩<;>rw[hl]at hf<;>simp only[he,ht,if_false,true_and,Bool.false_eq_true,reduceCtorEq,Option.some.injEq]at hf
   ·split at hf
    ·cases hf
    ·rename_i hv;simp only[Option.some.injEq]at hf;simp only;rw[if_pos (by simpa using hv),hf]
   all_goals simp only[hf]
  ·rw[if_neg ht]
   rcases hl:Aj kl t.es with _ | ⟨eb,v | l | ⟨v,i⟩⟩<;>rw[hl]at hf<;>simp only[he,ht,if_false,false_and,Bool.false_eq_true,reduceCtorEq,Option.some.injEq]at hf<;>simp only[hf]
theorem XR {nu:Nu} {i:Nat} {T t:Tb} {h cur:List Hop} {a:Asg} {kl:B8} (hA:atT T h=some t) (hf:D6 a.tab a.elem kl t []=none):∃r,B2 nu a i T h cur kl= .ok r:=by
 rw[D6]at hf;unfold B2;rw[hA];simp only;by_cases he:a.elem=true
 ·rw[if_pos he]
  rcases hl:Aj kl t.es with _ | ⟨eb,v | l | ⟨v,i⟩⟩<;>rw[hl]at hf<;>simp only[he,if_true,reduceCtorEq]at hf
  all_goals exact⟨_,rfl⟩
 ·rw[if_neg he]
  by_cases ht:a.tab=true
  ·rw[if_pos ht]
   rcases hl:Aj kl t.es with _ | ⟨eb,v | l | ⟨v,i⟩⟩<;>rw[hl]at hf<;>simp only[he,ht,if_false,true_and,Bool.false_eq_true,reduceCtorEq]at hf
   ·exact⟨_,rfl⟩
   ·split at hf
    ·rename_i hv;simp only;rw[if_neg (by rw[hv];simp)];exact⟨_,rfl⟩
    ·cases hf
  ·rw[if_neg ht]
   rcases hl:Aj kl t.es with _ | ⟨eb,v | l | ⟨v,i⟩⟩<;>rw[hl]at hf<;>simp only[he,ht,if_false,false_and,Bool.false_eq_true,reduceCtorEq]at hf
   exact⟨_,rfl⟩
variable {n:Nat} {st:St} {T t:Tb} {h:List Hop}
theorem HQ.ldm (H:HQ n st (shT 1 T)) (hA:atT T h=some t) {f:TV->Prop} (hf:f (.map t.m)):AS (Af st [] (.t (.box t.b 0)) 0) f:=
 Ac (Ay (H.at hA).1.tab.1 0 rfl) hf
theorem HQ.ldd (H:HQ n st (shT 1 T)) (hA:atT T h=some t) {f:TV->Prop} (hf:f (.int .i64 ((1+dpH h:Nat):Int))):AS (Af st [] (.t (.box t.b 1)) 0) f:=
 Ac (Ay (H.at hA).1.tab.1 1 rfl) hf
theorem HQ.ldh (H:HQ n st (shT 1 T)) (hA:atT T h=some t) {f:TV->Prop} (hf:f (.bool t.hd)):AS (Af st [] (.t (.box t.b 2)) 0) f:=
 Ac (Ay (H.at hA).1.tab.1 2 rfl) hf
theorem HQ.map (H:HQ n st (shT 1 T)) (hA:atT T h=some t) {f:List (B8×TV)->Prop} (hf:∀es,(∀k,AG k es=(Aj k t.es).map λp=> .box p.1 0)->f es):AS (DY st (.map t.m)) f:=by
 obtain⟨_,mp,h1,h2,_⟩:=(H.at hA).1.tab;exact Ac (x:=mp) (by simp only[DY,h1]) (hf mp h2)
theorem HQ.ent (H:HQ n st (shT 1 T)) (hA:atT T h=some t) {k:B8} {eb:Nat} {e:En} (hl:Aj k t.es=some (eb,e)):EnQ st eb (shE e):=by
 obtain⟨_,mp,_,_,h3⟩:=(H.at hA).1.tab;exact(h3 k eb e hl).1
theorem XO (l:List Tb) (u:Tb) (h:l≠ []):(l.map Tb.b).getLastD 0=(l.getLastD u).b:=by
 rw[List.getLastD_eq_getLast?,List.getLastD_eq_getLast?,List.getLast?_map,List.getLast?_eq_some_getLast h];rfl
theorem HQ.ent0 (H:HQ n st (shT 1 T)) (hA:atT T h=some t) {k:B8} {eb:Nat} {e:En} (hl:Aj k t.es=some (eb,e)) {f:TV->Prop} (hf:f (match e with | .opn u=> .box u.b 0 | _=> .nilPtr)):AS (Af st [] (.t (.box eb 0)) 0) f:=by
 have:=H.ent hA hl;cases e with
 | opn u=>exact Ac (Ay this 0 rfl) hf
 | lst l=>exact Ac (Ay this.2 0 rfl) hf
 | clo v i=>exact Ac (Ay this 0 rfl) hf
theorem HQ.ent1 (H:HQ n st (shT 1 T)) (hA:atT T h=some t) {k:B8} {eb:Nat} {e:En} (hl:Aj k t.es=some (eb,e)) {f:TV->Prop} (hf:f (match e with | .lst l=> .box (l.getLastD t).b 0 | _=> .nilPtr)):AS (Af st [] (.t (.box eb 1)) 0) f:=by
 have:=H.ent hA hl;cases e with
 | opn u=>exact Ac (Ay this 1 rfl) hf
 | lst l=>
  obtain⟨h1,h2⟩:=this;rw[XO l t (λhh=>h1 (by rw[hh];rfl))]at h2;exact Ac (Ay h2 1 rfl) hf
 | clo v i=>exact Ac (Ay this 1 rfl) hf
end
section
variable {E:TV->St->Prop} {st0 st:St} {b n:Nat}
theorem Cq {c:Bool} {p q:Prop} (h:c=true) (hp:p):BIf c p q:=by subst h;exact hp
theorem Dc {c:Bool} {p q:Prop} (h:c=false) (hq:q):BIf c p q:=by subst h;exact hq
theorem VS {ks:List B8} {j:Nat} {st:St} {f:TV->Prop} {tip:Tip} {a:TV} {N:Nat} (ha:a= .list 1 tip N (ks.map TV.str)) (h:j<ks.length) (hf:f (.str (ks.getD j []))):AS (Af st [] (.t (ixT 1 a (Int.toNat (j:Int)))) 0) f:=by
 subst ha;refine Ac (x:= .str (ks.getD j [])) ?_ hf;have:=FV h;simp only[ixT,Af,Int.toNat_natCast,Nat.mul_one,List.getElem?_drop,Nat.add_zero];exact this
theorem Oy {ks:List B8} {j:Nat} (h:j<ks.length):ks.drop j=ks.getD j []::ks.drop (j+1):=by
 rw[List.getD_eq_getElem?_getD,List.getElem?_eq_getElem h,Option.getD_some,List.drop_eq_getElem_cons h]
theorem fits_ok {T u:Tb} {h0:List Hop} {ini:List B8} {kl:B8} {i:Nat} {a_0 a_1 a_4 a_5:Bool} {a_2 a_13 a_14 a_15:TV} {a_3 a_7 a_8 a_9 a_10 a_11:Int} {a_6 a_12:B8} {K:St->Prop}
  (H:HQ n st (shT 1 T)) (hA:atT T h0=some u) (hr:Rd 1 a_2 (ini++[kl]).length ((ini++[kl]).map TV.str)) (hl:(ini++[kl]).length<=1000000) (e0:Ag st0 st)
  (he:∀e,D6 a_0 a_1 kl u ini=some e->Fl E st0 (i,e)) (hk:D6 a_0 a_1 kl u ini=none->K st):
  Bz E PR EK [.box b 0,.int .i64 (i:Nat),.box u.b 0,.agg [.bool a_0,.bool a_1,a_2,.int .i64 a_3,.bool a_4,.bool a_5,.str a_6,.int .i64 a_7,.int .i64 a_8,.int .i64 a_9,.int .i64 a_10,.int .i64 a_11,.str a_12,a_13,a_14,a_15]] [] st K:=by
 rcases hr with⟨_,h0,_⟩ | ⟨tip,rfl⟩
 ·simp at h0
 rw[List.length_append,List.length_singleton]at hl;have hw:IntKind.wrap .i64 ((lenS (.list 1 tip (ini++[kl]).length ((ini++[kl]).map TV.str)):Int)-1)=(ini.length:Int):=by
  rw[Ah _ (by simp[lenS]<;>omega) (by simp[lenS]<;>omega)];simp[lenS]
 have hv:slT 1 .non (.list 1 tip (ini++[kl]).length ((ini++[kl]).map TV.str)) 0 (Int.toNat (ini.length:Int))= .list 1 .non ini.length (ini.map TV.str):=by
  simp only[slT,Int.toNat_natCast,Nat.sub_zero,Nat.mul_one,Nat.zero_mul,List.drop_zero,List.map_append];rw[List.take_left' (by simp)]
 refine LI E b i u.b a_0 a_1 _ a_3 a_4 a_5 a_6 a_7 a_8 a_9 a_10 a_11 a_12 a_13 a_14 a_15 st K (Aa rfl ?_);rw[hw,hv];refine⟨⟨rfl,by omega,by simp[lenS]<;>omega⟩,Aa rfl ?_⟩;refine⟨λt_1 n_1 b_1 at_1 v_1 n_2 b1 b2 v1 _ _ _ _ _ _ _ _ _ _ _ _ _ st1=>∃(j:Nat) (h:List Hop) (t:Tb),n_1=(j:Int)/\j<=ini.length/\t_1= .box t.b 0/\b_1= .box b 0/\at_1=(i:Int)/\
   v_1= .list 1 .non ini.length (ini.map TV.str)/\n_2=(ini.length:Int)/\b1=a_0/\b2=a_1/\v1= .list 1 tip (ini++[kl]).length ((ini++[kl]).map TV.str)/\st1=st/\atT T h=some t/\D6 a_0 a_1 kl u ini=D6 a_0 a_1 kl t (ini.drop j),
  λ_ n_1 _ _ _ _ _ _ _ _ _ _ _ _ _ _ _ _ _ _ _ _ _=>ini.length-n_1.toNat,⟨0,h0,u,rfl,Nat.zero_le _,rfl,rfl,rfl,rfl,rfl,rfl,rfl,rfl,rfl,hA,rfl⟩,?_⟩
 rintro t_1 n_1 b_1 at_1 v_1 n_2 b1 b2 v1 n1 b3 b4 s1 n2 n3 n4 n5 n6 s2 v2 v3 v4 st1 ⟨j,h,t,rfl,hj,rfl,rfl,rfl,rfl,rfl,rfl,rfl,rfl,rfl,hA',hf⟩;have hne:=H.ne;refine Ab (λhlt=>?_) λhge=>?_
 ·have hlt:j<ini.length:=by omega
  have hwj:IntKind.wrap .i64 ((j:Int)+1)=((j+1:Nat):Int):=by rw[Ah _ (by omega) (by omega)];simp
  rw[Oy hlt,D6]at hf;refine⟨⟨by omega,by show(j:Int)<(ini.length:Int);omega⟩,?_⟩;refine VS rfl hlt (AO (Aa rfl (Aa rfl (H.ldm hA' (H.map hA' λes hes=>?_)))));rw[hes (ini.getD j [])];rw[hwj];have step:∀{w:Tb} {h':List Hop},atT T h'=some w->D6 b1 b2 kl u ini=D6 b1 b2 kl w (ini.drop (j+1))->
    (∃(j':Nat) (h:List Hop) (t:Tb),((j+1:Nat):Int)=(j':Int)/\j'<=ini.length/\(TV.box w.b 0)= .box t.b 0/\(TV.box b 0)= .box b 0/\(i:Int)=(i:Int)/\
     (TV.list 1 .non ini.length (ini.map TV.str))= .list 1 .non ini.length (ini.map TV.str)/\(ini.length:Int)=(ini.length:Int)/\b1=b1/\b2=b2/\(TV.list 1 tip (ini++[kl]).length ((ini++[kl]).map TV.str))= .list 1 tip (ini++[kl]).length ((ini++[kl]).map TV.str)/\st1=st1/\atT T h=some t/\D6 b1 b2 kl u ini=D6 b1 b2 kl t (ini.drop j'))/\
    ini.length-((j+1:Nat):Int).toNat<ini.length-((j:Nat):Int).toNat:=λ{w h'} q1 q2=>
   ⟨⟨j+1,h',w,rfl,hlt,rfl,rfl,rfl,rfl,rfl,rfl,rfl,rfl,rfl,q1,q2⟩,by simp only[Int.toNat_natCast];omega⟩
  rcases hl:Aj (ini.getD j []) t.es with _ | ⟨eb,e⟩<;>rw[hl]at hf<;>(try simp only at hf)
  ·rw[Option.map_none]
   exact Aa rfl (Cq rfl (hk hf))
  ·rw[Option.map_some]
   refine Aa rfl (Dc rfl <| Aa rfl (Aa rfl (H.ent0 hA' hl ?_)));cases e with
   | opn w=>
    simp only at hf;exact Aa rfl (Cq rfl (Aa rfl (Aa rfl (H.ent0 hA' hl (step (GJ hA' hl) hf)))))
   | lst l=>
    simp only at hf;refine Aa rfl (Dc rfl <| Aa rfl (Aa rfl (H.ent1 hA' hl (Aa rfl (Cq rfl (Ao (λhb=>?_) λhb=>?_))))))
    ·rw[if_pos hb]at hf
     exact Aa rfl (Aa rfl (H.ent1 hA' hl (step (GK hA' hl (PB (Sx hA' hne hl))) hf)))
    ·rw[if_neg (by rw[hb];simp)]at hf
     exact Aa rfl (Aa rfl (Bs rfl e0 (he _ hf)))
   | clo v q=>
    simp only at hf;exact Aa rfl (Dc rfl <| Aa rfl (Aa rfl (H.ent1 hA' hl (Aa rfl (Dc rfl <| Aa rfl (Aa rfl (Bs rfl e0 (he _ hf))))))))
 ·have hj':j=ini.length:=by omega
  subst hj';rw[List.drop_length,D6]at hf;refine Aa rfl (Aa rfl (H.ldm hA' (Aa rfl ?_)));rw[hw];refine⟨⟨by omega,by show(ini.length:Int)<((ini++[kl]).length:Int);simp only[List.length_append,List.length_singleton];omega⟩,?_⟩;refine VS rfl (by simp) (AO (H.map hA' λes hes=>?_));have hkl:(ini++[kl]).getD ini.length []=kl:=by simp
  rw[hkl,hes kl];rcases hl:Aj kl t.es with _ | ⟨eb,e⟩<;>rw[hl]at hf<;>(try simp only at hf)
  ·rw[Option.map_none]
   exact Aa rfl (Cq rfl (hk hf))
  ·rw[Option.map_some]
   have ff:∀{p:Int} {k:St->Prop},D6 b1 b2 kl u ini=some p->need (isPtr (TV.box b 0)=true) (need (isPtr (TV.box b 0)=true) (Bz E PR Ai [AU (.box b 0) 0,.int .i64 (i:Nat),.int .i64 p] [] st1 k)):=λhp=>Aa rfl (Aa rfl (Bs rfl e0 (he _ hp)));refine Aa rfl (Dc rfl <| ?_);have rest:(b2=true->∀l,e≠.lst l->D6 b1 b2 kl u ini=some 6)->True:=λ_=>trivial;refine Ao (λhb2=>?_) λhb2=>?_
   ·refine Aa rfl (Aa rfl (H.ent1 hA' hl ?_))
    cases e with
    | opn w=>simp only at hf;rw[if_pos hb2]at hf;exact Aa rfl (Cq rfl (ff hf))
    | clo v q=>simp only at hf;rw[if_pos hb2]at hf;exact Aa rfl (Cq rfl (ff hf))
    | lst l=>
     simp only at hf;rw[if_pos hb2]at hf;exact Aa rfl (Dc rfl (Dc (by rw[hb2];rfl) (hk hf)))
   ·refine Cq (by rw[hb2];rfl) ?_
    refine Ao (λhb1=>?_) λhb1=>?_
    ·have hb1:b1=false:=by simpa using hb1
     cases e<;>(simp[hb1,hb2]at hf;exact ff (by rw[hb1,hb2];exact hf))
    ·have hb1:b1=true:=by simpa using hb1
     refine Aa rfl (Aa rfl (H.ent0 hA' hl ?_));cases e with
     | lst l=>simp only at hf;rw[if_neg (by rw[hb2];simp)]at hf;exact Aa rfl (Cq rfl (ff hf))
     | clo v q=>simp only at hf;rw[if_neg (by rw[hb2];simp)]at hf;exact Aa rfl (Cq rfl (ff hf))
     | opn w=>
      simp only at hf;rw[if_neg (by rw[hb2];simp)]at hf;refine Aa rfl (Dc rfl <| Aa rfl (Aa rfl (H.ent0 hA' hl (Aa rfl (Aa rfl (H.ldh (GJ hA' hl) (DO (Ao (λhv=>?_) λhv=>?_))))))))
      ·rw[if_neg (by rw[hv];simp)]at hf;exact ff hf
      ·rw[if_pos ⟨hb1,hv⟩]at hf;exact hk hf
end
def Ch (tab elem:Bool):Nat:=if elem=true then 2 else if tab=true then 1 else 0
def BN (tab elem:Bool) (kl:B8):Tb->List B8->Nat
 | u,[]=>match Aj kl u.es with
  | none=>Ch tab elem
  | some (_,.lst _)=>if elem=true then 1 else 0
  | some _=>0
 | u,k::ks=>match Aj k u.es with
  | none=>1+ks.length+Ch tab elem
  | some (_,.opn v)=>BN tab elem kl v ks
  | some (_,.lst l)=>BN tab elem kl (l.getLastD u) ks
  | some (_,.clo _ _)=>0
theorem Vi (tab elem:Bool) (kl:B8) (nu:Nu) (hd:Bool):∀ks,BN tab elem kl (Ar nu hd) ks=ks.length+Ch tab elem
 | []=>by simp[BN,Ar,Tb.es,Aj]
 | k::ks=>by simp[BN,Ar,Tb.es,Aj];omega
theorem NJ {nu:Nat->Nu} {nl:Nu} {kl:B8} {a:Asg} {i:Nat} {cur:List Hop} (hte:a.elem=true->a.tab=true) (hv:a.val.cnt=1):∀(ks:List B8) (j:Nat) {T t T':Tb} {h cur':List Hop} {p:Tb×List Hop},atT T h=some t->NeL (shT 1 T)->
  BE nu a.tab j T h ks=some p->B2 nl a i p.1 p.2 cur kl= .ok (T',cur')->
  (Ae T').cnt=(Ae T).cnt+BN a.tab a.elem kl t ks+(if a.tab=true then 0 else 1)/\(a.tab=true->dpH cur'=dpH p.2+(if a.elem=true then 2 else 1))/\(a.tab=false->cur'=cur)
 | [],j,T,t,T',h,cur',p,hA,hn,hh,hl=>by
  rw[BE]at hh;cases hh;unfold B2 at hl;rw[hA]at hl;simp only at hl⊢;rw[BN];have c0:∀t',(Ae (AA T h t')).cnt+(Ae t).cnt=(Ae T).cnt+(Ae t').cnt:=λt'=>by have:=(Ck h hA t').cnt;omega
  have n0:∀hd,(AK (.opn (Ar nl hd))).cnt=1:=FG nl;have n1:(AK (.lst [Ar nl false])).cnt=2:=by rw[AK,BS,BS,Ar,Ae,Bb];simp[Vl.cnt,AH,AX]
  by_cases he:a.elem=true
  ·rw[if_pos he]at hl
   have ht:=hte he;rw[if_pos ht];rcases hlk:Aj kl t.es with _ | ⟨eb,u | l | ⟨v,q⟩⟩<;>rw[hlk]at hl<;>simp only[Except.ok.injEq,Prod.mk.injEq,reduceCtorEq]at hl
   ·obtain⟨rfl,rfl⟩:=hl
    have:=c0 (AM t kl nl.eb (.lst [Ar nl false]));have h2:=E3 t kl nl.eb (.lst [Ar nl false]);refine⟨?_,λ_=>by rw[BY,if_pos he];rfl,λh=>by rw[ht]at h;cases h⟩;simp only[Ch,he,if_true];omega
   ·obtain⟨rfl,rfl⟩:=hl
    have h1:=((Ck h hA (BM t kl (.lst (l++[Ar nl false])))).trans (Ie (x:= .lst (l++[Ar nl false])) hlk)).cnt;have e0:AK (.lst l)= .mk scL (BS l) []:=by rw[AK]
    have e1:(AK (.lst (l++[Ar nl false]))).cnt=(AK (.lst l)).cnt+1:=by
     rw[Pz,e0];simp only[Vl.cnt,Fc,AH,Ar,Ae,Bb,AX];omega
    refine⟨?_,λ_=>by rw[BY,if_pos he];rfl,λh=>by rw[ht]at h;cases h⟩;simp only[he,if_true];omega
  ·rw[if_neg he]at hl
   by_cases ht:a.tab=true
   ·rw[if_pos ht]at hl⊢
    rcases hlk:Aj kl t.es with _ | ⟨eb,u | l | ⟨v,q⟩⟩<;>rw[hlk]at hl<;>simp only[Except.ok.injEq,Prod.mk.injEq,reduceCtorEq]at hl
    ·obtain⟨rfl,rfl⟩:=hl
     have:=c0 (AM t kl nl.eb (.opn (Ar nl true)));have h2:=E3 t kl nl.eb (.opn (Ar nl true));have h3:=n0 true;refine⟨?_,λ_=>by rw[BY,if_neg he];rfl,λh=>by rw[ht]at h;cases h⟩;simp only[Ch,he,ht,if_true,if_false,Bool.false_eq_true];omega
    ·split at hl
     ·cases hl
     ·simp only[Except.ok.injEq,Prod.mk.injEq]at hl
      obtain⟨rfl,rfl⟩:=hl;have h1:=((Ck h hA (BM t kl (.opn (BF u)))).trans (Ie (x:= .opn (BF u)) hlk)).cnt;have e1:AK (.opn (BF u))=AK (.opn u):=by rw[AK,AK,Gi]
      rw[e1]at h1;refine⟨?_,λ_=>by rw[BY,if_neg he];rfl,λh=>by rw[ht]at h;cases h⟩;simp only;omega
   ·rw[if_neg ht]at hl⊢
    rcases hlk:Aj kl t.es with _ | ⟨eb,e⟩<;>rw[hlk]at hl<;>simp only[Except.ok.injEq,Prod.mk.injEq,reduceCtorEq]at hl
    obtain⟨rfl,rfl⟩:=hl;have:=c0 (AM t kl nl.eb (.clo a.val i));have h2:=E3 t kl nl.eb (.clo a.val i);have h3:(AK (.clo a.val i)).cnt=1:=by rw[AK];exact hv
    refine⟨?_,λh=>absurd h ht,λ_=>rfl⟩;simp only[Ch,he,ht,if_false,Bool.false_eq_true];omega
 | k::ks,j,T,t,T',h,cur',p,hA,hn,hh,hl=>by
  rw[BE]at hh;cases h1:Df (nu j) a.tab T h k with
  | none=>rw[h1]at hh;cases hh
  | some q=>
   rw[h1]at hh;have hn':=TU hA (T':=q.1) (h':=q.2) h1 hn;unfold Df at h1;rw[hA]at h1;simp only at h1 hh;rw[BN];rcases hlk:Aj k t.es with _ | ⟨eb,v | l | ⟨v,q⟩⟩<;>rw[hlk]at h1<;>simp only at h1
   ·cases h1
    have ih:=NJ (nl:=nl) hte hv ks (j+1) (IE (nu:=nu j) (hd:=false) hA hlk) hn' hh hl;have hc:=NI (k:=k) (eb:=(nu j).eb) (e:= .opn (Ar (nu j) false)) hA;have h3:=FG (nu j) false;rw[Vi]at ih;refine⟨?_,ih.2⟩;have:=ih.1;simp only;omega
   ·cases h1
    exact NJ (nl:=nl) hte hv ks (j+1) (GJ hA hlk) hn' hh hl
   ·split at h1
    ·cases h1
     exact NJ (nl:=nl) hte hv ks (j+1) (GK hA hlk (PB (u:=t) (Sx hA hn hlk))) hn' hh hl
    ·cases h1
   ·cases h1
theorem Zz {nu:Nat->Nu} {tab hd:Bool} {nv:Nu}:∀(ks:List B8) (j:Nat) {T:Tb} {h:List Hop} {p:Tb×List Hop},atT T h=some (Ar nv hd)->BE nu tab j T h ks=some p->dpH p.2=dpH h+ks.length
 | [],j,T,h,p,hA,hh=>by rw[BE]at hh;cases hh;simp
 | k::ks,j,T,h,p,hA,hh=>by
  rw[BE]at hh;have hl:Aj k (Ar nv hd).es=none:=by simp[Ar,Tb.es,Aj]
  unfold Df at hh;rw[hA]at hh;simp only[hl]at hh;rw[Zz ks (j+1) (IE (nu:=nu j) (hd:=false) hA hl) hh,BY,List.length_cons];show dpH h+1+ks.length=_;omega
theorem Wf {nu:Nat->Nu} {tab:Bool} {k:B8} {ks:List B8} {j:Nat} {T t:Tb} {h:List Hop} {p:Tb×List Hop} (hA:atT T h=some t) (hl:Aj k t.es=none) (hh:BE nu tab j T h (k::ks)=some p):dpH p.2=dpH h+1+ks.length:=by
 rw[BE]at hh;unfold Df at hh;rw[hA]at hh;simp only[hl]at hh;rw[Zz ks (j+1) (IE (nu:=nu j) (hd:=false) hA hl) hh,BY];rfl
theorem plc_eq {L:LmT} {i:Nat} {T u:Tb} {cur:List Hop} {c:Nat} {tab elem:Bool} {ini:List B8} {kl:B8} (hte:elem=true->tab=true) (hA:atT T (if tab=true then []else cur)=some u) (hn:NeL (shT 1 T)):
  Ir L i T cur c tab elem (ini++[kl])=if (ini++[kl]).any (λk=>decide (1024<k.length))=true then .error (i,10)else
   match BE (λ_=>n0) tab 0 T (if tab=true then []else cur) ini with
   | none=> .error (i,8)
   | some p=>match B2 n0 ⟨tab,elem,ini++[kl],vlO⟩ 0 p.1 p.2 cur kl with
    | .error e=> .error (i,e)
    | .ok r=>match EC L i (BN tab elem kl u ini) (1+dpH p.2+Ch tab elem) c with
     | .error e=> .error e
     | .ok c'=> .ok (r.1,r.2,c',if tab=true then 1+dpH r.2 else 2+dpH p.2):=by
 have hp:C4 ⟨tab,elem,ini++[kl],vlO⟩=true:=by
  have hz:OG vlO=true:=by decide
  unfold C4;cases tab<;>cases elem<;>simp at hte<;>simp[hz]
 have hdl:(ini++[kl]).dropLast=ini:=by simp
 have hgl:(ini++[kl]).getLastD []=kl:=by simp
 unfold Ir;split
 ·rfl
 ·unfold EE Fg OM
  rw[if_neg (by rw[hp];simp)];simp only[hdl,hgl];cases hh:BE (λ_=>n0) tab 0 T (if tab=true then []else cur) ini with
  | none=>rfl
  | some p=>
   simp only;cases hl:B2 n0 ⟨tab,elem,ini++[kl],vlO⟩ 0 p.1 p.2 cur kl with
   | error e=>rfl
   | ok r=>
    obtain⟨h1,h2,h3⟩:=NJ (a:=⟨tab,elem,ini++[kl],vlO⟩) hte (by show vlO.cnt=1;simp[vlO,Vl.cnt,AH,AX]) ini 0 hA hn hh hl;simp only at h1 h2 h3⊢;cases tab with
    | true=>
     simp only[if_true]at h1⊢;rw[show(Ae r.1).cnt-(Ae T).cnt=BN true elem kl u ini from by omega,h2 rfl];have e2:1+(dpH p.2+if elem=true then 2 else 1)=1+dpH p.2+Ch true elem:=by unfold Ch;cases elem<;>simp<;>omega
     rw[e2];cases EC L i (BN true elem kl u ini) (1+dpH p.2+Ch true elem) c<;>rfl
    | false=>
     simp only[Bool.false_eq_true,if_false]at h1⊢;have he:elem=false:=by cases elem with | true=>exact absurd (hte rfl) (by simp) | false=>rfl
     rw[show(Ae r.1).cnt-(Ae T).cnt-1=BN false elem kl u ini from by omega];rw[List.length_append,Pv,List.length_singleton];have e2:dpH p.2+1=1+dpH p.2+Ch false elem:=by unfold Ch;rw[he];simp;omega
     rw[<-e2];have e3:1+(dpH p.2+1)=2+dpH p.2:=by omega
     rw[e3];cases EC L i (BN false elem kl u ini) (dpH p.2+1) c<;>rfl
section
variable {E:TV->St->Prop} {st0 st:St} {b n l c i0:Nat} {s:B8} {L:LmT} {y:Int×Int×Int} {tl:List TV} {T t:Tb} {h:List Hop}
theorem bx_add {k:B8} {eb:Nat} {e:En} (hA:atT T h=some t) {x:Nat} (hx:x∈bxL (shT 1 (AA T h (AM t k eb e)))):x∈bxL (shT 1 T)∨x∈eb::bxL (AL (1+dpH h) e):=by
 obtain⟨A,B,h1,h2⟩:=Hm h hA 1;rw[h2 (AM t k eb e) rfl,Mm,Ap,Ap,Az,Ap]at hx;rw[h1,Ap,Ap,BP,Az];simp only[bxS,List.map_append,List.map_cons,List.map_nil,List.mem_append,List.mem_cons,List.not_mem_nil,or_false]at hx⊢;rcases hx with g | ((g | g | g | g) | (g | g)) | g<;>simp only[g,true_or,or_true]
theorem bx_chg {k:B8} {eb:Nat} {e e':En} (hA:atT T h=some t) (hl:Aj k t.es=some (eb,e)) {x:Nat} (hx:x∈bxL (shT 1 (AA T h (BM t k e')))):x∈bxL (shT 1 T)∨x∈bxL (AL (1+dpH h) e'):=by
 obtain⟨A,B,h1,h2⟩:=Hm h hA 1;obtain⟨P,Q,p1,p2⟩:=Ft (1+dpH h) hl;have e2:bxL (shT (1+dpH h) (BM t k e'))=bxS ⟨t.b,t.m,t.hd,1+dpH h,t.es.map shK⟩++(bxL P++(bxL (AL (1+dpH h) e')++bxL Q)):=by
  rw[BP,Az];show bxS ⟨t.b,t.m,t.hd,1+dpH h,(BZ k e' t.es).map shK⟩++bxL (Cn _ (BZ k e' t.es))=_;rw[p2,Ap,Ap];show(t.b::t.m::((BZ k e' t.es).map shK).map (λx=>x.2.1))++_=_;rw[Qj];rfl
 rw[h2 (BM t k e') rfl,Ap,Ap,e2]at hx;rw[h1,Ap,Ap,BP,Az,p1,Ap,Ap];simp only[List.mem_append]at hx⊢;rcases hx with g | (g | g | g | g) | g<;>simp[g]
theorem HQ.mu {st2:St} {k:B8} {eb:Nat} {e:En} {K:St->Prop} (H:HQ n st (shT 1 T)) (hn:n<=st.nb) (hA:atT T h=some t) (hl:Aj k t.es=none) (hnb:st.nb<=st2.nb) (hbx:∀x,x∈bxL (shT 1 T)->st2.box x=st.box x)
  (he:EnQ st2 eb (shE e)) (hN:∀s,s∈AL (1+dpH h) e->ShQ st2 s) (hnd:(eb::bxL (AL (1+dpH h) e)).Nodup) (hnew:∀x,x∈eb::bxL (AL (1+dpH h) e)->st.nb<=x/\x<st2.nb)
  (hk:∀st3,st3.nb=st2.nb->(∀x,x≠t.m->st3.box x=st2.box x)->StX (·=t.m) st2 st3->HQ n st3 (shT 1 (AA T h (AM t k eb e)))->K st3):muK (.map t.m) k (.box eb 0) st2 K:=by
 obtain⟨q1,mp,q2,q3,q4⟩:=(H.at hA).1.tab;have tm:=(H.at hA).2 _ (Kq (1+dpH h) t).2;have tlt:=(H.lt _ tm).2;have hbx':∀x,x≠t.m->(st2.put t.m (.map (Gk k (.box eb 0) mp))).box x=st2.box x:=λx hx=>by simp[St.put,hx]
 refine⟨mp,by rw[hbx _ tm];exact q2,hk _ rfl hbx' (StX.put (S:=(·=t.m)) (i:=t.m) rfl _) (H.add hn hA hl q2 hnb (λx hx hne=>?_) ?_ (he.fr ?_) (λs hs=>(hN s hs).fr λx hx=>?_) hnd hnew)⟩
 ·rw[hbx' x hne];exact hbx x hx
 ·simp[St.put]
 ·have:=(hnew eb (.head _)).1
  exact hbx' _ (by omega)
 ·have:=(hnew x (.tail _ (Bw hs hx))).1
  exact hbx' _ (by omega)
theorem Nn {A D:Int} {a d:Nat} {K:TV->St->Prop} (H:PSB b s L y i0 l c tl st) (hA:A=(a:Nat)) (hD:D=(d:Nat)) (hc:c<=1000000000) (e0:Ag st0 st) (he:∀p,bgn L a d c= .error p->Fl E st0 p)
  (hk:∀m bb st',bgn L a d c= .ok (c+1)->PSB b s L y i0 l (c+1) tl st'->StX (·=b) st st'->st.nb<=m->m<bb->bb<st'.nb->st'.box m= .map []->st'.box bb= .cells [.map m,.int .i64 d,.bool false]->K (.box bb 0) st'):
  Bz E PR BC [.box b 0,.int .i64 A,.int .i64 D] [.one (.tv)] st K:=by
 subst hD;refine LH E b A d st K (IV H hA rfl hc e0 he λst1 h1 H1 x1=>Aa rfl ?_);have hb:=H1.lt;have n1:=x1.nb;have e1:Ag st1 ((st1.push (.map []) none).push (.cells [.map st1.nb,.int .i64 d,.bool false]) (some 290)):=((Ag.refl _).push _ _).push _ _;refine hk st1.nb _ _ h1 (H1.ext e1) (x1.trans (StX.of e1)) n1 (by simp[St.push]) (by simp[St.push]) ?_ ?_
 ·simp[St.push]
 ·simp[St.push]
structure PlW (b n:Nat) (T T':Tb) (S S':St):Prop where
 hq:HQ n S' (shT 1 T')
 nb:b∉bxL (shT 1 T')
 new:∀x,x∈bxL (shT 1 T')->x∈bxL (shT 1 T)∨S.nb<=x
 sx:StX (λx=>x=b∨x∈bxL (shT 1 T)) S S'
 rb:T'.b=T.b
theorem PlW.refl (H:HQ n st (shT 1 T)) (hb:b∉bxL (shT 1 T)):PlW b n T T st st:=⟨H,hb,λ_ h=> .inl h,StX.refl _ _,rfl⟩
theorem PlW.trans {T1 T2 T3:Tb} {S1 S2 S3:St} (h:PlW b n T1 T2 S1 S2) (k:PlW b n T2 T3 S2 S3):PlW b n T1 T3 S1 S3:=
 ⟨k.hq,k.nb,λx hx=>(k.new x hx).elim (λg=>h.new x g) λg=> .inr (Nat.le_trans h.sx.nb g),h.sx.out2 k.sx λx hx g=>g.elim .inl λg=>(h.new x g).elim .inr λg=>absurd g (by omega),by rw[k.rb,h.rb]⟩
theorem YO (d:Nat) (nu:Nu) (hd:Bool):shT d (Ar nu hd)=[⟨nu.b,nu.m,hd,d,[]⟩]:=by simp[Ar,shT,Cn]
theorem JK (d:Nat) (nu:Nu) (hd:Bool):bxL (shT d (Ar nu hd))=[nu.b,nu.m]:=by rw[YO,Az];rfl
theorem Tr {d:Nat} {nu:Nu} {hd:Bool} (h1:st.box nu.m= .map []) (h2:st.box nu.b= .cells [.map nu.m,.int .i64 d,.bool hd]):∀s,s∈shT d (Ar nu hd)->ShQ st s:=λs hs=>by
 rw[YO]at hs;rw[List.mem_singleton.1 hs];exact⟨h2,⟨[],h1,λk=>rfl⟩,λx hx=>by cases hx⟩
theorem Sv {A D:Int} {a:Nat} {k:B8} {K:St->St->Prop} (P:PSB b s L y i0 l c tl st) (H:HQ n st (shT 1 T)) (hb:b∉bxL (shT 1 T)) (hn:n<=st.nb) (hA:atT T h=some t) (hl:Aj k t.es=none) (ha:A=(a:Nat)) (hD:D=((1+dpH h+1:Nat):Int)) (hc:c<=1000000000) (e0:Ag st0 st)
  (he:∀p,bgn L a (1+dpH h+1) c= .error p->Fl E st0 p)
  (hk:∀sx nu st',nu.eb=sx.nb->bgn L a (1+dpH h+1) c= .ok (c+1)->PSB b s L y i0 l (c+1) tl st'->PlW b n T (AA T h (AM t k nu.eb (.opn (Ar nu false)))) st st'->K sx st'):
  Bz E PR BC [.box b 0,.int .i64 A,.int .i64 D] [.one (.tv)] st (λv st6=>need (List.all [v] Av) (need (isPtr (.box t.b 0)) (need (isPtr (.box t.b 0))
   (AS (Af (st6.push (.cells [v,.nilPtr]) (some 360)) [] (.t (.box t.b 0)) 0) λv17=>muK v17 k (.box st6.nb 0) (st6.push (.cells [v,.nilPtr]) (some 360)) λst7=>K st6 st7)))):=by
 refine Nn P ha hD hc e0 he λm bb st6 h1 P1 x1 m1 m2 m3 b1 b2=>Aa rfl (Aa rfl (Aa rfl ?_));have tm:=(H.at hA).2 _ (Kq (1+dpH h) t).2;have tb:=(H.at hA).2 _ (Kq (1+dpH h) t).1;have fr:∀x,x∈bxL (shT 1 T)->(st6.push (.cells [.box bb 0,.nilPtr]) (some 360)).box x=st.box x:=λx hx=>by
  have h2:=(H.lt x hx).2;have h3:=x1.nb;rw[<-x1.box x h2 (λhh=>hb (by rw[<-hh];exact hx))];have h4:x≠st6.nb:=by omega
  simp[St.push,h4]
 have hcell:=(H.at hA).1.tab.1;rw[<-fr _ tb]at hcell;refine Ac (Ay hcell 0 rfl) ?_;have e6:Ag st6 (st6.push (.cells [.box bb 0,.nilPtr]) (some 360)):=(Ag.refl _).push _ _;have n6:(st6.push (.cells [.box bb 0,.nilPtr]) (some 360)).nb=st6.nb+1:=rfl;refine H.mu (e:= .opn (Ar ⟨bb,m,st6.nb⟩ false)) hn hA hl (Nat.le_trans x1.nb e6.nb) fr ?_ ?_ ?_ ?_ λst7 g1 g2 g3 g4=>?_
 ·show _=_
  simp[St.push];rfl
 ·rw[AL]
  refine Tr ?_ ?_
  ·show(st6.push _ _).box m=_
   rw[e6.box m (by omega)];exact b1
  ·show(st6.push _ _).box bb=_
   rw[e6.box bb (by omega)];exact b2
 ·rw[AL,JK]
  simp only[List.nodup_cons,List.mem_cons,List.not_mem_nil,or_false,not_false_eq_true,List.nodup_nil,and_true];omega
 ·intro x hx
  rw[AL,JK]at hx;simp only[List.mem_cons,List.not_mem_nil,or_false]at hx;have:=x1.nb;rcases hx with rfl | rfl | rfl<;>constructor<;>first | omega | (show _<st6.nb+1;omega) | skip
  all_goals simp only
  all_goals omega
 ·have bne:b≠t.m:=λhh=>hb (by rw[hh];exact tm)
  have P7:PSB b s L y i0 l (c+1) tl st7:=by
   have P2:=P1.ext e6;exact⟨by rw[g2 b bne];exact P2.bx,by rw[g1];exact P2.lt,P2.le,P2.hi⟩
  have hnew:∀x,x∈bxL (shT 1 (AA T h (AM t k st6.nb (.opn (Ar ⟨bb,m,st6.nb⟩ false)))))->x∈bxL (shT 1 T)∨st.nb<=x:=λx hx=>(bx_add hA hx).elim .inl λhx=>by
   rw[AL,JK]at hx;simp only[List.mem_cons,List.not_mem_nil,or_false]at hx;have:=x1.nb;rcases hx with rfl | rfl | rfl<;>exact .inr (by omega)
  refine hk st6 ⟨bb,m,st6.nb⟩ st7 rfl h1 P7 ⟨g4,λhh=>?_,hnew,?_,Dg h hA rfl⟩
  ·rcases hnew b hh with g | g
   ·exact hb g
   ·have:=P.lt;omega
  ·exact((x1.trans (StX.of e6)).mono (λx hx=> .inl hx)).trans (g3.mono λx hx=> .inr (by rw[hx];exact tm))
end
section
variable {E:TV->St->Prop} {st0 st:St} {b n l c i0:Nat} {s:B8} {L:LmT} {y:Int×Int×Int} {tl:List TV} {T t:Tb} {h:List Hop}
theorem HQ.sub {k:B8} {eb:Nat} {e:En} (H:HQ n st (shT 1 T)) (hA:atT T h=some t) (hl:Aj k t.es=some (eb,e)):
  HQ n st (AL (1+dpH h) e)/\eb∉bxL (AL (1+dpH h) e)/\(∀x,x∈bxL (AL (1+dpH h) e)->x∈bxL (shT 1 T))/\eb∈bxL (shT 1 T):=by
 obtain⟨H1,sub⟩:=H.at hA;obtain⟨P,Q,p1,p2⟩:=Ft (1+dpH h) hl;have hmem0:shK (.mk k eb e)∈t.es.map shK:=List.mem_map.2 ⟨_,Hq hl,rfl⟩;have ebS:eb∈bxS ⟨t.b,t.m,t.hd,1+dpH h,t.es.map shK⟩:=Dx (s:=⟨t.b,t.m,t.hd,1+dpH h,t.es.map shK⟩) hmem0;have nd0:=H1.nd;rw[BP,Az,p1]at nd0;obtain⟨m1,m2,m3⟩:=List.nodup_append.1 nd0;obtain⟨r1,r2,r3⟩:=EO m2;have inE:∀{x},x∈bxL (AL (1+dpH h) e)->x∈bxL (P++(AL (1+dpH h) e++Q)):=λhx=>by
  rw[Ap,Ap];exact List.mem_append_right _ (List.mem_append_left _ hx)
 have inT:∀{x},x∈bxL (AL (1+dpH h) e)->x∈bxL (shT (1+dpH h) t):=λhx=>by
  rw[BP,Az,p1];exact List.mem_append_right _ (inE hx)
 refine⟨⟨r2,λx hx=>H1.lt x (inT hx),λs hs=>H1.sh s ?_⟩,λhh=>m3 eb ebS eb (inE hh) rfl,λx hx=>sub x (inT hx),sub _ ?_⟩
 ·rw[BP,p1];exact .tail _ (List.mem_append_right _ (List.mem_append_left _ hs))
 ·rw[BP,Az];exact List.mem_append_left _ ebS
theorem EnQ.two {eb:Nat} {e:ShE} (h:EnQ st eb e):∃x z,st.box eb= .cells [x,z]:=by
 cases e with
 | opn b=>exact⟨_,_,h⟩
 | lst bs=>exact⟨_,_,h.2⟩
 | clo v i=>exact⟨_,_,h⟩
theorem HQ.headK {k:B8} {eb:Nat} {u:Tb} {K:St->Prop} (P:PSB b s L y i0 l c tl st) (H:HQ n st (shT 1 T)) (hb:b∉bxL (shT 1 T)) (hn:n<=st.nb) (hA:atT T h=some t) (hl:Aj k t.es=some (eb,.opn u))
  (hk:∀st',PSB b s L y i0 l c tl st'->PlW b n T (AA T h (BM t k (.opn (BF u)))) st st'->K st'):stB st (.box u.b 2) [.bool true] K:=by
 obtain⟨Hu,hsub⟩:=H.at (GJ hA hl);obtain⟨q1,mp,q2,q3,q4⟩:=Hu.tab;obtain⟨_,hne,sub2,ebT⟩:=H.sub hA hl;have hdp:1+dpH (h++[(k,none)])=1+dpH h+1:=by rw[BY];rfl
 rw[hdp]at Hu hsub q1;have ub:=(Kq (1+dpH h+1) u).1;have um:=(Kq (1+dpH h+1) u).2;have ubT:=hsub _ ub;have bne:b≠u.b:=λhh=>hb (by rw[hh];exact ubT);refine Mk q1 (by simp) ?_;have g2:∀x,x≠u.b->(st.put u.b (.cells ([TV.map u.m,.int .i64 ((1+dpH h+1:Nat):Int),.bool u.hd].set 2 (.bool true)))).box x=st.box x:=λx hx=>by simp[St.put,hx]
 have g3:(st.put u.b (.cells ([TV.map u.m,.int .i64 ((1+dpH h+1:Nat):Int),.bool u.hd].set 2 (.bool true)))).box u.b= .cells [.map u.m,.int .i64 ((1+dpH h+1:Nat):Int),.bool true]:=by simp[St.put]
 have g4:StX (·=u.b) st (st.put u.b (.cells ([TV.map u.m,.int .i64 ((1+dpH h+1:Nat):Int),.bool u.hd].set 2 (.bool true)))):=StX.put (S:=(·=u.b)) (i:=u.b) rfl _;have g5:(st.put u.b (.cells ([TV.map u.m,.int .i64 ((1+dpH h+1:Nat):Int),.bool u.hd].set 2 (.bool true)))).nb=st.nb:=rfl;revert g2 g3 g4 g5;generalize (st.put u.b (.cells ([TV.map u.m,.int .i64 ((1+dpH h+1:Nat):Int),.bool u.hd].set 2 (.bool true))))=st';intro g2 g3 g4 g5;have eH:bxL (shT (1+dpH h+1) (BF u))=bxL (shT (1+dpH h+1) u):=by rw[Ts,BP,Az,Az];rfl
 have hHQ:HQ n st' (shT 1 (AA T h (BM t k (.opn (BF u))))):=by
  refine H.chg hn hA hl (by omega) (λx hx h1 h2=>g2 x λhh=>h2 (by rw[AL,hh];exact ub)) ?_ (λs hs=>?_) ?_ λx hx=>?_
  ·have:=H.ent hA hl
   show st'.box eb=_;rw[g2 eb (λhh=>hne (by rw[AL,hh];exact ub)),TX];exact this
  ·rw[AL,Ts]at hs
   have nd0:=Hu.nd;rw[BP,Az]at nd0;obtain⟨m1,m2,m3⟩:=List.nodup_append.1 nd0;have h0:=Hu.sh ⟨u.b,u.m,u.hd,1+dpH h+1,u.es.map shK⟩ (by rw[BP];exact .head _);rcases List.mem_cons.1 hs with rfl | hs
   ·obtain⟨mp',w1,w2⟩:=h0.mp
    simp only at w1 w2;refine⟨g3,⟨mp',?_,w2⟩,λx hx=>?_⟩
    ·show st'.box u.m=_
     rw[g2 u.m (λhh=>by rw[hh,q1]at q2;cases q2)];exact w1
    ·have hq:=h0.en x hx
     refine hq.fr (g2 _ λhh=>?_);obtain⟨p,z,hpz⟩:=hq.two;rw[hh,q1]at hpz;cases hpz
   ·refine(Hu.sh s (by rw[BP];exact .tail _ hs)).fr λx hx=>g2 x λhh=>?_
    exact m3 u.b (.head _) x (Bw hs hx) hh.symm
  ·rw[AL,eH];exact Hu.nd
  ·rw[AL,eH]at hx
   exact⟨by rw[g5];exact(Hu.lt x hx).2,.inl (by rw[AL];exact hx)⟩
 have hnew:∀x,x∈bxL (shT 1 (AA T h (BM t k (.opn (BF u)))))->x∈bxL (shT 1 T):=λx hx=>(bx_chg hA hl hx).elim id λhx=>by
  rw[AL,eH]at hx;exact hsub x hx
 refine hk st' ⟨by rw[g2 b bne];exact P.bx,by rw[g5];exact P.lt,P.le,P.hi⟩ ⟨hHQ,λhh=>hb (hnew b hh),λx hx=> .inl (hnew x hx),g4.mono λx hx=> .inr (by rw[hx];exact ubT),Dg h hA rfl⟩
theorem HQ.elemK {k:B8} {eb m bb:Nat} {e:En} {ls:List Tb} {st1:St} {K:St->Prop} (P:PSB b s L y i0 l c tl st1) (H:HQ n st (shT 1 T)) (hb:b∉bxL (shT 1 T)) (hbl:b<st.nb) (hn:n<=st.nb) (hA:atT T h=some t) (hl:Aj k t.es=some (eb,e))
  (he:(∃v i,e= .clo v i/\ls=[])∨e= .lst ls) (x1:StX (·=b) st st1) (m1:st.nb<=m) (m2:m<bb) (m3:bb<st1.nb) (b1:st1.box m= .map []) (b2:st1.box bb= .cells [.map m,.int .i64 ((1+dpH h+2:Nat):Int),.bool false])
  (hk:∀st',PSB b s L y i0 l c tl st'->PlW b n T (AA T h (BM t k (.lst (ls++[Ar ⟨bb,m,0⟩ false])))) st st'->K st'):stB st1 (.box eb 1) [.box bb 0] K:=by
 obtain⟨He,hne,sub,ebT⟩:=H.sub hA hl;have ebl:=(H.lt _ ebT).2;have bne:b≠eb:=λhh=>hb (by rw[hh];exact ebT);have hcell:∃z,st.box eb= .cells [.nilPtr,z]:=by
  have hq:=H.ent hA hl;rcases he with⟨v,i,rfl,_⟩ | rfl
  ·exact⟨_,hq⟩
  ·exact⟨_,hq.2⟩
 obtain⟨z,hz⟩:=hcell;have fr1:∀x,x∈bxL (shT 1 T)->st1.box x=st.box x:=λx hx=>x1.box x (H.lt x hx).2 λhh=>hb (by rw[<-hh];exact hx);rw[<-fr1 eb ebT]at hz;refine Mk hz (by simp) ?_;have g2:∀x,x≠eb->(st1.put eb (.cells ([TV.nilPtr,z].set 1 (.box bb 0)))).box x=st1.box x:=λx hx=>by simp[St.put,hx]
 have g3:(st1.put eb (.cells ([TV.nilPtr,z].set 1 (.box bb 0)))).box eb= .cells [.nilPtr,.box bb 0]:=by simp[St.put]
 have g4:StX (·=eb) st1 (st1.put eb (.cells ([TV.nilPtr,z].set 1 (.box bb 0)))):=StX.put (S:=(·=eb)) (i:=eb) rfl _;have g5:(st1.put eb (.cells ([TV.nilPtr,z].set 1 (.box bb 0)))).nb=st1.nb:=rfl;revert g2 g3 g4 g5;generalize (st1.put eb (.cells ([TV.nilPtr,z].set 1 (.box bb 0))))=st';intro g2 g3 g4 g5;have n1:=x1.nb;have eE:AL (1+dpH h) (.lst (ls++[Ar ⟨bb,m,0⟩ false]))=AL (1+dpH h) e++shT (1+dpH h+2) (Ar ⟨bb,m,0⟩ false):=by
  rw[AL,Ky,D5,D5,List.append_nil];rcases he with⟨v,i,rfl,rfl⟩ | rfl
  ·rw[AL,D5]
  ·rw[AL]
 have bE:bxL (AL (1+dpH h) (.lst (ls++[Ar ⟨bb,m,0⟩ false])))=bxL (AL (1+dpH h) e)++[bb,m]:=by rw[eE,Ap,JK]
 have hHQ:HQ n st' (shT 1 (AA T h (BM t k (.lst (ls++[Ar ⟨bb,m,0⟩ false]))))):=by
  refine H.chg hn hA hl (by omega) (λx hx h1 h2=>by rw[g2 x h1];exact fr1 x hx) ?_ (λs hs=>?_) ?_ λx hx=>?_
  ·refine⟨by simp,?_⟩
   rw[g3,List.map_append,List.map_cons,List.map_nil,List.getLastD_concat];rfl
  ·rw[eE]at hs
   rcases List.mem_append.1 hs with g | g
   ·refine(He.sh s g).fr λx hx=>?_
    have hx':=Bw g hx;rw[g2 x (λhh=>hne (by rw[<-hh];exact hx'))];exact fr1 x (sub x hx')
   ·refine Tr ?_ ?_ s g
    ·show st'.box m=_
     rw[g2 m (by omega)];exact b1
    ·show st'.box bb=_
     rw[g2 bb (by omega)];exact b2
  ·rw[bE]
   refine List.nodup_append.2 ⟨He.nd,by simp;omega,λx hx z hz hh=>?_⟩;have:=(He.lt x hx).2;simp only[List.mem_cons,List.not_mem_nil,or_false]at hz;omega
  ·rw[bE]at hx
   rcases List.mem_append.1 hx with g | g
   ·exact⟨by have:=(He.lt x g).2;omega,.inl g⟩
   ·simp only[List.mem_cons,List.not_mem_nil,or_false]at g
    exact⟨by omega,.inr (by omega)⟩
 have hnew:∀x,x∈bxL (shT 1 (AA T h (BM t k (.lst (ls++[Ar ⟨bb,m,0⟩ false])))))->x∈bxL (shT 1 T)∨st.nb<=x:=λx hx=>(bx_chg hA hl hx).elim .inl λhx=>by
  rw[bE]at hx;rcases List.mem_append.1 hx with g | g
  ·exact .inl (sub x g)
  ·simp only[List.mem_cons,List.not_mem_nil,or_false]at g
   exact .inr (by omega)
 refine hk st' ⟨by rw[g2 b bne];exact P.bx,by rw[g5];exact P.lt,P.le,P.hi⟩ ⟨hHQ,λhh=>(hnew b hh).elim hb (by omega),hnew,?_,Dg h hA rfl⟩;exact(x1.mono λx hx=> .inl hx).trans (g4.mono λx hx=> .inr (by rw[hx];exact ebT))
theorem Vq {k:B8} {K:St->Prop} (P:PSB b s L y i0 l c tl st) (H:HQ n st (shT 1 T)) (hb:b∉bxL (shT 1 T)) (hn:n<=st.nb) (hA:atT T h=some t) (hl:Aj k t.es=none)
  (hk:∀st',PSB b s L y i0 l c tl st'->PlW b n T (AA T h (AM t k st.nb (.clo vlO 0))) st st'->K st'):
  muK (.map t.m) k (.box st.nb 0) (st.push (.cells [.nilPtr,.nilPtr]) (some 360)) K:=by
 have tm:=(H.at hA).2 _ (Kq (1+dpH h) t).2;have e6:Ag st (st.push (.cells [.nilPtr,.nilPtr]) (some 360)):=(Ag.refl _).push _ _;have fr:∀x,x∈bxL (shT 1 T)->(st.push (.cells [.nilPtr,.nilPtr]) (some 360)).box x=st.box x:=λx hx=>e6.box x (H.lt x hx).2;refine H.mu (e:= .clo vlO 0) hn hA hl e6.nb fr ?_ ?_ ?_ ?_ λst7 g1 g2 g3 g4=>?_
 ·show _=_
  simp[St.push]
 ·rw[AL];intro s hs;cases hs
 ·rw[AL];simp[bxL]
 ·intro x hx
  rw[AL]at hx;simp[bxL]at hx;subst hx;exact⟨Nat.le_refl _,Nat.lt_succ_self _⟩
 ·have bne:b≠t.m:=λhh=>hb (by rw[hh];exact tm)
  have P2:=P.ext e6;have hnew:∀x,x∈bxL (shT 1 (AA T h (AM t k st.nb (.clo vlO 0))))->x∈bxL (shT 1 T)∨st.nb<=x:=λx hx=>(bx_add hA hx).elim .inl λhx=>by
   rw[AL]at hx;simp[bxL]at hx;exact .inr (by omega)
  refine hk st7 ⟨by rw[g2 b bne];exact P2.bx,by rw[g1];exact P2.lt,P2.le,P2.hi⟩ ⟨g4,λhh=>(hnew b hh).elim hb (by have:=P.lt;omega),hnew,?_,Dg h hA rfl⟩;exact(StX.of e6).trans (g3.mono λx hx=> .inr (by rw[hx];exact tm))
theorem Aaj {k:B8} {K:St->Prop} (P:PSB b s L y i0 l c tl st) (H:HQ n st (shT 1 T)) (hb:b∉bxL (shT 1 T)) (hn:n<=st.nb) (hA:atT T h=some t) (hl:Aj k t.es=none)
  (hk:∀st',PSB b s L y i0 l c tl st'->PlW b n T (AA T h (AM t k st.nb (.clo vlO 0))) st st'->K st'):
  AS (Af (st.push (.cells [.nilPtr,.nilPtr]) (some 360)) [] (.t (.box t.b 0)) 0) λv17=>muK v17 k (.box st.nb 0) (st.push (.cells [.nilPtr,.nilPtr]) (some 360)) K:=by
 have tb:=(H.at hA).2 _ (Kq (1+dpH h) t).1;have e6:Ag st (st.push (.cells [.nilPtr,.nilPtr]) (some 360)):=(Ag.refl _).push _ _;have hcell:=(H.at hA).1.tab.1;rw[<-e6.box _ (H.lt _ tb).2]at hcell;exact Ac (Ay hcell 0 rfl) (Vq P H hb hn hA hl hk)
theorem PlW.same {st1:St} (H:HQ n st (shT 1 T)) (hb:b∉bxL (shT 1 T)) (x1:StX (·=b) st st1):PlW b n T T st st1:=
 ⟨H.fr x1.nb λx hx=>x1.box x (H.lt x hx).2 λhh=>hb (by rw[<-hh];exact hx),hb,λx hx=> .inl hx,x1.mono λx hx=> .inl hx,rfl⟩
theorem TG {K:St->Prop} {r0 r1 r2 r3 v:TV} (P:PSB b s L y i0 l c [r0,r1,r2,r3] st) (H:HQ n st (shT 1 T)) (hb:b∉bxL (shT 1 T)) (hk:∀st',PSB b s L y i0 l c [r0,v,r2,r3] st'->PlW b n T T st st'->K st'):stB st (.box b 10) [v] K:=by
 refine Mk P.bx (by simp[sbC]) (hk _ ⟨by simp[St.put,sbC],P.lt,P.le,P.hi⟩ ⟨H.fr (Nat.le_refl _) λx hx=>?_,hb,λx hx=> .inl hx,(StX.put (S:=(·=b)) (i:=b) rfl _).mono λx hx=> .inl hx,rfl⟩);have:x≠b:=λhh=>hb (by rw[<-hh];exact hx);simp[St.put,this]
end
section
theorem TA {tab elem:Bool} {kl:B8}:∀(ks:List B8) (u:Tb),BN tab elem kl (erT u) ks=BN tab elem kl u ks
 | [],u=>by
  rw[BN,BN,L0,Eu];rcases Aj kl u.es with _ | ⟨eb,v | l | ⟨v,i⟩⟩<;>simp[erE]
 | k::ks,u=>by
  rw[BN,BN,L0,Eu];rcases Aj k u.es with _ | ⟨eb,v | l | ⟨v,i⟩⟩
  ·rfl
  ·simp only[Option.map_some,erE];exact TA ks v
  ·simp only[Option.map_some,erE,ET]
   have:(l.map erT).getLastD (erT u)=erT (l.getLastD u):=by
    rw[List.getLastD_eq_getLast?,List.getLastD_eq_getLast?,List.getLast?_map];cases l.getLast? <;>rfl
   rw[this];exact TA ks _
  ·simp only[Option.map_some,erE]
theorem T0 {tab elem:Bool} {kl:B8}:∀(ks:List B8) (u:Tb),D6 tab elem kl (erT u) ks=D6 tab elem kl u ks
 | [],u=>by
  rw[D6,D6,L0,Eu];rcases Aj kl u.es with _ | ⟨eb,v | l | ⟨v,i⟩⟩<;>simp[erE,Zr]
 | k::ks,u=>by
  rw[D6,D6,L0,Eu];rcases Aj k u.es with _ | ⟨eb,v | l | ⟨v,i⟩⟩
  ·rfl
  ·simp only[Option.map_some,erE];exact T0 ks v
  ·simp only[Option.map_some,erE,ET]
   have:(l.map erT).getLastD (erT u)=erT (l.getLastD u):=by
    rw[List.getLastD_eq_getLast?,List.getLastD_eq_getLast?,List.getLast?_map];cases l.getLast? <;>rfl
   rw[this];split
   ·exact T0 ks _
   ·rfl
  ·simp only[Option.map_some,erE]
theorem neK_er:∀es:List Kn,(∀x,x∈es.map shK->∀bs,x.2.2= .lst bs->bs≠ [])->∀x,x∈(Fn es).map shK->∀bs,x.2.2= .lst bs->bs≠ []
 | [],_,x,hx=>by rw[Fn]at hx;cases hx
 | .mk k eb e::r,h,x,hx=>by
  rw[Fn,List.map_cons]at hx;rcases List.mem_cons.1 hx with rfl | hx
  ·intro bs hbs
   have h1:=h (shK (.mk k eb e)) (by rw[List.map_cons];exact .head _);cases e with
   | opn u=>simp[shK,Kn.en,erE,shE]at hbs
   | clo v i=>simp[shK,Kn.en,erE,shE]at hbs
   | lst l=>
    have h2:=h1 (l.map Tb.b) rfl;simp only[shK,Kn.en,erE,shE,ShE.lst.injEq]at hbs;rw[<-hbs,ET];intro hh;apply h2;cases l with
    | nil=>rfl
    | cons a r=>simp at hh
  ·exact neK_er r (λx hx=>h x (by rw[List.map_cons];exact .tail _ hx)) x hx
mutual
theorem VE:∀(t:Tb) (d:Nat),NeL (shT d t)->NeL (shT d (erT t))
 | .mk b m hd es,d,h=>by
  rw[erT,shT];rw[shT]at h;obtain⟨h1,h2⟩:=NeL.cons.1 h;exact NeL.cons.2 ⟨neK_er es h1,Y0 es d h2⟩
theorem Y0:∀(es:List Kn) (d:Nat),NeL (Cn d es)->NeL (Cn d (Fn es))
 | [],d,h=>by rw[Fn];exact h
 | .mk k eb e::r,d,h=>by
  rw[Fn,Cn];rw[Cn]at h;obtain⟨h1,h2⟩:=NeL.app.1 h;exact NeL.app.2 ⟨ne_erE e d h1,Y0 r d h2⟩
theorem ne_erE:∀(e:En) (d:Nat),NeL (AL d e)->NeL (AL d (erE e))
 | .opn t,d,h=>by rw[erE,AL];rw[AL]at h;exact VE t (d+1) h
 | .lst l,d,h=>by rw[erE,AL];rw[AL]at h;exact YZ l (d+2) h
 | .clo v i,d,h=>by rw[erE];exact h
theorem YZ:∀(l:List Tb) (d:Nat),NeL (D5 d l)->NeL (D5 d (Ov l))
 | [],d,h=>by rw[Ov];exact h
 | t::r,d,h=>by
  rw[Ov,D5];rw[D5]at h;obtain⟨h1,h2⟩:=NeL.app.1 h;exact NeL.app.2 ⟨VE t d h1,YZ r d h2⟩
end
structure PlI (n b:Nat) (s:B8) (L:LmT) (y:Int×Int×Int) (i0 l:Nat) (tl:List TV) (T u0:Tb) (h0:List Hop) (ini:List B8) (kl:B8) (tab elem:Bool) (i c:Nat) (p:Tb×List Hop) (S:St)
  (j:Nat) (Tj:Tb) (hj:List Hop) (t:Tb) (cj:Nat) (st1:St):Prop where
 ps:PSB b s L y i0 l cj tl st1
 w:PlW b n T Tj S st1
 at_:atT Tj hj=some t
 hp:BE (λ_=>n0) tab j (erT Tj) hj (ini.drop j)=some p
 bg:EC L i (BN tab elem kl u0 ini) (1+dpH p.2+Ch tab elem) c=EC L i (BN tab elem kl t (ini.drop j)) (1+dpH p.2+Ch tab elem) cj
 cb:cj<=c+j
 db:dpH hj<=dpH h0+2*j
 pre:∃r u',hj=h0++r/\atT Tj h0=some u'/\u'.b=u0.b
variable {E:TV->St->Prop} {st0 S st1:St} {n b i0 l i c j cj:Nat} {s:B8} {L:LmT} {y:Int×Int×Int} {tl:List TV} {T u0 Tj t:Tb} {h0 hj:List Hop} {ini:List B8} {kl:B8} {tab elem:Bool} {p:Tb×List Hop}
theorem PlI.out (I:PlI n b s L y i0 l tl T u0 h0 ini kl tab elem i c p S j Tj hj t cj st1) (H:HQ n S (shT 1 T)) (hb:st0.nb<=b) (hn:st0.nb<=n) (e0:Ag st0 S):Ag st0 st1:=
 I.w.sx.out e0 λx hx=>hx.elim (λg=>by rw[g];exact hb) λg=>Nat.le_trans hn (H.lt x g).1
theorem PlI.old {w:Tb} {k:B8} {ks:List B8} {o:Option Nat} (I:PlI n b s L y i0 l tl T u0 h0 ini kl tab elem i c p S j Tj hj t cj st1) (hd:ini.drop j=k::ks)
  (hh:Df n0 tab (erT Tj) hj k=some (erT Tj,hj++[(k,o)])) (hw:atT Tj (hj++[(k,o)])=some w) (hr:BN tab elem kl t (k::ks)=BN tab elem kl w ks):PlI n b s L y i0 l tl T u0 h0 ini kl tab elem i c p S (j+1) Tj (hj++[(k,o)]) w cj st1:=by
 have hd':ini.drop (j+1)=ks:=by rw[<-List.drop_drop,hd];rfl
 have hp:=I.hp;rw[hd,BE,hh]at hp;have bg:=I.bg;rw[hd,hr]at bg;obtain⟨r,u',h1,h2,h3⟩:=I.pre;refine⟨I.ps,I.w,hw,by rw[hd'];exact hp,by rw[hd'];exact bg,by have:=I.cb;omega,?_,r++[(k,o)],u',by rw[h1,List.append_assoc],h2,h3⟩;have:=I.db;rw[BY];have:dpH [(k,o)]<=2:=by cases o<;>simp[dpH]
 omega
theorem PlI.new {nu:Nu} {k:B8} {ks:List B8} {st2:St} (I:PlI n b s L y i0 l tl T u0 h0 ini kl tab elem i c p S j Tj hj t cj st1) (hd:ini.drop j=k::ks) (hl:Aj k t.es=none)
  (hb:bgn L i (1+dpH hj+1) cj= .ok (cj+1)) (P:PSB b s L y i0 l (cj+1) tl st2) (W:PlW b n Tj (AA Tj hj (AM t k nu.eb (.opn (Ar nu false)))) st1 st2):
  PlI n b s L y i0 l tl T u0 h0 ini kl tab elem i c p S (j+1) (AA Tj hj (AM t k nu.eb (.opn (Ar nu false)))) (hj++[(k,none)]) (Ar nu false) (cj+1) st2:=by
 have hd':ini.drop (j+1)=ks:=by rw[<-List.drop_drop,hd];rfl
 have hp:=I.hp;rw[hd]at hp;have hdep:=Wf (by rw[K2,I.at_];rfl) (by rw[L0,Eu,hl];rfl) hp;have hh:Df n0 tab (erT Tj) hj k=some (erT (AA Tj hj (AM t k nu.eb (.opn (Ar nu false)))),hj++[(k,none)]):=by
  rw[TW nu];unfold Df;rw[I.at_];simp only[hl];rfl
 rw[BE,hh]at hp;have bg:=I.bg;have e1:BN tab elem kl t (k::ks)=(ks.length+Ch tab elem)+1:=by rw[BN,hl];simp only;omega
 rw[hd,e1,EC,show 1+dpH p.2+Ch tab elem-(ks.length+Ch tab elem)=1+dpH hj+1 from by omega,hb]at bg;obtain⟨r,u',h1,h2,h3⟩:=I.pre;refine⟨P,I.w.trans W,IE I.at_ hl,by rw[hd'];exact hp,by rw[hd',Vi];exact bg,by have:=I.cb;omega,?_,r++[(k,none)],?_⟩
 ·have:=I.db
  rw[BY];show dpH hj+1<=_;omega
 ·obtain⟨u2,g1,g2⟩:=Rf (t:=t) (x:=AM t k nu.eb (.opn (Ar nu false))) h2 (by rw[<-h1];exact I.at_) rfl
  rw[<-h1]at g1;exact⟨u2,by rw[h1,List.append_assoc],g1,by rw[g2,h3]⟩
theorem PlI.err {k:B8} {ks:List B8} {e:EP} (I:PlI n b s L y i0 l tl T u0 h0 ini kl tab elem i c p S j Tj hj t cj st1) (hd:ini.drop j=k::ks) (hl:Aj k t.es=none)
  (hb:bgn L i (1+dpH hj+1) cj= .error e):EC L i (BN tab elem kl u0 ini) (1+dpH p.2+Ch tab elem) c= .error e:=by
 have hp:=I.hp;rw[hd]at hp;have hdep:=Wf (by rw[K2,I.at_];rfl) (by rw[L0,Eu,hl];rfl) hp;have e1:BN tab elem kl t (k::ks)=(ks.length+Ch tab elem)+1:=by rw[BN,hl];simp only;omega
 rw[I.bg,hd,e1,EC,show 1+dpH p.2+Ch tab elem-(ks.length+Ch tab elem)=1+dpH hj+1 from by omega,hb]
end
section
variable {E:TV->St->Prop} {st0 st:St} {n b i0 l i c:Nat} {s:B8} {L:LmT} {y:Int×Int×Int} {asg kids:TV} {T u:Tb} {cur:List Hop} {ini:List B8} {kl:B8}
theorem bgns1 (L:LmT) (i d c:Nat):EC L i 1 d c=bgn L i d c:=by
 show(match bgn L i (d-0) c with | .error e=> .error e | .ok c1=> .ok c1:Except EP Nat)=_
 rw[Nat.sub_zero];cases bgn L i d c<;>rfl
theorem bgns2 (L:LmT) (i d c:Nat):EC L i 2 (d+1) c=match bgn L i d c with | .error e=> .error e | .ok c1=>bgn L i (d+1) c1:=by
 show(match bgn L i (d+1-1) c with | .error e=> .error e | .ok c1=>EC L i 1 (d+1) c1:Except EP Nat)=_
 rw[Nat.add_sub_cancel];cases bgn L i d c with
 | error e=>rfl
 | ok c1=>exact bgns1 L i (d+1) c1
theorem Sl {a_0 a_1 a_4 a_5:Bool} {a_2 a_13 a_14 a_15:TV} {a_3 a_7 a_8 a_9 a_10 a_11:Int} {a_6 a_12:B8} {A:Int} {K:Int->St->Prop}
  (P:PSB b s L y i0 l c [.box T.b 0,.box u.b 0,asg,kids] st) (H:HQ n st (shT 1 T)) (hb:b∉bxL (shT 1 T)) (hn0:st0.nb<=n) (hn:n<=st.nb) (hbn:st0.nb<=b) (hu:atT T cur=some u) (e0:Ag st0 st)
  (hte:a_1=true->a_0=true) (hr:Rd 1 a_2 (ini++[kl]).length ((ini++[kl]).map TV.str)) (hl:(ini++[kl]).length<=1000000) (hA:A=(i:Nat)) (hc:c<=10000000) (hcnt:(Ae T).cnt<=10000000)
  (he:∀p,Ir L i (erT T) cur c a_0 a_1 (ini++[kl])= .error p->Fl E st0 p)
  (hk:∀T' cur' c' d D u' st',Ir L i (erT T) cur c a_0 a_1 (ini++[kl])= .ok (erT T',cur',c',d)->(a_0=false->D=((d:Nat):Int))->atT T' cur'=some u'->PSB b s L y i0 l c' [.box T'.b 0,.box u'.b 0,asg,kids] st'->PlW b n T T' st st'->K D st'):
  Bz E PR Db [.box b 0,.int .i64 A,.agg [.bool a_0,.bool a_1,a_2,.int .i64 a_3,.bool a_4,.bool a_5,.str a_6,.int .i64 a_7,.int .i64 a_8,.int .i64 a_9,.int .i64 a_10,.int .i64 a_11,.str a_12,a_13,a_14,a_15]] [.one (.int .i64)] st K:=by
 subst hA;have hne:=H.ne;obtain⟨h0,u0,hh0,hA0⟩:∃h0 u0,(if a_0=true then []else cur)=h0/\atT T h0=some u0/\(u0=if a_0=true then T else u):=by
  cases a_0 with
  | true=>exact⟨[],T,rfl,by cases T;rfl,rfl⟩
  | false=>exact⟨cur,u,rfl,hu,rfl⟩
 obtain⟨hA0,hu0⟩:=hA0;have hneE:NeL (shT 1 (erT T)):=VE T 1 hne;have hpl:=plc_eq (L:=L) (i:=i) (T:=erT T) (u:=erT u0) (cur:=cur) (c:=c) (tab:=a_0) (elem:=a_1) (ini:=ini) (kl:=kl) hte (by rw[hh0,K2,hA0];rfl) hneE;rw[hh0]at hpl;rcases hr with⟨_,g0,_⟩ | ⟨tip,rfl⟩
 ·simp at g0
 refine Ki E b i a_0 a_1 _ a_3 a_4 a_5 a_6 a_7 a_8 a_9 a_10 a_11 a_12 a_13 a_14 a_15 st K (Aa rfl ?_);refine⟨λn_1 l_1 at_1 v_1 n_2 b1 b2 v1 _ _ _ _ _ _ _ _ _ _ _ _ _ st1=>∃(j:Nat),n_1=(j:Int)/\j<=(ini++[kl]).length/\l_1= .box b 0/\at_1=(i:Int)/\
   v_1= .list 1 tip (ini++[kl]).length ((ini++[kl]).map TV.str)/\n_2=((ini++[kl]).length:Int)/\b1=a_0/\b2=a_1/\v1= .list 1 tip (ini++[kl]).length ((ini++[kl]).map TV.str)/\st1=st/\(ini++[kl]).any (λk=>decide (1024<k.length))=((ini++[kl]).drop j).any (λk=>decide (1024<k.length)),
  λn_1 _ _ _ _ _ _ _ _ _ _ _ _ _ _ _ _ _ _ _ _ _=>(ini++[kl]).length-n_1.toNat,⟨0,rfl,Nat.zero_le _,rfl,rfl,rfl,rfl,rfl,rfl,rfl,rfl,rfl⟩,?_⟩
 rintro n_1 l_1 at_1 v_1 n_2 b1 b2 v1 n1 b3 b4 s1 n2 n3 n4 n5 n6 s2 v2 v3 v4 st1 ⟨j,rfl,hj,rfl,rfl,rfl,rfl,rfl,rfl,rfl,rfl,hany⟩;refine Ab (λhlt=>?_) λhge=>?_
 ·have hlt:j<(ini++[kl]).length:=by omega
  have hwj:IntKind.wrap .i64 ((j:Int)+1)=((j+1:Nat):Int):=by rw[Ah _ (by omega) (by omega)];simp
  rw[Oy hlt,List.any_cons]at hany;refine⟨⟨by omega,by show(j:Int)<((ini++[kl]).length:Int);omega⟩,?_⟩;refine VS rfl hlt (AO ?_);rw[hwj];refine Ab (λhbig=>?_) λhbig=>?_
  ·refine Aa rfl (Aa rfl (Bs rfl e0 (he _ ?_)))
   rw[hpl,if_pos];rw[hany];simp only[Bool.or_eq_true,decide_eq_true_eq];exact .inl (by omega)
  ·refine⟨⟨j+1,rfl,hlt,rfl,rfl,rfl,rfl,rfl,rfl,rfl,rfl,?_⟩,by dsimp only;omega⟩
   rw[hany,decide_eq_false (by omega),Bool.false_or]
 ·have hj':j=(ini++[kl]).length:=by omega
  subst hj';rw[List.drop_length]at hany;rw[if_neg (by rw[hany];simp)]at hpl;refine Aa rfl (Aa rfl (Ac (Ay P.bx 10 rfl) ⟨λb_1 l_2 at_2 b5 b6 v7 _ _ _ _ _ _ _ _ _ _ _ _ _ st3=>b_1= .box u0.b 0/\l_2= .box b 0/\at_2=(i:Int)/\b5=b1/\b6=b2/\v7= .list 1 tip (ini++[kl]).length ((ini++[kl]).map TV.str)/\st3=st1,?_,?_⟩))
  ·refine Ao (λhb1=>?_) λhb1=>?_
   ·rw[if_pos hb1]at hu0
    exact Aa rfl (Aa rfl (Ac (Ay P.bx 9 rfl) ⟨by rw[hu0],rfl,rfl,rfl,rfl,rfl,rfl⟩))
   ·rw[if_neg (by rw[hb1];simp)]at hu0
    exact⟨by rw[hu0],rfl,rfl,rfl,rfl,rfl,rfl⟩
  rintro b_1 l_2 at_2 b5 b6 v7 n7 b7 b8 s4 n8 n9 n10 n11 n12 s5 v8 v9 v10 st3 ⟨rfl,rfl,rfl,rfl,rfl,rfl,rfl⟩;have hfit:=NB (nu:=λ_=>n0) (tab:=b5) (elem:=b6) (kl:=kl) ini 0 (T:=erT T) (u:=erT u0) (h:=h0) (by rw[K2,hA0];rfl) hneE;rw[T0]at hfit;have hl':ini.length+1<=1000000:=by rw[List.length_append,List.length_singleton]at hl;exact hl
  have hdp0:=Oz hA0;have hw:IntKind.wrap .i64 ((lenS (.list 1 tip (ini++[kl]).length ((ini++[kl]).map TV.str)):Int)-1)=(ini.length:Int):=by
   rw[Ah _ (by simp[lenS]<;>omega) (by simp[lenS]<;>omega)];simp[lenS]
  have hv:slT 1 .non (.list 1 tip (ini++[kl]).length ((ini++[kl]).map TV.str)) 0 (Int.toNat (ini.length:Int))= .list 1 .non ini.length (ini.map TV.str):=by
   simp only[slT,Int.toNat_natCast,Nat.sub_zero,Nat.mul_one,Nat.zero_mul,List.drop_zero,List.map_append];rw[List.take_left' (by simp)]
  refine fits_ok H hA0 (.inr ⟨tip,rfl⟩) hl e0 (λe hf=>he _ ?_) λhf=>?_
  ·rw[hpl]
   revert hfit;cases hh:BE (λ_=>n0) b5 0 (erT T) h0 ini with
   | none=>intro g;simp only at g⊢;rw[hf]at g;cases g;rfl
   | some p=>
    rintro⟨t,g1,g2⟩;simp only;rw[hf]at g2;have g3:=fit_last (a:=⟨b5,b6,ini++[kl],vlO⟩) (i:=0) (cur:=cur) (nu:=n0) g1 g2.symm;rw[g3]
  cases hh:BE (λ_=>n0) b5 0 (erT T) h0 ini with
  | none=>rw[hh]at hfit;simp only at hfit;rw[hf]at hfit;cases hfit
  | some p=>
   rw[hh]at hfit hpl;obtain⟨t0,g1,g2⟩:=hfit;rw[hf]at g2;obtain⟨r0,g3⟩:=XR (a:=⟨b5,b6,ini++[kl],vlO⟩) (i:=0) (cur:=cur) (nu:=n0) g1 g2.symm;simp only at g3 hpl;rw[g3,TA]at hpl;simp only at hpl;refine Aa rfl ?_;rw[hw,hv];refine⟨⟨rfl,by omega,by simp[lenS]<;>omega⟩,Aa rfl ?_⟩;refine⟨λt_1 n_1 b_1 at_1 v_1 n_2 b1 b2 v1 _ _ _ _ _ _ _ _ _ _ _ _ _ st2=>∃(j:Nat) (Tj:Tb) (h:List Hop) (t:Tb) (cj:Nat),n_1=(j:Int)/\j<=ini.length/\t_1= .box t.b 0/\b_1= .box b 0/\at_1=(i:Int)/\
    v_1= .list 1 .non ini.length (ini.map TV.str)/\n_2=(ini.length:Int)/\b1=b5/\b2=b6/\v1= .list 1 tip (ini++[kl]).length ((ini++[kl]).map TV.str)/\PlI n b s L y i0 l [.box T.b 0,.box u.b 0,asg,kids] T u0 h0 ini kl b5 b6 i c p st3 j Tj h t cj st2,
    λ_ n_1 _ _ _ _ _ _ _ _ _ _ _ _ _ _ _ _ _ _ _ _ _=>ini.length-n_1.toNat,
    ⟨0,T,h0,u0,c,rfl,Nat.zero_le _,rfl,rfl,rfl,rfl,rfl,rfl,rfl,rfl,⟨P,PlW.refl H hb,hA0,hh,rfl,by omega,by omega,[],u0,by simp,hA0,rfl⟩⟩,?_⟩
   rintro t_1 n_1 b_1 at_1 v_1 n_2 b1 b2 v1 n1 b3 b4 s1 n2 n3 n4 n5 n6 s2 v2 v3 v4 st2 ⟨j,Tj,h,t,cj,rfl,hj,rfl,rfl,rfl,rfl,rfl,rfl,rfl,rfl,I⟩;have e1:=I.out H hbn hn0 e0;have hdb:=I.db;have hcb:=I.cb;have Hj:=I.w.hq;have hnj:n<=st2.nb:=Nat.le_trans hn I.w.sx.nb;refine Ab (λhlt=>?_) λhge=>?_
   ·have hlt:j<ini.length:=by omega
    have hwj:IntKind.wrap .i64 ((j:Int)+1)=((j+1:Nat):Int):=by rw[Ah _ (by omega) (by omega)];simp
    have hd:=Oy hlt;refine⟨⟨by omega,by show(j:Int)<(ini.length:Int);omega⟩,?_⟩;refine VS rfl hlt (AO (Aa rfl (Aa rfl (Hj.ldm I.at_ (Hj.map I.at_ λes hes=>?_)))));rw[hes (ini.getD j [])];rw[hwj];have hp:=I.hp;rw[hd,BE]at hp;have step:∀{w:Tb} {h':List Hop} {Tj':Tb} {cj':Nat} {st4:St},PlI n b s L y i0 l [.box T.b 0,.box u.b 0,asg,kids] T u0 h0 ini kl b1 b2 i c p st3 (j+1) Tj' h' w cj' st4->
      (∃(j':Nat) (Tj:Tb) (h:List Hop) (t:Tb) (cj:Nat),((j+1:Nat):Int)=(j':Int)/\j'<=ini.length/\(TV.box w.b 0)= .box t.b 0/\(TV.box b 0)= .box b 0/\(i:Int)=(i:Int)/\
       (TV.list 1 .non ini.length (ini.map TV.str))= .list 1 .non ini.length (ini.map TV.str)/\(ini.length:Int)=(ini.length:Int)/\b1=b1/\b2=b2/\(TV.list 1 tip (ini++[kl]).length ((ini++[kl]).map TV.str))= .list 1 tip (ini++[kl]).length ((ini++[kl]).map TV.str)/\PlI n b s L y i0 l [.box T.b 0,.box u.b 0,asg,kids] T u0 h0 ini kl b1 b2 i c p st3 j' Tj h t cj st4)/\
      ini.length-((j+1:Nat):Int).toNat<ini.length-((j:Nat):Int).toNat:=λ{w h' Tj' cj' st4} q=>
     ⟨⟨j+1,Tj',h',w,cj',rfl,hlt,rfl,rfl,rfl,rfl,rfl,rfl,rfl,rfl,q⟩,by omega⟩
    rcases hlk:Aj (ini.getD j []) t.es with _ | ⟨eb,e⟩
    ·rw[Option.map_none]
     refine Aa rfl (Cq rfl (Aa rfl (Aa rfl (Hj.ldd I.at_ (Am ?_)))));have hwd:IntKind.wrap .i64 (((1+dpH h:Nat):Int)+1)=((1+dpH h+1:Nat):Int):=by rw[Ah _ (by omega) (by omega)];simp
     rw[hwd];refine Sv I.ps Hj I.w.nb hnj I.at_ hlk rfl rfl (by omega) e1 (λq hq=>he _ ?_) λsx nu st4 hsx hb4 P4 W4=>?_
     ·rw[hpl,I.err hd hlk hq]
     ·have I4:=I.new hd hlk hb4 P4 W4
      have hA4:atT (AA Tj h (AM t (ini.getD j []) nu.eb (.opn (Ar nu false)))) h=some (AM t (ini.getD j []) nu.eb (.opn (Ar nu false))):=CT h I.at_;have hl4:Aj (ini.getD j []) (AM t (ini.getD j []) nu.eb (.opn (Ar nu false))).es=some (nu.eb,.opn (Ar nu false)):=by rw[Fx hlk,if_pos rfl]
      rw[<-hsx];exact W4.hq.ent0 hA4 hl4 (Aa rfl (Dc rfl (step I4)))
    ·rw[Option.map_some]
     rw[TW n0]at hp;unfold Df at hp;rw[I.at_]at hp;simp only[hlk]at hp;have hq:∀{o:Option Nat} {w:Tb},Df n0 b1 Tj h (ini.getD j [])=some (Tj,h++[(ini.getD j [],o)])->atT Tj (h++[(ini.getD j [],o)])=some w->BN b1 b2 kl t (ini.getD j []::ini.drop (j+1))=BN b1 b2 kl w (ini.drop (j+1))->PlI n b s L y i0 l [.box T.b 0,.box u.b 0,asg,kids] T u0 h0 ini kl b1 b2 i c p st3 (j+1) Tj (h++[(ini.getD j [],o)]) w cj st2:=λq1 q2 q3=>
      I.old hd (by rw[TW n0,q1];rfl) q2 q3
     refine Aa rfl (Dc rfl (Aa rfl (Aa rfl (Hj.ent0 I.at_ hlk ?_))));cases e with
     | opn w=>
      exact Aa rfl (Dc rfl (step (hq (by unfold Df;rw[I.at_];simp only[hlk]) (GJ I.at_ hlk) (by rw[BN,hlk]))))
     | lst ls=>
      simp only at hp;by_cases hb1:b1=true
      ·have hl2:=PB (u:=t) (Sx I.at_ Hj.ne hlk)
       exact Aa rfl (Cq rfl (Aa rfl (Aa rfl (Hj.ent1 I.at_ hlk (step (hq (by unfold Df;rw[I.at_];simp only[hlk,hb1,if_true]) (GK I.at_ hlk hl2) (by rw[BN,hlk])))))))
      ·rw[if_neg hb1]at hp;cases hp
     | clo v q=>simp only at hp;cases hp
   ·have hj':j=ini.length:=by omega
    subst hj';have hhe:Hj=Hj:=rfl;have hp:=I.hp;rw[List.drop_length,BE]at hp;obtain rfl:(erT Tj,h)=p:=Option.some.inj hp;have hat:atT (erT Tj) h=some (erT t):=by rw[K2,I.at_];rfl
    obtain rfl:t0=erT t:=Option.some.inj (g1.symm.trans hat);have hft:D6 b1 b2 kl t []=none:=by rw[<-T0,<-g2]
    have bgE:=I.bg;rw[List.drop_length]at bgE;rw[bgE]at hpl;have fin:∀(nu:Nu) (T':Tb) (cur':List Hop) (c':Nat) (D:Int) (u':Tb) (st':St),B2 nu ⟨b1,b2,ini++[kl],vlO⟩ 0 Tj h cur kl= .ok (T',cur')->EC L i (BN b1 b2 kl t []) (1+dpH h+Ch b1 b2) cj= .ok c'->
      (b1=false->D=((2+dpH h:Nat):Int))->atT T' cur'=some u'->PSB b s L y i0 l c' [.box T'.b 0,.box u'.b 0,asg,kids] st'->PlW b n Tj T' st2 st'->K D st':=λnu T' cur' c' D u' st' q1 q2 q3 q4 q5 q6=>by
     have hr0:r0=(erT T',cur'):=by
      have:=Y9 nu ⟨b1,b2,ini++[kl],vlO⟩ 0 Tj h cur kl;rw[q1]at this;exact Except.ok.inj (g3.symm.trans this)
     subst hr0;simp only at hpl q2;rw[q2]at hpl;simp only at hpl;exact hk T' cur' c' _ D u' st' hpl (λhb1=>by rw[q3 hb1,if_neg (by rw[hb1];simp)]) q4 q5 (I.w.trans q6)
    have err:∀e,EC L i (BN b1 b2 kl t []) (1+dpH h+Ch b1 b2) cj= .error e->Fl E st0 e:=λe q=>he _ (by
     simp only at hpl;rw[q]at hpl;exact hpl)
    have hwk:∀m:Nat,m<=5->IntKind.wrap .i64 (((1+dpH h:Nat):Int)+(m:Int))=((1+dpH h+m:Nat):Int):=λm hm=>by rw[Ah _ (by omega) (by omega)];omega
    have XU:∀{st':St} {T':Tb} {t':Tb},HQ n st' (shT 1 T')->atT T' h=some t'->t'.b=t.b->K ((2+dpH h:Nat):Int) st'->AS (Af st' [] (.t (.box t.b 1)) 0) (λx=>CG (.int .i64) x λn28=>K (IntKind.wrap .i64 (n28+1)) st'):=λ{st' T' t'} q1 q2 q3 q4=>by
     have:=q1.ldd q2 (f:=λx=>CG (.int .i64) x λn28=>K (IntKind.wrap .i64 (n28+1)) st') (Am (by
      have:=hwk 1 (by omega);rw[show(((1:Nat):Int))=1 from rfl]at this;rw[this,show 1+dpH h+1=2+dpH h from by omega];exact q4))
     rw[q3]at this;exact this
    refine Aa rfl ?_;rw[hw];refine⟨⟨by omega,by show(ini.length:Int)<((ini++[kl]).length:Int);simp only[List.length_append,List.length_singleton];omega⟩,?_⟩;refine VS rfl (by simp) (AO (Aa rfl (Aa rfl (Hj.ldm I.at_ (Hj.map I.at_ λes hes=>?_)))));have hkl:(ini++[kl]).getD ini.length []=kl:=by simp
    rw[hkl];have hs:=hes kl;refine Ao (λhb2=>?_) λhb2=>?_
    ·have hb1:b1=true:=hte hb2
     rw[hs];have hln:Ch b1 b2=2:=by simp only[Ch,hb2,if_true]
     rcases hlk:Aj kl t.es with _ | ⟨eb,e⟩
     ·rw[Option.map_none]
      have hrl:BN b1 b2 kl t []=2:=by rw[BN,hlk];exact hln
      refine Aa rfl (Cq rfl (Aa rfl (Aa rfl (Aa rfl (Aa rfl (Hj.ldd I.at_ (Am ?_)))))));rw[show((1+dpH h:Nat):Int)+1=((1+dpH h:Nat):Int)+((1:Nat):Int)from rfl,hwk 1 (by omega)];have hbg1:EC L i 2 (1+dpH h+Ch b1 b2) cj=match bgn L i (1+dpH h+1) cj with | .error e=> .error e | .ok c1=>bgn L i (1+dpH h+2) c1:=by
       rw[hln];exact bgns2 L i (1+dpH h+1) cj
      refine IV I.ps rfl rfl (by omega) e1 (λq hq=>err _ (by rw[hrl,hbg1,hq])) λst4 hb4 P4 x4=>?_;have W4:=PlW.same Hj I.w.nb x4;have hn4:n<=st4.nb:=Nat.le_trans hnj W4.sx.nb;refine⟨by have:=(W4.hq.at I.at_).1.tab.1;exact Ay this 1 rfl,Aa rfl (Aa rfl (Aaj P4 W4.hq W4.nb hn4 I.at_ hlk λst5 P5 W5=>?_))⟩;have hA5:atT (AA Tj h (AM t kl st4.nb (.clo vlO 0))) h=some (AM t kl st4.nb (.clo vlO 0)):=CT h I.at_;have hl5:Aj kl (AM t kl st4.nb (.clo vlO 0)).es=some (st4.nb,.clo vlO 0):=by rw[Fx hlk,if_pos rfl]
      have W45:=W4.trans W5;have e5:Ag st0 st5:=(I.w.trans W45).sx.out e0 λx hx=>hx.elim (λg=>by rw[g];exact hbn) λg=>Nat.le_trans hn0 (H.lt x g).1;refine Aa rfl (Aa rfl ?_);refine(show ∀{f:TV->Prop},f (.int .i64 ((1+dpH h:Nat):Int))->AS (Af st5 [] (.t (.box t.b 1)) 0) f fromλhf=>W5.hq.ldd hA5 hf) (Am ?_);rw[show((1+dpH h:Nat):Int)+2=((1+dpH h:Nat):Int)+((2:Nat):Int)from rfl,hwk 2 (by omega)];have hn5:n<=st5.nb:=Nat.le_trans hnj W45.sx.nb;refine Nn P5 rfl rfl (by omega) e5 (λq hq=>err _ (by rw[hrl,hbg1,hb4];exact hq)) λm bb st6 hb6 P6 x6 m1 m2 m3 bx1 bx2=>Aa rfl ?_;refine HQ.elemK (ls:=[]) P6 W5.hq W5.nb P5.lt hn5 hA5 hl5 (.inl ⟨_,_,rfl,rfl⟩) x6 m1 m2 m3 bx1 bx2 λst7 P7 W7=>?_;have eT:AA (AA Tj h (AM t kl st4.nb (.clo vlO 0))) h (BM (AM t kl st4.nb (.clo vlO 0)) kl (.lst ([]++[Ar ⟨bb,m,0⟩ false])))=AA Tj h (AM t kl st4.nb (.lst [Ar ⟨bb,m,st4.nb⟩ false])):=by
       rw[G6 h I.at_,Uo hlk];rfl
      rw[eT]at W7;have hA7:atT (AA Tj h (AM t kl st4.nb (.lst [Ar ⟨bb,m,st4.nb⟩ false]))) h=some (AM t kl st4.nb (.lst [Ar ⟨bb,m,st4.nb⟩ false])):=CT h I.at_;have hl7:Aj kl (AM t kl st4.nb (.lst [Ar ⟨bb,m,st4.nb⟩ false])).es=some (st4.nb,.lst [Ar ⟨bb,m,st4.nb⟩ false]):=by rw[Fx hlk,if_pos rfl]
      refine W7.hq.ent1 hA7 hl7 (Aa rfl (Aa rfl (Aa rfl (TG P7 W7.hq W7.nb λst8 P8 W8=>Aa rfl (Aa rfl (XU W8.hq hA7 rfl ?_))))));refine fin ⟨bb,m,st4.nb⟩ _ _ (cj+1+1) _ (Ar ⟨bb,m,st4.nb⟩ false) st8 ?_ (by rw[hrl,hbg1,hb4];exact hb6) (λhh=>absurd (hb1.symm.trans hh) (by simp)) (GK (i:=0) hA7 hl7 rfl) ?_ (W45.trans (W7.trans W8))
      ·unfold B2
       rw[I.at_];simp only[hb2,hlk,if_true]
      ·rw[Dg (x:=AM t kl st4.nb (.lst [Ar ⟨bb,m,st4.nb⟩ false])) h I.at_ rfl,I.w.rb];exact P8
     ·rw[Option.map_some]
      rw[D6,hlk]at hft;cases e with
      | opn w=>simp[hb2]at hft
      | clo v q=>simp[hb2]at hft
      | lst ls=>
       have hrl:BN b1 b2 kl t []=1:=by rw[BN,hlk];simp only[hb2,if_true]
       have hbg1:EC L i 1 (1+dpH h+Ch b1 b2) cj=bgn L i (1+dpH h+2) cj:=by
        rw[hln];exact bgns1 L i _ cj
       refine Aa rfl (Dc rfl (Aa rfl (Aa rfl (Hj.ldd I.at_ (Am ?_)))));rw[show((1+dpH h:Nat):Int)+2=((1+dpH h:Nat):Int)+((2:Nat):Int)from rfl,hwk 2 (by omega)];refine Nn I.ps rfl rfl (by omega) e1 (λq hq=>err _ (by rw[hrl,hbg1,hq])) λm bb st6 hb6 P6 x6 m1 m2 m3 bx1 bx2=>Aa rfl (Aa rfl (Aa rfl ?_));refine HQ.elemK (ls:=ls) P6 Hj I.w.nb I.ps.lt hnj I.at_ hlk (.inr rfl) x6 m1 m2 m3 bx1 bx2 λst7 P7 W7=>?_;have hA7:atT (AA Tj h (BM t kl (.lst (ls++[Ar ⟨bb,m,0⟩ false])))) h=some (BM t kl (.lst (ls++[Ar ⟨bb,m,0⟩ false]))):=CT h I.at_;have hl7:Aj kl (BM t kl (.lst (ls++[Ar ⟨bb,m,0⟩ false]))).es=some (eb,.lst (ls++[Ar ⟨bb,m,0⟩ false])):=I2 hlk;refine Aa rfl (Aa rfl (W7.hq.ent1 hA7 hl7 (Aa rfl (Aa rfl (Aa rfl (TG P7 W7.hq W7.nb λst8 P8 W8=>Aa rfl (Aa rfl (XU W8.hq hA7 rfl ?_))))))));refine fin ⟨bb,m,0⟩ _ _ (cj+1) _ (Ar ⟨bb,m,0⟩ false) st8 ?_ (by rw[hrl,hbg1,hb6]) (λhh=>absurd (hb1.symm.trans hh) (by simp)) (GK (i:=ls.length) hA7 hl7 (by simp)) ?_ (W7.trans W8)
       ·unfold B2
        rw[I.at_];simp only[hb2,hlk,if_true]
       ·rw[Dg (x:=BM t kl (.lst (ls++[Ar ⟨bb,m,0⟩ false]))) h I.at_ rfl,I.w.rb,show(Ar ⟨bb,m,0⟩ false).b=bb from rfl]
        simp only[List.getLastD_concat]at P8;exact P8
    ·refine Ao (λhb1=>?_) λhb1=>?_
     ·rw[hs]
      rcases hlk:Aj kl t.es with _ | ⟨eb,e⟩
      ·rw[Option.map_none]
       refine Aa rfl (Cq rfl (Aa rfl (Aa rfl (Hj.ldd I.at_ (Am ?_)))));rw[show((1+dpH h:Nat):Int)+1=((1+dpH h:Nat):Int)+((1:Nat):Int)from rfl,hwk 1 (by omega)];have hrl:BN b1 b2 kl t []=1:=by rw[BN,hlk];simp only[Ch,hb1,hb2,if_false,if_true,Bool.false_eq_true]
       have hb1g:EC L i 1 (1+dpH h+Ch b1 b2) cj=bgn L i (1+dpH h+1) cj:=by
        rw[show Ch b1 b2=1 from by simp only[Ch,hb1,hb2,if_false,if_true,Bool.false_eq_true]];exact bgns1 L i _ cj
       refine Sv I.ps Hj I.w.nb hnj I.at_ hlk rfl rfl (by omega) e1 (λq hq=>err _ (by rw[hrl,hb1g,hq])) λsx nu st4 hsx hb4 P4 W4=>?_;rw[<-hsx];have hA4:atT (AA Tj h (AM t kl nu.eb (.opn (Ar nu false)))) h=some (AM t kl nu.eb (.opn (Ar nu false))):=CT h I.at_;have hl4:Aj kl (AM t kl nu.eb (.opn (Ar nu false))).es=some (nu.eb,.opn (Ar nu false)):=by rw[Fx hlk,if_pos rfl]
       have hn4:n<=st4.nb:=Nat.le_trans hnj W4.sx.nb;refine W4.hq.ent0 hA4 hl4 (Aa rfl (Aa rfl (HQ.headK P4 W4.hq W4.nb hn4 hA4 hl4 λst5 P5 W5=>?_)));have eT:AA (AA Tj h (AM t kl nu.eb (.opn (Ar nu false)))) h (BM (AM t kl nu.eb (.opn (Ar nu false))) kl (.opn (BF (Ar nu false))))=AA Tj h (AM t kl nu.eb (.opn (Ar nu true))):=by
        rw[G6 h I.at_,Uo hlk];rfl
       rw[eT]at W5;have hA5:atT (AA Tj h (AM t kl nu.eb (.opn (Ar nu true)))) h=some (AM t kl nu.eb (.opn (Ar nu true))):=CT h I.at_;have hl5:Aj kl (AM t kl nu.eb (.opn (Ar nu true))).es=some (nu.eb,.opn (Ar nu true)):=by rw[Fx hlk,if_pos rfl]
       refine W5.hq.ent0 hA5 hl5 (Aa rfl (Aa rfl (Aa rfl (TG P5 W5.hq W5.nb λst6 P6 W6=>Aa rfl (Aa rfl (XU W6.hq hA5 rfl ?_))))));refine fin nu _ _ (cj+1) _ (Ar nu true) st6 ?_ (by rw[hrl,hb1g,hb4]) (λhh=>absurd (hb1.symm.trans hh) (by simp)) (GJ hA5 hl5) ?_ (W4.trans (W5.trans W6))
       ·unfold B2
        rw[I.at_];simp only[hb1,hb2,hlk,if_false,if_true,Bool.false_eq_true]
       ·rw[Dg (x:=AM t kl nu.eb (.opn (Ar nu true))) h I.at_ rfl,I.w.rb];exact P6
      ·rw[Option.map_some]
       have hrl:BN b1 b2 kl t []=0:=by rw[BN,hlk];cases e<;>simp[hb2]
       rw[D6,hlk]at hft;cases e with
       | lst ls=>simp[hb1,hb2]at hft
       | clo v q=>simp[hb1,hb2]at hft
       | opn w=>
        have hhd:w.hd=false:=by
         simp only at hft;rw[if_neg (by rw[hb2];simp)]at hft;split at hft
         ·rename_i hh;exact hh.2
         ·cases hft
        refine Aa rfl (Dc rfl (Aa rfl (Aa rfl (Hj.ent0 I.at_ hlk (Aa rfl (Aa rfl (HQ.headK I.ps Hj I.w.nb hnj I.at_ hlk λst5 P5 W5=>?_)))))));have hA5:atT (AA Tj h (BM t kl (.opn (BF w)))) h=some (BM t kl (.opn (BF w))):=CT h I.at_;have hl5:Aj kl (BM t kl (.opn (BF w))).es=some (eb,.opn (BF w)):=I2 hlk;refine Aa rfl (Aa rfl (W5.hq.ent0 hA5 hl5 (Aa rfl (Aa rfl (Aa rfl (TG P5 W5.hq W5.nb λst6 P6 W6=>Aa rfl (Aa rfl (XU W6.hq hA5 rfl ?_))))))));refine fin n0 _ _ cj _ (BF w) st6 ?_ (by rw[hrl,EC]) (λhh=>absurd (hb1.symm.trans hh) (by simp)) (GJ hA5 hl5) ?_ (W5.trans W6)
        ·unfold B2
         rw[I.at_];simp only[hb1,hb2,hlk,hhd,if_false,if_true,Bool.false_eq_true]
        ·rw[Dg (x:=BM t kl (.opn (BF w))) h I.at_ rfl,I.w.rb];exact P6
     ·have hlk:Aj kl t.es=none:=by
       rw[D6]at hft;rcases hq:Aj kl t.es with _ | ⟨eb,v | ls | ⟨v,q⟩⟩
       ·rfl
       all_goals rw[hq]at hft;simp[hb1,hb2]at hft
      refine Aa rfl (Aa rfl (Hj.ldm I.at_ (Vq I.ps Hj I.w.nb hnj I.at_ hlk λst4 P4 W4=>Aa rfl (Aa rfl (XU W4.hq (CT h I.at_) rfl ?_)))));obtain⟨r,u2,g5,g6,g7⟩:=I.pre;have hcur:h0=cur:=by rw[<-hh0,if_neg (by rw[hb1];simp)]
      subst hcur;rw[if_neg (by rw[hb1];simp)]at hu0;subst hu0;obtain⟨u3,g8,g9⟩:=Rf (t:=t) (x:=AM t kl st2.nb (.clo vlO 0)) g6 (by rw[<-g5];exact I.at_) rfl;rw[<-g5]at g8;refine fin ⟨0,0,st2.nb⟩ _ _ cj _ u3 st4 ?_ ?_ (λ_=>rfl) g8 ?_ W4
      ·unfold B2
       rw[I.at_];simp only[hb1,hb2,hlk,if_false,Bool.false_eq_true]
      ·rw[BN,hlk];simp only[Ch,hb1,hb2,if_false,Bool.false_eq_true,EC]
      ·rw[g9,g7,W4.rb,I.w.rb];exact P4
end
section
def TI:Nd->List Nd | .mk _ _ _ ks _=>ks
def TdR (st:St):Nd->List TV->List Nat->Prop
 | .mk k l t ks tl,cs,bs=>∃v xs,cs=[.int .i64 k,.str l,.str t,v,.str tl]/\Bi ks xs/\((Rd 5 v ks.length xs/\bs=[]/\k=5)∨(k=7/\BQ st 5 v ks.length xs bs))
def TsR (st:St):List Nd->List TV->List Nat->Prop
 | [],xs,bs=>xs=[]/\bs=[]
 | n::r,xs,bs=>∃a b p q,xs=a++b/\bs=p++q/\TdR st n a p/\TsR st r b q
def DkR (st:St) (v:TV) (kids:List Nd) (fp:List Nat):Prop:=∃xs bs fs,BQ st 5 v kids.length xs bs/\TsR st kids xs fs/\fp=bs++fs/\fp.Nodup
theorem TdR.len {st:St} {n:Nd} {cs:List TV} {bs:List Nat} (h:TdR st n cs bs):cs.length=5:=by
 cases n;obtain⟨v,xs,rfl,_⟩:=h;rfl
theorem TsR.len {st:St}:∀{ks:List Nd} {xs:List TV} {bs:List Nat},TsR st ks xs bs->xs.length=ks.length*5
 | [],xs,bs,h=>by rw[h.1];rfl
 | n::r,xs,bs,⟨a,b,p,q,h1,h2,h3,h4⟩=>by rw[h1,List.length_append,h3.len,TsR.len h4,List.length_cons];omega
theorem TdR.lt {st:St} {n:Nd} {cs:List TV} {bs:List Nat} (h:TdR st n cs bs):∀x,x∈bs->x<st.nb:=by
 cases n;obtain⟨v,xs,rfl,_,⟨_,rfl,_⟩ | ⟨_,h1⟩⟩:=h
 ·intro x hx;cases hx
 ·exact h1.lt
theorem TsR.lt {st:St}:∀{ks:List Nd} {xs:List TV} {bs:List Nat},TsR st ks xs bs->∀x,x∈bs->x<st.nb
 | [],xs,bs,h,x,hx=>by rw[h.2]at hx;cases hx
 | n::r,xs,bs,⟨a,b,p,q,h1,h2,h3,h4⟩,x,hx=>by
  rw[h2]at hx;exact(List.mem_append.1 hx).elim (h3.lt x) (TsR.lt h4 x)
theorem TdR.frame {S:Nat->Prop} {st st':St} (e:StX S st st') {n:Nd} {cs:List TV} {bs:List Nat} (hs:∀x,x∈bs->¬S x) (h:TdR st n cs bs):TdR st' n cs bs:=by
 cases n;obtain⟨v,xs,h1,h2,h3 | ⟨h3,h4⟩⟩:=h
 ·exact⟨v,xs,h1,h2,.inl h3⟩
 ·exact⟨v,xs,h1,h2,.inr ⟨h3,h4.frame e hs⟩⟩
theorem TsR.frame {S:Nat->Prop} {st st':St} (e:StX S st st'):∀{ks:List Nd} {xs:List TV} {bs:List Nat},(∀x,x∈bs->¬S x)->TsR st ks xs bs->TsR st' ks xs bs
 | [],xs,bs,hs,h=>h
 | n::r,xs,bs,hs,⟨a,b,p,q,h1,h2,h3,h4⟩=>⟨a,b,p,q,h1,h2,h3.frame e (λx hx=>hs x (by rw[h2];exact List.mem_append_left _ hx)),TsR.frame e (λx hx=>hs x (by rw[h2];exact List.mem_append_right _ hx)) h4⟩
theorem TsR.snoc {st:St} {n:Nd} {c:List TV} {q:List Nat} (hn:TdR st n c q):∀{ks:List Nd} {a:List TV} {p:List Nat},TsR st ks a p->TsR st (ks++[n]) (a++c) (p++q)
 | [],a,p,h=>by rw[h.1,h.2];exact⟨c,[],q,[],by simp,by simp,hn,rfl,rfl⟩
 | m::r,xs,bs,⟨a,b,p,q',h1,h2,h3,h4⟩=>⟨a,b++c,p,q'++q,by rw[h1,List.append_assoc],by rw[h2,List.append_assoc],h3,TsR.snoc hn h4⟩
theorem TsR.last {st:St} {n:Nd}:∀{ks:List Nd} {xs:List TV} {bs:List Nat},TsR st (ks++[n]) xs bs->∃a c p q,xs=a++c/\bs=p++q/\TsR st ks a p/\TdR st n c q
 | [],xs,bs,⟨a,b,p,q,h1,h2,h3,h4,h5⟩=>⟨[],a,[],p,by rw[h1,h4];simp,by rw[h2,h5];simp,⟨rfl,rfl⟩,h3⟩
 | m::r,xs,bs,⟨a,b,p,q,h1,h2,h3,h4⟩=>by
  obtain⟨a',c,p',q',g1,g2,g3,g4⟩:=TsR.last h4;exact⟨a++a',c,p++p',q',by rw[h1,g1,List.append_assoc],by rw[h2,g2,List.append_assoc],⟨a,a',p,p',rfl,rfl,h3,g3⟩,g4⟩
theorem DkR.frame {S:Nat->Prop} {st st':St} (e:StX S st st') {v:TV} {ks:List Nd} {fp:List Nat} (hs:∀x,x∈fp->¬S x) (h:DkR st v ks fp):DkR st' v ks fp:=by
 obtain⟨xs,bs,fs,h1,h2,h3,h4⟩:=h;exact⟨xs,bs,fs,h1.frame e (λx hx=>hs x (by rw[h3];exact List.mem_append_left _ hx)),h2.frame e (λx hx=>hs x (by rw[h3];exact List.mem_append_right _ hx)),h3,h4⟩
theorem DkR.lt {st:St} {v:TV} {ks:List Nd} {fp:List Nat} (h:DkR st v ks fp):∀x,x∈fp->x<st.nb:=by
 obtain⟨xs,bs,fs,h1,h2,rfl,h4⟩:=h;exactλx hx=>(List.mem_append.1 hx).elim (h1.lt x) (h2.lt x)
theorem DkR.nil (st:St):DkR st .nilSlice [] []:=⟨[],[],[],BQ.nil _ _,⟨rfl,rfl⟩,rfl,by simp⟩
variable {st:St} {b i0 l c:Nat} {s:B8} {L:LmT} {y:Int×Int×Int} {r0 r1 r2 kv:TV} {kids:List Nd} {fp:List Nat}
theorem kidPut {K:St->Prop} {v:TV} (P:PSB b s L y i0 l c [r0,r1,r2,kv] st) (hk:∀st',PSB b s L y i0 l c [r0,r1,r2,v] st'->StX (·=b) st st'->K st'):stB st (.box b 12) [v] K:=by
 refine Mk P.bx (by simp[sbC]) (hk _ ⟨by simp[St.put,sbC],P.lt,P.le,P.hi⟩ (StX.put (S:=(·=b)) (i:=b) rfl _))
theorem PSB.fr {S:Nat->Prop} {tl:List TV} {st':St} (P:PSB b s L y i0 l c tl st) (e:StX S st st') (hb:¬S b):PSB b s L y i0 l c tl st':=
 ⟨(e.box b P.lt hb).trans P.bx,Nat.lt_of_lt_of_le P.lt e.nb,P.le,P.hi⟩
theorem topApp {n_0:Int} {n_1 n_2 n_4:B8} {n_3:TV} {ks:List Nd} {K:St->Prop} (P:PSB b s L y i0 l c [r0,r1,r2,kv] st) (D:DkR st kv kids fp) (hb:b∉fp) (hn:∀st',TdR st' (.mk n_0 n_1 n_2 ks n_4) [.int .i64 n_0,.str n_1,.str n_2,n_3,.str n_4] []) (h3:Av n_3=true) (hl:kids.length<=1000000)
  (hK:∀kv' fp' st',PSB b s L y i0 l c [r0,r1,r2,kv'] st'->DkR st' kv' (kids++[.mk n_0 n_1 n_2 ks n_4]) fp'->StX (λx=>x=b∨x∈fp) st st'->(∀x,x∈fp'->x∈fp∨st.nb<=x)->K st'):
  AS (Af st [] (.t (.box b 12)) 0) λv10=>need (isSl v10) (Jb 43 5 80 v10 1 [.int .i64 0,.str [],.str [],.nilSlice,.str []] st λv11 st6=>((0<=(lenS v10:Int)/\(lenS v10:Int)<(lenZ 5 v11:Int))/\
   (need (List.all [.int .i64 n_0,.str n_1,.str n_2,n_3,.str n_4] Av) (stB st6 (ixT 5 v11 (Int.toNat (lenS v10:Int))) [.int .i64 n_0,.str n_1,.str n_2,n_3,.str n_4] λst7=>need (List.all [v11] Av) (stB st7 (.box b 12) [v11] λst8=>K st8))/\
    need (List.all [v11] Av) (stB st6 (.box b 12) [v11] λst9=>need (List.all [.int .i64 n_0,.str n_1,.str n_2,n_3,.str n_4] Av) (stB st9 (ixT 5 v11 (Int.toNat (lenS v10:Int))) [.int .i64 n_0,.str n_1,.str n_2,n_3,.str n_4] λst10=>K st10))))):=by
 obtain⟨xs,bs,fs,o1,o2,o3,o4⟩:=D;refine Ac (Ay P.bx 12 rfl) (Aa o1.rd.isSl ?_);refine G9 o1 (by omega) rfl (by omega) λv11 st6 bs' w1 w2 w3=>?_;have hone:List.all [.int .i64 n_0,.str n_1,.str n_2,n_3,.str n_4] Av=true:=by simp only[List.all_cons,List.all_nil,h3];rfl
 have hon2:List.all [v11] Av=true:=by simp only[List.all_cons,List.all_nil,w1.one];rfl
 have hlt:=P.lt;have bsb:b∉bs:=λh=>hb (by rw[o3];exact List.mem_append_left _ h);have bsb':b∉bs':=λh=>by
  rcases w3 with⟨rfl,_⟩ | rfl
  ·exact bsb h
  ·rw[List.mem_singleton.1 h]at hlt;omega
 have hlen:=o2.len;have P6:=P.fr w2 bsb;have e1:xs++[TV.int .i64 0,.str [],.str [],.nilSlice,.str []]=xs++[TV.int .i64 0,.str [],.str [],.nilSlice,.str []]++[]:=by simp
 rw[e1]at w1;have hfs:∀x,x∈fs->x∉bs/\x∉bs':=λx hx=>by
  have h1:x∉bs:=λh=>by
   rw[o3]at o4;exact(List.nodup_append.1 o4).2.2 x h x hx rfl
  refine⟨h1,λh=>?_⟩;rcases w3 with⟨rfl,_⟩ | rfl
  ·exact h1 h
  ·have:=o2.lt x hx
   rw[List.mem_singleton.1 h]at this;omega
 have fin:∀st',BQ st' 5 v11 (kids.length+1) (xs++[.int .i64 n_0,.str n_1,.str n_2,n_3,.str n_4]++[]) bs'->PSB b s L y i0 l c [r0,r1,r2,v11] st'->StX (λx=>x=b∨x∈bs') st6 st'->K st':=λst' q1 q2 q3=>by
  have o2':=(o2.frame w2 λx hx=>(hfs x hx).1).frame q3 λx hx=>λh=>by
   rcases h with rfl | h
   ·exact hb (by rw[o3];exact List.mem_append_right _ hx)
   ·exact(hfs x hx).2 h
  refine hK v11 (bs'++fs) st' q2 ⟨_,bs',fs,by rw[List.length_append];exact q1,?_,rfl,?_⟩ ?_ λx hx=>?_
  ·have:=TsR.snoc (hn st') o2'
   rw[List.append_nil]at this⊢;exact this
  ·rw[o3]at o4
   obtain⟨d1,d2,d3⟩:=List.nodup_append.1 o4;refine List.nodup_append.2 ⟨?_,d2,λx hx z hz h=>(hfs z hz).2 (by rw[<-h];exact hx)⟩;rcases w3 with⟨rfl,_⟩ | rfl
   ·exact d1
   ·simp
  ·refine(w2.mono λx hx=> .inr (by rw[o3];exact List.mem_append_left _ hx)).new q3 λx hx=>?_
   rcases hx with h | h
   ·exact .inl (.inl h)
   ·rcases w3 with⟨rfl,_⟩ | rfl
    ·exact .inl (.inr (by rw[o3];exact List.mem_append_left _ h))
    ·exact .inr (by rw[List.mem_singleton.1 h];exact Nat.le_refl _)
  ·rcases List.mem_append.1 hx with h | h
   ·rcases w3 with⟨rfl,_⟩ | rfl
    ·exact .inl (by rw[o3];exact List.mem_append_left _ h)
    ·exact .inr (by rw[List.mem_singleton.1 h];exact Nat.le_refl _)
   ·exact .inl (by rw[o3];exact List.mem_append_right _ h)
 refine⟨?_,Aa hone ?_,Aa hon2 ?_⟩
 ·rw[o1.rd.lenS,w1.rd.lenZ];omega
 ·rw[o1.rd.lenS,Int.toNat_natCast]
  refine Xd (ys:=[.int .i64 n_0,.str n_1,.str n_2,n_3,.str n_4]) w1 hlen (by simp) rfl λst7 q1 q2=>Aa hon2 (kidPut (P6.fr q2 bsb') λst8 P8 x8=>fin st8 (q1.frame x8 λx hx h=>bsb' (by rw[<-h];exact hx)) P8 ?_);exact(q2.mono λx hx=> .inr hx).trans (x8.mono λx hx=> .inl hx)
 ·refine kidPut P6 λst8 P8 x8=>Aa hone ?_
  rw[o1.rd.lenS,Int.toNat_natCast];refine Xd (ys:=[.int .i64 n_0,.str n_1,.str n_2,n_3,.str n_4]) (w1.frame x8 λx hx h=>bsb' (by rw[<-h];exact hx)) hlen (by simp) rfl λst7 q1 q2=>fin st7 q1 (P8.fr q2 bsb') ?_;exact(x8.mono λx hx=> .inl hx).trans (q2.mono λx hx=> .inr hx)
end
section
variable {st:St} {b i0 l c:Nat} {s:B8} {L:LmT} {y:Int×Int×Int} {r0 r1 r2 kv:TV} {kids:List Nd} {fp:List Nat}
theorem YQ {n_0:Int} {n_1 n_2 n_4:B8} {n_3:TV} {ks:List Nd} {K:St->Prop} (P:PSB b s L y i0 l c [r0,r1,r2,kv] st) (D:DkR st kv kids fp) (hb:b∉fp) (hn:(n_0=5/\KdR n_3 ks)∨(n_0=7/\n_3= .nilSlice/\ks=[])) (hl:kids.length<=1000000) (hl2:∀x,x∈kids->(TI x).length<=1000000)
  (hK:∀kv' fp' st',PSB b s L y i0 l c [r0,r1,r2,kv'] st'->DkR st' kv' (LM kids (.mk n_0 n_1 n_2 ks n_4)) fp'->StX (λx=>x=b∨x∈fp) st st'->(∀x,x∈fp'->x∈fp∨st.nb<=x)->K st'):
  CallT PR DC [.box b 0,.agg [.int .i64 n_0,.str n_1,.str n_2,n_3,.str n_4]] [] st K:=by
 have h3:Av n_3=true:=by
  rcases hn with⟨_,h⟩ | ⟨_,rfl,_⟩
  ·exact h.one
  ·rfl
 have hnd:∀st',TdR st' (.mk n_0 n_1 n_2 ks n_4) [.int .i64 n_0,.str n_1,.str n_2,n_3,.str n_4] []:=λst'=>by
  rcases hn with⟨rfl,xs,h1,h2⟩ | ⟨rfl,rfl,rfl⟩
  ·exact⟨n_3,xs,rfl,h2,.inl ⟨h1,rfl,rfl⟩⟩
  ·exact⟨_,[],rfl,Bi.nil,.inr ⟨rfl,BQ.nil _ _⟩⟩
 have top:LM kids (.mk n_0 n_1 n_2 ks n_4)=kids++[.mk n_0 n_1 n_2 ks n_4]->∀{K':Prop},K'=K'->True:=λ_ _ _=>trivial;have app:=λ(he:LM kids (.mk n_0 n_1 n_2 ks n_4)=kids++[.mk n_0 n_1 n_2 ks n_4])=>topApp (n_0:=n_0) (n_1:=n_1) (n_2:=n_2) (n_4:=n_4) (n_3:=n_3) (ks:=ks) (K:=K) P D hb hnd h3 hl λkv' fp' st' q1 q2 q3 q4=>hK kv' fp' st' q1 (by rw[he];exact q2) q3 q4;obtain⟨xs,bs,fs,o1,o2,o3,o4⟩:=D;have hk0:∀n,Xv (.mk n_0 n_1 n_2 ks n_4)=5/\n->n_0=5:=λn h=>h.1;refine Mg b n_0 n_1 n_2 n_3 n_4 st K (Ac (Ay P.bx 12 rfl) (Aa o1.rd.isSl ?_));rw[o1.rd.lenS];refine Ab (λh5=>?_) λh5=>?_
 rotate_left
 ·refine app ?_
  unfold LM;split
  ·rw[if_neg (λh=>h5 h.1)]
  ·rfl
 rcases List.eq_nil_or_concat kids with rfl | ⟨ks0,x,rfl⟩
 ·refine Ab (λh=>?_) λ_=>app (by simp[LM])
  rw[Ah _ (by simp) (by simp)]at h;simp at h
 ·rw[List.concat_eq_append]at o1 o2 hl hl2 hK app
  have hL:(ks0++[x]).length=ks0.length+1:=by simp
  rw[List.concat_eq_append,hL];have hw:IntKind.wrap .i64 (((ks0.length+1:Nat):Int)-1)=((ks0.length:Nat):Int):=by rw[Ah _ (by omega) (by omega)];omega
  rw[hw];refine Ab (λ_=>?_) λh=>absurd (Int.natCast_nonneg _) h;obtain⟨a,cs,p,q,g1,g2,g3,g4⟩:=o2.last;obtain⟨k,ld,tx,ks1,tl1⟩:=x;obtain⟨v,xs1,rfl,hc1,hv1⟩:=g4;have hal:=g3.len;have ex:xs=a++[.int .i64 k,.str ld,.str tx,v,.str tl1]++[]:=by rw[g1,List.append_nil]
  have hin:ks0.length<(ks0++[Nd.mk k ld tx ks1 tl1]).length:=by rw[hL];omega
  have hxl:=o2.len;refine Ac (Ay P.bx 12 rfl) ⟨⟨by omega,by rw[o1.rd.lenZ,hL];omega⟩,Aa (by rw[Int.toNat_natCast];exact o1.rd.isPtr hin) ?_⟩;rw[Int.toNat_natCast];have ld0:Af st [] (.t (AU (ixT 5 kv ks0.length) 0)) 0=some (.int .i64 k):=o1.rd.ldf hxl hin (by omega) (by rw[g1,List.getElem?_append_right (by omega)];simp[hal]);have ld3:Af st [] (.t (AU (ixT 5 kv ks0.length) 3)) 0=some v:=o1.rd.ldf hxl hin (by omega) (by rw[g1,List.getElem?_append_right (by omega)];simp[hal]);refine Ac ld0 (Am (Ab (λh7=>?_) λh7=>?_))
  rotate_left
  ·refine app ?_
   unfold LM;rw[List.getLast?_concat];simp only;rw[if_neg (λh=>h7 h.2)]
  subst h5 h7;have hks1:ks1.length<=1000000:=hl2 _ (List.mem_append_right _ (.head _));have hkd:KdR n_3 ks:=by
   rcases hn with⟨_,h⟩ | ⟨h,_⟩
   ·exact h
   ·cases h
  have own:BQ st 5 v ks1.length xs1 q:=by
   rcases hv1 with⟨_,_,h⟩ | ⟨_,h⟩
   ·cases h
   ·exact h
  have hone:List.all [.int .i64 5,.str n_1,.str n_2,n_3,.str n_4] Av=true:=by simp only[List.all_cons,List.all_nil,h3];rfl
  have hlt:=P.lt;subst o3;obtain⟨d1,d2,d3⟩:=List.nodup_append.1 o4;rw[g2]at d2 d3;obtain⟨d4,d5,d6⟩:=List.nodup_append.1 d2;have bbs:b∉bs:=λh=>hb (List.mem_append_left _ h);have bq:b∉q:=λh=>hb (by rw[g2];exact List.mem_append_right _ (List.mem_append_right _ h));have bp:b∉p:=λh=>hb (by rw[g2];exact List.mem_append_right _ (List.mem_append_left _ h));have qbs:∀z,z∈bs->z∉q:=λz hz h=>d3 z hz z (List.mem_append_right _ h) rfl;have pbs:∀z,z∈p->z∉bs:=λz hz h=>d3 z h z (List.mem_append_left _ hz) rfl;have pq:∀z,z∈p->z∉q:=λz hz h=>d6 z hz z h rfl;have hadd:LM (ks0++[Nd.mk 7 ld tx ks1 tl1]) (.mk 5 n_1 n_2 ks n_4)=ks0++[.mk 7 ld tx (ks1++[.mk 5 n_1 n_2 ks n_4]) tl1]:=by
   unfold LM;rw[List.getLast?_concat];simp only;rw[if_pos ⟨rfl,rfl⟩,List.dropLast_concat];rfl
  obtain⟨xn,hx1,hx2⟩:=hkd;have hndc:NdC (.mk 5 n_1 n_2 ks n_4) [.int .i64 5,.str n_1,.str n_2,n_3,.str n_4]:=by unfold NdC;exact⟨n_3,xn,rfl,hx1,hx2⟩
  --what is new lies apart
  have apart:∀{q':List Nat},(q'=q/\q≠ [])∨q'=[st.nb]->b∉q'/\(∀z,z∈bs->z∉q')/\(∀z,z∈p->z∉q')/\q'.Nodup/\∀z,z∈q'->z∈q∨st.nb<=z:=λ{q'} h=>by
   rcases h with⟨rfl,_⟩ | rfl
   ·exact⟨bq,qbs,pq,d5,λz hz=> .inl hz⟩
   ·refine⟨λh=>by rw[List.mem_singleton.1 h]at hlt;omega,λz hz h=>?_,λz hz h=>?_,by simp,λz hz=> .inr (by rw[List.mem_singleton.1 hz];exact Nat.le_refl _)⟩
    ·have:=o1.lt z hz;rw[List.mem_singleton.1 h]at this;omega
    ·have:=g3.lt z hz;rw[List.mem_singleton.1 h]at this;omega
  have fin:∀(v9:TV) (q':List Nat) (st':St),(q'=q/\q≠ [])∨q'=[st.nb]->BQ st' 5 v9 (ks1.length+1) (xs1++[.int .i64 5,.str n_1,.str n_2,n_3,.str n_4]) q'->BQ st' 5 kv (ks0++[Nd.mk 7 ld tx ks1 tl1]).length (a++[.int .i64 7,.str ld,.str tx,v9,.str tl1]) bs->StX (λz=>z∈bs∨z∈q∨st.nb<=z) st st'->K st':=λv9 q' st' hq' w1 w2 w3=>by
   obtain⟨a1,a2,a3,a4,a5⟩:=apart hq';have hnS:∀z,z<st.nb->z∉bs->z∉q->¬(z∈bs∨z∈q∨st.nb<=z):=λz h1 h2 h3 h=>by
    rcases h with h | h | h
    ·exact h2 h
    ·exact h3 h
    ·omega
   refine hK kv (bs++(p++q')) st' (P.fr w3 (hnS b hlt bbs bq)) ⟨a++[.int .i64 7,.str ld,.str tx,v9,.str tl1],bs,p++q',?_,?_,rfl,?_⟩ ⟨w3.nb,λz hz h=>w3.box z hz (hnS z hz ?_ ?_),w3.nt,w3.live,w3.ty,w3.bt⟩ λz hz=>?_
   ·rw[hadd]
    have:(ks0++[Nd.mk 7 ld tx (ks1++[.mk 5 n_1 n_2 ks n_4]) tl1]).length=(ks0++[Nd.mk 7 ld tx ks1 tl1]).length:=by simp
    rw[this];exact w2
   ·rw[hadd]
    refine TsR.snoc (n:= .mk 7 ld tx (ks1++[.mk 5 n_1 n_2 ks n_4]) tl1) (c:=[.int .i64 7,.str ld,.str tx,v9,.str tl1]) (q:=q') ⟨v9,_,rfl,hc1.append (Bi.one hndc),.inr ⟨rfl,by rw[List.length_append];exact w1⟩⟩ (g3.frame w3 λz hz=>hnS z (g3.lt z hz) (pbs z hz) (pq z hz))
   ·refine List.nodup_append.2 ⟨d1,List.nodup_append.2 ⟨d4,a4,λx hx z hz h=>a3 x hx (by rw[h];exact hz)⟩,λx hx z hz h=>?_⟩
    rcases List.mem_append.1 hz with hz | hz
    ·exact pbs z hz (by rw[<-h];exact hx)
    ·exact a2 x hx (by rw[h];exact hz)
   ·exactλh'=>h (.inr (List.mem_append_left _ h'))
   ·exactλh'=>h (.inr (List.mem_append_right _ (by rw[g2];exact List.mem_append_right _ h')))
   ·rcases List.mem_append.1 hz with hz | hz
    ·exact .inl (List.mem_append_left _ hz)
    ·rcases List.mem_append.1 hz with hz | hz
     ·exact .inl (List.mem_append_right _ (by rw[g2];exact List.mem_append_left _ hz))
     ·exact(a5 z hz).imp (λh=>List.mem_append_right _ (by rw[g2];exact List.mem_append_right _ h)) id
  rw[ex]at o1;have store:∀{st1:St} {v9:TV} {k:St->Prop},StX (·∈q) st st1->(∀st2,BQ st2 5 kv (ks0++[Nd.mk 7 ld tx ks1 tl1]).length (a++[.int .i64 7,.str ld,.str tx,v9,.str tl1]) bs->StX (·∈bs) st1 st2->k st2)->stB st1 (AU (ixT 5 kv ks0.length) 3) [v9] k:=λ{st1 v9 k} e hk=>by
   have o1':=o1.frame e λz hz h=>qbs z hz h;have e2:a++[TV.int .i64 7,.str ld,.str tx,v,.str tl1]++[]=(a++[TV.int .i64 7,.str ld,.str tx])++[v]++[.str tl1]:=by simp
   rw[e2]at o1';refine o1'.store (ys:=[v9]) (by rw[List.length_append,hal];rfl) (by simp) rfl λst2 h1 h2=>hk st2 ?_ h2;have e3:a++[TV.int .i64 7,.str ld,.str tx]++[v9]++[.str tl1]=a++[TV.int .i64 7,.str ld,.str tx,v9,.str tl1]:=by simp
   rw[e3]at h1;exact h1
  have hptr:isPtr (ixT 5 kv ks0.length)=true:=o1.rd.isPtr hin;have hq0:∀{q':List Nat},(q'=q/\q≠ [])∨q'=[st.nb]->∀{z},z∈q'->(z∈bs∨z∈q∨st.nb<=z):=λ{q'} h {z} hz=> .inr ((apart h).2.2.2.2 z hz);refine⟨?_,?_⟩
  ·refine Ac (Ay P.bx 12 rfl) ⟨⟨by omega,by rw[o1.rd.lenZ,hL];omega⟩,Aa hptr (Ac ld3 (Aa own.rd.isSl (G9 own (by omega) rfl (by omega) λv5 st1 q' w1 w2 w3=>⟨⟨by omega,by rw[o1.rd.lenZ,hL];omega⟩,Aa hptr (Aa (by simp only[List.all_cons,List.all_nil,w1.one];rfl) (store w2 λst2 z1 z2=>?_))⟩)))⟩
   obtain⟨a1,a2,a3,a4,a5⟩:=apart w3;have hxs1:xs1.length=ks1.length*5:=by rw[hc1.len];omega
   have w1':=w1.frame z2 λz hz h=>a2 z h hz;have e4:xs1++[TV.int .i64 0,.str [],.str [],.nilSlice,.str []]=xs1++[TV.int .i64 0,.str [],.str [],.nilSlice,.str []]++[]:=by simp
   rw[e4]at w1';refine⟨⟨by omega,by rw[own.rd.lenS,w1.rd.lenZ];omega⟩,Aa hone ?_⟩;rw[own.rd.lenS,Int.toNat_natCast];refine Xd (ys:=[.int .i64 5,.str n_1,.str n_2,n_3,.str n_4]) w1' hxs1 (by simp) rfl λst3 y1 y2=>?_;rw[List.append_nil]at y1;refine fin v5 q' st3 w3 y1 (z1.frame y2 λz hz h=>a2 z hz h) ?_;exact((w2.mono λz hz=> .inr (.inl hz)).trans (z2.mono λz hz=> .inl hz)).trans (y2.mono λz hz=>hq0 w3 hz)
  ·refine Ac (Ay P.bx 12 rfl) (Ac (Ay P.bx 12 rfl) ⟨⟨by omega,by rw[o1.rd.lenZ,hL];omega⟩,Aa hptr (Ac ld3 (Aa hone (G9 own (by omega) rfl (by omega) λv9 st4 q' w1 w2 w3=>?_)))⟩)
   have P4:=P.fr w2 bq;refine⟨Ay P4.bx 12 rfl,Ay P4.bx 12 rfl,⟨by omega,by rw[o1.rd.lenZ,hL];omega⟩,Aa hptr (Aa (by simp only[List.all_cons,List.all_nil,w1.one];rfl) (store w2 λst5 z1 z2=>?_))⟩;obtain⟨a1,a2,a3,a4,a5⟩:=apart w3;refine fin v9 q' st5 w3 (w1.frame z2 λz hz h=>a2 z h hz) z1 ?_;exact(w2.mono λz hz=> .inr (.inl hz)).trans (z2.mono λz hz=> .inl hz)
end
def Yw (a:Asg) (cs:List TV):Prop:=∃kv vc,cs= .bool a.tab:: .bool a.elem::kv::vc/\Rd 1 kv a.keys.length (a.keys.map TV.str)/\VlR St.zero a.val vc
def Fo:List Asg->List TV->Prop
 | [],xs=>xs=[]
 | a::r,xs=>∃c d,xs=c++d/\Yw a c/\Fo r d
theorem Yw.len {a:Asg} {cs:List TV} (h:Yw a cs):cs.length=16:=by
 obtain⟨kv,vc,rfl,_,h2⟩:=h;simp[h2.len]
theorem Fo.len:∀{l:List Asg} {xs:List TV},Fo l xs->xs.length=l.length*16
 | [],xs,h=>by unfold Fo at h;subst h;rfl
 | a::r,xs,h=>by
  unfold Fo at h;obtain⟨c,d,rfl,h1,h2⟩:=h;rw[List.length_append,h1.len,Fo.len h2,List.length_cons];omega
theorem Fo.get:∀{l:List Asg} {xs:List TV} {i:Nat} {a:Asg},Fo l xs->l[i]? =some a->Yw a ((xs.drop (i*16)).take 16)
 | [],xs,i,a,h,hi=>by simp at hi
 | b::r,xs,i,a,h,hi=>by
  unfold Fo at h;obtain⟨c,d,rfl,h1,h2⟩:=h;cases i with
  | zero=>
   simp only[List.getElem?_cons_zero,Option.some.injEq]at hi;subst hi;rw[Nat.zero_mul,List.drop_zero,<-h1.len,List.take_left];exact h1
  | succ i=>
   have:=Fo.get h2 (show r[i]? =some a by simpa using hi);rw[show(i+1)*16=c.length+i*16 by rw[h1.len];omega,List.drop_append];simp only[Nat.add_sub_cancel_left];rw[List.drop_of_length_le (by omega),List.nil_append];exact this
def asz (a:Asg):Nat:=kz a.keys+a.val.sz+2
def EM:List Asg->Nat
 | []=>0
 | a::r=>asz a+EM r
theorem ldA {l:List Asg} {v:TV} {xs:List TV} {j:Nat} {a:Asg} (hr:Rd 16 v l.length xs) (ha:Fo l xs) (hj:l[j]? =some a) {st:St} {f:Fun [.bool,.bool,.tv,.int .i64,.bool,.bool,.str,.int .i64,.int .i64,.int .i64,.int .i64,.int .i64,.str,.tv,.tv,.tv] Prop}
  (hf:∀kv ub ul uf,Rd 1 kv a.keys.length (a.keys.map TV.str)->VlR St.zero a.val (AQ a.val.sc ub ul uf)->List.all (.bool a.tab:: .bool a.elem::kv::AQ a.val.sc ub ul uf) Av=true->
   f a.tab a.elem kv a.val.sc.kind a.val.sc.b a.val.sc.neg a.val.sc.dg a.val.sc.ex a.val.sc.tk a.val.sc.td a.val.sc.tn a.val.sc.tz a.val.sc.text ub ul uf):
  AS ((AE st [] (.t (ixT 16 v j)) 0 16).map TV.agg) λx=>R4 [.bool,.bool,.tv,.int .i64,.bool,.bool,.str,.int .i64,.int .i64,.int .i64,.int .i64,.int .i64,.str,.tv,.tv,.tv] x f:=by
 have hlt:j<l.length:=(List.getElem?_eq_some_iff.1 hj).1;rw[(SlR.of_rd (st:=st) hr).ldc ha.len hlt];obtain⟨kv,vc,hc,h1,h2⟩:=ha.get hj;rw[hc];obtain⟨tab,elem,ks,s,lv,fv⟩:=a;have h20:=h2;obtain⟨ub,ul,uf,xl,xf,rfl,w1,w2,_,w4,_⟩:=VlR.cells h20;refine Ac rfl ?_;have hone:List.all (AQ s ub ul uf) Av=true:=Ee w1.one w2.one w4.one;exact hf kv ub ul uf h1 h2 (by show(true&&(true&&(Av kv&&List.all (AQ s ub ul uf) Av)))=true;rw[h1.one,hone];rfl)
theorem AaO {l:List Asg} {j:Nat} {a:Asg} (h:l[j]? =some a):EM (l.drop j)=asz a+EM (l.drop (j+1)):=by
 rw[KW h,EM]
theorem ZQ:∀(l:List Asg) (j:Nat),EM (l.drop j)<=EM l
 | [],j=>by simp
 | a::r,0=>by simp
 | a::r,j+1=>by
  have:=ZQ r j;rw[List.drop_succ_cons,EM];omega
theorem allS_ok {l:List Asg} {v:TV} {xs:List TV} {st:St} {K:TV->Int->Int->St->Prop} (hr:Rd 16 v l.length xs) (ha:Fo l xs) (hz:EM l<=900000) (hc:∀a,a∈l->a.keys.length+a.val.cnt<=100000)
  (hk1:∀bb ub T cur u σ st',Xl l= .ok (erT T,cur)->atT T cur=some u->BH bb ub (.box u.b 0) T (Ae T).cnt σ st'->NdL (shT 1 T)->NeL (shT 1 T)->BV (Ae T)=0->(Ae T).sz<=1+EM l->K (.box bb 0) 0 0 st')
  (hk2:∀(i e:Nat) st',Xl l= .error (i,e)->e≠0->K .nilPtr i e st'):CallT PR Hw [v] [.one .tv,.one (.int .i64),.one (.int .i64)] st K:=by
 have hll:l.length<=EM l:=by
  have:∀m:List Asg,m.length<=EM m:=by
   intro m;induction m with
   | nil=>simp
   | cons a r ih=>rw[EM,List.length_cons];unfold asz;omega
  exact this l
 refine PQ v st K (RT λbb ub r m σ0 st0 H0=>Aa hr.isSl ?_);rw[hr.lenS];have e0:(Tb.mk r m false [])=Ar ⟨r,m,0⟩ false:=rfl;refine⟨λn_1 b_1 v_1 n_2 st1=>b_1= .box bb 0/\v_1=v/\n_2=(l.length:Int)/\∃(j:Nat) (T:Tb) (cur:List Hop) (u:Tb) (σ:Nat->TV),n_1=(j:Int)/\j<=l.length/\Xl l=G2 j (erT T) cur (l.drop j)/\atT T cur=some u/\
   BH bb ub (.box u.b 0) T (Ae T).cnt σ st1/\NdL (shT 1 T)/\NeL (shT 1 T)/\BV (Ae T)=0/\(Ae T).sz+EM (l.drop j)<=1+EM l,
  λn_1 _ _ _ _=>l.length-n_1.toNat,⟨rfl,rfl,rfl,0,.mk r m false [],[],.mk r m false [],σ0,rfl,Nat.zero_le _,?_,rfl,?_,?_,?_,?_,?_⟩,?_⟩
 ·rw[e0,Lf];rfl
 ·rw[show(Ae (.mk r m false [])).cnt=1 from by rw[Ae,Bb];simp[Vl.cnt,AH,AX]];exact H0
 ·rw[e0];exact Lh _ _ _
 ·rw[e0];exact Lg _ _ _
 ·rw[e0];exact EA.2 ⟨E6 _ _,by rw[Jy];omega,by have:=FG ⟨r,m,0⟩ false;rw[AK]at this;omega⟩
 ·rw[e0,Tn,List.drop_zero];omega
 rintro n_1 _ _ _ st1 ⟨rfl,rfl,rfl,j,T,cur,u,σ,rfl,hj,hrun,hu,H,hN,hNe,hV,hsz⟩;refine Ab (λg=>?_) λg=>?_
 ·have hlt:j<l.length:=by omega
  obtain⟨a,hja⟩:∃a,l[j]? =some a:=⟨_,List.getElem?_eq_getElem hlt⟩;have hmem:=List.mem_of_getElem? hja;have hwj:IntKind.wrap .i64 ((j:Int)+1)=((j+1:Nat):Int):=by rw[Ah _ (by omega) (by omega)];simp
  rw[hwj];refine⟨⟨by omega,by rw[hr.lenZ];omega⟩,?_⟩;rw[Int.toNat_natCast];rw[AaO hja]at hsz;have hle:=ZQ l (j+1);unfold asz at hsz;rw[KW hja]at hrun;refine ldA hr ha hja λkv ub' ul uf h1 h2 h3=>Aa h3 ?_;have hstep:∀nu,EE j (erT T) cur a=erX (Fg nu j T cur a):=λnu=>step_er nu j T cur a;refine AaS H hu hN hNe hV (hc a hmem) (by omega) h1 h2 (λnu T' cur' u' σ' st' hs hcv hu' H' hN' hNe' hsz'=>?_) (λnu e st' hs=>?_) λnu T' cur' st' hs hcv=>?_
  ·refine Ab (λh=>absurd rfl h) λ_=>?_
   refine⟨⟨rfl,rfl,rfl,j+1,T',cur',u',σ',rfl,hlt,?_,hu',H',hN',hNe',hcv,by omega⟩,by simp only[Int.toNat_natCast];omega⟩;rw[hrun,G2,hstep nu,hs];simp only[erX];rw[Hh,if_pos hcv]
  ·have he:=UY hs ⟨u,hu⟩ hNe
   refine Ab (λ_=>?_) λh=>absurd (by omega) h;have:=hk2 j e.toNat st' ?_ (by omega)
   ·have e2:((e.toNat:Nat):Int)=e:=by omega
    rw[e2]at this;exact this
   ·rw[hrun,G2,hstep nu,hs];rfl
  ·refine Ab (λ_=>?_) λh=>absurd (by omega) h
   refine hk2 j (BV (Ae T')) st' ?_ hcv;rw[hrun,G2,hstep nu,hs];simp only[erX];rw[Hh,if_neg hcv]
 ·have hjj:j=l.length:=by omega
  subst hjj;rw[List.drop_length,G2]at hrun;rw[List.drop_length,EM]at hsz;exact hk1 bb ub T cur u σ st1 hrun hu H hN hNe hV (by omega)
theorem AaT {l:List Asg} {v:TV} {xs:List TV} {st:St} {K:Int->Bool->Bool->B8->Int->Int->Int->Int->Int->B8->TV->TV->TV->Int->Int->St->Prop} (hr:Rd 16 v l.length xs) (ha:Fo l xs) (hz:EM l<=900000) (hc:∀a,a∈l->a.keys.length+a.val.cnt<=100000)
  (hk1:∀T cur ub ul uf st',Xl l= .ok (T,cur)->BV (Ae T)=0->(Ae T).sz<=1+EM l->VlR St.zero (Ae T) (AQ (Ae T).sc ub ul uf)->List.all (AQ (Ae T).sc ub ul uf) Av=true->
   K (Ae T).sc.kind (Ae T).sc.b (Ae T).sc.neg (Ae T).sc.dg (Ae T).sc.ex (Ae T).sc.tk (Ae T).sc.td (Ae T).sc.tn (Ae T).sc.tz (Ae T).sc.text ub ul uf 0 0 st')
  (hk2:∀(i e:Nat) st',Xl l= .error (i,e)->e≠0->K 0 false false [] 0 0 0 0 0 [] .nilSlice .nilSlice .nilSlice i e st'):
  CallT PR FW [v] [.agg [.int .i64,.bool,.bool,.str,.int .i64,.int .i64,.int .i64,.int .i64,.int .i64,.str,.tv,.tv,.tv],.one (.int .i64),.one (.int .i64)] st K:=by
 refine NV v st K (allS_ok hr ha hz hc (λbb ub T cur u σ st' h hu H hN hNe hV hs=>?_) λi e st' h he=>Ab (λ_=>hk2 i e st' h he) λh0=>absurd (by omega) h0);refine Ab (λh=>absurd rfl h) λ_=>Aa rfl (Aa rfl (Ac (x:= .box T.b 0) (by simp only[Af,AU,H.cell];rfl) ?_));refine SU (Ae T).cnt T 1 (Nat.le_refl _) (by have:=G8 hV;omega) H.hp.sh hN H.hp.lt λuf st2 hv ho e2=>?_;refine Ug (v:=Ae T) (by omega) (G8 hV) (VlR.keep (E8 st2) hv) λub' ul' uf' st3 hv3 o1 o2 o3 _ _=>Aa (Ee o1 o2 o3) ?_;have e1:Ae (erT T)=Ae T:=Hh T;have:=hk1 (erT T) cur ub' ul' uf' st3 h (by rw[e1];exact hV) (by rw[e1];exact hs) (by rw[e1];exact hv3) (by rw[e1];exact Ee o1 o2 o3);rw[e1]at this;exact this
section
theorem sk_pre {s:B8}:∀(n i j:Nat),s.length-i<=n->i<=s.length->sk s false i= .ok j->sk s true i=sk s true j
 | n,i,j,hn,hi,h=>by
  rw[Jp hi]at h;split at h
  ·cases h
  ·cases h;rfl
  ·rename_i k t hx
   have ht:=CJ hi hx;split at h
   ·rename_i htr
    have h1:Pl true k=true:=by
     unfold Pl at htr⊢;simp only[Bool.false_and,Bool.or_false]at htr;rw[htr];rfl
    cases n with
    | zero=>omega
    | succ n=>
     have:=sk_pre n _ j (by omega) (by omega) h;rw[<-this]
     conv=>lhs;rw[Jp hi,hx]
     simp only;rw[if_pos h1]
   ·cases h;rfl
theorem sk_com {s:B8} {i:Nat} {k:Int} {t:B8} (hi:i<=s.length) (h:nx s i= .ok (some (k,t))) (hk:k=3):sk s true i=sk s true (i+t.length):=by
 subst hk
 conv=>lhs;rw[Jp hi,h]
 simp only;rw[if_pos (by decide)]
variable {E:TV->St->Prop} {st0 st:St} {b i l c:Nat} {s:B8} {L:LmT} {y:Int×Int×Int} {tl:List TV}
theorem Aac {K:St->Prop} (H:PSB b s L y i l c tl st) (hl:s.length<=1000000) (e0:Ag st0 st) (hb:st0.nb<=b) (he:∀p,R3 s i= .error p->Fl E st0 p)
  (hk:∀i' st',R3 s i= .ok i'->sk s true i=sk s true i'->i<=i'->PSB b s L y i' l c tl st'->StX (·=b) st st'->K st'):Bz E PR BJ [.box b 0] [] st K:=by
 have ex:∀{st1:St},StX (·=b) st st1->Ag st0 st1:=λx=>x.out e0 λk hk=>by rw[hk];exact hb
 refine Mf E b st K (Eb H hl e0 hb (λp hp=>he p (by unfold R3;rw[hp])) λi1 st1 hs H1 x1=>?_);have hpre:=sk_pre (s:=s) (s.length-i) i i1 (Nat.le_refl _) H.hi hs;have hle:=(Bo H.hi hs).1;have he1:∀p,(match nx s i1 with
  | .error e=> .error e
  | .ok none=> .ok i1
  | .ok (some (k,t))=>if k=3 then(match nx s (i1+t.length)with
    | .error e=> .error e
    | .ok none=> .ok (i1+t.length)
    | .ok (some (k2,_))=>if k2≠2 then .error (i1+t.length,3)else .ok (i1+t.length))
   else if k≠2 then .error (i1,3)else .ok i1:Except EP Nat)= .error p->Fl E st0 p:=λp hp=>he p (by unfold R3;rw[hs];exact hp)
 have hk1:∀i' st',(match nx s i1 with
  | .error e=> .error e
  | .ok none=> .ok i1
  | .ok (some (k,t))=>if k=3 then(match nx s (i1+t.length)with
    | .error e=> .error e
    | .ok none=> .ok (i1+t.length)
    | .ok (some (k2,_))=>if k2≠2 then .error (i1+t.length,3)else .ok (i1+t.length))
   else if k≠2 then .error (i1,3)else .ok i1:Except EP Nat)= .ok i'->sk s true i=sk s true i'->i<=i'->PSB b s L y i' l c tl st'->StX (·=b) st st'->K st':=λi' st' hp=>hk i' st' (by unfold R3;rw[hs];exact hp)
 refine IU H1 hl (ex x1) (λp hp=>he1 p (by rw[hp])) (λh0=>Ao (λh=>by cases h) λ_=>Ao (λh=>by cases h) λ_=>hk1 i1 st1 (by rw[h0]) hpre hle H1 x1) λk t st2 hx e2=>Ao (λ_=>?_) λh=>by cases h
 have H2:=H1.ext e2;have x2:=x1.trans (StX.of e2);have ht:=CJ H1.hi hx;rw[hx]at he1 hk1;simp only at he1 hk1;have hl1:=H1.le;refine Ab (λh3=>?_) λh3=>Ao (λ_=>?_) λh=>by cases h
 ·rw[if_pos h3]at he1 hk1
  have hcom:=sk_com H1.hi hx h3;refine Ac (Ay H2.bx 6 rfl) (Am ?_);have hw:IntKind.wrap .i64 ((i1:Int)+(t.length:Int))=((i1+t.length:Nat):Int):=by rw[Ah _ (by omega) (by omega)];omega
  refine Rg H2 hw (by omega) (by omega) λst3 H3 x3=>?_;have x4:=x2.trans x3;refine IU H3 hl (ex x4) (λp hp=>he1 p (by rw[hp])) (λh0=>Ao (λh=>by cases h) λ_=>hk1 _ st3 (by rw[h0]) (hpre.trans hcom) (by omega) H3 x4) λk2 t2 st4 hx2 e4=>Ao (λ_=>?_) λh=>by cases h
  have H4:=H3.ext e4;have x5:=x4.trans (StX.of e4);rw[hx2]at he1 hk1;simp only at he1 hk1;refine Ab (λg=>?_) λg=>?_
  ·rw[if_pos g]at he1
   exact Ac (Ay H4.bx 6 rfl) (Am (Bs rfl (ex x5) (he1 _ rfl)))
  ·rw[if_neg g]at hk1
   exact hk1 _ st4 rfl (hpre.trans hcom) (by omega) H4 x5
 ·rw[if_neg h3]at he1 hk1
  refine Ab (λg=>?_) λg=>?_
  ·rw[if_pos g]at he1
   exact Ac (Ay H2.bx 6 rfl) (Am (Bs rfl (ex x2) (he1 _ rfl)))
  ·rw[if_neg g]at hk1
   exact hk1 _ st2 rfl hpre hle H2 x2
end
section
theorem Zt:∀(f:Nat) {s:B8} {i:Nat} {ks:List B8},i<=s.length->dtF f s i=some ks->ks≠ []/\ks.length+i<=s.length
 | 0,s,i,ks,hi,h=>by unfold dtF at h;cases h
 | f+1,s,i,ks,hi,h=>by
  rw[KU]at h;cases h1:dt1 s i with
  | none=>rw[h1]at h;cases h
  | some p=>
   obtain⟨k,j⟩:=p;rw[h1]at h;simp only at h;have hj:=Ox hi h1;split at h
   ·cases h;exact⟨by simp,by simp;omega⟩
   ·split at h
    ·cases h
    ·cases h2:dtF f s (j+1)with
     | none=>rw[h2]at h;cases h
     | some ks'=>
      rw[h2]at h;cases h;have:=Zt f (by omega) h2;exact⟨by simp,by simp;omega⟩
theorem VP {s:B8} {i j:Nat} {ks:List B8} (hj:j<=s.length) (hij:i<=j) (h:Gn s i= .ok (ks,j)):ks≠ []/\ks.length+i<=j:=by
 unfold Gn at h;split at h
 ·cases h
 ·split at h
  ·split at h
   ·cases h
   ·split at h
    ·cases h
    ·rename_i hd
     cases h;have:=Zt _ (Nat.zero_le _) hd;have e:(sl s i j).length=j-i:=by simp[sl];omega
     rw[e]at this;exact⟨this.1,by omega⟩
  ·cases h
theorem bgn_cnt {L:LmT} {i d c c':Nat} (h:bgn L i d c= .ok c'):c'=c+1:=by
 unfold bgn at h;split at h
 ·cases h
 ·split at h
  ·cases h
  ·cases h;rfl
theorem NL {L:LmT} {i:Nat}:∀(m:Nat) {d c c':Nat},EC L i m d c= .ok c'->c'=c+m
 | 0,d,c,c',h=>by rw[EC]at h;cases h;rfl
 | m+1,d,c,c',h=>by
  rw[EC]at h;split at h
  ·cases h
  ·rename_i h1
   have:=NL m h;have:=bgn_cnt h1;omega
theorem Tz {tab elem:Bool} {kl:B8}:∀(ks:List B8) (u:Tb),BN tab elem kl u ks<=ks.length+Ch tab elem
 | [],u=>by
  rw[BN];split
  ·simp
  ·split
   ·rename_i h;unfold Ch;rw[if_pos h];simp
   ·omega
  ·omega
 | k::ks,u=>by
  rw[BN,List.length_cons];split
  ·omega
  ·have:=Tz (tab:=tab) (elem:=elem) (kl:=kl) ks ‹Tb›;omega
  ·rename_i l _
   have:=Tz (tab:=tab) (elem:=elem) (kl:=kl) ks (l.getLastD u);omega
  ·omega
theorem YV {L:LmT} {i:Nat} {T T' u:Tb} {cur cur':List Hop} {c c' d:Nat} {tab elem:Bool} {ks:List B8} (hks:ks≠ []) (hte:elem=true->tab=true) (hA:atT T cur=some u) (hn:NeL (shT 1 T)) (hc:(Ae T).cnt<=c)
  (h:Ir L i T cur c tab elem ks= .ok (T',cur',c',d)):(Ae T').cnt<=c'+(if tab=true then 0 else 1)/\c'+1<=c+ks.length+Ch tab elem:=by
 obtain⟨ini,kl,rfl⟩:∃ini kl,ks=ini++[kl]:=⟨ks.dropLast,ks.getLast hks,(List.dropLast_concat_getLast hks).symm⟩;obtain⟨u0,hA0⟩:∃u0,atT T (if tab=true then []else cur)=some u0:=by
  cases tab with
  | true=>exact⟨T,by cases T;rfl⟩
  | false=>exact⟨u,hA⟩
 have h2:=h;rw[plc_eq hte hA0 hn]at h2;constructor
 ·unfold Ir at h
  split at h
  ·cases h
  ·split at h
   ·cases h
   ·split at h
    ·rename_i ht
     rw[if_pos ht];split at h
     ·cases h
     ·rename_i hb
      cases h;have:=NL _ hb;omega
    ·rename_i ht
     rw[if_neg ht];split at h
     ·cases h
     ·rename_i hb
      cases h;have:=NL _ hb;omega
 ·split at h2
  ·cases h2
  ·split at h2
   ·cases h2
   ·split at h2
    ·cases h2
    ·split at h2
     ·cases h2
     ·rename_i hb
      cases h2;have:=NL _ hb;have:=Tz (tab:=tab) (elem:=elem) (kl:=kl) ini u0;simp only[List.length_append,List.length_singleton];omega
theorem Rh {a:Asg} {c:List TV} (h:Yw a c):∀{r:List Asg} {d:List TV},Fo r d->Fo (r++[a]) (d++c)
 | [],d,k=>by unfold Fo at k;subst k;unfold Fo;exact⟨c,[],by simp,h,by unfold Fo;rfl⟩
 | b::r,d,k=>by
  unfold Fo at k;obtain⟨c1,d1,rfl,k1,k2⟩:=k;rw[List.cons_append];unfold Fo;exact⟨c1,d1++c,by rw[List.append_assoc],k1,Rh h k2⟩
theorem DkR.same {st st':St} {v:TV} {ks:List Nd} {fp:List Nat} (h:DkR st v ks fp) (h1:st'.box=st.box) (h2:st'.nb=st.nb):DkR st' v ks fp:=by
 have ow:∀{sz n:Nat} {u:TV} {xs:List TV} {bs:List Nat},BQ st sz u n xs bs->BQ st' sz u n xs bs:=λh=>by
  rcases h with h | ⟨b,cap,tail,q1,q2,q3,q4⟩
  ·exact .inl h
  ·exact .inr ⟨b,cap,tail,q1,by rw[h2];exact q2,by rw[h1];exact q3,q4⟩
 have ts:∀{ks:List Nd} {xs:List TV} {fs:List Nat},TsR st ks xs fs->TsR st' ks xs fs:=by
  intro ks;induction ks with
  | nil=>exactλh=>h
  | cons n r ih=>
   rintro xs fs ⟨a,b,p,q,g1,g2,g3,g4⟩;refine⟨a,b,p,q,g1,g2,?_,ih g4⟩;cases n;obtain⟨v,ys,f1,f2,f3 | ⟨f3,f4⟩⟩:=g3
   ·exact⟨v,ys,f1,f2,.inl f3⟩
   ·exact⟨v,ys,f1,f2,.inr ⟨f3,ow f4⟩⟩
 obtain⟨xs,bs,fs,q1,q2,q3,q4⟩:=h;exact⟨xs,bs,fs,ow q1,ts q2,q3,q4⟩
structure DcC (b:Nat) (st0:St) (T u:Tb) (cur:List Hop) (asg kv:TV) (fp:List Nat) (kids:List Nd) (az:List Asg) (st:St):Prop where
 e0:Ag st0 st
 bb:st0.nb<=b
 hq:HQ st0.nb st (shT 1 T)
 nb:b∉bxL (shT 1 T)
 at_:atT T cur=some u
 dk:DkR st kv kids fp
 fb:b∉fp
 fn:∀z,z∈fp->st0.nb<=z
 fT:∀z,z∈fp->z∉bxL (shT 1 T)
 ow:∃xs,Own st0.nt 16 st asg az.length xs/\Fo az xs
variable {b:Nat} {st0 st st':St} {T u T' u':Tb} {cur cur':List Hop} {asg kv:TV} {fp:List Nat} {kids:List Nd} {az:List Asg}
theorem DcC.mv (C:DcC b st0 T u cur asg kv fp kids az st) (x:StX (·=b) st st'):DcC b st0 T u cur asg kv fp kids az st':=by
 obtain⟨xs,o1,o2⟩:=C.ow;exact⟨x.out C.e0 λk hk=>by rw[hk];exact C.bb,C.bb,(PlW.same C.hq C.nb x).hq,C.nb,C.at_,C.dk.frame x λz hz h=>C.fb (by rw[<-h];exact hz),C.fb,C.fn,C.fT,xs,o1.extX x,o2⟩
theorem DcC.plc (C:DcC b st0 T u cur asg kv fp kids az st) (W:PlW b st0.nb T T' st st') (hu:atT T' cur'=some u'):DcC b st0 T' u' cur' asg kv fp kids az st':=by
 obtain⟨xs,o1,o2⟩:=C.ow;refine⟨W.sx.out C.e0 λk hk=>hk.elim (λh=>by rw[h];exact C.bb) λh=>(C.hq.lt k h).1,C.bb,W.hq,W.nb,hu,C.dk.frame W.sx λz hz h=>h.elim (λh=>C.fb (by rw[<-h];exact hz)) (C.fT z hz),C.fb,C.fn,λz hz h=>?_,xs,o1.extX W.sx,o2⟩;rcases W.new z h with g | g
 ·exact C.fT z hz g
 ·have:=C.dk.lt z hz;omega
theorem DcC.asn {asg':TV} {xs:List TV} {az':List Asg} (C:DcC b st0 T u cur asg kv fp kids az st) (e:StX (λ_=>False) st0 st') (h1:st'.box=st.box) (h2:st'.nb=st.nb) (o1:Own st0.nt 16 st' asg' az'.length xs) (o2:Fo az' xs):DcC b st0 T u cur asg' kv fp kids az' st':=
 ⟨e.ext (Ag.refl _) λ_ h=>h.elim,C.bb,C.hq.fr (by omega) λx _=>by rw[h1],C.nb,C.at_,C.dk.same h1 h2,C.fb,C.fn,C.fT,xs,o1,o2⟩
theorem DcC.add {kv':TV} {fp':List Nat} {kids':List Nd} (C:DcC b st0 T u cur asg kv fp kids az st) (hb:b<st.nb) (x:StX (λx=>x=b∨x∈fp) st st') (D:DkR st' kv' kids' fp') (hf:∀x,x∈fp'->x∈fp∨st.nb<=x):DcC b st0 T u cur asg kv' fp' kids' az st':=by
 obtain⟨xs,o1,o2⟩:=C.ow;have hn:=C.e0.nb;refine⟨x.out C.e0 λk hk=>hk.elim (λh=>by rw[h];exact C.bb) (C.fn k),C.bb,C.hq.fr x.nb λz hz=>x.box z (C.hq.lt z hz).2 λh=>h.elim (λh=>C.nb (by rw[<-h];exact hz)) λh=>C.fT z h hz,C.nb,C.at_,D,λh=>(hf b h).elim C.fb (by omega),λz hz=>(hf z hz).elim (C.fn z) λh=>by omega,λz hz h=>?_,xs,o1.extX x,o2⟩;rcases hf z hz with g | g
 ·exact C.fT z g h
 ·have:=(C.hq.lt z h).2;omega
structure LB (i:Nat) (x:LnS):Prop where
 c:x.c<=i+1
 v:(Ae x.T).cnt<=x.c
 k:x.kids.length<=i
 k2:∀n,n∈x.kids->(TI n).length<=i
 a:x.asg.length<=i
theorem ZS {kids:List Nd} {n:Nd} {i j:Nat} (hij:i<j) (h1:kids.length<=i) (h2:∀n,n∈kids->(TI n).length<=i) (hn:(TI n).length<=j):(LM kids n).length<=j/\∀m,m∈LM kids n->(TI m).length<=j:=by
 have top:(kids++[n]).length<=j/\∀m,m∈kids++[n]->(TI m).length<=j:=⟨by simp;omega,λm hm=>(List.mem_append.1 hm).elim (λg=>by have:=h2 m g;omega) λg=>by rw[List.mem_singleton.1 g];exact hn⟩;unfold LM;split
 ·rename_i x hx
  split
  ·have hm:x∈kids:=List.mem_of_getLast? hx
   refine⟨by simp;omega,λm hm'=>(List.mem_append.1 hm').elim (λg=>by have:=h2 m (List.dropLast_subset _ g);omega) λg=>?_⟩;rw[List.mem_singleton.1 g];have:=h2 x hm;cases x;simp only[addIn,TI,List.length_append,List.length_singleton]at this⊢;omega
  ·exact top
 ·exact top
end
section
variable {E:TV->St->Prop} {st0 st:St} {b i l:Nat} {s:B8} {L:LmT} {y:Int×Int×Int} {T u:Tb} {asg kv:TV} {fp:List Nat} {x:LnS}
theorem shdr_ok {k:Int} {K:St->Prop} (P:PSB b s L y i l x.c [.box T.b 0,.box u.b 0,asg,kv] st) (C:DcC b st0 T u x.cur asg kv fp x.kids x.asg st) (hT:x.T=erT T) (B:LB i x) (hl:s.length<=1000000) (hn:nx s i= .ok (some (k,[91])))
  (he:∀p,Nv s L (sl s l i) i x= .error p->Fl E st0 p)
  (hk:∀x' j T' u' asg' kv' fp' st',Nv s L (sl s l i) i x= .ok (x',j)->i<j->PSB b s L y j j x'.c [.box T'.b 0,.box u'.b 0,asg',kv'] st'->DcC b st0 T' u' x'.cur asg' kv' fp' x'.kids x'.asg st'->x'.T=erT T'->LB j x'->K st'):
  Bz E PR DR [.box b 0] [] st K:=by
 have ht:=CJ P.hi hn;have hi1:i+1<=s.length:=by have:=ht.2.2.1;simp only[List.length_singleton]at this;omega
 have ex:∀{st1:St},StX (·=b) st st1->Ag st0 st1:=λx=>x.out C.e0 λk hk=>by rw[hk];exact C.bb
 refine J2 E b st K (Ac (Ay P.bx 6 rfl) (Am (CallT.x (U2 P λst1 P1 x1=>Ac (Ay P1.bx 6 rfl) (Am ?_)))));have hw1:IntKind.wrap .i64 ((i:Int)+1)=((i+1:Nat):Int):=by rw[Ah _ (by omega) (by omega)];omega
 refine Rg P1 hw1 (by omega) hi1 λst2 P2 x2=>?_;have x12:=x1.trans x2;refine⟨λl_1 from_1 lead_1 b1 b2 v1 n1 b3 b4 s1 n2 n3 n4 n5 n6 s2 v2 v3 v4 st5=>l_1= .box b 0/\from_1=(i:Int)/\lead_1=sl s l i/\b1=true/\n1=0/\b3=false/\b4=false/\s1=[]/\n2=0/\n3=0/\n4=0/\n5=0/\n6=0/\s2=[]/\v2= .nilSlice/\v3= .nilSlice/\v4= .nilSlice/\
   ∃k t,see s (i+1)= .ok (k,t)/\b2=decide (t=[91])/\PSB b s L y (if t=[91]then i+2 else i+1) i x.c [.box T.b 0,.box u.b 0,asg,kv] st5/\StX (·=b) st st5,?_,?_⟩
 ·refine F8 P2 hl (ex x12) (λp hp=>he p (by unfold Nv;rw[hp])) λk2 t2 st3 hs e3=>?_
  have P3:=P2.ext e3;have x3:=x12.trans (StX.of e3);refine Ab (λg=>?_) λg=>?_
  ·have g':t2=[91]:=g
   refine Ac (Ay P3.bx 6 rfl) (Am ?_);have h2:=CJ P2.hi (KA hs);have hw2:IntKind.wrap .i64 (((i+1:Nat):Int)+1)=((i+2:Nat):Int):=by rw[Ah _ (by omega) (by omega)];omega
   refine Rg P3 hw2 (by omega) (by have:=h2.2.2.1;rw[g',List.length_singleton]at this;omega) λst4 P4 x4=>?_;exact⟨rfl,rfl,rfl,rfl,rfl,rfl,rfl,rfl,rfl,rfl,rfl,rfl,rfl,rfl,rfl,rfl,rfl,k2,t2,hs,by rw[decide_eq_true g'],by rw[if_pos g'];exact P4,x3.trans x4⟩
  ·have g':¬t2=[91]:=g
   exact⟨rfl,rfl,rfl,rfl,rfl,rfl,rfl,rfl,rfl,rfl,rfl,rfl,rfl,rfl,rfl,rfl,rfl,k2,t2,hs,by rw[decide_eq_false g'],by rw[if_neg g'];exact P3,x3⟩
 rintro l_1 from_1 lead_1 b1 b2 v1 n1 b3 b4 s1 n2 n3 n4 n5 n6 s2 v2 v3 v4 st5 ⟨rfl,rfl,rfl,rfl,rfl,rfl,rfl,rfl,rfl,rfl,rfl,rfl,rfl,rfl,rfl,rfl,rfl,k2,t2,hs,rfl,P5,x5⟩;unfold Nv at he hk;rw[hs]at he hk;simp only at he hk;have hi2:=P5.hi;have hii:i+1<=(if t2=[91]then i+2 else i+1):=by split<;>omega
 generalize hi2e:(if t2=[91]then i+2 else i+1)=i2 at he hk P5 hi2 hii;refine Aa rfl (Aa rfl (U3 P5 hl (ex x5) C.bb (λp hp=>he p (by rw[hp])) λks j v st6 hks hij hj o6 P6 x6=>?_));rw[hks]at he hk;simp only at he hk;have x56:=x5.trans x6;obtain⟨kne,MA⟩:=VP hj (by omega) hks;refine Aa (by simp only[List.all_cons,List.all_nil,o6.rd.one];rfl) (Aa rfl (Aa rfl (Aa rfl (Ac (Ay P6.bx 6 rfl) (Am (Aa rfl (Aa rfl (Aa rfl ?_))))))));have hw3:IntKind.wrap .i64 ((i2:Int)+((j-i2:Nat):Int))=((j:Nat):Int):=by rw[Ah _ (by omega) (by omega)];omega
 refine Rg P6 hw3 (by omega) hj λst7 P7 x7=>Aa rfl (Aa rfl ?_);have x57:=x56.trans x7;refine G5 P7 hl (ex x57) C.bb (λp hp=>he p (by rw[show CK s j [93]= .error p from hp])) λst8 hp8 hj8 P8 x8=>?_;rw[show CK s j [93]= .ok ()from hp8]at he hk;simp only at he hk;have x58:=x57.trans x8;have hj8:j+1<=s.length:=hj8;have P8:PSB b s L y (j+1) (j+1) x.c [.box T.b 0,.box u.b 0,asg,kv] st8:=P8;refine⟨λl_2 from_2 lead_2 b5 b6 v8 n1 b3 b4 s1 n2 n3 n4 n5 n6 s2 v2 v3 v4 st10=>l_2= .box b 0/\from_2=(i:Int)/\lead_2=sl s l i/\b5=true/\b6=decide (t2=[91])/\v8=v/\n1=0/\b3=false/\b4=false/\s1=[]/\n2=0/\n3=0/\n4=0/\n5=0/\n6=0/\s2=[]/\v2= .nilSlice/\v3= .nilSlice/\v4= .nilSlice/\
   (if t2=[91]then CK s (j+1) [93]else .ok ():Except EP Unit)= .ok ()/\PSB b s L y (if t2=[91]then j+2 else j+1) (if t2=[91]then j+2 else j+1) x.c [.box T.b 0,.box u.b 0,asg,kv] st10/\StX (·=b) st st10,?_,?_⟩
 ·refine Ao (λg=>?_) λg=>?_
  ·have g':t2=[91]:=of_decide_eq_true g
   rw[if_pos g']at he;refine Aa rfl (Aa rfl (G5 P8 hl (ex x58) C.bb (λp hp=>he p (by rw[show CK s (j+1) [93]= .error p from hp])) λst9 hp9 hj9 P9 x9=>?_));exact⟨rfl,rfl,rfl,rfl,rfl,rfl,rfl,rfl,rfl,rfl,rfl,rfl,rfl,rfl,rfl,rfl,rfl,rfl,rfl,by rw[if_pos g'];exact hp9,by rw[if_pos g'];exact P9,x58.trans x9⟩
  ·have g':¬t2=[91]:=of_decide_eq_false g
   exact⟨rfl,rfl,rfl,rfl,rfl,rfl,rfl,rfl,rfl,rfl,rfl,rfl,rfl,rfl,rfl,rfl,rfl,rfl,rfl,by rw[if_neg g'],by rw[if_neg g'];exact P8,x58⟩
 rintro l_2 from_2 lead_2 b5 b6 v8 n1 b3 b4 s1 n2 n3 n4 n5 n6 s2 v2 v3 v4 st10 ⟨rfl,rfl,rfl,rfl,rfl,rfl,rfl,rfl,rfl,rfl,rfl,rfl,rfl,rfl,rfl,rfl,rfl,rfl,rfl,hpe,P10,x10⟩;rw[hpe]at he hk;simp only at he hk;have hje:i2+ks.length+1<=(if t2=[91]then j+2 else j+1)/\(t2=[91]->i2+ks.length+2<=(if t2=[91]then j+2 else j+1)):=by
  split
  ·exact⟨by omega,λ_=>by omega⟩
  ·rename_i h;exact⟨by omega,λh'=>absurd h' h⟩
 have hjs:=P10.hi;generalize hjeE:(if t2=[91]then j+2 else j+1)=je at he hk P10 hje hjs;have C10:=C.mv x10;have Bc:=B.c;have Bv:=B.v;have Ba:=B.a;have Bk:=B.k;have hcT:(Ae T).cnt<=x.c:=by rw[hT,Hh]at Bv;exact Bv
 obtain⟨ini,kl,rfl⟩:∃ini kl,ks=ini++[kl]:=⟨ks.dropLast,ks.getLast kne,(List.dropLast_concat_getLast kne).symm⟩;rw[hT]at he hk;refine Sl P10 C10.hq C10.nb (Nat.le_refl _) C10.e0.nb C.bb C10.at_ C10.e0 (λ_=>rfl) o6.rd (by omega) rfl (by omega) (by omega) (λp hp=>he p (by rw[hp])) λT' cur' c' d D u' st11 hp hD hu' P11 W11=>?_;have hcnt:=YV kne (λ_=>rfl) (by rw[K2,C10.at_];rfl) (VE T 1 C10.hq.ne) (by rw[Hh];exact hcT) hp;rw[hp]at hk;simp only at hk;have C11:=C10.plc W11 hu';obtain⟨xs,o11,a11⟩:=C11.ow;have hone:List.all [.bool true,.bool (decide (t2=[91])),v8,.int .i64 0,.bool false,.bool false,.str [],.int .i64 0,.int .i64 0,.int .i64 0,.int .i64 0,.int .i64 0,.str [],.nilSlice,.nilSlice,.nilSlice] Av=true:=by simp only[List.all_cons,List.all_nil,o6.rd.one];rfl
 refine Aa rfl (Aa rfl (Ac (Ay P11.bx 11 rfl) (Aa hone ?_)));have e0a:StX (λ_=>False) st0 st11:=StX.of C11.e0;refine JO e0a o11 (by omega) (by simp) λasg' st12 x12 hb12 hn12 o12 _=>?_;have hasg:Yw ⟨true,decide (t2=[91]),ini++[kl],vlO⟩ [.bool true,.bool (decide (t2=[91])),v8,.int .i64 0,.bool false,.bool false,.str [],.int .i64 0,.int .i64 0,.int .i64 0,.int .i64 0,.int .i64 0,.str [],.nilSlice,.nilSlice,.nilSlice]:=⟨v8,_,rfl,o6.rd,zero13⟩;have C12:DcC b st0 T' u' cur' asg' kv fp x.kids (x.asg++[⟨true,decide (t2=[91]),ini++[kl],vlO⟩]) st12:=C11.asn x12 hb12 hn12 (by rw[List.length_append];exact o12) (Rh hasg a11);have P12:=P11.same hb12 hn12;refine Aa rfl (Aa rfl (Aa (by simp only[List.all_cons,List.all_nil,o12.rd.one];rfl) (Mk P12.bx (by simp[sbC]) ?_)));have P13:PSB b s L y je je c' [.box T'.b 0,.box u'.b 0,asg',kv] (st12.put b (.cells ((sbC s L y je je c' [.box T'.b 0,.box u'.b 0,asg,kv]).set 11 asg'))):=⟨by simp[St.put,sbC],P12.lt,P12.le,P12.hi⟩;have C13:=C12.mv (StX.put (S:=(·=b)) (a:=st12) (i:=b) rfl (.cells ((sbC s L y je je c' [.box T'.b 0,.box u'.b 0,asg,kv]).set 11 asg')));generalize (st12.put b (.cells ((sbC s L y je je c' [.box T'.b 0,.box u'.b 0,asg,kv]).set 11 asg')))=st13 at P13 C13⊢;refine Aa rfl (Aa rfl (Aa rfl (Ac (Ay P13.bx 0 rfl) (AO (Aa rfl (Aa rfl (Aa rfl (Ac (Ay P13.bx 6 rfl) (Am ?_)))))))));refine⟨⟨by omega,by omega,by omega⟩,?_⟩;have hlead:List.drop (Int.toNat (i:Int)) (List.take (Int.toNat (je:Int)) s)=sl s i je:=by rw[Int.toNat_natCast,Int.toNat_natCast];rfl
 rw[hlead];refine CallT.x (YQ (ks:=[]) P13 C13.dk C13.fb (.inr ⟨rfl,rfl,rfl⟩) (by omega) (λn hn=>by have:=B.k2 n hn;omega) λkv' fp' st14 P14 D14 x14 f14=>⟨Ay P14.bx 6 rfl,Ay P14.bx 0 rfl,?_⟩);have C14:=C13.add P13.lt x14 D14 f14;have hadd:=ZS (n:= .mk 7 (sl s l i) (sl s i je) [] []) (i:=i) (j:=je) (by omega) Bk B.k2 (by simp[TI]);refine hk ⟨c',erT T',cur',_,_⟩ je T' u' asg' kv' fp' st14 rfl (by omega) P14 C14 rfl ⟨?_,?_,hadd.1,hadd.2,?_⟩
 ·have h2:=hcnt.2
  have:Ch true (decide (t2=[91]))<=1+(if t2=[91]then 1 else 0):=by unfold Ch;by_cases g:t2=[91]<;>simp[g]
  by_cases g:t2=[91]
  ·have:=hje.2 g
   rw[if_pos g]at*;simp only;omega
  ·rw[if_neg g]at*
   simp only;omega
 ·have:=hcnt.1;simpa using this
 ·simp only[List.length_append,List.length_singleton];omega
end
section
variable {E:TV->St->Prop} {st0 st:St} {b i l F:Nat} {s:B8} {L:LmT} {y:Int×Int×Int} {T u:Tb} {asg kv:TV} {fp:List Nat} {x:LnS}
theorem sent_ok {K:St->Prop} (P:PSB b s L y i l x.c [.box T.b 0,.box u.b 0,asg,kv] st) (C:DcC b st0 T u x.cur asg kv fp x.kids x.asg st) (hT:x.T=erT T) (B:LB i x) (hl:s.length<=1000000) (hL:L.d<=1000) (hF:2*s.length+4<=F)
  (he:∀p,Ow s L F (sl s l i) i x= .error p->Fl E st0 p)
  (hk:∀x' j T' u' asg' kv' fp' st',Ow s L F (sl s l i) i x= .ok (x',j)->i<j->PSB b s L y j j x'.c [.box T'.b 0,.box u'.b 0,asg',kv'] st'->DcC b st0 T' u' x'.cur asg' kv' fp' x'.kids x'.asg st'->x'.T=erT T'->LB j x'->K st'):
  Bz E PR Cr [.box b 0] [] st K:=by
 have ex:∀{st1:St},StX (·=b) st st1->Ag st0 st1:=λx=>x.out C.e0 λk hk=>by rw[hk];exact C.bb
 unfold Ow at he hk;refine Kj E b st K (Ac (Ay P.bx 6 rfl) (Am (U3 P hl C.e0 C.bb (λp hp=>he p (by rw[hp])) λks j v st1 hks hij hj o1 P1 x1=>?_)));rw[hks]at he hk;simp only at he hk;have C1:=C.mv x1;have Bc:=B.c;have Bv:=B.v;have Ba:=B.a;have Bk:=B.k;have hcT:(Ae T).cnt<=x.c:=by rw[hT,Hh]at Bv;exact Bv
 have hhi:=P.hi;obtain⟨kne,MA⟩:=VP hj (by omega) hks;obtain⟨ini,kl,rfl⟩:∃ini kl,ks=ini++[kl]:=⟨ks.dropLast,ks.getLast kne,(List.dropLast_concat_getLast kne).symm⟩;rw[hT]at he hk;refine Aa (by simp only[List.all_cons,List.all_nil,o1.rd.one];rfl) (Aa (by simp only[List.all_cons,List.all_nil,o1.rd.one];rfl) ?_);refine Sl P1 C1.hq C1.nb (Nat.le_refl _) C1.e0.nb C.bb C1.at_ C1.e0 (λh=>h) o1.rd (by omega) rfl (by omega) (by omega) (λp hp=>he p (by rw[hp])) λT' cur' c' d D u' st2 hp hD hu' P2 W2=>?_;have hcnt:=YV kne (λh=>h) (by rw[K2,C1.at_];rfl) (VE T 1 C1.hq.ne) (by rw[Hh];exact hcT) hp;have hc1:c'+1<=x.c+(ini++[kl]).length:=by have:=hcnt.2;simpa [Ch]using this
 have hc2:(Ae T').cnt<=c'+1:=by have:=hcnt.1;rw[Hh]at this;simpa using this
 rw[hp]at he hk;simp only at he hk;have C2:=C1.plc W2 hu';have ex2:∀{st1:St},StX (·=b) st2 st1->Ag st0 st1:=λx=>x.out C2.e0 λk hk=>by rw[hk];exact C.bb
 refine CallT.x (Hk (n:=j-i) P2 rfl hl (by omega) λst3 P3 x3=>?_);rw[show i+(j-i)=j from by omega]at P3⊢;refine Aa rfl (Eb P3 hl (ex2 x3) C.bb (λp hp=>he p (by rw[hp])) λi2 st4 hs4 P4 x4=>?_);rw[hs4]at he hk;simp only at he hk;have x34:=x3.trans x4;refine G5 P4 hl (ex2 x34) C.bb (λp hp=>he p (by rw[show CK s i2 [61]= .error p from hp])) λst5 hp5 hi5 P5 x5=>?_;rw[show CK s i2 [61]= .ok ()from hp5]at he hk;simp only at he hk;have hi5:i2+1<=s.length:=hi5;have P5:PSB b s L y (i2+1) (i2+1) c' [.box T'.b 0,.box u'.b 0,asg,kv] st5:=P5;have x35:=x34.trans x5;refine Aa rfl (Eb P5 hl (ex2 x35) C.bb (λp hp=>he p (by rw[hp])) λi4 st6 hs6 P6 x6=>?_);rw[hs6]at he hk;simp only at he hk;have x36:=x35.trans x6;have hl2:=(Bo P3.hi hs4).1;have hl4:=(Bo P5.hi hs6).1;have hl6:=P6.hi;refine Z5 hl hL F b d (i2+1) i4 c' _ st6 D _ (hD rfl) P6 (ex2 x36) C.bb (by omega) (by omega) (λp hp=>he p (by rw[hp])) λk ld tx nks tlx nkv xv ub ul uf j' c'' st7 hv hkd hvr P7 x7=>?_;rw[hv]at hk;simp only at hk;have hpos:=(Iq s L F).1 _ _ _ _ _ _ _ _ hl6 hv;have x37:=x36.trans x7;have C7:=C2.mv x37;obtain⟨xs,o7,a7⟩:=C7.ow;obtain⟨u1,u2,u3⟩:=Je hvr;have k1:=hkd.one;refine Aa (by simp only[List.all_cons,List.all_nil,k1];rfl) (Aa (by simp only[List.all_cons,List.all_nil,u1,u2,u3];rfl) (Aa (by simp only[List.all_cons,List.all_nil,u1,u2,u3];rfl) (Ac (Ay P7.bx 11 rfl) (Aa (by simp only[List.all_cons,List.all_nil,u1,u2,u3,o1.rd.one];rfl) ?_))));have e0a:StX (λ_=>False) st0 st7:=StX.of C7.e0;refine JO e0a o7 (by omega) (by simp) λasg' st8 x8 hb8 hn8 o8 _=>?_;have hasg:Yw ⟨false,false,ini++[kl],xv⟩ ([.bool false,.bool false,v]++AQ xv.sc ub ul uf):=⟨v,_,rfl,o1.rd,hvr⟩;have C8:DcC b st0 T' u' cur' asg' kv fp x.kids (x.asg++[⟨false,false,ini++[kl],xv⟩]) st8:=C7.asn x8 hb8 hn8 (by rw[List.length_append];exact o8) (Rh hasg a7);have P8:=P7.same hb8 hn8;refine Aa (by simp only[List.all_cons,List.all_nil,o8.rd.one];rfl) (Mk P8.bx (by simp[sbC]) ?_);have P9:PSB b s L y j' j' c'' [.box T'.b 0,.box u'.b 0,asg',kv] (st8.put b (.cells ((sbC s L y j' j' c'' [.box T'.b 0,.box u'.b 0,asg,kv]).set 11 asg'))):=⟨by simp[St.put,sbC],P8.lt,P8.le,P8.hi⟩;have C9:=C8.mv (StX.put (S:=(·=b)) (a:=st8) (i:=b) rfl (.cells ((sbC s L y j' j' c'' [.box T'.b 0,.box u'.b 0,asg,kv]).set 11 asg')));generalize (st8.put b (.cells ((sbC s L y j' j' c'' [.box T'.b 0,.box u'.b 0,asg,kv]).set 11 asg')))=st9 at P9 C9⊢;have hkd3:KdR (.list 5 .full 3 [.int .i64 6,.str (sl s l i),.str (sl s i j),.nilSlice,.str [],.int .i64 11,.str (sl s j i2),.str [61],.nilSlice,.str [],.int .i64 k,.str ld,.str tx,nkv,.str tlx]) [.mk 6 (sl s l i) (sl s i j) [] [],mrk (sl s j i2) [61],.mk k ld tx nks tlx]:=by
  refine⟨_,.inr ⟨.full,rfl⟩,?_⟩;unfold Bi;refine⟨[_,_,_,_,_],_,rfl,KdR.nil.nd 6 _ _ _,?_⟩;unfold Bi;refine⟨[_,_,_,_,_],_,rfl,KdR.nil.nd 11 _ _ _,?_⟩;unfold Bi;exact⟨_,[],(List.append_nil _).symm,hkd.nd k _ _ _,by unfold Bi;rfl⟩
 refine CallT.x (YQ (ks:=[.mk 6 (sl s l i) (sl s i j) [] [],mrk (sl s j i2) [61],.mk k ld tx nks tlx]) P9 C9.dk C9.fb (.inl ⟨rfl,hkd3⟩) (by omega) (λn hn=>by have:=B.k2 n hn;omega) λkv' fp' st10 P10 D10 x10 f10=>?_);have C10:=C9.add P9.lt x10 D10 f10;have hij':i+3<=j':=by omega
 have hadd:=ZS (n:=ent [.mk 6 (sl s l i) (sl s i j) [] [],mrk (sl s j i2) [61],.mk k ld tx nks tlx]) (i:=i) (j:=j') (by omega) Bk B.k2 (by simp[TI,ent];omega);refine hk ⟨c'',erT T',cur',_,_⟩ j' T' u' asg' kv' fp' st10 rfl (by omega) P10 C10 rfl ⟨?_,?_,hadd.1,hadd.2,?_⟩
 ·simp only;omega
 ·simp only[Hh];omega
 ·simp only[List.length_append,List.length_singleton];omega
end
section
variable {E:TV->St->Prop} {st0 st:St} {b:Nat} {s:B8} {L:LmT} {y:Int×Int×Int}
theorem LB.mono {i j:Nat} {x:LnS} (h:LB i x) (hij:i<=j):LB j x:=
 ⟨by have:=h.c;omega,h.v,by have:=h.k;omega,λn hn=>by have:=h.k2 n hn;omega,by have:=h.a;omega⟩
structure DcI (b:Nat) (st0:St) (s:B8) (L:LmT) (y:Int×Int×Int) (st:St) (f i l:Nat) (T u:Tb) (asg kv:TV) (fp:List Nat) (x:LnS):Prop where
 eq:CP s L=Ka s L (Ny s) f l x
 ps:PSB b s L y i l x.c [.box T.b 0,.box u.b 0,asg,kv] st
 cc:DcC b st0 T u x.cur asg kv fp x.kids x.asg st
 er:x.T=erT T
 lb:LB l x
 sq:sk s true l=sk s true i
 fu:s.length<f+l
theorem DcI.step {f i i1 l:Nat} {T u:Tb} {asg kv:TV} {fp:List Nat} {x:LnS} {k:Int} {t:B8} (I:DcI b st0 s L y st (f+1) i l T u asg kv fp x) (hs:sk s true i= .ok i1) (hn:nx s i1= .ok (some (k,t))):
  CP s L=match (if t=[91]then Nv s L (sl s l i1) i1 x else if HN k then Ow s L (Ny s) (sl s l i1) i1 x else .error (i1,3):Except EP (LnS×Nat))with
    | .error e=> .error e
    | .ok (x',j)=>match R3 s j with
     | .error e=> .error e
     | .ok _=>Ka s L (Ny s) f j x':=by
 rw[I.eq,Ka,I.sq,hs];simp only;rw[hn];rfl
theorem Wd {K:St->Prop} {f j:Nat} {T' u':Tb} {asg' kv':TV} {fp':List Nat} {x':LnS} (hl:s.length<=1000000)
  (he:∀p,CP s L= .error p->Fl E st0 p)
  (heq:CP s L=match R3 s j with
     | .error e=> .error e
     | .ok _=>Ka s L (Ny s) f j x') (P:PSB b s L y j j x'.c [.box T'.b 0,.box u'.b 0,asg',kv'] st) (C:DcC b st0 T' u' x'.cur asg' kv' fp' x'.kids x'.asg st) (hT:x'.T=erT T') (B:LB j x') (hf:s.length<f+j)
  (hk:∀i' st',j<=i'->DcI b st0 s L y st' f i' j T' u' asg' kv' fp' x'->K st'):Bz E PR BJ [.box b 0] [] st K:=
 Aac P hl C.e0 C.bb (λp hp=>he p (by rw[heq,hp])) λi' st' hp hs hji P' x1=>hk i' st' hji ⟨by rw[heq,hp],P',C.mv x1,hT,B,hs,hf⟩
theorem sdoc_ok {K:Int->B8->B8->TV->B8->St->Prop} (P:PSB b s L y 0 0 0 [.nilPtr,.nilPtr,.nilSlice,.nilSlice] st) (e0:Ag st0 st) (hb:st0.nb<=b) (hl:s.length<=1000000) (hL:L.d<=1000)
  (he:∀p,CP s L= .error p->Fl E st0 p)
  (hk:∀f i l T u asg kv fp x st',CP s L= .ok (x.kids,s.drop l,x.asg,x)->DcI b st0 s L y st' f i l T u asg kv fp x->K 1 [] [] kv (s.drop l) st'):
  Bz E PR Do [.box b 0] [.agg [.int .i64,.str,.str,.tv,.str]] st K:=by
 have ex:∀{st1:St},StX (·=b) st st1->Ag st0 st1:=λx=>x.out e0 λk hk=>by rw[hk];exact hb
 have hpt:CP s L=match bgn L 0 1 0 with | .error e=> .error e | .ok c=>Ka s L (Ny s) (s.length+1) 0 ⟨c,T00,[],[],[]⟩:=rfl
 refine IM E b st K (Nn P rfl rfl (by omega) e0 (λp hp=>he p (by rw[hpt,hp])) λm bb st1 hb1 P1 x1 m1 m2 m3 bx1 bx2=>Aa rfl ?_);rw[hb1]at hpt;simp only at hpt;have hlt:=P.lt;have hn1:=x1.nb;have hmb:m≠b:=by omega
 have hbb:bb≠b:=by omega
 refine Mk P1.bx (by simp[sbC]) ?_;have P2:PSB b s L y 0 0 (0+1) [.box bb 0,.nilPtr,.nilSlice,.nilSlice] (st1.put b (.cells ((sbC s L y 0 0 (0+1) [.nilPtr,.nilPtr,.nilSlice,.nilSlice]).set 9 (.box bb 0)))):=⟨by simp[St.put,sbC],P1.lt,P1.le,P1.hi⟩;have x2:StX (·=b) st1 (st1.put b (.cells ((sbC s L y 0 0 (0+1) [.nilPtr,.nilPtr,.nilSlice,.nilSlice]).set 9 (.box bb 0)))):=StX.put (S:=(·=b)) (i:=b) rfl _;generalize (st1.put b (.cells ((sbC s L y 0 0 (0+1) [.nilPtr,.nilPtr,.nilSlice,.nilSlice]).set 9 (.box bb 0))))=st2 at P2 x2⊢;refine Ac (Ay P2.bx 9 rfl) (Aa rfl (Mk P2.bx (by simp[sbC]) ?_));have P3:PSB b s L y 0 0 (0+1) [.box bb 0,.box bb 0,.nilSlice,.nilSlice] (st2.put b (.cells ((sbC s L y 0 0 (0+1) [.box bb 0,.nilPtr,.nilSlice,.nilSlice]).set 10 (.box bb 0)))):=⟨by simp[St.put,sbC],P2.lt,P2.le,P2.hi⟩;have x3:StX (·=b) st2 (st2.put b (.cells ((sbC s L y 0 0 (0+1) [.box bb 0,.nilPtr,.nilSlice,.nilSlice]).set 10 (.box bb 0)))):=StX.put (S:=(·=b)) (i:=b) rfl _;generalize (st2.put b (.cells ((sbC s L y 0 0 (0+1) [.box bb 0,.nilPtr,.nilSlice,.nilSlice]).set 10 (.box bb 0))))=st3 at P3 x3⊢;have x23:=x2.trans x3;have e3:=ex (x1.trans x23);have en:=e0.nb;have C3:DcC b st0 (Ar ⟨bb,m,0⟩ false) (Ar ⟨bb,m,0⟩ false) [] .nilSlice .nilSlice [] [] [] st3:=by
  refine⟨e3,hb,⟨?_,λx hx=>?_,Tr ?_ ?_⟩,?_,rfl,DkR.nil _,by simp,(λz hz=>by cases hz),(λz hz=>by cases hz),[],Own.nil _ _ _,by unfold Fo;rfl⟩
  ·rw[JK];simp;omega
  ·rw[JK]at hx
   have:=x23.nb;simp only[List.mem_cons,List.not_mem_nil,or_false]at hx;omega
  ·show st3.box m=_
   rw[x23.box m (by omega) hmb];exact bx1
  ·show st3.box bb=_
   rw[x23.box bb (by omega) hbb];exact bx2
  ·rw[JK];simp;omega
 have hv1:(Ae T00).cnt=1:=by unfold T00;rw[Ae,Bb];simp[Vl.cnt,AH,AX]
 refine⟨λl_1 n1 s1 s2 v3 s3 st4=>l_1= .box b 0/\n1=0/\s1=[]/\s2=[]/\v3= .nilSlice/\s3=[]/\∃f i l T u asg kv fp x,DcI b st0 s L y st4 f i l T u asg kv fp x,λ_ _ _ _ _ _ st4=>atM b s st4,
  ⟨rfl,rfl,rfl,rfl,rfl,rfl,s.length+1,0,0,Ar ⟨bb,m,0⟩ false,Ar ⟨bb,m,0⟩ false,.nilSlice,.nilSlice,[],⟨0+1,T00,[],[],[]⟩,hpt,P3,C3,by rw[Lf];rfl,⟨by dsimp only;omega,by dsimp only;rw[hv1];omega,by simp,(λn hn=>by cases hn),by simp⟩,rfl,by omega⟩,?_⟩
 rintro l_1 n1 s1 s2 v3 s3 st4 ⟨rfl,rfl,rfl,rfl,rfl,rfl,f,i,l,T,u,asg,kv,fp,x,I⟩;have P4:=I.ps;have hli:=P4.le;have his:=P4.hi;obtain⟨f,rfl⟩:∃f',f=f'+1:=⟨f-1,by have:=I.fu;omega⟩;have hM4:=IF P4;refine Aa rfl (Aa rfl (Eb P4 hl I.cc.e0 hb (λp hp=>he p (by rw[I.eq,Ka,I.sq,hp])) λi1 st5 hs P5 x5=>Aa rfl (Aa rfl ?_)));have C5:=I.cc.mv x5;have hii:=(Bo his hs).1;have hi1:=P5.hi;refine IU P5 hl C5.e0 (λp hp=>he p (by rw[I.eq,Ka,I.sq,hs];simp only;rw[hp])) (λhn=>?_) λk t st6 hn e6=>?_
 ·refine Cq rfl (Aa rfl (Aa rfl (Ac (Ay P5.bx 12 rfl) (Aa rfl (Aa rfl (Aa rfl (Ac (Ay P5.bx 0 rfl) (AO (Aa rfl (Aa rfl (Aa rfl (Ac (Ay P5.bx 7 rfl) (Am ⟨⟨by omega,by omega⟩,?_⟩)))))))))))))
  obtain⟨xs,bs,fs,o1,_⟩:=C5.dk;have hone:=o1.one;refine Aa (by simp only[List.all_cons,List.all_nil,hone];rfl) (Aa (by simp only[List.all_cons,List.all_nil,hone];rfl) ?_);rw[Int.toNat_natCast];refine hk (f+1) i1 l T u asg kv fp x st5 (by rw[I.eq,Ka,I.sq,hs];simp only;rw[hn]) ⟨I.eq,P5,C5,I.er,I.lb,?_,I.fu⟩;rw[I.sq,hs];exact(YM (all:=true) (s.length-i) i i1 (Nat.le_refl _) his hs).1.symm
 ·refine Dc rfl ?_
  have P6:=P5.ext e6;have C6:=C5.mv (StX.of e6);have hst:=I.step hs hn;have B6:=I.lb.mono (Nat.le_trans hli hii);have again:∀{f' i' j:Nat} {T' u':Tb} {asg' kv':TV} {fp':List Nat} {x':LnS} {st8:St},i1<j->j<=i'->DcI b st0 s L y st8 f' i' j T' u' asg' kv' fp' x'->
    ((TV.box b 0= .box b 0/\(0:Int)=0/\([]:B8)=[]/\([]:B8)=[]/\TV.nilSlice= .nilSlice/\([]:B8)=[]/\∃f i l T u asg kv fp x,DcI b st0 s L y st8 f i l T u asg kv fp x)/\atM b s st8<atM b s st4):=λ{f' i' j T' u' asg' kv' fp' x' st8} h1 h2 I8=>by
   refine⟨⟨rfl,rfl,rfl,rfl,rfl,rfl,_,_,_,_,_,_,_,_,_,I8⟩,?_⟩;rw[hM4,IF I8.ps];have:=I8.ps.hi;omega
  have hfu:=I.fu;refine Ab (λg=>?_) λg=>?_
  ·have g':t=[91]:=g
   subst g';rw[if_pos rfl]at hst;refine shdr_ok P6 C6 I.er B6 hl hn (λp hp=>he p (by rw[hst,hp])) λx' j T' u' asg' kv' fp' st7 hh hj P7 C7 hT7 B7=>?_;rw[hh]at hst;exact Wd hl he hst P7 C7 hT7 B7 (by omega) λi' st8 hji I8=>again hj hji I8
  ·have g':¬t=[91]:=g
   rw[if_neg g']at hst;have ent:HN k->Bz E PR Cr [.box b 0] [] st6 λst9=>Bz E PR BJ [.box b 0] [] st9 λst10=>((TV.box b 0= .box b 0/\(0:Int)=0/\([]:B8)=[]/\([]:B8)=[]/\TV.nilSlice= .nilSlice/\([]:B8)=[]/\∃f i l T u asg kv fp x,DcI b st0 s L y st10 f i l T u asg kv fp x)/\atM b s st10<atM b s st4):=λhw=>by
    rw[if_pos hw]at hst;refine sent_ok (F:=Ny s) P6 C6 I.er B6 hl hL (Nat.le_refl _) (λp hp=>he p (by rw[hst,hp])) λx' j T' u' asg' kv' fp' st7 hh hj P7 C7 hT7 B7=>?_;rw[hh]at hst;exact Wd hl he hst P7 C7 hT7 B7 (by omega) λi' st8 hji I8=>again hj hji I8
   refine Ab (λg6=>ent (.inl g6)) λg6=>Ab (λg5=>ent (.inr g5)) λg5=>?_;rw[if_neg (λh=>h.elim g6 g5)]at hst;exact Aa rfl (Aa rfl (Aa rfl (Aa rfl (Aa rfl (Ac (Ay P6.bx 6 rfl) (Am (Bs rfl C6.e0 (he _ hst))))))))
end
section
variable {s:B8} {L:LmT} {y1 y2 y3:Int} {ub ul uf cv plv:TV}
def ovr (s:B8) (o i:Nat):Except EP Nat:=if o=0 then .ok i else sk s (decide (o=2)) i
def nxo (s:B8) (o i:Nat):Except EP (Nat×Option (Int×B8)):=match ovr s o i with
 | .error e=> .error e
 | .ok j=>match nx s j with
  | .error e=> .error e
  | .ok x=> .ok (j,x)
theorem nx_at {s:B8} {j:Nat} (hj:j<s.length):nx s j=match nxt s (j:Int)with | .ok p=> .ok (some (p.1,p.2.1)) | .error e=> .error (if e=4 then(s.length,4)else(j,e)):=by
 unfold nx;rw[if_neg (by omega)];cases nxt s (j:Int)<;>rfl
theorem nxt_ne {s:B8} {j:Nat} {e:Int} (hj:j<s.length) (h:nxt s (j:Int)= .error e):e≠0:=by
 rcases Aan hj with⟨e',h1,_,h2⟩ | ⟨kd,n,h1,_⟩
 ·rw[h1]at h;cases h;exact h2
 ·rw[h]at h1
  cases h1
end
section
variable {s:B8} {L:LmT} {y1 y2 y3:Int} {ub ul uf cv plv:TV}
theorem Oi {s:B8} {j:Nat} {p:EP} (hj:j<=s.length) (h:nx s j= .error p):p.2≠0:=by
 by_cases he:j=s.length
 ·rw[he,nx_end]at h;cases h
 ·rw[nx_at (by omega)]at h
  split at h
  ·cases h
  ·rename_i e hq
   have:=nxt_ne (by omega) hq;cases h;split
   ·simp
   ·exact this
theorem skF_ne {s:B8} {all:Bool}:∀(f i:Nat) {p:EP},i<=s.length->skF s all f i= .error p->p.2≠0
 | 0,i,p,hi,h=>by unfold skF at h;cases h
 | f+1,i,p,hi,h=>by
  unfold skF at h;split at h
  ·rename_i e hn;cases h;exact Oi hi hn
  ·cases h
  ·rename_i k t hn
   have:=CJ hi hn;split at h
   ·exact skF_ne f _ (by omega) h
   ·cases h
theorem Kx {s:B8} {all:Bool} {i:Nat} {p:EP} (hi:i<=s.length) (h:sk s all i= .error p):p.2≠0:=skF_ne _ _ hi h
end
theorem WP:∀(n:Nat) (s:B8),s.length<=n->BR (s.take (s.length-BR s))=0:=by
 intro n;induction n with
 | zero=>intro s h;rw[List.eq_nil_of_length_eq_zero (by omega:s.length=0)];rfl
 | succ n ih=>
  intro s h;by_cases hne:s=[]
  ·subst hne;rfl
  have hl:=List.dropLast_concat_getLast hne;generalize s.dropLast=a at hl;generalize s.getLast hne=c at hl;subst hl;rw[Kb];rw[List.length_append,List.length_singleton]at h⊢;by_cases h0:c=48
  ·rw[if_pos h0,show a.length+1-(BR a+1)=a.length-BR a by omega,List.take_append_of_le_length (by omega)]
   exact ih a (by omega)
  ·rw[if_neg h0,List.take_of_length_le (by simp),Kb,if_neg h0]
theorem UC:∀(n:Nat) (s:B8),s.length<=n->BR s=s.length->∀c,c∈s->c=48:=by
 intro n;induction n with
 | zero=>intro s h _ c hc;rw[List.eq_nil_of_length_eq_zero (by omega:s.length=0)]at hc;cases hc
 | succ n ih=>
  intro s h hz x hx;have hne:s≠ []:=λe=>by rw[e]at hx;cases hx
  have hl:=List.dropLast_concat_getLast hne;generalize s.dropLast=a at hl;generalize s.getLast hne=c at hl;subst hl;rw[Kb]at hz;rw[List.length_append,List.length_singleton]at h hz;by_cases h0:c=48
  ·rw[if_pos h0]at hz
   rcases List.mem_append.1 hx with hx | hx
   ·exact ih a (by omega) (by omega) x hx
   ·rw[List.mem_singleton.1 hx];exact h0
  ·rw[if_neg h0]at hz;omega
def K4 (r:Bool×B8×Int×Int):Prop:=r.2.2.2=0->Gv r.1 r.2.1 r.2.2.1
theorem JI:K4 NH:=λh=>absurd h (by decide)
theorem dcN_good {neg:Bool} {s:B8} {ex:Int} (hd:∀c,c∈s->Cz c) (h0:s.getD 0 0≠48):K4 (dcN neg s ex):=by
 unfold dcN;split
 ·exactλ_=>⟨λ_=>⟨rfl,rfl⟩,λh=>absurd rfl h⟩
 rename_i hne;split
 ·exactλh=>absurd h (by decide)
 rename_i hb;intro _;have hz:=WP _ s (Nat.le_refl _);have hzl:=PF s;have hlt:BR s<s.length:=by
  apply Decidable.byContradiction;intro hn;have:=UC _ s (Nat.le_refl _) (by omega);cases s with
  | nil=>exact hne rfl
  | cons c t=>exact h0 (this c (.head _))
 refine⟨λhe=>?_,λ_=>⟨?_,λc hc=>hd c (List.mem_of_mem_take hc),?_,hz,by show-400<=ex+_;omega,by show ex+_<=400;omega⟩⟩
 ·have:=congrArg List.length he
  replace this:(s.take (s.length-BR s)).length=0:=this;rw[List.length_take]at this;omega
 ·show(s.take (s.length-BR s)).length<=120
  rw[List.length_take];omega
 ·show(s.take (s.length-BR s)).getD 0 0≠48
  obtain⟨k,hk⟩:∃k,s.length-BR s=k+1:=⟨s.length-BR s-1,by omega⟩;rw[hk];cases s with
  | nil=>exact absurd rfl hne
  | cons c t=>exact h0
theorem Xc {l:B8} {c:UInt8} (h:c∈CO l):c∈l:=(List.dropWhile_sublist _).subset h
theorem Wk {neg:Bool} {all:B8} {ex:Int} (h:∀c,c∈all->Cz c):K4 (dcN neg (CO all) ex):=dcN_good (λc hc=>h c (Xc hc)) (Kt all)
theorem Q8 {neg:Bool} {all:B8} {ex:Int} {less:Bool} {r:B8} (h:∀c,c∈all->Cz c):K4 (dcX neg all ex less r):=by
 unfold dcX;split
 ·exact JI
 ·exact Wk h
theorem Wl {neg:Bool} {all:B8} {ex:Int} {r:B8} (h:∀c,c∈all->Cz c):K4 (dcE neg all ex r):=by
 unfold dcE;split
 ·exact Wk h
 split
 ·split
  ·exact Q8 h
  split
  ·exact Q8 h
  ·exact Q8 h
 ·exact JI
theorem dcF_good {neg:Bool} {a r:B8} (h:∀c,c∈a->Cz c):K4 (dcF neg a r):=by
 unfold dcF;split
 ·split
  ·exact JI
  ·exact Wl λc hc=>(List.mem_append.1 hc).elim (h c) (I7 _ c)
 ·exact Wl h
theorem dcQ_good {neg:Bool} {s:B8}:K4 (dcQ neg s):=by
 unfold dcQ;split
 ·exact JI
 ·exact dcF_good (I7 s)
theorem dcP_good (s:B8):K4 (dcP s):=by
 unfold dcP;split<;>exact dcQ_good
def Rp (r:TmR):Prop:=r.2.2.2.2=0->HG r.1 r.2.1 r.2.2.1 r.2.2.2.1
theorem Hi:Rp IS:=λh=>absurd h (by decide)
theorem Jk:Rp IR:=λh=>absurd h (by decide)
theorem Uf {y m d:Nat} (h:okD y m d):KY y m d<=3652058:=by
 obtain⟨h1,h2,h3,h4,h5,h6⟩:=h;have g1:=Sy y h3;have g2:=Aap y (show m+1<=13 by omega);have g3:LJ y 13=LJ y 12+Po y 12:=rfl;have g4:=yrS_succ h1;have g5:=yrS_mono (show 1<=y+1 by omega) (show y+1<=10000 by omega);have g6:yrS 10000=3652059:=by decide
 unfold KY;omega
theorem QC {h m s f:Nat} (hc:okC h m s) (hf:f<1000000000):FK h m s f<=86399999999999:=by
 obtain⟨h1,h2,h3⟩:=hc;unfold FK;omega
theorem ZI {s:B8} {h m sc f:Nat} {r:B8} (hc:LL s=some (h,m,sc,f,r)):f<1000000000:=by
 unfold LL at hc;split at hc
 ·split at hc
  ·split at hc
   ·cases hc
   ·rename_i h1
    simp only[Option.some.injEq,Prod.mk.injEq]at hc;obtain⟨_,_,_,rfl,_⟩:=hc;exact fracN_lt (I7 _) (by omega)
  ·simp only[Option.some.injEq,Prod.mk.injEq]at hc
   obtain⟨_,_,_,rfl,_⟩:=hc;decide
 ·cases hc
theorem tmO_good {y mo d h m s f:Nat} {r:B8} (hf:f<1000000000):Rp (tmO y mo d h m s f r):=by
 unfold tmO;split
 ·split
  ·rename_i g
   have h1:=Uf g.1;have h2:=QC g.2 hf;intro _;exact⟨by show(1:Int)<=3;decide,by show(3:Int)<=4;decide,Int.natCast_nonneg _,by show((KY y mo d:Nat):Int)<=_;omega,Int.natCast_nonneg _,by show((FK h m s f:Nat):Int)<=_;omega,by show(-1439:Int)<=0;decide,by show(0:Int)<=1439;decide,λh=>absurd h (by show ¬(3:Int)=2;decide),λh=>absurd h (by show ¬(3:Int)=1;decide),λ_=>rfl⟩
  ·exact Jk
 ·split
  ·exact Hi
  ·rename_i ls oh om _
   split
   ·rename_i g
    obtain⟨g1,g2,g3,g4⟩:=g;have h1:=Uf g1;have h2:=QC g2 hf;intro _;have hz: -1439<=(if ls then-((oh*60+om:Nat):Int)else((oh*60+om:Nat):Int))/\(if ls then-((oh*60+om:Nat):Int)else((oh*60+om:Nat):Int))<=1439:=by split<;>omega
    exact⟨by show(1:Int)<=4;decide,by show(4:Int)<=4;decide,Int.natCast_nonneg _,by show((KY y mo d:Nat):Int)<=_;omega,Int.natCast_nonneg _,by show((FK h m s f:Nat):Int)<=_;omega,hz.1,hz.2,λh=>absurd h (by show ¬(4:Int)=2;decide),λh=>absurd h (by show ¬(4:Int)=1;decide),λh=>absurd rfl h⟩
   ·exact Jk
theorem tmD_good {y mo d:Nat} {r:B8}:Rp (tmD y mo d r):=by
 unfold tmD;split
 ·split
  ·rename_i g
   have h1:=Uf g;intro _;exact⟨by show(1:Int)<=1;decide,by show(1:Int)<=4;decide,Int.natCast_nonneg _,by show((KY y mo d:Nat):Int)<=_;omega,by show(0:Int)<=0;decide,by show(0:Int)<=_;decide,by show(-1439:Int)<=0;decide,by show(0:Int)<=1439;decide,λh=>absurd h (by show ¬(1:Int)=2;decide),λ_=>rfl,λ_=>rfl⟩
  ·exact Jk
 split
 ·split
  ·exact Hi
  ·rename_i hc
   exact tmO_good (ZI hc)
 ·exact Hi
theorem tmP_good (s:B8):Rp (tmP s):=by
 unfold tmP;split
 ·exact tmD_good
 split
 ·exact Hi
 ·rename_i h m sc f r hc
  split
  ·split
   ·rename_i g
    have h2:=QC g (ZI hc);intro _;exact⟨by show(1:Int)<=2;decide,by show(2:Int)<=4;decide,by show(0:Int)<=0;decide,by show(0:Int)<=_;decide,Int.natCast_nonneg _,by show((FK h m sc f:Nat):Int)<=_;omega,by show(-1439:Int)<=0;decide,by show(0:Int)<=1439;decide,λ_=>rfl,λh=>absurd h (by show ¬(2:Int)=1;decide),λ_=>rfl⟩
   ·exact Jk
  ·exact Hi
theorem dec0:Gv false [] 0:=⟨λ_=>⟨rfl,rfl⟩,λh=>absurd rfl h⟩
theorem one_text {s:B8} (hu:U8 s) (hl:s.length<=65536):K3 (tkT s) [] []:=
 ⟨⟨(by decide:(0:Int)<=4),(by decide:(4:Int)<=7),λ_=>rfl,λ_=>⟨rfl,rfl,rfl⟩,λ_=>⟨rfl,rfl,rfl,rfl⟩,λh=>absurd rfl h,λ_=>rfl,λ_=>rfl,λ_=>rfl⟩,dec0,λh=>absurd h (by show ¬(4:Int)=3;decide),hu,hl,Nat.zero_le _,rfl⟩
theorem Xe {i:Nat} {T T' u:Tb} {cur cur':List Hop} {a:Asg} (hu:atT T cur=some u) (hne:NeL (shT 1 T)) (hs:EE i T cur a= .ok (T',cur')) (hv:AY (Ae T)) (hk:∀k,k∈a.keys->U8 k/\k.length<=1024) (ha:a.elem=false->a.tab=false->AY a.val):AY (Ae T'):=by
 unfold EE Fg at hs;split at hs
 ·cases hs
 rename_i hp;split at hs
 ·cases hs
 rename_i T1 h hh;have hks:a.keys≠ []:=λe=>by
  have:C4 a=true:=by simpa using hp
  unfold C4 at this;rw[e]at this;simp at this
 obtain⟨u0,hu0⟩:∃u0,atT T (if a.tab=true then []else cur)=some u0:=by
  split
  ·exact⟨T,by cases T;rfl⟩
  ·exact⟨u,hu⟩
 obtain⟨W,hne1⟩:=KL _ 0 hu0 hne hh (Nat.le_refl _);obtain⟨F,_⟩:=KK hne1 hs;have hl:a.keys.getLastD []∈a.keys:=by
  rw[List.getLastD_eq_getLast?,List.getLast?_eq_some_getLast hks];exact List.getLast_mem hks
 exact F.va ⟨(hk _ hl).1,(hk _ hl).2,ha⟩ (W.va (λk hk'=>hk k (List.dropLast_subset _ hk')) hv)
structure Well (T:Tb) (cur:List Hop) (n:Nat):Prop where
 at_:∃u,atT T cur=some u
 nd:NdL (shT 1 T)
 ne:NeL (shT 1 T)
 va:AY (Ae T)
 cnt:(Ae T).cnt<=n
theorem Well.start:Well T00 [] 1:=
 ⟨⟨T00,rfl⟩,Lh 1 n0 false,Lg 1 n0 false,E6 n0 false,by have:=FG n0 false;rw[AK]at this;rw[show(Ae T00).cnt=1 from this];omega⟩
def aT (ks:List B8):Asg:=⟨true,false,ks,vlO⟩
def aE (ks:List B8):Asg:=⟨true,true,ks,vlO⟩
section
def Ze (l:List Vl):Bool:= !l.isEmpty&&l.all λx=>decide (x.sc.kind=7)
def isMaps (v:Vl):Bool:=Ze v.list
def Qt:List Fd->List Asg
 | []=>[]
 | .mk k v::r=>if v.sc.kind≠7/\isMaps v=false then⟨false,false,[k],v⟩::Qt r else Qt r
mutual
def tabF (ks:List B8):List Fd->List Asg
 | []=>[]
 | d::r=>tabD ks d++tabF ks r
def tabD (ks:List B8):Fd->List Asg
 | .mk k v=>tabV (ks++[k]) v
def tabV (ks:List B8):Vl->List Asg
 | .mk s l f=>if s.kind=7 then aT ks::(Qt f++tabF ks f)else if Ze l=true then elL ks l else []
def elL (ks:List B8):List Vl->List Asg
 | []=>[]
 | x::r=>elV ks x++elL ks r
def elV (ks:List B8):Vl->List Asg
 | .mk s l f=>aE ks::(Qt f++tabF ks f)
end
def flatV (ks:List B8) (v:Vl):List Asg:=Qt v.flds++tabF ks v.flds
end
end Go.TVF
section
namespace Go.TVF
open Go.IntKind(i64 u8)
def LstW:Tb->List Hop->Prop
 | _,[]=>True
 | .mk _ _ _ es,(k,none)::h=>∃eb u,Aj k es=some (eb,.opn u)/\LstW u h
 | .mk _ _ _ es,(k,some i)::h=>∃eb l u,Aj k es=some (eb,.lst l)/\l[i]? =some u/\i+1=l.length/\LstW u h
structure Rm (T:Tb) (h:List Hop) (C L:Nat):Prop where
 va:AY (Ae T)
 lv:lvV (Ae T)<=48
 cn:(Ae T).cnt+C<=65536
 dp:dpH h+L<=48
structure Lk (v w:Vl):Prop where
 va:AY w
 cnt:w.cnt=v.cnt
 sz:w.sz=v.sz
 lv:lvV w<=lvV v
 srt:YL w=YL v
theorem WK:∀(l r:List Asg) (i:Nat) (T:Tb) (cur:List Hop) {T':Tb} {cur':List Hop},G2 i T cur l= .ok (T',cur')->G2 i T cur (l++r)=G2 (i+l.length) T' cur' r
 | [],r,i,T,cur,T',cur',h=>by rw[G2]at h;cases h;rfl
 | a::l,r,i,T,cur,T',cur',h=>by
  rw[G2]at h;rw[List.cons_append,G2];cases hs:EE i T cur a with
  | error e=>rw[hs]at h;cases h
  | ok p=>
   obtain⟨T1,c1⟩:=p;rw[hs]at h;simp only at h⊢;by_cases hc:BV (Ae T1)=0
   ·rw[if_pos hc]at h⊢
    rw[WK l r _ _ _ h,List.length_cons,show i+1+l.length=i+(l.length+1) by omega]
   ·rw[if_neg hc]at h;cases h
theorem allG_one {i:Nat} {T T':Tb} {cur cur':List Hop} {a:Asg} (r:List Asg) (h:EE i T cur a= .ok (T',cur')) (hc:BV (Ae T')=0):G2 i T cur (a::r)=G2 (i+1) T' cur' r:=by
 rw[G2,h];simp only;rw[if_pos hc]
def Bk (v:Vl):Prop:=∀(i:Nat) (T:Tb) (h:List Hop) (t:Tb),atT T h=some t->t.es=[]->LstW T h->Rm T h (v.cnt-1) (lvV v)->
 ∃t' cur',G2 i T h (flatV (h.map Prod.fst) v)= .ok (AA T h t',cur')/\Lk v (Ae t')
theorem Xx (v:Vl):1<=lvV v:=by cases v;rw[lvV];omega
theorem cnt_pos (v:Vl):1<=v.cnt:=by cases v;unfold Vl.cnt;omega
end Go.TVF
end
section
namespace Go.TVF
open Go.IntKind(i64 u8)
mutual
def evT:Tb->Tb
 | .mk _ _ hd es=> .mk 0 0 hd (HO es)
def HO:List Kn->List Kn
 | []=>[]
 | .mk k _ e::r=> .mk k 0 (evE e)::HO r
def evE:En->En
 | .opn t=> .opn (evT t)
 | .lst l=> .lst (Ua l)
 | .clo _ _=> .clo vlO 0
def Ua:List Tb->List Tb
 | []=>[]
 | t::r=>evT t::Ua r
end
theorem FD:∀l:List Tb,Ua l=l.map evT
 | []=>by unfold Ua;rfl
 | t::r=>by unfold Ua;rw[FD r];rfl
theorem V6:∀a b:List Kn,HO (a++b)=HO a++HO b
 | [],b=>by simp[HO]
 | .mk k eb e::r,b=>by rw[List.cons_append,HO,HO,V6 r b];rfl
theorem V5 (t:Tb):(evT t).es=HO t.es:=by cases t;rw[evT];rfl
theorem ev_hd (t:Tb):(evT t).hd=t.hd:=by cases t;rw[evT];rfl
theorem HZ (k:B8):∀es:List Kn,Aj k (HO es)=(Aj k es).map λp=>(0,evE p.2)
 | []=>by rw[HO];rfl
 | .mk k' eb e::r=>by
  rw[HO,Aj,Aj];split
  ·rfl
  ·exact HZ k r
theorem Tu (k:B8) (x:En):∀es:List Kn,BZ k (evE x) (HO es)=HO (BZ k x es)
 | []=>by rw[HO];rfl
 | .mk k' eb e::r=>by
  rw[HO,BZ,BZ];split
  ·rw[HO]
  ·rw[HO,Tu k x r]
theorem WI:∀(h:List Hop) (T:Tb),atT (evT T) h=(atT T h).map evT
 | [],T=>by cases T;rw[evT];simp only[atT,Option.map_some];rw[evT]
 | (k,none)::h,.mk b m hd es=>by
  rw[evT,atT,atT,HZ];rcases Aj k es with _ | ⟨eb,u | l | ⟨v,i⟩⟩
  ·rfl
  ·simp only[Option.map_some,evE];exact WI h u
  ·simp only[Option.map_some,evE];rfl
  ·simp only[Option.map_some,evE];rfl
 | (k,some i)::h,.mk b m hd es=>by
  rw[evT,atT,atT,HZ];rcases Aj k es with _ | ⟨eb,u | l | ⟨v,j⟩⟩
  ·rfl
  ·simp only[Option.map_some,evE];rfl
  ·simp only[Option.map_some,evE,FD,List.getElem?_map]
   cases l[i]? with
   | none=>rfl
   | some u=>exact WI h u
  ·simp only[Option.map_some,evE];rfl
theorem GR:∀(h:List Hop) (T x:Tb),AA (evT T) h (evT x)=evT (AA T h x)
 | [],T,x=>by cases T;cases x;rw[evT,evT];simp only[AA];rw[evT]
 | (k,none)::h,.mk b m hd es,x=>by
  rw[evT,AA,AA,HZ];rcases Aj k es with _ | ⟨eb,u | l | ⟨v,i⟩⟩
  ·simp only[Option.map_none];rw[evT]
  ·simp only[Option.map_some,evE]
   rw[evT,GR h u x];have:=Tu k (.opn (AA u h x)) es;rw[evE]at this;rw[this]
  ·simp only[Option.map_some,evE];rw[evT]
  ·simp only[Option.map_some,evE];rw[evT]
 | (k,some i)::h,.mk b m hd es,x=>by
  rw[evT,AA,AA,HZ];rcases Aj k es with _ | ⟨eb,u | l | ⟨v,j⟩⟩
  ·simp only[Option.map_none];rw[evT]
  ·simp only[Option.map_some,evE];rw[evT]
  ·simp only[Option.map_some,evE,FD,List.getElem?_map]
   cases l[i]? with
   | none=>simp only[Option.map_none];rw[evT]
   | some u=>
    simp only[Option.map_some];rw[evT,GR h u x];have:=Tu k (.lst (l.set i (AA u h x))) es;rw[evE,FD,List.map_set]at this;rw[this]
  ·simp only[Option.map_some,evE];rw[evT]
theorem Ro (t:Tb) (k:B8) (eb:Nat) (e:En):AM (evT t) k 0 (evE e)=evT (AM t k eb e):=by
 unfold AM;rw[ev_hd,V5];cases t;rw[evT,evT,V6,HO,HO];rfl
theorem Ye (t:Tb) (k:B8) (e:En):BM (evT t) k (evE e)=evT (BM t k e):=by
 unfold BM;rw[ev_hd,V5,Tu];cases t;rw[evT,evT];rfl
theorem Nl (nu:Nu) (hd:Bool):evT (Ar nu hd)=Ar ⟨0,0,0⟩ hd:=by unfold Ar;rw[evT,HO]
theorem Zk (u:Tb):evT (BF u)=BF (evT u):=by cases u;unfold BF;rw[evT,evT]
theorem hop_ev (nu:Nu) (hd:Bool) (T:Tb) (h:List Hop) (k:B8):Df n0 hd (evT T) h k=(Df nu hd T h k).map λp=>(evT p.1,p.2):=by
 unfold Df;rw[WI];cases atT T h with
 | none=>rfl
 | some t=>
  simp only[Option.map_some];rw[V5,HZ];rcases Aj k t.es with _ | ⟨eb,u | l | ⟨v,i⟩⟩
  ·simp only[Option.map_none,Option.map_some]
   have:=Ro t k nu.eb (.opn (Ar nu false));rw[evE,Nl]at this;rw[<-GR,<-this];rfl
  ·simp only[Option.map_some,evE]
  ·simp only[Option.map_some,evE,FD,List.length_map]
   split<;>rfl
  ·simp only[Option.map_some,evE];rfl
theorem TT (nu:Nat->Nu) (hd:Bool):∀(ks:List B8) (j:Nat) (T:Tb) (h:List Hop),BE (λ_=>n0) hd j (evT T) h ks=(BE nu hd j T h ks).map λp=>(evT p.1,p.2)
 | [],j,T,h=>rfl
 | k::ks,j,T,h=>by
  unfold BE;rw[hop_ev (nu j)];cases Df (nu j) hd T h k with
  | none=>rfl
  | some p=>exact TT nu hd ks (j+1) p.1 p.2
def evX:Except Int (Tb×List Hop)->Except Int (Tb×List Hop)
 | .ok p=> .ok (evT p.1,p.2)
 | .error e=> .error e
theorem last_ev (nu:Nu) (a:Asg) (i:Nat) (T:Tb) (h cur:List Hop) (k:B8):B2 n0 ⟨a.tab,a.elem,a.keys,vlO⟩ 0 (evT T) h cur k=evX (B2 nu a i T h cur k):=by
 unfold B2;dsimp only;rw[WI];cases atT T h with
 | none=>rfl
 | some t=>
  simp only[Option.map_some];rw[V5,HZ];by_cases he:a.elem=true
  ·rw[if_pos he,if_pos he]
   rcases Aj k t.es with _ | ⟨eb,u | l | ⟨v,j⟩⟩
   ·simp only[Option.map_none,evX]
    have:=Ro t k nu.eb (.lst [Ar nu false]);rw[evE,Ua,Ua,Nl]at this;rw[<-GR,<-this];rfl
   ·simp only[Option.map_some,evE,evX]
   ·simp only[Option.map_some,evE,evX,FD,List.length_map]
    have:=Ye t k (.lst (l++[Ar nu false]));rw[evE,FD,List.map_append,List.map_cons,List.map_nil,Nl]at this;rw[<-GR,<-this];rfl
   ·simp only[Option.map_some,evE,evX]
  ·rw[if_neg he,if_neg he]
   by_cases ht:a.tab=true
   ·rw[if_pos ht,if_pos ht]
    rcases Aj k t.es with _ | ⟨eb,u | l | ⟨v,j⟩⟩
    ·simp only[Option.map_none,evX]
     have:=Ro t k nu.eb (.opn (Ar nu true));rw[evE,Nl]at this;rw[<-GR,<-this];rfl
    ·simp only[Option.map_some,evE,ev_hd]
     split
     ·rfl
     ·simp only[evX]
      have:=Ye t k (.opn (BF u));rw[evE,Zk]at this;rw[<-GR,<-this]
    ·simp only[Option.map_some,evE,evX]
    ·simp only[Option.map_some,evE,evX]
   ·rw[if_neg ht,if_neg ht]
    rcases Aj k t.es with _ | ⟨eb,e⟩
    ·simp only[Option.map_none,evX]
     have:=Ro t k nu.eb (.clo a.val i);rw[evE]at this;rw[<-GR,<-this];rfl
    ·simp only[Option.map_some,evX]
theorem YJ {i:Nat} {T:Tb} {cur:List Hop} {a:Asg} (hv:a.tab=true->a.val=vlO):EE 0 (evT T) cur ⟨a.tab,a.elem,a.keys,vlO⟩=evX (EE i T cur a):=by
 unfold EE Fg;have hp:C4 ⟨a.tab,a.elem,a.keys,vlO⟩=C4 a:=by
  unfold C4;cases ht:a.tab with
  | false=>simp
  | true=>rw[hv ht]
 rw[hp];split
 ·rfl
 ·dsimp only
  rw[TT (λ_=>n0)];cases BE (λ_=>n0) a.tab 0 T (if a.tab=true then []else cur) a.keys.dropLast with
  | none=>rfl
  | some p=>exact last_ev n0 a i p.1 p.2 cur _
end Go.TVF
end
