/- What the laws below rest on: a framework for Go programs, and contracts of the functions that they reach. -/
import Derived.Test.YtahjbepjlconkaaGreatDoorZqG
import Derived.Recover
import Derived.Tactics
set_option maxRecDepth 20000
set_option linter.unusedVariables false
set_option linter.unusedSimpArgs false
section
namespace Go.TVF
open Go.IntKind(i64 u8)
theorem K8 {T t:Tb} {h:List Hop} (hA:atT T h=some t) (t':Tb):(Ae (evT (AA T h t'))).cnt+(Ae (evT t)).cnt=(Ae (evT T)).cnt+(Ae (evT t')).cnt:=by
 have:=(Ck h (T:=evT T) (t:=evT t) (by rw[WI,hA];rfl) (evT t')).cnt;rwa [GR]at this
theorem set_back {T t t':Tb} {h:List Hop} (hA:atT T h=some t):AA (AA T h t') h t=T:=by
 rw[G6 h hA,Qi h hA]
theorem Oa {T t t':Tb} {h:List Hop} (hA:atT T h=some t) (hz:lvV (Ae t)<=lvV (Ae t')):lvV (Ae T)<=lvV (Ae (AA T h t'))/\dpH h+lvV (Ae t')<=lvV (Ae (AA T h t'))/\lvV (Ae (AA T h t'))<=max (lvV (Ae T)) (dpH h+lvV (Ae t')):=by
 have c1:=Ck h (CT h (x:=t') hA) t;rw[set_back hA]at c1;have c2:=Ck h hA t';have:=c1.lv;have:=c1.lvu;have:=c2.lv;have:=c2.lvu;omega
theorem OY (nu:Nu) (hd:Bool):(Ae (Ar nu hd)).cnt=1:=by unfold Ar;rw[Ae,Bb];simp[Vl.cnt,AH,AX]
theorem T9 (nu:Nu) (hd:Bool):evT (Ar nu hd)=Ar n0 hd:=Nl nu hd
theorem NO (t:Tb) (k:B8) (eb:Nat) (e:En):(Ae (evT (AM t k eb e))).cnt=(Ae (evT t)).cnt+(AK (evE e)).cnt:=by
 rw[<-Ro,E3]
theorem WA {t:Tb} {k:B8} {eb:Nat} {e x:En} (hl:Aj k t.es=some (eb,e)):(Ae (evT (BM t k x))).cnt+(AK (evE e)).cnt=(Ae (evT t)).cnt+(AK (evE x)).cnt:=by
 have hl':Aj k (evT t).es=some (0,evE e):=by rw[V5,HZ,hl];rfl
 have:=(Ie (t:=evT t) (x:=evE x) hl').cnt;rwa [Ye]at this
theorem SR (l:List Vl):(Vl.mk scL l []).cnt=1+AH l:=by rw[Vl.cnt,AX];omega
theorem PJ (l:List Vl) (v:Vl):AH (l++[v])=AH l+v.cnt:=by
 induction l with
 | nil=>simp[AH]
 | cons x r ih=>rw[List.cons_append,AH,AH,ih];omega
structure HpF (T T':Tb) (h':List Hop):Prop where
 dl:(Ae T').cnt+(Ae (evT T)).cnt=(Ae T).cnt+(Ae (evT T')).cnt
 le:(Ae T).cnt<=(Ae T').cnt
 same:(Ae T').cnt=(Ae T).cnt->T'=T
 lv:lvV (Ae T)<=lvV (Ae T')
 lvu:lvV (Ae T')<=max (lvV (Ae T)) (1+dpH h')
theorem HpF.refl (T:Tb) (h:List Hop):HpF T T h:=⟨by omega,Nat.le_refl _,λ_=>rfl,Nat.le_refl _,by omega⟩
theorem hop_f {nu:Nu} {hd:Bool} {T T':Tb} {h h':List Hop} {k:B8} (hh:Df nu hd T h k=some (T',h')):HpF T T' h'/\dpH h<dpH h':=by
 unfold Df at hh;cases hA:atT T h with
 | none=>rw[hA]at hh;cases hh
 | some t=>
  rw[hA]at hh;simp only at hh;rcases hl:Aj k t.es with _ | ⟨eb,u | l | ⟨v,i⟩⟩<;>rw[hl]at hh<;>simp only[Option.some.injEq,Prod.mk.injEq,reduceCtorEq]at hh
  ·obtain⟨rfl,rfl⟩:=hh
   have c1:=(Ck h hA (AM t k nu.eb (.opn (Ar nu false)))).cnt;have c2:=K8 hA (AM t k nu.eb (.opn (Ar nu false)));rw[E3,AK,OY]at c1;rw[NO,evE,T9,AK,OY]at c2;have e1:=Mw t k nu.eb (.opn (Ar nu false));rw[AK,Jy]at e1;have l1:=Oa hA (t':=AM t k nu.eb (.opn (Ar nu false))) (by omega);have l2:=(Ck h hA t).lvu;have hd1:dpH (h++[(k,none)])=dpH h+1:=by rw[BY];rfl
   exact⟨⟨by omega,by omega,λh=>by omega,l1.1,by omega⟩,by omega⟩
  ·obtain⟨rfl,rfl⟩:=hh
   exact⟨HpF.refl _ _,by rw[BY];simp[dpH]⟩
  ·split at hh
   ·simp only[Option.some.injEq,Prod.mk.injEq]at hh
    obtain⟨rfl,rfl⟩:=hh;exact⟨HpF.refl _ _,by rw[BY];simp[dpH]⟩
   ·cases hh
theorem hops_f {nu:Nat->Nu} {hd:Bool}:∀(ks:List B8) (j:Nat) {T T':Tb} {h h':List Hop},BE nu hd j T h ks=some (T',h')->HpF T T' h'/\dpH h<=dpH h'
 | [],j,T,T',h,h',hh=>by cases hh;exact⟨HpF.refl _ _,Nat.le_refl _⟩
 | k::ks,j,T,T',h,h',hh=>by
  unfold BE at hh;cases hp:Df (nu j) hd T h k with
  | none=>rw[hp]at hh;cases hh
  | some p=>
   obtain⟨T1,h1⟩:=p;rw[hp]at hh;obtain⟨a,a2⟩:=hop_f hp;obtain⟨b,b2⟩:=hops_f ks (j+1) hh;have a3:=a.le;have b3:=b.le;refine⟨⟨by have:=a.dl;have:=b.dl;omega,by omega,λh=>?_,Nat.le_trans a.lv b.lv,by have:=a.lvu;have:=b.lvu;omega⟩,by omega⟩;have:=a.same (by omega);have:=b.same (by omega)
   subst_vars
   rfl
structure StF (T T':Tb) (a:Asg) (deep:Nat):Prop where
 dl:(Ae T').cnt+(Ae (evT T)).cnt+(if a.tab=true then 0 else 1)=(Ae T).cnt+(Ae (evT T')).cnt+(if a.tab=true then 0 else a.val.cnt)
 le:(Ae (evT T)).cnt+(if a.tab=true then 0 else 1)<=(Ae (evT T')).cnt
 lv:lvV (Ae T)<=lvV (Ae T')
 lvl:deep+(if a.tab=true then 0 else lvV a.val)<=lvV (Ae T')
 lvu:lvV (Ae T')<=max (lvV (Ae T)) (max (if (Ae (evT T)).cnt+(if a.tab=true then 0 else 1)=(Ae (evT T')).cnt then 0 else deep) (if a.tab=true then 0 else deep+lvV a.val))
def ZC (T:Tb) (cur:List Hop) (a:Asg) (cur':List Hop):Nat:=if a.tab=true then 1+dpH cur' else(OM T cur a).length
theorem last_f {nu:Nu} {a:Asg} {i:Nat} {T T':Tb} {h cur cur':List Hop} {k:B8} (hte:a.elem=true->a.tab=true) (hh:B2 nu a i T h cur k= .ok (T',cur')):StF T T' a (if a.tab=true then 1+dpH cur' else dpH h+1):=by
 unfold B2 at hh;cases hA:atT T h with
 | none=>rw[hA]at hh;cases hh
 | some t=>
  rw[hA]at hh;simp only at hh;have l2:=(Ck h hA t).lvu;have lt:=Xx (Ae t);split at hh
  ·rename_i he
   have ht:=hte he;rcases hl:Aj k t.es with _ | ⟨eb,u | l | ⟨v,j⟩⟩<;>rw[hl]at hh<;>simp only[Except.ok.injEq,Prod.mk.injEq,reduceCtorEq]at hh
   ·obtain⟨rfl,rfl⟩:=hh
    have hd1:dpH (h++[(k,some 0)])=dpH h+2:=by rw[BY];rfl
    have c1:=(Ck h hA (AM t k nu.eb (.lst [Ar nu false]))).cnt;have c2:=K8 hA (AM t k nu.eb (.lst [Ar nu false]));rw[E3,AK,SR,BS,BS,AH,AH,OY]at c1;rw[NO,evE,AK,SR,Ua,Ua,BS,BS,AH,AH,T9,OY]at c2;have e1:=Mw t k nu.eb (.lst [Ar nu false]);have e2:lvV (AK (.lst [Ar nu false]))=2:=by rw[AK,BS,BS,lvV,De,De,Ds,Jy];rfl
    rw[e2]at e1;have l1:=Oa hA (t':=AM t k nu.eb (.lst [Ar nu false])) (by omega);simp only[ht,if_true];refine⟨?_,?_,l1.1,?_,?_⟩
    all_goals simp only[ht,if_true]
    all_goals first | omega | (split<;>omega)
   ·obtain⟨rfl,rfl⟩:=hh
    have hd1:dpH (h++[(k,some l.length)])=dpH h+2:=by rw[BY];rfl
    have c1:=(Ck h hA (BM t k (.lst (l++[Ar nu false])))).cnt;have c2:=K8 hA (BM t k (.lst (l++[Ar nu false])));have d:=Ie (x:= .lst (l++[Ar nu false])) hl;have d1:=d.cnt;have d2:=WA (x:= .lst (l++[Ar nu false])) hl;rw[Pz,AK,SR,SR,PJ,OY]at d1;rw[evE,evE,AK,AK,SR,SR,FD,FD,List.map_append,List.map_cons,List.map_nil,Dl,Dl,List.map_append,List.map_cons,List.map_nil,PJ,T9,OY]at d2;have d3:=d.lv;have e2:lvV (AK (.lst (l++[Ar nu false])))=max (lvV (AK (.lst l))) 2:=by
     rw[Pz,AK,lvV,lvV,Nm,De,De,Ds,Jy];omega
    rw[e2]at d3;have d4:=d.lvu;have bk:=(Ie (t:=BM t k (.lst (l++[Ar nu false]))) (k:=k) (eb:=eb) (e:= .lst (l++[Ar nu false])) (x:= .lst l) (Fv hl)).lvu;rw[e2]at bk;have l1:=Oa hA (t':=BM t k (.lst (l++[Ar nu false]))) (by
     have b2:=(Ie (t:=BM t k (.lst (l++[Ar nu false]))) (k:=k) (eb:=eb) (e:= .lst (l++[Ar nu false])) (x:= .lst l) (Fv hl)).lv;have:BM (BM t k (.lst (l++[Ar nu false]))) k (.lst l)=t:=by
      clear bk d4 e2 d3 d2 d1 d c2 c1 lt l2 hA b2;cases t with
      | mk tb tm th tes=>
       unfold BM;simp only[Tb.b,Tb.m,Tb.hd,Tb.es]at hl⊢;rw[set_set,Lb hl]
     rw[this]at b2;omega)
    simp only[ht,if_true];refine⟨?_,?_,l1.1,?_,?_⟩
    all_goals simp only[ht,if_true]
    all_goals first | omega | (split<;>omega)
  ·split at hh
   ·rename_i he ht
    rcases hl:Aj k t.es with _ | ⟨eb,u | l | ⟨v,j⟩⟩<;>rw[hl]at hh<;>simp only[Except.ok.injEq,Prod.mk.injEq,reduceCtorEq]at hh
    ·obtain⟨rfl,rfl⟩:=hh
     have hd1:dpH (h++[(k,none)])=dpH h+1:=by rw[BY];rfl
     have c1:=(Ck h hA (AM t k nu.eb (.opn (Ar nu true)))).cnt;have c2:=K8 hA (AM t k nu.eb (.opn (Ar nu true)));rw[E3,AK,OY]at c1;rw[NO,evE,T9,AK,OY]at c2;have e1:=Mw t k nu.eb (.opn (Ar nu true));rw[AK,Jy]at e1;have l1:=Oa hA (t':=AM t k nu.eb (.opn (Ar nu true))) (by omega);simp only[ht,if_true];refine⟨?_,?_,l1.1,?_,?_⟩
     all_goals simp only[ht,if_true]
     all_goals first | omega | (split<;>omega)
    ·split at hh
     ·cases hh
     ·simp only[Except.ok.injEq,Prod.mk.injEq]at hh
      obtain⟨rfl,rfl⟩:=hh;have hd1:dpH (h++[(k,none)])=dpH h+1:=by rw[BY];rfl
      have c1:=(Ck h hA (BM t k (.opn (BF u)))).cnt;have c2:=K8 hA (BM t k (.opn (BF u)));have d:=Ie (x:= .opn (BF u)) hl;have d1:=d.cnt;have d2:=WA (x:= .opn (BF u)) hl;rw[AK,AK,Gi]at d1;rw[evE,evE,AK,AK,Zk,Gi]at d2;have hv:Ae (BM t k (.opn (BF u)))=Ae t:=by
       rw[Gz,Gz];congr 1;obtain⟨F,G,q1,q2⟩:=E7 hl;show Bb (BZ k (.opn (BF u)) t.es)=_;rw[q2,q1,AK,AK,Gi]
      have l1:=Oa hA (t':=BM t k (.opn (BF u))) (by rw[hv];exact Nat.le_refl _);rw[hv]at l1;have lu:=d.lvu;rw[AK]at lu;have lup:=Xx (Ae u);simp only[ht,if_true];refine⟨?_,?_,l1.1,?_,?_⟩
      all_goals simp only[ht,if_true]
      all_goals first | omega | (split<;>omega)
   ·rename_i he ht
    rcases hl:Aj k t.es with _ | ⟨eb,e⟩<;>rw[hl]at hh<;>simp only[Except.ok.injEq,Prod.mk.injEq,reduceCtorEq]at hh
    obtain⟨rfl,rfl⟩:=hh;have c1:=(Ck h hA (AM t k nu.eb (.clo a.val i))).cnt;have c2:=K8 hA (AM t k nu.eb (.clo a.val i));have hO:vlO.cnt=1:=by unfold vlO Vl.cnt AH AX;rfl
    rw[E3,AK]at c1;rw[NO,evE,AK,hO]at c2;have e1:=Mw t k nu.eb (.clo a.val i);rw[AK]at e1;have l1:=Oa hA (t':=AM t k nu.eb (.clo a.val i)) (by omega);have ht':¬a.tab=true:=ht;rw[if_neg ht'];refine⟨?_,?_,l1.1,?_,?_⟩
    all_goals simp only[if_neg ht']
    all_goals first | omega | (split<;>omega)
theorem step_f {i:Nat} {T T':Tb} {cur cur':List Hop} {a:Asg} (hs:EE i T cur a= .ok (T',cur')):StF T T' a (ZC T cur a cur'):=by
 have hs0:=hs;unfold EE Fg at hs;split at hs
 ·cases hs
 rename_i hp;have hp':C4 a=true:=by simpa using hp
 have hte:a.elem=true->a.tab=true:=λhe=>by
  unfold C4 at hp';simp only[Bool.and_eq_true,Bool.or_eq_true,Bool.not_eq_true']at hp';rcases hp'.1.2 with h | h
  ·exact h
  ·rw[he]at h;cases h
 split at hs
 ·cases hs
 rename_i T1 h hh;obtain⟨w,w2⟩:=hops_f _ _ hh;have f:=last_f hte hs;have hdeep:ZC T cur a cur'=if a.tab=true then 1+dpH cur' else dpH h+1:=by
  unfold ZC OM;rw[hh];simp only[List.length_append,Pv,List.length_singleton]
 rw[hdeep];have w1:=w.dl;have w3:=w.le;have f1:=f.dl;have f2:=f.le;have w5:=w.lvu;have f5:=f.lvu;refine⟨by omega,by omega,Nat.le_trans w.lv f.lv,f.lvl,?_⟩;have hcd:a.tab=true->dpH h<dpH cur':=λht=>by
  unfold B2 at hs;cases hA:atT T1 h with
  | none=>rw[hA]at hs;cases hs
  | some t=>
   rw[hA]at hs;simp only at hs;split at hs
   ·rcases hl:Aj (a.keys.getLastD []) t.es with _ | ⟨eb,u | l | ⟨v,j⟩⟩<;>rw[hl]at hs<;>simp only[Except.ok.injEq,Prod.mk.injEq,reduceCtorEq]at hs
    ·obtain⟨_,rfl⟩:=hs;rw[BY];simp[dpH]
    ·obtain⟨_,rfl⟩:=hs;rw[BY];simp[dpH]
   ·try rw[if_pos ht]at hs
    rcases hl:Aj (a.keys.getLastD []) t.es with _ | ⟨eb,u | l | ⟨v,j⟩⟩<;>rw[hl]at hs<;>simp only[Except.ok.injEq,Prod.mk.injEq,reduceCtorEq]at hs
    ·obtain⟨_,rfl⟩:=hs;rw[BY];simp[dpH]
    ·split at hs
     ·cases hs
     ·simp only[Except.ok.injEq,Prod.mk.injEq]at hs
      obtain⟨_,rfl⟩:=hs;rw[BY];simp[dpH]
 by_cases hsm:(Ae T1).cnt=(Ae T).cnt
 ·have:=w.same hsm
  subst this;exact f5
 ·cases ht:a.tab with
  | true=>
   have:=hcd ht;simp only[ht,if_true]at*;rw[if_neg (by omega)];split at f5<;>omega
  | false=>
   simp only[ht,Bool.false_eq_true,if_false]at*;rw[if_neg (by omega)];split at f5<;>omega
end Go.TVF
end
namespace Go.TVF
open Go.IntKind(i64 u8)
open Go Go.Proofs
theorem ul_encU {r:Nat} (h:B5 r):ul (DJ r)=(DJ r).length:=by
 obtain⟨h1,h2⟩:=h;have tn:∀n,(UInt8.ofNat n).toNat=n%256:=λn=>by simp
 unfold ul dN DJ;split
 ·rename_i g
  rw[if_neg]
  ·simp only[bt,List.getD_cons_zero,tn,List.length_singleton,Lib.decodeN]
   rw[if_pos (by omega)]
  ·rintro(h | h)
   ·cases h
   ·simp only[bt,List.getD_cons_zero,tn,List.length_singleton,Lib.decodeN]at h
    rw[if_pos (by omega)]at h;simp only[Prod.mk.injEq]at h;omega
 split
 ·rename_i g1 g2
  have e:Lib.decodeN [UInt8.ofNat (192+r/64),UInt8.ofNat (128+r%64)].length (bt [UInt8.ofNat (192+r/64),UInt8.ofNat (128+r%64)] 0) (bt [UInt8.ofNat (192+r/64),UInt8.ofNat (128+r%64)] 1) (bt [UInt8.ofNat (192+r/64),UInt8.ofNat (128+r%64)] 2) (bt [UInt8.ofNat (192+r/64),UInt8.ofNat (128+r%64)] 3)=(r,2):=by
   simp only[bt,List.getD_cons_zero,List.getD_cons_succ,tn,List.length_cons,List.length_nil,Lib.decodeN];rw[if_neg (by omega),if_pos (by omega),if_pos (by omega)];congr 1;omega
  rw[e,if_neg (by simp)];rfl
 split
 ·rename_i g1 g2 g3
  have e:Lib.decodeN [UInt8.ofNat (224+r/4096),UInt8.ofNat (128+r/64%64),UInt8.ofNat (128+r%64)].length (bt [UInt8.ofNat (224+r/4096),UInt8.ofNat (128+r/64%64),UInt8.ofNat (128+r%64)] 0) (bt [UInt8.ofNat (224+r/4096),UInt8.ofNat (128+r/64%64),UInt8.ofNat (128+r%64)] 1) (bt [UInt8.ofNat (224+r/4096),UInt8.ofNat (128+r/64%64),UInt8.ofNat (128+r%64)] 2) (bt [UInt8.ofNat (224+r/4096),UInt8.ofNat (128+r/64%64),UInt8.ofNat (128+r%64)] 3)=(r,3):=by
   simp only[bt,List.getD_cons_zero,List.getD_cons_succ,tn,List.length_cons,List.length_nil,Lib.decodeN];have q:(224+r/4096)%256%16*4096+(128+r/64%64)%256%64*64+(128+r%64)%256%64=r:=by omega
   rw[if_neg (by omega),if_neg (by omega),if_pos (by omega),q,if_pos (by omega)]
  rw[e,if_neg (by simp)];rfl
 ·rename_i g1 g2 g3
  have e:Lib.decodeN [UInt8.ofNat (240+r/262144),UInt8.ofNat (128+r/4096%64),UInt8.ofNat (128+r/64%64),UInt8.ofNat (128+r%64)].length (bt [UInt8.ofNat (240+r/262144),UInt8.ofNat (128+r/4096%64),UInt8.ofNat (128+r/64%64),UInt8.ofNat (128+r%64)] 0) (bt [UInt8.ofNat (240+r/262144),UInt8.ofNat (128+r/4096%64),UInt8.ofNat (128+r/64%64),UInt8.ofNat (128+r%64)] 1) (bt [UInt8.ofNat (240+r/262144),UInt8.ofNat (128+r/4096%64),UInt8.ofNat (128+r/64%64),UInt8.ofNat (128+r%64)] 2) (bt [UInt8.ofNat (240+r/262144),UInt8.ofNat (128+r/4096%64),UInt8.ofNat (128+r/64%64),UInt8.ofNat (128+r%64)] 3)=(r,4):=by
   simp only[bt,List.getD_cons_zero,List.getD_cons_succ,tn,List.length_cons,List.length_nil,Lib.decodeN];have q:(240+r/262144)%256%8*262144+(128+r/4096%64)%256%64*4096+(128+r/64%64)%256%64*64+(128+r%64)%256%64=r:=by omega
   rw[if_neg (by omega),if_neg (by omega),if_neg (by omega),if_pos (by omega),q,if_pos (by omega)]
  rw[e,if_neg (by simp)];rfl
theorem YC {a:B8} (h:ul a=a.length):U8 a:=by
 unfold U8;by_cases h0:ul a=0
 ·rw[Cv _ h0,<-h,h0]
 ·rw[Fe _ h0,h,List.drop_length,Sb,Nat.add_zero]
theorem u8_enc {r:Nat} (h:B5 r):U8 (DJ r):=YC (ul_encU h)
theorem W3 {a b:B8} (ha:U8 a) (hb:U8 b):U8 (a++b):=UM ha hb
theorem YS:∀(f m:Nat) (l acc:B8) (n:Nat) (p:B8×Nat),qF f m l acc n= .ok p->U8 acc->U8 p.1/\p.1.length+n<p.2+acc.length
 | 0,m,l,acc,n,p,h,_=>by cases h
 | f+1,m,l,acc,n,p,h,ha=>by
  simp only[qF]at h;by_cases g1:l.length=0
  ·rw[if_pos g1]at h;cases h
  rw[if_neg g1]at h;by_cases g2:bt l 0=m
  ·rw[if_pos g2]at h
   simp only[Except.ok.injEq]at h;subst h;exact⟨ha,by simp only;omega⟩
  rw[if_neg g2]at h;by_cases g3:ul l=0∨bt l 0<32
  ·rw[if_pos g3]at h;cases h
  rw[if_neg g3]at h;by_cases g4:bt l 0≠92∨m=39
  ·rw[if_pos g4]at h
   have h0:ul l≠0:=λh0=>g3 (.inl h0);have hul:=PZ l;have e:(l.take (ul l)).length=ul l:=by rw[List.length_take];omega
   have h1:=YS f m _ _ _ p h (W3 ha (YC (by rw[(ul_take h0 (Nat.le_refl _)).1,e])));rw[List.length_append,e]at h1;exact⟨h1.1,by omega⟩
  rw[if_neg g4]at h;by_cases g5:l.length<=1
  ·rw[if_pos g5]at h;cases h
  rw[if_neg g5]at h;by_cases g6:bt l 1=117
  ·rw[if_pos g6]at h
   cases hes:Pr (l.drop 2)with
   | error e=>rw[hes]at h;cases h
   | ok q=>
    rw[hes]at h;have h2:=Ub (r:=q.1) (k:=q.2) hes;have h1:=YS f m _ _ _ p h (W3 ha (u8_enc h2.1));have h3:=QZ q.1;rw[List.length_append]at h1;exact⟨h1.1,by omega⟩
  rw[if_neg g6]at h;cases hd:Tq (bt l 1)with
  | none=>rw[hd]at h;cases h
  | some c=>
   rw[hd]at h;have hc:=Aaa hd;have h1:=YS f m _ _ _ p h (W3 ha (by rw[<-hc.2];exact u8_enc hc.1));rw[List.length_append,List.length_singleton]at h1;exact⟨h1.1,by omega⟩
theorem unq_u8 {s v:B8} (h:unq s= .ok v):U8 v/\v.length<=s.length:=by
 unfold unq at h;split at h
 ·cases h
 split at h
 ·cases h
 split at h
 ·cases h
 ·rename_i p hp
  split at h
  ·rename_i he
   cases h;have:=YS _ _ _ _ _ _ hp Mh;simp only[List.length_nil]at this;exact⟨this.1,by omega⟩
  ·cases h
theorem uL_u8 (s:B8):U8 (uL (unq s))/\(uL (unq s)).length<=s.length:=by
 cases h:unq s with
 | error e=>exact⟨Mh,Nat.zero_le _⟩
 | ok v=>exact unq_u8 h
theorem Vz (b:Bool):K3 (tkB b) [] []:=⟨⟨by show(0:Int)<=1;decide,by show(1:Int)<=7;decide,λh=>absurd rfl h,λ_=>⟨rfl,rfl,rfl⟩,λ_=>⟨rfl,rfl,rfl,rfl⟩,λ_=>rfl,λ_=>rfl,λ_=>rfl,λ_=>rfl⟩,dec0,λh=>absurd h (by show ¬(1:Int)=3;decide),Mh,Nat.zero_le _,Nat.zero_le _,rfl⟩
theorem valid_O:AY vlO:=by
 have h:K3 scO [] []:=⟨⟨by show(0:Int)<=0;decide,by show(0:Int)<=7;decide,λ_=>rfl,λ_=>⟨rfl,rfl,rfl⟩,λ_=>⟨rfl,rfl,rfl,rfl⟩,λ_=>rfl,λ_=>rfl,λ_=>rfl,λ_=>rfl⟩,dec0,λh=>absurd h (by show ¬(0:Int)=3;decide),Mh,Nat.zero_le _,Nat.zero_le _,rfl⟩;unfold vlO AY BW Cc;exact⟨h,trivial,trivial⟩
theorem Vf {t:B8} (h:(scS t).2=0):AY (.mk (scS t).1 [] [])/\(Vl.mk (scS t).1 [] []).sz<=1+t.length/\(Vl.mk (scS t).1 [] []).cnt=1/\lvV (.mk (scS t).1 [] [])=1:=by
 have hd:=dcP_len t;have hu:=uL_u8 t;refine⟨?_,?_,by unfold Vl.cnt AH AX;rfl,by unfold lvV De Ds;rfl⟩
 ·have:K3 (scS t).1 [] []:=by
   unfold scS at h⊢;split
   ·rename_i g
    rw[if_pos g]at h;split
    ·rename_i g2;rw[if_pos g2]at h;exact absurd h g2
    ·rename_i g2
     rw[if_neg g2]at h;split
     ·rename_i g3;rw[if_pos g3]at h;cases h
     ·exact one_text hu.1 (by omega)
   ·rename_i g
    rw[if_neg g]at h;split
    ·exact Vz true
    rename_i g2;rw[if_neg g2]at h;split
    ·exact Vz false
    rename_i g3;rw[if_neg g3]at h;split
    ·rename_i h5
     exact⟨⟨by show(0:Int)<=2;decide,by show(2:Int)<=7;decide,λ_=>rfl,λh=>absurd rfl h,λ_=>⟨rfl,rfl,rfl,rfl⟩,λ_=>rfl,λ_=>rfl,λ_=>rfl,λ_=>rfl⟩,dcP_good t h5,λh=>absurd h (by show ¬(2:Int)=3;decide),Mh,Nat.zero_le _,Nat.zero_le _,rfl⟩
    rename_i g4;rw[if_neg g4]at h;split
    ·rename_i g5;rw[if_pos g5]at h;exact absurd h g4
    rename_i g5;rw[if_neg g5]at h;split
    ·rename_i g6;rw[if_pos g6]at h;exact absurd h g6
    ·rename_i g6
     have h6:(tmP t).2.2.2.2=0:=Decidable.not_not.1 g6;exact⟨⟨by show(0:Int)<=3;decide,by show(3:Int)<=7;decide,λ_=>rfl,λ_=>⟨rfl,rfl,rfl⟩,λh=>absurd rfl h,λ_=>rfl,λ_=>rfl,λ_=>rfl,λ_=>rfl⟩,dec0,λ_=>tmP_good t h6,Mh,Nat.zero_le _,Nat.zero_le _,rfl⟩
  unfold AY BW Cc;exact⟨this,trivial,trivial⟩
 ·rw[szl',Sq]
  unfold scS
  repeat' split
  all_goals (try (show 1+0+0+0<=_;omega))
  ·show 1+0+(uL (unq t)).length+0<=_;omega
  ·show 1+0+0+(dcP t).2.1.length<=_;omega
theorem ZN {t:B8} (h:NM t=true):U8 t:=by
 unfold NM at h;rw[Bool.and_eq_true,decide_eq_true_eq,decide_eq_true_eq]at h;refine WX t (List.all_eq_true.2 λc hc=>?_);have:=YD Cm t h.2 c hc;unfold Cm at this;simp only[decide_eq_true_eq]at this⊢;omega
theorem fldK_u8 {k:Int} {t key:B8} (h:KR k t=some key):U8 key/\key.length<=t.length:=by
 unfold KR at h;split at h
 ·cases h;exact uL_u8 t
 ·split at h
  ·rename_i g;cases h;exact⟨ZN g.2,Nat.le_refl _⟩
  ·cases h
theorem one_M:K3 scM [] []:=by
 have h0:AY (Ae (Ar n0 false)):=E6 n0 false;rw[Ar,Ae,Bb]at h0;unfold AY at h0;exact h0.1
theorem PW {f:List Fd} (hn:IG f) (hk:∀d,d∈f->U8 d.key/\d.key.length<=1024) (hv:Cc f):AY (.mk scM [] f):=by
 unfold AY;exact⟨Qy one_M (QP f [] hn λd hd=>⟨by simp,hk d hd⟩),by unfold BW;trivial,hv⟩
theorem lvM (f:List Fd):lvV (.mk scM [] f)=1+Ds f:=by rw[lvV,De]<;>omega
theorem lvL (l:List Vl):lvV (.mk scL l [])=1+De l:=by rw[lvV,Ds]<;>omega
theorem szM (f:List Fd):(Vl.mk scM [] f).sz=1+Ev f:=by rw[szs]<;>simp[scM,E5]
theorem szL (l:List Vl):(Vl.mk scL l []).sz=1+E5 l:=by rw[szs]<;>simp[scL,Ev]
theorem cntM (f:List Fd):(Vl.mk scM [] f).cnt=1+AX f:=by rw[Vl.cnt,AH]<;>omega
theorem cntL (l:List Vl):(Vl.mk scL l []).cnt=1+AH l:=by rw[Vl.cnt,AX]<;>omega
set_option maxHeartbeats 1000000 in
theorem pv_law (s:B8) (L:LmT):∀f:Nat,
  (∀(d:Nat) BD i (c:Nat) n x j (c':Nat),i<=s.length->pvF s L f d BD i c= .ok (n,x,j,c')->AY x/\c'=c+x.cnt/\(d:Int)+lvV x<=L.d+1/\(c':Int)<=L.n/\x.sz+2*i<=2*j)/\
  (∀(d:Nat) l i (c:Nat) ks xs tl j (c':Nat),i<=s.length->(d:Int)<=L.d->(c:Int)<=L.n->arF s L f d l i c= .ok (ks,xs,tl,j,c')->BW xs/\c'=c+AH xs/\(d:Int)+De xs<=L.d/\(c':Int)<=L.n/\E5 xs+2*i+1<=2*j)/\
  (∀(d:Nat) seen BD i (c:Nat) ks xs tl j (c':Nat),i<=s.length->(d:Int)<=L.d->(c:Int)<=L.n->inF s L f d seen BD i c= .ok (ks,xs,tl,j,c')->(Cc xs/\IG xs/\∀e,e∈xs->e.key∉seen/\U8 e.key/\e.key.length<=1024)/\c'=c+AX xs/\(d:Int)+Ds xs<=L.d/\(c':Int)<=L.n/\Ev xs+2*i+1<=2*j):=by
 intro f;induction f with
 | zero=>
  refine⟨?_,?_,?_⟩
  ·intro d BD i c n x j c' hi h;rw[pvF]at h;cases h
  ·intro d l i c ks xs tl j c' hi _ _ h;rw[arF]at h;cases h
  ·intro d seen BD i c ks xs tl j c' hi _ _ h;rw[inF]at h;cases h
 | succ f ih=>
  obtain⟨ihv,iha,ihn⟩:=ih;have posv:=(Iq s L f).1;have posa:=(Iq s L f).2.1;have posn:=(Iq s L f).2.2;refine⟨?_,?_,?_⟩
  ·intro d BD i c n x j c' hi h
   rw[pvF]at h;split at h
   ·cases h
   ·rename_i k t hs
    have ht:=Bd hi hs;split at h
    ·split at h
     ·cases h
     ·split at h
      ·cases h
      ·rename_i c1 hb
       have hb:=Fa hb;split at h
       ·cases h
       ·rename_i h0
        cases h;have g:=Vf (Decidable.not_not.1 h0);refine⟨g.1,by rw[g.2.2.1];omega,by rw[g.2.2.2];omega,by omega,by have:=g.2.1;omega⟩
    ·split at h
     ·split at h
      ·cases h
      ·rename_i c1 hb
       have hb:=Fa hb;split at h
       ·cases h
       ·rename_i ks xs tl j' c2 ha
        cases h;have p:=posa _ _ _ _ _ _ _ _ _ (by omega) ha;have g:=iha _ _ _ _ _ _ _ _ _ (by omega) (by omega) (by omega) ha;refine⟨K5 g.1,by rw[cntL];omega,by rw[lvL];omega,by omega,by rw[szL];omega⟩
     ·split at h
      ·split at h
       ·cases h
       ·rename_i c1 hb
        have hb:=Fa hb;split at h
        ·cases h
        ·rename_i i1 hk
         have hk:=Bo (by omega) hk;split at h
         ·cases h
         ·rename_i k1 t1 hs1
          have ht1:=Bd (by omega) hs1;split at h
          ·cases h
           refine⟨PW (by unfold IG;simp) (by simp) (by unfold Cc;trivial),by rw[cntM,AX];omega,by rw[lvM,Ds];omega,by omega,by rw[szM,Ev];omega⟩
          ·split at h
           ·cases h
           ·rename_i ks xs tl j' c2 ha
            cases h;have p:=posn _ _ _ _ _ _ _ _ _ _ (by omega) ha;have g:=ihn _ _ _ _ _ _ _ _ _ _ (by omega) (by omega) (by omega) ha;refine⟨PW g.1.2.1 (λe he=>(g.1.2.2 e he).2) g.1.1,by rw[cntM];omega,by rw[lvM];omega,by omega,by rw[szM];omega⟩
      ·cases h
  ·intro d l i c ks xs tl j c' hi hd hc h
   rw[arF]at h;split at h
   ·cases h
   ·rename_i i1 hk
    have hk:=Bo hi hk;split at h
    ·cases h
    ·rename_i k1 t1 hs1
     have ht1:=Bd (by omega) hs1;split at h
     ·cases h
      refine⟨by unfold BW;trivial,by rw[AH];omega,by rw[De];omega,by omega,by rw[E5];omega⟩
     ·split at h
      ·cases h
      ·rename_i n x i2 c2 hv
       have pv:=posv _ _ _ _ _ _ _ _ (by omega) hv;have gv:=ihv _ _ _ _ _ _ _ _ (by omega) hv;split at h
       ·cases h
       ·rename_i i3 hk3
        have hk3:=Bo (by omega) hk3;split at h
        ·cases h
        ·rename_i k3 t3 hs3
         have ht3:=Bd (by omega) hs3;have fin:∀(i':Nat) (xs':List Vl) (j' c3:Nat),i2<=i'->(BW xs'/\c3=c2+AH xs'/\(d:Int)+De xs'<=L.d/\(c3:Int)<=L.n/\E5 xs'+2*i'+1<=2*j')->
           (BW (x::xs')/\c3=c+AH (x::xs')/\(d:Int)+De (x::xs')<=L.d/\(c3:Int)<=L.n/\E5 (x::xs')+2*i+1<=2*j'):=λi' xs' j' c3 hi' g=>by
          refine⟨by unfold BW;exact⟨gv.1,g.1⟩,by rw[AH];omega,by rw[De];omega,by omega,by rw[E5];omega⟩
         split at h
         ·split at h
          ·cases h
          ·rename_i ks xs r ha
           obtain⟨tl',j',c3⟩:=r;cases h;exact fin i3 _ _ _ (by omega) (iha _ _ _ _ _ _ _ _ _ (by omega) hd (by omega) ha)
         ·split at h
          ·cases h
          ·split at h
           ·cases h
           ·rename_i ks xs r ha
            obtain⟨tl',j',c3⟩:=r;cases h;exact fin (i3+1) _ _ _ (by omega) (iha _ _ _ _ _ _ _ _ _ (by omega) hd (by omega) ha)
  ·intro d seen BD i c ks xs tl j c' hi hd hc h
   rw[inF]at h;split at h
   ·cases h
   ·rename_i k t hs
    have ht:=Bd hi hs;split at h
    ·cases h
    ·rename_i key hkey
     have hku:=fldK_u8 hkey;split at h
     ·cases h
     ·rename_i hk1
      split at h
      ·cases h
      ·rename_i hk2
       split at h
       ·cases h
       ·rename_i i3 hk3
        have hk3:=Bo (by omega) hk3;split at h
        ·cases h
        ·rename_i u hp
         have hp:=FS (by omega) hp;simp only[List.length_singleton]at hp;split at h
         ·cases h
         ·rename_i i5 hk5
          have hk5:=Bo (by omega) hk5;split at h
          ·cases h
          ·rename_i n x i6 c2 hv
           have pv:=posv _ _ _ _ _ _ _ _ (by omega) hv;have gv:=ihv _ _ _ _ _ _ _ _ (by omega) hv;split at h
           ·cases h
           ·rename_i i7 hk7
            have hk7:=Bo (by omega) hk7;split at h
            ·cases h
            ·rename_i k7 t7 hs7
             have ht7:=Bd (by omega) hs7;split at h
             ·cases h
              refine⟨⟨?_,?_,?_⟩,?_,?_,?_,?_⟩
              ·unfold Cc HF Cc;exact⟨gv.1,trivial⟩
              ·unfold IG;simp
              ·intro e he
               rw[List.mem_singleton.1 he];exact⟨hk2,hku.1,by show key.length<=1024;omega⟩
              ·rw[AX,AX,Fd.cnt];omega
              ·rw[Ds,Ds,lvD];omega
              ·omega
              ·rw[Ev,Ev,Fd.sz];omega
             ·split at h
              ·cases h
              ·rename_i hn7
               have h77:t7=[44]:=Decidable.byContradiction λh=>hn7 (.inr h);subst h77;simp only[List.length_singleton]at ht7;split at h
               ·cases h
               ·rename_i i9 hk9
                have hk9:=Bo (by omega) hk9;split at h
                ·cases h
                ·rename_i ks xs r ha
                 obtain⟨tl',j',c3⟩:=r;cases h;have g:=ihn _ _ _ _ _ _ _ _ _ _ (by omega) hd (by omega) ha;refine⟨⟨?_,?_,?_⟩,?_,?_,?_,?_⟩
                 ·unfold Cc HF;exact⟨gv.1,g.1.1⟩
                 ·unfold IG
                  rw[List.map_cons,List.nodup_cons];refine⟨λhm=>?_,g.1.2.1⟩;obtain⟨e,he,hek⟩:=List.mem_map.1 hm;exact(g.1.2.2 e he).1 (by rw[hek];simp[Fd.key])
                 ·intro e he
                  rcases List.mem_cons.1 he with he | he
                  ·rw[he];exact⟨hk2,hku.1,by show key.length<=1024;omega⟩
                  ·have:=g.1.2.2 e he
                   exact⟨λhm=>this.1 (List.mem_append.2 (.inl hm)),this.2⟩
                 ·rw[AX,Fd.cnt];omega
                 ·rw[Ds,lvD];omega
                 ·omega
                 ·rw[Ev,Fd.sz];omega
def MK {α:Type} (L':LmT) (D C:Int) (R:Except EP α) (r:α):Prop:=R= .ok r∨(∃k,R= .error (k,9)/\L'.d<D)∨(∃k,R= .error (k,10)/\L'.n<C)
theorem Lr {L L':LmT} {i d c c1:Nat} (h:bgn L i d c= .ok c1):MK L' d c1 (bgn L' i d c) c1:=by
 have hb:=Fa h;unfold bgn;by_cases h1:L'.d<(d:Int)
 ·rw[if_pos h1];exact .inr (.inl ⟨i,rfl,h1⟩)
 ·rw[if_neg h1]
  by_cases h2:L'.n<=(c:Int)
  ·rw[if_pos h2];exact .inr (.inr ⟨i,rfl,by omega⟩)
  ·rw[if_neg h2,hb.1];exact .inl rfl
theorem MK.e9 {α:Type} {L':LmT} {D C:Int} {k:Nat} {r:α} (h:L'.d<D):MK L' D C (.error (k,9)) r:= .inr (.inl ⟨k,rfl,h⟩)
theorem MK.e10 {α:Type} {L':LmT} {D C:Int} {k:Nat} {r:α} (h:L'.n<C):MK L' D C (.error (k,10)) r:= .inr (.inr ⟨k,rfl,h⟩)
set_option maxHeartbeats 1000000 in
theorem pv_lim (s:B8) (L L':LmT):∀f:Nat,
  (∀(d:Nat) BD i (c:Nat) n x j (c':Nat),i<=s.length->pvF s L f d BD i c= .ok (n,x,j,c')->MK L' ((d:Int)+lvV x-1) c' (pvF s L' f d BD i c) (n,x,j,c'))/\
  (∀(d:Nat) l i (c:Nat) ks xs tl j (c':Nat),i<=s.length->arF s L f d l i c= .ok (ks,xs,tl,j,c')->MK L' ((d:Int)+De xs) c' (arF s L' f d l i c) (ks,xs,tl,j,c'))/\
  (∀(d:Nat) seen BD i (c:Nat) ks xs tl j (c':Nat),i<=s.length->inF s L f d seen BD i c= .ok (ks,xs,tl,j,c')->MK L' ((d:Int)+Ds xs) c' (inF s L' f d seen BD i c) (ks,xs,tl,j,c')):=by
 intro f;induction f with
 | zero=>
  refine⟨?_,?_,?_⟩
  ·intro d BD i c n x j c' hi h;rw[pvF]at h;cases h
  ·intro d l i c ks xs tl j c' hi h;rw[arF]at h;cases h
  ·intro d seen BD i c ks xs tl j c' hi h;rw[inF]at h;cases h
 | succ f ih=>
  obtain⟨ihv,iha,ihn⟩:=ih;have posv:=(Iq s L f).1;have posa:=(Iq s L f).2.1;have posn:=(Iq s L f).2.2;refine⟨?_,?_,?_⟩
  ·intro d BD i c n x j c' hi h
   rw[pvF]at h⊢;split at h
   ·cases h
   ·rename_i k t hs
    have ht:=Bd hi hs
    try rw[hs]
    try simp only
    split at h
    ·rename_i hw
     rw[if_pos hw];split at h
     ·cases h
     ·rename_i h3
      rw[if_neg h3];split at h
      ·cases h
      ·rename_i c1 hb
       split at h
       ·cases h
       ·rename_i h0
        cases h;have g:=Vf (Decidable.not_not.1 h0);rcases Lr (L':=L') hb with e | ⟨q,e,hq⟩ | ⟨q,e,hq⟩<;>rw[e]<;>simp only
        ·rw[if_neg h0];exact .inl rfl
        ·exact .e9 (by rw[g.2.2.2];omega)
        ·exact .e10 hq
    ·rename_i hw
     rw[if_neg hw];split at h
     ·rename_i hL
      rw[if_pos hL];split at h
      ·cases h
      ·rename_i c1 hb
       split at h
       ·cases h
       ·rename_i ks xs tl j' c2 ha
        cases h;have p:=posa _ _ _ _ _ _ _ _ _ (by omega) ha;rcases Lr (L':=L') hb with e | ⟨q,e,hq⟩ | ⟨q,e,hq⟩<;>rw[e]<;>simp only
        ·rcases iha _ _ _ _ _ _ _ _ _ (by omega) ha with e | ⟨q,e,hq⟩ | ⟨q,e,hq⟩<;>rw[e]<;>simp only
         ·exact .inl rfl
         ·exact .e9 (by rw[lvL];omega)
         ·exact .e10 hq
        ·exact .e9 (by rw[lvL];omega)
        ·exact .e10 (by omega)
     ·rename_i hL
      rw[if_neg hL];split at h
      ·rename_i hM
       rw[if_pos hM];split at h
       ·cases h
       ·rename_i c1 hb
        split at h
        ·cases h
        ·rename_i i1 hk
         have hkl:=Bo (by omega) hk;split at h
         ·cases h
         ·rename_i k1 t1 hs1
          have ht1:=Bd (by omega) hs1;split at h
          ·rename_i h125
           cases h;rcases Lr (L':=L') hb with e | ⟨q,e,hq⟩ | ⟨q,e,hq⟩<;>rw[e]<;>simp only
           ·try rw[hk]
            try simp only
            try rw[hs1]
            try simp only
            rw[if_pos h125];exact .inl rfl
           ·exact .e9 (by rw[lvM];omega)
           ·exact .e10 (by omega)
          ·rename_i h125
           split at h
           ·cases h
           ·rename_i ks xs tl j' c2 ha
            cases h;have p:=posn _ _ _ _ _ _ _ _ _ _ (by omega) ha;rcases Lr (L':=L') hb with e | ⟨q,e,hq⟩ | ⟨q,e,hq⟩<;>rw[e]<;>simp only
            ·try rw[hk]
             try simp only
             try rw[hs1]
             try simp only
             rw[if_neg h125];rcases ihn _ _ _ _ _ _ _ _ _ _ (by omega) ha with e | ⟨q,e,hq⟩ | ⟨q,e,hq⟩<;>rw[e]<;>simp only
             ·exact .inl rfl
             ·exact .e9 (by rw[lvM];omega)
             ·exact .e10 hq
            ·exact .e9 (by rw[lvM];omega)
            ·exact .e10 (by omega)
      ·cases h
  ·intro d l i c ks xs tl j c' hi h
   rw[arF]at h⊢;split at h
   ·cases h
   ·rename_i i1 hk
    have hkl:=Bo hi hk
    try rw[hk]
    try simp only
    split at h
    ·cases h
    ·rename_i k1 t1 hs1
     have ht1:=Bd (by omega) hs1
     try rw[hs1]
     try simp only
     split at h
     ·rename_i h93
      rw[if_pos h93];cases h;exact .inl rfl
     ·rename_i h93
      rw[if_neg h93];split at h
      ·cases h
      ·rename_i n x i2 c2 hv
       have pv:=posv _ _ _ _ _ _ _ _ (by omega) hv;have lv:=ihv _ _ _ _ _ _ _ _ (by omega) hv;split at h
       ·cases h
       ·rename_i i3 hk3
        have hkl3:=Bo (by omega) hk3;split at h
        ·cases h
        ·rename_i k3 t3 hs3
         have ht3:=Bd (by omega) hs3;split at h
         ·rename_i h3
          split at h
          ·cases h
          ·rename_i ks xs r ha
           obtain⟨tl',j',c3⟩:=r;cases h;have pa:=posa _ _ _ _ _ _ _ _ _ (by omega) ha;rcases lv with e | ⟨q,e,hq⟩ | ⟨q,e,hq⟩<;>rw[e]<;>simp only
           ·try rw[hk3]
            try simp only
            try rw[hs3]
            try simp only
            rw[if_pos h3];rcases iha _ _ _ _ _ _ _ _ _ (by omega) ha with e | ⟨q,e,hq⟩ | ⟨q,e,hq⟩<;>rw[e]<;>simp only
            ·exact .inl rfl
            ·exact .e9 (by rw[De];omega)
            ·exact .e10 hq
           ·exact .e9 (by rw[De];omega)
           ·exact .e10 (by omega)
         ·rename_i h3
          split at h
          ·cases h
          ·rename_i h4
           split at h
           ·cases h
           ·rename_i ks xs r ha
            obtain⟨tl',j',c3⟩:=r;cases h;have h44:t3=[44]:=Decidable.byContradiction λh=>h4 (.inr h);have hl44:t3.length=1:=by rw[h44];rfl
            have pa:=posa _ _ _ _ _ _ _ _ _ (by omega) ha;rcases lv with e | ⟨q,e,hq⟩ | ⟨q,e,hq⟩<;>rw[e]<;>simp only
            ·try rw[hk3]
             try simp only
             try rw[hs3]
             try simp only
             rw[if_neg h3,if_neg h4];rcases iha _ _ _ _ _ _ _ _ _ (by omega) ha with e | ⟨q,e,hq⟩ | ⟨q,e,hq⟩<;>rw[e]<;>simp only
             ·exact .inl rfl
             ·exact .e9 (by rw[De];omega)
             ·exact .e10 hq
            ·exact .e9 (by rw[De];omega)
            ·exact .e10 (by omega)
  ·intro d seen BD i c ks xs tl j c' hi h
   rw[inF]at h⊢;split at h
   ·cases h
   ·rename_i k t hs
    have ht:=Bd hi hs
    try rw[hs]
    try simp only
    split at h
    ·cases h
    ·rename_i key hkey
     try rw[hkey]
     try simp only
     split at h
     ·cases h
     ·rename_i hk1
      rw[if_neg hk1];split at h
      ·cases h
      ·rename_i hk2
       rw[if_neg hk2];split at h
       ·cases h
       ·rename_i i3 hk3
        have hkl3:=Bo (by omega) hk3
        try rw[hk3]
        try simp only
        split at h
        ·cases h
        ·rename_i u hp
         have hpl:=FS (by omega) hp;simp only[List.length_singleton]at hpl
         try rw[hp]
         try simp only
         split at h
         ·cases h
         ·rename_i i5 hk5
          have hkl5:=Bo (by omega) hk5
          try rw[hk5]
          try simp only
          split at h
          ·cases h
          ·rename_i n x i6 c2 hv
           have pv:=posv _ _ _ _ _ _ _ _ (by omega) hv;have lv:=ihv _ _ _ _ _ _ _ _ (by omega) hv;split at h
           ·cases h
           ·rename_i i7 hk7
            have hkl7:=Bo (by omega) hk7;split at h
            ·cases h
            ·rename_i k7 t7 hs7
             have ht7:=Bd (by omega) hs7;split at h
             ·rename_i h125
              cases h;rcases lv with e | ⟨q,e,hq⟩ | ⟨q,e,hq⟩<;>rw[e]<;>simp only
              ·try rw[hk7]
               try simp only
               try rw[hs7]
               try simp only
               rw[if_pos h125];exact .inl rfl
              ·exact .e9 (by rw[Ds,lvD];omega)
              ·exact .e10 (by omega)
             ·rename_i h125
              split at h
              ·cases h
              ·rename_i hn7
               have h77:t7=[44]:=Decidable.byContradiction λh=>hn7 (.inr h);have hl77:t7.length=1:=by rw[h77];rfl
               split at h
               ·cases h
               ·rename_i i9 hk9
                have hkl9:=Bo (by omega) hk9;split at h
                ·cases h
                ·rename_i ks xs r ha
                 obtain⟨tl',j',c3⟩:=r;cases h;have pa:=posn _ _ _ _ _ _ _ _ _ _ (by omega) ha;rcases lv with e | ⟨q,e,hq⟩ | ⟨q,e,hq⟩<;>rw[e]<;>simp only
                 ·try rw[hk7]
                  try simp only
                  try rw[hs7]
                  try simp only
                  rw[if_neg h125,if_neg hn7,hk9]
                  try simp only
                  rcases ihn _ _ _ _ _ _ _ _ _ _ (by omega) ha with e | ⟨q,e,hq⟩ | ⟨q,e,hq⟩<;>rw[e]<;>simp only
                  ·exact .inl rfl
                  ·exact .e9 (by rw[Ds,lvD];omega)
                  ·exact .e10 hq
                 ·exact .e9 (by rw[Ds,lvD];omega)
                 ·exact .e10 (by omega)
theorem path_ev {T:Tb} {cur:List Hop} {a:Asg}:OM (evT T) cur ⟨a.tab,a.elem,a.keys,vlO⟩=OM T cur a:=by
 unfold OM;dsimp only;rw[TT (λ_=>n0)];cases BE (λ_=>n0) a.tab 0 T (if a.tab=true then []else cur) a.keys.dropLast with
 | none=>rfl
 | some p=>rfl
theorem PD {L:LmT} {i deep:Nat}:∀(m c:Nat) {c':Nat},EC L i m deep c= .ok c'->c'=c+m/\(m≠0->(deep:Int)<=L.d)/\((c:Int)<=L.n->(c':Int)<=L.n)
 | 0,c,c',h=>by rw[EC]at h;cases h;exact⟨rfl,λh=>absurd rfl h,id⟩
 | m+1,c,c',h=>by
  rw[EC]at h;split at h
  ·cases h
  ·rename_i c1 hb
   have hb:=Fa hb;have ih:=PD m c1 h;refine⟨by omega,λ_=>?_,λ_=>ih.2.2 (by omega)⟩;cases m with
   | zero=>have:=hb.2.1;simpa using this
   | succ m=>exact ih.2.1 (by omega)
theorem Rc {L L':LmT} {i deep:Nat}:∀(m c:Nat) {c':Nat},EC L i m deep c= .ok c'->MK L' deep c' (EC L' i m deep c) c'
 | 0,c,c',h=>by rw[EC]at h⊢;exact .inl h
 | m+1,c,c',h=>by
  rw[EC]at h⊢;split at h
  ·cases h
  ·rename_i c1 hb
   have hc:=PD m c1 h;rcases Lr (L':=L') hb with e | ⟨q,e,hq⟩ | ⟨q,e,hq⟩<;>rw[e]<;>simp only
   ·exact Rc m c1 h
   ·exact .e9 (by omega)
   ·exact .e10 (by omega)
structure DvI (L:LmT) (x:LnS) (T:Tb):Prop where
 run:G2 0 T00 [] x.asg= .ok (T,x.cur)
 ev:x.T=evT T
 cnt:(Ae T).cnt=x.c
 lv:(lvV (Ae T):Int)<=L.d
 n:(x.c:Int)<=L.n
 va:AY (Ae T)
 at_:∃u,atT T x.cur=some u
 nd:NdL (shT 1 T)
 ne:NeL (shT 1 T)
theorem YU {L:LmT} {i:Nat} {x:LnS} {T T':Tb} {cur':List Hop} {c' d:Nat} {tab elem:Bool} {ks:List B8} {v:Vl} (I:DvI L x T) (hL:L.d<=48) (hN:L.n<=65536) (hv:tab=true->v=vlO) (hk:∀k,k∈ks->U8 k) (hva:AY v)
  (h:Ir L i x.T x.cur x.c tab elem ks= .ok (T',cur',c',d)) (h2:tab=false->(d:Int)+lvV v<=L.d+1/\((c'+v.cnt:Nat):Int)<=L.n):
  ∃R,(∀kids,DvI L ⟨if tab=true then c' else c'+v.cnt,T',cur',kids,x.asg++[⟨tab,elem,ks,v⟩]⟩ R)/\x.c<=c'/\lvV (Ae T)<=lvV (Ae R)/\(tab=false->d+lvV v<=lvV (Ae R)+1)/\
   ∀L',MK L' (lvV (Ae R)) c' (Ir L' i x.T x.cur x.c tab elem ks) (T',cur',c',d):=by
 unfold Ir at h;split at h
 ·cases h
 rename_i hany;have hk2:∀k,k∈ks->U8 k/\k.length<=1024:=λk hm=>⟨hk k hm,by
  apply Decidable.byContradiction;intro hlt;exact hany (List.any_eq_true.2 ⟨k,hm,by simp;omega⟩)⟩
 split at h
 ·cases h
 rename_i T1 cur1 hs;have hse:=YJ (i:=x.asg.length) (T:=T) (cur:=x.cur) (a:=⟨tab,elem,ks,v⟩) hv;dsimp only at hse;rw[<-I.ev,hs]at hse;cases hr:EE x.asg.length T x.cur ⟨tab,elem,ks,v⟩with
 | error e=>rw[hr]at hse;cases hse
 | ok p=>
  obtain⟨R,cr⟩:=p;rw[hr]at hse;simp only[evX,Except.ok.injEq,Prod.mk.injEq]at hse;obtain⟨rfl,rfl⟩:=hse;have F:=step_f hr;obtain⟨u,hu⟩:=I.at_;obtain⟨w1,w2,w3,_,_⟩:=step_way hu I.nd I.ne hr;have hvd:AY (Ae R):=Xe hu I.ne hr I.va hk2 λ_ _=>hva;have hdl:=F.dl;have hle:=F.le;have hlu:=F.lvu;have hll:=F.lvl;have hic:=I.cnt;have hil:=I.lv;have hin:=I.n;have pev:=path_ev (T:=T) (cur:=x.cur) (a:=⟨tab,elem,ks,v⟩);dsimp only at pev;rw[<-I.ev]at pev hdl hle hlu;unfold ZC at hlu hll;dsimp only at hlu hll hdl hle;have fin:∀c2,(Ae R).cnt=c2->(lvV (Ae R):Int)<=L.d->(c2:Int)<=L.n->∀kids,DvI L ⟨c2,evT R,cur1,kids,x.asg++[⟨tab,elem,ks,v⟩]⟩ R:=λc2 g1 g2 g3 kids=>by
   refine⟨?_,rfl,g1,g2,g3,hvd,w1,w2,w3⟩;dsimp only;rw[WK _ _ _ _ _ I.run,Nat.zero_add,allG_one [] hr (EA.2 ⟨hvd,by omega,by omega⟩)];rfl
  split at h
  ·rename_i ht
   subst ht;simp only[if_true]at hlu hll hdl hle⊢;split at h
   ·cases h
   ·rename_i c1 hb
    cases h;have hb1:=PD _ _ hb;refine⟨R,fin _ (by omega) ?_ (hb1.2.2 hin),by omega,F.lv,λh=>(by cases h),λL'=>?_⟩
    ·by_cases hm:(Ae (evT R)).cnt-(Ae x.T).cnt=0
     ·rw[if_pos (by omega)]at hlu
      omega
     ·have:=hb1.2.1 hm
      split at hlu<;>omega
    ·unfold Ir
     rw[if_neg hany,hs];simp only[↓reduceIte];rcases Rc (L':=L') _ _ hb with e | ⟨q,e,hq⟩ | ⟨q,e,hq⟩<;>rw[e]<;>simp only
     ·exact .inl rfl
     ·exact .e9 (by omega)
     ·exact .e10 hq
  ·rename_i ht
   have ht':tab=false:=by simpa using ht
   subst ht';simp only[Bool.false_eq_true,if_false]at hlu hll hdl hle⊢;split at h
   ·cases h
   ·rename_i c1 hb
    cases h;rw[pev]at hb;rw[pev]at h2;have hb1:=PD _ _ hb;have h2':=h2 rfl;refine⟨R,fin _ (by omega) ?_ h2'.2,by omega,F.lv,λ_=>by rw[pev];omega,λL'=>?_⟩
    ·by_cases hm:(Ae (evT R)).cnt-(Ae x.T).cnt-1=0
     ·rw[if_pos (by omega)]at hlu
      omega
     ·have:=hb1.2.1 hm
      split at hlu<;>omega
    ·unfold Ir
     rw[if_neg hany,hs];simp only[Bool.false_eq_true,↓reduceIte];rw[pev];rcases Rc (L':=L') _ _ hb with e | ⟨q,e,hq⟩ | ⟨q,e,hq⟩<;>rw[e]<;>simp only
     ·exact .inl rfl
     ·exact .e9 (by omega)
     ·exact .e10 hq
theorem dt1_u8 {s:B8} {i j:Nat} {k:B8} (hi:i<=s.length) (h:dt1 s i=some (k,j)):U8 k/\k.length+i<=j:=by
 unfold dt1 at h;split at h
 ·split at h
  ·cases h
  ·cases h
   have:=uL_u8 (nT (nxt s (i:Int)));exact⟨this.1,by omega⟩
 ·split at h
  ·cases h
  ·rename_i h0
   cases h;have hl:=Ko Cm (s.drop i);refine⟨ZN ((Yo _ _ hl).2 ⟨h0,Nat.le_refl _⟩),by rw[List.length_take];omega⟩
theorem dtF_u8:∀(f:Nat) {s:B8} {i:Nat} {ks:List B8},i<=s.length->dtF f s i=some ks->(∀k,k∈ks->U8 k)/\kz ks+i<=s.length+1
 | 0,s,i,ks,hi,h=>by unfold dtF at h;cases h
 | f+1,s,i,ks,hi,h=>by
  rw[KU]at h;cases h1:dt1 s i with
  | none=>rw[h1]at h;cases h
  | some p=>
   obtain⟨k,j⟩:=p;rw[h1]at h;simp only at h;have hj:=Ox hi h1;have hu:=dt1_u8 hi h1;split at h
   ·cases h
    exact⟨λk' hk'=>by rw[List.mem_singleton.1 hk'];exact hu.1,by simp[kz];omega⟩
   ·split at h
    ·cases h
    ·cases h2:dtF f s (j+1)with
     | none=>rw[h2]at h;cases h
     | some ks'=>
      rw[h2]at h;cases h;have ih:=dtF_u8 f (by omega) h2;refine⟨λk' hk'=>?_,?_⟩
      ·rcases List.mem_cons.1 hk' with e | e
       ·rw[e];exact hu.1
       ·exact ih.1 k' e
      ·have:=ih.2
       unfold kz at this⊢;rw[List.map_cons,List.sum_cons];omega
theorem Zb {s:B8} {i j:Nat} {ks:List B8} (hi:i<=s.length) (h:Gn s i= .ok (ks,j)) (hj:j<=s.length):(∀k,k∈ks->U8 k)/\kz ks<=j-i+1:=by
 unfold Gn at h;split at h
 ·cases h
 ·split at h
  ·split at h
   ·cases h
   ·split at h
    ·cases h
    ·rename_i hd
     cases h;have:=dtF_u8 _ (Nat.zero_le _) hd;rw[sl_lenX hj]at this;exact⟨this.1,by omega⟩
  ·cases h
theorem kxF_le {s:B8}:∀(f i j:Nat),i<=s.length->kxF s f i= .ok j->i<=j/\j<=s.length
 | 0,i,j,hi,h=>by unfold kxF at h;cases h;exact⟨Nat.le_refl _,hi⟩
 | f+1,i,j,hi,h=>by
  unfold kxF at h;split at h
  ·cases h
  ·cases h;exact⟨Nat.le_refl _,hi⟩
  ·rename_i k t hn
   have:=CJ hi hn;split at h
   ·have:=kxF_le f _ j (by omega) h
    omega
   ·cases h;exact⟨Nat.le_refl _,hi⟩
theorem Nq {s:B8} {i j:Nat} {ks:List B8} (hi:i<=s.length) (h:Gn s i= .ok (ks,j)):i<j/\j<=s.length:=by
 unfold Gn at h;split at h
 ·cases h
 ·rename_i k t hs
  have ht:=Bd hi hs;split at h
  ·split at h
   ·cases h
   ·rename_i j' hx
    have:=kxF_le _ _ _ (by omega) hx;split at h
    ·cases h
    ·cases h;omega
  ·cases h
theorem szO:vlO.sz=1:=by unfold vlO Vl.sz E5 Ev;rfl
theorem SW (l:List Asg) (a:Asg):EM (l++[a])=EM l+asz a:=by
 induction l with
 | nil=>simp[EM]
 | cons b r ih=>rw[List.cons_append,EM,EM,ih];omega
structure LnR (L:LmT) (s:B8) (i:Nat) (x:LnS) (T:Tb) (x':LnS) (j:Nat) (R:Tb):Prop where
 inv:DvI L x' R
 c:x.c<=x'.c
 lv:lvV (Ae T)<=lvV (Ae R)
 ij:i<j
 js:j<=s.length
 sz:EM x'.asg+6*i<=EM x.asg+6*j
theorem Zm {L:LmT} {s BD:B8} {i j:Nat} {x x':LnS} {T:Tb} (I:DvI L x T) (hL:L.d<=48) (hN:L.n<=65536) (hi:i<s.length) (h:Nv s L BD i x= .ok (x',j)):
  ∃R,LnR L s i x T x' j R/\∀L',MK L' (lvV (Ae R)) x'.c (Nv s L' BD i x) (x',j):=by
 unfold Nv at h;split at h
 ·cases h
 rename_i k t hs;have ht:=Bd (by omega) hs;have hp0:(if t=[91]then i+2 else i+1)<=s.length:=by split<;>omega
 have hp1:i+1<=(if t=[91]then i+2 else i+1):=by split<;>omega
 split at h
 ·cases h
 rename_i ks j1 hks;have hkl:=Nq hp0 hks;have hku:=Zb hp0 hks hkl.2;split at h
 ·cases h
 rename_i u hp;have hpl:=FS hkl.2 hp;split at h
 ·cases h
 rename_i u2 hp2;split at h
 ·cases h
 rename_i T' cur' c' d hpc;obtain⟨R,q1,q2,q3,q4,q5⟩:=YU (v:=vlO) I hL hN (λ_=>rfl) hku.1 valid_O hpc (λh=>by cases h);cases h;have e1:(if t=[91]then i+2 else i+1)<=j1:=by omega
 have hj:(if t=[91]then j1+2 else j1+1)<=s.length:=by
  split
  ·rename_i h91
   rw[if_pos h91]at hp2;have:=FS (by simp only[List.length_singleton]at hpl;omega) hp2;simp only[List.length_singleton]at this;omega
  ·simp only[List.length_singleton]at hpl;omega
 refine⟨R,⟨q1 _,q2,q3,by split<;>omega,hj,?_⟩,λL'=>?_⟩
 ·dsimp only
  rw[SW];unfold asz;dsimp only;rw[szO];have:=hku.2;simp only[List.length_singleton]at hpl;have hq:j1+1<=(if t=[91]then j1+2 else j1+1):=by split<;>omega
  omega
 ·unfold Nv
  rw[hs];simp only;rw[hks];simp only;rw[hp];simp only;rw[hp2];simp only;rcases q5 L' with e | ⟨q,e,hq⟩ | ⟨q,e,hq⟩<;>rw[e]<;>simp only
  ·exact .inl rfl
  ·exact .e9 hq
  ·exact .e10 hq
theorem Zs {L:LmT} {s BD:B8} {F i j:Nat} {x x':LnS} {T:Tb} (I:DvI L x T) (hL:L.d<=48) (hN:L.n<=65536) (hi:i<s.length) (h:Ow s L F BD i x= .ok (x',j)):
  ∃R,LnR L s i x T x' j R/\∀L',MK L' (lvV (Ae R)) x'.c (Ow s L' F BD i x) (x',j):=by
 unfold Ow at h;split at h
 ·cases h
 rename_i ks j1 hks;have hkl:=Nq (by omega) hks;have hku:=Zb (by omega) hks hkl.2;split at h
 ·cases h
 rename_i T' cur' c' d hpc;split at h
 ·cases h
 rename_i i2 hk2;have hkl2:=Bo hkl.2 hk2;split at h
 ·cases h
 rename_i u hp;have hpl:=FS hkl2.2 hp;simp only[List.length_singleton]at hpl;split at h
 ·cases h
 rename_i i4 hk4;have hkl4:=Bo (by omega) hk4;split at h
 ·cases h
 rename_i n v i5 c2 hv;have pv:=(Iq s L F).1 _ _ _ _ _ _ _ _ (by omega) hv;have gv:=(pv_law s L F).1 _ _ _ _ _ _ _ _ (by omega) hv;have lv:=λL'=>(pv_lim s L L' F).1 _ _ _ _ _ _ _ _ (by omega) hv;cases h;obtain⟨R,q1,q2,q3,q4,q5⟩:=YU (v:=v) I hL hN (λh=>by cases h) hku.1 gv.1 hpc (λ_=>⟨gv.2.2.1,by have:=gv.2.2.2.1;have:=gv.2.1;omega⟩);have e2:c2=c'+v.cnt:=gv.2.1;have q4':=q4 rfl;refine⟨R,⟨?_,by show x.c<=c2;omega,q3,by omega,by omega,?_⟩,λL'=>?_⟩
 ·have:=q1 (LM x.kids (ent [.mk 6 BD (sl s i j1) [] [],mrk (sl s j1 i2) [61],n]))
  rw[if_neg (by simp)]at this;rw[e2];exact this
 ·dsimp only
  rw[SW];unfold asz;dsimp only;have:=hku.2;have:=gv.2.2.2.2;omega
 ·have hlv:=Xx v
  unfold Ow;rw[hks];simp only;rcases q5 L' with e | ⟨q,e,hq⟩ | ⟨q,e,hq⟩<;>rw[e]<;>simp only
  ·rw[hk2]
   simp only;rw[hp];simp only;rw[hk4];simp only;rcases lv L' with e | ⟨q,e,hq⟩ | ⟨q,e,hq⟩<;>rw[e]<;>simp only
   ·exact .inl rfl
   ·exact .e9 (by omega)
   ·exact .e10 hq
  ·exact .e9 hq
  ·exact .e10 (by show L'.n<((c2:Nat):Int);omega)
theorem Zw {L:LmT} {s:B8} {F:Nat} (hL:L.d<=48) (hN:L.n<=65536):∀(f i:Nat) (x:LnS) (T:Tb) (kids:List Nd) (tl:B8) (asg:List Asg) (z:LnS),DvI L x T->i<=s.length->EM x.asg<=6*i->Ka s L F f i x= .ok (kids,tl,asg,z)->
  ∃R,DvI L z R/\asg=z.asg/\kids=z.kids/\x.c<=z.c/\lvV (Ae T)<=lvV (Ae R)/\EM asg<=6*s.length/\∀L',MK L' (lvV (Ae R)) z.c (Ka s L' F f i x) (kids,tl,asg,z)
 | 0,i,x,T,kids,tl,asg,z,I,hi,hz,h=>by rw[Ka]at h;cases h
 | f+1,i,x,T,kids,tl,asg,z,I,hi,hz,h=>by
  rw[Ka]at h;split at h
  ·cases h
  rename_i i1 hk;have hkl:=Bo hi hk;split at h
  ·cases h
  ·rename_i hn
   cases h;refine⟨T,I,rfl,rfl,Nat.le_refl _,Nat.le_refl _,by omega,λL'=>?_⟩;rw[Ka,hk]
   try simp only
   try rw[hn]
   exact .inl rfl
  ·rename_i k t hn
   have ht:=CJ hkl.2 hn;split at h
   ·cases h
   rename_i x' j hl;split at h
   ·cases h
   rename_i u he;obtain⟨R,r1,r2⟩:∃R,LnR L s i1 x T x' j R/\∀L',MK L' (lvV (Ae R)) x'.c (if t=[91]then Nv s L' (sl s i i1) i1 x else if HN k then Ow s L' F (sl s i i1) i1 x else .error (i1,3):Except EP (LnS×Nat)) (x',j):=by
    split at hl
    ·rename_i h91
     obtain⟨R,r1,r2⟩:=Zm I hL hN ht.1 hl;exact⟨R,r1,λL'=>by rw[if_pos h91];exact r2 L'⟩
    ·rename_i h91
     split at hl
     ·rename_i hw
      obtain⟨R,r1,r2⟩:=Zs I hL hN ht.1 hl;exact⟨R,r1,λL'=>by rw[if_neg h91,if_pos hw];exact r2 L'⟩
     ·cases hl
   have hsz:=r1.sz;have hij:=r1.ij;have hc:=r1.c;have hlv:=r1.lv;obtain⟨R2,g1,g2,g3,g4,g5,g6,g7⟩:=Zw hL hN f j x' R kids tl asg z r1.inv r1.js (by omega) h;refine⟨R2,g1,g2,g3,by omega,by omega,g6,λL'=>?_⟩;rw[Ka,hk]
   try simp only
   try rw[hn]
   try simp only
   rcases r2 L' with e | ⟨q,e,hq⟩ | ⟨q,e,hq⟩<;>rw[e]<;>simp only
   ·try rw[he]
    exact g7 L'
   ·exact .e9 (by omega)
   ·exact .e10 (by omega)
theorem ev_T00:evT T00=T00:=by unfold T00;rw[evT,HO]
theorem IZ {L:LmT} {s:B8} (hL:L.d<=48) (hN:L.n<=65536) {kids:List Nd} {tl:B8} {asg:List Asg} {z:LnS} (h:CP s L= .ok (kids,tl,asg,z)):
  ∃R cur,Xl asg= .ok (R,cur)/\AY (Ae R)/\(lvV (Ae R):Int)<=L.d/\((Ae R).cnt:Int)<=L.n/\EM asg<=6*s.length/\∀L',MK L' (lvV (Ae R)) (Ae R).cnt (CP s L') (kids,tl,asg,z):=by
 unfold CP at h;split at h
 ·cases h
 rename_i c hb;have hb1:=Fa hb;have hcnt:(Ae T00).cnt=1:=by unfold T00;rw[Ae,Bb];simp[Vl.cnt,AH,AX]
 have hlv:lvV (Ae T00)=1:=by unfold T00;rw[Ae,Bb];simp[lvV,De,Ds]
 have w:=Well.start;have I:DvI L ⟨c,T00,[],[],[]⟩ T00:=⟨by unfold G2;rfl,ev_T00.symm,by rw[hcnt];dsimp only;omega,by rw[hlv];omega,by dsimp only;omega,w.va,w.at_,w.nd,w.ne⟩;obtain⟨R,g1,g2,g3,g4,g5,g6,g7⟩:=Zw hL hN _ _ _ _ _ _ _ _ I (Nat.zero_le _) (by simp[EM]) h;have e:=g1.cnt;subst g2;refine⟨R,z.cur,g1.run,g1.va,g1.lv,by rw[e];exact g1.n,g6,λL'=>?_⟩;unfold CP;rw[e];rcases Lr (L':=L') hb with e | ⟨q,e,hq⟩ | ⟨q,e,hq⟩<;>rw[e]<;>simp only
 ·exact g7 L'
 ·exact .e9 (by rw[hlv]at g5;omega)
 ·exact .e10 (by dsimp only at g4;omega)
section
variable {s:B8} {L:LmT} {y1 y2 y3:Int} {ub ul uf cv plv:TV}
theorem bgn_e {L:LmT} {i d c:Nat} {p:EP} (h:bgn L i d c= .error p):p.2≠0:=by
 unfold bgn at h;split at h
 ·cases h;simp
 ·split at h
  ·cases h;simp
  ·cases h
theorem Yn {L:LmT} {i deep:Nat}:∀(m c:Nat) {p:EP},EC L i m deep c= .error p->p.2≠0
 | 0,c,p,h=>by rw[EC]at h;cases h
 | m+1,c,p,h=>by
  rw[EC]at h;split at h
  ·rename_i hb;cases h;exact bgn_e hb
  ·exact Yn m _ h
end
section
variable {s:B8} {L:LmT} {y1 y2 y3:Int} {ub ul uf cv plv:TV}
abbrev MR:=Except EP (List Nd×List Fd×B8×Nat×Nat)
def inH (s:B8) (L:LmT) (g d:Nat) (seen:List B8) (p c:Nat) (first:Bool):MR:=
 match sk s false p with
 | .error e=> .error e
 | .ok j=>if first=true then(match see s j with
   | .error e=> .error e
   | .ok (_,t1)=>if t1=[125]then .ok ([],[],sl s p j++[125],j+1,c)else inF s L g d seen (sl s p j) j c)
  else inF s L g d seen (sl s p j) j c
def inT (s:B8) (L:LmT) (g d:Nat) (seen:List B8) (key:B8) (ks:List Nd) (n:Nd) (x:Vl) (i6 c2:Nat):MR:=
 match nxo s 1 i6 with
 | .error e=> .error e
 | .ok (_,none)=> .error (s.length,4)
 | .ok (j7,some (k7,t7))=>if t7=[125]then .ok ([ent (ks++[n])],[.mk key x],sl s i6 j7++[125],j7+1,c2)
  else if k7≠4∨t7≠ [44]then .error (j7,3)
  else match inH s L g d (seen++[key]) (j7+1) c2 false with
   | .error e=> .error e
   | .ok (ks',xs,r)=> .ok (ent (ks++[n,mrk (sl s i6 j7) [44]])::ks',.mk key x::xs,r)
end
section
variable {s:B8} {L:LmT} {y1 y2 y3:Int} {ub ul uf cv plv:TV}
def entQ (s:B8) (L:LmT) (F:Nat) (i:Nat) (T:Tb) (cur:List Hop) (c:Nat):Except EP (Tb×List Hop×Nat×List B8×Nat×Nat×Nd×Vl×Nat):=
 match Gn s i with
 | .error e=> .error e
 | .ok (ks,j)=>match Ir L i T cur c false false ks with
  | .error e=> .error e
  | .ok (T',cur',c',d)=>match sk s false j with
   | .error e=> .error e
   | .ok i2=>match CK s i2 [61]with
    | .error e=> .error e
    | .ok _=>match sk s false (i2+1)with
     | .error e=> .error e
     | .ok i4=>match pvF s L F d (sl s (i2+1) i4) i4 c' with
      | .error e=> .error e
      | .ok (n,v,i5,c'')=> .ok (T',cur',c'',ks,j,i2,n,v,i5)
theorem entP_eq {F i:Nat} {BD:B8} {x:LnS}:Ow s L F BD i x=match entQ s L F i x.T x.cur x.c with
  | .error e=> .error e
  | .ok (T',cur',c'',ks,j,i2,n,v,i5)=> .ok (⟨c'',T',cur',LM x.kids (ent [.mk 6 BD (sl s i j) [] [],mrk (sl s j i2) [61],n]),x.asg++[⟨false,false,ks,v⟩]⟩,i5):=by
 unfold Ow entQ;cases Gn s i with
 | error e=>rfl
 | ok r=>
  obtain⟨ks,j⟩:=r;simp only;cases Ir L i x.T x.cur x.c false false ks with
  | error e=>rfl
  | ok r=>
   obtain⟨T',cur',c',d⟩:=r;simp only;cases sk s false j with
   | error e=>rfl
   | ok i2=>
    simp only;cases CK s i2 [61]with
    | error e=>rfl
    | ok u=>
     simp only;cases sk s false (i2+1)with
     | error e=>rfl
     | ok i4=>
      simp only;cases pvF s L F d (sl s (i2+1) i4) i4 c' with
      | error e=>rfl
      | ok r=>rfl
theorem kx_ne {i:Nat} {p:EP} (hi:i<=s.length) (h:kx s i= .error p):p.2≠0:=by
 have:∀(f i:Nat) {p:EP},i<=s.length->kxF s f i= .error p->p.2≠0:=by
  intro f;induction f with
  | zero=>intro i p hi h;unfold kxF at h;cases h
  | succ f ih=>
   intro i p hi h;unfold kxF at h;split at h
   ·rename_i e hn;cases h;exact Oi hi hn
   ·cases h
   ·rename_i k t hn
    have:=CJ hi hn;split at h
    ·exact ih _ (by omega) h
    ·cases h
 exact this _ _ hi h
end
section
variable {s:B8} {L:LmT} {y1 y2 y3:Int} {ub ul uf cv plv:TV}
def hqC (L:LmT) (T:Tb) (cur:List Hop) (c i:Nat) (el:Bool) (ks:List B8) (j:Nat):Except EP (Tb×List Hop×Nat×List B8×Bool×Nat):=
 match Ir L i T cur c true el ks with
 | .error e=> .error e
 | .ok (T',cur',c',_)=> .ok (T',cur',c',ks,el,j)
def hqM (s:B8) (L:LmT) (T:Tb) (cur:List Hop) (c i:Nat) (el:Bool) (ks:List B8):Nat->Nat->Except EP (Tb×List Hop×Nat×List B8×Bool×Nat)
 | 0,j=>hqC L T cur c i el ks j
 | m+1,j=>match CK s j [93]with
  | .error e=> .error e
  | .ok _=>hqM s L T cur c i el ks m (j+1)
def hqK (s:B8) (L:LmT) (T:Tb) (cur:List Hop) (c i:Nat) (el:Bool) (q:Nat):Except EP (Tb×List Hop×Nat×List B8×Bool×Nat):=
 match Gn s q with
 | .error e=> .error e
 | .ok (ks,j)=>hqM s L T cur c i el ks (if el=true then 2 else 1) j
def hdrQ (s:B8) (L:LmT) (i:Nat) (T:Tb) (cur:List Hop) (c:Nat):Except EP (Tb×List Hop×Nat×List B8×Bool×Nat):=
 match see s (i+1)with
 | .error e=> .error e
 | .ok (_,t)=>hqK s L T cur c i (decide (t=[91])) (if t=[91]then i+2 else i+1)
theorem hdrP_eq {i:Nat} {BD:B8} {x:LnS}:Nv s L BD i x=match hdrQ s L i x.T x.cur x.c with
  | .error e=> .error e
  | .ok (T',cur',c',ks,el,j)=> .ok (⟨c',T',cur',LM x.kids (.mk 7 BD (sl s i j) [] []),x.asg++[⟨true,el,ks,vlO⟩]⟩,j):=by
 unfold Nv hdrQ;cases see s (i+1)with
 | error e=>rfl
 | ok r=>
  obtain⟨k,t⟩:=r;simp only;unfold hqK;by_cases h:t=[91]
  ·subst h
   simp only[if_true,decide_true];cases Gn s (i+2)with
   | error e=>rfl
   | ok r=>
    obtain⟨ks,j⟩:=r;simp only;rw[hqM];cases CK s j [93]with
    | error e=>rfl
    | ok u=>
     simp only;rw[hqM];cases CK s (j+1) [93]with
     | error e=>rfl
     | ok u=>
      simp only;rw[hqM];unfold hqC;cases Ir L i x.T x.cur x.c true true ks with
      | error e=>rfl
      | ok r=>rfl
  ·simp only[if_neg h,decide_eq_false h,Bool.false_eq_true,if_false]
   cases Gn s (i+1)with
   | error e=>rfl
   | ok r=>
    obtain⟨ks,j⟩:=r;simp only;rw[hqM];cases CK s j [93]with
    | error e=>rfl
    | ok u=>
     simp only;rw[hqM];unfold hqC;cases Ir L i x.T x.cur x.c true false ks with
     | error e=>rfl
     | ok r=>rfl
end
theorem ZY {P:Program} {o:Oper} {a:Act} {next next':Act->World->Prop} {Q:Exit->Act->World->Prop} (k:∀a w,next a w->next' a w) {r:Result Next} (h:o.upon P a next Q r):o.upon P a next' Q r:=by
 unfold Oper.upon at h⊢;split at h
 ·exact k _ _ h
 ·exact k _ _ h
 ·exact k _ _ h
 ·refine Calls.mono h λe w' h=>?_
  cases e with
  | returned v=>exact k _ _ h
  | panicked c=>exact h
  | outgrown=>exact h
 ·exact Rows.mono h λv w' h=>k _ _ h
 ·exact h
 ·exact h.elim
theorem IJ {P:Program} {ops:Array Oper} {Q:Exit->Act->List Frame->World->Prop} {cs:List Frame} (hl:¬LetsOut λe a w=>Q e a cs w):
  ∀(l:List Oper) (k:Nat),(∀j,l[j]? =ops[k+j]?)->∀(a:Act) (w:World),wpList P ops (λe a w=>Q e a cs w) l a w->wpOpsS P ops Q (List.range' k l.length) a cs w
 | [],k,_,a,w,h=>by simpa [wpOpsS,wpList]using h
 | o::l,k,hk,a,w,h=>by
  have h0:ops[k]? =some o:=by simpa using (hk 0).symm
  have ih:=IJ (P:=P) hl l (k+1) (λj=>by have:=hk (j+1);simpa [Nat.add_assoc,Nat.add_comm 1 j]using this);simp only[List.length_cons,List.range'_succ,wpOpsS,h0];simp only[wpList]at h;split
  ·rename_i hw
   rw[if_pos hw]at h;rcases h with h | ⟨_,h⟩
   ·unfold Oper.wp at h
    have h':=ZY (next':=λa' w'=>wpOpsS P ops Q (List.range' (k+1) l.length) a' cs w') (λa w h=>ih a w h) h;split
    ·rename_i w' hr
     rw[hr]at h';exact h'.elim
    ·exact h'
   ·exact absurd h hl
  ·rename_i hw
   rw[if_neg hw]at h;exact ih _ _ h
theorem UH {P:Program} {Q:Exit->Act->List Frame->World->Prop} {a:Act} {cs cs':List Frame} {w:World} {id:Nat} {ops:Array Oper} {o:Oper} {rest:List Oper} {v:Value} (BE:ops.toList=o::rest)
  (hw:Region.wanted o (yielded ops a.tmps)=true) (hr:(execOp a.eval o).run P w= .ok .recover w) (hc:(match recoverD cs with | some (v,cs')=>(v,cs') | none=>(.nilIface,cs))=(v,cs'))
  (hl:¬LetsOut λe a w=>Q e a cs' w) (h:wpList P ops (λe a w=>Q e a cs' w) rest (a.put o.dst v) w):(Code.region id ops false).wpS P Q a cs w:=by
 apply wpS_region;have hs:ops.size=rest.length+1:=by rw[<-Array.length_toList,BE];rfl
 have h0:ops[0]? =some o:=by rw[<-Array.getElem?_toList,BE];rfl
 have hk:∀j,rest[j]? =ops[0+1+j]? :=λj=>by rw[<-Array.getElem?_toList,BE,show 0+1+j=j+1 by omega];rfl
 have h2:=IJ (Q:=Q) hl rest (0+1) hk _ _ h;rw[List.range_eq_range',hs,List.range'_succ];simp only[wpOpsS,h0];rw[if_pos hw,hr];simp only;revert hc;cases recoverD cs with
 | none=>intro hc;simp only[Prod.mk.injEq]at hc;obtain⟨rfl,rfl⟩:=hc;exact h2
 | some p=>obtain⟨v',cs''⟩:=p;intro hc;simp only[Prod.mk.injEq]at hc;obtain⟨rfl,rfl⟩:=hc;exact h2
theorem VV {g:Ak} {w:World} {cfg:Cfg} {fn:Func} {args:List TV} {vargs:List Value} {st:St} (s:Sim g st [] w) (hr:AP g w args vargs) (hn:args.length<=fn.ntmps):
  Sim g st (Co cfg fn args).loc w/\DM g w (Co cfg fn args) (vargs.toArray++Array.replicate (fn.ntmps-vargs.toArray.size) Go.undef)/\(vargs.toArray++Array.replicate (fn.ntmps-vargs.toArray.size) Go.undef).size=fn.ntmps:=by
 have hlen:vargs.length=args.length:=hr.1.symm;have hsize:(vargs.toArray++Array.replicate (fn.ntmps-vargs.toArray.size) Go.undef).size=fn.ntmps:=by simp;omega
 have hsim:Sim g st (Co cfg fn args).loc w:=s.weakLoc λj x' hx'=>by
  simp only[Co,List.getElem?_map]at hx';cases hq:cfg.loc[j]? with
  | none=>rw[hq]at hx';cases hx'
  | some q=>rw[hq]at hx';simp at hx'
 refine⟨hsim,⟨by rw[hsize];rfl,λi=>?_⟩,hsize⟩;by_cases hia:i<args.length
 ·have h1:(Co cfg fn args).slots.f i= .t args[i]:=by simp[Co,hia]
  have h2:(vargs.toArray++Array.replicate (fn.ntmps-vargs.toArray.size) Go.undef).getD i Go.undef=vargs.getD i Go.undef:=by
   have:i<vargs.length:=by omega
   have hin:i<fn.ntmps:=by omega
   simp[Array.getD,Array.getElem_append,this,hin,List.getD_eq_getElem?_getD];omega
  rw[h1,h2];exact hr.2 i hia
 ·have h1:(Co cfg fn args).slots.f i= .t .undef:=by simp[Co,hia]
  have h2:(vargs.toArray++Array.replicate (fn.ntmps-vargs.toArray.size) Go.undef).getD i Go.undef=Go.undef:=by
   have:¬i<vargs.length:=by omega
   simp[Array.getD,Array.getElem_append,this]
  rw[h1,h2];exact Rel.undef
def CQ (K:St->Prop):Exit->Fr->St->Prop
 | .normal,_,st=>K st
 | .ret,_,st=>K st
 | _,_,_=>False
def S5 (g:Ak) (w:World) (K:St->Prop) (w':World):Prop:=∃st' g',K st'/\Sim g' st' [] w'/\Ext g w g' w'
theorem WC {P:Program} (hm:P.follows .mixedOrders=true) {f:FuncId} {fn:Func} {id:Nat} {ops:Array Oper} {C:Code} {o o2:Oper} {rest:List Oper} {d d2:Nat} {cfg:Cfg} {hint:II} {caps:List TV} {st:St} {rec rec2:TV} {K:St->Prop}
  (hf:P.funcs[f]? =some fn) (hb:fn.body=some (.seq (.region id ops false) C)) (BE:ops.toList=o::o2::rest) (hd:o.dst=some d) (hd2:o2.dst=some d2) (hw:∀x,Region.wanted o x=true) (hw2:∀x,Region.wanted o2 x=true) (hr:∀ρ w,(execOp ρ o).run P w= .ok .recover w)
  (hres:fn.results= #[]) (hn:caps.length<=fn.ntmps) (hx:∀v st,¬cfg.exc v st)
  (h:LT cfg P ops (λfr st1=>cwp cfg P fn.ntmps cfg.loc.length C hint (CQ K) fr st1) rest ⟨((Co cfg fn caps).slots.set d (.t rec)).set d2 (.t rec2),(Co cfg fn caps).loc⟩ st)
  {g:Ak} {w:World} {vargs:List Value} (s:Sim g st [] w) (hrl:AP g w caps vargs) {u u':FrameMode} {v v2:Value} (hv:Rel g w rec v) (hv2:Rel g w rec2 v2) (hr2:∀a:Act,a.tmps.size=fn.ntmps->(a.put (some d) v).tmps.size=fn.ntmps->(execOp (a.put (some d) v).eval o2).run P w= .ok (.value v2) w)
  (hu:∀(c:Frame) (cs:List Frame),c.mode=u->(match recoverD (c::cs)with | some (v,cs')=>(v,cs') | none=>(.nilIface,c::cs))=(v,{c with mode:=u'}::cs)):
  CallsD P f vargs.toArray u w λe u2 w'=>e= .returned (.tuple #[])/\u2=u'/\S5 g w K w':=by
 obtain⟨hsim,hfr,hsize⟩:=VV (cfg:=cfg) s hrl hn;refine callsD_of_wpS hf hb λc₀ cs hcu=>wpS_seq ?_;have hlet:∀(Q:Exit->Act->List Frame->World->Prop),¬LetsOut λe a w'=>Exit.thenS (C.wpS P (bodyPostS P fn c₀ cs λe u2 w'=>e= .returned (.tuple #[])/\u2=u'/\S5 g w K w')) (bodyPostS P fn c₀ cs λe u2 w'=>e= .returned (.tuple #[])/\u2=u'/\S5 g w K w') e a ({c₀ with mode:=u'}::cs) w':=by
  rintro Q ⟨a,w',u2,he,_⟩;cases he
 refine UH BE (hw _) (hr _ _) (hu c₀ cs hcu) (hlet λ_ _ _ _=>True) ?_;have hput:=DM.put (dst:=some d) (v:= .t rec) hfr (show Cd g w (Co cfg fn caps).loc (.t rec) v from hv);have hput2:=DM.put (dst:=some d2) (v:= .t rec2) hput (show Cd g w (Co cfg fn caps).loc (.t rec2) v2 from hv2);rw[hd];have hs1:(({tmps:=vargs.toArray++Array.replicate (fn.ntmps-vargs.toArray.size) Go.undef,defers:=[]}:Act).put (some d) v).tmps.size=fn.ntmps:=by simp only[Act.put];rw[Array.size_setIfInBounds];exact hsize
 simp only[wpList];rw[if_pos (hw2 _)];refine .inl ?_;unfold Oper.wp;rw[hr2 _ hsize hs1];show wpList P ops _ rest ((({tmps:=vargs.toArray++Array.replicate (fn.ntmps-vargs.toArray.size) Go.undef,defers:=[]}:Act).put (some d) v).put o2.dst v2) w;rw[hd2];refine HW (cfg:=cfg) rest _ st g w _ h hsim hput2 (λa' w' hp=>?_) (λv a w' hp _=>?_)
 ·obtain⟨fr1,st1,g1,q1,q2,q3,q4,q5,q6⟩:=hp
  have hsz:a'.tmps.size=fn.ntmps:=by rw[q6];simp only[Act.put];rw[Array.size_setIfInBounds,Array.size_setIfInBounds];exact hsize
  refine wpS_of_wp (wp_mono (Lp hm C hint _ fr1 st1 g1 w' a' q1 q2 q3 hsz) λe a'' w'' hq=>?_);have done:JX g1 w' a' (λ_ st=>K st) a'' w''->a''.defers=[]/\∃u2,({c₀ with mode:=u'}::cs:List Frame)={c₀ with mode:=u2}::cs/\∃v,(results fn a''.tmps).run P w''= .ok v w''/\(Ending.returned v= .returned (.tuple #[])/\u2=u'/\S5 g w K w''):=by
   rintro⟨fr2,st2,g2,z1,z2,z3,z4,z5,z6⟩;exact⟨by rw[z5,q5];rfl,u',rfl,_,results_none hres _ _ _,rfl,rfl,st2,g2,z1,z2.dropLoc (λj x hx=>by simp at hx),q4.trans z4⟩
  cases e with
  | normal=>exact done hq
  | ret=>exact done hq
  | panic ch=>
   obtain⟨v',_,⟨r,st2,g2,z1,_⟩,_⟩:=hq;exact absurd z1 (hx _ _)
  | _=>
   obtain⟨fr2,st2,g2,z1,_⟩:=hq;exact z1.elim
 ·obtain⟨r,st2,g2,z1,_⟩:=hp
  exact absurd z1 (hx _ _)
noncomputable def JW:Cfg:=⟨[4],[],[],NoE⟩
noncomputable def Qx:Array Oper:=match OC Tryz.f98 with
 | .seq (.region _ ops _) _=>ops
 | _=> #[]
noncomputable def Yb:Code:=match OC Tryz.f98 with
 | .seq (.region _ _ _) c=>c
 | _=> .skip
theorem ZK {b0 b1 b2 b3:Nat} {rec:TV} {a e:Int} {ok:Bool} {st:St} {K:St->Prop}
  (h:BIf ok (stB st (.box b0 0) [.int .i64 0,.str [],.str [],.nilSlice,.str []] λst1=>stB st1 (.box b1 0) [.nilSlice] λst2=>stB st2 (.box b2 0) [.int .i64 a] λst3=>stB st3 (.box b3 0) [.int .i64 e] λst4=>K st4) (K st)):
  LT JW Tryz.prog Qx (λfr st1=>cwp JW Tryz.prog Tryz.f98.ntmps JW.loc.length Yb .none (CQ K) fr st1) (Qx.toList.drop 2)
   ⟨((Co JW Tryz.f98 [.box b0 0,.box b1 0,.box b2 0,.box b3 0]).slots.set 7 (.t rec)).set 8 (.t (.tuple [.agg [.int .i64 a,.int .i64 e],.bool ok])),(Co JW Tryz.f98 [.box b0 0,.box b1 0,.box b2 0,.box b3 0]).loc⟩ st:=by
 have he:LT JW Tryz.prog Qx (λfr st1=>cwp JW Tryz.prog Tryz.f98.ntmps JW.loc.length Yb .none (CQ K) fr st1) (Qx.toList.drop 2)
   ⟨((Co JW Tryz.f98 [.box b0 0,.box b1 0,.box b2 0,.box b3 0]).slots.set 7 (.t rec)).set 8 (.t (.tuple [.agg [.int .i64 a,.int .i64 e],.bool ok])),(Co JW Tryz.f98 [.box b0 0,.box b1 0,.box b2 0,.box b3 0]).loc⟩ st=
   BIf ok (stB st (.box b0 0) [.int .i64 0,.str [],.str [],.nilSlice,.str []] λst1=>stB st1 (.box b1 0) [.nilSlice] λst2=>stB st2 (.box b2 0) [.int .i64 a] λst3=>stB st3 (.box b3 0) [.int .i64 e] λst4=>K st4) (K st):=by kernel_rfl
 rw[he];exact h
section
set_option maxRecDepth 100000
theorem Vx:∃o o2,Qx.toList=o::o2::Qx.toList.drop 2/\o.dst=some 7/\o2.dst=some 8/\(∀x,Region.wanted o x=true)/\(∀x,Region.wanted o2 x=true)/\(∀ρ w,(execOp ρ o).run Tryz.prog w= .ok .recover w)/\
  (∀ρ w,ρ (.tmp 7)= .nilIface->(execOp ρ o2).run Tryz.prog w= .ok (.value (.tuple #[.agg #[.int .i64 0,.int .i64 0],.bool false])) w)/\
  (∀ρ w u,ρ (.tmp 7)= .iface 163 u->(execOp ρ o2).run Tryz.prog w= .ok (.value (.tuple #[u,.bool true])) w):=by
 refine ⟨{ dst := some 7, op := Op.call { callee := Callee.builtin Builtin.recover, args := #[], argTypes := #[] }, type := 20, pos := "table.go:41", after := #[], guard := none },
  { dst := some 8, op := Op.typeAssert (Operand.tmp 7) 20 163 true, type := 164, pos := "table.go:41", after := #[{ on := 0, ground := Ground.data }], guard := none }, by kernel_rfl, rfl, rfl, fun x => rfl, fun x => rfl, fun ρ w => by kernel_rfl, fun ρ w h => ?_, fun ρ w u h => ?_⟩
 ·simp only[execOp]
  rw[h]
  kernel_rfl
 ·simp only[execOp]
  rw[h]
  kernel_rfl
theorem put7 {a:Act} {v:Value} (h:a.tmps.size=Tryz.f98.ntmps):(a.put (some 7) v).eval (.tmp 7)=v:=by
 have h':a.tmps.size=17:=h;simp[Act.put,Act.eval,h']
theorem body98:Tryz.f98.body=some (.seq (.region 0 Qx false) Yb):=by kernel_rfl
theorem c98_idle {b0 b1 b2 b3:Nat} {st:St} {g:Ak} {w:World} {vargs:List Value} (s:Sim g st [] w) (hr:AP g w [.box b0 0,.box b1 0,.box b2 0,.box b3 0] vargs):
  CallsD Tryz.prog 98 vargs.toArray .returning w λe u2 w'=>e= .returned (.tuple #[])/\u2= .returning/\S5 g w (·=st) w':=by
 obtain⟨o,o2,h1,h2,h3,h4,h5,h6,h7,h8⟩:=Vx;have hcI:=ZK (b0:=b0) (b1:=b1) (b2:=b2) (b3:=b3) (rec:= .nilIface) (a:=0) (e:=0) (ok:=false) (st:=st) (K:=(·=st)) (Dc rfl rfl);refine WC (cfg:=JW) (hint:= .none) (rec:= .nilIface) (rec2:= .tuple [.agg [.int .i64 0,.int .i64 0],.bool false]) (v:= .nilIface) (v2:= .tuple #[.agg #[.int .i64 0,.int .i64 0],.bool false]) mixed Tryz.func98 body98 h1 h2 h3 h4 h5 h6 (by kernel_rfl) (Nat.le_of_ble_eq_true (by kernel_rfl)) (λv st h=>h) hcI s hr Rel.nilIface ?_ (λa ha _=>h7 _ _ (put7 ha)) λc cs hc=>?_
 ·refine Rel.tuple _ [.agg #[.int .i64 0,.int .i64 0],.bool false] rfl λi hi=>?_
  match i,hi with
  | 0,_=>exact Rel.agg _ [.int .i64 0,.int .i64 0] rfl λi hi=>(match i,hi with | 0,_=>Rel.int _ _ | 1,_=>Rel.int _ _)
  | 1,_=>exact Rel.bool _
 ·clear hcI h1 h4 h5 h6 h7 h8
  have hcm:({c with mode:= .returning}:Frame)=c:=by cases c;cases hc;rfl
  rw[hcm];unfold recoverD;simp only[hc]
theorem AaL {b0 b1 b2 b3:Nat} {st:St} {K:St->Prop} {p:EP} {g:Ak} {w:World} {vargs:List Value} {v:Value} (s:Sim g st [] w) (hr:AP g w [.box b0 0,.box b1 0,.box b2 0,.box b3 0] vargs) (hv:Rel g w (SI p) v)
  (h:stB st (.box b0 0) [.int .i64 0,.str [],.str [],.nilSlice,.str []] λst1=>stB st1 (.box b1 0) [.nilSlice] λst2=>stB st2 (.box b2 0) [.int .i64 (p.1:Nat)] λst3=>stB st3 (.box b3 0) [.int .i64 p.2] λst4=>K st4):
  CallsD Tryz.prog 98 vargs.toArray (.panicking [{v,recovered:=false}]) w λe u2 w'=>e= .returned (.tuple #[])/\u2= .panicking [{v,recovered:=true}]/\S5 g w K w':=by
 obtain⟨o,o2,h1,h2,h3,h4,h5,h6,h7,h8⟩:=Vx;have hv0:=hv;unfold SI at hv;obtain⟨u,rfl,hu⟩:∃u,v= .iface 163 u/\Rel g w (.agg [.int .i64 (p.1:Nat),.int .i64 p.2]) u:=by
  cases hv with
  | iface t tv u hh=>exact⟨u,rfl,hh⟩
 have hcI:=ZK (b0:=b0) (b1:=b1) (b2:=b2) (b3:=b3) (rec:=SI p) (a:=(p.1:Nat)) (e:=p.2) (ok:=true) (st:=st) (K:=K) (Cq rfl h);refine WC (cfg:=JW) (hint:= .none) (rec:=SI p) (rec2:= .tuple [.agg [.int .i64 (p.1:Nat),.int .i64 p.2],.bool true]) (v:= .iface 163 u) (v2:= .tuple #[u,.bool true]) mixed Tryz.func98 body98 h1 h2 h3 h4 h5 h6 (by kernel_rfl) (Nat.le_of_ble_eq_true (by kernel_rfl)) (λv st h=>h) hcI s hr hv0 ?_ (λa ha _=>h8 _ _ _ (put7 ha)) λc cs hc=>?_
 ·refine Rel.tuple _ [u,.bool true] rfl λi hi=>?_
  match i,hi with
  | 0,_=>exact hu
  | 1,_=>exact Rel.bool _
 ·unfold recoverD
  simp only[hc]
end
def seqs:List Code->Code->Code
 | [],q=>q
 | c::r,q=> .seq c (seqs r q)
def cwpL (cfg:Cfg) (P:Program) (ns nl:Nat) (KN:Fr->St->Prop) (Q:Exit->Fr->St->Prop):List Code->Fr->St->Prop
 | [],fr,st=>KN fr st
 | c::r,fr,st=>cwp cfg P ns nl c .none (Sg (cwpL cfg P ns nl KN Q r) Q) fr st
theorem Mq {P:Program} {cfg:Cfg} {ns nl:Nat} (hm:P.follows .mixedOrders=true) {KN:Fr->St->Prop} {Q:Exit->Fr->St->Prop} {q:Code} {Q':Exit->Act->World->Prop}:∀(cs:List Code) {fr:Fr} {st:St} {g:Ak} {w:World} {a:Act},cwpL cfg P ns nl KN Q cs fr st->Sim g st fr.loc w->DM g w fr a.tmps->a.tmps.size=ns->
  (∀fr' st' g' w' a',KN fr' st'->Sim g' st' fr'.loc w'->DM g' w' fr' a'.tmps->Ext g w g' w'->a'.defers=a.defers->a'.tmps.size=a.tmps.size->q.wp P Q' a' w')->
  (∀e a' w',e≠.normal->JY g w a cfg.exc Q e a' w'->Q' e a' w')->(seqs cs q).wp P Q' a w
 | [],fr,st,g,w,a,h,s,hf,hn,hk,hx=>hk fr st g w a h s hf (Ext.refl _ _) rfl rfl
 | c::r,fr,st,g,w,a,h,s,hf,hn,hk,hx=>by
  refine wp_seq (wp_mono (Lp hm c .none _ fr st g w a h s hf hn) λe a' w' hq=>?_);cases e with
  | normal=>
   obtain⟨fr',st',g',h1,h2,h3,h4,h5⟩:=hq;refine Mq hm r h1 h2 h3 (h5.2.trans hn) (λfr2 st2 g2 w2 a2 z1 z2 z3 z4 z5 z6=>hk fr2 st2 g2 w2 a2 z1 z2 z3 (h4.trans z4) (z5.trans h5.1) (z6.trans h5.2)) λe a2 w2 he hq=>hx e a2 w2 he (hq.ext h4 h5)
  | ret=>exact hx _ _ _ (by simp) hq
  | exit id=>exact hx _ _ _ (by simp) hq
  | goto l=>exact hx _ _ _ (by simp) hq
  | panic ch=>exact hx _ _ _ (by simp) hq
  | outgrown=>exact hx _ _ _ (by simp) hq
section
set_option maxRecDepth 100000
noncomputable def IC:Cfg:=⟨[3],[],[],NoE⟩
noncomputable def cE39 (E:TV->St->Prop):Cfg:=⟨[3],[],[],E⟩
def hdC:Code->Code | .seq a _=>a | _=> .skip
def tlC:Code->Code | .seq _ b=>b | _=> .skip
noncomputable def K0:Code:=OC Tryz.f39
noncomputable def c39:List Code:=[hdC K0,hdC (tlC K0),hdC (tlC (tlC K0)),hdC (tlC (tlC (tlC K0)))]
noncomputable def r8:Code:=hdC (tlC (tlC (tlC (tlC K0))))
noncomputable def r9:Code:=hdC (tlC (tlC (tlC (tlC (tlC K0)))))
noncomputable def r10:Code:=hdC (tlC (tlC (tlC (tlC (tlC (tlC K0))))))
noncomputable def e39:Code:=tlC (tlC (tlC (tlC (tlC (tlC (tlC K0))))))
noncomputable def opsOf:Code->Array Oper | .region _ ops _=>ops | _=> #[]
noncomputable def RS:Array Oper:=opsOf r8
noncomputable def JT:Array Oper:=opsOf r10
theorem b39_eq:Tryz.f39.body=some (seqs c39 (.seq r8 (.seq r9 (.seq r10 e39)))):=by kernel_rfl
theorem r8_eq:r8= .region 8 RS false:=by kernel_rfl
theorem r10_eq:r10= .region 10 JT false:=by kernel_rfl
def MI (fr:Fr) (F:Nat->Nat->Nat->Nat->Prop):Prop:=match fr.slots.f 4,fr.slots.f 5,fr.slots.f 6,fr.slots.f 7 with
 | .t (.box a 0),.t (.box b 0),.t (.box c 0),.t (.box d 0)=>F a b c d
 | _,_,_,_=>False
def QA (RA:Nat->Nat->Nat->Nat->St->Prop):Exit->Fr->St->Prop
 | .normal,fr,st=>MI fr λa b c d=>RA a b c d st
 | .ret,fr,st=>MI fr λa b c d=>RA a b c d st
 | _,_,_=>False
def eq4P (x4 x5 x6 x7:SV) (a b c d:Nat):Prop:=x4= .t (.box a 0)/\x5= .t (.box b 0)/\x6= .t (.box c 0)/\x7= .t (.box d 0)
def kC (E:Nat->Nat->Nat->Nat->TV->St->Prop) (FA:Nat->Nat->Nat->Nat->St->Prop) (P:Program) (ops:Array Oper) (ns:Nat) (e:Code) (a b c0 d:Nat):List Oper->Fr->St->Prop
 | m::c::rest,fr,st=>FO IC P m.dst m.type m.op (opS fr.slots) fr.loc st λv loc' st'=>eq4P ((BA fr.slots m.dst v).f 4) ((BA fr.slots m.dst v).f 5) ((BA fr.slots m.dst v).f 6) ((BA fr.slots m.dst v).f 7) a b c0 d/\
   FO (cE39 (E a b c0 d)) P c.dst c.type c.op (opS (BA fr.slots m.dst v)) loc' st' λv2 loc2 st2=>
    LT IC P ops (λfr st=>cwp IC P ns IC.loc.length e .none (QA FA) fr st) rest ⟨BA (BA fr.slots m.dst v) c.dst v2,loc2⟩ st2
 | _,_,_=>False
def kM (M:Nat->Nat->Nat->Nat->(St->Prop)->St->Prop) (P:Program) (ns:Nat) (k:Nat->Nat->Nat->Nat->Fr->St->Prop) (FA:Nat->Nat->Nat->Nat->St->Prop) (r:Code) (fr:Fr) (st:St):Prop:=
 MI fr λa b c d=>M a b c d (λst'=>cwpL IC P ns IC.loc.length (k a b c d) (QA FA) [r] ⟨BA fr.slots (some 26) (.t (.func 98 [.box a 0,.box b 0,.box c 0,.box d 0])),fr.loc⟩ st') st
def Ui (M:Nat->Nat->Nat->Nat->(St->Prop)->St->Prop) (RA FA:Nat->Nat->Nat->Nat->St->Prop) (E:Nat->Nat->Nat->Nat->TV->St->Prop) (src:B8) (l_0 l_1 l_2 l_3 l_4:Int) (q0 q1 q2 q3:Nat) (st0:St):Prop:=
 CallT PR Hx [(.agg [(.int .i64 l_0),(.int .i64 l_1),(.int .i64 l_2),(.int .i64 l_3),(.int .i64 l_4)])] [.one (.bool)] st0 (λ(b1:Bool) (st1:St)=>BIf (!b1) (stB st1 (.box q0 0) [(.int .i64 (0:Int)),(.str ([]:B8)),(.str ([]:B8)),.nilSlice,(.str ([]:B8))] (λ(st2:St)=>stB st2 (.box q1 0) [.nilSlice] (λ(st3:St)=>stB st3 (.box q2 0) [(.int .i64 (0:Int))] (λ(st4:St)=>stB st4 (.box q3 0) [(.int .i64 (1:Int))] (λ(st5:St)=>RA q0 q1 q2 q3 st5))))) (BIf (decide (l_2<((src).length:Int))) (stB st1 (.box q0 0) [(.int .i64 (0:Int)),(.str ([]:B8)),(.str ([]:B8)),.nilSlice,(.str ([]:B8))] (λ(st6:St)=>stB st6 (.box q1 0) [.nilSlice] (λ(st7:St)=>stB st7 (.box q2 0) [(.int .i64 (0:Int))] (λ(st8:St)=>stB st8 (.box q3 0) [(.int .i64 (10:Int))] (λ(st9:St)=>RA q0 q1 q2 q3 st9))))) (CallT PR JD [(.str src)] [.one (.int .i64)] st1 (λ(n1:Int) (st10:St)=>BIf (decide ((0:Int)<=n1)) (stB st10 (.box q0 0) [(.int .i64 (0:Int)),(.str ([]:B8)),(.str ([]:B8)),.nilSlice,(.str ([]:B8))] (λ(st11:St)=>stB st11 (.box q1 0) [.nilSlice] (λ(st12:St)=>stB st12 (.box q2 0) [(.int .i64 n1)] (λ(st13:St)=>stB st13 (.box q3 0) [(.int .i64 (5:Int))] (λ(st14:St)=>RA q0 q1 q2 q3 st14))))) (M q0 q1 q2 q3 (λ(st15:St)=>eq4P (.t (.box q0 0)) (.t (.box q1 0)) (.t (.box q2 0)) (.t (.box q3 0)) q0 q1 q2 q3/\Bz (E q0 q1 q2 q3) PR Do [(.box st15.nb 0)] [.agg [.int .i64,.str,.str,.tv,.str]] (st15.push (.cells [(.str src),(.int .i64 l_0),(.int .i64 l_1),(.int .i64 l_2),(.int .i64 l_3),(.int .i64 l_4),(.int .i64 (0:Int)),(.int .i64 (0:Int)),(.int .i64 (0:Int)),.nilPtr,.nilPtr,.nilSlice,.nilSlice]) (some 170)) (λ(n2:Int) (s1:B8) (s2:B8) (v1:TV) (s3:B8) (st16:St)=>need (List.all [(.int .i64 n2),(.str s1),(.str s2),v1,(.str s3)] Av) (stB st16 (.box q0 0) [(.int .i64 n2),(.str s1),(.str s2),v1,(.str s3)] (λ(st17:St)=>AS ((AE st17 [] (.t (.box q0 0)) 0 5).map TV.agg) (λ(x1:TV)=>R4 [.int .i64,.str,.str,.tv,.str] x1 (λ(n3:Int) (s4:B8) (s5:B8) (v2:TV) (s6:B8)=>((AS (Af st17 [] (.t (.box st15.nb 11)) 0) (λ(v3:TV)=>need (List.all [(.int .i64 n3),(.str s4),(.str s5),v2,(.str s6)] Av) (stB st17 (.box q0 0) [(.int .i64 n3),(.str s4),(.str s5),v2,(.str s6)] (λ(st18:St)=>need (List.all [v3] Av) (stB st18 (.box q1 0) [v3] (λ(st19:St)=>stB st19 (.box q2 0) [(.int .i64 (0:Int))] (λ(st20:St)=>stB st20 (.box q3 0) [(.int .i64 (0:Int))] (λ(st21:St)=>FA q0 q1 q2 q3 st21))))))))/\(need (List.all [(.int .i64 n3),(.str s4),(.str s5),v2,(.str s6)] Av) (stB st17 (.box q0 0) [(.int .i64 n3),(.str s4),(.str s5),v2,(.str s6)] (λ(st22:St)=>AS (Af st22 [] (.t (.box st15.nb 11)) 0) (λ(v4:TV)=>need (List.all [v4] Av) (stB st22 (.box q1 0) [v4] (λ(st23:St)=>stB st23 (.box q2 0) [(.int .i64 (0:Int))] (λ(st24:St)=>stB st24 (.box q3 0) [(.int .i64 (0:Int))] (λ(st25:St)=>FA q0 q1 q2 q3 st25))))))))))))))) st10)))))
theorem c39_cond {M:Nat->Nat->Nat->Nat->(St->Prop)->St->Prop} {RA FA:Nat->Nat->Nat->Nat->St->Prop} {E:Nat->Nat->Nat->Nat->TV->St->Prop} {src:B8} {l_0 l_1 l_2 l_3 l_4:Int} {st:St}
  (h:Ui M RA FA E src l_0 l_1 l_2 l_3 l_4 st.nb (st.nb+1) (st.nb+1+1) (st.nb+1+1+1) ((((st.push (.cells [(.int .i64 (0:Int)),(.str ([]:B8)),(.str ([]:B8)),.nilSlice,(.str ([]:B8))]) (some 43)).push (.cells [.nilSlice]) (some 57)).push (.cells [(.int .i64 (0:Int))]) (some 3)).push (.cells [(.int .i64 (0:Int))]) (some 34))):
  cwpL IC Tryz.prog Tryz.f39.ntmps IC.loc.length (kM M Tryz.prog Tryz.f39.ntmps (λa b c d=>kC E FA Tryz.prog JT Tryz.f39.ntmps e39 a b c d JT.toList) FA r9) (QA RA) c39 (Co IC Tryz.f39 [.str src,.agg [.int .i64 l_0,.int .i64 l_1,.int .i64 l_2,.int .i64 l_3,.int .i64 l_4]]) st:=by
 have he:cwpL IC Tryz.prog Tryz.f39.ntmps IC.loc.length (kM M Tryz.prog Tryz.f39.ntmps (λa b c d=>kC E FA Tryz.prog JT Tryz.f39.ntmps e39 a b c d JT.toList) FA r9) (QA RA) c39 (Co IC Tryz.f39 [.str src,.agg [.int .i64 l_0,.int .i64 l_1,.int .i64 l_2,.int .i64 l_3,.int .i64 l_4]]) st=
  Ui M RA FA E src l_0 l_1 l_2 l_3 l_4 st.nb (st.nb+1) (st.nb+1+1) (st.nb+1+1+1) ((((st.push (.cells [(.int .i64 (0:Int)),(.str ([]:B8)),(.str ([]:B8)),.nilSlice,(.str ([]:B8))]) (some 43)).push (.cells [.nilSlice]) (some 57)).push (.cells [(.int .i64 (0:Int))]) (some 3)).push (.cells [(.int .i64 (0:Int))]) (some 34)):=by kernel_rfl
 rw[he];exact h
end
section
set_option maxRecDepth 100000
abbrev Sh39:List RTy:=[.agg [.int .i64,.str,.str,.tv,.str],.one .tv,.one (.int .i64),.one (.int .i64)]
def JS (R:TV->St->Prop) (a b c d:Nat) (st:St):Prop:=
 AS ((AE st [] (.t (.box a 0)) 0 5).map TV.agg) λv0=>AS (Af st [] (.t (.box b 0)) 0) λv1=>AS (Af st [] (.t (.box c 0)) 0) λv2=>AS (Af st [] (.t (.box d 0)) 0) λv3=>R (.tuple [v0,v1,v2,v3]) st
theorem MH {fr:Fr} {F:Nat->Nat->Nat->Nat->Prop} (h:MI fr F):∃a b c d,fr.slots.f 4= .t (.box a 0)/\fr.slots.f 5= .t (.box b 0)/\fr.slots.f 6= .t (.box c 0)/\fr.slots.f 7= .t (.box d 0)/\F a b c d:=by
 unfold MI at h;split at h
 ·rename_i a b c d h1 h2 h3 h4
  exact⟨a,b,c,d,h1,h2,h3,h4,h⟩
 ·exact h.elim
theorem Aaf {fr:Fr} {st:St} {k:List TV->Prop}:Js Tryz.prog fr st Tryz.f39.results.toList k=
  AS ((AE st fr.loc (fr.slots.f 4) 0 5).map TV.agg) λv0=>AS (Af st fr.loc (fr.slots.f 5) 0) λv1=>AS (Af st fr.loc (fr.slots.f 6) 0) λv2=>AS (Af st fr.loc (fr.slots.f 7) 0) λv3=>k [v0,v1,v2,v3]:=by kernel_rfl
def Rt (g:Ak) (w:World) (R:TV->St->Prop) (e:Ending) (w':World):Prop:=
 (∃v,e= .returned v/\∃r st' g',R r st'/\Sim g' st' [] w'/\Rel g' w' r v/\Ext g w g' w')∨∃v,e= .panicked [{v,recovered:=false}]/\Du g w NoE v w'
theorem Od {g g':Ak} {w w':World} {R:TV->St->Prop} {fr:Fr} {st:St} {tmps:Array Value} {a b c d:Nat} (s:Sim g' st fr.loc w') (hf:DM g' w' fr tmps) (e:Ext g w g' w') (h4:fr.slots.f 4= .t (.box a 0)) (h5:fr.slots.f 5= .t (.box b 0)) (h6:fr.slots.f 6= .t (.box c 0)) (h7:fr.slots.f 7= .t (.box d 0)) (h:JS R a b c d st):
  ∃v,(results Tryz.f39 tmps).run Tryz.prog w'= .ok v w'/\Rt g w R (.returned v) w':=by
 have hk:Js Tryz.prog fr st Tryz.f39.results.toList λvs=>R (ZZ vs) st:=by
  rw[Aaf,h4,h5,h6,h7,Gm st fr.loc [],FU st fr.loc [],FU st fr.loc [],FU st fr.loc []];exact h
 obtain⟨vs,hvs,hR⟩:=Ip hk;obtain⟨u,hu,hrel⟩:=Ql (fn:=Tryz.f39) s hf (by unfold resT;rw[hvs];rfl);exact⟨u,hu,.inl ⟨u,rfl,_,st,g',hR,s.dropLoc (λj x hx=>by simp at hx),hrel,e⟩⟩
def Zq (R:TV->St->Prop) (a b c d:Nat) (v:TV) (st:St):Prop:=∃p:EP,v=SI p/\
 stB st (.box a 0) [.int .i64 0,.str [],.str [],.nilSlice,.str []] λst1=>stB st1 (.box b 0) [.nilSlice] λst2=>stB st2 (.box c 0) [.int .i64 (p.1:Nat)] λst3=>stB st3 (.box d 0) [.int .i64 p.2] λst4=>JS R a b c d st4
theorem OH {ops:Array Oper} {slots:Be} {o:Oper} (h:o.guard=none):DX ops slots o.guard=some true:=by rw[h];rfl
theorem ops8_eq:∃o1 o2,RS.toList=[o1,o2]/\o1.guard=none/\o2.guard=none/\o1.dst=some 26/\o2.dst=none/\
  (∀(fr:Fr) (st:St) (a b c d:Nat) (K:SV->List (Option (List TV))->St->Prop),fr.slots.f 4= .t (.box a 0)->fr.slots.f 5= .t (.box b 0)->fr.slots.f 6= .t (.box c 0)->fr.slots.f 7= .t (.box d 0)->K (.t (.func 98 [.box a 0,.box b 0,.box c 0,.box d 0])) fr.loc st->FO IC Tryz.prog o1.dst o1.type o1.op (opS fr.slots) fr.loc st K)/\
  (∀ρ w vs,ρ (.tmp 26)= .func (.func 98) #[] vs->(execOp ρ o2).run Tryz.prog w= .ok (.defer {target:= .fn (.func 98) vs,args:= #[]}) w):=by
 refine ⟨RS.toList.getD 0 { dst := none, op := .move (.tmp 0), type := 0, pos := "", after := #[], guard := none }, RS.toList.getD 1 { dst := none, op := .move (.tmp 0), type := 0, pos := "", after := #[], guard := none }, by kernel_rfl, by kernel_rfl, by kernel_rfl, by kernel_rfl, by kernel_rfl, fun fr st a b c d K h4 h5 h6 h7 hK => ?_, fun ρ w vs h => ?_⟩
 ·have he : ∀ ρ : Operand -> SV, FO IC Tryz.prog (RS.toList.getD 0 { dst := none, op := .move (.tmp 0), type := 0, pos := "", after := #[], guard := none }).dst (RS.toList.getD 0 { dst := none, op := .move (.tmp 0), type := 0, pos := "", after := #[], guard := none }).type (RS.toList.getD 0 { dst := none, op := .move (.tmp 0), type := 0, pos := "", after := #[], guard := none }).op ρ fr.loc st K =
    K (.t (.func 98 [(ρ (.tmp 4)).tv,(ρ (.tmp 5)).tv,(ρ (.tmp 6)).tv,(ρ (.tmp 7)).tv])) fr.loc st:=λρ=>by kernel_rfl
  rw[he];simp only[opS,h4,h5,h6,h7,SV.tv];exact hK
 ·have he : (execOp ρ (RS.toList.getD 1 { dst := none, op := .move (.tmp 0), type := 0, pos := "", after := #[], guard := none })).run Tryz.prog w = (do pure (.defer (<- Deferred.ofValue (ρ (.tmp 26)) #[])) : Sem Next).run Tryz.prog w := by kernel_rfl
  rw[he,h];rfl
theorem ops10_eq:∃m c r,JT.toList=m::c::r/\m.guard=none/\c.guard=none:=by
 refine ⟨JT.toList.getD 0 { dst := none, op := .move (.tmp 0), type := 0, pos := "", after := #[], guard := none }, JT.toList.getD 1 { dst := none, op := .move (.tmp 0), type := 0, pos := "", after := #[], guard := none }, JT.toList.drop 2, by kernel_rfl, by kernel_rfl, by kernel_rfl⟩
def frB (n a b c d:Nat):Fr:=⟨⟨n,λi=>if i=4 then .t (.box a 0)else if i=5 then .t (.box b 0)else if i=6 then .t (.box c 0)else if i=7 then .t (.box d 0)else .t .junk⟩,[]⟩
theorem DM.b4 {g:Ak} {w:World} {fr:Fr} {tmps:Array Value} {a b c d:Nat} (f:DM g w fr tmps) (h4:fr.slots.f 4= .t (.box a 0)) (h5:fr.slots.f 5= .t (.box b 0)) (h6:fr.slots.f 6= .t (.box c 0)) (h7:fr.slots.f 7= .t (.box d 0)):DM g w (frB fr.slots.n a b c d) tmps:=by
 refine⟨f.1,λi=>?_⟩;have hi:=f.2 i;have up:∀(v:TV) (u:Value),Cd g w fr.loc (.t v) u->Cd g w [] (.t v) u:=λv u h=>h;show Cd g w [] (if i=4 then .t (.box a 0)else if i=5 then .t (.box b 0)else if i=6 then .t (.box c 0)else if i=7 then .t (.box d 0)else .t .junk) _;split
 ·rename_i e;subst e;rw[h4]at hi;exact up _ _ hi
 split
 ·rename_i e;subst e;rw[h5]at hi;exact up _ _ hi
 split
 ·rename_i e;subst e;rw[h6]at hi;exact up _ _ hi
 split
 ·rename_i e;subst e;rw[h7]at hi;exact up _ _ hi
 ·exact Rel.junk _
theorem QQ {g g':Ak}:Ce g [] g' []:=λi x h=>by simp at h
def dfr (vs:Array Value):Deferred:={target:= .fn (.func 98) vs,args:= #[]}
theorem inv98 (vs:Array Value) (w:World):(invoke (.fn (.func 98) vs) #[]).run Tryz.prog w= .ok (.enter 98 vs) w:=by
 show(callFunc 98 (#[]++vs)).run Tryz.prog w=_;rw[Array.empty_append];exact Tryz.call98 _ _
theorem XB {g g0 g':Ak} {w w0 w':World} {R:TV->St->Prop} {fr:Fr} {st:St} {a:Act} {b0 b1 b2 b3:Nat} {vs:List Value} (hd:a.defers=[dfr vs.toArray]) (hv:AP g0 w0 [.box b0 0,.box b1 0,.box b2 0,.box b3 0] vs) (e0:Ext g0 w0 g' w') (e:Ext g w g' w')
  (s:Sim g' st fr.loc w') (f:DM g' w' fr a.tmps) (h:MI fr λa b c d=>JS R a b c d st):Leaves Tryz.prog Tryz.f39 a.tmps (Rt g w R) a.defers .returning w':=by
 obtain⟨q0,q1,q2,q3,h4,h5,h6,h7,hr⟩:=MH h;rw[hd];refine leaves_cons (by simp) (inv98 _ _) (CallsD.mono (c98_idle (st:=st) (s.dropLoc (λj x hx=>by simp at hx)) (hv.ext e0)) ?_);rintro e1 u2 w2 ⟨rfl,rfl,st2,g2,rfl,s2,e2⟩;exact Od s2 ((f.b4 h4 h5 h6 h7).keep e2 QQ) (e.trans e2) rfl rfl rfl rfl hr
theorem VN {g g0 g1:Ak} {w w0 w1 w':World} {R:TV->St->Prop} {fr:Fr} {a:Act} {b0 b1 b2 b3:Nat} {vs:List Value} {v:Value} (hd:a.defers=[dfr vs.toArray]) (hv:AP g0 w0 [.box b0 0,.box b1 0,.box b2 0,.box b3 0] vs) (e0:Ext g0 w0 g1 w1) (e:Ext g w g1 w1)
  (f:DM g1 w1 fr a.tmps) (h:eq4P (fr.slots.f 4) (fr.slots.f 5) (fr.slots.f 6) (fr.slots.f 7) b0 b1 b2 b3) (hx:Du g1 w1 (Zq R b0 b1 b2 b3) v w'):Leaves Tryz.prog Tryz.f39 a.tmps (Rt g w R) a.defers (.panicking [{v,recovered:=false}]) w':=by
 obtain⟨h4,h5,h6,h7⟩:=h;obtain⟨r,st',g',⟨p,rfl,hp⟩,s',hrel,e1⟩:=hx;rw[hd];refine leaves_cons (by simp) (inv98 _ _) (CallsD.mono (AaL (K:=JS R b0 b1 b2 b3) s' (hv.ext (e0.trans e1)) hrel hp) ?_);rintro e2 u2 w2 ⟨rfl,rfl,st2,g2,hK,s2,e2'⟩;exact Od s2 ((((f.b4 h4 h5 h6 h7).keep e1 QQ)).keep e2' QQ) ((e.trans e1).trans e2') rfl rfl rfl rfl hK
theorem Vw {R:TV->St->Prop} {src:B8} {l_0 l_1 l_2 l_3 l_4:Int} {st:St}
  (h:Ui (λ_ _ _ _ k st=>k st) (JS R) (JS R) (Zq R) src l_0 l_1 l_2 l_3 l_4 st.nb (st.nb+1) (st.nb+1+1) (st.nb+1+1+1) ((((st.push (.cells [(.int .i64 (0:Int)),(.str ([]:B8)),(.str ([]:B8)),.nilSlice,(.str ([]:B8))]) (some 43)).push (.cells [.nilSlice]) (some 57)).push (.cells [(.int .i64 (0:Int))]) (some 3)).push (.cells [(.int .i64 (0:Int))]) (some 34))):
  Cx NoE Tryz.prog 39 [.str src,.agg [.int .i64 l_0,.int .i64 l_1,.int .i64 l_2,.int .i64 l_3,.int .i64 l_4]] st R:=by
 have h0:=c39_cond h;refine LP (λvs w=>Tryz.call39 vs w) λg w vargs s hr=>?_;refine calls_of_wp_defers (R:=Rt g w R) Tryz.func39 b39_eq ?_;obtain⟨hsim,hfr,hsize⟩:=VV (cfg:=IC) (fn:=Tryz.f39) s hr (Nat.le_of_ble_eq_true (by kernel_rfl));refine Mq mixed c39 h0 hsim hfr hsize (λfr st1 g1 w1 a1 hk s1 f1 e1 d1 z1=>?_) (λe a' w' hne hq=>?_)
 ·clear h0
  obtain⟨b0,b1,b2,b3,q4,q5,q6,q7,hk⟩:=MH hk;obtain⟨o1,o2,e8,g1',g2',d1',d2',m1,m2⟩:=ops8_eq;refine wp_seq ?_;rw[r8_eq];refine wp_region_list ?_;rw[e8];have hn1:fr.slots.n=39:=f1.1.trans (z1.trans hsize);refine wpList_step λnext hnext=>?_
  refine Jo (cfg:=IC) (K:=λfr2 st2=>fr2=⟨BA fr.slots (some 26) (.t (.func 98 [.box b0 0,.box b1 0,.box b2 0,.box b3 0])),fr.loc⟩/\st2=st1) RS o1 (OH g1') (IT (m1 fr st1 b0 b1 b2 b3 _ q4 q5 q6 q7 ⟨by rw[d1'],rfl⟩)) s1 f1 (λa2 w2 hp=>hnext _ _ ?_) XQ.no;obtain⟨_,_,g2,⟨rfl,rfl⟩,s2,f2,e2,dd2,z2⟩:=hp;refine wpList_step λnext2 hnext2=>?_;have hw:Region.wanted o2 (yielded RS a2.tmps)=true:=by simp only[Region.wanted,g2']
  rw[if_pos hw];have h26:=f2.2 26;have hs26:(BA fr.slots (some 26) (.t (.func 98 [.box b0 0,.box b1 0,.box b2 0,.box b3 0]))).f 26= .t (.func 98 [.box b0 0,.box b1 0,.box b2 0,.box b3 0]):=Be.set_eq (by omega);rw[hs26]at h26;obtain⟨vs,hvs,hrl⟩:∃vs:List Value,a2.tmps.getD 26 Go.undef= .func (.func 98) #[] vs.toArray/\AP g2 w2 [.box b0 0,.box b1 0,.box b2 0,.box b3 0] vs:=by
   generalize a2.tmps.getD 26 Go.undef=u at h26;have h26':Rel g2 w2 (.func 98 [.box b0 0,.box b1 0,.box b2 0,.box b3 0]) u:=h26;cases h26' with
   | func f xs vs hl hr=>exact⟨vs,rfl,hl,hr⟩
  unfold Oper.wp;rw[m2 a2.eval w2 vs.toArray hvs];show next2 (({a2 with defers:=dfr vs.toArray::a2.defers}).put o2.dst Go.undef) w2;refine hnext2 _ _ ?_;rw[d2'];have hdd:a2.defers=[]:=dd2.trans d1;show(Code.seq r9 (Code.seq r10 e39)).wp Tryz.prog (bodyPostD Tryz.prog Tryz.f39 (Rt g w R)) {a2 with defers:=dfr vs.toArray::a2.defers} w2;rw[hdd];have e12:=e1.trans e2;have hz2:a2.tmps.size=Tryz.f39.ntmps:=z2.trans (z1.trans hsize);have idle:∀{g3:Ak} {w3:World} {fr3:Fr} {st3:St} {a3:Act},Ext g2 w2 g3 w3->Sim g3 st3 fr3.loc w3->DM g3 w3 fr3 a3.tmps->a3.defers=[dfr vs.toArray]->(MI fr3 λa b c d=>JS R a b c d st3)->Leaves Tryz.prog Tryz.f39 a3.tmps (Rt g w R) a3.defers .returning w3:=
   λe3 s3 f3 d3 h3=>XB d3 hrl e3 (e12.trans e3) s3 f3 h3
  refine Mq mixed [r9] (a:={a2 with defers:=[dfr vs.toArray]}) hk s2 f2 hz2 (λfr3 st3 g3 w3 a3 hk3 s3 f3 e3 d3 z3=>?_) (λe a' w' hne hq=>?_)
  ·obtain⟨m,c,r,e10,gm,gc⟩:=ops10_eq
   rw[e10]at hk3;refine wp_seq ?_;rw[r10_eq];refine wp_region_list ?_;rw[e10];refine wpList_step λnext hnext=>?_
   refine Jo (cfg:=IC) (K:=λfr4 st4=>eq4P (fr4.slots.f 4) (fr4.slots.f 5) (fr4.slots.f 6) (fr4.slots.f 7) b0 b1 b2 b3/\FO (cE39 (Zq R b0 b1 b2 b3)) Tryz.prog c.dst c.type c.op (opS fr4.slots) fr4.loc st4 λv2 loc2 st2=>
    LT IC Tryz.prog JT (λfr st=>cwp IC Tryz.prog Tryz.f39.ntmps IC.loc.length e39 .none (QA (JS R)) fr st) r ⟨BA fr4.slots c.dst v2,loc2⟩ st2) JT m (OH gm) (IT hk3) s3 f3 (λa4 w4 hp=>hnext _ _ ?_) XQ.no
   obtain⟨fr4,st4,g4,⟨hq4,hk4⟩,s4,f4,e4,d4,z4⟩:=hp;have d4':a4.defers=[dfr vs.toArray]:=d4.trans d3;have e24:Ext g2 w2 g4 w4:=e3.trans e4;refine wpList_step λnext3 hnext3=>?_;have hw4:Region.wanted c (yielded JT a4.tmps)=true:=by simp only[Region.wanted,gc]
   rw[if_pos hw4];refine Wc (OK s4 (cfg:=cE39 (Zq R b0 b1 b2 b3)) c (ρc:=a4.eval) (λx _=>Px f4 x) (IT hk4)) (λv w5 hL=>hnext3 _ _ ?_) (λv w5 hX=>?_)
   ·obtain⟨sv,loc5,st5,g5,hK5,s5,hr5,e5,k5⟩:=hL
    have f5:DM g5 w5 ⟨BA fr4.slots c.dst sv,loc5⟩ (a4.put c.dst v).tmps:=by
     have:=(f4.keep e5 k5).put (dst:=c.dst) hr5;cases hd:c.dst with
     | none=>rw[hd]at this;exact this
     | some d=>rw[hd]at this;exact this
    have hp5:(a4.put c.dst v).defers=a4.defers/\(a4.put c.dst v).tmps.size=a4.tmps.size:=by cases c.dst<;>simp[Act.put]
    refine HW (cfg:=IC) r _ st5 g5 w5 _ hK5 s5 f5 (λa6 w6 hp=>?_) XQ.no;obtain⟨fr6,st6,g6,h6,s6,f6,e6,d6,z6⟩:=hp;have hz6:a6.tmps.size=Tryz.f39.ntmps:=z6.trans (hp5.2.trans (z4.trans (z3.trans hz2)));have d6':a6.defers=[dfr vs.toArray]:=d6.trans (hp5.1.trans d4');have e26:=(e24.trans e5).trans e6;refine wp_mono (Lp mixed e39 .none _ fr6 st6 g6 w6 a6 h6 s6 f6 hz6) λe a7 w7 hq=>?_;cases e with
    | normal=>
     obtain⟨fr7,st7,g7,y1,y2,y3,y4,y5,y6⟩:=hq;exact idle (e26.trans y4) y2 y3 (y5.trans d6') y1
    | ret=>
     obtain⟨fr7,st7,g7,y1,y2,y3,y4,y5,y6⟩:=hq;exact idle (e26.trans y4) y2 y3 (y5.trans d6') y1
    | panic ch=>
     obtain⟨v',_,hx,_⟩:=hq;exact(Du.no hx).elim
    | _=>
     obtain⟨fr7,st7,g7,y1,_⟩:=hq;exact y1.elim
   ·exact VN d4' hrl e24 (e12.trans e24) f4 hq4 hX
  ·cases e with
   | normal=>exact absurd rfl hne
   | ret=>
    obtain⟨fr7,st7,g7,y1,y2,y3,y4,y5,y6⟩:=hq;exact idle y4 y2 y3 y5 y1
   | panic ch=>
    obtain⟨v',_,hx,_⟩:=hq;exact(Du.no hx).elim
   | _=>
    obtain⟨fr7,st7,g7,y1,_⟩:=hq;exact y1.elim
 ·cases e with
  | normal=>exact absurd rfl hne
  | ret=>
   obtain⟨fr',st',g',y1,y2,y3,y4,y5,y6⟩:=hq;obtain⟨b0,b1,b2,b3,q4,q5,q6,q7,hk⟩:=MH y1;show Leaves Tryz.prog Tryz.f39 a'.tmps (Rt g w R) a'.defers .returning w';rw[show a'.defers=[]from y5];exact Od y2 y3 y4 q4 q5 q6 q7 hk
  | panic ch=>
   obtain⟨v',_,hx,_⟩:=hq;exact(Du.no hx).elim
  | _=>
   obtain⟨fr7,st7,g7,y1,_⟩:=hq;exact y1.elim
end
section
theorem M9 {st st':St} {cs cs':List TV} (h:Bg st st' cs cs'):Dq st st' (.tuple cs) (.tuple cs'):=λg' w' u s hr=>by
 cases hr with
 | tuple _ vs hl hr=>
  have:=h.2 g' w' s vs ⟨hl,hr⟩;exact .tuple cs' vs this.1 this.2
theorem Bg.cons {st st':St} {x x':TV} {a a':List TV} (h:Dq st st' x x') (k:Bg st st' a a'):Bg st st' (x::a) (x'::a'):=(Bg.one h).app k
theorem Si {st st':St}:∀ks:List B8,Bg st st' (ks.map TV.str) (ks.map TV.str)
 | []=>Bg.nil _ _
 | k::r=>Bg.cons (Bt _ _ _) (Si r)
mutual
theorem NdC.setl {st st':St}:∀{n:Nd} {cs:List TV},NdC n cs->Bg st st' cs cs
 | .mk k l t ks tl,cs,h=>by
  unfold NdC at h;obtain⟨v,xs,rfl,h1,h2⟩:=h;exact Bg.cons (Bl _ _ _ _) (Bg.cons (Bt _ _ _) (Bg.cons (Bt _ _ _) (Bg.cons (FQ h1 (Bi.setl h2)) (Bg.cons (Bt _ _ _) (Bg.nil _ _)))))
theorem Bi.setl {st st':St}:∀{ks:List Nd} {xs:List TV},Bi ks xs->Bg st st' xs xs
 | [],xs,h=>by unfold Bi at h;subst h;exact Bg.nil _ _
 | n::r,xs,h=>by
  unfold Bi at h;obtain⟨a,b,rfl,h1,h2⟩:=h;exact(NdC.setl h1).app (Bi.setl h2)
end
theorem TdR.settle {st st':St}:∀{n:Nd} {cs:List TV} {bs:List Nat},TdR st' n cs bs->(∀x,x∈bs->st.nb<=x)->∃cs',NdC n cs'/\Bg st st' cs cs'
 | .mk k l t ks tl,cs,bs,⟨v,xs,h1,h2,h3⟩,hb=>by
  subst h1;have fin:∀{u:TV},Rd 5 u ks.length xs->Dq st st' v u->∃cs',NdC (.mk k l t ks tl) cs'/\Bg st st' [.int .i64 k,.str l,.str t,v,.str tl] cs':=λ{u} g1 g2=>
   ⟨[.int .i64 k,.str l,.str t,u,.str tl],by unfold NdC;exact⟨u,xs,rfl,g1,h2⟩,Bg.cons (Bl _ _ _ _) (Bg.cons (Bt _ _ _) (Bg.cons (Bt _ _ _) (Bg.cons g2 (Bg.cons (Bt _ _ _) (Bg.nil _ _)))))⟩
  rcases h3 with⟨g1,rfl,_⟩ | ⟨_,g1⟩
  ·exact fin g1 (FQ g1 (Bi.setl h2))
  ·obtain⟨u,q1,q2⟩:=g1.settle hb (Bi.setl h2)
   exact fin q1 q2
theorem TsR.settle {st st':St}:∀{ks:List Nd} {xs:List TV} {bs:List Nat},TsR st' ks xs bs->(∀x,x∈bs->st.nb<=x)->∃xs',Bi ks xs'/\Bg st st' xs xs'
 | [],xs,bs,h,hb=>by rw[h.1];exact⟨[],by unfold Bi;rfl,Bg.nil _ _⟩
 | n::r,xs,bs,⟨a,b,p,q,h1,h2,h3,h4⟩,hb=>by
  subst h1 h2;obtain⟨a',g1,g2⟩:=h3.settle λx hx=>hb x (List.mem_append_left _ hx);obtain⟨b',g3,g4⟩:=TsR.settle h4 λx hx=>hb x (List.mem_append_right _ hx);exact⟨a'++b',by unfold Bi;exact⟨a',b',rfl,g1,g3⟩,g2.app g4⟩
theorem DkR.settle {st st':St} {v:TV} {ks:List Nd} {fp:List Nat} (h:DkR st' v ks fp) (hb:∀x,x∈fp->st.nb<=x):∃v' xs',Rd 5 v' ks.length xs'/\Bi ks xs'/\Dq st st' v v':=by
 obtain⟨xs,bs,fs,h1,h2,rfl,_⟩:=h;obtain⟨xs',g1,g2⟩:=h2.settle λx hx=>hb x (List.mem_append_right _ hx);obtain⟨v',q1,q2⟩:=h1.settle (λx hx=>hb x (List.mem_append_left _ hx)) g2;exact⟨v',xs',q1,g1,q2⟩
theorem Fo.setl {st st':St}:∀{l:List Asg} {xs:List TV},Fo l xs->Bg st st' xs xs
 | [],xs,h=>by unfold Fo at h;subst h;exact Bg.nil _ _
 | a::r,xs,h=>by
  unfold Fo at h;obtain⟨c,d,rfl,⟨kv,vc,rfl,h1,h2⟩,h3⟩:=h;rw[List.cons_append,List.cons_append,List.cons_append];exact Bg.cons (Fi _ _ _) (Bg.cons (Fi _ _ _) (Bg.cons (FQ h1 (Si _)) ((VlR.setl h2).app (Fo.setl h3))))
structure B4 (st0:St) (a0 a1 a2 a3 a4 x1 x2 x3:TV) (st:St):Prop where
 e:Ag st0 st
 n:st0.nb+4<=st.nb
 b0:st.box st0.nb= .cells [a0,a1,a2,a3,a4]
 b1:st.box (st0.nb+1)= .cells [x1]
 b2:st.box (st0.nb+1+1)= .cells [x2]
 b3:st.box (st0.nb+1+1+1)= .cells [x3]
variable {st0 st:St} {a0 a1 a2 a3 a4 x1 x2 x3:TV}
def RW (st0:St) (i:Nat):Prop:=st0.nb<=i/\i<st0.nb+4
theorem B4.start (st0:St):B4 st0 (.int .i64 0) (.str []) (.str []) .nilSlice (.str []) .nilSlice (.int .i64 0) (.int .i64 0) ((((st0.push (.cells [(.int .i64 (0:Int)),(.str ([]:B8)),(.str ([]:B8)),.nilSlice,(.str ([]:B8))]) (some 43)).push (.cells [.nilSlice]) (some 57)).push (.cells [(.int .i64 (0:Int))]) (some 3)).push (.cells [(.int .i64 (0:Int))]) (some 34)):=by
 refine⟨((((Ag.refl _).push _ _).push _ _).push _ _).push _ _,Nat.le_refl _,?_,?_,?_,?_⟩
 ·simp only[St.push];rw[if_neg (by omega),if_neg (by omega),if_neg (by omega),if_pos trivial]
 ·simp only[St.push];rw[if_neg (by omega),if_neg (by omega),if_pos trivial]
 ·simp only[St.push];rw[if_neg (by omega),if_pos trivial]
 ·simp only[St.push];rw[if_pos trivial]
theorem B4.ext {st':St} (H:B4 st0 a0 a1 a2 a3 a4 x1 x2 x3 st) (e:Ag st st'):B4 st0 a0 a1 a2 a3 a4 x1 x2 x3 st':=by
 have hn:=H.n;exact⟨H.e.trans e,Nat.le_trans hn e.nb,(e.box _ (by omega)).trans H.b0,(e.box _ (by omega)).trans H.b1,(e.box _ (by omega)).trans H.b2,(e.box _ (by omega)).trans H.b3⟩
theorem GA {st:St} {i j:Nat} {o:JQ} (h:j≠i):(st.put i o).box j=st.box j:=by simp only[St.put];rw[if_neg h]
theorem B4.put0 {c0 c1 c2 c3 c4:TV} {K:St->Prop} (H:B4 st0 a0 a1 a2 a3 a4 x1 x2 x3 st) (hk:∀st',B4 st0 c0 c1 c2 c3 c4 x1 x2 x3 st'->StX (RW st0) st st'->K st'):stB st (.box st0.nb 0) [c0,c1,c2,c3,c4] K:=by
 refine⟨_,H.b0,by simp,hk _ ⟨H.e.put (Nat.le_refl _) _,H.n,Ig _ _ _,?_,?_,?_⟩ (StX.put (show RW st0 st0.nb from⟨Nat.le_refl _,by omega⟩) _)⟩
 ·rw[GA (by omega)];exact H.b1
 ·rw[GA (by omega)];exact H.b2
 ·rw[GA (by omega)];exact H.b3
theorem B4.put1 {c:TV} {K:St->Prop} (H:B4 st0 a0 a1 a2 a3 a4 x1 x2 x3 st) (hk:∀st',B4 st0 a0 a1 a2 a3 a4 c x2 x3 st'->StX (RW st0) st st'->K st'):stB st (.box (st0.nb+1) 0) [c] K:=by
 refine⟨_,H.b1,by simp,hk _ ⟨H.e.put (by omega) _,H.n,?_,Ig _ _ _,?_,?_⟩ (StX.put (show RW st0 (st0.nb+1)from⟨by omega,by omega⟩) _)⟩
 ·rw[GA (by omega)];exact H.b0
 ·rw[GA (by omega)];exact H.b2
 ·rw[GA (by omega)];exact H.b3
theorem B4.put2 {c:TV} {K:St->Prop} (H:B4 st0 a0 a1 a2 a3 a4 x1 x2 x3 st) (hk:∀st',B4 st0 a0 a1 a2 a3 a4 x1 c x3 st'->StX (RW st0) st st'->K st'):stB st (.box (st0.nb+1+1) 0) [c] K:=by
 refine⟨_,H.b2,by simp,hk _ ⟨H.e.put (by omega) _,H.n,?_,?_,Ig _ _ _,?_⟩ (StX.put (show RW st0 (st0.nb+1+1)from⟨by omega,by omega⟩) _)⟩
 ·rw[GA (by omega)];exact H.b0
 ·rw[GA (by omega)];exact H.b1
 ·rw[GA (by omega)];exact H.b3
theorem B4.put3 {c:TV} {K:St->Prop} (H:B4 st0 a0 a1 a2 a3 a4 x1 x2 x3 st) (hk:∀st',B4 st0 a0 a1 a2 a3 a4 x1 x2 c st'->StX (RW st0) st st'->K st'):stB st (.box (st0.nb+1+1+1) 0) [c] K:=by
 refine⟨_,H.b3,by simp,hk _ ⟨H.e.put (by omega) _,H.n,?_,?_,?_,Ig _ _ _⟩ (StX.put (show RW st0 (st0.nb+1+1+1)from⟨by omega,by omega⟩) _)⟩
 ·rw[GA (by omega)];exact H.b0
 ·rw[GA (by omega)];exact H.b1
 ·rw[GA (by omega)];exact H.b2
theorem B4.lds (H:B4 st0 a0 a1 a2 a3 a4 x1 x2 x3 st):(AE st [] (.t (.box st0.nb 0)) 0 5).map TV.agg=some (.agg [a0,a1,a2,a3,a4]):=by
 have h:=H.b0;simp[AE,Af,h]
theorem B4.res {R:TV->St->Prop} (H:B4 st0 a0 a1 a2 a3 a4 x1 x2 x3 st) (h:R (.tuple [.agg [a0,a1,a2,a3,a4],x1,x2,x3]) st):JS R st0.nb (st0.nb+1) (st0.nb+1+1) (st0.nb+1+1+1) st:=
 Ac H.lds (Ac (Ay H.b1 0 rfl) (Ac (Ay H.b2 0 rfl) (Ac (Ay H.b3 0 rfl) h)))
abbrev KP:=Int->B8->B8->TV->B8->TV->Int->Int->St->Prop
def RP (K:KP) (st0:St) (r:TV) (st':St):Prop:=Ag st0 st'/\∃r',Dq st0 st' r r'/\FF Sh39 r' K λp=>p (st'.upto st0)
theorem B4.zero {K:KP} {i e:Int} (H:B4 st0 (.int .i64 0) (.str []) (.str []) .nilSlice (.str []) .nilSlice (.int .i64 i) (.int .i64 e) st) (h:∀st',Ag st0 st'->K 0 [] [] .nilSlice [] .nilSlice i e st'):JS (RP K st0) st0.nb (st0.nb+1) (st0.nb+1+1) (st0.nb+1+1+1) st:=
 H.res ⟨H.e,_,M9 (Bg.cons (Mo (Bg.cons (Bl _ _ _ _) (Bg.cons (Bt _ _ _) (Bg.cons (Bt _ _ _) (Bg.cons (Mn _ _) (Bg.cons (Bt _ _ _) (Bg.nil _ _))))))) (Bg.cons (Mn _ _) (Bg.cons (Bl _ _ _ _) (Bg.cons (Bl _ _ _ _) (Bg.nil _ _))))),h _ (PY H.e)⟩
theorem Zp {K:KP} {i e:Int} {a0 a1 a2 a3 a4 x1 x2 x3:TV} (H:B4 st0 a0 a1 a2 a3 a4 x1 x2 x3 st) (h:∀st',Ag st0 st'->K 0 [] [] .nilSlice [] .nilSlice i e st'):stB st (.box st0.nb 0) [.int .i64 0,.str [],.str [],.nilSlice,.str []] λst1=>stB st1 (.box (st0.nb+1) 0) [.nilSlice] λst2=>stB st2 (.box (st0.nb+1+1) 0) [.int .i64 i] λst3=>stB st3 (.box (st0.nb+1+1+1) 0) [.int .i64 e] λst4=>JS (RP K st0) st0.nb (st0.nb+1) (st0.nb+1+1) (st0.nb+1+1+1) st4:=
 H.put0 λ_ H1 _=>H1.put1 λ_ H2 _=>H2.put2 λ_ H3 _=>H3.put3 λ_ H4 _=>H4.zero h
theorem tbad_ok {s:B8} {st:St} {K:Int->St->Prop} (hl:s.length<=2000000) (hk:K (if Ct s=s.length then-1 else((Ct s:Nat):Int)) st):CallT PR JD [.str s] [.one (.int .i64)] st K:=by
 have hv:=Yy _ s (Nat.le_refl _);refine Tc s st K ⟨λi s' st'=>s=s'/\st=st'/\∃k:Nat,i=(k:Int)/\k<=s.length/\k+Ct (s.drop k)=Ct s,λi _ _=>(s.length-i).toNat,⟨rfl,rfl,0,rfl,by omega,by simp⟩,?_⟩;rintro _ _ _ ⟨rfl,rfl,k,rfl,h1,h2⟩;refine Ab (λg1=>?_) λg1=>?_
 ·have hlen:(s.drop k).length=s.length-k:=by simp
  have hne:s.drop k≠ []:=by
   intro h0;have:=congrArg List.length h0;rw[hlen]at this;simp at this;omega
  refine⟨⟨by omega,by omega⟩,?_⟩;rw[show Int.toNat (k:Int)=k from rfl];refine JH hne λR N hD=>?_;rcases hD with⟨h0,rfl,rfl⟩ | ⟨h0,_,hN,hn,hle,h4⟩
  ·rw[Cv _ h0]at h2
   rw[if_neg (by omega)]at hk;refine Ab (λ_=>Ab (λ_=>?_) λh=>absurd rfl h) λh=>absurd rfl h;rw[show k=Ct s by omega];exact hk
  ·rw[Fe _ h0,List.drop_drop]at h2
   rw[hlen]at hle;have w:i64.wrap ((k:Int)+N)=((k+ul (s.drop k):Nat):Int):=by rw[Ah _ (by omega) (by omega)];omega
   rw[w];refine Ab (λq1=>Ab (λq2=>absurd ⟨q1,q2⟩ hn) λ_=>⟨⟨rfl,rfl,_,rfl,by omega,by omega⟩,by dsimp only;omega⟩) λ_=>⟨⟨rfl,rfl,_,rfl,by omega,by omega⟩,by dsimp only;omega⟩
 ·rw[show s.drop k=[]from List.drop_of_length_le (by omega),MS]at h2
  rw[if_pos (by omega)]at hk;exact hk
set_option maxHeartbeats 1000000 in
theorem parse_ok {s:B8} {L:LmT} {y:Int×Int×Int} {st:St} {K:KP} (hl:s.length<=1000000)
  (h1:lOk L.d L.n y.1 y.2.1 y.2.2=false->∀st',Ag st st'->K 0 [] [] .nilSlice [] .nilSlice 0 1 st')
  (h2:lOk L.d L.n y.1 y.2.1 y.2.2=true->y.1<(s.length:Int)->∀st',Ag st st'->K 0 [] [] .nilSlice [] .nilSlice 0 10 st')
  (h3:lOk L.d L.n y.1 y.2.1 y.2.2=true->¬y.1<(s.length:Int)->Ct s≠s.length->∀st',Ag st st'->K 0 [] [] .nilSlice [] .nilSlice ((Ct s:Nat):Int) 5 st')
  (h4:lOk L.d L.n y.1 y.2.1 y.2.2=true->¬y.1<(s.length:Int)->Ct s=s.length->∀p,CP s L= .error p->∀st',Ag st st'->K 0 [] [] .nilSlice [] .nilSlice ((p.1:Nat):Int) p.2 st')
  (h5:lOk L.d L.n y.1 y.2.1 y.2.2=true->¬y.1<(s.length:Int)->Ct s=s.length->∀kids tl asg z kv av xs ys st',CP s L= .ok (kids,tl,asg,z)->Rd 5 kv kids.length xs->Bi kids xs->Rd 16 av asg.length ys->Fo asg ys->Ag st st'->K 1 [] [] kv tl av 0 0 st'):
  CallT PR KQ [.str s,.agg [.int .i64 L.d,.int .i64 L.n,.int .i64 y.1,.int .i64 y.2.1,.int .i64 y.2.2]] Sh39 st K:=by
 have hB:=B4.start st;refine Cx.settle (Vw (R:=RP K st) ?_);generalize ((((st.push (.cells [(.int .i64 (0:Int)),(.str ([]:B8)),(.str ([]:B8)),.nilSlice,(.str ([]:B8))]) (some 43)).push (.cells [.nilSlice]) (some 57)).push (.cells [(.int .i64 (0:Int))]) (some 3)).push (.cells [(.int .i64 (0:Int))]) (some 34))=st1 at hB⊢;unfold Ui;refine Xw (Ao (λg=>Zp hB (h1 (by simpa using g))) λg=>?_);have g1:lOk L.d L.n y.1 y.2.1 y.2.2=true:=by simpa using g
 refine Ab (λg2=>Zp hB (h2 g1 g2)) λg2=>tbad_ok (by omega) ?_;by_cases hv:Ct s=s.length
 ·rw[if_pos hv]
  refine Dc rfl ⟨⟨rfl,rfl,rfl,rfl⟩,?_⟩;have hd:L.d<=1000:=by
   unfold lOk at g1;simp only[decide_eq_true_eq]at g1;omega
  have hn1:=hB.n;have hP:PSB st1.nb s L y 0 0 0 [.nilPtr,.nilPtr,.nilSlice,.nilSlice] (st1.push (.cells [(.str s),(.int .i64 L.d),(.int .i64 L.n),(.int .i64 y.1),(.int .i64 y.2.1),(.int .i64 y.2.2),(.int .i64 (0:Int)),(.int .i64 (0:Int)),(.int .i64 (0:Int)),.nilPtr,.nilPtr,.nilSlice,.nilSlice]) (some 170)):=
   ⟨by simp[St.push,sbC],by simp[St.push],Nat.le_refl _,Nat.zero_le _⟩
  refine sdoc_ok (st0:=st1) hP ((Ag.refl _).push _ _) (Nat.le_refl _) hl hd (λp hp st2 e2=>?_) λf i l T u asg kv fp x st2 hp I=>?_
  ·exact⟨p,rfl,Zp (hB.ext e2) (h4 g1 g2 hv p hp)⟩
  ·have hB2:=hB.ext I.cc.e0
   obtain⟨ys,o1,o2⟩:=I.cc.ow;have hbx:=I.ps.bx;have hlt:=I.ps.lt;have hkone:Av kv=true:=by
    obtain⟨xs,bs,fs,o1,_⟩:=I.cc.dk;exact o1.one
   have haone:Av asg=true:=o1.rd.one;have hon:List.all [TV.int .i64 1,.str [],.str [],kv,.str (s.drop l)] Av=true:=by simp only[List.all_cons,List.all_nil,hkone];rfl
   have hon1:List.all [asg] Av=true:=by simp only[List.all_cons,List.all_nil,haone];rfl
   have fin:∀st4,B4 st (.int .i64 1) (.str []) (.str []) kv (.str (s.drop l)) asg (.int .i64 0) (.int .i64 0) st4->StX (RW st) st2 st4->JS (RP K st) st.nb (st.nb+1) (st.nb+1+1) (st.nb+1+1+1) st4:=λst4 H4 x4=>by
    have dk4:=I.cc.dk.frame x4 λz hz hin=>by
     have:=I.cc.fn z hz;have h2:=hin.2;omega
    obtain⟨kv',xs',q1,q2,q3⟩:=dk4.settle (st:=st) λz hz=>by
     have:=I.cc.fn z hz;have:=hB.e.nb;omega
    refine H4.res ⟨H4.e,_,M9 (Bg.cons (Mo (Bg.cons (Bl _ _ _ _) (Bg.cons (Bt _ _ _) (Bg.cons (Bt _ _ _) (Bg.cons q3 (Bg.cons (Bt _ _ _) (Bg.nil _ _))))))) (Bg.cons (FQ o1.rd (Fo.setl o2)) (Bg.cons (Bl _ _ _ _) (Bg.cons (Bl _ _ _ _) (Bg.nil _ _))))),?_⟩;exact h5 g1 g2 hv _ _ _ _ _ _ _ _ _ hp q1 q2 o1.rd o2 (PY H4.e)
   refine Aa hon (hB2.put0 λst3 H3 x3=>Ac H3.lds ?_);have hld:∀{st5:St},StX (RW st) st2 st5->Af st5 [] (.t (.box st1.nb 11)) 0=some asg:=λ{st5} x5=>by
    refine Ay (l:=sbC s L y i l x.c [.box T.b 0,.box u.b 0,asg,kv]) ?_ 11 rfl;rw[x5.box _ hlt λh=>by have:=h.2;omega];exact hbx
   refine⟨Ac (hld x3) (Aa hon (H3.put0 λst4 H4 x4=>Aa hon1 (H4.put1 λst5 H5 x5=>H5.put2 λst6 H6 x6=>H6.put3 λst7 H7 x7=>fin st7 H7 ((((x3.trans x4).trans x5).trans x6).trans x7)))),?_⟩;exact Aa hon (H3.put0 λst4 H4 x4=>Ac (hld (x3.trans x4)) (Aa hon1 (H4.put1 λst5 H5 x5=>H5.put2 λst6 H6 x6=>H6.put3 λst7 H7 x7=>fin st7 H7 ((((x3.trans x4).trans x5).trans x6).trans x7))))
 ·rw[if_neg hv]
  exact Cq (by simp) (Zp hB (h3 g1 g2 hv))
end
section
variable {s:B8} {L:LmT} {y1 y2 y3:Int} {ub ul uf cv plv:TV}
theorem Qp {i:Nat} {t:B8} {u:Unit} (hi:i<=s.length) (h:CK s i t= .ok u):i<s.length:=by
 unfold CK at h;cases hs:see s i with
 | error e=>rw[hs]at h;cases h
 | ok p=>exact(CJ hi (KA (p:=(p.1,p.2)) hs)).1
end
section
variable {s:B8} {L:LmT} {y1 y2 y3:Int} {ub ul uf cv plv:TV}
theorem fuel_ge {s:B8}:2*s.length+2<=Ny s:=by unfold Ny;omega
end
section
theorem pv_cn (s:B8) (L:LmT):∀f:Nat,
  (∀d BD i c n x j c',i<=s.length->pvF s L f d BD i c= .ok (n,x,j,c')->i<j/\j<=s.length/\QB n+4*i+3<=4*j)/\
  (∀d l i c ks xs tl j c',i<=s.length->arF s L f d l i c= .ok (ks,xs,tl,j,c')->i<j/\j<=s.length/\MA ks+4*i<=4*j)/\
  (∀d seen BD i c ks xs tl j c',i<=s.length->inF s L f d seen BD i c= .ok (ks,xs,tl,j,c')->i<j/\j<=s.length/\MA ks+4*i<=4*j):=by
 intro f;induction f with
 | zero=>
  refine⟨?_,?_,?_⟩
  ·intro d BD i c n x j c' hi h;rw[pvF]at h;cases h
  ·intro d l i c ks xs tl j c' hi h;rw[arF]at h;cases h
  ·intro d seen BD i c ks xs tl j c' hi h;rw[inF]at h;cases h
 | succ f ih=>
  obtain⟨ihv,iha,ihn⟩:=ih;refine⟨?_,?_,?_⟩
  ·intro d BD i c n x j c' hi h
   rw[pvF]at h;split at h
   ·cases h
   ·rename_i k t hs
    have ht:=Bd hi hs;split at h
    ·split at h
     ·cases h
     ·split at h
      ·cases h
      ·rename_i c1 hb
       have hb:=Fa hb;split at h
       ·cases h
       ·cases h;((try simp only[QB,MA,ent,mrk]);omega)
    ·split at h
     ·split at h
      ·cases h
      ·rename_i c1 hb
       have hb:=Fa hb;split at h
       ·cases h
       ·rename_i ks xs tl j' c2 ha
        cases h;have:=iha _ _ _ _ _ _ _ _ _ (by omega) ha
        ((try simp only[QB,MA,ent,mrk]);omega)
     ·split at h
      ·split at h
       ·cases h
       ·rename_i c1 hb
        have hb:=Fa hb;split at h
        ·cases h
        ·rename_i i1 hk
         have hk:=Bo (by omega) hk;split at h
         ·cases h
         ·rename_i k1 t1 hs1
          have ht1:=Bd (by omega) hs1;split at h
          ·cases h;((try simp only[QB,MA,ent,mrk]);omega)
          ·split at h
           ·cases h
           ·rename_i ks xs tl j' c2 ha
            cases h;have:=ihn _ _ _ _ _ _ _ _ _ _ (by omega) ha
            ((try simp only[QB,MA,ent,mrk]);omega)
      ·cases h
  ·intro d l i c ks xs tl j c' hi h
   rw[arF]at h;split at h
   ·cases h
   ·rename_i i1 hk
    have hk:=Bo hi hk;split at h
    ·cases h
    ·rename_i k1 t1 hs1
     have ht1:=Bd (by omega) hs1;split at h
     ·cases h;((try simp only[QB,MA,ent,mrk]);omega)
     ·split at h
      ·cases h
      ·rename_i n x i2 c2 hv
       have hv:=ihv _ _ _ _ _ _ _ _ (by omega) hv;split at h
       ·cases h
       ·rename_i i3 hk3
        have hk3:=Bo (by omega) hk3;split at h
        ·cases h
        ·rename_i k3 t3 hs3
         have ht3:=Bd (by omega) hs3;split at h
         ·split at h
          ·cases h
          ·rename_i ks xs r ha
           obtain⟨tl',j',c3⟩:=r;cases h;have:=iha _ _ _ _ _ _ _ _ _ (by omega) ha
           ((try simp only[QB,MA,ent,mrk]);omega)
         ·split at h
          ·cases h
          ·split at h
           ·cases h
           ·rename_i ks xs r ha
            obtain⟨tl',j',c3⟩:=r;cases h;have:=iha _ _ _ _ _ _ _ _ _ (by omega) ha
            ((try simp only[QB,MA,ent,mrk]);omega)
  ·intro d seen BD i c ks xs tl j c' hi h
   rw[inF]at h;split at h
   ·cases h
   ·rename_i k t hs
    have ht:=Bd hi hs;split at h
    ·cases h
    ·rename_i key hkey
     split at h
     ·cases h
     ·split at h
      ·cases h
      ·split at h
       ·cases h
       ·rename_i i3 hk3
        have hk3:=Bo (by omega) hk3;split at h
        ·cases h
        ·rename_i u hp
         have hp:=FS (by omega) hp;simp only[List.length_singleton]at hp;split at h
         ·cases h
         ·rename_i i5 hk5
          have hk5:=Bo (by omega) hk5;split at h
          ·cases h
          ·rename_i n x i6 c2 hv
           have hv:=ihv _ _ _ _ _ _ _ _ (by omega) hv;split at h
           ·cases h
           ·rename_i i7 hk7
            have hk7:=Bo (by omega) hk7;split at h
            ·cases h
            ·rename_i k7 t7 hs7
             have ht7:=Bd (by omega) hs7;split at h
             ·cases h;((try simp only[QB,MA,ent,mrk]);omega)
             ·split at h
              ·cases h
              ·rename_i hn7
               have h77:t7=[44]:=Decidable.byContradiction λh=>hn7 (.inr h);subst h77;simp only[List.length_singleton]at ht7;split at h
               ·cases h
               ·rename_i i9 hk9
                have hk9:=Bo (by omega) hk9;split at h
                ·cases h
                ·rename_i ks xs r ha
                 obtain⟨tl',j',c3⟩:=r;cases h;have:=ihn _ _ _ _ _ _ _ _ _ _ (by omega) ha
                 ((try simp only[QB,MA,ent,mrk]);omega)
variable {s:B8} {L:LmT}
end
section
theorem appK_nb {T:Nat} {st0 st:St} {v:TV} {l ys:B8} {K:TV->St->Prop} (e:Ag st0 st) (h:JP st0.nt st v l) (hby:l.length+ys.length<=140737488355328)
  (hK:∀v' st',Ag st0 st'->st'.box=st.box->st'.nb=st.nb->JP st0.nt st' v' (l++ys)->K v' st'):Bn T 1 1 v ys.length (AV ys) st K:=by
 unfold JP at h hK;have hln:∀(m:Nat),(AV l++AV ys)=AV (l++ys):=λ_=>by rw[L6]
 rcases h with⟨rfl,h1,h2⟩ | ⟨tip,rfl,ht⟩
 ·obtain rfl:l=[]:=List.eq_nil_of_length_eq_zero h1
  simp only[Bn];cases ys with
  | nil=>exact hK _ _ e rfl rfl (.nil _ _ _)
  | cons c r=>
   simp only[List.length_cons,Al];refine⟨by simpa using hby,hK _ _ (e.fresh _) rfl rfl ?_⟩;simp only[List.nil_append,List.length_cons];exact Own.fresh _ _ e.nt
 ·simp only[Bn,Nat.beq_refl,Nat.mul_one]
  refine⟨hby,?_⟩;rw[hln 0];rcases ht with rfl | ⟨id,rfl,h1,h2,h3⟩
  ·cases ys with
   | nil=>simp only[List.append_nil]at hK⊢;exact hK _ _ e rfl rfl (Own.full _ _ _ _ _)
   | cons c r=>exact hK _ _ (e.fresh _) rfl rfl (by rw[List.length_append];exact Own.fresh _ _ e.nt)
  ·exact⟨h3,hK _ _ ((e.retire h1).fresh _) rfl rfl (by rw[List.length_append];exact Own.fresh (st:=st.retire id) _ _ e.nt)⟩
abbrev WS:=B8×Bool
def G3 (x:WS) (s:B8):WS:=if x.2=true then x else if 1048576<x.1.length+s.length then(x.1,true)else(x.1++s,false)
theorem S0 (ls:List B8) {x:WS} (h:x.2=true):ls.foldl G3 x=x:=by
 induction ls with
 | nil=>rfl
 | cons s r ih=>rw[List.foldl_cons,show G3 x s=x from if_pos h];exact ih
def Wb (st0:St) (w:Nat) (tl:List TV) (st:St) (x:WS):Prop:=
 Ag st0 st/\st0.nb<=w/\w<st.nb/\x.1.length<=1048576/\∃v,st.box w= .cells (v:: .bool x.2::tl)/\JP st0.nt st v x.1
variable {st0 st:St} {w:Nat} {tl:List TV} {x:WS}
theorem Wb.ext {st':St} (h:Wb st0 w tl st x) (e:Ag st st'):Wb st0 w tl st' x:=by
 obtain⟨h1,h2,h3,h4,v,h5,h6⟩:=h;exact⟨h1.trans e,h2,Nat.lt_of_lt_of_le h3 e.nb,h4,v,(e.box w h3).trans h5,Own.ext h6 e⟩
theorem Wb.over {K:St->Prop} (h:Wb st0 w tl st x) (hk:∀st',Wb st0 w tl st' (x.1,true)->K st'):stB st (.box w 1) [.bool true] K:=by
 obtain⟨h1,h2,h3,h4,v,h5,h6⟩:=h;refine Mk h5 (by simp) (hk _ ⟨h1.put h2 _,h2,h3,h4,v,by simp[St.put],?_⟩);rcases h6 with h | ⟨tip,rfl,rfl | ⟨id,rfl,a,b,c⟩⟩
 ·exact .inl h
 ·exact .inr ⟨_,rfl,.inl rfl⟩
 ·exact .inr ⟨_,rfl,.inr ⟨id,rfl,a,b,c⟩⟩
set_option maxHeartbeats 1000000 in
theorem wadd_ok {ls:List B8} {lv:TV} {K:St->Prop} (H:Wb st0 w tl st x) (hr:Rd 1 lv ls.length (ls.map TV.str)) (hn:ls.length<=1000000) (hl:∀s,s∈ls->s.length<=1000000000000)
  (hk:∀st',Wb st0 w tl st' (ls.foldl G3 x)->K st'):CallT PR AR [.box w 0,lv] [] st K:=by
 refine Lz w lv st K (Aa hr.isSl ?_);rw[hr.lenS];refine⟨λn w1 v1 n2 st1=> .box w 0=w1/\lv=v1/\(ls.length:Int)=n2/\∃(k:Nat) (y:WS),n=(k:Int)/\k<=ls.length/\Wb st0 w tl st1 y/\(ls.drop k).foldl G3 y=ls.foldl G3 x,λn _ _ _ _=>(ls.length-n).toNat,⟨rfl,rfl,rfl,0,x,rfl,Nat.zero_le _,H,rfl⟩,?_⟩;rintro _ _ _ _ st1 ⟨rfl,rfl,rfl,k,y,rfl,hk1,H1,hf⟩;refine Ab (λg=>?_) λg=>?_
 ·have hlt:k<ls.length:=by omega
  refine⟨⟨by omega,by rw[hr.lenZ];omega⟩,?_⟩;rw[Int.toNat_natCast];have hget:ls.drop k=ls[k]::ls.drop (k+1):=List.drop_eq_getElem_cons hlt;rw[hget,List.foldl_cons]at hf;have hs:=hl _ (List.getElem_mem hlt);have hld:Af st1 [] (.t (ixT 1 lv k)) 0=some (.str ls[k]):=hr.ldx st1 k 0 (by simp[hlt]);generalize ls[k]'hlt=s at hf hs hld;have H2:=H1;obtain⟨h1,h2,h3,h4,v,h5,h6⟩:=H2;refine Ac hld (AO (Aa rfl (Aa rfl (Ac (x:= .bool y.2) (Ay h5 1 rfl) (DO (Ao (λhb=>?_) λhb=>?_))))))
  ·refine Aa rfl (Aa rfl (H1.over λst' H'=>hk st' ?_))
   rw[<-hf,show G3 y s=y from if_pos hb,S0 _ hb];rw[<-hb]at H';exact H'
  ·refine Aa rfl (Aa rfl (Ac (x:=v) (Ay h5 0 rfl) (Aa h6.rd.isSl ?_)))
   rw[Rd.lenS h6.rd,Ah _ (by omega) (by omega)];have hb':¬y.2=true:=by rw[hb];decide
   refine Ab (λg2=>?_) λg2=>?_
   ·refine Aa rfl (Aa rfl (H1.over λst' H'=>hk st' ?_))
    have:G3 y s=(y.1,true):=by unfold G3;rw[if_neg hb',if_pos (by omega)]
    rw[<-hf,this,S0 _ rfl];exact H'
   ·refine Aa rfl (Aa rfl (Ac (x:=v) (Ay h5 0 rfl) (Ac (src_str st1 s) (Aa (Qz s) (appK_nb h1 h6 (by omega) λv' st' e' hb1 hb2 ho=>Aa rfl (Aa rfl (Aa (by simp only[List.all_cons,List.all_nil,ho.rd.one];rfl) (Mk (by rw[hb1];exact h5) (by simp) ?_))))))))
    rw[Ah _ (by omega) (by omega)];have hadd:G3 y s=(y.1++s,false):=by unfold G3;rw[if_neg hb',if_neg (by omega)]
    refine⟨⟨rfl,rfl,rfl,k+1,(y.1++s,false),by omega,by omega,⟨e'.put h2 _,h2,?_,?_,v',?_,?_⟩,?_⟩,by dsimp only;omega⟩
    ·show w<st'.nb;rw[hb2];exact h3
    ·dsimp only;rw[List.length_append];omega
    ·simp[St.put,hb]
    ·rcases ho with h | ⟨tip,rfl,rfl | ⟨id,rfl,a,b,c⟩⟩
     ·exact .inl h
     ·exact .inr ⟨_,rfl,.inl rfl⟩
     ·exact .inr ⟨_,rfl,.inr ⟨id,rfl,a,b,c⟩⟩
    ·rw[<-hadd];exact hf
 ·have:k=ls.length:=by omega
  rw[this,List.drop_length]at hf;rw[List.foldl_nil]at hf;rw[hf]at H1;exact hk st1 H1
theorem WT {K:B8->Int->St->Prop} (H:Wb st0 w tl st x) (hk:K (if x.2=true then []else x.1) (if x.2=true then 10 else 0) st):CallT PR DB [.box w 0] [.one .str,.one (.int .i64)] st K:=by
 obtain⟨h1,h2,h3,h4,v,h5,h6⟩:=H;refine Jf w st K (Ac (x:= .bool x.2) (Ay h5 1 rfl) (DO (Ao (λhb=>?_) λhb=>?_)))
 ·rw[hb]at hk;exact hk
 ·rw[hb]at hk
  refine Ac (x:=v) (Ay h5 0 rfl) ?_;rw[h6.rd.toBytes];exact hk
end
section
mutual
def Mx:Vl->Bool
 | .mk s l f=>decide (s.kind=0) || (decide (s.kind=5) || (QG l || QI f))
def QG:List Vl->Bool
 | []=>false
 | v::r=>Mx v || QG r
def Ok:Fd->Bool
 | .mk k v=>Mx v
def QI:List Fd->Bool
 | []=>false
 | d::r=>Ok d || QI r
end
theorem QF:∀l:List Vl,QG l=l.any Mx
 | []=>by rw[QG];rfl
 | v::r=>by rw[QG,QF r];rfl
theorem QH:∀l:List Fd,QI l=l.any Ok
 | []=>by rw[QI];rfl
 | v::r=>by rw[QI,QH r];rfl
end
section
theorem Z1:∀(N:Nat) (v:Vl),v.sz<=N->N<=2000000->∀{st:St} {cs:List TV} {K:Bool->St->Prop},VlR St.zero v cs->K (Mx v) st->CallT PR El [.agg cs] [.one .bool] st K:=by
 intro N;induction N with
 | zero=>intro v h;have:=v.sz_pos;omega
 | succ N ih=>
 intro v hN hN2 st cs K h hk;obtain⟨s,l,f⟩:=v;have hsz:=szs s l f;have hll:=Hc l;have hfl:=Gq f;obtain⟨ub,ul,uf,xl,xf,rfl,h1,h2,h3,h4,h5⟩:=VlR.cells h;rw[Mx]at hk;refine PO _ _ _ _ _ _ _ _ _ _ ub ul uf st K (Ab (λg=>?_) λg=>Ab (λg2=>?_) λg2=>Aa h2.isSl ?_)
 ·rw[decide_eq_true g]at hk;exact hk
 ·rw[decide_eq_true g2]at hk;simpa using hk
 rw[decide_eq_false g,decide_eq_false g2,Bool.false_or,Bool.false_or,QF,QH]at hk;rw[h2.lenS];refine⟨λn u n2 a0 a1 a2 a3 a4 a5 a6 a7 a8 a9 a10 a11 a12 st1=>ul=u/\(l.length:Int)=n2/\uf=a12/\st=st1/\∃k:Nat,n=k/\k<=l.length/\(l.take k).any Mx=false,λn _ _ _ _ _ _ _ _ _ _ _ _ _ _ _ _=>(l.length-n).toNat,⟨rfl,rfl,rfl,rfl,0,rfl,Nat.zero_le _,rfl⟩,?_⟩;rintro _ _ _ a0 a1 a2 a3 a4 a5 a6 a7 a8 a9 a10 a11 _ _ ⟨rfl,rfl,rfl,rfl,k,rfl,hkl,ha⟩;refine Ab (λg3=>?_) λg3=>?_
 ·refine Wa (E8 st) h2 h3 rfl (by omega) λs' l' f' ub1 ul1 uf1 gw hw on=>Aa on ?_
  have hm:=List.mem_of_getElem? gw;refine ih (.mk s' l' f') (by have:=MP hm;omega) (by omega) hw (Ao (λhb=>?_) λhb=>?_)
  ·have:l.any Mx=true:=List.any_eq_true.2 ⟨_,hm,hb⟩
   rw[this,Bool.true_or]at hk;exact hk
  ·rw[Ah _ (by omega) (by omega)]
   refine⟨⟨rfl,rfl,rfl,rfl,k+1,by omega,by omega,?_⟩,by dsimp only;omega⟩;rw[Et gw,List.any_append,ha,List.any_cons,hb];rfl
 ·have:k=l.length:=by omega
  subst this;rw[List.take_length]at ha;rw[ha,Bool.false_or]at hk;refine Aa h4.isSl ?_;rw[h4.lenS];refine⟨λn u n2 st1=>uf=u/\(f.length:Int)=n2/\st=st1/\∃k:Nat,n=k/\k<=f.length/\(f.take k).any Ok=false,λn _ _ _=>(f.length-n).toNat,⟨rfl,rfl,rfl,0,rfl,Nat.zero_le _,rfl⟩,?_⟩;rintro _ _ _ _ ⟨rfl,rfl,rfl,k,rfl,hkl,ha⟩;refine Ab (λg4=>?_) λg4=>?_
  ·refine el14 (E8 st) h4 h5 rfl (by omega) λkey s' l' f' ub1 ul1 uf1 gw hw on=>Aa on ?_
   have hm:=List.mem_of_getElem? gw;have hz:=KM hm;rw[szd]at hz;refine ih (.mk s' l' f') (by omega) (by omega) hw (Ao (λhb=>?_) λhb=>?_)
   ·have:f.any Ok=true:=List.any_eq_true.2 ⟨_,hm,by rw[Ok];exact hb⟩
    rw[this]at hk;exact hk
   ·rw[Ah _ (by omega) (by omega)]
    refine⟨⟨rfl,rfl,rfl,k+1,by omega,by omega,?_⟩,by dsimp only;omega⟩;rw[Et gw,List.any_append,ha,List.any_cons,Ok,hb];rfl
  ·have:k=f.length:=by omega
   subst this;rw[List.take_length]at ha;rw[ha]at hk;exact hk
variable {st0 st:St} {w:Nat} {tl:List TV} {x:WS}
theorem IL {s:B8} {K:St->Prop} (H:Wb st0 w tl st x) (hl:s.length<=1000000000000) (hk:∀st',Wb st0 w tl st' (G3 x s)->K st'):CallT PR AR [.box w 0,.list 1 .full 1 [.str s]] [] st K:=
 wadd_ok (ls:=[s]) H (.inr ⟨.full,rfl⟩) (by simp) (λt ht=>by rw[List.mem_singleton.1 ht];exact hl) hk
end
section
def vAw:Vl:= .mk scL [.mk ⟨1,false,false,[],0,0,0,0,0,[],[]⟩ [] [],.mk ⟨4,false,false,[],0,0,0,0,0,[120],[]⟩ [] []] []
theorem validAw:AY vAw:=by
 unfold vAw;refine K5 ?_;have v1:AY (.mk ⟨1,false,false,[],0,0,0,0,0,[],[]⟩ [] []):=by
  unfold AY;exact⟨⟨⟨by simp,by simp,by simp,by simp,by simp,by simp,by simp,by simp,by simp⟩,by constructor<;>simp,by simp,Mh,by simp,by simp,rfl⟩,by unfold BW;trivial,by unfold Cc;trivial⟩
 have v2:AY (.mk ⟨4,false,false,[],0,0,0,0,0,[120],[]⟩ [] []):=WZ (s:=[120]) (by decide+kernel) (by simp);unfold BW;refine⟨v1,?_⟩;unfold BW;refine⟨v2,?_⟩;unfold BW;trivial
def QL (s:Sc):B8:=if s.kind=1 then(if s.b then M5 else UU)else if Ct s.text=s.text.length then quo s.text else []
variable {st0 st:St} {w:Nat} {tl:List TV} {x:WS}
theorem UI {s:Sc} {ub ul uf:TV} {K:St->Prop} (h:s.kind=1∨s.kind=4) (hl:s.text.length<=100) (H:Wb st0 w tl st x) (hk:∀st',Wb st0 w tl st' (G3 x (QL s))->K st'):CallT PR Bu [.box w 0,.agg (AQ s ub ul uf)] [] st K:=by
 unfold QL at hk;refine Fp w _ _ _ _ _ _ _ _ _ _ ub ul uf st K (Dc (decide_eq_false (by omega)) (Dc (decide_eq_false (by omega)) (NS _ _ _ _ _ _ _ _ _ _ ub ul uf st _ (Ab (λg=>?_) λg=>Dc (decide_eq_false (by omega)) (Dc (decide_eq_false (by omega)) (Cq (decide_eq_true (by omega)) (Z0 (by omega) λst1 e1=>?_)))))))
 ·rw[if_pos g]at hk
  refine Ao (λhb=>?_) λhb=>?_
  ·rw[if_pos hb]at hk;exact IL H (by decide) hk
  ·rw[if_neg (by rw[hb];decide)]at hk;exact IL H (by decide) hk
 ·rw[if_neg g]at hk
  refine IL (H.ext e1) ?_ hk;split
  ·unfold quo
   have:=QY s.text;simp only[List.length_cons,List.length_append,List.length_nil];omega
  ·simp
theorem leafAw:G3 (G3 (G3 (G3 (G3 ([],false) [91]) (QL ⟨1,false,false,[],0,0,0,0,0,[],[]⟩)) [44,32]) (QL ⟨4,false,false,[],0,0,0,0,0,[120],[]⟩)) [93]=(str6,false):=by decide+kernel
theorem Z4 {cs:List TV} {st:St} {K:B8->Int->St->Prop} (h:VlR St.zero vAw cs) (hk:∀st',K str6 0 st'):CallT PR GD [.agg cs] [.one .str,.one (.int .i64)] st K:=by
 have h0:=h;have hz:vAw.sz<=2000000:=by decide+kernel
 unfold vAw at h;obtain⟨ub,ul,uf,xl,xf,rfl,h1,h2,h3,h4,h5⟩:=VlR.cells h;have hc:BV vAw=0:=EA.2 ⟨validAw,by decide+kernel,by decide+kernel⟩;refine Pb _ _ _ _ _ _ _ _ _ _ ub ul uf st K (Rv hz h0 (E8 st) λst1 e1=>Dc (by rw[hc];rfl) (Z1 _ _ (Nat.le_refl _) hz h0 (Dc (by decide+kernel) ?_)));have H:Wb st1 st1.nb [.int .i64 0,.int .i64 0,.bool false,.int .u8 0,.int .u8 0,.bool false,.bool false] (st1.push (.cells [.nilSlice,.bool false,.int .i64 0,.int .i64 0,.bool false,.int .u8 0,.int .u8 0,.bool false,.bool false]) (some 144)) ([],false):=
  ⟨(Ag.refl _).push _ _,Nat.le_refl _,by simp[St.push],by simp,.nilSlice,by simp[St.push],JP.nil _ _⟩
 generalize (st1.push (.cells [.nilSlice,.bool false,.int .i64 0,.int .i64 0,.bool false,.int .u8 0,.int .u8 0,.bool false,.bool false]) (some 144))=st2 at H⊢;generalize st1.nb=w at H⊢;refine Fp w _ _ _ _ _ _ _ _ _ _ ub ul uf st2 _ (Cq rfl (IL (s:=[91]) H (by simp) λst3 H3=>Aa h2.isSl ?_));rw[h2.lenS];refine⟨λn w1 u n2 st4=> .box w 0=w1/\ul=u/\(2:Int)=n2/\((n=0/\Wb st1 w [.int .i64 0,.int .i64 0,.bool false,.int .u8 0,.int .u8 0,.bool false,.bool false] st4 (G3 ([],false) [91]))∨(n=1/\Wb st1 w [.int .i64 0,.int .i64 0,.bool false,.int .u8 0,.int .u8 0,.bool false,.bool false] st4 (G3 (G3 ([],false) [91]) (QL ⟨1,false,false,[],0,0,0,0,0,[],[]⟩)))∨(n=2/\Wb st1 w [.int .i64 0,.int .i64 0,.bool false,.int .u8 0,.int .u8 0,.bool false,.bool false] st4 (G3 (G3 (G3 (G3 ([],false) [91]) (QL ⟨1,false,false,[],0,0,0,0,0,[],[]⟩)) [44,32]) (QL ⟨4,false,false,[],0,0,0,0,0,[120],[]⟩)))),λn _ _ _ _=>(2-n).toNat,⟨rfl,rfl,rfl,.inl ⟨rfl,H3⟩⟩,?_⟩;rintro n _ _ _ st4 ⟨rfl,rfl,rfl,⟨rfl,H4⟩ | ⟨rfl,H4⟩ | ⟨rfl,H4⟩⟩
 ·refine Cq rfl (Wa (k:=0) (E8 st4) h2 h3 rfl (by decide) λs' l' f' ub1 ul1 uf1 gw hw on=>Aa on (Dc rfl ?_))
  cases gw;exact UI (.inl rfl) (by decide) H4 λst5 H5=>⟨⟨rfl,rfl,rfl,.inr (.inl ⟨rfl,H5⟩)⟩,show(2-IntKind.wrap .i64 (0+1)).toNat<(2-0:Int).toNat by decide⟩
 ·refine Cq rfl (Wa (k:=1) (E8 st4) h2 h3 rfl (by decide) λs' l' f' ub1 ul1 uf1 gw hw on=>Aa on (Cq rfl (IL (s:=[44,32]) H4 (by simp) λst5 H5=>?_)))
  cases gw;exact UI (.inr rfl) (by decide) H5 λst6 H6=>⟨⟨rfl,rfl,rfl,.inr (.inr ⟨rfl,H6⟩)⟩,show(2-IntKind.wrap .i64 (1+1)).toNat<(2-1:Int).toNat by decide⟩
 ·refine Dc rfl (IL (s:=[93]) H4 (by simp) λst5 H5=>WT H5 ?_)
  rw[leafAw];exact hk st5
end
section
def LU:LmT:=⟨48,65536⟩
def allS:Nat->Tb->List Hop->List Asg->Option (Tb×List Hop)
 | _,T,cur,[]=>some (T,cur)
 | i,T,cur,a::r=>match EE i T cur a with
  | .error _=>none
  | .ok (T',cur')=>allS (i+1) T' cur' r
theorem ZR:∀(l:List Asg) (i:Nat) (T:Tb) (cur:List Hop) {q:Tb×List Hop},G2 i T cur l= .ok q->allS i T cur l=some q
 | [],i,T,cur,q,h=>by rw[G2]at h;cases h;rw[allS]
 | a::r,i,T,cur,q,h=>by
  rw[G2]at h;rw[allS];split at h
  ·cases h
  ·rename_i T' cur' hs
   rw[hs];split at h
   ·exact ZR r _ _ _ h
   ·cases h
def fchk (v:Vl):Bool:=match v with
 | .mk _ _ [.mk _ (.mk _ _ [_]),.mk k (.mk _ _ [.mk _ (.mk _ _ [_])])]=>decide (k=[120])
 | _=>false
def aw1 (s:B8):Bool:=match CP s LU with
 | .ok (_,_,asg,_)=>(match allS 0 T00 [] asg with | some (R,_)=>fchk (Ae R) | none=>false)
 | .error _=>false
def aw2 (s:B8):Bool:=match CP s LU with
 | .ok _=>false
 | .error p=>decide (p=(6,8))
set_option maxRecDepth 100000
theorem WG:aw2 str4=true:=by decide+kernel
theorem WH:aw1 str3=true:=by decide+kernel
end
theorem Jr {s:B8} {i:Nat} {p:EP} (hi:i<=s.length) (h:see s i= .error p):p.2≠0:=by
 unfold see at h;split at h
 ·rename_i e he;cases h;exact Oi hi he
 ·cases h;simp
 ·cases h
theorem Us {L:LmT} {i d c:Nat} {p:EP} (h:bgn L i d c= .error p):p.2≠0:=by
 have hbg:bgn L i d c=if L.d<(d:Int)then .error (i,9)else if L.n<=(c:Int)then .error (i,10)else .ok (c+1):=rfl
 rw[hbg]at h;split at h
 ·cases h;simp
 ·split at h
  ·cases h;simp
  ·cases h
theorem Qo {s:B8} {i:Nat} {t:B8} {p:EP} (hi:i<=s.length) (h:CK s i t= .error p):p.2≠0:=by
 unfold CK at h;split at h
 ·rename_i e he;cases h;exact Jr hi he
 ·split at h
  ·cases h;simp
  ·cases h
theorem pv_er (s:B8) (L:LmT):∀f:Nat,
  (∀d BD i c p,i<=s.length->2*(s.length-i)+2<=f->pvF s L f d BD i c= .error p->p.2≠0)/\
  (∀d l i c p,i<=s.length->2*(s.length-i)+3<=f->arF s L f d l i c= .error p->p.2≠0)/\
  (∀d seen BD i c p,i<=s.length->2*(s.length-i)+3<=f->inF s L f d seen BD i c= .error p->p.2≠0):=by
 intro f;induction f with
 | zero=>exact⟨λd BD i c p hi h=>by omega,λd l i c p hi h=>by omega,λd seen BD i c p hi h=>by omega⟩
 | succ f ih=>
  obtain⟨ihv,iha,ihn⟩:=ih;refine⟨?_,?_,?_⟩
  ·intro d BD i c p hi hf h
   rw[pvF]at h;split at h
   ·rename_i e hs;cases h;exact Jr hi hs
   ·rename_i k t hs
    have ht:=Bd hi hs;split at h
    ·split at h
     ·cases h;simp
     ·split at h
      ·rename_i e hb;cases h;exact Us hb
      ·split at h
       ·rename_i h0;cases h;exact h0
       ·cases h
    ·split at h
     ·split at h
      ·rename_i e hb;cases h;exact Us hb
      ·split at h
       ·rename_i e ha;cases h;exact iha _ _ _ _ _ (by omega) (by omega) ha
       ·cases h
     ·split at h
      ·split at h
       ·rename_i e hb;cases h;exact Us hb
       ·split at h
        ·rename_i e hk;cases h;exact Kx (by omega) hk
        ·rename_i i1 hk
         have hk:=Bo (by omega) hk;split at h
         ·rename_i e hs1;cases h;exact Jr (by omega) hs1
         ·split at h
          ·cases h
          ·split at h
           ·rename_i e ha;cases h;exact ihn _ _ _ _ _ _ (by omega) (by omega) ha
           ·cases h
      ·cases h;simp
  ·intro d l i c p hi hf h
   rw[arF]at h;split at h
   ·rename_i e hk;cases h;exact Kx hi hk
   ·rename_i i1 hk
    have hk:=Bo hi hk;split at h
    ·rename_i e hs1;cases h;exact Jr (by omega) hs1
    ·rename_i k1 t1 hs1
     split at h
     ·cases h
     ·split at h
      ·rename_i e hv;cases h;exact ihv _ _ _ _ _ (by omega) (by omega) hv
      ·rename_i n x i2 c2 hv
       have hv:=(pv_cn s L f).1 _ _ _ _ _ _ _ _ (by omega) hv;split at h
       ·rename_i e hk3;cases h;exact Kx (by omega) hk3
       ·rename_i i3 hk3
        have hk3:=Bo (by omega) hk3;split at h
        ·rename_i e hs3;cases h;exact Jr (by omega) hs3
        ·rename_i k3 t3 hs3
         have ht3:=Bd (by omega) hs3;split at h
         ·split at h
          ·rename_i e ha;cases h;exact iha _ _ _ _ _ (by omega) (by omega) ha
          ·cases h
         ·split at h
          ·cases h;simp
          ·split at h
           ·rename_i e ha;cases h;exact iha _ _ _ _ _ (by omega) (by omega) ha
           ·cases h
  ·intro d seen BD i c p hi hf h
   rw[inF]at h;split at h
   ·rename_i e hs;cases h;exact Jr hi hs
   ·rename_i k t hs
    have ht:=Bd hi hs;split at h
    ·cases h;simp
    ·split at h
     ·cases h;simp
     ·split at h
      ·cases h;simp
      ·split at h
       ·rename_i e hk;cases h;exact Kx (by omega) hk
       ·rename_i i3 hk3
        have hk3:=Bo (by omega) hk3;split at h
        ·rename_i e hp;cases h;exact Qo (by omega) hp
        ·rename_i u hp
         have hp:=Qp (by omega) hp;split at h
         ·rename_i e hk;cases h;exact Kx (by omega) hk
         ·rename_i i5 hk5
          have hk5:=Bo (by omega) hk5;split at h
          ·rename_i e hv;cases h;exact ihv _ _ _ _ _ (by omega) (by omega) hv
          ·rename_i n x i6 c2 hv
           have hv:=(pv_cn s L f).1 _ _ _ _ _ _ _ _ (by omega) hv;split at h
           ·rename_i e hk;cases h;exact Kx (by omega) hk
           ·rename_i i7 hk7
            have hk7:=Bo (by omega) hk7;split at h
            ·rename_i e hs7;cases h;exact Jr (by omega) hs7
            ·rename_i k7 t7 hs7
             have ht7:=Bd (by omega) hs7;split at h
             ·cases h
             ·split at h
              ·cases h;simp
              ·split at h
               ·rename_i e hk;cases h;exact Kx (by omega) hk
               ·rename_i i9 hk9
                have hk9:=Bo (by omega) hk9;split at h
                ·rename_i e ha;cases h;exact ihn _ _ _ _ _ _ (by omega) (by omega) ha
                ·cases h
section
variable {s:B8} {L:LmT}
theorem Zc {i:Nat} {p:EP} (hi:i<=s.length) (h:Gn s i= .error p):p.2≠0:=by
 rw[VQ]at h;split at h
 ·rename_i e hs;cases h;exact Jr hi hs
 ·rename_i k t hs
  have ht:=CJ hi (KA hs);split at h
  ·split at h
   ·rename_i e hk;cases h;exact kx_ne ht.2.2.1 hk
   ·split at h
    ·cases h;simp
    ·cases h
  ·cases h;simp
theorem plc_er {i:Nat} {x:LnS} {T:Tb} {tab elem:Bool} {ks:List B8} {p:EP} (I:DvI L x T) (h:Ir L i x.T x.cur x.c tab elem ks= .error p):p.2≠0:=by
 unfold Ir at h;split at h
 ·cases h;simp
 ·split at h
  ·rename_i e hs
   cases h;rw[I.ev]at hs;have hv:=YJ (i:=0) (T:=T) (cur:=x.cur) (a:=⟨tab,elem,ks,vlO⟩) λ_=>rfl;rw[hs]at hv;cases hq:EE 0 T x.cur ⟨tab,elem,ks,vlO⟩with
   | ok r=>rw[hq]at hv;cases hv
   | error e'=>
    rw[hq]at hv;have:e=e':=by cases hv;rfl
    subst this;have:=UY hq I.at_ I.ne;dsimp only;omega
  ·split at h
   ·split at h
    ·rename_i e hb;cases h;exact Yn _ _ hb
    ·cases h
   ·split at h
    ·rename_i e hb;cases h;exact Yn _ _ hb
    ·cases h
theorem end_ne {i:Nat} {p:EP} (hi:i<=s.length) (h:R3 s i= .error p):p.2≠0:=by
 unfold R3 at h;split at h
 ·rename_i e hk;cases h;exact Kx hi hk
 ·rename_i i1 hk
  have hk:=Bo hi hk;split at h
  ·rename_i e hn;cases h;exact Oi hk.2 hn
  ·cases h
  ·rename_i k t hn
   have ht:=CJ hk.2 hn;split at h
   ·split at h
    ·rename_i e hn2;cases h;exact Oi ht.2.2.1 hn2
    ·cases h
    ·split at h
     ·cases h;simp
     ·cases h
   ·split at h
    ·cases h;simp
    ·cases h
theorem hqM_er {i j:Nat} {x:LnS} {T:Tb} {el:Bool} {ks:List B8} {p:EP} (I:DvI L x T):∀(m j:Nat),j<=s.length->hqM s L x.T x.cur x.c i el ks m j= .error p->p.2≠0
 | 0,j,hj,h=>by
  rw[hqM]at h;unfold hqC at h;split at h
  ·rename_i e hp;cases h;exact plc_er I hp
  ·cases h
 | m+1,j,hj,h=>by
  rw[hqM]at h;split at h
  ·rename_i e hp;cases h;exact Qo hj hp
  ·rename_i u hp
   have:=Qp hj hp;exact hqM_er (j:=j) I m (j+1) (by omega) h
theorem line_er {F i:Nat} {k:Int} {t BD:B8} {x:LnS} {T:Tb} {p:EP} (I:DvI L x T) (hi:i<s.length) (hF:2*s.length+2<=F) (h:(if t=[91]then Nv s L BD i x else if HN k then Ow s L F BD i x else .error (i,3):Except EP (LnS×Nat))= .error p):p.2≠0:=by
 split at h
 ·rw[hdrP_eq]at h
  split at h
  ·rename_i e hq
   cases h;unfold hdrQ at hq;split at hq
   ·rename_i e hs;cases hq;exact Jr (by omega) hs
   ·rename_i k2 t2 hs
    have htt:=CJ (by omega) (KA hs);unfold hqK at hq;have hq2:(if t2=[91]then i+2 else i+1)<=s.length:=by split<;>omega
    split at hq
    ·rename_i e hk;cases hq;exact Zc hq2 hk
    ·rename_i ks j hk
     have hjl:=Nq hq2 hk;exact hqM_er (j:=j) I _ _ hjl.2 hq
  ·cases h
 ·split at h
  ·rw[entP_eq]at h
   split at h
   ·rename_i e hq
    cases h;unfold entQ at hq;split at hq
    ·rename_i e hk;cases hq;exact Zc (by omega) hk
    ·rename_i ks j hk
     have hjl:=Nq (by omega) hk;split at hq
     ·rename_i e hp;cases hq;exact plc_er I hp
     ·split at hq
      ·rename_i e hk;cases hq;exact Kx hjl.2 hk
      ·rename_i i2 hk2
       have hl2:=Bo hjl.2 hk2;split at hq
       ·rename_i e hp;cases hq;exact Qo hl2.2 hp
       ·rename_i u hp
        have hpl:=Qp hl2.2 hp;split at hq
        ·rename_i e hk;cases hq;exact Kx (by omega) hk
        ·rename_i i4 hk4
         have hl4:=Bo (by omega) hk4;split at hq
         ·rename_i e hv;cases hq;exact(pv_er s L F).1 _ _ _ _ _ hl4.2 (by omega) hv
         ·cases hq
   ·cases h
  ·cases h;simp
theorem doc_er {F:Nat} (hL:L.d<=48) (hN:L.n<=65536) (hF:2*s.length+2<=F):∀(f i:Nat) (x:LnS) (T:Tb) {p:EP},DvI L x T->i<=s.length->s.length<f+i->Ka s L F f i x= .error p->p.2≠0
 | 0,i,x,T,p,I,hi,hf,h=>by omega
 | f+1,i,x,T,p,I,hi,hf,h=>by
  rw[Ka]at h;split at h
  ·rename_i e hk;cases h;exact Kx hi hk
  rename_i i1 hk;have hkl:=Bo hi hk;split at h
  ·rename_i e hn;cases h;exact Oi hkl.2 hn
  ·cases h
  ·rename_i k t hn
   have ht:=CJ hkl.2 hn;split at h
   ·rename_i e hl;cases h;exact line_er I ht.1 hF hl
   rename_i x' j hl;obtain⟨R,r1⟩:∃R,LnR L s i1 x T x' j R:=by
    split at hl
    ·obtain⟨R,r1,_⟩:=Zm I hL hN ht.1 hl
     exact⟨R,r1⟩
    ·split at hl
     ·obtain⟨R,r1,_⟩:=Zs I hL hN ht.1 hl
      exact⟨R,r1⟩
     ·cases hl
   have hij:=r1.ij;split at h
   ·rename_i e he;cases h;exact end_ne r1.js he
   ·exact doc_er hL hN hF f j x' R r1.inv r1.js (by omega) h
theorem parse_er (hL:L.d<=48) (hN:L.n<=65536) {p:EP} (h:CP s L= .error p):p.2≠0:=by
 unfold CP at h;split at h
 ·rename_i e hb;cases h;exact Us hb
 ·rename_i c hb
  have hb1:=Fa hb;have hcnt:(Ae T00).cnt=1:=by unfold T00;rw[Ae,Bb];simp[Vl.cnt,AH,AX]
  have hlv:lvV (Ae T00)=1:=by unfold T00;rw[Ae,Bb];simp[lvV,De,Ds]
  have w:=Well.start;have I:DvI L ⟨c,T00,[],[],[]⟩ T00:=⟨by unfold G2;rfl,ev_T00.symm,by rw[hcnt];dsimp only;omega,by rw[hlv];omega,by dsimp only;omega,w.va,w.at_,w.nd,w.ne⟩;exact doc_er hL hN fuel_ge _ _ _ _ I (Nat.zero_le _) (by omega) h
end
section
theorem fldT2 {t:TV} (h:isPtr t=true) (a b:Nat):AU (AU t a) b=AU t (a+b):=by
 cases t<;>simp only[isPtr]at h<;>first | (cases h;done) | skip
 ·simp[AU,Nat.add_assoc]
 ·simp[AU,List.drop_drop]
theorem Aaw {t:TV} (h:isPtr t=true) (a:Nat):isPtr (AU t a)=true:=by
 cases t<;>simp only[isPtr]at h<;>first | (cases h;done) | rfl
theorem fldsLd {st:St} {uf:TV} {xf:List TV} {l:List Fd} (h2:SlR St.zero 14 uf l.length xf) (h3:FsR St.zero l xf) {k:Nat} {key:B8} {s':Sc} {l':List Vl} {f':List Fd} (hd:l[k]? =some (.mk key (.mk s' l' f'))):
  isPtr (ixT 14 uf k)=true/\isPtr (AU (ixT 14 uf k) 1)=true/\(lenZ 14 uf:Int)=l.length/\∃u yf,Af st [] (.t (AU (AU (ixT 14 uf k) 1) 12)) 0=some u/\SlR St.zero 14 u f'.length yf/\FsR St.zero f' yf:=by
 obtain⟨hk,_⟩:=List.getElem?_eq_some_iff.1 hd;obtain⟨cw,hw,hcw,hcl⟩:=h3.get hd;have hp:=h2.isPtr hk;unfold FdR at hw;obtain⟨cs,rfl,hv⟩:=hw;obtain⟨ub,ul,uf1,xl,xf1,rfl,g1,g2,g3,g4,g5⟩:=VlR.cells hv;have hx:xf[k*14+13]? =some uf1:=by
  have:=congrArg (λz=>z[13]?) hcw;simpa [AQ]using this
 refine⟨hp,Aaw hp 1,by rw[h2.lenZ],uf1,xf1,?_,g4,g5⟩;rw[fldT2 hp];exact(h2.keep (E8 st)).ldf h3.len hk (by omega) hx
theorem Ut:∀{l:List Asg} {a:Asg},a∈l->asz a<=EM l
 | [],a,h=>by cases h
 | b::r,a,h=>by
  rw[EM];rcases List.mem_cons.1 h with rfl | h
  ·omega
  ·have:=Ut h;omega
theorem XD:∀ks:List B8,ks.length<=kz ks
 | []=>Nat.zero_le _
 | k::r=>by
  have:=XD r;unfold kz at this⊢;simp only[List.map_cons,List.sum_cons,List.length_cons];omega
variable {s:B8} {L:LmT} {y1 y2 y3:Int} {st:St}
theorem Za {a b c d e:Int} (h:lOk a b c d e=true):a<=48/\b<=65536:=by
 unfold lOk at h;simp only[decide_eq_true_eq]at h;omega
abbrev KV:=Int->Bool->Bool->B8->Int->Int->Int->Int->Int->B8->TV->TV->TV->Int->Int->St->Prop
def KV0 (K:KV) (i e:Int):Prop:=∀st',K 0 false false [] 0 0 0 0 0 [] .nilSlice .nilSlice .nilSlice i e st'
theorem build_of {kids:List Nd} {tl:B8} {asg:List Asg} {z:LnS} (hl:s.length<=20000) (hL:L.d<=48) (hN:L.n<=65536) (hp:CP s L= .ok (kids,tl,asg,z)):
  EM asg<=900000/\(∀a,a∈asg->a.keys.length+a.val.cnt<=100000*2)/\asg.length<=80000*2:=by
 obtain⟨R,cur,hr,hv,hlv,hcn,hsz,_⟩:=IZ hL hN hp;refine⟨by omega,λa ha=>?_,?_⟩
 ·have h1:=Ut ha
  have h2:=XD a.keys;have h3:=ME a.val;unfold asz at h1;omega
 ·have:∀l:List Asg,l.length<=EM l:=λl=>by
   induction l with
   | nil=>exact Nat.zero_le _
   | cons a r ih=>rw[EM,List.length_cons];unfold asz;omega
  have:=this asg;omega
theorem Ks {K:KV} (hl:s.length<=10000)
  (h1:lOk L.d L.n y1 y2 y3=false->KV0 K 0 1)
  (h2:lOk L.d L.n y1 y2 y3=true->y1<(s.length:Int)->KV0 K 0 10)
  (h3:lOk L.d L.n y1 y2 y3=true->¬y1<(s.length:Int)->Ct s≠s.length->KV0 K ((Ct s:Nat):Int) 5)
  (h4:lOk L.d L.n y1 y2 y3=true->¬y1<(s.length:Int)->Ct s=s.length->∀p,CP s L= .error p->p.2≠0->KV0 K ((p.1:Nat):Int) p.2)
  (h5:lOk L.d L.n y1 y2 y3=true->¬y1<(s.length:Int)->Ct s=s.length->∀kids tl asg z T cur ub ul uf st',CP s L= .ok (kids,tl,asg,z)->Xl asg= .ok (T,cur)->(Ae T).sz<=2000000->VlR St.zero (Ae T) (AQ (Ae T).sc ub ul uf)->List.all (AQ (Ae T).sc ub ul uf) Av=true->
   K (Ae T).sc.kind (Ae T).sc.b (Ae T).sc.neg (Ae T).sc.dg (Ae T).sc.ex (Ae T).sc.tk (Ae T).sc.td (Ae T).sc.tn (Ae T).sc.tz (Ae T).sc.text ub ul uf 0 0 st'):
  CallT PR B3 [.str s,.agg [.int .i64 L.d,.int .i64 L.n,.int .i64 y1,.int .i64 y2,.int .i64 y3]] [.agg [.int .i64,.bool,.bool,.str,.int .i64,.int .i64,.int .i64,.int .i64,.int .i64,.str,.tv,.tv,.tv],.one (.int .i64),.one (.int .i64)] st K:=by
 refine RM s L.d L.n y1 y2 y3 st K (parse_ok (y:=(y1,y2,y3)) (by omega) (λg st' e=>Aa rfl (Cq rfl (h1 g st'))) (λg g2 st' e=>Aa rfl (Cq rfl (h2 g g2 st'))) (λg g2 g3 st' e=>Aa rfl (Cq rfl (h3 g g2 g3 st'))) (λg g2 g3 p hp st' e=>?_) λg g2 g3 kids tl asg z kv av xs ys st' hp q1 q2 q3 q4 e=>Aa (one5 q1.one) (Dc rfl ?_))
 ·have hlim:=Za g
  have hp0:=parse_er hlim.1 hlim.2 hp;exact Aa rfl (Cq (decide_eq_true hp0) (h4 g g2 g3 p hp hp0 st'))
 ·have hlim:=Za g
  have hb:=build_of (by omega) hlim.1 hlim.2 hp;obtain⟨R,cur,hr,hv,hlv,hcn,hsz,_⟩:=IZ hlim.1 hlim.2 hp;refine AaT q3 q4 (by omega) (λa ha=>?_) (λT cur2 ub ul uf st2 hrun hck hz hvl hon=>Aa hon ?_) λi e st2 hrun he=>?_
  ·have h1:=Ut ha
   have h2:=XD a.keys;have h3:=ME a.val;unfold asz at h1;omega
  ·exact h5 g g2 g3 kids tl asg z T cur2 ub ul uf st2 hp hrun (by omega) hvl hon
  ·rw[hr]at hrun;cases hrun
theorem fchk_of {v:Vl} (h:fchk v=true):∃s l ka s2 l2 d2 s3 l3 ky s4 l4 d4,v= .mk s l [.mk ka (.mk s2 l2 [d2]),.mk [120] (.mk s3 l3 [.mk ky (.mk s4 l4 [d4])])]:=by
 unfold fchk at h;split at h
 ·simp only[decide_eq_true_eq]at h
  subst h;exact⟨_,_,_,_,_,_,_,_,_,_,_,_,rfl⟩
 ·cases h
theorem M6 (sz:Nat):SlR St.zero sz .nilSlice 0 []:= .inl (.inl ⟨rfl,rfl,rfl⟩)
theorem slr_full (sz n:Nat) (xs:List TV):SlR St.zero sz (.list sz .full n xs) n xs:= .inl (.inr ⟨_,rfl⟩)
theorem vlrAw:VlR St.zero vAw [.int .i64 6,.bool false,.bool false,.str [],.int .i64 0,.int .i64 0,.int .i64 0,.int .i64 0,.int .i64 0,.str [],.nilSlice,.list 13 .full 2 [.int .i64 1,.bool false,.bool false,.str [],.int .i64 0,.int .i64 0,.int .i64 0,.int .i64 0,.int .i64 0,.str [],.nilSlice,.nilSlice,.nilSlice,.int .i64 4,.bool false,.bool false,.str [],.int .i64 0,.int .i64 0,.int .i64 0,.int .i64 0,.int .i64 0,.str str5,.nilSlice,.nilSlice,.nilSlice],.nilSlice]:=by
 have leaf:∀sc:Sc,sc.bytes=[]->VlR St.zero (.mk sc [] []) (AQ sc .nilSlice .nilSlice .nilSlice):=λsc h=>by
  unfold VlR;exact⟨.nilSlice,.nilSlice,.nilSlice,[],[],rfl,by rw[h];exact M6 1,M6 13,by unfold VsR;rfl,M6 14,by unfold FsR;rfl⟩
 unfold vAw VlR;refine⟨.nilSlice,_,.nilSlice,_,[],rfl,M6 1,slr_full 13 2 _,?_,M6 14,by unfold FsR;rfl⟩;exact VsR.cons (leaf ⟨1,false,false,[],0,0,0,0,0,[],[]⟩ rfl) (VsR.cons (leaf ⟨4,false,false,[],0,0,0,0,0,[120],[]⟩ rfl) (VsR.nil _))
theorem Re {st:St} {K:Bool->St->Prop} (hk:∀st',K true st'):CallT PR AC [] [.one .bool] st K:=by
 refine J8 st K (Vn ?_);have hlo:lOk LU.d LU.n 1048576 1024 65536=true:=by decide
 refine Ks (s:=str3) (L:=LU) (y1:=1048576) (y2:=1024) (y3:=65536) (by decide) (λg=>absurd (g.symm.trans hlo) (by decide)) (λ_ g=>absurd g (by decide)) (λ_ _ g=>absurd (by decide+kernel) g) (λ_ _ _ p hp=>?_) λ_ _ _ kids tl asg z T cur ub ul uf st1 hp hr hz hv hon=>Aa hon ?_
 ·have:=WH
  unfold aw1 at this;rw[hp]at this;cases this
 have hf:fchk (Ae T)=true:=by
  have:=WH;unfold aw1 at this;rw[hp]at this;simp only at this;rw[ZR _ _ _ _ (show G2 0 T00 [] asg= .ok (T,cur)from hr)]at this;exact this
 obtain⟨s1,l1,ka,s2,l2,d2,s3,l3,ky,s4,l4,d4,he⟩:=fchk_of hf;refine Ks (s:=str4) (L:=LU) (y1:=1048576) (y2:=1024) (y3:=65536) (by decide) (λg=>absurd (g.symm.trans hlo) (by decide)) (λ_ g=>absurd g (by decide)) (λ_ _ g=>absurd (by decide+kernel) g) (λ_ _ _ p hp2 _ st2=>Aa rfl ?_) λ_ _ _ kids tl asg z T cur ub ul uf st1 hp2=>?_
 ·have hp68:p=(6,8):=by
   have:=WG;unfold aw2 at this;rw[hp2]at this;exact of_decide_eq_true this
  subst hp68;refine Z4 vlrAw λst3=>?_;rw[he]at hv;obtain⟨ub',ul',uf',xl,xf,hcs,h1,h2,h3,h4,h5⟩:=VlR.cells hv;obtain rfl:uf=uf':=by simp only[AQ,List.cons.injEq]at hcs;exact hcs.2.2.2.2.2.2.2.2.2.2.2.2.1
  obtain⟨p1,p2,p3,u1,yf1,q1,q2,q3⟩:=fldsLd (st:=st3) h4 h5 (k:=1) rfl;obtain⟨r1,r2,r3,u2,yf2,r4,r5,r6⟩:=fldsLd (st:=st3) q2 q3 (k:=0) rfl;have hkey:=keyLd (st:=st3) (E8 st3) h4 h5 (k:=1) rfl;have b1:(0:Int)<=1/\(1:Int)<(lenZ 14 uf:Int):=⟨by omega,by rw[p3];simp⟩;have b0:(0:Int)<=0/\(0:Int)<(lenZ 14 u1:Int):=⟨by omega,by rw[r3];simp⟩;refine Cq rfl (Aa h4.isSl (Cq (decide_eq_true (by rw[h4.lenS];simp)) ⟨b1,Aa p1 (Ac hkey (AO (Cq rfl ⟨b1,Aa p1 (Aa p2 (Ac q1 (Aa q2.isSl (Cq (decide_eq_true (by rw[q2.lenS];simp)) ⟨b1,Aa p1 (Aa p2 (Ac q1 ⟨b0,Aa r1 (Aa r2 (Ac r4 (Aa r5.isSl (Cq (decide_eq_true (by rw[r5.lenS];simp)) (Cq rfl (Cq rfl (Cq (decide_eq_true rfl) (hk st3))))))))⟩))⟩))))⟩)))⟩))
 ·have:=WG
  unfold aw2 at this;rw[hp2]at this;cases this
end
theorem psame1:∀(N:Nat) (v w:Vl),v.sz<=N->w.sz<=2000000->N<=2000000->∀{st0 st:St} {cs ds:List TV} {L:Int} {K:Bool->St->Prop},VlR st0 v cs->VlR st0 w ds->CH st0 st->(v.cnt:Int)<=L->L<=100000000->
  (∀r st',Ag st st'->(r=true↔v=w)->K r st')->CallT PR Gc [.agg cs,.agg ds,.bool true,.int .i64 L] [.one .bool] st K:=by
 intro N;induction N with
 | zero=>intro v w h;have:=v.sz_pos;omega
 | succ N ih=>
 intro v w hN hW hN2 st0 st cs ds L K h h' hke hL hL2 hk;cases v with
 | mk s l f=>
 cases w with
 | mk t m g=>
 have hsz:=szs s l f;have hll:=Hc l;have hfl:=Gq f;have hsz':=szs t m g;have hll':=Hc m;have hfl':=Gq g;have hpos:=(Vl.mk s l f).cnt_pos;have hcnt:(Vl.mk s l f).cnt=1+AH l+AX f:=by unfold Vl.cnt;rfl
 have ha:=h;have hb:=h';obtain⟨ub,ul,uf,xl,xf,rfl,h1,h2,h3,h4,h5⟩:=h.cells;obtain⟨wb,wl,wf,yl,yf,rfl,k1,k2,k3,k4,k5⟩:=h'.cells;have hmk:∀t,(Vl.mk s l f= .mk t m g)↔(s=t/\l=m/\f=g):=λt=>by simp only[Vl.mk.injEq]
 rw[hmk]at hk;obtain⟨st1,hst1⟩:∃st1,st1=(st.push (.cells [.bool true]) (some 4)).push (.cells [.int .i64 L]) (some 3):=⟨_,rfl⟩;have e1:Ag st st1:=hst1▸((Ag.refl st).push _ _).push _ _;have hb1:st1.box st.nb= .cells [.bool true]:=by rw[hst1];simp[St.push]
 have hb2:st1.box (st.nb+1)= .cells [.int .i64 L]:=by rw[hst1];simp[St.push]
 have hn1:st.nb+1<st1.nb:=by rw[hst1];simp[St.push]
 have hke1:=hke.trans e1.keeps;have hldx:∀st',Ag st1 st'->Af st' [] (.t (.box st.nb 0)) 0=some (.bool true):=λst' e=>by simp[Af,(e.box st.nb (by omega)).trans hb1]
 have hldl:∀st',Ag st1 st'->Af st' [] (.t (.box (st.nb+1) 0)) 0=some (.int .i64 L):=λst' e=>by simp[Af,(e.box (st.nb+1) hn1).trans hb2]
 have no:∀st',Ag st1 st'->¬(s=t/\l=m/\f=g)->K false st':=λst' e hne=>hk false st' (e1.trans e) ⟨λh=>(by cases h),λh=>absurd h hne⟩;refine RD _ _ _ _ _ _ _ _ _ _ _ _ _ _ _ _ _ _ _ _ _ _ _ _ _ _ true L st K ?_;rw[show(st.push (.cells [.bool true]) (some 4)).nb=st.nb+1 from rfl,<-hst1];have r1:=Ag.refl st1;refine Ab (λe=>no st1 r1 λh=>e (by rw[h.1])) λq1=>Ao (λe=>no st1 r1 λh=>?_) λq2=>Ao (λe=>no st1 r1 λh=>?_) λq3=>Ao (λe=>no st1 r1 λh=>?_) λq4=>Ab (λe=>no st1 r1 λh=>e (by rw[h.1])) λq5=>?_
 ·rw[h.1]at e;simp at e
 ·rw[h.1]at e;simp at e
 ·rw[h.1]at e;simp at e
 refine AaM (h1.keep hke1) (k1.keep hke1) (by omega) (by omega) λr hr=>Ao (λe=>no st1 r1 λh=>?_) λq6=>?_
 ·rw[hr.2 (by rw[h.1])]at e;cases e
 have hst:s=t:=by
  simp only[Bool.not_eq_false',Bool.and_eq_true,beq_iff_eq,decide_eq_true_eq,and_true]at q2 q3 q4;exact sc_eq (Decidable.not_not.1 q1) q2 q3.1 q3.2.1 q3.2.2 q4.1 q4.2.1 q4.2.2.1 q4.2.2.2 (Decidable.not_not.1 q5) (hr.1 (by simpa using q6))
 subst hst;refine Ac (hldl st1 r1) (Am (Ab (λg=>by omega) λ_=>Ac (hldx st1 r1) (DO ?_)))
 --The closure and both comparisons,from fields that are as asked for.
 have rest:∀(st2:St) (v1 v2:TV) (x1 x2:List TV),Ag st1 st2->SlR st2 14 v1 f.length x1->FsR st2 f x1->SlR st2 14 v2 g.length x2->FsR st2 g x2->
   stB (st2.push (.cells [.nilFunc]) (some 39)) (.box st2.nb 0) [.func CZ [.box st.nb 0,.box (st.nb+1) 0]] λ(st4:St)=>
    AS (Af st4 [] (.t (.box st2.nb 0)) 0) λ(v3:TV)=>CallT PR As [ul,wl,v3] [.one (.bool)] st4 λ(b3:Bool) (st5:St)=>
     BIf b3 (CallT PR At [v1,v2,(.func EW [(.box st2.nb 0)])] [.one (.bool)] st5 λ(b4:Bool) (st6:St)=>K (b4) st6) (K (false) st5):=by
  intro st2 v1 v2 x1 x2 e2 p1 p2 p3 p4;refine stB_new (x:= .nilFunc) rfl λst4 e4 hbx hnx=>?_;have hldc:∀st',Ag st4 st'->Af st' [] (.t (.box st2.nb 0)) 0=some (.func CZ [.box st.nb 0,.box (st.nb+1) 0]):=λst' e=>by simp[Af,(e.box st2.nb hnx).trans hbx]
  have e14:=e2.trans e4;have hke4:=hke1.trans e14.keeps
  --the closure
  have clo:∀(a b:Vl) (ca cb:List TV) (st5:St) (K1:Bool->St->Prop) (st0':St),a.sz<=N->b.sz<=2000000->(a.cnt:Int)<=L-1->VlR st0' a ca->VlR st0' b cb->CH st0' st5->Ag st4 st5->(∀r st6,Ag st5 st6->(r=true↔a=b)->K1 r st6)->
    CallT PR CZ ([.agg ca,.agg cb]++[.box st.nb 0,.box (st.nb+1) 0]) [.one .bool] st5 K1:=by
   intro a b ca cb st5 K1 st0' hz1 hz2 hc hra hrb hk5 e5 hK1;have hra0:=hra;have hrb0:=hrb;obtain⟨s1,l1,f1⟩:=a;obtain⟨s2,l2,f2⟩:=b;obtain⟨_,_,_,_,_,rfl,_⟩:=hra.cells;obtain⟨_,_,_,_,_,rfl,_⟩:=hrb.cells;refine O4 _ _ _ _ _ _ _ _ _ _ _ _ _ _ _ _ _ _ _ _ _ _ _ _ _ _ _ _ st5 K1 (Ac (hldx st5 (e14.trans e5)) (DO (Ac (hldl st5 (e14.trans e5)) (Am ?_))));rw[Ah _ (by omega) (by omega)];exact ih _ _ hz1 hz2 (by omega) hra0 hrb0 hk5 hc (by omega) hK1
  refine Ac (hldc st4 (Ag.refl _)) (AaA (g:=id) hke4 h2 h3 k2 k3 (by omega) (by omega) (λa b ca cb st5 K1 hma hmb hra hrb e5 hK1=>?_) λr st5 e5 hr=>?_)
  ·have hsa:=MP hma
   have hsb:=MP hmb;have hca:a.cnt<=AH l:=by
    obtain⟨i,hi⟩:=List.getElem?_of_mem hma;exact NQ hi
   exact clo a b ca cb st5 K1 st0 (by omega) (by omega) (by omega) hra hrb (hke4.trans e5.keeps) e5 hK1
  ·rw[List.map_id,List.map_id]at hr
   refine Ao (λhb=>?_) λhb=>no st5 (e14.trans e5) λh=>?_
   ·have e25:=e4.trans e5
    refine AaB (g:=id) e25.keeps p1 p2 p3 p4 (by omega) (by omega) (λa b ca cb st6 K1 hma hmb hra hrb e6 hK1=>?_) λr2 st6 e6 hr2=>hk r2 st6 (((e1.trans e14).trans e5).trans e6) ⟨λh=>⟨rfl,hr.1 hb,by simpa using hr2.1 h⟩,λh=>hr2.2 (by simpa using h.2.2)⟩
    ·have hma':a∈f:=hma
     have hmb':b∈g:=hmb;have hsa:=KM hma';have hsb:=KM hmb';have hca:a.cnt<=AX f:=by
      obtain⟨i,hi⟩:=List.getElem?_of_mem hma';exact Or hi
     obtain⟨ka,a⟩:=a;obtain⟨kb,b⟩:=b;have hz1:=szd ka a;have hz2:=szd kb b;have hc1:(Fd.mk ka a).cnt=a.cnt:=by unfold Fd.cnt;rfl
     obtain⟨ca',rfl,hra2⟩:=hra.val;obtain⟨cb',rfl,hrb2⟩:=hrb.val;have hra0:VlR st2 a ca':=hra2;have hrb0:VlR st2 b cb':=hrb2;have hcl:=clo a b ca' cb' st6 (λr st7=>K1 r st7) st2 (by omega) (by omega) (by omega) hra0 hrb0 (e25.trans e6).keeps (e5.trans e6);obtain⟨s1,l1,f1⟩:=a;obtain⟨s2,l2,f2⟩:=b;obtain⟨_,_,_,_,_,rfl,_⟩:=hra0.cells;obtain⟨_,_,_,_,_,rfl,_⟩:=hrb0.cells;refine O3 _ _ _ _ _ _ _ _ _ _ _ _ _ _ _ _ _ _ _ _ _ _ _ _ _ _ _ _ _ st6 K1 (Ab (λek=>Ac (hldc st6 (e5.trans e6)) (hcl λr st7 e7 hr7=>hK1 r st7 e7 ?_)) λek=>hK1 false st6 (Ag.refl _) ⟨λh=>(by cases h),λh=>?_⟩)
     ·simp only[id,Fd.mk.injEq]
      exact⟨λh=>⟨ek,hr7.1 h⟩,λh=>hr7.2 h.2⟩
     ·simp only[id,Fd.mk.injEq]at h
      exact absurd h.1 ek
   ·rw[hr.2 h.2.1]at hb;cases hb
 exact Dc rfl (rest st1 uf wf xf yf r1 (h4.keep hke1) (FsR.keep hke1 h5) (k4.keep hke1) (FsR.keep hke1 k5))
theorem pSame1 {v w:Vl} (hN:v.sz<=2000000) (hW:w.sz<=2000000) (hC:v.cnt<=65536) {st0 st:St} {cs ds:List TV} {K:Bool->St->Prop} (h:VlR st0 v cs) (h':VlR st0 w ds) (hke:CH st0 st) (hk:∀r st',Ag st st'->(r=true↔v=w)->K r st'):
  CallT PR Iw [.agg cs,.agg ds] [.one .bool] st K:=by
 have ha:=h;have hb:=h';cases v;cases w;obtain⟨_,_,_,_,_,rfl,_⟩:=h.cells;obtain⟨_,_,_,_,_,rfl,_⟩:=h'.cells;exact RI _ _ _ _ _ _ _ _ _ _ _ _ _ _ _ _ _ _ _ _ _ _ _ _ _ _ st K (psame1 2000000 _ _ hN hW (Nat.le_refl _) ha hb hke (by omega) (by omega) hk)
section
theorem orK {p q r:Prop} [Decidable p] [Decidable q] [Decidable r] {A F:Prop} (h:p∨(q/\r)) (hA:A):BIf (decide p) A (BIf (decide q) (BIf (decide r) A F) F):=by
 refine Ab (λ_=>hA) λg=>?_;obtain⟨h1,h2⟩:=h.resolve_left g;exact Cq (decide_eq_true h1) (Cq (decide_eq_true h2) hA)
abbrev S15:List RTy:=[.agg [.int .i64,.bool,.bool,.str,.int .i64,.int .i64,.int .i64,.int .i64,.int .i64,.str,.tv,.tv,.tv],.one (.int .i64),.one (.int .i64)]
variable {s:B8} {st:St}
theorem Xb {d n y:Int} {P:Int->Prop} {K:KV} (hl:s.length<=10000) (hv:Ct s=s.length)
  (h1:lOk d n y 0 0=false->P 1) (h2:lOk d n y 0 0=true->y<(s.length:Int)->P 10)
  (h4:lOk d n y 0 0=true->¬y<(s.length:Int)->∃q,CP s ⟨d,n⟩= .error q/\P q.2) (hk:∀i e st',P e->K 0 false false [] 0 0 0 0 0 [] .nilSlice .nilSlice .nilSlice i e st'):
  CallT PR B3 [.str s,.agg [.int .i64 d,.int .i64 n,.int .i64 y,.int .i64 0,.int .i64 0]] S15 st K:=by
 refine Ks (L:=⟨d,n⟩) (y1:=y) (y2:=0) (y3:=0) hl (λg st'=>hk _ _ _ (h1 g)) (λg g2 st'=>hk _ _ _ (h2 g g2)) (λg g2 g3=>absurd hv g3) (λg g2 g3 p hp _ st'=>?_) λg g2 g3 kids tl asg z T cur ub ul uf st' hp=>?_
 ·obtain⟨q,hq,hP⟩:=h4 g g2
  rw[hp]at hq;cases hq;exact hk _ _ _ hP
 ·obtain⟨q,hq,hP⟩:=h4 g g2
  rw[hp]at hq;cases hq
theorem cnt_pos' (v:Vl):1<=v.cnt:=by cases v;unfold Vl.cnt;omega
set_option maxHeartbeats 1000000 in
theorem ltlimits_ok {K:Bool->St->Prop} (hk:∀st',K true st'):CallT PR fn_datakitlaw26_TableLimits [.str s] [.one .bool] st K:=by
 refine GQ s st K (Ab (λ_=>Re hk) λg=>Aau ?_);have hl:s.length<=1500:=by omega
 have err:∀{i e:Int} (st':St),e≠0->∀{F:Prop},need (List.all [.int .i64 (0:Int),.bool false,.bool false,.str [],.int .i64 0,.int .i64 0,.int .i64 0,.int .i64 0,.int .i64 0,.str [],.nilSlice,.nilSlice,.nilSlice] Av) (BIf (decide (e≠0)) (CallT PR AC [] [.one .bool] st' λb4 st4=>K b4 st4) F):=λ{i e} st' he {F}=>
  Aa rfl (Cq (decide_eq_true he) (Re hk))
 refine Ks (L:=LU) (y1:=1048576) (y2:=1024) (y3:=65536) (by omega) (λ_ st'=>err (i:=0) st' (by decide)) (λ_ _ st'=>err (i:=0) st' (by decide)) (λ_ _ _ st'=>err (i:=0) st' (by decide)) (λ_ _ _ p hp hp0 st'=>err (i:=0) st' hp0) λg1 g2 hvl kids tl asg z T cur ub ul uf st1 hp hr hz hv hon=>Aa hon (Dc rfl ?_);obtain⟨R,cur2,hr2,hva,hlv,hcn,hsz,hlim⟩:=IZ (L:=LU) (by decide) (by decide) hp;rw[hr]at hr2;cases hr2;have hlv':lvV (Ae T)<=48:=by unfold LU at hlv;dsimp only at hlv;omega
 have hcn':(Ae T).cnt<=65536:=by unfold LU at hcn;dsimp only at hcn;omega
 have hlp:=lvV_pos (Ae T);have hcp:=cnt_pos' (Ae T);refine WM hz hcn' hv (E8 st1) λst2 e2=>ZU hz hcn' hv (E8 st2) λst3 e3=>?_;rw[Ue];have lok:∀{d n y:Int},1<=d->d<=48->1<=n->n<=65536->1<=y->y<=1048576->lOk d n y 0 0=true:=λ{d n y} a b c d' e f=>by
  unfold lOk;exact decide_eq_true (by omega)
 have lno:∀{d n y:Int},lOk d n y 0 0=false->0<=d->d<=48->0<=n->n<=65536->0<=y->y<=1048576->d=0∨n=0∨y=0:=λ{d n y} h a b c d' e f=>by
  unfold lOk at h;have:=of_decide_eq_false h;omega
 have lyes:∀{d n y:Int},lOk d n y 0 0=true->1<=d/\1<=n/\1<=y:=λ{d n y} h=>by
  unfold lOk at h;have:=of_decide_eq_true h;omega
 have hY1:(1:Int)<=max 1 (s.length:Int):=by omega
 have hY2:(s.length:Int)<=max 1 (s.length:Int):=by omega
 have hY3:max 1 (s.length:Int)<=1500:=by omega
 have hY4:max 1 (s.length:Int)=1∨max 1 (s.length:Int)=(s.length:Int):=by omega
 generalize hYY:max 1 (s.length:Int)=Y at hY1 hY2 hY3 hY4;have gl:lOk (lvV (Ae T):Int) ((Ae T).cnt:Int) Y 0 0=true:=lok (by omega) (by omega) (by omega) (by omega) (by omega) (by omega);refine Ks (L:=⟨(lvV (Ae T):Int),((Ae T).cnt:Int)⟩) (y1:=Y) (y2:=0) (y3:=0) (by omega) (λh=>absurd (gl.symm.trans h) (by decide)) (λ_ h=>absurd h (by omega)) (λ_ _ h=>absurd hvl h) (λ_ _ _ p hp2 _ st'=>?_) λ_ _ _ kids2 tl2 asg2 z2 T2 cur3 ub2 ul2 uf2 st4 hp2 hr3 hz2 hv2 hon2=>Aa hon2 (Dc rfl ?_)
 ·exfalso
  rcases hlim ⟨(lvV (Ae T):Int),((Ae T).cnt:Int)⟩with h | ⟨q,_,h⟩ | ⟨q,_,h⟩
  ·rw[hp2]at h;cases h
  ·exact absurd h (Int.lt_irrefl _)
  ·exact absurd h (Int.lt_irrefl _)
 have hTT:T2=T:=by
  rcases hlim ⟨(lvV (Ae T):Int),((Ae T).cnt:Int)⟩with h | ⟨q,h,_⟩ | ⟨q,h,_⟩
  ·rw[hp2]at h
   cases h;rw[hr]at hr3;cases hr3;rfl
  ·rw[hp2]at h;cases h
  ·rw[hp2]at h;cases h
 subst hTT;refine pSame1 hz hz hcn' hv hv2 (E8 st4) λr st5 e5 hrr=>?_;rw[hrr.2 rfl];refine Dc rfl ?_
 --a limit less
 have noD:∀{d n:Int},d<(lvV (Ae T2):Int)->d<=48->n<=65536->∀{q},CP s ⟨d,n⟩≠.ok q:=λ{d n} h1 h2 h3 {q} hq=>by
  rcases hlim ⟨d,n⟩with h | ⟨k,h,_⟩ | ⟨k,h,_⟩
  ·obtain⟨R,cur4,hr4,_,hlv4,_⟩:=IZ (L:=⟨d,n⟩) h2 h3 h
   rw[hr]at hr4;cases hr4;dsimp only at hlv4;omega
  ·rw[h]at hq;cases hq
  ·rw[h]at hq;cases hq
 have noN:∀{d n:Int},n<((Ae T2).cnt:Int)->d<=48->n<=65536->∀{q},CP s ⟨d,n⟩≠.ok q:=λ{d n} h1 h2 h3 {q} hq=>by
  rcases hlim ⟨d,n⟩with h | ⟨k,h,_⟩ | ⟨k,h,_⟩
  ·obtain⟨R,cur4,hr4,_,_,hcn4,_⟩:=IZ (L:=⟨d,n⟩) h2 h3 h
   rw[hr]at hr4;cases hr4;dsimp only at hcn4;omega
  ·rw[h]at hq;cases hq
  ·rw[h]at hq;cases hq
 have w1:IntKind.wrap .i64 ((lvV (Ae T2):Int)-1)=(lvV (Ae T2):Int)-1:=Ah _ (by omega) (by omega);have w2:IntKind.wrap .i64 (((Ae T2).cnt:Int)-1)=((Ae T2).cnt:Int)-1:=Ah _ (by omega) (by omega);have w3:IntKind.wrap .i64 (Y-1)=Y-1:=Ah _ (by omega) (by omega);rw[w1,w2,w3];refine Xb (P:=λe=>e=9∨((lvV (Ae T2):Int)-1=0/\e=1)) (by omega) hvl (λh=> .inr ⟨?_,rfl⟩) (λ_ h=>absurd h (by omega)) (λh _=>?_) λi1 c1 st6 hc1=>Aa rfl ?_
 ·rcases lno h (by omega) (by omega) (by omega) (by omega) (by omega) (by omega)with h | h | h<;>omega
 ·have:=lyes h
  rcases hlim ⟨(lvV (Ae T2):Int)-1,((Ae T2).cnt:Int)⟩with h | ⟨k,h,_⟩ | ⟨k,h,h2⟩
  ·exact absurd h (noD (by omega) (by omega) (by omega))
  ·exact⟨(k,9),h,.inl rfl⟩
  ·exact absurd h2 (Int.lt_irrefl _)
 refine Xb (P:=λe=>e=10∨(((Ae T2).cnt:Int)-1=0/\e=1)) (by omega) hvl (λh=> .inr ⟨?_,rfl⟩) (λ_ h=>absurd h (by omega)) (λh _=>?_) λi2 c2 st7 hc2=>Aa rfl ?_
 ·rcases lno h (by omega) (by omega) (by omega) (by omega) (by omega) (by omega)with h | h | h<;>omega
 ·have:=lyes h
  rcases hlim ⟨(lvV (Ae T2):Int),((Ae T2).cnt:Int)-1⟩with h | ⟨k,h,h2⟩ | ⟨k,h,h2⟩
  ·exact absurd h (noN (by omega) (by omega) (by omega))
  ·exact absurd h2 (Int.lt_irrefl _)
  ·exact⟨(k,10),h,.inl rfl⟩
 refine Xb (P:=λe=>e=10∨(Y-1=0/\e=1)) (by omega) hvl (λh=> .inr ⟨?_,rfl⟩) (λ_ h=> .inl rfl) (λh h2=>?_) λi3 c3 st8 hc3=>Aa rfl ?_
 ·rcases lno h (by omega) (by omega) (by omega) (by omega) (by omega) (by omega)with h | h | h<;>omega
 ·exfalso
  have:=lyes h;omega
 exact orK hc1 (orK hc2 (orK hc3 (Re hk)))
end
end Go.TVF
