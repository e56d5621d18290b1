/- What the laws below rest on: a framework for Go programs, and contracts of the functions that they reach. -/
import Derived.Test.YtbbjecpcjdmfgaaDoorSbF
set_option maxRecDepth 20000
set_option linter.unusedVariables false
set_option linter.unusedSimpArgs false
section
namespace Go.TVF
open Go.IntKind(i64 u8)
theorem JO {k:B8}:∀{es:List Kn},k∉es.map Kn.key->Ah k es=none
 | [],_=>rfl
 | .mk k' eb e::r,h=>by
  rw[List.map_cons,List.mem_cons,not_or]at h
  rw[Ah,if_neg (show ¬k=k' from h.1),JO h.2]
theorem IW {k:B8} {eb:Nat} {e x:En}:∀{es:List Kn},Ah k es=none->BN k x (es++[.mk k eb e])=es++[.mk k eb x]
 | [],_=>by rw[List.nil_append,BN,if_pos rfl];rfl
 | .mk k' eb' e'::r,h=>by
  rw[Ah]at h
  by_cases hk:k=k'
  ·rw[if_pos hk]at h;cases h
  ·rw[if_neg hk]at h
   rw[List.cons_append,BN,if_neg hk,IW h];rfl
theorem EL {k:B8} {eb:Nat} {e:En} {es:List Kn} (h:Ah k es=none):Ah k (es++[.mk k eb e])=some (eb,e):=by
 rw[Lh,h];simp
theorem TE {t:Tb} {k:B8} {eb:Nat} {e x:En} (h:Ah k t.es=none):CZ (AO t k eb e) k x=AO t k eb x:=by
 obtain⟨b,m,hd,es⟩:=t
 unfold CZ AO
 simp only[Tb.es,Tb.b,Tb.m,Tb.hd]at h⊢
 rw[IW h]
def Ce:Tb->List Hop->Prop
 | _,[]=>True
 | .mk _ _ _ es,(k,none)::h=>∃eb u,Ah k es=some (eb,.opn u)/\Ce u h
 | .mk _ _ _ es,(k,some i)::h=>∃eb l u,Ah k es=some (eb,.lst l)/\l[i]? =some u/\i+1=l.length/\Ce u h
theorem Ce.snoc:∀{h:List Hop} {T t:Tb} {g:List Hop},Ce T h->atT T h=some t->Ce t g->Ce T (h++g)
 | [],T,t,g,_,hA,hg=>by cases T;cases hA;exact hg
 | (k,none)::h,.mk b m hd es,t,g,hL,hA,hg=>by
  rw[Ce]at hL
  obtain⟨eb,u,hl,hL⟩:=hL
  rw[atT,hl]at hA
  rw[List.cons_append,Ce]
  exact⟨eb,u,hl,hL.snoc hA hg⟩
 | (k,some i)::h,.mk b m hd es,t,g,hL,hA,hg=>by
  rw[Ce]at hL
  obtain⟨eb,l,u,hl,hi,hlen,hL⟩:=hL
  rw[atT,hl]at hA
  simp only[hi]at hA
  rw[List.cons_append,Ce]
  exact⟨eb,l,u,hl,hi,hlen,hL.snoc hA hg⟩
theorem Ce.set:∀{h:List Hop} {T:Tb} (x:Tb),Ce T h->Ce (Ay T h x) h
 | [],T,x,_=>by cases x;unfold Ce;trivial
 | (k,none)::h,.mk b m hd es,x,hL=>by
  rw[Ce]at hL
  obtain⟨eb,u,hl,hL⟩:=hL
  rw[Ay,hl]
  simp only
  rw[Ce]
  exact⟨eb,_,D3 hl,hL.set x⟩
 | (k,some i)::h,.mk b m hd es,x,hL=>by
  rw[Ce]at hL
  obtain⟨eb,l,u,hl,hi,hlen,hL⟩:=hL
  rw[Ay,hl]
  simp only[hi]
  rw[Ce]
  exact⟨eb,_,_,D3 hl,List.getElem?_set_self (List.getElem?_eq_some_iff.1 hi).1,by rw[List.length_set];exact hlen,hL.set x⟩
theorem Ce.hops {nu:Nat->Nu} {T0:Tb}:∀{h:List Hop} {T:Tb} {g:List Hop} (j:Nat),atT T0 g=some T->Ce T h->hops nu true j T0 g (h.map Prod.fst)=some (T0,g++h)
 | [],T,g,j,_,_=>by rw[List.append_nil];rfl
 | (k,none)::h,.mk b m hd es,g,j,hA,hL=>by
  rw[Ce]at hL
  obtain⟨eb,u,hl,hL⟩:=hL
  have h1:DI (nu j) true T0 g k=some (T0,g++[(k,none)]):=by
   unfold DI
   rw[hA]
   simp only[Tb.es,hl]
  have:=Ce.hops (nu:=nu) (j+1) (LJ hA hl) hL
  rw[List.append_assoc]at this
  rw[List.map_cons,TVF.hops,h1]
  exact this
 | (k,some i)::h,.mk b m hd es,g,j,hA,hL=>by
  rw[Ce]at hL
  obtain⟨eb,l,u,hl,hi,hlen,hL⟩:=hL
  have h1:DI (nu j) true T0 g k=some (T0,g++[(k,some i)]):=by
   unfold DI
   rw[hA]
   simp only[Tb.es,hl,if_true]
   rw[show l.length-1=i by omega]
  have:=Ce.hops (nu:=nu) (j+1) (Ht hA hl hi) hL
  rw[List.append_assoc]at this
  rw[List.map_cons,TVF.hops,h1]
  exact this
structure Rm (T:Tb) (h:List Hop) (C L:Nat):Prop where
 va:Az (Af T)
 lv:lvV (Af T)<=48
 cn:(Af T).cnt+C<=65536
 dp:dpH h+L<=48
theorem Rm.check {T:Tb} {h:List Hop} {C L:Nat} (r:Rm T h C L):AQ (Af T)=0:=Bo.2 ⟨r.va,r.lv,by have:=r.cn;omega⟩
theorem Rm.add {T t:Tb} {h:List Hop} {C C' L:Nat} {k:B8} {eb:Nat} {e:En} (r:Rm T h C L) (hA:atT T h=some t) (hl:Ah k t.es=none) (h8:U8 k/\k.length<=1024) (he:Az (AH e)) (hc:(AH e).cnt+C'<=C) (hL:1+lvV (AH e)<=L):
  Rm (Ay T h (AO t k eb e)) h C' L:=by
 have c:=CR h hA (AO t k eb e)
 have c1:=c.cnt
 have c3:=c.lv
 have c4:=c.lvu
 rw[Jp]at c1
 rw[NB]at c3
 obtain⟨r1,r2,r3,r4⟩:=r
 exact⟨c.va r1 (Jw (c.vu r1) hl h8.1 h8.2 he),by omega,by omega,r4⟩
theorem Rm.deep {T:Tb} {h h':List Hop} {C C' L L':Nat} (r:Rm T h C L) (hc:C'<=C) (hd:dpH h'+L'<=dpH h+L):Rm T h' C' L':=by
 obtain⟨r1,r2,r3,r4⟩:=r
 exact⟨r1,r2,by omega,by omega⟩
structure Lk (v w:Vl):Prop where
 va:Az w
 cnt:w.cnt=v.cnt
 sz:w.sz=v.sz
 lv:lvV w<=lvV v
 srt:Eo w=Eo v
structure LkF (F G:List Fd):Prop where
 keys:G.map Fd.key=F.map Fd.key
 cnt:Av G=Av F
 sz:Bs G=Bs F
 lv:BI G<=BI F
 srt:FC G=FC F
structure LkL (l m:List Vl):Prop where
 va:AX m
 cnt:Aw m=Aw l
 sz:Bz m=Bz l
 lv:BS m<=BS l
 srt:Gt m=Gt l
theorem LkF.nil:LkF [] []:=⟨rfl,rfl,rfl,Nat.le_refl _,rfl⟩
theorem LkL.nil:LkL [] []:=⟨by unfold AX;trivial,rfl,rfl,Nat.le_refl _,rfl⟩
theorem LkF.cons {k:B8} {v w:Vl} {F G:List Fd} (h:Lk v w) (r:LkF F G):LkF (.mk k v::F) (.mk k w::G):=by
 obtain⟨h1,h2,hz,h3,h4⟩:=h
 obtain⟨r1,r2,rz,r3,r4⟩:=r
 refine⟨by simp only[List.map_cons,r1,Fd.key],by simp only[Av,Fd.cnt];omega,by simp only[Bs,Fd.sz];omega,by simp only[BI,lvD];omega,?_⟩
 rw[FC,FC,G7,G7,h4,r4]
theorem LkL.cons {v w:Vl} {l m:List Vl} (h:Lk v w) (r:LkL l m):LkL (v::l) (w::m):=by
 obtain⟨h1,h2,hz,h3,h4⟩:=h
 obtain⟨r1,r2,rz,r3,r4⟩:=r
 refine⟨by unfold AX;exact⟨h1,r1⟩,by simp only[Aw];omega,by simp only[Bz];omega,by simp only[BS];omega,?_⟩
 rw[Gt,Gt,h4,r4]
def Kw (d:Fd):Bool:=decide (d.val.sc.kind≠7/\Bw d.val=false)
def plF (f:List Fd):List Fd:=f.filter Kw
def npF (f:List Fd):List Fd:=f.filter fun d=> !Kw d
def FOk (f:List Fd):Prop:=Cm f/\∀d,d∈f->Az d.val/\U8 d.key/\d.key.length<=1024
theorem FOk.tail {d:Fd} {r:List Fd} (h:FOk (d::r)):FOk r:=⟨by have:=h.1;unfold Cm at this⊢;rw[List.map_cons,List.nodup_cons]at this;exact this.2,fun x hx=>h.2 x (.tail _ hx)⟩
theorem FOk.head {d:Fd} {r:List Fd} (h:FOk (d::r)):∀x,x∈r->x.key≠d.key:=fun x hx e=>by
 have:=h.1
 unfold Cm at this
 rw[List.map_cons,List.nodup_cons]at this
 exact this.1 (e▸List.mem_map_of_mem hx)
theorem KQ:∀{f:List Fd},Bb f->∀d,d∈f->Cl d
 | [],_,d,hd=>by cases hd
 | x::r,h,d,hd=>by
  unfold Bb at h
  rcases List.mem_cons.1 hd with rfl | hd
  ·exact h.1
  ·exact KQ h.2 d hd
theorem Ry {s:Sc} {l:List Vl} {f:List Fd} (h:Az (.mk s l f)) (hk:s.kind=7):s=scM/\l=[]/\FOk f:=by
 unfold Az at h
 obtain⟨h1,h2,h3⟩:=h
 have o:=h1.own
 obtain⟨k1,k2⟩:=Jg _ _ h1.keys
 refine⟨?_,o.ls (by omega),k1,fun d hd=>⟨?_,(k2 d hd).2.1,(k2 d hd).2.2⟩⟩
 ·obtain⟨n1,n2,n3⟩:=o.nu (by omega)
  obtain⟨t1,t2,t3,t4⟩:=o.ti (by omega)
  have b1:=o.bo (by omega)
  have x1:=o.tx (by omega)
  have y1:=o.by_ (by omega)
  cases s
  simp only at hk n1 n2 n3 t1 t2 t3 t4 b1 x1 y1
  subst hk n1 n2 n3 t1 t2 t3 t4 b1 x1 y1
  rfl
 ·have:=KQ h3 d hd;cases d;unfold Cl at this;exact this
theorem Sv {i:Nat} {T t:Tb} {h:List Hop} {k:B8} {x:Vl} (hA:atT T h=some t) (hl:Ah k t.es=none):BA i T h ⟨false,false,[k],x⟩= .ok (Ay T h (AO t k 0 (.clo x i)),h):=by
 unfold BA CI
 rw[if_neg (by simp[Cz])]
 show Ca n0 _ i T h h k=_
 unfold Ca
 rw[hA]
 simp only[Bool.false_eq_true,if_false,hl]
 rfl
theorem M6:J4 vlO=true:=by decide
theorem st_head {i:Nat} {T t:Tb} {cur h:List Hop} {k:B8} (hL:Ce T h) (hA:atT T h=some t) (hl:Ah k t.es=none):
  BA i T cur (aT (h.map Prod.fst++[k]))= .ok (Ay T h (AO t k 0 (.opn (AI n0 true))),h++[(k,none)]):=by
 unfold BA CI aT
 rw[if_neg (by simp[Cz,M6])]
 simp only[if_true,List.dropLast_concat,List.getLastD_concat]
 rw[Ce.hops (g:=[]) 0 (by cases T;rfl) hL]
 simp only[List.nil_append]
 unfold Ca
 rw[hA]
 simp only[Bool.false_eq_true,if_false,if_true,hl]
 rfl
theorem Sw {i:Nat} {T t:Tb} {cur h:List Hop} {k:B8} (hL:Ce T h) (hA:atT T h=some t) (hl:Ah k t.es=none):
  BA i T cur (aE (h.map Prod.fst++[k]))= .ok (Ay T h (AO t k 0 (.lst [AI n0 false])),h++[(k,some 0)]):=by
 unfold BA CI aE
 rw[if_neg (by simp[Cz,M6])]
 simp only[if_true,List.dropLast_concat,List.getLastD_concat]
 rw[Ce.hops (g:=[]) 0 (by cases T;rfl) hL]
 simp only[List.nil_append]
 unfold Ca
 rw[hA]
 simp only[if_true,hl]
 rfl
theorem st_elem {i eb:Nat} {T t:Tb} {cur h:List Hop} {k:B8} {l:List Tb} (hL:Ce T h) (hA:atT T h=some t) (hl:Ah k t.es=some (eb,.lst l)):
  BA i T cur (aE (h.map Prod.fst++[k]))= .ok (Ay T h (CZ t k (.lst (l++[AI n0 false]))),h++[(k,some l.length)]):=by
 unfold BA CI aE
 rw[if_neg (by simp[Cz,M6])]
 simp only[if_true,List.dropLast_concat,List.getLastD_concat]
 rw[Ce.hops (g:=[]) 0 (by cases T;rfl) hL]
 simp only[List.nil_append]
 unfold Ca
 rw[hA]
 simp only[if_true,hl]
theorem Gk:∀(l r:List Asg) (i:Nat) (T:Tb) (cur:List Hop) {T':Tb} {cur':List Hop},BW i T cur l= .ok (T',cur')->BW i T cur (l++r)=BW (i+l.length) T' cur' r
 | [],r,i,T,cur,T',cur',h=>by rw[BW]at h;cases h;rfl
 | a::l,r,i,T,cur,T',cur',h=>by
  rw[BW]at h
  rw[List.cons_append,BW]
  cases hs:BA i T cur a with
  | error e=>rw[hs]at h;cases h
  | ok p=>
   obtain⟨T1,c1⟩:=p
   rw[hs]at h
   simp only at h⊢
   by_cases hc:AQ (Af T1)=0
   ·rw[if_pos hc]at h⊢
    rw[Gk l r _ _ _ h,List.length_cons,show i+1+l.length=i+(l.length+1) by omega]
   ·rw[if_neg hc]at h;cases h
theorem LN {i:Nat} {T T':Tb} {cur cur':List Hop} {a:Asg} (r:List Asg) (h:BA i T cur a= .ok (T',cur')) (hc:AQ (Af T')=0):BW i T cur (a::r)=BW (i+1) T' cur' r:=by
 rw[BW,h]
 simp only
 rw[if_pos hc]
theorem MC (t:Tb) (k:B8) (eb:Nat) (e:En):(AO t k eb e).es.map Kn.key=t.es.map Kn.key++[k]:=by
 unfold AO
 simp only[Tb.es,List.map_append,List.map_cons,List.map_nil,Kn.key]
theorem Mk (t:Tb) (k:B8) (eb:Nat) (e:En):AJ (AO t k eb e).es=AJ t.es++[.mk k (AH e)]:=by
 unfold AO
 simp only[Tb.es]
 rw[Hz,AJ,AJ]
theorem F8 (d:Fd) (r:List Fd):plF (d::r)=if Kw d=true then d::plF r else plF r:=by unfold plF;rw[List.filter_cons]
theorem F9 (d:Fd) (r:List Fd):npF (d::r)=if Kw d=true then npF r else d::npF r:=by
 unfold npF;rw[List.filter_cons];cases Kw d<;>rfl
theorem JI:∀(f:List Fd) (i:Nat) (T:Tb) (h:List Hop) (t:Tb) (C L:Nat),atT T h=some t->FOk f->(∀d,d∈f->d.key∉t.es.map Kn.key)->Rm T h (Av (plF f)+C) L->1+BI (plF f)<=L->
  ∃t',BW i T h (AB f)= .ok (Ay T h t',h)/\AJ t'.es=AJ t.es++plF f/\Rm (Ay T h t') h C L
 | [],i,T,h,t,C,L,hA,_,_,r,_=>⟨t,by rw[AB,BW,FW h hA],by simp[plF],by rw[FW h hA];exact r.deep (by omega) (Nat.le_refl _)⟩
 | .mk k x::f,i,T,h,t,C,L,hA,hf,hk,r,hL=>by
  by_cases hp:Kw (.mk k x)=true
  ·have hp':x.sc.kind≠7/\Bw x=false:=by unfold Kw at hp;exact of_decide_eq_true hp
   rw[F8,if_pos hp]at r hL⊢
   rw[Av,Fd.cnt]at r
   rw[BI,lvD]at hL
   have hl:=JO (hk _ (.head _))
   simp only[Fd.key]at hl
   obtain⟨v1,v2,v3⟩:=hf.2 _ (.head _)
   simp only[Fd.val,Fd.key]at v1 v2 v3
   have r1:Rm (Ay T h (AO t k 0 (.clo x i))) h (Av (plF f)+C) L:=r.add hA hl ⟨v2,v3⟩ v1 (by rw[AH];omega) (by rw[AH];omega)
   obtain⟨t',h1,h2,h3⟩:=JI f (i+1) _ h _ C L (BJ h hA) hf.tail (fun d hd=>by
    rw[MC,List.mem_append,not_or]
    exact⟨hk d (.tail _ hd),fun e=>hf.head d hd (by simpa [Fd.key]using e)⟩) r1 (by omega)
   rw[CX h hA]at h1 h3
   refine⟨t',?_,?_,h3⟩
   ·rw[AB,if_pos hp',LN _ (Sv hA hl) r1.check];exact h1
   ·rw[h2,Mk,AH,List.append_assoc];rfl
  ·have hp':¬(x.sc.kind≠7/\Bw x=false):=by unfold Kw at hp;exact fun e=>hp (decide_eq_true e)
   rw[F8,if_neg hp]at r hL⊢
   rw[AB,if_neg hp']
   exact JI f i T h t C L hA hf.tail (fun d hd=>hk d (.tail _ hd)) r hL
def Bk (v:Vl):Prop:=∀(i:Nat) (T:Tb) (h:List Hop) (t:Tb),atT T h=some t->t.es=[]->Ce T h->Rm T h (v.cnt-1) (lvV v)->
 ∃t' cur',BW i T h (E4 (h.map Prod.fst) v)= .ok (Ay T h t',cur')/\Lk v (Af t')
def BkX (x:Vl):Prop:=∀(i:Nat) (T:Tb) (cur h:List Hop) (t:Tb) (k:B8) (C L:Nat),atT T h=some t->Ce T h->Ah k t.es=none->(U8 k/\k.length<=1024)->Rm T h (x.cnt+C) L->1+lvV x<=L->
 ∃e cur',BW i T cur (HS (h.map Prod.fst++[k]) x)= .ok (Ay T h (AO t k 0 e),cur')/\Lk x (AH e)
def BkF (f:List Fd):Prop:=∀(i:Nat) (T:Tb) (cur h:List Hop) (t:Tb) (C L:Nat),atT T h=some t->Ce T h->FOk f->(∀d,d∈f->Kw d=false->d.key∉t.es.map Kn.key)->Rm T h (Av (npF f)+C) L->1+BI (npF f)<=L->
 ∃t' cur' G,BW i T cur (Br (h.map Prod.fst) f)= .ok (Ay T h t',cur')/\AJ t'.es=AJ t.es++G/\LkF (npF f) G/\Rm (Ay T h t') h C L
def BkL (l:List Vl):Prop:=∀(i:Nat) (T T0:Tb) (cur h:List Hop) (t:Tb) (k:B8) (done:List Tb) (C L:Nat),atT T0 h=some t->Ce T0 h->Ah k t.es=none->(U8 k/\k.length<=1024)->
 (done=[]/\T=T0∨done≠ []/\T=Ay T0 h (AO t k 0 (.lst done)))->AX (AZ done)->(l=[]->done≠ [])->Rm T0 h (1+Aw (AZ done)+Aw l+C) L->2+max (BS (AZ done)) (BS l)<=L->
 ∃don2 cur',BW i T cur (elL (h.map Prod.fst++[k]) l)= .ok (Ay T0 h (AO t k 0 (.lst (done++don2))),cur')/\LkL l (AZ don2)
theorem set_new {T t u:Tb} {h:List Hop} {k:B8} {eb:Nat} (hA:atT T h=some t) (hl:Ah k t.es=none) (u':Tb):
  Ay (Ay T h (AO t k eb (.opn u))) (h++[(k,none)]) u'=Ay T h (AO t k eb (.opn u')):=by
 rw[HC h _ (BJ h hA),CX h hA]
 congr 1
 obtain⟨b,m,hd,es⟩:=t
 unfold AO
 simp only[Tb.es,Tb.b,Tb.m,Tb.hd]at hl⊢
 rw[Ay,EL hl]
 simp only
 rw[IW hl]
 cases u;rfl
theorem set_el {T t u:Tb} {h:List Hop} {k:B8} {eb:Nat} {l:List Tb} (hA:atT T h=some t) (hl:Ah k t.es=none) (u':Tb):
  Ay (Ay T h (AO t k eb (.lst (l++[u])))) (h++[(k,some l.length)]) u'=Ay T h (AO t k eb (.lst (l++[u']))):=by
 rw[HC h _ (BJ h hA),CX h hA]
 congr 1
 obtain⟨b,m,hd,es⟩:=t
 unfold AO
 simp only[Tb.es,Tb.b,Tb.m,Tb.hd]at hl⊢
 rw[Ay,EL hl]
 simp only[List.getElem?_concat_length]
 rw[IW hl]
 have:(l++[u]).set l.length (Ay u [] u')=l++[u']:=by
  rw[List.set_append,if_neg (by omega),Nat.sub_self]
  cases u;rfl
 rw[this]
theorem perm_pl (f:List Fd):(plF f++npF f).Perm f:=by
 induction f with
 | nil=>exact List.Perm.refl _
 | cons d r ih=>
  rw[F8,F9]
  split
  ·exact ih.cons d
  ·exact(List.perm_middle).trans (ih.cons d)
theorem cnt_pl (f:List Fd):Av f=Av (plF f)+Av (npF f):=by
 induction f with
 | nil=>rfl
 | cons d r ih=>
  rw[F8,F9]
  split<;>simp only[Av]<;>omega
theorem sz_pl (f:List Fd):Bs f=Bs (plF f)+Bs (npF f):=by
 induction f with
 | nil=>rfl
 | cons d r ih=>
  rw[F8,F9]
  split<;>simp only[Bs]<;>omega
theorem lv_pl (f:List Fd):BI f=max (BI (plF f)) (BI (npF f)):=by
 induction f with
 | nil=>rfl
 | cons d r ih=>
  rw[F8,F9]
  split<;>simp only[BI]<;>omega
theorem RH {F G:List Fd} (hk:Cm F) (p:G.Perm F):Dn G=Dn F:=by
 have hg:Cm G:=((p.map Fd.key).nodup_iff).2 hk
 have h1:Cm (Dn G):=(((CJ G).map Fd.key).nodup_iff).2 hg
 exact KX h1 (Io G) (Io F) (((CJ G).trans p).trans (CJ F).symm)
theorem bk_of {s:Sc} {l:List Vl} {f:List Fd} (hv:Az (.mk s l f)) (hk:s.kind=7) (hf:BkF f):Bk (.mk s l f):=by
 intro i T h t hA hes hL r
 obtain⟨rfl,rfl,hfo⟩:=Ry hv hk
 have hc:(Vl.mk scM [] f).cnt=1+Av f:=by unfold Vl.cnt;simp[Aw]
 have hlv:lvV (.mk scM [] f)=1+BI f:=by rw[lvV,BS];omega
 have c0:=cnt_pl f
 have l0:=lv_pl f
 rw[hc,hlv]at r
 obtain⟨t1,h1,h2,h3⟩:=JI f i T h t (Av (npF f)+0) (1+BI f) hA hfo (fun d hd=>by rw[hes];simp) (r.deep (by omega) (Nat.le_refl _)) (by omega)
 rw[hes,AJ,List.nil_append]at h2
 have hkeys:t1.es.map Kn.key=(plF f).map Fd.key:=by rw[<-O0,h2]
 obtain⟨t2,cur2,G,g1,g2,g3,g4⟩:=hf (i+(AB f).length) (Ay T h t1) h h t1 0 (1+BI f) (BJ h hA) (hL.set t1) hfo (fun d hd hp e=>by
  rw[hkeys]at e
  obtain⟨d',hd',he⟩:=List.mem_map.1 e
  unfold plF at hd'
  obtain⟨hd1,hd2⟩:=List.mem_filter.1 hd'
  have:=Q3 hfo.1 hd1 hd he
  rw[this,hp]at hd2
  cases hd2) h3 (by omega)
 rw[CX h hA]at g1 g4
 refine⟨t2,cur2,?_,?_⟩
 ·show BW i T h (AB f++Br (h.map Prod.fst) f)=_
  rw[Gk _ _ _ _ _ h1,g1]
 ·have hval:Af t2= .mk scM [] (plF f++G):=by rw[Eh,g2,h2]
  have hva:Az (Af t2):=(CR h (BJ h hA) t2).vu g4.va
  rw[hval]at hva⊢
  refine⟨hva,?_,?_,?_,?_⟩
  ·unfold Vl.cnt;rw[DR,g3.cnt];simp only[Aw];omega
  ·rw[szs,szs,Hm,g3.sz,sz_pl f]
  ·rw[lvV,hlv,BS,Jb];have:=g3.lv;omega
  ·rw[Eo,Eo]
   congr 1
   have e1:FC (plF f++G)=(plF f++npF f).map G7:=by
    have:=g3.srt
    rw[Dm,Dm]at this
    rw[Dm,List.map_append,List.map_append,this]
   rw[e1,Dm]
   refine RH ?_ ((perm_pl f).map G7)
   unfold Cm
   rw[List.map_map,show(Fd.key∘G7)=Fd.key from funext fun d=>Jz d]
   exact hfo.1
theorem KP {s:Sc} {l:List Vl} {f:List Fd} (h:Az (.mk s l f)) (hm:EC l=true):s=scL/\f=[]/\l≠ []/\∀x,x∈l->x.sc.kind=7:=by
 unfold Az at h
 obtain⟨h1,h2,h3⟩:=h
 have o:=h1.own
 unfold EC at hm
 rw[Bool.and_eq_true]at hm
 obtain⟨m1,m2⟩:=hm
 have hne:l≠ []:=by intro e;rw[e]at m1;cases m1
 have hk:s.kind=6:=Decidable.byContradiction fun hk=>hne (o.ls hk)
 refine⟨?_,o.fs (by omega),hne,fun x hx=>of_decide_eq_true (List.all_eq_true.1 m2 x hx)⟩
 obtain⟨n1,n2,n3⟩:=o.nu (by omega)
 obtain⟨t1,t2,t3,t4⟩:=o.ti (by omega)
 have b1:=o.bo (by omega)
 have x1:=o.tx (by omega)
 have y1:=o.by_ (by omega)
 cases s
 simp only at hk n1 n2 n3 t1 t2 t3 t4 b1 x1 y1
 subst hk n1 n2 n3 t1 t2 t3 t4 b1 x1 y1
 rfl
theorem SU (v:Vl):1<=lvV v:=by cases v;rw[lvV];omega
theorem cnt_pos (v:Vl):1<=v.cnt:=by cases v;unfold Vl.cnt;omega
theorem bkx_map {x:Vl} (hk:x.sc.kind=7) (hb:Bk x):BkX x:=by
 intro i T cur h t k C L hA hL hl h8 r hLv
 have p1:=SU x
 have p2:=cnt_pos x
 have r1:Rm (Ay T h (AO t k 0 (.opn (AI n0 true)))) h (x.cnt-1+C) L:=r.add hA hl h8 (by rw[AH];exact B1 _ _) (by rw[CQ];omega) (by rw[AH,GC];omega)
 have hA1:atT (Ay T h (AO t k 0 (.opn (AI n0 true)))) (h++[(k,none)])=some (AI n0 true):=J2 (nu:=n0) hA hl
 have hL1:Ce (Ay T h (AO t k 0 (.opn (AI n0 true)))) (h++[(k,none)]):=(hL.set _).snoc (BJ h hA) (by unfold AO;rw[Ce];exact⟨_,_,EL hl,by unfold Ce;trivial⟩)
 obtain⟨t',cur',g1,g2⟩:=hb (i+1) _ _ _ hA1 rfl hL1 (r1.deep (by omega) (by rw[GK];show dpH h+1+lvV x<=_;omega))
 rw[set_new hA hl]at g1
 refine⟨.opn t',cur',?_,by rw[AH];exact g2⟩
 rw[Ok hk,LN _ (st_head hL hA hl) r1.check]
 rw[List.map_append]at g1
 exact g1
mutual
theorem bkV:∀v:Vl,Az v->(v.sc.kind=7->Bk v)/\(v.sc.kind=7∨Bw v=true->BkX v)
 | .mk s l f,hv=>by
  have hf:=bkFs f (by unfold Az at hv;exact hv.2.2)
  have hl:=bkLs l (by unfold Az at hv;exact hv.2.1)
  by_cases hk:s.kind=7
  ·have:=bk_of hv hk hf
   exact⟨fun _=>this,fun _=>bkx_map hk this⟩
  ·refine⟨fun h=>absurd h hk,fun h=>?_⟩
   have hm:EC l=true:=h.resolve_left hk
   obtain⟨rfl,rfl,hne,hall⟩:=KP hv hm
   intro i T cur h t k C L hA hL hln h8 r hLv
   have hc:(Vl.mk scL l []).cnt=1+Aw l:=by unfold Vl.cnt;simp[Av]
   have hlv:lvV (.mk scL l [])=1+BS l:=by rw[lvV,BI];omega
   rw[hc]at r
   rw[hlv]at hLv
   obtain⟨don,cur',g1,g2⟩:=hl hall i T T cur h t k [] C L hA hL hln h8 (.inl ⟨rfl,rfl⟩) (by unfold AZ AX;trivial) (fun e=>absurd e hne) (r.deep (by simp only[AZ,Aw];omega) (Nat.le_refl _)) (by simp only[AZ,BS];omega)
   rw[List.nil_append]at g1
   refine⟨.lst don,cur',?_,?_⟩
   ·rw[Ol (v:= .mk scL l []) hk (show EC l=true from hm)];exact g1
   ·rw[AH]
    obtain⟨k1,k2,kz,k3,k4⟩:=g2
    exact⟨Hx k1,by rw[hc];unfold Vl.cnt;rw[k2];simp[Av],by rw[szs,szs,kz],by rw[hlv,lvV,BI];omega,by rw[Eo,Eo,k4]⟩
theorem bkFs:∀f:List Fd,Bb f->BkF f
 | [],_=>fun i T cur h t C L hA _ _ _ r _=>⟨t,cur,[],by rw[Br,BW,FW h hA],by simp,LkF.nil,by rw[FW h hA];exact r.deep (by omega) (Nat.le_refl _)⟩
 | .mk k x::f,hv=>by
  unfold Bb at hv
  have hd:x.sc.kind=7∨Bw x=true->BkX x:=bkD (.mk k x) hv.1
  have hf:=bkFs f hv.2
  intro i T cur h t C L hA hL hfo hk r hLv
  by_cases hp:Kw (.mk k x)=true
  ·have hp':x.sc.kind≠7/\Bw x=false:=by unfold Kw at hp;exact of_decide_eq_true hp
   rw[F9,if_pos hp]at r hLv⊢
   rw[Br,PH,HB hp'.1 hp'.2,List.nil_append]
   exact hf i T cur h t C L hA hL hfo.tail (fun d hd=>hk d (.tail _ hd)) r hLv
  ·have hp':x.sc.kind=7∨Bw x=true:=by
    unfold Kw at hp
    by_cases h7:x.sc.kind=7
    ·exact .inl h7
    ·refine .inr ?_
     cases hm:Bw x with
     | true=>rfl
     | false=>exact absurd (decide_eq_true ⟨h7,hm⟩) hp
   rw[F9,if_neg hp]at r hLv⊢
   rw[Av,Fd.cnt]at r
   rw[BI,lvD]at hLv
   have hl:=JO (hk _ (.head _) (by simpa using hp))
   simp only[Fd.key]at hl
   obtain⟨v1,v2,v3⟩:=hfo.2 _ (.head _)
   simp only[Fd.val,Fd.key]at v1 v2 v3
   obtain⟨e,cur1,g1,g2⟩:=hd hp' i T cur h t k (Av (npF f)+C) L hA hL hl ⟨v2,v3⟩ (r.deep (by omega) (Nat.le_refl _)) (by omega)
   have e1:=g2.cnt
   have e2:=g2.lv
   have r1:Rm (Ay T h (AO t k 0 e)) h (Av (npF f)+C) L:=r.add hA hl ⟨v2,v3⟩ g2.va (by omega) (by omega)
   obtain⟨t',cur',G,k1,k2,k3,k4⟩:=hf (i+(HS (h.map Prod.fst++[k]) x).length) _ cur1 h _ C L (BJ h hA) (hL.set _) hfo.tail (fun d hd hpd=>by
    rw[MC,List.mem_append,not_or]
    exact⟨hk d (.tail _ hd) hpd,fun e=>hfo.head d hd (by simpa [Fd.key]using e)⟩) r1 (by omega)
   rw[CX h hA]at k1 k4
   refine⟨t',cur',.mk k (AH e)::G,?_,?_,LkF.cons g2 k3,k4⟩
   ·rw[Br,PH,Gk _ _ _ _ _ g1,k1]
   ·rw[k2,Mk,List.append_assoc];rfl
theorem bkD:∀d:Fd,Cl d->(d.val.sc.kind=7∨Bw d.val=true->BkX d.val)
 | .mk k x,hv=>(bkV x (by unfold Cl at hv;exact hv)).2
theorem bkLs:∀l:List Vl,AX l->(∀x,x∈l->x.sc.kind=7)->BkL l
 | [],_,_=>by
  intro i T T0 cur h t k done C L hA hL hl h8 hT _ hne r hLv
  rcases hT with⟨e,_⟩ | ⟨_,rfl⟩
  ·exact absurd e (hne rfl)
  ·exact⟨[],cur,by rw[elL,BW,List.append_nil],LkL.nil⟩
 | x::l,hv,hall=>by
  unfold AX at hv
  have hx:=(bkV x hv.1).1 (hall x (.head _))
  have hr:=bkLs l hv.2 (fun y hy=>hall y (.tail _ hy))
  intro i T T0 cur h t k done C L hA hL hl h8 hT hvd hne r hLv
  have p1:=SU x
  have p2:=cnt_pos x
  rw[Aw]at r
  rw[BS]at hLv
  have hcl:∀(d:List Tb) (u:Tb),AZ (d++[u])=AZ d++[Af u]:=fun d u=>by rw[B6,B6,List.map_append];rfl
  have hce:∀d:List Tb,(AH (.lst d)).cnt=1+Aw (AZ d):=fun d=>by rw[AH];unfold Vl.cnt;simp[Av]
  have hle:∀d:List Tb,lvV (AH (.lst d))=1+BS (AZ d):=fun d=>by rw[AH,lvV,BI];omega
  have hone:∀u:Tb,Aw [Af u]=(Af u).cnt/\BS [Af u]=lvV (Af u):=fun u=>by simp only[Aw,BS];omega
  have hnc:(Af (AI n0 false)).cnt=1:=by have:=CQ n0 false;rw[AH]at this;exact this
  have hvs:∀(d:List Tb) (u:Tb),AX (AZ d)->Az (Af u)->Az (AH (.lst (d++[u]))):=fun d u h1 h2=>by
   rw[AH,hcl]
   exact Hx ((DL _ _).2 ⟨h1,by unfold AX;exact⟨h2,by unfold AX;trivial⟩⟩)
  have hadd:∀(u:Tb) (C':Nat),Az (Af u)->(Af u).cnt+C'<=x.cnt+Aw l+C->lvV (Af u)<=lvV x->Rm (Ay T0 h (AO t k 0 (.lst (done++[u])))) h C' L:=fun u C' h1 h2 h3=>by
   obtain⟨q1,q2⟩:=hone u
   exact r.add hA hl h8 (hvs done u hvd h1) (by rw[hce,hcl,CV];omega) (by rw[hle,hcl,Hi];omega)
  have r1:=hadd (AI n0 false) (x.cnt-1+Aw l+C) (B1 _ _) (by omega) (by rw[GC];omega)
  have hst:BA i T cur (aE (h.map Prod.fst++[k]))= .ok (Ay T0 h (AO t k 0 (.lst (done++[AI n0 false]))),h++[(k,some done.length)]):=by
   rcases hT with⟨rfl,rfl⟩ | ⟨_,rfl⟩
   ·exact Sw hL hA hl
   ·have:=st_elem (i:=i) (cur:=cur) (hL.set (AO t k 0 (.lst done))) (BJ h hA) (EL hl)
    rw[TE hl,CX h hA]at this
    exact this
  have hA1:atT (Ay T0 h (AO t k 0 (.lst (done++[AI n0 false])))) (h++[(k,some done.length)])=some (AI n0 false):=Ht (BJ h hA) (EL hl) (by rw[List.getElem?_concat_length])
  have hL1:Ce (Ay T0 h (AO t k 0 (.lst (done++[AI n0 false])))) (h++[(k,some done.length)]):=(hL.set _).snoc (BJ h hA) (by
   unfold AO;rw[Ce]
   exact⟨_,_,_,EL hl,by rw[List.getElem?_concat_length],by rw[List.length_append];rfl,by unfold Ce;trivial⟩)
  obtain⟨t',cur1,g1,g2⟩:=hx (i+1) _ _ _ hA1 rfl hL1 (r1.deep (by omega) (by rw[GK];show dpH h+2+lvV x<=_;omega))
  rw[set_el hA hl,List.map_append,List.map_cons,List.map_nil]at g1
  have e1:=g2.cnt
  have e2:=g2.lv
  obtain⟨q1,q2⟩:=hone t'
  obtain⟨don2,cur',k1,k2⟩:=hr (i+1+(E4 (h.map Prod.fst++[k]) x).length) _ T0 cur1 h t k (done++[t']) C L hA hL hl h8 (.inr ⟨by simp,rfl⟩)
   (by rw[hcl];exact(DL _ _).2 ⟨hvd,by unfold AX;exact⟨g2.va,by unfold AX;trivial⟩⟩) (fun _=>by simp) (r.deep (by rw[hcl,CV];omega) (Nat.le_refl _)) (by rw[hcl,Hi];omega)
  refine⟨t'::don2,cur',?_,?_⟩
  ·rw[elL,Tv,List.cons_append,LN _ hst r1.check,Gk _ _ _ _ _ g1,k1,List.append_assoc];rfl
  ·rw[AZ];exact LkL.cons g2 k2
end
theorem Sy {v:Vl} (hc:AQ v=0) (hk:v.sc.kind=7):∃T cur,Dz (E4 [] v)= .ok (T,cur)/\Eo (Af T)=Eo v/\(Af T).sz=v.sz/\Az (Af T):=by
 obtain⟨h1,h2,h3⟩:=Bo.1 hc
 have p2:=cnt_pos v
 have hn:(Af T00).cnt=1:=by have:=CQ n0 false;rw[AH]at this;exact this
 obtain⟨t',cur',g1,g2⟩:=(bkV v h1).1 hk 0 T00 [] T00 rfl rfl (by unfold Ce;trivial) ⟨B1 n0 false,by rw[show T00=AI n0 false from rfl,GC];omega,by omega,by show 0+_<=48;omega⟩
 refine⟨t',cur',?_,g2.srt,g2.sz,g2.va⟩
 unfold Dz
 rw[show(T00:Tb)=T00 from rfl]
 have:Ay T00 [] t'=t':=by cases t';rfl
 rw[<-this]
 exact g1
theorem FX {T t t':Tb} {h:List Hop} (hA:atT T h=some t) (hz:(Af t).sz<=(Af t').sz):(Af T).sz<=(Af (Ay T h t')).sz:=by
 have:=(CR h hA t').sz;omega
theorem Jr (t:Tb) (k:B8) (eb:Nat) (e:En):(Af t).sz<=(Af (AO t k eb e)).sz:=by rw[PI];omega
theorem Tg {nu:Nu} {hd:Bool} {T T':Tb} {h h':List Hop} {k:B8} (hh:DI nu hd T h k=some (T',h')):(Af T).sz<=(Af T').sz:=by
 unfold DI at hh
 cases hA:atT T h with
 | none=>rw[hA]at hh;cases hh
 | some t=>
  rw[hA]at hh
  simp only at hh
  rcases hl:Ah k t.es with _ | ⟨eb,u | l | ⟨v,i⟩⟩<;>rw[hl]at hh<;>simp only[Option.some.injEq,Prod.mk.injEq,reduceCtorEq]at hh
  ·obtain⟨rfl,_⟩:=hh;exact FX hA (Jr _ _ _ _)
  ·obtain⟨rfl,_⟩:=hh;exact Nat.le_refl _
  ·split at hh
   ·simp only[Option.some.injEq,Prod.mk.injEq]at hh;obtain⟨rfl,_⟩:=hh;exact Nat.le_refl _
   ·cases hh
theorem MF {nu:Nat->Nu} {hd:Bool}:∀(ks:List B8) (j:Nat) {T T':Tb} {h h':List Hop},hops nu hd j T h ks=some (T',h')->(Af T).sz<=(Af T').sz
 | [],j,T,T',h,h',hh=>by cases hh;exact Nat.le_refl _
 | k::ks,j,T,T',h,h',hh=>by
  unfold hops at hh
  cases hp:DI (nu j) hd T h k with
  | none=>rw[hp]at hh;cases hh
  | some p=>
   obtain⟨T1,h1⟩:=p
   rw[hp]at hh
   exact Nat.le_trans (Tg hp) (MF ks (j+1) hh)
theorem RW {nu:Nu} {a:Asg} {i:Nat} {T T':Tb} {h cur cur':List Hop} {k:B8} (hh:Ca nu a i T h cur k= .ok (T',cur')):(Af T).sz<=(Af T').sz:=by
 unfold Ca at hh
 cases hA:atT T h with
 | none=>rw[hA]at hh;cases hh
 | some t=>
  rw[hA]at hh
  simp only at hh
  split at hh
  ·rcases hl:Ah k t.es with _ | ⟨eb,u | l | ⟨v,j⟩⟩<;>rw[hl]at hh<;>simp only[Except.ok.injEq,Prod.mk.injEq,reduceCtorEq]at hh
   ·obtain⟨rfl,_⟩:=hh;exact FX hA (Jr _ _ _ _)
   ·obtain⟨rfl,_⟩:=hh
    refine FX hA ?_
    have:=(NV (x:= .lst (l++[AI nu false])) hl).sz
    rw[QT,AH,szs,szs,G0]at this
    omega
  ·split at hh
   ·rcases hl:Ah k t.es with _ | ⟨eb,u | l | ⟨v,j⟩⟩<;>rw[hl]at hh<;>simp only[Except.ok.injEq,Prod.mk.injEq,reduceCtorEq]at hh
    ·obtain⟨rfl,_⟩:=hh;exact FX hA (Jr _ _ _ _)
    ·split at hh
     ·cases hh
     ·simp only[Except.ok.injEq,Prod.mk.injEq]at hh
      obtain⟨rfl,_⟩:=hh
      refine FX hA ?_
      have:=(NV (x:= .opn (CA u)) hl).sz
      rw[AH,AH,G4]at this
      omega
   ·rcases hl:Ah k t.es with _ | ⟨eb,e⟩<;>rw[hl]at hh<;>simp only[Except.ok.injEq,Prod.mk.injEq,reduceCtorEq]at hh
    obtain⟨rfl,_⟩:=hh;exact FX hA (Jr _ _ _ _)
theorem RC {i:Nat} {T T':Tb} {cur cur':List Hop} {a:Asg} (hh:BA i T cur a= .ok (T',cur')):(Af T).sz<=(Af T').sz:=by
 unfold BA CI at hh
 split at hh
 ·cases hh
 ·split at hh
  ·cases hh
  ·rename_i T1 h1 hp
   exact Nat.le_trans (MF _ _ hp) (RW hh)
theorem MU:∀(l:List Asg) (i:Nat) {T T':Tb} {cur cur':List Hop},BW i T cur l= .ok (T',cur')->(Af T).sz<=(Af T').sz
 | [],i,T,T',cur,cur',h=>by rw[BW]at h;cases h;exact Nat.le_refl _
 | a::r,i,T,T',cur,cur',h=>by
  rw[BW]at h
  cases hs:BA i T cur a with
  | error e=>rw[hs]at h;cases h
  | ok p=>
   obtain⟨T1,c1⟩:=p
   rw[hs]at h
   simp only at h
   by_cases hc:AQ (Af T1)=0
   ·rw[if_pos hc]at h
    exact Nat.le_trans (RC hs) (MU r _ h)
   ·rw[if_neg hc]at h;cases h
theorem PU {l:List Asg} {j:Nat} {T T':Tb} {cur cur':List Hop} (h:Dz l= .ok (T,cur)) (h':Dz (l.take j)= .ok (T',cur')):(Af T').sz<=(Af T).sz:=by
 unfold Dz at h h'
 rw[<-List.take_append_drop j l,Gk _ _ _ _ _ h']at h
 exact MU _ _ h
theorem kz_snoc (ks:List B8) (k:B8):kz (ks++[k])=kz ks+k.length+1:=by
 unfold kz;rw[List.map_append,List.sum_append];simp;omega
mutual
theorem KD:∀(f:List Fd) (ks:List B8) (x:Asg),x∈AB f++Br ks f->x.val.sz<=Bs f+1/\x.keys.length<=ks.length+1+BI f/\kz x.keys<=kz ks+Bs f
 | [],ks,x,hx=>by
  rw[AB,Br]at hx
  cases hx
 | .mk k v::r,ks,x,hx=>by
  have h1:=KD r ks x
  have h3:=tab_kz v (ks++[k]) x
  have hz:(Fd.mk k v).sz=k.length+v.sz:=szd k v
  have hlen:(ks++[k]).length=ks.length+1:=by simp
  have hks:=kz_snoc ks k
  have hp:=v.sz_pos
  rw[Bs,BI,lvD]
  rw[AB,Br,PH]at hx
  have hx':x=⟨false,false,[k],v⟩∨x∈AB r++Br ks r∨x∈HS (ks++[k]) v:=by
   rcases List.mem_append.1 hx with hx | hx
   ·split at hx
    ·rcases List.mem_cons.1 hx with hx | hx
     ·exact .inl hx
     ·exact .inr (.inl (List.mem_append_left _ hx))
    ·exact .inr (.inl (List.mem_append_left _ hx))
   ·rcases List.mem_append.1 hx with hx | hx
    ·exact .inr (.inr hx)
    ·exact .inr (.inl (List.mem_append_right _ hx))
  rcases hx' with rfl | hx | hx
  ·have:kz [k]=k.length+1:=by simp[kz]
   simp only[List.length_singleton];omega
  ·have:=h1 hx;omega
  ·have:=h3 hx;omega
theorem tab_kz:∀(v:Vl) (ks:List B8) (x:Asg),x∈HS ks v->x.val.sz<=v.sz/\x.keys.length<=ks.length+lvV v/\kz x.keys+1<=kz ks+v.sz
 | .mk s l f,ks,x,hx=>by
  have h1:=KD f ks x
  have h3:=Tt l ks x
  have hz:=szs s l f
  have ho:vlO.sz=1:=by unfold vlO Vl.sz Bz Bs;simp[scO]
  rw[lvV]
  rw[HS]at hx
  split at hx
  ·rcases List.mem_cons.1 hx with rfl | hx
   ·simp only[aT];omega
   ·have:=h1 hx;omega
  ·split at hx
   ·have:=h3 hx;omega
   ·cases hx
theorem Tt:∀(l:List Vl) (ks:List B8) (x:Asg),x∈elL ks l->x.val.sz<=Bz l+1/\x.keys.length<=ks.length+BS l/\kz x.keys+1<=kz ks+Bz l
 | [],ks,x,hx=>by rw[elL]at hx;cases hx
 | v::r,ks,x,hx=>by
  have h1:=Tt r ks x
  have h3:=el_kz v ks x
  rw[Bz,BS]
  rw[elL]at hx
  rcases List.mem_append.1 hx with hx | hx
  ·have:=h3 hx;omega
  ·have:=h1 hx;omega
theorem el_kz:∀(v:Vl) (ks:List B8) (x:Asg),x∈elV ks v->x.val.sz<=v.sz/\x.keys.length<=ks.length+lvV v/\kz x.keys+1<=kz ks+v.sz
 | .mk s l f,ks,x,hx=>by
  have h1:=KD f ks x
  have hz:=szs s l f
  have ho:vlO.sz=1:=by unfold vlO Vl.sz Bz Bs;simp[scO]
  rw[lvV]
  rw[elV]at hx
  rcases List.mem_cons.1 hx with rfl | hx
  ·simp only[aE];omega
  ·have:=h1 hx;omega
end
end Go.TVF
end
namespace Go.TVF
open Go.IntKind(i64 u8)
open Go Go.Proofs
theorem SJ {b1 b2:Bool} {kv:TV} {cs:List TV} (h1:At kv=true) (h2:List.all cs At=true):List.all (.bool b1:: .bool b2::kv::cs) At=true:=by
 show(true&&(true&&(At kv&&List.all cs At)))=true
 rw[h1,h2];rfl
theorem La (k:B8) (v:Vl) (r:List Fd):(AB (.mk k v::r)).length=(if v.sc.kind≠7/\Bw v=false then 1 else 0)+(AB r).length:=by
 rw[AB]
 split
 ·rw[List.length_cons];omega
 ·omega
theorem RQ (ks:List B8) (v:Vl):(if v.sc.kind≠7/\Bw v=false then 1 else 0)+(HS ks v).length<=v.cnt:=by
 split
 ·rename_i h
  rw[HB h.1 h.2]
  have:1<=v.cnt:=by cases v;unfold Vl.cnt;omega
  simp only[List.length_nil];omega
 ·have:=OW ks v;omega
theorem G6 {ks:List B8}:∀{g:List Fd} {k:Nat} {key:B8} {v:Vl},g[k]? =some (.mk key v)->¬(v.sc.kind≠7/\Bw v=false)->(AB g).length+(Br ks (g.take k)).length+v.cnt<=Av g
 | [],k,key,v,h,_=>by simp at h
 | x::r,0,key,v,h,hn=>by
  simp only[List.getElem?_cons_zero,Option.some.injEq]at h
  subst h
  have:=EX ks r
  rw[List.take_zero,Br,Av,La,if_neg hn,fcnt];simp only[List.length_nil];omega
 | .mk k0 v0::r,k+1,key,v,h,hn=>by
  have:=G6 (ks:=ks) (g:=r) (k:=k) (key:=key) (v:=v) (by simpa using h) hn
  have h8:=RQ (ks++[k0]) v0
  rw[List.take_succ_cons,Br,List.length_append,Av,La,PH,fcnt]
  omega
theorem Kg {ks:List B8}:∀{g:List Vl} {k:Nat} {d:Vl},g[k]? =some d->(elL ks (g.take k)).length+d.cnt<=Aw g
 | [],k,d,h=>by simp at h
 | x::r,0,d,h=>by
  simp only[List.getElem?_cons_zero,Option.some.injEq]at h
  subst h
  rw[List.take_zero,elL,Aw];simp only[List.length_nil];omega
 | x::r,k+1,d,h=>by
  have:=Kg (ks:=ks) (g:=r) (k:=k) (d:=d) (by simpa using h)
  rw[List.take_succ_cons,elL,List.length_append,Aw]
  have h8:=Q1 ks x
  omega
theorem Qk {ks:List B8}:∀(g:List Vl) (k:Nat),(elL ks (g.take k)).length<=Aw g:=fun g k=>by
 have h1:=NC ks (g.take k)
 have h2:=Da g k
 omega
theorem Qf:∀(N:Nat) (v:Vl),v.sz<=N->N<=2000000->∀{st0 st:St} {cs:List TV} {out:TV} {xs:List TV} {la:List Asg} {kv:TV} {ks:List B8} {K:TV->St->Prop},VlR St.zero v cs->Az v->v.cnt<=65536->Rd 1 kv ks.length (ks.map TV.str)->ks.length+lvV v<=1000->
  Al st0 st->Own st0.nt 16 st out la.length xs->Cf la xs->la.length+v.cnt<=200000->(∀out' xs' st',Al st0 st'->Own st0.nt 16 st' out' (la++E4 ks v).length xs'->Cf (la++E4 ks v) xs'->K out' st')->CallT PR BO [out,.agg cs,kv] [.one .tv] st K:=by
 intro N
 induction N with
 | zero=>intro v h;have:=v.sz_pos;omega
 | succ N ih=>
 intro v hN hN2 st0 st cs out xs la kv ks K h hV hC hr hd e0 ho ha hla hk
 obtain⟨s,l,f⟩:=v
 have hsz:=szs s l f
 have hct:=vcnt s l f
 have hfl:=De f
 have hlv:lvV (.mk s l f)=1+max (BS l) (BI f):=by rw[lvV]
 have h0:=h
 obtain⟨ub,ul,uf,xl,xf,rfl,h1,h2,h3,h4,h5⟩:=VlR.cells h
 have hlf:∀k,(AB (f.take k)).length<=Av f:=fun k=>by
  have h1:=EX ks f
  have h2:AB f=AB (f.take k)++AB (f.drop k):=by rw[<-Iv,List.take_append_drop]
  rw[h2,List.length_append]at h1;omega
 have hlt2:∀k,(AB f).length+(Br ks (f.take k)).length<=Av f:=fun k=>by
  have h1:=EX ks f
  have h2:Br ks f=Br ks (f.take k)++Br ks (f.drop k):=by rw[<-KU,List.take_append_drop]
  rw[h2,List.length_append]at h1;omega
 have lvf:∀{k:Nat} {key:B8} {w:Vl},f[k]? =some (.mk key w)->lvV w<=BI f/\w.cnt<=Av f:=fun {k key w} hg=>by
  have gen:∀(g:List Fd) (d:Fd),d∈g->lvD d<=BI g/\d.cnt<=Av g:=by
   intro g
   induction g with
   | nil=>intro d hd;cases hd
   | cons x r ih=>
    intro d hd
    rw[BI,Av]
    rcases List.mem_cons.1 hd with rfl | hd
    ·omega
    ·have:=ih d hd;omega
  have:=gen f _ (List.mem_of_getElem? hg)
  rw[lvD,Fd.cnt]at this
  exact this
 refine Ij out _ _ _ _ _ _ _ _ _ _ ub ul uf kv st K (Aa h4.isSl ?_)
 rw[h4.lenS]
 refine⟨fun o i k a n a0 a1 a2 a3 a4 a5 a6 a7 a8 a9 a10 a11 a12 st'=>kv=k/\uf=a/\(f.length:Int)=n/\uf=a12/\∃(j:Nat) (ys:List TV),i=j/\j<=f.length/\Al st0 st'/\Own st0.nt 16 st' o (la++AB (f.take j)).length ys/\Cf (la++AB (f.take j)) ys,
  fun _ i _ _ _ _ _ _ _ _ _ _ _ _ _ _ _ _ _=>(f.length-i).toNat,⟨rfl,rfl,rfl,rfl,0,xs,rfl,Nat.zero_le _,e0,by rw[List.take_zero,AB,List.append_nil];exact ho,by rw[List.take_zero,AB,List.append_nil];exact ha⟩,?_⟩
 rintro o _ _ _ _ _ _ _ _ _ _ _ _ _ _ _ _ _ st1 ⟨rfl,rfl,rfl,rfl,j,ys,rfl,hj,e1,ho1,ha1⟩
 refine Ab (fun g=>?_) fun g=>?_
 ·refine Ql (B2 st1) h4 h5 rfl (by omega) fun key s1 l1 f1 ub1 ul1 uf1 gw hw on=>Aa on ?_
  have on2:List.all (AK s1 ub1 ul1 uf1) At=true:=by have:=on;rw[List.all_cons,Bool.and_eq_true]at this;exact this.2
  have hwsz:=D8 gw
  rw[szd]at hwsz
  have hwv:=Ml hV gw
  obtain⟨hlw,hcw⟩:=lvf gw
  have htk:=OL gw
  have hlj:=hlf (j+1)
  rw[Ai _ (by omega) (by omega)]
  refine Ab (fun g7=>QX hw hwv (by omega) (AD (fun hm=>?_) fun hm=>?_)) fun g7=>?_
  ·have hm:Bw (.mk s1 l1 f1)=false:=by simpa using hm
   rw[if_pos ⟨g7,hm⟩]at htk
   refine GM (v:= .mk s1 l1 f1) (by omega) (by omega) (VlR.keep (B2 st1) hw) fun ub2 ul2 uf2 st2 hv2 o1 o2 o3 e2 _=>?_
   refine Aa (SJ rfl (DB o1 o2 o3)) ?_
   rw[htk,List.length_append]at hlj
   refine DU (e1.trans e2) rfl (ho1.ext e2) (by rw[List.length_append];simp only[List.length_singleton]at hlj;omega) (fun h=>by cases h) fun v9 st3 e3 _ ho3=>?_
   have hl3:(la++AB (f.take j)).length+1=(la++AB (f.take (j+1))).length:=by rw[htk,<-List.append_assoc];simp only[List.length_append,List.length_singleton]
   rw[hl3]at ho3
   have ha3:=Cf.app ha1 (Dg (a:=⟨false,false,[key],.mk s1 l1 f1⟩) ⟨.list 1 .full 1 [.str key],_,rfl,.inr ⟨_,rfl⟩,hv2⟩ GP)
   rw[List.append_assoc,<-htk]at ha3
   exact⟨⟨rfl,rfl,rfl,rfl,j+1,_,by omega,by omega,e3,ho3,ha3⟩,by dsimp only;omega⟩
  ·have hm:Bw (.mk s1 l1 f1)=true:=by simpa using hm
   rw[if_neg (fun h=>by rw[hm]at h;cases h.2),List.append_nil]at htk
   refine⟨⟨rfl,rfl,rfl,rfl,j+1,ys,by omega,by omega,e1,by rw[htk];exact ho1,by rw[htk];exact ha1⟩,by dsimp only;omega⟩
  ·have g7:s1.kind=7:=Decidable.not_not.1 g7
   rw[if_neg (fun h=>h.1 g7),List.append_nil]at htk
   refine⟨⟨rfl,rfl,rfl,rfl,j+1,ys,by omega,by omega,e1,by rw[htk];exact ho1,by rw[htk];exact ha1⟩,by dsimp only;omega⟩
 ·have hjj:j=f.length:=by omega
  subst hjj
  rw[List.take_length]at ho1 ha1
  refine Aa h4.isSl ?_
  rw[h4.lenS]
  refine⟨fun o i k a n st'=>kv=k/\uf=a/\(f.length:Int)=n/\∃(j:Nat) (ys:List TV),i=j/\j<=f.length/\Al st0 st'/\Own st0.nt 16 st' o (la++AB f++Br ks (f.take j)).length ys/\Cf (la++AB f++Br ks (f.take j)) ys,
   fun _ i _ _ _ _=>(f.length-i).toNat,⟨rfl,rfl,rfl,0,ys,rfl,Nat.zero_le _,e1,by rw[List.take_zero,Br,List.append_nil];exact ho1,by rw[List.take_zero,Br,List.append_nil];exact ha1⟩,?_⟩
  rintro o2 _ _ _ _ st5 ⟨rfl,rfl,rfl,j,zs,rfl,hj,e5,ho5,ha5⟩
  refine Ab (fun g=>?_) fun g=>?_
  ·refine Ql (B2 st5) h4 h5 rfl (by omega) fun key s1 l1 f1 ub1 ul1 uf1 gw hw on=>Aa on ?_
   have hwsz:=D8 gw
   rw[szd]at hwsz
   have hwv:=Ml hV gw
   obtain⟨hlw,hcw⟩:=lvf gw
   have htk:=RB (ks:=ks) gw
   have hlj:=hlt2 j
   have hlj1:=hlt2 (j+1)
   rw[Ai _ (by omega) (by omega)]
   refine JZ hr (by omega) fun v14 st6 ho6 e6=>S6 (key:=key) e6 ho6 (by omega) fun v15 st7 hr7 e7=>?_
   have hlen1:(ks++[key]).length=ks.length+1:=by simp
   have e57:=e5.trans e7
   have hoo:(la++AB f++Br ks (f.take j)).length<=200000:=by rw[List.length_append,List.length_append];omega
   refine Ab (fun g7=>?_) fun g7=>?_
   ·have tv:=Ok (ks:=ks++[key]) (v:= .mk s1 l1 f1) g7
    refine JZ hr7 (by omega) fun v16 st8 ho8 e8=>Aa (by simp[ho8.rd.one]) (Aa (SJ ho8.rd.one rfl) ?_)
    refine DU (e57.trans e8) rfl (ho5.ext (e7.trans e8)) (by omega) (fun h=>by cases h) fun v17 st9 e9 _ ho9=>?_
    have ha9:=Cf.app ha5 (Dg (Rt (e:=false) (ks:=ks++[key]) (kv:=v16) ho8.rd) GP)
    have hl9:(la++AB f++Br ks (f.take j)++[(⟨true,false,ks++[key],vlO⟩:Asg)]).length=(la++AB f++Br ks (f.take j)).length+1:=by rw[List.length_append];rfl
    have hfin:la++AB f++Br ks (f.take j)++[(⟨true,false,ks++[key],vlO⟩:Asg)]++E4 (ks++[key]) (.mk s1 l1 f1)=la++AB f++Br ks (f.take (j+1)):=by
     rw[htk,tv];simp[aT]
    refine ih (.mk s1 l1 f1) (by omega) (by omega) hw hwv (by omega) hr7 (by omega) e9 (by rw[hl9];exact ho9) ha9 ?_ fun out' xs' st10 e10 ho10 ha10=>?_
    ·rw[hl9]
     have:=OY (ks++[key]) (.mk s1 l1 f1)
     rw[List.length_append,List.length_append]
     have h6:=G6 (ks:=ks) gw (fun h=>h.1 g7)
     omega
    ·rw[hfin]at ho10 ha10
     exact⟨⟨rfl,rfl,rfl,j+1,xs',by omega,by omega,e10,ho10,ha10⟩,by dsimp only;omega⟩
   ·refine QX hw hwv (by omega) (AD (fun hm=>?_) fun hm=>?_)
    ·have tv:=Ol (ks:=ks++[key]) (v:= .mk s1 l1 f1) g7 hm
     obtain⟨_,_,_,xl1,xf1,hc1,z1,z2,z3,z4,z5⟩:=VlR.cells hw
     cases hc1
     have hcw1:=vcnt s1 l1 f1
     have hzw1:=szs s1 l1 f1
     have hll1:=Dw l1
     have hgen:=G6 (ks:=ks) gw (fun h=>by rw[hm]at h;cases h.2)
     refine Aa z2.isSl ?_
     rw[z2.lenS]
     refine⟨fun o i k al a n n' b n'' st'=>kv=k/\v15=al/\uf=a/\(f.length:Int)=n/\(j:Int)=n'/\ul1=b/\(l1.length:Int)=n''/\∃(m:Nat) (ys:List TV),i=m/\m<=l1.length/\Al st0 st'/\Own st0.nt 16 st' o (la++AB f++Br ks (f.take j)++elL (ks++[key]) (l1.take m)).length ys/\Cf (la++AB f++Br ks (f.take j)++elL (ks++[key]) (l1.take m)) ys,
      fun _ i _ _ _ _ _ _ _ _=>(l1.length-i).toNat,⟨rfl,rfl,rfl,rfl,rfl,rfl,rfl,0,zs,rfl,Nat.zero_le _,e57,by rw[List.take_zero,elL,List.append_nil];exact ho5.ext e7,by rw[List.take_zero,elL,List.append_nil];exact ha5⟩,?_⟩
     rintro o3 _ _ _ _ _ _ _ _ st12 ⟨rfl,rfl,rfl,rfl,rfl,rfl,rfl,m,ws,rfl,hm2,e12,ho12,ha12⟩
     have hem:=Qk (ks:=ks++[key]) l1 m
     refine Ab (fun g3=>?_) fun g3=>?_
     ·refine NM (B2 st12) z2 z3 rfl (by omega) fun s3 l3 f3 ub3 ul3 uf3 gx hx on3=>Aa on3 ?_
      have hxsz:=EQ gx
      have hxv:=Sp hwv gx
      have hetk:=Tw (ks:=ks++[key]) gx
      have hvx:=Tv (ks++[key]) (.mk s3 l3 f3)
      have hem1:=Kg (ks:=ks++[key]) gx
      have hlvx:lvV (.mk s3 l3 f3)<=BS l1:=lvVs_le.1 (Nat.le_refl _) _ (List.mem_of_getElem? gx)
      have hlvw:lvV (.mk s1 l1 f1)=1+max (BS l1) (BI f1):=by rw[lvV]
      have hcx:(.mk s3 l3 f3:Vl).cnt<=Aw l1:=by omega
      have hoo3:(la++AB f++Br ks (f.take j)++elL (ks++[key]) (l1.take m)).length=la.length+(AB f).length+(Br ks (f.take j)).length+(elL (ks++[key]) (l1.take m)).length:=by simp only[List.length_append]
      rw[Ai _ (by omega) (by omega)]
      refine JZ hr7 (by omega) fun v22 st13 ho13 e13=>Aa (by simp[ho13.rd.one]) (Aa (SJ ho13.rd.one rfl) ?_)
      refine DU (e12.trans e13) rfl (ho12.ext e13) (by omega) (fun h=>by cases h) fun v23 st14 e14 _ ho14=>?_
      have ha14:=Cf.app ha12 (Dg (Rt (e:=true) (ks:=ks++[key]) (kv:=v22) ho13.rd) GP)
      have hl14:(la++AB f++Br ks (f.take j)++elL (ks++[key]) (l1.take m)++[(⟨true,true,ks++[key],vlO⟩:Asg)]).length=(la++AB f++Br ks (f.take j)++elL (ks++[key]) (l1.take m)).length+1:=by rw[List.length_append];rfl
      have hfin:la++AB f++Br ks (f.take j)++elL (ks++[key]) (l1.take m)++[(⟨true,true,ks++[key],vlO⟩:Asg)]++E4 (ks++[key]) (.mk s3 l3 f3)=la++AB f++Br ks (f.take j)++elL (ks++[key]) (l1.take (m+1)):=by
       rw[hetk,hvx];simp[aE]
      refine ih (.mk s3 l3 f3) (by omega) (by omega) hx hxv (by omega) hr7 (by omega) e14 (by rw[hl14];exact ho14) ha14 (by rw[hl14,hoo3];omega) fun out' xs' st15 e15 ho15 ha15=>?_
      rw[hfin]at ho15 ha15
      exact⟨⟨rfl,rfl,rfl,rfl,rfl,rfl,rfl,m+1,xs',by omega,by omega,e15,ho15,ha15⟩,by dsimp only;omega⟩
     ·have hmm:m=l1.length:=by omega
      subst hmm
      rw[List.take_length]at ho12 ha12
      have hfin:la++AB f++Br ks (f.take j)++elL (ks++[key]) l1=la++AB f++Br ks (f.take (j+1)):=by
       rw[htk,tv];simp[Vl.list]
      rw[hfin]at ho12 ha12
      rw[Ai _ (by omega) (by omega)]
      exact⟨⟨rfl,rfl,rfl,j+1,ws,by omega,by omega,e12,ho12,ha12⟩,by dsimp only;omega⟩
    ·have tv:=HB (ks:=ks++[key]) (v:= .mk s1 l1 f1) g7 hm
     rw[tv,List.append_nil]at htk
     refine⟨⟨rfl,rfl,rfl,j+1,zs,by omega,by omega,e57,?_,?_⟩,by dsimp only;omega⟩
     ·rw[htk];exact ho5.ext e7
     ·rw[htk];exact ha5
  ·have hjj:j=f.length:=by omega
   subst hjj
   rw[List.take_length]at ho5 ha5
   have:la++AB f++Br ks f=la++E4 ks (.mk s l f):=by rw[List.append_assoc];rfl
   rw[this]at ho5 ha5
   exact hk o2 zs st5 e5 ho5 ha5
noncomputable def Gf (v:Vl):Nat:=if AQ v≠0 then AQ v else if v.sc.kind≠7 then 6 else 0
theorem QH {v:Vl} {cs:List TV} {st:St} {K:TV->Int->St->Prop} (h:VlR St.zero v cs) (hz:v.sz<=2000000)
  (hk1:∀out xs st',Gf v=0->Rd 16 out (E4 [] v).length xs->Cf (E4 [] v) xs->Al st st'->K out 0 st') (hk2:∀st',Gf v≠0->Al st st'->K .nilSlice (Gf v:Nat) st'):
  CallT PR Do [.agg cs] [.one .tv,.one (.int .i64)] st K:=by
 have h0:=h
 obtain⟨s,l,f⟩:=v
 obtain⟨ub,ul,uf,_,_,rfl,_⟩:=VlR.cells h
 unfold Gf at hk1 hk2
 refine Ik _ _ _ _ _ _ _ _ _ _ ub ul uf st K (Hv (v:= .mk s l f) hz h0 (B2 st) fun st1 e1=>Ab (fun g=>?_) fun g=>?_)
 ·have hne:AQ (.mk s l f)≠0:=fun e=>g (by rw[e];rfl)
  have:=hk2 st1 (by rw[if_pos hne];exact hne) e1
  rw[if_pos hne]at this;exact this
 have g:AQ (.mk s l f)=0:=by omega
 rw[if_neg (by rw[g];simp)]at hk1 hk2
 refine Ab (fun g7=>?_) fun g7=>?_
 ·have:=hk2 st1 (by rw[if_pos (show(Vl.mk s l f).sc.kind≠7 from g7)];decide) e1
  rw[if_pos (show(Vl.mk s l f).sc.kind≠7 from g7)]at this;exact this
 ·rw[if_neg (show ¬(Vl.mk s l f).sc.kind≠7 from g7)]at hk1
  have hlv:=(Bo.1 g).2.1
  have hcn:=(Bo.1 g).2.2
  refine Qf 2000000 (.mk s l f) hz (Nat.le_refl _) (st0:=st1) (la:=[]) (ks:=[]) h0 (Hr g) (by omega) (.inl ⟨rfl,rfl,rfl⟩) (by simp only[List.length_nil];omega) (Al.refl st1) (Own.nil _ _ _) GP (by simp only[List.length_nil];omega) fun out' xs' st2 e2 ho2 ha2=>?_
  rw[List.nil_append]at ho2 ha2
  exact hk1 out' xs' st2 rfl ho2.rd ha2 (e1.trans e2)
theorem allX_ok {l:List Asg} {v:TV} {xs:List TV} {st:St} {K:TV->Int->Int->St->Prop} (hr:Rd 16 v l.length xs) (ha:Cf l xs) (hll:l.length<=900000) (hz:∀(j:Nat) a T cur,l[j]? =some a->Dz (l.take j)= .ok (T,cur)->(Af T).sz+kz a.keys+a.val.sz+2<=1000000) (hc:∀a,a∈l->a.keys.length+a.val.cnt<=100000)
  (hk1:∀bb ub T cur u σ st',Dz l= .ok (erT T,cur)->atT T cur=some u->BH bb ub (.box u.b 0) T (Af T).cnt σ st'->NdL (shT 1 T)->NeL (shT 1 T)->AQ (Af T)=0->K (.box bb 0) 0 0 st')
  (hk2:∀(i e:Nat) st',Dz l= .error (i,e)->e≠0->K .nilPtr i e st'):CallT PR CO [v] [.one .tv,.one (.int .i64),.one (.int .i64)] st K:=by
 refine G2 v st K (HZ fun bb ub r m σ0 st0 H0=>Aa hr.isSl ?_)
 rw[hr.lenS]
 have e0:(Tb.mk r m false [])=AI ⟨r,m,0⟩ false:=rfl
 refine⟨fun n_1 b_1 v_1 n_2 st1=>b_1= .box bb 0/\v_1=v/\n_2=(l.length:Int)/\∃(j:Nat) (T:Tb) (cur:List Hop) (u:Tb) (σ:Nat->TV),n_1=(j:Int)/\j<=l.length/\Dz l=BW j (erT T) cur (l.drop j)/\atT T cur=some u/\
   BH bb ub (.box u.b 0) T (Af T).cnt σ st1/\NdL (shT 1 T)/\NeL (shT 1 T)/\AQ (Af T)=0/\Dz (l.take j)= .ok (erT T,cur),
  fun n_1 _ _ _ _=>l.length-n_1.toNat,⟨rfl,rfl,rfl,0,.mk r m false [],[],.mk r m false [],σ0,rfl,Nat.zero_le _,?_,rfl,?_,?_,?_,?_,?_⟩,?_⟩
 ·rw[e0,Gz];rfl
 ·rw[show(Af (.mk r m false [])).cnt=1 from by rw[Af,AJ];simp[Vl.cnt,Aw,Av]];exact H0
 ·rw[e0];exact GB _ _ _
 ·rw[e0];exact GA _ _ _
 ·rw[e0];exact Bo.2 ⟨B1 _ _,by rw[GC];omega,by have:=CQ ⟨r,m,0⟩ false;rw[AH]at this;omega⟩
 ·rw[List.take_zero,e0,Gz];unfold Dz;rw[BW];rfl
 rintro n_1 _ _ _ st1 ⟨rfl,rfl,rfl,j,T,cur,u,σ,rfl,hj,hrun,hu,H,hN,hNe,hV,hsz⟩
 refine Ab (fun g=>?_) fun g=>?_
 ·have hlt:j<l.length:=by omega
  obtain⟨a,hja⟩:∃a,l[j]? =some a:=⟨_,List.getElem?_eq_getElem hlt⟩
  have hmem:=List.mem_of_getElem? hja
  have hwj:IntKind.wrap .i64 ((j:Int)+1)=((j+1:Nat):Int):=by rw[Ai _ (by omega) (by omega)];simp
  rw[hwj]
  refine⟨⟨by omega,by rw[hr.lenZ];omega⟩,?_⟩
  rw[Int.toNat_natCast]
  have hzj:=hz j a _ _ hja hsz
  rw[FB]at hzj
  rw[Gi hja]at hrun
  refine ldA hr ha hja fun kv ub' ul uf h1 h2 h3=>Aa h3 ?_
  have hstep:∀nu,BA j (erT T) cur a=erX (CI nu j T cur a):=fun nu=>QP nu j T cur a
  refine MW H hu hN hNe hV (hc a hmem) hzj h1 h2 (fun nu T' cur' u' σ' st' hs hcv hu' H' hN' hNe' hsz'=>?_) (fun nu e st' hs=>?_) fun nu T' cur' st' hs hcv=>?_
  ·refine Ab (fun h=>absurd rfl h) fun _=>?_
   refine⟨⟨rfl,rfl,rfl,j+1,T',cur',u',σ',rfl,hlt,?_,hu',H',hN',hNe',hcv,?_⟩,by simp only[Int.toNat_natCast];omega⟩
   ·rw[hrun,BW,hstep nu,hs]
    simp only[erX]
    rw[FB,if_pos hcv]
   ·unfold Dz at hsz⊢
    have hlen:(l.take j).length=j:=by rw[List.length_take];omega
    rw[List.take_add_one,hja,Gk _ _ _ _ _ hsz,hlen,Nat.zero_add]
    show BW j (erT T) cur [a]=_
    rw[BW,hstep nu,hs]
    simp only[erX]
    rw[FB,if_pos hcv,BW]
  ·have he:=On hs ⟨u,hu⟩ hNe
   refine Ab (fun _=>?_) fun h=>absurd (by omega) h
   have:=hk2 j e.toNat st' ?_ (by omega)
   ·have e2:((e.toNat:Nat):Int)=e:=by omega
    rw[e2]at this;exact this
   ·rw[hrun,BW,hstep nu,hs];rfl
  ·refine Ab (fun _=>?_) fun h=>absurd (by omega) h
   refine hk2 j (AQ (Af T')) st' ?_ hcv
   rw[hrun,BW,hstep nu,hs]
   simp only[erX]
   rw[FB,if_neg hcv]
 ·have hjj:j=l.length:=by omega
  subst hjj
  rw[List.drop_length,BW]at hrun
  exact hk1 bb ub T cur u σ st1 hrun hu H hN hNe hV
theorem QJ {l:List Asg} {v:TV} {xs:List TV} {st:St} {K:Int->Bool->Bool->B8->Int->Int->Int->Int->Int->B8->TV->TV->TV->Int->Int->St->Prop} (hr:Rd 16 v l.length xs) (ha:Cf l xs) (hll:l.length<=900000) (hz:∀(j:Nat) a T cur,l[j]? =some a->Dz (l.take j)= .ok (T,cur)->(Af T).sz+kz a.keys+a.val.sz+2<=1000000) (hzf:∀T cur,Dz l= .ok (T,cur)->(Af T).sz<=1000000) (hc:∀a,a∈l->a.keys.length+a.val.cnt<=100000)
  (hk1:∀T cur ub ul uf st',Dz l= .ok (T,cur)->AQ (Af T)=0->VlR St.zero (Af T) (AK (Af T).sc ub ul uf)->List.all (AK (Af T).sc ub ul uf) At=true->
   K (Af T).sc.kind (Af T).sc.b (Af T).sc.neg (Af T).sc.dg (Af T).sc.ex (Af T).sc.tk (Af T).sc.td (Af T).sc.tn (Af T).sc.tz (Af T).sc.text ub ul uf 0 0 st')
  (hk2:∀(i e:Nat) st',Dz l= .error (i,e)->e≠0->K 0 false false [] 0 0 0 0 0 [] .nilSlice .nilSlice .nilSlice i e st'):
  CallT PR Cc [v] [.agg [.int .i64,.bool,.bool,.str,.int .i64,.int .i64,.int .i64,.int .i64,.int .i64,.str,.tv,.tv,.tv],.one (.int .i64),.one (.int .i64)] st K:=by
 refine FU v st K (allX_ok hr ha hll hz hc (fun bb ub T cur u σ st' h hu H hN hNe hV=>?_) fun i e st' h he=>Ab (fun _=>hk2 i e st' h he) fun h0=>absurd (by omega) h0)
 have e1:Af (erT T)=Af T:=FB T
 have hs:=hzf _ _ h
 rw[e1]at hs
 refine Ab (fun h=>absurd rfl h) fun _=>Aa rfl (Aa rfl (Ae (x:= .box T.b 0) (by simp only[Ac,AV,H.cell];rfl) ?_))
 refine J1 (Af T).cnt T 1 (Nat.le_refl _) (by have:=Dv hV;omega) H.hp.sh hN H.hp.lt fun uf st2 hv ho e2=>?_
 refine GM (v:=Af T) (by omega) (Dv hV) (VlR.keep (B2 st2) hv) fun ub' ul' uf' st3 hv3 o1 o2 o3 _ _=>Aa (DB o1 o2 o3) ?_
 have:=hk1 (erT T) cur ub' ul' uf' st3 h (by rw[e1];exact hV) (by rw[e1];exact hv3) (by rw[e1];exact DB o1 o2 o3)
 rw[e1]at this
 exact this
theorem lsback_ok {v:Vl} {cs:List TV} (h:VlR St.zero v cs) {st:St} {K:Bool->St->Prop} (hk:∀st',K true st'):CallT PR fn_datakitlaw25_SectionBack [.agg cs] [.one .bool] st K:=by
 have h0:=h
 obtain⟨s,l,f⟩:=v
 obtain⟨ub,ul,uf,_,_,rfl,_⟩:=VlR.cells h
 refine Eu _ _ _ _ _ _ _ _ _ _ ub ul uf st K (PM h0 fun b hb=>AD (fun _=>HN hk) fun hb0=>?_)
 obtain⟨hz,hc⟩:=hb (by simpa using hb0)
 have hz2:(Vl.mk s l f).sz<=2000000:=by omega
 refine QH h0 hz2 (fun out xs st1 he ho ha e1=>?_) fun st1 he e1=>?_
 ·have hck:AQ (.mk s l f)=0/\s.kind=7:=by
   unfold Gf at he
   split at he
   ·rename_i h1;exact absurd he h1
   ·rename_i h1
    split at he
    ·cases he
    ·rename_i h2;exact⟨Decidable.of_not_not h1,Decidable.of_not_not h2⟩
  obtain⟨T,cur,hrun,hsort,hsz,hva⟩:=Sy hck.1 hck.2
  have hval:=(Bo.1 hck.1).1
  have hlv:=(Bo.1 hck.1).2.1
  have hln:=OY [] (.mk s l f)
  have hmem:∀a,a∈E4 [] (.mk s l f)->a.val.sz<=20151/\a.keys.length<=50/\kz a.keys<=20150:=fun a ha=>by
   have hb:=KD f [] a ha
   have hs:=szs s l f
   have hl:lvV (.mk s l f)=1+max (BS l) (BI f):=by rw[lvV]
   have:kz []=0:=rfl
   simp only[List.length_nil]at hb
   omega
  refine Ab (fun h=>absurd rfl h) fun _=>?_
  refine QJ ho ha (by omega) (fun j a T1 c1 hj hr1=>?_) (fun T1 c1 hr1=>?_) (fun a ha=>?_) (fun T1 c1 ub1 ul1 uf1 st2 hr1 hc1 hv1 on1=>Aa on1 ?_) fun i e st2 hr1 _=>by rw[hrun]at hr1;cases hr1
  ·have h1:=PU hrun hr1
   have h2:=hmem a (List.mem_of_getElem? hj)
   omega
  ·rw[hrun]at hr1;cases hr1;omega
  ·have h2:=hmem a ha
   have h3:=Hq a.val
   omega
  ·rw[hrun]at hr1
   cases hr1
   refine Ab (fun _=>Ab (fun _=>?_) fun h=>absurd rfl h) fun h=>absurd rfl h
   rw[sc_val]at hv1⊢
   refine RR (v:= .mk s l f) (w:=Af T) hz2 (by omega) (by omega) (Az.ok hval).2 (Az.ok hva).2 h0 hv1 (B2 st2) fun r st3 _ hr=>?_
   rw[hr.2 hsort.symm]
   exact BIf_t (HN hk)
 ·refine Ab (fun _=>?_) fun h=>absurd (by omega) h
  refine Hv (v:= .mk s l f) hz2 h0 (B2 st1) fun st2 e2=>Ab (fun _=>HN hk) fun g=>?_
  refine Hv (v:= .mk s l f) hz2 h0 (B2 st2) fun st3 e3=>?_
  unfold Gf at he g⊢
  by_cases hc0:AQ (.mk s l f)=0
  ·rw[if_neg (fun h=>h hc0)]at he⊢
   by_cases h7:s.kind=7
   ·rw[if_neg (fun h=>h h7)]at he;exact absurd rfl he
   ·rw[if_pos (show(Vl.mk s l f).sc.kind≠7 from h7),hc0]
    exact Ab (fun _=>Ab (fun _=>Ab (fun _=>HN hk) fun h=>absurd h7 h) fun h=>absurd rfl h) fun h=>absurd rfl h
  ·rw[if_pos hc0]at g
   exact absurd rfl g
end Go.TVF
