/- What the laws below rest on: a framework for Go programs, and contracts of the functions that they reach. -/
import Derived.Test.YtahjbepjlconkaaGreatDoorZqE
import Derived.Shelf.Unicode.ValidAny
import Derived.Test.YtahjbepjlconkaaGreatDoorProg
import Derived.Lib.ValidU
set_option maxRecDepth 20000
set_option linter.unusedVariables false
set_option linter.unusedSimpArgs false
namespace Go.TVF
open Go.IntKind(i64 u8)
open Go Go.Proofs
theorem Ts (d:Nat) (u:Tb):shT d (BF u)=⟨u.b,u.m,true,d,u.es.map shK⟩::Cn d u.es:=by cases u;rfl
theorem TX (u:Tb):(BF u).b=u.b:=by cases u;rfl
theorem HP.same {σ:Nat->TV} {st st':St} {L:List Sh} (h:HP σ st L) (hnb:st.nb<=st'.nb) (hb:∀x,x∈bxL L->st'.box x=st.box x) (hl:∀id,id<st.nt->st.live id=true->id<st'.nt/\st'.live id=true):HP σ st' L:=
 ⟨h.nd,λx hx=>Nat.lt_of_lt_of_le (h.lt x hx) hnb,λs hs=>(h.sh s hs).fr λx hx=>⟨hb x (Bw hs hx),rfl⟩,λx hx id hid=>hl id (h.tip x hx id hid).1 (h.tip x hx id hid).2,h.td⟩
theorem HP.hd {σ:Nat->TV} {st:St} {A R B:List Sh} {s:Sh} {x:Bool} (h:HP σ st (A++((s::R)++B))):HP σ st (A++((⟨s.b,s.m,x,s.d,s.es⟩::R)++B)):=by
 have e:bxL (A++((⟨s.b,s.m,x,s.d,s.es⟩::R)++B))=bxL (A++((s::R)++B)):=by
  rw[Ap,Ap,Az,Ap,Ap,Az];rfl
 refine⟨by rw[e];exact h.nd,by rw[e];exact h.lt,λs' hs'=>?_,by rw[e];exact h.tip,by rw[e];exact h.td⟩;rcases List.mem_append.1 hs' with h1 | h1
 ·exact h.sh s' (List.mem_append_left _ h1)
 ·rcases List.mem_append.1 h1 with h1 | h1
  ·rcases List.mem_cons.1 h1 with rfl | h1
   ·have:=h.sh s (List.mem_append_right _ (List.mem_append_left _ (.head _)))
    exact⟨this.cell,this.row,this.mp,this.en⟩
   ·exact h.sh s' (List.mem_append_right _ (List.mem_append_left _ (.tail _ h1)))
  ·exact h.sh s' (List.mem_append_right _ (List.mem_append_right _ h1))
theorem BH.bu {bb ub:Nat} {now:TV} {T:Tb} {nodes:Nat} {σ:Nat->TV} {st:St} (H:BH bb ub now T nodes σ st):bb≠ub:=λe=>by
 obtain⟨up,hup⟩:=H.un;have:=H.cell;rw[e,hup.box]at this;cases this
theorem BH.plook {bb ub:Nat} {now:TV} {T u:Tb} {nodes:Nat} {σ:Nat->TV} {st:St} {h:List Hop} (H:BH bb ub now T nodes σ st) (hA:atT T h=some u) {f:TV->Prop} (hf:f (.bool !u.hd)):
  AS (plook st (.map ub) (.box u.b 0) false (.bool false)) f:=by
 obtain⟨up,hup⟩:=H.un;obtain⟨hS,hm⟩:=H.tab hA;have hc:Au st u.b=true:=by have:=hS.cell;simp only at this;simp[Au,this]
 have hg:=Of hup.box (λp hp=>(hup.ok p hp).1) hc;refine Ac (x:= .bool !u.hd) ?_ hf;unfold Go.TVF.plook;rw[hg];have:=hup.fd _ hm;simp only at this;simp only[Option.map_some,this];cases u.hd<;>rfl
theorem Zl {bb ub eb:Nat} {now:TV} {T u:Tb} {nodes:Nat} {σ:Nat->TV} {st:St} {h:List Hop} (H:BH bb ub now T nodes σ st) (hA:atT T h=some u) {r:List TV} (he:st.box eb= .cells (.box u.b 0::r)) {K:St->Prop}
  (hk:∀st',BH bb ub (.box u.b 0) (AA T h (BF u)) nodes σ st'->K st'):
  pdK (.map ub) (.box u.b 0) st λst3=>AS (Af st3 [] (.t (.box eb 0)) 0) λv8=>need (List.all [v8] Av) (stB st3 (.box bb 1) [v8] K):=by
 obtain⟨up,hup⟩:=H.un;obtain⟨hS,hm⟩:=H.tab hA;have hc:Au st u.b=true:=by have:=hS.cell;simp only at this;simp[Au,this]
 have hg:=Of hup.box (λp hp=>(hup.ok p hp).1) hc;have hue:eb≠ub:=λe=>by rw[e,hup.box]at he;cases he
 have hbu:=H.bu;refine Ac hg ?_;refine Ac (x:= .box u.b 0) (by simp[Af,St.put,KI,hue,he]) (Aa rfl ?_);refine⟨[.box T.b 0,now,.map ub,.int .i64 nodes],by simp[St.put,KI,hbu,H.cell],by simp,?_⟩;obtain⟨A,B,e1,e2⟩:=Hm h hA 1;have e3:=e2 (BF u) (TX u);rw[BP (1+dpH h) u]at e1;rw[Ts]at e3;have hp:=H.hp;rw[e1]at hp;have bx:=H.bx;have ux:=H.ux;have hbl:=H.bl;have hul:=H.ul;have eb':bxL (shT 1 (AA T h (BF u)))=bxL (shT 1 T):=by
  rw[e1,e3,Ap,Ap,Az,Ap,Ap,Az];rfl
 have kb:∀x,x≠bb->x≠ub->((st.put ub (.pmap (JG u.b up))).put bb (.cells (setAll [.box T.b 0,now,.map ub,.int .i64 nodes] 1 [.box u.b 0]))).box x=st.box x:=λx h1 h2=>by simp[St.put,h1,h2]
 have fdo:∀s,s∈A++((⟨u.b,u.m,u.hd,1+dpH h,u.es.map shK⟩::Cn (1+dpH h) u.es)++B)->s.b≠u.b->CF s.b (JG u.b up)=if s.hd=true then none else some (.bool true):=λs hs hne=>by
  rw[Ot _ _ _ hup.nd,if_neg hne];refine hup.fd s ?_;rw[e1];exact hs
 obtain⟨n1,n2,n3⟩:=EO hp.nd;have hub:u.b∈bxL (⟨u.b,u.m,u.hd,1+dpH h,u.es.map shK⟩::Cn (1+dpH h) u.es):=by rw[Az];exact List.mem_append_left _ (.head _)
 refine hk _ ⟨?_,?_,⟨JG u.b up,?_,ZB _ _ hup.nd,λp hp'=>?_,λs hs=>?_⟩,hbl,hul,by rw[eb'];exact bx,by rw[eb'];exact ux⟩
 ·rw[e3]
  have:=HP.hd (x:=true) hp;refine HP.same this (Nat.le_refl _) (λx hx=>?_) λid h1 h2=>⟨h1,h2⟩;have hx':x∈bxL (shT 1 T):=by rw[<-eb',e3];exact hx
  exact kb x (λe=>bx (e▸hx')) λe=>ux (e▸hx')
 ·rw[Dg h (x:=BF u) hA (TX u)]
  simp[St.put,setAll]
 ·show(if ub=bb then _ else if ub=KI (.map ub)then _ else _)=_
  rw[if_neg (Ne.symm hbu)];exact if_pos rfl
 ·obtain⟨q1,q2⟩:=hup.ok p (Q4 _ _ p hp')
  refine⟨?_,q2⟩;by_cases c1:p.1=bb
  ·rw[c1];simp[Au,St.put,setAll]
  ·by_cases c2:p.1=ub
   ·rw[c2]at q1;simp[Au,hup.box]at q1
   ·have:=kb p.1 c1 c2
    unfold Au at q1⊢;show(match ((st.put ub (.pmap (JG u.b up))).put bb (.cells (setAll [.box T.b 0,now,.map ub,.int .i64 nodes] 1 [.box u.b 0]))).box p.1 with | .cells (_::_)=>true | _=>false)=true
    rw[this];exact q1
 ·rw[e3]at hs
  rcases List.mem_append.1 hs with h1 | h1
  ·exact fdo s (List.mem_append_left _ h1) λe=>(n3 _ hub).1 (e▸Bw h1 (.head _))
  ·rcases List.mem_append.1 h1 with h1 | h1
   ·rcases List.mem_cons.1 h1 with rfl | h1
    ·rw[Ot _ _ _ hup.nd,if_pos rfl];rfl
    ·refine fdo s (List.mem_append_right _ (List.mem_append_left _ (.tail _ h1))) λe=>?_
     rw[Az]at n2;exact(List.nodup_append.1 n2).2.2 u.b (.head _) s.b (Bw h1 (.head _)) e.symm
   ·exact fdo s (List.mem_append_right _ (List.mem_append_right _ h1)) λe=>(n3 _ hub).2 (e▸Bw h1 (.head _))
theorem Tw {T t u:Tb} {h:List Hop} {k:B8} {eb:Nat} (hA:atT T h=some t) (hl:Aj k t.es=some (eb,.opn u)) (x:Tb):AA T (h++[(k,none)]) x=AA T h (BM t k (.opn x)):=by
 rw[Pw h _ hA];congr 1;obtain⟨b,m,hd,es⟩:=t;simp only[Tb.es]at hl;rw[AA,hl];cases u;rfl
theorem Uo {t:Tb} {k:B8} {eb:Nat} {e x:En} (hl:Aj k t.es=none):BM (AM t k eb e) k x=AM t k eb x:=by
 have:∀es:List Kn,Aj k es=none->BZ k x (es++[.mk k eb e])=es++[.mk k eb x]:=by
  intro es;induction es with
  | nil=>intro _;simp[BZ]
  | cons d r ih=>
   obtain⟨k',eb',e'⟩:=d;intro hn;unfold Aj at hn;by_cases hk:k=k'
   ·rw[if_pos hk]at hn;cases hn
   ·rw[if_neg hk]at hn
    rw[List.cons_append,BZ,if_neg hk,ih hn];rfl
 show Tb.mk t.b t.m t.hd (BZ k x (t.es++[.mk k eb e]))=Tb.mk t.b t.m t.hd (t.es++[.mk k eb x]);rw[this _ hl]
def Nt (nu:Nu) (T t:Tb) (h:List Hop) (k:B8):Except Int (Tb×List Hop):=match Aj k t.es with
 | none=> .ok (AA T h (AM t k nu.eb (.opn (Ar nu true))),h++[(k,none)])
 | some (_,.opn u)=>if u.hd=true then .error 8 else .ok (AA T h (BM t k (.opn (BF u))),h++[(k,none)])
 | some _=> .error 8
theorem Ym {bb ub:Nat} {now:TV} {T t:Tb} {σ:Nat->TV} {st:St} {h:List Hop} {k:B8} {K:Int->St->Prop} (H:BH bb ub now T (Ae T).cnt σ st) (hA:atT T h=some t) (hc:(Ae T).cnt<=800000)
  (hk1:∀nu T' h' u σ' st',Nt nu T t h k= .ok (T',h')->atT T' h'=some u->BH bb ub (.box u.b 0) T' (Ae T').cnt σ' st'->(Ae T').cnt<=(Ae T).cnt+1->K 0 st')
  (hk2:∀nu st',Nt nu T t h k= .error 8->K 8 st'):
  CallT PR CW [.box bb 0,.box t.b 0,.str k] [.one (.int .i64)] st K:=by
 refine HI bb t.b k st K (H.ldm hA (H.map hA λes hes=>?_));rw[hes k];have nu0:Nu:=⟨0,0,0⟩;rcases hl:Aj k t.es with _ | ⟨eb,e⟩
 ·rw[Option.map_none]
  have hdp:=Oz hA;refine Aa rfl (show AS _ _ from H.ldd hA (Am ?_));have hwd:IntKind.wrap .i64 (((1+dpH h:Nat):Int)+1)=((1+dpH h+1:Nat):Int):=by rw[Ah _ (by omega) (by omega)];simp
  rw[hwd];refine Vy H hA hl (by omega) rfl (λnu σ' st1 st2 he H1=>?_);have hA1:=IE (nu:=nu) (hd:=false) hA hl;have hl1:Aj k (AM t k nu.eb (.opn (Ar nu false))).es=some (nu.eb,.opn (Ar nu false)):=by
   have:=Fx (k2:=k) (eb:=nu.eb) (e:= .opn (Ar nu false)) hl;rw[if_pos rfl]at this;exact this
  have hA0:=CT h (x:=AM t k nu.eb (.opn (Ar nu false))) hA;have hcn:=NI (k:=k) (eb:=nu.eb) (e:= .opn (Ar nu false)) hA;rw[FG]at hcn;rw[<-he];refine H1.ent0 hA0 hl1 (Aa rfl (show AS _ _ from ?_));refine Ac (x:= .map ub) (by simp only[Af,H1.cell];rfl) (H1.ent0 hA0 hl1 (H1.plook hA1 (DO (show AS _ _ from ?_))));refine Ac (x:= .map ub) (by simp only[Af,H1.cell];rfl) (H1.ent0 hA0 hl1 ?_);have hee:=H1.ent hA0 hl1;refine Zl H1 hA1 hee.1 λst' H2=>?_;have e9:AA (AA T h (AM t k nu.eb (.opn (Ar nu false)))) (h++[(k,none)]) (BF (Ar nu false))=AA T h (AM t k nu.eb (.opn (Ar nu true))):=by
   rw[Tw hA0 hl1,G6 h hA,Uo hl];rfl
  rw[e9]at H2;have hcn2:=NI (k:=k) (eb:=nu.eb) (e:= .opn (Ar nu true)) hA;rw[FG]at hcn2;refine hk1 nu _ _ (Ar nu true) σ' st' (by unfold Nt;rw[hl]) (IE hA hl) ?_ (by omega);rw[hcn2];exact H2
 ·rw[Option.map_some]
  refine Aa rfl (show need _ _ from Aa rfl (Aa rfl (H.ent0 hA hl ?_)));cases e with
  | opn u=>
   have hAu:=GJ hA hl;refine Aa rfl (show AS _ _ from ?_);refine Ac (x:= .map ub) (by simp only[Af,H.cell];rfl) (Aa rfl (Aa rfl (H.ent0 hA hl (H.plook hAu (DO (Ao (λhb=>?_) λhb=>?_))))))
   ·exact hk2 nu0 st (by unfold Nt;rw[hl];simp only;rw[if_pos (by simpa using hb)])
   ·have hee:=H.ent hA hl
    refine Ac (x:= .map ub) (by simp only[Af,H.cell];rfl) (Aa rfl (Aa rfl (H.ent0 hA hl ?_)));have hd0:u.hd=false:=by simpa using hb
    refine Zl H hAu hee.1 λst' H2=>?_;have hcc:=(Ck (h++[(k,none)]) hAu (BF u)).cnt;have hvv:Ae (BF u)=Ae u:=by cases u;unfold BF;rw[Ae,Ae]
    rw[hvv]at hcc;have hcn:(Ae (AA T (h++[(k,none)]) (BF u))).cnt=(Ae T).cnt:=by omega
    rw[<-hcn]at H2;rw[Tw hA hl]at H2 hcn;refine hk1 nu0 _ _ (BF u) σ st' (by unfold Nt;rw[hl];simp only;rw[if_neg (by simp[hd0])]) ?_ (by rw[TX];exact H2) (by omega);rw[<-Tw hA hl];exact CT _ hAu
  | lst l=>exact Aa rfl (show K 8 st from hk2 nu0 st (by unfold Nt;rw[hl]))
  | clo v i=>exact Aa rfl (show K 8 st from hk2 nu0 st (by unfold Nt;rw[hl]))
theorem BH.add {bb ub eb nodes nodes':Nat} {now now':TV} {T t:Tb} {σ σ':Nat->TV} {st st':St} {h:List Hop} {k:B8} {e:En} {up up':List (Nat×TV)} (H:BH bb ub now T nodes σ st) (hA:atT T h=some t) (hl:Aj k t.es=none)
  (hnb:st.nb<=st'.nb) (hup:Un ub (shT 1 T) st up)
  (kx:∀x,x<st.nb->x≠bb->x≠ub->x≠t.b->x≠t.m->st'.box x=st.box x) (ks:∀x,x<st.nb->x≠t.b->σ' x=σ x)
  (kt:st'.box t.b= .cells [σ' t.b,.map t.m,.int .i64 ((1+dpH h:Nat):Int)]) (kr:ED (σ' t.b) (((t.es.map shK++[(k,eb,shE e)]).map λx=>x.1).map TV.str))
  (km:∀mp,st.box t.m= .map mp->st'.box t.m= .map (Gk k (.box eb 0) mp)) (kb:st'.box bb= .cells [.box T.b 0,now',.map ub,.int .i64 nodes']) (ku:st'.box ub= .pmap up')
  (hu:(up'=up/\AL (1+dpH h) e=[])∨∃n,up'=GS n (.bool true) up/\st.nb<=n/\n<st'.nb/\Au st' n=true/\∀s,s∈AL (1+dpH h) e->s.b=n/\s.hd=false)
  (he:Pu σ' st' eb (shE e)) (hN:∀s,s∈AL (1+dpH h) e->Rq σ' st' s) (hnd:(eb::bxL (AL (1+dpH h) e)).Nodup) (hnew:∀x,x∈eb::bxL (AL (1+dpH h) e)->st.nb<=x/\x<st'.nb)
  (htip:∀x,x∈t.b::eb::bxL (AL (1+dpH h) e)->∀id,BT (σ' x)=some id->st.nt<=id/\id<st'.nt/\st'.live id=true)
  (htd:∀x,x∈t.b::eb::bxL (AL (1+dpH h) e)->∀y,y∈t.b::eb::bxL (AL (1+dpH h) e)->x≠y->∀id,BT (σ' x)=some id->BT (σ' y)≠some id)
  (hlv:∀i,i<st.nt->st.live i=true->BT (σ t.b)≠some i->i<st'.nt/\st'.live i=true):BH bb ub now' (AA T h (AM t k eb e)) nodes' σ' st':=by
 obtain⟨A,B,e1,e2⟩:=Hm h hA 1;rw[BP (1+dpH h) t]at e1;have hp:=H.hp;rw[e1]at hp;have ht':=e2 (AM t k eb e) rfl;rw[Mm]at ht';have hS:=hp.sh _ (List.mem_append_right A (List.mem_append_left B (List.mem_cons_self ..)));have hin:∀{x},x∈bxS ⟨t.b,t.m,t.hd,1+dpH h,t.es.map shK⟩->x∈bxL (A++((⟨t.b,t.m,t.hd,1+dpH h,t.es.map shK⟩::Cn (1+dpH h) t.es)++B)):=λhx=>
  Bw (List.mem_append_right A (List.mem_append_left B (List.mem_cons_self ..))) hx
 have itb:=hin (x:=t.b) (.head _);have itm:=hin (x:=t.m) (.tail _ (.head _));have ltb:t.b<st.nb:=hp.lt _ itb;have ltm:t.m<st.nb:=hp.lt _ itm;have bx:=H.bx;have ux:=H.ux;rw[e1]at bx ux;have hbl:=H.bl;have hul:=H.ul;obtain⟨mp,hm1,hm2⟩:=hS.mp;have hmt:t.m≠t.b:=λe=>by have:=hS.cell;simp only at this hm1;rw[e,this]at hm1;cases hm1
 have HP':HP σ' st' (A++((⟨t.b,t.m,t.hd,1+dpH h,t.es.map shK++[(k,eb,shE e)]⟩::(Cn (1+dpH h) t.es++AL (1+dpH h) e))++B)):=by
  refine HP.add hp hnb (λx hx h2 h3=>⟨kx x (hp.lt x hx) (λe=>bx (e▸hx)) (λe=>ux (e▸hx)) h2 h3,ks x (hp.lt x hx) h2⟩) (λx hx hne id hid=>?_) kt kr ⟨mp,hm1,km mp hm1⟩ (ks _ ltm hmt) ?_ he hN hnd hnew htip htd
  ·have hq:=hp.tip x hx id hid
   exact hlv id hq.1 hq.2 λe=>hp.td x hx t.b itb hne id hid e
  ·rw[Fj,hl];rfl
 have memb:∀x,x∈bxL (A++((⟨t.b,t.m,t.hd,1+dpH h,t.es.map shK++[(k,eb,shE e)]⟩::(Cn (1+dpH h) t.es++AL (1+dpH h) e))++B))->
   x∈bxL (A++((⟨t.b,t.m,t.hd,1+dpH h,t.es.map shK⟩::Cn (1+dpH h) t.es)++B))∨st.nb<=x:=λx hx=>by
  rcases Y4 (s:=⟨t.b,t.m,t.hd,1+dpH h,t.es.map shK⟩) (eb:=eb) (by simp[bxS]) hx with h1 | h1 | h1
  ·exact .inl h1
  ·exact .inr (by rw[h1];exact(hnew eb (.head _)).1)
  ·exact .inr (hnew x (.tail _ h1)).1
 have isc:∀p,p∈up->Au st' p.1=true/\p.1<st'.nb:=λp hp'=>by
  obtain⟨q1,q2⟩:=hup.ok p hp';refine⟨?_,by omega⟩;by_cases c1:p.1=t.m
  ·have hm1':st.box t.m= .map mp:=hm1
   rw[c1]at q1;simp[Au,hm1']at q1
  ·by_cases c2:p.1=t.b
   ·rw[c2];simp[Au,kt]
   ·by_cases c3:p.1=bb
    ·rw[c3];simp[Au,kb]
    ·by_cases c4:p.1=ub
     ·rw[c4]at q1;simp[Au,hup.box]at q1
     ·simp only[Au,kx _ q2 c3 c4 c2 c1]at q1⊢;exact q1
 have fdo:∀s,s∈A++((⟨t.b,t.m,t.hd,1+dpH h,t.es.map shK⟩::Cn (1+dpH h) t.es)++B)->CF s.b up=(if s.hd=true then none else some (.bool true))/\s.b<st.nb:=λs hs=>
  ⟨hup.fd s (by rw[e1];exact hs),hp.lt _ (Bw hs (.head _))⟩
 have un:Un ub (shT 1 (AA T h (AM t k eb e))) st' up':=by
  rw[ht'];have all:∀(P:Sh->Prop),(∀s,s∈A++((⟨t.b,t.m,t.hd,1+dpH h,t.es.map shK⟩::Cn (1+dpH h) t.es)++B)->P s)->(P ⟨t.b,t.m,t.hd,1+dpH h,t.es.map shK⟩->P ⟨t.b,t.m,t.hd,1+dpH h,t.es.map shK++[(k,eb,shE e)]⟩)->(∀s,s∈AL (1+dpH h) e->P s)->
    ∀s,s∈A++((⟨t.b,t.m,t.hd,1+dpH h,t.es.map shK++[(k,eb,shE e)]⟩::(Cn (1+dpH h) t.es++AL (1+dpH h) e))++B)->P s:=λP p1 p2 p3 s hs=>by
   rcases List.mem_append.1 hs with h1 | h1
   ·exact p1 s (List.mem_append_left _ h1)
   ·rcases List.mem_append.1 h1 with h1 | h1
    ·rcases List.mem_cons.1 h1 with rfl | h1
     ·exact p2 (p1 _ (List.mem_append_right _ (List.mem_append_left _ (.head _))))
     ·rcases List.mem_append.1 h1 with h1 | h1
      ·exact p1 s (List.mem_append_right _ (List.mem_append_left _ (.tail _ h1)))
      ·exact p3 s h1
    ·exact p1 s (List.mem_append_right _ (List.mem_append_right _ h1))
  rcases hu with⟨rfl,h0⟩ | ⟨n,rfl,g1,g2,g3,g4⟩
  ·exact⟨ku,hup.nd,isc,all _ (λs hs=>(fdo s hs).1) (λhx=>hx) λs hs=>by rw[h0]at hs;cases hs⟩
  ·refine⟨ku,?_,λp hp'=>?_,all _ (λs hs=>?_) (λhx=>hx) λs hs=>?_⟩
   ·rw[La _ _ _ λp hp' e=>by have:=(hup.ok p hp').2;omega]
    refine List.nodup_append.2 ⟨hup.nd,by simp,λx hx y hy e=>?_⟩;obtain⟨p,hp',rfl⟩:=List.mem_map.1 hx;have:=(hup.ok p hp').2;rw[List.mem_singleton.1 hy]at e;omega
   ·rcases Na _ _ _ p hp' with rfl | hp'
    ·exact⟨g3,g2⟩
    ·exact isc p hp'
   ·obtain⟨q1,q2⟩:=fdo s hs
    rw[F0,if_neg (by omega)];exact q1
   ·obtain⟨q1,q2⟩:=g4 s hs
    rw[F0,if_pos q1,q2];rfl
 refine⟨by rw[ht'];exact HP',by rw[Dg h (x:=AM t k eb e) hA rfl];exact kb,⟨up',un⟩,by omega,by omega,λhx=>?_,λhx=>?_⟩
 ·rw[ht']at hx
  rcases memb bb hx with h1 | h1
  ·exact bx h1
  ·omega
 ·rw[ht']at hx
  rcases memb ub hx with h1 | h1
  ·exact ux h1
  ·omega
theorem BH.apart {bb ub nodes:Nat} {now:TV} {T t:Tb} {σ:Nat->TV} {st:St} {h:List Hop} (H:BH bb ub now T nodes σ st) (hA:atT T h=some t):
  t.b<st.nb/\t.m<st.nb/\t.b≠bb/\t.b≠ub/\t.m≠bb/\t.m≠ub/\t.m≠t.b/\(∀id,BT (σ t.b)=some id->id<st.nt/\st.live id=true):=by
 obtain⟨hS,hm⟩:=H.tab hA;have itb:t.b∈bxL (shT 1 T):=Bw hm (.head _);have itm:t.m∈bxL (shT 1 T):=Bw hm (.tail _ (.head _));refine⟨H.hp.lt _ itb,H.hp.lt _ itm,λe=>H.bx (e▸itb),λe=>H.ux (e▸itb),λe=>H.bx (e▸itm),λe=>H.ux (e▸itm),λe=>?_,H.hp.tip _ itb⟩;obtain⟨mp,hm1,_⟩:=hS.mp;have:=hS.cell;simp only at this hm1;rw[e,this]at hm1;cases hm1
theorem Un.isc {bb ub nodes:Nat} {now:TV} {T t:Tb} {σ:Nat->TV} {st st':St} {h:List Hop} {up:List (Nat×TV)} (H:BH bb ub now T nodes σ st) (hA:atT T h=some t) (hup:Un ub (shT 1 T) st up) (hnb:st.nb<=st'.nb)
  (kx:∀x,x<st.nb->x≠bb->x≠ub->x≠t.b->x≠t.m->st'.box x=st.box x) (kt:Au st' t.b=true) (kb:Au st' bb=true):∀p,p∈up->Au st' p.1=true/\p.1<st'.nb:=λp hp'=>by
 obtain⟨q1,q2⟩:=hup.ok p hp';obtain⟨mp,hm1,_⟩:=(H.tab hA).1.mp;refine⟨?_,by omega⟩;by_cases c1:p.1=t.m
 ·have hm1':st.box t.m= .map mp:=hm1
  rw[c1]at q1;simp[Au,hm1']at q1
 ·by_cases c2:p.1=t.b
  ·rw[c2];exact kt
  ·by_cases c3:p.1=bb
   ·rw[c3];exact kb
   ·by_cases c4:p.1=ub
    ·rw[c4]at q1;simp[Au,hup.box]at q1
    ·simp only[Au,kx _ q2 c3 c4 c2 c1]at q1⊢;exact q1
theorem VM {T t:Tb} {h:List Hop} (hA:atT T h=some t) (hc:(Ae T).cnt<=800000):((t.es.map shK).map λx=>x.1).length<=1000000:=by
 rw[List.length_map,List.length_map];have:=TQ t;have:=(ZP hA).1;omega
theorem clo_new {bb ub nodes:Nat} {now:TV} {T t:Tb} {σ:Nat->TV} {st:St} {h:List Hop} {k:B8} {v:Vl} {i:Nat} {cs:List TV} {K:St->Prop} (H:BH bb ub now T nodes σ st) (hA:atT T h=some t) (hl:Aj k t.es=none) (hc:(Ae T).cnt<=800000)
  (hv:VlR St.zero v cs) (hcs:cs.length=13)
  (hk:∀σ' st',BH bb ub now (AA T h (AM t k st.nb (.clo v i))) nodes σ' st'->K st'):
  CallT PR Bh [.box t.b 0,.str k,.box st.nb 0] [] (st.push (.cells (.nilPtr:: .nilSlice::(cs++[.int .i64 i]))) (some 213)) K:=by
 obtain⟨ltb,ltm,nb1,nb2,nm1,nm2,hmt,htp⟩:=H.apart hA;obtain⟨hS,hm⟩:=H.tab hA;obtain⟨mp,hm1,hm2⟩:=hS.mp;obtain⟨up,hup⟩:=H.un;have hbl:=H.bl;have hul:=H.ul;refine Tm (kv:=σ t.b) (d:=1+dpH h) (m:=t.m) (ks:=(t.es.map shK).map λx=>x.1) (es:=mp) ?_ ?_ hS.row htp (VM hA hc) λkv' st' r1 r2 r3 r4 r5 r6 r7 r8=>?_
 ·show(if t.b=st.nb then _ else st.box t.b)=_
  rw[if_neg (by omega)];exact hS.cell
 ·show(if t.m=st.nb then _ else st.box t.m)=_
  rw[if_neg (by omega)];exact hm1
 have bx':∀x,st'.box x=if x=t.m then .map (Gk k (.box st.nb 0) mp)else if x=t.b then .cells [kv',.map t.m,.int .i64 ((1+dpH h:Nat):Int)]else if x=st.nb then .cells (.nilPtr:: .nilSlice::(cs++[.int .i64 i]))else st.box x:=λx=>by
  rw[r3];simp only[St.push]
 have nb':st'.nb=st.nb+1:=by rw[r4];rfl
 have nt':st'.nt=st.nt+1:=by rw[r6];rfl
 have k2:∀x,x<st.nb->x≠t.b->x≠t.m->st'.box x=st.box x:=λx h1 h4 h5=>by
  rw[bx',if_neg h5,if_neg h4,if_neg (by omega)]
 let σ':Nat->TV:=λx=>if x=t.b then kv' else if x<st.nb then σ x else .nilSlice
 have s1:σ' t.b=kv':=if_pos rfl;have s2:∀x,x<st.nb->x≠t.b->σ' x=σ x:=λx h1 h2=>by simp only[σ'];rw[if_neg h2,if_pos h1]
 have s3:∀x,st.nb<=x->σ' x= .nilSlice:=λx h1=>by simp only[σ'];rw[if_neg (by omega),if_neg (by omega)]
 have eN:AL (1+dpH h) (.clo v i)=[]:=by rw[AL]
 have tip':BT kv'=some st.nt/\st'.live st.nt=true:=⟨r2,r7⟩;have cl:∀{x},x∈t.b::st.nb::bxL (AL (1+dpH h) (.clo v i))->x≠t.b->st.nb<=x:=λ{x} hx hne=>by
  rw[eN]at hx;rcases List.mem_cons.1 hx with h1 | hx
  ·exact absurd h1 hne
  ·rcases List.mem_cons.1 hx with rfl | hx
   ·exact Nat.le_refl _
   ·cases hx
 refine hk σ' st' (H.add (up':=up) (σ':=σ') hA hl (by omega) hup (λx h1 _ _ h4 h5=>k2 x h1 h4 h5) s2 ?_ ?_ (λmp' h1=>?_) ?_ ?_ (.inl ⟨rfl,eN⟩) ⟨cs,hv,hcs,?_,by rw[s3 _ (Nat.le_refl _)];rfl⟩ (λs hs=>by rw[eN]at hs;cases hs) (by rw[eN];simp[bxL]) (λx hx=>?_) (λx hx id hid=>?_) (λx hx y hy hne id g1 g2=>?_) λj h1 h2 h3=>⟨by omega,?_⟩)
 ·rw[s1,bx',if_neg (Ne.symm hmt),if_pos rfl]
 ·rw[s1];simp only[List.map_append]at r1⊢;exact r1
 ·have:mp'=mp:=by have h2:st.box t.m= .map mp:=hm1;rw[h2]at h1;cases h1;rfl
  rw[this,bx',if_pos rfl]
 ·rw[k2 _ hbl (Ne.symm nb1) (Ne.symm nm1)];exact H.cell
 ·rw[k2 _ hul (Ne.symm nb2) (Ne.symm nm2)];exact hup.box
 ·rw[bx',if_neg (by omega),if_neg (by omega),if_pos rfl]
 ·rw[eN]at hx
  rcases List.mem_cons.1 hx with rfl | hx
  ·omega
  ·cases hx
 ·by_cases hxb:x=t.b
  ·rw[hxb,s1,tip'.1]at hid
   cases hid;exact⟨Nat.le_refl _,by omega,tip'.2⟩
  ·rw[s3 x (cl hx hxb)]at hid;cases hid
 ·by_cases hxb:x=t.b
  ·rw[s3 y (cl hy λe=>hne (hxb.trans e.symm))]at g2;cases g2
  ·rw[s3 x (cl hx hxb)]at g1;cases g1
 ·rw[r8 j h1 h3];exact h2
def OW (nu:Nu) (T t:Tb) (h:List Hop) (k:B8):Except Int (Tb×List Hop):=match Aj k t.es with
 | none=> .ok (AA T h (AM t k nu.eb (.lst [Ar nu false])),h++[(k,some 0)])
 | some (_,.lst l)=> .ok (AA T h (BM t k (.lst (l++[Ar nu false]))),h++[(k,some l.length)])
 | some _=> .error 6
theorem elem_new {bb ub:Nat} {now:TV} {T t:Tb} {σ:Nat->TV} {st:St} {h:List Hop} {k:B8} {K:Int->St->Prop} (H:BH bb ub now T (Ae T).cnt σ st) (hA:atT T h=some t) (hl:Aj k t.es=none) (hc:(Ae T).cnt<=800000)
  (hk:∀nu σ' st',BH bb ub (.box nu.b 0) (AA T h (AM t k nu.eb (.lst [Ar nu false]))) ((Ae T).cnt+2) σ' st'->K 0 st'):
  CallT PR Bh [.box t.b 0,.str k,.box st.nb 0] [] (st.push (.cells (.nilPtr:: .nilSlice::(z13++[.int .i64 0]))) (some 213)) λst1=>AS (Af st1 [] (.t (.box bb 3)) 0) λx2=>CG (.int .i64) x2 λn1=>
   stB st1 (.box bb 3) [.int .i64 (IntKind.wrap .i64 (n1+1))] λst2=>AS (Af st2 [] (.t (.box t.b 2)) 0) λx3=>CG (.int .i64) x3 λn2=>
   CallT PR AJ [.box bb 0,.int .i64 (IntKind.wrap .i64 (n2+2))] [.one .tv] st2 λv2 st3=>need (List.all [v2] Av) (stB st3 (.box bb 1) [v2] λst4=>AS (Af st4 [] (.t (.box st.nb 1)) 0) λv3=>
   AS (Af st4 [] (.t (.box bb 1)) 0) λv4=>need (List.all [v4] Av) (need (List.all [v4] Av) (Bn 176 1 8 v3 1 [v4] st4 λv5 st5=>need (List.all [v5] Av) (stB st5 (.box st.nb 1) [v5] λst6=>K 0 st6)))):=by
 obtain⟨ltb,ltm,nb1,nb2,nm1,nm2,hmt,htp⟩:=H.apart hA;obtain⟨hS,hm⟩:=H.tab hA;obtain⟨mp,hm1,hm2⟩:=hS.mp;obtain⟨up,hup⟩:=H.un;have hbl:=H.bl;have hul:=H.ul;have hbu:=H.bu;have hdp:=Oz hA;refine Tm (kv:=σ t.b) (d:=1+dpH h) (m:=t.m) (ks:=(t.es.map shK).map λx=>x.1) (es:=mp) ?_ ?_ hS.row htp (VM hA hc) λkv' st1 r1 r2 r3 r4 r5 r6 r7 r8=>?_
 ·show(if t.b=st.nb then _ else st.box t.b)=_
  rw[if_neg (by omega)];exact hS.cell
 ·show(if t.m=st.nb then _ else st.box t.m)=_
  rw[if_neg (by omega)];exact hm1
 have bx1:∀x,st1.box x=if x=t.m then .map (Gk k (.box st.nb 0) mp)else if x=t.b then .cells [kv',.map t.m,.int .i64 ((1+dpH h:Nat):Int)]else if x=st.nb then .cells (.nilPtr:: .nilSlice::(z13++[.int .i64 0]))else st.box x:=λx=>by
  rw[r3];simp only[St.push]
 have nbs1:st1.nb=st.nb+1:=by rw[r4];rfl
 have nts1:st1.nt=st.nt+1:=by rw[r6];rfl
 have hbb1:st1.box bb= .cells [.box T.b 0,now,.map ub,.int .i64 (Ae T).cnt]:=by
  rw[bx1,if_neg (Ne.symm nm1),if_neg (Ne.symm nb1),if_neg (by omega)];exact H.cell
 refine Ac (x:= .int .i64 (Ae T).cnt) (by simp only[Af,hbb1];rfl) (Am ⟨_,hbb1,by simp,?_⟩);rw[Ah _ (by omega) (by omega)];generalize hst2:st1.put bb (.cells (setAll [.box T.b 0,now,.map ub,.int .i64 ((Ae T).cnt:Int)] 3 [.int .i64 (((Ae T).cnt:Int)+1)]))=st2;have bx2:∀x,st2.box x=if x=bb then .cells [.box T.b 0,now,.map ub,.int .i64 (((Ae T).cnt:Int)+1)]else st1.box x:=λx=>by rw[<-hst2];rfl
 have nbs2:st2.nb=st.nb+1:=by rw[<-hst2];exact nbs1
 have nts2:st2.nt=st.nt+1:=by rw[<-hst2];exact nts1
 have lvs2:st2.live=st1.live:=by rw[<-hst2];rfl
 have ht2:st2.box t.b= .cells [kv',.map t.m,.int .i64 ((1+dpH h:Nat):Int)]:=by rw[bx2,if_neg nb1,bx1,if_neg (Ne.symm hmt),if_pos rfl]
 have hbb2:st2.box bb= .cells [.box T.b 0,now,.map ub,.int .i64 (((Ae T).cnt:Int)+1)]:=by rw[bx2,if_pos rfl]
 have hu2:st2.box ub= .pmap up:=by rw[bx2,if_neg (Ne.symm hbu),bx1,if_neg (Ne.symm nm2),if_neg (Ne.symm nb2),if_neg (by omega)];exact hup.box
 refine Ac (x:= .int .i64 ((1+dpH h:Nat):Int)) (by simp only[Af,ht2];rfl) (Am ?_);have hwd:IntKind.wrap .i64 (((1+dpH h:Nat):Int)+2)=((1+dpH h+2:Nat):Int):=by rw[Ah _ (by omega) (by omega)];simp
 rw[hwd];have isc2:=Un.isc (st':=st2) H hA hup (by omega) (λx h1 h2 h3 h4 h5=>by rw[bx2,if_neg h2,bx1,if_neg h5,if_neg h4,if_neg (by omega)]) (by simp[Au,ht2]) (by simp[Au,hbb2]);refine Lq hbb2 hu2 (by omega) (by omega) isc2 ⟨by omega,by omega⟩ λst3 q1 q2 q3 q4=>Aa rfl ?_;rw[nbs2]at q1 q2⊢;have hbb3:st3.box bb= .cells [.box T.b 0,now,.map ub,.int .i64 (((Ae T).cnt:Int)+1+1)]:=by rw[q2];simp only;rw[if_pos trivial]
 refine⟨_,hbb3,by simp,?_⟩;generalize hst4:st3.put bb (.cells (setAll [.box T.b 0,now,.map ub,.int .i64 (((Ae T).cnt:Int)+1+1)] 1 [.box (st.nb+1+1) 0]))=st4;have bx4:∀x,st4.box x=if x=bb then .cells [.box T.b 0,.box (st.nb+1+1) 0,.map ub,.int .i64 (((Ae T).cnt:Int)+1+1)]else st3.box x:=λx=>by rw[<-hst4];rfl
 have nbs4:st4.nb=st.nb+3:=by rw[<-hst4];show st3.nb=_;omega
 have nts4:st4.nt=st.nt+1:=by rw[<-hst4];show st3.nt=_;omega
 have lvs4:st4.live=st1.live:=by rw[<-hst4];show st3.live=_;rw[q4,lvs2]
 have he4:st4.box st.nb= .cells (.nilPtr:: .nilSlice::(z13++[.int .i64 0])):=by
  rw[bx4,if_neg (by omega),q2];simp only;rw[if_neg (by omega),if_neg (by omega),if_neg (by omega),if_neg (by omega),bx2,if_neg (by omega),bx1,if_neg (by omega),if_neg (by omega),if_pos rfl]
 refine Ac (x:= .nilSlice) (by simp only[Af,he4];rfl) (Ac (x:= .box (st.nb+1+1) 0) (by simp only[Af,bx4,if_pos trivial];rfl) (Aa rfl (Aa rfl ?_)));refine Rj ED.nil (λid hid=>by cases hid) (by simp) λv5 st5 w1 w2 w3 w4 w5 w6 w7 w8=>?_;have w1':Av v5=true:=by
  rcases w1 with⟨_,hx⟩ | ⟨tip,h9,_⟩
  ·simp at hx
  ·rw[h9];rfl
 have he5:st5.box st.nb= .cells (.nilPtr:: .nilSlice::(z13++[.int .i64 0])):=by rw[w3];exact he4
 refine Aa (by simp[w1']) ⟨_,he5,by simp,?_⟩;generalize hst6:st5.put st.nb (.cells (setAll (.nilPtr:: .nilSlice::(z13++[.int .i64 0])) 1 [v5]))=st6;have bx6:∀x,st6.box x=if x=st.nb then .cells (.nilPtr::v5::(z13++[.int .i64 0]))else st4.box x:=λx=>by rw[<-hst6,<-w3];rfl
 have nbs6:st6.nb=st.nb+3:=by rw[<-hst6];show st5.nb=_;omega
 have nts6:st6.nt=st.nt+2:=by rw[<-hst6];show st5.nt=_;omega
 have lvs6:st6.live=st5.live:=by rw[<-hst6];rfl
 rw[nts4]at w2 w7 w8;have tl0:st6.live st.nt=true:=by
  rw[lvs6,w8 st.nt (by omega) (by simp[BT]),lvs4];exact r7
 have tl1:st6.live (st.nt+1)=true:=by rw[lvs6];exact w7
 have r2':BT kv'=some st.nt:=r2;have old:∀x,x<st.nb->x≠bb->x≠ub->st6.box x=st1.box x:=λx h1 h2 h3=>by
  rw[bx6,if_neg (by omega),bx4,if_neg h2,q2];simp only;rw[if_neg h2,if_neg h3,if_neg (by omega),if_neg (by omega),bx2,if_neg h2]
 have kn1:st6.box (st.nb+1+1)= .cells [.nilSlice,.map (st.nb+1),.int .i64 ((1+dpH h+2:Nat):Int)]:=by
  rw[bx6,if_neg (by omega),bx4,if_neg (by omega),q2];simp only;rw[if_neg (by omega),if_neg (by omega),if_pos trivial]
 have kn0:st6.box (st.nb+1)= .map []:=by
  rw[bx6,if_neg (by omega),bx4,if_neg (by omega),q2];simp only;rw[if_neg (by omega),if_neg (by omega),if_neg (by omega),if_pos trivial]
 have kub:st6.box ub= .pmap (GS (st.nb+1+1) (.bool true) up):=by
  rw[bx6,if_neg (by omega),bx4,if_neg (Ne.symm hbu),q2];simp only;rw[if_neg (Ne.symm hbu),if_pos trivial]
 let σ':Nat->TV:=λx=>if x=t.b then kv' else if x=st.nb then v5 else if x<st.nb then σ x else .nilSlice
 have s1:σ' t.b=kv':=if_pos rfl;have s1':σ' st.nb=v5:=by simp only[σ'];rw[if_neg (by omega),if_pos trivial]
 have s2:∀x,x<st.nb->x≠t.b->σ' x=σ x:=λx h1 h2=>by simp only[σ'];rw[if_neg h2,if_neg (by omega),if_pos h1]
 have s3:∀x,st.nb<x->σ' x= .nilSlice:=λx h1=>by simp only[σ'];rw[if_neg (by omega),if_neg (by omega),if_neg (by omega)]
 have eN:AL (1+dpH h) (.lst [Ar ⟨st.nb+1+1,st.nb+1,st.nb⟩ false])=[⟨st.nb+1+1,st.nb+1,false,1+dpH h+2,[]⟩]:=by
  rw[AL,D5,D5,Ar,shT,Cn];rfl
 have bN:bxL [⟨st.nb+1+1,st.nb+1,false,1+dpH h+2,[]⟩]=[st.nb+1+1,st.nb+1]:=rfl;have cl:∀{x},x∈t.b::st.nb::bxL (AL (1+dpH h) (.lst [Ar ⟨st.nb+1+1,st.nb+1,st.nb⟩ false]))->x=t.b∨x=st.nb∨(st.nb<x/\x<st.nb+3):=λ{x} hx=>by
  rw[eN,bN]at hx;rcases List.mem_cons.1 hx with h1 | hx
  ·exact .inl h1
  ·rcases List.mem_cons.1 hx with h1 | hx
   ·exact .inr (.inl h1)
   ·rcases List.mem_cons.1 hx with rfl | hx
    ·exact .inr (.inr ⟨by omega,by omega⟩)
    ·rw[List.mem_singleton.1 hx];exact .inr (.inr ⟨by omega,by omega⟩)
 have tp:∀{x id},x∈t.b::st.nb::bxL (AL (1+dpH h) (.lst [Ar ⟨st.nb+1+1,st.nb+1,st.nb⟩ false]))->BT (σ' x)=some id->(x=t.b/\id=st.nt)∨(x=st.nb/\id=st.nt+1):=λ{x id} hx hid=>by
  rcases cl hx with rfl | rfl | h1
  ·rw[s1,r2']at hid;cases hid;exact .inl ⟨rfl,rfl⟩
  ·rw[s1',w2]at hid;cases hid;exact .inr ⟨rfl,rfl⟩
  ·rw[s3 x h1.1]at hid;cases hid
 refine hk ⟨st.nb+1+1,st.nb+1,st.nb⟩ σ' st6 (H.add (up':=GS (st.nb+1+1) (.bool true) up) (σ':=σ') hA hl (by omega) hup (λx h1 h2 h3 h4 h5=>by rw[old x h1 h2 h3,bx1,if_neg h5,if_neg h4,if_neg (by omega)]) s2 ?_ ?_ (λmp' h1=>?_) ?_ kub
  (.inr ⟨st.nb+1+1,rfl,by omega,by omega,by simp[Au,kn1],λs hs=>by rw[eN]at hs;rw[List.mem_singleton.1 hs];exact⟨rfl,rfl⟩⟩) ⟨?_,by simp,?_⟩ (λs hs=>?_) (by rw[eN,bN];simp;omega) (λx hx=>?_) (λx hx id hid=>?_) (λx hx y hy hne id g1 g2=>?_) λj h1 h2 h3=>⟨by omega,?_⟩)
 ·rw[s1,old _ ltb nb1 nb2,bx1,if_neg (Ne.symm hmt),if_pos rfl]
 ·rw[s1];simp only[List.map_append]at r1⊢;exact r1
 ·have:mp'=mp:=by have h2:st.box t.m= .map mp:=hm1;rw[h2]at h1;cases h1;rfl
  rw[this,old _ ltm nm1 nm2,bx1,if_pos rfl]
 ·rw[bx6,if_neg (by omega),bx4,if_pos rfl];simp;omega
 ·show ED (σ' st.nb) _
  rw[s1'];exact w1
 ·show st6.box st.nb= .cells (.nilPtr::σ' st.nb::(z13++[.int .i64 0]))
  rw[s1',bx6,if_pos rfl]
 ·rw[eN]at hs
  rw[List.mem_singleton.1 hs];have s4:σ' (st.nb+1+1)= .nilSlice:=s3 _ (by omega);exact⟨by show st6.box (st.nb+1+1)= .cells [σ' (st.nb+1+1),_,_];rw[s4];exact kn1,by show ED (σ' (st.nb+1+1)) _;rw[s4];exact ED.nil,⟨[],kn0,λ_=>rfl⟩,λx hx=>by cases hx⟩
 ·rw[eN,bN]at hx
  rcases List.mem_cons.1 hx with rfl | hx
  ·show st.nb<=st.nb/\st.nb<st6.nb
   omega
  ·rcases List.mem_cons.1 hx with rfl | hx
   ·omega
   ·rw[List.mem_singleton.1 hx];omega
 ·rcases tp hx hid with⟨_,rfl⟩ | ⟨_,rfl⟩
  ·exact⟨Nat.le_refl _,by omega,tl0⟩
  ·exact⟨by omega,by omega,tl1⟩
 ·rcases tp hx g1 with⟨h1,h2⟩ | ⟨h1,h2⟩<;>rcases tp hy g2 with⟨h3,h4⟩ | ⟨h3,h4⟩
  ·exact hne (h1.trans h3.symm)
  ·omega
  ·omega
  ·exact hne (h1.trans h3.symm)
 ·rw[lvs6,w8 j (by omega) (by simp[BT]),lvs4,r8 j h1 h3];exact h2
theorem Sm {k:B8}:∀{es:List Kn} {eb:Nat} {e:En},Aj k es=some (eb,e)->∃P Q,es.map shK=P++(k,eb,shE e)::Q/\∀x,(BZ k x es).map shK=P++(k,eb,shE x)::Q
 | .mk k' eb' e'::r,eb,e,h=>by
  unfold Aj at h;by_cases hk:k=k'
  ·rw[if_pos hk]at h
   cases h;subst hk;exact⟨[],r.map shK,rfl,λx=>by rw[BZ,if_pos rfl];rfl⟩
  ·rw[if_neg hk]at h
   obtain⟨P,Q,h1,h2⟩:=Sm h;exact⟨shK (.mk k' eb' e')::P,Q,by rw[List.map_cons,h1];rfl,λx=>by rw[BZ,if_neg hk,List.map_cons,h2 x];rfl⟩
theorem SA {k k2:B8} {eb:Nat} {e e':ShE} {G:List (B8×Nat×ShE)}:∀F:List (B8×Nat×ShE),(EQ k2 (F++(k,eb,e')::G)).map (λp=>TV.box p.1 0)=(EQ k2 (F++(k,eb,e)::G)).map λp=>TV.box p.1 0
 | []=>by
  rw[List.nil_append,List.nil_append,EQ,EQ];split<;>rfl
 | (k',p)::F=>by
  rw[List.cons_append,List.cons_append,EQ,EQ];split
  ·rfl
  ·exact SA F
theorem BH.more {bb ub eb n m nodes nodes':Nat} {now now' lv:TV} {T t:Tb} {σ:Nat->TV} {st st':St} {h:List Hop} {k:B8} {l:List Tb} {up:List (Nat×TV)} (H:BH bb ub now T nodes σ st) (hA:atT T h=some t) (hl:Aj k t.es=some (eb,.lst l))
  (hnb:st.nb<=st'.nb) (hup:Un ub (shT 1 T) st up)
  (kx:∀x,x<st.nb->x≠bb->x≠ub->x≠eb->st'.box x=st.box x)
  (ke:st'.box eb= .cells (.nilPtr::lv::(z13++[.int .i64 0]))) (kr:ED lv ((l.map λt=> .box t.b 0)++[.box n 0]))
  (kb:st'.box bb= .cells [.box T.b 0,now',.map ub,.int .i64 nodes']) (ku:st'.box ub= .pmap (GS n (.bool true) up))
  (kn:st'.box n= .cells [.nilSlice,.map m,.int .i64 ((1+dpH h+2:Nat):Int)]) (km:st'.box m= .map []) (hn:st.nb<=n/\n<st'.nb) (hm:st.nb<=m/\m<st'.nb) (hnm:n≠m)
  (htip:∀id,BT lv=some id->st.nt<=id/\id<st'.nt/\st'.live id=true)
  (hlv:∀i,i<st.nt->st.live i=true->BT (σ eb)≠some i->i<st'.nt/\st'.live i=true):
  BH bb ub now' (AA T h (BM t k (.lst (l++[.mk n m false []])))) nodes' (λx=>if x=eb then lv else if x<st.nb then σ x else .nilSlice) st':=by
 obtain⟨A,B,e1,e2⟩:=Hm h hA 1;rw[BP (1+dpH h) t]at e1;have hp:=H.hp;rw[e1]at hp;have ht':=e2 (BM t k (.lst (l++[.mk n m false []]))) rfl;obtain⟨P,Q,p1,p2⟩:=Ft (1+dpH h) hl;obtain⟨F,G,f1,f2⟩:=Sm hl;have eC:shT (1+dpH h) (BM t k (.lst (l++[.mk n m false []])))=⟨t.b,t.m,t.hd,1+dpH h,F++(k,eb,.lst (l.map Tb.b++[n]))::G⟩::(P++((AL (1+dpH h) (.lst l)++[⟨n,m,false,1+dpH h+2,[]⟩])++Q)):=by
  unfold BM;rw[shT,f2,p2];congr 2
  ·show F++(k,eb,ShE.lst ((l++[Tb.mk n m false []]).map Tb.b))::G=_
   rw[List.map_append];rfl
  ·show AL (1+dpH h) (.lst (l++[Tb.mk n m false []]))++Q=_
   rw[AL,Ky,D5,D5,shT,Cn,AL];rfl
 rw[eC]at ht';rw[f1,p1]at hp e1;generalize AL (1+dpH h) (.lst l)=S at*;have hin:∀{x},x∈bxL (⟨t.b,t.m,t.hd,1+dpH h,F++(k,eb,shE (.lst l))::G⟩::(P++(S++Q)))->x∈bxL (A++((⟨t.b,t.m,t.hd,1+dpH h,F++(k,eb,shE (.lst l))::G⟩::(P++(S++Q)))++B)):=λhx=>by
  rw[Ap,Ap];exact List.mem_append_right _ (List.mem_append_left _ hx)
 have hsm:(⟨t.b,t.m,t.hd,1+dpH h,F++(k,eb,shE (.lst l))::G⟩:Sh)∈A++((⟨t.b,t.m,t.hd,1+dpH h,F++(k,eb,shE (.lst l))::G⟩::(P++(S++Q)))++B):=List.mem_append_right A (List.mem_append_left B (List.mem_cons_self ..));have hS:=hp.sh _ hsm;have heb:eb∈bxL (⟨t.b,t.m,t.hd,1+dpH h,F++(k,eb,shE (.lst l))::G⟩::(P++(S++Q))):=by
  rw[Az];exact List.mem_append_left _ (Dx (x:=(k,eb,shE (.lst l))) (by simp))
 have leb:eb<st.nb:=hp.lt _ (hin heb);have bx:=H.bx;have ux:=H.ux;rw[e1]at bx ux;have hbl:=H.bl;have hul:=H.ul;obtain⟨n1,n2,n3⟩:=EO hp.nd
 --the boxes of the new shapes
 have eX:bxL (⟨t.b,t.m,t.hd,1+dpH h,F++(k,eb,.lst (l.map Tb.b++[n]))::G⟩::(P++((S++[⟨n,m,false,1+dpH h+2,[]⟩])++Q)))=(bxS ⟨t.b,t.m,t.hd,1+dpH h,F++(k,eb,shE (.lst l))::G⟩++(bxL P++bxL S))++([n,m]++bxL Q):=by
  rw[Az,Ap,Ap,Ap];have:bxS ⟨t.b,t.m,t.hd,1+dpH h,F++(k,eb,.lst (l.map Tb.b++[n]))::G⟩=bxS ⟨t.b,t.m,t.hd,1+dpH h,F++(k,eb,shE (.lst l))::G⟩:=by simp[bxS]
  rw[this];show _++(bxL P++((bxL S++[n,m])++bxL Q))=_;simp only[List.append_assoc]
 have eX0:bxL (⟨t.b,t.m,t.hd,1+dpH h,F++(k,eb,shE (.lst l))::G⟩::(P++(S++Q)))=(bxS ⟨t.b,t.m,t.hd,1+dpH h,F++(k,eb,shE (.lst l))::G⟩++(bxL P++bxL S))++bxL Q:=by
  rw[Az,Ap,Ap];simp only[List.append_assoc]
 have mem':∀{x},x∈bxL (⟨t.b,t.m,t.hd,1+dpH h,F++(k,eb,.lst (l.map Tb.b++[n]))::G⟩::(P++((S++[⟨n,m,false,1+dpH h+2,[]⟩])++Q)))->x∈bxL (⟨t.b,t.m,t.hd,1+dpH h,F++(k,eb,shE (.lst l))::G⟩::(P++(S++Q)))∨x=n∨x=m:=λ{x} hx=>by
  rw[eX]at hx;rw[eX0];rcases List.mem_append.1 hx with h1 | h1
  ·exact .inl (List.mem_append_left _ h1)
  ·rcases List.mem_append.1 h1 with h1 | h1
   ·rcases List.mem_cons.1 h1 with h1 | h1
    ·exact .inr (.inl h1)
    ·exact .inr (.inr (List.mem_singleton.1 h1))
   ·exact .inl (List.mem_append_right _ h1)
 have same:∀x,x∈bxL (A++((⟨t.b,t.m,t.hd,1+dpH h,F++(k,eb,shE (.lst l))::G⟩::(P++(S++Q)))++B))->x≠eb->st'.box x=st.box x/\(if x=eb then lv else if x<st.nb then σ x else .nilSlice)=σ x:=λx hx hne=>
  ⟨kx x (hp.lt x hx) (λe=>bx (e▸hx)) (λe=>ux (e▸hx)) hne,by rw[if_neg hne,if_pos (hp.lt x hx)]⟩
 have neb:∀{x},x∈bxL A∨x∈bxL B->x≠eb:=λ{x} hx e=>by subst e;exact hx.elim (n3 _ heb).1 (n3 _ heb).2
 have mAB:∀{x},x∈bxL A∨x∈bxL B->x∈bxL (A++((⟨t.b,t.m,t.hd,1+dpH h,F++(k,eb,shE (.lst l))::G⟩::(P++(S++Q)))++B)):=λhx=>by
  rw[Ap,Ap];exact hx.elim (λh=>List.mem_append_left _ h) λh=>List.mem_append_right _ (List.mem_append_right _ h)
 have htipx:∀x,x∈bxL (⟨t.b,t.m,t.hd,1+dpH h,F++(k,eb,.lst (l.map Tb.b++[n]))::G⟩::(P++((S++[⟨n,m,false,1+dpH h+2,[]⟩])++Q)))->∀id,BT (if x=eb then lv else if x<st.nb then σ x else .nilSlice)=some id->
   (x=eb/\BT lv=some id)∨(x∈bxL (⟨t.b,t.m,t.hd,1+dpH h,F++(k,eb,shE (.lst l))::G⟩::(P++(S++Q)))/\x≠eb/\BT (σ x)=some id):=λx hx id hid=>by
  by_cases hxe:x=eb
  ·rw[if_pos hxe]at hid;exact .inl ⟨hxe,hid⟩
  ·rw[if_neg hxe]at hid
   rcases mem' hx with h1 | h1 | h1
   ·rw[if_pos (hp.lt x (hin h1))]at hid;exact .inr ⟨h1,hxe,hid⟩
   ·rw[if_neg (by omega)]at hid;cases hid
   ·rw[if_neg (by omega)]at hid;cases hid
 have n2':=n2;rw[Az]at n2';obtain⟨c1,c2,c3⟩:=List.nodup_append.1 n2';have hebS:eb∈bxS ⟨t.b,t.m,t.hd,1+dpH h,F++(k,eb,shE (.lst l))::G⟩:=Dx (x:=(k,eb,shE (.lst l))) (by simp);have itb:t.b∈bxL (⟨t.b,t.m,t.hd,1+dpH h,F++(k,eb,shE (.lst l))::G⟩::(P++(S++Q))):=by rw[Az];exact List.mem_append_left _ (.head _)
 have itm:t.m∈bxL (⟨t.b,t.m,t.hd,1+dpH h,F++(k,eb,shE (.lst l))::G⟩::(P++(S++Q))):=by rw[Az];exact List.mem_append_left _ (.tail _ (.head _))
 have hebM:eb∈(F++(k,eb,shE (.lst l))::G).map λx=>x.2.1:=List.mem_map.2 ⟨(k,eb,shE (.lst l)),by simp,rfl⟩;have d1:t.b≠eb:=λe=>(List.nodup_cons.1 c1).1 (.tail _ (e▸hebM));have d2:t.m≠eb:=λe=>(List.nodup_cons.1 (List.nodup_cons.1 c1).2).1 (e▸hebM);have dFG:((F.map λx=>x.2.1)++eb::(G.map λx=>x.2.1)).Nodup:=by
  have:=(List.nodup_cons.1 (List.nodup_cons.1 c1).2).2;simpa using this
 have dF:∀x,x∈F->x.2.1≠eb:=λx hx e=>(List.nodup_append.1 dFG).2.2 x.2.1 (List.mem_map.2 ⟨x,hx,rfl⟩) eb (.head _) e;have dG:∀x,x∈G->x.2.1≠eb:=λx hx e=>(List.nodup_cons.1 (List.nodup_append.1 dFG).2.1).1 (e▸List.mem_map.2 ⟨x,hx,rfl⟩);have rest:∀s,s∈P++(S++Q)->Rq (λx=>if x=eb then lv else if x<st.nb then σ x else .nilSlice) st' s:=λs hs=>by
  refine(hp.sh s (List.mem_append_right _ (List.mem_append_left _ (.tail _ hs)))).fr λx hx=>?_;have hx':x∈bxL (P++(S++Q)):=Bw hs hx;exact same x (hin (by rw[Az];exact List.mem_append_right _ hx')) λe=>c3 eb hebS x hx' e.symm
 have HP':HP (λx=>if x=eb then lv else if x<st.nb then σ x else .nilSlice) st' (A++((⟨t.b,t.m,t.hd,1+dpH h,F++(k,eb,.lst (l.map Tb.b++[n]))::G⟩::(P++((S++[⟨n,m,false,1+dpH h+2,[]⟩])++Q)))++B)):=by
  refine HP.upd hp hnb (λx hx=>same x (mAB hx) (neb hx)) (λx hx id hid=>?_) (λs hs=>?_) ?_ (λx hx=>?_) (λx hx id hid=>?_) λx hx y hy hne id g1 g2=>?_
  ·have hq:=hp.tip x (mAB hx) id hid
   exact hlv id hq.1 hq.2 λe=>hp.td x (mAB hx) eb (hin heb) (neb hx) id hid e
  ·rcases List.mem_cons.1 hs with rfl | hs
   ·have q1:=same _ (hin itb) d1
    have q2:=same _ (hin itm) d2;refine⟨?_,?_,?_,λx hx=>?_⟩
    ·show st'.box t.b= .cells [(if t.b=eb then lv else if t.b<st.nb then σ t.b else .nilSlice),_,_]
     rw[q1.1,q1.2];exact hS.cell
    ·show ED (if t.b=eb then lv else if t.b<st.nb then σ t.b else .nilSlice) _
     rw[q1.2];have:=hS.row;simp only[List.map_append,List.map_cons]at this⊢;exact this
    ·obtain⟨mp,h1,h2⟩:=hS.mp
     refine⟨mp,by show st'.box t.m=_;rw[q2.1];exact h1,λk2=>?_⟩;rw[h2 k2];exact(SA F).symm
    ·rcases List.mem_append.1 hx with h1 | h1
     ·have:=same x.2.1 (hin (by rw[Az];exact List.mem_append_left _ (Dx (s:=⟨t.b,t.m,t.hd,1+dpH h,F++(k,eb,shE (.lst l))::G⟩) (List.mem_append_left _ h1)))) (dF x h1)
      exact(hS.en x (List.mem_append_left _ h1)).fr this.1 this.2
     ·rcases List.mem_cons.1 h1 with rfl | h1
      ·refine⟨?_,by simp,?_⟩
       ·show ED (if eb=eb then lv else _) _
        rw[if_pos rfl,List.map_append,List.map_map];exact kr
       ·show st'.box eb= .cells (.nilPtr::(if eb=eb then lv else _)::_)
        rw[if_pos rfl];exact ke
      ·have:=same x.2.1 (hin (by rw[Az];exact List.mem_append_left _ (Dx (s:=⟨t.b,t.m,t.hd,1+dpH h,F++(k,eb,shE (.lst l))::G⟩) (List.mem_append_right _ (.tail _ h1))))) (dG x h1)
       exact(hS.en x (List.mem_append_right _ (.tail _ h1))).fr this.1 this.2
   ·rcases List.mem_append.1 hs with h1 | h1
    ·exact rest s (List.mem_append_left _ h1)
    ·rcases List.mem_append.1 h1 with h1 | h1
     ·rcases List.mem_append.1 h1 with h1 | h1
      ·exact rest s (List.mem_append_right _ (List.mem_append_left _ h1))
      ·rw[List.mem_singleton.1 h1]
       have s4:(if n=eb then lv else if n<st.nb then σ n else .nilSlice)= .nilSlice:=by rw[if_neg (by omega),if_neg (by omega)]
       exact⟨by show st'.box n= .cells [(if n=eb then lv else if n<st.nb then σ n else .nilSlice),_,_];rw[s4];exact kn,by show ED (if n=eb then lv else if n<st.nb then σ n else .nilSlice) _;rw[s4];exact ED.nil,⟨[],km,λ_=>rfl⟩,λx hx=>by cases hx⟩
     ·exact rest s (List.mem_append_right _ (List.mem_append_right _ h1))
  ·rw[eX]
   rw[eX0]at n2;obtain⟨b1,b2,b3⟩:=List.nodup_append.1 n2;have ol:∀{x},x∈(bxS ⟨t.b,t.m,t.hd,1+dpH h,F++(k,eb,shE (.lst l))::G⟩++(bxL P++bxL S))++bxL Q->x<st.nb:=λhx=>hp.lt _ (hin (by rw[eX0];exact hx));have mm:∀{y},y∈ [n,m]->st.nb<=y:=λ{y} hy=>by
    rcases List.mem_cons.1 hy with rfl | hy
    ·exact hn.1
    ·rw[List.mem_singleton.1 hy];exact hm.1
   refine List.nodup_append.2 ⟨b1,List.nodup_append.2 ⟨by simp[hnm],b2,λx hx y hy e=>?_⟩,λx hx y hy e=>?_⟩
   ·have g1:=mm hx
    have g2:=ol (List.mem_append_right _ hy);omega
   ·rcases List.mem_append.1 hy with h1 | h1
    ·have g1:=mm h1
     have g2:=ol (List.mem_append_left _ hx);omega
    ·exact b3 x hx y h1 e
  ·rcases mem' hx with h1 | h1 | h1
   ·exact⟨Nat.lt_of_lt_of_le (hp.lt x (hin h1)) hnb,.inl h1⟩
   ·exact⟨by omega,.inr (by omega)⟩
   ·exact⟨by omega,.inr (by omega)⟩
  ·rcases htipx x hx id hid with⟨_,h1⟩ | ⟨h1,h2,h3⟩
   ·have:=htip id h1;exact⟨this.2.1,this.2.2,.inr this.1⟩
   ·have hq:=hp.tip x (hin h1) id h3
    have:=hlv id hq.1 hq.2 λe=>hp.td x (hin h1) eb (hin heb) h2 id h3 e;exact⟨this.1,this.2,.inl ⟨x,h1,h3⟩⟩
  ·rcases htipx x hx id g1 with⟨h1,h1'⟩ | ⟨h1,h2,h3⟩<;>rcases htipx y hy id g2 with⟨h4,h4'⟩ | ⟨h4,h5,h6⟩
   ·exact hne (h1.trans h4.symm)
   ·have:=(htip id h1').1;have:=(hp.tip y (hin h4) id h6).1;omega
   ·have:=(htip id h4').1;have:=(hp.tip x (hin h1) id h3).1;omega
   ·exact hp.td x (hin h1) y (hin h4) hne id h3 h6
 have isc:∀p,p∈up->Au st' p.1=true/\p.1<st'.nb:=λp hp'=>by
  obtain⟨q1,q2⟩:=hup.ok p hp';refine⟨?_,by omega⟩;by_cases c3:p.1=bb
  ·rw[c3];simp[Au,kb]
  ·by_cases c4:p.1=ub
   ·rw[c4]at q1;simp[Au,hup.box]at q1
   ·by_cases c5:p.1=eb
    ·rw[c5];simp[Au,ke]
    ·simp only[Au,kx _ q2 c3 c4 c5]at q1⊢;exact q1
 have fdo:∀s,s∈A++((⟨t.b,t.m,t.hd,1+dpH h,F++(k,eb,shE (.lst l))::G⟩::(P++(S++Q)))++B)->CF s.b (GS n (.bool true) up)=(if s.hd=true then none else some (.bool true)):=λs hs=>by
  have hlt:s.b<st.nb:=hp.lt _ (Bw hs (.head _));rw[F0,if_neg (by omega)];exact hup.fd s (by rw[e1];exact hs)
 have memb:∀x,x∈bxL (A++((⟨t.b,t.m,t.hd,1+dpH h,F++(k,eb,.lst (l.map Tb.b++[n]))::G⟩::(P++((S++[⟨n,m,false,1+dpH h+2,[]⟩])++Q)))++B))->
   x∈bxL (A++((⟨t.b,t.m,t.hd,1+dpH h,F++(k,eb,shE (.lst l))::G⟩::(P++(S++Q)))++B))∨st.nb<=x:=λx hx=>by
  rw[Ap,Ap]at hx;rcases List.mem_append.1 hx with h1 | h1
  ·exact .inl (mAB (.inl h1))
  ·rcases List.mem_append.1 h1 with h1 | h1
   ·rcases mem' h1 with h2 | h2 | h2
    ·exact .inl (hin h2)
    ·exact .inr (by omega)
    ·exact .inr (by omega)
   ·exact .inl (mAB (.inr h1))
 have hsb:(AA T h (BM t k (.lst (l++[Tb.mk n m false []])))).b=T.b:=Dg h hA rfl;refine⟨by rw[ht'];exact HP',by rw[hsb];exact kb,⟨_,ku,?_,λp hp'=>?_,λs hs=>?_⟩,by omega,by omega,λhx=>?_,λhx=>?_⟩
 ·rw[La _ _ _ λp hp' e=>by have:=(hup.ok p hp').2;omega]
  refine List.nodup_append.2 ⟨hup.nd,by simp,λx hx y hy e=>?_⟩;obtain⟨p,hp',rfl⟩:=List.mem_map.1 hx;have:=(hup.ok p hp').2;rw[List.mem_singleton.1 hy]at e;omega
 ·rcases Na _ _ _ p hp' with rfl | hp'
  ·exact⟨by simp[Au,kn],hn.2⟩
  ·exact isc p hp'
 ·rw[ht']at hs
  rcases List.mem_append.1 hs with h1 | h1
  ·exact fdo s (List.mem_append_left _ h1)
  ·rcases List.mem_append.1 h1 with h1 | h1
   ·rcases List.mem_cons.1 h1 with rfl | h1
    ·exact fdo ⟨t.b,t.m,t.hd,1+dpH h,F++(k,eb,shE (.lst l))::G⟩ hsm
    ·rcases List.mem_append.1 h1 with h1 | h1
     ·exact fdo s (List.mem_append_right _ (List.mem_append_left _ (.tail _ (List.mem_append_left _ h1))))
     ·rcases List.mem_append.1 h1 with h1 | h1
      ·rcases List.mem_append.1 h1 with h1 | h1
       ·exact fdo s (List.mem_append_right _ (List.mem_append_left _ (.tail _ (List.mem_append_right _ (List.mem_append_left _ h1)))))
       ·rw[List.mem_singleton.1 h1,F0,if_pos rfl];rfl
      ·exact fdo s (List.mem_append_right _ (List.mem_append_left _ (.tail _ (List.mem_append_right _ (List.mem_append_right _ h1)))))
   ·exact fdo s (List.mem_append_right _ (List.mem_append_right _ h1))
 ·rw[ht']at hx
  rcases memb bb hx with h1 | h1
  ·exact bx h1
  ·omega
 ·rw[ht']at hx
  rcases memb ub hx with h1 | h1
  ·exact ux h1
  ·omega
theorem I2 {t:Tb} {k:B8} {eb:Nat} {e x:En} (h:Aj k t.es=some (eb,e)):Aj k (BM t k x).es=some (eb,x):=by
 have:=look_chg (k2:=k) (x:=x) h;rw[if_pos rfl]at this;exact this
theorem cnt_lst (T t:Tb) {h:List Hop} {k:B8} {eb:Nat} {l:List Tb} {u:Tb} (hA:atT T h=some t) (hl:Aj k t.es=some (eb,.lst l)):(Ae (AA T h (BM t k (.lst (l++[u]))))).cnt=(Ae T).cnt+(Ae u).cnt:=by
 have h1:=(Ck h hA (BM t k (.lst (l++[u])))).cnt;obtain⟨F,G,f1,f2⟩:=E7 hl;have e1:(Ae (BM t k (.lst (l++[u])))).cnt=(Ae t).cnt+(Ae u).cnt:=by
  unfold BM;rw[Ae,f2,Gz t,f1];have:BS (l++[u])=BS l++[Ae u]:=by rw[Dl,Dl,List.map_append];rfl
  simp only[Vl.cnt,Ll,AX,Fd.cnt,AK,this,Fc,AH];omega
 omega
theorem ent_bx {bb ub nodes eb:Nat} {now:TV} {T t:Tb} {σ:Nat->TV} {st:St} {h:List Hop} {k:B8} {e:En} (H:BH bb ub now T nodes σ st) (hA:atT T h=some t) (hl:Aj k t.es=some (eb,e)):eb∈bxL (shT 1 T):=
 Bw (H.tab hA).2 (Dx (x:=(k,eb,shE e)) (List.mem_map.2 ⟨.mk k eb e,Li hl,rfl⟩))
theorem AaC {bb ub eb:Nat} {now:TV} {T t:Tb} {σ:Nat->TV} {st:St} {h:List Hop} {k:B8} {l:List Tb} {K:Int->St->Prop} (H:BH bb ub now T (Ae T).cnt σ st) (hA:atT T h=some t) (hl:Aj k t.es=some (eb,.lst l)) (hc:(Ae T).cnt<=800000)
  (hk:∀nu σ' st',BH bb ub (.box nu.b 0) (AA T h (BM t k (.lst (l++[Ar nu false])))) ((Ae T).cnt+1) σ' st'->K 0 st'):
  AS (Af st [] (.t (.box t.b 2)) 0) λx7=>CG (.int .i64) x7 λn3=>CallT PR AJ [.box bb 0,.int .i64 (IntKind.wrap .i64 (n3+2))] [.one .tv] st λv7 st7=>need (List.all [v7] Av) (stB st7 (.box bb 1) [v7] λst8=>
   AS (Af st8 [] (.t (.box eb 1)) 0) λv8=>AS (Af st8 [] (.t (.box bb 1)) 0) λv9=>need (List.all [v9] Av) (need (List.all [v9] Av) (Bn 176 1 8 v8 1 [v9] st8 λv10 st9=>need (List.all [v10] Av) (stB st9 (.box eb 1) [v10] λst10=>K 0 st10)))):=by
 obtain⟨up,hup⟩:=H.un;have hbl:=H.bl;have hul:=H.ul;have hbu:=H.bu;have hdp:=Oz hA;have hent:=H.ent hA hl;obtain⟨g1,g2,g3⟩:=hent;have hebx:=ent_bx H hA hl;have leb:eb<st.nb:=H.hp.lt _ hebx;have eb1:eb≠bb:=λe=>H.bx (e▸hebx);have eb2:eb≠ub:=λe=>H.ux (e▸hebx);refine H.ldd hA (Am ?_);have hwd:IntKind.wrap .i64 (((1+dpH h:Nat):Int)+2)=((1+dpH h+2:Nat):Int):=by rw[Ah _ (by omega) (by omega)];simp
 rw[hwd];refine Lq H.cell hup.box hbl hul hup.ok ⟨by omega,by omega⟩ λst7 q1 q2 q3 q4=>Aa rfl ?_;have hbb7:st7.box bb= .cells [.box T.b 0,now,.map ub,.int .i64 (((Ae T).cnt:Int)+1)]:=by rw[q2];simp only;rw[if_pos trivial]
 refine⟨_,hbb7,by simp,?_⟩;generalize hst8:st7.put bb (.cells (setAll [.box T.b 0,now,.map ub,.int .i64 (((Ae T).cnt:Int)+1)] 1 [.box (st.nb+1) 0]))=st8;have bx8:∀x,st8.box x=if x=bb then .cells [.box T.b 0,.box (st.nb+1) 0,.map ub,.int .i64 (((Ae T).cnt:Int)+1)]else st7.box x:=λx=>by rw[<-hst8];rfl
 have nbs8:st8.nb=st.nb+2:=by rw[<-hst8];show st7.nb=_;omega
 have nts8:st8.nt=st.nt:=by rw[<-hst8];show st7.nt=_;omega
 have lvs8:st8.live=st.live:=by rw[<-hst8];show st7.live=_;rw[q4]
 have he8:st8.box eb= .cells (.nilPtr::σ eb::(z13++[.int .i64 0])):=by
  rw[bx8,if_neg eb1,q2];simp only;rw[if_neg eb1,if_neg eb2,if_neg (by omega),if_neg (by omega)];exact g3
 refine Ac (x:=σ eb) (by simp only[Af,he8];rfl) (Ac (x:= .box (st.nb+1) 0) (by simp only[Af,bx8,if_pos trivial];rfl) (Aa rfl (Aa rfl ?_)));have hll:=lst_le hl;have hlt:=(ZP hA).1;refine Rj g1 (λid hid=>?_) (by rw[List.length_map,List.length_map];omega) λv10 st9 w1 w2 w3 w4 w5 w6 w7 w8=>?_
 ·rw[nts8,lvs8];exact H.hp.tip eb hebx id hid
 have w1':Av v10=true:=by
  rcases w1 with⟨_,hx⟩ | ⟨tip,h9,_⟩
  ·simp at hx
  ·rw[h9];rfl
 have he9:st9.box eb= .cells (.nilPtr::σ eb::(z13++[.int .i64 0])):=by rw[w3];exact he8
 refine Aa (by simp[w1']) ⟨_,he9,by simp,?_⟩;generalize hst10:st9.put eb (.cells (setAll (.nilPtr::σ eb::(z13++[.int .i64 0])) 1 [v10]))=st10;have bx10:∀x,st10.box x=if x=eb then .cells (.nilPtr::v10::(z13++[.int .i64 0]))else st8.box x:=λx=>by rw[<-hst10,<-w3];rfl
 have nbs10:st10.nb=st.nb+2:=by rw[<-hst10];show st9.nb=_;omega
 have nts10:st10.nt=st.nt+1:=by rw[<-hst10];show st9.nt=_;omega
 have lvs10:st10.live=st9.live:=by rw[<-hst10];rfl
 rw[nts8]at w2 w7 w8;refine hk ⟨st.nb+1,st.nb,0⟩ _ st10 (BH.more (n:=st.nb+1) (m:=st.nb) (lv:=v10) H hA hl (by omega) hup (λx h1 h2 h3 h4=>?_) ?_ ?_ ?_ ?_ ?_ ?_ ⟨by omega,by omega⟩ ⟨Nat.le_refl _,by omega⟩ (by omega) (λid hid=>?_) λi h1 h2 h3=>?_)
 ·rw[bx10,if_neg h4,bx8,if_neg h2,q2];simp only
  rw[if_neg h2,if_neg h3,if_neg (by omega),if_neg (by omega)]
 ·rw[bx10,if_pos rfl]
 ·rw[List.map_map]at w1;exact w1
 ·rw[bx10,if_neg (Ne.symm eb1),bx8,if_pos rfl];simp
 ·rw[bx10,if_neg (Ne.symm eb2),bx8,if_neg (Ne.symm hbu),q2];simp only
  rw[if_neg (Ne.symm hbu),if_pos trivial]
 ·rw[bx10,if_neg (by omega),bx8,if_neg (by omega),q2];simp only
  rw[if_neg (by omega),if_neg (by omega),if_pos trivial]
 ·rw[bx10,if_neg (by omega),bx8,if_neg (by omega),q2];simp only
  rw[if_neg (by omega),if_neg (by omega),if_neg (by omega),if_pos trivial]
 ·rw[w2]at hid
  cases hid;exact⟨Nat.le_refl _,by omega,by rw[lvs10];exact w7⟩
 ·exact⟨by omega,by rw[lvs10,w8 i h1 h3,lvs8];exact h2⟩
theorem WF {bb ub:Nat} {now:TV} {T t:Tb} {σ:Nat->TV} {st:St} {h:List Hop} {k:B8} {K:Int->St->Prop} (H:BH bb ub now T (Ae T).cnt σ st) (hA:atT T h=some t) (hc:(Ae T).cnt<=800000)
  (hk1:∀nu T' h' u σ' st',OW nu T t h k= .ok (T',h')->atT T' h'=some u->BH bb ub (.box u.b 0) T' (Ae T').cnt σ' st'->(Ae T').cnt<=(Ae T).cnt+2->K 0 st')
  (hk2:∀nu st',OW nu T t h k= .error 6->K 6 st'):
  CallT PR CR [.box bb 0,.box t.b 0,.str k] [.one (.int .i64)] st K:=by
 refine Hf bb t.b k st K (H.ldm hA (H.map hA λes hes=>?_));rw[hes k];have nu0:Nu:=⟨0,0,0⟩;rcases hl:Aj k t.es with _ | ⟨eb,e⟩
 ·rw[Option.map_none]
  refine Aa rfl ?_;show CallT _ _ _ _ _ _;refine elem_new H hA hl hc λnu σ' st' H1=>?_;have hcn:=NI (k:=k) (eb:=nu.eb) (e:= .lst [Ar nu false]) hA;have hc2:(AK (.lst [Ar nu false])).cnt=2:=by rw[AK,BS,BS,Ar,Ae,Bb];simp[Vl.cnt,AH,AX]
  rw[hc2]at hcn;rw[<-hcn]at H1;have hl1:Aj k (AM t k nu.eb (.lst [Ar nu false])).es=some (nu.eb,.lst [Ar nu false]):=by
   have:=Fx (k2:=k) (eb:=nu.eb) (e:= .lst [Ar nu false]) hl;rw[if_pos rfl]at this;exact this
  exact hk1 nu _ _ (Ar nu false) σ' st' (by unfold OW;rw[hl]) (GK (CT h hA) hl1 rfl) H1 (by omega)
 ·rw[Option.map_some]
  refine Aa rfl (show need _ _ from Aa rfl (Aa rfl (H.ent1 hA hl λv hv=>Aa hv.sl ?_)));rw[hv.len];cases e with
  | opn u=>exact Ab (λ_=>hk2 nu0 st (by unfold OW;rw[hl])) λhne=>absurd rfl hne
  | clo v i=>exact Ab (λ_=>hk2 nu0 st (by unfold OW;rw[hl])) λhne=>absurd rfl hne
  | lst l=>
   have hne:l≠ []:=by have:=(H.ent hA hl).2.1;intro e;rw[e]at this;exact this rfl
   have hlp:0<l.length:=List.length_pos_iff.2 hne;refine Ab (λhz=>absurd hz (by simp[Vh];exact hne)) λ_=>?_;refine AaC H hA hl hc λnu σ' st' H1=>?_;have hcn:=cnt_lst T t (u:=Ar nu false) hA hl;have hc1:(Ae (Ar nu false)).cnt=1:=by rw[Ar,Ae,Bb];simp[Vl.cnt,AH,AX]
   rw[hc1]at hcn;rw[<-hcn]at H1;exact hk1 nu _ _ (Ar nu false) σ' st' (by unfold OW;rw[hl]) (GK (CT h hA) (I2 hl) (by simp)) H1 (by omega)
end Go.TVF
section
namespace Go.Proofs
open Go.Shelf
def Tryz.laysValid_ren:Go.Shelf.Ren:=⟨λ| 196=>304 | 259=>354 | n=>n,λ| 9=>9 | 4=>4 | 3=>3 | 5=>5 | 12=>12 | 119=>351 | 0=>0 | 46=>277 | 139=>354 | 138=>353 | 53=>342 | n=>n,λ| 3=>0 | 4=>1 | n=>n⟩
theorem Tryz.laysValid:Go.Proofs.Lays.n196 Tryz.prog Tryz.laysValid_ren:={
 mixed:=by kernel_rfl
 f196:=Tryz.func304.trans (congrArg some (by kernel_rfl))
 f259:=Tryz.func354.trans (congrArg some (by kernel_rfl))
 t0:=Tryz.underlying0
 a0:=Tryz.isAgg0
 z0:=Tryz.sizeOf0
 v0:=Tryz.zeroValue0
 t3:=Tryz.underlying3
 a3:=Tryz.isAgg3
 z3:=Tryz.sizeOf3
 v3:=Tryz.zeroValue3
 t4:=Tryz.underlying4
 a4:=Tryz.isAgg4
 z4:=Tryz.sizeOf4
 v4:=Tryz.zeroValue4
 t5:=Tryz.underlying5
 a5:=Tryz.isAgg5
 z5:=Tryz.sizeOf5
 v5:=Tryz.zeroValue5
 t9:=Tryz.underlying9
 a9:=Tryz.isAgg9
 z9:=Tryz.sizeOf9
 v9:=Tryz.zeroValue9
 t12:=Tryz.underlying12
 a12:=Tryz.isAgg12
 z12:=Tryz.sizeOf12
 v12:=Tryz.zeroValue12
 t46:=Tryz.underlying277
 a46:=Tryz.isAgg277
 z46:=Tryz.sizeOf277
 v46:=Tryz.zeroValue277
 t53:=Tryz.underlying342
 a53:=Tryz.isAgg342
 z53:=Tryz.sizeOf342
 v53:=Tryz.zeroValue342
 t119:=Tryz.underlying351
 a119:=Tryz.isAgg351
 z119:=Tryz.sizeOf351
 t138:=Tryz.underlying353
 a138:=Tryz.isAgg353
 z138:=Tryz.sizeOf353
 v138:=Tryz.zeroValue353
 t139:=Tryz.underlying354
 a139:=Tryz.isAgg354
 z139:=Tryz.sizeOf354
 v139:=Tryz.zeroValue354
 g3:=by kernel_rfl
 g4:=by kernel_rfl}
open Go.RowKit in
theorem Tryz.utf8_ValidString (s:ByteArray) (w:World) (hs:s.size<=9223372036854775807) (hT:Lib.Utf8Tabs 0 1 w):
  Calls Tryz.prog 304 #[.string s] w λe w'=>e= .returned (.bool (Lib.validD s.data.toList))/\Below w.heap.size w w':=Any.utf8_ValidString Tryz.laysValid s w hs hT
end Go.Proofs
end
section
namespace Go.TVF
open Go.IntKind(i64 u8)
open Go Go.Proofs Go.RowKit
theorem decL_dN {l:B8} (h:l≠ []):Lib.decodeL l=dN l:=by
 unfold Lib.decodeL dN bt;rw[Lib.decode_at];have hg:∀i,(ByteArray.get! ⟨l.toArray⟩ i)=l.getD i 0:=λi=>by
  simp[ByteArray.get!,List.getD];rfl
 simp only[hg,Nat.zero_add,Nat.sub_zero];rfl
theorem M0:∀(n:Nat) (l:B8),l.length<=n->Lib.validGoD n l=decide (Ct l=l.length)
 | 0,l,h=>by
  have:l=[]:=List.eq_nil_of_length_eq_zero (by omega);subst this;simp[Lib.validGoD,Cv [] (by simp[ul])]
 | n+1,l,h=>by
  unfold Lib.validGoD;by_cases h0:l=[]
  ·subst h0
   simp[Cv [] (by simp[ul])]
  ·rw[if_neg h0,decL_dN h0]
   have hl:l.length≠0:=λe=>h0 (List.eq_nil_of_length_eq_zero e);by_cases hz:ul l=0
   ·have hd:=(Te l h0).1 hz
    rw[if_pos (by rw[hd];exact⟨rfl,rfl⟩),Cv l hz];exact(decide_eq_false (by omega)).symm
   ·have hd:=X7 l hz
    have hn:=ul_not l hz;have hle:=PZ l;rw[if_neg (by rw[hd];exact hn),hd,M0 n (l.drop (ul l)) (by simp only[List.length_drop];omega),Fe l hz];simp only[List.length_drop];exact decide_eq_decide.2 (by omega)
theorem PX {l:B8} {st:St} {K:Bool->St->Prop} (hl:l.length<=9223372036854775807) (hk:K (decide (U8 l)) st):CallT PR GP [.str l] [.one .bool] st K:=by
 refine Fq (λ_ _=>by kernel_rfl) λg w vargs s hr=>?_;obtain⟨v,rfl,hv⟩:=Vk hr;rw[Ec hv];refine Calls.mono (Tryz.utf8_ValidString ⟨l.toArray⟩ w (by simpa [ByteArray.size]using hl) (s.glob w s.below)) ?_;rintro e w' ⟨rfl,hb⟩;obtain⟨s',e'⟩:=s.grown hb;rw[show Lib.validD (ByteArray.mk l.toArray).data.toList=decide (U8 l)from M0 l.length l (Nat.le_refl _)];exact⟨_,rfl,.bool (decide (U8 l)),st,g,hk,s',Rel.bool _,e'⟩
end Go.TVF
end
namespace Go.TVF
open Go.IntKind(i64 u8)
open Go Go.Proofs
theorem zero_ok {v:Vl} {st0 st:St} {cs:List TV} {K:Bool->St->Prop} (h:VlR st0 v cs) (hk:K (OG v) st):CallT PR DH [.agg cs] [.one .bool] st K:=by
 obtain⟨s,l,f⟩:=v;obtain⟨ub,ul,uf,xl,xf,rfl,h1,h2,_,h3,_⟩:=h.cells;have kf:¬(s=scO/\l=[]/\f=[])->K false st:=λhn=>by
  have:OG (.mk s l f)=false:=by
   rw[Bool.eq_false_iff];intro e;unfold OG at e;simp only[Bool.and_eq_true,decide_eq_true_eq,List.isEmpty_iff]at e;exact hn ⟨e.1.1,e.1.2,e.2⟩
  rw[<-this];exact hk
 refine Pc s.kind s.b s.neg s.dg s.ex s.tk s.td s.tn s.tz s.text ub ul uf st K (Ab (λg1=>?_) λg1=>kf λe=>g1 (by rw[e.1];rfl));refine Ao (λg2=>?_) λg2=>kf λe=>by rw[e.1]at g2;simp[scO]at g2
 refine Ao (λg3=>?_) λg3=>kf λe=>by rw[e.1]at g3;simp[scO]at g3
 refine Ao (λg4=>?_) λg4=>kf λe=>by rw[e.1]at g4;simp[scO]at g4
 refine Ab (λg5=>?_) λg5=>kf λe=>g5 (by rw[e.1];rfl);refine Aa h1.isSl ?_;rw[h1.lenS];refine Ab (λg6=>?_) λg6=>kf λe=>g6 (by rw[e.1];rfl);refine Aa h2.isSl ?_;rw[h2.lenS];refine Ab (λg7=>?_) λg7=>kf λe=>g7 (by rw[e.2.1];rfl);refine Aa h3.isSl ?_;rw[h3.lenS];have hs:s=scO:=by
  obtain⟨kind,b,neg,dg,ex,tk,td,tn,tz,text,bytes⟩:=s;simp only[Bool.not_eq_true',Bool.and_true,Bool.and_eq_true,beq_iff_eq,decide_eq_true_eq]at g1 g2 g3 g4 g5 g6;have:bytes=[]:=List.eq_nil_of_length_eq_zero (by omega);unfold scO;simp only[g1,g2,g3.1,g3.2.1,g3.2.2,g4.1,g4.2.1,g4.2.2.1,g4.2.2.2,g5,this]
 have hl:l=[]:=List.eq_nil_of_length_eq_zero (by omega);have:decide ((f.length:Int)=0)=OG (.mk s l f):=by
  unfold OG;rw[hs,hl];cases f<;>simp[Vl.sc,Vl.list,Vl.flds]<;>omega
 rw[this];exact hk
theorem Aak {a_0 a_1:Bool} {a_2:TV} {ks:List B8} {v:Vl} {st0 st:St} {cs:List TV} {K:Bool->St->Prop} (hr:Rd 1 a_2 ks.length (ks.map TV.str)) (h:VlR st0 v cs)
  (hk:K (C4 ⟨a_0,a_1,ks,v⟩) st):CallT PR D0 [.agg (.bool a_0:: .bool a_1::a_2::cs)] [.one .bool] st K:=by
 have hz:∀{K:Bool->St->Prop},K (OG v) st->CallT PR DH [.agg cs] [.one .bool] st K:=λhk=>zero_ok h hk;obtain⟨s,l,f⟩:=v;obtain⟨ub,ul,uf,xl,xf,rfl,_⟩:=h.cells;have hsl:isSl a_2=true:=by rcases hr with⟨rfl,_⟩ | ⟨tip,rfl⟩<;>rfl
 have hle:lenS a_2=ks.length:=by
  rcases hr with⟨rfl,e,_⟩ | ⟨tip,rfl⟩
  ·exact e.symm
  ·rfl
 unfold C4 at hk;refine MW a_0 a_1 a_2 s.kind s.b s.neg s.dg s.ex s.tk s.td s.tn s.tz s.text ub ul uf st K (Aa hsl ?_);rw[hle];refine Ab (λg=>?_) λg=>?_
 ·have hne:ks.isEmpty=false:=by cases ks with | nil=>simp at g | cons a b=>rfl
  simp only[hne,Bool.not_false,Bool.true_and]at hk;cases a_0 with
  | true=>exact hz (by simpa using hk)
  | false=>
   cases a_1 with
   | true=>exact(show K false st from by simpa using hk)
   | false=>exact(show K true st from by simpa using hk)
 ·have hne:ks=[]:=List.eq_nil_of_length_eq_zero (by omega)
  simp only[hne,List.isEmpty_nil,Bool.not_true,Bool.false_and]at hk;exact hk
def Xs (k:B8):Bool:= !(decide (U8 k)) || decide (1024<k.length)
theorem odd_ok {k:B8} {st:St} {K:Bool->St->Prop} (hl:k.length<=1000000) (hk:K (Xs k) st):CallT PR Ca [.str k] [.one .bool] st K:=by
 refine PP k st K (PX (by omega) ?_);unfold Xs at hk;by_cases h:U8 k
 ·simp only[h,decide_true,Bool.not_true,Bool.false_or]at hk⊢
  show K (decide ((1024:Int)<(k.length:Int))) st;have:decide ((1024:Int)<(k.length:Int))=decide (1024<k.length):=decide_eq_decide.2 (by omega);rw[this];exact hk
 ·simp only[h,decide_false,Bool.not_false,Bool.true_or]at hk⊢
  exact hk
theorem Uh {a_2:TV} {ks:List B8} {st:St} {K:Bool->St->Prop} (hr:Rd 1 a_2 ks.length (ks.map TV.str)) (hl:∀k,k∈ks->k.length<=1000000) (hn:ks.length<=1000000) (hk:K (ks.any Xs) st):
  CallT PR AF [a_2,.func Ca []] [.one .bool] st K:=by
 have hsl:isSl a_2=true:=by rcases hr with⟨rfl,_⟩ | ⟨tip,rfl⟩<;>rfl
 have hle:lenS a_2=ks.length:=by
  rcases hr with⟨rfl,e,_⟩ | ⟨tip,rfl⟩
  ·exact e.symm
  ·rfl
 have hlz:0<ks.length->lenZ 1 a_2=ks.length:=λh0=>by
  rcases hr with⟨rfl,e,_⟩ | ⟨tip,rfl⟩
  ·omega
  ·rfl
 refine D3 a_2 _ st K (EI a_2 _ st _ (Aa hsl ?_));refine⟨λn_1 s_1 f_1 n_2 st1=>∃j:Nat,n_1=(j:Int)/\j<=ks.length/\s_1=a_2/\f_1= .func Ca []/\n_2=(ks.length:Int)/\st1=st/\(ks.take j).any Xs=false,λn_1 _ _ _ _=>ks.length-n_1.toNat,⟨0,rfl,Nat.zero_le _,rfl,rfl,by rw[hle],rfl,rfl⟩,?_⟩;rintro n_1 s_1 f_1 n_2 st1 ⟨j,rfl,hj,rfl,rfl,rfl,rfl,ha⟩;refine Ab (λhlt=>?_) λhge=>?_
 ·have hlt:j<ks.length:=by omega
  refine⟨⟨by omega,by rw[hlz (by omega)];omega⟩,?_⟩;refine Ac (x:= .str (ks.getD j [])) ?_ (AO ?_)
  ·have:=FV hlt
   rcases hr with⟨rfl,e,_⟩ | ⟨tip,rfl⟩
   ·omega
   ·simp only[ixT,Af,Int.toNat_natCast,Nat.mul_one,List.getElem?_drop,Nat.add_zero]
    exact this
  have hmem:ks.getD j []∈ks:=by
   rw[List.getD_eq_getElem?_getD,List.getElem?_eq_getElem hlt];exact List.getElem_mem hlt
  show CallT PR Ca [.str (ks.getD j [])] _ _ _;refine odd_ok (hl _ hmem) (Ao (λhb=>?_) λhb=>?_)
  ·have:ks.any Xs=true:=List.any_eq_true.2 ⟨_,hmem,hb⟩
   rw[this]at hk;show K (decide ((0:Int)<=(j:Int))) _;rw[decide_eq_true (by omega)];exact hk
  ·have hwj:IntKind.wrap .i64 ((j:Int)+1)=((j+1:Nat):Int):=by rw[Ah _ (by omega) (by omega)];simp
   rw[hwj];refine⟨⟨j+1,rfl,hlt,rfl,rfl,rfl,rfl,?_⟩,by simp only[Int.toNat_natCast];omega⟩;rw[Kr hlt,List.any_append,ha,List.any_cons,hb];rfl
 ·have:j=ks.length:=by omega
  subst this;rw[List.take_length]at ha;rw[ha]at hk;exact hk
def NdL (L:List Sh):Prop:=∀s,s∈L->(s.es.map λx=>x.1).Nodup
theorem NdL.app {A B:List Sh}:NdL (A++B)↔NdL A/\NdL B:=
 ⟨λh=>⟨λs hs=>h s (List.mem_append_left _ hs),λs hs=>h s (List.mem_append_right _ hs)⟩,λh s hs=>(List.mem_append.1 hs).elim (h.1 s) (h.2 s)⟩
theorem NdL.cons {s:Sh} {B:List Sh}:NdL (s::B)↔(s.es.map λx=>x.1).Nodup/\NdL B:=
 ⟨λh=>⟨h s (.head _),λx hx=>h x (.tail _ hx)⟩,λh x hx=>(List.mem_cons.1 hx).elim (λe=>e▸h.1) (h.2 x)⟩
theorem M8 (es:List Kn):(es.map shK).map (λx=>x.1)=es.map Kn.key:=by rw[List.map_map];rfl
theorem VH:∀{es:List Kn} {j:Nat} {k:B8} {eb:Nat} {e:En},(es.map Kn.key).Nodup->es[j]? =some (.mk k eb e)->Aj k es=some (eb,e)
 | .mk k' eb' e'::r,0,k,eb,e,hn,hj=>by
  cases hj;unfold Aj;rw[if_pos rfl]
 | .mk k' eb' e'::r,j+1,k,eb,e,hn,hj=>by
  rw[List.map_cons,List.nodup_cons]at hn;have hj':r[j]? =some (.mk k eb e):=by simpa using hj
  unfold Aj;have hne:k≠k':=λe2=>hn.1 (List.mem_map.2 ⟨_,List.mem_of_getElem? hj',e2⟩);rw[if_neg hne];exact VH hn.2 hj'
theorem nd_set {T t t':Tb} {h:List Hop} (hA:atT T h=some t) (hb:t'.b=t.b) (hn:NdL (shT 1 T)) (ht:NdL (shT (1+dpH h) t)->NdL (shT (1+dpH h) t')):NdL (shT 1 (AA T h t')):=by
 obtain⟨A,B,e1,e2⟩:=Hm h hA 1;rw[e1]at hn;rw[e2 t' hb];obtain⟨h1,h2⟩:=NdL.app.1 hn;obtain⟨h3,h4⟩:=NdL.app.1 h2;exact NdL.app.2 ⟨h1,NdL.app.2 ⟨ht h3,h4⟩⟩
theorem nd_add {T t:Tb} {h:List Hop} {k:B8} {eb:Nat} {e:En} (hA:atT T h=some t) (hl:Aj k t.es=none) (hn:NdL (shT 1 T)) (he:NdL (AL (1+dpH h) e)):NdL (shT 1 (AA T h (AM t k eb e))):=by
 refine nd_set (t':=AM t k eb e) hA rfl hn λht=>?_;rw[BP]at ht;rw[Mm];obtain⟨h1,h2⟩:=NdL.cons.1 ht;refine NdL.cons.2 ⟨?_,NdL.app.2 ⟨h2,he⟩⟩;simp only at h1⊢;rw[List.map_append];refine List.nodup_append.2 ⟨h1,by simp,λx hx y hy e=>?_⟩;rw[M8]at hx;obtain⟨d,hd,rfl⟩:=List.mem_map.1 hx;simp only[List.map_cons,List.map_nil,List.mem_singleton]at hy;subst hy;exact My hl d hd e
theorem nd_chg {T t:Tb} {h:List Hop} {k:B8} {eb:Nat} {e x:En} (hA:atT T h=some t) (hl:Aj k t.es=some (eb,e)) (hn:NdL (shT 1 T)) (he:NdL (AL (1+dpH h) e)->NdL (AL (1+dpH h) x)):NdL (shT 1 (AA T h (BM t k x))):=by
 refine nd_set (t':=BM t k x) hA rfl hn λht=>?_;rw[BP]at ht;obtain⟨P,Q,p1,p2⟩:=Ft (1+dpH h) hl;unfold BM;rw[shT,p2];obtain⟨h1,h2⟩:=NdL.cons.1 ht;rw[p1]at h2;obtain⟨h3,h4⟩:=NdL.app.1 h2;obtain⟨h5,h6⟩:=NdL.app.1 h4;refine NdL.cons.2 ⟨?_,NdL.app.2 ⟨h3,NdL.app.2 ⟨he h5,h6⟩⟩⟩;simp only at h1⊢;rw[M8]at h1⊢;rw[Sp];exact h1
theorem Qh {d:Nat}:∀{es:List Kn} {j:Nat} {k:B8} {eb:Nat} {e:En},es[j]? =some (.mk k eb e)->∀s,s∈AL d e->s∈Cn d es
 | .mk k' eb' e'::r,0,k,eb,e,hj,s,hs=>by cases hj;rw[Cn];exact List.mem_append_left _ hs
 | .mk k' eb' e'::r,j+1,k,eb,e,hj,s,hs=>by rw[Cn];exact List.mem_append_right _ (Qh (j:=j) (by simpa using hj) s hs)
theorem U7 {d:Nat}:∀{l:List Tb} {i:Nat} {u:Tb},l[i]? =some u->∀s,s∈shT d u->s∈D5 d l
 | t::r,0,u,hi,s,hs=>by cases hi;rw[D5];exact List.mem_append_left _ hs
 | t::r,i+1,u,hi,s,hs=>by rw[D5];exact List.mem_append_right _ (U7 (i:=i) (by simpa using hi) s hs)
theorem cnt_kn {es:List Kn} {j:Nat} {k:B8} {eb:Nat} {e:En} (hj:es[j]? =some (.mk k eb e)):(AK e).cnt<=AX (Bb es):=by
 have hm:Fd.mk k (AK e)∈Bb es:=by
  rw[K7];exact List.mem_map.2 ⟨_,List.mem_of_getElem? hj,rfl⟩
 have gen:∀(f:List Fd) (d:Fd),d∈f->d.cnt<=AX f:=by
  intro f;induction f with
  | nil=>intro d hd;cases hd
  | cons a r ih=>
   intro d hd;unfold AX;rcases List.mem_cons.1 hd with rfl | hd
   ·omega
   ·have:=ih d hd;omega
 exact gen _ _ hm
theorem cnt_tb {l:List Tb} {i:Nat} {u:Tb} (hi:l[i]? =some u):(Ae u).cnt<=AH (BS l):=by
 have gen:∀(f:List Vl) (d:Vl),d∈f->d.cnt<=AH f:=by
  intro f;induction f with
  | nil=>intro d hd;cases hd
  | cons a r ih=>
   intro d hd;unfold AH;rcases List.mem_cons.1 hd with rfl | hd
   ·omega
   ·have:=ih d hd;omega
 refine gen _ _ ?_;rw[Dl];exact List.mem_map.2 ⟨u,List.mem_of_getElem? hi,rfl⟩
end Go.TVF
section
namespace Go.TVF
open Go.IntKind(i64 u8)
structure Way (T T':Tb) (h h':List Hop) (n z:Nat) (good:Prop):Prop where
 at_:∃t,atT T' h'=some t
 cnt:(Ae T').cnt<=(Ae T).cnt+n
 sz:(Ae T').sz<=(Ae T).sz+z
 dp:dpH h<=dpH h'
 lv:lvV (Ae T')<=max (lvV (Ae T)) (dpH h'+1)
 va:good->AY (Ae T)->AY (Ae T')
 nd:NdL (shT 1 T)->NdL (shT 1 T')
 bx:T'.b=T.b
theorem E6 (nu:Nu) (hd:Bool):AY (Ae (Ar nu hd)):=by
 rw[Ar,Ae,Bb];unfold AY BW Cc;refine⟨⟨⟨by decide,by decide,λ_=>rfl,λ_=>⟨rfl,rfl,rfl⟩,λ_=>⟨rfl,rfl,rfl,rfl⟩,λ_=>rfl,λ_=>rfl,λ_=>rfl,λ_=>rfl⟩,by show Gv false [] 0;decide,λh=>absurd h (by decide),by show Ct []=0;exact Cv [] (by simp[ul]),by decide,by decide,rfl⟩,trivial,trivial⟩
theorem Jy (nu:Nu) (hd:Bool):lvV (Ae (Ar nu hd))=1:=by rw[Ar,Ae,Bb];simp[lvV,De,Ds]
theorem Tn (nu:Nu) (hd:Bool):(Ae (Ar nu hd)).sz=1:=by rw[Ar,Ae,Bb];simp[Vl.sz,E5,Ev,scM]
theorem Lh (d:Nat) (nu:Nu) (hd:Bool):NdL (shT d (Ar nu hd)):=by
 rw[Ar,shT,Cn];intro s hs;rw[List.mem_singleton.1 hs];exact List.nodup_nil
theorem Zh {nu:Nu} {hd:Bool} {T T' t:Tb} {h h':List Hop} {k:B8} (hA:atT T h=some t) (hne:∀eb l,Aj k t.es=some (eb,.lst l)->l≠ []) (hh:Df nu hd T h k=some (T',h')):Way T T' h h' 1 (k.length+1) (U8 k/\k.length<=1024):=by
 unfold Df at hh;rw[hA]at hh;simp only at hh;have id:∀{h'},(∃u,atT T h'=some u)->dpH h<=dpH h'->Way T T h h' 1 (k.length+1) (U8 k/\k.length<=1024):=λh1 h2=>⟨h1,by omega,by omega,h2,by omega,λ_ h=>h,λh=>h,rfl⟩;rcases hl:Aj k t.es with _ | ⟨eb,e⟩
 ·rw[hl]at hh
  simp only[Option.some.injEq,Prod.mk.injEq]at hh;obtain⟨rfl,rfl⟩:=hh;have c:=Ck h hA (AM t k nu.eb (.opn (Ar nu false)));have c1:=c.cnt;have c2:=c.sz;have c3:=c.lv;have c4:=c.lvu;rw[E3,FG]at c1;rw[sz_add,AK,Tn]at c2;rw[Mw,AK,Jy]at c3;have hdp:dpH (h++[(k,none)])=dpH h+1:=by rw[BY];rfl
  refine⟨⟨_,IE hA hl⟩,by omega,by omega,by omega,by omega,λg hv=>?_,λhn=>nd_add hA hl hn (by rw[AL];exact Lh _ _ _),Dg h hA rfl⟩;exact c.va hv (Sd (c.vu hv) hl g.1 g.2 (by rw[AK];exact E6 _ _))
 ·rw[hl]at hh
  cases e with
  | opn u=>
   simp only[Option.some.injEq,Prod.mk.injEq]at hh;obtain⟨rfl,rfl⟩:=hh;exact id ⟨u,GJ hA hl⟩ (by rw[BY];omega)
  | lst l=>
   simp only at hh;cases hd with
   | false=>simp at hh
   | true=>
    simp only[if_true,Option.some.injEq,Prod.mk.injEq]at hh;obtain⟨rfl,rfl⟩:=hh;have h0:0<l.length:=List.length_pos_iff.2 (hne eb l hl);exact id ⟨_,GK hA hl (List.getElem?_eq_getElem (by omega))⟩ (by rw[BY];omega)
  | clo v i=>simp at hh
end Go.TVF
end
section
namespace Go.TVF
open Go.IntKind(i64 u8)
def NeL (L:List Sh):Prop:=∀s,s∈L->∀x,x∈s.es->∀bs,x.2.2= .lst bs->bs≠ []
theorem NeL.app {A B:List Sh}:NeL (A++B)↔NeL A/\NeL B:=
 ⟨λh=>⟨λs hs=>h s (List.mem_append_left _ hs),λs hs=>h s (List.mem_append_right _ hs)⟩,λh s hs=>(List.mem_append.1 hs).elim (h.1 s) (h.2 s)⟩
theorem NeL.cons {s:Sh} {B:List Sh}:NeL (s::B)↔(∀x,x∈s.es->∀bs,x.2.2= .lst bs->bs≠ [])/\NeL B:=
 ⟨λh=>⟨h s (.head _),λx hx=>h x (.tail _ hx)⟩,λh x hx=>(List.mem_cons.1 hx).elim (λe=>e▸h.1) (h.2 x)⟩
theorem ne_set {T t t':Tb} {h:List Hop} (hA:atT T h=some t) (hb:t'.b=t.b) (hn:NeL (shT 1 T)) (ht:NeL (shT (1+dpH h) t)->NeL (shT (1+dpH h) t')):NeL (shT 1 (AA T h t')):=by
 obtain⟨A,B,e1,e2⟩:=Hm h hA 1;rw[e1]at hn;rw[e2 t' hb];obtain⟨h1,h2⟩:=NeL.app.1 hn;obtain⟨h3,h4⟩:=NeL.app.1 h2;exact NeL.app.2 ⟨h1,NeL.app.2 ⟨ht h3,h4⟩⟩
theorem ne_add {T t:Tb} {h:List Hop} {k:B8} {eb:Nat} {e:En} (hA:atT T h=some t) (hn:NeL (shT 1 T)) (h0:∀bs,shE e= .lst bs->bs≠ []) (he:NeL (AL (1+dpH h) e)):NeL (shT 1 (AA T h (AM t k eb e))):=by
 refine ne_set (t':=AM t k eb e) hA rfl hn λht=>?_;rw[BP]at ht;rw[Mm];obtain⟨h1,h2⟩:=NeL.cons.1 ht;refine NeL.cons.2 ⟨λx hx=>?_,NeL.app.2 ⟨h2,he⟩⟩;rcases List.mem_append.1 hx with h3 | h3
 ·exact h1 x h3
 ·rw[List.mem_singleton.1 h3];exact h0
theorem Sx {T t:Tb} {h:List Hop} {k:B8} {eb:Nat} {l:List Tb} (hA:atT T h=some t) (hn:NeL (shT 1 T)) (hl:Aj k t.es=some (eb,.lst l)):l≠ []:=by
 obtain⟨A,B,e1,_⟩:=Hm h hA 1;rw[e1]at hn;have h3:=(NeL.app.1 (NeL.app.1 hn).2).1;rw[BP]at h3;have:=(NeL.cons.1 h3).1 (k,eb,shE (.lst l)) (List.mem_map.2 ⟨.mk k eb (.lst l),Li hl,rfl⟩) (l.map Tb.b) rfl;intro e;rw[e]at this;exact this rfl
theorem ne_chg {T t:Tb} {h:List Hop} {k:B8} {eb:Nat} {e x:En} (hA:atT T h=some t) (hl:Aj k t.es=some (eb,e)) (hn:NeL (shT 1 T)) (h0:∀bs,shE x= .lst bs->bs≠ []) (he:NeL (AL (1+dpH h) e)->NeL (AL (1+dpH h) x)):NeL (shT 1 (AA T h (BM t k x))):=by
 refine ne_set (t':=BM t k x) hA rfl hn λht=>?_;rw[BP]at ht;obtain⟨P,Q,p1,p2⟩:=Ft (1+dpH h) hl;unfold BM;rw[shT,p2];obtain⟨h1,h2⟩:=NeL.cons.1 ht;rw[p1]at h2;obtain⟨h3,h4⟩:=NeL.app.1 h2;obtain⟨h5,h6⟩:=NeL.app.1 h4;refine NeL.cons.2 ⟨λy hy bs hb=>?_,NeL.app.2 ⟨h3,NeL.app.2 ⟨he h5,h6⟩⟩⟩;have mem:∀es:List Kn,y∈(BZ k x es).map shK->y∈es.map shK∨y.2.2=shE x:=by
  intro es;induction es with
  | nil=>intro hy;cases hy
  | cons d r ih=>
   obtain⟨k',eb',e'⟩:=d;intro hy;unfold BZ at hy;split at hy
   ·rcases List.mem_cons.1 hy with rfl | hy
    ·exact .inr rfl
    ·exact .inl (.tail _ hy)
   ·rcases List.mem_cons.1 hy with rfl | hy
    ·exact .inl (.head _)
    ·exact(ih hy).imp (.tail _) id
 rcases mem t.es hy with h7 | h7
 ·exact h1 y h7 bs hb
 ·exact h0 bs (h7▸hb)
theorem Lg (d:Nat) (nu:Nu) (hd:Bool):NeL (shT d (Ar nu hd)):=by
 rw[Ar,shT,Cn];intro s hs;rw[List.mem_singleton.1 hs];intro x hx;cases hx
theorem TU {nu:Nu} {hd:Bool} {T T' t:Tb} {h h':List Hop} {k:B8} (hA:atT T h=some t) (hh:Df nu hd T h k=some (T',h')) (hn:NeL (shT 1 T)):NeL (shT 1 T'):=by
 unfold Df at hh;rw[hA]at hh;simp only at hh;rcases hl:Aj k t.es with _ | ⟨eb,e⟩
 ·rw[hl]at hh
  simp only[Option.some.injEq,Prod.mk.injEq]at hh;obtain⟨rfl,rfl⟩:=hh;exact ne_add hA hn (λbs h=>by cases h) (by rw[AL];exact Lg _ _ _)
 ·rw[hl]at hh
  cases e with
  | opn u=>
   simp only[Option.some.injEq,Prod.mk.injEq]at hh;rw[<-hh.1];exact hn
  | lst l=>
   simp only at hh;cases hd with
   | false=>simp at hh
   | true=>
    simp only[if_true,Option.some.injEq,Prod.mk.injEq]at hh;rw[<-hh.1];exact hn
  | clo v i=>simp at hh
def kz (ks:List B8):Nat:=(ks.map λk=>k.length+1).sum
theorem KL {nu:Nat->Nu} {hd:Bool}:∀(ks:List B8) (j:Nat) {T T' t:Tb} {h h':List Hop},atT T h=some t->NeL (shT 1 T)->BE nu hd j T h ks=some (T',h')->lvV (Ae T)<=lvV (Ae T)->
  Way T T' h h' ks.length (kz ks) (∀k,k∈ks->U8 k/\k.length<=1024)/\NeL (shT 1 T')
 | [],j,T,T',t,h,h',hA,hn,hh,_=>by
  unfold BE at hh;cases hh;exact⟨⟨⟨t,hA⟩,by omega,by omega,Nat.le_refl _,by omega,λ_ h=>h,λh=>h,rfl⟩,hn⟩
 | k::ks,j,T,T',t,h,h',hA,hn,hh,_=>by
  unfold BE at hh;cases h1:Df (nu j) hd T h k with
  | none=>rw[h1]at hh;cases hh
  | some p=>
   obtain⟨T1,h1'⟩:=p;rw[h1]at hh;have w1:=Zh hA (λeb l=>Sx hA hn) h1;obtain⟨t1,hA1⟩:=w1.at_;obtain⟨w2,n2⟩:=KL ks (j+1) hA1 (TU hA h1 hn) hh (Nat.le_refl _);have a1:=w1.cnt;have a2:=w2.cnt;have a3:=w1.sz;have a4:=w2.sz;have a5:=w1.dp;have a6:=w2.dp;have a7:=w1.lv;have a8:=w2.lv;refine⟨⟨w2.at_,by rw[List.length_cons];omega,by unfold kz at a4⊢;simp only[List.map_cons,List.sum_cons];omega,by omega,by omega,λg hv=>?_,λh=>w2.nd (w1.nd h),w2.bx.trans w1.bx⟩,n2⟩;exact w2.va (λk' hk'=>g k' (.tail _ hk')) (w1.va (g k (.head _)) hv)
end Go.TVF
end
section
namespace Go.TVF
open Go.IntKind(i64 u8)
mutual
theorem Ue:∀v:Vl,OA v=lvV v
 | .mk s l f=>by unfold OA lvV;rw[Zx l,Zy f]
theorem Zx:∀l:List Vl,EH l=De l
 | []=>by unfold EH De;rfl
 | v::r=>by unfold EH De;rw[Ue v,Zx r]
theorem depd_lv:∀d:Fd,depD d=lvD d
 | .mk k v=>by unfold depD lvD;exact Ue v
theorem Zy:∀l:List Fd,L4 l=Ds l
 | []=>by unfold L4 Ds;rfl
 | d::r=>by unfold L4 Ds;rw[depd_lv d,Zy r]
end
theorem EA {v:Vl}:BV v=0↔AY v/\lvV v<=48/\v.cnt<=65536:=
 ⟨λh=>⟨OZ h,Ul v 1 0 h,G8 h⟩,λh=>check_of h.1 h.2.1 h.2.2⟩
theorem Ie {t:Tb} {k:B8} {eb:Nat} {e x:En} (hl:Aj k t.es=some (eb,e)):Chg (Ae t) (Ae (BM t k x)) (AK e) (AK x) 1:=by
 obtain⟨F,G,h1,h2⟩:=E7 hl;unfold BM;rw[Gz t,Ae,h1,h2];exact Chg.fld F G k _ _
structure FinW (T T':Tb) (n z d:Nat) (good:Prop):Prop where
 cnt:(Ae T').cnt<=(Ae T).cnt+n
 sz:(Ae T').sz<=(Ae T).sz+z
 lv:lvV (Ae T')<=max (lvV (Ae T)) d
 va:good->AY (Ae T)->AY (Ae T')
 nd:NdL (shT 1 T)->NdL (shT 1 T')
 ne:NeL (shT 1 T)->NeL (shT 1 T')
theorem T8 {T t:Tb} {h:List Hop} {k:B8} {eb:Nat} {e:En} (hA:atT T h=some t) (hl:Aj k t.es=none) (hn:NdL (AL (1+dpH h) e)) (hne:∀bs,shE e= .lst bs->bs≠ []) (hne2:NeL (AL (1+dpH h) e)):
  FinW T (AA T h (AM t k eb e)) (AK e).cnt (k.length+(AK e).sz) (dpH h+1+lvV (AK e)) (U8 k/\k.length<=1024/\AY (AK e)):=by
 have c:=Ck h hA (AM t k eb e);have c1:=c.cnt;have c2:=c.sz;have c3:=c.lv;have c4:=c.lvu;rw[E3]at c1;rw[sz_add]at c2;rw[Mw]at c3;exact⟨by omega,by omega,by omega,λg hv=>c.va hv (Sd (c.vu hv) hl g.1 g.2.1 g.2.2),λh=>nd_add hA hl h hn,λh=>ne_add hA h hne hne2⟩
theorem Zo {T t:Tb} {h:List Hop} {k:B8} {eb:Nat} {e x:En} (hA:atT T h=some t) (hl:Aj k t.es=some (eb,e)) {n:Nat} (hc:(AK x).cnt=(AK e).cnt+n) (hz:(AK x).sz=(AK e).sz+n) (hlv:lvV (AK x)<=max (lvV (AK e)) 2) (hv:AY (AK e)->AY (AK x))
  (hn:NdL (AL (1+dpH h) e)->NdL (AL (1+dpH h) x)) (hne:∀bs,shE x= .lst bs->bs≠ []) (hne2:NeL (AL (1+dpH h) e)->NeL (AL (1+dpH h) x)):
  FinW T (AA T h (BM t k x)) n n (dpH h+3) True:=by
 have c:=(Ck h hA (BM t k x)).trans (Ie (x:=x) hl);have c1:=c.cnt;have c2:=c.sz;have c3:=c.lv;have c4:=c.lvu;exact⟨by omega,by omega,by omega,λ_ h=>c.va h (hv (c.vu h)),λh=>nd_chg hA hl h hn,λh=>ne_chg hA hl h hne hne2⟩
theorem Gi (u:Tb):Ae (BF u)=Ae u:=by cases u;unfold BF;rw[Ae,Ae]
theorem Pz (l:List Tb) (u:Tb):AK (.lst (l++[u]))= .mk scL (BS l++[Ae u]) []:=by
 rw[AK,Dl,Dl,List.map_append];rfl
theorem K5 {l:List Vl} (h:BW l):AY (.mk scL l []):=by
 unfold AY Cc;exact⟨⟨⟨by decide,by decide,λ_=>rfl,λ_=>⟨rfl,rfl,rfl⟩,λ_=>⟨rfl,rfl,rfl,rfl⟩,λ_=>rfl,λ_=>rfl,λh=>absurd rfl h,λ_=>rfl⟩,by show Gv false [] 0;decide,λh=>absurd h (by decide),by show Ct []=0;exact Cv [] (by simp[ul]),by decide,by decide,rfl⟩,h,trivial⟩
theorem PV {l:List Vl}:BW l↔∀x,x∈l->AY x:=by
 induction l with
 | nil=>unfold BW;simp
 | cons x r ih=>unfold BW;rw[ih];simp
theorem U5 (d:Nat) (u:Tb):shT d (BF u)=⟨u.b,u.m,true,d,u.es.map shK⟩::Cn d u.es:=by cases u;rfl
theorem KK {nu:Nu} {a:Asg} {i:Nat} {T T':Tb} {h cur cur':List Hop} {k:B8} (hn:NeL (shT 1 T)) (hh:B2 nu a i T h cur k= .ok (T',cur')):
  FinW T T' (2+a.val.cnt) (k.length+2+a.val.sz) (dpH h+3+(if a.elem=true∨a.tab=true then 0 else lvV a.val-2)) (U8 k/\k.length<=1024/\(a.elem=false->a.tab=false->AY a.val))/\
   (a.elem=false->a.tab=false->(AY (Ae T')->AY a.val)/\(Ae T').cnt=(Ae T).cnt+a.val.cnt/\dpH h+1+lvV a.val<=lvV (Ae T')/\lvV (Ae T')<=max (lvV (Ae T)) (dpH h+1+lvV a.val)):=by
 unfold B2 at hh;have mono:∀{n z d n' z' d':Nat} {g g':Prop},FinW T T' n z d g->n<=n'->z<=z'->d<=d'->(g'->g)->FinW T T' n' z' d' g':=λf h1 h2 h3 h4=>
  ⟨Nat.le_trans f.cnt (by omega),Nat.le_trans f.sz (by omega),by have:=f.lv;omega,λg=>f.va (h4 g),f.nd,f.ne⟩
 cases hA:atT T h with
 | none=>rw[hA]at hh;cases hh
 | some t=>
 rw[hA]at hh;simp only at hh;cases he:a.elem with
 | true=>
  rw[if_pos (by rw[he])]at hh;refine⟨?_,λh=>by cases h⟩;rcases hl:Aj k t.es with _ | ⟨eb,u | l | ⟨v,j⟩⟩<;>rw[hl]at hh<;>simp only[Except.ok.injEq,Prod.mk.injEq,reduceCtorEq]at hh
  ·obtain⟨rfl,rfl⟩:=hh
   have e1:AK (.lst [Ar nu false])= .mk scL [Ae (Ar nu false)] []:=by rw[AK,BS,BS]
   have e2:(AK (.lst [Ar nu false])).cnt=2:=by rw[e1,Ar,Ae,Bb];simp[Vl.cnt,AH,AX]
   have e3:(AK (.lst [Ar nu false])).sz=2:=by rw[e1,Ar,Ae,Bb];simp[Vl.sz,E5,Ev,scL,scM]
   have e4:lvV (AK (.lst [Ar nu false]))=2:=by rw[e1,Ar,Ae,Bb];simp[lvV,De,Ds]
   have f:=T8 (eb:=nu.eb) (e:= .lst [Ar nu false]) hA hl (by rw[AL,D5,D5,List.append_nil];exact Lh _ _ _) (λbs h=>by cases h;simp) (by rw[AL,D5,D5,List.append_nil];exact Lg _ _ _);rw[e2,e3,e4]at f;refine mono f (by omega) (by omega) (by simp) λg=>⟨g.1,g.2.1,?_⟩;rw[e1];refine K5 (PV.2 λx hx=>?_);rw[List.mem_singleton.1 hx];exact E6 _ _
  ·obtain⟨rfl,rfl⟩:=hh
   have e1:=Pz l (Ar nu false);have e0:AK (.lst l)= .mk scL (BS l) []:=by rw[AK]
   have f:=Zo (x:= .lst (l++[Ar nu false])) (n:=1) hA hl ?_ ?_ ?_ ?_ ?_ ?_ ?_
   ·exact mono f (by omega) (by omega) (by simp) λ_=>trivial
   ·rw[e1,e0];simp only[Vl.cnt,Fc,AH,Ar,Ae,Bb,AX];omega
   ·rw[e1,e0];simp only[Vl.sz,UK,E5,Ar,Ae,Bb,Ev,scL,scM,List.length_nil];omega
   ·rw[e1,e0];simp only[lvV,Nm,De,Ar,Ae,Bb,Ds];omega
   ·rw[e1,e0]
    intro hv;unfold AY at hv;exact K5 ((Ji _ _).2 ⟨hv.2.1,PV.2 λx hx=>by rw[List.mem_singleton.1 hx];exact E6 _ _⟩)
   ·intro h1
    rw[AL]at h1⊢;rw[Ky,D5,D5,List.append_nil];exact NdL.app.2 ⟨h1,Lh _ _ _⟩
   ·intro bs h1;cases h1;simp
   ·intro h1
    rw[AL]at h1⊢;rw[Ky,D5,D5,List.append_nil];exact NeL.app.2 ⟨h1,Lg _ _ _⟩
 | false=>
  rw[if_neg (by rw[he];simp)]at hh;cases ht:a.tab with
  | true=>
   rw[if_pos (by rw[ht])]at hh;refine⟨?_,λ_ h=>by cases h⟩;rcases hl:Aj k t.es with _ | ⟨eb,u | l | ⟨v,j⟩⟩<;>rw[hl]at hh<;>simp only[Except.ok.injEq,Prod.mk.injEq,reduceCtorEq]at hh
   ·obtain⟨rfl,rfl⟩:=hh
    have f:=T8 (eb:=nu.eb) (e:= .opn (Ar nu true)) hA hl (by rw[AL];exact Lh _ _ _) (λbs h=>by cases h) (by rw[AL];exact Lg _ _ _);rw[FG,AK,Tn,Jy]at f;exact mono f (by omega) (by omega) (by omega) λg=>⟨g.1,g.2.1,E6 _ _⟩
   ·split at hh
    ·cases hh
    ·simp only[Except.ok.injEq,Prod.mk.injEq]at hh
     obtain⟨rfl,rfl⟩:=hh;have f:=Zo (x:= .opn (BF u)) (n:=0) hA hl ?_ ?_ ?_ ?_ ?_ ?_ ?_
     ·exact mono f (by omega) (by omega) (by simp) λ_=>trivial
     ·rw[AK,AK,Gi];rfl
     ·rw[AK,AK,Gi];rfl
     ·rw[AK,AK,Gi];omega
     ·rw[AK,AK,Gi];exact id
     ·rw[AL,AL]
      intro h1 s hs;rw[U5]at hs;rw[BP]at h1;rcases List.mem_cons.1 hs with rfl | hs
      ·exact h1 ⟨u.b,u.m,u.hd,1+dpH h+1,u.es.map shK⟩ (.head _)
      ·exact h1 s (.tail _ hs)
     ·intro bs h;cases h
     ·rw[AL,AL]
      intro h1 s hs;rw[U5]at hs;rw[BP]at h1;rcases List.mem_cons.1 hs with rfl | hs
      ·exact h1 ⟨u.b,u.m,u.hd,1+dpH h+1,u.es.map shK⟩ (.head _)
      ·exact h1 s (.tail _ hs)
  | false=>
   rw[if_neg (by rw[ht];simp)]at hh;rcases hl:Aj k t.es with _ | ⟨eb,e⟩<;>rw[hl]at hh<;>simp only[Except.ok.injEq,Prod.mk.injEq,reduceCtorEq]at hh
   obtain⟨rfl,rfl⟩:=hh;have f:=T8 (eb:=nu.eb) (e:= .clo a.val i) hA hl (by rw[AL];intro s hs;cases hs) (λbs h=>by cases h) (by rw[AL];intro s hs;cases hs);have e1:AK (.clo a.val i)=a.val:=by rw[AK]
   rw[e1]at f;refine⟨mono f (by omega) (by omega) (by simp;omega) λg=>⟨g.1,g.2.1,g.2.2 rfl rfl⟩,λ_ _=>⟨λhv=>?_,?_,?_,f.lv⟩⟩
   ·have:=(Ck h hA (AM t k nu.eb (.clo a.val i)))
    have hv2:AY (Ae (AM t k nu.eb (.clo a.val i))):=by
     have c:=Ck h (CT h (x:=AM t k nu.eb (.clo a.val i)) hA) (AM t k nu.eb (.clo a.val i));exact c.vu hv
    rw[M1]at hv2;unfold AY at hv2;have:=((Hg _ _).1 hv2.2.2).2;unfold Cc HF at this;rw[<-e1];exact this.1
   ·have c:=(Ck h hA (AM t k nu.eb (.clo a.val i))).cnt
    rw[E3,e1]at c;omega
   ·have c:=(Ck h (CT h (x:=AM t k nu.eb (.clo a.val i)) hA) (AM t k nu.eb (.clo a.val i))).lvu
    rw[Mw,e1]at c;omega
theorem Rf {T u t x:Tb} {g r:List Hop} (hg:atT T g=some u) (hA:atT T (g++r)=some t) (hx:x.b=t.b):∃u',atT (AA T (g++r) x) g=some u'/\u'.b=u.b:=by
 refine⟨AA u r x,?_,Dg r (T:=u) (t:=t) (by rw[Ls,hg]at hA;exact hA) hx⟩;rw[Pw g r hg,CT g hg]
theorem hop_pre {nu:Nu} {hd:Bool} {T T' u t:Tb} {g r h':List Hop} {k:B8} (hg:atT T g=some u) (hA:atT T (g++r)=some t) (hne:NeL (shT 1 T)) (hh:Df nu hd T (g++r) k=some (T',h')):
  ∃r' u' t',h'=g++r'/\atT T' g=some u'/\u'.b=u.b/\atT T' h'=some t':=by
 have w:=Zh hA (λeb l=>Sx hA hne) hh;obtain⟨t',ht'⟩:=w.at_;unfold Df at hh;rw[hA]at hh;simp only at hh;rcases hl:Aj k t.es with _ | ⟨eb,e⟩
 ·rw[hl]at hh
  simp only[Option.some.injEq,Prod.mk.injEq]at hh;obtain⟨rfl,rfl⟩:=hh;obtain⟨u',h1,h2⟩:=Rf (x:=AM t k nu.eb (.opn (Ar nu false))) hg hA rfl;exact⟨r++[(k,none)],u',t',by rw[List.append_assoc],h1,h2,ht'⟩
 ·rw[hl]at hh
  cases e with
  | opn w=>
   simp only[Option.some.injEq,Prod.mk.injEq]at hh;obtain⟨rfl,rfl⟩:=hh;exact⟨r++[(k,none)],u,t',by rw[List.append_assoc],hg,rfl,ht'⟩
  | lst l=>
   simp only at hh;cases hd with
   | false=>simp at hh
   | true=>
    simp only[if_true,Option.some.injEq,Prod.mk.injEq]at hh;obtain⟨rfl,rfl⟩:=hh;exact⟨r++[(k,some (l.length-1))],u,t',by rw[List.append_assoc],hg,rfl,ht'⟩
  | clo v i=>simp at hh
theorem QS {nu:Nat->Nu} {hd:Bool}:∀(ks:List B8) (j:Nat) {T T' u t:Tb} {g r h':List Hop},atT T g=some u->atT T (g++r)=some t->NeL (shT 1 T)->BE nu hd j T (g++r) ks=some (T',h')->
  ∃r' u',h'=g++r'/\atT T' g=some u'/\u'.b=u.b
 | [],j,T,T',u,t,g,r,h',hg,hA,hn,hh=>by
  unfold BE at hh;cases hh;exact⟨r,u,rfl,hg,rfl⟩
 | k::ks,j,T,T',u,t,g,r,h',hg,hA,hn,hh=>by
  unfold BE at hh;cases h1:Df (nu j) hd T (g++r) k with
  | none=>rw[h1]at hh;cases hh
  | some p=>
   obtain⟨T1,h1'⟩:=p;rw[h1]at hh;obtain⟨r1,u1,t1,e1,e2,e3,e4⟩:=hop_pre hg hA hn h1;subst e1;obtain⟨r2,u2,e5,e6,e7⟩:=QS ks (j+1) e2 e4 (TU hA h1 hn) hh;exact⟨r2,u2,e5,e6,e7.trans e3⟩
end Go.TVF
end
section
namespace Go.TVF
open Go.IntKind(i64 u8)
mutual
def erT:Tb->Tb
 | .mk _ _ hd es=> .mk 0 0 hd (Fn es)
def Fn:List Kn->List Kn
 | []=>[]
 | .mk k _ e::r=> .mk k 0 (erE e)::Fn r
def erE:En->En
 | .opn t=> .opn (erT t)
 | .lst l=> .lst (Ov l)
 | .clo v i=> .clo v i
def Ov:List Tb->List Tb
 | []=>[]
 | t::r=>erT t::Ov r
end
theorem ET:∀l:List Tb,Ov l=l.map erT
 | []=>by unfold Ov;rfl
 | t::r=>by unfold Ov;rw[ET r];rfl
theorem V8:∀a b:List Kn,Fn (a++b)=Fn a++Fn b
 | [],b=>by simp[Fn]
 | .mk k eb e::r,b=>by rw[List.cons_append,Fn,Fn,V8 r b];rfl
theorem L0 (t:Tb):(erT t).es=Fn t.es:=by cases t;rw[erT];rfl
theorem Zr (t:Tb):(erT t).hd=t.hd:=by cases t;rw[erT];rfl
mutual
theorem Hh:∀t:Tb,Ae (erT t)=Ae t
 | .mk b m hd es=>by rw[erT,Ae,Ae,UQ es]
theorem UQ:∀es:List Kn,Bb (Fn es)=Bb es
 | []=>by rw[Fn]
 | .mk k eb e::r=>by rw[Fn,Bb,Bb,valE_er e,UQ r]
theorem valE_er:∀e:En,AK (erE e)=AK e
 | .opn t=>by rw[erE,AK,AK,Hh t]
 | .lst l=>by rw[erE,AK,AK,UO l]
 | .clo v i=>by rw[erE]
theorem UO:∀l:List Tb,BS (Ov l)=BS l
 | []=>by rw[Ov]
 | t::r=>by rw[Ov,BS,BS,Hh t,UO r]
end
theorem Eu (k:B8):∀es:List Kn,Aj k (Fn es)=(Aj k es).map λp=>(0,erE p.2)
 | []=>by rw[Fn];rfl
 | .mk k' eb e::r=>by
  rw[Fn,Aj,Aj];split
  ·rfl
  ·exact Eu k r
theorem Tv (k:B8) (x:En):∀es:List Kn,BZ k (erE x) (Fn es)=Fn (BZ k x es)
 | []=>by rw[Fn];rfl
 | .mk k' eb e::r=>by
  rw[Fn,BZ,BZ];split
  ·rw[Fn]
  ·rw[Fn,Tv k x r]
theorem K2:∀(h:List Hop) (T:Tb),atT (erT T) h=(atT T h).map erT
 | [],T=>by cases T;rw[erT];simp only[atT,Option.map_some];rw[erT]
 | (k,none)::h,.mk b m hd es=>by
  rw[erT,atT,atT,Eu];rcases Aj k es with _ | ⟨eb,u | l | ⟨v,i⟩⟩
  ·rfl
  ·simp only[Option.map_some,erE];exact K2 h u
  ·simp only[Option.map_some,erE];rfl
  ·simp only[Option.map_some,erE];rfl
 | (k,some i)::h,.mk b m hd es=>by
  rw[erT,atT,atT,Eu];rcases Aj k es with _ | ⟨eb,u | l | ⟨v,j⟩⟩
  ·rfl
  ·simp only[Option.map_some,erE];rfl
  ·simp only[Option.map_some,erE,ET,List.getElem?_map]
   cases l[i]? with
   | none=>rfl
   | some u=>exact K2 h u
  ·simp only[Option.map_some,erE];rfl
theorem HU:∀(h:List Hop) (T x:Tb),AA (erT T) h (erT x)=erT (AA T h x)
 | [],T,x=>by cases T;cases x;rw[erT,erT];simp only[AA];rw[erT]
 | (k,none)::h,.mk b m hd es,x=>by
  rw[erT,AA,AA,Eu];rcases Aj k es with _ | ⟨eb,u | l | ⟨v,i⟩⟩
  ·simp only[Option.map_none];rw[erT]
  ·simp only[Option.map_some,erE]
   rw[erT,HU h u x];have:=Tv k (.opn (AA u h x)) es;rw[erE]at this;rw[this]
  ·simp only[Option.map_some,erE];rw[erT]
  ·simp only[Option.map_some,erE];rw[erT]
 | (k,some i)::h,.mk b m hd es,x=>by
  rw[erT,AA,AA,Eu];rcases Aj k es with _ | ⟨eb,u | l | ⟨v,j⟩⟩
  ·simp only[Option.map_none];rw[erT]
  ·simp only[Option.map_some,erE];rw[erT]
  ·simp only[Option.map_some,erE,ET,List.getElem?_map]
   cases l[i]? with
   | none=>simp only[Option.map_none];rw[erT]
   | some u=>
    simp only[Option.map_some];rw[erT,HU h u x];have:=Tv k (.lst (l.set i (AA u h x))) es;rw[erE,ET,List.map_set]at this;rw[this]
  ·simp only[Option.map_some,erE];rw[erT]
theorem Uy (t:Tb) (k:B8) (eb:Nat) (e:En):AM (erT t) k 0 (erE e)=erT (AM t k eb e):=by
 unfold AM;rw[Zr,L0];cases t;rw[erT,erT,V8,Fn,Fn];rfl
theorem chg_er (t:Tb) (k:B8) (e:En):BM (erT t) k (erE e)=erT (BM t k e):=by
 unfold BM;rw[Zr,L0,Tv];cases t;rw[erT,erT];rfl
theorem Lf (nu:Nu) (hd:Bool):erT (Ar nu hd)=Ar ⟨0,0,0⟩ hd:=by unfold Ar;rw[erT,Fn]
theorem head_er (u:Tb):erT (BF u)=BF (erT u):=by cases u;unfold BF;rw[erT,erT]
def n0:Nu:=⟨0,0,0⟩
theorem TW (nu:Nu) (hd:Bool) (T:Tb) (h:List Hop) (k:B8):Df n0 hd (erT T) h k=(Df nu hd T h k).map λp=>(erT p.1,p.2):=by
 unfold Df;rw[K2];cases atT T h with
 | none=>rfl
 | some t=>
  simp only[Option.map_some];rw[L0,Eu];rcases Aj k t.es with _ | ⟨eb,u | l | ⟨v,i⟩⟩
  ·simp only[Option.map_none,Option.map_some]
   have:=Uy t k nu.eb (.opn (Ar nu false));rw[erE,Lf]at this;rw[<-HU,<-this];rfl
  ·simp only[Option.map_some,erE]
  ·simp only[Option.map_some,erE,ET,List.length_map]
   split<;>rfl
  ·simp only[Option.map_some,erE];rfl
theorem Zg (nu:Nat->Nu) (hd:Bool):∀(ks:List B8) (j:Nat) (T:Tb) (h:List Hop),BE (λ_=>n0) hd j (erT T) h ks=(BE nu hd j T h ks).map λp=>(erT p.1,p.2)
 | [],j,T,h=>rfl
 | k::ks,j,T,h=>by
  unfold BE;rw[TW (nu j)];cases Df (nu j) hd T h k with
  | none=>rfl
  | some p=>exact Zg nu hd ks (j+1) p.1 p.2
def erX:Except Int (Tb×List Hop)->Except Int (Tb×List Hop)
 | .ok p=> .ok (erT p.1,p.2)
 | .error e=> .error e
theorem Y9 (nu:Nu) (a:Asg) (i:Nat) (T:Tb) (h cur:List Hop) (k:B8):B2 n0 a i (erT T) h cur k=erX (B2 nu a i T h cur k):=by
 unfold B2;rw[K2];cases atT T h with
 | none=>rfl
 | some t=>
  simp only[Option.map_some];rw[L0,Eu];by_cases he:a.elem=true
  ·rw[if_pos he,if_pos he]
   rcases Aj k t.es with _ | ⟨eb,u | l | ⟨v,j⟩⟩
   ·simp only[Option.map_none,erX]
    have:=Uy t k nu.eb (.lst [Ar nu false]);rw[erE,Ov,Ov,Lf]at this;rw[<-HU,<-this];rfl
   ·simp only[Option.map_some,erE,erX]
   ·simp only[Option.map_some,erE,erX,ET,List.length_map]
    have:=chg_er t k (.lst (l++[Ar nu false]));rw[erE,ET,List.map_append,List.map_cons,List.map_nil,Lf]at this;rw[<-HU,<-this];rfl
   ·simp only[Option.map_some,erE,erX]
  ·rw[if_neg he,if_neg he]
   by_cases ht:a.tab=true
   ·rw[if_pos ht,if_pos ht]
    rcases Aj k t.es with _ | ⟨eb,u | l | ⟨v,j⟩⟩
    ·simp only[Option.map_none,erX]
     have:=Uy t k nu.eb (.opn (Ar nu true));rw[erE,Lf]at this;rw[<-HU,<-this];rfl
    ·simp only[Option.map_some,erE,Zr]
     split
     ·rfl
     ·simp only[erX]
      have:=chg_er t k (.opn (BF u));rw[erE,head_er]at this;rw[<-HU,<-this]
    ·simp only[Option.map_some,erE,erX]
    ·simp only[Option.map_some,erE,erX]
   ·rw[if_neg ht,if_neg ht]
    rcases Aj k t.es with _ | ⟨eb,e⟩
    ·simp only[Option.map_none,erX]
     have:=Uy t k nu.eb (.clo a.val i);rw[erE]at this;rw[<-HU,<-this];rfl
    ·simp only[Option.map_some,erX]
def EE (i:Nat) (T:Tb) (cur:List Hop) (a:Asg):Except Int (Tb×List Hop):=Fg (λ_=>n0) i T cur a
theorem step_er (nu:Nat->Nu) (i:Nat) (T:Tb) (cur:List Hop) (a:Asg):EE i (erT T) cur a=erX (Fg nu i T cur a):=by
 unfold EE Fg;split
 ·rfl
 ·rw[Zg nu]
  cases BE nu a.tab 0 T (if a.tab=true then []else cur) a.keys.dropLast with
  | none=>rfl
  | some p=>exact Y9 _ _ _ _ _ _ _
noncomputable def G2:Nat->Tb->List Hop->List Asg->Except (Nat×Nat) (Tb×List Hop)
 | _,T,cur,[]=> .ok (T,cur)
 | i,T,cur,a::r=>match EE i T cur a with
  | .error e=> .error (i,e.toNat)
  | .ok (T',cur')=>if BV (Ae T')=0 then G2 (i+1) T' cur' r else .error (i,BV (Ae T'))
def T00:Tb:= .mk 0 0 false []
noncomputable def Xl (l:List Asg):Except (Nat×Nat) (Tb×List Hop):=G2 0 T00 [] l
theorem UY {nu:Nat->Nu} {i:Nat} {T:Tb} {cur:List Hop} {a:Asg} {e:Int} (h:Fg nu i T cur a= .error e) (hA:∃u,atT T cur=some u) (hn:NeL (shT 1 T)):e=1∨e=8∨e=6:=by
 unfold Fg at h;split at h
 ·cases h;exact .inl rfl
 ·split at h
  ·cases h;exact .inr (.inl rfl)
  ·rename_i T' h' hh
   have hu:∃u,atT T (if a.tab=true then []else cur)=some u:=by
    split
    ·exact⟨T,by cases T;rfl⟩
    ·exact hA
   obtain⟨u,hu⟩:=hu;obtain⟨t,ht⟩:=(KL _ 0 hu hn hh (Nat.le_refl _)).1.at_;unfold B2 at h;rw[ht]at h;simp only at h;split at h
   ·rcases hl:Aj (a.keys.getLastD []) t.es with _ | ⟨eb,u | l | ⟨v,j⟩⟩<;>rw[hl]at h<;>simp only[Except.error.injEq,reduceCtorEq]at h
    all_goals exact .inr (.inr h.symm)
   ·split at h
    ·rcases hl:Aj (a.keys.getLastD []) t.es with _ | ⟨eb,u | l | ⟨v,j⟩⟩<;>rw[hl]at h<;>simp only[Except.error.injEq,reduceCtorEq]at h
     ·split at h
      ·cases h;exact .inr (.inl rfl)
      ·cases h
     all_goals exact .inr (.inl h.symm)
    ·rcases hl:Aj (a.keys.getLastD []) t.es with _ | ⟨eb,e⟩<;>rw[hl]at h<;>simp only[Except.error.injEq,reduceCtorEq]at h
     exact .inr (.inl h.symm)
end Go.TVF
end
section
namespace Go.TVF
open Go.IntKind(i64 u8)
theorem Pv:∀h:List Hop,(stp h).length=dpH h
 | []=>rfl
 | (k,none)::h=>by rw[stp,dpH,List.length_cons,Pv h]
 | (k,some i)::h=>by rw[stp,dpH,List.length_cons,List.length_cons,Pv h]
end Go.TVF
end
namespace Go.TVF
open Go.IntKind(i64 u8)
open Go Go.Proofs
theorem Yz:VlR St.zero vlO z13:=by
 unfold vlO VlR;refine⟨.nilSlice,.nilSlice,.nilSlice,[],[],rfl,.of_rd (.inl ⟨rfl,rfl,rfl⟩),.of_rd (.inl ⟨rfl,rfl,rfl⟩),by unfold VsR;rfl,.of_rd (.inl ⟨rfl,rfl,rfl⟩),by unfold FsR;rfl⟩
theorem ent13 {σ:Nat->TV} {st:St} {eb:Nat} {e:En} (h:Pu σ st eb (shE e)) (hlt:eb<st.nb) {f:Fun [.int .i64,.bool,.bool,.str,.int .i64,.int .i64,.int .i64,.int .i64,.int .i64,.str,.tv,.tv,.tv] Prop}
  (hf:∀s ub ul uf,(∀v i,e= .clo v i->VlR St.zero v (AQ s ub ul uf))->List.all (AQ s ub ul uf) Av=true->f s.kind s.b s.neg s.dg s.ex s.tk s.td s.tn s.tz s.text ub ul uf):
  AS ((AE st [] (.t (.box eb 2)) 0 13).map TV.agg) λx=>R4 [.int .i64,.bool,.bool,.str,.int .i64,.int .i64,.int .i64,.int .i64,.int .i64,.str,.tv,.tv,.tv] x f:=by
 obtain⟨a,b,cs,x,v,h1,h2,h3,h4⟩:∃a b cs x v,st.box eb= .cells (a::b::(cs++[x]))/\cs.length=13/\VlR St.zero v cs/\∀w i,e= .clo w i->w=v:=by
  cases e with
  | opn u=>exact⟨_,_,z13,_,vlO,h.1,rfl,Yz,λw i h=>by cases h⟩
  | lst l=>exact⟨_,_,z13,_,vlO,h.2.2,rfl,Yz,λw i h=>by cases h⟩
  | clo v i=>
   obtain⟨cs,q1,q2,q3,_⟩:=h;exact⟨_,_,cs,_,v,q3,q2,q1,λw j h=>by cases h;rfl⟩
 have hS:SlR st 13 (.ms 13 eb 2 1 1) 1 cs:= .inr ⟨eb,2,1,_,rfl,hlt,h1,by simp[h2],Nat.le_refl _,by
  show cs=((a::b::(cs++[x])).drop 2).take 13;show cs=(cs++[x]).take 13;rw[<-h2,List.take_left'];rfl⟩
 have:=hS.ldc (i:=0) (by omega) (by omega);simp only[ixT,Nat.zero_mul,Nat.add_zero,List.drop_zero]at this;rw[this];have ht:cs.take 13=cs:=List.take_of_length_le (by omega);rw[ht];obtain⟨s,l,g⟩:=v;have h30:=h3;obtain⟨ub,ul,uf,xl,xf,rfl,w1,w2,_,w4,_⟩:=h3.cells;exact Ac rfl (X6 (hf s ub ul uf (λw i e=>by rw[h4 w i e];exact h30) (Ee w1.one w2.one w4.one)))
theorem take_kn {es:List Kn} {j:Nat} {k:B8} {eb:Nat} {e:En} (hj:es[j]? =some (.mk k eb e)):Bb (es.take (j+1))=Bb (es.take j)++[.mk k (AK e)]:=by
 rw[Et hj,N2,Bb,Bb]
theorem take_tb {l:List Tb} {i:Nat} {u:Tb} (hi:l[i]? =some u):BS (l.take (i+1))=BS (l.take i)++[Ae u]:=by
 rw[Et hi,Dl,Dl,List.map_append];rfl
theorem SU:∀(N:Nat) (t:Tb) (d:Nat),(Ae t).cnt<=N->N<=900000->∀{σ:Nat->TV} {st:St} {bb:Nat} {K:Int->Bool->Bool->B8->Int->Int->Int->Int->Int->B8->TV->TV->TV->St->Prop},(∀s,s∈shT d t->Rq σ st s)->NdL (shT d t)->(∀x,x∈bxL (shT d t)->x<st.nb)->
  (∀uf st',VlR St.zero (Ae t) (AQ scM .nilSlice .nilSlice uf)->Av uf=true->Ag st st'->K 7 false false [] 0 0 0 0 0 [] .nilSlice .nilSlice uf st')->
  CallT PR Aq [.box bb 0,.box t.b 0] [.agg [.int .i64,.bool,.bool,.str,.int .i64,.int .i64,.int .i64,.int .i64,.int .i64,.str,.tv,.tv,.tv]] st K:=by
 intro N;induction N with
 | zero=>
  intro t d h;have:1<=(Ae t).cnt:=by cases Ae t;unfold Vl.cnt;omega
  omega
 | succ N ih=>
 intro t d hN hN2 σ st bb K hs hnd hx hk;rw[BP]at hnd;have htm:(⟨t.b,t.m,t.hd,d,t.es.map shK⟩:Sh)∈shT d t:=by rw[BP];exact .head _
 have hS:=hs _ htm;have hrow:ED (σ t.b) ((t.es.map Kn.key).map TV.str):=by have:=hS.row;simp only[M8]at this;exact this
 have hndk:(t.es.map Kn.key).Nodup:=by have:=(NdL.cons.1 hnd).1;simp only[M8]at this;exact this
 have hcnt:(Ae t).cnt=1+AX (Bb t.es):=by rw[Gz];simp only[Vl.cnt,AH]
 have hlen:t.es.length<=900000:=by have:=TQ t;omega
 have hc0:st.box t.b= .cells [σ t.b,.map t.m,.int .i64 (d:Int)]:=hS.cell;refine Ik bb t.b st K (Ac (x:=σ t.b) (by simp only[Af,hc0];rfl) (Aa hrow.sl ?_));rw[hrow.len,List.length_map,List.length_map];refine⟨λn_1 b_1 t_1 v_1 n_2 _ _ _ _ _ _ _ _ _ _ _ _ _ n7 b3 b4 s3 n8 n9 n10 n11 n12 s4 v5 v6 v7 st1=>b_1= .box bb 0/\t_1= .box t.b 0/\v_1=σ t.b/\n_2=(t.es.length:Int)/\n7=7/\b3=false/\b4=false/\s3=[]/\n8=0/\n9=0/\n10=0/\n11=0/\n12=0/\s4=[]/\v5= .nilSlice/\v6= .nilSlice/\
   ∃(j:Nat) (xs:List TV),n_1=(j:Int)/\j<=t.es.length/\Ag st st1/\Own st.nt 14 st1 v7 j xs/\FsR St.zero (Bb (t.es.take j)) xs,
  λn_1 _ _ _ _ _ _ _ _ _ _ _ _ _ _ _ _ _ _ _ _ _ _ _ _ _ _ _ _ _ _ _=>t.es.length-n_1.toNat,
  ⟨rfl,rfl,rfl,rfl,rfl,rfl,rfl,rfl,rfl,rfl,rfl,rfl,rfl,rfl,rfl,rfl,0,[],rfl,Nat.zero_le _,Ag.refl _,Own.nil _ _ _,by simp only[List.take_zero,Bb];unfold FsR;rfl⟩,?_⟩
 rintro n_1 _ _ _ _ n1 b1 b2 s1 n2 n3 n4 n5 n6 s2 v2 v3 v4 _ _ _ _ _ _ _ _ _ _ _ _ v7 st1 ⟨rfl,rfl,rfl,rfl,rfl,rfl,rfl,rfl,rfl,rfl,rfl,rfl,rfl,rfl,rfl,rfl,j,xs,rfl,hj,e1,ho,hf⟩;have hs1:∀s,s∈shT d t->Rq σ st1 s:=λs hs'=>(hs s hs').fr λx hx'=>⟨e1.box x (hx x (Bw hs' hx')),rfl⟩;refine Ab (λg=>?_) λg=>?_
 ·have hlt:j<t.es.length:=by omega
  have hwj:IntKind.wrap .i64 ((j:Int)+1)=((j+1:Nat):Int):=by rw[Ah _ (by omega) (by omega)];simp
  obtain⟨k,eb,e,hkn⟩:∃k eb e,t.es[j]? =some (.mk k eb e):=by
   rw[List.getElem?_eq_getElem hlt];cases t.es[j]with
   | mk k eb e=>exact⟨k,eb,e,rfl⟩
  have hl:=VH hndk hkn;have hent0:(k,eb,shE e)∈t.es.map shK:=List.mem_map.2 ⟨.mk k eb e,List.mem_of_getElem? hkn,rfl⟩;have hent:Pu σ st1 eb (shE e):=(hs1 _ htm).en _ hent0;have heb:eb<st1.nb:=Nat.lt_of_lt_of_le (hx _ (Bw htm (Dx (s:=⟨t.b,t.m,t.hd,d,t.es.map shK⟩) (x:=(k,eb,shE e)) hent0))) e1.nb;have hec:=cnt_kn hkn;rw[hwj];refine⟨⟨by omega,by rw[hrow.lenZ,List.length_map,List.length_map];omega⟩,?_⟩;rw[Int.toNat_natCast];refine hrow.get (x:= .str k) (by rw[List.getElem?_map,List.getElem?_map,hkn];rfl) (AO ?_);have hc1:st1.box t.b= .cells [σ t.b,.map t.m,.int .i64 (d:Int)]:=(hs1 _ htm).cell;obtain⟨mp,hm1,hm2⟩:=(hs1 _ htm).mp;have hm1':st1.box t.m= .map mp:=hm1;have hfm:AG k mp=some (.box eb 0):=by
   rw[hm2 k,Fj,hl];rfl
  refine Aa rfl (Aa rfl (Ac (x:= .map t.m) (by simp only[AU,Af,hc1];rfl) (Ac (x:=mp) (by simp only[DY,hm1']) ?_)));rw[hfm];refine Aa rfl (Aa rfl (ent13 hent heb λsc ub ul uf hclo hone=>Aa hone (Aa rfl (Aa rfl ?_))));have fin:∀{v:Vl} {sc:Sc} {ub ul uf:TV} {st2:St},AK e=v->VlR St.zero v (AQ sc ub ul uf)->Ag st1 st2->∀{K':TV->St->Prop},(∀v17 st3,Av v17=true->Ag st st3->Own st.nt 14 st3 v17 (j+1) (xs++ .str k::AQ sc ub ul uf)->FsR St.zero (Bb (t.es.take (j+1))) (xs++ .str k::AQ sc ub ul uf)->K' v17 st3)->
    Bn 87 14 184 v7 1 (.str k::AQ sc ub ul uf) st2 K':=λ{v sc ub ul uf st2} hv hvr e2 K' hk'=>by
   refine SX (e1.trans e2) rfl (ho.ext e2) (by omega) (λh=>by cases h) λv9 st3 e3 _ ho3=>hk' v9 st3 ho3.rd.one e3 ho3 ?_;rw[take_kn hkn,hv];refine FsR.snoc hf ?_;unfold FdR;exact⟨_,rfl,hvr⟩
  cases e with
  | opn u=>
   have he0:st1.box eb= .cells (.box u.b 0:: .nilSlice::(z13++[.int .i64 0])):=hent.1;refine Ac (x:= .box u.b 0) (by simp only[AD,AU,Af,he0];rfl) (Aa rfl (Ao (λ_=>?_) λh=>by cases h));refine Aa rfl (Aa rfl (Ac (x:= .box u.b 0) (by simp only[AD,AU,Af,he0];rfl) ?_));have sub:∀s,s∈shT (d+1) u->s∈Cn d t.es:=λs hs'=>Qh hkn s (by rw[AL];exact hs');have subT:∀s,s∈shT (d+1) u->s∈shT d t:=λs hs'=>by rw[BP];exact .tail _ (sub s hs')
   refine ih u (d+1) (by rw[AK]at hec;omega) (by omega) (λs hs'=>hs1 s (subT s hs')) (λs hs'=>(NdL.cons.1 hnd).2 s (sub s hs')) (λx hx'=>?_) λuf' st2 hv2 o2 e2=>Aa (Ee rfl rfl o2) (Aa (show(true&&_)=true from by rw[Bool.true_and];exact Ee rfl rfl o2) ?_)
   ·obtain⟨s,hs',hxs⟩:=List.mem_flatMap.1 hx'
    exact Nat.lt_of_lt_of_le (hx x (Bw (subT s hs') hxs)) e1.nb
   ·exact fin (v:=Ae u) (by rw[AK]) hv2 e2 λv17 st3 a1 a2 a3 a4=>Aa (by simp[a1]) ⟨⟨rfl,rfl,rfl,rfl,rfl,rfl,rfl,rfl,rfl,rfl,rfl,rfl,rfl,rfl,rfl,rfl,j+1,_,rfl,hlt,a2,a3,a4⟩,by simp only[Int.toNat_natCast];omega⟩
  | lst l=>
   obtain⟨g1,gne,he0⟩:=hent;have glen:(σ eb |> lenS)=l.length:=by show lenS (σ eb)=_;rw[g1.len,List.length_map,List.length_map]
   have glz:lenZ 1 (σ eb)=l.length:=by rw[g1.lenZ,List.length_map,List.length_map]
   have hle:=TP l;have hec2:1+AH (BS l)<=AX (Bb t.es):=by rw[AK]at hec;simp only[Vl.cnt,AX]at hec;omega
   have hl0:0<l.length:=List.length_pos_iff.2 λe=>gne (by rw[e];rfl);refine Ac (x:= .nilPtr) (by simp only[AD,AU,Af,he0];rfl) (Aa rfl (Ao (λh=>by cases h) λ_=>?_));refine Aa rfl (Aa rfl (Ac (x:=σ eb) (by simp only[AD,AU,Af,he0];rfl) (Aa g1.sl (Ab (λ_=>?_) λh=>absurd (by omega) h))));refine Aa rfl (Aa rfl (Ac (x:=σ eb) (by simp only[AD,AU,Af,he0];rfl) (Aa g1.sl ?_)));refine⟨λn_3 b_2 t_2 k_1 v_2 n_4 n_5 v_3 n_6 _ _ _ _ _ _ _ _ _ _ _ _ _ m7 c3 c4 r3 m8 m9 m10 m11 m12 r4 w5 w6 w7 x7 y3 y4 z3 x8 x9 x10 x11 x12 z4 w8 w9 w10 st4=>
     b_2= .box bb 0/\t_2= .box t.b 0/\k_1=k/\v_2=σ t.b/\n_4=(t.es.length:Int)/\n_5=(j:Int)/\v_3=σ eb/\n_6=(l.length:Int)/\m7=7/\c3=false/\c4=false/\r3=[]/\m8=0/\m9=0/\m10=0/\m11=0/\m12=0/\r4=[]/\w5= .nilSlice/\w6= .nilSlice/\w7=v7/\
     x7=6/\y3=false/\y4=false/\z3=[]/\x8=0/\x9=0/\x10=0/\x11=0/\x12=0/\z4=[]/\w8= .nilSlice/\w10= .nilSlice/\∃(i:Nat) (ys:List TV),n_3=(i:Int)/\i<=l.length/\Ag st1 st4/\Own st1.nt 13 st4 w9 i ys/\VsR St.zero (BS (l.take i)) ys,
    λn_3 _ _ _ _ _ _ _ _ _ _ _ _ _ _ _ _ _ _ _ _ _ _ _ _ _ _ _ _ _ _ _ _ _ _ _ _ _ _ _ _ _ _ _ _ _ _ _ _=>l.length-n_3.toNat,
    ⟨rfl,rfl,rfl,rfl,rfl,rfl,rfl,by rw[show lenS (σ eb)=l.length from glen],rfl,rfl,rfl,rfl,rfl,rfl,rfl,rfl,rfl,rfl,rfl,rfl,rfl,rfl,rfl,rfl,rfl,rfl,rfl,rfl,rfl,rfl,rfl,rfl,rfl,0,[],rfl,Nat.zero_le _,Ag.refl _,Own.nil _ _ _,by simp only[List.take_zero,BS];unfold VsR;rfl⟩,?_⟩
   rintro n_3 _ _ _ _ _ _ _ _ q1 q2 q3 q4 q5 q6 q7 q8 q9 q10 q11 q12 q13 _ _ _ _ _ _ _ _ _ _ _ _ _ _ _ _ _ _ _ _ _ _ _ _ w9 _ st4 ⟨rfl,rfl,rfl,rfl,rfl,rfl,rfl,rfl,rfl,rfl,rfl,rfl,rfl,rfl,rfl,rfl,rfl,rfl,rfl,rfl,rfl,rfl,rfl,rfl,rfl,rfl,rfl,rfl,rfl,rfl,rfl,rfl,rfl,i,ys,rfl,hi,e4,ho4,hv4⟩;refine Ab (λg2=>?_) λg2=>?_
   ·have hil:i<l.length:=by omega
    obtain⟨u,hu⟩:∃u,l[i]? =some u:=⟨l[i],List.getElem?_eq_getElem hil⟩;have hwi:IntKind.wrap .i64 ((i:Int)+1)=((i+1:Nat):Int):=by rw[Ah _ (by omega) (by omega)];simp
    rw[hwi];refine⟨⟨by omega,by rw[glz];omega⟩,?_⟩;rw[Int.toNat_natCast];refine g1.get (x:= .box u.b 0) (by rw[List.getElem?_map,List.getElem?_map,hu];rfl) ?_;have huc:=cnt_tb hu;have sub:∀s,s∈shT (d+2) u->s∈Cn d t.es:=λs hs'=>Qh hkn s (by rw[AL];exact U7 hu s hs');have subT:∀s,s∈shT (d+2) u->s∈shT d t:=λs hs'=>by rw[BP];exact .tail _ (sub s hs')
    refine ih u (d+2) (by omega) (by omega) (λs hs'=>(hs1 s (subT s hs')).fr λx hx'=>⟨e4.box x (Nat.lt_of_lt_of_le (hx x (Bw (subT s hs') hx')) e1.nb),rfl⟩) (λs hs'=>(NdL.cons.1 hnd).2 s (sub s hs')) (λx hx'=>?_) λuf' st5 hv5 o5 e5=>Aa (Ee rfl rfl o5) ?_
    ·obtain⟨s,hs',hxs⟩:=List.mem_flatMap.1 hx'
     exact Nat.lt_of_lt_of_le (hx x (Bw (subT s hs') hxs)) (Nat.le_trans e1.nb e4.nb)
    refine SX (e4.trans e5) rfl (ho4.ext e5) (by omega) (λh=>by cases h) λv9 st6 e6 _ ho6=>Aa (by simp[ho6.rd.one]) ?_;refine⟨⟨rfl,rfl,rfl,rfl,rfl,rfl,rfl,rfl,rfl,rfl,rfl,rfl,rfl,rfl,rfl,rfl,rfl,rfl,rfl,rfl,rfl,rfl,rfl,rfl,rfl,rfl,rfl,rfl,rfl,rfl,rfl,rfl,rfl,i+1,_,rfl,hil,e6,ho6,?_⟩,by simp only[Int.toNat_natCast];omega⟩;rw[take_tb hu];exact VsR.snoc hv4 hv5
   ·have hii:i=l.length:=by omega
    subst hii;rw[List.take_length]at hv4;refine Aa (show(true&&_)=true from by rw[Bool.true_and];exact Ee rfl ho4.rd.one rfl) ?_;have hvl:VlR St.zero (.mk scL (BS l) []) (AQ scL .nilSlice w9 .nilSlice):=by
     unfold VlR;exact⟨.nilSlice,w9,.nilSlice,ys,[],rfl,.of_rd (.inl ⟨rfl,rfl,rfl⟩),.of_rd (by rw[show(BS l).length=l.length by rw[Dl,List.length_map]];exact ho4.rd),hv4,.of_rd (.inl ⟨rfl,rfl,rfl⟩),by unfold FsR;rfl⟩
    rw[hwj];exact fin (v:= .mk scL (BS l) []) (by rw[AK]) hvl e4 λv17 st3 a1 a2 a3 a4=>Aa (by simp[a1]) ⟨⟨rfl,rfl,rfl,rfl,rfl,rfl,rfl,rfl,rfl,rfl,rfl,rfl,rfl,rfl,rfl,rfl,j+1,_,rfl,hlt,a2,a3,a4⟩,by simp only[Int.toNat_natCast];omega⟩
  | clo v i=>
   obtain⟨cs,_,_,he0,_⟩:=hent;refine Ac (x:= .nilPtr) (by simp only[AD,AU,Af,he0];rfl) (Aa rfl (Ao (λh=>by cases h) λ_=>?_));refine Aa rfl (Aa rfl (Ac (x:= .nilSlice) (by simp only[AD,AU,Af,he0];rfl) (Aa rfl (Ab (λh=>absurd h (by simp[lenS])) λ_=>?_))));refine Aa (show(true&&_)=true from by rw[Bool.true_and];exact hone) ?_;exact fin (v:=v) (by rw[AK]) (hclo v i rfl) (Ag.refl st1) λv17 st3 a1 a2 a3 a4=>Aa (by simp[a1]) ⟨⟨rfl,rfl,rfl,rfl,rfl,rfl,rfl,rfl,rfl,rfl,rfl,rfl,rfl,rfl,rfl,rfl,j+1,_,rfl,hlt,a2,a3,a4⟩,by simp only[Int.toNat_natCast];omega⟩
 ·have hjj:j=t.es.length:=by omega
  subst hjj;rw[List.take_length]at hf;refine Aa (Ee rfl rfl ho.rd.one) (hk v7 st1 ?_ ho.rd.one e1);rw[Gz];unfold VlR;exact⟨.nilSlice,.nilSlice,v7,[],xs,rfl,.of_rd (.inl ⟨rfl,rfl,rfl⟩),.of_rd (.inl ⟨rfl,rfl,rfl⟩),by unfold VsR;rfl,.of_rd (by rw[show(Bb t.es).length=t.es.length by rw[K7,List.length_map]];exact ho.rd),hf⟩
theorem RT {st:St} {K:TV->St->Prop} (hk:∀bb ub r m σ st',BH bb ub (.box r 0) (.mk r m false []) 1 σ st'->K (.box bb 0) st'):CallT PR DS [] [.one .tv] st K:=by
 refine J3 st K (Aa rfl ?_);generalize hst0:(st.push (.pmap []) none).push (.cells [.nilPtr,.nilPtr,.map st.nb,.int .i64 0]) (some 179)=st0;have nb0:st0.nb=st.nb+2:=by rw[<-hst0];rfl
 have nb1:(st.push (.pmap []) none).nb=st.nb+1:=rfl;rw[nb1];have bx0:∀x,st0.box x=if x=st.nb+1 then .cells [.nilPtr,.nilPtr,.map st.nb,.int .i64 0]else if x=st.nb then .pmap []else st.box x:=λx=>by rw[<-hst0];rfl
 refine Lq (bb:=st.nb+1) (ub:=st.nb) (d:=1) (r:= .nilPtr) (n:= .nilPtr) (nodes:=0) (up:=[]) (by rw[bx0,if_pos rfl]) (by rw[bx0,if_neg (by omega),if_pos rfl]) (by omega) (by omega) (λp hp=>by cases hp) ⟨by omega,by omega⟩ λst1 q1 q2 q3 q4=>Aa rfl ?_;have hb1:st1.box (st.nb+1)= .cells [.nilPtr,.nilPtr,.map st.nb,.int .i64 (0+1)]:=by rw[q2];simp only;rw[if_pos trivial]
 refine⟨_,hb1,by simp,?_⟩;generalize hst2:st1.put (st.nb+1) (.cells (setAll [.nilPtr,.nilPtr,.map st.nb,.int .i64 (0+1)] 0 [.box (st0.nb+1) 0]))=st2;have hb2:st2.box (st.nb+1)= .cells [.box (st0.nb+1) 0,.nilPtr,.map st.nb,.int .i64 (0+1)]:=by rw[<-hst2];simp[St.put,setAll]
 refine Ac (x:= .box (st0.nb+1) 0) (by simp only[Af,hb2];rfl) (Aa rfl ?_);refine⟨_,hb2,by simp,?_⟩;generalize hst3:st2.put (st.nb+1) (.cells (setAll [.box (st0.nb+1) 0,.nilPtr,.map st.nb,.int .i64 (0+1)] 1 [.box (st0.nb+1) 0]))=st3;have bx3:∀x,st3.box x=if x=st.nb+1 then .cells [.box (st0.nb+1) 0,.box (st0.nb+1) 0,.map st.nb,.int .i64 1]else st1.box x:=λx=>by
  rw[<-hst3,<-hst2];by_cases h:x=st.nb+1
  ·simp[St.put,setAll,h]
  ·simp[St.put,h]
 have nb3:st3.nb=st.nb+4:=by rw[<-hst3,<-hst2];show st1.nb=_;omega
 have kr:st3.box (st0.nb+1)= .cells [.nilSlice,.map st0.nb,.int .i64 ((1:Nat):Int)]:=by
  rw[bx3,if_neg (by omega),q2];simp only;rw[if_neg (by omega),if_neg (by omega),if_pos trivial]
 have km:st3.box st0.nb= .map []:=by
  rw[bx3,if_neg (by omega),q2];simp only;rw[if_neg (by omega),if_neg (by omega),if_neg (by omega),if_pos trivial]
 have ku:st3.box st.nb= .pmap [(st0.nb+1,.bool true)]:=by
  rw[bx3,if_neg (by omega),q2];simp only;rw[if_neg (by omega),if_pos trivial];rfl
 have eS:shT 1 (.mk (st0.nb+1) st0.nb false [])=[⟨st0.nb+1,st0.nb,false,1,[]⟩]:=by rw[shT,Cn];rfl
 have eB:bxL [⟨st0.nb+1,st0.nb,false,1,[]⟩]=[st0.nb+1,st0.nb]:=rfl;have mm:∀{x},x∈ [st0.nb+1,st0.nb]->x=st0.nb+1∨x=st0.nb:=λ{x} hx=>by
  rcases List.mem_cons.1 hx with h | h
  ·exact .inl h
  ·exact .inr (List.mem_singleton.1 h)
 refine hk (st.nb+1) st.nb (st0.nb+1) st0.nb (λ_=> .nilSlice) st3 ⟨?_,?_,⟨_,ku,by simp,λp hp=>?_,λs hs=>?_⟩,by omega,by omega,λhx=>?_,λhx=>?_⟩
 ·rw[eS]
  refine⟨by rw[eB];simp,λx hx=>?_,λs hs=>?_,(λx _ id hid=>by cases hid),(λx _ y _ _ id hid=>by cases hid)⟩
  ·rw[eB]at hx
   rcases mm hx with h | h<;>omega
  ·rw[List.mem_singleton.1 hs]
   exact⟨kr,ED.nil,⟨[],km,λ_=>rfl⟩,λx hx=>by cases hx⟩
 ·rw[bx3,if_pos rfl];rfl
 ·rw[List.mem_singleton.1 hp]
  exact⟨by simp[Au,kr],by show st0.nb+1<st3.nb;omega⟩
 ·rw[eS]at hs
  rw[List.mem_singleton.1 hs];simp[CF]
 ·rw[eS,eB]at hx
  rcases mm hx with h | h<;>omega
 ·rw[eS,eB]at hx
  rcases mm hx with h | h<;>omega
theorem BH.ext {bb ub nodes:Nat} {now:TV} {T:Tb} {σ:Nat->TV} {st st':St} (H:BH bb ub now T nodes σ st) (e:Ag st st'):BH bb ub now T nodes σ st':=by
 obtain⟨up,hup⟩:=H.un;refine⟨H.hp.same e.nb (λx hx=>e.box x (H.hp.lt x hx)) λid h1 h2=>⟨Nat.lt_of_lt_of_le h1 e.nt,(e.live id h1).trans h2⟩,(e.box bb H.bl).trans H.cell,⟨up,(e.box ub H.ul).trans hup.box,hup.nd,λp hp=>?_,hup.fd⟩,Nat.lt_of_lt_of_le H.bl e.nb,Nat.lt_of_lt_of_le H.ul e.nb,H.bx,H.ux⟩;obtain⟨q1,q2⟩:=hup.ok p hp;refine⟨?_,Nat.lt_of_lt_of_le q2 e.nb⟩;simp only[Au,e.box p.1 q2]at q1⊢;exact q1
theorem YR {bb ub nodes:Nat} {now:TV} {T:Tb} {σ:Nat->TV} {st:St} (H:BH bb ub now T nodes σ st) (hN:NdL (shT 1 T)) (hc:(Ae T).cnt<=900000) (hz:(Ae T).sz<=2000000) {K:Int->St->Prop} (hk:∀st',Ag st st'->K (BV (Ae T):Nat) st'):
  AS (Af st [] (.t (.box bb 0)) 0) λv=>CallT PR Aq [.box bb 0,v] [.agg [.int .i64,.bool,.bool,.str,.int .i64,.int .i64,.int .i64,.int .i64,.int .i64,.str,.tv,.tv,.tv]] st
   λn1 b1 b2 s1 n2 n3 n4 n5 n6 s2 v1 v2 v3 st5=>CallT PR AW [.agg [.int .i64 n1,.bool b1,.bool b2,.str s1,.int .i64 n2,.int .i64 n3,.int .i64 n4,.int .i64 n5,.int .i64 n6,.str s2,v1,v2,v3]] [.one (.int .i64)] st5 λn st6=>K n st6:=by
 refine Ac (x:= .box T.b 0) (by simp only[Af,H.cell];rfl) ?_;refine SU (Ae T).cnt T 1 (Nat.le_refl _) hc H.hp.sh hN H.hp.lt λuf st' hv ho e=>?_;exact Rv hz hv (E8 st') λst6 e6=>hk st6 (e.trans e6)
def reK (bb:Nat) (K:Int->St->Prop) (st:St):Prop:=AS (Af st [] (.t (.box bb 0)) 0) λv=>CallT PR Aq [.box bb 0,v] [.agg [.int .i64,.bool,.bool,.str,.int .i64,.int .i64,.int .i64,.int .i64,.int .i64,.str,.tv,.tv,.tv]] st
   λn1 b1 b2 s1 n2 n3 n4 n5 n6 s2 v1 v2 v3 st5=>CallT PR AW [.agg [.int .i64 n1,.bool b1,.bool b2,.str s1,.int .i64 n2,.int .i64 n3,.int .i64 n4,.int .i64 n5,.int .i64 n6,.str s2,v1,v2,v3]] [.one (.int .i64)] st5 λn st6=>K n st6
theorem Tl {bb ub:Nat} {now v3:TV} {T:Tb} {σ:Nat->TV} {st:St} {ks:List B8} {D:Int} (H:BH bb ub now T (Ae T).cnt σ st) (hN:NdL (shT 1 T)) (hc:(Ae T).cnt<=900000) (hz:(Ae T).sz<=2000000)
  (hr:Rd 1 v3 ks.length (ks.map TV.str)) (hl:∀k,k∈ks->k.length<=1000000) (hn:ks.length<=1000000) (hg:D<=48->(Ae T).cnt<=65536->(∀k,k∈ks->U8 k/\k.length<=1024)->BV (Ae T)=0)
  {K:Int->St->Prop} (hk:∀st',Ag st st'->K (BV (Ae T):Nat) st'):
  BIf (decide ((48:Int)<D)) (reK bb K st) (AS (Af st [] (.t (.box bb 3)) 0) λx6=>CG (.int .i64) x6 λn16=>BIf (decide ((65536:Int)<n16)) (reK bb K st)
   (CallT PR AF [v3,.func Ca []] [.one .bool] st λb11 st9=>BIf b11 (reK bb K st9) (K 0 st9))):=by
 have re:reK bb K st:=YR H hN hc hz hk;refine Ab (λ_=>re) λh1=>Ac (x:= .int .i64 (Ae T).cnt) (by simp only[Af,H.cell];rfl) (Am (Ab (λ_=>re) λh2=>?_));refine Uh hr hl hn (Ao (λ_=>re) λh3=>?_);have:BV (Ae T)=0:=hg (by omega) (by omega) λk hk'=>by
  have h4:Xs k=false:=by
   rw[Bool.eq_false_iff];intro e;have:=List.any_eq_true.2 ⟨k,hk',e⟩;rw[this]at h3;cases h3
  unfold Xs at h4;simp only[Bool.or_eq_false_iff,Bool.not_eq_false',decide_eq_true_eq,decide_eq_false_iff_not]at h4;exact⟨h4.1,by omega⟩
 have:=hk st (Ag.refl st);rw[‹BV (Ae T)=0›]at this;exact this
theorem BH.count {bb ub nodes nodes':Nat} {now:TV} {T:Tb} {σ:Nat->TV} {st:St} (H:BH bb ub now T nodes σ st):BH bb ub now T nodes' σ (st.put bb (.cells [.box T.b 0,now,.map ub,.int .i64 nodes'])):=by
 obtain⟨up,hup⟩:=H.un;have kb:∀x,x≠bb->(st.put bb (.cells [.box T.b 0,now,.map ub,.int .i64 nodes'])).box x=st.box x:=λx h=>if_neg h;have kbb:(st.put bb (.cells [.box T.b 0,now,.map ub,.int .i64 nodes'])).box bb= .cells [.box T.b 0,now,.map ub,.int .i64 nodes']:=if_pos rfl;refine⟨H.hp.same (Nat.le_refl _) (λx hx=>kb x λe=>H.bx (e▸hx)) λid h1 h2=>⟨h1,h2⟩,kbb,⟨up,by rw[kb _ (Ne.symm H.bu)];exact hup.box,hup.nd,λp hp=>?_,hup.fd⟩,H.bl,H.ul,H.bx,H.ux⟩;obtain⟨q1,q2⟩:=hup.ok p hp;refine⟨?_,q2⟩;by_cases c:p.1=bb
 ·simp only[Au,c,kbb]
 ·simp only[Au,kb _ c]at q1⊢;exact q1
theorem kz_app (a b:List B8):kz (a++b)=kz a+kz b:=by unfold kz;rw[List.map_append,List.sum_append]
theorem AaS {bb ub i:Nat} {T u:Tb} {cur:List Hop} {σ:Nat->TV} {st:St} {a:Asg} {a_2:TV} {cs:List TV} {K:Int->St->Prop} (H:BH bb ub (.box u.b 0) T (Ae T).cnt σ st) (hu:atT T cur=some u) (hN:NdL (shT 1 T)) (hNe:NeL (shT 1 T))
  (hV:BV (Ae T)=0) (hc:a.keys.length+a.val.cnt<=100000) (hz:(Ae T).sz+kz a.keys+a.val.sz+2<=1000000) (hr:Rd 1 a_2 a.keys.length (a.keys.map TV.str)) (hv:VlR St.zero a.val cs)
  (hk1:∀nu T' cur' u' σ' st',Fg nu i T cur a= .ok (T',cur')->BV (Ae T')=0->atT T' cur'=some u'->BH bb ub (.box u'.b 0) T' (Ae T').cnt σ' st'->NdL (shT 1 T')->NeL (shT 1 T')->(Ae T').sz<=(Ae T).sz+kz a.keys+a.val.sz+2->K 0 st')
  (hk2:∀nu e st',Fg nu i T cur a= .error e->K e st')
  (hk3:∀nu T' cur' st',Fg nu i T cur a= .ok (T',cur')->BV (Ae T')≠0->K (BV (Ae T'):Nat) st'):
  CallT PR CX [.box bb 0,.agg (.bool a.tab:: .bool a.elem::a_2::cs),.int .i64 i] [.one (.int .i64)] st K:=by
 obtain⟨tab,elem,ks,v⟩:=a;simp only at*;have hcT:=G8 hV;have hvT:=(EA.1 hV).1;have hlT:=(EA.1 hV).2.1;have hvc:=ME v;have hpz:∀{K:Bool->St->Prop},K (C4 ⟨tab,elem,ks,v⟩) st->CallT PR D0 [.agg (.bool tab:: .bool elem::a_2::cs)] [.one .bool] st K:=λh=>Aak hr hv h;have hv0:=hv;obtain⟨s,l,f⟩:=v;obtain⟨ub1,ul,uf,xl,xf,rfl,_⟩:=hv0.cells;have nu0:Nat->Nu:=λ_=>⟨0,0,0⟩;refine HJ bb tab elem a_2 s.kind s.b s.neg s.dg s.ex s.tk s.td s.tn s.tz s.text ub1 ul uf i st K (hpz (Ao (λhp=>?_) λhp=>?_))
 ·refine hk2 nu0 1 st ?_
  unfold Fg;rw[if_pos (by simpa using hp)]
 have hp':C4 ⟨tab,elem,ks,.mk s l f⟩=true:=by simpa using hp
 have hks:ks≠ []:=λe=>by subst e;unfold C4 at hp';simp at hp'
 refine Ac (x:= .box u.b 0) (by simp only[Af,H.cell];rfl) ?_
 --where the keys begin
 generalize hh0:(if tab=true then []else cur)=h0;obtain⟨u0,hu0,hu0b⟩:∃u0,atT T h0=some u0/\(if tab=true then TV.box T.b 0 else TV.box u.b 0)= .box u0.b 0:=by
  subst hh0;cases tab with
  | true=>exact⟨T,by cases T;rfl,rfl⟩
  | false=>exact⟨u,hu,rfl⟩
 refine⟨λfrom_1 b_1 at_1 b2 b3 v3 n1 b4 b5 s1 n2 n3 n4 n5 n6 s2 v4 v5 v6 st2=>from_1= .box u0.b 0/\b_1= .box bb 0/\at_1=(i:Int)/\tab=b2/\elem=b3/\a_2=v3/\n1=s.kind/\b4=s.b/\b5=s.neg/\s1=s.dg/\n2=s.ex/\n3=s.tk/\n4=s.td/\n5=s.tn/\n6=s.tz/\s2=s.text/\ub1=v4/\ul=v5/\uf=v6/\st=st2,?_,?_⟩
 ·refine Ao (λht=>?_) λht=>?_
  ·refine Ac (x:= .box T.b 0) (by simp only[Af,H.cell];rfl) ⟨?_,rfl,rfl,rfl,rfl,rfl,rfl,rfl,rfl,rfl,rfl,rfl,rfl,rfl,rfl,rfl,rfl,rfl,rfl,rfl⟩
   rw[if_pos (by simpa using ht)]at hu0b;exact hu0b
  ·refine⟨?_,rfl,rfl,rfl,rfl,rfl,rfl,rfl,rfl,rfl,rfl,rfl,rfl,rfl,rfl,rfl,rfl,rfl,rfl,rfl⟩
   rw[if_neg (by simpa using ht)]at hu0b;exact hu0b
 rintro _ _ _ _ _ _ _ _ _ _ _ _ _ _ _ _ _ _ _ _ ⟨rfl,rfl,rfl,rfl,rfl,rfl,rfl,rfl,rfl,rfl,rfl,rfl,rfl,rfl,rfl,rfl,rfl,rfl,rfl,rfl⟩;have EE:∀nu,BE nu tab 0 T h0 ks.dropLast=none->Fg nu i T cur ⟨tab,elem,ks,.mk s l f⟩= .error 8:=λnu hh=>by
  unfold Fg;rw[if_neg (by rw[hp'];simp)];simp only[hh0,hh]
 have step:∀nu T' h,BE nu tab 0 T h0 ks.dropLast=some (T',h)->Fg nu i T cur ⟨tab,elem,ks,.mk s l f⟩=B2 (nu ks.length) ⟨tab,elem,ks,.mk s l f⟩ i T' h cur (ks.getLastD []):=λnu T' h hh=>by
  unfold Fg;rw[if_neg (by rw[hp'];simp)];simp only[hh0,hh]
 refine along_ok H hu0 hr hks (by omega) (λnu T1 h t σ1 st1 hh hA H1 hc1=>?_) λnu st1 hh=>?_
 case refine_2=>
  show K 8 st1;exact hk2 nu 8 st1 (EE nu hh)
 have klen:1<=ks.length:=List.length_pos_iff.2 hks;obtain⟨ks',kl,hkl⟩:∃ks' kl,ks=ks'++[kl]:=⟨ks.dropLast,ks.getLast hks,(List.dropLast_concat_getLast hks).symm⟩;have hgl:ks.getLastD []=kl:=by rw[hkl];simp
 have hdl:ks.dropLast=ks':=by rw[hkl];simp
 have hkzz:kz ks=kz ks'+(kl.length+1):=by rw[hkl,kz_app];simp[kz]
 have hkl2:ks.length=ks'.length+1:=by rw[hkl];simp
 rw[hdl]at hh;have step1:∀x,Fg (OP nu ks.length x) i T cur ⟨tab,elem,ks,.mk s l f⟩=B2 x ⟨tab,elem,ks,.mk s l f⟩ i T1 h cur kl:=λx=>by
  rw[step _ T1 h (by rw[hdl,MB (nu':=nu) ks' 0 T h0 (λj _ h2=>by unfold OP;rw[if_neg (by omega)]),hh]),hgl];simp only[OP,if_true]
 obtain⟨W,hNe1⟩:=KL ks' 0 hu0 hNe hh (Nat.le_refl _);have hN1:=W.nd hN;have w1:=W.cnt;have w2:=W.sz;have w3:=W.lv;have hvz:1<=(Vl.mk s l f).sz:=Vl.sz_pos _;have klK:∀k,k∈ks->k.length<=1000000:=λk hk=>by
  have:∀(l:List B8),k∈l->k.length<=kz l:=by
   intro l;induction l with
   | nil=>intro h;cases h
   | cons x r ih=>
    intro h;simp only[kz,List.map_cons,List.sum_cons];rcases List.mem_cons.1 h with rfl | h
    ·omega
    ·have:=ih h;unfold kz at this;omega
  have:=this ks hk;omega
 have hdp:=Oz hA;have fin:∀{x:Nu} {T':Tb} {cur':List Hop} {D:Int},B2 x ⟨tab,elem,ks,.mk s l f⟩ i T1 h cur kl= .ok (T',cur')->(elem=false->tab=false->AY (.mk s l f))->((dpH h+3+(if elem=true∨tab=true then 0 else lvV (.mk s l f)-2):Nat):Int)<=max 48 D->
   (D<=48->(Ae T').cnt<=65536->(∀k,k∈ks->U8 k/\k.length<=1024)->BV (Ae T')=0)/\NdL (shT 1 T')/\NeL (shT 1 T')/\(Ae T').cnt<=900000/\(Ae T').sz<=(Ae T).sz+kz ks+(Vl.mk s l f).sz+2:=λ{x T' cur' D} hL hvv hD=>by
  have F:=(KK hNe1 hL).1;have f1:=F.cnt;have f2:=F.sz;have f3:=F.lv;simp only at f1 f2 f3;refine⟨λg1 g2 g3=>EA.2 ⟨?_,?_,g2⟩,F.nd hN1,F.ne hNe1,by omega,by omega⟩
  ·have g4:=g3 kl (by rw[hkl];simp)
   exact F.va ⟨g4.1,g4.2,hvv⟩ (W.va (λk hk=>g3 k (by rw[hkl];exact List.mem_append_left _ hk)) hvT)
  ·omega
 refine Aa hr.isSl ?_;have hw:IntKind.wrap .i64 ((lenS a_2:Int)-1)=((ks'.length:Nat):Int):=by
  rw[hr.lenS,Ah _ (by omega) (by omega)];omega
 rw[hw];refine⟨⟨by omega,by rw[hr.lenZ];omega⟩,?_⟩;have hk0:(ks.map TV.str)[ks'.length*1+0]? =some (.str kl):=by
  rw[hkl];simp
 refine Ac (x:= .str kl) ?_ (AO ?_)
 ·rw[Int.toNat_natCast]
  exact hr.ldx st1 ks'.length 0 hk0
 refine Aa rfl (Aa rfl (H1.ldd hA (Am ?_)));have hw2:IntKind.wrap .i64 (((1+dpH h:Nat):Int)+2)=((dpH h+3:Nat):Int):=by rw[Ah _ (by omega) (by omega)];omega
 rw[hw2];cases he:elem with
 | true=>
  have lke:∀x,B2 x ⟨tab,elem,ks,.mk s l f⟩ i T1 h cur kl=OW x T1 t h kl:=λx=>by
   unfold B2 OW;rw[hA];simp only[he,if_true]
   all_goals (rcases Aj kl t.es with _ | ⟨eb,u | l | ⟨v,j⟩⟩<;>rfl)
  subst he;refine WF H1 hA (by omega) (λx T' h' u' σ' st' hg hA' H' hc'=>?_) λx st' hg=>?_
  ·have hL:=(lke x).trans hg
   obtain⟨g1,g2,g3,g4,g5⟩:=fin (D:=((dpH h+3:Nat):Int)) hL (λh=>by cases h) (by simp;omega)
   ·refine Tl H' g2 g4 (by omega) hr klK (by omega) g1 λst2 e2=>?_
    by_cases hcv:BV (Ae T')=0
    ·rw[hcv]
     exact hk1 _ _ _ u' σ' st2 ((step1 x).trans hL) hcv hA' (H'.ext e2) g2 g3 g5
    ·exact hk3 _ _ _ st2 ((step1 x).trans hL) hcv
  ·exact hk2 _ _ st' ((step1 x).trans ((lke x).trans hg))
 | false=>
  cases ht:tab with
  | true=>
   have lke:∀x,B2 x ⟨tab,elem,ks,.mk s l f⟩ i T1 h cur kl=Nt x T1 t h kl:=λx=>by
    unfold B2 Nt;rw[hA];simp only[he,ht,if_true,if_false,Bool.false_eq_true]
    all_goals (rcases Aj kl t.es with _ | ⟨eb,u | l | ⟨v,j⟩⟩<;>rfl)
   subst he;subst ht;refine Ym H1 hA (by omega) (λx T' h' u' σ' st' hg hA' H' hc'=>?_) λx st' hg=>?_
   ·have hL:=(lke x).trans hg
    obtain⟨g1,g2,g3,g4,g5⟩:=fin (D:=((dpH h+3:Nat):Int)) hL (λ_ h=>by cases h) (by simp;omega);refine Tl H' g2 g4 (by omega) hr klK (by omega) g1 λst2 e2=>?_;by_cases hcv:BV (Ae T')=0
    ·rw[hcv]
     exact hk1 _ _ _ u' σ' st2 ((step1 x).trans hL) hcv hA' (H'.ext e2) g2 g3 g5
    ·exact hk3 _ _ _ st2 ((step1 x).trans hL) hcv
   ·exact hk2 _ _ st' ((step1 x).trans ((lke x).trans hg))
  | false=>
   refine Aa rfl (Aa rfl (H1.ldm hA (H1.map hA λes hes=>?_)));rw[hes kl];have lkn:∀x,Aj kl t.es=none->B2 x ⟨tab,elem,ks,.mk s l f⟩ i T1 h cur kl= .ok (AA T1 h (AM t kl x.eb (.clo (.mk s l f) i)),cur):=λx hl=>by
    unfold B2;rw[hA];simp only[he,ht,if_false,Bool.false_eq_true,hl]
   have lks:∀x p,Aj kl t.es=some p->B2 x ⟨tab,elem,ks,.mk s l f⟩ i T1 h cur kl= .error 8:=λx p hl=>by
    unfold B2;rw[hA];simp only[he,ht,if_false,Bool.false_eq_true,hl]
   subst he;subst ht;rcases hl:Aj kl t.es with _ | ⟨eb,e⟩
   ·rw[Option.map_none]
    refine Aa rfl ?_;show CallT _ _ _ _ _ _;refine clo_new H1 hA hl (by omega) hv (by rfl) λσ' st2 H2=>?_;generalize hT':AA T1 h (AM t kl st1.nb (.clo (.mk s l f) i))=T' at H2;have hL:B2 ⟨0,0,st1.nb⟩ ⟨false,false,ks,.mk s l f⟩ i T1 h cur kl= .ok (T',cur):=by rw[lkn _ hl,hT']
    have F2:=(KK hNe1 hL).2 rfl rfl;simp only at F2;obtain⟨F3,F4,F5,F7⟩:=F2;obtain⟨r,u1,hr1,hu1,hub1⟩:∃r u1,h=cur++r/\atT T1 cur=some u1/\u1.b=u.b:=by
     simp only[Bool.false_eq_true,if_false]at hh0;subst hh0;have:=QS (g:=cur) (r:=[]) ks' 0 hu (by rw[List.append_nil];exact hu) hNe (by rw[List.append_nil];exact hh);obtain⟨r,u1,a1,a2,a3⟩:=this;exact⟨r,u1,a1,a2,a3⟩
    obtain⟨u',hu',hub'⟩:∃u',atT T' cur=some u'/\u'.b=u.b:=by
     subst hr1;obtain⟨u',q1,q2⟩:=Rf (x:=AM t kl st1.nb (.clo (.mk s l f) i)) hu1 hA rfl;rw[hT']at q1;exact⟨u',q1,q2.trans hub1⟩
    have F:=(KK hNe1 hL).1;have f2:=F.sz;simp only at f2;have F6:BV (Ae T')=0->BV (.mk s l f)=0:=λe=>by
     obtain⟨e1,e2,e3⟩:=EA.1 e;exact EA.2 ⟨F3 e1,by omega,by omega⟩
    have hnow:TV.box u.b 0= .box u'.b 0:=by rw[hub']
    rw[hnow]at H2;refine Rv (v:= .mk s l f) (by omega) hv (E8 _) λst21 e21=>Ab (λhne=>?_) λheq=>?_
    ·refine Aa rfl (Aa rfl (YR (H2.ext e21) (F.nd hN1) (by omega) (by omega) λst' e'=>hk3 _ _ _ st' ((step1 _).trans hL) λe=>hne (by rw[F6 e];rfl)))
    ·have hcv0:BV (.mk s l f)=0:=by omega
     have H3:=H2.ext e21;refine Aa rfl (Aa rfl (Ac (x:= .int .i64 (Ae T1).cnt) (by simp only[Af,AU,H3.cell];rfl) (Am ?_)));refine ZU (v:= .mk s l f) (by omega) (G8 hcv0) hv (E8 _) λst24 e24=>?_;have H4:=H3.ext e24;refine⟨by simp only[Af,AU,H4.cell];rfl,Aa rfl (Aa rfl ⟨_,H4.cell,by simp,?_⟩)⟩;have hw3:IntKind.wrap .i64 (((Ae T1).cnt:Int)+((Vl.mk s l f).cnt:Nat))=((Ae T').cnt:Nat):=by rw[Ah _ (by omega) (by omega)];omega
     rw[hw3];have H5:=H4.count (nodes':=(Ae T').cnt);have hAt:atT T' h=some (AM t kl st1.nb (.clo (.mk s l f) i)):=by rw[<-hT'];exact CT h hA
     refine Aa rfl (Aa rfl ?_);show AS (Af (st24.put bb (.cells [.box T'.b 0,.box u'.b 0,.map ub,.int .i64 ((Ae T').cnt:Nat)])) [] (.t (.box t.b 2)) 0) _;refine H5.ldd hAt (Am ?_);refine WM (v:= .mk s l f) (by omega) (G8 hcv0) hv (E8 _) λst26 e26=>?_;have H6:=H5.ext e26;have hw4:IntKind.wrap .i64 (((1+dpH h:Nat):Int)+(OA (.mk s l f):Nat))=((1+dpH h+lvV (.mk s l f):Nat):Int):=by
      have:=TN (.mk s l f);rw[Ue,Ah _ (by omega) (by omega)];omega
     rw[hw4];refine⟨?_,?_⟩
     ·have:=(H6.tab hAt).1.cell
      simp only at this;show Af st26 [] (.t (.box (AM t kl st1.nb (.clo (.mk s l f) i)).b 2)) 0=_;simp only[Af,this];rfl
     have hgood:((1+dpH h+lvV (.mk s l f):Nat):Int)<=48->(Ae T').cnt<=65536->(∀k,k∈ks->U8 k/\k.length<=1024)->BV (Ae T')=0:=λg1 g2 g3=>by
      have g4:=g3 kl (by rw[hkl];simp);refine EA.2 ⟨F.va ⟨g4.1,g4.2,λ_ _=>OZ hcv0⟩ (W.va (λk hk=>g3 k (by rw[hkl];exact List.mem_append_left _ hk)) hvT),?_,g2⟩;omega
     refine Tl H6 (F.nd hN1) (by omega) (by omega) hr klK (by omega) hgood λst2 e2=>?_;by_cases hcv:BV (Ae T')=0
     ·rw[hcv]
      exact hk1 _ _ _ u' σ' st2 ((step1 _).trans hL) hcv hu' (H6.ext e2) (F.nd hN1) (F.ne hNe1) (by omega)
     ·exact hk3 _ _ _ st2 ((step1 _).trans hL) hcv
   ·rw[Option.map_some]
    refine Aa rfl ?_;show K 8 st1;exact hk2 _ 8 st1 ((step1 ⟨0,0,0⟩).trans (lks _ _ hl))
theorem step_way {i:Nat} {T T' u:Tb} {cur cur':List Hop} {a:Asg} (hu:atT T cur=some u) (hn:NdL (shT 1 T)) (hne:NeL (shT 1 T)) (hs:EE i T cur a= .ok (T',cur')):
  (∃u',atT T' cur'=some u')/\NdL (shT 1 T')/\NeL (shT 1 T')/\(Ae T').cnt<=(Ae T).cnt+a.keys.length+2+a.val.cnt/\(Ae T').sz<=(Ae T).sz+kz a.keys+a.val.sz+2:=by
 unfold EE Fg at hs;split at hs
 ·cases hs
 rename_i hp;split at hs
 ·cases hs
 rename_i T1 h hh;have hks:a.keys≠ []:=λe=>by
  have:C4 a=true:=by simpa using hp
  unfold C4 at this;rw[e]at this;simp at this
 obtain⟨u0,hu0⟩:∃u0,atT T (if a.tab=true then []else cur)=some u0:=by
  split
  ·exact⟨T,by cases T;rfl⟩
  ·exact⟨u,hu⟩
 obtain⟨W,hne1⟩:=KL _ 0 hu0 hne hh (Nat.le_refl _);obtain⟨F,_⟩:=KK hne1 hs;have w1:=W.cnt;have w2:=W.sz;have f1:=F.cnt;have f2:=F.sz;obtain⟨ks',kl,hkl⟩:∃ks' kl,a.keys=ks'++[kl]:=⟨a.keys.dropLast,a.keys.getLast hks,(List.dropLast_concat_getLast hks).symm⟩;have hgl:a.keys.getLastD []=kl:=by rw[hkl];simp
 have hdl:a.keys.dropLast=ks':=by rw[hkl];simp
 have hkz:kz a.keys=kz ks'+(kl.length+1):=by rw[hkl,kz_app];simp[kz]
 have hlen:a.keys.length=ks'.length+1:=by rw[hkl];simp
 rw[hdl]at w1 w2;rw[hgl]at f2;refine⟨?_,F.nd (W.nd hn),F.ne hne1,by omega,?_⟩
 ·obtain⟨t,hA⟩:=W.at_
  unfold B2 at hs;rw[hA]at hs;simp only at hs;split at hs
  ·rcases hl:Aj (a.keys.getLastD []) t.es with _ | ⟨eb,w | l | ⟨v,j⟩⟩<;>rw[hl]at hs<;>simp only[Except.ok.injEq,Prod.mk.injEq,reduceCtorEq]at hs
   ·obtain⟨rfl,rfl⟩:=hs
    have:=Fx (k2:=a.keys.getLastD []) (eb:=n0.eb) (e:= .lst [Ar n0 false]) hl;rw[if_pos rfl]at this;exact⟨_,GK (CT h hA) this rfl⟩
   ·obtain⟨rfl,rfl⟩:=hs
    exact⟨Ar n0 false,GK (CT h hA) (I2 hl) (by simp)⟩
  ·split at hs
   ·rcases hl:Aj (a.keys.getLastD []) t.es with _ | ⟨eb,w | l | ⟨v,j⟩⟩<;>rw[hl]at hs<;>simp only[Except.ok.injEq,Prod.mk.injEq,reduceCtorEq]at hs
    ·obtain⟨rfl,rfl⟩:=hs
     exact⟨_,IE (nu:=n0) hA hl⟩
    ·split at hs
     ·cases hs
     ·simp only[Except.ok.injEq,Prod.mk.injEq]at hs
      obtain⟨rfl,rfl⟩:=hs;exact⟨BF w,GJ (CT h hA) (I2 hl)⟩
   ·rename_i ht
    rcases hl:Aj (a.keys.getLastD []) t.es with _ | ⟨eb,e⟩<;>rw[hl]at hs<;>simp only[Except.ok.injEq,Prod.mk.injEq,reduceCtorEq]at hs
    obtain⟨rfl,rfl⟩:=hs;rw[if_neg ht]at hh hu0;have:=QS (g:=cur) (r:=[]) (u:=u) _ 0 hu (by rw[List.append_nil];exact hu) hne (by rw[List.append_nil];exact hh);obtain⟨r,u1,rfl,hu1,_⟩:=this;obtain⟨u',q1,_⟩:=Rf (x:=AM t (a.keys.getLastD []) n0.eb (.clo a.val i)) hu1 hA rfl;exact⟨u',q1⟩
 ·omega
def OM (T:Tb) (cur:List Hop) (a:Asg):List Stp:=match BE (λ_=>n0) a.tab 0 T (if a.tab=true then []else cur) a.keys.dropLast with
 | some (_,h)=>stp h++[.key (a.keys.getLastD [])]
 | none=>[]
theorem Lb {k:B8}:∀{es:List Kn} {eb:Nat} {e:En},Aj k es=some (eb,e)->BZ k e es=es
 | .mk k' eb' e'::r,eb,e,h=>by
  unfold Aj at h;unfold BZ;split at h
  ·rename_i hk;cases h;subst hk;rw[if_pos rfl]
  ·rename_i hk;rw[if_neg hk,Lb h]
theorem Qi:∀(h:List Hop) {T t:Tb},atT T h=some t->AA T h t=T
 | [],T,t,hA=>by cases T;cases hA;rfl
 | (k,none)::h,.mk b m hd es,t,hA=>by
  rw[atT]at hA;rw[AA];rcases hl:Aj k es with _ | ⟨eb,u | l | ⟨v,i⟩⟩<;>rw[hl]at hA<;>simp only at hA⊢<;>try (cases hA;done)
  ·rw[Qi h hA,Lb hl]
 | (k,some i)::h,.mk b m hd es,t,hA=>by
  rw[atT]at hA;rw[AA];rcases hl:Aj k es with _ | ⟨eb,u | l | ⟨v,j⟩⟩<;>rw[hl]at hA<;>simp only at hA⊢<;>try (cases hA;done)
  ·cases hi:l[i]? with
   | none=>simp[hi]at hA
   | some u=>
    rw[hi]at hA;simp only at hA⊢;have:l.set i u=l:=by
     obtain⟨hlt,hu⟩:=List.getElem?_eq_some_iff.1 hi;rw[<-hu];exact List.set_getElem_self hlt
    rw[Qi h hA,this,Lb hl]
end Go.TVF
section
namespace Go.TVF
open Go.IntKind(i64 u8)
abbrev EP:=Nat×Int
structure LmT where
 d:Int
 n:Int
def sl (s:B8) (i j:Nat):B8:=(s.take j).drop i
def nx (s:B8) (i:Nat):Except EP (Option (Int×B8)):=
 if i=s.length then .ok none
 else match nxt s (i:Int)with
  | .ok p=> .ok (some (p.1,p.2.1))
  | .error e=> .error (if e=4 then(s.length,4)else(i,e))
def see (s:B8) (i:Nat):Except EP (Int×B8):=
 match nx s i with
 | .error e=> .error e
 | .ok none=> .error (i,4)
 | .ok (some t)=> .ok t
def Pl (all:Bool) (k:Int):Bool:=decide (k=1) || (all&&(decide (k=2) || decide (k=3)))
def skF (s:B8) (all:Bool):Nat->Nat->Except EP Nat
 | 0,i=> .ok i
 | f+1,i=>match nx s i with
  | .error e=> .error e
  | .ok none=> .ok i
  | .ok (some (k,t))=>if Pl all k=true then skF s all f (i+t.length)else .ok i
def sk (s:B8) (all:Bool) (i:Nat):Except EP Nat:=skF s all (s.length+1-i) i
def bgn (L:LmT) (i d c:Nat):Except EP Nat:=if L.d<(d:Int)then .error (i,9)else if L.n<=(c:Int)then .error (i,10)else .ok (c+1)
def CK (s:B8) (i:Nat) (x:B8):Except EP Unit:=
 match see s i with
 | .error e=> .error e
 | .ok (k,t)=>if k≠4∨t≠x then .error (i,3)else .ok ()
def mrk (BD t:B8):Nd:= .mk 11 BD t [] []
def ent (ks:List Nd):Nd:= .mk 5 [] [] ks []
def HN (k:Int):Prop:=k=6∨k=5
instance (k:Int):Decidable (HN k):=inferInstanceAs (Decidable (k=6∨k=5))
def NM (s:B8):Bool:=decide (s≠ [])&&decide (twl Cm s=s.length)
def KR (k:Int) (t:B8):Option B8:=if k=5 then some (uL (unq t))else if k=6/\NM t=true then some t else none
mutual
def pvF (s:B8) (L:LmT):Nat->Nat->B8->Nat->Nat->Except EP (Nd×Vl×Nat×Nat)
 | 0,_,_,i,_=> .error (i,0)
 | f+1,d,BD,i,c=>match see s i with
  | .error e=> .error e
  | .ok (k,t)=>
   if HN k then
    (if (scS t).2=3 then .error (i,3)
    else match bgn L i d c with
     | .error e=> .error e
     | .ok c1=>if (scS t).2≠0 then .error (i,(scS t).2)else .ok (.mk 2 BD t [] [],.mk (scS t).1 [] [],i+t.length,c1))
   else if t=[91]then(match bgn L i d c with
    | .error e=> .error e
    | .ok c1=>match arF s L f d (i+1) (i+1) c1 with
     | .error e=> .error e
     | .ok (ks,xs,tl,j,c2)=> .ok (.mk 3 BD [91] ks tl,.mk scL xs [],j,c2))
   else if t=[123]then(match bgn L i d c with
    | .error e=> .error e
    | .ok c1=>match sk s false (i+1)with
     | .error e=> .error e
     | .ok i1=>match see s i1 with
      | .error e=> .error e
      | .ok (_,t1)=>if t1=[125]then .ok (.mk 4 BD [123] [] (sl s (i+1) i1++[125]),.mk scM [] [],i1+1,c1)
       else match inF s L f d [] (sl s (i+1) i1) i1 c1 with
        | .error e=> .error e
        | .ok (ks,xs,tl,j,c2)=> .ok (.mk 4 BD [123] ks tl,.mk scM [] xs,j,c2))
   else .error (i,3)
def arF (s:B8) (L:LmT):Nat->Nat->Nat->Nat->Nat->Except EP (List Nd×List Vl×B8×Nat×Nat)
 | 0,_,_,i,_=> .error (i,0)
 | f+1,d,l,i,c=>match sk s true i with
  | .error e=> .error e
  | .ok i1=>match see s i1 with
   | .error e=> .error e
   | .ok (_,t)=>if t=[93]then .ok ([],[],sl s l i1++[93],i1+1,c)
    else match pvF s L f (d+1) (sl s l i1) i1 c with
     | .error e=> .error e
     | .ok (n,x,i2,c2)=>match sk s true i2 with
      | .error e=> .error e
      | .ok i3=>match see s i3 with
       | .error e=> .error e
       | .ok (k3,t3)=>if t3=[93]then(match arF s L f d i2 i3 c2 with
         | .error e=> .error e
         | .ok (ks,xs,r)=> .ok (ent [n]::ks,x::xs,r))
        else if k3≠4∨t3≠ [44]then .error (i3,3)
        else match arF s L f d (i3+1) (i3+1) c2 with
         | .error e=> .error e
         | .ok (ks,xs,r)=> .ok (ent [n,mrk (sl s i2 i3) [44]]::ks,x::xs,r)
def inF (s:B8) (L:LmT):Nat->Nat->List B8->B8->Nat->Nat->Except EP (List Nd×List Fd×B8×Nat×Nat)
 | 0,_,_,_,i,_=> .error (i,0)
 | f+1,d,seen,BD,i,c=>match see s i with
  | .error e=> .error e
  | .ok (k,t)=>match KR k t with
   | none=> .error (i,3)
   | some key=>if 1024<key.length then .error (i,10)else if key∈seen then .error (i,8)
    else match sk s false (i+t.length)with
     | .error e=> .error e
     | .ok i3=>match CK s i3 [61]with
      | .error e=> .error e
      | .ok _=>match sk s false (i3+1)with
       | .error e=> .error e
       | .ok i5=>match pvF s L f (d+1) (sl s (i3+1) i5) i5 c with
        | .error e=> .error e
        | .ok (n,x,i6,c2)=>match sk s false i6 with
         | .error e=> .error e
         | .ok i7=>match see s i7 with
          | .error e=> .error e
          | .ok (k7,t7)=>if t7=[125]then .ok ([ent [.mk 6 BD t [] [],mrk (sl s (i+t.length) i3) [61],n]],[.mk key x],sl s i6 i7++[125],i7+1,c2)
           else if k7≠4∨t7≠ [44]then .error (i7,3)
           else match sk s false (i7+1)with
            | .error e=> .error e
            | .ok i9=>match inF s L f d (seen++[key]) (sl s (i7+1) i9) i9 c2 with
             | .error e=> .error e
             | .ok (ks,xs,r)=> .ok (ent [.mk 6 BD t [] [],mrk (sl s (i+t.length) i3) [61],n,mrk (sl s i6 i7) [44]]::ks,.mk key x::xs,r)
end
def dtF:Nat->B8->Nat->Option (List B8)
 | 0,_,_=>none
 | f+1,s,i=>
  match (if i<s.length/\(s.getD i 0=34∨s.getD i 0=39)then(if eE (unq (nT (nxt s (i:Int))))≠0 then none else some (uL (unq (nT (nxt s (i:Int)))),i+(nT (nxt s (i:Int))).length))
   else if twl Cm (s.drop i)=0 then none else some ((s.drop i).take (twl Cm (s.drop i)),i+twl Cm (s.drop i)):Option (B8×Nat))with
  | none=>none
  | some (k,j)=>if j=s.length then some [k]else if s.getD j 0≠46 then none else match dtF f s (j+1)with
   | none=>none
   | some ks=>some (k::ks)
def X2 (s:B8):Option (List B8):=dtF (s.length+1) s 0
def kxF (s:B8):Nat->Nat->Except EP Nat
 | 0,i=> .ok i
 | f+1,i=>match nx s i with
  | .error e=> .error e
  | .ok none=> .ok i
  | .ok (some (k,t))=>if HN k then kxF s f (i+t.length)else .ok i
def Gn (s:B8) (i:Nat):Except EP (List B8×Nat):=
 match see s i with
 | .error e=> .error e
 | .ok (k,t)=>if HN k then(match kxF s (s.length+1-(i+t.length)) (i+t.length)with
   | .error e=> .error e
   | .ok j=>match X2 (sl s i j)with
    | none=> .error (i,3)
    | some ks=> .ok (ks,j))
  else .error (i,3)
def EC (L:LmT) (i:Nat):Nat->Nat->Nat->Except EP Nat
 | 0,_,c=> .ok c
 | m+1,deep,c=>match bgn L i (deep-m) c with
  | .error e=> .error e
  | .ok c1=>EC L i m deep c1
def Ir (L:LmT) (i:Nat) (T:Tb) (cur:List Hop) (c:Nat) (tab elem:Bool) (ks:List B8):Except EP (Tb×List Hop×Nat×Nat):=
 if ks.any (λk=>decide (1024<k.length))=true then .error (i,10)
 else match EE 0 T cur ⟨tab,elem,ks,vlO⟩with
  | .error e=> .error (i,e)
  | .ok (T',cur')=>
   if tab=true then(match EC L i ((Ae T').cnt-(Ae T).cnt) (1+dpH cur') c with
    | .error e=> .error e
    | .ok c'=> .ok (T',cur',c',1+dpH cur'))
   else match EC L i ((Ae T').cnt-(Ae T).cnt-1) (OM T cur ⟨tab,elem,ks,vlO⟩).length c with
    | .error e=> .error e
    | .ok c'=> .ok (T',cur',c',1+(OM T cur ⟨tab,elem,ks,vlO⟩).length)
structure LnS where
 c:Nat
 T:Tb
 cur:List Hop
 kids:List Nd
 asg:List Asg
def Xv:Nd->Int | .mk k _ _ _ _=>k
def addIn:Nd->Nd->Nd | .mk k l t ks tl,n=> .mk k l t (ks++[n]) tl
def LM (kids:List Nd) (n:Nd):List Nd:=
 match kids.getLast? with
 | some x=>if Xv n=5/\Xv x=7 then kids.dropLast++[addIn x n]else kids++[n]
 | none=>kids++[n]
def Nv (s:B8) (L:LmT) (BD:B8) (i:Nat) (x:LnS):Except EP (LnS×Nat):=
 match see s (i+1)with
 | .error e=> .error e
 | .ok (_,t)=>match Gn s (if t=[91]then i+2 else i+1)with
  | .error e=> .error e
  | .ok (ks,j)=>match CK s j [93]with
   | .error e=> .error e
   | .ok _=>match (if t=[91]then CK s (j+1) [93]else .ok ():Except EP Unit)with
    | .error e=> .error e
    | .ok _=>match Ir L i x.T x.cur x.c true (decide (t=[91])) ks with
     | .error e=> .error e
     | .ok (T',cur',c',_)=> .ok (⟨c',T',cur',LM x.kids (.mk 7 BD (sl s i (if t=[91]then j+2 else j+1)) [] []),x.asg++[⟨true,decide (t=[91]),ks,vlO⟩]⟩,if t=[91]then j+2 else j+1)
def Ow (s:B8) (L:LmT) (F:Nat) (BD:B8) (i:Nat) (x:LnS):Except EP (LnS×Nat):=
 match Gn s i with
 | .error e=> .error e
 | .ok (ks,j)=>match Ir L i x.T x.cur x.c false false ks with
  | .error e=> .error e
  | .ok (T',cur',c',d)=>match sk s false j with
   | .error e=> .error e
   | .ok i2=>match CK s i2 [61]with
    | .error e=> .error e
    | .ok _=>match sk s false (i2+1)with
     | .error e=> .error e
     | .ok i4=>match pvF s L F d (sl s (i2+1) i4) i4 c' with
      | .error e=> .error e
      | .ok (n,v,i5,c'')=> .ok (⟨c'',T',cur',LM x.kids (ent [.mk 6 BD (sl s i j) [] [],mrk (sl s j i2) [61],n]),x.asg++[⟨false,false,ks,v⟩]⟩,i5)
def R3 (s:B8) (i:Nat):Except EP Nat:=
 match sk s false i with
 | .error e=> .error e
 | .ok i1=>match nx s i1 with
  | .error e=> .error e
  | .ok none=> .ok i1
  | .ok (some (k,t))=>if k=3 then(match nx s (i1+t.length)with
    | .error e=> .error e
    | .ok none=> .ok (i1+t.length)
    | .ok (some (k2,_))=>if k2≠2 then .error (i1+t.length,3)else .ok (i1+t.length))
   else if k≠2 then .error (i1,3)else .ok i1
def Ka (s:B8) (L:LmT) (F:Nat):Nat->Nat->LnS->Except EP (List Nd×B8×List Asg×LnS)
 | 0,i,_=> .error (i,0)
 | f+1,i,x=>match sk s true i with
  | .error e=> .error e
  | .ok i1=>match nx s i1 with
   | .error e=> .error e
   | .ok none=> .ok (x.kids,s.drop i,x.asg,x)
   | .ok (some (k,t))=>match (if t=[91]then Nv s L (sl s i i1) i1 x else if HN k then Ow s L F (sl s i i1) i1 x else .error (i1,3):Except EP (LnS×Nat))with
    | .error e=> .error e
    | .ok (x',j)=>match R3 s j with
     | .error e=> .error e
     | .ok _=>Ka s L F f j x'
def Ny (s:B8):Nat:=2*s.length+4
def CP (s:B8) (L:LmT):Except EP (List Nd×B8×List Asg×LnS):=
 match bgn L 0 1 0 with
 | .error e=> .error e
 | .ok c=>Ka s L (Ny s) (s.length+1) 0 ⟨c,T00,[],[],[]⟩
theorem CJ {s:B8} {i:Nat} {k:Int} {t:B8} (hi:i<=s.length) (h:nx s i= .ok (some (k,t))):i<s.length/\0<t.length/\i+t.length<=s.length/\t=sl s i (i+t.length)/\∃j,Pm s i= .ok (k,j)/\j=i+t.length:=by
 unfold nx at h;split at h
 ·cases h
 ·rename_i hne
  split at h
  ·rename_i p hp
   simp only[Except.ok.injEq,Option.some.injEq,Prod.mk.injEq]at h;obtain⟨rfl,rfl⟩:=h;unfold nxt at hp;rw[if_neg (by omega),if_neg (by omega)]at hp;split at hp
   ·cases hp
   ·rename_i q hq
    simp only[Except.ok.injEq]at hp;subst hp;rw[Int.toNat_natCast]at hq;have hlt:i<s.length:=by omega
    have:=Tg hlt hq;simp only[Int.toNat_natCast];have e:((s.drop i).take (q.2-i)).length=q.2-i:=by rw[List.length_take,List.length_drop];omega
    refine⟨hlt,by omega,by omega,?_,q.2,hq,by omega⟩;rw[e];unfold sl;rw[List.drop_take,show i+(q.2-i)-i=q.2-i from by omega]
  ·cases h
theorem KA {s:B8} {i:Nat} {p:Int×B8} (h:see s i= .ok p):nx s i= .ok (some p):=by
 unfold see at h;split at h
 ·cases h
 ·cases h
 ·rename_i t ht
  simp only[Except.ok.injEq]at h;subst h;exact ht
theorem nx_end (s:B8):nx s s.length= .ok none:=by unfold nx;rw[if_pos rfl]
theorem nx_none {s:B8} {i:Nat} (h:nx s i= .ok none):i=s.length:=by
 unfold nx at h;split at h
 ·assumption
 ·split at h
  ·cases h
  ·cases h
theorem skF_le {s:B8} {all:Bool}:∀(f i j:Nat),i<=s.length->skF s all f i= .ok j->i<=j/\j<=s.length
 | 0,i,j,hi,h=>by
  unfold skF at h;cases h;exact⟨Nat.le_refl _,hi⟩
 | f+1,i,j,hi,h=>by
  unfold skF at h;split at h
  ·cases h
  ·cases h;exact⟨Nat.le_refl _,hi⟩
  ·rename_i k t hn
   have:=CJ hi hn;split at h
   ·have:=skF_le f _ j (by omega) h
    omega
   ·cases h;exact⟨Nat.le_refl _,hi⟩
theorem Bo {s:B8} {all:Bool} {i j:Nat} (hi:i<=s.length) (h:sk s all i= .ok j):i<=j/\j<=s.length:=skF_le _ i j hi h
theorem Jp {s:B8} {all:Bool} {i:Nat} (hi:i<=s.length):sk s all i=match nx s i with
  | .error e=> .error e
  | .ok none=> .ok i
  | .ok (some (k,t))=>if Pl all k=true then sk s all (i+t.length)else .ok i:=by
 have more:∀(f g i:Nat),i<=s.length->s.length+1-i<=f->s.length+1-i<=g->skF s all f i=skF s all g i:=by
  intro f;induction f with
  | zero=>intro g i hi h1 h2;omega
  | succ f ih=>
   intro g i hi h1 h2;obtain⟨g,rfl⟩:∃g',g=g'+1:=⟨g-1,by omega⟩;rw[skF,skF];cases hn:nx s i with
   | error e=>rfl
   | ok o=>cases o with
    | none=>rfl
    | some p=>
     obtain⟨k,t⟩:=p;have:=CJ hi hn;simp only;split
     ·exact ih g _ (by omega) (by omega) (by omega)
     ·rfl
 unfold sk
 conv=>lhs;rw[show s.length+1-i=(s.length-i)+1 from by omega]
 rw[skF];cases hn:nx s i with
 | error e=>rfl
 | ok o=>cases o with
  | none=>rfl
  | some p=>
   obtain⟨k,t⟩:=p;have:=CJ hi hn;simp only;split
   ·exact more _ _ _ (by omega) (by omega) (by omega)
   ·rfl
theorem YM {s:B8} {all:Bool}:∀(n i j:Nat),s.length-i<=n->i<=s.length->sk s all i= .ok j->sk s all j= .ok j/\∀k t,nx s j= .ok (some (k,t))->Pl all k=false
 | n,i,j,hn,hi,h=>by
  rw[Jp hi]at h;split at h
  ·cases h
  ·rename_i hx
   cases h;exact⟨by rw[Jp hi,hx],λk t hk=>by rw[hx]at hk;cases hk⟩
  ·rename_i k t hx
   have ht:=CJ hi hx;split at h
   ·cases n with
    | zero=>omega
    | succ n=>exact YM n _ j (by omega) (by omega) h
   ·rename_i htr
    cases h;exact⟨by rw[Jp hi,hx];simp only;rw[if_neg htr],λk2 t2 hk=>by rw[hx]at hk;cases hk;simpa using htr⟩
end Go.TVF
end
namespace Go.TVF
open Go.IntKind(i64 u8)
open Go Go.Proofs
section
abbrev tyFail:Nat:=163
def SI (p:EP):TV:= .iface tyFail (.agg [.int .i64 (p.1:Nat),.int .i64 p.2])
def Fl (E:TV->St->Prop) (st0:St) (p:EP):Prop:=∀st',Ag st0 st'->E (SI p) st'
def sbC (s:B8) (L:LmT) (y:Int×Int×Int) (i l c:Nat) (tl:List TV):List TV:=
 .str s:: .int .i64 L.d:: .int .i64 L.n:: .int .i64 y.1:: .int .i64 y.2.1:: .int .i64 y.2.2:: .int .i64 (i:Nat):: .int .i64 (l:Nat):: .int .i64 (c:Nat)::tl
structure PSB (b:Nat) (s:B8) (L:LmT) (y:Int×Int×Int) (i l c:Nat) (tl:List TV) (st:St):Prop where
 bx:st.box b= .cells (sbC s L y i l c tl)
 lt:b<st.nb
 le:l<=i
 hi:i<=s.length
theorem PSB.ext {b:Nat} {s:B8} {L:LmT} {y:Int×Int×Int} {i l c:Nat} {tl:List TV} {st st':St} (h:PSB b s L y i l c tl st) (e:Ag st st'):PSB b s L y i l c tl st':=
 ⟨(e.box b h.lt).trans h.bx,Nat.lt_of_lt_of_le h.lt e.nb,h.le,h.hi⟩
theorem Ay {b:Nat} {st:St} {l:List TV} (h:st.box b= .cells l) (j:Nat) {x:TV} (hx:l[j]? =some x):Af st [] (.t (.box b j)) 0=some x:=by
 simp[Af,h,hx]
theorem Mk {st:St} {b j:Nat} {l:List TV} {x:TV} {k:St->Prop} (h:st.box b= .cells l) (hj:j<l.length) (hk:k (st.put b (.cells (l.set j x)))):stB st (.box b j) [x] k:=
 ⟨l,h,by simp;omega,hk⟩
section
variable {E:TV->St->Prop} {b:Nat} {s:B8} {L:LmT} {y:Int×Int×Int} {i l c:Nat} {tl:List TV} {st0 st:St}
theorem fail_okX {p:EP} {K:St->Prop} (e0:Ag st0 st) (he:Fl E st0 p):Bz E PR Ai [.box b 0,.int .i64 (p.1:Nat),.int .i64 p.2] [] st K:=
 LG E b _ _ st K (he st e0)
theorem Bs {a:Int} {n:Nat} {e:Int} {K:St->Prop} (ha:a=(n:Nat)) (e0:Ag st0 st) (he:Fl E st0 (n,e)):Bz E PR Ai [.box b 0,.int .i64 a,.int .i64 e] [] st K:=by
 subst ha;exact fail_okX (p:=(n,e)) e0 he
theorem IU {K:Int->B8->Int->Bool->St->Prop} (H:PSB b s L y i l c tl st) (hl:s.length<=1000000) (e0:Ag st0 st) (he:∀p,nx s i= .error p->Fl E st0 p)
  (h0:nx s i= .ok none->K 0 [] 0 false st) (h1:∀k t st',nx s i= .ok (some (k,t))->Ag st st'->K k t (i:Nat) true st'):
  Bz E PR BB [.box b 0] [.agg [.int .i64,.str,.int .i64],.one (.bool)] st K:=by
 refine LD E b st K (Ac (Ay H.bx 6 rfl) (Ac (Ay H.bx 0 rfl) (Ab (λg=>?_) λg=>?_)))
 ·exact h0 (by unfold nx;rw[if_pos (by omega)])
 have hne:i≠s.length:=by omega
 refine Ac (Ay H.bx 0 rfl) (Ac (Ay H.bx 6 rfl) (CallT.x (YY (by omega) λst1 e1=>?_)));have H1:=H.ext e1;have e01:=e0.trans e1;cases hn:nxt s (i:Int)with
 | error e=>
  have hx:nx s i= .error (if e=4 then(s.length,4)else(i,e)):=by unfold nx;rw[if_neg hne,hn]
  have hE:eE (nxt s (i:Int))=e:=by rw[hn];rfl
  have hez:e≠0:=by
   unfold nxt at hn;have:=H.hi;rw[if_neg (by omega),if_neg (by omega)]at hn;split at hn
   ·rename_i er her
    cases hn;exactλh=>Qa s (Int.toNat (i:Int)) (by rw[her,h])
   ·cases hn
  rw[<-hn,hE];by_cases h4:e=4
  ·rw[if_pos h4]at hx
   subst h4;exact Ab (λ_=>Ac (Ay H1.bx 0 rfl) (Bs rfl e01 (he _ hx))) λh=>absurd rfl h
  ·rw[if_neg h4]at hx
   exact Ab (λh=>absurd h h4) λ_=>Ab (λ_=>Ac (Ay H1.bx 6 rfl) (Bs rfl e01 (he _ hx))) λh=>absurd (Decidable.not_not.1 h) hez
 | ok p=>
  have hx:nx s i= .ok (some (p.1,p.2.1)):=by unfold nx;rw[if_neg hne,hn]
  have hp:p.2.2=(i:Int):=by
   unfold nxt at hn
   repeat' split at hn
   all_goals first | (cases hn;done) | (cases hn;rfl)
  refine Ab (λh=>absurd h (by simp[eE])) λ_=>Ab (λh=>absurd rfl h) λ_=>?_;have:=h1 p.1 p.2.1 st1 hx e1;simp only[nK,nT,nA];rw[hp];exact this
theorem F8 {K:Int->B8->Int->St->Prop} (H:PSB b s L y i l c tl st) (hl:s.length<=1000000) (e0:Ag st0 st) (he:∀p,see s i= .error p->Fl E st0 p)
  (h1:∀k t st',see s i= .ok (k,t)->Ag st st'->K k t (i:Nat) st'):
  Bz E PR Bf [.box b 0] [.agg [.int .i64,.str,.int .i64]] st K:=by
 refine Me E b st K (IU H hl e0 (λp hp=>he p (by unfold see;rw[hp])) (λh=>Ao (λ_=>?_) λh=>(by cases h)) λk t st' h e=>Ao (λh=>(by cases h)) λ_=>h1 k t st' (by unfold see;rw[h]) e);exact Ac (Ay H.bx 6 rfl) (Bs rfl e0 (he _ (by unfold see;rw[h])))
theorem PSB.setAt (H:PSB b s L y i l c tl st) {j:Nat} (h1:l<=j) (h2:j<=s.length):PSB b s L y j l c tl (st.put b (.cells ((sbC s L y i l c tl).set 6 (.int .i64 (j:Nat))))):=
 ⟨by simp[St.put,sbC],H.lt,h1,h2⟩
theorem PSB.setLast (H:PSB b s L y i l c tl st) {j:Nat} (h1:j<=i):PSB b s L y i j c tl (st.put b (.cells ((sbC s L y i l c tl).set 7 (.int .i64 (j:Nat))))):=
 ⟨by simp[St.put,sbC],H.lt,h1,H.hi⟩
theorem PSB.setC (H:PSB b s L y i l c tl st) (j:Nat):PSB b s L y i l j tl (st.put b (.cells ((sbC s L y i l c tl).set 8 (.int .i64 (j:Nat))))):=
 ⟨by simp[St.put,sbC],H.lt,H.le,H.hi⟩
theorem StX.out {S:Nat->Prop} {a b c:St} (e:Ag a b) (h:StX S b c) (hs:∀i,S i->a.nb<=i):Ag a c:=h.ext e hs
theorem Rg {n:Int} {j:Nat} {k:St->Prop} (H:PSB b s L y i l c tl st) (hn:n=(j:Nat)) (h1:l<=j) (h2:j<=s.length) (hk:∀st',PSB b s L y j l c tl st'->StX (·=b) st st'->k st'):stB st (.box b 6) [.int .i64 n] k:=by
 subst hn;exact Mk H.bx (by simp[sbC]) (hk _ (H.setAt h1 h2) (StX.put (S:=(·=b)) (i:=b) rfl _))
def atM (b:Nat) (s:B8) (st:St):Nat:=match Af st [] (.t (.box b 6)) 0 with | some (.int _ n)=>s.length-n.toNat | _=>0
theorem IF (H:PSB b s L y i l c tl st):atM b s st=s.length-i:=by
 unfold atM;rw[Ay H.bx 6 (x:= .int .i64 (i:Nat)) rfl];simp
theorem Eb {all:Bool} {K:St->Prop} (H:PSB b s L y i l c tl st) (hl:s.length<=1000000) (e0:Ag st0 st) (hb:st0.nb<=b) (he:∀p,sk s all i= .error p->Fl E st0 p)
  (hk:∀j st',sk s all i= .ok j->PSB b s L y j l c tl st'->StX (·=b) st st'->K st'):
  Bz E PR AN [.box b 0,.bool all] [] st K:=by
 refine LC E b all st K ⟨λv a st1=> .box b 0=v/\all=a/\∃j,PSB b s L y j l c tl st1/\StX (·=b) st st1/\sk s all i=sk s all j,λ_ _ st1=>atM b s st1,⟨rfl,rfl,i,H,StX.refl _ _,rfl⟩,?_⟩;rintro _ _ st1 ⟨rfl,rfl,j,H1,x1,hs⟩;have e1:Ag st0 st1:=x1.out e0 λk hk=>by rw[hk];exact hb
 have hst:=Jp (all:=all) H1.hi;rw[<-hs]at hst;refine IU H1 hl e1 (λp hp=>he p (by rw[hst,hp])) (λh=>Ao (λ_=>hk j st1 (by rw[hst,h]) H1 x1) λh=>(by cases h)) λk t st2 h e2=>Ao (λh=>(by cases h)) λ_=>?_;have H2:=H1.ext e2;have x2:=x1.trans (StX.of e2);have ht:=CJ H1.hi h;have hle:=H1.le;rw[h]at hst;simp only at hst;have stop:Pl all k=false->K st2:=λhf=>hk j st2 (by rw[hst,if_neg (by rw[hf];simp)]) H2 x2;have go:Pl all k=true->∀{k':St->Prop},(∀st3,(TV.box b 0=TV.box b 0/\all=all/\∃j,PSB b s L y j l c tl st3/\StX (·=b) st st3/\sk s all i=sk s all j)/\atM b s st3<atM b s st1->k' st3)->stB st2 (.box b 6) [.int .i64 (IntKind.wrap .i64 ((j:Int)+(t.length:Int)))] k':=λhf k' hk'=>by
  refine Rg H2 (by rw[Ah _ (by omega) (by omega)];omega:_=((j+t.length:Nat):Int)) (by omega) (by omega) λst3 H3 x3=>hk' st3 ⟨⟨rfl,rfl,_,H3,x2.trans x3,?_⟩,?_⟩
  ·rw[hst,if_pos hf]
  ·rw[IF H3,IF H1];omega
 refine Ab (λg1=>Ao (λga=>stop ?_) λga=>Ab (λg2=>Ab (λg3=>stop ?_) λg3=>?_) λg2=>?_) λg1=>?_
 ·unfold Pl;simp only[Bool.not_eq_true']at ga;simp[g1,ga]
 ·unfold Pl;simp[g1,g2,g3]
 ·refine Aa rfl (Aa rfl (Ac (Ay H2.bx 6 rfl) (Aa rfl (Aa rfl (go ?_ λst3 h=>h)))))
  have ga':all=true:=by simpa using ga
  have g3':k=3:=Decidable.not_not.1 g3;unfold Pl;rw[ga',g3'];rfl
 ·refine Aa rfl (Aa rfl (Ac (Ay H2.bx 6 rfl) (Aa rfl (Aa rfl (go ?_ λst3 h=>h)))))
  have ga':all=true:=by simpa using ga
  have g2':k=2:=Decidable.not_not.1 g2;unfold Pl;rw[ga',g2'];rfl
 ·refine Aa rfl (Aa rfl (Ac (Ay H2.bx 6 rfl) (Aa rfl (Aa rfl (go ?_ λst3 h=>h)))))
  have g1':k=1:=Decidable.not_not.1 g1;unfold Pl;rw[g1'];rfl
theorem U2 {K:B8->St->Prop} (H:PSB b s L y i l c tl st) (hk:∀st',PSB b s L y i i c tl st'->StX (·=b) st st'->K (sl s l i) st'):
  CallT PR Di [.box b 0] [.one (.str)] st K:=by
 have hle:=H.le;have hhi:=H.hi;refine LE b st K (Ac (Ay H.bx 0 rfl) (Ac (Ay H.bx 7 rfl) (Ac (Ay H.bx 6 rfl) ⟨⟨by omega,by omega,by omega⟩,Ac (Ay H.bx 6 rfl) ?_⟩)));exact Mk H.bx (by simp[sbC]) (hk _ (H.setLast (Nat.le_refl _)) (StX.put (S:=(·=b)) (i:=b) rfl _))
theorem Hk {kind:Int} {N:Int} {n:Nat} {K:Int->B8->B8->TV->B8->St->Prop} (H:PSB b s L y i l c tl st) (hN:N=(n:Nat)) (hl:s.length<=1000000) (hn:i+n<=s.length)
  (hk:∀st',PSB b s L y (i+n) (i+n) c tl st'->StX (·=b) st st'->K kind (sl s l i) (sl s i (i+n)) .nilSlice [] st'):
  CallT PR Aw [.box b 0,.int .i64 kind,.int .i64 N] [.agg [.int .i64,.str,.str,.tv,.str]] st K:=by
 subst hN;have w:IntKind.wrap .i64 ((i:Int)+(n:Int))=((i+n:Nat):Int):=by rw[Ah _ (by omega) (by omega)];omega
 refine LA b kind n st K (Ac (Ay H.bx 0 rfl) (Ac (Ay H.bx 6 rfl) (Ac (Ay H.bx 6 rfl) ?_)));show(0<=(i:Int)/\(i:Int)<=IntKind.wrap .i64 ((i:Int)+(n:Int))/\IntKind.wrap .i64 ((i:Int)+(n:Int))<=(s.length:Int))/\_;rw[w];refine⟨⟨by omega,by omega,by omega⟩,U2 H λst1 H1 x1=>⟨Ay H1.bx 6 rfl,Ay H1.bx 6 rfl,Ay H1.bx 0 rfl,Ac (Ay H1.bx 6 rfl) ?_⟩⟩;refine Am (Mk (j:=6) H1.bx (by simp[sbC]) ?_);rw[w];have H2:=H1.setAt (j:=i+n) (by omega) hn;have x2:StX (·=b) st1 _:=StX.put (S:=(·=b)) (i:=b) rfl (.cells ((sbC s L y i i c tl).set 6 (.int .i64 ((i+n:Nat):Int))));refine Ac (Ay H2.bx 6 rfl) ?_;exact Mk H2.bx (by simp[sbC]) (hk _ (H2.setLast (Nat.le_refl _)) ((x1.trans x2).trans (StX.put (S:=(·=b)) (i:=b) rfl _)))
theorem IV {A D:Int} {n d:Nat} {K:St->Prop} (H:PSB b s L y i l c tl st) (hA:A=(n:Nat)) (hD:D=(d:Nat)) (hc:c<=1000000000) (e0:Ag st0 st) (he:∀p,bgn L n d c= .error p->Fl E st0 p)
  (hk:∀st',bgn L n d c= .ok (c+1)->PSB b s L y i l (c+1) tl st'->StX (·=b) st st'->K st'):
  Bz E PR AZ [.box b 0,.int .i64 A,.int .i64 D] [] st K:=by
 subst hA hD;have w:IntKind.wrap .i64 ((c:Int)+1)=((c+1:Nat):Int):=by rw[Ah _ (by omega) (by omega)];omega
 refine Kg E b n d st K (Ac (Ay H.bx 1 rfl) (Ab (λg=>?_) λg=>?_))
 ·exact Bs rfl e0 (he _ (by unfold bgn;rw[if_pos g]))
 ·refine Ac (Ay H.bx 8 rfl) (Ac (Ay H.bx 2 rfl) (Ab (λg2=>?_) λg2=>?_))
  ·exact Bs rfl e0 (he _ (by unfold bgn;rw[if_neg g,if_pos g2]))
  ·refine Ac (Ay H.bx 8 rfl) ?_
   refine Mk H.bx (by simp[sbC]) ?_;rw[w];exact hk _ (by unfold bgn;rw[if_neg g,if_neg g2]) (H.setC _) (StX.put (S:=(·=b)) (i:=b) rfl _)
theorem G5 {x:B8} {K:Int->B8->B8->TV->B8->St->Prop} (H:PSB b s L y i l c tl st) (hl:s.length<=1000000) (e0:Ag st0 st) (hb:st0.nb<=b) (he:∀p,CK s i x= .error p->Fl E st0 p)
  (hk:∀st',CK s i x= .ok ()->i+x.length<=s.length->PSB b s L y (i+x.length) (i+x.length) c tl st'->StX (·=b) st st'->K 11 (sl s l i) x .nilSlice [] st'):
  Bz E PR Bp [.box b 0,.str x] [.agg [.int .i64,.str,.str,.tv,.str]] st K:=by
 refine Ke E b x st K (F8 H hl e0 (λp hp=>he p (by unfold CK;rw[hp])) λk t st1 hs e1=>Ab (λg=>?_) λg=>Ab (λg2=>?_) λg2=>?_)
 ·exact Ac (Ay (H.ext e1).bx 6 rfl) (Bs rfl (e0.trans e1) (he _ (by unfold CK;rw[hs];simp only;rw[if_pos (.inl g)])))
 ·exact Ac (Ay (H.ext e1).bx 6 rfl) (Bs rfl (e0.trans e1) (he _ (by unfold CK;rw[hs];simp only;rw[if_pos (.inr g2)])))
 ·have hx:t=x:=Decidable.not_not.1 g2
  subst hx;have ht:=CJ H.hi (KA hs);refine CallT.x (Hk (H.ext e1) rfl hl ht.2.2.1 λst2 H2 x2=>Aa rfl ?_);rw[<-ht.2.2.2.1];exact hk st2 (by unfold CK;rw[hs];simp only;rw[if_neg (λh=>h.elim g g2)]) ht.2.2.1 H2 ((StX.of e1).trans x2)
theorem KB {K:B8->St->Prop} (H:PSB b s L y i l c tl st) (hl:s.length<=1000000) (hi:i+1<=s.length)
  (hk:∀st',PSB b s L y (i+1) (i+1) c tl st'->StX (·=b) st st'->K (sl s l i++sl s i (i+1)) st'):
  CallT PR B9 [.box b 0] [.one (.str)] st K:=by
 have hle:∀i j:Nat,(sl s i j).length<=s.length:=λi j=>by unfold sl;rw[List.length_drop,List.length_take];omega
 have h1:=hle l i;have h2:=hle i (i+1);exact Jg b st K (Hk (n:=1) H rfl hl hi λst1 H1 x1=>Aa rfl ⟨by omega,hk st1 H1 x1⟩)
end
end
theorem sl_len (s:B8) (i j:Nat):(sl s i j).length<=s.length:=by unfold sl;rw[List.length_drop,List.length_take];omega
def dt1 (s:B8) (i:Nat):Option (B8×Nat):=
 if i<s.length/\(s.getD i 0=34∨s.getD i 0=39)then(if eE (unq (nT (nxt s (i:Int))))≠0 then none else some (uL (unq (nT (nxt s (i:Int)))),i+(nT (nxt s (i:Int))).length))
 else if twl Cm (s.drop i)=0 then none else some ((s.drop i).take (twl Cm (s.drop i)),i+twl Cm (s.drop i))
def dt (s:B8) (i:Nat):Option (List B8):=dtF (s.length+1-i) s i
theorem KU (f:Nat) (s:B8) (i:Nat):dtF (f+1) s i=match dt1 s i with
  | none=>none
  | some (k,j)=>if j=s.length then some [k]else if s.getD j 0≠46 then none else match dtF f s (j+1)with
   | none=>none
   | some ks=>some (k::ks):=by rw[dtF];rfl
theorem nT_len {s:B8} {i:Nat} (hi:i<s.length):i+(nT (nxt s (i:Int))).length<=s.length:=by
 cases hn:nxt s (i:Int)with
 | error e=>simp only[nT,List.length_nil];omega
 | ok p=>
  have hx:nx s i= .ok (some (p.1,p.2.1)):=by unfold nx;rw[if_neg (by omega),hn]
  exact(CJ (by omega) hx).2.2.1
theorem unq_nil:eE (unq [])≠0:=by decide
theorem Ox {s:B8} {i j:Nat} {k:B8} (hi:i<=s.length) (h:dt1 s i=some (k,j)):i<j/\j<=s.length:=by
 unfold dt1 at h;split at h
 ·rename_i hq
  split at h
  ·cases h
  ·rename_i hu
   simp only[Option.some.injEq,Prod.mk.injEq]at h;have h1:=nT_len hq.1;have h2:0<(nT (nxt s (i:Int))).length:=by
    apply List.length_pos_iff.2;intro h0;rw[h0]at hu;exact hu unq_nil
   omega
 ·split at h
  ·cases h
  ·rename_i hz
   simp only[Option.some.injEq,Prod.mk.injEq]at h;have:=Ko Cm (s.drop i);rw[List.length_drop]at this;omega
theorem dt_step {s:B8} {i:Nat} (hi:i<=s.length):dt s i=match dt1 s i with
  | none=>none
  | some (k,j)=>if j=s.length then some [k]else if s.getD j 0≠46 then none else match dt s (j+1)with
   | none=>none
   | some ks=>some (k::ks):=by
 have more:∀(f g i:Nat),i<=s.length->s.length+1-i<=f->s.length+1-i<=g->dtF f s i=dtF g s i:=by
  intro f;induction f with
  | zero=>intro g i hi h1 h2;omega
  | succ f ih=>
   intro g i hi h1 h2;obtain⟨g,rfl⟩:∃g',g=g'+1:=⟨g-1,by omega⟩;rw[KU,KU];cases hd:dt1 s i with
   | none=>rfl
   | some p=>
    obtain⟨k,j⟩:=p;have:=Ox hi hd;simp only;split
    ·rfl
    ·split
     ·rfl
     ·rw[ih g (j+1) (by omega) (by omega) (by omega)]
 unfold dt
 conv=>lhs;rw[show s.length+1-i=(s.length-i)+1 from by omega]
 rw[KU];cases hd:dt1 s i with
 | none=>rfl
 | some p=>
  obtain⟨k,j⟩:=p;have:=Ox hi hd;simp only;split
  ·rfl
  ·split
   ·rfl
   ·rw[more (s.length-i) (s.length+1-(j+1)) (j+1) (by omega) (by omega) (by omega)]
theorem bare_one (c:UInt8):(decide (([c]:B8)≠ [])&&decide (twl Cm [c]=[c].length))=Cm (c.toNat:Int):=by
 have:twl Cm [c]=if Cm (c.toNat:Int)then 1 else 0:=by
  have:=IQ Cm [c] 0 (by simp);simp[twl]
 rw[this];cases Cm (c.toNat:Int)<;>simp
set_option maxHeartbeats 1000000 in
theorem AaD {t:B8} {st:St} {K:TV->Bool->St->Prop} (hl:t.length<=1000000)
  (hk1:∀ks v st',X2 t=some ks->Own st.nt 1 st' v ks.length (ks.map TV.str)->Ag st st'->K v true st') (hk2:X2 t=none->∀st',Ag st st'->K .nilSlice false st'):
  CallT PR EX [.str t] [.one (.tv),.one (.bool)] st K:=by
 have hd0:X2 t=dt t 0:=rfl;refine Pa t st K ⟨λo i s1 st1=>t=s1/\∃(j:Nat) (acc:List B8),i=(j:Nat)/\j<=t.length/\acc.length<=j/\Own st.nt 1 st1 o acc.length (acc.map TV.str)/\Ag st st1/\X2 t=(dt t j).map (acc++·),λ_ i _ _=>t.length+1-i.toNat,
  ⟨rfl,0,[],rfl,by omega,by simp,Own.nil _ _ _,Ag.refl _,by rw[hd0];cases dt t 0<;>simp⟩,?_⟩
 rintro o _ _ st1 ⟨rfl,j,acc,rfl,hj,hac,ho,e1,hdk⟩;rw[dt_step hj]at hdk;have app:∀{k:B8} {st2:St} {K':TV->St->Prop},Ag st1 st2->(∀v st3,Ag st st3->Own st.nt 1 st3 v (acc++[k]).length ((acc++[k]).map TV.str)->K' v st3)->Bn 9 1 16 o 1 [.str k] st2 K':=λ{k st2 K'} e2 hk=>by
  refine NN (e1.trans e2) rfl (ho.ext e2) (by omega) (λh=>by cases h) λv st3 e3 hb3 ho3=>hk v st3 e3 ?_;rw[List.length_append,List.map_append];exact ho3
 have fin1:∀{st2:St},Ag st1 st2->dt1 t j=none->K .nilSlice false st2:=λ{st2} e2 h=>by
  rw[h]at hdk;exact hk2 (by rw[hdk];rfl) _ (e1.trans e2)
 refine⟨λo' i' s1 st'=>t=s1/\∃(j':Nat) (acc':List B8),i'=(j':Nat)/\j<=j'/\j'<t.length/\acc'.length<=j'+1/\Own st.nt 1 st' o' acc'.length (acc'.map TV.str)/\Ag st st'/\X2 t=(dt t (j'+1)).map (acc'++·),?_,?_⟩
 ·refine⟨λo' i' s1 st'=>t=s1/\∃(k:B8) (j':Nat),dt1 t j=some (k,j')/\i'=(j':Nat)/\Own st.nt 1 st' o' (acc++[k]).length ((acc++[k]).map TV.str)/\Ag st st',?_,?_⟩
  ·refine⟨λb s1 o' i' f' st'=>t=s1/\o=o'/\(j:Int)=i'/\(j:Int)=f'/\st1=st'/\b=decide (j<t.length/\(t.getD j 0=34∨t.getD j 0=39)),?_,?_⟩
   ·refine Ab (λg=>⟨⟨by omega,g⟩,Ab (λg1=>?_) λg1=>⟨⟨by omega,g⟩,?_⟩⟩) λg=>?_
    ·refine⟨rfl,rfl,rfl,rfl,rfl,(decide_eq_true ⟨by omega,.inl ?_⟩).symm⟩
     exact(u8i (k:=34)).1 g1
    ·refine⟨rfl,rfl,rfl,rfl,rfl,decide_eq_decide.2 ⟨λh=>⟨by omega,.inr ((u8i (k:=39)).1 h)⟩,λh=>?_⟩⟩
     rcases h.2 with h | h
     ·exact absurd ((u8i (k:=34)).2 h) g1
     ·exact(u8i (k:=39)).2 h
    ·exact⟨rfl,rfl,rfl,rfl,rfl,(decide_eq_false (λh=>by omega)).symm⟩
   ·rintro _ _ _ _ _ _ ⟨rfl,rfl,rfl,rfl,rfl,rfl⟩
    refine Ab (λg=>YY (by omega) λst2 e2=>Tf ?_ λst3 e3=>?_) λg=>?_
    ·have:=nT_len g.1;omega
    ·have e13:=e2.trans e3
     refine Ab (λg2=>?_) λg2=>?_
     ·exact fin1 e13 (by unfold dt1;rw[if_pos g,if_pos g2])
     ·have hd1:dt1 t j=some (uL (unq (nT (nxt t (j:Int)))),j+(nT (nxt t (j:Int))).length):=by unfold dt1;rw[if_pos g,if_neg g2]
      have hle:=Ox hj hd1;exact app e13 λv st4 e4 ho4=>⟨rfl,_,_,hd1,by rw[Ah _ (by omega) (by omega)];omega,ho4,e4⟩
    ·--a bare key
     have htl:=Ko Cm (t.drop j);rw[List.length_drop]at htl;refine⟨λi' s1 o' f' st'=>t=s1/\o=o'/\(j:Int)=f'/\i'=((j+twl Cm (t.drop j):Nat):Int)/\Ag st1 st',?_,?_⟩
     ·refine⟨λi' s1 o' f' st'=>t=s1/\o=o'/\(j:Int)=f'/\∃m:Nat,i'=(m:Nat)/\j<=m/\m<=t.length/\m+twl Cm (t.drop m)=j+twl Cm (t.drop j)/\Ag st1 st',λi' _ _ _ _=>t.length-i'.toNat,⟨rfl,rfl,rfl,j,rfl,Nat.le_refl _,hj,rfl,Ag.refl _⟩,?_⟩
      rintro _ _ _ _ st2 ⟨rfl,rfl,rfl,m,rfl,hm1,hm2,hm3,e2⟩;refine⟨λs1 o' i' f' st'=>t=s1/\o=o'/\(m:Int)=i'/\(j:Int)=f'/\Ag st1 st'/\m<t.length/\m+1+twl Cm (t.drop (m+1))=j+twl Cm (t.drop j),?_,?_⟩
      ·have w1:m<t.length->IntKind.wrap .i64 ((m:Int)+1)=((m+1:Nat):Int):=λh=>by rw[Ah _ (by omega) (by omega)];omega
       refine Ab (λg1=>?_) λg1=>⟨rfl,rfl,rfl,?_,e2⟩
       ·have hlt:m<t.length:=by omega
        rw[w1 hlt];have hone:List.drop (Int.toNat (m:Int)) (List.take (Int.toNat ((m+1:Nat):Int)) t)=[t.getD m 0]:=by
         rw[Int.toNat_natCast,Int.toNat_natCast,List.drop_take,show m+1-m=1 from by omega,List.drop_eq_getElem_cons hlt];show [t[m]]=_;simp[List.getD,hlt]
        rw[hone];have htw:=IQ Cm t m hlt;refine⟨⟨by omega,by omega,by omega⟩,ZO (by simp) λst3 e3=>?_⟩;rw[bare_one];refine Ao (λhb=>?_) λhb=>?_
        ·rw[if_pos hb]at htw
         exact⟨rfl,rfl,rfl,rfl,e2.trans e3,hlt,by omega⟩
        ·rw[if_neg (by rw[hb];simp)]at htw
         exact⟨rfl,rfl,rfl,by omega,e2.trans e3⟩
       ·have:=YE Cm t m (by omega)
        omega
      ·rintro _ _ _ _ st3 ⟨rfl,rfl,rfl,rfl,e3,hlt,hm⟩
       rw[Ah _ (by omega) (by omega)];exact⟨⟨rfl,rfl,rfl,m+1,by omega,by omega,by omega,hm,e3⟩,by dsimp only;omega⟩
     ·rintro _ _ _ _ st2 ⟨rfl,rfl,rfl,rfl,e2⟩
      refine Ab (λg1=>?_) λg1=>⟨⟨by omega,by omega,by omega⟩,?_⟩
      ·exact fin1 e2 (by unfold dt1;rw[if_neg g,if_pos (by omega)])
      ·have hd1:dt1 t j=some ((t.drop j).take (twl Cm (t.drop j)),j+twl Cm (t.drop j)):=by unfold dt1;rw[if_neg g,if_neg (by omega)]
       have hsub:List.drop (Int.toNat (j:Int)) (List.take (Int.toNat ((j+twl Cm (t.drop j):Nat):Int)) t)=(t.drop j).take (twl Cm (t.drop j)):=by
        rw[Int.toNat_natCast,Int.toNat_natCast,List.drop_take,Nat.add_sub_cancel_left]
       rw[hsub];exact app e2 λv st4 e4 ho4=>⟨rfl,_,_,hd1,rfl,ho4,e4⟩
  ·rintro o' _ _ st' ⟨rfl,k,j',hd1,rfl,ho',e'⟩
   have hle:=Ox hj hd1;rw[hd1]at hdk;simp only at hdk;refine Ab (λg=>?_) λg=>⟨⟨by omega,by omega⟩,Ab (λg2=>?_) λg2=>?_⟩
   ·rw[if_pos (by omega)]at hdk
    exact hk1 (acc++[k]) o' st' (by rw[hdk];rfl) ho' e'
   ·have hc:t.getD j' 0≠46:=λh=>g2 ((u8i (k:=46)).2 h)
    rw[if_neg (by omega),if_pos hc]at hdk;exact hk2 (by rw[hdk];rfl) _ e'
   ·have hc:t.getD j' 0=46:=(u8i (k:=46)).1 (Decidable.not_not.1 g2)
    rw[if_neg (by omega),if_neg (λh=>h hc)]at hdk;refine⟨rfl,j',acc++[k],rfl,by omega,by omega,by simp;omega,ho',e',?_⟩;rw[hdk];cases dt t (j'+1)<;>simp
 ·rintro o' _ _ st' ⟨rfl,j',acc',rfl,h1,h2,h3,ho',e',hd'⟩
  rw[Ah _ (by omega) (by omega)];exact⟨⟨rfl,j'+1,acc',by omega,by omega,h3,ho',e',hd'⟩,by dsimp only;omega⟩
end Go.TVF
section
namespace Go.TVF
open Go.IntKind(i64 u8)
theorem Bd {s:B8} {i:Nat} {k:Int} {t:B8} (hi:i<=s.length) (h:see s i= .ok (k,t)):i<s.length/\0<t.length/\i+t.length<=s.length/\t=sl s i (i+t.length):=by
 have:=CJ hi (KA h);exact⟨this.1,this.2.1,this.2.2.1,this.2.2.2.1⟩
theorem Fa {L:LmT} {i d c c1:Nat} (h:bgn L i d c= .ok c1):c1=c+1/\(d:Int)<=L.d/\(c:Int)<L.n:=by
 unfold bgn at h;split at h
 ·cases h
 ·split at h
  ·cases h
  ·cases h
   exact⟨rfl,by omega,by omega⟩
theorem FS {s x:B8} {i:Nat} (hi:i<=s.length) (h:CK s i x= .ok ()):see s i= .ok (4,x)/\0<x.length/\i+x.length<=s.length:=by
 unfold CK at h;split at h
 ·cases h
 ·rename_i k t hs
  split at h
  ·cases h
  ·rename_i hn
   have h1:k=4/\t=x:=⟨Decidable.byContradiction λh=>hn (.inl h),Decidable.byContradiction λh=>hn (.inr h)⟩;obtain⟨rfl,rfl⟩:=h1;have:=Bd hi hs;exact⟨hs,this.2.1,this.2.2.1⟩
theorem Iq (s:B8) (L:LmT):∀f:Nat,
  (∀d BD i c n x j c',i<=s.length->pvF s L f d BD i c= .ok (n,x,j,c')->i<j/\j<=s.length/\c<c'/\c'+i<=c+j)/\
  (∀d l i c ks xs tl j c',i<=s.length->arF s L f d l i c= .ok (ks,xs,tl,j,c')->i<j/\j<=s.length/\c<=c'/\c'+i<=c+j)/\
  (∀d seen BD i c ks xs tl j c',i<=s.length->inF s L f d seen BD i c= .ok (ks,xs,tl,j,c')->i<j/\j<=s.length/\c<=c'/\c'+i<=c+j):=by
 intro f;induction f with
 | zero=>
  refine⟨?_,?_,?_⟩
  ·intro d BD i c n x j c' hi h;rw[pvF]at h;cases h
  ·intro d l i c ks xs tl j c' hi h;rw[arF]at h;cases h
  ·intro d seen BD i c ks xs tl j c' hi h;rw[inF]at h;cases h
 | succ f ih=>
  obtain⟨ihv,iha,ihn⟩:=ih;refine⟨?_,?_,?_⟩
  ·intro d BD i c n x j c' hi h
   rw[pvF]at h;split at h
   ·cases h
   ·rename_i k t hs
    have ht:=Bd hi hs;split at h
    ·split at h
     ·cases h
     ·split at h
      ·cases h
      ·rename_i c1 hb
       have hb:=Fa hb;split at h
       ·cases h
       ·cases h;omega
    ·split at h
     ·split at h
      ·cases h
      ·rename_i c1 hb
       have hb:=Fa hb;split at h
       ·cases h
       ·rename_i ks xs tl j' c2 ha
        cases h;have:=iha _ _ _ _ _ _ _ _ _ (by omega) ha;omega
     ·split at h
      ·split at h
       ·cases h
       ·rename_i c1 hb
        have hb:=Fa hb;split at h
        ·cases h
        ·rename_i i1 hk
         have hk:=Bo (by omega) hk;split at h
         ·cases h
         ·rename_i k1 t1 hs1
          have ht1:=Bd (by omega) hs1;split at h
          ·cases h;omega
          ·split at h
           ·cases h
           ·rename_i ks xs tl j' c2 ha
            cases h;have:=ihn _ _ _ _ _ _ _ _ _ _ (by omega) ha;omega
      ·cases h
  ·intro d l i c ks xs tl j c' hi h
   rw[arF]at h;split at h
   ·cases h
   ·rename_i i1 hk
    have hk:=Bo hi hk;split at h
    ·cases h
    ·rename_i k1 t1 hs1
     have ht1:=Bd (by omega) hs1;split at h
     ·cases h;omega
     ·split at h
      ·cases h
      ·rename_i n x i2 c2 hv
       have hv:=ihv _ _ _ _ _ _ _ _ (by omega) hv;split at h
       ·cases h
       ·rename_i i3 hk3
        have hk3:=Bo (by omega) hk3;split at h
        ·cases h
        ·rename_i k3 t3 hs3
         have ht3:=Bd (by omega) hs3;split at h
         ·split at h
          ·cases h
          ·rename_i ks xs r ha
           obtain⟨tl',j',c3⟩:=r;cases h;have:=iha _ _ _ _ _ _ _ _ _ (by omega) ha;omega
         ·split at h
          ·cases h
          ·split at h
           ·cases h
           ·rename_i ks xs r ha
            obtain⟨tl',j',c3⟩:=r;cases h;have:=iha _ _ _ _ _ _ _ _ _ (by omega) ha;omega
  ·intro d seen BD i c ks xs tl j c' hi h
   rw[inF]at h;split at h
   ·cases h
   ·rename_i k t hs
    have ht:=Bd hi hs;split at h
    ·cases h
    ·rename_i key hkey
     split at h
     ·cases h
     ·split at h
      ·cases h
      ·split at h
       ·cases h
       ·rename_i i3 hk3
        have hk3:=Bo (by omega) hk3;split at h
        ·cases h
        ·rename_i u hp
         have hp:=FS (by omega) hp;simp only[List.length_singleton]at hp;split at h
         ·cases h
         ·rename_i i5 hk5
          have hk5:=Bo (by omega) hk5;split at h
          ·cases h
          ·rename_i n x i6 c2 hv
           have hv:=ihv _ _ _ _ _ _ _ _ (by omega) hv;split at h
           ·cases h
           ·rename_i i7 hk7
            have hk7:=Bo (by omega) hk7;split at h
            ·cases h
            ·rename_i k7 t7 hs7
             have ht7:=Bd (by omega) hs7;split at h
             ·cases h;omega
             ·split at h
              ·cases h
              ·rename_i hn7
               have h77:t7=[44]:=Decidable.byContradiction λh=>hn7 (.inr h);subst h77;simp only[List.length_singleton]at ht7;split at h
               ·cases h
               ·rename_i i9 hk9
                have hk9:=Bo (by omega) hk9;split at h
                ·cases h
                ·rename_i ks xs r ha
                 obtain⟨tl',j',c3⟩:=r;cases h;have:=ihn _ _ _ _ _ _ _ _ _ _ (by omega) ha;omega
end Go.TVF
end
namespace Go.TVF
open Go.IntKind(i64 u8)
open Go Go.Proofs
theorem sl_lenX {s:B8} {i j:Nat} (h:j<=s.length):(sl s i j).length=j-i:=by
 unfold sl;rw[List.length_drop,List.length_take];omega
theorem YF (p:Int->Bool):∀(l:B8) (m:Nat),twl p (l.take m)=min m (twl p l)
 | [],m=>by simp[twl]
 | c::cs,0=>by simp[twl]
 | c::cs,m+1=>by
  rw[List.take_succ_cons];unfold twl;rw[YF p cs m];split
  ·omega
  ·omega
theorem Yo (r:B8) (n:Nat) (hn:n<=r.length):NM (r.take n)=true↔n≠0/\n<=twl Cm r:=by
 unfold NM;rw[Bool.and_eq_true,decide_eq_true_eq,decide_eq_true_eq,YF,List.length_take,Nat.min_eq_left hn];constructor
 ·rintro⟨h1,h2⟩
  refine⟨λh0=>h1 (by rw[h0,List.take_zero]),by omega⟩
 ·rintro⟨h1,h2⟩
  refine⟨λh0=>?_,by omega⟩;have:=congrArg List.length h0;rw[List.length_take,List.length_nil]at this;omega
section
def kx (s:B8) (i:Nat):Except EP Nat:=kxF s (s.length+1-i) i
theorem kx_step {s:B8} {i:Nat} (hi:i<=s.length):kx s i=match nx s i with
  | .error e=> .error e
  | .ok none=> .ok i
  | .ok (some (k,t))=>if HN k then kx s (i+t.length)else .ok i:=by
 have more:∀(f g i:Nat),i<=s.length->s.length+1-i<=f->s.length+1-i<=g->kxF s f i=kxF s g i:=by
  intro f;induction f with
  | zero=>intro g i hi h1 h2;omega
  | succ f ih=>
   intro g i hi h1 h2;obtain⟨g,rfl⟩:∃g',g=g'+1:=⟨g-1,by omega⟩;rw[kxF,kxF];cases hn:nx s i with
   | error e=>rfl
   | ok o=>cases o with
    | none=>rfl
    | some p=>
     obtain⟨k,t⟩:=p;have:=CJ hi hn;simp only;split
     ·exact ih g _ (by omega) (by omega) (by omega)
     ·rfl
 unfold kx
 conv=>lhs;rw[show s.length+1-i=(s.length-i)+1 from by omega]
 rw[kxF];cases hn:nx s i with
 | error e=>rfl
 | ok o=>cases o with
  | none=>rfl
  | some p=>
   obtain⟨k,t⟩:=p;have:=CJ hi hn;simp only;split
   ·exact more _ _ _ (by omega) (by omega) (by omega)
   ·rfl
theorem VQ (s:B8) (i:Nat):Gn s i=match see s i with
  | .error e=> .error e
  | .ok (k,t)=>if HN k then(match kx s (i+t.length)with
    | .error e=> .error e
    | .ok j=>match X2 (sl s i j)with
     | none=> .error (i,3)
     | some ks=> .ok (ks,j))
   else .error (i,3):=rfl
section
variable {E:TV->St->Prop} {b:Nat} {s:B8} {L:LmT} {y:Int×Int×Int} {i l c:Nat} {tl:List TV} {st0 st:St}
set_option maxHeartbeats 1000000 in
theorem U3 {K:TV->Int->St->Prop} (H:PSB b s L y i l c tl st) (hl:s.length<=1000000) (e0:Ag st0 st) (hb:st0.nb<=b) (he:∀p,Gn s i= .error p->Fl E st0 p)
  (hk:∀ks j v st',Gn s i= .ok (ks,j)->i<j->j<=s.length->Own st.nt 1 st' v ks.length (ks.map TV.str)->PSB b s L y i l c tl st'->StX (·=b) st st'->K v ((j-i:Nat):Int) st'):
  Bz E PR Dj [.box b 0] [.one (.tv),.one (.int .i64)] st K:=by
 have ex:∀{st1:St},StX (·=b) st st1->Ag st0 st1:=λx=>x.out e0 λk hk=>by rw[hk];exact hb
 refine LF E b st K (Ac (Ay H.bx 6 rfl) ?_);rw[VQ]at he hk;refine⟨λv f st1=> .box b 0=v/\(i:Int)=f/\∃j k t,i<j/\PSB b s L y j l c tl st1/\StX (·=b) st st1/\see s i= .ok (k,t)/\HN k/\kx s (i+t.length)= .ok j,?_,?_⟩
 ·refine⟨λv f st1=> .box b 0=v/\(i:Int)=f/\∃j,i<=j/\PSB b s L y j l c tl st1/\StX (·=b) st st1/\(i<j->∃k t,see s i= .ok (k,t)/\HN k/\kx s (i+t.length)=kx s j),λ_ _ st1=>atM b s st1,⟨rfl,rfl,i,Nat.le_refl _,H,StX.refl _ _,λh=>by omega⟩,?_⟩
  rintro _ _ st1 ⟨rfl,rfl,j,hij,H1,x1,hkx⟩;have hst:=kx_step H1.hi;refine IU H1 hl (ex x1) (λp hp=>?_) (λh=>?_) λk t st2 h e2=>?_
  ·rw[hp]at hst
   by_cases hlt:i<j
   ·obtain⟨k,t,h1,h2,h3⟩:=hkx hlt
    exact he p (by rw[h1];simp only;rw[if_pos h2,h3,hst])
   ·have:i=j:=by omega
    subst this;exact he p (by unfold see;rw[hp])
  ·--the end of the source
   have hj:=nx_none h;refine⟨λv f ok k t a st'=> .box b 0=v/\(i:Int)=f/\ok=false/\st1=st'/\i<j,?_,?_⟩
   ·refine Aa rfl (Aa rfl (Ac (Ay H1.bx 6 rfl) (Am (Ab (λg=>?_) λg=>⟨rfl,rfl,rfl,rfl,by omega⟩))))
    have:i=j:=by omega
    subst this;refine F8 H1 hl (ex x1) (λp hp=>he p (by rw[hp])) λk t st2 hs e2=>?_;have:=KA hs;rw[h]at this;cases this
   ·rintro _ _ _ _ _ _ _ ⟨rfl,rfl,rfl,rfl,hlt⟩
    refine⟨λ_ _ _ _ _ _=>False,?_,λ_ _ _ _ _ _ h=>h.elim⟩;refine Ao (λ_=>?_) λh=>(by cases h);obtain⟨k,t,h1,h2,h3⟩:=hkx hlt;rw[h]at hst;exact⟨rfl,rfl,j,k,t,hlt,H1,x1,h1,h2,by rw[h3,hst]⟩
  ·--a token
   have ht:=CJ H1.hi h;have H2:=H1.ext e2;have x2:=x1.trans (StX.of e2);rw[h]at hst;simp only at hst;refine⟨λv f ok k' t' a st'=> .box b 0=v/\(i:Int)=f/\ok=true/\k=k'/\t=t'/\PSB b s L y j l c tl st'/\StX (·=b) st st'/\(j=i->HN k),?_,?_⟩
   ·refine Aa rfl (Aa rfl (Ac (Ay H2.bx 6 rfl) (Am (Ab (λg=>?_) λg=>⟨rfl,rfl,rfl,rfl,rfl,H2,x2,λh=>by omega⟩))))
    have hji:i=j:=by omega
    subst hji;refine F8 H2 hl (ex x2) (λp hp=>he p (by rw[hp])) λk' t' st3 hs e3=>?_;have hs':=KA hs;rw[h]at hs';simp only[Except.ok.injEq,Option.some.injEq,Prod.mk.injEq]at hs';obtain⟨rfl,rfl⟩:=hs';have H3:=H2.ext e3;have x3:=x2.trans (StX.of e3);refine⟨λbb v f ok k' t' a st'=> .box b 0=v/\(i:Int)=f/\ok=true/\k=k'/\t=t'/\st3=st'/\bb=decide (¬HN k),?_,?_⟩
    ·refine Ab (λg1=>⟨rfl,rfl,rfl,rfl,rfl,rfl,decide_eq_decide.2 ⟨λg2 h=>h.elim g1 g2,λh g2=>h (.inr g2)⟩⟩) λg1=>⟨rfl,rfl,rfl,rfl,rfl,rfl,(decide_eq_false (λh=>h (.inl (Decidable.not_not.1 g1)))).symm⟩
    ·rintro _ _ _ _ _ _ _ _ ⟨rfl,rfl,rfl,rfl,rfl,rfl,rfl⟩
     refine Ab (λg1=>?_) λg1=>⟨rfl,rfl,rfl,rfl,rfl,H3,x3,λ_=>Decidable.not_not.1 g1⟩;refine Aa rfl (Aa rfl (Ac (Ay H3.bx 6 rfl) (Bs rfl (ex x3) (he _ ?_))));rw[hs];simp only;rw[if_neg g1]
   ·rintro _ _ _ _ _ _ st3 ⟨rfl,rfl,rfl,rfl,rfl,H3,x3,hw⟩
    have seeI:j=i->see s i= .ok (k,t):=λhji=>by unfold see;rw[<-hji,h]
    have stop:¬HN k->∃j k t,i<j/\PSB b s L y j l c tl st3/\StX (·=b) st st3/\see s i= .ok (k,t)/\HN k/\kx s (i+t.length)= .ok j:=λhn=>by
     have hlt:i<j:=by
      rcases Nat.lt_or_ge i j with h' | h'
      ·exact h'
      ·exact absurd (hw (by omega)) hn
     obtain⟨k0,t0,h1,h2,h3⟩:=hkx hlt;exact⟨j,k0,t0,hlt,H3,x3,h1,h2,by rw[h3,hst,if_neg hn]⟩
    refine⟨λv f k' t' a st'=> .box b 0=v/\(i:Int)=f/\t=t'/\st3=st'/\HN k,?_,?_⟩
    ·refine Ao (λh=>(by cases h)) λ_=>Ab (λg1=>Ab (λg2=>⟨rfl,rfl,stop λh=>h.elim g1 g2⟩) λg2=>⟨rfl,rfl,rfl,rfl,.inr (Decidable.not_not.1 g2)⟩) λg1=>⟨rfl,rfl,rfl,rfl,.inl (Decidable.not_not.1 g1)⟩
    ·rintro _ _ _ _ _ _ ⟨rfl,rfl,rfl,rfl,hwt⟩
     have hle:=H3.le;refine Aa rfl (Aa rfl (Ac (Ay H3.bx 6 rfl) (Am (Aa rfl (Aa rfl ?_)))));refine Rg H3 (j:=j+t.length) (by rw[Ah _ (by omega) (by omega)];omega) (by omega) (by omega) λst4 H4 x4=>⟨⟨rfl,rfl,j+t.length,by omega,H4,x3.trans x4,λ_=>?_⟩,by dsimp only;rw[IF H4,IF H1];omega⟩;rw[if_pos hwt]at hst;by_cases hji:j=i
     ·exact⟨k,t,seeI hji,hwt,by rw[hji]⟩
     ·obtain⟨k0,t0,h1,h2,h3⟩:=hkx (by omega)
      exact⟨k0,t0,h1,h2,by rw[h3,hst]⟩
 ·rintro _ _ st1 ⟨rfl,rfl,j,k,t,hij,H1,x1,hs,hw,hkx⟩
  have hle:=H.le;have hjl:=H1.hi;rw[hs]at he hk;simp only[if_pos hw,hkx]at he hk;have w1:IntKind.wrap .i64 ((j:Int)-(i:Int))=((j-i:Nat):Int):=by rw[Ah _ (by omega) (by omega)];omega
  have w2:IntKind.wrap .i64 ((i:Int)+((j-i:Nat):Int))=(j:Int):=by rw[Ah _ (by omega) (by omega)];omega
  refine Aa rfl (Aa rfl (Ac (Ay H1.bx 6 rfl) (Am (Aa rfl (Aa rfl ?_)))));refine Rg H1 (j:=i) rfl hle H.hi λst2 H2 x2=>?_;refine Aa rfl (Aa rfl (Ac (Ay H2.bx 0 rfl) ?_));show(0<=(i:Int)/\(i:Int)<=IntKind.wrap .i64 ((i:Int)+IntKind.wrap .i64 ((j:Int)-(i:Int)))/\IntKind.wrap .i64 ((i:Int)+IntKind.wrap .i64 ((j:Int)-(i:Int)))<=(s.length:Int))/\_;rw[w1,w2];refine⟨⟨by omega,by omega,by omega⟩,CallT.x ?_⟩;show CallT PR EX [.str (sl s i j)] _ _ _;refine AaD (by have:=sl_len s i j;omega) (λks v st3 hd ho e3=>?_) λhd st3 e3=>?_
  all_goals
   rw[hd]at he hk;simp only at he hk;refine⟨λn v' st'=>_,?_,λ_ _ _ h=>h⟩
  ·refine Ao (λh=>(by cases h)) λ_=>hk ks j v st3 rfl hij hjl ?_ (H2.ext e3) ((x1.trans x2).trans (StX.of e3))
   exact ho.mono (by have:=x1.nt;have:=x2.nt;omega)
  ·exact Ao (λ_=>Bs rfl (ex ((x1.trans x2).trans (StX.of e3))) (he _ rfl)) λh=>(by cases h)
end
end
section
def L8 (st:St) (mb:Nat) (seen:List B8):Prop:=mb<st.nb/\∃es,st.box mb= .map es/\∀k,AG k es=if k∈seen then some (.bool true)else none
theorem L8.ext {st st':St} {mb:Nat} {seen:List B8} {S:Nat->Prop} (h:L8 st mb seen) (e:StX S st st') (hs:¬S mb):L8 st' mb seen:=by
 obtain⟨h1,es,h2,h3⟩:=h;exact⟨Nat.lt_of_lt_of_le h1 e.nb,es,(e.box mb h1 hs).trans h2,h3⟩
section
variable {E:TV->St->Prop} {b:Nat} {s:B8} {L:LmT} {y:Int×Int×Int} {i l c:Nat} {tl:List TV} {st0 st:St}
set_option maxHeartbeats 1000000 in
theorem Aab {mb:Nat} {seen:List B8} {K:B8->Int->B8->B8->TV->B8->St->Prop} (H:PSB b s L y i l c tl st) (hm:L8 st mb seen) (hmb:mb≠b) (hl:s.length<=1000000) (e0:Ag st0 st) (hb:st0.nb<=b)
  (he:∀p,(∃k t,see s i= .ok (k,t)/\((KR k t=none/\p=(i,3))∨∃key,KR k t=some key/\((1024<key.length/\p=(i,10))∨(¬1024<key.length/\key∈seen/\p=(i,8)))))∨see s i= .error p->Fl E st0 p)
  (hk:∀k t key st',see s i= .ok (k,t)->KR k t=some key->¬1024<key.length->key∉seen->L8 st' mb (seen++[key])->PSB b s L y (i+t.length) (i+t.length) c tl st'->StX (λx=>x=b∨x=mb) st st'->K key 6 (sl s l i) t .nilSlice [] st'):
  Bz E PR Ej [.box b 0,.map mb] [.one (.str),.agg [.int .i64,.str,.str,.tv,.str]] st K:=by
 refine Kf E b (.map mb) st K (F8 H hl e0 (λp hp=>he p (.inr hp)) λk t st1 hs e1=>?_);have ht:=Bd H.hi hs;have H1:=H.ext e1;have hes:∀{p:EP} {st':St},Ag st1 st'->((KR k t=none/\p=(i,3))∨∃key,KR k t=some key/\((1024<key.length/\p=(i,10))∨(¬1024<key.length/\key∈seen/\p=(i,8))))->Fl E st0 p:=λe h=>he _ (.inl ⟨k,t,hs,h⟩);refine⟨λkey v m _ _ _ _ _ k' t' _ st'=> .box b 0=v/\TV.map mb=m/\k=k'/\t=t'/\Ag st1 st'/\KR k t=some key,?_,?_⟩
 ·refine Ab (λg=>CallT.x (Tf (by omega) λst2 e2=>⟨rfl,rfl,rfl,rfl,e2,by unfold KR;rw[if_pos g]⟩)) λg=>?_
  refine⟨λbb v m k2 _ _ _ _ _ k' t' _ st'=> .box b 0=v/\TV.map mb=m/\t=k2/\k=k'/\t=t'/\Ag st1 st'/\bb=decide (KR k t=none)/\(KR k t≠none->KR k t=some t),?_,?_⟩
  ·refine Ab (λg2=>?_) λg2=>CallT.x (ZO (by omega) λst2 e2=>?_)
   ·have hf:KR k t=none:=by unfold KR;rw[if_neg g,if_neg (λh=>g2 h.1)]
    exact⟨rfl,rfl,rfl,rfl,rfl,Ag.refl _,(decide_eq_true hf).symm,λh=>absurd hf h⟩
   ·have hk6:k=6:=Decidable.not_not.1 g2
    have hf:KR k t=if NM t=true then some t else none:=by
     unfold KR;rw[if_neg g];by_cases hbr:NM t=true
     ·rw[if_pos ⟨hk6,hbr⟩,if_pos hbr]
     ·rw[if_neg (λh=>hbr h.2),if_neg hbr]
    refine⟨rfl,rfl,rfl,rfl,rfl,e2,?_,?_⟩
    ·rw[hf]
     show(!NM t)=_;cases NM t<;>simp
    ·rw[hf]
     split
     ·exactλ_=>rfl
     ·exactλh=>absurd rfl h
  ·rintro _ _ _ _ _ _ _ _ _ _ _ _ st2 ⟨rfl,rfl,rfl,rfl,rfl,e2,rfl,hf⟩
   refine Ab (λg2=>?_) λg2=>⟨rfl,rfl,rfl,rfl,e2,hf g2⟩;exact Aa rfl (Aa rfl (Ac (Ay (H1.ext e2).bx 6 rfl) (Bs rfl (e0.trans (e1.trans e2)) (hes e2 (.inl ⟨g2,rfl⟩)))))
 ·rintro key _ _ _ _ _ _ _ _ _ _ st2 ⟨rfl,rfl,rfl,rfl,e2,hf⟩
  have H2:=H1.ext e2;have hm2:=hm.ext (S:=λ_=>False) (StX.of (e1.trans e2)) (λh=>h);refine⟨λv m key' _ _ _ _ _ k' t' _ st'=> .box b 0=v/\TV.map mb=m/\key=key'/\k=k'/\t=t'/\st2=st'/\¬1024<key.length,?_,?_⟩
  ·refine Ab (λg=>?_) λg=>⟨rfl,rfl,rfl,rfl,rfl,rfl,by omega⟩
   exact Aa rfl (Aa rfl (Ac (Ay H2.bx 6 rfl) (Bs rfl (e0.trans (e1.trans e2)) (hes e2 (.inr ⟨key,hf,.inl ⟨by omega,rfl⟩⟩)))))
  ·rintro _ _ _ _ _ _ _ _ _ _ _ _ ⟨rfl,rfl,rfl,rfl,rfl,rfl,hlen⟩
   obtain⟨m1,es,m2,m3⟩:=hm2;refine⟨λv m key' _ _ _ _ _ k' t' _ st'=> .box b 0=v/\TV.map mb=m/\key=key'/\k=k'/\t=t'/\st2=st'/\key∉seen,?_,?_⟩
   ·refine Ac (x:=es) (by simp[DY,m2]) ?_
    rw[m3 key];by_cases hin:key∈seen
    ·rw[if_pos hin]
     exact Aa rfl (Aa rfl (Ac (Ay H2.bx 6 rfl) (Bs rfl (e0.trans (e1.trans e2)) (hes e2 (.inr ⟨key,hf,.inr ⟨hlen,hin,rfl⟩⟩)))))
    ·rw[if_neg hin]
     exact⟨rfl,rfl,rfl,rfl,rfl,rfl,hin⟩
   ·rintro _ _ _ _ _ _ _ _ _ _ _ _ ⟨rfl,rfl,rfl,rfl,rfl,rfl,hin⟩
    refine⟨es,m2,?_⟩;have H3:PSB b s L y i l c tl (st2.put mb (.map (Gk key (.bool true) es))):=⟨by simp only[St.put];rw[if_neg (Ne.symm hmb)];exact H2.bx,H2.lt,H2.le,H2.hi⟩;have x3:StX (λx=>x=b∨x=mb) st2 (st2.put mb (.map (Gk key (.bool true) es))):=StX.put (S:=λx=>x=b∨x=mb) (i:=mb) (.inr rfl) _;refine CallT.x (Hk H3 rfl hl ht.2.2.1 λst4 H4 x4=>Aa rfl ?_);rw[<-ht.2.2.2];refine hk k t key st4 hs hf hlen hin ?_ H4 (((StX.of (e1.trans e2)).trans x3).trans (x4.mono λ_ h=> .inl h));have:L8 (st2.put mb (.map (Gk key (.bool true) es))) mb (seen++[key]):=by
     refine⟨m1,_,by simp[St.put];rfl,λk2=>?_⟩;rw[Hz,m3 k2];by_cases hk2:k2=key
     ·rw[if_pos hk2,if_pos (by rw[hk2];simp)]
     ·rw[if_neg hk2]
      by_cases hs2:k2∈seen
      ·rw[if_pos hs2,if_pos (by simp[hs2])]
      ·rw[if_neg hs2,if_neg (by simp[hs2,hk2])]
    exact this.ext x4 hmb
end
end
def LN (v u:TV):Prop:=∀id,BT v=some id->BT u≠some id
theorem LN.nil (u:TV):LN .nilSlice u:=λid h=>by cases h
theorem LN.symm {v u:TV} (h:LN v u):LN u v:=λid h1 h2=>h id h2 h1
theorem Own.tip {b sz:Nat} {st:St} {v:TV} {n:Nat} {xs:List TV} (h:Own b sz st v n xs) {id:Nat} (hi:BT v=some id):b<=id/\id<st.nt/\st.live id=true:=by
 rcases h with⟨rfl,_,_⟩ | ⟨tip,rfl,rfl | ⟨id',rfl,h1,h2,h3⟩⟩
 ·cases hi
 ·cases hi
 ·cases hi;exact⟨h1,h2,h3⟩
theorem JO {S:Nat->Prop} {T sz bytes:Nat} {a st:St} {v:TV} {n k:Nat} {xs ys:List TV} {K:TV->St->Prop} (e:StX S a st) (h:Own a.nt sz st v n xs) (hby:(n+k)*bytes<=140737488355328) (hys:k=0->ys=[])
  (hK:∀v' st',StX S a st'->st'.box=st.box->st'.nb=st.nb->Own a.nt sz st' v' (n+k) (xs++ys)->(∀{sz2 m:Nat} {u:TV} {zs:List TV},Own a.nt sz2 st u m zs->LN v u->Own a.nt sz2 st' u m zs/\LN v' u)->K v' st'):Bn T sz bytes v k ys st K:=by
 have sx:∀{st':St},st'.box=st.box->st'.nb=st.nb->st.nt<=st'.nt->st'.bt=st.bt->(∀i,i<a.nt->st'.live i=st.live i)->(∀i,i<st.nt->st'.ty i=st.ty i)->StX S a st':=λ{st'} b1 b2 b3 b4 b5 b6=>
  ⟨by rw[b2];exact e.nb,λi hi hs=>by rw[b1];exact e.box i hi hs,Nat.le_trans e.nt b3,λi hi=>(b5 i hi).trans (e.live i hi),λi hi=>(b6 i (Nat.lt_of_lt_of_le hi e.nt)).trans (e.ty i hi),λi hi=>by rw[b4];exact e.bt i hi⟩
 have nn:∀i,i<st.nt->i≠st.nt:=λi h=>by omega
 have other0:∀{v:TV} {sz2 m:Nat} {u:TV} {zs:List TV},Own a.nt sz2 st u m zs->LN v u->Own a.nt sz2 st u m zs/\LN v u:=λh k=>⟨h,k⟩;have other:∀(st':St),st'.nt=st.nt+1->(∀i,i<st.nt->BT v≠some i->st'.live i=st.live i)->∀(n':Nat) (xs':List TV) {sz2 m:Nat} {u:TV} {zs:List TV},Own a.nt sz2 st u m zs->LN v u->Own a.nt sz2 st' u m zs/\LN (.list sz (.own st.nt) n' xs') u:=by
  intro st' hn hlv n' xs' sz2 m u zs hu ht;refine⟨?_,λid hid hu2=>?_⟩
  ·rcases hu with hu | ⟨tip,rfl,rfl | ⟨id,rfl,h1,h2,h3⟩⟩
   ·exact .inl hu
   ·exact .inr ⟨_,rfl,.inl rfl⟩
   ·exact .inr ⟨_,rfl,.inr ⟨id,rfl,h1,by omega,(hlv id h2 λh=>ht id h rfl).trans h3⟩⟩
  ·cases hid
   have:=(hu.tip hu2).2.1;omega
 rcases h with⟨rfl,rfl,rfl⟩ | ⟨tip,rfl,ht⟩
 ·simp only[Bn]
  cases k with
  | zero=>rw[hys rfl]at hK;exact hK _ _ e rfl rfl (.nil _ _ _) other0
  | succ m=>
   simp only[Al];refine⟨by simpa using hby,hK _ _ (sx rfl rfl (Nat.le_succ _) rfl (λi hi=>?_) λi hi=>?_) rfl rfl ?_ (other _ rfl (λi hi _=>?_) _ _)⟩
   ·simp only[St.fresh];rw[if_neg (by have:=e.nt;omega)]
   ·simp only[St.fresh];rw[if_neg (nn i hi)]
   ·simp only[List.nil_append,Nat.zero_add]
    exact Own.fresh _ _ e.nt
   ·simp only[St.fresh];rw[if_neg (nn i hi)]
 ·simp only[Bn,Nat.beq_refl]
  refine⟨hby,?_⟩;rcases ht with rfl | ⟨id,rfl,h1,h2,h3⟩
  ·cases k with
   | zero=>rw[hys rfl]at hK;simp only[List.append_nil]at hK;exact hK _ _ e rfl rfl (Own.full _ _ _ _ _) other0
   | succ m=>
    refine hK _ _ (sx rfl rfl (Nat.le_succ _) rfl (λi hi=>?_) λi hi=>?_) rfl rfl (Own.fresh _ _ e.nt) (other _ rfl (λi hi _=>?_) _ _)
    ·simp only[St.fresh];rw[if_neg (by have:=e.nt;omega)]
    ·simp only[St.fresh];rw[if_neg (nn i hi)]
    ·simp only[St.fresh];rw[if_neg (nn i hi)]
  ·refine⟨h3,hK _ _ (sx rfl rfl (Nat.le_succ _) rfl (λi hi=>?_) λi hi=>?_) rfl rfl (Own.fresh (st:=st.retire id) _ _ e.nt) (other _ rfl (λi hi hne=>?_) _ _)⟩
   ·have:=e.nt
    simp[St.fresh,St.retire,show i≠st.nt from by omega,show i≠id from by omega]
   ·simp[St.fresh,St.retire,nn i hi]
   ·have:i≠id:=λh=>hne (by rw[h];rfl)
    simp[St.fresh,St.retire,nn i hi,this]
abbrev K18:=Int->B8->B8->TV->B8->Int->Bool->Bool->B8->Int->Int->Int->Int->Int->B8->TV->TV->TV->St->Prop
def KdR (kv:TV) (ks:List Nd):Prop:=∃xs,Rd 5 kv ks.length xs/\Bi ks xs
theorem KdR.nil:KdR .nilSlice []:=⟨[],.inl ⟨rfl,rfl,rfl⟩,Bi.nil⟩
theorem KdR.one {kv:TV} {ks:List Nd} (h:KdR kv ks):Av kv=true:=by obtain⟨xs,h1,_⟩:=h;exact h1.one
theorem KdR.nd {kv:TV} {ks:List Nd} (h:KdR kv ks) (k:Int) (ld tx tlx:B8):NdC (.mk k ld tx ks tlx) [.int .i64 k,.str ld,.str tx,kv,.str tlx]:=by
 obtain⟨xs,h1,h2⟩:=h;unfold NdC;exact⟨kv,xs,rfl,h1,h2⟩
theorem Je {st:St} {v:Vl} {ub ul uf:TV} (h:VlR st v (AQ v.sc ub ul uf)):Av ub=true/\Av ul=true/\Av uf=true:=by
 obtain⟨s,l,f⟩:=v;obtain⟨ub',ul',uf',xl,xf,he,w1,w2,_,w4,_⟩:=VlR.cells h;simp only[AQ,Vl.sc,List.cons.injEq,and_true,true_and]at he;obtain⟨rfl,rfl,rfl⟩:=he;exact⟨w1.one,w2.one,w4.one⟩
theorem PSB.same {b:Nat} {s:B8} {L:LmT} {y:Int×Int×Int} {i l c:Nat} {tl:List TV} {st st':St} (h:PSB b s L y i l c tl st) (h1:st'.box=st.box) (h2:st'.nb=st.nb):PSB b s L y i l c tl st':=
 ⟨by rw[h1];exact h.bx,by rw[h2];exact h.lt,h.le,h.hi⟩
def ZT (E:TV->St->Prop) (st0:St) (s:B8) (L:LmT) (y:Int×Int×Int) (f:Nat):Prop:=
 ∀(b d l i c:Nat) (tl:List TV) (st:St) (D:Int) (K:K18),D=(d:Nat)->PSB b s L y i l c tl st->Ag st0 st->st0.nb<=b->2*(s.length-i)+2<=f->c<=i+1->
  (∀p,pvF s L f d (sl s l i) i c= .error p->Fl E st0 p)->
  (∀k ld tx ks tlx kv x ub ul uf j c' st',pvF s L f d (sl s l i) i c= .ok (.mk k ld tx ks tlx,x,j,c')->KdR kv ks->VlR St.zero x (AQ x.sc ub ul uf)->PSB b s L y j j c' tl st'->StX (·=b) st st'->
   K k ld tx kv tlx x.sc.kind x.sc.b x.sc.neg x.sc.dg x.sc.ex x.sc.tk x.sc.td x.sc.tn x.sc.tz x.sc.text ub ul uf st')->
  Bz E PR BI [.box b 0,.int .i64 D] [.agg [.int .i64,.str,.str,.tv,.str],.agg [.int .i64,.bool,.bool,.str,.int .i64,.int .i64,.int .i64,.int .i64,.int .i64,.str,.tv,.tv,.tv]] st K
def Pn {α β γ δ:Type} (ks:List α) (xs:List β):Except γ (List α×List β×δ)->Except γ (List α×List β×δ)
 | .error e=> .error e
 | .ok (ks',xs',r)=> .ok (ks++ks',xs++xs',r)
theorem Vr {α β γ δ:Type} (r:Except γ (List α×List β×δ)):Pn [] [] r=r:=by cases r<;>rfl
theorem Vs {α β γ δ:Type} (a c:List α) (b d:List β) (r:Except γ (List α×List β×δ)):Pn (a++c) (b++d) r=Pn a b (Pn c d r):=by
 cases r with
 | error e=>rfl
 | ok p=>obtain⟨p1,p2,p3⟩:=p;simp[Pn]
end Go.TVF
