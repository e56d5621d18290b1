/- What the laws below rest on: a framework for Go programs, and contracts of the functions that they reach. -/
import Derived.Test.YtbbjecpcjdmfgaaDoorSbE
import Derived.Shelf.Unicode.ValidAny
import Derived.Test.YtbbjecpcjdmfgaaDoorProg
import Derived.Lib.ValidU
set_option maxRecDepth 20000
set_option linter.unusedVariables false
set_option linter.unusedSimpArgs false
namespace Go.TVF
open Go.IntKind(i64 u8)
open Go Go.Proofs
section
mutual
theorem Lf:∀v:Vl,lvV v<=v.cnt
 | .mk s l f=>by
  have:=QY l
  have:=QZ f
  unfold lvV Vl.cnt;omega
theorem QY:∀l:List Vl,BS l<=Aw l
 | []=>by unfold BS Aw;omega
 | v::r=>by
  have:=Lf v
  have:=QY r
  unfold BS Aw;omega
theorem lvd_cnt:∀d:Fd,lvD d<=d.cnt
 | .mk k v=>by unfold lvD Fd.cnt;exact Lf v
theorem QZ:∀l:List Fd,BI l<=Av l
 | []=>by unfold BI Av;omega
 | d::r=>by
  have:=lvd_cnt d
  have:=QZ r
  unfold BI Av;omega
end
theorem Lx {T t:Tb} {h:List Hop} (hA:atT T h=some t):dpH h<=(Af T).cnt:=by
 have:=(CR h hA t).lvu
 have:=Lf (Af T)
 omega
theorem KG {T t:Tb} {h:List Hop} {k:B8} {eb:Nat} {e:En} (hA:atT T h=some t):(Af (Ay T h (AO t k eb e))).cnt=(Af T).cnt+(AH e).cnt:=by
 have h1:=(CR h hA (AO t k eb e)).cnt
 have h2:=Jp t k eb e
 omega
theorem CQ (nu:Nu) (hd:Bool):(AH (.opn (AI nu hd))).cnt=1:=by
 rw[AH,AI,Af,AJ];simp[Vl.cnt,Aw,Av]
theorem ND:∀l:List Tb,l.length<=Aw (AZ l)
 | []=>by simp
 | t::r=>by
  have:=ND r
  have h1:1<=(Af t).cnt:=by cases Af t;unfold Vl.cnt;omega
  rw[AZ,Aw,List.length_cons];omega
theorem SW {t:Tb} {k:B8} {eb:Nat} {l:List Tb} (h:Ah k t.es=some (eb,.lst l)):l.length<=(Af t).cnt:=by
 obtain⟨F,G,h1,_⟩:=DP h
 rw[Eh,h1]
 have:=ND l
 simp only[Vl.cnt,DR,Av,Fd.cnt,AH]
 omega
theorem Gd {ks:List B8} {j:Nat} (h:j<ks.length):(ks.map TV.str)[j]? =some (.str (ks.getD j [])):=by
 rw[List.getElem?_map,List.getElem?_eq_getElem h,List.getD_eq_getElem?_getD,List.getElem?_eq_getElem h];rfl
theorem G5 {ks:List B8} {j:Nat} (h:j<ks.length):ks.take (j+1)=ks.take j++[ks.getD j []]:=by
 rw[List.take_add_one,List.getElem?_eq_getElem h,List.getD_eq_getElem?_getD,List.getElem?_eq_getElem h];rfl
theorem TR {bb ub:Nat} {now:TV} {T t:Tb} {σ:Nat->TV} {st:St} {h:List Hop} {ks:List B8} {a_0 a_1 a_4 a_5:Bool} {a_2 a_13 a_14 a_15:TV} {a_3 a_7 a_8 a_9 a_10 a_11:Int} {a_6 a_12:B8} {K:TV->Bool->St->Prop}
  (H:BH bb ub now T (Af T).cnt σ st) (hA:atT T h=some t) (hr:Rd 1 a_2 ks.length (ks.map TV.str)) (hks:ks≠ []) (hc:(Af T).cnt+ks.length<=800000)
  (hk1:∀nu T' h' t' σ' st',hops nu a_0 0 T h ks.dropLast=some (T',h')->atT T' h'=some t'->BH bb ub now T' (Af T').cnt σ' st'->(Af T').cnt+1<=(Af T).cnt+ks.length->K (.box t'.b 0) true st')
  (hk2:∀nu st',hops nu a_0 0 T h ks.dropLast=none->K .nilPtr false st'):
  CallT PR B3 [.box bb 0,.box t.b 0,.agg [.bool a_0,.bool a_1,a_2,.int .i64 a_3,.bool a_4,.bool a_5,.str a_6,.int .i64 a_7,.int .i64 a_8,.int .i64 a_9,.int .i64 a_10,.int .i64 a_11,.str a_12,a_13,a_14,a_15]] [.one .tv,.one .bool] st K:=by
 obtain⟨ks',kl,rfl⟩:∃ks' kl,ks=ks'++[kl]:=⟨ks.dropLast,ks.getLast hks,(List.dropLast_concat_getLast hks).symm⟩
 rw[List.dropLast_concat]at hk1 hk2
 rcases hr with⟨_,h0,_⟩ | ⟨tip,rfl⟩
 ·simp at h0
 rw[List.length_append,List.length_singleton]at hc hk1
 have hw:IntKind.wrap .i64 ((lenS (.list 1 tip (ks'++[kl]).length ((ks'++[kl]).map TV.str)):Int)-1)=(ks'.length:Int):=by
  rw[Ai _ (by simp[lenS]<;>omega) (by simp[lenS]<;>omega)];simp[lenS]
 have hv:slT 1 .non (.list 1 tip (ks'++[kl]).length ((ks'++[kl]).map TV.str)) 0 (Int.toNat (ks'.length:Int))= .list 1 .non ks'.length (ks'.map TV.str):=by
  simp only[slT,Int.toNat_natCast,Nat.sub_zero,Nat.mul_one,Nat.zero_mul,List.drop_zero,List.map_append]
  rw[List.take_left' (by simp)]
 refine FA bb t.b a_0 a_1 _ a_3 a_4 a_5 a_6 a_7 a_8 a_9 a_10 a_11 a_12 a_13 a_14 a_15 st K (Aa rfl ?_)
 rw[hw,hv]
 refine⟨⟨rfl,by omega,by simp[lenS]<;>omega⟩,Aa rfl ?_⟩
 refine⟨fun t_1 n_1 b_1 v_1 n_2 b1 _ _ _ _ _ _ _ _ _ _ _ _ _ _ _ st1=>∃(j:Nat) (nu:Nat->Nu) (T':Tb) (h':List Hop) (t':Tb) (σ':Nat->TV),n_1=(j:Int)/\j<=ks'.length/\t_1= .box t'.b 0/\b_1= .box bb 0/\
   v_1= .list 1 .non ks'.length (ks'.map TV.str)/\n_2=(ks'.length:Int)/\b1=a_0/\hops nu a_0 0 T h (ks'.take j)=some (T',h')/\atT T' h'=some t'/\BH bb ub now T' (Af T').cnt σ' st1/\(Af T').cnt<=(Af T).cnt+j,
  fun _ n_1 _ _ _ _ _ _ _ _ _ _ _ _ _ _ _ _ _ _ _ _=>ks'.length-n_1.toNat,⟨0,fun _=>⟨0,0,0⟩,T,h,t,σ,rfl,Nat.zero_le _,rfl,rfl,rfl,rfl,rfl,rfl,hA,H,by omega⟩,?_⟩
 rintro t_1 n_1 b_1 v_1 n_2 b1 b2 v1 n1 b3 b4 s1 n2 n3 n4 n5 n6 s2 v2 v3 v4 st1 ⟨j,nu,T',h',t',σ',rfl,hj,rfl,rfl,rfl,rfl,rfl,hh,hA',H',hc'⟩
 refine Ab (fun hlt=>?_) fun hge=>?_
 ·have hlt:j<ks'.length:=by omega
  have hwj:IntKind.wrap .i64 ((j:Int)+1)=((j+1:Nat):Int):=by rw[Ai _ (by omega) (by omega)];simp
  have hdp:=Lx hA'
  have hlen:(ks'.take j).length=j:=by rw[List.length_take];omega
  have hsn:∀nu',hops nu' b1 0 T h (ks'.take j)=some (T',h')->hops nu' b1 0 T h (ks'.take (j+1))=DI (nu' j) b1 T' h' (ks'.getD j []):=fun nu' hh'=>by
   rw[G5 hlt,ME,hh',hlen];simp
  refine⟨⟨by omega,by show(j:Int)<(ks'.length:Int);omega⟩,?_⟩
  refine Ae (x:= .str (ks'.getD j [])) ?_ ?_
  ·have:=Gd hlt
   simp only[ixT,Ac,Int.toNat_natCast,Nat.mul_one,List.getElem?_drop,Nat.add_zero]
   exact this
  refine E7 (Aa rfl (Aa rfl (H'.ldm hA' (H'.map hA' fun es hes=>?_))))
  rw[hes (ks'.getD j [])]
  have hh1:=hsn nu hh
  unfold DI at hh1
  rw[hA']at hh1
  simp only at hh1
  rw[hwj]
  have step:∀{u:Tb} {o:Option Nat},hops nu b1 0 T h (ks'.take (j+1))=some (T',h'++[(ks'.getD j [],o)])->atT T' (h'++[(ks'.getD j [],o)])=some u->
    (∃(j':Nat) (nu:Nat->Nu) (T'':Tb) (h'':List Hop) (t'':Tb) (σ'':Nat->TV),((j+1:Nat):Int)=(j':Int)/\j'<=ks'.length/\(TV.box u.b 0)= .box t''.b 0/\(TV.box bb 0)= .box bb 0/\
     (TV.list 1 .non ks'.length (ks'.map TV.str))= .list 1 .non ks'.length (ks'.map TV.str)/\(ks'.length:Int)=(ks'.length:Int)/\b1=b1/\hops nu b1 0 T h (ks'.take j')=some (T'',h'')/\atT T'' h''=some t''/\BH bb ub now T'' (Af T'').cnt σ'' st1/\(Af T'').cnt<=(Af T).cnt+j')/\
    ks'.length-((j+1:Nat):Int).toNat<ks'.length-((j:Nat):Int).toNat:=fun {u o} q1 q2=>
   ⟨⟨j+1,nu,T',_,u,σ',rfl,hlt,rfl,rfl,rfl,rfl,rfl,q1,q2,H',by omega⟩,by simp only[Int.toNat_natCast];omega⟩
  rcases hl:Ah (ks'.getD j []) t'.es with _ | ⟨eb,e⟩
  ·rw[Option.map_none]
   refine Aa rfl (show need _ _ from Aa rfl (Aa rfl (H'.ldd hA' (BE ?_))))
   have hwd:IntKind.wrap .i64 (((1+dpH h':Nat):Int)+1)=((1+dpH h'+1:Nat):Int):=by rw[Ai _ (by omega) (by omega)];simp
   rw[hwd]
   refine OO H' hA' hl (by omega) rfl (fun nu1 σ'' st2 st' he H''=>?_)
   have hq:hops (J9 nu j nu1) b1 0 T h (ks'.take j)=some (T',h'):=by
    have:=Te (nu:=nu) (hd:=b1) (ks:=ks'.take j) (T:=T) (h:=h) (x:=nu1)
    rw[hlen]at this
    rw[this,hh]
   have hq1:=hsn _ hq
   have hnj:J9 nu j nu1 j=nu1:=by unfold J9;rw[if_pos rfl]
   rw[hnj]at hq1
   unfold DI at hq1
   rw[hA']at hq1
   simp only[hl]at hq1
   have hcn:=KG (k:=ks'.getD j []) (eb:=nu1.eb) (e:= .opn (AI nu1 false)) hA'
   rw[CQ]at hcn
   rw[<-hcn]at H''
   exact⟨⟨j+1,_,_,_,AI nu1 false,σ'',rfl,hlt,rfl,rfl,rfl,rfl,rfl,hq1,J2 hA' hl,H'',by omega⟩,by simp only[Int.toNat_natCast];omega⟩
  ·rw[Option.map_some]
   rw[hl]at hh1
   refine Aa rfl (show need _ _ from Aa rfl (Aa rfl (H'.ent0 hA' hl ?_)))
   cases e with
   | opn u=>
    simp only at hh1
    refine Aa rfl (show need _ _ from Aa rfl (Aa rfl (H'.ent0 hA' hl ?_)))
    exact step hh1 (LJ hA' hl)
   | lst l=>
    refine Aa rfl (show need _ _ from Aa rfl (Aa rfl (H'.ent1 hA' hl fun v hv=>?_)))
    have hvl:lenS v=l.length:=by rw[hv.len];simp[OG]
    have hne:l≠ []:=by have:=(H'.ent hA' hl).2.1;intro e;rw[e]at this;exact this rfl
    have hlp:0<l.length:=List.length_pos_iff.2 hne
    refine Aa hv.sl ?_
    rw[hvl]
    refine Ab (fun _=>?_) fun hb=>absurd (by omega) hb
    simp only at hh1
    cases b1 with
    | false=>exact hk2 nu st1 (by
      rw[if_neg (by simp)]at hh1
      have:=JS (ks'.take (j+1)) (ks'.drop (j+1)) 0 T h hh1
      rwa [List.take_append_drop]at this)
    | true=>
     rw[if_pos rfl]at hh1
     refine AD (fun _=>?_) (fun hb=>by cases hb)
     refine Aa rfl (Aa rfl (H'.ent1 hA' hl fun v' hv'=>Aa rfl (Aa rfl (H'.ent1 hA' hl fun v2' hv2=>Aa hv2.sl ?_))))
     have hll:l.length<=(Af T').cnt:=by
      have:=SW hl
      have:=(Rq hA').1
      omega
     have hwl:IntKind.wrap .i64 ((lenS v2':Int)-1)=((l.length-1:Nat):Int):=by
      rw[hv2.len,Ai _ (by simp[OG];omega) (by simp[OG];omega)];simp[OG];omega
     rw[hwl]
     have hu:l[l.length-1]? =some (l.getD (l.length-1) (.mk 0 0 false [])):=by
      rw[List.getD_eq_getElem?_getD,List.getElem?_eq_getElem (by omega)];rfl
     refine⟨⟨by omega,by rw[hv'.lenZ];simp[OG];omega⟩,?_⟩
     rw[Int.toNat_natCast]
     refine hv'.get (x:= .box (l.getD (l.length-1) (.mk 0 0 false [])).b 0) ?_ ?_
     ·simp only[OG,List.getElem?_map,hu];rfl
     ·exact step hh1 (Ht hA' hl hu)
   | clo w i=>
    refine Aa rfl (show need _ _ from Aa rfl (Aa rfl (H'.ent1 hA' hl fun v hv=>Aa hv.sl ?_)))
    have hvl:lenS v=0:=by rw[hv.len];rfl
    rw[hvl]
    refine Ab (fun hb=>absurd hb (by omega)) fun _=>?_
    simp only at hh1
    exact hk2 nu st1 (by
     have:=JS (ks'.take (j+1)) (ks'.drop (j+1)) 0 T h hh1
     rwa [List.take_append_drop]at this)
 ·have:j=ks'.length:=by omega
  subst this
  rw[List.take_length]at hh
  exact hk1 nu T' h' t' σ' st1 hh hA' H' (by omega)
end
theorem sh_head (d:Nat) (u:Tb):shT d (CA u)=⟨u.b,u.m,true,d,u.es.map shK⟩::BR d u.es:=by cases u;rfl
theorem Qc (u:Tb):(CA u).b=u.b:=by cases u;rfl
theorem HP.same {σ:Nat->TV} {st st':St} {L:List Sh} (h:HP σ st L) (hnb:st.nb<=st'.nb) (hb:∀x,x∈bxL L->st'.box x=st.box x) (hl:∀id,id<st.nt->st.live id=true->id<st'.nt/\st'.live id=true):HP σ st' L:=
 ⟨h.nd,fun x hx=>Nat.lt_of_lt_of_le (h.lt x hx) hnb,fun s hs=>(h.sh s hs).fr fun x hx=>⟨hb x (Bn hs hx),rfl⟩,fun x hx id hid=>hl id (h.tip x hx id hid).1 (h.tip x hx id hid).2,h.td⟩
theorem HP.hd {σ:Nat->TV} {st:St} {A R B:List Sh} {s:Sh} {x:Bool} (h:HP σ st (A++((s::R)++B))):HP σ st (A++((⟨s.b,s.m,x,s.d,s.es⟩::R)++B)):=by
 have e:bxL (A++((⟨s.b,s.m,x,s.d,s.es⟩::R)++B))=bxL (A++((s::R)++B)):=by
  rw[AN,AN,A1,AN,AN,A1];rfl
 refine⟨by rw[e];exact h.nd,by rw[e];exact h.lt,fun s' hs'=>?_,by rw[e];exact h.tip,by rw[e];exact h.td⟩
 rcases List.mem_append.1 hs' with h1 | h1
 ·exact h.sh s' (List.mem_append_left _ h1)
 ·rcases List.mem_append.1 h1 with h1 | h1
  ·rcases List.mem_cons.1 h1 with rfl | h1
   ·have:=h.sh s (List.mem_append_right _ (List.mem_append_left _ (.head _)))
    exact⟨this.cell,this.row,this.mp,this.en⟩
   ·exact h.sh s' (List.mem_append_right _ (List.mem_append_left _ (.tail _ h1)))
  ·exact h.sh s' (List.mem_append_right _ (List.mem_append_right _ h1))
theorem BH.bu {bb ub:Nat} {now:TV} {T:Tb} {nodes:Nat} {σ:Nat->TV} {st:St} (H:BH bb ub now T nodes σ st):bb≠ub:=fun e=>by
 obtain⟨up,hup⟩:=H.un
 have:=H.cell;rw[e,hup.box]at this;cases this
theorem BH.plook {bb ub:Nat} {now:TV} {T u:Tb} {nodes:Nat} {σ:Nat->TV} {st:St} {h:List Hop} (H:BH bb ub now T nodes σ st) (hA:atT T h=some u) {f:TV->Prop} (hf:f (.bool !u.hd)):
  Ar (plook st (.map ub) (.box u.b 0) false (.bool false)) f:=by
 obtain⟨up,hup⟩:=H.un
 obtain⟨hS,hm⟩:=H.tab hA
 have hc:Ao st u.b=true:=by have:=hS.cell;simp only at this;simp[Ao,this]
 have hg:=JJ hup.box (fun p hp=>(hup.ok p hp).1) hc
 refine Ae (x:= .bool !u.hd) ?_ hf
 unfold Go.TVF.plook
 rw[hg]
 have:=hup.fd _ hm
 simp only at this
 simp only[Option.map_some,this]
 cases u.hd<;>rfl
theorem Q9 {bb ub eb:Nat} {now:TV} {T u:Tb} {nodes:Nat} {σ:Nat->TV} {st:St} {h:List Hop} (H:BH bb ub now T nodes σ st) (hA:atT T h=some u) {r:List TV} (he:st.box eb= .cells (.box u.b 0::r)) {K:St->Prop}
  (hk:∀st',BH bb ub (.box u.b 0) (Ay T h (CA u)) nodes σ st'->K st'):
  pdK (.map ub) (.box u.b 0) st fun st3=>Ar (Ac st3 [] (.t (.box eb 0)) 0) fun v8=>need (List.all [v8] At) (stB st3 (.box bb 1) [v8] K):=by
 obtain⟨up,hup⟩:=H.un
 obtain⟨hS,hm⟩:=H.tab hA
 have hc:Ao st u.b=true:=by have:=hS.cell;simp only at this;simp[Ao,this]
 have hg:=JJ hup.box (fun p hp=>(hup.ok p hp).1) hc
 have hue:eb≠ub:=fun e=>by rw[e,hup.box]at he;cases he
 have hbu:=H.bu
 refine Ae hg ?_
 refine Ae (x:= .box u.b 0) (by simp[Ac,St.put,Hh,hue,he]) (Aa rfl ?_)
 refine⟨[.box T.b 0,now,.map ub,.int .i64 nodes],by simp[St.put,Hh,hbu,H.cell],by simp,?_⟩
 obtain⟨A,B,e1,e2⟩:=HV h hA 1
 have e3:=e2 (CA u) (Qc u)
 rw[Ep (1+dpH h) u]at e1
 rw[sh_head]at e3
 have hp:=H.hp
 rw[e1]at hp
 have bx:=H.bx
 have ux:=H.ux
 have hbl:=H.bl
 have hul:=H.ul
 have eb':bxL (shT 1 (Ay T h (CA u)))=bxL (shT 1 T):=by
  rw[e1,e3,AN,AN,A1,AN,AN,A1];rfl
 have kb:∀x,x≠bb->x≠ub->((st.put ub (.pmap (GL u.b up))).put bb (.cells (setAll [.box T.b 0,now,.map ub,.int .i64 nodes] 1 [.box u.b 0]))).box x=st.box x:=fun x h1 h2=>by simp[St.put,h1,h2]
 have fdo:∀s,s∈A++((⟨u.b,u.m,u.hd,1+dpH h,u.es.map shK⟩::BR (1+dpH h) u.es)++B)->s.b≠u.b->BD s.b (GL u.b up)=if s.hd=true then none else some (.bool true):=fun s hs hne=>by
  rw[JX _ _ _ hup.nd,if_neg hne]
  refine hup.fd s ?_
  rw[e1];exact hs
 obtain⟨n1,n2,n3⟩:=Ja hp.nd
 have hub:u.b∈bxL (⟨u.b,u.m,u.hd,1+dpH h,u.es.map shK⟩::BR (1+dpH h) u.es):=by rw[A1];exact List.mem_append_left _ (.head _)
 refine hk _ ⟨?_,?_,⟨GL u.b up,?_,Rl _ _ hup.nd,fun p hp'=>?_,fun s hs=>?_⟩,hbl,hul,by rw[eb'];exact bx,by rw[eb'];exact ux⟩
 ·rw[e3]
  have:=HP.hd (x:=true) hp
  refine HP.same this (Nat.le_refl _) (fun x hx=>?_) fun id h1 h2=>⟨h1,h2⟩
  have hx':x∈bxL (shT 1 T):=by rw[<-eb',e3];exact hx
  exact kb x (fun e=>bx (e▸hx')) fun e=>ux (e▸hx')
 ·rw[Fk h (x:=CA u) hA (Qc u)]
  simp[St.put,setAll]
 ·show(if ub=bb then _ else if ub=Hh (.map ub)then _ else _)=_
  rw[if_neg (Ne.symm hbu)]
  exact if_pos rfl
 ·obtain⟨q1,q2⟩:=hup.ok p (LA _ _ p hp')
  refine⟨?_,q2⟩
  by_cases c1:p.1=bb
  ·rw[c1];simp[Ao,St.put,setAll]
  ·by_cases c2:p.1=ub
   ·rw[c2]at q1;simp[Ao,hup.box]at q1
   ·have:=kb p.1 c1 c2
    unfold Ao at q1⊢
    show(match ((st.put ub (.pmap (GL u.b up))).put bb (.cells (setAll [.box T.b 0,now,.map ub,.int .i64 nodes] 1 [.box u.b 0]))).box p.1 with | .cells (_::_)=>true | _=>false)=true
    rw[this];exact q1
 ·rw[e3]at hs
  rcases List.mem_append.1 hs with h1 | h1
  ·exact fdo s (List.mem_append_left _ h1) fun e=>(n3 _ hub).1 (e▸Bn h1 (.head _))
  ·rcases List.mem_append.1 h1 with h1 | h1
   ·rcases List.mem_cons.1 h1 with rfl | h1
    ·rw[JX _ _ _ hup.nd,if_pos rfl];rfl
    ·refine fdo s (List.mem_append_right _ (List.mem_append_left _ (.tail _ h1))) fun e=>?_
     rw[A1]at n2
     exact(List.nodup_append.1 n2).2.2 u.b (.head _) s.b (Bn h1 (.head _)) e.symm
   ·exact fdo s (List.mem_append_right _ (List.mem_append_right _ h1)) fun e=>(n3 _ hub).2 (e▸Bn h1 (.head _))
theorem Np {T t u:Tb} {h:List Hop} {k:B8} {eb:Nat} (hA:atT T h=some t) (hl:Ah k t.es=some (eb,.opn u)) (x:Tb):Ay T (h++[(k,none)]) x=Ay T h (CZ t k (.opn x)):=by
 rw[HC h _ hA]
 congr 1
 obtain⟨b,m,hd,es⟩:=t
 simp only[Tb.es]at hl
 rw[Ay,hl]
 cases u;rfl
theorem chg_add {t:Tb} {k:B8} {eb:Nat} {e x:En} (hl:Ah k t.es=none):CZ (AO t k eb e) k x=AO t k eb x:=by
 have:∀es:List Kn,Ah k es=none->BN k x (es++[.mk k eb e])=es++[.mk k eb x]:=by
  intro es
  induction es with
  | nil=>intro _;simp[BN]
  | cons d r ih=>
   obtain⟨k',eb',e'⟩:=d
   intro hn
   unfold Ah at hn
   by_cases hk:k=k'
   ·rw[if_pos hk]at hn;cases hn
   ·rw[if_neg hk]at hn
    rw[List.cons_append,BN,if_neg hk,ih hn];rfl
 show Tb.mk t.b t.m t.hd (BN k x (t.es++[.mk k eb e]))=Tb.mk t.b t.m t.hd (t.es++[.mk k eb x])
 rw[this _ hl]
def Ji (nu:Nu) (T t:Tb) (h:List Hop) (k:B8):Except Int (Tb×List Hop):=match Ah k t.es with
 | none=> .ok (Ay T h (AO t k nu.eb (.opn (AI nu true))),h++[(k,none)])
 | some (_,.opn u)=>if u.hd=true then .error 8 else .ok (Ay T h (CZ t k (.opn (CA u))),h++[(k,none)])
 | some _=> .error 8
theorem QB {bb ub:Nat} {now:TV} {T t:Tb} {σ:Nat->TV} {st:St} {h:List Hop} {k:B8} {K:Int->St->Prop} (H:BH bb ub now T (Af T).cnt σ st) (hA:atT T h=some t) (hc:(Af T).cnt<=800000)
  (hk1:∀nu T' h' u σ' st',Ji nu T t h k= .ok (T',h')->atT T' h'=some u->BH bb ub (.box u.b 0) T' (Af T').cnt σ' st'->(Af T').cnt<=(Af T).cnt+1->K 0 st')
  (hk2:∀nu st',Ji nu T t h k= .error 8->K 8 st'):
  CallT PR BU [.box bb 0,.box t.b 0,.str k] [.one (.int .i64)] st K:=by
 refine Fg bb t.b k st K (H.ldm hA (H.map hA fun es hes=>?_))
 rw[hes k]
 have nu0:Nu:=⟨0,0,0⟩
 rcases hl:Ah k t.es with _ | ⟨eb,e⟩
 ·rw[Option.map_none]
  have hdp:=Lx hA
  refine Aa rfl (show Ar _ _ from H.ldd hA (BE ?_))
  have hwd:IntKind.wrap .i64 (((1+dpH h:Nat):Int)+1)=((1+dpH h+1:Nat):Int):=by rw[Ai _ (by omega) (by omega)];simp
  rw[hwd]
  refine OO H hA hl (by omega) rfl (fun nu σ' st1 st2 he H1=>?_)
  have hA1:=J2 (nu:=nu) (hd:=false) hA hl
  have hl1:Ah k (AO t k nu.eb (.opn (AI nu false))).es=some (nu.eb,.opn (AI nu false)):=by
   have:=Jc (k2:=k) (eb:=nu.eb) (e:= .opn (AI nu false)) hl
   rw[if_pos rfl]at this;exact this
  have hA0:=BJ h (x:=AO t k nu.eb (.opn (AI nu false))) hA
  have hcn:=KG (k:=k) (eb:=nu.eb) (e:= .opn (AI nu false)) hA
  rw[CQ]at hcn
  rw[<-he]
  refine H1.ent0 hA0 hl1 (Aa rfl (show Ar _ _ from ?_))
  refine Ae (x:= .map ub) (by simp only[Ac,H1.cell];rfl) (H1.ent0 hA0 hl1 (H1.plook hA1 (EM (show Ar _ _ from ?_))))
  refine Ae (x:= .map ub) (by simp only[Ac,H1.cell];rfl) (H1.ent0 hA0 hl1 ?_)
  have hee:=H1.ent hA0 hl1
  refine Q9 H1 hA1 hee.1 fun st' H2=>?_
  have e9:Ay (Ay T h (AO t k nu.eb (.opn (AI nu false)))) (h++[(k,none)]) (CA (AI nu false))=Ay T h (AO t k nu.eb (.opn (AI nu true))):=by
   rw[Np hA0 hl1,CX h hA,chg_add hl];rfl
  rw[e9]at H2
  have hcn2:=KG (k:=k) (eb:=nu.eb) (e:= .opn (AI nu true)) hA
  rw[CQ]at hcn2
  refine hk1 nu _ _ (AI nu true) σ' st' (by unfold Ji;rw[hl]) (J2 hA hl) ?_ (by omega)
  rw[hcn2];exact H2
 ·rw[Option.map_some]
  refine Aa rfl (show need _ _ from Aa rfl (Aa rfl (H.ent0 hA hl ?_)))
  cases e with
  | opn u=>
   have hAu:=LJ hA hl
   refine Aa rfl (show Ar _ _ from ?_)
   refine Ae (x:= .map ub) (by simp only[Ac,H.cell];rfl) (Aa rfl (Aa rfl (H.ent0 hA hl (H.plook hAu (EM (AD (fun hb=>?_) fun hb=>?_))))))
   ·exact hk2 nu0 st (by unfold Ji;rw[hl];simp only;rw[if_pos (by simpa using hb)])
   ·have hee:=H.ent hA hl
    refine Ae (x:= .map ub) (by simp only[Ac,H.cell];rfl) (Aa rfl (Aa rfl (H.ent0 hA hl ?_)))
    have hd0:u.hd=false:=by simpa using hb
    refine Q9 H hAu hee.1 fun st' H2=>?_
    have hcc:=(CR (h++[(k,none)]) hAu (CA u)).cnt
    have hvv:Af (CA u)=Af u:=by cases u;unfold CA;rw[Af,Af]
    rw[hvv]at hcc
    have hcn:(Af (Ay T (h++[(k,none)]) (CA u))).cnt=(Af T).cnt:=by omega
    rw[<-hcn]at H2
    rw[Np hA hl]at H2 hcn
    refine hk1 nu0 _ _ (CA u) σ st' (by unfold Ji;rw[hl];simp only;rw[if_neg (by simp[hd0])]) ?_ (by rw[Qc];exact H2) (by omega)
    rw[<-Np hA hl];exact BJ _ hAu
  | lst l=>exact Aa rfl (show K 8 st from hk2 nu0 st (by unfold Ji;rw[hl]))
  | clo v i=>exact Aa rfl (show K 8 st from hk2 nu0 st (by unfold Ji;rw[hl]))
theorem BH.add {bb ub eb nodes nodes':Nat} {now now':TV} {T t:Tb} {σ σ':Nat->TV} {st st':St} {h:List Hop} {k:B8} {e:En} {up up':List (Nat×TV)} (H:BH bb ub now T nodes σ st) (hA:atT T h=some t) (hl:Ah k t.es=none)
  (hnb:st.nb<=st'.nb) (hup:Un ub (shT 1 T) st up)
  (kx:∀x,x<st.nb->x≠bb->x≠ub->x≠t.b->x≠t.m->st'.box x=st.box x) (ks:∀x,x<st.nb->x≠t.b->σ' x=σ x)
  (kt:st'.box t.b= .cells [σ' t.b,.map t.m,.int .i64 ((1+dpH h:Nat):Int)]) (kr:C0 (σ' t.b) (((t.es.map shK++[(k,eb,shE e)]).map fun x=>x.1).map TV.str))
  (km:∀mp,st.box t.m= .map mp->st'.box t.m= .map (FD k (.box eb 0) mp)) (kb:st'.box bb= .cells [.box T.b 0,now',.map ub,.int .i64 nodes']) (ku:st'.box ub= .pmap up')
  (hu:(up'=up/\A9 (1+dpH h) e=[])∨∃n,up'=Ew n (.bool true) up/\st.nb<=n/\n<st'.nb/\Ao st' n=true/\∀s,s∈A9 (1+dpH h) e->s.b=n/\s.hd=false)
  (he:Ky σ' st' eb (shE e)) (hN:∀s,s∈A9 (1+dpH h) e->LP σ' st' s) (hnd:(eb::bxL (A9 (1+dpH h) e)).Nodup) (hnew:∀x,x∈eb::bxL (A9 (1+dpH h) e)->st.nb<=x/\x<st'.nb)
  (htip:∀x,x∈t.b::eb::bxL (A9 (1+dpH h) e)->∀id,Bf (σ' x)=some id->st.nt<=id/\id<st'.nt/\st'.live id=true)
  (htd:∀x,x∈t.b::eb::bxL (A9 (1+dpH h) e)->∀y,y∈t.b::eb::bxL (A9 (1+dpH h) e)->x≠y->∀id,Bf (σ' x)=some id->Bf (σ' y)≠some id)
  (hlv:∀i,i<st.nt->st.live i=true->Bf (σ t.b)≠some i->i<st'.nt/\st'.live i=true):BH bb ub now' (Ay T h (AO t k eb e)) nodes' σ' st':=by
 obtain⟨A,B,e1,e2⟩:=HV h hA 1
 rw[Ep (1+dpH h) t]at e1
 have hp:=H.hp
 rw[e1]at hp
 have ht':=e2 (AO t k eb e) rfl
 rw[Nl]at ht'
 have hS:=hp.sh _ (List.mem_append_right A (List.mem_append_left B (List.mem_cons_self ..)))
 have hin:∀{x},x∈bxS ⟨t.b,t.m,t.hd,1+dpH h,t.es.map shK⟩->x∈bxL (A++((⟨t.b,t.m,t.hd,1+dpH h,t.es.map shK⟩::BR (1+dpH h) t.es)++B)):=fun hx=>
  Bn (List.mem_append_right A (List.mem_append_left B (List.mem_cons_self ..))) hx
 have itb:=hin (x:=t.b) (.head _)
 have itm:=hin (x:=t.m) (.tail _ (.head _))
 have ltb:t.b<st.nb:=hp.lt _ itb
 have ltm:t.m<st.nb:=hp.lt _ itm
 have bx:=H.bx
 have ux:=H.ux
 rw[e1]at bx ux
 have hbl:=H.bl
 have hul:=H.ul
 obtain⟨mp,hm1,hm2⟩:=hS.mp
 have hmt:t.m≠t.b:=fun e=>by have:=hS.cell;simp only at this hm1;rw[e,this]at hm1;cases hm1
 have HP':HP σ' st' (A++((⟨t.b,t.m,t.hd,1+dpH h,t.es.map shK++[(k,eb,shE e)]⟩::(BR (1+dpH h) t.es++A9 (1+dpH h) e))++B)):=by
  refine HP.add hp hnb (fun x hx h2 h3=>⟨kx x (hp.lt x hx) (fun e=>bx (e▸hx)) (fun e=>ux (e▸hx)) h2 h3,ks x (hp.lt x hx) h2⟩) (fun x hx hne id hid=>?_) kt kr ⟨mp,hm1,km mp hm1⟩ (ks _ ltm hmt) ?_ he hN hnd hnew htip htd
  ·have hq:=hp.tip x hx id hid
   exact hlv id hq.1 hq.2 fun e=>hp.td x hx t.b itb hne id hid e
  ·rw[Gc,hl];rfl
 have memb:∀x,x∈bxL (A++((⟨t.b,t.m,t.hd,1+dpH h,t.es.map shK++[(k,eb,shE e)]⟩::(BR (1+dpH h) t.es++A9 (1+dpH h) e))++B))->
   x∈bxL (A++((⟨t.b,t.m,t.hd,1+dpH h,t.es.map shK⟩::BR (1+dpH h) t.es)++B))∨st.nb<=x:=fun x hx=>by
  rcases QW (s:=⟨t.b,t.m,t.hd,1+dpH h,t.es.map shK⟩) (eb:=eb) (by simp[bxS]) hx with h1 | h1 | h1
  ·exact .inl h1
  ·exact .inr (by rw[h1];exact(hnew eb (.head _)).1)
  ·exact .inr (hnew x (.tail _ h1)).1
 have isc:∀p,p∈up->Ao st' p.1=true/\p.1<st'.nb:=fun p hp'=>by
  obtain⟨q1,q2⟩:=hup.ok p hp'
  refine⟨?_,by omega⟩
  by_cases c1:p.1=t.m
  ·have hm1':st.box t.m= .map mp:=hm1
   rw[c1]at q1;simp[Ao,hm1']at q1
  ·by_cases c2:p.1=t.b
   ·rw[c2];simp[Ao,kt]
   ·by_cases c3:p.1=bb
    ·rw[c3];simp[Ao,kb]
    ·by_cases c4:p.1=ub
     ·rw[c4]at q1;simp[Ao,hup.box]at q1
     ·simp only[Ao,kx _ q2 c3 c4 c2 c1]at q1⊢;exact q1
 have fdo:∀s,s∈A++((⟨t.b,t.m,t.hd,1+dpH h,t.es.map shK⟩::BR (1+dpH h) t.es)++B)->BD s.b up=(if s.hd=true then none else some (.bool true))/\s.b<st.nb:=fun s hs=>
  ⟨hup.fd s (by rw[e1];exact hs),hp.lt _ (Bn hs (.head _))⟩
 have un:Un ub (shT 1 (Ay T h (AO t k eb e))) st' up':=by
  rw[ht']
  have all:∀(P:Sh->Prop),(∀s,s∈A++((⟨t.b,t.m,t.hd,1+dpH h,t.es.map shK⟩::BR (1+dpH h) t.es)++B)->P s)->(P ⟨t.b,t.m,t.hd,1+dpH h,t.es.map shK⟩->P ⟨t.b,t.m,t.hd,1+dpH h,t.es.map shK++[(k,eb,shE e)]⟩)->(∀s,s∈A9 (1+dpH h) e->P s)->
    ∀s,s∈A++((⟨t.b,t.m,t.hd,1+dpH h,t.es.map shK++[(k,eb,shE e)]⟩::(BR (1+dpH h) t.es++A9 (1+dpH h) e))++B)->P s:=fun P p1 p2 p3 s hs=>by
   rcases List.mem_append.1 hs with h1 | h1
   ·exact p1 s (List.mem_append_left _ h1)
   ·rcases List.mem_append.1 h1 with h1 | h1
    ·rcases List.mem_cons.1 h1 with rfl | h1
     ·exact p2 (p1 _ (List.mem_append_right _ (List.mem_append_left _ (.head _))))
     ·rcases List.mem_append.1 h1 with h1 | h1
      ·exact p1 s (List.mem_append_right _ (List.mem_append_left _ (.tail _ h1)))
      ·exact p3 s h1
    ·exact p1 s (List.mem_append_right _ (List.mem_append_right _ h1))
  rcases hu with⟨rfl,h0⟩ | ⟨n,rfl,g1,g2,g3,g4⟩
  ·exact⟨ku,hup.nd,isc,all _ (fun s hs=>(fdo s hs).1) (fun hx=>hx) fun s hs=>by rw[h0]at hs;cases hs⟩
  ·refine⟨ku,?_,fun p hp'=>?_,all _ (fun s hs=>?_) (fun hx=>hx) fun s hs=>?_⟩
   ·rw[HD _ _ _ fun p hp' e=>by have:=(hup.ok p hp').2;omega]
    refine List.nodup_append.2 ⟨hup.nd,by simp,fun x hx y hy e=>?_⟩
    obtain⟨p,hp',rfl⟩:=List.mem_map.1 hx
    have:=(hup.ok p hp').2
    rw[List.mem_singleton.1 hy]at e
    omega
   ·rcases IX _ _ _ p hp' with rfl | hp'
    ·exact⟨g3,g2⟩
    ·exact isc p hp'
   ·obtain⟨q1,q2⟩:=fdo s hs
    rw[DT,if_neg (by omega)];exact q1
   ·obtain⟨q1,q2⟩:=g4 s hs
    rw[DT,if_pos q1,q2];rfl
 refine⟨by rw[ht'];exact HP',by rw[Fk h (x:=AO t k eb e) hA rfl];exact kb,⟨up',un⟩,by omega,by omega,fun hx=>?_,fun hx=>?_⟩
 ·rw[ht']at hx
  rcases memb bb hx with h1 | h1
  ·exact bx h1
  ·omega
 ·rw[ht']at hx
  rcases memb ub hx with h1 | h1
  ·exact ux h1
  ·omega
theorem BH.apart {bb ub nodes:Nat} {now:TV} {T t:Tb} {σ:Nat->TV} {st:St} {h:List Hop} (H:BH bb ub now T nodes σ st) (hA:atT T h=some t):
  t.b<st.nb/\t.m<st.nb/\t.b≠bb/\t.b≠ub/\t.m≠bb/\t.m≠ub/\t.m≠t.b/\(∀id,Bf (σ t.b)=some id->id<st.nt/\st.live id=true):=by
 obtain⟨hS,hm⟩:=H.tab hA
 have itb:t.b∈bxL (shT 1 T):=Bn hm (.head _)
 have itm:t.m∈bxL (shT 1 T):=Bn hm (.tail _ (.head _))
 refine⟨H.hp.lt _ itb,H.hp.lt _ itm,fun e=>H.bx (e▸itb),fun e=>H.ux (e▸itb),fun e=>H.bx (e▸itm),fun e=>H.ux (e▸itm),fun e=>?_,H.hp.tip _ itb⟩
 obtain⟨mp,hm1,_⟩:=hS.mp
 have:=hS.cell;simp only at this hm1;rw[e,this]at hm1;cases hm1
theorem Un.isc {bb ub nodes:Nat} {now:TV} {T t:Tb} {σ:Nat->TV} {st st':St} {h:List Hop} {up:List (Nat×TV)} (H:BH bb ub now T nodes σ st) (hA:atT T h=some t) (hup:Un ub (shT 1 T) st up) (hnb:st.nb<=st'.nb)
  (kx:∀x,x<st.nb->x≠bb->x≠ub->x≠t.b->x≠t.m->st'.box x=st.box x) (kt:Ao st' t.b=true) (kb:Ao st' bb=true):∀p,p∈up->Ao st' p.1=true/\p.1<st'.nb:=fun p hp'=>by
 obtain⟨q1,q2⟩:=hup.ok p hp'
 obtain⟨mp,hm1,_⟩:=(H.tab hA).1.mp
 refine⟨?_,by omega⟩
 by_cases c1:p.1=t.m
 ·have hm1':st.box t.m= .map mp:=hm1
  rw[c1]at q1;simp[Ao,hm1']at q1
 ·by_cases c2:p.1=t.b
  ·rw[c2];exact kt
  ·by_cases c3:p.1=bb
   ·rw[c3];exact kb
   ·by_cases c4:p.1=ub
    ·rw[c4]at q1;simp[Ao,hup.box]at q1
    ·simp only[Ao,kx _ q2 c3 c4 c2 c1]at q1⊢;exact q1
theorem OX {T t:Tb} {h:List Hop} (hA:atT T h=some t) (hc:(Af T).cnt<=800000):((t.es.map shK).map fun x=>x.1).length<=1000000:=by
 rw[List.length_map,List.length_map];have:=NE t;have:=(Rq hA).1;omega
theorem clo_new {bb ub nodes:Nat} {now:TV} {T t:Tb} {σ:Nat->TV} {st:St} {h:List Hop} {k:B8} {v:Vl} {i:Nat} {cs:List TV} {K:St->Prop} (H:BH bb ub now T nodes σ st) (hA:atT T h=some t) (hl:Ah k t.es=none) (hc:(Af T).cnt<=800000)
  (hv:VlR St.zero v cs) (hcs:cs.length=13)
  (hk:∀σ' st',BH bb ub now (Ay T h (AO t k st.nb (.clo v i))) nodes σ' st'->K st'):
  CallT PR AS [.box t.b 0,.str k,.box st.nb 0] [] (st.push (.cells (.nilPtr:: .nilSlice::(cs++[.int .i64 i]))) (some 81)) K:=by
 obtain⟨ltb,ltm,nb1,nb2,nm1,nm2,hmt,htp⟩:=H.apart hA
 obtain⟨hS,hm⟩:=H.tab hA
 obtain⟨mp,hm1,hm2⟩:=hS.mp
 obtain⟨up,hup⟩:=H.un
 have hbl:=H.bl
 have hul:=H.ul
 refine Nf (kv:=σ t.b) (d:=1+dpH h) (m:=t.m) (ks:=(t.es.map shK).map fun x=>x.1) (es:=mp) ?_ ?_ hS.row htp (OX hA hc) fun kv' st' r1 r2 r3 r4 r5 r6 r7 r8=>?_
 ·show(if t.b=st.nb then _ else st.box t.b)=_
  rw[if_neg (by omega)];exact hS.cell
 ·show(if t.m=st.nb then _ else st.box t.m)=_
  rw[if_neg (by omega)];exact hm1
 have bx':∀x,st'.box x=if x=t.m then .map (FD k (.box st.nb 0) mp)else if x=t.b then .cells [kv',.map t.m,.int .i64 ((1+dpH h:Nat):Int)]else if x=st.nb then .cells (.nilPtr:: .nilSlice::(cs++[.int .i64 i]))else st.box x:=fun x=>by
  rw[r3];simp only[St.push]
 have nb':st'.nb=st.nb+1:=by rw[r4];rfl
 have nt':st'.nt=st.nt+1:=by rw[r6];rfl
 have k2:∀x,x<st.nb->x≠t.b->x≠t.m->st'.box x=st.box x:=fun x h1 h4 h5=>by
  rw[bx',if_neg h5,if_neg h4,if_neg (by omega)]
 let σ':Nat->TV:=fun x=>if x=t.b then kv' else if x<st.nb then σ x else .nilSlice
 have s1:σ' t.b=kv':=if_pos rfl
 have s2:∀x,x<st.nb->x≠t.b->σ' x=σ x:=fun x h1 h2=>by simp only[σ'];rw[if_neg h2,if_pos h1]
 have s3:∀x,st.nb<=x->σ' x= .nilSlice:=fun x h1=>by simp only[σ'];rw[if_neg (by omega),if_neg (by omega)]
 have eN:A9 (1+dpH h) (.clo v i)=[]:=by rw[A9]
 have tip':Bf kv'=some st.nt/\st'.live st.nt=true:=⟨r2,r7⟩
 have cl:∀{x},x∈t.b::st.nb::bxL (A9 (1+dpH h) (.clo v i))->x≠t.b->st.nb<=x:=fun {x} hx hne=>by
  rw[eN]at hx
  rcases List.mem_cons.1 hx with h1 | hx
  ·exact absurd h1 hne
  ·rcases List.mem_cons.1 hx with rfl | hx
   ·exact Nat.le_refl _
   ·cases hx
 refine hk σ' st' (H.add (up':=up) (σ':=σ') hA hl (by omega) hup (fun x h1 _ _ h4 h5=>k2 x h1 h4 h5) s2 ?_ ?_ (fun mp' h1=>?_) ?_ ?_ (.inl ⟨rfl,eN⟩) ⟨cs,hv,hcs,?_,by rw[s3 _ (Nat.le_refl _)];rfl⟩ (fun s hs=>by rw[eN]at hs;cases hs) (by rw[eN];simp[bxL]) (fun x hx=>?_) (fun x hx id hid=>?_) (fun x hx y hy hne id g1 g2=>?_) fun j h1 h2 h3=>⟨by omega,?_⟩)
 ·rw[s1,bx',if_neg (Ne.symm hmt),if_pos rfl]
 ·rw[s1];simp only[List.map_append]at r1⊢;exact r1
 ·have:mp'=mp:=by have h2:st.box t.m= .map mp:=hm1;rw[h2]at h1;cases h1;rfl
  rw[this,bx',if_pos rfl]
 ·rw[k2 _ hbl (Ne.symm nb1) (Ne.symm nm1)];exact H.cell
 ·rw[k2 _ hul (Ne.symm nb2) (Ne.symm nm2)];exact hup.box
 ·rw[bx',if_neg (by omega),if_neg (by omega),if_pos rfl]
 ·rw[eN]at hx
  rcases List.mem_cons.1 hx with rfl | hx
  ·omega
  ·cases hx
 ·by_cases hxb:x=t.b
  ·rw[hxb,s1,tip'.1]at hid
   cases hid
   exact⟨Nat.le_refl _,by omega,tip'.2⟩
  ·rw[s3 x (cl hx hxb)]at hid;cases hid
 ·by_cases hxb:x=t.b
  ·rw[s3 y (cl hy fun e=>hne (hxb.trans e.symm))]at g2;cases g2
  ·rw[s3 x (cl hx hxb)]at g1;cases g1
 ·rw[r8 j h1 h3];exact h2
def Kf (nu:Nu) (T t:Tb) (h:List Hop) (k:B8):Except Int (Tb×List Hop):=match Ah k t.es with
 | none=> .ok (Ay T h (AO t k nu.eb (.lst [AI nu false])),h++[(k,some 0)])
 | some (_,.lst l)=> .ok (Ay T h (CZ t k (.lst (l++[AI nu false]))),h++[(k,some l.length)])
 | some _=> .error 6
theorem Tu {bb ub:Nat} {now:TV} {T t:Tb} {σ:Nat->TV} {st:St} {h:List Hop} {k:B8} {K:Int->St->Prop} (H:BH bb ub now T (Af T).cnt σ st) (hA:atT T h=some t) (hl:Ah k t.es=none) (hc:(Af T).cnt<=800000)
  (hk:∀nu σ' st',BH bb ub (.box nu.b 0) (Ay T h (AO t k nu.eb (.lst [AI nu false]))) ((Af T).cnt+2) σ' st'->K 0 st'):
  CallT PR AS [.box t.b 0,.str k,.box st.nb 0] [] (st.push (.cells (.nilPtr:: .nilSlice::(z13++[.int .i64 0]))) (some 81)) fun st1=>Ar (Ac st1 [] (.t (.box bb 3)) 0) fun x2=>Bj (.int .i64) x2 fun n1=>
   stB st1 (.box bb 3) [.int .i64 (IntKind.wrap .i64 (n1+1))] fun st2=>Ar (Ac st2 [] (.t (.box t.b 2)) 0) fun x3=>Bj (.int .i64) x3 fun n2=>
   CallT PR AC [.box bb 0,.int .i64 (IntKind.wrap .i64 (n2+2))] [.one .tv] st2 fun v2 st3=>need (List.all [v2] At) (stB st3 (.box bb 1) [v2] fun st4=>Ar (Ac st4 [] (.t (.box st.nb 1)) 0) fun v3=>
   Ar (Ac st4 [] (.t (.box bb 1)) 0) fun v4=>need (List.all [v4] At) (need (List.all [v4] At) (Cx 61 1 8 v3 1 [v4] st4 fun v5 st5=>need (List.all [v5] At) (stB st5 (.box st.nb 1) [v5] fun st6=>K 0 st6)))):=by
 obtain⟨ltb,ltm,nb1,nb2,nm1,nm2,hmt,htp⟩:=H.apart hA
 obtain⟨hS,hm⟩:=H.tab hA
 obtain⟨mp,hm1,hm2⟩:=hS.mp
 obtain⟨up,hup⟩:=H.un
 have hbl:=H.bl
 have hul:=H.ul
 have hbu:=H.bu
 have hdp:=Lx hA
 refine Nf (kv:=σ t.b) (d:=1+dpH h) (m:=t.m) (ks:=(t.es.map shK).map fun x=>x.1) (es:=mp) ?_ ?_ hS.row htp (OX hA hc) fun kv' st1 r1 r2 r3 r4 r5 r6 r7 r8=>?_
 ·show(if t.b=st.nb then _ else st.box t.b)=_
  rw[if_neg (by omega)];exact hS.cell
 ·show(if t.m=st.nb then _ else st.box t.m)=_
  rw[if_neg (by omega)];exact hm1
 have bx1:∀x,st1.box x=if x=t.m then .map (FD k (.box st.nb 0) mp)else if x=t.b then .cells [kv',.map t.m,.int .i64 ((1+dpH h:Nat):Int)]else if x=st.nb then .cells (.nilPtr:: .nilSlice::(z13++[.int .i64 0]))else st.box x:=fun x=>by
  rw[r3];simp only[St.push]
 have nbs1:st1.nb=st.nb+1:=by rw[r4];rfl
 have nts1:st1.nt=st.nt+1:=by rw[r6];rfl
 have hbb1:st1.box bb= .cells [.box T.b 0,now,.map ub,.int .i64 (Af T).cnt]:=by
  rw[bx1,if_neg (Ne.symm nm1),if_neg (Ne.symm nb1),if_neg (by omega)];exact H.cell
 refine Ae (x:= .int .i64 (Af T).cnt) (by simp only[Ac,hbb1];rfl) (BE ⟨_,hbb1,by simp,?_⟩)
 rw[Ai _ (by omega) (by omega)]
 generalize hst2:st1.put bb (.cells (setAll [.box T.b 0,now,.map ub,.int .i64 ((Af T).cnt:Int)] 3 [.int .i64 (((Af T).cnt:Int)+1)]))=st2
 have bx2:∀x,st2.box x=if x=bb then .cells [.box T.b 0,now,.map ub,.int .i64 (((Af T).cnt:Int)+1)]else st1.box x:=fun x=>by rw[<-hst2];rfl
 have nbs2:st2.nb=st.nb+1:=by rw[<-hst2];exact nbs1
 have nts2:st2.nt=st.nt+1:=by rw[<-hst2];exact nts1
 have lvs2:st2.live=st1.live:=by rw[<-hst2];rfl
 have ht2:st2.box t.b= .cells [kv',.map t.m,.int .i64 ((1+dpH h:Nat):Int)]:=by rw[bx2,if_neg nb1,bx1,if_neg (Ne.symm hmt),if_pos rfl]
 have hbb2:st2.box bb= .cells [.box T.b 0,now,.map ub,.int .i64 (((Af T).cnt:Int)+1)]:=by rw[bx2,if_pos rfl]
 have hu2:st2.box ub= .pmap up:=by rw[bx2,if_neg (Ne.symm hbu),bx1,if_neg (Ne.symm nm2),if_neg (Ne.symm nb2),if_neg (by omega)];exact hup.box
 refine Ae (x:= .int .i64 ((1+dpH h:Nat):Int)) (by simp only[Ac,ht2];rfl) (BE ?_)
 have hwd:IntKind.wrap .i64 (((1+dpH h:Nat):Int)+2)=((1+dpH h+2:Nat):Int):=by rw[Ai _ (by omega) (by omega)];simp
 rw[hwd]
 have isc2:=Un.isc (st':=st2) H hA hup (by omega) (fun x h1 h2 h3 h4 h5=>by rw[bx2,if_neg h2,bx1,if_neg h5,if_neg h4,if_neg (by omega)]) (by simp[Ao,ht2]) (by simp[Ao,hbb2])
 refine HM hbb2 hu2 (by omega) (by omega) isc2 ⟨by omega,by omega⟩ fun st3 q1 q2 q3 q4=>Aa rfl ?_
 rw[nbs2]at q1 q2⊢
 have hbb3:st3.box bb= .cells [.box T.b 0,now,.map ub,.int .i64 (((Af T).cnt:Int)+1+1)]:=by rw[q2];simp only;rw[if_pos trivial]
 refine⟨_,hbb3,by simp,?_⟩
 generalize hst4:st3.put bb (.cells (setAll [.box T.b 0,now,.map ub,.int .i64 (((Af T).cnt:Int)+1+1)] 1 [.box (st.nb+1+1) 0]))=st4
 have bx4:∀x,st4.box x=if x=bb then .cells [.box T.b 0,.box (st.nb+1+1) 0,.map ub,.int .i64 (((Af T).cnt:Int)+1+1)]else st3.box x:=fun x=>by rw[<-hst4];rfl
 have nbs4:st4.nb=st.nb+3:=by rw[<-hst4];show st3.nb=_;omega
 have nts4:st4.nt=st.nt+1:=by rw[<-hst4];show st3.nt=_;omega
 have lvs4:st4.live=st1.live:=by rw[<-hst4];show st3.live=_;rw[q4,lvs2]
 have he4:st4.box st.nb= .cells (.nilPtr:: .nilSlice::(z13++[.int .i64 0])):=by
  rw[bx4,if_neg (by omega),q2];simp only
  rw[if_neg (by omega),if_neg (by omega),if_neg (by omega),if_neg (by omega),bx2,if_neg (by omega),bx1,if_neg (by omega),if_neg (by omega),if_pos rfl]
 refine Ae (x:= .nilSlice) (by simp only[Ac,he4];rfl) (Ae (x:= .box (st.nb+1+1) 0) (by simp only[Ac,bx4,if_pos trivial];rfl) (Aa rfl (Aa rfl ?_)))
 refine LL C0.nil (fun id hid=>by cases hid) (by simp) fun v5 st5 w1 w2 w3 w4 w5 w6 w7 w8=>?_
 have w1':At v5=true:=by
  rcases w1 with⟨_,hx⟩ | ⟨tip,h9,_⟩
  ·simp at hx
  ·rw[h9];rfl
 have he5:st5.box st.nb= .cells (.nilPtr:: .nilSlice::(z13++[.int .i64 0])):=by rw[w3];exact he4
 refine Aa (by simp[w1']) ⟨_,he5,by simp,?_⟩
 generalize hst6:st5.put st.nb (.cells (setAll (.nilPtr:: .nilSlice::(z13++[.int .i64 0])) 1 [v5]))=st6
 have bx6:∀x,st6.box x=if x=st.nb then .cells (.nilPtr::v5::(z13++[.int .i64 0]))else st4.box x:=fun x=>by rw[<-hst6,<-w3];rfl
 have nbs6:st6.nb=st.nb+3:=by rw[<-hst6];show st5.nb=_;omega
 have nts6:st6.nt=st.nt+2:=by rw[<-hst6];show st5.nt=_;omega
 have lvs6:st6.live=st5.live:=by rw[<-hst6];rfl
 rw[nts4]at w2 w7 w8
 have tl0:st6.live st.nt=true:=by
  rw[lvs6,w8 st.nt (by omega) (by simp[Bf]),lvs4];exact r7
 have tl1:st6.live (st.nt+1)=true:=by rw[lvs6];exact w7
 have r2':Bf kv'=some st.nt:=r2
 have old:∀x,x<st.nb->x≠bb->x≠ub->st6.box x=st1.box x:=fun x h1 h2 h3=>by
  rw[bx6,if_neg (by omega),bx4,if_neg h2,q2];simp only
  rw[if_neg h2,if_neg h3,if_neg (by omega),if_neg (by omega),bx2,if_neg h2]
 have kn1:st6.box (st.nb+1+1)= .cells [.nilSlice,.map (st.nb+1),.int .i64 ((1+dpH h+2:Nat):Int)]:=by
  rw[bx6,if_neg (by omega),bx4,if_neg (by omega),q2];simp only
  rw[if_neg (by omega),if_neg (by omega),if_pos trivial]
 have kn0:st6.box (st.nb+1)= .map []:=by
  rw[bx6,if_neg (by omega),bx4,if_neg (by omega),q2];simp only
  rw[if_neg (by omega),if_neg (by omega),if_neg (by omega),if_pos trivial]
 have kub:st6.box ub= .pmap (Ew (st.nb+1+1) (.bool true) up):=by
  rw[bx6,if_neg (by omega),bx4,if_neg (Ne.symm hbu),q2];simp only
  rw[if_neg (Ne.symm hbu),if_pos trivial]
 let σ':Nat->TV:=fun x=>if x=t.b then kv' else if x=st.nb then v5 else if x<st.nb then σ x else .nilSlice
 have s1:σ' t.b=kv':=if_pos rfl
 have s1':σ' st.nb=v5:=by simp only[σ'];rw[if_neg (by omega),if_pos trivial]
 have s2:∀x,x<st.nb->x≠t.b->σ' x=σ x:=fun x h1 h2=>by simp only[σ'];rw[if_neg h2,if_neg (by omega),if_pos h1]
 have s3:∀x,st.nb<x->σ' x= .nilSlice:=fun x h1=>by simp only[σ'];rw[if_neg (by omega),if_neg (by omega),if_neg (by omega)]
 have eN:A9 (1+dpH h) (.lst [AI ⟨st.nb+1+1,st.nb+1,st.nb⟩ false])=[⟨st.nb+1+1,st.nb+1,false,1+dpH h+2,[]⟩]:=by
  rw[A9,Dy,Dy,AI,shT,BR];rfl
 have bN:bxL [⟨st.nb+1+1,st.nb+1,false,1+dpH h+2,[]⟩]=[st.nb+1+1,st.nb+1]:=rfl
 have cl:∀{x},x∈t.b::st.nb::bxL (A9 (1+dpH h) (.lst [AI ⟨st.nb+1+1,st.nb+1,st.nb⟩ false]))->x=t.b∨x=st.nb∨(st.nb<x/\x<st.nb+3):=fun {x} hx=>by
  rw[eN,bN]at hx
  rcases List.mem_cons.1 hx with h1 | hx
  ·exact .inl h1
  ·rcases List.mem_cons.1 hx with h1 | hx
   ·exact .inr (.inl h1)
   ·rcases List.mem_cons.1 hx with rfl | hx
    ·exact .inr (.inr ⟨by omega,by omega⟩)
    ·rw[List.mem_singleton.1 hx];exact .inr (.inr ⟨by omega,by omega⟩)
 have tp:∀{x id},x∈t.b::st.nb::bxL (A9 (1+dpH h) (.lst [AI ⟨st.nb+1+1,st.nb+1,st.nb⟩ false]))->Bf (σ' x)=some id->(x=t.b/\id=st.nt)∨(x=st.nb/\id=st.nt+1):=fun {x id} hx hid=>by
  rcases cl hx with rfl | rfl | h1
  ·rw[s1,r2']at hid;cases hid;exact .inl ⟨rfl,rfl⟩
  ·rw[s1',w2]at hid;cases hid;exact .inr ⟨rfl,rfl⟩
  ·rw[s3 x h1.1]at hid;cases hid
 refine hk ⟨st.nb+1+1,st.nb+1,st.nb⟩ σ' st6 (H.add (up':=Ew (st.nb+1+1) (.bool true) up) (σ':=σ') hA hl (by omega) hup (fun x h1 h2 h3 h4 h5=>by rw[old x h1 h2 h3,bx1,if_neg h5,if_neg h4,if_neg (by omega)]) s2 ?_ ?_ (fun mp' h1=>?_) ?_ kub
  (.inr ⟨st.nb+1+1,rfl,by omega,by omega,by simp[Ao,kn1],fun s hs=>by rw[eN]at hs;rw[List.mem_singleton.1 hs];exact⟨rfl,rfl⟩⟩) ⟨?_,by simp,?_⟩ (fun s hs=>?_) (by rw[eN,bN];simp;omega) (fun x hx=>?_) (fun x hx id hid=>?_) (fun x hx y hy hne id g1 g2=>?_) fun j h1 h2 h3=>⟨by omega,?_⟩)
 ·rw[s1,old _ ltb nb1 nb2,bx1,if_neg (Ne.symm hmt),if_pos rfl]
 ·rw[s1];simp only[List.map_append]at r1⊢;exact r1
 ·have:mp'=mp:=by have h2:st.box t.m= .map mp:=hm1;rw[h2]at h1;cases h1;rfl
  rw[this,old _ ltm nm1 nm2,bx1,if_pos rfl]
 ·rw[bx6,if_neg (by omega),bx4,if_pos rfl];simp;omega
 ·show C0 (σ' st.nb) _
  rw[s1'];exact w1
 ·show st6.box st.nb= .cells (.nilPtr::σ' st.nb::(z13++[.int .i64 0]))
  rw[s1',bx6,if_pos rfl]
 ·rw[eN]at hs
  rw[List.mem_singleton.1 hs]
  have s4:σ' (st.nb+1+1)= .nilSlice:=s3 _ (by omega)
  exact⟨by show st6.box (st.nb+1+1)= .cells [σ' (st.nb+1+1),_,_];rw[s4];exact kn1,by show C0 (σ' (st.nb+1+1)) _;rw[s4];exact C0.nil,⟨[],kn0,fun _=>rfl⟩,fun x hx=>by cases hx⟩
 ·rw[eN,bN]at hx
  rcases List.mem_cons.1 hx with rfl | hx
  ·show st.nb<=st.nb/\st.nb<st6.nb
   omega
  ·rcases List.mem_cons.1 hx with rfl | hx
   ·omega
   ·rw[List.mem_singleton.1 hx];omega
 ·rcases tp hx hid with⟨_,rfl⟩ | ⟨_,rfl⟩
  ·exact⟨Nat.le_refl _,by omega,tl0⟩
  ·exact⟨by omega,by omega,tl1⟩
 ·rcases tp hx g1 with⟨h1,h2⟩ | ⟨h1,h2⟩<;>rcases tp hy g2 with⟨h3,h4⟩ | ⟨h3,h4⟩
  ·exact hne (h1.trans h3.symm)
  ·omega
  ·omega
  ·exact hne (h1.trans h3.symm)
 ·rw[lvs6,w8 j (by omega) (by simp[Bf]),lvs4,r8 j h1 h3];exact h2
theorem Mn {k:B8}:∀{es:List Kn} {eb:Nat} {e:En},Ah k es=some (eb,e)->∃P Q,es.map shK=P++(k,eb,shE e)::Q/\∀x,(BN k x es).map shK=P++(k,eb,shE x)::Q
 | .mk k' eb' e'::r,eb,e,h=>by
  unfold Ah at h
  by_cases hk:k=k'
  ·rw[if_pos hk]at h
   cases h
   subst hk
   exact⟨[],r.map shK,rfl,fun x=>by rw[BN,if_pos rfl];rfl⟩
  ·rw[if_neg hk]at h
   obtain⟨P,Q,h1,h2⟩:=Mn h
   exact⟨shK (.mk k' eb' e')::P,Q,by rw[List.map_cons,h1];rfl,fun x=>by rw[BN,if_neg hk,List.map_cons,h2 x];rfl⟩
theorem Mv {k k2:B8} {eb:Nat} {e e':ShE} {G:List (B8×Nat×ShE)}:∀F:List (B8×Nat×ShE),(D4 k2 (F++(k,eb,e')::G)).map (fun p=>TV.box p.1 0)=(D4 k2 (F++(k,eb,e)::G)).map fun p=>TV.box p.1 0
 | []=>by
  rw[List.nil_append,List.nil_append,D4,D4]
  split<;>rfl
 | (k',p)::F=>by
  rw[List.cons_append,List.cons_append,D4,D4]
  split
  ·rfl
  ·exact Mv F
theorem BH.more {bb ub eb n m nodes nodes':Nat} {now now' lv:TV} {T t:Tb} {σ:Nat->TV} {st st':St} {h:List Hop} {k:B8} {l:List Tb} {up:List (Nat×TV)} (H:BH bb ub now T nodes σ st) (hA:atT T h=some t) (hl:Ah k t.es=some (eb,.lst l))
  (hnb:st.nb<=st'.nb) (hup:Un ub (shT 1 T) st up)
  (kx:∀x,x<st.nb->x≠bb->x≠ub->x≠eb->st'.box x=st.box x)
  (ke:st'.box eb= .cells (.nilPtr::lv::(z13++[.int .i64 0]))) (kr:C0 lv ((l.map fun t=> .box t.b 0)++[.box n 0]))
  (kb:st'.box bb= .cells [.box T.b 0,now',.map ub,.int .i64 nodes']) (ku:st'.box ub= .pmap (Ew n (.bool true) up))
  (kn:st'.box n= .cells [.nilSlice,.map m,.int .i64 ((1+dpH h+2:Nat):Int)]) (km:st'.box m= .map []) (hn:st.nb<=n/\n<st'.nb) (hm:st.nb<=m/\m<st'.nb) (hnm:n≠m)
  (htip:∀id,Bf lv=some id->st.nt<=id/\id<st'.nt/\st'.live id=true)
  (hlv:∀i,i<st.nt->st.live i=true->Bf (σ eb)≠some i->i<st'.nt/\st'.live i=true):
  BH bb ub now' (Ay T h (CZ t k (.lst (l++[.mk n m false []])))) nodes' (fun x=>if x=eb then lv else if x<st.nb then σ x else .nilSlice) st':=by
 obtain⟨A,B,e1,e2⟩:=HV h hA 1
 rw[Ep (1+dpH h) t]at e1
 have hp:=H.hp
 rw[e1]at hp
 have ht':=e2 (CZ t k (.lst (l++[.mk n m false []]))) rfl
 obtain⟨P,Q,p1,p2⟩:=FV (1+dpH h) hl
 obtain⟨F,G,f1,f2⟩:=Mn hl
 have eC:shT (1+dpH h) (CZ t k (.lst (l++[.mk n m false []])))=⟨t.b,t.m,t.hd,1+dpH h,F++(k,eb,.lst (l.map Tb.b++[n]))::G⟩::(P++((A9 (1+dpH h) (.lst l)++[⟨n,m,false,1+dpH h+2,[]⟩])++Q)):=by
  unfold CZ
  rw[shT,f2,p2]
  congr 2
  ·show F++(k,eb,ShE.lst ((l++[Tb.mk n m false []]).map Tb.b))::G=_
   rw[List.map_append];rfl
  ·show A9 (1+dpH h) (.lst (l++[Tb.mk n m false []]))++Q=_
   rw[A9,IU,Dy,Dy,shT,BR,A9];rfl
 rw[eC]at ht'
 rw[f1,p1]at hp e1
 generalize A9 (1+dpH h) (.lst l)=S at*
 have hin:∀{x},x∈bxL (⟨t.b,t.m,t.hd,1+dpH h,F++(k,eb,shE (.lst l))::G⟩::(P++(S++Q)))->x∈bxL (A++((⟨t.b,t.m,t.hd,1+dpH h,F++(k,eb,shE (.lst l))::G⟩::(P++(S++Q)))++B)):=fun hx=>by
  rw[AN,AN];exact List.mem_append_right _ (List.mem_append_left _ hx)
 have hsm:(⟨t.b,t.m,t.hd,1+dpH h,F++(k,eb,shE (.lst l))::G⟩:Sh)∈A++((⟨t.b,t.m,t.hd,1+dpH h,F++(k,eb,shE (.lst l))::G⟩::(P++(S++Q)))++B):=List.mem_append_right A (List.mem_append_left B (List.mem_cons_self ..))
 have hS:=hp.sh _ hsm
 have heb:eb∈bxL (⟨t.b,t.m,t.hd,1+dpH h,F++(k,eb,shE (.lst l))::G⟩::(P++(S++Q))):=by
  rw[A1];exact List.mem_append_left _ (EA (x:=(k,eb,shE (.lst l))) (by simp))
 have leb:eb<st.nb:=hp.lt _ (hin heb)
 have bx:=H.bx
 have ux:=H.ux
 rw[e1]at bx ux
 have hbl:=H.bl
 have hul:=H.ul
 obtain⟨n1,n2,n3⟩:=Ja hp.nd
 --the boxes of the new shapes
 have eX:bxL (⟨t.b,t.m,t.hd,1+dpH h,F++(k,eb,.lst (l.map Tb.b++[n]))::G⟩::(P++((S++[⟨n,m,false,1+dpH h+2,[]⟩])++Q)))=(bxS ⟨t.b,t.m,t.hd,1+dpH h,F++(k,eb,shE (.lst l))::G⟩++(bxL P++bxL S))++([n,m]++bxL Q):=by
  rw[A1,AN,AN,AN]
  have:bxS ⟨t.b,t.m,t.hd,1+dpH h,F++(k,eb,.lst (l.map Tb.b++[n]))::G⟩=bxS ⟨t.b,t.m,t.hd,1+dpH h,F++(k,eb,shE (.lst l))::G⟩:=by simp[bxS]
  rw[this]
  show _++(bxL P++((bxL S++[n,m])++bxL Q))=_
  simp only[List.append_assoc]
 have eX0:bxL (⟨t.b,t.m,t.hd,1+dpH h,F++(k,eb,shE (.lst l))::G⟩::(P++(S++Q)))=(bxS ⟨t.b,t.m,t.hd,1+dpH h,F++(k,eb,shE (.lst l))::G⟩++(bxL P++bxL S))++bxL Q:=by
  rw[A1,AN,AN];simp only[List.append_assoc]
 have mem':∀{x},x∈bxL (⟨t.b,t.m,t.hd,1+dpH h,F++(k,eb,.lst (l.map Tb.b++[n]))::G⟩::(P++((S++[⟨n,m,false,1+dpH h+2,[]⟩])++Q)))->x∈bxL (⟨t.b,t.m,t.hd,1+dpH h,F++(k,eb,shE (.lst l))::G⟩::(P++(S++Q)))∨x=n∨x=m:=fun {x} hx=>by
  rw[eX]at hx
  rw[eX0]
  rcases List.mem_append.1 hx with h1 | h1
  ·exact .inl (List.mem_append_left _ h1)
  ·rcases List.mem_append.1 h1 with h1 | h1
   ·rcases List.mem_cons.1 h1 with h1 | h1
    ·exact .inr (.inl h1)
    ·exact .inr (.inr (List.mem_singleton.1 h1))
   ·exact .inl (List.mem_append_right _ h1)
 have same:∀x,x∈bxL (A++((⟨t.b,t.m,t.hd,1+dpH h,F++(k,eb,shE (.lst l))::G⟩::(P++(S++Q)))++B))->x≠eb->st'.box x=st.box x/\(if x=eb then lv else if x<st.nb then σ x else .nilSlice)=σ x:=fun x hx hne=>
  ⟨kx x (hp.lt x hx) (fun e=>bx (e▸hx)) (fun e=>ux (e▸hx)) hne,by rw[if_neg hne,if_pos (hp.lt x hx)]⟩
 have neb:∀{x},x∈bxL A∨x∈bxL B->x≠eb:=fun {x} hx e=>by subst e;exact hx.elim (n3 _ heb).1 (n3 _ heb).2
 have mAB:∀{x},x∈bxL A∨x∈bxL B->x∈bxL (A++((⟨t.b,t.m,t.hd,1+dpH h,F++(k,eb,shE (.lst l))::G⟩::(P++(S++Q)))++B)):=fun hx=>by
  rw[AN,AN];exact hx.elim (fun h=>List.mem_append_left _ h) fun h=>List.mem_append_right _ (List.mem_append_right _ h)
 have htipx:∀x,x∈bxL (⟨t.b,t.m,t.hd,1+dpH h,F++(k,eb,.lst (l.map Tb.b++[n]))::G⟩::(P++((S++[⟨n,m,false,1+dpH h+2,[]⟩])++Q)))->∀id,Bf (if x=eb then lv else if x<st.nb then σ x else .nilSlice)=some id->
   (x=eb/\Bf lv=some id)∨(x∈bxL (⟨t.b,t.m,t.hd,1+dpH h,F++(k,eb,shE (.lst l))::G⟩::(P++(S++Q)))/\x≠eb/\Bf (σ x)=some id):=fun x hx id hid=>by
  by_cases hxe:x=eb
  ·rw[if_pos hxe]at hid;exact .inl ⟨hxe,hid⟩
  ·rw[if_neg hxe]at hid
   rcases mem' hx with h1 | h1 | h1
   ·rw[if_pos (hp.lt x (hin h1))]at hid;exact .inr ⟨h1,hxe,hid⟩
   ·rw[if_neg (by omega)]at hid;cases hid
   ·rw[if_neg (by omega)]at hid;cases hid
 have n2':=n2
 rw[A1]at n2'
 obtain⟨c1,c2,c3⟩:=List.nodup_append.1 n2'
 have hebS:eb∈bxS ⟨t.b,t.m,t.hd,1+dpH h,F++(k,eb,shE (.lst l))::G⟩:=EA (x:=(k,eb,shE (.lst l))) (by simp)
 have itb:t.b∈bxL (⟨t.b,t.m,t.hd,1+dpH h,F++(k,eb,shE (.lst l))::G⟩::(P++(S++Q))):=by rw[A1];exact List.mem_append_left _ (.head _)
 have itm:t.m∈bxL (⟨t.b,t.m,t.hd,1+dpH h,F++(k,eb,shE (.lst l))::G⟩::(P++(S++Q))):=by rw[A1];exact List.mem_append_left _ (.tail _ (.head _))
 have hebM:eb∈(F++(k,eb,shE (.lst l))::G).map fun x=>x.2.1:=List.mem_map.2 ⟨(k,eb,shE (.lst l)),by simp,rfl⟩
 have d1:t.b≠eb:=fun e=>(List.nodup_cons.1 c1).1 (.tail _ (e▸hebM))
 have d2:t.m≠eb:=fun e=>(List.nodup_cons.1 (List.nodup_cons.1 c1).2).1 (e▸hebM)
 have dFG:((F.map fun x=>x.2.1)++eb::(G.map fun x=>x.2.1)).Nodup:=by
  have:=(List.nodup_cons.1 (List.nodup_cons.1 c1).2).2
  simpa using this
 have dF:∀x,x∈F->x.2.1≠eb:=fun x hx e=>(List.nodup_append.1 dFG).2.2 x.2.1 (List.mem_map.2 ⟨x,hx,rfl⟩) eb (.head _) e
 have dG:∀x,x∈G->x.2.1≠eb:=fun x hx e=>(List.nodup_cons.1 (List.nodup_append.1 dFG).2.1).1 (e▸List.mem_map.2 ⟨x,hx,rfl⟩)
 have rest:∀s,s∈P++(S++Q)->LP (fun x=>if x=eb then lv else if x<st.nb then σ x else .nilSlice) st' s:=fun s hs=>by
  refine(hp.sh s (List.mem_append_right _ (List.mem_append_left _ (.tail _ hs)))).fr fun x hx=>?_
  have hx':x∈bxL (P++(S++Q)):=Bn hs hx
  exact same x (hin (by rw[A1];exact List.mem_append_right _ hx')) fun e=>c3 eb hebS x hx' e.symm
 have HP':HP (fun x=>if x=eb then lv else if x<st.nb then σ x else .nilSlice) st' (A++((⟨t.b,t.m,t.hd,1+dpH h,F++(k,eb,.lst (l.map Tb.b++[n]))::G⟩::(P++((S++[⟨n,m,false,1+dpH h+2,[]⟩])++Q)))++B)):=by
  refine HP.upd hp hnb (fun x hx=>same x (mAB hx) (neb hx)) (fun x hx id hid=>?_) (fun s hs=>?_) ?_ (fun x hx=>?_) (fun x hx id hid=>?_) fun x hx y hy hne id g1 g2=>?_
  ·have hq:=hp.tip x (mAB hx) id hid
   exact hlv id hq.1 hq.2 fun e=>hp.td x (mAB hx) eb (hin heb) (neb hx) id hid e
  ·rcases List.mem_cons.1 hs with rfl | hs
   ·have q1:=same _ (hin itb) d1
    have q2:=same _ (hin itm) d2
    refine⟨?_,?_,?_,fun x hx=>?_⟩
    ·show st'.box t.b= .cells [(if t.b=eb then lv else if t.b<st.nb then σ t.b else .nilSlice),_,_]
     rw[q1.1,q1.2];exact hS.cell
    ·show C0 (if t.b=eb then lv else if t.b<st.nb then σ t.b else .nilSlice) _
     rw[q1.2]
     have:=hS.row
     simp only[List.map_append,List.map_cons]at this⊢
     exact this
    ·obtain⟨mp,h1,h2⟩:=hS.mp
     refine⟨mp,by show st'.box t.m=_;rw[q2.1];exact h1,fun k2=>?_⟩
     rw[h2 k2]
     exact(Mv F).symm
    ·rcases List.mem_append.1 hx with h1 | h1
     ·have:=same x.2.1 (hin (by rw[A1];exact List.mem_append_left _ (EA (s:=⟨t.b,t.m,t.hd,1+dpH h,F++(k,eb,shE (.lst l))::G⟩) (List.mem_append_left _ h1)))) (dF x h1)
      exact(hS.en x (List.mem_append_left _ h1)).fr this.1 this.2
     ·rcases List.mem_cons.1 h1 with rfl | h1
      ·refine⟨?_,by simp,?_⟩
       ·show C0 (if eb=eb then lv else _) _
        rw[if_pos rfl,List.map_append,List.map_map];exact kr
       ·show st'.box eb= .cells (.nilPtr::(if eb=eb then lv else _)::_)
        rw[if_pos rfl];exact ke
      ·have:=same x.2.1 (hin (by rw[A1];exact List.mem_append_left _ (EA (s:=⟨t.b,t.m,t.hd,1+dpH h,F++(k,eb,shE (.lst l))::G⟩) (List.mem_append_right _ (.tail _ h1))))) (dG x h1)
       exact(hS.en x (List.mem_append_right _ (.tail _ h1))).fr this.1 this.2
   ·rcases List.mem_append.1 hs with h1 | h1
    ·exact rest s (List.mem_append_left _ h1)
    ·rcases List.mem_append.1 h1 with h1 | h1
     ·rcases List.mem_append.1 h1 with h1 | h1
      ·exact rest s (List.mem_append_right _ (List.mem_append_left _ h1))
      ·rw[List.mem_singleton.1 h1]
       have s4:(if n=eb then lv else if n<st.nb then σ n else .nilSlice)= .nilSlice:=by rw[if_neg (by omega),if_neg (by omega)]
       exact⟨by show st'.box n= .cells [(if n=eb then lv else if n<st.nb then σ n else .nilSlice),_,_];rw[s4];exact kn,by show C0 (if n=eb then lv else if n<st.nb then σ n else .nilSlice) _;rw[s4];exact C0.nil,⟨[],km,fun _=>rfl⟩,fun x hx=>by cases hx⟩
     ·exact rest s (List.mem_append_right _ (List.mem_append_right _ h1))
  ·rw[eX]
   rw[eX0]at n2
   obtain⟨b1,b2,b3⟩:=List.nodup_append.1 n2
   have ol:∀{x},x∈(bxS ⟨t.b,t.m,t.hd,1+dpH h,F++(k,eb,shE (.lst l))::G⟩++(bxL P++bxL S))++bxL Q->x<st.nb:=fun hx=>hp.lt _ (hin (by rw[eX0];exact hx))
   have mm:∀{y},y∈ [n,m]->st.nb<=y:=fun {y} hy=>by
    rcases List.mem_cons.1 hy with rfl | hy
    ·exact hn.1
    ·rw[List.mem_singleton.1 hy];exact hm.1
   refine List.nodup_append.2 ⟨b1,List.nodup_append.2 ⟨by simp[hnm],b2,fun x hx y hy e=>?_⟩,fun x hx y hy e=>?_⟩
   ·have g1:=mm hx
    have g2:=ol (List.mem_append_right _ hy)
    omega
   ·rcases List.mem_append.1 hy with h1 | h1
    ·have g1:=mm h1
     have g2:=ol (List.mem_append_left _ hx)
     omega
    ·exact b3 x hx y h1 e
  ·rcases mem' hx with h1 | h1 | h1
   ·exact⟨Nat.lt_of_lt_of_le (hp.lt x (hin h1)) hnb,.inl h1⟩
   ·exact⟨by omega,.inr (by omega)⟩
   ·exact⟨by omega,.inr (by omega)⟩
  ·rcases htipx x hx id hid with⟨_,h1⟩ | ⟨h1,h2,h3⟩
   ·have:=htip id h1;exact⟨this.2.1,this.2.2,.inr this.1⟩
   ·have hq:=hp.tip x (hin h1) id h3
    have:=hlv id hq.1 hq.2 fun e=>hp.td x (hin h1) eb (hin heb) h2 id h3 e
    exact⟨this.1,this.2,.inl ⟨x,h1,h3⟩⟩
  ·rcases htipx x hx id g1 with⟨h1,h1'⟩ | ⟨h1,h2,h3⟩<;>rcases htipx y hy id g2 with⟨h4,h4'⟩ | ⟨h4,h5,h6⟩
   ·exact hne (h1.trans h4.symm)
   ·have:=(htip id h1').1;have:=(hp.tip y (hin h4) id h6).1;omega
   ·have:=(htip id h4').1;have:=(hp.tip x (hin h1) id h3).1;omega
   ·exact hp.td x (hin h1) y (hin h4) hne id h3 h6
 have isc:∀p,p∈up->Ao st' p.1=true/\p.1<st'.nb:=fun p hp'=>by
  obtain⟨q1,q2⟩:=hup.ok p hp'
  refine⟨?_,by omega⟩
  by_cases c3:p.1=bb
  ·rw[c3];simp[Ao,kb]
  ·by_cases c4:p.1=ub
   ·rw[c4]at q1;simp[Ao,hup.box]at q1
   ·by_cases c5:p.1=eb
    ·rw[c5];simp[Ao,ke]
    ·simp only[Ao,kx _ q2 c3 c4 c5]at q1⊢;exact q1
 have fdo:∀s,s∈A++((⟨t.b,t.m,t.hd,1+dpH h,F++(k,eb,shE (.lst l))::G⟩::(P++(S++Q)))++B)->BD s.b (Ew n (.bool true) up)=(if s.hd=true then none else some (.bool true)):=fun s hs=>by
  have hlt:s.b<st.nb:=hp.lt _ (Bn hs (.head _))
  rw[DT,if_neg (by omega)]
  exact hup.fd s (by rw[e1];exact hs)
 have memb:∀x,x∈bxL (A++((⟨t.b,t.m,t.hd,1+dpH h,F++(k,eb,.lst (l.map Tb.b++[n]))::G⟩::(P++((S++[⟨n,m,false,1+dpH h+2,[]⟩])++Q)))++B))->
   x∈bxL (A++((⟨t.b,t.m,t.hd,1+dpH h,F++(k,eb,shE (.lst l))::G⟩::(P++(S++Q)))++B))∨st.nb<=x:=fun x hx=>by
  rw[AN,AN]at hx
  rcases List.mem_append.1 hx with h1 | h1
  ·exact .inl (mAB (.inl h1))
  ·rcases List.mem_append.1 h1 with h1 | h1
   ·rcases mem' h1 with h2 | h2 | h2
    ·exact .inl (hin h2)
    ·exact .inr (by omega)
    ·exact .inr (by omega)
   ·exact .inl (mAB (.inr h1))
 have hsb:(Ay T h (CZ t k (.lst (l++[Tb.mk n m false []])))).b=T.b:=Fk h hA rfl
 refine⟨by rw[ht'];exact HP',by rw[hsb];exact kb,⟨_,ku,?_,fun p hp'=>?_,fun s hs=>?_⟩,by omega,by omega,fun hx=>?_,fun hx=>?_⟩
 ·rw[HD _ _ _ fun p hp' e=>by have:=(hup.ok p hp').2;omega]
  refine List.nodup_append.2 ⟨hup.nd,by simp,fun x hx y hy e=>?_⟩
  obtain⟨p,hp',rfl⟩:=List.mem_map.1 hx
  have:=(hup.ok p hp').2
  rw[List.mem_singleton.1 hy]at e
  omega
 ·rcases IX _ _ _ p hp' with rfl | hp'
  ·exact⟨by simp[Ao,kn],hn.2⟩
  ·exact isc p hp'
 ·rw[ht']at hs
  rcases List.mem_append.1 hs with h1 | h1
  ·exact fdo s (List.mem_append_left _ h1)
  ·rcases List.mem_append.1 h1 with h1 | h1
   ·rcases List.mem_cons.1 h1 with rfl | h1
    ·exact fdo ⟨t.b,t.m,t.hd,1+dpH h,F++(k,eb,shE (.lst l))::G⟩ hsm
    ·rcases List.mem_append.1 h1 with h1 | h1
     ·exact fdo s (List.mem_append_right _ (List.mem_append_left _ (.tail _ (List.mem_append_left _ h1))))
     ·rcases List.mem_append.1 h1 with h1 | h1
      ·rcases List.mem_append.1 h1 with h1 | h1
       ·exact fdo s (List.mem_append_right _ (List.mem_append_left _ (.tail _ (List.mem_append_right _ (List.mem_append_left _ h1)))))
       ·rw[List.mem_singleton.1 h1,DT,if_pos rfl];rfl
      ·exact fdo s (List.mem_append_right _ (List.mem_append_left _ (.tail _ (List.mem_append_right _ (List.mem_append_right _ h1)))))
   ·exact fdo s (List.mem_append_right _ (List.mem_append_right _ h1))
 ·rw[ht']at hx
  rcases memb bb hx with h1 | h1
  ·exact bx h1
  ·omega
 ·rw[ht']at hx
  rcases memb ub hx with h1 | h1
  ·exact ux h1
  ·omega
theorem JP {t:Tb} {k:B8} {eb:Nat} {e x:En} (h:Ah k t.es=some (eb,e)):Ah k (CZ t k x).es=some (eb,x):=by
 have:=SX (k2:=k) (x:=x) h
 rw[if_pos rfl]at this;exact this
theorem cnt_lst (T t:Tb) {h:List Hop} {k:B8} {eb:Nat} {l:List Tb} {u:Tb} (hA:atT T h=some t) (hl:Ah k t.es=some (eb,.lst l)):(Af (Ay T h (CZ t k (.lst (l++[u]))))).cnt=(Af T).cnt+(Af u).cnt:=by
 have h1:=(CR h hA (CZ t k (.lst (l++[u])))).cnt
 obtain⟨F,G,f1,f2⟩:=DP hl
 have e1:(Af (CZ t k (.lst (l++[u])))).cnt=(Af t).cnt+(Af u).cnt:=by
  unfold CZ
  rw[Af,f2,Eh t,f1]
  have:AZ (l++[u])=AZ l++[Af u]:=by rw[B6,B6,List.map_append];rfl
  simp only[Vl.cnt,DR,Av,Fd.cnt,AH,this,CV,Aw]
  omega
 omega
theorem ent_bx {bb ub nodes eb:Nat} {now:TV} {T t:Tb} {σ:Nat->TV} {st:St} {h:List Hop} {k:B8} {e:En} (H:BH bb ub now T nodes σ st) (hA:atT T h=some t) (hl:Ah k t.es=some (eb,e)):eb∈bxL (shT 1 T):=
 Bn (H.tab hA).2 (EA (x:=(k,eb,shE e)) (List.mem_map.2 ⟨.mk k eb e,HH hl,rfl⟩))
theorem R4 {bb ub eb:Nat} {now:TV} {T t:Tb} {σ:Nat->TV} {st:St} {h:List Hop} {k:B8} {l:List Tb} {K:Int->St->Prop} (H:BH bb ub now T (Af T).cnt σ st) (hA:atT T h=some t) (hl:Ah k t.es=some (eb,.lst l)) (hc:(Af T).cnt<=800000)
  (hk:∀nu σ' st',BH bb ub (.box nu.b 0) (Ay T h (CZ t k (.lst (l++[AI nu false])))) ((Af T).cnt+1) σ' st'->K 0 st'):
  Ar (Ac st [] (.t (.box t.b 2)) 0) fun x7=>Bj (.int .i64) x7 fun n3=>CallT PR AC [.box bb 0,.int .i64 (IntKind.wrap .i64 (n3+2))] [.one .tv] st fun v7 st7=>need (List.all [v7] At) (stB st7 (.box bb 1) [v7] fun st8=>
   Ar (Ac st8 [] (.t (.box eb 1)) 0) fun v8=>Ar (Ac st8 [] (.t (.box bb 1)) 0) fun v9=>need (List.all [v9] At) (need (List.all [v9] At) (Cx 61 1 8 v8 1 [v9] st8 fun v10 st9=>need (List.all [v10] At) (stB st9 (.box eb 1) [v10] fun st10=>K 0 st10)))):=by
 obtain⟨up,hup⟩:=H.un
 have hbl:=H.bl
 have hul:=H.ul
 have hbu:=H.bu
 have hdp:=Lx hA
 have hent:=H.ent hA hl
 obtain⟨g1,g2,g3⟩:=hent
 have hebx:=ent_bx H hA hl
 have leb:eb<st.nb:=H.hp.lt _ hebx
 have eb1:eb≠bb:=fun e=>H.bx (e▸hebx)
 have eb2:eb≠ub:=fun e=>H.ux (e▸hebx)
 refine H.ldd hA (BE ?_)
 have hwd:IntKind.wrap .i64 (((1+dpH h:Nat):Int)+2)=((1+dpH h+2:Nat):Int):=by rw[Ai _ (by omega) (by omega)];simp
 rw[hwd]
 refine HM H.cell hup.box hbl hul hup.ok ⟨by omega,by omega⟩ fun st7 q1 q2 q3 q4=>Aa rfl ?_
 have hbb7:st7.box bb= .cells [.box T.b 0,now,.map ub,.int .i64 (((Af T).cnt:Int)+1)]:=by rw[q2];simp only;rw[if_pos trivial]
 refine⟨_,hbb7,by simp,?_⟩
 generalize hst8:st7.put bb (.cells (setAll [.box T.b 0,now,.map ub,.int .i64 (((Af T).cnt:Int)+1)] 1 [.box (st.nb+1) 0]))=st8
 have bx8:∀x,st8.box x=if x=bb then .cells [.box T.b 0,.box (st.nb+1) 0,.map ub,.int .i64 (((Af T).cnt:Int)+1)]else st7.box x:=fun x=>by rw[<-hst8];rfl
 have nbs8:st8.nb=st.nb+2:=by rw[<-hst8];show st7.nb=_;omega
 have nts8:st8.nt=st.nt:=by rw[<-hst8];show st7.nt=_;omega
 have lvs8:st8.live=st.live:=by rw[<-hst8];show st7.live=_;rw[q4]
 have he8:st8.box eb= .cells (.nilPtr::σ eb::(z13++[.int .i64 0])):=by
  rw[bx8,if_neg eb1,q2];simp only
  rw[if_neg eb1,if_neg eb2,if_neg (by omega),if_neg (by omega)];exact g3
 refine Ae (x:=σ eb) (by simp only[Ac,he8];rfl) (Ae (x:= .box (st.nb+1) 0) (by simp only[Ac,bx8,if_pos trivial];rfl) (Aa rfl (Aa rfl ?_)))
 have hll:=SW hl
 have hlt:=(Rq hA).1
 refine LL g1 (fun id hid=>?_) (by rw[List.length_map,List.length_map];omega) fun v10 st9 w1 w2 w3 w4 w5 w6 w7 w8=>?_
 ·rw[nts8,lvs8];exact H.hp.tip eb hebx id hid
 have w1':At v10=true:=by
  rcases w1 with⟨_,hx⟩ | ⟨tip,h9,_⟩
  ·simp at hx
  ·rw[h9];rfl
 have he9:st9.box eb= .cells (.nilPtr::σ eb::(z13++[.int .i64 0])):=by rw[w3];exact he8
 refine Aa (by simp[w1']) ⟨_,he9,by simp,?_⟩
 generalize hst10:st9.put eb (.cells (setAll (.nilPtr::σ eb::(z13++[.int .i64 0])) 1 [v10]))=st10
 have bx10:∀x,st10.box x=if x=eb then .cells (.nilPtr::v10::(z13++[.int .i64 0]))else st8.box x:=fun x=>by rw[<-hst10,<-w3];rfl
 have nbs10:st10.nb=st.nb+2:=by rw[<-hst10];show st9.nb=_;omega
 have nts10:st10.nt=st.nt+1:=by rw[<-hst10];show st9.nt=_;omega
 have lvs10:st10.live=st9.live:=by rw[<-hst10];rfl
 rw[nts8]at w2 w7 w8
 refine hk ⟨st.nb+1,st.nb,0⟩ _ st10 (BH.more (n:=st.nb+1) (m:=st.nb) (lv:=v10) H hA hl (by omega) hup (fun x h1 h2 h3 h4=>?_) ?_ ?_ ?_ ?_ ?_ ?_ ⟨by omega,by omega⟩ ⟨Nat.le_refl _,by omega⟩ (by omega) (fun id hid=>?_) fun i h1 h2 h3=>?_)
 ·rw[bx10,if_neg h4,bx8,if_neg h2,q2];simp only
  rw[if_neg h2,if_neg h3,if_neg (by omega),if_neg (by omega)]
 ·rw[bx10,if_pos rfl]
 ·rw[List.map_map]at w1;exact w1
 ·rw[bx10,if_neg (Ne.symm eb1),bx8,if_pos rfl];simp
 ·rw[bx10,if_neg (Ne.symm eb2),bx8,if_neg (Ne.symm hbu),q2];simp only
  rw[if_neg (Ne.symm hbu),if_pos trivial]
 ·rw[bx10,if_neg (by omega),bx8,if_neg (by omega),q2];simp only
  rw[if_neg (by omega),if_neg (by omega),if_pos trivial]
 ·rw[bx10,if_neg (by omega),bx8,if_neg (by omega),q2];simp only
  rw[if_neg (by omega),if_neg (by omega),if_neg (by omega),if_pos trivial]
 ·rw[w2]at hid
  cases hid
  exact⟨Nat.le_refl _,by omega,by rw[lvs10];exact w7⟩
 ·exact⟨by omega,by rw[lvs10,w8 i h1 h3,lvs8];exact h2⟩
theorem Pw {bb ub:Nat} {now:TV} {T t:Tb} {σ:Nat->TV} {st:St} {h:List Hop} {k:B8} {K:Int->St->Prop} (H:BH bb ub now T (Af T).cnt σ st) (hA:atT T h=some t) (hc:(Af T).cnt<=800000)
  (hk1:∀nu T' h' u σ' st',Kf nu T t h k= .ok (T',h')->atT T' h'=some u->BH bb ub (.box u.b 0) T' (Af T').cnt σ' st'->(Af T').cnt<=(Af T).cnt+2->K 0 st')
  (hk2:∀nu st',Kf nu T t h k= .error 6->K 6 st'):
  CallT PR BP [.box bb 0,.box t.b 0,.str k] [.one (.int .i64)] st K:=by
 refine ER bb t.b k st K (H.ldm hA (H.map hA fun es hes=>?_))
 rw[hes k]
 have nu0:Nu:=⟨0,0,0⟩
 rcases hl:Ah k t.es with _ | ⟨eb,e⟩
 ·rw[Option.map_none]
  refine Aa rfl ?_
  show CallT _ _ _ _ _ _
  refine Tu H hA hl hc fun nu σ' st' H1=>?_
  have hcn:=KG (k:=k) (eb:=nu.eb) (e:= .lst [AI nu false]) hA
  have hc2:(AH (.lst [AI nu false])).cnt=2:=by rw[AH,AZ,AZ,AI,Af,AJ];simp[Vl.cnt,Aw,Av]
  rw[hc2]at hcn
  rw[<-hcn]at H1
  have hl1:Ah k (AO t k nu.eb (.lst [AI nu false])).es=some (nu.eb,.lst [AI nu false]):=by
   have:=Jc (k2:=k) (eb:=nu.eb) (e:= .lst [AI nu false]) hl
   rw[if_pos rfl]at this;exact this
  exact hk1 nu _ _ (AI nu false) σ' st' (by unfold Kf;rw[hl]) (Ht (BJ h hA) hl1 rfl) H1 (by omega)
 ·rw[Option.map_some]
  refine Aa rfl (show need _ _ from Aa rfl (Aa rfl (H.ent1 hA hl fun v hv=>Aa hv.sl ?_)))
  rw[hv.len]
  cases e with
  | opn u=>exact Ab (fun _=>hk2 nu0 st (by unfold Kf;rw[hl])) fun hne=>absurd rfl hne
  | clo v i=>exact Ab (fun _=>hk2 nu0 st (by unfold Kf;rw[hl])) fun hne=>absurd rfl hne
  | lst l=>
   have hne:l≠ []:=by have:=(H.ent hA hl).2.1;intro e;rw[e]at this;exact this rfl
   have hlp:0<l.length:=List.length_pos_iff.2 hne
   refine Ab (fun hz=>absurd hz (by simp[OG];exact hne)) fun _=>?_
   refine R4 H hA hl hc fun nu σ' st' H1=>?_
   have hcn:=cnt_lst T t (u:=AI nu false) hA hl
   have hc1:(Af (AI nu false)).cnt=1:=by rw[AI,Af,AJ];simp[Vl.cnt,Aw,Av]
   rw[hc1]at hcn
   rw[<-hcn]at H1
   exact hk1 nu _ _ (AI nu false) σ' st' (by unfold Kf;rw[hl]) (Ht (BJ h hA) (JP hl) (by simp)) H1 (by omega)
end Go.TVF
section
namespace Go.Proofs
open Go.Shelf
def Tryd.laysValid_ren:Go.Shelf.Ren:=⟨fun | 196=>64 | 259=>72 | n=>n,fun | 9=>9 | 4=>4 | 3=>3 | 5=>5 | 12=>12 | 119=>113 | 0=>0 | 46=>117 | 139=>116 | 138=>115 | 53=>131 | n=>n,fun | 3=>0 | 4=>1 | n=>n⟩
theorem Tryd.laysValid:Go.Proofs.Lays.n196 Tryd.prog Tryd.laysValid_ren:={
 mixed:=by kernel_rfl
 f196:=Tryd.func64.trans (congrArg some (by kernel_rfl))
 f259:=Tryd.func72.trans (congrArg some (by kernel_rfl))
 t0:=Tryd.underlying0
 a0:=Tryd.isAgg0
 z0:=Tryd.sizeOf0
 v0:=Tryd.zeroValue0
 t3:=Tryd.underlying3
 a3:=Tryd.isAgg3
 z3:=Tryd.sizeOf3
 v3:=Tryd.zeroValue3
 t4:=Tryd.underlying4
 a4:=Tryd.isAgg4
 z4:=Tryd.sizeOf4
 v4:=Tryd.zeroValue4
 t5:=Tryd.underlying5
 a5:=Tryd.isAgg5
 z5:=Tryd.sizeOf5
 v5:=Tryd.zeroValue5
 t9:=Tryd.underlying9
 a9:=Tryd.isAgg9
 z9:=Tryd.sizeOf9
 v9:=Tryd.zeroValue9
 t12:=Tryd.underlying12
 a12:=Tryd.isAgg12
 z12:=Tryd.sizeOf12
 v12:=Tryd.zeroValue12
 t46:=Tryd.underlying117
 a46:=Tryd.isAgg117
 z46:=Tryd.sizeOf117
 v46:=Tryd.zeroValue117
 t53:=Tryd.underlying131
 a53:=Tryd.isAgg131
 z53:=Tryd.sizeOf131
 v53:=Tryd.zeroValue131
 t119:=Tryd.underlying113
 a119:=Tryd.isAgg113
 z119:=Tryd.sizeOf113
 t138:=Tryd.underlying115
 a138:=Tryd.isAgg115
 z138:=Tryd.sizeOf115
 v138:=Tryd.zeroValue115
 t139:=Tryd.underlying116
 a139:=Tryd.isAgg116
 z139:=Tryd.sizeOf116
 v139:=Tryd.zeroValue116
 g3:=by kernel_rfl
 g4:=by kernel_rfl}
open Go.RowKit in
theorem Tryd.utf8_ValidString (s:ByteArray) (w:World) (hs:s.size<=9223372036854775807) (hT:Lib.Utf8Tabs 0 1 w):
  Calls Tryd.prog 64 #[.string s] w fun e w'=>e= .returned (.bool (Lib.validD s.data.toList))/\Below w.heap.size w w':=Any.utf8_ValidString Tryd.laysValid s w hs hT
end Go.Proofs
end
section
namespace Go.TVF
open Go.IntKind(i64 u8)
open Go Go.Proofs Go.RowKit
theorem Sim.grown {g:Ghost} {st:St} {loc:List (Option (List TV))} {w w':World} (s:Sim g st loc w) (h:Below w.heap.size w w'):Sim g st loc w'/\Ext g w g w':=
 s.world h.size (s.below.trans (h.mono s.fits)) h.block
theorem decL_dN {l:B8} (h:l≠ []):Lib.decodeL l=dN l:=by
 unfold Lib.decodeL dN bt
 rw[Lib.decode_at]
 have hg:∀i,(ByteArray.get! ⟨l.toArray⟩ i)=l.getD i 0:=fun i=>by
  simp[ByteArray.get!,List.getD]
  rfl
 simp only[hg,Nat.zero_add,Nat.sub_zero]
 rfl
theorem IN:∀(n:Nat) (l:B8),l.length<=n->Lib.validGoD n l=decide (Ff l=l.length)
 | 0,l,h=>by
  have:l=[]:=List.eq_nil_of_length_eq_zero (by omega)
  subst this
  simp[Lib.validGoD,B5 [] (by simp[ul])]
 | n+1,l,h=>by
  unfold Lib.validGoD
  by_cases h0:l=[]
  ·subst h0
   simp[B5 [] (by simp[ul])]
  ·rw[if_neg h0,decL_dN h0]
   have hl:l.length≠0:=fun e=>h0 (List.eq_nil_of_length_eq_zero e)
   by_cases hz:ul l=0
   ·have hd:=(Na l h0).1 hz
    rw[if_pos (by rw[hd];exact⟨rfl,rfl⟩),B5 l hz]
    exact(decide_eq_false (by omega)).symm
   ·have hd:=TA l hz
    have hn:=ul_not l hz
    have hle:=QO l
    rw[if_neg (by rw[hd];exact hn),hd,IN n (l.drop (ul l)) (by simp only[List.length_drop];omega),Hw l hz]
    simp only[List.length_drop]
    exact decide_eq_decide.2 (by omega)
theorem KR {l:B8} {st:St} {K:Bool->St->Prop} (hl:l.length<=9223372036854775807) (hk:K (decide (U8 l)) st):CallT PR Es [.str l] [.one .bool] st K:=by
 refine Ev (fun _ _=>by kernel_rfl) fun g w vargs s hr=>?_
 obtain⟨v,rfl,hv⟩:=SA hr
 rw[D2 hv]
 refine Calls.mono (Tryd.utf8_ValidString ⟨l.toArray⟩ w (by simpa [ByteArray.size]using hl) (s.glob w s.below)) ?_
 rintro e w' ⟨rfl,hb⟩
 obtain⟨s',e'⟩:=s.grown hb
 rw[show Lib.validD (ByteArray.mk l.toArray).data.toList=decide (U8 l)from IN l.length l (Nat.le_refl _)]
 exact⟨_,rfl,.bool (decide (U8 l)),st,g,hk,s',Rel.bool _,e'⟩
end Go.TVF
end
namespace Go.TVF
open Go.IntKind(i64 u8)
open Go Go.Proofs
theorem zero_ok {v:Vl} {st0 st:St} {cs:List TV} {K:Bool->St->Prop} (h:VlR st0 v cs) (hk:K (J4 v) st):CallT PR Cq [.agg cs] [.one .bool] st K:=by
 obtain⟨s,l,f⟩:=v
 obtain⟨ub,ul,uf,xl,xf,rfl,h1,h2,_,h3,_⟩:=h.cells
 have kf:¬(s=scO/\l=[]/\f=[])->K false st:=fun hn=>by
  have:J4 (.mk s l f)=false:=by
   rw[Bool.eq_false_iff]
   intro e
   unfold J4 at e
   simp only[Bool.and_eq_true,decide_eq_true_eq,List.isEmpty_iff]at e
   exact hn ⟨e.1.1,e.1.2,e.2⟩
  rw[<-this];exact hk
 refine Kq s.kind s.b s.neg s.dg s.ex s.tk s.td s.tn s.tz s.text ub ul uf st K (Ab (fun g1=>?_) fun g1=>kf fun e=>g1 (by rw[e.1];rfl))
 refine AD (fun g2=>?_) fun g2=>kf fun e=>by rw[e.1]at g2;simp[scO]at g2
 refine AD (fun g3=>?_) fun g3=>kf fun e=>by rw[e.1]at g3;simp[scO]at g3
 refine AD (fun g4=>?_) fun g4=>kf fun e=>by rw[e.1]at g4;simp[scO]at g4
 refine Ab (fun g5=>?_) fun g5=>kf fun e=>g5 (by rw[e.1];rfl)
 refine Aa h1.isSl ?_
 rw[h1.lenS]
 refine Ab (fun g6=>?_) fun g6=>kf fun e=>g6 (by rw[e.1];rfl)
 refine Aa h2.isSl ?_
 rw[h2.lenS]
 refine Ab (fun g7=>?_) fun g7=>kf fun e=>g7 (by rw[e.2.1];rfl)
 refine Aa h3.isSl ?_
 rw[h3.lenS]
 have hs:s=scO:=by
  obtain⟨kind,b,neg,dg,ex,tk,td,tn,tz,text,bytes⟩:=s
  simp only[Bool.not_eq_true',Bool.and_true,Bool.and_eq_true,beq_iff_eq,decide_eq_true_eq]at g1 g2 g3 g4 g5 g6
  have:bytes=[]:=List.eq_nil_of_length_eq_zero (by omega)
  unfold scO
  simp only[g1,g2,g3.1,g3.2.1,g3.2.2,g4.1,g4.2.1,g4.2.2.1,g4.2.2.2,g5,this]
 have hl:l=[]:=List.eq_nil_of_length_eq_zero (by omega)
 have:decide ((f.length:Int)=0)=J4 (.mk s l f):=by
  unfold J4
  rw[hs,hl]
  cases f<;>simp[Vl.sc,Vl.list,Vl.flds]<;>omega
 rw[this];exact hk
theorem RO {a_0 a_1:Bool} {a_2:TV} {ks:List B8} {v:Vl} {st0 st:St} {cs:List TV} {K:Bool->St->Prop} (hr:Rd 1 a_2 ks.length (ks.map TV.str)) (h:VlR st0 v cs)
  (hk:K (Cz ⟨a_0,a_1,ks,v⟩) st):CallT PR CC [.agg (.bool a_0:: .bool a_1::a_2::cs)] [.one .bool] st K:=by
 have hz:∀{K:Bool->St->Prop},K (J4 v) st->CallT PR Cq [.agg cs] [.one .bool] st K:=fun hk=>zero_ok h hk
 obtain⟨s,l,f⟩:=v
 obtain⟨ub,ul,uf,xl,xf,rfl,_⟩:=h.cells
 have hsl:isSl a_2=true:=by rcases hr with⟨rfl,_⟩ | ⟨tip,rfl⟩<;>rfl
 have hle:lenS a_2=ks.length:=by
  rcases hr with⟨rfl,e,_⟩ | ⟨tip,rfl⟩
  ·exact e.symm
  ·rfl
 unfold Cz at hk
 refine IL a_0 a_1 a_2 s.kind s.b s.neg s.dg s.ex s.tk s.td s.tn s.tz s.text ub ul uf st K (Aa hsl ?_)
 rw[hle]
 refine Ab (fun g=>?_) fun g=>?_
 ·have hne:ks.isEmpty=false:=by cases ks with | nil=>simp at g | cons a b=>rfl
  simp only[hne,Bool.not_false,Bool.true_and]at hk
  cases a_0 with
  | true=>exact hz (by simpa using hk)
  | false=>
   cases a_1 with
   | true=>exact(show K false st from by simpa using hk)
   | false=>exact(show K true st from by simpa using hk)
 ·have hne:ks=[]:=List.eq_nil_of_length_eq_zero (by omega)
  simp only[hne,List.isEmpty_nil,Bool.not_true,Bool.false_and]at hk
  exact hk
def P0 (k:B8):Bool:= !(decide (U8 k)) || decide (1024<k.length)
theorem odd_ok {k:B8} {st:St} {K:Bool->St->Prop} (hl:k.length<=1000000) (hk:K (P0 k) st):CallT PR Bh [.str k] [.one .bool] st K:=by
 refine KO k st K (KR (by omega) ?_)
 unfold P0 at hk
 by_cases h:U8 k
 ·simp only[h,decide_true,Bool.not_true,Bool.false_or]at hk⊢
  show K (decide ((1024:Int)<(k.length:Int))) st
  have:decide ((1024:Int)<(k.length:Int))=decide (1024<k.length):=decide_eq_decide.2 (by omega)
  rw[this];exact hk
 ·simp only[h,decide_false,Bool.not_false,Bool.true_or]at hk⊢
  exact hk
theorem NP {a_2:TV} {ks:List B8} {st:St} {K:Bool->St->Prop} (hr:Rd 1 a_2 ks.length (ks.map TV.str)) (hl:∀k,k∈ks->k.length<=1000000) (hn:ks.length<=1000000) (hk:K (ks.any P0) st):
  CallT PR Ax [a_2,.func Bh []] [.one .bool] st K:=by
 have hsl:isSl a_2=true:=by rcases hr with⟨rfl,_⟩ | ⟨tip,rfl⟩<;>rfl
 have hle:lenS a_2=ks.length:=by
  rcases hr with⟨rfl,e,_⟩ | ⟨tip,rfl⟩
  ·exact e.symm
  ·rfl
 have hlz:0<ks.length->lenZ 1 a_2=ks.length:=fun h0=>by
  rcases hr with⟨rfl,e,_⟩ | ⟨tip,rfl⟩
  ·omega
  ·rfl
 refine CE a_2 _ st K (C6 a_2 _ st _ (Aa hsl ?_))
 refine⟨fun n_1 s_1 f_1 n_2 st1=>∃j:Nat,n_1=(j:Int)/\j<=ks.length/\s_1=a_2/\f_1= .func Bh []/\n_2=(ks.length:Int)/\st1=st/\(ks.take j).any P0=false,fun n_1 _ _ _ _=>ks.length-n_1.toNat,⟨0,rfl,Nat.zero_le _,rfl,rfl,by rw[hle],rfl,rfl⟩,?_⟩
 rintro n_1 s_1 f_1 n_2 st1 ⟨j,rfl,hj,rfl,rfl,rfl,rfl,ha⟩
 refine Ab (fun hlt=>?_) fun hge=>?_
 ·have hlt:j<ks.length:=by omega
  refine⟨⟨by omega,by rw[hlz (by omega)];omega⟩,?_⟩
  refine Ae (x:= .str (ks.getD j [])) ?_ (E7 ?_)
  ·have:=Gd hlt
   rcases hr with⟨rfl,e,_⟩ | ⟨tip,rfl⟩
   ·omega
   ·simp only[ixT,Ac,Int.toNat_natCast,Nat.mul_one,List.getElem?_drop,Nat.add_zero]
    exact this
  have hmem:ks.getD j []∈ks:=by
   rw[List.getD_eq_getElem?_getD,List.getElem?_eq_getElem hlt];exact List.getElem_mem hlt
  show CallT PR Bh [.str (ks.getD j [])] _ _ _
  refine odd_ok (hl _ hmem) (AD (fun hb=>?_) fun hb=>?_)
  ·have:ks.any P0=true:=List.any_eq_true.2 ⟨_,hmem,hb⟩
   rw[this]at hk
   show K (decide ((0:Int)<=(j:Int))) _
   rw[decide_eq_true (by omega)];exact hk
  ·have hwj:IntKind.wrap .i64 ((j:Int)+1)=((j+1:Nat):Int):=by rw[Ai _ (by omega) (by omega)];simp
   rw[hwj]
   refine⟨⟨j+1,rfl,hlt,rfl,rfl,rfl,rfl,?_⟩,by simp only[Int.toNat_natCast];omega⟩
   rw[G5 hlt,List.any_append,ha,List.any_cons,hb];rfl
 ·have:j=ks.length:=by omega
  subst this
  rw[List.take_length]at ha
  rw[ha]at hk
  exact hk
def NdL (L:List Sh):Prop:=∀s,s∈L->(s.es.map fun x=>x.1).Nodup
theorem NdL.app {A B:List Sh}:NdL (A++B)↔NdL A/\NdL B:=
 ⟨fun h=>⟨fun s hs=>h s (List.mem_append_left _ hs),fun s hs=>h s (List.mem_append_right _ hs)⟩,fun h s hs=>(List.mem_append.1 hs).elim (h.1 s) (h.2 s)⟩
theorem NdL.cons {s:Sh} {B:List Sh}:NdL (s::B)↔(s.es.map fun x=>x.1).Nodup/\NdL B:=
 ⟨fun h=>⟨h s (.head _),fun x hx=>h x (.tail _ hx)⟩,fun h x hx=>(List.mem_cons.1 hx).elim (fun e=>e▸h.1) (h.2 x)⟩
theorem IV (es:List Kn):(es.map shK).map (fun x=>x.1)=es.map Kn.key:=by rw[List.map_map];rfl
theorem OT:∀{es:List Kn} {j:Nat} {k:B8} {eb:Nat} {e:En},(es.map Kn.key).Nodup->es[j]? =some (.mk k eb e)->Ah k es=some (eb,e)
 | .mk k' eb' e'::r,0,k,eb,e,hn,hj=>by
  cases hj
  unfold Ah
  rw[if_pos rfl]
 | .mk k' eb' e'::r,j+1,k,eb,e,hn,hj=>by
  rw[List.map_cons,List.nodup_cons]at hn
  have hj':r[j]? =some (.mk k eb e):=by simpa using hj
  unfold Ah
  have hne:k≠k':=fun e2=>hn.1 (List.mem_map.2 ⟨_,List.mem_of_getElem? hj',e2⟩)
  rw[if_neg hne]
  exact OT hn.2 hj'
theorem SR {T t t':Tb} {h:List Hop} (hA:atT T h=some t) (hb:t'.b=t.b) (hn:NdL (shT 1 T)) (ht:NdL (shT (1+dpH h) t)->NdL (shT (1+dpH h) t')):NdL (shT 1 (Ay T h t')):=by
 obtain⟨A,B,e1,e2⟩:=HV h hA 1
 rw[e1]at hn
 rw[e2 t' hb]
 obtain⟨h1,h2⟩:=NdL.app.1 hn
 obtain⟨h3,h4⟩:=NdL.app.1 h2
 exact NdL.app.2 ⟨h1,NdL.app.2 ⟨ht h3,h4⟩⟩
theorem SS {T t:Tb} {h:List Hop} {k:B8} {eb:Nat} {e:En} (hA:atT T h=some t) (hl:Ah k t.es=none) (hn:NdL (shT 1 T)) (he:NdL (A9 (1+dpH h) e)):NdL (shT 1 (Ay T h (AO t k eb e))):=by
 refine SR (t':=AO t k eb e) hA rfl hn fun ht=>?_
 rw[Ep]at ht
 rw[Nl]
 obtain⟨h1,h2⟩:=NdL.cons.1 ht
 refine NdL.cons.2 ⟨?_,NdL.app.2 ⟨h2,he⟩⟩
 simp only at h1⊢
 rw[List.map_append]
 refine List.nodup_append.2 ⟨h1,by simp,fun x hx y hy e=>?_⟩
 rw[IV]at hx
 obtain⟨d,hd,rfl⟩:=List.mem_map.1 hx
 simp only[List.map_cons,List.map_nil,List.mem_singleton]at hy
 subst hy
 exact Iz hl d hd e
theorem nd_chg {T t:Tb} {h:List Hop} {k:B8} {eb:Nat} {e x:En} (hA:atT T h=some t) (hl:Ah k t.es=some (eb,e)) (hn:NdL (shT 1 T)) (he:NdL (A9 (1+dpH h) e)->NdL (A9 (1+dpH h) x)):NdL (shT 1 (Ay T h (CZ t k x))):=by
 refine SR (t':=CZ t k x) hA rfl hn fun ht=>?_
 rw[Ep]at ht
 obtain⟨P,Q,p1,p2⟩:=FV (1+dpH h) hl
 unfold CZ
 rw[shT,p2]
 obtain⟨h1,h2⟩:=NdL.cons.1 ht
 rw[p1]at h2
 obtain⟨h3,h4⟩:=NdL.app.1 h2
 obtain⟨h5,h6⟩:=NdL.app.1 h4
 refine NdL.cons.2 ⟨?_,NdL.app.2 ⟨h3,NdL.app.2 ⟨he h5,h6⟩⟩⟩
 simp only at h1⊢
 rw[IV]at h1⊢
 rw[Mo];exact h1
theorem K2 {d:Nat}:∀{es:List Kn} {j:Nat} {k:B8} {eb:Nat} {e:En},es[j]? =some (.mk k eb e)->∀s,s∈A9 d e->s∈BR d es
 | .mk k' eb' e'::r,0,k,eb,e,hj,s,hs=>by cases hj;rw[BR];exact List.mem_append_left _ hs
 | .mk k' eb' e'::r,j+1,k,eb,e,hj,s,hs=>by rw[BR];exact List.mem_append_right _ (K2 (j:=j) (by simpa using hj) s hs)
theorem OA {d:Nat}:∀{l:List Tb} {i:Nat} {u:Tb},l[i]? =some u->∀s,s∈shT d u->s∈Dy d l
 | t::r,0,u,hi,s,hs=>by cases hi;rw[Dy];exact List.mem_append_left _ hs
 | t::r,i+1,u,hi,s,hs=>by rw[Dy];exact List.mem_append_right _ (OA (i:=i) (by simpa using hi) s hs)
theorem cnt_kn {es:List Kn} {j:Nat} {k:B8} {eb:Nat} {e:En} (hj:es[j]? =some (.mk k eb e)):(AH e).cnt<=Av (AJ es):=by
 have hm:Fd.mk k (AH e)∈AJ es:=by
  rw[Hy];exact List.mem_map.2 ⟨_,List.mem_of_getElem? hj,rfl⟩
 have gen:∀(f:List Fd) (d:Fd),d∈f->d.cnt<=Av f:=by
  intro f
  induction f with
  | nil=>intro d hd;cases hd
  | cons a r ih=>
   intro d hd
   unfold Av
   rcases List.mem_cons.1 hd with rfl | hd
   ·omega
   ·have:=ih d hd;omega
 exact gen _ _ hm
theorem cnt_tb {l:List Tb} {i:Nat} {u:Tb} (hi:l[i]? =some u):(Af u).cnt<=Aw (AZ l):=by
 have gen:∀(f:List Vl) (d:Vl),d∈f->d.cnt<=Aw f:=by
  intro f
  induction f with
  | nil=>intro d hd;cases hd
  | cons a r ih=>
   intro d hd
   unfold Aw
   rcases List.mem_cons.1 hd with rfl | hd
   ·omega
   ·have:=ih d hd;omega
 refine gen _ _ ?_
 rw[B6];exact List.mem_map.2 ⟨u,List.mem_of_getElem? hi,rfl⟩
end Go.TVF
section
namespace Go.TVF
open Go.IntKind(i64 u8)
structure Way (T T':Tb) (h h':List Hop) (n z:Nat) (good:Prop):Prop where
 at_:∃t,atT T' h'=some t
 cnt:(Af T').cnt<=(Af T).cnt+n
 sz:(Af T').sz<=(Af T).sz+z
 dp:dpH h<=dpH h'
 lv:lvV (Af T')<=max (lvV (Af T)) (dpH h'+1)
 va:good->Az (Af T)->Az (Af T')
 nd:NdL (shT 1 T)->NdL (shT 1 T')
 bx:T'.b=T.b
theorem B1 (nu:Nu) (hd:Bool):Az (Af (AI nu hd)):=by
 rw[AI,Af,AJ]
 unfold Az AX Bb
 refine⟨⟨⟨by decide,by decide,fun _=>rfl,fun _=>⟨rfl,rfl,rfl⟩,fun _=>⟨rfl,rfl,rfl,rfl⟩,fun _=>rfl,fun _=>rfl,fun _=>rfl,fun _=>rfl⟩,by show Ed false [] 0;decide,fun h=>absurd h (by decide),by show Ff []=0;exact B5 [] (by simp[ul]),by decide,by decide,rfl⟩,trivial,trivial⟩
theorem GC (nu:Nu) (hd:Bool):lvV (Af (AI nu hd))=1:=by rw[AI,Af,AJ];simp[lvV,BS,BI]
theorem Ng (nu:Nu) (hd:Bool):(Af (AI nu hd)).sz=1:=by rw[AI,Af,AJ];simp[Vl.sz,Bz,Bs,scM]
theorem GB (d:Nat) (nu:Nu) (hd:Bool):NdL (shT d (AI nu hd)):=by
 rw[AI,shT,BR]
 intro s hs
 rw[List.mem_singleton.1 hs]
 exact List.nodup_nil
theorem Q8 {nu:Nu} {hd:Bool} {T T' t:Tb} {h h':List Hop} {k:B8} (hA:atT T h=some t) (hne:∀eb l,Ah k t.es=some (eb,.lst l)->l≠ []) (hh:DI nu hd T h k=some (T',h')):Way T T' h h' 1 (k.length+1) (U8 k/\k.length<=1024):=by
 unfold DI at hh
 rw[hA]at hh
 simp only at hh
 have id:∀{h'},(∃u,atT T h'=some u)->dpH h<=dpH h'->Way T T h h' 1 (k.length+1) (U8 k/\k.length<=1024):=fun h1 h2=>⟨h1,by omega,by omega,h2,by omega,fun _ h=>h,fun h=>h,rfl⟩
 rcases hl:Ah k t.es with _ | ⟨eb,e⟩
 ·rw[hl]at hh
  simp only[Option.some.injEq,Prod.mk.injEq]at hh
  obtain⟨rfl,rfl⟩:=hh
  have c:=CR h hA (AO t k nu.eb (.opn (AI nu false)))
  have c1:=c.cnt
  have c2:=c.sz
  have c3:=c.lv
  have c4:=c.lvu
  rw[Jp,CQ]at c1
  rw[PI,AH,Ng]at c2
  rw[NB,AH,GC]at c3
  have hdp:dpH (h++[(k,none)])=dpH h+1:=by rw[GK];rfl
  refine⟨⟨_,J2 hA hl⟩,by omega,by omega,by omega,by omega,fun g hv=>?_,fun hn=>SS hA hl hn (by rw[A9];exact GB _ _ _),Fk h hA rfl⟩
  exact c.va hv (Jw (c.vu hv) hl g.1 g.2 (by rw[AH];exact B1 _ _))
 ·rw[hl]at hh
  cases e with
  | opn u=>
   simp only[Option.some.injEq,Prod.mk.injEq]at hh
   obtain⟨rfl,rfl⟩:=hh
   exact id ⟨u,LJ hA hl⟩ (by rw[GK];omega)
  | lst l=>
   simp only at hh
   cases hd with
   | false=>simp at hh
   | true=>
    simp only[if_true,Option.some.injEq,Prod.mk.injEq]at hh
    obtain⟨rfl,rfl⟩:=hh
    have h0:0<l.length:=List.length_pos_iff.2 (hne eb l hl)
    exact id ⟨_,Ht hA hl (List.getElem?_eq_getElem (by omega))⟩ (by rw[GK];omega)
  | clo v i=>simp at hh
end Go.TVF
end
section
namespace Go.TVF
open Go.IntKind(i64 u8)
def NeL (L:List Sh):Prop:=∀s,s∈L->∀x,x∈s.es->∀bs,x.2.2= .lst bs->bs≠ []
theorem NeL.app {A B:List Sh}:NeL (A++B)↔NeL A/\NeL B:=
 ⟨fun h=>⟨fun s hs=>h s (List.mem_append_left _ hs),fun s hs=>h s (List.mem_append_right _ hs)⟩,fun h s hs=>(List.mem_append.1 hs).elim (h.1 s) (h.2 s)⟩
theorem NeL.cons {s:Sh} {B:List Sh}:NeL (s::B)↔(∀x,x∈s.es->∀bs,x.2.2= .lst bs->bs≠ [])/\NeL B:=
 ⟨fun h=>⟨h s (.head _),fun x hx=>h x (.tail _ hx)⟩,fun h x hx=>(List.mem_cons.1 hx).elim (fun e=>e▸h.1) (h.2 x)⟩
theorem SP {T t t':Tb} {h:List Hop} (hA:atT T h=some t) (hb:t'.b=t.b) (hn:NeL (shT 1 T)) (ht:NeL (shT (1+dpH h) t)->NeL (shT (1+dpH h) t')):NeL (shT 1 (Ay T h t')):=by
 obtain⟨A,B,e1,e2⟩:=HV h hA 1
 rw[e1]at hn
 rw[e2 t' hb]
 obtain⟨h1,h2⟩:=NeL.app.1 hn
 obtain⟨h3,h4⟩:=NeL.app.1 h2
 exact NeL.app.2 ⟨h1,NeL.app.2 ⟨ht h3,h4⟩⟩
theorem SQ {T t:Tb} {h:List Hop} {k:B8} {eb:Nat} {e:En} (hA:atT T h=some t) (hn:NeL (shT 1 T)) (h0:∀bs,shE e= .lst bs->bs≠ []) (he:NeL (A9 (1+dpH h) e)):NeL (shT 1 (Ay T h (AO t k eb e))):=by
 refine SP (t':=AO t k eb e) hA rfl hn fun ht=>?_
 rw[Ep]at ht
 rw[Nl]
 obtain⟨h1,h2⟩:=NeL.cons.1 ht
 refine NeL.cons.2 ⟨fun x hx=>?_,NeL.app.2 ⟨h2,he⟩⟩
 rcases List.mem_append.1 hx with h3 | h3
 ·exact h1 x h3
 ·rw[List.mem_singleton.1 h3];exact h0
theorem ne_at {T t:Tb} {h:List Hop} {k:B8} {eb:Nat} {l:List Tb} (hA:atT T h=some t) (hn:NeL (shT 1 T)) (hl:Ah k t.es=some (eb,.lst l)):l≠ []:=by
 obtain⟨A,B,e1,_⟩:=HV h hA 1
 rw[e1]at hn
 have h3:=(NeL.app.1 (NeL.app.1 hn).2).1
 rw[Ep]at h3
 have:=(NeL.cons.1 h3).1 (k,eb,shE (.lst l)) (List.mem_map.2 ⟨.mk k eb (.lst l),HH hl,rfl⟩) (l.map Tb.b) rfl
 intro e
 rw[e]at this
 exact this rfl
theorem ne_chg {T t:Tb} {h:List Hop} {k:B8} {eb:Nat} {e x:En} (hA:atT T h=some t) (hl:Ah k t.es=some (eb,e)) (hn:NeL (shT 1 T)) (h0:∀bs,shE x= .lst bs->bs≠ []) (he:NeL (A9 (1+dpH h) e)->NeL (A9 (1+dpH h) x)):NeL (shT 1 (Ay T h (CZ t k x))):=by
 refine SP (t':=CZ t k x) hA rfl hn fun ht=>?_
 rw[Ep]at ht
 obtain⟨P,Q,p1,p2⟩:=FV (1+dpH h) hl
 unfold CZ
 rw[shT,p2]
 obtain⟨h1,h2⟩:=NeL.cons.1 ht
 rw[p1]at h2
 obtain⟨h3,h4⟩:=NeL.app.1 h2
 obtain⟨h5,h6⟩:=NeL.app.1 h4
 refine NeL.cons.2 ⟨fun y hy bs hb=>?_,NeL.app.2 ⟨h3,NeL.app.2 ⟨he h5,h6⟩⟩⟩
 have mem:∀es:List Kn,y∈(BN k x es).map shK->y∈es.map shK∨y.2.2=shE x:=by
  intro es
  induction es with
  | nil=>intro hy;cases hy
  | cons d r ih=>
   obtain⟨k',eb',e'⟩:=d
   intro hy
   unfold BN at hy
   split at hy
   ·rcases List.mem_cons.1 hy with rfl | hy
    ·exact .inr rfl
    ·exact .inl (.tail _ hy)
   ·rcases List.mem_cons.1 hy with rfl | hy
    ·exact .inl (.head _)
    ·exact(ih hy).imp (.tail _) id
 rcases mem t.es hy with h7 | h7
 ·exact h1 y h7 bs hb
 ·exact h0 bs (h7▸hb)
theorem GA (d:Nat) (nu:Nu) (hd:Bool):NeL (shT d (AI nu hd)):=by
 rw[AI,shT,BR]
 intro s hs
 rw[List.mem_singleton.1 hs]
 intro x hx
 cases hx
theorem Tf {nu:Nu} {hd:Bool} {T T' t:Tb} {h h':List Hop} {k:B8} (hA:atT T h=some t) (hh:DI nu hd T h k=some (T',h')) (hn:NeL (shT 1 T)):NeL (shT 1 T'):=by
 unfold DI at hh
 rw[hA]at hh
 simp only at hh
 rcases hl:Ah k t.es with _ | ⟨eb,e⟩
 ·rw[hl]at hh
  simp only[Option.some.injEq,Prod.mk.injEq]at hh
  obtain⟨rfl,rfl⟩:=hh
  exact SQ hA hn (fun bs h=>by cases h) (by rw[A9];exact GA _ _ _)
 ·rw[hl]at hh
  cases e with
  | opn u=>
   simp only[Option.some.injEq,Prod.mk.injEq]at hh
   rw[<-hh.1];exact hn
  | lst l=>
   simp only at hh
   cases hd with
   | false=>simp at hh
   | true=>
    simp only[if_true,Option.some.injEq,Prod.mk.injEq]at hh
    rw[<-hh.1];exact hn
  | clo v i=>simp at hh
def kz (ks:List B8):Nat:=(ks.map fun k=>k.length+1).sum
theorem Hl {nu:Nat->Nu} {hd:Bool}:∀(ks:List B8) (j:Nat) {T T' t:Tb} {h h':List Hop},atT T h=some t->NeL (shT 1 T)->hops nu hd j T h ks=some (T',h')->lvV (Af T)<=lvV (Af T)->
  Way T T' h h' ks.length (kz ks) (∀k,k∈ks->U8 k/\k.length<=1024)/\NeL (shT 1 T')
 | [],j,T,T',t,h,h',hA,hn,hh,_=>by
  unfold hops at hh
  cases hh
  exact⟨⟨⟨t,hA⟩,by omega,by omega,Nat.le_refl _,by omega,fun _ h=>h,fun h=>h,rfl⟩,hn⟩
 | k::ks,j,T,T',t,h,h',hA,hn,hh,_=>by
  unfold hops at hh
  cases h1:DI (nu j) hd T h k with
  | none=>rw[h1]at hh;cases hh
  | some p=>
   obtain⟨T1,h1'⟩:=p
   rw[h1]at hh
   have w1:=Q8 hA (fun eb l=>ne_at hA hn) h1
   obtain⟨t1,hA1⟩:=w1.at_
   obtain⟨w2,n2⟩:=Hl ks (j+1) hA1 (Tf hA h1 hn) hh (Nat.le_refl _)
   have a1:=w1.cnt
   have a2:=w2.cnt
   have a3:=w1.sz
   have a4:=w2.sz
   have a5:=w1.dp
   have a6:=w2.dp
   have a7:=w1.lv
   have a8:=w2.lv
   refine⟨⟨w2.at_,by rw[List.length_cons];omega,by unfold kz at a4⊢;simp only[List.map_cons,List.sum_cons];omega,by omega,by omega,fun g hv=>?_,fun h=>w2.nd (w1.nd h),w2.bx.trans w1.bx⟩,n2⟩
   exact w2.va (fun k' hk'=>g k' (.tail _ hk')) (w1.va (g k (.head _)) hv)
end Go.TVF
end
section
namespace Go.TVF
open Go.IntKind(i64 u8)
mutual
theorem Qm:∀v:Vl,JY v=lvV v
 | .mk s l f=>by unfold JY lvV;rw[Rh l,Ri f]
theorem Rh:∀l:List Vl,C5 l=BS l
 | []=>by unfold C5 BS;rfl
 | v::r=>by unfold C5 BS;rw[Qm v,Rh r]
theorem depd_lv:∀d:Fd,R5 d=lvD d
 | .mk k v=>by unfold R5 lvD;exact Qm v
theorem Ri:∀l:List Fd,Ie l=BI l
 | []=>by unfold Ie BI;rfl
 | d::r=>by unfold Ie BI;rw[depd_lv d,Ri r]
end
theorem Bo {v:Vl}:AQ v=0↔Az v/\lvV v<=48/\v.cnt<=65536:=
 ⟨fun h=>⟨Hr h,NT v 1 0 h,Dv h⟩,fun h=>TH h.1 h.2.1 h.2.2⟩
theorem NV {t:Tb} {k:B8} {eb:Nat} {e x:En} (hl:Ah k t.es=some (eb,e)):Chg (Af t) (Af (CZ t k x)) (AH e) (AH x) 1:=by
 obtain⟨F,G,h1,h2⟩:=DP hl
 unfold CZ
 rw[Eh t,Af,h1,h2]
 exact Chg.fld F G k _ _
structure TY (T T':Tb) (n z d:Nat) (good:Prop):Prop where
 cnt:(Af T').cnt<=(Af T).cnt+n
 sz:(Af T').sz<=(Af T).sz+z
 lv:lvV (Af T')<=max (lvV (Af T)) d
 va:good->Az (Af T)->Az (Af T')
 nd:NdL (shT 1 T)->NdL (shT 1 T')
 ne:NeL (shT 1 T)->NeL (shT 1 T')
theorem NL {T t:Tb} {h:List Hop} {k:B8} {eb:Nat} {e:En} (hA:atT T h=some t) (hl:Ah k t.es=none) (hn:NdL (A9 (1+dpH h) e)) (hne:∀bs,shE e= .lst bs->bs≠ []) (hne2:NeL (A9 (1+dpH h) e)):
  TY T (Ay T h (AO t k eb e)) (AH e).cnt (k.length+(AH e).sz) (dpH h+1+lvV (AH e)) (U8 k/\k.length<=1024/\Az (AH e)):=by
 have c:=CR h hA (AO t k eb e)
 have c1:=c.cnt
 have c2:=c.sz
 have c3:=c.lv
 have c4:=c.lvu
 rw[Jp]at c1
 rw[PI]at c2
 rw[NB]at c3
 exact⟨by omega,by omega,by omega,fun g hv=>c.va hv (Jw (c.vu hv) hl g.1 g.2.1 g.2.2),fun h=>SS hA hl h hn,fun h=>SQ hA h hne hne2⟩
theorem Rb {T t:Tb} {h:List Hop} {k:B8} {eb:Nat} {e x:En} (hA:atT T h=some t) (hl:Ah k t.es=some (eb,e)) {n:Nat} (hc:(AH x).cnt=(AH e).cnt+n) (hz:(AH x).sz=(AH e).sz+n) (hlv:lvV (AH x)<=max (lvV (AH e)) 2) (hv:Az (AH e)->Az (AH x))
  (hn:NdL (A9 (1+dpH h) e)->NdL (A9 (1+dpH h) x)) (hne:∀bs,shE x= .lst bs->bs≠ []) (hne2:NeL (A9 (1+dpH h) e)->NeL (A9 (1+dpH h) x)):
  TY T (Ay T h (CZ t k x)) n n (dpH h+3) True:=by
 have c:=(CR h hA (CZ t k x)).trans (NV (x:=x) hl)
 have c1:=c.cnt
 have c2:=c.sz
 have c3:=c.lv
 have c4:=c.lvu
 exact⟨by omega,by omega,by omega,fun _ h=>c.va h (hv (c.vu h)),fun h=>nd_chg hA hl h hn,fun h=>ne_chg hA hl h hne hne2⟩
theorem G4 (u:Tb):Af (CA u)=Af u:=by cases u;unfold CA;rw[Af,Af]
theorem QT (l:List Tb) (u:Tb):AH (.lst (l++[u]))= .mk scL (AZ l++[Af u]) []:=by
 rw[AH,B6,B6,List.map_append];rfl
theorem Hx {l:List Vl} (h:AX l):Az (.mk scL l []):=by
 unfold Az Bb
 exact⟨⟨⟨by decide,by decide,fun _=>rfl,fun _=>⟨rfl,rfl,rfl⟩,fun _=>⟨rfl,rfl,rfl,rfl⟩,fun _=>rfl,fun _=>rfl,fun h=>absurd rfl h,fun _=>rfl⟩,by show Ed false [] 0;decide,fun h=>absurd h (by decide),by show Ff []=0;exact B5 [] (by simp[ul]),by decide,by decide,rfl⟩,h,trivial⟩
theorem Il {l:List Vl}:AX l↔∀x,x∈l->Az x:=by
 induction l with
 | nil=>unfold AX;simp
 | cons x r ih=>unfold AX;rw[ih];simp
theorem Oy (d:Nat) (u:Tb):shT d (CA u)=⟨u.b,u.m,true,d,u.es.map shK⟩::BR d u.es:=by cases u;rfl
theorem Hk {nu:Nu} {a:Asg} {i:Nat} {T T':Tb} {h cur cur':List Hop} {k:B8} (hn:NeL (shT 1 T)) (hh:Ca nu a i T h cur k= .ok (T',cur')):
  TY T T' (2+a.val.cnt) (k.length+2+a.val.sz) (dpH h+3+(if a.elem=true∨a.tab=true then 0 else lvV a.val-2)) (U8 k/\k.length<=1024/\(a.elem=false->a.tab=false->Az a.val))/\
   (a.elem=false->a.tab=false->(Az (Af T')->Az a.val)/\(Af T').cnt=(Af T).cnt+a.val.cnt/\dpH h+1+lvV a.val<=lvV (Af T')/\lvV (Af T')<=max (lvV (Af T)) (dpH h+1+lvV a.val)):=by
 unfold Ca at hh
 have mono:∀{n z d n' z' d':Nat} {g g':Prop},TY T T' n z d g->n<=n'->z<=z'->d<=d'->(g'->g)->TY T T' n' z' d' g':=fun f h1 h2 h3 h4=>
  ⟨Nat.le_trans f.cnt (by omega),Nat.le_trans f.sz (by omega),by have:=f.lv;omega,fun g=>f.va (h4 g),f.nd,f.ne⟩
 cases hA:atT T h with
 | none=>rw[hA]at hh;cases hh
 | some t=>
 rw[hA]at hh
 simp only at hh
 cases he:a.elem with
 | true=>
  rw[if_pos (by rw[he])]at hh
  refine⟨?_,fun h=>by cases h⟩
  rcases hl:Ah k t.es with _ | ⟨eb,u | l | ⟨v,j⟩⟩<;>rw[hl]at hh<;>simp only[Except.ok.injEq,Prod.mk.injEq,reduceCtorEq]at hh
  ·obtain⟨rfl,rfl⟩:=hh
   have e1:AH (.lst [AI nu false])= .mk scL [Af (AI nu false)] []:=by rw[AH,AZ,AZ]
   have e2:(AH (.lst [AI nu false])).cnt=2:=by rw[e1,AI,Af,AJ];simp[Vl.cnt,Aw,Av]
   have e3:(AH (.lst [AI nu false])).sz=2:=by rw[e1,AI,Af,AJ];simp[Vl.sz,Bz,Bs,scL,scM]
   have e4:lvV (AH (.lst [AI nu false]))=2:=by rw[e1,AI,Af,AJ];simp[lvV,BS,BI]
   have f:=NL (eb:=nu.eb) (e:= .lst [AI nu false]) hA hl (by rw[A9,Dy,Dy,List.append_nil];exact GB _ _ _) (fun bs h=>by cases h;simp) (by rw[A9,Dy,Dy,List.append_nil];exact GA _ _ _)
   rw[e2,e3,e4]at f
   refine mono f (by omega) (by omega) (by simp) fun g=>⟨g.1,g.2.1,?_⟩
   rw[e1]
   refine Hx (Il.2 fun x hx=>?_)
   rw[List.mem_singleton.1 hx];exact B1 _ _
  ·obtain⟨rfl,rfl⟩:=hh
   have e1:=QT l (AI nu false)
   have e0:AH (.lst l)= .mk scL (AZ l) []:=by rw[AH]
   have f:=Rb (x:= .lst (l++[AI nu false])) (n:=1) hA hl ?_ ?_ ?_ ?_ ?_ ?_ ?_
   ·exact mono f (by omega) (by omega) (by simp) fun _=>trivial
   ·rw[e1,e0];simp only[Vl.cnt,CV,Aw,AI,Af,AJ,Av];omega
   ·rw[e1,e0];simp only[Vl.sz,G0,Bz,AI,Af,AJ,Bs,scL,scM,List.length_nil];omega
   ·rw[e1,e0];simp only[lvV,Hi,BS,AI,Af,AJ,BI];omega
   ·rw[e1,e0]
    intro hv
    unfold Az at hv
    exact Hx ((DL _ _).2 ⟨hv.2.1,Il.2 fun x hx=>by rw[List.mem_singleton.1 hx];exact B1 _ _⟩)
   ·intro h1
    rw[A9]at h1⊢
    rw[IU,Dy,Dy,List.append_nil]
    exact NdL.app.2 ⟨h1,GB _ _ _⟩
   ·intro bs h1;cases h1;simp
   ·intro h1
    rw[A9]at h1⊢
    rw[IU,Dy,Dy,List.append_nil]
    exact NeL.app.2 ⟨h1,GA _ _ _⟩
 | false=>
  rw[if_neg (by rw[he];simp)]at hh
  cases ht:a.tab with
  | true=>
   rw[if_pos (by rw[ht])]at hh
   refine⟨?_,fun _ h=>by cases h⟩
   rcases hl:Ah k t.es with _ | ⟨eb,u | l | ⟨v,j⟩⟩<;>rw[hl]at hh<;>simp only[Except.ok.injEq,Prod.mk.injEq,reduceCtorEq]at hh
   ·obtain⟨rfl,rfl⟩:=hh
    have f:=NL (eb:=nu.eb) (e:= .opn (AI nu true)) hA hl (by rw[A9];exact GB _ _ _) (fun bs h=>by cases h) (by rw[A9];exact GA _ _ _)
    rw[CQ,AH,Ng,GC]at f
    exact mono f (by omega) (by omega) (by omega) fun g=>⟨g.1,g.2.1,B1 _ _⟩
   ·split at hh
    ·cases hh
    ·simp only[Except.ok.injEq,Prod.mk.injEq]at hh
     obtain⟨rfl,rfl⟩:=hh
     have f:=Rb (x:= .opn (CA u)) (n:=0) hA hl ?_ ?_ ?_ ?_ ?_ ?_ ?_
     ·exact mono f (by omega) (by omega) (by simp) fun _=>trivial
     ·rw[AH,AH,G4];rfl
     ·rw[AH,AH,G4];rfl
     ·rw[AH,AH,G4];omega
     ·rw[AH,AH,G4];exact id
     ·rw[A9,A9]
      intro h1 s hs
      rw[Oy]at hs
      rw[Ep]at h1
      rcases List.mem_cons.1 hs with rfl | hs
      ·exact h1 ⟨u.b,u.m,u.hd,1+dpH h+1,u.es.map shK⟩ (.head _)
      ·exact h1 s (.tail _ hs)
     ·intro bs h;cases h
     ·rw[A9,A9]
      intro h1 s hs
      rw[Oy]at hs
      rw[Ep]at h1
      rcases List.mem_cons.1 hs with rfl | hs
      ·exact h1 ⟨u.b,u.m,u.hd,1+dpH h+1,u.es.map shK⟩ (.head _)
      ·exact h1 s (.tail _ hs)
  | false=>
   rw[if_neg (by rw[ht];simp)]at hh
   rcases hl:Ah k t.es with _ | ⟨eb,e⟩<;>rw[hl]at hh<;>simp only[Except.ok.injEq,Prod.mk.injEq,reduceCtorEq]at hh
   obtain⟨rfl,rfl⟩:=hh
   have f:=NL (eb:=nu.eb) (e:= .clo a.val i) hA hl (by rw[A9];intro s hs;cases hs) (fun bs h=>by cases h) (by rw[A9];intro s hs;cases hs)
   have e1:AH (.clo a.val i)=a.val:=by rw[AH]
   rw[e1]at f
   refine⟨mono f (by omega) (by omega) (by simp;omega) fun g=>⟨g.1,g.2.1,g.2.2 rfl rfl⟩,fun _ _=>⟨fun hv=>?_,?_,?_,f.lv⟩⟩
   ·have:=(CR h hA (AO t k nu.eb (.clo a.val i)))
    have hv2:Az (Af (AO t k nu.eb (.clo a.val i))):=by
     have c:=CR h (BJ h (x:=AO t k nu.eb (.clo a.val i)) hA) (AO t k nu.eb (.clo a.val i))
     exact c.vu hv
    rw[IO]at hv2
    unfold Az at hv2
    have:=((ES _ _).1 hv2.2.2).2
    unfold Bb Cl at this
    rw[<-e1];exact this.1
   ·have c:=(CR h hA (AO t k nu.eb (.clo a.val i))).cnt
    rw[Jp,e1]at c
    omega
   ·have c:=(CR h (BJ h (x:=AO t k nu.eb (.clo a.val i)) hA) (AO t k nu.eb (.clo a.val i))).lvu
    rw[NB,e1]at c
    omega
theorem QC {T u t x:Tb} {g r:List Hop} (hg:atT T g=some u) (hA:atT T (g++r)=some t) (hx:x.b=t.b):∃u',atT (Ay T (g++r) x) g=some u'/\u'.b=u.b:=by
 refine⟨Ay u r x,?_,Fk r (T:=u) (t:=t) (by rw[HO,hg]at hA;exact hA) hx⟩
 rw[HC g r hg,BJ g hg]
theorem hop_pre {nu:Nu} {hd:Bool} {T T' u t:Tb} {g r h':List Hop} {k:B8} (hg:atT T g=some u) (hA:atT T (g++r)=some t) (hne:NeL (shT 1 T)) (hh:DI nu hd T (g++r) k=some (T',h')):
  ∃r' u' t',h'=g++r'/\atT T' g=some u'/\u'.b=u.b/\atT T' h'=some t':=by
 have w:=Q8 hA (fun eb l=>ne_at hA hne) hh
 obtain⟨t',ht'⟩:=w.at_
 unfold DI at hh
 rw[hA]at hh
 simp only at hh
 rcases hl:Ah k t.es with _ | ⟨eb,e⟩
 ·rw[hl]at hh
  simp only[Option.some.injEq,Prod.mk.injEq]at hh
  obtain⟨rfl,rfl⟩:=hh
  obtain⟨u',h1,h2⟩:=QC (x:=AO t k nu.eb (.opn (AI nu false))) hg hA rfl
  exact⟨r++[(k,none)],u',t',by rw[List.append_assoc],h1,h2,ht'⟩
 ·rw[hl]at hh
  cases e with
  | opn w=>
   simp only[Option.some.injEq,Prod.mk.injEq]at hh
   obtain⟨rfl,rfl⟩:=hh
   exact⟨r++[(k,none)],u,t',by rw[List.append_assoc],hg,rfl,ht'⟩
  | lst l=>
   simp only at hh
   cases hd with
   | false=>simp at hh
   | true=>
    simp only[if_true,Option.some.injEq,Prod.mk.injEq]at hh
    obtain⟨rfl,rfl⟩:=hh
    exact⟨r++[(k,some (l.length-1))],u,t',by rw[List.append_assoc],hg,rfl,ht'⟩
  | clo v i=>simp at hh
theorem Lo {nu:Nat->Nu} {hd:Bool}:∀(ks:List B8) (j:Nat) {T T' u t:Tb} {g r h':List Hop},atT T g=some u->atT T (g++r)=some t->NeL (shT 1 T)->hops nu hd j T (g++r) ks=some (T',h')->
  ∃r' u',h'=g++r'/\atT T' g=some u'/\u'.b=u.b
 | [],j,T,T',u,t,g,r,h',hg,hA,hn,hh=>by
  unfold hops at hh
  cases hh
  exact⟨r,u,rfl,hg,rfl⟩
 | k::ks,j,T,T',u,t,g,r,h',hg,hA,hn,hh=>by
  unfold hops at hh
  cases h1:DI (nu j) hd T (g++r) k with
  | none=>rw[h1]at hh;cases hh
  | some p=>
   obtain⟨T1,h1'⟩:=p
   rw[h1]at hh
   obtain⟨r1,u1,t1,e1,e2,e3,e4⟩:=hop_pre hg hA hn h1
   subst e1
   obtain⟨r2,u2,e5,e6,e7⟩:=Lo ks (j+1) e2 e4 (Tf hA h1 hn) hh
   exact⟨r2,u2,e5,e6,e7.trans e3⟩
end Go.TVF
end
namespace Go.TVF
open Go.IntKind(i64 u8)
open Go Go.Proofs
theorem QN:VlR St.zero vlO z13:=by
 unfold vlO VlR
 refine⟨.nilSlice,.nilSlice,.nilSlice,[],[],rfl,.of_rd (.inl ⟨rfl,rfl,rfl⟩),.of_rd (.inl ⟨rfl,rfl,rfl⟩),by unfold VsR;rfl,.of_rd (.inl ⟨rfl,rfl,rfl⟩),by unfold FsR;rfl⟩
theorem ent13 {σ:Nat->TV} {st:St} {eb:Nat} {e:En} (h:Ky σ st eb (shE e)) (hlt:eb<st.nb) {f:Fun [.int .i64,.bool,.bool,.str,.int .i64,.int .i64,.int .i64,.int .i64,.int .i64,.str,.tv,.tv,.tv] Prop}
  (hf:∀s ub ul uf,(∀v i,e= .clo v i->VlR St.zero v (AK s ub ul uf))->List.all (AK s ub ul uf) At=true->f s.kind s.b s.neg s.dg s.ex s.tk s.td s.tn s.tz s.text ub ul uf):
  Ar ((Aj st [] (.t (.box eb 2)) 0 13).map TV.agg) fun x=>BF [.int .i64,.bool,.bool,.str,.int .i64,.int .i64,.int .i64,.int .i64,.int .i64,.str,.tv,.tv,.tv] x f:=by
 obtain⟨a,b,cs,x,v,h1,h2,h3,h4⟩:∃a b cs x v,st.box eb= .cells (a::b::(cs++[x]))/\cs.length=13/\VlR St.zero v cs/\∀w i,e= .clo w i->w=v:=by
  cases e with
  | opn u=>exact⟨_,_,z13,_,vlO,h.1,rfl,QN,fun w i h=>by cases h⟩
  | lst l=>exact⟨_,_,z13,_,vlO,h.2.2,rfl,QN,fun w i h=>by cases h⟩
  | clo v i=>
   obtain⟨cs,q1,q2,q3,_⟩:=h
   exact⟨_,_,cs,_,v,q3,q2,q1,fun w j h=>by cases h;rfl⟩
 have hS:SlR st 13 (.ms 13 eb 2 1 1) 1 cs:= .inr ⟨eb,2,1,_,rfl,hlt,h1,by simp[h2],Nat.le_refl _,by
  show cs=((a::b::(cs++[x])).drop 2).take 13
  show cs=(cs++[x]).take 13
  rw[<-h2,List.take_left'];rfl⟩
 have:=hS.ldc (i:=0) (by omega) (by omega)
 simp only[ixT,Nat.zero_mul,Nat.add_zero,List.drop_zero]at this
 rw[this]
 have ht:cs.take 13=cs:=List.take_of_length_le (by omega)
 rw[ht]
 obtain⟨s,l,g⟩:=v
 have h30:=h3
 obtain⟨ub,ul,uf,xl,xf,rfl,w1,w2,_,w4,_⟩:=h3.cells
 exact Ae rfl (NO (hf s ub ul uf (fun w i e=>by rw[h4 w i e];exact h30) (DB w1.one w2.one w4.one)))
theorem take_kn {es:List Kn} {j:Nat} {k:B8} {eb:Nat} {e:En} (hj:es[j]? =some (.mk k eb e)):AJ (es.take (j+1))=AJ (es.take j)++[.mk k (AH e)]:=by
 rw[B7 hj,Hz,AJ,AJ]
theorem take_tb {l:List Tb} {i:Nat} {u:Tb} (hi:l[i]? =some u):AZ (l.take (i+1))=AZ (l.take i)++[Af u]:=by
 rw[B7 hi,B6,B6,List.map_append];rfl
theorem J1:∀(N:Nat) (t:Tb) (d:Nat),(Af t).cnt<=N->N<=900000->∀{σ:Nat->TV} {st:St} {bb:Nat} {K:Int->Bool->Bool->B8->Int->Int->Int->Int->Int->B8->TV->TV->TV->St->Prop},(∀s,s∈shT d t->LP σ st s)->NdL (shT d t)->(∀x,x∈bxL (shT d t)->x<st.nb)->
  (∀uf st',VlR St.zero (Af t) (AK scM .nilSlice .nilSlice uf)->At uf=true->Al st st'->K 7 false false [] 0 0 0 0 0 [] .nilSlice .nilSlice uf st')->
  CallT PR Am [.box bb 0,.box t.b 0] [.agg [.int .i64,.bool,.bool,.str,.int .i64,.int .i64,.int .i64,.int .i64,.int .i64,.str,.tv,.tv,.tv]] st K:=by
 intro N
 induction N with
 | zero=>
  intro t d h
  have:1<=(Af t).cnt:=by cases Af t;unfold Vl.cnt;omega
  omega
 | succ N ih=>
 intro t d hN hN2 σ st bb K hs hnd hx hk
 rw[Ep]at hnd
 have htm:(⟨t.b,t.m,t.hd,d,t.es.map shK⟩:Sh)∈shT d t:=by rw[Ep];exact .head _
 have hS:=hs _ htm
 have hrow:C0 (σ t.b) ((t.es.map Kn.key).map TV.str):=by have:=hS.row;simp only[IV]at this;exact this
 have hndk:(t.es.map Kn.key).Nodup:=by have:=(NdL.cons.1 hnd).1;simp only[IV]at this;exact this
 have hcnt:(Af t).cnt=1+Av (AJ t.es):=by rw[Eh];simp only[Vl.cnt,Aw]
 have hlen:t.es.length<=900000:=by have:=NE t;omega
 have hc0:st.box t.b= .cells [σ t.b,.map t.m,.int .i64 (d:Int)]:=hS.cell
 refine Fy bb t.b st K (Ae (x:=σ t.b) (by simp only[Ac,hc0];rfl) (Aa hrow.sl ?_))
 rw[hrow.len,List.length_map,List.length_map]
 refine⟨fun n_1 b_1 t_1 v_1 n_2 _ _ _ _ _ _ _ _ _ _ _ _ _ n7 b3 b4 s3 n8 n9 n10 n11 n12 s4 v5 v6 v7 st1=>b_1= .box bb 0/\t_1= .box t.b 0/\v_1=σ t.b/\n_2=(t.es.length:Int)/\n7=7/\b3=false/\b4=false/\s3=[]/\n8=0/\n9=0/\n10=0/\n11=0/\n12=0/\s4=[]/\v5= .nilSlice/\v6= .nilSlice/\
   ∃(j:Nat) (xs:List TV),n_1=(j:Int)/\j<=t.es.length/\Al st st1/\Own st.nt 14 st1 v7 j xs/\FsR St.zero (AJ (t.es.take j)) xs,
  fun n_1 _ _ _ _ _ _ _ _ _ _ _ _ _ _ _ _ _ _ _ _ _ _ _ _ _ _ _ _ _ _ _=>t.es.length-n_1.toNat,
  ⟨rfl,rfl,rfl,rfl,rfl,rfl,rfl,rfl,rfl,rfl,rfl,rfl,rfl,rfl,rfl,rfl,0,[],rfl,Nat.zero_le _,Al.refl _,Own.nil _ _ _,by simp only[List.take_zero,AJ];unfold FsR;rfl⟩,?_⟩
 rintro n_1 _ _ _ _ n1 b1 b2 s1 n2 n3 n4 n5 n6 s2 v2 v3 v4 _ _ _ _ _ _ _ _ _ _ _ _ v7 st1 ⟨rfl,rfl,rfl,rfl,rfl,rfl,rfl,rfl,rfl,rfl,rfl,rfl,rfl,rfl,rfl,rfl,j,xs,rfl,hj,e1,ho,hf⟩
 have hs1:∀s,s∈shT d t->LP σ st1 s:=fun s hs'=>(hs s hs').fr fun x hx'=>⟨e1.box x (hx x (Bn hs' hx')),rfl⟩
 refine Ab (fun g=>?_) fun g=>?_
 ·have hlt:j<t.es.length:=by omega
  have hwj:IntKind.wrap .i64 ((j:Int)+1)=((j+1:Nat):Int):=by rw[Ai _ (by omega) (by omega)];simp
  obtain⟨k,eb,e,hkn⟩:∃k eb e,t.es[j]? =some (.mk k eb e):=by
   rw[List.getElem?_eq_getElem hlt]
   cases t.es[j]with
   | mk k eb e=>exact⟨k,eb,e,rfl⟩
  have hl:=OT hndk hkn
  have hent0:(k,eb,shE e)∈t.es.map shK:=List.mem_map.2 ⟨.mk k eb e,List.mem_of_getElem? hkn,rfl⟩
  have hent:Ky σ st1 eb (shE e):=(hs1 _ htm).en _ hent0
  have heb:eb<st1.nb:=Nat.lt_of_lt_of_le (hx _ (Bn htm (EA (s:=⟨t.b,t.m,t.hd,d,t.es.map shK⟩) (x:=(k,eb,shE e)) hent0))) e1.nb
  have hec:=cnt_kn hkn
  rw[hwj]
  refine⟨⟨by omega,by rw[hrow.lenZ,List.length_map,List.length_map];omega⟩,?_⟩
  rw[Int.toNat_natCast]
  refine hrow.get (x:= .str k) (by rw[List.getElem?_map,List.getElem?_map,hkn];rfl) (E7 ?_)
  have hc1:st1.box t.b= .cells [σ t.b,.map t.m,.int .i64 (d:Int)]:=(hs1 _ htm).cell
  obtain⟨mp,hm1,hm2⟩:=(hs1 _ htm).mp
  have hm1':st1.box t.m= .map mp:=hm1
  have hfm:AA k mp=some (.box eb 0):=by
   rw[hm2 k,Gc,hl];rfl
  refine Aa rfl (Aa rfl (Ae (x:= .map t.m) (by simp only[AV,Ac,hc1];rfl) (Ae (x:=mp) (by simp only[Er,hm1']) ?_)))
  rw[hfm]
  refine Aa rfl (Aa rfl (ent13 hent heb fun sc ub ul uf hclo hone=>Aa hone (Aa rfl (Aa rfl ?_))))
  have fin:∀{v:Vl} {sc:Sc} {ub ul uf:TV} {st2:St},AH e=v->VlR St.zero v (AK sc ub ul uf)->Al st1 st2->∀{K':TV->St->Prop},(∀v17 st3,At v17=true->Al st st3->Own st.nt 14 st3 v17 (j+1) (xs++ .str k::AK sc ub ul uf)->FsR St.zero (AJ (t.es.take (j+1))) (xs++ .str k::AK sc ub ul uf)->K' v17 st3)->
    Cx 50 14 184 v7 1 (.str k::AK sc ub ul uf) st2 K':=fun {v sc ub ul uf st2} hv hvr e2 K' hk'=>by
   refine DU (e1.trans e2) rfl (ho.ext e2) (by omega) (fun h=>by cases h) fun v9 st3 e3 _ ho3=>hk' v9 st3 ho3.rd.one e3 ho3 ?_
   rw[take_kn hkn,hv]
   refine FsR.snoc hf ?_
   unfold FdR
   exact⟨_,rfl,hvr⟩
  cases e with
  | opn u=>
   have he0:st1.box eb= .cells (.box u.b 0:: .nilSlice::(z13++[.int .i64 0])):=hent.1
   refine Ae (x:= .box u.b 0) (by simp only[Au,AV,Ac,he0];rfl) (Aa rfl (AD (fun _=>?_) fun h=>by cases h))
   refine Aa rfl (Aa rfl (Ae (x:= .box u.b 0) (by simp only[Au,AV,Ac,he0];rfl) ?_))
   have sub:∀s,s∈shT (d+1) u->s∈BR d t.es:=fun s hs'=>K2 hkn s (by rw[A9];exact hs')
   have subT:∀s,s∈shT (d+1) u->s∈shT d t:=fun s hs'=>by rw[Ep];exact .tail _ (sub s hs')
   refine ih u (d+1) (by rw[AH]at hec;omega) (by omega) (fun s hs'=>hs1 s (subT s hs')) (fun s hs'=>(NdL.cons.1 hnd).2 s (sub s hs')) (fun x hx'=>?_) fun uf' st2 hv2 o2 e2=>Aa (DB rfl rfl o2) (Aa (show(true&&_)=true from by rw[Bool.true_and];exact DB rfl rfl o2) ?_)
   ·obtain⟨s,hs',hxs⟩:=List.mem_flatMap.1 hx'
    exact Nat.lt_of_lt_of_le (hx x (Bn (subT s hs') hxs)) e1.nb
   ·exact fin (v:=Af u) (by rw[AH]) hv2 e2 fun v17 st3 a1 a2 a3 a4=>Aa (by simp[a1]) ⟨⟨rfl,rfl,rfl,rfl,rfl,rfl,rfl,rfl,rfl,rfl,rfl,rfl,rfl,rfl,rfl,rfl,j+1,_,rfl,hlt,a2,a3,a4⟩,by simp only[Int.toNat_natCast];omega⟩
  | lst l=>
   obtain⟨g1,gne,he0⟩:=hent
   have glen:(σ eb |> lenS)=l.length:=by show lenS (σ eb)=_;rw[g1.len,List.length_map,List.length_map]
   have glz:lenZ 1 (σ eb)=l.length:=by rw[g1.lenZ,List.length_map,List.length_map]
   have hle:=ND l
   have hec2:1+Aw (AZ l)<=Av (AJ t.es):=by rw[AH]at hec;simp only[Vl.cnt,Av]at hec;omega
   have hl0:0<l.length:=List.length_pos_iff.2 fun e=>gne (by rw[e];rfl)
   refine Ae (x:= .nilPtr) (by simp only[Au,AV,Ac,he0];rfl) (Aa rfl (AD (fun h=>by cases h) fun _=>?_))
   refine Aa rfl (Aa rfl (Ae (x:=σ eb) (by simp only[Au,AV,Ac,he0];rfl) (Aa g1.sl (Ab (fun _=>?_) fun h=>absurd (by omega) h))))
   refine Aa rfl (Aa rfl (Ae (x:=σ eb) (by simp only[Au,AV,Ac,he0];rfl) (Aa g1.sl ?_)))
   refine⟨fun n_3 b_2 t_2 k_1 v_2 n_4 n_5 v_3 n_6 _ _ _ _ _ _ _ _ _ _ _ _ _ m7 c3 c4 r3 m8 m9 m10 m11 m12 r4 w5 w6 w7 x7 y3 y4 z3 x8 x9 x10 x11 x12 z4 w8 w9 w10 st4=>
     b_2= .box bb 0/\t_2= .box t.b 0/\k_1=k/\v_2=σ t.b/\n_4=(t.es.length:Int)/\n_5=(j:Int)/\v_3=σ eb/\n_6=(l.length:Int)/\m7=7/\c3=false/\c4=false/\r3=[]/\m8=0/\m9=0/\m10=0/\m11=0/\m12=0/\r4=[]/\w5= .nilSlice/\w6= .nilSlice/\w7=v7/\
     x7=6/\y3=false/\y4=false/\z3=[]/\x8=0/\x9=0/\x10=0/\x11=0/\x12=0/\z4=[]/\w8= .nilSlice/\w10= .nilSlice/\∃(i:Nat) (ys:List TV),n_3=(i:Int)/\i<=l.length/\Al st1 st4/\Own st1.nt 13 st4 w9 i ys/\VsR St.zero (AZ (l.take i)) ys,
    fun n_3 _ _ _ _ _ _ _ _ _ _ _ _ _ _ _ _ _ _ _ _ _ _ _ _ _ _ _ _ _ _ _ _ _ _ _ _ _ _ _ _ _ _ _ _ _ _ _ _=>l.length-n_3.toNat,
    ⟨rfl,rfl,rfl,rfl,rfl,rfl,rfl,by rw[show lenS (σ eb)=l.length from glen],rfl,rfl,rfl,rfl,rfl,rfl,rfl,rfl,rfl,rfl,rfl,rfl,rfl,rfl,rfl,rfl,rfl,rfl,rfl,rfl,rfl,rfl,rfl,rfl,rfl,0,[],rfl,Nat.zero_le _,Al.refl _,Own.nil _ _ _,by simp only[List.take_zero,AZ];unfold VsR;rfl⟩,?_⟩
   rintro n_3 _ _ _ _ _ _ _ _ q1 q2 q3 q4 q5 q6 q7 q8 q9 q10 q11 q12 q13 _ _ _ _ _ _ _ _ _ _ _ _ _ _ _ _ _ _ _ _ _ _ _ _ w9 _ st4 ⟨rfl,rfl,rfl,rfl,rfl,rfl,rfl,rfl,rfl,rfl,rfl,rfl,rfl,rfl,rfl,rfl,rfl,rfl,rfl,rfl,rfl,rfl,rfl,rfl,rfl,rfl,rfl,rfl,rfl,rfl,rfl,rfl,rfl,i,ys,rfl,hi,e4,ho4,hv4⟩
   refine Ab (fun g2=>?_) fun g2=>?_
   ·have hil:i<l.length:=by omega
    obtain⟨u,hu⟩:∃u,l[i]? =some u:=⟨l[i],List.getElem?_eq_getElem hil⟩
    have hwi:IntKind.wrap .i64 ((i:Int)+1)=((i+1:Nat):Int):=by rw[Ai _ (by omega) (by omega)];simp
    rw[hwi]
    refine⟨⟨by omega,by rw[glz];omega⟩,?_⟩
    rw[Int.toNat_natCast]
    refine g1.get (x:= .box u.b 0) (by rw[List.getElem?_map,List.getElem?_map,hu];rfl) ?_
    have huc:=cnt_tb hu
    have sub:∀s,s∈shT (d+2) u->s∈BR d t.es:=fun s hs'=>K2 hkn s (by rw[A9];exact OA hu s hs')
    have subT:∀s,s∈shT (d+2) u->s∈shT d t:=fun s hs'=>by rw[Ep];exact .tail _ (sub s hs')
    refine ih u (d+2) (by omega) (by omega) (fun s hs'=>(hs1 s (subT s hs')).fr fun x hx'=>⟨e4.box x (Nat.lt_of_lt_of_le (hx x (Bn (subT s hs') hx')) e1.nb),rfl⟩) (fun s hs'=>(NdL.cons.1 hnd).2 s (sub s hs')) (fun x hx'=>?_) fun uf' st5 hv5 o5 e5=>Aa (DB rfl rfl o5) ?_
    ·obtain⟨s,hs',hxs⟩:=List.mem_flatMap.1 hx'
     exact Nat.lt_of_lt_of_le (hx x (Bn (subT s hs') hxs)) (Nat.le_trans e1.nb e4.nb)
    refine DU (e4.trans e5) rfl (ho4.ext e5) (by omega) (fun h=>by cases h) fun v9 st6 e6 _ ho6=>Aa (by simp[ho6.rd.one]) ?_
    refine⟨⟨rfl,rfl,rfl,rfl,rfl,rfl,rfl,rfl,rfl,rfl,rfl,rfl,rfl,rfl,rfl,rfl,rfl,rfl,rfl,rfl,rfl,rfl,rfl,rfl,rfl,rfl,rfl,rfl,rfl,rfl,rfl,rfl,rfl,i+1,_,rfl,hil,e6,ho6,?_⟩,by simp only[Int.toNat_natCast];omega⟩
    rw[take_tb hu]
    exact VsR.snoc hv4 hv5
   ·have hii:i=l.length:=by omega
    subst hii
    rw[List.take_length]at hv4
    refine Aa (show(true&&_)=true from by rw[Bool.true_and];exact DB rfl ho4.rd.one rfl) ?_
    have hvl:VlR St.zero (.mk scL (AZ l) []) (AK scL .nilSlice w9 .nilSlice):=by
     unfold VlR
     exact⟨.nilSlice,w9,.nilSlice,ys,[],rfl,.of_rd (.inl ⟨rfl,rfl,rfl⟩),.of_rd (by rw[show(AZ l).length=l.length by rw[B6,List.length_map]];exact ho4.rd),hv4,.of_rd (.inl ⟨rfl,rfl,rfl⟩),by unfold FsR;rfl⟩
    rw[hwj]
    exact fin (v:= .mk scL (AZ l) []) (by rw[AH]) hvl e4 fun v17 st3 a1 a2 a3 a4=>Aa (by simp[a1]) ⟨⟨rfl,rfl,rfl,rfl,rfl,rfl,rfl,rfl,rfl,rfl,rfl,rfl,rfl,rfl,rfl,rfl,j+1,_,rfl,hlt,a2,a3,a4⟩,by simp only[Int.toNat_natCast];omega⟩
  | clo v i=>
   obtain⟨cs,_,_,he0,_⟩:=hent
   refine Ae (x:= .nilPtr) (by simp only[Au,AV,Ac,he0];rfl) (Aa rfl (AD (fun h=>by cases h) fun _=>?_))
   refine Aa rfl (Aa rfl (Ae (x:= .nilSlice) (by simp only[Au,AV,Ac,he0];rfl) (Aa rfl (Ab (fun h=>absurd h (by simp[lenS])) fun _=>?_))))
   refine Aa (show(true&&_)=true from by rw[Bool.true_and];exact hone) ?_
   exact fin (v:=v) (by rw[AH]) (hclo v i rfl) (Al.refl st1) fun v17 st3 a1 a2 a3 a4=>Aa (by simp[a1]) ⟨⟨rfl,rfl,rfl,rfl,rfl,rfl,rfl,rfl,rfl,rfl,rfl,rfl,rfl,rfl,rfl,rfl,j+1,_,rfl,hlt,a2,a3,a4⟩,by simp only[Int.toNat_natCast];omega⟩
 ·have hjj:j=t.es.length:=by omega
  subst hjj
  rw[List.take_length]at hf
  refine Aa (DB rfl rfl ho.rd.one) (hk v7 st1 ?_ ho.rd.one e1)
  rw[Eh]
  unfold VlR
  exact⟨.nilSlice,.nilSlice,v7,[],xs,rfl,.of_rd (.inl ⟨rfl,rfl,rfl⟩),.of_rd (.inl ⟨rfl,rfl,rfl⟩),by unfold VsR;rfl,.of_rd (by rw[show(AJ t.es).length=t.es.length by rw[Hy,List.length_map]];exact ho.rd),hf⟩
theorem HZ {st:St} {K:TV->St->Prop} (hk:∀bb ub r m σ st',BH bb ub (.box r 0) (.mk r m false []) 1 σ st'->K (.box bb 0) st'):CallT PR Cv [] [.one .tv] st K:=by
 refine GV st K (Aa rfl ?_)
 generalize hst0:(st.push (.pmap []) none).push (.cells [.nilPtr,.nilPtr,.map st.nb,.int .i64 0]) (some 64)=st0
 have nb0:st0.nb=st.nb+2:=by rw[<-hst0];rfl
 have nb1:(st.push (.pmap []) none).nb=st.nb+1:=rfl
 rw[nb1]
 have bx0:∀x,st0.box x=if x=st.nb+1 then .cells [.nilPtr,.nilPtr,.map st.nb,.int .i64 0]else if x=st.nb then .pmap []else st.box x:=fun x=>by rw[<-hst0];rfl
 refine HM (bb:=st.nb+1) (ub:=st.nb) (d:=1) (r:= .nilPtr) (n:= .nilPtr) (nodes:=0) (up:=[]) (by rw[bx0,if_pos rfl]) (by rw[bx0,if_neg (by omega),if_pos rfl]) (by omega) (by omega) (fun p hp=>by cases hp) ⟨by omega,by omega⟩ fun st1 q1 q2 q3 q4=>Aa rfl ?_
 have hb1:st1.box (st.nb+1)= .cells [.nilPtr,.nilPtr,.map st.nb,.int .i64 (0+1)]:=by rw[q2];simp only;rw[if_pos trivial]
 refine⟨_,hb1,by simp,?_⟩
 generalize hst2:st1.put (st.nb+1) (.cells (setAll [.nilPtr,.nilPtr,.map st.nb,.int .i64 (0+1)] 0 [.box (st0.nb+1) 0]))=st2
 have hb2:st2.box (st.nb+1)= .cells [.box (st0.nb+1) 0,.nilPtr,.map st.nb,.int .i64 (0+1)]:=by rw[<-hst2];simp[St.put,setAll]
 refine Ae (x:= .box (st0.nb+1) 0) (by simp only[Ac,hb2];rfl) (Aa rfl ?_)
 refine⟨_,hb2,by simp,?_⟩
 generalize hst3:st2.put (st.nb+1) (.cells (setAll [.box (st0.nb+1) 0,.nilPtr,.map st.nb,.int .i64 (0+1)] 1 [.box (st0.nb+1) 0]))=st3
 have bx3:∀x,st3.box x=if x=st.nb+1 then .cells [.box (st0.nb+1) 0,.box (st0.nb+1) 0,.map st.nb,.int .i64 1]else st1.box x:=fun x=>by
  rw[<-hst3,<-hst2]
  by_cases h:x=st.nb+1
  ·simp[St.put,setAll,h]
  ·simp[St.put,h]
 have nb3:st3.nb=st.nb+4:=by rw[<-hst3,<-hst2];show st1.nb=_;omega
 have kr:st3.box (st0.nb+1)= .cells [.nilSlice,.map st0.nb,.int .i64 ((1:Nat):Int)]:=by
  rw[bx3,if_neg (by omega),q2];simp only
  rw[if_neg (by omega),if_neg (by omega),if_pos trivial]
 have km:st3.box st0.nb= .map []:=by
  rw[bx3,if_neg (by omega),q2];simp only
  rw[if_neg (by omega),if_neg (by omega),if_neg (by omega),if_pos trivial]
 have ku:st3.box st.nb= .pmap [(st0.nb+1,.bool true)]:=by
  rw[bx3,if_neg (by omega),q2];simp only
  rw[if_neg (by omega),if_pos trivial];rfl
 have eS:shT 1 (.mk (st0.nb+1) st0.nb false [])=[⟨st0.nb+1,st0.nb,false,1,[]⟩]:=by rw[shT,BR];rfl
 have eB:bxL [⟨st0.nb+1,st0.nb,false,1,[]⟩]=[st0.nb+1,st0.nb]:=rfl
 have mm:∀{x},x∈ [st0.nb+1,st0.nb]->x=st0.nb+1∨x=st0.nb:=fun {x} hx=>by
  rcases List.mem_cons.1 hx with h | h
  ·exact .inl h
  ·exact .inr (List.mem_singleton.1 h)
 refine hk (st.nb+1) st.nb (st0.nb+1) st0.nb (fun _=> .nilSlice) st3 ⟨?_,?_,⟨_,ku,by simp,fun p hp=>?_,fun s hs=>?_⟩,by omega,by omega,fun hx=>?_,fun hx=>?_⟩
 ·rw[eS]
  refine⟨by rw[eB];simp,fun x hx=>?_,fun s hs=>?_,(fun x _ id hid=>by cases hid),(fun x _ y _ _ id hid=>by cases hid)⟩
  ·rw[eB]at hx
   rcases mm hx with h | h<;>omega
  ·rw[List.mem_singleton.1 hs]
   exact⟨kr,C0.nil,⟨[],km,fun _=>rfl⟩,fun x hx=>by cases hx⟩
 ·rw[bx3,if_pos rfl];rfl
 ·rw[List.mem_singleton.1 hp]
  exact⟨by simp[Ao,kr],by show st0.nb+1<st3.nb;omega⟩
 ·rw[eS]at hs
  rw[List.mem_singleton.1 hs]
  simp[BD]
 ·rw[eS,eB]at hx
  rcases mm hx with h | h<;>omega
 ·rw[eS,eB]at hx
  rcases mm hx with h | h<;>omega
theorem BH.ext {bb ub nodes:Nat} {now:TV} {T:Tb} {σ:Nat->TV} {st st':St} (H:BH bb ub now T nodes σ st) (e:Al st st'):BH bb ub now T nodes σ st':=by
 obtain⟨up,hup⟩:=H.un
 refine⟨H.hp.same e.nb (fun x hx=>e.box x (H.hp.lt x hx)) fun id h1 h2=>⟨Nat.lt_of_lt_of_le h1 e.nt,(e.live id h1).trans h2⟩,(e.box bb H.bl).trans H.cell,⟨up,(e.box ub H.ul).trans hup.box,hup.nd,fun p hp=>?_,hup.fd⟩,Nat.lt_of_lt_of_le H.bl e.nb,Nat.lt_of_lt_of_le H.ul e.nb,H.bx,H.ux⟩
 obtain⟨q1,q2⟩:=hup.ok p hp
 refine⟨?_,Nat.lt_of_lt_of_le q2 e.nb⟩
 simp only[Ao,e.box p.1 q2]at q1⊢
 exact q1
theorem QR {bb ub nodes:Nat} {now:TV} {T:Tb} {σ:Nat->TV} {st:St} (H:BH bb ub now T nodes σ st) (hN:NdL (shT 1 T)) (hc:(Af T).cnt<=900000) (hz:(Af T).sz<=2000000) {K:Int->St->Prop} (hk:∀st',Al st st'->K (AQ (Af T):Nat) st'):
  Ar (Ac st [] (.t (.box bb 0)) 0) fun v=>CallT PR Am [.box bb 0,v] [.agg [.int .i64,.bool,.bool,.str,.int .i64,.int .i64,.int .i64,.int .i64,.int .i64,.str,.tv,.tv,.tv]] st
   fun n1 b1 b2 s1 n2 n3 n4 n5 n6 s2 v1 v2 v3 st5=>CallT PR AE [.agg [.int .i64 n1,.bool b1,.bool b2,.str s1,.int .i64 n2,.int .i64 n3,.int .i64 n4,.int .i64 n5,.int .i64 n6,.str s2,v1,v2,v3]] [.one (.int .i64)] st5 fun n st6=>K n st6:=by
 refine Ae (x:= .box T.b 0) (by simp only[Ac,H.cell];rfl) ?_
 refine J1 (Af T).cnt T 1 (Nat.le_refl _) hc H.hp.sh hN H.hp.lt fun uf st' hv ho e=>?_
 exact Hv hz hv (B2 st') fun st6 e6=>hk st6 (e.trans e6)
def reK (bb:Nat) (K:Int->St->Prop) (st:St):Prop:=Ar (Ac st [] (.t (.box bb 0)) 0) fun v=>CallT PR Am [.box bb 0,v] [.agg [.int .i64,.bool,.bool,.str,.int .i64,.int .i64,.int .i64,.int .i64,.int .i64,.str,.tv,.tv,.tv]] st
   fun n1 b1 b2 s1 n2 n3 n4 n5 n6 s2 v1 v2 v3 st5=>CallT PR AE [.agg [.int .i64 n1,.bool b1,.bool b2,.str s1,.int .i64 n2,.int .i64 n3,.int .i64 n4,.int .i64 n5,.int .i64 n6,.str s2,v1,v2,v3]] [.one (.int .i64)] st5 fun n st6=>K n st6
theorem Nd {bb ub:Nat} {now v3:TV} {T:Tb} {σ:Nat->TV} {st:St} {ks:List B8} {D:Int} (H:BH bb ub now T (Af T).cnt σ st) (hN:NdL (shT 1 T)) (hc:(Af T).cnt<=900000) (hz:(Af T).sz<=2000000)
  (hr:Rd 1 v3 ks.length (ks.map TV.str)) (hl:∀k,k∈ks->k.length<=1000000) (hn:ks.length<=1000000) (hg:D<=48->(Af T).cnt<=65536->(∀k,k∈ks->U8 k/\k.length<=1024)->AQ (Af T)=0)
  {K:Int->St->Prop} (hk:∀st',Al st st'->K (AQ (Af T):Nat) st'):
  BIf (decide ((48:Int)<D)) (reK bb K st) (Ar (Ac st [] (.t (.box bb 3)) 0) fun x6=>Bj (.int .i64) x6 fun n16=>BIf (decide ((65536:Int)<n16)) (reK bb K st)
   (CallT PR Ax [v3,.func Bh []] [.one .bool] st fun b11 st9=>BIf b11 (reK bb K st9) (K 0 st9))):=by
 have re:reK bb K st:=QR H hN hc hz hk
 refine Ab (fun _=>re) fun h1=>Ae (x:= .int .i64 (Af T).cnt) (by simp only[Ac,H.cell];rfl) (BE (Ab (fun _=>re) fun h2=>?_))
 refine NP hr hl hn (AD (fun _=>re) fun h3=>?_)
 have:AQ (Af T)=0:=hg (by omega) (by omega) fun k hk'=>by
  have h4:P0 k=false:=by
   rw[Bool.eq_false_iff];intro e
   have:=List.any_eq_true.2 ⟨k,hk',e⟩
   rw[this]at h3;cases h3
  unfold P0 at h4
  simp only[Bool.or_eq_false_iff,Bool.not_eq_false',decide_eq_true_eq,decide_eq_false_iff_not]at h4
  exact⟨h4.1,by omega⟩
 have:=hk st (Al.refl st)
 rw[‹AQ (Af T)=0›]at this
 exact this
theorem BH.count {bb ub nodes nodes':Nat} {now:TV} {T:Tb} {σ:Nat->TV} {st:St} (H:BH bb ub now T nodes σ st):BH bb ub now T nodes' σ (st.put bb (.cells [.box T.b 0,now,.map ub,.int .i64 nodes'])):=by
 obtain⟨up,hup⟩:=H.un
 have kb:∀x,x≠bb->(st.put bb (.cells [.box T.b 0,now,.map ub,.int .i64 nodes'])).box x=st.box x:=fun x h=>if_neg h
 have kbb:(st.put bb (.cells [.box T.b 0,now,.map ub,.int .i64 nodes'])).box bb= .cells [.box T.b 0,now,.map ub,.int .i64 nodes']:=if_pos rfl
 refine⟨H.hp.same (Nat.le_refl _) (fun x hx=>kb x fun e=>H.bx (e▸hx)) fun id h1 h2=>⟨h1,h2⟩,kbb,⟨up,by rw[kb _ (Ne.symm H.bu)];exact hup.box,hup.nd,fun p hp=>?_,hup.fd⟩,H.bl,H.ul,H.bx,H.ux⟩
 obtain⟨q1,q2⟩:=hup.ok p hp
 refine⟨?_,q2⟩
 by_cases c:p.1=bb
 ·simp only[Ao,c,kbb]
 ·simp only[Ao,kb _ c]at q1⊢;exact q1
theorem S5 (a b:List B8):kz (a++b)=kz a+kz b:=by unfold kz;rw[List.map_append,List.sum_append]
theorem MW {bb ub i:Nat} {T u:Tb} {cur:List Hop} {σ:Nat->TV} {st:St} {a:Asg} {a_2:TV} {cs:List TV} {K:Int->St->Prop} (H:BH bb ub (.box u.b 0) T (Af T).cnt σ st) (hu:atT T cur=some u) (hN:NdL (shT 1 T)) (hNe:NeL (shT 1 T))
  (hV:AQ (Af T)=0) (hc:a.keys.length+a.val.cnt<=100000) (hz:(Af T).sz+kz a.keys+a.val.sz+2<=1000000) (hr:Rd 1 a_2 a.keys.length (a.keys.map TV.str)) (hv:VlR St.zero a.val cs)
  (hk1:∀nu T' cur' u' σ' st',CI nu i T cur a= .ok (T',cur')->AQ (Af T')=0->atT T' cur'=some u'->BH bb ub (.box u'.b 0) T' (Af T').cnt σ' st'->NdL (shT 1 T')->NeL (shT 1 T')->(Af T').sz<=(Af T).sz+kz a.keys+a.val.sz+2->K 0 st')
  (hk2:∀nu e st',CI nu i T cur a= .error e->K e st')
  (hk3:∀nu T' cur' st',CI nu i T cur a= .ok (T',cur')->AQ (Af T')≠0->K (AQ (Af T'):Nat) st'):
  CallT PR BV [.box bb 0,.agg (.bool a.tab:: .bool a.elem::a_2::cs),.int .i64 i] [.one (.int .i64)] st K:=by
 obtain⟨tab,elem,ks,v⟩:=a
 simp only at*
 have hcT:=Dv hV
 have hvT:=(Bo.1 hV).1
 have hlT:=(Bo.1 hV).2.1
 have hvc:=Hq v
 have hpz:∀{K:Bool->St->Prop},K (Cz ⟨tab,elem,ks,v⟩) st->CallT PR CC [.agg (.bool tab:: .bool elem::a_2::cs)] [.one .bool] st K:=fun h=>RO hr hv h
 have hv0:=hv
 obtain⟨s,l,f⟩:=v
 obtain⟨ub1,ul,uf,xl,xf,rfl,_⟩:=hv0.cells
 have nu0:Nat->Nu:=fun _=>⟨0,0,0⟩
 refine Fh bb tab elem a_2 s.kind s.b s.neg s.dg s.ex s.tk s.td s.tn s.tz s.text ub1 ul uf i st K (hpz (AD (fun hp=>?_) fun hp=>?_))
 ·refine hk2 nu0 1 st ?_
  unfold CI
  rw[if_pos (by simpa using hp)]
 have hp':Cz ⟨tab,elem,ks,.mk s l f⟩=true:=by simpa using hp
 have hks:ks≠ []:=fun e=>by subst e;unfold Cz at hp';simp at hp'
 refine Ae (x:= .box u.b 0) (by simp only[Ac,H.cell];rfl) ?_
 --where the keys begin
 generalize hh0:(if tab=true then []else cur)=h0
 obtain⟨u0,hu0,hu0b⟩:∃u0,atT T h0=some u0/\(if tab=true then TV.box T.b 0 else TV.box u.b 0)= .box u0.b 0:=by
  subst hh0
  cases tab with
  | true=>exact⟨T,by cases T;rfl,rfl⟩
  | false=>exact⟨u,hu,rfl⟩
 refine⟨fun from_1 b_1 at_1 b2 b3 v3 n1 b4 b5 s1 n2 n3 n4 n5 n6 s2 v4 v5 v6 st2=>from_1= .box u0.b 0/\b_1= .box bb 0/\at_1=(i:Int)/\tab=b2/\elem=b3/\a_2=v3/\n1=s.kind/\b4=s.b/\b5=s.neg/\s1=s.dg/\n2=s.ex/\n3=s.tk/\n4=s.td/\n5=s.tn/\n6=s.tz/\s2=s.text/\ub1=v4/\ul=v5/\uf=v6/\st=st2,?_,?_⟩
 ·refine AD (fun ht=>?_) fun ht=>?_
  ·refine Ae (x:= .box T.b 0) (by simp only[Ac,H.cell];rfl) ⟨?_,rfl,rfl,rfl,rfl,rfl,rfl,rfl,rfl,rfl,rfl,rfl,rfl,rfl,rfl,rfl,rfl,rfl,rfl,rfl⟩
   rw[if_pos (by simpa using ht)]at hu0b;exact hu0b
  ·refine⟨?_,rfl,rfl,rfl,rfl,rfl,rfl,rfl,rfl,rfl,rfl,rfl,rfl,rfl,rfl,rfl,rfl,rfl,rfl,rfl⟩
   rw[if_neg (by simpa using ht)]at hu0b;exact hu0b
 rintro _ _ _ _ _ _ _ _ _ _ _ _ _ _ _ _ _ _ _ _ ⟨rfl,rfl,rfl,rfl,rfl,rfl,rfl,rfl,rfl,rfl,rfl,rfl,rfl,rfl,rfl,rfl,rfl,rfl,rfl,rfl⟩
 have BA:∀nu,hops nu tab 0 T h0 ks.dropLast=none->CI nu i T cur ⟨tab,elem,ks,.mk s l f⟩= .error 8:=fun nu hh=>by
  unfold CI
  rw[if_neg (by rw[hp'];simp)]
  simp only[hh0,hh]
 have step:∀nu T' h,hops nu tab 0 T h0 ks.dropLast=some (T',h)->CI nu i T cur ⟨tab,elem,ks,.mk s l f⟩=Ca (nu ks.length) ⟨tab,elem,ks,.mk s l f⟩ i T' h cur (ks.getLastD []):=fun nu T' h hh=>by
  unfold CI
  rw[if_neg (by rw[hp'];simp)]
  simp only[hh0,hh]
 refine TR H hu0 hr hks (by omega) (fun nu T1 h t σ1 st1 hh hA H1 hc1=>?_) fun nu st1 hh=>?_
 case refine_2=>
  show K 8 st1
  exact hk2 nu 8 st1 (BA nu hh)
 have klen:1<=ks.length:=List.length_pos_iff.2 hks
 obtain⟨ks',kl,hkl⟩:∃ks' kl,ks=ks'++[kl]:=⟨ks.dropLast,ks.getLast hks,(List.dropLast_concat_getLast hks).symm⟩
 have hgl:ks.getLastD []=kl:=by rw[hkl];simp
 have hdl:ks.dropLast=ks':=by rw[hkl];simp
 have hkzz:kz ks=kz ks'+(kl.length+1):=by rw[hkl,S5];simp[kz]
 have hkl2:ks.length=ks'.length+1:=by rw[hkl];simp
 rw[hdl]at hh
 have step1:∀x,CI (J9 nu ks.length x) i T cur ⟨tab,elem,ks,.mk s l f⟩=Ca x ⟨tab,elem,ks,.mk s l f⟩ i T1 h cur kl:=fun x=>by
  rw[step _ T1 h (by rw[hdl,IE (nu':=nu) ks' 0 T h0 (fun j _ h2=>by unfold J9;rw[if_neg (by omega)]),hh]),hgl]
  simp only[J9,if_true]
 obtain⟨W,hNe1⟩:=Hl ks' 0 hu0 hNe hh (Nat.le_refl _)
 have hN1:=W.nd hN
 have w1:=W.cnt
 have w2:=W.sz
 have w3:=W.lv
 have hvz:1<=(Vl.mk s l f).sz:=Vl.sz_pos _
 have klK:∀k,k∈ks->k.length<=1000000:=fun k hk=>by
  have:∀(l:List B8),k∈l->k.length<=kz l:=by
   intro l
   induction l with
   | nil=>intro h;cases h
   | cons x r ih=>
    intro h
    simp only[kz,List.map_cons,List.sum_cons]
    rcases List.mem_cons.1 h with rfl | h
    ·omega
    ·have:=ih h;unfold kz at this;omega
  have:=this ks hk
  omega
 have hdp:=Lx hA
 have fin:∀{x:Nu} {T':Tb} {cur':List Hop} {D:Int},Ca x ⟨tab,elem,ks,.mk s l f⟩ i T1 h cur kl= .ok (T',cur')->(elem=false->tab=false->Az (.mk s l f))->((dpH h+3+(if elem=true∨tab=true then 0 else lvV (.mk s l f)-2):Nat):Int)<=max 48 D->
   (D<=48->(Af T').cnt<=65536->(∀k,k∈ks->U8 k/\k.length<=1024)->AQ (Af T')=0)/\NdL (shT 1 T')/\NeL (shT 1 T')/\(Af T').cnt<=900000/\(Af T').sz<=(Af T).sz+kz ks+(Vl.mk s l f).sz+2:=fun {x T' cur' D} hL hvv hD=>by
  have F:=(Hk hNe1 hL).1
  have f1:=F.cnt
  have f2:=F.sz
  have f3:=F.lv
  simp only at f1 f2 f3
  refine⟨fun g1 g2 g3=>Bo.2 ⟨?_,?_,g2⟩,F.nd hN1,F.ne hNe1,by omega,by omega⟩
  ·have g4:=g3 kl (by rw[hkl];simp)
   exact F.va ⟨g4.1,g4.2,hvv⟩ (W.va (fun k hk=>g3 k (by rw[hkl];exact List.mem_append_left _ hk)) hvT)
  ·omega
 refine Aa hr.isSl ?_
 have hw:IntKind.wrap .i64 ((lenS a_2:Int)-1)=((ks'.length:Nat):Int):=by
  rw[hr.lenS,Ai _ (by omega) (by omega)];omega
 rw[hw]
 refine⟨⟨by omega,by rw[hr.lenZ];omega⟩,?_⟩
 have hk0:(ks.map TV.str)[ks'.length*1+0]? =some (.str kl):=by
  rw[hkl];simp
 refine Ae (x:= .str kl) ?_ (E7 ?_)
 ·rw[Int.toNat_natCast]
  exact hr.ldx st1 ks'.length 0 hk0
 refine Aa rfl (Aa rfl (H1.ldd hA (BE ?_)))
 have hw2:IntKind.wrap .i64 (((1+dpH h:Nat):Int)+2)=((dpH h+3:Nat):Int):=by rw[Ai _ (by omega) (by omega)];omega
 rw[hw2]
 cases he:elem with
 | true=>
  have lke:∀x,Ca x ⟨tab,elem,ks,.mk s l f⟩ i T1 h cur kl=Kf x T1 t h kl:=fun x=>by
   unfold Ca Kf
   rw[hA]
   simp only[he,if_true]
   all_goals (rcases Ah kl t.es with _ | ⟨eb,u | l | ⟨v,j⟩⟩<;>rfl)
  subst he
  refine Pw H1 hA (by omega) (fun x T' h' u' σ' st' hg hA' H' hc'=>?_) fun x st' hg=>?_
  ·have hL:=(lke x).trans hg
   obtain⟨g1,g2,g3,g4,g5⟩:=fin (D:=((dpH h+3:Nat):Int)) hL (fun h=>by cases h) (by simp;omega)
   ·refine Nd H' g2 g4 (by omega) hr klK (by omega) g1 fun st2 e2=>?_
    by_cases hcv:AQ (Af T')=0
    ·rw[hcv]
     exact hk1 _ _ _ u' σ' st2 ((step1 x).trans hL) hcv hA' (H'.ext e2) g2 g3 g5
    ·exact hk3 _ _ _ st2 ((step1 x).trans hL) hcv
  ·exact hk2 _ _ st' ((step1 x).trans ((lke x).trans hg))
 | false=>
  cases ht:tab with
  | true=>
   have lke:∀x,Ca x ⟨tab,elem,ks,.mk s l f⟩ i T1 h cur kl=Ji x T1 t h kl:=fun x=>by
    unfold Ca Ji
    rw[hA]
    simp only[he,ht,if_true,if_false,Bool.false_eq_true]
    all_goals (rcases Ah kl t.es with _ | ⟨eb,u | l | ⟨v,j⟩⟩<;>rfl)
   subst he
   subst ht
   refine QB H1 hA (by omega) (fun x T' h' u' σ' st' hg hA' H' hc'=>?_) fun x st' hg=>?_
   ·have hL:=(lke x).trans hg
    obtain⟨g1,g2,g3,g4,g5⟩:=fin (D:=((dpH h+3:Nat):Int)) hL (fun _ h=>by cases h) (by simp;omega)
    refine Nd H' g2 g4 (by omega) hr klK (by omega) g1 fun st2 e2=>?_
    by_cases hcv:AQ (Af T')=0
    ·rw[hcv]
     exact hk1 _ _ _ u' σ' st2 ((step1 x).trans hL) hcv hA' (H'.ext e2) g2 g3 g5
    ·exact hk3 _ _ _ st2 ((step1 x).trans hL) hcv
   ·exact hk2 _ _ st' ((step1 x).trans ((lke x).trans hg))
  | false=>
   refine Aa rfl (Aa rfl (H1.ldm hA (H1.map hA fun es hes=>?_)))
   rw[hes kl]
   have lkn:∀x,Ah kl t.es=none->Ca x ⟨tab,elem,ks,.mk s l f⟩ i T1 h cur kl= .ok (Ay T1 h (AO t kl x.eb (.clo (.mk s l f) i)),cur):=fun x hl=>by
    unfold Ca
    rw[hA]
    simp only[he,ht,if_false,Bool.false_eq_true,hl]
   have lks:∀x p,Ah kl t.es=some p->Ca x ⟨tab,elem,ks,.mk s l f⟩ i T1 h cur kl= .error 8:=fun x p hl=>by
    unfold Ca
    rw[hA]
    simp only[he,ht,if_false,Bool.false_eq_true,hl]
   subst he
   subst ht
   rcases hl:Ah kl t.es with _ | ⟨eb,e⟩
   ·rw[Option.map_none]
    refine Aa rfl ?_
    show CallT _ _ _ _ _ _
    refine clo_new H1 hA hl (by omega) hv (by rfl) fun σ' st2 H2=>?_
    generalize hT':Ay T1 h (AO t kl st1.nb (.clo (.mk s l f) i))=T' at H2
    have hL:Ca ⟨0,0,st1.nb⟩ ⟨false,false,ks,.mk s l f⟩ i T1 h cur kl= .ok (T',cur):=by rw[lkn _ hl,hT']
    have F2:=(Hk hNe1 hL).2 rfl rfl
    simp only at F2
    obtain⟨F3,F4,F5,F7⟩:=F2
    obtain⟨r,u1,hr1,hu1,hub1⟩:∃r u1,h=cur++r/\atT T1 cur=some u1/\u1.b=u.b:=by
     simp only[Bool.false_eq_true,if_false]at hh0
     subst hh0
     have:=Lo (g:=cur) (r:=[]) ks' 0 hu (by rw[List.append_nil];exact hu) hNe (by rw[List.append_nil];exact hh)
     obtain⟨r,u1,a1,a2,a3⟩:=this
     exact⟨r,u1,a1,a2,a3⟩
    obtain⟨u',hu',hub'⟩:∃u',atT T' cur=some u'/\u'.b=u.b:=by
     subst hr1
     obtain⟨u',q1,q2⟩:=QC (x:=AO t kl st1.nb (.clo (.mk s l f) i)) hu1 hA rfl
     rw[hT']at q1
     exact⟨u',q1,q2.trans hub1⟩
    have F:=(Hk hNe1 hL).1
    have f2:=F.sz
    simp only at f2
    have F6:AQ (Af T')=0->AQ (.mk s l f)=0:=fun e=>by
     obtain⟨e1,e2,e3⟩:=Bo.1 e
     exact Bo.2 ⟨F3 e1,by omega,by omega⟩
    have hnow:TV.box u.b 0= .box u'.b 0:=by rw[hub']
    rw[hnow]at H2
    refine Hv (v:= .mk s l f) (by omega) hv (B2 _) fun st21 e21=>Ab (fun hne=>?_) fun heq=>?_
    ·refine Aa rfl (Aa rfl (QR (H2.ext e21) (F.nd hN1) (by omega) (by omega) fun st' e'=>hk3 _ _ _ st' ((step1 _).trans hL) fun e=>hne (by rw[F6 e];rfl)))
    ·have hcv0:AQ (.mk s l f)=0:=by omega
     have H3:=H2.ext e21
     refine Aa rfl (Aa rfl (Ae (x:= .int .i64 (Af T1).cnt) (by simp only[Ac,AV,H3.cell];rfl) (BE ?_)))
     refine Size_ok (v:= .mk s l f) (by omega) (Dv hcv0) hv (B2 _) fun st24 e24=>?_
     have H4:=H3.ext e24
     refine⟨by simp only[Ac,AV,H4.cell];rfl,Aa rfl (Aa rfl ⟨_,H4.cell,by simp,?_⟩)⟩
     have hw3:IntKind.wrap .i64 (((Af T1).cnt:Int)+((Vl.mk s l f).cnt:Nat))=((Af T').cnt:Nat):=by rw[Ai _ (by omega) (by omega)];omega
     rw[hw3]
     have H5:=H4.count (nodes':=(Af T').cnt)
     have hAt:atT T' h=some (AO t kl st1.nb (.clo (.mk s l f) i)):=by rw[<-hT'];exact BJ h hA
     refine Aa rfl (Aa rfl ?_)
     show Ar (Ac (st24.put bb (.cells [.box T'.b 0,.box u'.b 0,.map ub,.int .i64 ((Af T').cnt:Nat)])) [] (.t (.box t.b 2)) 0) _
     refine H5.ldd hAt (BE ?_)
     refine TZ (v:= .mk s l f) (by omega) (Dv hcv0) hv (B2 _) fun st26 e26=>?_
     have H6:=H5.ext e26
     have hw4:IntKind.wrap .i64 (((1+dpH h:Nat):Int)+(JY (.mk s l f):Nat))=((1+dpH h+lvV (.mk s l f):Nat):Int):=by
      have:=Lf (.mk s l f)
      rw[Qm,Ai _ (by omega) (by omega)];omega
     rw[hw4]
     refine⟨?_,?_⟩
     ·have:=(H6.tab hAt).1.cell
      simp only at this
      show Ac st26 [] (.t (.box (AO t kl st1.nb (.clo (.mk s l f) i)).b 2)) 0=_
      simp only[Ac,this];rfl
     have hgood:((1+dpH h+lvV (.mk s l f):Nat):Int)<=48->(Af T').cnt<=65536->(∀k,k∈ks->U8 k/\k.length<=1024)->AQ (Af T')=0:=fun g1 g2 g3=>by
      have g4:=g3 kl (by rw[hkl];simp)
      refine Bo.2 ⟨F.va ⟨g4.1,g4.2,fun _ _=>Hr hcv0⟩ (W.va (fun k hk=>g3 k (by rw[hkl];exact List.mem_append_left _ hk)) hvT),?_,g2⟩
      omega
     refine Nd H6 (F.nd hN1) (by omega) (by omega) hr klK (by omega) hgood fun st2 e2=>?_
     by_cases hcv:AQ (Af T')=0
     ·rw[hcv]
      exact hk1 _ _ _ u' σ' st2 ((step1 _).trans hL) hcv hu' (H6.ext e2) (F.nd hN1) (F.ne hNe1) (by omega)
     ·exact hk3 _ _ _ st2 ((step1 _).trans hL) hcv
   ·rw[Option.map_some]
    refine Aa rfl ?_
    show K 8 st1
    exact hk2 _ 8 st1 ((step1 ⟨0,0,0⟩).trans (lks _ _ hl))
end Go.TVF
section
namespace Go.TVF
open Go.IntKind(i64 u8)
mutual
def erT:Tb->Tb
 | .mk _ _ hd es=> .mk 0 0 hd (EG es)
def EG:List Kn->List Kn
 | []=>[]
 | .mk k _ e::r=> .mk k 0 (erE e)::EG r
def erE:En->En
 | .opn t=> .opn (erT t)
 | .lst l=> .lst (Mc l)
 | .clo v i=> .clo v i
def Mc:List Tb->List Tb
 | []=>[]
 | t::r=>erT t::Mc r
end
theorem E5:∀l:List Tb,Mc l=l.map erT
 | []=>by unfold Mc;rfl
 | t::r=>by unfold Mc;rw[E5 r];rfl
theorem Pb:∀a b:List Kn,EG (a++b)=EG a++EG b
 | [],b=>by simp[EG]
 | .mk k eb e::r,b=>by rw[List.cons_append,EG,EG,Pb r b];rfl
theorem Rc (t:Tb):(erT t).es=EG t.es:=by cases t;rw[erT];rfl
theorem Tp (t:Tb):(erT t).hd=t.hd:=by cases t;rw[erT];rfl
mutual
theorem FB:∀t:Tb,Af (erT t)=Af t
 | .mk b m hd es=>by rw[erT,Af,Af,Oh es]
theorem Oh:∀es:List Kn,AJ (EG es)=AJ es
 | []=>by rw[EG]
 | .mk k eb e::r=>by rw[EG,AJ,AJ,valE_er e,Oh r]
theorem valE_er:∀e:En,AH (erE e)=AH e
 | .opn t=>by rw[erE,AH,AH,FB t]
 | .lst l=>by rw[erE,AH,AH,Og l]
 | .clo v i=>by rw[erE]
theorem Og:∀l:List Tb,AZ (Mc l)=AZ l
 | []=>by rw[Mc]
 | t::r=>by rw[Mc,AZ,AZ,FB t,Og r]
end
theorem GD (k:B8):∀es:List Kn,Ah k (EG es)=(Ah k es).map fun p=>(0,erE p.2)
 | []=>by rw[EG];rfl
 | .mk k' eb e::r=>by
  rw[EG,Ah,Ah]
  split
  ·rfl
  ·exact GD k r
theorem Nn (k:B8) (x:En):∀es:List Kn,BN k (erE x) (EG es)=EG (BN k x es)
 | []=>by rw[EG];rfl
 | .mk k' eb e::r=>by
  rw[EG,BN,BN]
  split
  ·rw[EG]
  ·rw[EG,Nn k x r]
theorem Rr:∀(h:List Hop) (T:Tb),atT (erT T) h=(atT T h).map erT
 | [],T=>by cases T;rw[erT];simp only[atT,Option.map_some];rw[erT]
 | (k,none)::h,.mk b m hd es=>by
  rw[erT,atT,atT,GD]
  rcases Ah k es with _ | ⟨eb,u | l | ⟨v,i⟩⟩
  ·rfl
  ·simp only[Option.map_some,erE];exact Rr h u
  ·simp only[Option.map_some,erE];rfl
  ·simp only[Option.map_some,erE];rfl
 | (k,some i)::h,.mk b m hd es=>by
  rw[erT,atT,atT,GD]
  rcases Ah k es with _ | ⟨eb,u | l | ⟨v,j⟩⟩
  ·rfl
  ·simp only[Option.map_some,erE];rfl
  ·simp only[Option.map_some,erE,E5,List.getElem?_map]
   cases l[i]? with
   | none=>rfl
   | some u=>exact Rr h u
  ·simp only[Option.map_some,erE];rfl
theorem Fl:∀(h:List Hop) (T x:Tb),Ay (erT T) h (erT x)=erT (Ay T h x)
 | [],T,x=>by cases T;cases x;rw[erT,erT];simp only[Ay];rw[erT]
 | (k,none)::h,.mk b m hd es,x=>by
  rw[erT,Ay,Ay,GD]
  rcases Ah k es with _ | ⟨eb,u | l | ⟨v,i⟩⟩
  ·simp only[Option.map_none];rw[erT]
  ·simp only[Option.map_some,erE]
   rw[erT,Fl h u x]
   have:=Nn k (.opn (Ay u h x)) es
   rw[erE]at this
   rw[this]
  ·simp only[Option.map_some,erE];rw[erT]
  ·simp only[Option.map_some,erE];rw[erT]
 | (k,some i)::h,.mk b m hd es,x=>by
  rw[erT,Ay,Ay,GD]
  rcases Ah k es with _ | ⟨eb,u | l | ⟨v,j⟩⟩
  ·simp only[Option.map_none];rw[erT]
  ·simp only[Option.map_some,erE];rw[erT]
  ·simp only[Option.map_some,erE,E5,List.getElem?_map]
   cases l[i]? with
   | none=>simp only[Option.map_none];rw[erT]
   | some u=>
    simp only[Option.map_some]
    rw[erT,Fl h u x]
    have:=Nn k (.lst (l.set i (Ay u h x))) es
    rw[erE,E5,List.map_set]at this
    rw[this]
  ·simp only[Option.map_some,erE];rw[erT]
theorem N2 (t:Tb) (k:B8) (eb:Nat) (e:En):AO (erT t) k 0 (erE e)=erT (AO t k eb e):=by
 unfold AO
 rw[Tp,Rc]
 cases t
 rw[erT,erT,Pb,EG,EG];rfl
theorem TF (t:Tb) (k:B8) (e:En):CZ (erT t) k (erE e)=erT (CZ t k e):=by
 unfold CZ
 rw[Tp,Rc,Nn]
 cases t
 rw[erT,erT];rfl
theorem Gz (nu:Nu) (hd:Bool):erT (AI nu hd)=AI ⟨0,0,0⟩ hd:=by unfold AI;rw[erT,EG]
theorem head_er (u:Tb):erT (CA u)=CA (erT u):=by cases u;unfold CA;rw[erT,erT]
def n0:Nu:=⟨0,0,0⟩
theorem hop_er (nu:Nu) (hd:Bool) (T:Tb) (h:List Hop) (k:B8):DI n0 hd (erT T) h k=(DI nu hd T h k).map fun p=>(erT p.1,p.2):=by
 unfold DI
 rw[Rr]
 cases atT T h with
 | none=>rfl
 | some t=>
  simp only[Option.map_some]
  rw[Rc,GD]
  rcases Ah k t.es with _ | ⟨eb,u | l | ⟨v,i⟩⟩
  ·simp only[Option.map_none,Option.map_some]
   have:=N2 t k nu.eb (.opn (AI nu false))
   rw[erE,Gz]at this
   rw[<-Fl,<-this];rfl
  ·simp only[Option.map_some,erE]
  ·simp only[Option.map_some,erE,E5,List.length_map]
   split<;>rfl
  ·simp only[Option.map_some,erE];rfl
theorem Q7 (nu:Nat->Nu) (hd:Bool):∀(ks:List B8) (j:Nat) (T:Tb) (h:List Hop),hops (fun _=>n0) hd j (erT T) h ks=(hops nu hd j T h ks).map fun p=>(erT p.1,p.2)
 | [],j,T,h=>rfl
 | k::ks,j,T,h=>by
  unfold hops
  rw[hop_er (nu j)]
  cases DI (nu j) hd T h k with
  | none=>rfl
  | some p=>exact Q7 nu hd ks (j+1) p.1 p.2
def erX:Except Int (Tb×List Hop)->Except Int (Tb×List Hop)
 | .ok p=> .ok (erT p.1,p.2)
 | .error e=> .error e
theorem last_er (nu:Nu) (a:Asg) (i:Nat) (T:Tb) (h cur:List Hop) (k:B8):Ca n0 a i (erT T) h cur k=erX (Ca nu a i T h cur k):=by
 unfold Ca
 rw[Rr]
 cases atT T h with
 | none=>rfl
 | some t=>
  simp only[Option.map_some]
  rw[Rc,GD]
  by_cases he:a.elem=true
  ·rw[if_pos he,if_pos he]
   rcases Ah k t.es with _ | ⟨eb,u | l | ⟨v,j⟩⟩
   ·simp only[Option.map_none,erX]
    have:=N2 t k nu.eb (.lst [AI nu false])
    rw[erE,Mc,Mc,Gz]at this
    rw[<-Fl,<-this];rfl
   ·simp only[Option.map_some,erE,erX]
   ·simp only[Option.map_some,erE,erX,E5,List.length_map]
    have:=TF t k (.lst (l++[AI nu false]))
    rw[erE,E5,List.map_append,List.map_cons,List.map_nil,Gz]at this
    rw[<-Fl,<-this];rfl
   ·simp only[Option.map_some,erE,erX]
  ·rw[if_neg he,if_neg he]
   by_cases ht:a.tab=true
   ·rw[if_pos ht,if_pos ht]
    rcases Ah k t.es with _ | ⟨eb,u | l | ⟨v,j⟩⟩
    ·simp only[Option.map_none,erX]
     have:=N2 t k nu.eb (.opn (AI nu true))
     rw[erE,Gz]at this
     rw[<-Fl,<-this];rfl
    ·simp only[Option.map_some,erE,Tp]
     split
     ·rfl
     ·simp only[erX]
      have:=TF t k (.opn (CA u))
      rw[erE,head_er]at this
      rw[<-Fl,<-this]
    ·simp only[Option.map_some,erE,erX]
    ·simp only[Option.map_some,erE,erX]
   ·rw[if_neg ht,if_neg ht]
    rcases Ah k t.es with _ | ⟨eb,e⟩
    ·simp only[Option.map_none,erX]
     have:=N2 t k nu.eb (.clo a.val i)
     rw[erE]at this
     rw[<-Fl,<-this];rfl
    ·simp only[Option.map_some,erX]
def BA (i:Nat) (T:Tb) (cur:List Hop) (a:Asg):Except Int (Tb×List Hop):=CI (fun _=>n0) i T cur a
theorem QP (nu:Nat->Nu) (i:Nat) (T:Tb) (cur:List Hop) (a:Asg):BA i (erT T) cur a=erX (CI nu i T cur a):=by
 unfold BA CI
 split
 ·rfl
 ·rw[Q7 nu]
  cases hops nu a.tab 0 T (if a.tab=true then []else cur) a.keys.dropLast with
  | none=>rfl
  | some p=>exact last_er _ _ _ _ _ _ _
noncomputable def BW:Nat->Tb->List Hop->List Asg->Except (Nat×Nat) (Tb×List Hop)
 | _,T,cur,[]=> .ok (T,cur)
 | i,T,cur,a::r=>match BA i T cur a with
  | .error e=> .error (i,e.toNat)
  | .ok (T',cur')=>if AQ (Af T')=0 then BW (i+1) T' cur' r else .error (i,AQ (Af T'))
def T00:Tb:= .mk 0 0 false []
noncomputable def Dz (l:List Asg):Except (Nat×Nat) (Tb×List Hop):=BW 0 T00 [] l
theorem On {nu:Nat->Nu} {i:Nat} {T:Tb} {cur:List Hop} {a:Asg} {e:Int} (h:CI nu i T cur a= .error e) (hA:∃u,atT T cur=some u) (hn:NeL (shT 1 T)):e=1∨e=8∨e=6:=by
 unfold CI at h
 split at h
 ·cases h;exact .inl rfl
 ·split at h
  ·cases h;exact .inr (.inl rfl)
  ·rename_i T' h' hh
   have hu:∃u,atT T (if a.tab=true then []else cur)=some u:=by
    split
    ·exact⟨T,by cases T;rfl⟩
    ·exact hA
   obtain⟨u,hu⟩:=hu
   obtain⟨t,ht⟩:=(Hl _ 0 hu hn hh (Nat.le_refl _)).1.at_
   unfold Ca at h
   rw[ht]at h
   simp only at h
   split at h
   ·rcases hl:Ah (a.keys.getLastD []) t.es with _ | ⟨eb,u | l | ⟨v,j⟩⟩<;>rw[hl]at h<;>simp only[Except.error.injEq,reduceCtorEq]at h
    all_goals exact .inr (.inr h.symm)
   ·split at h
    ·rcases hl:Ah (a.keys.getLastD []) t.es with _ | ⟨eb,u | l | ⟨v,j⟩⟩<;>rw[hl]at h<;>simp only[Except.error.injEq,reduceCtorEq]at h
     ·split at h
      ·cases h;exact .inr (.inl rfl)
      ·cases h
     all_goals exact .inr (.inl h.symm)
    ·rcases hl:Ah (a.keys.getLastD []) t.es with _ | ⟨eb,e⟩<;>rw[hl]at h<;>simp only[Except.error.injEq,reduceCtorEq]at h
     exact .inr (.inl h.symm)
end Go.TVF
end
namespace Go.TVF
open Go.IntKind(i64 u8)
open Go Go.Proofs
def QK (a:Asg) (cs:List TV):Prop:=∃kv vc,cs= .bool a.tab:: .bool a.elem::kv::vc/\Rd 1 kv a.keys.length (a.keys.map TV.str)/\VlR St.zero a.val vc
def Cf:List Asg->List TV->Prop
 | [],xs=>xs=[]
 | a::r,xs=>∃c d,xs=c++d/\QK a c/\Cf r d
theorem QK.len {a:Asg} {cs:List TV} (h:QK a cs):cs.length=16:=by
 obtain⟨kv,vc,rfl,_,h2⟩:=h
 simp[h2.len]
theorem Cf.len:∀{l:List Asg} {xs:List TV},Cf l xs->xs.length=l.length*16
 | [],xs,h=>by unfold Cf at h;subst h;rfl
 | a::r,xs,h=>by
  unfold Cf at h
  obtain⟨c,d,rfl,h1,h2⟩:=h
  rw[List.length_append,h1.len,Cf.len h2,List.length_cons];omega
theorem Cf.get:∀{l:List Asg} {xs:List TV} {i:Nat} {a:Asg},Cf l xs->l[i]? =some a->QK a ((xs.drop (i*16)).take 16)
 | [],xs,i,a,h,hi=>by simp at hi
 | b::r,xs,i,a,h,hi=>by
  unfold Cf at h
  obtain⟨c,d,rfl,h1,h2⟩:=h
  cases i with
  | zero=>
   simp only[List.getElem?_cons_zero,Option.some.injEq]at hi
   subst hi
   rw[Nat.zero_mul,List.drop_zero,<-h1.len,List.take_left];exact h1
  | succ i=>
   have:=Cf.get h2 (show r[i]? =some a by simpa using hi)
   rw[show(i+1)*16=c.length+i*16 by rw[h1.len];omega,List.drop_append]
   simp only[Nat.add_sub_cancel_left]
   rw[List.drop_of_length_le (by omega),List.nil_append];exact this
theorem Cf.app:∀{l m:List Asg} {xs ys:List TV},Cf l xs->Cf m ys->Cf (l++m) (xs++ys)
 | [],m,xs,ys,h,k=>by unfold Cf at h;subst h;exact k
 | a::r,m,xs,ys,h,k=>by
  unfold Cf at h
  obtain⟨c,d,rfl,h1,h2⟩:=h
  rw[List.cons_append]
  unfold Cf
  exact⟨c,d++ys,by rw[List.append_assoc],h1,Cf.app h2 k⟩
def asz (a:Asg):Nat:=kz a.keys+a.val.sz+2
def Fi:List Asg->Nat
 | []=>0
 | a::r=>asz a+Fi r
theorem ldA {l:List Asg} {v:TV} {xs:List TV} {j:Nat} {a:Asg} (hr:Rd 16 v l.length xs) (ha:Cf l xs) (hj:l[j]? =some a) {st:St} {f:Fun [.bool,.bool,.tv,.int .i64,.bool,.bool,.str,.int .i64,.int .i64,.int .i64,.int .i64,.int .i64,.str,.tv,.tv,.tv] Prop}
  (hf:∀kv ub ul uf,Rd 1 kv a.keys.length (a.keys.map TV.str)->VlR St.zero a.val (AK a.val.sc ub ul uf)->List.all (.bool a.tab:: .bool a.elem::kv::AK a.val.sc ub ul uf) At=true->
   f a.tab a.elem kv a.val.sc.kind a.val.sc.b a.val.sc.neg a.val.sc.dg a.val.sc.ex a.val.sc.tk a.val.sc.td a.val.sc.tn a.val.sc.tz a.val.sc.text ub ul uf):
  Ar ((Aj st [] (.t (ixT 16 v j)) 0 16).map TV.agg) fun x=>BF [.bool,.bool,.tv,.int .i64,.bool,.bool,.str,.int .i64,.int .i64,.int .i64,.int .i64,.int .i64,.str,.tv,.tv,.tv] x f:=by
 have hlt:j<l.length:=(List.getElem?_eq_some_iff.1 hj).1
 rw[(SlR.of_rd (st:=st) hr).ldc ha.len hlt]
 obtain⟨kv,vc,hc,h1,h2⟩:=ha.get hj
 rw[hc]
 obtain⟨tab,elem,ks,s,lv,fv⟩:=a
 have h20:=h2
 obtain⟨ub,ul,uf,xl,xf,rfl,w1,w2,_,w4,_⟩:=VlR.cells h20
 refine Ae rfl ?_
 have hone:List.all (AK s ub ul uf) At=true:=DB w1.one w2.one w4.one
 exact hf kv ub ul uf h1 h2 (by show(true&&(true&&(At kv&&List.all (AK s ub ul uf) At)))=true;rw[h1.one,hone];rfl)
theorem Sg {l:List Asg} {j:Nat} {a:Asg} (h:l[j]? =some a):Fi (l.drop j)=asz a+Fi (l.drop (j+1)):=by
 rw[Gi h,Fi]
theorem Rs:∀(l:List Asg) (j:Nat),Fi (l.drop j)<=Fi l
 | [],j=>by simp
 | a::r,0=>by simp
 | a::r,j+1=>by
  have:=Rs r j
  rw[List.drop_succ_cons,Fi];omega
theorem Ru {l:List Asg} {v:TV} {xs:List TV} {st:St} {K:TV->Int->Int->St->Prop} (hr:Rd 16 v l.length xs) (ha:Cf l xs) (hz:Fi l<=900000) (hc:∀a,a∈l->a.keys.length+a.val.cnt<=100000)
  (hk1:∀bb ub T cur u σ st',Dz l= .ok (erT T,cur)->atT T cur=some u->BH bb ub (.box u.b 0) T (Af T).cnt σ st'->NdL (shT 1 T)->NeL (shT 1 T)->AQ (Af T)=0->(Af T).sz<=1+Fi l->K (.box bb 0) 0 0 st')
  (hk2:∀(i e:Nat) st',Dz l= .error (i,e)->e≠0->K .nilPtr i e st'):CallT PR CO [v] [.one .tv,.one (.int .i64),.one (.int .i64)] st K:=by
 have hll:l.length<=Fi l:=by
  have:∀m:List Asg,m.length<=Fi m:=by
   intro m
   induction m with
   | nil=>simp
   | cons a r ih=>rw[Fi,List.length_cons];unfold asz;omega
  exact this l
 refine G2 v st K (HZ fun bb ub r m σ0 st0 H0=>Aa hr.isSl ?_)
 rw[hr.lenS]
 have e0:(Tb.mk r m false [])=AI ⟨r,m,0⟩ false:=rfl
 refine⟨fun n_1 b_1 v_1 n_2 st1=>b_1= .box bb 0/\v_1=v/\n_2=(l.length:Int)/\∃(j:Nat) (T:Tb) (cur:List Hop) (u:Tb) (σ:Nat->TV),n_1=(j:Int)/\j<=l.length/\Dz l=BW j (erT T) cur (l.drop j)/\atT T cur=some u/\
   BH bb ub (.box u.b 0) T (Af T).cnt σ st1/\NdL (shT 1 T)/\NeL (shT 1 T)/\AQ (Af T)=0/\(Af T).sz+Fi (l.drop j)<=1+Fi l,
  fun n_1 _ _ _ _=>l.length-n_1.toNat,⟨rfl,rfl,rfl,0,.mk r m false [],[],.mk r m false [],σ0,rfl,Nat.zero_le _,?_,rfl,?_,?_,?_,?_,?_⟩,?_⟩
 ·rw[e0,Gz];rfl
 ·rw[show(Af (.mk r m false [])).cnt=1 from by rw[Af,AJ];simp[Vl.cnt,Aw,Av]];exact H0
 ·rw[e0];exact GB _ _ _
 ·rw[e0];exact GA _ _ _
 ·rw[e0];exact Bo.2 ⟨B1 _ _,by rw[GC];omega,by have:=CQ ⟨r,m,0⟩ false;rw[AH]at this;omega⟩
 ·rw[e0,Ng,List.drop_zero];omega
 rintro n_1 _ _ _ st1 ⟨rfl,rfl,rfl,j,T,cur,u,σ,rfl,hj,hrun,hu,H,hN,hNe,hV,hsz⟩
 refine Ab (fun g=>?_) fun g=>?_
 ·have hlt:j<l.length:=by omega
  obtain⟨a,hja⟩:∃a,l[j]? =some a:=⟨_,List.getElem?_eq_getElem hlt⟩
  have hmem:=List.mem_of_getElem? hja
  have hwj:IntKind.wrap .i64 ((j:Int)+1)=((j+1:Nat):Int):=by rw[Ai _ (by omega) (by omega)];simp
  rw[hwj]
  refine⟨⟨by omega,by rw[hr.lenZ];omega⟩,?_⟩
  rw[Int.toNat_natCast]
  rw[Sg hja]at hsz
  have hle:=Rs l (j+1)
  unfold asz at hsz
  rw[Gi hja]at hrun
  refine ldA hr ha hja fun kv ub' ul uf h1 h2 h3=>Aa h3 ?_
  have hstep:∀nu,BA j (erT T) cur a=erX (CI nu j T cur a):=fun nu=>QP nu j T cur a
  refine MW H hu hN hNe hV (hc a hmem) (by omega) h1 h2 (fun nu T' cur' u' σ' st' hs hcv hu' H' hN' hNe' hsz'=>?_) (fun nu e st' hs=>?_) fun nu T' cur' st' hs hcv=>?_
  ·refine Ab (fun h=>absurd rfl h) fun _=>?_
   refine⟨⟨rfl,rfl,rfl,j+1,T',cur',u',σ',rfl,hlt,?_,hu',H',hN',hNe',hcv,by omega⟩,by simp only[Int.toNat_natCast];omega⟩
   rw[hrun,BW,hstep nu,hs]
   simp only[erX]
   rw[FB,if_pos hcv]
  ·have he:=On hs ⟨u,hu⟩ hNe
   refine Ab (fun _=>?_) fun h=>absurd (by omega) h
   have:=hk2 j e.toNat st' ?_ (by omega)
   ·have e2:((e.toNat:Nat):Int)=e:=by omega
    rw[e2]at this;exact this
   ·rw[hrun,BW,hstep nu,hs];rfl
  ·refine Ab (fun _=>?_) fun h=>absurd (by omega) h
   refine hk2 j (AQ (Af T')) st' ?_ hcv
   rw[hrun,BW,hstep nu,hs]
   simp only[erX]
   rw[FB,if_neg hcv]
 ·have hjj:j=l.length:=by omega
  subst hjj
  rw[List.drop_length,BW]at hrun
  rw[List.drop_length,Fi]at hsz
  exact hk1 bb ub T cur u σ st1 hrun hu H hN hNe hV (by omega)
theorem M0 {l:List Asg} {v:TV} {xs:List TV} {st:St} {K:Int->Int->St->Prop} (hr:Rd 16 v l.length xs) (ha:Cf l xs) (hz:Fi l<=900000) (hc:∀a,a∈l->a.keys.length+a.val.cnt<=100000)
  (hk1:∀T cur st',Dz l= .ok (T,cur)->K 0 0 st') (hk2:∀(i e:Nat) st',Dz l= .error (i,e)->e≠0->K i e st'):CallT PR CY [v] [.one (.int .i64),.one (.int .i64)] st K:=
 Ju v st K (Ru hr ha hz hc (fun bb ub T cur u σ st' h _ _ _ _ _ _=>hk1 _ _ st' h) hk2)
theorem Sl {l:List Asg} {v:TV} {xs:List TV} {st:St} {K:Int->Bool->Bool->B8->Int->Int->Int->Int->Int->B8->TV->TV->TV->Int->Int->St->Prop} (hr:Rd 16 v l.length xs) (ha:Cf l xs) (hz:Fi l<=900000) (hc:∀a,a∈l->a.keys.length+a.val.cnt<=100000)
  (hk1:∀T cur ub ul uf st',Dz l= .ok (T,cur)->AQ (Af T)=0->(Af T).sz<=1+Fi l->VlR St.zero (Af T) (AK (Af T).sc ub ul uf)->List.all (AK (Af T).sc ub ul uf) At=true->
   K (Af T).sc.kind (Af T).sc.b (Af T).sc.neg (Af T).sc.dg (Af T).sc.ex (Af T).sc.tk (Af T).sc.td (Af T).sc.tn (Af T).sc.tz (Af T).sc.text ub ul uf 0 0 st')
  (hk2:∀(i e:Nat) st',Dz l= .error (i,e)->e≠0->K 0 false false [] 0 0 0 0 0 [] .nilSlice .nilSlice .nilSlice i e st'):
  CallT PR Cc [v] [.agg [.int .i64,.bool,.bool,.str,.int .i64,.int .i64,.int .i64,.int .i64,.int .i64,.str,.tv,.tv,.tv],.one (.int .i64),.one (.int .i64)] st K:=by
 refine FU v st K (Ru hr ha hz hc (fun bb ub T cur u σ st' h hu H hN hNe hV hs=>?_) fun i e st' h he=>Ab (fun _=>hk2 i e st' h he) fun h0=>absurd (by omega) h0)
 refine Ab (fun h=>absurd rfl h) fun _=>Aa rfl (Aa rfl (Ae (x:= .box T.b 0) (by simp only[Ac,AV,H.cell];rfl) ?_))
 refine J1 (Af T).cnt T 1 (Nat.le_refl _) (by have:=Dv hV;omega) H.hp.sh hN H.hp.lt fun uf st2 hv ho e2=>?_
 refine GM (v:=Af T) (by omega) (Dv hV) (VlR.keep (B2 st2) hv) fun ub' ul' uf' st3 hv3 o1 o2 o3 _ _=>Aa (DB o1 o2 o3) ?_
 have e1:Af (erT T)=Af T:=FB T
 have:=hk1 (erT T) cur ub' ul' uf' st3 h (by rw[e1];exact hV) (by rw[e1];exact hs) (by rw[e1];exact hv3) (by rw[e1];exact DB o1 o2 o3)
 rw[e1]at this
 exact this
def scZ:Sc:=⟨0,false,false,[],0,0,0,0,0,[],[]⟩
theorem vl_leaf (st:St) (s:Sc) (h:s.bytes=[]):VlR st (.mk s [] []) (AK s .nilSlice .nilSlice .nilSlice):=by
 unfold VlR
 refine⟨_,_,_,[],[],rfl,?_,.of_rd (.inl ⟨rfl,rfl,rfl⟩),by unfold VsR;rfl,.of_rd (.inl ⟨rfl,rfl,rfl⟩),by unfold FsR;rfl⟩
 rw[h];exact .of_rd (.inl ⟨rfl,rfl,rfl⟩)
def Kv (c:UInt8):Vl:= .mk {scZ with kind:=2,dg:=[c]} [] []
def sv:Stp->StepV
 | .key k=>(false,k,0)
 | .idx i=>(true,[],(i:Int))
theorem zero13:VlR St.zero vlO [.int .i64 0,.bool false,.bool false,.str [],.int .i64 0,.int .i64 0,.int .i64 0,.int .i64 0,.int .i64 0,.str [],.nilSlice,.nilSlice,.nilSlice]:=by
 unfold vlO VlR
 refine⟨.nilSlice,.nilSlice,.nilSlice,[],[],rfl,.of_rd (.inl ⟨rfl,rfl,rfl⟩),.of_rd (.inl ⟨rfl,rfl,rfl⟩),by unfold VsR;rfl,.of_rd (.inl ⟨rfl,rfl,rfl⟩),by unfold FsR;rfl⟩
theorem BIf_t {x y:Prop} (h:x):BIf true x y:=h
theorem BIf_f {x y:Prop} (h:y):BIf false x y:=h
theorem sc_val (T:Tb):(Af T).sc=scM:=by rw[Eh];rfl
theorem Su {i:Nat} {T T' u:Tb} {cur cur':List Hop} {a:Asg} (hu:atT T cur=some u) (hn:NdL (shT 1 T)) (hne:NeL (shT 1 T)) (hs:BA i T cur a= .ok (T',cur')):
  (∃u',atT T' cur'=some u')/\NdL (shT 1 T')/\NeL (shT 1 T')/\(Af T').cnt<=(Af T).cnt+a.keys.length+2+a.val.cnt/\(Af T').sz<=(Af T).sz+kz a.keys+a.val.sz+2:=by
 unfold BA CI at hs
 split at hs
 ·cases hs
 rename_i hp
 split at hs
 ·cases hs
 rename_i T1 h hh
 have hks:a.keys≠ []:=fun e=>by
  have:Cz a=true:=by simpa using hp
  unfold Cz at this
  rw[e]at this;simp at this
 obtain⟨u0,hu0⟩:∃u0,atT T (if a.tab=true then []else cur)=some u0:=by
  split
  ·exact⟨T,by cases T;rfl⟩
  ·exact⟨u,hu⟩
 obtain⟨W,hne1⟩:=Hl _ 0 hu0 hne hh (Nat.le_refl _)
 obtain⟨F,_⟩:=Hk hne1 hs
 have w1:=W.cnt
 have w2:=W.sz
 have f1:=F.cnt
 have f2:=F.sz
 obtain⟨ks',kl,hkl⟩:∃ks' kl,a.keys=ks'++[kl]:=⟨a.keys.dropLast,a.keys.getLast hks,(List.dropLast_concat_getLast hks).symm⟩
 have hgl:a.keys.getLastD []=kl:=by rw[hkl];simp
 have hdl:a.keys.dropLast=ks':=by rw[hkl];simp
 have hkz:kz a.keys=kz ks'+(kl.length+1):=by rw[hkl,S5];simp[kz]
 have hlen:a.keys.length=ks'.length+1:=by rw[hkl];simp
 rw[hdl]at w1 w2
 rw[hgl]at f2
 refine⟨?_,F.nd (W.nd hn),F.ne hne1,by omega,?_⟩
 ·obtain⟨t,hA⟩:=W.at_
  unfold Ca at hs
  rw[hA]at hs
  simp only at hs
  split at hs
  ·rcases hl:Ah (a.keys.getLastD []) t.es with _ | ⟨eb,w | l | ⟨v,j⟩⟩<;>rw[hl]at hs<;>simp only[Except.ok.injEq,Prod.mk.injEq,reduceCtorEq]at hs
   ·obtain⟨rfl,rfl⟩:=hs
    have:=Jc (k2:=a.keys.getLastD []) (eb:=n0.eb) (e:= .lst [AI n0 false]) hl
    rw[if_pos rfl]at this
    exact⟨_,Ht (BJ h hA) this rfl⟩
   ·obtain⟨rfl,rfl⟩:=hs
    exact⟨AI n0 false,Ht (BJ h hA) (JP hl) (by simp)⟩
  ·split at hs
   ·rcases hl:Ah (a.keys.getLastD []) t.es with _ | ⟨eb,w | l | ⟨v,j⟩⟩<;>rw[hl]at hs<;>simp only[Except.ok.injEq,Prod.mk.injEq,reduceCtorEq]at hs
    ·obtain⟨rfl,rfl⟩:=hs
     exact⟨_,J2 (nu:=n0) hA hl⟩
    ·split at hs
     ·cases hs
     ·simp only[Except.ok.injEq,Prod.mk.injEq]at hs
      obtain⟨rfl,rfl⟩:=hs
      exact⟨CA w,LJ (BJ h hA) (JP hl)⟩
   ·rename_i ht
    rcases hl:Ah (a.keys.getLastD []) t.es with _ | ⟨eb,e⟩<;>rw[hl]at hs<;>simp only[Except.ok.injEq,Prod.mk.injEq,reduceCtorEq]at hs
    obtain⟨rfl,rfl⟩:=hs
    rw[if_neg ht]at hh hu0
    have:=Lo (g:=cur) (r:=[]) (u:=u) _ 0 hu (by rw[List.append_nil];exact hu) hne (by rw[List.append_nil];exact hh)
    obtain⟨r,u1,rfl,hu1,_⟩:=this
    obtain⟨u',q1,_⟩:=QC (x:=AO t (a.keys.getLastD []) n0.eb (.clo a.val i)) hu1 hA rfl
    exact⟨u',q1⟩
 ·omega
theorem JD {k:B8}:∀{es:List Kn} {eb:Nat} {e:En},Ah k es=some (eb,e)->BN k e es=es
 | .mk k' eb' e'::r,eb,e,h=>by
  unfold Ah at h
  unfold BN
  split at h
  ·rename_i hk;cases h;subst hk;rw[if_pos rfl]
  ·rename_i hk;rw[if_neg hk,JD h]
theorem FW:∀(h:List Hop) {T t:Tb},atT T h=some t->Ay T h t=T
 | [],T,t,hA=>by cases T;cases hA;rfl
 | (k,none)::h,.mk b m hd es,t,hA=>by
  rw[atT]at hA
  rw[Ay]
  rcases hl:Ah k es with _ | ⟨eb,u | l | ⟨v,i⟩⟩<;>rw[hl]at hA<;>simp only at hA⊢<;>try (cases hA;done)
  ·rw[FW h hA,JD hl]
 | (k,some i)::h,.mk b m hd es,t,hA=>by
  rw[atT]at hA
  rw[Ay]
  rcases hl:Ah k es with _ | ⟨eb,u | l | ⟨v,j⟩⟩<;>rw[hl]at hA<;>simp only at hA⊢<;>try (cases hA;done)
  ·cases hi:l[i]? with
   | none=>simp[hi]at hA
   | some u=>
    rw[hi]at hA
    simp only at hA⊢
    have:l.set i u=l:=by
     obtain⟨hlt,hu⟩:=List.getElem?_eq_some_iff.1 hi
     rw[<-hu];exact List.set_getElem_self hlt
    rw[FW h hA,this,JD hl]
theorem u8_nil:U8 []:=by unfold U8;rw[B5 _ (by simp[ul])];rfl
theorem Rz {c:UInt8} (h:Ed false [c] 0):Az (Kv c):=by
 unfold Kv Az
 exact⟨⟨⟨by simp,by simp,by simp[scZ],by simp,by simp[scZ],by simp[scZ],by simp[scZ],by simp,by simp⟩,h,by simp,u8_nil,by simp[scZ],by simp[scZ],rfl⟩,by unfold AX;trivial,by unfold Bb;trivial⟩
theorem dec49:Ed false [49] 0:=by decide
theorem sz_int (c:UInt8):(Kv c).sz=2:=by unfold Kv Vl.sz Bz Bs;simp[scZ]
theorem cnt_int (c:UInt8):(Kv c).cnt=1:=by unfold Kv Vl.cnt Aw Av;rfl
theorem Rw:Ff []=0:=B5 _ (by simp[ul])
theorem Rx {c:UInt8} {l:B8} (hc:c.toNat<128) (hl:Ff l=l.length):Ff (c::l)=(c::l).length:=by
 have h:=Sr (c::l) (by simp) hc
 rw[Hw _ (by omega),h.1]
 simp only[List.drop_succ_cons,List.drop_zero,List.length_cons];omega
theorem KI:∀l:B8,(l.all fun c=>decide (c.toNat<128))=true->Ff l=l.length
 | [],_=>Rw
 | c::l,h=>by
  simp only[List.all_cons,Bool.and_eq_true,decide_eq_true_eq]at h
  exact Rx h.1 (KI l h.2)
theorem PJ {i:Nat} {T T' u:Tb} {cur cur':List Hop} {a:Asg} (hu:atT T cur=some u) (hne:NeL (shT 1 T)) (hs:BA i T cur a= .ok (T',cur')) (hv:Az (Af T)) (hk:∀k,k∈a.keys->U8 k/\k.length<=1024) (ha:a.elem=false->a.tab=false->Az a.val):Az (Af T'):=by
 unfold BA CI at hs
 split at hs
 ·cases hs
 rename_i hp
 split at hs
 ·cases hs
 rename_i T1 h hh
 have hks:a.keys≠ []:=fun e=>by
  have:Cz a=true:=by simpa using hp
  unfold Cz at this
  rw[e]at this;simp at this
 obtain⟨u0,hu0⟩:∃u0,atT T (if a.tab=true then []else cur)=some u0:=by
  split
  ·exact⟨T,by cases T;rfl⟩
  ·exact⟨u,hu⟩
 obtain⟨W,hne1⟩:=Hl _ 0 hu0 hne hh (Nat.le_refl _)
 obtain⟨F,_⟩:=Hk hne1 hs
 have hl:a.keys.getLastD []∈a.keys:=by
  rw[List.getLastD_eq_getLast?,List.getLast?_eq_some_getLast hks]
  exact List.getLast_mem hks
 exact F.va ⟨(hk _ hl).1,(hk _ hl).2,ha⟩ (W.va (fun k hk'=>hk k (List.dropLast_subset _ hk')) hv)
structure Mf (T:Tb) (cur:List Hop) (n:Nat):Prop where
 at_:∃u,atT T cur=some u
 nd:NdL (shT 1 T)
 ne:NeL (shT 1 T)
 va:Az (Af T)
 cnt:(Af T).cnt<=n
theorem Mf.ck {T:Tb} {cur:List Hop} {n:Nat} (h:Mf T cur n) (hn:n<=48):AQ (Af T)=0:=
 Bo.2 ⟨h.va,by have:=Lf (Af T);have:=h.cnt;omega,by have:=h.cnt;omega⟩
theorem Mf.start:Mf T00 [] 1:=
 ⟨⟨T00,rfl⟩,GB 1 n0 false,GA 1 n0 false,B1 n0 false,by have:=CQ n0 false;rw[AH]at this;rw[show(Af T00).cnt=1 from this];omega⟩
theorem Mf.step {i n:Nat} {T T':Tb} {cur cur':List Hop} {a:Asg} (h:Mf T cur n) (hs:BA i T cur a= .ok (T',cur')) (hk:∀k,k∈a.keys->U8 k/\k.length<=1024) (ha:a.elem=false->a.tab=false->Az a.val):Mf T' cur' (n+a.keys.length+2+a.val.cnt):=by
 obtain⟨u,hu⟩:=h.at_
 obtain⟨h1,h2,h3,h4,_⟩:=Su hu h.nd h.ne hs
 exact⟨h1,h2,h3,PJ hu h.ne hs h.va hk ha,by have:=h.cnt;omega⟩
theorem PE {c:UInt8} (h:c.toNat<128):U8 [c]/\[c].length<=1024:=⟨KI [c] (by simp[h]),by simp⟩
def aP (ks:List B8):Asg:=⟨false,false,ks,Kv 49⟩
def aT (ks:List B8):Asg:=⟨true,false,ks,vlO⟩
def aE (ks:List B8):Asg:=⟨true,true,ks,vlO⟩
theorem Px {kv:TV} {ks:List B8} (h:Rd 1 kv ks.length (ks.map TV.str)):QK (aP ks) [.bool false,.bool false,kv,.int .i64 2,.bool false,.bool false,.str [49],.int .i64 0,.int .i64 0,.int .i64 0,.int .i64 0,.int .i64 0,.str [],.nilSlice,.nilSlice,.nilSlice]:=
 ⟨kv,_,rfl,h,vl_leaf St.zero _ rfl⟩
theorem Rt {kv:TV} {e:Bool} {ks:List B8} (h:Rd 1 kv ks.length (ks.map TV.str)):QK ⟨true,e,ks,vlO⟩ [.bool true,.bool e,kv,.int .i64 0,.bool false,.bool false,.str [],.int .i64 0,.int .i64 0,.int .i64 0,.int .i64 0,.int .i64 0,.str [],.nilSlice,.nilSlice,.nilSlice]:=
 ⟨kv,_,rfl,h,zero13⟩
theorem Dg {a:Asg} {c:List TV} {r:List Asg} {d:List TV} (h:QK a c) (k:Cf r d):Cf (a::r) (c++d):=by unfold Cf;exact⟨c,d,rfl,h,k⟩
theorem GP:Cf [] []:=by unfold Cf;rfl
def kA:B8:=[97]
def kB:B8:=[98]
def kX:B8:=[120]
def kY:B8:=[121]
def kZ:B8:=[122]
def L3 (es:List Kn):Tb:= .mk 0 0 false es
theorem vP:Az (Kv 49):=Rz dec49
theorem Sa:(Kv 49).cnt=1:=cnt_int 49
theorem cntO:vlO.cnt=1:=by unfold vlO Vl.cnt Aw Av;rfl
def En.v1 (i:Nat):En:= .clo (Kv 49) i
def T1a:Tb:=L3 [.mk kA 0 (.opn (L3 [.mk kB 0 (.v1 0)]))]
def T2a:Tb:=L3 [.mk kA 0 (.opn (L3 [.mk kB 0 (.v1 0)])),.mk kX 0 (.opn (L3 [.mk kY 0 (.opn (.mk 0 0 true []))]))]
def T3a:Tb:=L3 [.mk kA 0 (.opn (L3 [.mk kB 0 (.v1 0)])),.mk kX 0 (.opn (L3 [.mk kY 0 (.opn (.mk 0 0 true [.mk kZ 0 (.v1 2)]))]))]
def T1b:Tb:=L3 [.mk kA 0 (.v1 0)]
theorem run_a:Dz [aP [kA,kB],aT [kX,kY],aP [kZ]]= .ok (T3a,[(kX,none),(kY,none)]):=by
 have s1:BA 0 T00 [] (aP [kA,kB])= .ok (T1a,[]):=rfl
 have s2:BA 1 T1a [] (aT [kX,kY])= .ok (T2a,[(kX,none),(kY,none)]):=rfl
 have s3:BA 2 T2a [(kX,none),(kY,none)] (aP [kZ])= .ok (T3a,[(kX,none),(kY,none)]):=rfl
 have hk:∀(ks:List B8),(∀k,k∈ks->k=kA∨k=kB∨k=kX∨k=kY∨k=kZ)->∀k,k∈ks->U8 k/\k.length<=1024:=fun ks h k hm=>by
  rcases h k hm with rfl | rfl | rfl | rfl | rfl<;>exact PE (by decide)
 have w1:=Mf.start.step s1 (hk _ (by simp[aP])) (fun _ _=>vP)
 have w2:=w1.step s2 (hk _ (by simp[aT])) (fun _ h=>by cases h)
 have w3:=w2.step s3 (hk _ (by simp[aP])) (fun _ _=>vP)
 have c1:=w1.ck (by simp[aP,Sa])
 have c2:=w2.ck (by simp[aP,aT,Sa,cntO])
 have c3:=w3.ck (by simp[aP,aT,Sa,cntO])
 unfold Dz
 rw[BW,s1]
 simp only
 rw[if_pos c1,BW,s2]
 simp only
 rw[if_pos c2,BW,s3]
 simp only
 rw[if_pos c3,BW]
theorem run_b:Dz [aP [kA],aP [kA,kB]]= .error (1,8):=by
 have s1:BA 0 T00 [] (aP [kA])= .ok (T1b,[]):=rfl
 have s2:BA 1 T1b [] (aP [kA,kB])= .error 8:=rfl
 have w1:=Mf.start.step s1 (fun k hm=>by rw[List.mem_singleton.1 hm];exact PE (by decide)) (fun _ _=>vP)
 have c1:=w1.ck (by simp[aP,Sa])
 unfold Dz
 rw[BW,s1]
 simp only
 rw[if_pos c1,BW,s2]
 rfl
theorem run_c:Dz [aP [kA],aE [kA]]= .error (1,6):=by
 have s1:BA 0 T00 [] (aP [kA])= .ok (T1b,[]):=rfl
 have s2:BA 1 T1b [] (aE [kA])= .error 6:=rfl
 have w1:=Mf.start.step s1 (fun k hm=>by rw[List.mem_singleton.1 hm];exact PE (by decide)) (fun _ _=>vP)
 have c1:=w1.ck (by simp[aP,Sa])
 unfold Dz
 rw[BW,s1]
 simp only
 rw[if_pos c1,BW,s2]
 rfl
theorem Hf {kv:TV} {st:St} {K:Bool->Bool->TV->Int->Bool->Bool->B8->Int->Int->Int->Int->Int->B8->TV->TV->TV->St->Prop} (hk1:At kv=true) (hk:K false false kv 2 false false str5 0 0 0 0 0 [] .nilSlice .nilSlice .nilSlice st):
  CallT PR AW [kv] [.agg [.bool,.bool,.tv,.int .i64,.bool,.bool,.str,.int .i64,.int .i64,.int .i64,.int .i64,.int .i64,.str,.tv,.tv,.tv]] st K:=by
 refine GX kv st K (Gp st _ (Aa (by simp[hk1]) (Aa ?_ hk)))
 show(true&&(true&&(At kv&&true)))=true
 rw[hk1];rfl
theorem valT3a:∃F1:List Fd,Af T3a= .mk scM [] [.mk kA (.mk scM [] F1),.mk kX (.mk scM [] [.mk kY (.mk scM [] [.mk kZ (Kv 49)])])]:=by
 unfold T3a L3 En.v1
 simp only[Af,AJ,AH]
 exact⟨_,rfl⟩
theorem HN {st:St} {K:Bool->St->Prop} (hk:∀st',K true st'):CallT PR A7 [] [.one .bool] st K:=by
 have hb:∀(a:Asg),a=aP [kA,kB]∨a=aT [kX,kY]∨a=aP [kZ]∨a=aP [kA]∨a=aE [kA]->asz a<=20/\a.keys.length+a.val.cnt<=100000:=fun a ha=>by
  have h1:(Kv 49).sz=2:=sz_int 49
  have h2:vlO.sz=1:=by unfold vlO Vl.sz Bz Bs;simp[scO]
  rcases ha with rfl | rfl | rfl | rfl | rfl<;>simp[asz,aP,aT,aE,kz,kA,kB,kX,kY,kZ,h1,h2,Sa,cntO]
 have hA:Cf [aP [kA,kB],aT [kX,kY],aP [kZ]] _:=Dg (Px (kv:= .list 1 .full 2 [.str L4,.str str1]) (.inr ⟨_,rfl⟩)) (Dg (Rt (e:=false) (ks:=[kX,kY]) (kv:= .list 1 .full 2 [.str str2,.str str3]) (.inr ⟨_,rfl⟩)) (Dg (Px (ks:=[kZ]) (kv:= .list 1 .full 1 [.str str4]) (.inr ⟨_,rfl⟩)) GP))
 have hB:Cf [aP [kA],aP [kA,kB]] _:=Dg (Px (kv:= .list 1 .full 1 [.str L4]) (.inr ⟨_,rfl⟩)) (Dg (Px (ks:=[kA,kB]) (kv:= .list 1 .full 2 [.str L4,.str str1]) (.inr ⟨_,rfl⟩)) GP)
 have hC:Cf [aP [kA],aE [kA]] _:=Dg (Px (kv:= .list 1 .full 1 [.str L4]) (.inr ⟨_,rfl⟩)) (Dg (Rt (e:=true) (ks:=[kA]) (kv:= .list 1 .full 1 [.str L4]) (.inr ⟨_,rfl⟩)) GP)
 have z3:∀{a b c:Asg},asz a<=20->asz b<=20->asz c<=20->Fi [a,b,c]<=900000:=fun h1 h2 h3=>by simp only[Fi];omega
 have z2:∀{a b:Asg},asz a<=20->asz b<=20->Fi [a,b]<=900000:=fun h1 h2=>by simp only[Fi];omega
 have a1:=hb _ (.inl rfl)
 have a2:=hb _ (.inr (.inl rfl))
 have a3:=hb _ (.inr (.inr (.inl rfl)))
 have a4:=hb _ (.inr (.inr (.inr (.inl rfl))))
 have a5:=hb _ (.inr (.inr (.inr (.inr rfl))))
 refine GY st K (Hf rfl (Hf rfl ?_))
 refine Sl (l:=[aP [kA,kB],aT [kX,kY],aP [kZ]]) (.inr ⟨_,rfl⟩) hA (z3 a1.1 a2.1 a3.1) (fun a ha=>?_) (fun T cur ub ul uf st1 hrun _ _ hv on=>Aa on ?_) fun i e st1 hrun _=>by rw[run_a]at hrun;cases hrun
 ·simp only[List.mem_cons,List.not_mem_nil,or_false]at ha
  rcases ha with rfl | rfl | rfl
  ·exact a1.2
  ·exact a2.2
  ·exact a3.2
 rw[run_a]at hrun
 have hT:T=T3a:=by cases hrun;rfl
 subst hT
 refine Hf rfl (Hf rfl ?_)
 refine M0 (l:=[aP [kA],aP [kA,kB]]) (.inr ⟨_,rfl⟩) hB (z2 a4.1 a1.1) (fun a ha=>?_) (fun T cur st2 h2=>by rw[run_b]at h2;cases h2) fun i e st2 h2 _=>?_
 ·simp only[List.mem_cons,List.not_mem_nil,or_false]at ha
  rcases ha with rfl | rfl
  ·exact a4.2
  ·exact a1.2
 rw[run_b]at h2
 have h2':i=1/\e=8:=by cases h2;exact⟨rfl,rfl⟩
 obtain⟨rfl,rfl⟩:=h2'
 refine Hf rfl ?_
 refine M0 (l:=[aP [kA],aE [kA]]) (.inr ⟨_,rfl⟩) hC (z2 a4.1 a5.1) (fun a ha=>?_) (fun T cur st3 h3=>by rw[run_c]at h3;cases h3) fun i e st3 h3 _=>?_
 ·simp only[List.mem_cons,List.not_mem_nil,or_false]at ha
  rcases ha with rfl | rfl
  ·exact a4.2
  ·exact a5.2
 rw[run_c]at h3
 have h3':i=1/\e=6:=by cases h3;exact⟨rfl,rfl⟩
 obtain⟨rfl,rfl⟩:=h3'
 obtain⟨F1,hval⟩:=valT3a
 rw[hval]at hv
 obtain⟨_,_,_,xl,xf,hc,w1,w2,w3,w4,w5⟩:=VlR.cells hv
 replace hc:AK scM ub ul uf=AK scM _ _ _:=hc
 cases hc
 unfold FsR at w5
 obtain⟨c1,d1,rfl,f1,w5⟩:=w5
 unfold FsR at w5
 obtain⟨c2,d2,rfl,f2,w5⟩:=w5
 unfold FsR at w5
 subst w5
 unfold FdR at f1 f2
 obtain⟨v1,rfl,f1⟩:=f1
 obtain⟨v2,rfl,f2⟩:=f2
 obtain⟨p1,p2,p3,p4,p5,rfl,_⟩:=VlR.cells f1
 obtain⟨q1,q2,q3,q4,q5,rfl,g1,g2,g3,g4,g5⟩:=VlR.cells f2
 unfold FsR at g5
 obtain⟨c3,d3,rfl,f3,g5⟩:=g5
 unfold FsR at g5
 subst g5
 unfold FdR at f3
 obtain⟨v3,rfl,f3⟩:=f3
 obtain⟨r1,r2,r3,r4,r5,rfl,k1,k2,k3,k4,k5⟩:=VlR.cells f3
 rcases w4.zero with⟨_,h0,_⟩ | ⟨t1,rfl⟩
 ·simp at h0
 rcases g4.zero with⟨_,h0,_⟩ | ⟨t2,rfl⟩
 ·simp at h0
 have hkx:str2=kX:=rfl
 have l2:(0:Int)<=1/\(1:Int)<((2:Nat):Int):=⟨by decide,by decide⟩
 have l1:(0:Int)<=0/\(0:Int)<((1:Nat):Int):=⟨by decide,by decide⟩
 refine Ab (fun _=>Aa rfl ?_) fun h=>absurd rfl h
 refine Ab (fun _=>?_) fun h=>absurd rfl h
 refine⟨l2,Aa rfl (Ae (x:= .str kX) rfl (E7 ?_))⟩
 refine Ab (fun _=>?_) fun h=>absurd rfl h
 refine⟨l2,Aa rfl (Aa rfl (Ae (x:= .list 14 t2 1 _) rfl (Aa rfl ?_)))⟩
 refine Ab (fun _=>?_) fun h=>absurd rfl h
 refine⟨l2,Aa rfl (Aa rfl (Ae (x:= .list 14 t2 1 _) rfl ?_))⟩
 refine⟨l1,Aa rfl (Aa rfl (Ae (x:=r3) rfl (Aa k4.isSl ?_)))⟩
 rw[k4.lenS]
 refine Ab (fun _=>?_) fun h=>absurd rfl h
 refine Ab (fun _=>?_) fun h=>absurd rfl h
 refine Ab (fun _=>?_) fun h=>absurd rfl h
 refine Ab (fun _=>?_) fun h=>absurd rfl h
 exact hk st3
section
def EC (l:List Vl):Bool:= !l.isEmpty&&l.all fun x=>decide (x.sc.kind=7)
def Bw (v:Vl):Bool:=EC v.list
def AB:List Fd->List Asg
 | []=>[]
 | .mk k v::r=>if v.sc.kind≠7/\Bw v=false then⟨false,false,[k],v⟩::AB r else AB r
mutual
def Br (ks:List B8):List Fd->List Asg
 | []=>[]
 | d::r=>PH ks d++Br ks r
def PH (ks:List B8):Fd->List Asg
 | .mk k v=>HS (ks++[k]) v
def HS (ks:List B8):Vl->List Asg
 | .mk s l f=>if s.kind=7 then aT ks::(AB f++Br ks f)else if EC l=true then elL ks l else []
def elL (ks:List B8):List Vl->List Asg
 | []=>[]
 | x::r=>elV ks x++elL ks r
def elV (ks:List B8):Vl->List Asg
 | .mk s l f=>aE ks::(AB f++Br ks f)
end
def E4 (ks:List B8) (v:Vl):List Asg:=AB v.flds++Br ks v.flds
theorem Ok {ks:List B8} {v:Vl} (h:v.sc.kind=7):HS ks v=aT ks::E4 ks v:=by
 obtain⟨s,l,f⟩:=v
 rw[HS,if_pos (show s.kind=7 from h)];rfl
theorem Ol {ks:List B8} {v:Vl} (h:v.sc.kind≠7) (hm:Bw v=true):HS ks v=elL ks v.list:=by
 obtain⟨s,l,f⟩:=v
 rw[HS,if_neg (show ¬s.kind=7 from h),if_pos (show EC l=true from hm)];rfl
theorem HB {ks:List B8} {v:Vl} (h:v.sc.kind≠7) (hm:Bw v=false):HS ks v=[]:=by
 obtain⟨s,l,f⟩:=v
 rw[HS,if_neg (show ¬s.kind=7 from h),if_neg (by rw[show EC l=false from hm];simp)]
theorem Tv (ks:List B8) (v:Vl):elV ks v=aE ks::E4 ks v:=by obtain⟨s,l,f⟩:=v;rw[elV];rfl
theorem Iv:∀a b:List Fd,AB (a++b)=AB a++AB b
 | [],b=>rfl
 | .mk k v::r,b=>by
  rw[List.cons_append,AB,AB,Iv r b]
  split<;>rfl
theorem KU (ks:List B8):∀a b:List Fd,Br ks (a++b)=Br ks a++Br ks b
 | [],b=>by rw[Br];rfl
 | d::r,b=>by rw[List.cons_append,Br,Br,KU ks r b,List.append_assoc]
theorem Re (ks:List B8):∀a b:List Vl,elL ks (a++b)=elL ks a++elL ks b
 | [],b=>by rw[elL];rfl
 | d::r,b=>by rw[List.cons_append,elL,elL,Re ks r b,List.append_assoc]
theorem OL {f:List Fd} {k:Nat} {key:B8} {v:Vl} (h:f[k]? =some (.mk key v)):AB (f.take (k+1))=AB (f.take k)++if v.sc.kind≠7/\Bw v=false then [⟨false,false,[key],v⟩]else []:=by
 rw[B7 h,Iv,AB,AB]
theorem RB {ks:List B8} {f:List Fd} {k:Nat} {key:B8} {v:Vl} (h:f[k]? =some (.mk key v)):Br ks (f.take (k+1))=Br ks (f.take k)++HS (ks++[key]) v:=by
 rw[B7 h,KU,Br,Br,PH,List.append_nil]
theorem Tw {ks:List B8} {l:List Vl} {k:Nat} {v:Vl} (h:l[k]? =some v):elL ks (l.take (k+1))=elL ks (l.take k)++elV ks v:=by
 rw[B7 h,Re,elL,elL,List.append_nil]
mutual
theorem EX (ks:List B8):∀f:List Fd,(AB f).length+(Br ks f).length<=Av f
 | []=>by rw[AB,Br,Av];simp
 | .mk k v::r=>by
  have h1:=EX ks r
  have h2:=OW (ks++[k]) v
  rw[AB,Br,PH,Av,Fd.cnt,List.length_append]
  split
  ·rename_i h
   rw[HB h.1 h.2,List.length_cons]
   have:1<=v.cnt:=by cases v;unfold Vl.cnt;omega
   simp only[List.length_nil];omega
  ·omega
theorem OW (ks:List B8):∀v:Vl,(HS ks v).length<=v.cnt
 | .mk s l f=>by
  have h1:=EX ks f
  have h2:=NC ks l
  rw[HS,Vl.cnt]
  split
  ·rw[List.length_cons,List.length_append];omega
  ·split
   ·omega
   ·simp only[List.length_nil];omega
theorem NC (ks:List B8):∀l:List Vl,(elL ks l).length<=Aw l
 | []=>by rw[elL,Aw];simp
 | x::r=>by
  have h1:=NC ks r
  have h2:=Q1 ks x
  rw[elL,Aw,List.length_append];omega
theorem Q1 (ks:List B8):∀v:Vl,(elV ks v).length<=v.cnt
 | .mk s l f=>by
  have h1:=EX ks f
  rw[elV,Vl.cnt,List.length_cons,List.length_append];omega
end
theorem OY (ks:List B8) (v:Vl):(E4 ks v).length+1<=v.cnt:=by
 obtain⟨s,l,f⟩:=v
 have:=EX ks f
 unfold E4
 rw[List.length_append,Vl.cnt]
 show(AB f).length+(Br ks f).length+1<=_
 omega
theorem anyV_ok {st0 st:St} {u:TV} {l:List Vl} {xl:List TV} {p:Vl->Bool} {fn:Nat} {K:Bool->St->Prop} (hke:Bq st0 st) (h2:SlR st0 13 u l.length xl) (h3:VsR st0 l xl) (hl:l.length<=2000000)
  (hf:∀w,w∈l->∀(cs:List TV) (K:Bool->St->Prop),VlR st0 w cs->K (p w) st->CallT PR fn [.agg cs] [.one .bool] st K) (hk:K (l.any p) st):
  CallT PR AT [u,.func fn []] [.one .bool] st K:=by
 refine B4 u _ st K (Ch u _ st _ (Aa h2.isSl ?_))
 rw[h2.lenS]
 refine⟨fun i a f n st'=>u=a/\TV.func fn []=f/\(l.length:Int)=n/\st=st'/\∃k:Nat,i=k/\k<=l.length/\(l.take k).any p=false,fun i _ _ _ _=>(l.length-i).toNat,⟨rfl,rfl,rfl,rfl,0,rfl,Nat.zero_le _,rfl⟩,?_⟩
 rintro _ _ _ _ _ ⟨rfl,rfl,rfl,rfl,k,rfl,hkl,ha⟩
 refine Ab (fun g=>?_) fun g=>?_
 ·refine NM hke h2 h3 rfl (by omega) fun s' l' f' ub1 ul1 uf1 gw hw on=>?_
  have hm:=List.mem_of_getElem? gw
  refine hf _ hm (AK s' ub1 ul1 uf1) _ hw (AD (fun hb=>?_) fun hb=>?_)
  ·have:l.any p=true:=List.any_eq_true.2 ⟨_,hm,hb⟩
   rw[this]at hk
   show K (decide ((0:Int)<=(k:Int))) _
   rw[decide_eq_true (by omega)];exact hk
  ·rw[Ai _ (by omega) (by omega)]
   refine⟨⟨rfl,rfl,rfl,rfl,k+1,by omega,by omega,?_⟩,by dsimp only;omega⟩
   rw[B7 gw,List.any_append,ha,List.any_cons,hb];rfl
 ·have:k=l.length:=by omega
  subst this
  rw[List.take_length]at ha
  rw[ha]at hk
  exact hk
theorem SH {v:Vl} (h:Az v) (hm:Bw v=true):v.sc.kind=6:=by
 obtain⟨s,l,f⟩:=v
 unfold Az at h
 by_cases hk:s.kind=6
 ·exact hk
 ·have:=h.1.own.ls hk
  unfold Bw EC at hm
  rw[show(Vl.mk s l f).list=l from rfl,this]at hm
  simp at hm
theorem QX {v:Vl} {cs:List TV} {st:St} {K:Bool->St->Prop} (h:VlR St.zero v cs) (hV:Az v) (hz:v.sz<=2000000) (hk:K (Bw v) st):CallT PR Dj [.agg cs] [.one .bool] st K:=by
 have hol:=SH hV
 obtain⟨s,l,f⟩:=v
 have hsz:=szs s l f
 have hll:=Dw l
 obtain⟨ub,ul,uf,xl,xf,rfl,h1,h2,h3,h4,h5⟩:=VlR.cells h
 refine Kr _ _ _ _ _ _ _ _ _ _ ub ul uf st K (Ab (fun g=>Aa h2.isSl ?_) fun g=>?_)
 ·rw[h2.lenS]
  refine Ab (fun g1=>?_) fun g1=>?_
  ·refine anyV_ok (p:=fun x=> !(decide (x.sc.kind=7))) (B2 st) h2 h3 (by omega) (fun w _ cs K hw hK=>?_) ?_
   ·obtain⟨sw,lw,fw⟩:=w
    obtain⟨a,b,c,_,_,rfl,_⟩:=VlR.cells hw
    refine IM _ _ _ _ _ _ _ _ _ _ a b c st K ?_
    have:decide (sw.kind≠7)= !(decide ((Vl.mk sw lw fw).sc.kind=7)):=by
     show decide (sw.kind≠7)= !(decide (sw.kind=7))
     by_cases hq:sw.kind=7<;>simp[hq]
    rw[this];exact hK
   ·have:(!(l.any fun x=> !(decide (x.sc.kind=7))))=Bw (.mk s l f):=by
     have hne:l.isEmpty=false:=by cases l with | nil=>simp at g1 | cons a b=>rfl
     show _=(!l.isEmpty&&l.all fun x=>decide (x.sc.kind=7))
     rw[hne,List.all_eq_not_any_not,Bool.not_false,Bool.true_and]
    show K (!(l.any _)) st
    rw[this];exact hk
  ·have:Bw (.mk s l f)=false:=by
    have:l=[]:=List.eq_nil_of_length_eq_zero (by omega)
    subst this;rfl
   rw[this]at hk;exact hk
 ·have:Bw (.mk s l f)=false:=by
   cases hq:Bw (.mk s l f)with
   | false=>rfl
   | true=>exact absurd (hol hq) g
  rw[this]at hk;exact hk
theorem JZ {kv:TV} {ks:List B8} {st:St} {K:TV->St->Prop} (h:Rd 1 kv ks.length (ks.map TV.str)) (hl:ks.length<=1000000) (hk:∀v st',Own st.nt 1 st' v ks.length (ks.map TV.str)->Al st st'->K v st'):CallT PR AR [kv] [.one .tv] st K:=by
 refine Dx kv st K (Aa h.isSl ?_)
 rcases h with⟨rfl,h1,h2⟩ | ⟨tip,rfl⟩
 ·refine BIf_t (hk .nilSlice st ?_ (Al.refl st))
  rw[h2,h1]
  exact Own.nil _ _ _
 ·refine BIf_f (Ae (x:=(ks.length,ks.map TV.str)) rfl (Aa ?_ ?_))
  ·rw[List.all_map,List.all_eq_true];intro x _;rfl
  ·refine DU (Al.refl st) rfl (Own.full _ _ _ 0 []) (by omega) (fun h0=>?_) fun v1 st1 e1 _ ho1=>?_
   ·have:ks=[]:=List.eq_nil_of_length_eq_zero h0
    rw[this];rfl
   ·rw[Nat.zero_add,List.nil_append]at ho1
    exact hk v1 st1 ho1 e1
theorem S6 {kv:TV} {ks:List B8} {key:B8} {st st1:St} {K:TV->St->Prop} (e:Al st st1) (h:Own st.nt 1 st1 kv ks.length (ks.map TV.str)) (hl:ks.length<=1000000) (hk:∀v st',Rd 1 v (ks++[key]).length ((ks++[key]).map TV.str)->Al st st'->K v st'):Cx 9 1 16 kv 1 [.str key] st1 K:=by
 refine DU e rfl h (by omega) (fun h0=>by cases h0) fun v1 st2 e2 _ ho2=>hk v1 st2 ?_ e2
 rw[List.length_append,List.map_append]
 exact ho2.rd
theorem Ml {s:Sc} {l:List Vl} {f:List Fd} (h:Az (.mk s l f)) {k:Nat} {key:B8} {v:Vl} (hg:f[k]? =some (.mk key v)):Az v:=by
 unfold Az at h
 have:∀g:List Fd,Bb g->∀d,d∈g->Cl d:=by
  intro g
  induction g with
  | nil=>intro _ d hd;cases hd
  | cons x r ih=>
   intro hv d hd
   unfold Bb at hv
   rcases List.mem_cons.1 hd with rfl | hd
   ·exact hv.1
   ·exact ih hv.2 d hd
 have:=this f h.2.2 _ (List.mem_of_getElem? hg)
 unfold Cl at this
 exact this
theorem Sp {s:Sc} {l:List Vl} {f:List Fd} (h:Az (.mk s l f)) {k:Nat} {v:Vl} (hg:l[k]? =some v):Az v:=by
 unfold Az at h
 exact Il.1 h.2.1 v (List.mem_of_getElem? hg)
end
end Go.TVF
