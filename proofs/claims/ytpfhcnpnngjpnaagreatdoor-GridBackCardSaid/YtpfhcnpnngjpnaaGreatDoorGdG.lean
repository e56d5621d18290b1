/- What the laws below rest on: a framework for Go programs, and contracts of the functions that they reach. -/
import Derived.Test.YtpfhcnpnngjpnaaGreatDoorGdF
set_option maxRecDepth 20000
set_option linter.unusedVariables false
set_option linter.unusedSimpArgs false
namespace Go.TVF
open Go.IntKind(i64 u8)
open Go Go.Proofs
section
theorem KF (st:St) {a:Int} (c:UInt8) (hc:(c.toNat:Int)=a):(toBytes st (.list 1 .full 1 [.int .u8 a])).map TV.str=some (.str [c]):=by
 have:UInt8.ofNat a.toNat=c:=by rw[<-hc];simp
 rw[<-this];rfl
def NA (x:Cx) (i e:Nat):Nd:=Jo x.s i e (if e<x.s.length/\by_ x.s e=x.a then [.mk 11 [] [x.s.getD e 0] [] []]else [])
def Ke (x:Cx) (e:Nat):Nat:=if e<x.s.length/\by_ x.s e=x.a then e+1 else e
def Wr (c:B8):List TV:=[.int .i64 2,.str [],.str c,.nilSlice,.str []]
def mrkC (c:UInt8):List TV:=[.int .i64 11,.str [],.str [c],.nilSlice,.str []]
theorem NdC.leaf (k:Int) (t:B8):NdC (.mk k [] t [] []) [.int .i64 k,.str [],.str t,.nilSlice,.str []]:=by
 unfold NdC;exact⟨_,[],rfl,.inl ⟨rfl,rfl,rfl⟩,Bm.nil⟩
theorem NdC.ent1 {s:B8} {i e:Nat} {v:TV} (h:Rd 5 v 1 (Wr (slc s i e))):NdC (Jo s i e []) [.int .i64 5,.str [],.str [],v,.str []]:=by
 unfold Jo NdC
 exact⟨v,_,rfl,h,Bm.one (NdC.leaf 2 _)⟩
theorem NdC.ent2 {s:B8} {i e:Nat} {c:UInt8} {v:TV} (h:Rd 5 v 2 (Wr (slc s i e)++mrkC c)):NdC (Jo s i e [.mk 11 [] [c] [] []]) [.int .i64 5,.str [],.str [],v,.str []]:=by
 unfold Jo NdC
 exact⟨v,_,rfl,h,Bm.append (Bm.one (NdC.leaf 2 _)) (Bm.one (NdC.leaf 11 _))⟩
theorem Ir {S:Nat->Prop} {T sz bytes:Nat} {st0 st:St} {v:TV} {n k:Nat} {xs ys:List TV} {K:TV->St->Prop} (e:StX S st0 st) (h:Own st0.nt sz st v n xs) (hby:(n+k)*bytes<=140737488355328) (hys:k=0->ys=[])
  (hK:∀v' st',StX S st0 st'->st'.box=st.box->st'.nb=st.nb->Own st0.nt sz st' v' (n+k) (xs++ys)->K v' st'):BM T sz bytes v k ys st K:=by
 have ef:∀st' T,StX S st0 st'->StX S st0 (st'.fresh T):=fun st' T h=>h.trans (StX.of ((Ap.refl st').fresh _))
 rcases h with⟨rfl,rfl,rfl⟩ | ⟨tip,rfl,ht⟩
 ·simp only[BM]
  cases k with
  | zero=>rw[hys rfl]at hK;exact hK _ _ e rfl rfl (.nil _ _ _)
  | succ m=>
   simp only[As]
   refine⟨by simpa using hby,hK _ _ (ef _ _ e) rfl rfl ?_⟩
   simp only[List.nil_append,Nat.zero_add]
   exact Own.fresh _ _ e.nt
 ·simp only[BM,Nat.beq_refl]
  refine⟨hby,?_⟩
  rcases ht with rfl | ⟨id,rfl,h1,h2,h3⟩
  ·cases k with
   | zero=>rw[hys rfl]at hK;simp only[List.append_nil]at hK;exact hK _ _ e rfl rfl (Own.full _ _ _ _ _)
   | succ m=>exact hK _ _ (ef _ _ e) rfl rfl (Own.fresh _ _ e.nt)
  ·have er:StX S st0 (st.retire id):=⟨e.nb,e.box,e.nt,fun i hi=>by simp only[St.retire];rw[if_neg (by omega)];exact e.live i hi,e.ty,e.bt⟩
   exact⟨h3,hK _ _ (ef _ _ er) rfl rfl (Own.fresh (st:=st.retire id) _ _ e.nt)⟩
theorem PSD.same {p m:Nat} {x:Cx} {hd ty:Bool} {l2 l3 l4:Int} {ns:List B8} {i n w o e:Int} {st st':St} (h:PSD p m x hd ty l2 l3 l4 ns i n w o e st) (hb:st'.box=st.box) (hn:st'.nb=st.nb):
  PSD p m x hd ty l2 l3 l4 ns i n w o e st':=by
 obtain⟨es,h1,h2⟩:=h.mp
 exact⟨h.ne,by rw[hn];exact h.lp,by rw[hn];exact h.lm,by rw[hb];exact h.bx,es,by rw[hb];exact h1,h2⟩
theorem M8 {v:TV} (h:At v=true):List.all [v] At=true:=by simp[h]
def Tx (x:Cx) (hd:Bool) (i:Nat) (v1:Int) (ns:List B8):Except (Nat×Int) (Nat×Int×List B8):=
 match BZ x.a x.q x.s i with
 | .error e=> .error e
 | .ok e=>if (if hd then 1024 else 65536)<(txt x.q (slc x.s i e)).length then .error (i,10)else if hd/\txt x.q (slc x.s i e)∈ns then .error (i,8)
  else .ok (e,v1,if hd then txt x.q (slc x.s i e)::ns else ns)
theorem Qd (x:Cx) (hd:Bool) (i:Nat) (v:Int) (ns:List B8):Eb x hd i v ns=if hd=true then Tx x hd i v ns else match Fx x.dep x.nod 3 i v with
  | .error e=> .error e
  | .ok v1=>Tx x hd i v1 ns:=by
 unfold Eb Tx
 cases hd with
 | true=>simp only[if_true,bind,Except.bind];cases BZ x.a x.q x.s i<;>rfl
 | false=>
  simp only[Bool.false_eq_true,if_false,bind,Except.bind]
  cases Fx x.dep x.nod 3 i v with
  | error e=>rfl
  | ok v1=>simp only;cases BZ x.a x.q x.s i<;>rfl
section
variable {p m:Nat} {x:Cx} {hd ty:Bool} {l2 l3 l4:Int} {ns:List B8} {I v w o e:Int} {st:St}
theorem Vy {i:Nat} {header:Bool} {K:Int->B8->B8->TV->B8->Bool->St->Prop} (hI:I=(i:Int)) (hi:i<=x.s.length) (hl:x.s.length<=2000000) (hv0:0<=v) (hv:v<1000000000)
  (h:PSD p m x hd ty l2 l3 l4 ns I v w o e st)
  (h0:∀(k:Nat) v1 ns1 kv st',Eb x header i v ns= .ok (k,v1,ns1)->StX (PM p m) st st'->PSD p m x hd ty l2 l3 l4 ns1 (Ke x k:Nat) v1 w o e st'->NdC (NA x i k) [.int .i64 5,.str [],.str [],kv,.str []]->Rd 5 kv (if k<x.s.length/\by_ x.s k=x.a then 2 else 1) (if k<x.s.length/\by_ x.s k=x.a then Wr (slc x.s i k)++mrkC (x.s.getD k 0)else Wr (slc x.s i k))->K 5 [] [] kv [] true st')
  (h1:∀(o':Nat) e' (k v1:Int) kv st',Eb x header i v ns= .error (o',e')->StX (PM p m) st st'->PSD p m x hd ty l2 l3 l4 ns k v1 w o' e' st'->At kv=true->K 5 [] [] kv [] false st'):
  CallT PR AO [.box p 0,.bool header] [.agg [.int .i64,.str,.str,.tv,.str],.one .bool] st K:=by
 subst hI
 have hb:=h.bx
 have tn:∀k:Nat,Int.toNat (k:Int)=k:=fun k=>rfl
 have w1:∀k:Nat,k<=x.s.length->i64.wrap ((k:Int)+1)=((k+1:Nat):Int):=fun k hk=>by rw[Ai _ (by omega) (by omega)];omega
 --behind the checks
 have fin:∀(k:Nat) (v1:Int) ns1,i<=k->k<=x.s.length->Eb x header i v ns= .ok (k,v1,ns1)->
   ∀(v4:TV) (st8:St),StX (PM p m) st st8->PSD p m x hd ty l2 l3 l4 ns1 k v1 w o e st8->Own st.nt 5 st8 v4 1 (Wr (slc x.s i k))->
    (k<x.s.length->by_ x.s k=x.a->∀st9,StX (·=p) st8 st9->st9.box p= .cells ((pcl x hd ty l2 l3 l4 m k v1 w o e).set 10 (.int .i64 (i64.wrap ((k:Int)+1))))->BM 79 5 80 v4 1 (mrkC (x.s.getD k 0)) st9 fun v5 st10=>need (List.all [v5] At) (need (List.all [.int .i64 5,.str [],.str [],v5,.str []] At) (K 5 [] [] v5 [] true st10)))/\
    (¬(k<x.s.length/\by_ x.s k=x.a)->K 5 [] [] v4 [] true st8):=by
  intro k v1 ns1 hik hk he v4 st8 e8 k8 o8
  refine⟨fun c1 c2 st9 e9 b9=>?_,fun c=>?_⟩
  ·rw[w1 k (by omega)]at b9
   have hen:NA x i k=Jo x.s i k [.mk 11 [] [x.s.getD k 0] [] []]:=by unfold NA;rw[if_pos ⟨c1,c2⟩]
   refine Ir (e8.trans e9.pm) (o8.extXD e9) (by omega) (fun h=>by cases h) fun v5 st10 e10 hbx hnb o10=>Ab (M8 o10.rd.one) (Ab (D1 o10.rd.one) ?_)
   refine h0 k v1 ns1 v5 st10 he e10 ?_ (by rw[hen];exact NdC.ent2 o10.rd) (by rw[if_pos ⟨c1,c2⟩,if_pos ⟨c1,c2⟩];exact o10.rd)
   have:Ke x k=k+1:=by unfold Ke;rw[if_pos ⟨c1,c2⟩]
   rw[this]
   exact(k8.of e9 b9).same hbx hnb
  ·have hen:NA x i k=Jo x.s i k []:=by unfold NA;rw[if_neg c]
   refine h0 k v1 ns1 v4 st8 he e8 ?_ (by rw[hen];exact NdC.ent1 o8.rd) (by rw[if_neg c,if_neg c];exact o8.rd)
   have:Ke x k=k:=by unfold Ke;rw[if_neg c]
   rw[this]
   exact k8
 refine Hv p header st K (Ar (fun hh=>?_) fun hh=>?_)
 case' refine_1=>
  have hh:header=false:=by simpa using hh
  rw[Qd,if_neg (by rw[hh];decide)]at h0 h1 fin
  refine OK rfl hv0 hv h (fun v' st1 hb1 e1 k1=>?_) fun o' e' st1 hb1 e1 k1=>?_
  case' refine_2=>
   rw[hb1]at h1
   exact Ar (fun _=>h1 _ _ _ _ _ st1 rfl e1 k1 rfl) fun h=>by cases h
  rw[hb1]at h0 h1 fin
  refine Ar (fun h=>by cases h) fun _=>?_
  simp only at h0 h1 fin
 case' refine_2=>
  have hh:header=true:=by simpa using hh
  rw[Qd,if_pos hh]at h0 h1 fin
  obtain⟨v',hv'⟩:∃v',v'=v:=⟨_,rfl⟩
  obtain⟨st1,hst1⟩:∃st1,st1=st:=⟨_,rfl⟩
  have e1:StX (PM p m) st st1:=hst1▸StX.refl _ _
  have k1:PSD p m x hd ty l2 l3 l4 ns i v' w o e st1:=by rw[hst1,hv'];exact h
  rw[<-hst1]
  rw[<-hv']at h0 h1 fin
 all_goals
  have b1:=k1.bx
  repeat' first
   | (guard_target=~need _ _;refine Ab rfl ?_)
   | (guard_target=~Ae (Ac _ _ _ _) _;refine Ad (ldB b1 rfl) ?_)
   | (guard_target=~Af (.int _) _ _;refine Aq ?_)
   | (guard_target=~Af .str _ _;refine Al ?_)
   | (guard_target=~Af .bool _ _;refine Ao ?_)
  refine WJ rfl hi hl k1 (fun k st2 hc e2 k2=>?_) fun o' e' k st2 hc e2 k2=>?_
  case' refine_2=>
   unfold Tx at h1
   rw[hc]at h1
   exact Ar (fun _=>h1 _ _ _ _ _ st2 rfl (e1.trans e2) k2 rfl) fun h=>by cases h
  refine Ar (fun h=>by cases h) fun _=>?_
  have hle:=Ch hi hc
  have hW:=Qt hi hc
  have b2:=k2.bx
  unfold Tx at h0 h1 fin
  rw[hc]at h0 h1 fin
  simp only at h0 h1 fin
  repeat' first
   | (guard_target=~need _ _;refine Ab rfl ?_)
   | (guard_target=~Ae (Ac _ _ _ _) _;refine Ad (ldB b2 rfl) ?_)
   | (guard_target=~Af (.int _) _ _;refine Aq ?_)
   | (guard_target=~Af .str _ _;refine Al ?_)
   | (guard_target=~Af .bool _ _;refine Ao ?_)
  refine⟨⟨by omega,by omega,by omega⟩,Ad (x:= .agg [.int .u8 x.a,.int .u8 x.q,.bool hd,.bool ty]) (by rw[ldsB b2 rfl rfl];rfl) ?_⟩
  rw[tn,tn]
  refine MC hW (by show(slc x.s i k).length<=_;rw[JN hle.1 hle.2];omega) fun st3 e3=>?_
  have k3:=k2.keep (StX.of (S:=fun _=>False) e3) (fun h=>h) (fun h=>h)
  have e4:=(e1.trans e2).trans (StX.of e3)
  refine⟨fun mo p' hd' fr c t kd ld tx kv tl st'=>mo=(if header then 1024 else 65536)/\TV.box p 0=p'/\header=hd'/\(i:Int)=fr/\slc x.s i k=c/\txt x.q (slc x.s i k)=t/\5=kd/\[]=ld/\[]=tx/\TV.nilSlice=kv/\[]=tl/\st3=st',
   Ar (fun h=>⟨by rw[h];rfl,rfl,rfl,rfl,rfl,rfl,rfl,rfl,rfl,rfl,rfl,rfl⟩) (fun h=>⟨by rw[h];rfl,rfl,rfl,rfl,rfl,rfl,rfl,rfl,rfl,rfl,rfl,rfl⟩),?_⟩
  rintro _ _ _ _ _ _ _ _ _ _ _ _ ⟨rfl,rfl,rfl,rfl,rfl,rfl,rfl,rfl,rfl,rfl,rfl,rfl⟩
  refine Aa (fun g=>?_) fun g=>?_
  ·rw[if_pos (by cases header<;>simp at g⊢<;>omega)]at h1
   exact Cu k3 fun st4 e5 k4=>Ab rfl (h1 _ _ _ _ _ st4 rfl (e4.trans e5) k4 rfl)
  rw[if_neg (by cases header<;>simp at g⊢<;>omega)]at h0 h1 fin
  have b3:=k3.bx
  obtain⟨es,hm1,hm2⟩:=k3.mp
  refine Ar (fun g2=>?_) fun g2=>?_
  case' refine_1=>
   repeat' first
    | (guard_target=~need _ _;refine Ab rfl ?_)
    | (guard_target=~Ae (Ac _ _ _ _) _;refine Ad (ldB b3 rfl) ?_)
    | (guard_target=~Af (.int _) _ _;refine Aq ?_)
    | (guard_target=~Af .str _ _;refine Al ?_)
    | (guard_target=~Af .bool _ _;refine Ao ?_)
   refine Ad (x:=es) (by simp only[H4,hm1]) ?_
   rw[hm2]
   by_cases hin:txt x.q (slc x.s i k)∈ns
   case' pos=>
    rw[if_pos hin]
    rw[if_pos ⟨g2,hin⟩]at h1
    refine Ao (Ar (fun _=>?_) fun h=>by cases h)
    exact Cu k3 fun st4 e5 k4=>Ab rfl (h1 _ _ _ _ _ st4 rfl (e4.trans e5) k4 rfl)
   rw[if_neg hin]
   rw[if_neg (by rintro⟨_,h⟩;exact hin h),if_pos g2]at h0 fin
   refine Ao (Ar (fun h=>by cases h) fun _=>?_)
   repeat' first
    | (guard_target=~need _ _;refine Ab rfl ?_)
    | (guard_target=~Ae (Ac _ _ _ _) _;refine Ad (ldB b3 rfl) ?_)
    | (guard_target=~Af (.int _) _ _;refine Aq ?_)
    | (guard_target=~Af .str _ _;refine Al ?_)
    | (guard_target=~Af .bool _ _;refine Ao ?_)
   refine⟨es,hm1,?_⟩
   obtain⟨st7,hst7⟩:∃st7,st7=st3.put m (.map (Iw (txt x.q (slc x.s i k)) (.bool true) es)):=⟨_,rfl⟩
   rw[<-hst7]
   have e7:StX (PM p m) st st7:=by rw[hst7];exact e4.trans (StX.put (.inr rfl) _)
   have k7:PSD p m x hd ty l2 l3 l4 (txt x.q (slc x.s i k)::ns) k v' w o e st7:=by
    refine⟨k3.ne,by rw[hst7];exact k3.lp,by rw[hst7];exact k3.lm,?_,_,?_,hm2.add _⟩
    ·rw[hst7];simp only[St.put];rw[if_neg k3.ne];exact k3.bx
    ·rw[hst7,Eh]
  case' refine_2=>
   rw[if_neg (by rintro⟨h,_⟩;rw[g2]at h;cases h),if_neg (by rw[g2];decide)]at h0 fin
   obtain⟨st7,hst7⟩:∃st7,st7=st3:=⟨_,rfl⟩
   rw[<-hst7]
   have e7:StX (PM p m) st st7:=by rw[hst7];exact e4
   have k7:PSD p m x hd ty l2 l3 l4 ns k v' w o e st7:=by rw[hst7];exact k3
  all_goals
   refine Ir e7 (Own.nil _ _ _) (by omega) (fun h=>by cases h) fun v4 st8 e8 hbx hnb o8=>Ab (M8 o8.rd.one) ?_
   have k8:=k7.same hbx hnb
   have b8:=k8.bx
   obtain⟨f1,f2⟩:=fin k v' _ hle.1 hle.2 rfl v4 st8 e8 k8 o8
   repeat' first
    | (guard_target=~need _ _;refine Ab rfl ?_)
    | (guard_target=~Ae (Ac _ _ _ _) _;refine Ad (ldB b8 rfl) ?_)
    | (guard_target=~Af (.int _) _ _;refine Aq ?_)
    | (guard_target=~Af .str _ _;refine Al ?_)
    | (guard_target=~Af .bool _ _;refine Ao ?_)
   refine Aa (fun q1=>?_) fun q1=>?_
   ·repeat' first
     | (guard_target=~need _ _;refine Ab rfl ?_)
     | (guard_target=~Ae (Ac _ _ _ _) _;refine Ad (ldB b8 rfl) ?_)
     | (guard_target=~Af (.int _) _ _;refine Aq ?_)
     | (guard_target=~Af .str _ _;refine Al ?_)
     | (guard_target=~Af .bool _ _;refine Ao ?_)
    refine⟨⟨by omega,by omega⟩,?_⟩
    repeat' first
     | (guard_target=~need _ _;refine Ab rfl ?_)
     | (guard_target=~Ae (Ac _ _ _ _) _;refine Ad (ldB b8 rfl) ?_)
     | (guard_target=~Af (.int _) _ _;refine Aq ?_)
     | (guard_target=~Af .str _ _;refine Al ?_)
     | (guard_target=~Af .bool _ _;refine Ao ?_)
    rw[tn]
    refine Aa (fun q2=>?_) fun q2=>?_
    ·repeat' first
      | (guard_target=~need _ _;refine Ab rfl ?_)
      | (guard_target=~Ae (Ac _ _ _ _) _;refine Ad (ldB b8 rfl) ?_)
      | (guard_target=~Af (.int _) _ _;refine Aq ?_)
      | (guard_target=~Af .str _ _;refine Al ?_)
      | (guard_target=~Af .bool _ _;refine Ao ?_)
     refine EJ b8 rfl fun st9 e9 b9=>?_
     repeat' first
      | (guard_target=~need _ _;refine Ab rfl ?_)
      | (guard_target=~Ae (Ac _ _ _ _) _;refine Ad (ldB b9 rfl) ?_)
      | (guard_target=~Af (.int _) _ _;refine Aq ?_)
      | (guard_target=~Af .str _ _;refine Al ?_)
      | (guard_target=~Af .bool _ _;refine Ao ?_)
     refine Ad (KF _ (x.s.getD k 0) q2) ?_
     exact f1 (by omega) q2 st9 e9 b9
    ·exact Ab (D1 o8.rd.one) (f2 fun h=>q2 h.2)
   ·exact Ab (D1 o8.rd.one) (f2 fun h=>absurd h.1 (by omega))
end
end
section
theorem OI (x:Cx) (num:Bool) (wid:Int) (hd:Bool) (n:Nat) (acc:List Nd) (i:Nat) (v:Int) (ns:List B8):B2 x num wid hd (n+1) acc i v ns=
  if num=true/\wid<=(acc.length:Int)then .error (i,10)else match Eb x hd i v ns with
   | .error e=> .error e
   | .ok (e,v1,ns1)=>if e<x.s.length/\by_ x.s e=x.a then B2 x num wid hd n (acc++[NA x i e]) (e+1) v1 ns1 else match Db x.s e with
    | .error e=> .error e
    | .ok _=> .ok (e,v1,ns1,acc++[NA x i e]):=by
 simp only[B2]
 by_cases hw:num=true/\wid<=(acc.length:Int)
 ·rw[if_pos hw,if_pos hw]
 rw[if_neg hw,if_neg hw]
 simp only[bind,Except.bind]
 rcases Eb x hd i v ns with e | ⟨e,v1,ns1⟩
 ·rfl
 simp only
 by_cases hm:e<x.s.length/\by_ x.s e=x.a
 ·rw[if_pos hm,if_pos hm]
  unfold NA;rw[if_pos hm]
 ·rw[if_neg hm,if_neg hm]
  unfold NA;rw[if_neg hm]
  cases Db x.s e<;>rfl
theorem UF {x:Cx} {hd:Bool} {i:Nat} {v:Int} {ns:List B8} {e:Nat} {v1:Int} {ns1:List B8} (hi:i<=x.s.length) (h:Eb x hd i v ns= .ok (e,v1,ns1)):i<=e/\e<=x.s.length/\v<=v1/\v1<=v+1:=by
 cases hd with
 | true=>have:=Lc h;have h2:=Ch hi this.2.1;omega
 | false=>have:=Kd h;have h2:=Ch hi this.2.2.2.2.1;omega
theorem StX.out {p m r:Nat} {a b c:St} (h:StX (PM p m) a b) (k:StX (PM3 p m r) b c) (hr:a.nb<=r):StX (PM p m) a c:=
 ⟨Nat.le_trans h.nb k.nb,fun i hi hs=>(k.box i (Nat.lt_of_lt_of_le hi h.nb) (by rintro(g | g | g);exact hs (.inl g);exact hs (.inr g);omega)).trans (h.box i hi hs),Nat.le_trans h.nt k.nt,fun i hi=>(k.live i (Nat.lt_of_lt_of_le hi h.nt)).trans (h.live i hi),fun i hi=>(k.ty i (Nat.lt_of_lt_of_le hi h.nt)).trans (h.ty i hi),fun i hi=>(k.bt i (Nat.lt_of_lt_of_le hi h.nb)).trans (h.bt i hi)⟩
theorem StX.r3 {p m r:Nat} {a b:St} (h:StX (·=r) a b):StX (PM3 p m r) a b:=h.mono fun _ g=> .inr (.inr g)
theorem stB_A {st:St} {b off:Nat} {xs:List TV} {l:List TV} {k:St->Prop} (hb:st.box b= .cells l) (hl:off+xs.length<=l.length) (hk:∀st',StX (·=b) st st'->st'.box b= .cells (setAll l off xs)->k st'):stB st (.box b off) xs k:=
 ⟨l,hb,hl,hk _ (StX.put (S:=(·=b)) rfl _) (Eh _ _ _)⟩
theorem Nk {st:St} {b:Nat} {c0 c1 c2 c3 c4:TV} (hb:st.box b= .cells [c0,c1,c2,c3,c4]):(Ah st [] (.t (.box b 0)) 0 5).map TV.agg=some (.agg [c0,c1,c2,c3,c4]):=by
 rw[show Ah st [] (.t (.box b 0)) 0 5=some [c0,c1,c2,c3,c4]from ldsB hb rfl rfl];rfl
theorem Ia {k:Int} {l t tl:B8} {u:TV} {f:Int->B8->B8->TV->B8->Prop} (h:f k l t u tl):AK [.int .i64,.str,.str,.tv,.str] (.agg [.int .i64 k,.str l,.str t,u,.str tl]) f:=h
theorem X0 {p H:Prop} [Decidable p] {A X:Prop} (t:H->X) (h1:p->(H->X)->A) (h2:¬p->H):BIf (decide p) A X:=Aa (fun q=>h1 q t) fun q=>t (h2 q)
section
variable {p m:Nat} {x:Cx} {hd ty:Bool} {l2 l3 l4:Int} {ns:List B8} {I v w o e:Int} {st:St}
theorem SZ {i:Nat} {N:Int} {K:Int->B8->B8->TV->B8->Bool->St->Prop} (hI:I=(i:Int)) (hi:i<=x.s.length) (hl:x.s.length<=2000000) (hv0:0<=v) (hv:v<=100000000) (hN:0<=N)
  (h:PSD p m x hd ty l2 l3 l4 ns I v w o e st)
  (h0:∀(k:Nat) v1 ns1 r w1 kv tl st',F3 x (decide (N≠0)) w (decide (N=0)&&hd) i v ns= .ok (k,v1,ns1,r,w1)->StX (PM p m) st st'->PSD p m x hd ty l2 l3 l4 ns1 k v1 w1 o e st'->NdC r [.int .i64 8,.str [],.str [],kv,.str tl]->K 8 [] [] kv tl true st')
  (h1:∀(o':Nat) e' ns1 (k v1 w1:Int) kv tl st',F3 x (decide (N≠0)) w (decide (N=0)&&hd) i v ns= .error (o',e')->StX (PM p m) st st'->PSD p m x hd ty l2 l3 l4 ns1 k v1 w1 o' e' st'->At kv=true->K 8 [] [] kv tl false st'):
  CallT PR B9 [.box p 0,.int .i64 N] [.agg [.int .i64,.str,.str,.tv,.str],.one .bool] st K:=by
 subst hI
 have hb:=h.bx
 have tn:∀k:Nat,Int.toNat (k:Int)=k:=fun k=>rfl
 obtain⟨header,hhd⟩:∃b,b=(decide (N=0)&&hd):=⟨_,rfl⟩
 rw[<-hhd]at h0 h1
 --the record's own box
 obtain⟨r,hr⟩:∃r,r=st.nb:=⟨_,rfl⟩
 have hrp:p≠r:=by have:=h.lp;omega
 have hrm:m≠r:=by have:=h.lm;omega
 have start:∀st1,StX (·=r) (st.push (.cells [.int .i64 0,.str [],.str [],.nilSlice,.str []]) (some 79)) st1->st1.box r= .cells [.int .i64 8,.str [],.str [],.nilSlice,.str []]->
   StX (PM p m) st st1/\PSD p m x hd ty l2 l3 l4 ns i v w o e st1/\r<st1.nb:=fun st1 e1 b1=>by
  have e0:StX (PM3 p m r) (st.push (.cells [.int .i64 0,.str [],.str [],.nilSlice,.str []]) (some 79)) st1:=e1.r3
  have ep:StX (PM p m) st (st.push (.cells [.int .i64 0,.str [],.str [],.nilSlice,.str []]) (some 79)):=StX.of ((Ap.refl st).push _ _)
  refine⟨ep.out e0 (by omega),(h.keep (StX.of (S:=fun _=>False) ((Ap.refl st).push _ _)) (fun h=>h) fun h=>h).other e1 hrp hrm,?_⟩
  have:=e1.nb
  simp only[St.push]at this
  omega
 have rk:∀sta stb L,StX (PM p m) sta stb->r<sta.nb->sta.box r= .cells L->stb.box r= .cells L:=fun sta stb L e hlt h=>by
  rw[e.box r hlt (fun h=>h.elim (fun h=>hrp h.symm) fun h=>hrm h.symm)];exact h
 obtain⟨num,hnum⟩:∃b,b=decide (N≠0):=⟨_,rfl⟩
 have hnum1:num=true↔N≠0:=by rw[hnum];simp
 rw[<-hnum]at h0 h1
 generalize hD:F3 x num w header i v ns=D0 at h0 h1
 rw[FH]at hD
 --the loop's start:behind the first value
 refine GM p N st K (Aa (fun hn=>?_) fun hn=>?_)
 case' refine_1=>
  repeat' first
   | (guard_target=~need _ _;refine Ab rfl ?_)
   | (guard_target=~Ae (Ac _ _ _ _) _;refine Ad (ldB hb rfl) ?_)
   | (guard_target=~Af (.int _) _ _;refine Aq ?_)
   | (guard_target=~Af .str _ _;refine Al ?_)
   | (guard_target=~Af .bool _ _;refine Ao ?_)
  rw[<-hr]
  refine stB_A (b:=r) (by rw[hr];exact GG _ _ _) (by simp) fun st1 e1 b1=>?_
  have b1:st1.box r= .cells [.int .i64 8,.str [],.str [],.nilSlice,.str []]:=b1
  obtain⟨f1,k1,lr1⟩:=start st1 e1 b1
  refine Ar (fun hh=>?_) fun hh=>?_
 case' refine_2=>
  rw[<-hr]
  refine stB_A (b:=r) (by rw[hr];exact GG _ _ _) (by simp) fun st1 e1 b1=>?_
  have b1:st1.box r= .cells [.int .i64 8,.str [],.str [],.nilSlice,.str []]:=b1
  obtain⟨f1,k1,lr1⟩:=start st1 e1 b1
 case' refine_1.refine_1=>
  have hhd':header=hd:=by rw[hhd,hn];simp
  have hhf:header=false:=by rw[hhd'];simpa using hh
 case' refine_2=>
  have hhf:header=false:=by rw[hhd];simp[hn]
  have hhd':header=false:=hhf
 case' refine_1.refine_2=>
  have hhd':header=hd:=by rw[hhd,hn];simp
  have hht:header=true:=by rw[hhd'];simpa using hh
  rw[if_pos hht]at hD
  have hv1:v<=v/\v<=v+1:=by omega
  have f2:=f1
  have k2:=k1
  have lr2:=lr1
  have b2:=b1
 case' refine_1.refine_1 | refine_2=>
  rw[if_neg (by rw[hhf];decide)]at hD
  refine OK rfl hv0 (by omega) k1 (fun v' st2 hb1 e2 k2=>?_) fun o' e' st2 hb1 e2 k2=>?_
 case' refine_1.refine_1.refine_2 | refine_2.refine_2=>
  rw[hb1]at hD
  refine Ar (fun _=>?_) fun h=>by cases h
  have b2:=rk _ _ _ e2 lr1 b1
  refine Ad (Nk b2) (Ia ?_)
  exact Ab (D1 (u:= .nilSlice) rfl) (h1 _ _ _ _ _ _ .nilSlice [] st2 hD.symm (f1.trans e2) k2 rfl)
 case' refine_1.refine_1.refine_1 | refine_2.refine_1=>
  rw[hb1]at hD
  simp only at hD
  refine Ar (fun h=>by cases h) fun _=>?_
  have b2:=rk _ _ _ e2 lr1 b1
  have hv1:v<=v'/\v'<=v+1:=by have:=UU hb1;omega
  have f2:=f1.trans e2
  have lr2:r<st2.nb:=Nat.lt_of_lt_of_le lr1 e2.nb
 all_goals
  refine⟨fun p' N' hd' r' st'=>TV.box p 0=p'/\N=N'/\header=hd'/\TV.box r 0=r'/\∃(j n:Nat) (acc:List Nd) (v1:Int) (ns1:List B8) (kv:TV) (xs:List TV),StX (PM p m) st st'/\r<st'.nb/\PSD p m x hd ty l2 l3 l4 ns1 j v1 w o e st'/\
    st'.box r= .cells [.int .i64 8,.str [],.str [],kv,.str []]/\Own st.nt 5 st' kv acc.length xs/\Bm acc xs/\j<=x.s.length/\x.s.length<j+n/\acc.length<=j/\0<=v1/\v1<=v+1+j/\HZ x.s num w (B2 x num w header n acc j v1 ns1)=D0,
   fun _ _ _ _ st'=>(x.s.length-LF st' p 10).toNat,⟨rfl,rfl,hhd',rfl,i,x.s.length+1,[],_,ns,.nilSlice,[],f2,lr2,k2,b2,Own.nil _ _ _,Bm.nil,hi,by omega,by simp,by omega,by omega,hD⟩,?_⟩
  rintro _ _ _ _ st3 ⟨rfl,rfl,rfl,rfl,j,n,acc,v1,ns1,kv,xs,f3,lr3,k3,b3,o3,hx,hj,hjn,hac,hv3,hv4,hE⟩
  cases n with
  | zero=>omega
  | succ n=>
  rw[OI]at hE
  have bp3:=k3.bx
  refine X0 (H:=¬(num=true/\w<=(acc.length:Int))) (fun hw=>?_) (fun q t=>?_) (fun q=>by rintro⟨h,_⟩;have:=hnum1.1 h;omega)
  ·rw[if_neg hw]at hE
   refine Vy rfl hj hl (by omega) (by omega) k3 (fun k v2 ns2 v4 st4 he e4 k4 hc4 hr4=>?_) fun o' e' k' v' v4 st4 he e4 k4 ho4=>?_
   ·rw[he]at hE
    simp only at hE
    have hle:=UF hj he
    refine Ab (D1 hr4.one) (Ar (fun h=>by cases h) fun _=>?_)
    have b4:=rk _ _ _ e4 lr3 b3
    repeat' first
     | (guard_target=~need _ _;refine Ab rfl ?_)
     | (guard_target=~Ae (Ac _ _ _ _) _;refine Ad (ldB b4 rfl) ?_)
     | (guard_target=~Af (.int _) _ _;refine Aq ?_)
     | (guard_target=~Af .str _ _;refine Al ?_)
     | (guard_target=~Af .bool _ _;refine Ao ?_)
    refine Ab o3.rd.isSl ?_
    repeat' first
     | (guard_target=~need _ _;refine Ab rfl ?_)
     | (guard_target=~Ae (Ac _ _ _ _) _;refine Ad (ldB b4 rfl) ?_)
     | (guard_target=~Af (.int _) _ _;refine Aq ?_)
     | (guard_target=~Af .str _ _;refine Al ?_)
     | (guard_target=~Af .bool _ _;refine Ao ?_)
    refine Ab (D1 hr4.one) ⟨rfl,?_⟩
    refine Ir (f3.trans e4) (o3.extXD e4) (by omega) (fun h=>by cases h) fun v5 st5 e5 hbx hnb o5=>?_
    have b5:st5.box r= .cells [.int .i64 8,.str [],.str [],kv,.str []]:=by rw[hbx];exact b4
    refine EJ b5 rfl fun st6 e6 b6=>?_
    have k6:=(k4.same hbx hnb).other e6 hrp hrm
    have f6:StX (PM p m) st st6:=e5.out e6.r3 (by omega)
    have lr6:r<st6.nb:=by have h1:=e4.nb;have h2:=e6.nb;omega
    have hx6:=hx.append (Bm.one hc4)
    have o6:=o5.extXD e6
    have hlen:(acc++[NA x j k]).length=acc.length+1:=by simp
    refine Ab hr4.isSl ?_
    rw[hr4.lenS]
    by_cases hmk:k<x.s.length/\by_ x.s k=x.a
    ·rw[if_pos hmk]at hE
     rw[if_pos hmk]
     refine Aa (fun h=>absurd h (by decide)) fun _=>?_
     have hat:Ke x k=k+1:=by unfold Ke;rw[if_pos hmk]
     rw[hat]at k6
     refine⟨⟨rfl,rfl,rfl,rfl,k+1,n,_,v2,ns2,v5,_,f6,lr6,k6,b6,by rw[hlen];exact o6,hx6,by omega,by omega,by omega,by omega,by omega,hE⟩,?_⟩
     dsimp only
     rw[Di k6.bx rfl,Di bp3 rfl]
     omega
    ·rw[if_neg hmk]at hE
     rw[if_neg hmk]
     refine Aa (fun _=>?_) fun h=>absurd rfl h
     have hat:Ke x k=k:=by unfold Ke;rw[if_neg hmk]
     rw[hat]at k6
     have bp6:=k6.bx
     repeat' first
      | (guard_target=~need _ _;refine Ab rfl ?_)
      | (guard_target=~Ae (Ac _ _ _ _) _;refine Ad (ldB bp6 rfl) ?_)
      | (guard_target=~Af (.int _) _ _;refine Aq ?_)
      | (guard_target=~Af .str _ _;refine Al ?_)
      | (guard_target=~Af .bool _ _;refine Ao ?_)
     refine RA rfl hle.2.1 hl k6 hrp hrm lr6 b6 (fun n7 st7 hle7 e7 k7 b7=>?_) fun o' e' k' st7 hle7 e7 k7 b7=>?_
     ·rw[hle7]at hE
      simp only[HZ,hle7]at hE
      rw[hlen]at hE
      have f7:=f6.out e7 (by omega)
      have lr7:r<st7.nb:=Nat.lt_of_lt_of_le lr6 e7.nb
      have o7:=o6.extXD e7
      have bp7:=k7.bx
      have hnd:NdC (.mk 8 [] [] (acc++[NA x j k]) (slc x.s k (k+n7))) [.int .i64 8,.str [],.str [],v5,.str (slc x.s k (k+n7))]:=by
       unfold NdC;exact⟨v5,_,rfl,by rw[hlen];exact o7.rd,hx6⟩
      refine Ar (fun h=>by cases h) fun _=>Aa (fun q0=>?_) fun q0=>?_
      ·have hn0:num=false:=by cases hb:num with | true=>exact absurd q0 (hnum1.1 hb) | false=>rfl
       rw[hn0,if_neg (by simp)]at hE
       repeat' first
        | (guard_target=~need _ _;refine Ab rfl ?_)
        | (guard_target=~Ae (Ac _ _ _ _) _;refine Ad (ldB b7 rfl) ?_)
        | (guard_target=~Af (.int _) _ _;refine Aq ?_)
        | (guard_target=~Af .str _ _;refine Al ?_)
        | (guard_target=~Af .bool _ _;refine Ao ?_)
       refine Ab o7.rd.isSl ?_
       rw[o7.rd.lenS]
       repeat' first
        | (guard_target=~need _ _;refine Ab rfl ?_)
        | (guard_target=~Ae (Ac _ _ _ _) _;refine Ad (ldB b7 rfl) ?_)
        | (guard_target=~Af (.int _) _ _;refine Aq ?_)
        | (guard_target=~Af .str _ _;refine Al ?_)
        | (guard_target=~Af .bool _ _;refine Ao ?_)
       refine EJ bp7 rfl fun st8 e8 bp8=>?_
       have b8:st8.box r= .cells [.int .i64 8,.str [],.str [],v5,.str (slc x.s k (k+n7))]:=by rw[e8.box r lr7 fun h=>hrp h.symm];exact b7
       have k8:=k7.of e8 bp8
       repeat' first
        | (guard_target=~need _ _;refine Ab rfl ?_)
        | (guard_target=~Ae (Ac _ _ _ _) _;refine Ad (ldB b8 rfl) ?_)
        | (guard_target=~Af (.int _) _ _;refine Aq ?_)
        | (guard_target=~Af .str _ _;refine Al ?_)
        | (guard_target=~Af .bool _ _;refine Ao ?_)
       refine Ab o7.rd.isSl ?_
       rw[o7.rd.lenS]
       repeat' first
        | (guard_target=~need _ _;refine Ab rfl ?_)
        | (guard_target=~Ae (Ac _ _ _ _) _;refine Ad (ldB bp8 rfl) ?_)
        | (guard_target=~Af (.int _) _ _;refine Aq ?_)
        | (guard_target=~Af .str _ _;refine Al ?_)
        | (guard_target=~Af .bool _ _;refine Ao ?_)
       refine Aa (fun h=>absurd h (by omega)) fun _=>?_
       refine Ad (Nk b8) (Ia ?_)
       refine Ab (D1 o7.rd.one) (h0 _ _ _ _ _ _ _ st8 hE.symm (f7.trans e8.pm) ?_ hnd)
       exact k8
      ·have hn1:num=true:=hnum1.2 q0
       rw[hn1,if_pos rfl]at hE
       repeat' first
        | (guard_target=~need _ _;refine Ab rfl ?_)
        | (guard_target=~Ae (Ac _ _ _ _) _;refine Ad (ldB b7 rfl) ?_)
        | (guard_target=~Af (.int _) _ _;refine Aq ?_)
        | (guard_target=~Af .str _ _;refine Al ?_)
        | (guard_target=~Af .bool _ _;refine Ao ?_)
       refine Ab o7.rd.isSl ?_
       rw[o7.rd.lenS]
       repeat' first
        | (guard_target=~need _ _;refine Ab rfl ?_)
        | (guard_target=~Ae (Ac _ _ _ _) _;refine Ad (ldB bp7 rfl) ?_)
        | (guard_target=~Af (.int _) _ _;refine Aq ?_)
        | (guard_target=~Af .str _ _;refine Al ?_)
        | (guard_target=~Af .bool _ _;refine Ao ?_)
       refine Aa (fun q1=>?_) fun q1=>?_
       ·rw[if_pos q1]at hE
        refine Ad (Nk b7) (Ia ?_)
        refine Cu k7 fun st8 e8 k8=>⟨?_,Ab (D1 o7.rd.one) (h1 _ _ _ _ _ _ _ _ st8 hE.symm (f7.trans e8) k8 o7.rd.one)⟩
        rw[ldsB (rk _ _ _ e8 lr7 b7) rfl rfl];rfl
       ·rw[if_neg q1]at hE
        refine Ad (Nk b7) (Ia ?_)
        exact Ab (D1 o7.rd.one) (h0 _ _ _ _ _ _ _ st7 hE.symm f7 k7 hnd)
     ·rw[hle7]at hE
      refine Ar (fun _=>?_) fun h=>by cases h
      refine Ad (Nk b7) (Ia ?_)
      exact Ab (D1 o6.rd.one) (h1 _ _ _ _ _ _ _ _ st7 hE.symm (f6.out e7 (by omega)) k7 o6.rd.one)
   ·rw[he]at hE
    refine Ab (D1 ho4) (Ar (fun _=>?_) fun h=>by cases h)
    have b4:=rk _ _ _ e4 lr3 b3
    refine Ad (Nk b4) (Ia ?_)
    exact Ab (D1 o3.rd.one) (h1 _ _ _ _ _ _ _ _ st4 hE.symm (f3.trans e4) k4 o3.rd.one)
  ·have hnm:num=true:=hnum1.2 (by omega)
   repeat' first
    | (guard_target=~need _ _;refine Ab rfl ?_)
    | (guard_target=~Ae (Ac _ _ _ _) _;refine Ad (ldB b3 rfl) ?_)
    | (guard_target=~Af (.int _) _ _;refine Aq ?_)
    | (guard_target=~Af .str _ _;refine Al ?_)
    | (guard_target=~Af .bool _ _;refine Ao ?_)
   refine Ab o3.rd.isSl ?_
   repeat' first
    | (guard_target=~need _ _;refine Ab rfl ?_)
    | (guard_target=~Ae (Ac _ _ _ _) _;refine Ad (ldB bp3 rfl) ?_)
    | (guard_target=~Af (.int _) _ _;refine Aq ?_)
    | (guard_target=~Af .str _ _;refine Al ?_)
    | (guard_target=~Af .bool _ _;refine Ao ?_)
   rw[o3.rd.lenS]
   refine Aa (fun q2=>?_) fun q2=>?_
   ·rw[if_pos ⟨hnm,q2⟩]at hE
    refine Ad (Nk b3) (Ia ?_)
    repeat' first
     | (guard_target=~need _ _;refine Ab rfl ?_)
     | (guard_target=~Ae (Ac _ _ _ _) _;refine Ad (ldB bp3 rfl) ?_)
     | (guard_target=~Af (.int _) _ _;refine Aq ?_)
     | (guard_target=~Af .str _ _;refine Al ?_)
     | (guard_target=~Af .bool _ _;refine Ao ?_)
    refine Cu k3 fun st4 e4 k4=>⟨?_,Ab (D1 o3.rd.one) (h1 _ _ _ _ _ _ _ _ st4 hE.symm (f3.trans e4) k4 o3.rd.one)⟩
    rw[ldsB (rk _ _ _ e4 lr3 b3) rfl rfl];rfl
   ·exact t fun h=>q2 h.2
end
end
theorem Rt {x:Cx} {num hd:Bool} {wid:Int} {i:Nat} {v:Int} {ns:List B8} {i':Nat} {v':Int} {ns':List B8} {r:Nd} {wid':Int} (hi:i<=x.s.length)
  (h:F3 x num wid hd i v ns= .ok (i',v',ns',r,wid')):∃ks e m,r= .mk 8 [] [] ks (slc x.s e (e+m))/\i'=e+m/\Hj x.a x.q x.s i ks e m/\v'=v+(if hd then 0 else 1+(ks.length:Int))/\
   (∀k∈ks,(txt x.q (AM k)).length<=65536)/\(ks.length:Int)=wid'/\(num=true->wid'=wid)/\(hd=false->3<=x.dep/\v'<=x.nod/\ns'=ns):=by
 obtain⟨v1,h1,h⟩:=GX h
 obtain⟨e,v2,ns2,ks,m',h2,h3,hw,hp⟩:=L6 h
 simp only[Prod.mk.injEq]at hp
 obtain⟨rfl,rfl,rfl,rfl,rfl⟩:=hp
 obtain⟨ks',m,k1,k2,k3,k4,k5,k6⟩:=WB _ hi h2
 rw[List.nil_append]at k1
 subst k1
 have hl:=k2.le hi
 rw[hl.2.2.2.2]at h3
 cases h3
 refine⟨_,e,_,rfl,rfl,k2,?_,k4,?_,?_,k6⟩
 ·rw[k3,h1];cases hd<;>simp;omega
 ·cases num with
  | true=>simp only[if_true]at hw⊢;have:=k5 rfl;omega
  | false=>rfl
 ·intro hn;rw[hn];rfl
theorem recD_of {x:Cx} {num:Bool} {wid:Int} (hdep:3<=x.dep) {i:Nat} {ks:List Nd} {e m:Nat} (h:Hj x.a x.q x.s i ks e m) {v:Int} {ns:List B8}
  (hi:i<=x.s.length) (hk:∀k∈ks,(txt x.q (AM k)).length<=65536) (hw:num=true->(ks.length:Int)=wid) (hv:v+1+(ks.length:Int)<=x.nod):
  F3 x num wid false i v ns= .ok (e+m,v+1+(ks.length:Int),ns,.mk 8 [] [] ks (slc x.s e (e+m)),(ks.length:Int)):=by
 have hl:=h.le hi
 have hb:Fx x.dep x.nod 2 i v= .ok (v+1):=by unfold Fx;rw[if_neg (by omega),if_neg (by omega)]
 rw[FH]
 simp only[Bool.false_eq_true,if_false,hb]
 unfold HZ
 rw[recE_of hdep h (x.s.length+1) (acc:=[]) (v:=v+1) (ns:=ns) hi (by omega) hk (fun hn=>by rw[List.length_nil,Nat.zero_add,hw hn];omega) (by omega)]
 simp only[hl.2.2.2.2]
 cases num with
 | true=>have:=hw rfl;simp only[if_true,List.nil_append];rw[<-this,if_neg (by omega)]
 | false=>simp only[Bool.false_eq_true,if_false,List.nil_append];rw[if_neg (by omega)]
theorem Vq {x:Cx} {num:Bool} {wid:Int} (d' n':Int) {i:Nat} {v:Int} {ns:List B8}:F3 (x.lim d' n') num wid true i v ns=F3 x num wid true i v ns:=by
 rw[FH,FH,if_pos rfl,if_pos rfl]
 have:=Vp (x:=x) (num:=num) (wid:=wid) d' n' (x.s.length+1) (acc:=[]) (i:=i) (v:=v) (ns:=ns)
 show HZ x.s num wid (B2 (x.lim d' n') num wid true (x.s.length+1) [] i v ns)=_
 rw[this]
theorem WD {x:Cx} {num:Bool} {wid:Int} {d' n':Int} {i:Nat} {v:Int} {ns:List B8} {i':Nat} {v':Int} {ns':List B8} {r:Nd} {wid':Int}
  (h:F3 x num wid false i v ns= .ok (i',v',ns',r,wid')):v+1<v'/\(3<=d'->v'<=n'->F3 (x.lim d' n') num wid false i v ns= .ok (i',v',ns',r,wid'))/\
   (3<=d'->n'<v'->∃o,F3 (x.lim d' n') num wid false i v ns= .error (o,10))/\(d'=2->v<n'->∃o,F3 (x.lim d' n') num wid false i v ns= .error (o,9)):=by
 obtain⟨v1,h1,h⟩:=GX h
 have h1:v1=v+1:=by simpa using h1
 subst h1
 obtain⟨e,v2,ns2,ks,m,h2,h3,hw,hp⟩:=L6 h
 simp only[Prod.mk.injEq]at hp
 obtain⟨rfl,rfl,rfl,rfl,rfl⟩:=hp
 obtain⟨k0,k1,k2,k3⟩:=WA (d':=d') (n':=n') _ h2
 have b1:2<=d'->v<n'->Fx d' n' 2 i v= .ok (v+1):=fun g1 g2=>by unfold Fx;rw[if_neg (by omega),if_neg (by omega)]
 have b2:2<=d'->n'<=v->Fx d' n' 2 i v= .error (i,10):=fun g1 g2=>by unfold Fx;rw[if_neg (by omega),if_pos g2]
 rw[FH]
 simp only[Bool.false_eq_true,if_false]
 refine⟨by omega,fun g1 g2=>?_,fun g1 g2=>?_,fun g1 g2=>?_⟩
 ·rw[b1 (by omega) (by omega)]
  show HZ x.s num wid (B2 (x.lim d' n') num wid false (x.s.length+1) [] i (v+1) ns)=_
  rw[k1 g1 g2]
  simp only[HZ,h3]
  rw[if_neg hw]
 ·by_cases hv:n'<=v
  ·rw[b2 (by omega) hv];exact⟨_,rfl⟩
  ·rw[b1 (by omega) (by omega)]
   obtain⟨o,ho⟩:=k2 g1 g2
   exact⟨o,by show HZ x.s num wid (B2 (x.lim d' n') num wid false (x.s.length+1) [] i (v+1) ns)=_;rw[ho];rfl⟩
 ·rw[b1 (by omega) (by omega)]
  obtain⟨o,ho⟩:=k3 (by omega)
  exact⟨o,by show HZ x.s num wid (B2 (x.lim d' n') num wid false (x.s.length+1) [] i (v+1) ns)=_;rw[ho];rfl⟩
def IT (r:Nd):Int:=1+((Aw r).length:Int)
def Dy:List Nd->Int
 | []=>0
 | r::rs=>IT r+Dy rs
theorem EY:∀rs,0<=Dy rs
 | []=>by simp[Dy]
 | r::rs=>by have:=EY rs;simp only[Dy,IT];omega
def DP (hd:Bool) (rs:List Nd):Int:=if hd then Dy rs.tail else Dy rs
theorem OJ {x:Cx} {num hd:Bool} {wid:Int}:∀(n:Nat) {acc:List Nd} {i:Nat} {v:Int} {ns:List B8} {e:Nat} {v':Int} {ns':List B8} {out:List Nd},
  B2 x num wid hd n acc i v ns= .ok (e,v',ns',out)->v'=v+(if hd then 0 else(out.length:Int)-acc.length):=by
 intro n
 induction n with
 | zero=>intro acc i v ns e v' ns' out h;simp only[B2]at h;cases h
 | succ n ih=>
  intro acc i v ns e v' ns' out h
  simp only[B2]at h
  split at h
  ·cases h
  simp only[bind,Except.bind]at h
  split at h
  ·cases h
  rename_i p he
  obtain⟨e1,v1,ns1⟩:=p
  have c3:v1=v+(if hd then 0 else 1):=by
   cases hd with
   | false=>simpa using (Kd he).2.2.1
   | true=>simpa using (Lc he).1
  simp only at h
  split at h
  ·have:=ih h
   rw[this,c3]
   cases hd<;>simp
   omega
  ·split at h
   ·cases h
   cases h
   rw[c3]
   cases hd<;>simp
   omega
theorem recE_v1 {x:Cx} {num:Bool} {wid:Int} (n:Nat) {acc:List Nd} {i:Nat} {v:Int} {ns:List B8} {e:Nat} {v':Int} {ns':List B8} {out:List Nd}
  (h:B2 x num wid true n acc i v ns= .ok (e,v',ns',out)):v'=v:=by simpa using OJ n h
theorem Vr {x:Cx} {num:Bool} {wid:Int} {i:Nat} {v:Int} {ns:List B8} {i':Nat} {v':Int} {ns':List B8} {r:Nd} {wid':Int}
  (h:F3 x num wid false i v ns= .ok (i',v',ns',r,wid')):v'=v+IT r:=by
 obtain⟨v1,h1,h⟩:=GX h
 have h1:v1=v+1:=by simpa using h1
 subst h1
 obtain⟨e,v2,ns2,ks,m,h2,h3,hw,hp⟩:=L6 h
 simp only[Prod.mk.injEq]at hp
 obtain⟨rfl,rfl,rfl,rfl,rfl⟩:=hp
 have:=OJ _ h2
 simp only[Bool.false_eq_true,if_false,List.length_nil]at this
 simp only[IT,Aw];omega
theorem R4 {x:Cx} {hdr:Bool}:∀(n:Nat) {acc:List Nd} {i:Nat} {v:Int} {ns:List B8} {wid:Int} {out:List Nd},i<=x.s.length->DN x hdr n acc i v ns wid= .ok out->
  ∃rs,out=acc++rs/\HG x.a x.q x.s i rs/\(∀r∈rs,∀k∈Aw r,(txt x.q (AM k)).length<=65536)/\(∃W:Int,(acc≠ []->W=wid)/\∀r∈rs,((Aw r).length:Int)=W)/\
   (DP (hdr&&acc.isEmpty) rs=0∨3<=x.dep/\v+DP (hdr&&acc.isEmpty) rs<=x.nod):=by
 intro n
 induction n with
 | zero=>intro acc i v ns wid out hi h;simp only[DN]at h;cases h
 | succ n ih=>
  intro acc i v ns wid out hi h
  simp only[DN]at h
  split at h
  ·rename_i hl
   cases h
   exact⟨[],by simp,.nil hl,fun r hr=>(by cases hr),⟨wid,fun _=>rfl,fun r hr=>(by cases hr)⟩,.inl (by unfold DP;cases (hdr&&acc.isEmpty)<;>rfl)⟩
  rename_i hl
  simp only[bind,Except.bind]at h
  split at h
  ·cases h
  rename_i p h1
  obtain⟨i',v',ns',r,wid'⟩:=p
  obtain⟨ks,e,m,rfl,rfl,k2,k3,k4,k5,k6,k7⟩:=Rt hi h1
  have hle:=k2.le hi
  obtain⟨rs,j1,j2,j3,⟨W,j4,j5⟩,j6⟩:=ih (by omega) h
  have hW:W=wid':=j4 (by simp)
  refine⟨_::rs,by rw[j1,List.append_assoc];rfl,.cons (by omega) k2 j2,?_,⟨W,fun hne=>?_,?_⟩,?_⟩
  ·intro r hr
   rcases List.mem_cons.1 hr with rfl | hr
   ·exact k4
   ·exact j3 r hr
  ·rw[hW];exact k6 (by cases acc;exact absurd rfl hne;rfl)
  ·intro r hr
   rcases List.mem_cons.1 hr with rfl | hr
   ·rw[hW];exact k5
   ·exact j5 r hr
  ·have hnil:(hdr&&(acc++[Nd.mk 8 [] [] ks (slc x.s e (e+m))]).isEmpty)=false:=by cases acc<;>simp
   rw[hnil]at j6
   have hcn:=EY rs
   cases hh:(hdr&&acc.isEmpty)with
   | true=>
    rw[hh]at k3 k7
    simp only[DP,if_true,List.tail_cons,Bool.false_eq_true,if_false]at j6 k3⊢
    rcases j6 with j6 | j6
    ·exact .inl j6
    ·right;omega
   | false=>
    rw[hh]at k3 k7
    have k7:=k7 rfl
    simp only[DP,Bool.false_eq_true,if_false,Dy,IT,Aw]at j6 k3⊢
    right
    rcases j6 with j6 | j6
    ·exact⟨k7.1,by omega⟩
    ·exact⟨k7.1,by omega⟩
theorem Qf {x:Cx} (hdep:3<=x.dep) {W:Int}:∀{i:Nat} {rs:List Nd},HG x.a x.q x.s i rs->∀(n:Nat) {acc:List Nd} {v:Int} {ns:List B8} {wid:Int},i<=x.s.length->x.s.length<i+n->
  (∀r∈rs,∀k∈Aw r,(txt x.q (AM k)).length<=65536)->(acc≠ []->wid=W)->(∀r∈rs,((Aw r).length:Int)=W)->v+Dy rs<=x.nod->DN x false n acc i v ns wid= .ok (acc++rs):=by
 intro i rs h
 induction h with
 | nil h=>
  intro n acc v ns wid hi hn hk hw hW hv
  cases n with
  | zero=>omega
  | succ n=>simp only[DN];rw[if_pos h,List.append_nil]
 | @cons i e m ks rs h1 h2 h3 ih=>
  intro n acc v ns wid hi hn hk hw hW hv
  cases n with
  | zero=>omega
  | succ n=>
  have hle:=h2.le hi
  have hks:(ks.length:Int)=W:=hW _ (List.mem_cons_self ..)
  have hm:0<e+m-i:=by
   rcases Nat.eq_zero_or_pos m with h0 | h0
   ·have:=(Fi (by omega) hle.2.2.2.2).2.1 h0;omega
   ·omega
  simp only[Dy,IT,Aw]at hv
  have hcn:=EY rs
  simp only[DN,Bool.false_and]
  rw[if_neg (by omega),recD_of hdep h2 hi (hk _ (List.mem_cons_self ..)) (fun hn=>by rw[hks];exact(hw (by rintro rfl;simp at hn)).symm) (by omega)]
  simp only[bind,Except.bind]
  rw[ih n (by omega) (by omega) (fun r hr=>hk r (List.mem_cons_of_mem _ hr)) (fun _=>hks) (fun r hr=>hW r (List.mem_cons_of_mem _ hr)) (by omega),List.append_assoc]
  rfl
theorem Xw {x:Cx} {hdr:Bool} {d' n':Int}:∀(n:Nat) {acc:List Nd} {i:Nat} {v:Int} {ns:List B8} {wid:Int} {out:List Nd},DN x hdr n acc i v ns wid= .ok out->
  ∃rs,out=acc++rs/\((DP (hdr&&acc.isEmpty) rs=0∨3<=d')->v+DP (hdr&&acc.isEmpty) rs<=n'->DN (x.lim d' n') hdr n acc i v ns wid= .ok out)/\
   (0<DP (hdr&&acc.isEmpty) rs->3<=d'->n'<v+DP (hdr&&acc.isEmpty) rs->∃o,DN (x.lim d' n') hdr n acc i v ns wid= .error (o,10))/\
   (0<DP (hdr&&acc.isEmpty) rs->d'=2->v+DP (hdr&&acc.isEmpty) rs<=n'->∃o,DN (x.lim d' n') hdr n acc i v ns wid= .error (o,9)):=by
 intro n
 induction n with
 | zero=>intro acc i v ns wid out h;simp only[DN]at h;cases h
 | succ n ih=>
  intro acc i v ns wid out h
  simp only[DN]at h⊢
  split at h
  ·rename_i hl
   cases h
   have h0:DP (hdr&&acc.isEmpty) []=0:=by unfold DP;cases (hdr&&acc.isEmpty)<;>rfl
   refine⟨[],by simp,?_⟩
   rw[h0]
   exact⟨fun _ _=>by rw[if_pos hl],fun h=>absurd h (by decide),fun h=>absurd h (by decide)⟩
  rename_i hl
  rw[if_neg hl]
  simp only[bind,Except.bind]at h⊢
  split at h
  ·cases h
  rename_i p h1
  obtain⟨i',v',ns',r,wid'⟩:=p
  obtain⟨rs,j1,j2,j3,j4⟩:=ih h
  have hnil:(hdr&&(acc++[r]).isEmpty)=false:=by cases acc<;>simp
  rw[hnil]at j2 j3 j4
  have hcn:=EY rs
  refine⟨r::rs,by rw[j1,List.append_assoc];rfl,?_⟩
  cases hh:(hdr&&acc.isEmpty)with
  | true=>
   rw[hh]at h1
   rw[Vq,h1]
   have hv:v'=v:=by
    obtain⟨v1,h3,h4⟩:=GX h1
    have h3:v1=v:=by simpa using h3
    subst h3
    obtain⟨e,v2,ns2,ks,m,h2,h5,hw,hp⟩:=L6 h4
    simp only[Prod.mk.injEq]at hp
    obtain⟨rfl,rfl,rfl,rfl,rfl⟩:=hp
    exact recE_v1 _ h2
   subst hv
   simp only[DP,if_true,List.tail_cons,Bool.false_eq_true,if_false]at j2 j3 j4⊢
   exact⟨j2,j3,j4⟩
  | false=>
   rw[hh]at h1
   have hc:v'=v+IT r:=Vr h1
   obtain⟨k0,k1,k2,k3⟩:=WD (d':=d') (n':=n') h1
   simp only[DP,Bool.false_eq_true,if_false,Dy]at j2 j3 j4⊢
   refine⟨fun g1 g2=>?_,fun g0 g1 g2=>?_,fun g0 g1 g2=>?_⟩
   ·have:3<=d':=by rcases g1 with g1 | g1;omega;exact g1
    rw[k1 this (by omega)]
    exact j2 (.inr this) (by omega)
   ·by_cases hv:n'<v'
    ·obtain⟨o,ho⟩:=k2 g1 hv
     rw[ho];exact⟨_,rfl⟩
    ·rw[k1 g1 (by omega)]
     by_cases h0:0<Dy rs
     ·exact j3 h0 g1 (by omega)
     ·omega
   ·obtain⟨o,ho⟩:=k3 g1 (by omega)
    rw[ho];exact⟨_,rfl⟩
def AZ (x:Cx) (hd:Bool) (l2 l3 l4:Int):Except (Nat×Int) Nd:=
 if dOk x.a x.q=false then .error (0,1)else if lOk x.dep x.nod l2 l3 l4=false then .error (0,1)else if l2<x.s.length then .error (0,10)else if vlen x.s≠x.s.length then .error (vlen x.s,5)
 else match DN x hd (x.s.length+1) [] 0 1 [] 0 with
  | .error e=> .error e
  | .ok rs=> .ok (.mk 1 [] [] rs [])
def pN:Except (Nat×Int) Nd->Nd | .ok n=>n | .error _=> .mk 0 [] [] [] []
def pO:Except (Nat×Int) Nd->Int | .ok _=>0 | .error e=>e.1
def pE:Except (Nat×Int) Nd->Int | .ok _=>0 | .error e=>e.2
theorem Pc (x:Cx) (hdr:Bool) (n:Nat) (acc:List Nd) (i:Nat) (v:Int) (ns:List B8) (wid:Int):DN x hdr (n+1) acc i v ns wid=
  if x.s.length<=i then .ok acc else match F3 x (!acc.isEmpty) wid (hdr&&acc.isEmpty) i v ns with
   | .error e=> .error e
   | .ok (i',v',ns',r,wid')=>DN x hdr n (acc++[r]) i' v' ns' wid':=by
 simp only[DN,bind,Except.bind]
 by_cases h:x.s.length<=i
 ·rw[if_pos h,if_pos h]
 ·rw[if_neg h,if_neg h]
  rcases F3 x (!acc.isEmpty) wid (hdr&&acc.isEmpty) i v ns with e | ⟨i',v',ns',r,wid'⟩<;>rfl
theorem Uq {x:Cx} {num hd:Bool} {wid:Int} {i:Nat} {v:Int} {ns:List B8} {i':Nat} {v':Int} {ns':List B8} {r:Nd} {wid':Int} (hi:i<x.s.length)
  (h:F3 x num wid hd i v ns= .ok (i',v',ns',r,wid')):i<i'/\i'<=x.s.length/\v<=v'/\v'<=v+3*(i'-i:Nat)/\1<=wid':=by
 obtain⟨ks,e,m,rfl,rfl,k2,k3,k4,k5,k6,k7⟩:=Rt (by omega) h
 have hle:=k2.le (by omega)
 have hpos:1<=e+m-i:=by
  have:=(Fi (by omega) hle.2.2.2.2).2.1
  rcases Nat.eq_zero_or_pos m with h0 | h0
  ·have:=this h0;omega
  ·omega
 cases hd<;>simp at k3<;>omega
theorem OM {x:Cx} {hd ty:Bool} {l2 l3 l4:Int} {st:St} {K:Int->B8->B8->TV->B8->Int->Int->St->Prop} (hl:x.s.length<=2000000)
  (hk:∀k kv st',Ap st st'->NdC (pN (AZ x hd l2 l3 l4)) [.int .i64 k,.str [],.str [],kv,.str []]->K k [] [] kv [] (pO (AZ x hd l2 l3 l4)) (pE (AZ x hd l2 l3 l4)) st'):
  CallT PR DK [.str x.s,.agg [.int .u8 x.a,.int .u8 x.q,.bool hd,.bool ty],.agg [.int .i64 x.dep,.int .i64 x.nod,.int .i64 l2,.int .i64 l3,.int .i64 l4]] [.agg [.int .i64,.str,.str,.tv,.str],.one (.int .i64),.one (.int .i64)] st K:=by
 generalize hP:AZ x hd l2 l3 l4=P at hk
 unfold AZ at hP
 have hnil:NdC (.mk 0 [] [] [] []) [.int .i64 0,.str [],.str [],.nilSlice,.str []]:=by unfold NdC;exact⟨_,[],rfl,.inl ⟨rfl,rfl,rfl⟩,Bm.nil⟩
 have bad:∀(o:Nat) (e:Int) st',P= .error (o,e)->Ap st st'->K 0 [] [] .nilSlice [] o e st':=fun o e st' h he=>by
  have:=hk 0 .nilSlice st' he (by rw[h];exact hnil)
  rwa [h]at this
 refine Mu x.s x.a x.q hd ty x.dep x.nod l2 l3 l4 st K (Ld (Ar (fun g=>?_) fun g=>?_))
 ·have g:dOk x.a x.q=false:=by simpa using g
  rw[if_pos g]at hP
  exact bad _ _ st hP.symm (Ap.refl _)
 have g:dOk x.a x.q=true:=by simpa using g
 rw[if_neg (by rw[g];decide)]at hP
 refine Td (Ar (fun g=>?_) fun g=>?_)
 ·have g:lOk x.dep x.nod l2 l3 l4=false:=by simpa using g
  rw[if_pos g]at hP
  exact bad _ _ st hP.symm (Ap.refl _)
 have g:lOk x.dep x.nod l2 l3 l4=true:=by simpa using g
 rw[if_neg (by rw[g];decide)]at hP
 refine Aa (fun g=>?_) fun g=>?_
 ·rw[if_pos g]at hP
  exact bad _ _ st hP.symm (Ap.refl _)
 rw[if_neg g]at hP
 refine To hl (Aa (fun g=>?_) fun g=>?_)
 ·have h2:vlen x.s≠x.s.length:=fun h=>by rw[if_pos h]at g;omega
  rw[if_neg h2]
  rw[if_pos h2]at hP
  exact bad _ _ st hP.symm (Ap.refl _)
 have h2:vlen x.s=x.s.length:=Decidable.byContradiction fun h=>by rw[if_neg h]at g;omega
 rw[if_neg (by rw[h2];simp)]at hP
 refine Ab rfl ?_
 obtain⟨m,hm⟩:∃m,m=st.nb:=⟨_,rfl⟩
 obtain⟨p,hp⟩:∃p,p=(st.push (.map []) none).nb:=⟨_,rfl⟩
 rw[<-hm,<-hp]
 have hpm:p=m+1:=by rw[hp,hm];rfl
 obtain⟨sa,hsa⟩:∃sa,sa=st.push (.map []) none:=⟨_,rfl⟩
 rw[<-hsa]at hp⊢
 obtain⟨sb,hsb⟩:∃sb,sb=sa.push (.cells (pcl x hd ty l2 l3 l4 m 0 1 0 0 0)) (some 180):=⟨_,rfl⟩
 have e0:Ap st sb:=by rw[hsb,hsa];exact((Ap.refl st).push _ _).push _ _
 have k0:PSD p m x hd ty l2 l3 l4 [] 0 1 0 0 0 sb:=by
  refine⟨by omega,by rw[hsb,hp];simp[St.push],by rw[hsb,hsa,hm];simp[St.push];omega,by rw[hsb,hp];exact GG _ _ _,[],?_,fun t=>by simp[CE]⟩
  rw[hsb,hsa,hm]
  simp[St.push]
 have lim:∀st',StX (PM p m) sb st'->Ap st st':=fun st' h=>StX.ext e0 h fun i hi=>by rcases hi with h | h<;>omega
 refine⟨fun s' p' kd le tx kv tl st'=>x.s=s'/\TV.box p 0=p'/\1=kd/\[]=le/\[]=tx/\[]=tl/\∃(j n:Nat) (acc:List Nd) (v w:Int) (ns:List B8) (xs:List TV),StX (PM p m) sb st'/\PSD p m x hd ty l2 l3 l4 ns j v w 0 0 st'/\
   Own sb.nt 5 st' kv acc.length xs/\Bm acc xs/\j<=x.s.length/\x.s.length<j+n/\acc.length<=j/\0<=v/\v<=1+3*j/\(match DN x hd n acc j v ns w with | .error e=> .error e | .ok rs=> .ok (.mk 1 [] [] rs []))=P,
  fun _ _ _ _ _ _ _ st'=>(x.s.length-LF st' p 10).toNat,⟨rfl,rfl,rfl,rfl,rfl,rfl,0,x.s.length+1,[],1,0,[],[],hsb▸StX.refl _ _,hsb▸k0,Own.nil _ _ _,Bm.nil,by omega,by omega,by simp,by omega,by omega,hP⟩,?_⟩
 rintro _ _ _ _ _ kv _ st3 ⟨rfl,rfl,rfl,rfl,rfl,rfl,j,n,acc,v,w,ns,xs,f3,k3,o3,hx,hj,hjn,hac,hv0,hv,hE⟩
 have b3:=k3.bx
 cases n with
 | zero=>omega
 | succ n=>
 rw[Pc]at hE
 repeat' first
  | (guard_target=~need _ _;refine Ab rfl ?_)
  | (guard_target=~Ae (Ac _ _ _ _) _;refine Ad (ldB b3 rfl) ?_)
  | (guard_target=~Af (.int _) _ _;refine Aq ?_)
  | (guard_target=~Af .str _ _;refine Al ?_)
  | (guard_target=~Af .bool _ _;refine Ao ?_)
 refine Aa (fun q=>Ab o3.rd.isSl ?_) fun q=>?_
 ·rw[if_neg (by omega)]at hE
  rw[o3.rd.lenS]
  have hN1:decide (((acc.length:Nat):Int)≠0)= !acc.isEmpty:=by
   cases acc with
   | nil=>rfl
   | cons a l=>exact decide_eq_true (by simp only[List.length_cons];omega)
  have hN2:(decide (((acc.length:Nat):Int)=0)&&hd)=(hd&&acc.isEmpty):=by
   cases acc with
   | nil=>cases hd<;>rfl
   | cons a l=>rw[decide_eq_false (by simp only[List.length_cons];omega)];cases hd<;>rfl
  refine SZ rfl hj hl hv0 (by omega) (by omega) k3 (fun k v1 ns1 r w1 kv1 tl st4 hr e4 k4 hc4=>?_) fun o' e' ns1 k v1 w1 kv1 tl st4 hr e4 k4 ho4=>?_
  ·rw[hN1,hN2]at hr
   rw[hr]at hE
   simp only at hE
   have hle:=Uq (by omega) hr
   have hone:At kv1=true:=by
    obtain⟨a,b,c,d,f⟩:=r
    unfold NdC at hc4
    obtain⟨u,ys,hu,hu2,_⟩:=hc4
    cases hu
    exact hu2.one
   refine Ab (D1 hone) (Ar (fun h=>by cases h) fun _=>Ab (D1 hone) ?_)
   refine Ir (f3.trans e4) (o3.extXD e4) (by omega) (fun h=>by cases h) fun v5 st5 e5 hbx hnb o5=>Ab (M8 o5.rd.one) ?_
   have hlen:(acc++[r]).length=acc.length+1:=by simp
   refine⟨⟨rfl,rfl,rfl,rfl,rfl,rfl,k,n,acc++[r],v1,w1,ns1,_,e5,k4.same hbx hnb,by rw[hlen];exact o5,hx.append (Bm.one hc4),by omega,by omega,by omega,by omega,by omega,hE⟩,?_⟩
   dsimp only
   rw[Di (k4.same hbx hnb).bx rfl,Di b3 rfl]
   omega
  ·rw[hN1,hN2]at hr
   rw[hr]at hE
   simp only at hE
   refine Ab (D1 ho4) (Ar (fun _=>?_) fun h=>by cases h)
   have b4:=k4.bx
   repeat' first
    | (guard_target=~need _ _;refine Ab rfl ?_)
    | (guard_target=~Ae (Ac _ _ _ _) _;refine Ad (ldB b4 rfl) ?_)
    | (guard_target=~Af (.int _) _ _;refine Aq ?_)
    | (guard_target=~Af .str _ _;refine Al ?_)
    | (guard_target=~Af .bool _ _;refine Ao ?_)
   exact bad _ _ st4 hE.symm (lim _ (f3.trans e4))
 ·rw[if_pos (by omega)]at hE
  simp only at hE
  subst hE
  exact Ab (D1 o3.rd.one) (hk 1 kv st3 (lim _ f3) (by unfold pN NdC;exact⟨kv,xs,rfl,o3.rd,hx⟩))
theorem VG {s:B8} {i o:Nat} {c:Int} (h:Db s i= .error (o,c)):(o=i/\c=3)∨(o=s.length/\c=4):=by
 unfold Db at h
 repeat' split at h
 all_goals first | cases h | skip
 all_goals simp
section
theorem Sj {dep nod d:Int} {i:Nat} {v:Int} {o:Nat} {c:Int} (h:Fx dep nod d i v= .error (o,c)):c≠0:=by
 unfold Fx at h
 split at h
 ·cases h;decide
 split at h
 ·cases h;decide
 ·cases h
theorem V0 {a q:Int} {s:B8} {i o:Nat} {c:Int} (h:BZ a q s i= .error (o,c)):c≠0:=by
 unfold BZ at h
 split at h<;>split at h<;>cases h<;>decide
section
variable {x:Cx} {hd ty:Bool} {l2 l3 l4:Int} {st:St}
end
end
theorem L7 {q:Int} {c:UInt8} (hc:(c.toNat:Int)=q):∀(t rest:B8) (i:Nat),(∀b l,rest=b::l->(b.toNat:Int)≠q)->HC q (dbl c t++c::rest) i=some (i+(dbl c t).length+1)
 | [],rest,i,h=>by
  simp only[dbl,List.flatMap_nil,List.nil_append,List.length_nil,Nat.add_zero]
  cases rest with
  | nil=>simp only[HC];rw[if_pos hc]
  | cons b l=>simp only[HC];rw[if_pos hc,if_neg (h b l rfl)]
 | b::t,rest,i,h=>by
  rw[DO]
  by_cases hb:b=c
  ·rw[if_pos hb]
   have ih:=L7 hc t rest (i+2) h
   simp only[List.cons_append,List.nil_append,List.length_cons,HC]
   rw[if_pos hc,if_pos hc,ih]
   congr 1;omega
  ·rw[if_neg hb]
   have hb':(b.toNat:Int)≠q:=fun h=>hb (UInt8.toNat_inj.1 (by omega))
   have ih:=L7 hc t rest (i+1) h
   simp only[List.cons_append,List.nil_append,List.length_cons]
   cases hr:dbl c t++c::rest with
   | nil=>simp at hr
   | cons b2 l2=>
    rw[hr]at ih
    simp only[HC]
    rw[if_neg hb',ih]
    congr 1;omega
theorem Ur {a q:Int} (ha:a≠q) (hq:q≠10) (hq2:q≠13):∀(t:B8) (b:UInt8) (rest:B8) (i:Nat),(∀c∈t,(c.toNat:Int)≠a/\(c.toNat:Int)≠q/\(c.toNat:Int)≠10/\(c.toNat:Int)≠13)->
  ((b.toNat:Int)=a∨(b.toNat:Int)=10)->RD a q (t++b::rest) i= .ok (i+t.length)
 | [],b,rest,i,h,hb=>by simp only[List.nil_append,RD];rw[if_pos (by omega)];rfl
 | c::t,b,rest,i,h,hb=>by
  have hc:=h c (List.mem_cons_self ..)
  simp only[List.cons_append,RD]
  rw[if_neg (by omega),if_neg hc.2.1,Ur ha hq hq2 t b rest (i+1) (fun d hd=>h d (List.mem_cons_of_mem _ hd)) hb]
  simp;omega
def DB (a q:Int) (s:B8):Bool:=s.any fun c=>decide ((c.toNat:Int)=a∨(c.toNat:Int)=q∨(c.toNat:Int)=10∨(c.toNat:Int)=13)
def AU (a q:Int) (s:B8):B8:=if DB a q s then UInt8.ofNat q.toNat::(dbl (UInt8.ofNat q.toNat) s++[UInt8.ofNat q.toNat])else s
theorem Nb {a q:Int} {s:B8} (h:DB a q s=false):∀c∈s,(c.toNat:Int)≠a/\(c.toNat:Int)≠q/\(c.toNat:Int)≠10/\(c.toNat:Int)≠13:=by
 intro c hc
 unfold DB at h
 rw[List.any_eq_false]at h
 have:=h c hc
 rw[decide_eq_true_eq]at this
 omega
theorem CL {q:Int} (h:0<=q) (h2:q<=255):((UInt8.ofNat q.toNat).toNat:Int)=q:=by
 rw[UInt8.toNat_ofNat'];omega
theorem QZ {a q:Int} (h:0<=q) (h2:q<=255) (s:B8):txt q (AU a q s)=s:=by
 unfold AU
 split
 ·exact IZ (CL h h2)
 ·rename_i hn
  have hn:=Nb (by simpa using hn)
  unfold txt
  rw[if_pos]
  cases s with
  | nil=>exact .inl rfl
  | cons b l=>exact .inr (hn b (List.mem_cons_self ..)).2.1
theorem Js {a q:Int} (hq0:0<=q) (hq1:q<=255) (ha:a≠q) (hq:q≠10) (hq2:q≠13) (pre c:B8) (b:UInt8) (post:B8) (hb:(b.toNat:Int)=a∨(b.toNat:Int)=10):
  BZ a q (pre++AU a q c++b::post) pre.length= .ok (pre.length+(AU a q c).length):=by
 have hd:(pre++AU a q c++b::post).drop pre.length=AU a q c++b::post:=by rw[List.append_assoc,List.drop_left]
 have hby:∀d l,AU a q c++b::post=d::l->by_ (pre++AU a q c++b::post) pre.length=(d.toNat:Int):=fun d l h=>by
  have:(pre++AU a q c++b::post).getD pre.length 0=((pre++AU a q c++b::post).drop pre.length).getD 0 0:=by rw[Io];rfl
  unfold by_
  rw[this,hd,h];rfl
 have hlen:pre.length<(pre++AU a q c++b::post).length:=by simp only[List.length_append,List.length_cons];omega
 have hqb:=CL hq0 hq1
 unfold BZ
 by_cases hn:DB a q c=true
 ·have hqc:AU a q c=UInt8.ofNat q.toNat::(dbl (UInt8.ofNat q.toNat) c++[UInt8.ofNat q.toNat]):=by unfold AU;rw[if_pos hn]
  have:=hby (UInt8.ofNat q.toNat) (dbl (UInt8.ofNat q.toNat) c++[UInt8.ofNat q.toNat]++b::post) (by rw[hqc];rfl)
  rw[if_pos ⟨hlen,by rw[this];exact hqb⟩]
  have hQ:QE q (pre++AU a q c++b::post) (pre.length+1)=some (pre.length+(AU a q c).length):=by
   unfold QE
   rw[<-List.drop_drop,hd,hqc]
   have:=L7 hqb c (b::post) (pre.length+1) (fun b' l' h=>by cases h;omega)
   simp only[List.cons_append,List.drop_succ_cons,List.drop_zero,List.append_assoc,List.nil_append]
   rw[this]
   congr 1
   simp;omega
  rw[hQ]
 ·have hn:DB a q c=false:=by simpa using hn
  have hqc:AU a q c=c:=by unfold AU;rw[if_neg (by rw[hn];decide)]
  have hno:=Nb hn
  have hP:PE a q (pre++AU a q c++b::post) pre.length= .ok (pre.length+(AU a q c).length):=by
   unfold PE
   rw[hd,hqc]
   exact Ur ha hq hq2 c b post pre.length hno hb
  rw[if_neg,hP]
  rintro⟨_,h2⟩
  cases hc:c with
  | nil=>rw[hby b post (by rw[hqc,hc];rfl)]at h2;omega
  | cons d l=>rw[hby d (l++b::post) (by rw[hqc,hc];rfl)]at h2;exact(hno d (by rw[hc];exact List.mem_cons_self ..)).2.1 h2
def BQ (a q:Int):List B8->B8
 | []=>[10]
 | [c]=>AU a q c++[10]
 | c::r=>AU a q c++UInt8.ofNat a.toNat::BQ a q r
theorem Nz {a q:Int} (ha0:0<=a) (ha1:a<=255) (hq0:0<=q) (hq1:q<=255) (ha:a≠q) (hq:q≠10) (hq2:q≠13) (ha10:a≠10):∀(cs:List B8) (pre post:B8),cs≠ []->
  ∃ks e,Hj a q (pre++BQ a q cs++post) pre.length ks e 1/\e+1=pre.length+(BQ a q cs).length/\ks.map AM=cs.map (AU a q)/\slc (pre++BQ a q cs++post) e (e+1)=[10]
 | [],pre,post,h=>absurd rfl h
 | [c],pre,post,_=>by
  have hs:pre++BQ a q [c]++post=pre++AU a q c++10::post:=by simp[BQ]
  have hc:=Js hq0 hq1 ha hq hq2 pre c 10 post (.inr rfl)
  rw[hs]
  have hlt:pre.length+(AU a q c).length<(pre++AU a q c++10::post).length:=by simp
  have hb:(pre++AU a q c++10::post).getD (pre.length+(AU a q c).length) 0=10:=by
   have:(pre++AU a q c).length=pre.length+(AU a q c).length:=by simp
   rw[<-this,List.getD_eq_getElem?_getD,List.getElem?_append_right (Nat.le_refl _)]
   simp
  have hby:by_ (pre++AU a q c++10::post) (pre.length+(AU a q c).length)=10:=by unfold by_;rw[hb];rfl
  refine⟨_,_,.last hc (by rintro⟨_,h⟩;rw[hby]at h;exact ha10 h.symm) ?_,?_,?_,?_⟩
  ·unfold Db;rw[if_neg (by omega),if_pos hby]
  ·simp[BQ];omega
  ·simp only[List.map_cons,List.map_nil,BX]
   congr 1
   unfold slc
   rw[show pre.length+(AU a q c).length=(pre++AU a q c).length by simp,List.take_left,List.drop_left]
  ·rw[PP hlt,hb]
 | c::c2::r,pre,post,_=>by
  have hs:pre++BQ a q (c::c2::r)++post=pre++AU a q c++UInt8.ofNat a.toNat::(BQ a q (c2::r)++post):=by simp[BQ]
  have hs2:pre++AU a q c++UInt8.ofNat a.toNat::(BQ a q (c2::r)++post)=(pre++AU a q c++[UInt8.ofNat a.toNat])++BQ a q (c2::r)++post:=by simp
  have hab:=CL ha0 ha1
  have hc:=Js hq0 hq1 ha hq hq2 pre c (UInt8.ofNat a.toNat) (BQ a q (c2::r)++post) (.inl hab)
  obtain⟨ks,e,h1,h2,h3,h4⟩:=Nz ha0 ha1 hq0 hq1 ha hq hq2 ha10 (c2::r) (pre++AU a q c++[UInt8.ofNat a.toNat]) post (by simp)
  rw[<-hs2]at h1 h4
  rw[hs]
  have hlt:pre.length+(AU a q c).length<(pre++AU a q c++UInt8.ofNat a.toNat::(BQ a q (c2::r)++post)).length:=by simp
  have hb:(pre++AU a q c++UInt8.ofNat a.toNat::(BQ a q (c2::r)++post)).getD (pre.length+(AU a q c).length) 0=UInt8.ofNat a.toNat:=by
   have:(pre++AU a q c).length=pre.length+(AU a q c).length:=by simp
   rw[<-this,List.getD_eq_getElem?_getD,List.getElem?_append_right (Nat.le_refl _)]
   simp
  have hpl:(pre++AU a q c++[UInt8.ofNat a.toNat]).length=pre.length+(AU a q c).length+1:=by simp;omega
  rw[hpl]at h1 h2
  refine⟨_,_,.more hc hlt (by unfold by_;rw[hb];exact hab) h1,?_,?_,h4⟩
  ·simp only[BQ,List.length_append,List.length_cons];omega
  ·simp only[List.map_cons,BX]
   rw[h3]
   congr 1
   unfold slc
   rw[show pre.length+(AU a q c).length=(pre++AU a q c).length by simp,List.take_left,List.drop_left]
def BO (a q:Int) (l:List (List B8)):B8:=l.flatMap (BQ a q)
theorem MU {a q:Int} (ha0:0<=a) (ha1:a<=255) (hq0:0<=q) (hq1:q<=255) (ha:a≠q) (hq:q≠10) (hq2:q≠13) (ha10:a≠10):∀(l:List (List B8)) (pre:B8),(∀cs∈l,cs≠ [])->
  ∃rs,HG a q (pre++BO a q l) pre.length rs/\rs.map (fun r=>(Aw r).map AM)=l.map (fun cs=>cs.map (AU a q))
 | [],pre,h=>⟨[],.nil (by simp[BO]),rfl⟩
 | cs::l,pre,h=>by
  have hs:pre++BO a q (cs::l)=pre++BQ a q cs++BO a q l:=by simp[BO]
  obtain⟨ks,e,h1,h2,h3,h4⟩:=Nz ha0 ha1 hq0 hq1 ha hq hq2 ha10 cs pre (BO a q l) (h cs (List.mem_cons_self ..))
  obtain⟨rs,h5,h6⟩:=MU ha0 ha1 hq0 hq1 ha hq hq2 ha10 l (pre++BQ a q cs) (fun c hc=>h c (List.mem_cons_of_mem _ hc))
  rw[hs]
  rw[List.length_append]at h5
  have hle:=h1.le (by simp)
  refine⟨_,.cons (by simp only[List.length_append]at hle⊢;omega) h1 (by rw[h2];exact h5),?_⟩
  rw[List.map_cons,List.map_cons,h6]
  show ks.map AM::_=_
  rw[h3]
theorem chk_ent {a q:Int} {k:Nd} (h:V8 a q k) {s:Int} (hs:s+3<=524288):∃s',chk k 3 s= .ok s'/\s<=s'/\s'<=s+3:=by
 obtain⟨c,mark,rfl,_,hm⟩:=h
 rcases hm with rfl | ⟨b,_,rfl⟩
 ·refine⟨s+1+1,?_,by omega,by omega⟩
  have l2:IL 2=true:=by decide
  have l5:IL 5=false:=by decide
  simp only[chk,HE,l2,l5,List.length_nil]
  rw[if_neg (by omega),if_neg (by omega),if_neg (by omega),if_neg (by simp),if_neg (by omega),if_neg (by omega),if_neg (by omega),if_neg (by simp)]
 ·refine⟨s+1+1+1,?_,by omega,by omega⟩
  have l2:IL 2=true:=by decide
  have l5:IL 5=false:=by decide
  have l11:IL 11=true:=by decide
  simp only[chk,HE,l2,l5,l11,List.length_nil]
  rw[if_neg (by omega),if_neg (by omega),if_neg (by omega),if_neg (by simp),if_neg (by omega),if_neg (by omega),if_neg (by omega),if_neg (by simp)]
  simp only
  rw[if_neg (by omega),if_neg (by omega),if_neg (by omega),if_neg (by simp)]
theorem Pm {a q:Int}:∀(ks:List Nd) (h:∀k∈ks,V8 a q k) {s:Int} (hs:s+3*ks.length<=524288),∃s',HE ks 3 s= .ok s'/\s<=s'/\s'<=s+3*ks.length
 | [],h,s,hs=>⟨s,rfl,by omega,by simp⟩
 | k::ks,h,s,hs=>by
  rw[List.length_cons]at hs
  obtain⟨s1,h1,h2,h3⟩:=chk_ent (h k (List.mem_cons_self ..)) (s:=s) (by omega)
  obtain⟨s2,h4,h5,h6⟩:=Pm ks (fun k hk=>h k (List.mem_cons_of_mem _ hk)) (s:=s1) (by omega)
  refine⟨s2,?_,by omega,by rw[List.length_cons];omega⟩
  simp only[HE,h1,h4]
theorem VW {a q:Int} {src:B8} {i:Nat} {rs:List Nd} (h:HG a q src i rs):i<=src.length->∀{s:Int},s+7*(src.length-i:Nat)<=524288->∃s',HE rs 2 s= .ok s'/\s<=s'/\s'<=s+7*(src.length-i:Nat):=by
 induction h with
 | nil h=>intro hi s hs;exact⟨s,rfl,by omega,by omega⟩
 | @cons i e n ks rs h1 h2 h3 ih=>
  intro hi s hs
  have hle:=h2.le hi
  have hpos:1<=e+n-i:=by
   have:=(Fi (by omega) hle.2.2.2.2).2.1
   rcases Nat.eq_zero_or_pos n with h0 | h0
   ·have:=this h0;omega
   ·omega
  obtain⟨s1,j1,j2,j3⟩:=Pm ks (h2.form hi) (s:=s+1) (by omega)
  obtain⟨s2,j4,j5,j6⟩:=ih (by omega) (s:=s1) (by omega)
  have l8:IL 8=false:=by decide
  refine⟨s2,?_,by omega,by omega⟩
  simp only[HE,chk,l8]
  rw[if_neg (by omega),if_neg (by omega),if_neg (by omega),if_neg (by simp)]
  simp only[Int.reduceAdd]
  rw[j1]
  exact j4
theorem O3 {a q:Int}:∀(ks:List Nd) (h:∀k∈ks,V8 a q k),Jl ks<=3*ks.length
 | [],h=>by simp[Jl]
 | k::ks,h=>by
  have ih:=O3 ks fun k hk=>h k (List.mem_cons_of_mem _ hk)
  obtain⟨c,mark,rfl,_,hm⟩:=h k (List.mem_cons_self ..)
  rcases hm with rfl | ⟨b,_,rfl⟩<;>simp only[Jl,Ex,List.length_cons]<;>omega
theorem O2 {a q:Int} {src:B8} {i:Nat} {rs:List Nd} (h:HG a q src i rs):i<=src.length->Jl rs<=7*(src.length-i)/\rs.length<=src.length-i:=by
 induction h with
 | nil h=>intro hi;simp[Jl]
 | @cons i e n ks rs h1 h2 h3 ih=>
  intro hi
  have hle:=h2.le hi
  have hpos:1<=e+n-i:=by
   have:=(Fi (by omega) hle.2.2.2.2).2.1
   rcases Nat.eq_zero_or_pos n with h0 | h0
   ·have:=this h0;omega
   ·omega
  have:=O3 ks (h2.form hi)
  have ih:=ih (by omega)
  simp only[Jl,Ex,List.length_cons]
  omega
theorem QQ {c:UInt8} (hc:c.toNat<128):∀(n:Nat) (t:B8),t.length<=n->vlen t=t.length->vlen (dbl c t)=(dbl c t).length:=by
 intro n
 induction n with
 | zero=>intro t h hv;have:t=[]:=List.eq_nil_of_length_eq_zero (by omega);subst this;simp[dbl,Cc]
 | succ n ih=>
  intro t h hv
  by_cases ht:t=[]
  ·subst ht;simp[dbl,Cc]
  have hpos:0<t.length:=List.length_pos_iff.2 ht
  have h0:ul t≠0:=fun h0=>by rw[Dr t h0]at hv;omega
  have hle:=My t
  have hsplit:dbl c t=dbl c (t.take (ul t))++dbl c (t.drop (ul t)):=by rw[<-UQ,List.take_append_drop]
  rw[Ds _ h0]at hv
  have hr:=ih (t.drop (ul t)) (by rw[List.length_drop];omega) (by rw[List.length_drop];omega)
  rw[hsplit]
  refine BJ ?_ hr
  by_cases hb:bt t 0<128
  ·have h1:=(QX t ht hb).1
   rw[h1,HR t (by omega)]
   have:dbl c [t.getD 0 0]=if t.getD 0 0=c then [c,c]else [t.getD 0 0]:=by simp[dbl,Ob]
   rw[this]
   split
   ·exact BH hc (BH hc (by simp[Cc]))
   ·exact BH hb (by simp[Cc])
  ·have hn:c∉t.take (ul t):=by
    intro hm
    obtain⟨i,hi,hi2⟩:=List.mem_iff_getElem.1 hm
    rw[List.length_take]at hi
    have hbt:bt t i=c.toNat:=by
     unfold bt
     rw[List.getD_eq_getElem?_getD,List.getElem?_eq_getElem (by omega)]
     rw[List.getElem_take]at hi2
     rw[<-hi2];rfl
    by_cases hi0:i=0
    ·subst hi0;omega
    ·have:=(ul_cont t i (by omega) (by omega)).1
     omega
   rw[NI hn,List.length_take,Nat.min_eq_left hle]
   have hu:=ul_take (l:=t) (m:=ul t) h0 (Nat.le_refl _)
   rw[Ds _ (by rw[hu.1];exact h0),hu.1]
   have:(t.take (ul t)).drop (ul t)=[]:=List.drop_of_length_le (by rw[List.length_take];omega)
   rw[this,Cc];rfl
theorem DZ {x:Cx} {hd:Bool} {l2 l3 l4:Int} {n:Nd} (h:AZ x hd l2 l3 l4= .ok n):∃rs,n= .mk 1 [] [] rs []/\dOk x.a x.q=true/\lOk x.dep x.nod l2 l3 l4=true/\(x.s.length:Int)<=l2/\vlen x.s=x.s.length/\DN x hd (x.s.length+1) [] 0 1 [] 0= .ok rs/\
  HG x.a x.q x.s 0 rs/\(∀r∈rs,∀k∈Aw r,(txt x.q (AM k)).length<=65536)/\(∃W:Int,∀r∈rs,((Aw r).length:Int)=W):=by
 unfold AZ at h
 split at h
 ·cases h
 rename_i h1
 split at h
 ·cases h
 rename_i h2
 split at h
 ·cases h
 rename_i h3
 split at h
 ·cases h
 rename_i h4
 split at h
 ·cases h
 rename_i rs hr
 cases h
 obtain⟨rs',j1,j2,j3,⟨W,j4,j5⟩,j6⟩:=R4 _ (by omega) hr
 rw[List.nil_append]at j1
 subst j1
 exact⟨_,rfl,by simpa using h1,by simpa using h2,by omega,Decidable.not_not.1 h4,hr,j2,j3,W,j5⟩
abbrev xU (s:B8) (a q:Int):Cx:=⟨s,a,q,48,65536⟩
abbrev Je (s:B8) (a q:Int) (hd:Bool):Except (Nat×Int) Nd:=AZ (xU s a q) hd 1048576 1024 65536
def H2 (n:Nd) (a q:Int) (hd:Bool):Prop:=Ki n=0/\Je (CU n) a q hd= .ok n
theorem NL {n:Nd} (h:Ki n=0):DT n<=1048576:=by
 unfold Ki at h
 split at h
 ·rename_i e he;exact absurd h (He n he)
 ·split at h
  ·cases h
  ·omega
theorem WM {x:Cx} {hd:Bool} {l2 l3 l4:Int} (hl:x.s.length<=2000000):Ex (pN (AZ x hd l2 l3 l4))<=1000000000000000:=by
 cases h:AZ x hd l2 l3 l4 with
 | error e=>simp[pN,Ex,Jl]
 | ok n=>
  obtain⟨rs,rfl,_,_,_,_,_,hr,_⟩:=DZ h
  have:=(O2 hr (by omega)).1
  simp only[pN,Ex];omega
theorem NdC.five {n:Nd} {cs:List TV} (h:NdC n cs):∃k l t v tl,cs=[.int .i64 k,.str l,.str t,v,.str tl]/\At v=true:=by
 cases n
 unfold NdC at h
 obtain⟨v,xs,rfl,hr,_⟩:=h
 exact⟨_,_,_,v,_,rfl,hr.one⟩
theorem O0 {st:St} {K:Int->Int->Int->Int->Int->St->Prop} (hk:K 48 65536 1048576 1024 65536 st):CallT PR DG [] [.agg [.int .i64,.int .i64,.int .i64,.int .i64,.int .i64]] st K:=Mr st K hk
theorem Rw {st:St} {K:Int->Int->Int->Int->Int->St->Prop} (hk:K 48 65536 1048576 1024 65536 st):CallT PR Cp [] [.agg [.int .i64,.int .i64,.int .i64,.int .i64,.int .i64]] st K:=Hz st K hk
theorem Rv {st:St} {K:Int->Int->Int->Int->Int->St->Prop} (hk:K 48 65536 1048576 1024 65536 st):CallT PR Cn [] [.agg [.int .i64,.int .i64,.int .i64,.int .i64,.int .i64]] st K:=Hx st K (Rw hk)
theorem Us {n:Nd} {cs:List TV} {a q:Int} {hd ty:Bool} (hc:NdC n cs) (hl:DT n<=100000000000000) (hcn:Ex n<=1000000000000000) {st:St} {K:Bool->St->Prop}
  (hk1:∀st',Ap st st'->H2 n a q hd->K true st') (hk2:∀st',Ap st st'->¬H2 n a q hd->K false st'):
  CallT PR Eg [.agg cs,.agg [.int .u8 a,.int .u8 q,.bool hd,.bool ty]] [.one .bool] st K:=by
 obtain⟨k,l,t,v,tl,rfl,_⟩:=hc.five
 refine N9 k l t v tl a q hd ty st K (Vd hc (by omega) hcn fun st1 e1=>Aa (fun g=>hk2 st1 e1 fun h=>g h.1) fun g=>?_)
 have g:Ki n=0:=Decidable.not_not.1 g
 have hlen:=NL g
 have htl:=D2 n
 refine U5 hc hl hcn fun st2 e2=>O0 ?_
 refine OM (x:=xU (CU n) a q) (by show(CU n).length<=_;omega) fun kd kv st3 e3 hn=>?_
 have e13:=(e1.trans e2).trans e3
 obtain⟨_,_,_,_,_,h5,ho⟩:=hn.five
 cases h5
 refine Ab (D1 ho) (Aa (fun g2=>?_) fun g2=>?_)
 ·refine Q0 _ _ hn hc (WM (by show(CU n).length<=_;omega)) (fun he=>hk1 _ e13 ⟨g,?_⟩) fun he=>hk2 _ e13 fun h=>he ?_
  ·show AZ _ _ _ _ _=_
   revert he g2
   cases hp:AZ (xU (CU n) a q) hd 1048576 1024 65536 with
   | error e=>
    intro _ he
    simp only[pN]at he
    rw[<-he]at g
    exact absurd g (by decide)
   | ok m=>intro _ he;simp only[pN]at he;rw[he]
  ·rw[show AZ (xU (CU n) a q) hd 1048576 1024 65536= .ok n from h.2];rfl
 ·refine hk2 _ e13 fun h=>g2 ?_
  rw[show AZ (xU (CU n) a q) hd 1048576 1024 65536= .ok n from h.2];rfl
def Ll {α:Type} (f:α->TV) (v:TV) (row:List α):Prop:=Rd 1 v row.length (row.map f)
def GK {α:Type} (f:α->TV) (v:TV) (rows:List (List α)):Prop:=∃vs:List TV,Rd 1 v rows.length vs/\vs.length=rows.length/\∀(i:Nat) (u:TV) (row:List α),vs[i]? =some u->rows[i]? =some row->Ll f u row
theorem Ll.ld {α:Type} {f:α->TV} {v:TV} {row:List α} (h:Ll f v row) (st:St) {i:Nat} {a:α} (ha:row[i]? =some a):Ac st [] (.t (ixT 1 v i)) 0=some (f a):=
 Rd.ldx h st i 0 (by rw[Nat.mul_one,Nat.add_zero,List.getElem?_map,ha];rfl)
theorem GK.rd {α:Type} {f:α->TV} {v:TV} {rows:List (List α)} (h:GK f v rows):∃vs,Rd 1 v rows.length vs:=by obtain⟨vs,h1,_⟩:=h;exact⟨vs,h1⟩
theorem GK.nil {α:Type} (f:α->TV):GK f .nilSlice []:=⟨[],.inl ⟨rfl,rfl,rfl⟩,rfl,fun i u row h=>by simp at h⟩
def FX {α:Type} (f:α->TV) (b:Nat) (st:St) (v:TV) (rows:List (List α)):Prop:=∃vs:List TV,Own b 1 st v rows.length vs/\vs.length=rows.length/\∀(i:Nat) (u:TV) (row:List α),vs[i]? =some u->rows[i]? =some row->Ll f u row
theorem FX.rd {α:Type} {f:α->TV} {b:Nat} {st:St} {v:TV} {rows:List (List α)} (h:FX f b st v rows):GK f v rows:=by
 obtain⟨vs,h1,h2,h3⟩:=h;exact⟨vs,h1.rd,h2,h3⟩
def CZ {α:Type} (g:B8->α) (rs:List Nd):List (List α):=rs.map fun r=>(Aw r).map fun k=>g (AM k)
theorem Xs {a q:Int} {k:Nd} (hk:V8 a q k) {cs:List TV} (hc:NdC k cs):∃u ys,cs=[.int .i64 5,.str [],.str [],u,.str []]/\Rd 5 u (Aw k).length ys/\0<(Aw k).length/\(∀st,Ac st [] (.t (Am (ixT 5 u 0) 2)) 0=some (.str (AM k)))/\isPtr (ixT 5 u 0)=true:=by
 obtain⟨c,mark,rfl,_,_⟩:=hk
 unfold NdC at hc
 obtain⟨u,ys,rfl,h1,h2⟩:=hc
 refine⟨u,ys,rfl,h1,by simp[Aw],fun st=>?_,?_⟩
 ·obtain⟨cs,h3,h4⟩:=h2.get (i:=0) rfl
  unfold NdC at h3
  obtain⟨w,zs,rfl,_⟩:=h3
  exact h1.ldfx st 0 2 (h4 2 _ rfl)
 ·rcases h1 with⟨rfl,h,_⟩ | ⟨tip,rfl⟩
  ·simp at h
  ·rfl
theorem Ma {v:TV} {ks:List Nd} {xs:List TV} (hr:Rd 5 v ks.length xs) (hk:Bm ks xs) (st:St) {i:Nat} {k:Nd} (hi:ks[i]? =some k):
  ∃cs,NdC k cs/\(Ah st [] (.t (ixT 5 v i)) 0 5).map TV.agg=some (.agg cs):=by
 obtain⟨a,b,c,d,e⟩:=k
 obtain⟨u,ys,h1,h2,h3,h4⟩:=K4 hr hk st hi
 exact⟨_,by unfold NdC;exact⟨u,ys,rfl,h2,h3⟩,h1⟩
section
def KR:Nd->List Nd | .mk _ _ _ ks _=>ks
def Bn (q:Int) (c:B8):Bool:=decide (¬(c=[]∨by_ c 0≠q))
open Classical in
noncomputable def FQ {α:Type} (g:B8->α) (n:Nd) (a q:Int) (hd:Bool):List (List α):=if H2 n a q hd then CZ g (KR n)else []
open Classical in
noncomputable def IJ (n:Nd) (a q:Int) (hd:Bool):Int:=if H2 n a q hd then 0 else 1
theorem RE {n:Nd} {a q:Int} {hd:Bool} (h:H2 n a q hd):∃rs,n= .mk 1 [] [] rs []/\(∀r∈rs,RecF a q r)/\DT n<=1048576/\rs.length<=DT n/\∀r∈rs,(Aw r).length<=10000000/\∀k∈Aw r,(AM k).length<=1048576:=by
 obtain⟨rs,rfl,_,_,_,_,_,hr,_⟩:=DZ h.2
 have hn:=D2 (.mk 1 [] [] rs [])
 have hlen:=NL h.1
 have hkc:=O2 hr (Nat.zero_le _)
 have hs0:(xU (CU (.mk 1 [] [] rs [])) a q).s.length=DT (.mk 1 [] [] rs []):=hn
 rw[hs0]at hkc
 refine⟨rs,rfl,hr.form (Nat.zero_le _),hlen,by have:=hkc.2;omega,fun r hr1=>?_⟩
 obtain⟨i,hi⟩:=List.getElem?_of_mem hr1
 have h1:=GB rs hi
 have h2:=J5 rs i r hi
 obtain⟨a1,b1,c1,ks,e1⟩:=r
 have h3:=GC ks
 simp only[Ex,DT,Aw]at h1 h2⊢
 have hk1:=hkc.1
 simp only[DT]at hlen hk1
 refine⟨by omega,fun k hk=>?_⟩
 obtain⟨j,hj⟩:=List.getElem?_of_mem hk
 have h4:=J5 ks j k hj
 have h5:(AM k).length<=DT k:=by
  obtain⟨a2,b2,c2,js,e2⟩:=k
  cases js with
  | nil=>simp[AM,Aw]
  | cons y ys=>
   obtain⟨a3,b3,c3,zs,e3⟩:=y
   simp only[AM,Aw,DT,Gz];omega
 omega
section
variable {n:Nd} {cs:List TV} {a q:Int} {hd ty:Bool} {st:St}
theorem FX.add {α:Type} {f:α->TV} {T by_:Nat} {st0 st:St} {v u:TV} {rows:List (List α)} {row:List α} {K:TV->St->Prop} (e:Ap st0 st) (h:FX f st0.nt st v rows) (hu:Ll f u row) (hby:(rows.length+1)*by_<=140737488355328)
  (hk:∀v' st',Ap st0 st'->FX f st0.nt st' v' (rows++[row])->K v' st'):BM T 1 by_ v 1 [u] st K:=by
 obtain⟨vs,h1,h2,h3⟩:=h
 refine Fy e rfl h1 hby (fun h=>by cases h) fun v' st' e' _ ho=>hk v' st' e' ⟨vs++[u],by rw[List.length_append];exact ho,by simp[h2],fun i u' row' hi hr=>?_⟩
 by_cases hlt:i<vs.length
 ·rw[List.getElem?_append_left hlt]at hi
  rw[List.getElem?_append_left (by omega)]at hr
  exact h3 i u' row' hi hr
 ·rw[List.getElem?_append_right (by omega)]at hi
  rw[List.getElem?_append_right (by omega)]at hr
  have h0:i-vs.length=0:=by
   have:=(List.getElem?_eq_some_iff.1 hi).1
   simp at this;omega
  rw[h0]at hi
  rw[show i-rows.length=0 by omega]at hr
  simp only[List.getElem?_cons_zero,Option.some.injEq]at hi hr
  subst hi hr;exact hu
theorem FX.ext {α:Type} {f:α->TV} {b:Nat} {st st':St} {v:TV} {rows:List (List α)} (h:FX f b st v rows) (e:Ap st st'):FX f b st' v rows:=by
 obtain⟨vs,h1,h2,h3⟩:=h;exact⟨vs,h1.ext e,h2,h3⟩
theorem FX.nil {α:Type} (f:α->TV) (b:Nat) (st:St):FX f b st .nilSlice []:=⟨[],Own.nil _ _ _,rfl,fun i u row h=>by simp at h⟩
theorem Rz {K:TV->Int->St->Prop} (hc:NdC n cs) (hl:DT n<=100000000000000) (hcn:Ex n<=1000000000000000)
  (hk:∀v st',Ap st st'->GK TV.str v (FQ (txt q) n a q hd)->K v (IJ n a q hd) st'):
  CallT PR D7 [.agg cs,.agg [.int .u8 a,.int .u8 q,.bool hd,.bool ty]] [.one .tv,.one (.int .i64)] st K:=by
 have tn:∀k:Nat,Int.toNat (k:Int)=k:=fun k=>rfl
 have w1:∀k:Nat,k<=100000000->i64.wrap ((k:Int)+1)=((k+1:Nat):Int):=fun k hk=>by rw[Ai _ (by omega) (by omega)];omega
 have hc0:=hc
 obtain⟨k,l,t,ks,tl⟩:=n
 unfold NdC at hc
 obtain⟨v,xs,rfl,hr,hx⟩:=hc
 refine Ks k l t v tl a q hd ty st K (Us hc0 hl hcn (fun st1 e1 ho=>?_) fun st1 e1 ho=>?_)
 case' refine_2=>
  refine Ar (fun _=>?_) fun h=>by cases h
  have:=hk .nilSlice st1 e1 (by unfold FQ;rw[if_neg ho];exact GK.nil _)
  unfold IJ at this
  rwa [if_neg ho]at this
 refine Ar (fun h=>by cases h) fun _=>Ab hr.isSl ?_
 have hfin:∀v st',Ap st st'->GK TV.str v (CZ (txt q) ks)->K v 0 st':=fun v st' e h=>by
  have:=hk v st' e (by unfold FQ;rw[if_pos ho];exact h)
  unfold IJ at this
  rwa [if_pos ho]at this
 obtain⟨rs,hn,hform,hlen,hrl,hkl⟩:=RE ho
 cases hn
 rw[hr.lenS]
 refine⟨fun out i v' n' a' q' b1 b2 st'=>v=v'/\(ks.length:Int)=n'/\a=a'/\q=q'/\hd=b1/\ty=b2/\Ap st st'/\∃j:Nat,i=(j:Int)/\j<=ks.length/\FX TV.str st.nt st' out (CZ (txt q) (ks.take j)),
  fun _ i _ _ _ _ _ _ _=>(ks.length-i).toNat,⟨rfl,rfl,rfl,rfl,rfl,rfl,e1,0,rfl,by omega,by rw[List.take_zero];exact FX.nil _ _ _⟩,?_⟩
 rintro out _ _ _ _ _ _ _ st2 ⟨rfl,rfl,rfl,rfl,rfl,rfl,e2,j,rfl,hj,hg⟩
 rw[hr.lenZ,tn]
 refine Aa (fun g=>?_) fun g=>?_
 case' refine_2=>
  rw[List.take_of_length_le (by omega)]at hg
  exact hfin _ _ e2 hg.rd
 have hlt:j<ks.length:=by omega
 have hget:=List.getElem?_eq_getElem hlt
 generalize ks[j]=r at hget
 have hrf:=hform r (Bb hget)
 have hrk:=hkl r (Bb hget)
 obtain⟨ents,tail,rfl,hne,hents⟩:=hrf
 obtain⟨rc,hrc,hld⟩:=Ma hr hx st2 hget
 unfold NdC at hrc
 obtain⟨u,ys,rfl,hu,hy⟩:=hrc
 refine⟨⟨by omega,by omega⟩,Ad hld (Ia (Ab (D1 hu.one) (Ab hu.isSl ?_)))⟩
 rw[hu.lenS]
 simp only[Aw]at hrk
 refine⟨fun li m out' v' n' i' u' m' a' q' b1 b2 st'=>out=out'/\v=v'/\(ks.length:Int)=n'/\(j:Int)=i'/\u=u'/\(ents.length:Int)=m'/\a=a'/\q=q'/\hd=b1/\ty=b2/\Ap st2 st'/\∃p:Nat,m=(p:Int)/\p<=ents.length/\Own st2.nt 1 st' li p (((ents.take p).map fun k=>txt q (AM k)).map TV.str),
  fun _ m _ _ _ _ _ _ _ _ _ _ _=>(ents.length-m).toNat,⟨rfl,rfl,rfl,rfl,rfl,rfl,rfl,rfl,rfl,rfl,Ap.refl _,0,rfl,by omega,Own.nil _ _ _⟩,?_⟩
 rintro li _ _ _ _ _ _ _ _ _ _ _ st3 ⟨rfl,rfl,rfl,rfl,rfl,rfl,rfl,rfl,rfl,rfl,e3,p,rfl,hp,hli⟩
 rw[hu.lenZ,tn]
 refine Aa (fun g2=>?_) fun g2=>?_
 ·have hlt2:p<ents.length:=by omega
  have hget2:=List.getElem?_eq_getElem hlt2
  generalize ents[p]=en at hget2
  have hef:=hents en (Bb hget2)
  obtain⟨ec,hec,hld2⟩:=Ma hu hy st3 hget2
  obtain⟨w,zs,rfl,hw,hpos,hwl,hwp⟩:=Xs hef hec
  refine⟨⟨by omega,by omega⟩,Ad hld2 (Ia (Ab (D1 hw.one) ?_))⟩
  rw[hw.lenZ]
  refine⟨⟨by omega,by omega⟩,Ab hwp (Ad (hwl _) (Al ?_))⟩
  have hcl:=hrk.2 en (Bb hget2)
  have hcw:Sp q (AM en):=by
   obtain⟨c,mark,rfl,hcw,_⟩:=hef
   exact hcw
  refine MC hcw (by omega) fun st4 e4=>?_
  refine Fy (e3.trans e4) rfl (hli.ext e4) (by omega) (fun h=>by cases h) fun v5 st5 e5 _ o5=>?_
  rw[w1 p (by omega)]
  refine⟨⟨rfl,rfl,rfl,rfl,rfl,rfl,rfl,rfl,rfl,rfl,e5,p+1,rfl,by omega,?_⟩,by dsimp only;omega⟩
  rw[List.take_add_one,hget2]
  simpa using o5
 ·have hpe:p=ents.length:=by omega
  rw[hpe,List.take_of_length_le (by omega)]at hli
  refine Ab (M8 hli.rd.one) (Ab (M8 hli.rd.one) ?_)
  refine(hg.ext e3).add (e2.trans e3) (row:=ents.map fun k=>txt q (AM k)) (by unfold Ll;rw[List.length_map];exact hli.rd) (by simp only[CZ,List.length_map,List.length_take];omega) fun v' st' e' hg'=>?_
  rw[w1 j (by omega)]
  refine⟨⟨rfl,rfl,rfl,rfl,rfl,rfl,e',j+1,rfl,by omega,?_⟩,by dsimp only;omega⟩
  rw[List.take_add_one,hget]
  simpa [CZ,Aw]using hg'
end
end
section
section
variable {n:Nd} {cs:List TV} {a q:Int} {hd ty:Bool} {st:St}
theorem S0 {K:TV->Int->St->Prop} (hc:NdC n cs) (hl:DT n<=100000000000000) (hcn:Ex n<=1000000000000000)
  (hk:∀v st',Ap st st'->GK TV.bool v (FQ (Bn q) n a q hd)->K v (IJ n a q hd) st'):
  CallT PR EC [.agg cs,.agg [.int .u8 a,.int .u8 q,.bool hd,.bool ty]] [.one .tv,.one (.int .i64)] st K:=by
 have tn:∀k:Nat,Int.toNat (k:Int)=k:=fun k=>rfl
 have w1:∀k:Nat,k<=100000000->i64.wrap ((k:Int)+1)=((k+1:Nat):Int):=fun k hk=>by rw[Ai _ (by omega) (by omega)];omega
 have hc0:=hc
 obtain⟨k,l,t,ks,tl⟩:=n
 unfold NdC at hc
 obtain⟨v,xs,rfl,hr,hx⟩:=hc
 refine LU k l t v tl a q hd ty st K (Us hc0 hl hcn (fun st1 e1 ho=>?_) fun st1 e1 ho=>?_)
 case' refine_2=>
  refine Ar (fun _=>?_) fun h=>by cases h
  have:=hk .nilSlice st1 e1 (by unfold FQ;rw[if_neg ho];exact GK.nil _)
  unfold IJ at this
  rwa [if_neg ho]at this
 refine Ar (fun h=>by cases h) fun _=>Ab hr.isSl ?_
 have hfin:∀v st',Ap st st'->GK TV.bool v (CZ (Bn q) ks)->K v 0 st':=fun v st' e h=>by
  have:=hk v st' e (by unfold FQ;rw[if_pos ho];exact h)
  unfold IJ at this
  rwa [if_pos ho]at this
 obtain⟨rs,hn,hform,hlen,hrl,hkl⟩:=RE ho
 cases hn
 rw[hr.lenS]
 refine⟨fun out i v' n' a' q' b1 b2 st'=>v=v'/\(ks.length:Int)=n'/\a=a'/\q=q'/\hd=b1/\ty=b2/\Ap st st'/\∃j:Nat,i=(j:Int)/\j<=ks.length/\FX TV.bool st.nt st' out (CZ (Bn q) (ks.take j)),
  fun _ i _ _ _ _ _ _ _=>(ks.length-i).toNat,⟨rfl,rfl,rfl,rfl,rfl,rfl,e1,0,rfl,by omega,by rw[List.take_zero];exact FX.nil _ _ _⟩,?_⟩
 rintro out _ _ _ _ _ _ _ st2 ⟨rfl,rfl,rfl,rfl,rfl,rfl,e2,j,rfl,hj,hg⟩
 rw[hr.lenZ,tn]
 refine Aa (fun g=>?_) fun g=>?_
 case' refine_2=>
  rw[List.take_of_length_le (by omega)]at hg
  exact hfin _ _ e2 hg.rd
 have hlt:j<ks.length:=by omega
 have hget:=List.getElem?_eq_getElem hlt
 generalize ks[j]=r at hget
 have hrf:=hform r (Bb hget)
 have hrk:=hkl r (Bb hget)
 obtain⟨ents,tail,rfl,hne,hents⟩:=hrf
 obtain⟨rc,hrc,hld⟩:=Ma hr hx st2 hget
 unfold NdC at hrc
 obtain⟨u,ys,rfl,hu,hy⟩:=hrc
 refine⟨⟨by omega,by omega⟩,Ad hld (Ia (Ab (D1 hu.one) (Ab hu.isSl ?_)))⟩
 rw[hu.lenS]
 simp only[Aw]at hrk
 refine⟨fun li m out' v' n' i' u' m' a' q' b1 b2 st'=>out=out'/\v=v'/\(ks.length:Int)=n'/\(j:Int)=i'/\u=u'/\(ents.length:Int)=m'/\a=a'/\q=q'/\hd=b1/\ty=b2/\Ap st2 st'/\∃p:Nat,m=(p:Int)/\p<=ents.length/\Own st2.nt 1 st' li p (((ents.take p).map fun k=>Bn q (AM k)).map TV.bool),
  fun _ m _ _ _ _ _ _ _ _ _ _ _=>(ents.length-m).toNat,⟨rfl,rfl,rfl,rfl,rfl,rfl,rfl,rfl,rfl,rfl,Ap.refl _,0,rfl,by omega,Own.nil _ _ _⟩,?_⟩
 rintro li _ _ _ _ _ _ _ _ _ _ _ st3 ⟨rfl,rfl,rfl,rfl,rfl,rfl,rfl,rfl,rfl,rfl,e3,p,rfl,hp,hli⟩
 rw[hu.lenZ,tn]
 refine Aa (fun g2=>?_) fun g2=>?_
 ·have hlt2:p<ents.length:=by omega
  have hget2:=List.getElem?_eq_getElem hlt2
  generalize ents[p]=en at hget2
  have hef:=hents en (Bb hget2)
  obtain⟨ec,hec,hld2⟩:=Ma hu hy st3 hget2
  obtain⟨w,zs,rfl,hw,hpos,hwl,hwp⟩:=Xs hef hec
  refine⟨⟨by omega,by omega⟩,Ad hld2 (Ia (Ab (D1 hw.one) ?_))⟩
  rw[hw.lenZ]
  refine⟨⟨by omega,by omega⟩,Ab hwp (Ad (hwl _) (Al ?_))⟩
  have hcl:=hrk.2 en (Bb hget2)
  have hcw:Sp q (AM en):=by
   obtain⟨c,mark,rfl,hcw,_⟩:=hef
   exact hcw
  refine MC hcw (by omega) fun st4 e4=>?_
  rw[show decide (¬(AM en=[]∨by_ (AM en) 0≠q))=Bn q (AM en)from rfl]
  refine Fy (e3.trans e4) rfl (hli.ext e4) (by omega) (fun h=>by cases h) fun v5 st5 e5 _ o5=>?_
  rw[w1 p (by omega)]
  refine⟨⟨rfl,rfl,rfl,rfl,rfl,rfl,rfl,rfl,rfl,rfl,e5,p+1,rfl,by omega,?_⟩,by dsimp only;omega⟩
  rw[List.take_add_one,hget2]
  simpa using o5
 ·have hpe:p=ents.length:=by omega
  rw[hpe,List.take_of_length_le (by omega)]at hli
  refine Ab (M8 hli.rd.one) (Ab (M8 hli.rd.one) ?_)
  refine(hg.ext e3).add (e2.trans e3) (row:=ents.map fun k=>Bn q (AM k)) (by unfold Ll;rw[List.length_map];exact hli.rd) (by simp only[CZ,List.length_map,List.length_take];omega) fun v' st' e' hg'=>?_
  rw[w1 j (by omega)]
  refine⟨⟨rfl,rfl,rfl,rfl,rfl,rfl,e',j+1,rfl,by omega,?_⟩,by dsimp only;omega⟩
  rw[List.take_add_one,hget]
  simpa [CZ,Aw]using hg'
end
end
section
def MX (a q:Int) (s:B8):Except Int B8:=if dOk a q=false then .error 1 else if vlen s=s.length then .ok (AU a q s)else .error 5
def xT:Except Int B8->B8 | .ok t=>t | .error _=>[]
def xE:Except Int B8->Int | .ok _=>0 | .error e=>e
theorem Ql {a q:Int} (h:dOk a q=true):(a=9∨(32<=a/\a<=126))/\33<=q/\q<=126/\a≠q:=by
 unfold dOk at h
 exact(of_decide_eq_true h).1
theorem Tc {a q:Int} {s:B8} {j:Nat} (h:j<s.length):DB a q (s.take (j+1))=(DB a q (s.take j) || decide (by_ s j=a∨by_ s j=q∨by_ s j=10∨by_ s j=13)):=by
 unfold DB
 rw[D5 s j 0 h,List.any_append]
 simp only[List.any_cons,List.any_nil,Bool.or_false]
 rfl
theorem Ij {a q:Int} {s:B8} {j:Nat} (h:j<s.length) (hb:by_ s j=a∨by_ s j=q∨by_ s j=10∨by_ s j=13):DB a q s=true:=by
 unfold DB
 rw[List.any_eq_true]
 refine⟨s.getD j 0,?_,decide_eq_true hb⟩
 rw[List.getD_eq_getElem?_getD,List.getElem?_eq_getElem h]
 exact List.getElem_mem h
theorem Kf (c:UInt8):∀t:B8,(dbl c t).length<=2*t.length
 | []=>by simp[dbl]
 | b::t=>by
  have:=Kf c t
  rw[DO,List.length_append,List.length_cons]
  split<;>simp<;>omega
theorem Rx (a q:Int) (s:B8):(AU a q s).length<=2*s.length+2:=by
 unfold AU
 split
 ·have:=Kf (UInt8.ofNat q.toNat) s
  simp;omega
 ·omega
section
variable {a q:Int} {hd ty:Bool} {st:St}
theorem Vw {s:B8} {K:B8->Int->St->Prop} (hl:s.length<=2000000) (hk:K (xT (MX a q s)) (xE (MX a q s)) st):
  CallT PR DJ [.str s,.agg [.int .u8 a,.int .u8 q,.bool hd,.bool ty]] [.one .str,.one (.int .i64)] st K:=by
 have tn:∀k:Nat,Int.toNat (k:Int)=k:=fun k=>rfl
 have w1:∀k:Nat,k<=100000000->i64.wrap ((k:Int)+1)=((k+1:Nat):Int):=fun k hk=>by rw[Ai _ (by omega) (by omega)];omega
 unfold MX at hk
 refine Mt s a q hd ty st K (Ld (Ar (fun g=>?_) fun g=>?_))
 ·rw[if_pos (by simpa using g)]at hk;exact hk
 have gd:dOk a q=true:=by simpa using g
 rw[if_neg (by rw[gd];decide)]at hk
 have hdk:=Ql gd
 refine KA hl (Ar (fun g=>?_) fun g=>?_)
 ·rw[if_neg (by simpa using g)]at hk;exact hk
 rw[if_pos (by simpa using g)]at hk
 have hqn:=CL (q:=q) (by omega) (by omega)
 generalize hc:UInt8.ofNat q.toNat=c at hqn
 refine Ad (KF st c hqn) (Al ?_)
 refine⟨fun i s' q' n1 n2 b1 b2 st'=>s=s'/\[c]=q'/\a=n1/\q=n2/\hd=b1/\ty=b2/\st=st'/\∃j:Nat,i=(j:Int)/\j<=s.length/\DB a q (s.take j)=false,
  fun i _ _ _ _ _ _ _=>(s.length-i).toNat,⟨rfl,rfl,rfl,rfl,rfl,rfl,rfl,0,rfl,by omega,rfl⟩,?_⟩
 rintro _ _ _ _ _ _ _ _ ⟨rfl,rfl,rfl,rfl,rfl,rfl,rfl,j,rfl,hj,hnq⟩
 rw[tn]
 refine Aa (fun g1=>⟨⟨by omega,by omega⟩,?_⟩) fun g1=>?_
 ·have fin:DB a q s=true->CallT PR AE [.str s,.str [c],.str ([c]++[c])] [.one .str] st fun s4 st6=>(([c].length+s4.length<=9223372036854775807)/\((([c]++s4).length+ [c].length<=9223372036854775807)/\K ([c]++s4++[c]) 0 st6)):=fun hn=>by
   refine IH (by simp) (by omega) ?_
   have hdl:=Kf c s
   unfold dbl at hdl
   refine⟨by simp only[List.length_cons,List.length_nil];omega,by simp only[List.length_append,List.length_cons,List.length_nil];omega,?_⟩
   unfold AU at hk
   rw[if_pos hn,hc]at hk
   exact hk
  refine Aa (fun q1=>⟨by simp,fin (Ij (j:=j) (by omega) (.inl q1))⟩) fun q1=>Aa (fun q2=>⟨by simp,fin (Ij (j:=j) (by omega) (.inr (.inl q2)))⟩) fun q2=>Aa (fun q3=>⟨by simp,fin (Ij (j:=j) (by omega) (.inr (.inr (.inl q3))))⟩) fun q3=>
   Aa (fun q4=>⟨by simp,fin (Ij (j:=j) (by omega) (.inr (.inr (.inr q4))))⟩) fun q4=>?_
  rw[w1 j (by omega)]
  refine⟨⟨rfl,rfl,rfl,rfl,rfl,rfl,rfl,j+1,rfl,by omega,?_⟩,by dsimp only;omega⟩
  rw[Tc (by omega),hnq,Bool.false_or]
  exact decide_eq_false (by rintro(h | h | h | h);exact q1 h;exact q2 h;exact q3 h;exact q4 h)
 ·rw[List.take_of_length_le (by omega)]at hnq
  unfold AU at hk
  rw[if_neg (by rw[hnq];decide)]at hk
  exact hk
end
end
section
def Ni (a q:Int):List B8->B8
 | []=>[]
 | [c]=>AU a q c
 | c::r=>AU a q c++UInt8.ofNat a.toNat::Ni a q r
theorem RK (a q:Int):∀cs,BQ a q cs=Ni a q cs++[10]
 | []=>rfl
 | [c]=>rfl
 | c::d::r=>by simp only[BQ,Ni];rw[RK a q (d::r)];simp
def TZ (cs:List B8):Bool:=cs.all fun c=>decide (vlen c=c.length)
def LY (cs:List B8):Nat:=match cs with | []=>0 | c::r=>c.length+LY r
theorem OX (a q:Int):∀cs,(Ni a q cs).length<=2*LY cs+3*cs.length
 | []=>by simp[Ni]
 | [c]=>by have:=Rx a q c;simp[Ni,LY];omega
 | c::d::r=>by
  have h1:=Rx a q c
  have h2:=OX a q (d::r)
  simp only[Ni,List.length_append,List.length_cons,LY]at h2⊢
  omega
section
variable {a q:Int} {hd ty:Bool} {st:St}
end
end
section
def Oa (l:List (List B8)):Nat:=match l with | []=>0 | r::rs=>LY r+Oa rs
def Hd (l:List (List B8)):Nat:=match l with | []=>0 | r::rs=>r.length+Hd rs
theorem Q5 {l:List (List B8)} {j:Nat} {r:List B8} (h:l[j]? =some r):LY r<=Oa l/\r.length<=Hd l:=by
 induction l generalizing j with
 | nil=>simp at h
 | cons d rs ih=>
  cases j with
  | zero=>simp only[List.getElem?_cons_zero,Option.some.injEq]at h;subst h;simp[Oa,Hd]
  | succ j=>
   have:=ih (j:=j) (by simpa using h)
   simp only[Oa,Hd];omega
section
variable {a q:Int} {hd ty:Bool} {st:St}
end
end
section
theorem WZ {s:B8} {a q:Int} {hd:Bool} {n:Nd} (hl:s.length<=70000) (h:Je s a q hd= .ok n):CU n=s/\Ki n=0/\H2 n a q hd:=by
 obtain⟨rs,rfl,_,_,_,_,_,hr,_⟩:=DZ h
 have ht:CU (.mk 1 [] [] rs [])=s:=by
  have:=HG.text hr (Nat.zero_le _)
  simp only[CU,List.nil_append,List.append_nil]
  rw[this];rfl
 have hlen:DT (.mk 1 [] [] rs [])=s.length:=by rw[<-D2,ht]
 have hc:Ki (.mk 1 [] [] rs [])=0:=by
  have hs0:(xU s a q).s.length=s.length:=rfl
  obtain⟨s',h1,h2,h3⟩:=VW hr (Nat.zero_le _) (s:=1) (by rw[hs0];omega)
  have h4:chk (.mk 1 [] [] rs []) 1 0= .ok s':=by
   have l1:IL 1=false:=by decide
   simp only[chk,l1]
   rw[if_neg (by omega),if_neg (by omega),if_neg (by omega),if_neg (by simp)]
   exact h1
  unfold Ki
  rw[h4]
  simp only
  rw[if_neg (by omega)]
 exact⟨ht,hc,hc,by rw[ht];exact h⟩
theorem RL {s:B8} {i:Nat} {p:Nat×Int} (h:Db s i= .error p):p.2≠0:=by
 obtain⟨o,c⟩:=p
 rcases VG h with h | h<;>simp[h.2]
theorem entE_ne {x:Cx} {hd:Bool} {i:Nat} {v:Int} {ns:List B8} {p:Nat×Int} (h:Eb x hd i v ns= .error p):p.2≠0:=by
 have hR:∀v,Tx x hd i v ns= .error p->p.2≠0:=fun v h=>by
  unfold Tx at h
  split at h
  ·rename_i e he
   cases h
   exact V0 (o:=p.1) (c:=p.2) he
  ·rename_i e he
   by_cases h1:(if hd then 1024 else 65536)<(txt x.q (slc x.s i e)).length
   ·rw[if_pos h1]at h;cases h;simp
   ·by_cases h2:hd=true/\txt x.q (slc x.s i e)∈ns
    ·rw[if_neg h1,if_pos h2]at h;cases h;simp
    ·rw[if_neg h1,if_neg h2]at h;cases h
 rw[Qd]at h
 split at h
 ·exact hR v h
 ·split at h
  ·rename_i e he
   cases h
   exact Sj (o:=p.1) (c:=p.2) he
  ·exact hR _ h
theorem Up {x:Cx} {num hd:Bool} {wid:Int}:∀(n:Nat) {acc:List Nd} {i:Nat} {v:Int} {ns:List B8} {p:Nat×Int},i<=x.s.length->x.s.length<i+n->B2 x num wid hd n acc i v ns= .error p->p.2≠0
 | 0,acc,i,v,ns,p,h1,h2,h=>by omega
 | n+1,acc,i,v,ns,p,h1,h2,h=>by
  rw[OI]at h
  split at h
  ·cases h;simp
  split at h
  ·rename_i e he;cases h;exact entE_ne he
  ·rename_i e v1 ns1 he
   have hle:=UF h1 he
   split at h
   ·exact Up n (by omega) (by omega) h
   ·split at h
    ·rename_i e2 he2;cases h;exact RL he2
    ·cases h
theorem recD_ne {x:Cx} {num hd:Bool} {wid:Int} {i:Nat} {v:Int} {ns:List B8} {p:Nat×Int} (hi:i<=x.s.length) (h:F3 x num wid hd i v ns= .error p):p.2≠0:=by
 have hK:∀v,HZ x.s num wid (B2 x num wid hd (x.s.length+1) [] i v ns)= .error p->p.2≠0:=fun v h=>by
  unfold HZ at h
  rcases hr:B2 x num wid hd (x.s.length+1) [] i v ns with e | ⟨e,v2,ns2,ks⟩
  ·rw[hr]at h;cases h;exact Up _ hi (by omega) hr
  ·rw[hr]at h
   simp only at h
   cases hn7:Db x.s e with
   | error e2=>rw[hn7]at h;cases h;exact RL hn7
   | ok n7=>
    rw[hn7]at h
    simp only at h
    by_cases hw:(ks.length:Int)<(if num then wid else(ks.length:Int))
    ·rw[if_pos hw]at h;cases h;simp
    ·rw[if_neg hw]at h;cases h
 rw[FH]at h
 split at h
 ·exact hK v h
 ·split at h
  ·rename_i e he;cases h;exact Sj (o:=p.1) (c:=p.2) he
  ·exact hK _ h
theorem UI {x:Cx} {hdr:Bool}:∀(n:Nat) {acc:List Nd} {i:Nat} {v:Int} {ns:List B8} {wid:Int} {p:Nat×Int},i<=x.s.length->x.s.length<i+n->DN x hdr n acc i v ns wid= .error p->p.2≠0
 | 0,acc,i,v,ns,wid,p,h1,h2,h=>by omega
 | n+1,acc,i,v,ns,wid,p,h1,h2,h=>by
  rw[Pc]at h
  split at h
  ·cases h
  split at h
  ·rename_i e he;cases h;exact recD_ne h1 he
  ·rename_i i' v' ns' r wid' he
   have hle:=Uq (by omega) he
   exact UI n (by omega) (by omega) h
theorem S6 {x:Cx} {hd:Bool} {l2 l3 l4:Int} {p:Nat×Int} (h:AZ x hd l2 l3 l4= .error p):p.2≠0:=by
 unfold AZ at h
 split at h
 ·cases h;simp
 split at h
 ·cases h;simp
 split at h
 ·cases h;simp
 split at h
 ·cases h;simp
 split at h
 ·rename_i e he;cases h;exact UI _ (by omega) (by omega) he
 ·cases h
section
variable {a q:Int} {hd ty:Bool} {st:St}
theorem MV {K:Int->Int->Bool->Bool->St->Prop} (hk:K 44 34 true true st):CallT PR BE [] [.agg [.int .u8,.int .u8,.bool,.bool]] st K:=Hw st K hk
end
end
section
theorem Ow {a q:Int} (h0:0<=q) (h1:q<128) {s:B8} (hv:vlen s=s.length):vlen (AU a q s)=(AU a q s).length:=by
 have hc:=CL (q:=q) h0 (by omega)
 unfold AU
 split
 ·exact BH (by omega) (BJ (QQ (by omega) _ s (Nat.le_refl _) hv) (BH (by omega) (by simp[Cc])))
 ·exact hv
theorem Ml {a q:Int} (ha0:0<=a) (ha1:a<128) (h0:0<=q) (h1:q<128):∀(cs:List B8),TZ cs=true->vlen (BQ a q cs)=(BQ a q cs).length
 | [],_=>by simp only[BQ];exact BH (by decide) (by simp[Cc])
 | [c],h=>by
  unfold TZ at h
  simp only[List.all_cons,List.all_nil,Bool.and_true,decide_eq_true_eq]at h
  simp only[BQ]
  exact BJ (Ow h0 h1 h) (BH (by decide) (by simp[Cc]))
 | c::d::r,h=>by
  have h':TZ (d::r)=true:=by unfold TZ at h⊢;simp only[List.all_cons,Bool.and_eq_true]at h⊢;exact h.2
  unfold TZ at h
  simp only[List.all_cons,Bool.and_eq_true,decide_eq_true_eq]at h
  have ha:=CL (q:=a) ha0 (by omega)
  simp only[BQ]
  exact BJ (Ow h0 h1 h.1) (BH (by omega) (Ml ha0 ha1 h0 h1 (d::r) h'))
theorem Mj {a q:Int} (ha0:0<=a) (ha1:a<128) (h0:0<=q) (h1:q<128):∀(l:List (List B8)),(∀r∈l,TZ r=true)->vlen (BO a q l)=(BO a q l).length
 | [],_=>by simp[BO,Cc]
 | r::rs,h=>by
  have:BO a q (r::rs)=BQ a q r++BO a q rs:=by simp[BO]
  rw[this]
  exact BJ (Ml ha0 ha1 h0 h1 r (h r (List.mem_cons_self ..))) (Mj ha0 ha1 h0 h1 rs fun r hr=>h r (List.mem_cons_of_mem _ hr))
theorem Oz (a q:Int):∀l:List (List B8),(BO a q l).length<=2*Oa l+3*Hd l+l.length
 | []=>by simp[BO]
 | r::rs=>by
  have ih:=Oz a q rs
  have h1:=OX a q r
  have:BO a q (r::rs)=BQ a q r++BO a q rs:=by simp[BO]
  rw[this,RK]
  simp only[List.length_append,List.length_cons,List.length_nil,Oa,Hd];omega
theorem Q4 {cs:List B8} {c:B8} (h:c∈cs):c.length<=LY cs:=by
 induction cs with
 | nil=>cases h
 | cons d r ih=>
  simp only[LY]
  rcases List.mem_cons.1 h with rfl | h
  ·omega
  ·have:=ih h;omega
theorem R9:∀(rs:List Nd) (l:List (List B8)) (f:B8->B8),rs.map (fun r=>(Aw r).map AM)=l.map (fun cs=>cs.map f)->Dy rs=(l.length:Int)+Hd l
 | [],[],f,h=>by simp[Dy,Hd]
 | [],_::_,f,h=>by simp at h
 | _::_,[],f,h=>by simp at h
 | r::rs,c::l,f,h=>by
  simp only[List.map_cons,List.cons.injEq]at h
  have h1:=congrArg List.length h.1
  rw[List.length_map,List.length_map]at h1
  have ih:=R9 rs l f h.2
  simp only[Dy,IT,Hd,List.length_cons];omega
theorem back {a q:Int} (hd:dOk a q=true) {l:List (List B8)} {W:Nat} (h:∀r∈l,r≠ []/\r.length=W/\TZ r=true) (hs:Oa l<=3000) (hc:Hd l<=200) (hl:l.length<=40):
  ∃rs,Je (BO a q l) a q false= .ok (.mk 1 [] [] rs [])/\CZ (txt q) rs=l/\(BO a q l).length<=10000:=by
 have hk:=Ql hd
 have hsp:BP 10=false:=by decide
 have ha10:a≠10:=by omega
 obtain⟨rs,hr,hm⟩:=MU (a:=a) (q:=q) (by omega) (by omega) (by omega) (by omega) (by omega) (by omega) (by omega) ha10 l [] fun cs hcs=>(h cs hcs).1
 rw[List.nil_append,List.length_nil]at hr
 have hlen:=Oz a q l
 have hv:=Mj (a:=a) (q:=q) (by omega) (by omega) (by omega) (by omega) l fun r hr=>(h r hr).2.2
 have hmem:∀r∈rs,∃cs∈l,(Aw r).map AM=cs.map (AU a q):=by
  intro r hr1
  have:(Aw r).map AM∈rs.map (fun r=>(Aw r).map AM):=List.mem_map.2 ⟨r,hr1,rfl⟩
  rw[hm]at this
  obtain⟨cs,hcs,he⟩:=List.mem_map.1 this
  exact⟨cs,hcs,he.symm⟩
 have hdoc:=Qf (x:=xU (BO a q l) a q) (show(3:Int)<=48 by decide) (W:=(W:Int)) hr ((BO a q l).length+1) (acc:=[]) (v:=1) (ns:=[]) (wid:=0) (Nat.zero_le _) (by show(BO a q l).length<_;omega) (fun r hr1 k hk1=>by
   obtain⟨cs,hcs,he⟩:=hmem r hr1
   have:AM k∈(Aw r).map AM:=List.mem_map.2 ⟨k,hk1,rfl⟩
   rw[he]at this
   obtain⟨c,hcc,hce⟩:=List.mem_map.1 this
   show(txt q (AM k)).length<=_
   rw[<-hce,QZ (by omega) (by omega)]
   have h1:=Q4 hcc
   obtain⟨j,hj⟩:=List.getElem?_of_mem hcs
   have h2:=(Q5 hj).1
   omega) (fun h=>absurd rfl h) (fun r hr1=>by
   obtain⟨cs,hcs,he⟩:=hmem r hr1
   have h1:=congrArg List.length he
   rw[List.length_map,List.length_map,(h cs hcs).2.1]at h1
   omega) (by rw[R9 rs l _ hm];show _<=(65536:Int);omega)
 refine⟨rs,?_,?_,by omega⟩
 ·show AZ (xU (BO a q l) a q) false 1048576 1024 65536=_
  unfold AZ
  rw[if_neg (show ¬dOk a q=false by rw[hd];decide),if_neg (show ¬lOk 48 65536 1048576 1024 65536=false by decide),if_neg (show ¬(1048576:Int)<((BO a q l).length:Int) by omega),if_neg (show ¬vlen (BO a q l)≠(BO a q l).length by rw[hv];simp)]
  rw[show DN (xU (BO a q l) a q) false ((xU (BO a q l) a q).s.length+1) [] 0 1 [] 0= .ok ([]++rs)from hdoc]
  rfl
 ·unfold CZ
  have:(rs.map fun r=>(Aw r).map fun k=>txt q (AM k))=(rs.map fun r=>(Aw r).map AM).map fun cs=>cs.map (txt q):=by
   rw[List.map_map];congr 1;funext r;simp
  rw[this,hm,List.map_map]
  conv=>rhs;rw[<-List.map_id l]
  congr 1;funext cs
  simp only[Function.comp_apply,List.map_map,id]
  conv=>rhs;rw[<-List.map_id cs]
  congr 1;funext c
  exact QZ (by omega) (by omega) c
section
variable {a q:Int} {hd ty:Bool} {st:St}
end
end
def Hk (a q:Int) (c:B8):Prop:=∀(pre:B8) (b:UInt8) (post:B8),((b.toNat:Int)=a∨(b.toNat:Int)=10)->BZ a q (pre++c++b::post) pre.length= .ok (pre.length+c.length)
structure Os (a q:Int):Prop where
 a0:0<=a
 a1:a<128
 q0:0<=q
 q1:q<128
 aq:a≠q
 q10:q≠10
 q13:q≠13
 a10:a≠10
 sa:BP a=false
 sq:BP q=false
theorem Xx {a q:Int} (h:dOk a q=true):Os a q:=by
 have hk:=Ql h
 unfold dOk at h
 rw[decide_eq_true_eq]at h
 exact⟨by omega,by omega,by omega,by omega,by omega,by omega,by omega,by omega,h.2.1,h.2.2⟩
theorem Sh {a q:Int} (d:Os a q) (s:B8):Hk a q (AU a q s):=fun pre b post hb=>Js d.q0 (by have:=d.q1;omega) d.aq d.q10 d.q13 pre s b post hb
theorem Hg {a q:Int} (d:Os a q) {c:B8} (h:DB a q c=false):Hk a q c:=by
 have:=Sh d c
 unfold AU at this
 rwa [if_neg (by rw[h];decide)]at this
def F4 (q:Int) (s:B8):B8:=UInt8.ofNat q.toNat::(dbl (UInt8.ofNat q.toNat) s++[UInt8.ofNat q.toNat])
theorem quoC_eq (a q:Int) (s:B8):AU a q s=if DB a q s=true then F4 q s else s:=rfl
theorem Wi {q:Int} (h:0<=q) (h2:q<=255) (s:B8):txt q (F4 q s)=s:=IZ (CL h h2)
theorem LE {a q:Int} (d:Os a q) (c:B8):Hk a q (F4 q c):=by
 intro pre b post hb
 have hq1:=d.q1
 have hqb:=CL d.q0 (by omega:q<=255)
 have hd:(pre++F4 q c++b::post).drop pre.length=F4 q c++b::post:=by rw[List.append_assoc,List.drop_left]
 have hby:by_ (pre++F4 q c++b::post) pre.length=q:=by
  have:(pre++F4 q c++b::post).getD pre.length 0=((pre++F4 q c++b::post).drop pre.length).getD 0 0:=by rw[Io];rfl
  unfold by_
  rw[this,hd];exact hqb
 have hlen:pre.length<(pre++F4 q c++b::post).length:=by simp only[List.length_append,List.length_cons];omega
 have hQ:QE q (pre++F4 q c++b::post) (pre.length+1)=some (pre.length+(F4 q c).length):=by
  unfold QE
  rw[<-List.drop_drop,hd]
  have:=L7 hqb c (b::post) (pre.length+1) (fun b' l' h=>by cases h;have:=d.aq;have:=d.q10;omega)
  unfold F4
  simp only[List.cons_append,List.drop_succ_cons,List.drop_zero,List.append_assoc,List.nil_append]
  rw[this]
  congr 1
  simp;omega
 unfold BZ
 rw[if_pos ⟨hlen,hby⟩,hQ]
def CV (a:Int):List B8->B8
 | []=>[10]
 | [c]=>c++[10]
 | c::r=>c++UInt8.ofNat a.toNat::CV a r
theorem Ny {a q:Int} (d:Os a q):∀(cs:List B8) (pre post:B8),cs≠ []->(∀c,c∈cs->Hk a q c)->
  ∃ks e,Hj a q (pre++CV a cs++post) pre.length ks e 1/\e+1=pre.length+(CV a cs).length/\ks.map AM=cs/\slc (pre++CV a cs++post) e (e+1)=[10]
 | [],pre,post,h,_=>absurd rfl h
 | [c],pre,post,_,hok=>by
  have hs:pre++CV a [c]++post=pre++c++10::post:=by simp[CV]
  have hc:=hok c (by simp) pre 10 post (.inr rfl)
  rw[hs]
  have hlt:pre.length+c.length<(pre++c++10::post).length:=by simp
  have hb:(pre++c++10::post).getD (pre.length+c.length) 0=10:=by
   have:(pre++c).length=pre.length+c.length:=by simp
   rw[<-this,List.getD_eq_getElem?_getD,List.getElem?_append_right (Nat.le_refl _)]
   simp
  have hby:by_ (pre++c++10::post) (pre.length+c.length)=10:=by unfold by_;rw[hb];rfl
  refine⟨_,_,.last hc (by rintro⟨_,h⟩;rw[hby]at h;exact d.a10 h.symm) ?_,?_,?_,?_⟩
  ·unfold Db;rw[if_neg (by omega),if_pos hby]
  ·simp[CV];omega
  ·simp only[List.map_cons,List.map_nil,BX]
   congr 1
   unfold slc
   rw[show pre.length+c.length=(pre++c).length by simp,List.take_left,List.drop_left]
  ·rw[PP hlt,hb]
 | c::c2::r,pre,post,_,hok=>by
  have hs:pre++CV a (c::c2::r)++post=pre++c++UInt8.ofNat a.toNat::(CV a (c2::r)++post):=by simp[CV]
  have hs2:pre++c++UInt8.ofNat a.toNat::(CV a (c2::r)++post)=(pre++c++[UInt8.ofNat a.toNat])++CV a (c2::r)++post:=by simp
  have hab:=CL d.a0 (by have:=d.a1;omega:a<=255)
  have hc:=hok c (by simp) pre (UInt8.ofNat a.toNat) (CV a (c2::r)++post) (.inl hab)
  obtain⟨ks,e,h1,h2,h3,h4⟩:=Ny d (c2::r) (pre++c++[UInt8.ofNat a.toNat]) post (by simp) fun x hx=>hok x (.tail _ hx)
  rw[<-hs2]at h1 h4
  rw[hs]
  have hlt:pre.length+c.length<(pre++c++UInt8.ofNat a.toNat::(CV a (c2::r)++post)).length:=by simp
  have hb:(pre++c++UInt8.ofNat a.toNat::(CV a (c2::r)++post)).getD (pre.length+c.length) 0=UInt8.ofNat a.toNat:=by
   have:(pre++c).length=pre.length+c.length:=by simp
   rw[<-this,List.getD_eq_getElem?_getD,List.getElem?_append_right (Nat.le_refl _)]
   simp
  have hpl:(pre++c++[UInt8.ofNat a.toNat]).length=pre.length+c.length+1:=by simp;omega
  rw[hpl]at h1 h2
  refine⟨_,_,.more hc hlt (by unfold by_;rw[hb];exact hab) h1,?_,?_,h4⟩
  ·simp only[CV,List.length_append,List.length_cons];omega
  ·simp only[List.map_cons,BX]
   rw[h3]
   congr 1
   unfold slc
   rw[show pre.length+c.length=(pre++c).length by simp,List.take_left,List.drop_left]
def CS (a:Int) (l:List (List B8)):B8:=l.flatMap (CV a)
theorem MT {a q:Int} (d:Os a q):∀(l:List (List B8)) (pre:B8),(∀cs,cs∈l->cs≠ []/\∀c,c∈cs->Hk a q c)->
  ∃rs,HG a q (pre++CS a l) pre.length rs/\rs.map (fun r=>(Aw r).map AM)=l
 | [],pre,h=>⟨[],.nil (by simp[CS]),rfl⟩
 | cs::l,pre,h=>by
  have hs:pre++CS a (cs::l)=pre++CV a cs++CS a l:=by simp[CS]
  obtain⟨ks,e,h1,h2,h3,h4⟩:=Ny d cs pre (CS a l) (h cs (by simp)).1 (h cs (by simp)).2
  obtain⟨rs,h5,h6⟩:=MT d l (pre++CV a cs) (fun c hc=>h c (.tail _ hc))
  rw[hs]
  rw[List.length_append]at h5
  have hle:=h1.le (by simp)
  refine⟨_,.cons (by simp only[List.length_append]at hle⊢;omega) h1 (by rw[h2];exact h5),?_⟩
  rw[List.map_cons,h6]
  show ks.map AM::_=_
  rw[h3]
theorem Mk {a:Int} (h0:0<=a) (h1:a<128):∀cs:List B8,(∀c,c∈cs->vlen c=c.length)->vlen (CV a cs)=(CV a cs).length
 | [],_=>Dn [10] rfl
 | [c],h=>BJ (h c (by simp)) (Dn [10] rfl)
 | c::c2::r,h=>by
  have hab:=CL h0 (by omega:a<=255)
  exact BJ (h c (by simp)) (BH (by omega) (Mk h0 h1 (c2::r) fun x hx=>h x (.tail _ hx)))
theorem Mi {a:Int} (h0:0<=a) (h1:a<128):∀l:List (List B8),(∀r,r∈l->∀c,c∈r->vlen c=c.length)->vlen (CS a l)=(CS a l).length
 | [],_=>Ko
 | r::l,h=>BJ (Mk h0 h1 r (h r (by simp))) (Mi h0 h1 l fun x hx=>h x (.tail _ hx))
theorem R0 {x:Cx} {i:Nat} {v:Int} {ns:List B8} {e:Nat} (h3:BZ x.a x.q x.s i= .ok e) (h4:(txt x.q (slc x.s i e)).length<=1024) (h5:txt x.q (slc x.s i e)∉ns):
  Eb x true i v ns= .ok (e,v,txt x.q (slc x.s i e)::ns):=by
 simp only[Eb,if_true,true_and,bind,Except.bind,h3]
 rw[if_neg (by omega),if_neg h5]
def Fg (q:Int) (ks:List Nd):List B8:=ks.map fun k=>txt q (AM k)
theorem Wz {x:Cx} {num:Bool} {wid:Int}:∀{i:Nat} {ks:List Nd} {e m:Nat},Hj x.a x.q x.s i ks e m->∀(n:Nat) {acc:List Nd} {v:Int} {ns:List B8},
  i<=x.s.length->x.s.length<i+n->(∀t,t∈Fg x.q ks->t.length<=1024/\t∉ns)->(Fg x.q ks).Nodup->(num=true->((acc.length+ks.length:Nat):Int)<=wid)->∃ns',B2 x num wid true n acc i v ns= .ok (e,v,ns',acc++ks):=by
 intro i ks e m h
 induction h with
 | @last i e m h1 h2 h3=>
  intro n acc v ns hi hn hk hnd hw
  cases n with
  | zero=>omega
  | succ n=>
  simp only[B2]
  rw[if_neg (by rintro⟨h,h'⟩;have:=hw h;simp at this;omega)]
  have hc:=hk _ (List.mem_singleton.2 rfl)
  dsimp only at hc
  rw[BX]at hc
  rw[R0 h1 hc.1 hc.2]
  simp only[bind,Except.bind]
  rw[if_neg h2,h3]
  exact⟨_,rfl⟩
 | @more i e e' m ks h1 h2 h3 h4 ih=>
  intro n acc v ns hi hn hk hnd hw
  cases n with
  | zero=>omega
  | succ n=>
  simp only[B2]
  simp only[List.length_cons]at hw
  rw[if_neg (by rintro⟨h,h'⟩;have:=hw h;omega)]
  have hc:=hk _ (List.mem_cons_self ..)
  dsimp only at hc
  rw[BX]at hc
  rw[R0 h1 hc.1 hc.2]
  simp only[bind,Except.bind]
  rw[if_pos ⟨h2,h3⟩]
  have hnd2:txt x.q (slc x.s i e)∉Fg x.q ks/\(Fg x.q ks).Nodup:=by
   have:=List.nodup_cons.1 hnd
   dsimp only at this
   rwa [BX]at this
  have hle:=Ch hi h1
  obtain⟨ns',hr⟩:=ih n (acc:=acc++[Jo x.s i e [.mk 11 [] [x.s.getD e 0] [] []]]) (v:=v) (ns:=txt x.q (slc x.s i e)::ns) (by omega) (by omega) (fun t ht=>⟨(hk t (List.mem_cons_of_mem _ ht)).1,fun hm=>by
   rcases List.mem_cons.1 hm with rfl | hm
   ·exact hnd2.1 ht
   ·exact(hk t (List.mem_cons_of_mem _ ht)).2 hm⟩) hnd2.2 (fun hn=>by have:=hw hn;simp;omega)
  rw[hr,List.append_assoc]
  exact⟨ns',rfl⟩
theorem WC {x:Cx} {num:Bool} {wid:Int} {i:Nat} {ks:List Nd} {e m:Nat} (h:Hj x.a x.q x.s i ks e m) {v:Int} {ns:List B8}
  (hi:i<=x.s.length) (hk:∀t,t∈Fg x.q ks->t.length<=1024/\t∉ns) (hnd:(Fg x.q ks).Nodup) (hw:num=true->(ks.length:Int)=wid):
  ∃ns',F3 x num wid true i v ns= .ok (e+m,v,ns',.mk 8 [] [] ks (slc x.s e (e+m)),(ks.length:Int)):=by
 have hl:=h.le hi
 obtain⟨ns',hr⟩:=Wz (num:=num) (wid:=wid) h (x.s.length+1) (acc:=[]) (v:=v) (ns:=ns) hi (by omega) hk hnd (fun hn=>by rw[List.length_nil,Nat.zero_add,hw hn];omega)
 refine⟨ns',?_⟩
 rw[FH,if_pos rfl,hr]
 unfold HZ
 simp only[hl.2.2.2.2]
 cases num with
 | true=>have:=hw rfl;simp only[if_true,List.nil_append];rw[<-this,if_neg (by omega)]
 | false=>simp only[Bool.false_eq_true,if_false,List.nil_append];rw[if_neg (by omega)]
theorem Xv {x:Cx} (hdep:3<=x.dep) {W:Int} {hdr:Bool} {rs:List Nd} (h:HG x.a x.q x.s 0 rs) (n:Nat) (hn:x.s.length<n)
  (hk:∀r,r∈rs->∀k,k∈Aw r->(txt x.q (AM k)).length<=65536) (hW:∀r,r∈rs->((Aw r).length:Int)=W) (hv:1+DP hdr rs<=x.nod)
  (hh:hdr=true->∀r,rs.head? =some r->(Fg x.q (Aw r)).Nodup/\∀t,t∈Fg x.q (Aw r)->t.length<=1024):DN x hdr n [] 0 1 [] 0= .ok rs:=by
 cases hdr with
 | false=>exact Qf hdep h n (acc:=[]) (Nat.zero_le _) (by omega) hk (fun h=>absurd rfl h) hW hv
 | true=>
  cases h with
  | nil h=>
   cases n with
   | zero=>omega
   | succ n=>simp only[DN];rw[if_pos h]
  | @cons _ e m ks rs h1 h2 h3=>
   cases n with
   | zero=>omega
   | succ n=>
   have hle:=h2.le (Nat.zero_le _)
   obtain⟨hnd,hl⟩:=hh rfl _ rfl
   have hks:(ks.length:Int)=W:=hW _ (List.mem_cons_self ..)
   have hm:0<e+m:=by
    rcases Nat.eq_zero_or_pos m with h0 | h0
    ·have:=(Fi (by omega) hle.2.2.2.2).2.1 h0;omega
    ·omega
   obtain⟨ns',hr⟩:=WC (num:=false) (wid:=0) h2 (v:=1) (ns:=[]) (Nat.zero_le _) (fun t ht=>⟨hl t ht,by simp⟩) hnd (fun h=>by cases h)
   simp only[DN,List.isEmpty_nil,Bool.and_true,Bool.not_true]
   rw[if_neg (by omega),hr]
   simp only[bind,Except.bind,List.nil_append]
   have:=Qf hdep h3 n (acc:=[.mk 8 [] [] ks (slc x.s e (e+m))]) (v:=1) (ns:=ns') (wid:=(ks.length:Int)) (by omega) (by omega) (fun r hr=>hk r (List.mem_cons_of_mem _ hr)) (fun _=>hks) (fun r hr=>hW r (List.mem_cons_of_mem _ hr)) (by
    unfold DP at hv;simpa using hv)
   have e2:∀(n:Nat) (acc:List Nd) (i:Nat) (v:Int) (ns:List B8) (wid:Int),acc≠ []->DN x true n acc i v ns wid=DN x false n acc i v ns wid:=by
    intro n
    induction n with
    | zero=>intros;rfl
    | succ n ih=>
     intro acc i v ns wid ha
     have hb:acc.isEmpty=false:=by cases acc;exact absurd rfl ha;rfl
     simp only[DN,hb,Bool.and_false,Bool.not_false]
     split
     ·rfl
     ·simp only[bind,Except.bind]
      split
      ·rfl
      ·exact ih _ _ _ _ _ (by simp)
   rw[e2 _ _ _ _ _ _ (by simp),this]
   rfl
theorem Pi:∀(rs:List Nd) (l:List (List B8)),rs.map (fun r=>(Aw r).map AM)=l->Dy rs=(l.length:Int)+Hd l
 | [],[],h=>by simp[Dy,Hd]
 | [],_::_,h=>by simp at h
 | _::_,[],h=>by simp at h
 | r::rs,c::l,h=>by
  simp only[List.map_cons,List.cons.injEq]at h
  have h1:=congrArg List.length h.1
  rw[List.length_map]at h1
  have ih:=Pi rs l h.2
  simp only[Dy,IT,Hd,List.length_cons];omega
theorem TC (hd:Bool) (rs:List Nd):DP hd rs<=Dy rs:=by
 unfold DP
 split
 ·cases rs with
  | nil=>simp[Dy]
  | cons r rs=>simp only[List.tail_cons,Dy,IT];omega
 ·omega
theorem readX {a q:Int} (hd:dOk a q=true) (hdr:Bool) {l:List (List B8)} {W:Nat} (h:∀r,r∈l->r≠ []/\r.length=W/\∀c,c∈r->Hk a q c/\vlen c=c.length/\(txt q c).length<=65536)
  (hs:(CS a l).length<=1048576) (hc:l.length+Hd l<=65535) (hh:hdr=true->∀r,l.head? =some r->(r.map (txt q)).Nodup/\∀c,c∈r->(txt q c).length<=1024):
  ∃rs,Je (CS a l) a q hdr= .ok (.mk 1 [] [] rs [])/\rs.map (fun r=>(Aw r).map AM)=l:=by
 have d:=Xx hd
 obtain⟨rs,hr,hm⟩:=MT d l [] fun cs hcs=>⟨(h cs hcs).1,fun c hc=>((h cs hcs).2.2 c hc).1⟩
 rw[List.nil_append,List.length_nil]at hr
 have hv:=Mi d.a0 d.a1 l fun r hr c hc=>((h r hr).2.2 c hc).2.1
 have hmem:∀r,r∈rs->(Aw r).map AM∈l:=by
  intro r hr1
  rw[<-hm];exact List.mem_map.2 ⟨r,hr1,rfl⟩
 have hnk:∀r,Fg q (Aw r)=((Aw r).map AM).map (txt q):=fun r=>by unfold Fg;rw[List.map_map];rfl
 have hdoc:=Xv (x:=xU (CS a l) a q) (show(3:Int)<=48 by decide) (W:=(W:Int)) (hdr:=hdr) hr ((CS a l).length+1) (by show(CS a l).length<_;omega) (fun r hr1 k hk1=>
   ((h _ (hmem r hr1)).2.2 _ (List.mem_map.2 ⟨k,hk1,rfl⟩)).2.2) (fun r hr1=>by
   have:=(h _ (hmem r hr1)).2.1
   rw[List.length_map]at this;omega) (by
   have h1:=Pi rs l hm
   have h2:=TC hdr rs
   show _<=(65536:Int);omega) (fun hb r hr1=>by
   have hl:l.head? =some ((Aw r).map AM):=by rw[<-hm,List.head?_map,hr1];rfl
   have:=hh hb _ hl
   show(Fg q (Aw r)).Nodup/\_
   rw[hnk]
   exact⟨this.1,fun t ht=>by
    obtain⟨c,hc,rfl⟩:=List.mem_map.1 ht
    exact this.2 c hc⟩)
 refine⟨rs,?_,hm⟩
 show AZ (xU (CS a l) a q) hdr 1048576 1024 65536=_
 unfold AZ
 rw[if_neg (show ¬dOk a q=false by rw[hd];decide),if_neg (show ¬lOk 48 65536 1048576 1024 65536=false by decide),if_neg (show ¬(1048576:Int)<((CS a l).length:Int) by omega),if_neg (show ¬vlen (CS a l)≠(CS a l).length by rw[hv];simp)]
 rw[show DN (xU (CS a l) a q) hdr ((xU (CS a l) a q).s.length+1) [] 0 1 [] 0= .ok rs from hdoc]
noncomputable def EL (a q:Int) (ty:Bool) (s:Sc):B8:=
 if s.kind=4 then(if AU a q s.text=s.text/\(Dz ty false s.text).kind≠4 then F4 q s.text else AU a q s.text)else plT s
def Fb (ty:Bool) (k:Int):Int:=if (ty=false/\k≠4)∨k=5∨k=6∨k=7 then 27 else 0
theorem XM {ty qd:Bool} {s:B8} (h:(Dz ty qd s).kind=4):Dz ty qd s=tkT s:=by
 unfold Dz at h⊢
 by_cases h1:ty=false∨qd=true
 ·rw[if_pos h1]
 rw[if_neg h1]at h⊢
 by_cases h2:s=[]
 ·rw[if_pos h2]at h;exact absurd h (show(0:Int)≠4 by decide)
 rw[if_neg h2]at h⊢
 by_cases h3:s=Lq
 ·rw[if_pos h3]at h;exact absurd h (show(1:Int)≠4 by decide)
 rw[if_neg h3]at h⊢
 by_cases h4:s=Jb
 ·rw[if_pos h4]at h;exact absurd h (show(1:Int)≠4 by decide)
 rw[if_neg h4]at h⊢
 by_cases h5:(dcP s).2.2.2=0
 ·rw[if_pos h5]at h;exact absurd h (show(2:Int)≠4 by decide)
 rw[if_neg h5]at h⊢
 by_cases h6:(tmP s).2.2.2.2=0
 ·rw[if_pos h6]at h;exact absurd h (show(3:Int)≠4 by decide)
 rw[if_neg h6]
theorem MW {q:Int} {c:B8} (h:c=[]∨by_ c 0≠q):Bn q c=false/\txt q c=c:=by
 unfold Bn txt
 exact⟨decide_eq_false (fun g=>g h),if_pos h⟩
theorem PZ {q:Int} (h0:0<=q) (h1:q<128) (s:B8):Bn q (F4 q s)=true/\txt q (F4 q s)=s:=by
 refine⟨?_,Wi h0 (by omega) s⟩
 unfold Bn
 rw[decide_eq_true_eq]
 rintro(h | h)
 ·unfold F4 at h;cases h
 ·exact h (CL h0 (by omega))
theorem Cb.head {a q:Int} (d:Os a q) {c:B8} (h:Cb c):c=[]∨by_ c 0≠q:=by
 cases c with
 | nil=>exact .inl rfl
 | cons x r=>
  right
  have hx:=h x (by simp)
  show(x.toNat:Int)≠q
  intro e
  rw[e,d.sq]at hx;cases hx
theorem Cb.need {a q:Int} (d:Os a q) {c:B8} (h:Cb c):DB a q c=false:=by
 unfold DB
 rw[List.any_eq_false]
 intro x hx
 have hs:=h x hx
 rw[decide_eq_true_eq]
 rintro(e | e | e | e)
 ·rw[e,d.sa]at hs;cases hs
 ·rw[e,d.sq]at hs;cases hs
 ·rw[e]at hs;revert hs;decide
 ·rw[e]at hs;revert hs;decide
theorem Cb.vlen {s:B8} (h:Cb s):vlen s=s.length:=Dn s (by
 rw[List.all_eq_true]
 intro c hc
 have:=h c hc
 unfold BP at this
 rw[decide_eq_true_eq]at this⊢;omega)
theorem plT_ok {s:Sc} (h:FW s [] []):Cb (plT s)/\(plT s).length<=200:=by
 unfold plT
 split
 ·cases s.b
  ·exact⟨fun c hc=>(by decide:∀c,c∈Jb->BP (c.toNat:Int)=true) c hc,by decide⟩
  ·exact⟨fun c hc=>(by decide:∀c,c∈Lq->BP (c.toNat:Int)=true) c hc,by decide⟩
 ·split
  ·refine⟨XA h.dec,?_⟩
   have:=dcT_len h.dec
   have:s.dg.length<=120:=by
    by_cases hn:s.dg=[]
    ·rw[hn];simp
    ·exact(h.dec.2 hn).1
   omega
  ·split
   ·exact⟨U7 _ _ _ _,by have:=MB s.tk s.td s.tn s.tz;omega⟩
   ·exact⟨Cb.nil,by simp⟩
theorem U2 {q:Int} (h0:0<=q) (h1:q<128) {s:B8} (hv:vlen s=s.length):vlen (F4 q s)=(F4 q s).length:=by
 have hq:(UInt8.ofNat q.toNat).toNat<128:=by have:=CL h0 (by omega:q<=255);omega
 exact BH hq (BJ (QQ hq _ s (Nat.le_refl _) hv) (BH hq Ko))
structure XX (a q:Int) (ty:Bool) (s:Sc) (c:B8):Prop where
 cell:Hk a q c
 val:vlen c=c.length
 back:Dz ty (Bn q c) (txt q c)=s
 len:c.length<=2*s.text.length+202
 tlen:(txt q c).length<=65536
theorem SR {s:Sc} (h:FW s [] []) (hk:s.kind=0):s=scK 0:=by
 obtain⟨w0,w7,wb,wn,wt,wx,wy,_,_⟩:=h.own
 obtain⟨kd,b,neg,dg,ex,tk,td,tn,tz,text,bytes⟩:=s
 dsimp only at*
 subst hk
 obtain rfl:=wb (by decide)
 obtain⟨rfl,rfl,rfl⟩:=wn (by decide)
 obtain⟨rfl,rfl,rfl,rfl⟩:=wt (by decide)
 obtain rfl:=wx (by decide)
 obtain rfl:=wy (by decide)
 rfl
theorem SQ {s:Sc} (h:FW s [] []) (hk:s.kind=1):s=tkB s.b:=by
 obtain⟨w0,w7,wb,wn,wt,wx,wy,_,_⟩:=h.own
 obtain⟨kd,b,neg,dg,ex,tk,td,tn,tz,text,bytes⟩:=s
 dsimp only at*
 subst hk
 obtain⟨rfl,rfl,rfl⟩:=wn (by decide)
 obtain⟨rfl,rfl,rfl,rfl⟩:=wt (by decide)
 obtain rfl:=wx (by decide)
 obtain rfl:=wy (by decide)
 rfl
theorem SP {s:Sc} (h:FW s [] []) (hk:s.kind=2):s=tkN s.neg s.dg s.ex:=by
 obtain⟨w0,w7,wb,wn,wt,wx,wy,_,_⟩:=h.own
 obtain⟨kd,b,neg,dg,ex,tk,td,tn,tz,text,bytes⟩:=s
 dsimp only at*
 subst hk
 obtain rfl:=wb (by decide)
 obtain⟨rfl,rfl,rfl,rfl⟩:=wt (by decide)
 obtain rfl:=wx (by decide)
 obtain rfl:=wy (by decide)
 rfl
theorem SO {s:Sc} (h:FW s [] []) (hk:s.kind=3):s=tkM s.tk s.td s.tn s.tz:=by
 obtain⟨w0,w7,wb,wn,wt,wx,wy,_,_⟩:=h.own
 obtain⟨kd,b,neg,dg,ex,tk,td,tn,tz,text,bytes⟩:=s
 dsimp only at*
 subst hk
 obtain rfl:=wb (by decide)
 obtain⟨rfl,rfl,rfl⟩:=wn (by decide)
 obtain rfl:=wx (by decide)
 obtain rfl:=wy (by decide)
 rfl
theorem SN {s:Sc} (h:FW s [] []) (hk:s.kind=4):s=tkT s.text:=by
 obtain⟨w0,w7,wb,wn,wt,wx,wy,_,_⟩:=h.own
 obtain⟨kd,b,neg,dg,ex,tk,td,tn,tz,text,bytes⟩:=s
 dsimp only at*
 subst hk
 obtain rfl:=wb (by decide)
 obtain⟨rfl,rfl,rfl⟩:=wn (by decide)
 obtain⟨rfl,rfl,rfl,rfl⟩:=wt (by decide)
 obtain rfl:=wy (by decide)
 rfl
theorem show_ok {a q:Int} {ty:Bool} {s:Sc} (d:Os a q) (h:FW s [] []) (he:Fb ty s.kind=0):XX a q ty s (EL a q ty s):=by
 have hk0:=h.own.k0
 have hk7:=h.own.k7
 have hu:vlen s.text=s.text.length:=h.text
 have hq1:=d.q1
 unfold Fb at he
 by_cases hk:s.kind=4
 ·have hs:=SN h hk
  have hF:XX a q ty s (F4 q s.text):=by
   obtain⟨h1,h2⟩:=PZ d.q0 d.q1 s.text
   refine⟨LE d _,U2 d.q0 d.q1 hu,?_,?_,by rw[h2];exact h.tlen⟩
   ·rw[h1,h2]
    unfold Dz
    rw[if_pos (.inr rfl)];exact hs.symm
   ·have:=Kf (UInt8.ofNat q.toNat) s.text
    unfold F4
    simp only[List.length_cons,List.length_append,List.length_nil];omega
  unfold EL
  rw[if_pos hk]
  split
  ·exact hF
  ·rename_i hn
   rw[quoC_eq]at hn⊢
   by_cases hq:DB a q s.text=true
   ·rw[if_pos hq];exact hF
   ·rw[if_neg hq]at hn⊢
    have hq:DB a q s.text=false:=by simpa using hq
    have h4:(Dz ty false s.text).kind=4:=Decidable.not_not.1 fun g=>hn ⟨rfl,g⟩
    have hh:s.text=[]∨by_ s.text 0≠q:=by
     cases ht:s.text with
     | nil=>exact .inl rfl
     | cons x r=>exact .inr (Nb hq x (by rw[ht];simp)).2.1
    obtain⟨h1,h2⟩:=MW hh
    exact⟨Hg d hq,hu,by rw[h1,h2,XM h4];exact hs.symm,by omega,by rw[h2];exact h.tlen⟩
 ·obtain⟨hS,hl⟩:=plT_ok h
  obtain⟨h1,h2⟩:=MW (hS.head d)
  have hty:ty=true:=by
   cases ty
   ·rw[if_pos (.inl ⟨rfl,hk⟩)]at he;cases he
   ·rfl
  subst hty
  have hkk:s.kind=0∨s.kind=1∨s.kind=2∨s.kind=3:=by
   apply Decidable.byContradiction
   intro hn
   rw[if_pos (by omega)]at he;cases he
  unfold EL
  rw[if_neg hk]
  refine⟨Hg d (hS.need d),hS.vlen,?_,by omega,by rw[h2];omega⟩
  rw[h1,h2]
  unfold plT
  rcases hkk with hk | hk | hk | hk
  ·rw[if_neg (by omega),if_neg (by omega),if_neg (by omega),SR h hk];rfl
  ·rw[if_pos hk]
   have hb:=SQ h hk
   cases hsb:s.b
   ·rw[hb,hsb];rfl
   ·rw[hb,hsb];rfl
  ·rw[if_neg (by omega),if_pos hk,VZ h.dec,<-SP h hk]
  ·rw[if_neg (by omega),if_neg (by omega),if_pos hk,VY (h.time hk),<-SO h hk]
def BA (s:Sc):Vl:= .mk s [] []
def F2 (q:Int) (ty:Bool) (r:List B8):List Sc:=r.map fun c=>Dz ty (Bn q c) (txt q c)
def recV (names:List B8) (row:List Sc):Vl:=Wg (List.zipWith (fun k s=>Fd.mk k (BA s)) names row)
def Ej (rs:List Nd):List (List B8):=rs.map fun r=>(Aw r).map AM
theorem IV.own {s:Sc} {l:List Vl} {f:List Fd} (h:IV (.mk s l f)):FW s l f/\Lj l/\Lk f:=by unfold IV at h;exact h
def scW (k:Int):Sc:=⟨k,false,false,[],0,0,0,0,0,[],[]⟩
theorem Sz {v:Vl} (h:IV v) (hk:v.sc.kind<6):v=BA v.sc/\FW v.sc [] []:=by
 obtain⟨s,l,f⟩:=v
 obtain⟨h1,h2,h3⟩:=h.own
 replace hk:s.kind<6:=hk
 have hl:l=[]:=h1.own.ls (by omega)
 have hf:f=[]:=h1.own.fs (by omega)
 subst hl hf
 exact⟨rfl,h1⟩
theorem Sy {a q:Int} {ty:Bool} (d:Os a q) {y:Vl} (h:IV y) (he:Fb ty y.sc.kind=0):XX a q ty y.sc (EL a q ty y.sc)/\y=BA y.sc:=by
 have hk7:y.sc.kind<=7:=by obtain⟨s,l,f⟩:=y;exact h.own.1.own.k7
 have hk:y.sc.kind<6:=by
  apply Decidable.byContradiction
  intro hn
  unfold Fb at he
  rw[if_pos (by omega)]at he;cases he
 obtain⟨h1,h2⟩:=Sz h hk
 exact⟨show_ok d h2 he,h1⟩
section
abbrev KG13:=Int->Bool->Bool->B8->Int->Int->Int->Int->Int->B8->TV->TV->TV->St->Prop
def KC (K:KG13) (x:Sc) (st:St):Prop:=K x.kind x.b x.neg x.dg x.ex x.tk x.td x.tn x.tz x.text .nilSlice .nilSlice .nilSlice st
abbrev Ub:List CTy:=[.int .i64,.bool,.bool,.str,.int .i64,.int .i64,.int .i64,.int .i64,.int .i64,.str,.tv,.tv,.tv]
section
variable {a q:Int} {hd ty:Bool} {st:St}
theorem Np {s:B8} {qd:Bool} (hl:s.length<=1000000) {K:KG13} (hk:∀st',Ap st st'->KC K (Dz ty qd s) st'):
  CallT PR B7 [.str s,.bool qd,.agg [.int .u8 a,.int .u8 q,.bool hd,.bool ty]] [.agg Ub] st K:=by
 have e0:=Ap.refl st
 unfold Dz at hk
 refine PD s qd a q hd ty st K (Ar (fun g=>FY s st _ (Ab (DU rfl rfl rfl) ?_)) fun g=>Ar (fun g2=>FY s st _ (Ab (DU rfl rfl rfl) ?_)) fun g2=>?_)
 ·have:ty=false:=by simpa using g
  rw[if_pos (.inl this)]at hk;exact hk st e0
 ·rw[if_pos (.inr g2)]at hk;exact hk st e0
 have g:ty=true:=by simpa using g
 rw[if_neg (by rw[g,g2];simp)]at hk
 have tail:s≠ []->s≠Lq->s≠Jb->CallT PR BW [.str s] [.agg [.bool,.str,.int .i64],.one (.int .i64)] st (fun (b9:Bool) (s9:B8) (n25:Int) (n26:Int) (st5:St)=>BIf (decide (n26=(0:Int))) (CallT PR EU [(.agg [(.bool b9),(.str s9),(.int .i64 n25)])] [.agg Ub] st5 (fun (n27:Int) (b10:Bool) (b11:Bool) (s10:B8) (n28:Int) (n29:Int) (n30:Int) (n31:Int) (n32:Int) (s11:B8) (v13:TV) (v14:TV) (v15:TV) (st6:St)=>need (List.all [(.int .i64 n27),(.bool b10),(.bool b11),(.str s10),(.int .i64 n28),(.int .i64 n29),(.int .i64 n30),(.int .i64 n31),(.int .i64 n32),(.str s11),v13,v14,v15] At) (K n27 b10 b11 s10 n28 n29 n30 n31 n32 s11 v13 v14 v15 st6)))
   (CallT PR Cf [.str s] [.agg [.int .i64,.int .i64,.int .i64,.int .i64],.one (.int .i64)] st5 (fun (n33:Int) (n34:Int) (n35:Int) (n36:Int) (n37:Int) (st7:St)=>BIf (decide (n37=(0:Int))) (CallT PR Ee [(.agg [(.int .i64 n33),(.int .i64 n34),(.int .i64 n35),(.int .i64 n36)])] [.agg Ub] st7 (fun (n38:Int) (b12:Bool) (b13:Bool) (s12:B8) (n39:Int) (n40:Int) (n41:Int) (n42:Int) (n43:Int) (s13:B8) (v16:TV) (v17:TV) (v18:TV) (st8:St)=>need (List.all [(.int .i64 n38),(.bool b12),(.bool b13),(.str s12),(.int .i64 n39),(.int .i64 n40),(.int .i64 n41),(.int .i64 n42),(.int .i64 n43),(.str s13),v16,v17,v18] At) (K n38 b12 b13 s12 n39 n40 n41 n42 n43 s13 v16 v17 v18 st8)))
    (CallT PR Cj [.str s] [.agg Ub] st7 (fun (n44:Int) (b14:Bool) (b15:Bool) (s14:B8) (n45:Int) (n46:Int) (n47:Int) (n48:Int) (n49:Int) (s15:B8) (v19:TV) (v20:TV) (v21:TV) (st9:St)=>need (List.all [(.int .i64 n44),(.bool b14),(.bool b15),(.str s14),(.int .i64 n45),(.int .i64 n46),(.int .i64 n47),(.int .i64 n48),(.int .i64 n49),(.str s15),v19,v20,v21] At) (K n44 b14 b15 s14 n45 n46 n47 n48 n49 s15 v19 v20 v21 st9)))))):=by
  intro h1 h2 h3
  rw[if_neg h1,if_neg h2,if_neg h3]at hk
  refine dP_ok hl ?_
  unfold KD
  generalize dcP s=d at*
  refine Aa (fun h4=>Pv _ _ _ st _ (Ab (DU rfl rfl rfl) ?_)) fun h4=>tP_ok hl fun st1 e1=>?_
  ·rw[if_pos h4]at hk;exact hk st e0
  rw[if_neg h4]at hk
  unfold KT
  generalize tmP s=t at*
  refine Aa (fun h5=>NX _ _ _ _ st1 _ (Ab (DU rfl rfl rfl) ?_)) fun h5=>FY s st1 _ (Ab (DU rfl rfl rfl) ?_)
  ·rw[if_pos h5]at hk;exact hk st1 e1
  ·rw[if_neg h5]at hk;exact hk st1 e1
 refine Aa (fun h1=>N0 st _ (Ab (DU rfl rfl rfl) ?_)) fun h1=>Aa (fun h2=>Aa (fun _=>IA _ st _ (Ab (DU rfl rfl rfl) ?_)) fun h=>absurd h2 h) fun h2=>Aa (fun h3=>IA _ st _ (Ab (DU rfl rfl rfl) ?_)) fun h3=>tail h1 h2 h3
 ·rw[if_pos h1]at hk;exact hk st e0
 ·rw[if_neg h1,if_pos (show s=Lq from h2)]at hk
  rw[decide_eq_true h2];exact hk st e0
 ·rw[if_neg h1,if_neg (show ¬s=Lq from h2),if_pos (show s=Jb from h3)]at hk
  rw[decide_eq_false h2];exact hk st e0
end
end
section
noncomputable def shE (a q:Int) (ty:Bool) (v:Vl):Int:=if dOk a q=false then 1 else if Fu v≠0 then(Fu v:Int)else Fb ty v.sc.kind
noncomputable def shT (a q:Int) (ty:Bool) (v:Vl):B8:=if shE a q ty v=0 then EL a q ty v.sc else []
theorem Vu {a q:Int} {s:B8} (hd:dOk a q=true) (hv:vlen s=s.length):MX a q s= .ok (AU a q s):=by
 unfold MX
 rw[if_neg (by rw[hd];decide),if_pos hv]
section
variable {a q:Int} {hd ty:Bool} {st:St}
theorem Xj {s:Sc} {ub ul uf:TV} (hdo:dOk a q=true) (hk0:0<=s.kind) (hk7:s.kind<=7) (hdec:s.kind=2->CW s.neg s.dg s.ex) (htm:s.kind=3->DS s.tk s.td s.tn s.tz) (hu:s.kind=4->vlen s.text=s.text.length) (hl:s.text.length<=1000000)
  {K:B8->Int->St->Prop} (hk:∀st',Ap st st'->K (if Fb ty s.kind=0 then EL a q ty s else []) (Fb ty s.kind) st'):
  CallT PR G8 [.agg (Bh s ub ul uf),.agg [.int .u8 a,.int .u8 q,.bool hd,.bool ty]] [.one .str,.one (.int .i64)] st K:=by
 have e0:=Ap.refl st
 have d:=Xx hdo
 have ok:Fb ty s.kind=0->∀st',Ap st st'->K (EL a q ty s) 0 st':=fun he st' e=>by have:=hk st' e;rwa [if_pos he,he]at this
 have bad:Fb ty s.kind=27->K [] 27 st:=fun he=>by have:=hk st e0;rwa [he,if_neg (by decide)]at this
 refine PA _ _ _ _ _ _ _ _ _ _ _ _ _ a q hd ty st K (Ar (fun g=>Aa (fun g1=>bad ?_) fun g1=>?sw1) fun g=>?sw2)
 ·have hty:ty=false:=by simpa using g
  unfold Fb;rw[if_pos (.inl ⟨hty,g1⟩)]
 case sw1 | sw2=>
  have hE:s.kind<=4->Fb ty s.kind=0:=fun h4=>by
   unfold Fb
   rw[if_neg]
   rintro(⟨h,h'⟩ | h)
   ·first
     | exact g1 h'
     | (rw[h]at g;cases g)
   ·omega
  have hP:∀t,s.kind≠4->plT s=t->EL a q ty s=t:=fun t h4 h=>by unfold EL;rw[if_neg h4];exact h
  refine Aa (fun k0=>?_) fun k0=>Aa (fun k1=>Ar (fun hb=>?_) fun hb=>?_) fun k1=>Aa (fun k2=>XE (hdec k2) fun st1 e1=>?_) fun k2=>Aa (fun k3=>WY (htm k3) fun st1 e1=>?_) fun k3=>Aa (fun k4=>?_) fun k4=>bad ?_
  ·have:=ok (hE (by omega)) st e0
   rwa [hP [] (by omega) (by unfold plT;rw[if_neg (by omega),if_neg (by omega),if_neg (by omega)])]at this
  ·have:=ok (hE (by omega)) st e0
   rwa [hP Lq (by omega) (by unfold plT;rw[if_pos k1,if_pos hb])]at this
  ·have:=ok (hE (by omega)) st e0
   rwa [hP Jb (by omega) (by unfold plT;rw[if_pos k1,if_neg (by rw[hb];decide)])]at this
  ·have:=ok (hE (by omega)) st1 e1
   rwa [hP _ (by omega) (by unfold plT;rw[if_neg (by omega),if_pos k2])]at this
  ·have:=ok (hE (by omega)) st1 e1
   rwa [hP _ (by omega) (by unfold plT;rw[if_neg (by omega),if_neg (by omega),if_pos k3])]at this
  ·have hu:=hu k4
   have ok:=ok (hE (by omega))
   have hS:EL a q ty s=if AU a q s.text=s.text/\(Dz ty false s.text).kind≠4 then F4 q s.text else AU a q s.text:=by unfold EL;rw[if_pos k4]
   refine Vw (by omega) ?_
   rw[Vu hdo hu]
   refine Aa (fun h=>absurd rfl h) fun _=>Aa (fun h1=>?_) fun h1=>?_
   ·have:=ok st e0
    rwa [hS,if_neg fun h=>h1 h.1]at this
   ·have h1:AU a q s.text=s.text:=Decidable.not_not.1 h1
    show CallT PR B7 [.str (AU a q s.text),.bool false,.agg [.int .u8 a,.int .u8 q,.bool hd,.bool ty]] [.agg Ub] st _
    rw[h1]
    refine Np hl fun st1 e1=>Aa (fun h2=>?_) fun h2=>?_
    ·have:=ok st1 e1
     rwa [hS,if_neg fun h=>h.2 h2,h1]at this
    ·have hq1:=d.q1
     have hqn:=CL (q:=q) d.q0 (by omega)
     refine Ad (KF st1 (UInt8.ofNat q.toNat) hqn) (Al ⟨by simp,IH (s:=s.text) (by simp) (by omega) ?_⟩)
     have hdl:=Kf (UInt8.ofNat q.toNat) s.text
     unfold dbl at hdl
     refine⟨by simp only[List.length_cons,List.length_nil];omega,by simp only[List.length_append,List.length_cons,List.length_nil];omega,?_⟩
     have:=ok st1 e1
     rwa [hS,if_pos ⟨h1,h2⟩]at this
  ·unfold Fb;rw[if_pos (by omega)]
theorem RT {v:Vl} (hN:v.sz<=1000000) {cs:List TV} {K:B8->Int->St->Prop} (h:VlR St.zero v cs) (hk:∀st',Ap st st'->K (shT a q ty v) (shE a q ty v) st'):
  CallT PR EW [.agg cs,.agg [.int .u8 a,.int .u8 q,.bool hd,.bool ty]] [.one .str,.one (.int .i64)] st K:=by
 obtain⟨s,l,f⟩:=v
 obtain⟨ub,ul,uf,xl,xf,rfl,_⟩:=h.cells
 unfold shT at hk
 refine PB _ _ _ _ _ _ _ _ _ _ _ _ _ a q hd ty st K (Ld (Ar (fun g=>?_) fun g=>?_))
 ·have he:shE a q ty (.mk s l f)=1:=by unfold shE;rw[if_pos (by simpa using g)]
  have:=hk st (Ap.refl _)
  rwa [he,if_neg (by decide)]at this
 have g:dOk a q=true:=by simpa using g
 refine XZ (v:= .mk s l f) (by omega) h (H6 _) fun st1 e1=>Aa (fun g1=>?_) fun g1=>?_
 ·have he:shE a q ty (.mk s l f)=(Fu (.mk s l f):Int):=by unfold shE;rw[if_neg (by rw[g];decide),if_pos (by omega)]
  have:=hk st1 e1
  rwa [he,if_neg (by omega)]at this
 have g1:Fu (.mk s l f)=0:=by omega
 have he:shE a q ty (.mk s l f)=Fb ty s.kind:=by unfold shE;rw[if_neg (by rw[g];decide),if_neg (by omega)];rfl
 rw[he]at hk
 have ho:=(LD g1).own.1
 have hsz:=szs s l f
 refine Xj g ho.own.k0 ho.own.k7 (fun _=>ho.dec) ho.time (fun _=>ho.text) (by omega) fun st2 e2=>?_
 exact hk st2 (e1.trans e2)
end
end
section
structure Ua (a q:Int) (rs:List Nd) (W:Nat):Prop where
 form:∀r,r∈rs->RecF a q r
 wid:∀r,r∈rs->(Aw r).length=W
 len:∀r,r∈rs->∀k,k∈Aw r->(txt q (AM k)).length<=65536/\(AM k).length<=2000000
 cnt:rs.length<=2000000
 wlen:W<=10000000
def Iv (q:Int) (hd ty:Bool):List (List B8)->List Vl
 | []=>[]
 | h::t=>if hd then t.map fun r=>recV (h.map (txt q)) (F2 q ty r)else(h::t).map fun r=>JH ((F2 q ty r).map BA)
theorem GQ (q:Int) (ty:Bool) (l:List (List B8)):Iv q false ty l=l.map fun r=>JH ((F2 q ty r).map BA):=by
 cases l<;>rfl
theorem Mx {q:Int} {ty:Bool} {l:List (List B8)} {j:Nat} {row:List B8} (h:l[j]? =some row):Iv q false ty (l.take (j+1))=Iv q false ty (l.take j)++[JH ((F2 q ty row).map BA)]:=by
 rw[GQ,GQ,List.take_add_one,h,List.map_append];rfl
theorem QU (q:Int) (ty:Bool) (l:List (List B8)):Iv q true ty (l.take 1)=[]:=by
 cases l<;>rfl
theorem Mw {q:Int} {ty:Bool} {l:List (List B8)} {j:Nat} {row h0:List B8} (h:l[j]? =some row) (hj:0<j) (h1:l[0]? =some h0):Iv q true ty (l.take (j+1))=Iv q true ty (l.take j)++[recV (h0.map (txt q)) (F2 q ty row)]:=by
 cases l with
 | nil=>cases h1
 | cons x t=>
  obtain⟨i,rfl⟩:∃i,j=i+1:=⟨j-1,by omega⟩
  simp only[List.getElem?_cons_zero,Option.some.injEq]at h1
  subst h1
  simp only[List.getElem?_cons_succ]at h
  show(t.take (i+1)).map _=(t.take i).map _++_
  rw[List.take_add_one,h,List.map_append];rfl
theorem GK.ldA {α:Type} {f:α->TV} {v:TV} {rows:List (List α)} (h:GK f v rows) {i:Nat} {row:List α} (hr:rows[i]? =some row):∃u,(∀st,Ac st [] (.t (ixT 1 v i)) 0=some u)/\Ll f u row:=by
 obtain⟨vs,h1,h2,h3⟩:=h
 have hlt:i<vs.length:=by rw[h2];exact(List.getElem?_eq_some_iff.1 hr).1
 have hu:=List.getElem?_eq_getElem hlt
 exact⟨vs[i],fun st=>Rd.ldx h1 st i 0 (by rw[Nat.mul_one,Nat.add_zero];exact hu),h3 i _ row hu hr⟩
theorem Pt (s:Sc) (h:s.bytes=[]):VlR St.zero (BA s) (Bh s .nilSlice .nilSlice .nilSlice):=vlLeaf St.zero s h
theorem vr_list {l:List Vl} {u:TV} {xs:List TV} (h:Rd 13 u l.length xs) (hv:VsR St.zero l xs):VlR St.zero (JH l) (Bh (scW 6) .nilSlice u .nilSlice):=by
 unfold JH VlR
 exact⟨_,_,_,xs,[],rfl,.of_rd (.inl ⟨rfl,rfl,rfl⟩),.of_rd h,hv,.of_rd (.inl ⟨rfl,rfl,rfl⟩),by unfold FsR;rfl⟩
theorem vr_map {f:List Fd} {u:TV} {xs:List TV} (h:Rd 14 u f.length xs) (hv:FsR St.zero f xs):VlR St.zero (Wg f) (Bh (scW 7) .nilSlice .nilSlice u):=by
 unfold Wg VlR
 exact⟨_,_,_,[],xs,rfl,.of_rd (.inl ⟨rfl,rfl,rfl⟩),.of_rd (.inl ⟨rfl,rfl,rfl⟩),by unfold VsR;rfl,.of_rd h,hv⟩
theorem Ro {q:Int} {ty:Bool} {ks:List Nd} {m:Nat} {k:Nd} (h:ks[m]? =some k):(F2 q ty (ks.map AM))[m]? =some (Dz ty (Bn q (AM k)) (txt q (AM k))):=by
 unfold F2
 rw[List.getElem?_map,List.getElem?_map,h];rfl
theorem JS (q:Int) (ty:Bool) (l:List B8):(F2 q ty l).length=l.length:=by unfold F2;rw[List.length_map]
theorem Vb {q:Int} {ty:Bool} {ks:List Nd} {m:Nat} {k:Nd} (h:ks[m]? =some k):((F2 q ty (ks.map AM)).take (m+1)).map BA=((F2 q ty (ks.map AM)).take m).map BA++[BA (Dz ty (Bn q (AM k)) (txt q (AM k)))]:=by
 rw[List.take_add_one,Ro h,List.map_append];rfl
def Sr (names:List B8) (row:List Sc):List Fd:=List.zipWith (fun k s=>Fd.mk k (BA s)) names row
theorem Vc {names:List B8} {row:List Sc} {m:Nat} {nm:B8} {s:Sc} (h1:names[m]? =some nm) (h2:row[m]? =some s):Sr (names.take (m+1)) (row.take (m+1))=Sr (names.take m) (row.take m)++[Fd.mk nm (BA s)]:=by
 unfold Sr
 rw[<-List.take_zipWith,<-List.take_zipWith,List.take_add_one]
 congr 1
 rw[List.getElem?_zipWith,h1,h2];rfl
section
variable {a q:Int} {hd ty:Bool} {st:St}
theorem VJ {n:Nd} {cs:List TV} (hc:NdC n cs) (hl:DT n<=100000000000000) (hcn:Ex n<=1000000000000000) (ht:H2 n a q hd->∃W,Ua a q (KR n) W) {K:Int->Bool->Bool->B8->Int->Int->Int->Int->Int->B8->TV->TV->TV->Int->St->Prop}
  (hk1:¬H2 n a q hd->∀st',Ap st st'->K 0 false false [] 0 0 0 0 0 [] .nilSlice .nilSlice .nilSlice 1 st')
  (hk2:H2 n a q hd->∀u xs st',Ap st st'->Rd 13 u (Iv q hd ty (Ej (KR n))).length xs->VsR St.zero (Iv q hd ty (Ej (KR n))) xs->K 6 false false [] 0 0 0 0 0 [] .nilSlice u .nilSlice 0 st'):
  CallT PR Gf [.agg cs,.agg [.int .u8 a,.int .u8 q,.bool hd,.bool ty]] [.agg Ub,.one (.int .i64)] st K:=by
 have w1:∀k:Nat,k<=100000000->i64.wrap ((k:Int)+1)=((k+1:Nat):Int):=fun k hk=>by rw[Ai _ (by omega) (by omega)];omega
 have tn:∀k:Nat,Int.toNat (k:Int)=k:=fun k=>rfl
 obtain⟨kd,t0,t1,kv,tl,rfl,_⟩:=hc.five
 refine N6 kd t0 t1 kv tl a q hd ty st K (Rz hc hl hcn fun v1 st1 e1 g1=>?_)
 by_cases ho:H2 n a q hd
 case neg=>
  have he:IJ n a q hd=1:=by unfold IJ;rw[if_neg ho]
  rw[he]
  exact Aa (fun _=>hk1 ho st1 e1) fun h=>absurd (by decide) h
 have he:IJ n a q hd=0:=by unfold IJ;rw[if_pos ho]
 have hg:∀{α:Type} (g:B8->α),FQ g n a q hd=CZ g (KR n):=fun g=>by unfold FQ;rw[if_pos ho]
 rw[he]
 refine Aa (fun h=>absurd rfl h) fun _=>S0 hc hl hcn fun v2 st2 e2 g2=>?_
 rw[hg]at g1 g2
 obtain⟨W,hT⟩:=ht ho
 clear ht
 have hk2:=hk2 ho
 generalize hrs:KR n=rs at*
 have e12:=e1.trans e2
 have hcnt:=hT.cnt
 have hwl:=hT.wlen
 obtain⟨vs1,hr1⟩:=g1.rd
 obtain⟨vs2,hr2⟩:=g2.rd
 have hL:∀{α:Type} (g:B8->α),(CZ g rs).length=rs.length:=fun g=>by unfold CZ;rw[List.length_map]
 rw[hL]at hr1 hr2
 have hget:∀{α:Type} (g:B8->α) {j:Nat} {r:Nd},rs[j]? =some r->(CZ g rs)[j]? =some ((Aw r).map fun k=>g (AM k)):=fun g j r h=>by unfold CZ;rw[List.getElem?_map,h];rfl
 have hraw:∀{j:Nat} {r:Nd},rs[j]? =some r->(Ej rs)[j]? =some ((Aw r).map AM):=fun {j r} h=>by unfold Ej;rw[List.getElem?_map,h];rfl
 have hrawl:(Ej rs).length=rs.length:=by unfold Ej;rw[List.length_map]
 refine Ab hr1.isSl ?_
 refine⟨fun zn zr zq zv zm c1 c2 b1 b2 kA boA ngA dgA exA tkA tdA tnA tzA txA u0A u1A u2A kB boB ngB dgB exB tkB tdB tnB tzB txB u0B u1B u2B st'=>v1=zr/\v2=zq/\v1=zv/\(rs.length:Int)=zm/\a=c1/\q=c2/\hd=b1/\ty=b2/\6=kB/\false=boB/\false=ngB/\[]=dgB/\0=exB/\0=tkB/\0=tdB/\0=tnB/\0=tzB/\[]=txB/\.nilSlice=u0B/\.nilSlice=u2B/\Ap st2 st'/\∃j:Nat,zn=(j:Int)/\j<=rs.length/\∃xs,Own st2.nt 13 st' u1B (Iv q hd ty ((Ej rs).take j)).length xs/\VsR St.zero (Iv q hd ty ((Ej rs).take j)) xs,
  fun n _ _ _ _ _ _ _ _ _ _ _ _ _ _ _ _ _ _ _ _ _ _ _ _ _ _ _ _ _ _ _ _ _ _ _=>(rs.length-n).toNat,⟨rfl,rfl,rfl,by rw[hr1.lenS],rfl,rfl,rfl,rfl,rfl,rfl,rfl,rfl,rfl,rfl,rfl,rfl,rfl,rfl,rfl,rfl,Ap.refl _,0,rfl,Nat.zero_le _,[],by rw[List.take_zero];exact Own.nil _ _ _,by rw[List.take_zero];exact VsR.nil _⟩,?_⟩
 rintro _ _ _ _ _ _ _ _ _ kA boA ngA dgA exA tkA tdA tnA tzA txA u0A u1A u2A _ _ _ _ _ _ _ _ _ _ _ vB _ st3 ⟨rfl,rfl,rfl,rfl,rfl,rfl,rfl,rfl,rfl,rfl,rfl,rfl,rfl,rfl,rfl,rfl,rfl,rfl,rfl,rfl,e3,j,rfl,hj,xs,hB,hBv⟩
 rw[tn]
 refine Aa (fun g=>?_) fun g=>?_
 case refine_2=>
  have hjl:(Ej rs).take j=Ej rs:=List.take_of_length_le (by omega)
  rw[hjl]at hB hBv
  refine Ab (DU rfl hB.rd.one rfl) (hk2 _ xs _ (e12.trans e3) hB.rd hBv)
 have hjlt:j<rs.length:=by omega
 obtain⟨r,hjr⟩:∃r,rs[j]? =some r:=⟨_,List.getElem?_eq_getElem hjlt⟩
 have hmem:=List.mem_of_getElem? hjr
 have hwid:=hT.wid r hmem
 obtain⟨uj,hlj,rj⟩:=g1.ldA (hget (txt q) hjr)
 obtain⟨qj,hlq,rq⟩:=g2.ldA (hget (Bn q) hjr)
 have hrjl:=Rd.lenS rj
 have hrjz:=Rd.lenZ rj
 have hrqz:=Rd.lenZ rq
 rw[List.length_map,hwid]at hrjl hrjz hrqz
 refine⟨⟨by omega,by rw[hr1.lenZ];omega⟩,Ad (hlj _) (Ar (fun hh=>Ab (Rd.isSl rj) ?_) fun hh=>Aa (fun g0=>Ab (Rd.isSl rj) ?_) fun g0=>?_)⟩
 ·have hhd:hd=false:=by simpa using hh
  subst hhd
  refine⟨fun zn zr zq zi zv zm n5 v3 n6 c1 c2 b7 b8 kA boA ngA dgA exA tkA tdA tnA tzA txA u0A u1A u2A kB boB ngB dgB exB tkB tdB tnB tzB txB u0B u1B u2B kC boC ngC dgC exC tkC tdC tnC tzC txC u0C u1C u2C st'=>v1=zr/\v2=zq/\(j:Int)=zi/\v1=zv/\(rs.length:Int)=zm/\(j:Int)=n5/\uj=v3/\(W:Int)=n6/\a=c1/\q=c2/\false=b7/\ty=b8/\6=kB/\false=boB/\false=ngB/\[]=dgB/\0=exB/\0=tkB/\0=tdB/\0=tnB/\0=tzB/\[]=txB/\.nilSlice=u0B/\.nilSlice=u2B/\vB=u1B/\6=kC/\false=boC/\false=ngC/\[]=dgC/\0=exC/\0=tkC/\0=tdC/\0=tnC/\0=tzC/\[]=txC/\.nilSlice=u0C/\.nilSlice=u2C/\Ap st3 st'/\∃m':Nat,zn=(m':Int)/\m'<=W/\∃ys,Own st3.nt 13 st' u1C m' ys/\VsR St.zero (((F2 q ty ((Aw r).map AM)).take m').map BA) ys,
   fun n _ _ _ _ _ _ _ _ _ _ _ _ _ _ _ _ _ _ _ _ _ _ _ _ _ _ _ _ _ _ _ _ _ _ _ _ _ _ _ _ _ _ _ _ _ _ _ _ _ _ _ _=>(W-n).toNat,⟨rfl,rfl,rfl,rfl,rfl,rfl,rfl,by rw[hrjl],rfl,rfl,rfl,rfl,rfl,rfl,rfl,rfl,rfl,rfl,rfl,rfl,rfl,rfl,rfl,rfl,rfl,rfl,rfl,rfl,rfl,rfl,rfl,rfl,rfl,rfl,rfl,rfl,rfl,Ap.refl _,0,rfl,Nat.zero_le _,[],Own.nil _ _ _,by rw[List.take_zero];exact VsR.nil _⟩,?_⟩
  rintro _ _ _ _ _ _ _ _ _ _ _ _ _ kA boA ngA dgA exA tkA tdA tnA tzA txA u0A u1A u2A _ _ _ _ _ _ _ _ _ _ _ _ _ _ _ _ _ _ _ _ _ _ _ _ vC _ st4 ⟨rfl,rfl,rfl,rfl,rfl,rfl,rfl,rfl,rfl,rfl,rfl,rfl,rfl,rfl,rfl,rfl,rfl,rfl,rfl,rfl,rfl,rfl,rfl,rfl,rfl,rfl,rfl,rfl,rfl,rfl,rfl,rfl,rfl,rfl,rfl,rfl,rfl,e4,m,rfl,hm,ys,hC,hCv⟩
  rw[tn,tn]
  refine Aa (fun g=>?_) fun g=>?_
  ·have hmlt:m<(Aw r).length:=by omega
   obtain⟨k,hkm⟩:∃k,(Aw r)[m]? =some k:=⟨_,List.getElem?_eq_getElem hmlt⟩
   have hkl:=hT.len r hmem k (List.mem_of_getElem? hkm)
   have l1:=Ll.ld rj st4 (i:=m) (a:=txt q (AM k)) (by rw[List.getElem?_map,hkm];rfl)
   have l2:=Ll.ld rq st4 (i:=m) (a:=Bn q (AM k)) (by rw[List.getElem?_map,hkm];rfl)
   refine⟨⟨by omega,by rw[hrjz];omega⟩,Ad l1 (Al ⟨⟨by omega,by rw[hr2.lenZ];omega⟩,Ad (hlq _) ⟨⟨by omega,by rw[hrqz];omega⟩,Ad l2 (Ao ?_)⟩⟩)⟩
   refine Np (by omega) fun st5 e5=>⟨hlq _,Ab (DU rfl rfl rfl) ?_⟩
   have hcb:=LG ty (Bn q (AM k)) (txt q (AM k))
   refine Fy (e4.trans e5) rfl (hC.ext e5) (by omega) (fun h=>by cases h) fun v' st6 e6 _ ho'=>Ab (List.all_eq_true.2 fun x hx=>by rw[List.mem_singleton.1 hx];exact ho'.rd.one) ?_
   rw[w1 m (by omega)]
   refine⟨⟨rfl,rfl,rfl,rfl,rfl,rfl,rfl,rfl,rfl,rfl,rfl,rfl,rfl,rfl,rfl,rfl,rfl,rfl,rfl,rfl,rfl,rfl,rfl,rfl,rfl,rfl,rfl,rfl,rfl,rfl,rfl,rfl,rfl,rfl,rfl,rfl,rfl,e6,m+1,rfl,by omega,_,ho',?_⟩,by dsimp only;omega⟩
   rw[Vb hkm]
   exact hCv.snoc (Pt _ hcb)
  ·have hmW:m=W:=by omega
   subst hmW
   have hfull:(F2 q ty ((Aw r).map AM)).take (Aw r).length=F2 q ty ((Aw r).map AM):=List.take_of_length_le (by rw[JS,List.length_map];omega)
   rw[<-hwid]at hC hCv
   rw[hfull]at hCv
   have hx:VlR St.zero (JH ((F2 q ty ((Aw r).map AM)).map BA)) (Bh (scW 6) .nilSlice vC .nilSlice):=vr_list (by rw[List.length_map,JS,List.length_map];exact hC.rd) hCv
   refine Ab (DU rfl hC.rd.one rfl) ?_
   have hlen:(Iv q false ty ((Ej rs).take j)).length<=2000000:=by rw[GQ,List.length_map,List.length_take];omega
   refine Fy (e3.trans e4) rfl (hB.ext e4) (by omega) (fun h=>by cases h) fun v' st6 e6 _ ho'=>Ab (List.all_eq_true.2 fun x hx=>by rw[List.mem_singleton.1 hx];exact ho'.rd.one) ?_
   rw[w1 j (by omega)]
   refine⟨⟨rfl,rfl,rfl,rfl,rfl,rfl,rfl,rfl,rfl,rfl,rfl,rfl,rfl,rfl,rfl,rfl,rfl,rfl,rfl,rfl,e6,j+1,rfl,by omega,xs++Bh (scW 6) .nilSlice vC .nilSlice,?_,?_⟩,by dsimp only;omega⟩
   ·rw[Mx (hraw hjr),List.length_append];exact ho'
   ·rw[Mx (hraw hjr)];exact hBv.snoc hx
 ·have hhd:hd=true:=by cases hd;exact absurd hh (by decide);rfl
  subst hhd
  obtain⟨r0,hj0⟩:∃r,rs[0]? =some r:=⟨_,List.getElem?_eq_getElem (by omega)⟩
  have hmem0:=List.mem_of_getElem? hj0
  have hwid0:=hT.wid r0 hmem0
  obtain⟨u0,hl0,rr0⟩:=g1.ldA (hget (txt q) hj0)
  have hr0z:=Rd.lenZ rr0
  rw[List.length_map,hwid0]at hr0z
  refine⟨fun zn zr zq zi zv zm n5 v3 n6 c1 c2 b7 b8 kA boA ngA dgA exA tkA tdA tnA tzA txA u0A u1A u2A kB boB ngB dgB exB tkB tdB tnB tzB txB u0B u1B u2B kC boC ngC dgC exC tkC tdC tnC tzC txC u0C u1C u2C st'=>v1=zr/\v2=zq/\(j:Int)=zi/\v1=zv/\(rs.length:Int)=zm/\(j:Int)=n5/\uj=v3/\(W:Int)=n6/\a=c1/\q=c2/\true=b7/\ty=b8/\6=kB/\false=boB/\false=ngB/\[]=dgB/\0=exB/\0=tkB/\0=tdB/\0=tnB/\0=tzB/\[]=txB/\.nilSlice=u0B/\.nilSlice=u2B/\vB=u1B/\7=kC/\false=boC/\false=ngC/\[]=dgC/\0=exC/\0=tkC/\0=tdC/\0=tnC/\0=tzC/\[]=txC/\.nilSlice=u0C/\.nilSlice=u1C/\Ap st3 st'/\∃m':Nat,zn=(m':Int)/\m'<=W/\∃ys,Own st3.nt 14 st' u2C m' ys/\FsR St.zero (Sr ((((Aw r0).map AM).map (txt q)).take m') ((F2 q ty ((Aw r).map AM)).take m')) ys,
   fun n _ _ _ _ _ _ _ _ _ _ _ _ _ _ _ _ _ _ _ _ _ _ _ _ _ _ _ _ _ _ _ _ _ _ _ _ _ _ _ _ _ _ _ _ _ _ _ _ _ _ _ _=>(W-n).toNat,⟨rfl,rfl,rfl,rfl,rfl,rfl,rfl,by rw[hrjl],rfl,rfl,rfl,rfl,rfl,rfl,rfl,rfl,rfl,rfl,rfl,rfl,rfl,rfl,rfl,rfl,rfl,rfl,rfl,rfl,rfl,rfl,rfl,rfl,rfl,rfl,rfl,rfl,rfl,Ap.refl _,0,rfl,Nat.zero_le _,[],Own.nil _ _ _,by rw[List.take_zero,List.take_zero];exact FsR.nil _⟩,?_⟩
  rintro _ _ _ _ _ _ _ _ _ _ _ _ _ kA boA ngA dgA exA tkA tdA tnA tzA txA u0A u1A u2A _ _ _ _ _ _ _ _ _ _ _ _ _ _ _ _ _ _ _ _ _ _ _ _ _ vC st4 ⟨rfl,rfl,rfl,rfl,rfl,rfl,rfl,rfl,rfl,rfl,rfl,rfl,rfl,rfl,rfl,rfl,rfl,rfl,rfl,rfl,rfl,rfl,rfl,rfl,rfl,rfl,rfl,rfl,rfl,rfl,rfl,rfl,rfl,rfl,rfl,rfl,rfl,e4,m,rfl,hm,ys,hC,hCv⟩
  rw[tn,tn]
  refine Aa (fun g=>?_) fun g=>?_
  ·have hmlt:m<(Aw r).length:=by omega
   have hmlt0:m<(Aw r0).length:=by omega
   obtain⟨k,hkm⟩:∃k,(Aw r)[m]? =some k:=⟨_,List.getElem?_eq_getElem hmlt⟩
   obtain⟨k0,hkm0⟩:∃k,(Aw r0)[m]? =some k:=⟨_,List.getElem?_eq_getElem hmlt0⟩
   have hkl:=hT.len r hmem k (List.mem_of_getElem? hkm)
   have l1:=Ll.ld rj st4 (i:=m) (a:=txt q (AM k)) (by rw[List.getElem?_map,hkm];rfl)
   have l0:∀st,Ac st [] (.t (ixT 1 u0 m)) 0=some (.str (txt q (AM k0))):=fun st=>Ll.ld rr0 st (i:=m) (a:=txt q (AM k0)) (by rw[List.getElem?_map,hkm0];rfl)
   have l2:=Ll.ld rq st4 (i:=m) (a:=Bn q (AM k)) (by rw[List.getElem?_map,hkm];rfl)
   refine⟨⟨by omega,by rw[hrjz];omega⟩,Ad l1 (Al ⟨⟨by omega,by rw[hr1.lenZ];omega⟩,Ad (hl0 _) ⟨⟨by omega,by rw[hr0z];omega⟩,Ad (l0 _) (Al ⟨⟨by omega,by rw[hr2.lenZ];omega⟩,Ad (hlq _) ⟨⟨by omega,by rw[hrqz];omega⟩,Ad l2 (Ao ?_)⟩⟩)⟩⟩)⟩
   refine Np (by omega) fun st5 e5=>⟨hlq _,l0 _,hl0 _,Ab (one14 rfl rfl rfl) ?_⟩
   have hcb:=LG ty (Bn q (AM k)) (txt q (AM k))
   refine Fy (e4.trans e5) rfl (hC.ext e5) (by omega) (fun h=>by cases h) fun v' st6 e6 _ ho'=>Ab (List.all_eq_true.2 fun x hx=>by rw[List.mem_singleton.1 hx];exact ho'.rd.one) ?_
   rw[w1 m (by omega)]
   refine⟨⟨rfl,rfl,rfl,rfl,rfl,rfl,rfl,rfl,rfl,rfl,rfl,rfl,rfl,rfl,rfl,rfl,rfl,rfl,rfl,rfl,rfl,rfl,rfl,rfl,rfl,rfl,rfl,rfl,rfl,rfl,rfl,rfl,rfl,rfl,rfl,rfl,rfl,e6,m+1,rfl,by omega,_,ho',?_⟩,by dsimp only;omega⟩
   rw[Vc (nm:=txt q (AM k0)) (by rw[List.getElem?_map,List.getElem?_map,hkm0];rfl) (Ro hkm)]
   exact hCv.snoc0 (by unfold FdR;exact⟨_,rfl,Pt _ hcb⟩)
  ·have hmW:m=W:=by omega
   subst hmW
   rw[<-hwid]at hC hCv
   have hfull:(F2 q ty ((Aw r).map AM)).take (Aw r).length=F2 q ty ((Aw r).map AM):=List.take_of_length_le (by rw[JS,List.length_map];omega)
   have hfull0:(((Aw r0).map AM).map (txt q)).take (Aw r).length=((Aw r0).map AM).map (txt q):=List.take_of_length_le (by rw[List.length_map,List.length_map];omega)
   rw[hfull,hfull0]at hCv
   have hfl:(Sr (((Aw r0).map AM).map (txt q)) (F2 q ty ((Aw r).map AM))).length=(Aw r).length:=by unfold Sr;rw[List.length_zipWith,JS,List.length_map,List.length_map,List.length_map];omega
   have hx:VlR St.zero (recV (((Aw r0).map AM).map (txt q)) (F2 q ty ((Aw r).map AM))) (Bh (scW 7) .nilSlice .nilSlice vC):=vr_map (f:=Sr (((Aw r0).map AM).map (txt q)) (F2 q ty ((Aw r).map AM))) (by rw[hfl];exact hC.rd) hCv
   refine Ab (DU rfl rfl hC.rd.one) ?_
   have hlen:(Iv q true ty ((Ej rs).take j)).length<=2000000:=by
    cases hb:(Ej rs).take j with
    | nil=>exact Nat.zero_le _
    | cons x y=>
     have:=congrArg List.length hb
     rw[List.length_take,List.length_cons]at this
     show(y.map _).length<=_
     rw[List.length_map];omega
   refine Fy (e3.trans e4) rfl (hB.ext e4) (by omega) (fun h=>by cases h) fun v' st6 e6 _ ho'=>Ab (List.all_eq_true.2 fun x hx=>by rw[List.mem_singleton.1 hx];exact ho'.rd.one) ?_
   rw[w1 j (by omega)]
   refine⟨⟨rfl,rfl,rfl,rfl,rfl,rfl,rfl,rfl,rfl,rfl,rfl,rfl,rfl,rfl,rfl,rfl,rfl,rfl,rfl,rfl,e6,j+1,rfl,by omega,xs++Bh (scW 7) .nilSlice .nilSlice vC,?_,?_⟩,by dsimp only;omega⟩
   ·rw[Mw (hraw hjr) (by omega) (hraw hj0),List.length_append];exact ho'
   ·rw[Mw (hraw hjr) (by omega) (hraw hj0)];exact hBv.snoc hx
 ·have hhd:hd=true:=by cases hd;exact absurd hh (by decide);rfl
  subst hhd
  have hj0:j=0:=by omega
  subst hj0
  rw[w1 0 (by omega)]
  refine⟨⟨rfl,rfl,rfl,rfl,rfl,rfl,rfl,rfl,rfl,rfl,rfl,rfl,rfl,rfl,rfl,rfl,rfl,rfl,rfl,rfl,e3,1,rfl,by omega,xs,?_,?_⟩,by dsimp only;omega⟩
  ·rw[QU]
   rw[List.take_zero]at hB
   exact hB
  ·rw[QU]
   rw[List.take_zero]at hBv
   exact hBv
end
end
theorem szl'' (s:Sc):(BA s).sz=1+s.bytes.length+s.text.length+s.dg.length:=szl' s
theorem Xr {a q:Int} {s:B8} {i:Nat} {ks:List Nd} {e n:Nat} (h:Hj a q s i ks e n):i<=s.length->LY (ks.map AM)+i<=e:=by
 induction h with
 | @last i e n h1 h2 h3=>
  intro hi
  have hl:=Ch hi h1
  simp only[List.map_cons,List.map_nil,BX,LY]
  rw[JN hl.1 hl.2];omega
 | @more i e e' n ks h1 h2 h3 h4 ih=>
  intro hi
  have hl:=Ch hi h1
  have:=ih (by omega)
  simp only[List.map_cons,BX,LY]
  rw[JN hl.1 hl.2];omega
theorem Wy {a q:Int} {s:B8} {i:Nat} {rs:List Nd} (h:HG a q s i rs):i<=s.length->Oa (Ej rs)+i<=s.length/\Hd (Ej rs)+i<=s.length+1/\(i<s.length∨rs=[]->True)/\rs.length+i<=s.length:=by
 induction h with
 | nil h=>intro hi;simp[Ej,Oa,Hd];omega
 | @cons i e n ks rs h1 h2 h3 ih=>
  intro hi
  have hle:=h2.le hi
  have hs:=Xr h2 hi
  have hn:=(Fi (by omega) hle.2.2.2.2).2.1
  obtain⟨a1,a2,_,a4⟩:=ih (by omega)
  have hk:Ej (.mk 8 [] [] ks (slc s e (e+n))::rs)=ks.map AM::Ej rs:=rfl
  rw[hk]
  simp only[Oa,Hd,List.length_map,List.length_cons]
  have hc:n=0->rs=[]:=fun h0=>by
   have:=hn h0
   cases rs with
   | nil=>rfl
   | cons x y=>simp only[List.length_cons]at a4;omega
  refine⟨by omega,?_,fun _=>trivial,?_⟩
  ·rcases Nat.eq_zero_or_pos n with h0 | h0
   ·rw[hc h0];simp[Ej,Hd];omega
   ·omega
  ·rcases Nat.eq_zero_or_pos n with h0 | h0
   ·rw[hc h0];simp;omega
   ·omega
theorem tree_of {a q:Int} {s:B8} {rs:List Nd} (h:HG a q s 0 rs) (hs:s.length<=1400000) (hlen:∀r,r∈rs->∀k,k∈Aw r->(txt q (AM k)).length<=65536) (hW:∃W:Int,∀r,r∈rs->((Aw r).length:Int)=W):∃W,Ua a q rs W:=by
 obtain⟨W,hW⟩:=hW
 obtain⟨h1,h2,_,h4⟩:=Wy h (Nat.zero_le _)
 have mem:∀r,r∈rs->LY ((Aw r).map AM)<=s.length/\(Aw r).length<=s.length+1:=by
  intro r hr
  obtain⟨j,hj⟩:=List.getElem?_of_mem hr
  have hj2:(Ej rs)[j]? =some ((Aw r).map AM):=by unfold Ej;rw[List.getElem?_map,hj];rfl
  have:=Q5 hj2
  rw[List.length_map]at this
  omega
 by_cases hne:rs=[]
 ·subst hne
  exact⟨0,⟨fun r hr=>(by cases hr),fun r hr=>(by cases hr),fun r hr=>(by cases hr),by simp,by omega⟩⟩
 refine⟨W.toNat,⟨h.form (Nat.zero_le _),fun r hr=>by have:=hW r hr;omega,fun r hr k hk=>⟨hlen r hr k hk,?_⟩,by omega,?_⟩⟩
 ·have h5:=Q4 (List.mem_map.2 ⟨k,hk,rfl⟩:AM k∈(Aw r).map AM)
  have:=(mem r hr).1;omega
 ·obtain⟨r,t,rfl⟩:=List.exists_cons_of_ne_nil hne
  have:=hW r (.head _)
  have:=(mem r (.head _)).2
  omega
theorem VA {n:Nd} {a q:Int} {hd:Bool} (h:H2 n a q hd):∃rs W,n= .mk 1 [] [] rs []/\Ua a q rs W:=by
 obtain⟨rs,rfl,_,_,_,_,_,hr,hl,hW⟩:=DZ h.2
 have hlen:=NL h.1
 have hn:=D2 (.mk 1 [] [] rs [])
 obtain⟨W,hT⟩:=tree_of hr (by show(CU (.mk 1 [] [] rs [])).length<=_;omega) hl hW
 exact⟨rs,W,rfl,hT⟩
theorem RC {x:Cx} {hd:Bool} {l2 l3 l4:Int} {n:Nd} (h:AZ x hd l2 l3 l4= .ok n):Je x.s x.a x.q hd= .ok n:=by
 obtain⟨rs,rfl,hd1,hl,hle,hv,hdoc,hr,hlen,hW⟩:=DZ h
 unfold lOk at hl
 rw[decide_eq_true_eq]at hl
 obtain⟨rs1,q1,_,_,_,q6⟩:=R4 _ (Nat.zero_le _) hdoc
 rw[List.nil_append]at q1
 subst q1
 obtain⟨rs2,j1,j2,_,_⟩:=Xw (d':=48) (n':=65536) _ hdoc
 rw[List.nil_append]at j1
 subst j1
 have hdoc2:=j2 (.inr (by decide)) (by rcases q6 with q6 | q6<;>omega)
 show AZ (xU x.s x.a x.q) hd 1048576 1024 65536=_
 unfold AZ
 rw[if_neg (show ¬dOk x.a x.q=false by rw[hd1];decide),if_neg (show ¬lOk 48 65536 1048576 1024 65536=false by decide),if_neg (show ¬(1048576:Int)<(x.s.length:Int) by omega),if_neg (show ¬vlen x.s≠x.s.length by rw[hv];simp)]
 rw[show DN (xU x.s x.a x.q) hd ((xU x.s x.a x.q).s.length+1) [] 0 1 [] 0= .ok rs from hdoc2]
section
section
variable {a q:Int} {hd ty:Bool} {st:St}
theorem RU {s:B8} {l0 l1 l2 l3 l4:Int} (hl:s.length<=70000) {K:Int->Bool->Bool->B8->Int->Int->Int->Int->Int->B8->TV->TV->TV->Int->Int->St->Prop}
  (hk1:∀(p:Nat×Int) st',Ap st st'->AZ ⟨s,a,q,l0,l1⟩ hd l2 l3 l4= .error p->p.2≠0->K 0 false false [] 0 0 0 0 0 [] .nilSlice .nilSlice .nilSlice p.1 p.2 st')
  (hk2:∀rs u xs st',Ap st st'->AZ ⟨s,a,q,l0,l1⟩ hd l2 l3 l4= .ok (.mk 1 [] [] rs [])->Rd 13 u (Iv q hd ty (Ej rs)).length xs->VsR St.zero (Iv q hd ty (Ej rs)) xs->K 6 false false [] 0 0 0 0 0 [] .nilSlice u .nilSlice 0 0 st'):
  CallT PR EX [.str s,.agg [.int .u8 a,.int .u8 q,.bool hd,.bool ty],.agg [.int .i64 l0,.int .i64 l1,.int .i64 l2,.int .i64 l3,.int .i64 l4]] [.agg Ub,.one (.int .i64),.one (.int .i64)] st K:=by
 refine PC s a q hd ty l0 l1 l2 l3 l4 st K (OM (x:=⟨s,a,q,l0,l1⟩) (by show s.length<=_;omega) fun k kv st1 e1 hn=>?_)
 obtain⟨_,_,_,_,_,h5,ho⟩:=hn.five
 cases h5
 have hcn:Ex (pN (AZ ⟨s,a,q,l0,l1⟩ hd l2 l3 l4))<=1000000000000000:=WM (by show s.length<=_;omega)
 rcases hP:AZ ⟨s,a,q,l0,l1⟩ hd l2 l3 l4 with p | n
 ·rw[hP]at hk1
  have hne:=S6 hP
  exact Ab (D1 ho) (Aa (fun _=>hk1 p st1 e1 rfl hne) fun g=>absurd hne g)
 ·rw[hP]at hn hcn hk2
  obtain⟨rs,hrs,_⟩:=DZ hP
  subst hrs
  have hU:=RC hP
  obtain⟨htx,_,hou⟩:=WZ (show s.length<=70000 from hl) hU
  have hnl:=D2 (.mk 1 [] [] rs [])
  rw[htx]at hnl
  have hl':s.length<=70000:=hl
  refine Ab (D1 ho) (Aa (fun g=>absurd rfl g) fun _=>VJ hn (by show DT (.mk 1 [] [] rs [])<=_;rw[<-hnl];show s.length<=_;omega) hcn (fun ho=>?_) (fun h=>absurd hou h) fun _ u xs st2 e2 hu hx=>?_)
  ·obtain⟨rs',W,he,hT⟩:=VA ho
   have he:Nd.mk 1 [] [] rs []= .mk 1 [] [] rs' []:=he
   cases he
   exact⟨W,hT⟩
  ·exact Ab (DU rfl hu.one rfl) (Ab (DU rfl hu.one rfl) (hk2 rs u xs st2 (e1.trans e2) rfl hu hx))
end
theorem SlR.zero {sz n:Nat} {v:TV} {xs:List TV} (h:SlR St.zero sz v n xs):Rd sz v n xs:=by
 rcases h with h | ⟨b,_,_,_,_,hb,_⟩
 ·exact h
 ·exact absurd hb (Nat.not_lt_zero _)
theorem Ul {xs:List TV} {k n j:Nat} {cs:List TV} (h:(xs.drop k).take n=cs) {x:TV} (hx:cs[j]? =some x):xs[k+j]? =some x:=by
 rw[<-h,List.getElem?_take]at hx
 split at hx
 ·rwa [List.getElem?_drop]at hx
 ·cases hx
theorem Rd.isP {sz n i:Nat} {u:TV} {xs:List TV} (h:Rd sz u n xs) (hi:i<n):isPtr (ixT sz u i)=true:=(SlR.of_rd (st:=St.zero) h).isPtr hi
theorem ld13 {u:TV} {xs:List TV} {l:List Vl} (hr:Rd 13 u l.length xs) (hv:VsR St.zero l xs) {i:Nat} {s':Sc} {l':List Vl} {f':List Fd} (hi:l[i]? =some (.mk s' l' f')):
  isPtr (ixT 13 u i)=true/\∃ub ul uf xl xf,(∀st (j:Nat) x,(Bh s' ub ul uf)[j]? =some x->Ac st [] (.t (Am (ixT 13 u i) j)) 0=some x)/\Rd 13 ul l'.length xl/\VsR St.zero l' xl/\Rd 14 uf f'.length xf/\FsR St.zero f' xf:=by
 obtain⟨hlt,_⟩:=List.getElem?_eq_some_iff.1 hi
 obtain⟨cs,hc,hcx,_⟩:=hv.get hi
 obtain⟨ub,ul,uf,xl,xf,rfl,_,h2,h3,h4,h5⟩:=hc.cells
 exact⟨hr.isP hlt,ub,ul,uf,xl,xf,fun st j x hx=>hr.ldfx st i j (Ul hcx hx),h2.zero,h3,h4.zero,h5⟩
theorem UD {sz n i:Nat} {u:TV} {xs:List TV} (h:Rd sz u n xs) (hi:i<n) (a b:Nat):Am (Am (ixT sz u i) a) b=Am (ixT sz u i) (a+b)/\isPtr (Am (ixT sz u i) a)=true:=by
 rcases h with⟨rfl,rfl,_⟩ | ⟨tip,rfl⟩
 ·omega
 ·refine⟨?_,rfl⟩
  simp only[ixT,Am,Nat.beq_refl,List.drop_drop,Nat.add_assoc]
theorem ld14 {u:TV} {xs:List TV} {l:List Fd} (hr:Rd 14 u l.length xs) (hv:FsR St.zero l xs) {i:Nat} {k:B8} {s':Sc} {l':List Vl} {f':List Fd} (hi:l[i]? =some (.mk k (.mk s' l' f'))):
  isPtr (ixT 14 u i)=true/\isPtr (Am (ixT 14 u i) 1)=true/\∃ub ul uf,∀st (j:Nat) x,(Bh s' ub ul uf)[j]? =some x->Ac st [] (.t (Am (Am (ixT 14 u i) 1) j)) 0=some x:=by
 obtain⟨hlt,_⟩:=List.getElem?_eq_some_iff.1 hi
 obtain⟨cs,hc,hcx,_⟩:=hv.get hi
 unfold FdR at hc
 obtain⟨c,rfl,hc⟩:=hc
 obtain⟨ub,ul,uf,xl,xf,rfl,_⟩:=hc.cells
 refine⟨hr.isP hlt,(UD hr hlt 1 0).2,ub,ul,uf,fun st j x hx=>?_⟩
 rw[(UD hr hlt 1 j).1]
 exact hr.ldfx st i (1+j) (Ul hcx (by rw[Nat.add_comm 1 j];exact hx))
end
theorem WO {s:B8} (hu:U8 s) (hl:s.length<=65536):FW (tkT s) [] [] where
 own:=⟨(by decide:(0:Int)<=4),(by decide:(4:Int)<=7),fun _=>rfl,fun _=>⟨rfl,rfl,rfl⟩,fun _=>⟨rfl,rfl,rfl,rfl⟩,fun h=>absurd rfl h,fun _=>rfl,fun _=>rfl,fun _=>rfl⟩
 dec:=by show CW false [] 0;decide
 time:=fun h=>by cases h
 text:=hu
 tlen:=hl
 blen:=Nat.zero_le _
 keys:=rfl
theorem TJ {s:Sc} (h:FW s [] []):Fu (BA s)=0:=by
 have h0:=OP.2 h
 unfold BA Fu CO
 rw[if_neg (by omega),if_neg (by omega),if_neg (by omega)]
 unfold Gs Dg Dh
 rfl
def Vt:List (List B8):=[[[97],[98]],[[49],[120]],[[34,49,34],[]]]
theorem textA:CS 44 Vt=Ve:=by decide
theorem dA:dOk 44 34=true:=by decide
theorem plA (c:B8) (h:DB 44 34 c=false/\(c.all fun x=>decide (x.toNat<128))=true/\(txt 34 c).length<=65536):Hk 44 34 c/\vlen c=c.length/\(txt 34 c).length<=65536:=⟨Hg (Xx dA) h.1,Dn c h.2.1,h.2.2⟩
theorem parseG:∃rs,Je Ve 44 34 true= .ok (.mk 1 [] [] rs [])/\Ej rs=Vt:=by
 have hF:Hk 44 34 [34,49,34]/\vlen [34,49,34]=([34,49,34]:B8).length/\(txt 34 [34,49,34]).length<=65536:=⟨LE (Xx dA) [49],Dn _ rfl,by decide⟩
 have:=readX (a:=44) (q:=34) dA true (l:=Vt) (W:=2) (fun r hr=>by
  simp only[Vt,List.mem_cons,List.not_mem_nil,or_false]at hr
  rcases hr with rfl | rfl | rfl
  ·exact⟨by decide,rfl,fun c hc=>by
    simp only[List.mem_cons,List.not_mem_nil,or_false]at hc
    rcases hc with rfl | rfl<;>exact plA _ (by decide)⟩
  ·exact⟨by decide,rfl,fun c hc=>by
    simp only[List.mem_cons,List.not_mem_nil,or_false]at hc
    rcases hc with rfl | rfl<;>exact plA _ (by decide)⟩
  ·exact⟨by decide,rfl,fun c hc=>by
    simp only[List.mem_cons,List.not_mem_nil,or_false]at hc
    rcases hc with rfl | rfl
    ·exact hF
    ·exact plA _ (by decide)⟩) (by rw[textA];decide) (by decide) (fun _ r hr=>by
  simp only[Vt,List.head?_cons,Option.some.injEq]at hr
  subst hr
  refine⟨by decide,fun c hc=>?_⟩
  simp only[List.mem_cons,List.not_mem_nil,or_false]at hc
  rcases hc with rfl | rfl<;>decide)
 rwa [textA]at this
def lA:List Vl:=[Wg [.mk [97] (BA (tkN false [49] 0)),.mk [98] (BA (tkT [120]))],Wg [.mk [97] (BA (tkT [49])),.mk [98] (BA (scK 0))]]
theorem valA:Iv 34 true true Vt=lA:=by kernel_rfl
theorem K9 {st:St} {K:Bool->St->Prop} (hk:∀st',Ap st st'->K true st'):CallT PR Bf [] [.one .bool] st K:=by
 obtain⟨rs,hp,hraw⟩:=parseG
 refine HA st K (MV (Rv (RU (s:=Ve) (by decide) (fun p st1 e1 h _=>?_) fun rs' u xs st1 e1 h hu hx=>?_)))
 ·rw[show AZ ⟨Ve,44,34,48,65536⟩ true 1048576 1024 65536=_ from hp]at h;cases h
 rw[show AZ ⟨Ve,44,34,48,65536⟩ true 1048576 1024 65536=_ from hp]at h
 cases h
 rw[hraw,valA]at hu hx
 have hu:Rd 13 u 2 xs:=hu
 obtain⟨p1,_,_,f1,_,xf1,ld1,_,_,hf1,hfx1⟩:=ld13 (l:=lA) hu hx (i:=1) rfl
 obtain⟨p0,_,_,f0,_,xf0,ld0,_,_,hf0,hfx0⟩:=ld13 (l:=lA) hu hx (i:=0) rfl
 obtain⟨a1,a2,_,_,_,la⟩:=ld14 hf1 hfx1 (i:=0) rfl
 obtain⟨b1,b2,_,_,_,lb⟩:=ld14 hf0 hfx0 (i:=0) rfl
 obtain⟨c1,c2,_,_,_,lc⟩:=ld14 hf1 hfx1 (i:=1) rfl
 have hf1:Rd 14 f1 2 xf1:=hf1
 have hf0:Rd 14 f0 2 xf0:=hf0
 have h49:FW (tkT [49]) [] []:=WO (Dn [49] rfl) (by decide)
 have hE:shE 44 34 true (BA (tkT [49]))=0:=by
  unfold shE
  rw[if_neg (by rw[dA];decide),if_neg (by rw[TJ h49];decide)]
  decide
 have hT:shT 44 34 true (BA (tkT [49]))=str11:=by
  unfold shT
  rw[if_pos hE]
  show EL 44 34 true (tkT [49])=_
  unfold EL
  rw[if_pos (show(tkT [49]).kind=4 from rfl),if_pos (by decide)]
  decide
 have hv:VlR St.zero (BA (tkT [49])) (Bh (tkT [49]) .nilSlice .nilSlice .nilSlice):=Pt _ rfl
 refine Ab (DU rfl hu.one rfl) (MV (RT (v:=BA (tkT [49])) (by rw[szl''];decide) hv fun st2 e2=>?_))
 rw[hE,hT]
 refine Aa (fun _=>Ab hu.isSl (Aa (fun _=>⟨⟨by decide,by rw[hu.lenZ];decide⟩,Ab p1 (Ad (ld1 _ 12 _ rfl) (Ab hf1.isSl (Aa (fun _=>⟨⟨by decide,by rw[hu.lenZ];decide⟩,Ab p1 (Ad (ld1 _ 12 _ rfl)
  ⟨⟨by decide,by rw[hf1.lenZ];decide⟩,Ab a1 (Ab a2 (Ad (la _ 9 _ rfl) (Al (Aa (fun _=>⟨⟨by decide,by rw[hu.lenZ];decide⟩,Ab p0 (Ad (ld0 _ 12 _ rfl)
   ⟨⟨by decide,by rw[hf0.lenZ];decide⟩,Ab b1 (Ab b2 (Ad (lb _ 0 _ rfl) (Az (Aa (fun _=>⟨⟨by decide,by rw[hu.lenZ];decide⟩,Ab p1 (Ad (ld1 _ 12 _ rfl)
    ⟨⟨by decide,by rw[hf1.lenZ];decide⟩,Ab c1 (Ab c2 (Ad (lc _ 0 _ rfl) (Az (Aa (fun _=>Aa (fun _=>hk st2 (e1.trans e2)) fun g=>absurd rfl g) fun g=>absurd rfl g))))⟩)⟩) fun g=>absurd rfl g))))⟩)⟩) fun g=>absurd rfl g))))⟩)⟩) fun g=>absurd (by rw[hf1.lenS];rfl) g)))⟩) fun g=>absurd (by rw[hu.lenS];rfl) g)) fun g=>absurd rfl g
theorem QO (l m:List Vl):CJ (l++m)=CJ l+CJ m:=by
 induction l with
 | nil=>simp[CJ]
 | cons v r ih=>simp only[List.cons_append,CJ,ih];omega
theorem RV (l m:List Fd):CX (l++m)=CX l+CX m:=by
 induction l with
 | nil=>simp[CX]
 | cons v r ih=>simp only[List.cons_append,CX,ih];omega
theorem O6 (l m:List Fd):BR (l++m)=BR l+BR m:=by
 induction l with
 | nil=>simp[BR]
 | cons v r ih=>simp only[List.cons_append,BR,ih];omega
theorem Ou {l:List Vl} {k:Nat} {w:Vl} (h:l[k]? =some w):CJ (l.take (k+1))=CJ (l.take k)+w.sz:=by
 rw[List.take_add_one,h,QO];simp[CJ]
theorem O4 {l:List Fd} {k:Nat} {w:Fd} (h:l[k]? =some w):CX (l.take (k+1))=CX (l.take k)+w.sz:=by
 rw[List.take_add_one,h,RV];simp[CX]
theorem Nr {l:List Fd} {k:Nat} {w:Fd} (h:l[k]? =some w):BR (l.take (k+1))=BR (l.take k)+w.cnt:=by
 rw[List.take_add_one,h,O6];simp[BR]
theorem vcnt (s:Sc) (l:List Vl) (f:List Fd):(Vl.mk s l f).cnt=1+Bx l+BR f:=by unfold Vl.cnt;rfl
theorem fcnt (k:B8) (v:Vl):(Fd.mk k v).cnt=v.cnt:=by unfold Fd.cnt;rfl
def RmOk (v:Vl) (n r:Int):Prop:=r= -1∨(0<=r/\(v.sz:Int)+3000+r*12001<=n*12001/\(v.cnt:Int)+r<=n)
theorem Vo:∀(N:Nat) (v:Vl),v.sz<=N->∀{st:St} {cs:List TV} {D n:Int} {K:Int->St->Prop},VlR St.zero v cs-> -1000<=D->D<=1000-> -1<=n->n<=1000->(∀r,RmOk v n r->K r st)->
  CallT PR A2 [.agg cs,.int .i64 D,.int .i64 n,.int .i64 3000] [.one (.int .i64)] st K:=by
 intro N
 induction N with
 | zero=>intro v h;have:=v.sz_pos;omega
 | succ N ih=>
 intro v hN st cs D n K h hD1 hD2 hn1 hn2 hk
 cases v with
 | mk s l f=>
 have hsz:=szs s l f
 have hct:=vcnt s l f
 obtain⟨ub,ul,uf,xl,xf,rfl,h1,h2,h3,h4,h5⟩:=h.cells
 have no:K (-1) st:=hk _ (.inl rfl)
 refine HO _ _ _ _ _ _ _ _ _ _ _ _ _ D n 3000 st K (Aa (fun _=>no) fun g1=>Aa (fun _=>no) fun g2=>Aa (fun _=>no) fun g3=>Ab h1.isSl (Aa (fun _=>no) fun g4=>Aa (fun _=>no) fun g5=>Ab h2.isSl (Aa (fun _=>no) fun g6=>Ab h4.isSl (Aa (fun _=>no) fun g7=>?_))))
 rw[h1.lenS]at g4
 rw[h2.lenS]at g6
 rw[h4.lenS]at g7
 rw[Ai (n-1) (by omega) (by omega)]
 refine⟨fun zn zi zd zb k bo ng dg ex tk td tn tz tx u0 u1 u2 st'=>ul=u1/\uf=u2/\D=zd/\3000=zb/\st=st'/\∃k:Nat,zi=(k:Int)/\k<=l.length/\ -1<=zn/\zn<=n-1/\(0<=zn->(CJ (l.take k):Int)+zn*12001<=(n-1)*12001/\(Bx (l.take k):Int)+zn<=n-1),
  fun _ zi _ _ _ _ _ _ _ _ _ _ _ _ _ _ _ _=>(l.length-zi).toNat,⟨rfl,rfl,rfl,rfl,rfl,0,rfl,Nat.zero_le _,by omega,by omega,fun _=>by rw[List.take_zero];simp[CJ,Bx]⟩,?_⟩
 rintro zn _ _ _ _ _ _ _ _ _ _ _ _ _ _ _ _ _ ⟨rfl,rfl,rfl,rfl,rfl,k,rfl,hkl,z1,z2,z3⟩
 refine Ab h2.isSl (Aa (fun g=>Aa (fun g0=>?_) fun g0=>?q1) fun g=>?q2)
 ·rw[h2.lenS]at g
  refine Xt (H6 _) h2 h3 rfl (by omega) fun s' l' f' ub1 ul1 uf1 gw hw on=>?_
  have hwsz:=HI gw
  have e1:=Ou gw
  have e2:=Mh gw
  obtain⟨z4,z5⟩:=z3 g0
  rw[Ai ((k:Int)+1) (by omega) (by omega),Ai (D-1) (by omega) (by omega)]
  refine ih _ (by omega) hw (by omega) (by omega) (by omega) (by omega) fun r hr=>⟨⟨rfl,rfl,rfl,rfl,rfl,k+1,by omega,by omega,?_,?_,?_⟩,by dsimp only;omega⟩
  ·rcases hr with hr | hr<;>omega
  ·rcases hr with hr | hr
   ·omega
   ·have:=Vl.sz_pos (.mk s' l' f');omega
  ·intro hr0
   rcases hr with hr | hr
   ·omega
   ·rw[e1,e2];omega
 case q1 | q2=>
  have zz:zn= -1∨(CJ l:Int)+zn*12001<=(n-1)*12001/\(Bx l:Int)+zn<=n-1:=by
   by_cases hz:0<=zn
   ·right
    have hkk:k=l.length:=by
     first
      | (exfalso;exact g0 hz)
      | (rw[h2.lenS]at g;omega)
    rw[hkk,List.take_of_length_le (Nat.le_refl _)]at z3
    exact z3 hz
   ·left;omega
  refine⟨fun yn zi zd zb k bo ng dg ex tk td tn tz tx u0 u1 u2 st'=>uf=u2/\D=zd/\3000=zb/\st=st'/\∃k:Nat,zi=(k:Int)/\k<=f.length/\ -1<=yn/\yn<=n-1/\(0<=yn->(CJ l:Int)+CX (f.take k)+yn*12001<=(n-1)*12001/\(Bx l:Int)+BR (f.take k)+yn<=n-1),
   fun _ zi _ _ _ _ _ _ _ _ _ _ _ _ _ _ _ _=>(f.length-zi).toNat,⟨rfl,rfl,rfl,rfl,0,rfl,Nat.zero_le _,by omega,by omega,fun hz=>by rw[List.take_zero];simp only[CX,BR];omega⟩,?_⟩
  rintro yn _ _ _ _ _ _ _ _ _ _ _ _ _ _ _ _ _ ⟨rfl,rfl,rfl,rfl,k2,rfl,hkl2,y1,y2,y3⟩
  have fin:(k2=f.length∨¬0<=yn)->K yn st:=by
   intro hor
   refine hk _ ?_
   by_cases hy:0<=yn
   ·rcases hor with hor | hor
    ·obtain⟨y4,y5⟩:=y3 hy
     rw[hor,List.take_of_length_le (Nat.le_refl _)]at y4 y5
     exact .inr ⟨hy,by rw[hsz];omega,by rw[hct];omega⟩
    ·exact absurd hy hor
   ·exact .inl (by omega)
  refine Ab h4.isSl (Aa (fun g8=>Aa (fun g9=>?_) fun g9=>fin (.inr g9)) fun g8=>fin (.inl (by rw[h4.lenS]at g8;omega)))
  rw[h4.lenS]at g8
  have hlt:k2<f.length:=by omega
  obtain⟨dd,hdd⟩:∃d,f[k2]? =some d:=⟨_,List.getElem?_eq_getElem hlt⟩
  obtain⟨key,w⟩:=dd
  obtain⟨s',l',f'⟩:=w
  have hky:=keyLd (st:=st) (H6 st) h4 h5 hdd
  refine⟨⟨by omega,by rw[h4.lenZ];omega⟩,Ab (h4.isPtr hlt) (Ad hky (Al (Aa (fun _=>no) fun g10=>?_)))⟩
  refine val14 (H6 _) h4 h5 rfl hlt fun key' s' l' f' ub1 ul1 uf1 gw hw on=>?_
  rw[hdd]at gw
  cases gw
  have hwsz:=H7 hdd
  have e1:=O4 hdd
  have e2:=Nr hdd
  have e3:=szd key (.mk s' l' f')
  have e4:=fcnt key (.mk s' l' f')
  obtain⟨y4,y5⟩:=y3 g9
  have g10:¬3000<(key.length:Int):=g10
  rw[Ai ((k2:Int)+1) (by omega) (by omega),Ai (D-1) (by omega) (by omega)]
  refine ih _ (by omega) hw (by omega) (by omega) (by omega) (by omega) fun r hr=>⟨⟨rfl,rfl,rfl,rfl,k2+1,by omega,by omega,?_,?_,?_⟩,by dsimp only;omega⟩
  ·rcases hr with hr | hr<;>omega
  ·rcases hr with hr | hr
   ·omega
   ·have:=Vl.sz_pos (.mk s' l' f');omega
  ·intro hr0
   rcases hr with hr | hr
   ·omega
   ·rw[e1,e2];omega
theorem QL:∀(N:Nat) (v:Vl),v.sz<=N->N<=2000000->∀{st:St} {cs:List TV} {K:Int->St->Prop},VlR St.zero v cs->(∀w:Int,(v.cnt:Int)+w=v.sz->K w st)->
  CallT PR A7 [.agg cs] [.one (.int .i64)] st K:=by
 intro N
 induction N with
 | zero=>intro v h;have:=v.sz_pos;omega
 | succ N ih=>
 intro v hN hN2 st cs K h hk
 cases v with
 | mk s l f=>
 have hsz:=szs s l f
 have hct:=vcnt s l f
 have hll:=HH l
 have hfl:=Fl f
 have hc1:=Mc l
 have hc2:=Md f
 obtain⟨ub,ul,uf,xl,xf,rfl,h1,h2,h3,h4,h5⟩:=h.cells
 refine GO _ _ _ _ _ _ _ _ _ _ _ _ _ st K (Ab h1.isSl ?_)
 refine⟨fun zn zi k bo ng dg ex tk td tn tz tx u0 u1 u2 st'=>ul=u1/\uf=u2/\st=st'/\∃k:Nat,zi=(k:Int)/\k<=l.length/\zn+(Bx (l.take k):Int)=(s.bytes.length:Int)+s.text.length+s.dg.length+CJ (l.take k),
  fun _ zi _ _ _ _ _ _ _ _ _ _ _ _ _ _=>(l.length-zi).toNat,⟨rfl,rfl,rfl,0,rfl,Nat.zero_le _,?_⟩,?_⟩
 ·rw[h1.lenS,Ai ((s.text.length:Int)+(s.bytes.length:Nat)) (by omega) (by omega),Ai _ (by omega) (by omega),List.take_zero]
  simp only[Bx,CJ];omega
 rintro zn _ _ _ _ _ _ _ _ _ _ _ _ _ _ _ ⟨rfl,rfl,rfl,k,rfl,hkl,z1⟩
 have b1:=NU l k
 have b2:CJ (l.take k)<=CJ l:=by
  conv=>rhs;rw[<-List.take_append_drop k l,QO]
  omega
 have b3:=Mc (l.take k)
 refine Ab h2.isSl (Aa (fun g=>?_) fun g=>?_)
 ·rw[h2.lenS]at g
  refine Xt (H6 _) h2 h3 rfl (by omega) fun s' l' f' ub1 ul1 uf1 gw hw on=>?_
  have hwsz:=HI gw
  have e1:=Ou gw
  have e2:=Mh gw
  have e3:=Qm (.mk s' l' f')
  rw[Ai ((k:Int)+1) (by omega) (by omega)]
  refine ih _ (by omega) (by omega) hw fun r hr=>⟨⟨rfl,rfl,rfl,k+1,by omega,by omega,?_⟩,by dsimp only;omega⟩
  rw[Ai _ (by omega) (by omega),e1,e2];omega
 ·have hkk:k=l.length:=by rw[h2.lenS]at g;omega
  rw[hkk,List.take_of_length_le (Nat.le_refl _)]at z1
  refine⟨fun yn zi k bo ng dg ex tk td tn tz tx u0 u1 u2 st'=>uf=u2/\st=st'/\∃k:Nat,zi=(k:Int)/\k<=f.length/\yn+(Bx l:Int)+BR (f.take k)=(s.bytes.length:Int)+s.text.length+s.dg.length+CJ l+CX (f.take k),
   fun _ zi _ _ _ _ _ _ _ _ _ _ _ _ _ _=>(f.length-zi).toNat,⟨rfl,rfl,0,rfl,Nat.zero_le _,by rw[List.take_zero];simp only[BR,CX];omega⟩,?_⟩
  rintro yn _ _ _ _ _ _ _ _ _ _ _ _ _ _ _ ⟨rfl,rfl,k2,rfl,hkl2,y1⟩
  have b4:BR (f.take k2)<=BR f:=by
   conv=>rhs;rw[<-List.take_append_drop k2 f,O6]
   omega
  have b5:CX (f.take k2)<=CX f:=by
   conv=>rhs;rw[<-List.take_append_drop k2 f,RV]
   omega
  have b6:=Md (f.take k2)
  refine Ab h4.isSl (Aa (fun g8=>?_) fun g8=>?_)
  case refine_2=>
   have hkk2:k2=f.length:=by rw[h4.lenS]at g8;omega
   rw[hkk2,List.take_of_length_le (Nat.le_refl _)]at y1
   exact hk _ (by rw[hsz,hct];omega)
  rw[h4.lenS]at g8
  have hlt:k2<f.length:=by omega
  obtain⟨dd,hdd⟩:∃d,f[k2]? =some d:=⟨_,List.getElem?_eq_getElem hlt⟩
  obtain⟨key,w⟩:=dd
  obtain⟨s',l',f'⟩:=w
  have hky:∀st,Ac st [] (.t (Am (ixT 14 uf k2) 0)) 0=some (.str key):=fun st=>keyLd (st:=st) (H6 st) h4 h5 hdd
  refine⟨⟨by omega,by rw[h4.lenZ];omega⟩,Ab (h4.isPtr hlt) (Ad (hky _) (Al ?_))⟩
  refine val14 (H6 _) h4 h5 rfl hlt fun key' s' l' f' ub1 ul1 uf1 gw hw on=>?_
  rw[hdd]at gw
  cases gw
  have hwsz:=H7 hdd
  have e1:=O4 hdd
  have e2:=Nr hdd
  have e3:=szd key (.mk s' l' f')
  have e4:=fcnt key (.mk s' l' f')
  have e5:=Qm (.mk s' l' f')
  rw[Ai ((k2:Int)+1) (by omega) (by omega)]
  refine ih _ (by omega) (by omega) hw fun r hr=>⟨hky _,⟨rfl,rfl,k2+1,by omega,by omega,?_⟩,by dsimp only;omega⟩
  rw[Ai (yn+_) (by omega) (by omega),Ai _ (by omega) (by omega),e1,e2];omega
theorem SJ {v:Vl} {cs:List TV} {st:St} {K:Bool->St->Prop} (h:VlR St.zero v cs) (hk:∀b:Bool,(b=true->v.sz<=20150/\v.cnt<=150)->K b st):
  CallT PR Co [.agg cs] [.one .bool] st K:=by
 have h0:=h
 obtain⟨s,l,f⟩:=v
 obtain⟨ub,ul,uf,xl,xf,rfl,_⟩:=h.cells
 refine Hy _ _ _ _ _ _ _ _ _ _ _ _ _ st K (Vo _ _ (Nat.le_refl _) h0 (by decide) (by decide) (by decide) (by decide) fun r hr=>Aa (fun g=>?_) fun g=>hk false (fun h=>by cases h))
 rcases hr with hr | ⟨hr0,hr1,hr2⟩
 ·omega
 refine QL 2000000 _ (by omega) (Nat.le_refl _) h0 fun w hw=>hk _ fun hb=>?_
 rw[decide_eq_true_eq]at hb
 omega
theorem Wq {a q:Int} {ty:Bool} {v:Vl} (h:shE a q ty v=0):dOk a q=true/\Fu v=0/\Fb ty v.sc.kind=0:=by
 unfold shE at h
 by_cases h1:dOk a q=false
 ·rw[if_pos h1]at h;cases h
 rw[if_neg h1]at h
 by_cases h2:Fu v=0
 ·rw[if_neg (by omega)]at h
  exact⟨by simpa using h1,h2,h⟩
 ·rw[if_pos h2]at h;omega
theorem WE {a q:Int} {ty:Bool} {s:Sc} {c:B8} (hdo:dOk a q=true) (ok:XX a q ty s c) (hl:c.length<=100000):
  ∃rs,Je (c++[10]) a q false= .ok (.mk 1 [] [] rs [])/\Iv q false ty (Ej rs)=[JH [BA s]]:=by
 have hx:CS a [[c]]=c++[10]:=by unfold CS;simp[CV]
 obtain⟨rs,hp,hraw⟩:=readX (a:=a) (q:=q) hdo false (l:=[[c]]) (W:=1) (fun r hr=>by
  obtain rfl:r=[c]:=by simpa using hr
  exact⟨by simp,rfl,fun c' hc'=>by
   obtain rfl:c'=c:=by simpa using hc'
   exact⟨ok.cell,ok.val,ok.tlen⟩⟩) (by rw[hx,List.length_append,List.length_singleton];omega) (show 1+Hd [[c]]<=65535 from(by decide:1+(1+0)<=65535)) (fun h=>by cases h)
 rw[hx]at hp
 refine⟨rs,hp,?_⟩
 rw[show Ej rs=[[c]]from hraw,GQ]
 show [JH [BA (Dz ty (Bn q c) (txt q c))]]=_
 rw[ok.back]
theorem lbackG_ok {v:Vl} {cs:List TV} {a q:Int} {hd ty:Bool} {st:St} {K:Bool->St->Prop} (h:VlR St.zero v cs) (hk:∀st',K true st'):
  CallT PR fn_datakitlaw28_GridBack [.agg cs,.agg [.int .u8 a,.int .u8 q,.bool hd,.bool ty]] [.one .bool] st K:=by
 have h0:=h
 obtain⟨s',l,f⟩:=v
 obtain⟨ub,ul,uf,xl,xf,rfl,_⟩:=h.cells
 refine F0 _ _ _ _ _ _ _ _ _ _ _ _ _ a q hd ty st K (SJ h0 fun b hb=>Ar (fun _=>K9 fun _ _=>hk _) fun g2=>?_)
 have hz:=hb (by simpa using g2)
 refine RT (by omega) h0 fun st1 e1=>Aa (fun g=>?_) fun g=>?_
 ·rw[show shT a q ty (.mk s' l f)=[] by unfold shT;rw[if_neg g]]
  exact Aa (fun _=>K9 fun _ _=>hk _) fun g=>absurd rfl g
 have hE:shE a q ty (.mk s' l f)=0:=Decidable.byContradiction g
 obtain⟨hdo,hc,he⟩:=Wq hE
 obtain⟨ok,hv⟩:=Sy (Xx hdo) (LD hc) he
 rw[show shT a q ty (.mk s' l f)=EL a q ty s' by unfold shT;rw[if_pos hE];rfl]
 replace ok:XX a q ty s' (EL a q ty s'):=ok
 replace hv:Vl.mk s' l f=BA s':=hv
 have hlen:=ok.len
 have hs1:=szs s' l f
 generalize EL a q ty s'=c at ok hlen⊢
 obtain⟨rs,hp,hval⟩:=WE hdo ok (by omega)
 have hcl:(c++Vf).length<=70000:=by rw[List.length_append];show _+1<=_;omega
 refine⟨by show c.length+1<=_;omega,O0 (RU (s:=c++Vf) hcl (fun p st2 e2 hp' _=>?_) fun rs' u xs st2 e2 hp' hu hxs=>?_)⟩
 ·rw[show AZ ⟨c++Vf,a,q,48,65536⟩ false 1048576 1024 65536=_ from hp]at hp';cases hp'
 rw[show AZ ⟨c++Vf,a,q,48,65536⟩ false 1048576 1024 65536=_ from hp]at hp'
 cases hp'
 rw[hval]at hu hxs
 obtain⟨p0,_,ul0,_,xl0,_,ld0,hu0,hxs0,_,_⟩:=ld13 (l:=[JH [BA s']]) hu hxs (i:=0) rfl
 have hu:Rd 13 u 1 xs:=hu
 have hu0:Rd 13 ul0 1 xl0:=hu0
 obtain⟨ds,hd1,hd2,_⟩:=hxs0.get (i:=0) (v:=BA s') rfl
 obtain⟨ub1,ul1,uf1,xl1,xf1,rfl,_⟩:=hd1.cells
 have hl13:xl0.length=1*13:=hxs0.len
 have hld:∀st,Ah st [] (.t (ixT 13 ul0 0)) 0 13=some (Bh s' ub1 ul1 uf1):=fun st=>by
  rw[(SlR.of_rd (st:=st) hu0).ldc hl13 (by decide),<-hd2]
 refine Ab (DU rfl hu.one rfl) (Aa (fun _=>Ab hu.isSl (Aa (fun _=>⟨⟨by decide,by rw[hu.lenZ];decide⟩,Ab p0 (Ad (ld0 _ 11 _ rfl) (Ab hu0.isSl (Aa (fun _=>⟨⟨by decide,by rw[hu.lenZ];decide⟩,Ab p0 (Ad (ld0 _ 11 _ rfl)
  ⟨⟨by decide,by rw[hu0.lenZ];decide⟩,Ad (show(Ah _ [] (.t (ixT 13 ul0 0)) 0 13).map TV.agg=some (.agg (Bh s' ub1 ul1 uf1)) by rw[hld];rfl) (TB ?_)⟩)⟩) fun g=>absurd (by rw[hu0.lenS];rfl) g)))⟩) fun g=>absurd (by rw[hu.lenS];rfl) g)) fun g=>absurd rfl g)
 refine WL (v:=BA s') (w:= .mk s' l f) (by rw[<-hv];omega) (by omega) (by rw[<-hv];exact VX hc) hd1 h0 (H6 _) fun r st3 e3 hr=>⟨ld0 _ 11 _ rfl,ld0 _ 11 _ rfl,?_⟩
 rw[hr.2 hv.symm]
 exact Ar (fun _=>K9 fun st4 _=>⟨hld _,ld0 _ 11 _ rfl,ld0 _ 11 _ rfl,hk _⟩) fun g=>by cases g
end Go.TVF
