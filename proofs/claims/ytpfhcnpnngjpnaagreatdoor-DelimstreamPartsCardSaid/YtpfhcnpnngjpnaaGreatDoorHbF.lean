/- What the laws below rest on: a framework for Go programs, and contracts of the functions that they reach. -/
import Derived.Test.YtpfhcnpnngjpnaaGreatDoorHbE
set_option maxRecDepth 20000
set_option linter.unusedVariables false
set_option linter.unusedSimpArgs false
namespace Go.TVF
open Go.IntKind(i64 u8)
open Go Go.Proofs
section
theorem Own.extXD {S:Nat->Prop} {b sz:Nat} {st st':St} {v:TV} {n:Nat} {xs:List TV} (h:Own b sz st v n xs) (e:StX S st st'):Own b sz st' v n xs:=by
 rcases h with h | ⟨tip,h,ht | ⟨id,h1,h2,h3,h4⟩⟩
 ·exact .inl h
 ·exact .inr ⟨tip,h,.inl ht⟩
 ·exact .inr ⟨tip,h,.inr ⟨id,h1,h2,Nat.lt_of_lt_of_le h3 e.nt,by rw[e.live _ h3];exact h4⟩⟩
theorem ldB {st:St} {b i:Nat} {l:List TV} {x:TV} (hb:st.box b= .cells l) (hx:l[i]? =some x):Ab st [] (.t (.box b i)) 0=some x:=by
 simp only[Ab,hb,Nat.add_zero];exact hx
theorem EU {st:St} {b off:Nat} {x:TV} {l:List TV} {k:St->Prop} (hb:st.box b= .cells l) (hl:Nat.ble (off+1) l.length=true) (hk:∀st',StX (·=b) st st'->st'.box b= .cells (l.set off x)->k st'):stB st (.box b off) [x] k:=by
 have hl:=Nat.le_of_ble_eq_true hl
 refine⟨l,hb,by simpa using hl,hk _ (StX.put (S:=(·=b)) rfl _) ?_⟩
 rw[Eo]
 rfl
def LN (st:St) (p i:Nat):Int:=match st.box p with | .cells l=>(match l[i]? with | some (TV.int _ k)=>k | _=>0) | _=>0
theorem Dr {st:St} {p i:Nat} {l:List TV} {kd:IntKind} {k:Int} (hb:st.box p= .cells l) (hx:l[i]? =some (.int kd k)):LN st p i=k:=by
 simp only[LN,hb,hx]
def pcl (x:Cx) (hd ty:Bool) (l2 l3 l4:Int) (m:Nat) (i n w o e:Int):List TV:=
 [.str x.s,.int .u8 x.a,.int .u8 x.q,.bool hd,.bool ty,.int .i64 x.dep,.int .i64 x.nod,.int .i64 l2,.int .i64 l3,.int .i64 l4,.int .i64 i,.int .i64 n,.int .i64 w,.map m,.int .i64 o,.int .i64 e]
structure PSD (p m:Nat) (x:Cx) (hd ty:Bool) (l2 l3 l4:Int) (ns:List B8) (i n w o e:Int) (st:St):Prop where
 ne:p≠m
 lp:p<st.nb
 lm:m<st.nb
 bx:st.box p= .cells (pcl x hd ty l2 l3 l4 m i n w o e)
 mp:∃es,st.box m= .map es/\MapN es ns
abbrev PM (p m:Nat):Nat->Prop:=fun i=>i=p∨i=m
theorem PSD.of {p m:Nat} {x:Cx} {hd ty:Bool} {l2 l3 l4:Int} {ns:List B8} {i n w o e i' n' w' o' e':Int} {st st':St} (h:PSD p m x hd ty l2 l3 l4 ns i n w o e st) (k:StX (·=p) st st')
  (b:st'.box p= .cells (pcl x hd ty l2 l3 l4 m i' n' w' o' e')):PSD p m x hd ty l2 l3 l4 ns i' n' w' o' e' st':=by
 obtain⟨es,h1,h2⟩:=h.mp
 exact⟨h.ne,Nat.lt_of_lt_of_le h.lp k.nb,Nat.lt_of_lt_of_le h.lm k.nb,b,es,by rw[k.box _ h.lm (fun g=>h.ne g.symm)];exact h1,h2⟩
theorem PSD.keep {S:Nat->Prop} {p m:Nat} {x:Cx} {hd ty:Bool} {l2 l3 l4:Int} {ns:List B8} {i n w o e:Int} {st st':St} (h:PSD p m x hd ty l2 l3 l4 ns i n w o e st) (k:StX S st st') (hp:¬S p) (hm:¬S m):
  PSD p m x hd ty l2 l3 l4 ns i n w o e st':=by
 obtain⟨es,h1,h2⟩:=h.mp
 exact⟨h.ne,Nat.lt_of_lt_of_le h.lp k.nb,Nat.lt_of_lt_of_le h.lm k.nb,by rw[k.box _ h.lp hp];exact h.bx,es,by rw[k.box _ h.lm hm];exact h1,h2⟩
theorem StX.pm {p m:Nat} {a b:St} (h:StX (·=p) a b):StX (PM p m) a b:=h.mono fun _=> .inl
section
variable {p m:Nat} {x:Cx} {hd ty:Bool} {l2 l3 l4:Int} {ns:List B8} {I n w o e:Int} {st:St}
theorem CR {o' e':Int} {K:Bool->St->Prop} (h:PSD p m x hd ty l2 l3 l4 ns I n w o e st) (hk:∀st',StX (PM p m) st st'->PSD p m x hd ty l2 l3 l4 ns I n w o' e' st'->K false st'):
  Ae PR Am [.box p 0,.int .i64 o',.int .i64 e'] [.one .bool] st K:=by
 refine HW p o' e' st K (EU h.bx rfl fun st1 e1 b1=>EU b1 rfl fun st2 e2 b2=>?_)
 exact hk st2 (e1.trans e2).pm (h.of (e1.trans e2) b2)
theorem OG {d v:Int} {i:Nat} {K:Bool->St->Prop} (hI:I=(i:Int)) (hv0:0<=v) (hv:v<1000000000) (h:PSD p m x hd ty l2 l3 l4 ns I v w o e st)
  (h0:∀v' st',ES x.dep x.nod d i v= .ok v'->StX (PM p m) st st'->PSD p m x hd ty l2 l3 l4 ns I v' w o e st'->K true st')
  (h1:∀(o':Nat) e' st',ES x.dep x.nod d i v= .error (o',e')->StX (PM p m) st st'->PSD p m x hd ty l2 l3 l4 ns I v w o' e' st'->K false st'):
  Ae PR Bw [.box p 0,.int .i64 d] [.one .bool] st K:=by
 unfold ES at h0 h1
 subst hI
 have hb:=h.bx
 refine HH p d st K ?_
 repeat' first
  | (guard_target=~need _ _;refine Aa rfl ?_)
  | (guard_target=~Af (Ab _ _ _ _) _;refine Ad (ldB hb rfl) ?_)
  | (guard_target=~Ah (.int _) _ _;refine At ?_)
  | (guard_target=~Ah .str _ _;refine Al ?_)
  | (guard_target=~Ah .bool _ _;refine Aq ?_)
 refine Ac (fun g=>?_) fun g=>?_
 ·rw[if_pos g]at h1
  repeat' first
   | (guard_target=~need _ _;refine Aa rfl ?_)
   | (guard_target=~Af (Ab _ _ _ _) _;refine Ad (ldB hb rfl) ?_)
   | (guard_target=~Ah (.int _) _ _;refine At ?_)
   | (guard_target=~Ah .str _ _;refine Al ?_)
   | (guard_target=~Ah .bool _ _;refine Aq ?_)
  exact CR h fun st' e1 k1=>h1 _ _ st' rfl e1 k1
 rw[if_neg g]at h0 h1
 repeat' first
  | (guard_target=~need _ _;refine Aa rfl ?_)
  | (guard_target=~Af (Ab _ _ _ _) _;refine Ad (ldB hb rfl) ?_)
  | (guard_target=~Ah (.int _) _ _;refine At ?_)
  | (guard_target=~Ah .str _ _;refine Al ?_)
  | (guard_target=~Ah .bool _ _;refine Aq ?_)
 refine Ac (fun g2=>?_) fun g2=>?_
 ·rw[if_pos g2]at h1
  repeat' first
   | (guard_target=~need _ _;refine Aa rfl ?_)
   | (guard_target=~Af (Ab _ _ _ _) _;refine Ad (ldB hb rfl) ?_)
   | (guard_target=~Ah (.int _) _ _;refine At ?_)
   | (guard_target=~Ah .str _ _;refine Al ?_)
   | (guard_target=~Ah .bool _ _;refine Aq ?_)
  exact CR h fun st' e1 k1=>h1 _ _ st' rfl e1 k1
 rw[if_neg g2]at h0
 repeat' first
  | (guard_target=~need _ _;refine Aa rfl ?_)
  | (guard_target=~Af (Ab _ _ _ _) _;refine Ad (ldB hb rfl) ?_)
  | (guard_target=~Ah (.int _) _ _;refine At ?_)
  | (guard_target=~Ah .str _ _;refine Al ?_)
  | (guard_target=~Ah .bool _ _;refine Aq ?_)
 refine EU hb rfl fun st1 e1 b1=>?_
 rw[As _ (by omega) (by omega)]at b1
 exact h0 _ st1 rfl e1.pm (h.of e1 b1)
theorem SN {i:Nat} {K:Bool->St->Prop} (hI:I=(i:Int)) (hi:i<x.s.length) (hl:x.s.length<=2000000) (h:PSD p m x hd ty l2 l3 l4 ns I n w o e st)
  (h0:∀(k:Nat) st',QE x.q x.s (i+1)=some k->StX (PM p m) st st'->PSD p m x hd ty l2 l3 l4 ns k n w o e st'->K true st')
  (h1:∀(k:Int) st',QE x.q x.s (i+1)=none->StX (PM p m) st st'->PSD p m x hd ty l2 l3 l4 ns k n w (x.s.length:Nat) 4 st'->K false st'):
  Ae PR Cu [.box p 0] [.one .bool] st K:=by
 subst hI
 have hb:=h.bx
 have tn:∀k:Nat,Int.toNat (k:Int)=k:=fun k=>rfl
 have w1:∀k:Nat,k<=x.s.length->i64.wrap ((k:Int)+1)=((k+1:Nat):Int):=fun k hk=>by rw[As _ (by omega) (by omega)];omega
 refine GZ p st K ?_
 repeat' first
  | (guard_target=~need _ _;refine Aa rfl ?_)
  | (guard_target=~Af (Ab _ _ _ _) _;refine Ad (ldB hb rfl) ?_)
  | (guard_target=~Ah (.int _) _ _;refine At ?_)
  | (guard_target=~Ah .str _ _;refine Al ?_)
  | (guard_target=~Ah .bool _ _;refine Aq ?_)
 refine EU hb rfl fun st1 e1 b1=>?_
 rw[w1 i (by omega)]at b1
 refine⟨fun p' st'=>TV.box p 0=p'/\StX (PM p m) st st'/\∃k:Nat,PSD p m x hd ty l2 l3 l4 ns k n w o e st'/\i<k/\k<=x.s.length/\QE x.q x.s (i+1)=QE x.q x.s k,
  fun _ st'=>(x.s.length-LN st' p 10).toNat,⟨rfl,e1.pm,i+1,h.of e1 b1,by omega,by omega,rfl⟩,?_⟩
 rintro _ st2 ⟨rfl,e2,k,h2,hk1,hk2,hq⟩
 have hb2:=h2.bx
 repeat' first
  | (guard_target=~need _ _;refine Aa rfl ?_)
  | (guard_target=~Af (Ab _ _ _ _) _;refine Ad (ldB hb2 rfl) ?_)
  | (guard_target=~Ah (.int _) _ _;refine At ?_)
  | (guard_target=~Ah .str _ _;refine Al ?_)
  | (guard_target=~Ah .bool _ _;refine Aq ?_)
 refine Ac (fun q1=>?_) fun q1=>?_
 ·repeat' first
   | (guard_target=~need _ _;refine Aa rfl ?_)
   | (guard_target=~Af (Ab _ _ _ _) _;refine Ad (ldB hb2 rfl) ?_)
   | (guard_target=~Ah (.int _) _ _;refine At ?_)
   | (guard_target=~Ah .str _ _;refine Al ?_)
   | (guard_target=~Ah .bool _ _;refine Aq ?_)
  refine⟨⟨by omega,by omega⟩,?_⟩
  repeat' first
   | (guard_target=~need _ _;refine Aa rfl ?_)
   | (guard_target=~Af (Ab _ _ _ _) _;refine Ad (ldB hb2 rfl) ?_)
   | (guard_target=~Ah (.int _) _ _;refine At ?_)
   | (guard_target=~Ah .str _ _;refine Al ?_)
   | (guard_target=~Ah .bool _ _;refine Aq ?_)
  rw[tn]
  refine Ac (fun q2=>?_) fun q2=>?_
  ·repeat' first
    | (guard_target=~need _ _;refine Aa rfl ?_)
    | (guard_target=~Af (Ab _ _ _ _) _;refine Ad (ldB hb2 rfl) ?_)
    | (guard_target=~Ah (.int _) _ _;refine At ?_)
    | (guard_target=~Ah .str _ _;refine Al ?_)
    | (guard_target=~Ah .bool _ _;refine Aq ?_)
   refine EU hb2 rfl fun st3 e3 b3=>?_
   rw[w1 k (by omega)]at b3
   rw[N3 (by omega) q2]at hq
   refine⟨⟨rfl,e2.trans e3.pm,k+1,h2.of e3 b3,by omega,by omega,hq⟩,?_⟩
   dsimp only
   rw[Dr b3 rfl,Dr hb2 rfl]
   omega
  ·have q2:by_ x.s k=x.q:=Decidable.not_not.1 q2
   repeat' first
    | (guard_target=~need _ _;refine Aa rfl ?_)
    | (guard_target=~Af (Ab _ _ _ _) _;refine Ad (ldB hb2 rfl) ?_)
    | (guard_target=~Ah (.int _) _ _;refine At ?_)
    | (guard_target=~Ah .str _ _;refine Al ?_)
    | (guard_target=~Ah .bool _ _;refine Aq ?_)
   refine EU hb2 rfl fun st3 e3 b3=>?_
   rw[w1 k (by omega)]at b3
   have h3:=h2.of e3 b3
   repeat' first
    | (guard_target=~need _ _;refine Aa rfl ?_)
    | (guard_target=~Af (Ab _ _ _ _) _;refine Ad (ldB b3 rfl) ?_)
    | (guard_target=~Ah (.int _) _ _;refine At ?_)
    | (guard_target=~Ah .str _ _;refine Al ?_)
    | (guard_target=~Ah .bool _ _;refine Aq ?_)
   refine Ac (fun q3=>?_) fun q3=>?_
   ·rw[Mk (by omega) q2 (fun h=>absurd h (by omega))]at hq
    exact h0 _ st3 hq (e2.trans e3.pm) h3
   ·repeat' first
     | (guard_target=~need _ _;refine Aa rfl ?_)
     | (guard_target=~Af (Ab _ _ _ _) _;refine Ad (ldB b3 rfl) ?_)
     | (guard_target=~Ah (.int _) _ _;refine At ?_)
     | (guard_target=~Ah .str _ _;refine Al ?_)
     | (guard_target=~Ah .bool _ _;refine Aq ?_)
    refine⟨⟨by omega,by omega⟩,?_⟩
    repeat' first
     | (guard_target=~need _ _;refine Aa rfl ?_)
     | (guard_target=~Af (Ab _ _ _ _) _;refine Ad (ldB b3 rfl) ?_)
     | (guard_target=~Ah (.int _) _ _;refine At ?_)
     | (guard_target=~Ah .str _ _;refine Al ?_)
     | (guard_target=~Ah .bool _ _;refine Aq ?_)
    rw[tn]
    refine Ac (fun q4=>?_) fun q4=>?_
    ·rw[Mk (by omega) q2 (fun h=>q4)]at hq
     exact h0 _ st3 hq (e2.trans e3.pm) h3
    ·repeat' first
      | (guard_target=~need _ _;refine Aa rfl ?_)
      | (guard_target=~Af (Ab _ _ _ _) _;refine Ad (ldB b3 rfl) ?_)
      | (guard_target=~Ah (.int _) _ _;refine At ?_)
      | (guard_target=~Ah .str _ _;refine Al ?_)
      | (guard_target=~Ah .bool _ _;refine Aq ?_)
     refine EU b3 rfl fun st4 e4 b4=>?_
     rw[w1 (k+1) (by omega)]at b4
     rw[Qv (by omega) q2 (Decidable.not_not.1 q4)]at hq
     refine⟨⟨rfl,(e2.trans e3.pm).trans e4.pm,k+2,h3.of e4 b4,by omega,by omega,hq⟩,?_⟩
     dsimp only
     rw[Dr b4 rfl,Dr hb2 rfl]
     omega
 ·repeat' first
   | (guard_target=~need _ _;refine Aa rfl ?_)
   | (guard_target=~Af (Ab _ _ _ _) _;refine Ad (ldB hb2 rfl) ?_)
   | (guard_target=~Ah (.int _) _ _;refine At ?_)
   | (guard_target=~Ah .str _ _;refine Al ?_)
   | (guard_target=~Ah .bool _ _;refine Aq ?_)
  rw[Qw (i:=k) (by omega)]at hq
  exact CR h2 fun st' e3 k3=>h1 _ st' hq (e2.trans e3) k3
end
end
theorem LR {q:Int} {s:B8}:∀(n i e:Nat),s.length-i<=n->QE q s i=some e->i<e/\e<=s.length:=by
 intro n
 induction n with
 | zero=>intro i e h he;rw[Qw (by omega)]at he;cases he
 | succ n ih=>
  intro i e h he
  by_cases hi:i<s.length
  ·by_cases hb:by_ s i=q
   ·by_cases h2:i+1<s.length/\by_ s (i+1)=q
    ·rw[Qv h2.1 hb h2.2]at he
     have:=ih (i+2) e (by omega) he
     omega
    ·rw[Mk hi hb (fun h3 h4=>h2 ⟨h3,h4⟩)]at he
     cases he;omega
   ·rw[N3 hi hb]at he
    have:=ih (i+1) e (by omega) he
    omega
  ·rw[Qw (by omega)]at he;cases he
theorem JV {s:B8} {i e:Nat} (h:i<=e) (h2:e<=s.length):(slc s i e).length=e-i:=by
 unfold slc;rw[List.length_drop,List.length_take];omega
theorem Fj {s:B8} {i e:Nat} (h:i<=e):s.drop i=slc s i e++s.drop e:=by
 unfold slc
 rw[Gf]
 have:s.drop e=(s.drop i).drop (e-i):=by rw[List.drop_drop];congr 1;omega
 rw[this,List.take_append_drop]
theorem slc_get {s:B8} {i e:Nat} (h:i<e) (h2:e<=s.length):by_ (slc s i e) 0=by_ s i:=by
 unfold by_ slc
 rw[OZ,List.getD_eq_getElem?_getD,List.getD_eq_getElem?_getD,List.getElem?_take,if_pos (by omega)]
 rfl
theorem slc_one {s:B8} {e:Nat} (h:e<s.length):slc s e (e+1)=[s.getD e 0]:=by
 unfold slc
 rw[Gf,Pe _ _ 0 h]
 simp
theorem W9 {a q:Int} {s:B8}:∀(n i e:Nat),s.length-i<=n->i<=s.length->PE a q s i= .ok e->i<=e/\e<=s.length/\(e<s.length->by_ s e=a∨by_ s e=10∨by_ s e=13)/\(i<e->by_ s i≠q):=by
 intro n
 induction n with
 | zero=>intro i e h hi he;rw[Hs (by omega)]at he;cases he;exact⟨by omega,by omega,fun h=>absurd h (by omega),fun h=>absurd h (by omega)⟩
 | succ n ih=>
  intro i e h hi he
  by_cases hl:i<s.length
  ·by_cases hb:by_ s i=a∨by_ s i=10∨by_ s i=13
   ·rw[IH hl hb]at he;cases he;exact⟨by omega,by omega,fun _=>hb,fun h=>absurd h (by omega)⟩
   ·by_cases hq:by_ s i=q
    ·rw[Mm hl hb hq]at he;cases he
    ·rw[Ml hl hb hq]at he
     obtain⟨h1,h2,h3,_⟩:=ih (i+1) e (by omega) (by omega) he
     exact⟨by omega,h2,h3,fun _=>hq⟩
  ·rw[Hs (by omega)]at he;cases he;exact⟨by omega,by omega,fun h=>absurd h (by omega),fun h=>absurd h (by omega)⟩
theorem CZ {a q:Int} {s:B8} {i e:Nat} (hi:i<=s.length) (h:Bi a q s i= .ok e):i<=e/\e<=s.length:=by
 unfold Bi at h
 split at h
 ·split at h
  ·rename_i e' he;cases h;have:=LR _ _ _ (Nat.le_refl _) he;omega
  ·cases h
 ·split at h
  ·rename_i e' he;cases h;have:=W9 _ _ _ (Nat.le_refl _) hi he;omega
  ·cases h
theorem byte_of (q:Int) (s:B8) (i:Nat) (h:i<s.length) (hq:by_ s i=q):∃c:UInt8,(c.toNat:Int)=q/\s.getD i 0=c:=⟨s.getD i 0,hq,rfl⟩
theorem Qo {a q:Int} {s:B8} {i e:Nat} (hi:i<=s.length) (h:Bi a q s i= .ok e):Jg q (slc s i e):=by
 unfold Bi at h
 split at h
 ·rename_i hc
  split at h
  ·rename_i e' he
   cases h
   obtain⟨c,hc1,hc2⟩:=byte_of q s i hc.1 hc.2
   obtain⟨t,rest,h1,h2⟩:=U0 hc1 _ _ _ _ (Nat.le_refl _) he
   right;right
   refine⟨c,t,hc1,?_⟩
   have hle:=LR _ _ _ (Nat.le_refl _) he
   unfold slc
   rw[Gf,Pe _ _ 0 hc.1,hc2,h1,show e-i=(dbl c t++[c]).length+1 by simp;omega,List.take_succ_cons]
   congr 1
   rw[show dbl c t++c::rest=(dbl c t++[c])++rest by simp,List.take_left]
  ·cases h
 ·rename_i hc
  split at h
  ·rename_i e' he
   cases h
   have hle:=W9 _ _ _ (Nat.le_refl _) hi he
   by_cases hlt:i<e
   ·right;left
    rw[slc_get hlt hle.2.1]
    exact hle.2.2.2 hlt
   ·left
    apply List.eq_nil_of_length_eq_zero
    rw[JV hle.1 hle.2.1];omega
  ·cases h
theorem VO (q:Int):∀(n:Nat) (l:B8),l.length<=n->(L4 q l).length<=l.length:=by
 intro n
 induction n with
 | zero=>intro l h;have:l=[]:=List.eq_nil_of_length_eq_zero (by omega);subst this;simp[L4]
 | succ n ih=>
  intro l h
  match l,h with
  | [],_=>simp[L4]
  | [c],_=>simp[L4]
  | c::c2::l,h=>
   simp only[L4]
   split
   ·have:=ih l (by simp at h;omega);simp;omega
   ·have:=ih (c2::l) (by simp at h⊢;omega);simp at this⊢;omega
theorem TQ (q:Int) (c:B8):(txt q c).length<=c.length:=by
 unfold txt
 split
 ·omega
 ·have:=VO q _ ((c.take (c.length-1)).drop 1) (Nat.le_refl _)
  simp at this⊢;omega
theorem FE {s:B8} {e n:Nat} (he:e<=s.length) (h:Cm s e= .ok n):e+n<=s.length/\(n=0->e=s.length)/\(0<n->by_ s (e+n-1)=10)/\(e<s.length->by_ s e=10∨by_ s e=13):=by
 unfold Cm at h
 split at h
 ·cases h;exact⟨by omega,fun _=>by omega,fun h=>by omega,fun h=>by omega⟩
 split at h
 ·rename_i h1 h2;cases h;exact⟨by omega,fun h=>by omega,fun _=>by simpa using h2,fun _=> .inl h2⟩
 split at h
 ·cases h
 split at h
 ·cases h
 split at h
 ·rename_i h1 h2 h3 h4 h5;cases h;exact⟨by omega,fun h=>by omega,fun _=>by simpa using h5,fun _=> .inr (Decidable.not_not.1 h3)⟩
 ·cases h
inductive Ln (a q:Int) (s:B8):Nat->List Nd->Nat->Nat->Prop where
 | last {i e n:Nat}:Bi a q s i= .ok e->¬(e<s.length/\by_ s e=a)->Cm s e= .ok n->Ln a q s i [Kn s i e []] e n
 | more {i e f n:Nat} {ks:List Nd}:Bi a q s i= .ok e->e<s.length->by_ s e=a->Ln a q s (e+1) ks f n->Ln a q s i (Kn s i e [.mk 11 [] [s.getD e 0] [] []]::ks) f n
inductive Kz (a q:Int) (s:B8):Nat->List Nd->Prop where
 | nil {i:Nat}:s.length<=i->Kz a q s i []
 | cons {i e n:Nat} {ks rs:List Nd}:i<s.length->Ln a q s i ks e n->Kz a q s (e+n) rs->Kz a q s i (.mk 8 [] [] ks (slc s e (e+n))::rs)
theorem Ln.le {a q:Int} {s:B8} {i:Nat} {ks:List Nd} {e n:Nat} (h:Ln a q s i ks e n):i<=s.length->i<=e/\e+n<=s.length/\1<=ks.length/\ks.length<=e-i+1/\Cm s e= .ok n:=by
 induction h with
 | last h1 h2 h3=>intro hi;have:=CZ hi h1;have:=FE this.2 h3;exact⟨by omega,by omega,by simp,by simp,h3⟩
 | more h1 h2 h3 h4 ih=>intro hi;have:=CZ hi h1;have ih:=ih (by omega);refine⟨by omega,by omega,by simp,?_,ih.2.2.2.2⟩;rw[List.length_cons];omega
theorem Ln.text {a q:Int} {s:B8} {i:Nat} {ks:List Nd} {e n:Nat} (h:Ln a q s i ks e n):i<=s.length->FG ks=slc s i e:=by
 induction h with
 | last h1 h2 h3=>intro hi;simp[FG,De,Kn]
 | @more i e e' n ks h1 h2 h3 h4 ih=>
  intro hi
  have hl:=CZ hi h1
  have hl2:=h4.le (by omega)
  simp only[FG,De,Kn,List.nil_append,List.append_nil]
  rw[ih (by omega),<-slc_one h2]
  have e1:=Fj (s:=s) (i:=i) (e:=e') (by omega)
  have e2:=Fj (s:=s) (i:=i) (e:=e) (by omega)
  have e3:=Fj (s:=s) (i:=e) (e:=e+1) (by omega)
  have e4:=Fj (s:=s) (i:=e+1) (e:=e') (by omega)
  rw[e2,e3,e4,<-List.append_assoc,<-List.append_assoc]at e1
  have:=List.append_inj_left' e1 rfl
  rw[<-this,List.append_assoc]
theorem Kz.text {a q:Int} {s:B8} {i:Nat} {rs:List Nd} (h:Kz a q s i rs):i<=s.length->FG rs=s.drop i:=by
 induction h with
 | nil h=>intro hi;rw[List.drop_of_length_le h];rfl
 | @cons i e n ks rs h1 h2 h3 ih=>
  intro hi
  have hl:=h2.le (by omega)
  simp only[FG,De,List.nil_append]
  rw[ih (by omega),h2.text (by omega),List.append_assoc,<-Fj (by omega),<-Fj (by omega)]
def VF (a q:Int) (n:Nd):Prop:=∃c mark,n= .mk 5 [] [] (.mk 2 [] c [] []::mark) []/\Jg q c/\(mark=[]∨∃b:UInt8,(b.toNat:Int)=a/\mark=[.mk 11 [] [b] [] []])
def RecF (a q:Int) (n:Nd):Prop:=∃ks t,n= .mk 8 [] [] ks t/\1<=ks.length/\∀k∈ks,VF a q k
theorem Ln.form {a q:Int} {s:B8} {i:Nat} {ks:List Nd} {e n:Nat} (h:Ln a q s i ks e n):i<=s.length->∀k∈ks,VF a q k:=by
 induction h with
 | last h1 h2 h3=>intro hi k hk;rw[List.mem_singleton]at hk;subst hk;exact⟨_,_,rfl,Qo hi h1,.inl rfl⟩
 | @more i e e' n ks h1 h2 h3 h4 ih=>
  intro hi k hk
  have hl:=CZ hi h1
  rcases List.mem_cons.1 hk with rfl | hk
  ·exact⟨_,_,rfl,Qo hi h1,.inr ⟨s.getD e 0,h3,rfl⟩⟩
  ·exact ih (by omega) k hk
theorem Kz.form {a q:Int} {s:B8} {i:Nat} {rs:List Nd} (h:Kz a q s i rs):i<=s.length->∀r∈rs,RecF a q r:=by
 induction h with
 | nil h=>intro hi r hr;cases hr
 | @cons i e n ks rs h1 h2 h3 ih=>
  intro hi r hr
  have hl:=h2.le (by omega)
  rcases List.mem_cons.1 hr with rfl | hr
  ·exact⟨_,_,rfl,hl.2.2.1,h2.form (by omega)⟩
  ·exact ih (by omega) r hr
section
theorem ldsB {st:St} {b i n:Nat} {l xs:List TV} (hb:st.box b= .cells l) (hx:(l.drop i).take n=xs) (hn:xs.length=n):Aj st [] (.t (.box b i)) 0 n=some xs:=by
 have gen:∀n j,j+n<=(l.drop i).length->Aj st [] (.t (.box b i)) j n=some (((l.drop i).drop j).take n):=by
  intro n
  induction n with
  | zero=>intro j h;simp[Aj]
  | succ n ih=>
   intro j h
   have hj:j<(l.drop i).length:=by omega
   have h1:Ab st [] (.t (.box b i)) j=some (l.drop i)[j]:=by
    simp only[Ab,hb]
    rw[List.getElem_drop,List.getElem?_eq_getElem]
   simp only[Aj,h1,ih (j+1) (by omega)]
   rw[List.drop_eq_getElem_cons hj]
   rfl
 rw[gen n 0 (by rw[<-hx,List.length_take]at hn;omega),<-hx]
 rfl
section
variable {p m:Nat} {x:Cx} {hd ty:Bool} {l2 l3 l4:Int} {ns:List B8} {I n w o e:Int} {st:St}
theorem V8 {i:Nat} {K:Bool->St->Prop} (hI:I=(i:Int)) (hi:i<=x.s.length) (hl:x.s.length<=2000000) (h:PSD p m x hd ty l2 l3 l4 ns I n w o e st)
  (h0:∀(k:Nat) st',Bi x.a x.q x.s i= .ok k->StX (PM p m) st st'->PSD p m x hd ty l2 l3 l4 ns k n w o e st'->K true st')
  (h1:∀(o':Nat) e' (k:Int) st',Bi x.a x.q x.s i= .error (o',e')->StX (PM p m) st st'->PSD p m x hd ty l2 l3 l4 ns k n w o' e' st'->K false st'):
  Ae PR B3 [.box p 0] [.one .bool] st K:=by
 subst hI
 have hb:=h.bx
 have tn:∀k:Nat,Int.toNat (k:Int)=k:=fun k=>rfl
 have w1:∀k:Nat,k<=x.s.length->i64.wrap ((k:Int)+1)=((k+1:Nat):Int):=fun k hk=>by rw[As _ (by omega) (by omega)];omega
 have loop:∀k:Nat,(i<x.s.length/\by_ x.s i=x.q->False)->Bi x.a x.q x.s i=match PE x.a x.q x.s i with | .ok e=> .ok e | .error o=> .error (o,3):=fun k hc=>by
  unfold Bi;rw[if_neg hc]<;>(cases PE x.a x.q x.s i<;>rfl)
 refine HX p st K ?_
 repeat' first
  | (guard_target=~need _ _;refine Aa rfl ?_)
  | (guard_target=~Af (Ab _ _ _ _) _;refine Ad (ldB hb rfl) ?_)
  | (guard_target=~Ah (.int _) _ _;refine At ?_)
  | (guard_target=~Ah .str _ _;refine Al ?_)
  | (guard_target=~Ah .bool _ _;refine Aq ?_)
 refine Ac (fun g=>?_) fun g=>?_
 ·repeat' first
   | (guard_target=~need _ _;refine Aa rfl ?_)
   | (guard_target=~Af (Ab _ _ _ _) _;refine Ad (ldB hb rfl) ?_)
   | (guard_target=~Ah (.int _) _ _;refine At ?_)
   | (guard_target=~Ah .str _ _;refine Al ?_)
   | (guard_target=~Ah .bool _ _;refine Aq ?_)
  refine⟨⟨by omega,by omega⟩,?_⟩
  repeat' first
   | (guard_target=~need _ _;refine Aa rfl ?_)
   | (guard_target=~Af (Ab _ _ _ _) _;refine Ad (ldB hb rfl) ?_)
   | (guard_target=~Ah (.int _) _ _;refine At ?_)
   | (guard_target=~Ah .str _ _;refine Al ?_)
   | (guard_target=~Ah .bool _ _;refine Aq ?_)
  rw[tn]
  refine Ac (fun g2=>?_) fun g2=>?_
  ·have hc:Bi x.a x.q x.s i=match QE x.q x.s (i+1)with | some e=> .ok e | none=> .error (x.s.length,4):=by
    unfold Bi;rw[if_pos ⟨by omega,g2⟩]<;>(cases QE x.q x.s (i+1)<;>rfl)
   exact SN rfl (by omega) hl h (fun k st' hq=>h0 k st' (by rw[hc,hq])) fun k st' hq=>h1 _ _ k st' (by rw[hc,hq])
  have hc:=loop i fun hh=>g2 hh.2
  refine⟨fun p' st'=>TV.box p 0=p'/\StX (PM p m) st st'/\∃k:Nat,PSD p m x hd ty l2 l3 l4 ns k n w o e st'/\k<=x.s.length/\PE x.a x.q x.s i=PE x.a x.q x.s k,
   fun _ st'=>(x.s.length-LN st' p 10).toNat,⟨rfl,StX.refl _ _,i,h,by omega,rfl⟩,?_⟩
  rintro _ st2 ⟨rfl,e2,k,h2,hk2,hq⟩
  have hb2:=h2.bx
  have next:¬(by_ x.s k=x.a∨by_ x.s k=10∨by_ x.s k=13)->k<x.s.length->by_ x.s k≠x.q->∀st3,StX (·=p) st2 st3->st3.box p= .cells ((pcl x hd ty l2 l3 l4 m k n w o e).set 10 (.int .i64 (i64.wrap ((k:Int)+1))))->
    (TV.box p 0=TV.box p 0/\StX (PM p m) st st3/\∃k:Nat,PSD p m x hd ty l2 l3 l4 ns k n w o e st3/\k<=x.s.length/\PE x.a x.q x.s i=PE x.a x.q x.s k)/\(x.s.length-LN st3 p 10).toNat<(x.s.length-LN st2 p 10).toNat:=fun c1 c2 c3 st3 e3 b3=>by
   rw[w1 k (by omega)]at b3
   rw[Ml c2 c1 c3]at hq
   refine⟨⟨rfl,e2.trans e3.pm,k+1,h2.of e3 b3,by omega,hq⟩,?_⟩
   rw[Dr b3 rfl,Dr hb2 rfl]
   omega
  repeat' first
   | (guard_target=~need _ _;refine Aa rfl ?_)
   | (guard_target=~Af (Ab _ _ _ _) _;refine Ad (ldB hb2 rfl) ?_)
   | (guard_target=~Ah (.int _) _ _;refine At ?_)
   | (guard_target=~Ah .str _ _;refine Al ?_)
   | (guard_target=~Ah .bool _ _;refine Aq ?_)
  refine Ac (fun q1=>?_) fun q1=>?_
  ·repeat' first
    | (guard_target=~need _ _;refine Aa rfl ?_)
    | (guard_target=~Af (Ab _ _ _ _) _;refine Ad (ldB hb2 rfl) ?_)
    | (guard_target=~Ah (.int _) _ _;refine At ?_)
    | (guard_target=~Ah .str _ _;refine Al ?_)
    | (guard_target=~Ah .bool _ _;refine Aq ?_)
   refine⟨⟨by omega,by omega⟩,?_⟩
   repeat' first
    | (guard_target=~need _ _;refine Aa rfl ?_)
    | (guard_target=~Af (Ab _ _ _ _) _;refine Ad (ldB hb2 rfl) ?_)
    | (guard_target=~Ah (.int _) _ _;refine At ?_)
    | (guard_target=~Ah .str _ _;refine Al ?_)
    | (guard_target=~Ah .bool _ _;refine Aq ?_)
   rw[tn]
   refine Ac (fun q2=>Ac (fun _=>?_) fun q3=>absurd q2 q3) fun q2=>Ac (fun q3=>Ac (fun _=>?_) fun q4=>absurd q3 q4) fun q3=>Ac (fun q4=>?_) fun q4=>?_
   ·rw[IH (by omega) (.inl q2)]at hq;exact h0 k st2 (by rw[hc,hq]) e2 h2
   ·rw[IH (by omega) (.inr (.inl q3))]at hq;exact h0 k st2 (by rw[hc,hq]) e2 h2
   ·rw[IH (by omega) (.inr (.inr q4))]at hq;exact h0 k st2 (by rw[hc,hq]) e2 h2
   ·have hno:¬(by_ x.s k=x.a∨by_ x.s k=10∨by_ x.s k=13):=by rintro(h | h | h);exact q2 h;exact q3 h;exact q4 h
    repeat' first
     | (guard_target=~need _ _;refine Aa rfl ?_)
     | (guard_target=~Af (Ab _ _ _ _) _;refine Ad (ldB hb2 rfl) ?_)
     | (guard_target=~Ah (.int _) _ _;refine At ?_)
     | (guard_target=~Ah .str _ _;refine Al ?_)
     | (guard_target=~Ah .bool _ _;refine Aq ?_)
    refine Ac (fun q5=>?_) fun q5=>?_
    ·repeat' first
      | (guard_target=~need _ _;refine Aa rfl ?_)
      | (guard_target=~Af (Ab _ _ _ _) _;refine Ad (ldB hb2 rfl) ?_)
      | (guard_target=~Ah (.int _) _ _;refine At ?_)
      | (guard_target=~Ah .str _ _;refine Al ?_)
      | (guard_target=~Ah .bool _ _;refine Aq ?_)
     rw[Mm (by omega) hno q5]at hq
     exact CR h2 fun st' e3 k3=>h1 _ _ _ st' (by rw[hc,hq]) (e2.trans e3) k3
    ·repeat' first
      | (guard_target=~need _ _;refine Aa rfl ?_)
      | (guard_target=~Af (Ab _ _ _ _) _;refine Ad (ldB hb2 rfl) ?_)
      | (guard_target=~Ah (.int _) _ _;refine At ?_)
      | (guard_target=~Ah .str _ _;refine Al ?_)
      | (guard_target=~Ah .bool _ _;refine Aq ?_)
     exact EU hb2 rfl fun st3 e3 b3=>next hno (by omega) q5 st3 e3 b3
  ·rw[Hs (i:=k) (by omega)]at hq;exact h0 k st2 (by rw[hc,hq]) e2 h2
 ·--at the end
  have hc:=loop i fun hh=>by omega
  rw[Hs (i:=i) (by omega)]at hc
  refine⟨fun p' st'=>TV.box p 0=p'/\st=st',fun _ st'=>0,⟨rfl,rfl⟩,?_⟩
  rintro _ _ ⟨rfl,rfl⟩
  repeat' first
   | (guard_target=~need _ _;refine Aa rfl ?_)
   | (guard_target=~Af (Ab _ _ _ _) _;refine Ad (ldB hb rfl) ?_)
   | (guard_target=~Ah (.int _) _ _;refine At ?_)
   | (guard_target=~Ah .str _ _;refine Al ?_)
   | (guard_target=~Ah .bool _ _;refine Aq ?_)
  refine Ac (fun q1=>absurd q1 g) fun q1=>?_
  exact h0 i st hc (StX.refl _ _) h
abbrev PM3 (p m r:Nat):Nat->Prop:=fun i=>i=p∨i=m∨i=r
theorem StX.pm3 {p m r:Nat} {a b:St} (h:StX (PM p m) a b):StX (PM3 p m r) a b:=h.mono fun _ g=>g.elim .inl fun g=> .inr (.inl g)
theorem PSD.other {p m r:Nat} {x:Cx} {hd ty:Bool} {l2 l3 l4:Int} {ns:List B8} {i n w o e:Int} {st st':St} (h:PSD p m x hd ty l2 l3 l4 ns i n w o e st) (k:StX (·=r) st st') (hp:p≠r) (hm:m≠r):
  PSD p m x hd ty l2 l3 l4 ns i n w o e st':=h.keep k hp hm
theorem Rp {i r:Nat} {c0 c1 c2 c3:TV} {K:Bool->St->Prop} (hI:I=(i:Int)) (hi:i<=x.s.length) (hl:x.s.length<=2000000) (h:PSD p m x hd ty l2 l3 l4 ns I n w o e st)
  (hrp:p≠r) (hrm:m≠r) (hrl:r<st.nb) (hr:st.box r= .cells [c0,c1,c2,c3,.str []])
  (h0:∀(k:Nat) st',Cm x.s i= .ok k->StX (PM3 p m r) st st'->PSD p m x hd ty l2 l3 l4 ns ((i+k:Nat):Int) n w o e st'->st'.box r= .cells [c0,c1,c2,c3,.str (slc x.s i (i+k))]->K true st')
  (h1:∀(o':Nat) e' (k:Int) st',Cm x.s i= .error (o',e')->StX (PM3 p m r) st st'->PSD p m x hd ty l2 l3 l4 ns k n w o' e' st'->st'.box r= .cells [c0,c1,c2,c3,.str []]->K false st'):
  Ae PR AP [.box p 0,.box r 0] [.one .bool] st K:=by
 subst hI
 have hb:=h.bx
 have tn:∀k:Nat,Int.toNat (k:Int)=k:=fun k=>rfl
 have w1:∀k:Nat,k<=x.s.length->i64.wrap ((k:Int)+1)=((k+1:Nat):Int):=fun k hk=>by rw[As _ (by omega) (by omega)];omega
 have rk:∀st',StX (·=p) st st'->st'.box r= .cells [c0,c1,c2,c3,.str []]:=fun st' e=>by rw[e.box r hrl (fun h=>hrp h.symm)];exact hr
 have rk2:∀st',StX (PM p m) st st'->st'.box r= .cells [c0,c1,c2,c3,.str []]:=fun st' e=>by rw[e.box r hrl (fun h=>h.elim (fun h=>hrp h.symm) fun h=>hrm h.symm)];exact hr
 have hp3:∀st1 st2,StX (PM p m) st st1->StX (·=r) st1 st2->StX (PM3 p m r) st st2:=fun st1 st2 e1 e2=>e1.pm3.trans (e2.mono fun _ g=> .inr (.inr g))
 unfold Cm at h0 h1
 refine GF p r st K ?_
 repeat' first
  | (guard_target=~need _ _;refine Aa rfl ?_)
  | (guard_target=~Af (Ab _ _ _ _) _;refine Ad (ldB hb rfl) ?_)
  | (guard_target=~Ah (.int _) _ _;refine At ?_)
  | (guard_target=~Ah .str _ _;refine Al ?_)
  | (guard_target=~Ah .bool _ _;refine Aq ?_)
 refine Ac (fun g=>?_) fun g=>?_
 ·rw[if_pos (by omega)]at h0
  refine h0 0 st rfl (StX.refl _ _) h ?_
  rw[hr]
  have:slc x.s i (i+0)=[]:=List.eq_nil_of_length_eq_zero (by rw[JV (by omega) (by omega)];omega)
  rw[this]
 rw[if_neg (by omega)]at h0 h1
 repeat' first
  | (guard_target=~need _ _;refine Aa rfl ?_)
  | (guard_target=~Af (Ab _ _ _ _) _;refine Ad (ldB hb rfl) ?_)
  | (guard_target=~Ah (.int _) _ _;refine At ?_)
  | (guard_target=~Ah .str _ _;refine Al ?_)
  | (guard_target=~Ah .bool _ _;refine Aq ?_)
 refine⟨⟨by omega,by omega⟩,?_⟩
 rw[tn]
 refine Ac (fun g2=>?_) fun g2=>Ac (fun g3=>?_) fun g3=>?_
 ·have g2':by_ x.s i=13:=g2
  rw[if_neg (by omega),if_neg (by omega)]at h0 h1
  repeat' first
   | (guard_target=~need _ _;refine Aa rfl ?_)
   | (guard_target=~Af (Ab _ _ _ _) _;refine Ad (ldB hb rfl) ?_)
   | (guard_target=~Ah (.int _) _ _;refine At ?_)
   | (guard_target=~Ah .str _ _;refine Al ?_)
   | (guard_target=~Ah .bool _ _;refine Aq ?_)
  refine EU hb rfl fun st1 e1 b1=>?_
  rw[w1 i (by omega)]at b1
  have k1:=h.of e1 b1
  repeat' first
   | (guard_target=~need _ _;refine Aa rfl ?_)
   | (guard_target=~Af (Ab _ _ _ _) _;refine Ad (ldB b1 rfl) ?_)
   | (guard_target=~Ah (.int _) _ _;refine At ?_)
   | (guard_target=~Ah .str _ _;refine Al ?_)
   | (guard_target=~Ah .bool _ _;refine Aq ?_)
  refine Ac (fun g3=>?_) fun g3=>?_
  ·rw[if_pos (by omega)]at h1
   repeat' first
    | (guard_target=~need _ _;refine Aa rfl ?_)
    | (guard_target=~Af (Ab _ _ _ _) _;refine Ad (ldB b1 rfl) ?_)
    | (guard_target=~Ah (.int _) _ _;refine At ?_)
    | (guard_target=~Ah .str _ _;refine Al ?_)
    | (guard_target=~Ah .bool _ _;refine Aq ?_)
   have e3:((i+1:Nat):Int)=(x.s.length:Int):=g3
   rw[e3]
   exact CR k1 fun st2 e2 k2=>h1 _ _ _ st2 rfl (e1.pm.trans e2).pm3 k2 (rk2 _ (e1.pm.trans e2))
  rw[if_neg (by omega)]at h0 h1
  repeat' first
   | (guard_target=~need _ _;refine Aa rfl ?_)
   | (guard_target=~Af (Ab _ _ _ _) _;refine Ad (ldB b1 rfl) ?_)
   | (guard_target=~Ah (.int _) _ _;refine At ?_)
   | (guard_target=~Ah .str _ _;refine Al ?_)
   | (guard_target=~Ah .bool _ _;refine Aq ?_)
  refine⟨⟨by omega,by omega⟩,?_⟩
  rw[tn]
  refine Ac (fun g4=>?_) fun g4=>?_
  ·have g4':by_ x.s (i+1)≠10:=g4
   rw[if_neg g4']at h1
   exact CR k1 fun st2 e2 k2=>h1 _ _ _ st2 rfl (e1.pm.trans e2).pm3 k2 (rk2 _ (e1.pm.trans e2))
  ·have g4':by_ x.s (i+1)=10:=Decidable.not_not.1 g4
   rw[if_pos g4']at h0
   repeat' first
    | (guard_target=~need _ _;refine Aa rfl ?_)
    | (guard_target=~Af (Ab _ _ _ _) _;refine Ad (ldB b1 rfl) ?_)
    | (guard_target=~Ah (.int _) _ _;refine At ?_)
    | (guard_target=~Ah .str _ _;refine Al ?_)
    | (guard_target=~Ah .bool _ _;refine Aq ?_)
   refine EU b1 rfl fun st2 e2 b2=>?_
   rw[w1 (i+1) (by omega)]at b2
   have k2:=k1.of e2 b2
   repeat' first
    | (guard_target=~need _ _;refine Aa rfl ?_)
    | (guard_target=~Af (Ab _ _ _ _) _;refine Ad (ldB b2 rfl) ?_)
    | (guard_target=~Ah (.int _) _ _;refine At ?_)
    | (guard_target=~Ah .str _ _;refine Al ?_)
    | (guard_target=~Ah .bool _ _;refine Aq ?_)
   refine⟨⟨by omega,by omega,by omega⟩,EU (rk st2 (e1.trans e2)) rfl fun st3 e3 b3=>?_⟩
   exact h0 2 st3 rfl (hp3 _ _ (e1.pm.trans e2.pm) e3) (k2.other e3 hrp hrm) b3
 ·have g3':by_ x.s i=10:=g3
  rw[if_pos g3']at h0
  repeat' first
   | (guard_target=~need _ _;refine Aa rfl ?_)
   | (guard_target=~Af (Ab _ _ _ _) _;refine Ad (ldB hb rfl) ?_)
   | (guard_target=~Ah (.int _) _ _;refine At ?_)
   | (guard_target=~Ah .str _ _;refine Al ?_)
   | (guard_target=~Ah .bool _ _;refine Aq ?_)
  refine EU hb rfl fun st1 e1 b1=>?_
  rw[w1 i (by omega)]at b1
  have k1:=h.of e1 b1
  repeat' first
   | (guard_target=~need _ _;refine Aa rfl ?_)
   | (guard_target=~Af (Ab _ _ _ _) _;refine Ad (ldB b1 rfl) ?_)
   | (guard_target=~Ah (.int _) _ _;refine At ?_)
   | (guard_target=~Ah .str _ _;refine Al ?_)
   | (guard_target=~Ah .bool _ _;refine Aq ?_)
  refine⟨⟨by omega,by omega,by omega⟩,EU (rk st1 e1) rfl fun st3 e3 b3=>?_⟩
  exact h0 1 st3 rfl (hp3 _ _ e1.pm e3) (k1.other e3 hrp hrm) b3
 ·have g2':by_ x.s i≠13:=g2
  have g3':by_ x.s i≠10:=g3
  rw[if_neg g3',if_pos g2']at h1
  exact CR h fun st2 e2 k2=>h1 _ _ _ st2 rfl e2.pm3 k2 (rk2 _ e2)
end
end
def AA:Nd->List Nd | .mk _ _ _ ks _=>ks
def A2 (n:Nd):B8:=match AA n with | .mk _ _ c _ _::_=>c | []=>[]
theorem GT (s:B8) (i e:Nat) (m:List Nd):A2 (Kn s i e m)=slc s i e:=rfl
theorem Ko {x:Cx} {i:Nat} {v:Int} {ns:List B8} {e:Nat} {v1:Int} {ns1:List B8} (h:DY x false i v ns= .ok (e,v1,ns1)):
  3<=x.dep/\v<x.nod/\v1=v+1/\ns1=ns/\Bi x.a x.q x.s i= .ok e/\(txt x.q (slc x.s i e)).length<=65536:=by
 simp only[DY,ES,Bool.false_eq_true,if_false,false_and]at h
 split at h
 ·cases h
 ·split at h
  ·cases h
  ·simp only[bind,Except.bind]at h
   split at h
   ·cases h
   ·rename_i e' he
    split at h
    ·cases h
    ·cases h
     exact⟨by omega,by omega,rfl,rfl,he,by omega⟩
theorem entE_of {x:Cx} {i:Nat} {v:Int} {ns:List B8} {e:Nat} (h1:3<=x.dep) (h2:v<x.nod) (h3:Bi x.a x.q x.s i= .ok e) (h4:(txt x.q (slc x.s i e)).length<=65536):
  DY x false i v ns= .ok (e,v+1,ns):=by
 simp only[DY,ES,Bool.false_eq_true,if_false,false_and]
 rw[if_neg (by omega),if_neg (by omega)]
 simp only[bind,Except.bind,h3]
 rw[if_neg (by omega)]
theorem entE_9 {x:Cx} {i:Nat} {v:Int} {ns:List B8} (h:x.dep<3):DY x false i v ns= .error (i,9):=by
 simp only[DY,ES,Bool.false_eq_true,if_false]
 rw[if_pos h];rfl
theorem entE_10 {x:Cx} {i:Nat} {v:Int} {ns:List B8} (h:3<=x.dep) (h2:x.nod<=v):DY x false i v ns= .error (i,10):=by
 simp only[DY,ES,Bool.false_eq_true,if_false]
 rw[if_neg (by omega),if_pos h2];rfl
theorem Lh {x:Cx} {i:Nat} {v:Int} {ns:List B8} {e:Nat} {v1:Int} {ns1:List B8} (h:DY x true i v ns= .ok (e,v1,ns1)):
  v1=v/\Bi x.a x.q x.s i= .ok e/\(txt x.q (slc x.s i e)).length<=1024:=by
 simp only[DY,if_true,true_and]at h
 simp only[bind,Except.bind]at h
 split at h
 ·cases h
 ·rename_i e' he
  split at h
  ·cases h
  ·split at h
   ·cases h
   ·cases h
    exact⟨rfl,he,by omega⟩
abbrev Cx.lim (x:Cx) (d n:Int):Cx:={x with dep:=d,nod:=n}
theorem Rl {x:Cx} {num hd:Bool} {wid:Int}:∀(n:Nat) {acc:List Nd} {i:Nat} {v:Int} {ns:List B8} {e:Nat} {v':Int} {ns':List B8} {out:List Nd},
  i<=x.s.length->Cb x num wid hd n acc i v ns= .ok (e,v',ns',out)->∃ks m,out=acc++ks/\Ln x.a x.q x.s i ks e m/\v'=v+(if hd then 0 else(ks.length:Int))/\
   (∀k∈ks,(txt x.q (A2 k)).length<=65536)/\(num=true->(out.length:Int)<=wid)/\(hd=false->3<=x.dep/\v'<=x.nod/\ns'=ns):=by
 intro n
 induction n with
 | zero=>intro acc i v ns e v' ns' out hi h;simp only[Cb]at h;cases h
 | succ n ih=>
  intro acc i v ns e v' ns' out hi h
  simp only[Cb]at h
  split at h
  ·cases h
  rename_i hw
  simp only[bind,Except.bind]at h
  split at h
  ·cases h
  rename_i p he
  obtain⟨e1,v1,ns1⟩:=p
  have hent:Bi x.a x.q x.s i= .ok e1/\(txt x.q (slc x.s i e1)).length<=65536/\v1=v+(if hd then 0 else 1)/\(hd=false->3<=x.dep/\v1<=x.nod/\ns1=ns):=by
   cases hd with
   | false=>have:=Ko he;exact⟨this.2.2.2.2.1,this.2.2.2.2.2,by simpa using this.2.2.1,fun _=>⟨this.1,by omega,this.2.2.2.1⟩⟩
   | true=>have:=Lh he;exact⟨this.2.1,by omega,by simpa using this.1,fun h=>by cases h⟩
  obtain⟨c1,c2,c3,c4⟩:=hent
  have hle:=CZ hi c1
  simp only at h
  split at h
  ·rename_i hm
   obtain⟨ks,m,k1,k2,k3,k4,k5,k6⟩:=ih (by omega) h
   refine⟨_::ks,m,by rw[k1,List.append_assoc];rfl,.more c1 hm.1 hm.2 k2,?_,?_,k5,fun hh=>?_⟩
   ·rw[k3,c3];cases hd<;>simp<;>omega
   ·intro k hk
    rcases List.mem_cons.1 hk with rfl | hk
    ·exact c2
    ·exact k4 k hk
   ·have:=k6 hh;have:=c4 hh;exact⟨by omega,by omega,by rw[(k6 hh).2.2,this.2.2]⟩
  ·rename_i hm
   split at h
   ·cases h
   rename_i m hm2
   cases h
   refine⟨_,_,rfl,.last c1 hm hm2,by rw[c3];cases hd<;>simp,?_,?_,fun hh=>⟨(c4 hh).1,(c4 hh).2.1,(c4 hh).2.2⟩⟩
   ·intro k hk
    rw[List.mem_singleton]at hk;subst hk;exact c2
   ·intro hn
    rw[List.length_append,List.length_singleton]
    have:¬wid<=(acc.length:Int):=fun h=>hw ⟨hn,h⟩
    omega
theorem UV {x:Cx} {num:Bool} {wid:Int} (d' n':Int):∀(n:Nat) {acc:List Nd} {i:Nat} {v:Int} {ns:List B8},
  Cb (x.lim d' n') num wid true n acc i v ns=Cb x num wid true n acc i v ns:=by
 intro n
 induction n with
 | zero=>intros;rfl
 | succ n ih=>
  intro acc i v ns
  simp only[Cb]
  have:DY (x.lim d' n') true i v ns=DY x true i v ns:=rfl
  rw[this]
  simp only[ih]
theorem V4 {x:Cx} {num:Bool} {wid:Int} {d' n':Int}:∀(n:Nat) {acc:List Nd} {i:Nat} {v:Int} {ns:List B8} {e:Nat} {v':Int} {ns':List B8} {out:List Nd},
  Cb x num wid false n acc i v ns= .ok (e,v',ns',out)->v<v'/\(3<=d'->v'<=n'->Cb (x.lim d' n') num wid false n acc i v ns= .ok (e,v',ns',out))/\
   (3<=d'->n'<v'->∃o,Cb (x.lim d' n') num wid false n acc i v ns= .error (o,10))/\(d'<3->∃o,Cb (x.lim d' n') num wid false n acc i v ns= .error (o,9)):=by
 intro n
 induction n with
 | zero=>intro acc i v ns e v' ns' out h;simp only[Cb]at h;cases h
 | succ n ih=>
  intro acc i v ns e v' ns' out h
  simp only[Cb]at h⊢
  split at h
  ·cases h
  rename_i hw
  rw[if_neg hw]
  simp only[bind,Except.bind]at h⊢
  split at h
  ·cases h
  rename_i p he
  obtain⟨e1,v1,ns1⟩:=p
  obtain⟨c1,c2,rfl,rfl,c3,c4⟩:=Ko he
  simp only at h
  have e9:d'<3->DY (x.lim d' n') false i v ns1= .error (i,9):=fun h=>entE_9 h
  have e10:3<=d'->n'<=v->DY (x.lim d' n') false i v ns1= .error (i,10):=fun h h2=>entE_10 h h2
  have eok:3<=d'->v<n'->DY (x.lim d' n') false i v ns1= .ok (e1,v+1,ns1):=fun h h2=>entE_of h h2 c3 c4
  split at h
  ·rename_i hm
   obtain⟨k0,k1,k2,k3⟩:=ih h
   refine⟨by omega,fun h1 h2=>?_,fun h1 h2=>?_,fun h1=>?_⟩
   ·rw[eok h1 (by omega)]
    simp only
    rw[if_pos hm];exact k1 h1 h2
   ·by_cases hv:n'<=v
    ·rw[e10 h1 hv];exact⟨_,rfl⟩
    ·rw[eok h1 (by omega)]
     simp only
     rw[if_pos hm];exact k2 h1 h2
   ·rw[e9 h1];exact⟨_,rfl⟩
  ·rename_i hm
   split at h
   ·cases h
   rename_i m hm2
   cases h
   refine⟨by omega,fun h1 h2=>?_,fun h1 h2=>?_,fun h1=>?_⟩
   ·rw[eok h1 (by omega)]
    simp only
    rw[if_neg hm,hm2]
   ·rw[e10 h1 (by omega)];exact⟨_,rfl⟩
   ·rw[e9 h1];exact⟨_,rfl⟩
def H9 (s:B8) (num:Bool) (wid:Int) (R:Except (Nat×Int) (Nat×Int×List B8×List Nd)):Except (Nat×Int) (Nat×Int×List B8×Nd×Int):=
 match R with
 | .error e=> .error e
 | .ok (e,v2,ns2,ks)=>match Cm s e with
  | .error e=> .error e
  | .ok n=>if (ks.length:Int)<(if num then wid else(ks.length:Int))then .error (e,10)else .ok (e+n,v2,ns2,.mk 8 [] [] ks (slc s e (e+n)),if num then wid else(ks.length:Int))
theorem G5 (x:Cx) (num:Bool) (wid:Int) (hd:Bool) (i:Nat) (v:Int) (ns:List B8):GI x num wid hd i v ns=
  if hd=true then H9 x.s num wid (Cb x num wid hd (x.s.length+1) [] i v ns)else match ES x.dep x.nod 2 i v with
   | .error e=> .error e
   | .ok v1=>H9 x.s num wid (Cb x num wid hd (x.s.length+1) [] i v1 ns):=by
 unfold GI H9
 cases hd with
 | true=>
  simp only[if_true,bind,Except.bind]
  rcases Cb x num wid true (x.s.length+1) [] i v ns with e | ⟨e,v2,ns2,ks⟩
  ·rfl
  ·cases h:Cm x.s e<;>simp[h]
 | false=>
  simp only[Bool.false_eq_true,if_false,bind,Except.bind]
  cases ES x.dep x.nod 2 i v with
  | error e=>rfl
  | ok v1=>
   simp only
   rcases Cb x num wid false (x.s.length+1) [] i v1 ns with e | ⟨e,v2,ns2,ks⟩
   ·rfl
   ·cases h:Cm x.s e<;>simp[h]
theorem UD {dep nod d:Int} {i:Nat} {v v1:Int} (h:ES dep nod d i v= .ok v1):v1=v+1:=by
 unfold ES at h
 split at h
 ·cases h
 split at h
 ·cases h
 ·cases h;rfl
theorem FC {x:Cx} {num hd:Bool} {wid:Int} {i:Nat} {v:Int} {ns:List B8} {p:Nat×Int×List B8×Nd×Int} (h:GI x num wid hd i v ns= .ok p):
  ∃v1,v1=v+(if hd then 0 else 1)/\H9 x.s num wid (Cb x num wid hd (x.s.length+1) [] i v1 ns)= .ok p:=by
 rw[G5]at h
 cases hd with
 | true=>exact⟨v,by simp,by simpa using h⟩
 | false=>
  simp only[Bool.false_eq_true,if_false]at h
  split at h
  ·cases h
  ·rename_i v1 h1
   exact⟨v1,by simpa using UD h1,h⟩
theorem J8 {s:B8} {num:Bool} {wid:Int} {R:Except (Nat×Int) (Nat×Int×List B8×List Nd)} {p:Nat×Int×List B8×Nd×Int} (h:H9 s num wid R= .ok p):
  ∃e v2 ns2 ks m,R= .ok (e,v2,ns2,ks)/\Cm s e= .ok m/\¬(ks.length:Int)<(if num then wid else(ks.length:Int))/\p=(e+m,v2,ns2,.mk 8 [] [] ks (slc s e (e+m)),if num then wid else(ks.length:Int)):=by
 unfold H9 at h
 split at h
 ·cases h
 rename_i e v2 ns2 ks
 split at h
 ·cases h
 rename_i m hm
 by_cases hw:(ks.length:Int)<(if num then wid else(ks.length:Int))
 ·rw[if_pos hw]at h;cases h
 ·rw[if_neg hw]at h
  exact⟨e,v2,ns2,ks,m,rfl,hm,hw,(Except.ok.inj h).symm⟩
section
theorem OA (st:St) {a:Int} (c:UInt8) (hc:(c.toNat:Int)=a):(toBytes st (.list 1 .full 1 [.int .u8 a])).map TV.str=some (.str [c]):=by
 have:UInt8.ofNat a.toNat=c:=by rw[<-hc];simp
 rw[<-this];rfl
def Gt (x:Cx) (i e:Nat):Nd:=Kn x.s i e (if e<x.s.length/\by_ x.s e=x.a then [.mk 11 [] [x.s.getD e 0] [] []]else [])
def Kp (x:Cx) (e:Nat):Nat:=if e<x.s.length/\by_ x.s e=x.a then e+1 else e
def VY (c:B8):List TV:=[.int .i64 2,.str [],.str c,.nilSlice,.str []]
def mrkC (c:UInt8):List TV:=[.int .i64 11,.str [],.str [c],.nilSlice,.str []]
theorem NdC.leaf (k:Int) (t:B8):NdC (.mk k [] t [] []) [.int .i64 k,.str [],.str t,.nilSlice,.str []]:=by
 unfold NdC;exact⟨_,[],rfl,.inl ⟨rfl,rfl,rfl⟩,BD.nil⟩
theorem NdC.ent1 {s:B8} {i e:Nat} {v:TV} (h:Rd 5 v 1 (VY (slc s i e))):NdC (Kn s i e []) [.int .i64 5,.str [],.str [],v,.str []]:=by
 unfold Kn NdC
 exact⟨v,_,rfl,h,BD.one (NdC.leaf 2 _)⟩
theorem NdC.ent2 {s:B8} {i e:Nat} {c:UInt8} {v:TV} (h:Rd 5 v 2 (VY (slc s i e)++mrkC c)):NdC (Kn s i e [.mk 11 [] [c] [] []]) [.int .i64 5,.str [],.str [],v,.str []]:=by
 unfold Kn NdC
 exact⟨v,_,rfl,h,BD.append (BD.one (NdC.leaf 2 _)) (BD.one (NdC.leaf 11 _))⟩
theorem IE {S:Nat->Prop} {T sz bytes:Nat} {st0 st:St} {v:TV} {n k:Nat} {xs ys:List TV} {K:TV->St->Prop} (e:StX S st0 st) (h:Own st0.nt sz st v n xs) (hby:(n+k)*bytes<=140737488355328) (hys:k=0->ys=[])
  (hK:∀v' st',StX S st0 st'->st'.box=st.box->st'.nb=st.nb->Own st0.nt sz st' v' (n+k) (xs++ys)->K v' st'):AF T sz bytes v k ys st K:=by
 have ef:∀st' T,StX S st0 st'->StX S st0 (st'.fresh T):=fun st' T h=>h.trans (StX.of ((Ay.refl st').fresh _))
 rcases h with⟨rfl,rfl,rfl⟩ | ⟨tip,rfl,ht⟩
 ·simp only[AF]
  cases k with
  | zero=>rw[hys rfl]at hK;exact hK _ _ e rfl rfl (.nil _ _ _)
  | succ m=>
   simp only[Aw]
   refine⟨by simpa using hby,hK _ _ (ef _ _ e) rfl rfl ?_⟩
   simp only[List.nil_append,Nat.zero_add]
   exact Own.fresh _ _ e.nt
 ·simp only[AF,Nat.beq_refl]
  refine⟨hby,?_⟩
  rcases ht with rfl | ⟨id,rfl,h1,h2,h3⟩
  ·cases k with
   | zero=>rw[hys rfl]at hK;simp only[List.append_nil]at hK;exact hK _ _ e rfl rfl (Own.full _ _ _ _ _)
   | succ m=>exact hK _ _ (ef _ _ e) rfl rfl (Own.fresh _ _ e.nt)
  ·have er:StX S st0 (st.retire id):=⟨e.nb,e.box,e.nt,fun i hi=>by simp only[St.retire];rw[if_neg (by omega)];exact e.live i hi,e.ty,e.bt⟩
   exact⟨h3,hK _ _ (ef _ _ er) rfl rfl (Own.fresh (st:=st.retire id) _ _ e.nt)⟩
theorem PSD.same {p m:Nat} {x:Cx} {hd ty:Bool} {l2 l3 l4:Int} {ns:List B8} {i n w o e:Int} {st st':St} (h:PSD p m x hd ty l2 l3 l4 ns i n w o e st) (hb:st'.box=st.box) (hn:st'.nb=st.nb):
  PSD p m x hd ty l2 l3 l4 ns i n w o e st':=by
 obtain⟨es,h1,h2⟩:=h.mp
 exact⟨h.ne,by rw[hn];exact h.lp,by rw[hn];exact h.lm,by rw[hb];exact h.bx,es,by rw[hb];exact h1,h2⟩
theorem MY {v:TV} (h:Ap v=true):List.all [v] Ap=true:=by simp[h]
def NA (x:Cx) (hd:Bool) (i:Nat) (v1:Int) (ns:List B8):Except (Nat×Int) (Nat×Int×List B8):=
 match Bi x.a x.q x.s i with
 | .error e=> .error e
 | .ok e=>if (if hd then 1024 else 65536)<(txt x.q (slc x.s i e)).length then .error (i,10)else if hd/\txt x.q (slc x.s i e)∈ns then .error (i,8)
  else .ok (e,v1,if hd then txt x.q (slc x.s i e)::ns else ns)
theorem Mi (x:Cx) (hd:Bool) (i:Nat) (v:Int) (ns:List B8):DY x hd i v ns=if hd=true then NA x hd i v ns else match ES x.dep x.nod 3 i v with
  | .error e=> .error e
  | .ok v1=>NA x hd i v1 ns:=by
 unfold DY NA
 cases hd with
 | true=>simp only[if_true,bind,Except.bind];cases Bi x.a x.q x.s i<;>rfl
 | false=>
  simp only[Bool.false_eq_true,if_false,bind,Except.bind]
  cases ES x.dep x.nod 3 i v with
  | error e=>rfl
  | ok v1=>simp only;cases Bi x.a x.q x.s i<;>rfl
section
variable {p m:Nat} {x:Cx} {hd ty:Bool} {l2 l3 l4:Int} {ns:List B8} {I v w o e:Int} {st:St}
theorem U3 {i:Nat} {header:Bool} {K:Int->B8->B8->TV->B8->Bool->St->Prop} (hI:I=(i:Int)) (hi:i<=x.s.length) (hl:x.s.length<=2000000) (hv0:0<=v) (hv:v<1000000000)
  (h:PSD p m x hd ty l2 l3 l4 ns I v w o e st)
  (h0:∀(k:Nat) v1 ns1 kv st',DY x header i v ns= .ok (k,v1,ns1)->StX (PM p m) st st'->PSD p m x hd ty l2 l3 l4 ns1 (Kp x k:Nat) v1 w o e st'->NdC (Gt x i k) [.int .i64 5,.str [],.str [],kv,.str []]->Rd 5 kv (if k<x.s.length/\by_ x.s k=x.a then 2 else 1) (if k<x.s.length/\by_ x.s k=x.a then VY (slc x.s i k)++mrkC (x.s.getD k 0)else VY (slc x.s i k))->K 5 [] [] kv [] true st')
  (h1:∀(o':Nat) e' (k v1:Int) kv st',DY x header i v ns= .error (o',e')->StX (PM p m) st st'->PSD p m x hd ty l2 l3 l4 ns k v1 w o' e' st'->Ap kv=true->K 5 [] [] kv [] false st'):
  Ae PR A0 [.box p 0,.bool header] [.agg [.int .i64,.str,.str,.tv,.str],.one .bool] st K:=by
 subst hI
 have hb:=h.bx
 have tn:∀k:Nat,Int.toNat (k:Int)=k:=fun k=>rfl
 have w1:∀k:Nat,k<=x.s.length->i64.wrap ((k:Int)+1)=((k+1:Nat):Int):=fun k hk=>by rw[As _ (by omega) (by omega)];omega
 --A4 the checks
 have fin:∀(k:Nat) (v1:Int) ns1,i<=k->k<=x.s.length->DY x header i v ns= .ok (k,v1,ns1)->
   ∀(v4:TV) (st8:St),StX (PM p m) st st8->PSD p m x hd ty l2 l3 l4 ns1 k v1 w o e st8->Own st.nt 5 st8 v4 1 (VY (slc x.s i k))->
    (k<x.s.length->by_ x.s k=x.a->∀st9,StX (·=p) st8 st9->st9.box p= .cells ((pcl x hd ty l2 l3 l4 m k v1 w o e).set 10 (.int .i64 (i64.wrap ((k:Int)+1))))->AF 79 5 80 v4 1 (mrkC (x.s.getD k 0)) st9 fun v5 st10=>need (List.all [v5] Ap) (need (List.all [.int .i64 5,.str [],.str [],v5,.str []] Ap) (K 5 [] [] v5 [] true st10)))/\
    (¬(k<x.s.length/\by_ x.s k=x.a)->K 5 [] [] v4 [] true st8):=by
  intro k v1 ns1 hik hk he v4 st8 e8 k8 o8
  refine⟨fun c1 c2 st9 e9 b9=>?_,fun c=>?_⟩
  ·rw[w1 k (by omega)]at b9
   have hen:Gt x i k=Kn x.s i k [.mk 11 [] [x.s.getD k 0] [] []]:=by unfold Gt;rw[if_pos ⟨c1,c2⟩]
   refine IE (e8.trans e9.pm) (o8.extXD e9) (by omega) (fun h=>by cases h) fun v5 st10 e10 hbx hnb o10=>Aa (MY o10.rd.one) (Aa (Eb o10.rd.one) ?_)
   refine h0 k v1 ns1 v5 st10 he e10 ?_ (by rw[hen];exact NdC.ent2 o10.rd) (by rw[if_pos ⟨c1,c2⟩,if_pos ⟨c1,c2⟩];exact o10.rd)
   have:Kp x k=k+1:=by unfold Kp;rw[if_pos ⟨c1,c2⟩]
   rw[this]
   exact(k8.of e9 b9).same hbx hnb
  ·have hen:Gt x i k=Kn x.s i k []:=by unfold Gt;rw[if_neg c]
   refine h0 k v1 ns1 v4 st8 he e8 ?_ (by rw[hen];exact NdC.ent1 o8.rd) (by rw[if_neg c,if_neg c];exact o8.rd)
   have:Kp x k=k:=by unfold Kp;rw[if_neg c]
   rw[this]
   exact k8
 refine HI p header st K (Au (fun hh=>?_) fun hh=>?_)
 case' refine_1=>
  have hh:header=false:=by simpa using hh
  rw[Mi,if_neg (by rw[hh];decide)]at h0 h1 fin
  refine OG rfl hv0 hv h (fun v' st1 hb1 e1 k1=>?_) fun o' e' st1 hb1 e1 k1=>?_
  case' refine_2=>
   rw[hb1]at h1
   exact Au (fun _=>h1 _ _ _ _ _ st1 rfl e1 k1 rfl) fun h=>by cases h
  rw[hb1]at h0 h1 fin
  refine Au (fun h=>by cases h) fun _=>?_
  simp only at h0 h1 fin
 case' refine_2=>
  have hh:header=true:=by simpa using hh
  rw[Mi,if_pos hh]at h0 h1 fin
  obtain⟨v',hv'⟩:∃v',v'=v:=⟨_,rfl⟩
  obtain⟨st1,hst1⟩:∃st1,st1=st:=⟨_,rfl⟩
  have e1:StX (PM p m) st st1:=hst1▸StX.refl _ _
  have k1:PSD p m x hd ty l2 l3 l4 ns i v' w o e st1:=by rw[hst1,hv'];exact h
  rw[<-hst1]
  rw[<-hv']at h0 h1 fin
 all_goals
  have b1:=k1.bx
  repeat' first
   | (guard_target=~need _ _;refine Aa rfl ?_)
   | (guard_target=~Af (Ab _ _ _ _) _;refine Ad (ldB b1 rfl) ?_)
   | (guard_target=~Ah (.int _) _ _;refine At ?_)
   | (guard_target=~Ah .str _ _;refine Al ?_)
   | (guard_target=~Ah .bool _ _;refine Aq ?_)
  refine V8 rfl hi hl k1 (fun k st2 hc e2 k2=>?_) fun o' e' k st2 hc e2 k2=>?_
  case' refine_2=>
   unfold NA at h1
   rw[hc]at h1
   exact Au (fun _=>h1 _ _ _ _ _ st2 rfl (e1.trans e2) k2 rfl) fun h=>by cases h
  refine Au (fun h=>by cases h) fun _=>?_
  have hle:=CZ hi hc
  have hW:=Qo hi hc
  have b2:=k2.bx
  unfold NA at h0 h1 fin
  rw[hc]at h0 h1 fin
  simp only at h0 h1 fin
  repeat' first
   | (guard_target=~need _ _;refine Aa rfl ?_)
   | (guard_target=~Af (Ab _ _ _ _) _;refine Ad (ldB b2 rfl) ?_)
   | (guard_target=~Ah (.int _) _ _;refine At ?_)
   | (guard_target=~Ah .str _ _;refine Al ?_)
   | (guard_target=~Ah .bool _ _;refine Aq ?_)
  refine⟨⟨by omega,by omega,by omega⟩,Ad (x:= .agg [.int .u8 x.a,.int .u8 x.q,.bool hd,.bool ty]) (by rw[ldsB b2 rfl rfl];rfl) ?_⟩
  rw[tn,tn]
  refine MC hW (by show(slc x.s i k).length<=_;rw[JV hle.1 hle.2];omega) fun st3 e3=>?_
  have k3:=k2.keep (StX.of (S:=fun _=>False) e3) (fun h=>h) (fun h=>h)
  have e4:=(e1.trans e2).trans (StX.of e3)
  refine⟨fun mo p' hd' fr c t kd ld tx kv tl st'=>mo=(if header then 1024 else 65536)/\TV.box p 0=p'/\header=hd'/\(i:Int)=fr/\slc x.s i k=c/\txt x.q (slc x.s i k)=t/\5=kd/\[]=ld/\[]=tx/\TV.nilSlice=kv/\[]=tl/\st3=st',
   Au (fun h=>⟨by rw[h];rfl,rfl,rfl,rfl,rfl,rfl,rfl,rfl,rfl,rfl,rfl,rfl⟩) (fun h=>⟨by rw[h];rfl,rfl,rfl,rfl,rfl,rfl,rfl,rfl,rfl,rfl,rfl,rfl⟩),?_⟩
  rintro _ _ _ _ _ _ _ _ _ _ _ _ ⟨rfl,rfl,rfl,rfl,rfl,rfl,rfl,rfl,rfl,rfl,rfl,rfl⟩
  refine Ac (fun g=>?_) fun g=>?_
  ·rw[if_pos (by cases header<;>simp at g⊢<;>omega)]at h1
   exact CR k3 fun st4 e5 k4=>Aa rfl (h1 _ _ _ _ _ st4 rfl (e4.trans e5) k4 rfl)
  rw[if_neg (by cases header<;>simp at g⊢<;>omega)]at h0 h1 fin
  have b3:=k3.bx
  obtain⟨es,hm1,hm2⟩:=k3.mp
  refine Au (fun g2=>?_) fun g2=>?_
  case' refine_1=>
   repeat' first
    | (guard_target=~need _ _;refine Aa rfl ?_)
    | (guard_target=~Af (Ab _ _ _ _) _;refine Ad (ldB b3 rfl) ?_)
    | (guard_target=~Ah (.int _) _ _;refine At ?_)
    | (guard_target=~Ah .str _ _;refine Al ?_)
    | (guard_target=~Ah .bool _ _;refine Aq ?_)
   refine Ad (x:=es) (by simp only[GN,hm1]) ?_
   rw[hm2]
   by_cases hin:txt x.q (slc x.s i k)∈ns
   case' pos=>
    rw[if_pos hin]
    rw[if_pos ⟨g2,hin⟩]at h1
    refine Aq (Au (fun _=>?_) fun h=>by cases h)
    exact CR k3 fun st4 e5 k4=>Aa rfl (h1 _ _ _ _ _ st4 rfl (e4.trans e5) k4 rfl)
   rw[if_neg hin]
   rw[if_neg (by rintro⟨_,h⟩;exact hin h),if_pos g2]at h0 fin
   refine Aq (Au (fun h=>by cases h) fun _=>?_)
   repeat' first
    | (guard_target=~need _ _;refine Aa rfl ?_)
    | (guard_target=~Af (Ab _ _ _ _) _;refine Ad (ldB b3 rfl) ?_)
    | (guard_target=~Ah (.int _) _ _;refine At ?_)
    | (guard_target=~Ah .str _ _;refine Al ?_)
    | (guard_target=~Ah .bool _ _;refine Aq ?_)
   refine⟨es,hm1,?_⟩
   obtain⟨st7,hst7⟩:∃st7,st7=st3.put m (.map (Gg (txt x.q (slc x.s i k)) (.bool true) es)):=⟨_,rfl⟩
   rw[<-hst7]
   have e7:StX (PM p m) st st7:=by rw[hst7];exact e4.trans (StX.put (.inr rfl) _)
   have k7:PSD p m x hd ty l2 l3 l4 (txt x.q (slc x.s i k)::ns) k v' w o e st7:=by
    refine⟨k3.ne,by rw[hst7];exact k3.lp,by rw[hst7];exact k3.lm,?_,_,?_,hm2.add _⟩
    ·rw[hst7];simp only[St.put];rw[if_neg k3.ne];exact k3.bx
    ·rw[hst7,Eo]
  case' refine_2=>
   rw[if_neg (by rintro⟨h,_⟩;rw[g2]at h;cases h),if_neg (by rw[g2];decide)]at h0 fin
   obtain⟨st7,hst7⟩:∃st7,st7=st3:=⟨_,rfl⟩
   rw[<-hst7]
   have e7:StX (PM p m) st st7:=by rw[hst7];exact e4
   have k7:PSD p m x hd ty l2 l3 l4 ns k v' w o e st7:=by rw[hst7];exact k3
  all_goals
   refine IE e7 (Own.nil _ _ _) (by omega) (fun h=>by cases h) fun v4 st8 e8 hbx hnb o8=>Aa (MY o8.rd.one) ?_
   have k8:=k7.same hbx hnb
   have b8:=k8.bx
   obtain⟨f1,f2⟩:=fin k v' _ hle.1 hle.2 rfl v4 st8 e8 k8 o8
   repeat' first
    | (guard_target=~need _ _;refine Aa rfl ?_)
    | (guard_target=~Af (Ab _ _ _ _) _;refine Ad (ldB b8 rfl) ?_)
    | (guard_target=~Ah (.int _) _ _;refine At ?_)
    | (guard_target=~Ah .str _ _;refine Al ?_)
    | (guard_target=~Ah .bool _ _;refine Aq ?_)
   refine Ac (fun q1=>?_) fun q1=>?_
   ·repeat' first
     | (guard_target=~need _ _;refine Aa rfl ?_)
     | (guard_target=~Af (Ab _ _ _ _) _;refine Ad (ldB b8 rfl) ?_)
     | (guard_target=~Ah (.int _) _ _;refine At ?_)
     | (guard_target=~Ah .str _ _;refine Al ?_)
     | (guard_target=~Ah .bool _ _;refine Aq ?_)
    refine⟨⟨by omega,by omega⟩,?_⟩
    repeat' first
     | (guard_target=~need _ _;refine Aa rfl ?_)
     | (guard_target=~Af (Ab _ _ _ _) _;refine Ad (ldB b8 rfl) ?_)
     | (guard_target=~Ah (.int _) _ _;refine At ?_)
     | (guard_target=~Ah .str _ _;refine Al ?_)
     | (guard_target=~Ah .bool _ _;refine Aq ?_)
    rw[tn]
    refine Ac (fun q2=>?_) fun q2=>?_
    ·repeat' first
      | (guard_target=~need _ _;refine Aa rfl ?_)
      | (guard_target=~Af (Ab _ _ _ _) _;refine Ad (ldB b8 rfl) ?_)
      | (guard_target=~Ah (.int _) _ _;refine At ?_)
      | (guard_target=~Ah .str _ _;refine Al ?_)
      | (guard_target=~Ah .bool _ _;refine Aq ?_)
     refine EU b8 rfl fun st9 e9 b9=>?_
     repeat' first
      | (guard_target=~need _ _;refine Aa rfl ?_)
      | (guard_target=~Af (Ab _ _ _ _) _;refine Ad (ldB b9 rfl) ?_)
      | (guard_target=~Ah (.int _) _ _;refine At ?_)
      | (guard_target=~Ah .str _ _;refine Al ?_)
      | (guard_target=~Ah .bool _ _;refine Aq ?_)
     refine Ad (OA _ (x.s.getD k 0) q2) ?_
     exact f1 (by omega) q2 st9 e9 b9
    ·exact Aa (Eb o8.rd.one) (f2 fun h=>q2 h.2)
   ·exact Aa (Eb o8.rd.one) (f2 fun h=>absurd h.1 (by omega))
end
end
section
theorem K0 (x:Cx) (num:Bool) (wid:Int) (hd:Bool) (n:Nat) (acc:List Nd) (i:Nat) (v:Int) (ns:List B8):Cb x num wid hd (n+1) acc i v ns=
  if num=true/\wid<=(acc.length:Int)then .error (i,10)else match DY x hd i v ns with
   | .error e=> .error e
   | .ok (e,v1,ns1)=>if e<x.s.length/\by_ x.s e=x.a then Cb x num wid hd n (acc++[Gt x i e]) (e+1) v1 ns1 else match Cm x.s e with
    | .error e=> .error e
    | .ok _=> .ok (e,v1,ns1,acc++[Gt x i e]):=by
 simp only[Cb]
 by_cases hw:num=true/\wid<=(acc.length:Int)
 ·rw[if_pos hw,if_pos hw]
 rw[if_neg hw,if_neg hw]
 simp only[bind,Except.bind]
 rcases DY x hd i v ns with e | ⟨e,v1,ns1⟩
 ·rfl
 simp only
 by_cases hm:e<x.s.length/\by_ x.s e=x.a
 ·rw[if_pos hm,if_pos hm]
  unfold Gt;rw[if_pos hm]
 ·rw[if_neg hm,if_neg hm]
  unfold Gt;rw[if_neg hm]
  cases Cm x.s e<;>rfl
theorem Up {x:Cx} {hd:Bool} {i:Nat} {v:Int} {ns:List B8} {e:Nat} {v1:Int} {ns1:List B8} (hi:i<=x.s.length) (h:DY x hd i v ns= .ok (e,v1,ns1)):i<=e/\e<=x.s.length/\v<=v1/\v1<=v+1:=by
 cases hd with
 | true=>have:=Lh h;have h2:=CZ hi this.2.1;omega
 | false=>have:=Ko h;have h2:=CZ hi this.2.2.2.2.1;omega
theorem StX.out {p m r:Nat} {a b c:St} (h:StX (PM p m) a b) (k:StX (PM3 p m r) b c) (hr:a.nb<=r):StX (PM p m) a c:=
 ⟨Nat.le_trans h.nb k.nb,fun i hi hs=>(k.box i (Nat.lt_of_lt_of_le hi h.nb) (by rintro(g | g | g);exact hs (.inl g);exact hs (.inr g);omega)).trans (h.box i hi hs),Nat.le_trans h.nt k.nt,fun i hi=>(k.live i (Nat.lt_of_lt_of_le hi h.nt)).trans (h.live i hi),fun i hi=>(k.ty i (Nat.lt_of_lt_of_le hi h.nt)).trans (h.ty i hi),fun i hi=>(k.bt i (Nat.lt_of_lt_of_le hi h.nb)).trans (h.bt i hi)⟩
theorem StX.r3 {p m r:Nat} {a b:St} (h:StX (·=r) a b):StX (PM3 p m r) a b:=h.mono fun _ g=> .inr (.inr g)
theorem stB_A {st:St} {b off:Nat} {xs:List TV} {l:List TV} {k:St->Prop} (hb:st.box b= .cells l) (hl:off+xs.length<=l.length) (hk:∀st',StX (·=b) st st'->st'.box b= .cells (setAll l off xs)->k st'):stB st (.box b off) xs k:=
 ⟨l,hb,hl,hk _ (StX.put (S:=(·=b)) rfl _) (Eo _ _ _)⟩
theorem Na {st:St} {b:Nat} {c0 c1 c2 c3 c4:TV} (hb:st.box b= .cells [c0,c1,c2,c3,c4]):(Aj st [] (.t (.box b 0)) 0 5).map TV.agg=some (.agg [c0,c1,c2,c3,c4]):=by
 rw[show Aj st [] (.t (.box b 0)) 0 5=some [c0,c1,c2,c3,c4]from ldsB hb rfl rfl];rfl
theorem Ip {k:Int} {l t tl:B8} {u:TV} {f:Int->B8->B8->TV->B8->Prop} (h:f k l t u tl):AU [.int .i64,.str,.str,.tv,.str] (.agg [.int .i64 k,.str l,.str t,u,.str tl]) f:=h
theorem Xa {p H:Prop} [Decidable p] {A X:Prop} (t:H->X) (h1:p->(H->X)->A) (h2:¬p->H):BIf (decide p) A X:=Ac (fun q=>h1 q t) fun q=>t (h2 q)
section
variable {p m:Nat} {x:Cx} {hd ty:Bool} {l2 l3 l4:Int} {ns:List B8} {I v w o e:Int} {st:St}
theorem SL {i:Nat} {N:Int} {K:Int->B8->B8->TV->B8->Bool->St->Prop} (hI:I=(i:Int)) (hi:i<=x.s.length) (hl:x.s.length<=2000000) (hv0:0<=v) (hv:v<=100000000) (hN:0<=N)
  (h:PSD p m x hd ty l2 l3 l4 ns I v w o e st)
  (h0:∀(k:Nat) v1 ns1 r w1 kv tl st',GI x (decide (N≠0)) w (decide (N=0)&&hd) i v ns= .ok (k,v1,ns1,r,w1)->StX (PM p m) st st'->PSD p m x hd ty l2 l3 l4 ns1 k v1 w1 o e st'->NdC r [.int .i64 8,.str [],.str [],kv,.str tl]->K 8 [] [] kv tl true st')
  (h1:∀(o':Nat) e' ns1 (k v1 w1:Int) kv tl st',GI x (decide (N≠0)) w (decide (N=0)&&hd) i v ns= .error (o',e')->StX (PM p m) st st'->PSD p m x hd ty l2 l3 l4 ns1 k v1 w1 o' e' st'->Ap kv=true->K 8 [] [] kv tl false st'):
  Ae PR Ct [.box p 0,.int .i64 N] [.agg [.int .i64,.str,.str,.tv,.str],.one .bool] st K:=by
 subst hI
 have hb:=h.bx
 have tn:∀k:Nat,Int.toNat (k:Int)=k:=fun k=>rfl
 obtain⟨header,hhd⟩:∃b,b=(decide (N=0)&&hd):=⟨_,rfl⟩
 rw[<-hhd]at h0 h1
 --the record's own box
 obtain⟨r,hr⟩:∃r,r=st.nb:=⟨_,rfl⟩
 have hrp:p≠r:=by have:=h.lp;omega
 have hrm:m≠r:=by have:=h.lm;omega
 have start:∀st1,StX (·=r) (st.push (.cells [.int .i64 0,.str [],.str [],.nilSlice,.str []]) (some 79)) st1->st1.box r= .cells [.int .i64 8,.str [],.str [],.nilSlice,.str []]->
   StX (PM p m) st st1/\PSD p m x hd ty l2 l3 l4 ns i v w o e st1/\r<st1.nb:=fun st1 e1 b1=>by
  have e0:StX (PM3 p m r) (st.push (.cells [.int .i64 0,.str [],.str [],.nilSlice,.str []]) (some 79)) st1:=e1.r3
  have ep:StX (PM p m) st (st.push (.cells [.int .i64 0,.str [],.str [],.nilSlice,.str []]) (some 79)):=StX.of ((Ay.refl st).push _ _)
  refine⟨ep.out e0 (by omega),(h.keep (StX.of (S:=fun _=>False) ((Ay.refl st).push _ _)) (fun h=>h) fun h=>h).other e1 hrp hrm,?_⟩
  have:=e1.nb
  simp only[St.push]at this
  omega
 have rk:∀sta stb L,StX (PM p m) sta stb->r<sta.nb->sta.box r= .cells L->stb.box r= .cells L:=fun sta stb L e hlt h=>by
  rw[e.box r hlt (fun h=>h.elim (fun h=>hrp h.symm) fun h=>hrm h.symm)];exact h
 obtain⟨num,hnum⟩:∃b,b=decide (N≠0):=⟨_,rfl⟩
 have hnum1:num=true↔N≠0:=by rw[hnum];simp
 rw[<-hnum]at h0 h1
 generalize hD:GI x num w header i v ns=D0 at h0 h1
 rw[G5]at hD
 --the loop's start:A4 the first value
 refine GY p N st K (Ac (fun hn=>?_) fun hn=>?_)
 case' refine_1=>
  repeat' first
   | (guard_target=~need _ _;refine Aa rfl ?_)
   | (guard_target=~Af (Ab _ _ _ _) _;refine Ad (ldB hb rfl) ?_)
   | (guard_target=~Ah (.int _) _ _;refine At ?_)
   | (guard_target=~Ah .str _ _;refine Al ?_)
   | (guard_target=~Ah .bool _ _;refine Aq ?_)
  rw[<-hr]
  refine stB_A (b:=r) (by rw[hr];exact Ir _ _ _) (by simp) fun st1 e1 b1=>?_
  have b1:st1.box r= .cells [.int .i64 8,.str [],.str [],.nilSlice,.str []]:=b1
  obtain⟨f1,k1,lr1⟩:=start st1 e1 b1
  refine Au (fun hh=>?_) fun hh=>?_
 case' refine_2=>
  rw[<-hr]
  refine stB_A (b:=r) (by rw[hr];exact Ir _ _ _) (by simp) fun st1 e1 b1=>?_
  have b1:st1.box r= .cells [.int .i64 8,.str [],.str [],.nilSlice,.str []]:=b1
  obtain⟨f1,k1,lr1⟩:=start st1 e1 b1
 case' refine_1.refine_1=>
  have hhd':header=hd:=by rw[hhd,hn];simp
  have hhf:header=false:=by rw[hhd'];simpa using hh
 case' refine_2=>
  have hhf:header=false:=by rw[hhd];simp[hn]
  have hhd':header=false:=hhf
 case' refine_1.refine_2=>
  have hhd':header=hd:=by rw[hhd,hn];simp
  have hht:header=true:=by rw[hhd'];simpa using hh
  rw[if_pos hht]at hD
  have hv1:v<=v/\v<=v+1:=by omega
  have f2:=f1
  have k2:=k1
  have lr2:=lr1
  have b2:=b1
 case' refine_1.refine_1 | refine_2=>
  rw[if_neg (by rw[hhf];decide)]at hD
  refine OG rfl hv0 (by omega) k1 (fun v' st2 hb1 e2 k2=>?_) fun o' e' st2 hb1 e2 k2=>?_
 case' refine_1.refine_1.refine_2 | refine_2.refine_2=>
  rw[hb1]at hD
  refine Au (fun _=>?_) fun h=>by cases h
  have b2:=rk _ _ _ e2 lr1 b1
  refine Ad (Na b2) (Ip ?_)
  exact Aa (Eb (u:= .nilSlice) rfl) (h1 _ _ _ _ _ _ .nilSlice [] st2 hD.symm (f1.trans e2) k2 rfl)
 case' refine_1.refine_1.refine_1 | refine_2.refine_1=>
  rw[hb1]at hD
  simp only at hD
  refine Au (fun h=>by cases h) fun _=>?_
  have b2:=rk _ _ _ e2 lr1 b1
  have hv1:v<=v'/\v'<=v+1:=by have:=UD hb1;omega
  have f2:=f1.trans e2
  have lr2:r<st2.nb:=Nat.lt_of_lt_of_le lr1 e2.nb
 all_goals
  refine⟨fun p' N' hd' r' st'=>TV.box p 0=p'/\N=N'/\header=hd'/\TV.box r 0=r'/\∃(j n:Nat) (acc:List Nd) (v1:Int) (ns1:List B8) (kv:TV) (xs:List TV),StX (PM p m) st st'/\r<st'.nb/\PSD p m x hd ty l2 l3 l4 ns1 j v1 w o e st'/\
    st'.box r= .cells [.int .i64 8,.str [],.str [],kv,.str []]/\Own st.nt 5 st' kv acc.length xs/\BD acc xs/\j<=x.s.length/\x.s.length<j+n/\acc.length<=j/\0<=v1/\v1<=v+1+j/\H9 x.s num w (Cb x num w header n acc j v1 ns1)=D0,
   fun _ _ _ _ st'=>(x.s.length-LN st' p 10).toNat,⟨rfl,rfl,hhd',rfl,i,x.s.length+1,[],_,ns,.nilSlice,[],f2,lr2,k2,b2,Own.nil _ _ _,BD.nil,hi,by omega,by simp,by omega,by omega,hD⟩,?_⟩
  rintro _ _ _ _ st3 ⟨rfl,rfl,rfl,rfl,j,n,acc,v1,ns1,kv,xs,f3,lr3,k3,b3,o3,hx,hj,hjn,hac,hv3,hv4,hE⟩
  cases n with
  | zero=>omega
  | succ n=>
  rw[K0]at hE
  have bp3:=k3.bx
  refine Xa (H:=¬(num=true/\w<=(acc.length:Int))) (fun hw=>?_) (fun q t=>?_) (fun q=>by rintro⟨h,_⟩;have:=hnum1.1 h;omega)
  ·rw[if_neg hw]at hE
   refine U3 rfl hj hl (by omega) (by omega) k3 (fun k v2 ns2 v4 st4 he e4 k4 hc4 hr4=>?_) fun o' e' k' v' v4 st4 he e4 k4 ho4=>?_
   ·rw[he]at hE
    simp only at hE
    have hle:=Up hj he
    refine Aa (Eb hr4.one) (Au (fun h=>by cases h) fun _=>?_)
    have b4:=rk _ _ _ e4 lr3 b3
    repeat' first
     | (guard_target=~need _ _;refine Aa rfl ?_)
     | (guard_target=~Af (Ab _ _ _ _) _;refine Ad (ldB b4 rfl) ?_)
     | (guard_target=~Ah (.int _) _ _;refine At ?_)
     | (guard_target=~Ah .str _ _;refine Al ?_)
     | (guard_target=~Ah .bool _ _;refine Aq ?_)
    refine Aa o3.rd.isSl ?_
    repeat' first
     | (guard_target=~need _ _;refine Aa rfl ?_)
     | (guard_target=~Af (Ab _ _ _ _) _;refine Ad (ldB b4 rfl) ?_)
     | (guard_target=~Ah (.int _) _ _;refine At ?_)
     | (guard_target=~Ah .str _ _;refine Al ?_)
     | (guard_target=~Ah .bool _ _;refine Aq ?_)
    refine Aa (Eb hr4.one) ⟨rfl,?_⟩
    refine IE (f3.trans e4) (o3.extXD e4) (by omega) (fun h=>by cases h) fun v5 st5 e5 hbx hnb o5=>?_
    have b5:st5.box r= .cells [.int .i64 8,.str [],.str [],kv,.str []]:=by rw[hbx];exact b4
    refine EU b5 rfl fun st6 e6 b6=>?_
    have k6:=(k4.same hbx hnb).other e6 hrp hrm
    have f6:StX (PM p m) st st6:=e5.out e6.r3 (by omega)
    have lr6:r<st6.nb:=by have h1:=e4.nb;have h2:=e6.nb;omega
    have hx6:=hx.append (BD.one hc4)
    have o6:=o5.extXD e6
    have hlen:(acc++[Gt x j k]).length=acc.length+1:=by simp
    refine Aa hr4.isSl ?_
    rw[hr4.lenS]
    by_cases hmk:k<x.s.length/\by_ x.s k=x.a
    ·rw[if_pos hmk]at hE
     rw[if_pos hmk]
     refine Ac (fun h=>absurd h (by decide)) fun _=>?_
     have hat:Kp x k=k+1:=by unfold Kp;rw[if_pos hmk]
     rw[hat]at k6
     refine⟨⟨rfl,rfl,rfl,rfl,k+1,n,_,v2,ns2,v5,_,f6,lr6,k6,b6,by rw[hlen];exact o6,hx6,by omega,by omega,by omega,by omega,by omega,hE⟩,?_⟩
     dsimp only
     rw[Dr k6.bx rfl,Dr bp3 rfl]
     omega
    ·rw[if_neg hmk]at hE
     rw[if_neg hmk]
     refine Ac (fun _=>?_) fun h=>absurd rfl h
     have hat:Kp x k=k:=by unfold Kp;rw[if_neg hmk]
     rw[hat]at k6
     have bp6:=k6.bx
     repeat' first
      | (guard_target=~need _ _;refine Aa rfl ?_)
      | (guard_target=~Af (Ab _ _ _ _) _;refine Ad (ldB bp6 rfl) ?_)
      | (guard_target=~Ah (.int _) _ _;refine At ?_)
      | (guard_target=~Ah .str _ _;refine Al ?_)
      | (guard_target=~Ah .bool _ _;refine Aq ?_)
     refine Rp rfl hle.2.1 hl k6 hrp hrm lr6 b6 (fun n7 st7 hle7 e7 k7 b7=>?_) fun o' e' k' st7 hle7 e7 k7 b7=>?_
     ·rw[hle7]at hE
      simp only[H9,hle7]at hE
      rw[hlen]at hE
      have f7:=f6.out e7 (by omega)
      have lr7:r<st7.nb:=Nat.lt_of_lt_of_le lr6 e7.nb
      have o7:=o6.extXD e7
      have bp7:=k7.bx
      have hnd:NdC (.mk 8 [] [] (acc++[Gt x j k]) (slc x.s k (k+n7))) [.int .i64 8,.str [],.str [],v5,.str (slc x.s k (k+n7))]:=by
       unfold NdC;exact⟨v5,_,rfl,by rw[hlen];exact o7.rd,hx6⟩
      refine Au (fun h=>by cases h) fun _=>Ac (fun q0=>?_) fun q0=>?_
      ·have hn0:num=false:=by cases hb:num with | true=>exact absurd q0 (hnum1.1 hb) | false=>rfl
       rw[hn0,if_neg (by simp)]at hE
       repeat' first
        | (guard_target=~need _ _;refine Aa rfl ?_)
        | (guard_target=~Af (Ab _ _ _ _) _;refine Ad (ldB b7 rfl) ?_)
        | (guard_target=~Ah (.int _) _ _;refine At ?_)
        | (guard_target=~Ah .str _ _;refine Al ?_)
        | (guard_target=~Ah .bool _ _;refine Aq ?_)
       refine Aa o7.rd.isSl ?_
       rw[o7.rd.lenS]
       repeat' first
        | (guard_target=~need _ _;refine Aa rfl ?_)
        | (guard_target=~Af (Ab _ _ _ _) _;refine Ad (ldB b7 rfl) ?_)
        | (guard_target=~Ah (.int _) _ _;refine At ?_)
        | (guard_target=~Ah .str _ _;refine Al ?_)
        | (guard_target=~Ah .bool _ _;refine Aq ?_)
       refine EU bp7 rfl fun st8 e8 bp8=>?_
       have b8:st8.box r= .cells [.int .i64 8,.str [],.str [],v5,.str (slc x.s k (k+n7))]:=by rw[e8.box r lr7 fun h=>hrp h.symm];exact b7
       have k8:=k7.of e8 bp8
       repeat' first
        | (guard_target=~need _ _;refine Aa rfl ?_)
        | (guard_target=~Af (Ab _ _ _ _) _;refine Ad (ldB b8 rfl) ?_)
        | (guard_target=~Ah (.int _) _ _;refine At ?_)
        | (guard_target=~Ah .str _ _;refine Al ?_)
        | (guard_target=~Ah .bool _ _;refine Aq ?_)
       refine Aa o7.rd.isSl ?_
       rw[o7.rd.lenS]
       repeat' first
        | (guard_target=~need _ _;refine Aa rfl ?_)
        | (guard_target=~Af (Ab _ _ _ _) _;refine Ad (ldB bp8 rfl) ?_)
        | (guard_target=~Ah (.int _) _ _;refine At ?_)
        | (guard_target=~Ah .str _ _;refine Al ?_)
        | (guard_target=~Ah .bool _ _;refine Aq ?_)
       refine Ac (fun h=>absurd h (by omega)) fun _=>?_
       refine Ad (Na b8) (Ip ?_)
       refine Aa (Eb o7.rd.one) (h0 _ _ _ _ _ _ _ st8 hE.symm (f7.trans e8.pm) ?_ hnd)
       exact k8
      ·have hn1:num=true:=hnum1.2 q0
       rw[hn1,if_pos rfl]at hE
       repeat' first
        | (guard_target=~need _ _;refine Aa rfl ?_)
        | (guard_target=~Af (Ab _ _ _ _) _;refine Ad (ldB b7 rfl) ?_)
        | (guard_target=~Ah (.int _) _ _;refine At ?_)
        | (guard_target=~Ah .str _ _;refine Al ?_)
        | (guard_target=~Ah .bool _ _;refine Aq ?_)
       refine Aa o7.rd.isSl ?_
       rw[o7.rd.lenS]
       repeat' first
        | (guard_target=~need _ _;refine Aa rfl ?_)
        | (guard_target=~Af (Ab _ _ _ _) _;refine Ad (ldB bp7 rfl) ?_)
        | (guard_target=~Ah (.int _) _ _;refine At ?_)
        | (guard_target=~Ah .str _ _;refine Al ?_)
        | (guard_target=~Ah .bool _ _;refine Aq ?_)
       refine Ac (fun q1=>?_) fun q1=>?_
       ·rw[if_pos q1]at hE
        refine Ad (Na b7) (Ip ?_)
        refine CR k7 fun st8 e8 k8=>⟨?_,Aa (Eb o7.rd.one) (h1 _ _ _ _ _ _ _ _ st8 hE.symm (f7.trans e8) k8 o7.rd.one)⟩
        rw[ldsB (rk _ _ _ e8 lr7 b7) rfl rfl];rfl
       ·rw[if_neg q1]at hE
        refine Ad (Na b7) (Ip ?_)
        exact Aa (Eb o7.rd.one) (h0 _ _ _ _ _ _ _ st7 hE.symm f7 k7 hnd)
     ·rw[hle7]at hE
      refine Au (fun _=>?_) fun h=>by cases h
      refine Ad (Na b7) (Ip ?_)
      exact Aa (Eb o6.rd.one) (h1 _ _ _ _ _ _ _ _ st7 hE.symm (f6.out e7 (by omega)) k7 o6.rd.one)
   ·rw[he]at hE
    refine Aa (Eb ho4) (Au (fun _=>?_) fun h=>by cases h)
    have b4:=rk _ _ _ e4 lr3 b3
    refine Ad (Na b4) (Ip ?_)
    exact Aa (Eb o3.rd.one) (h1 _ _ _ _ _ _ _ _ st4 hE.symm (f3.trans e4) k4 o3.rd.one)
  ·have hnm:num=true:=hnum1.2 (by omega)
   repeat' first
    | (guard_target=~need _ _;refine Aa rfl ?_)
    | (guard_target=~Af (Ab _ _ _ _) _;refine Ad (ldB b3 rfl) ?_)
    | (guard_target=~Ah (.int _) _ _;refine At ?_)
    | (guard_target=~Ah .str _ _;refine Al ?_)
    | (guard_target=~Ah .bool _ _;refine Aq ?_)
   refine Aa o3.rd.isSl ?_
   repeat' first
    | (guard_target=~need _ _;refine Aa rfl ?_)
    | (guard_target=~Af (Ab _ _ _ _) _;refine Ad (ldB bp3 rfl) ?_)
    | (guard_target=~Ah (.int _) _ _;refine At ?_)
    | (guard_target=~Ah .str _ _;refine Al ?_)
    | (guard_target=~Ah .bool _ _;refine Aq ?_)
   rw[o3.rd.lenS]
   refine Ac (fun q2=>?_) fun q2=>?_
   ·rw[if_pos ⟨hnm,q2⟩]at hE
    refine Ad (Na b3) (Ip ?_)
    repeat' first
     | (guard_target=~need _ _;refine Aa rfl ?_)
     | (guard_target=~Af (Ab _ _ _ _) _;refine Ad (ldB bp3 rfl) ?_)
     | (guard_target=~Ah (.int _) _ _;refine At ?_)
     | (guard_target=~Ah .str _ _;refine Al ?_)
     | (guard_target=~Ah .bool _ _;refine Aq ?_)
    refine CR k3 fun st4 e4 k4=>⟨?_,Aa (Eb o3.rd.one) (h1 _ _ _ _ _ _ _ _ st4 hE.symm (f3.trans e4) k4 o3.rd.one)⟩
    rw[ldsB (rk _ _ _ e4 lr3 b3) rfl rfl];rfl
   ·exact t fun h=>q2 h.2
end
end
theorem MT {x:Cx} {num hd:Bool} {wid:Int} {i:Nat} {v:Int} {ns:List B8} {i':Nat} {v':Int} {ns':List B8} {r:Nd} {wid':Int} (hi:i<=x.s.length)
  (h:GI x num wid hd i v ns= .ok (i',v',ns',r,wid')):∃ks e m,r= .mk 8 [] [] ks (slc x.s e (e+m))/\i'=e+m/\Ln x.a x.q x.s i ks e m/\v'=v+(if hd then 0 else 1+(ks.length:Int))/\
   (∀k∈ks,(txt x.q (A2 k)).length<=65536)/\(ks.length:Int)=wid'/\(num=true->wid'=wid)/\(hd=false->3<=x.dep/\v'<=x.nod/\ns'=ns):=by
 obtain⟨v1,h1,h⟩:=FC h
 obtain⟨e,v2,ns2,ks,m',h2,h3,hw,hp⟩:=J8 h
 simp only[Prod.mk.injEq]at hp
 obtain⟨rfl,rfl,rfl,rfl,rfl⟩:=hp
 obtain⟨ks',m,k1,k2,k3,k4,k5,k6⟩:=Rl _ hi h2
 rw[List.nil_append]at k1
 subst k1
 have hl:=k2.le hi
 rw[hl.2.2.2.2]at h3
 cases h3
 refine⟨_,e,_,rfl,rfl,k2,?_,k4,?_,?_,k6⟩
 ·rw[k3,h1];cases hd<;>simp;omega
 ·cases num with
  | true=>simp only[if_true]at hw⊢;have:=k5 rfl;omega
  | false=>rfl
 ·intro hn;rw[hn];rfl
theorem UX {x:Cx} {num:Bool} {wid:Int} (d' n':Int) {i:Nat} {v:Int} {ns:List B8}:GI (x.lim d' n') num wid true i v ns=GI x num wid true i v ns:=by
 rw[G5,G5,if_pos rfl,if_pos rfl]
 have:=UV (x:=x) (num:=num) (wid:=wid) d' n' (x.s.length+1) (acc:=[]) (i:=i) (v:=v) (ns:=ns)
 show H9 x.s num wid (Cb (x.lim d' n') num wid true (x.s.length+1) [] i v ns)=_
 rw[this]
theorem V5 {x:Cx} {num:Bool} {wid:Int} {d' n':Int} {i:Nat} {v:Int} {ns:List B8} {i':Nat} {v':Int} {ns':List B8} {r:Nd} {wid':Int}
  (h:GI x num wid false i v ns= .ok (i',v',ns',r,wid')):v+1<v'/\(3<=d'->v'<=n'->GI (x.lim d' n') num wid false i v ns= .ok (i',v',ns',r,wid'))/\
   (3<=d'->n'<v'->∃o,GI (x.lim d' n') num wid false i v ns= .error (o,10))/\(d'=2->v<n'->∃o,GI (x.lim d' n') num wid false i v ns= .error (o,9)):=by
 obtain⟨v1,h1,h⟩:=FC h
 have h1:v1=v+1:=by simpa using h1
 subst h1
 obtain⟨e,v2,ns2,ks,m,h2,h3,hw,hp⟩:=J8 h
 simp only[Prod.mk.injEq]at hp
 obtain⟨rfl,rfl,rfl,rfl,rfl⟩:=hp
 obtain⟨k0,k1,k2,k3⟩:=V4 (d':=d') (n':=n') _ h2
 have b1:2<=d'->v<n'->ES d' n' 2 i v= .ok (v+1):=fun g1 g2=>by unfold ES;rw[if_neg (by omega),if_neg (by omega)]
 have b2:2<=d'->n'<=v->ES d' n' 2 i v= .error (i,10):=fun g1 g2=>by unfold ES;rw[if_neg (by omega),if_pos g2]
 rw[G5]
 simp only[Bool.false_eq_true,if_false]
 refine⟨by omega,fun g1 g2=>?_,fun g1 g2=>?_,fun g1 g2=>?_⟩
 ·rw[b1 (by omega) (by omega)]
  show H9 x.s num wid (Cb (x.lim d' n') num wid false (x.s.length+1) [] i (v+1) ns)=_
  rw[k1 g1 g2]
  simp only[H9,h3]
  rw[if_neg hw]
 ·by_cases hv:n'<=v
  ·rw[b2 (by omega) hv];exact⟨_,rfl⟩
  ·rw[b1 (by omega) (by omega)]
   obtain⟨o,ho⟩:=k2 g1 g2
   exact⟨o,by show H9 x.s num wid (Cb (x.lim d' n') num wid false (x.s.length+1) [] i (v+1) ns)=_;rw[ho];rfl⟩
 ·rw[b1 (by omega) (by omega)]
  obtain⟨o,ho⟩:=k3 (by omega)
  exact⟨o,by show H9 x.s num wid (Cb (x.lim d' n') num wid false (x.s.length+1) [] i (v+1) ns)=_;rw[ho];rfl⟩
def Pm (r:Nd):Int:=1+((AA r).length:Int)
def Kr:List Nd->Int
 | []=>0
 | r::rs=>Pm r+Kr rs
theorem Hl:∀rs,0<=Kr rs
 | []=>by simp[Kr]
 | r::rs=>by have:=Hl rs;simp only[Kr,Pm];omega
def FN (hd:Bool) (rs:List Nd):Int:=if hd then Kr rs.tail else Kr rs
theorem OF {x:Cx} {num hd:Bool} {wid:Int}:∀(n:Nat) {acc:List Nd} {i:Nat} {v:Int} {ns:List B8} {e:Nat} {v':Int} {ns':List B8} {out:List Nd},
  Cb x num wid hd n acc i v ns= .ok (e,v',ns',out)->v'=v+(if hd then 0 else(out.length:Int)-acc.length):=by
 intro n
 induction n with
 | zero=>intro acc i v ns e v' ns' out h;simp only[Cb]at h;cases h
 | succ n ih=>
  intro acc i v ns e v' ns' out h
  simp only[Cb]at h
  split at h
  ·cases h
  simp only[bind,Except.bind]at h
  split at h
  ·cases h
  rename_i p he
  obtain⟨e1,v1,ns1⟩:=p
  have c3:v1=v+(if hd then 0 else 1):=by
   cases hd with
   | false=>simpa using (Ko he).2.2.1
   | true=>simpa using (Lh he).1
  simp only at h
  split at h
  ·have:=ih h
   rw[this,c3]
   cases hd<;>simp
   omega
  ·split at h
   ·cases h
   cases h
   rw[c3]
   cases hd<;>simp
   omega
theorem recE_v1 {x:Cx} {num:Bool} {wid:Int} (n:Nat) {acc:List Nd} {i:Nat} {v:Int} {ns:List B8} {e:Nat} {v':Int} {ns':List B8} {out:List Nd}
  (h:Cb x num wid true n acc i v ns= .ok (e,v',ns',out)):v'=v:=by simpa using OF n h
theorem UY {x:Cx} {num:Bool} {wid:Int} {i:Nat} {v:Int} {ns:List B8} {i':Nat} {v':Int} {ns':List B8} {r:Nd} {wid':Int}
  (h:GI x num wid false i v ns= .ok (i',v',ns',r,wid')):v'=v+Pm r:=by
 obtain⟨v1,h1,h⟩:=FC h
 have h1:v1=v+1:=by simpa using h1
 subst h1
 obtain⟨e,v2,ns2,ks,m,h2,h3,hw,hp⟩:=J8 h
 simp only[Prod.mk.injEq]at hp
 obtain⟨rfl,rfl,rfl,rfl,rfl⟩:=hp
 have:=OF _ h2
 simp only[Bool.false_eq_true,if_false,List.length_nil]at this
 simp only[Pm,AA];omega
theorem NF {x:Cx} {hdr:Bool}:∀(n:Nat) {acc:List Nd} {i:Nat} {v:Int} {ns:List B8} {wid:Int} {out:List Nd},i<=x.s.length->DI x hdr n acc i v ns wid= .ok out->
  ∃rs,out=acc++rs/\Kz x.a x.q x.s i rs/\(∀r∈rs,∀k∈AA r,(txt x.q (A2 k)).length<=65536)/\(∃W:Int,(acc≠ []->W=wid)/\∀r∈rs,((AA r).length:Int)=W)/\
   (FN (hdr&&acc.isEmpty) rs=0∨3<=x.dep/\v+FN (hdr&&acc.isEmpty) rs<=x.nod):=by
 intro n
 induction n with
 | zero=>intro acc i v ns wid out hi h;simp only[DI]at h;cases h
 | succ n ih=>
  intro acc i v ns wid out hi h
  simp only[DI]at h
  split at h
  ·rename_i hl
   cases h
   exact⟨[],by simp,.nil hl,fun r hr=>(by cases hr),⟨wid,fun _=>rfl,fun r hr=>(by cases hr)⟩,.inl (by unfold FN;cases (hdr&&acc.isEmpty)<;>rfl)⟩
  rename_i hl
  simp only[bind,Except.bind]at h
  split at h
  ·cases h
  rename_i p h1
  obtain⟨i',v',ns',r,wid'⟩:=p
  obtain⟨ks,e,m,rfl,rfl,k2,k3,k4,k5,k6,k7⟩:=MT hi h1
  have hle:=k2.le hi
  obtain⟨rs,j1,j2,j3,⟨W,j4,j5⟩,j6⟩:=ih (by omega) h
  have hW:W=wid':=j4 (by simp)
  refine⟨_::rs,by rw[j1,List.append_assoc];rfl,.cons (by omega) k2 j2,?_,⟨W,fun hne=>?_,?_⟩,?_⟩
  ·intro r hr
   rcases List.mem_cons.1 hr with rfl | hr
   ·exact k4
   ·exact j3 r hr
  ·rw[hW];exact k6 (by cases acc;exact absurd rfl hne;rfl)
  ·intro r hr
   rcases List.mem_cons.1 hr with rfl | hr
   ·rw[hW];exact k5
   ·exact j5 r hr
  ·have hnil:(hdr&&(acc++[Nd.mk 8 [] [] ks (slc x.s e (e+m))]).isEmpty)=false:=by cases acc<;>simp
   rw[hnil]at j6
   have hcn:=Hl rs
   cases hh:(hdr&&acc.isEmpty)with
   | true=>
    rw[hh]at k3 k7
    simp only[FN,if_true,List.tail_cons,Bool.false_eq_true,if_false]at j6 k3⊢
    rcases j6 with j6 | j6
    ·exact .inl j6
    ·right;omega
   | false=>
    rw[hh]at k3 k7
    have k7:=k7 rfl
    simp only[FN,Bool.false_eq_true,if_false,Kr,Pm,AA]at j6 k3⊢
    right
    rcases j6 with j6 | j6
    ·exact⟨k7.1,by omega⟩
    ·exact⟨k7.1,by omega⟩
theorem WM {x:Cx} {hdr:Bool} {d' n':Int}:∀(n:Nat) {acc:List Nd} {i:Nat} {v:Int} {ns:List B8} {wid:Int} {out:List Nd},DI x hdr n acc i v ns wid= .ok out->
  ∃rs,out=acc++rs/\((FN (hdr&&acc.isEmpty) rs=0∨3<=d')->v+FN (hdr&&acc.isEmpty) rs<=n'->DI (x.lim d' n') hdr n acc i v ns wid= .ok out)/\
   (0<FN (hdr&&acc.isEmpty) rs->3<=d'->n'<v+FN (hdr&&acc.isEmpty) rs->∃o,DI (x.lim d' n') hdr n acc i v ns wid= .error (o,10))/\
   (0<FN (hdr&&acc.isEmpty) rs->d'=2->v+FN (hdr&&acc.isEmpty) rs<=n'->∃o,DI (x.lim d' n') hdr n acc i v ns wid= .error (o,9)):=by
 intro n
 induction n with
 | zero=>intro acc i v ns wid out h;simp only[DI]at h;cases h
 | succ n ih=>
  intro acc i v ns wid out h
  simp only[DI]at h⊢
  split at h
  ·rename_i hl
   cases h
   have h0:FN (hdr&&acc.isEmpty) []=0:=by unfold FN;cases (hdr&&acc.isEmpty)<;>rfl
   refine⟨[],by simp,?_⟩
   rw[h0]
   exact⟨fun _ _=>by rw[if_pos hl],fun h=>absurd h (by decide),fun h=>absurd h (by decide)⟩
  rename_i hl
  rw[if_neg hl]
  simp only[bind,Except.bind]at h⊢
  split at h
  ·cases h
  rename_i p h1
  obtain⟨i',v',ns',r,wid'⟩:=p
  obtain⟨rs,j1,j2,j3,j4⟩:=ih h
  have hnil:(hdr&&(acc++[r]).isEmpty)=false:=by cases acc<;>simp
  rw[hnil]at j2 j3 j4
  have hcn:=Hl rs
  refine⟨r::rs,by rw[j1,List.append_assoc];rfl,?_⟩
  cases hh:(hdr&&acc.isEmpty)with
  | true=>
   rw[hh]at h1
   rw[UX,h1]
   have hv:v'=v:=by
    obtain⟨v1,h3,h4⟩:=FC h1
    have h3:v1=v:=by simpa using h3
    subst h3
    obtain⟨e,v2,ns2,ks,m,h2,h5,hw,hp⟩:=J8 h4
    simp only[Prod.mk.injEq]at hp
    obtain⟨rfl,rfl,rfl,rfl,rfl⟩:=hp
    exact recE_v1 _ h2
   subst hv
   simp only[FN,if_true,List.tail_cons,Bool.false_eq_true,if_false]at j2 j3 j4⊢
   exact⟨j2,j3,j4⟩
  | false=>
   rw[hh]at h1
   have hc:v'=v+Pm r:=UY h1
   obtain⟨k0,k1,k2,k3⟩:=V5 (d':=d') (n':=n') h1
   simp only[FN,Bool.false_eq_true,if_false,Kr]at j2 j3 j4⊢
   refine⟨fun g1 g2=>?_,fun g0 g1 g2=>?_,fun g0 g1 g2=>?_⟩
   ·have:3<=d':=by rcases g1 with g1 | g1;omega;exact g1
    rw[k1 this (by omega)]
    exact j2 (.inr this) (by omega)
   ·by_cases hv:n'<v'
    ·obtain⟨o,ho⟩:=k2 g1 hv
     rw[ho];exact⟨_,rfl⟩
    ·rw[k1 g1 (by omega)]
     by_cases h0:0<Kr rs
     ·exact j3 h0 g1 (by omega)
     ·omega
   ·obtain⟨o,ho⟩:=k3 g1 (by omega)
    rw[ho];exact⟨_,rfl⟩
def A9 (x:Cx) (hd:Bool) (l2 l3 l4:Int):Except (Nat×Int) Nd:=
 if dOk x.a x.q=false then .error (0,1)else if lOk x.dep x.nod l2 l3 l4=false then .error (0,1)else if l2<x.s.length then .error (0,10)else if A7 x.s≠x.s.length then .error (A7 x.s,5)
 else match DI x hd (x.s.length+1) [] 0 1 [] 0 with
  | .error e=> .error e
  | .ok rs=> .ok (.mk 1 [] [] rs [])
def pN:Except (Nat×Int) Nd->Nd | .ok n=>n | .error _=> .mk 0 [] [] [] []
def pO:Except (Nat×Int) Nd->Int | .ok _=>0 | .error e=>e.1
def pE:Except (Nat×Int) Nd->Int | .ok _=>0 | .error e=>e.2
theorem Pg (x:Cx) (hdr:Bool) (n:Nat) (acc:List Nd) (i:Nat) (v:Int) (ns:List B8) (wid:Int):DI x hdr (n+1) acc i v ns wid=
  if x.s.length<=i then .ok acc else match GI x (!acc.isEmpty) wid (hdr&&acc.isEmpty) i v ns with
   | .error e=> .error e
   | .ok (i',v',ns',r,wid')=>DI x hdr n (acc++[r]) i' v' ns' wid':=by
 simp only[DI,bind,Except.bind]
 by_cases h:x.s.length<=i
 ·rw[if_pos h,if_pos h]
 ·rw[if_neg h,if_neg h]
  rcases GI x (!acc.isEmpty) wid (hdr&&acc.isEmpty) i v ns with e | ⟨i',v',ns',r,wid'⟩<;>rfl
theorem Ua {x:Cx} {num hd:Bool} {wid:Int} {i:Nat} {v:Int} {ns:List B8} {i':Nat} {v':Int} {ns':List B8} {r:Nd} {wid':Int} (hi:i<x.s.length)
  (h:GI x num wid hd i v ns= .ok (i',v',ns',r,wid')):i<i'/\i'<=x.s.length/\v<=v'/\v'<=v+3*(i'-i:Nat)/\1<=wid':=by
 obtain⟨ks,e,m,rfl,rfl,k2,k3,k4,k5,k6,k7⟩:=MT (by omega) h
 have hle:=k2.le (by omega)
 have hpos:1<=e+m-i:=by
  have:=(FE (by omega) hle.2.2.2.2).2.1
  rcases Nat.eq_zero_or_pos m with h0 | h0
  ·have:=this h0;omega
  ·omega
 cases hd<;>simp at k3<;>omega
theorem OI {x:Cx} {hd ty:Bool} {l2 l3 l4:Int} {st:St} {K:Int->B8->B8->TV->B8->Int->Int->St->Prop} (hl:x.s.length<=2000000)
  (hk:∀k kv st',Ay st st'->NdC (pN (A9 x hd l2 l3 l4)) [.int .i64 k,.str [],.str [],kv,.str []]->K k [] [] kv [] (pO (A9 x hd l2 l3 l4)) (pE (A9 x hd l2 l3 l4)) st'):
  Ae PR DQ [.str x.s,.agg [.int .u8 x.a,.int .u8 x.q,.bool hd,.bool ty],.agg [.int .i64 x.dep,.int .i64 x.nod,.int .i64 l2,.int .i64 l3,.int .i64 l4]] [.agg [.int .i64,.str,.str,.tv,.str],.one (.int .i64),.one (.int .i64)] st K:=by
 generalize hP:A9 x hd l2 l3 l4=P at hk
 unfold A9 at hP
 have hnil:NdC (.mk 0 [] [] [] []) [.int .i64 0,.str [],.str [],.nilSlice,.str []]:=by unfold NdC;exact⟨_,[],rfl,.inl ⟨rfl,rfl,rfl⟩,BD.nil⟩
 have bad:∀(o:Nat) (e:Int) st',P= .error (o,e)->Ay st st'->K 0 [] [] .nilSlice [] o e st':=fun o e st' h he=>by
  have:=hk 0 .nilSlice st' he (by rw[h];exact hnil)
  rwa [h]at this
 refine Ms x.s x.a x.q hd ty x.dep x.nod l2 l3 l4 st K (Pd (Au (fun g=>?_) fun g=>?_))
 ·have g:dOk x.a x.q=false:=by simpa using g
  rw[if_pos g]at hP
  exact bad _ _ st hP.symm (Ay.refl _)
 have g:dOk x.a x.q=true:=by simpa using g
 rw[if_neg (by rw[g];decide)]at hP
 refine M5 (Au (fun g=>?_) fun g=>?_)
 ·have g:lOk x.dep x.nod l2 l3 l4=false:=by simpa using g
  rw[if_pos g]at hP
  exact bad _ _ st hP.symm (Ay.refl _)
 have g:lOk x.dep x.nod l2 l3 l4=true:=by simpa using g
 rw[if_neg (by rw[g];decide)]at hP
 refine Ac (fun g=>?_) fun g=>?_
 ·rw[if_pos g]at hP
  exact bad _ _ st hP.symm (Ay.refl _)
 rw[if_neg g]at hP
 refine S9 hl (Ac (fun g=>?_) fun g=>?_)
 ·have h2:A7 x.s≠x.s.length:=fun h=>by rw[if_pos h]at g;omega
  rw[if_neg h2]
  rw[if_pos h2]at hP
  exact bad _ _ st hP.symm (Ay.refl _)
 have h2:A7 x.s=x.s.length:=Decidable.byContradiction fun h=>by rw[if_neg h]at g;omega
 rw[if_neg (by rw[h2];simp)]at hP
 refine Aa rfl ?_
 obtain⟨m,hm⟩:∃m,m=st.nb:=⟨_,rfl⟩
 obtain⟨p,hp⟩:∃p,p=(st.push (.map []) none).nb:=⟨_,rfl⟩
 rw[<-hm,<-hp]
 have hpm:p=m+1:=by rw[hp,hm];rfl
 obtain⟨sa,hsa⟩:∃sa,sa=st.push (.map []) none:=⟨_,rfl⟩
 rw[<-hsa]at hp⊢
 obtain⟨sb,hsb⟩:∃sb,sb=sa.push (.cells (pcl x hd ty l2 l3 l4 m 0 1 0 0 0)) (some 180):=⟨_,rfl⟩
 have e0:Ay st sb:=by rw[hsb,hsa];exact((Ay.refl st).push _ _).push _ _
 have k0:PSD p m x hd ty l2 l3 l4 [] 0 1 0 0 0 sb:=by
  refine⟨by omega,by rw[hsb,hp];simp[St.push],by rw[hsb,hsa,hm];simp[St.push];omega,by rw[hsb,hp];exact Ir _ _ _,[],?_,fun t=>by simp[Cn]⟩
  rw[hsb,hsa,hm]
  simp[St.push]
 have lim:∀st',StX (PM p m) sb st'->Ay st st':=fun st' h=>StX.ext e0 h fun i hi=>by rcases hi with h | h<;>omega
 refine⟨fun s' p' kd le tx kv tl st'=>x.s=s'/\TV.box p 0=p'/\1=kd/\[]=le/\[]=tx/\[]=tl/\∃(j n:Nat) (acc:List Nd) (v w:Int) (ns:List B8) (xs:List TV),StX (PM p m) sb st'/\PSD p m x hd ty l2 l3 l4 ns j v w 0 0 st'/\
   Own sb.nt 5 st' kv acc.length xs/\BD acc xs/\j<=x.s.length/\x.s.length<j+n/\acc.length<=j/\0<=v/\v<=1+3*j/\(match DI x hd n acc j v ns w with | .error e=> .error e | .ok rs=> .ok (.mk 1 [] [] rs []))=P,
  fun _ _ _ _ _ _ _ st'=>(x.s.length-LN st' p 10).toNat,⟨rfl,rfl,rfl,rfl,rfl,rfl,0,x.s.length+1,[],1,0,[],[],hsb▸StX.refl _ _,hsb▸k0,Own.nil _ _ _,BD.nil,by omega,by omega,by simp,by omega,by omega,hP⟩,?_⟩
 rintro _ _ _ _ _ kv _ st3 ⟨rfl,rfl,rfl,rfl,rfl,rfl,j,n,acc,v,w,ns,xs,f3,k3,o3,hx,hj,hjn,hac,hv0,hv,hE⟩
 have b3:=k3.bx
 cases n with
 | zero=>omega
 | succ n=>
 rw[Pg]at hE
 repeat' first
  | (guard_target=~need _ _;refine Aa rfl ?_)
  | (guard_target=~Af (Ab _ _ _ _) _;refine Ad (ldB b3 rfl) ?_)
  | (guard_target=~Ah (.int _) _ _;refine At ?_)
  | (guard_target=~Ah .str _ _;refine Al ?_)
  | (guard_target=~Ah .bool _ _;refine Aq ?_)
 refine Ac (fun q=>Aa o3.rd.isSl ?_) fun q=>?_
 ·rw[if_neg (by omega)]at hE
  rw[o3.rd.lenS]
  have hN1:decide (((acc.length:Nat):Int)≠0)= !acc.isEmpty:=by
   cases acc with
   | nil=>rfl
   | cons a l=>exact decide_eq_true (by simp only[List.length_cons];omega)
  have hN2:(decide (((acc.length:Nat):Int)=0)&&hd)=(hd&&acc.isEmpty):=by
   cases acc with
   | nil=>cases hd<;>rfl
   | cons a l=>rw[decide_eq_false (by simp only[List.length_cons];omega)];cases hd<;>rfl
  refine SL rfl hj hl hv0 (by omega) (by omega) k3 (fun k v1 ns1 r w1 kv1 tl st4 hr e4 k4 hc4=>?_) fun o' e' ns1 k v1 w1 kv1 tl st4 hr e4 k4 ho4=>?_
  ·rw[hN1,hN2]at hr
   rw[hr]at hE
   simp only at hE
   have hle:=Ua (by omega) hr
   have hone:Ap kv1=true:=by
    obtain⟨a,b,c,d,f⟩:=r
    unfold NdC at hc4
    obtain⟨u,ys,hu,hu2,_⟩:=hc4
    cases hu
    exact hu2.one
   refine Aa (Eb hone) (Au (fun h=>by cases h) fun _=>Aa (Eb hone) ?_)
   refine IE (f3.trans e4) (o3.extXD e4) (by omega) (fun h=>by cases h) fun v5 st5 e5 hbx hnb o5=>Aa (MY o5.rd.one) ?_
   have hlen:(acc++[r]).length=acc.length+1:=by simp
   refine⟨⟨rfl,rfl,rfl,rfl,rfl,rfl,k,n,acc++[r],v1,w1,ns1,_,e5,k4.same hbx hnb,by rw[hlen];exact o5,hx.append (BD.one hc4),by omega,by omega,by omega,by omega,by omega,hE⟩,?_⟩
   dsimp only
   rw[Dr (k4.same hbx hnb).bx rfl,Dr b3 rfl]
   omega
  ·rw[hN1,hN2]at hr
   rw[hr]at hE
   simp only at hE
   refine Aa (Eb ho4) (Au (fun _=>?_) fun h=>by cases h)
   have b4:=k4.bx
   repeat' first
    | (guard_target=~need _ _;refine Aa rfl ?_)
    | (guard_target=~Af (Ab _ _ _ _) _;refine Ad (ldB b4 rfl) ?_)
    | (guard_target=~Ah (.int _) _ _;refine At ?_)
    | (guard_target=~Ah .str _ _;refine Al ?_)
    | (guard_target=~Ah .bool _ _;refine Aq ?_)
   exact bad _ _ st4 hE.symm (lim _ (f3.trans e4))
 ·rw[if_pos (by omega)]at hE
  simp only at hE
  subst hE
  exact Aa (Eb o3.rd.one) (hk 1 kv st3 (lim _ f3) (by unfold pN NdC;exact⟨kv,xs,rfl,o3.rd,hx⟩))
theorem OS {s:B8} {i o:Nat} {c:Int} (h:Cm s i= .error (o,c)):(o=i/\c=3)∨(o=s.length/\c=4):=by
 unfold Cm at h
 repeat' split at h
 all_goals first | cases h | skip
 all_goals simp
section
theorem Sa {dep nod d:Int} {i:Nat} {v:Int} {o:Nat} {c:Int} (h:ES dep nod d i v= .error (o,c)):c≠0:=by
 unfold ES at h
 split at h
 ·cases h;decide
 split at h
 ·cases h;decide
 ·cases h
theorem Vx {a q:Int} {s:B8} {i o:Nat} {c:Int} (h:Bi a q s i= .error (o,c)):c≠0:=by
 unfold Bi at h
 split at h<;>split at h<;>cases h<;>decide
section
variable {x:Cx} {hd ty:Bool} {l2 l3 l4:Int} {st:St}
end
end
theorem chk_ent {a q:Int} {k:Nd} (h:VF a q k) {s:Int} (hs:s+3<=524288):∃s',chk k 3 s= .ok s'/\s<=s'/\s'<=s+3:=by
 obtain⟨c,mark,rfl,_,hm⟩:=h
 rcases hm with rfl | ⟨b,_,rfl⟩
 ·refine⟨s+1+1,?_,by omega,by omega⟩
  have l2:IX 2=true:=by decide
  have l5:IX 5=false:=by decide
  simp only[chk,HO,l2,l5,List.length_nil]
  rw[if_neg (by omega),if_neg (by omega),if_neg (by omega),if_neg (by simp),if_neg (by omega),if_neg (by omega),if_neg (by omega),if_neg (by simp)]
 ·refine⟨s+1+1+1,?_,by omega,by omega⟩
  have l2:IX 2=true:=by decide
  have l5:IX 5=false:=by decide
  have l11:IX 11=true:=by decide
  simp only[chk,HO,l2,l5,l11,List.length_nil]
  rw[if_neg (by omega),if_neg (by omega),if_neg (by omega),if_neg (by simp),if_neg (by omega),if_neg (by omega),if_neg (by omega),if_neg (by simp)]
  simp only
  rw[if_neg (by omega),if_neg (by omega),if_neg (by omega),if_neg (by simp)]
theorem Pp {a q:Int}:∀(ks:List Nd) (h:∀k∈ks,VF a q k) {s:Int} (hs:s+3*ks.length<=524288),∃s',HO ks 3 s= .ok s'/\s<=s'/\s'<=s+3*ks.length
 | [],h,s,hs=>⟨s,rfl,by omega,by simp⟩
 | k::ks,h,s,hs=>by
  rw[List.length_cons]at hs
  obtain⟨s1,h1,h2,h3⟩:=chk_ent (h k (List.mem_cons_self ..)) (s:=s) (by omega)
  obtain⟨s2,h4,h5,h6⟩:=Pp ks (fun k hk=>h k (List.mem_cons_of_mem _ hk)) (s:=s1) (by omega)
  refine⟨s2,?_,by omega,by rw[List.length_cons];omega⟩
  simp only[HO,h1,h4]
theorem Vw {a q:Int} {src:B8} {i:Nat} {rs:List Nd} (h:Kz a q src i rs):i<=src.length->∀{s:Int},s+7*(src.length-i:Nat)<=524288->∃s',HO rs 2 s= .ok s'/\s<=s'/\s'<=s+7*(src.length-i:Nat):=by
 induction h with
 | nil h=>intro hi s hs;exact⟨s,rfl,by omega,by omega⟩
 | @cons i e n ks rs h1 h2 h3 ih=>
  intro hi s hs
  have hle:=h2.le hi
  have hpos:1<=e+n-i:=by
   have:=(FE (by omega) hle.2.2.2.2).2.1
   rcases Nat.eq_zero_or_pos n with h0 | h0
   ·have:=this h0;omega
   ·omega
  obtain⟨s1,j1,j2,j3⟩:=Pp ks (h2.form hi) (s:=s+1) (by omega)
  obtain⟨s2,j4,j5,j6⟩:=ih (by omega) (s:=s1) (by omega)
  have l8:IX 8=false:=by decide
  refine⟨s2,?_,by omega,by omega⟩
  simp only[HO,chk,l8]
  rw[if_neg (by omega),if_neg (by omega),if_neg (by omega),if_neg (by simp)]
  simp only[Int.reduceAdd]
  rw[j1]
  exact j4
theorem OY {a q:Int}:∀(ks:List Nd) (h:∀k∈ks,VF a q k),Jt ks<=3*ks.length
 | [],h=>by simp[Jt]
 | k::ks,h=>by
  have ih:=OY ks fun k hk=>h k (List.mem_cons_of_mem _ hk)
  obtain⟨c,mark,rfl,_,hm⟩:=h k (List.mem_cons_self ..)
  rcases hm with rfl | ⟨b,_,rfl⟩<;>simp only[Jt,EI,List.length_cons]<;>omega
theorem OX {a q:Int} {src:B8} {i:Nat} {rs:List Nd} (h:Kz a q src i rs):i<=src.length->Jt rs<=7*(src.length-i)/\rs.length<=src.length-i:=by
 induction h with
 | nil h=>intro hi;simp[Jt]
 | @cons i e n ks rs h1 h2 h3 ih=>
  intro hi
  have hle:=h2.le hi
  have hpos:1<=e+n-i:=by
   have:=(FE (by omega) hle.2.2.2.2).2.1
   rcases Nat.eq_zero_or_pos n with h0 | h0
   ·have:=this h0;omega
   ·omega
  have:=OY ks (h2.form hi)
  have ih:=ih (by omega)
  simp only[Jt,EI,List.length_cons]
  omega
theorem BP {x:Cx} {hd:Bool} {l2 l3 l4:Int} {n:Nd} (h:A9 x hd l2 l3 l4= .ok n):∃rs,n= .mk 1 [] [] rs []/\dOk x.a x.q=true/\lOk x.dep x.nod l2 l3 l4=true/\(x.s.length:Int)<=l2/\A7 x.s=x.s.length/\DI x hd (x.s.length+1) [] 0 1 [] 0= .ok rs/\
  Kz x.a x.q x.s 0 rs/\(∀r∈rs,∀k∈AA r,(txt x.q (A2 k)).length<=65536)/\(∃W:Int,∀r∈rs,((AA r).length:Int)=W):=by
 unfold A9 at h
 split at h
 ·cases h
 rename_i h1
 split at h
 ·cases h
 rename_i h2
 split at h
 ·cases h
 rename_i h3
 split at h
 ·cases h
 rename_i h4
 split at h
 ·cases h
 rename_i rs hr
 cases h
 obtain⟨rs',j1,j2,j3,⟨W,j4,j5⟩,j6⟩:=NF _ (by omega) hr
 rw[List.nil_append]at j1
 subst j1
 exact⟨_,rfl,by simpa using h1,by simpa using h2,by omega,Decidable.not_not.1 h4,hr,j2,j3,W,j5⟩
abbrev xU (s:B8) (a q:Int):Cx:=⟨s,a,q,48,65536⟩
abbrev P2 (s:B8) (a q:Int) (hd:Bool):Except (Nat×Int) Nd:=A9 (xU s a q) hd 1048576 1024 65536
def Hw (n:Nd) (a q:Int) (hd:Bool):Prop:=Ku n=0/\P2 (De n) a q hd= .ok n
theorem NP {n:Nd} (h:Ku n=0):DX n<=1048576:=by
 unfold Ku at h
 split at h
 ·rename_i e he;exact absurd h (Hm n he)
 ·split at h
  ·cases h
  ·omega
theorem Wa {x:Cx} {hd:Bool} {l2 l3 l4:Int} (hl:x.s.length<=2000000):EI (pN (A9 x hd l2 l3 l4))<=1000000000000000:=by
 cases h:A9 x hd l2 l3 l4 with
 | error e=>simp[pN,EI,Jt]
 | ok n=>
  obtain⟨rs,rfl,_,_,_,_,_,hr,_⟩:=BP h
  have:=(OX hr (by omega)).1
  simp only[pN,EI];omega
theorem NdC.five {n:Nd} {cs:List TV} (h:NdC n cs):∃k l t v tl,cs=[.int .i64 k,.str l,.str t,v,.str tl]/\Ap v=true:=by
 cases n
 unfold NdC at h
 obtain⟨v,xs,rfl,hr,_⟩:=h
 exact⟨_,_,_,v,_,rfl,hr.one⟩
theorem Vd {st:St} {K:Int->Int->Int->Int->Int->St->Prop} (hk:K 48 65536 1048576 1024 65536 st):Ae PR FH [] [.agg [.int .i64,.int .i64,.int .i64,.int .i64,.int .i64]] st K:=Mq st K hk
theorem Ue {n:Nd} {cs:List TV} {a q:Int} {hd ty:Bool} (hc:NdC n cs) (hl:DX n<=100000000000000) (hcn:EI n<=1000000000000000) {st:St} {K:Bool->St->Prop}
  (hk1:∀st',Ay st st'->Hw n a q hd->K true st') (hk2:∀st',Ay st st'->¬Hw n a q hd->K false st'):
  Ae PR En [.agg cs,.agg [.int .u8 a,.int .u8 q,.bool hd,.bool ty]] [.one .bool] st K:=by
 obtain⟨k,l,t,v,tl,rfl,_⟩:=hc.five
 refine Oi k l t v tl a q hd ty st K (UO hc (by omega) hcn fun st1 e1=>Ac (fun g=>hk2 st1 e1 fun h=>g h.1) fun g=>?_)
 have g:Ku n=0:=Decidable.not_not.1 g
 have hlen:=NP g
 have htl:=Ec n
 refine UK hc hl hcn fun st2 e2=>Vd ?_
 refine OI (x:=xU (De n) a q) (by show(De n).length<=_;omega) fun kd kv st3 e3 hn=>?_
 have e13:=(e1.trans e2).trans e3
 obtain⟨_,_,_,_,_,h5,ho⟩:=hn.five
 cases h5
 refine Aa (Eb ho) (Ac (fun g2=>?_) fun g2=>?_)
 ·refine QQ _ _ hn hc (Wa (by show(De n).length<=_;omega)) (fun he=>hk1 _ e13 ⟨g,?_⟩) fun he=>hk2 _ e13 fun h=>he ?_
  ·show A9 _ _ _ _ _=_
   revert he g2
   cases hp:A9 (xU (De n) a q) hd 1048576 1024 65536 with
   | error e=>
    intro _ he
    simp only[pN]at he
    rw[<-he]at g
    exact absurd g (by decide)
   | ok m=>intro _ he;simp only[pN]at he;rw[he]
  ·rw[show A9 (xU (De n) a q) hd 1048576 1024 65536= .ok n from h.2];rfl
 ·refine hk2 _ e13 fun h=>g2 ?_
  rw[show A9 (xU (De n) a q) hd 1048576 1024 65536= .ok n from h.2];rfl
def Ky {α:Type} (f:α->TV) (v:TV) (row:List α):Prop:=Rd 1 v row.length (row.map f)
def GW {α:Type} (f:α->TV) (v:TV) (rows:List (List α)):Prop:=∃vs:List TV,Rd 1 v rows.length vs/\vs.length=rows.length/\∀(i:Nat) (u:TV) (row:List α),vs[i]? =some u->rows[i]? =some row->Ky f u row
theorem Ky.ld {α:Type} {f:α->TV} {v:TV} {row:List α} (h:Ky f v row) (st:St) {i:Nat} {a:α} (ha:row[i]? =some a):Ab st [] (.t (ixT 1 v i)) 0=some (f a):=
 Rd.ldx h st i 0 (by rw[Nat.mul_one,Nat.add_zero,List.getElem?_map,ha];rfl)
theorem GW.rd {α:Type} {f:α->TV} {v:TV} {rows:List (List α)} (h:GW f v rows):∃vs,Rd 1 v rows.length vs:=by obtain⟨vs,h1,_⟩:=h;exact⟨vs,h1⟩
theorem GW.nil {α:Type} (f:α->TV):GW f .nilSlice []:=⟨[],.inl ⟨rfl,rfl,rfl⟩,rfl,fun i u row h=>by simp at h⟩
def Gc {α:Type} (f:α->TV) (b:Nat) (st:St) (v:TV) (rows:List (List α)):Prop:=∃vs:List TV,Own b 1 st v rows.length vs/\vs.length=rows.length/\∀(i:Nat) (u:TV) (row:List α),vs[i]? =some u->rows[i]? =some row->Ky f u row
theorem Gc.rd {α:Type} {f:α->TV} {b:Nat} {st:St} {v:TV} {rows:List (List α)} (h:Gc f b st v rows):GW f v rows:=by
 obtain⟨vs,h1,h2,h3⟩:=h;exact⟨vs,h1.rd,h2,h3⟩
def DW {α:Type} (g:B8->α) (rs:List Nd):List (List α):=rs.map fun r=>(AA r).map fun k=>g (A2 k)
theorem WK {a q:Int} {k:Nd} (hk:VF a q k) {cs:List TV} (hc:NdC k cs):∃u ys,cs=[.int .i64 5,.str [],.str [],u,.str []]/\Rd 5 u (AA k).length ys/\0<(AA k).length/\(∀st,Ab st [] (.t (Ag (ixT 5 u 0) 2)) 0=some (.str (A2 k)))/\isPtr (ixT 5 u 0)=true:=by
 obtain⟨c,mark,rfl,_,_⟩:=hk
 unfold NdC at hc
 obtain⟨u,ys,rfl,h1,h2⟩:=hc
 refine⟨u,ys,rfl,h1,by simp[AA],fun st=>?_,?_⟩
 ·obtain⟨cs,h3,h4⟩:=h2.get (i:=0) rfl
  unfold NdC at h3
  obtain⟨w,zs,rfl,_⟩:=h3
  exact h1.ldfx st 0 2 (h4 2 _ rfl)
 ·rcases h1 with⟨rfl,h,_⟩ | ⟨tip,rfl⟩
  ·simp at h
  ·rfl
theorem Mf {v:TV} {ks:List Nd} {xs:List TV} (hr:Rd 5 v ks.length xs) (hk:BD ks xs) (st:St) {i:Nat} {k:Nd} (hi:ks[i]? =some k):
  ∃cs,NdC k cs/\(Aj st [] (.t (ixT 5 v i)) 0 5).map TV.agg=some (.agg cs):=by
 obtain⟨a,b,c,d,e⟩:=k
 obtain⟨u,ys,h1,h2,h3,h4⟩:=La hr hk st hi
 exact⟨_,by unfold NdC;exact⟨u,ys,rfl,h2,h3⟩,h1⟩
section
def H8:Nd->List Nd | .mk _ _ _ ks _=>ks
def Bd (q:Int) (c:B8):Bool:=decide (¬(c=[]∨by_ c 0≠q))
open Classical in
noncomputable def F9 {α:Type} (g:B8->α) (n:Nd) (a q:Int) (hd:Bool):List (List α):=if Hw n a q hd then DW g (H8 n)else []
open Classical in
noncomputable def IU (n:Nd) (a q:Int) (hd:Bool):Int:=if Hw n a q hd then 0 else 1
theorem Rr {n:Nd} {a q:Int} {hd:Bool} (h:Hw n a q hd):∃rs,n= .mk 1 [] [] rs []/\(∀r∈rs,RecF a q r)/\DX n<=1048576/\rs.length<=DX n/\∀r∈rs,(AA r).length<=10000000/\∀k∈AA r,(A2 k).length<=1048576:=by
 obtain⟨rs,rfl,_,_,_,_,_,hr,_⟩:=BP h.2
 have hn:=Ec (.mk 1 [] [] rs [])
 have hlen:=NP h.1
 have hkc:=OX hr (Nat.zero_le _)
 have hs0:(xU (De (.mk 1 [] [] rs [])) a q).s.length=DX (.mk 1 [] [] rs []):=hn
 rw[hs0]at hkc
 refine⟨rs,rfl,hr.form (Nat.zero_le _),hlen,by have:=hkc.2;omega,fun r hr1=>?_⟩
 obtain⟨i,hi⟩:=List.getElem?_of_mem hr1
 have h1:=GP rs hi
 have h2:=Kg rs i r hi
 obtain⟨a1,b1,c1,ks,e1⟩:=r
 have h3:=GQ ks
 simp only[EI,DX,AA]at h1 h2⊢
 have hk1:=hkc.1
 simp only[DX]at hlen hk1
 refine⟨by omega,fun k hk=>?_⟩
 obtain⟨j,hj⟩:=List.getElem?_of_mem hk
 have h4:=Kg ks j k hj
 have h5:(A2 k).length<=DX k:=by
  obtain⟨a2,b2,c2,js,e2⟩:=k
  cases js with
  | nil=>simp[A2,AA]
  | cons y ys=>
   obtain⟨a3,b3,c3,zs,e3⟩:=y
   simp only[A2,AA,DX,GO];omega
 omega
section
variable {n:Nd} {cs:List TV} {a q:Int} {hd ty:Bool} {st:St}
theorem Gc.add {α:Type} {f:α->TV} {T by_:Nat} {st0 st:St} {v u:TV} {rows:List (List α)} {row:List α} {K:TV->St->Prop} (e:Ay st0 st) (h:Gc f st0.nt st v rows) (hu:Ky f u row) (hby:(rows.length+1)*by_<=140737488355328)
  (hk:∀v' st',Ay st0 st'->Gc f st0.nt st' v' (rows++[row])->K v' st'):AF T 1 by_ v 1 [u] st K:=by
 obtain⟨vs,h1,h2,h3⟩:=h
 refine FR e rfl h1 hby (fun h=>by cases h) fun v' st' e' _ ho=>hk v' st' e' ⟨vs++[u],by rw[List.length_append];exact ho,by simp[h2],fun i u' row' hi hr=>?_⟩
 by_cases hlt:i<vs.length
 ·rw[List.getElem?_append_left hlt]at hi
  rw[List.getElem?_append_left (by omega)]at hr
  exact h3 i u' row' hi hr
 ·rw[List.getElem?_append_right (by omega)]at hi
  rw[List.getElem?_append_right (by omega)]at hr
  have h0:i-vs.length=0:=by
   have:=(List.getElem?_eq_some_iff.1 hi).1
   simp at this;omega
  rw[h0]at hi
  rw[show i-rows.length=0 by omega]at hr
  simp only[List.getElem?_cons_zero,Option.some.injEq]at hi hr
  subst hi hr;exact hu
theorem Gc.ext {α:Type} {f:α->TV} {b:Nat} {st st':St} {v:TV} {rows:List (List α)} (h:Gc f b st v rows) (e:Ay st st'):Gc f b st' v rows:=by
 obtain⟨vs,h1,h2,h3⟩:=h;exact⟨vs,h1.ext e,h2,h3⟩
theorem Gc.nil {α:Type} (f:α->TV) (b:Nat) (st:St):Gc f b st .nilSlice []:=⟨[],Own.nil _ _ _,rfl,fun i u row h=>by simp at h⟩
theorem Ro {K:TV->Int->St->Prop} (hc:NdC n cs) (hl:DX n<=100000000000000) (hcn:EI n<=1000000000000000)
  (hk:∀v st',Ay st st'->GW TV.str v (F9 (txt q) n a q hd)->K v (IU n a q hd) st'):
  Ae PR Eg [.agg cs,.agg [.int .u8 a,.int .u8 q,.bool hd,.bool ty]] [.one .tv,.one (.int .i64)] st K:=by
 have tn:∀k:Nat,Int.toNat (k:Int)=k:=fun k=>rfl
 have w1:∀k:Nat,k<=100000000->i64.wrap ((k:Int)+1)=((k+1:Nat):Int):=fun k hk=>by rw[As _ (by omega) (by omega)];omega
 have hc0:=hc
 obtain⟨k,l,t,ks,tl⟩:=n
 unfold NdC at hc
 obtain⟨v,xs,rfl,hr,hx⟩:=hc
 refine KH k l t v tl a q hd ty st K (Ue hc0 hl hcn (fun st1 e1 ho=>?_) fun st1 e1 ho=>?_)
 case' refine_2=>
  refine Au (fun _=>?_) fun h=>by cases h
  have:=hk .nilSlice st1 e1 (by unfold F9;rw[if_neg ho];exact GW.nil _)
  unfold IU at this
  rwa [if_neg ho]at this
 refine Au (fun h=>by cases h) fun _=>Aa hr.isSl ?_
 have hfin:∀v st',Ay st st'->GW TV.str v (DW (txt q) ks)->K v 0 st':=fun v st' e h=>by
  have:=hk v st' e (by unfold F9;rw[if_pos ho];exact h)
  unfold IU at this
  rwa [if_pos ho]at this
 obtain⟨rs,hn,hform,hlen,hrl,hkl⟩:=Rr ho
 cases hn
 rw[hr.lenS]
 refine⟨fun out i v' n' a' q' b1 b2 st'=>v=v'/\(ks.length:Int)=n'/\a=a'/\q=q'/\hd=b1/\ty=b2/\Ay st st'/\∃j:Nat,i=(j:Int)/\j<=ks.length/\Gc TV.str st.nt st' out (DW (txt q) (ks.take j)),
  fun _ i _ _ _ _ _ _ _=>(ks.length-i).toNat,⟨rfl,rfl,rfl,rfl,rfl,rfl,e1,0,rfl,by omega,by rw[List.take_zero];exact Gc.nil _ _ _⟩,?_⟩
 rintro out _ _ _ _ _ _ _ st2 ⟨rfl,rfl,rfl,rfl,rfl,rfl,e2,j,rfl,hj,hg⟩
 rw[hr.lenZ,tn]
 refine Ac (fun g=>?_) fun g=>?_
 case' refine_2=>
  rw[List.take_of_length_le (by omega)]at hg
  exact hfin _ _ e2 hg.rd
 have hlt:j<ks.length:=by omega
 have hget:=List.getElem?_eq_getElem hlt
 generalize ks[j]=r at hget
 have hrf:=hform r (Bs hget)
 have hrk:=hkl r (Bs hget)
 obtain⟨ents,tail,rfl,hne,hents⟩:=hrf
 obtain⟨rc,hrc,hld⟩:=Mf hr hx st2 hget
 unfold NdC at hrc
 obtain⟨u,ys,rfl,hu,hy⟩:=hrc
 refine⟨⟨by omega,by omega⟩,Ad hld (Ip (Aa (Eb hu.one) (Aa hu.isSl ?_)))⟩
 rw[hu.lenS]
 simp only[AA]at hrk
 refine⟨fun li m out' v' n' i' u' m' a' q' b1 b2 st'=>out=out'/\v=v'/\(ks.length:Int)=n'/\(j:Int)=i'/\u=u'/\(ents.length:Int)=m'/\a=a'/\q=q'/\hd=b1/\ty=b2/\Ay st2 st'/\∃p:Nat,m=(p:Int)/\p<=ents.length/\Own st2.nt 1 st' li p (((ents.take p).map fun k=>txt q (A2 k)).map TV.str),
  fun _ m _ _ _ _ _ _ _ _ _ _ _=>(ents.length-m).toNat,⟨rfl,rfl,rfl,rfl,rfl,rfl,rfl,rfl,rfl,rfl,Ay.refl _,0,rfl,by omega,Own.nil _ _ _⟩,?_⟩
 rintro li _ _ _ _ _ _ _ _ _ _ _ st3 ⟨rfl,rfl,rfl,rfl,rfl,rfl,rfl,rfl,rfl,rfl,e3,p,rfl,hp,hli⟩
 rw[hu.lenZ,tn]
 refine Ac (fun g2=>?_) fun g2=>?_
 ·have hlt2:p<ents.length:=by omega
  have hget2:=List.getElem?_eq_getElem hlt2
  generalize ents[p]=en at hget2
  have hef:=hents en (Bs hget2)
  obtain⟨ec,hec,hld2⟩:=Mf hu hy st3 hget2
  obtain⟨w,zs,rfl,hw,hpos,hwl,hwp⟩:=WK hef hec
  refine⟨⟨by omega,by omega⟩,Ad hld2 (Ip (Aa (Eb hw.one) ?_))⟩
  rw[hw.lenZ]
  refine⟨⟨by omega,by omega⟩,Aa hwp (Ad (hwl _) (Al ?_))⟩
  have hcl:=hrk.2 en (Bs hget2)
  have hcw:Jg q (A2 en):=by
   obtain⟨c,mark,rfl,hcw,_⟩:=hef
   exact hcw
  refine MC hcw (by omega) fun st4 e4=>?_
  refine FR (e3.trans e4) rfl (hli.ext e4) (by omega) (fun h=>by cases h) fun v5 st5 e5 _ o5=>?_
  rw[w1 p (by omega)]
  refine⟨⟨rfl,rfl,rfl,rfl,rfl,rfl,rfl,rfl,rfl,rfl,e5,p+1,rfl,by omega,?_⟩,by dsimp only;omega⟩
  rw[List.take_add_one,hget2]
  simpa using o5
 ·have hpe:p=ents.length:=by omega
  rw[hpe,List.take_of_length_le (by omega)]at hli
  refine Aa (MY hli.rd.one) (Aa (MY hli.rd.one) ?_)
  refine(hg.ext e3).add (e2.trans e3) (row:=ents.map fun k=>txt q (A2 k)) (by unfold Ky;rw[List.length_map];exact hli.rd) (by simp only[DW,List.length_map,List.length_take];omega) fun v' st' e' hg'=>?_
  rw[w1 j (by omega)]
  refine⟨⟨rfl,rfl,rfl,rfl,rfl,rfl,e',j+1,rfl,by omega,?_⟩,by dsimp only;omega⟩
  rw[List.take_add_one,hget]
  simpa [DW,AA]using hg'
end
end
section
section
variable {n:Nd} {cs:List TV} {a q:Int} {hd ty:Bool} {st:St}
theorem SM {K:TV->Int->St->Prop} (hc:NdC n cs) (hl:DX n<=100000000000000) (hcn:EI n<=1000000000000000)
  (hk:∀v st',Ay st st'->GW TV.bool v (F9 (Bd q) n a q hd)->K v (IU n a q hd) st'):
  Ae PR EM [.agg cs,.agg [.int .u8 a,.int .u8 q,.bool hd,.bool ty]] [.one .tv,.one (.int .i64)] st K:=by
 have tn:∀k:Nat,Int.toNat (k:Int)=k:=fun k=>rfl
 have w1:∀k:Nat,k<=100000000->i64.wrap ((k:Int)+1)=((k+1:Nat):Int):=fun k hk=>by rw[As _ (by omega) (by omega)];omega
 have hc0:=hc
 obtain⟨k,l,t,ks,tl⟩:=n
 unfold NdC at hc
 obtain⟨v,xs,rfl,hr,hx⟩:=hc
 refine LY k l t v tl a q hd ty st K (Ue hc0 hl hcn (fun st1 e1 ho=>?_) fun st1 e1 ho=>?_)
 case' refine_2=>
  refine Au (fun _=>?_) fun h=>by cases h
  have:=hk .nilSlice st1 e1 (by unfold F9;rw[if_neg ho];exact GW.nil _)
  unfold IU at this
  rwa [if_neg ho]at this
 refine Au (fun h=>by cases h) fun _=>Aa hr.isSl ?_
 have hfin:∀v st',Ay st st'->GW TV.bool v (DW (Bd q) ks)->K v 0 st':=fun v st' e h=>by
  have:=hk v st' e (by unfold F9;rw[if_pos ho];exact h)
  unfold IU at this
  rwa [if_pos ho]at this
 obtain⟨rs,hn,hform,hlen,hrl,hkl⟩:=Rr ho
 cases hn
 rw[hr.lenS]
 refine⟨fun out i v' n' a' q' b1 b2 st'=>v=v'/\(ks.length:Int)=n'/\a=a'/\q=q'/\hd=b1/\ty=b2/\Ay st st'/\∃j:Nat,i=(j:Int)/\j<=ks.length/\Gc TV.bool st.nt st' out (DW (Bd q) (ks.take j)),
  fun _ i _ _ _ _ _ _ _=>(ks.length-i).toNat,⟨rfl,rfl,rfl,rfl,rfl,rfl,e1,0,rfl,by omega,by rw[List.take_zero];exact Gc.nil _ _ _⟩,?_⟩
 rintro out _ _ _ _ _ _ _ st2 ⟨rfl,rfl,rfl,rfl,rfl,rfl,e2,j,rfl,hj,hg⟩
 rw[hr.lenZ,tn]
 refine Ac (fun g=>?_) fun g=>?_
 case' refine_2=>
  rw[List.take_of_length_le (by omega)]at hg
  exact hfin _ _ e2 hg.rd
 have hlt:j<ks.length:=by omega
 have hget:=List.getElem?_eq_getElem hlt
 generalize ks[j]=r at hget
 have hrf:=hform r (Bs hget)
 have hrk:=hkl r (Bs hget)
 obtain⟨ents,tail,rfl,hne,hents⟩:=hrf
 obtain⟨rc,hrc,hld⟩:=Mf hr hx st2 hget
 unfold NdC at hrc
 obtain⟨u,ys,rfl,hu,hy⟩:=hrc
 refine⟨⟨by omega,by omega⟩,Ad hld (Ip (Aa (Eb hu.one) (Aa hu.isSl ?_)))⟩
 rw[hu.lenS]
 simp only[AA]at hrk
 refine⟨fun li m out' v' n' i' u' m' a' q' b1 b2 st'=>out=out'/\v=v'/\(ks.length:Int)=n'/\(j:Int)=i'/\u=u'/\(ents.length:Int)=m'/\a=a'/\q=q'/\hd=b1/\ty=b2/\Ay st2 st'/\∃p:Nat,m=(p:Int)/\p<=ents.length/\Own st2.nt 1 st' li p (((ents.take p).map fun k=>Bd q (A2 k)).map TV.bool),
  fun _ m _ _ _ _ _ _ _ _ _ _ _=>(ents.length-m).toNat,⟨rfl,rfl,rfl,rfl,rfl,rfl,rfl,rfl,rfl,rfl,Ay.refl _,0,rfl,by omega,Own.nil _ _ _⟩,?_⟩
 rintro li _ _ _ _ _ _ _ _ _ _ _ st3 ⟨rfl,rfl,rfl,rfl,rfl,rfl,rfl,rfl,rfl,rfl,e3,p,rfl,hp,hli⟩
 rw[hu.lenZ,tn]
 refine Ac (fun g2=>?_) fun g2=>?_
 ·have hlt2:p<ents.length:=by omega
  have hget2:=List.getElem?_eq_getElem hlt2
  generalize ents[p]=en at hget2
  have hef:=hents en (Bs hget2)
  obtain⟨ec,hec,hld2⟩:=Mf hu hy st3 hget2
  obtain⟨w,zs,rfl,hw,hpos,hwl,hwp⟩:=WK hef hec
  refine⟨⟨by omega,by omega⟩,Ad hld2 (Ip (Aa (Eb hw.one) ?_))⟩
  rw[hw.lenZ]
  refine⟨⟨by omega,by omega⟩,Aa hwp (Ad (hwl _) (Al ?_))⟩
  have hcl:=hrk.2 en (Bs hget2)
  have hcw:Jg q (A2 en):=by
   obtain⟨c,mark,rfl,hcw,_⟩:=hef
   exact hcw
  refine MC hcw (by omega) fun st4 e4=>?_
  rw[show decide (¬(A2 en=[]∨by_ (A2 en) 0≠q))=Bd q (A2 en)from rfl]
  refine FR (e3.trans e4) rfl (hli.ext e4) (by omega) (fun h=>by cases h) fun v5 st5 e5 _ o5=>?_
  rw[w1 p (by omega)]
  refine⟨⟨rfl,rfl,rfl,rfl,rfl,rfl,rfl,rfl,rfl,rfl,e5,p+1,rfl,by omega,?_⟩,by dsimp only;omega⟩
  rw[List.take_add_one,hget2]
  simpa using o5
 ·have hpe:p=ents.length:=by omega
  rw[hpe,List.take_of_length_le (by omega)]at hli
  refine Aa (MY hli.rd.one) (Aa (MY hli.rd.one) ?_)
  refine(hg.ext e3).add (e2.trans e3) (row:=ents.map fun k=>Bd q (A2 k)) (by unfold Ky;rw[List.length_map];exact hli.rd) (by simp only[DW,List.length_map,List.length_take];omega) fun v' st' e' hg'=>?_
  rw[w1 j (by omega)]
  refine⟨⟨rfl,rfl,rfl,rfl,rfl,rfl,e',j+1,rfl,by omega,?_⟩,by dsimp only;omega⟩
  rw[List.take_add_one,hget]
  simpa [DW,AA]using hg'
end
end
section
theorem dOk_inv {a q:Int} (h:dOk a q=true):(a=9∨(32<=a/\a<=126))/\33<=q/\q<=126/\a≠q:=by
 unfold dOk at h
 exact(of_decide_eq_true h).1
section
variable {a q:Int} {hd ty:Bool} {st:St}
end
end
section
def L5 (cs:List B8):Nat:=match cs with | []=>0 | c::r=>c.length+L5 r
section
variable {a q:Int} {hd ty:Bool} {st:St}
end
end
section
def JT (l:List (List B8)):Nat:=match l with | []=>0 | r::rs=>L5 r+JT rs
def FP (l:List (List B8)):Nat:=match l with | []=>0 | r::rs=>r.length+FP rs
theorem VU {l:List (List B8)} {j:Nat} {r:List B8} (h:l[j]? =some r):L5 r<=JT l/\r.length<=FP l:=by
 induction l generalizing j with
 | nil=>simp at h
 | cons d rs ih=>
  cases j with
  | zero=>simp only[List.getElem?_cons_zero,Option.some.injEq]at h;subst h;simp[JT,FP]
  | succ j=>
   have:=ih (j:=j) (by simpa using h)
   simp only[JT,FP];omega
section
variable {a q:Int} {hd ty:Bool} {st:St}
end
end
section
theorem M6 {s:B8} {a q:Int} {hd:Bool} {n:Nd} (hl:s.length<=70000) (h:P2 s a q hd= .ok n):De n=s/\Ku n=0/\Hw n a q hd:=by
 obtain⟨rs,rfl,_,_,_,_,_,hr,_⟩:=BP h
 have ht:De (.mk 1 [] [] rs [])=s:=by
  have:=Kz.text hr (Nat.zero_le _)
  simp only[De,List.nil_append,List.append_nil]
  rw[this];rfl
 have hlen:DX (.mk 1 [] [] rs [])=s.length:=by rw[<-Ec,ht]
 have hc:Ku (.mk 1 [] [] rs [])=0:=by
  have hs0:(xU s a q).s.length=s.length:=rfl
  obtain⟨s',h1,h2,h3⟩:=Vw hr (Nat.zero_le _) (s:=1) (by rw[hs0];omega)
  have h4:chk (.mk 1 [] [] rs []) 1 0= .ok s':=by
   have l1:IX 1=false:=by decide
   simp only[chk,l1]
   rw[if_neg (by omega),if_neg (by omega),if_neg (by omega),if_neg (by simp)]
   exact h1
  unfold Ku
  rw[h4]
  simp only
  rw[if_neg (by omega)]
 exact⟨ht,hc,hc,by rw[ht];exact h⟩
theorem RD {s:B8} {i:Nat} {p:Nat×Int} (h:Cm s i= .error p):p.2≠0:=by
 obtain⟨o,c⟩:=p
 rcases OS h with h | h<;>simp[h.2]
theorem entE_ne {x:Cx} {hd:Bool} {i:Nat} {v:Int} {ns:List B8} {p:Nat×Int} (h:DY x hd i v ns= .error p):p.2≠0:=by
 have hR:∀v,NA x hd i v ns= .error p->p.2≠0:=fun v h=>by
  unfold NA at h
  split at h
  ·rename_i e he
   cases h
   exact Vx (o:=p.1) (c:=p.2) he
  ·rename_i e he
   by_cases h1:(if hd then 1024 else 65536)<(txt x.q (slc x.s i e)).length
   ·rw[if_pos h1]at h;cases h;simp
   ·by_cases h2:hd=true/\txt x.q (slc x.s i e)∈ns
    ·rw[if_neg h1,if_pos h2]at h;cases h;simp
    ·rw[if_neg h1,if_neg h2]at h;cases h
 rw[Mi]at h
 split at h
 ·exact hR v h
 ·split at h
  ·rename_i e he
   cases h
   exact Sa (o:=p.1) (c:=p.2) he
  ·exact hR _ h
theorem T9 {x:Cx} {num hd:Bool} {wid:Int}:∀(n:Nat) {acc:List Nd} {i:Nat} {v:Int} {ns:List B8} {p:Nat×Int},i<=x.s.length->x.s.length<i+n->Cb x num wid hd n acc i v ns= .error p->p.2≠0
 | 0,acc,i,v,ns,p,h1,h2,h=>by omega
 | n+1,acc,i,v,ns,p,h1,h2,h=>by
  rw[K0]at h
  split at h
  ·cases h;simp
  split at h
  ·rename_i e he;cases h;exact entE_ne he
  ·rename_i e v1 ns1 he
   have hle:=Up h1 he
   split at h
   ·exact T9 n (by omega) (by omega) h
   ·split at h
    ·rename_i e2 he2;cases h;exact RD he2
    ·cases h
theorem recD_ne {x:Cx} {num hd:Bool} {wid:Int} {i:Nat} {v:Int} {ns:List B8} {p:Nat×Int} (hi:i<=x.s.length) (h:GI x num wid hd i v ns= .error p):p.2≠0:=by
 have hK:∀v,H9 x.s num wid (Cb x num wid hd (x.s.length+1) [] i v ns)= .error p->p.2≠0:=fun v h=>by
  unfold H9 at h
  rcases hr:Cb x num wid hd (x.s.length+1) [] i v ns with e | ⟨e,v2,ns2,ks⟩
  ·rw[hr]at h;cases h;exact T9 _ hi (by omega) hr
  ·rw[hr]at h
   simp only at h
   cases hn7:Cm x.s e with
   | error e2=>rw[hn7]at h;cases h;exact RD hn7
   | ok n7=>
    rw[hn7]at h
    simp only at h
    by_cases hw:(ks.length:Int)<(if num then wid else(ks.length:Int))
    ·rw[if_pos hw]at h;cases h;simp
    ·rw[if_neg hw]at h;cases h
 rw[G5]at h
 split at h
 ·exact hK v h
 ·split at h
  ·rename_i e he;cases h;exact Sa (o:=p.1) (c:=p.2) he
  ·exact hK _ h
theorem Uu {x:Cx} {hdr:Bool}:∀(n:Nat) {acc:List Nd} {i:Nat} {v:Int} {ns:List B8} {wid:Int} {p:Nat×Int},i<=x.s.length->x.s.length<i+n->DI x hdr n acc i v ns wid= .error p->p.2≠0
 | 0,acc,i,v,ns,wid,p,h1,h2,h=>by omega
 | n+1,acc,i,v,ns,wid,p,h1,h2,h=>by
  rw[Pg]at h
  split at h
  ·cases h
  split at h
  ·rename_i e he;cases h;exact recD_ne h1 he
  ·rename_i i' v' ns' r wid' he
   have hle:=Ua (by omega) he
   exact Uu n (by omega) (by omega) h
theorem SQ {x:Cx} {hd:Bool} {l2 l3 l4:Int} {p:Nat×Int} (h:A9 x hd l2 l3 l4= .error p):p.2≠0:=by
 unfold A9 at h
 split at h
 ·cases h;simp
 split at h
 ·cases h;simp
 split at h
 ·cases h;simp
 split at h
 ·cases h;simp
 split at h
 ·rename_i e he;cases h;exact Uu _ (by omega) (by omega) he
 ·cases h
section
variable {a q:Int} {hd ty:Bool} {st:St}
end
end
section
theorem VT {cs:List B8} {c:B8} (h:c∈cs):c.length<=L5 cs:=by
 induction cs with
 | nil=>cases h
 | cons d r ih=>
  simp only[L5]
  rcases List.mem_cons.1 h with rfl | h
  ·omega
  ·have:=ih h;omega
section
variable {a q:Int} {hd ty:Bool} {st:St}
end
end
structure DlOk (a q:Int):Prop where
 a0:0<=a
 a1:a<128
 q0:0<=q
 q1:q<128
 aq:a≠q
 q10:q≠10
 q13:q≠13
 a10:a≠10
 sa:DK a=false
 sq:DK q=false
theorem dlOk {a q:Int} (h:dOk a q=true):DlOk a q:=by
 have hk:=dOk_inv h
 unfold dOk at h
 rw[decide_eq_true_eq]at h
 exact⟨by omega,by omega,by omega,by omega,by omega,by omega,by omega,by omega,h.2.1,h.2.2⟩
theorem Vo {x:Cx} {i:Nat} {v:Int} {ns:List B8} {e:Nat} {v1:Int} {ns1:List B8} (h:DY x true i v ns= .ok (e,v1,ns1)):
  txt x.q (slc x.s i e)∉ns/\ns1=txt x.q (slc x.s i e)::ns/\(txt x.q (slc x.s i e)).length<=1024:=by
 simp only[DY,if_true,true_and,bind,Except.bind]at h
 split at h
 ·cases h
 ·split at h
  ·cases h
  ·rename_i h2 h1
   split at h
   ·cases h
   ·rename_i h3
    cases h
    exact⟨h3,rfl,by omega⟩
def DM (q:Int) (ks:List Nd):List B8:=ks.map fun k=>txt q (A2 k)
theorem UW {x:Cx} {num:Bool} {wid:Int}:∀(n:Nat) {acc:List Nd} {i:Nat} {v:Int} {ns:List B8} {e:Nat} {v':Int} {ns':List B8} {out:List Nd},
  Cb x num wid true n acc i v ns= .ok (e,v',ns',out)->∃ks,out=acc++ks/\(DM x.q ks).Nodup/\∀t,t∈DM x.q ks->t.length<=1024/\t∉ns:=by
 intro n
 induction n with
 | zero=>intro acc i v ns e v' ns' out h;simp only[Cb]at h;cases h
 | succ n ih=>
  intro acc i v ns e v' ns' out h
  simp only[Cb]at h
  split at h
  ·cases h
  simp only[bind,Except.bind]at h
  split at h
  ·cases h
  rename_i p he
  obtain⟨e1,v1,ns1⟩:=p
  obtain⟨c1,c2,c3⟩:=Vo he
  simp only at h
  split at h
  ·obtain⟨ks,k1,k2,k3⟩:=ih h
   refine⟨_::ks,by rw[k1,List.append_assoc];rfl,?_,?_⟩
   ·show(txt x.q (A2 _)::DM x.q ks).Nodup
    rw[GT]
    refine List.nodup_cons.2 ⟨fun hm=>?_,k2⟩
    exact(k3 _ hm).2 (by rw[c2];exact List.mem_cons_self ..)
   ·intro t ht
    rcases List.mem_cons.1 ht with rfl | ht
    ·dsimp only;rw[GT];exact⟨c3,c1⟩
    ·exact⟨(k3 t ht).1,fun hm=>(k3 t ht).2 (by rw[c2];exact List.mem_cons_of_mem _ hm)⟩
  ·split at h
   ·cases h
   cases h
   refine⟨_,rfl,by simp[DM],fun t ht=>?_⟩
   rw[List.mem_singleton.1 ht]
   dsimp only
   rw[GT]
   exact⟨c3,c1⟩
theorem Tj {x:Cx} (n:Nat) {out:List Nd} {v:Int} {ns:List B8} {wid:Int} {i:Nat} (h:DI x true n [] i v ns wid= .ok out) (hi:i<=x.s.length):∀r,out.head? =some r->(DM x.q (AA r)).Nodup/\∀t,t∈DM x.q (AA r)->t.length<=1024:=by
 intro r hr
 cases n with
 | zero=>simp only[DI]at h;cases h
 | succ n=>
 simp only[DI]at h
 split at h
 ·cases h;cases hr
 simp only[bind,Except.bind]at h
 split at h
 ·cases h
 rename_i p h1
 obtain⟨i',v',ns',r1,wid'⟩:=p
 simp only[List.isEmpty_nil,Bool.and_true,Bool.not_true,List.nil_append]at h h1
 obtain⟨ks,e,m,rfl,rfl,k2,_⟩:=MT hi h1
 have hle:=k2.le hi
 obtain⟨rs,j1,_⟩:=NF n (by omega) h
 rw[j1]at hr
 simp only[List.cons_append,List.nil_append,List.head?_cons,Option.some.injEq]at hr
 subst hr
 obtain⟨v1,_,h4⟩:=FC h1
 obtain⟨e2,v2,ns2,ks2,m2,h2,_,_,hp⟩:=J8 h4
 simp only[Prod.mk.injEq]at hp
 obtain⟨_,_,_,hk,_⟩:=hp
 simp only[Nd.mk.injEq,true_and]at hk
 obtain⟨ks3,q1,q2,q3⟩:=UW _ h2
 rw[List.nil_append]at q1
 show(DM x.q ks).Nodup/\∀t,t∈DM x.q ks->t.length<=1024
 rw[hk.1,q1]
 exact⟨q2,fun t ht=>(q3 t ht).1⟩
def Bm (s:Sc):Vl:= .mk s [] []
def Ca (q:Int) (ty:Bool) (r:List B8):List Sc:=r.map fun c=>DE ty (Bd q c) (txt q c)
def MS (names:List B8) (row:List Sc):Vl:=Mw (List.zipWith (fun k s=>Fd.mk k (Bm s)) names row)
def Bu (rs:List Nd):List (List B8):=rs.map fun r=>(AA r).map A2
def scW (k:Int):Sc:=⟨k,false,false,[],0,0,0,0,0,[],[]⟩
section
abbrev KG13:=Int->Bool->Bool->B8->Int->Int->Int->Int->Int->B8->TV->TV->TV->St->Prop
def KC (K:KG13) (x:Sc) (st:St):Prop:=K x.kind x.b x.neg x.dg x.ex x.tk x.td x.tn x.tz x.text .nilSlice .nilSlice .nilSlice st
abbrev VE:List CTy:=[.int .i64,.bool,.bool,.str,.int .i64,.int .i64,.int .i64,.int .i64,.int .i64,.str,.tv,.tv,.tv]
section
variable {a q:Int} {hd ty:Bool} {st:St}
theorem Nj {s:B8} {qd:Bool} (hl:s.length<=1000000) {K:KG13} (hk:∀st',Ay st st'->KC K (DE ty qd s) st'):
  Ae PR AE [.str s,.bool qd,.agg [.int .u8 a,.int .u8 q,.bool hd,.bool ty]] [.agg VE] st K:=by
 have e0:=Ay.refl st
 unfold DE at hk
 refine PI s qd a q hd ty st K (Au (fun g=>Gd s st _ (Aa (CJ rfl rfl rfl) ?_)) fun g=>Au (fun g2=>Gd s st _ (Aa (CJ rfl rfl rfl) ?_)) fun g2=>?_)
 ·have:ty=false:=by simpa using g
  rw[if_pos (.inl this)]at hk;exact hk st e0
 ·rw[if_pos (.inr g2)]at hk;exact hk st e0
 have g:ty=true:=by simpa using g
 rw[if_neg (by rw[g,g2];simp)]at hk
 have tail:s≠ []->s≠Q9->s≠PW->Ae PR Ck [.str s] [.agg [.bool,.str,.int .i64],.one (.int .i64)] st (fun (b9:Bool) (s9:B8) (n25:Int) (n26:Int) (st5:St)=>BIf (decide (n26=(0:Int))) (Ae PR Fc [(.agg [(.bool b9),(.str s9),(.int .i64 n25)])] [.agg VE] st5 (fun (n27:Int) (b10:Bool) (b11:Bool) (s10:B8) (n28:Int) (n29:Int) (n30:Int) (n31:Int) (n32:Int) (s11:B8) (v13:TV) (v14:TV) (v15:TV) (st6:St)=>need (List.all [(.int .i64 n27),(.bool b10),(.bool b11),(.str s10),(.int .i64 n28),(.int .i64 n29),(.int .i64 n30),(.int .i64 n31),(.int .i64 n32),(.str s11),v13,v14,v15] Ap) (K n27 b10 b11 s10 n28 n29 n30 n31 n32 s11 v13 v14 v15 st6)))
   (Ae PR Cw [.str s] [.agg [.int .i64,.int .i64,.int .i64,.int .i64],.one (.int .i64)] st5 (fun (n33:Int) (n34:Int) (n35:Int) (n36:Int) (n37:Int) (st7:St)=>BIf (decide (n37=(0:Int))) (Ae PR Ek [(.agg [(.int .i64 n33),(.int .i64 n34),(.int .i64 n35),(.int .i64 n36)])] [.agg VE] st7 (fun (n38:Int) (b12:Bool) (b13:Bool) (s12:B8) (n39:Int) (n40:Int) (n41:Int) (n42:Int) (n43:Int) (s13:B8) (v16:TV) (v17:TV) (v18:TV) (st8:St)=>need (List.all [(.int .i64 n38),(.bool b12),(.bool b13),(.str s12),(.int .i64 n39),(.int .i64 n40),(.int .i64 n41),(.int .i64 n42),(.int .i64 n43),(.str s13),v16,v17,v18] Ap) (K n38 b12 b13 s12 n39 n40 n41 n42 n43 s13 v16 v17 v18 st8)))
    (Ae PR CB [.str s] [.agg VE] st7 (fun (n44:Int) (b14:Bool) (b15:Bool) (s14:B8) (n45:Int) (n46:Int) (n47:Int) (n48:Int) (n49:Int) (s15:B8) (v19:TV) (v20:TV) (v21:TV) (st9:St)=>need (List.all [(.int .i64 n44),(.bool b14),(.bool b15),(.str s14),(.int .i64 n45),(.int .i64 n46),(.int .i64 n47),(.int .i64 n48),(.int .i64 n49),(.str s15),v19,v20,v21] Ap) (K n44 b14 b15 s14 n45 n46 n47 n48 n49 s15 v19 v20 v21 st9)))))):=by
  intro h1 h2 h3
  rw[if_neg h1,if_neg h2,if_neg h3]at hk
  refine dP_ok hl ?_
  unfold KD
  generalize dcP s=d at*
  refine Ac (fun h4=>PC _ _ _ st _ (Aa (CJ rfl rfl rfl) ?_)) fun h4=>tP_ok hl fun st1 e1=>?_
  ·rw[if_pos h4]at hk;exact hk st e0
  rw[if_neg h4]at hk
  unfold KT
  generalize tmP s=t at*
  refine Ac (fun h5=>N6 _ _ _ _ st1 _ (Aa (CJ rfl rfl rfl) ?_)) fun h5=>Gd s st1 _ (Aa (CJ rfl rfl rfl) ?_)
  ·rw[if_pos h5]at hk;exact hk st1 e1
  ·rw[if_neg h5]at hk;exact hk st1 e1
 refine Ac (fun h1=>N7 st _ (Aa (CJ rfl rfl rfl) ?_)) fun h1=>Ac (fun h2=>Ac (fun _=>IN _ st _ (Aa (CJ rfl rfl rfl) ?_)) fun h=>absurd h2 h) fun h2=>Ac (fun h3=>IN _ st _ (Aa (CJ rfl rfl rfl) ?_)) fun h3=>tail h1 h2 h3
 ·rw[if_pos h1]at hk;exact hk st e0
 ·rw[if_neg h1,if_pos (show s=Q9 from h2)]at hk
  rw[decide_eq_true h2];exact hk st e0
 ·rw[if_neg h1,if_neg (show ¬s=Q9 from h2),if_pos (show s=PW from h3)]at hk
  rw[decide_eq_false h2];exact hk st e0
end
end
section
structure TG (a q:Int) (rs:List Nd) (W:Nat):Prop where
 form:∀r,r∈rs->RecF a q r
 wid:∀r,r∈rs->(AA r).length=W
 len:∀r,r∈rs->∀k,k∈AA r->(txt q (A2 k)).length<=65536/\(A2 k).length<=2000000
 cnt:rs.length<=2000000
 wlen:W<=10000000
def Df (q:Int) (hd ty:Bool):List (List B8)->List Vl
 | []=>[]
 | h::t=>if hd then t.map fun r=>MS (h.map (txt q)) (Ca q ty r)else(h::t).map fun r=>BW ((Ca q ty r).map Bm)
theorem Dw (q:Int) (ty:Bool) (l:List (List B8)):Df q false ty l=l.map fun r=>BW ((Ca q ty r).map Bm):=by
 cases l<;>rfl
theorem Mv {q:Int} {ty:Bool} {l:List (List B8)} {j:Nat} {row:List B8} (h:l[j]? =some row):Df q false ty (l.take (j+1))=Df q false ty (l.take j)++[BW ((Ca q ty row).map Bm)]:=by
 rw[Dw,Dw,List.take_add_one,h,List.map_append];rfl
theorem QL (q:Int) (ty:Bool) (l:List (List B8)):Df q true ty (l.take 1)=[]:=by
 cases l<;>rfl
theorem Mu {q:Int} {ty:Bool} {l:List (List B8)} {j:Nat} {row h0:List B8} (h:l[j]? =some row) (hj:0<j) (h1:l[0]? =some h0):Df q true ty (l.take (j+1))=Df q true ty (l.take j)++[MS (h0.map (txt q)) (Ca q ty row)]:=by
 cases l with
 | nil=>cases h1
 | cons x t=>
  obtain⟨i,rfl⟩:∃i,j=i+1:=⟨j-1,by omega⟩
  simp only[List.getElem?_cons_zero,Option.some.injEq]at h1
  subst h1
  simp only[List.getElem?_cons_succ]at h
  show(t.take (i+1)).map _=(t.take i).map _++_
  rw[List.take_add_one,h,List.map_append];rfl
theorem GW.ldA {α:Type} {f:α->TV} {v:TV} {rows:List (List α)} (h:GW f v rows) {i:Nat} {row:List α} (hr:rows[i]? =some row):∃u,(∀st,Ab st [] (.t (ixT 1 v i)) 0=some u)/\Ky f u row:=by
 obtain⟨vs,h1,h2,h3⟩:=h
 have hlt:i<vs.length:=by rw[h2];exact(List.getElem?_eq_some_iff.1 hr).1
 have hu:=List.getElem?_eq_getElem hlt
 exact⟨vs[i],fun st=>Rd.ldx h1 st i 0 (by rw[Nat.mul_one,Nat.add_zero];exact hu),h3 i _ row hu hr⟩
theorem TN (s:Sc) (h:s.bytes=[]):VlR St.zero (Bm s) (Ba s .nilSlice .nilSlice .nilSlice):=So St.zero s h
theorem TL {l:List Vl} {u:TV} {xs:List TV} (h:Rd 13 u l.length xs) (hv:VsR St.zero l xs):VlR St.zero (BW l) (Ba (scW 6) .nilSlice u .nilSlice):=by
 unfold BW VlR
 exact⟨_,_,_,xs,[],rfl,.of_rd (.inl ⟨rfl,rfl,rfl⟩),.of_rd h,hv,.of_rd (.inl ⟨rfl,rfl,rfl⟩),by unfold FsR;rfl⟩
theorem vr_map {f:List Fd} {u:TV} {xs:List TV} (h:Rd 14 u f.length xs) (hv:FsR St.zero f xs):VlR St.zero (Mw f) (Ba (scW 7) .nilSlice .nilSlice u):=by
 unfold Mw VlR
 exact⟨_,_,_,[],xs,rfl,.of_rd (.inl ⟨rfl,rfl,rfl⟩),.of_rd (.inl ⟨rfl,rfl,rfl⟩),by unfold VsR;rfl,.of_rd h,hv⟩
theorem Re {q:Int} {ty:Bool} {ks:List Nd} {m:Nat} {k:Nd} (h:ks[m]? =some k):(Ca q ty (ks.map A2))[m]? =some (DE ty (Bd q (A2 k)) (txt q (A2 k))):=by
 unfold Ca
 rw[List.getElem?_map,List.getElem?_map,h];rfl
theorem FA (q:Int) (ty:Bool) (l:List B8):(Ca q ty l).length=l.length:=by unfold Ca;rw[List.length_map]
theorem UM {q:Int} {ty:Bool} {ks:List Nd} {m:Nat} {k:Nd} (h:ks[m]? =some k):((Ca q ty (ks.map A2)).take (m+1)).map Bm=((Ca q ty (ks.map A2)).take m).map Bm++[Bm (DE ty (Bd q (A2 k)) (txt q (A2 k)))]:=by
 rw[List.take_add_one,Re h,List.map_append];rfl
def EB (names:List B8) (row:List Sc):List Fd:=List.zipWith (fun k s=>Fd.mk k (Bm s)) names row
theorem UN {names:List B8} {row:List Sc} {m:Nat} {nm:B8} {s:Sc} (h1:names[m]? =some nm) (h2:row[m]? =some s):EB (names.take (m+1)) (row.take (m+1))=EB (names.take m) (row.take m)++[Fd.mk nm (Bm s)]:=by
 unfold EB
 rw[<-List.take_zipWith,<-List.take_zipWith,List.take_add_one]
 congr 1
 rw[List.getElem?_zipWith,h1,h2];rfl
section
variable {a q:Int} {hd ty:Bool} {st:St}
theorem Vg {n:Nd} {cs:List TV} (hc:NdC n cs) (hl:DX n<=100000000000000) (hcn:EI n<=1000000000000000) (ht:Hw n a q hd->∃W,TG a q (H8 n) W) {K:Int->Bool->Bool->B8->Int->Int->Int->Int->Int->B8->TV->TV->TV->Int->St->Prop}
  (hk1:¬Hw n a q hd->∀st',Ay st st'->K 0 false false [] 0 0 0 0 0 [] .nilSlice .nilSlice .nilSlice 1 st')
  (hk2:Hw n a q hd->∀u xs st',Ay st st'->Rd 13 u (Df q hd ty (Bu (H8 n))).length xs->VsR St.zero (Df q hd ty (Bu (H8 n))) xs->K 6 false false [] 0 0 0 0 0 [] .nilSlice u .nilSlice 0 st'):
  Ae PR Gq [.agg cs,.agg [.int .u8 a,.int .u8 q,.bool hd,.bool ty]] [.agg VE,.one (.int .i64)] st K:=by
 have w1:∀k:Nat,k<=100000000->i64.wrap ((k:Int)+1)=((k+1:Nat):Int):=fun k hk=>by rw[As _ (by omega) (by omega)];omega
 have tn:∀k:Nat,Int.toNat (k:Int)=k:=fun k=>rfl
 obtain⟨kd,t0,t1,kv,tl,rfl,_⟩:=hc.five
 refine Of kd t0 t1 kv tl a q hd ty st K (Ro hc hl hcn fun v1 st1 e1 g1=>?_)
 by_cases ho:Hw n a q hd
 case neg=>
  have he:IU n a q hd=1:=by unfold IU;rw[if_neg ho]
  rw[he]
  exact Ac (fun _=>hk1 ho st1 e1) fun h=>absurd (by decide) h
 have he:IU n a q hd=0:=by unfold IU;rw[if_pos ho]
 have hg:∀{α:Type} (g:B8->α),F9 g n a q hd=DW g (H8 n):=fun g=>by unfold F9;rw[if_pos ho]
 rw[he]
 refine Ac (fun h=>absurd rfl h) fun _=>SM hc hl hcn fun v2 st2 e2 g2=>?_
 rw[hg]at g1 g2
 obtain⟨W,hT⟩:=ht ho
 clear ht
 have hk2:=hk2 ho
 generalize hrs:H8 n=rs at*
 have e12:=e1.trans e2
 have hcnt:=hT.cnt
 have hwl:=hT.wlen
 obtain⟨vs1,hr1⟩:=g1.rd
 obtain⟨vs2,hr2⟩:=g2.rd
 have hL:∀{α:Type} (g:B8->α),(DW g rs).length=rs.length:=fun g=>by unfold DW;rw[List.length_map]
 rw[hL]at hr1 hr2
 have hget:∀{α:Type} (g:B8->α) {j:Nat} {r:Nd},rs[j]? =some r->(DW g rs)[j]? =some ((AA r).map fun k=>g (A2 k)):=fun g j r h=>by unfold DW;rw[List.getElem?_map,h];rfl
 have hraw:∀{j:Nat} {r:Nd},rs[j]? =some r->(Bu rs)[j]? =some ((AA r).map A2):=fun {j r} h=>by unfold Bu;rw[List.getElem?_map,h];rfl
 have hrawl:(Bu rs).length=rs.length:=by unfold Bu;rw[List.length_map]
 refine Aa hr1.isSl ?_
 refine⟨fun zn zr zq zv zm c1 c2 b1 b2 kA boA ngA dgA exA tkA tdA tnA tzA txA u0A u1A u2A kB boB ngB dgB exB tkB tdB tnB tzB txB u0B u1B u2B st'=>v1=zr/\v2=zq/\v1=zv/\(rs.length:Int)=zm/\a=c1/\q=c2/\hd=b1/\ty=b2/\6=kB/\false=boB/\false=ngB/\[]=dgB/\0=exB/\0=tkB/\0=tdB/\0=tnB/\0=tzB/\[]=txB/\.nilSlice=u0B/\.nilSlice=u2B/\Ay st2 st'/\∃j:Nat,zn=(j:Int)/\j<=rs.length/\∃xs,Own st2.nt 13 st' u1B (Df q hd ty ((Bu rs).take j)).length xs/\VsR St.zero (Df q hd ty ((Bu rs).take j)) xs,
  fun n _ _ _ _ _ _ _ _ _ _ _ _ _ _ _ _ _ _ _ _ _ _ _ _ _ _ _ _ _ _ _ _ _ _ _=>(rs.length-n).toNat,⟨rfl,rfl,rfl,by rw[hr1.lenS],rfl,rfl,rfl,rfl,rfl,rfl,rfl,rfl,rfl,rfl,rfl,rfl,rfl,rfl,rfl,rfl,Ay.refl _,0,rfl,Nat.zero_le _,[],by rw[List.take_zero];exact Own.nil _ _ _,by rw[List.take_zero];exact VsR.nil _⟩,?_⟩
 rintro _ _ _ _ _ _ _ _ _ kA boA ngA dgA exA tkA tdA tnA tzA txA u0A u1A u2A _ _ _ _ _ _ _ _ _ _ _ vB _ st3 ⟨rfl,rfl,rfl,rfl,rfl,rfl,rfl,rfl,rfl,rfl,rfl,rfl,rfl,rfl,rfl,rfl,rfl,rfl,rfl,rfl,e3,j,rfl,hj,xs,hB,hBv⟩
 rw[tn]
 refine Ac (fun g=>?_) fun g=>?_
 case refine_2=>
  have hjl:(Bu rs).take j=Bu rs:=List.take_of_length_le (by omega)
  rw[hjl]at hB hBv
  refine Aa (CJ rfl hB.rd.one rfl) (hk2 _ xs _ (e12.trans e3) hB.rd hBv)
 have hjlt:j<rs.length:=by omega
 obtain⟨r,hjr⟩:∃r,rs[j]? =some r:=⟨_,List.getElem?_eq_getElem hjlt⟩
 have hmem:=List.mem_of_getElem? hjr
 have hwid:=hT.wid r hmem
 obtain⟨uj,hlj,rj⟩:=g1.ldA (hget (txt q) hjr)
 obtain⟨qj,hlq,rq⟩:=g2.ldA (hget (Bd q) hjr)
 have hrjl:=Rd.lenS rj
 have hrjz:=Rd.lenZ rj
 have hrqz:=Rd.lenZ rq
 rw[List.length_map,hwid]at hrjl hrjz hrqz
 refine⟨⟨by omega,by rw[hr1.lenZ];omega⟩,Ad (hlj _) (Au (fun hh=>Aa (Rd.isSl rj) ?_) fun hh=>Ac (fun g0=>Aa (Rd.isSl rj) ?_) fun g0=>?_)⟩
 ·have hhd:hd=false:=by simpa using hh
  subst hhd
  refine⟨fun zn zr zq zi zv zm n5 v3 n6 c1 c2 b7 b8 kA boA ngA dgA exA tkA tdA tnA tzA txA u0A u1A u2A kB boB ngB dgB exB tkB tdB tnB tzB txB u0B u1B u2B kC boC ngC dgC exC tkC tdC tnC tzC txC u0C u1C u2C st'=>v1=zr/\v2=zq/\(j:Int)=zi/\v1=zv/\(rs.length:Int)=zm/\(j:Int)=n5/\uj=v3/\(W:Int)=n6/\a=c1/\q=c2/\false=b7/\ty=b8/\6=kB/\false=boB/\false=ngB/\[]=dgB/\0=exB/\0=tkB/\0=tdB/\0=tnB/\0=tzB/\[]=txB/\.nilSlice=u0B/\.nilSlice=u2B/\vB=u1B/\6=kC/\false=boC/\false=ngC/\[]=dgC/\0=exC/\0=tkC/\0=tdC/\0=tnC/\0=tzC/\[]=txC/\.nilSlice=u0C/\.nilSlice=u2C/\Ay st3 st'/\∃m':Nat,zn=(m':Int)/\m'<=W/\∃ys,Own st3.nt 13 st' u1C m' ys/\VsR St.zero (((Ca q ty ((AA r).map A2)).take m').map Bm) ys,
   fun n _ _ _ _ _ _ _ _ _ _ _ _ _ _ _ _ _ _ _ _ _ _ _ _ _ _ _ _ _ _ _ _ _ _ _ _ _ _ _ _ _ _ _ _ _ _ _ _ _ _ _ _=>(W-n).toNat,⟨rfl,rfl,rfl,rfl,rfl,rfl,rfl,by rw[hrjl],rfl,rfl,rfl,rfl,rfl,rfl,rfl,rfl,rfl,rfl,rfl,rfl,rfl,rfl,rfl,rfl,rfl,rfl,rfl,rfl,rfl,rfl,rfl,rfl,rfl,rfl,rfl,rfl,rfl,Ay.refl _,0,rfl,Nat.zero_le _,[],Own.nil _ _ _,by rw[List.take_zero];exact VsR.nil _⟩,?_⟩
  rintro _ _ _ _ _ _ _ _ _ _ _ _ _ kA boA ngA dgA exA tkA tdA tnA tzA txA u0A u1A u2A _ _ _ _ _ _ _ _ _ _ _ _ _ _ _ _ _ _ _ _ _ _ _ _ vC _ st4 ⟨rfl,rfl,rfl,rfl,rfl,rfl,rfl,rfl,rfl,rfl,rfl,rfl,rfl,rfl,rfl,rfl,rfl,rfl,rfl,rfl,rfl,rfl,rfl,rfl,rfl,rfl,rfl,rfl,rfl,rfl,rfl,rfl,rfl,rfl,rfl,rfl,rfl,e4,m,rfl,hm,ys,hC,hCv⟩
  rw[tn,tn]
  refine Ac (fun g=>?_) fun g=>?_
  ·have hmlt:m<(AA r).length:=by omega
   obtain⟨k,hkm⟩:∃k,(AA r)[m]? =some k:=⟨_,List.getElem?_eq_getElem hmlt⟩
   have hkl:=hT.len r hmem k (List.mem_of_getElem? hkm)
   have l1:=Ky.ld rj st4 (i:=m) (a:=txt q (A2 k)) (by rw[List.getElem?_map,hkm];rfl)
   have l2:=Ky.ld rq st4 (i:=m) (a:=Bd q (A2 k)) (by rw[List.getElem?_map,hkm];rfl)
   refine⟨⟨by omega,by rw[hrjz];omega⟩,Ad l1 (Al ⟨⟨by omega,by rw[hr2.lenZ];omega⟩,Ad (hlq _) ⟨⟨by omega,by rw[hrqz];omega⟩,Ad l2 (Aq ?_)⟩⟩)⟩
   refine Nj (by omega) fun st5 e5=>⟨hlq _,Aa (CJ rfl rfl rfl) ?_⟩
   have hcb:=Ga ty (Bd q (A2 k)) (txt q (A2 k))
   refine FR (e4.trans e5) rfl (hC.ext e5) (by omega) (fun h=>by cases h) fun v' st6 e6 _ ho'=>Aa (List.all_eq_true.2 fun x hx=>by rw[List.mem_singleton.1 hx];exact ho'.rd.one) ?_
   rw[w1 m (by omega)]
   refine⟨⟨rfl,rfl,rfl,rfl,rfl,rfl,rfl,rfl,rfl,rfl,rfl,rfl,rfl,rfl,rfl,rfl,rfl,rfl,rfl,rfl,rfl,rfl,rfl,rfl,rfl,rfl,rfl,rfl,rfl,rfl,rfl,rfl,rfl,rfl,rfl,rfl,rfl,e6,m+1,rfl,by omega,_,ho',?_⟩,by dsimp only;omega⟩
   rw[UM hkm]
   exact hCv.snoc (TN _ hcb)
  ·have hmW:m=W:=by omega
   subst hmW
   have hfull:(Ca q ty ((AA r).map A2)).take (AA r).length=Ca q ty ((AA r).map A2):=List.take_of_length_le (by rw[FA,List.length_map];omega)
   rw[<-hwid]at hC hCv
   rw[hfull]at hCv
   have hx:VlR St.zero (BW ((Ca q ty ((AA r).map A2)).map Bm)) (Ba (scW 6) .nilSlice vC .nilSlice):=TL (by rw[List.length_map,FA,List.length_map];exact hC.rd) hCv
   refine Aa (CJ rfl hC.rd.one rfl) ?_
   have hlen:(Df q false ty ((Bu rs).take j)).length<=2000000:=by rw[Dw,List.length_map,List.length_take];omega
   refine FR (e3.trans e4) rfl (hB.ext e4) (by omega) (fun h=>by cases h) fun v' st6 e6 _ ho'=>Aa (List.all_eq_true.2 fun x hx=>by rw[List.mem_singleton.1 hx];exact ho'.rd.one) ?_
   rw[w1 j (by omega)]
   refine⟨⟨rfl,rfl,rfl,rfl,rfl,rfl,rfl,rfl,rfl,rfl,rfl,rfl,rfl,rfl,rfl,rfl,rfl,rfl,rfl,rfl,e6,j+1,rfl,by omega,xs++Ba (scW 6) .nilSlice vC .nilSlice,?_,?_⟩,by dsimp only;omega⟩
   ·rw[Mv (hraw hjr),List.length_append];exact ho'
   ·rw[Mv (hraw hjr)];exact hBv.snoc hx
 ·have hhd:hd=true:=by cases hd;exact absurd hh (by decide);rfl
  subst hhd
  obtain⟨r0,hj0⟩:∃r,rs[0]? =some r:=⟨_,List.getElem?_eq_getElem (by omega)⟩
  have hmem0:=List.mem_of_getElem? hj0
  have hwid0:=hT.wid r0 hmem0
  obtain⟨u0,hl0,rr0⟩:=g1.ldA (hget (txt q) hj0)
  have hr0z:=Rd.lenZ rr0
  rw[List.length_map,hwid0]at hr0z
  refine⟨fun zn zr zq zi zv zm n5 v3 n6 c1 c2 b7 b8 kA boA ngA dgA exA tkA tdA tnA tzA txA u0A u1A u2A kB boB ngB dgB exB tkB tdB tnB tzB txB u0B u1B u2B kC boC ngC dgC exC tkC tdC tnC tzC txC u0C u1C u2C st'=>v1=zr/\v2=zq/\(j:Int)=zi/\v1=zv/\(rs.length:Int)=zm/\(j:Int)=n5/\uj=v3/\(W:Int)=n6/\a=c1/\q=c2/\true=b7/\ty=b8/\6=kB/\false=boB/\false=ngB/\[]=dgB/\0=exB/\0=tkB/\0=tdB/\0=tnB/\0=tzB/\[]=txB/\.nilSlice=u0B/\.nilSlice=u2B/\vB=u1B/\7=kC/\false=boC/\false=ngC/\[]=dgC/\0=exC/\0=tkC/\0=tdC/\0=tnC/\0=tzC/\[]=txC/\.nilSlice=u0C/\.nilSlice=u1C/\Ay st3 st'/\∃m':Nat,zn=(m':Int)/\m'<=W/\∃ys,Own st3.nt 14 st' u2C m' ys/\FsR St.zero (EB ((((AA r0).map A2).map (txt q)).take m') ((Ca q ty ((AA r).map A2)).take m')) ys,
   fun n _ _ _ _ _ _ _ _ _ _ _ _ _ _ _ _ _ _ _ _ _ _ _ _ _ _ _ _ _ _ _ _ _ _ _ _ _ _ _ _ _ _ _ _ _ _ _ _ _ _ _ _=>(W-n).toNat,⟨rfl,rfl,rfl,rfl,rfl,rfl,rfl,by rw[hrjl],rfl,rfl,rfl,rfl,rfl,rfl,rfl,rfl,rfl,rfl,rfl,rfl,rfl,rfl,rfl,rfl,rfl,rfl,rfl,rfl,rfl,rfl,rfl,rfl,rfl,rfl,rfl,rfl,rfl,Ay.refl _,0,rfl,Nat.zero_le _,[],Own.nil _ _ _,by rw[List.take_zero,List.take_zero];exact FsR.nil _⟩,?_⟩
  rintro _ _ _ _ _ _ _ _ _ _ _ _ _ kA boA ngA dgA exA tkA tdA tnA tzA txA u0A u1A u2A _ _ _ _ _ _ _ _ _ _ _ _ _ _ _ _ _ _ _ _ _ _ _ _ _ vC st4 ⟨rfl,rfl,rfl,rfl,rfl,rfl,rfl,rfl,rfl,rfl,rfl,rfl,rfl,rfl,rfl,rfl,rfl,rfl,rfl,rfl,rfl,rfl,rfl,rfl,rfl,rfl,rfl,rfl,rfl,rfl,rfl,rfl,rfl,rfl,rfl,rfl,rfl,e4,m,rfl,hm,ys,hC,hCv⟩
  rw[tn,tn]
  refine Ac (fun g=>?_) fun g=>?_
  ·have hmlt:m<(AA r).length:=by omega
   have hmlt0:m<(AA r0).length:=by omega
   obtain⟨k,hkm⟩:∃k,(AA r)[m]? =some k:=⟨_,List.getElem?_eq_getElem hmlt⟩
   obtain⟨k0,hkm0⟩:∃k,(AA r0)[m]? =some k:=⟨_,List.getElem?_eq_getElem hmlt0⟩
   have hkl:=hT.len r hmem k (List.mem_of_getElem? hkm)
   have l1:=Ky.ld rj st4 (i:=m) (a:=txt q (A2 k)) (by rw[List.getElem?_map,hkm];rfl)
   have l0:∀st,Ab st [] (.t (ixT 1 u0 m)) 0=some (.str (txt q (A2 k0))):=fun st=>Ky.ld rr0 st (i:=m) (a:=txt q (A2 k0)) (by rw[List.getElem?_map,hkm0];rfl)
   have l2:=Ky.ld rq st4 (i:=m) (a:=Bd q (A2 k)) (by rw[List.getElem?_map,hkm];rfl)
   refine⟨⟨by omega,by rw[hrjz];omega⟩,Ad l1 (Al ⟨⟨by omega,by rw[hr1.lenZ];omega⟩,Ad (hl0 _) ⟨⟨by omega,by rw[hr0z];omega⟩,Ad (l0 _) (Al ⟨⟨by omega,by rw[hr2.lenZ];omega⟩,Ad (hlq _) ⟨⟨by omega,by rw[hrqz];omega⟩,Ad l2 (Aq ?_)⟩⟩)⟩⟩)⟩
   refine Nj (by omega) fun st5 e5=>⟨hlq _,l0 _,hl0 _,Aa (Uf rfl rfl rfl) ?_⟩
   have hcb:=Ga ty (Bd q (A2 k)) (txt q (A2 k))
   refine FR (e4.trans e5) rfl (hC.ext e5) (by omega) (fun h=>by cases h) fun v' st6 e6 _ ho'=>Aa (List.all_eq_true.2 fun x hx=>by rw[List.mem_singleton.1 hx];exact ho'.rd.one) ?_
   rw[w1 m (by omega)]
   refine⟨⟨rfl,rfl,rfl,rfl,rfl,rfl,rfl,rfl,rfl,rfl,rfl,rfl,rfl,rfl,rfl,rfl,rfl,rfl,rfl,rfl,rfl,rfl,rfl,rfl,rfl,rfl,rfl,rfl,rfl,rfl,rfl,rfl,rfl,rfl,rfl,rfl,rfl,e6,m+1,rfl,by omega,_,ho',?_⟩,by dsimp only;omega⟩
   rw[UN (nm:=txt q (A2 k0)) (by rw[List.getElem?_map,List.getElem?_map,hkm0];rfl) (Re hkm)]
   exact hCv.snoc0 (by unfold FdR;exact⟨_,rfl,TN _ hcb⟩)
  ·have hmW:m=W:=by omega
   subst hmW
   rw[<-hwid]at hC hCv
   have hfull:(Ca q ty ((AA r).map A2)).take (AA r).length=Ca q ty ((AA r).map A2):=List.take_of_length_le (by rw[FA,List.length_map];omega)
   have hfull0:(((AA r0).map A2).map (txt q)).take (AA r).length=((AA r0).map A2).map (txt q):=List.take_of_length_le (by rw[List.length_map,List.length_map];omega)
   rw[hfull,hfull0]at hCv
   have hfl:(EB (((AA r0).map A2).map (txt q)) (Ca q ty ((AA r).map A2))).length=(AA r).length:=by unfold EB;rw[List.length_zipWith,FA,List.length_map,List.length_map,List.length_map];omega
   have hx:VlR St.zero (MS (((AA r0).map A2).map (txt q)) (Ca q ty ((AA r).map A2))) (Ba (scW 7) .nilSlice .nilSlice vC):=vr_map (f:=EB (((AA r0).map A2).map (txt q)) (Ca q ty ((AA r).map A2))) (by rw[hfl];exact hC.rd) hCv
   refine Aa (CJ rfl rfl hC.rd.one) ?_
   have hlen:(Df q true ty ((Bu rs).take j)).length<=2000000:=by
    cases hb:(Bu rs).take j with
    | nil=>exact Nat.zero_le _
    | cons x y=>
     have:=congrArg List.length hb
     rw[List.length_take,List.length_cons]at this
     show(y.map _).length<=_
     rw[List.length_map];omega
   refine FR (e3.trans e4) rfl (hB.ext e4) (by omega) (fun h=>by cases h) fun v' st6 e6 _ ho'=>Aa (List.all_eq_true.2 fun x hx=>by rw[List.mem_singleton.1 hx];exact ho'.rd.one) ?_
   rw[w1 j (by omega)]
   refine⟨⟨rfl,rfl,rfl,rfl,rfl,rfl,rfl,rfl,rfl,rfl,rfl,rfl,rfl,rfl,rfl,rfl,rfl,rfl,rfl,rfl,e6,j+1,rfl,by omega,xs++Ba (scW 7) .nilSlice .nilSlice vC,?_,?_⟩,by dsimp only;omega⟩
   ·rw[Mu (hraw hjr) (by omega) (hraw hj0),List.length_append];exact ho'
   ·rw[Mu (hraw hjr) (by omega) (hraw hj0)];exact hBv.snoc hx
 ·have hhd:hd=true:=by cases hd;exact absurd hh (by decide);rfl
  subst hhd
  have hj0:j=0:=by omega
  subst hj0
  rw[w1 0 (by omega)]
  refine⟨⟨rfl,rfl,rfl,rfl,rfl,rfl,rfl,rfl,rfl,rfl,rfl,rfl,rfl,rfl,rfl,rfl,rfl,rfl,rfl,rfl,e3,1,rfl,by omega,xs,?_,?_⟩,by dsimp only;omega⟩
  ·rw[QL]
   rw[List.take_zero]at hB
   exact hB
  ·rw[QL]
   rw[List.take_zero]at hBv
   exact hBv
end
end
theorem VS (s:Sc):(Bm s).sz=1+s.bytes.length+s.text.length+s.dg.length:=szl' s
theorem WU (ty qd:Bool) (s:B8):(Bm (DE ty qd s)).sz<=1+s.length:=by
 have hd:=dcP_len s
 rw[VS,Ga]
 unfold DE
 by_cases h1:ty=false∨qd=true
 ·rw[if_pos h1];simp[tkT]
 rw[if_neg h1]
 by_cases h2:s=[]
 ·rw[if_pos h2];simp[scK]
 rw[if_neg h2]
 by_cases h3:s=Q9
 ·rw[if_pos h3];simp[tkB]
 rw[if_neg h3]
 by_cases h4:s=PW
 ·rw[if_pos h4];simp[tkB]
 rw[if_neg h4]
 by_cases h5:(dcP s).2.2.2=0
 ·rw[if_pos h5];simp[tkN];omega
 rw[if_neg h5]
 by_cases h6:(tmP s).2.2.2.2=0
 ·rw[if_pos h6];simp[tkM]
 rw[if_neg h6];simp[tkT]
theorem PX (q:Int) (ty:Bool):∀r:List B8,BM ((Ca q ty r).map Bm)<=r.length+L5 r
 | []=>by simp[Ca,BM,L5]
 | c::r=>by
  have h1:=PX q ty r
  have h2:=WU ty (Bd q c) (txt q c)
  have h3:=TQ q c
  unfold Ca at h1⊢
  simp only[List.map_cons,BM,List.length_cons,L5]at h1⊢;omega
theorem TK (M:Nat):∀(names:List B8) (row:List Sc),(∀t,t∈names->t.length<=M)->Cl (EB names row)<=row.length*M+BM (row.map Bm)
 | [],row,h=>by simp[EB,Cl]
 | _::_,[],h=>by simp[EB,Cl]
 | t::ns,s::r,h=>by
  have h1:=TK M ns r fun x hx=>h x (.tail _ hx)
  have h2:=h t (.head _)
  unfold EB at h1⊢
  simp only[List.zipWith_cons_cons,Cl,Fd.sz,List.length_cons,List.map_cons,BM,Nat.add_mul,Nat.one_mul]at h1⊢;omega
theorem QN (l:List Vl):(BW l).sz=1+BM l:=by unfold BW;rw[szs];simp[scZ,Cl]
theorem vMap_sz (f:List Fd):(Mw f).sz=1+Cl f:=by unfold Mw;rw[szs];simp[scZ,BM]
theorem valL_sz {q:Int} {hd ty:Bool} {M:Nat} {l:List (List B8)} (h:hd=true->∀r,l.head? =some r->∀c,c∈r->(txt q c).length<=M):BM (Df q hd ty l)<=l.length+FP l*(1+M)+JT l:=by
 cases hd with
 | false=>
  rw[Dw]
  clear h
  induction l with
  | nil=>simp[BM]
  | cons r t ih=>
   have h1:=PX q ty r
   simp only[List.map_cons,BM,QN,List.length_cons,FP,JT,Nat.add_mul,Nat.mul_add,Nat.mul_one]at ih⊢;omega
 | true=>
  cases l with
  | nil=>simp[Df,BM]
  | cons h0 t=>
   have hM:=h rfl h0 rfl
   have key:∀t:List (List B8),BM (t.map fun r=>MS (h0.map (txt q)) (Ca q ty r))<=t.length+FP t*(1+M)+JT t:=by
    intro t
    induction t with
    | nil=>simp[BM]
    | cons r t ih=>
     have h1:=PX q ty r
     have h2:=TK M (h0.map (txt q)) (Ca q ty r) fun x hx=>by
      obtain⟨c,hc,rfl⟩:=List.mem_map.1 hx
      exact hM c hc
     rw[FA]at h2
     have h3:(MS (h0.map (txt q)) (Ca q ty r)).sz=1+Cl (EB (h0.map (txt q)) (Ca q ty r)):=vMap_sz _
     simp only[List.map_cons,BM,h3,List.length_cons,FP,JT,Nat.add_mul,Nat.mul_add,Nat.mul_one]at ih⊢;omega
   have:=key t
   show BM (t.map fun r=>MS (h0.map (txt q)) (Ca q ty r))<=_
   simp only[List.length_cons,FP,JT,Nat.add_mul]at this⊢;omega
theorem WJ {a q:Int} {s:B8} {i:Nat} {ks:List Nd} {e n:Nat} (h:Ln a q s i ks e n):i<=s.length->L5 (ks.map A2)+i<=e:=by
 induction h with
 | @last i e n h1 h2 h3=>
  intro hi
  have hl:=CZ hi h1
  simp only[List.map_cons,List.map_nil,GT,L5]
  rw[JV hl.1 hl.2];omega
 | @more i e e' n ks h1 h2 h3 h4 ih=>
  intro hi
  have hl:=CZ hi h1
  have:=ih (by omega)
  simp only[List.map_cons,GT,L5]
  rw[JV hl.1 hl.2];omega
theorem MR {a q:Int} {s:B8} {i:Nat} {rs:List Nd} (h:Kz a q s i rs):i<=s.length->JT (Bu rs)+i<=s.length/\FP (Bu rs)+i<=s.length+1/\(i<s.length∨rs=[]->True)/\rs.length+i<=s.length:=by
 induction h with
 | nil h=>intro hi;simp[Bu,JT,FP];omega
 | @cons i e n ks rs h1 h2 h3 ih=>
  intro hi
  have hle:=h2.le hi
  have hs:=WJ h2 hi
  have hn:=(FE (by omega) hle.2.2.2.2).2.1
  obtain⟨a1,a2,_,a4⟩:=ih (by omega)
  have hk:Bu (.mk 8 [] [] ks (slc s e (e+n))::rs)=ks.map A2::Bu rs:=rfl
  rw[hk]
  simp only[JT,FP,List.length_map,List.length_cons]
  have hc:n=0->rs=[]:=fun h0=>by
   have:=hn h0
   cases rs with
   | nil=>rfl
   | cons x y=>simp only[List.length_cons]at a4;omega
  refine⟨by omega,?_,fun _=>trivial,?_⟩
  ·rcases Nat.eq_zero_or_pos n with h0 | h0
   ·rw[hc h0];simp[Bu,FP];omega
   ·omega
  ·rcases Nat.eq_zero_or_pos n with h0 | h0
   ·rw[hc h0];simp;omega
   ·omega
theorem tree_of {a q:Int} {s:B8} {rs:List Nd} (h:Kz a q s 0 rs) (hs:s.length<=1400000) (hlen:∀r,r∈rs->∀k,k∈AA r->(txt q (A2 k)).length<=65536) (hW:∃W:Int,∀r,r∈rs->((AA r).length:Int)=W):∃W,TG a q rs W:=by
 obtain⟨W,hW⟩:=hW
 obtain⟨h1,h2,_,h4⟩:=MR h (Nat.zero_le _)
 have mem:∀r,r∈rs->L5 ((AA r).map A2)<=s.length/\(AA r).length<=s.length+1:=by
  intro r hr
  obtain⟨j,hj⟩:=List.getElem?_of_mem hr
  have hj2:(Bu rs)[j]? =some ((AA r).map A2):=by unfold Bu;rw[List.getElem?_map,hj];rfl
  have:=VU hj2
  rw[List.length_map]at this
  omega
 by_cases hne:rs=[]
 ·subst hne
  exact⟨0,⟨fun r hr=>(by cases hr),fun r hr=>(by cases hr),fun r hr=>(by cases hr),by simp,by omega⟩⟩
 refine⟨W.toNat,⟨h.form (Nat.zero_le _),fun r hr=>by have:=hW r hr;omega,fun r hr k hk=>⟨hlen r hr k hk,?_⟩,by omega,?_⟩⟩
 ·have h5:=VT (List.mem_map.2 ⟨k,hk,rfl⟩:A2 k∈(AA r).map A2)
  have:=(mem r hr).1;omega
 ·obtain⟨r,t,rfl⟩:=List.exists_cons_of_ne_nil hne
  have:=hW r (.head _)
  have:=(mem r (.head _)).2
  omega
theorem OJ {n:Nd} {a q:Int} {hd:Bool} (h:Hw n a q hd):∃rs W,n= .mk 1 [] [] rs []/\TG a q rs W:=by
 obtain⟨rs,rfl,_,_,_,_,_,hr,hl,hW⟩:=BP h.2
 have hlen:=NP h.1
 have hn:=Ec (.mk 1 [] [] rs [])
 obtain⟨W,hT⟩:=tree_of hr (by show(De (.mk 1 [] [] rs [])).length<=_;omega) hl hW
 exact⟨rs,W,rfl,hT⟩
theorem Ib {x:Cx} {hd:Bool} {l2 l3 l4:Int} {n:Nd} (h:A9 x hd l2 l3 l4= .ok n):P2 x.s x.a x.q hd= .ok n:=by
 obtain⟨rs,rfl,hd1,hl,hle,hv,hdoc,hr,hlen,hW⟩:=BP h
 unfold lOk at hl
 rw[decide_eq_true_eq]at hl
 obtain⟨rs1,q1,_,_,_,q6⟩:=NF _ (Nat.zero_le _) hdoc
 rw[List.nil_append]at q1
 subst q1
 obtain⟨rs2,j1,j2,_,_⟩:=WM (d':=48) (n':=65536) _ hdoc
 rw[List.nil_append]at j1
 subst j1
 have hdoc2:=j2 (.inr (by decide)) (by rcases q6 with q6 | q6<;>omega)
 show A9 (xU x.s x.a x.q) hd 1048576 1024 65536=_
 unfold A9
 rw[if_neg (show ¬dOk x.a x.q=false by rw[hd1];decide),if_neg (show ¬lOk 48 65536 1048576 1024 65536=false by decide),if_neg (show ¬(1048576:Int)<(x.s.length:Int) by omega),if_neg (show ¬A7 x.s≠x.s.length by rw[hv];simp)]
 rw[show DI (xU x.s x.a x.q) hd ((xU x.s x.a x.q).s.length+1) [] 0 1 [] 0= .ok rs from hdoc2]
theorem val_sz {a q:Int} {hd ty:Bool} {rs:List Nd} {n:Nd} (h:Hw n a q hd) (hn:n= .mk 1 [] [] rs []) (hcn:FP (Bu rs)<=1600):(BW (Df q hd ty (Bu rs))).sz<=1+rs.length+FP (Bu rs)*1025+JT (Bu rs):=by
 subst hn
 obtain⟨rs',hn,_,_,_,_,hdoc,_⟩:=BP h.2
 cases hn
 rw[QN]
 have:=valL_sz (q:=q) (hd:=hd) (ty:=ty) (M:=1024) (l:=Bu rs) (fun hb r hr c hc=>by
  subst hb
  cases rs with
  | nil=>cases hr
  | cons r0 t=>
   have hr:(AA r0).map A2=r:=by simpa [Bu]using hr
   have:=(Tj _ hdoc (Nat.zero_le _) r0 rfl).2
   subst hr
   obtain⟨k,hk,rfl⟩:=List.mem_map.1 hc
   exact this _ (List.mem_map.2 ⟨k,hk,rfl⟩))
 have hl:(Bu rs).length=rs.length:=by unfold Bu;rw[List.length_map]
 omega
theorem read_sz {a q:Int} {hd ty:Bool} {rs:List Nd} {s:B8} (h:P2 s a q hd= .ok (.mk 1 [] [] rs [])) (hs:s.length<=1500):(BW (Df q hd ty (Bu rs))).sz<=1600000:=by
 obtain⟨ht,_,ho⟩:=M6 (by omega) h
 obtain⟨rs',hn,_,_,_,_,_,hr,_⟩:=BP h
 cases hn
 obtain⟨h1,h2,_,h4⟩:=MR hr (Nat.zero_le _)
 have h1:JT (Bu rs)+0<=s.length:=h1
 have h2:FP (Bu rs)+0<=s.length+1:=h2
 have h4:rs.length+0<=s.length:=h4
 have:=val_sz (ty:=ty) ho rfl (by omega)
 omega
section
section
variable {a q:Int} {hd ty:Bool} {st:St}
theorem Ni {s:B8} {l0 l1 l2 l3 l4:Int} (hl:s.length<=70000) {K:Int->Bool->Bool->B8->Int->Int->Int->Int->Int->B8->TV->TV->TV->Int->Int->St->Prop}
  (hk1:∀(p:Nat×Int) st',Ay st st'->A9 ⟨s,a,q,l0,l1⟩ hd l2 l3 l4= .error p->p.2≠0->K 0 false false [] 0 0 0 0 0 [] .nilSlice .nilSlice .nilSlice p.1 p.2 st')
  (hk2:∀rs u xs st',Ay st st'->A9 ⟨s,a,q,l0,l1⟩ hd l2 l3 l4= .ok (.mk 1 [] [] rs [])->Rd 13 u (Df q hd ty (Bu rs)).length xs->VsR St.zero (Df q hd ty (Bu rs)) xs->K 6 false false [] 0 0 0 0 0 [] .nilSlice u .nilSlice 0 0 st'):
  Ae PR Hg [.str s,.agg [.int .u8 a,.int .u8 q,.bool hd,.bool ty],.agg [.int .i64 l0,.int .i64 l1,.int .i64 l2,.int .i64 l3,.int .i64 l4]] [.agg VE,.one (.int .i64),.one (.int .i64)] st K:=by
 refine PH s a q hd ty l0 l1 l2 l3 l4 st K (OI (x:=⟨s,a,q,l0,l1⟩) (by show s.length<=_;omega) fun k kv st1 e1 hn=>?_)
 obtain⟨_,_,_,_,_,h5,ho⟩:=hn.five
 cases h5
 have hcn:EI (pN (A9 ⟨s,a,q,l0,l1⟩ hd l2 l3 l4))<=1000000000000000:=Wa (by show s.length<=_;omega)
 rcases hP:A9 ⟨s,a,q,l0,l1⟩ hd l2 l3 l4 with p | n
 ·rw[hP]at hk1
  have hne:=SQ hP
  exact Aa (Eb ho) (Ac (fun _=>hk1 p st1 e1 rfl hne) fun g=>absurd hne g)
 ·rw[hP]at hn hcn hk2
  obtain⟨rs,hrs,_⟩:=BP hP
  subst hrs
  have hU:=Ib hP
  obtain⟨htx,_,hou⟩:=M6 (show s.length<=70000 from hl) hU
  have hnl:=Ec (.mk 1 [] [] rs [])
  rw[htx]at hnl
  have hl':s.length<=70000:=hl
  refine Aa (Eb ho) (Ac (fun g=>absurd rfl g) fun _=>Vg hn (by show DX (.mk 1 [] [] rs [])<=_;rw[<-hnl];show s.length<=_;omega) hcn (fun ho=>?_) (fun h=>absurd hou h) fun _ u xs st2 e2 hu hx=>?_)
  ·obtain⟨rs',W,he,hT⟩:=OJ ho
   have he:Nd.mk 1 [] [] rs []= .mk 1 [] [] rs' []:=he
   cases he
   exact⟨W,hT⟩
  ·exact Aa (CJ rfl hu.one rfl) (Aa (CJ rfl hu.one rfl) (hk2 rs u xs st2 (e1.trans e2) rfl hu hx))
end
end
theorem dA:dOk 44 34=true:=by decide
theorem Mn (l m:List Vl):BM (l++m)=BM l+BM m:=by
 induction l with
 | nil=>simp[BM]
 | cons v r ih=>simp only[List.cons_append,BM,ih];omega
theorem Nk (l m:List Fd):Cl (l++m)=Cl l+Cl m:=by
 induction l with
 | nil=>simp[Cl]
 | cons v r ih=>simp only[List.cons_append,Cl,ih];omega
theorem UI {l:List Vl} {k:Nat} {w:Vl} (h:l[k]? =some w):BM (l.take (k+1))=BM (l.take k)+w.sz:=by
 rw[List.take_add_one,h,Mn];simp[BM]
theorem Vh {l:List Fd} {k:Nat} {w:Fd} (h:l[k]? =some w):Cl (l.take (k+1))=Cl (l.take k)+w.sz:=by
 rw[List.take_add_one,h,Nk];simp[Cl]
theorem vcnt (s:Sc) (l:List Vl) (f:List Fd):(Vl.mk s l f).cnt=1+Ep l+GS f:=by unfold Vl.cnt;rfl
theorem fcnt (k:B8) (v:Vl):(Fd.mk k v).cnt=v.cnt:=by unfold Fd.cnt;rfl
section
section
variable {q:Int} {hd ty:Bool} {W:Nat} {l:List (List B8)}
theorem R5 (s:Sc):(Bm s).cnt=1:=by unfold Bm Vl.cnt Ep GS;rfl
end
end
structure SC where
 a:Int
 q:Int
 hd:Bool
 ty:Bool
 dep:Int
 nod:Int
 win:Nat
inductive Ev where
 | ls
 | le
 | ms
 | me
 | key (k:B8)
 | val (s:Sc)
structure RA where
 ph:Nat
 within:Bool
 rows:Nat
 cells:Nat
 width:Nat
 names:List B8
 told:Bool
 nodes:Int
 frm:Int
 line:Int
 late:Int
 out:List Ev
 off:Int
 err:Int
 held:B8
def RA.start:RA:=⟨0,false,0,0,0,[],false,1,0,0,0,[],0,0,[]⟩
def Bc (A:RA) (off e:Int):RA:=if A.err=0 then {A with off:=off,err:=e,held:=[]} else {A with held:=[]}
def BE (A:RA) (e:Int):RA:=if A.late=0 then {A with late:=e} else A
def AR (c:SC) (A:RA):Bool:=c.hd&&decide (A.rows=0)
def ER (A:RA):RA:={A with nodes:=A.nodes+1}
def Bz (c:SC) (A:RA) (d:Int):RA:=ER (if c.dep<d then BE A 9 else if c.nod<=A.nodes then BE A 10 else A)
def AI (c:SC) (A:RA) (at_:Int):RA:=
 if A.within=true then {A with frm:=at_} else if AR c A=true then {A with frm:=at_,within:=true,cells:=0} else Bz c {A with frm:=at_,within:=true,cells:=0} 2
def Cd (A:RA):RA:=if 0<A.rows/\A.width<=A.cells then BE A 10 else A
def Dx (c:SC) (A:RA):RA:=if AR c A=true then A else Bz c A 3
def AJ (c:SC) (A:RA) (at_:Int):RA:=Dx c (Cd (AI c A at_))
def Cj (c:SC) (b:UInt8) (A:RA):RA:=if c.win<=A.held.length then Bc A A.frm 28 else {A with held:=A.held++[b]}
def AW (c:SC) (A:RA):RA:=
 if A.late≠0 then Bc {A with held:=[]} A.frm A.late
 else if AR c A=true then
  let B:=if 1024<(txt c.q A.held).length then Bc {A with held:=[]} A.frm 10 else if txt c.q A.held∈A.names then Bc {A with held:=[]} A.frm 8 else {A with held:=[]}
  {B with names:=A.names++[txt c.q A.held],cells:=A.cells+1}
 else if 65536<(txt c.q A.held).length then Bc {A with held:=[]} A.frm 10
 else {A with held:=[],cells:=A.cells+1,out:=A.out++((if A.cells=0 then [if c.hd then .ms else .ls]else [])++((if c.hd then [Ev.key (A.names.getD A.cells [])]else [])++[.val (DE c.ty (Bd c.q A.held) (txt c.q A.held))]))}
def Cf (A:RA):RA:=if A.rows=0 then {A with width:=A.cells,told:=true} else A
def Cp (c:SC) (B:RA) (at_:Int):RA:=if B.cells<B.width then Bc B at_ 10
 else {B with out:=B.out++(if AR c B=true then []else [if c.hd then .me else .le]),rows:=B.rows+1,within:=false,ph:=0}
def AH (c:SC) (A:RA) (at_:Int):RA:=if A.err≠0 then A else Cp c (Cf A) at_
def CI (c:SC) (b:UInt8) (at_:Int) (A:RA):RA:=
 if (AW c A).err≠0 then AW c A
 else if (b.toNat:Int)=c.a then {AW c A with ph:=0}
 else if (b.toNat:Int)=10 then AH c (AW c A) at_
 else if (b.toNat:Int)=13 then {AW c A with ph:=4,line:=at_}
 else Bc (AW c A) at_ 3
def EW (A:RA) (at_ e:Int):RA:=Bc (if A.late≠0 then Bc A A.frm A.late else A) at_ e
def Cr (c:SC) (b:UInt8) (at_:Int) (A:RA):RA:=
 if (b.toNat:Int)=c.a∨(b.toNat:Int)=10∨(b.toNat:Int)=13 then CI c b at_ A
 else if (b.toNat:Int)=c.q then EW A at_ 3 else Cj c b A
def Bh (c:SC) (b:UInt8) (at_:Int) (A:RA):RA:=
 if A.ph=0 then(if (b.toNat:Int)=c.q then Cj c b {AJ c A at_ with ph:=2} else Cr c b at_ {AJ c A at_ with ph:=1})
 else if A.ph=1 then Cr c b at_ A
 else if A.ph=2 then Cj c b (if (b.toNat:Int)=c.q then {A with ph:=3} else A)
 else if A.ph=3 then(if (b.toNat:Int)=c.q then Cj c b {A with ph:=2} else CI c b at_ A)
 else if (b.toNat:Int)≠10 then Bc A A.line 3 else AH c A A.line
def D1 (c:SC) (size:Int) (A:RA):RA:=
 if A.ph=2∨A.ph=4 then EW A size 4
 else if A.ph=0 then(if A.within=true then AH c (AW c (AJ c A size)) size else A)
 else AH c (AW c A) size
def B9 (c:SC):B8->Int->RA->RA
 | [],_,A=>A
 | b::r,i,A=>if A.err≠0 then A else B9 c r (i+1) (Bh c b i A)
def Qg (c:SC) (size:Int) (A:RA):RA:=if A.err=0 then D1 c size A else A
def Bg (c:SC) (s:B8) (i:Nat) (A:RA):RA:=Qg c s.length (B9 c (s.drop i) i A)
def obs (A:RA):Except (Int×Int) (List Ev×List B8):=if A.err=0 then .ok (A.out,A.names)else .error (A.off,A.err)
theorem Ix {A:RA} (h:A.err≠0):obs A= .error (A.off,A.err):=if_neg h
theorem MO {c:SC} {A:RA} (h:A.err≠0):∀(l:B8) (i:Int),B9 c l i A=A
 | [],_=>rfl
 | b::r,i=>by rw[B9,if_pos h]
theorem IB {c:SC} {s:B8} {i:Nat} {A:RA} (h:A.err≠0):Bg c s i A=A:=by
 unfold Bg Qg
 rw[MO h,if_neg h]
theorem B4 {c:SC} {s:B8} {i:Nat} {A:RA} (hi:i<s.length) (h:A.err=0):Bg c s i A=Bg c s (i+1) (Bh c (s.getD i 0) i A):=by
 unfold Bg
 have hd:s.drop i=s.getD i 0::s.drop (i+1):=by
  rw[List.drop_eq_getElem_cons hi,List.getD_eq_getElem?_getD,List.getElem?_eq_getElem hi];rfl
 rw[hd,B9,if_neg (by omega)];rfl
theorem Hh {c:SC} {s:B8} {i:Nat} {A:RA} (hi:s.length<=i) (h:A.err=0):Bg c s i A=D1 c s.length A:=by
 unfold Bg Qg
 rw[List.drop_of_length_le hi,B9,if_pos h]
theorem Br {A:RA} {o e:Int} (h:A.err=0) (he:e≠0):(Bc A o e).err=e/\(Bc A o e).off=o:=by
 unfold Bc;rw[if_pos h];exact⟨rfl,rfl⟩
theorem Ka {A:RA} {o e:Int} (h:A.err=0) (he:e≠0):obs (Bc A o e)= .error (o,e):=by
 obtain⟨h1,h2⟩:=Br (o:=o) h he
 rw[Ix (by rw[h1];exact he),h1,h2]
theorem Nt {A:RA} {o e:Int} (h:A.err≠0):(Bc A o e).err=A.err/\(Bc A o e).off=A.off:=by
 unfold Bc;rw[if_neg h];exact⟨rfl,rfl⟩
theorem MZ {A:RA} {o e:Int} (h:A.err=0) (he:e≠0):obs (EW A o e)=if A.late≠0 then .error (A.frm,A.late)else .error (o,e):=by
 unfold EW
 by_cases hl:A.late≠0
 ·rw[if_pos hl,if_pos hl]
  obtain⟨h1,h2⟩:=Br (o:=A.frm) h hl
  obtain⟨h3,h4⟩:=Nt (A:=Bc A A.frm A.late) (o:=o) (e:=e) (by rw[h1];exact hl)
  rw[Ix (by rw[h3,h1];exact hl),h3,h4,h1,h2]
 ·rw[if_neg hl,if_neg hl]
  exact Ka h he
theorem OV {A:RA} {o e:Int} (h:A.err=0) (he:e≠0):(EW A o e).err≠0:=by
 unfold EW
 by_cases hl:A.late≠0
 ·rw[if_pos hl]
  obtain⟨h1,_⟩:=Br (o:=A.frm) h hl
  rw[(Nt (A:=Bc A A.frm A.late) (o:=o) (e:=e) (by rw[h1];exact hl)).1,h1];exact hl
 ·rw[if_neg hl,(Br h he).1];exact he
theorem GG {s:B8} {i e:Nat} (h:i<e) (he:e<=s.length):slc s i e=s.getD i 0::slc s (i+1) e:=by
 unfold slc
 rw[List.drop_eq_getElem_cons (by rw[List.length_take];omega),List.getElem_take,List.getD_eq_getElem?_getD,List.getElem?_eq_getElem (by omega)];rfl
theorem Mb {s:B8} {i:Nat}:slc s i i=[]:=by
 unfold slc
 exact List.drop_of_length_le (by rw[List.length_take];omega)
theorem CM (s:B8) (i:Nat):((s.getD i 0).toNat:Int)=by_ s i:=rfl
theorem Ee {c:SC} {b:UInt8} {A:RA} (h:c.win<=A.held.length) (he:A.err=0) (s:B8) (i:Nat):obs (Bg c s i (Cj c b A))= .error (A.frm,28):=by
 have h1:Cj c b A=Bc A A.frm 28:=if_pos h
 rw[h1,IB (by rw[(Br he (by decide)).1];decide),Ka he (by decide)]
theorem Iz {c:SC} {b:UInt8} {A:RA} (h:A.held.length<c.win):Cj c b A={A with held:=A.held++[b]}:=if_neg (by omega)
def DL:Except Nat Nat->Nat | .ok e=>e | .error o=>o
theorem U2 {c:SC} {s:B8}:∀(n i:Nat) (A:RA),s.length-i<=n->i<=s.length->A.ph=1->A.err=0->A.held.length<=c.win->
  i<=DL (PE c.a c.q s i)/\DL (PE c.a c.q s i)<=s.length/\(c.win<A.held.length+(DL (PE c.a c.q s i)-i)->obs (Bg c s i A)= .error (A.frm,28))/\
  (A.held.length+(DL (PE c.a c.q s i)-i)<=c.win->Bg c s i A=Bg c s (DL (PE c.a c.q s i)) {A with held:=A.held++slc s i (DL (PE c.a c.q s i))}):=by
 intro n
 induction n with
 | zero=>
  intro i A hn hi hp he hw
  rw[Hs (by omega)]
  exact⟨Nat.le_refl _,hi,fun h=>by show _;have:DL (.ok i)=i:=rfl;omega,fun _=>by show _=Bg c s i {A with held:=A.held++slc s i i};rw[Mb,List.append_nil]⟩
 | succ n ih=>
  intro i A hn hi hp he hw
  have stop:∀P:Except Nat Nat,DL P=i->i<=DL P/\DL P<=s.length/\(c.win<A.held.length+(DL P-i)->obs (Bg c s i A)= .error (A.frm,28))/\(A.held.length+(DL P-i)<=c.win->Bg c s i A=Bg c s (DL P) {A with held:=A.held++slc s i (DL P)}):=fun P hP=>by
   rw[hP]
   exact⟨Nat.le_refl _,hi,fun h=>by omega,fun _=>by rw[Mb,List.append_nil]⟩
  by_cases hl:s.length<=i
  ·exact stop _ (by rw[Hs hl];rfl)
  by_cases h1:by_ s i=c.a∨by_ s i=10∨by_ s i=13
  ·exact stop _ (by rw[IH (by omega) h1];rfl)
  by_cases h2:by_ s i=c.q
  ·exact stop _ (by rw[Mm (by omega) h1 h2];rfl)
  have hne:Bh c (s.getD i 0) i A=Cj c (s.getD i 0) A:=by
   unfold Bh Cr
   rw[hp,if_neg (by decide),if_pos rfl,CM,if_neg h1,if_neg h2]
  rw[Ml (by omega) h1 h2,B4 (by omega) he,hne]
  by_cases hf:c.win<=A.held.length
  ·have hg:=(ih (i+1) {A with held:=[]} (by omega) (by omega) hp he (Nat.zero_le _)).1
   have hg2:=(ih (i+1) {A with held:=[]} (by omega) (by omega) hp he (Nat.zero_le _)).2.1
   exact⟨by omega,hg2,fun _=>Ee hf he _ _,fun h=>by omega⟩
  ·rw[Iz (by omega)]
   obtain⟨g1,g2,g3,g4⟩:=ih (i+1) {A with held:=A.held++[s.getD i 0]} (by omega) (by omega) hp he (by simp only[List.length_append,List.length_singleton];omega)
   simp only[List.length_append,List.length_singleton]at g3 g4
   refine⟨by omega,g2,fun h=>g3 (by omega),fun h=>?_⟩
   rw[g4 (by omega),GG (i:=i) (by omega) g2]
   simp
theorem SK {c:SC} {s:B8}:∀(n i:Nat) (A:RA),s.length-i<=n->i<=s.length->A.ph=2->A.err=0->A.held.length<=c.win->
  (∀e,QE c.q s i=some e->(c.win<A.held.length+(e-i)->obs (Bg c s i A)= .error (A.frm,28))/\(A.held.length+(e-i)<=c.win->Bg c s i A=Bg c s e {A with held:=A.held++slc s i e,ph:=3})/\(e<s.length->by_ s e≠c.q))/\
  (QE c.q s i=none->(c.win<A.held.length+(s.length-i)->obs (Bg c s i A)= .error (A.frm,28))/\(A.held.length+(s.length-i)<=c.win->obs (Bg c s i A)=if A.late≠0 then .error (A.frm,A.late)else .error ((s.length:Int),4))):=by
 intro n
 induction n using Nat.strongRecOn with
 | _ n ih=>
  intro i A hn hi hp he hw
  by_cases hl:s.length<=i
  ·refine⟨fun e h=>(by rw[Qw hl]at h;cases h),fun _=>⟨fun h=>by omega,fun _=>?_⟩⟩
   rw[Hh hl he]
   unfold D1
   rw[if_pos (.inl hp)]
   exact MZ he (by decide)
  by_cases hq:by_ s i=c.q
  ·have hne:Bh c (s.getD i 0) i A=Cj c (s.getD i 0) {A with ph:=3}:=by
    unfold Bh
    rw[hp,if_neg (by decide),if_neg (by decide),if_pos rfl,CM,if_pos hq]
   rw[B4 (by omega) he,hne]
   by_cases h2:i+1<s.length/\by_ s (i+1)=c.q
   ·have hQ:=Qv h2.1 hq h2.2
    rw[hQ]
    have ih2:=fun A' h1 h2 h3=>ih (s.length-(i+2)) (by omega) (i+2) A' (Nat.le_refl _) (by omega) h1 h2 h3
    by_cases hf:c.win<=A.held.length
    ·refine⟨fun e h=>?_,fun h=>⟨fun _=>Ee (A:={A with ph:=3}) hf he _ _,fun h=>by omega⟩⟩
     have hle:=LR _ _ _ (Nat.le_refl _) h
     have hb:=((ih2 {A with held:=[]} hp he (Nat.zero_le _)).1 e h).2.2
     exact⟨fun _=>Ee (A:={A with ph:=3}) hf he _ _,fun h=>by omega,hb⟩
    ·rw[Iz (A:={A with ph:=3}) (by show A.held.length<_;omega)]
     have hne2:Bh c (s.getD (i+1) 0) ((i+1:Nat):Int) {A with ph:=3,held:=A.held++[s.getD i 0]}=Cj c (s.getD (i+1) 0) {A with ph:=2,held:=A.held++[s.getD i 0]}:=by
      unfold Bh
      rw[if_neg (by show ¬(3:Nat)=0;decide),if_neg (by show ¬(3:Nat)=1;decide),if_neg (by show ¬(3:Nat)=2;decide),if_pos rfl,CM,if_pos h2.2]
     have hst:Bg c s (i+1) {A with ph:=3,held:=A.held++[s.getD i 0]}=Bg c s (i+2) (Cj c (s.getD (i+1) 0) {A with ph:=2,held:=A.held++[s.getD i 0]}):=by
      rw[B4 (A:={A with ph:=3,held:=A.held++[s.getD i 0]}) h2.1 he,hne2]
     show(∀e,_->(_->obs (Bg c s (i+1) {A with ph:=3,held:=A.held++[s.getD i 0]})=_)/\(_->Bg c s (i+1) {A with ph:=3,held:=A.held++[s.getD i 0]}=_)/\_)/\(_->(_->obs (Bg c s (i+1) {A with ph:=3,held:=A.held++[s.getD i 0]})=_)/\(_->obs (Bg c s (i+1) {A with ph:=3,held:=A.held++[s.getD i 0]})=_))
     rw[hst]
     by_cases hf2:c.win<=A.held.length+1
     ·have full:=fun t j=>Ee (c:=c) (b:=s.getD (i+1) 0) (A:={A with ph:=2,held:=A.held++[s.getD i 0]}) (by show c.win<=(A.held++[s.getD i 0]).length;rw[List.length_append,List.length_singleton];exact hf2) he t j
      refine⟨fun e h=>?_,fun h=>⟨fun _=>full _ _,fun h=>by omega⟩⟩
      have hle:=LR _ _ _ (Nat.le_refl _) h
      have hb:=((ih2 {A with held:=[]} hp he (Nat.zero_le _)).1 e h).2.2
      exact⟨fun _=>full _ _,fun h=>by omega,hb⟩
     ·rw[Iz (A:={A with ph:=2,held:=A.held++[s.getD i 0]}) (by show(A.held++[s.getD i 0]).length<_;rw[List.length_append,List.length_singleton];omega)]
      obtain⟨g1,g2⟩:=ih2 {A with ph:=2,held:=A.held++[s.getD i 0]++[s.getD (i+1) 0]} rfl he (by simp only[List.length_append,List.length_singleton];omega)
      simp only[List.length_append,List.length_singleton]at g1 g2
      refine⟨fun e h=>?_,fun h=>?_⟩
      ·have hle:=LR _ _ _ (Nat.le_refl _) h
       obtain⟨k1,k2,k3⟩:=g1 e h
       refine⟨fun h=>k1 (by omega),fun h=>?_,k3⟩
       rw[k2 (by omega),GG (i:=i) (by omega) hle.2,GG (i:=i+1) (by omega) hle.2]
       simp
      ·obtain⟨k1,k2⟩:=g2 h
       exact⟨fun h=>k1 (by omega),fun h=>k2 (by omega)⟩
   ·have hQ:=Mk (q:=c.q) (by omega:i<s.length) hq fun h h3=>h2 ⟨h,h3⟩
    rw[hQ]
    refine⟨fun e h=>?_,fun h=>by cases h⟩
    cases h
    refine⟨fun h=>Ee (A:={A with ph:=3}) (by show c.win<=A.held.length;omega) he _ _,fun h=>?_,fun h h3=>h2 ⟨h,h3⟩⟩
    rw[Iz (A:={A with ph:=3}) (by show A.held.length<_;omega),GG (by omega) (by omega),Mb]
  ·have hne:Bh c (s.getD i 0) i A=Cj c (s.getD i 0) A:=by
    unfold Bh
    rw[hp,if_neg (by decide),if_neg (by decide),if_pos rfl,CM,if_neg hq]
   rw[B4 (by omega) he,hne,N3 (by omega) hq]
   have ih1:=fun A' h1 h2 h3=>ih (s.length-(i+1)) (by omega) (i+1) A' (Nat.le_refl _) (by omega) h1 h2 h3
   by_cases hf:c.win<=A.held.length
   ·refine⟨fun e h=>?_,fun h=>⟨fun _=>Ee hf he _ _,fun h=>by omega⟩⟩
    have hle:=LR _ _ _ (Nat.le_refl _) h
    have hb:=((ih1 {A with held:=[]} hp he (Nat.zero_le _)).1 e h).2.2
    exact⟨fun _=>Ee hf he _ _,fun h=>by omega,hb⟩
   ·rw[Iz (by omega)]
    obtain⟨g1,g2⟩:=ih1 {A with held:=A.held++[s.getD i 0]} hp he (by simp only[List.length_append,List.length_singleton];omega)
    simp only[List.length_append,List.length_singleton]at g1 g2
    refine⟨fun e h=>?_,fun h=>?_⟩
    ·have hle:=LR _ _ _ (Nat.le_refl _) h
     obtain⟨k1,k2,k3⟩:=g1 e h
     refine⟨fun h=>k1 (by omega),fun h=>?_,k3⟩
     rw[k2 (by omega),GG (i:=i) (by omega) hle.2]
     simp
    ·obtain⟨k1,k2⟩:=g2 h
     exact⟨fun h=>k1 (by omega),fun h=>k2 (by omega)⟩
def FF (c:SC) (d v:Int):Int:=if c.dep<d then 9 else if c.nod<=v then 10 else 0
theorem Oy {c:SC} {A:RA} {d:Int} (h:A.late=0):Bz c A d={A with late:=FF c d A.nodes,nodes:=A.nodes+1}:=by
 unfold Bz BE ER FF
 by_cases h1:c.dep<d
 ·rw[if_pos h1,if_pos h1,if_pos h]
 ·rw[if_neg h1,if_neg h1]
  by_cases h2:c.nod<=A.nodes
  ·rw[if_pos h2,if_pos h2,if_pos h]
  ·rw[if_neg h2,if_neg h2,<-h]
theorem Ji {A:RA} {e:Int} (h:A.late≠0):BE A e=A:=if_neg h
theorem Lp {c:SC} {A:RA} {d:Int} (h:A.late≠0):Bz c A d={A with nodes:=A.nodes+1}:=by
 unfold Bz
 rw[Ji h,Ji h,ite_self,ite_self];rfl
structure FS (A B:RA):Prop where
 ph:B.ph=A.ph
 rows:B.rows=A.rows
 width:B.width=A.width
 names:B.names=A.names
 told:B.told=A.told
 line:B.line=A.line
 out:B.out=A.out
 off:B.off=A.off
 err:B.err=A.err
 held:B.held=A.held
theorem FS.refl (A:RA):FS A A:=⟨rfl,rfl,rfl,rfl,rfl,rfl,rfl,rfl,rfl,rfl⟩
theorem FS.trans {A B C:RA} (h:FS A B) (k:FS B C):FS A C:=⟨k.ph.trans h.ph,k.rows.trans h.rows,k.width.trans h.width,k.names.trans h.names,k.told.trans h.told,k.line.trans h.line,k.out.trans h.out,k.off.trans h.off,k.err.trans h.err,k.held.trans h.held⟩
theorem Dv (A:RA) (e:Int):FS A (BE A e)/\(BE A e).frm=A.frm/\(BE A e).within=A.within/\(BE A e).cells=A.cells/\(BE A e).nodes=A.nodes:=by
 unfold BE
 split<;>exact⟨⟨rfl,rfl,rfl,rfl,rfl,rfl,rfl,rfl,rfl,rfl⟩,rfl,rfl,rfl,rfl⟩
theorem Lo (c:SC) (A:RA) (d:Int):FS A (Bz c A d)/\(Bz c A d).frm=A.frm/\(Bz c A d).within=A.within/\(Bz c A d).cells=A.cells:=by
 have h:∀B:RA,FS B (ER B)/\(ER B).frm=B.frm/\(ER B).within=B.within/\(ER B).cells=B.cells:=fun B=>⟨⟨rfl,rfl,rfl,rfl,rfl,rfl,rfl,rfl,rfl,rfl⟩,rfl,rfl,rfl⟩
 unfold Bz
 split
 ·obtain⟨h1,h2,h3,h4,_⟩:=Dv A 9
  obtain⟨k1,k2,k3,k4⟩:=h (BE A 9)
  exact⟨h1.trans k1,k2.trans h2,k3.trans h3,k4.trans h4⟩
 split
 ·obtain⟨h1,h2,h3,h4,_⟩:=Dv A 10
  obtain⟨k1,k2,k3,k4⟩:=h (BE A 10)
  exact⟨h1.trans k1,k2.trans h2,k3.trans h3,k4.trans h4⟩
 ·exact h A
theorem Il (c:SC) (A:RA) (at_:Int):FS A (AI c A at_)/\(AI c A at_).frm=at_/\(AI c A at_).within=true/\(AI c A at_).cells=if A.within=true then A.cells else 0:=by
 unfold AI
 split
 ·rename_i h;exact⟨⟨rfl,rfl,rfl,rfl,rfl,rfl,rfl,rfl,rfl,rfl⟩,rfl,h,rfl⟩
 split
 ·exact⟨⟨rfl,rfl,rfl,rfl,rfl,rfl,rfl,rfl,rfl,rfl⟩,rfl,rfl,rfl⟩
 ·obtain⟨k1,k2,k3,k4⟩:=Lo c {A with frm:=at_,within:=true,cells:=0} 2
  exact⟨FS.trans (B:={A with frm:=at_,within:=true,cells:=0}) ⟨rfl,rfl,rfl,rfl,rfl,rfl,rfl,rfl,rfl,rfl⟩ k1,k2,k3,k4⟩
theorem B5 (c:SC) (A:RA) (at_:Int):FS A (AJ c A at_)/\(AJ c A at_).frm=at_/\(AJ c A at_).within=true/\(AJ c A at_).cells=if A.within=true then A.cells else 0:=by
 obtain⟨h1,h2,h3,h4⟩:=Il c A at_
 have e2:FS (AI c A at_) (Cd (AI c A at_))/\(Cd (AI c A at_)).frm=(AI c A at_).frm/\(Cd (AI c A at_)).within=(AI c A at_).within/\(Cd (AI c A at_)).cells=(AI c A at_).cells:=by
  unfold Cd
  split
  ·obtain⟨k1,k2,k3,k4,_⟩:=Dv (AI c A at_) 10
   exact⟨k1,k2,k3,k4⟩
  ·exact⟨FS.refl _,rfl,rfl,rfl⟩
 obtain⟨k1,k2,k3,k4⟩:=e2
 unfold AJ Dx
 split
 ·exact⟨h1.trans k1,k2.trans h2,k3.trans h3,k4.trans h4⟩
 ·obtain⟨j1,j2,j3,j4⟩:=Lo c (Cd (AI c A at_)) 3
  exact⟨(h1.trans k1).trans j1,j2.trans (k2.trans h2),j3.trans (k3.trans h3),j4.trans (k4.trans h4)⟩
theorem Tb {c:SC} {A B:RA} (h:FS A B):AR c B=AR c A:=by unfold AR;rw[h.rows]
theorem Vn {c:SC} {A:RA} {at_:Int} (hw:A.within=true) (hl:A.late=0):
  (AJ c A at_).late=(if 0<A.rows/\A.width<=A.cells then 10 else if AR c A=true then 0 else FF c 3 A.nodes)/\(AJ c A at_).nodes=(if AR c A=true then A.nodes else A.nodes+1):=by
 have h1:AI c A at_={A with frm:=at_}:=if_pos hw
 unfold AJ
 rw[h1]
 by_cases h2:0<A.rows/\A.width<=A.cells
 ·have e2:Cd {A with frm:=at_}={A with frm:=at_,late:=10}:=by
   unfold Cd
   rw[if_pos h2]
   exact if_pos hl
  rw[e2,if_pos h2]
  unfold Dx
  have hh:AR c {A with frm:=at_,late:=10}=AR c A:=rfl
  rw[hh]
  by_cases h3:AR c A=true
  ·rw[if_pos h3,if_pos h3];exact⟨rfl,rfl⟩
  ·rw[if_neg h3,if_neg h3,Lp (by show(10:Int)≠0;decide)];exact⟨rfl,rfl⟩
 ·have e2:Cd {A with frm:=at_}={A with frm:=at_}:=if_neg h2
  rw[e2,if_neg h2]
  unfold Dx
  have hh:AR c {A with frm:=at_}=AR c A:=rfl
  rw[hh]
  by_cases h3:AR c A=true
  ·rw[if_pos h3,if_pos h3,if_pos h3];exact⟨hl,rfl⟩
  ·rw[if_neg h3,if_neg h3,if_neg h3,Oy (A:={A with frm:=at_}) hl];exact⟨rfl,rfl⟩
def exE (c:SC) (s:B8) (i:Nat):Nat:=match Bi c.a c.q s i with | .ok e=>e | .error p=>p.1
def A4 (c:SC) (s:B8) (e:Nat) (B:RA):RA:=if e<s.length then Bg c s (e+1) (CI c (s.getD e 0) e B)else AH c (AW c B) s.length
theorem PE_err {a q:Int} {s:B8} {i o:Nat} (h:PE a q s i= .error o):o<s.length/\¬(by_ s o=a∨by_ s o=10∨by_ s o=13)/\by_ s o=q:=by
 have:∀(n i:Nat),s.length-i<=n->PE a q s i= .error o->o<s.length/\¬(by_ s o=a∨by_ s o=10∨by_ s o=13)/\by_ s o=q:=by
  intro n
  induction n with
  | zero=>intro i hn h;rw[Hs (by omega)]at h;cases h
  | succ n ih=>
   intro i hn h
   by_cases hl:s.length<=i
   ·rw[Hs hl]at h;cases h
   by_cases h1:by_ s i=a∨by_ s i=10∨by_ s i=13
   ·rw[IH (by omega) h1]at h;cases h
   by_cases h2:by_ s i=q
   ·rw[Mm (by omega) h1 h2]at h;cases h;exact⟨by omega,h1,h2⟩
   ·rw[Ml (by omega) h1 h2]at h;exact ih (i+1) (by omega) h
 exact this _ i (Nat.le_refl _) h
theorem V6 {q:Int} {s:B8} {i e:Nat} (h:QE q s i=some e):i<e/\e<=s.length:=LR _ _ _ (Nat.le_refl _) h
theorem NR {c:SC} {s:B8} {i:Nat} {A:RA} (hwin:1<=c.win) (hi:i<=s.length) (hw:i<s.length∨A.within=true) (hp:A.ph=0) (he:A.err=0) (hh:A.held=[]):
  i<=exE c s i/\exE c s i<=s.length/\
  (c.win<exE c s i-i->obs (Bg c s i A)= .error ((i:Int),28))/\
  (exE c s i-i<=c.win->
   (∀p d,Bi c.a c.q s i= .error (p,d)->obs (Bg c s i A)=if (AJ c A i).late≠0 then .error ((i:Int),(AJ c A i).late)else .error ((p:Int),d))/\
   (∀e,Bi c.a c.q s i= .ok e->∃ph,Bg c s i A=A4 c s e {AJ c A i with held:=slc s i e,ph:=ph})):=by
 obtain⟨hS,hf,hwi,hcl⟩:=B5 c A i
 have hE:(AJ c A i).err=0:=hS.err.trans he
 have hH:(AJ c A i).held=[]:=hS.held.trans hh
 generalize hB:AJ c A i=B at*
 by_cases hl:i<s.length
 ·by_cases hq:by_ s i=c.q
  ·--a quoted cell
   have hne:Bh c (s.getD i 0) i A=Cj c (s.getD i 0) {B with ph:=2}:=by
    unfold Bh
    rw[if_pos hp,CM,if_pos hq,hB]
   have hst:Bg c s i A=Bg c s (i+1) {B with ph:=2,held:=[s.getD i 0]}:=by
    rw[B4 hl he,hne,Iz (A:={B with ph:=2}) (by show B.held.length<_;rw[hH];exact hwin)]
    show Bg c s (i+1) {B with ph:=2,held:=B.held++[s.getD i 0]}=_
    rw[hH];rfl
   obtain⟨g1,g2⟩:=SK (c:=c) (s:=s) _ (i+1) {B with ph:=2,held:=[s.getD i 0]} (Nat.le_refl _) (by omega) rfl hE (by show [s.getD i 0].length<=_;exact hwin)
   rw[<-hst]at g1 g2
   have hl1:({B with ph:=2,held:=[s.getD i 0]}:RA).held.length=1:=rfl
   rw[hl1]at g1 g2
   have hc:Bi c.a c.q s i=match QE c.q s (i+1)with | some e=> .ok e | none=> .error (s.length,4):=by
    unfold Bi
    rw[if_pos ⟨hl,hq⟩];rfl
   unfold exE
   cases hQ:QE c.q s (i+1)with
   | some e=>
    rw[hQ]at hc
    replace hc:Bi c.a c.q s i= .ok e:=hc
    obtain⟨k1,k2,k3⟩:=g1 e hQ
    have hle:=V6 hQ
    rw[hc]
    replace k1:c.win<1+(e-(i+1))->obs (Bg c s i A)= .error (B.frm,28):=k1
    rw[hf]at k1
    refine⟨by show i<=e;omega,hle.2,fun h=>k1 (by have h:c.win<e-i:=h;omega),fun h=>⟨fun p d h2=>(by cases h2),fun e' h2=>?_⟩⟩
    cases h2
    have h:e-i<=c.win:=h
    refine⟨3,?_⟩
    rw[k2 (by omega),GG (i:=i) (by omega) hle.2]
    unfold A4
    by_cases hel:e<s.length
    ·rw[if_pos hel]
     rw[B4 (A:={B with ph:=3,held:=[s.getD i 0]++slc s (i+1) e}) hel hE]
     unfold Bh
     rw[if_neg (by show ¬(3:Nat)=0;decide),if_neg (by show ¬(3:Nat)=1;decide),if_neg (by show ¬(3:Nat)=2;decide),if_pos rfl,CM,if_neg (k3 hel)]
     rfl
    ·rw[if_neg hel]
     rw[Hh (A:={B with ph:=3,held:=[s.getD i 0]++slc s (i+1) e}) (by omega) hE]
     unfold D1
     rw[if_neg (by show ¬((3:Nat)=2∨(3:Nat)=4);decide),if_neg (by show ¬(3:Nat)=0;decide)]
     rfl
   | none=>
    rw[hQ]at hc
    replace hc:Bi c.a c.q s i= .error (s.length,4):=hc
    obtain⟨k1,k2⟩:=g2 hQ
    rw[hc]
    replace k1:c.win<1+(s.length-(i+1))->obs (Bg c s i A)= .error (B.frm,28):=k1
    replace k2:1+(s.length-(i+1))<=c.win->obs (Bg c s i A)=if B.late≠0 then .error (B.frm,B.late)else .error ((s.length:Int),4):=k2
    rw[hf]at k1 k2
    refine⟨by show i<=s.length;omega,Nat.le_refl _,fun h=>k1 (by have h:c.win<s.length-i:=h;omega),fun h=>⟨fun p d h2=>?_,fun e h2=>by cases h2⟩⟩
    cases h2
    exact k2 (by have h:s.length-i<=c.win:=h;omega)
  ·--a plain cell
   have hA1:∀b,Bh c b i {B with ph:=1}=Cr c b i {B with ph:=1}:=fun b=>by
    unfold Bh
    rw[if_neg (by show ¬(1:Nat)=0;decide),if_pos rfl]
   have hne:Bh c (s.getD i 0) i A=Bh c (s.getD i 0) i {B with ph:=1}:=by
    rw[hA1]
    conv=>lhs;unfold Bh
    rw[if_pos hp,CM,if_neg hq,hB]
   have hst:Bg c s i A=Bg c s i {B with ph:=1}:=by
    rw[B4 hl he,hne,<-B4 (A:={B with ph:=1}) hl hE]
   obtain⟨j1,j2,j3,j4⟩:=U2 (c:=c) (s:=s) _ i {B with ph:=1} (Nat.le_refl _) (by omega) rfl hE (by show B.held.length<=_;rw[hH];exact Nat.zero_le _)
   rw[<-hst]at j3 j4
   have hl0:({B with ph:=1}:RA).held=[]:=hH
   rw[hl0]at j3 j4
   simp only[List.length_nil,Nat.zero_add,List.nil_append]at j3 j4
   replace j3:_->obs (Bg c s i A)= .error (B.frm,28):=j3
   rw[hf]at j3
   have hc:Bi c.a c.q s i=match PE c.a c.q s i with | .ok e=> .ok e | .error o=> .error (o,3):=by
    unfold Bi
    rw[if_neg fun h=>hq h.2];rfl
   unfold exE
   cases hP:PE c.a c.q s i with
   | ok e=>
    rw[hP]at hc j1 j2 j3 j4
    replace hc:Bi c.a c.q s i= .ok e:=hc
    rw[hc]
    replace j1:i<=e:=j1
    replace j2:e<=s.length:=j2
    obtain⟨_,_,hby,_⟩:=W9 _ _ _ (Nat.le_refl _) (by omega:i<=s.length) hP
    refine⟨j1,j2,j3,fun h=>⟨fun p d h2=>(by cases h2),fun e' h2=>?_⟩⟩
    cases h2
    refine⟨1,?_⟩
    have j4:=j4 h
    rw[j4]
    show Bg c s e {B with ph:=1,held:=slc s i e}=_
    unfold A4
    by_cases hel:e<s.length
    ·rw[if_pos hel,B4 (A:={B with ph:=1,held:=slc s i e}) hel hE]
     have:Bh c (s.getD e 0) e {B with ph:=1,held:=slc s i e}=Cr c (s.getD e 0) e {B with ph:=1,held:=slc s i e}:=by
      unfold Bh
      rw[if_neg (by show ¬(1:Nat)=0;decide),if_pos rfl]
     rw[this]
     unfold Cr
     rw[CM,if_pos (hby hel)]
    ·rw[if_neg hel,Hh (A:={B with ph:=1,held:=slc s i e}) (by omega) hE]
     unfold D1
     rw[if_neg (by show ¬((1:Nat)=2∨(1:Nat)=4);decide),if_neg (by show ¬(1:Nat)=0;decide)]
   | error o=>
    rw[hP]at hc j1 j2 j3 j4
    replace hc:Bi c.a c.q s i= .error (o,3):=hc
    rw[hc]
    replace j1:i<=o:=j1
    replace j2:o<=s.length:=j2
    refine⟨j1,j2,j3,fun h=>⟨fun p d h2=>?_,fun e' h2=>by cases h2⟩⟩
    cases h2
    have j4:=j4 h
    rw[j4]
    show obs (Bg c s o {B with ph:=1,held:=slc s i o})=_
    obtain⟨ho1,ho2,ho3⟩:=PE_err hP
    rw[B4 (A:={B with ph:=1,held:=slc s i o}) ho1 hE]
    have:Bh c (s.getD o 0) o {B with ph:=1,held:=slc s i o}=EW {B with ph:=1,held:=slc s i o} o 3:=by
     unfold Bh
     rw[if_neg (by show ¬(1:Nat)=0;decide),if_pos rfl]
     unfold Cr
     rw[CM,if_neg ho2,if_pos ho3]
    rw[this,IB (OV (A:={B with ph:=1,held:=slc s i o}) (e:=3) hE (by decide)),MZ (A:={B with ph:=1,held:=slc s i o}) hE (by decide)]
    show(if B.late≠0 then Except.error (B.frm,B.late)else _)=_
    rw[hf]
 ·--the empty cell at the end
  have hi2:i=s.length:=by omega
  have hwt:A.within=true:=hw.resolve_left hl
  have hc:Bi c.a c.q s i= .ok i:=by
   unfold Bi
   rw[if_neg fun h=>hl h.1,Hs (by omega)]
  unfold exE
  rw[hc]
  refine⟨Nat.le_refl _,hi,fun h=>by have h:c.win<i-i:=h;omega,fun h=>⟨fun p d h2=>(by cases h2),fun e h2=>?_⟩⟩
  cases h2
  refine⟨0,?_⟩
  rw[Hh (by omega) he]
  unfold A4
  rw[if_neg hl,Mb]
  unfold D1
  rw[if_neg (by rw[hp];decide),if_pos hp,if_pos hwt,<-hi2,hB]
  have:({B with held:=[],ph:=0}:RA)=B:=by
   have h1:B.ph=0:=hS.ph.trans hp
   rw[<-hH,<-h1]
  rw[this]
def Ha (c:SC) (s:B8):Nat->Nat->Option Nat
 | 0,_=>none
 | n+1,i=>if s.length<=i then none else if c.win<exE c s i-i then some i
  else if exE c s i<s.length/\by_ s (exE c s i)=c.a then Ha c s n (exE c s i+1)
  else if exE c s i<s.length/\by_ s (exE c s i)=10 then Ha c s n (exE c s i+1)
  else if exE c s i+1<s.length/\by_ s (exE c s i)=13/\by_ s (exE c s i+1)=10 then Ha c s n (exE c s i+2)else none
theorem Qh {c:SC} {s:B8} {i:Nat} (hi:i<=s.length):i<=exE c s i/\exE c s i<=s.length:=by
 obtain⟨h1,h2,_⟩:=NR (c:={c with win:=c.win+1}) (s:=s) (i:=i) (A:={RA.start with within:=true}) (by show 1<=c.win+1;omega) hi (.inr rfl) rfl rfl rfl
 exact⟨h1,h2⟩
theorem Vb {c:SC} {s:B8}:∀(n m i:Nat),s.length<i+n->s.length<i+m->i<=s.length+1->Ha c s n i=Ha c s m i:=by
 intro n
 induction n with
 | zero=>
  intro m i h1 h2 h3
  cases m with
  | zero=>rfl
  | succ m=>rw[Ha,Ha,if_pos (by omega)]
 | succ n ih=>
  intro m i h1 h2 h3
  cases m with
  | zero=>rw[Ha,Ha,if_pos (by omega)]
  | succ m=>
   rw[Ha,Ha]
   by_cases hl:s.length<=i
   ·rw[if_pos hl,if_pos hl]
   obtain⟨g1,g2⟩:=Qh (c:=c) (s:=s) (i:=i) (by omega)
   rw[if_neg hl,if_neg hl,ih m (exE c s i+1) (by omega) (by omega) (by omega)]
   by_cases h13:exE c s i+1<s.length/\by_ s (exE c s i)=13/\by_ s (exE c s i+1)=10
   ·rw[if_pos h13,if_pos h13,ih m (exE c s i+2) (by omega) (by omega) (by omega)]
   ·rw[if_neg h13,if_neg h13]
def Dl (c:SC) (s:B8) (i:Nat):Option Nat:=Ha c s (s.length+1-i) i
def Ol (c:SC) (s:B8) (e:Nat):Option Nat:=
 if e<s.length/\by_ s e=10 then Dl c s (e+1)else if e+1<s.length/\by_ s e=13/\by_ s (e+1)=10 then Dl c s (e+2)else none
theorem Kd {c:SC} {s:B8} {i:Nat} (h:s.length<=i):Dl c s i=none:=by
 unfold Dl
 cases hn:s.length+1-i with
 | zero=>rfl
 | succ n=>rw[Ha,if_pos h]
theorem Fk {c:SC} {s:B8} {i:Nat} (h:i<s.length):Dl c s i=if c.win<exE c s i-i then some i else if exE c s i<s.length/\by_ s (exE c s i)=c.a then Dl c s (exE c s i+1)else Ol c s (exE c s i):=by
 obtain⟨g1,g2⟩:=Qh (c:=c) (s:=s) (i:=i) (by omega)
 have f:∀j,i<j->j<=s.length+1->Ha c s (s.length-i) j=Dl c s j:=fun j h1 h2=>Vb _ _ _ (by omega) (by omega) h2
 conv=>lhs;unfold Dl
 rw[show s.length+1-i=(s.length-i)+1 by omega,Ha,if_neg (by omega),f _ (by omega) (by omega)]
 unfold Ol
 by_cases h1:c.win<exE c s i-i
 ·rw[if_pos h1,if_pos h1]
 rw[if_neg h1,if_neg h1]
 by_cases h2:exE c s i<s.length/\by_ s (exE c s i)=c.a
 ·rw[if_pos h2,if_pos h2]
 rw[if_neg h2,if_neg h2]
 by_cases h3:exE c s i<s.length/\by_ s (exE c s i)=10
 ·rw[if_pos h3,if_pos h3]
 rw[if_neg h3,if_neg h3]
 by_cases h4:exE c s i+1<s.length/\by_ s (exE c s i)=13/\by_ s (exE c s i+1)=10
 ·rw[if_pos h4,if_pos h4,f _ (by omega) (by omega)]
 ·rw[if_neg h4,if_neg h4]
theorem memF_ge {c:SC} {s:B8}:∀(n i:Nat) {m:Nat},Ha c s n i=some m->i<=m:=by
 intro n
 induction n with
 | zero=>intro i m h;cases h
 | succ n ih=>
  intro i m h
  rw[Ha]at h
  by_cases hl:s.length<=i
  ·rw[if_pos hl]at h;cases h
  obtain⟨g1,g2⟩:=Qh (c:=c) (s:=s) (i:=i) (by omega)
  rw[if_neg hl]at h
  by_cases h1:c.win<exE c s i-i
  ·rw[if_pos h1]at h;cases h;exact Nat.le_refl _
  rw[if_neg h1]at h
  by_cases h2:exE c s i<s.length/\by_ s (exE c s i)=c.a
  ·rw[if_pos h2]at h;have:=ih _ h;omega
  rw[if_neg h2]at h
  by_cases h3:exE c s i<s.length/\by_ s (exE c s i)=10
  ·rw[if_pos h3]at h;have:=ih _ h;omega
  rw[if_neg h3]at h
  by_cases h4:exE c s i+1<s.length/\by_ s (exE c s i)=13/\by_ s (exE c s i+1)=10
  ·rw[if_pos h4]at h;have:=ih _ h;omega
  ·rw[if_neg h4]at h;cases h
theorem Me {c:SC} {s:B8} {i m:Nat} (h:Dl c s i=some m):i<=m:=memF_ge _ _ h
theorem P9 {c:SC} {s:B8} {i m:Nat} (h:Ol c s i=some m):i<m:=by
 unfold Ol at h
 split at h
 ·have:=Me h;omega
 split at h
 ·have:=Me h;omega
 ·cases h
def Jd (p:Nat×Int) (m:Option Nat):Int×Int:=match m with | none=>((p.1:Int),p.2) | some m=>if m<=p.1 then((m:Int),28)else((p.1:Int),p.2)
theorem Ks {p:Nat×Int} {m:Option Nat} (h:∀k,m=some k->p.1<k):Jd p m=((p.1:Int),p.2):=by
 unfold Jd
 cases m with
 | none=>rfl
 | some k=>simp only;rw[if_neg (by have:=h k rfl;omega)]
theorem FO {p:Nat×Int} {k:Nat} (h:k<=p.1):Jd p (some k)=((k:Int),28):=by
 unfold Jd;simp only;rw[if_pos h]
def evC (c:SC) (names:List B8) (j:Nat) (t:B8):List Ev:=(if j=0 then [if c.hd then .ms else .ls]else [])++((if c.hd then [Ev.key (names.getD j [])]else [])++[.val (DE c.ty (Bd c.q t) (txt c.q t))])
def evK (c:SC) (names:List B8):Nat->List Nd->List Ev
 | _,[]=>[]
 | j,k::ks=>evC c names j (A2 k)++evK c names (j+1) ks
theorem RR (c:SC) (names:List B8) (k:Nd):∀(ks:List Nd) (j:Nat),evK c names j (ks++[k])=evK c names j ks++evC c names (j+ks.length) (A2 k)
 | [],j=>by simp[evK]
 | x::r,j=>by
  rw[List.cons_append,evK,evK,RR c names k r (j+1),List.length_cons,List.append_assoc]
  congr 3;omega
structure InR (c:SC) (hdr:Bool) (names0:List B8) (out0:List Ev) (rows width:Nat) (acc:List Nd) (v:Int) (ns:List B8) (A:RA):Prop where
 within:A.within=true
 err:A.err=0
 late:A.late=0
 held:A.held=[]
 rows:A.rows=rows
 width:A.width=width
 cells:A.cells=acc.length
 nodes:A.nodes=v
 names:A.names=if hdr=true then DM c.q acc else names0
 nsr:hdr=true->ns=A.names.reverse
 out:A.out=if hdr=true then out0 else out0++evK c names0 0 acc
theorem JE {c:SC} {s:B8} {e:Nat} {B:RA} (h:(AW c B).err≠0):A4 c s e B=AW c B:=by
 unfold A4
 split
 ·unfold CI
  rw[if_pos h,IB h]
 ·unfold AH
  rw[if_pos h]
theorem JD {c:SC} {B:RA} (h:B.late≠0) (he:B.err=0):(AW c B).err=B.late/\(AW c B).off=B.frm:=by
 unfold AW
 rw[if_pos h]
 exact Br (A:={B with held:=[]}) he h
def Ti (c:SC) (s:B8) (e:Nat) (C:RA):RA:=if e<s.length then(if by_ s e=10 then Bg c s (e+1) (AH c C e)else Bg c s (e+1) {C with ph:=4,line:=e})else AH c C s.length
theorem NV {c:SC} {s:B8} {e:Nat} {B:RA} (h:(AW c B).err=0) (ha:e<s.length->by_ s e≠c.a) (hb:e<s.length->by_ s e=10∨by_ s e=13):A4 c s e B=Ti c s e (AW c B):=by
 unfold A4 Ti
 by_cases hl:e<s.length
 ·rw[if_pos hl,if_pos hl]
  unfold CI
  rw[if_neg (by omega),CM,if_neg (ha hl)]
  by_cases h10:by_ s e=10
  ·rw[if_pos h10,if_pos h10]
  ·rw[if_neg h10,if_neg h10,if_pos ((hb hl).resolve_left h10)]
 ·rw[if_neg hl,if_neg hl]
theorem TB {c:SC} {s:B8} {e:Nat} {B:RA} (h:(AW c B).err=0) (hl:e<s.length) (ha:by_ s e=c.a):A4 c s e B=Bg c s (e+1) {AW c B with ph:=0}:=by
 unfold A4
 rw[if_pos hl]
 unfold CI
 rw[if_neg (by omega),CM,if_pos ha]
theorem TC {c:SC} {s:B8} {e:Nat} {B:RA} (h:(AW c B).err=0) (hl:e<s.length) (ha:by_ s e≠c.a) (h1:by_ s e≠10) (h2:by_ s e≠13):obs (A4 c s e B)= .error ((e:Int),3):=by
 unfold A4
 rw[if_pos hl]
 unfold CI
 rw[if_neg (by omega),CM,if_neg ha,if_neg h1,if_neg h2,IB (by rw[(Br h (by decide)).1];decide)]
 exact Ka h (by decide)
theorem Iy {c:SC} {s:B8} {e:Nat} (h:¬(e<s.length/\by_ s e=10)) (h2:¬(e+1<s.length/\by_ s e=13/\by_ s (e+1)=10)):Ol c s e=none:=by
 unfold Ol
 rw[if_neg h,if_neg h2]
end Go.TVF
