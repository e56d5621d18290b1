/- What the laws below rest on: a framework for Go programs, and contracts of the functions that they reach. -/
import Derived.Test.YtpfhcnpnngjpnaaGreatDoorHcE
import Derived.SizedLaws
set_option maxRecDepth 20000
set_option linter.unusedVariables false
set_option linter.unusedSimpArgs false
namespace Go.TVF
open Go.IntKind(i64 u8)
open Go Go.Proofs
section
def JY (t:B8) (i:Nat) (last:Bool) (o:Int) (X:RX):RX:=
 if t.drop i≠ []/\(last=true∨Lg (t.drop i)=false)then {X with text:=o+i,cut:=[]} else {X with cut:=t.drop i}
def Bo (s:B8) (last:Bool) (X:RX):RX:=if 0<=X.text then X else JY (X.cut++s) (A8 (X.cut++s)) last (X.size-(X.cut.length:Int)) X
section
variable {c:SC} {X:RX} {A:RA} {r w m k:Nat} {I:List Nat} {st:St}
theorem QK (h:RB c X A r w m I st) {t:B8} {i:Nat} (hi:i<=t.length) (hl:t.length<=2000000) {last:Bool} {o:Int} (ho:0<=o/\o<=100000000) {K:St->Prop}
  (hk:∀st',RB c (JY t i last o X) A r w m I st'->FrB r w m I I st st'->K st'):
  ((0<=(i:Int)/\(i:Int)<=(t.length:Int))/\need (Aa (.box r 0)) (need (Aa (.box r 0)) (stB st (Ah (.box r 0) 25) [.str (List.drop (Int.toNat (i:Int)) t)] fun (st3:St)=>
   need (Aa (.box r 0)) (need (Aa (.box r 0)) (Ai (Ab st3 [] (.t (Ah (.box r 0) 25)) 0) fun (x5:TV)=>Aj .str x5 fun (s3:B8)=>BIf (decide (s3≠([]:B8)))
    (BIf last (need (Aa (.box r 0)) (need (Aa (.box r 0)) (stB st3 (Ah (.box r 0) 24) [.int .i64 (i64.wrap (o+(i:Int)))] fun (st4:St)=>need (Aa (.box r 0)) (need (Aa (.box r 0)) (stB st4 (Ah (.box r 0) 25) [.str ([]:B8)] fun (st5:St)=>K st5)))))
     (need (Aa (.box r 0)) (need (Aa (.box r 0)) (Ai (Ab st3 [] (.t (Ah (.box r 0) 25)) 0) fun (x6:TV)=>Aj .str x6 fun (s4:B8)=>Ae PR Be [.str s4] [.one .bool] st3 fun (b1:Bool) (st6:St)=>
      BIf (!b1) (need (Aa (.box r 0)) (need (Aa (.box r 0)) (stB st6 (Ah (.box r 0) 24) [.int .i64 (i64.wrap (o+(i:Int)))] fun (st7:St)=>need (Aa (.box r 0)) (need (Aa (.box r 0)) (stB st7 (Ah (.box r 0) 25) [.str ([]:B8)] fun (st8:St)=>K st8))))) (K st6)))))
    (K st3)))))):=by
 rw[Int.toNat_natCast]
 unfold JY at hk
 refine⟨⟨by omega,by omega⟩,Ac rfl (Ac rfl (h.put (k:=25) {X with cut:=t.drop i} A (by decide) rfl rfl rfl (fun _ _=>rfl) fun st3 h3 f3=>Ac rfl (Ac rfl (h3.ld (k:=25) (x:= .str (t.drop i)) (fun _ _=>rfl) (AG (Ad (fun g=>?_) fun g=>?_))))))⟩
 ·have two:(last=true∨Lg (t.drop i)=false)->∀{st6:St},RB c {X with cut:=t.drop i} A r w m I st6->FrB r w m I I st st6->need (Aa (.box r 0)) (need (Aa (.box r 0)) (stB st6 (Ah (.box r 0) 24) [.int .i64 (i64.wrap (o+(i:Int)))] fun (st7:St)=>need (Aa (.box r 0)) (need (Aa (.box r 0)) (stB st7 (Ah (.box r 0) 25) [.str ([]:B8)] fun (st8:St)=>K st8)))):=fun g2 st6 h6 f6=>by
   rw[if_pos ⟨g,g2⟩]at hk
   rw[Ar _ (by omega) (by omega)]
   exact Ac rfl (Ac rfl (h6.put (k:=24) {X with cut:=t.drop i,text:=o+i} A (by decide) rfl rfl rfl (fun _ _=>rfl) fun st7 h7 f7=>Ac rfl (Ac rfl (h7.put (k:=25) {X with cut:=[],text:=o+i} A (by decide) rfl rfl rfl (fun _ _=>rfl) fun st8 h8 f8=>hk st8 h8 ((f6.trans f7).trans f8)))))
  refine AI (fun g2=>two (.inl g2) h3 f3) fun g2=>Ac rfl (Ac rfl (h3.ld (k:=25) (x:= .str (t.drop i)) (fun _ _=>rfl) (AG (RK g (AI (fun g3=>?_) fun g3=>?_)))))
  ·exact two (.inr ((Bool.not_eq_true' _).mp g3)) h3 f3
  ·have g3':=(Bool.not_eq_false' _).mp g3
   rw[if_neg (fun q=>q.2.elim (fun q=>by rw[g2]at q;cases q) fun q=>by rw[g3']at q;cases q)]at hk
   exact hk st3 h3 f3
 ·rw[if_neg (fun q=>g q.1)]at hk
  exact hk st3 h3 f3
theorem Mg (h:RB c X A r w m I st) {s:B8} {last:Bool} (hl:X.cut.length+s.length<=2000000) (hs:(X.cut.length:Int)<=X.size/\X.size<=100000000) {K:St->Prop}
  (hk:∀st',RB c (Bo s last X) A r w m I st'->FrB r w m I I st st'->K st'):Ae PR A6 [.box r 0,.str s,.bool last] [] st K:=by
 unfold Bo at hk
 refine DU r s last st K (h.ld (k:=24) (x:= .int .i64 X.text) (fun _ _=>rfl) (Ak (Ad (fun g=>?_) fun g=>?_)))
 ·rw[if_pos g]at hk
  exact hk st h (FrB.refl _ _ _ _ _)
 rw[if_neg g]at hk
 refine h.ld (k:=23) (x:= .int .i64 X.size) (fun _ _=>rfl) (Ak (h.ld (k:=25) (x:= .str X.cut) (fun _ _=>rfl) (AG (h.ld (k:=25) (x:= .str X.cut) (fun _ _=>rfl) (AG ⟨by omega,?_⟩)))))
 have hlen:(X.cut++s).length<=2000000:=by rw[List.length_append];exact hl
 rw[Ar _ (by omega) (by omega)]
 generalize X.cut++s=t at*
 refine⟨fun i r1 s1 l1 o1 st1=>∃j:Nat,i=(j:Int)/\r1= .box r 0/\s1=t/\l1=last/\o1=X.size-(X.cut.length:Int)/\st1=st/\j<=t.length/\j+A8 (t.drop j)=A8 t,fun i _ s1 _ _ _=>s1.length-i.toNat,⟨0,rfl,rfl,rfl,rfl,rfl,rfl,Nat.zero_le _,by rw[Nat.zero_add];rfl⟩,?_⟩
 rintro i r1 s1 l1 o1 st1 ⟨j,rfl,rfl,rfl,rfl,rfl,rfl,hj,hv⟩
 refine Ad (fun g1=>?_) fun g1=>?_
 ·refine Pc rfl hlen hj (Ad (fun g2=>?_) fun g2=>?_)
  ·have hu:ul (s1.drop j)=0:=by
    unfold rD at g2
    split at g2
    ·assumption
    ·have g2:((ul (s1.drop j):Nat):Int)=0:=g2
     omega
   rw[Dm _ hu]at hv
   have hv':A8 s1=j:=by omega
   rw[hv']at hk
   exact QK h hj hlen ⟨by omega,by omega⟩ hk
  ·have hu:ul (s1.drop j)≠0:=fun q=>g2 (by unfold rD;rw[if_pos q];rfl)
   have e2:(rD (s1.drop j)).2=ul (s1.drop j):=by unfold rD;rw[if_neg hu]
   rw[e2]
   have hle:=NJ (s1.drop j)
   rw[List.length_drop]at hle
   rw[Ar _ (by omega) (by omega)]
   have e3:((j:Int)+(ul (s1.drop j):Int))=((j+ul (s1.drop j):Nat):Int):=by omega
   rw[e3]
   refine⟨⟨j+ul (s1.drop j),rfl,rfl,rfl,rfl,rfl,rfl,by omega,?_⟩,by show s1.length-Int.toNat _<s1.length-Int.toNat _;rw[Int.toNat_natCast,Int.toNat_natCast];omega⟩
   rw[<-List.drop_drop,<-hv,Fk _ hu]
   omega
 ·have hj':j=s1.length:=by omega
  have hd:s1.drop j=[]:=List.drop_of_length_le (by omega)
  rw[hd,Fl]at hv
  have hv':A8 s1=j:=by omega
  rw[hv']at hk
  exact QK h hj hlen ⟨by omega,by omega⟩ hk
end
end
section
def BK (c:SC) (s:B8) (X:RX) (A:RA):RA:=BH c s X.size (BA X A)
def NZ (n:Nat) (X:RX):RX:={X with size:=X.size+n}
def C6 (s:B8) (X:RX):RX:=NZ s.length (Bo s false (Bp X))
theorem RG (t:B8) (i:Nat) (last:Bool) (o:Int) (X:RX):(JY t i last o X).size=X.size:=by
 unfold JY;split<;>rfl
theorem ET (s:B8) (last:Bool) (X:RX):(Bo s last X).size=X.size:=by
 unfold Bo
 split
 ·rfl
 ·exact RG ..
theorem Sz.begin {k:Nat} {A:RA} (z:Sz k A) (X:RX):Sz (k+1) (BA X A):=by
 have g:=z.mono (show k<=k+1 by omega)
 have:=z.ol
 unfold BA
 split
 ·exact g
 ·exact⟨g.hl,by show(A.out++[_]).length<=_;simp only[List.length_append,List.length_singleton];omega,g.cl,g.nl,g.rl,g.n0,g.n1⟩
theorem Jd (X:RX) (A:RA):(BA X A).err=A.err:=by unfold BA;split<;>rfl
theorem W.begin {c:SC} {A:RA} (h:W c A) (X:RX):W c (BA X A):=by
 unfold BA
 split
 ·exact h
 ·exact⟨h.ph,h.wi,h.held,h.nm,h.cw⟩
section
variable {c:SC} {X:RX} {A:RA} {r w m k:Nat} {I:List Nat} {st:St}
theorem ON (h:RB c X A r w m I st) {n:Nat} (hn:n<=100000000) (hs:0<=X.size/\X.size<=100000000) {K:TV->Int->St->Prop}
  (hk:∀v st' I' J,RB c (NZ n X) {A with out:=[]} r w m I' st'->FrB r w m I I' st st'->Cr 15 st' v A.out.length (CV A.out) J->(∀id,id∈J->id∈I/\id∉I')->K v 0 st'):
  need (Aa (.box r 0)) (need (Aa (.box r 0)) (Ai (Ab st [] (.t (Ah (.box r 0) 23)) 0) fun (x:TV)=>Aj (.int .i64) x fun (n3:Int)=>need (Aa (.box r 0)) (need (Aa (.box r 0)) (stB st (Ah (.box r 0) 23) [.int .i64 (i64.wrap (n3+(n:Int)))] fun (st5:St)=>
   Ae PR At [.box r 0] [.one .tv] st5 fun (v2:TV) (st6:St)=>K v2 0 st6)))):=by
 refine Ac rfl (Ac rfl (h.ld (k:=23) (x:= .int .i64 X.size) (fun _ _=>rfl) (Ak ?_)))
 rw[Ar _ (by omega) (by omega)]
 exact Ac rfl (Ac rfl (h.put (k:=23) (NZ n X) A (by decide) rfl rfl rfl (fun _ _=>rfl) fun st5 h5 f5=>K4 h5 fun v st6 I' J h6 f6 o6 d6=>hk v st6 I' J h6 (f5.trans f6) o6 d6))
theorem Il (h:RB c X A r w m I st) (z:Sz k A) (hwin:c.win<=100000000) (hW:A.err=0->W c A) {s:B8} (hk8:k+3*s.length<=700000) (hl:X.cut.length+s.length<=2000000) (hs:(X.cut.length:Int)<=X.size/\X.size<=100000000) {K:TV->Int->St->Prop}
  (hk1:X.ended=true->K .nilSlice 29 st)
  (hk:X.ended=false->∀v st' I' J,RB c (C6 s X) {BK c s X A with out:=[]} r w m I' st'->FrB r w m I I' st st'->Cr 15 st' v (BK c s X A).out.length (CV (BK c s X A).out) J->(∀id,id∈J->id∉I')->K v 0 st'):
  Ae PR Az [.box r 0,.str s] [.one .tv,.one (.int .i64)] st K:=by
 have zo:=z.ol
 refine Ek r s st K (Ag h.win (Ac rfl (show BIf false _ _ from ?_)))
 refine h.ld (k:=29) (x:= .bool X.ended) (fun _ _=>rfl) (Bg (AI hk1 fun g=>?_))
 have hk:=hk g
 have zb:=z.begin X
 have hWb:(BA X A).err=0->W c (BA X A):=fun he=>(hW (by rw[<-Jd X A];exact he)).begin X
 refine Mh h (by omega) fun st1 I1 h1 f1=>Mg h1 hl hs fun st2 h2 f2=>?_
 have hsz:(Bo s false (Bp X)).size=X.size:=ET ..
 unfold C6 BK at hk
 generalize Bo s false (Bp X)=X2 at*
 generalize BA X A=B at*
 have f12:=f1.trans f2
 refine⟨fun i r1 s1 st3=>∃j I3,i=((j:Nat):Int)/\r1= .box r 0/\s1=s/\j<=s.length/\RB c X2 (BH c (s.take j) X.size B) r w m I3 st3/\FrB r w m I I3 st st3,fun i _ _ _=>s.length-i.toNat,⟨0,I1,rfl,rfl,rfl,Nat.zero_le _,by rw[List.take_zero];exact h2,f12⟩,?_⟩
 rintro i r1 s1 st3 ⟨j,I3,rfl,rfl,rfl,hj,h3,f3⟩
 have fin:BH c s1 X.size B=BH c (s1.take j) X.size B->need (Aa (.box r 0)) (need (Aa (.box r 0)) (Ai (Ab st3 [] (.t (Ah (.box r 0) 23)) 0) fun (x:TV)=>Aj (.int .i64) x fun (n3:Int)=>need (Aa (.box r 0)) (need (Aa (.box r 0)) (stB st3 (Ah (.box r 0) 23) [.int .i64 (i64.wrap (n3+(s1.length:Int)))] fun (st5:St)=>
   Ae PR At [.box r 0] [.one .tv] st5 fun (v2:TV) (st6:St)=>K v2 0 st6)))):=fun e=>by
  rw[e]at hk
  exact ON h3 (by omega) ⟨by omega,by omega⟩ fun v st6 I' J h6 f6 o6 d6=>hk v st6 I' J h6 (f3.trans f6) o6 fun id hid=>(d6 id hid).2
 refine Ad (fun g1=>?_) fun g1=>?_
 ·have hj1:j<s1.length:=by omega
  refine Ac rfl (Ac rfl (h3.ld (k:=28) (x:= .int .i64 (BH c (s1.take j) X.size B).err) (fun _ _=>rfl) (Ak (Ad (fun g2=>?_) fun g2=>?_))))
  ·have zr:=Sz.run (c:=c) (s1.take j) X.size zb
   rw[List.length_take,Nat.min_eq_left hj]at zr
   have hWr:=W.run (s1.take j) X.size hWb g2
   refine⟨⟨by omega,by omega⟩,Ac rfl (Ac rfl (h3.ld (k:=23) (x:= .int .i64 X2.size) (fun _ _=>rfl) (Ak ?_)))⟩
   rw[Ar _ (by omega) (by omega)]
   refine SX (b:=s1.getD j 0) h3 zr (by omega) hwin hWr rfl fun st4 I4 h4 f4=>⟨h4.at (k:=23) (fun _ _=>rfl),⟨j+1,I4,?_,rfl,rfl,hj1,?_,f3.trans f4⟩,?_⟩
   ·rw[Ar _ (by omega) (by omega)];omega
   ·rw[LI s1 j X.size B hj1,if_neg (fun q=>q g2)];rw[hsz]at h4;exact h4
   ·show s1.length-Int.toNat _<s1.length-Int.toNat _
    rw[Ar _ (by omega) (by omega)]
    omega
  ·exact fin (Q4 g2)
 ·exact fin (by rw[List.take_of_length_le (by omega)])
end
end
section
def Qs (X:RX):RX:={X with ended:=true}
def R5 (A:RA):RA:={A with out:=[],held:=[],told:=true}
section
variable {c:SC} {X:RX} {A:RA} {r w m k:Nat} {I:List Nat} {st:St}
theorem RB.frt {J:List Nat} {st':St} (h:RB c X A r w m I st) (f:FrT J st st') (hb:st'.box=st.box) (hn:st'.nb=st.nb) (hd:∀id,id∈I->id∉J):RB c X A r w m I st':=by
 obtain⟨nv,ov,hv,wo,es,I1,I2,I3,h1,h2,h3,h4,h5,h6,h7,h8,h9⟩:=h.ex
 subst h9
 exact⟨by rw[hn];exact h.rb,by rw[hn];exact h.wb,by rw[hn];exact h.mb,h.rw_,h.rm,h.wm,nv,ov,hv,wo,es,I1,I2,I3,by rw[hb];exact h1,by rw[hb];exact h2,by rw[hb];exact h3,h4,
  h5.keep f (fun id hi=>hd id (List.mem_append.2 (.inl (List.mem_append.2 (.inl hi))))),h6.keep f (fun id hi=>hd id (List.mem_append.2 (.inl (List.mem_append.2 (.inr hi))))),h7.keep f (fun id hi=>hd id (List.mem_append.2 (.inr hi))),h8,rfl⟩
theorem KW (h:RB c X A r w m I st) (hl:A.held.length<=100000000) (ho:A.out.length<=90000000) {K:TV->Int->St->Prop}
  (hk:∀v st' I',RB c (Qs X) (R5 A) r w m I' st'->st.nb<=st'.nb->FrT I st st'->(∀b,b≠r->b≠w->b≠m->b<st.nb->st'.box b=st.box b)->(if A.err≠0 then v= .nilSlice else Rd 15 v (A.out++[Ev.le]).length (CV (A.out++[Ev.le])))->K v A.err st'):
  (Ae PR At [(.box r 0)] [.one (.tv)] st (fun (v10:TV) (st21:St)=>need (Aa (.box r 0)) (need (Aa (.box r 0)) (Ai (Ab st21 [] (.t (Ah (.box r 0) 0)) 0) (fun (v11:TV)=>need (Aa (.box r 0)) (need (Aa (.box r 0)) (Ai (Ab st21 [] (.t (Ah (.box r 0) 0)) 0) (fun (v12:TV)=>Ae PR AN [v12] [.one (.int .i64)] st21 (fun (n14:Int) (st22:St)=>(Ab st22 [] (.t (Ah (.box r 0) 0)) 0=some v11/\Ae PR AJ [v11,(.int .i64 n14)] [.one (.str),.one (.int .i64)] st22 (fun (s3:B8) (n15:Int) (st23:St)=>(Ab st23 [] (.t (Ah (.box r 0) 0)) 0=some v12/\need (Aa (.box r 0)) (need (Aa (.box r 0)) (stB st23 (Ah (.box r 0) 29) [(.bool true)] (fun (st24:St)=>need (Aa (.box r 0)) (need (Aa (.box r 0)) (stB st24 (Ah (.box r 0) 18) [(.bool true)] (fun (st25:St)=>need (Aa (.box r 0)) (need (Aa (.box r 0)) (Ai (Ab st25 [] (.t (Ah (.box r 0) 28)) 0) (fun (x18:TV)=>Aj (.int .i64) x18 (fun (n16:Int)=>BIf (decide (n16≠(0:Int))) (need (Aa (.box r 0)) (need (Aa (.box r 0)) (Ai (Ab st25 [] (.t (Ah (.box r 0) 28)) 0) (fun (x19:TV)=>Aj (.int .i64) x19 (fun (n17:Int)=>K (.nilSlice) (n17) st25))))) (AU 118 15 192 v10 1 [(.int .i64 (3:Int)),(.str ([]:B8)),(.int .i64 (0:Int)),(.bool false),(.bool false),(.str ([]:B8)),(.int .i64 (0:Int)),(.int .i64 (0:Int)),(.int .i64 (0:Int)),(.int .i64 (0:Int)),(.int .i64 (0:Int)),(.str ([]:B8)),.nilSlice,.nilSlice,.nilSlice] st25 (fun (v13:TV) (st26:St)=>K (v13) ((0:Int)) st26)))))))))))))))))))))))):=by
 refine K4 h fun v st1 I1 J h1 f1 o1 d1=>Ac rfl (Ac rfl (Ag h1.win (Ac rfl (Ac rfl (Ag h1.win (J0 h1 ⟨h1.win,HN h1 hl fun st2 I2 h2 f2=>⟨h2.win,?_⟩⟩))))))
 refine Ac rfl (Ac rfl (h2.put (k:=29) (Qs X) {A with out:=[],held:=[]} (by decide) rfl rfl rfl (fun _ _=>rfl) fun st3 h3 f3=>Ac rfl (Ac rfl (h3.put (k:=18) (Qs X) (R5 A) (by decide) rfl rfl rfl (fun _ _=>rfl) fun st4 h4 f4=>?_))))
 have f14:=(f2.trans f3).trans f4
 have o4:Cr 15 st4 v A.out.length (CV A.out) J:=o1.keep (J:=I1) ⟨f14.nt,f14.live⟩ fun id hid=>(d1 id hid).2
 have ft:=f1.trans f14
 refine Ac rfl (Ac rfl (h4.ld (k:=28) (x:= .int .i64 A.err) (fun _ _=>rfl) (Ak (Ad (fun g=>?_) fun g=>?_))))
 ·refine Ac rfl (Ac rfl (h4.ld (k:=28) (x:= .int .i64 A.err) (fun _ _=>rfl) (Ak (hk .nilSlice st4 I2 h4 ft.nb ⟨ft.nt,ft.live⟩ ft.box ?_))))
  rw[if_pos g]
 ·have hk:=fun v' st' I' a b x d e=>hk v' st' I' a b x d (by rw[if_neg g];exact e)
  have e0:A.err=0:=by omega
  rw[e0]at hk
  refine HI o4 (by omega) (fun h=>by cases h) fun v' st5 J' o5 f5 hJ hb5 hn5 hbt5=>?_
  have hdis:∀id,id∈I2->id∉J:=fun id hi hj=>by
   have hlt:=o1.lt id hj
   rcases f14.sub id hi with q | q
   ·exact(d1 id hj).2 q
   ·omega
  refine hk v' st5 I2 (h4.frt f5 hb5 hn5 hdis) (by rw[hn5];exact ft.nb) ⟨Nat.le_trans ft.nt f5.nt,fun id hi hn=>(f5.live id (Nat.lt_of_lt_of_le hi ft.nt) fun hj=>hn (d1 id hj).1).trans (ft.live id hi hn)⟩ (fun b x1 x2 x3 x4=>by rw[hb5];exact ft.box b x1 x2 x3 x4) ?_
  have:=o5.rd
  rw[List.length_append,Ij]
  exact this
end
end
section
def DM (c:SC) (X:RX) (A:RA):RA:=if (BA X A).err=0 then Dd c X.size (BA X A)else BA X A
def Fa (X:RX):RX:=Bo [] true (Bp X)
def GZ (c:SC) (X:RX) (A:RA):RA:=if X.lb<X.size then {DM c X A with off:=0,err:=10} else if 0<=(Fa X).text then {DM c X A with off:=(Fa X).text,err:=5} else DM c X A
theorem Sz.last {c:SC} {A:RA} {k:Nat} (z:Sz k A) (o:Int):Sz (k+3) (Dd c o A):=by
 unfold Dd
 split
 ·exact(z.late o 4).mono (by omega)
 split
 ·split
  ·exact((z.enter o).cell).record o
  ·exact z.mono (by omega)
 ·exact((z.cell).record o).mono (by omega)
theorem Mn (s:B8) (last:Bool) (X:RX):(Bo s last X).lb=X.lb:=by
 unfold Bo JY
 split
 ·rfl
 ·split<;>rfl
theorem frK {r w m:Nat} {I I4:List Nat} {st a b:St} (f:FrB r w m I I4 st a) (l:FrT I4 a b):FrT I st b:=
 ⟨Nat.le_trans f.nt l.nt,fun id hi hn=>(l.live id (Nat.lt_of_lt_of_le hi f.nt) fun hj=>(f.sub id hj).elim hn fun q=>by omega).trans (f.live id hi hn)⟩
section
variable {c:SC} {X:RX} {A:RA} {r w m k:Nat} {I:List Nat} {st:St}
theorem QP (h:RB c X A r w m I st) (z:Sz k A) (hwin:c.win<=100000000) (hW:A.err=0->W c A) (hk8:k<=700000) (hl:X.cut.length<=2000000) (hs:(X.cut.length:Int)<=X.size/\X.size<=100000000) {K:TV->Int->St->Prop}
  (hk1:X.ended=true->K .nilSlice 29 st)
  (hk:X.ended=false->∀v st' I',RB c (Qs (Fa X)) (R5 (GZ c X A)) r w m I' st'->st.nb<=st'.nb->FrT I st st'->(∀b,b≠r->b≠w->b≠m->b<st.nb->st'.box b=st.box b)->
   (if (GZ c X A).err≠0 then v= .nilSlice else Rd 15 v ((GZ c X A).out++[Ev.le]).length (CV ((GZ c X A).out++[Ev.le])))->K v (GZ c X A).err st'):
  Ae PR AT [.box r 0] [.one .tv,.one (.int .i64)] st K:=by
 have zo:=z.ol
 refine EH r st K (Ag h.win (Ac rfl (show BIf false _ _ from ?_)))
 refine h.ld (k:=29) (x:= .bool X.ended) (fun _ _=>rfl) (Bg (AI hk1 fun g=>?_))
 have hk:=hk g
 have zb:=z.begin X
 have hWb:(BA X A).err=0->W c (BA X A):=fun he=>(hW (by rw[<-Jd X A];exact he)).begin X
 refine Mh h (by omega) fun st1 I1 h1 f1=>Mg h1 (s:=[]) (show X.cut.length+0<=2000000 from hl) hs fun st2 h2 f2=>?_
 have hsz:(Fa X).size=X.size:=ET ..
 have hlb:(Fa X).lb=X.lb:=Mn ..
 have zl:Sz (k+4) (DM c X A):=by
  unfold DM
  split
  ·exact(zb.last X.size)
  ·exact zb.mono (by omega)
 have h2:RB c (Fa X) (BA X A) r w m I1 st2:=h2
 have f12:=f1.trans f2
 refine⟨fun r1 st4=>∃I4,r1= .box r 0/\RB c (Fa X) (DM c X A) r w m I4 st4/\FrB r w m I I4 st st4,h2.ld (k:=28) (x:= .int .i64 (BA X A).err) (fun _ _=>rfl) (Ak (Ad (fun g2=>?_) fun g2=>?_)),?_⟩
 ·refine SZ h2 zb (by omega) hwin (hWb g2) fun st3 I3 h3 f3=>⟨I3,rfl,?_,f12.trans f3⟩
  rw[hsz]at h3
  unfold DM
  rw[if_pos g2];exact h3
 ·refine⟨I1,rfl,?_,f12⟩
  unfold DM
  rw[if_neg g2];exact h2
 rintro r1 st4 ⟨I4,rfl,h4,f4⟩
 unfold GZ at hk
 generalize DM c X A=L at*
 have zlh:=zl.hl
 have zlo:=zl.ol
 refine Ac rfl (Ac rfl (h4.ld (k:=23) (x:= .int .i64 (Fa X).size) (fun _ _=>rfl) (Ak (Ac rfl (Ac rfl (Ac rfl (h4.ld (k:=7) (x:= .int .i64 (Fa X).lb) (fun _ _=>rfl) (Ak (Ad (fun g3=>?_) fun g3=>?_)))))))))
 ·rw[hsz,hlb]at g3
  rw[if_pos g3]at hk
  refine Ac rfl (Ac rfl (h4.put (k:=27) (Fa X) {L with off:=0} (by decide) rfl rfl rfl (fun _ _=>rfl) fun st5 h5 f5=>Ac rfl (Ac rfl (h5.put (k:=28) (Fa X) {L with off:=0,err:=10} (by decide) rfl rfl rfl (fun _ _=>rfl) fun st6 h6 f6=>?_))))
  have ft:=(f4.trans f5).trans f6
  exact KW h6 (by show L.held.length<=_;omega) (by show L.out.length<=_;omega) fun v st7 I7 h7 nb7 l7 b7 hv=>hk v st7 I7 h7 (Nat.le_trans ft.nb nb7) (frK ft l7) (fun b x1 x2 x3 x4=>(b7 b x1 x2 x3 (Nat.lt_of_lt_of_le x4 ft.nb)).trans (ft.box b x1 x2 x3 x4)) hv
 ·rw[hsz,hlb]at g3
  rw[if_neg g3]at hk
  refine Ac rfl (Ac rfl (h4.ld (k:=24) (x:= .int .i64 (Fa X).text) (fun _ _=>rfl) (Ak (Ad (fun g5=>?_) fun g5=>?_))))
  ·rw[if_pos g5]at hk
   refine Ac rfl (Ac rfl (h4.ld (k:=24) (x:= .int .i64 (Fa X).text) (fun _ _=>rfl) (Ak (Ac rfl (Ac rfl (h4.put (k:=27) (Fa X) {L with off:=(Fa X).text} (by decide) rfl rfl rfl (fun _ _=>rfl) fun st5 h5 f5=>Ac rfl (Ac rfl (h5.put (k:=28) (Fa X) {L with off:=(Fa X).text,err:=5} (by decide) rfl rfl rfl (fun _ _=>rfl) fun st6 h6 f6=>?_))))))))
   have ft:=(f4.trans f5).trans f6
   exact KW h6 (by show L.held.length<=_;omega) (by show L.out.length<=_;omega) fun v st7 I7 h7 nb7 l7 b7 hv=>hk v st7 I7 h7 (Nat.le_trans ft.nb nb7) (frK ft l7) (fun b x1 x2 x3 x4=>(b7 b x1 x2 x3 (Nat.lt_of_lt_of_le x4 ft.nb)).trans (ft.box b x1 x2 x3 x4)) hv
  ·rw[if_neg g5]at hk
   exact KW h4 (by omega) (by omega) fun v st7 I7 h7 nb7 l7 b7 hv=>hk v st7 I7 h7 (Nat.le_trans f4.nb nb7) (frK f4 l7) (fun b x1 x2 x3 x4=>(b7 b x1 x2 x3 (Nat.lt_of_lt_of_le x4 f4.nb)).trans (f4.box b x1 x2 x3 x4)) hv
end
end
theorem O9:∀(n:Nat) (l:B8),l.length<=n->A8 l<=l.length/\ul (l.drop (A8 l))=0/\A8 (l.take (A8 l))=A8 l:=by
 intro n
 induction n with
 | zero=>
  intro l hl
  have:l=[]:=List.eq_nil_of_length_eq_zero (by omega)
  subst this
  rw[Fl]
  exact⟨Nat.le_refl _,by simp[ul],Fl⟩
 | succ n ih=>
  intro l hl
  by_cases hu:ul l=0
  ·rw[Dm _ hu]
   exact⟨Nat.zero_le _,hu,by rw[List.take_zero];exact Fl⟩
  ·have hle:=NJ l
   obtain⟨h1,h2,h3⟩:=ih (l.drop (ul l)) (by rw[List.length_drop];omega)
   rw[Fk _ hu]
   rw[List.length_drop]at h1
   refine⟨by omega,by rw[<-List.drop_drop];exact h2,?_⟩
   have ht:=(Qn (m:=ul l+A8 (l.drop (ul l))) hu (by omega)).1
   rw[Fk _ (by rw[ht];exact hu),ht]
   congr 1
   rw[List.drop_take]
   have:ul l+A8 (l.drop (ul l))-ul l=A8 (l.drop (ul l)):=by omega
   rw[this];exact h3
structure TxP (P:B8) (X:RX):Prop where
 size:X.size=P.length
 st:(X.text<0/\∃a,P=a++X.cut/\A8 a=a.length/\ul X.cut=0)∨(0<=X.text/\X.cut=[]/\∀ext,(A8 (P++ext):Int)=X.text/\X.text<P.length)
theorem TxP.feed {P s:B8} {X:RX} (h:TxP P X):TxP (P++s) (C6 s X):=by
 have hsz:(C6 s X).size=(P++s).length:=by
  show(Bo s false (Bp X)).size+(s.length:Int)=_
  rw[ET,List.length_append]
  show X.size+(s.length:Int)=_
  rw[h.size];omega
 refine⟨hsz,?_⟩
 show((Bo s false (Bp X)).text<0/\_)∨_
 rcases h.st with⟨h1,a,rfl,h3,h4⟩ | ⟨h1,h2,h3⟩
 ·have e:Bo s false (Bp X)=JY (X.cut++s) (A8 (X.cut++s)) false (X.size-(X.cut.length:Int)) (Bp X):=if_neg (by show ¬0<=X.text;omega)
  have hz:X.size-(X.cut.length:Int)=a.length:=by rw[h.size,List.length_append];omega
  show _∨(0<=(Bo s false (Bp X)).text/\(Bo s false (Bp X)).cut=[]/\_)
  unfold C6 NZ
  rw[e,hz]
  obtain⟨v1,v2,v3⟩:=O9 _ (X.cut++s) (Nat.le_refl _)
  generalize ht:X.cut++s=t at*
  have hP:a++X.cut++s=(a++t.take (A8 t))++t.drop (A8 t):=by rw[List.append_assoc,ht,List.append_assoc,List.take_append_drop]
  have ha:A8 (a++t.take (A8 t))=(a++t.take (A8 t)).length:=NC h3 (by rw[v3,List.length_take];omega)
  have hal:(a++t.take (A8 t)).length=a.length+A8 t:=by rw[List.length_append,List.length_take];omega
  unfold JY
  by_cases hc:t.drop (A8 t)≠ []/\(false=true∨Lg (t.drop (A8 t))=false)
  ·rw[if_pos hc]
   have hb:Lg (t.drop (A8 t))=false:=hc.2.elim (fun q=>by cases q) id
   refine .inr ⟨by show(0:Int)<=(a.length:Int)+(A8 t:Int);omega,rfl,fun ext=>?_⟩
   show((A8 (a++X.cut++s++ext):Nat):Int)=(a.length:Int)+(A8 t:Int)/\(a.length:Int)+(A8 t:Int)<_
   rw[hP,List.append_assoc (a++t.take (A8 t)),Kc _ _ _ (Nat.le_refl _) ha,O8 hc.1 v2 hb ext,hal]
   have hpos:=List.length_pos_iff.2 hc.1
   refine⟨by omega,?_⟩
   rw[List.length_append,hal];omega
  ·rw[if_neg hc]
   exact .inl ⟨h1,a++t.take (A8 t),hP,ha,v2⟩
 ·have e:Bo s false (Bp X)=Bp X:=if_pos h1
  unfold C6 NZ
  rw[e]
  refine .inr ⟨h1,h2,fun ext=>?_⟩
  obtain⟨k1,k2⟩:=h3 (s++ext)
  rw[<-List.append_assoc]at k1
  exact⟨k1,by show X.text<_;rw[List.length_append];omega⟩
theorem TxP.done {P:B8} {X:RX} (h:TxP P X):if A8 P=P.length then(Fa X).text<0 else(Fa X).text=A8 P:=by
 unfold Fa
 rcases h.st with⟨h1,a,rfl,h3,h4⟩ | ⟨h1,h2,h3⟩
 ·have e:Bo [] true (Bp X)=JY (X.cut++[]) (A8 (X.cut++[])) true (X.size-(X.cut.length:Int)) (Bp X):=if_neg (by show ¬0<=X.text;omega)
  rw[e,List.append_nil,Dm _ h4]
  unfold JY
  have hv:A8 (a++X.cut)=a.length:=by rw[Kc _ _ _ (Nat.le_refl _) h3,Dm _ h4];rfl
  have hz:X.size-(X.cut.length:Int)=a.length:=by rw[h.size,List.length_append];omega
  rw[List.drop_zero,hv,hz,List.length_append]
  by_cases hc:X.cut=[]
  ·rw[if_pos (by rw[hc];rfl),if_neg (fun q=>q.1 hc)]
   exact h1
  ·have hpos:=List.length_pos_iff.2 hc
   rw[if_neg (by omega),if_pos ⟨hc,.inl rfl⟩]
   show(a.length:Int)+((0:Nat):Int)=_
   omega
 ·have e:Bo [] true (Bp X)=Bp X:=if_pos h1
  rw[e]
  obtain⟨k1,k2⟩:=h3 []
  rw[List.append_nil]at k1
  rw[if_neg (by omega)]
  exact k1.symm
section
def Ep (a q:Int) (hd ty:Bool) (l0 l1 size:Int):SC:=⟨a,q,hd,ty,l0,l1,size.toNat⟩
def Ic (l2 l3 l4:Int):RX:=⟨false,0, -1,[],false,l2,l3,l4⟩
def Gx (a q l0 l1 l2 l3 l4 size:Int):Prop:=(1<=size/\size<=65536)/\dOk a q=true/\lOk l0 l1 l2 l3 l4=true
theorem TxP.start (l2 l3 l4:Int):TxP [] (Ic l2 l3 l4):=⟨rfl,.inl ⟨by show(-1:Int)<0;decide,[],rfl,Fl,by simp[ul,Ic]⟩⟩
theorem KO (st:St) (o:It) (T:Option Nat):Cq st (st.push o T):=
 ⟨Nat.le_succ _,fun i hi=>by simp[St.push,Nat.ne_of_lt hi],Nat.le_refl _,fun _ _=>rfl,fun _ _=>rfl,fun i hi=>by simp[St.push,Nat.ne_of_lt hi]⟩
theorem QO {a q:Int} {hd ty:Bool} {l0 l1 l2 l3 l4 size:Int} {st:St} {K:TV->Int->St->Prop}
  (hk0:¬Gx a q l0 l1 l2 l3 l4 size->∀st',Cq st st'->K .nilPtr 1 st')
  (hk1:Gx a q l0 l1 l2 l3 l4 size->∀st',Cq st st'->RB (Ep a q hd ty l0 l1 size) (Ic l2 l3 l4) RA.start (st.nb+2) st.nb (st.nb+1) [] st'->K (.box (st.nb+2) 0) 0 st'):
  Ae PR BV [.agg [.int .u8 a,.int .u8 q,.bool hd,.bool ty],.agg [.int .i64 l0,.int .i64 l1,.int .i64 l2,.int .i64 l3,.int .i64 l4],.int .i64 size] [.one .tv,.one (.int .i64)] st K:=by
 refine Hm a q hd ty l0 l1 l2 l3 l4 size st K (Lp size st _ (Ad (fun g=>?_) fun g=>Ad (fun g1=>?_) fun g1=>?_))
 ·exact Ad (fun _=>hk0 (fun h=>by have:=h.1.1;omega) st (Cq.refl st)) fun h=>absurd (by decide) h
 ·exact Ad (fun _=>hk0 (fun h=>by have:=h.1.2;omega) st (Cq.refl st)) fun h=>absurd (by decide) h
 have e1:=KO st (.cells [.int .i64 size,.nilSlice,.int .i64 0,.bool false]) (some 194)
 refine Ad (fun h=>absurd rfl h) fun _=>Rz (AI (fun g2=>?_) fun g2=>PB (AI (fun g3=>?_) fun g3=>?_))
 ·have g2':=(Bool.not_eq_true' _).mp g2
  exact hk0 (fun h=>by rw[h.2.1]at g2';cases g2') _ e1
 ·have g3':=(Bool.not_eq_true' _).mp g3
  exact hk0 (fun h=>by rw[h.2.2]at g3';cases g3') _ e1
 have g2':=(Bool.not_eq_false' _).mp g2
 have g3':=(Bool.not_eq_false' _).mp g3
 refine Ac rfl (hk1 ⟨⟨by omega,by omega⟩,g2',g3'⟩ _ ((e1.trans (KO _ _ _)).trans (KO _ _ _)) ?_)
 have hsz:((size.toNat:Nat):Int)=size:=Int.toNat_of_nonneg (by omega)
 refine⟨by simp[St.push],by simp[St.push];omega,by simp[St.push],by omega,by omega,by omega,.nilSlice,.nilSlice,.nilSlice,0,[],[],[],[],?_,?_,?_,fun t=>by simp[Cv,RA.start],Cr.nil _ _,Cr.nil _ _,Cr.nil _ _,by simp,rfl⟩
 ·simp[St.push];rfl
 ·simp[St.push,Ep,hsz];omega
 ·simp[St.push]
section
variable {c:SC} {X:RX} {A:RA} {r w m k:Nat} {I:List Nat} {st:St}
end
end
section
structure FI (c:SC) (P:B8) (k:Nat) (X:RX) (A:RA):Prop where
 tx:TxP P X
 ended:X.ended=false
 sz:Sz k A
 w:A.err=0->W c A
def EJ (A:RA):RA:={A with out:=[]}
theorem FI.start (c:SC) (l2 l3 l4:Int):FI c [] 1 (Ic l2 l3 l4) RA.start:=
 ⟨TxP.start l2 l3 l4,rfl,⟨Nat.zero_le _,Nat.zero_le _,Nat.zero_le _,Nat.zero_le _,Nat.zero_le _,by decide,by decide⟩,fun _=>W.start c⟩
theorem Nj (s:B8) (last:Bool) (X:RX):(Bo s last X).ended=X.ended:=by
 unfold Bo JY
 split
 ·rfl
 ·split<;>rfl
theorem FI.feed {c:SC} {P s:B8} {k:Nat} {X:RX} {A:RA} (h:FI c P k X A):FI c (P++s) (k+1+3*s.length) (C6 s X) (EJ (BK c s X A)):=by
 have z:=Sz.run (c:=c) s X.size (h.sz.begin X)
 refine⟨h.tx.feed,?_,⟨z.hl,Nat.zero_le _,z.cl,z.nl,z.rl,z.n0,z.n1⟩,fun he=>?_⟩
 ·show(Bo s false (Bp X)).ended=false
  rw[Nj];exact h.ended
 ·have hw:=W.run (c:=c) s X.size (fun he=>(h.w (by rw[<-Jd X A];exact he)).begin X) (show(BH c s X.size (BA X A)).err=0 from he)
  exact⟨hw.ph,hw.wi,hw.held,hw.nm,hw.cw⟩
theorem FI.cut {c:SC} {P:B8} {k:Nat} {X:RX} {A:RA} (h:FI c P k X A):X.cut.length<=P.length:=by
 rcases h.tx.st with⟨_,a,e,_⟩ | ⟨_,e,_⟩
 ·have:=congrArg List.length e
  rw[List.length_append]at this
  omega
 ·rw[e];exact Nat.zero_le _
def Bz (c:SC):List B8->RX×RA×List Ev->RX×RA×List Ev
 | [],p=>p
 | s::r,(X,A,o)=>Bz c r (C6 s X,EJ (BK c s X A),o++(BK c s X A).out)
theorem JA (c:SC) (s:B8):∀(l:List B8) (p:RX×RA×List Ev),Bz c (l++[s]) p=(C6 s (Bz c l p).1,EJ (BK c s (Bz c l p).1 (Bz c l p).2.1),(Bz c l p).2.2++(BK c s (Bz c l p).1 (Bz c l p).2.1).out)
 | [],(X,A,o)=>rfl
 | x::l,(X,A,o)=>JA c s l _
section
variable {c:SC} {X:RX} {A:RA} {r w m k:Nat} {I:List Nat} {st:St}
theorem OU (h:RB c X A r w m I st) (hl:A.names.length<=90000000) {K:TV->St->Prop} (hk1:(A.told=false∨c.hd=false)->K .nilSlice st)
  (hk:A.told=true->c.hd=true->∀v st1,Rd 1 v A.names.length (A.names.map TV.str)->RB c X A r w m I st1->FrB r w m I I st st1->K v st1):
  Ae PR AS [.box r 0] [.one .tv] st K:=by
 obtain⟨nv,ov,hv,wo,es,I1,I2,I3,h1,h2,h3,h4,h5,h6,h7,h8,h9⟩:=h.ex
 refine Dw r st K (h.ld (k:=18) (x:= .bool A.told) (fun _ _=>rfl) (Bg (AI (fun g=>hk1 (.inl ((Bool.not_eq_true' _).mp g))) fun g=>?_)))
 refine h.ld (k:=3) (x:= .bool c.hd) (fun _ _=>rfl) (Bg (AI (fun g2=>hk1 (.inr ((Bool.not_eq_true' _).mp g2))) fun g2=>?_))
 have hk:=hk ((Bool.not_eq_false' _).mp g) ((Bool.not_eq_false' _).mp g2)
 have hsrc:BW st 1 nv=some (A.names.length,A.names.map TV.str):=by
  rcases h5 with⟨rfl,e1,e2,_⟩ | ⟨rfl,_⟩ | ⟨id,rfl,_⟩
  ·rw[e1,e2];rfl
  ·rfl
  ·rfl
 have hall:List.all (A.names.map TV.str) Aw=true:=by
  rw[List.all_eq_true]
  intro x hx
  obtain⟨t,_,rfl⟩:=List.mem_map.1 hx
  rfl
 have ho:Cr 1 st (.list 1 .full 0 []) 0 [] []:= .inr (.inl ⟨rfl,rfl⟩)
 refine Ag (x:=nv) (by simp only[Ab,h1];rfl) (Ag hsrc (Ac hall ?_))
 refine HI ho (by omega) (fun g=>by rw[List.eq_nil_of_length_eq_zero g];rfl) fun v st1 J o1 f1 hJ hb hn hbt=>?_
 have e:=o1.rd
 rw[Nat.zero_add,List.nil_append]at e
 exact hk v st1 e (h.frt f1 hb hn fun _ _ q=>by cases q) ⟨Nat.le_of_eq hn.symm,f1.nt,fun b _ _ _ _=>by rw[hb],fun id hi _=>f1.live id hi fun q=>(by cases q),fun _ q=> .inl q⟩
end
end
section
theorem OF (l:List Ev):List.all (CV l) Aw=true:=by
 induction l with
 | nil=>rfl
 | cons e l ih=>
  show List.all (evT e++CV l) Aw=true
  rw[List.all_append,ih,Bool.and_true]
  cases e<;>rfl
theorem Sh {st st':St} {v:TV} {l:List Ev} {J:List Nat} (h:Cr 15 st v l.length (CV l) J):BW st' 15 v=some (l.length,CV l):=by
 rcases h with⟨rfl,e1,e2,_⟩ | ⟨rfl,_⟩ | ⟨id,rfl,_⟩
 ·rw[e1,e2];rfl
 ·rfl
 ·rfl
theorem rd_src {st':St} {v:TV} {l:List Ev} (h:Rd 15 v l.length (CV l)):BW st' 15 v=some (l.length,CV l):=by
 rcases h with⟨rfl,e1,e2⟩ | ⟨tip,rfl⟩
 ·rw[e1,e2];rfl
 ·rfl
section
variable {c:SC} {X:RX} {A:RA} {r w m k:Nat} {I:List Nat} {st:St}
theorem RB.lt (h:RB c X A r w m I st):∀id,id∈I->id<st.nt:=by
 obtain⟨nv,ov,hv,wo,es,I1,I2,I3,h1,h2,h3,h4,h5,h6,h7,h8,rfl⟩:=h.ex
 intro id hid
 rcases List.mem_append.1 hid with hid | hid
 ·exact(List.mem_append.1 hid).elim (h5.lt id) (h6.lt id)
 ·exact h7.lt id hid
theorem PX (h:RB c X A r w m I st) {P s:B8} (f:FI c P k X A) (hwin:c.win<=100000000) (hk8:k+1+3*s.length<=700000) (hP:P.length<=1000000) {out:TV} {o:List Ev} {Io:List Nat} (ho:Cr 15 st out o.length (CV o) Io) (hol:o.length<=100000000000) (hd:∀id,id∈Io->id∉I) {K:TV->St->Prop}
  (hk:∀v st' I' J,RB c (C6 s X) (EJ (BK c s X A)) r w m I' st'->Cr 15 st' v (o++(BK c s X A).out).length (CV (o++(BK c s X A).out)) J->(∀id,id∈J->id∉I')->st.nb<=st'.nb->(∀b,b≠r->b≠w->b≠m->b<st.nb->st'.box b=st.box b)->K v st'):
  Ae PR Az [.box r 0,.str s] [.one .tv,.one (.int .i64)] st fun (v2:TV) (n2:Int) (st3:St)=>Ai (BW st3 15 v2) fun (q1:Nat×List TV)=>need (List.all q1.2 Aw) (AU 118 15 192 out q1.1 q1.2 st3 fun (v3:TV) (st4:St)=>K v3 st4):=by
 have hc:=f.cut
 have hs:=f.tx.size
 have zf:=Sz.run (c:=c) s X.size (f.sz.begin X)
 have zo:=zf.ol
 refine Il h f.sz hwin f.w (by omega) (by omega) ⟨by omega,by omega⟩ (fun g=>by rw[f.ended]at g;cases g) fun _ v st3 I' J h3 f3 o3 d3=>?_
 refine Ag (Sh o3) (Ac (OF _) ?_)
 have ho3:Cr 15 st3 out o.length (CV o) Io:=ho.keep (J:=I) ⟨f3.nt,f3.live⟩ hd
 have hfo:(BK c s X A).out.length<=3000000:=Nat.le_trans zo (by omega)
 have hdis:∀id,id∈I'->id∉Io:=fun id hi hj=>by
  have hlt:=ho.lt id hj
  rcases f3.sub id hi with q | q
  ·exact hd id hj q
  ·omega
 refine HI ho3 (by omega) (fun g=>by rw[List.eq_nil_of_length_eq_zero g];rfl) fun v' st4 J' o4 f4 hJ hb hn hbt=>?_
 refine hk v' st4 I' J' (h3.frt f4 hb hn hdis) ?_ (fun id hid hi=>?_) (by rw[hn];exact f3.nb) (fun b x1 x2 x3 x4=>by rw[hb];exact f3.box b x1 x2 x3 x4)
 ·rw[List.length_append,Ij];exact o4
 ·rcases hJ with rfl | rfl
  ·exact hdis id hi hid
  ·rw[List.mem_singleton]at hid
   have:=h3.lt id hi
   omega
end
end
def Eo (c:SC) (l2 l3 l4:Int) (ps:List B8):RX×RA×List Ev:=Bz c ps (Ic l2 l3 l4,RA.start,[])
theorem Ru (ps:List B8) (j:Nat) (h:j<ps.length):((ps.take (j+1)).flatten).length=((ps.take j).flatten).length+(ps.getD j []).length:=by
 rw[CR _ _ [] h];simp
theorem OA (ps:List B8) (j:Nat):((ps.take j).flatten).length<=ps.flatten.length:=by
 have:ps.flatten=(ps.take j).flatten++(ps.drop j).flatten:=by rw[<-List.flatten_append,List.take_append_drop]
 rw[this,List.length_append];omega
theorem PZ {ps:List B8} {parts:TV} (hp:Rd 1 parts ps.length (ps.map TV.str)) (hsz:ps.length+3*ps.flatten.length<=30000) {a q:Int} {hd ty:Bool} {l0 l1 l2 l3 l4 size:Int} {st:St} {K:TV->Int->Int->St->Prop}
  (hk0:¬Gx a q l0 l1 l2 l3 l4 size->∀st',Cq st st'->K .nilSlice 0 1 st')
  (hk1:Gx a q l0 l1 l2 l3 l4 size->∀p E,p=Eo (Ep a q hd ty l0 l1 size) l2 l3 l4 ps->E=GZ (Ep a q hd ty l0 l1 size) p.1 p.2.1->∀v st',st.nb<=st'.nb->(∀b,b<st.nb->st'.box b=st.box b)->
   (if E.err≠0 then v= .nilSlice else Rd 15 v (p.2.2++(E.out++[Ev.le])).length (CV (p.2.2++(E.out++[Ev.le]))))->K v (if E.err≠0 then E.off else 0) E.err st'):
  Ae PR Bf [parts,.agg [.int .u8 a,.int .u8 q,.bool hd,.bool ty],.agg [.int .i64 l0,.int .i64 l1,.int .i64 l2,.int .i64 l3,.int .i64 l4],.int .i64 size] [.one .tv,.one (.int .i64),.one (.int .i64)] st K:=by
 refine Gd parts a q hd ty l0 l1 l2 l3 l4 size st K (QO (fun g st1 e1=>Ad (fun _=>hk0 g st1 e1) fun h=>absurd (by decide) h) fun g st1 e1 hR=>Ad (fun h=>absurd rfl h) fun _=>Ac hp.isSl ?_)
 have hk:=fun p E=>hk1 g p E
 have hwin:(Ep a q hd ty l0 l1 size).win<=100000000:=by show size.toNat<=_;have:=g.1;omega
 generalize Ep a q hd ty l0 l1 size=c at*
 refine⟨fun out n r v n2 st2=>∃(j k:Nat) (I Io:List Nat) (X:RX) (A:RA) (o:List Ev),n=(j:Int)/\r= .box (st.nb+2) 0/\v=parts/\n2=(ps.length:Int)/\j<=ps.length/\k<=1+j+3*((ps.take j).flatten).length/\FI c (ps.take j).flatten k X A/\RB c X A (st.nb+2) st.nb (st.nb+1) I st2/\Cr 15 st2 out o.length (CV o) Io/\
   o.length<=j*3000000/\(∀id,id∈Io->id∉I)/\st.nb<=st2.nb/\(∀b,b<st.nb->st2.box b=st.box b)/\Bz c (ps.take j) (Ic l2 l3 l4,RA.start,[])=(X,A,o),fun _ n _ _ _ _=>ps.length-n.toNat,
  ⟨0,1,[],[],_,_,[],rfl,rfl,rfl,by rw[hp.lenS],Nat.zero_le _,by simp,FI.start c l2 l3 l4,hR,Cr.nil _ _,Nat.zero_le _,fun _ h=>(by cases h),e1.nb,e1.box,rfl⟩,?_⟩
 rintro out n r v n2 st2 ⟨j,k,I,Io,X,A,o,rfl,rfl,rfl,rfl,hj,hk8,hF,hB,ho,hol,hdis,hnb,hbx,hfe⟩
 have hfl:=OA ps j
 refine Ad (fun g1=>?_) fun g1=>?_
 ·have hj1:j<ps.length:=by omega
  have hf1:=Ru ps j hj1
  have hf2:=OA ps (j+1)
  refine⟨⟨by omega,by rw[hp.lenZ];omega⟩,Ag (x:= .str (ps.getD j [])) ?_ (AG ?_)⟩
  ·rw[Int.toNat_natCast,hp.ld st2 j 0 (by simp;exact hj1)]
   simp[List.getD_eq_getElem?_getD,hj1]
  refine PX hB hF hwin (by omega) (by omega) ho (by omega) hdis fun v' st3 I3 J3 h3 o3 d3 nb3 b3=>⟨⟨j+1,k+1+3*(ps.getD j []).length,I3,J3,_,_,_,?_,rfl,rfl,rfl,hj1,by omega,?_,h3,o3,?_,d3,Nat.le_trans hnb nb3,fun b hb=>?_,?_⟩,?_⟩
  ·rw[Ar _ (by omega) (by omega)];omega
  ·have:=hF.feed (s:=ps.getD j [])
   rw[CR _ _ [] hj1]
   simpa using this
  ·have zf:=(Sz.run (c:=c) (ps.getD j []) X.size (hF.sz.begin X)).ol
   have:(BK c (ps.getD j []) X A).out.length<=4*(k+1+3*(ps.getD j []).length):=zf
   rw[List.length_append];omega
  ·rw[b3 b (by omega) (by omega) (by omega) (by omega)];exact hbx b hb
  ·rw[CR _ _ [] hj1,JA,hfe]
  ·show ps.length-Int.toNat _<ps.length-Int.toNat _
   rw[Ar _ (by omega) (by omega)];omega
 ·have hj':j=ps.length:=by omega
  have hall:ps.take j=ps:=List.take_of_length_le (by omega)
  rw[hall]at hfe hF
  have hs:=hF.tx.size
  have hc:=hF.cut
  have hk:=hk (X,A,o) (GZ c X A) hfe.symm rfl
  have zo:(GZ c X A).out.length<=4000000:=by
   have zb:=hF.sz.begin X
   have zl:Sz (k+4) (DM c X A):=by
    unfold DM
    split
    ·exact zb.last X.size
    ·exact zb.mono (by omega)
   have:=zl.ol
   unfold GZ
   split
   ·show(DM c X A).out.length<=_;omega
   split
   ·show(DM c X A).out.length<=_;omega
   ·omega
  refine QP hB hF.sz hwin hF.w (by omega) (by omega) ⟨by omega,by omega⟩ (fun g=>by rw[hF.ended]at g;cases g) fun _ v' st3 I3 h3 nb3 l3 b3 hv=>Ad (fun g3=>?_) fun g3=>?_
  ·rw[if_pos g3]at hk
   exact Ac rfl (Ac rfl (h3.ld (k:=27) (x:= .int .i64 (GZ c X A).off) (fun _ _=>rfl) (Ak (hk .nilSlice st3 (Nat.le_trans hnb nb3) (fun b hb=>by rw[b3 b (by omega) (by omega) (by omega) (by omega)];exact hbx b hb) (by rw[if_pos g3])))))
  ·rw[if_neg g3]at hk hv
   have e0:(GZ c X A).err=0:=by omega
   have ho3:=ho.keep l3 hdis
   refine Ag (rd_src hv) (Ac (OF _) (HI ho3 ?_ (fun h=>?_) fun v5 st6 J6 o6 f6 hJ6 hb6 hn6 hbt6=>?_))
   ·rw[List.length_append,List.length_singleton];omega
   ·rw[List.length_append,List.length_singleton]at h;omega
   ·have o6r:=o6.rd
    rw[<-Ij,<-List.length_append]at o6r
    have hf:=hk v5 st6 (by rw[hn6];exact Nat.le_trans hnb nb3) (fun b hb=>by rw[hb6,b3 b (by omega) (by omega) (by omega) (by omega)];exact hbx b hb) (by rw[if_neg g3];exact o6r)
    rw[e0]at hf
    exact hf
section
def AP (p:List Ev) (A:RA):RA:={A with out:=p++A.out}
variable {c:SC} {A:RA} {p:List Ev}
theorem Co (o e:Int):AZ (AP p A) o e=AP p (AZ A o e):=by
 unfold AZ
 show(if A.err=0 then _ else _)=_
 split<;>rfl
theorem Lj (e:Int):Bk (AP p A) e=AP p (Bk A e):=by
 unfold Bk
 show(if A.late=0 then _ else _)=_
 split<;>rfl
theorem Ms (d:Int):Bj c (AP p A) d=AP p (Bj c A d):=by
 unfold Bj
 show DP (if c.dep<d then Bk (AP p A) 9 else if c.nod<=A.nodes then Bk (AP p A) 10 else AP p A)=_
 rw[Lj,Lj]
 split
 ·rfl
 ·split<;>rfl
theorem Mu (o:Int):AD c (AP p A) o=AP p (AD c A o):=by
 have e1:AC c (AP p A) o=AP p (AC c A o):=by
  unfold AC
  show(if A.within=true then _ else if AK c A=true then _ else Bj c (AP p {A with frm:=o,within:=true,cells:=0}) 2)=_
  rw[Ms]
  split
  ·rfl
  ·split<;>rfl
 have e2:∀B:RA,BJ (AP p B)=AP p (BJ B):=fun B=>by
  unfold BJ
  show(if 0<B.rows/\B.width<=B.cells then Bk (AP p B) 10 else _)=_
  rw[Lj]
  split<;>rfl
 have e3:∀B:RA,CK c (AP p B)=AP p (CK c B):=fun B=>by
  unfold CK
  show(if AK c B=true then _ else Bj c (AP p B) 3)=_
  rw[Ms]
  split<;>rfl
 unfold AD
 rw[e1,e2,e3]
theorem Lk (b:UInt8):BO c b (AP p A)=AP p (BO c b A):=by
 unfold BO
 show(if c.win<=A.held.length then AZ (AP p A) A.frm 28 else _)=_
 rw[Co]
 split<;>rfl
theorem O2 (o e:Int):DR (AP p A) o e=AP p (DR A o e):=by
 unfold DR
 show AZ (if A.late≠0 then AZ (AP p A) A.frm A.late else AP p A) o e=_
 rw[Co]
 split
 ·rw[Co]
 ·rw[Co]
theorem FZ (o:Int):AB c (AP p A) o=AP p (AB c A o):=by
 have e1:BL (AP p A)=AP p (BL A):=by
  unfold BL
  show(if A.rows=0 then _ else _)=_
  split<;>rfl
 have e2:∀B:RA,BR c (AP p B) o=AP p (BR c B o):=fun B=>by
  unfold BR
  show(if B.cells<B.width then AZ (AP p B) o 10 else _)=_
  rw[Co]
  split
  ·rfl
  ·unfold AP
   simp only[List.append_assoc]
   rfl
 unfold AB
 show(if A.err≠0 then _ else _)=_
 rw[e1,e2]
 split<;>rfl
theorem Tl (t:B8) (qd:Bool):Jj c (AP p A) t qd=AP p (Jj c A t qd):=by
 by_cases hh:AK c A=true
 ·have hh':AK c (AP p A)=true:=hh
  unfold Jj
  rw[if_pos hh,if_pos hh']
  by_cases h1:1024<t.length
  ·simp only[if_pos h1,Co];rfl
  ·by_cases h2:t∈A.names
   ·have h2':t∈(AP p A).names:=h2
    simp only[if_neg h1,if_pos h2,if_pos h2',Co];rfl
   ·have h2':¬t∈(AP p A).names:=h2
    simp only[if_neg h1,if_neg h2,if_neg h2'];rfl
 ·have hh':¬AK c (AP p A)=true:=hh
  unfold Jj
  rw[if_neg hh,if_neg hh']
  by_cases h1:65536<t.length
  ·rw[if_pos h1,if_pos h1,Co];rfl
  ·rw[if_neg h1,if_neg h1]
   unfold AP
   simp only[List.append_assoc]
theorem Ll:AO c (AP p A)=AP p (AO c A):=by
 by_cases hl:A.late≠0
 ·unfold AO
  rw[if_pos hl,if_pos (show(AP p A).late≠0 from hl)]
  exact Co (A:={A with held:=[]}) A.frm A.late
 ·rw[HF c A hl,HF c (AP p A) hl]
  exact Tl (A:={A with held:=[]}) _ _
theorem Mv (b:UInt8) (o:Int):B7 c b o (AP p A)=AP p (B7 c b o A):=by
 unfold B7
 rw[Ll]
 show(if (AO c A).err≠0 then _ else if (b.toNat:Int)=c.a then _ else if (b.toNat:Int)=10 then AB c (AP p (AO c A)) o else if (b.toNat:Int)=13 then _ else AZ (AP p (AO c A)) o 3)=_
 rw[FZ,Co]
 split
 ·rfl
 split
 ·rfl
 split
 ·rfl
 split<;>rfl
theorem Mt (b:UInt8) (o:Int):BU c b o (AP p A)=AP p (BU c b o A):=by
 unfold BU
 rw[Mv,O2,Lk]
 split
 ·rfl
 split<;>rfl
theorem Tm (b:UInt8) (o:Int):A4 c b o (AP p A)=AP p (A4 c b o A):=by
 have h1:∀(B:RA) (k:Nat),BO c b {AP p B with ph:=k}=AP p (BO c b {B with ph:=k}):=fun B k=>Lk (A:={B with ph:=k}) b
 have h2:∀(B:RA) (k:Nat),BU c b o {AP p B with ph:=k}=AP p (BU c b o {B with ph:=k}):=fun B k=>Mt (A:={B with ph:=k}) b o
 unfold A4
 rw[Mu,h1,h2,Mt,h1,Mv,Co]
 show(if A.ph=0 then _ else if A.ph=1 then _ else if A.ph=2 then BO c b (if (b.toNat:Int)=c.q then {AP p A with ph:=3} else AP p A)else if A.ph=3 then _ else if (b.toNat:Int)≠10 then _ else AB c (AP p A) A.line)=_
 rw[FZ]
 split
 ·split<;>rfl
 split
 ·rfl
 split
 ·split
  ·exact h1 A 3
  ·exact Lk b
 split
 ·split<;>rfl
 split<;>rfl
theorem Ka:∀(l:B8) (o:Int) (A:RA),BH c l o (AP p A)=AP p (BH c l o A)
 | [],o,A=>rfl
 | b::r,o,A=>by
  unfold BH
  show(if A.err≠0 then _ else _)=_
  rw[Tm,Ka r]
  split<;>rfl
theorem O3 (o:Int):Dd c o (AP p A)=AP p (Dd c o A):=by
 unfold Dd
 show(if A.ph=2∨A.ph=4 then _ else if A.ph=0 then(if A.within=true then _ else _)else _)=_
 rw[O2,Mu,Ll,FZ,Ll,FZ]
 split
 ·rfl
 split
 ·split<;>rfl
 ·rfl
end
theorem Ks {c:SC}:∀(a b:B8) (o:Int) (A:RA),BH c (a++b) o A=BH c b (o+a.length) (BH c a o A)
 | [],b,o,A=>by rw[List.nil_append,BH];simp
 | x::a,b,o,A=>by
  rw[List.cons_append,BH,BH]
  by_cases h:A.err≠0
  ·rw[if_pos h,if_pos h,Kr h]
  ·rw[if_neg h,if_neg h,Ks a b]
   have e:o+1+(a.length:Int)=o+((x::a).length:Int):=by rw[List.length_cons];omega
   rw[e]
theorem O1 (F:RA):AP F.out (EJ F)=F:=by
 unfold AP EJ
 cases F
 simp
theorem add_add (p q:List Ev) (A:RA):AP p (AP q A)=AP (p++q) A:=by
 unfold AP
 simp only[List.append_assoc]
theorem JB (s:B8) (X:RX):(C6 s X).begun=true:=by
 show(Bo s false (Bp X)).begun=true
 unfold Bo JY
 split
 ·rfl
 ·split<;>rfl
theorem Hy (s:B8) (X:RX):(C6 s X).size=X.size+s.length:=by
 show(Bo s false (Bp X)).size+(s.length:Int)=_
 rw[ET];rfl
theorem L4 (c:SC):∀(ps:List B8) (X:RX) (A:RA) (o:List Ev),X.begun=true->
  AP (Bz c ps (X,A,o)).2.2 (Bz c ps (X,A,o)).2.1=AP o (BH c ps.flatten X.size A)/\(Bz c ps (X,A,o)).1.begun=true/\(Bz c ps (X,A,o)).1.size=X.size+ps.flatten.length
 | [],X,A,o,h=>⟨rfl,h,by show X.size=X.size+(0:Nat);omega⟩
 | s::r,X,A,o,h=>by
  obtain⟨h1,h2,h3⟩:=L4 c r (C6 s X) (EJ (BK c s X A)) (o++(BK c s X A).out) (JB s X)
  have hf:BK c s X A=BH c s X.size A:=by unfold BK BA;rw[if_pos h]
  refine⟨?_,h2,?_⟩
  ·show AP (Bz c r _).2.2 (Bz c r _).2.1=_
   rw[h1,<-add_add,<-Ka,O1,Hy,hf,List.flatten_cons,Ks]
  ·show(Bz c r _).1.size=_
   rw[h3,Hy,List.flatten_cons,List.length_append];omega
def Pi:RA:={RA.start with out:=[.ls]}
theorem end_add {c:SC} {X:RX} {A:RA} {o:List Ev} (hb:X.begun=true):AP o (DM c X A)=Nb c X.size (AP o A):=by
 unfold DM Nb BA
 rw[if_pos hb]
 show _=if A.err=0 then _ else _
 rw[O3]
 split<;>rfl
theorem Ri (c:SC) (l2 l3 l4:Int) (ps:List B8):
  AP (Eo c l2 l3 l4 ps).2.2 (DM c (Eo c l2 l3 l4 ps).1 (Eo c l2 l3 l4 ps).2.1)=Nb c (ps.flatten.length:Int) (BH c ps.flatten 0 Pi):=by
 cases ps with
 | nil=>rfl
 | cons s r=>
  have hF:BK c s (Ic l2 l3 l4) RA.start=BH c s 0 Pi:=rfl
  obtain⟨h1,h2,h3⟩:=L4 c r (C6 s (Ic l2 l3 l4)) (EJ (BK c s (Ic l2 l3 l4) RA.start)) ([]++(BK c s (Ic l2 l3 l4) RA.start).out) (JB _ _)
  show AP (Bz c r _).2.2 (DM c (Bz c r _).1 (Bz c r _).2.1)=_
  rw[end_add h2,h1,h3,List.nil_append,<-Ka,O1,hF,Hy]
  have e0:(Ic l2 l3 l4).size=0:=rfl
  rw[e0,List.flatten_cons,Ks,List.length_append]
  have e:(0:Int)+(s.length:Int)+(r.flatten.length:Int)=((s.length+r.flatten.length:Nat):Int):=by omega
  rw[e]
def evR (c:SC) (l2:Int) (s:B8):Except (Int×Int) (List Ev):=
 if l2<s.length then .error (0,10)else if A8 s≠s.length then .error ((A8 s:Int),5)
 else match DN (cxA c s) c.hd (s.length+1) [] 0 1 [] 0 with
  | .error p=> .error (Hi p (CU c s 0))
  | .ok rs=>match CU c s 0 with | some m=> .error ((m:Int),28) | none=> .ok ([Ev.ls]++(evD c rs++[Ev.le]))
def Ma (E:RA) (o:List Ev):Except (Int×Int) (List Ev):=if E.err≠0 then .error (E.off,E.err)else .ok (o++(E.out++[Ev.le]))
theorem NK (c:SC):∀(ps:List B8) (X:RX) (A:RA) (o:List Ev) (P:B8),TxP P X->TxP (P++ps.flatten) (Bz c ps (X,A,o)).1
 | [],X,A,o,P,h=>by rw[List.flatten_nil,List.append_nil];exact h
 | s::r,X,A,o,P,h=>by
  rw[List.flatten_cons,<-List.append_assoc]
  exact NK c r (C6 s X) (EJ (BK c s X A)) (o++(BK c s X A).out) (P++s) h.feed
theorem Os (c:SC):∀(ps:List B8) (X:RX) (A:RA) (o:List Ev),(Bz c ps (X,A,o)).1.lb=X.lb
 | [],X,A,o=>rfl
 | s::r,X,A,o=>(Os c r (C6 s X) (EJ (BK c s X A)) (o++(BK c s X A).out)).trans (Mn s false (Bp X))
theorem add_fin {c:SC} {n:Int} {p:List Ev} {A:RA}:Nb c n (AP p A)=AP p (Nb c n A):=by
 unfold Nb
 show(if A.err=0 then _ else _)=_
 rw[O3]
 split<;>rfl
theorem Rg (c:SC) (l2 l3 l4:Int) (ps:List B8):
  AP (Eo c l2 l3 l4 ps).2.2 (DM c (Eo c l2 l3 l4 ps).1 (Eo c l2 l3 l4 ps).2.1)=AP [Ev.ls] (A3 c ps.flatten 0 RA.start):=by
 rw[Ri]
 have h1:Pi=AP [Ev.ls] RA.start:=rfl
 rw[h1,Ka,add_fin]
 rfl
theorem Rh {c:SC} {l2 l3 l4:Int} {ps:List B8} (hwin:1<=c.win) (hac:c.a≠10/\c.a≠13) {p:RX×RA×List Ev} (hp:p=Eo c l2 l3 l4 ps):
  Ma (GZ c p.1 p.2.1) p.2.2=evR c l2 ps.flatten:=by
 subst hp
 have ht:TxP ps.flatten (Eo c l2 l3 l4 ps).1:=by
  have:=NK c ps (Ic l2 l3 l4) RA.start [] [] (TxP.start l2 l3 l4)
  rw[List.nil_append]at this
  exact this
 have hlb:(Eo c l2 l3 l4 ps).1.lb=l2:=Os c ps (Ic l2 l3 l4) RA.start []
 have hf:=Rg c l2 l3 l4 ps
 generalize Eo c l2 l3 l4 ps=p at*
 obtain⟨X,A,o⟩:=p
 simp only at*
 unfold GZ evR
 rw[ht.size,hlb]
 have hd:=ht.done
 by_cases g1:l2<ps.flatten.length
 ·rw[if_pos g1,if_pos g1]
  unfold Ma
  rw[if_pos (by show(10:Int)≠0;decide)]
 rw[if_neg g1,if_neg g1]
 by_cases g2:A8 ps.flatten=ps.flatten.length
 case neg=>
  rw[if_neg g2]at hd
  rw[if_pos (by omega),if_pos g2]
  unfold Ma
  rw[if_pos (by show(5:Int)≠0;decide)]
  show Except.error ((Fa X).text,(5:Int))=_
  rw[hd]
 rw[if_pos g2]at hd
 rw[if_neg (by omega),if_neg (fun h=>h g2)]
 generalize hF:A3 c ps.flatten 0 RA.start=F at hf
 have e1:(DM c X A).err=F.err:=show(AP o (DM c X A)).err=(AP [Ev.ls] F).err from by rw[hf]
 have e2:(DM c X A).off=F.off:=show(AP o (DM c X A)).off=(AP [Ev.ls] F).off from by rw[hf]
 have e3:o++(DM c X A).out=[Ev.ls]++F.out:=show(AP o (DM c X A)).out=(AP [Ev.ls] F).out from by rw[hf]
 have hE:Ma (DM c X A) o=match obs F with | .error x=> .error x | .ok y=> .ok ([Ev.ls]++(y.1++[Ev.le])):=by
  unfold Ma obs
  rw[e1,e2,<-List.append_assoc,e3,List.append_assoc]
  by_cases h0:F.err=0
  ·rw[if_pos h0,if_neg (fun h=>h h0)]
  ·rw[if_neg h0,if_pos h0]
 rw[hE,<-hF]
 obtain⟨d1,d2⟩:=doc_run (s:=ps.flatten) hwin hac (ps.flatten.length+1) [] 0 RA.start 1 [] 0 (Nat.zero_le _) (by omega) (InD.start c)
 cases hD:DN (cxA c ps.flatten) c.hd (ps.flatten.length+1) [] 0 1 [] 0 with
 | error x=>
  rw[(d1 x.1 x.2 hD).2]
 | ok rs=>
  rcases d2 rs hD with⟨h1,h2⟩ | ⟨m,h1,h2⟩
  ·rw[h2,h1]
  ·rw[h2,h1]
section
theorem Hx {α β:Type} {f g:α->List β}:∀{l:List α},(∀x,x∈l->f x=g x)->l.flatMap f=l.flatMap g
 | [],_=>rfl
 | x::r,h=>by rw[List.flatMap_cons,List.flatMap_cons,h x (.head _),Hx fun y hy=>h y (.tail _ hy)]
mutual
def evV:Vl->List Ev
 | .mk s l f=>if s.kind<6 then [.val s]else [if s.kind=6 then .ls else .ms]++(Hz l++(JW f++[if s.kind=6 then .le else .me]))
def Hz:List Vl->List Ev
 | []=>[]
 | v::r=>evV v++Hz r
def JW:List Fd->List Ev
 | []=>[]
 | .mk k v::r=>[.key k]++(evV v++JW r)
end
theorem KP {α:Type} (g:α->Vl):∀l:List α,Hz (l.map g)=l.flatMap fun x=>evV (g x)
 | []=>rfl
 | x::r=>by rw[List.map_cons,Hz,KP g r,List.flatMap_cons]
theorem OE {s:Sc} (h:s.kind<6):evV (Ch s)=[.val s]:=by
 unfold Ch evV
 rw[if_pos h]
theorem OD (l:List Vl):evV (CN l)=[.ls]++(Hz l++[.le]):=by
 unfold CN evV
 rw[if_neg (by show ¬(6:Int)<6;decide),if_pos (by rfl),if_pos (by rfl),JW,List.nil_append]
theorem evV_map (f:List Fd):evV (Pa f)=[.ms]++(JW f++[.me]):=by
 unfold Pa evV
 rw[if_neg (by show ¬(7:Int)<6;decide),if_neg (by show ¬(7:Int)=6;decide),if_neg (by show ¬(7:Int)=6;decide),Hz,List.nil_append]
theorem Ld (ty qd:Bool) (s:B8):(Dj ty qd s).kind<6:=by
 unfold Dj
 repeat' split
 all_goals first | decide | (show(4:Int)<6;decide) | (show(2:Int)<6;decide) | (show(3:Int)<6;decide)
theorem Nf (c:SC) (names:List B8):∀(ks:List Nd) (j:Nat),(c.hd=true->j+ks.length<=names.length)->
  evK c names j ks=(if j=0/\ks≠ []then [if c.hd then Ev.ms else .ls]else [])++(if c.hd=true then JW (Iu (names.drop j) (EY c.q c.ty (ks.map Cy)))else Hz ((EY c.q c.ty (ks.map Cy)).map Ch))
 | [],j,h=>by
  rw[evK,if_neg (fun h=>h.2 rfl)]
  have e0:EY c.q c.ty (([]:List Nd).map Cy)=[]:=rfl
  rw[e0]
  cases c.hd with
  | true=>rw[if_pos rfl];unfold Iu;rw[List.zipWith_nil_right];rfl
  | false=>rfl
 | k::ks,j,h=>by
  have ih:=Nf c names ks (j+1) (fun h2=>by have:=h h2;rw[List.length_cons]at this;omega)
  rw[if_neg (fun h=>by omega),List.nil_append]at ih
  rw[evK,ih]
  unfold evC
  have e1:(EY c.q c.ty ((k::ks).map Cy))=Dj c.ty (Ct c.q (Cy k)) (txt c.q (Cy k))::EY c.q c.ty (ks.map Cy):=rfl
  rw[e1,List.append_assoc]
  have e2:(if j=0/\(k::ks)≠ []then [if c.hd=true then Ev.ms else Ev.ls]else [])=(if j=0 then [if c.hd=true then Ev.ms else Ev.ls]else []):=by
   by_cases h0:j=0
   ·rw[if_pos h0,if_pos ⟨h0,by simp⟩]
   ·rw[if_neg h0,if_neg (fun h=>h0 h.1)]
  rw[e2]
  congr 1
  cases hh:c.hd with
  | false=>
   rw[if_neg (by decide),if_neg (by decide),if_neg (by decide),List.map_cons,Hz,OE (Ld ..)]
   rfl
  | true=>
   have hl:=h hh
   rw[List.length_cons]at hl
   have hj:j<names.length:=by omega
   rw[if_pos rfl,if_pos rfl,if_pos rfl,List.drop_eq_getElem_cons hj]
   unfold Iu
   rw[List.zipWith_cons_cons,JW,OE (Ld ..),List.getD_eq_getElem?_getD,List.getElem?_eq_getElem hj]
   simp
theorem QD {c:SC} {rs:List Nd} {W:Nat} (hW:1<=W) (hw:∀r,r∈rs->(A2 r).length=W):evV (CN (GY c.q c.hd c.ty (CT rs)))=[Ev.ls]++(evD c rs++[Ev.le]):=by
 rw[OD]
 congr 2
 unfold evD CT
 have hne:∀r,r∈rs->A2 r≠ []:=fun r hr h=>by
  have:=hw r hr
  rw[h,List.length_nil]at this
  omega
 cases hh:c.hd with
 | false=>
  rw[Hn,KP,List.flatMap_map,if_neg (by decide)]
  refine Hx fun r hr=>?_
  rw[Nf c _ _ 0 (fun h=>by rw[hh]at h;cases h),if_pos ⟨rfl,hne r hr⟩,hh,OD]
  simp
 | true=>
  cases rs with
  | nil=>rfl
  | cons r0 t=>
   rw[if_pos rfl]
   show Hz (((t.map fun r=>(A2 r).map Cy)).map fun r=>Q5 (((A2 r0).map Cy).map (txt c.q)) (EY c.q c.ty r))=_
   have hn:B3 c (r0::t)=((A2 r0).map Cy).map (txt c.q):=by
    unfold B3 CX
    rw[if_pos hh]
    simp
   rw[KP,List.flatMap_map,List.tail_cons,hn]
   refine Hx fun r hr=>?_
   have hlen:(((A2 r0).map Cy).map (txt c.q)).length=(A2 r).length:=by
    rw[List.length_map,List.length_map,hw r0 (.head _),hw r (.tail _ hr)]
   rw[Nf c _ _ 0 (fun _=>by omega),if_pos ⟨rfl,hne r (.tail _ hr)⟩,hh,List.drop_zero]
   unfold Q5
   rw[evV_map]
   simp[Iu]
end
def Ev.kind:Ev->Int | .ls=>2 | .le=>3 | .ms=>4 | .me=>5 | .key _=>6 | .val _=>1
def Ev.ky:Ev->B8 | .key k=>k | _=>[]
def Ev.sc:Ev->Sc | .val s=>s | _=>scZ
def EvR (st:St) (e:Ev) (cs:List TV):Prop:=∃ub ul uf,cs= .int .i64 e.kind:: .str e.ky::Jb e.sc ub ul uf/\VlR st (Ch e.sc) (Jb e.sc ub ul uf)
def EvsR (st:St):List Ev->List TV->Prop
 | [],xs=>xs=[]
 | e::r,xs=>∃a b,xs=a++b/\EvR st e a/\EvsR st r b
theorem GF (st:St) (e:Ev) (h:e.sc=scZ) (hk:∀s,e≠.val s):EvR st e (evT e):=by
 have hz:VlR st (Ch scZ) (Jb scZ .nilSlice .nilSlice .nilSlice):=RT st scZ rfl
 cases e<;>first | exact⟨_,_,_,rfl,hz⟩ | exact absurd rfl (hk _)
theorem evR_val (st:St) (s:Sc) (h:s.bytes=[]):EvR st (.val s) (evT (.val s)):=⟨_,_,_,rfl,RT st s h⟩
def NoB (l:List Ev):Prop:=∀s,Ev.val s∈l->s.bytes=[]
theorem L5 (st:St):∀{l:List Ev},NoB l->EvsR st l (CV l)
 | [],h=>rfl
 | e::r,h=>by
  refine⟨evT e,CV r,rfl,?_,L5 st fun s hs=>h s (.tail _ hs)⟩
  cases e with
  | val s=>exact evR_val st s (h s (.head _))
  | ls=>exact GF st _ rfl fun s h=>by cases h
  | le=>exact GF st _ rfl fun s h=>by cases h
  | ms=>exact GF st _ rfl fun s h=>by cases h
  | me=>exact GF st _ rfl fun s h=>by cases h
  | key k=>exact GF st _ rfl fun s h=>by cases h
section
mutual
def TrE:Vl->Prop
 | .mk s l f=>((s.kind<6/\l=[]/\f=[]/\s.bytes=[])∨(s.kind=6/\f=[])∨(s.kind=7/\l=[]))/\Lm l/\Ln f
def Lm:List Vl->Prop
 | []=>True
 | v::r=>TrE v/\Lm r
def Ln:List Fd->Prop
 | []=>True
 | .mk k v::r=>TrE v/\Ln r
end
mutual
theorem Nc:∀v:Vl,(evV v).length+1<=3*v.sz
 | .mk s l f=>by
  have h1:=OC l
  have h2:=OH f
  rw[szs]
  unfold evV
  split
  ·simp only[List.length_singleton];omega
  ·simp only[List.length_append,List.length_singleton];omega
theorem OC:∀l:List Vl,(Hz l).length<=3*Da l
 | []=>by simp[Hz,Da]
 | v::r=>by
  have h1:=Nc v
  have h2:=OC r
  simp only[Hz,Da,List.length_append];omega
theorem OH:∀l:List Fd,(JW l).length<=3*Fv l
 | []=>by simp[JW,Fv]
 | .mk k v::r=>by
  have h1:=Nc v
  have h2:=OH r
  simp only[JW,Fv,szd,List.length_append,List.length_singleton];omega
end
end
section
mutual
theorem KQ:∀v:Vl,TrE v->∀e,e∈evV v->e.sc.bytes=[]/\(Ch e.sc).sz<=v.sz
 | .mk s l f,hT,e,he=>by
  have hz:(Ch scZ).sz=1:=by rw[R0];rfl
  have hs:=szs s l f
  unfold TrE at hT
  obtain⟨h1,h2,h3⟩:=hT
  unfold evV at he
  split at he
  ·rename_i hk
   obtain⟨_,rfl,rfl,hb⟩:s.kind<6/\l=[]/\f=[]/\s.bytes=[]:=by
    rcases h1 with h | h | h
    ·exact h
    ·omega
    ·omega
   rw[List.mem_singleton]at he
   subst he
   exact⟨hb,Nat.le_refl _⟩
  ·have flat:∀d:Ev,d.sc=scZ->d.sc.bytes=[]/\(Ch d.sc).sz<=(Vl.mk s l f).sz:=fun d h=>by rw[h,hz];exact⟨rfl,by omega⟩
   have hb:∀(p:Prop) [Decidable p] (x y:Ev),x.sc=scZ->y.sc=scZ->(if p then x else y).sc=scZ:=fun p _ x y hx hy=>by split<;>assumption
   rcases List.mem_append.1 he with he | he
   ·rw[List.mem_singleton]at he
    subst he
    exact flat _ (hb _ _ _ rfl rfl)
   rcases List.mem_append.1 he with he | he
   ·obtain⟨a,b⟩:=L6 l h2 e he
    exact⟨a,by omega⟩
   rcases List.mem_append.1 he with he | he
   ·obtain⟨a,b⟩:=L7 f h3 e he
    exact⟨a,by omega⟩
   ·rw[List.mem_singleton]at he
    subst he
    exact flat _ (hb _ _ _ rfl rfl)
theorem L6:∀l:List Vl,Lm l->∀e,e∈Hz l->e.sc.bytes=[]/\(Ch e.sc).sz<=Da l
 | [],hT,e,he=>by unfold Hz at he;cases he
 | v::r,hT,e,he=>by
  unfold Lm at hT
  unfold Hz at he
  unfold Da
  rcases List.mem_append.1 he with he | he
  ·obtain⟨a,b⟩:=KQ v hT.1 e he
   exact⟨a,by omega⟩
  ·obtain⟨a,b⟩:=L6 r hT.2 e he
   exact⟨a,by omega⟩
theorem L7:∀l:List Fd,Ln l->∀e,e∈JW l->e.sc.bytes=[]/\(Ch e.sc).sz<=Fv l
 | [],hT,e,he=>by unfold JW at he;cases he
 | .mk k v::r,hT,e,he=>by
  have hz:(Ch scZ).sz=1:=by rw[R0];rfl
  unfold Ln at hT
  unfold JW at he
  unfold Fv
  rw[szd]
  have hp:=v.sz_pos
  rcases List.mem_append.1 he with he | he
  ·rw[List.mem_singleton]at he
   subst he
   show scZ.bytes=[]/\(Ch scZ).sz<=_
   rw[hz]
   exact⟨rfl,by omega⟩
  rcases List.mem_append.1 he with he | he
  ·obtain⟨a,b⟩:=KQ v hT.1 e he
   exact⟨a,by omega⟩
  ·obtain⟨a,b⟩:=L7 r hT.2 e he
   exact⟨a,by omega⟩
end
theorem NN {s:Sc} (h:s.kind<6) (hb:s.bytes=[]):TrE (Ch s):=by
 unfold Ch TrE
 exact⟨.inl ⟨h,rfl,rfl,hb⟩,by unfold Lm;trivial,by unfold Ln;trivial⟩
theorem NM {l:List Vl} (h:Lm l):TrE (CN l):=by
 unfold CN TrE
 exact⟨.inr (.inl ⟨rfl,rfl⟩),h,by unfold Ln;trivial⟩
theorem trE_map {f:List Fd} (h:Ln f):TrE (Pa f):=by
 unfold Pa TrE
 exact⟨.inr (.inr ⟨rfl,rfl⟩),by unfold Lm;trivial,h⟩
theorem HT {α:Type} {g:α->Vl}:∀{l:List α},(∀x,x∈l->TrE (g x))->Lm (l.map g)
 | [],_=>by unfold List.map Lm;trivial
 | x::r,h=>by
  rw[List.map_cons]
  unfold Lm
  exact⟨h x (.head _),HT fun y hy=>h y (.tail _ hy)⟩
theorem NL:∀(n:List B8) (r:List Sc),(∀s,s∈r->s.kind<6/\s.bytes=[])->Ln (Iu n r)
 | [],r,h=>by unfold Iu;rw[List.zipWith_nil_left];unfold Ln;trivial
 | k::n,[],h=>by unfold Iu;rw[List.zipWith_nil_right];unfold Ln;trivial
 | k::n,s::r,h=>by
  unfold Iu
  rw[List.zipWith_cons_cons]
  unfold Ln
  obtain⟨a,b⟩:=h s (.head _)
  exact⟨NN a b,NL n r fun t ht=>h t (.tail _ ht)⟩
theorem II (q:Int) (ty:Bool) (r:List B8):∀s,s∈EY q ty r->s.kind<6/\s.bytes=[]:=fun s hs=>by
 unfold EY at hs
 obtain⟨c,_,rfl⟩:=List.mem_map.1 hs
 exact⟨Ld ..,JG ..⟩
theorem trE_val (q:Int) (hd ty:Bool) (L:List (List B8)):TrE (CN (GY q hd ty L)):=by
 refine NM ?_
 cases hd with
 | false=>
  rw[Hn]
  exact HT fun r _=>NM (HT fun s hs=>NN (II _ _ _ s hs).1 (II _ _ _ s hs).2)
 | true=>
  cases L with
  | nil=>unfold GY Lm;trivial
  | cons h t=>exact HT fun r _=>trE_map (NL _ _ (II _ _ _))
section
variable {a q:Int} {hd ty:Bool} {l0 l1 l2 l3 l4 size:Int} {s:B8}
theorem Rv (hok:Gx a q l0 l1 l2 l3 l4 size) (hs:s.length<=70000):evR (Ep a q hd ty l0 l1 size) l2 s=
  if l2<s.length then .error (0,10)else if A8 s≠s.length then .error ((A8 s:Int),5)else match EZ ⟨s,a,q,l0,l1⟩ hd l2 l3 l4 with
   | .error p=> .error (Hi p (CU (Ep a q hd ty l0 l1 size) s 0))
   | .ok n=>match CU (Ep a q hd ty l0 l1 size) s 0 with | some m=> .error ((m:Int),28) | none=> .ok (evV (CN (GY q hd ty (CT (recsOf n))))):=by
 obtain⟨h1,h2,h3⟩:=hok
 unfold evR
 by_cases g1:l2<s.length
 ·rw[if_pos g1,if_pos g1]
 rw[if_neg g1,if_neg g1]
 by_cases g2:A8 s≠s.length
 ·rw[if_pos g2,if_pos g2]
 rw[if_neg g2,if_neg g2]
 have hP:EZ ⟨s,a,q,l0,l1⟩ hd l2 l3 l4=match DN ⟨s,a,q,l0,l1⟩ hd (s.length+1) [] 0 1 [] 0 with | .error e=> .error e | .ok rs=> .ok (.mk 1 [] [] rs []):=by
  unfold EZ
  rw[if_neg (by rw[h2];decide),if_neg (by rw[h3];decide),if_neg g1,if_neg g2]
  rfl
 have hc:DN (cxA (Ep a q hd ty l0 l1 size) s) (Ep a q hd ty l0 l1 size).hd (s.length+1) [] 0 1 [] 0=DN ⟨s,a,q,l0,l1⟩ hd (s.length+1) [] 0 1 [] 0:=rfl
 rw[hc]
 cases hD:DN ⟨s,a,q,l0,l1⟩ hd (s.length+1) [] 0 1 [] 0 with
 | error p=>rw[hD]at hP;rw[hP]
 | ok rs=>
  rw[hD]at hP
  rw[hP]
  have hU:=Jp hP
  obtain⟨htx,_,hou⟩:=On hs hU
  obtain⟨rs',W,he,hT⟩:=Rj hou
  have he:Nd.mk 1 [] [] rs []= .mk 1 [] [] rs' []:=he
  cases he
  have hE:evV (CN (GY q hd ty (CT rs)))=[Ev.ls]++(evD (Ep a q hd ty l0 l1 size) rs++[Ev.le]):=by
   cases rs with
   | nil=>exact QD (c:=Ep a q hd ty l0 l1 size) (rs:=[]) (W:=1) (Nat.le_refl _) fun r hr=>by cases hr
   | cons r t=>
    have hW:1<=W:=by
     have h4:=hT.wid r (.head _)
     obtain⟨ents,tail,hrE,hne,hents⟩:=hT.form r (.head _)
     have hke:A2 r=ents:=by rw[hrE];rfl
     rw[<-h4,hke];exact hne
    exact QD (c:=Ep a q hd ty l0 l1 size) hW fun r' hr=>hT.wid r' hr
  show(match CU (Ep a q hd ty l0 l1 size) s 0 with | some m=>_ | none=>_)=match CU (Ep a q hd ty l0 l1 size) s 0 with | some m=>_ | none=>Except.ok (evV (CN (GY q hd ty (CT rs))))
  rw[hE]
theorem SP (hok:Gx a q l0 l1 l2 l3 l4 size) (hs:s.length<=1500) {es:List Ev} (h:evR (Ep a q hd ty l0 l1 size) l2 s= .ok es):es.length<=6000000/\(∀e,e∈es->(Ch e.sc).sz<=2000000)/\NoB es/\
  ∃rs,EZ ⟨s,a,q,l0,l1⟩ hd l2 l3 l4= .ok (.mk 1 [] [] rs [])/\es=evV (CN (GY q hd ty (CT rs)))/\(CN (GY q hd ty (CT rs))).sz<=1600000:=by
 rw[Rv (l3:=l3) (l4:=l4) hok (by omega)]at h
 split at h
 ·cases h
 split at h
 ·cases h
 split at h
 ·cases h
 ·rename_i n hP
  split at h
  ·cases h
  ·cases h
   obtain⟨rs,rfl,_⟩:=Do hP
   have hz:(CN (GY q hd ty (CT rs))).sz<=1600000:=read_sz (ty:=ty) (Jp hP) hs
   have hl:=Nc (CN (GY q hd ty (CT rs)))
   have hf:=KQ _ (trE_val q hd ty (CT rs))
   refine⟨by show(evV (CN (GY q hd ty (CT rs)))).length<=_;omega,fun e he=>?_,fun s' hs'=>(hf _ hs').1,rs,hP,rfl,hz⟩
   have:=(hf e he).2
   omega
end
section
variable {a q:Int} {hd ty:Bool} {l0 l1 l2 l3 l4 size:Int} {st:St}
theorem dOk_13 {a q:Int} (h:dOk a q=true):a≠13:=fun e=>by
 subst e
 unfold dOk at h
 simp at h
theorem S0 {ps:List B8} {parts:TV} (hp:Rd 1 parts ps.length (ps.map TV.str)) (hsz:ps.length<=60/\ps.flatten.length<=1500) {K:TV->Int->Int->St->Prop}
  (hk0:¬Gx a q l0 l1 l2 l3 l4 size->∀st',K .nilSlice 0 1 st')
  (hk1:Gx a q l0 l1 l2 l3 l4 size->∀o e st',e≠0->evR (Ep a q hd ty l0 l1 size) l2 ps.flatten= .error (o,e)->K .nilSlice o e st')
  (hk2:Gx a q l0 l1 l2 l3 l4 size->∀es u xs st',evR (Ep a q hd ty l0 l1 size) l2 ps.flatten= .ok es->Rd 15 u es.length xs->EvsR St.zero es xs->K u 0 0 st'):
  Ae PR Bf [parts,.agg [.int .u8 a,.int .u8 q,.bool hd,.bool ty],.agg [.int .i64 l0,.int .i64 l1,.int .i64 l2,.int .i64 l3,.int .i64 l4],.int .i64 size] [.one .tv,.one (.int .i64),.one (.int .i64)] st K:=by
 refine PZ hp (by omega) (fun g st' _=>hk0 g st') fun g p E hpp hE v st' _ _ hv=>?_
 have hwin:1<=(Ep a q hd ty l0 l1 size).win:=by show 1<=size.toNat;have:=g.1;omega
 have hdl:=dlOk g.2.1
 have hR:=Rh (l2:=l2) (l3:=l3) (l4:=l4) (ps:=ps) hwin (show a≠10/\a≠13 from⟨hdl.a10,dOk_13 g.2.1⟩) hpp
 rw[<-hE]at hR
 unfold Ma at hR
 by_cases h0:E.err≠0
 ·rw[if_pos h0]at hR hv
  rw[if_pos h0,hv]
  exact hk1 g _ _ st' h0 hR.symm
 ·rw[if_neg h0]at hR hv
  have e0:E.err=0:=Decidable.not_not.1 h0
  obtain⟨f1,f2,f3,_⟩:=SP (l3:=l3) (l4:=l4) g hsz.2 hR.symm
  rw[if_neg h0,e0]
  exact hk2 g _ v _ st' hR.symm hv (L5 _ f3)
end
end
theorem Ff (s:B8) (st:St) (K:TV->Int->St->Prop) (h:K (.nilSlice) ((29:Int)) st):Ae PR Az [.nilPtr,(.str s)] [.one (.tv),.one (.int .i64)] st K:=
 Am (cfg:=⟨[],[],[]⟩) (h:= .none) mixed (fun _ _=>Tryz.call24 _ _) Tryz.func24 (by kernel_rfl) (by kernel_rfl) h
theorem Fy (st:St) (K:TV->Int->St->Prop) (h:K (.nilSlice) ((29:Int)) st):Ae PR AT [.nilPtr] [.one (.tv),.one (.int .i64)] st K:=
 Am (cfg:=⟨[],[],[]⟩) (h:= .none) mixed (fun _ _=>Tryz.call31 _ _) Tryz.func31 (by kernel_rfl) (by kernel_rfl) h
theorem Fe (st:St) (K:Int->St->Prop) (h:K ((0:Int)) st):Ae PR Cj [.nilPtr] [.one (.int .i64)] st K:=
 Am (cfg:=⟨[],[],[]⟩) (h:= .none) mixed (fun _ _=>Tryz.call26 _ _) Tryz.func26 (by kernel_rfl) (by kernel_rfl) h
theorem D4 (st:St) (K:TV->St->Prop) (h:K (.nilSlice) st):Ae PR AS [.nilPtr] [.one (.tv)] st K:=
 Am (cfg:=⟨[],[],[]⟩) (h:= .none) mixed (fun _ _=>Tryz.call29 _ _) Tryz.func29 (by kernel_rfl) (by kernel_rfl) h
theorem Ew (st:St) (K:Int->St->Prop) (h:K ((0:Int)) st):Ae PR BY [.nilPtr] [.one (.int .i64)] st K:=
 Am (cfg:=⟨[],[],[]⟩) (h:= .none) mixed (fun _ _=>Tryz.call25 _ _) Tryz.func25 (by kernel_rfl) (by kernel_rfl) h
section
def wC:SC:=Ep 44 34 true true 48 65536 10
def wX0:RX:=Ic 1048576 1024 65536
def wX1:RX:=C6 Kk wX0
def wA1:RA:=BK wC Kk wX0 RA.start
def wX2:RX:=C6 MH wX1
def wA2:RA:=BK wC MH wX1 (EJ wA1)
def wX3:RX:=C6 Ph wX2
def wA3:RA:=BK wC Ph wX2 (EJ wA2)
def wE:RA:=GZ wC wX3 (EJ wA3)
theorem w1:wA1.out.length=1:=by kernel_rfl
theorem w1t:(EJ wA1).told=true:=by kernel_rfl
theorem w1n:(EJ wA1).names=[[97],[98]]:=by kernel_rfl
theorem w2:wA2.out.length=3:=by kernel_rfl
theorem w3:wA3.out.length=0:=by kernel_rfl
theorem wEe:wE.err=0:=by kernel_rfl
theorem wEl:(wE.out++[Ev.le]).length=4:=by kernel_rfl
theorem wP:evR (Ep 44 34 true true 48 65536 3) 1048576 [str5,str6].flatten= .error (2,28):=by kernel_rfl
theorem wQ:evR (Ep 44 34 true true 48 65536 3) 1048576 [str7].flatten= .error (1,3):=by kernel_rfl
theorem wOk:Gx 44 34 48 65536 1048576 1024 65536 10:=⟨by decide,by decide,by decide⟩
theorem wOk3:Gx 44 34 48 65536 1048576 1024 65536 3:=⟨by decide,by decide,by decide⟩
theorem OT {st:St} {K:Bool->St->Prop} (hk:∀st',K true st'):Ae PR B6 [] [.one .bool] st K:=by
 refine Gg st K (Ge st _ (Gf st _ (QO (fun g=>absurd wOk g) fun _ st3 e3 hR=>Ad (fun h=>absurd rfl h) fun _=>?_)))
 have hR:RB wC wX0 RA.start (st.nb+2) st.nb (st.nb+1) [] st3:=hR
 have f0:FI wC [] 1 wX0 RA.start:=FI.start wC 1048576 1024 65536
 have hwin:wC.win<=100000000:=by decide
 have f1:FI wC ([]++Kk) (1+1+3*Kk.length) wX1 (EJ wA1):=f0.feed
 have f2:FI wC ([]++Kk++MH) (1+1+3*Kk.length+1+3*MH.length) wX2 (EJ wA2):=f1.feed
 have f3:FI wC ([]++Kk++MH++Ph) (1+1+3*Kk.length+1+3*MH.length+1+3*Ph.length) wX3 (EJ wA3):=f2.feed
 have room:∀{P:B8} {k:Nat} {X:RX} {A:RA},FI wC P k X A->P.length<=100->X.cut.length<=100/\((X.cut.length:Int)<=X.size/\X.size<=100000000):=fun f h=>by
  have:=f.cut
  have:=f.tx.size
  exact⟨by omega,by omega,by omega⟩
 have r0:=room f0 (by decide)
 have r1:=room f1 (by decide)
 have r2:=room f2 (by decide)
 have r3:=room f3 (by decide)
 refine Il hR f0.sz hwin f0.w (s:=Kk) (by decide) (by have:Kk.length=4:=rfl;omega) r0.2 (fun g=>by rw[f0.ended]at g;cases g) fun _ v2 st4 I4 J4 h4 _ o4 _=>?_
 have h4:RB wC wX1 (EJ wA1) (st.nb+2) st.nb (st.nb+1) I4 st4:=h4
 have o4:Cr 15 st4 v2 wA1.out.length (CV wA1.out) J4:=o4
 refine OU h4 (by rw[w1n];decide) (fun g=>g.elim (fun g=>by rw[w1t]at g;cases g) fun g=>by cases g) fun _ _ v3 st5 hv3 h5 _=>?_
 rw[w1n]at hv3
 refine Il h5 f1.sz hwin f1.w (s:=MH) (by decide) (by have:MH.length=2:=rfl;omega) r1.2 (fun g=>by rw[f1.ended]at g;cases g) fun _ v4 st6 I6 J6 h6 _ o6 _=>?_
 have h6:RB wC wX2 (EJ wA2) (st.nb+2) st.nb (st.nb+1) I6 st6:=h6
 have o6:Cr 15 st6 v4 wA2.out.length (CV wA2.out) J6:=o6
 refine Il h6 f2.sz hwin f2.w (s:=Ph) (by decide) (by have:Ph.length=1:=rfl;omega) r2.2 (fun g=>by rw[f2.ended]at g;cases g) fun _ v5 st7 I7 J7 h7 _ o7 _=>?_
 have h7:RB wC wX3 (EJ wA3) (st.nb+2) st.nb (st.nb+1) I7 st7:=h7
 have o7:Cr 15 st7 v5 wA3.out.length (CV wA3.out) J7:=o7
 refine QP h7 f3.sz hwin f3.w (by decide) (by omega) r3.2 (fun g=>by rw[f3.ended]at g;cases g) fun _ v6 st8 I8 h8 _ _ _ hv6=>?_
 have hv6:(if wE.err≠0 then v6= .nilSlice else Rd 15 v6 (wE.out++[Ev.le]).length (CV (wE.out++[Ev.le]))):=hv6
 rw[if_neg (by rw[wEe];decide)]at hv6
 rw[show(GZ wC wX3 (EJ wA3)).err=0 from wEe]
 refine S0 (ps:=[str5,str6]) (.inr ⟨.full,rfl⟩) ⟨by decide,by decide⟩ (fun g=>absurd wOk3 g) (fun _ o e st9 _ hE=>?_) fun _ es u xs st9 hE _ _=>by rw[wP]at hE;cases hE
 rw[wP]at hE
 cases hE
 refine S0 (ps:=[str7]) (.inr ⟨.full,rfl⟩) ⟨by decide,by decide⟩ (fun g=>absurd wOk3 g) (fun _ o e st10 _ hE=>?_) fun _ es u xs st9 hE _ _=>by rw[wQ]at hE;cases hE
 rw[wQ]at hE
 cases hE
 have ok:∀{n m:Int} {p q:Prop},n=m->q->BIf (decide (n≠m)) p q:=fun h hq=>Ad (fun g=>absurd h g) fun _=>hq
 have yes:∀{n m:Int} {p q:Prop},n=m->p->BIf (decide (n=m)) p q:=fun h hp=>Ad (fun _=>hp) fun g=>absurd h g
 refine ok rfl (ok rfl (ok rfl (ok rfl (Ac o4.rd.isSl (ok (by rw[o4.rd.lenS,w1];rfl) (Ac o6.rd.isSl (ok (by rw[o6.rd.lenS,w2];rfl) (Ac o7.rd.isSl (ok (by rw[o7.rd.lenS,w3];rfl) (Ac hv6.isSl (ok (by rw[hv6.lenS,wEl];rfl) (Ac hv3.isSl (ok (by rw[hv3.lenS];rfl)
  ⟨⟨by decide,by rw[hv3.lenZ];decide⟩,Ag (hv3.ldx _ 1 0 rfl) (AG (Ad (fun g=>absurd (show([98]:B8)=str8 from rfl) g) fun _=>yes rfl (yes rfl (yes rfl (hk _)))))⟩)))))))))))))
theorem Rp {s:B8} {st:St} {K:Bool->St->Prop} (hk:∀st',K true st'):Ae PR Bd [.str s] [.one .bool] st K:=by
 have yes:∀{n m:Int} {p q:Prop},n=m->p->BIf (decide (n=m)) p q:=fun h hp=>Ad (fun _=>hp) fun g=>absurd h g
 exact Db s st K (Ff s st _ (Fy st _ (Ac rfl (yes rfl (yes rfl (Ac rfl (yes rfl (yes rfl (Fe st _ (yes rfl (D4 st _ (Ac rfl (yes rfl (Ew st _ (yes rfl (OT hk))))))))))))))))
section
variable {a q:Int} {hd ty:Bool} {l0 l1 l2 l3 l4 size:Int} {st:St}
end
end
section
theorem one_str {ck:List TV} (h:flatIs [.str] ck):∃s,ck=[.str s]:=by
 obtain⟨s,ys,rfl,_,rfl⟩:=h
 exact⟨s,rfl⟩
theorem SlS.row {v:TV} (h:SlS 1 (flatIs [.str]) v):∃row:List B8,RowR TV.str v row:=by
 rcases h with rfl | ⟨cks,rfl,h⟩
 ·exact⟨[],.inl ⟨rfl,rfl,rfl⟩⟩
 ·have:∃row:List B8,row.length=cks.length/\cks.flatten=row.map TV.str:=by
   induction cks with
   | nil=>exact⟨[],rfl,rfl⟩
   | cons c r ih=>
    obtain⟨row,h1,h2⟩:=ih (fun ck hk=>h ck (.tail _ hk))
    obtain⟨s,rfl⟩:=one_str (h c (.head _)).2
    exact⟨s::row,by simp[h1],by simp[h2]⟩
  obtain⟨row,h1,h2⟩:=this
  exact⟨row,.inr ⟨.non,by rw[h1,h2]⟩⟩
section
variable {H:Type} {enc:TypeId×Value->H} {P:Program} {w:World} {base b0:Nat} {held:Bool}
end
end
end Go.TVF
section
namespace Go.TVF
open Go.IntKind(i64 u8)
open Go Go.Proofs Go.ChangeShapes
def IsStrsB (v:TV):Prop:=∃ps:List B8,Rd 1 v ps.length (ps.map TV.str)/\∀s,s∈ps->s.length<=140737488351232
def IsBnd (v:TV):Prop:=∃l0 l1 l2 l3 l4 n:Int,v= .agg [.int .i64 l0,.int .i64 l1,.int .i64 l2,.int .i64 l3,.int .i64 l4,.int .i64 n]
theorem H6 {g:Ghost} {w:World} {sz:Nat} {tip:Tip} {n:Nat} {xs:List TV} {v:Value} (h:Rel g w (.list sz tip n xs) v):(n=0/\xs=[])∨∃(b o cap:Nat) (us:Nat->Value),v= .slice (some ⟨b,o,none⟩) n cap/\xs.length=n*sz/\n<=cap/\(∀i,i<xs.length->g.S ⟨b,o+i,none⟩/\w.cell? ⟨b,o+i,none⟩=some (us i))/\∀i (h:i<xs.length),Rel g w xs[i] (us i):=by
 cases h with
 | listE=>exact .inl ⟨rfl,rfl⟩
 | list _ _ _ _ b o cap us hl hn hc hr ht=>exact .inr ⟨b,o,cap,us,rfl,hl,hn,hc,hr⟩
theorem relStr {g:Ghost} {w:World} {l:B8} {v:Value} (h:Rel g w (.str l) v):v= .string ⟨l.toArray⟩:=by cases h;rfl
section
variable {H:Type} {enc:TypeId×Value->H} {P:Program} {w:World} {base b0:Nat} {held:Bool}
theorem Gz {e:TypeId}:∀{l:List (DataW H)} {i:Nat} {b:B8},l[i]? =some (.lit (.string b))->b.length∈DataW.weightsAll P e l
 | [],i,b,h=>by simp at h
 | d::r,0,b,h=>by
  simp only[List.getElem?_cons_zero,Option.some.injEq]at h
  subst h
  simp[DataW.weightsAll,DataW.weights]
 | d::r,i+1,b,h=>by
  rw[DataW.weightsAll,List.mem_append]
  exact .inr (Gz (i:=i) (by simpa using h))
theorem Pg {t e:TypeId} (ht:P.underlying t=some (.slice e)) (he:P.underlying e=some .string) (hc:P.cellsOf e=1) {v:Value} {u:TV} {ps:List B8} (hr:Rel (Ghost.start w) w u v) (hp:Rd 1 u ps.length (ps.map TV.str)) {n:Nat} {x:DataW H×List MemPlace}
  (hd:DataW.trod enc P w base (fun _=>true) held n t [v]=some x) (hw:∀k,k∈x.1.weights P t->k<=reachBytes):∀s,s∈ps->s.length<=140737488351232:=by
 intro s hs
 obtain⟨i,hi,hsi⟩:=List.getElem_of_mem hs
 rcases hp with⟨_,h0,_⟩ | ⟨tip,rfl⟩
 ·omega
 rcases DataW.trod_slice ht hd with⟨h1,_⟩ | ⟨a,len,cap,elems,rest,m,_,h1,rfl,_,hlc,_,hel,hix,_,_⟩
 ·simp only[List.cons.injEq,and_true]at h1
  rw[h1]at hr
  rcases H6 hr with⟨h0,_⟩ | ⟨b,o,cap',us,h2,_⟩
  ·omega
  ·cases h2
 ·simp only[List.cons.injEq,and_true]at h1
  rw[h1]at hr
  rcases H6 hr with⟨h0,_⟩ | ⟨b,o,cap',us,h2,hl,hn,hcl,hrl⟩
  ·omega
  ·obtain⟨rfl,rfl,rfl⟩:a=⟨b,o,none⟩/\len=ps.length/\cap=cap':=by
    simp only[Value.slice.injEq,Option.some.injEq]at h2
    exact h2
   have hxi:(ps.map TV.str)[i]? =some (.str s):=by rw[List.getElem?_map,List.getElem?_eq_getElem hi,hsi];rfl
   obtain⟨hlt,hxe⟩:=List.getElem?_eq_some_iff.1 hxi
   have hR:=hrl i hlt
   rw[hxe]at hR
   have hus:=relStr hR
   have hcell:=(hcl i hlt).2
   have hb:=hix i (by omega)
   rw[hc,Nat.mul_one,List.getElem?_eq_getElem (by omega)]at hb
   obtain⟨vs,hb1,hb2⟩:=Option.bind_eq_some_iff.1 hb
   obtain⟨_,hvl,hvc⟩:=World.cells?_some hb1
   have h0:=hvc 0 (by omega)
   obtain⟨s',rfl,hx,_⟩:=DataW.trod_string he hb2
   have e1:((⟨b,o,none⟩:Addr).add i).add 0=⟨b,o+i,none⟩:=by rw[F0,F0,Nat.add_zero]
   rw[e1,hcell,hus]at h0
   simp only[List.getElem?_cons_zero,Option.some.injEq,Value.string.injEq]at h0
   subst h0
   have hm:s.length∈DataW.weightsAll P e (elems.map (·.1)):=by
    refine Gz (i:=i) ?_
    rw[List.getElem?_map,List.getElem?_eq_getElem (by omega),hx]
    simp
   exact hw _ (by simp only[DataW.weights,ht];exact .tail _ (List.mem_append_left _ hm))
theorem open_strs {t e:TypeId} (ht:P.underlying t=some (.slice e)) (he:P.underlying e=some .string) (hc:P.cellsOf e=1) (ht1:P.cellsOf t=1) {v:Value} {d:DataW H} {p:List MemPlace}
  (hval:Value.okWide P w .any b0 t v) (h:DataW.Trod enc P w base (fun _=>true) held t v d p) (hw:∀k,k∈d.weights P t->k<=reachBytes):∃tv,Rel (Ghost.start w) w tv v/\IsStrsB tv:=by
 obtain⟨n,hn⟩:=h
 have hv:v.cells.toList=[v]:=by
  simp only[Value.okWide,ht,Cell.okWide,Cell.ok]at hval
  split at hval<;>first | rfl | (simp_all) | exact hval.elim
 rw[hv]at hn
 have hop:Op enc P w base held n 1 (fun tv=>∃v,tv=[v]/\SlS 1 (flatIs [.str]) v) t:=Sj (c:=1) ht ht1 (Nat.le_refl _) fun m hm=>op_cell (c:= .str) he hc
 obtain⟨cs,hr,_,u,rfl,hs⟩:=hop.2 _ _ hn
 obtain⟨row,hrow⟩:=hs.row
 have hr0:Rel (Ghost.start w) w u v:=hr.2 0 (by simp)
 exact⟨u,hr0,row,hrow,Pg ht he hc hr0 hrow hn hw⟩
def bndQ:List (Nat×(Nat->List TV->Prop)):=[(5,fun k tv=>∃k',k'+1<=k/\EachQ [(1,cellQ (.int .i64)),(1,cellQ (.int .i64)),(1,cellQ (.int .i64)),(1,cellQ (.int .i64)),(1,cellQ (.int .i64))] k' tv),(1,cellQ (.int .i64))]
theorem Eb {k:Nat} {tv:List TV} (h:cellQ (.int .i64) k tv):∃n:Int,tv=[.int .i64 n]:=by
 obtain⟨⟨n,ys,rfl,_,rfl⟩,_⟩:=h
 exact⟨n,rfl⟩
theorem bnd_of {k:Nat} {tv:List TV} (h:EachQ bndQ k tv):∃l0 l1 l2 l3 l4 n:Int,tv=[.int .i64 l0,.int .i64 l1,.int .i64 l2,.int .i64 l3,.int .i64 l4,.int .i64 n]:=by
 obtain⟨a,b,_,_,rfl,_,⟨_,_,h5⟩,h6,_⟩:=h
 obtain⟨c,r,_,_,rfl,_,h7,h8,_⟩:=h6
 have h8:r=[]:=h8
 subst h8
 obtain⟨a0,r0,_,_,rfl,_,g0,h5,_⟩:=h5
 obtain⟨a1,r1,_,_,rfl,_,g1,h5,_⟩:=h5
 obtain⟨a2,r2,_,_,rfl,_,g2,h5,_⟩:=h5
 obtain⟨a3,r3,_,_,rfl,_,g3,h5,_⟩:=h5
 obtain⟨a4,r4,_,_,rfl,_,g4,h5,_⟩:=h5
 have h5:r4=[]:=h5
 subst h5
 obtain⟨n0,rfl⟩:=Eb g0
 obtain⟨n1,rfl⟩:=Eb g1
 obtain⟨n2,rfl⟩:=Eb g2
 obtain⟨n3,rfl⟩:=Eb g3
 obtain⟨n4,rfl⟩:=Eb g4
 obtain⟨n5,rfl⟩:=Eb h7
 exact⟨n0,n1,n2,n3,n4,n5,rfl⟩
theorem open_bnd {bk:DataW H->Nat} {t:TypeId} {fs:Array Field} (ht:P.underlying t=some (.struct fs)) (hop:∀n,OpQ bk enc P w base held n 6 (fun k tv=>∃k',k'+1<=k/\EachQ bndQ k' tv) t) {v:Value} {d:DataW H} {p:List MemPlace}
  (hval:Value.okWide P w .any b0 t v) (h:DataW.Trod enc P w base (fun _=>true) held t v d p):∃tv,Rel (Ghost.start w) w tv v/\IsBnd tv:=by
 simp only[Value.okWide,ht]at hval
 obtain⟨vs,rfl,_,_⟩:=hval
 obtain⟨n,hn⟩:=h
 obtain⟨tv,hr,_,_,_,hb⟩:=(hop n).2 _ _ hn
 obtain⟨l0,l1,l2,l3,l4,m,rfl⟩:=bnd_of hb
 have:=Rel.agg _ vs.toList hr.1 hr.2
 rw[Array.toArray_toList]at this
 exact⟨_,this,l0,l1,l2,l3,l4,m,rfl⟩
end
theorem lnilsS_okF {s:B8} {K:Bool->St->Prop} (hk:∀st',K true st'):Ae PR Bd [.str s] [.one .bool] St.zero K:=Rp hk
end Go.TVF
end
